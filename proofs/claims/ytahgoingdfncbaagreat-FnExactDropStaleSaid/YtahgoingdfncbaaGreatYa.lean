/- What functions of the program compute, and that they do. -/
import Derived.Test.YtahgoingdfncbaaGreatXc
import Derived.Test.YtahgoingdfncbaaGreatProg
import Derived.Test.YtahgoingdfncbaaGreatShelf
namespace Go.Proofs.YtahgoingdfncbaaGreat.Vc
open Go Go.RowKit Go.Proofs.Tryz
set_option linter.unusedVariables false
set_option maxRecDepth 100000
set_option maxHeartbeats 4000000
abbrev Y7 : Ty := .pair (.int .i64) (.pair (.int .i64) (.pair .bool (.int .u8)))
abbrev Y13 : Ty := .pair .str (.int .u64)
abbrev Y24 : Ty := .pair (.int .i64) (.pair (.sl (.pair .str (.int .i64))) (.pair (.sl (.pair (.int .i64) (.pair (.sl (.pair (.int .i64) (.pair .str (.pair (.int .i64) (.pair (.int .i64) (.pair (.int .i64) (.pair .bool (.sl (.int .i64))))))))) (.pair (.sl (.pair (.int .i64) (.pair .str (.pair (.int .i64) (.pair (.int .i64) (.pair (.int .i64) (.pair .bool (.sl (.int .i64))))))))) (.pair (.int .i64) (.int .i64)))))) (.pair (.int .i64) (.pair (.int .i64) (.pair (.int .i64) (.pair (.int .i64) (.pair (.int .i64) (.int .i64))))))))
abbrev Z24 := (Int × ((List (ByteArray × Int)) × ((List (Int × ((List (Int × (ByteArray × (Int × (Int × (Int × (Bool × (List Int)))))))) × ((List (Int × (ByteArray × (Int × (Int × (Int × (Bool × (List Int)))))))) × (Int × Int))))) × (Int × (Int × (Int × (Int × (Int × Int))))))))
abbrev Y42 : Ty := .pair (.int .i64) (.pair (.sl (.pair (.int .i64) (.pair .str (.pair (.int .i64) (.pair (.int .i64) (.pair (.int .i64) (.pair .bool (.sl (.int .i64))))))))) (.pair (.sl (.pair (.int .i64) (.pair .str (.pair (.int .i64) (.pair (.int .i64) (.pair (.int .i64) (.pair .bool (.sl (.int .i64))))))))) (.pair (.int .i64) (.int .i64))))
abbrev Z42 := (Int × ((List (Int × (ByteArray × (Int × (Int × (Int × (Bool × (List Int)))))))) × ((List (Int × (ByteArray × (Int × (Int × (Int × (Bool × (List Int)))))))) × (Int × Int))))
abbrev Y53 : Ty := .pair .str (.int .i64)
abbrev Z53 := (ByteArray × Int)
abbrev Y87 : Ty := .pair (.int .i64) (.pair .str (.pair (.int .i64) (.pair (.int .i64) (.pair (.int .i64) (.pair .bool (.sl (.int .i64)))))))
abbrev Z87 := (Int × (ByteArray × (Int × (Int × (Int × (Bool × (List Int)))))))
abbrev D42 : (Y42).den := Ty.dflt Y42
abbrev D53 : (Y53).den := Ty.dflt Y53
abbrev D87 : (Y87).den := Ty.dflt Y87
def TL : List (Nat × TI) := [(2, { ty := (.int .i64) }),
  (3, { ty := (.int .i64) }),
  (4, { ty := .bool }),
  (5, { ty := (.int .u8) }),
  (6, { ty := (.int .u8) }),
  (7, { ty := Y7, offs := [0, 1, 2, 3], szs := [1, 1, 1, 1] }),
  (8, { ty := Y7, offs := [0, 1, 2, 3], szs := [1, 1, 1, 1] }),
  (9, { ty := .str }),
  (10, { ty := .str }),
  (11, { ty := .str }),
  (12, { ty := (.int .u64) }),
  (13, { ty := Y13, offs := [0, 1], szs := [1, 1] }),
  (14, { ty := Y13, offs := [0, 1], szs := [1, 1] }),
  (21, { ty := (.int .i32) }),
  (22, { ty := (.sl Y53), elem := 54 }),
  (23, { ty := (.sl Y42), elem := 58 }),
  (24, { ty := Y24, offs := [0, 1, 2, 3, 4, 5, 6, 7, 8], szs := [1, 1, 1, 1, 1, 1, 1, 1, 1] }),
  (25, { ty := Y24, offs := [0, 1, 2, 3, 4, 5, 6, 7, 8], szs := [1, 1, 1, 1, 1, 1, 1, 1, 1] }),
  (27, { ty := (.sl Y53), elem := 70 }),
  (28, { ty := (.sl Y42), elem := 43 }),
  (29, { ty := Y24, offs := [0, 1, 2, 3, 4, 5, 6, 7, 8], szs := [1, 1, 1, 1, 1, 1, 1, 1, 1] }),
  (30, { ty := Y24, offs := [0, 1, 2, 3, 4, 5, 6, 7, 8], szs := [1, 1, 1, 1, 1, 1, 1, 1, 1] }),
  (41, { ty := (.sl Y87), elem := 88 }),
  (42, { ty := Y42, offs := [0, 1, 2, 3, 4], szs := [1, 1, 1, 1, 1] }),
  (43, { ty := Y42, offs := [0, 1, 2, 3, 4], szs := [1, 1, 1, 1, 1] }),
  (53, { ty := Y53, offs := [0, 1], szs := [1, 1] }),
  (54, { ty := Y53, offs := [0, 1], szs := [1, 1] }),
  (56, { ty := (.sl Y87), elem := 99 }),
  (57, { ty := Y42, offs := [0, 1, 2, 3, 4], szs := [1, 1, 1, 1, 1] }),
  (58, { ty := Y42, offs := [0, 1, 2, 3, 4], szs := [1, 1, 1, 1, 1] }),
  (67, { ty := (.sl (.int .i64)), elem := 3 }),
  (70, { ty := Y53, offs := [0, 1], szs := [1, 1] }),
  (83, { ty := (.sl (.int .u8)), elem := 5 }),
  (87, { ty := Y87, offs := [0, 1, 2, 3, 4, 5, 6], szs := [1, 1, 1, 1, 1, 1, 1] }),
  (88, { ty := Y87, offs := [0, 1, 2, 3, 4, 5, 6], szs := [1, 1, 1, 1, 1, 1, 1] }),
  (99, { ty := Y87, offs := [0, 1, 2, 3, 4, 5, 6], szs := [1, 1, 1, 1, 1, 1, 1] }),
  (113, { ty := (.int .u64) }),
  (128, { ty := (.int .i64) }),
  (137, { ty := (.int .u32) }),
  (139, { ty := (.int .u64) }),
  (142, { ty := (.sl (.sl (.int .u8))), elem := 83 }),
  (145, { ty := (.int .u64) }),
  (160, { ty := (.int .u8) }),
  (161, { ty := (.int .u8) }),
  (164, { ty := (.int .i32) }),
  (165, { ty := (.int .i32) })]
abbrev T : Tab := lookT TL
theorem T_ok : TabOk Go.Proofs.Tryz.prog T := tabOk_of TL (by kernel_rfl)
theorem K : TabOk Go.Proofs.Tryz.prog T := T_ok
theorem T_rec : RecOk Go.Proofs.Tryz.prog T := recOk_of TL (by kernel_rfl)
def F27 (N : Nat) (a0 : Z53) (a1 : Int) : Option (Int) :=
  cond (decide ((IntKind.i64.wrap (a1 - (a0.1.size : Int))) < (0 : Int))) (some (-1 : Int)) (some (IntKind.i64.wrap (a1 - (a0.1.size : Int))))
theorem ok27 N a0 a1 {r} (h : F27 N a0 a1 = some r) : Con prog 27 [.agg (lv Y53 a0), I a1] [.lf (.v (.int .i64) r)] := by
 refine ctr [.lf (.v (.int .i64))] K func27 rfl fun w0 E0 ht => ?_
 unfold F27 at h
 show VW _ _ _ _ _ (retQ _ _ _ _) _
 refine nR K (tn 2) <| nR K (tn 6) <| sq <| nR K (tn 2) ?_
 refine cnd h ?_ ?_<;>intro h
 ·refine nR K (tn 1) ?_
  cases h; exact VW.ret (rt [])
 refine VW.skip <| nR K (tn 2) ?_
 cases h; exact VW.ret (rt [])
def F11_j0 (N : Nat) (x17 : Int) : Option (Int) :=
  some x17
def F11_l0_b (N : Nat) (a0 : (List Z53)) (nx30 : Int → Int → Option (Int)) (x24 : Int) (x25 : Int) : Option (Int) :=
  cond (decide (x25 < (a0.length : Int))) (gd (InR x25 a0.length) (andO (F27 N (a0.getD x25.toNat (Ty.dflt Y53)) x24) fun y34 => cond (decide (y34 < (0 : Int))) (some (-1 : Int)) (nx30 y34 (IntKind.i64.wrap (x25 + (1 : Int)))))) (F11_j0 N x24)
def F11_l0 (N : Nat) (a0 : (List Z53)) := loopF (F11_l0_b N a0) (fun _ _ => none)
theorem F11_l0_s N a0 {k} (hk : 0 < k) x24 x25 : F11_l0 N a0 k x24 x25 = F11_l0_b N a0 (F11_l0 N a0 (k - 1)) x24 x25 := by cases k;cases hk;rfl
def F11 (N : Nat) (a0 : (List Z53)) (a1 : Int) : Option (Int) :=
  cond (decide ((IntKind.i64.wrap (a1 - (a0.length : Int))) < (0 : Int))) (some (-1 : Int)) (F11_l0 N a0 N (IntKind.i64.wrap (a1 - (a0.length : Int))) (0 : Int))
theorem ok11 N a0 a1 {r} (h : F11 N a0 a1 = some r) : Con prog 11 [Vv (.sl Y53) a0, I a1] [.lf (.v (.int .i64) r)] := by
 refine ctr [.lf (.v (.int .i64))] K func11 rfl fun w0 E0 ht => ?_
 unfold F11 at h
 show VW _ _ _ _ _ (retQ _ _ _ _) _
 refine nR K (tn 1) <| nR K (tn 5) <| sq <| nR K (tn 2) ?_
 refine cnd h ?_ ?_<;>intro h
 ·refine nR K (tn 1) ?_
  cases h; exact VW.ret (rt [])
 refine VW.skip ?_
 refine VW.join (fun s => ∃ x17, s = ⟨[(1, I x17)], []⟩ ∧ F11_j0 N x17 = some r) ?_ ?_
 ·refine nR K (tn 1) <| VW.block <| lop (fun k s => ∃ x24 x25, s = ⟨[(0, Vv (.sl Y53) a0), (1, I x24), (5, I x25)], []⟩ ∧ F11_l0 N a0 k x24 x25 = some r) N [.ren [0, 1, 5] []] ⟨(wr (a1 - (a0.length : Int))), (0 : Int), rfl, h⟩ ?_
  rintro k30 s ⟨x24, x25, rfl, h⟩
  cases k30 with
  | zero => cases show none = some r from h
  | succ k30 =>
   replace h : F11_l0_b N a0 (F11_l0 N a0 k30) x24 x25 = some r := h
   unfold F11_l0_b at h
   refine sq <| nR K (tn 4) ?_
   refine cnd h ?_ ?_<;>intro h
   ·refine VW.skip <| sq <| VW.block <| sq <| VW.region ?_
    obtain⟨g33,h⟩:=gS h
    refine nG K 5 (pu 2 (an g33 (tn 2))) ?_
    obtain⟨y34,hy,h⟩:=aS h
    refine clc false [.t Y53, .t (.int .i64)] [] (some 23) K (ok27 N _ _ hy) <| nN K (tn 1) <| nR K (tn 2) ?_
    refine cnd h ?_ ?_<;>intro h
    ·refine nR K (tn 1) ?_
     cases h; exact VW.ret (rt [])
    refine VW.skip <| nE K (tn 3) ?_
    exact aro [.ren [0, 1, 5] []] ⟨y34, (wr (x25 + (1 : Int))), rfl, h⟩
   refine VW.exit ?_
   exact arv [.ren [1] []] ⟨x24, rfl, h⟩
 rintro s ⟨x17, rfl, h⟩
 unfold F11_j0 at h
 refine nR K (tn 2) ?_
 cases h; exact VW.ret (rt [])
def F106 (N : Nat) (a0 : (List Int)) (a1 : Int) : Option (Int) :=
  cond (decide ((IntKind.i64.wrap (a1 - (a0.length : Int))) < (0 : Int))) (some (-1 : Int)) (some (IntKind.i64.wrap (a1 - (a0.length : Int))))
theorem ok106 N a0 a1 {r} (h : F106 N a0 a1 = some r) : Con prog 106 [Vv (.sl (.int .i64)) a0, I a1] [.lf (.v (.int .i64) r)] := by
 refine ctr [.lf (.v (.int .i64))] K func106 rfl fun w0 E0 ht => ?_
 unfold F106 at h
 show VW _ _ _ _ _ (retQ _ _ _ _) _
 refine nR K (tn 1) <| nR K (tn 5) <| sq <| nR K (tn 2) ?_
 refine cnd h ?_ ?_<;>intro h
 ·refine nR K (tn 1) ?_
  cases h; exact VW.ret (rt [])
 refine VW.skip <| nR K (tn 2) ?_
 cases h; exact VW.ret (rt [])
def F83 (N : Nat) (a0 : Z87) (a1 : Int) : Option (Int) :=
  cond (decide ((IntKind.i64.wrap (a1 - (a0.2.1.size : Int))) < (0 : Int))) (some (-1 : Int)) (andO (F106 N a0.2.2.2.2.2.2 (IntKind.i64.wrap (a1 - (a0.2.1.size : Int)))) fun y1 => cond (decide (y1 < (0 : Int))) (some (-1 : Int)) (some y1))
theorem ok83 N a0 a1 {r} (h : F83 N a0 a1 = some r) : Con prog 83 [.agg (lv Y87 a0), I a1] [.lf (.v (.int .i64) r)] := by
 refine ctr [.lf (.v (.int .i64))] K func83 rfl fun w0 E0 ht => ?_
 unfold F83 at h
 show VW _ _ _ _ _ (retQ _ _ _ _) _
 refine nR K (tn 2) <| nR K (tn 6) <| sq <| nR K (tn 2) ?_
 refine cnd h ?_ ?_<;>intro h
 ·refine nR K (tn 1) ?_
  cases h; exact VW.ret (rt [])
 refine VW.skip <| sq <| VW.region <| nG K 3 (tn 3) ?_
 obtain⟨y1,hy,h⟩:=aS h
 refine clc false [.t (.sl (.int .i64)), .t (.int .i64)] [] (some 15) K (ok106 N _ _ hy) <| nN K (tn 1) <| sq <| nR K (tn 2) ?_
 refine cnd h ?_ ?_<;>intro h
 ·refine nR K (tn 1) ?_
  cases h; exact VW.ret (rt [])
 refine VW.skip <| nR K (tn 2) ?_
 cases h; exact VW.ret (rt [])
def F59_j0 (N : Nat) (x17 : Int) : Option (Int) :=
  some x17
def F59_l0_b (N : Nat) (a0 : (List Z87)) (nx30 : Int → Int → Option (Int)) (x24 : Int) (x25 : Int) : Option (Int) :=
  cond (decide (x25 < (a0.length : Int))) (gd (InR x25 a0.length) (andO (F83 N (a0.getD x25.toNat (Ty.dflt Y87)) x24) fun y34 => cond (decide (y34 < (0 : Int))) (some (-1 : Int)) (nx30 y34 (IntKind.i64.wrap (x25 + (1 : Int)))))) (F59_j0 N x24)
def F59_l0 (N : Nat) (a0 : (List Z87)) := loopF (F59_l0_b N a0) (fun _ _ => none)
theorem F59_l0_s N a0 {k} (hk : 0 < k) x24 x25 : F59_l0 N a0 k x24 x25 = F59_l0_b N a0 (F59_l0 N a0 (k - 1)) x24 x25 := by cases k;cases hk;rfl
def F59 (N : Nat) (a0 : (List Z87)) (a1 : Int) : Option (Int) :=
  cond (decide ((IntKind.i64.wrap (a1 - (a0.length : Int))) < (0 : Int))) (some (-1 : Int)) (F59_l0 N a0 N (IntKind.i64.wrap (a1 - (a0.length : Int))) (0 : Int))
theorem ok59 N a0 a1 {r} (h : F59 N a0 a1 = some r) : Con prog 59 [Vv (.sl Y87) a0, I a1] [.lf (.v (.int .i64) r)] := by
 refine ctr [.lf (.v (.int .i64))] K func59 rfl fun w0 E0 ht => ?_
 unfold F59 at h
 show VW _ _ _ _ _ (retQ _ _ _ _) _
 refine nR K (tn 1) <| nR K (tn 5) <| sq <| nR K (tn 2) ?_
 refine cnd h ?_ ?_<;>intro h
 ·refine nR K (tn 1) ?_
  cases h; exact VW.ret (rt [])
 refine VW.skip ?_
 refine VW.join (fun s => ∃ x17, s = ⟨[(1, I x17)], []⟩ ∧ F59_j0 N x17 = some r) ?_ ?_
 ·refine nR K (tn 1) <| VW.block <| lop (fun k s => ∃ x24 x25, s = ⟨[(0, Vv (.sl Y87) a0), (1, I x24), (5, I x25)], []⟩ ∧ F59_l0 N a0 k x24 x25 = some r) N [.ren [0, 1, 5] []] ⟨(wr (a1 - (a0.length : Int))), (0 : Int), rfl, h⟩ ?_
  rintro k30 s ⟨x24, x25, rfl, h⟩
  cases k30 with
  | zero => cases show none = some r from h
  | succ k30 =>
   replace h : F59_l0_b N a0 (F59_l0 N a0 k30) x24 x25 = some r := h
   unfold F59_l0_b at h
   refine sq <| nR K (tn 4) ?_
   refine cnd h ?_ ?_<;>intro h
   ·refine VW.skip <| sq <| VW.block <| sq <| VW.region ?_
    obtain⟨g33,h⟩:=gS h
    refine nG K 5 (pu 2 (an g33 (tn 2))) ?_
    obtain⟨y34,hy,h⟩:=aS h
    refine clc false [.t Y87, .t (.int .i64)] [] (some 23) K (ok83 N _ _ hy) <| nN K (tn 1) <| nR K (tn 2) ?_
    refine cnd h ?_ ?_<;>intro h
    ·refine nR K (tn 1) ?_
     cases h; exact VW.ret (rt [])
    refine VW.skip <| nE K (tn 3) ?_
    exact aro [.ren [0, 1, 5] []] ⟨y34, (wr (x25 + (1 : Int))), rfl, h⟩
   refine VW.exit ?_
   exact arv [.ren [1] []] ⟨x24, rfl, h⟩
 rintro s ⟨x17, rfl, h⟩
 unfold F59_j0 at h
 refine nR K (tn 2) ?_
 cases h; exact VW.ret (rt [])
def F28 (N : Nat) (a0 : Z42) (a1 : Int) : Option (Int) :=
  andO (F59 N a0.2.1 a1) fun y1 => cond (decide (y1 < (0 : Int))) (some (-1 : Int)) (andO (F59 N a0.2.2.1 y1) fun y2 => cond (decide (y2 < (0 : Int))) (some (-1 : Int)) (some y2))
theorem ok28 N a0 a1 {r} (h : F28 N a0 a1 = some r) : Con prog 28 [.agg (lv Y42 a0), I a1] [.lf (.v (.int .i64) r)] := by
 refine ctr [.lf (.v (.int .i64))] K func28 rfl fun w0 E0 ht => ?_
 unfold F28 at h
 show VW _ _ _ _ _ (retQ _ _ _ _) _
 refine nR K (tn 2) <| sq <| VW.region <| nG K 3 (tn 3) ?_
 obtain⟨y1,hy,h⟩:=aS h
 refine clc false [.t (.sl Y87), .t (.int .i64)] [] (some 8) K (ok59 N _ _ hy) <| nN K (tn 1) <| sq <| nR K (tn 2) ?_
 refine cnd h ?_ ?_<;>intro h
 ·refine nR K (tn 1) ?_
  cases h; exact VW.ret (rt [])
 refine VW.skip <| sq <| VW.region <| nG K 3 (tn 3) ?_
 obtain⟨y2,hy,h⟩:=aS h
 refine clc false [.t (.sl Y87), .t (.int .i64)] [] (some 14) K (ok59 N _ _ hy) <| nN K (tn 1) <| sq <| nR K (tn 2) ?_
 refine cnd h ?_ ?_<;>intro h
 ·refine nR K (tn 1) ?_
  cases h; exact VW.ret (rt [])
 refine VW.skip <| nR K (tn 2) ?_
 cases h; exact VW.ret (rt [])
def F12_j0 (N : Nat) (x17 : Int) : Option (Int) :=
  some x17
def F12_l0_b (N : Nat) (a0 : (List Z42)) (nx30 : Int → Int → Option (Int)) (x24 : Int) (x25 : Int) : Option (Int) :=
  cond (decide (x25 < (a0.length : Int))) (gd (InR x25 a0.length) (andO (F28 N (a0.getD x25.toNat (Ty.dflt Y42)) x24) fun y34 => cond (decide (y34 < (0 : Int))) (some (-1 : Int)) (nx30 y34 (IntKind.i64.wrap (x25 + (1 : Int)))))) (F12_j0 N x24)
def F12_l0 (N : Nat) (a0 : (List Z42)) := loopF (F12_l0_b N a0) (fun _ _ => none)
theorem F12_l0_s N a0 {k} (hk : 0 < k) x24 x25 : F12_l0 N a0 k x24 x25 = F12_l0_b N a0 (F12_l0 N a0 (k - 1)) x24 x25 := by cases k;cases hk;rfl
def F12 (N : Nat) (a0 : (List Z42)) (a1 : Int) : Option (Int) :=
  cond (decide ((IntKind.i64.wrap (a1 - (a0.length : Int))) < (0 : Int))) (some (-1 : Int)) (F12_l0 N a0 N (IntKind.i64.wrap (a1 - (a0.length : Int))) (0 : Int))
theorem ok12 N a0 a1 {r} (h : F12 N a0 a1 = some r) : Con prog 12 [Vv (.sl Y42) a0, I a1] [.lf (.v (.int .i64) r)] := by
 refine ctr [.lf (.v (.int .i64))] K func12 rfl fun w0 E0 ht => ?_
 unfold F12 at h
 show VW _ _ _ _ _ (retQ _ _ _ _) _
 refine nR K (tn 1) <| nR K (tn 5) <| sq <| nR K (tn 2) ?_
 refine cnd h ?_ ?_<;>intro h
 ·refine nR K (tn 1) ?_
  cases h; exact VW.ret (rt [])
 refine VW.skip ?_
 refine VW.join (fun s => ∃ x17, s = ⟨[(1, I x17)], []⟩ ∧ F12_j0 N x17 = some r) ?_ ?_
 ·refine nR K (tn 1) <| VW.block <| lop (fun k s => ∃ x24 x25, s = ⟨[(0, Vv (.sl Y42) a0), (1, I x24), (5, I x25)], []⟩ ∧ F12_l0 N a0 k x24 x25 = some r) N [.ren [0, 1, 5] []] ⟨(wr (a1 - (a0.length : Int))), (0 : Int), rfl, h⟩ ?_
  rintro k30 s ⟨x24, x25, rfl, h⟩
  cases k30 with
  | zero => cases show none = some r from h
  | succ k30 =>
   replace h : F12_l0_b N a0 (F12_l0 N a0 k30) x24 x25 = some r := h
   unfold F12_l0_b at h
   refine sq <| nR K (tn 4) ?_
   refine cnd h ?_ ?_<;>intro h
   ·refine VW.skip <| sq <| VW.block <| sq <| VW.region ?_
    obtain⟨g33,h⟩:=gS h
    refine nG K 5 (pu 2 (an g33 (tn 2))) ?_
    obtain⟨y34,hy,h⟩:=aS h
    refine clc false [.t Y42, .t (.int .i64)] [] (some 23) K (ok28 N _ _ hy) <| nN K (tn 1) <| nR K (tn 2) ?_
    refine cnd h ?_ ?_<;>intro h
    ·refine nR K (tn 1) ?_
     cases h; exact VW.ret (rt [])
    refine VW.skip <| nE K (tn 3) ?_
    exact aro [.ren [0, 1, 5] []] ⟨y34, (wr (x25 + (1 : Int))), rfl, h⟩
   refine VW.exit ?_
   exact arv [.ren [1] []] ⟨x24, rfl, h⟩
 rintro s ⟨x17, rfl, h⟩
 unfold F12_j0 at h
 refine nR K (tn 2) ?_
 cases h; exact VW.ret (rt [])
def F4 (N : Nat) (a0 : Z24) (a1 : Int) : Option (Int) :=
  andO (F11 N a0.2.1 a1) fun y1 => cond (decide (y1 < (0 : Int))) (some (-1 : Int)) (andO (F12 N a0.2.2.1 y1) fun y2 => cond (decide (y2 < (0 : Int))) (some (-1 : Int)) (some y2))
theorem ok4 N a0 a1 {r} (h : F4 N a0 a1 = some r) : Con prog 4 [.agg (lv Y24 a0), I a1] [.lf (.v (.int .i64) r)] := by
 refine ctr [.lf (.v (.int .i64))] K func4 rfl fun w0 E0 ht => ?_
 unfold F4 at h
 show VW _ _ _ _ _ (retQ _ _ _ _) _
 refine nR K (tn 2) <| sq <| VW.region <| nG K 3 (tn 3) ?_
 obtain⟨y1,hy,h⟩:=aS h
 refine clc false [.t (.sl Y53), .t (.int .i64)] [] (some 8) K (ok11 N _ _ hy) <| nN K (tn 1) <| sq <| nR K (tn 2) ?_
 refine cnd h ?_ ?_<;>intro h
 ·refine nR K (tn 1) ?_
  cases h; exact VW.ret (rt [])
 refine VW.skip <| sq <| VW.region <| nG K 3 (tn 3) ?_
 obtain⟨y2,hy,h⟩:=aS h
 refine clc false [.t (.sl Y42), .t (.int .i64)] [] (some 14) K (ok12 N _ _ hy) <| nN K (tn 1) <| sq <| nR K (tn 2) ?_
 refine cnd h ?_ ?_<;>intro h
 ·refine nR K (tn 1) ?_
  cases h; exact VW.ret (rt [])
 refine VW.skip <| nR K (tn 2) ?_
 cases h; exact VW.ret (rt [])
def F29_j0 (N : Nat) (x16 : (List Z53)) : Option ((List Z53)) :=
  some x16
def F29_l0_b (N : Nat) (a0 : (List Z53)) (nx28 : (List Z53) → Int → Option ((List Z53))) (x22 : (List Z53)) (x23 : Int) : Option ((List Z53)) :=
  cond (decide (x23 < (a0.length : Int))) (gd (InR x23 a0.length) (gd (x22.length + ([(a0.getD x23.toNat (Ty.dflt Y53))]).length ≤ lim Y53) (nx28 (x22 ++ ([(a0.getD x23.toNat (Ty.dflt Y53))])) (IntKind.i64.wrap (x23 + (1 : Int)))))) (F29_j0 N x22)
def F29_l0 (N : Nat) (a0 : (List Z53)) := loopF (F29_l0_b N a0) (fun _ _ => none)
theorem F29_l0_s N a0 {k} (hk : 0 < k) x22 x23 : F29_l0 N a0 k x22 x23 = F29_l0_b N a0 (F29_l0 N a0 (k - 1)) x22 x23 := by cases k;cases hk;rfl
def F29 (N : Nat) (a0 : (List Z53)) : Option ((List Z53)) :=
  F29_l0 N a0 N ([]) (0 : Int)
theorem ok29 N a0 {r} (h : F29 N a0 = some r) : Con prog 29 [Vv (.sl Y53) a0] [.lf (.own Y53 r .dp)] := by
 refine ctr [.lf (.own Y53 .dp)] K func29 rfl fun w0 E0 ht => ?_
 unfold F29 at h
 show VW _ _ _ _ _ (retQ _ _ _ _) _
 refine nR K (tn 1) <| nR K (tn 2) ?_
 refine VW.join (fun s => ∃ x16, s = ⟨[(3, hh 0)], [ar 0 Y53 x16 .dp]⟩ ∧ F29_j0 N x16 = some r) ?_ ?_
 ·refine nR K (tn 1) <| VW.block <| lop (fun k s => ∃ x22 x23, s = ⟨[(0, Vv (.sl Y53) a0), (3, hh 0), (4, I x23)], [ar 0 Y53 x22 .dp]⟩ ∧ F29_l0 N a0 k x22 x23 = some r) N [.nilS 3 Y53 .dp, .ren [0, 3, 4] [0]] ⟨[], (0 : Int), rfl, h⟩ ?_
  rintro k28 s ⟨x22, x23, rfl, h⟩
  cases k28 with
  | zero => cases show none = some r from h
  | succ k28 =>
   replace h : F29_l0_b N a0 (F29_l0 N a0 k28) x22 x23 = some r := h
   unfold F29_l0_b at h
   refine sq <| nR K (tn 4) ?_
   refine cnd h ?_ ?_<;>intro h
   ·refine VW.skip <| sq <| VW.block ?_
    obtain⟨g31,h⟩:=gS h
    obtain⟨g32,h⟩:=gS h
    refine nE K (pu 3 (an g31 (pu 2 (an g32 (tn 1))))) <| nE K (tn 3) ?_
    exact aro [.ren [0, 3, 4] [0]] ⟨(x22 ++ ([(a0.getD x23.toNat D53)])), (wr (x23 + (1 : Int))), rfl, h⟩
   refine VW.exit ?_
   exact arv [.ren [3] [0]] ⟨x22, rfl, h⟩
 rintro s ⟨x16, rfl, h⟩
 unfold F29_j0 at h
 refine nR K (tn 2) ?_
 cases h; exact VW.ret (rt [some 0])
def F84_j0 (N : Nat) (x16 : (List Int)) : Option ((List Int)) :=
  some x16
def F84_l0_b (N : Nat) (a0 : (List Int)) (nx28 : (List Int) → Int → Option ((List Int))) (x22 : (List Int)) (x23 : Int) : Option ((List Int)) :=
  cond (decide (x23 < (a0.length : Int))) (gd (InR x23 a0.length) (gd (x22.length + ([(a0.getD x23.toNat (Ty.dflt (.int .i64)))]).length ≤ lim (.int .i64)) (nx28 (x22 ++ ([(a0.getD x23.toNat (Ty.dflt (.int .i64)))])) (IntKind.i64.wrap (x23 + (1 : Int)))))) (F84_j0 N x22)
def F84_l0 (N : Nat) (a0 : (List Int)) := loopF (F84_l0_b N a0) (fun _ _ => none)
theorem F84_l0_s N a0 {k} (hk : 0 < k) x22 x23 : F84_l0 N a0 k x22 x23 = F84_l0_b N a0 (F84_l0 N a0 (k - 1)) x22 x23 := by cases k;cases hk;rfl
def F84 (N : Nat) (a0 : (List Int)) : Option ((List Int)) :=
  F84_l0 N a0 N ([]) (0 : Int)
theorem ok84 N a0 {r} (h : F84 N a0 = some r) : Con prog 84 [Vv (.sl (.int .i64)) a0] [.lf (.own (.int .i64) r .dp)] := by
 refine ctr [.lf (.own (.int .i64) .dp)] K func84 rfl fun w0 E0 ht => ?_
 unfold F84 at h
 show VW _ _ _ _ _ (retQ _ _ _ _) _
 refine nR K (tn 1) <| nR K (tn 2) ?_
 refine VW.join (fun s => ∃ x16, s = ⟨[(3, hh 0)], [ar 0 (.int .i64) x16 .dp]⟩ ∧ F84_j0 N x16 = some r) ?_ ?_
 ·refine nR K (tn 1) <| VW.block <| lop (fun k s => ∃ x22 x23, s = ⟨[(0, Vv (.sl (.int .i64)) a0), (3, hh 0), (4, I x23)], [ar 0 (.int .i64) x22 .dp]⟩ ∧ F84_l0 N a0 k x22 x23 = some r) N [.nilS 3 (.int .i64) .dp, .ren [0, 3, 4] [0]] ⟨[], (0 : Int), rfl, h⟩ ?_
  rintro k28 s ⟨x22, x23, rfl, h⟩
  cases k28 with
  | zero => cases show none = some r from h
  | succ k28 =>
   replace h : F84_l0_b N a0 (F84_l0 N a0 k28) x22 x23 = some r := h
   unfold F84_l0_b at h
   refine sq <| nR K (tn 4) ?_
   refine cnd h ?_ ?_<;>intro h
   ·refine VW.skip <| sq <| VW.block ?_
    obtain⟨g31,h⟩:=gS h
    obtain⟨g32,h⟩:=gS h
    refine nE K (pu 3 (an g31 (pu 2 (an g32 (tn 1))))) <| nE K (tn 3) ?_
    exact aro [.ren [0, 3, 4] [0]] ⟨(x22 ++ ([(a0.getD x23.toNat (Ty.dflt (.int .i64)))])), (wr (x23 + (1 : Int))), rfl, h⟩
   refine VW.exit ?_
   exact arv [.ren [3] [0]] ⟨x22, rfl, h⟩
 rintro s ⟨x16, rfl, h⟩
 unfold F84_j0 at h
 refine nR K (tn 2) ?_
 cases h; exact VW.ret (rt [some 0])
def F60_j0 (N : Nat) (x100 : (List Z87)) : Option ((List Z87)) :=
  some x100
def F60_j1 (N : Nat) (nx168 : (List Z87) → Int → Option ((List Z87))) (x134 : (List Z87)) (x135 : Int) (x189 : Int) (x190 : ByteArray) (x191 : Int) (x192 : Int) (x193 : Int) (x194 : Bool) (x195 : (List Int)) : Option ((List Z87)) :=
  gd (x134.length + ([(x189, (x190, (x191, (x192, (x193, (x194, x195))))))]).length ≤ lim Y87) (nx168 (x134 ++ ([(x189, (x190, (x191, (x192, (x193, (x194, x195))))))])) (IntKind.i64.wrap (x135 + (1 : Int))))
def F60_l0_b (N : Nat) (a0 : (List Z87)) (nx168 : (List Z87) → Int → Option ((List Z87))) (x134 : (List Z87)) (x135 : Int) : Option ((List Z87)) :=
  cond (decide (x135 < (a0.length : Int))) (gd (InR x135 a0.length) (gd (InR x135 a0.length) (cond (decide ((((a0.getD x135.toNat (Ty.dflt Y87)).2.2.2.2.2.2).length : Int) > (0 : Int))) (gd (InR x135 a0.length) (andO (F84 N ((a0.getD x135.toNat (Ty.dflt Y87)).2.2.2.2.2.2)) fun y200 => F60_j1 N nx168 x134 x135 ((a0.getD x135.toNat (Ty.dflt Y87)).1) ((a0.getD x135.toNat (Ty.dflt Y87)).2.1) ((a0.getD x135.toNat (Ty.dflt Y87)).2.2.1) ((a0.getD x135.toNat (Ty.dflt Y87)).2.2.2.1) ((a0.getD x135.toNat (Ty.dflt Y87)).2.2.2.2.1) ((a0.getD x135.toNat (Ty.dflt Y87)).2.2.2.2.2.1) y200)) (F60_j1 N nx168 x134 x135 ((a0.getD x135.toNat (Ty.dflt Y87)).1) ((a0.getD x135.toNat (Ty.dflt Y87)).2.1) ((a0.getD x135.toNat (Ty.dflt Y87)).2.2.1) ((a0.getD x135.toNat (Ty.dflt Y87)).2.2.2.1) ((a0.getD x135.toNat (Ty.dflt Y87)).2.2.2.2.1) ((a0.getD x135.toNat (Ty.dflt Y87)).2.2.2.2.2.1) ([]))))) (F60_j0 N x134)
def F60_l0 (N : Nat) (a0 : (List Z87)) := loopF (F60_l0_b N a0) (fun _ _ => none)
theorem F60_l0_s N a0 {k} (hk : 0 < k) x134 x135 : F60_l0 N a0 k x134 x135 = F60_l0_b N a0 (F60_l0 N a0 (k - 1)) x134 x135 := by cases k;cases hk;rfl
def F60 (N : Nat) (a0 : (List Z87)) : Option ((List Z87)) :=
  F60_l0 N a0 N ([]) (0 : Int)
theorem ok60 N a0 {r} (h : F60 N a0 = some r) : Con prog 60 [Vv (.sl Y87) a0] [.lf (.own Y87 r .dp)] := by
 refine ctr [.lf (.own Y87 .dp)] K func60 rfl fun w0 E0 ht => ?_
 unfold F60 at h
 show VW _ _ _ _ _ (retQ _ _ _ _) _
 refine nR K (tn 1) <| nR K (tn 2) ?_
 refine VW.join (fun s => ∃ x100, s = ⟨[(3, hh 0)], [ar 0 Y87 x100 .dp]⟩ ∧ F60_j0 N x100 = some r) ?_ ?_
 ·refine nR K (tn 1) <| VW.block <| lop (fun k s => ∃ x134 x135, s = ⟨[(0, Vv (.sl Y87) a0), (3, hh 0), (4, I x135)], [ar 0 Y87 x134 .dp]⟩ ∧ F60_l0 N a0 k x134 x135 = some r) N [.nilS 3 Y87 .dp, .ren [0, 3, 4] [0]] ⟨[], (0 : Int), rfl, h⟩ ?_
  rintro k168 s ⟨x134, x135, rfl, h⟩
  cases k168 with
  | zero => cases show none = some r from h
  | succ k168 =>
   replace h : F60_l0_b N a0 (F60_l0 N a0 k168) x134 x135 = some r := h
   unfold F60_l0_b at h
   refine sq <| nR K (tn 4) ?_
   refine cnd h ?_ ?_<;>intro h
   ·refine VW.skip <| sq <| VW.block ?_
    obtain⟨g185,h⟩:=gS h
    refine nR K (pu 2 (an g185 (tn 3))) <| nR K (tn 2) ?_
    refine VW.join (fun s => ∃ x189 x190 x191 x192 x193 x194 x195, s = ⟨[(0, Vv (.sl Y87) a0), (3, hh 0), (4, I x135), (5, .lf (.ptr 1 0 0 0))], [ar 0 Y87 x134 .dp, bx [zi x189, zs x190, zi x191, zi x192, zi x193, zb x194, .hd 2 0 none] 88, ar 0 (.int .i64) x195 .dp]⟩ ∧ F60_j1 N (F60_l0 N a0 k168) x134 x135 x189 x190 x191 x192 x193 x194 x195 = some r) ?_ ?_
    ·obtain⟨g198,h⟩:=gS h
     refine nR K (pu 2 (an g198 (tn 4))) ?_
     refine cnd h ?_ ?_<;>intro h
     ·refine VW.region ?_
      obtain⟨g199,h⟩:=gS h
      refine nG K 5 (pu 2 (an g199 (tn 2))) ?_
      obtain⟨y200,hy,h⟩:=aS h
      refine clc false [.t (.sl (.int .i64))] [] (some 30) K (ok84 N _ hy) <| nN K (tn 2) ?_
      exact arv [.ren [0, 3, 4, 5] [0, 1, 2]] ⟨(a0.getD x135.toNat D87).1, (a0.getD x135.toNat D87).2.1, (a0.getD x135.toNat D87).2.2.1, (a0.getD x135.toNat D87).2.2.2.1, (a0.getD x135.toNat D87).2.2.2.2.1, (a0.getD x135.toNat D87).2.2.2.2.2.1, y200, rfl, h⟩
     refine VW.skip ?_
     exact arv [.nil 1 6 (.int .i64) .dp, .ren [0, 3, 4, 5] [0, 1, 2]] ⟨(a0.getD x135.toNat D87).1, (a0.getD x135.toNat D87).2.1, (a0.getD x135.toNat D87).2.2.1, (a0.getD x135.toNat D87).2.2.2.1, (a0.getD x135.toNat D87).2.2.2.2.1, (a0.getD x135.toNat D87).2.2.2.2.2.1, [], rfl, h⟩
    rintro s ⟨x189, x190, x191, x192, x193, x194, x195, rfl, h⟩
    unfold F60_j1 at h
    refine VW.region <| nG K 2 (tn 2) <| VO.litA (d := 34) (v := hh 3) (H' := [ar 0 Y87 x134 .dp, bx [zi x189, zs x190, zi x191, zi x192, zi x193, zb x194, .hd 2 0 none] 88, none, ar 0 Y87 ([(x189, (x190, (x191, (x192, (x193, (x194, x195))))))]) .dp]) K (by kernel_rfl) ?_
    obtain⟨g196,h⟩:=gS h
    refine VO.appM (d := 35) (φ := x134.length + ([(x189, (x190, (x191, (x192, (x193, (x194, x195))))))]).length ≤ lim Y87) (v := .lf (.hd 0 1 none)) (H' := [ar 1 Y87 (x134 ++ ([(x189, (x190, (x191, (x192, (x193, (x194, x195))))))])) .dp, bx [zi x189, zs x190, zi x191, zi x192, zi x193, zb x194, .hd 2 0 none] 88, none, none]) K (by kernel_rfl) g196 <| nN K (tn 1) <| nE K (tn 3) ?_
    exact aro [.ren [0, 3, 4] [0]] ⟨(x134 ++ ([(x189, (x190, (x191, (x192, (x193, (x194, x195))))))])), (wr (x135 + (1 : Int))), rfl, h⟩
   refine VW.exit ?_
   exact arv [.ren [3] [0]] ⟨x134, rfl, h⟩
 rintro s ⟨x100, rfl, h⟩
 unfold F60_j0 at h
 refine nR K (tn 2) ?_
 cases h; exact VW.ret (rt [some 0])
def F30 (N : Nat) (a0 : Z42) : Option (Z42) :=
  andO (F60 N a0.2.1) fun y1 => andO (F60 N a0.2.2.1) fun y2 => some (a0.1, (y1, (y2, (a0.2.2.2.1, a0.2.2.2.2))))
theorem ok30 N a0 {r} (h : F30 N a0 = some r) : Con prog 30 [.agg (lv Y42 a0)] [.agg [.v (.int .i64) r.1, .own Y87 r.2.1 .dp, .own Y87 r.2.2.1 .dp, .v (.int .i64) r.2.2.2.1, .v (.int .i64) r.2.2.2.2]] := by
 refine ctr [.agg [.v (.int .i64), .own Y87 .dp, .own Y87 .dp, .v (.int .i64), .v (.int .i64)]] K func30 rfl fun w0 E0 ht => ?_
 unfold F30 at h
 show VW _ _ _ _ _ (retQ _ _ _ _) _
 refine nR K (tn 2) <| sq ?_
 obtain⟨y1,hy1,h⟩:=aS h
 obtain⟨y2,hy2,h⟩:=aS h
 refine dr K [(4, .cl [] (some 7) [.lf (.own Y87 y1 .dp)]), (7, .cl [] (some 10) [.lf (.own Y87 y2 .dp)])] [(4, 0), (7, 1)] [4, 7, 13] [2] [1, 2, 3] (tn 14) ⟨qC false [.t (.sl Y87)] [] [] (some 7) K (ok60 N _ hy1), qC false [.t (.sl Y87)] [] [] (some 10) K (ok60 N _ hy2), trivial⟩ ?_
 cases h; exact VW.ret (rt [some 1, some 2])
def F13_j0 (N : Nat) (y1 : (List Z53)) (x55 : Int) (x56 : (List Z42)) (x57 : Int) (x58 : Int) (x59 : Int) (x60 : Int) (x61 : Int) (x62 : Int) : Option (Z24) :=
  some (x55, (y1, (x56, (x57, (x58, (x59, (x60, (x61, x62))))))))
def F13_l0_b (N : Nat) (y1 : (List Z53)) (nx110 : Int → (List Z53) → (List Z42) → Int → Int → Int → Int → Int → Int → Int → (List Z42) → Int → Int → Int → Int → Int → Int → Int → Option (Z24)) (x86 : Int) (x87 : (List Z53)) (x88 : (List Z42)) (x89 : Int) (x90 : Int) (x91 : Int) (x92 : Int) (x93 : Int) (x94 : Int) (x95 : Int) (x96 : (List Z42)) (x97 : Int) (x98 : Int) (x99 : Int) (x100 : Int) (x101 : Int) (x102 : Int) (x103 : Int) : Option (Z24) :=
  cond (decide (x103 < (x88.length : Int))) (gd (InR x103 x88.length) (andO (F30 N (x88.getD x103.toNat (Ty.dflt Y42))) fun y115 => gd (x96.length + ([y115]).length ≤ lim Y42) (nx110 x86 x87 x88 x89 x90 x91 x92 x93 x94 x95 (x96 ++ ([y115])) x97 x98 x99 x100 x101 x102 (IntKind.i64.wrap (x103 + (1 : Int)))))) (F13_j0 N y1 x95 x96 x97 x98 x99 x100 x101 x102)
def F13_l0 (N : Nat) (y1 : (List Z53)) := loopF (F13_l0_b N y1) (fun _ _ _ _ _ _ _ _ _ _ _ _ _ _ _ _ _ _ => none)
theorem F13_l0_s N y1 {k} (hk : 0 < k) x86 x87 x88 x89 x90 x91 x92 x93 x94 x95 x96 x97 x98 x99 x100 x101 x102 x103 : F13_l0 N y1 k x86 x87 x88 x89 x90 x91 x92 x93 x94 x95 x96 x97 x98 x99 x100 x101 x102 x103 = F13_l0_b N y1 (F13_l0 N y1 (k - 1)) x86 x87 x88 x89 x90 x91 x92 x93 x94 x95 x96 x97 x98 x99 x100 x101 x102 x103 := by cases k;cases hk;rfl
def F13 (N : Nat) (a0 : Z24) : Option (Z24) :=
  andO (F29 N a0.2.1) fun y1 => F13_l0 N y1 N a0.1 a0.2.1 a0.2.2.1 a0.2.2.2.1 a0.2.2.2.2.1 a0.2.2.2.2.2.1 a0.2.2.2.2.2.2.1 a0.2.2.2.2.2.2.2.1 a0.2.2.2.2.2.2.2.2 a0.1 ([]) a0.2.2.2.1 a0.2.2.2.2.1 a0.2.2.2.2.2.1 a0.2.2.2.2.2.2.1 a0.2.2.2.2.2.2.2.1 a0.2.2.2.2.2.2.2.2 (0 : Int)
theorem ok13 N a0 {r} (h : F13 N a0 = some r) : Con prog 13 [.agg (lv Y24 a0)] [.agg [.v (.int .i64) r.1, .own Y53 r.2.1 .dp, .own Y42 r.2.2.1 .tp, .v (.int .i64) r.2.2.2.1, .v (.int .i64) r.2.2.2.2.1, .v (.int .i64) r.2.2.2.2.2.1, .v (.int .i64) r.2.2.2.2.2.2.1, .v (.int .i64) r.2.2.2.2.2.2.2.1, .v (.int .i64) r.2.2.2.2.2.2.2.2]] := by
 refine ctr [.agg [.v (.int .i64), .own Y53 .dp, .own Y42 .tp, .v (.int .i64), .v (.int .i64), .v (.int .i64), .v (.int .i64), .v (.int .i64), .v (.int .i64)]] K func13 rfl fun w0 E0 ht => ?_
 unfold F13 at h
 show VW _ _ _ _ _ (retQ _ _ _ _) _
 refine nR K (tn 2) <| nR K (tn 3) <| sq <| VW.region <| nG K 2 (tn 2) ?_
 obtain⟨y1,hy,h⟩:=aS h
 refine clc false [.t (.sl Y53)] [] (some 8) K (ok29 N _ hy) <| nN K (tn 2) <| nR K (tn 2) ?_
 refine VW.join (fun s => ∃ x55 x56 x57 x58 x59 x60 x61 x62, s = ⟨[(2, .lf (.ptr 0 0 0 0)), (3, .lf (.ptr 1 0 0 0))], [bx [zi (0 : Int), .nil, .nil, zi (0 : Int), zi (0 : Int), zi (0 : Int), zi (0 : Int), zi (0 : Int), zi (0 : Int)] 30, bx [zi x55, .hd 2 0 none, .hd 3 0 none, zi x57, zi x58, zi x59, zi x60, zi x61, zi x62] 30, ar 0 Y53 y1 .dp, ar 0 Y42 x56 .tp]⟩ ∧ F13_j0 N y1 x55 x56 x57 x58 x59 x60 x61 x62 = some r) ?_ ?_
 ·refine nR K (tn 1) <| VW.block <| lop (fun k s => ∃ x86 x87 x88 x89 x90 x91 x92 x93 x94 x95 x96 x97 x98 x99 x100 x101 x102 x103, s = ⟨[(1, .lf (.ptr 0 0 0 0)), (2, .lf (.ptr 1 0 0 0)), (3, .lf (.ptr 2 0 0 0)), (4, I x103)], [bx [zi x86, .v (.sl Y53) x87, .v (.sl Y42) x88, zi x89, zi x90, zi x91, zi x92, zi x93, zi x94] 30, bx [zi (0 : Int), .nil, .nil, zi (0 : Int), zi (0 : Int), zi (0 : Int), zi (0 : Int), zi (0 : Int), zi (0 : Int)] 30, bx [zi x95, .hd 3 0 none, .hd 4 0 none, zi x97, zi x98, zi x99, zi x100, zi x101, zi x102] 30, ar 0 Y53 y1 .dp, ar 0 Y42 x96 .tp]⟩ ∧ F13_l0 N y1 k x86 x87 x88 x89 x90 x91 x92 x93 x94 x95 x96 x97 x98 x99 x100 x101 x102 x103 = some r) N [.nil 2 2 Y42 .tp, .ren [1, 2, 3, 4] [0, 1, 2, 3, 4]] ⟨a0.1, a0.2.1, a0.2.2.1, a0.2.2.2.1, a0.2.2.2.2.1, a0.2.2.2.2.2.1, a0.2.2.2.2.2.2.1, a0.2.2.2.2.2.2.2.1, a0.2.2.2.2.2.2.2.2, a0.1, [], a0.2.2.2.1, a0.2.2.2.2.1, a0.2.2.2.2.2.1, a0.2.2.2.2.2.2.1, a0.2.2.2.2.2.2.2.1, a0.2.2.2.2.2.2.2.2, (0 : Int), rfl, h⟩ ?_
  rintro k110 s ⟨x86, x87, x88, x89, x90, x91, x92, x93, x94, x95, x96, x97, x98, x99, x100, x101, x102, x103, rfl, h⟩
  cases k110 with
  | zero => cases show none = some r from h
  | succ k110 =>
   replace h : F13_l0_b N y1 (F13_l0 N y1 k110) x86 x87 x88 x89 x90 x91 x92 x93 x94 x95 x96 x97 x98 x99 x100 x101 x102 x103 = some r := h
   unfold F13_l0_b at h
   refine sq <| nR K (tn 5) ?_
   refine cnd h ?_ ?_<;>intro h
   ·refine VW.skip <| sq <| VW.block ?_
    obtain⟨g114,h⟩:=gS h
    obtain⟨y115,hy115,h⟩:=aS h
    obtain⟨g116,h⟩:=gS h
    refine dr K [(7, .cl [] (some 25) [.agg [.v (.int .i64) y115.1, .own Y87 y115.2.1 .dp, .own Y87 y115.2.2.1 .dp, .v (.int .i64) y115.2.2.2.1, .v (.int .i64) y115.2.2.2.2]]), (8, .ev [5, 6])] [(7, 0), (8, 1)] [7, 8, 9, 11] [1, 2, 3, 4] [0, 1, 2, 3, 4] (pu 5 (an g114 (pu 3 (an g116 (tn 2))))) ⟨qC false [.t Y42] [] [] (some 25) K (ok30 N _ hy115), qE [5, 6] K trivial, trivial⟩ <| nE K (tn 3) ?_
    exact aro [.ren [1, 2, 3, 4] [0, 1, 2, 3, 4]] ⟨x86, x87, x88, x89, x90, x91, x92, x93, x94, x95, (x96 ++ ([y115])), x97, x98, x99, x100, x101, x102, (wr (x103 + (1 : Int))), rfl, h⟩
   refine VW.exit ?_
   exact arv [.ren [2, 3] [1, 2, 3, 4]] ⟨x95, x96, x97, x98, x99, x100, x101, x102, rfl, h⟩
 rintro s ⟨x55, x56, x57, x58, x59, x60, x61, x62, rfl, h⟩
 unfold F13_j0 at h
 refine nR K (tn 2) ?_
 cases h; exact VW.ret (rt [some 2, some 3])
def F31 (N : Nat) (a0 : Int) (a1 : Int) (a2 : Int) : Option (Bool) :=
  cond (decide (a1 ≤ a0)) (some (decide (a0 ≤ a2))) (some false)
theorem ok31 N a0 a1 a2 {r} (h : F31 N a0 a1 a2 = some r) : Con prog 31 [I a0, I a1, I a2] [.lf (.v .bool r)] := by
 refine ctr [.lf (.v .bool)] K func31 rfl fun w0 E0 ht => ?_
 unfold F31 at h
 show VW _ _ _ _ _ (retQ _ _ _ _) _
 refine nR K (tn 1) <| sq <| VW.region <| nG K 4 (tn 4) ?_
 refine spC 10 h ?_ ?_<;>intro h
 ·refine nN K (tn 5) ?_
  cases h; exact VW.ret (rt [])
 refine nN K (tn 5) ?_
 cases h; exact VW.ret (rt [])
def F61_j0 (N : Nat) : Option (Bool) :=
  some true
def F61_j1 (N : Nat) (nx74 : Int → Option (Bool)) (x60 : Int) : Option (Bool) :=
  nx74 (IntKind.i64.wrap (x60 + (1 : Int)))
def F61_l0_b (N : Nat) (a0 : ByteArray) (nx74 : Int → Option (Bool)) (x60 : Int) : Option (Bool) :=
  cond (decide (x60 < (a0.size : Int))) (gd (InR x60 a0.size) (cond (decide (((a0.data.getD x60.toNat 0).toNat : Int) < (97 : Int))) (gd (InR x60 a0.size) (cond (decide (((a0.data.getD x60.toNat 0).toNat : Int) < (48 : Int))) (some false) (gd (InR x60 a0.size) (cond (decide (((a0.data.getD x60.toNat 0).toNat : Int) > (57 : Int))) (some false) (F61_j1 N nx74 x60))))) (gd (InR x60 a0.size) (cond (decide (((a0.data.getD x60.toNat 0).toNat : Int) > (122 : Int))) (gd (InR x60 a0.size) (cond (decide (((a0.data.getD x60.toNat 0).toNat : Int) < (48 : Int))) (some false) (gd (InR x60 a0.size) (cond (decide (((a0.data.getD x60.toNat 0).toNat : Int) > (57 : Int))) (some false) (F61_j1 N nx74 x60))))) (F61_j1 N nx74 x60))))) (F61_j0 N)
def F61_l0 (N : Nat) (a0 : ByteArray) := loopF (F61_l0_b N a0) (fun _ => none)
theorem F61_l0_s N a0 {k} (hk : 0 < k) x60 : F61_l0 N a0 k x60 = F61_l0_b N a0 (F61_l0 N a0 (k - 1)) x60 := by cases k;cases hk;rfl
def F61 (N : Nat) (a0 : ByteArray) : Option (Bool) :=
  andO (F31 N (a0.size : Int) (1 : Int) (12 : Int)) fun y3 => cond (!y3) (some false) (gd (InR (0 : Int) a0.size) (cond (decide (((a0.data.getD (0 : Int).toNat 0).toNat : Int) < (97 : Int))) (some false) (F61_l0 N a0 N (0 : Int))))
theorem ok61 N a0 {r} (h : F61 N a0 = some r) : Con prog 61 [S a0] [.lf (.v .bool r)] := by
 refine ctr [.lf (.v .bool)] K func61 rfl fun w0 E0 ht => ?_
 unfold F61 at h
 show VW _ _ _ _ _ (retQ _ _ _ _) _
 refine nR K (tn 1) <| sq <| sq <| VW.region <| nG K 2 (tn 2) ?_
 obtain⟨y3,hy,h⟩:=aS h
 refine clc false [.t (.int .i64), .t (.int .i64), .t (.int .i64)] [] (some 6) K (ok31 N _ _ _ hy) <| nG K 2 (tn 2) ?_
 refine spC 8 h ?_ ?_<;>intro h
 ·refine nN K (tn 4) ?_
  refine VW.cond (b := true) (by kernel_rfl) (fun _ => ?_) (fun h' => nomatch h')
  refine nR K (tn 1) ?_
  cases h; exact VW.ret (rt [])
 obtain⟨g4,h⟩:=gS h
 refine nN K (pu 1 (an g4 (tn 2))) ?_
 refine cnd h ?_ ?_<;>intro h
 ·refine nR K (tn 1) ?_
  cases h; exact VW.ret (rt [])
 refine VW.skip ?_
 refine VW.join (fun s => s = ⟨[], []⟩ ∧ F61_j0 N = some r) ?_ ?_
 ·refine nR K (tn 1) <| VW.block <| lop (fun k s => ∃ x60, s = ⟨[(0, S a0), (3, I x60)], []⟩ ∧ F61_l0 N a0 k x60 = some r) N [.ren [0, 3] []] ⟨(0 : Int), rfl, h⟩ ?_
  rintro k74 s ⟨x60, rfl, h⟩
  cases k74 with
  | zero => cases show none = some r from h
  | succ k74 =>
   replace h : F61_l0_b N a0 (F61_l0 N a0 k74) x60 = some r := h
   unfold F61_l0_b at h
   refine sq <| nR K (tn 4) ?_
   refine cnd h ?_ ?_<;>intro h
   ·refine VW.skip ?_
    refine VW.join (fun s => s = ⟨[(0, S a0), (3, I x60)], []⟩ ∧ F61_j1 N (F61_l0 N a0 k74) x60 = some r) ?_ ?_
    ·refine VW.block <| sq <| VW.region ?_
     obtain⟨g82,h⟩:=gS h
     refine nG K 5 (pu 2 (an g82 (tn 2))) ?_
     refine spC 23 h ?_ ?_<;>intro h
     ·obtain⟨g83,h⟩:=gS h
      refine nG K 11 (pu 8 (an g83 (tn 2))) ?_
      refine spC 34 h ?_ ?_<;>intro h
      ·refine nN K (tn 6) ?_
       refine VW.cond (b := true) (by kernel_rfl) (fun _ => ?_) (fun h' => nomatch h')
       refine nR K (tn 1) ?_
       cases h; exact VW.ret (rt [])
      obtain⟨g84,h⟩:=gS h
      refine nN K (pu 2 (an g84 (tn 3))) ?_
      refine cnd h ?_ ?_<;>intro h
      ·refine nR K (tn 1) ?_
       cases h; exact VW.ret (rt [])
      refine VW.skip ?_
      exact arv [.ren [0, 3] []] ⟨rfl, h⟩
     obtain⟨g85,h⟩:=gS h
     refine nG K 6 (pu 2 (an g85 (tn 3))) ?_
     refine spC 29 h ?_ ?_<;>intro h
     ·obtain⟨g86,h⟩:=gS h
      refine nG K 5 (pu 2 (an g86 (tn 2))) ?_
      refine spC 34 h ?_ ?_<;>intro h
      ·refine nN K (tn 6) ?_
       refine VW.cond (b := true) (by kernel_rfl) (fun _ => ?_) (fun h' => nomatch h')
       refine nR K (tn 1) ?_
       cases h; exact VW.ret (rt [])
      obtain⟨g87,h⟩:=gS h
      refine nN K (pu 2 (an g87 (tn 3))) ?_
      refine cnd h ?_ ?_<;>intro h
      ·refine nR K (tn 1) ?_
       cases h; exact VW.ret (rt [])
      refine VW.skip ?_
      exact arv [.ren [0, 3] []] ⟨rfl, h⟩
     refine nN K (tn 11) ?_
     refine VW.cond (b := false) (by kernel_rfl) (fun h' => nomatch h') (fun _ => ?_)
     refine VW.skip ?_
     exact arv [.ren [0, 3] []] ⟨rfl, h⟩
    rintro s ⟨rfl, h⟩
    unfold F61_j1 at h
    refine nE K (tn 3) ?_
    exact aro [.ren [0, 3] []] ⟨(wr (x60 + (1 : Int))), rfl, h⟩
   refine VW.exit ?_
   exact arv [.ren [] []] ⟨rfl, h⟩
 rintro s ⟨rfl, h⟩
 unfold F61_j0 at h
 refine nR K (tn 1) ?_
 cases h; exact VW.ret (rt [])
def F62_j0 (N : Nat) (a0 : ByteArray) (a1 : ByteArray) : Option (Bool) :=
  some (decide ((a0.size : Int) < (a1.size : Int)))
def F62_l0_b (N : Nat) (a0 : ByteArray) (a1 : ByteArray) (nx45 : Int → Option (Bool)) (x36 : Int) : Option (Bool) :=
  cond (decide (x36 < (a0.size : Int))) (cond (decide (x36 < (a1.size : Int))) (gd (InR x36 a0.size) (gd (InR x36 a1.size) (cond (((a0.data.getD x36.toNat 0).toNat : Int) != ((a1.data.getD x36.toNat 0).toNat : Int)) (gd (InR x36 a0.size) (gd (InR x36 a1.size) (some (decide (((a0.data.getD x36.toNat 0).toNat : Int) < ((a1.data.getD x36.toNat 0).toNat : Int)))))) (nx45 (IntKind.i64.wrap (x36 + (1 : Int))))))) (F62_j0 N a0 a1)) (F62_j0 N a0 a1)
def F62_l0 (N : Nat) (a0 : ByteArray) (a1 : ByteArray) := loopF (F62_l0_b N a0 a1) (fun _ => none)
theorem F62_l0_s N a0 a1 {k} (hk : 0 < k) x36 : F62_l0 N a0 a1 k x36 = F62_l0_b N a0 a1 (F62_l0 N a0 a1 (k - 1)) x36 := by cases k;cases hk;rfl
def F62 (N : Nat) (a0 : ByteArray) (a1 : ByteArray) : Option (Bool) :=
  F62_l0 N a0 a1 N (0 : Int)
theorem ok62 N a0 a1 {r} (h : F62 N a0 a1 = some r) : Con prog 62 [S a0, S a1] [.lf (.v .bool r)] := by
 refine ctr [.lf (.v .bool)] K func62 rfl fun w0 E0 ht => ?_
 unfold F62 at h
 show VW _ _ _ _ _ (retQ _ _ _ _) _
 refine nR K (tn 1) ?_
 refine VW.join (fun s => s = ⟨[(0, S a0), (1, S a1)], []⟩ ∧ F62_j0 N a0 a1 = some r) ?_ ?_
 ·refine nR K (tn 1) <| VW.block <| lop (fun k s => ∃ x36, s = ⟨[(0, S a0), (1, S a1), (5, I x36)], []⟩ ∧ F62_l0 N a0 a1 k x36 = some r) N [.ren [0, 1, 5] []] ⟨(0 : Int), rfl, h⟩ ?_
  rintro k45 s ⟨x36, rfl, h⟩
  cases k45 with
  | zero => cases show none = some r from h
  | succ k45 =>
   replace h : F62_l0_b N a0 a1 (F62_l0 N a0 a1 k45) x36 = some r := h
   unfold F62_l0_b at h
   refine sq <| sq <| VW.region <| nG K 5 (tn 5) ?_
   refine spC 10 h ?_ ?_<;>intro h
   ·refine nN K (tn 5) ?_
    refine cnd h ?_ ?_<;>intro h
    ·refine VW.skip <| sq <| VW.block <| sq ?_
     obtain⟨g50,h⟩:=gS h
     obtain⟨g51,h⟩:=gS h
     refine dr K [] [] [] [0, 1, 5, 24] [] (pu 2 (an g50 (pu 2 (an g51 (tn 1))))) trivial ?_
     refine cnd h ?_ ?_<;>intro h
     ·refine sq ?_
      obtain⟨g52,h⟩:=gS h
      obtain⟨g53,h⟩:=gS h
      refine dr K [] [] [] [4] [] (pu 2 (an g52 (pu 2 (an g53 (tn 2))))) trivial ?_
      cases h; exact VW.ret (rt [])
     refine VW.skip <| nE K (tn 3) ?_
     exact aro [.ren [0, 1, 5] []] ⟨(wr (x36 + (1 : Int))), rfl, h⟩
    refine VW.exit ?_
    exact arv [.ren [0, 1] []] ⟨rfl, h⟩
   refine nN K (tn 5) ?_
   refine VW.cond (b := false) (by kernel_rfl) (fun h' => nomatch h') (fun _ => ?_)
   refine VW.exit ?_
   exact arv [.ren [0, 1] []] ⟨rfl, h⟩
 rintro s ⟨rfl, h⟩
 unfold F62_j0 at h
 refine nR K (tn 6) ?_
 cases h; exact VW.ret (rt [])
def F32_j0 (N : Nat) : Option (Bool) :=
  some true
def F32_j1 (N : Nat) (nx110 : Int → Option (Bool)) (x88 : Int) : Option (Bool) :=
  nx110 (IntKind.i64.wrap (x88 + (1 : Int)))
def F32_l0_b (N : Nat) (a0 : (List Z53)) (nx110 : Int → Option (Bool)) (x88 : Int) : Option (Bool) :=
  cond (decide (x88 < (a0.length : Int))) (gd (InR x88 a0.length) (andO (F61 N ((a0.getD x88.toNat (Ty.dflt Y53)).1)) fun y123 => cond (!y123) (some false) (gd (InR x88 a0.length) (andO (F31 N ((a0.getD x88.toNat (Ty.dflt Y53)).2) (1 : Int) (6 : Int)) fun y126 => cond (!y126) (some false) (cond (decide (x88 > (0 : Int))) (gd (InR (IntKind.i64.wrap (x88 - (1 : Int))) a0.length) (gd (InR x88 a0.length) (andO (F62 N ((a0.getD (IntKind.i64.wrap (x88 - (1 : Int))).toNat (Ty.dflt Y53)).1) ((a0.getD x88.toNat (Ty.dflt Y53)).1)) fun y131 => cond (!y131) (some false) (F32_j1 N nx110 x88)))) (F32_j1 N nx110 x88)))))) (F32_j0 N)
def F32_l0 (N : Nat) (a0 : (List Z53)) := loopF (F32_l0_b N a0) (fun _ => none)
theorem F32_l0_s N a0 {k} (hk : 0 < k) x88 : F32_l0 N a0 k x88 = F32_l0_b N a0 (F32_l0 N a0 (k - 1)) x88 := by cases k;cases hk;rfl
def F32 (N : Nat) (a0 : (List Z53)) : Option (Bool) :=
  cond (decide ((a0.length : Int) > (8 : Int))) (some false) (F32_l0 N a0 N (0 : Int))
theorem ok32 N a0 {r} (h : F32 N a0 = some r) : Con prog 32 [Vv (.sl Y53) a0] [.lf (.v .bool r)] := by
 refine ctr [.lf (.v .bool)] K func32 rfl fun w0 E0 ht => ?_
 unfold F32 at h
 show VW _ _ _ _ _ (retQ _ _ _ _) _
 refine nR K (tn 1) <| sq <| nR K (tn 3) ?_
 refine cnd h ?_ ?_<;>intro h
 ·refine nR K (tn 1) ?_
  cases h; exact VW.ret (rt [])
 refine VW.skip ?_
 refine VW.join (fun s => s = ⟨[], []⟩ ∧ F32_j0 N = some r) ?_ ?_
 ·refine nR K (tn 1) <| VW.block <| lop (fun k s => ∃ x88, s = ⟨[(0, Vv (.sl Y53) a0), (3, I x88)], []⟩ ∧ F32_l0 N a0 k x88 = some r) N [.ren [0, 3] []] ⟨(0 : Int), rfl, h⟩ ?_
  rintro k110 s ⟨x88, rfl, h⟩
  cases k110 with
  | zero => cases show none = some r from h
  | succ k110 =>
   replace h : F32_l0_b N a0 (F32_l0 N a0 k110) x88 = some r := h
   unfold F32_l0_b at h
   refine sq <| nR K (tn 4) ?_
   refine cnd h ?_ ?_<;>intro h
   ·refine VW.skip ?_
    refine VW.join (fun s => s = ⟨[(0, Vv (.sl Y53) a0), (3, I x88)], []⟩ ∧ F32_j1 N (F32_l0 N a0 k110) x88 = some r) ?_ ?_
    ·refine VW.block <| sq ?_
     obtain⟨g122,h⟩:=gS h
     obtain⟨y123,hy123,h⟩:=aS h
     rcases Bool.eq_false_or_eq_true (!y123) with hb124 | hb124
     ·replace h := cond_t h hb124
      refine dr K [(5, .cl [] (some 18) [.lf (.v .bool y123)]), (7, .lit true)] [(5, 0), (7, 0)] [] [0, 3, 47] [] (pu 2 (an g122 (tn 32))) ⟨qC false [.t .str] [] [] (some 18) K (ok61 N _ hy123), qB 20 hb124 K trivial, trivial⟩ ?_
      refine VW.cond (b := true) (by kernel_rfl) (fun _ => ?_) (fun h' => nomatch h')
      refine nR K (tn 1) ?_
      cases h; exact VW.ret (rt [])
     replace h := cond_f h hb124
     obtain⟨g125,h⟩:=gS h
     obtain⟨y126,hy126,h⟩:=aS h
     rcases Bool.eq_false_or_eq_true (!y126) with hb127 | hb127
     ·replace h := cond_t h hb127
      refine dr K [(5, .cl [] (some 18) [.lf (.v .bool y123)]), (7, .lit false), (13, .cl [] (some 26) [.lf (.v .bool y126)]), (16, .lit true)] [(5, 0), (7, 0), (13, 0), (16, 0)] [] [0, 3, 47] [] (pu 2 (an g122 (pu 7 (an g125 (tn 24))))) ⟨qC false [.t .str] [] [] (some 18) K (ok61 N _ hy123), qB 20 hb124 K trivial, qC false [.t (.int .i64), .t (.int .i64), .t (.int .i64)] [] [] (some 26) K (ok31 N _ _ _ hy126), qB 29 hb127 K trivial, trivial⟩ ?_
      refine VW.cond (b := true) (by kernel_rfl) (fun _ => ?_) (fun h' => nomatch h')
      refine nR K (tn 1) ?_
      cases h; exact VW.ret (rt [])
     replace h := cond_f h hb127
     rcases Bool.eq_false_or_eq_true (decide (x88 > (0 : Int))) with hb128 | hb128
     ·replace h := cond_t h hb128
      obtain⟨g129,h⟩:=gS h
      obtain⟨g130,h⟩:=gS h
      obtain⟨y131,hy131,h⟩:=aS h
      refine dr K [(5, .cl [] (some 18) [.lf (.v .bool y123)]), (7, .lit false), (13, .cl [] (some 26) [.lf (.v .bool y126)]), (16, .lit false), (19, .lit true), (31, .cl [] (some 44) [.lf (.v .bool y131)])] [(5, 0), (7, 0), (13, 0), (16, 0), (19, 0), (31, 0)] [] [0, 3, 47] [] (pu 2 (an g122 (pu 7 (an g125 (pu 12 (an g129 (pu 4 (an g130 (tn 6))))))))) ⟨qC false [.t .str] [] [] (some 18) K (ok61 N _ hy123), qB 20 hb124 K trivial, qC false [.t (.int .i64), .t (.int .i64), .t (.int .i64)] [] [] (some 26) K (ok31 N _ _ _ hy126), qB 29 hb127 K trivial, qB 32 hb128 K trivial, qC false [.t .str, .t .str] [] [] (some 44) K (ok62 N _ _ hy131), trivial⟩ ?_
      refine cnd h ?_ ?_<;>intro h
      ·refine nR K (tn 1) ?_
       cases h; exact VW.ret (rt [])
      refine VW.skip ?_
      exact arv [.ren [0, 3] []] ⟨rfl, h⟩
     replace h := cond_f h hb128
     refine dr K [(5, .cl [] (some 18) [.lf (.v .bool y123)]), (7, .lit false), (13, .cl [] (some 26) [.lf (.v .bool y126)]), (16, .lit false), (19, .lit false)] [(5, 0), (7, 0), (13, 0), (16, 0), (19, 0)] [] [0, 3, 47] [] (pu 2 (an g122 (pu 7 (an g125 (tn 24))))) ⟨qC false [.t .str] [] [] (some 18) K (ok61 N _ hy123), qB 20 hb124 K trivial, qC false [.t (.int .i64), .t (.int .i64), .t (.int .i64)] [] [] (some 26) K (ok31 N _ _ _ hy126), qB 29 hb127 K trivial, qB 32 hb128 K trivial, trivial⟩ ?_
     refine VW.cond (b := false) (by kernel_rfl) (fun h' => nomatch h') (fun _ => ?_)
     refine VW.skip ?_
     exact arv [.ren [0, 3] []] ⟨rfl, h⟩
    rintro s ⟨rfl, h⟩
    unfold F32_j1 at h
    refine nE K (tn 3) ?_
    exact aro [.ren [0, 3] []] ⟨(wr (x88 + (1 : Int))), rfl, h⟩
   refine VW.exit ?_
   exact arv [.ren [] []] ⟨rfl, h⟩
 rintro s ⟨rfl, h⟩
 unfold F32_j0 at h
 refine nR K (tn 1) ?_
 cases h; exact VW.ret (rt [])
def F33 (N : Nat) (a0 : Int) : Option (Bool) :=
  andO (F31 N a0 (0 : Int) (1000 : Int)) fun y1 => some y1
theorem ok33 N a0 {r} (h : F33 N a0 = some r) : Con prog 33 [I a0] [.lf (.v .bool r)] := by
 refine ctr [.lf (.v .bool)] K func33 rfl fun w0 E0 ht => ?_
 unfold F33 at h
 show VW _ _ _ _ _ (retQ _ _ _ _) _
 refine nR K (tn 1) <| sq <| VW.region <| nG K 1 (tn 1) ?_
 obtain⟨y1,hy,h⟩:=aS h
 refine clc false [.t (.int .i64), .t (.int .i64), .t (.int .i64)] [] (some 4) K (ok31 N _ _ _ hy) <| nN K (tn 1) ?_
 cases h; exact VW.ret (rt [])
def F34 (N : Nat) (a0 : Int) : Option (Bool) :=
  andO (F31 N a0 (0 : Int) (1000000 : Int)) fun y1 => some y1
theorem ok34 N a0 {r} (h : F34 N a0 = some r) : Con prog 34 [I a0] [.lf (.v .bool r)] := by
 refine ctr [.lf (.v .bool)] K func34 rfl fun w0 E0 ht => ?_
 unfold F34 at h
 show VW _ _ _ _ _ (retQ _ _ _ _) _
 refine nR K (tn 1) <| sq <| VW.region <| nG K 1 (tn 1) ?_
 obtain⟨y1,hy,h⟩:=aS h
 refine clc false [.t (.int .i64), .t (.int .i64), .t (.int .i64)] [] (some 4) K (ok31 N _ _ _ hy) <| nN K (tn 1) ?_
 cases h; exact VW.ret (rt [])
def F109 (N : Nat) (a0 : Int) : Option (Bool) :=
  andO (F31 N a0 (-1000000 : Int) (1000000 : Int)) fun y1 => some y1
theorem ok109 N a0 {r} (h : F109 N a0 = some r) : Con prog 109 [I a0] [.lf (.v .bool r)] := by
 refine ctr [.lf (.v .bool)] K func109 rfl fun w0 E0 ht => ?_
 unfold F109 at h
 show VW _ _ _ _ _ (retQ _ _ _ _) _
 refine nR K (tn 1) <| sq <| VW.region <| nG K 1 (tn 1) ?_
 obtain⟨y1,hy,h⟩:=aS h
 refine clc false [.t (.int .i64), .t (.int .i64), .t (.int .i64)] [] (some 4) K (ok31 N _ _ _ hy) <| nN K (tn 1) ?_
 cases h; exact VW.ret (rt [])
def F116 (N : Nat) (a0 : Int) : Option (Bool) :=
  andO (F31 N a0 (0 : Int) (63 : Int)) fun y1 => some y1
theorem ok116 N a0 {r} (h : F116 N a0 = some r) : Con prog 116 [I a0] [.lf (.v .bool r)] := by
 refine ctr [.lf (.v .bool)] K func116 rfl fun w0 E0 ht => ?_
 unfold F116 at h
 show VW _ _ _ _ _ (retQ _ _ _ _) _
 refine nR K (tn 1) <| sq <| VW.region <| nG K 1 (tn 1) ?_
 obtain⟨y1,hy,h⟩:=aS h
 refine clc false [.t (.int .i64), .t (.int .i64), .t (.int .i64)] [] (some 4) K (ok31 N _ _ _ hy) <| nN K (tn 1) ?_
 cases h; exact VW.ret (rt [])
def F90_j0 (N : Nat) : Option (Bool) :=
  some false
def F90_j1 (N : Nat) (x11 : Int) (x13 : Int) (x14 : Bool) (x15 : (List Int)) : Option (Bool) :=
  andO (F31 N (x15.length : Int) (1 : Int) (6 : Int)) fun y75 => cond y75 (cond (x11 == (0 : Int)) (cond (x13 == (0 : Int)) (some (!x14)) (some false)) (some false)) (some false)
def F90_l0_b (N : Nat) (x11 : Int) (x13 : Int) (x14 : Bool) (x15 : (List Int)) (nx86 : Int → Option (Bool)) (x81 : Int) : Option (Bool) :=
  cond (decide (x81 < (x15.length : Int))) (gd (InR x81 x15.length) (andO (F116 N (x15.getD x81.toNat (Ty.dflt (.int .i64)))) fun y90 => cond (!y90) (some false) (nx86 (IntKind.i64.wrap (x81 + (1 : Int)))))) (F90_j1 N x11 x13 x14 x15)
def F90_l0 (N : Nat) (x11 : Int) (x13 : Int) (x14 : Bool) (x15 : (List Int)) := loopF (F90_l0_b N x11 x13 x14 x15) (fun _ => none)
theorem F90_l0_s N x11 x13 x14 x15 {k} (hk : 0 < k) x81 : F90_l0 N x11 x13 x14 x15 k x81 = F90_l0_b N x11 x13 x14 x15 (F90_l0 N x11 x13 x14 x15 (k - 1)) x81 := by cases k;cases hk;rfl
def F90_j2 (N : Nat) (x11 : Int) (x13 : Int) (x14 : Bool) (x95 : Bool) : Option (Bool) :=
  cond x95 (cond (x11 == (0 : Int)) (cond (x13 == (0 : Int)) (some (!x14)) (some false)) (some false)) (F90_j0 N)
def F90_j3 (N : Nat) (x9 : Int) (x10 : ByteArray) (x11 : Int) (x12 : Int) (x13 : Int) (x14 : Bool) (x15 : (List Int)) : Option (Bool) :=
  cond (x9 == (0 : Int)) (andO (F61 N x10) fun y57 => cond y57 (cond (x11 == (0 : Int)) (cond (x13 == (0 : Int)) (some (!x14)) (some false)) (some false)) (some false)) (cond (x9 == (1 : Int)) (andO (F116 N x11) fun y58 => cond y58 (andO (F31 N x12 (0 : Int) (3 : Int)) fun y59 => cond y59 (andO (F109 N x13) fun y60 => cond y60 (cond (x12 != (3 : Int)) (some true) (cond (x13 == (0 : Int)) (some (!x14)) (some false))) (some false)) (some false)) (some false)) (cond (x9 == (2 : Int)) (F90_l0 N x11 x13 x14 x15 N (0 : Int)) (cond (x9 == (3 : Int)) (andO (F116 N x11) fun y91 => cond y91 (andO (F116 N x13) fun y92 => cond y92 (some (!x14)) (some false)) (some false)) (cond (x9 == (5 : Int)) (andO (F116 N x11) fun y93 => cond y93 (cond (x13 == (0 : Int)) (some (!x14)) (some false)) (some false)) (cond (x9 == (6 : Int)) (cond (x11 == (0 : Int)) (andO (F31 N x13 (0 : Int) (1000000 : Int)) fun y94 => some y94) (some false)) (cond (x9 == (4 : Int)) (F90_j2 N x11 x13 x14 (x9 == (4 : Int))) (F90_j2 N x11 x13 x14 (x9 == (7 : Int)))))))))
def F90 (N : Nat) (a0 : Z87) : Option (Bool) :=
  cond (a0.1 != (0 : Int)) (cond (!(a0.2.1.toList == ByteArray.empty.toList)) (some false) (cond (a0.1 != (2 : Int)) (cond (decide ((a0.2.2.2.2.2.2.length : Int) > (0 : Int))) (some false) (cond (a0.1 != (1 : Int)) (cond (a0.2.2.2.1 != (0 : Int)) (some false) (cond a0.2.2.2.2.2.1 (andO (F31 N a0.2.2.2.2.1 (0 : Int) (39 : Int)) fun y98 => cond (!y98) (some false) (F90_j3 N a0.1 a0.2.1 a0.2.2.1 a0.2.2.2.1 a0.2.2.2.2.1 a0.2.2.2.2.2.1 a0.2.2.2.2.2.2)) (F90_j3 N a0.1 a0.2.1 a0.2.2.1 a0.2.2.2.1 a0.2.2.2.2.1 a0.2.2.2.2.2.1 a0.2.2.2.2.2.2))) (cond a0.2.2.2.2.2.1 (andO (F31 N a0.2.2.2.2.1 (0 : Int) (39 : Int)) fun y99 => cond (!y99) (some false) (F90_j3 N a0.1 a0.2.1 a0.2.2.1 a0.2.2.2.1 a0.2.2.2.2.1 a0.2.2.2.2.2.1 a0.2.2.2.2.2.2)) (F90_j3 N a0.1 a0.2.1 a0.2.2.1 a0.2.2.2.1 a0.2.2.2.2.1 a0.2.2.2.2.2.1 a0.2.2.2.2.2.2)))) (cond (a0.1 != (1 : Int)) (cond (a0.2.2.2.1 != (0 : Int)) (some false) (cond a0.2.2.2.2.2.1 (andO (F31 N a0.2.2.2.2.1 (0 : Int) (39 : Int)) fun y100 => cond (!y100) (some false) (F90_j3 N a0.1 a0.2.1 a0.2.2.1 a0.2.2.2.1 a0.2.2.2.2.1 a0.2.2.2.2.2.1 a0.2.2.2.2.2.2)) (F90_j3 N a0.1 a0.2.1 a0.2.2.1 a0.2.2.2.1 a0.2.2.2.2.1 a0.2.2.2.2.2.1 a0.2.2.2.2.2.2))) (cond a0.2.2.2.2.2.1 (andO (F31 N a0.2.2.2.2.1 (0 : Int) (39 : Int)) fun y101 => cond (!y101) (some false) (F90_j3 N a0.1 a0.2.1 a0.2.2.1 a0.2.2.2.1 a0.2.2.2.2.1 a0.2.2.2.2.2.1 a0.2.2.2.2.2.2)) (F90_j3 N a0.1 a0.2.1 a0.2.2.1 a0.2.2.2.1 a0.2.2.2.2.1 a0.2.2.2.2.2.1 a0.2.2.2.2.2.2))))) (cond (a0.1 != (2 : Int)) (cond (decide ((a0.2.2.2.2.2.2.length : Int) > (0 : Int))) (some false) (cond (a0.1 != (1 : Int)) (cond (a0.2.2.2.1 != (0 : Int)) (some false) (cond a0.2.2.2.2.2.1 (andO (F31 N a0.2.2.2.2.1 (0 : Int) (39 : Int)) fun y102 => cond (!y102) (some false) (F90_j3 N a0.1 a0.2.1 a0.2.2.1 a0.2.2.2.1 a0.2.2.2.2.1 a0.2.2.2.2.2.1 a0.2.2.2.2.2.2)) (F90_j3 N a0.1 a0.2.1 a0.2.2.1 a0.2.2.2.1 a0.2.2.2.2.1 a0.2.2.2.2.2.1 a0.2.2.2.2.2.2))) (cond a0.2.2.2.2.2.1 (andO (F31 N a0.2.2.2.2.1 (0 : Int) (39 : Int)) fun y103 => cond (!y103) (some false) (F90_j3 N a0.1 a0.2.1 a0.2.2.1 a0.2.2.2.1 a0.2.2.2.2.1 a0.2.2.2.2.2.1 a0.2.2.2.2.2.2)) (F90_j3 N a0.1 a0.2.1 a0.2.2.1 a0.2.2.2.1 a0.2.2.2.2.1 a0.2.2.2.2.2.1 a0.2.2.2.2.2.2)))) (cond (a0.1 != (1 : Int)) (cond (a0.2.2.2.1 != (0 : Int)) (some false) (cond a0.2.2.2.2.2.1 (andO (F31 N a0.2.2.2.2.1 (0 : Int) (39 : Int)) fun y104 => cond (!y104) (some false) (F90_j3 N a0.1 a0.2.1 a0.2.2.1 a0.2.2.2.1 a0.2.2.2.2.1 a0.2.2.2.2.2.1 a0.2.2.2.2.2.2)) (F90_j3 N a0.1 a0.2.1 a0.2.2.1 a0.2.2.2.1 a0.2.2.2.2.1 a0.2.2.2.2.2.1 a0.2.2.2.2.2.2))) (cond a0.2.2.2.2.2.1 (andO (F31 N a0.2.2.2.2.1 (0 : Int) (39 : Int)) fun y105 => cond (!y105) (some false) (F90_j3 N a0.1 a0.2.1 a0.2.2.1 a0.2.2.2.1 a0.2.2.2.2.1 a0.2.2.2.2.2.1 a0.2.2.2.2.2.2)) (F90_j3 N a0.1 a0.2.1 a0.2.2.1 a0.2.2.2.1 a0.2.2.2.2.1 a0.2.2.2.2.2.1 a0.2.2.2.2.2.2))))
theorem ok90 N a0 {r} (h : F90 N a0 = some r) : Con prog 90 [.agg (lv Y87 a0)] [.lf (.v .bool r)] := by
 refine ctr [.lf (.v .bool)] K func90 rfl fun w0 E0 ht => ?_
 unfold F90 at h
 show VW _ _ _ _ _ (retQ _ _ _ _) _
 refine nR K (tn 2) ?_
 refine VW.join (fun s => ∃ x9 x10 x11 x12 x13 x14 x15, s = ⟨[(1, .lf (.ptr 0 0 0 0))], [bx [zi x9, zs x10, zi x11, zi x12, zi x13, zb x14, .v (.sl (.int .i64)) x15] 88]⟩ ∧ F90_j3 N x9 x10 x11 x12 x13 x14 x15 = some r) ?_ ?_
 ·refine sq <| VW.region <| nG K 4 (tn 4) ?_
  refine spC 7 h ?_ ?_<;>intro h
  ·refine nG K 5 (tn 5) ?_
   refine spC 12 h ?_ ?_<;>intro h
   ·refine nN K (tn 30) ?_
    refine VW.cond (b := true) (by kernel_rfl) (fun _ => ?_) (fun h' => nomatch h')
    refine nR K (tn 1) ?_
    cases h; exact VW.ret (rt [])
   refine nG K 4 (tn 4) ?_
   refine spC 16 h ?_ ?_<;>intro h
   ·refine nG K 7 (tn 7) ?_
    refine spC 23 h ?_ ?_<;>intro h
    ·refine nN K (tn 19) ?_
     refine VW.cond (b := true) (by kernel_rfl) (fun _ => ?_) (fun h' => nomatch h')
     refine nR K (tn 1) ?_
     cases h; exact VW.ret (rt [])
    refine nG K 4 (tn 4) ?_
    refine spC 27 h ?_ ?_<;>intro h
    ·refine nG K 6 (tn 6) ?_
     refine spC 33 h ?_ ?_<;>intro h
     ·refine nN K (tn 9) ?_
      refine VW.cond (b := true) (by kernel_rfl) (fun _ => ?_) (fun h' => nomatch h')
      refine nR K (tn 1) ?_
      cases h; exact VW.ret (rt [])
     refine nG K 3 (tn 3) ?_
     refine spC 36 h ?_ ?_<;>intro h
     ·refine nG K 2 (tn 2) <| VO.on (j := 32) (want := true) (d := 36) (b := true) rfl rfl rfl (by kernel_rfl) rfl ?_
      obtain⟨y98,hy,h⟩:=aS h
      refine clc false [.t (.int .i64), .t (.int .i64), .t (.int .i64)] [] (some 39) K (ok31 N _ _ _ hy) <| nN K (tn 3) ?_
      refine cnd h ?_ ?_<;>intro h
      ·refine nR K (tn 1) ?_
       cases h; exact VW.ret (rt [])
      refine VW.skip ?_
      exact arv [.ren [1] [0]] ⟨a0.1, a0.2.1, a0.2.2.1, a0.2.2.2.1, a0.2.2.2.2.1, a0.2.2.2.2.2.1, a0.2.2.2.2.2.2, rfl, h⟩
     refine nN K (tn 6) ?_
     refine VW.cond (b := false) (by kernel_rfl) (fun h' => nomatch h') (fun _ => ?_)
     refine VW.skip ?_
     exact arv [.ren [1] [0]] ⟨a0.1, a0.2.1, a0.2.2.1, a0.2.2.2.1, a0.2.2.2.2.1, a0.2.2.2.2.2.1, a0.2.2.2.2.2.2, rfl, h⟩
    refine nG K 9 (tn 9) ?_
    refine spC 36 h ?_ ?_<;>intro h
    ·refine nG K 2 (tn 2) <| VO.on (j := 32) (want := true) (d := 36) (b := true) rfl rfl rfl (by kernel_rfl) rfl ?_
     obtain⟨y99,hy,h⟩:=aS h
     refine clc false [.t (.int .i64), .t (.int .i64), .t (.int .i64)] [] (some 39) K (ok31 N _ _ _ hy) <| nN K (tn 3) ?_
     refine cnd h ?_ ?_<;>intro h
     ·refine nR K (tn 1) ?_
      cases h; exact VW.ret (rt [])
     refine VW.skip ?_
     exact arv [.ren [1] [0]] ⟨a0.1, a0.2.1, a0.2.2.1, a0.2.2.2.1, a0.2.2.2.2.1, a0.2.2.2.2.2.1, a0.2.2.2.2.2.2, rfl, h⟩
    refine nN K (tn 6) ?_
    refine VW.cond (b := false) (by kernel_rfl) (fun h' => nomatch h') (fun _ => ?_)
    refine VW.skip ?_
    exact arv [.ren [1] [0]] ⟨a0.1, a0.2.1, a0.2.2.1, a0.2.2.2.1, a0.2.2.2.2.1, a0.2.2.2.2.2.1, a0.2.2.2.2.2.2, rfl, h⟩
   refine nG K 11 (tn 11) ?_
   refine spC 27 h ?_ ?_<;>intro h
   ·refine nG K 6 (tn 6) ?_
    refine spC 33 h ?_ ?_<;>intro h
    ·refine nN K (tn 9) ?_
     refine VW.cond (b := true) (by kernel_rfl) (fun _ => ?_) (fun h' => nomatch h')
     refine nR K (tn 1) ?_
     cases h; exact VW.ret (rt [])
    refine nG K 3 (tn 3) ?_
    refine spC 36 h ?_ ?_<;>intro h
    ·refine nG K 2 (tn 2) <| VO.on (j := 32) (want := true) (d := 36) (b := true) rfl rfl rfl (by kernel_rfl) rfl ?_
     obtain⟨y100,hy,h⟩:=aS h
     refine clc false [.t (.int .i64), .t (.int .i64), .t (.int .i64)] [] (some 39) K (ok31 N _ _ _ hy) <| nN K (tn 3) ?_
     refine cnd h ?_ ?_<;>intro h
     ·refine nR K (tn 1) ?_
      cases h; exact VW.ret (rt [])
     refine VW.skip ?_
     exact arv [.ren [1] [0]] ⟨a0.1, a0.2.1, a0.2.2.1, a0.2.2.2.1, a0.2.2.2.2.1, a0.2.2.2.2.2.1, a0.2.2.2.2.2.2, rfl, h⟩
    refine nN K (tn 6) ?_
    refine VW.cond (b := false) (by kernel_rfl) (fun h' => nomatch h') (fun _ => ?_)
    refine VW.skip ?_
    exact arv [.ren [1] [0]] ⟨a0.1, a0.2.1, a0.2.2.1, a0.2.2.2.1, a0.2.2.2.2.1, a0.2.2.2.2.2.1, a0.2.2.2.2.2.2, rfl, h⟩
   refine nG K 9 (tn 9) ?_
   refine spC 36 h ?_ ?_<;>intro h
   ·refine nG K 2 (tn 2) <| VO.on (j := 32) (want := true) (d := 36) (b := true) rfl rfl rfl (by kernel_rfl) rfl ?_
    obtain⟨y101,hy,h⟩:=aS h
    refine clc false [.t (.int .i64), .t (.int .i64), .t (.int .i64)] [] (some 39) K (ok31 N _ _ _ hy) <| nN K (tn 3) ?_
    refine cnd h ?_ ?_<;>intro h
    ·refine nR K (tn 1) ?_
     cases h; exact VW.ret (rt [])
    refine VW.skip ?_
    exact arv [.ren [1] [0]] ⟨a0.1, a0.2.1, a0.2.2.1, a0.2.2.2.1, a0.2.2.2.2.1, a0.2.2.2.2.2.1, a0.2.2.2.2.2.2, rfl, h⟩
   refine nN K (tn 6) ?_
   refine VW.cond (b := false) (by kernel_rfl) (fun h' => nomatch h') (fun _ => ?_)
   refine VW.skip ?_
   exact arv [.ren [1] [0]] ⟨a0.1, a0.2.1, a0.2.2.1, a0.2.2.2.1, a0.2.2.2.2.1, a0.2.2.2.2.2.1, a0.2.2.2.2.2.2, rfl, h⟩
  refine nG K 9 (tn 9) ?_
  refine spC 16 h ?_ ?_<;>intro h
  ·refine nG K 7 (tn 7) ?_
   refine spC 23 h ?_ ?_<;>intro h
   ·refine nN K (tn 19) ?_
    refine VW.cond (b := true) (by kernel_rfl) (fun _ => ?_) (fun h' => nomatch h')
    refine nR K (tn 1) ?_
    cases h; exact VW.ret (rt [])
   refine nG K 4 (tn 4) ?_
   refine spC 27 h ?_ ?_<;>intro h
   ·refine nG K 6 (tn 6) ?_
    refine spC 33 h ?_ ?_<;>intro h
    ·refine nN K (tn 9) ?_
     refine VW.cond (b := true) (by kernel_rfl) (fun _ => ?_) (fun h' => nomatch h')
     refine nR K (tn 1) ?_
     cases h; exact VW.ret (rt [])
    refine nG K 3 (tn 3) ?_
    refine spC 36 h ?_ ?_<;>intro h
    ·refine nG K 2 (tn 2) <| VO.on (j := 32) (want := true) (d := 36) (b := true) rfl rfl rfl (by kernel_rfl) rfl ?_
     obtain⟨y102,hy,h⟩:=aS h
     refine clc false [.t (.int .i64), .t (.int .i64), .t (.int .i64)] [] (some 39) K (ok31 N _ _ _ hy) <| nN K (tn 3) ?_
     refine cnd h ?_ ?_<;>intro h
     ·refine nR K (tn 1) ?_
      cases h; exact VW.ret (rt [])
     refine VW.skip ?_
     exact arv [.ren [1] [0]] ⟨a0.1, a0.2.1, a0.2.2.1, a0.2.2.2.1, a0.2.2.2.2.1, a0.2.2.2.2.2.1, a0.2.2.2.2.2.2, rfl, h⟩
    refine nN K (tn 6) ?_
    refine VW.cond (b := false) (by kernel_rfl) (fun h' => nomatch h') (fun _ => ?_)
    refine VW.skip ?_
    exact arv [.ren [1] [0]] ⟨a0.1, a0.2.1, a0.2.2.1, a0.2.2.2.1, a0.2.2.2.2.1, a0.2.2.2.2.2.1, a0.2.2.2.2.2.2, rfl, h⟩
   refine nG K 9 (tn 9) ?_
   refine spC 36 h ?_ ?_<;>intro h
   ·refine nG K 2 (tn 2) <| VO.on (j := 32) (want := true) (d := 36) (b := true) rfl rfl rfl (by kernel_rfl) rfl ?_
    obtain⟨y103,hy,h⟩:=aS h
    refine clc false [.t (.int .i64), .t (.int .i64), .t (.int .i64)] [] (some 39) K (ok31 N _ _ _ hy) <| nN K (tn 3) ?_
    refine cnd h ?_ ?_<;>intro h
    ·refine nR K (tn 1) ?_
     cases h; exact VW.ret (rt [])
    refine VW.skip ?_
    exact arv [.ren [1] [0]] ⟨a0.1, a0.2.1, a0.2.2.1, a0.2.2.2.1, a0.2.2.2.2.1, a0.2.2.2.2.2.1, a0.2.2.2.2.2.2, rfl, h⟩
   refine nN K (tn 6) ?_
   refine VW.cond (b := false) (by kernel_rfl) (fun h' => nomatch h') (fun _ => ?_)
   refine VW.skip ?_
   exact arv [.ren [1] [0]] ⟨a0.1, a0.2.1, a0.2.2.1, a0.2.2.2.1, a0.2.2.2.2.1, a0.2.2.2.2.2.1, a0.2.2.2.2.2.2, rfl, h⟩
  refine nG K 11 (tn 11) ?_
  refine spC 27 h ?_ ?_<;>intro h
  ·refine nG K 6 (tn 6) ?_
   refine spC 33 h ?_ ?_<;>intro h
   ·refine nN K (tn 9) ?_
    refine VW.cond (b := true) (by kernel_rfl) (fun _ => ?_) (fun h' => nomatch h')
    refine nR K (tn 1) ?_
    cases h; exact VW.ret (rt [])
   refine nG K 3 (tn 3) ?_
   refine spC 36 h ?_ ?_<;>intro h
   ·refine nG K 2 (tn 2) <| VO.on (j := 32) (want := true) (d := 36) (b := true) rfl rfl rfl (by kernel_rfl) rfl ?_
    obtain⟨y104,hy,h⟩:=aS h
    refine clc false [.t (.int .i64), .t (.int .i64), .t (.int .i64)] [] (some 39) K (ok31 N _ _ _ hy) <| nN K (tn 3) ?_
    refine cnd h ?_ ?_<;>intro h
    ·refine nR K (tn 1) ?_
     cases h; exact VW.ret (rt [])
    refine VW.skip ?_
    exact arv [.ren [1] [0]] ⟨a0.1, a0.2.1, a0.2.2.1, a0.2.2.2.1, a0.2.2.2.2.1, a0.2.2.2.2.2.1, a0.2.2.2.2.2.2, rfl, h⟩
   refine nN K (tn 6) ?_
   refine VW.cond (b := false) (by kernel_rfl) (fun h' => nomatch h') (fun _ => ?_)
   refine VW.skip ?_
   exact arv [.ren [1] [0]] ⟨a0.1, a0.2.1, a0.2.2.1, a0.2.2.2.1, a0.2.2.2.2.1, a0.2.2.2.2.2.1, a0.2.2.2.2.2.2, rfl, h⟩
  refine nG K 9 (tn 9) ?_
  refine spC 36 h ?_ ?_<;>intro h
  ·refine nG K 2 (tn 2) <| VO.on (j := 32) (want := true) (d := 36) (b := true) rfl rfl rfl (by kernel_rfl) rfl ?_
   obtain⟨y105,hy,h⟩:=aS h
   refine clc false [.t (.int .i64), .t (.int .i64), .t (.int .i64)] [] (some 39) K (ok31 N _ _ _ hy) <| nN K (tn 3) ?_
   refine cnd h ?_ ?_<;>intro h
   ·refine nR K (tn 1) ?_
    cases h; exact VW.ret (rt [])
   refine VW.skip ?_
   exact arv [.ren [1] [0]] ⟨a0.1, a0.2.1, a0.2.2.1, a0.2.2.2.1, a0.2.2.2.2.1, a0.2.2.2.2.2.1, a0.2.2.2.2.2.2, rfl, h⟩
  refine nN K (tn 6) ?_
  refine VW.cond (b := false) (by kernel_rfl) (fun h' => nomatch h') (fun _ => ?_)
  refine VW.skip ?_
  exact arv [.ren [1] [0]] ⟨a0.1, a0.2.1, a0.2.2.1, a0.2.2.2.1, a0.2.2.2.2.1, a0.2.2.2.2.2.1, a0.2.2.2.2.2.2, rfl, h⟩
 rintro s ⟨x9, x10, x11, x12, x13, x14, x15, rfl, h⟩
 unfold F90_j3 at h
 refine VW.join (fun s => s = ⟨[], []⟩ ∧ F90_j0 N = some r) ?_ ?_
 ·refine nR K (tn 2) <| VW.block <| nR K (tn 2) ?_
  refine cnd h ?_ ?_<;>intro h
  ·refine sq <| VW.region <| nG K 2 (tn 2) ?_
   obtain⟨y57,hy,h⟩:=aS h
   refine clc false [.t .str] [] (some 49) K (ok61 N _ hy) <| nG K 1 (tn 1) ?_
   refine spC 50 h ?_ ?_<;>intro h
   ·refine nG K 5 (tn 5) ?_
    refine spC 55 h ?_ ?_<;>intro h
    ·refine nG K 5 (tn 5) ?_
     refine spC 60 h ?_ ?_<;>intro h
     ·refine nN K (tn 5) ?_
      cases h; exact VW.ret (rt [])
     refine nN K (tn 5) ?_
     cases h; exact VW.ret (rt [])
    refine nN K (tn 10) ?_
    cases h; exact VW.ret (rt [])
   refine nN K (tn 15) ?_
   cases h; exact VW.ret (rt [])
  refine nR K (tn 2) ?_
  refine cnd h ?_ ?_<;>intro h
  ·refine sq <| VW.region <| nG K 2 (tn 2) ?_
   obtain⟨y58,hy,h⟩:=aS h
   refine clc false [.t (.int .i64)] [] (some 69) K (ok116 N _ hy) <| nG K 1 (tn 1) ?_
   refine spC 70 h ?_ ?_<;>intro h
   ·refine nG K 2 (tn 2) <| VO.on (j := 3) (want := true) (d := 70) (b := true) rfl rfl rfl (by kernel_rfl) rfl ?_
    obtain⟨y59,hy,h⟩:=aS h
    refine clc false [.t (.int .i64), .t (.int .i64), .t (.int .i64)] [] (some 73) K (ok31 N _ _ _ hy) <| nG K 2 (tn 2) ?_
    refine spC 75 h ?_ ?_<;>intro h
    ·refine nG K 2 (tn 2) <| VO.on (j := 8) (want := true) (d := 75) (b := true) rfl rfl rfl (by kernel_rfl) rfl ?_
     obtain⟨y60,hy,h⟩:=aS h
     refine clc false [.t (.int .i64)] [] (some 78) K (ok109 N _ hy) <| nG K 2 (tn 2) ?_
     refine spC 80 h ?_ ?_<;>intro h
     ·refine nG K 4 (tn 4) ?_
      refine spC 84 h ?_ ?_<;>intro h
      ·refine nN K (tn 11) ?_
       cases h; exact VW.ret (rt [])
      refine nG K 4 (tn 4) ?_
      refine spC 88 h ?_ ?_<;>intro h
      ·refine nN K (tn 7) ?_
       cases h; exact VW.ret (rt [])
      refine nN K (tn 7) ?_
      cases h; exact VW.ret (rt [])
     refine nN K (tn 15) ?_
     cases h; exact VW.ret (rt [])
    refine nN K (tn 20) ?_
    cases h; exact VW.ret (rt [])
   refine nN K (tn 25) ?_
   cases h; exact VW.ret (rt [])
  refine nR K (tn 2) ?_
  refine cnd h ?_ ?_<;>intro h
  ·refine VW.join (fun s => s = ⟨[(1, .lf (.ptr 0 0 0 0))], [bx [zi x9, zs x10, zi x11, zi x12, zi x13, zb x14, .v (.sl (.int .i64)) x15] 88]⟩ ∧ F90_j1 N x11 x13 x14 x15 = some r) ?_ ?_
   ·refine nR K (tn 1) <| VW.block <| lop (fun k s => ∃ x81, s = ⟨[(1, .lf (.ptr 0 0 0 0)), (3, I x81)], [bx [zi x9, zs x10, zi x11, zi x12, zi x13, zb x14, .v (.sl (.int .i64)) x15] 88]⟩ ∧ F90_l0 N x11 x13 x14 x15 k x81 = some r) N [.ren [1, 3] [0]] ⟨(0 : Int), rfl, h⟩ ?_
    rintro k86 s ⟨x81, rfl, h⟩
    cases k86 with
    | zero => cases show none = some r from h
    | succ k86 =>
     replace h : F90_l0_b N x11 x13 x14 x15 (F90_l0 N x11 x13 x14 x15 k86) x81 = some r := h
     unfold F90_l0_b at h
     refine sq <| nR K (tn 5) ?_
     refine cnd h ?_ ?_<;>intro h
     ·refine VW.skip <| sq <| VW.block <| sq <| VW.region ?_
      obtain⟨g89,h⟩:=gS h
      refine nG K 5 (pu 3 (an g89 (tn 1))) ?_
      obtain⟨y90,hy,h⟩:=aS h
      refine clc false [.t (.int .i64)] [] (some 109) K (ok116 N _ hy) <| nN K (tn 1) ?_
      refine cnd h ?_ ?_<;>intro h
      ·refine nR K (tn 1) ?_
       cases h; exact VW.ret (rt [])
      refine VW.skip <| nE K (tn 3) ?_
      exact aro [.ren [1, 3] [0]] ⟨(wr (x81 + (1 : Int))), rfl, h⟩
     refine VW.exit ?_
     exact arv [.ren [1] [0]] ⟨rfl, h⟩
   rintro s ⟨rfl, h⟩
   unfold F90_j1 at h
   refine sq <| VW.region <| nG K 3 (tn 3) ?_
   obtain⟨y75,hy,h⟩:=aS h
   refine clc false [.t (.int .i64), .t (.int .i64), .t (.int .i64)] [] (some 114) K (ok31 N _ _ _ hy) <| nG K 1 (tn 1) ?_
   refine spC 115 h ?_ ?_<;>intro h
   ·refine nG K 5 (tn 5) ?_
    refine spC 120 h ?_ ?_<;>intro h
    ·refine nG K 5 (tn 5) ?_
     refine spC 125 h ?_ ?_<;>intro h
     ·refine nN K (tn 5) ?_
      cases h; exact VW.ret (rt [])
     refine nN K (tn 5) ?_
     cases h; exact VW.ret (rt [])
    refine nN K (tn 10) ?_
    cases h; exact VW.ret (rt [])
   refine nN K (tn 15) ?_
   cases h; exact VW.ret (rt [])
  refine nR K (tn 2) ?_
  refine cnd h ?_ ?_<;>intro h
  ·refine sq <| VW.region <| nG K 2 (tn 2) ?_
   obtain⟨y91,hy,h⟩:=aS h
   refine clc false [.t (.int .i64)] [] (some 134) K (ok116 N _ hy) <| nG K 1 (tn 1) ?_
   refine spC 135 h ?_ ?_<;>intro h
   ·refine nG K 2 (tn 2) <| VO.on (j := 3) (want := true) (d := 135) (b := true) rfl rfl rfl (by kernel_rfl) rfl ?_
    obtain⟨y92,hy,h⟩:=aS h
    refine clc false [.t (.int .i64)] [] (some 138) K (ok116 N _ hy) <| nG K 2 (tn 2) ?_
    refine spC 140 h ?_ ?_<;>intro h
    ·refine nN K (tn 5) ?_
     cases h; exact VW.ret (rt [])
    refine nN K (tn 5) ?_
    cases h; exact VW.ret (rt [])
   refine nN K (tn 10) ?_
   cases h; exact VW.ret (rt [])
  refine nR K (tn 2) ?_
  refine cnd h ?_ ?_<;>intro h
  ·refine sq <| VW.region <| nG K 2 (tn 2) ?_
   obtain⟨y93,hy,h⟩:=aS h
   refine clc false [.t (.int .i64)] [] (some 149) K (ok116 N _ hy) <| nG K 1 (tn 1) ?_
   refine spC 150 h ?_ ?_<;>intro h
   ·refine nG K 5 (tn 5) ?_
    refine spC 155 h ?_ ?_<;>intro h
    ·refine nN K (tn 5) ?_
     cases h; exact VW.ret (rt [])
    refine nN K (tn 5) ?_
    cases h; exact VW.ret (rt [])
   refine nN K (tn 10) ?_
   cases h; exact VW.ret (rt [])
  refine nR K (tn 2) ?_
  refine cnd h ?_ ?_<;>intro h
  ·refine sq <| VW.region <| nG K 4 (tn 4) ?_
   refine spC 165 h ?_ ?_<;>intro h
   ·refine nG K 2 (tn 2) <| VO.on (j := 3) (want := true) (d := 165) (b := true) rfl rfl rfl (by kernel_rfl) rfl ?_
    obtain⟨y94,hy,h⟩:=aS h
    refine clc false [.t (.int .i64), .t (.int .i64), .t (.int .i64)] [] (some 168) K (ok31 N _ _ _ hy) <| nN K (tn 2) ?_
    cases h; exact VW.ret (rt [])
   refine nN K (tn 5) ?_
   cases h; exact VW.ret (rt [])
  refine VW.join (fun s => ∃ x95, s = ⟨[(1, .lf (.ptr 0 0 0 0)), (170, B x95)], [bx [zi x9, zs x10, zi x11, zi x12, zi x13, zb x14, .v (.sl (.int .i64)) x15] 88]⟩ ∧ F90_j2 N x11 x13 x14 x95 = some r) ?_ ?_
  ·refine nR K (tn 2) ?_
   refine cnd h ?_ ?_<;>intro h
   ·refine VW.skip ?_
    exact arv [.ren [1, 170] [0]] ⟨(x9 == (4 : Int)), rfl, h⟩
   refine nE K (tn 2) ?_
   exact arv [.ren [1, 170] [0]] ⟨(x9 == (7 : Int)), rfl, h⟩
  rintro s ⟨x95, rfl, h⟩
  unfold F90_j2 at h
  refine cnd h ?_ ?_<;>intro h
  ·refine sq <| VW.region <| nG K 4 (tn 4) ?_
   refine spC 176 h ?_ ?_<;>intro h
   ·refine nG K 5 (tn 5) ?_
    refine spC 181 h ?_ ?_<;>intro h
    ·refine nN K (tn 5) ?_
     cases h; exact VW.ret (rt [])
    refine nN K (tn 5) ?_
    cases h; exact VW.ret (rt [])
   refine nN K (tn 10) ?_
   cases h; exact VW.ret (rt [])
  refine VW.skip ?_
  exact arv [.ren [] []] ⟨rfl, h⟩
 rintro s ⟨rfl, h⟩
 unfold F90_j0 at h
 refine nR K (tn 1) ?_
 cases h; exact VW.ret (rt [])
def F117_j0 (N : Nat) (x6 : Bool) : Option (Int) :=
  cond x6 (some (1 : Int)) (some (-1 : Int))
def F117_j1 (N : Nat) (a0 : Int) (x5 : Bool) : Option (Int) :=
  cond x5 (some (2 : Int)) (cond (a0 == (1 : Int)) (F117_j0 N (a0 == (1 : Int))) (cond (a0 == (2 : Int)) (F117_j0 N (a0 == (2 : Int))) (cond (a0 == (5 : Int)) (F117_j0 N (a0 == (5 : Int))) (cond (a0 == (6 : Int)) (F117_j0 N (a0 == (6 : Int))) (F117_j0 N (a0 == (7 : Int)))))))
def F117 (N : Nat) (a0 : Int) : Option (Int) :=
  cond (a0 == (0 : Int)) (some (0 : Int)) (cond (a0 == (3 : Int)) (F117_j1 N a0 (a0 == (3 : Int))) (F117_j1 N a0 (a0 == (4 : Int))))
theorem ok117 N a0 {r} (h : F117 N a0 = some r) : Con prog 117 [I a0] [.lf (.v (.int .i64) r)] := by
 refine ctr [.lf (.v (.int .i64))] K func117 rfl fun w0 E0 ht => ?_
 unfold F117 at h
 show VW _ _ _ _ _ (retQ _ _ _ _) _
 refine nR K (tn 1) <| sq <| nR K (tn 1) <| VW.block <| nR K (tn 2) ?_
 refine cnd h ?_ ?_<;>intro h
 ·refine nR K (tn 1) ?_
  cases h; exact VW.ret (rt [])
 refine VW.join (fun s => ∃ x5, s = ⟨[(3, I a0), (6, B x5)], []⟩ ∧ F117_j1 N a0 x5 = some r) ?_ ?_
 ·refine nR K (tn 2) ?_
  refine cnd h ?_ ?_<;>intro h
  ·refine VW.skip ?_
   exact arv [.ren [3, 6] []] ⟨(a0 == (3 : Int)), rfl, h⟩
  refine nE K (tn 2) ?_
  exact arv [.ren [3, 6] []] ⟨(a0 == (4 : Int)), rfl, h⟩
 rintro s ⟨x5, rfl, h⟩
 unfold F117_j1 at h
 refine cnd h ?_ ?_<;>intro h
 ·refine nR K (tn 1) ?_
  cases h; exact VW.ret (rt [])
 refine VW.join (fun s => ∃ x6, s = ⟨[(9, B x6)], []⟩ ∧ F117_j0 N x6 = some r) ?_ ?_
 ·refine nR K (tn 2) ?_
  refine cnd h ?_ ?_<;>intro h
  ·refine VW.skip ?_
   exact arv [.ren [9] []] ⟨(a0 == (1 : Int)), rfl, h⟩
  refine nR K (tn 2) ?_
  refine cnd h ?_ ?_<;>intro h
  ·refine VW.skip ?_
   exact arv [.ren [9] []] ⟨(a0 == (2 : Int)), rfl, h⟩
  refine nR K (tn 2) ?_
  refine cnd h ?_ ?_<;>intro h
  ·refine VW.skip ?_
   exact arv [.ren [9] []] ⟨(a0 == (5 : Int)), rfl, h⟩
  refine nR K (tn 2) ?_
  refine cnd h ?_ ?_<;>intro h
  ·refine VW.skip ?_
   exact arv [.ren [9] []] ⟨(a0 == (6 : Int)), rfl, h⟩
  refine nE K (tn 2) ?_
  exact arv [.ren [9] []] ⟨(a0 == (7 : Int)), rfl, h⟩
 rintro s ⟨x6, rfl, h⟩
 unfold F117_j0 at h
 refine cnd h ?_ ?_<;>intro h
 ·refine nR K (tn 1) ?_
  cases h; exact VW.ret (rt [])
 refine VW.skip <| nR K (tn 1) ?_
 cases h; exact VW.ret (rt [])
def F91_j0 (N : Nat) (x33 : Int) (x34 : Int) : Option (Int × Int) :=
  some (x33, (IntKind.i64.wrap (x34 + (1 : Int))))
def F91_j1 (N : Nat) (nx58 : Int → Int → Int → Option (Int × Int)) (x48 : Int) (x64 : Int) (x65 : Int) : Option (Int × Int) :=
  nx58 x64 x65 (IntKind.i64.wrap (x48 + (1 : Int)))
def F91_l0_b (N : Nat) (a0 : (List Z87)) (a1 : Int) (a2 : Int) (self : (List Z87) → Int → Int → Option (Int × Int)) (nx58 : Int → Int → Int → Option (Int × Int)) (x46 : Int) (x47 : Int) (x48 : Int) : Option (Int × Int) :=
  gd (InR a1 a0.length) (andO (F117 N ((a0.getD a1.toNat (Ty.dflt Y87)).1)) fun y62 => cond (decide (x48 < y62)) (andO (self a0 x46 (IntKind.i64.wrap (a2 - (1 : Int)))) fun y67 => cond (decide (y67.1 < (0 : Int))) (some ((-1 : Int), (0 : Int))) (cond (decide (y67.2 > x47)) (F91_j1 N nx58 x48 y67.1 y67.2) (F91_j1 N nx58 x48 y67.1 x47))) (F91_j0 N x46 x47))
def F91_l0 (N : Nat) (a0 : (List Z87)) (a1 : Int) (a2 : Int) (self : (List Z87) → Int → Int → Option (Int × Int)) := loopF (F91_l0_b N a0 a1 a2 self) (fun _ _ _ => none)
theorem F91_l0_s N a0 a1 a2 (self : (List Z87) → Int → Int → Option (Int × Int)) {k} (hk : 0 < k) x46 x47 x48 : F91_l0 N a0 a1 a2 self k x46 x47 x48 = F91_l0_b N a0 a1 a2 self (F91_l0 N a0 a1 a2 self (k - 1)) x46 x47 x48 := by cases k;cases hk;rfl
def F91_b (N : Nat) (self : (List Z87) → Int → Int → Option (Int × Int)) (a0 : (List Z87)) (a1 : Int) (a2 : Int) : Option (Int × Int) :=
  cond (decide (a1 ≥ (a0.length : Int))) (some ((-1 : Int), (0 : Int))) (cond (a2 == (0 : Int)) (some ((-1 : Int), (0 : Int))) (F91_l0 N a0 a1 a2 self N (IntKind.i64.wrap (a1 + (1 : Int))) (0 : Int) (0 : Int)))
theorem ok91_b (N : Nat) (self : (List Z87) → Int → Int → Option (Int × Int)) (ih : ∀ (a0 : (List Z87)) (a1 : Int) (a2 : Int) (r : Int × Int), self a0 a1 a2 = some r → Con prog 91 [Vv (.sl Y87) a0, I a1, I a2] [.lf (.v (.int .i64) r.1), .lf (.v (.int .i64) r.2)]) (a0 : (List Z87)) (a1 : Int) (a2 : Int) {r : Int × Int} (h : F91_b N self a0 a1 a2 = some r) : Con prog 91 [Vv (.sl Y87) a0, I a1, I a2] [.lf (.v (.int .i64) r.1), .lf (.v (.int .i64) r.2)] := by
 refine ctr [.lf (.v (.int .i64)), .lf (.v (.int .i64))] K func91 rfl fun w0 E0 ht => ?_
 unfold F91_b at h
 show VW _ _ _ _ _ (retQ _ _ _ _) _
 refine nR K (tn 2) <| sq <| sq <| VW.region <| nG K 5 (tn 5) ?_
 refine spC 17 h ?_ ?_<;>intro h
 ·refine nN K (tn 3) ?_
  refine VW.cond (b := true) (by kernel_rfl) (fun _ => ?_) (fun h' => nomatch h')
  refine nR K (tn 2) ?_
  cases h; exact VW.ret (rt [])
 refine nN K (tn 3) ?_
 refine cnd h ?_ ?_<;>intro h
 ·refine nR K (tn 2) ?_
  cases h; exact VW.ret (rt [])
 refine VW.skip <| nR K (tn 3) <| nR K (tn 1) ?_
 refine VW.join (fun s => ∃ x33 x34, s = ⟨[(8, I x33), (9, I x34)], []⟩ ∧ F91_j0 N x33 x34 = some r) ?_ ?_
 ·refine nR K (tn 1) <| VW.block <| lop (fun k s => ∃ x46 x47 x48, s = ⟨[(0, Vv (.sl Y87) a0), (1, I a1), (2, I a2), (8, I x46), (9, I x47), (10, I x48)], []⟩ ∧ F91_l0 N a0 a1 a2 self k x46 x47 x48 = some r) N [.ren [0, 1, 2, 8, 9, 10] []] ⟨(wr (a1 + (1 : Int))), (0 : Int), (0 : Int), rfl, h⟩ ?_
  rintro k58 s ⟨x46, x47, x48, rfl, h⟩
  cases k58 with
  | zero => cases show none = some r from h
  | succ k58 =>
   replace h : F91_l0_b N a0 a1 a2 self (F91_l0 N a0 a1 a2 self k58) x46 x47 x48 = some r := h
   unfold F91_l0_b at h
   refine sq <| sq <| VW.region ?_
   obtain⟨g61,h⟩:=gS h
   refine nG K 6 (pu 3 (an g61 (tn 2))) ?_
   obtain⟨y62,hy,h⟩:=aS h
   refine clc false [.t (.int .i64)] [] (some 29) K (ok117 N _ hy) <| nN K (tn 1) ?_
   refine cnd h ?_ ?_<;>intro h
   ·refine VW.skip ?_
    refine VW.join (fun s => ∃ x64 x65, s = ⟨[(0, Vv (.sl Y87) a0), (1, I a1), (2, I a2), (8, I x64), (9, I x65), (10, I x48)], []⟩ ∧ F91_j1 N (F91_l0 N a0 a1 a2 self k58) x48 x64 x65 = some r) ?_ ?_
    ·refine VW.block <| sq <| VW.region <| nG K 4 (tn 4) ?_
     obtain⟨y67,hy,h⟩:=aS h
     refine clc false [.t (.sl Y87), .t (.int .i64), .t (.int .i64)] [] (some 38) K (ih _ _ _ _ hy) <| nN K (tn 5) <| sq <| nR K (tn 2) ?_
     refine cnd h ?_ ?_<;>intro h
     ·refine nR K (tn 2) ?_
      cases h; exact VW.ret (rt [])
     refine VW.skip <| nR K (tn 2) <| nR K (tn 3) ?_
     refine cnd h ?_ ?_<;>intro h
     ·refine nE K (tn 2) ?_
      exact arv [.ren [0, 1, 2, 8, 9, 10] []] ⟨y67.1, y67.2, rfl, h⟩
     refine VW.skip ?_
     exact arv [.ren [0, 1, 2, 8, 9, 10] []] ⟨y67.1, x47, rfl, h⟩
    rintro s ⟨x64, x65, rfl, h⟩
    unfold F91_j1 at h
    refine nE K (tn 3) ?_
    exact aro [.ren [0, 1, 2, 8, 9, 10] []] ⟨x64, x65, (wr (x48 + (1 : Int))), rfl, h⟩
   refine VW.exit ?_
   exact arv [.ren [8, 9] []] ⟨x46, x47, rfl, h⟩
 rintro s ⟨x33, x34, rfl, h⟩
 unfold F91_j0 at h
 refine nR K (tn 5) ?_
 cases h; exact VW.ret (rt [])
def F91_r (N : Nat) := loopF (F91_b N) (fun _ _ _ => none)
theorem F91_s N {k} (hk : 0 < k) a0 a1 a2 : F91_r N k a0 a1 a2 = F91_b N (F91_r N (k - 1)) a0 a1 a2 := by cases k;cases hk;rfl
def F91 (N : Nat) : (List Z87) → Int → Int → Option (Int × Int) := F91_r N N
theorem ok91_k (N : Nat) : ∀ (k : Nat) (a0 : (List Z87)) (a1 : Int) (a2 : Int) (r : Int × Int), loopF (F91_b N) (fun _ _ _ => none) k a0 a1 a2 = some r → Con prog 91 [Vv (.sl Y87) a0, I a1, I a2] [.lf (.v (.int .i64) r.1), .lf (.v (.int .i64) r.2)]
 | 0, a0, a1, a2, r, h => nomatch (show (none : Option (Int × Int)) = some r from h)
 | k + 1, a0, a1, a2, r, h => ok91_b N _ (ok91_k N k) a0 a1 a2 h
theorem ok91 N a0 a1 a2 {r} (h : F91 N a0 a1 a2 = some r) : Con prog 91 [Vv (.sl Y87) a0, I a1, I a2] [.lf (.v (.int .i64) r.1), .lf (.v (.int .i64) r.2)] := ok91_k N N a0 a1 a2 r h
def F65_j0 (N : Nat) (a0 : (List Z87)) : Option (Bool) :=
  andO (F91 N a0 (0 : Int) (10 : Int)) fun y17 => some (y17.1 == (a0.length : Int))
def F65_l0_b (N : Nat) (a0 : (List Z87)) (nx28 : Int → Option (Bool)) (x23 : Int) : Option (Bool) :=
  cond (decide (x23 < (a0.length : Int))) (gd (InR x23 a0.length) (andO (F90 N (a0.getD x23.toNat (Ty.dflt Y87))) fun y32 => cond (!y32) (some false) (nx28 (IntKind.i64.wrap (x23 + (1 : Int)))))) (F65_j0 N a0)
def F65_l0 (N : Nat) (a0 : (List Z87)) := loopF (F65_l0_b N a0) (fun _ => none)
theorem F65_l0_s N a0 {k} (hk : 0 < k) x23 : F65_l0 N a0 k x23 = F65_l0_b N a0 (F65_l0 N a0 (k - 1)) x23 := by cases k;cases hk;rfl
def F65 (N : Nat) (a0 : (List Z87)) : Option (Bool) :=
  andO (F31 N (a0.length : Int) (1 : Int) (40 : Int)) fun y2 => cond (!y2) (some false) (F65_l0 N a0 N (0 : Int))
theorem ok65 N a0 {r} (h : F65 N a0 = some r) : Con prog 65 [Vv (.sl Y87) a0] [.lf (.v .bool r)] := by
 refine ctr [.lf (.v .bool)] K func65 rfl fun w0 E0 ht => ?_
 unfold F65 at h
 show VW _ _ _ _ _ (retQ _ _ _ _) _
 refine nR K (tn 1) <| sq <| sq <| VW.region <| nG K 2 (tn 2) ?_
 obtain⟨y2,hy,h⟩:=aS h
 refine clc false [.t (.int .i64), .t (.int .i64), .t (.int .i64)] [] (some 8) K (ok31 N _ _ _ hy) <| nN K (tn 1) ?_
 refine cnd h ?_ ?_<;>intro h
 ·refine nR K (tn 1) ?_
  cases h; exact VW.ret (rt [])
 refine VW.skip ?_
 refine VW.join (fun s => s = ⟨[(0, Vv (.sl Y87) a0)], []⟩ ∧ F65_j0 N a0 = some r) ?_ ?_
 ·refine nR K (tn 1) <| VW.block <| lop (fun k s => ∃ x23, s = ⟨[(0, Vv (.sl Y87) a0), (3, I x23)], []⟩ ∧ F65_l0 N a0 k x23 = some r) N [.ren [0, 3] []] ⟨(0 : Int), rfl, h⟩ ?_
  rintro k28 s ⟨x23, rfl, h⟩
  cases k28 with
  | zero => cases show none = some r from h
  | succ k28 =>
   replace h : F65_l0_b N a0 (F65_l0 N a0 k28) x23 = some r := h
   unfold F65_l0_b at h
   refine sq <| nR K (tn 4) ?_
   refine cnd h ?_ ?_<;>intro h
   ·refine VW.skip <| sq <| VW.block <| sq <| VW.region ?_
    obtain⟨g31,h⟩:=gS h
    refine nG K 4 (pu 2 (an g31 (tn 1))) ?_
    obtain⟨y32,hy,h⟩:=aS h
    refine clc false [.t Y87] [] (some 20) K (ok90 N _ hy) <| nN K (tn 1) ?_
    refine cnd h ?_ ?_<;>intro h
    ·refine nR K (tn 1) ?_
     cases h; exact VW.ret (rt [])
    refine VW.skip <| nE K (tn 3) ?_
    exact aro [.ren [0, 3] []] ⟨(wr (x23 + (1 : Int))), rfl, h⟩
   refine VW.exit ?_
   exact arv [.ren [0] []] ⟨rfl, h⟩
 rintro s ⟨rfl, h⟩
 unfold F65_j0 at h
 refine sq <| VW.region <| nG K 1 (tn 1) ?_
 obtain⟨y17,hy,h⟩:=aS h
 refine clc false [.t (.sl Y87), .t (.int .i64), .t (.int .i64)] [] (some 24) K (ok91 N _ _ _ hy) <| nN K (tn 5) <| nR K (tn 5) ?_
 cases h; exact VW.ret (rt [])
def F107_j0 (N : Nat) (x30 : (List Int)) : Option ((List Int)) :=
  some x30
def F107_l0_b (N : Nat) (a0 : (List Z87)) (a1 : Int) (nx52 : (List Int) → Int → Int → Option ((List Int))) (x41 : (List Int)) (x42 : Int) (x43 : Int) : Option ((List Int)) :=
  gd (InR a1 a0.length) (andO (F117 N ((a0.getD a1.toNat (Ty.dflt Y87)).1)) fun y56 => cond (decide (x43 < y56)) (gd (x41.length + ([x42]).length ≤ lim (.int .i64)) (andO (F91 N a0 x42 (10 : Int)) fun y60 => nx52 (x41 ++ ([x42])) y60.1 (IntKind.i64.wrap (x43 + (1 : Int))))) (F107_j0 N x41))
def F107_l0 (N : Nat) (a0 : (List Z87)) (a1 : Int) := loopF (F107_l0_b N a0 a1) (fun _ _ _ => none)
theorem F107_l0_s N a0 a1 {k} (hk : 0 < k) x41 x42 x43 : F107_l0 N a0 a1 k x41 x42 x43 = F107_l0_b N a0 a1 (F107_l0 N a0 a1 (k - 1)) x41 x42 x43 := by cases k;cases hk;rfl
def F107 (N : Nat) (a0 : (List Z87)) (a1 : Int) : Option ((List Int)) :=
  F107_l0 N a0 a1 N ([]) (IntKind.i64.wrap (a1 + (1 : Int))) (0 : Int)
theorem ok107 N a0 a1 {r} (h : F107 N a0 a1 = some r) : Con prog 107 [Vv (.sl Y87) a0, I a1] [.lf (.own (.int .i64) r .dp)] := by
 refine ctr [.lf (.own (.int .i64) .dp)] K func107 rfl fun w0 E0 ht => ?_
 unfold F107 at h
 show VW _ _ _ _ _ (retQ _ _ _ _) _
 refine nR K (tn 1) <| nR K (tn 2) <| nR K (tn 3) ?_
 refine VW.join (fun s => ∃ x30, s = ⟨[(5, hh 0)], [ar 0 (.int .i64) x30 .dp]⟩ ∧ F107_j0 N x30 = some r) ?_ ?_
 ·refine nR K (tn 1) <| VW.block <| lop (fun k s => ∃ x41 x42 x43, s = ⟨[(0, Vv (.sl Y87) a0), (1, I a1), (5, hh 0), (6, I x42), (7, I x43)], [ar 0 (.int .i64) x41 .dp]⟩ ∧ F107_l0 N a0 a1 k x41 x42 x43 = some r) N [.nilS 5 (.int .i64) .dp, .ren [0, 1, 5, 6, 7] [0]] ⟨[], (wr (a1 + (1 : Int))), (0 : Int), rfl, h⟩ ?_
  rintro k52 s ⟨x41, x42, x43, rfl, h⟩
  cases k52 with
  | zero => cases show none = some r from h
  | succ k52 =>
   replace h : F107_l0_b N a0 a1 (F107_l0 N a0 a1 k52) x41 x42 x43 = some r := h
   unfold F107_l0_b at h
   refine sq <| sq <| VW.region ?_
   obtain⟨g55,h⟩:=gS h
   refine nG K 6 (pu 3 (an g55 (tn 2))) ?_
   obtain⟨y56,hy,h⟩:=aS h
   refine clc false [.t (.int .i64)] [] (some 17) K (ok117 N _ hy) <| nN K (tn 1) ?_
   refine cnd h ?_ ?_<;>intro h
   ·refine VW.skip <| sq <| VW.block ?_
    obtain⟨g59,h⟩:=gS h
    refine nR K (pu 3 (an g59 (tn 1))) <| VW.region <| nG K 2 (tn 2) ?_
    obtain⟨y60,hy,h⟩:=aS h
    refine clc false [.t (.sl Y87), .t (.int .i64), .t (.int .i64)] [] (some 28) K (ok91 N _ _ _ hy) <| nN K (tn 4) <| nE K (tn 3) ?_
    exact aro [.ren [0, 1, 5, 6, 7] [0]] ⟨(x41 ++ ([x42])), y60.1, (wr (x43 + (1 : Int))), rfl, h⟩
   refine VW.exit ?_
   exact arv [.ren [5] [0]] ⟨x41, rfl, h⟩
 rintro s ⟨x30, rfl, h⟩
 unfold F107_j0 at h
 refine nR K (tn 2) ?_
 cases h; exact VW.ret (rt [some 0])
def F108_j0 (N : Nat) : Option (Int) :=
  some (-1 : Int)
def F108_l0_b (N : Nat) (a0 : (List Z53)) (a1 : ByteArray) (nx15 : Int → Option (Int)) (x12 : Int) : Option (Int) :=
  cond (decide (x12 < (a0.length : Int))) (gd (InR x12 a0.length) (cond (((a0.getD x12.toNat (Ty.dflt Y53)).1).toList == a1.toList) (some x12) (nx15 (IntKind.i64.wrap (x12 + (1 : Int)))))) (F108_j0 N)
def F108_l0 (N : Nat) (a0 : (List Z53)) (a1 : ByteArray) := loopF (F108_l0_b N a0 a1) (fun _ => none)
theorem F108_l0_s N a0 a1 {k} (hk : 0 < k) x12 : F108_l0 N a0 a1 k x12 = F108_l0_b N a0 a1 (F108_l0 N a0 a1 (k - 1)) x12 := by cases k;cases hk;rfl
def F108 (N : Nat) (a0 : (List Z53)) (a1 : ByteArray) : Option (Int) :=
  F108_l0 N a0 a1 N (0 : Int)
theorem ok108 N a0 a1 {r} (h : F108 N a0 a1 = some r) : Con prog 108 [Vv (.sl Y53) a0, S a1] [.lf (.v (.int .i64) r)] := by
 refine ctr [.lf (.v (.int .i64))] K func108 rfl fun w0 E0 ht => ?_
 unfold F108 at h
 show VW _ _ _ _ _ (retQ _ _ _ _) _
 refine nR K (tn 1) ?_
 refine VW.join (fun s => s = ⟨[], []⟩ ∧ F108_j0 N = some r) ?_ ?_
 ·refine nR K (tn 1) <| VW.block <| lop (fun k s => ∃ x12, s = ⟨[(0, Vv (.sl Y53) a0), (1, S a1), (5, I x12)], []⟩ ∧ F108_l0 N a0 a1 k x12 = some r) N [.ren [0, 1, 5] []] ⟨(0 : Int), rfl, h⟩ ?_
  rintro k15 s ⟨x12, rfl, h⟩
  cases k15 with
  | zero => cases show none = some r from h
  | succ k15 =>
   replace h : F108_l0_b N a0 a1 (F108_l0 N a0 a1 k15) x12 = some r := h
   unfold F108_l0_b at h
   refine sq <| nR K (tn 4) ?_
   refine cnd h ?_ ?_<;>intro h
   ·refine VW.skip <| sq <| VW.block ?_
    obtain⟨g17,h⟩:=gS h
    refine nR K (pu 2 (an g17 (tn 4))) ?_
    refine cnd h ?_ ?_<;>intro h
    ·refine nR K (tn 2) ?_
     cases h; exact VW.ret (rt [])
    refine VW.skip <| nE K (tn 3) ?_
    exact aro [.ren [0, 1, 5] []] ⟨(wr (x12 + (1 : Int))), rfl, h⟩
   refine VW.exit ?_
   exact arv [.ren [] []] ⟨rfl, h⟩
 rintro s ⟨rfl, h⟩
 unfold F108_j0 at h
 refine nR K (tn 1) ?_
 cases h; exact VW.ret (rt [])
def F85_j0 (N : Nat) (x51 : (List Int)) : Option (Int) :=
  gd (InR (0 : Int) x51.length) (gd ((0 : Int).toNat < x51.length) (some (x51.getD ((0 : Int).toNat) (Ty.dflt (.int .i64)))))
def F85_j1 (N : Nat) (x50 : (List Int)) : Option (Int) :=
  some (x50.length : Int)
def F85_l0_b (N : Nat) (x50 : (List Int)) (x51 : (List Int)) (nx169 : Int → Option (Int)) (x162 : Int) : Option (Int) :=
  cond (decide (x162 < (x50.length : Int))) (gd (InR x162 x50.length) (gd (InR (0 : Int) x51.length) (gd ((0 : Int).toNat < x51.length) (cond (decide ((x50.getD x162.toNat (Ty.dflt (.int .i64))) ≥ (x51.getD ((0 : Int).toNat) (Ty.dflt (.int .i64))))) (some (-1 : Int)) (nx169 (IntKind.i64.wrap (x162 + (1 : Int)))))))) (F85_j1 N x50)
def F85_l0 (N : Nat) (x50 : (List Int)) (x51 : (List Int)) := loopF (F85_l0_b N x50 x51) (fun _ => none)
theorem F85_l0_s N x50 x51 {k} (hk : 0 < k) x162 : F85_l0 N x50 x51 k x162 = F85_l0_b N x50 x51 (F85_l0 N x50 x51 (k - 1)) x162 := by cases k;cases hk;rfl
def F85_j2 (N : Nat) (x44 : Int) (x46 : Int) (x48 : Int) (x50 : (List Int)) (x51 : (List Int)) (x132 : Bool) : Option (Int) :=
  cond x132 (gd (InR (0 : Int) x51.length) (gd ((0 : Int).toNat < x51.length) (cond (decide (x46 ≥ (x51.getD ((0 : Int).toNat) (Ty.dflt (.int .i64))))) (some (-1 : Int)) (F85_j0 N x51)))) (cond (x44 == (2 : Int)) (F85_l0 N x50 x51 N (0 : Int)) (cond (x44 == (3 : Int)) (gd (InR (0 : Int) x51.length) (gd ((0 : Int).toNat < x51.length) (cond (decide (x46 ≥ (x51.getD ((0 : Int).toNat) (Ty.dflt (.int .i64))))) (some (-1 : Int)) (gd (InR (1 : Int) x51.length) (gd ((1 : Int).toNat < x51.length) (cond (decide (x48 ≥ (x51.getD ((1 : Int).toNat) (Ty.dflt (.int .i64))))) (some (-1 : Int)) (gd (InR (0 : Int) x51.length) (gd ((0 : Int).toNat < x51.length) (gd (InR (1 : Int) x51.length) (gd ((1 : Int).toNat < x51.length) (cond (decide ((IntKind.i64.wrap ((x51.getD ((0 : Int).toNat) (Ty.dflt (.int .i64))) + (x51.getD ((1 : Int).toNat) (Ty.dflt (.int .i64))))) > (64 : Int))) (some (-1 : Int)) (gd (InR (0 : Int) x51.length) (gd ((0 : Int).toNat < x51.length) (gd (InR (1 : Int) x51.length) (gd ((1 : Int).toNat < x51.length) (some (IntKind.i64.wrap ((x51.getD ((0 : Int).toNat) (Ty.dflt (.int .i64))) + (x51.getD ((1 : Int).toNat) (Ty.dflt (.int .i64))))))))))))))))))))) (cond (x44 == (4 : Int)) (gd (InR (0 : Int) x51.length) (gd ((0 : Int).toNat < x51.length) (gd (InR (1 : Int) x51.length) (gd ((1 : Int).toNat < x51.length) (cond ((x51.getD ((0 : Int).toNat) (Ty.dflt (.int .i64))) != (x51.getD ((1 : Int).toNat) (Ty.dflt (.int .i64)))) (some (-1 : Int)) (F85_j0 N x51)))))) (F85_j0 N x51))))
def F85_j3 (N : Nat) (a0 : (List Z53)) (x44 : Int) (x45 : ByteArray) (x46 : Int) (x47 : Int) (x48 : Int) (x49 : Bool) (x50 : (List Int)) (x51 : (List Int)) : Option (Int) :=
  cond (x44 == (0 : Int)) (andO (F108 N a0 x45) fun y130 => cond (decide (y130 < (0 : Int))) (some (-1 : Int)) (gd (InR y130 a0.length) (some ((a0.getD y130.toNat (Ty.dflt Y53)).2)))) (cond (x44 == (1 : Int)) (F85_j2 N x44 x46 x48 x50 x51 (x44 == (1 : Int))) (F85_j2 N x44 x46 x48 x50 x51 (x44 == (5 : Int))))
def F85_l1_b (N : Nat) (a0 : (List Z53)) (a1 : (List Z87)) (self : (List Z53) → (List Z87) → Int → Option (Int)) (y2 : (List Int)) (nx238 : Int → ByteArray → Int → Int → Int → Bool → (List Int) → (List Int) → Int → Option (Int)) (x221 : Int) (x222 : ByteArray) (x223 : Int) (x224 : Int) (x225 : Int) (x226 : Bool) (x227 : (List Int)) (x228 : (List Int)) (x229 : Int) : Option (Int) :=
  cond (decide (x229 < (y2.length : Int))) (gd (InR x229 y2.length) (gd (x229.toNat < y2.length) (andO (self a0 a1 (y2.getD x229.toNat (Ty.dflt (.int .i64)))) fun y245 => cond (decide (y245 < (0 : Int))) (some (-1 : Int)) (gd (x228.length + ([y245]).length ≤ lim (.int .i64)) (nx238 x221 x222 x223 x224 x225 x226 x227 (x228 ++ ([y245])) (IntKind.i64.wrap (x229 + (1 : Int)))))))) (F85_j3 N a0 x221 x222 x223 x224 x225 x226 x227 x228)
def F85_l1 (N : Nat) (a0 : (List Z53)) (a1 : (List Z87)) (self : (List Z53) → (List Z87) → Int → Option (Int)) (y2 : (List Int)) := loopF (F85_l1_b N a0 a1 self y2) (fun _ _ _ _ _ _ _ _ _ => none)
theorem F85_l1_s N a0 a1 (self : (List Z53) → (List Z87) → Int → Option (Int)) y2 {k} (hk : 0 < k) x221 x222 x223 x224 x225 x226 x227 x228 x229 : F85_l1 N a0 a1 self y2 k x221 x222 x223 x224 x225 x226 x227 x228 x229 = F85_l1_b N a0 a1 self y2 (F85_l1 N a0 a1 self y2 (k - 1)) x221 x222 x223 x224 x225 x226 x227 x228 x229 := by cases k;cases hk;rfl
def F85_b (N : Nat) (self : (List Z53) → (List Z87) → Int → Option (Int)) (a0 : (List Z53)) (a1 : (List Z87)) (a2 : Int) : Option (Int) :=
  gd (InR a2 a1.length) (andO (F107 N a1 a2) fun y2 => F85_l1 N a0 a1 self y2 N ((a1.getD a2.toNat (Ty.dflt Y87)).1) ((a1.getD a2.toNat (Ty.dflt Y87)).2.1) ((a1.getD a2.toNat (Ty.dflt Y87)).2.2.1) ((a1.getD a2.toNat (Ty.dflt Y87)).2.2.2.1) ((a1.getD a2.toNat (Ty.dflt Y87)).2.2.2.2.1) ((a1.getD a2.toNat (Ty.dflt Y87)).2.2.2.2.2.1) ((a1.getD a2.toNat (Ty.dflt Y87)).2.2.2.2.2.2) ([]) (0 : Int))
theorem ok85_b (N : Nat) (self : (List Z53) → (List Z87) → Int → Option (Int)) (ih : ∀ (a0 : (List Z53)) (a1 : (List Z87)) (a2 : Int) (r : Int), self a0 a1 a2 = some r → Con prog 85 [Vv (.sl Y53) a0, Vv (.sl Y87) a1, I a2] [.lf (.v (.int .i64) r)]) (a0 : (List Z53)) (a1 : (List Z87)) (a2 : Int) {r : Int} (h : F85_b N self a0 a1 a2 = some r) : Con prog 85 [Vv (.sl Y53) a0, Vv (.sl Y87) a1, I a2] [.lf (.v (.int .i64) r)] := by
 refine ctr [.lf (.v (.int .i64))] K func85 rfl fun w0 E0 ht => ?_
 unfold F85_b at h
 show VW _ _ _ _ _ (retQ _ _ _ _) _
 refine nR K (tn 1) ?_
 obtain⟨g1,h⟩:=gS h
 refine nR K (pu 2 (an g1 (tn 3))) <| nR K (tn 2) <| sq <| VW.region <| nG K 2 (tn 2) ?_
 obtain⟨y2,hy,h⟩:=aS h
 refine clc false [.t (.sl Y87), .t (.int .i64)] [] (some 21) K (ok107 N _ _ hy) <| nN K (tn 1) ?_
 refine VW.join (fun s => ∃ x44 x45 x46 x47 x48 x49 x50 x51, s = ⟨[(0, Vv (.sl Y53) a0), (7, .lf (.ptr 0 0 0 0)), (8, hh 1)], [bx [zi x44, zs x45, zi x46, zi x47, zi x48, zb x49, .v (.sl (.int .i64)) x50] 88, ar 0 (.int .i64) x51 .dp]⟩ ∧ F85_j3 N a0 x44 x45 x46 x47 x48 x49 x50 x51 = some r) ?_ ?_
 ·refine nR K (tn 1) <| VW.block <| lop (fun k s => ∃ x221 x222 x223 x224 x225 x226 x227 x228 x229, s = ⟨[(0, Vv (.sl Y53) a0), (1, Vv (.sl Y87) a1), (7, .lf (.ptr 0 0 0 0)), (8, hh 1), (9, hh 2), (10, I x229)], [bx [zi x221, zs x222, zi x223, zi x224, zi x225, zb x226, .v (.sl (.int .i64)) x227] 88, ar 0 (.int .i64) x228 .dp, ar 0 (.int .i64) y2 .dp]⟩ ∧ F85_l1 N a0 a1 self y2 k x221 x222 x223 x224 x225 x226 x227 x228 x229 = some r) N [.nilS 8 (.int .i64) .dp, .ren [0, 1, 7, 8, 9, 10] [0, 2, 1]] ⟨(a1.getD a2.toNat D87).1, (a1.getD a2.toNat D87).2.1, (a1.getD a2.toNat D87).2.2.1, (a1.getD a2.toNat D87).2.2.2.1, (a1.getD a2.toNat D87).2.2.2.2.1, (a1.getD a2.toNat D87).2.2.2.2.2.1, (a1.getD a2.toNat D87).2.2.2.2.2.2, [], (0 : Int), rfl, h⟩ ?_
  rintro k238 s ⟨x221, x222, x223, x224, x225, x226, x227, x228, x229, rfl, h⟩
  cases k238 with
  | zero => cases show none = some r from h
  | succ k238 =>
   replace h : F85_l1_b N a0 a1 self y2 (F85_l1 N a0 a1 self y2 k238) x221 x222 x223 x224 x225 x226 x227 x228 x229 = some r := h
   unfold F85_l1_b at h
   refine sq <| nR K (tn 4) ?_
   refine cnd h ?_ ?_<;>intro h
   ·refine VW.skip <| sq <| VW.block <| sq <| VW.region ?_
    obtain⟨g243,h⟩:=gS h
    obtain⟨g244,h⟩:=gS h
    refine nG K 6 (pu 4 (an g243 (an g244 (tn 0)))) ?_
    obtain⟨y245,hy,h⟩:=aS h
    refine clc false [.t (.sl Y53), .t (.sl Y87), .t (.int .i64)] [] (some 34) K (ih _ _ _ _ hy) <| nN K (tn 1) <| sq <| nR K (tn 2) ?_
    refine cnd h ?_ ?_<;>intro h
    ·refine nR K (tn 1) ?_
     cases h; exact VW.ret (rt [])
    refine VW.skip ?_
    obtain⟨g246,h⟩:=gS h
    refine nE K (pu 3 (an g246 (tn 1))) <| nE K (tn 3) ?_
    exact aro [.ren [0, 1, 7, 8, 9, 10] [0, 1, 2]] ⟨x221, x222, x223, x224, x225, x226, x227, (x228 ++ ([y245])), (wr (x229 + (1 : Int))), rfl, h⟩
   refine VW.exit ?_
   exact arv [.ren [0, 7, 8] [0, 1]] ⟨x221, x222, x223, x224, x225, x226, x227, x228, rfl, h⟩
 rintro s ⟨x44, x45, x46, x47, x48, x49, x50, x51, rfl, h⟩
 unfold F85_j3 at h
 refine VW.join (fun s => s = ⟨[(8, hh 0)], [ar 0 (.int .i64) x51 .dp]⟩ ∧ F85_j0 N x51 = some r) ?_ ?_
 ·refine nR K (tn 2) <| VW.block <| nR K (tn 2) ?_
  refine cnd h ?_ ?_<;>intro h
  ·refine sq <| VW.region <| nG K 3 (tn 3) ?_
   obtain⟨y130,hy,h⟩:=aS h
   refine clc false [.t (.sl Y53), .t .str] [] (some 48) K (ok108 N _ _ hy) <| nN K (tn 1) <| sq <| nR K (tn 2) ?_
   refine cnd h ?_ ?_<;>intro h
   ·refine nR K (tn 1) ?_
    cases h; exact VW.ret (rt [])
   refine VW.skip ?_
   obtain⟨g131,h⟩:=gS h
   refine nR K (pu 2 (an g131 (tn 3))) ?_
   cases h; exact VW.ret (rt [])
  refine VW.join (fun s => ∃ x132, s = ⟨[(7, .lf (.ptr 0 0 0 0)), (8, hh 1), (42, I x44), (56, B x132)], [bx [zi x44, zs x45, zi x46, zi x47, zi x48, zb x49, .v (.sl (.int .i64)) x50] 88, ar 0 (.int .i64) x51 .dp]⟩ ∧ F85_j2 N x44 x46 x48 x50 x51 x132 = some r) ?_ ?_
  ·refine nR K (tn 2) ?_
   refine cnd h ?_ ?_<;>intro h
   ·refine VW.skip ?_
    exact arv [.ren [7, 8, 42, 56] [0, 1]] ⟨(x44 == (1 : Int)), rfl, h⟩
   refine nE K (tn 2) ?_
   exact arv [.ren [7, 8, 42, 56] [0, 1]] ⟨(x44 == (5 : Int)), rfl, h⟩
  rintro s ⟨x132, rfl, h⟩
  unfold F85_j2 at h
  refine cnd h ?_ ?_<;>intro h
  ·refine sq ?_
   obtain⟨g133,h⟩:=gS h
   obtain⟨g134,h⟩:=gS h
   refine dr K [] [] [] [8, 64] [1] (pu 3 (an g133 (an g134 (tn 1)))) trivial ?_
   refine cnd h ?_ ?_<;>intro h
   ·refine nR K (tn 1) ?_
    cases h; exact VW.ret (rt [])
   refine VW.skip ?_
   exact arv [.ren [8] [0]] ⟨rfl, h⟩
  refine nR K (tn 2) ?_
  refine cnd h ?_ ?_<;>intro h
  ·refine VW.join (fun s => s = ⟨[(7, .lf (.ptr 0 0 0 0))], [bx [zi x44, zs x45, zi x46, zi x47, zi x48, zb x49, .v (.sl (.int .i64)) x50] 88]⟩ ∧ F85_j1 N x50 = some r) ?_ ?_
   ·refine nR K (tn 1) <| VW.block <| lop (fun k s => ∃ x162, s = ⟨[(7, .lf (.ptr 0 0 0 0)), (8, hh 1), (13, I x162)], [bx [zi x44, zs x45, zi x46, zi x47, zi x48, zb x49, .v (.sl (.int .i64)) x50] 88, ar 0 (.int .i64) x51 .dp]⟩ ∧ F85_l0 N x50 x51 k x162 = some r) N [.ren [7, 8, 13] [0, 1]] ⟨(0 : Int), rfl, h⟩ ?_
    rintro k169 s ⟨x162, rfl, h⟩
    cases k169 with
    | zero => cases show none = some r from h
    | succ k169 =>
     replace h : F85_l0_b N x50 x51 (F85_l0 N x50 x51 k169) x162 = some r := h
     unfold F85_l0_b at h
     refine sq <| nR K (tn 5) ?_
     refine cnd h ?_ ?_<;>intro h
     ·refine VW.skip <| sq <| VW.block <| sq ?_
      obtain⟨g173,h⟩:=gS h
      obtain⟨g174,h⟩:=gS h
      obtain⟨g175,h⟩:=gS h
      refine dr K [] [] [] [7, 8, 13, 82] [0, 1] (pu 3 (an g173 (pu 2 (an g174 (an g175 (tn 1)))))) trivial ?_
      refine cnd h ?_ ?_<;>intro h
      ·refine nR K (tn 1) ?_
       cases h; exact VW.ret (rt [])
      refine VW.skip <| nE K (tn 3) ?_
      exact aro [.ren [7, 8, 13] [0, 1]] ⟨(wr (x162 + (1 : Int))), rfl, h⟩
     refine VW.exit ?_
     exact arv [.ren [7] [0]] ⟨rfl, h⟩
   rintro s ⟨rfl, h⟩
   unfold F85_j1 at h
   refine nR K (tn 4) ?_
   cases h; exact VW.ret (rt [])
  refine nR K (tn 2) ?_
  refine cnd h ?_ ?_<;>intro h
  ·refine sq <| sq ?_
   obtain⟨g186,h⟩:=gS h
   obtain⟨g187,h⟩:=gS h
   rcases Bool.eq_false_or_eq_true (decide (x46 ≥ (x51.getD ((0 : Int).toNat) (Ty.dflt (.int .i64))))) with hb188 | hb188
   ·replace h := cond_t h hb188
    refine dr K [(6, .lit true)] [(6, 0)] [] [8, 111] [1] (pu 3 (an g186 (an g187 (tn 19)))) ⟨qB 94 hb188 K trivial, trivial⟩ ?_
    refine VW.cond (b := true) (by kernel_rfl) (fun _ => ?_) (fun h' => nomatch h')
    refine nR K (tn 1) ?_
    cases h; exact VW.ret (rt [])
   replace h := cond_f h hb188
   obtain⟨g189,h⟩:=gS h
   obtain⟨g190,h⟩:=gS h
   rcases Bool.eq_false_or_eq_true (decide (x48 ≥ (x51.getD ((1 : Int).toNat) (Ty.dflt (.int .i64))))) with hb191 | hb191
   ·replace h := cond_t h hb191
    refine dr K [(6, .lit false), (14, .lit true)] [(6, 0), (14, 0)] [] [8, 111] [1] (pu 3 (an g186 (an g187 (pu 5 (an g189 (an g190 (tn 12))))))) ⟨qB 94 hb188 K trivial, qB 102 hb191 K trivial, trivial⟩ ?_
    refine VW.cond (b := true) (by kernel_rfl) (fun _ => ?_) (fun h' => nomatch h')
    refine nR K (tn 1) ?_
    cases h; exact VW.ret (rt [])
   replace h := cond_f h hb191
   obtain⟨g192,h⟩:=gS h
   obtain⟨g193,h⟩:=gS h
   obtain⟨g194,h⟩:=gS h
   obtain⟨g195,h⟩:=gS h
   refine dr K [(6, .lit false), (14, .lit false)] [(6, 0), (14, 0)] [] [8, 111] [1] (pu 3 (an g186 (an g187 (pu 5 (an g189 (an g190 (pu 4 (an g192 (an g193 (pu 1 (an g194 (an g195 (tn 3))))))))))))) ⟨qB 94 hb188 K trivial, qB 102 hb191 K trivial, trivial⟩ ?_
   refine cnd h ?_ ?_<;>intro h
   ·refine nR K (tn 1) ?_
    cases h; exact VW.ret (rt [])
   refine VW.skip <| sq ?_
   obtain⟨g196,h⟩:=gS h
   obtain⟨g197,h⟩:=gS h
   obtain⟨g198,h⟩:=gS h
   obtain⟨g199,h⟩:=gS h
   refine dr K [] [] [] [6] [] (pu 1 (an g196 (an g197 (pu 1 (an g198 (an g199 (tn 2))))))) trivial ?_
   cases h; exact VW.ret (rt [])
  refine nR K (tn 2) ?_
  refine cnd h ?_ ?_<;>intro h
  ·refine sq ?_
   obtain⟨g200,h⟩:=gS h
   obtain⟨g201,h⟩:=gS h
   obtain⟨g202,h⟩:=gS h
   obtain⟨g203,h⟩:=gS h
   refine dr K [] [] [] [8, 127] [1] (pu 1 (an g200 (an g201 (pu 1 (an g202 (an g203 (tn 1))))))) trivial ?_
   refine cnd h ?_ ?_<;>intro h
   ·refine nR K (tn 1) ?_
    cases h; exact VW.ret (rt [])
   refine VW.skip ?_
   exact arv [.ren [8] [0]] ⟨rfl, h⟩
  refine VW.skip ?_
  exact arv [.ren [8] [1]] ⟨rfl, h⟩
 rintro s ⟨rfl, h⟩
 unfold F85_j0 at h
 obtain⟨g127,h⟩:=gS h
 obtain⟨g128,h⟩:=gS h
 refine nR K (pu 1 (an g127 (an g128 (tn 1)))) ?_
 cases h; exact VW.ret (rt [])
def F85_r (N : Nat) := loopF (F85_b N) (fun _ _ _ => none)
theorem F85_s N {k} (hk : 0 < k) a0 a1 a2 : F85_r N k a0 a1 a2 = F85_b N (F85_r N (k - 1)) a0 a1 a2 := by cases k;cases hk;rfl
def F85 (N : Nat) : (List Z53) → (List Z87) → Int → Option (Int) := F85_r N N
theorem ok85_k (N : Nat) : ∀ (k : Nat) (a0 : (List Z53)) (a1 : (List Z87)) (a2 : Int) (r : Int), loopF (F85_b N) (fun _ _ _ => none) k a0 a1 a2 = some r → Con prog 85 [Vv (.sl Y53) a0, Vv (.sl Y87) a1, I a2] [.lf (.v (.int .i64) r)]
 | 0, a0, a1, a2, r, h => nomatch (show (none : Option (Int)) = some r from h)
 | k + 1, a0, a1, a2, r, h => ok85_b N _ (ok85_k N k) a0 a1 a2 h
theorem ok85 N a0 a1 a2 {r} (h : F85 N a0 a1 a2 = some r) : Con prog 85 [Vv (.sl Y53) a0, Vv (.sl Y87) a1, I a2] [.lf (.v (.int .i64) r)] := ok85_k N N a0 a1 a2 r h
def F63 (N : Nat) (a0 : (List Z53)) (a1 : (List Z87)) : Option (Int) :=
  andO (F32 N a0) fun y3 => cond (!y3) (some (-1 : Int)) (andO (F65 N a1) fun y4 => cond (!y4) (some (-1 : Int)) (andO (F85 N a0 a1 (0 : Int)) fun y5 => some y5))
theorem ok63 N a0 a1 {r} (h : F63 N a0 a1 = some r) : Con prog 63 [Vv (.sl Y53) a0, Vv (.sl Y87) a1] [.lf (.v (.int .i64) r)] := by
 refine ctr [.lf (.v (.int .i64))] K func63 rfl fun w0 E0 ht => ?_
 unfold F63 at h
 show VW _ _ _ _ _ (retQ _ _ _ _) _
 refine nR K (tn 1) <| sq <| sq <| VW.region <| nG K 1 (tn 1) ?_
 obtain⟨y3,hy,h⟩:=aS h
 refine clc false [.t (.sl Y53)] [] (some 6) K (ok32 N _ hy) <| nG K 2 (tn 2) ?_
 refine spC 8 h ?_ ?_<;>intro h
 ·refine nN K (tn 4) ?_
  refine VW.cond (b := true) (by kernel_rfl) (fun _ => ?_) (fun h' => nomatch h')
  refine nR K (tn 1) ?_
  cases h; exact VW.ret (rt [])
 refine nG K 1 (tn 1) <| VO.on (j := 3) (want := false) (d := 8) (b := false) rfl rfl rfl (by kernel_rfl) rfl ?_
 obtain⟨y4,hy,h⟩:=aS h
 refine clc false [.t (.sl Y87)] [] (some 10) K (ok65 N _ hy) <| nN K (tn 2) ?_
 refine cnd h ?_ ?_<;>intro h
 ·refine nR K (tn 1) ?_
  cases h; exact VW.ret (rt [])
 refine VW.skip <| sq <| VW.region <| nG K 2 (tn 2) ?_
 obtain⟨y5,hy,h⟩:=aS h
 refine clc false [.t (.sl Y53), .t (.sl Y87), .t (.int .i64)] [] (some 15) K (ok85 N _ _ _ hy) <| nN K (tn 1) ?_
 cases h; exact VW.ret (rt [])
def F35 (N : Nat) (a0 : (List Z53)) (a1 : (List Z87)) : Option (Bool) :=
  andO (F63 N a0 a1) fun y1 => some (y1 != (-1 : Int))
theorem ok35 N a0 a1 {r} (h : F35 N a0 a1 = some r) : Con prog 35 [Vv (.sl Y53) a0, Vv (.sl Y87) a1] [.lf (.v .bool r)] := by
 refine ctr [.lf (.v .bool)] K func35 rfl fun w0 E0 ht => ?_
 unfold F35 at h
 show VW _ _ _ _ _ (retQ _ _ _ _) _
 refine nR K (tn 1) <| sq <| VW.region <| nG K 2 (tn 2) ?_
 obtain⟨y1,hy,h⟩:=aS h
 refine clc false [.t (.sl Y53), .t (.sl Y87)] [] (some 7) K (ok63 N _ _ hy) <| nN K (tn 2) ?_
 cases h; exact VW.ret (rt [])
def F86_j0 (N : Nat) (x10 : (List Int)) (x11 : Int) : Option ((List Int)) :=
  gd (x10.length + ([(IntKind.u8.wrap x11)]).length ≤ lim (.int .u8)) (some (x10 ++ ([(IntKind.u8.wrap x11)])))
def F86_l0_b (N : Nat) (nx18 : (List Int) → Int → Option ((List Int))) (x15 : (List Int)) (x16 : Int) : Option ((List Int)) :=
  cond (decide (x16 ≥ (128 : Int))) (gd (x15.length + ([(IntKind.u8.wrap (IntKind.i64.wrap ((128 : Int) + (Int.tmod x16 (128 : Int)))))]).length ≤ lim (.int .u8)) (nx18 (x15 ++ ([(IntKind.u8.wrap (IntKind.i64.wrap ((128 : Int) + (Int.tmod x16 (128 : Int)))))])) (IntKind.i64.wrap (Int.tdiv x16 (128 : Int))))) (F86_j0 N x15 x16)
def F86_l0 (N : Nat) := loopF (F86_l0_b N) (fun _ _ => none)
theorem F86_l0_s N {k} (hk : 0 < k) x15 x16 : F86_l0 N k x15 x16 = F86_l0_b N (F86_l0 N (k - 1)) x15 x16 := by cases k;cases hk;rfl
def F86_j1 (N : Nat) (x3 : Int) : Option ((List Int)) :=
  F86_l0 N N ([]) x3
def F86 (N : Nat) (a0 : Int) : Option ((List Int)) :=
  andO (F109 N a0) fun y2 => cond (!y2) (some ([])) (cond (decide (a0 < (0 : Int))) (F86_j1 N (IntKind.i64.wrap ((IntKind.i64.wrap ((-2 : Int) * a0)) - (1 : Int)))) (F86_j1 N (IntKind.i64.wrap ((2 : Int) * a0))))
theorem ok86 N a0 {r} (h : F86 N a0 = some r) : Con prog 86 [I a0] [.lf (.own (.int .u8) r .dp)] := by
 refine ctr [.lf (.own (.int .u8) .dp)] K func86 rfl fun w0 E0 ht => ?_
 unfold F86 at h
 show VW _ _ _ _ _ (retQ _ _ _ _) _
 refine nR K (tn 1) <| nR K (tn 2) <| sq <| sq <| VW.region <| nG K 1 (tn 1) ?_
 obtain⟨y2,hy,h⟩:=aS h
 refine clc false [.t (.int .i64)] [] (some 7) K (ok109 N _ hy) <| nN K (tn 1) ?_
 refine cnd h ?_ ?_<;>intro h
 ·refine nR K (tn 1) ?_
  cases h; exact VW.ret (rt [none])
 refine VW.skip <| nR K (tn 3) ?_
 refine VW.join (fun s => ∃ x3, s = ⟨[(3, .lf (.nil)), (4, I x3)], []⟩ ∧ F86_j1 N x3 = some r) ?_ ?_
 ·refine nR K (tn 2) ?_
  refine cnd h ?_ ?_<;>intro h
  ·refine nE K (tn 4) ?_
   exact arv [.ren [3, 4] []] ⟨(wr ((wr ((-2 : Int) * a0)) - (1 : Int))), rfl, h⟩
  refine VW.skip ?_
  exact arv [.ren [3, 4] []] ⟨(wr ((2 : Int) * a0)), rfl, h⟩
 rintro s ⟨x3, rfl, h⟩
 unfold F86_j1 at h
 refine VW.join (fun s => ∃ x10 x11, s = ⟨[(3, hh 0), (4, I x11)], [ar 0 (.int .u8) x10 .dp]⟩ ∧ F86_j0 N x10 x11 = some r) ?_ ?_
 ·refine VW.block <| lop (fun k s => ∃ x15 x16, s = ⟨[(3, hh 0), (4, I x16)], [ar 0 (.int .u8) x15 .dp]⟩ ∧ F86_l0 N k x15 x16 = some r) N [.nilS 3 (.int .u8) .dp, .ren [3, 4] [0]] ⟨[], x3, rfl, h⟩ ?_
  rintro k18 s ⟨x15, x16, rfl, h⟩
  cases k18 with
  | zero => cases show none = some r from h
  | succ k18 =>
   replace h : F86_l0_b N (F86_l0 N k18) x15 x16 = some r := h
   unfold F86_l0_b at h
   refine sq <| nR K (tn 2) ?_
   refine cnd h ?_ ?_<;>intro h
   ·refine VW.skip <| VW.block ?_
    obtain⟨g19,h⟩:=gS h
    refine nR K (pu 2 (an (show ((128 : Int) ≠ 0) from by decide) (pu 3 (an g19 (tn 1))))) <| nE K (pu 1 (an (show ((128 : Int) ≠ 0) from by decide) (tn 1))) ?_
    exact aro [.ren [3, 4] [0]] ⟨(x15 ++ ([(IntKind.u8.wrap (wr ((128 : Int) + (Int.tmod x16 (128 : Int)))))])), (wr (Int.tdiv x16 (128 : Int))), rfl, h⟩
   refine VW.exit ?_
   exact arv [.ren [3, 4] [0]] ⟨x15, x16, rfl, h⟩
 rintro s ⟨x10, x11, rfl, h⟩
 unfold F86_j0 at h
 obtain⟨g12,h⟩:=gS h
 refine nR K (pu 4 (an g12 (tn 1))) ?_
 cases h; exact VW.ret (rt [some 0])
def F110_j0 (N : Nat) (x16 : (List Int)) : Option ((List Int)) :=
  some x16
def F110_l0_b (N : Nat) (a0 : (List Int)) (nx28 : (List Int) → Int → Option ((List Int))) (x22 : (List Int)) (x23 : Int) : Option ((List Int)) :=
  cond (decide (x23 < (a0.length : Int))) (gd (InR x23 a0.length) (gd (x22.length + ([(a0.getD x23.toNat (Ty.dflt (.int .u8)))]).length ≤ lim (.int .u8)) (nx28 (x22 ++ ([(a0.getD x23.toNat (Ty.dflt (.int .u8)))])) (IntKind.i64.wrap (x23 + (1 : Int)))))) (F110_j0 N x22)
def F110_l0 (N : Nat) (a0 : (List Int)) := loopF (F110_l0_b N a0) (fun _ _ => none)
theorem F110_l0_s N a0 {k} (hk : 0 < k) x22 x23 : F110_l0 N a0 k x22 x23 = F110_l0_b N a0 (F110_l0 N a0 (k - 1)) x22 x23 := by cases k;cases hk;rfl
def F110 (N : Nat) (a0 : (List Int)) : Option ((List Int)) :=
  F110_l0 N a0 N ([]) (0 : Int)
theorem ok110 N a0 {r} (h : F110 N a0 = some r) : Con prog 110 [Vv (.sl (.int .u8)) a0] [.lf (.own (.int .u8) r .dp)] := by
 refine ctr [.lf (.own (.int .u8) .dp)] K func110 rfl fun w0 E0 ht => ?_
 unfold F110 at h
 show VW _ _ _ _ _ (retQ _ _ _ _) _
 refine nR K (tn 1) <| nR K (tn 2) ?_
 refine VW.join (fun s => ∃ x16, s = ⟨[(3, hh 0)], [ar 0 (.int .u8) x16 .dp]⟩ ∧ F110_j0 N x16 = some r) ?_ ?_
 ·refine nR K (tn 1) <| VW.block <| lop (fun k s => ∃ x22 x23, s = ⟨[(0, Vv (.sl (.int .u8)) a0), (3, hh 0), (4, I x23)], [ar 0 (.int .u8) x22 .dp]⟩ ∧ F110_l0 N a0 k x22 x23 = some r) N [.nilS 3 (.int .u8) .dp, .ren [0, 3, 4] [0]] ⟨[], (0 : Int), rfl, h⟩ ?_
  rintro k28 s ⟨x22, x23, rfl, h⟩
  cases k28 with
  | zero => cases show none = some r from h
  | succ k28 =>
   replace h : F110_l0_b N a0 (F110_l0 N a0 k28) x22 x23 = some r := h
   unfold F110_l0_b at h
   refine sq <| nR K (tn 4) ?_
   refine cnd h ?_ ?_<;>intro h
   ·refine VW.skip <| sq <| VW.block ?_
    obtain⟨g31,h⟩:=gS h
    obtain⟨g32,h⟩:=gS h
    refine nE K (pu 3 (an g31 (pu 2 (an g32 (tn 1))))) <| nE K (tn 3) ?_
    exact aro [.ren [0, 3, 4] [0]] ⟨(x22 ++ ([(a0.getD x23.toNat (Ty.dflt (.int .u8)))])), (wr (x23 + (1 : Int))), rfl, h⟩
   refine VW.exit ?_
   exact arv [.ren [3] [0]] ⟨x22, rfl, h⟩
 rintro s ⟨x16, rfl, h⟩
 unfold F110_j0 at h
 refine nR K (tn 2) ?_
 cases h; exact VW.ret (rt [some 0])
def F87_j0 (N : Nat) (x17 : (List Int)) : Option ((List Int)) :=
  some x17
def F87_l0_b (N : Nat) (a1 : (List Int)) (nx29 : (List Int) → Int → Option ((List Int))) (x23 : (List Int)) (x24 : Int) : Option ((List Int)) :=
  cond (decide (x24 < (a1.length : Int))) (gd (InR x24 a1.length) (gd (x23.length + ([(a1.getD x24.toNat (Ty.dflt (.int .u8)))]).length ≤ lim (.int .u8)) (nx29 (x23 ++ ([(a1.getD x24.toNat (Ty.dflt (.int .u8)))])) (IntKind.i64.wrap (x24 + (1 : Int)))))) (F87_j0 N x23)
def F87_l0 (N : Nat) (a1 : (List Int)) := loopF (F87_l0_b N a1) (fun _ _ => none)
theorem F87_l0_s N a1 {k} (hk : 0 < k) x23 x24 : F87_l0 N a1 k x23 x24 = F87_l0_b N a1 (F87_l0 N a1 (k - 1)) x23 x24 := by cases k;cases hk;rfl
def F87 (N : Nat) (a0 : (List Int)) (a1 : (List Int)) : Option ((List Int)) :=
  andO (F110 N a0) fun y1 => F87_l0 N a1 N y1 (0 : Int)
theorem ok87 N a0 a1 {r} (h : F87 N a0 a1 = some r) : Con prog 87 [Vv (.sl (.int .u8)) a0, Vv (.sl (.int .u8)) a1] [.lf (.own (.int .u8) r .dp)] := by
 refine ctr [.lf (.own (.int .u8) .dp)] K func87 rfl fun w0 E0 ht => ?_
 unfold F87 at h
 show VW _ _ _ _ _ (retQ _ _ _ _) _
 refine nR K (tn 1) <| sq <| VW.region <| nG K 1 (tn 1) ?_
 obtain⟨y1,hy,h⟩:=aS h
 refine clc false [.t (.sl (.int .u8))] [] (some 8) K (ok110 N _ hy) <| nN K (tn 1) ?_
 refine VW.join (fun s => ∃ x17, s = ⟨[(5, hh 0)], [ar 0 (.int .u8) x17 .dp]⟩ ∧ F87_j0 N x17 = some r) ?_ ?_
 ·refine nR K (tn 1) <| VW.block <| lop (fun k s => ∃ x23 x24, s = ⟨[(1, Vv (.sl (.int .u8)) a1), (5, hh 0), (6, I x24)], [ar 0 (.int .u8) x23 .dp]⟩ ∧ F87_l0 N a1 k x23 x24 = some r) N [.ren [1, 5, 6] [0]] ⟨y1, (0 : Int), rfl, h⟩ ?_
  rintro k29 s ⟨x23, x24, rfl, h⟩
  cases k29 with
  | zero => cases show none = some r from h
  | succ k29 =>
   replace h : F87_l0_b N a1 (F87_l0 N a1 k29) x23 x24 = some r := h
   unfold F87_l0_b at h
   refine sq <| nR K (tn 4) ?_
   refine cnd h ?_ ?_<;>intro h
   ·refine VW.skip <| sq <| VW.block ?_
    obtain⟨g32,h⟩:=gS h
    obtain⟨g33,h⟩:=gS h
    refine nE K (pu 3 (an g32 (pu 2 (an g33 (tn 1))))) <| nE K (tn 3) ?_
    exact aro [.ren [1, 5, 6] [0]] ⟨(x23 ++ ([(a1.getD x24.toNat (Ty.dflt (.int .u8)))])), (wr (x24 + (1 : Int))), rfl, h⟩
   refine VW.exit ?_
   exact arv [.ren [5] [0]] ⟨x23, rfl, h⟩
 rintro s ⟨x17, rfl, h⟩
 unfold F87_j0 at h
 refine nR K (tn 2) ?_
 cases h; exact VW.ret (rt [some 0])
def F111 (N : Nat) (a0 : ByteArray) : Option ((List Int)) :=
  andO (F61 N a0) fun y2 => cond (!y2) (some ([])) (andO (F86 N (a0.size : Int)) fun y3 => andO (F87 N y3 (bytesOf a0)) fun y4 => some y4)
theorem ok111 N a0 {r} (h : F111 N a0 = some r) : Con prog 111 [S a0] [.lf (.own (.int .u8) r .dp)] := by
 refine ctr [.lf (.own (.int .u8) .dp)] K func111 rfl fun w0 E0 ht => ?_
 unfold F111 at h
 show VW _ _ _ _ _ (retQ _ _ _ _) _
 refine nR K (tn 1) <| sq <| sq <| VW.region <| nG K 1 (tn 1) ?_
 obtain⟨y2,hy,h⟩:=aS h
 refine clc false [.t .str] [] (some 4) K (ok61 N _ hy) <| nN K (tn 1) ?_
 refine cnd h ?_ ?_<;>intro h
 ·refine nR K (tn 1) ?_
  cases h; exact VW.ret (rt [none])
 refine VW.skip <| sq <| VW.region <| nG K 2 (tn 2) ?_
 obtain⟨y3,hy,h⟩:=aS h
 refine clc false [.t (.int .i64)] [] (some 8) K (ok86 N _ hy) <| nG K 2 (tn 2) ?_
 obtain⟨y4,hy,h⟩:=aS h
 refine clc true [.t (.sl (.int .u8)), .t (.sl (.int .u8))] [] (some 11) K (ok87 N _ _ hy) <| nN K (tn 1) ?_
 cases h; exact VW.ret (rt [some 1])
def F112_j0 (N : Nat) (x22 : (List Int)) : Option ((List Int)) :=
  some x22
def F112_l0_b (N : Nat) (a1 : (List Int)) (nx38 : (List Int) → Int → Option ((List Int))) (x30 : (List Int)) (x31 : Int) : Option ((List Int)) :=
  cond (decide (x31 < (a1.length : Int))) (gd (InR x31 a1.length) (andO (F86 N (a1.getD x31.toNat (Ty.dflt (.int .i64)))) fun y43 => andO (F87 N x30 y43) fun y44 => nx38 y44 (IntKind.i64.wrap (x31 + (1 : Int))))) (F112_j0 N x30)
def F112_l0 (N : Nat) (a1 : (List Int)) := loopF (F112_l0_b N a1) (fun _ _ => none)
theorem F112_l0_s N a1 {k} (hk : 0 < k) x30 x31 : F112_l0 N a1 k x30 x31 = F112_l0_b N a1 (F112_l0 N a1 (k - 1)) x30 x31 := by cases k;cases hk;rfl
def F112 (N : Nat) (a0 : (List Int)) (a1 : (List Int)) : Option ((List Int)) :=
  F112_l0 N a1 N a0 (0 : Int)
theorem ok112 N a0 a1 {r} (h : F112 N a0 a1 = some r) : Con prog 112 [Vv (.sl (.int .u8)) a0, Vv (.sl (.int .i64)) a1] [.lf (.v (.sl (.int .u8)) r)] := by
 refine ctr [.lf (.v (.sl (.int .u8)))] K func112 rfl fun w0 E0 ht => ?_
 unfold F112 at h
 show VW _ _ _ _ _ (retQ _ _ _ _) _
 refine nR K (tn 1) ?_
 refine VW.join (fun s => ∃ x22, s = ⟨[(0, Vv (.sl (.int .u8)) x22)], []⟩ ∧ F112_j0 N x22 = some r) ?_ ?_
 ·refine nR K (tn 1) <| VW.block <| lop (fun k s => ∃ x30 x31, s = ⟨[(0, Vv (.sl (.int .u8)) x30), (1, Vv (.sl (.int .i64)) a1), (5, I x31)], []⟩ ∧ F112_l0 N a1 k x30 x31 = some r) N [.ren [0, 1, 5] []] ⟨a0, (0 : Int), rfl, h⟩ ?_
  rintro k38 s ⟨x30, x31, rfl, h⟩
  cases k38 with
  | zero => cases show none = some r from h
  | succ k38 =>
   replace h : F112_l0_b N a1 (F112_l0 N a1 k38) x30 x31 = some r := h
   unfold F112_l0_b at h
   refine sq <| nR K (tn 4) ?_
   refine cnd h ?_ ?_<;>intro h
   ·refine VW.skip <| sq <| VW.block <| VW.region ?_
    obtain⟨g42,h⟩:=gS h
    refine nG K 5 (pu 3 (an g42 (tn 1))) ?_
    obtain⟨y43,hy,h⟩:=aS h
    refine clc false [.t (.int .i64)] [] (some 17) K (ok86 N _ hy) ?_
    obtain⟨y44,hy,h⟩:=aS h
    refine clc true [.t (.sl (.int .u8)), .t (.sl (.int .u8))] [] (some 18) K (ok87 N _ _ hy) <| nN K (tn 1) <| nE K (tn 3) ?_
    exact aro [.frz 1, .ren [0, 1, 5] []] ⟨y44, (wr (x31 + (1 : Int))), rfl, h⟩
   refine VW.exit ?_
   exact arv [.ren [0] []] ⟨x30, rfl, h⟩
 rintro s ⟨x22, rfl, h⟩
 unfold F112_j0 at h
 refine nR K (tn 2) ?_
 cases h; exact VW.ret (rt [])
def F113 (N : Nat) (a0 : Bool) : Option (Int) :=
  cond a0 (some (1 : Int)) (some (0 : Int))
theorem ok113 N a0 {r} (h : F113 N a0 = some r) : Con prog 113 [B a0] [.lf (.v (.int .i64) r)] := by
 refine ctr [.lf (.v (.int .i64))] K func113 rfl fun w0 E0 ht => ?_
 unfold F113 at h
 show VW _ _ _ _ _ (retQ _ _ _ _) _
 refine nR K (tn 1) <| sq <| nR K (tn 1) ?_
 refine cnd h ?_ ?_<;>intro h
 ·refine nR K (tn 1) ?_
  cases h; exact VW.ret (rt [])
 refine VW.skip <| nR K (tn 1) ?_
 cases h; exact VW.ret (rt [])
def F114_j0 (N : Nat) (x47 : (List Int)) : Option ((List Int)) :=
  some x47
def F114_l0_b (N : Nat) (a0 : (List Int)) (nx79 : (List Int) → Int → Option ((List Int))) (x63 : (List Int)) (x64 : Int) : Option ((List Int)) :=
  cond (decide (x64 < (a0.length : Int))) (gd (InR x64 a0.length) (andO (F109 N (a0.getD x64.toNat (Ty.dflt (.int .i64)))) fun y90 => cond (!y90) (some ([])) (gd (InR x64 a0.length) (andO (F86 N (a0.getD x64.toNat (Ty.dflt (.int .i64)))) fun y92 => andO (F87 N x63 y92) fun y93 => nx79 y93 (IntKind.i64.wrap (x64 + (1 : Int))))))) (F114_j0 N x63)
def F114_l0 (N : Nat) (a0 : (List Int)) := loopF (F114_l0_b N a0) (fun _ _ => none)
theorem F114_l0_s N a0 {k} (hk : 0 < k) x63 x64 : F114_l0 N a0 k x63 x64 = F114_l0_b N a0 (F114_l0 N a0 (k - 1)) x63 x64 := by cases k;cases hk;rfl
def F114 (N : Nat) (a0 : (List Int)) : Option ((List Int)) :=
  cond (decide ((a0.length : Int) > (300 : Int))) (some ([])) (andO (F86 N (a0.length : Int)) fun y1 => F114_l0 N a0 N y1 (0 : Int))
theorem ok114 N a0 {r} (h : F114 N a0 = some r) : Con prog 114 [Vv (.sl (.int .i64)) a0] [.lf (.own (.int .u8) r .dp)] := by
 refine ctr [.lf (.own (.int .u8) .dp)] K func114 rfl fun w0 E0 ht => ?_
 unfold F114 at h
 show VW _ _ _ _ _ (retQ _ _ _ _) _
 refine nR K (tn 1) <| sq <| nR K (tn 3) ?_
 refine cnd h ?_ ?_<;>intro h
 ·refine nR K (tn 1) ?_
  cases h; exact VW.ret (rt [none])
 refine VW.skip <| sq <| VW.region <| nG K 2 (tn 2) ?_
 obtain⟨y1,hy,h⟩:=aS h
 refine clc false [.t (.int .i64)] [] (some 10) K (ok86 N _ hy) <| nN K (tn 1) ?_
 refine VW.join (fun s => ∃ x47, s = ⟨[(3, hh 0)], [ar 0 (.int .u8) x47 .dp]⟩ ∧ F114_j0 N x47 = some r) ?_ ?_
 ·refine nR K (tn 1) <| VW.block <| lop (fun k s => ∃ x63 x64, s = ⟨[(0, Vv (.sl (.int .i64)) a0), (3, hh 0), (4, I x64)], [ar 0 (.int .u8) x63 .dp]⟩ ∧ F114_l0 N a0 k x63 x64 = some r) N [.ren [0, 3, 4] [0]] ⟨y1, (0 : Int), rfl, h⟩ ?_
  rintro k79 s ⟨x63, x64, rfl, h⟩
  cases k79 with
  | zero => cases show none = some r from h
  | succ k79 =>
   replace h : F114_l0_b N a0 (F114_l0 N a0 k79) x63 x64 = some r := h
   unfold F114_l0_b at h
   refine sq <| nR K (tn 4) ?_
   refine cnd h ?_ ?_<;>intro h
   ·refine VW.skip <| sq <| VW.block <| sq <| sq <| VW.region ?_
    obtain⟨g89,h⟩:=gS h
    refine nG K 4 (pu 2 (an g89 (tn 1))) ?_
    obtain⟨y90,hy,h⟩:=aS h
    refine clc false [.t (.int .i64)] [] (some 21) K (ok109 N _ hy) <| nN K (tn 1) ?_
    refine cnd h ?_ ?_<;>intro h
    ·refine nR K (tn 1) ?_
     cases h; exact VW.ret (rt [none])
    refine VW.skip <| VW.region ?_
    obtain⟨g91,h⟩:=gS h
    refine nG K 5 (pu 3 (an g91 (tn 1))) ?_
    obtain⟨y92,hy,h⟩:=aS h
    refine clc false [.t (.int .i64)] [] (some 28) K (ok86 N _ hy) ?_
    obtain⟨y93,hy,h⟩:=aS h
    refine clc true [.t (.sl (.int .u8)), .t (.sl (.int .u8))] [] (some 29) K (ok87 N _ _ hy) <| nN K (tn 1) <| nE K (tn 3) ?_
    exact aro [.ren [0, 3, 4] [2]] ⟨y93, (wr (x64 + (1 : Int))), rfl, h⟩
   refine VW.exit ?_
   exact arv [.ren [3] [0]] ⟨x63, rfl, h⟩
 rintro s ⟨x47, rfl, h⟩
 unfold F114_j0 at h
 refine nR K (tn 2) ?_
 cases h; exact VW.ret (rt [some 0])
def F88 (N : Nat) (a0 : Z87) : Option ((List Int)) :=
  andO (F90 N a0) fun y2 => cond (!y2) (some ([])) (andO (F86 N a0.1) fun y3 => cond (a0.1 == (0 : Int)) (andO (F111 N a0.2.1) fun y14 => andO (F87 N y3 y14) fun y15 => some y15) (cond (a0.1 == (1 : Int)) (andO (F113 N a0.2.2.2.2.2.1) fun y16 => andO (F112 N y3 ([a0.2.2.1, a0.2.2.2.1, y16, a0.2.2.2.2.1])) fun y17 => some y17) (cond (a0.1 == (2 : Int)) (andO (F114 N a0.2.2.2.2.2.2) fun y18 => andO (F87 N y3 y18) fun y19 => some y19) (cond (a0.1 == (3 : Int)) (andO (F112 N y3 ([a0.2.2.1, a0.2.2.2.2.1])) fun y20 => some y20) (cond (a0.1 == (5 : Int)) (andO (F112 N y3 ([a0.2.2.1])) fun y21 => some y21) (cond (a0.1 == (6 : Int)) (andO (F113 N a0.2.2.2.2.2.1) fun y22 => andO (F112 N y3 ([y22, a0.2.2.2.2.1])) fun y23 => some y23) (some y3)))))))
theorem ok88 N a0 {r} (h : F88 N a0 = some r) : Con prog 88 [.agg (lv Y87 a0)] [.lf (.v (.sl (.int .u8)) r)] := by
 refine ctr [.lf (.v (.sl (.int .u8)))] K func88 rfl fun w0 E0 ht => ?_
 unfold F88 at h
 show VW _ _ _ _ _ (retQ _ _ _ _) _
 refine nR K (tn 2) <| sq <| sq <| VW.region <| nG K 1 (tn 1) ?_
 obtain⟨y2,hy,h⟩:=aS h
 refine clc false [.t Y87] [] (some 5) K (ok90 N _ hy) <| nN K (tn 1) ?_
 refine cnd h ?_ ?_<;>intro h
 ·refine nR K (tn 1) ?_
  cases h; exact VW.ret (rt [])
 refine VW.skip <| sq <| VW.region <| nG K 2 (tn 2) ?_
 obtain⟨y3,hy,h⟩:=aS h
 refine clc false [.t (.int .i64)] [] (some 9) K (ok86 N _ hy) <| nN K (tn 1) <| sq <| nR K (tn 2) <| VW.block <| nR K (tn 2) ?_
 refine cnd h ?_ ?_<;>intro h
 ·refine sq <| VW.region <| nG K 3 (tn 3) ?_
  obtain⟨y14,hy,h⟩:=aS h
  refine clc false [.t .str] [] (some 17) K (ok111 N _ hy) ?_
  obtain⟨y15,hy,h⟩:=aS h
  refine clc true [.t (.sl (.int .u8)), .t (.sl (.int .u8))] [] (some 18) K (ok87 N _ _ hy) <| nN K (tn 1) ?_
  cases h; exact VW.ret (rt [])
 refine nR K (tn 2) ?_
 refine cnd h ?_ ?_<;>intro h
 ·refine sq ?_
  obtain⟨y16,hy16,h⟩:=aS h
  obtain⟨y17,hy17,h⟩:=aS h
  refine dr K [(7, .cl [] (some 28) [.lf (.v (.int .i64) y16)]), (11, .cl [1, 2] (some 32) [.lf (.v (.sl (.int .u8)) y17)])] [(7, 0), (11, 1)] [10, 11] [2] [] (tn 13) ⟨qC false [.t .bool] [] [] (some 28) K (ok113 N _ hy16), qC false [.t (.sl (.int .u8)), .t (.sl (.int .i64))] [] [1, 2] (some 32) K (ok112 N _ _ hy17), trivial⟩ ?_
  cases h; exact VW.ret (rt [])
 refine nR K (tn 2) ?_
 refine cnd h ?_ ?_<;>intro h
 ·refine sq <| VW.region <| nG K 3 (tn 3) ?_
  obtain⟨y18,hy,h⟩:=aS h
  refine clc false [.t (.sl (.int .i64))] [] (some 38) K (ok114 N _ hy) ?_
  obtain⟨y19,hy,h⟩:=aS h
  refine clc true [.t (.sl (.int .u8)), .t (.sl (.int .u8))] [] (some 39) K (ok87 N _ _ hy) <| nN K (tn 1) ?_
  cases h; exact VW.ret (rt [])
 refine nR K (tn 2) ?_
 refine cnd h ?_ ?_<;>intro h
 ·refine sq <| VW.region <| nG K 6 (tn 6) ?_
  obtain⟨y20,hy,h⟩:=aS h
  refine VO.ghl [.frz 1, .frz 2] <| clc false [.t (.sl (.int .u8)), .t (.sl (.int .i64))] [] (some 48) K (ok112 N _ _ hy) <| nN K (tn 1) ?_
  cases h; exact VW.ret (rt [])
 refine nR K (tn 2) ?_
 refine cnd h ?_ ?_<;>intro h
 ·refine sq <| VW.region <| nG K 4 (tn 4) ?_
  obtain⟨y21,hy,h⟩:=aS h
  refine VO.ghl [.frz 1, .frz 2] <| clc false [.t (.sl (.int .u8)), .t (.sl (.int .i64))] [] (some 55) K (ok112 N _ _ hy) <| sN K [2] [] ⟨[(2, Vv (.sl (.int .u8)) y21)], []⟩ (tn 1) ?_
  cases h; exact VW.ret (rt [])
 refine nR K (tn 2) ?_
 refine cnd h ?_ ?_<;>intro h
 ·refine sq ?_
  obtain⟨y22,hy22,h⟩:=aS h
  obtain⟨y23,hy23,h⟩:=aS h
  refine dr K [(3, .cl [] (some 61) [.lf (.v (.int .i64) y22)]), (7, .cl [1, 2] (some 65) [.lf (.v (.sl (.int .u8)) y23)])] [(3, 0), (7, 1)] [6, 7] [2] [] (tn 9) ⟨qC false [.t .bool] [] [] (some 61) K (ok113 N _ hy22), qC false [.t (.sl (.int .u8)), .t (.sl (.int .i64))] [] [1, 2] (some 65) K (ok112 N _ _ hy23), trivial⟩ ?_
  cases h; exact VW.ret (rt [])
 refine VW.skip <| sR K [2] [1] ⟨[(2, hh 0)], [ar 0 (.int .u8) y3 .dp]⟩ (tn 2) ?_
 cases h; exact VW.ret (rt [])
def F115_j0 (N : Nat) (x10 : Int) : Option (Int) :=
  some x10
def F115_l0_b (N : Nat) (a0 : (List Int)) (nx18 : Int → Int → Option (Int)) (x14 : Int) (x15 : Int) : Option (Int) :=
  cond (decide (x15 < (a0.length : Int))) (gd (InR x15 a0.length) (nx18 (Int.tmod (IntKind.i64.wrap ((IntKind.i64.wrap ((269 : Int) * x14)) + (IntKind.i64.wrap (a0.getD x15.toNat (Ty.dflt (.int .u8)))))) (999983 : Int)) (IntKind.i64.wrap (x15 + (1 : Int))))) (F115_j0 N x14)
def F115_l0 (N : Nat) (a0 : (List Int)) := loopF (F115_l0_b N a0) (fun _ _ => none)
theorem F115_l0_s N a0 {k} (hk : 0 < k) x14 x15 : F115_l0 N a0 k x14 x15 = F115_l0_b N a0 (F115_l0 N a0 (k - 1)) x14 x15 := by cases k;cases hk;rfl
def F115 (N : Nat) (a0 : (List Int)) : Option (Int) :=
  F115_l0 N a0 N (5 : Int) (0 : Int)
theorem ok115 N a0 {r} (h : F115 N a0 = some r) : Con prog 115 [Vv (.sl (.int .u8)) a0] [.lf (.v (.int .i64) r)] := by
 refine ctr [.lf (.v (.int .i64))] K func115 rfl fun w0 E0 ht => ?_
 unfold F115 at h
 show VW _ _ _ _ _ (retQ _ _ _ _) _
 refine nR K (tn 1) <| nR K (tn 1) ?_
 refine VW.join (fun s => ∃ x10, s = ⟨[(3, I x10)], []⟩ ∧ F115_j0 N x10 = some r) ?_ ?_
 ·refine nR K (tn 1) <| VW.block <| lop (fun k s => ∃ x14 x15, s = ⟨[(0, Vv (.sl (.int .u8)) a0), (3, I x14), (4, I x15)], []⟩ ∧ F115_l0 N a0 k x14 x15 = some r) N [.ren [0, 3, 4] []] ⟨(5 : Int), (0 : Int), rfl, h⟩ ?_
  rintro k18 s ⟨x14, x15, rfl, h⟩
  cases k18 with
  | zero => cases show none = some r from h
  | succ k18 =>
   replace h : F115_l0_b N a0 (F115_l0 N a0 k18) x14 x15 = some r := h
   unfold F115_l0_b at h
   refine sq <| nR K (tn 4) ?_
   refine cnd h ?_ ?_<;>intro h
   ·refine VW.skip <| sq <| VW.block ?_
    obtain⟨g20,h⟩:=gS h
    refine nE K (pu 4 (an g20 (pu 3 (an (show ((999983 : Int) ≠ 0) from by decide) (tn 1))))) <| nE K (tn 3) ?_
    exact aro [.ren [0, 3, 4] []] ⟨(Int.tmod (wr ((wr ((269 : Int) * x14)) + (wr (a0.getD x15.toNat (Ty.dflt (.int .u8)))))) (999983 : Int)), (wr (x15 + (1 : Int))), rfl, h⟩
   refine VW.exit ?_
   exact arv [.ren [3] []] ⟨x14, rfl, h⟩
 rintro s ⟨x10, rfl, h⟩
 unfold F115_j0 at h
 refine nR K (tn 2) ?_
 cases h; exact VW.ret (rt [])
def F89 (N : Nat) (a0 : (List Int)) : Option ((List Int) × Bool) :=
  cond (decide ((a0.length : Int) > (4000 : Int))) (some ([], false)) (gd (0 < ([(80 : Int), (83 : Int)]).length) (andO (F86 N (a0.length : Int)) fun y2 => andO (F87 N ([(80 : Int), (83 : Int)]) y2) fun y3 => andO (F87 N y3 a0) fun y4 => andO (F115 N a0) fun y5 => andO (F86 N y5) fun y6 => andO (F87 N y4 y6) fun y7 => some (y7, true)))
theorem ok89 N a0 {r} (h : F89 N a0 = some r) : Con prog 89 [Vv (.sl (.int .u8)) a0] [.lf (.own (.int .u8) r.1 .dp), .lf (.v .bool r.2)] := by
 refine ctr [.lf (.own (.int .u8) .dp), .lf (.v .bool)] K func89 rfl fun w0 E0 ht => ?_
 unfold F89 at h
 show VW _ _ _ _ _ (retQ _ _ _ _) _
 refine nR K (tn 2) <| sq <| nR K (tn 3) ?_
 refine cnd h ?_ ?_<;>intro h
 ·refine nR K (tn 2) ?_
  cases h; exact VW.ret (rt [none])
 refine VW.skip <| sq <| VW.region <| nG K 1 (tn 1) ?_
 obtain⟨g1,h⟩:=gS h
 refine VO.mark (d := 9) (φ := 0 < ([(80 : Int), (83 : Int)]).length) (v := Vv (.sl (.int .u8)) ([(80 : Int), (83 : Int)])) (H' := [none]) K (by kernel_rfl) g1 <| nG K 2 (tn 2) ?_
 obtain⟨y2,hy,h⟩:=aS h
 refine clc false [.t (.int .i64)] [] (some 12) K (ok86 N _ hy) ?_
 obtain⟨y3,hy,h⟩:=aS h
 refine clc true [.t (.sl (.int .u8)), .t (.sl (.int .u8))] [] (some 13) K (ok87 N _ _ hy) <| nN K (tn 1) <| sq <| VW.region <| nG K 2 (tn 2) ?_
 obtain⟨y4,hy,h⟩:=aS h
 refine clc true [.t (.sl (.int .u8)), .t (.sl (.int .u8))] [] (some 16) K (ok87 N _ _ hy) <| nG K 1 (tn 1) ?_
 obtain⟨y5,hy,h⟩:=aS h
 refine clc false [.t (.sl (.int .u8))] [] (some 18) K (ok115 N _ hy) ?_
 obtain⟨y6,hy,h⟩:=aS h
 refine clc false [.t (.int .i64)] [] (some 19) K (ok86 N _ hy) ?_
 obtain⟨y7,hy,h⟩:=aS h
 refine clc true [.t (.sl (.int .u8)), .t (.sl (.int .u8))] [] (some 20) K (ok87 N _ _ hy) <| nN K (tn 2) ?_
 cases h; exact VW.ret (rt [some 5])
def F64_j0 (N : Nat) (x25 : (List Int)) : Option ((List Int) × Bool) :=
  andO (F89 N x25) fun y26 => some (y26.1, y26.2)
def F64_l0_b (N : Nat) (a0 : (List Z87)) (nx42 : (List Int) → Int → Option ((List Int) × Bool)) (x34 : (List Int)) (x35 : Int) : Option ((List Int) × Bool) :=
  cond (decide (x35 < (a0.length : Int))) (gd (InR x35 a0.length) (andO (F88 N (a0.getD x35.toNat (Ty.dflt Y87))) fun y47 => andO (F87 N x34 y47) fun y48 => nx42 y48 (IntKind.i64.wrap (x35 + (1 : Int))))) (F64_j0 N x34)
def F64_l0 (N : Nat) (a0 : (List Z87)) := loopF (F64_l0_b N a0) (fun _ _ => none)
theorem F64_l0_s N a0 {k} (hk : 0 < k) x34 x35 : F64_l0 N a0 k x34 x35 = F64_l0_b N a0 (F64_l0 N a0 (k - 1)) x34 x35 := by cases k;cases hk;rfl
def F64 (N : Nat) (a0 : (List Z87)) : Option ((List Int) × Bool) :=
  andO (F65 N a0) fun y2 => cond (!y2) (some ([], false)) (andO (F86 N (a0.length : Int)) fun y3 => F64_l0 N a0 N y3 (0 : Int))
theorem ok64 N a0 {r} (h : F64 N a0 = some r) : Con prog 64 [Vv (.sl Y87) a0] [.lf (.own (.int .u8) r.1 .dp), .lf (.v .bool r.2)] := by
 refine ctr [.lf (.own (.int .u8) .dp), .lf (.v .bool)] K func64 rfl fun w0 E0 ht => ?_
 unfold F64 at h
 show VW _ _ _ _ _ (retQ _ _ _ _) _
 refine nR K (tn 2) <| sq <| sq <| VW.region <| nG K 1 (tn 1) ?_
 obtain⟨y2,hy,h⟩:=aS h
 refine clc false [.t (.sl Y87)] [] (some 7) K (ok65 N _ hy) <| nN K (tn 1) ?_
 refine cnd h ?_ ?_<;>intro h
 ·refine nR K (tn 2) ?_
  cases h; exact VW.ret (rt [none])
 refine VW.skip <| sq <| VW.region <| nG K 2 (tn 2) ?_
 obtain⟨y3,hy,h⟩:=aS h
 refine clc false [.t (.int .i64)] [] (some 11) K (ok86 N _ hy) <| nN K (tn 1) ?_
 refine VW.join (fun s => ∃ x25, s = ⟨[(4, hh 0)], [ar 0 (.int .u8) x25 .dp]⟩ ∧ F64_j0 N x25 = some r) ?_ ?_
 ·refine nR K (tn 1) <| VW.block <| lop (fun k s => ∃ x34 x35, s = ⟨[(0, Vv (.sl Y87) a0), (4, hh 0), (5, I x35)], [ar 0 (.int .u8) x34 .dp]⟩ ∧ F64_l0 N a0 k x34 x35 = some r) N [.ren [0, 4, 5] [0]] ⟨y3, (0 : Int), rfl, h⟩ ?_
  rintro k42 s ⟨x34, x35, rfl, h⟩
  cases k42 with
  | zero => cases show none = some r from h
  | succ k42 =>
   replace h : F64_l0_b N a0 (F64_l0 N a0 k42) x34 x35 = some r := h
   unfold F64_l0_b at h
   refine sq <| nR K (tn 4) ?_
   refine cnd h ?_ ?_<;>intro h
   ·refine VW.skip <| sq <| VW.block <| VW.region ?_
    obtain⟨g46,h⟩:=gS h
    refine nG K 5 (pu 3 (an g46 (tn 1))) ?_
    obtain⟨y47,hy,h⟩:=aS h
    refine clc false [.t Y87] [] (some 23) K (ok88 N _ hy) ?_
    obtain⟨y48,hy,h⟩:=aS h
    refine clc true [.t (.sl (.int .u8)), .t (.sl (.int .u8))] [] (some 24) K (ok87 N _ _ hy) <| nN K (tn 1) <| nE K (tn 3) ?_
    exact aro [.ren [0, 4, 5] [1]] ⟨y48, (wr (x35 + (1 : Int))), rfl, h⟩
   refine VW.exit ?_
   exact arv [.ren [4] [0]] ⟨x34, rfl, h⟩
 rintro s ⟨x25, rfl, h⟩
 unfold F64_j0 at h
 refine sq <| VW.region <| nG K 1 (tn 1) ?_
 obtain⟨y26,hy,h⟩:=aS h
 refine clc true [.t (.sl (.int .u8))] [] (some 26) K (ok89 N _ hy) <| nN K (tn 4) ?_
 cases h; exact VW.ret (rt [some 1])
def F36_j0 (N : Nat) (x19 : Int) : Option (Int) :=
  some x19
def F36_l0_b (N : Nat) (nx33 : (List Int) → Int → Int → Option (Int)) (x26 : (List Int)) (x27 : Int) (x28 : Int) : Option (Int) :=
  cond (decide (x28 < (x26.length : Int))) (gd (InR x28 x26.length) (gd (x28.toNat < x26.length) (nx33 x26 (Int.tmod (IntKind.i64.wrap ((IntKind.i64.wrap ((31 : Int) * x27)) + (IntKind.i64.wrap (x26.getD x28.toNat (Ty.dflt (.int .u8)))))) (251 : Int)) (IntKind.i64.wrap (x28 + (1 : Int)))))) (F36_j0 N x27)
def F36_l0 (N : Nat) := loopF (F36_l0_b N) (fun _ _ _ => none)
theorem F36_l0_s N {k} (hk : 0 < k) x26 x27 x28 : F36_l0 N k x26 x27 x28 = F36_l0_b N (F36_l0 N (k - 1)) x26 x27 x28 := by cases k;cases hk;rfl
def F36 (N : Nat) (a0 : (List Z87)) : Option (Int) :=
  andO (F64 N a0) fun y1 => cond (!y1.2) (some (-1 : Int)) (F36_l0 N N y1.1 (97 : Int) (0 : Int))
theorem ok36 N a0 {r} (h : F36 N a0 = some r) : Con prog 36 [Vv (.sl Y87) a0] [.lf (.v (.int .i64) r)] := by
 refine ctr [.lf (.v (.int .i64))] K func36 rfl fun w0 E0 ht => ?_
 unfold F36 at h
 show VW _ _ _ _ _ (retQ _ _ _ _) _
 refine nR K (tn 1) <| sq <| VW.region <| nG K 1 (tn 1) ?_
 obtain⟨y1,hy,h⟩:=aS h
 refine clc false [.t (.sl Y87)] [] (some 9) K (ok64 N _ hy) <| nN K (tn 5) <| sq <| nR K (tn 2) ?_
 refine cnd h ?_ ?_<;>intro h
 ·refine nR K (tn 1) ?_
  cases h; exact VW.ret (rt [])
 refine VW.skip <| nR K (tn 1) ?_
 refine VW.join (fun s => ∃ x19, s = ⟨[(5, I x19)], []⟩ ∧ F36_j0 N x19 = some r) ?_ ?_
 ·refine nR K (tn 1) <| VW.block <| lop (fun k s => ∃ x26 x27 x28, s = ⟨[(3, hh 0), (5, I x27), (6, I x28)], [ar 0 (.int .u8) x26 .dp]⟩ ∧ F36_l0 N k x26 x27 x28 = some r) N [.ren [3, 5, 6] [0]] ⟨y1.1, (97 : Int), (0 : Int), rfl, h⟩ ?_
  rintro k33 s ⟨x26, x27, x28, rfl, h⟩
  cases k33 with
  | zero => cases show none = some r from h
  | succ k33 =>
   replace h : F36_l0_b N (F36_l0 N k33) x26 x27 x28 = some r := h
   unfold F36_l0_b at h
   refine sq <| nR K (tn 4) ?_
   refine cnd h ?_ ?_<;>intro h
   ·refine VW.skip <| sq <| VW.block ?_
    obtain⟨g36,h⟩:=gS h
    obtain⟨g37,h⟩:=gS h
    refine nE K (pu 4 (an g36 (an g37 (pu 2 (an (show ((251 : Int) ≠ 0) from by decide) (tn 1)))))) <| nE K (tn 3) ?_
    exact aro [.ren [3, 5, 6] [0]] ⟨x26, (Int.tmod (wr ((wr ((31 : Int) * x27)) + (wr (x26.getD x28.toNat (Ty.dflt (.int .u8)))))) (251 : Int)), (wr (x28 + (1 : Int))), rfl, h⟩
   refine VW.exit ?_
   exact arv [.ren [5] []] ⟨x27, rfl, h⟩
 rintro s ⟨x19, rfl, h⟩
 unfold F36_j0 at h
 refine nR K (tn 2) ?_
 cases h; exact VW.ret (rt [])
def F37_j0 (N : Nat) : Option (Bool) :=
  some true
def F37_j1 (N : Nat) (nx32 : Int → Option (Bool)) (x26 : Int) : Option (Bool) :=
  nx32 (IntKind.i64.wrap (x26 + (1 : Int)))
def F37_l0_b (N : Nat) (a0 : (List Z87)) (a1 : Int) (nx32 : Int → Option (Bool)) (x26 : Int) : Option (Bool) :=
  cond (decide (x26 < (a0.length : Int))) (gd (InR x26 a0.length) (cond ((a0.getD x26.toNat (Ty.dflt Y87)).2.2.2.2.2.1) (gd (InR x26 a0.length) (cond (decide (((a0.getD x26.toNat (Ty.dflt Y87)).2.2.2.2.1) ≥ a1)) (some false) (F37_j1 N nx32 x26))) (F37_j1 N nx32 x26))) (F37_j0 N)
def F37_l0 (N : Nat) (a0 : (List Z87)) (a1 : Int) := loopF (F37_l0_b N a0 a1) (fun _ => none)
theorem F37_l0_s N a0 a1 {k} (hk : 0 < k) x26 : F37_l0 N a0 a1 k x26 = F37_l0_b N a0 a1 (F37_l0 N a0 a1 (k - 1)) x26 := by cases k;cases hk;rfl
def F37 (N : Nat) (a0 : (List Z87)) (a1 : Int) : Option (Bool) :=
  andO (F65 N a0) fun y2 => cond (!y2) (some false) (F37_l0 N a0 a1 N (0 : Int))
theorem ok37 N a0 a1 {r} (h : F37 N a0 a1 = some r) : Con prog 37 [Vv (.sl Y87) a0, I a1] [.lf (.v .bool r)] := by
 refine ctr [.lf (.v .bool)] K func37 rfl fun w0 E0 ht => ?_
 unfold F37 at h
 show VW _ _ _ _ _ (retQ _ _ _ _) _
 refine nR K (tn 1) <| sq <| sq <| VW.region <| nG K 1 (tn 1) ?_
 obtain⟨y2,hy,h⟩:=aS h
 refine clc false [.t (.sl Y87)] [] (some 7) K (ok65 N _ hy) <| nN K (tn 1) ?_
 refine cnd h ?_ ?_<;>intro h
 ·refine nR K (tn 1) ?_
  cases h; exact VW.ret (rt [])
 refine VW.skip ?_
 refine VW.join (fun s => s = ⟨[], []⟩ ∧ F37_j0 N = some r) ?_ ?_
 ·refine nR K (tn 1) <| VW.block <| lop (fun k s => ∃ x26, s = ⟨[(0, Vv (.sl Y87) a0), (1, I a1), (5, I x26)], []⟩ ∧ F37_l0 N a0 a1 k x26 = some r) N [.ren [0, 1, 5] []] ⟨(0 : Int), rfl, h⟩ ?_
  rintro k32 s ⟨x26, rfl, h⟩
  cases k32 with
  | zero => cases show none = some r from h
  | succ k32 =>
   replace h : F37_l0_b N a0 a1 (F37_l0 N a0 a1 k32) x26 = some r := h
   unfold F37_l0_b at h
   refine sq <| nR K (tn 4) ?_
   refine cnd h ?_ ?_<;>intro h
   ·refine VW.skip ?_
    refine VW.join (fun s => s = ⟨[(0, Vv (.sl Y87) a0), (1, I a1), (5, I x26)], []⟩ ∧ F37_j1 N (F37_l0 N a0 a1 k32) x26 = some r) ?_ ?_
    ·refine VW.block <| sq <| VW.region ?_
     obtain⟨g36,h⟩:=gS h
     refine nG K 6 (pu 2 (an g36 (tn 3))) ?_
     refine spC 20 h ?_ ?_<;>intro h
     ·obtain⟨g37,h⟩:=gS h
      refine nN K (pu 2 (an g37 (tn 5))) ?_
      refine cnd h ?_ ?_<;>intro h
      ·refine nR K (tn 1) ?_
       cases h; exact VW.ret (rt [])
      refine VW.skip ?_
      exact arv [.ren [0, 1, 5] []] ⟨rfl, h⟩
     refine nN K (tn 8) ?_
     refine VW.cond (b := false) (by kernel_rfl) (fun h' => nomatch h') (fun _ => ?_)
     refine VW.skip ?_
     exact arv [.ren [0, 1, 5] []] ⟨rfl, h⟩
    rintro s ⟨rfl, h⟩
    unfold F37_j1 at h
    refine nE K (tn 3) ?_
    exact aro [.ren [0, 1, 5] []] ⟨(wr (x26 + (1 : Int))), rfl, h⟩
   refine VW.exit ?_
   exact arv [.ren [] []] ⟨rfl, h⟩
 rintro s ⟨rfl, h⟩
 unfold F37_j0 at h
 refine nR K (tn 1) ?_
 cases h; exact VW.ret (rt [])
def F66_j0 (N : Nat) : Option (Bool) :=
  some false
def F66_l0_b (N : Nat) (a0 : (List Int)) (a1 : Int) (nx15 : Int → Option (Bool)) (x12 : Int) : Option (Bool) :=
  cond (decide (x12 < (a0.length : Int))) (gd (InR x12 a0.length) (cond ((a0.getD x12.toNat (Ty.dflt (.int .i64))) == a1) (some true) (nx15 (IntKind.i64.wrap (x12 + (1 : Int)))))) (F66_j0 N)
def F66_l0 (N : Nat) (a0 : (List Int)) (a1 : Int) := loopF (F66_l0_b N a0 a1) (fun _ => none)
theorem F66_l0_s N a0 a1 {k} (hk : 0 < k) x12 : F66_l0 N a0 a1 k x12 = F66_l0_b N a0 a1 (F66_l0 N a0 a1 (k - 1)) x12 := by cases k;cases hk;rfl
def F66 (N : Nat) (a0 : (List Int)) (a1 : Int) : Option (Bool) :=
  F66_l0 N a0 a1 N (0 : Int)
theorem ok66 N a0 a1 {r} (h : F66 N a0 a1 = some r) : Con prog 66 [Vv (.sl (.int .i64)) a0, I a1] [.lf (.v .bool r)] := by
 refine ctr [.lf (.v .bool)] K func66 rfl fun w0 E0 ht => ?_
 unfold F66 at h
 show VW _ _ _ _ _ (retQ _ _ _ _) _
 refine nR K (tn 1) ?_
 refine VW.join (fun s => s = ⟨[], []⟩ ∧ F66_j0 N = some r) ?_ ?_
 ·refine nR K (tn 1) <| VW.block <| lop (fun k s => ∃ x12, s = ⟨[(0, Vv (.sl (.int .i64)) a0), (1, I a1), (5, I x12)], []⟩ ∧ F66_l0 N a0 a1 k x12 = some r) N [.ren [0, 1, 5] []] ⟨(0 : Int), rfl, h⟩ ?_
  rintro k15 s ⟨x12, rfl, h⟩
  cases k15 with
  | zero => cases show none = some r from h
  | succ k15 =>
   replace h : F66_l0_b N a0 a1 (F66_l0 N a0 a1 k15) x12 = some r := h
   unfold F66_l0_b at h
   refine sq <| nR K (tn 4) ?_
   refine cnd h ?_ ?_<;>intro h
   ·refine VW.skip <| sq <| VW.block ?_
    obtain⟨g17,h⟩:=gS h
    refine nR K (pu 2 (an g17 (tn 3))) ?_
    refine cnd h ?_ ?_<;>intro h
    ·refine nR K (tn 1) ?_
     cases h; exact VW.ret (rt [])
    refine VW.skip <| nE K (tn 3) ?_
    exact aro [.ren [0, 1, 5] []] ⟨(wr (x12 + (1 : Int))), rfl, h⟩
   refine VW.exit ?_
   exact arv [.ren [] []] ⟨rfl, h⟩
 rintro s ⟨rfl, h⟩
 unfold F66_j0 at h
 refine nR K (tn 1) ?_
 cases h; exact VW.ret (rt [])
def F38_j0 (N : Nat) (x210 : (List Int)) : Option ((List Int)) :=
  some x210
def F38_j1 (N : Nat) (nx350 : (List Int) → Int → Option ((List Int))) (x281 : Int) (x384 : (List Int)) : Option ((List Int)) :=
  nx350 x384 (IntKind.i64.wrap (x281 + (1 : Int)))
def F38_j2 (N : Nat) (nx408 : (List Int) → Int → Option ((List Int))) (x397 : Int) (x413 : (List Int)) : Option ((List Int)) :=
  nx408 x413 (IntKind.i64.wrap (x397 + (1 : Int)))
def F38_l0_b (N : Nat) (a0 : (List Z87)) (nx350 : (List Int) → Int → Option ((List Int))) (x281 : Int) (nx408 : (List Int) → Int → Option ((List Int))) (x396 : (List Int)) (x397 : Int) : Option ((List Int)) :=
  cond (decide (x397 < (a0.length : Int))) (gd (InR x397 a0.length) (cond ((a0.getD x397.toNat (Ty.dflt Y87)).2.2.2.2.2.1) (gd (InR x397 a0.length) (cond (((a0.getD x397.toNat (Ty.dflt Y87)).2.2.2.2.1) == x281) (andO (F66 N x396 x281) fun y417 => cond (!y417) (gd (x396.length + ([x281]).length ≤ lim (.int .i64)) (F38_j2 N nx408 x397 (x396 ++ ([x281])))) (F38_j2 N nx408 x397 x396)) (F38_j2 N nx408 x397 x396))) (F38_j2 N nx408 x397 x396))) (F38_j1 N nx350 x281 x396)
def F38_l0 (N : Nat) (a0 : (List Z87)) (nx350 : (List Int) → Int → Option ((List Int))) (x281 : Int) := loopF (F38_l0_b N a0 nx350 x281) (fun _ _ => none)
theorem F38_l0_s N a0 nx350 x281 {k} (hk : 0 < k) x396 x397 : F38_l0 N a0 nx350 x281 k x396 x397 = F38_l0_b N a0 nx350 x281 (F38_l0 N a0 nx350 x281 (k - 1)) x396 x397 := by cases k;cases hk;rfl
def F38_l1_b (N : Nat) (a0 : (List Z87)) (nx350 : (List Int) → Int → Option ((List Int))) (x280 : (List Int)) (x281 : Int) : Option ((List Int)) :=
  cond (decide (x281 < (40 : Int))) (F38_l0 N a0 nx350 x281 N x280 (0 : Int)) (F38_j0 N x280)
def F38_l1 (N : Nat) (a0 : (List Z87)) := loopF (F38_l1_b N a0) (fun _ _ => none)
theorem F38_l1_s N a0 {k} (hk : 0 < k) x280 x281 : F38_l1 N a0 k x280 x281 = F38_l1_b N a0 (F38_l1 N a0 (k - 1)) x280 x281 := by cases k;cases hk;rfl
def F38 (N : Nat) (a0 : (List Z87)) : Option ((List Int)) :=
  andO (F65 N a0) fun y2 => cond (!y2) (some ([])) (F38_l1 N a0 N ([]) (0 : Int))
theorem ok38 N a0 {r} (h : F38 N a0 = some r) : Con prog 38 [Vv (.sl Y87) a0] [.lf (.own (.int .i64) r .dp)] := by
 refine ctr [.lf (.own (.int .i64) .dp)] K func38 rfl fun w0 E0 ht => ?_
 unfold F38 at h
 show VW _ _ _ _ _ (retQ _ _ _ _) _
 refine nR K (tn 1) <| nR K (tn 2) <| sq <| sq <| VW.region <| nG K 1 (tn 1) ?_
 obtain⟨y2,hy,h⟩:=aS h
 refine clc false [.t (.sl Y87)] [] (some 8) K (ok65 N _ hy) <| nN K (tn 1) ?_
 refine cnd h ?_ ?_<;>intro h
 ·refine nR K (tn 1) ?_
  cases h; exact VW.ret (rt [none])
 refine VW.skip ?_
 refine VW.join (fun s => ∃ x210, s = ⟨[(3, hh 0)], [ar 0 (.int .i64) x210 .dp]⟩ ∧ F38_j0 N x210 = some r) ?_ ?_
 ·refine nR K (tn 1) <| VW.block <| lop (fun k s => ∃ x280 x281, s = ⟨[(0, Vv (.sl Y87) a0), (3, hh 0), (4, I x281)], [ar 0 (.int .i64) x280 .dp]⟩ ∧ F38_l1 N a0 k x280 x281 = some r) N [.nilS 3 (.int .i64) .dp, .ren [0, 3, 4] [0]] ⟨[], (0 : Int), rfl, h⟩ ?_
  rintro k350 s ⟨x280, x281, rfl, h⟩
  cases k350 with
  | zero => cases show none = some r from h
  | succ k350 =>
   replace h : F38_l1_b N a0 (F38_l1 N a0 k350) x280 x281 = some r := h
   unfold F38_l1_b at h
   refine sq <| nR K (tn 2) ?_
   refine cnd h ?_ ?_<;>intro h
   ·refine VW.skip ?_
    refine VW.join (fun s => ∃ x384, s = ⟨[(0, Vv (.sl Y87) a0), (3, hh 0), (4, I x281)], [ar 0 (.int .i64) x384 .dp]⟩ ∧ F38_j1 N (F38_l1 N a0 k350) x281 x384 = some r) ?_ ?_
    ·refine VW.block <| nR K (tn 1) <| VW.block <| lop (fun k s => ∃ x396 x397, s = ⟨[(0, Vv (.sl Y87) a0), (3, hh 0), (4, I x281), (5, I x397)], [ar 0 (.int .i64) x396 .dp]⟩ ∧ F38_l0 N a0 (F38_l1 N a0 k350) x281 k x396 x397 = some r) N [.ren [0, 3, 4, 5] [0]] ⟨x280, (0 : Int), rfl, h⟩ ?_
     rintro k408 s ⟨x396, x397, rfl, h⟩
     cases k408 with
     | zero => cases show none = some r from h
     | succ k408 =>
      replace h : F38_l0_b N a0 (F38_l1 N a0 k350) x281 (F38_l0 N a0 (F38_l1 N a0 k350) x281 k408) x396 x397 = some r := h
      unfold F38_l0_b at h
      refine sq <| nR K (tn 4) ?_
      refine cnd h ?_ ?_<;>intro h
      ·refine VW.skip ?_
       refine VW.join (fun s => ∃ x413, s = ⟨[(0, Vv (.sl Y87) a0), (3, hh 0), (4, I x281), (5, I x397)], [ar 0 (.int .i64) x413 .dp]⟩ ∧ F38_j2 N (F38_l0 N a0 (F38_l1 N a0 k350) x281 k408) x397 x413 = some r) ?_ ?_
       ·refine VW.block <| sq <| VW.region ?_
        obtain⟨g415,h⟩:=gS h
        refine nG K 6 (pu 2 (an g415 (tn 3))) ?_
        refine spC 25 h ?_ ?_<;>intro h
        ·obtain⟨g416,h⟩:=gS h
         refine nG K 9 (pu 2 (an g416 (tn 6))) ?_
         refine spC 34 h ?_ ?_<;>intro h
         ·refine nG K 2 (tn 2) <| VO.on (j := 14) (want := true) (d := 34) (b := true) rfl rfl rfl (by kernel_rfl) rfl ?_
          obtain⟨y417,hy,h⟩:=aS h
          refine clc true [.t (.sl (.int .i64)), .t (.int .i64)] [] (some 37) K (ok66 N _ _ hy) <| nN K (tn 2) ?_
          refine cnd h ?_ ?_<;>intro h
          ·obtain⟨g418,h⟩:=gS h
           refine nE K (pu 3 (an g418 (tn 1))) ?_
           exact arv [.ren [0, 3, 4, 5] [0]] ⟨(x396 ++ ([x281])), rfl, h⟩
          refine VW.skip ?_
          exact arv [.ren [0, 3, 4, 5] [0]] ⟨x396, rfl, h⟩
         refine nN K (tn 5) ?_
         refine VW.cond (b := false) (by kernel_rfl) (fun h' => nomatch h') (fun _ => ?_)
         refine VW.skip ?_
         exact arv [.ren [0, 3, 4, 5] [0]] ⟨x396, rfl, h⟩
        refine nN K (tn 14) ?_
        refine VW.cond (b := false) (by kernel_rfl) (fun h' => nomatch h') (fun _ => ?_)
        refine VW.skip ?_
        exact arv [.ren [0, 3, 4, 5] [0]] ⟨x396, rfl, h⟩
       rintro s ⟨x413, rfl, h⟩
       unfold F38_j2 at h
       refine nE K (tn 3) ?_
       exact aro [.ren [0, 3, 4, 5] [0]] ⟨x413, (wr (x397 + (1 : Int))), rfl, h⟩
      refine VW.exit ?_
      exact arv [.ren [0, 3, 4] [0]] ⟨x396, rfl, h⟩
    rintro s ⟨x384, rfl, h⟩
    unfold F38_j1 at h
    refine nE K (tn 3) ?_
    exact aro [.ren [0, 3, 4] [0]] ⟨x384, (wr (x281 + (1 : Int))), rfl, h⟩
   refine VW.exit ?_
   exact arv [.ren [3] [0]] ⟨x280, rfl, h⟩
 rintro s ⟨x210, rfl, h⟩
 unfold F38_j0 at h
 refine nR K (tn 2) ?_
 cases h; exact VW.ret (rt [some 0])
def F92_j0 (N : Nat) : Option (Bool) :=
  some true
def F92_l0_b (N : Nat) (a0 : (List Int)) (a1 : (List Int)) (nx25 : Int → Option (Bool)) (x20 : Int) : Option (Bool) :=
  cond (decide (x20 < (a0.length : Int))) (gd (InR x20 a0.length) (gd (InR x20 a1.length) (cond ((a0.getD x20.toNat (Ty.dflt (.int .i64))) != (a1.getD x20.toNat (Ty.dflt (.int .i64)))) (some false) (nx25 (IntKind.i64.wrap (x20 + (1 : Int))))))) (F92_j0 N)
def F92_l0 (N : Nat) (a0 : (List Int)) (a1 : (List Int)) := loopF (F92_l0_b N a0 a1) (fun _ => none)
theorem F92_l0_s N a0 a1 {k} (hk : 0 < k) x20 : F92_l0 N a0 a1 k x20 = F92_l0_b N a0 a1 (F92_l0 N a0 a1 (k - 1)) x20 := by cases k;cases hk;rfl
def F92 (N : Nat) (a0 : (List Int)) (a1 : (List Int)) : Option (Bool) :=
  cond ((a0.length : Int) != (a1.length : Int)) (some false) (F92_l0 N a0 a1 N (0 : Int))
theorem ok92 N a0 a1 {r} (h : F92 N a0 a1 = some r) : Con prog 92 [Vv (.sl (.int .i64)) a0, Vv (.sl (.int .i64)) a1] [.lf (.v .bool r)] := by
 refine ctr [.lf (.v .bool)] K func92 rfl fun w0 E0 ht => ?_
 unfold F92 at h
 show VW _ _ _ _ _ (retQ _ _ _ _) _
 refine nR K (tn 1) <| sq <| nR K (tn 5) ?_
 refine cnd h ?_ ?_<;>intro h
 ·refine nR K (tn 1) ?_
  cases h; exact VW.ret (rt [])
 refine VW.skip ?_
 refine VW.join (fun s => s = ⟨[], []⟩ ∧ F92_j0 N = some r) ?_ ?_
 ·refine nR K (tn 1) <| VW.block <| lop (fun k s => ∃ x20, s = ⟨[(0, Vv (.sl (.int .i64)) a0), (1, Vv (.sl (.int .i64)) a1), (5, I x20)], []⟩ ∧ F92_l0 N a0 a1 k x20 = some r) N [.ren [0, 1, 5] []] ⟨(0 : Int), rfl, h⟩ ?_
  rintro k25 s ⟨x20, rfl, h⟩
  cases k25 with
  | zero => cases show none = some r from h
  | succ k25 =>
   replace h : F92_l0_b N a0 a1 (F92_l0 N a0 a1 k25) x20 = some r := h
   unfold F92_l0_b at h
   refine sq <| nR K (tn 4) ?_
   refine cnd h ?_ ?_<;>intro h
   ·refine VW.skip <| sq <| VW.block <| sq ?_
    obtain⟨g28,h⟩:=gS h
    obtain⟨g29,h⟩:=gS h
    refine dr K [] [] [] [0, 1, 5, 25] [] (pu 2 (an g28 (pu 3 (an g29 (tn 2))))) trivial ?_
    refine cnd h ?_ ?_<;>intro h
    ·refine nR K (tn 1) ?_
     cases h; exact VW.ret (rt [])
    refine VW.skip <| nE K (tn 3) ?_
    exact aro [.ren [0, 1, 5] []] ⟨(wr (x20 + (1 : Int))), rfl, h⟩
   refine VW.exit ?_
   exact arv [.ren [] []] ⟨rfl, h⟩
 rintro s ⟨rfl, h⟩
 unfold F92_j0 at h
 refine nR K (tn 1) ?_
 cases h; exact VW.ret (rt [])
def F67 (N : Nat) (a0 : Z87) (a1 : Z87) : Option (Bool) :=
  cond (a0.1 == a1.1) (cond (a0.2.1.toList == a1.2.1.toList) (cond (a0.2.2.1 == a1.2.2.1) (cond (a0.2.2.2.1 == a1.2.2.2.1) (cond (a0.2.2.2.2.1 == a1.2.2.2.2.1) (cond (a0.2.2.2.2.2.1 == a1.2.2.2.2.2.1) (andO (F92 N a0.2.2.2.2.2.2 a1.2.2.2.2.2.2) fun y1 => some y1) (some false)) (some false)) (some false)) (some false)) (some false)) (some false)
theorem ok67 N a0 a1 {r} (h : F67 N a0 a1 = some r) : Con prog 67 [.agg (lv Y87 a0), .agg (lv Y87 a1)] [.lf (.v .bool r)] := by
 refine ctr [.lf (.v .bool)] K func67 rfl fun w0 E0 ht => ?_
 unfold F67 at h
 show VW _ _ _ _ _ (retQ _ _ _ _) _
 refine nR K (tn 3) <| sq <| VW.region <| nG K 6 (tn 6) ?_
 refine spC 10 h ?_ ?_<;>intro h
 ·refine nG K 7 (tn 7) ?_
  refine spC 17 h ?_ ?_<;>intro h
  ·refine nG K 7 (tn 7) ?_
   refine spC 24 h ?_ ?_<;>intro h
   ·refine nG K 7 (tn 7) ?_
    refine spC 31 h ?_ ?_<;>intro h
    ·refine nG K 7 (tn 7) ?_
     refine spC 38 h ?_ ?_<;>intro h
     ·refine nG K 7 (tn 7) ?_
      refine spC 45 h ?_ ?_<;>intro h
      ·refine nG K 4 (tn 4) <| VO.on (j := 40) (want := true) (d := 45) (b := true) rfl rfl rfl (by kernel_rfl) rfl ?_
       obtain⟨y1,hy,h⟩:=aS h
       refine clc false [.t (.sl (.int .i64)), .t (.sl (.int .i64))] [] (some 50) K (ok92 N _ _ hy) <| nN K (tn 2) ?_
       cases h; exact VW.ret (rt [])
      refine nN K (tn 7) ?_
      cases h; exact VW.ret (rt [])
     refine nN K (tn 14) ?_
     cases h; exact VW.ret (rt [])
    refine nN K (tn 21) ?_
    cases h; exact VW.ret (rt [])
   refine nN K (tn 28) ?_
   cases h; exact VW.ret (rt [])
  refine nN K (tn 35) ?_
  cases h; exact VW.ret (rt [])
 refine nN K (tn 42) ?_
 cases h; exact VW.ret (rt [])
def F39_j0 (N : Nat) : Option (Bool) :=
  some true
def F39_l0_b (N : Nat) (a0 : (List Z87)) (a1 : (List Z87)) (nx35 : Int → Option (Bool)) (x28 : Int) : Option (Bool) :=
  cond (decide (x28 < (a0.length : Int))) (gd (InR x28 a0.length) (gd (InR x28 a1.length) (andO (F67 N (a0.getD x28.toNat (Ty.dflt Y87)) (a1.getD x28.toNat (Ty.dflt Y87))) fun y41 => cond (!y41) (some false) (nx35 (IntKind.i64.wrap (x28 + (1 : Int))))))) (F39_j0 N)
def F39_l0 (N : Nat) (a0 : (List Z87)) (a1 : (List Z87)) := loopF (F39_l0_b N a0 a1) (fun _ => none)
theorem F39_l0_s N a0 a1 {k} (hk : 0 < k) x28 : F39_l0 N a0 a1 k x28 = F39_l0_b N a0 a1 (F39_l0 N a0 a1 (k - 1)) x28 := by cases k;cases hk;rfl
def F39 (N : Nat) (a0 : (List Z87)) (a1 : (List Z87)) : Option (Bool) :=
  cond ((a0.length : Int) != (a1.length : Int)) (some false) (F39_l0 N a0 a1 N (0 : Int))
theorem ok39 N a0 a1 {r} (h : F39 N a0 a1 = some r) : Con prog 39 [Vv (.sl Y87) a0, Vv (.sl Y87) a1] [.lf (.v .bool r)] := by
 refine ctr [.lf (.v .bool)] K func39 rfl fun w0 E0 ht => ?_
 unfold F39 at h
 show VW _ _ _ _ _ (retQ _ _ _ _) _
 refine nR K (tn 1) <| sq <| nR K (tn 5) ?_
 refine cnd h ?_ ?_<;>intro h
 ·refine nR K (tn 1) ?_
  cases h; exact VW.ret (rt [])
 refine VW.skip ?_
 refine VW.join (fun s => s = ⟨[], []⟩ ∧ F39_j0 N = some r) ?_ ?_
 ·refine nR K (tn 1) <| VW.block <| lop (fun k s => ∃ x28, s = ⟨[(0, Vv (.sl Y87) a0), (1, Vv (.sl Y87) a1), (5, I x28)], []⟩ ∧ F39_l0 N a0 a1 k x28 = some r) N [.ren [0, 1, 5] []] ⟨(0 : Int), rfl, h⟩ ?_
  rintro k35 s ⟨x28, rfl, h⟩
  cases k35 with
  | zero => cases show none = some r from h
  | succ k35 =>
   replace h : F39_l0_b N a0 a1 (F39_l0 N a0 a1 k35) x28 = some r := h
   unfold F39_l0_b at h
   refine sq <| nR K (tn 4) ?_
   refine cnd h ?_ ?_<;>intro h
   ·refine VW.skip <| sq <| VW.block <| sq ?_
    obtain⟨g39,h⟩:=gS h
    obtain⟨g40,h⟩:=gS h
    obtain⟨y41,hy41,h⟩:=aS h
    refine dr K [(8, .cl [] (some 25) [.lf (.v .bool y41)])] [(8, 0)] [] [0, 1, 5, 26] [] (pu 2 (an g39 (pu 3 (an g40 (tn 3))))) ⟨qC false [.t Y87, .t Y87] [] [] (some 25) K (ok67 N _ _ hy41), trivial⟩ ?_
    refine cnd h ?_ ?_<;>intro h
    ·refine nR K (tn 1) ?_
     cases h; exact VW.ret (rt [])
    refine VW.skip <| nE K (tn 3) ?_
    exact aro [.ren [0, 1, 5] []] ⟨(wr (x28 + (1 : Int))), rfl, h⟩
   refine VW.exit ?_
   exact arv [.ren [] []] ⟨rfl, h⟩
 rintro s ⟨rfl, h⟩
 unfold F39_j0 at h
 refine nR K (tn 1) ?_
 cases h; exact VW.ret (rt [])
def F14_j0 (N : Nat) : Option (Bool) :=
  some true
def F14_j1 (N : Nat) (nx552 : Int → (List Z53) → (List Z42) → Int → Int → Int → Int → Int → Int → Int → Option (Bool)) (x443 : Int) (x444 : (List Z53)) (x445 : (List Z42)) (x446 : Int) (x447 : Int) (x448 : Int) (x449 : Int) (x450 : Int) (x451 : Int) (x452 : Int) : Option (Bool) :=
  nx552 x443 x444 x445 x446 x447 x448 x449 x450 x451 (IntKind.i64.wrap (x452 + (1 : Int)))
def F14_l0_b (N : Nat) (nx552 : Int → (List Z53) → (List Z42) → Int → Int → Int → Int → Int → Int → Int → Option (Bool)) (x443 : Int) (x444 : (List Z53)) (x445 : (List Z42)) (x446 : Int) (x447 : Int) (x448 : Int) (x449 : Int) (x450 : Int) (x451 : Int) (x452 : Int) (nx647 : Int → (List Z87) → (List Z87) → Int → Int → Int → Option (Bool)) (x637 : Int) (x638 : (List Z87)) (x639 : (List Z87)) (x640 : Int) (x641 : Int) (x642 : Int) : Option (Bool) :=
  cond (decide (x642 < x452)) (gd (InR x642 x445.length) (andO (F39 N ((x445.getD x642.toNat (Ty.dflt Y42)).2.1) x638) fun y651 => cond y651 (some false) (nx647 x637 x638 x639 x640 x641 (IntKind.i64.wrap (x642 + (1 : Int)))))) (F14_j1 N nx552 x443 x444 x445 x446 x447 x448 x449 x450 x451 x452)
def F14_l0 (N : Nat) (nx552 : Int → (List Z53) → (List Z42) → Int → Int → Int → Int → Int → Int → Int → Option (Bool)) (x443 : Int) (x444 : (List Z53)) (x445 : (List Z42)) (x446 : Int) (x447 : Int) (x448 : Int) (x449 : Int) (x450 : Int) (x451 : Int) (x452 : Int) := loopF (F14_l0_b N nx552 x443 x444 x445 x446 x447 x448 x449 x450 x451 x452) (fun _ _ _ _ _ _ => none)
theorem F14_l0_s N nx552 x443 x444 x445 x446 x447 x448 x449 x450 x451 x452 {k} (hk : 0 < k) x637 x638 x639 x640 x641 x642 : F14_l0 N nx552 x443 x444 x445 x446 x447 x448 x449 x450 x451 x452 k x637 x638 x639 x640 x641 x642 = F14_l0_b N nx552 x443 x444 x445 x446 x447 x448 x449 x450 x451 x452 (F14_l0 N nx552 x443 x444 x445 x446 x447 x448 x449 x450 x451 x452 (k - 1)) x637 x638 x639 x640 x641 x642 := by cases k;cases hk;rfl
def F14_l1_b (N : Nat) (nx552 : Int → (List Z53) → (List Z42) → Int → Int → Int → Int → Int → Int → Int → Option (Bool)) (x443 : Int) (x444 : (List Z53)) (x445 : (List Z42)) (x446 : Int) (x447 : Int) (x448 : Int) (x449 : Int) (x450 : Int) (x451 : Int) (x452 : Int) : Option (Bool) :=
  cond (decide (x452 < (x445.length : Int))) (gd (InR x452 x445.length) (andO (F35 N x444 ((x445.getD x452.toNat (Ty.dflt Y42)).2.1)) fun y616 => cond (!y616) (some false) (andO (F35 N x444 ((x445.getD x452.toNat (Ty.dflt Y42)).2.2.1)) fun y618 => cond (!y618) (some false) (andO (F36 N ((x445.getD x452.toNat (Ty.dflt Y42)).2.1)) fun y620 => cond (((x445.getD x452.toNat (Ty.dflt Y42)).1) != y620) (some false) (andO (F38 N ((x445.getD x452.toNat (Ty.dflt Y42)).2.1)) fun y622 => andO (F37 N ((x445.getD x452.toNat (Ty.dflt Y42)).2.2.1) (y622.length : Int)) fun y623 => cond (!y623) (some false) (andO (F31 N ((x445.getD x452.toNat (Ty.dflt Y42)).2.2.2.1) (0 : Int) x446) fun y625 => cond (!y625) (some false) (andO (F31 N ((x445.getD x452.toNat (Ty.dflt Y42)).2.2.2.2) (0 : Int) x447) fun y627 => cond (!y627) (some false) (F14_l0 N nx552 x443 x444 x445 x446 x447 x448 x449 x450 x451 x452 N ((x445.getD x452.toNat (Ty.dflt Y42)).1) ((x445.getD x452.toNat (Ty.dflt Y42)).2.1) ((x445.getD x452.toNat (Ty.dflt Y42)).2.2.1) ((x445.getD x452.toNat (Ty.dflt Y42)).2.2.2.1) ((x445.getD x452.toNat (Ty.dflt Y42)).2.2.2.2) (0 : Int))))))))) (F14_j0 N)
def F14_l1 (N : Nat) := loopF (F14_l1_b N) (fun _ _ _ _ _ _ _ _ _ _ => none)
theorem F14_l1_s N {k} (hk : 0 < k) x443 x444 x445 x446 x447 x448 x449 x450 x451 x452 : F14_l1 N k x443 x444 x445 x446 x447 x448 x449 x450 x451 x452 = F14_l1_b N (F14_l1 N (k - 1)) x443 x444 x445 x446 x447 x448 x449 x450 x451 x452 := by cases k;cases hk;rfl
def F14 (N : Nat) (a0 : Z24) : Option (Bool) :=
  andO (F31 N a0.1 (1 : Int) (16 : Int)) fun y9 => cond (!y9) (some false) (andO (F32 N a0.2.1) fun y10 => cond (!y10) (some false) (cond (decide ((a0.2.2.1.length : Int) > a0.1)) (some false) (andO (F33 N a0.2.2.2.1) fun y11 => cond (!y11) (some false) (andO (F33 N a0.2.2.2.2.1) fun y12 => cond (!y12) (some false) (andO (F34 N a0.2.2.2.2.2.1) fun y13 => cond (!y13) (some false) (andO (F34 N a0.2.2.2.2.2.2.1) fun y14 => cond (!y14) (some false) (andO (F34 N a0.2.2.2.2.2.2.2.1) fun y15 => cond (!y15) (some false) (andO (F34 N a0.2.2.2.2.2.2.2.2) fun y16 => cond (!y16) (some false) (F14_l1 N N a0.1 a0.2.1 a0.2.2.1 a0.2.2.2.1 a0.2.2.2.2.1 a0.2.2.2.2.2.1 a0.2.2.2.2.2.2.1 a0.2.2.2.2.2.2.2.1 a0.2.2.2.2.2.2.2.2 (0 : Int))))))))))
theorem ok14 N a0 {r} (h : F14 N a0 = some r) : Con prog 14 [.agg (lv Y24 a0)] [.lf (.v .bool r)] := by
 refine ctr [.lf (.v .bool)] K func14 rfl fun w0 E0 ht => ?_
 unfold F14 at h
 show VW _ _ _ _ _ (retQ _ _ _ _) _
 refine nR K (tn 2) <| sq <| sq <| VW.region <| nG K 2 (tn 2) ?_
 obtain⟨y9,hy,h⟩:=aS h
 refine clc false [.t (.int .i64), .t (.int .i64), .t (.int .i64)] [] (some 8) K (ok31 N _ _ _ hy) <| nG K 2 (tn 2) ?_
 refine spC 10 h ?_ ?_<;>intro h
 ·refine nN K (tn 49) ?_
  refine VW.cond (b := true) (by kernel_rfl) (fun _ => ?_) (fun h' => nomatch h')
  refine nR K (tn 1) ?_
  cases h; exact VW.ret (rt [])
 refine nG K 2 (tn 2) <| VO.on (j := 4) (want := false) (d := 10) (b := false) rfl rfl rfl (by kernel_rfl) rfl ?_
 obtain⟨y10,hy,h⟩:=aS h
 refine clc false [.t (.sl Y53)] [] (some 13) K (ok32 N _ hy) <| nG K 3 (tn 3) ?_
 refine spC 16 h ?_ ?_<;>intro h
 ·refine nN K (tn 43) ?_
  refine VW.cond (b := true) (by kernel_rfl) (fun _ => ?_) (fun h' => nomatch h')
  refine nR K (tn 1) ?_
  cases h; exact VW.ret (rt [])
 refine nG K 8 (tn 8) ?_
 refine spC 24 h ?_ ?_<;>intro h
 ·refine nN K (tn 35) ?_
  refine VW.cond (b := true) (by kernel_rfl) (fun _ => ?_) (fun h' => nomatch h')
  refine nR K (tn 1) ?_
  cases h; exact VW.ret (rt [])
 refine nG K 2 (tn 2) <| VO.on (j := 18) (want := false) (d := 24) (b := false) rfl rfl rfl (by kernel_rfl) rfl ?_
 obtain⟨y11,hy,h⟩:=aS h
 refine clc false [.t (.int .i64)] [] (some 27) K (ok33 N _ hy) <| nG K 3 (tn 3) ?_
 refine spC 30 h ?_ ?_<;>intro h
 ·refine nN K (tn 29) ?_
  refine VW.cond (b := true) (by kernel_rfl) (fun _ => ?_) (fun h' => nomatch h')
  refine nR K (tn 1) ?_
  cases h; exact VW.ret (rt [])
 refine nG K 2 (tn 2) <| VO.on (j := 24) (want := false) (d := 30) (b := false) rfl rfl rfl (by kernel_rfl) rfl ?_
 obtain⟨y12,hy,h⟩:=aS h
 refine clc false [.t (.int .i64)] [] (some 33) K (ok33 N _ hy) <| nG K 3 (tn 3) ?_
 refine spC 36 h ?_ ?_<;>intro h
 ·refine nN K (tn 23) ?_
  refine VW.cond (b := true) (by kernel_rfl) (fun _ => ?_) (fun h' => nomatch h')
  refine nR K (tn 1) ?_
  cases h; exact VW.ret (rt [])
 refine nG K 2 (tn 2) <| VO.on (j := 30) (want := false) (d := 36) (b := false) rfl rfl rfl (by kernel_rfl) rfl ?_
 obtain⟨y13,hy,h⟩:=aS h
 refine clc false [.t (.int .i64)] [] (some 39) K (ok34 N _ hy) <| nG K 3 (tn 3) ?_
 refine spC 42 h ?_ ?_<;>intro h
 ·refine sNh K [1, 59] [0] [(1, .lf (.ptr 0 0 0 0)), (59, B true)] (tn 17) ?_
  refine VW.cond (b := true) (by kernel_rfl) (fun _ => ?_) (fun h' => nomatch h')
  refine nR K (tn 1) ?_
  cases h; exact VW.ret (rt [])
 refine sGh K 2 [1, 42, 44] [0] [(1, .lf (.ptr 0 0 0 0)), (42, B false), (44, I a0.2.2.2.2.2.2.1)] (tn 2) <| VO.on (j := 36) (want := false) (d := 42) (b := false) rfl rfl rfl (by kernel_rfl) rfl ?_
 obtain⟨y14,hy,h⟩:=aS h
 refine clc false [.t (.int .i64)] [] (some 45) K (ok34 N _ hy) <| nG K 3 (tn 3) ?_
 refine spC 48 h ?_ ?_<;>intro h
 ·refine nN K (tn 11) ?_
  refine VW.cond (b := true) (by kernel_rfl) (fun _ => ?_) (fun h' => nomatch h')
  refine nR K (tn 1) ?_
  cases h; exact VW.ret (rt [])
 refine nG K 2 (tn 2) <| VO.on (j := 42) (want := false) (d := 48) (b := false) rfl rfl rfl (by kernel_rfl) rfl ?_
 obtain⟨y15,hy,h⟩:=aS h
 refine clc false [.t (.int .i64)] [] (some 51) K (ok34 N _ hy) <| nG K 3 (tn 3) ?_
 refine spC 54 h ?_ ?_<;>intro h
 ·refine nN K (tn 5) ?_
  refine VW.cond (b := true) (by kernel_rfl) (fun _ => ?_) (fun h' => nomatch h')
  refine nR K (tn 1) ?_
  cases h; exact VW.ret (rt [])
 refine nG K 2 (tn 2) <| VO.on (j := 48) (want := false) (d := 54) (b := false) rfl rfl rfl (by kernel_rfl) rfl ?_
 obtain⟨y16,hy,h⟩:=aS h
 refine clc false [.t (.int .i64)] [] (some 57) K (ok34 N _ hy) <| nN K (tn 2) ?_
 refine cnd h ?_ ?_<;>intro h
 ·refine nR K (tn 1) ?_
  cases h; exact VW.ret (rt [])
 refine VW.skip ?_
 refine VW.join (fun s => s = ⟨[], []⟩ ∧ F14_j0 N = some r) ?_ ?_
 ·refine nR K (tn 1) <| VW.block <| lop (fun k s => ∃ x443 x444 x445 x446 x447 x448 x449 x450 x451 x452, s = ⟨[(1, .lf (.ptr 0 0 0 0)), (3, I x452)], [bx [zi x443, .v (.sl Y53) x444, .v (.sl Y42) x445, zi x446, zi x447, zi x448, zi x449, zi x450, zi x451] 30]⟩ ∧ F14_l1 N k x443 x444 x445 x446 x447 x448 x449 x450 x451 x452 = some r) N [.ren [1, 3] [0]] ⟨a0.1, a0.2.1, a0.2.2.1, a0.2.2.2.1, a0.2.2.2.2.1, a0.2.2.2.2.2.1, a0.2.2.2.2.2.2.1, a0.2.2.2.2.2.2.2.1, a0.2.2.2.2.2.2.2.2, (0 : Int), rfl, h⟩ ?_
  rintro k552 s ⟨x443, x444, x445, x446, x447, x448, x449, x450, x451, x452, rfl, h⟩
  cases k552 with
  | zero => cases show none = some r from h
  | succ k552 =>
   replace h : F14_l1_b N (F14_l1 N k552) x443 x444 x445 x446 x447 x448 x449 x450 x451 x452 = some r := h
   unfold F14_l1_b at h
   refine sq <| nR K (tn 5) ?_
   refine cnd h ?_ ?_<;>intro h
   ·refine VW.skip ?_
    refine VW.join (fun s => s = ⟨[(1, .lf (.ptr 0 0 0 0)), (3, I x452)], [bx [zi x443, .v (.sl Y53) x444, .v (.sl Y42) x445, zi x446, zi x447, zi x448, zi x449, zi x450, zi x451] 30]⟩ ∧ F14_j1 N (F14_l1 N k552) x443 x444 x445 x446 x447 x448 x449 x450 x451 x452 = some r) ?_ ?_
    ·refine VW.block ?_
     obtain⟨g603,h⟩:=gS h
     refine nR K (pu 3 (an g603 (tn 3))) <| sq <| sq ?_
     obtain⟨y616,hy616,h⟩:=aS h
     rcases Bool.eq_false_or_eq_true (!y616) with hb617 | hb617
     ·replace h := cond_t h hb617
      refine dr K [(4, .cl [] (some 76) [.lf (.v .bool y616)]), (6, .lit true)] [(4, 0), (6, 0)] [] [1, 3, 4, 119] [0, 1] (tn 48) ⟨qC false [.t (.sl Y53), .t (.sl Y87)] [] [] (some 76) K (ok35 N _ _ hy616), qB 78 hb617 K trivial, trivial⟩ ?_
      refine VW.cond (b := true) (by kernel_rfl) (fun _ => ?_) (fun h' => nomatch h')
      refine nR K (tn 1) ?_
      cases h; exact VW.ret (rt [])
     replace h := cond_f h hb617
     obtain⟨y618,hy618,h⟩:=aS h
     rcases Bool.eq_false_or_eq_true (!y618) with hb619 | hb619
     ·replace h := cond_t h hb619
      refine dr K [(4, .cl [] (some 76) [.lf (.v .bool y616)]), (6, .lit false), (11, .cl [] (some 83) [.lf (.v .bool y618)]), (14, .lit true)] [(4, 0), (6, 0), (11, 0), (14, 0)] [] [1, 3, 4, 119] [0, 1] (tn 48) ⟨qC false [.t (.sl Y53), .t (.sl Y87)] [] [] (some 76) K (ok35 N _ _ hy616), qB 78 hb617 K trivial, qC false [.t (.sl Y53), .t (.sl Y87)] [] [] (some 83) K (ok35 N _ _ hy618), qB 86 hb619 K trivial, trivial⟩ ?_
      refine VW.cond (b := true) (by kernel_rfl) (fun _ => ?_) (fun h' => nomatch h')
      refine nR K (tn 1) ?_
      cases h; exact VW.ret (rt [])
     replace h := cond_f h hb619
     obtain⟨y620,hy620,h⟩:=aS h
     rcases Bool.eq_false_or_eq_true (((x445.getD x452.toNat D42).1) != y620) with hb621 | hb621
     ·replace h := cond_t h hb621
      refine dr K [(4, .cl [] (some 76) [.lf (.v .bool y616)]), (6, .lit false), (11, .cl [] (some 83) [.lf (.v .bool y618)]), (14, .lit false), (19, .cl [] (some 91) [.lf (.v (.int .i64) y620)]), (22, .lit true)] [(4, 0), (6, 0), (11, 0), (14, 0), (19, 0), (22, 0)] [] [1, 3, 4, 119] [0, 1] (tn 48) ⟨qC false [.t (.sl Y53), .t (.sl Y87)] [] [] (some 76) K (ok35 N _ _ hy616), qB 78 hb617 K trivial, qC false [.t (.sl Y53), .t (.sl Y87)] [] [] (some 83) K (ok35 N _ _ hy618), qB 86 hb619 K trivial, qC false [.t (.sl Y87)] [] [] (some 91) K (ok36 N _ hy620), qB 94 hb621 K trivial, trivial⟩ ?_
      refine VW.cond (b := true) (by kernel_rfl) (fun _ => ?_) (fun h' => nomatch h')
      refine nR K (tn 1) ?_
      cases h; exact VW.ret (rt [])
     replace h := cond_f h hb621
     obtain⟨y622,hy622,h⟩:=aS h
     obtain⟨y623,hy623,h⟩:=aS h
     rcases Bool.eq_false_or_eq_true (!y623) with hb624 | hb624
     ·replace h := cond_t h hb624
      refine dr K [(4, .cl [] (some 76) [.lf (.v .bool y616)]), (6, .lit false), (11, .cl [] (some 83) [.lf (.v .bool y618)]), (14, .lit false), (19, .cl [] (some 91) [.lf (.v (.int .i64) y620)]), (22, .lit false), (27, .cl [] (some 99) [.lf (.own (.int .i64) y622 .dp)]), (29, .cl [] (some 101) [.lf (.v .bool y623)]), (32, .lit true)] [(4, 0), (4, 1), (6, 0), (6, 1), (11, 0), (11, 1), (14, 0), (14, 1), (19, 0), (19, 1), (22, 0), (27, 0), (29, 1), (32, 0), (32, 1)] [27] [1, 3, 4, 119] [0, 1] (tn 48) ⟨qC false [.t (.sl Y53), .t (.sl Y87)] [] [] (some 76) K (ok35 N _ _ hy616), qC false [.t (.sl Y53), .t (.sl Y87)] [] [] (some 76) K (ok35 N _ _ hy616), qB 78 hb617 K trivial, qB 78 hb617 K trivial, qC false [.t (.sl Y53), .t (.sl Y87)] [] [] (some 83) K (ok35 N _ _ hy618), qC false [.t (.sl Y53), .t (.sl Y87)] [] [] (some 83) K (ok35 N _ _ hy618), qB 86 hb619 K trivial, qB 86 hb619 K trivial, qC false [.t (.sl Y87)] [] [] (some 91) K (ok36 N _ hy620), qC false [.t (.sl Y87)] [] [] (some 91) K (ok36 N _ hy620), qB 94 hb621 K trivial, qC false [.t (.sl Y87)] [] [] (some 99) K (ok38 N _ hy622), qC false [.t (.sl Y87), .t (.int .i64)] [] [] (some 101) K (ok37 N _ _ hy623), qB 104 hb624 K trivial, qB 104 hb624 K trivial, trivial⟩ ?_
      refine VW.cond (b := true) (by kernel_rfl) (fun _ => ?_) (fun h' => nomatch h')
      refine nR K (tn 1) ?_
      cases h; exact VW.ret (rt [])
     replace h := cond_f h hb624
     obtain⟨y625,hy625,h⟩:=aS h
     rcases Bool.eq_false_or_eq_true (!y625) with hb626 | hb626
     ·replace h := cond_t h hb626
      refine dr K [(4, .cl [] (some 76) [.lf (.v .bool y616)]), (6, .lit false), (11, .cl [] (some 83) [.lf (.v .bool y618)]), (14, .lit false), (19, .cl [] (some 91) [.lf (.v (.int .i64) y620)]), (22, .lit false), (27, .cl [] (some 99) [.lf (.own (.int .i64) y622 .dp)]), (29, .cl [] (some 101) [.lf (.v .bool y623)]), (32, .lit false), (37, .cl [] (some 109) [.lf (.v .bool y625)]), (40, .lit true)] [(4, 0), (4, 1), (6, 0), (6, 1), (11, 0), (11, 1), (14, 0), (14, 1), (19, 0), (19, 1), (22, 0), (27, 0), (29, 1), (32, 0), (32, 1), (37, 0), (37, 1), (40, 0), (40, 1)] [27] [1, 3, 4, 119] [0, 1] (tn 48) ⟨qC false [.t (.sl Y53), .t (.sl Y87)] [] [] (some 76) K (ok35 N _ _ hy616), qC false [.t (.sl Y53), .t (.sl Y87)] [] [] (some 76) K (ok35 N _ _ hy616), qB 78 hb617 K trivial, qB 78 hb617 K trivial, qC false [.t (.sl Y53), .t (.sl Y87)] [] [] (some 83) K (ok35 N _ _ hy618), qC false [.t (.sl Y53), .t (.sl Y87)] [] [] (some 83) K (ok35 N _ _ hy618), qB 86 hb619 K trivial, qB 86 hb619 K trivial, qC false [.t (.sl Y87)] [] [] (some 91) K (ok36 N _ hy620), qC false [.t (.sl Y87)] [] [] (some 91) K (ok36 N _ hy620), qB 94 hb621 K trivial, qC false [.t (.sl Y87)] [] [] (some 99) K (ok38 N _ hy622), qC false [.t (.sl Y87), .t (.int .i64)] [] [] (some 101) K (ok37 N _ _ hy623), qB 104 hb624 K trivial, qB 104 hb624 K trivial, qC false [.t (.int .i64), .t (.int .i64), .t (.int .i64)] [] [] (some 109) K (ok31 N _ _ _ hy625), qC false [.t (.int .i64), .t (.int .i64), .t (.int .i64)] [] [] (some 109) K (ok31 N _ _ _ hy625), qB 112 hb626 K trivial, qB 112 hb626 K trivial, trivial⟩ ?_
      refine VW.cond (b := true) (by kernel_rfl) (fun _ => ?_) (fun h' => nomatch h')
      refine nR K (tn 1) ?_
      cases h; exact VW.ret (rt [])
     replace h := cond_f h hb626
     obtain⟨y627,hy627,h⟩:=aS h
     refine dr K [(4, .cl [] (some 76) [.lf (.v .bool y616)]), (6, .lit false), (11, .cl [] (some 83) [.lf (.v .bool y618)]), (14, .lit false), (19, .cl [] (some 91) [.lf (.v (.int .i64) y620)]), (22, .lit false), (27, .cl [] (some 99) [.lf (.own (.int .i64) y622 .dp)]), (29, .cl [] (some 101) [.lf (.v .bool y623)]), (32, .lit false), (37, .cl [] (some 109) [.lf (.v .bool y625)]), (40, .lit false), (45, .cl [] (some 117) [.lf (.v .bool y627)])] [(4, 0), (4, 1), (6, 0), (6, 1), (11, 0), (11, 1), (14, 0), (14, 1), (19, 0), (19, 1), (22, 0), (27, 0), (29, 1), (32, 0), (32, 1), (37, 0), (37, 1), (40, 0), (40, 1), (45, 0), (45, 1)] [27] [1, 3, 4, 119] [0, 1] (tn 48) ⟨qC false [.t (.sl Y53), .t (.sl Y87)] [] [] (some 76) K (ok35 N _ _ hy616), qC false [.t (.sl Y53), .t (.sl Y87)] [] [] (some 76) K (ok35 N _ _ hy616), qB 78 hb617 K trivial, qB 78 hb617 K trivial, qC false [.t (.sl Y53), .t (.sl Y87)] [] [] (some 83) K (ok35 N _ _ hy618), qC false [.t (.sl Y53), .t (.sl Y87)] [] [] (some 83) K (ok35 N _ _ hy618), qB 86 hb619 K trivial, qB 86 hb619 K trivial, qC false [.t (.sl Y87)] [] [] (some 91) K (ok36 N _ hy620), qC false [.t (.sl Y87)] [] [] (some 91) K (ok36 N _ hy620), qB 94 hb621 K trivial, qC false [.t (.sl Y87)] [] [] (some 99) K (ok38 N _ hy622), qC false [.t (.sl Y87), .t (.int .i64)] [] [] (some 101) K (ok37 N _ _ hy623), qB 104 hb624 K trivial, qB 104 hb624 K trivial, qC false [.t (.int .i64), .t (.int .i64), .t (.int .i64)] [] [] (some 109) K (ok31 N _ _ _ hy625), qC false [.t (.int .i64), .t (.int .i64), .t (.int .i64)] [] [] (some 109) K (ok31 N _ _ _ hy625), qB 112 hb626 K trivial, qB 112 hb626 K trivial, qC false [.t (.int .i64), .t (.int .i64), .t (.int .i64)] [] [] (some 117) K (ok31 N _ _ _ hy627), qC false [.t (.int .i64), .t (.int .i64), .t (.int .i64)] [] [] (some 117) K (ok31 N _ _ _ hy627), trivial⟩ ?_
     refine cnd h ?_ ?_<;>intro h
     ·refine nR K (tn 1) ?_
      cases h; exact VW.ret (rt [])
     refine VW.skip <| nR K (tn 1) <| VW.block <| lop (fun k s => ∃ x637 x638 x639 x640 x641 x642, s = ⟨[(1, .lf (.ptr 0 0 0 0)), (3, I x452), (4, .lf (.ptr 1 0 0 0)), (5, I x642)], [bx [zi x443, .v (.sl Y53) x444, .v (.sl Y42) x445, zi x446, zi x447, zi x448, zi x449, zi x450, zi x451] 30, bx [zi x637, .v (.sl Y87) x638, .v (.sl Y87) x639, zi x640, zi x641] 43]⟩ ∧ F14_l0 N (F14_l1 N k552) x443 x444 x445 x446 x447 x448 x449 x450 x451 x452 k x637 x638 x639 x640 x641 x642 = some r) N [.ren [1, 3, 4, 5] [0, 1]] ⟨(x445.getD x452.toNat D42).1, (x445.getD x452.toNat D42).2.1, (x445.getD x452.toNat D42).2.2.1, (x445.getD x452.toNat D42).2.2.2.1, (x445.getD x452.toNat D42).2.2.2.2, (0 : Int), rfl, h⟩ ?_
     rintro k647 s ⟨x637, x638, x639, x640, x641, x642, rfl, h⟩
     cases k647 with
     | zero => cases show none = some r from h
     | succ k647 =>
      replace h : F14_l0_b N (F14_l1 N k552) x443 x444 x445 x446 x447 x448 x449 x450 x451 x452 (F14_l0 N (F14_l1 N k552) x443 x444 x445 x446 x447 x448 x449 x450 x451 x452 k647) x637 x638 x639 x640 x641 x642 = some r := h
      unfold F14_l0_b at h
      refine sq <| nR K (tn 3) ?_
      refine cnd h ?_ ?_<;>intro h
      ·refine VW.skip <| sq <| VW.block <| sq ?_
       obtain⟨g650,h⟩:=gS h
       obtain⟨y651,hy651,h⟩:=aS h
       refine dr K [(8, .cl [] (some 133) [.lf (.v .bool y651)])] [(8, 0)] [] [1, 3, 4, 5, 133] [0, 1] (pu 3 (an g650 (tn 5))) ⟨qC false [.t (.sl Y87), .t (.sl Y87)] [] [] (some 133) K (ok39 N _ _ hy651), trivial⟩ ?_
       refine cnd h ?_ ?_<;>intro h
       ·refine nR K (tn 1) ?_
        cases h; exact VW.ret (rt [])
       refine VW.skip <| nE K (tn 3) ?_
       exact aro [.ren [1, 3, 4, 5] [0, 1]] ⟨x637, x638, x639, x640, x641, (wr (x642 + (1 : Int))), rfl, h⟩
      refine VW.exit ?_
      exact arv [.ren [1, 3] [0]] ⟨rfl, h⟩
    rintro s ⟨rfl, h⟩
    unfold F14_j1 at h
    refine nE K (tn 3) ?_
    exact aro [.ren [1, 3] [0]] ⟨x443, x444, x445, x446, x447, x448, x449, x450, x451, (wr (x452 + (1 : Int))), rfl, h⟩
   refine VW.exit ?_
   exact arv [.ren [] []] ⟨rfl, h⟩
 rintro s ⟨rfl, h⟩
 unfold F14_j0 at h
 refine nR K (tn 1) ?_
 cases h; exact VW.ret (rt [])
def F5_j0 (N : Nat) (x97 : Int) (x98 : (List Z53)) (x99 : (List Z42)) (x100 : Int) (x101 : Int) (x102 : Int) (x103 : Int) (x104 : Int) (x105 : Int) (x106 : (List Z42)) : Option (Z24 × Int) :=
  some ((x97, (x98, (x106, (x100, (x101, (x102, (x103, (x104, x105)))))))), (IntKind.i64.wrap ((x99.length : Int) - (x106.length : Int))))
def F5_j1 (N : Nat) (nx182 : Int → (List Z53) → (List Z42) → Int → Int → Int → Int → Int → Int → Int → (List Z53) → (List Z42) → Int → Int → Int → Int → Int → Int → (List Z42) → Int → Option (Z24 × Int)) (x144 : Int) (x145 : (List Z53)) (x146 : (List Z42)) (x147 : Int) (x148 : Int) (x149 : Int) (x150 : Int) (x151 : Int) (x152 : Int) (x153 : Int) (x154 : (List Z53)) (x155 : (List Z42)) (x156 : Int) (x157 : Int) (x158 : Int) (x159 : Int) (x160 : Int) (x161 : Int) (x163 : Int) (x191 : (List Z42)) : Option (Z24 × Int) :=
  nx182 x144 x145 x146 x147 x148 x149 x150 x151 x152 x153 x154 x155 x156 x157 x158 x159 x160 x161 x191 (IntKind.i64.wrap (x163 + (1 : Int)))
def F5_l0_b (N : Nat) (nx182 : Int → (List Z53) → (List Z42) → Int → Int → Int → Int → Int → Int → Int → (List Z53) → (List Z42) → Int → Int → Int → Int → Int → Int → (List Z42) → Int → Option (Z24 × Int)) (x144 : Int) (x145 : (List Z53)) (x146 : (List Z42)) (x147 : Int) (x148 : Int) (x149 : Int) (x150 : Int) (x151 : Int) (x152 : Int) (x153 : Int) (x154 : (List Z53)) (x155 : (List Z42)) (x156 : Int) (x157 : Int) (x158 : Int) (x159 : Int) (x160 : Int) (x161 : Int) (x162 : (List Z42)) (x163 : Int) : Option (Z24 × Int) :=
  cond (decide (x163 < (x155.length : Int))) (gd (InR x163 x155.length) (gd (x163.toNat < x155.length) (cond (((x155.getD x163.toNat (Ty.dflt Y42)).2.2.2.1) == x147) (gd (InR x163 x155.length) (gd (x163.toNat < x155.length) (cond (((x155.getD x163.toNat (Ty.dflt Y42)).2.2.2.2) == x148) (gd (InR x163 x155.length) (gd (x163.toNat < x155.length) (gd (x162.length + ([(x155.getD x163.toNat (Ty.dflt Y42))]).length ≤ lim Y42) (F5_j1 N nx182 x144 x145 x146 x147 x148 x149 x150 x151 x152 x153 x154 x155 x156 x157 x158 x159 x160 x161 x163 (x162 ++ ([(x155.getD x163.toNat (Ty.dflt Y42))])))))) (F5_j1 N nx182 x144 x145 x146 x147 x148 x149 x150 x151 x152 x153 x154 x155 x156 x157 x158 x159 x160 x161 x163 x162)))) (F5_j1 N nx182 x144 x145 x146 x147 x148 x149 x150 x151 x152 x153 x154 x155 x156 x157 x158 x159 x160 x161 x163 x162)))) (F5_j0 N x153 x154 x155 x156 x157 x158 x159 x160 x161 x162)
def F5_l0 (N : Nat) := loopF (F5_l0_b N) (fun _ _ _ _ _ _ _ _ _ _ _ _ _ _ _ _ _ _ _ _ => none)
theorem F5_l0_s N {k} (hk : 0 < k) x144 x145 x146 x147 x148 x149 x150 x151 x152 x153 x154 x155 x156 x157 x158 x159 x160 x161 x162 x163 : F5_l0 N k x144 x145 x146 x147 x148 x149 x150 x151 x152 x153 x154 x155 x156 x157 x158 x159 x160 x161 x162 x163 = F5_l0_b N (F5_l0 N (k - 1)) x144 x145 x146 x147 x148 x149 x150 x151 x152 x153 x154 x155 x156 x157 x158 x159 x160 x161 x162 x163 := by cases k;cases hk;rfl
def F5 (N : Nat) (a0 : Z24) : Option (Z24 × Int) :=
  andO (F13 N a0) fun y1 => andO (F14 N a0) fun y3 => cond (!y3) (some (y1, (-1 : Int))) (F5_l0 N N a0.1 a0.2.1 a0.2.2.1 a0.2.2.2.1 a0.2.2.2.2.1 a0.2.2.2.2.2.1 a0.2.2.2.2.2.2.1 a0.2.2.2.2.2.2.2.1 a0.2.2.2.2.2.2.2.2 y1.1 y1.2.1 y1.2.2.1 y1.2.2.2.1 y1.2.2.2.2.1 y1.2.2.2.2.2.1 y1.2.2.2.2.2.2.1 y1.2.2.2.2.2.2.2.1 y1.2.2.2.2.2.2.2.2 ([]) (0 : Int))
theorem ok5 N a0 {r} (h : F5 N a0 = some r) : Con prog 5 [.agg (lv Y24 a0)] [.agg [.v (.int .i64) r.1.1, .own Y53 r.1.2.1 .dp, .own Y42 r.1.2.2.1 .tp, .v (.int .i64) r.1.2.2.2.1, .v (.int .i64) r.1.2.2.2.2.1, .v (.int .i64) r.1.2.2.2.2.2.1, .v (.int .i64) r.1.2.2.2.2.2.2.1, .v (.int .i64) r.1.2.2.2.2.2.2.2.1, .v (.int .i64) r.1.2.2.2.2.2.2.2.2], .lf (.v (.int .i64) r.2)] := by
 refine ctr [.agg [.v (.int .i64), .own Y53 .dp, .own Y42 .tp, .v (.int .i64), .v (.int .i64), .v (.int .i64), .v (.int .i64), .v (.int .i64), .v (.int .i64)], .lf (.v (.int .i64))] K func5 rfl fun w0 E0 ht => ?_
 unfold F5 at h
 show VW _ _ _ _ _ (retQ _ _ _ _) _
 refine nR K (tn 3) <| sq <| VW.region <| nG K 1 (tn 1) ?_
 obtain⟨y1,hy,h⟩:=aS h
 refine clc false [.t Y24] [] (some 9) K (ok13 N _ hy) <| nN K (tn 2) <| sq <| sq <| VW.region <| nG K 1 (tn 1) ?_
 obtain⟨y3,hy,h⟩:=aS h
 refine clc false [.t Y24] [] (some 11) K (ok14 N _ hy) <| nN K (tn 1) ?_
 refine cnd h ?_ ?_<;>intro h
 ·refine nR K (tn 3) ?_
  cases h; exact VW.ret (rt [some 2, some 3])
 refine VW.skip <| nR K (tn 2) ?_
 refine VW.join (fun s => ∃ x97 x98 x99 x100 x101 x102 x103 x104 x105 x106, s = ⟨[(2, .lf (.ptr 0 0 0 0)), (4, .lf (.ptr 1 0 0 0)), (5, hh 4)], [bx [zi (0 : Int), .nil, .nil, zi (0 : Int), zi (0 : Int), zi (0 : Int), zi (0 : Int), zi (0 : Int), zi (0 : Int)] 30, bx [zi x97, .hd 2 0 none, .hd 3 0 none, zi x100, zi x101, zi x102, zi x103, zi x104, zi x105] 30, ar 0 Y53 x98 .dp, ar 0 Y42 x99 .tp, ar 0 Y42 x106 .tp]⟩ ∧ F5_j0 N x97 x98 x99 x100 x101 x102 x103 x104 x105 x106 = some r) ?_ ?_
 ·refine nR K (tn 1) <| VW.block <| lop (fun k s => ∃ x144 x145 x146 x147 x148 x149 x150 x151 x152 x153 x154 x155 x156 x157 x158 x159 x160 x161 x162 x163, s = ⟨[(1, .lf (.ptr 0 0 0 0)), (2, .lf (.ptr 1 0 0 0)), (4, .lf (.ptr 2 0 0 0)), (5, hh 5), (6, I x163)], [bx [zi x144, .v (.sl Y53) x145, .v (.sl Y42) x146, zi x147, zi x148, zi x149, zi x150, zi x151, zi x152] 30, bx [zi (0 : Int), .nil, .nil, zi (0 : Int), zi (0 : Int), zi (0 : Int), zi (0 : Int), zi (0 : Int), zi (0 : Int)] 30, bx [zi x153, .hd 3 0 none, .hd 4 0 none, zi x156, zi x157, zi x158, zi x159, zi x160, zi x161] 30, ar 0 Y53 x154 .dp, ar 0 Y42 x155 .tp, ar 0 Y42 x162 .tp]⟩ ∧ F5_l0 N k x144 x145 x146 x147 x148 x149 x150 x151 x152 x153 x154 x155 x156 x157 x158 x159 x160 x161 x162 x163 = some r) N [.nilS 5 Y42 .tp, .ren [1, 2, 4, 5, 6] [0, 1, 4, 2, 3, 5]] ⟨a0.1, a0.2.1, a0.2.2.1, a0.2.2.2.1, a0.2.2.2.2.1, a0.2.2.2.2.2.1, a0.2.2.2.2.2.2.1, a0.2.2.2.2.2.2.2.1, a0.2.2.2.2.2.2.2.2, y1.1, y1.2.1, y1.2.2.1, y1.2.2.2.1, y1.2.2.2.2.1, y1.2.2.2.2.2.1, y1.2.2.2.2.2.2.1, y1.2.2.2.2.2.2.2.1, y1.2.2.2.2.2.2.2.2, [], (0 : Int), rfl, h⟩ ?_
  rintro k182 s ⟨x144, x145, x146, x147, x148, x149, x150, x151, x152, x153, x154, x155, x156, x157, x158, x159, x160, x161, x162, x163, rfl, h⟩
  cases k182 with
  | zero => cases show none = some r from h
  | succ k182 =>
   replace h : F5_l0_b N (F5_l0 N k182) x144 x145 x146 x147 x148 x149 x150 x151 x152 x153 x154 x155 x156 x157 x158 x159 x160 x161 x162 x163 = some r := h
   unfold F5_l0_b at h
   refine sq <| nR K (tn 5) ?_
   refine cnd h ?_ ?_<;>intro h
   ·refine VW.skip ?_
    refine VW.join (fun s => ∃ x191, s = ⟨[(1, .lf (.ptr 0 0 0 0)), (2, .lf (.ptr 1 0 0 0)), (4, .lf (.ptr 2 0 0 0)), (5, hh 5), (6, I x163)], [bx [zi x144, .v (.sl Y53) x145, .v (.sl Y42) x146, zi x147, zi x148, zi x149, zi x150, zi x151, zi x152] 30, bx [zi (0 : Int), .nil, .nil, zi (0 : Int), zi (0 : Int), zi (0 : Int), zi (0 : Int), zi (0 : Int), zi (0 : Int)] 30, bx [zi x153, .hd 3 0 none, .hd 4 0 none, zi x156, zi x157, zi x158, zi x159, zi x160, zi x161] 30, ar 0 Y53 x154 .dp, ar 0 Y42 x155 .tp, ar 0 Y42 x191 .tp]⟩ ∧ F5_j1 N (F5_l0 N k182) x144 x145 x146 x147 x148 x149 x150 x151 x152 x153 x154 x155 x156 x157 x158 x159 x160 x161 x163 x191 = some r) ?_ ?_
    ·refine VW.block <| sq ?_
     obtain⟨g193,h⟩:=gS h
     obtain⟨g194,h⟩:=gS h
     rcases Bool.eq_false_or_eq_true (((x155.getD x163.toNat D42).2.2.2.1) == x147) with hb195 | hb195
     ·replace h := cond_t h hb195
      obtain⟨g196,h⟩:=gS h
      obtain⟨g197,h⟩:=gS h
      refine dr K [(9, .lit true)] [(9, 0)] [] [1, 2, 4, 5, 6, 41] [0, 1, 2, 3, 4, 5] (pu 3 (an g193 (pu 1 (an g194 (pu 7 (an g196 (pu 1 (an g197 (tn 4))))))))) ⟨qB 31 hb195 K trivial, trivial⟩ ?_
      refine cnd h ?_ ?_<;>intro h
      ·obtain⟨g198,h⟩:=gS h
       obtain⟨g199,h⟩:=gS h
       obtain⟨g200,h⟩:=gS h
       refine nE K (pu 4 (an g198 (an g199 (pu 1 (an g200 (tn 1)))))) ?_
       exact arv [.ren [1, 2, 4, 5, 6] [0, 1, 2, 3, 4, 5]] ⟨(x162 ++ ([(x155.getD x163.toNat D42)])), rfl, h⟩
      refine VW.skip ?_
      exact arv [.ren [1, 2, 4, 5, 6] [0, 1, 2, 3, 4, 5]] ⟨x162, rfl, h⟩
     replace h := cond_f h hb195
     refine dr K [(9, .lit false)] [(9, 0)] [] [1, 2, 4, 5, 6, 41] [0, 1, 2, 3, 4, 5] (pu 3 (an g193 (pu 1 (an g194 (tn 14))))) ⟨qB 31 hb195 K trivial, trivial⟩ ?_
     refine VW.cond (b := false) (by kernel_rfl) (fun h' => nomatch h') (fun _ => ?_)
     refine VW.skip ?_
     exact arv [.ren [1, 2, 4, 5, 6] [0, 1, 2, 3, 4, 5]] ⟨x162, rfl, h⟩
    rintro s ⟨x191, rfl, h⟩
    unfold F5_j1 at h
    refine nE K (tn 3) ?_
    exact aro [.ren [1, 2, 4, 5, 6] [0, 1, 2, 3, 4, 5]] ⟨x144, x145, x146, x147, x148, x149, x150, x151, x152, x153, x154, x155, x156, x157, x158, x159, x160, x161, x191, (wr (x163 + (1 : Int))), rfl, h⟩
   refine VW.exit ?_
   exact arv [.ren [2, 4, 5] [1, 2, 3, 4, 5]] ⟨x153, x154, x155, x156, x157, x158, x159, x160, x161, x162, rfl, h⟩
 rintro s ⟨x97, x98, x99, x100, x101, x102, x103, x104, x105, x106, rfl, h⟩
 unfold F5_j0 at h
 refine nR K (tn 7) <| nR K (tn 3) <| nR K (tn 4) ?_
 cases h; exact VW.ret (rt [some 2, some 4])
def F40 (N : Nat) (a0 : Z53) : Option (Z53) :=
  some a0
theorem ok40 N a0 {r} (h : F40 N a0 = some r) : Con prog 40 [.agg (lv Y53 a0)] [.agg [.v .str r.1, .v (.int .i64) r.2]] := by
 refine ctr [.agg [.v .str, .v (.int .i64)]] K func40 rfl fun w0 E0 ht => ?_
 unfold F40 at h
 show VW _ _ _ _ _ (retQ _ _ _ _) _
 refine nR K (tn 2) <| nR K (tn 1) <| nR K (tn 4) <| nR K (tn 4) <| nR K (tn 2) ?_
 cases h; exact VW.ret (rt [])
def F15_j0 (N : Nat) (x30 : (List Z53)) : Option ((List Z53)) :=
  some x30
def F15_l0_b (N : Nat) (a0 : (List Z53)) (nx51 : (List Z53) → Int → Option ((List Z53))) (x41 : (List Z53)) (x42 : Int) : Option ((List Z53)) :=
  cond (decide (x42 < (a0.length : Int))) (gd (InR x42 a0.length) (andO (F40 N (a0.getD x42.toNat (Ty.dflt Y53))) fun y57 => gd (InR x42 x41.length) (gd (x42.toNat < x41.length) (nx51 (x41.set x42.toNat y57) (IntKind.i64.wrap (x42 + (1 : Int))))))) (F15_j0 N x41)
def F15_l0 (N : Nat) (a0 : (List Z53)) := loopF (F15_l0_b N a0) (fun _ _ => none)
theorem F15_l0_s N a0 {k} (hk : 0 < k) x41 x42 : F15_l0 N a0 k x41 x42 = F15_l0_b N a0 (F15_l0 N a0 (k - 1)) x41 x42 := by cases k;cases hk;rfl
def F15 (N : Nat) (a0 : (List Z53)) : Option ((List Z53)) :=
  gd (0 ≤ (a0.length : Int) ∧ (a0.length : Int) ≤ (lim Y53 : Int) ∧ (a0.length : Int) = (a0.length : Int)) (F15_l0 N a0 N (List.replicate (a0.length : Int).toNat (Ty.dflt Y53)) (0 : Int))
theorem ok15 N a0 {r} (h : F15 N a0 = some r) : Con prog 15 [Vv (.sl Y53) a0] [.lf (.own Y53 r .dp)] := by
 refine ctr [.lf (.own Y53 .dp)] K func15 rfl fun w0 E0 ht => ?_
 unfold F15 at h
 show VW _ _ _ _ _ (retQ _ _ _ _) _
 refine nR K (tn 1) ?_
 obtain⟨g1,h⟩:=gS h
 refine nR K (pu 2 (an g1 (tn 1))) ?_
 refine VW.join (fun s => ∃ x30, s = ⟨[(3, hh 0)], [ar 0 Y53 x30 .dp]⟩ ∧ F15_j0 N x30 = some r) ?_ ?_
 ·refine nR K (tn 1) <| VW.block <| lop (fun k s => ∃ x41 x42, s = ⟨[(0, Vv (.sl Y53) a0), (3, hh 0), (4, I x42)], [ar 0 Y53 x41 .dp]⟩ ∧ F15_l0 N a0 k x41 x42 = some r) N [.ren [0, 3, 4] [0]] ⟨(List.replicate (a0.length : Int).toNat D53), (0 : Int), rfl, h⟩ ?_
  rintro k51 s ⟨x41, x42, rfl, h⟩
  cases k51 with
  | zero => cases show none = some r from h
  | succ k51 =>
   replace h : F15_l0_b N a0 (F15_l0 N a0 k51) x41 x42 = some r := h
   unfold F15_l0_b at h
   refine sq <| nR K (tn 4) ?_
   refine cnd h ?_ ?_<;>intro h
   ·refine VW.skip <| sq <| VW.block <| VW.region ?_
    obtain⟨g56,h⟩:=gS h
    refine nG K 6 (pu 4 (an g56 (tn 1))) ?_
    obtain⟨y57,hy,h⟩:=aS h
    refine clc false [.t Y53] [] (some 20) K (ok40 N _ hy) ?_
    obtain⟨g58,h⟩:=gS h
    obtain⟨g59,h⟩:=gS h
    refine nN K (an g58 (an g59 (tn 0))) <| nE K (tn 3) ?_
    exact aro [.ren [0, 3, 4] [0]] ⟨(x41.set x42.toNat y57), (wr (x42 + (1 : Int))), rfl, h⟩
   refine VW.exit ?_
   exact arv [.ren [3] [0]] ⟨x41, rfl, h⟩
 rintro s ⟨x30, rfl, h⟩
 unfold F15_j0 at h
 refine nR K (tn 2) ?_
 cases h; exact VW.ret (rt [some 0])
def F118_j0 (N : Nat) (x24 : (List Int)) : Option ((List Int)) :=
  some x24
def F118_l0_b (N : Nat) (a0 : (List Int)) (nx41 : (List Int) → Int → Option ((List Int))) (x33 : (List Int)) (x34 : Int) : Option ((List Int)) :=
  cond (decide (x34 < (a0.length : Int))) (gd (InR x34 a0.length) (gd (InR x34 x33.length) (gd (x34.toNat < x33.length) (nx41 (x33.set x34.toNat (a0.getD x34.toNat (Ty.dflt (.int .i64)))) (IntKind.i64.wrap (x34 + (1 : Int))))))) (F118_j0 N x33)
def F118_l0 (N : Nat) (a0 : (List Int)) := loopF (F118_l0_b N a0) (fun _ _ => none)
theorem F118_l0_s N a0 {k} (hk : 0 < k) x33 x34 : F118_l0 N a0 k x33 x34 = F118_l0_b N a0 (F118_l0 N a0 (k - 1)) x33 x34 := by cases k;cases hk;rfl
def F118 (N : Nat) (a0 : (List Int)) : Option ((List Int)) :=
  gd (0 ≤ (a0.length : Int) ∧ (a0.length : Int) ≤ (lim (.int .i64) : Int) ∧ (a0.length : Int) = (a0.length : Int)) (F118_l0 N a0 N (List.replicate (a0.length : Int).toNat (Ty.dflt (.int .i64))) (0 : Int))
theorem ok118 N a0 {r} (h : F118 N a0 = some r) : Con prog 118 [Vv (.sl (.int .i64)) a0] [.lf (.own (.int .i64) r .dp)] := by
 refine ctr [.lf (.own (.int .i64) .dp)] K func118 rfl fun w0 E0 ht => ?_
 unfold F118 at h
 show VW _ _ _ _ _ (retQ _ _ _ _) _
 refine nR K (tn 1) ?_
 obtain⟨g1,h⟩:=gS h
 refine nR K (pu 2 (an g1 (tn 1))) ?_
 refine VW.join (fun s => ∃ x24, s = ⟨[(3, hh 0)], [ar 0 (.int .i64) x24 .dp]⟩ ∧ F118_j0 N x24 = some r) ?_ ?_
 ·refine nR K (tn 1) <| VW.block <| lop (fun k s => ∃ x33 x34, s = ⟨[(0, Vv (.sl (.int .i64)) a0), (3, hh 0), (4, I x34)], [ar 0 (.int .i64) x33 .dp]⟩ ∧ F118_l0 N a0 k x33 x34 = some r) N [.ren [0, 3, 4] [0]] ⟨(List.replicate (a0.length : Int).toNat (Ty.dflt (.int .i64))), (0 : Int), rfl, h⟩ ?_
  rintro k41 s ⟨x33, x34, rfl, h⟩
  cases k41 with
  | zero => cases show none = some r from h
  | succ k41 =>
   replace h : F118_l0_b N a0 (F118_l0 N a0 k41) x33 x34 = some r := h
   unfold F118_l0_b at h
   refine sq <| nR K (tn 4) ?_
   refine cnd h ?_ ?_<;>intro h
   ·refine VW.skip <| sq <| VW.block ?_
    obtain⟨g45,h⟩:=gS h
    obtain⟨g46,h⟩:=gS h
    obtain⟨g47,h⟩:=gS h
    refine nE K (pu 4 (an g45 (pu 1 (an g46 (an g47 (tn 0)))))) <| nE K (tn 3) ?_
    exact aro [.ren [0, 3, 4] [0]] ⟨(x33.set x34.toNat (a0.getD x34.toNat (Ty.dflt (.int .i64)))), (wr (x34 + (1 : Int))), rfl, h⟩
   refine VW.exit ?_
   exact arv [.ren [3] [0]] ⟨x33, rfl, h⟩
 rintro s ⟨x24, rfl, h⟩
 unfold F118_j0 at h
 refine nR K (tn 2) ?_
 cases h; exact VW.ret (rt [some 0])
def F93 (N : Nat) (a0 : Z87) : Option (Z87) :=
  andO (F118 N a0.2.2.2.2.2.2) fun y1 => some (a0.1, (a0.2.1, (a0.2.2.1, (a0.2.2.2.1, (a0.2.2.2.2.1, (a0.2.2.2.2.2.1, y1))))))
theorem ok93 N a0 {r} (h : F93 N a0 = some r) : Con prog 93 [.agg (lv Y87 a0)] [.agg [.v (.int .i64) r.1, .v .str r.2.1, .v (.int .i64) r.2.2.1, .v (.int .i64) r.2.2.2.1, .v (.int .i64) r.2.2.2.2.1, .v .bool r.2.2.2.2.2.1, .own (.int .i64) r.2.2.2.2.2.2 .dp]] := by
 refine ctr [.agg [.v (.int .i64), .v .str, .v (.int .i64), .v (.int .i64), .v (.int .i64), .v .bool, .own (.int .i64) .dp]] K func93 rfl fun w0 E0 ht => ?_
 unfold F93 at h
 show VW _ _ _ _ _ (retQ _ _ _ _) _
 refine nR K (tn 2) <| nR K (tn 1) <| nR K (tn 4) <| nR K (tn 4) <| nR K (tn 4) <| nR K (tn 4) <| nR K (tn 4) <| nR K (tn 4) <| sq <| VW.region <| nG K 2 (tn 2) ?_
 obtain⟨y1,hy,h⟩:=aS h
 refine clc false [.t (.sl (.int .i64))] [] (some 24) K (ok118 N _ hy) <| nN K (tn 2) <| nR K (tn 2) ?_
 cases h; exact VW.ret (rt [some 3])
def F68_j0 (N : Nat) (x30 : (List Z87)) : Option ((List Z87)) :=
  some x30
def F68_l0_b (N : Nat) (a0 : (List Z87)) (nx51 : (List Z87) → Int → Option ((List Z87))) (x41 : (List Z87)) (x42 : Int) : Option ((List Z87)) :=
  cond (decide (x42 < (a0.length : Int))) (gd (InR x42 a0.length) (andO (F93 N (a0.getD x42.toNat (Ty.dflt Y87))) fun y57 => gd (InR x42 x41.length) (gd (x42.toNat < x41.length) (nx51 (x41.set x42.toNat y57) (IntKind.i64.wrap (x42 + (1 : Int))))))) (F68_j0 N x41)
def F68_l0 (N : Nat) (a0 : (List Z87)) := loopF (F68_l0_b N a0) (fun _ _ => none)
theorem F68_l0_s N a0 {k} (hk : 0 < k) x41 x42 : F68_l0 N a0 k x41 x42 = F68_l0_b N a0 (F68_l0 N a0 (k - 1)) x41 x42 := by cases k;cases hk;rfl
def F68 (N : Nat) (a0 : (List Z87)) : Option ((List Z87)) :=
  gd (0 ≤ (a0.length : Int) ∧ (a0.length : Int) ≤ (lim Y87 : Int) ∧ (a0.length : Int) = (a0.length : Int)) (F68_l0 N a0 N (List.replicate (a0.length : Int).toNat (Ty.dflt Y87)) (0 : Int))
theorem ok68 N a0 {r} (h : F68 N a0 = some r) : Con prog 68 [Vv (.sl Y87) a0] [.lf (.own Y87 r .dp)] := by
 refine ctr [.lf (.own Y87 .dp)] K func68 rfl fun w0 E0 ht => ?_
 unfold F68 at h
 show VW _ _ _ _ _ (retQ _ _ _ _) _
 refine nR K (tn 1) ?_
 obtain⟨g1,h⟩:=gS h
 refine nR K (pu 2 (an g1 (tn 1))) ?_
 refine VW.join (fun s => ∃ x30, s = ⟨[(3, hh 0)], [ar 0 Y87 x30 .dp]⟩ ∧ F68_j0 N x30 = some r) ?_ ?_
 ·refine nR K (tn 1) <| VW.block <| lop (fun k s => ∃ x41 x42, s = ⟨[(0, Vv (.sl Y87) a0), (3, hh 0), (4, I x42)], [ar 0 Y87 x41 .dp]⟩ ∧ F68_l0 N a0 k x41 x42 = some r) N [.ren [0, 3, 4] [0]] ⟨(List.replicate (a0.length : Int).toNat D87), (0 : Int), rfl, h⟩ ?_
  rintro k51 s ⟨x41, x42, rfl, h⟩
  cases k51 with
  | zero => cases show none = some r from h
  | succ k51 =>
   replace h : F68_l0_b N a0 (F68_l0 N a0 k51) x41 x42 = some r := h
   unfold F68_l0_b at h
   refine sq <| nR K (tn 4) ?_
   refine cnd h ?_ ?_<;>intro h
   ·refine VW.skip <| sq <| VW.block <| VW.region ?_
    obtain⟨g56,h⟩:=gS h
    refine nG K 6 (pu 4 (an g56 (tn 1))) ?_
    obtain⟨y57,hy,h⟩:=aS h
    refine clc false [.t Y87] [] (some 20) K (ok93 N _ hy) ?_
    obtain⟨g58,h⟩:=gS h
    refine nG K 1 (an g58 (tn 0)) ?_
    obtain⟨g59,h⟩:=gS h
    refine VO.storeA (φ := x42.toNat < x41.length) (H' := [ar 0 Y87 (x41.set x42.toNat y57) .dp, none]) K (by kernel_rfl) g59 <| sN K [0, 3, 4] [0] ⟨[(0, Vv (.sl Y87) a0), (3, hh 0), (4, I x42)], [ar 0 Y87 (x41.set x42.toNat y57) .dp]⟩ (tn 0) <| nE K (tn 3) ?_
    exact aro [.ren [0, 3, 4] [0]] ⟨(x41.set x42.toNat y57), (wr (x42 + (1 : Int))), rfl, h⟩
   refine VW.exit ?_
   exact arv [.ren [3] [0]] ⟨x41, rfl, h⟩
 rintro s ⟨x30, rfl, h⟩
 unfold F68_j0 at h
 refine nR K (tn 2) ?_
 cases h; exact VW.ret (rt [some 0])
def F41 (N : Nat) (a0 : Z42) : Option (Z42) :=
  andO (F68 N a0.2.1) fun y1 => andO (F68 N a0.2.2.1) fun y2 => some (a0.1, (y1, (y2, (a0.2.2.2.1, a0.2.2.2.2))))
theorem ok41 N a0 {r} (h : F41 N a0 = some r) : Con prog 41 [.agg (lv Y42 a0)] [.agg [.v (.int .i64) r.1, .own Y87 r.2.1 .dp, .own Y87 r.2.2.1 .dp, .v (.int .i64) r.2.2.2.1, .v (.int .i64) r.2.2.2.2]] := by
 refine ctr [.agg [.v (.int .i64), .own Y87 .dp, .own Y87 .dp, .v (.int .i64), .v (.int .i64)]] K func41 rfl fun w0 E0 ht => ?_
 unfold F41 at h
 show VW _ _ _ _ _ (retQ _ _ _ _) _
 refine nR K (tn 2) <| nR K (tn 1) <| nR K (tn 4) <| sq <| VW.region <| nG K 2 (tn 2) ?_
 obtain⟨y1,hy,h⟩:=aS h
 refine clc false [.t (.sl Y87)] [] (some 9) K (ok68 N _ hy) <| nN K (tn 2) <| sq <| VW.region <| nG K 2 (tn 2) ?_
 obtain⟨y2,hy,h⟩:=aS h
 refine clc false [.t (.sl Y87)] [] (some 13) K (ok68 N _ hy) <| nN K (tn 2) <| nR K (tn 4) <| nR K (tn 4) <| nR K (tn 2) ?_
 cases h; exact VW.ret (rt [some 3, some 4])
def F16_j0 (N : Nat) (x30 : (List Z42)) : Option ((List Z42)) :=
  some x30
def F16_l0_b (N : Nat) (a0 : (List Z42)) (nx51 : (List Z42) → Int → Option ((List Z42))) (x41 : (List Z42)) (x42 : Int) : Option ((List Z42)) :=
  cond (decide (x42 < (a0.length : Int))) (gd (InR x42 a0.length) (andO (F41 N (a0.getD x42.toNat (Ty.dflt Y42))) fun y57 => gd (InR x42 x41.length) (gd (x42.toNat < x41.length) (nx51 (x41.set x42.toNat y57) (IntKind.i64.wrap (x42 + (1 : Int))))))) (F16_j0 N x41)
def F16_l0 (N : Nat) (a0 : (List Z42)) := loopF (F16_l0_b N a0) (fun _ _ => none)
theorem F16_l0_s N a0 {k} (hk : 0 < k) x41 x42 : F16_l0 N a0 k x41 x42 = F16_l0_b N a0 (F16_l0 N a0 (k - 1)) x41 x42 := by cases k;cases hk;rfl
def F16 (N : Nat) (a0 : (List Z42)) : Option ((List Z42)) :=
  gd (0 ≤ (a0.length : Int) ∧ (a0.length : Int) ≤ (lim Y42 : Int) ∧ (a0.length : Int) = (a0.length : Int)) (F16_l0 N a0 N (List.replicate (a0.length : Int).toNat (Ty.dflt Y42)) (0 : Int))
theorem ok16 N a0 {r} (h : F16 N a0 = some r) : Con prog 16 [Vv (.sl Y42) a0] [.lf (.own Y42 r .dp)] := by
 refine ctr [.lf (.own Y42 .dp)] K func16 rfl fun w0 E0 ht => ?_
 unfold F16 at h
 show VW _ _ _ _ _ (retQ _ _ _ _) _
 refine nR K (tn 1) ?_
 obtain⟨g1,h⟩:=gS h
 refine nR K (pu 2 (an g1 (tn 1))) ?_
 refine VW.join (fun s => ∃ x30, s = ⟨[(3, hh 0)], [ar 0 Y42 x30 .dp]⟩ ∧ F16_j0 N x30 = some r) ?_ ?_
 ·refine nR K (tn 1) <| VW.block <| lop (fun k s => ∃ x41 x42, s = ⟨[(0, Vv (.sl Y42) a0), (3, hh 0), (4, I x42)], [ar 0 Y42 x41 .dp]⟩ ∧ F16_l0 N a0 k x41 x42 = some r) N [.ren [0, 3, 4] [0]] ⟨(List.replicate (a0.length : Int).toNat D42), (0 : Int), rfl, h⟩ ?_
  rintro k51 s ⟨x41, x42, rfl, h⟩
  cases k51 with
  | zero => cases show none = some r from h
  | succ k51 =>
   replace h : F16_l0_b N a0 (F16_l0 N a0 k51) x41 x42 = some r := h
   unfold F16_l0_b at h
   refine sq <| nR K (tn 4) ?_
   refine cnd h ?_ ?_<;>intro h
   ·refine VW.skip <| sq <| VW.block <| VW.region ?_
    obtain⟨g56,h⟩:=gS h
    refine nG K 6 (pu 4 (an g56 (tn 1))) ?_
    obtain⟨y57,hy,h⟩:=aS h
    refine clc false [.t Y42] [] (some 20) K (ok41 N _ hy) ?_
    obtain⟨g58,h⟩:=gS h
    refine nG K 1 (an g58 (tn 0)) ?_
    obtain⟨g59,h⟩:=gS h
    refine VO.storeA (φ := x42.toNat < x41.length) (H' := [ar 0 Y42 (x41.set x42.toNat y57) .dp, none, none]) K (by kernel_rfl) g59 <| sN K [0, 3, 4] [0] ⟨[(0, Vv (.sl Y42) a0), (3, hh 0), (4, I x42)], [ar 0 Y42 (x41.set x42.toNat y57) .dp]⟩ (tn 0) <| nE K (tn 3) ?_
    exact aro [.ren [0, 3, 4] [0]] ⟨(x41.set x42.toNat y57), (wr (x42 + (1 : Int))), rfl, h⟩
   refine VW.exit ?_
   exact arv [.ren [3] [0]] ⟨x41, rfl, h⟩
 rintro s ⟨x30, rfl, h⟩
 unfold F16_j0 at h
 refine nR K (tn 2) ?_
 cases h; exact VW.ret (rt [some 0])
def F6 (N : Nat) (a0 : Z24) : Option (Z24) :=
  andO (F15 N a0.2.1) fun y1 => andO (F16 N a0.2.2.1) fun y2 => some (a0.1, (y1, (y2, (a0.2.2.2.1, (a0.2.2.2.2.1, (a0.2.2.2.2.2.1, (a0.2.2.2.2.2.2.1, (a0.2.2.2.2.2.2.2.1, a0.2.2.2.2.2.2.2.2))))))))
theorem ok6 N a0 {r} (h : F6 N a0 = some r) : Con prog 6 [.agg (lv Y24 a0)] [.agg [.v (.int .i64) r.1, .own Y53 r.2.1 .dp, .own Y42 r.2.2.1 .dp, .v (.int .i64) r.2.2.2.1, .v (.int .i64) r.2.2.2.2.1, .v (.int .i64) r.2.2.2.2.2.1, .v (.int .i64) r.2.2.2.2.2.2.1, .v (.int .i64) r.2.2.2.2.2.2.2.1, .v (.int .i64) r.2.2.2.2.2.2.2.2]] := by
 refine ctr [.agg [.v (.int .i64), .own Y53 .dp, .own Y42 .dp, .v (.int .i64), .v (.int .i64), .v (.int .i64), .v (.int .i64), .v (.int .i64), .v (.int .i64)]] K func6 rfl fun w0 E0 ht => ?_
 unfold F6 at h
 show VW _ _ _ _ _ (retQ _ _ _ _) _
 refine nR K (tn 2) <| nR K (tn 1) <| nR K (tn 4) <| sq <| VW.region <| nG K 2 (tn 2) ?_
 obtain⟨y1,hy,h⟩:=aS h
 refine clc false [.t (.sl Y53)] [] (some 9) K (ok15 N _ hy) <| nN K (tn 2) <| sq <| VW.region <| nG K 2 (tn 2) ?_
 obtain⟨y2,hy,h⟩:=aS h
 refine clc false [.t (.sl Y42)] [] (some 13) K (ok16 N _ hy) <| nN K (tn 2) <| nR K (tn 4) <| nR K (tn 4) <| nR K (tn 4) <| nR K (tn 4) <| nR K (tn 4) <| sR K [2, 3] [1, 2, 3, 4] ⟨[(2, .lf (.ptr 0 0 0 0)), (3, .lf (.ptr 1 0 0 0))], [bx [zi (0 : Int), .nil, .nil, zi (0 : Int), zi (0 : Int), zi (0 : Int), zi (0 : Int), zi (0 : Int), zi (0 : Int)] 30, bx [zi a0.1, .hd 2 0 none, .hd 3 0 none, zi a0.2.2.2.1, zi a0.2.2.2.2.1, zi a0.2.2.2.2.2.1, zi a0.2.2.2.2.2.2.1, zi a0.2.2.2.2.2.2.2.1, zi a0.2.2.2.2.2.2.2.2] 30, ar 0 Y53 y1 .dp, ar 0 Y42 y2 .dp]⟩ (tn 4) ?_
 refine nR K (tn 2) ?_
 cases h; exact VW.ret (rt [some 2, some 3])
def F42 (N : Nat) (a0 : (List Z53)) : Option ((List Z53)) :=
  gd (a0.length ≤ lim Y53) (some a0)
theorem ok42 N a0 {r} (h : F42 N a0 = some r) : Con prog 42 [Vv (.sl Y53) a0] [.lf (.own Y53 r .dp)] := by
 refine ctr [.lf (.own Y53 .dp)] K func42 rfl fun w0 E0 ht => ?_
 unfold F42 at h
 show VW _ _ _ _ _ (retQ _ _ _ _) _
 refine nR K (tn 1) <| sq <| sq <| VW.region <| nG K 1 (tn 1) ?_
 refine VO.isNil (d := 4) (e := Y53) (xs := a0) K rfl rfl rfl rfl (by kernel_rfl) (by kernel_rfl) (fun hx => ?_) ?_
 ·replace h : some ([]) = some r := by
   subst hx; first | exact h | exact (gd_some h).2
  refine nN K (tn 0) ?_
  refine VW.cond (b := true) (by kernel_rfl) (fun _ => ?_) (fun h' => nomatch h')
  refine nR K (tn 1) ?_
  cases h; exact VW.ret (rt [none])
 refine nN K (tn 0) ?_
 refine VW.cond (b := false) (by kernel_rfl) (fun h' => nomatch h') (fun _ => ?_)
 refine VW.skip ?_
 obtain⟨g1,h⟩:=gS h
 refine nR K (pu 2 (an g1 (tn 1))) ?_
 cases h; exact VW.ret (rt [some 0])
def F69 (N : Nat) (a0 : (List Int)) : Option ((List Int)) :=
  gd (a0.length ≤ lim (.int .i64)) (some a0)
theorem ok69 N a0 {r} (h : F69 N a0 = some r) : Con prog 69 [Vv (.sl (.int .i64)) a0] [.lf (.own (.int .i64) r .dp)] := by
 refine ctr [.lf (.own (.int .i64) .dp)] K func69 rfl fun w0 E0 ht => ?_
 unfold F69 at h
 show VW _ _ _ _ _ (retQ _ _ _ _) _
 refine nR K (tn 1) <| sq <| sq <| VW.region <| nG K 1 (tn 1) ?_
 refine VO.isNil (d := 4) (e := (.int .i64)) (xs := a0) K rfl rfl rfl rfl (by kernel_rfl) (by kernel_rfl) (fun hx => ?_) ?_
 ·replace h : some ([]) = some r := by
   subst hx; first | exact h | exact (gd_some h).2
  refine nN K (tn 0) ?_
  refine VW.cond (b := true) (by kernel_rfl) (fun _ => ?_) (fun h' => nomatch h')
  refine nR K (tn 1) ?_
  cases h; exact VW.ret (rt [none])
 refine nN K (tn 0) ?_
 refine VW.cond (b := false) (by kernel_rfl) (fun h' => nomatch h') (fun _ => ?_)
 refine VW.skip ?_
 obtain⟨g1,h⟩:=gS h
 refine nR K (pu 2 (an g1 (tn 1))) ?_
 cases h; exact VW.ret (rt [some 0])
def F43_j0 (N : Nat) (x24 : (List Z87)) : Option ((List Z87)) :=
  some x24
def F43_l0_b (N : Nat) (a0 : (List Z87)) (nx42 : (List Z87) → Int → Int → Option ((List Z87))) (x33 : (List Z87)) (x34 : Int) (x35 : Int) : Option ((List Z87)) :=
  cond (decide (x35 < x34)) (gd (InR x35 a0.length) (andO (F69 N ((a0.getD x35.toNat (Ty.dflt Y87)).2.2.2.2.2.2)) fun y47 => gd (x33.length + ([((a0.getD x35.toNat (Ty.dflt Y87)).1, ((a0.getD x35.toNat (Ty.dflt Y87)).2.1, ((a0.getD x35.toNat (Ty.dflt Y87)).2.2.1, ((a0.getD x35.toNat (Ty.dflt Y87)).2.2.2.1, ((a0.getD x35.toNat (Ty.dflt Y87)).2.2.2.2.1, ((a0.getD x35.toNat (Ty.dflt Y87)).2.2.2.2.2.1, y47))))))]).length ≤ lim Y87) (nx42 (x33 ++ ([((a0.getD x35.toNat (Ty.dflt Y87)).1, ((a0.getD x35.toNat (Ty.dflt Y87)).2.1, ((a0.getD x35.toNat (Ty.dflt Y87)).2.2.1, ((a0.getD x35.toNat (Ty.dflt Y87)).2.2.2.1, ((a0.getD x35.toNat (Ty.dflt Y87)).2.2.2.2.1, ((a0.getD x35.toNat (Ty.dflt Y87)).2.2.2.2.2.1, y47))))))])) x34 (IntKind.i64.wrap (x35 + (1 : Int)))))) (F43_j0 N x33)
def F43_l0 (N : Nat) (a0 : (List Z87)) := loopF (F43_l0_b N a0) (fun _ _ _ => none)
theorem F43_l0_s N a0 {k} (hk : 0 < k) x33 x34 x35 : F43_l0 N a0 k x33 x34 x35 = F43_l0_b N a0 (F43_l0 N a0 (k - 1)) x33 x34 x35 := by cases k;cases hk;rfl
def F43 (N : Nat) (a0 : (List Z87)) : Option ((List Z87)) :=
  F43_l0 N a0 N ([]) (a0.length : Int) (0 : Int)
theorem ok43 N a0 {r} (h : F43 N a0 = some r) : Con prog 43 [Vv (.sl Y87) a0] [.lf (.own Y87 r .dp)] := by
 refine ctr [.lf (.own Y87 .dp)] K func43 rfl fun w0 E0 ht => ?_
 unfold F43 at h
 show VW _ _ _ _ _ (retQ _ _ _ _) _
 refine nR K (tn 1) <| nR K (tn 1) ?_
 refine VW.join (fun s => ∃ x24, s = ⟨[(3, hh 0)], [ar 0 Y87 x24 .dp]⟩ ∧ F43_j0 N x24 = some r) ?_ ?_
 ·refine nR K (tn 3) <| VW.block <| lop (fun k s => ∃ x33 x34 x35, s = ⟨[(3, hh 0), (6, Vv (.sl Y87) a0), (7, I x34), (8, I x35)], [ar 0 Y87 x33 .dp]⟩ ∧ F43_l0 N a0 k x33 x34 x35 = some r) N [.nilS 3 Y87 .dp, .ren [3, 6, 7, 8] [0]] ⟨[], (a0.length : Int), (0 : Int), rfl, h⟩ ?_
  rintro k42 s ⟨x33, x34, x35, rfl, h⟩
  cases k42 with
  | zero => cases show none = some r from h
  | succ k42 =>
   replace h : F43_l0_b N a0 (F43_l0 N a0 k42) x33 x34 x35 = some r := h
   unfold F43_l0_b at h
   refine nR K (tn 1) <| sq ?_
   refine cnd h ?_ ?_<;>intro h
   ·refine VW.skip <| sq <| VW.block ?_
    obtain⟨g46,h⟩:=gS h
    refine nR K (an g46 (tn 3)) <| sq <| VW.region <| nG K 2 (tn 2) ?_
    obtain⟨y47,hy,h⟩:=aS h
    refine clc false [.t (.sl (.int .i64))] [] (some 14) K (ok69 N _ hy) <| nN K (tn 2) <| VW.region <| nG K 2 (tn 2) <| VO.litA (d := 18) (v := hh 3) (H' := [ar 0 Y87 x33 .dp, bx [zi ((a0.getD x35.toNat D87).1), zs ((a0.getD x35.toNat D87).2.1), zi ((a0.getD x35.toNat D87).2.2.1), zi ((a0.getD x35.toNat D87).2.2.2.1), zi ((a0.getD x35.toNat D87).2.2.2.2.1), zb ((a0.getD x35.toNat D87).2.2.2.2.2.1), .hd 2 0 none] 88, none, ar 0 Y87 ([((a0.getD x35.toNat D87).1, ((a0.getD x35.toNat D87).2.1, ((a0.getD x35.toNat D87).2.2.1, ((a0.getD x35.toNat D87).2.2.2.1, ((a0.getD x35.toNat D87).2.2.2.2.1, ((a0.getD x35.toNat D87).2.2.2.2.2.1, y47))))))]) .dp]) K (by kernel_rfl) ?_
    obtain⟨g48,h⟩:=gS h
    refine VO.appM (d := 19) (φ := x33.length + ([((a0.getD x35.toNat D87).1, ((a0.getD x35.toNat D87).2.1, ((a0.getD x35.toNat D87).2.2.1, ((a0.getD x35.toNat D87).2.2.2.1, ((a0.getD x35.toNat D87).2.2.2.2.1, ((a0.getD x35.toNat D87).2.2.2.2.2.1, y47))))))]).length ≤ lim Y87) (v := .lf (.hd 0 1 none)) (H' := [ar 1 Y87 (x33 ++ ([((a0.getD x35.toNat D87).1, ((a0.getD x35.toNat D87).2.1, ((a0.getD x35.toNat D87).2.2.1, ((a0.getD x35.toNat D87).2.2.2.1, ((a0.getD x35.toNat D87).2.2.2.2.1, ((a0.getD x35.toNat D87).2.2.2.2.2.1, y47))))))])) .dp, bx [zi ((a0.getD x35.toNat D87).1), zs ((a0.getD x35.toNat D87).2.1), zi ((a0.getD x35.toNat D87).2.2.1), zi ((a0.getD x35.toNat D87).2.2.2.1), zi ((a0.getD x35.toNat D87).2.2.2.2.1), zb ((a0.getD x35.toNat D87).2.2.2.2.2.1), .hd 2 0 none] 88, none, none]) K (by kernel_rfl) g48 ?_
    refine nN K (tn 1) <| nE K (tn 2) ?_
    exact aro [.ren [3, 6, 7, 8] [0]] ⟨(x33 ++ ([((a0.getD x35.toNat D87).1, ((a0.getD x35.toNat D87).2.1, ((a0.getD x35.toNat D87).2.2.1, ((a0.getD x35.toNat D87).2.2.2.1, ((a0.getD x35.toNat D87).2.2.2.2.1, ((a0.getD x35.toNat D87).2.2.2.2.2.1, y47))))))])), x34, (wr (x35 + (1 : Int))), rfl, h⟩
   refine VW.exit ?_
   exact arv [.ren [3] [0]] ⟨x33, rfl, h⟩
 rintro s ⟨x24, rfl, h⟩
 unfold F43_j0 at h
 refine nR K (tn 2) ?_
 cases h; exact VW.ret (rt [some 0])
def F17_j0 (N : Nat) (y1 : (List Z53)) (x49 : Int) (x50 : (List Z42)) (x51 : Int) (x52 : Int) (x53 : Int) (x54 : Int) (x55 : Int) (x56 : Int) (x57 : (List Z42)) : Option (Z24) :=
  some (x49, (y1, (x57, (x51, (x52, (x53, (x54, (x55, x56))))))))
def F17_l0_b (N : Nat) (y1 : (List Z53)) (nx97 : Int → (List Z42) → Int → Int → Int → Int → Int → Int → (List Z42) → (List Z42) → Int → Int → Option (Z24)) (x77 : Int) (x78 : (List Z42)) (x79 : Int) (x80 : Int) (x81 : Int) (x82 : Int) (x83 : Int) (x84 : Int) (x85 : (List Z42)) (x86 : (List Z42)) (x87 : Int) (x88 : Int) : Option (Z24) :=
  cond (decide (x88 < x87)) (gd (InR x88 x86.length) (andO (F43 N ((x86.getD x88.toNat (Ty.dflt Y42)).2.1)) fun y103 => andO (F43 N ((x86.getD x88.toNat (Ty.dflt Y42)).2.2.1)) fun y104 => gd (x85.length + ([((x86.getD x88.toNat (Ty.dflt Y42)).1, (y103, (y104, ((x86.getD x88.toNat (Ty.dflt Y42)).2.2.2.1, (x86.getD x88.toNat (Ty.dflt Y42)).2.2.2.2))))]).length ≤ lim Y42) (nx97 x77 x78 x79 x80 x81 x82 x83 x84 (x85 ++ ([((x86.getD x88.toNat (Ty.dflt Y42)).1, (y103, (y104, ((x86.getD x88.toNat (Ty.dflt Y42)).2.2.2.1, (x86.getD x88.toNat (Ty.dflt Y42)).2.2.2.2))))])) x86 x87 (IntKind.i64.wrap (x88 + (1 : Int)))))) (F17_j0 N y1 x77 x78 x79 x80 x81 x82 x83 x84 x85)
def F17_l0 (N : Nat) (y1 : (List Z53)) := loopF (F17_l0_b N y1) (fun _ _ _ _ _ _ _ _ _ _ _ _ => none)
theorem F17_l0_s N y1 {k} (hk : 0 < k) x77 x78 x79 x80 x81 x82 x83 x84 x85 x86 x87 x88 : F17_l0 N y1 k x77 x78 x79 x80 x81 x82 x83 x84 x85 x86 x87 x88 = F17_l0_b N y1 (F17_l0 N y1 (k - 1)) x77 x78 x79 x80 x81 x82 x83 x84 x85 x86 x87 x88 := by cases k;cases hk;rfl
def F17 (N : Nat) (a0 : Z24) : Option (Z24) :=
  andO (F42 N a0.2.1) fun y1 => F17_l0 N y1 N a0.1 a0.2.2.1 a0.2.2.2.1 a0.2.2.2.2.1 a0.2.2.2.2.2.1 a0.2.2.2.2.2.2.1 a0.2.2.2.2.2.2.2.1 a0.2.2.2.2.2.2.2.2 ([]) a0.2.2.1 (a0.2.2.1.length : Int) (0 : Int)
theorem ok17 N a0 {r} (h : F17 N a0 = some r) : Con prog 17 [.agg (lv Y24 a0)] [.agg [.v (.int .i64) r.1, .own Y53 r.2.1 .dp, .own Y42 r.2.2.1 .dp, .v (.int .i64) r.2.2.2.1, .v (.int .i64) r.2.2.2.2.1, .v (.int .i64) r.2.2.2.2.2.1, .v (.int .i64) r.2.2.2.2.2.2.1, .v (.int .i64) r.2.2.2.2.2.2.2.1, .v (.int .i64) r.2.2.2.2.2.2.2.2]] := by
 refine ctr [.agg [.v (.int .i64), .own Y53 .dp, .own Y42 .dp, .v (.int .i64), .v (.int .i64), .v (.int .i64), .v (.int .i64), .v (.int .i64), .v (.int .i64)]] K func17 rfl fun w0 E0 ht => ?_
 unfold F17 at h
 show VW _ _ _ _ _ (retQ _ _ _ _) _
 refine nR K (tn 2) <| sq <| VW.region <| nG K 2 (tn 2) ?_
 obtain⟨y1,hy,h⟩:=aS h
 refine clc false [.t (.sl Y53)] [] (some 8) K (ok42 N _ hy) <| nN K (tn 2) <| nR K (tn 1) ?_
 refine VW.join (fun s => ∃ x49 x50 x51 x52 x53 x54 x55 x56 x57, s = ⟨[(1, .lf (.ptr 0 0 0 0)), (2, .lf (.ptr 2 0 0 0)), (3, hh 3)], [bx [zi x49, .hd 1 0 none, .v (.sl Y42) x50, zi x51, zi x52, zi x53, zi x54, zi x55, zi x56] 30, ar 0 Y53 y1 .dp, bx [zi (0 : Int), .nil, .nil, zi (0 : Int), zi (0 : Int), zi (0 : Int), zi (0 : Int), zi (0 : Int), zi (0 : Int)] 30, ar 0 Y42 x57 .dp]⟩ ∧ F17_j0 N y1 x49 x50 x51 x52 x53 x54 x55 x56 x57 = some r) ?_ ?_
 ·refine nR K (tn 4) <| VW.block <| lop (fun k s => ∃ x77 x78 x79 x80 x81 x82 x83 x84 x85 x86 x87 x88, s = ⟨[(1, .lf (.ptr 0 0 0 0)), (2, .lf (.ptr 2 0 0 0)), (3, hh 3), (11, Vv (.sl Y42) x86), (12, I x87), (13, I x88)], [bx [zi x77, .hd 1 0 none, .v (.sl Y42) x78, zi x79, zi x80, zi x81, zi x82, zi x83, zi x84] 30, ar 0 Y53 y1 .dp, bx [zi (0 : Int), .nil, .nil, zi (0 : Int), zi (0 : Int), zi (0 : Int), zi (0 : Int), zi (0 : Int), zi (0 : Int)] 30, ar 0 Y42 x85 .dp]⟩ ∧ F17_l0 N y1 k x77 x78 x79 x80 x81 x82 x83 x84 x85 x86 x87 x88 = some r) N [.nilS 3 Y42 .dp, .ren [1, 2, 3, 11, 12, 13] [0, 2, 1, 3]] ⟨a0.1, a0.2.2.1, a0.2.2.2.1, a0.2.2.2.2.1, a0.2.2.2.2.2.1, a0.2.2.2.2.2.2.1, a0.2.2.2.2.2.2.2.1, a0.2.2.2.2.2.2.2.2, [], a0.2.2.1, (a0.2.2.1.length : Int), (0 : Int), rfl, h⟩ ?_
  rintro k97 s ⟨x77, x78, x79, x80, x81, x82, x83, x84, x85, x86, x87, x88, rfl, h⟩
  cases k97 with
  | zero => cases show none = some r from h
  | succ k97 =>
   replace h : F17_l0_b N y1 (F17_l0 N y1 k97) x77 x78 x79 x80 x81 x82 x83 x84 x85 x86 x87 x88 = some r := h
   unfold F17_l0_b at h
   refine nR K (tn 1) <| sq ?_
   refine cnd h ?_ ?_<;>intro h
   ·refine VW.skip <| sq <| VW.block ?_
    obtain⟨g102,h⟩:=gS h
    refine nR K (an g102 (tn 3)) <| sq <| VW.region <| nG K 2 (tn 2) ?_
    obtain⟨y103,hy,h⟩:=aS h
    refine clc false [.t (.sl Y87)] [] (some 19) K (ok43 N _ hy) <| nN K (tn 2) <| sq <| VW.region <| nG K 2 (tn 2) ?_
    obtain⟨y104,hy,h⟩:=aS h
    refine clc false [.t (.sl Y87)] [] (some 23) K (ok43 N _ hy) <| nN K (tn 2) <| VW.region <| nG K 2 (tn 2) <| VO.litA (d := 27) (v := hh 7) (H' := [bx [zi x77, .hd 1 0 none, .v (.sl Y42) x78, zi x79, zi x80, zi x81, zi x82, zi x83, zi x84] 30, ar 0 Y53 y1 .dp, bx [zi (0 : Int), .nil, .nil, zi (0 : Int), zi (0 : Int), zi (0 : Int), zi (0 : Int), zi (0 : Int), zi (0 : Int)] 30, ar 0 Y42 x85 .dp, bx [zi ((x86.getD x88.toNat D42).1), .hd 5 0 none, .hd 6 0 none, zi ((x86.getD x88.toNat D42).2.2.2.1), zi ((x86.getD x88.toNat D42).2.2.2.2)] 43, none, none, ar 0 Y42 ([((x86.getD x88.toNat D42).1, (y103, (y104, ((x86.getD x88.toNat D42).2.2.2.1, (x86.getD x88.toNat D42).2.2.2.2))))]) .dp]) K (by kernel_rfl) ?_
    obtain⟨g105,h⟩:=gS h
    refine VO.appM (d := 28) (φ := x85.length + ([((x86.getD x88.toNat D42).1, (y103, (y104, ((x86.getD x88.toNat D42).2.2.2.1, (x86.getD x88.toNat D42).2.2.2.2))))]).length ≤ lim Y42) (v := .lf (.hd 3 1 none)) (H' := [bx [zi x77, .hd 1 0 none, .v (.sl Y42) x78, zi x79, zi x80, zi x81, zi x82, zi x83, zi x84] 30, ar 0 Y53 y1 .dp, bx [zi (0 : Int), .nil, .nil, zi (0 : Int), zi (0 : Int), zi (0 : Int), zi (0 : Int), zi (0 : Int), zi (0 : Int)] 30, ar 1 Y42 (x85 ++ ([((x86.getD x88.toNat D42).1, (y103, (y104, ((x86.getD x88.toNat D42).2.2.2.1, (x86.getD x88.toNat D42).2.2.2.2))))])) .dp, bx [zi ((x86.getD x88.toNat D42).1), .hd 5 0 none, .hd 6 0 none, zi ((x86.getD x88.toNat D42).2.2.2.1), zi ((x86.getD x88.toNat D42).2.2.2.2)] 43, none, none, none]) K (by kernel_rfl) g105 ?_
    refine nN K (tn 1) <| nE K (tn 2) ?_
    exact aro [.ren [1, 2, 3, 11, 12, 13] [0, 1, 2, 3]] ⟨x77, x78, x79, x80, x81, x82, x83, x84, (x85 ++ ([((x86.getD x88.toNat D42).1, (y103, (y104, ((x86.getD x88.toNat D42).2.2.2.1, (x86.getD x88.toNat D42).2.2.2.2))))])), x86, x87, (wr (x88 + (1 : Int))), rfl, h⟩
   refine VW.exit ?_
   exact arv [.ren [1, 2, 3] [0, 1, 2, 3]] ⟨x77, x78, x79, x80, x81, x82, x83, x84, x85, rfl, h⟩
 rintro s ⟨x49, x50, x51, x52, x53, x54, x55, x56, x57, rfl, h⟩
 unfold F17_j0 at h
 refine nR K (tn 3) <| nR K (tn 2) ?_
 cases h; exact VW.ret (rt [some 1, some 3])
def F47 (N : Nat) (a0 : Int) (a1 : Int) (a2 : Int) : Option (Bool) :=
  cond (decide (a0 ≥ a1)) (some (decide (a0 ≤ a2))) (some false)
theorem ok47 N a0 a1 a2 {r} (h : F47 N a0 a1 a2 = some r) : Con prog 47 [I a0, I a1, I a2] [.lf (.v .bool r)] := by
 refine ctr [.lf (.v .bool)] K func47 rfl fun w0 E0 ht => ?_
 unfold F47 at h
 show VW _ _ _ _ _ (retQ _ _ _ _) _
 refine nR K (tn 1) <| sq <| VW.region <| nG K 4 (tn 4) ?_
 refine spC 10 h ?_ ?_<;>intro h
 ·refine nN K (tn 5) ?_
  cases h; exact VW.ret (rt [])
 refine nN K (tn 5) ?_
 cases h; exact VW.ret (rt [])
def F44 (N : Nat) (a0 : Int) : Option (Bool) :=
  andO (F47 N a0 (1 : Int) (16 : Int)) fun y1 => some y1
theorem ok44 N a0 {r} (h : F44 N a0 = some r) : Con prog 44 [I a0] [.lf (.v .bool r)] := by
 refine ctr [.lf (.v .bool)] K func44 rfl fun w0 E0 ht => ?_
 unfold F44 at h
 show VW _ _ _ _ _ (retQ _ _ _ _) _
 refine nR K (tn 1) <| sq <| VW.region <| nG K 1 (tn 1) ?_
 obtain⟨y1,hy,h⟩:=aS h
 refine clc false [.t (.int .i64), .t (.int .i64), .t (.int .i64)] [] (some 4) K (ok47 N _ _ _ hy) <| nN K (tn 1) ?_
 cases h; exact VW.ret (rt [])
def F70_j0 (N : Nat) (a0 : ByteArray) : Option (Bool) :=
  andO (F47 N (a0.size : Int) (1 : Int) (12 : Int)) fun y14 => some y14
def F70_j1 (N : Nat) (nx25 : Int → Int → Option (Bool)) (x20 : Int) (x21 : Int) : Option (Bool) :=
  nx25 x20 (IntKind.i64.wrap (x21 + (1 : Int)))
def F70_l0_b (N : Nat) (a0 : ByteArray) (nx25 : Int → Int → Option (Bool)) (x20 : Int) (x21 : Int) : Option (Bool) :=
  cond (decide (x21 < x20)) (gd (InR x21 a0.size) (cond (decide (((a0.data.getD x21.toNat 0).toNat : Int) ≥ (97 : Int))) (cond (!(decide (((a0.data.getD x21.toNat 0).toNat : Int) ≤ (122 : Int)))) (cond (x21 == (0 : Int)) (some false) (cond (decide (((a0.data.getD x21.toNat 0).toNat : Int) < (48 : Int))) (some false) (cond (decide (((a0.data.getD x21.toNat 0).toNat : Int) > (57 : Int))) (some false) (F70_j1 N nx25 x20 x21)))) (F70_j1 N nx25 x20 x21)) (cond (x21 == (0 : Int)) (some false) (cond (decide (((a0.data.getD x21.toNat 0).toNat : Int) < (48 : Int))) (some false) (cond (decide (((a0.data.getD x21.toNat 0).toNat : Int) > (57 : Int))) (some false) (F70_j1 N nx25 x20 x21)))))) (F70_j0 N a0)
def F70_l0 (N : Nat) (a0 : ByteArray) := loopF (F70_l0_b N a0) (fun _ _ => none)
theorem F70_l0_s N a0 {k} (hk : 0 < k) x20 x21 : F70_l0 N a0 k x20 x21 = F70_l0_b N a0 (F70_l0 N a0 (k - 1)) x20 x21 := by cases k;cases hk;rfl
def F70 (N : Nat) (a0 : ByteArray) : Option (Bool) :=
  F70_l0 N a0 N (a0.size : Int) (0 : Int)
theorem ok70 N a0 {r} (h : F70 N a0 = some r) : Con prog 70 [S a0] [.lf (.v .bool r)] := by
 refine ctr [.lf (.v .bool)] K func70 rfl fun w0 E0 ht => ?_
 unfold F70 at h
 show VW _ _ _ _ _ (retQ _ _ _ _) _
 refine nR K (tn 1) ?_
 refine VW.join (fun s => s = ⟨[(0, S a0)], []⟩ ∧ F70_j0 N a0 = some r) ?_ ?_
 ·refine nR K (tn 3) <| VW.block <| lop (fun k s => ∃ x20 x21, s = ⟨[(0, S a0), (7, I x20), (8, I x21)], []⟩ ∧ F70_l0 N a0 k x20 x21 = some r) N [.ren [0, 7, 8] []] ⟨(a0.size : Int), (0 : Int), rfl, h⟩ ?_
  rintro k25 s ⟨x20, x21, rfl, h⟩
  cases k25 with
  | zero => cases show none = some r from h
  | succ k25 =>
   replace h : F70_l0_b N a0 (F70_l0 N a0 k25) x20 x21 = some r := h
   unfold F70_l0_b at h
   refine nR K (tn 1) <| sq ?_
   refine cnd h ?_ ?_<;>intro h
   ·refine VW.skip ?_
    refine VW.join (fun s => s = ⟨[(0, S a0), (7, I x20), (8, I x21)], []⟩ ∧ F70_j1 N (F70_l0 N a0 k25) x20 x21 = some r) ?_ ?_
    ·refine VW.block <| nR K (tn 2) ?_
     obtain⟨g28,h⟩:=gS h
     refine nR K (pu 2 (an g28 (tn 1))) <| sq <| VW.region <| nG K 3 (tn 3) ?_
     refine spC 16 h ?_ ?_<;>intro h
     ·refine nN K (tn 4) <| sq <| VW.region <| nG K 3 (tn 3) ?_
      refine spC 22 h ?_ ?_<;>intro h
      ·refine nG K 3 (tn 3) ?_
       refine spC 25 h ?_ ?_<;>intro h
       ·refine nN K (tn 8) ?_
        refine VW.cond (b := true) (by kernel_rfl) (fun _ => ?_) (fun h' => nomatch h')
        refine nR K (tn 1) ?_
        cases h; exact VW.ret (rt [])
       refine nG K 4 (tn 4) ?_
       refine spC 29 h ?_ ?_<;>intro h
       ·refine nN K (tn 4) ?_
        refine VW.cond (b := true) (by kernel_rfl) (fun _ => ?_) (fun h' => nomatch h')
        refine nR K (tn 1) ?_
        cases h; exact VW.ret (rt [])
       refine nN K (tn 4) ?_
       refine cnd h ?_ ?_<;>intro h
       ·refine nR K (tn 1) ?_
        cases h; exact VW.ret (rt [])
       refine VW.skip ?_
       exact arv [.ren [0, 7, 8] []] ⟨rfl, h⟩
      refine nN K (tn 11) ?_
      refine VW.cond (b := false) (by kernel_rfl) (fun h' => nomatch h') (fun _ => ?_)
      refine VW.skip ?_
      exact arv [.ren [0, 7, 8] []] ⟨rfl, h⟩
     refine nN K (tn 4) <| sq <| VW.region <| nG K 6 (tn 6) ?_
     refine spC 25 h ?_ ?_<;>intro h
     ·refine nN K (tn 8) ?_
      refine VW.cond (b := true) (by kernel_rfl) (fun _ => ?_) (fun h' => nomatch h')
      refine nR K (tn 1) ?_
      cases h; exact VW.ret (rt [])
     refine nG K 4 (tn 4) ?_
     refine spC 29 h ?_ ?_<;>intro h
     ·refine nN K (tn 4) ?_
      refine VW.cond (b := true) (by kernel_rfl) (fun _ => ?_) (fun h' => nomatch h')
      refine nR K (tn 1) ?_
      cases h; exact VW.ret (rt [])
     refine nN K (tn 4) ?_
     refine cnd h ?_ ?_<;>intro h
     ·refine nR K (tn 1) ?_
      cases h; exact VW.ret (rt [])
     refine VW.skip ?_
     exact arv [.ren [0, 7, 8] []] ⟨rfl, h⟩
    rintro s ⟨rfl, h⟩
    unfold F70_j1 at h
    refine nE K (tn 2) ?_
    exact aro [.ren [0, 7, 8] []] ⟨x20, (wr (x21 + (1 : Int))), rfl, h⟩
   refine VW.exit ?_
   exact arv [.ren [0] []] ⟨rfl, h⟩
 rintro s ⟨rfl, h⟩
 unfold F70_j0 at h
 refine sq <| VW.region <| nG K 2 (tn 2) ?_
 obtain⟨y14,hy,h⟩:=aS h
 refine clc false [.t (.int .i64), .t (.int .i64), .t (.int .i64)] [] (some 37) K (ok47 N _ _ _ hy) <| nN K (tn 1) ?_
 cases h; exact VW.ret (rt [])
def F45_j0 (N : Nat) (a0 : (List Z53)) : Option (Bool) :=
  some (decide ((a0.length : Int) ≤ (8 : Int)))
def F45_j1 (N : Nat) (nx84 : Int → Int → Option (Bool)) (x67 : Int) (x68 : Int) : Option (Bool) :=
  nx84 x67 (IntKind.i64.wrap (x68 + (1 : Int)))
def F45_l0_b (N : Nat) (a0 : (List Z53)) (nx84 : Int → Int → Option (Bool)) (x67 : Int) (x68 : Int) : Option (Bool) :=
  cond (decide (x68 < x67)) (gd (InR x68 a0.length) (andO (F70 N ((a0.getD x68.toNat (Ty.dflt Y53)).1)) fun y94 => cond (!y94) (some false) (andO (F47 N ((a0.getD x68.toNat (Ty.dflt Y53)).2) (1 : Int) (6 : Int)) fun y96 => cond (!y96) (some false) (cond (decide (x68 > (0 : Int))) (gd (InR (IntKind.i64.wrap (x68 - (1 : Int))) a0.length) (cond (!(Op.bytesLess ((a0.getD (IntKind.i64.wrap (x68 - (1 : Int))).toNat (Ty.dflt Y53)).1).toList ((a0.getD x68.toNat (Ty.dflt Y53)).1).toList)) (some false) (F45_j1 N nx84 x67 x68))) (F45_j1 N nx84 x67 x68))))) (F45_j0 N a0)
def F45_l0 (N : Nat) (a0 : (List Z53)) := loopF (F45_l0_b N a0) (fun _ _ => none)
theorem F45_l0_s N a0 {k} (hk : 0 < k) x67 x68 : F45_l0 N a0 k x67 x68 = F45_l0_b N a0 (F45_l0 N a0 (k - 1)) x67 x68 := by cases k;cases hk;rfl
def F45 (N : Nat) (a0 : (List Z53)) : Option (Bool) :=
  F45_l0 N a0 N (a0.length : Int) (0 : Int)
theorem ok45 N a0 {r} (h : F45 N a0 = some r) : Con prog 45 [Vv (.sl Y53) a0] [.lf (.v .bool r)] := by
 refine ctr [.lf (.v .bool)] K func45 rfl fun w0 E0 ht => ?_
 unfold F45 at h
 show VW _ _ _ _ _ (retQ _ _ _ _) _
 refine nR K (tn 1) ?_
 refine VW.join (fun s => s = ⟨[(0, Vv (.sl Y53) a0)], []⟩ ∧ F45_j0 N a0 = some r) ?_ ?_
 ·refine nR K (tn 3) <| VW.block <| lop (fun k s => ∃ x67 x68, s = ⟨[(0, Vv (.sl Y53) a0), (5, Vv (.sl Y53) a0), (6, I x67), (7, I x68)], []⟩ ∧ F45_l0 N a0 k x67 x68 = some r) N [.ren [0, 5, 6, 7] []] ⟨(a0.length : Int), (0 : Int), rfl, h⟩ ?_
  rintro k84 s ⟨x67, x68, rfl, h⟩
  cases k84 with
  | zero => cases show none = some r from h
  | succ k84 =>
   replace h : F45_l0_b N a0 (F45_l0 N a0 k84) x67 x68 = some r := h
   unfold F45_l0_b at h
   refine nR K (tn 1) <| sq ?_
   refine cnd h ?_ ?_<;>intro h
   ·refine VW.skip ?_
    refine VW.join (fun s => s = ⟨[(0, Vv (.sl Y53) a0), (5, Vv (.sl Y53) a0), (6, I x67), (7, I x68)], []⟩ ∧ F45_j1 N (F45_l0 N a0 k84) x67 x68 = some r) ?_ ?_
    ·refine VW.block ?_
     obtain⟨g93,h⟩:=gS h
     refine nR K (pu 1 (an g93 (tn 4))) <| sq ?_
     obtain⟨y94,hy94,h⟩:=aS h
     rcases Bool.eq_false_or_eq_true (!y94) with hb95 | hb95
     ·replace h := cond_t h hb95
      refine dr K [(2, .cl [] (some 14) [.lf (.v .bool y94)]), (4, .lit true)] [(2, 0), (4, 0)] [] [0, 5, 6, 7, 36] [] (tn 25) ⟨qC false [.t .str] [] [] (some 14) K (ok70 N _ hy94), qB 16 hb95 K trivial, trivial⟩ ?_
      refine VW.cond (b := true) (by kernel_rfl) (fun _ => ?_) (fun h' => nomatch h')
      refine nR K (tn 1) ?_
      cases h; exact VW.ret (rt [])
     replace h := cond_f h hb95
     obtain⟨y96,hy96,h⟩:=aS h
     rcases Bool.eq_false_or_eq_true (!y96) with hb97 | hb97
     ·replace h := cond_t h hb97
      refine dr K [(2, .cl [] (some 14) [.lf (.v .bool y94)]), (4, .lit false), (7, .cl [] (some 19) [.lf (.v .bool y96)]), (10, .lit true)] [(2, 0), (4, 0), (7, 0), (10, 0)] [] [0, 5, 6, 7, 36] [] (tn 25) ⟨qC false [.t .str] [] [] (some 14) K (ok70 N _ hy94), qB 16 hb95 K trivial, qC false [.t (.int .i64), .t (.int .i64), .t (.int .i64)] [] [] (some 19) K (ok47 N _ _ _ hy96), qB 22 hb97 K trivial, trivial⟩ ?_
      refine VW.cond (b := true) (by kernel_rfl) (fun _ => ?_) (fun h' => nomatch h')
      refine nR K (tn 1) ?_
      cases h; exact VW.ret (rt [])
     replace h := cond_f h hb97
     rcases Bool.eq_false_or_eq_true (decide (x68 > (0 : Int))) with hb98 | hb98
     ·replace h := cond_t h hb98
      obtain⟨g99,h⟩:=gS h
      refine dr K [(2, .cl [] (some 14) [.lf (.v .bool y94)]), (4, .lit false), (7, .cl [] (some 19) [.lf (.v .bool y96)]), (10, .lit false), (13, .lit true)] [(2, 0), (4, 0), (7, 0), (10, 0), (13, 0)] [] [0, 5, 6, 7, 36] [] (pu 17 (an g99 (tn 7))) ⟨qC false [.t .str] [] [] (some 14) K (ok70 N _ hy94), qB 16 hb95 K trivial, qC false [.t (.int .i64), .t (.int .i64), .t (.int .i64)] [] [] (some 19) K (ok47 N _ _ _ hy96), qB 22 hb97 K trivial, qB 25 hb98 K trivial, trivial⟩ ?_
      refine cnd h ?_ ?_<;>intro h
      ·refine nR K (tn 1) ?_
       cases h; exact VW.ret (rt [])
      refine VW.skip ?_
      exact arv [.ren [0, 5, 6, 7] []] ⟨rfl, h⟩
     replace h := cond_f h hb98
     refine dr K [(2, .cl [] (some 14) [.lf (.v .bool y94)]), (4, .lit false), (7, .cl [] (some 19) [.lf (.v .bool y96)]), (10, .lit false), (13, .lit false)] [(2, 0), (4, 0), (7, 0), (10, 0), (13, 0)] [] [0, 5, 6, 7, 36] [] (tn 25) ⟨qC false [.t .str] [] [] (some 14) K (ok70 N _ hy94), qB 16 hb95 K trivial, qC false [.t (.int .i64), .t (.int .i64), .t (.int .i64)] [] [] (some 19) K (ok47 N _ _ _ hy96), qB 22 hb97 K trivial, qB 25 hb98 K trivial, trivial⟩ ?_
     refine VW.cond (b := false) (by kernel_rfl) (fun h' => nomatch h') (fun _ => ?_)
     refine VW.skip ?_
     exact arv [.ren [0, 5, 6, 7] []] ⟨rfl, h⟩
    rintro s ⟨rfl, h⟩
    unfold F45_j1 at h
    refine nE K (tn 2) ?_
    exact aro [.ren [0, 5, 6, 7] []] ⟨x67, (wr (x68 + (1 : Int))), rfl, h⟩
   refine VW.exit ?_
   exact arv [.ren [0] []] ⟨rfl, h⟩
 rintro s ⟨rfl, h⟩
 unfold F45_j0 at h
 refine nR K (tn 4) ?_
 cases h; exact VW.ret (rt [])
def F46 (N : Nat) (a0 : Int) : Option (Bool) :=
  andO (F47 N a0 (0 : Int) (1000 : Int)) fun y1 => some y1
theorem ok46 N a0 {r} (h : F46 N a0 = some r) : Con prog 46 [I a0] [.lf (.v .bool r)] := by
 refine ctr [.lf (.v .bool)] K func46 rfl fun w0 E0 ht => ?_
 unfold F46 at h
 show VW _ _ _ _ _ (retQ _ _ _ _) _
 refine nR K (tn 1) <| sq <| VW.region <| nG K 1 (tn 1) ?_
 obtain⟨y1,hy,h⟩:=aS h
 refine clc false [.t (.int .i64), .t (.int .i64), .t (.int .i64)] [] (some 4) K (ok47 N _ _ _ hy) <| nN K (tn 1) ?_
 cases h; exact VW.ret (rt [])
def F101_j0 (N : Nat) : Option (Int) :=
  some (-1 : Int)
def F101_l0_b (N : Nat) (a0 : (List Z87)) (p1 : Z87 → Option (Bool)) (nx29 : Int → Int → Option (Int)) (x23 : Int) (x24 : Int) : Option (Int) :=
  cond (decide (x24 < x23)) (gd (InR x24 a0.length) (andO (p1 (a0.getD x24.toNat (Ty.dflt Y87))) fun y33 => cond y33 (some x24) (nx29 x23 (IntKind.i64.wrap (x24 + (1 : Int)))))) (F101_j0 N)
def F101_l0 (N : Nat) (a0 : (List Z87)) (p1 : Z87 → Option (Bool)) := loopF (F101_l0_b N a0 p1) (fun _ _ => none)
theorem F101_l0_s N a0 (p1 : Z87 → Option (Bool)) {k} (hk : 0 < k) x23 x24 : F101_l0 N a0 p1 k x23 x24 = F101_l0_b N a0 p1 (F101_l0 N a0 p1 (k - 1)) x23 x24 := by cases k;cases hk;rfl
def F101 (N : Nat) (a0 : (List Z87)) (p1 : Z87 → Option (Bool)) : Option (Int) :=
  F101_l0 N a0 p1 N (a0.length : Int) (0 : Int)
theorem ok101 N a0 (g1 : FuncId) (p1 : Z87 → Option (Bool)) (hp1 : ∀ (z0 : Z87) (r : Bool), p1 z0 = some r → Con prog g1 [.agg (lv Y87 z0)] [.lf (.v .bool r)]) {r} (h : F101 N a0 p1 = some r) : Con prog 101 [Vv (.sl Y87) a0, .clo g1 []] [.lf (.v (.int .i64) r)] := by
 refine ctr [.lf (.v (.int .i64))] K func101 rfl fun w0 E0 ht => ?_
 unfold F101 at h
 show VW _ _ _ _ _ (retQ _ _ _ _) _
 refine nR K (tn 1) ?_
 refine VW.join (fun s => s = ⟨[], []⟩ ∧ F101_j0 N = some r) ?_ ?_
 ·refine nR K (tn 3) <| VW.block <| lop (fun k s => ∃ x23 x24, s = ⟨[(0, Vv (.sl Y87) a0), (1, .clo g1 []), (7, I x23), (8, I x24)], []⟩ ∧ F101_l0 N a0 p1 k x23 x24 = some r) N [.ren [0, 1, 7, 8] []] ⟨(a0.length : Int), (0 : Int), rfl, h⟩ ?_
  rintro k29 s ⟨x23, x24, rfl, h⟩
  cases k29 with
  | zero => cases show none = some r from h
  | succ k29 =>
   replace h : F101_l0_b N a0 p1 (F101_l0 N a0 p1 k29) x23 x24 = some r := h
   unfold F101_l0_b at h
   refine nR K (tn 1) <| sq ?_
   refine cnd h ?_ ?_<;>intro h
   ·refine VW.skip <| sq <| VW.block <| nR K (tn 2) <| sq <| VW.region ?_
    obtain⟨g32,h⟩:=gS h
    refine nG K 5 (pu 3 (an g32 (tn 1))) ?_
    obtain⟨y33,hy,h⟩:=aS h
    refine clc false [.t Y87] [] (some 16) K (hp1 _ _ hy) <| nN K (tn 0) ?_
    refine cnd h ?_ ?_<;>intro h
    ·refine nR K (tn 2) ?_
     cases h; exact VW.ret (rt [])
    refine VW.skip <| nE K (tn 2) ?_
    exact aro [.ren [0, 1, 7, 8] []] ⟨x23, (wr (x24 + (1 : Int))), rfl, h⟩
   refine VW.exit ?_
   exact arv [.ren [] []] ⟨rfl, h⟩
 rintro s ⟨rfl, h⟩
 unfold F101_j0 at h
 refine nR K (tn 1) ?_
 cases h; exact VW.ret (rt [])
def F74 (N : Nat) (a0 : (List Z87)) (p1 : Z87 → Option (Bool)) : Option (Bool) :=
  andO (F101 N a0 p1) fun y1 => some (decide (y1 ≥ (0 : Int)))
theorem ok74 N a0 (g1 : FuncId) (p1 : Z87 → Option (Bool)) (hp1 : ∀ (z0 : Z87) (r : Bool), p1 z0 = some r → Con prog g1 [.agg (lv Y87 z0)] [.lf (.v .bool r)]) {r} (h : F74 N a0 p1 = some r) : Con prog 74 [Vv (.sl Y87) a0, .clo g1 []] [.lf (.v .bool r)] := by
 refine ctr [.lf (.v .bool)] K func74 rfl fun w0 E0 ht => ?_
 unfold F74 at h
 show VW _ _ _ _ _ (retQ _ _ _ _) _
 refine nR K (tn 1) <| sq <| VW.region <| nG K 2 (tn 2) ?_
 obtain⟨y1,hy,h⟩:=aS h
 refine clc false [.t (.sl Y87), .clo []] [] (some 7) K (ok101 N _ g1  p1 hp1 hy) <| nN K (tn 2) ?_
 cases h; exact VW.ret (rt [])
def F129 (N : Nat) (a0 : Int) : Option (Bool) :=
  andO (F47 N a0 (0 : Int) (63 : Int)) fun y1 => some y1
theorem ok129 N a0 {r} (h : F129 N a0 = some r) : Con prog 129 [I a0] [.lf (.v .bool r)] := by
 refine ctr [.lf (.v .bool)] K func129 rfl fun w0 E0 ht => ?_
 unfold F129 at h
 show VW _ _ _ _ _ (retQ _ _ _ _) _
 refine nR K (tn 1) <| sq <| VW.region <| nG K 1 (tn 1) ?_
 obtain⟨y1,hy,h⟩:=aS h
 refine clc false [.t (.int .i64), .t (.int .i64), .t (.int .i64)] [] (some 4) K (ok47 N _ _ _ hy) <| nN K (tn 1) ?_
 cases h; exact VW.ret (rt [])
def F130 (N : Nat) (a0 : Int) : Option (Bool) :=
  andO (F47 N a0 (0 : Int) (39 : Int)) fun y1 => some y1
theorem ok130 N a0 {r} (h : F130 N a0 = some r) : Con prog 130 [I a0] [.lf (.v .bool r)] := by
 refine ctr [.lf (.v .bool)] K func130 rfl fun w0 E0 ht => ?_
 unfold F130 at h
 show VW _ _ _ _ _ (retQ _ _ _ _) _
 refine nR K (tn 1) <| sq <| VW.region <| nG K 1 (tn 1) ?_
 obtain⟨y1,hy,h⟩:=aS h
 refine clc false [.t (.int .i64), .t (.int .i64), .t (.int .i64)] [] (some 4) K (ok47 N _ _ _ hy) <| nN K (tn 1) ?_
 cases h; exact VW.ret (rt [])
def F122 (N : Nat) (a0 : Int) : Option (Bool) :=
  andO (F47 N a0 (-1000000 : Int) (1000000 : Int)) fun y1 => some y1
theorem ok122 N a0 {r} (h : F122 N a0 = some r) : Con prog 122 [I a0] [.lf (.v .bool r)] := by
 refine ctr [.lf (.v .bool)] K func122 rfl fun w0 E0 ht => ?_
 unfold F122 at h
 show VW _ _ _ _ _ (retQ _ _ _ _) _
 refine nR K (tn 1) <| sq <| VW.region <| nG K 1 (tn 1) ?_
 obtain⟨y1,hy,h⟩:=aS h
 refine clc false [.t (.int .i64), .t (.int .i64), .t (.int .i64)] [] (some 4) K (ok47 N _ _ _ hy) <| nN K (tn 1) ?_
 cases h; exact VW.ret (rt [])
def F149_j0 (N : Nat) : Option (Int) :=
  some (-1 : Int)
def F149_l0_b (N : Nat) (a0 : (List Int)) (p1 : Int → Option (Bool)) (nx29 : Int → Int → Option (Int)) (x23 : Int) (x24 : Int) : Option (Int) :=
  cond (decide (x24 < x23)) (gd (InR x24 a0.length) (andO (p1 (a0.getD x24.toNat (Ty.dflt (.int .i64)))) fun y33 => cond y33 (some x24) (nx29 x23 (IntKind.i64.wrap (x24 + (1 : Int)))))) (F149_j0 N)
def F149_l0 (N : Nat) (a0 : (List Int)) (p1 : Int → Option (Bool)) := loopF (F149_l0_b N a0 p1) (fun _ _ => none)
theorem F149_l0_s N a0 (p1 : Int → Option (Bool)) {k} (hk : 0 < k) x23 x24 : F149_l0 N a0 p1 k x23 x24 = F149_l0_b N a0 p1 (F149_l0 N a0 p1 (k - 1)) x23 x24 := by cases k;cases hk;rfl
def F149 (N : Nat) (a0 : (List Int)) (p1 : Int → Option (Bool)) : Option (Int) :=
  F149_l0 N a0 p1 N (a0.length : Int) (0 : Int)
theorem ok149 N a0 (g1 : FuncId) (p1 : Int → Option (Bool)) (hp1 : ∀ (z0 : Int) (r : Bool), p1 z0 = some r → Con prog g1 [I z0] [.lf (.v .bool r)]) {r} (h : F149 N a0 p1 = some r) : Con prog 149 [Vv (.sl (.int .i64)) a0, .clo g1 []] [.lf (.v (.int .i64) r)] := by
 refine ctr [.lf (.v (.int .i64))] K func149 rfl fun w0 E0 ht => ?_
 unfold F149 at h
 show VW _ _ _ _ _ (retQ _ _ _ _) _
 refine nR K (tn 1) ?_
 refine VW.join (fun s => s = ⟨[], []⟩ ∧ F149_j0 N = some r) ?_ ?_
 ·refine nR K (tn 3) <| VW.block <| lop (fun k s => ∃ x23 x24, s = ⟨[(0, Vv (.sl (.int .i64)) a0), (1, .clo g1 []), (7, I x23), (8, I x24)], []⟩ ∧ F149_l0 N a0 p1 k x23 x24 = some r) N [.ren [0, 1, 7, 8] []] ⟨(a0.length : Int), (0 : Int), rfl, h⟩ ?_
  rintro k29 s ⟨x23, x24, rfl, h⟩
  cases k29 with
  | zero => cases show none = some r from h
  | succ k29 =>
   replace h : F149_l0_b N a0 p1 (F149_l0 N a0 p1 k29) x23 x24 = some r := h
   unfold F149_l0_b at h
   refine nR K (tn 1) <| sq ?_
   refine cnd h ?_ ?_<;>intro h
   ·refine VW.skip <| sq <| VW.block <| nR K (tn 2) <| sq <| VW.region ?_
    obtain⟨g32,h⟩:=gS h
    refine nG K 5 (pu 3 (an g32 (tn 1))) ?_
    obtain⟨y33,hy,h⟩:=aS h
    refine clc false [.t (.int .i64)] [] (some 16) K (hp1 _ _ hy) <| nN K (tn 0) ?_
    refine cnd h ?_ ?_<;>intro h
    ·refine nR K (tn 2) ?_
     cases h; exact VW.ret (rt [])
    refine VW.skip <| nE K (tn 2) ?_
    exact aro [.ren [0, 1, 7, 8] []] ⟨x23, (wr (x24 + (1 : Int))), rfl, h⟩
   refine VW.exit ?_
   exact arv [.ren [] []] ⟨rfl, h⟩
 rintro s ⟨rfl, h⟩
 unfold F149_j0 at h
 refine nR K (tn 1) ?_
 cases h; exact VW.ret (rt [])
end Go.Proofs.YtahgoingdfncbaaGreat.Vc
