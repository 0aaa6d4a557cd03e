/- What functions of the program compute, and that they do. -/
import Derived.Test.YtjbahkjjgciooaaXc
import Derived.Test.YtjbahkjjgciooaaProg
namespace Go.Proofs.Ytjbahkjjgciooaa.Vc
open Go Go.RowKit Go.Proofs.Try
set_option linter.unusedVariables false
set_option maxRecDepth 100000
set_option maxHeartbeats 4000000
abbrev Y7 : Ty := .pair (.int .i64) (.pair (.int .i64) (.pair .bool (.int .u8)))
abbrev Y13 : Ty := .pair .str (.int .u64)
abbrev Y35 : Ty := .pair (.int .i64) (.int .i64)
abbrev Y76 : Ty := .pair (.int .i64) (.pair .str (.pair (.int .i64) (.pair (.int .i64) (.pair (.int .i64) (.pair .bool (.sl (.int .i64)))))))
abbrev Z76 := (Int × (ByteArray × (Int × (Int × (Int × (Bool × (List Int)))))))
abbrev Y82 : Ty := .pair .str (.int .i64)
abbrev Y126 : Ty := .pair (.sl (.int .u8)) Y35
abbrev Y143 : Ty := .pair (.sl (.int .u8)) (.pair (.int .i64) .bool)
abbrev D76 : (Y76).den := Ty.dflt Y76
def TL : List (Nat × TI) := [(2, { ty := (.int .i64) }),
  (3, { ty := (.int .i64) }),
  (4, { ty := .bool }),
  (5, { ty := (.int .u8) }),
  (6, { ty := (.int .u8) }),
  (7, { ty := Y7, offs := [0, 1, 2, 3], szs := [1, 1, 1, 1] }),
  (8, { ty := Y7, offs := [0, 1, 2, 3], szs := [1, 1, 1, 1] }),
  (9, { ty := .str }),
  (10, { ty := .str }),
  (11, { ty := .str }),
  (12, { ty := (.int .u64) }),
  (13, { ty := Y13, offs := [0, 1], szs := [1, 1] }),
  (14, { ty := Y13, offs := [0, 1], szs := [1, 1] }),
  (21, { ty := (.int .i32) }),
  (22, { ty := (.sl .str), elem := 9 }),
  (27, { ty := (.sl Y76), elem := 77 }),
  (30, { ty := (.sl Y76), elem := 78 }),
  (34, { ty := (.sl Y82), elem := 83 }),
  (35, { ty := Y35, offs := [0, 1], szs := [1, 1] }),
  (36, { ty := Y35, offs := [0, 1], szs := [1, 1] }),
  (40, { ty := (.sl Y82), elem := 94 }),
  (42, { ty := Y35, offs := [0, 1], szs := [1, 1] }),
  (48, { ty := (.sl Y35), elem := 42 }),
  (53, { ty := (.sl Y35), elem := 36 }),
  (61, { ty := (.sl (.int .u8)), elem := 5 }),
  (75, { ty := (.sl (.int .i64)), elem := 3 }),
  (76, { ty := Y76, offs := [0, 1, 2, 3, 4, 5, 6], szs := [1, 1, 1, 1, 1, 1, 1] }),
  (77, { ty := Y76, offs := [0, 1, 2, 3, 4, 5, 6], szs := [1, 1, 1, 1, 1, 1, 1] }),
  (78, { ty := Y76, offs := [0, 1, 2, 3, 4, 5, 6], szs := [1, 1, 1, 1, 1, 1, 1] }),
  (82, { ty := Y82, offs := [0, 1], szs := [1, 1] }),
  (83, { ty := Y82, offs := [0, 1], szs := [1, 1] }),
  (92, { ty := (.sl (.sl Y76)), elem := 30 }),
  (94, { ty := Y82, offs := [0, 1], szs := [1, 1] }),
  (113, { ty := (.sl Y35), elem := 115 }),
  (114, { ty := Y35, offs := [0, 1], szs := [1, 1] }),
  (115, { ty := Y35, offs := [0, 1], szs := [1, 1] }),
  (126, { ty := Y126, offs := [0, 1, 2], szs := [1, 1, 1] }),
  (127, { ty := Y126, offs := [0, 1, 2], szs := [1, 1, 1] }),
  (142, { ty := (.int .u64) }),
  (143, { ty := Y143, offs := [0, 1, 2], szs := [1, 1, 1] }),
  (144, { ty := Y143, offs := [0, 1, 2], szs := [1, 1, 1] }),
  (155, { ty := (.sl (.sl (.int .u8))), elem := 61 }),
  (169, { ty := (.int .u32) }),
  (170, { ty := (.int .u8) }),
  (171, { ty := (.int .u8) }),
  (174, { ty := (.int .i32) }),
  (175, { ty := (.int .i32) })]
abbrev T : Tab := lookT TL
theorem T_ok : TabOk Go.Proofs.Try.prog T := tabOk_of TL (by kernel_rfl)
theorem K : TabOk Go.Proofs.Try.prog T := T_ok
theorem T_rec : RecOk Go.Proofs.Try.prog T := recOk_of TL (by kernel_rfl)
def F100 (N : Nat) (a0 : (List Int)) (a1 : Int) : Option (Int) :=
  cond (decide ((IntKind.i64.wrap (a1 - (a0.length : Int))) < (0 : Int))) (some (-1 : Int)) (some (IntKind.i64.wrap (a1 - (a0.length : Int))))
theorem ok100 N a0 a1 {r} (h : F100 N a0 a1 = some r) : Con prog 100 [Vv (.sl (.int .i64)) a0, I a1] [.lf (.v (.int .i64) r)] := by
 refine ctr [.lf (.v (.int .i64))] K func100 rfl fun w0 E0 ht => ?_
 unfold F100 at h
 show VW _ _ _ _ _ (retQ _ _ _ _) _
 refine nR K (tn 1) <| nR K (tn 5) <| sq <| nR K (tn 2) ?_
 refine cnd h ?_ ?_<;>intro h
 ·refine nR K (tn 1) ?_
  cases h; exact VW.ret (rt [])
 refine VW.skip <| nR K (tn 2) ?_
 cases h; exact VW.ret (rt [])
def F56 (N : Nat) (a0 : Z76) (a1 : Int) : Option (Int) :=
  cond (decide ((IntKind.i64.wrap (a1 - (a0.2.1.size : Int))) < (0 : Int))) (some (-1 : Int)) (andO (F100 N a0.2.2.2.2.2.2 (IntKind.i64.wrap (a1 - (a0.2.1.size : Int)))) fun y1 => cond (decide (y1 < (0 : Int))) (some (-1 : Int)) (some y1))
theorem ok56 N a0 a1 {r} (h : F56 N a0 a1 = some r) : Con prog 56 [.agg (lv Y76 a0), I a1] [.lf (.v (.int .i64) r)] := by
 refine ctr [.lf (.v (.int .i64))] K func56 rfl fun w0 E0 ht => ?_
 unfold F56 at h
 show VW _ _ _ _ _ (retQ _ _ _ _) _
 refine nR K (tn 2) <| nR K (tn 6) <| sq <| nR K (tn 2) ?_
 refine cnd h ?_ ?_<;>intro h
 ·refine nR K (tn 1) ?_
  cases h; exact VW.ret (rt [])
 refine VW.skip <| sq <| VW.region <| nG K 3 (tn 3) ?_
 have⟨y1,hy,h⟩:=aS h
 refine cal false [.t (.sl (.int .i64)), .t (.int .i64)] [] (some 15) K (ok100 N _ _ hy) <| nN K (tn 1) <| sq <| sR K [1, 17] [] ⟨[(1, I y1), (17, B (decide (y1 < (0 : Int))))], []⟩ (tn 2) ?_
 refine cnd h ?_ ?_<;>intro h
 ·refine nR K (tn 1) ?_
  cases h; exact VW.ret (rt [])
 refine VW.skip <| nR K (tn 2) ?_
 cases h; exact VW.ret (rt [])
def F15_j0 (N : Nat) (x17 : Int) : Option (Int) :=
  some x17
def F15_l0_b (N : Nat) (a0 : (List Z76)) (nx30 : Int → Int → Option (Int)) (x24 : Int) (x25 : Int) : Option (Int) :=
  cond (decide (x25 < (a0.length : Int))) (gd (InR x25 a0.length) (andO (F56 N (a0.getD x25.toNat (Ty.dflt Y76)) x24) fun y34 => cond (decide (y34 < (0 : Int))) (some (-1 : Int)) (nx30 y34 (IntKind.i64.wrap (x25 + (1 : Int)))))) (F15_j0 N x24)
def F15_l0 (N : Nat) (a0 : (List Z76)) := loopF (F15_l0_b N a0) (fun _ _ => none)
theorem F15_l0_s N a0 {k} (hk : 0 < k) x24 x25 : F15_l0 N a0 k x24 x25 = F15_l0_b N a0 (F15_l0 N a0 (k - 1)) x24 x25 := by cases k;cases hk;rfl
def F15 (N : Nat) (a0 : (List Z76)) (a1 : Int) : Option (Int) :=
  cond (decide ((IntKind.i64.wrap (a1 - (a0.length : Int))) < (0 : Int))) (some (-1 : Int)) (F15_l0 N a0 N (IntKind.i64.wrap (a1 - (a0.length : Int))) (0 : Int))
theorem ok15 N a0 a1 {r} (h : F15 N a0 a1 = some r) : Con prog 15 [Vv (.sl Y76) a0, I a1] [.lf (.v (.int .i64) r)] := by
 refine ctr [.lf (.v (.int .i64))] K func15 rfl fun w0 E0 ht => ?_
 unfold F15 at h
 show VW _ _ _ _ _ (retQ _ _ _ _) _
 refine nR K (tn 1) <| nR K (tn 5) <| sq <| nR K (tn 2) ?_
 refine cnd h ?_ ?_<;>intro h
 ·refine nR K (tn 1) ?_
  cases h; exact VW.ret (rt [])
 refine VW.skip ?_
 refine VW.join (fun s => ∃ x17, s = ⟨[(1, I x17)], []⟩ ∧ F15_j0 N x17 = some r) ?_ ?_
 ·refine nR K (tn 1) <| VW.block <| lop (fun k s => ∃ x24 x25, s = ⟨[(0, Vv (.sl Y76) a0), (1, I x24), (5, I x25)], []⟩ ∧ F15_l0 N a0 k x24 x25 = some r) N [.ren [0, 1, 5] []] ⟨(wr (a1 - (a0.length : Int))), (0 : Int), rfl, h⟩ ?_
  rintro k30 s ⟨x24, x25, rfl, h⟩
  cases k30 with
  | zero => cases show none = some r from h
  | succ k30 =>
   replace h : F15_l0_b N a0 (F15_l0 N a0 k30) x24 x25 = some r := h
   unfold F15_l0_b at h
   refine sq <| nR K (tn 4) ?_
   refine cnd h ?_ ?_<;>intro h
   ·refine VW.skip <| sq <| VW.block <| sq <| VW.region ?_
    have⟨g33,h⟩:=gS h
    refine nG K 5 (pu 2 (an g33 (tn 2))) ?_
    have⟨y34,hy,h⟩:=aS h
    refine cal false [.t Y76, .t (.int .i64)] [] (some 23) K (ok56 N _ _ hy) <| nN K (tn 1) <| nR K (tn 2) ?_
    refine cnd h ?_ ?_<;>intro h
    ·refine nR K (tn 1) ?_
     cases h; exact VW.ret (rt [])
    refine VW.skip <| nE K (tn 3) ?_
    exact aro [.ren [0, 1, 5] []] ⟨y34, (wr (x25 + (1 : Int))), rfl, h⟩
   refine VW.exit ?_
   exact arv [.ren [1] []] ⟨x24, rfl, h⟩
 rintro s ⟨x17, rfl, h⟩
 unfold F15_j0 at h
 refine nR K (tn 2) ?_
 cases h; exact VW.ret (rt [])
def F62 (N : Nat) (a0 : Int) (a1 : Int) (a2 : Int) : Option (Bool) :=
  cond (decide (a1 ≤ a0)) (some (decide (a0 ≤ a2))) (some false)
theorem ok62 N a0 a1 a2 {r} (h : F62 N a0 a1 a2 = some r) : Con prog 62 [I a0, I a1, I a2] [.lf (.v .bool r)] := by
 refine ctr [.lf (.v .bool)] K func62 rfl fun w0 E0 ht => ?_
 unfold F62 at h
 show VW _ _ _ _ _ (retQ _ _ _ _) _
 refine nR K (tn 1) <| sq <| VW.region <| nG K 4 (tn 4) ?_
 refine spB 10 h ?_ ?_<;>intro h
 ·refine nN K (tn 5) ?_
  cases h; exact VW.ret (rt [])
 refine nN K (tn 5) ?_
 cases h; exact VW.ret (rt [])
def F107_j0 (N : Nat) (x6 : Bool) : Option (Int) :=
  cond x6 (some (1 : Int)) (some (-1 : Int))
def F107_j1 (N : Nat) (a0 : Int) (x5 : Bool) : Option (Int) :=
  cond x5 (some (2 : Int)) (cond (a0 == (1 : Int)) (F107_j0 N (a0 == (1 : Int))) (cond (a0 == (2 : Int)) (F107_j0 N (a0 == (2 : Int))) (cond (a0 == (5 : Int)) (F107_j0 N (a0 == (5 : Int))) (cond (a0 == (6 : Int)) (F107_j0 N (a0 == (6 : Int))) (F107_j0 N (a0 == (7 : Int)))))))
def F107 (N : Nat) (a0 : Int) : Option (Int) :=
  cond (a0 == (0 : Int)) (some (0 : Int)) (cond (a0 == (3 : Int)) (F107_j1 N a0 (a0 == (3 : Int))) (F107_j1 N a0 (a0 == (4 : Int))))
theorem ok107 N a0 {r} (h : F107 N a0 = some r) : Con prog 107 [I a0] [.lf (.v (.int .i64) r)] := by
 refine ctr [.lf (.v (.int .i64))] K func107 rfl fun w0 E0 ht => ?_
 unfold F107 at h
 show VW _ _ _ _ _ (retQ _ _ _ _) _
 refine nR K (tn 1) <| sq <| nR K (tn 1) <| VW.block <| nR K (tn 2) ?_
 refine cnd h ?_ ?_<;>intro h
 ·refine nR K (tn 1) ?_
  cases h; exact VW.ret (rt [])
 refine VW.join (fun s => ∃ x5, s = ⟨[(3, I a0), (6, B x5)], []⟩ ∧ F107_j1 N a0 x5 = some r) ?_ ?_
 ·refine nR K (tn 2) ?_
  refine cnd h ?_ ?_<;>intro h
  ·refine VW.skip ?_
   exact arv [.ren [3, 6] []] ⟨(a0 == (3 : Int)), rfl, h⟩
  refine nE K (tn 2) ?_
  exact arv [.ren [3, 6] []] ⟨(a0 == (4 : Int)), rfl, h⟩
 rintro s ⟨x5, rfl, h⟩
 unfold F107_j1 at h
 refine cnd h ?_ ?_<;>intro h
 ·refine nR K (tn 1) ?_
  cases h; exact VW.ret (rt [])
 refine VW.join (fun s => ∃ x6, s = ⟨[(9, B x6)], []⟩ ∧ F107_j0 N x6 = some r) ?_ ?_
 ·refine nR K (tn 2) ?_
  refine cnd h ?_ ?_<;>intro h
  ·refine VW.skip ?_
   exact arv [.ren [9] []] ⟨(a0 == (1 : Int)), rfl, h⟩
  refine nR K (tn 2) ?_
  refine cnd h ?_ ?_<;>intro h
  ·refine VW.skip ?_
   exact arv [.ren [9] []] ⟨(a0 == (2 : Int)), rfl, h⟩
  refine nR K (tn 2) ?_
  refine cnd h ?_ ?_<;>intro h
  ·refine VW.skip ?_
   exact arv [.ren [9] []] ⟨(a0 == (5 : Int)), rfl, h⟩
  refine nR K (tn 2) ?_
  refine cnd h ?_ ?_<;>intro h
  ·refine VW.skip ?_
   exact arv [.ren [9] []] ⟨(a0 == (6 : Int)), rfl, h⟩
  refine nE K (tn 2) ?_
  exact arv [.ren [9] []] ⟨(a0 == (7 : Int)), rfl, h⟩
 rintro s ⟨x6, rfl, h⟩
 unfold F107_j0 at h
 refine cnd h ?_ ?_<;>intro h
 ·refine nR K (tn 1) ?_
  cases h; exact VW.ret (rt [])
 refine VW.skip <| nR K (tn 1) ?_
 cases h; exact VW.ret (rt [])
def F65_j0 (N : Nat) (x33 : Int) (x34 : Int) : Option (Int × Int) :=
  some (x33, (IntKind.i64.wrap (x34 + (1 : Int))))
def F65_j1 (N : Nat) (nx58 : Int → Int → Int → Option (Int × Int)) (x48 : Int) (x64 : Int) (x65 : Int) : Option (Int × Int) :=
  nx58 x64 x65 (IntKind.i64.wrap (x48 + (1 : Int)))
def F65_l0_b (N : Nat) (a0 : (List Z76)) (a1 : Int) (a2 : Int) (self : (List Z76) → Int → Int → Option (Int × Int)) (nx58 : Int → Int → Int → Option (Int × Int)) (x46 : Int) (x47 : Int) (x48 : Int) : Option (Int × Int) :=
  gd (InR a1 a0.length) (andO (F107 N ((a0.getD a1.toNat (Ty.dflt Y76)).1)) fun y62 => cond (decide (x48 < y62)) (andO (self a0 x46 (IntKind.i64.wrap (a2 - (1 : Int)))) fun y67 => cond (decide (y67.1 < (0 : Int))) (some ((-1 : Int), (0 : Int))) (cond (decide (y67.2 > x47)) (F65_j1 N nx58 x48 y67.1 y67.2) (F65_j1 N nx58 x48 y67.1 x47))) (F65_j0 N x46 x47))
def F65_l0 (N : Nat) (a0 : (List Z76)) (a1 : Int) (a2 : Int) (self : (List Z76) → Int → Int → Option (Int × Int)) := loopF (F65_l0_b N a0 a1 a2 self) (fun _ _ _ => none)
theorem F65_l0_s N a0 a1 a2 (self : (List Z76) → Int → Int → Option (Int × Int)) {k} (hk : 0 < k) x46 x47 x48 : F65_l0 N a0 a1 a2 self k x46 x47 x48 = F65_l0_b N a0 a1 a2 self (F65_l0 N a0 a1 a2 self (k - 1)) x46 x47 x48 := by cases k;cases hk;rfl
def F65_b (N : Nat) (self : (List Z76) → Int → Int → Option (Int × Int)) (a0 : (List Z76)) (a1 : Int) (a2 : Int) : Option (Int × Int) :=
  cond (decide (a1 ≥ (a0.length : Int))) (some ((-1 : Int), (0 : Int))) (cond (a2 == (0 : Int)) (some ((-1 : Int), (0 : Int))) (F65_l0 N a0 a1 a2 self N (IntKind.i64.wrap (a1 + (1 : Int))) (0 : Int) (0 : Int)))
theorem ok65_b (N : Nat) (self : (List Z76) → Int → Int → Option (Int × Int)) (ih : ∀ (a0 : (List Z76)) (a1 : Int) (a2 : Int) (r : Int × Int), self a0 a1 a2 = some r → Con prog 65 [Vv (.sl Y76) a0, I a1, I a2] [.lf (.v (.int .i64) r.1), .lf (.v (.int .i64) r.2)]) (a0 : (List Z76)) (a1 : Int) (a2 : Int) {r : Int × Int} (h : F65_b N self a0 a1 a2 = some r) : Con prog 65 [Vv (.sl Y76) a0, I a1, I a2] [.lf (.v (.int .i64) r.1), .lf (.v (.int .i64) r.2)] := by
 refine ctr [.lf (.v (.int .i64)), .lf (.v (.int .i64))] K func65 rfl fun w0 E0 ht => ?_
 unfold F65_b at h
 show VW _ _ _ _ _ (retQ _ _ _ _) _
 refine nR K (tn 2) <| sq <| sq <| VW.region <| nG K 5 (tn 5) ?_
 refine spB 17 h ?_ ?_<;>intro h
 ·refine nN K (tn 3) ?_
  refine VW.cond (b := true) (by kernel_rfl) (fun _ => ?_) (fun h' => nomatch h')
  refine nR K (tn 2) ?_
  cases h; exact VW.ret (rt [])
 refine nN K (tn 3) ?_
 refine cnd h ?_ ?_<;>intro h
 ·refine nR K (tn 2) ?_
  cases h; exact VW.ret (rt [])
 refine VW.skip <| nR K (tn 3) <| nR K (tn 1) ?_
 refine VW.join (fun s => ∃ x33 x34, s = ⟨[(8, I x33), (9, I x34)], []⟩ ∧ F65_j0 N x33 x34 = some r) ?_ ?_
 ·refine sR K [0, 1, 2, 8, 9, 10] [] ⟨[(0, Vv (.sl Y76) a0), (1, I a1), (2, I a2), (8, I (wr (a1 + (1 : Int)))), (9, I (0 : Int)), (10, I (0 : Int))], []⟩ (tn 1) <| VW.block <| lop (fun k s => ∃ x46 x47 x48, s = ⟨[(0, Vv (.sl Y76) a0), (1, I a1), (2, I a2), (8, I x46), (9, I x47), (10, I x48)], []⟩ ∧ F65_l0 N a0 a1 a2 self k x46 x47 x48 = some r) N [.ren [0, 1, 2, 8, 9, 10] []] ⟨(wr (a1 + (1 : Int))), (0 : Int), (0 : Int), rfl, h⟩ ?_
  rintro k58 s ⟨x46, x47, x48, rfl, h⟩
  cases k58 with
  | zero => cases show none = some r from h
  | succ k58 =>
   replace h : F65_l0_b N a0 a1 a2 self (F65_l0 N a0 a1 a2 self k58) x46 x47 x48 = some r := h
   unfold F65_l0_b at h
   refine sq <| sq <| VW.region ?_
   have⟨g61,h⟩:=gS h
   refine nG K 6 (pu 3 (an g61 (tn 2))) ?_
   have⟨y62,hy,h⟩:=aS h
   refine cal false [.t (.int .i64)] [] (some 29) K (ok107 N _ hy) <| nN K (tn 1) ?_
   refine cnd h ?_ ?_<;>intro h
   ·refine VW.skip ?_
    refine VW.join (fun s => ∃ x64 x65, s = ⟨[(0, Vv (.sl Y76) a0), (1, I a1), (2, I a2), (8, I x64), (9, I x65), (10, I x48)], []⟩ ∧ F65_j1 N (F65_l0 N a0 a1 a2 self k58) x48 x64 x65 = some r) ?_ ?_
    ·refine VW.block <| sq <| VW.region <| nG K 4 (tn 4) ?_
     have⟨y67,hy,h⟩:=aS h
     refine cal false [.t (.sl Y76), .t (.int .i64), .t (.int .i64)] [] (some 38) K (ih _ _ _ _ hy) <| nN K (tn 5) <| sq <| nR K (tn 2) ?_
     refine cnd h ?_ ?_<;>intro h
     ·refine sR K [6, 7] [] ⟨[(6, I (-1 : Int)), (7, I (0 : Int))], []⟩ (tn 2) ?_
      cases h; exact VW.ret (rt [])
     refine VW.skip <| sR K [0, 1, 2, 8, 9, 10, 12] [] ⟨[(0, Vv (.sl Y76) a0), (1, I a1), (2, I a2), (8, I y67.1), (9, I x47), (10, I x48), (12, I y67.2)], []⟩ (tn 2) <| nR K (tn 3) ?_
     refine cnd h ?_ ?_<;>intro h
     ·refine nE K (tn 2) ?_
      exact arv [.ren [0, 1, 2, 8, 9, 10] []] ⟨y67.1, y67.2, rfl, h⟩
     refine VW.skip ?_
     exact arv [.ren [0, 1, 2, 8, 9, 10] []] ⟨y67.1, x47, rfl, h⟩
    rintro s ⟨x64, x65, rfl, h⟩
    unfold F65_j1 at h
    refine nE K (tn 3) ?_
    exact aro [.ren [0, 1, 2, 8, 9, 10] []] ⟨x64, x65, (wr (x48 + (1 : Int))), rfl, h⟩
   refine VW.exit ?_
   exact arv [.ren [8, 9] []] ⟨x46, x47, rfl, h⟩
 rintro s ⟨x33, x34, rfl, h⟩
 unfold F65_j0 at h
 refine nR K (tn 5) ?_
 cases h; exact VW.ret (rt [])
def F65_r (N : Nat) := loopF (F65_b N) (fun _ _ _ => none)
theorem F65_s N {k} (hk : 0 < k) a0 a1 a2 : F65_r N k a0 a1 a2 = F65_b N (F65_r N (k - 1)) a0 a1 a2 := by cases k;cases hk;rfl
def F65 (N : Nat) : (List Z76) → Int → Int → Option (Int × Int) := F65_r N N
theorem ok65_k (N : Nat) : ∀ (k : Nat) (a0 : (List Z76)) (a1 : Int) (a2 : Int) (r : Int × Int), loopF (F65_b N) (fun _ _ _ => none) k a0 a1 a2 = some r → Con prog 65 [Vv (.sl Y76) a0, I a1, I a2] [.lf (.v (.int .i64) r.1), .lf (.v (.int .i64) r.2)]
 | 0, a0, a1, a2, r, h => nomatch (show (none : Option (Int × Int)) = some r from h)
 | k + 1, a0, a1, a2, r, h => ok65_b N _ (ok65_k N k) a0 a1 a2 h
theorem ok65 N a0 a1 a2 {r} (h : F65 N a0 a1 a2 = some r) : Con prog 65 [Vv (.sl Y76) a0, I a1, I a2] [.lf (.v (.int .i64) r.1), .lf (.v (.int .i64) r.2)] := ok65_k N N a0 a1 a2 r h
def F117 (N : Nat) (a0 : Int) : Option (Bool) :=
  andO (F62 N a0 (-1000000 : Int) (1000000 : Int)) fun y1 => some y1
theorem ok117 N a0 {r} (h : F117 N a0 = some r) : Con prog 117 [I a0] [.lf (.v .bool r)] := by
 refine ctr [.lf (.v .bool)] K func117 rfl fun w0 E0 ht => ?_
 unfold F117 at h
 show VW _ _ _ _ _ (retQ _ _ _ _) _
 refine nR K (tn 1) <| sq <| VW.region <| nG K 1 (tn 1) ?_
 have⟨y1,hy,h⟩:=aS h
 refine cal false [.t (.int .i64), .t (.int .i64), .t (.int .i64)] [] (some 4) K (ok62 N _ _ _ hy) <| nN K (tn 1) ?_
 cases h; exact VW.ret (rt [])
def F146_j0 (N : Nat) : Option (Bool) :=
  some true
def F146_j1 (N : Nat) (nx74 : Int → Option (Bool)) (x60 : Int) : Option (Bool) :=
  nx74 (IntKind.i64.wrap (x60 + (1 : Int)))
def F146_l0_b (N : Nat) (a0 : ByteArray) (nx74 : Int → Option (Bool)) (x60 : Int) : Option (Bool) :=
  cond (decide (x60 < (a0.size : Int))) (gd (InR x60 a0.size) (cond (decide (((a0.data.getD x60.toNat 0).toNat : Int) < (97 : Int))) (gd (InR x60 a0.size) (cond (decide (((a0.data.getD x60.toNat 0).toNat : Int) < (48 : Int))) (some false) (gd (InR x60 a0.size) (cond (decide (((a0.data.getD x60.toNat 0).toNat : Int) > (57 : Int))) (some false) (F146_j1 N nx74 x60))))) (gd (InR x60 a0.size) (cond (decide (((a0.data.getD x60.toNat 0).toNat : Int) > (122 : Int))) (gd (InR x60 a0.size) (cond (decide (((a0.data.getD x60.toNat 0).toNat : Int) < (48 : Int))) (some false) (gd (InR x60 a0.size) (cond (decide (((a0.data.getD x60.toNat 0).toNat : Int) > (57 : Int))) (some false) (F146_j1 N nx74 x60))))) (F146_j1 N nx74 x60))))) (F146_j0 N)
def F146_l0 (N : Nat) (a0 : ByteArray) := loopF (F146_l0_b N a0) (fun _ => none)
theorem F146_l0_s N a0 {k} (hk : 0 < k) x60 : F146_l0 N a0 k x60 = F146_l0_b N a0 (F146_l0 N a0 (k - 1)) x60 := by cases k;cases hk;rfl
def F146 (N : Nat) (a0 : ByteArray) : Option (Bool) :=
  andO (F62 N (a0.size : Int) (1 : Int) (12 : Int)) fun y3 => cond (!y3) (some false) (gd (InR (0 : Int) a0.size) (cond (decide (((a0.data.getD (0 : Int).toNat 0).toNat : Int) < (97 : Int))) (some false) (F146_l0 N a0 N (0 : Int))))
theorem ok146 N a0 {r} (h : F146 N a0 = some r) : Con prog 146 [S a0] [.lf (.v .bool r)] := by
 refine ctr [.lf (.v .bool)] K func146 rfl fun w0 E0 ht => ?_
 unfold F146 at h
 show VW _ _ _ _ _ (retQ _ _ _ _) _
 refine nR K (tn 1) <| sq <| sq <| VW.region <| nG K 2 (tn 2) ?_
 have⟨y3,hy,h⟩:=aS h
 refine cal false [.t (.int .i64), .t (.int .i64), .t (.int .i64)] [] (some 6) K (ok62 N _ _ _ hy) <| nG K 2 (tn 2) ?_
 refine spB 8 h ?_ ?_<;>intro h
 ·refine nN K (tn 4) ?_
  refine VW.cond (b := true) (by kernel_rfl) (fun _ => ?_) (fun h' => nomatch h')
  refine nR K (tn 1) ?_
  cases h; exact VW.ret (rt [])
 have⟨g4,h⟩:=gS h
 refine nN K (pu 1 (an g4 (tn 2))) ?_
 refine cnd h ?_ ?_<;>intro h
 ·refine nR K (tn 1) ?_
  cases h; exact VW.ret (rt [])
 refine VW.skip ?_
 refine VW.join (fun s => s = ⟨[], []⟩ ∧ F146_j0 N = some r) ?_ ?_
 ·refine nR K (tn 1) <| VW.block <| lop (fun k s => ∃ x60, s = ⟨[(0, S a0), (3, I x60)], []⟩ ∧ F146_l0 N a0 k x60 = some r) N [.ren [0, 3] []] ⟨(0 : Int), rfl, h⟩ ?_
  rintro k74 s ⟨x60, rfl, h⟩
  cases k74 with
  | zero => cases show none = some r from h
  | succ k74 =>
   replace h : F146_l0_b N a0 (F146_l0 N a0 k74) x60 = some r := h
   unfold F146_l0_b at h
   refine sq <| nR K (tn 4) ?_
   refine cnd h ?_ ?_<;>intro h
   ·refine VW.skip ?_
    refine VW.join (fun s => s = ⟨[(0, S a0), (3, I x60)], []⟩ ∧ F146_j1 N (F146_l0 N a0 k74) x60 = some r) ?_ ?_
    ·refine VW.block <| sq <| VW.region ?_
     have⟨g82,h⟩:=gS h
     refine nG K 5 (pu 2 (an g82 (tn 2))) ?_
     refine spB 23 h ?_ ?_<;>intro h
     ·have⟨g83,h⟩:=gS h
      refine nG K 11 (pu 8 (an g83 (tn 2))) ?_
      refine spB 34 h ?_ ?_<;>intro h
      ·refine nN K (tn 6) ?_
       refine VW.cond (b := true) (by kernel_rfl) (fun _ => ?_) (fun h' => nomatch h')
       refine nR K (tn 1) ?_
       cases h; exact VW.ret (rt [])
      have⟨g84,h⟩:=gS h
      refine nN K (pu 2 (an g84 (tn 3))) ?_
      refine cnd h ?_ ?_<;>intro h
      ·refine nR K (tn 1) ?_
       cases h; exact VW.ret (rt [])
      refine VW.skip ?_
      exact arv [.ren [0, 3] []] ⟨rfl, h⟩
     have⟨g85,h⟩:=gS h
     refine nG K 6 (pu 2 (an g85 (tn 3))) ?_
     refine spB 29 h ?_ ?_<;>intro h
     ·have⟨g86,h⟩:=gS h
      refine nG K 5 (pu 2 (an g86 (tn 2))) ?_
      refine spB 34 h ?_ ?_<;>intro h
      ·refine nN K (tn 6) ?_
       refine VW.cond (b := true) (by kernel_rfl) (fun _ => ?_) (fun h' => nomatch h')
       refine sR K [2] [] ⟨[(2, B false)], []⟩ (tn 1) ?_
       cases h; exact VW.ret (rt [])
      have⟨g87,h⟩:=gS h
      refine nN K (pu 2 (an g87 (tn 3))) ?_
      refine cnd h ?_ ?_<;>intro h
      ·refine sR K [2] [] ⟨[(2, B false)], []⟩ (tn 1) ?_
       cases h; exact VW.ret (rt [])
      refine VW.skip ?_
      exact arv [.ren [0, 3] []] ⟨rfl, h⟩
     refine nN K (tn 11) ?_
     refine VW.cond (b := false) (by kernel_rfl) (fun h' => nomatch h') (fun _ => ?_)
     refine VW.skip ?_
     exact arv [.ren [0, 3] []] ⟨rfl, h⟩
    rintro s ⟨rfl, h⟩
    unfold F146_j1 at h
    refine nE K (tn 3) ?_
    exact aro [.ren [0, 3] []] ⟨(wr (x60 + (1 : Int))), rfl, h⟩
   refine VW.exit ?_
   exact arv [.ren [] []] ⟨rfl, h⟩
 rintro s ⟨rfl, h⟩
 unfold F146_j0 at h
 refine nR K (tn 1) ?_
 cases h; exact VW.ret (rt [])
def F147 (N : Nat) (a0 : Int) : Option (Bool) :=
  andO (F62 N a0 (0 : Int) (63 : Int)) fun y1 => some y1
theorem ok147 N a0 {r} (h : F147 N a0 = some r) : Con prog 147 [I a0] [.lf (.v .bool r)] := by
 refine ctr [.lf (.v .bool)] K func147 rfl fun w0 E0 ht => ?_
 unfold F147 at h
 show VW _ _ _ _ _ (retQ _ _ _ _) _
 refine nR K (tn 1) <| sq <| VW.region <| nG K 1 (tn 1) ?_
 have⟨y1,hy,h⟩:=aS h
 refine cal false [.t (.int .i64), .t (.int .i64), .t (.int .i64)] [] (some 4) K (ok62 N _ _ _ hy) <| nN K (tn 1) ?_
 cases h; exact VW.ret (rt [])
def F108_j0 (N : Nat) : Option (Bool) :=
  some false
def F108_j1 (N : Nat) (x11 : Int) (x13 : Int) (x14 : Bool) (x15 : (List Int)) : Option (Bool) :=
  andO (F62 N (x15.length : Int) (1 : Int) (6 : Int)) fun y75 => cond y75 (cond (x11 == (0 : Int)) (cond (x13 == (0 : Int)) (some (!x14)) (some false)) (some false)) (some false)
def F108_l0_b (N : Nat) (x11 : Int) (x13 : Int) (x14 : Bool) (x15 : (List Int)) (nx86 : Int → Option (Bool)) (x81 : Int) : Option (Bool) :=
  cond (decide (x81 < (x15.length : Int))) (gd (InR x81 x15.length) (andO (F147 N (x15.getD x81.toNat (Ty.dflt (.int .i64)))) fun y90 => cond (!y90) (some false) (nx86 (IntKind.i64.wrap (x81 + (1 : Int)))))) (F108_j1 N x11 x13 x14 x15)
def F108_l0 (N : Nat) (x11 : Int) (x13 : Int) (x14 : Bool) (x15 : (List Int)) := loopF (F108_l0_b N x11 x13 x14 x15) (fun _ => none)
theorem F108_l0_s N x11 x13 x14 x15 {k} (hk : 0 < k) x81 : F108_l0 N x11 x13 x14 x15 k x81 = F108_l0_b N x11 x13 x14 x15 (F108_l0 N x11 x13 x14 x15 (k - 1)) x81 := by cases k;cases hk;rfl
def F108_j2 (N : Nat) (x11 : Int) (x13 : Int) (x14 : Bool) (x95 : Bool) : Option (Bool) :=
  cond x95 (cond (x11 == (0 : Int)) (cond (x13 == (0 : Int)) (some (!x14)) (some false)) (some false)) (F108_j0 N)
def F108_j3 (N : Nat) (x9 : Int) (x10 : ByteArray) (x11 : Int) (x12 : Int) (x13 : Int) (x14 : Bool) (x15 : (List Int)) : Option (Bool) :=
  cond (x9 == (0 : Int)) (andO (F146 N x10) fun y57 => cond y57 (cond (x11 == (0 : Int)) (cond (x13 == (0 : Int)) (some (!x14)) (some false)) (some false)) (some false)) (cond (x9 == (1 : Int)) (andO (F147 N x11) fun y58 => cond y58 (andO (F62 N x12 (0 : Int) (3 : Int)) fun y59 => cond y59 (andO (F117 N x13) fun y60 => cond y60 (cond (x12 != (3 : Int)) (some true) (cond (x13 == (0 : Int)) (some (!x14)) (some false))) (some false)) (some false)) (some false)) (cond (x9 == (2 : Int)) (F108_l0 N x11 x13 x14 x15 N (0 : Int)) (cond (x9 == (3 : Int)) (andO (F147 N x11) fun y91 => cond y91 (andO (F147 N x13) fun y92 => cond y92 (some (!x14)) (some false)) (some false)) (cond (x9 == (5 : Int)) (andO (F147 N x11) fun y93 => cond y93 (cond (x13 == (0 : Int)) (some (!x14)) (some false)) (some false)) (cond (x9 == (6 : Int)) (cond (x11 == (0 : Int)) (andO (F62 N x13 (0 : Int) (1000000 : Int)) fun y94 => some y94) (some false)) (cond (x9 == (4 : Int)) (F108_j2 N x11 x13 x14 (x9 == (4 : Int))) (F108_j2 N x11 x13 x14 (x9 == (7 : Int)))))))))
def F108 (N : Nat) (a0 : Z76) : Option (Bool) :=
  cond (a0.1 != (0 : Int)) (cond (!(a0.2.1.toList == ByteArray.empty.toList)) (some false) (cond (a0.1 != (2 : Int)) (cond (decide ((a0.2.2.2.2.2.2.length : Int) > (0 : Int))) (some false) (cond (a0.1 != (1 : Int)) (cond (a0.2.2.2.1 != (0 : Int)) (some false) (cond a0.2.2.2.2.2.1 (andO (F62 N a0.2.2.2.2.1 (0 : Int) (39 : Int)) fun y98 => cond (!y98) (some false) (F108_j3 N a0.1 a0.2.1 a0.2.2.1 a0.2.2.2.1 a0.2.2.2.2.1 a0.2.2.2.2.2.1 a0.2.2.2.2.2.2)) (F108_j3 N a0.1 a0.2.1 a0.2.2.1 a0.2.2.2.1 a0.2.2.2.2.1 a0.2.2.2.2.2.1 a0.2.2.2.2.2.2))) (cond a0.2.2.2.2.2.1 (andO (F62 N a0.2.2.2.2.1 (0 : Int) (39 : Int)) fun y99 => cond (!y99) (some false) (F108_j3 N a0.1 a0.2.1 a0.2.2.1 a0.2.2.2.1 a0.2.2.2.2.1 a0.2.2.2.2.2.1 a0.2.2.2.2.2.2)) (F108_j3 N a0.1 a0.2.1 a0.2.2.1 a0.2.2.2.1 a0.2.2.2.2.1 a0.2.2.2.2.2.1 a0.2.2.2.2.2.2)))) (cond (a0.1 != (1 : Int)) (cond (a0.2.2.2.1 != (0 : Int)) (some false) (cond a0.2.2.2.2.2.1 (andO (F62 N a0.2.2.2.2.1 (0 : Int) (39 : Int)) fun y100 => cond (!y100) (some false) (F108_j3 N a0.1 a0.2.1 a0.2.2.1 a0.2.2.2.1 a0.2.2.2.2.1 a0.2.2.2.2.2.1 a0.2.2.2.2.2.2)) (F108_j3 N a0.1 a0.2.1 a0.2.2.1 a0.2.2.2.1 a0.2.2.2.2.1 a0.2.2.2.2.2.1 a0.2.2.2.2.2.2))) (cond a0.2.2.2.2.2.1 (andO (F62 N a0.2.2.2.2.1 (0 : Int) (39 : Int)) fun y101 => cond (!y101) (some false) (F108_j3 N a0.1 a0.2.1 a0.2.2.1 a0.2.2.2.1 a0.2.2.2.2.1 a0.2.2.2.2.2.1 a0.2.2.2.2.2.2)) (F108_j3 N a0.1 a0.2.1 a0.2.2.1 a0.2.2.2.1 a0.2.2.2.2.1 a0.2.2.2.2.2.1 a0.2.2.2.2.2.2))))) (cond (a0.1 != (2 : Int)) (cond (decide ((a0.2.2.2.2.2.2.length : Int) > (0 : Int))) (some false) (cond (a0.1 != (1 : Int)) (cond (a0.2.2.2.1 != (0 : Int)) (some false) (cond a0.2.2.2.2.2.1 (andO (F62 N a0.2.2.2.2.1 (0 : Int) (39 : Int)) fun y102 => cond (!y102) (some false) (F108_j3 N a0.1 a0.2.1 a0.2.2.1 a0.2.2.2.1 a0.2.2.2.2.1 a0.2.2.2.2.2.1 a0.2.2.2.2.2.2)) (F108_j3 N a0.1 a0.2.1 a0.2.2.1 a0.2.2.2.1 a0.2.2.2.2.1 a0.2.2.2.2.2.1 a0.2.2.2.2.2.2))) (cond a0.2.2.2.2.2.1 (andO (F62 N a0.2.2.2.2.1 (0 : Int) (39 : Int)) fun y103 => cond (!y103) (some false) (F108_j3 N a0.1 a0.2.1 a0.2.2.1 a0.2.2.2.1 a0.2.2.2.2.1 a0.2.2.2.2.2.1 a0.2.2.2.2.2.2)) (F108_j3 N a0.1 a0.2.1 a0.2.2.1 a0.2.2.2.1 a0.2.2.2.2.1 a0.2.2.2.2.2.1 a0.2.2.2.2.2.2)))) (cond (a0.1 != (1 : Int)) (cond (a0.2.2.2.1 != (0 : Int)) (some false) (cond a0.2.2.2.2.2.1 (andO (F62 N a0.2.2.2.2.1 (0 : Int) (39 : Int)) fun y104 => cond (!y104) (some false) (F108_j3 N a0.1 a0.2.1 a0.2.2.1 a0.2.2.2.1 a0.2.2.2.2.1 a0.2.2.2.2.2.1 a0.2.2.2.2.2.2)) (F108_j3 N a0.1 a0.2.1 a0.2.2.1 a0.2.2.2.1 a0.2.2.2.2.1 a0.2.2.2.2.2.1 a0.2.2.2.2.2.2))) (cond a0.2.2.2.2.2.1 (andO (F62 N a0.2.2.2.2.1 (0 : Int) (39 : Int)) fun y105 => cond (!y105) (some false) (F108_j3 N a0.1 a0.2.1 a0.2.2.1 a0.2.2.2.1 a0.2.2.2.2.1 a0.2.2.2.2.2.1 a0.2.2.2.2.2.2)) (F108_j3 N a0.1 a0.2.1 a0.2.2.1 a0.2.2.2.1 a0.2.2.2.2.1 a0.2.2.2.2.2.1 a0.2.2.2.2.2.2))))
theorem ok108 N a0 {r} (h : F108 N a0 = some r) : Con prog 108 [.agg (lv Y76 a0)] [.lf (.v .bool r)] := by
 refine ctr [.lf (.v .bool)] K func108 rfl fun w0 E0 ht => ?_
 unfold F108 at h
 show VW _ _ _ _ _ (retQ _ _ _ _) _
 refine nR K (tn 2) ?_
 refine VW.join (fun s => ∃ x9 x10 x11 x12 x13 x14 x15, s = ⟨[(1, .lf (.ptr 0 0 0 0))], [bx [zi x9, zs x10, zi x11, zi x12, zi x13, zb x14, .v (.sl (.int .i64)) x15] 78]⟩ ∧ F108_j3 N x9 x10 x11 x12 x13 x14 x15 = some r) ?_ ?_
 ·refine sq <| VW.region <| nG K 4 (tn 4) ?_
  refine spB 7 h ?_ ?_<;>intro h
  ·refine nG K 5 (tn 5) ?_
   refine spB 12 h ?_ ?_<;>intro h
   ·refine nN K (tn 30) ?_
    refine VW.cond (b := true) (by kernel_rfl) (fun _ => ?_) (fun h' => nomatch h')
    refine nR K (tn 1) ?_
    cases h; exact VW.ret (rt [])
   refine nG K 4 (tn 4) ?_
   refine spB 16 h ?_ ?_<;>intro h
   ·refine nG K 7 (tn 7) ?_
    refine spB 23 h ?_ ?_<;>intro h
    ·refine sNh K [1, 42] [0] [(1, .lf (.ptr 0 0 0 0)), (42, B true)] (tn 19) ?_
     refine VW.cond (b := true) (by kernel_rfl) (fun _ => ?_) (fun h' => nomatch h')
     refine nR K (tn 1) ?_
     cases h; exact VW.ret (rt [])
    refine sGh K 4 [1, 23, 27] [0] [(1, .lf (.ptr 0 0 0 0)), (23, B false), (27, B (a0.1 != (1 : Int)))] (tn 4) ?_
    refine spB 27 h ?_ ?_<;>intro h
    ·refine nG K 6 (tn 6) ?_
     refine spB 33 h ?_ ?_<;>intro h
     ·refine nN K (tn 9) ?_
      refine VW.cond (b := true) (by kernel_rfl) (fun _ => ?_) (fun h' => nomatch h')
      refine nR K (tn 1) ?_
      cases h; exact VW.ret (rt [])
     refine nG K 3 (tn 3) ?_
     refine spB 36 h ?_ ?_<;>intro h
     ·refine nG K 2 (tn 2) <| VO.on (j := 32) (want := true) (d := 36) (b := true) rfl rfl rfl (by kernel_rfl) rfl ?_
      have⟨y98,hy,h⟩:=aS h
      refine cal false [.t (.int .i64), .t (.int .i64), .t (.int .i64)] [] (some 39) K (ok62 N _ _ _ hy) <| nN K (tn 3) ?_
      refine cnd h ?_ ?_<;>intro h
      ·refine nR K (tn 1) ?_
       cases h; exact VW.ret (rt [])
      refine VW.skip ?_
      exact arv [.ren [1] [0]] ⟨a0.1, a0.2.1, a0.2.2.1, a0.2.2.2.1, a0.2.2.2.2.1, a0.2.2.2.2.2.1, a0.2.2.2.2.2.2, rfl, h⟩
     refine nN K (tn 6) ?_
     refine VW.cond (b := false) (by kernel_rfl) (fun h' => nomatch h') (fun _ => ?_)
     refine VW.skip ?_
     exact arv [.ren [1] [0]] ⟨a0.1, a0.2.1, a0.2.2.1, a0.2.2.2.1, a0.2.2.2.2.1, a0.2.2.2.2.2.1, a0.2.2.2.2.2.2, rfl, h⟩
    refine nG K 9 (tn 9) ?_
    refine spB 36 h ?_ ?_<;>intro h
    ·refine nG K 2 (tn 2) <| VO.on (j := 32) (want := true) (d := 36) (b := true) rfl rfl rfl (by kernel_rfl) rfl ?_
     have⟨y99,hy,h⟩:=aS h
     refine cal false [.t (.int .i64), .t (.int .i64), .t (.int .i64)] [] (some 39) K (ok62 N _ _ _ hy) <| nN K (tn 3) ?_
     refine cnd h ?_ ?_<;>intro h
     ·refine nR K (tn 1) ?_
      cases h; exact VW.ret (rt [])
     refine VW.skip ?_
     exact arv [.ren [1] [0]] ⟨a0.1, a0.2.1, a0.2.2.1, a0.2.2.2.1, a0.2.2.2.2.1, a0.2.2.2.2.2.1, a0.2.2.2.2.2.2, rfl, h⟩
    refine nN K (tn 6) ?_
    refine VW.cond (b := false) (by kernel_rfl) (fun h' => nomatch h') (fun _ => ?_)
    refine VW.skip ?_
    exact arv [.ren [1] [0]] ⟨a0.1, a0.2.1, a0.2.2.1, a0.2.2.2.1, a0.2.2.2.2.1, a0.2.2.2.2.2.1, a0.2.2.2.2.2.2, rfl, h⟩
   refine nG K 11 (tn 11) ?_
   refine spB 27 h ?_ ?_<;>intro h
   ·refine sGh K 6 [1, 33] [0] [(1, .lf (.ptr 0 0 0 0)), (33, B (a0.2.2.2.1 != (0 : Int)))] (tn 6) ?_
    refine spB 33 h ?_ ?_<;>intro h
    ·refine nN K (tn 9) ?_
     refine VW.cond (b := true) (by kernel_rfl) (fun _ => ?_) (fun h' => nomatch h')
     refine nR K (tn 1) ?_
     cases h; exact VW.ret (rt [])
    refine nG K 3 (tn 3) ?_
    refine spB 36 h ?_ ?_<;>intro h
    ·refine nG K 2 (tn 2) <| VO.on (j := 32) (want := true) (d := 36) (b := true) rfl rfl rfl (by kernel_rfl) rfl ?_
     have⟨y100,hy,h⟩:=aS h
     refine cal false [.t (.int .i64), .t (.int .i64), .t (.int .i64)] [] (some 39) K (ok62 N _ _ _ hy) <| nN K (tn 3) ?_
     refine cnd h ?_ ?_<;>intro h
     ·refine nR K (tn 1) ?_
      cases h; exact VW.ret (rt [])
     refine VW.skip ?_
     exact arv [.ren [1] [0]] ⟨a0.1, a0.2.1, a0.2.2.1, a0.2.2.2.1, a0.2.2.2.2.1, a0.2.2.2.2.2.1, a0.2.2.2.2.2.2, rfl, h⟩
    refine nN K (tn 6) ?_
    refine VW.cond (b := false) (by kernel_rfl) (fun h' => nomatch h') (fun _ => ?_)
    refine VW.skip ?_
    exact arv [.ren [1] [0]] ⟨a0.1, a0.2.1, a0.2.2.1, a0.2.2.2.1, a0.2.2.2.2.1, a0.2.2.2.2.2.1, a0.2.2.2.2.2.2, rfl, h⟩
   refine sGh K 9 [1, 33, 36] [0] [(1, .lf (.ptr 0 0 0 0)), (33, B false), (36, B a0.2.2.2.2.2.1)] (tn 9) ?_
   refine spB 36 h ?_ ?_<;>intro h
   ·refine nG K 2 (tn 2) <| VO.on (j := 32) (want := true) (d := 36) (b := true) rfl rfl rfl (by kernel_rfl) rfl ?_
    have⟨y101,hy,h⟩:=aS h
    refine cal false [.t (.int .i64), .t (.int .i64), .t (.int .i64)] [] (some 39) K (ok62 N _ _ _ hy) <| nN K (tn 3) ?_
    refine cnd h ?_ ?_<;>intro h
    ·refine nR K (tn 1) ?_
     cases h; exact VW.ret (rt [])
    refine VW.skip ?_
    exact arv [.ren [1] [0]] ⟨a0.1, a0.2.1, a0.2.2.1, a0.2.2.2.1, a0.2.2.2.2.1, a0.2.2.2.2.2.1, a0.2.2.2.2.2.2, rfl, h⟩
   refine nN K (tn 6) ?_
   refine VW.cond (b := false) (by kernel_rfl) (fun h' => nomatch h') (fun _ => ?_)
   refine VW.skip ?_
   exact arv [.ren [1] [0]] ⟨a0.1, a0.2.1, a0.2.2.1, a0.2.2.2.1, a0.2.2.2.2.1, a0.2.2.2.2.2.1, a0.2.2.2.2.2.2, rfl, h⟩
  refine nG K 9 (tn 9) ?_
  refine spB 16 h ?_ ?_<;>intro h
  ·refine nG K 7 (tn 7) ?_
   refine spB 23 h ?_ ?_<;>intro h
   ·refine nN K (tn 19) ?_
    refine VW.cond (b := true) (by kernel_rfl) (fun _ => ?_) (fun h' => nomatch h')
    refine sR K [2] [] ⟨[(2, B false)], []⟩ (tn 1) ?_
    cases h; exact VW.ret (rt [])
   refine nG K 4 (tn 4) ?_
   refine spB 27 h ?_ ?_<;>intro h
   ·refine sGh K 6 [1, 33] [0] [(1, .lf (.ptr 0 0 0 0)), (33, B (a0.2.2.2.1 != (0 : Int)))] (tn 6) ?_
    refine spB 33 h ?_ ?_<;>intro h
    ·refine nN K (tn 9) ?_
     refine VW.cond (b := true) (by kernel_rfl) (fun _ => ?_) (fun h' => nomatch h')
     refine nR K (tn 1) ?_
     cases h; exact VW.ret (rt [])
    refine nG K 3 (tn 3) ?_
    refine spB 36 h ?_ ?_<;>intro h
    ·refine nG K 2 (tn 2) <| VO.on (j := 32) (want := true) (d := 36) (b := true) rfl rfl rfl (by kernel_rfl) rfl ?_
     have⟨y102,hy,h⟩:=aS h
     refine cal false [.t (.int .i64), .t (.int .i64), .t (.int .i64)] [] (some 39) K (ok62 N _ _ _ hy) <| nN K (tn 3) ?_
     refine cnd h ?_ ?_<;>intro h
     ·refine nR K (tn 1) ?_
      cases h; exact VW.ret (rt [])
     refine VW.skip ?_
     exact arv [.ren [1] [0]] ⟨a0.1, a0.2.1, a0.2.2.1, a0.2.2.2.1, a0.2.2.2.2.1, a0.2.2.2.2.2.1, a0.2.2.2.2.2.2, rfl, h⟩
    refine nN K (tn 6) ?_
    refine VW.cond (b := false) (by kernel_rfl) (fun h' => nomatch h') (fun _ => ?_)
    refine VW.skip ?_
    exact arv [.ren [1] [0]] ⟨a0.1, a0.2.1, a0.2.2.1, a0.2.2.2.1, a0.2.2.2.2.1, a0.2.2.2.2.2.1, a0.2.2.2.2.2.2, rfl, h⟩
   refine sGh K 9 [1, 33, 36] [0] [(1, .lf (.ptr 0 0 0 0)), (33, B false), (36, B a0.2.2.2.2.2.1)] (tn 9) ?_
   refine spB 36 h ?_ ?_<;>intro h
   ·refine nG K 2 (tn 2) <| VO.on (j := 32) (want := true) (d := 36) (b := true) rfl rfl rfl (by kernel_rfl) rfl ?_
    have⟨y103,hy,h⟩:=aS h
    refine cal false [.t (.int .i64), .t (.int .i64), .t (.int .i64)] [] (some 39) K (ok62 N _ _ _ hy) <| nN K (tn 3) ?_
    refine cnd h ?_ ?_<;>intro h
    ·refine nR K (tn 1) ?_
     cases h; exact VW.ret (rt [])
    refine VW.skip ?_
    exact arv [.ren [1] [0]] ⟨a0.1, a0.2.1, a0.2.2.1, a0.2.2.2.1, a0.2.2.2.2.1, a0.2.2.2.2.2.1, a0.2.2.2.2.2.2, rfl, h⟩
   refine nN K (tn 6) ?_
   refine VW.cond (b := false) (by kernel_rfl) (fun h' => nomatch h') (fun _ => ?_)
   refine VW.skip ?_
   exact arv [.ren [1] [0]] ⟨a0.1, a0.2.1, a0.2.2.1, a0.2.2.2.1, a0.2.2.2.2.1, a0.2.2.2.2.2.1, a0.2.2.2.2.2.2, rfl, h⟩
  refine nG K 11 (tn 11) ?_
  refine spB 27 h ?_ ?_<;>intro h
  ·refine nG K 6 (tn 6) ?_
   refine spB 33 h ?_ ?_<;>intro h
   ·refine sNh K [1, 42] [0] [(1, .lf (.ptr 0 0 0 0)), (42, B true)] (tn 9) ?_
    refine VW.cond (b := true) (by kernel_rfl) (fun _ => ?_) (fun h' => nomatch h')
    refine nR K (tn 1) ?_
    cases h; exact VW.ret (rt [])
   refine sGh K 3 [1, 33, 36] [0] [(1, .lf (.ptr 0 0 0 0)), (33, B false), (36, B a0.2.2.2.2.2.1)] (tn 3) ?_
   refine spB 36 h ?_ ?_<;>intro h
   ·refine nG K 2 (tn 2) <| VO.on (j := 32) (want := true) (d := 36) (b := true) rfl rfl rfl (by kernel_rfl) rfl ?_
    have⟨y104,hy,h⟩:=aS h
    refine cal false [.t (.int .i64), .t (.int .i64), .t (.int .i64)] [] (some 39) K (ok62 N _ _ _ hy) <| nN K (tn 3) ?_
    refine cnd h ?_ ?_<;>intro h
    ·refine nR K (tn 1) ?_
     cases h; exact VW.ret (rt [])
    refine VW.skip ?_
    exact arv [.ren [1] [0]] ⟨a0.1, a0.2.1, a0.2.2.1, a0.2.2.2.1, a0.2.2.2.2.1, a0.2.2.2.2.2.1, a0.2.2.2.2.2.2, rfl, h⟩
   refine nN K (tn 6) ?_
   refine VW.cond (b := false) (by kernel_rfl) (fun h' => nomatch h') (fun _ => ?_)
   refine VW.skip ?_
   exact arv [.ren [1] [0]] ⟨a0.1, a0.2.1, a0.2.2.1, a0.2.2.2.1, a0.2.2.2.2.1, a0.2.2.2.2.2.1, a0.2.2.2.2.2.2, rfl, h⟩
  refine nG K 9 (tn 9) ?_
  refine spB 36 h ?_ ?_<;>intro h
  ·refine sGh K 2 [1, 33, 36, 38] [0] [(1, .lf (.ptr 0 0 0 0)), (33, B false), (36, B true), (38, I a0.2.2.2.2.1)] (tn 2) <| VO.on (j := 32) (want := true) (d := 36) (b := true) rfl rfl rfl (by kernel_rfl) rfl ?_
   have⟨y105,hy,h⟩:=aS h
   refine cal false [.t (.int .i64), .t (.int .i64), .t (.int .i64)] [] (some 39) K (ok62 N _ _ _ hy) <| nN K (tn 3) ?_
   refine cnd h ?_ ?_<;>intro h
   ·refine nR K (tn 1) ?_
    cases h; exact VW.ret (rt [])
   refine VW.skip ?_
   exact arv [.ren [1] [0]] ⟨a0.1, a0.2.1, a0.2.2.1, a0.2.2.2.1, a0.2.2.2.2.1, a0.2.2.2.2.2.1, a0.2.2.2.2.2.2, rfl, h⟩
  refine sNh K [1, 42] [0] [(1, .lf (.ptr 0 0 0 0)), (42, B false)] (tn 6) ?_
  refine VW.cond (b := false) (by kernel_rfl) (fun h' => nomatch h') (fun _ => ?_)
  refine VW.skip ?_
  exact arv [.ren [1] [0]] ⟨a0.1, a0.2.1, a0.2.2.1, a0.2.2.2.1, a0.2.2.2.2.1, a0.2.2.2.2.2.1, a0.2.2.2.2.2.2, rfl, h⟩
 rintro s ⟨x9, x10, x11, x12, x13, x14, x15, rfl, h⟩
 unfold F108_j3 at h
 refine VW.join (fun s => s = ⟨[], []⟩ ∧ F108_j0 N = some r) ?_ ?_
 ·refine nR K (tn 2) <| VW.block <| nR K (tn 2) ?_
  refine cnd h ?_ ?_<;>intro h
  ·refine sq <| VW.region <| nG K 2 (tn 2) ?_
   have⟨y57,hy,h⟩:=aS h
   refine cal false [.t .str] [] (some 49) K (ok146 N _ hy) <| nG K 1 (tn 1) ?_
   refine spB 50 h ?_ ?_<;>intro h
   ·refine nG K 5 (tn 5) ?_
    refine spB 55 h ?_ ?_<;>intro h
    ·refine sGh K 5 [1, 60] [0] [(1, .lf (.ptr 0 0 0 0)), (60, B (x13 == (0 : Int)))] (tn 5) ?_
     refine spB 60 h ?_ ?_<;>intro h
     ·refine nN K (tn 5) ?_
      cases h; exact VW.ret (rt [])
     refine nN K (tn 5) ?_
     cases h; exact VW.ret (rt [])
    refine sN K [2] [] ⟨[(2, B false)], []⟩ (tn 10) ?_
    cases h; exact VW.ret (rt [])
   refine nN K (tn 15) ?_
   cases h; exact VW.ret (rt [])
  refine nR K (tn 2) ?_
  refine cnd h ?_ ?_<;>intro h
  ·refine sq <| VW.region <| nG K 2 (tn 2) ?_
   have⟨y58,hy,h⟩:=aS h
   refine cal false [.t (.int .i64)] [] (some 69) K (ok147 N _ hy) <| nG K 1 (tn 1) ?_
   refine spB 70 h ?_ ?_<;>intro h
   ·refine sGh K 2 [1, 70, 72] [0] [(1, .lf (.ptr 0 0 0 0)), (70, B true), (72, I x12)] (tn 2) <| VO.on (j := 3) (want := true) (d := 70) (b := true) rfl rfl rfl (by kernel_rfl) rfl ?_
    have⟨y59,hy,h⟩:=aS h
    refine cal false [.t (.int .i64), .t (.int .i64), .t (.int .i64)] [] (some 73) K (ok62 N _ _ _ hy) <| nG K 2 (tn 2) ?_
    refine spB 75 h ?_ ?_<;>intro h
    ·refine nG K 2 (tn 2) <| VO.on (j := 8) (want := true) (d := 75) (b := true) rfl rfl rfl (by kernel_rfl) rfl ?_
     have⟨y60,hy,h⟩:=aS h
     refine cal false [.t (.int .i64)] [] (some 78) K (ok117 N _ hy) <| nG K 2 (tn 2) ?_
     refine spB 80 h ?_ ?_<;>intro h
     ·refine nG K 4 (tn 4) ?_
      refine spB 84 h ?_ ?_<;>intro h
      ·refine nN K (tn 11) ?_
       cases h; exact VW.ret (rt [])
      refine nG K 4 (tn 4) ?_
      refine spB 88 h ?_ ?_<;>intro h
      ·refine sN K [2] [] ⟨[(2, B (!x14))], []⟩ (tn 7) ?_
       cases h; exact VW.ret (rt [])
      refine sN K [2] [] ⟨[(2, B false)], []⟩ (tn 7) ?_
      cases h; exact VW.ret (rt [])
     refine nN K (tn 15) ?_
     cases h; exact VW.ret (rt [])
    refine nN K (tn 20) ?_
    cases h; exact VW.ret (rt [])
   refine sN K [2] [] ⟨[(2, B false)], []⟩ (tn 25) ?_
   cases h; exact VW.ret (rt [])
  refine nR K (tn 2) ?_
  refine cnd h ?_ ?_<;>intro h
  ·refine VW.join (fun s => s = ⟨[(1, .lf (.ptr 0 0 0 0))], [bx [zi x9, zs x10, zi x11, zi x12, zi x13, zb x14, .v (.sl (.int .i64)) x15] 78]⟩ ∧ F108_j1 N x11 x13 x14 x15 = some r) ?_ ?_
   ·refine nR K (tn 1) <| VW.block <| lop (fun k s => ∃ x81, s = ⟨[(1, .lf (.ptr 0 0 0 0)), (3, I x81)], [bx [zi x9, zs x10, zi x11, zi x12, zi x13, zb x14, .v (.sl (.int .i64)) x15] 78]⟩ ∧ F108_l0 N x11 x13 x14 x15 k x81 = some r) N [.ren [1, 3] [0]] ⟨(0 : Int), rfl, h⟩ ?_
    rintro k86 s ⟨x81, rfl, h⟩
    cases k86 with
    | zero => cases show none = some r from h
    | succ k86 =>
     replace h : F108_l0_b N x11 x13 x14 x15 (F108_l0 N x11 x13 x14 x15 k86) x81 = some r := h
     unfold F108_l0_b at h
     refine sq <| nR K (tn 5) ?_
     refine cnd h ?_ ?_<;>intro h
     ·refine VW.skip <| sq <| VW.block <| sq <| VW.region ?_
      have⟨g89,h⟩:=gS h
      refine nG K 5 (pu 3 (an g89 (tn 1))) ?_
      have⟨y90,hy,h⟩:=aS h
      refine cal false [.t (.int .i64)] [] (some 109) K (ok147 N _ hy) <| nN K (tn 1) ?_
      refine cnd h ?_ ?_<;>intro h
      ·refine nR K (tn 1) ?_
       cases h; exact VW.ret (rt [])
      refine VW.skip <| nE K (tn 3) ?_
      exact aro [.ren [1, 3] [0]] ⟨(wr (x81 + (1 : Int))), rfl, h⟩
     refine VW.exit ?_
     exact arv [.ren [1] [0]] ⟨rfl, h⟩
   rintro s ⟨rfl, h⟩
   unfold F108_j1 at h
   refine sq <| VW.region <| nG K 3 (tn 3) ?_
   have⟨y75,hy,h⟩:=aS h
   refine cal false [.t (.int .i64), .t (.int .i64), .t (.int .i64)] [] (some 114) K (ok62 N _ _ _ hy) <| nG K 1 (tn 1) ?_
   refine spB 115 h ?_ ?_<;>intro h
   ·refine nG K 5 (tn 5) ?_
    refine spB 120 h ?_ ?_<;>intro h
    ·refine nG K 5 (tn 5) ?_
     refine spB 125 h ?_ ?_<;>intro h
     ·refine nN K (tn 5) ?_
      cases h; exact VW.ret (rt [])
     refine nN K (tn 5) ?_
     cases h; exact VW.ret (rt [])
    refine nN K (tn 10) ?_
    cases h; exact VW.ret (rt [])
   refine nN K (tn 15) ?_
   cases h; exact VW.ret (rt [])
  refine nR K (tn 2) ?_
  refine cnd h ?_ ?_<;>intro h
  ·refine sq <| VW.region <| sGh K 2 [1, 133] [0] [(1, .lf (.ptr 0 0 0 0)), (133, I x11)] (tn 2) ?_
   have⟨y91,hy,h⟩:=aS h
   refine cal false [.t (.int .i64)] [] (some 134) K (ok147 N _ hy) <| nG K 1 (tn 1) ?_
   refine spB 135 h ?_ ?_<;>intro h
   ·refine nG K 2 (tn 2) <| VO.on (j := 3) (want := true) (d := 135) (b := true) rfl rfl rfl (by kernel_rfl) rfl ?_
    have⟨y92,hy,h⟩:=aS h
    refine cal false [.t (.int .i64)] [] (some 138) K (ok147 N _ hy) <| nG K 2 (tn 2) ?_
    refine spB 140 h ?_ ?_<;>intro h
    ·refine nN K (tn 5) ?_
     cases h; exact VW.ret (rt [])
    refine nN K (tn 5) ?_
    cases h; exact VW.ret (rt [])
   refine nN K (tn 10) ?_
   cases h; exact VW.ret (rt [])
  refine sRh K [1, 44, 145] [0] [(1, .lf (.ptr 0 0 0 0)), (44, I x9), (145, B (x9 == (5 : Int)))] (tn 2) ?_
  refine cnd h ?_ ?_<;>intro h
  ·refine sq <| VW.region <| nG K 2 (tn 2) ?_
   have⟨y93,hy,h⟩:=aS h
   refine cal false [.t (.int .i64)] [] (some 149) K (ok147 N _ hy) <| nG K 1 (tn 1) ?_
   refine spB 150 h ?_ ?_<;>intro h
   ·refine nG K 5 (tn 5) ?_
    refine spB 155 h ?_ ?_<;>intro h
    ·refine nN K (tn 5) ?_
     cases h; exact VW.ret (rt [])
    refine nN K (tn 5) ?_
    cases h; exact VW.ret (rt [])
   refine nN K (tn 10) ?_
   cases h; exact VW.ret (rt [])
  refine nR K (tn 2) ?_
  refine cnd h ?_ ?_<;>intro h
  ·refine sq <| VW.region <| nG K 4 (tn 4) ?_
   refine spB 165 h ?_ ?_<;>intro h
   ·refine nG K 2 (tn 2) <| VO.on (j := 3) (want := true) (d := 165) (b := true) rfl rfl rfl (by kernel_rfl) rfl ?_
    have⟨y94,hy,h⟩:=aS h
    refine cal false [.t (.int .i64), .t (.int .i64), .t (.int .i64)] [] (some 168) K (ok62 N _ _ _ hy) <| nN K (tn 2) ?_
    cases h; exact VW.ret (rt [])
   refine nN K (tn 5) ?_
   cases h; exact VW.ret (rt [])
  refine VW.join (fun s => ∃ x95, s = ⟨[(1, .lf (.ptr 0 0 0 0)), (170, B x95)], [bx [zi x9, zs x10, zi x11, zi x12, zi x13, zb x14, .v (.sl (.int .i64)) x15] 78]⟩ ∧ F108_j2 N x11 x13 x14 x95 = some r) ?_ ?_
  ·refine nR K (tn 2) ?_
   refine cnd h ?_ ?_<;>intro h
   ·refine VW.skip ?_
    exact arv [.ren [1, 170] [0]] ⟨(x9 == (4 : Int)), rfl, h⟩
   refine nE K (tn 2) ?_
   exact arv [.ren [1, 170] [0]] ⟨(x9 == (7 : Int)), rfl, h⟩
  rintro s ⟨x95, rfl, h⟩
  unfold F108_j2 at h
  refine cnd h ?_ ?_<;>intro h
  ·refine sq <| VW.region <| nG K 4 (tn 4) ?_
   refine spB 176 h ?_ ?_<;>intro h
   ·refine nG K 5 (tn 5) ?_
    refine spB 181 h ?_ ?_<;>intro h
    ·refine nN K (tn 5) ?_
     cases h; exact VW.ret (rt [])
    refine nN K (tn 5) ?_
    cases h; exact VW.ret (rt [])
   refine nN K (tn 10) ?_
   cases h; exact VW.ret (rt [])
  refine VW.skip ?_
  exact arv [.ren [] []] ⟨rfl, h⟩
 rintro s ⟨rfl, h⟩
 unfold F108_j0 at h
 refine nR K (tn 1) ?_
 cases h; exact VW.ret (rt [])
def F67_j0 (N : Nat) (a0 : (List Z76)) : Option (Bool) :=
  andO (F65 N a0 (0 : Int) (10 : Int)) fun y17 => some (y17.1 == (a0.length : Int))
def F67_l0_b (N : Nat) (a0 : (List Z76)) (nx28 : Int → Option (Bool)) (x23 : Int) : Option (Bool) :=
  cond (decide (x23 < (a0.length : Int))) (gd (InR x23 a0.length) (andO (F108 N (a0.getD x23.toNat (Ty.dflt Y76))) fun y32 => cond (!y32) (some false) (nx28 (IntKind.i64.wrap (x23 + (1 : Int)))))) (F67_j0 N a0)
def F67_l0 (N : Nat) (a0 : (List Z76)) := loopF (F67_l0_b N a0) (fun _ => none)
theorem F67_l0_s N a0 {k} (hk : 0 < k) x23 : F67_l0 N a0 k x23 = F67_l0_b N a0 (F67_l0 N a0 (k - 1)) x23 := by cases k;cases hk;rfl
def F67 (N : Nat) (a0 : (List Z76)) : Option (Bool) :=
  andO (F62 N (a0.length : Int) (1 : Int) (40 : Int)) fun y2 => cond (!y2) (some false) (F67_l0 N a0 N (0 : Int))
theorem ok67 N a0 {r} (h : F67 N a0 = some r) : Con prog 67 [Vv (.sl Y76) a0] [.lf (.v .bool r)] := by
 refine ctr [.lf (.v .bool)] K func67 rfl fun w0 E0 ht => ?_
 unfold F67 at h
 show VW _ _ _ _ _ (retQ _ _ _ _) _
 refine nR K (tn 1) <| sq <| sq <| VW.region <| nG K 2 (tn 2) ?_
 have⟨y2,hy,h⟩:=aS h
 refine cal false [.t (.int .i64), .t (.int .i64), .t (.int .i64)] [] (some 8) K (ok62 N _ _ _ hy) <| nN K (tn 1) ?_
 refine cnd h ?_ ?_<;>intro h
 ·refine nR K (tn 1) ?_
  cases h; exact VW.ret (rt [])
 refine VW.skip ?_
 refine VW.join (fun s => s = ⟨[(0, Vv (.sl Y76) a0)], []⟩ ∧ F67_j0 N a0 = some r) ?_ ?_
 ·refine nR K (tn 1) <| VW.block <| lop (fun k s => ∃ x23, s = ⟨[(0, Vv (.sl Y76) a0), (3, I x23)], []⟩ ∧ F67_l0 N a0 k x23 = some r) N [.ren [0, 3] []] ⟨(0 : Int), rfl, h⟩ ?_
  rintro k28 s ⟨x23, rfl, h⟩
  cases k28 with
  | zero => cases show none = some r from h
  | succ k28 =>
   replace h : F67_l0_b N a0 (F67_l0 N a0 k28) x23 = some r := h
   unfold F67_l0_b at h
   refine sq <| nR K (tn 4) ?_
   refine cnd h ?_ ?_<;>intro h
   ·refine VW.skip <| sq <| VW.block <| sq <| VW.region ?_
    have⟨g31,h⟩:=gS h
    refine nG K 4 (pu 2 (an g31 (tn 1))) ?_
    have⟨y32,hy,h⟩:=aS h
    refine cal false [.t Y76] [] (some 20) K (ok108 N _ hy) <| nN K (tn 1) ?_
    refine cnd h ?_ ?_<;>intro h
    ·refine nR K (tn 1) ?_
     cases h; exact VW.ret (rt [])
    refine VW.skip <| nE K (tn 3) ?_
    exact aro [.ren [0, 3] []] ⟨(wr (x23 + (1 : Int))), rfl, h⟩
   refine VW.exit ?_
   exact arv [.ren [0] []] ⟨rfl, h⟩
 rintro s ⟨rfl, h⟩
 unfold F67_j0 at h
 refine sq <| VW.region <| nG K 1 (tn 1) ?_
 have⟨y17,hy,h⟩:=aS h
 refine cal false [.t (.sl Y76), .t (.int .i64), .t (.int .i64)] [] (some 24) K (ok65 N _ _ _ hy) <| nN K (tn 5) <| nR K (tn 5) ?_
 cases h; exact VW.ret (rt [])
def F79_j0 (N : Nat) (x10 : (List Int)) (x11 : Int) : Option ((List Int)) :=
  gd (x10.length + ([(IntKind.u8.wrap x11)]).length ≤ lim (.int .u8)) (some (x10 ++ ([(IntKind.u8.wrap x11)])))
def F79_l0_b (N : Nat) (nx18 : (List Int) → Int → Option ((List Int))) (x15 : (List Int)) (x16 : Int) : Option ((List Int)) :=
  cond (decide (x16 ≥ (128 : Int))) (gd (x15.length + ([(IntKind.u8.wrap (IntKind.i64.wrap ((128 : Int) + (Int.tmod x16 (128 : Int)))))]).length ≤ lim (.int .u8)) (nx18 (x15 ++ ([(IntKind.u8.wrap (IntKind.i64.wrap ((128 : Int) + (Int.tmod x16 (128 : Int)))))])) (IntKind.i64.wrap (Int.tdiv x16 (128 : Int))))) (F79_j0 N x15 x16)
def F79_l0 (N : Nat) := loopF (F79_l0_b N) (fun _ _ => none)
theorem F79_l0_s N {k} (hk : 0 < k) x15 x16 : F79_l0 N k x15 x16 = F79_l0_b N (F79_l0 N (k - 1)) x15 x16 := by cases k;cases hk;rfl
def F79_j1 (N : Nat) (x3 : Int) : Option ((List Int)) :=
  F79_l0 N N ([]) x3
def F79 (N : Nat) (a0 : Int) : Option ((List Int)) :=
  andO (F117 N a0) fun y2 => cond (!y2) (some ([])) (cond (decide (a0 < (0 : Int))) (F79_j1 N (IntKind.i64.wrap ((IntKind.i64.wrap ((-2 : Int) * a0)) - (1 : Int)))) (F79_j1 N (IntKind.i64.wrap ((2 : Int) * a0))))
theorem ok79 N a0 {r} (h : F79 N a0 = some r) : Con prog 79 [I a0] [.lf (.own (.int .u8) r .dp)] := by
 refine ctr [.lf (.own (.int .u8) .dp)] K func79 rfl fun w0 E0 ht => ?_
 unfold F79 at h
 show VW _ _ _ _ _ (retQ _ _ _ _) _
 refine nR K (tn 1) <| nR K (tn 2) <| sq <| sq <| VW.region <| nG K 1 (tn 1) ?_
 have⟨y2,hy,h⟩:=aS h
 refine cal false [.t (.int .i64)] [] (some 7) K (ok117 N _ hy) <| nN K (tn 1) ?_
 refine cnd h ?_ ?_<;>intro h
 ·refine nR K (tn 1) ?_
  cases h; exact VW.ret (rt [none])
 refine VW.skip <| nR K (tn 3) ?_
 refine VW.join (fun s => ∃ x3, s = ⟨[(3, .lf (.nil)), (4, I x3)], []⟩ ∧ F79_j1 N x3 = some r) ?_ ?_
 ·refine sR K [0, 3, 4, 12] [] ⟨[(0, I a0), (3, .lf (.nil)), (4, I (wr ((2 : Int) * a0))), (12, B (decide (a0 < (0 : Int))))], []⟩ (tn 2) ?_
  refine cnd h ?_ ?_<;>intro h
  ·refine nE K (tn 4) ?_
   exact arv [.ren [3, 4] []] ⟨(wr ((wr ((-2 : Int) * a0)) - (1 : Int))), rfl, h⟩
  refine VW.skip ?_
  exact arv [.ren [3, 4] []] ⟨(wr ((2 : Int) * a0)), rfl, h⟩
 rintro s ⟨x3, rfl, h⟩
 unfold F79_j1 at h
 refine VW.join (fun s => ∃ x10 x11, s = ⟨[(3, hh 0), (4, I x11)], [ar 0 (.int .u8) x10 .dp]⟩ ∧ F79_j0 N x10 x11 = some r) ?_ ?_
 ·refine VW.block <| lop (fun k s => ∃ x15 x16, s = ⟨[(3, hh 0), (4, I x16)], [ar 0 (.int .u8) x15 .dp]⟩ ∧ F79_l0 N k x15 x16 = some r) N [.nilS 3 (.int .u8) .dp, .ren [3, 4] [0]] ⟨[], x3, rfl, h⟩ ?_
  rintro k18 s ⟨x15, x16, rfl, h⟩
  cases k18 with
  | zero => cases show none = some r from h
  | succ k18 =>
   replace h : F79_l0_b N (F79_l0 N k18) x15 x16 = some r := h
   unfold F79_l0_b at h
   refine sq <| nR K (tn 2) ?_
   refine cnd h ?_ ?_<;>intro h
   ·refine VW.skip <| VW.block ?_
    have⟨g19,h⟩:=gS h
    refine nR K (pu 2 (an (show ((128 : Int) ≠ 0) from by decide) (pu 3 (an g19 (tn 1))))) <| nE K (pu 1 (an (show ((128 : Int) ≠ 0) from by decide) (tn 1))) ?_
    exact aro [.ren [3, 4] [0]] ⟨(x15 ++ ([(IntKind.u8.wrap (wr ((128 : Int) + (Int.tmod x16 (128 : Int)))))])), (wr (Int.tdiv x16 (128 : Int))), rfl, h⟩
   refine VW.exit ?_
   exact arv [.ren [3, 4] [0]] ⟨x15, x16, rfl, h⟩
 rintro s ⟨x10, x11, rfl, h⟩
 unfold F79_j0 at h
 have⟨g12,h⟩:=gS h
 refine nR K (pu 4 (an g12 (tn 1))) ?_
 cases h; exact VW.ret (rt [some 0])
def F118_j0 (N : Nat) (x16 : (List Int)) : Option ((List Int)) :=
  some x16
def F118_l0_b (N : Nat) (a0 : (List Int)) (nx28 : (List Int) → Int → Option ((List Int))) (x22 : (List Int)) (x23 : Int) : Option ((List Int)) :=
  cond (decide (x23 < (a0.length : Int))) (gd (InR x23 a0.length) (gd (x22.length + ([(a0.getD x23.toNat (Ty.dflt (.int .u8)))]).length ≤ lim (.int .u8)) (nx28 (x22 ++ ([(a0.getD x23.toNat (Ty.dflt (.int .u8)))])) (IntKind.i64.wrap (x23 + (1 : Int)))))) (F118_j0 N x22)
def F118_l0 (N : Nat) (a0 : (List Int)) := loopF (F118_l0_b N a0) (fun _ _ => none)
theorem F118_l0_s N a0 {k} (hk : 0 < k) x22 x23 : F118_l0 N a0 k x22 x23 = F118_l0_b N a0 (F118_l0 N a0 (k - 1)) x22 x23 := by cases k;cases hk;rfl
def F118 (N : Nat) (a0 : (List Int)) : Option ((List Int)) :=
  F118_l0 N a0 N ([]) (0 : Int)
theorem ok118 N a0 {r} (h : F118 N a0 = some r) : Con prog 118 [Vv (.sl (.int .u8)) a0] [.lf (.own (.int .u8) r .dp)] := by
 refine ctr [.lf (.own (.int .u8) .dp)] K func118 rfl fun w0 E0 ht => ?_
 unfold F118 at h
 show VW _ _ _ _ _ (retQ _ _ _ _) _
 refine nR K (tn 1) <| nR K (tn 2) ?_
 refine VW.join (fun s => ∃ x16, s = ⟨[(3, hh 0)], [ar 0 (.int .u8) x16 .dp]⟩ ∧ F118_j0 N x16 = some r) ?_ ?_
 ·refine nR K (tn 1) <| VW.block <| lop (fun k s => ∃ x22 x23, s = ⟨[(0, Vv (.sl (.int .u8)) a0), (3, hh 0), (4, I x23)], [ar 0 (.int .u8) x22 .dp]⟩ ∧ F118_l0 N a0 k x22 x23 = some r) N [.nilS 3 (.int .u8) .dp, .ren [0, 3, 4] [0]] ⟨[], (0 : Int), rfl, h⟩ ?_
  rintro k28 s ⟨x22, x23, rfl, h⟩
  cases k28 with
  | zero => cases show none = some r from h
  | succ k28 =>
   replace h : F118_l0_b N a0 (F118_l0 N a0 k28) x22 x23 = some r := h
   unfold F118_l0_b at h
   refine sq <| nR K (tn 4) ?_
   refine cnd h ?_ ?_<;>intro h
   ·refine VW.skip <| sq <| VW.block ?_
    have⟨g31,h⟩:=gS h
    have⟨g32,h⟩:=gS h
    refine nE K (pu 3 (an g31 (pu 2 (an g32 (tn 1))))) <| nE K (tn 3) ?_
    exact aro [.ren [0, 3, 4] [0]] ⟨(x22 ++ ([(a0.getD x23.toNat (Ty.dflt (.int .u8)))])), (wr (x23 + (1 : Int))), rfl, h⟩
   refine VW.exit ?_
   exact arv [.ren [3] [0]] ⟨x22, rfl, h⟩
 rintro s ⟨x16, rfl, h⟩
 unfold F118_j0 at h
 refine nR K (tn 2) ?_
 cases h; exact VW.ret (rt [some 0])
def F80_j0 (N : Nat) (x17 : (List Int)) : Option ((List Int)) :=
  some x17
def F80_l0_b (N : Nat) (a1 : (List Int)) (nx29 : (List Int) → Int → Option ((List Int))) (x23 : (List Int)) (x24 : Int) : Option ((List Int)) :=
  cond (decide (x24 < (a1.length : Int))) (gd (InR x24 a1.length) (gd (x23.length + ([(a1.getD x24.toNat (Ty.dflt (.int .u8)))]).length ≤ lim (.int .u8)) (nx29 (x23 ++ ([(a1.getD x24.toNat (Ty.dflt (.int .u8)))])) (IntKind.i64.wrap (x24 + (1 : Int)))))) (F80_j0 N x23)
def F80_l0 (N : Nat) (a1 : (List Int)) := loopF (F80_l0_b N a1) (fun _ _ => none)
theorem F80_l0_s N a1 {k} (hk : 0 < k) x23 x24 : F80_l0 N a1 k x23 x24 = F80_l0_b N a1 (F80_l0 N a1 (k - 1)) x23 x24 := by cases k;cases hk;rfl
def F80 (N : Nat) (a0 : (List Int)) (a1 : (List Int)) : Option ((List Int)) :=
  andO (F118 N a0) fun y1 => F80_l0 N a1 N y1 (0 : Int)
theorem ok80 N a0 a1 {r} (h : F80 N a0 a1 = some r) : Con prog 80 [Vv (.sl (.int .u8)) a0, Vv (.sl (.int .u8)) a1] [.lf (.own (.int .u8) r .dp)] := by
 refine ctr [.lf (.own (.int .u8) .dp)] K func80 rfl fun w0 E0 ht => ?_
 unfold F80 at h
 show VW _ _ _ _ _ (retQ _ _ _ _) _
 refine nR K (tn 1) <| sq <| VW.region <| nG K 1 (tn 1) ?_
 have⟨y1,hy,h⟩:=aS h
 refine cal false [.t (.sl (.int .u8))] [] (some 8) K (ok118 N _ hy) <| nN K (tn 1) ?_
 refine VW.join (fun s => ∃ x17, s = ⟨[(5, hh 0)], [ar 0 (.int .u8) x17 .dp]⟩ ∧ F80_j0 N x17 = some r) ?_ ?_
 ·refine nR K (tn 1) <| VW.block <| lop (fun k s => ∃ x23 x24, s = ⟨[(1, Vv (.sl (.int .u8)) a1), (5, hh 0), (6, I x24)], [ar 0 (.int .u8) x23 .dp]⟩ ∧ F80_l0 N a1 k x23 x24 = some r) N [.ren [1, 5, 6] [0]] ⟨y1, (0 : Int), rfl, h⟩ ?_
  rintro k29 s ⟨x23, x24, rfl, h⟩
  cases k29 with
  | zero => cases show none = some r from h
  | succ k29 =>
   replace h : F80_l0_b N a1 (F80_l0 N a1 k29) x23 x24 = some r := h
   unfold F80_l0_b at h
   refine sq <| nR K (tn 4) ?_
   refine cnd h ?_ ?_<;>intro h
   ·refine VW.skip <| sq <| VW.block ?_
    have⟨g32,h⟩:=gS h
    have⟨g33,h⟩:=gS h
    refine nE K (pu 3 (an g32 (pu 2 (an g33 (tn 1))))) <| nE K (tn 3) ?_
    exact aro [.ren [1, 5, 6] [0]] ⟨(x23 ++ ([(a1.getD x24.toNat (Ty.dflt (.int .u8)))])), (wr (x24 + (1 : Int))), rfl, h⟩
   refine VW.exit ?_
   exact arv [.ren [5] [0]] ⟨x23, rfl, h⟩
 rintro s ⟨x17, rfl, h⟩
 unfold F80_j0 at h
 refine nR K (tn 2) ?_
 cases h; exact VW.ret (rt [some 0])
def F119 (N : Nat) (a0 : ByteArray) : Option ((List Int)) :=
  andO (F146 N a0) fun y2 => cond (!y2) (some ([])) (andO (F79 N (a0.size : Int)) fun y3 => andO (F80 N y3 (bytesOf a0)) fun y4 => some y4)
theorem ok119 N a0 {r} (h : F119 N a0 = some r) : Con prog 119 [S a0] [.lf (.own (.int .u8) r .dp)] := by
 refine ctr [.lf (.own (.int .u8) .dp)] K func119 rfl fun w0 E0 ht => ?_
 unfold F119 at h
 show VW _ _ _ _ _ (retQ _ _ _ _) _
 refine nR K (tn 1) <| sq <| sq <| VW.region <| nG K 1 (tn 1) ?_
 have⟨y2,hy,h⟩:=aS h
 refine cal false [.t .str] [] (some 4) K (ok146 N _ hy) <| nN K (tn 1) ?_
 refine cnd h ?_ ?_<;>intro h
 ·refine nR K (tn 1) ?_
  cases h; exact VW.ret (rt [none])
 refine VW.skip <| sq <| VW.region <| nG K 2 (tn 2) ?_
 have⟨y3,hy,h⟩:=aS h
 refine cal false [.t (.int .i64)] [] (some 8) K (ok79 N _ hy) <| nG K 2 (tn 2) ?_
 have⟨y4,hy,h⟩:=aS h
 refine cal true [.t (.sl (.int .u8)), .t (.sl (.int .u8))] [] (some 11) K (ok80 N _ _ hy) <| sN K [2] [1] ⟨[(2, hh 0)], [ar 0 (.int .u8) y4 .dp]⟩ (tn 1) ?_
 cases h; exact VW.ret (rt [some 0])
def F120_j0 (N : Nat) (x22 : (List Int)) : Option ((List Int)) :=
  some x22
def F120_l0_b (N : Nat) (a1 : (List Int)) (nx38 : (List Int) → Int → Option ((List Int))) (x30 : (List Int)) (x31 : Int) : Option ((List Int)) :=
  cond (decide (x31 < (a1.length : Int))) (gd (InR x31 a1.length) (andO (F79 N (a1.getD x31.toNat (Ty.dflt (.int .i64)))) fun y43 => andO (F80 N x30 y43) fun y44 => nx38 y44 (IntKind.i64.wrap (x31 + (1 : Int))))) (F120_j0 N x30)
def F120_l0 (N : Nat) (a1 : (List Int)) := loopF (F120_l0_b N a1) (fun _ _ => none)
theorem F120_l0_s N a1 {k} (hk : 0 < k) x30 x31 : F120_l0 N a1 k x30 x31 = F120_l0_b N a1 (F120_l0 N a1 (k - 1)) x30 x31 := by cases k;cases hk;rfl
def F120 (N : Nat) (a0 : (List Int)) (a1 : (List Int)) : Option ((List Int)) :=
  F120_l0 N a1 N a0 (0 : Int)
theorem ok120 N a0 a1 {r} (h : F120 N a0 a1 = some r) : Con prog 120 [Vv (.sl (.int .u8)) a0, Vv (.sl (.int .i64)) a1] [.lf (.v (.sl (.int .u8)) r)] := by
 refine ctr [.lf (.v (.sl (.int .u8)))] K func120 rfl fun w0 E0 ht => ?_
 unfold F120 at h
 show VW _ _ _ _ _ (retQ _ _ _ _) _
 refine nR K (tn 1) ?_
 refine VW.join (fun s => ∃ x22, s = ⟨[(0, Vv (.sl (.int .u8)) x22)], []⟩ ∧ F120_j0 N x22 = some r) ?_ ?_
 ·refine nR K (tn 1) <| VW.block <| lop (fun k s => ∃ x30 x31, s = ⟨[(0, Vv (.sl (.int .u8)) x30), (1, Vv (.sl (.int .i64)) a1), (5, I x31)], []⟩ ∧ F120_l0 N a1 k x30 x31 = some r) N [.ren [0, 1, 5] []] ⟨a0, (0 : Int), rfl, h⟩ ?_
  rintro k38 s ⟨x30, x31, rfl, h⟩
  cases k38 with
  | zero => cases show none = some r from h
  | succ k38 =>
   replace h : F120_l0_b N a1 (F120_l0 N a1 k38) x30 x31 = some r := h
   unfold F120_l0_b at h
   refine sq <| nR K (tn 4) ?_
   refine cnd h ?_ ?_<;>intro h
   ·refine VW.skip <| sq <| VW.block <| VW.region ?_
    have⟨g42,h⟩:=gS h
    refine nG K 5 (pu 3 (an g42 (tn 1))) ?_
    have⟨y43,hy,h⟩:=aS h
    refine cal false [.t (.int .i64)] [] (some 17) K (ok79 N _ hy) ?_
    have⟨y44,hy,h⟩:=aS h
    refine cal true [.t (.sl (.int .u8)), .t (.sl (.int .u8))] [] (some 18) K (ok80 N _ _ hy) <| nN K (tn 1) <| nE K (tn 3) ?_
    exact aro [.frz 1, .ren [0, 1, 5] []] ⟨y44, (wr (x31 + (1 : Int))), rfl, h⟩
   refine VW.exit ?_
   exact arv [.ren [0] []] ⟨x30, rfl, h⟩
 rintro s ⟨x22, rfl, h⟩
 unfold F120_j0 at h
 refine nR K (tn 2) ?_
 cases h; exact VW.ret (rt [])
def F121 (N : Nat) (a0 : Bool) : Option (Int) :=
  cond a0 (some (1 : Int)) (some (0 : Int))
theorem ok121 N a0 {r} (h : F121 N a0 = some r) : Con prog 121 [B a0] [.lf (.v (.int .i64) r)] := by
 refine ctr [.lf (.v (.int .i64))] K func121 rfl fun w0 E0 ht => ?_
 unfold F121 at h
 show VW _ _ _ _ _ (retQ _ _ _ _) _
 refine nR K (tn 1) <| sq <| nR K (tn 1) ?_
 refine cnd h ?_ ?_<;>intro h
 ·refine nR K (tn 1) ?_
  cases h; exact VW.ret (rt [])
 refine VW.skip <| nR K (tn 1) ?_
 cases h; exact VW.ret (rt [])
def F122_j0 (N : Nat) (x47 : (List Int)) : Option ((List Int)) :=
  some x47
def F122_l0_b (N : Nat) (a0 : (List Int)) (nx79 : (List Int) → Int → Option ((List Int))) (x63 : (List Int)) (x64 : Int) : Option ((List Int)) :=
  cond (decide (x64 < (a0.length : Int))) (gd (InR x64 a0.length) (andO (F117 N (a0.getD x64.toNat (Ty.dflt (.int .i64)))) fun y90 => cond (!y90) (some ([])) (gd (InR x64 a0.length) (andO (F79 N (a0.getD x64.toNat (Ty.dflt (.int .i64)))) fun y92 => andO (F80 N x63 y92) fun y93 => nx79 y93 (IntKind.i64.wrap (x64 + (1 : Int))))))) (F122_j0 N x63)
def F122_l0 (N : Nat) (a0 : (List Int)) := loopF (F122_l0_b N a0) (fun _ _ => none)
theorem F122_l0_s N a0 {k} (hk : 0 < k) x63 x64 : F122_l0 N a0 k x63 x64 = F122_l0_b N a0 (F122_l0 N a0 (k - 1)) x63 x64 := by cases k;cases hk;rfl
def F122 (N : Nat) (a0 : (List Int)) : Option ((List Int)) :=
  cond (decide ((a0.length : Int) > (300 : Int))) (some ([])) (andO (F79 N (a0.length : Int)) fun y1 => F122_l0 N a0 N y1 (0 : Int))
theorem ok122 N a0 {r} (h : F122 N a0 = some r) : Con prog 122 [Vv (.sl (.int .i64)) a0] [.lf (.own (.int .u8) r .dp)] := by
 refine ctr [.lf (.own (.int .u8) .dp)] K func122 rfl fun w0 E0 ht => ?_
 unfold F122 at h
 show VW _ _ _ _ _ (retQ _ _ _ _) _
 refine nR K (tn 1) <| sq <| nR K (tn 3) ?_
 refine cnd h ?_ ?_<;>intro h
 ·refine nR K (tn 1) ?_
  cases h; exact VW.ret (rt [none])
 refine VW.skip <| sq <| VW.region <| nG K 2 (tn 2) ?_
 have⟨y1,hy,h⟩:=aS h
 refine cal false [.t (.int .i64)] [] (some 10) K (ok79 N _ hy) <| nN K (tn 1) ?_
 refine VW.join (fun s => ∃ x47, s = ⟨[(3, hh 0)], [ar 0 (.int .u8) x47 .dp]⟩ ∧ F122_j0 N x47 = some r) ?_ ?_
 ·refine nR K (tn 1) <| VW.block <| lop (fun k s => ∃ x63 x64, s = ⟨[(0, Vv (.sl (.int .i64)) a0), (3, hh 0), (4, I x64)], [ar 0 (.int .u8) x63 .dp]⟩ ∧ F122_l0 N a0 k x63 x64 = some r) N [.ren [0, 3, 4] [0]] ⟨y1, (0 : Int), rfl, h⟩ ?_
  rintro k79 s ⟨x63, x64, rfl, h⟩
  cases k79 with
  | zero => cases show none = some r from h
  | succ k79 =>
   replace h : F122_l0_b N a0 (F122_l0 N a0 k79) x63 x64 = some r := h
   unfold F122_l0_b at h
   refine sq <| nR K (tn 4) ?_
   refine cnd h ?_ ?_<;>intro h
   ·refine VW.skip <| sq <| VW.block <| sq <| sq <| VW.region ?_
    have⟨g89,h⟩:=gS h
    refine nG K 4 (pu 2 (an g89 (tn 1))) ?_
    have⟨y90,hy,h⟩:=aS h
    refine cal false [.t (.int .i64)] [] (some 21) K (ok117 N _ hy) <| nN K (tn 1) ?_
    refine cnd h ?_ ?_<;>intro h
    ·refine nR K (tn 1) ?_
     cases h; exact VW.ret (rt [none])
    refine VW.skip <| VW.region ?_
    have⟨g91,h⟩:=gS h
    refine nG K 5 (pu 3 (an g91 (tn 1))) ?_
    have⟨y92,hy,h⟩:=aS h
    refine cal false [.t (.int .i64)] [] (some 28) K (ok79 N _ hy) ?_
    have⟨y93,hy,h⟩:=aS h
    refine cal true [.t (.sl (.int .u8)), .t (.sl (.int .u8))] [] (some 29) K (ok80 N _ _ hy) <| nN K (tn 1) <| rR K [0, 3, 4] [2] ⟨[(0, Vv (.sl (.int .i64)) a0), (3, hh 0), (4, I (wr (x64 + (1 : Int))))], [ar 0 (.int .u8) y93 .dp]⟩ (tn 3) ?_
    exact aro [.ren [0, 3, 4] [0]] ⟨y93, (wr (x64 + (1 : Int))), rfl, h⟩
   refine VW.exit ?_
   exact arv [.ren [3] [0]] ⟨x63, rfl, h⟩
 rintro s ⟨x47, rfl, h⟩
 unfold F122_j0 at h
 refine nR K (tn 2) ?_
 cases h; exact VW.ret (rt [some 0])
def F81 (N : Nat) (a0 : Z76) : Option ((List Int)) :=
  andO (F108 N a0) fun y2 => cond (!y2) (some ([])) (andO (F79 N a0.1) fun y3 => cond (a0.1 == (0 : Int)) (andO (F119 N a0.2.1) fun y14 => andO (F80 N y3 y14) fun y15 => some y15) (cond (a0.1 == (1 : Int)) (andO (F121 N a0.2.2.2.2.2.1) fun y16 => andO (F120 N y3 ([a0.2.2.1, a0.2.2.2.1, y16, a0.2.2.2.2.1])) fun y17 => some y17) (cond (a0.1 == (2 : Int)) (andO (F122 N a0.2.2.2.2.2.2) fun y18 => andO (F80 N y3 y18) fun y19 => some y19) (cond (a0.1 == (3 : Int)) (andO (F120 N y3 ([a0.2.2.1, a0.2.2.2.2.1])) fun y20 => some y20) (cond (a0.1 == (5 : Int)) (andO (F120 N y3 ([a0.2.2.1])) fun y21 => some y21) (cond (a0.1 == (6 : Int)) (andO (F121 N a0.2.2.2.2.2.1) fun y22 => andO (F120 N y3 ([y22, a0.2.2.2.2.1])) fun y23 => some y23) (some y3)))))))
theorem ok81 N a0 {r} (h : F81 N a0 = some r) : Con prog 81 [.agg (lv Y76 a0)] [.lf (.v (.sl (.int .u8)) r)] := by
 refine ctr [.lf (.v (.sl (.int .u8)))] K func81 rfl fun w0 E0 ht => ?_
 unfold F81 at h
 show VW _ _ _ _ _ (retQ _ _ _ _) _
 refine nR K (tn 2) <| sq <| sq <| VW.region <| nG K 1 (tn 1) ?_
 have⟨y2,hy,h⟩:=aS h
 refine cal false [.t Y76] [] (some 5) K (ok108 N _ hy) <| nN K (tn 1) ?_
 refine cnd h ?_ ?_<;>intro h
 ·refine nR K (tn 1) ?_
  cases h; exact VW.ret (rt [])
 refine VW.skip <| sq <| VW.region <| nG K 2 (tn 2) ?_
 have⟨y3,hy,h⟩:=aS h
 refine cal false [.t (.int .i64)] [] (some 9) K (ok79 N _ hy) <| nN K (tn 1) <| sq <| sRh K [1, 3, 11] [0, 1] [(1, .lf (.ptr 0 0 0 0)), (3, hh 1), (11, I a0.1)] (tn 2) <| VW.block <| nR K (tn 2) ?_
 refine cnd h ?_ ?_<;>intro h
 ·refine sq <| VW.region <| nG K 3 (tn 3) ?_
  have⟨y14,hy,h⟩:=aS h
  refine cal false [.t .str] [] (some 17) K (ok119 N _ hy) ?_
  have⟨y15,hy,h⟩:=aS h
  refine cal true [.t (.sl (.int .u8)), .t (.sl (.int .u8))] [] (some 18) K (ok80 N _ _ hy) <| nN K (tn 1) ?_
  cases h; exact VW.ret (rt [])
 refine nR K (tn 2) ?_
 refine cnd h ?_ ?_<;>intro h
 ·refine sq ?_
  have⟨y16,hy16,h⟩:=aS h
  have⟨y17,hy17,h⟩:=aS h
  refine dr K [(7, .cl [] (some 28) [.lf (.v (.int .i64) y16)]), (11, .cl [1, 2] (some 32) [.lf (.v (.sl (.int .u8)) y17)])] [(7, 0), (11, 1)] [10, 11] [2] [] (tn 13) ⟨qC false [.t .bool] [] [] (some 28) K (ok121 N _ hy16), qC false [.t (.sl (.int .u8)), .t (.sl (.int .i64))] [] [1, 2] (some 32) K (ok120 N _ _ hy17), trivial⟩ ?_
  cases h; exact VW.ret (rt [])
 refine nR K (tn 2) ?_
 refine cnd h ?_ ?_<;>intro h
 ·refine sq <| VW.region <| nG K 3 (tn 3) ?_
  have⟨y18,hy,h⟩:=aS h
  refine cal false [.t (.sl (.int .i64))] [] (some 38) K (ok122 N _ hy) ?_
  have⟨y19,hy,h⟩:=aS h
  refine cal true [.t (.sl (.int .u8)), .t (.sl (.int .u8))] [] (some 39) K (ok80 N _ _ hy) <| nN K (tn 1) ?_
  cases h; exact VW.ret (rt [])
 refine nR K (tn 2) ?_
 refine cnd h ?_ ?_<;>intro h
 ·refine sq <| VW.region <| nG K 6 (tn 6) ?_
  have⟨y20,hy,h⟩:=aS h
  refine VO.ghl [.frz 1, .frz 2] <| cal false [.t (.sl (.int .u8)), .t (.sl (.int .i64))] [] (some 48) K (ok120 N _ _ hy) <| sN K [2] [] ⟨[(2, Vv (.sl (.int .u8)) y20)], []⟩ (tn 1) ?_
  cases h; exact VW.ret (rt [])
 refine nR K (tn 2) ?_
 refine cnd h ?_ ?_<;>intro h
 ·refine sq <| VW.region <| sG K 4 [51, 54] [1, 2] ⟨[(51, hh 0), (54, hh 1)], [ar 0 (.int .u8) y3 .dp, ar 0 (.int .i64) ([a0.2.2.1]) .dp]⟩ (tn 4) ?_
  have⟨y21,hy,h⟩:=aS h
  refine VO.ghl [.frz 0, .frz 1] <| cal false [.t (.sl (.int .u8)), .t (.sl (.int .i64))] [] (some 55) K (ok120 N _ _ hy) <| nN K (tn 1) ?_
  cases h; exact VW.ret (rt [])
 refine sRh K [1, 3, 56] [0, 1] [(1, .lf (.ptr 0 0 0 0)), (3, hh 1), (56, B (a0.1 == (6 : Int)))] (tn 2) ?_
 refine cnd h ?_ ?_<;>intro h
 ·refine sq ?_
  have⟨y22,hy22,h⟩:=aS h
  have⟨y23,hy23,h⟩:=aS h
  refine dr K [(3, .cl [] (some 61) [.lf (.v (.int .i64) y22)]), (7, .cl [1, 2] (some 65) [.lf (.v (.sl (.int .u8)) y23)])] [(3, 0), (7, 1)] [6, 7] [2] [] (tn 9) ⟨qC false [.t .bool] [] [] (some 61) K (ok121 N _ hy22), qC false [.t (.sl (.int .u8)), .t (.sl (.int .i64))] [] [1, 2] (some 65) K (ok120 N _ _ hy23), trivial⟩ ?_
  cases h; exact VW.ret (rt [])
 refine VW.skip <| nR K (tn 2) ?_
 cases h; exact VW.ret (rt [])
def F88_j0 (N : Nat) (x10 : Int) : Option (Int) :=
  some x10
def F88_l0_b (N : Nat) (a0 : (List Int)) (nx18 : Int → Int → Option (Int)) (x14 : Int) (x15 : Int) : Option (Int) :=
  cond (decide (x15 < (a0.length : Int))) (gd (InR x15 a0.length) (nx18 (Int.tmod (IntKind.i64.wrap ((IntKind.i64.wrap ((269 : Int) * x14)) + (IntKind.i64.wrap (a0.getD x15.toNat (Ty.dflt (.int .u8)))))) (999983 : Int)) (IntKind.i64.wrap (x15 + (1 : Int))))) (F88_j0 N x14)
def F88_l0 (N : Nat) (a0 : (List Int)) := loopF (F88_l0_b N a0) (fun _ _ => none)
theorem F88_l0_s N a0 {k} (hk : 0 < k) x14 x15 : F88_l0 N a0 k x14 x15 = F88_l0_b N a0 (F88_l0 N a0 (k - 1)) x14 x15 := by cases k;cases hk;rfl
def F88 (N : Nat) (a0 : (List Int)) : Option (Int) :=
  F88_l0 N a0 N (5 : Int) (0 : Int)
theorem ok88 N a0 {r} (h : F88 N a0 = some r) : Con prog 88 [Vv (.sl (.int .u8)) a0] [.lf (.v (.int .i64) r)] := by
 refine ctr [.lf (.v (.int .i64))] K func88 rfl fun w0 E0 ht => ?_
 unfold F88 at h
 show VW _ _ _ _ _ (retQ _ _ _ _) _
 refine nR K (tn 1) <| nR K (tn 1) ?_
 refine VW.join (fun s => ∃ x10, s = ⟨[(3, I x10)], []⟩ ∧ F88_j0 N x10 = some r) ?_ ?_
 ·refine nR K (tn 1) <| VW.block <| lop (fun k s => ∃ x14 x15, s = ⟨[(0, Vv (.sl (.int .u8)) a0), (3, I x14), (4, I x15)], []⟩ ∧ F88_l0 N a0 k x14 x15 = some r) N [.ren [0, 3, 4] []] ⟨(5 : Int), (0 : Int), rfl, h⟩ ?_
  rintro k18 s ⟨x14, x15, rfl, h⟩
  cases k18 with
  | zero => cases show none = some r from h
  | succ k18 =>
   replace h : F88_l0_b N a0 (F88_l0 N a0 k18) x14 x15 = some r := h
   unfold F88_l0_b at h
   refine sq <| nR K (tn 4) ?_
   refine cnd h ?_ ?_<;>intro h
   ·refine VW.skip <| sq <| VW.block ?_
    have⟨g20,h⟩:=gS h
    refine nE K (pu 4 (an g20 (pu 3 (an (show ((999983 : Int) ≠ 0) from by decide) (tn 1))))) <| nE K (tn 3) ?_
    exact aro [.ren [0, 3, 4] []] ⟨(Int.tmod (wr ((wr ((269 : Int) * x14)) + (wr (a0.getD x15.toNat (Ty.dflt (.int .u8)))))) (999983 : Int)), (wr (x15 + (1 : Int))), rfl, h⟩
   refine VW.exit ?_
   exact arv [.ren [3] []] ⟨x14, rfl, h⟩
 rintro s ⟨x10, rfl, h⟩
 unfold F88_j0 at h
 refine nR K (tn 2) ?_
 cases h; exact VW.ret (rt [])
def F82 (N : Nat) (a0 : (List Int)) : Option ((List Int) × Bool) :=
  cond (decide ((a0.length : Int) > (4000 : Int))) (some ([], false)) (gd (0 < ([(80 : Int), (83 : Int)]).length) (andO (F79 N (a0.length : Int)) fun y2 => andO (F80 N ([(80 : Int), (83 : Int)]) y2) fun y3 => andO (F80 N y3 a0) fun y4 => andO (F88 N a0) fun y5 => andO (F79 N y5) fun y6 => andO (F80 N y4 y6) fun y7 => some (y7, true)))
theorem ok82 N a0 {r} (h : F82 N a0 = some r) : Con prog 82 [Vv (.sl (.int .u8)) a0] [.lf (.own (.int .u8) r.1 .dp), .lf (.v .bool r.2)] := by
 refine ctr [.lf (.own (.int .u8) .dp), .lf (.v .bool)] K func82 rfl fun w0 E0 ht => ?_
 unfold F82 at h
 show VW _ _ _ _ _ (retQ _ _ _ _) _
 refine nR K (tn 2) <| sq <| nR K (tn 3) ?_
 refine cnd h ?_ ?_<;>intro h
 ·refine nR K (tn 2) ?_
  cases h; exact VW.ret (rt [none])
 refine VW.skip <| sq <| VW.region <| nG K 1 (tn 1) ?_
 have⟨g1,h⟩:=gS h
 refine VO.mark (d := 9) (φ := 0 < ([(80 : Int), (83 : Int)]).length) (v := Vv (.sl (.int .u8)) ([(80 : Int), (83 : Int)])) (H' := [none]) K (by kernel_rfl) g1 <| nG K 2 (tn 2) ?_
 have⟨y2,hy,h⟩:=aS h
 refine cal false [.t (.int .i64)] [] (some 12) K (ok79 N _ hy) ?_
 have⟨y3,hy,h⟩:=aS h
 refine cal true [.t (.sl (.int .u8)), .t (.sl (.int .u8))] [] (some 13) K (ok80 N _ _ hy) <| nN K (tn 1) <| sq <| VW.region <| nG K 2 (tn 2) ?_
 have⟨y4,hy,h⟩:=aS h
 refine cal true [.t (.sl (.int .u8)), .t (.sl (.int .u8))] [] (some 16) K (ok80 N _ _ hy) <| nG K 1 (tn 1) ?_
 have⟨y5,hy,h⟩:=aS h
 refine cal false [.t (.sl (.int .u8))] [] (some 18) K (ok88 N _ hy) ?_
 have⟨y6,hy,h⟩:=aS h
 refine cal false [.t (.int .i64)] [] (some 19) K (ok79 N _ hy) ?_
 have⟨y7,hy,h⟩:=aS h
 refine cal true [.t (.sl (.int .u8)), .t (.sl (.int .u8))] [] (some 20) K (ok80 N _ _ hy) <| nN K (tn 2) ?_
 cases h; exact VW.ret (rt [some 5])
def F42_j0 (N : Nat) (x25 : (List Int)) : Option ((List Int) × Bool) :=
  andO (F82 N x25) fun y26 => some (y26.1, y26.2)
def F42_l0_b (N : Nat) (a0 : (List Z76)) (nx42 : (List Int) → Int → Option ((List Int) × Bool)) (x34 : (List Int)) (x35 : Int) : Option ((List Int) × Bool) :=
  cond (decide (x35 < (a0.length : Int))) (gd (InR x35 a0.length) (andO (F81 N (a0.getD x35.toNat (Ty.dflt Y76))) fun y47 => andO (F80 N x34 y47) fun y48 => nx42 y48 (IntKind.i64.wrap (x35 + (1 : Int))))) (F42_j0 N x34)
def F42_l0 (N : Nat) (a0 : (List Z76)) := loopF (F42_l0_b N a0) (fun _ _ => none)
theorem F42_l0_s N a0 {k} (hk : 0 < k) x34 x35 : F42_l0 N a0 k x34 x35 = F42_l0_b N a0 (F42_l0 N a0 (k - 1)) x34 x35 := by cases k;cases hk;rfl
def F42 (N : Nat) (a0 : (List Z76)) : Option ((List Int) × Bool) :=
  andO (F67 N a0) fun y2 => cond (!y2) (some ([], false)) (andO (F79 N (a0.length : Int)) fun y3 => F42_l0 N a0 N y3 (0 : Int))
theorem ok42 N a0 {r} (h : F42 N a0 = some r) : Con prog 42 [Vv (.sl Y76) a0] [.lf (.own (.int .u8) r.1 .dp), .lf (.v .bool r.2)] := by
 refine ctr [.lf (.own (.int .u8) .dp), .lf (.v .bool)] K func42 rfl fun w0 E0 ht => ?_
 unfold F42 at h
 show VW _ _ _ _ _ (retQ _ _ _ _) _
 refine nR K (tn 2) <| sq <| sq <| VW.region <| nG K 1 (tn 1) ?_
 have⟨y2,hy,h⟩:=aS h
 refine cal false [.t (.sl Y76)] [] (some 7) K (ok67 N _ hy) <| nN K (tn 1) ?_
 refine cnd h ?_ ?_<;>intro h
 ·refine nR K (tn 2) ?_
  cases h; exact VW.ret (rt [none])
 refine VW.skip <| sq <| VW.region <| nG K 2 (tn 2) ?_
 have⟨y3,hy,h⟩:=aS h
 refine cal false [.t (.int .i64)] [] (some 11) K (ok79 N _ hy) <| nN K (tn 1) ?_
 refine VW.join (fun s => ∃ x25, s = ⟨[(4, hh 0)], [ar 0 (.int .u8) x25 .dp]⟩ ∧ F42_j0 N x25 = some r) ?_ ?_
 ·refine sRh K [0, 4, 5] [0] [(0, Vv (.sl Y76) a0), (4, hh 0), (5, I (0 : Int))] (tn 1) <| VW.block <| lop (fun k s => ∃ x34 x35, s = ⟨[(0, Vv (.sl Y76) a0), (4, hh 0), (5, I x35)], [ar 0 (.int .u8) x34 .dp]⟩ ∧ F42_l0 N a0 k x34 x35 = some r) N [.ren [0, 4, 5] [0]] ⟨y3, (0 : Int), rfl, h⟩ ?_
  rintro k42 s ⟨x34, x35, rfl, h⟩
  cases k42 with
  | zero => cases show none = some r from h
  | succ k42 =>
   replace h : F42_l0_b N a0 (F42_l0 N a0 k42) x34 x35 = some r := h
   unfold F42_l0_b at h
   refine sq <| nR K (tn 4) ?_
   refine cnd h ?_ ?_<;>intro h
   ·refine VW.skip <| sq <| VW.block <| VW.region ?_
    have⟨g46,h⟩:=gS h
    refine nG K 5 (pu 3 (an g46 (tn 1))) ?_
    have⟨y47,hy,h⟩:=aS h
    refine cal false [.t Y76] [] (some 23) K (ok81 N _ hy) ?_
    have⟨y48,hy,h⟩:=aS h
    refine cal true [.t (.sl (.int .u8)), .t (.sl (.int .u8))] [] (some 24) K (ok80 N _ _ hy) <| nN K (tn 1) <| nE K (tn 3) ?_
    exact aro [.ren [0, 4, 5] [1]] ⟨y48, (wr (x35 + (1 : Int))), rfl, h⟩
   refine VW.exit ?_
   exact arv [.ren [4] [0]] ⟨x34, rfl, h⟩
 rintro s ⟨x25, rfl, h⟩
 unfold F42_j0 at h
 refine sq <| VW.region <| nG K 1 (tn 1) ?_
 have⟨y26,hy,h⟩:=aS h
 refine cal true [.t (.sl (.int .u8))] [] (some 26) K (ok82 N _ hy) <| nN K (tn 4) ?_
 cases h; exact VW.ret (rt [some 1])
def F16_j0 (N : Nat) (x19 : Int) : Option (Int) :=
  some x19
def F16_l0_b (N : Nat) (nx33 : (List Int) → Int → Int → Option (Int)) (x26 : (List Int)) (x27 : Int) (x28 : Int) : Option (Int) :=
  cond (decide (x28 < (x26.length : Int))) (gd (InR x28 x26.length) (gd (x28.toNat < x26.length) (nx33 x26 (Int.tmod (IntKind.i64.wrap ((IntKind.i64.wrap ((31 : Int) * x27)) + (IntKind.i64.wrap (x26.getD x28.toNat (Ty.dflt (.int .u8)))))) (251 : Int)) (IntKind.i64.wrap (x28 + (1 : Int)))))) (F16_j0 N x27)
def F16_l0 (N : Nat) := loopF (F16_l0_b N) (fun _ _ _ => none)
theorem F16_l0_s N {k} (hk : 0 < k) x26 x27 x28 : F16_l0 N k x26 x27 x28 = F16_l0_b N (F16_l0 N (k - 1)) x26 x27 x28 := by cases k;cases hk;rfl
def F16 (N : Nat) (a0 : (List Z76)) : Option (Int) :=
  andO (F42 N a0) fun y1 => cond (!y1.2) (some (-1 : Int)) (F16_l0 N N y1.1 (97 : Int) (0 : Int))
theorem ok16 N a0 {r} (h : F16 N a0 = some r) : Con prog 16 [Vv (.sl Y76) a0] [.lf (.v (.int .i64) r)] := by
 refine ctr [.lf (.v (.int .i64))] K func16 rfl fun w0 E0 ht => ?_
 unfold F16 at h
 show VW _ _ _ _ _ (retQ _ _ _ _) _
 refine nR K (tn 1) <| sq <| VW.region <| nG K 1 (tn 1) ?_
 have⟨y1,hy,h⟩:=aS h
 refine cal false [.t (.sl Y76)] [] (some 9) K (ok42 N _ hy) <| nN K (tn 5) <| sq <| nR K (tn 2) ?_
 refine cnd h ?_ ?_<;>intro h
 ·refine nR K (tn 1) ?_
  cases h; exact VW.ret (rt [])
 refine VW.skip <| nR K (tn 1) ?_
 refine VW.join (fun s => ∃ x19, s = ⟨[(5, I x19)], []⟩ ∧ F16_j0 N x19 = some r) ?_ ?_
 ·refine sRh K [3, 5, 6] [0] [(3, hh 0), (5, I (97 : Int)), (6, I (0 : Int))] (tn 1) <| VW.block <| lop (fun k s => ∃ x26 x27 x28, s = ⟨[(3, hh 0), (5, I x27), (6, I x28)], [ar 0 (.int .u8) x26 .dp]⟩ ∧ F16_l0 N k x26 x27 x28 = some r) N [.ren [3, 5, 6] [0]] ⟨y1.1, (97 : Int), (0 : Int), rfl, h⟩ ?_
  rintro k33 s ⟨x26, x27, x28, rfl, h⟩
  cases k33 with
  | zero => cases show none = some r from h
  | succ k33 =>
   replace h : F16_l0_b N (F16_l0 N k33) x26 x27 x28 = some r := h
   unfold F16_l0_b at h
   refine sq <| nR K (tn 4) ?_
   refine cnd h ?_ ?_<;>intro h
   ·refine VW.skip <| sq <| VW.block ?_
    have⟨g36,h⟩:=gS h
    have⟨g37,h⟩:=gS h
    refine nE K (pu 4 (an g36 (an g37 (pu 2 (an (show ((251 : Int) ≠ 0) from by decide) (tn 1)))))) <| nE K (tn 3) ?_
    exact aro [.ren [3, 5, 6] [0]] ⟨x26, (Int.tmod (wr ((wr ((31 : Int) * x27)) + (wr (x26.getD x28.toNat (Ty.dflt (.int .u8)))))) (251 : Int)), (wr (x28 + (1 : Int))), rfl, h⟩
   refine VW.exit ?_
   exact arv [.ren [5] []] ⟨x27, rfl, h⟩
 rintro s ⟨x19, rfl, h⟩
 unfold F16_j0 at h
 refine nR K (tn 2) ?_
 cases h; exact VW.ret (rt [])
def F101_j0 (N : Nat) (x24 : (List Int)) : Option ((List Int)) :=
  some x24
def F101_l0_b (N : Nat) (a0 : (List Int)) (nx41 : (List Int) → Int → Option ((List Int))) (x33 : (List Int)) (x34 : Int) : Option ((List Int)) :=
  cond (decide (x34 < (a0.length : Int))) (gd (InR x34 a0.length) (gd (InR x34 x33.length) (gd (x34.toNat < x33.length) (nx41 (x33.set x34.toNat (a0.getD x34.toNat (Ty.dflt (.int .i64)))) (IntKind.i64.wrap (x34 + (1 : Int))))))) (F101_j0 N x33)
def F101_l0 (N : Nat) (a0 : (List Int)) := loopF (F101_l0_b N a0) (fun _ _ => none)
theorem F101_l0_s N a0 {k} (hk : 0 < k) x33 x34 : F101_l0 N a0 k x33 x34 = F101_l0_b N a0 (F101_l0 N a0 (k - 1)) x33 x34 := by cases k;cases hk;rfl
def F101 (N : Nat) (a0 : (List Int)) : Option ((List Int)) :=
  gd (0 ≤ (a0.length : Int) ∧ (a0.length : Int) ≤ (lim (.int .i64) : Int) ∧ (a0.length : Int) = (a0.length : Int)) (F101_l0 N a0 N (List.replicate (a0.length : Int).toNat (Ty.dflt (.int .i64))) (0 : Int))
theorem ok101 N a0 {r} (h : F101 N a0 = some r) : Con prog 101 [Vv (.sl (.int .i64)) a0] [.lf (.own (.int .i64) r .dp)] := by
 refine ctr [.lf (.own (.int .i64) .dp)] K func101 rfl fun w0 E0 ht => ?_
 unfold F101 at h
 show VW _ _ _ _ _ (retQ _ _ _ _) _
 refine nR K (tn 1) ?_
 have⟨g1,h⟩:=gS h
 refine nR K (pu 2 (an g1 (tn 1))) ?_
 refine VW.join (fun s => ∃ x24, s = ⟨[(3, hh 0)], [ar 0 (.int .i64) x24 .dp]⟩ ∧ F101_j0 N x24 = some r) ?_ ?_
 ·refine nR K (tn 1) <| VW.block <| lop (fun k s => ∃ x33 x34, s = ⟨[(0, Vv (.sl (.int .i64)) a0), (3, hh 0), (4, I x34)], [ar 0 (.int .i64) x33 .dp]⟩ ∧ F101_l0 N a0 k x33 x34 = some r) N [.ren [0, 3, 4] [0]] ⟨(List.replicate (a0.length : Int).toNat (Ty.dflt (.int .i64))), (0 : Int), rfl, h⟩ ?_
  rintro k41 s ⟨x33, x34, rfl, h⟩
  cases k41 with
  | zero => cases show none = some r from h
  | succ k41 =>
   replace h : F101_l0_b N a0 (F101_l0 N a0 k41) x33 x34 = some r := h
   unfold F101_l0_b at h
   refine sq <| nR K (tn 4) ?_
   refine cnd h ?_ ?_<;>intro h
   ·refine VW.skip <| sq <| VW.block ?_
    have⟨g45,h⟩:=gS h
    have⟨g46,h⟩:=gS h
    have⟨g47,h⟩:=gS h
    refine nE K (pu 4 (an g45 (pu 1 (an g46 (an g47 (tn 0)))))) <| nE K (tn 3) ?_
    exact aro [.ren [0, 3, 4] [0]] ⟨(x33.set x34.toNat (a0.getD x34.toNat (Ty.dflt (.int .i64)))), (wr (x34 + (1 : Int))), rfl, h⟩
   refine VW.exit ?_
   exact arv [.ren [3] [0]] ⟨x33, rfl, h⟩
 rintro s ⟨x24, rfl, h⟩
 unfold F101_j0 at h
 refine nR K (tn 2) ?_
 cases h; exact VW.ret (rt [some 0])
def F57 (N : Nat) (a0 : Z76) : Option (Z76) :=
  andO (F101 N a0.2.2.2.2.2.2) fun y1 => some (a0.1, (a0.2.1, (a0.2.2.1, (a0.2.2.2.1, (a0.2.2.2.2.1, (a0.2.2.2.2.2.1, y1))))))
theorem ok57 N a0 {r} (h : F57 N a0 = some r) : Con prog 57 [.agg (lv Y76 a0)] [.agg [.v (.int .i64) r.1, .v .str r.2.1, .v (.int .i64) r.2.2.1, .v (.int .i64) r.2.2.2.1, .v (.int .i64) r.2.2.2.2.1, .v .bool r.2.2.2.2.2.1, .own (.int .i64) r.2.2.2.2.2.2 .dp]] := by
 refine ctr [.agg [.v (.int .i64), .v .str, .v (.int .i64), .v (.int .i64), .v (.int .i64), .v .bool, .own (.int .i64) .dp]] K func57 rfl fun w0 E0 ht => ?_
 unfold F57 at h
 show VW _ _ _ _ _ (retQ _ _ _ _) _
 refine nR K (tn 2) <| nR K (tn 1) <| nR K (tn 4) <| nR K (tn 4) <| nR K (tn 4) <| sR K [1, 2, 3] [0, 1, 2] ⟨[(1, .lf (.ptr 0 0 0 0)), (2, .lf (.ptr 1 0 0 0)), (3, .lf (.ptr 2 0 0 0))], [bx (lv Y76 a0) 77, bx [zi (0 : Int), zs ByteArray.empty, zi (0 : Int), zi (0 : Int), zi (0 : Int), zb false, .nil] 78, bx [zi a0.1, zs a0.2.1, zi a0.2.2.1, zi a0.2.2.2.1, zi (0 : Int), zb false, .nil] 78]⟩ (tn 4) ?_
 refine nR K (tn 4) <| nR K (tn 4) <| sq <| VW.region <| nG K 2 (tn 2) ?_
 have⟨y1,hy,h⟩:=aS h
 refine cal false [.t (.sl (.int .i64))] [] (some 24) K (ok101 N _ hy) <| nN K (tn 2) <| nR K (tn 2) ?_
 cases h; exact VW.ret (rt [some 3])
def F17_j0 (N : Nat) (x30 : (List Z76)) : Option ((List Z76)) :=
  some x30
def F17_l0_b (N : Nat) (a0 : (List Z76)) (nx51 : (List Z76) → Int → Option ((List Z76))) (x41 : (List Z76)) (x42 : Int) : Option ((List Z76)) :=
  cond (decide (x42 < (a0.length : Int))) (gd (InR x42 a0.length) (andO (F57 N (a0.getD x42.toNat (Ty.dflt Y76))) fun y57 => gd (InR x42 x41.length) (gd (x42.toNat < x41.length) (nx51 (x41.set x42.toNat y57) (IntKind.i64.wrap (x42 + (1 : Int))))))) (F17_j0 N x41)
def F17_l0 (N : Nat) (a0 : (List Z76)) := loopF (F17_l0_b N a0) (fun _ _ => none)
theorem F17_l0_s N a0 {k} (hk : 0 < k) x41 x42 : F17_l0 N a0 k x41 x42 = F17_l0_b N a0 (F17_l0 N a0 (k - 1)) x41 x42 := by cases k;cases hk;rfl
def F17 (N : Nat) (a0 : (List Z76)) : Option ((List Z76)) :=
  gd (0 ≤ (a0.length : Int) ∧ (a0.length : Int) ≤ (lim Y76 : Int) ∧ (a0.length : Int) = (a0.length : Int)) (F17_l0 N a0 N (List.replicate (a0.length : Int).toNat (Ty.dflt Y76)) (0 : Int))
theorem ok17 N a0 {r} (h : F17 N a0 = some r) : Con prog 17 [Vv (.sl Y76) a0] [.lf (.own Y76 r .dp)] := by
 refine ctr [.lf (.own Y76 .dp)] K func17 rfl fun w0 E0 ht => ?_
 unfold F17 at h
 show VW _ _ _ _ _ (retQ _ _ _ _) _
 refine nR K (tn 1) ?_
 have⟨g1,h⟩:=gS h
 refine nR K (pu 2 (an g1 (tn 1))) ?_
 refine VW.join (fun s => ∃ x30, s = ⟨[(3, hh 0)], [ar 0 Y76 x30 .dp]⟩ ∧ F17_j0 N x30 = some r) ?_ ?_
 ·refine nR K (tn 1) <| VW.block <| lop (fun k s => ∃ x41 x42, s = ⟨[(0, Vv (.sl Y76) a0), (3, hh 0), (4, I x42)], [ar 0 Y76 x41 .dp]⟩ ∧ F17_l0 N a0 k x41 x42 = some r) N [.ren [0, 3, 4] [0]] ⟨(List.replicate (a0.length : Int).toNat D76), (0 : Int), rfl, h⟩ ?_
  rintro k51 s ⟨x41, x42, rfl, h⟩
  cases k51 with
  | zero => cases show none = some r from h
  | succ k51 =>
   replace h : F17_l0_b N a0 (F17_l0 N a0 k51) x41 x42 = some r := h
   unfold F17_l0_b at h
   refine sq <| nR K (tn 4) ?_
   refine cnd h ?_ ?_<;>intro h
   ·refine VW.skip <| sq <| VW.block <| VW.region ?_
    have⟨g56,h⟩:=gS h
    refine nG K 6 (pu 4 (an g56 (tn 1))) ?_
    have⟨y57,hy,h⟩:=aS h
    refine cal false [.t Y76] [] (some 20) K (ok57 N _ hy) ?_
    have⟨g58,h⟩:=gS h
    refine nG K 1 (an g58 (tn 0)) ?_
    have⟨g59,h⟩:=gS h
    refine VO.storeA (φ := x42.toNat < x41.length) (H' := [ar 0 Y76 (x41.set x42.toNat y57) .dp, none]) K (by kernel_rfl) g59 <| sN K [0, 3, 4] [0] ⟨[(0, Vv (.sl Y76) a0), (3, hh 0), (4, I x42)], [ar 0 Y76 (x41.set x42.toNat y57) .dp]⟩ (tn 0) <| nE K (tn 3) ?_
    exact aro [.ren [0, 3, 4] [0]] ⟨(x41.set x42.toNat y57), (wr (x42 + (1 : Int))), rfl, h⟩
   refine VW.exit ?_
   exact arv [.ren [3] [0]] ⟨x41, rfl, h⟩
 rintro s ⟨x30, rfl, h⟩
 unfold F17_j0 at h
 refine nR K (tn 2) ?_
 cases h; exact VW.ret (rt [some 0])
def F91 (N : Nat) (a0 : Int) (a1 : Int) (a2 : Int) : Option (Bool) :=
  cond (decide (a0 ≥ a1)) (some (decide (a0 ≤ a2))) (some false)
theorem ok91 N a0 a1 a2 {r} (h : F91 N a0 a1 a2 = some r) : Con prog 91 [I a0, I a1, I a2] [.lf (.v .bool r)] := by
 refine ctr [.lf (.v .bool)] K func91 rfl fun w0 E0 ht => ?_
 unfold F91 at h
 show VW _ _ _ _ _ (retQ _ _ _ _) _
 refine nR K (tn 1) <| sq <| VW.region <| nG K 4 (tn 4) ?_
 refine spB 10 h ?_ ?_<;>intro h
 ·refine nN K (tn 5) ?_
  cases h; exact VW.ret (rt [])
 refine nN K (tn 5) ?_
 cases h; exact VW.ret (rt [])
def F153_j0 (N : Nat) (x6 : Bool) : Option (Int) :=
  cond x6 (some (1 : Int)) (some (-1 : Int))
def F153_j1 (N : Nat) (a0 : Int) (x5 : Bool) : Option (Int) :=
  cond x5 (some (2 : Int)) (cond (a0 == (1 : Int)) (F153_j0 N (a0 == (1 : Int))) (cond (a0 == (2 : Int)) (F153_j0 N (a0 == (2 : Int))) (cond (a0 == (5 : Int)) (F153_j0 N (a0 == (5 : Int))) (cond (a0 == (6 : Int)) (F153_j0 N (a0 == (6 : Int))) (F153_j0 N (a0 == (7 : Int)))))))
def F153 (N : Nat) (a0 : Int) : Option (Int) :=
  cond (a0 == (0 : Int)) (some (0 : Int)) (cond (a0 == (3 : Int)) (F153_j1 N a0 (a0 == (3 : Int))) (F153_j1 N a0 (a0 == (4 : Int))))
theorem ok153 N a0 {r} (h : F153 N a0 = some r) : Con prog 153 [I a0] [.lf (.v (.int .i64) r)] := by
 refine ctr [.lf (.v (.int .i64))] K func153 rfl fun w0 E0 ht => ?_
 unfold F153 at h
 show VW _ _ _ _ _ (retQ _ _ _ _) _
 refine nR K (tn 1) <| sq <| nR K (tn 1) <| VW.block <| nR K (tn 2) ?_
 refine cnd h ?_ ?_<;>intro h
 ·refine nR K (tn 1) ?_
  cases h; exact VW.ret (rt [])
 refine VW.join (fun s => ∃ x5, s = ⟨[(3, I a0), (6, B x5)], []⟩ ∧ F153_j1 N a0 x5 = some r) ?_ ?_
 ·refine nR K (tn 2) ?_
  refine cnd h ?_ ?_<;>intro h
  ·refine VW.skip ?_
   exact arv [.ren [3, 6] []] ⟨(a0 == (3 : Int)), rfl, h⟩
  refine nE K (tn 2) ?_
  exact arv [.ren [3, 6] []] ⟨(a0 == (4 : Int)), rfl, h⟩
 rintro s ⟨x5, rfl, h⟩
 unfold F153_j1 at h
 refine cnd h ?_ ?_<;>intro h
 ·refine nR K (tn 1) ?_
  cases h; exact VW.ret (rt [])
 refine VW.join (fun s => ∃ x6, s = ⟨[(9, B x6)], []⟩ ∧ F153_j0 N x6 = some r) ?_ ?_
 ·refine nR K (tn 2) ?_
  refine cnd h ?_ ?_<;>intro h
  ·refine VW.skip ?_
   exact arv [.ren [9] []] ⟨(a0 == (1 : Int)), rfl, h⟩
  refine nR K (tn 2) ?_
  refine cnd h ?_ ?_<;>intro h
  ·refine VW.skip ?_
   exact arv [.ren [9] []] ⟨(a0 == (2 : Int)), rfl, h⟩
  refine nR K (tn 2) ?_
  refine cnd h ?_ ?_<;>intro h
  ·refine VW.skip ?_
   exact arv [.ren [9] []] ⟨(a0 == (5 : Int)), rfl, h⟩
  refine nR K (tn 2) ?_
  refine cnd h ?_ ?_<;>intro h
  ·refine VW.skip ?_
   exact arv [.ren [9] []] ⟨(a0 == (6 : Int)), rfl, h⟩
  refine nE K (tn 2) ?_
  exact arv [.ren [9] []] ⟨(a0 == (7 : Int)), rfl, h⟩
 rintro s ⟨x6, rfl, h⟩
 unfold F153_j0 at h
 refine cnd h ?_ ?_<;>intro h
 ·refine nR K (tn 1) ?_
  cases h; exact VW.ret (rt [])
 refine VW.skip <| nR K (tn 1) ?_
 cases h; exact VW.ret (rt [])
def F113_j0 (N : Nat) (x13 : Int) : Option (Int) :=
  some x13
def F113_l0_b (N : Nat) (a0 : (List Z76)) (a2 : Int) (self : (List Z76) → Int → Int → Option (Int)) (y16 : Int) (nx24 : Int → Int → Option (Int)) (x20 : Int) (x21 : Int) : Option (Int) :=
  cond (decide (x21 < y16)) (andO (self a0 x20 (IntKind.i64.wrap (a2 + (1 : Int)))) fun y26 => cond (decide (y26 < (0 : Int))) (some (-1 : Int)) (nx24 y26 (IntKind.i64.wrap (x21 + (1 : Int))))) (F113_j0 N x20)
def F113_l0 (N : Nat) (a0 : (List Z76)) (a2 : Int) (self : (List Z76) → Int → Int → Option (Int)) (y16 : Int) := loopF (F113_l0_b N a0 a2 self y16) (fun _ _ => none)
theorem F113_l0_s N a0 a2 (self : (List Z76) → Int → Int → Option (Int)) y16 {k} (hk : 0 < k) x20 x21 : F113_l0 N a0 a2 self y16 k x20 x21 = F113_l0_b N a0 a2 self y16 (F113_l0 N a0 a2 self y16 (k - 1)) x20 x21 := by cases k;cases hk;rfl
def F113_b (N : Nat) (self : (List Z76) → Int → Int → Option (Int)) (a0 : (List Z76)) (a1 : Int) (a2 : Int) : Option (Int) :=
  cond (decide (a1 ≥ (a0.length : Int))) (some (-1 : Int)) (cond (decide (a2 > (10 : Int))) (some (-1 : Int)) (gd (InR a1 a0.length) (andO (F153 N ((a0.getD a1.toNat (Ty.dflt Y76)).1)) fun y16 => F113_l0 N a0 a2 self y16 N (IntKind.i64.wrap (a1 + (1 : Int))) (0 : Int))))
theorem ok113_b (N : Nat) (self : (List Z76) → Int → Int → Option (Int)) (ih : ∀ (a0 : (List Z76)) (a1 : Int) (a2 : Int) (r : Int), self a0 a1 a2 = some r → Con prog 113 [Vv (.sl Y76) a0, I a1, I a2] [.lf (.v (.int .i64) r)]) (a0 : (List Z76)) (a1 : Int) (a2 : Int) {r : Int} (h : F113_b N self a0 a1 a2 = some r) : Con prog 113 [Vv (.sl Y76) a0, I a1, I a2] [.lf (.v (.int .i64) r)] := by
 refine ctr [.lf (.v (.int .i64))] K func113 rfl fun w0 E0 ht => ?_
 unfold F113_b at h
 show VW _ _ _ _ _ (retQ _ _ _ _) _
 refine nR K (tn 1) <| sq <| sq <| VW.region <| nG K 5 (tn 5) ?_
 refine spB 12 h ?_ ?_<;>intro h
 ·refine nN K (tn 3) ?_
  refine VW.cond (b := true) (by kernel_rfl) (fun _ => ?_) (fun h' => nomatch h')
  refine nR K (tn 1) ?_
  cases h; exact VW.ret (rt [])
 refine nN K (tn 3) ?_
 refine cnd h ?_ ?_<;>intro h
 ·refine nR K (tn 1) ?_
  cases h; exact VW.ret (rt [])
 refine VW.skip <| nR K (tn 3) ?_
 refine VW.join (fun s => ∃ x13, s = ⟨[(7, I x13)], []⟩ ∧ F113_j0 N x13 = some r) ?_ ?_
 ·refine sq <| VW.region ?_
  have⟨g15,h⟩:=gS h
  refine nG K 5 (pu 2 (an g15 (tn 2))) ?_
  have⟨y16,hy,h⟩:=aS h
  refine cal false [.t (.int .i64)] [] (some 23) K (ok153 N _ hy) <| sN K [0, 2, 7, 23, 24] [] ⟨[(0, Vv (.sl Y76) a0), (2, I a2), (7, I (wr (a1 + (1 : Int)))), (23, I y16), (24, I (0 : Int))], []⟩ (tn 1) <| VW.block <| lop (fun k s => ∃ x20 x21, s = ⟨[(0, Vv (.sl Y76) a0), (2, I a2), (7, I x20), (23, I y16), (24, I x21)], []⟩ ∧ F113_l0 N a0 a2 self y16 k x20 x21 = some r) N [.ren [0, 2, 7, 23, 24] []] ⟨(wr (a1 + (1 : Int))), (0 : Int), rfl, h⟩ ?_
  rintro k24 s ⟨x20, x21, rfl, h⟩
  cases k24 with
  | zero => cases show none = some r from h
  | succ k24 =>
   replace h : F113_l0_b N a0 a2 self y16 (F113_l0 N a0 a2 self y16 k24) x20 x21 = some r := h
   unfold F113_l0_b at h
   refine nR K (tn 1) <| sq ?_
   refine cnd h ?_ ?_<;>intro h
   ·refine VW.skip <| sq <| VW.block <| sq <| VW.region <| nG K 4 (tn 4) ?_
    have⟨y26,hy,h⟩:=aS h
    refine cal false [.t (.sl Y76), .t (.int .i64), .t (.int .i64)] [] (some 30) K (ih _ _ _ _ hy) <| nN K (tn 1) <| nR K (tn 2) ?_
    refine cnd h ?_ ?_<;>intro h
    ·refine nR K (tn 1) ?_
     cases h; exact VW.ret (rt [])
    refine VW.skip <| nE K (tn 2) ?_
    exact aro [.ren [0, 2, 7, 23, 24] []] ⟨y26, (wr (x21 + (1 : Int))), rfl, h⟩
   refine VW.exit ?_
   exact arv [.ren [7] []] ⟨x20, rfl, h⟩
 rintro s ⟨x13, rfl, h⟩
 unfold F113_j0 at h
 refine nR K (tn 2) ?_
 cases h; exact VW.ret (rt [])
def F113_r (N : Nat) := loopF (F113_b N) (fun _ _ _ => none)
theorem F113_s N {k} (hk : 0 < k) a0 a1 a2 : F113_r N k a0 a1 a2 = F113_b N (F113_r N (k - 1)) a0 a1 a2 := by cases k;cases hk;rfl
def F113 (N : Nat) : (List Z76) → Int → Int → Option (Int) := F113_r N N
theorem ok113_k (N : Nat) : ∀ (k : Nat) (a0 : (List Z76)) (a1 : Int) (a2 : Int) (r : Int), loopF (F113_b N) (fun _ _ _ => none) k a0 a1 a2 = some r → Con prog 113 [Vv (.sl Y76) a0, I a1, I a2] [.lf (.v (.int .i64) r)]
 | 0, a0, a1, a2, r, h => nomatch (show (none : Option (Int)) = some r from h)
 | k + 1, a0, a1, a2, r, h => ok113_b N _ (ok113_k N k) a0 a1 a2 h
theorem ok113 N a0 a1 a2 {r} (h : F113 N a0 a1 a2 = some r) : Con prog 113 [Vv (.sl Y76) a0, I a1, I a2] [.lf (.v (.int .i64) r)] := ok113_k N N a0 a1 a2 r h
def F158_j0 (N : Nat) : Option (Int) :=
  some (-1 : Int)
def F158_l0_b (N : Nat) (a0 : (List Z76)) (p1 : Z76 → Option (Bool)) (nx29 : Int → Int → Option (Int)) (x23 : Int) (x24 : Int) : Option (Int) :=
  cond (decide (x24 < x23)) (gd (InR x24 a0.length) (andO (p1 (a0.getD x24.toNat (Ty.dflt Y76))) fun y33 => cond y33 (some x24) (nx29 x23 (IntKind.i64.wrap (x24 + (1 : Int)))))) (F158_j0 N)
def F158_l0 (N : Nat) (a0 : (List Z76)) (p1 : Z76 → Option (Bool)) := loopF (F158_l0_b N a0 p1) (fun _ _ => none)
theorem F158_l0_s N a0 (p1 : Z76 → Option (Bool)) {k} (hk : 0 < k) x23 x24 : F158_l0 N a0 p1 k x23 x24 = F158_l0_b N a0 p1 (F158_l0 N a0 p1 (k - 1)) x23 x24 := by cases k;cases hk;rfl
def F158 (N : Nat) (a0 : (List Z76)) (p1 : Z76 → Option (Bool)) : Option (Int) :=
  F158_l0 N a0 p1 N (a0.length : Int) (0 : Int)
theorem ok158 N a0 (g1 : FuncId) (p1 : Z76 → Option (Bool)) (hp1 : ∀ (z0 : Z76) (r : Bool), p1 z0 = some r → Con prog g1 [.agg (lv Y76 z0)] [.lf (.v .bool r)]) {r} (h : F158 N a0 p1 = some r) : Con prog 158 [Vv (.sl Y76) a0, .clo g1 []] [.lf (.v (.int .i64) r)] := by
 refine ctr [.lf (.v (.int .i64))] K func158 rfl fun w0 E0 ht => ?_
 unfold F158 at h
 show VW _ _ _ _ _ (retQ _ _ _ _) _
 refine nR K (tn 1) ?_
 refine VW.join (fun s => s = ⟨[], []⟩ ∧ F158_j0 N = some r) ?_ ?_
 ·refine nR K (tn 3) <| VW.block <| lop (fun k s => ∃ x23 x24, s = ⟨[(0, Vv (.sl Y76) a0), (1, .clo g1 []), (7, I x23), (8, I x24)], []⟩ ∧ F158_l0 N a0 p1 k x23 x24 = some r) N [.ren [0, 1, 7, 8] []] ⟨(a0.length : Int), (0 : Int), rfl, h⟩ ?_
  rintro k29 s ⟨x23, x24, rfl, h⟩
  cases k29 with
  | zero => cases show none = some r from h
  | succ k29 =>
   replace h : F158_l0_b N a0 p1 (F158_l0 N a0 p1 k29) x23 x24 = some r := h
   unfold F158_l0_b at h
   refine nR K (tn 1) <| sq ?_
   refine cnd h ?_ ?_<;>intro h
   ·refine VW.skip <| sq <| VW.block <| nR K (tn 2) <| sq <| VW.region ?_
    have⟨g32,h⟩:=gS h
    refine nG K 5 (pu 3 (an g32 (tn 1))) ?_
    have⟨y33,hy,h⟩:=aS h
    refine cal false [.t Y76] [] (some 16) K (hp1 _ _ hy) <| nN K (tn 0) ?_
    refine cnd h ?_ ?_<;>intro h
    ·refine nR K (tn 2) ?_
     cases h; exact VW.ret (rt [])
    refine VW.skip <| nE K (tn 2) ?_
    exact aro [.ren [0, 1, 7, 8] []] ⟨x23, (wr (x24 + (1 : Int))), rfl, h⟩
   refine VW.exit ?_
   exact arv [.ren [] []] ⟨rfl, h⟩
 rintro s ⟨rfl, h⟩
 unfold F158_j0 at h
 refine nR K (tn 1) ?_
 cases h; exact VW.ret (rt [])
def F123 (N : Nat) (a0 : (List Z76)) (p1 : Z76 → Option (Bool)) : Option (Bool) :=
  andO (F158 N a0 p1) fun y1 => some (decide (y1 ≥ (0 : Int)))
theorem ok123 N a0 (g1 : FuncId) (p1 : Z76 → Option (Bool)) (hp1 : ∀ (z0 : Z76) (r : Bool), p1 z0 = some r → Con prog g1 [.agg (lv Y76 z0)] [.lf (.v .bool r)]) {r} (h : F123 N a0 p1 = some r) : Con prog 123 [Vv (.sl Y76) a0, .clo g1 []] [.lf (.v .bool r)] := by
 refine ctr [.lf (.v .bool)] K func123 rfl fun w0 E0 ht => ?_
 unfold F123 at h
 show VW _ _ _ _ _ (retQ _ _ _ _) _
 refine nR K (tn 1) <| sq <| VW.region <| nG K 2 (tn 2) ?_
 have⟨y1,hy,h⟩:=aS h
 refine cal false [.t (.sl Y76), .clo []] [] (some 7) K (ok158 N _ g1  p1 hp1 hy) <| nN K (tn 2) ?_
 cases h; exact VW.ret (rt [])
def F138_j0 (N : Nat) : Option (Bool) :=
  some true
def F138_l0_b (N : Nat) (a0 : (List Int)) (a1 : (List Int)) (nx29 : Int → Int → Option (Bool)) (x23 : Int) (x24 : Int) : Option (Bool) :=
  cond (decide (x24 < x23)) (gd (InR x24 a0.length) (gd (InR x24 a1.length) (cond ((a0.getD x24.toNat (Ty.dflt (.int .i64))) != (a1.getD x24.toNat (Ty.dflt (.int .i64)))) (some false) (nx29 x23 (IntKind.i64.wrap (x24 + (1 : Int))))))) (F138_j0 N)
def F138_l0 (N : Nat) (a0 : (List Int)) (a1 : (List Int)) := loopF (F138_l0_b N a0 a1) (fun _ _ => none)
theorem F138_l0_s N a0 a1 {k} (hk : 0 < k) x23 x24 : F138_l0 N a0 a1 k x23 x24 = F138_l0_b N a0 a1 (F138_l0 N a0 a1 (k - 1)) x23 x24 := by cases k;cases hk;rfl
def F138 (N : Nat) (a0 : (List Int)) (a1 : (List Int)) : Option (Bool) :=
  cond ((a0.length : Int) != (a1.length : Int)) (some false) (F138_l0 N a0 a1 N (a0.length : Int) (0 : Int))
theorem ok138 N a0 a1 {r} (h : F138 N a0 a1 = some r) : Con prog 138 [Vv (.sl (.int .i64)) a0, Vv (.sl (.int .i64)) a1] [.lf (.v .bool r)] := by
 refine ctr [.lf (.v .bool)] K func138 rfl fun w0 E0 ht => ?_
 unfold F138 at h
 show VW _ _ _ _ _ (retQ _ _ _ _) _
 refine nR K (tn 1) <| sq <| nR K (tn 5) ?_
 refine cnd h ?_ ?_<;>intro h
 ·refine nR K (tn 1) ?_
  cases h; exact VW.ret (rt [])
 refine VW.skip ?_
 refine VW.join (fun s => s = ⟨[], []⟩ ∧ F138_j0 N = some r) ?_ ?_
 ·refine nR K (tn 3) <| VW.block <| lop (fun k s => ∃ x23 x24, s = ⟨[(0, Vv (.sl (.int .i64)) a0), (1, Vv (.sl (.int .i64)) a1), (12, I x23), (13, I x24)], []⟩ ∧ F138_l0 N a0 a1 k x23 x24 = some r) N [.ren [0, 1, 12, 13] []] ⟨(a0.length : Int), (0 : Int), rfl, h⟩ ?_
  rintro k29 s ⟨x23, x24, rfl, h⟩
  cases k29 with
  | zero => cases show none = some r from h
  | succ k29 =>
   replace h : F138_l0_b N a0 a1 (F138_l0 N a0 a1 k29) x23 x24 = some r := h
   unfold F138_l0_b at h
   refine nR K (tn 1) <| sq ?_
   refine cnd h ?_ ?_<;>intro h
   ·refine VW.skip <| sq <| VW.block <| nR K (tn 2) <| sq ?_
    have⟨g32,h⟩:=gS h
    have⟨g33,h⟩:=gS h
    refine dr K [] [] [] [0, 1, 12, 13, 24] [] (pu 2 (an g32 (pu 3 (an g33 (tn 2))))) trivial ?_
    refine cnd h ?_ ?_<;>intro h
    ·refine nR K (tn 1) ?_
     cases h; exact VW.ret (rt [])
    refine VW.skip <| nE K (tn 2) ?_
    exact aro [.ren [0, 1, 12, 13] []] ⟨x23, (wr (x24 + (1 : Int))), rfl, h⟩
   refine VW.exit ?_
   exact arv [.ren [] []] ⟨rfl, h⟩
 rintro s ⟨rfl, h⟩
 unfold F138_j0 at h
 refine nR K (tn 1) ?_
 cases h; exact VW.ret (rt [])
def F94 (N : Nat) (a0 : Z76) (a1 : Z76) : Option (Bool) :=
  cond (a0.1 == a1.1) (cond (a0.2.1.toList == a1.2.1.toList) (cond (a0.2.2.1 == a1.2.2.1) (cond (a0.2.2.2.1 == a1.2.2.2.1) (cond (a0.2.2.2.2.1 == a1.2.2.2.2.1) (cond (a0.2.2.2.2.2.1 == a1.2.2.2.2.2.1) (andO (F138 N a0.2.2.2.2.2.2 a1.2.2.2.2.2.2) fun y1 => some y1) (some false)) (some false)) (some false)) (some false)) (some false)) (some false)
theorem ok94 N a0 a1 {r} (h : F94 N a0 a1 = some r) : Con prog 94 [.agg (lv Y76 a0), .agg (lv Y76 a1)] [.lf (.v .bool r)] := by
 refine ctr [.lf (.v .bool)] K func94 rfl fun w0 E0 ht => ?_
 unfold F94 at h
 show VW _ _ _ _ _ (retQ _ _ _ _) _
 refine nR K (tn 3) <| sq <| VW.region <| nG K 6 (tn 6) ?_
 refine spB 10 h ?_ ?_<;>intro h
 ·refine nG K 7 (tn 7) ?_
  refine spB 17 h ?_ ?_<;>intro h
  ·refine nG K 7 (tn 7) ?_
   refine spB 24 h ?_ ?_<;>intro h
   ·refine nG K 7 (tn 7) ?_
    refine spB 31 h ?_ ?_<;>intro h
    ·refine sGh K 7 [2, 3, 38] [0, 1] [(2, .lf (.ptr 0 0 0 0)), (3, .lf (.ptr 1 0 0 0)), (38, B (a0.2.2.2.2.1 == a1.2.2.2.2.1))] (tn 7) ?_
     refine spB 38 h ?_ ?_<;>intro h
     ·refine nG K 7 (tn 7) ?_
      refine spB 45 h ?_ ?_<;>intro h
      ·refine nG K 4 (tn 4) <| VO.on (j := 40) (want := true) (d := 45) (b := true) rfl rfl rfl (by kernel_rfl) rfl ?_
       have⟨y1,hy,h⟩:=aS h
       refine cal false [.t (.sl (.int .i64)), .t (.sl (.int .i64))] [] (some 50) K (ok138 N _ _ hy) <| nN K (tn 2) ?_
       cases h; exact VW.ret (rt [])
      refine nN K (tn 7) ?_
      cases h; exact VW.ret (rt [])
     refine nN K (tn 14) ?_
     cases h; exact VW.ret (rt [])
    refine sN K [4] [] ⟨[(4, B false)], []⟩ (tn 21) ?_
    cases h; exact VW.ret (rt [])
   refine nN K (tn 28) ?_
   cases h; exact VW.ret (rt [])
  refine nN K (tn 35) ?_
  cases h; exact VW.ret (rt [])
 refine nN K (tn 42) ?_
 cases h; exact VW.ret (rt [])
def F126 (N : Nat) (a0 : Int) : Option (Bool) :=
  andO (F91 N a0 (-1000000 : Int) (1000000 : Int)) fun y1 => some y1
theorem ok126 N a0 {r} (h : F126 N a0 = some r) : Con prog 126 [I a0] [.lf (.v .bool r)] := by
 refine ctr [.lf (.v .bool)] K func126 rfl fun w0 E0 ht => ?_
 unfold F126 at h
 show VW _ _ _ _ _ (retQ _ _ _ _) _
 refine nR K (tn 1) <| sq <| VW.region <| nG K 1 (tn 1) ?_
 have⟨y1,hy,h⟩:=aS h
 refine cal false [.t (.int .i64), .t (.int .i64), .t (.int .i64)] [] (some 4) K (ok91 N _ _ _ hy) <| nN K (tn 1) ?_
 cases h; exact VW.ret (rt [])
def F159_j0 (N : Nat) (a0 : ByteArray) : Option (Bool) :=
  andO (F91 N (a0.size : Int) (1 : Int) (12 : Int)) fun y14 => some y14
def F159_j1 (N : Nat) (nx25 : Int → Int → Option (Bool)) (x20 : Int) (x21 : Int) : Option (Bool) :=
  nx25 x20 (IntKind.i64.wrap (x21 + (1 : Int)))
def F159_l0_b (N : Nat) (a0 : ByteArray) (nx25 : Int → Int → Option (Bool)) (x20 : Int) (x21 : Int) : Option (Bool) :=
  cond (decide (x21 < x20)) (gd (InR x21 a0.size) (cond (decide (((a0.data.getD x21.toNat 0).toNat : Int) ≥ (97 : Int))) (cond (!(decide (((a0.data.getD x21.toNat 0).toNat : Int) ≤ (122 : Int)))) (cond (x21 == (0 : Int)) (some false) (cond (decide (((a0.data.getD x21.toNat 0).toNat : Int) < (48 : Int))) (some false) (cond (decide (((a0.data.getD x21.toNat 0).toNat : Int) > (57 : Int))) (some false) (F159_j1 N nx25 x20 x21)))) (F159_j1 N nx25 x20 x21)) (cond (x21 == (0 : Int)) (some false) (cond (decide (((a0.data.getD x21.toNat 0).toNat : Int) < (48 : Int))) (some false) (cond (decide (((a0.data.getD x21.toNat 0).toNat : Int) > (57 : Int))) (some false) (F159_j1 N nx25 x20 x21)))))) (F159_j0 N a0)
def F159_l0 (N : Nat) (a0 : ByteArray) := loopF (F159_l0_b N a0) (fun _ _ => none)
theorem F159_l0_s N a0 {k} (hk : 0 < k) x20 x21 : F159_l0 N a0 k x20 x21 = F159_l0_b N a0 (F159_l0 N a0 (k - 1)) x20 x21 := by cases k;cases hk;rfl
def F159 (N : Nat) (a0 : ByteArray) : Option (Bool) :=
  F159_l0 N a0 N (a0.size : Int) (0 : Int)
theorem ok159 N a0 {r} (h : F159 N a0 = some r) : Con prog 159 [S a0] [.lf (.v .bool r)] := by
 refine ctr [.lf (.v .bool)] K func159 rfl fun w0 E0 ht => ?_
 unfold F159 at h
 show VW _ _ _ _ _ (retQ _ _ _ _) _
 refine nR K (tn 1) ?_
 refine VW.join (fun s => s = ⟨[(0, S a0)], []⟩ ∧ F159_j0 N a0 = some r) ?_ ?_
 ·refine nR K (tn 3) <| VW.block <| lop (fun k s => ∃ x20 x21, s = ⟨[(0, S a0), (7, I x20), (8, I x21)], []⟩ ∧ F159_l0 N a0 k x20 x21 = some r) N [.ren [0, 7, 8] []] ⟨(a0.size : Int), (0 : Int), rfl, h⟩ ?_
  rintro k25 s ⟨x20, x21, rfl, h⟩
  cases k25 with
  | zero => cases show none = some r from h
  | succ k25 =>
   replace h : F159_l0_b N a0 (F159_l0 N a0 k25) x20 x21 = some r := h
   unfold F159_l0_b at h
   refine nR K (tn 1) <| sq ?_
   refine cnd h ?_ ?_<;>intro h
   ·refine VW.skip ?_
    refine VW.join (fun s => s = ⟨[(0, S a0), (7, I x20), (8, I x21)], []⟩ ∧ F159_j1 N (F159_l0 N a0 k25) x20 x21 = some r) ?_ ?_
    ·refine VW.block <| nR K (tn 2) ?_
     have⟨g28,h⟩:=gS h
     refine nR K (pu 2 (an g28 (tn 1))) <| sq <| VW.region <| nG K 3 (tn 3) ?_
     refine spB 16 h ?_ ?_<;>intro h
     ·refine nN K (tn 4) <| sq <| VW.region <| sG K 3 [0, 3, 4, 7, 8, 22] [] ⟨[(0, S a0), (3, I x21), (4, U ((a0.data.getD x21.toNat 0).toNat : Int)), (7, I x20), (8, I x21), (22, B (!(decide (((a0.data.getD x21.toNat 0).toNat : Int) ≤ (122 : Int)))))], []⟩ (tn 3) ?_
      refine spB 22 h ?_ ?_<;>intro h
      ·refine nG K 3 (tn 3) ?_
       refine spB 25 h ?_ ?_<;>intro h
       ·refine nN K (tn 8) ?_
        refine VW.cond (b := true) (by kernel_rfl) (fun _ => ?_) (fun h' => nomatch h')
        refine nR K (tn 1) ?_
        cases h; exact VW.ret (rt [])
       refine nG K 4 (tn 4) ?_
       refine spB 29 h ?_ ?_<;>intro h
       ·refine nN K (tn 4) ?_
        refine VW.cond (b := true) (by kernel_rfl) (fun _ => ?_) (fun h' => nomatch h')
        refine nR K (tn 1) ?_
        cases h; exact VW.ret (rt [])
       refine nN K (tn 4) ?_
       refine cnd h ?_ ?_<;>intro h
       ·refine nR K (tn 1) ?_
        cases h; exact VW.ret (rt [])
       refine VW.skip ?_
       exact arv [.ren [0, 7, 8] []] ⟨rfl, h⟩
      refine nN K (tn 11) ?_
      refine VW.cond (b := false) (by kernel_rfl) (fun h' => nomatch h') (fun _ => ?_)
      refine VW.skip ?_
      exact arv [.ren [0, 7, 8] []] ⟨rfl, h⟩
     refine nN K (tn 4) <| sq <| VW.region <| sG K 6 [0, 4, 7, 8, 22, 25] [] ⟨[(0, S a0), (4, U ((a0.data.getD x21.toNat 0).toNat : Int)), (7, I x20), (8, I x21), (22, B true), (25, B (x21 == (0 : Int)))], []⟩ (tn 6) ?_
     refine spB 25 h ?_ ?_<;>intro h
     ·refine nN K (tn 8) ?_
      refine VW.cond (b := true) (by kernel_rfl) (fun _ => ?_) (fun h' => nomatch h')
      refine nR K (tn 1) ?_
      cases h; exact VW.ret (rt [])
     refine nG K 4 (tn 4) ?_
     refine spB 29 h ?_ ?_<;>intro h
     ·refine nN K (tn 4) ?_
      refine VW.cond (b := true) (by kernel_rfl) (fun _ => ?_) (fun h' => nomatch h')
      refine nR K (tn 1) ?_
      cases h; exact VW.ret (rt [])
     refine nN K (tn 4) ?_
     refine cnd h ?_ ?_<;>intro h
     ·refine nR K (tn 1) ?_
      cases h; exact VW.ret (rt [])
     refine VW.skip ?_
     exact arv [.ren [0, 7, 8] []] ⟨rfl, h⟩
    rintro s ⟨rfl, h⟩
    unfold F159_j1 at h
    refine nE K (tn 2) ?_
    exact aro [.ren [0, 7, 8] []] ⟨x20, (wr (x21 + (1 : Int))), rfl, h⟩
   refine VW.exit ?_
   exact arv [.ren [0] []] ⟨rfl, h⟩
 rintro s ⟨rfl, h⟩
 unfold F159_j0 at h
 refine sq <| VW.region <| nG K 2 (tn 2) ?_
 have⟨y14,hy,h⟩:=aS h
 refine cal false [.t (.int .i64), .t (.int .i64), .t (.int .i64)] [] (some 37) K (ok91 N _ _ _ hy) <| nN K (tn 1) ?_
 cases h; exact VW.ret (rt [])
def F160 (N : Nat) (a0 : Int) : Option (Bool) :=
  andO (F91 N a0 (0 : Int) (63 : Int)) fun y1 => some y1
theorem ok160 N a0 {r} (h : F160 N a0 = some r) : Con prog 160 [I a0] [.lf (.v .bool r)] := by
 refine ctr [.lf (.v .bool)] K func160 rfl fun w0 E0 ht => ?_
 unfold F160 at h
 show VW _ _ _ _ _ (retQ _ _ _ _) _
 refine nR K (tn 1) <| sq <| VW.region <| nG K 1 (tn 1) ?_
 have⟨y1,hy,h⟩:=aS h
 refine cal false [.t (.int .i64), .t (.int .i64), .t (.int .i64)] [] (some 4) K (ok91 N _ _ _ hy) <| nN K (tn 1) ?_
 cases h; exact VW.ret (rt [])
def F161 (N : Nat) (a0 : Int) : Option (Bool) :=
  andO (F91 N a0 (0 : Int) (39 : Int)) fun y1 => some y1
theorem ok161 N a0 {r} (h : F161 N a0 = some r) : Con prog 161 [I a0] [.lf (.v .bool r)] := by
 refine ctr [.lf (.v .bool)] K func161 rfl fun w0 E0 ht => ?_
 unfold F161 at h
 show VW _ _ _ _ _ (retQ _ _ _ _) _
 refine nR K (tn 1) <| sq <| VW.region <| nG K 1 (tn 1) ?_
 have⟨y1,hy,h⟩:=aS h
 refine cal false [.t (.int .i64), .t (.int .i64), .t (.int .i64)] [] (some 4) K (ok91 N _ _ _ hy) <| nN K (tn 1) ?_
 cases h; exact VW.ret (rt [])
def F169_j0 (N : Nat) : Option (Int) :=
  some (-1 : Int)
def F169_l0_b (N : Nat) (a0 : (List Int)) (p1 : Int → Option (Bool)) (nx29 : Int → Int → Option (Int)) (x23 : Int) (x24 : Int) : Option (Int) :=
  cond (decide (x24 < x23)) (gd (InR x24 a0.length) (andO (p1 (a0.getD x24.toNat (Ty.dflt (.int .i64)))) fun y33 => cond y33 (some x24) (nx29 x23 (IntKind.i64.wrap (x24 + (1 : Int)))))) (F169_j0 N)
def F169_l0 (N : Nat) (a0 : (List Int)) (p1 : Int → Option (Bool)) := loopF (F169_l0_b N a0 p1) (fun _ _ => none)
theorem F169_l0_s N a0 (p1 : Int → Option (Bool)) {k} (hk : 0 < k) x23 x24 : F169_l0 N a0 p1 k x23 x24 = F169_l0_b N a0 p1 (F169_l0 N a0 p1 (k - 1)) x23 x24 := by cases k;cases hk;rfl
def F169 (N : Nat) (a0 : (List Int)) (p1 : Int → Option (Bool)) : Option (Int) :=
  F169_l0 N a0 p1 N (a0.length : Int) (0 : Int)
theorem ok169 N a0 (g1 : FuncId) (p1 : Int → Option (Bool)) (hp1 : ∀ (z0 : Int) (r : Bool), p1 z0 = some r → Con prog g1 [I z0] [.lf (.v .bool r)]) {r} (h : F169 N a0 p1 = some r) : Con prog 169 [Vv (.sl (.int .i64)) a0, .clo g1 []] [.lf (.v (.int .i64) r)] := by
 refine ctr [.lf (.v (.int .i64))] K func169 rfl fun w0 E0 ht => ?_
 unfold F169 at h
 show VW _ _ _ _ _ (retQ _ _ _ _) _
 refine nR K (tn 1) ?_
 refine VW.join (fun s => s = ⟨[], []⟩ ∧ F169_j0 N = some r) ?_ ?_
 ·refine nR K (tn 3) <| VW.block <| lop (fun k s => ∃ x23 x24, s = ⟨[(0, Vv (.sl (.int .i64)) a0), (1, .clo g1 []), (7, I x23), (8, I x24)], []⟩ ∧ F169_l0 N a0 p1 k x23 x24 = some r) N [.ren [0, 1, 7, 8] []] ⟨(a0.length : Int), (0 : Int), rfl, h⟩ ?_
  rintro k29 s ⟨x23, x24, rfl, h⟩
  cases k29 with
  | zero => cases show none = some r from h
  | succ k29 =>
   replace h : F169_l0_b N a0 p1 (F169_l0 N a0 p1 k29) x23 x24 = some r := h
   unfold F169_l0_b at h
   refine nR K (tn 1) <| sq ?_
   refine cnd h ?_ ?_<;>intro h
   ·refine VW.skip <| sq <| VW.block <| nR K (tn 2) <| sq <| VW.region ?_
    have⟨g32,h⟩:=gS h
    refine nG K 5 (pu 3 (an g32 (tn 1))) ?_
    have⟨y33,hy,h⟩:=aS h
    refine cal false [.t (.int .i64)] [] (some 16) K (hp1 _ _ hy) <| nN K (tn 0) ?_
    refine cnd h ?_ ?_<;>intro h
    ·refine nR K (tn 2) ?_
     cases h; exact VW.ret (rt [])
    refine VW.skip <| nE K (tn 2) ?_
    exact aro [.ren [0, 1, 7, 8] []] ⟨x23, (wr (x24 + (1 : Int))), rfl, h⟩
   refine VW.exit ?_
   exact arv [.ren [] []] ⟨rfl, h⟩
 rintro s ⟨rfl, h⟩
 unfold F169_j0 at h
 refine nR K (tn 1) ?_
 cases h; exact VW.ret (rt [])
def F162 (N : Nat) (a0 : (List Int)) (p1 : Int → Option (Bool)) : Option (Bool) :=
  andO (F169 N a0 p1) fun y1 => some (decide (y1 ≥ (0 : Int)))
theorem ok162 N a0 (g1 : FuncId) (p1 : Int → Option (Bool)) (hp1 : ∀ (z0 : Int) (r : Bool), p1 z0 = some r → Con prog g1 [I z0] [.lf (.v .bool r)]) {r} (h : F162 N a0 p1 = some r) : Con prog 162 [Vv (.sl (.int .i64)) a0, .clo g1 []] [.lf (.v .bool r)] := by
 refine ctr [.lf (.v .bool)] K func162 rfl fun w0 E0 ht => ?_
 unfold F162 at h
 show VW _ _ _ _ _ (retQ _ _ _ _) _
 refine nR K (tn 1) <| sq <| VW.region <| nG K 2 (tn 2) ?_
 have⟨y1,hy,h⟩:=aS h
 refine cal false [.t (.sl (.int .i64)), .clo []] [] (some 7) K (ok169 N _ g1  p1 hp1 hy) <| nN K (tn 2) ?_
 cases h; exact VW.ret (rt [])
def F163 (N : Nat) (a0 : Int) : Option (Bool) :=
  andO (F160 N a0) fun y1 => some (!y1)
theorem ok163 N a0 {r} (h : F163 N a0 = some r) : Con prog 163 [I a0] [.lf (.v .bool r)] := by
 refine ctr [.lf (.v .bool)] K func163 rfl fun w0 E0 ht => ?_
 unfold F163 at h
 show VW _ _ _ _ _ (retQ _ _ _ _) _
 refine nR K (tn 1) <| sq <| VW.region <| nG K 1 (tn 1) ?_
 have⟨y1,hy,h⟩:=aS h
 refine cal false [.t (.int .i64)] [] (some 4) K (ok160 N _ hy) <| nN K (tn 2) ?_
 cases h; exact VW.ret (rt [])
def F125_j0 (N : Nat) (x38 : ByteArray) (x39 : Int) (x40 : Int) (x41 : Int) (x42 : Bool) (x43 : (List Int)) (x44 : Bool) : Option (Bool) :=
  cond x44 (andO (F94 N ((0 : Int), (x38, (x39, (x40, (x41, (x42, x43)))))) ((0 : Int), (ByteArray.empty, ((0 : Int), ((0 : Int), ((0 : Int), (false, []))))))) fun y45 => some y45) (some false)
def F125_j1 (N : Nat) (x52 : ByteArray) (x53 : Int) (x54 : Int) (x55 : Int) (x56 : Bool) (x57 : (List Int)) (x58 : Bool) : Option (Bool) :=
  F125_j0 N x52 (0 : Int) (0 : Int) (0 : Int) false x57 x58
def F125_j2 (N : Nat) (x62 : ByteArray) (x63 : Int) (x64 : Int) (x65 : Int) (x66 : Bool) (x67 : (List Int)) : Option (Bool) :=
  F125_j0 N x62 (0 : Int) (0 : Int) (0 : Int) false x67 false
def F125_j3 (N : Nat) (x76 : ByteArray) (x77 : Int) (x78 : Int) (x79 : Int) (x80 : Bool) (x81 : (List Int)) (x82 : Bool) : Option (Bool) :=
  cond x82 (F125_j0 N x76 x77 x78 x79 x80 x81 true) (F125_j0 N x76 x77 x78 x79 x80 x81 false)
def F125 (N : Nat) (a0 : Z76) : Option (Bool) :=
  cond (a0.1 == (0 : Int)) (andO (F159 N a0.2.1) fun y47 => F125_j0 N ByteArray.empty a0.2.2.1 a0.2.2.2.1 a0.2.2.2.2.1 a0.2.2.2.2.2.1 a0.2.2.2.2.2.2 y47) (cond (a0.1 == (1 : Int)) (andO (F160 N a0.2.2.1) fun y48 => cond y48 (andO (F91 N a0.2.2.2.1 (0 : Int) (3 : Int)) fun y49 => cond (a0.2.2.2.1 == (3 : Int)) (cond y49 (cond (a0.2.2.2.2.1 == (0 : Int)) (F125_j1 N a0.2.1 a0.2.2.1 a0.2.2.2.1 a0.2.2.2.2.1 a0.2.2.2.2.2.1 a0.2.2.2.2.2.2 (!a0.2.2.2.2.2.1)) (F125_j1 N a0.2.1 a0.2.2.1 a0.2.2.2.1 a0.2.2.2.2.1 a0.2.2.2.2.2.1 a0.2.2.2.2.2.2 false)) (F125_j1 N a0.2.1 a0.2.2.1 a0.2.2.2.1 a0.2.2.2.2.1 a0.2.2.2.2.2.1 a0.2.2.2.2.2.2 false)) (cond a0.2.2.2.2.2.1 (cond y49 (andO (F161 N a0.2.2.2.2.1) fun y60 => F125_j1 N a0.2.1 a0.2.2.1 a0.2.2.2.1 a0.2.2.2.2.1 a0.2.2.2.2.2.1 a0.2.2.2.2.2.2 y60) (F125_j1 N a0.2.1 a0.2.2.1 a0.2.2.2.1 a0.2.2.2.2.1 a0.2.2.2.2.2.1 a0.2.2.2.2.2.2 false)) (cond y49 (andO (F126 N a0.2.2.2.2.1) fun y61 => F125_j1 N a0.2.1 a0.2.2.1 a0.2.2.2.1 a0.2.2.2.2.1 a0.2.2.2.2.2.1 a0.2.2.2.2.2.2 y61) (F125_j1 N a0.2.1 a0.2.2.1 a0.2.2.2.1 a0.2.2.2.2.1 a0.2.2.2.2.2.1 a0.2.2.2.2.2.2 false)))) (cond (a0.2.2.2.1 == (3 : Int)) (F125_j2 N a0.2.1 a0.2.2.1 a0.2.2.2.1 a0.2.2.2.2.1 a0.2.2.2.2.2.1 a0.2.2.2.2.2.2) (cond a0.2.2.2.2.2.1 (F125_j2 N a0.2.1 a0.2.2.1 a0.2.2.2.1 a0.2.2.2.2.1 a0.2.2.2.2.2.1 a0.2.2.2.2.2.2) (F125_j2 N a0.2.1 a0.2.2.1 a0.2.2.2.1 a0.2.2.2.2.1 a0.2.2.2.2.2.1 a0.2.2.2.2.2.2)))) (cond (a0.1 == (2 : Int)) (andO (F91 N (a0.2.2.2.2.2.2.length : Int) (1 : Int) (6 : Int)) fun y69 => cond y69 (andO (F162 N a0.2.2.2.2.2.2 (fun z0 => F163 N z0)) fun y70 => F125_j0 N a0.2.1 a0.2.2.1 a0.2.2.2.1 a0.2.2.2.2.1 a0.2.2.2.2.2.1 ([]) (!y70)) (F125_j0 N a0.2.1 a0.2.2.1 a0.2.2.2.1 a0.2.2.2.2.1 a0.2.2.2.2.2.1 ([]) false)) (cond (a0.1 == (3 : Int)) (andO (F160 N a0.2.2.1) fun y71 => cond y71 (andO (F160 N a0.2.2.2.2.1) fun y72 => F125_j0 N a0.2.1 (0 : Int) a0.2.2.2.1 (0 : Int) a0.2.2.2.2.2.1 a0.2.2.2.2.2.2 y72) (F125_j0 N a0.2.1 (0 : Int) a0.2.2.2.1 (0 : Int) a0.2.2.2.2.2.1 a0.2.2.2.2.2.2 false)) (cond (a0.1 == (5 : Int)) (andO (F160 N a0.2.2.1) fun y73 => F125_j0 N a0.2.1 (0 : Int) a0.2.2.2.1 a0.2.2.2.2.1 a0.2.2.2.2.2.1 a0.2.2.2.2.2.2 y73) (cond (a0.1 == (6 : Int)) (andO (F91 N a0.2.2.2.2.1 (0 : Int) (1000000 : Int)) fun y74 => cond y74 (cond (!a0.2.2.2.2.2.1) (F125_j0 N a0.2.1 a0.2.2.1 a0.2.2.2.1 (0 : Int) false a0.2.2.2.2.2.2 true) (andO (F161 N a0.2.2.2.2.1) fun y75 => F125_j0 N a0.2.1 a0.2.2.1 a0.2.2.2.1 (0 : Int) false a0.2.2.2.2.2.2 y75)) (F125_j0 N a0.2.1 a0.2.2.1 a0.2.2.2.1 (0 : Int) false a0.2.2.2.2.2.2 false)) (cond (a0.1 == (4 : Int)) (F125_j3 N a0.2.1 a0.2.2.1 a0.2.2.2.1 a0.2.2.2.2.1 a0.2.2.2.2.2.1 a0.2.2.2.2.2.2 (a0.1 == (4 : Int))) (F125_j3 N a0.2.1 a0.2.2.1 a0.2.2.2.1 a0.2.2.2.2.1 a0.2.2.2.2.2.1 a0.2.2.2.2.2.2 (a0.1 == (7 : Int)))))))))
theorem ok125 N a0 {r} (h : F125 N a0 = some r) : Con prog 125 [.agg (lv Y76 a0)] [.lf (.v .bool r)] := by
 refine ctr [.lf (.v .bool)] K func125 rfl fun w0 E0 ht => ?_
 unfold F125 at h
 show VW _ _ _ _ _ (retQ _ _ _ _) _
 refine nR K (tn 2) <| nR K (tn 3) <| nR K (tn 2) <| nR K (tn 1) ?_
 refine VW.join (fun s => ∃ x38 x39 x40 x41 x42 x43 x44, s = ⟨[(3, .lf (.ptr 0 0 0 0)), (4, B x44)], [bx [zi (0 : Int), zs x38, zi x39, zi x40, zi x41, zb x42, .v (.sl (.int .i64)) x43] 78]⟩ ∧ F125_j0 N x38 x39 x40 x41 x42 x43 x44 = some r) ?_ ?_
 ·refine nR K (tn 2) <| VW.block <| sRh K [1, 3, 4, 8, 9] [0, 1] [(1, .lf (.ptr 0 0 0 0)), (3, .lf (.ptr 1 0 0 0)), (4, B false), (8, I a0.1), (9, B (a0.1 == (0 : Int)))] (tn 2) ?_
  refine cnd h ?_ ?_<;>intro h
  ·refine sq <| VW.region <| nG K 2 (tn 2) ?_
   have⟨y47,hy,h⟩:=aS h
   refine cal false [.t .str] [] (some 13) K (ok159 N _ hy) <| nN K (tn 1) <| nE K (tn 2) ?_
   exact arv [.ren [3, 4] [1]] ⟨ByteArray.empty, a0.2.2.1, a0.2.2.2.1, a0.2.2.2.2.1, a0.2.2.2.2.2.1, a0.2.2.2.2.2.2, y47, rfl, h⟩
  refine nR K (tn 2) ?_
  refine cnd h ?_ ?_<;>intro h
  ·refine sq <| VW.region <| nG K 2 (tn 2) ?_
   have⟨y48,hy,h⟩:=aS h
   refine cal false [.t (.int .i64)] [] (some 19) K (ok160 N _ hy) <| nG K 1 (tn 1) ?_
   refine spB 20 h ?_ ?_<;>intro h
   ·refine nG K 2 (tn 2) <| VO.on (j := 3) (want := true) (d := 20) (b := true) rfl rfl rfl (by kernel_rfl) rfl ?_
    have⟨y49,hy,h⟩:=aS h
    refine cal false [.t (.int .i64), .t (.int .i64), .t (.int .i64)] [] (some 23) K (ok91 N _ _ _ hy) <| nN K (tn 2) ?_
    refine VW.join (fun s => ∃ x52 x53 x54 x55 x56 x57 x58, s = ⟨[(3, .lf (.ptr 0 0 0 0)), (4, B x58)], [bx [zi (0 : Int), zs x52, zi x53, zi x54, zi x55, zb x56, .v (.sl (.int .i64)) x57] 78]⟩ ∧ F125_j1 N x52 x53 x54 x55 x56 x57 x58 = some r) ?_ ?_
    ·refine VW.block <| sRh K [1, 3, 4, 31] [0, 1] [(1, .lf (.ptr 0 0 0 0)), (3, .lf (.ptr 1 0 0 0)), (4, B y49), (31, B (a0.2.2.2.1 == (3 : Int)))] (tn 4) ?_
     refine cnd h ?_ ?_<;>intro h
     ·refine VW.region <| nG K 2 (tn 2) ?_
      refine spB 36 h ?_ ?_<;>intro h
      ·refine nG K 5 (tn 5) ?_
       refine spB 41 h ?_ ?_<;>intro h
       ·refine nN K (tn 5) ?_
        exact arv [.ren [3, 4] [1]] ⟨a0.2.1, a0.2.2.1, a0.2.2.2.1, a0.2.2.2.2.1, a0.2.2.2.2.2.1, a0.2.2.2.2.2.2, (!a0.2.2.2.2.2.1), rfl, h⟩
       refine nN K (tn 5) ?_
       exact arv [.ren [3, 4] [1]] ⟨a0.2.1, a0.2.2.1, a0.2.2.2.1, a0.2.2.2.2.1, a0.2.2.2.2.2.1, a0.2.2.2.2.2.2, false, rfl, h⟩
      refine nN K (tn 10) ?_
      exact arv [.ren [3, 4] [1]] ⟨a0.2.1, a0.2.2.1, a0.2.2.2.1, a0.2.2.2.2.1, a0.2.2.2.2.2.1, a0.2.2.2.2.2.2, false, rfl, h⟩
     refine nR K (tn 3) ?_
     refine cnd h ?_ ?_<;>intro h
     ·refine VW.region <| nG K 2 (tn 2) ?_
      refine spB 50 h ?_ ?_<;>intro h
      ·refine nG K 2 (tn 2) <| VO.on (j := 1) (want := true) (d := 50) (b := true) rfl rfl rfl (by kernel_rfl) rfl ?_
       have⟨y60,hy,h⟩:=aS h
       refine cal false [.t (.int .i64)] [] (some 53) K (ok161 N _ hy) <| nN K (tn 2) ?_
       exact arv [.ren [3, 4] [1]] ⟨a0.2.1, a0.2.2.1, a0.2.2.2.1, a0.2.2.2.2.1, a0.2.2.2.2.2.1, a0.2.2.2.2.2.2, y60, rfl, h⟩
      refine nN K (tn 5) ?_
      exact arv [.ren [3, 4] [1]] ⟨a0.2.1, a0.2.2.1, a0.2.2.2.1, a0.2.2.2.2.1, a0.2.2.2.2.2.1, a0.2.2.2.2.2.2, false, rfl, h⟩
     refine VW.region <| nG K 2 (tn 2) ?_
     refine spB 26 h ?_ ?_<;>intro h
     ·refine nG K 2 (tn 2) <| VO.on (j := 1) (want := true) (d := 26) (b := true) rfl rfl rfl (by kernel_rfl) rfl ?_
      have⟨y61,hy,h⟩:=aS h
      refine cal false [.t (.int .i64)] [] (some 29) K (ok126 N _ hy) <| nN K (tn 2) ?_
      exact arv [.ren [3, 4] [1]] ⟨a0.2.1, a0.2.2.1, a0.2.2.2.1, a0.2.2.2.2.1, a0.2.2.2.2.2.1, a0.2.2.2.2.2.2, y61, rfl, h⟩
     refine nN K (tn 5) ?_
     exact arv [.ren [3, 4] [1]] ⟨a0.2.1, a0.2.2.1, a0.2.2.2.1, a0.2.2.2.2.1, a0.2.2.2.2.2.1, a0.2.2.2.2.2.2, false, rfl, h⟩
    rintro s ⟨x52, x53, x54, x55, x56, x57, x58, rfl, h⟩
    unfold F125_j1 at h
    refine nE K (tn 8) ?_
    exact arv [.ren [3, 4] [0]] ⟨x52, (0 : Int), (0 : Int), (0 : Int), false, x57, x58, rfl, h⟩
   refine nN K (tn 5) ?_
   refine VW.join (fun s => ∃ x62 x63 x64 x65 x66 x67, s = ⟨[(3, .lf (.ptr 0 0 0 0)), (4, B false)], [bx [zi (0 : Int), zs x62, zi x63, zi x64, zi x65, zb x66, .v (.sl (.int .i64)) x67] 78]⟩ ∧ F125_j2 N x62 x63 x64 x65 x66 x67 = some r) ?_ ?_
   ·refine VW.block <| nR K (tn 4) ?_
    refine cnd h ?_ ?_<;>intro h
    ·refine rR K [3, 4] [1] ⟨[(3, .lf (.ptr 0 0 0 0)), (4, B false)], [bx [zi (0 : Int), zs a0.2.1, zi a0.2.2.1, zi a0.2.2.2.1, zi a0.2.2.2.2.1, zb a0.2.2.2.2.2.1, .v (.sl (.int .i64)) a0.2.2.2.2.2.2] 78]⟩ (tn 12) ?_
     exact arv [.ren [3, 4] [0]] ⟨a0.2.1, a0.2.2.1, a0.2.2.2.1, a0.2.2.2.2.1, a0.2.2.2.2.2.1, a0.2.2.2.2.2.2, rfl, h⟩
    refine sRh K [1, 3, 4, 46] [0, 1] [(1, .lf (.ptr 0 0 0 0)), (3, .lf (.ptr 1 0 0 0)), (4, B false), (46, B a0.2.2.2.2.2.1)] (tn 3) ?_
    refine cnd h ?_ ?_<;>intro h
    ·refine nE K (tn 7) ?_
     exact arv [.ren [3, 4] [1]] ⟨a0.2.1, a0.2.2.1, a0.2.2.2.1, a0.2.2.2.2.1, a0.2.2.2.2.2.1, a0.2.2.2.2.2.2, rfl, h⟩
    refine nE K (tn 7) ?_
    exact arv [.ren [3, 4] [1]] ⟨a0.2.1, a0.2.2.1, a0.2.2.2.1, a0.2.2.2.2.1, a0.2.2.2.2.2.1, a0.2.2.2.2.2.2, rfl, h⟩
   rintro s ⟨x62, x63, x64, x65, x66, x67, rfl, h⟩
   unfold F125_j2 at h
   refine nE K (tn 8) ?_
   exact arv [.ren [3, 4] [0]] ⟨x62, (0 : Int), (0 : Int), (0 : Int), false, x67, false, rfl, h⟩
  refine nR K (tn 2) ?_
  refine cnd h ?_ ?_<;>intro h
  ·refine sq <| VW.region <| nG K 3 (tn 3) ?_
   have⟨y69,hy,h⟩:=aS h
   refine cal false [.t (.int .i64), .t (.int .i64), .t (.int .i64)] [] (some 64) K (ok91 N _ _ _ hy) <| nG K 1 (tn 1) ?_
   refine spB 65 h ?_ ?_<;>intro h
   ·refine nG K 2 (tn 2) <| VO.on (j := 4) (want := true) (d := 65) (b := true) rfl rfl rfl (by kernel_rfl) rfl ?_
    have⟨y70,hy,h⟩:=aS h
    refine cal false [.t (.sl (.int .i64)), .clo []] [] (some 68) K (ok162 N _ 163  (fun z0 => F163 N z0 ) (fun z0 _ hz => ok163 N z0 hz) hy) <| sN K [3, 4] [1] ⟨[(3, .lf (.ptr 0 0 0 0)), (4, B (!y70))], [bx [zi (0 : Int), zs a0.2.1, zi a0.2.2.1, zi a0.2.2.2.1, zi a0.2.2.2.2.1, zb a0.2.2.2.2.2.1, .v (.sl (.int .i64)) a0.2.2.2.2.2.2] 78]⟩ (tn 3) <| nE K (tn 2) ?_
    exact arv [.nilB 0 6 (.int .i64), .ren [3, 4] [0]] ⟨a0.2.1, a0.2.2.1, a0.2.2.2.1, a0.2.2.2.2.1, a0.2.2.2.2.2.1, [], (!y70), rfl, h⟩
   refine nN K (tn 6) <| rR K [3, 4] [1] ⟨[(3, .lf (.ptr 0 0 0 0)), (4, B false)], [bx [zi (0 : Int), zs a0.2.1, zi a0.2.2.1, zi a0.2.2.2.1, zi a0.2.2.2.2.1, zb a0.2.2.2.2.2.1, .nil] 78]⟩ (tn 2) ?_
   exact arv [.nilB 0 6 (.int .i64), .ren [3, 4] [0]] ⟨a0.2.1, a0.2.2.1, a0.2.2.2.1, a0.2.2.2.2.1, a0.2.2.2.2.2.1, [], false, rfl, h⟩
  refine nR K (tn 2) ?_
  refine cnd h ?_ ?_<;>intro h
  ·refine sq <| VW.region <| nG K 2 (tn 2) ?_
   have⟨y71,hy,h⟩:=aS h
   refine cal false [.t (.int .i64)] [] (some 76) K (ok160 N _ hy) <| nG K 1 (tn 1) ?_
   refine spB 77 h ?_ ?_<;>intro h
   ·refine sG K 2 [3, 77, 79] [1] ⟨[(3, .lf (.ptr 0 0 0 0)), (77, B true), (79, I a0.2.2.2.2.1)], [bx [zi (0 : Int), zs a0.2.1, zi a0.2.2.1, zi a0.2.2.2.1, zi a0.2.2.2.2.1, zb a0.2.2.2.2.2.1, .v (.sl (.int .i64)) a0.2.2.2.2.2.2] 78]⟩ (tn 2) <| VO.on (j := 3) (want := true) (d := 77) (b := true) rfl rfl rfl (by kernel_rfl) rfl ?_
    have⟨y72,hy,h⟩:=aS h
    refine cal false [.t (.int .i64)] [] (some 80) K (ok160 N _ hy) <| nN K (tn 2) <| nE K (tn 4) ?_
    exact arv [.ren [3, 4] [0]] ⟨a0.2.1, (0 : Int), a0.2.2.2.1, (0 : Int), a0.2.2.2.2.2.1, a0.2.2.2.2.2.2, y72, rfl, h⟩
   refine sN K [3, 4] [1] ⟨[(3, .lf (.ptr 0 0 0 0)), (4, B false)], [bx [zi (0 : Int), zs a0.2.1, zi a0.2.2.1, zi a0.2.2.2.1, zi a0.2.2.2.2.1, zb a0.2.2.2.2.2.1, .v (.sl (.int .i64)) a0.2.2.2.2.2.2] 78]⟩ (tn 5) <| nE K (tn 4) ?_
   exact arv [.ren [3, 4] [0]] ⟨a0.2.1, (0 : Int), a0.2.2.2.1, (0 : Int), a0.2.2.2.2.2.1, a0.2.2.2.2.2.2, false, rfl, h⟩
  refine nR K (tn 2) ?_
  refine cnd h ?_ ?_<;>intro h
  ·refine sq <| VW.region <| nG K 2 (tn 2) ?_
   have⟨y73,hy,h⟩:=aS h
   refine cal false [.t (.int .i64)] [] (some 88) K (ok160 N _ hy) <| sN K [3, 4] [1] ⟨[(3, .lf (.ptr 0 0 0 0)), (4, B y73)], [bx [zi (0 : Int), zs a0.2.1, zi a0.2.2.1, zi a0.2.2.2.1, zi a0.2.2.2.2.1, zb a0.2.2.2.2.2.1, .v (.sl (.int .i64)) a0.2.2.2.2.2.2] 78]⟩ (tn 1) <| nE K (tn 2) ?_
   exact arv [.ren [3, 4] [0]] ⟨a0.2.1, (0 : Int), a0.2.2.2.1, a0.2.2.2.2.1, a0.2.2.2.2.2.1, a0.2.2.2.2.2.2, y73, rfl, h⟩
  refine nR K (tn 2) ?_
  refine cnd h ?_ ?_<;>intro h
  ·refine sq <| VW.region <| sGh K 2 [1, 3, 93] [0, 1] [(1, .lf (.ptr 0 0 0 0)), (3, .lf (.ptr 1 0 0 0)), (93, I a0.2.2.2.2.1)] (tn 2) ?_
   have⟨y74,hy,h⟩:=aS h
   refine cal false [.t (.int .i64), .t (.int .i64), .t (.int .i64)] [] (some 94) K (ok91 N _ _ _ hy) <| nG K 1 (tn 1) ?_
   refine spB 95 h ?_ ?_<;>intro h
   ·refine nG K 4 (tn 4) ?_
    refine spB 99 h ?_ ?_<;>intro h
    ·refine nN K (tn 6) <| nE K (tn 4) ?_
     exact arv [.ren [3, 4] [1]] ⟨a0.2.1, a0.2.2.1, a0.2.2.2.1, (0 : Int), false, a0.2.2.2.2.2.2, true, rfl, h⟩
    refine nG K 2 (tn 2) <| VO.on (j := 7) (want := false) (d := 99) (b := false) rfl rfl rfl (by kernel_rfl) rfl ?_
    have⟨y75,hy,h⟩:=aS h
    refine cal false [.t (.int .i64)] [] (some 102) K (ok161 N _ hy) <| nN K (tn 3) <| nE K (tn 4) ?_
    exact arv [.ren [3, 4] [1]] ⟨a0.2.1, a0.2.2.1, a0.2.2.2.1, (0 : Int), false, a0.2.2.2.2.2.2, y75, rfl, h⟩
   refine nN K (tn 10) <| nE K (tn 4) ?_
   exact arv [.ren [3, 4] [1]] ⟨a0.2.1, a0.2.2.1, a0.2.2.2.1, (0 : Int), false, a0.2.2.2.2.2.2, false, rfl, h⟩
  refine VW.join (fun s => ∃ x76 x77 x78 x79 x80 x81 x82, s = ⟨[(3, .lf (.ptr 0 0 0 0)), (4, B false), (107, B x82)], [bx [zi (0 : Int), zs x76, zi x77, zi x78, zi x79, zb x80, .v (.sl (.int .i64)) x81] 78]⟩ ∧ F125_j3 N x76 x77 x78 x79 x80 x81 x82 = some r) ?_ ?_
  ·refine sR K [3, 4, 8, 107] [1] ⟨[(3, .lf (.ptr 0 0 0 0)), (4, B false), (8, I a0.1), (107, B (a0.1 == (4 : Int)))], [bx [zi (0 : Int), zs a0.2.1, zi a0.2.2.1, zi a0.2.2.2.1, zi a0.2.2.2.2.1, zb a0.2.2.2.2.2.1, .v (.sl (.int .i64)) a0.2.2.2.2.2.2] 78]⟩ (tn 2) ?_
   refine cnd h ?_ ?_<;>intro h
   ·refine VW.skip ?_
    exact arv [.ren [3, 4, 107] [0]] ⟨a0.2.1, a0.2.2.1, a0.2.2.2.1, a0.2.2.2.2.1, a0.2.2.2.2.2.1, a0.2.2.2.2.2.2, (a0.1 == (4 : Int)), rfl, h⟩
   refine nE K (tn 2) ?_
   exact arv [.ren [3, 4, 107] [0]] ⟨a0.2.1, a0.2.2.1, a0.2.2.2.1, a0.2.2.2.2.1, a0.2.2.2.2.2.1, a0.2.2.2.2.2.2, (a0.1 == (7 : Int)), rfl, h⟩
  rintro s ⟨x76, x77, x78, x79, x80, x81, x82, rfl, h⟩
  unfold F125_j3 at h
  refine cnd h ?_ ?_<;>intro h
  ·refine nE K (tn 1) ?_
   exact arv [.ren [3, 4] [0]] ⟨x76, x77, x78, x79, x80, x81, true, rfl, h⟩
  refine VW.skip ?_
  exact arv [.ren [3, 4] [0]] ⟨x76, x77, x78, x79, x80, x81, false, rfl, h⟩
 rintro s ⟨x38, x39, x40, x41, x42, x43, x44, rfl, h⟩
 unfold F125_j0 at h
 refine sq <| VW.region <| nG K 2 (tn 2) ?_
 refine spB 111 h ?_ ?_<;>intro h
 ·refine nG K 2 (tn 2) <| VO.on (j := 1) (want := true) (d := 111) (b := true) rfl rfl rfl (by kernel_rfl) rfl ?_
  have⟨y45,hy,h⟩:=aS h
  refine cal false [.t Y76, .t Y76] [] (some 114) K (ok94 N _ _ hy) <| nN K (tn 2) ?_
  cases h; exact VW.ret (rt [])
 refine nN K (tn 5) ?_
 cases h; exact VW.ret (rt [])
def F124 (N : Nat) (a0 : Z76) : Option (Bool) :=
  andO (F125 N a0) fun y1 => some (!y1)
theorem ok124 N a0 {r} (h : F124 N a0 = some r) : Con prog 124 [.agg (lv Y76 a0)] [.lf (.v .bool r)] := by
 refine ctr [.lf (.v .bool)] K func124 rfl fun w0 E0 ht => ?_
 unfold F124 at h
 show VW _ _ _ _ _ (retQ _ _ _ _) _
 refine nR K (tn 2) <| sq <| VW.region <| nG K 1 (tn 1) ?_
 have⟨y1,hy,h⟩:=aS h
 refine cal false [.t Y76] [] (some 4) K (ok125 N _ hy) <| nN K (tn 2) ?_
 cases h; exact VW.ret (rt [])
def F83 (N : Nat) (a0 : (List Z76)) : Option (Bool) :=
  andO (F91 N (a0.length : Int) (1 : Int) (40 : Int)) fun y3 => cond (!y3) (some false) (andO (F123 N a0 (fun z0 => F124 N z0)) fun y4 => cond y4 (some false) (andO (F113 N a0 (0 : Int) (1 : Int)) fun y5 => some (y5 == (a0.length : Int))))
theorem ok83 N a0 {r} (h : F83 N a0 = some r) : Con prog 83 [Vv (.sl Y76) a0] [.lf (.v .bool r)] := by
 refine ctr [.lf (.v .bool)] K func83 rfl fun w0 E0 ht => ?_
 unfold F83 at h
 show VW _ _ _ _ _ (retQ _ _ _ _) _
 refine nR K (tn 1) <| sq <| sq <| VW.region <| nG K 2 (tn 2) ?_
 have⟨y3,hy,h⟩:=aS h
 refine cal false [.t (.int .i64), .t (.int .i64), .t (.int .i64)] [] (some 5) K (ok91 N _ _ _ hy) <| nG K 2 (tn 2) ?_
 refine spB 7 h ?_ ?_<;>intro h
 ·refine nN K (tn 3) ?_
  refine VW.cond (b := true) (by kernel_rfl) (fun _ => ?_) (fun h' => nomatch h')
  refine nR K (tn 1) ?_
  cases h; exact VW.ret (rt [])
 refine nG K 1 (tn 1) <| VO.on (j := 4) (want := false) (d := 7) (b := false) rfl rfl rfl (by kernel_rfl) rfl ?_
 have⟨y4,hy,h⟩:=aS h
 refine cal false [.t (.sl Y76), .clo []] [] (some 9) K (ok123 N _ 124  (fun z0 => F124 N z0 ) (fun z0 _ hz => ok124 N z0 hz) hy) <| nN K (tn 1) ?_
 refine cnd h ?_ ?_<;>intro h
 ·refine sR K [2] [] ⟨[(2, B false)], []⟩ (tn 1) ?_
  cases h; exact VW.ret (rt [])
 refine VW.skip <| sq <| VW.region <| sG K 1 [0, 11] [] ⟨[(0, Vv (.sl Y76) a0), (11, Vv (.sl Y76) a0)], []⟩ (tn 1) ?_
 have⟨y5,hy,h⟩:=aS h
 refine cal false [.t (.sl Y76), .t (.int .i64), .t (.int .i64)] [] (some 12) K (ok113 N _ _ _ hy) <| nN K (tn 4) ?_
 cases h; exact VW.ret (rt [])
def F84_j0 (N : Nat) (x10 : Int) (x11 : (List Int)) : Option ((List Int)) :=
  gd (x11.length + ([(IntKind.u8.wrap x10)]).length ≤ lim (.int .u8)) (some (x11 ++ ([(IntKind.u8.wrap x10)])))
def F84_l0_b (N : Nat) (nx18 : Int → (List Int) → Option ((List Int))) (x15 : Int) (x16 : (List Int)) : Option ((List Int)) :=
  cond (decide (x15 ≥ (128 : Int))) (gd (x16.length + ([(IntKind.u8.wrap (IntKind.i64.wrap ((Int.tmod x15 (128 : Int)) + (128 : Int))))]).length ≤ lim (.int .u8)) (nx18 (IntKind.i64.wrap (Int.tdiv x15 (128 : Int))) (x16 ++ ([(IntKind.u8.wrap (IntKind.i64.wrap ((Int.tmod x15 (128 : Int)) + (128 : Int))))])))) (F84_j0 N x15 x16)
def F84_l0 (N : Nat) := loopF (F84_l0_b N) (fun _ _ => none)
theorem F84_l0_s N {k} (hk : 0 < k) x15 x16 : F84_l0 N k x15 x16 = F84_l0_b N (F84_l0 N (k - 1)) x15 x16 := by cases k;cases hk;rfl
def F84_j1 (N : Nat) (x3 : Int) : Option ((List Int)) :=
  F84_l0 N N x3 ([])
def F84 (N : Nat) (a0 : Int) : Option ((List Int)) :=
  andO (F126 N a0) fun y2 => cond (!y2) (some ([])) (cond (decide (a0 < (0 : Int))) (F84_j1 N (IntKind.i64.wrap ((IntKind.i64.wrap ((-2 : Int) * a0)) - (1 : Int)))) (F84_j1 N (IntKind.i64.wrap ((2 : Int) * a0))))
theorem ok84 N a0 {r} (h : F84 N a0 = some r) : Con prog 84 [I a0] [.lf (.own (.int .u8) r .dp)] := by
 refine ctr [.lf (.own (.int .u8) .dp)] K func84 rfl fun w0 E0 ht => ?_
 unfold F84 at h
 show VW _ _ _ _ _ (retQ _ _ _ _) _
 refine nR K (tn 1) <| sq <| sq <| VW.region <| nG K 1 (tn 1) ?_
 have⟨y2,hy,h⟩:=aS h
 refine cal false [.t (.int .i64)] [] (some 6) K (ok126 N _ hy) <| nN K (tn 1) ?_
 refine cnd h ?_ ?_<;>intro h
 ·refine nR K (tn 1) ?_
  cases h; exact VW.ret (rt [none])
 refine VW.skip <| nR K (tn 3) ?_
 refine VW.join (fun s => ∃ x3, s = ⟨[(3, I x3)], []⟩ ∧ F84_j1 N x3 = some r) ?_ ?_
 ·refine nR K (tn 2) ?_
  refine cnd h ?_ ?_<;>intro h
  ·refine rR K [3] [] ⟨[(3, I (wr ((wr ((-2 : Int) * a0)) - (1 : Int))))], []⟩ (tn 4) ?_
   exact arv [.ren [3] []] ⟨(wr ((wr ((-2 : Int) * a0)) - (1 : Int))), rfl, h⟩
  refine VW.skip ?_
  exact arv [.ren [3] []] ⟨(wr ((2 : Int) * a0)), rfl, h⟩
 rintro s ⟨x3, rfl, h⟩
 unfold F84_j1 at h
 refine nR K (tn 1) ?_
 refine VW.join (fun s => ∃ x10 x11, s = ⟨[(3, I x10), (4, hh 0)], [ar 0 (.int .u8) x11 .dp]⟩ ∧ F84_j0 N x10 x11 = some r) ?_ ?_
 ·refine VW.block <| lop (fun k s => ∃ x15 x16, s = ⟨[(3, I x15), (4, hh 0)], [ar 0 (.int .u8) x16 .dp]⟩ ∧ F84_l0 N k x15 x16 = some r) N [.nilS 4 (.int .u8) .dp, .ren [3, 4] [0]] ⟨x3, [], rfl, h⟩ ?_
  rintro k18 s ⟨x15, x16, rfl, h⟩
  cases k18 with
  | zero => cases show none = some r from h
  | succ k18 =>
   replace h : F84_l0_b N (F84_l0 N k18) x15 x16 = some r := h
   unfold F84_l0_b at h
   refine sq <| nR K (tn 2) ?_
   refine cnd h ?_ ?_<;>intro h
   ·refine VW.skip <| VW.block ?_
    have⟨g19,h⟩:=gS h
    refine nR K (pu 2 (an (show ((128 : Int) ≠ 0) from by decide) (pu 3 (an g19 (tn 1))))) <| nE K (pu 1 (an (show ((128 : Int) ≠ 0) from by decide) (tn 1))) ?_
    exact aro [.ren [3, 4] [0]] ⟨(wr (Int.tdiv x15 (128 : Int))), (x16 ++ ([(IntKind.u8.wrap (wr ((Int.tmod x15 (128 : Int)) + (128 : Int))))])), rfl, h⟩
   refine VW.exit ?_
   exact arv [.ren [3, 4] [0]] ⟨x15, x16, rfl, h⟩
 rintro s ⟨x10, x11, rfl, h⟩
 unfold F84_j0 at h
 have⟨g12,h⟩:=gS h
 refine nR K (pu 4 (an g12 (tn 1))) ?_
 cases h; exact VW.ret (rt [some 0])
def F127 (N : Nat) (a0 : ByteArray) : Option ((List Int)) :=
  andO (F159 N a0) fun y2 => cond (!y2) (some ([])) (andO (F84 N (a0.size : Int)) fun y3 => gd (y3.length + a0.size ≤ lim (.int .u8)) (some (y3 ++ (bytesOf a0))))
theorem ok127 N a0 {r} (h : F127 N a0 = some r) : Con prog 127 [S a0] [.lf (.own (.int .u8) r .dp)] := by
 refine ctr [.lf (.own (.int .u8) .dp)] K func127 rfl fun w0 E0 ht => ?_
 unfold F127 at h
 show VW _ _ _ _ _ (retQ _ _ _ _) _
 refine nR K (tn 1) <| sq <| sq <| VW.region <| nG K 1 (tn 1) ?_
 have⟨y2,hy,h⟩:=aS h
 refine cal false [.t .str] [] (some 4) K (ok159 N _ hy) <| nN K (tn 1) ?_
 refine cnd h ?_ ?_<;>intro h
 ·refine nR K (tn 1) ?_
  cases h; exact VW.ret (rt [none])
 refine VW.skip <| sq <| VW.region <| nG K 2 (tn 2) ?_
 have⟨y3,hy,h⟩:=aS h
 refine cal false [.t (.int .i64)] [] (some 8) K (ok84 N _ hy) <| nG K 1 (tn 1) ?_
 have⟨g4,h⟩:=gS h
 refine VO.appS (d := 10) (φ := y3.length + a0.size ≤ lim (.int .u8)) (v := .lf (.hd 0 1 none)) (H' := [ar 1 (.int .u8) (y3 ++ (bytesOf a0)) .dp]) K (by kernel_rfl) g4 <| nN K (tn 1) ?_
 cases h; exact VW.ret (rt [some 0])
def F128_j0 (N : Nat) (x24 : (List Int)) : Option ((List Int)) :=
  some x24
def F128_l0_b (N : Nat) (a0 : (List Int)) (nx42 : (List Int) → Int → Int → Option ((List Int))) (x33 : (List Int)) (x34 : Int) (x35 : Int) : Option ((List Int)) :=
  cond (decide (x35 < x34)) (gd (InR x35 a0.length) (andO (F84 N (a0.getD x35.toNat (Ty.dflt (.int .i64)))) fun y47 => gd (x33.length + y47.length ≤ lim (.int .u8)) (nx42 (x33 ++ y47) x34 (IntKind.i64.wrap (x35 + (1 : Int)))))) (F128_j0 N x33)
def F128_l0 (N : Nat) (a0 : (List Int)) := loopF (F128_l0_b N a0) (fun _ _ _ => none)
theorem F128_l0_s N a0 {k} (hk : 0 < k) x33 x34 x35 : F128_l0 N a0 k x33 x34 x35 = F128_l0_b N a0 (F128_l0 N a0 (k - 1)) x33 x34 x35 := by cases k;cases hk;rfl
def F128 (N : Nat) (a0 : (List Int)) : Option ((List Int)) :=
  F128_l0 N a0 N ([]) (a0.length : Int) (0 : Int)
theorem ok128 N a0 {r} (h : F128 N a0 = some r) : Con prog 128 [Vv (.sl (.int .i64)) a0] [.lf (.own (.int .u8) r .dp)] := by
 refine ctr [.lf (.own (.int .u8) .dp)] K func128 rfl fun w0 E0 ht => ?_
 unfold F128 at h
 show VW _ _ _ _ _ (retQ _ _ _ _) _
 refine nR K (tn 1) <| nR K (tn 1) ?_
 refine VW.join (fun s => ∃ x24, s = ⟨[(3, hh 0)], [ar 0 (.int .u8) x24 .dp]⟩ ∧ F128_j0 N x24 = some r) ?_ ?_
 ·refine nR K (tn 3) <| VW.block <| lop (fun k s => ∃ x33 x34 x35, s = ⟨[(3, hh 0), (6, Vv (.sl (.int .i64)) a0), (7, I x34), (8, I x35)], [ar 0 (.int .u8) x33 .dp]⟩ ∧ F128_l0 N a0 k x33 x34 x35 = some r) N [.nilS 3 (.int .u8) .dp, .ren [3, 6, 7, 8] [0]] ⟨[], (a0.length : Int), (0 : Int), rfl, h⟩ ?_
  rintro k42 s ⟨x33, x34, x35, rfl, h⟩
  cases k42 with
  | zero => cases show none = some r from h
  | succ k42 =>
   replace h : F128_l0_b N a0 (F128_l0 N a0 k42) x33 x34 x35 = some r := h
   unfold F128_l0_b at h
   refine nR K (tn 1) <| sq ?_
   refine cnd h ?_ ?_<;>intro h
   ·refine VW.skip <| sq <| VW.block ?_
    have⟨g46,h⟩:=gS h
    refine nR K (an g46 (tn 2)) <| VW.region <| nG K 2 (tn 2) ?_
    have⟨y47,hy,h⟩:=aS h
    refine cal false [.t (.int .i64)] [] (some 14) K (ok84 N _ hy) ?_
    have⟨g48,h⟩:=gS h
    refine nN K (an g48 (tn 1)) <| nE K (tn 2) ?_
    exact aro [.ren [3, 6, 7, 8] [0]] ⟨(x33 ++ y47), x34, (wr (x35 + (1 : Int))), rfl, h⟩
   refine VW.exit ?_
   exact arv [.ren [3] [0]] ⟨x33, rfl, h⟩
 rintro s ⟨x24, rfl, h⟩
 unfold F128_j0 at h
 refine nR K (tn 2) ?_
 cases h; exact VW.ret (rt [some 0])
def F129 (N : Nat) (a0 : Bool) : Option (Int) :=
  cond a0 (some (1 : Int)) (some (0 : Int))
theorem ok129 N a0 {r} (h : F129 N a0 = some r) : Con prog 129 [B a0] [.lf (.v (.int .i64) r)] := by
 refine ctr [.lf (.v (.int .i64))] K func129 rfl fun w0 E0 ht => ?_
 unfold F129 at h
 show VW _ _ _ _ _ (retQ _ _ _ _) _
 refine nR K (tn 1) <| sq <| nR K (tn 1) ?_
 refine cnd h ?_ ?_<;>intro h
 ·refine nR K (tn 1) ?_
  cases h; exact VW.ret (rt [])
 refine VW.skip <| nR K (tn 1) ?_
 cases h; exact VW.ret (rt [])
def F130_j0 (N : Nat) (x37 : (List Int)) : Option ((List Int)) :=
  some x37
def F130_l0_b (N : Nat) (a0 : (List Int)) (nx63 : (List Int) → Int → Int → Option ((List Int))) (x50 : (List Int)) (x51 : Int) (x52 : Int) : Option ((List Int)) :=
  cond (decide (x52 < x51)) (gd (InR x52 a0.length) (andO (F126 N (a0.getD x52.toNat (Ty.dflt (.int .i64)))) fun y71 => cond (!y71) (some ([])) (andO (F84 N (a0.getD x52.toNat (Ty.dflt (.int .i64)))) fun y72 => gd (x50.length + y72.length ≤ lim (.int .u8)) (nx63 (x50 ++ y72) x51 (IntKind.i64.wrap (x52 + (1 : Int))))))) (F130_j0 N x50)
def F130_l0 (N : Nat) (a0 : (List Int)) := loopF (F130_l0_b N a0) (fun _ _ _ => none)
theorem F130_l0_s N a0 {k} (hk : 0 < k) x50 x51 x52 : F130_l0 N a0 k x50 x51 x52 = F130_l0_b N a0 (F130_l0 N a0 (k - 1)) x50 x51 x52 := by cases k;cases hk;rfl
def F130 (N : Nat) (a0 : (List Int)) : Option ((List Int)) :=
  cond (decide ((a0.length : Int) > (300 : Int))) (some ([])) (andO (F84 N (a0.length : Int)) fun y1 => F130_l0 N a0 N y1 (a0.length : Int) (0 : Int))
theorem ok130 N a0 {r} (h : F130 N a0 = some r) : Con prog 130 [Vv (.sl (.int .i64)) a0] [.lf (.own (.int .u8) r .dp)] := by
 refine ctr [.lf (.own (.int .u8) .dp)] K func130 rfl fun w0 E0 ht => ?_
 unfold F130 at h
 show VW _ _ _ _ _ (retQ _ _ _ _) _
 refine nR K (tn 1) <| sq <| nR K (tn 3) ?_
 refine cnd h ?_ ?_<;>intro h
 ·refine nR K (tn 1) ?_
  cases h; exact VW.ret (rt [none])
 refine VW.skip <| sq <| VW.region <| nG K 2 (tn 2) ?_
 have⟨y1,hy,h⟩:=aS h
 refine cal false [.t (.int .i64)] [] (some 11) K (ok84 N _ hy) <| nN K (tn 1) ?_
 refine VW.join (fun s => ∃ x37, s = ⟨[(3, hh 0)], [ar 0 (.int .u8) x37 .dp]⟩ ∧ F130_j0 N x37 = some r) ?_ ?_
 ·refine nR K (tn 3) <| VW.block <| lop (fun k s => ∃ x50 x51 x52, s = ⟨[(3, hh 0), (12, Vv (.sl (.int .i64)) a0), (13, I x51), (14, I x52)], [ar 0 (.int .u8) x50 .dp]⟩ ∧ F130_l0 N a0 k x50 x51 x52 = some r) N [.ren [3, 12, 13, 14] [0]] ⟨y1, (a0.length : Int), (0 : Int), rfl, h⟩ ?_
  rintro k63 s ⟨x50, x51, x52, rfl, h⟩
  cases k63 with
  | zero => cases show none = some r from h
  | succ k63 =>
   replace h : F130_l0_b N a0 (F130_l0 N a0 k63) x50 x51 x52 = some r := h
   unfold F130_l0_b at h
   refine nR K (tn 1) <| sq ?_
   refine cnd h ?_ ?_<;>intro h
   ·refine VW.skip <| sq <| VW.block ?_
    have⟨g69,h⟩:=gS h
    refine nR K (an g69 (tn 2)) <| sq <| sq <| VW.region <| nG K 1 (tn 1) ?_
    have⟨y71,hy,h⟩:=aS h
    refine cal false [.t (.int .i64)] [] (some 19) K (ok126 N _ hy) <| nN K (tn 1) ?_
    refine cnd h ?_ ?_<;>intro h
    ·refine nR K (tn 1) ?_
     cases h; exact VW.ret (rt [none])
    refine VW.skip <| VW.region <| nG K 2 (tn 2) ?_
    have⟨y72,hy,h⟩:=aS h
    refine cal false [.t (.int .i64)] [] (some 23) K (ok84 N _ hy) ?_
    have⟨g73,h⟩:=gS h
    refine sN K [3, 12, 13, 14] [0] ⟨[(3, hh 0), (12, Vv (.sl (.int .i64)) a0), (13, I x51), (14, I x52)], [ar 0 (.int .u8) (x50 ++ y72) .dp]⟩ (an g73 (tn 1)) <| nE K (tn 2) ?_
    exact aro [.ren [3, 12, 13, 14] [0]] ⟨(x50 ++ y72), x51, (wr (x52 + (1 : Int))), rfl, h⟩
   refine VW.exit ?_
   exact arv [.ren [3] [0]] ⟨x50, rfl, h⟩
 rintro s ⟨x37, rfl, h⟩
 unfold F130_j0 at h
 refine nR K (tn 2) ?_
 cases h; exact VW.ret (rt [some 0])
def F85 (N : Nat) (a0 : Z76) : Option ((List Int)) :=
  andO (F125 N a0) fun y2 => cond (!y2) (some ([])) (andO (F84 N a0.1) fun y3 => cond (a0.1 == (0 : Int)) (andO (F127 N a0.2.1) fun y18 => gd (y3.length + y18.length ≤ lim (.int .u8)) (some (y3 ++ y18))) (cond (a0.1 == (1 : Int)) (andO (F129 N a0.2.2.2.2.2.1) fun y20 => andO (F128 N ([a0.2.2.1, a0.2.2.2.1, y20, a0.2.2.2.2.1])) fun y21 => gd (y3.length + y21.length ≤ lim (.int .u8)) (some (y3 ++ y21))) (cond (a0.1 == (2 : Int)) (andO (F130 N a0.2.2.2.2.2.2) fun y23 => gd (y3.length + y23.length ≤ lim (.int .u8)) (some (y3 ++ y23))) (cond (a0.1 == (3 : Int)) (andO (F128 N ([a0.2.2.1, a0.2.2.2.2.1])) fun y25 => gd (y3.length + y25.length ≤ lim (.int .u8)) (some (y3 ++ y25))) (cond (a0.1 == (5 : Int)) (andO (F128 N ([a0.2.2.1])) fun y27 => gd (y3.length + y27.length ≤ lim (.int .u8)) (some (y3 ++ y27))) (cond (a0.1 == (6 : Int)) (andO (F129 N a0.2.2.2.2.2.1) fun y29 => andO (F128 N ([y29, a0.2.2.2.2.1])) fun y30 => gd (y3.length + y30.length ≤ lim (.int .u8)) (some (y3 ++ y30))) (some y3)))))))
theorem ok85 N a0 {r} (h : F85 N a0 = some r) : Con prog 85 [.agg (lv Y76 a0)] [.lf (.own (.int .u8) r .dp)] := by
 refine ctr [.lf (.own (.int .u8) .dp)] K func85 rfl fun w0 E0 ht => ?_
 unfold F85 at h
 show VW _ _ _ _ _ (retQ _ _ _ _) _
 refine nR K (tn 2) <| sq <| sq <| VW.region <| nG K 1 (tn 1) ?_
 have⟨y2,hy,h⟩:=aS h
 refine cal false [.t Y76] [] (some 5) K (ok125 N _ hy) <| nN K (tn 1) ?_
 refine cnd h ?_ ?_<;>intro h
 ·refine nR K (tn 1) ?_
  cases h; exact VW.ret (rt [none])
 refine VW.skip <| sq <| VW.region <| nG K 2 (tn 2) ?_
 have⟨y3,hy,h⟩:=aS h
 refine cal false [.t (.int .i64)] [] (some 9) K (ok84 N _ hy) <| nN K (tn 1) <| sq <| sRh K [1, 3, 11] [0, 1] [(1, .lf (.ptr 0 0 0 0)), (3, hh 1), (11, I a0.1)] (tn 2) <| VW.block <| nR K (tn 2) ?_
 refine cnd h ?_ ?_<;>intro h
 ·refine sq <| VW.region <| nG K 3 (tn 3) ?_
  have⟨y18,hy,h⟩:=aS h
  refine cal false [.t .str] [] (some 17) K (ok127 N _ hy) ?_
  have⟨g19,h⟩:=gS h
  refine nN K (an g19 (tn 1)) ?_
  cases h; exact VW.ret (rt [some 1])
 refine nR K (tn 2) ?_
 refine cnd h ?_ ?_<;>intro h
 ·refine sq ?_
  have⟨y20,hy20,h⟩:=aS h
  have⟨y21,hy21,h⟩:=aS h
  have⟨g22,h⟩:=gS h
  refine dr K [(7, .cl [] (some 28) [.lf (.v (.int .i64) y20)]), (11, .cl [] (some 32) [.lf (.own (.int .u8) y21 .dp)])] [(7, 0), (11, 1)] [10, 11, 12] [2] [1] (pu 12 (an g22 (tn 1))) ⟨qC false [.t .bool] [] [] (some 28) K (ok129 N _ hy20), qC true [.t (.sl (.int .i64))] [] [] (some 32) K (ok128 N _ hy21), trivial⟩ ?_
  cases h; exact VW.ret (rt [some 0])
 refine nR K (tn 2) ?_
 refine cnd h ?_ ?_<;>intro h
 ·refine sq <| VW.region <| nG K 3 (tn 3) ?_
  have⟨y23,hy,h⟩:=aS h
  refine cal false [.t (.sl (.int .i64))] [] (some 39) K (ok130 N _ hy) ?_
  have⟨g24,h⟩:=gS h
  refine nN K (an g24 (tn 1)) ?_
  cases h; exact VW.ret (rt [some 1])
 refine nR K (tn 2) ?_
 refine cnd h ?_ ?_<;>intro h
 ·refine sq <| VW.region <| nG K 6 (tn 6) ?_
  have⟨y25,hy,h⟩:=aS h
  refine cal true [.t (.sl (.int .i64))] [] (some 49) K (ok128 N _ hy) ?_
  have⟨g26,h⟩:=gS h
  refine sN K [2] [1] ⟨[(2, hh 0)], [ar 0 (.int .u8) (y3 ++ y25) .dp]⟩ (an g26 (tn 1)) ?_
  cases h; exact VW.ret (rt [some 0])
 refine nR K (tn 2) ?_
 refine cnd h ?_ ?_<;>intro h
 ·refine sq <| VW.region <| sG K 4 [53, 56] [1, 2] ⟨[(53, hh 0), (56, hh 1)], [ar 0 (.int .u8) y3 .dp, ar 0 (.int .i64) ([a0.2.2.1]) .dp]⟩ (tn 4) ?_
  have⟨y27,hy,h⟩:=aS h
  refine cal true [.t (.sl (.int .i64))] [] (some 57) K (ok128 N _ hy) ?_
  have⟨g28,h⟩:=gS h
  refine nN K (an g28 (tn 1)) ?_
  cases h; exact VW.ret (rt [some 0])
 refine sRh K [1, 3, 59] [0, 1] [(1, .lf (.ptr 0 0 0 0)), (3, hh 1), (59, B (a0.1 == (6 : Int)))] (tn 2) ?_
 refine cnd h ?_ ?_<;>intro h
 ·refine sq ?_
  have⟨y29,hy29,h⟩:=aS h
  have⟨y30,hy30,h⟩:=aS h
  have⟨g31,h⟩:=gS h
  refine dr K [(3, .cl [] (some 64) [.lf (.v (.int .i64) y29)]), (7, .cl [] (some 68) [.lf (.own (.int .u8) y30 .dp)])] [(3, 0), (7, 1)] [6, 7, 8] [2] [1] (pu 8 (an g31 (tn 1))) ⟨qC false [.t .bool] [] [] (some 64) K (ok129 N _ hy29), qC true [.t (.sl (.int .i64))] [] [] (some 68) K (ok128 N _ hy30), trivial⟩ ?_
  cases h; exact VW.ret (rt [some 0])
 refine VW.skip <| nR K (tn 2) ?_
 cases h; exact VW.ret (rt [some 1])
def F87_j0 (N : Nat) (x12 : Int) : Option (Int) :=
  some x12
def F87_l0_b (N : Nat) (a0 : (List Int)) (nx22 : Int → Int → Int → Option (Int)) (x17 : Int) (x18 : Int) (x19 : Int) : Option (Int) :=
  cond (decide (x19 < x18)) (gd (InR x19 a0.length) (nx22 (Int.tmod (IntKind.i64.wrap ((IntKind.i64.wrap ((269 : Int) * x17)) + (IntKind.i64.wrap (a0.getD x19.toNat (Ty.dflt (.int .u8)))))) (999983 : Int)) x18 (IntKind.i64.wrap (x19 + (1 : Int))))) (F87_j0 N x17)
def F87_l0 (N : Nat) (a0 : (List Int)) := loopF (F87_l0_b N a0) (fun _ _ _ => none)
theorem F87_l0_s N a0 {k} (hk : 0 < k) x17 x18 x19 : F87_l0 N a0 k x17 x18 x19 = F87_l0_b N a0 (F87_l0 N a0 (k - 1)) x17 x18 x19 := by cases k;cases hk;rfl
def F87 (N : Nat) (a0 : (List Int)) : Option (Int) :=
  F87_l0 N a0 N (5 : Int) (a0.length : Int) (0 : Int)
theorem ok87 N a0 {r} (h : F87 N a0 = some r) : Con prog 87 [Vv (.sl (.int .u8)) a0] [.lf (.v (.int .i64) r)] := by
 refine ctr [.lf (.v (.int .i64))] K func87 rfl fun w0 E0 ht => ?_
 unfold F87 at h
 show VW _ _ _ _ _ (retQ _ _ _ _) _
 refine nR K (tn 1) <| nR K (tn 1) ?_
 refine VW.join (fun s => ∃ x12, s = ⟨[(3, I x12)], []⟩ ∧ F87_j0 N x12 = some r) ?_ ?_
 ·refine nR K (tn 3) <| VW.block <| lop (fun k s => ∃ x17 x18 x19, s = ⟨[(3, I x17), (6, Vv (.sl (.int .u8)) a0), (7, I x18), (8, I x19)], []⟩ ∧ F87_l0 N a0 k x17 x18 x19 = some r) N [.ren [3, 6, 7, 8] []] ⟨(5 : Int), (a0.length : Int), (0 : Int), rfl, h⟩ ?_
  rintro k22 s ⟨x17, x18, x19, rfl, h⟩
  cases k22 with
  | zero => cases show none = some r from h
  | succ k22 =>
   replace h : F87_l0_b N a0 (F87_l0 N a0 k22) x17 x18 x19 = some r := h
   unfold F87_l0_b at h
   refine nR K (tn 1) <| sq ?_
   refine cnd h ?_ ?_<;>intro h
   ·refine VW.skip <| sq <| VW.block ?_
    have⟨g24,h⟩:=gS h
    refine nR K (an g24 (tn 2)) <| nE K (pu 5 (an (show ((999983 : Int) ≠ 0) from by decide) (tn 1))) <| nE K (tn 2) ?_
    exact aro [.ren [3, 6, 7, 8] []] ⟨(Int.tmod (wr ((wr ((269 : Int) * x17)) + (wr (a0.getD x19.toNat (Ty.dflt (.int .u8)))))) (999983 : Int)), x18, (wr (x19 + (1 : Int))), rfl, h⟩
   refine VW.exit ?_
   exact arv [.ren [3] []] ⟨x17, rfl, h⟩
 rintro s ⟨x12, rfl, h⟩
 unfold F87_j0 at h
 refine nR K (tn 2) ?_
 cases h; exact VW.ret (rt [])
def F164_j0 (N : Nat) (x4 : (List Int)) : Option ((List Int)) :=
  some x4
def F164 (N : Nat) (a0 : (List Int)) (a1 : Int) : Option ((List Int)) :=
  cond (decide (a1 < (0 : Int))) (none) (cond (decide ((IntKind.i64.wrap (a1 - (IntKind.i64.wrap ((0 : Int) - (0 : Int))))) > (0 : Int))) (gd ((0 : Int) = (0 : Int)) (gd (0 ≤ (IntKind.i64.wrap (a1 - (IntKind.i64.wrap ((0 : Int) - (0 : Int))))) ∧ (IntKind.i64.wrap (a1 - (IntKind.i64.wrap ((0 : Int) - (0 : Int))))) ≤ (lim (.int .u8) : Int)) (gd (0 ≤ (0 : Int) ∧ (0 : Int) ≤ ((List.replicate (IntKind.i64.wrap (a1 - (IntKind.i64.wrap ((0 : Int) - (0 : Int))))).toNat (Ty.dflt (.int .u8))).length : Int)) (F164_j0 N ((List.replicate (IntKind.i64.wrap (a1 - (IntKind.i64.wrap ((0 : Int) - (0 : Int))))).toNat (Ty.dflt (.int .u8))).take ((0 : Int).toNat)))))) (F164_j0 N ([])))
theorem ok164 N a0 a1 {r} (h : F164 N a0 a1 = some r) : Con prog 164 [.lf (.nil), I a1] [.lf (.own (.int .u8) r .dp)] := by
 refine ctr [.lf (.own (.int .u8) .dp)] K func164 rfl fun w0 E0 ht => ?_
 unfold F164 at h
 show VW _ _ _ _ _ (retQ _ _ _ _) _
 refine nR K (tn 1) <| sq <| nR K (tn 2) ?_
 refine cnd h ?_ ?_<;>intro h
 ·exact nomatch h
 refine VW.skip ?_
 refine VW.join (fun s => ∃ x4, s = ⟨[(0, hh 0)], [ar 0 (.int .u8) x4 .dp]⟩ ∧ F164_j0 N x4 = some r) ?_ ?_
 ·refine sq <| VW.region <| nG K 2 (tn 2) <| VO.capN (d := 10) (v := I (0 : Int)) K (by kernel_rfl) <| nN K (tn 5) <| nR K (tn 2) ?_
  refine cnd h ?_ ?_<;>intro h
  ·refine VW.region <| nG K 2 (tn 2) <| VO.capN (d := 19) (v := I (0 : Int)) K (by kernel_rfl) ?_
   have⟨g6,h⟩:=gS h
   refine VO.cutN (d := 20) (φ := (0 : Int) = (0 : Int)) (v := .lf .nil) K (by kernel_rfl) g6 <| nG K 1 (tn 1) ?_
   have⟨g7,h⟩:=gS h
   refine VO.appZ (d := 22) (φ := 0 ≤ (wr (a1 - (wr ((0 : Int) - (0 : Int))))) ∧ (wr (a1 - (wr ((0 : Int) - (0 : Int))))) ≤ (lim (.int .u8) : Int)) (v := hh 0) (H' := [ar 0 (.int .u8) (List.replicate (wr (a1 - (wr ((0 : Int) - (0 : Int))))).toNat (Ty.dflt (.int .u8))) .dp]) K (by kernel_rfl) g7 ?_
   have⟨g8,h⟩:=gS h
   refine nN K (pu 2 (an g8 (tn 1))) ?_
   exact arv [.shr 0, .ren [0] [0]] ⟨((List.replicate (wr (a1 - (wr ((0 : Int) - (0 : Int))))).toNat (Ty.dflt (.int .u8))).take ((0 : Int).toNat)), rfl, h⟩
  refine VW.skip ?_
  exact arv [.nilS 0 (.int .u8) .dp, .ren [0] [0]] ⟨[], rfl, h⟩
 rintro s ⟨x4, rfl, h⟩
 unfold F164_j0 at h
 refine nR K (tn 2) ?_
 cases h; exact VW.ret (rt [some 0])
def F131_j0 (N : Nat) (x31 : (List Int)) : Option ((List Int)) :=
  some x31
def F131_l0_b (N : Nat) (a0 : (List (List Int))) (nx45 : (List Int) → Int → Int → Option ((List Int))) (x38 : (List Int)) (x39 : Int) (x40 : Int) : Option ((List Int)) :=
  cond (decide (x40 < x39)) (gd (InR x40 a0.length) (gd (x38.length + (a0.getD x40.toNat (Ty.dflt (.sl (.int .u8)))).length ≤ lim (.int .u8)) (nx45 (x38 ++ (a0.getD x40.toNat (Ty.dflt (.sl (.int .u8))))) x39 (IntKind.i64.wrap (x40 + (1 : Int)))))) (F131_j0 N x38)
def F131_l0 (N : Nat) (a0 : (List (List Int))) := loopF (F131_l0_b N a0) (fun _ _ _ => none)
theorem F131_l0_s N a0 {k} (hk : 0 < k) x38 x39 x40 : F131_l0 N a0 k x38 x39 x40 = F131_l0_b N a0 (F131_l0 N a0 (k - 1)) x38 x39 x40 := by cases k;cases hk;rfl
def F131_j1 (N : Nat) (a0 : (List (List Int))) (x12 : Int) : Option ((List Int)) :=
  andO (F164 N ([]) x12) fun y13 => F131_l0 N a0 N y13 (a0.length : Int) (0 : Int)
def F131_l1_b (N : Nat) (a0 : (List (List Int))) (nx59 : Int → Int → Int → Option ((List Int))) (x54 : Int) (x55 : Int) (x56 : Int) : Option ((List Int)) :=
  cond (decide (x56 < x55)) (gd (InR x56 a0.length) (cond (decide ((IntKind.i64.wrap (x54 + ((a0.getD x56.toNat (Ty.dflt (.sl (.int .u8)))).length : Int))) < (0 : Int))) (none) (nx59 (IntKind.i64.wrap (x54 + ((a0.getD x56.toNat (Ty.dflt (.sl (.int .u8)))).length : Int))) x55 (IntKind.i64.wrap (x56 + (1 : Int)))))) (F131_j1 N a0 x54)
def F131_l1 (N : Nat) (a0 : (List (List Int))) := loopF (F131_l1_b N a0) (fun _ _ _ => none)
theorem F131_l1_s N a0 {k} (hk : 0 < k) x54 x55 x56 : F131_l1 N a0 k x54 x55 x56 = F131_l1_b N a0 (F131_l1 N a0 (k - 1)) x54 x55 x56 := by cases k;cases hk;rfl
def F131 (N : Nat) (a0 : (List (List Int))) : Option ((List Int)) :=
  F131_l1 N a0 N (0 : Int) (a0.length : Int) (0 : Int)
theorem ok131 N a0 {r} (h : F131 N a0 = some r) : Con prog 131 [Vv (.sl (.sl (.int .u8))) a0] [.lf (.own (.int .u8) r .dp)] := by
 refine ctr [.lf (.own (.int .u8) .dp)] K func131 rfl fun w0 E0 ht => ?_
 unfold F131 at h
 show VW _ _ _ _ _ (retQ _ _ _ _) _
 refine nR K (tn 1) <| nR K (tn 1) ?_
 refine VW.join (fun s => ∃ x12, s = ⟨[(0, Vv (.sl (.sl (.int .u8))) a0), (3, I x12)], []⟩ ∧ F131_j1 N a0 x12 = some r) ?_ ?_
 ·refine nR K (tn 3) <| VW.block <| lop (fun k s => ∃ x54 x55 x56, s = ⟨[(0, Vv (.sl (.sl (.int .u8))) a0), (3, I x54), (9, Vv (.sl (.sl (.int .u8))) a0), (10, I x55), (11, I x56)], []⟩ ∧ F131_l1 N a0 k x54 x55 x56 = some r) N [.ren [0, 3, 9, 10, 11] []] ⟨(0 : Int), (a0.length : Int), (0 : Int), rfl, h⟩ ?_
  rintro k59 s ⟨x54, x55, x56, rfl, h⟩
  cases k59 with
  | zero => cases show none = some r from h
  | succ k59 =>
   replace h : F131_l1_b N a0 (F131_l1 N a0 k59) x54 x55 x56 = some r := h
   unfold F131_l1_b at h
   refine nR K (tn 1) <| sq ?_
   refine cnd h ?_ ?_<;>intro h
   ·refine VW.skip <| sq <| VW.block ?_
    have⟨g61,h⟩:=gS h
    refine nR K (an g61 (tn 2)) <| nR K (tn 5) <| nR K (tn 2) ?_
    refine cnd h ?_ ?_<;>intro h
    ·exact nomatch h
    refine VW.skip <| nE K (tn 2) ?_
    exact aro [.ren [0, 3, 9, 10, 11] []] ⟨(wr (x54 + ((a0.getD x56.toNat (Ty.dflt (.sl (.int .u8)))).length : Int))), x55, (wr (x56 + (1 : Int))), rfl, h⟩
   refine VW.exit ?_
   exact arv [.ren [0, 3] []] ⟨x54, rfl, h⟩
 rintro s ⟨x12, rfl, h⟩
 unfold F131_j1 at h
 refine sq <| VW.region <| nG K 1 (tn 1) ?_
 have⟨y13,hy,h⟩:=aS h
 refine cal false [.k, .t (.int .i64)] [] (some 24) K (ok164 N _ _ hy) <| nN K (tn 1) ?_
 refine VW.join (fun s => ∃ x31, s = ⟨[(6, hh 0)], [ar 0 (.int .u8) x31 .dp]⟩ ∧ F131_j0 N x31 = some r) ?_ ?_
 ·refine nR K (tn 3) <| VW.block <| lop (fun k s => ∃ x38 x39 x40, s = ⟨[(6, hh 0), (25, Vv (.sl (.sl (.int .u8))) a0), (26, I x39), (27, I x40)], [ar 0 (.int .u8) x38 .dp]⟩ ∧ F131_l0 N a0 k x38 x39 x40 = some r) N [.ren [6, 25, 26, 27] [0]] ⟨y13, (a0.length : Int), (0 : Int), rfl, h⟩ ?_
  rintro k45 s ⟨x38, x39, x40, rfl, h⟩
  cases k45 with
  | zero => cases show none = some r from h
  | succ k45 =>
   replace h : F131_l0_b N a0 (F131_l0 N a0 k45) x38 x39 x40 = some r := h
   unfold F131_l0_b at h
   refine nR K (tn 1) <| sq ?_
   refine cnd h ?_ ?_<;>intro h
   ·refine VW.skip <| sq <| VW.block ?_
    have⟨g48,h⟩:=gS h
    refine nR K (an g48 (tn 2)) ?_
    have⟨g49,h⟩:=gS h
    refine nE K (pu 2 (an g49 (tn 1))) <| nE K (tn 2) ?_
    exact aro [.ren [6, 25, 26, 27] [0]] ⟨(x38 ++ (a0.getD x40.toNat (Ty.dflt (.sl (.int .u8))))), x39, (wr (x40 + (1 : Int))), rfl, h⟩
   refine VW.exit ?_
   exact arv [.ren [6] [0]] ⟨x38, rfl, h⟩
 rintro s ⟨x31, rfl, h⟩
 unfold F131_j0 at h
 refine nR K (tn 2) ?_
 cases h; exact VW.ret (rt [some 0])
def F86 (N : Nat) (a0 : (List Int)) : Option ((List Int) × Bool) :=
  cond (decide ((a0.length : Int) > (4000 : Int))) (some ([], false)) (gd (0 < ([(80 : Int), (83 : Int)]).length) (andO (F84 N (a0.length : Int)) fun y2 => andO (F87 N a0) fun y3 => andO (F84 N y3) fun y4 => andO (F131 N ([[(80 : Int), (83 : Int)], y2, a0, y4])) fun y5 => some (y5, true)))
theorem ok86 N a0 {r} (h : F86 N a0 = some r) : Con prog 86 [Vv (.sl (.int .u8)) a0] [.lf (.own (.int .u8) r.1 .dp), .lf (.v .bool r.2)] := by
 refine ctr [.lf (.own (.int .u8) .dp), .lf (.v .bool)] K func86 rfl fun w0 E0 ht => ?_
 unfold F86 at h
 show VW _ _ _ _ _ (retQ _ _ _ _) _
 refine nR K (tn 2) <| sq <| nR K (tn 3) ?_
 refine cnd h ?_ ?_<;>intro h
 ·refine nR K (tn 2) ?_
  cases h; exact VW.ret (rt [none])
 refine VW.skip <| sq <| VW.region <| nG K 1 (tn 1) ?_
 have⟨g1,h⟩:=gS h
 refine VO.mark (d := 8) (φ := 0 < ([(80 : Int), (83 : Int)]).length) (v := Vv (.sl (.int .u8)) ([(80 : Int), (83 : Int)])) (H' := [none]) K (by kernel_rfl) g1 <| nG K 2 (tn 2) ?_
 have⟨y2,hy,h⟩:=aS h
 refine cal false [.t (.int .i64)] [] (some 11) K (ok84 N _ hy) <| nG K 2 (tn 2) ?_
 have⟨y3,hy,h⟩:=aS h
 refine cal false [.t (.sl (.int .u8))] [] (some 14) K (ok87 N _ hy) ?_
 have⟨y4,hy,h⟩:=aS h
 refine cal false [.t (.int .i64)] [] (some 15) K (ok84 N _ hy) <| VO.ghl [.frz 1, .frz 2] <| nG K 1 (tn 1) ?_
 have⟨y5,hy,h⟩:=aS h
 refine cal true [.t (.sl (.sl (.int .u8)))] [] (some 17) K (ok131 N _ hy) <| nN K (tn 2) ?_
 cases h; exact VW.ret (rt [some 4])
def F43_j0 (N : Nat) (x27 : (List Int)) : Option ((List Int) × Bool) :=
  andO (F86 N x27) fun y28 => some (y28.1, y28.2)
def F43_l0_b (N : Nat) (a0 : (List Z76)) (nx46 : (List Int) → Int → Int → Option ((List Int) × Bool)) (x37 : (List Int)) (x38 : Int) (x39 : Int) : Option ((List Int) × Bool) :=
  cond (decide (x39 < x38)) (gd (InR x39 a0.length) (andO (F85 N (a0.getD x39.toNat (Ty.dflt Y76))) fun y51 => gd (x37.length + y51.length ≤ lim (.int .u8)) (nx46 (x37 ++ y51) x38 (IntKind.i64.wrap (x39 + (1 : Int)))))) (F43_j0 N x37)
def F43_l0 (N : Nat) (a0 : (List Z76)) := loopF (F43_l0_b N a0) (fun _ _ _ => none)
theorem F43_l0_s N a0 {k} (hk : 0 < k) x37 x38 x39 : F43_l0 N a0 k x37 x38 x39 = F43_l0_b N a0 (F43_l0 N a0 (k - 1)) x37 x38 x39 := by cases k;cases hk;rfl
def F43 (N : Nat) (a0 : (List Z76)) : Option ((List Int) × Bool) :=
  andO (F83 N a0) fun y2 => cond (!y2) (some ([], false)) (andO (F84 N (a0.length : Int)) fun y3 => F43_l0 N a0 N y3 (a0.length : Int) (0 : Int))
theorem ok43 N a0 {r} (h : F43 N a0 = some r) : Con prog 43 [Vv (.sl Y76) a0] [.lf (.own (.int .u8) r.1 .dp), .lf (.v .bool r.2)] := by
 refine ctr [.lf (.own (.int .u8) .dp), .lf (.v .bool)] K func43 rfl fun w0 E0 ht => ?_
 unfold F43 at h
 show VW _ _ _ _ _ (retQ _ _ _ _) _
 refine nR K (tn 2) <| sq <| sq <| VW.region <| nG K 1 (tn 1) ?_
 have⟨y2,hy,h⟩:=aS h
 refine cal false [.t (.sl Y76)] [] (some 8) K (ok83 N _ hy) <| nN K (tn 1) ?_
 refine cnd h ?_ ?_<;>intro h
 ·refine nR K (tn 2) ?_
  cases h; exact VW.ret (rt [none])
 refine VW.skip <| sq <| VW.region <| nG K 2 (tn 2) ?_
 have⟨y3,hy,h⟩:=aS h
 refine cal false [.t (.int .i64)] [] (some 12) K (ok84 N _ hy) <| nN K (tn 1) ?_
 refine VW.join (fun s => ∃ x27, s = ⟨[(4, hh 0)], [ar 0 (.int .u8) x27 .dp]⟩ ∧ F43_j0 N x27 = some r) ?_ ?_
 ·refine sRh K [4, 13, 14, 15] [0] [(4, hh 0), (13, Vv (.sl Y76) a0), (14, I (a0.length : Int)), (15, I (0 : Int))] (tn 3) <| VW.block <| lop (fun k s => ∃ x37 x38 x39, s = ⟨[(4, hh 0), (13, Vv (.sl Y76) a0), (14, I x38), (15, I x39)], [ar 0 (.int .u8) x37 .dp]⟩ ∧ F43_l0 N a0 k x37 x38 x39 = some r) N [.ren [4, 13, 14, 15] [0]] ⟨y3, (a0.length : Int), (0 : Int), rfl, h⟩ ?_
  rintro k46 s ⟨x37, x38, x39, rfl, h⟩
  cases k46 with
  | zero => cases show none = some r from h
  | succ k46 =>
   replace h : F43_l0_b N a0 (F43_l0 N a0 k46) x37 x38 x39 = some r := h
   unfold F43_l0_b at h
   refine nR K (tn 1) <| sq ?_
   refine cnd h ?_ ?_<;>intro h
   ·refine VW.skip <| sq <| VW.block ?_
    have⟨g50,h⟩:=gS h
    refine nR K (an g50 (tn 3)) <| VW.region <| nG K 2 (tn 2) ?_
    have⟨y51,hy,h⟩:=aS h
    refine cal false [.t Y76] [] (some 21) K (ok85 N _ hy) ?_
    have⟨g52,h⟩:=gS h
    refine nN K (an g52 (tn 1)) <| nE K (tn 2) ?_
    exact aro [.ren [4, 13, 14, 15] [0]] ⟨(x37 ++ y51), x38, (wr (x39 + (1 : Int))), rfl, h⟩
   refine VW.exit ?_
   exact arv [.ren [4] [0]] ⟨x37, rfl, h⟩
 rintro s ⟨x27, rfl, h⟩
 unfold F43_j0 at h
 refine sq <| VW.region <| nG K 1 (tn 1) ?_
 have⟨y28,hy,h⟩:=aS h
 refine cal true [.t (.sl (.int .u8))] [] (some 25) K (ok86 N _ hy) <| nN K (tn 4) ?_
 cases h; exact VW.ret (rt [some 1])
def F18_j0 (N : Nat) (x21 : Int) : Option (Int) :=
  some x21
def F18_l0_b (N : Nat) (nx37 : Int → (List Int) → Int → Int → Option (Int)) (x29 : Int) (x30 : (List Int)) (x31 : Int) (x32 : Int) : Option (Int) :=
  cond (decide (x32 < x31)) (gd (InR x32 x30.length) (gd (x32.toNat < x30.length) (nx37 (Int.tmod (IntKind.i64.wrap ((IntKind.i64.wrap ((31 : Int) * x29)) + (IntKind.i64.wrap (x30.getD x32.toNat (Ty.dflt (.int .u8)))))) (251 : Int)) x30 x31 (IntKind.i64.wrap (x32 + (1 : Int)))))) (F18_j0 N x29)
def F18_l0 (N : Nat) := loopF (F18_l0_b N) (fun _ _ _ _ => none)
theorem F18_l0_s N {k} (hk : 0 < k) x29 x30 x31 x32 : F18_l0 N k x29 x30 x31 x32 = F18_l0_b N (F18_l0 N (k - 1)) x29 x30 x31 x32 := by cases k;cases hk;rfl
def F18 (N : Nat) (a0 : (List Z76)) : Option (Int) :=
  andO (F43 N a0) fun y1 => cond (!y1.2) (some (-1 : Int)) (F18_l0 N N (97 : Int) y1.1 (y1.1.length : Int) (0 : Int))
theorem ok18 N a0 {r} (h : F18 N a0 = some r) : Con prog 18 [Vv (.sl Y76) a0] [.lf (.v (.int .i64) r)] := by
 refine ctr [.lf (.v (.int .i64))] K func18 rfl fun w0 E0 ht => ?_
 unfold F18 at h
 show VW _ _ _ _ _ (retQ _ _ _ _) _
 refine nR K (tn 1) <| sq <| VW.region <| nG K 1 (tn 1) ?_
 have⟨y1,hy,h⟩:=aS h
 refine cal false [.t (.sl Y76)] [] (some 10) K (ok43 N _ hy) <| nN K (tn 5) <| sq <| nR K (tn 2) ?_
 refine cnd h ?_ ?_<;>intro h
 ·refine nR K (tn 1) ?_
  cases h; exact VW.ret (rt [])
 refine VW.skip <| nR K (tn 1) ?_
 refine VW.join (fun s => ∃ x21, s = ⟨[(5, I x21)], []⟩ ∧ F18_j0 N x21 = some r) ?_ ?_
 ·refine sRh K [5, 15, 16, 17] [0] [(5, I (97 : Int)), (15, hh 0), (16, I (y1.1.length : Int)), (17, I (0 : Int))] (tn 3) <| VW.block <| lop (fun k s => ∃ x29 x30 x31 x32, s = ⟨[(5, I x29), (15, hh 0), (16, I x31), (17, I x32)], [ar 0 (.int .u8) x30 .dp]⟩ ∧ F18_l0 N k x29 x30 x31 x32 = some r) N [.ren [5, 15, 16, 17] [0]] ⟨(97 : Int), y1.1, (y1.1.length : Int), (0 : Int), rfl, h⟩ ?_
  rintro k37 s ⟨x29, x30, x31, x32, rfl, h⟩
  cases k37 with
  | zero => cases show none = some r from h
  | succ k37 =>
   replace h : F18_l0_b N (F18_l0 N k37) x29 x30 x31 x32 = some r := h
   unfold F18_l0_b at h
   refine nR K (tn 1) <| sq ?_
   refine cnd h ?_ ?_<;>intro h
   ·refine VW.skip <| sq <| VW.block ?_
    have⟨g40,h⟩:=gS h
    have⟨g41,h⟩:=gS h
    refine nR K (an g40 (an g41 (tn 1))) <| nE K (pu 5 (an (show ((251 : Int) ≠ 0) from by decide) (tn 1))) <| nE K (tn 2) ?_
    exact aro [.ren [5, 15, 16, 17] [0]] ⟨(Int.tmod (wr ((wr ((31 : Int) * x29)) + (wr (x30.getD x32.toNat (Ty.dflt (.int .u8)))))) (251 : Int)), x30, x31, (wr (x32 + (1 : Int))), rfl, h⟩
   refine VW.exit ?_
   exact arv [.ren [5] []] ⟨x29, rfl, h⟩
 rintro s ⟨x21, rfl, h⟩
 unfold F18_j0 at h
 refine nR K (tn 2) ?_
 cases h; exact VW.ret (rt [])
def F102_j0 (N : Nat) : Option (Bool) :=
  some true
def F102_l0_b (N : Nat) (a0 : (List Int)) (a1 : (List Int)) (nx25 : Int → Option (Bool)) (x20 : Int) : Option (Bool) :=
  cond (decide (x20 < (a0.length : Int))) (gd (InR x20 a0.length) (gd (InR x20 a1.length) (cond ((a0.getD x20.toNat (Ty.dflt (.int .i64))) != (a1.getD x20.toNat (Ty.dflt (.int .i64)))) (some false) (nx25 (IntKind.i64.wrap (x20 + (1 : Int))))))) (F102_j0 N)
def F102_l0 (N : Nat) (a0 : (List Int)) (a1 : (List Int)) := loopF (F102_l0_b N a0 a1) (fun _ => none)
theorem F102_l0_s N a0 a1 {k} (hk : 0 < k) x20 : F102_l0 N a0 a1 k x20 = F102_l0_b N a0 a1 (F102_l0 N a0 a1 (k - 1)) x20 := by cases k;cases hk;rfl
def F102 (N : Nat) (a0 : (List Int)) (a1 : (List Int)) : Option (Bool) :=
  cond ((a0.length : Int) != (a1.length : Int)) (some false) (F102_l0 N a0 a1 N (0 : Int))
theorem ok102 N a0 a1 {r} (h : F102 N a0 a1 = some r) : Con prog 102 [Vv (.sl (.int .i64)) a0, Vv (.sl (.int .i64)) a1] [.lf (.v .bool r)] := by
 refine ctr [.lf (.v .bool)] K func102 rfl fun w0 E0 ht => ?_
 unfold F102 at h
 show VW _ _ _ _ _ (retQ _ _ _ _) _
 refine nR K (tn 1) <| sq <| nR K (tn 5) ?_
 refine cnd h ?_ ?_<;>intro h
 ·refine nR K (tn 1) ?_
  cases h; exact VW.ret (rt [])
 refine VW.skip ?_
 refine VW.join (fun s => s = ⟨[], []⟩ ∧ F102_j0 N = some r) ?_ ?_
 ·refine nR K (tn 1) <| VW.block <| lop (fun k s => ∃ x20, s = ⟨[(0, Vv (.sl (.int .i64)) a0), (1, Vv (.sl (.int .i64)) a1), (5, I x20)], []⟩ ∧ F102_l0 N a0 a1 k x20 = some r) N [.ren [0, 1, 5] []] ⟨(0 : Int), rfl, h⟩ ?_
  rintro k25 s ⟨x20, rfl, h⟩
  cases k25 with
  | zero => cases show none = some r from h
  | succ k25 =>
   replace h : F102_l0_b N a0 a1 (F102_l0 N a0 a1 k25) x20 = some r := h
   unfold F102_l0_b at h
   refine sq <| nR K (tn 4) ?_
   refine cnd h ?_ ?_<;>intro h
   ·refine VW.skip <| sq <| VW.block <| sq ?_
    have⟨g28,h⟩:=gS h
    have⟨g29,h⟩:=gS h
    refine dr K [] [] [] [0, 1, 5, 25] [] (pu 2 (an g28 (pu 3 (an g29 (tn 2))))) trivial ?_
    refine cnd h ?_ ?_<;>intro h
    ·refine nR K (tn 1) ?_
     cases h; exact VW.ret (rt [])
    refine VW.skip <| nE K (tn 3) ?_
    exact aro [.ren [0, 1, 5] []] ⟨(wr (x20 + (1 : Int))), rfl, h⟩
   refine VW.exit ?_
   exact arv [.ren [] []] ⟨rfl, h⟩
 rintro s ⟨rfl, h⟩
 unfold F102_j0 at h
 refine nR K (tn 1) ?_
 cases h; exact VW.ret (rt [])
def F58 (N : Nat) (a0 : Z76) (a1 : Z76) : Option (Bool) :=
  cond (a0.1 != a1.1) (some false) (cond (!(a0.2.1.toList == a1.2.1.toList)) (some false) (cond (a0.2.2.1 != a1.2.2.1) (some false) (cond (a0.2.2.2.1 != a1.2.2.2.1) (some false) (cond (a0.2.2.2.2.1 != a1.2.2.2.2.1) (some false) (cond (!(a0.2.2.2.2.2.1 == a1.2.2.2.2.2.1)) (some false) (andO (F102 N a0.2.2.2.2.2.2 a1.2.2.2.2.2.2) fun y2 => cond (!y2) (some false) (some true)))))))
theorem ok58 N a0 a1 {r} (h : F58 N a0 a1 = some r) : Con prog 58 [.agg (lv Y76 a0), .agg (lv Y76 a1)] [.lf (.v .bool r)] := by
 refine ctr [.lf (.v .bool)] K func58 rfl fun w0 E0 ht => ?_
 unfold F58 at h
 show VW _ _ _ _ _ (retQ _ _ _ _) _
 refine nR K (tn 3) <| sq <| nR K (tn 5) ?_
 refine cnd h ?_ ?_<;>intro h
 ·refine nR K (tn 1) ?_
  cases h; exact VW.ret (rt [])
 refine VW.skip <| sq <| nR K (tn 5) ?_
 refine cnd h ?_ ?_<;>intro h
 ·refine nR K (tn 1) ?_
  cases h; exact VW.ret (rt [])
 refine VW.skip <| sq <| nR K (tn 5) ?_
 refine cnd h ?_ ?_<;>intro h
 ·refine nR K (tn 1) ?_
  cases h; exact VW.ret (rt [])
 refine VW.skip <| sq <| nR K (tn 5) ?_
 refine cnd h ?_ ?_<;>intro h
 ·refine sR K [4] [] ⟨[(4, B false)], []⟩ (tn 1) ?_
  cases h; exact VW.ret (rt [])
 refine VW.skip <| sq <| sRh K [2, 3, 29] [0, 1] [(2, .lf (.ptr 0 0 0 0)), (3, .lf (.ptr 1 0 0 0)), (29, B (a0.2.2.2.2.1 != a1.2.2.2.2.1))] (tn 5) ?_
 refine cnd h ?_ ?_<;>intro h
 ·refine nR K (tn 1) ?_
  cases h; exact VW.ret (rt [])
 refine VW.skip <| sq <| nR K (tn 5) ?_
 refine cnd h ?_ ?_<;>intro h
 ·refine nR K (tn 1) ?_
  cases h; exact VW.ret (rt [])
 refine VW.skip <| sq <| sq <| VW.region <| nG K 4 (tn 4) ?_
 have⟨y2,hy,h⟩:=aS h
 refine cal false [.t (.sl (.int .i64)), .t (.sl (.int .i64))] [] (some 39) K (ok102 N _ _ hy) <| nN K (tn 1) ?_
 refine cnd h ?_ ?_<;>intro h
 ·refine nR K (tn 1) ?_
  cases h; exact VW.ret (rt [])
 refine VW.skip <| nR K (tn 1) ?_
 cases h; exact VW.ret (rt [])
def F19_j0 (N : Nat) : Option (Bool) :=
  some true
def F19_l0_b (N : Nat) (a0 : (List Z76)) (a1 : (List Z76)) (nx35 : Int → Option (Bool)) (x28 : Int) : Option (Bool) :=
  cond (decide (x28 < (a0.length : Int))) (gd (InR x28 a0.length) (gd (InR x28 a1.length) (andO (F58 N (a0.getD x28.toNat (Ty.dflt Y76)) (a1.getD x28.toNat (Ty.dflt Y76))) fun y41 => cond (!y41) (some false) (nx35 (IntKind.i64.wrap (x28 + (1 : Int))))))) (F19_j0 N)
def F19_l0 (N : Nat) (a0 : (List Z76)) (a1 : (List Z76)) := loopF (F19_l0_b N a0 a1) (fun _ => none)
theorem F19_l0_s N a0 a1 {k} (hk : 0 < k) x28 : F19_l0 N a0 a1 k x28 = F19_l0_b N a0 a1 (F19_l0 N a0 a1 (k - 1)) x28 := by cases k;cases hk;rfl
def F19 (N : Nat) (a0 : (List Z76)) (a1 : (List Z76)) : Option (Bool) :=
  cond ((a0.length : Int) != (a1.length : Int)) (some false) (F19_l0 N a0 a1 N (0 : Int))
theorem ok19 N a0 a1 {r} (h : F19 N a0 a1 = some r) : Con prog 19 [Vv (.sl Y76) a0, Vv (.sl Y76) a1] [.lf (.v .bool r)] := by
 refine ctr [.lf (.v .bool)] K func19 rfl fun w0 E0 ht => ?_
 unfold F19 at h
 show VW _ _ _ _ _ (retQ _ _ _ _) _
 refine nR K (tn 1) <| sq <| nR K (tn 5) ?_
 refine cnd h ?_ ?_<;>intro h
 ·refine nR K (tn 1) ?_
  cases h; exact VW.ret (rt [])
 refine VW.skip ?_
 refine VW.join (fun s => s = ⟨[], []⟩ ∧ F19_j0 N = some r) ?_ ?_
 ·refine nR K (tn 1) <| VW.block <| lop (fun k s => ∃ x28, s = ⟨[(0, Vv (.sl Y76) a0), (1, Vv (.sl Y76) a1), (5, I x28)], []⟩ ∧ F19_l0 N a0 a1 k x28 = some r) N [.ren [0, 1, 5] []] ⟨(0 : Int), rfl, h⟩ ?_
  rintro k35 s ⟨x28, rfl, h⟩
  cases k35 with
  | zero => cases show none = some r from h
  | succ k35 =>
   replace h : F19_l0_b N a0 a1 (F19_l0 N a0 a1 k35) x28 = some r := h
   unfold F19_l0_b at h
   refine sq <| nR K (tn 4) ?_
   refine cnd h ?_ ?_<;>intro h
   ·refine VW.skip <| sq <| VW.block <| sq ?_
    have⟨g39,h⟩:=gS h
    have⟨g40,h⟩:=gS h
    have⟨y41,hy41,h⟩:=aS h
    refine dr K [(8, .cl [] (some 25) [.lf (.v .bool y41)])] [(8, 0)] [] [0, 1, 5, 26] [] (pu 2 (an g39 (pu 3 (an g40 (tn 3))))) ⟨qC false [.t Y76, .t Y76] [] [] (some 25) K (ok58 N _ _ hy41), trivial⟩ ?_
    refine cnd h ?_ ?_<;>intro h
    ·refine nR K (tn 1) ?_
     cases h; exact VW.ret (rt [])
    refine VW.skip <| nE K (tn 3) ?_
    exact aro [.ren [0, 1, 5] []] ⟨(wr (x28 + (1 : Int))), rfl, h⟩
   refine VW.exit ?_
   exact arv [.ren [] []] ⟨rfl, h⟩
 rintro s ⟨rfl, h⟩
 unfold F19_j0 at h
 refine nR K (tn 1) ?_
 cases h; exact VW.ret (rt [])
def F4 (N : Nat) (a0 : (List Z76)) : Option (Bool) :=
  andO (F15 N a0 (1048576 : Int)) fun y1 => cond (decide (y1 < (0 : Int))) (some true) (andO (F17 N a0) fun y2 => andO (F16 N y2) fun y3 => andO (F17 N a0) fun y4 => andO (F18 N y4) fun y5 => cond (y5 != y3) (some false) (andO (F17 N a0) fun y8 => andO (F19 N y4 y8) fun y9 => cond (!y9) (some false) (some true)))
theorem ok4 N a0 {r} (h : F4 N a0 = some r) : Con prog 4 [Vv (.sl Y76) a0] [.lf (.v .bool r)] := by
 refine ctr [.lf (.v .bool)] K func4 rfl fun w0 E0 ht => ?_
 unfold F4 at h
 show VW _ _ _ _ _ (retQ _ _ _ _) _
 refine nR K (tn 1) <| nR K (tn 1) <| sq <| VW.region <| nG K 2 (tn 2) ?_
 have⟨y1,hy,h⟩:=aS h
 refine cal false [.t (.sl Y76), .t (.int .i64)] [] (some 9) K (ok15 N _ _ hy) <| nN K (tn 1) <| sq <| nR K (tn 2) ?_
 refine cnd h ?_ ?_<;>intro h
 ·refine sR K [2] [] ⟨[(2, B true)], []⟩ (tn 1) ?_
  cases h; exact VW.ret (rt [])
 refine VW.skip <| sq <| VW.region <| sG K 1 [0, 12] [] ⟨[(0, Vv (.sl Y76) a0), (12, Vv (.sl Y76) a0)], []⟩ (tn 1) ?_
 have⟨y2,hy,h⟩:=aS h
 refine cal false [.t (.sl Y76)] [] (some 13) K (ok17 N _ hy) ?_
 have⟨y3,hy,h⟩:=aS h
 refine cal true [.t (.sl Y76)] [] (some 14) K (ok16 N _ hy) <| nN K (tn 1) <| sq <| VW.region <| nG K 1 (tn 1) ?_
 have⟨y4,hy,h⟩:=aS h
 refine cal false [.t (.sl Y76)] [] (some 16) K (ok17 N _ hy) <| nN K (tn 1) <| sq <| VW.region <| nG K 1 (tn 1) ?_
 have⟨y5,hy,h⟩:=aS h
 refine cal true [.t (.sl Y76)] [] (some 18) K (ok18 N _ hy) <| nN K (tn 1) <| sq <| sR K [0, 5, 21] [1] ⟨[(0, Vv (.sl Y76) a0), (5, hh 0), (21, B (y5 != y3))], [ar 0 Y76 y4 .dp]⟩ (tn 3) ?_
 refine cnd h ?_ ?_<;>intro h
 ·refine nR K (tn 1) ?_
  cases h; exact VW.ret (rt [])
 refine VW.skip <| sq <| sq <| VW.region <| nG K 2 (tn 2) ?_
 have⟨y8,hy,h⟩:=aS h
 refine cal false [.t (.sl Y76)] [] (some 24) K (ok17 N _ hy) ?_
 have⟨y9,hy,h⟩:=aS h
 refine cal true [.t (.sl Y76), .t (.sl Y76)] [] (some 25) K (ok19 N _ _ hy) <| nN K (tn 1) ?_
 refine cnd h ?_ ?_<;>intro h
 ·refine nR K (tn 1) ?_
  cases h; exact VW.ret (rt [])
 refine VW.skip <| nR K (tn 1) ?_
 cases h; exact VW.ret (rt [])
end Go.Proofs.Ytjbahkjjgciooaa.Vc
