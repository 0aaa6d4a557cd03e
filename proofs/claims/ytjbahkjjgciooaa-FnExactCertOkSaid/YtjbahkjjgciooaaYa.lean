/- What functions of the program compute, and that they do. -/
import Derived.Test.YtjbahkjjgciooaaXc
import Derived.Test.YtjbahkjjgciooaaProg
namespace Go.Proofs.Ytjbahkjjgciooaa.Vc
open Go Go.RowKit Go.Proofs.Try
set_option linter.unusedVariables false
set_option maxRecDepth 100000
set_option maxHeartbeats 4000000
abbrev Y7 : Ty := .pair (.int .i64) (.pair (.int .i64) (.pair .bool (.int .u8)))
abbrev Y13 : Ty := .pair .str (.int .u64)
abbrev Y35 : Ty := .pair (.int .i64) (.int .i64)
abbrev Z35 := (Int × Int)
abbrev Y76 : Ty := .pair (.int .i64) (.pair .str (.pair (.int .i64) (.pair (.int .i64) (.pair (.int .i64) (.pair .bool (.sl (.int .i64)))))))
abbrev Z76 := (Int × (ByteArray × (Int × (Int × (Int × (Bool × (List Int)))))))
abbrev Y82 : Ty := .pair .str (.int .i64)
abbrev Z82 := (ByteArray × Int)
abbrev Y126 : Ty := .pair (.sl (.int .u8)) Y35
abbrev Y143 : Ty := .pair (.sl (.int .u8)) (.pair (.int .i64) .bool)
abbrev D35 : (Y35).den := Ty.dflt Y35
abbrev D76 : (Y76).den := Ty.dflt Y76
abbrev D82 : (Y82).den := Ty.dflt Y82
def TL : List (Nat × TI) := [(2, { ty := (.int .i64) }),
  (3, { ty := (.int .i64) }),
  (4, { ty := .bool }),
  (5, { ty := (.int .u8) }),
  (6, { ty := (.int .u8) }),
  (7, { ty := Y7, offs := [0, 1, 2, 3], szs := [1, 1, 1, 1] }),
  (8, { ty := Y7, offs := [0, 1, 2, 3], szs := [1, 1, 1, 1] }),
  (9, { ty := .str }),
  (10, { ty := .str }),
  (11, { ty := .str }),
  (12, { ty := (.int .u64) }),
  (13, { ty := Y13, offs := [0, 1], szs := [1, 1] }),
  (14, { ty := Y13, offs := [0, 1], szs := [1, 1] }),
  (21, { ty := (.int .i32) }),
  (22, { ty := (.sl .str), elem := 9 }),
  (27, { ty := (.sl Y76), elem := 77 }),
  (30, { ty := (.sl Y76), elem := 78 }),
  (34, { ty := (.sl Y82), elem := 83 }),
  (35, { ty := Y35, offs := [0, 1], szs := [1, 1] }),
  (36, { ty := Y35, offs := [0, 1], szs := [1, 1] }),
  (40, { ty := (.sl Y82), elem := 94 }),
  (42, { ty := Y35, offs := [0, 1], szs := [1, 1] }),
  (48, { ty := (.sl Y35), elem := 42 }),
  (53, { ty := (.sl Y35), elem := 36 }),
  (61, { ty := (.sl (.int .u8)), elem := 5 }),
  (75, { ty := (.sl (.int .i64)), elem := 3 }),
  (76, { ty := Y76, offs := [0, 1, 2, 3, 4, 5, 6], szs := [1, 1, 1, 1, 1, 1, 1] }),
  (77, { ty := Y76, offs := [0, 1, 2, 3, 4, 5, 6], szs := [1, 1, 1, 1, 1, 1, 1] }),
  (78, { ty := Y76, offs := [0, 1, 2, 3, 4, 5, 6], szs := [1, 1, 1, 1, 1, 1, 1] }),
  (82, { ty := Y82, offs := [0, 1], szs := [1, 1] }),
  (83, { ty := Y82, offs := [0, 1], szs := [1, 1] }),
  (92, { ty := (.sl (.sl Y76)), elem := 30 }),
  (94, { ty := Y82, offs := [0, 1], szs := [1, 1] }),
  (113, { ty := (.sl Y35), elem := 115 }),
  (114, { ty := Y35, offs := [0, 1], szs := [1, 1] }),
  (115, { ty := Y35, offs := [0, 1], szs := [1, 1] }),
  (126, { ty := Y126, offs := [0, 1, 2], szs := [1, 1, 1] }),
  (127, { ty := Y126, offs := [0, 1, 2], szs := [1, 1, 1] }),
  (142, { ty := (.int .u64) }),
  (143, { ty := Y143, offs := [0, 1, 2], szs := [1, 1, 1] }),
  (144, { ty := Y143, offs := [0, 1, 2], szs := [1, 1, 1] }),
  (155, { ty := (.sl (.sl (.int .u8))), elem := 61 }),
  (169, { ty := (.int .u32) }),
  (170, { ty := (.int .u8) }),
  (171, { ty := (.int .u8) }),
  (174, { ty := (.int .i32) }),
  (175, { ty := (.int .i32) })]
abbrev T : Tab := lookT TL
theorem T_ok : TabOk Go.Proofs.Try.prog T := tabOk_of TL (by kernel_rfl)
theorem K : TabOk Go.Proofs.Try.prog T := T_ok
theorem T_rec : RecOk Go.Proofs.Try.prog T := recOk_of TL (by kernel_rfl)
def F100 (N : Nat) (a0 : (List Int)) (a1 : Int) : Option (Int) :=
  cond (decide ((IntKind.i64.wrap (a1 - (a0.length : Int))) < (0 : Int))) (some (-1 : Int)) (some (IntKind.i64.wrap (a1 - (a0.length : Int))))
theorem ok100 N a0 a1 {r} (h : F100 N a0 a1 = some r) : Con prog 100 [Vv (.sl (.int .i64)) a0, I a1] [.lf (.v (.int .i64) r)] := by
 refine ctr [.lf (.v (.int .i64))] K func100 rfl fun w0 E0 ht => ?_
 unfold F100 at h
 show VW _ _ _ _ _ (retQ _ _ _ _) _
 refine nR K (tn 1) <| nR K (tn 5) <| sq <| nR K (tn 2) ?_
 refine cnd h ?_ ?_<;>intro h
 ·refine nR K (tn 1) ?_
  cases h; exact VW.ret (rt [])
 refine VW.skip <| nR K (tn 2) ?_
 cases h; exact VW.ret (rt [])
def F56 (N : Nat) (a0 : Z76) (a1 : Int) : Option (Int) :=
  cond (decide ((IntKind.i64.wrap (a1 - (a0.2.1.size : Int))) < (0 : Int))) (some (-1 : Int)) (andO (F100 N a0.2.2.2.2.2.2 (IntKind.i64.wrap (a1 - (a0.2.1.size : Int)))) fun y1 => cond (decide (y1 < (0 : Int))) (some (-1 : Int)) (some y1))
theorem ok56 N a0 a1 {r} (h : F56 N a0 a1 = some r) : Con prog 56 [.agg (lv Y76 a0), I a1] [.lf (.v (.int .i64) r)] := by
 refine ctr [.lf (.v (.int .i64))] K func56 rfl fun w0 E0 ht => ?_
 unfold F56 at h
 show VW _ _ _ _ _ (retQ _ _ _ _) _
 refine nR K (tn 2) <| nR K (tn 6) <| sq <| nR K (tn 2) ?_
 refine cnd h ?_ ?_<;>intro h
 ·refine nR K (tn 1) ?_
  cases h; exact VW.ret (rt [])
 refine VW.skip <| sq <| VW.region <| nG K 3 (tn 3) ?_
 have⟨y1,hy,h⟩:=aS h
 refine cal false [.t (.sl (.int .i64)), .t (.int .i64)] [] (some 15) K (ok100 N _ _ hy) <| nN K (tn 1) <| sq <| sR K [1, 17] [] ⟨[(1, I y1), (17, B (decide (y1 < (0 : Int))))], []⟩ (tn 2) ?_
 refine cnd h ?_ ?_<;>intro h
 ·refine nR K (tn 1) ?_
  cases h; exact VW.ret (rt [])
 refine VW.skip <| nR K (tn 2) ?_
 cases h; exact VW.ret (rt [])
def F15_j0 (N : Nat) (x17 : Int) : Option (Int) :=
  some x17
def F15_l0_b (N : Nat) (a0 : (List Z76)) (nx30 : Int → Int → Option (Int)) (x24 : Int) (x25 : Int) : Option (Int) :=
  cond (decide (x25 < (a0.length : Int))) (gd (InR x25 a0.length) (andO (F56 N (a0.getD x25.toNat (Ty.dflt Y76)) x24) fun y34 => cond (decide (y34 < (0 : Int))) (some (-1 : Int)) (nx30 y34 (IntKind.i64.wrap (x25 + (1 : Int)))))) (F15_j0 N x24)
def F15_l0 (N : Nat) (a0 : (List Z76)) := loopF (F15_l0_b N a0) (fun _ _ => none)
theorem F15_l0_s N a0 {k} (hk : 0 < k) x24 x25 : F15_l0 N a0 k x24 x25 = F15_l0_b N a0 (F15_l0 N a0 (k - 1)) x24 x25 := by cases k;cases hk;rfl
def F15 (N : Nat) (a0 : (List Z76)) (a1 : Int) : Option (Int) :=
  cond (decide ((IntKind.i64.wrap (a1 - (a0.length : Int))) < (0 : Int))) (some (-1 : Int)) (F15_l0 N a0 N (IntKind.i64.wrap (a1 - (a0.length : Int))) (0 : Int))
theorem ok15 N a0 a1 {r} (h : F15 N a0 a1 = some r) : Con prog 15 [Vv (.sl Y76) a0, I a1] [.lf (.v (.int .i64) r)] := by
 refine ctr [.lf (.v (.int .i64))] K func15 rfl fun w0 E0 ht => ?_
 unfold F15 at h
 show VW _ _ _ _ _ (retQ _ _ _ _) _
 refine nR K (tn 1) <| nR K (tn 5) <| sq <| nR K (tn 2) ?_
 refine cnd h ?_ ?_<;>intro h
 ·refine nR K (tn 1) ?_
  cases h; exact VW.ret (rt [])
 refine VW.skip ?_
 refine VW.join (fun s => ∃ x17, s = ⟨[(1, I x17)], []⟩ ∧ F15_j0 N x17 = some r) ?_ ?_
 ·refine nR K (tn 1) <| VW.block <| lop (fun k s => ∃ x24 x25, s = ⟨[(0, Vv (.sl Y76) a0), (1, I x24), (5, I x25)], []⟩ ∧ F15_l0 N a0 k x24 x25 = some r) N [.ren [0, 1, 5] []] ⟨(wr (a1 - (a0.length : Int))), (0 : Int), rfl, h⟩ ?_
  rintro k30 s ⟨x24, x25, rfl, h⟩
  cases k30 with
  | zero => cases show none = some r from h
  | succ k30 =>
   replace h : F15_l0_b N a0 (F15_l0 N a0 k30) x24 x25 = some r := h
   unfold F15_l0_b at h
   refine sq <| nR K (tn 4) ?_
   refine cnd h ?_ ?_<;>intro h
   ·refine VW.skip <| sq <| VW.block <| sq <| VW.region ?_
    have⟨g33,h⟩:=gS h
    refine nG K 5 (pu 2 (an g33 (tn 2))) ?_
    have⟨y34,hy,h⟩:=aS h
    refine cal false [.t Y76, .t (.int .i64)] [] (some 23) K (ok56 N _ _ hy) <| nN K (tn 1) <| nR K (tn 2) ?_
    refine cnd h ?_ ?_<;>intro h
    ·refine nR K (tn 1) ?_
     cases h; exact VW.ret (rt [])
    refine VW.skip <| nE K (tn 3) ?_
    exact aro [.ren [0, 1, 5] []] ⟨y34, (wr (x25 + (1 : Int))), rfl, h⟩
   refine VW.exit ?_
   exact arv [.ren [1] []] ⟨x24, rfl, h⟩
 rintro s ⟨x17, rfl, h⟩
 unfold F15_j0 at h
 refine nR K (tn 2) ?_
 cases h; exact VW.ret (rt [])
def F62 (N : Nat) (a0 : Int) (a1 : Int) (a2 : Int) : Option (Bool) :=
  cond (decide (a1 ≤ a0)) (some (decide (a0 ≤ a2))) (some false)
theorem ok62 N a0 a1 a2 {r} (h : F62 N a0 a1 a2 = some r) : Con prog 62 [I a0, I a1, I a2] [.lf (.v .bool r)] := by
 refine ctr [.lf (.v .bool)] K func62 rfl fun w0 E0 ht => ?_
 unfold F62 at h
 show VW _ _ _ _ _ (retQ _ _ _ _) _
 refine nR K (tn 1) <| sq <| VW.region <| nG K 4 (tn 4) ?_
 refine spB 10 h ?_ ?_<;>intro h
 ·refine nN K (tn 5) ?_
  cases h; exact VW.ret (rt [])
 refine nN K (tn 5) ?_
 cases h; exact VW.ret (rt [])
def F107_j0 (N : Nat) (x6 : Bool) : Option (Int) :=
  cond x6 (some (1 : Int)) (some (-1 : Int))
def F107_j1 (N : Nat) (a0 : Int) (x5 : Bool) : Option (Int) :=
  cond x5 (some (2 : Int)) (cond (a0 == (1 : Int)) (F107_j0 N (a0 == (1 : Int))) (cond (a0 == (2 : Int)) (F107_j0 N (a0 == (2 : Int))) (cond (a0 == (5 : Int)) (F107_j0 N (a0 == (5 : Int))) (cond (a0 == (6 : Int)) (F107_j0 N (a0 == (6 : Int))) (F107_j0 N (a0 == (7 : Int)))))))
def F107 (N : Nat) (a0 : Int) : Option (Int) :=
  cond (a0 == (0 : Int)) (some (0 : Int)) (cond (a0 == (3 : Int)) (F107_j1 N a0 (a0 == (3 : Int))) (F107_j1 N a0 (a0 == (4 : Int))))
theorem ok107 N a0 {r} (h : F107 N a0 = some r) : Con prog 107 [I a0] [.lf (.v (.int .i64) r)] := by
 refine ctr [.lf (.v (.int .i64))] K func107 rfl fun w0 E0 ht => ?_
 unfold F107 at h
 show VW _ _ _ _ _ (retQ _ _ _ _) _
 refine nR K (tn 1) <| sq <| nR K (tn 1) <| VW.block <| nR K (tn 2) ?_
 refine cnd h ?_ ?_<;>intro h
 ·refine nR K (tn 1) ?_
  cases h; exact VW.ret (rt [])
 refine VW.join (fun s => ∃ x5, s = ⟨[(3, I a0), (6, B x5)], []⟩ ∧ F107_j1 N a0 x5 = some r) ?_ ?_
 ·refine nR K (tn 2) ?_
  refine cnd h ?_ ?_<;>intro h
  ·refine VW.skip ?_
   exact arv [.ren [3, 6] []] ⟨(a0 == (3 : Int)), rfl, h⟩
  refine nE K (tn 2) ?_
  exact arv [.ren [3, 6] []] ⟨(a0 == (4 : Int)), rfl, h⟩
 rintro s ⟨x5, rfl, h⟩
 unfold F107_j1 at h
 refine cnd h ?_ ?_<;>intro h
 ·refine nR K (tn 1) ?_
  cases h; exact VW.ret (rt [])
 refine VW.join (fun s => ∃ x6, s = ⟨[(9, B x6)], []⟩ ∧ F107_j0 N x6 = some r) ?_ ?_
 ·refine nR K (tn 2) ?_
  refine cnd h ?_ ?_<;>intro h
  ·refine VW.skip ?_
   exact arv [.ren [9] []] ⟨(a0 == (1 : Int)), rfl, h⟩
  refine nR K (tn 2) ?_
  refine cnd h ?_ ?_<;>intro h
  ·refine VW.skip ?_
   exact arv [.ren [9] []] ⟨(a0 == (2 : Int)), rfl, h⟩
  refine nR K (tn 2) ?_
  refine cnd h ?_ ?_<;>intro h
  ·refine VW.skip ?_
   exact arv [.ren [9] []] ⟨(a0 == (5 : Int)), rfl, h⟩
  refine nR K (tn 2) ?_
  refine cnd h ?_ ?_<;>intro h
  ·refine VW.skip ?_
   exact arv [.ren [9] []] ⟨(a0 == (6 : Int)), rfl, h⟩
  refine nE K (tn 2) ?_
  exact arv [.ren [9] []] ⟨(a0 == (7 : Int)), rfl, h⟩
 rintro s ⟨x6, rfl, h⟩
 unfold F107_j0 at h
 refine cnd h ?_ ?_<;>intro h
 ·refine nR K (tn 1) ?_
  cases h; exact VW.ret (rt [])
 refine VW.skip <| nR K (tn 1) ?_
 cases h; exact VW.ret (rt [])
def F65_j0 (N : Nat) (x33 : Int) (x34 : Int) : Option (Int × Int) :=
  some (x33, (IntKind.i64.wrap (x34 + (1 : Int))))
def F65_j1 (N : Nat) (nx58 : Int → Int → Int → Option (Int × Int)) (x48 : Int) (x64 : Int) (x65 : Int) : Option (Int × Int) :=
  nx58 x64 x65 (IntKind.i64.wrap (x48 + (1 : Int)))
def F65_l0_b (N : Nat) (a0 : (List Z76)) (a1 : Int) (a2 : Int) (self : (List Z76) → Int → Int → Option (Int × Int)) (nx58 : Int → Int → Int → Option (Int × Int)) (x46 : Int) (x47 : Int) (x48 : Int) : Option (Int × Int) :=
  gd (InR a1 a0.length) (andO (F107 N ((a0.getD a1.toNat (Ty.dflt Y76)).1)) fun y62 => cond (decide (x48 < y62)) (andO (self a0 x46 (IntKind.i64.wrap (a2 - (1 : Int)))) fun y67 => cond (decide (y67.1 < (0 : Int))) (some ((-1 : Int), (0 : Int))) (cond (decide (y67.2 > x47)) (F65_j1 N nx58 x48 y67.1 y67.2) (F65_j1 N nx58 x48 y67.1 x47))) (F65_j0 N x46 x47))
def F65_l0 (N : Nat) (a0 : (List Z76)) (a1 : Int) (a2 : Int) (self : (List Z76) → Int → Int → Option (Int × Int)) := loopF (F65_l0_b N a0 a1 a2 self) (fun _ _ _ => none)
theorem F65_l0_s N a0 a1 a2 (self : (List Z76) → Int → Int → Option (Int × Int)) {k} (hk : 0 < k) x46 x47 x48 : F65_l0 N a0 a1 a2 self k x46 x47 x48 = F65_l0_b N a0 a1 a2 self (F65_l0 N a0 a1 a2 self (k - 1)) x46 x47 x48 := by cases k;cases hk;rfl
def F65_b (N : Nat) (self : (List Z76) → Int → Int → Option (Int × Int)) (a0 : (List Z76)) (a1 : Int) (a2 : Int) : Option (Int × Int) :=
  cond (decide (a1 ≥ (a0.length : Int))) (some ((-1 : Int), (0 : Int))) (cond (a2 == (0 : Int)) (some ((-1 : Int), (0 : Int))) (F65_l0 N a0 a1 a2 self N (IntKind.i64.wrap (a1 + (1 : Int))) (0 : Int) (0 : Int)))
theorem ok65_b (N : Nat) (self : (List Z76) → Int → Int → Option (Int × Int)) (ih : ∀ (a0 : (List Z76)) (a1 : Int) (a2 : Int) (r : Int × Int), self a0 a1 a2 = some r → Con prog 65 [Vv (.sl Y76) a0, I a1, I a2] [.lf (.v (.int .i64) r.1), .lf (.v (.int .i64) r.2)]) (a0 : (List Z76)) (a1 : Int) (a2 : Int) {r : Int × Int} (h : F65_b N self a0 a1 a2 = some r) : Con prog 65 [Vv (.sl Y76) a0, I a1, I a2] [.lf (.v (.int .i64) r.1), .lf (.v (.int .i64) r.2)] := by
 refine ctr [.lf (.v (.int .i64)), .lf (.v (.int .i64))] K func65 rfl fun w0 E0 ht => ?_
 unfold F65_b at h
 show VW _ _ _ _ _ (retQ _ _ _ _) _
 refine nR K (tn 2) <| sq <| sq <| VW.region <| nG K 5 (tn 5) ?_
 refine spB 17 h ?_ ?_<;>intro h
 ·refine nN K (tn 3) ?_
  refine VW.cond (b := true) (by kernel_rfl) (fun _ => ?_) (fun h' => nomatch h')
  refine nR K (tn 2) ?_
  cases h; exact VW.ret (rt [])
 refine nN K (tn 3) ?_
 refine cnd h ?_ ?_<;>intro h
 ·refine nR K (tn 2) ?_
  cases h; exact VW.ret (rt [])
 refine VW.skip <| nR K (tn 3) <| nR K (tn 1) ?_
 refine VW.join (fun s => ∃ x33 x34, s = ⟨[(8, I x33), (9, I x34)], []⟩ ∧ F65_j0 N x33 x34 = some r) ?_ ?_
 ·refine sR K [0, 1, 2, 8, 9, 10] [] ⟨[(0, Vv (.sl Y76) a0), (1, I a1), (2, I a2), (8, I (wr (a1 + (1 : Int)))), (9, I (0 : Int)), (10, I (0 : Int))], []⟩ (tn 1) <| VW.block <| lop (fun k s => ∃ x46 x47 x48, s = ⟨[(0, Vv (.sl Y76) a0), (1, I a1), (2, I a2), (8, I x46), (9, I x47), (10, I x48)], []⟩ ∧ F65_l0 N a0 a1 a2 self k x46 x47 x48 = some r) N [.ren [0, 1, 2, 8, 9, 10] []] ⟨(wr (a1 + (1 : Int))), (0 : Int), (0 : Int), rfl, h⟩ ?_
  rintro k58 s ⟨x46, x47, x48, rfl, h⟩
  cases k58 with
  | zero => cases show none = some r from h
  | succ k58 =>
   replace h : F65_l0_b N a0 a1 a2 self (F65_l0 N a0 a1 a2 self k58) x46 x47 x48 = some r := h
   unfold F65_l0_b at h
   refine sq <| sq <| VW.region ?_
   have⟨g61,h⟩:=gS h
   refine nG K 6 (pu 3 (an g61 (tn 2))) ?_
   have⟨y62,hy,h⟩:=aS h
   refine cal false [.t (.int .i64)] [] (some 29) K (ok107 N _ hy) <| nN K (tn 1) ?_
   refine cnd h ?_ ?_<;>intro h
   ·refine VW.skip ?_
    refine VW.join (fun s => ∃ x64 x65, s = ⟨[(0, Vv (.sl Y76) a0), (1, I a1), (2, I a2), (8, I x64), (9, I x65), (10, I x48)], []⟩ ∧ F65_j1 N (F65_l0 N a0 a1 a2 self k58) x48 x64 x65 = some r) ?_ ?_
    ·refine VW.block <| sq <| VW.region <| nG K 4 (tn 4) ?_
     have⟨y67,hy,h⟩:=aS h
     refine cal false [.t (.sl Y76), .t (.int .i64), .t (.int .i64)] [] (some 38) K (ih _ _ _ _ hy) <| nN K (tn 5) <| sq <| nR K (tn 2) ?_
     refine cnd h ?_ ?_<;>intro h
     ·refine sR K [6, 7] [] ⟨[(6, I (-1 : Int)), (7, I (0 : Int))], []⟩ (tn 2) ?_
      cases h; exact VW.ret (rt [])
     refine VW.skip <| sR K [0, 1, 2, 8, 9, 10, 12] [] ⟨[(0, Vv (.sl Y76) a0), (1, I a1), (2, I a2), (8, I y67.1), (9, I x47), (10, I x48), (12, I y67.2)], []⟩ (tn 2) <| nR K (tn 3) ?_
     refine cnd h ?_ ?_<;>intro h
     ·refine nE K (tn 2) ?_
      exact arv [.ren [0, 1, 2, 8, 9, 10] []] ⟨y67.1, y67.2, rfl, h⟩
     refine VW.skip ?_
     exact arv [.ren [0, 1, 2, 8, 9, 10] []] ⟨y67.1, x47, rfl, h⟩
    rintro s ⟨x64, x65, rfl, h⟩
    unfold F65_j1 at h
    refine nE K (tn 3) ?_
    exact aro [.ren [0, 1, 2, 8, 9, 10] []] ⟨x64, x65, (wr (x48 + (1 : Int))), rfl, h⟩
   refine VW.exit ?_
   exact arv [.ren [8, 9] []] ⟨x46, x47, rfl, h⟩
 rintro s ⟨x33, x34, rfl, h⟩
 unfold F65_j0 at h
 refine nR K (tn 5) ?_
 cases h; exact VW.ret (rt [])
def F65_r (N : Nat) := loopF (F65_b N) (fun _ _ _ => none)
theorem F65_s N {k} (hk : 0 < k) a0 a1 a2 : F65_r N k a0 a1 a2 = F65_b N (F65_r N (k - 1)) a0 a1 a2 := by cases k;cases hk;rfl
def F65 (N : Nat) : (List Z76) → Int → Int → Option (Int × Int) := F65_r N N
theorem ok65_k (N : Nat) : ∀ (k : Nat) (a0 : (List Z76)) (a1 : Int) (a2 : Int) (r : Int × Int), loopF (F65_b N) (fun _ _ _ => none) k a0 a1 a2 = some r → Con prog 65 [Vv (.sl Y76) a0, I a1, I a2] [.lf (.v (.int .i64) r.1), .lf (.v (.int .i64) r.2)]
 | 0, a0, a1, a2, r, h => nomatch (show (none : Option (Int × Int)) = some r from h)
 | k + 1, a0, a1, a2, r, h => ok65_b N _ (ok65_k N k) a0 a1 a2 h
theorem ok65 N a0 a1 a2 {r} (h : F65 N a0 a1 a2 = some r) : Con prog 65 [Vv (.sl Y76) a0, I a1, I a2] [.lf (.v (.int .i64) r.1), .lf (.v (.int .i64) r.2)] := ok65_k N N a0 a1 a2 r h
def F117 (N : Nat) (a0 : Int) : Option (Bool) :=
  andO (F62 N a0 (-1000000 : Int) (1000000 : Int)) fun y1 => some y1
theorem ok117 N a0 {r} (h : F117 N a0 = some r) : Con prog 117 [I a0] [.lf (.v .bool r)] := by
 refine ctr [.lf (.v .bool)] K func117 rfl fun w0 E0 ht => ?_
 unfold F117 at h
 show VW _ _ _ _ _ (retQ _ _ _ _) _
 refine nR K (tn 1) <| sq <| VW.region <| nG K 1 (tn 1) ?_
 have⟨y1,hy,h⟩:=aS h
 refine cal false [.t (.int .i64), .t (.int .i64), .t (.int .i64)] [] (some 4) K (ok62 N _ _ _ hy) <| nN K (tn 1) ?_
 cases h; exact VW.ret (rt [])
def F146_j0 (N : Nat) : Option (Bool) :=
  some true
def F146_j1 (N : Nat) (nx74 : Int → Option (Bool)) (x60 : Int) : Option (Bool) :=
  nx74 (IntKind.i64.wrap (x60 + (1 : Int)))
def F146_l0_b (N : Nat) (a0 : ByteArray) (nx74 : Int → Option (Bool)) (x60 : Int) : Option (Bool) :=
  cond (decide (x60 < (a0.size : Int))) (gd (InR x60 a0.size) (cond (decide (((a0.data.getD x60.toNat 0).toNat : Int) < (97 : Int))) (gd (InR x60 a0.size) (cond (decide (((a0.data.getD x60.toNat 0).toNat : Int) < (48 : Int))) (some false) (gd (InR x60 a0.size) (cond (decide (((a0.data.getD x60.toNat 0).toNat : Int) > (57 : Int))) (some false) (F146_j1 N nx74 x60))))) (gd (InR x60 a0.size) (cond (decide (((a0.data.getD x60.toNat 0).toNat : Int) > (122 : Int))) (gd (InR x60 a0.size) (cond (decide (((a0.data.getD x60.toNat 0).toNat : Int) < (48 : Int))) (some false) (gd (InR x60 a0.size) (cond (decide (((a0.data.getD x60.toNat 0).toNat : Int) > (57 : Int))) (some false) (F146_j1 N nx74 x60))))) (F146_j1 N nx74 x60))))) (F146_j0 N)
def F146_l0 (N : Nat) (a0 : ByteArray) := loopF (F146_l0_b N a0) (fun _ => none)
theorem F146_l0_s N a0 {k} (hk : 0 < k) x60 : F146_l0 N a0 k x60 = F146_l0_b N a0 (F146_l0 N a0 (k - 1)) x60 := by cases k;cases hk;rfl
def F146 (N : Nat) (a0 : ByteArray) : Option (Bool) :=
  andO (F62 N (a0.size : Int) (1 : Int) (12 : Int)) fun y3 => cond (!y3) (some false) (gd (InR (0 : Int) a0.size) (cond (decide (((a0.data.getD (0 : Int).toNat 0).toNat : Int) < (97 : Int))) (some false) (F146_l0 N a0 N (0 : Int))))
theorem ok146 N a0 {r} (h : F146 N a0 = some r) : Con prog 146 [S a0] [.lf (.v .bool r)] := by
 refine ctr [.lf (.v .bool)] K func146 rfl fun w0 E0 ht => ?_
 unfold F146 at h
 show VW _ _ _ _ _ (retQ _ _ _ _) _
 refine nR K (tn 1) <| sq <| sq <| VW.region <| nG K 2 (tn 2) ?_
 have⟨y3,hy,h⟩:=aS h
 refine cal false [.t (.int .i64), .t (.int .i64), .t (.int .i64)] [] (some 6) K (ok62 N _ _ _ hy) <| nG K 2 (tn 2) ?_
 refine spB 8 h ?_ ?_<;>intro h
 ·refine nN K (tn 4) ?_
  refine VW.cond (b := true) (by kernel_rfl) (fun _ => ?_) (fun h' => nomatch h')
  refine nR K (tn 1) ?_
  cases h; exact VW.ret (rt [])
 have⟨g4,h⟩:=gS h
 refine nN K (pu 1 (an g4 (tn 2))) ?_
 refine cnd h ?_ ?_<;>intro h
 ·refine nR K (tn 1) ?_
  cases h; exact VW.ret (rt [])
 refine VW.skip ?_
 refine VW.join (fun s => s = ⟨[], []⟩ ∧ F146_j0 N = some r) ?_ ?_
 ·refine nR K (tn 1) <| VW.block <| lop (fun k s => ∃ x60, s = ⟨[(0, S a0), (3, I x60)], []⟩ ∧ F146_l0 N a0 k x60 = some r) N [.ren [0, 3] []] ⟨(0 : Int), rfl, h⟩ ?_
  rintro k74 s ⟨x60, rfl, h⟩
  cases k74 with
  | zero => cases show none = some r from h
  | succ k74 =>
   replace h : F146_l0_b N a0 (F146_l0 N a0 k74) x60 = some r := h
   unfold F146_l0_b at h
   refine sq <| nR K (tn 4) ?_
   refine cnd h ?_ ?_<;>intro h
   ·refine VW.skip ?_
    refine VW.join (fun s => s = ⟨[(0, S a0), (3, I x60)], []⟩ ∧ F146_j1 N (F146_l0 N a0 k74) x60 = some r) ?_ ?_
    ·refine VW.block <| sq <| VW.region ?_
     have⟨g82,h⟩:=gS h
     refine nG K 5 (pu 2 (an g82 (tn 2))) ?_
     refine spB 23 h ?_ ?_<;>intro h
     ·have⟨g83,h⟩:=gS h
      refine nG K 11 (pu 8 (an g83 (tn 2))) ?_
      refine spB 34 h ?_ ?_<;>intro h
      ·refine nN K (tn 6) ?_
       refine VW.cond (b := true) (by kernel_rfl) (fun _ => ?_) (fun h' => nomatch h')
       refine nR K (tn 1) ?_
       cases h; exact VW.ret (rt [])
      have⟨g84,h⟩:=gS h
      refine nN K (pu 2 (an g84 (tn 3))) ?_
      refine cnd h ?_ ?_<;>intro h
      ·refine nR K (tn 1) ?_
       cases h; exact VW.ret (rt [])
      refine VW.skip ?_
      exact arv [.ren [0, 3] []] ⟨rfl, h⟩
     have⟨g85,h⟩:=gS h
     refine nG K 6 (pu 2 (an g85 (tn 3))) ?_
     refine spB 29 h ?_ ?_<;>intro h
     ·have⟨g86,h⟩:=gS h
      refine nG K 5 (pu 2 (an g86 (tn 2))) ?_
      refine spB 34 h ?_ ?_<;>intro h
      ·refine nN K (tn 6) ?_
       refine VW.cond (b := true) (by kernel_rfl) (fun _ => ?_) (fun h' => nomatch h')
       refine sR K [2] [] ⟨[(2, B false)], []⟩ (tn 1) ?_
       cases h; exact VW.ret (rt [])
      have⟨g87,h⟩:=gS h
      refine nN K (pu 2 (an g87 (tn 3))) ?_
      refine cnd h ?_ ?_<;>intro h
      ·refine sR K [2] [] ⟨[(2, B false)], []⟩ (tn 1) ?_
       cases h; exact VW.ret (rt [])
      refine VW.skip ?_
      exact arv [.ren [0, 3] []] ⟨rfl, h⟩
     refine nN K (tn 11) ?_
     refine VW.cond (b := false) (by kernel_rfl) (fun h' => nomatch h') (fun _ => ?_)
     refine VW.skip ?_
     exact arv [.ren [0, 3] []] ⟨rfl, h⟩
    rintro s ⟨rfl, h⟩
    unfold F146_j1 at h
    refine nE K (tn 3) ?_
    exact aro [.ren [0, 3] []] ⟨(wr (x60 + (1 : Int))), rfl, h⟩
   refine VW.exit ?_
   exact arv [.ren [] []] ⟨rfl, h⟩
 rintro s ⟨rfl, h⟩
 unfold F146_j0 at h
 refine nR K (tn 1) ?_
 cases h; exact VW.ret (rt [])
def F147 (N : Nat) (a0 : Int) : Option (Bool) :=
  andO (F62 N a0 (0 : Int) (63 : Int)) fun y1 => some y1
theorem ok147 N a0 {r} (h : F147 N a0 = some r) : Con prog 147 [I a0] [.lf (.v .bool r)] := by
 refine ctr [.lf (.v .bool)] K func147 rfl fun w0 E0 ht => ?_
 unfold F147 at h
 show VW _ _ _ _ _ (retQ _ _ _ _) _
 refine nR K (tn 1) <| sq <| VW.region <| nG K 1 (tn 1) ?_
 have⟨y1,hy,h⟩:=aS h
 refine cal false [.t (.int .i64), .t (.int .i64), .t (.int .i64)] [] (some 4) K (ok62 N _ _ _ hy) <| nN K (tn 1) ?_
 cases h; exact VW.ret (rt [])
def F108_j0 (N : Nat) : Option (Bool) :=
  some false
def F108_j1 (N : Nat) (x11 : Int) (x13 : Int) (x14 : Bool) (x15 : (List Int)) : Option (Bool) :=
  andO (F62 N (x15.length : Int) (1 : Int) (6 : Int)) fun y75 => cond y75 (cond (x11 == (0 : Int)) (cond (x13 == (0 : Int)) (some (!x14)) (some false)) (some false)) (some false)
def F108_l0_b (N : Nat) (x11 : Int) (x13 : Int) (x14 : Bool) (x15 : (List Int)) (nx86 : Int → Option (Bool)) (x81 : Int) : Option (Bool) :=
  cond (decide (x81 < (x15.length : Int))) (gd (InR x81 x15.length) (andO (F147 N (x15.getD x81.toNat (Ty.dflt (.int .i64)))) fun y90 => cond (!y90) (some false) (nx86 (IntKind.i64.wrap (x81 + (1 : Int)))))) (F108_j1 N x11 x13 x14 x15)
def F108_l0 (N : Nat) (x11 : Int) (x13 : Int) (x14 : Bool) (x15 : (List Int)) := loopF (F108_l0_b N x11 x13 x14 x15) (fun _ => none)
theorem F108_l0_s N x11 x13 x14 x15 {k} (hk : 0 < k) x81 : F108_l0 N x11 x13 x14 x15 k x81 = F108_l0_b N x11 x13 x14 x15 (F108_l0 N x11 x13 x14 x15 (k - 1)) x81 := by cases k;cases hk;rfl
def F108_j2 (N : Nat) (x11 : Int) (x13 : Int) (x14 : Bool) (x95 : Bool) : Option (Bool) :=
  cond x95 (cond (x11 == (0 : Int)) (cond (x13 == (0 : Int)) (some (!x14)) (some false)) (some false)) (F108_j0 N)
def F108_j3 (N : Nat) (x9 : Int) (x10 : ByteArray) (x11 : Int) (x12 : Int) (x13 : Int) (x14 : Bool) (x15 : (List Int)) : Option (Bool) :=
  cond (x9 == (0 : Int)) (andO (F146 N x10) fun y57 => cond y57 (cond (x11 == (0 : Int)) (cond (x13 == (0 : Int)) (some (!x14)) (some false)) (some false)) (some false)) (cond (x9 == (1 : Int)) (andO (F147 N x11) fun y58 => cond y58 (andO (F62 N x12 (0 : Int) (3 : Int)) fun y59 => cond y59 (andO (F117 N x13) fun y60 => cond y60 (cond (x12 != (3 : Int)) (some true) (cond (x13 == (0 : Int)) (some (!x14)) (some false))) (some false)) (some false)) (some false)) (cond (x9 == (2 : Int)) (F108_l0 N x11 x13 x14 x15 N (0 : Int)) (cond (x9 == (3 : Int)) (andO (F147 N x11) fun y91 => cond y91 (andO (F147 N x13) fun y92 => cond y92 (some (!x14)) (some false)) (some false)) (cond (x9 == (5 : Int)) (andO (F147 N x11) fun y93 => cond y93 (cond (x13 == (0 : Int)) (some (!x14)) (some false)) (some false)) (cond (x9 == (6 : Int)) (cond (x11 == (0 : Int)) (andO (F62 N x13 (0 : Int) (1000000 : Int)) fun y94 => some y94) (some false)) (cond (x9 == (4 : Int)) (F108_j2 N x11 x13 x14 (x9 == (4 : Int))) (F108_j2 N x11 x13 x14 (x9 == (7 : Int)))))))))
def F108 (N : Nat) (a0 : Z76) : Option (Bool) :=
  cond (a0.1 != (0 : Int)) (cond (!(a0.2.1.toList == ByteArray.empty.toList)) (some false) (cond (a0.1 != (2 : Int)) (cond (decide ((a0.2.2.2.2.2.2.length : Int) > (0 : Int))) (some false) (cond (a0.1 != (1 : Int)) (cond (a0.2.2.2.1 != (0 : Int)) (some false) (cond a0.2.2.2.2.2.1 (andO (F62 N a0.2.2.2.2.1 (0 : Int) (39 : Int)) fun y98 => cond (!y98) (some false) (F108_j3 N a0.1 a0.2.1 a0.2.2.1 a0.2.2.2.1 a0.2.2.2.2.1 a0.2.2.2.2.2.1 a0.2.2.2.2.2.2)) (F108_j3 N a0.1 a0.2.1 a0.2.2.1 a0.2.2.2.1 a0.2.2.2.2.1 a0.2.2.2.2.2.1 a0.2.2.2.2.2.2))) (cond a0.2.2.2.2.2.1 (andO (F62 N a0.2.2.2.2.1 (0 : Int) (39 : Int)) fun y99 => cond (!y99) (some false) (F108_j3 N a0.1 a0.2.1 a0.2.2.1 a0.2.2.2.1 a0.2.2.2.2.1 a0.2.2.2.2.2.1 a0.2.2.2.2.2.2)) (F108_j3 N a0.1 a0.2.1 a0.2.2.1 a0.2.2.2.1 a0.2.2.2.2.1 a0.2.2.2.2.2.1 a0.2.2.2.2.2.2)))) (cond (a0.1 != (1 : Int)) (cond (a0.2.2.2.1 != (0 : Int)) (some false) (cond a0.2.2.2.2.2.1 (andO (F62 N a0.2.2.2.2.1 (0 : Int) (39 : Int)) fun y100 => cond (!y100) (some false) (F108_j3 N a0.1 a0.2.1 a0.2.2.1 a0.2.2.2.1 a0.2.2.2.2.1 a0.2.2.2.2.2.1 a0.2.2.2.2.2.2)) (F108_j3 N a0.1 a0.2.1 a0.2.2.1 a0.2.2.2.1 a0.2.2.2.2.1 a0.2.2.2.2.2.1 a0.2.2.2.2.2.2))) (cond a0.2.2.2.2.2.1 (andO (F62 N a0.2.2.2.2.1 (0 : Int) (39 : Int)) fun y101 => cond (!y101) (some false) (F108_j3 N a0.1 a0.2.1 a0.2.2.1 a0.2.2.2.1 a0.2.2.2.2.1 a0.2.2.2.2.2.1 a0.2.2.2.2.2.2)) (F108_j3 N a0.1 a0.2.1 a0.2.2.1 a0.2.2.2.1 a0.2.2.2.2.1 a0.2.2.2.2.2.1 a0.2.2.2.2.2.2))))) (cond (a0.1 != (2 : Int)) (cond (decide ((a0.2.2.2.2.2.2.length : Int) > (0 : Int))) (some false) (cond (a0.1 != (1 : Int)) (cond (a0.2.2.2.1 != (0 : Int)) (some false) (cond a0.2.2.2.2.2.1 (andO (F62 N a0.2.2.2.2.1 (0 : Int) (39 : Int)) fun y102 => cond (!y102) (some false) (F108_j3 N a0.1 a0.2.1 a0.2.2.1 a0.2.2.2.1 a0.2.2.2.2.1 a0.2.2.2.2.2.1 a0.2.2.2.2.2.2)) (F108_j3 N a0.1 a0.2.1 a0.2.2.1 a0.2.2.2.1 a0.2.2.2.2.1 a0.2.2.2.2.2.1 a0.2.2.2.2.2.2))) (cond a0.2.2.2.2.2.1 (andO (F62 N a0.2.2.2.2.1 (0 : Int) (39 : Int)) fun y103 => cond (!y103) (some false) (F108_j3 N a0.1 a0.2.1 a0.2.2.1 a0.2.2.2.1 a0.2.2.2.2.1 a0.2.2.2.2.2.1 a0.2.2.2.2.2.2)) (F108_j3 N a0.1 a0.2.1 a0.2.2.1 a0.2.2.2.1 a0.2.2.2.2.1 a0.2.2.2.2.2.1 a0.2.2.2.2.2.2)))) (cond (a0.1 != (1 : Int)) (cond (a0.2.2.2.1 != (0 : Int)) (some false) (cond a0.2.2.2.2.2.1 (andO (F62 N a0.2.2.2.2.1 (0 : Int) (39 : Int)) fun y104 => cond (!y104) (some false) (F108_j3 N a0.1 a0.2.1 a0.2.2.1 a0.2.2.2.1 a0.2.2.2.2.1 a0.2.2.2.2.2.1 a0.2.2.2.2.2.2)) (F108_j3 N a0.1 a0.2.1 a0.2.2.1 a0.2.2.2.1 a0.2.2.2.2.1 a0.2.2.2.2.2.1 a0.2.2.2.2.2.2))) (cond a0.2.2.2.2.2.1 (andO (F62 N a0.2.2.2.2.1 (0 : Int) (39 : Int)) fun y105 => cond (!y105) (some false) (F108_j3 N a0.1 a0.2.1 a0.2.2.1 a0.2.2.2.1 a0.2.2.2.2.1 a0.2.2.2.2.2.1 a0.2.2.2.2.2.2)) (F108_j3 N a0.1 a0.2.1 a0.2.2.1 a0.2.2.2.1 a0.2.2.2.2.1 a0.2.2.2.2.2.1 a0.2.2.2.2.2.2))))
theorem ok108 N a0 {r} (h : F108 N a0 = some r) : Con prog 108 [.agg (lv Y76 a0)] [.lf (.v .bool r)] := by
 refine ctr [.lf (.v .bool)] K func108 rfl fun w0 E0 ht => ?_
 unfold F108 at h
 show VW _ _ _ _ _ (retQ _ _ _ _) _
 refine nR K (tn 2) ?_
 refine VW.join (fun s => ∃ x9 x10 x11 x12 x13 x14 x15, s = ⟨[(1, .lf (.ptr 0 0 0 0))], [bx [zi x9, zs x10, zi x11, zi x12, zi x13, zb x14, .v (.sl (.int .i64)) x15] 78]⟩ ∧ F108_j3 N x9 x10 x11 x12 x13 x14 x15 = some r) ?_ ?_
 ·refine sq <| VW.region <| nG K 4 (tn 4) ?_
  refine spB 7 h ?_ ?_<;>intro h
  ·refine nG K 5 (tn 5) ?_
   refine spB 12 h ?_ ?_<;>intro h
   ·refine nN K (tn 30) ?_
    refine VW.cond (b := true) (by kernel_rfl) (fun _ => ?_) (fun h' => nomatch h')
    refine nR K (tn 1) ?_
    cases h; exact VW.ret (rt [])
   refine nG K 4 (tn 4) ?_
   refine spB 16 h ?_ ?_<;>intro h
   ·refine nG K 7 (tn 7) ?_
    refine spB 23 h ?_ ?_<;>intro h
    ·refine sNh K [1, 42] [0] [(1, .lf (.ptr 0 0 0 0)), (42, B true)] (tn 19) ?_
     refine VW.cond (b := true) (by kernel_rfl) (fun _ => ?_) (fun h' => nomatch h')
     refine nR K (tn 1) ?_
     cases h; exact VW.ret (rt [])
    refine sGh K 4 [1, 23, 27] [0] [(1, .lf (.ptr 0 0 0 0)), (23, B false), (27, B (a0.1 != (1 : Int)))] (tn 4) ?_
    refine spB 27 h ?_ ?_<;>intro h
    ·refine nG K 6 (tn 6) ?_
     refine spB 33 h ?_ ?_<;>intro h
     ·refine nN K (tn 9) ?_
      refine VW.cond (b := true) (by kernel_rfl) (fun _ => ?_) (fun h' => nomatch h')
      refine nR K (tn 1) ?_
      cases h; exact VW.ret (rt [])
     refine nG K 3 (tn 3) ?_
     refine spB 36 h ?_ ?_<;>intro h
     ·refine nG K 2 (tn 2) <| VO.on (j := 32) (want := true) (d := 36) (b := true) rfl rfl rfl (by kernel_rfl) rfl ?_
      have⟨y98,hy,h⟩:=aS h
      refine cal false [.t (.int .i64), .t (.int .i64), .t (.int .i64)] [] (some 39) K (ok62 N _ _ _ hy) <| nN K (tn 3) ?_
      refine cnd h ?_ ?_<;>intro h
      ·refine nR K (tn 1) ?_
       cases h; exact VW.ret (rt [])
      refine VW.skip ?_
      exact arv [.ren [1] [0]] ⟨a0.1, a0.2.1, a0.2.2.1, a0.2.2.2.1, a0.2.2.2.2.1, a0.2.2.2.2.2.1, a0.2.2.2.2.2.2, rfl, h⟩
     refine nN K (tn 6) ?_
     refine VW.cond (b := false) (by kernel_rfl) (fun h' => nomatch h') (fun _ => ?_)
     refine VW.skip ?_
     exact arv [.ren [1] [0]] ⟨a0.1, a0.2.1, a0.2.2.1, a0.2.2.2.1, a0.2.2.2.2.1, a0.2.2.2.2.2.1, a0.2.2.2.2.2.2, rfl, h⟩
    refine nG K 9 (tn 9) ?_
    refine spB 36 h ?_ ?_<;>intro h
    ·refine nG K 2 (tn 2) <| VO.on (j := 32) (want := true) (d := 36) (b := true) rfl rfl rfl (by kernel_rfl) rfl ?_
     have⟨y99,hy,h⟩:=aS h
     refine cal false [.t (.int .i64), .t (.int .i64), .t (.int .i64)] [] (some 39) K (ok62 N _ _ _ hy) <| nN K (tn 3) ?_
     refine cnd h ?_ ?_<;>intro h
     ·refine nR K (tn 1) ?_
      cases h; exact VW.ret (rt [])
     refine VW.skip ?_
     exact arv [.ren [1] [0]] ⟨a0.1, a0.2.1, a0.2.2.1, a0.2.2.2.1, a0.2.2.2.2.1, a0.2.2.2.2.2.1, a0.2.2.2.2.2.2, rfl, h⟩
    refine nN K (tn 6) ?_
    refine VW.cond (b := false) (by kernel_rfl) (fun h' => nomatch h') (fun _ => ?_)
    refine VW.skip ?_
    exact arv [.ren [1] [0]] ⟨a0.1, a0.2.1, a0.2.2.1, a0.2.2.2.1, a0.2.2.2.2.1, a0.2.2.2.2.2.1, a0.2.2.2.2.2.2, rfl, h⟩
   refine nG K 11 (tn 11) ?_
   refine spB 27 h ?_ ?_<;>intro h
   ·refine sGh K 6 [1, 33] [0] [(1, .lf (.ptr 0 0 0 0)), (33, B (a0.2.2.2.1 != (0 : Int)))] (tn 6) ?_
    refine spB 33 h ?_ ?_<;>intro h
    ·refine nN K (tn 9) ?_
     refine VW.cond (b := true) (by kernel_rfl) (fun _ => ?_) (fun h' => nomatch h')
     refine nR K (tn 1) ?_
     cases h; exact VW.ret (rt [])
    refine nG K 3 (tn 3) ?_
    refine spB 36 h ?_ ?_<;>intro h
    ·refine nG K 2 (tn 2) <| VO.on (j := 32) (want := true) (d := 36) (b := true) rfl rfl rfl (by kernel_rfl) rfl ?_
     have⟨y100,hy,h⟩:=aS h
     refine cal false [.t (.int .i64), .t (.int .i64), .t (.int .i64)] [] (some 39) K (ok62 N _ _ _ hy) <| nN K (tn 3) ?_
     refine cnd h ?_ ?_<;>intro h
     ·refine nR K (tn 1) ?_
      cases h; exact VW.ret (rt [])
     refine VW.skip ?_
     exact arv [.ren [1] [0]] ⟨a0.1, a0.2.1, a0.2.2.1, a0.2.2.2.1, a0.2.2.2.2.1, a0.2.2.2.2.2.1, a0.2.2.2.2.2.2, rfl, h⟩
    refine nN K (tn 6) ?_
    refine VW.cond (b := false) (by kernel_rfl) (fun h' => nomatch h') (fun _ => ?_)
    refine VW.skip ?_
    exact arv [.ren [1] [0]] ⟨a0.1, a0.2.1, a0.2.2.1, a0.2.2.2.1, a0.2.2.2.2.1, a0.2.2.2.2.2.1, a0.2.2.2.2.2.2, rfl, h⟩
   refine sGh K 9 [1, 33, 36] [0] [(1, .lf (.ptr 0 0 0 0)), (33, B false), (36, B a0.2.2.2.2.2.1)] (tn 9) ?_
   refine spB 36 h ?_ ?_<;>intro h
   ·refine nG K 2 (tn 2) <| VO.on (j := 32) (want := true) (d := 36) (b := true) rfl rfl rfl (by kernel_rfl) rfl ?_
    have⟨y101,hy,h⟩:=aS h
    refine cal false [.t (.int .i64), .t (.int .i64), .t (.int .i64)] [] (some 39) K (ok62 N _ _ _ hy) <| nN K (tn 3) ?_
    refine cnd h ?_ ?_<;>intro h
    ·refine nR K (tn 1) ?_
     cases h; exact VW.ret (rt [])
    refine VW.skip ?_
    exact arv [.ren [1] [0]] ⟨a0.1, a0.2.1, a0.2.2.1, a0.2.2.2.1, a0.2.2.2.2.1, a0.2.2.2.2.2.1, a0.2.2.2.2.2.2, rfl, h⟩
   refine nN K (tn 6) ?_
   refine VW.cond (b := false) (by kernel_rfl) (fun h' => nomatch h') (fun _ => ?_)
   refine VW.skip ?_
   exact arv [.ren [1] [0]] ⟨a0.1, a0.2.1, a0.2.2.1, a0.2.2.2.1, a0.2.2.2.2.1, a0.2.2.2.2.2.1, a0.2.2.2.2.2.2, rfl, h⟩
  refine nG K 9 (tn 9) ?_
  refine spB 16 h ?_ ?_<;>intro h
  ·refine nG K 7 (tn 7) ?_
   refine spB 23 h ?_ ?_<;>intro h
   ·refine nN K (tn 19) ?_
    refine VW.cond (b := true) (by kernel_rfl) (fun _ => ?_) (fun h' => nomatch h')
    refine sR K [2] [] ⟨[(2, B false)], []⟩ (tn 1) ?_
    cases h; exact VW.ret (rt [])
   refine nG K 4 (tn 4) ?_
   refine spB 27 h ?_ ?_<;>intro h
   ·refine sGh K 6 [1, 33] [0] [(1, .lf (.ptr 0 0 0 0)), (33, B (a0.2.2.2.1 != (0 : Int)))] (tn 6) ?_
    refine spB 33 h ?_ ?_<;>intro h
    ·refine nN K (tn 9) ?_
     refine VW.cond (b := true) (by kernel_rfl) (fun _ => ?_) (fun h' => nomatch h')
     refine nR K (tn 1) ?_
     cases h; exact VW.ret (rt [])
    refine nG K 3 (tn 3) ?_
    refine spB 36 h ?_ ?_<;>intro h
    ·refine nG K 2 (tn 2) <| VO.on (j := 32) (want := true) (d := 36) (b := true) rfl rfl rfl (by kernel_rfl) rfl ?_
     have⟨y102,hy,h⟩:=aS h
     refine cal false [.t (.int .i64), .t (.int .i64), .t (.int .i64)] [] (some 39) K (ok62 N _ _ _ hy) <| nN K (tn 3) ?_
     refine cnd h ?_ ?_<;>intro h
     ·refine nR K (tn 1) ?_
      cases h; exact VW.ret (rt [])
     refine VW.skip ?_
     exact arv [.ren [1] [0]] ⟨a0.1, a0.2.1, a0.2.2.1, a0.2.2.2.1, a0.2.2.2.2.1, a0.2.2.2.2.2.1, a0.2.2.2.2.2.2, rfl, h⟩
    refine nN K (tn 6) ?_
    refine VW.cond (b := false) (by kernel_rfl) (fun h' => nomatch h') (fun _ => ?_)
    refine VW.skip ?_
    exact arv [.ren [1] [0]] ⟨a0.1, a0.2.1, a0.2.2.1, a0.2.2.2.1, a0.2.2.2.2.1, a0.2.2.2.2.2.1, a0.2.2.2.2.2.2, rfl, h⟩
   refine sGh K 9 [1, 33, 36] [0] [(1, .lf (.ptr 0 0 0 0)), (33, B false), (36, B a0.2.2.2.2.2.1)] (tn 9) ?_
   refine spB 36 h ?_ ?_<;>intro h
   ·refine nG K 2 (tn 2) <| VO.on (j := 32) (want := true) (d := 36) (b := true) rfl rfl rfl (by kernel_rfl) rfl ?_
    have⟨y103,hy,h⟩:=aS h
    refine cal false [.t (.int .i64), .t (.int .i64), .t (.int .i64)] [] (some 39) K (ok62 N _ _ _ hy) <| nN K (tn 3) ?_
    refine cnd h ?_ ?_<;>intro h
    ·refine nR K (tn 1) ?_
     cases h; exact VW.ret (rt [])
    refine VW.skip ?_
    exact arv [.ren [1] [0]] ⟨a0.1, a0.2.1, a0.2.2.1, a0.2.2.2.1, a0.2.2.2.2.1, a0.2.2.2.2.2.1, a0.2.2.2.2.2.2, rfl, h⟩
   refine nN K (tn 6) ?_
   refine VW.cond (b := false) (by kernel_rfl) (fun h' => nomatch h') (fun _ => ?_)
   refine VW.skip ?_
   exact arv [.ren [1] [0]] ⟨a0.1, a0.2.1, a0.2.2.1, a0.2.2.2.1, a0.2.2.2.2.1, a0.2.2.2.2.2.1, a0.2.2.2.2.2.2, rfl, h⟩
  refine nG K 11 (tn 11) ?_
  refine spB 27 h ?_ ?_<;>intro h
  ·refine nG K 6 (tn 6) ?_
   refine spB 33 h ?_ ?_<;>intro h
   ·refine sNh K [1, 42] [0] [(1, .lf (.ptr 0 0 0 0)), (42, B true)] (tn 9) ?_
    refine VW.cond (b := true) (by kernel_rfl) (fun _ => ?_) (fun h' => nomatch h')
    refine nR K (tn 1) ?_
    cases h; exact VW.ret (rt [])
   refine sGh K 3 [1, 33, 36] [0] [(1, .lf (.ptr 0 0 0 0)), (33, B false), (36, B a0.2.2.2.2.2.1)] (tn 3) ?_
   refine spB 36 h ?_ ?_<;>intro h
   ·refine nG K 2 (tn 2) <| VO.on (j := 32) (want := true) (d := 36) (b := true) rfl rfl rfl (by kernel_rfl) rfl ?_
    have⟨y104,hy,h⟩:=aS h
    refine cal false [.t (.int .i64), .t (.int .i64), .t (.int .i64)] [] (some 39) K (ok62 N _ _ _ hy) <| nN K (tn 3) ?_
    refine cnd h ?_ ?_<;>intro h
    ·refine nR K (tn 1) ?_
     cases h; exact VW.ret (rt [])
    refine VW.skip ?_
    exact arv [.ren [1] [0]] ⟨a0.1, a0.2.1, a0.2.2.1, a0.2.2.2.1, a0.2.2.2.2.1, a0.2.2.2.2.2.1, a0.2.2.2.2.2.2, rfl, h⟩
   refine nN K (tn 6) ?_
   refine VW.cond (b := false) (by kernel_rfl) (fun h' => nomatch h') (fun _ => ?_)
   refine VW.skip ?_
   exact arv [.ren [1] [0]] ⟨a0.1, a0.2.1, a0.2.2.1, a0.2.2.2.1, a0.2.2.2.2.1, a0.2.2.2.2.2.1, a0.2.2.2.2.2.2, rfl, h⟩
  refine nG K 9 (tn 9) ?_
  refine spB 36 h ?_ ?_<;>intro h
  ·refine sGh K 2 [1, 33, 36, 38] [0] [(1, .lf (.ptr 0 0 0 0)), (33, B false), (36, B true), (38, I a0.2.2.2.2.1)] (tn 2) <| VO.on (j := 32) (want := true) (d := 36) (b := true) rfl rfl rfl (by kernel_rfl) rfl ?_
   have⟨y105,hy,h⟩:=aS h
   refine cal false [.t (.int .i64), .t (.int .i64), .t (.int .i64)] [] (some 39) K (ok62 N _ _ _ hy) <| nN K (tn 3) ?_
   refine cnd h ?_ ?_<;>intro h
   ·refine nR K (tn 1) ?_
    cases h; exact VW.ret (rt [])
   refine VW.skip ?_
   exact arv [.ren [1] [0]] ⟨a0.1, a0.2.1, a0.2.2.1, a0.2.2.2.1, a0.2.2.2.2.1, a0.2.2.2.2.2.1, a0.2.2.2.2.2.2, rfl, h⟩
  refine sNh K [1, 42] [0] [(1, .lf (.ptr 0 0 0 0)), (42, B false)] (tn 6) ?_
  refine VW.cond (b := false) (by kernel_rfl) (fun h' => nomatch h') (fun _ => ?_)
  refine VW.skip ?_
  exact arv [.ren [1] [0]] ⟨a0.1, a0.2.1, a0.2.2.1, a0.2.2.2.1, a0.2.2.2.2.1, a0.2.2.2.2.2.1, a0.2.2.2.2.2.2, rfl, h⟩
 rintro s ⟨x9, x10, x11, x12, x13, x14, x15, rfl, h⟩
 unfold F108_j3 at h
 refine VW.join (fun s => s = ⟨[], []⟩ ∧ F108_j0 N = some r) ?_ ?_
 ·refine nR K (tn 2) <| VW.block <| nR K (tn 2) ?_
  refine cnd h ?_ ?_<;>intro h
  ·refine sq <| VW.region <| nG K 2 (tn 2) ?_
   have⟨y57,hy,h⟩:=aS h
   refine cal false [.t .str] [] (some 49) K (ok146 N _ hy) <| nG K 1 (tn 1) ?_
   refine spB 50 h ?_ ?_<;>intro h
   ·refine nG K 5 (tn 5) ?_
    refine spB 55 h ?_ ?_<;>intro h
    ·refine sGh K 5 [1, 60] [0] [(1, .lf (.ptr 0 0 0 0)), (60, B (x13 == (0 : Int)))] (tn 5) ?_
     refine spB 60 h ?_ ?_<;>intro h
     ·refine nN K (tn 5) ?_
      cases h; exact VW.ret (rt [])
     refine nN K (tn 5) ?_
     cases h; exact VW.ret (rt [])
    refine sN K [2] [] ⟨[(2, B false)], []⟩ (tn 10) ?_
    cases h; exact VW.ret (rt [])
   refine nN K (tn 15) ?_
   cases h; exact VW.ret (rt [])
  refine nR K (tn 2) ?_
  refine cnd h ?_ ?_<;>intro h
  ·refine sq <| VW.region <| nG K 2 (tn 2) ?_
   have⟨y58,hy,h⟩:=aS h
   refine cal false [.t (.int .i64)] [] (some 69) K (ok147 N _ hy) <| nG K 1 (tn 1) ?_
   refine spB 70 h ?_ ?_<;>intro h
   ·refine sGh K 2 [1, 70, 72] [0] [(1, .lf (.ptr 0 0 0 0)), (70, B true), (72, I x12)] (tn 2) <| VO.on (j := 3) (want := true) (d := 70) (b := true) rfl rfl rfl (by kernel_rfl) rfl ?_
    have⟨y59,hy,h⟩:=aS h
    refine cal false [.t (.int .i64), .t (.int .i64), .t (.int .i64)] [] (some 73) K (ok62 N _ _ _ hy) <| nG K 2 (tn 2) ?_
    refine spB 75 h ?_ ?_<;>intro h
    ·refine nG K 2 (tn 2) <| VO.on (j := 8) (want := true) (d := 75) (b := true) rfl rfl rfl (by kernel_rfl) rfl ?_
     have⟨y60,hy,h⟩:=aS h
     refine cal false [.t (.int .i64)] [] (some 78) K (ok117 N _ hy) <| nG K 2 (tn 2) ?_
     refine spB 80 h ?_ ?_<;>intro h
     ·refine nG K 4 (tn 4) ?_
      refine spB 84 h ?_ ?_<;>intro h
      ·refine nN K (tn 11) ?_
       cases h; exact VW.ret (rt [])
      refine nG K 4 (tn 4) ?_
      refine spB 88 h ?_ ?_<;>intro h
      ·refine sN K [2] [] ⟨[(2, B (!x14))], []⟩ (tn 7) ?_
       cases h; exact VW.ret (rt [])
      refine sN K [2] [] ⟨[(2, B false)], []⟩ (tn 7) ?_
      cases h; exact VW.ret (rt [])
     refine nN K (tn 15) ?_
     cases h; exact VW.ret (rt [])
    refine nN K (tn 20) ?_
    cases h; exact VW.ret (rt [])
   refine sN K [2] [] ⟨[(2, B false)], []⟩ (tn 25) ?_
   cases h; exact VW.ret (rt [])
  refine nR K (tn 2) ?_
  refine cnd h ?_ ?_<;>intro h
  ·refine VW.join (fun s => s = ⟨[(1, .lf (.ptr 0 0 0 0))], [bx [zi x9, zs x10, zi x11, zi x12, zi x13, zb x14, .v (.sl (.int .i64)) x15] 78]⟩ ∧ F108_j1 N x11 x13 x14 x15 = some r) ?_ ?_
   ·refine nR K (tn 1) <| VW.block <| lop (fun k s => ∃ x81, s = ⟨[(1, .lf (.ptr 0 0 0 0)), (3, I x81)], [bx [zi x9, zs x10, zi x11, zi x12, zi x13, zb x14, .v (.sl (.int .i64)) x15] 78]⟩ ∧ F108_l0 N x11 x13 x14 x15 k x81 = some r) N [.ren [1, 3] [0]] ⟨(0 : Int), rfl, h⟩ ?_
    rintro k86 s ⟨x81, rfl, h⟩
    cases k86 with
    | zero => cases show none = some r from h
    | succ k86 =>
     replace h : F108_l0_b N x11 x13 x14 x15 (F108_l0 N x11 x13 x14 x15 k86) x81 = some r := h
     unfold F108_l0_b at h
     refine sq <| nR K (tn 5) ?_
     refine cnd h ?_ ?_<;>intro h
     ·refine VW.skip <| sq <| VW.block <| sq <| VW.region ?_
      have⟨g89,h⟩:=gS h
      refine nG K 5 (pu 3 (an g89 (tn 1))) ?_
      have⟨y90,hy,h⟩:=aS h
      refine cal false [.t (.int .i64)] [] (some 109) K (ok147 N _ hy) <| nN K (tn 1) ?_
      refine cnd h ?_ ?_<;>intro h
      ·refine nR K (tn 1) ?_
       cases h; exact VW.ret (rt [])
      refine VW.skip <| nE K (tn 3) ?_
      exact aro [.ren [1, 3] [0]] ⟨(wr (x81 + (1 : Int))), rfl, h⟩
     refine VW.exit ?_
     exact arv [.ren [1] [0]] ⟨rfl, h⟩
   rintro s ⟨rfl, h⟩
   unfold F108_j1 at h
   refine sq <| VW.region <| nG K 3 (tn 3) ?_
   have⟨y75,hy,h⟩:=aS h
   refine cal false [.t (.int .i64), .t (.int .i64), .t (.int .i64)] [] (some 114) K (ok62 N _ _ _ hy) <| nG K 1 (tn 1) ?_
   refine spB 115 h ?_ ?_<;>intro h
   ·refine nG K 5 (tn 5) ?_
    refine spB 120 h ?_ ?_<;>intro h
    ·refine nG K 5 (tn 5) ?_
     refine spB 125 h ?_ ?_<;>intro h
     ·refine nN K (tn 5) ?_
      cases h; exact VW.ret (rt [])
     refine nN K (tn 5) ?_
     cases h; exact VW.ret (rt [])
    refine nN K (tn 10) ?_
    cases h; exact VW.ret (rt [])
   refine nN K (tn 15) ?_
   cases h; exact VW.ret (rt [])
  refine nR K (tn 2) ?_
  refine cnd h ?_ ?_<;>intro h
  ·refine sq <| VW.region <| sGh K 2 [1, 133] [0] [(1, .lf (.ptr 0 0 0 0)), (133, I x11)] (tn 2) ?_
   have⟨y91,hy,h⟩:=aS h
   refine cal false [.t (.int .i64)] [] (some 134) K (ok147 N _ hy) <| nG K 1 (tn 1) ?_
   refine spB 135 h ?_ ?_<;>intro h
   ·refine nG K 2 (tn 2) <| VO.on (j := 3) (want := true) (d := 135) (b := true) rfl rfl rfl (by kernel_rfl) rfl ?_
    have⟨y92,hy,h⟩:=aS h
    refine cal false [.t (.int .i64)] [] (some 138) K (ok147 N _ hy) <| nG K 2 (tn 2) ?_
    refine spB 140 h ?_ ?_<;>intro h
    ·refine nN K (tn 5) ?_
     cases h; exact VW.ret (rt [])
    refine nN K (tn 5) ?_
    cases h; exact VW.ret (rt [])
   refine nN K (tn 10) ?_
   cases h; exact VW.ret (rt [])
  refine sRh K [1, 44, 145] [0] [(1, .lf (.ptr 0 0 0 0)), (44, I x9), (145, B (x9 == (5 : Int)))] (tn 2) ?_
  refine cnd h ?_ ?_<;>intro h
  ·refine sq <| VW.region <| nG K 2 (tn 2) ?_
   have⟨y93,hy,h⟩:=aS h
   refine cal false [.t (.int .i64)] [] (some 149) K (ok147 N _ hy) <| nG K 1 (tn 1) ?_
   refine spB 150 h ?_ ?_<;>intro h
   ·refine nG K 5 (tn 5) ?_
    refine spB 155 h ?_ ?_<;>intro h
    ·refine nN K (tn 5) ?_
     cases h; exact VW.ret (rt [])
    refine nN K (tn 5) ?_
    cases h; exact VW.ret (rt [])
   refine nN K (tn 10) ?_
   cases h; exact VW.ret (rt [])
  refine nR K (tn 2) ?_
  refine cnd h ?_ ?_<;>intro h
  ·refine sq <| VW.region <| nG K 4 (tn 4) ?_
   refine spB 165 h ?_ ?_<;>intro h
   ·refine nG K 2 (tn 2) <| VO.on (j := 3) (want := true) (d := 165) (b := true) rfl rfl rfl (by kernel_rfl) rfl ?_
    have⟨y94,hy,h⟩:=aS h
    refine cal false [.t (.int .i64), .t (.int .i64), .t (.int .i64)] [] (some 168) K (ok62 N _ _ _ hy) <| nN K (tn 2) ?_
    cases h; exact VW.ret (rt [])
   refine nN K (tn 5) ?_
   cases h; exact VW.ret (rt [])
  refine VW.join (fun s => ∃ x95, s = ⟨[(1, .lf (.ptr 0 0 0 0)), (170, B x95)], [bx [zi x9, zs x10, zi x11, zi x12, zi x13, zb x14, .v (.sl (.int .i64)) x15] 78]⟩ ∧ F108_j2 N x11 x13 x14 x95 = some r) ?_ ?_
  ·refine nR K (tn 2) ?_
   refine cnd h ?_ ?_<;>intro h
   ·refine VW.skip ?_
    exact arv [.ren [1, 170] [0]] ⟨(x9 == (4 : Int)), rfl, h⟩
   refine nE K (tn 2) ?_
   exact arv [.ren [1, 170] [0]] ⟨(x9 == (7 : Int)), rfl, h⟩
  rintro s ⟨x95, rfl, h⟩
  unfold F108_j2 at h
  refine cnd h ?_ ?_<;>intro h
  ·refine sq <| VW.region <| nG K 4 (tn 4) ?_
   refine spB 176 h ?_ ?_<;>intro h
   ·refine nG K 5 (tn 5) ?_
    refine spB 181 h ?_ ?_<;>intro h
    ·refine nN K (tn 5) ?_
     cases h; exact VW.ret (rt [])
    refine nN K (tn 5) ?_
    cases h; exact VW.ret (rt [])
   refine nN K (tn 10) ?_
   cases h; exact VW.ret (rt [])
  refine VW.skip ?_
  exact arv [.ren [] []] ⟨rfl, h⟩
 rintro s ⟨rfl, h⟩
 unfold F108_j0 at h
 refine nR K (tn 1) ?_
 cases h; exact VW.ret (rt [])
def F67_j0 (N : Nat) (a0 : (List Z76)) : Option (Bool) :=
  andO (F65 N a0 (0 : Int) (10 : Int)) fun y17 => some (y17.1 == (a0.length : Int))
def F67_l0_b (N : Nat) (a0 : (List Z76)) (nx28 : Int → Option (Bool)) (x23 : Int) : Option (Bool) :=
  cond (decide (x23 < (a0.length : Int))) (gd (InR x23 a0.length) (andO (F108 N (a0.getD x23.toNat (Ty.dflt Y76))) fun y32 => cond (!y32) (some false) (nx28 (IntKind.i64.wrap (x23 + (1 : Int)))))) (F67_j0 N a0)
def F67_l0 (N : Nat) (a0 : (List Z76)) := loopF (F67_l0_b N a0) (fun _ => none)
theorem F67_l0_s N a0 {k} (hk : 0 < k) x23 : F67_l0 N a0 k x23 = F67_l0_b N a0 (F67_l0 N a0 (k - 1)) x23 := by cases k;cases hk;rfl
def F67 (N : Nat) (a0 : (List Z76)) : Option (Bool) :=
  andO (F62 N (a0.length : Int) (1 : Int) (40 : Int)) fun y2 => cond (!y2) (some false) (F67_l0 N a0 N (0 : Int))
theorem ok67 N a0 {r} (h : F67 N a0 = some r) : Con prog 67 [Vv (.sl Y76) a0] [.lf (.v .bool r)] := by
 refine ctr [.lf (.v .bool)] K func67 rfl fun w0 E0 ht => ?_
 unfold F67 at h
 show VW _ _ _ _ _ (retQ _ _ _ _) _
 refine nR K (tn 1) <| sq <| sq <| VW.region <| nG K 2 (tn 2) ?_
 have⟨y2,hy,h⟩:=aS h
 refine cal false [.t (.int .i64), .t (.int .i64), .t (.int .i64)] [] (some 8) K (ok62 N _ _ _ hy) <| nN K (tn 1) ?_
 refine cnd h ?_ ?_<;>intro h
 ·refine nR K (tn 1) ?_
  cases h; exact VW.ret (rt [])
 refine VW.skip ?_
 refine VW.join (fun s => s = ⟨[(0, Vv (.sl Y76) a0)], []⟩ ∧ F67_j0 N a0 = some r) ?_ ?_
 ·refine nR K (tn 1) <| VW.block <| lop (fun k s => ∃ x23, s = ⟨[(0, Vv (.sl Y76) a0), (3, I x23)], []⟩ ∧ F67_l0 N a0 k x23 = some r) N [.ren [0, 3] []] ⟨(0 : Int), rfl, h⟩ ?_
  rintro k28 s ⟨x23, rfl, h⟩
  cases k28 with
  | zero => cases show none = some r from h
  | succ k28 =>
   replace h : F67_l0_b N a0 (F67_l0 N a0 k28) x23 = some r := h
   unfold F67_l0_b at h
   refine sq <| nR K (tn 4) ?_
   refine cnd h ?_ ?_<;>intro h
   ·refine VW.skip <| sq <| VW.block <| sq <| VW.region ?_
    have⟨g31,h⟩:=gS h
    refine nG K 4 (pu 2 (an g31 (tn 1))) ?_
    have⟨y32,hy,h⟩:=aS h
    refine cal false [.t Y76] [] (some 20) K (ok108 N _ hy) <| nN K (tn 1) ?_
    refine cnd h ?_ ?_<;>intro h
    ·refine nR K (tn 1) ?_
     cases h; exact VW.ret (rt [])
    refine VW.skip <| nE K (tn 3) ?_
    exact aro [.ren [0, 3] []] ⟨(wr (x23 + (1 : Int))), rfl, h⟩
   refine VW.exit ?_
   exact arv [.ren [0] []] ⟨rfl, h⟩
 rintro s ⟨rfl, h⟩
 unfold F67_j0 at h
 refine sq <| VW.region <| nG K 1 (tn 1) ?_
 have⟨y17,hy,h⟩:=aS h
 refine cal false [.t (.sl Y76), .t (.int .i64), .t (.int .i64)] [] (some 24) K (ok65 N _ _ _ hy) <| nN K (tn 5) <| nR K (tn 5) ?_
 cases h; exact VW.ret (rt [])
def F101_j0 (N : Nat) (x24 : (List Int)) : Option ((List Int)) :=
  some x24
def F101_l0_b (N : Nat) (a0 : (List Int)) (nx41 : (List Int) → Int → Option ((List Int))) (x33 : (List Int)) (x34 : Int) : Option ((List Int)) :=
  cond (decide (x34 < (a0.length : Int))) (gd (InR x34 a0.length) (gd (InR x34 x33.length) (gd (x34.toNat < x33.length) (nx41 (x33.set x34.toNat (a0.getD x34.toNat (Ty.dflt (.int .i64)))) (IntKind.i64.wrap (x34 + (1 : Int))))))) (F101_j0 N x33)
def F101_l0 (N : Nat) (a0 : (List Int)) := loopF (F101_l0_b N a0) (fun _ _ => none)
theorem F101_l0_s N a0 {k} (hk : 0 < k) x33 x34 : F101_l0 N a0 k x33 x34 = F101_l0_b N a0 (F101_l0 N a0 (k - 1)) x33 x34 := by cases k;cases hk;rfl
def F101 (N : Nat) (a0 : (List Int)) : Option ((List Int)) :=
  gd (0 ≤ (a0.length : Int) ∧ (a0.length : Int) ≤ (lim (.int .i64) : Int) ∧ (a0.length : Int) = (a0.length : Int)) (F101_l0 N a0 N (List.replicate (a0.length : Int).toNat (Ty.dflt (.int .i64))) (0 : Int))
theorem ok101 N a0 {r} (h : F101 N a0 = some r) : Con prog 101 [Vv (.sl (.int .i64)) a0] [.lf (.own (.int .i64) r .dp)] := by
 refine ctr [.lf (.own (.int .i64) .dp)] K func101 rfl fun w0 E0 ht => ?_
 unfold F101 at h
 show VW _ _ _ _ _ (retQ _ _ _ _) _
 refine nR K (tn 1) ?_
 have⟨g1,h⟩:=gS h
 refine nR K (pu 2 (an g1 (tn 1))) ?_
 refine VW.join (fun s => ∃ x24, s = ⟨[(3, hh 0)], [ar 0 (.int .i64) x24 .dp]⟩ ∧ F101_j0 N x24 = some r) ?_ ?_
 ·refine nR K (tn 1) <| VW.block <| lop (fun k s => ∃ x33 x34, s = ⟨[(0, Vv (.sl (.int .i64)) a0), (3, hh 0), (4, I x34)], [ar 0 (.int .i64) x33 .dp]⟩ ∧ F101_l0 N a0 k x33 x34 = some r) N [.ren [0, 3, 4] [0]] ⟨(List.replicate (a0.length : Int).toNat (Ty.dflt (.int .i64))), (0 : Int), rfl, h⟩ ?_
  rintro k41 s ⟨x33, x34, rfl, h⟩
  cases k41 with
  | zero => cases show none = some r from h
  | succ k41 =>
   replace h : F101_l0_b N a0 (F101_l0 N a0 k41) x33 x34 = some r := h
   unfold F101_l0_b at h
   refine sq <| nR K (tn 4) ?_
   refine cnd h ?_ ?_<;>intro h
   ·refine VW.skip <| sq <| VW.block ?_
    have⟨g45,h⟩:=gS h
    have⟨g46,h⟩:=gS h
    have⟨g47,h⟩:=gS h
    refine nE K (pu 4 (an g45 (pu 1 (an g46 (an g47 (tn 0)))))) <| nE K (tn 3) ?_
    exact aro [.ren [0, 3, 4] [0]] ⟨(x33.set x34.toNat (a0.getD x34.toNat (Ty.dflt (.int .i64)))), (wr (x34 + (1 : Int))), rfl, h⟩
   refine VW.exit ?_
   exact arv [.ren [3] [0]] ⟨x33, rfl, h⟩
 rintro s ⟨x24, rfl, h⟩
 unfold F101_j0 at h
 refine nR K (tn 2) ?_
 cases h; exact VW.ret (rt [some 0])
def F57 (N : Nat) (a0 : Z76) : Option (Z76) :=
  andO (F101 N a0.2.2.2.2.2.2) fun y1 => some (a0.1, (a0.2.1, (a0.2.2.1, (a0.2.2.2.1, (a0.2.2.2.2.1, (a0.2.2.2.2.2.1, y1))))))
theorem ok57 N a0 {r} (h : F57 N a0 = some r) : Con prog 57 [.agg (lv Y76 a0)] [.agg [.v (.int .i64) r.1, .v .str r.2.1, .v (.int .i64) r.2.2.1, .v (.int .i64) r.2.2.2.1, .v (.int .i64) r.2.2.2.2.1, .v .bool r.2.2.2.2.2.1, .own (.int .i64) r.2.2.2.2.2.2 .dp]] := by
 refine ctr [.agg [.v (.int .i64), .v .str, .v (.int .i64), .v (.int .i64), .v (.int .i64), .v .bool, .own (.int .i64) .dp]] K func57 rfl fun w0 E0 ht => ?_
 unfold F57 at h
 show VW _ _ _ _ _ (retQ _ _ _ _) _
 refine nR K (tn 2) <| nR K (tn 1) <| nR K (tn 4) <| nR K (tn 4) <| nR K (tn 4) <| sR K [1, 2, 3] [0, 1, 2] ⟨[(1, .lf (.ptr 0 0 0 0)), (2, .lf (.ptr 1 0 0 0)), (3, .lf (.ptr 2 0 0 0))], [bx (lv Y76 a0) 77, bx [zi (0 : Int), zs ByteArray.empty, zi (0 : Int), zi (0 : Int), zi (0 : Int), zb false, .nil] 78, bx [zi a0.1, zs a0.2.1, zi a0.2.2.1, zi a0.2.2.2.1, zi (0 : Int), zb false, .nil] 78]⟩ (tn 4) ?_
 refine nR K (tn 4) <| nR K (tn 4) <| sq <| VW.region <| nG K 2 (tn 2) ?_
 have⟨y1,hy,h⟩:=aS h
 refine cal false [.t (.sl (.int .i64))] [] (some 24) K (ok101 N _ hy) <| nN K (tn 2) <| nR K (tn 2) ?_
 cases h; exact VW.ret (rt [some 3])
def F17_j0 (N : Nat) (x30 : (List Z76)) : Option ((List Z76)) :=
  some x30
def F17_l0_b (N : Nat) (a0 : (List Z76)) (nx51 : (List Z76) → Int → Option ((List Z76))) (x41 : (List Z76)) (x42 : Int) : Option ((List Z76)) :=
  cond (decide (x42 < (a0.length : Int))) (gd (InR x42 a0.length) (andO (F57 N (a0.getD x42.toNat (Ty.dflt Y76))) fun y57 => gd (InR x42 x41.length) (gd (x42.toNat < x41.length) (nx51 (x41.set x42.toNat y57) (IntKind.i64.wrap (x42 + (1 : Int))))))) (F17_j0 N x41)
def F17_l0 (N : Nat) (a0 : (List Z76)) := loopF (F17_l0_b N a0) (fun _ _ => none)
theorem F17_l0_s N a0 {k} (hk : 0 < k) x41 x42 : F17_l0 N a0 k x41 x42 = F17_l0_b N a0 (F17_l0 N a0 (k - 1)) x41 x42 := by cases k;cases hk;rfl
def F17 (N : Nat) (a0 : (List Z76)) : Option ((List Z76)) :=
  gd (0 ≤ (a0.length : Int) ∧ (a0.length : Int) ≤ (lim Y76 : Int) ∧ (a0.length : Int) = (a0.length : Int)) (F17_l0 N a0 N (List.replicate (a0.length : Int).toNat (Ty.dflt Y76)) (0 : Int))
theorem ok17 N a0 {r} (h : F17 N a0 = some r) : Con prog 17 [Vv (.sl Y76) a0] [.lf (.own Y76 r .dp)] := by
 refine ctr [.lf (.own Y76 .dp)] K func17 rfl fun w0 E0 ht => ?_
 unfold F17 at h
 show VW _ _ _ _ _ (retQ _ _ _ _) _
 refine nR K (tn 1) ?_
 have⟨g1,h⟩:=gS h
 refine nR K (pu 2 (an g1 (tn 1))) ?_
 refine VW.join (fun s => ∃ x30, s = ⟨[(3, hh 0)], [ar 0 Y76 x30 .dp]⟩ ∧ F17_j0 N x30 = some r) ?_ ?_
 ·refine nR K (tn 1) <| VW.block <| lop (fun k s => ∃ x41 x42, s = ⟨[(0, Vv (.sl Y76) a0), (3, hh 0), (4, I x42)], [ar 0 Y76 x41 .dp]⟩ ∧ F17_l0 N a0 k x41 x42 = some r) N [.ren [0, 3, 4] [0]] ⟨(List.replicate (a0.length : Int).toNat D76), (0 : Int), rfl, h⟩ ?_
  rintro k51 s ⟨x41, x42, rfl, h⟩
  cases k51 with
  | zero => cases show none = some r from h
  | succ k51 =>
   replace h : F17_l0_b N a0 (F17_l0 N a0 k51) x41 x42 = some r := h
   unfold F17_l0_b at h
   refine sq <| nR K (tn 4) ?_
   refine cnd h ?_ ?_<;>intro h
   ·refine VW.skip <| sq <| VW.block <| VW.region ?_
    have⟨g56,h⟩:=gS h
    refine nG K 6 (pu 4 (an g56 (tn 1))) ?_
    have⟨y57,hy,h⟩:=aS h
    refine cal false [.t Y76] [] (some 20) K (ok57 N _ hy) ?_
    have⟨g58,h⟩:=gS h
    refine nG K 1 (an g58 (tn 0)) ?_
    have⟨g59,h⟩:=gS h
    refine VO.storeA (φ := x42.toNat < x41.length) (H' := [ar 0 Y76 (x41.set x42.toNat y57) .dp, none]) K (by kernel_rfl) g59 <| sN K [0, 3, 4] [0] ⟨[(0, Vv (.sl Y76) a0), (3, hh 0), (4, I x42)], [ar 0 Y76 (x41.set x42.toNat y57) .dp]⟩ (tn 0) <| nE K (tn 3) ?_
    exact aro [.ren [0, 3, 4] [0]] ⟨(x41.set x42.toNat y57), (wr (x42 + (1 : Int))), rfl, h⟩
   refine VW.exit ?_
   exact arv [.ren [3] [0]] ⟨x41, rfl, h⟩
 rintro s ⟨x30, rfl, h⟩
 unfold F17_j0 at h
 refine nR K (tn 2) ?_
 cases h; exact VW.ret (rt [some 0])
def F91 (N : Nat) (a0 : Int) (a1 : Int) (a2 : Int) : Option (Bool) :=
  cond (decide (a0 ≥ a1)) (some (decide (a0 ≤ a2))) (some false)
theorem ok91 N a0 a1 a2 {r} (h : F91 N a0 a1 a2 = some r) : Con prog 91 [I a0, I a1, I a2] [.lf (.v .bool r)] := by
 refine ctr [.lf (.v .bool)] K func91 rfl fun w0 E0 ht => ?_
 unfold F91 at h
 show VW _ _ _ _ _ (retQ _ _ _ _) _
 refine nR K (tn 1) <| sq <| VW.region <| nG K 4 (tn 4) ?_
 refine spB 10 h ?_ ?_<;>intro h
 ·refine nN K (tn 5) ?_
  cases h; exact VW.ret (rt [])
 refine nN K (tn 5) ?_
 cases h; exact VW.ret (rt [])
def F153_j0 (N : Nat) (x6 : Bool) : Option (Int) :=
  cond x6 (some (1 : Int)) (some (-1 : Int))
def F153_j1 (N : Nat) (a0 : Int) (x5 : Bool) : Option (Int) :=
  cond x5 (some (2 : Int)) (cond (a0 == (1 : Int)) (F153_j0 N (a0 == (1 : Int))) (cond (a0 == (2 : Int)) (F153_j0 N (a0 == (2 : Int))) (cond (a0 == (5 : Int)) (F153_j0 N (a0 == (5 : Int))) (cond (a0 == (6 : Int)) (F153_j0 N (a0 == (6 : Int))) (F153_j0 N (a0 == (7 : Int)))))))
def F153 (N : Nat) (a0 : Int) : Option (Int) :=
  cond (a0 == (0 : Int)) (some (0 : Int)) (cond (a0 == (3 : Int)) (F153_j1 N a0 (a0 == (3 : Int))) (F153_j1 N a0 (a0 == (4 : Int))))
theorem ok153 N a0 {r} (h : F153 N a0 = some r) : Con prog 153 [I a0] [.lf (.v (.int .i64) r)] := by
 refine ctr [.lf (.v (.int .i64))] K func153 rfl fun w0 E0 ht => ?_
 unfold F153 at h
 show VW _ _ _ _ _ (retQ _ _ _ _) _
 refine nR K (tn 1) <| sq <| nR K (tn 1) <| VW.block <| nR K (tn 2) ?_
 refine cnd h ?_ ?_<;>intro h
 ·refine nR K (tn 1) ?_
  cases h; exact VW.ret (rt [])
 refine VW.join (fun s => ∃ x5, s = ⟨[(3, I a0), (6, B x5)], []⟩ ∧ F153_j1 N a0 x5 = some r) ?_ ?_
 ·refine nR K (tn 2) ?_
  refine cnd h ?_ ?_<;>intro h
  ·refine VW.skip ?_
   exact arv [.ren [3, 6] []] ⟨(a0 == (3 : Int)), rfl, h⟩
  refine nE K (tn 2) ?_
  exact arv [.ren [3, 6] []] ⟨(a0 == (4 : Int)), rfl, h⟩
 rintro s ⟨x5, rfl, h⟩
 unfold F153_j1 at h
 refine cnd h ?_ ?_<;>intro h
 ·refine nR K (tn 1) ?_
  cases h; exact VW.ret (rt [])
 refine VW.join (fun s => ∃ x6, s = ⟨[(9, B x6)], []⟩ ∧ F153_j0 N x6 = some r) ?_ ?_
 ·refine nR K (tn 2) ?_
  refine cnd h ?_ ?_<;>intro h
  ·refine VW.skip ?_
   exact arv [.ren [9] []] ⟨(a0 == (1 : Int)), rfl, h⟩
  refine nR K (tn 2) ?_
  refine cnd h ?_ ?_<;>intro h
  ·refine VW.skip ?_
   exact arv [.ren [9] []] ⟨(a0 == (2 : Int)), rfl, h⟩
  refine nR K (tn 2) ?_
  refine cnd h ?_ ?_<;>intro h
  ·refine VW.skip ?_
   exact arv [.ren [9] []] ⟨(a0 == (5 : Int)), rfl, h⟩
  refine nR K (tn 2) ?_
  refine cnd h ?_ ?_<;>intro h
  ·refine VW.skip ?_
   exact arv [.ren [9] []] ⟨(a0 == (6 : Int)), rfl, h⟩
  refine nE K (tn 2) ?_
  exact arv [.ren [9] []] ⟨(a0 == (7 : Int)), rfl, h⟩
 rintro s ⟨x6, rfl, h⟩
 unfold F153_j0 at h
 refine cnd h ?_ ?_<;>intro h
 ·refine nR K (tn 1) ?_
  cases h; exact VW.ret (rt [])
 refine VW.skip <| nR K (tn 1) ?_
 cases h; exact VW.ret (rt [])
def F113_j0 (N : Nat) (x13 : Int) : Option (Int) :=
  some x13
def F113_l0_b (N : Nat) (a0 : (List Z76)) (a2 : Int) (self : (List Z76) → Int → Int → Option (Int)) (y16 : Int) (nx24 : Int → Int → Option (Int)) (x20 : Int) (x21 : Int) : Option (Int) :=
  cond (decide (x21 < y16)) (andO (self a0 x20 (IntKind.i64.wrap (a2 + (1 : Int)))) fun y26 => cond (decide (y26 < (0 : Int))) (some (-1 : Int)) (nx24 y26 (IntKind.i64.wrap (x21 + (1 : Int))))) (F113_j0 N x20)
def F113_l0 (N : Nat) (a0 : (List Z76)) (a2 : Int) (self : (List Z76) → Int → Int → Option (Int)) (y16 : Int) := loopF (F113_l0_b N a0 a2 self y16) (fun _ _ => none)
theorem F113_l0_s N a0 a2 (self : (List Z76) → Int → Int → Option (Int)) y16 {k} (hk : 0 < k) x20 x21 : F113_l0 N a0 a2 self y16 k x20 x21 = F113_l0_b N a0 a2 self y16 (F113_l0 N a0 a2 self y16 (k - 1)) x20 x21 := by cases k;cases hk;rfl
def F113_b (N : Nat) (self : (List Z76) → Int → Int → Option (Int)) (a0 : (List Z76)) (a1 : Int) (a2 : Int) : Option (Int) :=
  cond (decide (a1 ≥ (a0.length : Int))) (some (-1 : Int)) (cond (decide (a2 > (10 : Int))) (some (-1 : Int)) (gd (InR a1 a0.length) (andO (F153 N ((a0.getD a1.toNat (Ty.dflt Y76)).1)) fun y16 => F113_l0 N a0 a2 self y16 N (IntKind.i64.wrap (a1 + (1 : Int))) (0 : Int))))
theorem ok113_b (N : Nat) (self : (List Z76) → Int → Int → Option (Int)) (ih : ∀ (a0 : (List Z76)) (a1 : Int) (a2 : Int) (r : Int), self a0 a1 a2 = some r → Con prog 113 [Vv (.sl Y76) a0, I a1, I a2] [.lf (.v (.int .i64) r)]) (a0 : (List Z76)) (a1 : Int) (a2 : Int) {r : Int} (h : F113_b N self a0 a1 a2 = some r) : Con prog 113 [Vv (.sl Y76) a0, I a1, I a2] [.lf (.v (.int .i64) r)] := by
 refine ctr [.lf (.v (.int .i64))] K func113 rfl fun w0 E0 ht => ?_
 unfold F113_b at h
 show VW _ _ _ _ _ (retQ _ _ _ _) _
 refine nR K (tn 1) <| sq <| sq <| VW.region <| nG K 5 (tn 5) ?_
 refine spB 12 h ?_ ?_<;>intro h
 ·refine nN K (tn 3) ?_
  refine VW.cond (b := true) (by kernel_rfl) (fun _ => ?_) (fun h' => nomatch h')
  refine nR K (tn 1) ?_
  cases h; exact VW.ret (rt [])
 refine nN K (tn 3) ?_
 refine cnd h ?_ ?_<;>intro h
 ·refine nR K (tn 1) ?_
  cases h; exact VW.ret (rt [])
 refine VW.skip <| nR K (tn 3) ?_
 refine VW.join (fun s => ∃ x13, s = ⟨[(7, I x13)], []⟩ ∧ F113_j0 N x13 = some r) ?_ ?_
 ·refine sq <| VW.region ?_
  have⟨g15,h⟩:=gS h
  refine nG K 5 (pu 2 (an g15 (tn 2))) ?_
  have⟨y16,hy,h⟩:=aS h
  refine cal false [.t (.int .i64)] [] (some 23) K (ok153 N _ hy) <| sN K [0, 2, 7, 23, 24] [] ⟨[(0, Vv (.sl Y76) a0), (2, I a2), (7, I (wr (a1 + (1 : Int)))), (23, I y16), (24, I (0 : Int))], []⟩ (tn 1) <| VW.block <| lop (fun k s => ∃ x20 x21, s = ⟨[(0, Vv (.sl Y76) a0), (2, I a2), (7, I x20), (23, I y16), (24, I x21)], []⟩ ∧ F113_l0 N a0 a2 self y16 k x20 x21 = some r) N [.ren [0, 2, 7, 23, 24] []] ⟨(wr (a1 + (1 : Int))), (0 : Int), rfl, h⟩ ?_
  rintro k24 s ⟨x20, x21, rfl, h⟩
  cases k24 with
  | zero => cases show none = some r from h
  | succ k24 =>
   replace h : F113_l0_b N a0 a2 self y16 (F113_l0 N a0 a2 self y16 k24) x20 x21 = some r := h
   unfold F113_l0_b at h
   refine nR K (tn 1) <| sq ?_
   refine cnd h ?_ ?_<;>intro h
   ·refine VW.skip <| sq <| VW.block <| sq <| VW.region <| nG K 4 (tn 4) ?_
    have⟨y26,hy,h⟩:=aS h
    refine cal false [.t (.sl Y76), .t (.int .i64), .t (.int .i64)] [] (some 30) K (ih _ _ _ _ hy) <| nN K (tn 1) <| nR K (tn 2) ?_
    refine cnd h ?_ ?_<;>intro h
    ·refine nR K (tn 1) ?_
     cases h; exact VW.ret (rt [])
    refine VW.skip <| nE K (tn 2) ?_
    exact aro [.ren [0, 2, 7, 23, 24] []] ⟨y26, (wr (x21 + (1 : Int))), rfl, h⟩
   refine VW.exit ?_
   exact arv [.ren [7] []] ⟨x20, rfl, h⟩
 rintro s ⟨x13, rfl, h⟩
 unfold F113_j0 at h
 refine nR K (tn 2) ?_
 cases h; exact VW.ret (rt [])
def F113_r (N : Nat) := loopF (F113_b N) (fun _ _ _ => none)
theorem F113_s N {k} (hk : 0 < k) a0 a1 a2 : F113_r N k a0 a1 a2 = F113_b N (F113_r N (k - 1)) a0 a1 a2 := by cases k;cases hk;rfl
def F113 (N : Nat) : (List Z76) → Int → Int → Option (Int) := F113_r N N
theorem ok113_k (N : Nat) : ∀ (k : Nat) (a0 : (List Z76)) (a1 : Int) (a2 : Int) (r : Int), loopF (F113_b N) (fun _ _ _ => none) k a0 a1 a2 = some r → Con prog 113 [Vv (.sl Y76) a0, I a1, I a2] [.lf (.v (.int .i64) r)]
 | 0, a0, a1, a2, r, h => nomatch (show (none : Option (Int)) = some r from h)
 | k + 1, a0, a1, a2, r, h => ok113_b N _ (ok113_k N k) a0 a1 a2 h
theorem ok113 N a0 a1 a2 {r} (h : F113 N a0 a1 a2 = some r) : Con prog 113 [Vv (.sl Y76) a0, I a1, I a2] [.lf (.v (.int .i64) r)] := ok113_k N N a0 a1 a2 r h
def F158_j0 (N : Nat) : Option (Int) :=
  some (-1 : Int)
def F158_l0_b (N : Nat) (a0 : (List Z76)) (p1 : Z76 → Option (Bool)) (nx29 : Int → Int → Option (Int)) (x23 : Int) (x24 : Int) : Option (Int) :=
  cond (decide (x24 < x23)) (gd (InR x24 a0.length) (andO (p1 (a0.getD x24.toNat (Ty.dflt Y76))) fun y33 => cond y33 (some x24) (nx29 x23 (IntKind.i64.wrap (x24 + (1 : Int)))))) (F158_j0 N)
def F158_l0 (N : Nat) (a0 : (List Z76)) (p1 : Z76 → Option (Bool)) := loopF (F158_l0_b N a0 p1) (fun _ _ => none)
theorem F158_l0_s N a0 (p1 : Z76 → Option (Bool)) {k} (hk : 0 < k) x23 x24 : F158_l0 N a0 p1 k x23 x24 = F158_l0_b N a0 p1 (F158_l0 N a0 p1 (k - 1)) x23 x24 := by cases k;cases hk;rfl
def F158 (N : Nat) (a0 : (List Z76)) (p1 : Z76 → Option (Bool)) : Option (Int) :=
  F158_l0 N a0 p1 N (a0.length : Int) (0 : Int)
theorem ok158 N a0 (g1 : FuncId) (p1 : Z76 → Option (Bool)) (hp1 : ∀ (z0 : Z76) (r : Bool), p1 z0 = some r → Con prog g1 [.agg (lv Y76 z0)] [.lf (.v .bool r)]) {r} (h : F158 N a0 p1 = some r) : Con prog 158 [Vv (.sl Y76) a0, .clo g1 []] [.lf (.v (.int .i64) r)] := by
 refine ctr [.lf (.v (.int .i64))] K func158 rfl fun w0 E0 ht => ?_
 unfold F158 at h
 show VW _ _ _ _ _ (retQ _ _ _ _) _
 refine nR K (tn 1) ?_
 refine VW.join (fun s => s = ⟨[], []⟩ ∧ F158_j0 N = some r) ?_ ?_
 ·refine nR K (tn 3) <| VW.block <| lop (fun k s => ∃ x23 x24, s = ⟨[(0, Vv (.sl Y76) a0), (1, .clo g1 []), (7, I x23), (8, I x24)], []⟩ ∧ F158_l0 N a0 p1 k x23 x24 = some r) N [.ren [0, 1, 7, 8] []] ⟨(a0.length : Int), (0 : Int), rfl, h⟩ ?_
  rintro k29 s ⟨x23, x24, rfl, h⟩
  cases k29 with
  | zero => cases show none = some r from h
  | succ k29 =>
   replace h : F158_l0_b N a0 p1 (F158_l0 N a0 p1 k29) x23 x24 = some r := h
   unfold F158_l0_b at h
   refine nR K (tn 1) <| sq ?_
   refine cnd h ?_ ?_<;>intro h
   ·refine VW.skip <| sq <| VW.block <| nR K (tn 2) <| sq <| VW.region ?_
    have⟨g32,h⟩:=gS h
    refine nG K 5 (pu 3 (an g32 (tn 1))) ?_
    have⟨y33,hy,h⟩:=aS h
    refine cal false [.t Y76] [] (some 16) K (hp1 _ _ hy) <| nN K (tn 0) ?_
    refine cnd h ?_ ?_<;>intro h
    ·refine nR K (tn 2) ?_
     cases h; exact VW.ret (rt [])
    refine VW.skip <| nE K (tn 2) ?_
    exact aro [.ren [0, 1, 7, 8] []] ⟨x23, (wr (x24 + (1 : Int))), rfl, h⟩
   refine VW.exit ?_
   exact arv [.ren [] []] ⟨rfl, h⟩
 rintro s ⟨rfl, h⟩
 unfold F158_j0 at h
 refine nR K (tn 1) ?_
 cases h; exact VW.ret (rt [])
def F123 (N : Nat) (a0 : (List Z76)) (p1 : Z76 → Option (Bool)) : Option (Bool) :=
  andO (F158 N a0 p1) fun y1 => some (decide (y1 ≥ (0 : Int)))
theorem ok123 N a0 (g1 : FuncId) (p1 : Z76 → Option (Bool)) (hp1 : ∀ (z0 : Z76) (r : Bool), p1 z0 = some r → Con prog g1 [.agg (lv Y76 z0)] [.lf (.v .bool r)]) {r} (h : F123 N a0 p1 = some r) : Con prog 123 [Vv (.sl Y76) a0, .clo g1 []] [.lf (.v .bool r)] := by
 refine ctr [.lf (.v .bool)] K func123 rfl fun w0 E0 ht => ?_
 unfold F123 at h
 show VW _ _ _ _ _ (retQ _ _ _ _) _
 refine nR K (tn 1) <| sq <| VW.region <| nG K 2 (tn 2) ?_
 have⟨y1,hy,h⟩:=aS h
 refine cal false [.t (.sl Y76), .clo []] [] (some 7) K (ok158 N _ g1  p1 hp1 hy) <| nN K (tn 2) ?_
 cases h; exact VW.ret (rt [])
def F138_j0 (N : Nat) : Option (Bool) :=
  some true
def F138_l0_b (N : Nat) (a0 : (List Int)) (a1 : (List Int)) (nx29 : Int → Int → Option (Bool)) (x23 : Int) (x24 : Int) : Option (Bool) :=
  cond (decide (x24 < x23)) (gd (InR x24 a0.length) (gd (InR x24 a1.length) (cond ((a0.getD x24.toNat (Ty.dflt (.int .i64))) != (a1.getD x24.toNat (Ty.dflt (.int .i64)))) (some false) (nx29 x23 (IntKind.i64.wrap (x24 + (1 : Int))))))) (F138_j0 N)
def F138_l0 (N : Nat) (a0 : (List Int)) (a1 : (List Int)) := loopF (F138_l0_b N a0 a1) (fun _ _ => none)
theorem F138_l0_s N a0 a1 {k} (hk : 0 < k) x23 x24 : F138_l0 N a0 a1 k x23 x24 = F138_l0_b N a0 a1 (F138_l0 N a0 a1 (k - 1)) x23 x24 := by cases k;cases hk;rfl
def F138 (N : Nat) (a0 : (List Int)) (a1 : (List Int)) : Option (Bool) :=
  cond ((a0.length : Int) != (a1.length : Int)) (some false) (F138_l0 N a0 a1 N (a0.length : Int) (0 : Int))
theorem ok138 N a0 a1 {r} (h : F138 N a0 a1 = some r) : Con prog 138 [Vv (.sl (.int .i64)) a0, Vv (.sl (.int .i64)) a1] [.lf (.v .bool r)] := by
 refine ctr [.lf (.v .bool)] K func138 rfl fun w0 E0 ht => ?_
 unfold F138 at h
 show VW _ _ _ _ _ (retQ _ _ _ _) _
 refine nR K (tn 1) <| sq <| nR K (tn 5) ?_
 refine cnd h ?_ ?_<;>intro h
 ·refine nR K (tn 1) ?_
  cases h; exact VW.ret (rt [])
 refine VW.skip ?_
 refine VW.join (fun s => s = ⟨[], []⟩ ∧ F138_j0 N = some r) ?_ ?_
 ·refine nR K (tn 3) <| VW.block <| lop (fun k s => ∃ x23 x24, s = ⟨[(0, Vv (.sl (.int .i64)) a0), (1, Vv (.sl (.int .i64)) a1), (12, I x23), (13, I x24)], []⟩ ∧ F138_l0 N a0 a1 k x23 x24 = some r) N [.ren [0, 1, 12, 13] []] ⟨(a0.length : Int), (0 : Int), rfl, h⟩ ?_
  rintro k29 s ⟨x23, x24, rfl, h⟩
  cases k29 with
  | zero => cases show none = some r from h
  | succ k29 =>
   replace h : F138_l0_b N a0 a1 (F138_l0 N a0 a1 k29) x23 x24 = some r := h
   unfold F138_l0_b at h
   refine nR K (tn 1) <| sq ?_
   refine cnd h ?_ ?_<;>intro h
   ·refine VW.skip <| sq <| VW.block <| nR K (tn 2) <| sq ?_
    have⟨g32,h⟩:=gS h
    have⟨g33,h⟩:=gS h
    refine dr K [] [] [] [0, 1, 12, 13, 24] [] (pu 2 (an g32 (pu 3 (an g33 (tn 2))))) trivial ?_
    refine cnd h ?_ ?_<;>intro h
    ·refine nR K (tn 1) ?_
     cases h; exact VW.ret (rt [])
    refine VW.skip <| nE K (tn 2) ?_
    exact aro [.ren [0, 1, 12, 13] []] ⟨x23, (wr (x24 + (1 : Int))), rfl, h⟩
   refine VW.exit ?_
   exact arv [.ren [] []] ⟨rfl, h⟩
 rintro s ⟨rfl, h⟩
 unfold F138_j0 at h
 refine nR K (tn 1) ?_
 cases h; exact VW.ret (rt [])
def F94 (N : Nat) (a0 : Z76) (a1 : Z76) : Option (Bool) :=
  cond (a0.1 == a1.1) (cond (a0.2.1.toList == a1.2.1.toList) (cond (a0.2.2.1 == a1.2.2.1) (cond (a0.2.2.2.1 == a1.2.2.2.1) (cond (a0.2.2.2.2.1 == a1.2.2.2.2.1) (cond (a0.2.2.2.2.2.1 == a1.2.2.2.2.2.1) (andO (F138 N a0.2.2.2.2.2.2 a1.2.2.2.2.2.2) fun y1 => some y1) (some false)) (some false)) (some false)) (some false)) (some false)) (some false)
theorem ok94 N a0 a1 {r} (h : F94 N a0 a1 = some r) : Con prog 94 [.agg (lv Y76 a0), .agg (lv Y76 a1)] [.lf (.v .bool r)] := by
 refine ctr [.lf (.v .bool)] K func94 rfl fun w0 E0 ht => ?_
 unfold F94 at h
 show VW _ _ _ _ _ (retQ _ _ _ _) _
 refine nR K (tn 3) <| sq <| VW.region <| nG K 6 (tn 6) ?_
 refine spB 10 h ?_ ?_<;>intro h
 ·refine nG K 7 (tn 7) ?_
  refine spB 17 h ?_ ?_<;>intro h
  ·refine nG K 7 (tn 7) ?_
   refine spB 24 h ?_ ?_<;>intro h
   ·refine nG K 7 (tn 7) ?_
    refine spB 31 h ?_ ?_<;>intro h
    ·refine sGh K 7 [2, 3, 38] [0, 1] [(2, .lf (.ptr 0 0 0 0)), (3, .lf (.ptr 1 0 0 0)), (38, B (a0.2.2.2.2.1 == a1.2.2.2.2.1))] (tn 7) ?_
     refine spB 38 h ?_ ?_<;>intro h
     ·refine nG K 7 (tn 7) ?_
      refine spB 45 h ?_ ?_<;>intro h
      ·refine nG K 4 (tn 4) <| VO.on (j := 40) (want := true) (d := 45) (b := true) rfl rfl rfl (by kernel_rfl) rfl ?_
       have⟨y1,hy,h⟩:=aS h
       refine cal false [.t (.sl (.int .i64)), .t (.sl (.int .i64))] [] (some 50) K (ok138 N _ _ hy) <| nN K (tn 2) ?_
       cases h; exact VW.ret (rt [])
      refine nN K (tn 7) ?_
      cases h; exact VW.ret (rt [])
     refine nN K (tn 14) ?_
     cases h; exact VW.ret (rt [])
    refine sN K [4] [] ⟨[(4, B false)], []⟩ (tn 21) ?_
    cases h; exact VW.ret (rt [])
   refine nN K (tn 28) ?_
   cases h; exact VW.ret (rt [])
  refine nN K (tn 35) ?_
  cases h; exact VW.ret (rt [])
 refine nN K (tn 42) ?_
 cases h; exact VW.ret (rt [])
def F126 (N : Nat) (a0 : Int) : Option (Bool) :=
  andO (F91 N a0 (-1000000 : Int) (1000000 : Int)) fun y1 => some y1
theorem ok126 N a0 {r} (h : F126 N a0 = some r) : Con prog 126 [I a0] [.lf (.v .bool r)] := by
 refine ctr [.lf (.v .bool)] K func126 rfl fun w0 E0 ht => ?_
 unfold F126 at h
 show VW _ _ _ _ _ (retQ _ _ _ _) _
 refine nR K (tn 1) <| sq <| VW.region <| nG K 1 (tn 1) ?_
 have⟨y1,hy,h⟩:=aS h
 refine cal false [.t (.int .i64), .t (.int .i64), .t (.int .i64)] [] (some 4) K (ok91 N _ _ _ hy) <| nN K (tn 1) ?_
 cases h; exact VW.ret (rt [])
def F159_j0 (N : Nat) (a0 : ByteArray) : Option (Bool) :=
  andO (F91 N (a0.size : Int) (1 : Int) (12 : Int)) fun y14 => some y14
def F159_j1 (N : Nat) (nx25 : Int → Int → Option (Bool)) (x20 : Int) (x21 : Int) : Option (Bool) :=
  nx25 x20 (IntKind.i64.wrap (x21 + (1 : Int)))
def F159_l0_b (N : Nat) (a0 : ByteArray) (nx25 : Int → Int → Option (Bool)) (x20 : Int) (x21 : Int) : Option (Bool) :=
  cond (decide (x21 < x20)) (gd (InR x21 a0.size) (cond (decide (((a0.data.getD x21.toNat 0).toNat : Int) ≥ (97 : Int))) (cond (!(decide (((a0.data.getD x21.toNat 0).toNat : Int) ≤ (122 : Int)))) (cond (x21 == (0 : Int)) (some false) (cond (decide (((a0.data.getD x21.toNat 0).toNat : Int) < (48 : Int))) (some false) (cond (decide (((a0.data.getD x21.toNat 0).toNat : Int) > (57 : Int))) (some false) (F159_j1 N nx25 x20 x21)))) (F159_j1 N nx25 x20 x21)) (cond (x21 == (0 : Int)) (some false) (cond (decide (((a0.data.getD x21.toNat 0).toNat : Int) < (48 : Int))) (some false) (cond (decide (((a0.data.getD x21.toNat 0).toNat : Int) > (57 : Int))) (some false) (F159_j1 N nx25 x20 x21)))))) (F159_j0 N a0)
def F159_l0 (N : Nat) (a0 : ByteArray) := loopF (F159_l0_b N a0) (fun _ _ => none)
theorem F159_l0_s N a0 {k} (hk : 0 < k) x20 x21 : F159_l0 N a0 k x20 x21 = F159_l0_b N a0 (F159_l0 N a0 (k - 1)) x20 x21 := by cases k;cases hk;rfl
def F159 (N : Nat) (a0 : ByteArray) : Option (Bool) :=
  F159_l0 N a0 N (a0.size : Int) (0 : Int)
theorem ok159 N a0 {r} (h : F159 N a0 = some r) : Con prog 159 [S a0] [.lf (.v .bool r)] := by
 refine ctr [.lf (.v .bool)] K func159 rfl fun w0 E0 ht => ?_
 unfold F159 at h
 show VW _ _ _ _ _ (retQ _ _ _ _) _
 refine nR K (tn 1) ?_
 refine VW.join (fun s => s = ⟨[(0, S a0)], []⟩ ∧ F159_j0 N a0 = some r) ?_ ?_
 ·refine nR K (tn 3) <| VW.block <| lop (fun k s => ∃ x20 x21, s = ⟨[(0, S a0), (7, I x20), (8, I x21)], []⟩ ∧ F159_l0 N a0 k x20 x21 = some r) N [.ren [0, 7, 8] []] ⟨(a0.size : Int), (0 : Int), rfl, h⟩ ?_
  rintro k25 s ⟨x20, x21, rfl, h⟩
  cases k25 with
  | zero => cases show none = some r from h
  | succ k25 =>
   replace h : F159_l0_b N a0 (F159_l0 N a0 k25) x20 x21 = some r := h
   unfold F159_l0_b at h
   refine nR K (tn 1) <| sq ?_
   refine cnd h ?_ ?_<;>intro h
   ·refine VW.skip ?_
    refine VW.join (fun s => s = ⟨[(0, S a0), (7, I x20), (8, I x21)], []⟩ ∧ F159_j1 N (F159_l0 N a0 k25) x20 x21 = some r) ?_ ?_
    ·refine VW.block <| nR K (tn 2) ?_
     have⟨g28,h⟩:=gS h
     refine nR K (pu 2 (an g28 (tn 1))) <| sq <| VW.region <| nG K 3 (tn 3) ?_
     refine spB 16 h ?_ ?_<;>intro h
     ·refine nN K (tn 4) <| sq <| VW.region <| sG K 3 [0, 3, 4, 7, 8, 22] [] ⟨[(0, S a0), (3, I x21), (4, U ((a0.data.getD x21.toNat 0).toNat : Int)), (7, I x20), (8, I x21), (22, B (!(decide (((a0.data.getD x21.toNat 0).toNat : Int) ≤ (122 : Int)))))], []⟩ (tn 3) ?_
      refine spB 22 h ?_ ?_<;>intro h
      ·refine nG K 3 (tn 3) ?_
       refine spB 25 h ?_ ?_<;>intro h
       ·refine nN K (tn 8) ?_
        refine VW.cond (b := true) (by kernel_rfl) (fun _ => ?_) (fun h' => nomatch h')
        refine nR K (tn 1) ?_
        cases h; exact VW.ret (rt [])
       refine nG K 4 (tn 4) ?_
       refine spB 29 h ?_ ?_<;>intro h
       ·refine nN K (tn 4) ?_
        refine VW.cond (b := true) (by kernel_rfl) (fun _ => ?_) (fun h' => nomatch h')
        refine nR K (tn 1) ?_
        cases h; exact VW.ret (rt [])
       refine nN K (tn 4) ?_
       refine cnd h ?_ ?_<;>intro h
       ·refine nR K (tn 1) ?_
        cases h; exact VW.ret (rt [])
       refine VW.skip ?_
       exact arv [.ren [0, 7, 8] []] ⟨rfl, h⟩
      refine nN K (tn 11) ?_
      refine VW.cond (b := false) (by kernel_rfl) (fun h' => nomatch h') (fun _ => ?_)
      refine VW.skip ?_
      exact arv [.ren [0, 7, 8] []] ⟨rfl, h⟩
     refine nN K (tn 4) <| sq <| VW.region <| sG K 6 [0, 4, 7, 8, 22, 25] [] ⟨[(0, S a0), (4, U ((a0.data.getD x21.toNat 0).toNat : Int)), (7, I x20), (8, I x21), (22, B true), (25, B (x21 == (0 : Int)))], []⟩ (tn 6) ?_
     refine spB 25 h ?_ ?_<;>intro h
     ·refine nN K (tn 8) ?_
      refine VW.cond (b := true) (by kernel_rfl) (fun _ => ?_) (fun h' => nomatch h')
      refine nR K (tn 1) ?_
      cases h; exact VW.ret (rt [])
     refine nG K 4 (tn 4) ?_
     refine spB 29 h ?_ ?_<;>intro h
     ·refine nN K (tn 4) ?_
      refine VW.cond (b := true) (by kernel_rfl) (fun _ => ?_) (fun h' => nomatch h')
      refine nR K (tn 1) ?_
      cases h; exact VW.ret (rt [])
     refine nN K (tn 4) ?_
     refine cnd h ?_ ?_<;>intro h
     ·refine nR K (tn 1) ?_
      cases h; exact VW.ret (rt [])
     refine VW.skip ?_
     exact arv [.ren [0, 7, 8] []] ⟨rfl, h⟩
    rintro s ⟨rfl, h⟩
    unfold F159_j1 at h
    refine nE K (tn 2) ?_
    exact aro [.ren [0, 7, 8] []] ⟨x20, (wr (x21 + (1 : Int))), rfl, h⟩
   refine VW.exit ?_
   exact arv [.ren [0] []] ⟨rfl, h⟩
 rintro s ⟨rfl, h⟩
 unfold F159_j0 at h
 refine sq <| VW.region <| nG K 2 (tn 2) ?_
 have⟨y14,hy,h⟩:=aS h
 refine cal false [.t (.int .i64), .t (.int .i64), .t (.int .i64)] [] (some 37) K (ok91 N _ _ _ hy) <| nN K (tn 1) ?_
 cases h; exact VW.ret (rt [])
def F160 (N : Nat) (a0 : Int) : Option (Bool) :=
  andO (F91 N a0 (0 : Int) (63 : Int)) fun y1 => some y1
theorem ok160 N a0 {r} (h : F160 N a0 = some r) : Con prog 160 [I a0] [.lf (.v .bool r)] := by
 refine ctr [.lf (.v .bool)] K func160 rfl fun w0 E0 ht => ?_
 unfold F160 at h
 show VW _ _ _ _ _ (retQ _ _ _ _) _
 refine nR K (tn 1) <| sq <| VW.region <| nG K 1 (tn 1) ?_
 have⟨y1,hy,h⟩:=aS h
 refine cal false [.t (.int .i64), .t (.int .i64), .t (.int .i64)] [] (some 4) K (ok91 N _ _ _ hy) <| nN K (tn 1) ?_
 cases h; exact VW.ret (rt [])
def F161 (N : Nat) (a0 : Int) : Option (Bool) :=
  andO (F91 N a0 (0 : Int) (39 : Int)) fun y1 => some y1
theorem ok161 N a0 {r} (h : F161 N a0 = some r) : Con prog 161 [I a0] [.lf (.v .bool r)] := by
 refine ctr [.lf (.v .bool)] K func161 rfl fun w0 E0 ht => ?_
 unfold F161 at h
 show VW _ _ _ _ _ (retQ _ _ _ _) _
 refine nR K (tn 1) <| sq <| VW.region <| nG K 1 (tn 1) ?_
 have⟨y1,hy,h⟩:=aS h
 refine cal false [.t (.int .i64), .t (.int .i64), .t (.int .i64)] [] (some 4) K (ok91 N _ _ _ hy) <| nN K (tn 1) ?_
 cases h; exact VW.ret (rt [])
def F169_j0 (N : Nat) : Option (Int) :=
  some (-1 : Int)
def F169_l0_b (N : Nat) (a0 : (List Int)) (p1 : Int → Option (Bool)) (nx29 : Int → Int → Option (Int)) (x23 : Int) (x24 : Int) : Option (Int) :=
  cond (decide (x24 < x23)) (gd (InR x24 a0.length) (andO (p1 (a0.getD x24.toNat (Ty.dflt (.int .i64)))) fun y33 => cond y33 (some x24) (nx29 x23 (IntKind.i64.wrap (x24 + (1 : Int)))))) (F169_j0 N)
def F169_l0 (N : Nat) (a0 : (List Int)) (p1 : Int → Option (Bool)) := loopF (F169_l0_b N a0 p1) (fun _ _ => none)
theorem F169_l0_s N a0 (p1 : Int → Option (Bool)) {k} (hk : 0 < k) x23 x24 : F169_l0 N a0 p1 k x23 x24 = F169_l0_b N a0 p1 (F169_l0 N a0 p1 (k - 1)) x23 x24 := by cases k;cases hk;rfl
def F169 (N : Nat) (a0 : (List Int)) (p1 : Int → Option (Bool)) : Option (Int) :=
  F169_l0 N a0 p1 N (a0.length : Int) (0 : Int)
theorem ok169 N a0 (g1 : FuncId) (p1 : Int → Option (Bool)) (hp1 : ∀ (z0 : Int) (r : Bool), p1 z0 = some r → Con prog g1 [I z0] [.lf (.v .bool r)]) {r} (h : F169 N a0 p1 = some r) : Con prog 169 [Vv (.sl (.int .i64)) a0, .clo g1 []] [.lf (.v (.int .i64) r)] := by
 refine ctr [.lf (.v (.int .i64))] K func169 rfl fun w0 E0 ht => ?_
 unfold F169 at h
 show VW _ _ _ _ _ (retQ _ _ _ _) _
 refine nR K (tn 1) ?_
 refine VW.join (fun s => s = ⟨[], []⟩ ∧ F169_j0 N = some r) ?_ ?_
 ·refine nR K (tn 3) <| VW.block <| lop (fun k s => ∃ x23 x24, s = ⟨[(0, Vv (.sl (.int .i64)) a0), (1, .clo g1 []), (7, I x23), (8, I x24)], []⟩ ∧ F169_l0 N a0 p1 k x23 x24 = some r) N [.ren [0, 1, 7, 8] []] ⟨(a0.length : Int), (0 : Int), rfl, h⟩ ?_
  rintro k29 s ⟨x23, x24, rfl, h⟩
  cases k29 with
  | zero => cases show none = some r from h
  | succ k29 =>
   replace h : F169_l0_b N a0 p1 (F169_l0 N a0 p1 k29) x23 x24 = some r := h
   unfold F169_l0_b at h
   refine nR K (tn 1) <| sq ?_
   refine cnd h ?_ ?_<;>intro h
   ·refine VW.skip <| sq <| VW.block <| nR K (tn 2) <| sq <| VW.region ?_
    have⟨g32,h⟩:=gS h
    refine nG K 5 (pu 3 (an g32 (tn 1))) ?_
    have⟨y33,hy,h⟩:=aS h
    refine cal false [.t (.int .i64)] [] (some 16) K (hp1 _ _ hy) <| nN K (tn 0) ?_
    refine cnd h ?_ ?_<;>intro h
    ·refine nR K (tn 2) ?_
     cases h; exact VW.ret (rt [])
    refine VW.skip <| nE K (tn 2) ?_
    exact aro [.ren [0, 1, 7, 8] []] ⟨x23, (wr (x24 + (1 : Int))), rfl, h⟩
   refine VW.exit ?_
   exact arv [.ren [] []] ⟨rfl, h⟩
 rintro s ⟨rfl, h⟩
 unfold F169_j0 at h
 refine nR K (tn 1) ?_
 cases h; exact VW.ret (rt [])
def F162 (N : Nat) (a0 : (List Int)) (p1 : Int → Option (Bool)) : Option (Bool) :=
  andO (F169 N a0 p1) fun y1 => some (decide (y1 ≥ (0 : Int)))
theorem ok162 N a0 (g1 : FuncId) (p1 : Int → Option (Bool)) (hp1 : ∀ (z0 : Int) (r : Bool), p1 z0 = some r → Con prog g1 [I z0] [.lf (.v .bool r)]) {r} (h : F162 N a0 p1 = some r) : Con prog 162 [Vv (.sl (.int .i64)) a0, .clo g1 []] [.lf (.v .bool r)] := by
 refine ctr [.lf (.v .bool)] K func162 rfl fun w0 E0 ht => ?_
 unfold F162 at h
 show VW _ _ _ _ _ (retQ _ _ _ _) _
 refine nR K (tn 1) <| sq <| VW.region <| nG K 2 (tn 2) ?_
 have⟨y1,hy,h⟩:=aS h
 refine cal false [.t (.sl (.int .i64)), .clo []] [] (some 7) K (ok169 N _ g1  p1 hp1 hy) <| nN K (tn 2) ?_
 cases h; exact VW.ret (rt [])
def F163 (N : Nat) (a0 : Int) : Option (Bool) :=
  andO (F160 N a0) fun y1 => some (!y1)
theorem ok163 N a0 {r} (h : F163 N a0 = some r) : Con prog 163 [I a0] [.lf (.v .bool r)] := by
 refine ctr [.lf (.v .bool)] K func163 rfl fun w0 E0 ht => ?_
 unfold F163 at h
 show VW _ _ _ _ _ (retQ _ _ _ _) _
 refine nR K (tn 1) <| sq <| VW.region <| nG K 1 (tn 1) ?_
 have⟨y1,hy,h⟩:=aS h
 refine cal false [.t (.int .i64)] [] (some 4) K (ok160 N _ hy) <| nN K (tn 2) ?_
 cases h; exact VW.ret (rt [])
def F125_j0 (N : Nat) (x38 : ByteArray) (x39 : Int) (x40 : Int) (x41 : Int) (x42 : Bool) (x43 : (List Int)) (x44 : Bool) : Option (Bool) :=
  cond x44 (andO (F94 N ((0 : Int), (x38, (x39, (x40, (x41, (x42, x43)))))) ((0 : Int), (ByteArray.empty, ((0 : Int), ((0 : Int), ((0 : Int), (false, []))))))) fun y45 => some y45) (some false)
def F125_j1 (N : Nat) (x52 : ByteArray) (x53 : Int) (x54 : Int) (x55 : Int) (x56 : Bool) (x57 : (List Int)) (x58 : Bool) : Option (Bool) :=
  F125_j0 N x52 (0 : Int) (0 : Int) (0 : Int) false x57 x58
def F125_j2 (N : Nat) (x62 : ByteArray) (x63 : Int) (x64 : Int) (x65 : Int) (x66 : Bool) (x67 : (List Int)) : Option (Bool) :=
  F125_j0 N x62 (0 : Int) (0 : Int) (0 : Int) false x67 false
def F125_j3 (N : Nat) (x76 : ByteArray) (x77 : Int) (x78 : Int) (x79 : Int) (x80 : Bool) (x81 : (List Int)) (x82 : Bool) : Option (Bool) :=
  cond x82 (F125_j0 N x76 x77 x78 x79 x80 x81 true) (F125_j0 N x76 x77 x78 x79 x80 x81 false)
def F125 (N : Nat) (a0 : Z76) : Option (Bool) :=
  cond (a0.1 == (0 : Int)) (andO (F159 N a0.2.1) fun y47 => F125_j0 N ByteArray.empty a0.2.2.1 a0.2.2.2.1 a0.2.2.2.2.1 a0.2.2.2.2.2.1 a0.2.2.2.2.2.2 y47) (cond (a0.1 == (1 : Int)) (andO (F160 N a0.2.2.1) fun y48 => cond y48 (andO (F91 N a0.2.2.2.1 (0 : Int) (3 : Int)) fun y49 => cond (a0.2.2.2.1 == (3 : Int)) (cond y49 (cond (a0.2.2.2.2.1 == (0 : Int)) (F125_j1 N a0.2.1 a0.2.2.1 a0.2.2.2.1 a0.2.2.2.2.1 a0.2.2.2.2.2.1 a0.2.2.2.2.2.2 (!a0.2.2.2.2.2.1)) (F125_j1 N a0.2.1 a0.2.2.1 a0.2.2.2.1 a0.2.2.2.2.1 a0.2.2.2.2.2.1 a0.2.2.2.2.2.2 false)) (F125_j1 N a0.2.1 a0.2.2.1 a0.2.2.2.1 a0.2.2.2.2.1 a0.2.2.2.2.2.1 a0.2.2.2.2.2.2 false)) (cond a0.2.2.2.2.2.1 (cond y49 (andO (F161 N a0.2.2.2.2.1) fun y60 => F125_j1 N a0.2.1 a0.2.2.1 a0.2.2.2.1 a0.2.2.2.2.1 a0.2.2.2.2.2.1 a0.2.2.2.2.2.2 y60) (F125_j1 N a0.2.1 a0.2.2.1 a0.2.2.2.1 a0.2.2.2.2.1 a0.2.2.2.2.2.1 a0.2.2.2.2.2.2 false)) (cond y49 (andO (F126 N a0.2.2.2.2.1) fun y61 => F125_j1 N a0.2.1 a0.2.2.1 a0.2.2.2.1 a0.2.2.2.2.1 a0.2.2.2.2.2.1 a0.2.2.2.2.2.2 y61) (F125_j1 N a0.2.1 a0.2.2.1 a0.2.2.2.1 a0.2.2.2.2.1 a0.2.2.2.2.2.1 a0.2.2.2.2.2.2 false)))) (cond (a0.2.2.2.1 == (3 : Int)) (F125_j2 N a0.2.1 a0.2.2.1 a0.2.2.2.1 a0.2.2.2.2.1 a0.2.2.2.2.2.1 a0.2.2.2.2.2.2) (cond a0.2.2.2.2.2.1 (F125_j2 N a0.2.1 a0.2.2.1 a0.2.2.2.1 a0.2.2.2.2.1 a0.2.2.2.2.2.1 a0.2.2.2.2.2.2) (F125_j2 N a0.2.1 a0.2.2.1 a0.2.2.2.1 a0.2.2.2.2.1 a0.2.2.2.2.2.1 a0.2.2.2.2.2.2)))) (cond (a0.1 == (2 : Int)) (andO (F91 N (a0.2.2.2.2.2.2.length : Int) (1 : Int) (6 : Int)) fun y69 => cond y69 (andO (F162 N a0.2.2.2.2.2.2 (fun z0 => F163 N z0)) fun y70 => F125_j0 N a0.2.1 a0.2.2.1 a0.2.2.2.1 a0.2.2.2.2.1 a0.2.2.2.2.2.1 ([]) (!y70)) (F125_j0 N a0.2.1 a0.2.2.1 a0.2.2.2.1 a0.2.2.2.2.1 a0.2.2.2.2.2.1 ([]) false)) (cond (a0.1 == (3 : Int)) (andO (F160 N a0.2.2.1) fun y71 => cond y71 (andO (F160 N a0.2.2.2.2.1) fun y72 => F125_j0 N a0.2.1 (0 : Int) a0.2.2.2.1 (0 : Int) a0.2.2.2.2.2.1 a0.2.2.2.2.2.2 y72) (F125_j0 N a0.2.1 (0 : Int) a0.2.2.2.1 (0 : Int) a0.2.2.2.2.2.1 a0.2.2.2.2.2.2 false)) (cond (a0.1 == (5 : Int)) (andO (F160 N a0.2.2.1) fun y73 => F125_j0 N a0.2.1 (0 : Int) a0.2.2.2.1 a0.2.2.2.2.1 a0.2.2.2.2.2.1 a0.2.2.2.2.2.2 y73) (cond (a0.1 == (6 : Int)) (andO (F91 N a0.2.2.2.2.1 (0 : Int) (1000000 : Int)) fun y74 => cond y74 (cond (!a0.2.2.2.2.2.1) (F125_j0 N a0.2.1 a0.2.2.1 a0.2.2.2.1 (0 : Int) false a0.2.2.2.2.2.2 true) (andO (F161 N a0.2.2.2.2.1) fun y75 => F125_j0 N a0.2.1 a0.2.2.1 a0.2.2.2.1 (0 : Int) false a0.2.2.2.2.2.2 y75)) (F125_j0 N a0.2.1 a0.2.2.1 a0.2.2.2.1 (0 : Int) false a0.2.2.2.2.2.2 false)) (cond (a0.1 == (4 : Int)) (F125_j3 N a0.2.1 a0.2.2.1 a0.2.2.2.1 a0.2.2.2.2.1 a0.2.2.2.2.2.1 a0.2.2.2.2.2.2 (a0.1 == (4 : Int))) (F125_j3 N a0.2.1 a0.2.2.1 a0.2.2.2.1 a0.2.2.2.2.1 a0.2.2.2.2.2.1 a0.2.2.2.2.2.2 (a0.1 == (7 : Int)))))))))
theorem ok125 N a0 {r} (h : F125 N a0 = some r) : Con prog 125 [.agg (lv Y76 a0)] [.lf (.v .bool r)] := by
 refine ctr [.lf (.v .bool)] K func125 rfl fun w0 E0 ht => ?_
 unfold F125 at h
 show VW _ _ _ _ _ (retQ _ _ _ _) _
 refine nR K (tn 2) <| nR K (tn 3) <| nR K (tn 2) <| nR K (tn 1) ?_
 refine VW.join (fun s => ∃ x38 x39 x40 x41 x42 x43 x44, s = ⟨[(3, .lf (.ptr 0 0 0 0)), (4, B x44)], [bx [zi (0 : Int), zs x38, zi x39, zi x40, zi x41, zb x42, .v (.sl (.int .i64)) x43] 78]⟩ ∧ F125_j0 N x38 x39 x40 x41 x42 x43 x44 = some r) ?_ ?_
 ·refine nR K (tn 2) <| VW.block <| sRh K [1, 3, 4, 8, 9] [0, 1] [(1, .lf (.ptr 0 0 0 0)), (3, .lf (.ptr 1 0 0 0)), (4, B false), (8, I a0.1), (9, B (a0.1 == (0 : Int)))] (tn 2) ?_
  refine cnd h ?_ ?_<;>intro h
  ·refine sq <| VW.region <| nG K 2 (tn 2) ?_
   have⟨y47,hy,h⟩:=aS h
   refine cal false [.t .str] [] (some 13) K (ok159 N _ hy) <| nN K (tn 1) <| nE K (tn 2) ?_
   exact arv [.ren [3, 4] [1]] ⟨ByteArray.empty, a0.2.2.1, a0.2.2.2.1, a0.2.2.2.2.1, a0.2.2.2.2.2.1, a0.2.2.2.2.2.2, y47, rfl, h⟩
  refine nR K (tn 2) ?_
  refine cnd h ?_ ?_<;>intro h
  ·refine sq <| VW.region <| nG K 2 (tn 2) ?_
   have⟨y48,hy,h⟩:=aS h
   refine cal false [.t (.int .i64)] [] (some 19) K (ok160 N _ hy) <| nG K 1 (tn 1) ?_
   refine spB 20 h ?_ ?_<;>intro h
   ·refine nG K 2 (tn 2) <| VO.on (j := 3) (want := true) (d := 20) (b := true) rfl rfl rfl (by kernel_rfl) rfl ?_
    have⟨y49,hy,h⟩:=aS h
    refine cal false [.t (.int .i64), .t (.int .i64), .t (.int .i64)] [] (some 23) K (ok91 N _ _ _ hy) <| nN K (tn 2) ?_
    refine VW.join (fun s => ∃ x52 x53 x54 x55 x56 x57 x58, s = ⟨[(3, .lf (.ptr 0 0 0 0)), (4, B x58)], [bx [zi (0 : Int), zs x52, zi x53, zi x54, zi x55, zb x56, .v (.sl (.int .i64)) x57] 78]⟩ ∧ F125_j1 N x52 x53 x54 x55 x56 x57 x58 = some r) ?_ ?_
    ·refine VW.block <| sRh K [1, 3, 4, 31] [0, 1] [(1, .lf (.ptr 0 0 0 0)), (3, .lf (.ptr 1 0 0 0)), (4, B y49), (31, B (a0.2.2.2.1 == (3 : Int)))] (tn 4) ?_
     refine cnd h ?_ ?_<;>intro h
     ·refine VW.region <| nG K 2 (tn 2) ?_
      refine spB 36 h ?_ ?_<;>intro h
      ·refine nG K 5 (tn 5) ?_
       refine spB 41 h ?_ ?_<;>intro h
       ·refine nN K (tn 5) ?_
        exact arv [.ren [3, 4] [1]] ⟨a0.2.1, a0.2.2.1, a0.2.2.2.1, a0.2.2.2.2.1, a0.2.2.2.2.2.1, a0.2.2.2.2.2.2, (!a0.2.2.2.2.2.1), rfl, h⟩
       refine nN K (tn 5) ?_
       exact arv [.ren [3, 4] [1]] ⟨a0.2.1, a0.2.2.1, a0.2.2.2.1, a0.2.2.2.2.1, a0.2.2.2.2.2.1, a0.2.2.2.2.2.2, false, rfl, h⟩
      refine nN K (tn 10) ?_
      exact arv [.ren [3, 4] [1]] ⟨a0.2.1, a0.2.2.1, a0.2.2.2.1, a0.2.2.2.2.1, a0.2.2.2.2.2.1, a0.2.2.2.2.2.2, false, rfl, h⟩
     refine nR K (tn 3) ?_
     refine cnd h ?_ ?_<;>intro h
     ·refine VW.region <| nG K 2 (tn 2) ?_
      refine spB 50 h ?_ ?_<;>intro h
      ·refine nG K 2 (tn 2) <| VO.on (j := 1) (want := true) (d := 50) (b := true) rfl rfl rfl (by kernel_rfl) rfl ?_
       have⟨y60,hy,h⟩:=aS h
       refine cal false [.t (.int .i64)] [] (some 53) K (ok161 N _ hy) <| nN K (tn 2) ?_
       exact arv [.ren [3, 4] [1]] ⟨a0.2.1, a0.2.2.1, a0.2.2.2.1, a0.2.2.2.2.1, a0.2.2.2.2.2.1, a0.2.2.2.2.2.2, y60, rfl, h⟩
      refine nN K (tn 5) ?_
      exact arv [.ren [3, 4] [1]] ⟨a0.2.1, a0.2.2.1, a0.2.2.2.1, a0.2.2.2.2.1, a0.2.2.2.2.2.1, a0.2.2.2.2.2.2, false, rfl, h⟩
     refine VW.region <| nG K 2 (tn 2) ?_
     refine spB 26 h ?_ ?_<;>intro h
     ·refine nG K 2 (tn 2) <| VO.on (j := 1) (want := true) (d := 26) (b := true) rfl rfl rfl (by kernel_rfl) rfl ?_
      have⟨y61,hy,h⟩:=aS h
      refine cal false [.t (.int .i64)] [] (some 29) K (ok126 N _ hy) <| nN K (tn 2) ?_
      exact arv [.ren [3, 4] [1]] ⟨a0.2.1, a0.2.2.1, a0.2.2.2.1, a0.2.2.2.2.1, a0.2.2.2.2.2.1, a0.2.2.2.2.2.2, y61, rfl, h⟩
     refine nN K (tn 5) ?_
     exact arv [.ren [3, 4] [1]] ⟨a0.2.1, a0.2.2.1, a0.2.2.2.1, a0.2.2.2.2.1, a0.2.2.2.2.2.1, a0.2.2.2.2.2.2, false, rfl, h⟩
    rintro s ⟨x52, x53, x54, x55, x56, x57, x58, rfl, h⟩
    unfold F125_j1 at h
    refine nE K (tn 8) ?_
    exact arv [.ren [3, 4] [0]] ⟨x52, (0 : Int), (0 : Int), (0 : Int), false, x57, x58, rfl, h⟩
   refine nN K (tn 5) ?_
   refine VW.join (fun s => ∃ x62 x63 x64 x65 x66 x67, s = ⟨[(3, .lf (.ptr 0 0 0 0)), (4, B false)], [bx [zi (0 : Int), zs x62, zi x63, zi x64, zi x65, zb x66, .v (.sl (.int .i64)) x67] 78]⟩ ∧ F125_j2 N x62 x63 x64 x65 x66 x67 = some r) ?_ ?_
   ·refine VW.block <| nR K (tn 4) ?_
    refine cnd h ?_ ?_<;>intro h
    ·refine rR K [3, 4] [1] ⟨[(3, .lf (.ptr 0 0 0 0)), (4, B false)], [bx [zi (0 : Int), zs a0.2.1, zi a0.2.2.1, zi a0.2.2.2.1, zi a0.2.2.2.2.1, zb a0.2.2.2.2.2.1, .v (.sl (.int .i64)) a0.2.2.2.2.2.2] 78]⟩ (tn 12) ?_
     exact arv [.ren [3, 4] [0]] ⟨a0.2.1, a0.2.2.1, a0.2.2.2.1, a0.2.2.2.2.1, a0.2.2.2.2.2.1, a0.2.2.2.2.2.2, rfl, h⟩
    refine sRh K [1, 3, 4, 46] [0, 1] [(1, .lf (.ptr 0 0 0 0)), (3, .lf (.ptr 1 0 0 0)), (4, B false), (46, B a0.2.2.2.2.2.1)] (tn 3) ?_
    refine cnd h ?_ ?_<;>intro h
    ·refine nE K (tn 7) ?_
     exact arv [.ren [3, 4] [1]] ⟨a0.2.1, a0.2.2.1, a0.2.2.2.1, a0.2.2.2.2.1, a0.2.2.2.2.2.1, a0.2.2.2.2.2.2, rfl, h⟩
    refine nE K (tn 7) ?_
    exact arv [.ren [3, 4] [1]] ⟨a0.2.1, a0.2.2.1, a0.2.2.2.1, a0.2.2.2.2.1, a0.2.2.2.2.2.1, a0.2.2.2.2.2.2, rfl, h⟩
   rintro s ⟨x62, x63, x64, x65, x66, x67, rfl, h⟩
   unfold F125_j2 at h
   refine nE K (tn 8) ?_
   exact arv [.ren [3, 4] [0]] ⟨x62, (0 : Int), (0 : Int), (0 : Int), false, x67, false, rfl, h⟩
  refine nR K (tn 2) ?_
  refine cnd h ?_ ?_<;>intro h
  ·refine sq <| VW.region <| nG K 3 (tn 3) ?_
   have⟨y69,hy,h⟩:=aS h
   refine cal false [.t (.int .i64), .t (.int .i64), .t (.int .i64)] [] (some 64) K (ok91 N _ _ _ hy) <| nG K 1 (tn 1) ?_
   refine spB 65 h ?_ ?_<;>intro h
   ·refine nG K 2 (tn 2) <| VO.on (j := 4) (want := true) (d := 65) (b := true) rfl rfl rfl (by kernel_rfl) rfl ?_
    have⟨y70,hy,h⟩:=aS h
    refine cal false [.t (.sl (.int .i64)), .clo []] [] (some 68) K (ok162 N _ 163  (fun z0 => F163 N z0 ) (fun z0 _ hz => ok163 N z0 hz) hy) <| sN K [3, 4] [1] ⟨[(3, .lf (.ptr 0 0 0 0)), (4, B (!y70))], [bx [zi (0 : Int), zs a0.2.1, zi a0.2.2.1, zi a0.2.2.2.1, zi a0.2.2.2.2.1, zb a0.2.2.2.2.2.1, .v (.sl (.int .i64)) a0.2.2.2.2.2.2] 78]⟩ (tn 3) <| nE K (tn 2) ?_
    exact arv [.nilB 0 6 (.int .i64), .ren [3, 4] [0]] ⟨a0.2.1, a0.2.2.1, a0.2.2.2.1, a0.2.2.2.2.1, a0.2.2.2.2.2.1, [], (!y70), rfl, h⟩
   refine nN K (tn 6) <| rR K [3, 4] [1] ⟨[(3, .lf (.ptr 0 0 0 0)), (4, B false)], [bx [zi (0 : Int), zs a0.2.1, zi a0.2.2.1, zi a0.2.2.2.1, zi a0.2.2.2.2.1, zb a0.2.2.2.2.2.1, .nil] 78]⟩ (tn 2) ?_
   exact arv [.nilB 0 6 (.int .i64), .ren [3, 4] [0]] ⟨a0.2.1, a0.2.2.1, a0.2.2.2.1, a0.2.2.2.2.1, a0.2.2.2.2.2.1, [], false, rfl, h⟩
  refine nR K (tn 2) ?_
  refine cnd h ?_ ?_<;>intro h
  ·refine sq <| VW.region <| nG K 2 (tn 2) ?_
   have⟨y71,hy,h⟩:=aS h
   refine cal false [.t (.int .i64)] [] (some 76) K (ok160 N _ hy) <| nG K 1 (tn 1) ?_
   refine spB 77 h ?_ ?_<;>intro h
   ·refine sG K 2 [3, 77, 79] [1] ⟨[(3, .lf (.ptr 0 0 0 0)), (77, B true), (79, I a0.2.2.2.2.1)], [bx [zi (0 : Int), zs a0.2.1, zi a0.2.2.1, zi a0.2.2.2.1, zi a0.2.2.2.2.1, zb a0.2.2.2.2.2.1, .v (.sl (.int .i64)) a0.2.2.2.2.2.2] 78]⟩ (tn 2) <| VO.on (j := 3) (want := true) (d := 77) (b := true) rfl rfl rfl (by kernel_rfl) rfl ?_
    have⟨y72,hy,h⟩:=aS h
    refine cal false [.t (.int .i64)] [] (some 80) K (ok160 N _ hy) <| nN K (tn 2) <| nE K (tn 4) ?_
    exact arv [.ren [3, 4] [0]] ⟨a0.2.1, (0 : Int), a0.2.2.2.1, (0 : Int), a0.2.2.2.2.2.1, a0.2.2.2.2.2.2, y72, rfl, h⟩
   refine sN K [3, 4] [1] ⟨[(3, .lf (.ptr 0 0 0 0)), (4, B false)], [bx [zi (0 : Int), zs a0.2.1, zi a0.2.2.1, zi a0.2.2.2.1, zi a0.2.2.2.2.1, zb a0.2.2.2.2.2.1, .v (.sl (.int .i64)) a0.2.2.2.2.2.2] 78]⟩ (tn 5) <| nE K (tn 4) ?_
   exact arv [.ren [3, 4] [0]] ⟨a0.2.1, (0 : Int), a0.2.2.2.1, (0 : Int), a0.2.2.2.2.2.1, a0.2.2.2.2.2.2, false, rfl, h⟩
  refine nR K (tn 2) ?_
  refine cnd h ?_ ?_<;>intro h
  ·refine sq <| VW.region <| nG K 2 (tn 2) ?_
   have⟨y73,hy,h⟩:=aS h
   refine cal false [.t (.int .i64)] [] (some 88) K (ok160 N _ hy) <| sN K [3, 4] [1] ⟨[(3, .lf (.ptr 0 0 0 0)), (4, B y73)], [bx [zi (0 : Int), zs a0.2.1, zi a0.2.2.1, zi a0.2.2.2.1, zi a0.2.2.2.2.1, zb a0.2.2.2.2.2.1, .v (.sl (.int .i64)) a0.2.2.2.2.2.2] 78]⟩ (tn 1) <| nE K (tn 2) ?_
   exact arv [.ren [3, 4] [0]] ⟨a0.2.1, (0 : Int), a0.2.2.2.1, a0.2.2.2.2.1, a0.2.2.2.2.2.1, a0.2.2.2.2.2.2, y73, rfl, h⟩
  refine nR K (tn 2) ?_
  refine cnd h ?_ ?_<;>intro h
  ·refine sq <| VW.region <| sGh K 2 [1, 3, 93] [0, 1] [(1, .lf (.ptr 0 0 0 0)), (3, .lf (.ptr 1 0 0 0)), (93, I a0.2.2.2.2.1)] (tn 2) ?_
   have⟨y74,hy,h⟩:=aS h
   refine cal false [.t (.int .i64), .t (.int .i64), .t (.int .i64)] [] (some 94) K (ok91 N _ _ _ hy) <| nG K 1 (tn 1) ?_
   refine spB 95 h ?_ ?_<;>intro h
   ·refine nG K 4 (tn 4) ?_
    refine spB 99 h ?_ ?_<;>intro h
    ·refine nN K (tn 6) <| nE K (tn 4) ?_
     exact arv [.ren [3, 4] [1]] ⟨a0.2.1, a0.2.2.1, a0.2.2.2.1, (0 : Int), false, a0.2.2.2.2.2.2, true, rfl, h⟩
    refine nG K 2 (tn 2) <| VO.on (j := 7) (want := false) (d := 99) (b := false) rfl rfl rfl (by kernel_rfl) rfl ?_
    have⟨y75,hy,h⟩:=aS h
    refine cal false [.t (.int .i64)] [] (some 102) K (ok161 N _ hy) <| nN K (tn 3) <| nE K (tn 4) ?_
    exact arv [.ren [3, 4] [1]] ⟨a0.2.1, a0.2.2.1, a0.2.2.2.1, (0 : Int), false, a0.2.2.2.2.2.2, y75, rfl, h⟩
   refine nN K (tn 10) <| nE K (tn 4) ?_
   exact arv [.ren [3, 4] [1]] ⟨a0.2.1, a0.2.2.1, a0.2.2.2.1, (0 : Int), false, a0.2.2.2.2.2.2, false, rfl, h⟩
  refine VW.join (fun s => ∃ x76 x77 x78 x79 x80 x81 x82, s = ⟨[(3, .lf (.ptr 0 0 0 0)), (4, B false), (107, B x82)], [bx [zi (0 : Int), zs x76, zi x77, zi x78, zi x79, zb x80, .v (.sl (.int .i64)) x81] 78]⟩ ∧ F125_j3 N x76 x77 x78 x79 x80 x81 x82 = some r) ?_ ?_
  ·refine sR K [3, 4, 8, 107] [1] ⟨[(3, .lf (.ptr 0 0 0 0)), (4, B false), (8, I a0.1), (107, B (a0.1 == (4 : Int)))], [bx [zi (0 : Int), zs a0.2.1, zi a0.2.2.1, zi a0.2.2.2.1, zi a0.2.2.2.2.1, zb a0.2.2.2.2.2.1, .v (.sl (.int .i64)) a0.2.2.2.2.2.2] 78]⟩ (tn 2) ?_
   refine cnd h ?_ ?_<;>intro h
   ·refine VW.skip ?_
    exact arv [.ren [3, 4, 107] [0]] ⟨a0.2.1, a0.2.2.1, a0.2.2.2.1, a0.2.2.2.2.1, a0.2.2.2.2.2.1, a0.2.2.2.2.2.2, (a0.1 == (4 : Int)), rfl, h⟩
   refine nE K (tn 2) ?_
   exact arv [.ren [3, 4, 107] [0]] ⟨a0.2.1, a0.2.2.1, a0.2.2.2.1, a0.2.2.2.2.1, a0.2.2.2.2.2.1, a0.2.2.2.2.2.2, (a0.1 == (7 : Int)), rfl, h⟩
  rintro s ⟨x76, x77, x78, x79, x80, x81, x82, rfl, h⟩
  unfold F125_j3 at h
  refine cnd h ?_ ?_<;>intro h
  ·refine nE K (tn 1) ?_
   exact arv [.ren [3, 4] [0]] ⟨x76, x77, x78, x79, x80, x81, true, rfl, h⟩
  refine VW.skip ?_
  exact arv [.ren [3, 4] [0]] ⟨x76, x77, x78, x79, x80, x81, false, rfl, h⟩
 rintro s ⟨x38, x39, x40, x41, x42, x43, x44, rfl, h⟩
 unfold F125_j0 at h
 refine sq <| VW.region <| nG K 2 (tn 2) ?_
 refine spB 111 h ?_ ?_<;>intro h
 ·refine nG K 2 (tn 2) <| VO.on (j := 1) (want := true) (d := 111) (b := true) rfl rfl rfl (by kernel_rfl) rfl ?_
  have⟨y45,hy,h⟩:=aS h
  refine cal false [.t Y76, .t Y76] [] (some 114) K (ok94 N _ _ hy) <| nN K (tn 2) ?_
  cases h; exact VW.ret (rt [])
 refine nN K (tn 5) ?_
 cases h; exact VW.ret (rt [])
def F124 (N : Nat) (a0 : Z76) : Option (Bool) :=
  andO (F125 N a0) fun y1 => some (!y1)
theorem ok124 N a0 {r} (h : F124 N a0 = some r) : Con prog 124 [.agg (lv Y76 a0)] [.lf (.v .bool r)] := by
 refine ctr [.lf (.v .bool)] K func124 rfl fun w0 E0 ht => ?_
 unfold F124 at h
 show VW _ _ _ _ _ (retQ _ _ _ _) _
 refine nR K (tn 2) <| sq <| VW.region <| nG K 1 (tn 1) ?_
 have⟨y1,hy,h⟩:=aS h
 refine cal false [.t Y76] [] (some 4) K (ok125 N _ hy) <| nN K (tn 2) ?_
 cases h; exact VW.ret (rt [])
def F83 (N : Nat) (a0 : (List Z76)) : Option (Bool) :=
  andO (F91 N (a0.length : Int) (1 : Int) (40 : Int)) fun y3 => cond (!y3) (some false) (andO (F123 N a0 (fun z0 => F124 N z0)) fun y4 => cond y4 (some false) (andO (F113 N a0 (0 : Int) (1 : Int)) fun y5 => some (y5 == (a0.length : Int))))
theorem ok83 N a0 {r} (h : F83 N a0 = some r) : Con prog 83 [Vv (.sl Y76) a0] [.lf (.v .bool r)] := by
 refine ctr [.lf (.v .bool)] K func83 rfl fun w0 E0 ht => ?_
 unfold F83 at h
 show VW _ _ _ _ _ (retQ _ _ _ _) _
 refine nR K (tn 1) <| sq <| sq <| VW.region <| nG K 2 (tn 2) ?_
 have⟨y3,hy,h⟩:=aS h
 refine cal false [.t (.int .i64), .t (.int .i64), .t (.int .i64)] [] (some 5) K (ok91 N _ _ _ hy) <| nG K 2 (tn 2) ?_
 refine spB 7 h ?_ ?_<;>intro h
 ·refine nN K (tn 3) ?_
  refine VW.cond (b := true) (by kernel_rfl) (fun _ => ?_) (fun h' => nomatch h')
  refine nR K (tn 1) ?_
  cases h; exact VW.ret (rt [])
 refine nG K 1 (tn 1) <| VO.on (j := 4) (want := false) (d := 7) (b := false) rfl rfl rfl (by kernel_rfl) rfl ?_
 have⟨y4,hy,h⟩:=aS h
 refine cal false [.t (.sl Y76), .clo []] [] (some 9) K (ok123 N _ 124  (fun z0 => F124 N z0 ) (fun z0 _ hz => ok124 N z0 hz) hy) <| nN K (tn 1) ?_
 refine cnd h ?_ ?_<;>intro h
 ·refine sR K [2] [] ⟨[(2, B false)], []⟩ (tn 1) ?_
  cases h; exact VW.ret (rt [])
 refine VW.skip <| sq <| VW.region <| sG K 1 [0, 11] [] ⟨[(0, Vv (.sl Y76) a0), (11, Vv (.sl Y76) a0)], []⟩ (tn 1) ?_
 have⟨y5,hy,h⟩:=aS h
 refine cal false [.t (.sl Y76), .t (.int .i64), .t (.int .i64)] [] (some 12) K (ok113 N _ _ _ hy) <| nN K (tn 4) ?_
 cases h; exact VW.ret (rt [])
def F102_j0 (N : Nat) : Option (Bool) :=
  some true
def F102_l0_b (N : Nat) (a0 : (List Int)) (a1 : (List Int)) (nx25 : Int → Option (Bool)) (x20 : Int) : Option (Bool) :=
  cond (decide (x20 < (a0.length : Int))) (gd (InR x20 a0.length) (gd (InR x20 a1.length) (cond ((a0.getD x20.toNat (Ty.dflt (.int .i64))) != (a1.getD x20.toNat (Ty.dflt (.int .i64)))) (some false) (nx25 (IntKind.i64.wrap (x20 + (1 : Int))))))) (F102_j0 N)
def F102_l0 (N : Nat) (a0 : (List Int)) (a1 : (List Int)) := loopF (F102_l0_b N a0 a1) (fun _ => none)
theorem F102_l0_s N a0 a1 {k} (hk : 0 < k) x20 : F102_l0 N a0 a1 k x20 = F102_l0_b N a0 a1 (F102_l0 N a0 a1 (k - 1)) x20 := by cases k;cases hk;rfl
def F102 (N : Nat) (a0 : (List Int)) (a1 : (List Int)) : Option (Bool) :=
  cond ((a0.length : Int) != (a1.length : Int)) (some false) (F102_l0 N a0 a1 N (0 : Int))
theorem ok102 N a0 a1 {r} (h : F102 N a0 a1 = some r) : Con prog 102 [Vv (.sl (.int .i64)) a0, Vv (.sl (.int .i64)) a1] [.lf (.v .bool r)] := by
 refine ctr [.lf (.v .bool)] K func102 rfl fun w0 E0 ht => ?_
 unfold F102 at h
 show VW _ _ _ _ _ (retQ _ _ _ _) _
 refine nR K (tn 1) <| sq <| nR K (tn 5) ?_
 refine cnd h ?_ ?_<;>intro h
 ·refine nR K (tn 1) ?_
  cases h; exact VW.ret (rt [])
 refine VW.skip ?_
 refine VW.join (fun s => s = ⟨[], []⟩ ∧ F102_j0 N = some r) ?_ ?_
 ·refine nR K (tn 1) <| VW.block <| lop (fun k s => ∃ x20, s = ⟨[(0, Vv (.sl (.int .i64)) a0), (1, Vv (.sl (.int .i64)) a1), (5, I x20)], []⟩ ∧ F102_l0 N a0 a1 k x20 = some r) N [.ren [0, 1, 5] []] ⟨(0 : Int), rfl, h⟩ ?_
  rintro k25 s ⟨x20, rfl, h⟩
  cases k25 with
  | zero => cases show none = some r from h
  | succ k25 =>
   replace h : F102_l0_b N a0 a1 (F102_l0 N a0 a1 k25) x20 = some r := h
   unfold F102_l0_b at h
   refine sq <| nR K (tn 4) ?_
   refine cnd h ?_ ?_<;>intro h
   ·refine VW.skip <| sq <| VW.block <| sq ?_
    have⟨g28,h⟩:=gS h
    have⟨g29,h⟩:=gS h
    refine dr K [] [] [] [0, 1, 5, 25] [] (pu 2 (an g28 (pu 3 (an g29 (tn 2))))) trivial ?_
    refine cnd h ?_ ?_<;>intro h
    ·refine nR K (tn 1) ?_
     cases h; exact VW.ret (rt [])
    refine VW.skip <| nE K (tn 3) ?_
    exact aro [.ren [0, 1, 5] []] ⟨(wr (x20 + (1 : Int))), rfl, h⟩
   refine VW.exit ?_
   exact arv [.ren [] []] ⟨rfl, h⟩
 rintro s ⟨rfl, h⟩
 unfold F102_j0 at h
 refine nR K (tn 1) ?_
 cases h; exact VW.ret (rt [])
def F58 (N : Nat) (a0 : Z76) (a1 : Z76) : Option (Bool) :=
  cond (a0.1 != a1.1) (some false) (cond (!(a0.2.1.toList == a1.2.1.toList)) (some false) (cond (a0.2.2.1 != a1.2.2.1) (some false) (cond (a0.2.2.2.1 != a1.2.2.2.1) (some false) (cond (a0.2.2.2.2.1 != a1.2.2.2.2.1) (some false) (cond (!(a0.2.2.2.2.2.1 == a1.2.2.2.2.2.1)) (some false) (andO (F102 N a0.2.2.2.2.2.2 a1.2.2.2.2.2.2) fun y2 => cond (!y2) (some false) (some true)))))))
theorem ok58 N a0 a1 {r} (h : F58 N a0 a1 = some r) : Con prog 58 [.agg (lv Y76 a0), .agg (lv Y76 a1)] [.lf (.v .bool r)] := by
 refine ctr [.lf (.v .bool)] K func58 rfl fun w0 E0 ht => ?_
 unfold F58 at h
 show VW _ _ _ _ _ (retQ _ _ _ _) _
 refine nR K (tn 3) <| sq <| nR K (tn 5) ?_
 refine cnd h ?_ ?_<;>intro h
 ·refine nR K (tn 1) ?_
  cases h; exact VW.ret (rt [])
 refine VW.skip <| sq <| nR K (tn 5) ?_
 refine cnd h ?_ ?_<;>intro h
 ·refine nR K (tn 1) ?_
  cases h; exact VW.ret (rt [])
 refine VW.skip <| sq <| nR K (tn 5) ?_
 refine cnd h ?_ ?_<;>intro h
 ·refine nR K (tn 1) ?_
  cases h; exact VW.ret (rt [])
 refine VW.skip <| sq <| nR K (tn 5) ?_
 refine cnd h ?_ ?_<;>intro h
 ·refine sR K [4] [] ⟨[(4, B false)], []⟩ (tn 1) ?_
  cases h; exact VW.ret (rt [])
 refine VW.skip <| sq <| sRh K [2, 3, 29] [0, 1] [(2, .lf (.ptr 0 0 0 0)), (3, .lf (.ptr 1 0 0 0)), (29, B (a0.2.2.2.2.1 != a1.2.2.2.2.1))] (tn 5) ?_
 refine cnd h ?_ ?_<;>intro h
 ·refine nR K (tn 1) ?_
  cases h; exact VW.ret (rt [])
 refine VW.skip <| sq <| nR K (tn 5) ?_
 refine cnd h ?_ ?_<;>intro h
 ·refine nR K (tn 1) ?_
  cases h; exact VW.ret (rt [])
 refine VW.skip <| sq <| sq <| VW.region <| nG K 4 (tn 4) ?_
 have⟨y2,hy,h⟩:=aS h
 refine cal false [.t (.sl (.int .i64)), .t (.sl (.int .i64))] [] (some 39) K (ok102 N _ _ hy) <| nN K (tn 1) ?_
 refine cnd h ?_ ?_<;>intro h
 ·refine nR K (tn 1) ?_
  cases h; exact VW.ret (rt [])
 refine VW.skip <| nR K (tn 1) ?_
 cases h; exact VW.ret (rt [])
def F19_j0 (N : Nat) : Option (Bool) :=
  some true
def F19_l0_b (N : Nat) (a0 : (List Z76)) (a1 : (List Z76)) (nx35 : Int → Option (Bool)) (x28 : Int) : Option (Bool) :=
  cond (decide (x28 < (a0.length : Int))) (gd (InR x28 a0.length) (gd (InR x28 a1.length) (andO (F58 N (a0.getD x28.toNat (Ty.dflt Y76)) (a1.getD x28.toNat (Ty.dflt Y76))) fun y41 => cond (!y41) (some false) (nx35 (IntKind.i64.wrap (x28 + (1 : Int))))))) (F19_j0 N)
def F19_l0 (N : Nat) (a0 : (List Z76)) (a1 : (List Z76)) := loopF (F19_l0_b N a0 a1) (fun _ => none)
theorem F19_l0_s N a0 a1 {k} (hk : 0 < k) x28 : F19_l0 N a0 a1 k x28 = F19_l0_b N a0 a1 (F19_l0 N a0 a1 (k - 1)) x28 := by cases k;cases hk;rfl
def F19 (N : Nat) (a0 : (List Z76)) (a1 : (List Z76)) : Option (Bool) :=
  cond ((a0.length : Int) != (a1.length : Int)) (some false) (F19_l0 N a0 a1 N (0 : Int))
theorem ok19 N a0 a1 {r} (h : F19 N a0 a1 = some r) : Con prog 19 [Vv (.sl Y76) a0, Vv (.sl Y76) a1] [.lf (.v .bool r)] := by
 refine ctr [.lf (.v .bool)] K func19 rfl fun w0 E0 ht => ?_
 unfold F19 at h
 show VW _ _ _ _ _ (retQ _ _ _ _) _
 refine nR K (tn 1) <| sq <| nR K (tn 5) ?_
 refine cnd h ?_ ?_<;>intro h
 ·refine nR K (tn 1) ?_
  cases h; exact VW.ret (rt [])
 refine VW.skip ?_
 refine VW.join (fun s => s = ⟨[], []⟩ ∧ F19_j0 N = some r) ?_ ?_
 ·refine nR K (tn 1) <| VW.block <| lop (fun k s => ∃ x28, s = ⟨[(0, Vv (.sl Y76) a0), (1, Vv (.sl Y76) a1), (5, I x28)], []⟩ ∧ F19_l0 N a0 a1 k x28 = some r) N [.ren [0, 1, 5] []] ⟨(0 : Int), rfl, h⟩ ?_
  rintro k35 s ⟨x28, rfl, h⟩
  cases k35 with
  | zero => cases show none = some r from h
  | succ k35 =>
   replace h : F19_l0_b N a0 a1 (F19_l0 N a0 a1 k35) x28 = some r := h
   unfold F19_l0_b at h
   refine sq <| nR K (tn 4) ?_
   refine cnd h ?_ ?_<;>intro h
   ·refine VW.skip <| sq <| VW.block <| sq ?_
    have⟨g39,h⟩:=gS h
    have⟨g40,h⟩:=gS h
    have⟨y41,hy41,h⟩:=aS h
    refine dr K [(8, .cl [] (some 25) [.lf (.v .bool y41)])] [(8, 0)] [] [0, 1, 5, 26] [] (pu 2 (an g39 (pu 3 (an g40 (tn 3))))) ⟨qC false [.t Y76, .t Y76] [] [] (some 25) K (ok58 N _ _ hy41), trivial⟩ ?_
    refine cnd h ?_ ?_<;>intro h
    ·refine nR K (tn 1) ?_
     cases h; exact VW.ret (rt [])
    refine VW.skip <| nE K (tn 3) ?_
    exact aro [.ren [0, 1, 5] []] ⟨(wr (x28 + (1 : Int))), rfl, h⟩
   refine VW.exit ?_
   exact arv [.ren [] []] ⟨rfl, h⟩
 rintro s ⟨rfl, h⟩
 unfold F19_j0 at h
 refine nR K (tn 1) ?_
 cases h; exact VW.ret (rt [])
def F59 (N : Nat) (a0 : Z82) (a1 : Int) : Option (Int) :=
  cond (decide ((IntKind.i64.wrap (a1 - (a0.1.size : Int))) < (0 : Int))) (some (-1 : Int)) (some (IntKind.i64.wrap (a1 - (a0.1.size : Int))))
theorem ok59 N a0 a1 {r} (h : F59 N a0 a1 = some r) : Con prog 59 [.agg (lv Y82 a0), I a1] [.lf (.v (.int .i64) r)] := by
 refine ctr [.lf (.v (.int .i64))] K func59 rfl fun w0 E0 ht => ?_
 unfold F59 at h
 show VW _ _ _ _ _ (retQ _ _ _ _) _
 refine nR K (tn 2) <| nR K (tn 6) <| sq <| nR K (tn 2) ?_
 refine cnd h ?_ ?_<;>intro h
 ·refine nR K (tn 1) ?_
  cases h; exact VW.ret (rt [])
 refine VW.skip <| nR K (tn 2) ?_
 cases h; exact VW.ret (rt [])
def F20_j0 (N : Nat) (x17 : Int) : Option (Int) :=
  some x17
def F20_l0_b (N : Nat) (a0 : (List Z82)) (nx30 : Int → Int → Option (Int)) (x24 : Int) (x25 : Int) : Option (Int) :=
  cond (decide (x25 < (a0.length : Int))) (gd (InR x25 a0.length) (andO (F59 N (a0.getD x25.toNat (Ty.dflt Y82)) x24) fun y34 => cond (decide (y34 < (0 : Int))) (some (-1 : Int)) (nx30 y34 (IntKind.i64.wrap (x25 + (1 : Int)))))) (F20_j0 N x24)
def F20_l0 (N : Nat) (a0 : (List Z82)) := loopF (F20_l0_b N a0) (fun _ _ => none)
theorem F20_l0_s N a0 {k} (hk : 0 < k) x24 x25 : F20_l0 N a0 k x24 x25 = F20_l0_b N a0 (F20_l0 N a0 (k - 1)) x24 x25 := by cases k;cases hk;rfl
def F20 (N : Nat) (a0 : (List Z82)) (a1 : Int) : Option (Int) :=
  cond (decide ((IntKind.i64.wrap (a1 - (a0.length : Int))) < (0 : Int))) (some (-1 : Int)) (F20_l0 N a0 N (IntKind.i64.wrap (a1 - (a0.length : Int))) (0 : Int))
theorem ok20 N a0 a1 {r} (h : F20 N a0 a1 = some r) : Con prog 20 [Vv (.sl Y82) a0, I a1] [.lf (.v (.int .i64) r)] := by
 refine ctr [.lf (.v (.int .i64))] K func20 rfl fun w0 E0 ht => ?_
 unfold F20 at h
 show VW _ _ _ _ _ (retQ _ _ _ _) _
 refine nR K (tn 1) <| nR K (tn 5) <| sq <| nR K (tn 2) ?_
 refine cnd h ?_ ?_<;>intro h
 ·refine nR K (tn 1) ?_
  cases h; exact VW.ret (rt [])
 refine VW.skip ?_
 refine VW.join (fun s => ∃ x17, s = ⟨[(1, I x17)], []⟩ ∧ F20_j0 N x17 = some r) ?_ ?_
 ·refine nR K (tn 1) <| VW.block <| lop (fun k s => ∃ x24 x25, s = ⟨[(0, Vv (.sl Y82) a0), (1, I x24), (5, I x25)], []⟩ ∧ F20_l0 N a0 k x24 x25 = some r) N [.ren [0, 1, 5] []] ⟨(wr (a1 - (a0.length : Int))), (0 : Int), rfl, h⟩ ?_
  rintro k30 s ⟨x24, x25, rfl, h⟩
  cases k30 with
  | zero => cases show none = some r from h
  | succ k30 =>
   replace h : F20_l0_b N a0 (F20_l0 N a0 k30) x24 x25 = some r := h
   unfold F20_l0_b at h
   refine sq <| nR K (tn 4) ?_
   refine cnd h ?_ ?_<;>intro h
   ·refine VW.skip <| sq <| VW.block <| sq <| VW.region ?_
    have⟨g33,h⟩:=gS h
    refine nG K 5 (pu 2 (an g33 (tn 2))) ?_
    have⟨y34,hy,h⟩:=aS h
    refine cal false [.t Y82, .t (.int .i64)] [] (some 23) K (ok59 N _ _ hy) <| nN K (tn 1) <| nR K (tn 2) ?_
    refine cnd h ?_ ?_<;>intro h
    ·refine nR K (tn 1) ?_
     cases h; exact VW.ret (rt [])
    refine VW.skip <| nE K (tn 3) ?_
    exact aro [.ren [0, 1, 5] []] ⟨y34, (wr (x25 + (1 : Int))), rfl, h⟩
   refine VW.exit ?_
   exact arv [.ren [1] []] ⟨x24, rfl, h⟩
 rintro s ⟨x17, rfl, h⟩
 unfold F20_j0 at h
 refine nR K (tn 2) ?_
 cases h; exact VW.ret (rt [])
def F103_j0 (N : Nat) (x16 : (List Int)) : Option ((List Int)) :=
  some x16
def F103_l0_b (N : Nat) (a0 : (List Int)) (nx28 : (List Int) → Int → Option ((List Int))) (x22 : (List Int)) (x23 : Int) : Option ((List Int)) :=
  cond (decide (x23 < (a0.length : Int))) (gd (InR x23 a0.length) (gd (x22.length + ([(a0.getD x23.toNat (Ty.dflt (.int .i64)))]).length ≤ lim (.int .i64)) (nx28 (x22 ++ ([(a0.getD x23.toNat (Ty.dflt (.int .i64)))])) (IntKind.i64.wrap (x23 + (1 : Int)))))) (F103_j0 N x22)
def F103_l0 (N : Nat) (a0 : (List Int)) := loopF (F103_l0_b N a0) (fun _ _ => none)
theorem F103_l0_s N a0 {k} (hk : 0 < k) x22 x23 : F103_l0 N a0 k x22 x23 = F103_l0_b N a0 (F103_l0 N a0 (k - 1)) x22 x23 := by cases k;cases hk;rfl
def F103 (N : Nat) (a0 : (List Int)) : Option ((List Int)) :=
  F103_l0 N a0 N ([]) (0 : Int)
theorem ok103 N a0 {r} (h : F103 N a0 = some r) : Con prog 103 [Vv (.sl (.int .i64)) a0] [.lf (.own (.int .i64) r .dp)] := by
 refine ctr [.lf (.own (.int .i64) .dp)] K func103 rfl fun w0 E0 ht => ?_
 unfold F103 at h
 show VW _ _ _ _ _ (retQ _ _ _ _) _
 refine nR K (tn 1) <| nR K (tn 2) ?_
 refine VW.join (fun s => ∃ x16, s = ⟨[(3, hh 0)], [ar 0 (.int .i64) x16 .dp]⟩ ∧ F103_j0 N x16 = some r) ?_ ?_
 ·refine nR K (tn 1) <| VW.block <| lop (fun k s => ∃ x22 x23, s = ⟨[(0, Vv (.sl (.int .i64)) a0), (3, hh 0), (4, I x23)], [ar 0 (.int .i64) x22 .dp]⟩ ∧ F103_l0 N a0 k x22 x23 = some r) N [.nilS 3 (.int .i64) .dp, .ren [0, 3, 4] [0]] ⟨[], (0 : Int), rfl, h⟩ ?_
  rintro k28 s ⟨x22, x23, rfl, h⟩
  cases k28 with
  | zero => cases show none = some r from h
  | succ k28 =>
   replace h : F103_l0_b N a0 (F103_l0 N a0 k28) x22 x23 = some r := h
   unfold F103_l0_b at h
   refine sq <| nR K (tn 4) ?_
   refine cnd h ?_ ?_<;>intro h
   ·refine VW.skip <| sq <| VW.block ?_
    have⟨g31,h⟩:=gS h
    have⟨g32,h⟩:=gS h
    refine nE K (pu 3 (an g31 (pu 2 (an g32 (tn 1))))) <| nE K (tn 3) ?_
    exact aro [.ren [0, 3, 4] [0]] ⟨(x22 ++ ([(a0.getD x23.toNat (Ty.dflt (.int .i64)))])), (wr (x23 + (1 : Int))), rfl, h⟩
   refine VW.exit ?_
   exact arv [.ren [3] [0]] ⟨x22, rfl, h⟩
 rintro s ⟨x16, rfl, h⟩
 unfold F103_j0 at h
 refine nR K (tn 2) ?_
 cases h; exact VW.ret (rt [some 0])
def F60_j0 (N : Nat) (x100 : (List Z76)) : Option ((List Z76)) :=
  some x100
def F60_j1 (N : Nat) (nx168 : (List Z76) → Int → Option ((List Z76))) (x134 : (List Z76)) (x135 : Int) (x189 : Int) (x190 : ByteArray) (x191 : Int) (x192 : Int) (x193 : Int) (x194 : Bool) (x195 : (List Int)) : Option ((List Z76)) :=
  gd (x134.length + ([(x189, (x190, (x191, (x192, (x193, (x194, x195))))))]).length ≤ lim Y76) (nx168 (x134 ++ ([(x189, (x190, (x191, (x192, (x193, (x194, x195))))))])) (IntKind.i64.wrap (x135 + (1 : Int))))
def F60_l0_b (N : Nat) (a0 : (List Z76)) (nx168 : (List Z76) → Int → Option ((List Z76))) (x134 : (List Z76)) (x135 : Int) : Option ((List Z76)) :=
  cond (decide (x135 < (a0.length : Int))) (gd (InR x135 a0.length) (gd (InR x135 a0.length) (cond (decide ((((a0.getD x135.toNat (Ty.dflt Y76)).2.2.2.2.2.2).length : Int) > (0 : Int))) (gd (InR x135 a0.length) (andO (F103 N ((a0.getD x135.toNat (Ty.dflt Y76)).2.2.2.2.2.2)) fun y200 => F60_j1 N nx168 x134 x135 ((a0.getD x135.toNat (Ty.dflt Y76)).1) ((a0.getD x135.toNat (Ty.dflt Y76)).2.1) ((a0.getD x135.toNat (Ty.dflt Y76)).2.2.1) ((a0.getD x135.toNat (Ty.dflt Y76)).2.2.2.1) ((a0.getD x135.toNat (Ty.dflt Y76)).2.2.2.2.1) ((a0.getD x135.toNat (Ty.dflt Y76)).2.2.2.2.2.1) y200)) (F60_j1 N nx168 x134 x135 ((a0.getD x135.toNat (Ty.dflt Y76)).1) ((a0.getD x135.toNat (Ty.dflt Y76)).2.1) ((a0.getD x135.toNat (Ty.dflt Y76)).2.2.1) ((a0.getD x135.toNat (Ty.dflt Y76)).2.2.2.1) ((a0.getD x135.toNat (Ty.dflt Y76)).2.2.2.2.1) ((a0.getD x135.toNat (Ty.dflt Y76)).2.2.2.2.2.1) ([]))))) (F60_j0 N x134)
def F60_l0 (N : Nat) (a0 : (List Z76)) := loopF (F60_l0_b N a0) (fun _ _ => none)
theorem F60_l0_s N a0 {k} (hk : 0 < k) x134 x135 : F60_l0 N a0 k x134 x135 = F60_l0_b N a0 (F60_l0 N a0 (k - 1)) x134 x135 := by cases k;cases hk;rfl
def F60 (N : Nat) (a0 : (List Z76)) : Option ((List Z76)) :=
  F60_l0 N a0 N ([]) (0 : Int)
theorem ok60 N a0 {r} (h : F60 N a0 = some r) : Con prog 60 [Vv (.sl Y76) a0] [.lf (.own Y76 r .dp)] := by
 refine ctr [.lf (.own Y76 .dp)] K func60 rfl fun w0 E0 ht => ?_
 unfold F60 at h
 show VW _ _ _ _ _ (retQ _ _ _ _) _
 refine nR K (tn 1) <| nR K (tn 2) ?_
 refine VW.join (fun s => ∃ x100, s = ⟨[(3, hh 0)], [ar 0 Y76 x100 .dp]⟩ ∧ F60_j0 N x100 = some r) ?_ ?_
 ·refine nR K (tn 1) <| VW.block <| lop (fun k s => ∃ x134 x135, s = ⟨[(0, Vv (.sl Y76) a0), (3, hh 0), (4, I x135)], [ar 0 Y76 x134 .dp]⟩ ∧ F60_l0 N a0 k x134 x135 = some r) N [.nilS 3 Y76 .dp, .ren [0, 3, 4] [0]] ⟨[], (0 : Int), rfl, h⟩ ?_
  rintro k168 s ⟨x134, x135, rfl, h⟩
  cases k168 with
  | zero => cases show none = some r from h
  | succ k168 =>
   replace h : F60_l0_b N a0 (F60_l0 N a0 k168) x134 x135 = some r := h
   unfold F60_l0_b at h
   refine sq <| nR K (tn 4) ?_
   refine cnd h ?_ ?_<;>intro h
   ·refine VW.skip <| sq <| VW.block ?_
    have⟨g185,h⟩:=gS h
    refine nR K (pu 2 (an g185 (tn 3))) <| nR K (tn 2) ?_
    refine VW.join (fun s => ∃ x189 x190 x191 x192 x193 x194 x195, s = ⟨[(0, Vv (.sl Y76) a0), (3, hh 0), (4, I x135), (5, .lf (.ptr 1 0 0 0))], [ar 0 Y76 x134 .dp, bx [zi x189, zs x190, zi x191, zi x192, zi x193, zb x194, .hd 2 0 none] 78, ar 0 (.int .i64) x195 .dp]⟩ ∧ F60_j1 N (F60_l0 N a0 k168) x134 x135 x189 x190 x191 x192 x193 x194 x195 = some r) ?_ ?_
    ·have⟨g198,h⟩:=gS h
     refine nR K (pu 2 (an g198 (tn 4))) ?_
     refine cnd h ?_ ?_<;>intro h
     ·refine VW.region ?_
      have⟨g199,h⟩:=gS h
      refine nG K 5 (pu 2 (an g199 (tn 2))) ?_
      have⟨y200,hy,h⟩:=aS h
      refine cal false [.t (.sl (.int .i64))] [] (some 30) K (ok103 N _ hy) <| sN K [0, 3, 4, 5] [0, 1, 2] ⟨[(0, Vv (.sl Y76) a0), (3, hh 0), (4, I x135), (5, .lf (.ptr 1 0 0 0))], [ar 0 Y76 x134 .dp, bx [zi ((a0.getD x135.toNat D76).1), zs ((a0.getD x135.toNat D76).2.1), zi ((a0.getD x135.toNat D76).2.2.1), zi ((a0.getD x135.toNat D76).2.2.2.1), zi ((a0.getD x135.toNat D76).2.2.2.2.1), zb ((a0.getD x135.toNat D76).2.2.2.2.2.1), .hd 2 0 none] 78, ar 0 (.int .i64) y200 .dp]⟩ (tn 2) ?_
      exact arv [.ren [0, 3, 4, 5] [0, 1, 2]] ⟨(a0.getD x135.toNat D76).1, (a0.getD x135.toNat D76).2.1, (a0.getD x135.toNat D76).2.2.1, (a0.getD x135.toNat D76).2.2.2.1, (a0.getD x135.toNat D76).2.2.2.2.1, (a0.getD x135.toNat D76).2.2.2.2.2.1, y200, rfl, h⟩
     refine VW.skip ?_
     exact arv [.nil 1 6 (.int .i64) .dp, .ren [0, 3, 4, 5] [0, 1, 2]] ⟨(a0.getD x135.toNat D76).1, (a0.getD x135.toNat D76).2.1, (a0.getD x135.toNat D76).2.2.1, (a0.getD x135.toNat D76).2.2.2.1, (a0.getD x135.toNat D76).2.2.2.2.1, (a0.getD x135.toNat D76).2.2.2.2.2.1, [], rfl, h⟩
    rintro s ⟨x189, x190, x191, x192, x193, x194, x195, rfl, h⟩
    unfold F60_j1 at h
    refine VW.region <| nG K 2 (tn 2) <| VO.litA (d := 34) (v := hh 3) (H' := [ar 0 Y76 x134 .dp, bx [zi x189, zs x190, zi x191, zi x192, zi x193, zb x194, .hd 2 0 none] 78, none, ar 0 Y76 ([(x189, (x190, (x191, (x192, (x193, (x194, x195))))))]) .dp]) K (by kernel_rfl) ?_
    have⟨g196,h⟩:=gS h
    refine VO.appM (d := 35) (φ := x134.length + ([(x189, (x190, (x191, (x192, (x193, (x194, x195))))))]).length ≤ lim Y76) (v := .lf (.hd 0 1 none)) (H' := [ar 1 Y76 (x134 ++ ([(x189, (x190, (x191, (x192, (x193, (x194, x195))))))])) .dp, bx [zi x189, zs x190, zi x191, zi x192, zi x193, zb x194, .hd 2 0 none] 78, none, none]) K (by kernel_rfl) g196 <| nN K (tn 1) <| nE K (tn 3) ?_
    exact aro [.ren [0, 3, 4] [0]] ⟨(x134 ++ ([(x189, (x190, (x191, (x192, (x193, (x194, x195))))))])), (wr (x135 + (1 : Int))), rfl, h⟩
   refine VW.exit ?_
   exact arv [.ren [3] [0]] ⟨x134, rfl, h⟩
 rintro s ⟨x100, rfl, h⟩
 unfold F60_j0 at h
 refine nR K (tn 2) ?_
 cases h; exact VW.ret (rt [some 0])
def F105_j0 (N : Nat) (x30 : (List Int)) : Option ((List Int)) :=
  some x30
def F105_l0_b (N : Nat) (a0 : (List Z76)) (a1 : Int) (nx52 : (List Int) → Int → Int → Option ((List Int))) (x41 : (List Int)) (x42 : Int) (x43 : Int) : Option ((List Int)) :=
  gd (InR a1 a0.length) (andO (F107 N ((a0.getD a1.toNat (Ty.dflt Y76)).1)) fun y56 => cond (decide (x43 < y56)) (gd (x41.length + ([x42]).length ≤ lim (.int .i64)) (andO (F65 N a0 x42 (10 : Int)) fun y60 => nx52 (x41 ++ ([x42])) y60.1 (IntKind.i64.wrap (x43 + (1 : Int))))) (F105_j0 N x41))
def F105_l0 (N : Nat) (a0 : (List Z76)) (a1 : Int) := loopF (F105_l0_b N a0 a1) (fun _ _ _ => none)
theorem F105_l0_s N a0 a1 {k} (hk : 0 < k) x41 x42 x43 : F105_l0 N a0 a1 k x41 x42 x43 = F105_l0_b N a0 a1 (F105_l0 N a0 a1 (k - 1)) x41 x42 x43 := by cases k;cases hk;rfl
def F105 (N : Nat) (a0 : (List Z76)) (a1 : Int) : Option ((List Int)) :=
  F105_l0 N a0 a1 N ([]) (IntKind.i64.wrap (a1 + (1 : Int))) (0 : Int)
theorem ok105 N a0 a1 {r} (h : F105 N a0 a1 = some r) : Con prog 105 [Vv (.sl Y76) a0, I a1] [.lf (.own (.int .i64) r .dp)] := by
 refine ctr [.lf (.own (.int .i64) .dp)] K func105 rfl fun w0 E0 ht => ?_
 unfold F105 at h
 show VW _ _ _ _ _ (retQ _ _ _ _) _
 refine nR K (tn 1) <| nR K (tn 2) <| nR K (tn 3) ?_
 refine VW.join (fun s => ∃ x30, s = ⟨[(5, hh 0)], [ar 0 (.int .i64) x30 .dp]⟩ ∧ F105_j0 N x30 = some r) ?_ ?_
 ·refine nR K (tn 1) <| VW.block <| lop (fun k s => ∃ x41 x42 x43, s = ⟨[(0, Vv (.sl Y76) a0), (1, I a1), (5, hh 0), (6, I x42), (7, I x43)], [ar 0 (.int .i64) x41 .dp]⟩ ∧ F105_l0 N a0 a1 k x41 x42 x43 = some r) N [.nilS 5 (.int .i64) .dp, .ren [0, 1, 5, 6, 7] [0]] ⟨[], (wr (a1 + (1 : Int))), (0 : Int), rfl, h⟩ ?_
  rintro k52 s ⟨x41, x42, x43, rfl, h⟩
  cases k52 with
  | zero => cases show none = some r from h
  | succ k52 =>
   replace h : F105_l0_b N a0 a1 (F105_l0 N a0 a1 k52) x41 x42 x43 = some r := h
   unfold F105_l0_b at h
   refine sq <| sq <| VW.region ?_
   have⟨g55,h⟩:=gS h
   refine nG K 6 (pu 3 (an g55 (tn 2))) ?_
   have⟨y56,hy,h⟩:=aS h
   refine cal false [.t (.int .i64)] [] (some 17) K (ok107 N _ hy) <| nN K (tn 1) ?_
   refine cnd h ?_ ?_<;>intro h
   ·refine VW.skip <| sq <| VW.block ?_
    have⟨g59,h⟩:=gS h
    refine nR K (pu 3 (an g59 (tn 1))) <| VW.region <| nG K 2 (tn 2) ?_
    have⟨y60,hy,h⟩:=aS h
    refine cal false [.t (.sl Y76), .t (.int .i64), .t (.int .i64)] [] (some 28) K (ok65 N _ _ _ hy) <| nN K (tn 4) <| rR K [0, 1, 5, 6, 7] [0] ⟨[(0, Vv (.sl Y76) a0), (1, I a1), (5, hh 0), (6, I y60.1), (7, I (wr (x43 + (1 : Int))))], [ar 0 (.int .i64) (x41 ++ ([x42])) .dp]⟩ (tn 3) ?_
    exact aro [.ren [0, 1, 5, 6, 7] [0]] ⟨(x41 ++ ([x42])), y60.1, (wr (x43 + (1 : Int))), rfl, h⟩
   refine VW.exit ?_
   exact arv [.ren [5] [0]] ⟨x41, rfl, h⟩
 rintro s ⟨x30, rfl, h⟩
 unfold F105_j0 at h
 refine nR K (tn 2) ?_
 cases h; exact VW.ret (rt [some 0])
def F145_j0 (N : Nat) : Option (Int) :=
  some (-1 : Int)
def F145_l0_b (N : Nat) (a0 : (List Z82)) (a1 : ByteArray) (nx15 : Int → Option (Int)) (x12 : Int) : Option (Int) :=
  cond (decide (x12 < (a0.length : Int))) (gd (InR x12 a0.length) (cond (((a0.getD x12.toNat (Ty.dflt Y82)).1).toList == a1.toList) (some x12) (nx15 (IntKind.i64.wrap (x12 + (1 : Int)))))) (F145_j0 N)
def F145_l0 (N : Nat) (a0 : (List Z82)) (a1 : ByteArray) := loopF (F145_l0_b N a0 a1) (fun _ => none)
theorem F145_l0_s N a0 a1 {k} (hk : 0 < k) x12 : F145_l0 N a0 a1 k x12 = F145_l0_b N a0 a1 (F145_l0 N a0 a1 (k - 1)) x12 := by cases k;cases hk;rfl
def F145 (N : Nat) (a0 : (List Z82)) (a1 : ByteArray) : Option (Int) :=
  F145_l0 N a0 a1 N (0 : Int)
theorem ok145 N a0 a1 {r} (h : F145 N a0 a1 = some r) : Con prog 145 [Vv (.sl Y82) a0, S a1] [.lf (.v (.int .i64) r)] := by
 refine ctr [.lf (.v (.int .i64))] K func145 rfl fun w0 E0 ht => ?_
 unfold F145 at h
 show VW _ _ _ _ _ (retQ _ _ _ _) _
 refine nR K (tn 1) ?_
 refine VW.join (fun s => s = ⟨[], []⟩ ∧ F145_j0 N = some r) ?_ ?_
 ·refine nR K (tn 1) <| VW.block <| lop (fun k s => ∃ x12, s = ⟨[(0, Vv (.sl Y82) a0), (1, S a1), (5, I x12)], []⟩ ∧ F145_l0 N a0 a1 k x12 = some r) N [.ren [0, 1, 5] []] ⟨(0 : Int), rfl, h⟩ ?_
  rintro k15 s ⟨x12, rfl, h⟩
  cases k15 with
  | zero => cases show none = some r from h
  | succ k15 =>
   replace h : F145_l0_b N a0 a1 (F145_l0 N a0 a1 k15) x12 = some r := h
   unfold F145_l0_b at h
   refine sq <| nR K (tn 4) ?_
   refine cnd h ?_ ?_<;>intro h
   ·refine VW.skip <| sq <| VW.block ?_
    have⟨g17,h⟩:=gS h
    refine nR K (pu 2 (an g17 (tn 4))) ?_
    refine cnd h ?_ ?_<;>intro h
    ·refine nR K (tn 2) ?_
     cases h; exact VW.ret (rt [])
    refine VW.skip <| nE K (tn 3) ?_
    exact aro [.ren [0, 1, 5] []] ⟨(wr (x12 + (1 : Int))), rfl, h⟩
   refine VW.exit ?_
   exact arv [.ren [] []] ⟨rfl, h⟩
 rintro s ⟨rfl, h⟩
 unfold F145_j0 at h
 refine nR K (tn 1) ?_
 cases h; exact VW.ret (rt [])
def F106_j0 (N : Nat) (x51 : (List Int)) : Option (Int) :=
  gd (InR (0 : Int) x51.length) (gd ((0 : Int).toNat < x51.length) (some (x51.getD ((0 : Int).toNat) (Ty.dflt (.int .i64)))))
def F106_j1 (N : Nat) (x50 : (List Int)) : Option (Int) :=
  some (x50.length : Int)
def F106_l0_b (N : Nat) (x50 : (List Int)) (x51 : (List Int)) (nx169 : Int → Option (Int)) (x162 : Int) : Option (Int) :=
  cond (decide (x162 < (x50.length : Int))) (gd (InR x162 x50.length) (gd (InR (0 : Int) x51.length) (gd ((0 : Int).toNat < x51.length) (cond (decide ((x50.getD x162.toNat (Ty.dflt (.int .i64))) ≥ (x51.getD ((0 : Int).toNat) (Ty.dflt (.int .i64))))) (some (-1 : Int)) (nx169 (IntKind.i64.wrap (x162 + (1 : Int)))))))) (F106_j1 N x50)
def F106_l0 (N : Nat) (x50 : (List Int)) (x51 : (List Int)) := loopF (F106_l0_b N x50 x51) (fun _ => none)
theorem F106_l0_s N x50 x51 {k} (hk : 0 < k) x162 : F106_l0 N x50 x51 k x162 = F106_l0_b N x50 x51 (F106_l0 N x50 x51 (k - 1)) x162 := by cases k;cases hk;rfl
def F106_j2 (N : Nat) (x44 : Int) (x46 : Int) (x48 : Int) (x50 : (List Int)) (x51 : (List Int)) (x132 : Bool) : Option (Int) :=
  cond x132 (gd (InR (0 : Int) x51.length) (gd ((0 : Int).toNat < x51.length) (cond (decide (x46 ≥ (x51.getD ((0 : Int).toNat) (Ty.dflt (.int .i64))))) (some (-1 : Int)) (F106_j0 N x51)))) (cond (x44 == (2 : Int)) (F106_l0 N x50 x51 N (0 : Int)) (cond (x44 == (3 : Int)) (gd (InR (0 : Int) x51.length) (gd ((0 : Int).toNat < x51.length) (cond (decide (x46 ≥ (x51.getD ((0 : Int).toNat) (Ty.dflt (.int .i64))))) (some (-1 : Int)) (gd (InR (1 : Int) x51.length) (gd ((1 : Int).toNat < x51.length) (cond (decide (x48 ≥ (x51.getD ((1 : Int).toNat) (Ty.dflt (.int .i64))))) (some (-1 : Int)) (gd (InR (0 : Int) x51.length) (gd ((0 : Int).toNat < x51.length) (gd (InR (1 : Int) x51.length) (gd ((1 : Int).toNat < x51.length) (cond (decide ((IntKind.i64.wrap ((x51.getD ((0 : Int).toNat) (Ty.dflt (.int .i64))) + (x51.getD ((1 : Int).toNat) (Ty.dflt (.int .i64))))) > (64 : Int))) (some (-1 : Int)) (gd (InR (0 : Int) x51.length) (gd ((0 : Int).toNat < x51.length) (gd (InR (1 : Int) x51.length) (gd ((1 : Int).toNat < x51.length) (some (IntKind.i64.wrap ((x51.getD ((0 : Int).toNat) (Ty.dflt (.int .i64))) + (x51.getD ((1 : Int).toNat) (Ty.dflt (.int .i64))))))))))))))))))))) (cond (x44 == (4 : Int)) (gd (InR (0 : Int) x51.length) (gd ((0 : Int).toNat < x51.length) (gd (InR (1 : Int) x51.length) (gd ((1 : Int).toNat < x51.length) (cond ((x51.getD ((0 : Int).toNat) (Ty.dflt (.int .i64))) != (x51.getD ((1 : Int).toNat) (Ty.dflt (.int .i64)))) (some (-1 : Int)) (F106_j0 N x51)))))) (F106_j0 N x51))))
def F106_j3 (N : Nat) (a0 : (List Z82)) (x44 : Int) (x45 : ByteArray) (x46 : Int) (x47 : Int) (x48 : Int) (x49 : Bool) (x50 : (List Int)) (x51 : (List Int)) : Option (Int) :=
  cond (x44 == (0 : Int)) (andO (F145 N a0 x45) fun y130 => cond (decide (y130 < (0 : Int))) (some (-1 : Int)) (gd (InR y130 a0.length) (some ((a0.getD y130.toNat (Ty.dflt Y82)).2)))) (cond (x44 == (1 : Int)) (F106_j2 N x44 x46 x48 x50 x51 (x44 == (1 : Int))) (F106_j2 N x44 x46 x48 x50 x51 (x44 == (5 : Int))))
def F106_l1_b (N : Nat) (a0 : (List Z82)) (a1 : (List Z76)) (self : (List Z82) → (List Z76) → Int → Option (Int)) (y2 : (List Int)) (nx238 : Int → ByteArray → Int → Int → Int → Bool → (List Int) → (List Int) → Int → Option (Int)) (x221 : Int) (x222 : ByteArray) (x223 : Int) (x224 : Int) (x225 : Int) (x226 : Bool) (x227 : (List Int)) (x228 : (List Int)) (x229 : Int) : Option (Int) :=
  cond (decide (x229 < (y2.length : Int))) (gd (InR x229 y2.length) (gd (x229.toNat < y2.length) (andO (self a0 a1 (y2.getD x229.toNat (Ty.dflt (.int .i64)))) fun y245 => cond (decide (y245 < (0 : Int))) (some (-1 : Int)) (gd (x228.length + ([y245]).length ≤ lim (.int .i64)) (nx238 x221 x222 x223 x224 x225 x226 x227 (x228 ++ ([y245])) (IntKind.i64.wrap (x229 + (1 : Int)))))))) (F106_j3 N a0 x221 x222 x223 x224 x225 x226 x227 x228)
def F106_l1 (N : Nat) (a0 : (List Z82)) (a1 : (List Z76)) (self : (List Z82) → (List Z76) → Int → Option (Int)) (y2 : (List Int)) := loopF (F106_l1_b N a0 a1 self y2) (fun _ _ _ _ _ _ _ _ _ => none)
theorem F106_l1_s N a0 a1 (self : (List Z82) → (List Z76) → Int → Option (Int)) y2 {k} (hk : 0 < k) x221 x222 x223 x224 x225 x226 x227 x228 x229 : F106_l1 N a0 a1 self y2 k x221 x222 x223 x224 x225 x226 x227 x228 x229 = F106_l1_b N a0 a1 self y2 (F106_l1 N a0 a1 self y2 (k - 1)) x221 x222 x223 x224 x225 x226 x227 x228 x229 := by cases k;cases hk;rfl
def F106_b (N : Nat) (self : (List Z82) → (List Z76) → Int → Option (Int)) (a0 : (List Z82)) (a1 : (List Z76)) (a2 : Int) : Option (Int) :=
  gd (InR a2 a1.length) (andO (F105 N a1 a2) fun y2 => F106_l1 N a0 a1 self y2 N ((a1.getD a2.toNat (Ty.dflt Y76)).1) ((a1.getD a2.toNat (Ty.dflt Y76)).2.1) ((a1.getD a2.toNat (Ty.dflt Y76)).2.2.1) ((a1.getD a2.toNat (Ty.dflt Y76)).2.2.2.1) ((a1.getD a2.toNat (Ty.dflt Y76)).2.2.2.2.1) ((a1.getD a2.toNat (Ty.dflt Y76)).2.2.2.2.2.1) ((a1.getD a2.toNat (Ty.dflt Y76)).2.2.2.2.2.2) ([]) (0 : Int))
theorem ok106_b (N : Nat) (self : (List Z82) → (List Z76) → Int → Option (Int)) (ih : ∀ (a0 : (List Z82)) (a1 : (List Z76)) (a2 : Int) (r : Int), self a0 a1 a2 = some r → Con prog 106 [Vv (.sl Y82) a0, Vv (.sl Y76) a1, I a2] [.lf (.v (.int .i64) r)]) (a0 : (List Z82)) (a1 : (List Z76)) (a2 : Int) {r : Int} (h : F106_b N self a0 a1 a2 = some r) : Con prog 106 [Vv (.sl Y82) a0, Vv (.sl Y76) a1, I a2] [.lf (.v (.int .i64) r)] := by
 refine ctr [.lf (.v (.int .i64))] K func106 rfl fun w0 E0 ht => ?_
 unfold F106_b at h
 show VW _ _ _ _ _ (retQ _ _ _ _) _
 refine nR K (tn 1) ?_
 have⟨g1,h⟩:=gS h
 refine nR K (pu 2 (an g1 (tn 3))) <| nR K (tn 2) <| sq <| VW.region <| nG K 2 (tn 2) ?_
 have⟨y2,hy,h⟩:=aS h
 refine cal false [.t (.sl Y76), .t (.int .i64)] [] (some 21) K (ok105 N _ _ hy) <| nN K (tn 1) ?_
 refine VW.join (fun s => ∃ x44 x45 x46 x47 x48 x49 x50 x51, s = ⟨[(0, Vv (.sl Y82) a0), (7, .lf (.ptr 0 0 0 0)), (8, hh 1)], [bx [zi x44, zs x45, zi x46, zi x47, zi x48, zb x49, .v (.sl (.int .i64)) x50] 78, ar 0 (.int .i64) x51 .dp]⟩ ∧ F106_j3 N a0 x44 x45 x46 x47 x48 x49 x50 x51 = some r) ?_ ?_
 ·refine sRh K [0, 1, 7, 8, 9, 10] [0, 1] [(0, Vv (.sl Y82) a0), (1, Vv (.sl Y76) a1), (7, .lf (.ptr 0 0 0 0)), (8, .lf (.nil)), (9, hh 1), (10, I (0 : Int))] (tn 1) <| VW.block <| lop (fun k s => ∃ x221 x222 x223 x224 x225 x226 x227 x228 x229, s = ⟨[(0, Vv (.sl Y82) a0), (1, Vv (.sl Y76) a1), (7, .lf (.ptr 0 0 0 0)), (8, hh 1), (9, hh 2), (10, I x229)], [bx [zi x221, zs x222, zi x223, zi x224, zi x225, zb x226, .v (.sl (.int .i64)) x227] 78, ar 0 (.int .i64) x228 .dp, ar 0 (.int .i64) y2 .dp]⟩ ∧ F106_l1 N a0 a1 self y2 k x221 x222 x223 x224 x225 x226 x227 x228 x229 = some r) N [.nilS 8 (.int .i64) .dp, .ren [0, 1, 7, 8, 9, 10] [0, 2, 1]] ⟨(a1.getD a2.toNat D76).1, (a1.getD a2.toNat D76).2.1, (a1.getD a2.toNat D76).2.2.1, (a1.getD a2.toNat D76).2.2.2.1, (a1.getD a2.toNat D76).2.2.2.2.1, (a1.getD a2.toNat D76).2.2.2.2.2.1, (a1.getD a2.toNat D76).2.2.2.2.2.2, [], (0 : Int), rfl, h⟩ ?_
  rintro k238 s ⟨x221, x222, x223, x224, x225, x226, x227, x228, x229, rfl, h⟩
  cases k238 with
  | zero => cases show none = some r from h
  | succ k238 =>
   replace h : F106_l1_b N a0 a1 self y2 (F106_l1 N a0 a1 self y2 k238) x221 x222 x223 x224 x225 x226 x227 x228 x229 = some r := h
   unfold F106_l1_b at h
   refine sq <| nR K (tn 4) ?_
   refine cnd h ?_ ?_<;>intro h
   ·refine VW.skip <| sq <| VW.block <| sq <| VW.region ?_
    have⟨g243,h⟩:=gS h
    have⟨g244,h⟩:=gS h
    refine nG K 6 (pu 4 (an g243 (an g244 (tn 0)))) ?_
    have⟨y245,hy,h⟩:=aS h
    refine cal false [.t (.sl Y82), .t (.sl Y76), .t (.int .i64)] [] (some 34) K (ih _ _ _ _ hy) <| nN K (tn 1) <| sq <| nR K (tn 2) ?_
    refine cnd h ?_ ?_<;>intro h
    ·refine nR K (tn 1) ?_
     cases h; exact VW.ret (rt [])
    refine VW.skip ?_
    have⟨g246,h⟩:=gS h
    refine nE K (pu 3 (an g246 (tn 1))) <| rR K [0, 1, 7, 8, 9, 10] [0, 1, 2] ⟨[(0, Vv (.sl Y82) a0), (1, Vv (.sl Y76) a1), (7, .lf (.ptr 0 0 0 0)), (8, hh 1), (9, hh 2), (10, I (wr (x229 + (1 : Int))))], [bx [zi x221, zs x222, zi x223, zi x224, zi x225, zb x226, .v (.sl (.int .i64)) x227] 78, ar 0 (.int .i64) (x228 ++ ([y245])) .dp, ar 0 (.int .i64) y2 .dp]⟩ (tn 3) ?_
    exact aro [.ren [0, 1, 7, 8, 9, 10] [0, 1, 2]] ⟨x221, x222, x223, x224, x225, x226, x227, (x228 ++ ([y245])), (wr (x229 + (1 : Int))), rfl, h⟩
   refine VW.exit ?_
   exact arv [.ren [0, 7, 8] [0, 1]] ⟨x221, x222, x223, x224, x225, x226, x227, x228, rfl, h⟩
 rintro s ⟨x44, x45, x46, x47, x48, x49, x50, x51, rfl, h⟩
 unfold F106_j3 at h
 refine VW.join (fun s => s = ⟨[(8, hh 0)], [ar 0 (.int .i64) x51 .dp]⟩ ∧ F106_j0 N x51 = some r) ?_ ?_
 ·refine nR K (tn 2) <| VW.block <| nR K (tn 2) ?_
  refine cnd h ?_ ?_<;>intro h
  ·refine sq <| VW.region <| nG K 3 (tn 3) ?_
   have⟨y130,hy,h⟩:=aS h
   refine cal false [.t (.sl Y82), .t .str] [] (some 48) K (ok145 N _ _ hy) <| nN K (tn 1) <| sq <| nR K (tn 2) ?_
   refine cnd h ?_ ?_<;>intro h
   ·refine sR K [6] [] ⟨[(6, I (-1 : Int))], []⟩ (tn 1) ?_
    cases h; exact VW.ret (rt [])
   refine VW.skip ?_
   have⟨g131,h⟩:=gS h
   refine sR K [6] [] ⟨[(6, I ((a0.getD y130.toNat D82).2))], []⟩ (pu 2 (an g131 (tn 3))) ?_
   cases h; exact VW.ret (rt [])
  refine VW.join (fun s => ∃ x132, s = ⟨[(7, .lf (.ptr 0 0 0 0)), (8, hh 1), (42, I x44), (56, B x132)], [bx [zi x44, zs x45, zi x46, zi x47, zi x48, zb x49, .v (.sl (.int .i64)) x50] 78, ar 0 (.int .i64) x51 .dp]⟩ ∧ F106_j2 N x44 x46 x48 x50 x51 x132 = some r) ?_ ?_
  ·refine nR K (tn 2) ?_
   refine cnd h ?_ ?_<;>intro h
   ·refine VW.skip ?_
    exact arv [.ren [7, 8, 42, 56] [0, 1]] ⟨(x44 == (1 : Int)), rfl, h⟩
   refine nE K (tn 2) ?_
   exact arv [.ren [7, 8, 42, 56] [0, 1]] ⟨(x44 == (5 : Int)), rfl, h⟩
  rintro s ⟨x132, rfl, h⟩
  unfold F106_j2 at h
  refine cnd h ?_ ?_<;>intro h
  ·refine sq ?_
   have⟨g133,h⟩:=gS h
   have⟨g134,h⟩:=gS h
   refine dr K [] [] [] [8, 64] [1] (pu 3 (an g133 (an g134 (tn 1)))) trivial ?_
   refine cnd h ?_ ?_<;>intro h
   ·refine nR K (tn 1) ?_
    cases h; exact VW.ret (rt [])
   refine VW.skip ?_
   exact arv [.ren [8] [0]] ⟨rfl, h⟩
  refine nR K (tn 2) ?_
  refine cnd h ?_ ?_<;>intro h
  ·refine VW.join (fun s => s = ⟨[(7, .lf (.ptr 0 0 0 0))], [bx [zi x44, zs x45, zi x46, zi x47, zi x48, zb x49, .v (.sl (.int .i64)) x50] 78]⟩ ∧ F106_j1 N x50 = some r) ?_ ?_
   ·refine nR K (tn 1) <| VW.block <| lop (fun k s => ∃ x162, s = ⟨[(7, .lf (.ptr 0 0 0 0)), (8, hh 1), (13, I x162)], [bx [zi x44, zs x45, zi x46, zi x47, zi x48, zb x49, .v (.sl (.int .i64)) x50] 78, ar 0 (.int .i64) x51 .dp]⟩ ∧ F106_l0 N x50 x51 k x162 = some r) N [.ren [7, 8, 13] [0, 1]] ⟨(0 : Int), rfl, h⟩ ?_
    rintro k169 s ⟨x162, rfl, h⟩
    cases k169 with
    | zero => cases show none = some r from h
    | succ k169 =>
     replace h : F106_l0_b N x50 x51 (F106_l0 N x50 x51 k169) x162 = some r := h
     unfold F106_l0_b at h
     refine sq <| nR K (tn 5) ?_
     refine cnd h ?_ ?_<;>intro h
     ·refine VW.skip <| sq <| VW.block <| sq ?_
      have⟨g173,h⟩:=gS h
      have⟨g174,h⟩:=gS h
      have⟨g175,h⟩:=gS h
      refine dr K [] [] [] [7, 8, 13, 82] [0, 1] (pu 3 (an g173 (pu 2 (an g174 (an g175 (tn 1)))))) trivial ?_
      refine cnd h ?_ ?_<;>intro h
      ·refine nR K (tn 1) ?_
       cases h; exact VW.ret (rt [])
      refine VW.skip <| nE K (tn 3) ?_
      exact aro [.ren [7, 8, 13] [0, 1]] ⟨(wr (x162 + (1 : Int))), rfl, h⟩
     refine VW.exit ?_
     exact arv [.ren [7] [0]] ⟨rfl, h⟩
   rintro s ⟨rfl, h⟩
   unfold F106_j1 at h
   refine nR K (tn 4) ?_
   cases h; exact VW.ret (rt [])
  refine nR K (tn 2) ?_
  refine cnd h ?_ ?_<;>intro h
  ·refine sq <| sq ?_
   have⟨g186,h⟩:=gS h
   have⟨g187,h⟩:=gS h
   rcases Bool.eq_false_or_eq_true (decide (x46 ≥ (x51.getD ((0 : Int).toNat) (Ty.dflt (.int .i64))))) with hb188 | hb188
   ·replace h := cond_t h hb188
    refine dr K [(6, .lit true)] [(6, 0)] [] [8, 111] [1] (pu 3 (an g186 (an g187 (tn 19)))) ⟨qB 94 hb188 K trivial, trivial⟩ ?_
    refine VW.cond (b := true) (by kernel_rfl) (fun _ => ?_) (fun h' => nomatch h')
    refine nR K (tn 1) ?_
    cases h; exact VW.ret (rt [])
   replace h := cond_f h hb188
   have⟨g189,h⟩:=gS h
   have⟨g190,h⟩:=gS h
   rcases Bool.eq_false_or_eq_true (decide (x48 ≥ (x51.getD ((1 : Int).toNat) (Ty.dflt (.int .i64))))) with hb191 | hb191
   ·replace h := cond_t h hb191
    refine dr K [(6, .lit false), (14, .lit true)] [(6, 0), (14, 0)] [] [8, 111] [1] (pu 3 (an g186 (an g187 (pu 5 (an g189 (an g190 (tn 12))))))) ⟨qB 94 hb188 K trivial, qB 102 hb191 K trivial, trivial⟩ ?_
    refine VW.cond (b := true) (by kernel_rfl) (fun _ => ?_) (fun h' => nomatch h')
    refine nR K (tn 1) ?_
    cases h; exact VW.ret (rt [])
   replace h := cond_f h hb191
   have⟨g192,h⟩:=gS h
   have⟨g193,h⟩:=gS h
   have⟨g194,h⟩:=gS h
   have⟨g195,h⟩:=gS h
   refine dr K [(6, .lit false), (14, .lit false)] [(6, 0), (14, 0)] [] [8, 111] [1] (pu 3 (an g186 (an g187 (pu 5 (an g189 (an g190 (pu 4 (an g192 (an g193 (pu 1 (an g194 (an g195 (tn 3))))))))))))) ⟨qB 94 hb188 K trivial, qB 102 hb191 K trivial, trivial⟩ ?_
   refine cnd h ?_ ?_<;>intro h
   ·refine nR K (tn 1) ?_
    cases h; exact VW.ret (rt [])
   refine VW.skip <| sq ?_
   have⟨g196,h⟩:=gS h
   have⟨g197,h⟩:=gS h
   have⟨g198,h⟩:=gS h
   have⟨g199,h⟩:=gS h
   refine dr K [] [] [] [6] [] (pu 1 (an g196 (an g197 (pu 1 (an g198 (an g199 (tn 2))))))) trivial ?_
   cases h; exact VW.ret (rt [])
  refine nR K (tn 2) ?_
  refine cnd h ?_ ?_<;>intro h
  ·refine sq ?_
   have⟨g200,h⟩:=gS h
   have⟨g201,h⟩:=gS h
   have⟨g202,h⟩:=gS h
   have⟨g203,h⟩:=gS h
   refine dr K [] [] [] [8, 127] [1] (pu 1 (an g200 (an g201 (pu 1 (an g202 (an g203 (tn 1))))))) trivial ?_
   refine cnd h ?_ ?_<;>intro h
   ·refine nR K (tn 1) ?_
    cases h; exact VW.ret (rt [])
   refine VW.skip ?_
   exact arv [.ren [8] [0]] ⟨rfl, h⟩
  refine VW.skip ?_
  exact arv [.ren [8] [1]] ⟨rfl, h⟩
 rintro s ⟨rfl, h⟩
 unfold F106_j0 at h
 have⟨g127,h⟩:=gS h
 have⟨g128,h⟩:=gS h
 refine nR K (pu 1 (an g127 (an g128 (tn 1)))) ?_
 cases h; exact VW.ret (rt [])
def F106_r (N : Nat) := loopF (F106_b N) (fun _ _ _ => none)
theorem F106_s N {k} (hk : 0 < k) a0 a1 a2 : F106_r N k a0 a1 a2 = F106_b N (F106_r N (k - 1)) a0 a1 a2 := by cases k;cases hk;rfl
def F106 (N : Nat) : (List Z82) → (List Z76) → Int → Option (Int) := F106_r N N
theorem ok106_k (N : Nat) : ∀ (k : Nat) (a0 : (List Z82)) (a1 : (List Z76)) (a2 : Int) (r : Int), loopF (F106_b N) (fun _ _ _ => none) k a0 a1 a2 = some r → Con prog 106 [Vv (.sl Y82) a0, Vv (.sl Y76) a1, I a2] [.lf (.v (.int .i64) r)]
 | 0, a0, a1, a2, r, h => nomatch (show (none : Option (Int)) = some r from h)
 | k + 1, a0, a1, a2, r, h => ok106_b N _ (ok106_k N k) a0 a1 a2 h
theorem ok106 N a0 a1 a2 {r} (h : F106 N a0 a1 a2 = some r) : Con prog 106 [Vv (.sl Y82) a0, Vv (.sl Y76) a1, I a2] [.lf (.v (.int .i64) r)] := ok106_k N N a0 a1 a2 r h
def F166_j0 (N : Nat) (a0 : ByteArray) (a1 : ByteArray) : Option (Bool) :=
  some (decide ((a0.size : Int) < (a1.size : Int)))
def F166_l0_b (N : Nat) (a0 : ByteArray) (a1 : ByteArray) (nx45 : Int → Option (Bool)) (x36 : Int) : Option (Bool) :=
  cond (decide (x36 < (a0.size : Int))) (cond (decide (x36 < (a1.size : Int))) (gd (InR x36 a0.size) (gd (InR x36 a1.size) (cond (((a0.data.getD x36.toNat 0).toNat : Int) != ((a1.data.getD x36.toNat 0).toNat : Int)) (gd (InR x36 a0.size) (gd (InR x36 a1.size) (some (decide (((a0.data.getD x36.toNat 0).toNat : Int) < ((a1.data.getD x36.toNat 0).toNat : Int)))))) (nx45 (IntKind.i64.wrap (x36 + (1 : Int))))))) (F166_j0 N a0 a1)) (F166_j0 N a0 a1)
def F166_l0 (N : Nat) (a0 : ByteArray) (a1 : ByteArray) := loopF (F166_l0_b N a0 a1) (fun _ => none)
theorem F166_l0_s N a0 a1 {k} (hk : 0 < k) x36 : F166_l0 N a0 a1 k x36 = F166_l0_b N a0 a1 (F166_l0 N a0 a1 (k - 1)) x36 := by cases k;cases hk;rfl
def F166 (N : Nat) (a0 : ByteArray) (a1 : ByteArray) : Option (Bool) :=
  F166_l0 N a0 a1 N (0 : Int)
theorem ok166 N a0 a1 {r} (h : F166 N a0 a1 = some r) : Con prog 166 [S a0, S a1] [.lf (.v .bool r)] := by
 refine ctr [.lf (.v .bool)] K func166 rfl fun w0 E0 ht => ?_
 unfold F166 at h
 show VW _ _ _ _ _ (retQ _ _ _ _) _
 refine nR K (tn 1) ?_
 refine VW.join (fun s => s = ⟨[(0, S a0), (1, S a1)], []⟩ ∧ F166_j0 N a0 a1 = some r) ?_ ?_
 ·refine nR K (tn 1) <| VW.block <| lop (fun k s => ∃ x36, s = ⟨[(0, S a0), (1, S a1), (5, I x36)], []⟩ ∧ F166_l0 N a0 a1 k x36 = some r) N [.ren [0, 1, 5] []] ⟨(0 : Int), rfl, h⟩ ?_
  rintro k45 s ⟨x36, rfl, h⟩
  cases k45 with
  | zero => cases show none = some r from h
  | succ k45 =>
   replace h : F166_l0_b N a0 a1 (F166_l0 N a0 a1 k45) x36 = some r := h
   unfold F166_l0_b at h
   refine sq <| sq <| VW.region <| nG K 5 (tn 5) ?_
   refine spB 10 h ?_ ?_<;>intro h
   ·refine nN K (tn 5) ?_
    refine cnd h ?_ ?_<;>intro h
    ·refine VW.skip <| sq <| VW.block <| sq ?_
     have⟨g50,h⟩:=gS h
     have⟨g51,h⟩:=gS h
     refine dr K [] [] [] [0, 1, 5, 24] [] (pu 2 (an g50 (pu 2 (an g51 (tn 1))))) trivial ?_
     refine cnd h ?_ ?_<;>intro h
     ·refine sq ?_
      have⟨g52,h⟩:=gS h
      have⟨g53,h⟩:=gS h
      refine dr K [] [] [] [4] [] (pu 2 (an g52 (pu 2 (an g53 (tn 2))))) trivial ?_
      cases h; exact VW.ret (rt [])
     refine VW.skip <| nE K (tn 3) ?_
     exact aro [.ren [0, 1, 5] []] ⟨(wr (x36 + (1 : Int))), rfl, h⟩
    refine VW.exit ?_
    exact arv [.ren [0, 1] []] ⟨rfl, h⟩
   refine nN K (tn 5) ?_
   refine VW.cond (b := false) (by kernel_rfl) (fun h' => nomatch h') (fun _ => ?_)
   refine VW.exit ?_
   exact arv [.ren [0, 1] []] ⟨rfl, h⟩
 rintro s ⟨rfl, h⟩
 unfold F166_j0 at h
 refine nR K (tn 6) ?_
 cases h; exact VW.ret (rt [])
def F144_j0 (N : Nat) : Option (Bool) :=
  some true
def F144_j1 (N : Nat) (nx110 : Int → Option (Bool)) (x88 : Int) : Option (Bool) :=
  nx110 (IntKind.i64.wrap (x88 + (1 : Int)))
def F144_l0_b (N : Nat) (a0 : (List Z82)) (nx110 : Int → Option (Bool)) (x88 : Int) : Option (Bool) :=
  cond (decide (x88 < (a0.length : Int))) (gd (InR x88 a0.length) (andO (F146 N ((a0.getD x88.toNat (Ty.dflt Y82)).1)) fun y123 => cond (!y123) (some false) (gd (InR x88 a0.length) (andO (F62 N ((a0.getD x88.toNat (Ty.dflt Y82)).2) (1 : Int) (6 : Int)) fun y126 => cond (!y126) (some false) (cond (decide (x88 > (0 : Int))) (gd (InR (IntKind.i64.wrap (x88 - (1 : Int))) a0.length) (gd (InR x88 a0.length) (andO (F166 N ((a0.getD (IntKind.i64.wrap (x88 - (1 : Int))).toNat (Ty.dflt Y82)).1) ((a0.getD x88.toNat (Ty.dflt Y82)).1)) fun y131 => cond (!y131) (some false) (F144_j1 N nx110 x88)))) (F144_j1 N nx110 x88)))))) (F144_j0 N)
def F144_l0 (N : Nat) (a0 : (List Z82)) := loopF (F144_l0_b N a0) (fun _ => none)
theorem F144_l0_s N a0 {k} (hk : 0 < k) x88 : F144_l0 N a0 k x88 = F144_l0_b N a0 (F144_l0 N a0 (k - 1)) x88 := by cases k;cases hk;rfl
def F144 (N : Nat) (a0 : (List Z82)) : Option (Bool) :=
  cond (decide ((a0.length : Int) > (8 : Int))) (some false) (F144_l0 N a0 N (0 : Int))
theorem ok144 N a0 {r} (h : F144 N a0 = some r) : Con prog 144 [Vv (.sl Y82) a0] [.lf (.v .bool r)] := by
 refine ctr [.lf (.v .bool)] K func144 rfl fun w0 E0 ht => ?_
 unfold F144 at h
 show VW _ _ _ _ _ (retQ _ _ _ _) _
 refine nR K (tn 1) <| sq <| nR K (tn 3) ?_
 refine cnd h ?_ ?_<;>intro h
 ·refine nR K (tn 1) ?_
  cases h; exact VW.ret (rt [])
 refine VW.skip ?_
 refine VW.join (fun s => s = ⟨[], []⟩ ∧ F144_j0 N = some r) ?_ ?_
 ·refine nR K (tn 1) <| VW.block <| lop (fun k s => ∃ x88, s = ⟨[(0, Vv (.sl Y82) a0), (3, I x88)], []⟩ ∧ F144_l0 N a0 k x88 = some r) N [.ren [0, 3] []] ⟨(0 : Int), rfl, h⟩ ?_
  rintro k110 s ⟨x88, rfl, h⟩
  cases k110 with
  | zero => cases show none = some r from h
  | succ k110 =>
   replace h : F144_l0_b N a0 (F144_l0 N a0 k110) x88 = some r := h
   unfold F144_l0_b at h
   refine sq <| nR K (tn 4) ?_
   refine cnd h ?_ ?_<;>intro h
   ·refine VW.skip ?_
    refine VW.join (fun s => s = ⟨[(0, Vv (.sl Y82) a0), (3, I x88)], []⟩ ∧ F144_j1 N (F144_l0 N a0 k110) x88 = some r) ?_ ?_
    ·refine VW.block <| sq ?_
     have⟨g122,h⟩:=gS h
     have⟨y123,hy123,h⟩:=aS h
     rcases Bool.eq_false_or_eq_true (!y123) with hb124 | hb124
     ·replace h := cond_t h hb124
      refine dr K [(5, .cl [] (some 18) [.lf (.v .bool y123)]), (7, .lit true)] [(5, 0), (7, 0)] [] [0, 3, 47] [] (pu 2 (an g122 (tn 32))) ⟨qC false [.t .str] [] [] (some 18) K (ok146 N _ hy123), qB 20 hb124 K trivial, trivial⟩ ?_
      refine VW.cond (b := true) (by kernel_rfl) (fun _ => ?_) (fun h' => nomatch h')
      refine nR K (tn 1) ?_
      cases h; exact VW.ret (rt [])
     replace h := cond_f h hb124
     have⟨g125,h⟩:=gS h
     have⟨y126,hy126,h⟩:=aS h
     rcases Bool.eq_false_or_eq_true (!y126) with hb127 | hb127
     ·replace h := cond_t h hb127
      refine dr K [(5, .cl [] (some 18) [.lf (.v .bool y123)]), (7, .lit false), (13, .cl [] (some 26) [.lf (.v .bool y126)]), (16, .lit true)] [(5, 0), (7, 0), (13, 0), (16, 0)] [] [0, 3, 47] [] (pu 2 (an g122 (pu 7 (an g125 (tn 24))))) ⟨qC false [.t .str] [] [] (some 18) K (ok146 N _ hy123), qB 20 hb124 K trivial, qC false [.t (.int .i64), .t (.int .i64), .t (.int .i64)] [] [] (some 26) K (ok62 N _ _ _ hy126), qB 29 hb127 K trivial, trivial⟩ ?_
      refine VW.cond (b := true) (by kernel_rfl) (fun _ => ?_) (fun h' => nomatch h')
      refine nR K (tn 1) ?_
      cases h; exact VW.ret (rt [])
     replace h := cond_f h hb127
     rcases Bool.eq_false_or_eq_true (decide (x88 > (0 : Int))) with hb128 | hb128
     ·replace h := cond_t h hb128
      have⟨g129,h⟩:=gS h
      have⟨g130,h⟩:=gS h
      have⟨y131,hy131,h⟩:=aS h
      refine dr K [(5, .cl [] (some 18) [.lf (.v .bool y123)]), (7, .lit false), (13, .cl [] (some 26) [.lf (.v .bool y126)]), (16, .lit false), (19, .lit true), (31, .cl [] (some 44) [.lf (.v .bool y131)])] [(5, 0), (7, 0), (13, 0), (16, 0), (19, 0), (31, 0)] [] [0, 3, 47] [] (pu 2 (an g122 (pu 7 (an g125 (pu 12 (an g129 (pu 4 (an g130 (tn 6))))))))) ⟨qC false [.t .str] [] [] (some 18) K (ok146 N _ hy123), qB 20 hb124 K trivial, qC false [.t (.int .i64), .t (.int .i64), .t (.int .i64)] [] [] (some 26) K (ok62 N _ _ _ hy126), qB 29 hb127 K trivial, qB 32 hb128 K trivial, qC false [.t .str, .t .str] [] [] (some 44) K (ok166 N _ _ hy131), trivial⟩ ?_
      refine cnd h ?_ ?_<;>intro h
      ·refine nR K (tn 1) ?_
       cases h; exact VW.ret (rt [])
      refine VW.skip ?_
      exact arv [.ren [0, 3] []] ⟨rfl, h⟩
     replace h := cond_f h hb128
     refine dr K [(5, .cl [] (some 18) [.lf (.v .bool y123)]), (7, .lit false), (13, .cl [] (some 26) [.lf (.v .bool y126)]), (16, .lit false), (19, .lit false)] [(5, 0), (7, 0), (13, 0), (16, 0), (19, 0)] [] [0, 3, 47] [] (pu 2 (an g122 (pu 7 (an g125 (tn 24))))) ⟨qC false [.t .str] [] [] (some 18) K (ok146 N _ hy123), qB 20 hb124 K trivial, qC false [.t (.int .i64), .t (.int .i64), .t (.int .i64)] [] [] (some 26) K (ok62 N _ _ _ hy126), qB 29 hb127 K trivial, qB 32 hb128 K trivial, trivial⟩ ?_
     refine VW.cond (b := false) (by kernel_rfl) (fun h' => nomatch h') (fun _ => ?_)
     refine VW.skip ?_
     exact arv [.ren [0, 3] []] ⟨rfl, h⟩
    rintro s ⟨rfl, h⟩
    unfold F144_j1 at h
    refine nE K (tn 3) ?_
    exact aro [.ren [0, 3] []] ⟨(wr (x88 + (1 : Int))), rfl, h⟩
   refine VW.exit ?_
   exact arv [.ren [] []] ⟨rfl, h⟩
 rintro s ⟨rfl, h⟩
 unfold F144_j0 at h
 refine nR K (tn 1) ?_
 cases h; exact VW.ret (rt [])
def F104 (N : Nat) (a0 : (List Z82)) (a1 : (List Z76)) : Option (Int) :=
  andO (F144 N a0) fun y3 => cond (!y3) (some (-1 : Int)) (andO (F67 N a1) fun y4 => cond (!y4) (some (-1 : Int)) (andO (F106 N a0 a1 (0 : Int)) fun y5 => some y5))
theorem ok104 N a0 a1 {r} (h : F104 N a0 a1 = some r) : Con prog 104 [Vv (.sl Y82) a0, Vv (.sl Y76) a1] [.lf (.v (.int .i64) r)] := by
 refine ctr [.lf (.v (.int .i64))] K func104 rfl fun w0 E0 ht => ?_
 unfold F104 at h
 show VW _ _ _ _ _ (retQ _ _ _ _) _
 refine nR K (tn 1) <| sq <| sq <| VW.region <| nG K 1 (tn 1) ?_
 have⟨y3,hy,h⟩:=aS h
 refine cal false [.t (.sl Y82)] [] (some 6) K (ok144 N _ hy) <| nG K 2 (tn 2) ?_
 refine spB 8 h ?_ ?_<;>intro h
 ·refine nN K (tn 4) ?_
  refine VW.cond (b := true) (by kernel_rfl) (fun _ => ?_) (fun h' => nomatch h')
  refine nR K (tn 1) ?_
  cases h; exact VW.ret (rt [])
 refine nG K 1 (tn 1) <| VO.on (j := 3) (want := false) (d := 8) (b := false) rfl rfl rfl (by kernel_rfl) rfl ?_
 have⟨y4,hy,h⟩:=aS h
 refine cal false [.t (.sl Y76)] [] (some 10) K (ok67 N _ hy) <| nN K (tn 2) ?_
 refine cnd h ?_ ?_<;>intro h
 ·refine sR K [4] [] ⟨[(4, I (-1 : Int))], []⟩ (tn 1) ?_
  cases h; exact VW.ret (rt [])
 refine VW.skip <| sq <| VW.region <| sG K 2 [13, 14] [] ⟨[(13, Vv (.sl Y82) a0), (14, Vv (.sl Y76) a1)], []⟩ (tn 2) ?_
 have⟨y5,hy,h⟩:=aS h
 refine cal false [.t (.sl Y82), .t (.sl Y76), .t (.int .i64)] [] (some 15) K (ok106 N _ _ _ hy) <| nN K (tn 1) ?_
 cases h; exact VW.ret (rt [])
def F61 (N : Nat) (a0 : (List Z82)) (a1 : (List Z76)) : Option (Bool) :=
  andO (F104 N a0 a1) fun y1 => some (y1 != (-1 : Int))
theorem ok61 N a0 a1 {r} (h : F61 N a0 a1 = some r) : Con prog 61 [Vv (.sl Y82) a0, Vv (.sl Y76) a1] [.lf (.v .bool r)] := by
 refine ctr [.lf (.v .bool)] K func61 rfl fun w0 E0 ht => ?_
 unfold F61 at h
 show VW _ _ _ _ _ (retQ _ _ _ _) _
 refine nR K (tn 1) <| sq <| VW.region <| nG K 2 (tn 2) ?_
 have⟨y1,hy,h⟩:=aS h
 refine cal false [.t (.sl Y82), .t (.sl Y76)] [] (some 7) K (ok104 N _ _ hy) <| nN K (tn 2) ?_
 cases h; exact VW.ret (rt [])
def F63 (N : Nat) (a0 : Int) : Option (Int × Int) :=
  gd (InR a0 ([(1 : Int), (1 : Int), (6 : Int), (5 : Int), (1 : Int), (1 : Int), (1 : Int), (7 : Int), (2 : Int), (6 : Int), (1 : Int), (7 : Int)]).length) (gd (a0.toNat < ([(1 : Int), (1 : Int), (6 : Int), (5 : Int), (1 : Int), (1 : Int), (1 : Int), (7 : Int), (2 : Int), (6 : Int), (1 : Int), (7 : Int)]).length) (gd (InR a0 ([(1 : Int), (5 : Int), (6 : Int), (5 : Int), (4 : Int), (3 : Int), (3 : Int), (7 : Int), (2 : Int), (2 : Int), (2 : Int), (5 : Int)]).length) (gd (a0.toNat < ([(1 : Int), (5 : Int), (6 : Int), (5 : Int), (4 : Int), (3 : Int), (3 : Int), (7 : Int), (2 : Int), (2 : Int), (2 : Int), (5 : Int)]).length) (some ((([(1 : Int), (1 : Int), (6 : Int), (5 : Int), (1 : Int), (1 : Int), (1 : Int), (7 : Int), (2 : Int), (6 : Int), (1 : Int), (7 : Int)]).getD a0.toNat (Ty.dflt (.int .i64))), (([(1 : Int), (5 : Int), (6 : Int), (5 : Int), (4 : Int), (3 : Int), (3 : Int), (7 : Int), (2 : Int), (2 : Int), (2 : Int), (5 : Int)]).getD a0.toNat (Ty.dflt (.int .i64))))))))
theorem ok63 N a0 {r} (h : F63 N a0 = some r) : Con prog 63 [I a0] [.lf (.v (.int .i64) r.1), .lf (.v (.int .i64) r.2)] := by
 refine ctr [.lf (.v (.int .i64)), .lf (.v (.int .i64))] K func63 rfl fun w0 E0 ht => ?_
 unfold F63 at h
 show VW _ _ _ _ _ (retQ _ _ _ _) _
 refine nR K (tn 2) <| nR K (tn 2) <| nR K (tn 2) <| sq ?_
 have⟨g1,h⟩:=gS h
 have⟨g2,h⟩:=gS h
 have⟨g3,h⟩:=gS h
 have⟨g4,h⟩:=gS h
 refine dr K [] [] [] [2, 3] [] (pu 2 (an g1 (an g2 (pu 2 (an g3 (an g4 (tn 2))))))) trivial ?_
 cases h; exact VW.ret (rt [])
def F66_j0 (N : Nat) (x22 : (List Z76)) : Option ((List Z76)) :=
  some x22
def F66_l0_b (N : Nat) (a0 : (List (List Z76))) (nx38 : (List Z76) → Int → Option ((List Z76))) (x30 : (List Z76)) (x31 : Int) : Option ((List Z76)) :=
  cond (decide (x31 < (a0.length : Int))) (gd (InR x31 a0.length) (andO (F60 N (a0.getD x31.toNat (Ty.dflt (.sl Y76)))) fun y43 => gd (x30.length + y43.length ≤ lim Y76) (nx38 (x30 ++ y43) (IntKind.i64.wrap (x31 + (1 : Int)))))) (F66_j0 N x30)
def F66_l0 (N : Nat) (a0 : (List (List Z76))) := loopF (F66_l0_b N a0) (fun _ _ => none)
theorem F66_l0_s N a0 {k} (hk : 0 < k) x30 x31 : F66_l0 N a0 k x30 x31 = F66_l0_b N a0 (F66_l0 N a0 (k - 1)) x30 x31 := by cases k;cases hk;rfl
def F66 (N : Nat) (a0 : (List (List Z76))) : Option ((List Z76)) :=
  F66_l0 N a0 N ([]) (0 : Int)
theorem ok66 N a0 {r} (h : F66 N a0 = some r) : Con prog 66 [Vv (.sl (.sl Y76)) a0] [.lf (.own Y76 r .tp)] := by
 refine ctr [.lf (.own Y76 .tp)] K func66 rfl fun w0 E0 ht => ?_
 unfold F66 at h
 show VW _ _ _ _ _ (retQ _ _ _ _) _
 refine nR K (tn 1) <| nR K (tn 2) ?_
 refine VW.join (fun s => ∃ x22, s = ⟨[(3, hh 0)], [ar 0 Y76 x22 .tp]⟩ ∧ F66_j0 N x22 = some r) ?_ ?_
 ·refine nR K (tn 1) <| VW.block <| lop (fun k s => ∃ x30 x31, s = ⟨[(0, Vv (.sl (.sl Y76)) a0), (3, hh 0), (4, I x31)], [ar 0 Y76 x30 .tp]⟩ ∧ F66_l0 N a0 k x30 x31 = some r) N [.nilS 3 Y76 .tp, .ren [0, 3, 4] [0]] ⟨[], (0 : Int), rfl, h⟩ ?_
  rintro k38 s ⟨x30, x31, rfl, h⟩
  cases k38 with
  | zero => cases show none = some r from h
  | succ k38 =>
   replace h : F66_l0_b N a0 (F66_l0 N a0 k38) x30 x31 = some r := h
   unfold F66_l0_b at h
   refine sq <| nR K (tn 4) ?_
   refine cnd h ?_ ?_<;>intro h
   ·refine VW.skip <| sq <| VW.block <| VW.region ?_
    have⟨g42,h⟩:=gS h
    refine nG K 5 (pu 3 (an g42 (tn 1))) ?_
    have⟨y43,hy,h⟩:=aS h
    refine cal false [.t (.sl Y76)] [] (some 17) K (ok60 N _ hy) <| VO.ghl [.frz 1] ?_
    have⟨g44,h⟩:=gS h
    refine nN K (an g44 (tn 1)) <| nE K (tn 3) ?_
    exact aro [.ren [0, 3, 4] [0]] ⟨(x30 ++ y43), (wr (x31 + (1 : Int))), rfl, h⟩
   refine VW.exit ?_
   exact arv [.ren [3] [0]] ⟨x30, rfl, h⟩
 rintro s ⟨x22, rfl, h⟩
 unfold F66_j0 at h
 refine nR K (tn 2) ?_
 cases h; exact VW.ret (rt [some 0])
def F64_j0 (N : Nat) (x77 : Int) (x78 : ByteArray) (x79 : Int) (x80 : Int) (x81 : Int) (x82 : Bool) (x83 : (List Int)) (x84 : Int) (x85 : ByteArray) (x86 : Int) (x87 : Int) (x88 : Int) (x89 : Bool) (x90 : (List Int)) (x91 : (List (List Z76))) : Option ((List Z76) × Bool) :=
  gd (InR x79 x90.length) (gd (InR (0 : Int) x91.length) (gd ((0 : Int).toNat < x91.length) (andO (F66 N ([[(x84, (x85, (x86, (x87, (x88, (x89, x90))))))], [(x77, (x78, ((x90.getD x79.toNat (Ty.dflt (.int .i64))), (x80, (x81, (x82, x83))))))], (x91.getD ((0 : Int).toNat) (Ty.dflt (.sl Y76)))])) fun y183 => some (y183, true))))
def F64_j1 (N : Nat) (x84 : Int) (x85 : ByteArray) (x86 : Int) (x87 : Int) (x89 : Bool) (x90 : (List Int)) (x91 : (List (List Z76))) (x189 : Int) : Option ((List Z76) × Bool) :=
  gd (InR (0 : Int) x91.length) (gd ((0 : Int).toNat < x91.length) (andO (F66 N ([[(x84, (x85, (x86, (x87, (x189, (x89, x90))))))], (x91.getD ((0 : Int).toNat) (Ty.dflt (.sl Y76)))])) fun y192 => some (y192, true)))
def F64_j2 (N : Nat) (x77 : Int) (x78 : ByteArray) (x79 : Int) (x80 : Int) (x81 : Int) (x82 : Bool) (x91 : (List (List Z76))) (x245 : (List Int)) : Option ((List Z76) × Bool) :=
  gd (InR (0 : Int) x91.length) (gd ((0 : Int).toNat < x91.length) (andO (F66 N ([[(x77, (x78, (x79, (x80, (x81, (x82, x245))))))], (x91.getD ((0 : Int).toNat) (Ty.dflt (.sl Y76)))])) fun y248 => some (y248, true)))
def F64_l0_b (N : Nat) (x77 : Int) (x78 : ByteArray) (x79 : Int) (x80 : Int) (x81 : Int) (x82 : Bool) (x83 : (List Int)) (x90 : (List Int)) (x91 : (List (List Z76))) (nx264 : (List Int) → Int → Option ((List Z76) × Bool)) (x256 : (List Int)) (x257 : Int) : Option ((List Z76) × Bool) :=
  cond (decide (x257 < (x83.length : Int))) (gd (InR x257 x83.length) (gd (InR (x83.getD x257.toNat (Ty.dflt (.int .i64))) x90.length) (gd (x256.length + ([(x90.getD (x83.getD x257.toNat (Ty.dflt (.int .i64))).toNat (Ty.dflt (.int .i64)))]).length ≤ lim (.int .i64)) (nx264 (x256 ++ ([(x90.getD (x83.getD x257.toNat (Ty.dflt (.int .i64))).toNat (Ty.dflt (.int .i64)))])) (IntKind.i64.wrap (x257 + (1 : Int))))))) (F64_j2 N x77 x78 x79 x80 x81 x82 x91 x256)
def F64_l0 (N : Nat) (x77 : Int) (x78 : ByteArray) (x79 : Int) (x80 : Int) (x81 : Int) (x82 : Bool) (x83 : (List Int)) (x90 : (List Int)) (x91 : (List (List Z76))) := loopF (F64_l0_b N x77 x78 x79 x80 x81 x82 x83 x90 x91) (fun _ _ => none)
theorem F64_l0_s N x77 x78 x79 x80 x81 x82 x83 x90 x91 {k} (hk : 0 < k) x256 x257 : F64_l0 N x77 x78 x79 x80 x81 x82 x83 x90 x91 k x256 x257 = F64_l0_b N x77 x78 x79 x80 x81 x82 x83 x90 x91 (F64_l0 N x77 x78 x79 x80 x81 x82 x83 x90 x91 (k - 1)) x256 x257 := by cases k;cases hk;rfl
def F64_j3 (N : Nat) (a0 : (List Z82)) (a1 : (List Z76)) (a2 : Int) (x77 : Int) (x78 : ByteArray) (x79 : Int) (x80 : Int) (x81 : Int) (x82 : Bool) (x83 : (List Int)) (x84 : Int) (x85 : ByteArray) (x86 : Int) (x87 : Int) (x88 : Int) (x89 : Bool) (x90 : (List Int)) (x91 : (List (List Z76))) (y3 : (List Int)) (x202 : Bool) : Option ((List Z76) × Bool) :=
  cond x202 (gd (InR (0 : Int) y3.length) (gd ((0 : Int).toNat < y3.length) (andO (F106 N a0 a1 (y3.getD ((0 : Int).toNat) (Ty.dflt (.int .i64)))) fun y205 => cond (a2 == (5 : Int)) (gd (InR (0 : Int) x91.length) (gd ((0 : Int).toNat < x91.length) (gd (InR (1 : Int) x91.length) (gd ((1 : Int).toNat < x91.length) (andO (F66 N ([[(x84, (x85, (x86, (x87, (x88, (x89, x90))))))], [(x77, (x78, (x79, (x80, (x81, (x82, x83))))))], (x91.getD ((0 : Int).toNat) (Ty.dflt (.sl Y76))), (x91.getD ((1 : Int).toNat) (Ty.dflt (.sl Y76)))])) fun y215 => some (y215, (decide (x79 < y205)))))))) (gd (InR (0 : Int) x91.length) (gd ((0 : Int).toNat < x91.length) (gd (InR (1 : Int) x91.length) (gd ((1 : Int).toNat < x91.length) (andO (F66 N ([[(x84, (x85, (x86, (x87, (x88, (x89, x90))))))], (x91.getD ((0 : Int).toNat) (Ty.dflt (.sl Y76))), [(x77, (x78, ((IntKind.i64.wrap (x79 - y205)), (x80, (x81, (x82, x83))))))], (x91.getD ((1 : Int).toNat) (Ty.dflt (.sl Y76)))])) fun y220 => some (y220, (decide ((IntKind.i64.wrap (x79 - y205)) ≥ (0 : Int)))))))))))) (cond (a2 == (7 : Int)) (gd (InR (0 : Int) x91.length) (gd ((0 : Int).toNat < x91.length) (andO (F66 N ([[(x84, (x85, (x86, (x87, (x88, (x89, x90))))))], (x91.getD ((0 : Int).toNat) (Ty.dflt (.sl Y76)))])) fun y223 => some (y223, true)))) (cond (a2 == (8 : Int)) (F64_l0 N x77 x78 x79 x80 x81 x82 x83 x90 x91 N ([]) (0 : Int)) (F64_j0 N x77 x78 x79 x80 x81 x82 x83 x84 x85 x86 x87 x88 x89 x90 x91)))
def F64_j4 (N : Nat) (a0 : (List Z82)) (a1 : (List Z76)) (a2 : Int) (x77 : Int) (x78 : ByteArray) (x79 : Int) (x80 : Int) (x81 : Int) (x82 : Bool) (x83 : (List Int)) (x84 : Int) (x85 : ByteArray) (x86 : Int) (x87 : Int) (x88 : Int) (x89 : Bool) (x90 : (List Int)) (x91 : (List (List Z76))) (y3 : (List Int)) (x185 : Bool) : Option ((List Z76) × Bool) :=
  cond x185 (gd (InR (0 : Int) x91.length) (gd ((0 : Int).toNat < x91.length) (andO (F66 N ([[(x84, (x85, (x86, (x87, (x88, (x89, x90))))))], [(x77, (x78, (x79, (x80, (x81, (x82, x83))))))], (x91.getD ((0 : Int).toNat) (Ty.dflt (.sl Y76)))])) fun y188 => some (y188, true)))) (cond (a2 == (2 : Int)) (cond x82 (some ([], false)) (cond x89 (some ([], false)) (cond (decide (x81 < x88)) (F64_j1 N x84 x85 x86 x87 x89 x90 x91 x81) (F64_j1 N x84 x85 x86 x87 x89 x90 x91 x88)))) (cond (a2 == (3 : Int)) (gd (InR (0 : Int) x91.length) (gd ((0 : Int).toNat < x91.length) (andO (F66 N ([[(x84, (x85, (x86, (x87, (x88, (x89, x90))))))], (x91.getD ((0 : Int).toNat) (Ty.dflt (.sl Y76)))])) fun y196 => some (y196, (x79 == x86))))) (cond (a2 == (4 : Int)) (gd (InR (0 : Int) x91.length) (gd ((0 : Int).toNat < x91.length) (gd (InR (1 : Int) x91.length) (gd ((1 : Int).toNat < x91.length) (andO (F66 N ([[(x84, (x85, (x86, (x87, (x88, (x89, x90))))))], [(x77, (x78, (x79, (x80, (x81, (x82, x83))))))], (x91.getD ((0 : Int).toNat) (Ty.dflt (.sl Y76))), [(x77, (x78, (x79, (x80, (x81, (x82, x83))))))], (x91.getD ((1 : Int).toNat) (Ty.dflt (.sl Y76)))])) fun y201 => some (y201, true)))))) (cond (a2 == (5 : Int)) (F64_j3 N a0 a1 a2 x77 x78 x79 x80 x81 x82 x83 x84 x85 x86 x87 x88 x89 x90 x91 y3 (a2 == (5 : Int))) (F64_j3 N a0 a1 a2 x77 x78 x79 x80 x81 x82 x83 x84 x85 x86 x87 x88 x89 x90 x91 y3 (a2 == (6 : Int)))))))
def F64_j5 (N : Nat) (a0 : (List Z82)) (a1 : (List Z76)) (a2 : Int) (y3 : (List Int)) (x77 : Int) (x78 : ByteArray) (x79 : Int) (x80 : Int) (x81 : Int) (x82 : Bool) (x83 : (List Int)) (x84 : Int) (x85 : ByteArray) (x86 : Int) (x87 : Int) (x88 : Int) (x89 : Bool) (x90 : (List Int)) (x91 : (List (List Z76))) : Option ((List Z76) × Bool) :=
  cond (a2 == (0 : Int)) (F64_j4 N a0 a1 a2 x77 x78 x79 x80 x81 x82 x83 x84 x85 x86 x87 x88 x89 x90 x91 y3 (a2 == (0 : Int))) (cond (a2 == (1 : Int)) (F64_j4 N a0 a1 a2 x77 x78 x79 x80 x81 x82 x83 x84 x85 x86 x87 x88 x89 x90 x91 y3 (a2 == (1 : Int))) (cond (a2 == (9 : Int)) (F64_j4 N a0 a1 a2 x77 x78 x79 x80 x81 x82 x83 x84 x85 x86 x87 x88 x89 x90 x91 y3 (a2 == (9 : Int))) (F64_j4 N a0 a1 a2 x77 x78 x79 x80 x81 x82 x83 x84 x85 x86 x87 x88 x89 x90 x91 y3 (a2 == (11 : Int)))))
def F64_l1_b (N : Nat) (a0 : (List Z82)) (a1 : (List Z76)) (a2 : Int) (y3 : (List Int)) (nx332 : Int → ByteArray → Int → Int → Int → Bool → (List Int) → Int → ByteArray → Int → Int → Int → Bool → (List Int) → (List (List Z76)) → Int → Option ((List Z76) × Bool)) (x302 : Int) (x303 : ByteArray) (x304 : Int) (x305 : Int) (x306 : Int) (x307 : Bool) (x308 : (List Int)) (x309 : Int) (x310 : ByteArray) (x311 : Int) (x312 : Int) (x313 : Int) (x314 : Bool) (x315 : (List Int)) (x316 : (List (List Z76))) (x317 : Int) : Option ((List Z76) × Bool) :=
  cond (decide (x317 < (y3.length : Int))) (gd (InR x317 y3.length) (gd (x317.toNat < y3.length) (andO (F65 N a1 (y3.getD x317.toNat (Ty.dflt (.int .i64))) (10 : Int)) fun y342 => gd (InR x317 y3.length) (gd (x317.toNat < y3.length) (gd (0 ≤ (y3.getD x317.toNat (Ty.dflt (.int .i64))) ∧ (y3.getD x317.toNat (Ty.dflt (.int .i64))) ≤ y342.1 ∧ y342.1 ≤ (a1.length : Int)) (gd (x316.length + ([((a1.take y342.1.toNat).drop (y3.getD x317.toNat (Ty.dflt (.int .i64))).toNat)]).length ≤ lim (.sl Y76)) (nx332 x302 x303 x304 x305 x306 x307 x308 x309 x310 x311 x312 x313 x314 x315 (x316 ++ ([((a1.take y342.1.toNat).drop (y3.getD x317.toNat (Ty.dflt (.int .i64))).toNat)])) (IntKind.i64.wrap (x317 + (1 : Int)))))))))) (F64_j5 N a0 a1 a2 y3 x302 x303 x304 x305 x306 x307 x308 x309 x310 x311 x312 x313 x314 x315 x316)
def F64_l1 (N : Nat) (a0 : (List Z82)) (a1 : (List Z76)) (a2 : Int) (y3 : (List Int)) := loopF (F64_l1_b N a0 a1 a2 y3) (fun _ _ _ _ _ _ _ _ _ _ _ _ _ _ _ _ => none)
theorem F64_l1_s N a0 a1 a2 y3 {k} (hk : 0 < k) x302 x303 x304 x305 x306 x307 x308 x309 x310 x311 x312 x313 x314 x315 x316 x317 : F64_l1 N a0 a1 a2 y3 k x302 x303 x304 x305 x306 x307 x308 x309 x310 x311 x312 x313 x314 x315 x316 x317 = F64_l1_b N a0 a1 a2 y3 (F64_l1 N a0 a1 a2 y3 (k - 1)) x302 x303 x304 x305 x306 x307 x308 x309 x310 x311 x312 x313 x314 x315 x316 x317 := by cases k;cases hk;rfl
def F64 (N : Nat) (a0 : (List Z82)) (a1 : (List Z76)) (a2 : Int) (a3 : Int) : Option ((List Z76) × Bool) :=
  gd (InR a3 a1.length) (gd (InR (IntKind.i64.wrap (a3 + (1 : Int))) a1.length) (andO (F105 N a1 (IntKind.i64.wrap (a3 + (1 : Int)))) fun y3 => F64_l1 N a0 a1 a2 y3 N ((a1.getD a3.toNat (Ty.dflt Y76)).1) ((a1.getD a3.toNat (Ty.dflt Y76)).2.1) ((a1.getD a3.toNat (Ty.dflt Y76)).2.2.1) ((a1.getD a3.toNat (Ty.dflt Y76)).2.2.2.1) ((a1.getD a3.toNat (Ty.dflt Y76)).2.2.2.2.1) ((a1.getD a3.toNat (Ty.dflt Y76)).2.2.2.2.2.1) ((a1.getD a3.toNat (Ty.dflt Y76)).2.2.2.2.2.2) ((a1.getD (IntKind.i64.wrap (a3 + (1 : Int))).toNat (Ty.dflt Y76)).1) ((a1.getD (IntKind.i64.wrap (a3 + (1 : Int))).toNat (Ty.dflt Y76)).2.1) ((a1.getD (IntKind.i64.wrap (a3 + (1 : Int))).toNat (Ty.dflt Y76)).2.2.1) ((a1.getD (IntKind.i64.wrap (a3 + (1 : Int))).toNat (Ty.dflt Y76)).2.2.2.1) ((a1.getD (IntKind.i64.wrap (a3 + (1 : Int))).toNat (Ty.dflt Y76)).2.2.2.2.1) ((a1.getD (IntKind.i64.wrap (a3 + (1 : Int))).toNat (Ty.dflt Y76)).2.2.2.2.2.1) ((a1.getD (IntKind.i64.wrap (a3 + (1 : Int))).toNat (Ty.dflt Y76)).2.2.2.2.2.2) ([]) (0 : Int)))
theorem ok64 N a0 a1 a2 a3 {r} (h : F64 N a0 a1 a2 a3 = some r) : Con prog 64 [Vv (.sl Y82) a0, Vv (.sl Y76) a1, I a2, I a3] [.lf (.own Y76 r.1 .tp), .lf (.v .bool r.2)] := by
 refine ctr [.lf (.own Y76 .tp), .lf (.v .bool)] K func64 rfl fun w0 E0 ht => ?_
 unfold F64 at h
 show VW _ _ _ _ _ (retQ _ _ _ _) _
 refine nR K (tn 2) ?_
 have⟨g1,h⟩:=gS h
 refine nR K (pu 2 (an g1 (tn 3))) ?_
 have⟨g2,h⟩:=gS h
 refine nR K (pu 3 (an g2 (tn 3))) <| sq <| VW.region <| nG K 3 (tn 3) ?_
 have⟨y3,hy,h⟩:=aS h
 refine cal false [.t (.sl Y76), .t (.int .i64)] [] (some 32) K (ok105 N _ _ hy) <| nN K (tn 1) <| sRh K [0, 1, 2, 10, 11, 12, 13] [0, 1, 2] [(0, Vv (.sl Y82) a0), (1, Vv (.sl Y76) a1), (2, I a2), (10, .lf (.ptr 0 0 0 0)), (11, .lf (.ptr 1 0 0 0)), (12, hh 2), (13, .lf (.nil))] (tn 2) ?_
 refine VW.join (fun s => ∃ x77 x78 x79 x80 x81 x82 x83 x84 x85 x86 x87 x88 x89 x90 x91, s = ⟨[(0, Vv (.sl Y82) a0), (1, Vv (.sl Y76) a1), (2, I a2), (10, .lf (.ptr 0 0 0 0)), (11, .lf (.ptr 1 0 0 0)), (12, hh 2), (13, hh 3)], [bx [zi x77, zs x78, zi x79, zi x80, zi x81, zb x82, .v (.sl (.int .i64)) x83] 78, bx [zi x84, zs x85, zi x86, zi x87, zi x88, zb x89, .v (.sl (.int .i64)) x90] 78, ar 0 (.int .i64) y3 .dp, ar 0 (.sl Y76) x91 .tp]⟩ ∧ F64_j5 N a0 a1 a2 y3 x77 x78 x79 x80 x81 x82 x83 x84 x85 x86 x87 x88 x89 x90 x91 = some r) ?_ ?_
 ·refine nR K (tn 1) <| VW.block <| lop (fun k s => ∃ x302 x303 x304 x305 x306 x307 x308 x309 x310 x311 x312 x313 x314 x315 x316 x317, s = ⟨[(0, Vv (.sl Y82) a0), (1, Vv (.sl Y76) a1), (2, I a2), (10, .lf (.ptr 0 0 0 0)), (11, .lf (.ptr 1 0 0 0)), (12, hh 2), (13, hh 3), (14, I x317)], [bx [zi x302, zs x303, zi x304, zi x305, zi x306, zb x307, .v (.sl (.int .i64)) x308] 78, bx [zi x309, zs x310, zi x311, zi x312, zi x313, zb x314, .v (.sl (.int .i64)) x315] 78, ar 0 (.int .i64) y3 .dp, ar 0 (.sl Y76) x316 .tp]⟩ ∧ F64_l1 N a0 a1 a2 y3 k x302 x303 x304 x305 x306 x307 x308 x309 x310 x311 x312 x313 x314 x315 x316 x317 = some r) N [.nilS 13 (.sl Y76) .tp, .ren [0, 1, 2, 10, 11, 12, 13, 14] [0, 1, 2, 3]] ⟨(a1.getD a3.toNat D76).1, (a1.getD a3.toNat D76).2.1, (a1.getD a3.toNat D76).2.2.1, (a1.getD a3.toNat D76).2.2.2.1, (a1.getD a3.toNat D76).2.2.2.2.1, (a1.getD a3.toNat D76).2.2.2.2.2.1, (a1.getD a3.toNat D76).2.2.2.2.2.2, (a1.getD (wr (a3 + (1 : Int))).toNat D76).1, (a1.getD (wr (a3 + (1 : Int))).toNat D76).2.1, (a1.getD (wr (a3 + (1 : Int))).toNat D76).2.2.1, (a1.getD (wr (a3 + (1 : Int))).toNat D76).2.2.2.1, (a1.getD (wr (a3 + (1 : Int))).toNat D76).2.2.2.2.1, (a1.getD (wr (a3 + (1 : Int))).toNat D76).2.2.2.2.2.1, (a1.getD (wr (a3 + (1 : Int))).toNat D76).2.2.2.2.2.2, [], (0 : Int), rfl, h⟩ ?_
  rintro k332 s ⟨x302, x303, x304, x305, x306, x307, x308, x309, x310, x311, x312, x313, x314, x315, x316, x317, rfl, h⟩
  cases k332 with
  | zero => cases show none = some r from h
  | succ k332 =>
   replace h : F64_l1_b N a0 a1 a2 y3 (F64_l1 N a0 a1 a2 y3 k332) x302 x303 x304 x305 x306 x307 x308 x309 x310 x311 x312 x313 x314 x315 x316 x317 = some r := h
   unfold F64_l1_b at h
   refine sq <| nR K (tn 4) ?_
   refine cnd h ?_ ?_<;>intro h
   ·refine VW.skip <| sq <| VW.block <| sq <| VW.region ?_
    have⟨g340,h⟩:=gS h
    have⟨g341,h⟩:=gS h
    refine nG K 5 (pu 3 (an g340 (an g341 (tn 0)))) ?_
    have⟨y342,hy,h⟩:=aS h
    refine cal false [.t (.sl Y76), .t (.int .i64), .t (.int .i64)] [] (some 46) K (ok65 N _ _ _ hy) <| nN K (tn 5) ?_
    have⟨g343,h⟩:=gS h
    have⟨g344,h⟩:=gS h
    have⟨g345,h⟩:=gS h
    have⟨g346,h⟩:=gS h
    refine nE K (pu 4 (an g343 (an g344 (pu 1 (an g345 (pu 1 (an g346 (tn 1)))))))) <| nE K (tn 3) ?_
    exact aro [.ren [0, 1, 2, 10, 11, 12, 13, 14] [0, 1, 2, 3]] ⟨x302, x303, x304, x305, x306, x307, x308, x309, x310, x311, x312, x313, x314, x315, (x316 ++ ([((a1.take y342.1.toNat).drop (y3.getD x317.toNat (Ty.dflt (.int .i64))).toNat)])), (wr (x317 + (1 : Int))), rfl, h⟩
   refine VW.exit ?_
   exact arv [.ren [0, 1, 2, 10, 11, 12, 13] [0, 1, 2, 3]] ⟨x302, x303, x304, x305, x306, x307, x308, x309, x310, x311, x312, x313, x314, x315, x316, rfl, h⟩
 rintro s ⟨x77, x78, x79, x80, x81, x82, x83, x84, x85, x86, x87, x88, x89, x90, x91, rfl, h⟩
 unfold F64_j5 at h
 refine VW.join (fun s => s = ⟨[(10, .lf (.ptr 0 0 0 0)), (11, .lf (.ptr 1 0 0 0)), (13, hh 2)], [bx [zi x77, zs x78, zi x79, zi x80, zi x81, zb x82, .v (.sl (.int .i64)) x83] 78, bx [zi x84, zs x85, zi x86, zi x87, zi x88, zb x89, .v (.sl (.int .i64)) x90] 78, ar 0 (.sl Y76) x91 .tp]⟩ ∧ F64_j0 N x77 x78 x79 x80 x81 x82 x83 x84 x85 x86 x87 x88 x89 x90 x91 = some r) ?_ ?_
 ·refine nR K (tn 1) <| VW.block ?_
  refine VW.join (fun s => ∃ x185, s = ⟨[(0, Vv (.sl Y82) a0), (1, Vv (.sl Y76) a1), (2, I a2), (10, .lf (.ptr 0 0 0 0)), (11, .lf (.ptr 1 0 0 0)), (12, hh 2), (13, hh 3), (59, I a2), (60, B x185)], [bx [zi x77, zs x78, zi x79, zi x80, zi x81, zb x82, .v (.sl (.int .i64)) x83] 78, bx [zi x84, zs x85, zi x86, zi x87, zi x88, zb x89, .v (.sl (.int .i64)) x90] 78, ar 0 (.int .i64) y3 .dp, ar 0 (.sl Y76) x91 .tp]⟩ ∧ F64_j4 N a0 a1 a2 x77 x78 x79 x80 x81 x82 x83 x84 x85 x86 x87 x88 x89 x90 x91 y3 x185 = some r) ?_ ?_
  ·refine nR K (tn 2) ?_
   refine cnd h ?_ ?_<;>intro h
   ·refine VW.skip ?_
    exact arv [.ren [0, 1, 2, 10, 11, 12, 13, 59, 60] [0, 1, 2, 3]] ⟨(a2 == (0 : Int)), rfl, h⟩
   refine nR K (tn 2) ?_
   refine cnd h ?_ ?_<;>intro h
   ·refine VW.skip ?_
    exact arv [.ren [0, 1, 2, 10, 11, 12, 13, 59, 60] [0, 1, 2, 3]] ⟨(a2 == (1 : Int)), rfl, h⟩
   refine nR K (tn 2) ?_
   refine cnd h ?_ ?_<;>intro h
   ·refine VW.skip ?_
    exact arv [.ren [0, 1, 2, 10, 11, 12, 13, 59, 60] [0, 1, 2, 3]] ⟨(a2 == (9 : Int)), rfl, h⟩
   refine nE K (tn 2) ?_
   exact arv [.ren [0, 1, 2, 10, 11, 12, 13, 59, 60] [0, 1, 2, 3]] ⟨(a2 == (11 : Int)), rfl, h⟩
  rintro s ⟨x185, rfl, h⟩
  unfold F64_j4 at h
  refine cnd h ?_ ?_<;>intro h
  ·refine sq ?_
   have⟨g186,h⟩:=gS h
   have⟨g187,h⟩:=gS h
   have⟨y188,hy188,h⟩:=aS h
   refine VW.gh (Gh.rsv Y76 .tp (by decide)) <| VW.gh (Gh.rsv Y76 .tp (by decide)) <| VW.gh (Gh.rsv (.sl Y76) .tp (by decide)) ?_
   refine VW.drawnM (by kernel_rfl) [some (65, .agg [zi x84, zs x85, zi x86, zi x87, zi x88, zb x89, .v (.sl (.int .i64)) x90]), some (66, .lf (.hd 4 1 none)), some (67, .agg [zi x77, zs x78, zi x79, zi x80, zi x81, zb x82, .v (.sl (.int .i64)) x83]), some (68, .lf (.hd 5 1 none)), some (69, hh 3), some (70, .lf (.ptr 3 0 ((0 : Int).toNat) 0)), some (71, Vv (.sl Y76) (x91.getD ((0 : Int).toNat) (Ty.dflt (.sl Y76)))), some (72, .lf (.hd 6 1 none)), some (73, hh 7), some (8, hh 7), some (9, B true)] [1, 3, 7, 8] [(0, [bx [zi x77, zs x78, zi x79, zi x80, zi x81, zb x82, .v (.sl (.int .i64)) x83] 78, bx [zi x84, zs x85, zi x86, zi x87, zi x88, zb x89, .v (.sl (.int .i64)) x90] 78, ar 0 (.int .i64) y3 .dp, ar 0 (.sl Y76) x91 .tp, ar 0 Y76 ([]) .tp, ar 0 Y76 ([]) .tp, ar 0 (.sl Y76) ([]) .tp]), (1, [bx [zi x77, zs x78, zi x79, zi x80, zi x81, zb x82, .v (.sl (.int .i64)) x83] 78, bx [zi x84, zs x85, zi x86, zi x87, zi x88, zb x89, .v (.sl (.int .i64)) x90] 78, ar 0 (.int .i64) y3 .dp, ar 0 (.sl Y76) x91 .tp, ar 1 Y76 ([(x84, (x85, (x86, (x87, (x88, (x89, x90))))))]) .tp, ar 0 Y76 ([]) .tp, ar 0 (.sl Y76) ([]) .tp]), (2, [bx [zi x77, zs x78, zi x79, zi x80, zi x81, zb x82, .v (.sl (.int .i64)) x83] 78, bx [zi x84, zs x85, zi x86, zi x87, zi x88, zb x89, .v (.sl (.int .i64)) x90] 78, ar 0 (.int .i64) y3 .dp, ar 0 (.sl Y76) x91 .tp, ar 0 Y76 ([]) .tp, ar 1 Y76 ([(x77, (x78, (x79, (x80, (x81, (x82, x83))))))]) .tp, ar 0 (.sl Y76) ([]) .tp]), (3, [bx [zi x77, zs x78, zi x79, zi x80, zi x81, zb x82, .v (.sl (.int .i64)) x83] 78, bx [zi x84, zs x85, zi x86, zi x87, zi x88, zb x89, .v (.sl (.int .i64)) x90] 78, ar 0 (.int .i64) y3 .dp, ar 0 (.sl Y76) x91 .tp, ar 1 Y76 ([(x84, (x85, (x86, (x87, (x88, (x89, x90))))))]) .tp, ar 1 Y76 ([(x77, (x78, (x79, (x80, (x81, (x82, x83))))))]) .tp, ar 0 (.sl Y76) ([]) .tp]), (7, [bx [zi x77, zs x78, zi x79, zi x80, zi x81, zb x82, .v (.sl (.int .i64)) x83] 78, bx [zi x84, zs x85, zi x86, zi x87, zi x88, zb x89, .v (.sl (.int .i64)) x90] 78, ar 0 (.int .i64) y3 .dp, ar 0 (.sl Y76) x91 .tp, none, none, ar 1 (.sl Y76) ([[(x84, (x85, (x86, (x87, (x88, (x89, x90))))))], [(x77, (x78, (x79, (x80, (x81, (x82, x83))))))], (x91.getD ((0 : Int).toNat) (Ty.dflt (.sl Y76)))]) .tp]), (15, [bx [zi x77, zs x78, zi x79, zi x80, zi x81, zb x82, .v (.sl (.int .i64)) x83] 78, bx [zi x84, zs x85, zi x86, zi x87, zi x88, zb x89, .v (.sl (.int .i64)) x90] 78, ar 0 (.int .i64) y3 .dp, ar 0 (.sl Y76) x91 .tp, none, none, none, ar 0 Y76 y188 .tp])] [(0, 0), (0, 2), (1, 0), (1, 2), (2, 0), (2, 1), (3, 0), (3, 1), (4, 0), (4, 1), (4, 2), (4, 3), (4, 7), (4, 15), (5, 0), (5, 1), (5, 2), (5, 3), (5, 7), (5, 15), (6, 0), (6, 1), (6, 2), (6, 3), (7, 3), (8, 7), (9, 15), (10, 15)] [8, 9] [7] (s' := ⟨[(8, hh 0), (9, B true)], [ar 0 Y76 y188 .tp]⟩) (by kernel_rfl) (by kernel_rfl) ⟨mT K,
    mT K,
    ⟨_, rfl, Stp.litAt 4 K (by kernel_rfl)⟩,
    ⟨_, rfl, Stp.litAt 4 K (by kernel_rfl)⟩,
    mT K,
    mT K,
    ⟨_, rfl, Stp.litAt 5 K (by kernel_rfl)⟩,
    ⟨_, rfl, Stp.litAt 5 K (by kernel_rfl)⟩,
    mT K,
    mT K,
    mT K,
    mT K,
    mT K,
    mT K,
    ⟨_, rfl, Stp.ev K (m := .dp) (φ := InR (0 : Int) x91.length) (by kernel_rfl) g186⟩,
    ⟨_, rfl, Stp.ev K (m := .dp) (φ := InR (0 : Int) x91.length) (by kernel_rfl) g186⟩,
    ⟨_, rfl, Stp.ev K (m := .dp) (φ := InR (0 : Int) x91.length) (by kernel_rfl) g186⟩,
    ⟨_, rfl, Stp.ev K (m := .dp) (φ := InR (0 : Int) x91.length) (by kernel_rfl) g186⟩,
    ⟨_, rfl, Stp.ev K (m := .dp) (φ := InR (0 : Int) x91.length) (by kernel_rfl) g186⟩,
    ⟨_, rfl, Stp.ev K (m := .dp) (φ := InR (0 : Int) x91.length) (by kernel_rfl) g186⟩,
    ⟨_, rfl, Stp.ev K (m := .dp) (φ := (0 : Int).toNat < x91.length) (by kernel_rfl) g187⟩,
    ⟨_, rfl, Stp.ev K (m := .dp) (φ := (0 : Int).toNat < x91.length) (by kernel_rfl) g187⟩,
    ⟨_, rfl, Stp.ev K (m := .dp) (φ := (0 : Int).toNat < x91.length) (by kernel_rfl) g187⟩,
    ⟨_, rfl, Stp.ev K (m := .dp) (φ := (0 : Int).toNat < x91.length) (by kernel_rfl) g187⟩,
    ⟨_, rfl, Stp.frz 4 (by kernel_rfl) (Stp.frz 5 (by kernel_rfl) (Stp.litAt 6 K (by kernel_rfl)) (by kernel_rfl)) (by kernel_rfl)⟩,
    ⟨_, rfl, Stp.frz 6 (by kernel_rfl) (Stp.eq (Stp.call false [.t (.sl (.sl Y76))] [] K (d := some 73) (by kernel_rfl) (ok66 N _ hy188) rfl) (by kernel_rfl) (by kernel_rfl)) (by kernel_rfl)⟩,
    mT K,
    mT K, trivial⟩ (by kernel_rfl) ?_
   cases h; exact VW.ret (rt [some 0])
  refine nR K (tn 2) ?_
  refine cnd h ?_ ?_<;>intro h
  ·refine sq <| sq <| VW.region <| nG K 3 (tn 3) ?_
   refine spB 78 h ?_ ?_<;>intro h
   ·refine nN K (tn 3) ?_
    refine VW.cond (b := true) (by kernel_rfl) (fun _ => ?_) (fun h' => nomatch h')
    refine nR K (tn 2) ?_
    cases h; exact VW.ret (rt [none])
   refine nN K (tn 3) ?_
   refine cnd h ?_ ?_<;>intro h
   ·refine nR K (tn 2) ?_
    cases h; exact VW.ret (rt [none])
   refine VW.skip ?_
   refine VW.join (fun s => ∃ x189, s = ⟨[(11, .lf (.ptr 0 0 0 0)), (13, hh 1)], [bx [zi x84, zs x85, zi x86, zi x87, zi x189, zb x89, .v (.sl (.int .i64)) x90] 78, ar 0 (.sl Y76) x91 .tp]⟩ ∧ F64_j1 N x84 x85 x86 x87 x89 x90 x91 x189 = some r) ?_ ?_
   ·refine nR K (tn 5) ?_
    refine cnd h ?_ ?_<;>intro h
    ·refine nE K (tn 4) ?_
     exact arv [.ren [11, 13] [1, 3]] ⟨x81, rfl, h⟩
    refine VW.skip ?_
    exact arv [.ren [11, 13] [1, 3]] ⟨x88, rfl, h⟩
   rintro s ⟨x189, rfl, h⟩
   unfold F64_j1 at h
   refine sq ?_
   have⟨g190,h⟩:=gS h
   have⟨g191,h⟩:=gS h
   have⟨y192,hy192,h⟩:=aS h
   refine dr K [(5, .ev [2]), (6, .cl [3] (some 96) [.lf (.own Y76 y192 .tp)])] [(5, 1), (6, 2)] [1, 5, 6] [8, 9] [4] (pu 3 (an g190 (an g191 (tn 4)))) ⟨qE [2] K trivial, qC false [.t (.sl (.sl Y76))] [] [3] (some 96) K (ok66 N _ hy192), trivial⟩ ?_
   cases h; exact VW.ret (rt [some 0])
  refine nR K (tn 2) ?_
  refine cnd h ?_ ?_<;>intro h
  ·refine sq ?_
   have⟨g194,h⟩:=gS h
   have⟨g195,h⟩:=gS h
   have⟨y196,hy196,h⟩:=aS h
   refine dr K [(5, .ev [4]), (6, .cl [5] (some 105) [.lf (.own Y76 y196 .tp)])] [(5, 1), (6, 2)] [1, 5, 6] [8, 9] [6] (pu 3 (an g194 (an g195 (tn 9)))) ⟨qE [4] K trivial, qC false [.t (.sl (.sl Y76))] [] [5] (some 105) K (ok66 N _ hy196), trivial⟩ ?_
   cases h; exact VW.ret (rt [some 0])
  refine nR K (tn 2) ?_
  refine cnd h ?_ ?_<;>intro h
  ·refine sq <| VW.ghl [.ren [10, 11, 13] [0, 1, 3]] ?_
   have⟨g197,h⟩:=gS h
   have⟨g198,h⟩:=gS h
   have⟨g199,h⟩:=gS h
   have⟨g200,h⟩:=gS h
   have⟨y201,hy201,h⟩:=aS h
   refine VW.gh (Gh.rsv Y76 .tp (by decide)) <| VW.gh (Gh.rsv Y76 .tp (by decide)) <| VW.gh (Gh.rsv Y76 .tp (by decide)) <| VW.gh (Gh.rsv (.sl Y76) .tp (by decide)) ?_
   refine VW.drawnM (by kernel_rfl) [some (113, .agg [zi x84, zs x85, zi x86, zi x87, zi x88, zb x89, .v (.sl (.int .i64)) x90]), some (114, .lf (.hd 3 1 none)), some (115, .agg [zi x77, zs x78, zi x79, zi x80, zi x81, zb x82, .v (.sl (.int .i64)) x83]), some (116, .lf (.hd 4 1 none)), some (117, hh 2), some (118, .lf (.ptr 2 0 ((0 : Int).toNat) 0)), some (119, Vv (.sl Y76) (x91.getD ((0 : Int).toNat) (Ty.dflt (.sl Y76)))), some (120, .agg [zi x77, zs x78, zi x79, zi x80, zi x81, zb x82, .v (.sl (.int .i64)) x83]), some (121, .lf (.hd 5 1 none)), some (122, hh 2), some (123, .lf (.ptr 2 0 ((1 : Int).toNat) 0)), some (124, Vv (.sl Y76) (x91.getD ((1 : Int).toNat) (Ty.dflt (.sl Y76)))), some (125, .lf (.hd 6 1 none)), some (126, hh 7), some (8, hh 7), some (9, B true)] [1, 3, 8, 12, 13] [(0, [bx [zi x77, zs x78, zi x79, zi x80, zi x81, zb x82, .v (.sl (.int .i64)) x83] 78, bx [zi x84, zs x85, zi x86, zi x87, zi x88, zb x89, .v (.sl (.int .i64)) x90] 78, ar 0 (.sl Y76) x91 .tp, ar 0 Y76 ([]) .tp, ar 0 Y76 ([]) .tp, ar 0 Y76 ([]) .tp, ar 0 (.sl Y76) ([]) .tp]), (1, [bx [zi x77, zs x78, zi x79, zi x80, zi x81, zb x82, .v (.sl (.int .i64)) x83] 78, bx [zi x84, zs x85, zi x86, zi x87, zi x88, zb x89, .v (.sl (.int .i64)) x90] 78, ar 0 (.sl Y76) x91 .tp, ar 1 Y76 ([(x84, (x85, (x86, (x87, (x88, (x89, x90))))))]) .tp, ar 0 Y76 ([]) .tp, ar 0 Y76 ([]) .tp, ar 0 (.sl Y76) ([]) .tp]), (2, [bx [zi x77, zs x78, zi x79, zi x80, zi x81, zb x82, .v (.sl (.int .i64)) x83] 78, bx [zi x84, zs x85, zi x86, zi x87, zi x88, zb x89, .v (.sl (.int .i64)) x90] 78, ar 0 (.sl Y76) x91 .tp, ar 0 Y76 ([]) .tp, ar 1 Y76 ([(x77, (x78, (x79, (x80, (x81, (x82, x83))))))]) .tp, ar 0 Y76 ([]) .tp, ar 0 (.sl Y76) ([]) .tp]), (3, [bx [zi x77, zs x78, zi x79, zi x80, zi x81, zb x82, .v (.sl (.int .i64)) x83] 78, bx [zi x84, zs x85, zi x86, zi x87, zi x88, zb x89, .v (.sl (.int .i64)) x90] 78, ar 0 (.sl Y76) x91 .tp, ar 1 Y76 ([(x84, (x85, (x86, (x87, (x88, (x89, x90))))))]) .tp, ar 1 Y76 ([(x77, (x78, (x79, (x80, (x81, (x82, x83))))))]) .tp, ar 0 Y76 ([]) .tp, ar 0 (.sl Y76) ([]) .tp]), (4, [bx [zi x77, zs x78, zi x79, zi x80, zi x81, zb x82, .v (.sl (.int .i64)) x83] 78, bx [zi x84, zs x85, zi x86, zi x87, zi x88, zb x89, .v (.sl (.int .i64)) x90] 78, ar 0 (.sl Y76) x91 .tp, ar 0 Y76 ([]) .tp, ar 0 Y76 ([]) .tp, ar 1 Y76 ([(x77, (x78, (x79, (x80, (x81, (x82, x83))))))]) .tp, ar 0 (.sl Y76) ([]) .tp]), (5, [bx [zi x77, zs x78, zi x79, zi x80, zi x81, zb x82, .v (.sl (.int .i64)) x83] 78, bx [zi x84, zs x85, zi x86, zi x87, zi x88, zb x89, .v (.sl (.int .i64)) x90] 78, ar 0 (.sl Y76) x91 .tp, ar 1 Y76 ([(x84, (x85, (x86, (x87, (x88, (x89, x90))))))]) .tp, ar 0 Y76 ([]) .tp, ar 1 Y76 ([(x77, (x78, (x79, (x80, (x81, (x82, x83))))))]) .tp, ar 0 (.sl Y76) ([]) .tp]), (6, [bx [zi x77, zs x78, zi x79, zi x80, zi x81, zb x82, .v (.sl (.int .i64)) x83] 78, bx [zi x84, zs x85, zi x86, zi x87, zi x88, zb x89, .v (.sl (.int .i64)) x90] 78, ar 0 (.sl Y76) x91 .tp, ar 0 Y76 ([]) .tp, ar 1 Y76 ([(x77, (x78, (x79, (x80, (x81, (x82, x83))))))]) .tp, ar 1 Y76 ([(x77, (x78, (x79, (x80, (x81, (x82, x83))))))]) .tp, ar 0 (.sl Y76) ([]) .tp]), (7, [bx [zi x77, zs x78, zi x79, zi x80, zi x81, zb x82, .v (.sl (.int .i64)) x83] 78, bx [zi x84, zs x85, zi x86, zi x87, zi x88, zb x89, .v (.sl (.int .i64)) x90] 78, ar 0 (.sl Y76) x91 .tp, ar 1 Y76 ([(x84, (x85, (x86, (x87, (x88, (x89, x90))))))]) .tp, ar 1 Y76 ([(x77, (x78, (x79, (x80, (x81, (x82, x83))))))]) .tp, ar 1 Y76 ([(x77, (x78, (x79, (x80, (x81, (x82, x83))))))]) .tp, ar 0 (.sl Y76) ([]) .tp]), (15, [bx [zi x77, zs x78, zi x79, zi x80, zi x81, zb x82, .v (.sl (.int .i64)) x83] 78, bx [zi x84, zs x85, zi x86, zi x87, zi x88, zb x89, .v (.sl (.int .i64)) x90] 78, ar 0 (.sl Y76) x91 .tp, none, none, none, ar 1 (.sl Y76) ([[(x84, (x85, (x86, (x87, (x88, (x89, x90))))))], [(x77, (x78, (x79, (x80, (x81, (x82, x83))))))], (x91.getD ((0 : Int).toNat) (Ty.dflt (.sl Y76))), [(x77, (x78, (x79, (x80, (x81, (x82, x83))))))], (x91.getD ((1 : Int).toNat) (Ty.dflt (.sl Y76)))]) .tp]), (31, [bx [zi x77, zs x78, zi x79, zi x80, zi x81, zb x82, .v (.sl (.int .i64)) x83] 78, bx [zi x84, zs x85, zi x86, zi x87, zi x88, zb x89, .v (.sl (.int .i64)) x90] 78, ar 0 (.sl Y76) x91 .tp, none, none, none, none, ar 0 Y76 y201 .tp])] [(0, 0), (0, 2), (0, 4), (0, 6), (1, 0), (1, 2), (1, 4), (1, 6), (2, 0), (2, 1), (2, 4), (2, 5), (3, 0), (3, 1), (3, 4), (3, 5), (4, 0), (4, 1), (4, 2), (4, 3), (4, 4), (4, 5), (4, 6), (4, 7), (4, 15), (4, 31), (5, 0), (5, 1), (5, 2), (5, 3), (5, 4), (5, 5), (5, 6), (5, 7), (5, 15), (5, 31), (6, 0), (6, 1), (6, 2), (6, 3), (6, 4), (6, 5), (6, 6), (6, 7), (7, 0), (7, 1), (7, 2), (7, 3), (8, 0), (8, 1), (8, 2), (8, 3), (9, 0), (9, 1), (9, 2), (9, 3), (9, 4), (9, 5), (9, 6), (9, 7), (9, 15), (9, 31), (10, 0), (10, 1), (10, 2), (10, 3), (10, 4), (10, 5), (10, 6), (10, 7), (10, 15), (10, 31), (11, 0), (11, 1), (11, 2), (11, 3), (11, 4), (11, 5), (11, 6), (11, 7), (12, 7), (13, 15), (14, 31), (15, 31)] [8, 9] [7] (s' := ⟨[(8, hh 0), (9, B true)], [ar 0 Y76 y201 .tp]⟩) (by kernel_rfl) (by kernel_rfl) ⟨mT K,
    mT K,
    mT K,
    mT K,
    ⟨_, rfl, Stp.litAt 3 K (by kernel_rfl)⟩,
    ⟨_, rfl, Stp.litAt 3 K (by kernel_rfl)⟩,
    ⟨_, rfl, Stp.litAt 3 K (by kernel_rfl)⟩,
    ⟨_, rfl, Stp.litAt 3 K (by kernel_rfl)⟩,
    mT K,
    mT K,
    mT K,
    mT K,
    ⟨_, rfl, Stp.litAt 4 K (by kernel_rfl)⟩,
    ⟨_, rfl, Stp.litAt 4 K (by kernel_rfl)⟩,
    ⟨_, rfl, Stp.litAt 4 K (by kernel_rfl)⟩,
    ⟨_, rfl, Stp.litAt 4 K (by kernel_rfl)⟩,
    mT K,
    mT K,
    mT K,
    mT K,
    mT K,
    mT K,
    mT K,
    mT K,
    mT K,
    mT K,
    ⟨_, rfl, Stp.ev K (m := .dp) (φ := InR (0 : Int) x91.length) (by kernel_rfl) g197⟩,
    ⟨_, rfl, Stp.ev K (m := .dp) (φ := InR (0 : Int) x91.length) (by kernel_rfl) g197⟩,
    ⟨_, rfl, Stp.ev K (m := .dp) (φ := InR (0 : Int) x91.length) (by kernel_rfl) g197⟩,
    ⟨_, rfl, Stp.ev K (m := .dp) (φ := InR (0 : Int) x91.length) (by kernel_rfl) g197⟩,
    ⟨_, rfl, Stp.ev K (m := .dp) (φ := InR (0 : Int) x91.length) (by kernel_rfl) g197⟩,
    ⟨_, rfl, Stp.ev K (m := .dp) (φ := InR (0 : Int) x91.length) (by kernel_rfl) g197⟩,
    ⟨_, rfl, Stp.ev K (m := .dp) (φ := InR (0 : Int) x91.length) (by kernel_rfl) g197⟩,
    ⟨_, rfl, Stp.ev K (m := .dp) (φ := InR (0 : Int) x91.length) (by kernel_rfl) g197⟩,
    ⟨_, rfl, Stp.ev K (m := .dp) (φ := InR (0 : Int) x91.length) (by kernel_rfl) g197⟩,
    ⟨_, rfl, Stp.ev K (m := .dp) (φ := InR (0 : Int) x91.length) (by kernel_rfl) g197⟩,
    ⟨_, rfl, Stp.ev K (m := .dp) (φ := (0 : Int).toNat < x91.length) (by kernel_rfl) g198⟩,
    ⟨_, rfl, Stp.ev K (m := .dp) (φ := (0 : Int).toNat < x91.length) (by kernel_rfl) g198⟩,
    ⟨_, rfl, Stp.ev K (m := .dp) (φ := (0 : Int).toNat < x91.length) (by kernel_rfl) g198⟩,
    ⟨_, rfl, Stp.ev K (m := .dp) (φ := (0 : Int).toNat < x91.length) (by kernel_rfl) g198⟩,
    ⟨_, rfl, Stp.ev K (m := .dp) (φ := (0 : Int).toNat < x91.length) (by kernel_rfl) g198⟩,
    ⟨_, rfl, Stp.ev K (m := .dp) (φ := (0 : Int).toNat < x91.length) (by kernel_rfl) g198⟩,
    ⟨_, rfl, Stp.ev K (m := .dp) (φ := (0 : Int).toNat < x91.length) (by kernel_rfl) g198⟩,
    ⟨_, rfl, Stp.ev K (m := .dp) (φ := (0 : Int).toNat < x91.length) (by kernel_rfl) g198⟩,
    mT K,
    mT K,
    mT K,
    mT K,
    ⟨_, rfl, Stp.litAt 5 K (by kernel_rfl)⟩,
    ⟨_, rfl, Stp.litAt 5 K (by kernel_rfl)⟩,
    ⟨_, rfl, Stp.litAt 5 K (by kernel_rfl)⟩,
    ⟨_, rfl, Stp.litAt 5 K (by kernel_rfl)⟩,
    mT K,
    mT K,
    mT K,
    mT K,
    mT K,
    mT K,
    mT K,
    mT K,
    mT K,
    mT K,
    ⟨_, rfl, Stp.ev K (m := .dp) (φ := InR (1 : Int) x91.length) (by kernel_rfl) g199⟩,
    ⟨_, rfl, Stp.ev K (m := .dp) (φ := InR (1 : Int) x91.length) (by kernel_rfl) g199⟩,
    ⟨_, rfl, Stp.ev K (m := .dp) (φ := InR (1 : Int) x91.length) (by kernel_rfl) g199⟩,
    ⟨_, rfl, Stp.ev K (m := .dp) (φ := InR (1 : Int) x91.length) (by kernel_rfl) g199⟩,
    ⟨_, rfl, Stp.ev K (m := .dp) (φ := InR (1 : Int) x91.length) (by kernel_rfl) g199⟩,
    ⟨_, rfl, Stp.ev K (m := .dp) (φ := InR (1 : Int) x91.length) (by kernel_rfl) g199⟩,
    ⟨_, rfl, Stp.ev K (m := .dp) (φ := InR (1 : Int) x91.length) (by kernel_rfl) g199⟩,
    ⟨_, rfl, Stp.ev K (m := .dp) (φ := InR (1 : Int) x91.length) (by kernel_rfl) g199⟩,
    ⟨_, rfl, Stp.ev K (m := .dp) (φ := InR (1 : Int) x91.length) (by kernel_rfl) g199⟩,
    ⟨_, rfl, Stp.ev K (m := .dp) (φ := InR (1 : Int) x91.length) (by kernel_rfl) g199⟩,
    ⟨_, rfl, Stp.ev K (m := .dp) (φ := (1 : Int).toNat < x91.length) (by kernel_rfl) g200⟩,
    ⟨_, rfl, Stp.ev K (m := .dp) (φ := (1 : Int).toNat < x91.length) (by kernel_rfl) g200⟩,
    ⟨_, rfl, Stp.ev K (m := .dp) (φ := (1 : Int).toNat < x91.length) (by kernel_rfl) g200⟩,
    ⟨_, rfl, Stp.ev K (m := .dp) (φ := (1 : Int).toNat < x91.length) (by kernel_rfl) g200⟩,
    ⟨_, rfl, Stp.ev K (m := .dp) (φ := (1 : Int).toNat < x91.length) (by kernel_rfl) g200⟩,
    ⟨_, rfl, Stp.ev K (m := .dp) (φ := (1 : Int).toNat < x91.length) (by kernel_rfl) g200⟩,
    ⟨_, rfl, Stp.ev K (m := .dp) (φ := (1 : Int).toNat < x91.length) (by kernel_rfl) g200⟩,
    ⟨_, rfl, Stp.ev K (m := .dp) (φ := (1 : Int).toNat < x91.length) (by kernel_rfl) g200⟩,
    ⟨_, rfl, Stp.frz 3 (by kernel_rfl) (Stp.frz 4 (by kernel_rfl) (Stp.frz 5 (by kernel_rfl) (Stp.litAt 6 K (by kernel_rfl)) (by kernel_rfl)) (by kernel_rfl)) (by kernel_rfl)⟩,
    ⟨_, rfl, Stp.frz 6 (by kernel_rfl) (Stp.eq (Stp.call false [.t (.sl (.sl Y76))] [] K (d := some 126) (by kernel_rfl) (ok66 N _ hy201) rfl) (by kernel_rfl) (by kernel_rfl)) (by kernel_rfl)⟩,
    mT K,
    mT K, trivial⟩ (by kernel_rfl) ?_
   cases h; exact VW.ret (rt [some 0])
  refine VW.join (fun s => ∃ x202, s = ⟨[(0, Vv (.sl Y82) a0), (1, Vv (.sl Y76) a1), (2, I a2), (10, .lf (.ptr 0 0 0 0)), (11, .lf (.ptr 1 0 0 0)), (12, hh 2), (13, hh 3), (59, I a2), (127, B x202)], [bx [zi x77, zs x78, zi x79, zi x80, zi x81, zb x82, .v (.sl (.int .i64)) x83] 78, bx [zi x84, zs x85, zi x86, zi x87, zi x88, zb x89, .v (.sl (.int .i64)) x90] 78, ar 0 (.int .i64) y3 .dp, ar 0 (.sl Y76) x91 .tp]⟩ ∧ F64_j3 N a0 a1 a2 x77 x78 x79 x80 x81 x82 x83 x84 x85 x86 x87 x88 x89 x90 x91 y3 x202 = some r) ?_ ?_
  ·refine nR K (tn 2) ?_
   refine cnd h ?_ ?_<;>intro h
   ·refine VW.skip ?_
    exact arv [.ren [0, 1, 2, 10, 11, 12, 13, 59, 127] [0, 1, 2, 3]] ⟨(a2 == (5 : Int)), rfl, h⟩
   refine nE K (tn 2) ?_
   exact arv [.ren [0, 1, 2, 10, 11, 12, 13, 59, 127] [0, 1, 2, 3]] ⟨(a2 == (6 : Int)), rfl, h⟩
  rintro s ⟨x202, rfl, h⟩
  unfold F64_j3 at h
  refine cnd h ?_ ?_<;>intro h
  ·refine sq <| VW.region ?_
   have⟨g203,h⟩:=gS h
   have⟨g204,h⟩:=gS h
   refine nG K 5 (pu 3 (an g203 (an g204 (tn 0)))) ?_
   have⟨y205,hy,h⟩:=aS h
   refine cal false [.t (.sl Y82), .t (.sl Y76), .t (.int .i64)] [] (some 135) K (ok106 N _ _ _ hy) <| nN K (tn 1) <| sq <| nR K (tn 2) ?_
   refine cnd h ?_ ?_<;>intro h
   ·refine sq <| VW.ghl [.ren [10, 11, 13, 17] [0, 1, 3]] ?_
    have⟨g211,h⟩:=gS h
    have⟨g212,h⟩:=gS h
    have⟨g213,h⟩:=gS h
    have⟨g214,h⟩:=gS h
    have⟨y215,hy215,h⟩:=aS h
    refine VW.gh (Gh.rsv Y76 .tp (by decide)) <| VW.gh (Gh.rsv Y76 .tp (by decide)) <| VW.gh (Gh.rsv (.sl Y76) .tp (by decide)) ?_
    refine VW.drawnM (by kernel_rfl) [some (138, .agg [zi x84, zs x85, zi x86, zi x87, zi x88, zb x89, .v (.sl (.int .i64)) x90]), some (139, .lf (.hd 3 1 none)), some (140, .agg [zi x77, zs x78, zi x79, zi x80, zi x81, zb x82, .v (.sl (.int .i64)) x83]), some (141, .lf (.hd 4 1 none)), some (142, hh 2), some (143, .lf (.ptr 2 0 ((0 : Int).toNat) 0)), some (144, Vv (.sl Y76) (x91.getD ((0 : Int).toNat) (Ty.dflt (.sl Y76)))), some (145, hh 2), some (146, .lf (.ptr 2 0 ((1 : Int).toNat) 0)), some (147, Vv (.sl Y76) (x91.getD ((1 : Int).toNat) (Ty.dflt (.sl Y76)))), some (148, .lf (.hd 5 1 none)), some (149, hh 6), some (150, .lf (.ptr 0 0 0 2)), some (151, I x79), some (152, I y205), some (153, B (decide (x79 < y205))), some (8, hh 6), some (9, B (decide (x79 < y205)))] [1, 3, 10, 11] [(0, [bx [zi x77, zs x78, zi x79, zi x80, zi x81, zb x82, .v (.sl (.int .i64)) x83] 78, bx [zi x84, zs x85, zi x86, zi x87, zi x88, zb x89, .v (.sl (.int .i64)) x90] 78, ar 0 (.sl Y76) x91 .tp, ar 0 Y76 ([]) .tp, ar 0 Y76 ([]) .tp, ar 0 (.sl Y76) ([]) .tp]), (1, [bx [zi x77, zs x78, zi x79, zi x80, zi x81, zb x82, .v (.sl (.int .i64)) x83] 78, bx [zi x84, zs x85, zi x86, zi x87, zi x88, zb x89, .v (.sl (.int .i64)) x90] 78, ar 0 (.sl Y76) x91 .tp, ar 1 Y76 ([(x84, (x85, (x86, (x87, (x88, (x89, x90))))))]) .tp, ar 0 Y76 ([]) .tp, ar 0 (.sl Y76) ([]) .tp]), (2, [bx [zi x77, zs x78, zi x79, zi x80, zi x81, zb x82, .v (.sl (.int .i64)) x83] 78, bx [zi x84, zs x85, zi x86, zi x87, zi x88, zb x89, .v (.sl (.int .i64)) x90] 78, ar 0 (.sl Y76) x91 .tp, ar 0 Y76 ([]) .tp, ar 1 Y76 ([(x77, (x78, (x79, (x80, (x81, (x82, x83))))))]) .tp, ar 0 (.sl Y76) ([]) .tp]), (3, [bx [zi x77, zs x78, zi x79, zi x80, zi x81, zb x82, .v (.sl (.int .i64)) x83] 78, bx [zi x84, zs x85, zi x86, zi x87, zi x88, zb x89, .v (.sl (.int .i64)) x90] 78, ar 0 (.sl Y76) x91 .tp, ar 1 Y76 ([(x84, (x85, (x86, (x87, (x88, (x89, x90))))))]) .tp, ar 1 Y76 ([(x77, (x78, (x79, (x80, (x81, (x82, x83))))))]) .tp, ar 0 (.sl Y76) ([]) .tp]), (7, [bx [zi x77, zs x78, zi x79, zi x80, zi x81, zb x82, .v (.sl (.int .i64)) x83] 78, bx [zi x84, zs x85, zi x86, zi x87, zi x88, zb x89, .v (.sl (.int .i64)) x90] 78, ar 0 (.sl Y76) x91 .tp, none, none, ar 1 (.sl Y76) ([[(x84, (x85, (x86, (x87, (x88, (x89, x90))))))], [(x77, (x78, (x79, (x80, (x81, (x82, x83))))))], (x91.getD ((0 : Int).toNat) (Ty.dflt (.sl Y76))), (x91.getD ((1 : Int).toNat) (Ty.dflt (.sl Y76)))]) .tp]), (15, [bx [zi x77, zs x78, zi x79, zi x80, zi x81, zb x82, .v (.sl (.int .i64)) x83] 78, bx [zi x84, zs x85, zi x86, zi x87, zi x88, zb x89, .v (.sl (.int .i64)) x90] 78, ar 0 (.sl Y76) x91 .tp, none, none, none, ar 0 Y76 y215 .tp])] [(0, 0), (0, 2), (1, 0), (1, 2), (2, 0), (2, 1), (3, 0), (3, 1), (4, 0), (4, 1), (4, 2), (4, 3), (4, 7), (4, 15), (5, 0), (5, 1), (5, 2), (5, 3), (5, 7), (5, 15), (6, 0), (6, 1), (6, 2), (6, 3), (7, 0), (7, 1), (7, 2), (7, 3), (7, 7), (7, 15), (8, 0), (8, 1), (8, 2), (8, 3), (8, 7), (8, 15), (9, 0), (9, 1), (9, 2), (9, 3), (10, 3), (11, 7), (12, 0), (12, 1), (12, 2), (12, 3), (12, 7), (12, 15), (13, 0), (13, 1), (13, 2), (13, 3), (13, 7), (13, 15), (14, 0), (14, 1), (14, 2), (14, 3), (14, 7), (14, 15), (15, 0), (15, 1), (15, 2), (15, 3), (15, 7), (15, 15), (16, 15), (17, 15)] [8, 9] [6] (s' := ⟨[(8, hh 0), (9, B (decide (x79 < y205)))], [ar 0 Y76 y215 .tp]⟩) (by kernel_rfl) (by kernel_rfl) ⟨mT K,
    mT K,
    ⟨_, rfl, Stp.litAt 3 K (by kernel_rfl)⟩,
    ⟨_, rfl, Stp.litAt 3 K (by kernel_rfl)⟩,
    mT K,
    mT K,
    ⟨_, rfl, Stp.litAt 4 K (by kernel_rfl)⟩,
    ⟨_, rfl, Stp.litAt 4 K (by kernel_rfl)⟩,
    mT K,
    mT K,
    mT K,
    mT K,
    mT K,
    mT K,
    ⟨_, rfl, Stp.ev K (m := .dp) (φ := InR (0 : Int) x91.length) (by kernel_rfl) g211⟩,
    ⟨_, rfl, Stp.ev K (m := .dp) (φ := InR (0 : Int) x91.length) (by kernel_rfl) g211⟩,
    ⟨_, rfl, Stp.ev K (m := .dp) (φ := InR (0 : Int) x91.length) (by kernel_rfl) g211⟩,
    ⟨_, rfl, Stp.ev K (m := .dp) (φ := InR (0 : Int) x91.length) (by kernel_rfl) g211⟩,
    ⟨_, rfl, Stp.ev K (m := .dp) (φ := InR (0 : Int) x91.length) (by kernel_rfl) g211⟩,
    ⟨_, rfl, Stp.ev K (m := .dp) (φ := InR (0 : Int) x91.length) (by kernel_rfl) g211⟩,
    ⟨_, rfl, Stp.ev K (m := .dp) (φ := (0 : Int).toNat < x91.length) (by kernel_rfl) g212⟩,
    ⟨_, rfl, Stp.ev K (m := .dp) (φ := (0 : Int).toNat < x91.length) (by kernel_rfl) g212⟩,
    ⟨_, rfl, Stp.ev K (m := .dp) (φ := (0 : Int).toNat < x91.length) (by kernel_rfl) g212⟩,
    ⟨_, rfl, Stp.ev K (m := .dp) (φ := (0 : Int).toNat < x91.length) (by kernel_rfl) g212⟩,
    mT K,
    mT K,
    mT K,
    mT K,
    mT K,
    mT K,
    ⟨_, rfl, Stp.ev K (m := .dp) (φ := InR (1 : Int) x91.length) (by kernel_rfl) g213⟩,
    ⟨_, rfl, Stp.ev K (m := .dp) (φ := InR (1 : Int) x91.length) (by kernel_rfl) g213⟩,
    ⟨_, rfl, Stp.ev K (m := .dp) (φ := InR (1 : Int) x91.length) (by kernel_rfl) g213⟩,
    ⟨_, rfl, Stp.ev K (m := .dp) (φ := InR (1 : Int) x91.length) (by kernel_rfl) g213⟩,
    ⟨_, rfl, Stp.ev K (m := .dp) (φ := InR (1 : Int) x91.length) (by kernel_rfl) g213⟩,
    ⟨_, rfl, Stp.ev K (m := .dp) (φ := InR (1 : Int) x91.length) (by kernel_rfl) g213⟩,
    ⟨_, rfl, Stp.ev K (m := .dp) (φ := (1 : Int).toNat < x91.length) (by kernel_rfl) g214⟩,
    ⟨_, rfl, Stp.ev K (m := .dp) (φ := (1 : Int).toNat < x91.length) (by kernel_rfl) g214⟩,
    ⟨_, rfl, Stp.ev K (m := .dp) (φ := (1 : Int).toNat < x91.length) (by kernel_rfl) g214⟩,
    ⟨_, rfl, Stp.ev K (m := .dp) (φ := (1 : Int).toNat < x91.length) (by kernel_rfl) g214⟩,
    ⟨_, rfl, Stp.frz 3 (by kernel_rfl) (Stp.frz 4 (by kernel_rfl) (Stp.litAt 5 K (by kernel_rfl)) (by kernel_rfl)) (by kernel_rfl)⟩,
    ⟨_, rfl, Stp.frz 5 (by kernel_rfl) (Stp.eq (Stp.call false [.t (.sl (.sl Y76))] [] K (d := some 149) (by kernel_rfl) (ok66 N _ hy215) rfl) (by kernel_rfl) (by kernel_rfl)) (by kernel_rfl)⟩,
    mT K,
    mT K,
    mT K,
    mT K,
    mT K,
    mT K,
    mT K,
    mT K,
    mT K,
    mT K,
    mT K,
    mT K,
    mT K,
    mT K,
    mT K,
    mT K,
    mT K,
    mT K,
    mT K,
    mT K,
    mT K,
    mT K,
    mT K,
    mT K,
    mT K,
    mT K, trivial⟩ (by kernel_rfl) ?_
    cases h; exact VW.ret (rt [some 0])
   refine VW.skip <| nR K (tn 6) <| sq <| VW.ghl [.ren [10, 11, 13] [0, 1, 3]] ?_
   have⟨g216,h⟩:=gS h
   have⟨g217,h⟩:=gS h
   have⟨g218,h⟩:=gS h
   have⟨g219,h⟩:=gS h
   have⟨y220,hy220,h⟩:=aS h
   refine VW.gh (Gh.rsv Y76 .tp (by decide)) <| VW.gh (Gh.rsv Y76 .tp (by decide)) <| VW.gh (Gh.rsv (.sl Y76) .tp (by decide)) ?_
   refine VW.drawnM (by kernel_rfl) [some (159, .agg [zi x84, zs x85, zi x86, zi x87, zi x88, zb x89, .v (.sl (.int .i64)) x90]), some (160, .lf (.hd 3 1 none)), some (161, hh 2), some (162, .lf (.ptr 2 0 ((0 : Int).toNat) 0)), some (163, Vv (.sl Y76) (x91.getD ((0 : Int).toNat) (Ty.dflt (.sl Y76)))), some (164, .agg [zi x77, zs x78, zi (wr (x79 - y205)), zi x80, zi x81, zb x82, .v (.sl (.int .i64)) x83]), some (165, .lf (.hd 4 1 none)), some (166, hh 2), some (167, .lf (.ptr 2 0 ((1 : Int).toNat) 0)), some (168, Vv (.sl Y76) (x91.getD ((1 : Int).toNat) (Ty.dflt (.sl Y76)))), some (169, .lf (.hd 5 1 none)), some (170, hh 6), some (171, .lf (.ptr 0 0 0 2)), some (172, I (wr (x79 - y205))), some (173, B (decide ((wr (x79 - y205)) ≥ (0 : Int)))), some (8, hh 6), some (9, B (decide ((wr (x79 - y205)) ≥ (0 : Int))))] [1, 6, 10, 11] [(0, [bx [zi x77, zs x78, zi (wr (x79 - y205)), zi x80, zi x81, zb x82, .v (.sl (.int .i64)) x83] 78, bx [zi x84, zs x85, zi x86, zi x87, zi x88, zb x89, .v (.sl (.int .i64)) x90] 78, ar 0 (.sl Y76) x91 .tp, ar 0 Y76 ([]) .tp, ar 0 Y76 ([]) .tp, ar 0 (.sl Y76) ([]) .tp]), (1, [bx [zi x77, zs x78, zi (wr (x79 - y205)), zi x80, zi x81, zb x82, .v (.sl (.int .i64)) x83] 78, bx [zi x84, zs x85, zi x86, zi x87, zi x88, zb x89, .v (.sl (.int .i64)) x90] 78, ar 0 (.sl Y76) x91 .tp, ar 1 Y76 ([(x84, (x85, (x86, (x87, (x88, (x89, x90))))))]) .tp, ar 0 Y76 ([]) .tp, ar 0 (.sl Y76) ([]) .tp]), (2, [bx [zi x77, zs x78, zi (wr (x79 - y205)), zi x80, zi x81, zb x82, .v (.sl (.int .i64)) x83] 78, bx [zi x84, zs x85, zi x86, zi x87, zi x88, zb x89, .v (.sl (.int .i64)) x90] 78, ar 0 (.sl Y76) x91 .tp, ar 0 Y76 ([]) .tp, ar 1 Y76 ([(x77, (x78, ((wr (x79 - y205)), (x80, (x81, (x82, x83))))))]) .tp, ar 0 (.sl Y76) ([]) .tp]), (3, [bx [zi x77, zs x78, zi (wr (x79 - y205)), zi x80, zi x81, zb x82, .v (.sl (.int .i64)) x83] 78, bx [zi x84, zs x85, zi x86, zi x87, zi x88, zb x89, .v (.sl (.int .i64)) x90] 78, ar 0 (.sl Y76) x91 .tp, ar 1 Y76 ([(x84, (x85, (x86, (x87, (x88, (x89, x90))))))]) .tp, ar 1 Y76 ([(x77, (x78, ((wr (x79 - y205)), (x80, (x81, (x82, x83))))))]) .tp, ar 0 (.sl Y76) ([]) .tp]), (7, [bx [zi x77, zs x78, zi (wr (x79 - y205)), zi x80, zi x81, zb x82, .v (.sl (.int .i64)) x83] 78, bx [zi x84, zs x85, zi x86, zi x87, zi x88, zb x89, .v (.sl (.int .i64)) x90] 78, ar 0 (.sl Y76) x91 .tp, none, none, ar 1 (.sl Y76) ([[(x84, (x85, (x86, (x87, (x88, (x89, x90))))))], (x91.getD ((0 : Int).toNat) (Ty.dflt (.sl Y76))), [(x77, (x78, ((wr (x79 - y205)), (x80, (x81, (x82, x83))))))], (x91.getD ((1 : Int).toNat) (Ty.dflt (.sl Y76)))]) .tp]), (15, [bx [zi x77, zs x78, zi (wr (x79 - y205)), zi x80, zi x81, zb x82, .v (.sl (.int .i64)) x83] 78, bx [zi x84, zs x85, zi x86, zi x87, zi x88, zb x89, .v (.sl (.int .i64)) x90] 78, ar 0 (.sl Y76) x91 .tp, none, none, none, ar 0 Y76 y220 .tp])] [(0, 0), (0, 2), (1, 0), (1, 2), (2, 0), (2, 1), (2, 2), (2, 3), (2, 7), (2, 15), (3, 0), (3, 1), (3, 2), (3, 3), (3, 7), (3, 15), (4, 0), (4, 1), (4, 2), (4, 3), (5, 0), (5, 1), (6, 0), (6, 1), (7, 0), (7, 1), (7, 2), (7, 3), (7, 7), (7, 15), (8, 0), (8, 1), (8, 2), (8, 3), (8, 7), (8, 15), (9, 0), (9, 1), (9, 2), (9, 3), (10, 3), (11, 7), (12, 0), (12, 1), (12, 2), (12, 3), (12, 7), (12, 15), (13, 0), (13, 1), (13, 2), (13, 3), (13, 7), (13, 15), (14, 0), (14, 1), (14, 2), (14, 3), (14, 7), (14, 15), (15, 15), (16, 15)] [8, 9] [6] (s' := ⟨[(8, hh 0), (9, B (decide ((wr (x79 - y205)) ≥ (0 : Int))))], [ar 0 Y76 y220 .tp]⟩) (by kernel_rfl) (by kernel_rfl) ⟨mT K,
    mT K,
    ⟨_, rfl, Stp.litAt 3 K (by kernel_rfl)⟩,
    ⟨_, rfl, Stp.litAt 3 K (by kernel_rfl)⟩,
    mT K,
    mT K,
    mT K,
    mT K,
    mT K,
    mT K,
    ⟨_, rfl, Stp.ev K (m := .dp) (φ := InR (0 : Int) x91.length) (by kernel_rfl) g216⟩,
    ⟨_, rfl, Stp.ev K (m := .dp) (φ := InR (0 : Int) x91.length) (by kernel_rfl) g216⟩,
    ⟨_, rfl, Stp.ev K (m := .dp) (φ := InR (0 : Int) x91.length) (by kernel_rfl) g216⟩,
    ⟨_, rfl, Stp.ev K (m := .dp) (φ := InR (0 : Int) x91.length) (by kernel_rfl) g216⟩,
    ⟨_, rfl, Stp.ev K (m := .dp) (φ := InR (0 : Int) x91.length) (by kernel_rfl) g216⟩,
    ⟨_, rfl, Stp.ev K (m := .dp) (φ := InR (0 : Int) x91.length) (by kernel_rfl) g216⟩,
    ⟨_, rfl, Stp.ev K (m := .dp) (φ := (0 : Int).toNat < x91.length) (by kernel_rfl) g217⟩,
    ⟨_, rfl, Stp.ev K (m := .dp) (φ := (0 : Int).toNat < x91.length) (by kernel_rfl) g217⟩,
    ⟨_, rfl, Stp.ev K (m := .dp) (φ := (0 : Int).toNat < x91.length) (by kernel_rfl) g217⟩,
    ⟨_, rfl, Stp.ev K (m := .dp) (φ := (0 : Int).toNat < x91.length) (by kernel_rfl) g217⟩,
    mT K,
    mT K,
    ⟨_, rfl, Stp.litAt 4 K (by kernel_rfl)⟩,
    ⟨_, rfl, Stp.litAt 4 K (by kernel_rfl)⟩,
    mT K,
    mT K,
    mT K,
    mT K,
    mT K,
    mT K,
    ⟨_, rfl, Stp.ev K (m := .dp) (φ := InR (1 : Int) x91.length) (by kernel_rfl) g218⟩,
    ⟨_, rfl, Stp.ev K (m := .dp) (φ := InR (1 : Int) x91.length) (by kernel_rfl) g218⟩,
    ⟨_, rfl, Stp.ev K (m := .dp) (φ := InR (1 : Int) x91.length) (by kernel_rfl) g218⟩,
    ⟨_, rfl, Stp.ev K (m := .dp) (φ := InR (1 : Int) x91.length) (by kernel_rfl) g218⟩,
    ⟨_, rfl, Stp.ev K (m := .dp) (φ := InR (1 : Int) x91.length) (by kernel_rfl) g218⟩,
    ⟨_, rfl, Stp.ev K (m := .dp) (φ := InR (1 : Int) x91.length) (by kernel_rfl) g218⟩,
    ⟨_, rfl, Stp.ev K (m := .dp) (φ := (1 : Int).toNat < x91.length) (by kernel_rfl) g219⟩,
    ⟨_, rfl, Stp.ev K (m := .dp) (φ := (1 : Int).toNat < x91.length) (by kernel_rfl) g219⟩,
    ⟨_, rfl, Stp.ev K (m := .dp) (φ := (1 : Int).toNat < x91.length) (by kernel_rfl) g219⟩,
    ⟨_, rfl, Stp.ev K (m := .dp) (φ := (1 : Int).toNat < x91.length) (by kernel_rfl) g219⟩,
    ⟨_, rfl, Stp.frz 3 (by kernel_rfl) (Stp.frz 4 (by kernel_rfl) (Stp.litAt 5 K (by kernel_rfl)) (by kernel_rfl)) (by kernel_rfl)⟩,
    ⟨_, rfl, Stp.frz 5 (by kernel_rfl) (Stp.eq (Stp.call false [.t (.sl (.sl Y76))] [] K (d := some 170) (by kernel_rfl) (ok66 N _ hy220) rfl) (by kernel_rfl) (by kernel_rfl)) (by kernel_rfl)⟩,
    mT K,
    mT K,
    mT K,
    mT K,
    mT K,
    mT K,
    mT K,
    mT K,
    mT K,
    mT K,
    mT K,
    mT K,
    mT K,
    mT K,
    mT K,
    mT K,
    mT K,
    mT K,
    mT K,
    mT K, trivial⟩ (by kernel_rfl) ?_
   cases h; exact VW.ret (rt [some 0])
  refine nR K (tn 2) ?_
  refine cnd h ?_ ?_<;>intro h
  ·refine sq ?_
   have⟨g221,h⟩:=gS h
   have⟨g222,h⟩:=gS h
   have⟨y223,hy223,h⟩:=aS h
   refine dr K [(5, .ev [4]), (6, .cl [5] (some 182) [.lf (.own Y76 y223 .tp)])] [(5, 1), (6, 2)] [1, 5, 6] [8, 9] [6] (pu 3 (an g221 (an g222 (tn 4)))) ⟨qE [4] K trivial, qC false [.t (.sl (.sl Y76))] [] [5] (some 182) K (ok66 N _ hy223), trivial⟩ ?_
   cases h; exact VW.ret (rt [some 0])
  refine nR K (tn 2) ?_
  refine cnd h ?_ ?_<;>intro h
  ·refine nR K (tn 2) ?_
   refine VW.join (fun s => ∃ x245, s = ⟨[(10, .lf (.ptr 0 0 0 0)), (13, hh 1), (18, hh 2)], [bx [zi x77, zs x78, zi x79, zi x80, zi x81, zb x82, .v (.sl (.int .i64)) x83] 78, ar 0 (.sl Y76) x91 .tp, ar 0 (.int .i64) x245 .dp]⟩ ∧ F64_j2 N x77 x78 x79 x80 x81 x82 x91 x245 = some r) ?_ ?_
   ·refine nR K (tn 1) <| VW.block <| lop (fun k s => ∃ x256 x257, s = ⟨[(10, .lf (.ptr 0 0 0 0)), (11, .lf (.ptr 1 0 0 0)), (13, hh 2), (18, hh 3), (19, I x257)], [bx [zi x77, zs x78, zi x79, zi x80, zi x81, zb x82, .v (.sl (.int .i64)) x83] 78, bx [zi x84, zs x85, zi x86, zi x87, zi x88, zb x89, .v (.sl (.int .i64)) x90] 78, ar 0 (.sl Y76) x91 .tp, ar 0 (.int .i64) x256 .dp]⟩ ∧ F64_l0 N x77 x78 x79 x80 x81 x82 x83 x90 x91 k x256 x257 = some r) N [.nilS 18 (.int .i64) .dp, .ren [10, 11, 13, 18, 19] [0, 1, 3, 4]] ⟨[], (0 : Int), rfl, h⟩ ?_
    rintro k264 s ⟨x256, x257, rfl, h⟩
    cases k264 with
    | zero => cases show none = some r from h
    | succ k264 =>
     replace h : F64_l0_b N x77 x78 x79 x80 x81 x82 x83 x90 x91 (F64_l0 N x77 x78 x79 x80 x81 x82 x83 x90 x91 k264) x256 x257 = some r := h
     unfold F64_l0_b at h
     refine sq <| nR K (tn 5) ?_
     refine cnd h ?_ ?_<;>intro h
     ·refine VW.skip <| sq <| VW.block ?_
      have⟨g268,h⟩:=gS h
      have⟨g269,h⟩:=gS h
      have⟨g270,h⟩:=gS h
      refine dr K [] [] [10, 11] [10, 11, 13, 18, 19] [0, 1, 2, 3] (pu 6 (an g268 (pu 1 (an g269 (pu 2 (an g270 (tn 1))))))) trivial <| nE K (tn 3) ?_
      exact aro [.ren [10, 11, 13, 18, 19] [0, 1, 2, 3]] ⟨(x256 ++ ([(x90.getD (x83.getD x257.toNat (Ty.dflt (.int .i64))).toNat (Ty.dflt (.int .i64)))])), (wr (x257 + (1 : Int))), rfl, h⟩
     refine VW.exit ?_
     exact arv [.ren [10, 13, 18] [0, 2, 3]] ⟨x256, rfl, h⟩
   rintro s ⟨x245, rfl, h⟩
   unfold F64_j2 at h
   refine nR K (tn 3) <| sq ?_
   have⟨g246,h⟩:=gS h
   have⟨g247,h⟩:=gS h
   have⟨y248,hy248,h⟩:=aS h
   refine dr K [(1, .ev [2]), (5, .ev [3]), (6, .cl [4] (some 213) [.lf (.own Y76 y248 .tp)])] [(1, 0), (5, 1), (6, 2)] [1, 5, 6] [8, 9] [5] (pu 3 (an g246 (an g247 (tn 4)))) ⟨qE [2] K trivial, qE [3] K trivial, qC false [.t (.sl (.sl Y76))] [] [4] (some 213) K (ok66 N _ hy248), trivial⟩ ?_
   cases h; exact VW.ret (rt [some 0])
  refine VW.skip ?_
  exact arv [.ren [10, 11, 13] [0, 1, 3]] ⟨rfl, h⟩
 rintro s ⟨rfl, h⟩
 unfold F64_j0 at h
 have⟨g180,h⟩:=gS h
 refine nR K (pu 4 (an g180 (tn 3))) <| sq <| VW.ghl [.ren [10, 11, 13] [0, 1, 2]] ?_
 have⟨g181,h⟩:=gS h
 have⟨g182,h⟩:=gS h
 have⟨y183,hy183,h⟩:=aS h
 refine VW.gh (Gh.rsv Y76 .tp (by decide)) <| VW.gh (Gh.rsv Y76 .tp (by decide)) <| VW.gh (Gh.rsv (.sl Y76) .tp (by decide)) ?_
 refine VW.drawnM (by kernel_rfl) [some (221, .agg [zi x84, zs x85, zi x86, zi x87, zi x88, zb x89, .v (.sl (.int .i64)) x90]), some (222, .lf (.hd 3 1 none)), some (223, .agg [zi x77, zs x78, zi (x90.getD x79.toNat (Ty.dflt (.int .i64))), zi x80, zi x81, zb x82, .v (.sl (.int .i64)) x83]), some (224, .lf (.hd 4 1 none)), some (225, hh 2), some (226, .lf (.ptr 2 0 ((0 : Int).toNat) 0)), some (227, Vv (.sl Y76) (x91.getD ((0 : Int).toNat) (Ty.dflt (.sl Y76)))), some (228, .lf (.hd 5 1 none)), some (229, hh 6), some (8, hh 6), some (9, B true)] [1, 3, 7, 8] [(0, [bx [zi x77, zs x78, zi (x90.getD x79.toNat (Ty.dflt (.int .i64))), zi x80, zi x81, zb x82, .v (.sl (.int .i64)) x83] 78, bx [zi x84, zs x85, zi x86, zi x87, zi x88, zb x89, .v (.sl (.int .i64)) x90] 78, ar 0 (.sl Y76) x91 .tp, ar 0 Y76 ([]) .tp, ar 0 Y76 ([]) .tp, ar 0 (.sl Y76) ([]) .tp]), (1, [bx [zi x77, zs x78, zi (x90.getD x79.toNat (Ty.dflt (.int .i64))), zi x80, zi x81, zb x82, .v (.sl (.int .i64)) x83] 78, bx [zi x84, zs x85, zi x86, zi x87, zi x88, zb x89, .v (.sl (.int .i64)) x90] 78, ar 0 (.sl Y76) x91 .tp, ar 1 Y76 ([(x84, (x85, (x86, (x87, (x88, (x89, x90))))))]) .tp, ar 0 Y76 ([]) .tp, ar 0 (.sl Y76) ([]) .tp]), (2, [bx [zi x77, zs x78, zi (x90.getD x79.toNat (Ty.dflt (.int .i64))), zi x80, zi x81, zb x82, .v (.sl (.int .i64)) x83] 78, bx [zi x84, zs x85, zi x86, zi x87, zi x88, zb x89, .v (.sl (.int .i64)) x90] 78, ar 0 (.sl Y76) x91 .tp, ar 0 Y76 ([]) .tp, ar 1 Y76 ([(x77, (x78, ((x90.getD x79.toNat (Ty.dflt (.int .i64))), (x80, (x81, (x82, x83))))))]) .tp, ar 0 (.sl Y76) ([]) .tp]), (3, [bx [zi x77, zs x78, zi (x90.getD x79.toNat (Ty.dflt (.int .i64))), zi x80, zi x81, zb x82, .v (.sl (.int .i64)) x83] 78, bx [zi x84, zs x85, zi x86, zi x87, zi x88, zb x89, .v (.sl (.int .i64)) x90] 78, ar 0 (.sl Y76) x91 .tp, ar 1 Y76 ([(x84, (x85, (x86, (x87, (x88, (x89, x90))))))]) .tp, ar 1 Y76 ([(x77, (x78, ((x90.getD x79.toNat (Ty.dflt (.int .i64))), (x80, (x81, (x82, x83))))))]) .tp, ar 0 (.sl Y76) ([]) .tp]), (7, [bx [zi x77, zs x78, zi (x90.getD x79.toNat (Ty.dflt (.int .i64))), zi x80, zi x81, zb x82, .v (.sl (.int .i64)) x83] 78, bx [zi x84, zs x85, zi x86, zi x87, zi x88, zb x89, .v (.sl (.int .i64)) x90] 78, ar 0 (.sl Y76) x91 .tp, none, none, ar 1 (.sl Y76) ([[(x84, (x85, (x86, (x87, (x88, (x89, x90))))))], [(x77, (x78, ((x90.getD x79.toNat (Ty.dflt (.int .i64))), (x80, (x81, (x82, x83))))))], (x91.getD ((0 : Int).toNat) (Ty.dflt (.sl Y76)))]) .tp]), (15, [bx [zi x77, zs x78, zi (x90.getD x79.toNat (Ty.dflt (.int .i64))), zi x80, zi x81, zb x82, .v (.sl (.int .i64)) x83] 78, bx [zi x84, zs x85, zi x86, zi x87, zi x88, zb x89, .v (.sl (.int .i64)) x90] 78, ar 0 (.sl Y76) x91 .tp, none, none, none, ar 0 Y76 y183 .tp])] [(0, 0), (0, 2), (1, 0), (1, 2), (2, 0), (2, 1), (3, 0), (3, 1), (4, 0), (4, 1), (4, 2), (4, 3), (4, 7), (4, 15), (5, 0), (5, 1), (5, 2), (5, 3), (5, 7), (5, 15), (6, 0), (6, 1), (6, 2), (6, 3), (7, 3), (8, 7), (9, 15), (10, 15)] [8, 9] [6] (s' := ⟨[(8, hh 0), (9, B true)], [ar 0 Y76 y183 .tp]⟩) (by kernel_rfl) (by kernel_rfl) ⟨mT K,
    mT K,
    ⟨_, rfl, Stp.litAt 3 K (by kernel_rfl)⟩,
    ⟨_, rfl, Stp.litAt 3 K (by kernel_rfl)⟩,
    mT K,
    mT K,
    ⟨_, rfl, Stp.litAt 4 K (by kernel_rfl)⟩,
    ⟨_, rfl, Stp.litAt 4 K (by kernel_rfl)⟩,
    mT K,
    mT K,
    mT K,
    mT K,
    mT K,
    mT K,
    ⟨_, rfl, Stp.ev K (m := .dp) (φ := InR (0 : Int) x91.length) (by kernel_rfl) g181⟩,
    ⟨_, rfl, Stp.ev K (m := .dp) (φ := InR (0 : Int) x91.length) (by kernel_rfl) g181⟩,
    ⟨_, rfl, Stp.ev K (m := .dp) (φ := InR (0 : Int) x91.length) (by kernel_rfl) g181⟩,
    ⟨_, rfl, Stp.ev K (m := .dp) (φ := InR (0 : Int) x91.length) (by kernel_rfl) g181⟩,
    ⟨_, rfl, Stp.ev K (m := .dp) (φ := InR (0 : Int) x91.length) (by kernel_rfl) g181⟩,
    ⟨_, rfl, Stp.ev K (m := .dp) (φ := InR (0 : Int) x91.length) (by kernel_rfl) g181⟩,
    ⟨_, rfl, Stp.ev K (m := .dp) (φ := (0 : Int).toNat < x91.length) (by kernel_rfl) g182⟩,
    ⟨_, rfl, Stp.ev K (m := .dp) (φ := (0 : Int).toNat < x91.length) (by kernel_rfl) g182⟩,
    ⟨_, rfl, Stp.ev K (m := .dp) (φ := (0 : Int).toNat < x91.length) (by kernel_rfl) g182⟩,
    ⟨_, rfl, Stp.ev K (m := .dp) (φ := (0 : Int).toNat < x91.length) (by kernel_rfl) g182⟩,
    ⟨_, rfl, Stp.frz 3 (by kernel_rfl) (Stp.frz 4 (by kernel_rfl) (Stp.litAt 5 K (by kernel_rfl)) (by kernel_rfl)) (by kernel_rfl)⟩,
    ⟨_, rfl, Stp.frz 5 (by kernel_rfl) (Stp.eq (Stp.call false [.t (.sl (.sl Y76))] [] K (d := some 229) (by kernel_rfl) (ok66 N _ hy183) rfl) (by kernel_rfl) (by kernel_rfl)) (by kernel_rfl)⟩,
    mT K,
    mT K, trivial⟩ (by kernel_rfl) ?_
 cases h; exact VW.ret (rt [some 0])
def F21 (N : Nat) (a0 : (List Z82)) (a1 : (List Z76)) (a2 : Z35) : Option ((List Z76) × Bool) :=
  andO (F60 N a1) fun y1 => andO (F61 N a0 a1) fun y5 => cond (!y5) (some (y1, false)) (andO (F62 N a2.1 (0 : Int) (11 : Int)) fun y6 => cond (!y6) (some (y1, false)) (andO (F62 N a2.2 (0 : Int) (IntKind.i64.wrap ((a1.length : Int) - (2 : Int)))) fun y7 => cond (!y7) (some (y1, false)) (andO (F63 N a2.1) fun y8 => gd (InR a2.2 a1.length) (cond (((a1.getD a2.2.toNat (Ty.dflt Y76)).1) != y8.1) (some (y1, false)) (gd (InR (IntKind.i64.wrap (a2.2 + (1 : Int))) a1.length) (cond (((a1.getD (IntKind.i64.wrap (a2.2 + (1 : Int))).toNat (Ty.dflt Y76)).1) != y8.2) (some (y1, false)) (andO (F64 N a0 a1 a2.1 a2.2) fun y13 => cond (!y13.2) (some (y1, false)) (andO (F65 N a1 a2.2 (10 : Int)) fun y14 => gd (0 ≤ a2.2 ∧ a2.2 ≤ (a1.length : Int)) (gd (0 ≤ y14.1 ∧ y14.1 ≤ (a1.length : Int)) (andO (F66 N ([(a1.take a2.2.toNat), y13.1, (a1.drop y14.1.toNat)])) fun y17 => andO (F67 N y17) fun y19 => cond (!y19) (some (y1, false)) (some (y17, true))))))))))))
theorem ok21 N a0 a1 a2 {r} (h : F21 N a0 a1 a2 = some r) : Con prog 21 [Vv (.sl Y82) a0, Vv (.sl Y76) a1, .agg (lv Y35 a2)] [.lf (.v (.sl Y76) r.1), .lf (.v .bool r.2)] := by
 refine ctr [.lf (.v (.sl Y76)), .lf (.v .bool)] K func21 rfl fun w0 E0 ht => ?_
 unfold F21 at h
 show VW _ _ _ _ _ (retQ _ _ _ _) _
 refine nR K (tn 3) <| sq <| VW.region <| nG K 1 (tn 1) ?_
 have⟨y1,hy,h⟩:=aS h
 refine cal false [.t (.sl Y76)] [] (some 17) K (ok60 N _ hy) <| nN K (tn 1) <| sq <| sq <| VW.region <| nG K 2 (tn 2) ?_
 have⟨y5,hy,h⟩:=aS h
 refine cal false [.t (.sl Y82), .t (.sl Y76)] [] (some 20) K (ok61 N _ _ hy) <| nG K 2 (tn 2) ?_
 refine spB 22 h ?_ ?_<;>intro h
 ·refine sNh K [0, 1, 5, 8, 36] [0, 1] [(0, Vv (.sl Y82) a0), (1, Vv (.sl Y76) a1), (5, .lf (.ptr 0 0 0 0)), (8, hh 1), (36, B true)] (tn 14) ?_
  refine VW.cond (b := true) (by kernel_rfl) (fun _ => ?_) (fun h' => nomatch h')
  refine nR K (tn 3) ?_
  cases h; exact VW.ret (rt [])
 refine sGh K 2 [0, 1, 5, 8, 22, 24] [0, 1] [(0, Vv (.sl Y82) a0), (1, Vv (.sl Y76) a1), (5, .lf (.ptr 0 0 0 0)), (8, hh 1), (22, B false), (24, I a2.1)] (tn 2) <| VO.on (j := 4) (want := false) (d := 22) (b := false) rfl rfl rfl (by kernel_rfl) rfl ?_
 have⟨y6,hy,h⟩:=aS h
 refine cal false [.t (.int .i64), .t (.int .i64), .t (.int .i64)] [] (some 25) K (ok62 N _ _ _ hy) <| nG K 3 (tn 3) ?_
 refine spB 28 h ?_ ?_<;>intro h
 ·refine nN K (tn 8) ?_
  refine VW.cond (b := true) (by kernel_rfl) (fun _ => ?_) (fun h' => nomatch h')
  refine nR K (tn 3) ?_
  cases h; exact VW.ret (rt [])
 refine nG K 5 (tn 5) <| VO.on (j := 10) (want := false) (d := 28) (b := false) rfl rfl rfl (by kernel_rfl) rfl ?_
 have⟨y7,hy,h⟩:=aS h
 refine cal false [.t (.int .i64), .t (.int .i64), .t (.int .i64)] [] (some 34) K (ok62 N _ _ _ hy) <| nN K (tn 2) ?_
 refine cnd h ?_ ?_<;>intro h
 ·refine nR K (tn 3) ?_
  cases h; exact VW.ret (rt [])
 refine VW.skip <| sq <| VW.region <| nG K 2 (tn 2) ?_
 have⟨y8,hy,h⟩:=aS h
 refine cal false [.t (.int .i64)] [] (some 41) K (ok63 N _ hy) <| nN K (tn 5) <| sq <| sq <| VW.region ?_
 have⟨g11,h⟩:=gS h
 refine sGh K 9 [0, 1, 5, 8, 10, 52] [0, 1] [(0, Vv (.sl Y82) a0), (1, Vv (.sl Y76) a1), (5, .lf (.ptr 0 0 0 0)), (8, hh 1), (10, I y8.2), (52, B (((a1.getD a2.2.toNat D76).1) != y8.1))] (pu 3 (an g11 (tn 5))) ?_
 refine spB 52 h ?_ ?_<;>intro h
 ·refine nN K (tn 10) ?_
  refine VW.cond (b := true) (by kernel_rfl) (fun _ => ?_) (fun h' => nomatch h')
  refine nR K (tn 3) ?_
  cases h; exact VW.ret (rt [])
 have⟨g12,h⟩:=gS h
 refine nN K (pu 4 (an g12 (tn 5))) ?_
 refine cnd h ?_ ?_<;>intro h
 ·refine nR K (tn 3) ?_
  cases h; exact VW.ret (rt [])
 refine VW.skip <| sq <| VW.region <| nG K 6 (tn 6) ?_
 have⟨y13,hy,h⟩:=aS h
 refine cal false [.t (.sl Y82), .t (.sl Y76), .t (.int .i64), .t (.int .i64)] [] (some 71) K (ok64 N _ _ _ _ hy) <| nN K (tn 5) <| sq <| nR K (tn 2) ?_
 refine cnd h ?_ ?_<;>intro h
 ·refine nR K (tn 3) ?_
  cases h; exact VW.ret (rt [])
 refine VW.skip <| sq <| VW.region <| nG K 3 (tn 3) ?_
 have⟨y14,hy,h⟩:=aS h
 refine cal false [.t (.sl Y76), .t (.int .i64), .t (.int .i64)] [] (some 81) K (ok65 N _ _ _ hy) <| sNh K [1, 5, 8, 11, 13] [0, 1, 2] [(1, Vv (.sl Y76) a1), (5, .lf (.ptr 0 0 0 0)), (8, hh 1), (11, hh 2), (13, I y14.1)] (tn 5) <| sq ?_
 have⟨g15,h⟩:=gS h
 have⟨g16,h⟩:=gS h
 have⟨y17,hy17,h⟩:=aS h
 refine dr K [(8, .ev [2]), (9, .cl [3] (some 93) [.lf (.own Y76 y17 .tp)])] [(8, 0), (9, 1)] [8, 9] [8, 15] [1, 4] (pu 3 (an g15 (pu 3 (an g16 (tn 3))))) ⟨qE [2] K trivial, qC false [.t (.sl (.sl Y76))] [] [3] (some 93) K (ok66 N _ hy17), trivial⟩ <| sq <| sq <| VW.region <| nG K 1 (tn 1) ?_
 have⟨y19,hy,h⟩:=aS h
 refine cal true [.t (.sl Y76)] [] (some 95) K (ok67 N _ hy) <| nN K (tn 1) ?_
 refine cnd h ?_ ?_<;>intro h
 ·refine nR K (tn 3) ?_
  cases h; exact VW.ret (rt [])
 refine VW.skip <| nR K (tn 3) ?_
 cases h; exact VW.ret (rt [])
def F68 (N : Nat) (a0 : Z82) : Option (Z82) :=
  some a0
theorem ok68 N a0 {r} (h : F68 N a0 = some r) : Con prog 68 [.agg (lv Y82 a0)] [.agg [.v .str r.1, .v (.int .i64) r.2]] := by
 refine ctr [.agg [.v .str, .v (.int .i64)]] K func68 rfl fun w0 E0 ht => ?_
 unfold F68 at h
 show VW _ _ _ _ _ (retQ _ _ _ _) _
 refine nR K (tn 2) <| nR K (tn 1) <| nR K (tn 4) <| nR K (tn 4) <| nR K (tn 2) ?_
 cases h; exact VW.ret (rt [])
def F22_j0 (N : Nat) (x30 : (List Z82)) : Option ((List Z82)) :=
  some x30
def F22_l0_b (N : Nat) (a0 : (List Z82)) (nx51 : (List Z82) → Int → Option ((List Z82))) (x41 : (List Z82)) (x42 : Int) : Option ((List Z82)) :=
  cond (decide (x42 < (a0.length : Int))) (gd (InR x42 a0.length) (andO (F68 N (a0.getD x42.toNat (Ty.dflt Y82))) fun y57 => gd (InR x42 x41.length) (gd (x42.toNat < x41.length) (nx51 (x41.set x42.toNat y57) (IntKind.i64.wrap (x42 + (1 : Int))))))) (F22_j0 N x41)
def F22_l0 (N : Nat) (a0 : (List Z82)) := loopF (F22_l0_b N a0) (fun _ _ => none)
theorem F22_l0_s N a0 {k} (hk : 0 < k) x41 x42 : F22_l0 N a0 k x41 x42 = F22_l0_b N a0 (F22_l0 N a0 (k - 1)) x41 x42 := by cases k;cases hk;rfl
def F22 (N : Nat) (a0 : (List Z82)) : Option ((List Z82)) :=
  gd (0 ≤ (a0.length : Int) ∧ (a0.length : Int) ≤ (lim Y82 : Int) ∧ (a0.length : Int) = (a0.length : Int)) (F22_l0 N a0 N (List.replicate (a0.length : Int).toNat (Ty.dflt Y82)) (0 : Int))
theorem ok22 N a0 {r} (h : F22 N a0 = some r) : Con prog 22 [Vv (.sl Y82) a0] [.lf (.own Y82 r .dp)] := by
 refine ctr [.lf (.own Y82 .dp)] K func22 rfl fun w0 E0 ht => ?_
 unfold F22 at h
 show VW _ _ _ _ _ (retQ _ _ _ _) _
 refine nR K (tn 1) ?_
 have⟨g1,h⟩:=gS h
 refine nR K (pu 2 (an g1 (tn 1))) ?_
 refine VW.join (fun s => ∃ x30, s = ⟨[(3, hh 0)], [ar 0 Y82 x30 .dp]⟩ ∧ F22_j0 N x30 = some r) ?_ ?_
 ·refine nR K (tn 1) <| VW.block <| lop (fun k s => ∃ x41 x42, s = ⟨[(0, Vv (.sl Y82) a0), (3, hh 0), (4, I x42)], [ar 0 Y82 x41 .dp]⟩ ∧ F22_l0 N a0 k x41 x42 = some r) N [.ren [0, 3, 4] [0]] ⟨(List.replicate (a0.length : Int).toNat D82), (0 : Int), rfl, h⟩ ?_
  rintro k51 s ⟨x41, x42, rfl, h⟩
  cases k51 with
  | zero => cases show none = some r from h
  | succ k51 =>
   replace h : F22_l0_b N a0 (F22_l0 N a0 k51) x41 x42 = some r := h
   unfold F22_l0_b at h
   refine sq <| nR K (tn 4) ?_
   refine cnd h ?_ ?_<;>intro h
   ·refine VW.skip <| sq <| VW.block <| VW.region ?_
    have⟨g56,h⟩:=gS h
    refine nG K 6 (pu 4 (an g56 (tn 1))) ?_
    have⟨y57,hy,h⟩:=aS h
    refine cal false [.t Y82] [] (some 20) K (ok68 N _ hy) ?_
    have⟨g58,h⟩:=gS h
    have⟨g59,h⟩:=gS h
    refine nN K (an g58 (an g59 (tn 0))) <| nE K (tn 3) ?_
    exact aro [.ren [0, 3, 4] [0]] ⟨(x41.set x42.toNat y57), (wr (x42 + (1 : Int))), rfl, h⟩
   refine VW.exit ?_
   exact arv [.ren [3] [0]] ⟨x41, rfl, h⟩
 rintro s ⟨x30, rfl, h⟩
 unfold F22_j0 at h
 refine nR K (tn 2) ?_
 cases h; exact VW.ret (rt [some 0])
def F23 (N : Nat) (a0 : Z35) : Option (Z35) :=
  some a0
theorem ok23 N a0 {r} (h : F23 N a0 = some r) : Con prog 23 [.agg (lv Y35 a0)] [.agg [.v (.int .i64) r.1, .v (.int .i64) r.2]] := by
 refine ctr [.agg [.v (.int .i64), .v (.int .i64)]] K func23 rfl fun w0 E0 ht => ?_
 unfold F23 at h
 show VW _ _ _ _ _ (retQ _ _ _ _) _
 refine nR K (tn 2) <| nR K (tn 1) <| nR K (tn 4) <| nR K (tn 4) <| nR K (tn 2) ?_
 cases h; exact VW.ret (rt [])
def F148_j0 (N : Nat) (a0 : (List Z82)) : Option (Bool) :=
  some (decide ((a0.length : Int) ≤ (8 : Int)))
def F148_j1 (N : Nat) (nx84 : Int → Int → Option (Bool)) (x67 : Int) (x68 : Int) : Option (Bool) :=
  nx84 x67 (IntKind.i64.wrap (x68 + (1 : Int)))
def F148_l0_b (N : Nat) (a0 : (List Z82)) (nx84 : Int → Int → Option (Bool)) (x67 : Int) (x68 : Int) : Option (Bool) :=
  cond (decide (x68 < x67)) (gd (InR x68 a0.length) (andO (F159 N ((a0.getD x68.toNat (Ty.dflt Y82)).1)) fun y94 => cond (!y94) (some false) (andO (F91 N ((a0.getD x68.toNat (Ty.dflt Y82)).2) (1 : Int) (6 : Int)) fun y96 => cond (!y96) (some false) (cond (decide (x68 > (0 : Int))) (gd (InR (IntKind.i64.wrap (x68 - (1 : Int))) a0.length) (cond (!(Op.bytesLess ((a0.getD (IntKind.i64.wrap (x68 - (1 : Int))).toNat (Ty.dflt Y82)).1).toList ((a0.getD x68.toNat (Ty.dflt Y82)).1).toList)) (some false) (F148_j1 N nx84 x67 x68))) (F148_j1 N nx84 x67 x68))))) (F148_j0 N a0)
def F148_l0 (N : Nat) (a0 : (List Z82)) := loopF (F148_l0_b N a0) (fun _ _ => none)
theorem F148_l0_s N a0 {k} (hk : 0 < k) x67 x68 : F148_l0 N a0 k x67 x68 = F148_l0_b N a0 (F148_l0 N a0 (k - 1)) x67 x68 := by cases k;cases hk;rfl
def F148 (N : Nat) (a0 : (List Z82)) : Option (Bool) :=
  F148_l0 N a0 N (a0.length : Int) (0 : Int)
theorem ok148 N a0 {r} (h : F148 N a0 = some r) : Con prog 148 [Vv (.sl Y82) a0] [.lf (.v .bool r)] := by
 refine ctr [.lf (.v .bool)] K func148 rfl fun w0 E0 ht => ?_
 unfold F148 at h
 show VW _ _ _ _ _ (retQ _ _ _ _) _
 refine nR K (tn 1) ?_
 refine VW.join (fun s => s = ⟨[(0, Vv (.sl Y82) a0)], []⟩ ∧ F148_j0 N a0 = some r) ?_ ?_
 ·refine nR K (tn 3) <| VW.block <| lop (fun k s => ∃ x67 x68, s = ⟨[(0, Vv (.sl Y82) a0), (5, Vv (.sl Y82) a0), (6, I x67), (7, I x68)], []⟩ ∧ F148_l0 N a0 k x67 x68 = some r) N [.ren [0, 5, 6, 7] []] ⟨(a0.length : Int), (0 : Int), rfl, h⟩ ?_
  rintro k84 s ⟨x67, x68, rfl, h⟩
  cases k84 with
  | zero => cases show none = some r from h
  | succ k84 =>
   replace h : F148_l0_b N a0 (F148_l0 N a0 k84) x67 x68 = some r := h
   unfold F148_l0_b at h
   refine nR K (tn 1) <| sq ?_
   refine cnd h ?_ ?_<;>intro h
   ·refine VW.skip ?_
    refine VW.join (fun s => s = ⟨[(0, Vv (.sl Y82) a0), (5, Vv (.sl Y82) a0), (6, I x67), (7, I x68)], []⟩ ∧ F148_j1 N (F148_l0 N a0 k84) x67 x68 = some r) ?_ ?_
    ·refine VW.block ?_
     have⟨g93,h⟩:=gS h
     refine nR K (pu 1 (an g93 (tn 4))) <| sq ?_
     have⟨y94,hy94,h⟩:=aS h
     rcases Bool.eq_false_or_eq_true (!y94) with hb95 | hb95
     ·replace h := cond_t h hb95
      refine dr K [(2, .cl [] (some 14) [.lf (.v .bool y94)]), (4, .lit true)] [(2, 0), (4, 0)] [] [0, 5, 6, 7, 36] [] (tn 25) ⟨qC false [.t .str] [] [] (some 14) K (ok159 N _ hy94), qB 16 hb95 K trivial, trivial⟩ ?_
      refine VW.cond (b := true) (by kernel_rfl) (fun _ => ?_) (fun h' => nomatch h')
      refine nR K (tn 1) ?_
      cases h; exact VW.ret (rt [])
     replace h := cond_f h hb95
     have⟨y96,hy96,h⟩:=aS h
     rcases Bool.eq_false_or_eq_true (!y96) with hb97 | hb97
     ·replace h := cond_t h hb97
      refine dr K [(2, .cl [] (some 14) [.lf (.v .bool y94)]), (4, .lit false), (7, .cl [] (some 19) [.lf (.v .bool y96)]), (10, .lit true)] [(2, 0), (4, 0), (7, 0), (10, 0)] [] [0, 5, 6, 7, 36] [] (tn 25) ⟨qC false [.t .str] [] [] (some 14) K (ok159 N _ hy94), qB 16 hb95 K trivial, qC false [.t (.int .i64), .t (.int .i64), .t (.int .i64)] [] [] (some 19) K (ok91 N _ _ _ hy96), qB 22 hb97 K trivial, trivial⟩ ?_
      refine VW.cond (b := true) (by kernel_rfl) (fun _ => ?_) (fun h' => nomatch h')
      refine nR K (tn 1) ?_
      cases h; exact VW.ret (rt [])
     replace h := cond_f h hb97
     rcases Bool.eq_false_or_eq_true (decide (x68 > (0 : Int))) with hb98 | hb98
     ·replace h := cond_t h hb98
      have⟨g99,h⟩:=gS h
      refine dr K [(2, .cl [] (some 14) [.lf (.v .bool y94)]), (4, .lit false), (7, .cl [] (some 19) [.lf (.v .bool y96)]), (10, .lit false), (13, .lit true)] [(2, 0), (4, 0), (7, 0), (10, 0), (13, 0)] [] [0, 5, 6, 7, 36] [] (pu 17 (an g99 (tn 7))) ⟨qC false [.t .str] [] [] (some 14) K (ok159 N _ hy94), qB 16 hb95 K trivial, qC false [.t (.int .i64), .t (.int .i64), .t (.int .i64)] [] [] (some 19) K (ok91 N _ _ _ hy96), qB 22 hb97 K trivial, qB 25 hb98 K trivial, trivial⟩ ?_
      refine cnd h ?_ ?_<;>intro h
      ·refine nR K (tn 1) ?_
       cases h; exact VW.ret (rt [])
      refine VW.skip ?_
      exact arv [.ren [0, 5, 6, 7] []] ⟨rfl, h⟩
     replace h := cond_f h hb98
     refine dr K [(2, .cl [] (some 14) [.lf (.v .bool y94)]), (4, .lit false), (7, .cl [] (some 19) [.lf (.v .bool y96)]), (10, .lit false), (13, .lit false)] [(2, 0), (4, 0), (7, 0), (10, 0), (13, 0)] [] [0, 5, 6, 7, 36] [] (tn 25) ⟨qC false [.t .str] [] [] (some 14) K (ok159 N _ hy94), qB 16 hb95 K trivial, qC false [.t (.int .i64), .t (.int .i64), .t (.int .i64)] [] [] (some 19) K (ok91 N _ _ _ hy96), qB 22 hb97 K trivial, qB 25 hb98 K trivial, trivial⟩ ?_
     refine VW.cond (b := false) (by kernel_rfl) (fun h' => nomatch h') (fun _ => ?_)
     refine VW.skip ?_
     exact arv [.ren [0, 5, 6, 7] []] ⟨rfl, h⟩
    rintro s ⟨rfl, h⟩
    unfold F148_j1 at h
    refine nE K (tn 2) ?_
    exact aro [.ren [0, 5, 6, 7] []] ⟨x67, (wr (x68 + (1 : Int))), rfl, h⟩
   refine VW.exit ?_
   exact arv [.ren [0] []] ⟨rfl, h⟩
 rintro s ⟨rfl, h⟩
 unfold F148_j0 at h
 refine nR K (tn 4) ?_
 cases h; exact VW.ret (rt [])
def F151_j0 (N : Nat) (x20 : (List Int)) : Option ((List Int)) :=
  some x20
def F151_l0_b (N : Nat) (a0 : (List Z76)) (y23 : Int) (nx36 : (List Int) → Int → Int → Option ((List Int))) (x29 : (List Int)) (x30 : Int) (x31 : Int) : Option ((List Int)) :=
  cond (decide (x31 < y23)) (gd (x29.length + ([x30]).length ≤ lim (.int .i64)) (andO (F113 N a0 x30 (1 : Int)) fun y40 => nx36 (x29 ++ ([x30])) y40 (IntKind.i64.wrap (x31 + (1 : Int))))) (F151_j0 N x29)
def F151_l0 (N : Nat) (a0 : (List Z76)) (y23 : Int) := loopF (F151_l0_b N a0 y23) (fun _ _ _ => none)
theorem F151_l0_s N a0 y23 {k} (hk : 0 < k) x29 x30 x31 : F151_l0 N a0 y23 k x29 x30 x31 = F151_l0_b N a0 y23 (F151_l0 N a0 y23 (k - 1)) x29 x30 x31 := by cases k;cases hk;rfl
def F151 (N : Nat) (a0 : (List Z76)) (a1 : Int) : Option ((List Int)) :=
  gd (InR a1 a0.length) (andO (F153 N ((a0.getD a1.toNat (Ty.dflt Y76)).1)) fun y23 => F151_l0 N a0 y23 N ([]) (IntKind.i64.wrap (a1 + (1 : Int))) (0 : Int))
theorem ok151 N a0 a1 {r} (h : F151 N a0 a1 = some r) : Con prog 151 [Vv (.sl Y76) a0, I a1] [.lf (.own (.int .i64) r .dp)] := by
 refine ctr [.lf (.own (.int .i64) .dp)] K func151 rfl fun w0 E0 ht => ?_
 unfold F151 at h
 show VW _ _ _ _ _ (retQ _ _ _ _) _
 refine nR K (tn 1) <| nR K (tn 1) <| nR K (tn 3) ?_
 refine VW.join (fun s => ∃ x20, s = ⟨[(5, hh 0)], [ar 0 (.int .i64) x20 .dp]⟩ ∧ F151_j0 N x20 = some r) ?_ ?_
 ·refine sq <| VW.region ?_
  have⟨g22,h⟩:=gS h
  refine nG K 5 (pu 2 (an g22 (tn 2))) ?_
  have⟨y23,hy,h⟩:=aS h
  refine cal false [.t (.int .i64)] [] (some 14) K (ok153 N _ hy) <| nN K (tn 1) <| VW.block <| lop (fun k s => ∃ x29 x30 x31, s = ⟨[(0, Vv (.sl Y76) a0), (5, hh 0), (6, I x30), (14, I y23), (15, I x31)], [ar 0 (.int .i64) x29 .dp]⟩ ∧ F151_l0 N a0 y23 k x29 x30 x31 = some r) N [.nilS 5 (.int .i64) .dp, .ren [0, 5, 6, 14, 15] [0]] ⟨[], (wr (a1 + (1 : Int))), (0 : Int), rfl, h⟩ ?_
  rintro k36 s ⟨x29, x30, x31, rfl, h⟩
  cases k36 with
  | zero => cases show none = some r from h
  | succ k36 =>
   replace h : F151_l0_b N a0 y23 (F151_l0 N a0 y23 k36) x29 x30 x31 = some r := h
   unfold F151_l0_b at h
   refine nR K (tn 1) <| sq ?_
   refine cnd h ?_ ?_<;>intro h
   ·refine VW.skip <| sq <| VW.block ?_
    have⟨g39,h⟩:=gS h
    refine nR K (pu 3 (an g39 (tn 1))) <| VW.region <| nG K 2 (tn 2) ?_
    have⟨y40,hy,h⟩:=aS h
    refine cal false [.t (.sl Y76), .t (.int .i64), .t (.int .i64)] [] (some 23) K (ok113 N _ _ _ hy) <| nN K (tn 1) <| nE K (tn 2) ?_
    exact aro [.ren [0, 5, 6, 14, 15] [0]] ⟨(x29 ++ ([x30])), y40, (wr (x31 + (1 : Int))), rfl, h⟩
   refine VW.exit ?_
   exact arv [.ren [5] [0]] ⟨x29, rfl, h⟩
 rintro s ⟨x20, rfl, h⟩
 unfold F151_j0 at h
 refine nR K (tn 2) ?_
 cases h; exact VW.ret (rt [some 0])
def F170_j0 (N : Nat) : Option (Int) :=
  some (-1 : Int)
def F170_l0_b (N : Nat) (a0 : (List Z82)) (p1 : Z82 → Option (Bool)) (nx29 : Int → Int → Option (Int)) (x23 : Int) (x24 : Int) : Option (Int) :=
  cond (decide (x24 < x23)) (gd (InR x24 a0.length) (andO (p1 (a0.getD x24.toNat (Ty.dflt Y82))) fun y33 => cond y33 (some x24) (nx29 x23 (IntKind.i64.wrap (x24 + (1 : Int)))))) (F170_j0 N)
def F170_l0 (N : Nat) (a0 : (List Z82)) (p1 : Z82 → Option (Bool)) := loopF (F170_l0_b N a0 p1) (fun _ _ => none)
theorem F170_l0_s N a0 (p1 : Z82 → Option (Bool)) {k} (hk : 0 < k) x23 x24 : F170_l0 N a0 p1 k x23 x24 = F170_l0_b N a0 p1 (F170_l0 N a0 p1 (k - 1)) x23 x24 := by cases k;cases hk;rfl
def F170 (N : Nat) (a0 : (List Z82)) (p1 : Z82 → Option (Bool)) : Option (Int) :=
  F170_l0 N a0 p1 N (a0.length : Int) (0 : Int)
theorem ok170_c1 N a0 (g1 : FuncId) e1_0 (p1 : Z82 → Option (Bool)) (hp1 : ∀ (z0 : Z82) (r : Bool), p1 z0 = some r → Con prog g1 [.agg (lv Y82 z0), .lf (.fp .str e1_0 0)] [.lf (.v .bool r)]) {r} (h : F170 N a0 p1 = some r) : Con prog 170 [Vv (.sl Y82) a0, .clo g1 [.lf (.fp .str e1_0 0)]] [.lf (.v (.int .i64) r)] := by
 refine ctr [.lf (.v (.int .i64))] K func170 rfl fun w0 E0 ht => ?_
 unfold F170 at h
 show VW _ _ _ _ _ (retQ _ _ _ _) _
 refine nR K (tn 1) ?_
 refine VW.join (fun s => s = ⟨[], []⟩ ∧ F170_j0 N = some r) ?_ ?_
 ·refine nR K (tn 3) <| VW.block <| lop (fun k s => ∃ x23 x24, s = ⟨[(0, Vv (.sl Y82) a0), (1, .clo g1 [.lf (.fp .str e1_0 0)]), (7, I x23), (8, I x24)], []⟩ ∧ F170_l0 N a0 p1 k x23 x24 = some r) N [.ren [0, 1, 7, 8] []] ⟨(a0.length : Int), (0 : Int), rfl, h⟩ ?_
  rintro k29 s ⟨x23, x24, rfl, h⟩
  cases k29 with
  | zero => cases show none = some r from h
  | succ k29 =>
   replace h : F170_l0_b N a0 p1 (F170_l0 N a0 p1 k29) x23 x24 = some r := h
   unfold F170_l0_b at h
   refine nR K (tn 1) <| sq ?_
   refine cnd h ?_ ?_<;>intro h
   ·refine VW.skip <| sq <| VW.block <| nR K (tn 2) <| sq <| VW.region ?_
    have⟨g32,h⟩:=gS h
    refine nG K 5 (pu 3 (an g32 (tn 1))) ?_
    have⟨y33,hy,h⟩:=aS h
    refine cal false [.t Y82] [.k] (some 16) K (hp1 _ _ hy) <| nN K (tn 0) ?_
    refine cnd h ?_ ?_<;>intro h
    ·refine nR K (tn 2) ?_
     cases h; exact VW.ret (rt [])
    refine VW.skip <| nE K (tn 2) ?_
    exact aro [.ren [0, 1, 7, 8] []] ⟨x23, (wr (x24 + (1 : Int))), rfl, h⟩
   refine VW.exit ?_
   exact arv [.ren [] []] ⟨rfl, h⟩
 rintro s ⟨rfl, h⟩
 unfold F170_j0 at h
 refine nR K (tn 1) ?_
 cases h; exact VW.ret (rt [])
def F171 (N : Nat) (a0 : Z82) (c0 : ByteArray) : Option (Bool) :=
  some (a0.1.toList == c0.toList)
theorem ok171 N a0 c0 {r} (h : F171 N a0 c0 = some r) : Con prog 171 [.agg (lv Y82 a0), .lf (.fp .str c0 0)] [.lf (.v .bool r)] := by
 refine ctr [.lf (.v .bool)] K func171 rfl fun w0 E0 ht => ?_
 unfold F171 at h
 show VW _ _ _ _ _ (retQ _ _ _ _) _
 refine nR K (tn 2) <| nR K (tn 5) ?_
 cases h; exact VW.ret (rt [])
end Go.Proofs.Ytjbahkjjgciooaa.Vc
