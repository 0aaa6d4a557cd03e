/- What functions of the program compute, and that they do. -/
import Derived.Test.YtfegppjofphpfaaDoorXb
import Derived.Test.YtfegppjofphpfaaDoorProg
import Derived.Test.YtfegppjofphpfaaDoorShelf
namespace Go.Proofs.YtfegppjofphpfaaDoor.Vc
open Go Go.RowKit
set_option linter.unusedVariables false
set_option maxRecDepth 100000
set_option maxHeartbeats 4000000
abbrev Y7 : Ty := .pair (.int .i64) (.pair (.int .i64) (.pair .bool (.int .u8)))
abbrev Y13 : Ty := .pair .str (.int .u64)
abbrev Y23 : Ty := .pair (.int .i64) (.pair .str (.pair (.int .i64) (.pair (.int .i64) (.pair (.int .i64) (.pair .bool (.sl (.int .i64)))))))
abbrev Y59 : Ty := .pair (.int .i64) (.int .i64)
abbrev Y134 : Ty := .pair (.int .u8) (.int .u8)
abbrev D23 : (Y23).den := Ty.dflt Y23
def TL : List (Nat × TI) := [(2, { ty := (.int .i64) }),
  (3, { ty := (.int .i64) }),
  (4, { ty := .bool }),
  (5, { ty := (.int .u8) }),
  (6, { ty := (.int .u8) }),
  (7, { ty := Y7, offs := [0, 1, 2, 3], szs := [1, 1, 1, 1] }),
  (8, { ty := Y7, offs := [0, 1, 2, 3], szs := [1, 1, 1, 1] }),
  (9, { ty := .str }),
  (10, { ty := .str }),
  (11, { ty := .str }),
  (12, { ty := (.int .u64) }),
  (13, { ty := Y13, offs := [0, 1], szs := [1, 1] }),
  (14, { ty := Y13, offs := [0, 1], szs := [1, 1] }),
  (21, { ty := (.int .i32) }),
  (22, { ty := (.sl (.int .i64)), elem := 3 }),
  (23, { ty := Y23, offs := [0, 1, 2, 3, 4, 5, 6], szs := [1, 1, 1, 1, 1, 1, 1] }),
  (24, { ty := Y23, offs := [0, 1, 2, 3, 4, 5, 6], szs := [1, 1, 1, 1, 1, 1, 1] }),
  (27, { ty := Y23, offs := [0, 1, 2, 3, 4, 5, 6], szs := [1, 1, 1, 1, 1, 1, 1] }),
  (31, { ty := (.sl Y23), elem := 24 }),
  (34, { ty := (.sl Y23), elem := 27 }),
  (38, { ty := (.sl Y59), elem := 60 }),
  (46, { ty := (.sl .str), elem := 9 }),
  (59, { ty := Y59, offs := [0, 1], szs := [1, 1] }),
  (60, { ty := Y59, offs := [0, 1], szs := [1, 1] }),
  (67, { ty := (.sl (.int .u8)), elem := 5 }),
  (88, { ty := (.int .u64) }),
  (98, { ty := (.int .u32) }),
  (101, { ty := (.int .u64) }),
  (108, { ty := (.int .i64) }),
  (134, { ty := Y134, offs := [0, 1], szs := [1, 1] }),
  (135, { ty := Y134, offs := [0, 1], szs := [1, 1] }),
  (149, { ty := (.int .u8) }),
  (150, { ty := (.int .u8) }),
  (152, { ty := (.int .i32) }),
  (153, { ty := (.int .i32) })]
abbrev T : Tab := lookT TL
theorem T_ok : TabOk Go.Proofs.Tryd.prog T := tabOk_of TL (by kernel_rfl)
theorem K : TabOk Go.Proofs.Tryd.prog T := T_ok
theorem T_rec : RecOk Go.Proofs.Tryd.prog T := recOk_of TL (by kernel_rfl)
def F24 (N : Nat) (a0 : (List Int)) (a1 : Int) : Option (Int) :=
  cond (decide ((IntKind.i64.wrap (a1 - (a0.length : Int))) < (0 : Int))) (some (-1 : Int)) (some (IntKind.i64.wrap (a1 - (a0.length : Int))))
theorem ok24 (N : Nat) (a0 : (List Int)) (a1 : Int) {r : Int} (h : F24 N a0 a1 = some r) : Con Go.Proofs.Tryd.prog 24 [.lf (.v (.sl (.int .i64)) a0), I a1] [.lf (.v (.int .i64) r)] := by
 refine ctr [.lf (.v (.int .i64))] K Go.Proofs.Tryd.func24 rfl fun w0 E0 ht => ?_
 unfold F24 at h
 show VW _ _ _ _ _ (retQ _ _ _ _) _
 refine sR K [0, 1] [] ⟨[(0, .lf (.v (.sl (.int .i64)) a0)), (1, I a1)], []⟩ (tn 1) ?_
 refine sR K [1] [] ⟨[(1, I (wr (a1 - (a0.length : Int))))], []⟩ (tn 5) ?_
 refine VW.seq ?_
 refine sR K [1, 10] [] ⟨[(1, I (wr (a1 - (a0.length : Int)))), (10, B (decide ((wr (a1 - (a0.length : Int))) < (0 : Int))))], []⟩ (tn 2) ?_
 refine cnd h (fun h => ?_) (fun h => ?_)
 ·refine sR K [4] [] ⟨[(4, I (-1 : Int))], []⟩ (tn 1) ?_
  cases h; exact VW.ret (rt [])
 refine VW.skip ?_
 refine sR K [4] [] ⟨[(4, I (wr (a1 - (a0.length : Int))))], []⟩ (tn 2) ?_
 cases h; exact VW.ret (rt [])
def F7 (N : Nat) (a0 : (Int × (ByteArray × (Int × (Int × (Int × (Bool × (List Int)))))))) (a1 : Int) : Option (Int) :=
  cond (decide ((IntKind.i64.wrap (a1 - (a0.2.1.size : Int))) < (0 : Int))) (some (-1 : Int)) (andO (F24 N a0.2.2.2.2.2.2 (IntKind.i64.wrap (a1 - (a0.2.1.size : Int)))) fun y1 => cond (decide (y1 < (0 : Int))) (some (-1 : Int)) (some y1))
theorem ok7 (N : Nat) (a0 : (Int × (ByteArray × (Int × (Int × (Int × (Bool × (List Int)))))))) (a1 : Int) {r : Int} (h : F7 N a0 a1 = some r) : Con Go.Proofs.Tryd.prog 7 [.agg (lv Y23 a0), I a1] [.lf (.v (.int .i64) r)] := by
 refine ctr [.lf (.v (.int .i64))] K Go.Proofs.Tryd.func7 rfl fun w0 E0 ht => ?_
 unfold F7 at h
 show VW _ _ _ _ _ (retQ _ _ _ _) _
 refine sR K [1, 2] [0] ⟨[(1, I a1), (2, .lf (.ptr 0 0 0 0))], [bx (lv Y23 a0) 24]⟩ (tn 2) ?_
 refine sRh K [1, 2] [0] [(1, I (wr (a1 - (a0.2.1.size : Int)))), (2, .lf (.ptr 0 0 0 0))] (tn 6) ?_
 refine VW.seq ?_
 refine sRh K [1, 2, 11] [0] [(1, I (wr (a1 - (a0.2.1.size : Int)))), (2, .lf (.ptr 0 0 0 0)), (11, B (decide ((wr (a1 - (a0.2.1.size : Int))) < (0 : Int))))] (tn 2) ?_
 refine cnd h (fun h => ?_) (fun h => ?_)
 ·refine sR K [4] [] ⟨[(4, I (-1 : Int))], []⟩ (tn 1) ?_
  cases h; exact VW.ret (rt [])
 refine VW.skip ?_
 refine VW.seq ?_
 refine VW.region ?_
 refine sG K 3 [13, 14] [] ⟨[(13, .lf (.v (.sl (.int .i64)) a0.2.2.2.2.2.2)), (14, I (wr (a1 - (a0.2.1.size : Int))))], []⟩ (tn 3) ?_
 obtain ⟨y1, hy, h⟩ := andO_some h
 refine cal false [.t (.sl (.int .i64)), .t (.int .i64)] [] (some 15) K (ok24 N _ _ hy) ?_
 refine sN K [1] [] ⟨[(1, I y1)], []⟩ (tn 1) ?_
 refine VW.seq ?_
 refine sR K [1, 17] [] ⟨[(1, I y1), (17, B (decide (y1 < (0 : Int))))], []⟩ (tn 2) ?_
 refine cnd h (fun h => ?_) (fun h => ?_)
 ·refine sR K [4] [] ⟨[(4, I (-1 : Int))], []⟩ (tn 1) ?_
  cases h; exact VW.ret (rt [])
 refine VW.skip ?_
 refine sR K [4] [] ⟨[(4, I y1)], []⟩ (tn 2) ?_
 cases h; exact VW.ret (rt [])
def F48 (N : Nat) (a0 : Int) (a1 : Int) (a2 : Int) : Option (Bool) :=
  cond (decide (a1 ≤ a0)) (some (decide (a0 ≤ a2))) (some false)
theorem ok48 (N : Nat) (a0 : Int) (a1 : Int) (a2 : Int) {r : Bool} (h : F48 N a0 a1 a2 = some r) : Con Go.Proofs.Tryd.prog 48 [I a0, I a1, I a2] [.lf (.v .bool r)] := by
 refine ctr [.lf (.v .bool)] K Go.Proofs.Tryd.func48 rfl fun w0 E0 ht => ?_
 unfold F48 at h
 show VW _ _ _ _ _ (retQ _ _ _ _) _
 refine sR K [0, 1, 2] [] ⟨[(0, I a0), (1, I a1), (2, I a2)], []⟩ (tn 1) ?_
 refine VW.seq ?_
 refine VW.region ?_
 refine sG K 4 [0, 2, 10] [] ⟨[(0, I a0), (2, I a2), (10, B (decide (a1 ≤ a0)))], []⟩ (tn 4) ?_
 refine spB 10 h (fun h => ?_) (fun h => ?_)
 ·refine sN K [6] [] ⟨[(6, B (decide (a0 ≤ a2)))], []⟩ (tn 5) ?_
  cases h; exact VW.ret (rt [])
 refine sN K [6] [] ⟨[(6, B false)], []⟩ (tn 5) ?_
 cases h; exact VW.ret (rt [])
def F49_j0 (N : Nat) : Option (Bool) :=
  some true
def F49_j1 (N : Nat) (nx74 : Int → Option (Bool)) (x60 : Int) : Option (Bool) :=
  nx74 (IntKind.i64.wrap (x60 + (1 : Int)))
def F49_l0_b (N : Nat) (a0 : ByteArray) (nx74 : Int → Option (Bool)) (x60 : Int) : Option (Bool) :=
  cond (decide (x60 < (a0.size : Int))) (gd (InR x60 a0.size) (cond (decide (((a0.data.getD x60.toNat 0).toNat : Int) < (97 : Int))) (gd (InR x60 a0.size) (cond (decide (((a0.data.getD x60.toNat 0).toNat : Int) < (48 : Int))) (some false) (gd (InR x60 a0.size) (cond (decide (((a0.data.getD x60.toNat 0).toNat : Int) > (57 : Int))) (some false) (F49_j1 N nx74 x60))))) (gd (InR x60 a0.size) (cond (decide (((a0.data.getD x60.toNat 0).toNat : Int) > (122 : Int))) (gd (InR x60 a0.size) (cond (decide (((a0.data.getD x60.toNat 0).toNat : Int) < (48 : Int))) (some false) (gd (InR x60 a0.size) (cond (decide (((a0.data.getD x60.toNat 0).toNat : Int) > (57 : Int))) (some false) (F49_j1 N nx74 x60))))) (F49_j1 N nx74 x60))))) (F49_j0 N)
def F49_l0 (N : Nat) (a0 : ByteArray) : Nat → Int → Option (Bool) := loopF (F49_l0_b N a0) (fun _ => none)
theorem F49_l0_s (N : Nat) (a0 : ByteArray) {k : Nat} (hk : 0 < k) (x60 : Int) : F49_l0 N a0 k x60 = F49_l0_b N a0 (F49_l0 N a0 (k - 1)) x60 := by
 cases k with
 | zero => exact absurd hk (Nat.lt_irrefl 0)
 | succ m => rfl
def F49 (N : Nat) (a0 : ByteArray) : Option (Bool) :=
  andO (F48 N (a0.size : Int) (1 : Int) (12 : Int)) fun y3 => cond (!y3) (some false) (gd (InR (0 : Int) a0.size) (cond (decide (((a0.data.getD (0 : Int).toNat 0).toNat : Int) < (97 : Int))) (some false) (F49_l0 N a0 N (0 : Int))))
theorem ok49 (N : Nat) (a0 : ByteArray) {r : Bool} (h : F49 N a0 = some r) : Con Go.Proofs.Tryd.prog 49 [S a0] [.lf (.v .bool r)] := by
 refine ctr [.lf (.v .bool)] K Go.Proofs.Tryd.func49 rfl fun w0 E0 ht => ?_
 unfold F49 at h
 show VW _ _ _ _ _ (retQ _ _ _ _) _
 refine sR K [0] [] ⟨[(0, S a0)], []⟩ (tn 1) ?_
 refine VW.seq ?_
 refine VW.seq ?_
 refine VW.region ?_
 refine sG K 2 [0, 5] [] ⟨[(0, S a0), (5, I (a0.size : Int))], []⟩ (tn 2) ?_
 obtain ⟨y3, hy, h⟩ := andO_some h
 refine cal false [.t (.int .i64), .t (.int .i64), .t (.int .i64)] [] (some 6) K (ok48 N _ _ _ hy) ?_
 refine sG K 2 [0, 8] [] ⟨[(0, S a0), (8, B (!y3))], []⟩ (tn 2) ?_
 refine spB 8 h (fun h => ?_) (fun h => ?_)
 ·refine sN K [0, 12] [] ⟨[(0, S a0), (12, B true)], []⟩ (tn 4) ?_
  refine VW.cond (b := true) (by kernel_rfl) (fun _ => ?_) (fun h' => nomatch h')
  refine sR K [2] [] ⟨[(2, B false)], []⟩ (tn 1) ?_
  cases h; exact VW.ret (rt [])
 obtain ⟨g4, h⟩ := gd_some h
 refine sN K [0, 12] [] ⟨[(0, S a0), (12, B (decide (((a0.data.getD (0 : Int).toNat 0).toNat : Int) < (97 : Int))))], []⟩ (pu 1 (an g4 (tn 2))) ?_
 refine cnd h (fun h => ?_) (fun h => ?_)
 ·refine sR K [2] [] ⟨[(2, B false)], []⟩ (tn 1) ?_
  cases h; exact VW.ret (rt [])
 refine VW.skip ?_
 refine VW.join (fun s => s = ⟨[], []⟩ ∧ F49_j0 N = some r) ?_ ?_
 ·refine sR K [0, 3] [] ⟨[(0, S a0), (3, I (0 : Int))], []⟩ (tn 1) ?_
  refine VW.block ?_
  refine lop (fun k s => ∃ (x60 : Int), s = ⟨[(0, S a0), (3, I x60)], []⟩ ∧ F49_l0 N a0 k x60 = some r) N [.ren [0, 3] []] ⟨(0 : Int), rfl, h⟩ ?_
  rintro k74 s ⟨x60, rfl, h⟩
  cases k74 with
  | zero => cases show none = some r from h
  | succ k74 =>
   replace h : F49_l0_b N a0 (F49_l0 N a0 k74) x60 = some r := h
   unfold F49_l0_b at h
   refine VW.seq ?_
   refine sR K [0, 3, 16] [] ⟨[(0, S a0), (3, I x60), (16, B (decide (x60 < (a0.size : Int))))], []⟩ (tn 4) ?_
   refine cnd h (fun h => ?_) (fun h => ?_)
   ·refine VW.skip ?_
    refine VW.join (fun s => s = ⟨[(0, S a0), (3, I x60)], []⟩ ∧ F49_j1 N (F49_l0 N a0 k74) x60 = some r) ?_ ?_
    ·refine VW.block ?_
     refine VW.seq ?_
     refine VW.region ?_
     obtain ⟨g82, h⟩ := gd_some h
     refine sG K 5 [0, 3, 23] [] ⟨[(0, S a0), (3, I x60), (23, B (decide (((a0.data.getD x60.toNat 0).toNat : Int) < (97 : Int))))], []⟩ (pu 2 (an g82 (tn 2))) ?_
     refine spB 23 h (fun h => ?_) (fun h => ?_)
     ·obtain ⟨g83, h⟩ := gd_some h
      refine sG K 11 [0, 3, 29, 34] [] ⟨[(0, S a0), (3, I x60), (29, B true), (34, B (decide (((a0.data.getD x60.toNat 0).toNat : Int) < (48 : Int))))], []⟩ (pu 8 (an g83 (tn 2))) ?_
      refine spB 34 h (fun h => ?_) (fun h => ?_)
      ·refine sN K [0, 3, 40] [] ⟨[(0, S a0), (3, I x60), (40, B true)], []⟩ (tn 6) ?_
       refine VW.cond (b := true) (by kernel_rfl) (fun _ => ?_) (fun h' => nomatch h')
       refine sR K [2] [] ⟨[(2, B false)], []⟩ (tn 1) ?_
       cases h; exact VW.ret (rt [])
      obtain ⟨g84, h⟩ := gd_some h
      refine sN K [0, 3, 40] [] ⟨[(0, S a0), (3, I x60), (40, B (decide (((a0.data.getD x60.toNat 0).toNat : Int) > (57 : Int))))], []⟩ (pu 2 (an g84 (tn 3))) ?_
      refine cnd h (fun h => ?_) (fun h => ?_)
      ·refine sR K [2] [] ⟨[(2, B false)], []⟩ (tn 1) ?_
       cases h; exact VW.ret (rt [])
      refine VW.skip ?_
      exact arv [.ren [0, 3] []] ⟨rfl, h⟩
     obtain ⟨g85, h⟩ := gd_some h
     refine sG K 6 [0, 3, 29] [] ⟨[(0, S a0), (3, I x60), (29, B (decide (((a0.data.getD x60.toNat 0).toNat : Int) > (122 : Int))))], []⟩ (pu 2 (an g85 (tn 3))) ?_
     refine spB 29 h (fun h => ?_) (fun h => ?_)
     ·obtain ⟨g86, h⟩ := gd_some h
      refine sG K 5 [0, 3, 29, 34] [] ⟨[(0, S a0), (3, I x60), (29, B true), (34, B (decide (((a0.data.getD x60.toNat 0).toNat : Int) < (48 : Int))))], []⟩ (pu 2 (an g86 (tn 2))) ?_
      refine spB 34 h (fun h => ?_) (fun h => ?_)
      ·refine sN K [0, 3, 40] [] ⟨[(0, S a0), (3, I x60), (40, B true)], []⟩ (tn 6) ?_
       refine VW.cond (b := true) (by kernel_rfl) (fun _ => ?_) (fun h' => nomatch h')
       refine sR K [2] [] ⟨[(2, B false)], []⟩ (tn 1) ?_
       cases h; exact VW.ret (rt [])
      obtain ⟨g87, h⟩ := gd_some h
      refine sN K [0, 3, 40] [] ⟨[(0, S a0), (3, I x60), (40, B (decide (((a0.data.getD x60.toNat 0).toNat : Int) > (57 : Int))))], []⟩ (pu 2 (an g87 (tn 3))) ?_
      refine cnd h (fun h => ?_) (fun h => ?_)
      ·refine sR K [2] [] ⟨[(2, B false)], []⟩ (tn 1) ?_
       cases h; exact VW.ret (rt [])
      refine VW.skip ?_
      exact arv [.ren [0, 3] []] ⟨rfl, h⟩
     refine sN K [0, 3, 40] [] ⟨[(0, S a0), (3, I x60), (40, B false)], []⟩ (tn 11) ?_
     refine VW.cond (b := false) (by kernel_rfl) (fun h' => nomatch h') (fun _ => ?_)
     refine VW.skip ?_
     exact arv [.ren [0, 3] []] ⟨rfl, h⟩
    rintro s ⟨rfl, h⟩
    unfold F49_j1 at h
    refine rR K [0, 3] [] ⟨[(0, S a0), (3, I (wr (x60 + (1 : Int))))], []⟩ (tn 3) ?_
    exact aro [.ren [0, 3] []] ⟨(wr (x60 + (1 : Int))), rfl, h⟩
   refine VW.exit ?_
   exact arv [.ren [] []] ⟨rfl, h⟩
 rintro s ⟨rfl, h⟩
 unfold F49_j0 at h
 refine sR K [2] [] ⟨[(2, B true)], []⟩ (tn 1) ?_
 cases h; exact VW.ret (rt [])
def F50 (N : Nat) (a0 : Int) : Option (Bool) :=
  andO (F48 N a0 (0 : Int) (63 : Int)) fun y1 => some y1
theorem ok50 (N : Nat) (a0 : Int) {r : Bool} (h : F50 N a0 = some r) : Con Go.Proofs.Tryd.prog 50 [I a0] [.lf (.v .bool r)] := by
 refine ctr [.lf (.v .bool)] K Go.Proofs.Tryd.func50 rfl fun w0 E0 ht => ?_
 unfold F50 at h
 show VW _ _ _ _ _ (retQ _ _ _ _) _
 refine sR K [0] [] ⟨[(0, I a0)], []⟩ (tn 1) ?_
 refine VW.seq ?_
 refine VW.region ?_
 refine sG K 1 [3] [] ⟨[(3, I a0)], []⟩ (tn 1) ?_
 obtain ⟨y1, hy, h⟩ := andO_some h
 refine cal false [.t (.int .i64), .t (.int .i64), .t (.int .i64)] [] (some 4) K (ok48 N _ _ _ hy) ?_
 refine sN K [2] [] ⟨[(2, B y1)], []⟩ (tn 1) ?_
 cases h; exact VW.ret (rt [])
def F51 (N : Nat) (a0 : Int) : Option (Bool) :=
  andO (F48 N a0 (-1000000 : Int) (1000000 : Int)) fun y1 => some y1
theorem ok51 (N : Nat) (a0 : Int) {r : Bool} (h : F51 N a0 = some r) : Con Go.Proofs.Tryd.prog 51 [I a0] [.lf (.v .bool r)] := by
 refine ctr [.lf (.v .bool)] K Go.Proofs.Tryd.func51 rfl fun w0 E0 ht => ?_
 unfold F51 at h
 show VW _ _ _ _ _ (retQ _ _ _ _) _
 refine sR K [0] [] ⟨[(0, I a0)], []⟩ (tn 1) ?_
 refine VW.seq ?_
 refine VW.region ?_
 refine sG K 1 [3] [] ⟨[(3, I a0)], []⟩ (tn 1) ?_
 obtain ⟨y1, hy, h⟩ := andO_some h
 refine cal false [.t (.int .i64), .t (.int .i64), .t (.int .i64)] [] (some 4) K (ok48 N _ _ _ hy) ?_
 refine sN K [2] [] ⟨[(2, B y1)], []⟩ (tn 1) ?_
 cases h; exact VW.ret (rt [])
def F25_j0 (N : Nat) : Option (Bool) :=
  some false
def F25_j1 (N : Nat) (x11 : Int) (x13 : Int) (x14 : Bool) (x15 : (List Int)) : Option (Bool) :=
  andO (F48 N (x15.length : Int) (1 : Int) (6 : Int)) fun y75 => cond y75 (cond (x11 == (0 : Int)) (cond (x13 == (0 : Int)) (some (!x14)) (some false)) (some false)) (some false)
def F25_l0_b (N : Nat) (x11 : Int) (x13 : Int) (x14 : Bool) (x15 : (List Int)) (nx86 : Int → Option (Bool)) (x81 : Int) : Option (Bool) :=
  cond (decide (x81 < (x15.length : Int))) (gd (InR x81 x15.length) (andO (F50 N (x15.getD x81.toNat (Ty.dflt (.int .i64)))) fun y90 => cond (!y90) (some false) (nx86 (IntKind.i64.wrap (x81 + (1 : Int)))))) (F25_j1 N x11 x13 x14 x15)
def F25_l0 (N : Nat) (x11 : Int) (x13 : Int) (x14 : Bool) (x15 : (List Int)) : Nat → Int → Option (Bool) := loopF (F25_l0_b N x11 x13 x14 x15) (fun _ => none)
theorem F25_l0_s (N : Nat) (x11 : Int) (x13 : Int) (x14 : Bool) (x15 : (List Int)) {k : Nat} (hk : 0 < k) (x81 : Int) : F25_l0 N x11 x13 x14 x15 k x81 = F25_l0_b N x11 x13 x14 x15 (F25_l0 N x11 x13 x14 x15 (k - 1)) x81 := by
 cases k with
 | zero => exact absurd hk (Nat.lt_irrefl 0)
 | succ m => rfl
def F25_j2 (N : Nat) (x11 : Int) (x13 : Int) (x14 : Bool) (x95 : Bool) : Option (Bool) :=
  cond x95 (cond (x11 == (0 : Int)) (cond (x13 == (0 : Int)) (some (!x14)) (some false)) (some false)) (F25_j0 N)
def F25_j3 (N : Nat) (x9 : Int) (x10 : ByteArray) (x11 : Int) (x12 : Int) (x13 : Int) (x14 : Bool) (x15 : (List Int)) : Option (Bool) :=
  cond (x9 == (0 : Int)) (andO (F49 N x10) fun y57 => cond y57 (cond (x11 == (0 : Int)) (cond (x13 == (0 : Int)) (some (!x14)) (some false)) (some false)) (some false)) (cond (x9 == (1 : Int)) (andO (F50 N x11) fun y58 => cond y58 (andO (F48 N x12 (0 : Int) (3 : Int)) fun y59 => cond y59 (andO (F51 N x13) fun y60 => cond y60 (cond (x12 != (3 : Int)) (some true) (cond (x13 == (0 : Int)) (some (!x14)) (some false))) (some false)) (some false)) (some false)) (cond (x9 == (2 : Int)) (F25_l0 N x11 x13 x14 x15 N (0 : Int)) (cond (x9 == (3 : Int)) (andO (F50 N x11) fun y91 => cond y91 (andO (F50 N x13) fun y92 => cond y92 (some (!x14)) (some false)) (some false)) (cond (x9 == (5 : Int)) (andO (F50 N x11) fun y93 => cond y93 (cond (x13 == (0 : Int)) (some (!x14)) (some false)) (some false)) (cond (x9 == (6 : Int)) (cond (x11 == (0 : Int)) (andO (F48 N x13 (0 : Int) (1000000 : Int)) fun y94 => some y94) (some false)) (cond (x9 == (4 : Int)) (F25_j2 N x11 x13 x14 (x9 == (4 : Int))) (F25_j2 N x11 x13 x14 (x9 == (7 : Int)))))))))
def F25 (N : Nat) (a0 : (Int × (ByteArray × (Int × (Int × (Int × (Bool × (List Int)))))))) : Option (Bool) :=
  cond (a0.1 != (0 : Int)) (cond (!(a0.2.1.toList == ByteArray.empty.toList)) (some false) (cond (a0.1 != (2 : Int)) (cond (decide ((a0.2.2.2.2.2.2.length : Int) > (0 : Int))) (some false) (cond (a0.1 != (1 : Int)) (cond (a0.2.2.2.1 != (0 : Int)) (some false) (cond a0.2.2.2.2.2.1 (andO (F48 N a0.2.2.2.2.1 (0 : Int) (39 : Int)) fun y98 => cond (!y98) (some false) (F25_j3 N a0.1 a0.2.1 a0.2.2.1 a0.2.2.2.1 a0.2.2.2.2.1 a0.2.2.2.2.2.1 a0.2.2.2.2.2.2)) (F25_j3 N a0.1 a0.2.1 a0.2.2.1 a0.2.2.2.1 a0.2.2.2.2.1 a0.2.2.2.2.2.1 a0.2.2.2.2.2.2))) (cond a0.2.2.2.2.2.1 (andO (F48 N a0.2.2.2.2.1 (0 : Int) (39 : Int)) fun y99 => cond (!y99) (some false) (F25_j3 N a0.1 a0.2.1 a0.2.2.1 a0.2.2.2.1 a0.2.2.2.2.1 a0.2.2.2.2.2.1 a0.2.2.2.2.2.2)) (F25_j3 N a0.1 a0.2.1 a0.2.2.1 a0.2.2.2.1 a0.2.2.2.2.1 a0.2.2.2.2.2.1 a0.2.2.2.2.2.2)))) (cond (a0.1 != (1 : Int)) (cond (a0.2.2.2.1 != (0 : Int)) (some false) (cond a0.2.2.2.2.2.1 (andO (F48 N a0.2.2.2.2.1 (0 : Int) (39 : Int)) fun y100 => cond (!y100) (some false) (F25_j3 N a0.1 a0.2.1 a0.2.2.1 a0.2.2.2.1 a0.2.2.2.2.1 a0.2.2.2.2.2.1 a0.2.2.2.2.2.2)) (F25_j3 N a0.1 a0.2.1 a0.2.2.1 a0.2.2.2.1 a0.2.2.2.2.1 a0.2.2.2.2.2.1 a0.2.2.2.2.2.2))) (cond a0.2.2.2.2.2.1 (andO (F48 N a0.2.2.2.2.1 (0 : Int) (39 : Int)) fun y101 => cond (!y101) (some false) (F25_j3 N a0.1 a0.2.1 a0.2.2.1 a0.2.2.2.1 a0.2.2.2.2.1 a0.2.2.2.2.2.1 a0.2.2.2.2.2.2)) (F25_j3 N a0.1 a0.2.1 a0.2.2.1 a0.2.2.2.1 a0.2.2.2.2.1 a0.2.2.2.2.2.1 a0.2.2.2.2.2.2))))) (cond (a0.1 != (2 : Int)) (cond (decide ((a0.2.2.2.2.2.2.length : Int) > (0 : Int))) (some false) (cond (a0.1 != (1 : Int)) (cond (a0.2.2.2.1 != (0 : Int)) (some false) (cond a0.2.2.2.2.2.1 (andO (F48 N a0.2.2.2.2.1 (0 : Int) (39 : Int)) fun y102 => cond (!y102) (some false) (F25_j3 N a0.1 a0.2.1 a0.2.2.1 a0.2.2.2.1 a0.2.2.2.2.1 a0.2.2.2.2.2.1 a0.2.2.2.2.2.2)) (F25_j3 N a0.1 a0.2.1 a0.2.2.1 a0.2.2.2.1 a0.2.2.2.2.1 a0.2.2.2.2.2.1 a0.2.2.2.2.2.2))) (cond a0.2.2.2.2.2.1 (andO (F48 N a0.2.2.2.2.1 (0 : Int) (39 : Int)) fun y103 => cond (!y103) (some false) (F25_j3 N a0.1 a0.2.1 a0.2.2.1 a0.2.2.2.1 a0.2.2.2.2.1 a0.2.2.2.2.2.1 a0.2.2.2.2.2.2)) (F25_j3 N a0.1 a0.2.1 a0.2.2.1 a0.2.2.2.1 a0.2.2.2.2.1 a0.2.2.2.2.2.1 a0.2.2.2.2.2.2)))) (cond (a0.1 != (1 : Int)) (cond (a0.2.2.2.1 != (0 : Int)) (some false) (cond a0.2.2.2.2.2.1 (andO (F48 N a0.2.2.2.2.1 (0 : Int) (39 : Int)) fun y104 => cond (!y104) (some false) (F25_j3 N a0.1 a0.2.1 a0.2.2.1 a0.2.2.2.1 a0.2.2.2.2.1 a0.2.2.2.2.2.1 a0.2.2.2.2.2.2)) (F25_j3 N a0.1 a0.2.1 a0.2.2.1 a0.2.2.2.1 a0.2.2.2.2.1 a0.2.2.2.2.2.1 a0.2.2.2.2.2.2))) (cond a0.2.2.2.2.2.1 (andO (F48 N a0.2.2.2.2.1 (0 : Int) (39 : Int)) fun y105 => cond (!y105) (some false) (F25_j3 N a0.1 a0.2.1 a0.2.2.1 a0.2.2.2.1 a0.2.2.2.2.1 a0.2.2.2.2.2.1 a0.2.2.2.2.2.2)) (F25_j3 N a0.1 a0.2.1 a0.2.2.1 a0.2.2.2.1 a0.2.2.2.2.1 a0.2.2.2.2.2.1 a0.2.2.2.2.2.2))))
theorem ok25 (N : Nat) (a0 : (Int × (ByteArray × (Int × (Int × (Int × (Bool × (List Int)))))))) {r : Bool} (h : F25 N a0 = some r) : Con Go.Proofs.Tryd.prog 25 [.agg (lv Y23 a0)] [.lf (.v .bool r)] := by
 refine ctr [.lf (.v .bool)] K Go.Proofs.Tryd.func25 rfl fun w0 E0 ht => ?_
 unfold F25 at h
 show VW _ _ _ _ _ (retQ _ _ _ _) _
 refine sR K [1] [0] ⟨[(1, .lf (.ptr 0 0 0 0))], [bx (lv Y23 a0) 27]⟩ (tn 2) ?_
 refine VW.join (fun s => ∃ (x9 : Int) (x10 : ByteArray) (x11 : Int) (x12 : Int) (x13 : Int) (x14 : Bool) (x15 : (List Int)), s = ⟨[(1, .lf (.ptr 0 0 0 0))], [bx [zi x9, zs x10, zi x11, zi x12, zi x13, zb x14, .v (.sl (.int .i64)) x15] 27]⟩ ∧ F25_j3 N x9 x10 x11 x12 x13 x14 x15 = some r) ?_ ?_
 ·refine VW.seq ?_
  refine VW.region ?_
  refine sGh K 4 [1, 7] [0] [(1, .lf (.ptr 0 0 0 0)), (7, B (a0.1 != (0 : Int)))] (tn 4) ?_
  refine spB 7 h (fun h => ?_) (fun h => ?_)
  ·refine sGh K 5 [1, 12] [0] [(1, .lf (.ptr 0 0 0 0)), (12, B (!(a0.2.1.toList == ByteArray.empty.toList)))] (tn 5) ?_
   refine spB 12 h (fun h => ?_) (fun h => ?_)
   ·refine sNh K [1, 42] [0] [(1, .lf (.ptr 0 0 0 0)), (42, B true)] (tn 30) ?_
    refine VW.cond (b := true) (by kernel_rfl) (fun _ => ?_) (fun h' => nomatch h')
    refine sR K [2] [] ⟨[(2, B false)], []⟩ (tn 1) ?_
    cases h; exact VW.ret (rt [])
   refine sGh K 4 [1, 12, 16] [0] [(1, .lf (.ptr 0 0 0 0)), (12, B false), (16, B (a0.1 != (2 : Int)))] (tn 4) ?_
   refine spB 16 h (fun h => ?_) (fun h => ?_)
   ·refine sGh K 7 [1, 23] [0] [(1, .lf (.ptr 0 0 0 0)), (23, B (decide ((a0.2.2.2.2.2.2.length : Int) > (0 : Int))))] (tn 7) ?_
    refine spB 23 h (fun h => ?_) (fun h => ?_)
    ·refine sNh K [1, 42] [0] [(1, .lf (.ptr 0 0 0 0)), (42, B true)] (tn 19) ?_
     refine VW.cond (b := true) (by kernel_rfl) (fun _ => ?_) (fun h' => nomatch h')
     refine sR K [2] [] ⟨[(2, B false)], []⟩ (tn 1) ?_
     cases h; exact VW.ret (rt [])
    refine sGh K 4 [1, 23, 27] [0] [(1, .lf (.ptr 0 0 0 0)), (23, B false), (27, B (a0.1 != (1 : Int)))] (tn 4) ?_
    refine spB 27 h (fun h => ?_) (fun h => ?_)
    ·refine sGh K 6 [1, 33] [0] [(1, .lf (.ptr 0 0 0 0)), (33, B (a0.2.2.2.1 != (0 : Int)))] (tn 6) ?_
     refine spB 33 h (fun h => ?_) (fun h => ?_)
     ·refine sNh K [1, 42] [0] [(1, .lf (.ptr 0 0 0 0)), (42, B true)] (tn 9) ?_
      refine VW.cond (b := true) (by kernel_rfl) (fun _ => ?_) (fun h' => nomatch h')
      refine sR K [2] [] ⟨[(2, B false)], []⟩ (tn 1) ?_
      cases h; exact VW.ret (rt [])
     refine sGh K 3 [1, 33, 36] [0] [(1, .lf (.ptr 0 0 0 0)), (33, B false), (36, B a0.2.2.2.2.2.1)] (tn 3) ?_
     refine spB 36 h (fun h => ?_) (fun h => ?_)
     ·refine sGh K 2 [1, 33, 36, 38] [0] [(1, .lf (.ptr 0 0 0 0)), (33, B false), (36, B true), (38, I a0.2.2.2.2.1)] (tn 2) ?_
      refine VO.on (j := 32) (want := true) (d := 36) (b := true) rfl rfl rfl (by kernel_rfl) rfl ?_
      obtain ⟨y98, hy, h⟩ := andO_some h
      refine cal false [.t (.int .i64), .t (.int .i64), .t (.int .i64)] [] (some 39) K (ok48 N _ _ _ hy) ?_
      refine sNh K [1, 42] [0] [(1, .lf (.ptr 0 0 0 0)), (42, B (!y98))] (tn 3) ?_
      refine cnd h (fun h => ?_) (fun h => ?_)
      ·refine sR K [2] [] ⟨[(2, B false)], []⟩ (tn 1) ?_
       cases h; exact VW.ret (rt [])
      refine VW.skip ?_
      exact arv [.ren [1] [0]] ⟨a0.1, a0.2.1, a0.2.2.1, a0.2.2.2.1, a0.2.2.2.2.1, a0.2.2.2.2.2.1, a0.2.2.2.2.2.2, rfl, h⟩
     refine sNh K [1, 42] [0] [(1, .lf (.ptr 0 0 0 0)), (42, B false)] (tn 6) ?_
     refine VW.cond (b := false) (by kernel_rfl) (fun h' => nomatch h') (fun _ => ?_)
     refine VW.skip ?_
     exact arv [.ren [1] [0]] ⟨a0.1, a0.2.1, a0.2.2.1, a0.2.2.2.1, a0.2.2.2.2.1, a0.2.2.2.2.2.1, a0.2.2.2.2.2.2, rfl, h⟩
    refine sGh K 9 [1, 33, 36] [0] [(1, .lf (.ptr 0 0 0 0)), (33, B false), (36, B a0.2.2.2.2.2.1)] (tn 9) ?_
    refine spB 36 h (fun h => ?_) (fun h => ?_)
    ·refine sGh K 2 [1, 33, 36, 38] [0] [(1, .lf (.ptr 0 0 0 0)), (33, B false), (36, B true), (38, I a0.2.2.2.2.1)] (tn 2) ?_
     refine VO.on (j := 32) (want := true) (d := 36) (b := true) rfl rfl rfl (by kernel_rfl) rfl ?_
     obtain ⟨y99, hy, h⟩ := andO_some h
     refine cal false [.t (.int .i64), .t (.int .i64), .t (.int .i64)] [] (some 39) K (ok48 N _ _ _ hy) ?_
     refine sNh K [1, 42] [0] [(1, .lf (.ptr 0 0 0 0)), (42, B (!y99))] (tn 3) ?_
     refine cnd h (fun h => ?_) (fun h => ?_)
     ·refine sR K [2] [] ⟨[(2, B false)], []⟩ (tn 1) ?_
      cases h; exact VW.ret (rt [])
     refine VW.skip ?_
     exact arv [.ren [1] [0]] ⟨a0.1, a0.2.1, a0.2.2.1, a0.2.2.2.1, a0.2.2.2.2.1, a0.2.2.2.2.2.1, a0.2.2.2.2.2.2, rfl, h⟩
    refine sNh K [1, 42] [0] [(1, .lf (.ptr 0 0 0 0)), (42, B false)] (tn 6) ?_
    refine VW.cond (b := false) (by kernel_rfl) (fun h' => nomatch h') (fun _ => ?_)
    refine VW.skip ?_
    exact arv [.ren [1] [0]] ⟨a0.1, a0.2.1, a0.2.2.1, a0.2.2.2.1, a0.2.2.2.2.1, a0.2.2.2.2.2.1, a0.2.2.2.2.2.2, rfl, h⟩
   refine sGh K 11 [1, 23, 27] [0] [(1, .lf (.ptr 0 0 0 0)), (23, B false), (27, B (a0.1 != (1 : Int)))] (tn 11) ?_
   refine spB 27 h (fun h => ?_) (fun h => ?_)
   ·refine sGh K 6 [1, 33] [0] [(1, .lf (.ptr 0 0 0 0)), (33, B (a0.2.2.2.1 != (0 : Int)))] (tn 6) ?_
    refine spB 33 h (fun h => ?_) (fun h => ?_)
    ·refine sNh K [1, 42] [0] [(1, .lf (.ptr 0 0 0 0)), (42, B true)] (tn 9) ?_
     refine VW.cond (b := true) (by kernel_rfl) (fun _ => ?_) (fun h' => nomatch h')
     refine sR K [2] [] ⟨[(2, B false)], []⟩ (tn 1) ?_
     cases h; exact VW.ret (rt [])
    refine sGh K 3 [1, 33, 36] [0] [(1, .lf (.ptr 0 0 0 0)), (33, B false), (36, B a0.2.2.2.2.2.1)] (tn 3) ?_
    refine spB 36 h (fun h => ?_) (fun h => ?_)
    ·refine sGh K 2 [1, 33, 36, 38] [0] [(1, .lf (.ptr 0 0 0 0)), (33, B false), (36, B true), (38, I a0.2.2.2.2.1)] (tn 2) ?_
     refine VO.on (j := 32) (want := true) (d := 36) (b := true) rfl rfl rfl (by kernel_rfl) rfl ?_
     obtain ⟨y100, hy, h⟩ := andO_some h
     refine cal false [.t (.int .i64), .t (.int .i64), .t (.int .i64)] [] (some 39) K (ok48 N _ _ _ hy) ?_
     refine sNh K [1, 42] [0] [(1, .lf (.ptr 0 0 0 0)), (42, B (!y100))] (tn 3) ?_
     refine cnd h (fun h => ?_) (fun h => ?_)
     ·refine sR K [2] [] ⟨[(2, B false)], []⟩ (tn 1) ?_
      cases h; exact VW.ret (rt [])
     refine VW.skip ?_
     exact arv [.ren [1] [0]] ⟨a0.1, a0.2.1, a0.2.2.1, a0.2.2.2.1, a0.2.2.2.2.1, a0.2.2.2.2.2.1, a0.2.2.2.2.2.2, rfl, h⟩
    refine sNh K [1, 42] [0] [(1, .lf (.ptr 0 0 0 0)), (42, B false)] (tn 6) ?_
    refine VW.cond (b := false) (by kernel_rfl) (fun h' => nomatch h') (fun _ => ?_)
    refine VW.skip ?_
    exact arv [.ren [1] [0]] ⟨a0.1, a0.2.1, a0.2.2.1, a0.2.2.2.1, a0.2.2.2.2.1, a0.2.2.2.2.2.1, a0.2.2.2.2.2.2, rfl, h⟩
   refine sGh K 9 [1, 33, 36] [0] [(1, .lf (.ptr 0 0 0 0)), (33, B false), (36, B a0.2.2.2.2.2.1)] (tn 9) ?_
   refine spB 36 h (fun h => ?_) (fun h => ?_)
   ·refine sGh K 2 [1, 33, 36, 38] [0] [(1, .lf (.ptr 0 0 0 0)), (33, B false), (36, B true), (38, I a0.2.2.2.2.1)] (tn 2) ?_
    refine VO.on (j := 32) (want := true) (d := 36) (b := true) rfl rfl rfl (by kernel_rfl) rfl ?_
    obtain ⟨y101, hy, h⟩ := andO_some h
    refine cal false [.t (.int .i64), .t (.int .i64), .t (.int .i64)] [] (some 39) K (ok48 N _ _ _ hy) ?_
    refine sNh K [1, 42] [0] [(1, .lf (.ptr 0 0 0 0)), (42, B (!y101))] (tn 3) ?_
    refine cnd h (fun h => ?_) (fun h => ?_)
    ·refine sR K [2] [] ⟨[(2, B false)], []⟩ (tn 1) ?_
     cases h; exact VW.ret (rt [])
    refine VW.skip ?_
    exact arv [.ren [1] [0]] ⟨a0.1, a0.2.1, a0.2.2.1, a0.2.2.2.1, a0.2.2.2.2.1, a0.2.2.2.2.2.1, a0.2.2.2.2.2.2, rfl, h⟩
   refine sNh K [1, 42] [0] [(1, .lf (.ptr 0 0 0 0)), (42, B false)] (tn 6) ?_
   refine VW.cond (b := false) (by kernel_rfl) (fun h' => nomatch h') (fun _ => ?_)
   refine VW.skip ?_
   exact arv [.ren [1] [0]] ⟨a0.1, a0.2.1, a0.2.2.1, a0.2.2.2.1, a0.2.2.2.2.1, a0.2.2.2.2.2.1, a0.2.2.2.2.2.2, rfl, h⟩
  refine sGh K 9 [1, 12, 16] [0] [(1, .lf (.ptr 0 0 0 0)), (12, B false), (16, B (a0.1 != (2 : Int)))] (tn 9) ?_
  refine spB 16 h (fun h => ?_) (fun h => ?_)
  ·refine sGh K 7 [1, 23] [0] [(1, .lf (.ptr 0 0 0 0)), (23, B (decide ((a0.2.2.2.2.2.2.length : Int) > (0 : Int))))] (tn 7) ?_
   refine spB 23 h (fun h => ?_) (fun h => ?_)
   ·refine sNh K [1, 42] [0] [(1, .lf (.ptr 0 0 0 0)), (42, B true)] (tn 19) ?_
    refine VW.cond (b := true) (by kernel_rfl) (fun _ => ?_) (fun h' => nomatch h')
    refine sR K [2] [] ⟨[(2, B false)], []⟩ (tn 1) ?_
    cases h; exact VW.ret (rt [])
   refine sGh K 4 [1, 23, 27] [0] [(1, .lf (.ptr 0 0 0 0)), (23, B false), (27, B (a0.1 != (1 : Int)))] (tn 4) ?_
   refine spB 27 h (fun h => ?_) (fun h => ?_)
   ·refine sGh K 6 [1, 33] [0] [(1, .lf (.ptr 0 0 0 0)), (33, B (a0.2.2.2.1 != (0 : Int)))] (tn 6) ?_
    refine spB 33 h (fun h => ?_) (fun h => ?_)
    ·refine sNh K [1, 42] [0] [(1, .lf (.ptr 0 0 0 0)), (42, B true)] (tn 9) ?_
     refine VW.cond (b := true) (by kernel_rfl) (fun _ => ?_) (fun h' => nomatch h')
     refine sR K [2] [] ⟨[(2, B false)], []⟩ (tn 1) ?_
     cases h; exact VW.ret (rt [])
    refine sGh K 3 [1, 33, 36] [0] [(1, .lf (.ptr 0 0 0 0)), (33, B false), (36, B a0.2.2.2.2.2.1)] (tn 3) ?_
    refine spB 36 h (fun h => ?_) (fun h => ?_)
    ·refine sGh K 2 [1, 33, 36, 38] [0] [(1, .lf (.ptr 0 0 0 0)), (33, B false), (36, B true), (38, I a0.2.2.2.2.1)] (tn 2) ?_
     refine VO.on (j := 32) (want := true) (d := 36) (b := true) rfl rfl rfl (by kernel_rfl) rfl ?_
     obtain ⟨y102, hy, h⟩ := andO_some h
     refine cal false [.t (.int .i64), .t (.int .i64), .t (.int .i64)] [] (some 39) K (ok48 N _ _ _ hy) ?_
     refine sNh K [1, 42] [0] [(1, .lf (.ptr 0 0 0 0)), (42, B (!y102))] (tn 3) ?_
     refine cnd h (fun h => ?_) (fun h => ?_)
     ·refine sR K [2] [] ⟨[(2, B false)], []⟩ (tn 1) ?_
      cases h; exact VW.ret (rt [])
     refine VW.skip ?_
     exact arv [.ren [1] [0]] ⟨a0.1, a0.2.1, a0.2.2.1, a0.2.2.2.1, a0.2.2.2.2.1, a0.2.2.2.2.2.1, a0.2.2.2.2.2.2, rfl, h⟩
    refine sNh K [1, 42] [0] [(1, .lf (.ptr 0 0 0 0)), (42, B false)] (tn 6) ?_
    refine VW.cond (b := false) (by kernel_rfl) (fun h' => nomatch h') (fun _ => ?_)
    refine VW.skip ?_
    exact arv [.ren [1] [0]] ⟨a0.1, a0.2.1, a0.2.2.1, a0.2.2.2.1, a0.2.2.2.2.1, a0.2.2.2.2.2.1, a0.2.2.2.2.2.2, rfl, h⟩
   refine sGh K 9 [1, 33, 36] [0] [(1, .lf (.ptr 0 0 0 0)), (33, B false), (36, B a0.2.2.2.2.2.1)] (tn 9) ?_
   refine spB 36 h (fun h => ?_) (fun h => ?_)
   ·refine sGh K 2 [1, 33, 36, 38] [0] [(1, .lf (.ptr 0 0 0 0)), (33, B false), (36, B true), (38, I a0.2.2.2.2.1)] (tn 2) ?_
    refine VO.on (j := 32) (want := true) (d := 36) (b := true) rfl rfl rfl (by kernel_rfl) rfl ?_
    obtain ⟨y103, hy, h⟩ := andO_some h
    refine cal false [.t (.int .i64), .t (.int .i64), .t (.int .i64)] [] (some 39) K (ok48 N _ _ _ hy) ?_
    refine sNh K [1, 42] [0] [(1, .lf (.ptr 0 0 0 0)), (42, B (!y103))] (tn 3) ?_
    refine cnd h (fun h => ?_) (fun h => ?_)
    ·refine sR K [2] [] ⟨[(2, B false)], []⟩ (tn 1) ?_
     cases h; exact VW.ret (rt [])
    refine VW.skip ?_
    exact arv [.ren [1] [0]] ⟨a0.1, a0.2.1, a0.2.2.1, a0.2.2.2.1, a0.2.2.2.2.1, a0.2.2.2.2.2.1, a0.2.2.2.2.2.2, rfl, h⟩
   refine sNh K [1, 42] [0] [(1, .lf (.ptr 0 0 0 0)), (42, B false)] (tn 6) ?_
   refine VW.cond (b := false) (by kernel_rfl) (fun h' => nomatch h') (fun _ => ?_)
   refine VW.skip ?_
   exact arv [.ren [1] [0]] ⟨a0.1, a0.2.1, a0.2.2.1, a0.2.2.2.1, a0.2.2.2.2.1, a0.2.2.2.2.2.1, a0.2.2.2.2.2.2, rfl, h⟩
  refine sGh K 11 [1, 23, 27] [0] [(1, .lf (.ptr 0 0 0 0)), (23, B false), (27, B (a0.1 != (1 : Int)))] (tn 11) ?_
  refine spB 27 h (fun h => ?_) (fun h => ?_)
  ·refine sGh K 6 [1, 33] [0] [(1, .lf (.ptr 0 0 0 0)), (33, B (a0.2.2.2.1 != (0 : Int)))] (tn 6) ?_
   refine spB 33 h (fun h => ?_) (fun h => ?_)
   ·refine sNh K [1, 42] [0] [(1, .lf (.ptr 0 0 0 0)), (42, B true)] (tn 9) ?_
    refine VW.cond (b := true) (by kernel_rfl) (fun _ => ?_) (fun h' => nomatch h')
    refine sR K [2] [] ⟨[(2, B false)], []⟩ (tn 1) ?_
    cases h; exact VW.ret (rt [])
   refine sGh K 3 [1, 33, 36] [0] [(1, .lf (.ptr 0 0 0 0)), (33, B false), (36, B a0.2.2.2.2.2.1)] (tn 3) ?_
   refine spB 36 h (fun h => ?_) (fun h => ?_)
   ·refine sGh K 2 [1, 33, 36, 38] [0] [(1, .lf (.ptr 0 0 0 0)), (33, B false), (36, B true), (38, I a0.2.2.2.2.1)] (tn 2) ?_
    refine VO.on (j := 32) (want := true) (d := 36) (b := true) rfl rfl rfl (by kernel_rfl) rfl ?_
    obtain ⟨y104, hy, h⟩ := andO_some h
    refine cal false [.t (.int .i64), .t (.int .i64), .t (.int .i64)] [] (some 39) K (ok48 N _ _ _ hy) ?_
    refine sNh K [1, 42] [0] [(1, .lf (.ptr 0 0 0 0)), (42, B (!y104))] (tn 3) ?_
    refine cnd h (fun h => ?_) (fun h => ?_)
    ·refine sR K [2] [] ⟨[(2, B false)], []⟩ (tn 1) ?_
     cases h; exact VW.ret (rt [])
    refine VW.skip ?_
    exact arv [.ren [1] [0]] ⟨a0.1, a0.2.1, a0.2.2.1, a0.2.2.2.1, a0.2.2.2.2.1, a0.2.2.2.2.2.1, a0.2.2.2.2.2.2, rfl, h⟩
   refine sNh K [1, 42] [0] [(1, .lf (.ptr 0 0 0 0)), (42, B false)] (tn 6) ?_
   refine VW.cond (b := false) (by kernel_rfl) (fun h' => nomatch h') (fun _ => ?_)
   refine VW.skip ?_
   exact arv [.ren [1] [0]] ⟨a0.1, a0.2.1, a0.2.2.1, a0.2.2.2.1, a0.2.2.2.2.1, a0.2.2.2.2.2.1, a0.2.2.2.2.2.2, rfl, h⟩
  refine sGh K 9 [1, 33, 36] [0] [(1, .lf (.ptr 0 0 0 0)), (33, B false), (36, B a0.2.2.2.2.2.1)] (tn 9) ?_
  refine spB 36 h (fun h => ?_) (fun h => ?_)
  ·refine sGh K 2 [1, 33, 36, 38] [0] [(1, .lf (.ptr 0 0 0 0)), (33, B false), (36, B true), (38, I a0.2.2.2.2.1)] (tn 2) ?_
   refine VO.on (j := 32) (want := true) (d := 36) (b := true) rfl rfl rfl (by kernel_rfl) rfl ?_
   obtain ⟨y105, hy, h⟩ := andO_some h
   refine cal false [.t (.int .i64), .t (.int .i64), .t (.int .i64)] [] (some 39) K (ok48 N _ _ _ hy) ?_
   refine sNh K [1, 42] [0] [(1, .lf (.ptr 0 0 0 0)), (42, B (!y105))] (tn 3) ?_
   refine cnd h (fun h => ?_) (fun h => ?_)
   ·refine sR K [2] [] ⟨[(2, B false)], []⟩ (tn 1) ?_
    cases h; exact VW.ret (rt [])
   refine VW.skip ?_
   exact arv [.ren [1] [0]] ⟨a0.1, a0.2.1, a0.2.2.1, a0.2.2.2.1, a0.2.2.2.2.1, a0.2.2.2.2.2.1, a0.2.2.2.2.2.2, rfl, h⟩
  refine sNh K [1, 42] [0] [(1, .lf (.ptr 0 0 0 0)), (42, B false)] (tn 6) ?_
  refine VW.cond (b := false) (by kernel_rfl) (fun h' => nomatch h') (fun _ => ?_)
  refine VW.skip ?_
  exact arv [.ren [1] [0]] ⟨a0.1, a0.2.1, a0.2.2.1, a0.2.2.2.1, a0.2.2.2.2.1, a0.2.2.2.2.2.1, a0.2.2.2.2.2.2, rfl, h⟩
 rintro s ⟨x9, x10, x11, x12, x13, x14, x15, rfl, h⟩
 unfold F25_j3 at h
 refine VW.join (fun s => s = ⟨[], []⟩ ∧ F25_j0 N = some r) ?_ ?_
 ·refine sRh K [1, 44] [0] [(1, .lf (.ptr 0 0 0 0)), (44, I x9)] (tn 2) ?_
  refine VW.block ?_
  refine sRh K [1, 44, 45] [0] [(1, .lf (.ptr 0 0 0 0)), (44, I x9), (45, B (x9 == (0 : Int)))] (tn 2) ?_
  refine cnd h (fun h => ?_) (fun h => ?_)
  ·refine VW.seq ?_
   refine VW.region ?_
   refine sGh K 2 [1, 48] [0] [(1, .lf (.ptr 0 0 0 0)), (48, S x10)] (tn 2) ?_
   obtain ⟨y57, hy, h⟩ := andO_some h
   refine cal false [.t .str] [] (some 49) K (ok49 N _ hy) ?_
   refine sGh K 1 [1, 50] [0] [(1, .lf (.ptr 0 0 0 0)), (50, B y57)] (tn 1) ?_
   refine spB 50 h (fun h => ?_) (fun h => ?_)
   ·refine sGh K 5 [1, 55] [0] [(1, .lf (.ptr 0 0 0 0)), (55, B (x11 == (0 : Int)))] (tn 5) ?_
    refine spB 55 h (fun h => ?_) (fun h => ?_)
    ·refine sGh K 5 [1, 60] [0] [(1, .lf (.ptr 0 0 0 0)), (60, B (x13 == (0 : Int)))] (tn 5) ?_
     refine spB 60 h (fun h => ?_) (fun h => ?_)
     ·refine sN K [2] [] ⟨[(2, B (!x14))], []⟩ (tn 5) ?_
      cases h; exact VW.ret (rt [])
     refine sN K [2] [] ⟨[(2, B false)], []⟩ (tn 5) ?_
     cases h; exact VW.ret (rt [])
    refine sN K [2] [] ⟨[(2, B false)], []⟩ (tn 10) ?_
    cases h; exact VW.ret (rt [])
   refine sN K [2] [] ⟨[(2, B false)], []⟩ (tn 15) ?_
   cases h; exact VW.ret (rt [])
  refine sRh K [1, 44, 65] [0] [(1, .lf (.ptr 0 0 0 0)), (44, I x9), (65, B (x9 == (1 : Int)))] (tn 2) ?_
  refine cnd h (fun h => ?_) (fun h => ?_)
  ·refine VW.seq ?_
   refine VW.region ?_
   refine sGh K 2 [1, 68] [0] [(1, .lf (.ptr 0 0 0 0)), (68, I x11)] (tn 2) ?_
   obtain ⟨y58, hy, h⟩ := andO_some h
   refine cal false [.t (.int .i64)] [] (some 69) K (ok50 N _ hy) ?_
   refine sGh K 1 [1, 70] [0] [(1, .lf (.ptr 0 0 0 0)), (70, B y58)] (tn 1) ?_
   refine spB 70 h (fun h => ?_) (fun h => ?_)
   ·refine sGh K 2 [1, 70, 72] [0] [(1, .lf (.ptr 0 0 0 0)), (70, B true), (72, I x12)] (tn 2) ?_
    refine VO.on (j := 3) (want := true) (d := 70) (b := true) rfl rfl rfl (by kernel_rfl) rfl ?_
    obtain ⟨y59, hy, h⟩ := andO_some h
    refine cal false [.t (.int .i64), .t (.int .i64), .t (.int .i64)] [] (some 73) K (ok48 N _ _ _ hy) ?_
    refine sGh K 2 [1, 75] [0] [(1, .lf (.ptr 0 0 0 0)), (75, B y59)] (tn 2) ?_
    refine spB 75 h (fun h => ?_) (fun h => ?_)
    ·refine sGh K 2 [1, 75, 77] [0] [(1, .lf (.ptr 0 0 0 0)), (75, B true), (77, I x13)] (tn 2) ?_
     refine VO.on (j := 8) (want := true) (d := 75) (b := true) rfl rfl rfl (by kernel_rfl) rfl ?_
     obtain ⟨y60, hy, h⟩ := andO_some h
     refine cal false [.t (.int .i64)] [] (some 78) K (ok51 N _ hy) ?_
     refine sGh K 2 [1, 80] [0] [(1, .lf (.ptr 0 0 0 0)), (80, B y60)] (tn 2) ?_
     refine spB 80 h (fun h => ?_) (fun h => ?_)
     ·refine sGh K 4 [1, 80, 84] [0] [(1, .lf (.ptr 0 0 0 0)), (80, B true), (84, B (x12 != (3 : Int)))] (tn 4) ?_
      refine spB 84 h (fun h => ?_) (fun h => ?_)
      ·refine sN K [2] [] ⟨[(2, B true)], []⟩ (tn 11) ?_
       cases h; exact VW.ret (rt [])
      refine sGh K 4 [1, 80, 84, 88] [0] [(1, .lf (.ptr 0 0 0 0)), (80, B true), (84, B false), (88, B (x13 == (0 : Int)))] (tn 4) ?_
      refine spB 88 h (fun h => ?_) (fun h => ?_)
      ·refine sN K [2] [] ⟨[(2, B (!x14))], []⟩ (tn 7) ?_
       cases h; exact VW.ret (rt [])
      refine sN K [2] [] ⟨[(2, B false)], []⟩ (tn 7) ?_
      cases h; exact VW.ret (rt [])
     refine sN K [2] [] ⟨[(2, B false)], []⟩ (tn 15) ?_
     cases h; exact VW.ret (rt [])
    refine sN K [2] [] ⟨[(2, B false)], []⟩ (tn 20) ?_
    cases h; exact VW.ret (rt [])
   refine sN K [2] [] ⟨[(2, B false)], []⟩ (tn 25) ?_
   cases h; exact VW.ret (rt [])
  refine sRh K [1, 44, 95] [0] [(1, .lf (.ptr 0 0 0 0)), (44, I x9), (95, B (x9 == (2 : Int)))] (tn 2) ?_
  refine cnd h (fun h => ?_) (fun h => ?_)
  ·refine VW.join (fun s => s = ⟨[(1, .lf (.ptr 0 0 0 0))], [bx [zi x9, zs x10, zi x11, zi x12, zi x13, zb x14, .v (.sl (.int .i64)) x15] 27]⟩ ∧ F25_j1 N x11 x13 x14 x15 = some r) ?_ ?_
   ·refine sRh K [1, 3] [0] [(1, .lf (.ptr 0 0 0 0)), (3, I (0 : Int))] (tn 1) ?_
    refine VW.block ?_
    refine lop (fun k s => ∃ (x81 : Int), s = ⟨[(1, .lf (.ptr 0 0 0 0)), (3, I x81)], [bx [zi x9, zs x10, zi x11, zi x12, zi x13, zb x14, .v (.sl (.int .i64)) x15] 27]⟩ ∧ F25_l0 N x11 x13 x14 x15 k x81 = some r) N [.ren [1, 3] [0]] ⟨(0 : Int), rfl, h⟩ ?_
    rintro k86 s ⟨x81, rfl, h⟩
    cases k86 with
    | zero => cases show none = some r from h
    | succ k86 =>
     replace h : F25_l0_b N x11 x13 x14 x15 (F25_l0 N x11 x13 x14 x15 k86) x81 = some r := h
     unfold F25_l0_b at h
     refine VW.seq ?_
     refine sRh K [1, 3, 101] [0] [(1, .lf (.ptr 0 0 0 0)), (3, I x81), (101, B (decide (x81 < (x15.length : Int))))] (tn 5) ?_
     refine cnd h (fun h => ?_) (fun h => ?_)
     ·refine VW.skip ?_
      refine VW.seq ?_
      refine VW.block ?_
      refine VW.seq ?_
      refine VW.region ?_
      obtain ⟨g89, h⟩ := gd_some h
      refine sGh K 5 [1, 3, 108] [0] [(1, .lf (.ptr 0 0 0 0)), (3, I x81), (108, I (x15.getD x81.toNat (Ty.dflt (.int .i64))))] (pu 3 (an g89 (tn 1))) ?_
      obtain ⟨y90, hy, h⟩ := andO_some h
      refine cal false [.t (.int .i64)] [] (some 109) K (ok50 N _ hy) ?_
      refine sNh K [1, 3, 110] [0] [(1, .lf (.ptr 0 0 0 0)), (3, I x81), (110, B (!y90))] (tn 1) ?_
      refine cnd h (fun h => ?_) (fun h => ?_)
      ·refine sR K [2] [] ⟨[(2, B false)], []⟩ (tn 1) ?_
       cases h; exact VW.ret (rt [])
      refine VW.skip ?_
      refine rRh K [1, 3] [0] [(1, .lf (.ptr 0 0 0 0)), (3, I (wr (x81 + (1 : Int))))] (tn 3) ?_
      exact aro [.ren [1, 3] [0]] ⟨(wr (x81 + (1 : Int))), rfl, h⟩
     refine VW.exit ?_
     exact arv [.ren [1] [0]] ⟨rfl, h⟩
   rintro s ⟨rfl, h⟩
   unfold F25_j1 at h
   refine VW.seq ?_
   refine VW.region ?_
   refine sGh K 3 [1, 113] [0] [(1, .lf (.ptr 0 0 0 0)), (113, I (x15.length : Int))] (tn 3) ?_
   obtain ⟨y75, hy, h⟩ := andO_some h
   refine cal false [.t (.int .i64), .t (.int .i64), .t (.int .i64)] [] (some 114) K (ok48 N _ _ _ hy) ?_
   refine sGh K 1 [1, 115] [0] [(1, .lf (.ptr 0 0 0 0)), (115, B y75)] (tn 1) ?_
   refine spB 115 h (fun h => ?_) (fun h => ?_)
   ·refine sGh K 5 [1, 120] [0] [(1, .lf (.ptr 0 0 0 0)), (120, B (x11 == (0 : Int)))] (tn 5) ?_
    refine spB 120 h (fun h => ?_) (fun h => ?_)
    ·refine sGh K 5 [1, 125] [0] [(1, .lf (.ptr 0 0 0 0)), (125, B (x13 == (0 : Int)))] (tn 5) ?_
     refine spB 125 h (fun h => ?_) (fun h => ?_)
     ·refine sN K [2] [] ⟨[(2, B (!x14))], []⟩ (tn 5) ?_
      cases h; exact VW.ret (rt [])
     refine sN K [2] [] ⟨[(2, B false)], []⟩ (tn 5) ?_
     cases h; exact VW.ret (rt [])
    refine sN K [2] [] ⟨[(2, B false)], []⟩ (tn 10) ?_
    cases h; exact VW.ret (rt [])
   refine sN K [2] [] ⟨[(2, B false)], []⟩ (tn 15) ?_
   cases h; exact VW.ret (rt [])
  refine sRh K [1, 44, 130] [0] [(1, .lf (.ptr 0 0 0 0)), (44, I x9), (130, B (x9 == (3 : Int)))] (tn 2) ?_
  refine cnd h (fun h => ?_) (fun h => ?_)
  ·refine VW.seq ?_
   refine VW.region ?_
   refine sGh K 2 [1, 133] [0] [(1, .lf (.ptr 0 0 0 0)), (133, I x11)] (tn 2) ?_
   obtain ⟨y91, hy, h⟩ := andO_some h
   refine cal false [.t (.int .i64)] [] (some 134) K (ok50 N _ hy) ?_
   refine sGh K 1 [1, 135] [0] [(1, .lf (.ptr 0 0 0 0)), (135, B y91)] (tn 1) ?_
   refine spB 135 h (fun h => ?_) (fun h => ?_)
   ·refine sGh K 2 [1, 135, 137] [0] [(1, .lf (.ptr 0 0 0 0)), (135, B true), (137, I x13)] (tn 2) ?_
    refine VO.on (j := 3) (want := true) (d := 135) (b := true) rfl rfl rfl (by kernel_rfl) rfl ?_
    obtain ⟨y92, hy, h⟩ := andO_some h
    refine cal false [.t (.int .i64)] [] (some 138) K (ok50 N _ hy) ?_
    refine sGh K 2 [1, 140] [0] [(1, .lf (.ptr 0 0 0 0)), (140, B y92)] (tn 2) ?_
    refine spB 140 h (fun h => ?_) (fun h => ?_)
    ·refine sN K [2] [] ⟨[(2, B (!x14))], []⟩ (tn 5) ?_
     cases h; exact VW.ret (rt [])
    refine sN K [2] [] ⟨[(2, B false)], []⟩ (tn 5) ?_
    cases h; exact VW.ret (rt [])
   refine sN K [2] [] ⟨[(2, B false)], []⟩ (tn 10) ?_
   cases h; exact VW.ret (rt [])
  refine sRh K [1, 44, 145] [0] [(1, .lf (.ptr 0 0 0 0)), (44, I x9), (145, B (x9 == (5 : Int)))] (tn 2) ?_
  refine cnd h (fun h => ?_) (fun h => ?_)
  ·refine VW.seq ?_
   refine VW.region ?_
   refine sGh K 2 [1, 148] [0] [(1, .lf (.ptr 0 0 0 0)), (148, I x11)] (tn 2) ?_
   obtain ⟨y93, hy, h⟩ := andO_some h
   refine cal false [.t (.int .i64)] [] (some 149) K (ok50 N _ hy) ?_
   refine sGh K 1 [1, 150] [0] [(1, .lf (.ptr 0 0 0 0)), (150, B y93)] (tn 1) ?_
   refine spB 150 h (fun h => ?_) (fun h => ?_)
   ·refine sGh K 5 [1, 155] [0] [(1, .lf (.ptr 0 0 0 0)), (155, B (x13 == (0 : Int)))] (tn 5) ?_
    refine spB 155 h (fun h => ?_) (fun h => ?_)
    ·refine sN K [2] [] ⟨[(2, B (!x14))], []⟩ (tn 5) ?_
     cases h; exact VW.ret (rt [])
    refine sN K [2] [] ⟨[(2, B false)], []⟩ (tn 5) ?_
    cases h; exact VW.ret (rt [])
   refine sN K [2] [] ⟨[(2, B false)], []⟩ (tn 10) ?_
   cases h; exact VW.ret (rt [])
  refine sRh K [1, 44, 160] [0] [(1, .lf (.ptr 0 0 0 0)), (44, I x9), (160, B (x9 == (6 : Int)))] (tn 2) ?_
  refine cnd h (fun h => ?_) (fun h => ?_)
  ·refine VW.seq ?_
   refine VW.region ?_
   refine sGh K 4 [1, 165] [0] [(1, .lf (.ptr 0 0 0 0)), (165, B (x11 == (0 : Int)))] (tn 4) ?_
   refine spB 165 h (fun h => ?_) (fun h => ?_)
   ·refine sG K 2 [165, 167] [] ⟨[(165, B true), (167, I x13)], []⟩ (tn 2) ?_
    refine VO.on (j := 3) (want := true) (d := 165) (b := true) rfl rfl rfl (by kernel_rfl) rfl ?_
    obtain ⟨y94, hy, h⟩ := andO_some h
    refine cal false [.t (.int .i64), .t (.int .i64), .t (.int .i64)] [] (some 168) K (ok48 N _ _ _ hy) ?_
    refine sN K [2] [] ⟨[(2, B y94)], []⟩ (tn 2) ?_
    cases h; exact VW.ret (rt [])
   refine sN K [2] [] ⟨[(2, B false)], []⟩ (tn 5) ?_
   cases h; exact VW.ret (rt [])
  refine VW.join (fun s => ∃ (x95 : Bool), s = ⟨[(1, .lf (.ptr 0 0 0 0)), (170, B x95)], [bx [zi x9, zs x10, zi x11, zi x12, zi x13, zb x14, .v (.sl (.int .i64)) x15] 27]⟩ ∧ F25_j2 N x11 x13 x14 x95 = some r) ?_ ?_
  ·refine sRh K [1, 44, 170] [0] [(1, .lf (.ptr 0 0 0 0)), (44, I x9), (170, B (x9 == (4 : Int)))] (tn 2) ?_
   refine cnd h (fun h => ?_) (fun h => ?_)
   ·refine VW.skip ?_
    exact arv [.ren [1, 170] [0]] ⟨(x9 == (4 : Int)), rfl, h⟩
   refine rRh K [1, 170] [0] [(1, .lf (.ptr 0 0 0 0)), (170, B (x9 == (7 : Int)))] (tn 2) ?_
   exact arv [.ren [1, 170] [0]] ⟨(x9 == (7 : Int)), rfl, h⟩
  rintro s ⟨x95, rfl, h⟩
  unfold F25_j2 at h
  refine cnd h (fun h => ?_) (fun h => ?_)
  ·refine VW.seq ?_
   refine VW.region ?_
   refine sGh K 4 [1, 176] [0] [(1, .lf (.ptr 0 0 0 0)), (176, B (x11 == (0 : Int)))] (tn 4) ?_
   refine spB 176 h (fun h => ?_) (fun h => ?_)
   ·refine sGh K 5 [1, 181] [0] [(1, .lf (.ptr 0 0 0 0)), (181, B (x13 == (0 : Int)))] (tn 5) ?_
    refine spB 181 h (fun h => ?_) (fun h => ?_)
    ·refine sN K [2] [] ⟨[(2, B (!x14))], []⟩ (tn 5) ?_
     cases h; exact VW.ret (rt [])
    refine sN K [2] [] ⟨[(2, B false)], []⟩ (tn 5) ?_
    cases h; exact VW.ret (rt [])
   refine sN K [2] [] ⟨[(2, B false)], []⟩ (tn 10) ?_
   cases h; exact VW.ret (rt [])
  refine VW.skip ?_
  exact arv [.ren [] []] ⟨rfl, h⟩
 rintro s ⟨rfl, h⟩
 unfold F25_j0 at h
 refine sR K [2] [] ⟨[(2, B false)], []⟩ (tn 1) ?_
 cases h; exact VW.ret (rt [])
def F26 (N : Nat) : Option ((List ByteArray)) :=
  some ([(⟨#[115, 99, 97, 110]⟩ : ByteArray), (⟨#[102, 105, 108, 116, 101, 114]⟩ : ByteArray), (⟨#[107, 101, 101, 112]⟩ : ByteArray), (⟨#[106, 111, 105, 110]⟩ : ByteArray), (⟨#[98, 111, 116, 104]⟩ : ByteArray), (⟨#[115, 111, 114, 116]⟩ : ByteArray), (⟨#[108, 105, 109, 105, 116]⟩ : ByteArray), (⟨#[111, 110, 99, 101]⟩ : ByteArray)])
theorem ok26 (N : Nat) {r : (List ByteArray)} (h : F26 N  = some r) : Con Go.Proofs.Tryd.prog 26 [] [.lf (.own .str r .dp)] := by
 refine ctr [.lf (.own .str .dp)] K Go.Proofs.Tryd.func26 rfl fun w0 E0 ht => ?_
 unfold F26 at h
 show VW _ _ _ _ _ (retQ _ _ _ _) _
 refine sR K [] [] ⟨[], []⟩ (tn 1) ?_
 refine sR K [0] [0] ⟨[(0, .lf (.hd 0 0 none))], [ar 0 .str ([(⟨#[115, 99, 97, 110]⟩ : ByteArray), (⟨#[102, 105, 108, 116, 101, 114]⟩ : ByteArray), (⟨#[107, 101, 101, 112]⟩ : ByteArray), (⟨#[106, 111, 105, 110]⟩ : ByteArray), (⟨#[98, 111, 116, 104]⟩ : ByteArray), (⟨#[115, 111, 114, 116]⟩ : ByteArray), (⟨#[108, 105, 109, 105, 116]⟩ : ByteArray), (⟨#[111, 110, 99, 101]⟩ : ByteArray)]) .dp]⟩ (tn 2) ?_
 cases h; exact VW.ret (rt [some 0])
def F27_j0 (N : Nat) (x15 : ByteArray) (x16 : Bool) : Option (ByteArray) :=
  cond x16 (gd ((⟨#[45]⟩ : ByteArray).size + x15.size ≤ 9223372036854775807) (some ((⟨#[45]⟩ : ByteArray) ++ x15))) (some x15)
def F27_j1 (N : Nat) (nx30 : Int → ByteArray → Bool → Option (ByteArray)) (x24 : Int) (x25 : ByteArray) (x26 : Bool) (x31 : Int) : Option (ByteArray) :=
  gd ((strOfNums ([(IntKind.u8.wrap (IntKind.i64.wrap ((48 : Int) + x31)))])).size + x25.size ≤ 9223372036854775807) (nx30 (IntKind.i64.wrap (Int.tdiv x24 (10 : Int))) ((strOfNums ([(IntKind.u8.wrap (IntKind.i64.wrap ((48 : Int) + x31)))])) ++ x25) x26)
def F27_l0_b (N : Nat) (nx30 : Int → ByteArray → Bool → Option (ByteArray)) (x24 : Int) (x25 : ByteArray) (x26 : Bool) : Option (ByteArray) :=
  cond (x24 != (0 : Int)) (cond (decide ((Int.tmod x24 (10 : Int)) < (0 : Int))) (F27_j1 N nx30 x24 x25 x26 (IntKind.i64.wrap ((0 : Int) - (Int.tmod x24 (10 : Int))))) (F27_j1 N nx30 x24 x25 x26 (Int.tmod x24 (10 : Int)))) (F27_j0 N x25 x26)
def F27_l0 (N : Nat) : Nat → Int → ByteArray → Bool → Option (ByteArray) := loopF (F27_l0_b N) (fun _ _ _ => none)
theorem F27_l0_s (N : Nat) {k : Nat} (hk : 0 < k) (x24 : Int) (x25 : ByteArray) (x26 : Bool) : F27_l0 N k x24 x25 x26 = F27_l0_b N (F27_l0 N (k - 1)) x24 x25 x26 := by
 cases k with
 | zero => exact absurd hk (Nat.lt_irrefl 0)
 | succ m => rfl
def F27 (N : Nat) (a0 : Int) : Option (ByteArray) :=
  cond (a0 == (0 : Int)) (some (⟨#[48]⟩ : ByteArray)) (F27_l0 N N a0 ByteArray.empty (decide (a0 < (0 : Int))))
theorem ok27 (N : Nat) (a0 : Int) {r : ByteArray} (h : F27 N a0 = some r) : Con Go.Proofs.Tryd.prog 27 [I a0] [.lf (.v .str r)] := by
 refine ctr [.lf (.v .str)] K Go.Proofs.Tryd.func27 rfl fun w0 E0 ht => ?_
 unfold F27 at h
 show VW _ _ _ _ _ (retQ _ _ _ _) _
 refine sR K [0] [] ⟨[(0, I a0)], []⟩ (tn 1) ?_
 refine VW.seq ?_
 refine sR K [0, 7] [] ⟨[(0, I a0), (7, B (a0 == (0 : Int)))], []⟩ (tn 2) ?_
 refine cnd h (fun h => ?_) (fun h => ?_)
 ·refine sR K [2] [] ⟨[(2, S (⟨#[48]⟩ : ByteArray))], []⟩ (tn 1) ?_
  cases h; exact VW.ret (rt [])
 refine VW.skip ?_
 refine sR K [0, 3] [] ⟨[(0, I a0), (3, S ByteArray.empty)], []⟩ (tn 1) ?_
 refine sR K [0, 3, 4] [] ⟨[(0, I a0), (3, S ByteArray.empty), (4, B (decide (a0 < (0 : Int))))], []⟩ (tn 3) ?_
 refine VW.join (fun s => ∃ (x15 : ByteArray) (x16 : Bool), s = ⟨[(3, S x15), (4, B x16)], []⟩ ∧ F27_j0 N x15 x16 = some r) ?_ ?_
 ·refine VW.block ?_
  refine lop (fun k s => ∃ (x24 : Int) (x25 : ByteArray) (x26 : Bool), s = ⟨[(0, I x24), (3, S x25), (4, B x26)], []⟩ ∧ F27_l0 N k x24 x25 x26 = some r) N [.ren [0, 3, 4] []] ⟨a0, ByteArray.empty, (decide (a0 < (0 : Int))), rfl, h⟩ ?_
  rintro k30 s ⟨x24, x25, x26, rfl, h⟩
  cases k30 with
  | zero => cases show none = some r from h
  | succ k30 =>
   replace h : F27_l0_b N (F27_l0 N k30) x24 x25 x26 = some r := h
   unfold F27_l0_b at h
   refine VW.seq ?_
   refine sR K [0, 3, 4, 11] [] ⟨[(0, I x24), (3, S x25), (4, B x26), (11, B (x24 != (0 : Int)))], []⟩ (tn 2) ?_
   refine cnd h (fun h => ?_) (fun h => ?_)
   ·refine VW.skip ?_
    refine VW.block ?_
    refine sR K [0, 3, 4, 5] [] ⟨[(0, I x24), (3, S x25), (4, B x26), (5, I (Int.tmod x24 (10 : Int)))], []⟩ (pu 1 (an (show ((10 : Int) ≠ 0) from by decide) (tn 1))) ?_
    refine VW.join (fun s => ∃ (x31 : Int), s = ⟨[(0, I x24), (3, S x25), (4, B x26), (5, I x31)], []⟩ ∧ F27_j1 N (F27_l0 N k30) x24 x25 x26 x31 = some r) ?_ ?_
    ·refine sR K [0, 3, 4, 5, 15] [] ⟨[(0, I x24), (3, S x25), (4, B x26), (5, I (Int.tmod x24 (10 : Int))), (15, B (decide ((Int.tmod x24 (10 : Int)) < (0 : Int))))], []⟩ (tn 2) ?_
     refine cnd h (fun h => ?_) (fun h => ?_)
     ·refine rR K [0, 3, 4, 5] [] ⟨[(0, I x24), (3, S x25), (4, B x26), (5, I (wr ((0 : Int) - (Int.tmod x24 (10 : Int)))))], []⟩ (tn 3) ?_
      exact arv [.ren [0, 3, 4, 5] []] ⟨(wr ((0 : Int) - (Int.tmod x24 (10 : Int)))), rfl, h⟩
     refine VW.skip ?_
     exact arv [.ren [0, 3, 4, 5] []] ⟨(Int.tmod x24 (10 : Int)), rfl, h⟩
    rintro s ⟨x31, rfl, h⟩
    unfold F27_j1 at h
    obtain ⟨g32, h⟩ := gd_some h
    refine sR K [0, 3, 4] [] ⟨[(0, I x24), (3, S ((strOfNums ([(IntKind.u8.wrap (wr ((48 : Int) + x31)))])) ++ x25)), (4, B x26)], []⟩ (pu 6 (an g32 (tn 1))) ?_
    refine rR K [0, 3, 4] [] ⟨[(0, I (wr (Int.tdiv x24 (10 : Int)))), (3, S ((strOfNums ([(IntKind.u8.wrap (wr ((48 : Int) + x31)))])) ++ x25)), (4, B x26)], []⟩ (pu 1 (an (show ((10 : Int) ≠ 0) from by decide) (tn 1))) ?_
    exact aro [.ren [0, 3, 4] []] ⟨(wr (Int.tdiv x24 (10 : Int))), ((strOfNums ([(IntKind.u8.wrap (wr ((48 : Int) + x31)))])) ++ x25), x26, rfl, h⟩
   refine VW.exit ?_
   exact arv [.ren [3, 4] []] ⟨x25, x26, rfl, h⟩
 rintro s ⟨x15, x16, rfl, h⟩
 unfold F27_j0 at h
 refine VW.seq ?_
 refine sR K [3, 27] [] ⟨[(3, S x15), (27, B x16)], []⟩ (tn 1) ?_
 refine cnd h (fun h => ?_) (fun h => ?_)
 ·obtain ⟨g18, h⟩ := gd_some h
  refine sR K [2] [] ⟨[(2, S ((⟨#[45]⟩ : ByteArray) ++ x15))], []⟩ (pu 1 (an g18 (tn 1))) ?_
  cases h; exact VW.ret (rt [])
 refine VW.skip ?_
 refine sR K [2] [] ⟨[(2, S x15)], []⟩ (tn 2) ?_
 cases h; exact VW.ret (rt [])
def F28 (N : Nat) : Option ((List ByteArray)) :=
  some ([(⟨#[61]⟩ : ByteArray), (⟨#[60]⟩ : ByteArray), (⟨#[62]⟩ : ByteArray), (⟨#[110, 111, 110, 101]⟩ : ByteArray)])
theorem ok28 (N : Nat) {r : (List ByteArray)} (h : F28 N  = some r) : Con Go.Proofs.Tryd.prog 28 [] [.lf (.own .str r .dp)] := by
 refine ctr [.lf (.own .str .dp)] K Go.Proofs.Tryd.func28 rfl fun w0 E0 ht => ?_
 unfold F28 at h
 show VW _ _ _ _ _ (retQ _ _ _ _) _
 refine sR K [] [] ⟨[], []⟩ (tn 1) ?_
 refine sR K [0] [0] ⟨[(0, .lf (.hd 0 0 none))], [ar 0 .str ([(⟨#[61]⟩ : ByteArray), (⟨#[60]⟩ : ByteArray), (⟨#[62]⟩ : ByteArray), (⟨#[110, 111, 110, 101]⟩ : ByteArray)]) .dp]⟩ (tn 2) ?_
 cases h; exact VW.ret (rt [some 0])
def F29 (N : Nat) (a0 : (Int × (ByteArray × (Int × (Int × (Int × (Bool × (List Int)))))))) : Option (ByteArray) :=
  cond a0.2.2.2.2.2.1 (andO (F27 N a0.2.2.2.2.1) fun y3 => gd ((⟨#[36]⟩ : ByteArray).size + y3.size ≤ 9223372036854775807) (some ((⟨#[36]⟩ : ByteArray) ++ y3))) (andO (F27 N a0.2.2.2.2.1) fun y5 => some y5)
theorem ok29 (N : Nat) (a0 : (Int × (ByteArray × (Int × (Int × (Int × (Bool × (List Int)))))))) {r : ByteArray} (h : F29 N a0 = some r) : Con Go.Proofs.Tryd.prog 29 [.agg (lv Y23 a0)] [.lf (.v .str r)] := by
 refine ctr [.lf (.v .str)] K Go.Proofs.Tryd.func29 rfl fun w0 E0 ht => ?_
 unfold F29 at h
 show VW _ _ _ _ _ (retQ _ _ _ _) _
 refine sR K [1] [0] ⟨[(1, .lf (.ptr 0 0 0 0))], [bx (lv Y23 a0) 27]⟩ (tn 2) ?_
 refine VW.seq ?_
 refine sRh K [1, 4] [0] [(1, .lf (.ptr 0 0 0 0)), (4, B a0.2.2.2.2.2.1)] (tn 2) ?_
 refine cnd h (fun h => ?_) (fun h => ?_)
 ·refine VW.seq ?_
  refine VW.region ?_
  refine sG K 2 [6] [] ⟨[(6, I a0.2.2.2.2.1)], []⟩ (tn 2) ?_
  obtain ⟨y3, hy, h⟩ := andO_some h
  refine cal false [.t (.int .i64)] [] (some 7) K (ok27 N _ hy) ?_
  obtain ⟨g4, h⟩ := gd_some h
  refine sN K [2] [] ⟨[(2, S ((⟨#[36]⟩ : ByteArray) ++ y3))], []⟩ (an g4 (tn 1)) ?_
  cases h; exact VW.ret (rt [])
 refine VW.skip ?_
 refine VW.seq ?_
 refine VW.region ?_
 refine sG K 2 [10] [] ⟨[(10, I a0.2.2.2.2.1)], []⟩ (tn 2) ?_
 obtain ⟨y5, hy, h⟩ := andO_some h
 refine cal false [.t (.int .i64)] [] (some 11) K (ok27 N _ hy) ?_
 refine sN K [2] [] ⟨[(2, S y5)], []⟩ (tn 1) ?_
 cases h; exact VW.ret (rt [])
def F8_j0 (N : Nat) (x76 : ByteArray) : Option (ByteArray) :=
  some x76
def F8_l0_b (N : Nat) (nx127 : Int → ByteArray → Int → Int → Int → Bool → (List Int) → ByteArray → Int → Option (ByteArray)) (x110 : Int) (x111 : ByteArray) (x112 : Int) (x113 : Int) (x114 : Int) (x115 : Bool) (x116 : (List Int)) (x117 : ByteArray) (x118 : Int) : Option (ByteArray) :=
  cond (decide (x118 < (x116.length : Int))) (gd (x117.size + (⟨#[32]⟩ : ByteArray).size ≤ 9223372036854775807) (gd (InR x118 x116.length) (andO (F27 N (x116.getD x118.toNat (Ty.dflt (.int .i64)))) fun y134 => gd ((x117 ++ (⟨#[32]⟩ : ByteArray)).size + y134.size ≤ 9223372036854775807) (nx127 x110 x111 x112 x113 x114 x115 x116 ((x117 ++ (⟨#[32]⟩ : ByteArray)) ++ y134) (IntKind.i64.wrap (x118 + (1 : Int))))))) (F8_j0 N x117)
def F8_l0 (N : Nat) : Nat → Int → ByteArray → Int → Int → Int → Bool → (List Int) → ByteArray → Int → Option (ByteArray) := loopF (F8_l0_b N) (fun _ _ _ _ _ _ _ _ _ => none)
theorem F8_l0_s (N : Nat) {k : Nat} (hk : 0 < k) (x110 : Int) (x111 : ByteArray) (x112 : Int) (x113 : Int) (x114 : Int) (x115 : Bool) (x116 : (List Int)) (x117 : ByteArray) (x118 : Int) : F8_l0 N k x110 x111 x112 x113 x114 x115 x116 x117 x118 = F8_l0_b N (F8_l0 N (k - 1)) x110 x111 x112 x113 x114 x115 x116 x117 x118 := by
 cases k with
 | zero => exact absurd hk (Nat.lt_irrefl 0)
 | succ m => rfl
def F8 (N : Nat) (a0 : (Int × (ByteArray × (Int × (Int × (Int × (Bool × (List Int)))))))) : Option (ByteArray) :=
  andO (F25 N a0) fun y2 => cond (!y2) (some ByteArray.empty) (andO (F26 N ) fun y3 => gd (InR a0.1 y3.length) (gd (a0.1.toNat < y3.length) (cond (a0.1 == (0 : Int)) (gd ((y3.getD a0.1.toNat (Ty.dflt .str)).size + (⟨#[32]⟩ : ByteArray).size ≤ 9223372036854775807) (gd (((y3.getD a0.1.toNat (Ty.dflt .str)) ++ (⟨#[32]⟩ : ByteArray)).size + a0.2.1.size ≤ 9223372036854775807) (some (((y3.getD a0.1.toNat (Ty.dflt .str)) ++ (⟨#[32]⟩ : ByteArray)) ++ a0.2.1)))) (cond (a0.1 == (1 : Int)) (gd ((y3.getD a0.1.toNat (Ty.dflt .str)).size + (⟨#[32]⟩ : ByteArray).size ≤ 9223372036854775807) (andO (F27 N a0.2.2.1) fun y81 => gd (((y3.getD a0.1.toNat (Ty.dflt .str)) ++ (⟨#[32]⟩ : ByteArray)).size + y81.size ≤ 9223372036854775807) (gd ((((y3.getD a0.1.toNat (Ty.dflt .str)) ++ (⟨#[32]⟩ : ByteArray)) ++ y81).size + (⟨#[32]⟩ : ByteArray).size ≤ 9223372036854775807) (andO (F28 N ) fun y84 => gd (InR a0.2.2.2.1 y84.length) (gd (a0.2.2.2.1.toNat < y84.length) (gd (((((y3.getD a0.1.toNat (Ty.dflt .str)) ++ (⟨#[32]⟩ : ByteArray)) ++ y81) ++ (⟨#[32]⟩ : ByteArray)).size + (y84.getD a0.2.2.2.1.toNat (Ty.dflt .str)).size ≤ 9223372036854775807) (cond (a0.2.2.2.1 != (3 : Int)) (gd ((((((y3.getD a0.1.toNat (Ty.dflt .str)) ++ (⟨#[32]⟩ : ByteArray)) ++ y81) ++ (⟨#[32]⟩ : ByteArray)) ++ (y84.getD a0.2.2.2.1.toNat (Ty.dflt .str))).size + (⟨#[32]⟩ : ByteArray).size ≤ 9223372036854775807) (andO (F29 N a0) fun y89 => gd (((((((y3.getD a0.1.toNat (Ty.dflt .str)) ++ (⟨#[32]⟩ : ByteArray)) ++ y81) ++ (⟨#[32]⟩ : ByteArray)) ++ (y84.getD a0.2.2.2.1.toNat (Ty.dflt .str))) ++ (⟨#[32]⟩ : ByteArray)).size + y89.size ≤ 9223372036854775807) (F8_j0 N (((((((y3.getD a0.1.toNat (Ty.dflt .str)) ++ (⟨#[32]⟩ : ByteArray)) ++ y81) ++ (⟨#[32]⟩ : ByteArray)) ++ (y84.getD a0.2.2.2.1.toNat (Ty.dflt .str))) ++ (⟨#[32]⟩ : ByteArray)) ++ y89)))) (F8_j0 N (((((y3.getD a0.1.toNat (Ty.dflt .str)) ++ (⟨#[32]⟩ : ByteArray)) ++ y81) ++ (⟨#[32]⟩ : ByteArray)) ++ (y84.getD a0.2.2.2.1.toNat (Ty.dflt .str))))))))))) (cond (a0.1 == (2 : Int)) (gd ((y3.getD a0.1.toNat (Ty.dflt .str)).size + (⟨#[32]⟩ : ByteArray).size ≤ 9223372036854775807) (andO (F27 N (a0.2.2.2.2.2.2.length : Int)) fun y92 => gd (((y3.getD a0.1.toNat (Ty.dflt .str)) ++ (⟨#[32]⟩ : ByteArray)).size + y92.size ≤ 9223372036854775807) (F8_l0 N N a0.1 a0.2.1 a0.2.2.1 a0.2.2.2.1 a0.2.2.2.2.1 a0.2.2.2.2.2.1 a0.2.2.2.2.2.2 (((y3.getD a0.1.toNat (Ty.dflt .str)) ++ (⟨#[32]⟩ : ByteArray)) ++ y92) (0 : Int)))) (cond (a0.1 == (3 : Int)) (gd ((y3.getD a0.1.toNat (Ty.dflt .str)).size + (⟨#[32]⟩ : ByteArray).size ≤ 9223372036854775807) (andO (F27 N a0.2.2.1) fun y137 => gd (((y3.getD a0.1.toNat (Ty.dflt .str)) ++ (⟨#[32]⟩ : ByteArray)).size + y137.size ≤ 9223372036854775807) (gd ((((y3.getD a0.1.toNat (Ty.dflt .str)) ++ (⟨#[32]⟩ : ByteArray)) ++ y137).size + (⟨#[32]⟩ : ByteArray).size ≤ 9223372036854775807) (andO (F27 N a0.2.2.2.2.1) fun y140 => gd (((((y3.getD a0.1.toNat (Ty.dflt .str)) ++ (⟨#[32]⟩ : ByteArray)) ++ y137) ++ (⟨#[32]⟩ : ByteArray)).size + y140.size ≤ 9223372036854775807) (F8_j0 N (((((y3.getD a0.1.toNat (Ty.dflt .str)) ++ (⟨#[32]⟩ : ByteArray)) ++ y137) ++ (⟨#[32]⟩ : ByteArray)) ++ y140)))))) (cond (a0.1 == (5 : Int)) (gd ((y3.getD a0.1.toNat (Ty.dflt .str)).size + (⟨#[32]⟩ : ByteArray).size ≤ 9223372036854775807) (andO (F27 N a0.2.2.1) fun y143 => gd (((y3.getD a0.1.toNat (Ty.dflt .str)) ++ (⟨#[32]⟩ : ByteArray)).size + y143.size ≤ 9223372036854775807) (F8_j0 N (((y3.getD a0.1.toNat (Ty.dflt .str)) ++ (⟨#[32]⟩ : ByteArray)) ++ y143)))) (cond (a0.1 == (6 : Int)) (gd ((y3.getD a0.1.toNat (Ty.dflt .str)).size + (⟨#[32]⟩ : ByteArray).size ≤ 9223372036854775807) (andO (F29 N a0) fun y146 => gd (((y3.getD a0.1.toNat (Ty.dflt .str)) ++ (⟨#[32]⟩ : ByteArray)).size + y146.size ≤ 9223372036854775807) (F8_j0 N (((y3.getD a0.1.toNat (Ty.dflt .str)) ++ (⟨#[32]⟩ : ByteArray)) ++ y146)))) (F8_j0 N (y3.getD a0.1.toNat (Ty.dflt .str)))))))))))
theorem ok8 (N : Nat) (a0 : (Int × (ByteArray × (Int × (Int × (Int × (Bool × (List Int)))))))) {r : ByteArray} (h : F8 N a0 = some r) : Con Go.Proofs.Tryd.prog 8 [.agg (lv Y23 a0)] [.lf (.v .str r)] := by
 refine ctr [.lf (.v .str)] K Go.Proofs.Tryd.func8 rfl fun w0 E0 ht => ?_
 unfold F8 at h
 show VW _ _ _ _ _ (retQ _ _ _ _) _
 refine sR K [1] [0] ⟨[(1, .lf (.ptr 0 0 0 0))], [bx (lv Y23 a0) 27]⟩ (tn 2) ?_
 refine VW.seq ?_
 refine VW.seq ?_
 refine VW.region ?_
 refine sGh K 1 [1, 5] [0] [(1, .lf (.ptr 0 0 0 0)), (5, .agg (lv Y23 a0))] (tn 1) ?_
 obtain ⟨y2, hy, h⟩ := andO_some h
 refine cal false [.t Y23] [] (some 6) K (ok25 N _ hy) ?_
 refine sNh K [1, 7] [0] [(1, .lf (.ptr 0 0 0 0)), (7, B (!y2))] (tn 1) ?_
 refine cnd h (fun h => ?_) (fun h => ?_)
 ·refine sR K [2] [] ⟨[(2, S ByteArray.empty)], []⟩ (tn 1) ?_
  cases h; exact VW.ret (rt [])
 refine VW.skip ?_
 refine VW.seq ?_
 obtain ⟨y3, hy3, h⟩ := andO_some h
 obtain ⟨g4, h⟩ := gd_some h
 obtain ⟨g5, h⟩ := gd_some h
 refine VW.drawn (by kernel_rfl) [some (8, .lf (.hd 1 0 none)), some (9, .lf (.ptr 0 0 0 0)), some (10, I a0.1), some (11, .lf (.ptr 1 0 a0.1.toNat 0)), some (12, S (y3.getD a0.1.toNat (Ty.dflt .str))), some (3, S (y3.getD a0.1.toNat (Ty.dflt .str)))] [0] [[bx (lv Y23 a0) 27], [bx (lv Y23 a0) 27, ar 0 .str y3 .dp]] [(0, 0), (1, 0), (1, 1), (2, 0), (2, 1), (3, 1), (4, 0), (4, 1), (5, 1)] [1, 3] [0] (s' := ⟨[(1, .lf (.ptr 0 0 0 0)), (3, S (y3.getD a0.1.toNat (Ty.dflt .str)))], [bx (lv Y23 a0) 27]⟩) (by kernel_rfl) (by kernel_rfl) ⟨⟨_, rfl, Stp.eq (Stp.call false [] [] K (d := some 8) (by kernel_rfl) (ok26 N  hy3) rfl) (by kernel_rfl) (by kernel_rfl)⟩,
    qT K,
    qT K,
    qT K,
    qT K,
    ⟨_, rfl, Stp.ev K (m := .dp) (φ := InR a0.1 y3.length) (by kernel_rfl) g4⟩,
    ⟨_, rfl, Stp.void 11 1 0 a0.1.toNat 0 rfl rfl⟩,
    ⟨_, rfl, Stp.ev K (m := .dp) (φ := a0.1.toNat < y3.length) (by kernel_rfl) g5⟩,
    qT K, trivial⟩ (by kernel_rfl) ?_
 refine VW.join (fun s => ∃ (x76 : ByteArray), s = ⟨[(3, S x76)], []⟩ ∧ F8_j0 N x76 = some r) ?_ ?_
 ·refine sRh K [1, 3, 14] [0] [(1, .lf (.ptr 0 0 0 0)), (3, S (y3.getD a0.1.toNat (Ty.dflt .str))), (14, I a0.1)] (tn 2) ?_
  refine VW.block ?_
  refine sRh K [1, 3, 14, 15] [0] [(1, .lf (.ptr 0 0 0 0)), (3, S (y3.getD a0.1.toNat (Ty.dflt .str))), (14, I a0.1), (15, B (a0.1 == (0 : Int)))] (tn 2) ?_
  refine cnd h (fun h => ?_) (fun h => ?_)
  ·obtain ⟨g78, h⟩ := gd_some h
   obtain ⟨g79, h⟩ := gd_some h
   refine sR K [2] [] ⟨[(2, S (((y3.getD a0.1.toNat (Ty.dflt .str)) ++ (⟨#[32]⟩ : ByteArray)) ++ a0.2.1))], []⟩ (pu 1 (an g78 (pu 2 (an g79 (tn 1))))) ?_
   cases h; exact VW.ret (rt [])
  refine sRh K [1, 3, 14, 22] [0] [(1, .lf (.ptr 0 0 0 0)), (3, S (y3.getD a0.1.toNat (Ty.dflt .str))), (14, I a0.1), (22, B (a0.1 == (1 : Int)))] (tn 2) ?_
  refine cnd h (fun h => ?_) (fun h => ?_)
  ·refine VW.seq ?_
   obtain ⟨g80, h⟩ := gd_some h
   obtain ⟨y81, hy81, h⟩ := andO_some h
   obtain ⟨g82, h⟩ := gd_some h
   obtain ⟨g83, h⟩ := gd_some h
   obtain ⟨y84, hy84, h⟩ := andO_some h
   obtain ⟨g85, h⟩ := gd_some h
   obtain ⟨g86, h⟩ := gd_some h
   obtain ⟨g87, h⟩ := gd_some h
   refine VW.drawn (by kernel_rfl) [some (24, S (y3.getD a0.1.toNat (Ty.dflt .str))), some (25, S ((y3.getD a0.1.toNat (Ty.dflt .str)) ++ (⟨#[32]⟩ : ByteArray))), some (26, .lf (.ptr 0 0 0 2)), some (27, I a0.2.2.1), some (28, S y81), some (29, S (((y3.getD a0.1.toNat (Ty.dflt .str)) ++ (⟨#[32]⟩ : ByteArray)) ++ y81)), some (30, S ((((y3.getD a0.1.toNat (Ty.dflt .str)) ++ (⟨#[32]⟩ : ByteArray)) ++ y81) ++ (⟨#[32]⟩ : ByteArray))), some (31, .lf (.hd 1 0 none)), some (32, .lf (.ptr 0 0 0 3)), some (33, I a0.2.2.2.1), some (34, .lf (.ptr 1 0 a0.2.2.2.1.toNat 0)), some (35, S (y84.getD a0.2.2.2.1.toNat (Ty.dflt .str))), some (36, S (((((y3.getD a0.1.toNat (Ty.dflt .str)) ++ (⟨#[32]⟩ : ByteArray)) ++ y81) ++ (⟨#[32]⟩ : ByteArray)) ++ (y84.getD a0.2.2.2.1.toNat (Ty.dflt .str)))), some (3, S (((((y3.getD a0.1.toNat (Ty.dflt .str)) ++ (⟨#[32]⟩ : ByteArray)) ++ y81) ++ (⟨#[32]⟩ : ByteArray)) ++ (y84.getD a0.2.2.2.1.toNat (Ty.dflt .str))))] [7] [[bx (lv Y23 a0) 27], [bx (lv Y23 a0) 27, ar 0 .str y84 .dp]] [(0, 0), (0, 1), (1, 0), (1, 1), (2, 0), (2, 1), (3, 0), (3, 1), (4, 0), (5, 0), (5, 1), (6, 0), (6, 1), (7, 0), (8, 0), (8, 1), (9, 0), (9, 1), (10, 1), (11, 0), (11, 1), (12, 0), (12, 1), (13, 1)] [1, 3] [0] (s' := ⟨[(1, .lf (.ptr 0 0 0 0)), (3, S (((((y3.getD a0.1.toNat (Ty.dflt .str)) ++ (⟨#[32]⟩ : ByteArray)) ++ y81) ++ (⟨#[32]⟩ : ByteArray)) ++ (y84.getD a0.2.2.2.1.toNat (Ty.dflt .str))))], [bx (lv Y23 a0) 27]⟩) (by kernel_rfl) (by kernel_rfl) ⟨qT K,
    qT K,
    ⟨_, rfl, Stp.ev K (m := .dp) (φ := (y3.getD a0.1.toNat (Ty.dflt .str)).size + (⟨#[32]⟩ : ByteArray).size ≤ 9223372036854775807) (by kernel_rfl) g80⟩,
    ⟨_, rfl, Stp.ev K (m := .dp) (φ := (y3.getD a0.1.toNat (Ty.dflt .str)).size + (⟨#[32]⟩ : ByteArray).size ≤ 9223372036854775807) (by kernel_rfl) g80⟩,
    qT K,
    qT K,
    qT K,
    qT K,
    ⟨_, rfl, Stp.eq (Stp.call false [.t (.int .i64)] [] K (d := some 28) (by kernel_rfl) (ok27 N _ hy81) rfl) (by kernel_rfl) (by kernel_rfl)⟩,
    ⟨_, rfl, Stp.ev K (m := .dp) (φ := ((y3.getD a0.1.toNat (Ty.dflt .str)) ++ (⟨#[32]⟩ : ByteArray)).size + y81.size ≤ 9223372036854775807) (by kernel_rfl) g82⟩,
    ⟨_, rfl, Stp.ev K (m := .dp) (φ := ((y3.getD a0.1.toNat (Ty.dflt .str)) ++ (⟨#[32]⟩ : ByteArray)).size + y81.size ≤ 9223372036854775807) (by kernel_rfl) g82⟩,
    ⟨_, rfl, Stp.ev K (m := .dp) (φ := (((y3.getD a0.1.toNat (Ty.dflt .str)) ++ (⟨#[32]⟩ : ByteArray)) ++ y81).size + (⟨#[32]⟩ : ByteArray).size ≤ 9223372036854775807) (by kernel_rfl) g83⟩,
    ⟨_, rfl, Stp.ev K (m := .dp) (φ := (((y3.getD a0.1.toNat (Ty.dflt .str)) ++ (⟨#[32]⟩ : ByteArray)) ++ y81).size + (⟨#[32]⟩ : ByteArray).size ≤ 9223372036854775807) (by kernel_rfl) g83⟩,
    ⟨_, rfl, Stp.eq (Stp.call false [] [] K (d := some 31) (by kernel_rfl) (ok28 N  hy84) rfl) (by kernel_rfl) (by kernel_rfl)⟩,
    qT K,
    qT K,
    qT K,
    qT K,
    ⟨_, rfl, Stp.ev K (m := .dp) (φ := InR a0.2.2.2.1 y84.length) (by kernel_rfl) g85⟩,
    ⟨_, rfl, Stp.void 34 1 0 a0.2.2.2.1.toNat 0 rfl rfl⟩,
    ⟨_, rfl, Stp.ev K (m := .dp) (φ := a0.2.2.2.1.toNat < y84.length) (by kernel_rfl) g86⟩,
    ⟨_, rfl, Stp.ev K (m := .dp) (φ := ((((y3.getD a0.1.toNat (Ty.dflt .str)) ++ (⟨#[32]⟩ : ByteArray)) ++ y81) ++ (⟨#[32]⟩ : ByteArray)).size + (y84.getD a0.2.2.2.1.toNat (Ty.dflt .str)).size ≤ 9223372036854775807) (by kernel_rfl) g87⟩,
    ⟨_, rfl, Stp.ev K (m := .dp) (φ := ((((y3.getD a0.1.toNat (Ty.dflt .str)) ++ (⟨#[32]⟩ : ByteArray)) ++ y81) ++ (⟨#[32]⟩ : ByteArray)).size + (y84.getD a0.2.2.2.1.toNat (Ty.dflt .str)).size ≤ 9223372036854775807) (by kernel_rfl) g87⟩,
    qT K, trivial⟩ (by kernel_rfl) ?_
   refine sRh K [1, 3, 39] [0] [(1, .lf (.ptr 0 0 0 0)), (3, S (((((y3.getD a0.1.toNat (Ty.dflt .str)) ++ (⟨#[32]⟩ : ByteArray)) ++ y81) ++ (⟨#[32]⟩ : ByteArray)) ++ (y84.getD a0.2.2.2.1.toNat (Ty.dflt .str)))), (39, B (a0.2.2.2.1 != (3 : Int)))] (tn 3) ?_
   refine cnd h (fun h => ?_) (fun h => ?_)
   ·refine VW.region ?_
    obtain ⟨g88, h⟩ := gd_some h
    refine sG K 3 [41, 42] [] ⟨[(41, S ((((((y3.getD a0.1.toNat (Ty.dflt .str)) ++ (⟨#[32]⟩ : ByteArray)) ++ y81) ++ (⟨#[32]⟩ : ByteArray)) ++ (y84.getD a0.2.2.2.1.toNat (Ty.dflt .str))) ++ (⟨#[32]⟩ : ByteArray))), (42, .agg (lv Y23 a0))], []⟩ (pu 1 (an g88 (tn 1))) ?_
    obtain ⟨y89, hy, h⟩ := andO_some h
    refine cal false [.t Y23] [] (some 43) K (ok29 N _ hy) ?_
    obtain ⟨g90, h⟩ := gd_some h
    refine sN K [3] [] ⟨[(3, S (((((((y3.getD a0.1.toNat (Ty.dflt .str)) ++ (⟨#[32]⟩ : ByteArray)) ++ y81) ++ (⟨#[32]⟩ : ByteArray)) ++ (y84.getD a0.2.2.2.1.toNat (Ty.dflt .str))) ++ (⟨#[32]⟩ : ByteArray)) ++ y89))], []⟩ (an g90 (tn 1)) ?_
    exact arv [.ren [3] []] ⟨(((((((y3.getD a0.1.toNat (Ty.dflt .str)) ++ (⟨#[32]⟩ : ByteArray)) ++ y81) ++ (⟨#[32]⟩ : ByteArray)) ++ (y84.getD a0.2.2.2.1.toNat (Ty.dflt .str))) ++ (⟨#[32]⟩ : ByteArray)) ++ y89), rfl, h⟩
   refine VW.skip ?_
   exact arv [.ren [3] []] ⟨(((((y3.getD a0.1.toNat (Ty.dflt .str)) ++ (⟨#[32]⟩ : ByteArray)) ++ y81) ++ (⟨#[32]⟩ : ByteArray)) ++ (y84.getD a0.2.2.2.1.toNat (Ty.dflt .str))), rfl, h⟩
  refine sRh K [1, 3, 14, 45] [0] [(1, .lf (.ptr 0 0 0 0)), (3, S (y3.getD a0.1.toNat (Ty.dflt .str))), (14, I a0.1), (45, B (a0.1 == (2 : Int)))] (tn 2) ?_
  refine cnd h (fun h => ?_) (fun h => ?_)
  ·refine VW.seq ?_
   refine VW.region ?_
   obtain ⟨g91, h⟩ := gd_some h
   refine sGh K 5 [1, 48, 51] [0] [(1, .lf (.ptr 0 0 0 0)), (48, S ((y3.getD a0.1.toNat (Ty.dflt .str)) ++ (⟨#[32]⟩ : ByteArray))), (51, I (a0.2.2.2.2.2.2.length : Int))] (pu 1 (an g91 (tn 3))) ?_
   obtain ⟨y92, hy, h⟩ := andO_some h
   refine cal false [.t (.int .i64)] [] (some 52) K (ok27 N _ hy) ?_
   obtain ⟨g93, h⟩ := gd_some h
   refine sNh K [1, 3] [0] [(1, .lf (.ptr 0 0 0 0)), (3, S (((y3.getD a0.1.toNat (Ty.dflt .str)) ++ (⟨#[32]⟩ : ByteArray)) ++ y92))] (an g93 (tn 1)) ?_
   refine sRh K [1, 3, 4] [0] [(1, .lf (.ptr 0 0 0 0)), (3, S (((y3.getD a0.1.toNat (Ty.dflt .str)) ++ (⟨#[32]⟩ : ByteArray)) ++ y92)), (4, I (0 : Int))] (tn 1) ?_
   refine VW.block ?_
   refine lop (fun k s => ∃ (x110 : Int) (x111 : ByteArray) (x112 : Int) (x113 : Int) (x114 : Int) (x115 : Bool) (x116 : (List Int)) (x117 : ByteArray) (x118 : Int), s = ⟨[(1, .lf (.ptr 0 0 0 0)), (3, S x117), (4, I x118)], [bx [zi x110, zs x111, zi x112, zi x113, zi x114, zb x115, .v (.sl (.int .i64)) x116] 27]⟩ ∧ F8_l0 N k x110 x111 x112 x113 x114 x115 x116 x117 x118 = some r) N [.ren [1, 3, 4] [0]] ⟨a0.1, a0.2.1, a0.2.2.1, a0.2.2.2.1, a0.2.2.2.2.1, a0.2.2.2.2.2.1, a0.2.2.2.2.2.2, (((y3.getD a0.1.toNat (Ty.dflt .str)) ++ (⟨#[32]⟩ : ByteArray)) ++ y92), (0 : Int), rfl, h⟩ ?_
   rintro k127 s ⟨x110, x111, x112, x113, x114, x115, x116, x117, x118, rfl, h⟩
   cases k127 with
   | zero => cases show none = some r from h
   | succ k127 =>
    replace h : F8_l0_b N (F8_l0 N k127) x110 x111 x112 x113 x114 x115 x116 x117 x118 = some r := h
    unfold F8_l0_b at h
    refine VW.seq ?_
    refine sRh K [1, 3, 4, 58] [0] [(1, .lf (.ptr 0 0 0 0)), (3, S x117), (4, I x118), (58, B (decide (x118 < (x116.length : Int))))] (tn 5) ?_
    refine cnd h (fun h => ?_) (fun h => ?_)
    ·refine VW.skip ?_
     refine VW.seq ?_
     refine VW.block ?_
     refine VW.region ?_
     obtain ⟨g132, h⟩ := gd_some h
     obtain ⟨g133, h⟩ := gd_some h
     refine sGh K 7 [1, 4, 62, 67] [0] [(1, .lf (.ptr 0 0 0 0)), (4, I x118), (62, S (x117 ++ (⟨#[32]⟩ : ByteArray))), (67, I (x116.getD x118.toNat (Ty.dflt (.int .i64))))] (pu 1 (an g132 (pu 3 (an g133 (tn 1))))) ?_
     obtain ⟨y134, hy, h⟩ := andO_some h
     refine cal false [.t (.int .i64)] [] (some 68) K (ok27 N _ hy) ?_
     obtain ⟨g135, h⟩ := gd_some h
     refine sNh K [1, 3, 4] [0] [(1, .lf (.ptr 0 0 0 0)), (3, S ((x117 ++ (⟨#[32]⟩ : ByteArray)) ++ y134)), (4, I x118)] (an g135 (tn 1)) ?_
     refine rRh K [1, 3, 4] [0] [(1, .lf (.ptr 0 0 0 0)), (3, S ((x117 ++ (⟨#[32]⟩ : ByteArray)) ++ y134)), (4, I (wr (x118 + (1 : Int))))] (tn 3) ?_
     exact aro [.ren [1, 3, 4] [0]] ⟨x110, x111, x112, x113, x114, x115, x116, ((x117 ++ (⟨#[32]⟩ : ByteArray)) ++ y134), (wr (x118 + (1 : Int))), rfl, h⟩
    refine VW.exit ?_
    exact arv [.ren [3] []] ⟨x117, rfl, h⟩
  refine sRh K [1, 3, 14, 70] [0] [(1, .lf (.ptr 0 0 0 0)), (3, S (y3.getD a0.1.toNat (Ty.dflt .str))), (14, I a0.1), (70, B (a0.1 == (3 : Int)))] (tn 2) ?_
  refine cnd h (fun h => ?_) (fun h => ?_)
  ·obtain ⟨g136, h⟩ := gd_some h
   obtain ⟨y137, hy137, h⟩ := andO_some h
   obtain ⟨g138, h⟩ := gd_some h
   obtain ⟨g139, h⟩ := gd_some h
   obtain ⟨y140, hy140, h⟩ := andO_some h
   obtain ⟨g141, h⟩ := gd_some h
   refine VW.drawn (by kernel_rfl) [some (72, S (y3.getD a0.1.toNat (Ty.dflt .str))), some (73, S ((y3.getD a0.1.toNat (Ty.dflt .str)) ++ (⟨#[32]⟩ : ByteArray))), some (74, .lf (.ptr 0 0 0 2)), some (75, I a0.2.2.1), some (76, S y137), some (77, S (((y3.getD a0.1.toNat (Ty.dflt .str)) ++ (⟨#[32]⟩ : ByteArray)) ++ y137)), some (78, S ((((y3.getD a0.1.toNat (Ty.dflt .str)) ++ (⟨#[32]⟩ : ByteArray)) ++ y137) ++ (⟨#[32]⟩ : ByteArray))), some (79, .lf (.ptr 0 0 0 4)), some (80, I a0.2.2.2.2.1), some (81, S y140), some (82, S (((((y3.getD a0.1.toNat (Ty.dflt .str)) ++ (⟨#[32]⟩ : ByteArray)) ++ y137) ++ (⟨#[32]⟩ : ByteArray)) ++ y140)), some (3, S (((((y3.getD a0.1.toNat (Ty.dflt .str)) ++ (⟨#[32]⟩ : ByteArray)) ++ y137) ++ (⟨#[32]⟩ : ByteArray)) ++ y140))] [] [[bx (lv Y23 a0) 27]] [(0, 0), (1, 0), (2, 0), (3, 0), (4, 0), (5, 0), (6, 0), (7, 0), (8, 0), (9, 0), (10, 0), (11, 0)] [3] [] (s' := ⟨[(3, S (((((y3.getD a0.1.toNat (Ty.dflt .str)) ++ (⟨#[32]⟩ : ByteArray)) ++ y137) ++ (⟨#[32]⟩ : ByteArray)) ++ y140))], []⟩) (by kernel_rfl) (by kernel_rfl) ⟨qT K,
    ⟨_, rfl, Stp.ev K (m := .dp) (φ := (y3.getD a0.1.toNat (Ty.dflt .str)).size + (⟨#[32]⟩ : ByteArray).size ≤ 9223372036854775807) (by kernel_rfl) g136⟩,
    qT K,
    qT K,
    ⟨_, rfl, Stp.eq (Stp.call false [.t (.int .i64)] [] K (d := some 76) (by kernel_rfl) (ok27 N _ hy137) rfl) (by kernel_rfl) (by kernel_rfl)⟩,
    ⟨_, rfl, Stp.ev K (m := .dp) (φ := ((y3.getD a0.1.toNat (Ty.dflt .str)) ++ (⟨#[32]⟩ : ByteArray)).size + y137.size ≤ 9223372036854775807) (by kernel_rfl) g138⟩,
    ⟨_, rfl, Stp.ev K (m := .dp) (φ := (((y3.getD a0.1.toNat (Ty.dflt .str)) ++ (⟨#[32]⟩ : ByteArray)) ++ y137).size + (⟨#[32]⟩ : ByteArray).size ≤ 9223372036854775807) (by kernel_rfl) g139⟩,
    qT K,
    qT K,
    ⟨_, rfl, Stp.eq (Stp.call false [.t (.int .i64)] [] K (d := some 81) (by kernel_rfl) (ok27 N _ hy140) rfl) (by kernel_rfl) (by kernel_rfl)⟩,
    ⟨_, rfl, Stp.ev K (m := .dp) (φ := ((((y3.getD a0.1.toNat (Ty.dflt .str)) ++ (⟨#[32]⟩ : ByteArray)) ++ y137) ++ (⟨#[32]⟩ : ByteArray)).size + y140.size ≤ 9223372036854775807) (by kernel_rfl) g141⟩,
    qT K, trivial⟩ (by kernel_rfl) ?_
   exact arv [.ren [3] []] ⟨(((((y3.getD a0.1.toNat (Ty.dflt .str)) ++ (⟨#[32]⟩ : ByteArray)) ++ y137) ++ (⟨#[32]⟩ : ByteArray)) ++ y140), rfl, h⟩
  refine sRh K [1, 3, 14, 83] [0] [(1, .lf (.ptr 0 0 0 0)), (3, S (y3.getD a0.1.toNat (Ty.dflt .str))), (14, I a0.1), (83, B (a0.1 == (5 : Int)))] (tn 2) ?_
  refine cnd h (fun h => ?_) (fun h => ?_)
  ·refine VW.region ?_
   obtain ⟨g142, h⟩ := gd_some h
   refine sG K 4 [86, 88] [] ⟨[(86, S ((y3.getD a0.1.toNat (Ty.dflt .str)) ++ (⟨#[32]⟩ : ByteArray))), (88, I a0.2.2.1)], []⟩ (pu 1 (an g142 (tn 2))) ?_
   obtain ⟨y143, hy, h⟩ := andO_some h
   refine cal false [.t (.int .i64)] [] (some 89) K (ok27 N _ hy) ?_
   obtain ⟨g144, h⟩ := gd_some h
   refine sN K [3] [] ⟨[(3, S (((y3.getD a0.1.toNat (Ty.dflt .str)) ++ (⟨#[32]⟩ : ByteArray)) ++ y143))], []⟩ (an g144 (tn 1)) ?_
   exact arv [.ren [3] []] ⟨(((y3.getD a0.1.toNat (Ty.dflt .str)) ++ (⟨#[32]⟩ : ByteArray)) ++ y143), rfl, h⟩
  refine sRh K [1, 3, 91] [0] [(1, .lf (.ptr 0 0 0 0)), (3, S (y3.getD a0.1.toNat (Ty.dflt .str))), (91, B (a0.1 == (6 : Int)))] (tn 2) ?_
  refine cnd h (fun h => ?_) (fun h => ?_)
  ·refine VW.region ?_
   obtain ⟨g145, h⟩ := gd_some h
   refine sG K 3 [94, 95] [] ⟨[(94, S ((y3.getD a0.1.toNat (Ty.dflt .str)) ++ (⟨#[32]⟩ : ByteArray))), (95, .agg (lv Y23 a0))], []⟩ (pu 1 (an g145 (tn 1))) ?_
   obtain ⟨y146, hy, h⟩ := andO_some h
   refine cal false [.t Y23] [] (some 96) K (ok29 N _ hy) ?_
   obtain ⟨g147, h⟩ := gd_some h
   refine sN K [3] [] ⟨[(3, S (((y3.getD a0.1.toNat (Ty.dflt .str)) ++ (⟨#[32]⟩ : ByteArray)) ++ y146))], []⟩ (an g147 (tn 1)) ?_
   exact arv [.ren [3] []] ⟨(((y3.getD a0.1.toNat (Ty.dflt .str)) ++ (⟨#[32]⟩ : ByteArray)) ++ y146), rfl, h⟩
  refine VW.skip ?_
  exact arv [.ren [3] []] ⟨(y3.getD a0.1.toNat (Ty.dflt .str)), rfl, h⟩
 rintro s ⟨x76, rfl, h⟩
 unfold F8_j0 at h
 refine sR K [2] [] ⟨[(2, S x76)], []⟩ (tn 2) ?_
 cases h; exact VW.ret (rt [])
def F30_j0 (N : Nat) (x24 : (List Int)) : Option ((List Int)) :=
  some x24
def F30_l0_b (N : Nat) (a0 : (List Int)) (nx41 : (List Int) → Int → Option ((List Int))) (x33 : (List Int)) (x34 : Int) : Option ((List Int)) :=
  cond (decide (x34 < (a0.length : Int))) (gd (InR x34 a0.length) (gd (InR x34 x33.length) (gd (x34.toNat < x33.length) (nx41 (x33.set x34.toNat (a0.getD x34.toNat (Ty.dflt (.int .i64)))) (IntKind.i64.wrap (x34 + (1 : Int))))))) (F30_j0 N x33)
def F30_l0 (N : Nat) (a0 : (List Int)) : Nat → (List Int) → Int → Option ((List Int)) := loopF (F30_l0_b N a0) (fun _ _ => none)
theorem F30_l0_s (N : Nat) (a0 : (List Int)) {k : Nat} (hk : 0 < k) (x33 : (List Int)) (x34 : Int) : F30_l0 N a0 k x33 x34 = F30_l0_b N a0 (F30_l0 N a0 (k - 1)) x33 x34 := by
 cases k with
 | zero => exact absurd hk (Nat.lt_irrefl 0)
 | succ m => rfl
def F30 (N : Nat) (a0 : (List Int)) : Option ((List Int)) :=
  gd (0 ≤ (a0.length : Int) ∧ (a0.length : Int) ≤ (lim (.int .i64) : Int) ∧ (a0.length : Int) = (a0.length : Int)) (F30_l0 N a0 N (List.replicate (a0.length : Int).toNat (Ty.dflt (.int .i64))) (0 : Int))
theorem ok30 (N : Nat) (a0 : (List Int)) {r : (List Int)} (h : F30 N a0 = some r) : Con Go.Proofs.Tryd.prog 30 [.lf (.v (.sl (.int .i64)) a0)] [.lf (.own (.int .i64) r .dp)] := by
 refine ctr [.lf (.own (.int .i64) .dp)] K Go.Proofs.Tryd.func30 rfl fun w0 E0 ht => ?_
 unfold F30 at h
 show VW _ _ _ _ _ (retQ _ _ _ _) _
 refine sR K [0] [] ⟨[(0, .lf (.v (.sl (.int .i64)) a0))], []⟩ (tn 1) ?_
 obtain ⟨g1, h⟩ := gd_some h
 refine sR K [0, 3] [0] ⟨[(0, .lf (.v (.sl (.int .i64)) a0)), (3, .lf (.hd 0 0 none))], [ar 0 (.int .i64) (List.replicate (a0.length : Int).toNat (Ty.dflt (.int .i64))) .dp]⟩ (pu 2 (an g1 (tn 1))) ?_
 refine VW.join (fun s => ∃ (x24 : (List Int)), s = ⟨[(3, .lf (.hd 0 0 none))], [ar 0 (.int .i64) x24 .dp]⟩ ∧ F30_j0 N x24 = some r) ?_ ?_
 ·refine sRh K [0, 3, 4] [0] [(0, .lf (.v (.sl (.int .i64)) a0)), (3, .lf (.hd 0 0 none)), (4, I (0 : Int))] (tn 1) ?_
  refine VW.block ?_
  refine lop (fun k s => ∃ (x33 : (List Int)) (x34 : Int), s = ⟨[(0, .lf (.v (.sl (.int .i64)) a0)), (3, .lf (.hd 0 0 none)), (4, I x34)], [ar 0 (.int .i64) x33 .dp]⟩ ∧ F30_l0 N a0 k x33 x34 = some r) N [.ren [0, 3, 4] [0]] ⟨(List.replicate (a0.length : Int).toNat (Ty.dflt (.int .i64))), (0 : Int), rfl, h⟩ ?_
  rintro k41 s ⟨x33, x34, rfl, h⟩
  cases k41 with
  | zero => cases show none = some r from h
  | succ k41 =>
   replace h : F30_l0_b N a0 (F30_l0 N a0 k41) x33 x34 = some r := h
   unfold F30_l0_b at h
   refine VW.seq ?_
   refine sRh K [0, 3, 4, 11] [0] [(0, .lf (.v (.sl (.int .i64)) a0)), (3, .lf (.hd 0 0 none)), (4, I x34), (11, B (decide (x34 < (a0.length : Int))))] (tn 4) ?_
   refine cnd h (fun h => ?_) (fun h => ?_)
   ·refine VW.skip ?_
    refine VW.seq ?_
    refine VW.block ?_
    obtain ⟨g45, h⟩ := gd_some h
    obtain ⟨g46, h⟩ := gd_some h
    obtain ⟨g47, h⟩ := gd_some h
    refine rR K [0, 3, 4] [0] ⟨[(0, .lf (.v (.sl (.int .i64)) a0)), (3, .lf (.hd 0 0 none)), (4, I x34)], [ar 0 (.int .i64) (x33.set x34.toNat (a0.getD x34.toNat (Ty.dflt (.int .i64)))) .dp]⟩ (pu 4 (an g45 (pu 1 (an g46 (an g47 (tn 0)))))) ?_
    refine rRh K [0, 3, 4] [0] [(0, .lf (.v (.sl (.int .i64)) a0)), (3, .lf (.hd 0 0 none)), (4, I (wr (x34 + (1 : Int))))] (tn 3) ?_
    exact aro [.ren [0, 3, 4] [0]] ⟨(x33.set x34.toNat (a0.getD x34.toNat (Ty.dflt (.int .i64)))), (wr (x34 + (1 : Int))), rfl, h⟩
   refine VW.exit ?_
   exact arv [.ren [3] [0]] ⟨x33, rfl, h⟩
 rintro s ⟨x24, rfl, h⟩
 unfold F30_j0 at h
 refine sRh K [2] [0] [(2, .lf (.hd 0 0 none))] (tn 2) ?_
 cases h; exact VW.ret (rt [some 0])
def F9 (N : Nat) (a0 : (Int × (ByteArray × (Int × (Int × (Int × (Bool × (List Int)))))))) : Option ((Int × (ByteArray × (Int × (Int × (Int × (Bool × (List Int)))))))) :=
  andO (F30 N a0.2.2.2.2.2.2) fun y1 => some (a0.1, (a0.2.1, (a0.2.2.1, (a0.2.2.2.1, (a0.2.2.2.2.1, (a0.2.2.2.2.2.1, y1))))))
theorem ok9 (N : Nat) (a0 : (Int × (ByteArray × (Int × (Int × (Int × (Bool × (List Int)))))))) {r : (Int × (ByteArray × (Int × (Int × (Int × (Bool × (List Int)))))))} (h : F9 N a0 = some r) : Con Go.Proofs.Tryd.prog 9 [.agg (lv Y23 a0)] [.agg [.v (.int .i64) r.1, .v .str r.2.1, .v (.int .i64) r.2.2.1, .v (.int .i64) r.2.2.2.1, .v (.int .i64) r.2.2.2.2.1, .v .bool r.2.2.2.2.2.1, .own (.int .i64) r.2.2.2.2.2.2 .dp]] := by
 refine ctr [.agg [.v (.int .i64), .v .str, .v (.int .i64), .v (.int .i64), .v (.int .i64), .v .bool, .own (.int .i64) .dp]] K Go.Proofs.Tryd.func9 rfl fun w0 E0 ht => ?_
 unfold F9 at h
 show VW _ _ _ _ _ (retQ _ _ _ _) _
 refine sR K [1, 2] [0, 1] ⟨[(1, .lf (.ptr 0 0 0 0)), (2, .lf (.ptr 1 0 0 0))], [bx (lv Y23 a0) 24, bx [zi (0 : Int), zs ByteArray.empty, zi (0 : Int), zi (0 : Int), zi (0 : Int), zb false, .nil] 27]⟩ (tn 2) ?_
 refine sR K [1, 2, 3] [0, 1, 2] ⟨[(1, .lf (.ptr 0 0 0 0)), (2, .lf (.ptr 1 0 0 0)), (3, .lf (.ptr 2 0 0 0))], [bx (lv Y23 a0) 24, bx [zi (0 : Int), zs ByteArray.empty, zi (0 : Int), zi (0 : Int), zi (0 : Int), zb false, .nil] 27, bx [zi (0 : Int), zs ByteArray.empty, zi (0 : Int), zi (0 : Int), zi (0 : Int), zb false, .nil] 27]⟩ (tn 1) ?_
 refine sR K [1, 2, 3] [0, 1, 2] ⟨[(1, .lf (.ptr 0 0 0 0)), (2, .lf (.ptr 1 0 0 0)), (3, .lf (.ptr 2 0 0 0))], [bx (lv Y23 a0) 24, bx [zi (0 : Int), zs ByteArray.empty, zi (0 : Int), zi (0 : Int), zi (0 : Int), zb false, .nil] 27, bx [zi a0.1, zs ByteArray.empty, zi (0 : Int), zi (0 : Int), zi (0 : Int), zb false, .nil] 27]⟩ (tn 4) ?_
 refine sR K [1, 2, 3] [0, 1, 2] ⟨[(1, .lf (.ptr 0 0 0 0)), (2, .lf (.ptr 1 0 0 0)), (3, .lf (.ptr 2 0 0 0))], [bx (lv Y23 a0) 24, bx [zi (0 : Int), zs ByteArray.empty, zi (0 : Int), zi (0 : Int), zi (0 : Int), zb false, .nil] 27, bx [zi a0.1, zs a0.2.1, zi (0 : Int), zi (0 : Int), zi (0 : Int), zb false, .nil] 27]⟩ (tn 4) ?_
 refine sR K [1, 2, 3] [0, 1, 2] ⟨[(1, .lf (.ptr 0 0 0 0)), (2, .lf (.ptr 1 0 0 0)), (3, .lf (.ptr 2 0 0 0))], [bx (lv Y23 a0) 24, bx [zi (0 : Int), zs ByteArray.empty, zi (0 : Int), zi (0 : Int), zi (0 : Int), zb false, .nil] 27, bx [zi a0.1, zs a0.2.1, zi a0.2.2.1, zi (0 : Int), zi (0 : Int), zb false, .nil] 27]⟩ (tn 4) ?_
 refine sR K [1, 2, 3] [0, 1, 2] ⟨[(1, .lf (.ptr 0 0 0 0)), (2, .lf (.ptr 1 0 0 0)), (3, .lf (.ptr 2 0 0 0))], [bx (lv Y23 a0) 24, bx [zi (0 : Int), zs ByteArray.empty, zi (0 : Int), zi (0 : Int), zi (0 : Int), zb false, .nil] 27, bx [zi a0.1, zs a0.2.1, zi a0.2.2.1, zi a0.2.2.2.1, zi (0 : Int), zb false, .nil] 27]⟩ (tn 4) ?_
 refine sR K [1, 2, 3] [0, 1, 2] ⟨[(1, .lf (.ptr 0 0 0 0)), (2, .lf (.ptr 1 0 0 0)), (3, .lf (.ptr 2 0 0 0))], [bx (lv Y23 a0) 24, bx [zi (0 : Int), zs ByteArray.empty, zi (0 : Int), zi (0 : Int), zi (0 : Int), zb false, .nil] 27, bx [zi a0.1, zs a0.2.1, zi a0.2.2.1, zi a0.2.2.2.1, zi a0.2.2.2.2.1, zb false, .nil] 27]⟩ (tn 4) ?_
 refine sR K [1, 2, 3] [0, 1, 2] ⟨[(1, .lf (.ptr 0 0 0 0)), (2, .lf (.ptr 1 0 0 0)), (3, .lf (.ptr 2 0 0 0))], [bx (lv Y23 a0) 24, bx [zi (0 : Int), zs ByteArray.empty, zi (0 : Int), zi (0 : Int), zi (0 : Int), zb false, .nil] 27, bx [zi a0.1, zs a0.2.1, zi a0.2.2.1, zi a0.2.2.2.1, zi a0.2.2.2.2.1, zb a0.2.2.2.2.2.1, .nil] 27]⟩ (tn 4) ?_
 refine VW.seq ?_
 refine VW.region ?_
 refine sG K 2 [2, 3, 23] [1, 2] ⟨[(2, .lf (.ptr 0 0 0 0)), (3, .lf (.ptr 1 0 0 0)), (23, .lf (.v (.sl (.int .i64)) a0.2.2.2.2.2.2))], [bx [zi (0 : Int), zs ByteArray.empty, zi (0 : Int), zi (0 : Int), zi (0 : Int), zb false, .nil] 27, bx [zi a0.1, zs a0.2.1, zi a0.2.2.1, zi a0.2.2.2.1, zi a0.2.2.2.2.1, zb a0.2.2.2.2.2.1, .nil] 27]⟩ (tn 2) ?_
 obtain ⟨y1, hy, h⟩ := andO_some h
 refine cal false [.t (.sl (.int .i64))] [] (some 24) K (ok30 N _ hy) ?_
 refine sN K [2, 3] [0, 1, 2] ⟨[(2, .lf (.ptr 0 0 0 0)), (3, .lf (.ptr 1 0 0 0))], [bx [zi (0 : Int), zs ByteArray.empty, zi (0 : Int), zi (0 : Int), zi (0 : Int), zb false, .nil] 27, bx [zi a0.1, zs a0.2.1, zi a0.2.2.1, zi a0.2.2.2.1, zi a0.2.2.2.2.1, zb a0.2.2.2.2.2.1, .hd 2 0 none] 27, ar 0 (.int .i64) y1 .dp]⟩ (tn 2) ?_
 refine sR K [2] [0, 2] ⟨[(2, .lf (.ptr 0 0 0 0))], [bx [zi a0.1, zs a0.2.1, zi a0.2.2.1, zi a0.2.2.2.1, zi a0.2.2.2.2.1, zb a0.2.2.2.2.2.1, .hd 1 0 none] 27, ar 0 (.int .i64) y1 .dp]⟩ (tn 2) ?_
 cases h; exact VW.ret (rt [some 1])
def F54 (N : Nat) (a0 : Int) (a1 : Int) (a2 : Int) : Option (Bool) :=
  cond (decide (a0 ≥ a1)) (some (decide (a0 ≤ a2))) (some false)
theorem ok54 (N : Nat) (a0 : Int) (a1 : Int) (a2 : Int) {r : Bool} (h : F54 N a0 a1 a2 = some r) : Con Go.Proofs.Tryd.prog 54 [I a0, I a1, I a2] [.lf (.v .bool r)] := by
 refine ctr [.lf (.v .bool)] K Go.Proofs.Tryd.func54 rfl fun w0 E0 ht => ?_
 unfold F54 at h
 show VW _ _ _ _ _ (retQ _ _ _ _) _
 refine sR K [0, 1, 2] [] ⟨[(0, I a0), (1, I a1), (2, I a2)], []⟩ (tn 1) ?_
 refine VW.seq ?_
 refine VW.region ?_
 refine sG K 4 [0, 2, 10] [] ⟨[(0, I a0), (2, I a2), (10, B (decide (a0 ≥ a1)))], []⟩ (tn 4) ?_
 refine spB 10 h (fun h => ?_) (fun h => ?_)
 ·refine sN K [6] [] ⟨[(6, B (decide (a0 ≤ a2)))], []⟩ (tn 5) ?_
  cases h; exact VW.ret (rt [])
 refine sN K [6] [] ⟨[(6, B false)], []⟩ (tn 5) ?_
 cases h; exact VW.ret (rt [])
def F52_j0 (N : Nat) (a0 : ByteArray) : Option (Bool) :=
  andO (F54 N (a0.size : Int) (1 : Int) (12 : Int)) fun y14 => some y14
def F52_j1 (N : Nat) (nx25 : Int → Int → Option (Bool)) (x20 : Int) (x21 : Int) : Option (Bool) :=
  nx25 x20 (IntKind.i64.wrap (x21 + (1 : Int)))
def F52_l0_b (N : Nat) (a0 : ByteArray) (nx25 : Int → Int → Option (Bool)) (x20 : Int) (x21 : Int) : Option (Bool) :=
  cond (decide (x21 < x20)) (gd (InR x21 a0.size) (cond (decide (((a0.data.getD x21.toNat 0).toNat : Int) ≥ (97 : Int))) (cond (!(decide (((a0.data.getD x21.toNat 0).toNat : Int) ≤ (122 : Int)))) (cond (x21 == (0 : Int)) (some false) (cond (decide (((a0.data.getD x21.toNat 0).toNat : Int) < (48 : Int))) (some false) (cond (decide (((a0.data.getD x21.toNat 0).toNat : Int) > (57 : Int))) (some false) (F52_j1 N nx25 x20 x21)))) (F52_j1 N nx25 x20 x21)) (cond (x21 == (0 : Int)) (some false) (cond (decide (((a0.data.getD x21.toNat 0).toNat : Int) < (48 : Int))) (some false) (cond (decide (((a0.data.getD x21.toNat 0).toNat : Int) > (57 : Int))) (some false) (F52_j1 N nx25 x20 x21)))))) (F52_j0 N a0)
def F52_l0 (N : Nat) (a0 : ByteArray) : Nat → Int → Int → Option (Bool) := loopF (F52_l0_b N a0) (fun _ _ => none)
theorem F52_l0_s (N : Nat) (a0 : ByteArray) {k : Nat} (hk : 0 < k) (x20 : Int) (x21 : Int) : F52_l0 N a0 k x20 x21 = F52_l0_b N a0 (F52_l0 N a0 (k - 1)) x20 x21 := by
 cases k with
 | zero => exact absurd hk (Nat.lt_irrefl 0)
 | succ m => rfl
def F52 (N : Nat) (a0 : ByteArray) : Option (Bool) :=
  F52_l0 N a0 N (a0.size : Int) (0 : Int)
theorem ok52 (N : Nat) (a0 : ByteArray) {r : Bool} (h : F52 N a0 = some r) : Con Go.Proofs.Tryd.prog 52 [S a0] [.lf (.v .bool r)] := by
 refine ctr [.lf (.v .bool)] K Go.Proofs.Tryd.func52 rfl fun w0 E0 ht => ?_
 unfold F52 at h
 show VW _ _ _ _ _ (retQ _ _ _ _) _
 refine sR K [0] [] ⟨[(0, S a0)], []⟩ (tn 1) ?_
 refine VW.join (fun s => s = ⟨[(0, S a0)], []⟩ ∧ F52_j0 N a0 = some r) ?_ ?_
 ·refine sR K [0, 7, 8] [] ⟨[(0, S a0), (7, I (a0.size : Int)), (8, I (0 : Int))], []⟩ (tn 3) ?_
  refine VW.block ?_
  refine lop (fun k s => ∃ (x20 : Int) (x21 : Int), s = ⟨[(0, S a0), (7, I x20), (8, I x21)], []⟩ ∧ F52_l0 N a0 k x20 x21 = some r) N [.ren [0, 7, 8] []] ⟨(a0.size : Int), (0 : Int), rfl, h⟩ ?_
  rintro k25 s ⟨x20, x21, rfl, h⟩
  cases k25 with
  | zero => cases show none = some r from h
  | succ k25 =>
   replace h : F52_l0_b N a0 (F52_l0 N a0 k25) x20 x21 = some r := h
   unfold F52_l0_b at h
   refine sR K [0, 7, 8, 9] [] ⟨[(0, S a0), (7, I x20), (8, I x21), (9, B (decide (x21 < x20)))], []⟩ (tn 1) ?_
   refine VW.seq ?_
   refine cnd h (fun h => ?_) (fun h => ?_)
   ·refine VW.skip ?_
    refine VW.join (fun s => s = ⟨[(0, S a0), (7, I x20), (8, I x21)], []⟩ ∧ F52_j1 N (F52_l0 N a0 k25) x20 x21 = some r) ?_ ?_
    ·refine VW.block ?_
     refine sR K [0, 3, 7, 8] [] ⟨[(0, S a0), (3, I x21), (7, I x20), (8, I x21)], []⟩ (tn 2) ?_
     obtain ⟨g28, h⟩ := gd_some h
     refine sR K [0, 3, 4, 7, 8] [] ⟨[(0, S a0), (3, I x21), (4, U ((a0.data.getD x21.toNat 0).toNat : Int)), (7, I x20), (8, I x21)], []⟩ (pu 2 (an g28 (tn 1))) ?_
     refine VW.seq ?_
     refine VW.region ?_
     refine sG K 3 [0, 3, 4, 7, 8, 16] [] ⟨[(0, S a0), (3, I x21), (4, U ((a0.data.getD x21.toNat 0).toNat : Int)), (7, I x20), (8, I x21), (16, B (decide (((a0.data.getD x21.toNat 0).toNat : Int) ≥ (97 : Int))))], []⟩ (tn 3) ?_
     refine spB 16 h (fun h => ?_) (fun h => ?_)
     ·refine sN K [0, 3, 4, 5, 7, 8] [] ⟨[(0, S a0), (3, I x21), (4, U ((a0.data.getD x21.toNat 0).toNat : Int)), (5, B (decide (((a0.data.getD x21.toNat 0).toNat : Int) ≤ (122 : Int)))), (7, I x20), (8, I x21)], []⟩ (tn 4) ?_
      refine VW.seq ?_
      refine VW.region ?_
      refine sG K 3 [0, 3, 4, 7, 8, 22] [] ⟨[(0, S a0), (3, I x21), (4, U ((a0.data.getD x21.toNat 0).toNat : Int)), (7, I x20), (8, I x21), (22, B (!(decide (((a0.data.getD x21.toNat 0).toNat : Int) ≤ (122 : Int)))))], []⟩ (tn 3) ?_
      refine spB 22 h (fun h => ?_) (fun h => ?_)
      ·refine sG K 3 [0, 4, 7, 8, 22, 25] [] ⟨[(0, S a0), (4, U ((a0.data.getD x21.toNat 0).toNat : Int)), (7, I x20), (8, I x21), (22, B true), (25, B (x21 == (0 : Int)))], []⟩ (tn 3) ?_
       refine spB 25 h (fun h => ?_) (fun h => ?_)
       ·refine sN K [0, 7, 8, 33] [] ⟨[(0, S a0), (7, I x20), (8, I x21), (33, B true)], []⟩ (tn 8) ?_
        refine VW.cond (b := true) (by kernel_rfl) (fun _ => ?_) (fun h' => nomatch h')
        refine sR K [2] [] ⟨[(2, B false)], []⟩ (tn 1) ?_
        cases h; exact VW.ret (rt [])
       refine sG K 4 [0, 4, 7, 8, 22, 29] [] ⟨[(0, S a0), (4, U ((a0.data.getD x21.toNat 0).toNat : Int)), (7, I x20), (8, I x21), (22, B true), (29, B (decide (((a0.data.getD x21.toNat 0).toNat : Int) < (48 : Int))))], []⟩ (tn 4) ?_
       refine spB 29 h (fun h => ?_) (fun h => ?_)
       ·refine sN K [0, 7, 8, 33] [] ⟨[(0, S a0), (7, I x20), (8, I x21), (33, B true)], []⟩ (tn 4) ?_
        refine VW.cond (b := true) (by kernel_rfl) (fun _ => ?_) (fun h' => nomatch h')
        refine sR K [2] [] ⟨[(2, B false)], []⟩ (tn 1) ?_
        cases h; exact VW.ret (rt [])
       refine sN K [0, 7, 8, 33] [] ⟨[(0, S a0), (7, I x20), (8, I x21), (33, B (decide (((a0.data.getD x21.toNat 0).toNat : Int) > (57 : Int))))], []⟩ (tn 4) ?_
       refine cnd h (fun h => ?_) (fun h => ?_)
       ·refine sR K [2] [] ⟨[(2, B false)], []⟩ (tn 1) ?_
        cases h; exact VW.ret (rt [])
       refine VW.skip ?_
       exact arv [.ren [0, 7, 8] []] ⟨rfl, h⟩
      refine sN K [0, 7, 8, 33] [] ⟨[(0, S a0), (7, I x20), (8, I x21), (33, B false)], []⟩ (tn 11) ?_
      refine VW.cond (b := false) (by kernel_rfl) (fun h' => nomatch h') (fun _ => ?_)
      refine VW.skip ?_
      exact arv [.ren [0, 7, 8] []] ⟨rfl, h⟩
     refine sN K [0, 3, 4, 5, 7, 8] [] ⟨[(0, S a0), (3, I x21), (4, U ((a0.data.getD x21.toNat 0).toNat : Int)), (5, B false), (7, I x20), (8, I x21)], []⟩ (tn 4) ?_
     refine VW.seq ?_
     refine VW.region ?_
     refine sG K 6 [0, 4, 7, 8, 22, 25] [] ⟨[(0, S a0), (4, U ((a0.data.getD x21.toNat 0).toNat : Int)), (7, I x20), (8, I x21), (22, B true), (25, B (x21 == (0 : Int)))], []⟩ (tn 6) ?_
     refine spB 25 h (fun h => ?_) (fun h => ?_)
     ·refine sN K [0, 7, 8, 33] [] ⟨[(0, S a0), (7, I x20), (8, I x21), (33, B true)], []⟩ (tn 8) ?_
      refine VW.cond (b := true) (by kernel_rfl) (fun _ => ?_) (fun h' => nomatch h')
      refine sR K [2] [] ⟨[(2, B false)], []⟩ (tn 1) ?_
      cases h; exact VW.ret (rt [])
     refine sG K 4 [0, 4, 7, 8, 22, 29] [] ⟨[(0, S a0), (4, U ((a0.data.getD x21.toNat 0).toNat : Int)), (7, I x20), (8, I x21), (22, B true), (29, B (decide (((a0.data.getD x21.toNat 0).toNat : Int) < (48 : Int))))], []⟩ (tn 4) ?_
     refine spB 29 h (fun h => ?_) (fun h => ?_)
     ·refine sN K [0, 7, 8, 33] [] ⟨[(0, S a0), (7, I x20), (8, I x21), (33, B true)], []⟩ (tn 4) ?_
      refine VW.cond (b := true) (by kernel_rfl) (fun _ => ?_) (fun h' => nomatch h')
      refine sR K [2] [] ⟨[(2, B false)], []⟩ (tn 1) ?_
      cases h; exact VW.ret (rt [])
     refine sN K [0, 7, 8, 33] [] ⟨[(0, S a0), (7, I x20), (8, I x21), (33, B (decide (((a0.data.getD x21.toNat 0).toNat : Int) > (57 : Int))))], []⟩ (tn 4) ?_
     refine cnd h (fun h => ?_) (fun h => ?_)
     ·refine sR K [2] [] ⟨[(2, B false)], []⟩ (tn 1) ?_
      cases h; exact VW.ret (rt [])
     refine VW.skip ?_
     exact arv [.ren [0, 7, 8] []] ⟨rfl, h⟩
    rintro s ⟨rfl, h⟩
    unfold F52_j1 at h
    refine rR K [0, 7, 8] [] ⟨[(0, S a0), (7, I x20), (8, I (wr (x21 + (1 : Int))))], []⟩ (tn 2) ?_
    exact aro [.ren [0, 7, 8] []] ⟨x20, (wr (x21 + (1 : Int))), rfl, h⟩
   refine VW.exit ?_
   exact arv [.ren [0] []] ⟨rfl, h⟩
 rintro s ⟨rfl, h⟩
 unfold F52_j0 at h
 refine VW.seq ?_
 refine VW.region ?_
 refine sG K 2 [36] [] ⟨[(36, I (a0.size : Int))], []⟩ (tn 2) ?_
 obtain ⟨y14, hy, h⟩ := andO_some h
 refine cal false [.t (.int .i64), .t (.int .i64), .t (.int .i64)] [] (some 37) K (ok54 N _ _ _ hy) ?_
 refine sN K [2] [] ⟨[(2, B y14)], []⟩ (tn 1) ?_
 cases h; exact VW.ret (rt [])
def F53 (N : Nat) (a0 : Int) : Option (Bool) :=
  andO (F54 N a0 (0 : Int) (63 : Int)) fun y1 => some y1
theorem ok53 (N : Nat) (a0 : Int) {r : Bool} (h : F53 N a0 = some r) : Con Go.Proofs.Tryd.prog 53 [I a0] [.lf (.v .bool r)] := by
 refine ctr [.lf (.v .bool)] K Go.Proofs.Tryd.func53 rfl fun w0 E0 ht => ?_
 unfold F53 at h
 show VW _ _ _ _ _ (retQ _ _ _ _) _
 refine sR K [0] [] ⟨[(0, I a0)], []⟩ (tn 1) ?_
 refine VW.seq ?_
 refine VW.region ?_
 refine sG K 1 [3] [] ⟨[(3, I a0)], []⟩ (tn 1) ?_
 obtain ⟨y1, hy, h⟩ := andO_some h
 refine cal false [.t (.int .i64), .t (.int .i64), .t (.int .i64)] [] (some 4) K (ok54 N _ _ _ hy) ?_
 refine sN K [2] [] ⟨[(2, B y1)], []⟩ (tn 1) ?_
 cases h; exact VW.ret (rt [])
def F55 (N : Nat) (a0 : Int) : Option (Bool) :=
  andO (F54 N a0 (0 : Int) (39 : Int)) fun y1 => some y1
theorem ok55 (N : Nat) (a0 : Int) {r : Bool} (h : F55 N a0 = some r) : Con Go.Proofs.Tryd.prog 55 [I a0] [.lf (.v .bool r)] := by
 refine ctr [.lf (.v .bool)] K Go.Proofs.Tryd.func55 rfl fun w0 E0 ht => ?_
 unfold F55 at h
 show VW _ _ _ _ _ (retQ _ _ _ _) _
 refine sR K [0] [] ⟨[(0, I a0)], []⟩ (tn 1) ?_
 refine VW.seq ?_
 refine VW.region ?_
 refine sG K 1 [3] [] ⟨[(3, I a0)], []⟩ (tn 1) ?_
 obtain ⟨y1, hy, h⟩ := andO_some h
 refine cal false [.t (.int .i64), .t (.int .i64), .t (.int .i64)] [] (some 4) K (ok54 N _ _ _ hy) ?_
 refine sN K [2] [] ⟨[(2, B y1)], []⟩ (tn 1) ?_
 cases h; exact VW.ret (rt [])
def F56 (N : Nat) (a0 : Int) : Option (Bool) :=
  andO (F54 N a0 (-1000000 : Int) (1000000 : Int)) fun y1 => some y1
theorem ok56 (N : Nat) (a0 : Int) {r : Bool} (h : F56 N a0 = some r) : Con Go.Proofs.Tryd.prog 56 [I a0] [.lf (.v .bool r)] := by
 refine ctr [.lf (.v .bool)] K Go.Proofs.Tryd.func56 rfl fun w0 E0 ht => ?_
 unfold F56 at h
 show VW _ _ _ _ _ (retQ _ _ _ _) _
 refine sR K [0] [] ⟨[(0, I a0)], []⟩ (tn 1) ?_
 refine VW.seq ?_
 refine VW.region ?_
 refine sG K 1 [3] [] ⟨[(3, I a0)], []⟩ (tn 1) ?_
 obtain ⟨y1, hy, h⟩ := andO_some h
 refine cal false [.t (.int .i64), .t (.int .i64), .t (.int .i64)] [] (some 4) K (ok54 N _ _ _ hy) ?_
 refine sN K [2] [] ⟨[(2, B y1)], []⟩ (tn 1) ?_
 cases h; exact VW.ret (rt [])
def F71_j0 (N : Nat) : Option (Int) :=
  some (-1 : Int)
def F71_l0_b (N : Nat) (a0 : (List Int)) (p1 : Int → Option (Bool)) (nx29 : Int → Int → Option (Int)) (x23 : Int) (x24 : Int) : Option (Int) :=
  cond (decide (x24 < x23)) (gd (InR x24 a0.length) (andO (p1 (a0.getD x24.toNat (Ty.dflt (.int .i64)))) fun y33 => cond y33 (some x24) (nx29 x23 (IntKind.i64.wrap (x24 + (1 : Int)))))) (F71_j0 N)
def F71_l0 (N : Nat) (a0 : (List Int)) (p1 : Int → Option (Bool)) : Nat → Int → Int → Option (Int) := loopF (F71_l0_b N a0 p1) (fun _ _ => none)
theorem F71_l0_s (N : Nat) (a0 : (List Int)) (p1 : Int → Option (Bool)) {k : Nat} (hk : 0 < k) (x23 : Int) (x24 : Int) : F71_l0 N a0 p1 k x23 x24 = F71_l0_b N a0 p1 (F71_l0 N a0 p1 (k - 1)) x23 x24 := by
 cases k with
 | zero => exact absurd hk (Nat.lt_irrefl 0)
 | succ m => rfl
def F71 (N : Nat) (a0 : (List Int)) (p1 : Int → Option (Bool)) : Option (Int) :=
  F71_l0 N a0 p1 N (a0.length : Int) (0 : Int)
theorem ok71 (N : Nat) (a0 : (List Int)) (g1 : FuncId) (p1 : Int → Option (Bool)) (hp1 : ∀ (z0 : Int) (r : Bool), p1 z0 = some r → Con Go.Proofs.Tryd.prog g1 [I z0] [.lf (.v .bool r)]) {r : Int} (h : F71 N a0 p1 = some r) : Con Go.Proofs.Tryd.prog 71 [.lf (.v (.sl (.int .i64)) a0), .clo g1 []] [.lf (.v (.int .i64) r)] := by
 refine ctr [.lf (.v (.int .i64))] K Go.Proofs.Tryd.func71 rfl fun w0 E0 ht => ?_
 unfold F71 at h
 show VW _ _ _ _ _ (retQ _ _ _ _) _
 refine sR K [0, 1] [] ⟨[(0, .lf (.v (.sl (.int .i64)) a0)), (1, .clo g1 [])], []⟩ (tn 1) ?_
 refine VW.join (fun s => s = ⟨[], []⟩ ∧ F71_j0 N = some r) ?_ ?_
 ·refine sR K [0, 1, 7, 8] [] ⟨[(0, .lf (.v (.sl (.int .i64)) a0)), (1, .clo g1 []), (7, I (a0.length : Int)), (8, I (0 : Int))], []⟩ (tn 3) ?_
  refine VW.block ?_
  refine lop (fun k s => ∃ (x23 : Int) (x24 : Int), s = ⟨[(0, .lf (.v (.sl (.int .i64)) a0)), (1, .clo g1 []), (7, I x23), (8, I x24)], []⟩ ∧ F71_l0 N a0 p1 k x23 x24 = some r) N [.ren [0, 1, 7, 8] []] ⟨(a0.length : Int), (0 : Int), rfl, h⟩ ?_
  rintro k29 s ⟨x23, x24, rfl, h⟩
  cases k29 with
  | zero => cases show none = some r from h
  | succ k29 =>
   replace h : F71_l0_b N a0 p1 (F71_l0 N a0 p1 k29) x23 x24 = some r := h
   unfold F71_l0_b at h
   refine sR K [0, 1, 7, 8, 9] [] ⟨[(0, .lf (.v (.sl (.int .i64)) a0)), (1, .clo g1 []), (7, I x23), (8, I x24), (9, B (decide (x24 < x23)))], []⟩ (tn 1) ?_
   refine VW.seq ?_
   refine cnd h (fun h => ?_) (fun h => ?_)
   ·refine VW.skip ?_
    refine VW.seq ?_
    refine VW.block ?_
    refine sR K [0, 1, 5, 7, 8] [] ⟨[(0, .lf (.v (.sl (.int .i64)) a0)), (1, .clo g1 []), (5, I x24), (7, I x23), (8, I x24)], []⟩ (tn 2) ?_
    refine VW.seq ?_
    refine VW.region ?_
    obtain ⟨g32, h⟩ := gd_some h
    refine sG K 5 [0, 1, 5, 7, 8, 11, 15] [] ⟨[(0, .lf (.v (.sl (.int .i64)) a0)), (1, .clo g1 []), (5, I x24), (7, I x23), (8, I x24), (11, .clo g1 []), (15, I (a0.getD x24.toNat (Ty.dflt (.int .i64))))], []⟩ (pu 3 (an g32 (tn 1))) ?_
    obtain ⟨y33, hy, h⟩ := andO_some h
    refine cal false [.t (.int .i64)] [] (some 16) K (hp1 _ _ hy) ?_
    refine sN K [0, 1, 5, 7, 8, 16] [] ⟨[(0, .lf (.v (.sl (.int .i64)) a0)), (1, .clo g1 []), (5, I x24), (7, I x23), (8, I x24), (16, B y33)], []⟩ (tn 0) ?_
    refine cnd h (fun h => ?_) (fun h => ?_)
    ·refine sR K [4] [] ⟨[(4, I x24)], []⟩ (tn 2) ?_
     cases h; exact VW.ret (rt [])
    refine VW.skip ?_
    refine rR K [0, 1, 7, 8] [] ⟨[(0, .lf (.v (.sl (.int .i64)) a0)), (1, .clo g1 []), (7, I x23), (8, I (wr (x24 + (1 : Int))))], []⟩ (tn 2) ?_
    exact aro [.ren [0, 1, 7, 8] []] ⟨x23, (wr (x24 + (1 : Int))), rfl, h⟩
   refine VW.exit ?_
   exact arv [.ren [] []] ⟨rfl, h⟩
 rintro s ⟨rfl, h⟩
 unfold F71_j0 at h
 refine sR K [4] [] ⟨[(4, I (-1 : Int))], []⟩ (tn 1) ?_
 cases h; exact VW.ret (rt [])
def F57 (N : Nat) (a0 : (List Int)) (p1 : Int → Option (Bool)) : Option (Bool) :=
  andO (F71 N a0 p1) fun y1 => some (decide (y1 ≥ (0 : Int)))
theorem ok57 (N : Nat) (a0 : (List Int)) (g1 : FuncId) (p1 : Int → Option (Bool)) (hp1 : ∀ (z0 : Int) (r : Bool), p1 z0 = some r → Con Go.Proofs.Tryd.prog g1 [I z0] [.lf (.v .bool r)]) {r : Bool} (h : F57 N a0 p1 = some r) : Con Go.Proofs.Tryd.prog 57 [.lf (.v (.sl (.int .i64)) a0), .clo g1 []] [.lf (.v .bool r)] := by
 refine ctr [.lf (.v .bool)] K Go.Proofs.Tryd.func57 rfl fun w0 E0 ht => ?_
 unfold F57 at h
 show VW _ _ _ _ _ (retQ _ _ _ _) _
 refine sR K [0, 1] [] ⟨[(0, .lf (.v (.sl (.int .i64)) a0)), (1, .clo g1 [])], []⟩ (tn 1) ?_
 refine VW.seq ?_
 refine VW.region ?_
 refine sG K 2 [5, 6] [] ⟨[(5, .lf (.v (.sl (.int .i64)) a0)), (6, .clo g1 [])], []⟩ (tn 2) ?_
 obtain ⟨y1, hy, h⟩ := andO_some h
 refine cal false [.t (.sl (.int .i64)), .clo []] [] (some 7) K (ok71 N _ g1  p1 hp1 hy) ?_
 refine sN K [4] [] ⟨[(4, B (decide (y1 ≥ (0 : Int))))], []⟩ (tn 2) ?_
 cases h; exact VW.ret (rt [])
def F58 (N : Nat) (a0 : Int) : Option (Bool) :=
  andO (F53 N a0) fun y1 => some (!y1)
theorem ok58 (N : Nat) (a0 : Int) {r : Bool} (h : F58 N a0 = some r) : Con Go.Proofs.Tryd.prog 58 [I a0] [.lf (.v .bool r)] := by
 refine ctr [.lf (.v .bool)] K Go.Proofs.Tryd.func58 rfl fun w0 E0 ht => ?_
 unfold F58 at h
 show VW _ _ _ _ _ (retQ _ _ _ _) _
 refine sR K [0] [] ⟨[(0, I a0)], []⟩ (tn 1) ?_
 refine VW.seq ?_
 refine VW.region ?_
 refine sG K 1 [3] [] ⟨[(3, I a0)], []⟩ (tn 1) ?_
 obtain ⟨y1, hy, h⟩ := andO_some h
 refine cal false [.t (.int .i64)] [] (some 4) K (ok53 N _ hy) ?_
 refine sN K [2] [] ⟨[(2, B (!y1))], []⟩ (tn 2) ?_
 cases h; exact VW.ret (rt [])
def F72_j0 (N : Nat) : Option (Bool) :=
  some true
def F72_l0_b (N : Nat) (a0 : (List Int)) (a1 : (List Int)) (nx29 : Int → Int → Option (Bool)) (x23 : Int) (x24 : Int) : Option (Bool) :=
  cond (decide (x24 < x23)) (gd (InR x24 a0.length) (gd (InR x24 a1.length) (cond ((a0.getD x24.toNat (Ty.dflt (.int .i64))) != (a1.getD x24.toNat (Ty.dflt (.int .i64)))) (some false) (nx29 x23 (IntKind.i64.wrap (x24 + (1 : Int))))))) (F72_j0 N)
def F72_l0 (N : Nat) (a0 : (List Int)) (a1 : (List Int)) : Nat → Int → Int → Option (Bool) := loopF (F72_l0_b N a0 a1) (fun _ _ => none)
theorem F72_l0_s (N : Nat) (a0 : (List Int)) (a1 : (List Int)) {k : Nat} (hk : 0 < k) (x23 : Int) (x24 : Int) : F72_l0 N a0 a1 k x23 x24 = F72_l0_b N a0 a1 (F72_l0 N a0 a1 (k - 1)) x23 x24 := by
 cases k with
 | zero => exact absurd hk (Nat.lt_irrefl 0)
 | succ m => rfl
def F72 (N : Nat) (a0 : (List Int)) (a1 : (List Int)) : Option (Bool) :=
  cond ((a0.length : Int) != (a1.length : Int)) (some false) (F72_l0 N a0 a1 N (a0.length : Int) (0 : Int))
theorem ok72 (N : Nat) (a0 : (List Int)) (a1 : (List Int)) {r : Bool} (h : F72 N a0 a1 = some r) : Con Go.Proofs.Tryd.prog 72 [.lf (.v (.sl (.int .i64)) a0), .lf (.v (.sl (.int .i64)) a1)] [.lf (.v .bool r)] := by
 refine ctr [.lf (.v .bool)] K Go.Proofs.Tryd.func72 rfl fun w0 E0 ht => ?_
 unfold F72 at h
 show VW _ _ _ _ _ (retQ _ _ _ _) _
 refine sR K [0, 1] [] ⟨[(0, .lf (.v (.sl (.int .i64)) a0)), (1, .lf (.v (.sl (.int .i64)) a1))], []⟩ (tn 1) ?_
 refine VW.seq ?_
 refine sR K [0, 1, 10] [] ⟨[(0, .lf (.v (.sl (.int .i64)) a0)), (1, .lf (.v (.sl (.int .i64)) a1)), (10, B ((a0.length : Int) != (a1.length : Int)))], []⟩ (tn 5) ?_
 refine cnd h (fun h => ?_) (fun h => ?_)
 ·refine sR K [4] [] ⟨[(4, B false)], []⟩ (tn 1) ?_
  cases h; exact VW.ret (rt [])
 refine VW.skip ?_
 refine VW.join (fun s => s = ⟨[], []⟩ ∧ F72_j0 N = some r) ?_ ?_
 ·refine sR K [0, 1, 12, 13] [] ⟨[(0, .lf (.v (.sl (.int .i64)) a0)), (1, .lf (.v (.sl (.int .i64)) a1)), (12, I (a0.length : Int)), (13, I (0 : Int))], []⟩ (tn 3) ?_
  refine VW.block ?_
  refine lop (fun k s => ∃ (x23 : Int) (x24 : Int), s = ⟨[(0, .lf (.v (.sl (.int .i64)) a0)), (1, .lf (.v (.sl (.int .i64)) a1)), (12, I x23), (13, I x24)], []⟩ ∧ F72_l0 N a0 a1 k x23 x24 = some r) N [.ren [0, 1, 12, 13] []] ⟨(a0.length : Int), (0 : Int), rfl, h⟩ ?_
  rintro k29 s ⟨x23, x24, rfl, h⟩
  cases k29 with
  | zero => cases show none = some r from h
  | succ k29 =>
   replace h : F72_l0_b N a0 a1 (F72_l0 N a0 a1 k29) x23 x24 = some r := h
   unfold F72_l0_b at h
   refine sR K [0, 1, 12, 13, 14] [] ⟨[(0, .lf (.v (.sl (.int .i64)) a0)), (1, .lf (.v (.sl (.int .i64)) a1)), (12, I x23), (13, I x24), (14, B (decide (x24 < x23)))], []⟩ (tn 1) ?_
   refine VW.seq ?_
   refine cnd h (fun h => ?_) (fun h => ?_)
   ·refine VW.skip ?_
    refine VW.seq ?_
    refine VW.block ?_
    refine sR K [0, 1, 5, 12, 13] [] ⟨[(0, .lf (.v (.sl (.int .i64)) a0)), (1, .lf (.v (.sl (.int .i64)) a1)), (5, I x24), (12, I x23), (13, I x24)], []⟩ (tn 2) ?_
    refine VW.seq ?_
    obtain ⟨g32, h⟩ := gd_some h
    obtain ⟨g33, h⟩ := gd_some h
    refine VW.drawn (by kernel_rfl) [some (16, .lf (.v (.sl (.int .i64)) a0)), some (17, I x24), some (18, .lf (.fp (.int .i64) (a0.getD x24.toNat (Ty.dflt (.int .i64))) 0)), some (19, I (a0.getD x24.toNat (Ty.dflt (.int .i64)))), some (20, .lf (.v (.sl (.int .i64)) a1)), some (21, I x24), some (22, .lf (.fp (.int .i64) (a1.getD x24.toNat (Ty.dflt (.int .i64))) 0)), some (23, I (a1.getD x24.toNat (Ty.dflt (.int .i64)))), some (24, B ((a0.getD x24.toNat (Ty.dflt (.int .i64))) != (a1.getD x24.toNat (Ty.dflt (.int .i64)))))] [] [[]] [(0, 0), (1, 0), (2, 0), (3, 0), (4, 0), (5, 0), (6, 0), (7, 0), (8, 0)] [0, 1, 12, 13, 24] [] (s' := ⟨[(0, .lf (.v (.sl (.int .i64)) a0)), (1, .lf (.v (.sl (.int .i64)) a1)), (12, I x23), (13, I x24), (24, B ((a0.getD x24.toNat (Ty.dflt (.int .i64))) != (a1.getD x24.toNat (Ty.dflt (.int .i64)))))], []⟩) (by kernel_rfl) (by kernel_rfl) ⟨qT K,
    qT K,
    ⟨_, rfl, Stp.ev K (m := .dp) (φ := InR x24 a0.length) (by kernel_rfl) g32⟩,
    qT K,
    qT K,
    qT K,
    ⟨_, rfl, Stp.ev K (m := .dp) (φ := InR x24 a1.length) (by kernel_rfl) g33⟩,
    qT K,
    qT K, trivial⟩ (by kernel_rfl) ?_
    refine cnd h (fun h => ?_) (fun h => ?_)
    ·refine sR K [4] [] ⟨[(4, B false)], []⟩ (tn 1) ?_
     cases h; exact VW.ret (rt [])
    refine VW.skip ?_
    refine rR K [0, 1, 12, 13] [] ⟨[(0, .lf (.v (.sl (.int .i64)) a0)), (1, .lf (.v (.sl (.int .i64)) a1)), (12, I x23), (13, I (wr (x24 + (1 : Int))))], []⟩ (tn 2) ?_
    exact aro [.ren [0, 1, 12, 13] []] ⟨x23, (wr (x24 + (1 : Int))), rfl, h⟩
   refine VW.exit ?_
   exact arv [.ren [] []] ⟨rfl, h⟩
 rintro s ⟨rfl, h⟩
 unfold F72_j0 at h
 refine sR K [4] [] ⟨[(4, B true)], []⟩ (tn 1) ?_
 cases h; exact VW.ret (rt [])
def F59 (N : Nat) (a0 : (Int × (ByteArray × (Int × (Int × (Int × (Bool × (List Int)))))))) (a1 : (Int × (ByteArray × (Int × (Int × (Int × (Bool × (List Int)))))))) : Option (Bool) :=
  cond (a0.1 == a1.1) (cond (a0.2.1.toList == a1.2.1.toList) (cond (a0.2.2.1 == a1.2.2.1) (cond (a0.2.2.2.1 == a1.2.2.2.1) (cond (a0.2.2.2.2.1 == a1.2.2.2.2.1) (cond (a0.2.2.2.2.2.1 == a1.2.2.2.2.2.1) (andO (F72 N a0.2.2.2.2.2.2 a1.2.2.2.2.2.2) fun y1 => some y1) (some false)) (some false)) (some false)) (some false)) (some false)) (some false)
theorem ok59 (N : Nat) (a0 : (Int × (ByteArray × (Int × (Int × (Int × (Bool × (List Int)))))))) (a1 : (Int × (ByteArray × (Int × (Int × (Int × (Bool × (List Int)))))))) {r : Bool} (h : F59 N a0 a1 = some r) : Con Go.Proofs.Tryd.prog 59 [.agg (lv Y23 a0), .agg (lv Y23 a1)] [.lf (.v .bool r)] := by
 refine ctr [.lf (.v .bool)] K Go.Proofs.Tryd.func59 rfl fun w0 E0 ht => ?_
 unfold F59 at h
 show VW _ _ _ _ _ (retQ _ _ _ _) _
 refine sR K [2, 3] [0, 1] ⟨[(2, .lf (.ptr 0 0 0 0)), (3, .lf (.ptr 1 0 0 0))], [bx (lv Y23 a0) 27, bx (lv Y23 a1) 27]⟩ (tn 3) ?_
 refine VW.seq ?_
 refine VW.region ?_
 refine sGh K 6 [2, 3, 10] [0, 1] [(2, .lf (.ptr 0 0 0 0)), (3, .lf (.ptr 1 0 0 0)), (10, B (a0.1 == a1.1))] (tn 6) ?_
 refine spB 10 h (fun h => ?_) (fun h => ?_)
 ·refine sGh K 7 [2, 3, 17] [0, 1] [(2, .lf (.ptr 0 0 0 0)), (3, .lf (.ptr 1 0 0 0)), (17, B (a0.2.1.toList == a1.2.1.toList))] (tn 7) ?_
  refine spB 17 h (fun h => ?_) (fun h => ?_)
  ·refine sGh K 7 [2, 3, 24] [0, 1] [(2, .lf (.ptr 0 0 0 0)), (3, .lf (.ptr 1 0 0 0)), (24, B (a0.2.2.1 == a1.2.2.1))] (tn 7) ?_
   refine spB 24 h (fun h => ?_) (fun h => ?_)
   ·refine sGh K 7 [2, 3, 31] [0, 1] [(2, .lf (.ptr 0 0 0 0)), (3, .lf (.ptr 1 0 0 0)), (31, B (a0.2.2.2.1 == a1.2.2.2.1))] (tn 7) ?_
    refine spB 31 h (fun h => ?_) (fun h => ?_)
    ·refine sGh K 7 [2, 3, 38] [0, 1] [(2, .lf (.ptr 0 0 0 0)), (3, .lf (.ptr 1 0 0 0)), (38, B (a0.2.2.2.2.1 == a1.2.2.2.2.1))] (tn 7) ?_
     refine spB 38 h (fun h => ?_) (fun h => ?_)
     ·refine sGh K 7 [2, 3, 45] [0, 1] [(2, .lf (.ptr 0 0 0 0)), (3, .lf (.ptr 1 0 0 0)), (45, B (a0.2.2.2.2.2.1 == a1.2.2.2.2.2.1))] (tn 7) ?_
      refine spB 45 h (fun h => ?_) (fun h => ?_)
      ·refine sG K 4 [45, 47, 49] [] ⟨[(45, B true), (47, .lf (.v (.sl (.int .i64)) a0.2.2.2.2.2.2)), (49, .lf (.v (.sl (.int .i64)) a1.2.2.2.2.2.2))], []⟩ (tn 4) ?_
       refine VO.on (j := 40) (want := true) (d := 45) (b := true) rfl rfl rfl (by kernel_rfl) rfl ?_
       obtain ⟨y1, hy, h⟩ := andO_some h
       refine cal false [.t (.sl (.int .i64)), .t (.sl (.int .i64))] [] (some 50) K (ok72 N _ _ hy) ?_
       refine sN K [4] [] ⟨[(4, B y1)], []⟩ (tn 2) ?_
       cases h; exact VW.ret (rt [])
      refine sN K [4] [] ⟨[(4, B false)], []⟩ (tn 7) ?_
      cases h; exact VW.ret (rt [])
     refine sN K [4] [] ⟨[(4, B false)], []⟩ (tn 14) ?_
     cases h; exact VW.ret (rt [])
    refine sN K [4] [] ⟨[(4, B false)], []⟩ (tn 21) ?_
    cases h; exact VW.ret (rt [])
   refine sN K [4] [] ⟨[(4, B false)], []⟩ (tn 28) ?_
   cases h; exact VW.ret (rt [])
  refine sN K [4] [] ⟨[(4, B false)], []⟩ (tn 35) ?_
  cases h; exact VW.ret (rt [])
 refine sN K [4] [] ⟨[(4, B false)], []⟩ (tn 42) ?_
 cases h; exact VW.ret (rt [])
def F31_j0 (N : Nat) (x38 : ByteArray) (x39 : Int) (x40 : Int) (x41 : Int) (x42 : Bool) (x43 : (List Int)) (x44 : Bool) : Option (Bool) :=
  cond x44 (andO (F59 N ((0 : Int), (x38, (x39, (x40, (x41, (x42, x43)))))) ((0 : Int), (ByteArray.empty, ((0 : Int), ((0 : Int), ((0 : Int), (false, []))))))) fun y45 => some y45) (some false)
def F31_j1 (N : Nat) (x52 : ByteArray) (x53 : Int) (x54 : Int) (x55 : Int) (x56 : Bool) (x57 : (List Int)) (x58 : Bool) : Option (Bool) :=
  F31_j0 N x52 (0 : Int) (0 : Int) (0 : Int) false x57 x58
def F31_j2 (N : Nat) (x62 : ByteArray) (x63 : Int) (x64 : Int) (x65 : Int) (x66 : Bool) (x67 : (List Int)) : Option (Bool) :=
  F31_j0 N x62 (0 : Int) (0 : Int) (0 : Int) false x67 false
def F31_j3 (N : Nat) (x76 : ByteArray) (x77 : Int) (x78 : Int) (x79 : Int) (x80 : Bool) (x81 : (List Int)) (x82 : Bool) : Option (Bool) :=
  cond x82 (F31_j0 N x76 x77 x78 x79 x80 x81 true) (F31_j0 N x76 x77 x78 x79 x80 x81 false)
def F31 (N : Nat) (a0 : (Int × (ByteArray × (Int × (Int × (Int × (Bool × (List Int)))))))) : Option (Bool) :=
  cond (a0.1 == (0 : Int)) (andO (F52 N a0.2.1) fun y47 => F31_j0 N ByteArray.empty a0.2.2.1 a0.2.2.2.1 a0.2.2.2.2.1 a0.2.2.2.2.2.1 a0.2.2.2.2.2.2 y47) (cond (a0.1 == (1 : Int)) (andO (F53 N a0.2.2.1) fun y48 => cond y48 (andO (F54 N a0.2.2.2.1 (0 : Int) (3 : Int)) fun y49 => cond (a0.2.2.2.1 == (3 : Int)) (cond y49 (cond (a0.2.2.2.2.1 == (0 : Int)) (F31_j1 N a0.2.1 a0.2.2.1 a0.2.2.2.1 a0.2.2.2.2.1 a0.2.2.2.2.2.1 a0.2.2.2.2.2.2 (!a0.2.2.2.2.2.1)) (F31_j1 N a0.2.1 a0.2.2.1 a0.2.2.2.1 a0.2.2.2.2.1 a0.2.2.2.2.2.1 a0.2.2.2.2.2.2 false)) (F31_j1 N a0.2.1 a0.2.2.1 a0.2.2.2.1 a0.2.2.2.2.1 a0.2.2.2.2.2.1 a0.2.2.2.2.2.2 false)) (cond a0.2.2.2.2.2.1 (cond y49 (andO (F55 N a0.2.2.2.2.1) fun y60 => F31_j1 N a0.2.1 a0.2.2.1 a0.2.2.2.1 a0.2.2.2.2.1 a0.2.2.2.2.2.1 a0.2.2.2.2.2.2 y60) (F31_j1 N a0.2.1 a0.2.2.1 a0.2.2.2.1 a0.2.2.2.2.1 a0.2.2.2.2.2.1 a0.2.2.2.2.2.2 false)) (cond y49 (andO (F56 N a0.2.2.2.2.1) fun y61 => F31_j1 N a0.2.1 a0.2.2.1 a0.2.2.2.1 a0.2.2.2.2.1 a0.2.2.2.2.2.1 a0.2.2.2.2.2.2 y61) (F31_j1 N a0.2.1 a0.2.2.1 a0.2.2.2.1 a0.2.2.2.2.1 a0.2.2.2.2.2.1 a0.2.2.2.2.2.2 false)))) (cond (a0.2.2.2.1 == (3 : Int)) (F31_j2 N a0.2.1 a0.2.2.1 a0.2.2.2.1 a0.2.2.2.2.1 a0.2.2.2.2.2.1 a0.2.2.2.2.2.2) (cond a0.2.2.2.2.2.1 (F31_j2 N a0.2.1 a0.2.2.1 a0.2.2.2.1 a0.2.2.2.2.1 a0.2.2.2.2.2.1 a0.2.2.2.2.2.2) (F31_j2 N a0.2.1 a0.2.2.1 a0.2.2.2.1 a0.2.2.2.2.1 a0.2.2.2.2.2.1 a0.2.2.2.2.2.2)))) (cond (a0.1 == (2 : Int)) (andO (F54 N (a0.2.2.2.2.2.2.length : Int) (1 : Int) (6 : Int)) fun y69 => cond y69 (andO (F57 N a0.2.2.2.2.2.2 (fun z0 => F58 N z0)) fun y70 => F31_j0 N a0.2.1 a0.2.2.1 a0.2.2.2.1 a0.2.2.2.2.1 a0.2.2.2.2.2.1 ([]) (!y70)) (F31_j0 N a0.2.1 a0.2.2.1 a0.2.2.2.1 a0.2.2.2.2.1 a0.2.2.2.2.2.1 ([]) false)) (cond (a0.1 == (3 : Int)) (andO (F53 N a0.2.2.1) fun y71 => cond y71 (andO (F53 N a0.2.2.2.2.1) fun y72 => F31_j0 N a0.2.1 (0 : Int) a0.2.2.2.1 (0 : Int) a0.2.2.2.2.2.1 a0.2.2.2.2.2.2 y72) (F31_j0 N a0.2.1 (0 : Int) a0.2.2.2.1 (0 : Int) a0.2.2.2.2.2.1 a0.2.2.2.2.2.2 false)) (cond (a0.1 == (5 : Int)) (andO (F53 N a0.2.2.1) fun y73 => F31_j0 N a0.2.1 (0 : Int) a0.2.2.2.1 a0.2.2.2.2.1 a0.2.2.2.2.2.1 a0.2.2.2.2.2.2 y73) (cond (a0.1 == (6 : Int)) (andO (F54 N a0.2.2.2.2.1 (0 : Int) (1000000 : Int)) fun y74 => cond y74 (cond (!a0.2.2.2.2.2.1) (F31_j0 N a0.2.1 a0.2.2.1 a0.2.2.2.1 (0 : Int) false a0.2.2.2.2.2.2 true) (andO (F55 N a0.2.2.2.2.1) fun y75 => F31_j0 N a0.2.1 a0.2.2.1 a0.2.2.2.1 (0 : Int) false a0.2.2.2.2.2.2 y75)) (F31_j0 N a0.2.1 a0.2.2.1 a0.2.2.2.1 (0 : Int) false a0.2.2.2.2.2.2 false)) (cond (a0.1 == (4 : Int)) (F31_j3 N a0.2.1 a0.2.2.1 a0.2.2.2.1 a0.2.2.2.2.1 a0.2.2.2.2.2.1 a0.2.2.2.2.2.2 (a0.1 == (4 : Int))) (F31_j3 N a0.2.1 a0.2.2.1 a0.2.2.2.1 a0.2.2.2.2.1 a0.2.2.2.2.2.1 a0.2.2.2.2.2.2 (a0.1 == (7 : Int)))))))))
theorem ok31 (N : Nat) (a0 : (Int × (ByteArray × (Int × (Int × (Int × (Bool × (List Int)))))))) {r : Bool} (h : F31 N a0 = some r) : Con Go.Proofs.Tryd.prog 31 [.agg (lv Y23 a0)] [.lf (.v .bool r)] := by
 refine ctr [.lf (.v .bool)] K Go.Proofs.Tryd.func31 rfl fun w0 E0 ht => ?_
 unfold F31 at h
 show VW _ _ _ _ _ (retQ _ _ _ _) _
 refine sR K [1] [0] ⟨[(1, .lf (.ptr 0 0 0 0))], [bx (lv Y23 a0) 27]⟩ (tn 2) ?_
 refine sR K [1, 3] [0, 1] ⟨[(1, .lf (.ptr 0 0 0 0)), (3, .lf (.ptr 1 0 0 0))], [bx (lv Y23 a0) 27, bx (lv Y23 a0) 27]⟩ (tn 3) ?_
 refine sR K [1, 3] [0, 1] ⟨[(1, .lf (.ptr 0 0 0 0)), (3, .lf (.ptr 1 0 0 0))], [bx (lv Y23 a0) 27, bx [zi (0 : Int), zs a0.2.1, zi a0.2.2.1, zi a0.2.2.2.1, zi a0.2.2.2.2.1, zb a0.2.2.2.2.2.1, .v (.sl (.int .i64)) a0.2.2.2.2.2.2] 27]⟩ (tn 2) ?_
 refine sRh K [1, 3, 4] [0, 1] [(1, .lf (.ptr 0 0 0 0)), (3, .lf (.ptr 1 0 0 0)), (4, B false)] (tn 1) ?_
 refine VW.join (fun s => ∃ (x38 : ByteArray) (x39 : Int) (x40 : Int) (x41 : Int) (x42 : Bool) (x43 : (List Int)) (x44 : Bool), s = ⟨[(3, .lf (.ptr 0 0 0 0)), (4, B x44)], [bx [zi (0 : Int), zs x38, zi x39, zi x40, zi x41, zb x42, .v (.sl (.int .i64)) x43] 27]⟩ ∧ F31_j0 N x38 x39 x40 x41 x42 x43 x44 = some r) ?_ ?_
 ·refine sRh K [1, 3, 4, 8] [0, 1] [(1, .lf (.ptr 0 0 0 0)), (3, .lf (.ptr 1 0 0 0)), (4, B false), (8, I a0.1)] (tn 2) ?_
  refine VW.block ?_
  refine sRh K [1, 3, 4, 8, 9] [0, 1] [(1, .lf (.ptr 0 0 0 0)), (3, .lf (.ptr 1 0 0 0)), (4, B false), (8, I a0.1), (9, B (a0.1 == (0 : Int)))] (tn 2) ?_
  refine cnd h (fun h => ?_) (fun h => ?_)
  ·refine VW.seq ?_
   refine VW.region ?_
   refine sG K 2 [3, 12] [1] ⟨[(3, .lf (.ptr 0 0 0 0)), (12, S a0.2.1)], [bx [zi (0 : Int), zs a0.2.1, zi a0.2.2.1, zi a0.2.2.2.1, zi a0.2.2.2.2.1, zb a0.2.2.2.2.2.1, .v (.sl (.int .i64)) a0.2.2.2.2.2.2] 27]⟩ (tn 2) ?_
   obtain ⟨y47, hy, h⟩ := andO_some h
   refine cal false [.t .str] [] (some 13) K (ok52 N _ hy) ?_
   refine sNh K [3, 4] [0] [(3, .lf (.ptr 0 0 0 0)), (4, B y47)] (tn 1) ?_
   refine rR K [3, 4] [0] ⟨[(3, .lf (.ptr 0 0 0 0)), (4, B y47)], [bx [zi (0 : Int), zs ByteArray.empty, zi a0.2.2.1, zi a0.2.2.2.1, zi a0.2.2.2.2.1, zb a0.2.2.2.2.2.1, .v (.sl (.int .i64)) a0.2.2.2.2.2.2] 27]⟩ (tn 2) ?_
   exact arv [.ren [3, 4] [0]] ⟨ByteArray.empty, a0.2.2.1, a0.2.2.2.1, a0.2.2.2.2.1, a0.2.2.2.2.2.1, a0.2.2.2.2.2.2, y47, rfl, h⟩
  refine sRh K [1, 3, 4, 8, 15] [0, 1] [(1, .lf (.ptr 0 0 0 0)), (3, .lf (.ptr 1 0 0 0)), (4, B false), (8, I a0.1), (15, B (a0.1 == (1 : Int)))] (tn 2) ?_
  refine cnd h (fun h => ?_) (fun h => ?_)
  ·refine VW.seq ?_
   refine VW.region ?_
   refine sGh K 2 [1, 3, 18] [0, 1] [(1, .lf (.ptr 0 0 0 0)), (3, .lf (.ptr 1 0 0 0)), (18, I a0.2.2.1)] (tn 2) ?_
   obtain ⟨y48, hy, h⟩ := andO_some h
   refine cal false [.t (.int .i64)] [] (some 19) K (ok53 N _ hy) ?_
   refine sGh K 1 [1, 3, 20] [0, 1] [(1, .lf (.ptr 0 0 0 0)), (3, .lf (.ptr 1 0 0 0)), (20, B y48)] (tn 1) ?_
   refine spB 20 h (fun h => ?_) (fun h => ?_)
   ·refine sGh K 2 [1, 3, 20, 22] [0, 1] [(1, .lf (.ptr 0 0 0 0)), (3, .lf (.ptr 1 0 0 0)), (20, B true), (22, I a0.2.2.2.1)] (tn 2) ?_
    refine VO.on (j := 3) (want := true) (d := 20) (b := true) rfl rfl rfl (by kernel_rfl) rfl ?_
    obtain ⟨y49, hy, h⟩ := andO_some h
    refine cal false [.t (.int .i64), .t (.int .i64), .t (.int .i64)] [] (some 23) K (ok54 N _ _ _ hy) ?_
    refine sNh K [1, 3, 4] [0, 1] [(1, .lf (.ptr 0 0 0 0)), (3, .lf (.ptr 1 0 0 0)), (4, B y49)] (tn 2) ?_
    refine VW.join (fun s => ∃ (x52 : ByteArray) (x53 : Int) (x54 : Int) (x55 : Int) (x56 : Bool) (x57 : (List Int)) (x58 : Bool), s = ⟨[(3, .lf (.ptr 0 0 0 0)), (4, B x58)], [bx [zi (0 : Int), zs x52, zi x53, zi x54, zi x55, zb x56, .v (.sl (.int .i64)) x57] 27]⟩ ∧ F31_j1 N x52 x53 x54 x55 x56 x57 x58 = some r) ?_ ?_
    ·refine VW.block ?_
     refine sRh K [1, 3, 4, 31] [0, 1] [(1, .lf (.ptr 0 0 0 0)), (3, .lf (.ptr 1 0 0 0)), (4, B y49), (31, B (a0.2.2.2.1 == (3 : Int)))] (tn 4) ?_
     refine cnd h (fun h => ?_) (fun h => ?_)
     ·refine VW.region ?_
      refine sGh K 2 [1, 3, 36] [0, 1] [(1, .lf (.ptr 0 0 0 0)), (3, .lf (.ptr 1 0 0 0)), (36, B y49)] (tn 2) ?_
      refine spB 36 h (fun h => ?_) (fun h => ?_)
      ·refine sGh K 5 [1, 3, 41] [0, 1] [(1, .lf (.ptr 0 0 0 0)), (3, .lf (.ptr 1 0 0 0)), (41, B (a0.2.2.2.2.1 == (0 : Int)))] (tn 5) ?_
       refine spB 41 h (fun h => ?_) (fun h => ?_)
       ·refine sN K [3, 4] [1] ⟨[(3, .lf (.ptr 0 0 0 0)), (4, B (!a0.2.2.2.2.2.1))], [bx [zi (0 : Int), zs a0.2.1, zi a0.2.2.1, zi a0.2.2.2.1, zi a0.2.2.2.2.1, zb a0.2.2.2.2.2.1, .v (.sl (.int .i64)) a0.2.2.2.2.2.2] 27]⟩ (tn 5) ?_
        exact arv [.ren [3, 4] [0]] ⟨a0.2.1, a0.2.2.1, a0.2.2.2.1, a0.2.2.2.2.1, a0.2.2.2.2.2.1, a0.2.2.2.2.2.2, (!a0.2.2.2.2.2.1), rfl, h⟩
       refine sN K [3, 4] [1] ⟨[(3, .lf (.ptr 0 0 0 0)), (4, B false)], [bx [zi (0 : Int), zs a0.2.1, zi a0.2.2.1, zi a0.2.2.2.1, zi a0.2.2.2.2.1, zb a0.2.2.2.2.2.1, .v (.sl (.int .i64)) a0.2.2.2.2.2.2] 27]⟩ (tn 5) ?_
       exact arv [.ren [3, 4] [0]] ⟨a0.2.1, a0.2.2.1, a0.2.2.2.1, a0.2.2.2.2.1, a0.2.2.2.2.2.1, a0.2.2.2.2.2.2, false, rfl, h⟩
      refine sN K [3, 4] [1] ⟨[(3, .lf (.ptr 0 0 0 0)), (4, B false)], [bx [zi (0 : Int), zs a0.2.1, zi a0.2.2.1, zi a0.2.2.2.1, zi a0.2.2.2.2.1, zb a0.2.2.2.2.2.1, .v (.sl (.int .i64)) a0.2.2.2.2.2.2] 27]⟩ (tn 10) ?_
      exact arv [.ren [3, 4] [0]] ⟨a0.2.1, a0.2.2.1, a0.2.2.2.1, a0.2.2.2.2.1, a0.2.2.2.2.2.1, a0.2.2.2.2.2.2, false, rfl, h⟩
     refine sRh K [1, 3, 4, 46] [0, 1] [(1, .lf (.ptr 0 0 0 0)), (3, .lf (.ptr 1 0 0 0)), (4, B y49), (46, B a0.2.2.2.2.2.1)] (tn 3) ?_
     refine cnd h (fun h => ?_) (fun h => ?_)
     ·refine VW.region ?_
      refine sGh K 2 [1, 3, 50] [0, 1] [(1, .lf (.ptr 0 0 0 0)), (3, .lf (.ptr 1 0 0 0)), (50, B y49)] (tn 2) ?_
      refine spB 50 h (fun h => ?_) (fun h => ?_)
      ·refine sG K 2 [3, 50, 52] [1] ⟨[(3, .lf (.ptr 0 0 0 0)), (50, B true), (52, I a0.2.2.2.2.1)], [bx [zi (0 : Int), zs a0.2.1, zi a0.2.2.1, zi a0.2.2.2.1, zi a0.2.2.2.2.1, zb a0.2.2.2.2.2.1, .v (.sl (.int .i64)) a0.2.2.2.2.2.2] 27]⟩ (tn 2) ?_
       refine VO.on (j := 1) (want := true) (d := 50) (b := true) rfl rfl rfl (by kernel_rfl) rfl ?_
       obtain ⟨y60, hy, h⟩ := andO_some h
       refine cal false [.t (.int .i64)] [] (some 53) K (ok55 N _ hy) ?_
       refine sNh K [3, 4] [0] [(3, .lf (.ptr 0 0 0 0)), (4, B y60)] (tn 2) ?_
       exact arv [.ren [3, 4] [0]] ⟨a0.2.1, a0.2.2.1, a0.2.2.2.1, a0.2.2.2.2.1, a0.2.2.2.2.2.1, a0.2.2.2.2.2.2, y60, rfl, h⟩
      refine sN K [3, 4] [1] ⟨[(3, .lf (.ptr 0 0 0 0)), (4, B false)], [bx [zi (0 : Int), zs a0.2.1, zi a0.2.2.1, zi a0.2.2.2.1, zi a0.2.2.2.2.1, zb a0.2.2.2.2.2.1, .v (.sl (.int .i64)) a0.2.2.2.2.2.2] 27]⟩ (tn 5) ?_
      exact arv [.ren [3, 4] [0]] ⟨a0.2.1, a0.2.2.1, a0.2.2.2.1, a0.2.2.2.2.1, a0.2.2.2.2.2.1, a0.2.2.2.2.2.2, false, rfl, h⟩
     refine VW.region ?_
     refine sGh K 2 [1, 3, 26] [0, 1] [(1, .lf (.ptr 0 0 0 0)), (3, .lf (.ptr 1 0 0 0)), (26, B y49)] (tn 2) ?_
     refine spB 26 h (fun h => ?_) (fun h => ?_)
     ·refine sG K 2 [3, 26, 28] [1] ⟨[(3, .lf (.ptr 0 0 0 0)), (26, B true), (28, I a0.2.2.2.2.1)], [bx [zi (0 : Int), zs a0.2.1, zi a0.2.2.1, zi a0.2.2.2.1, zi a0.2.2.2.2.1, zb a0.2.2.2.2.2.1, .v (.sl (.int .i64)) a0.2.2.2.2.2.2] 27]⟩ (tn 2) ?_
      refine VO.on (j := 1) (want := true) (d := 26) (b := true) rfl rfl rfl (by kernel_rfl) rfl ?_
      obtain ⟨y61, hy, h⟩ := andO_some h
      refine cal false [.t (.int .i64)] [] (some 29) K (ok56 N _ hy) ?_
      refine sNh K [3, 4] [0] [(3, .lf (.ptr 0 0 0 0)), (4, B y61)] (tn 2) ?_
      exact arv [.ren [3, 4] [0]] ⟨a0.2.1, a0.2.2.1, a0.2.2.2.1, a0.2.2.2.2.1, a0.2.2.2.2.2.1, a0.2.2.2.2.2.2, y61, rfl, h⟩
     refine sN K [3, 4] [1] ⟨[(3, .lf (.ptr 0 0 0 0)), (4, B false)], [bx [zi (0 : Int), zs a0.2.1, zi a0.2.2.1, zi a0.2.2.2.1, zi a0.2.2.2.2.1, zb a0.2.2.2.2.2.1, .v (.sl (.int .i64)) a0.2.2.2.2.2.2] 27]⟩ (tn 5) ?_
     exact arv [.ren [3, 4] [0]] ⟨a0.2.1, a0.2.2.1, a0.2.2.2.1, a0.2.2.2.2.1, a0.2.2.2.2.2.1, a0.2.2.2.2.2.2, false, rfl, h⟩
    rintro s ⟨x52, x53, x54, x55, x56, x57, x58, rfl, h⟩
    unfold F31_j1 at h
    refine rR K [3, 4] [0] ⟨[(3, .lf (.ptr 0 0 0 0)), (4, B x58)], [bx [zi (0 : Int), zs x52, zi (0 : Int), zi (0 : Int), zi (0 : Int), zb false, .v (.sl (.int .i64)) x57] 27]⟩ (tn 8) ?_
    exact arv [.ren [3, 4] [0]] ⟨x52, (0 : Int), (0 : Int), (0 : Int), false, x57, x58, rfl, h⟩
   refine sNh K [1, 3, 4] [0, 1] [(1, .lf (.ptr 0 0 0 0)), (3, .lf (.ptr 1 0 0 0)), (4, B false)] (tn 5) ?_
   refine VW.join (fun s => ∃ (x62 : ByteArray) (x63 : Int) (x64 : Int) (x65 : Int) (x66 : Bool) (x67 : (List Int)), s = ⟨[(3, .lf (.ptr 0 0 0 0)), (4, B false)], [bx [zi (0 : Int), zs x62, zi x63, zi x64, zi x65, zb x66, .v (.sl (.int .i64)) x67] 27]⟩ ∧ F31_j2 N x62 x63 x64 x65 x66 x67 = some r) ?_ ?_
   ·refine VW.block ?_
    refine sRh K [1, 3, 4, 31] [0, 1] [(1, .lf (.ptr 0 0 0 0)), (3, .lf (.ptr 1 0 0 0)), (4, B false), (31, B (a0.2.2.2.1 == (3 : Int)))] (tn 4) ?_
    refine cnd h (fun h => ?_) (fun h => ?_)
    ·refine rR K [3, 4] [1] ⟨[(3, .lf (.ptr 0 0 0 0)), (4, B false)], [bx [zi (0 : Int), zs a0.2.1, zi a0.2.2.1, zi a0.2.2.2.1, zi a0.2.2.2.2.1, zb a0.2.2.2.2.2.1, .v (.sl (.int .i64)) a0.2.2.2.2.2.2] 27]⟩ (tn 12) ?_
     exact arv [.ren [3, 4] [0]] ⟨a0.2.1, a0.2.2.1, a0.2.2.2.1, a0.2.2.2.2.1, a0.2.2.2.2.2.1, a0.2.2.2.2.2.2, rfl, h⟩
    refine sRh K [1, 3, 4, 46] [0, 1] [(1, .lf (.ptr 0 0 0 0)), (3, .lf (.ptr 1 0 0 0)), (4, B false), (46, B a0.2.2.2.2.2.1)] (tn 3) ?_
    refine cnd h (fun h => ?_) (fun h => ?_)
    ·refine rR K [3, 4] [1] ⟨[(3, .lf (.ptr 0 0 0 0)), (4, B false)], [bx [zi (0 : Int), zs a0.2.1, zi a0.2.2.1, zi a0.2.2.2.1, zi a0.2.2.2.2.1, zb a0.2.2.2.2.2.1, .v (.sl (.int .i64)) a0.2.2.2.2.2.2] 27]⟩ (tn 7) ?_
     exact arv [.ren [3, 4] [0]] ⟨a0.2.1, a0.2.2.1, a0.2.2.2.1, a0.2.2.2.2.1, a0.2.2.2.2.2.1, a0.2.2.2.2.2.2, rfl, h⟩
    refine rR K [3, 4] [1] ⟨[(3, .lf (.ptr 0 0 0 0)), (4, B false)], [bx [zi (0 : Int), zs a0.2.1, zi a0.2.2.1, zi a0.2.2.2.1, zi a0.2.2.2.2.1, zb a0.2.2.2.2.2.1, .v (.sl (.int .i64)) a0.2.2.2.2.2.2] 27]⟩ (tn 7) ?_
    exact arv [.ren [3, 4] [0]] ⟨a0.2.1, a0.2.2.1, a0.2.2.2.1, a0.2.2.2.2.1, a0.2.2.2.2.2.1, a0.2.2.2.2.2.2, rfl, h⟩
   rintro s ⟨x62, x63, x64, x65, x66, x67, rfl, h⟩
   unfold F31_j2 at h
   refine rR K [3, 4] [0] ⟨[(3, .lf (.ptr 0 0 0 0)), (4, B false)], [bx [zi (0 : Int), zs x62, zi (0 : Int), zi (0 : Int), zi (0 : Int), zb false, .v (.sl (.int .i64)) x67] 27]⟩ (tn 8) ?_
   exact arv [.ren [3, 4] [0]] ⟨x62, (0 : Int), (0 : Int), (0 : Int), false, x67, false, rfl, h⟩
  refine sRh K [1, 3, 4, 8, 59] [0, 1] [(1, .lf (.ptr 0 0 0 0)), (3, .lf (.ptr 1 0 0 0)), (4, B false), (8, I a0.1), (59, B (a0.1 == (2 : Int)))] (tn 2) ?_
  refine cnd h (fun h => ?_) (fun h => ?_)
  ·refine VW.seq ?_
   refine VW.region ?_
   refine sGh K 3 [1, 3, 63] [0, 1] [(1, .lf (.ptr 0 0 0 0)), (3, .lf (.ptr 1 0 0 0)), (63, I (a0.2.2.2.2.2.2.length : Int))] (tn 3) ?_
   obtain ⟨y69, hy, h⟩ := andO_some h
   refine cal false [.t (.int .i64), .t (.int .i64), .t (.int .i64)] [] (some 64) K (ok54 N _ _ _ hy) ?_
   refine sGh K 1 [1, 3, 65] [0, 1] [(1, .lf (.ptr 0 0 0 0)), (3, .lf (.ptr 1 0 0 0)), (65, B y69)] (tn 1) ?_
   refine spB 65 h (fun h => ?_) (fun h => ?_)
   ·refine sG K 2 [3, 65, 67] [1] ⟨[(3, .lf (.ptr 0 0 0 0)), (65, B true), (67, .lf (.v (.sl (.int .i64)) a0.2.2.2.2.2.2))], [bx [zi (0 : Int), zs a0.2.1, zi a0.2.2.1, zi a0.2.2.2.1, zi a0.2.2.2.2.1, zb a0.2.2.2.2.2.1, .v (.sl (.int .i64)) a0.2.2.2.2.2.2] 27]⟩ (tn 2) ?_
    refine VO.on (j := 4) (want := true) (d := 65) (b := true) rfl rfl rfl (by kernel_rfl) rfl ?_
    obtain ⟨y70, hy, h⟩ := andO_some h
    refine cal false [.t (.sl (.int .i64)), .clo []] [] (some 68) K (ok57 N _ 58  (fun z0 => F58 N z0 ) (fun z0 _ hz => ok58 N z0 hz) hy) ?_
    refine sNh K [3, 4] [0] [(3, .lf (.ptr 0 0 0 0)), (4, B (!y70))] (tn 3) ?_
    refine rR K [3, 4] [0] ⟨[(3, .lf (.ptr 0 0 0 0)), (4, B (!y70))], [bx [zi (0 : Int), zs a0.2.1, zi a0.2.2.1, zi a0.2.2.2.1, zi a0.2.2.2.2.1, zb a0.2.2.2.2.2.1, .nil] 27]⟩ (tn 2) ?_
    exact arv [.nilB 0 6 (.int .i64), .ren [3, 4] [0]] ⟨a0.2.1, a0.2.2.1, a0.2.2.2.1, a0.2.2.2.2.1, a0.2.2.2.2.2.1, [], (!y70), rfl, h⟩
   refine sN K [3, 4] [1] ⟨[(3, .lf (.ptr 0 0 0 0)), (4, B false)], [bx [zi (0 : Int), zs a0.2.1, zi a0.2.2.1, zi a0.2.2.2.1, zi a0.2.2.2.2.1, zb a0.2.2.2.2.2.1, .v (.sl (.int .i64)) a0.2.2.2.2.2.2] 27]⟩ (tn 6) ?_
   refine rR K [3, 4] [0] ⟨[(3, .lf (.ptr 0 0 0 0)), (4, B false)], [bx [zi (0 : Int), zs a0.2.1, zi a0.2.2.1, zi a0.2.2.2.1, zi a0.2.2.2.2.1, zb a0.2.2.2.2.2.1, .nil] 27]⟩ (tn 2) ?_
   exact arv [.nilB 0 6 (.int .i64), .ren [3, 4] [0]] ⟨a0.2.1, a0.2.2.1, a0.2.2.2.1, a0.2.2.2.2.1, a0.2.2.2.2.2.1, [], false, rfl, h⟩
  refine sRh K [1, 3, 4, 8, 72] [0, 1] [(1, .lf (.ptr 0 0 0 0)), (3, .lf (.ptr 1 0 0 0)), (4, B false), (8, I a0.1), (72, B (a0.1 == (3 : Int)))] (tn 2) ?_
  refine cnd h (fun h => ?_) (fun h => ?_)
  ·refine VW.seq ?_
   refine VW.region ?_
   refine sGh K 2 [1, 3, 75] [0, 1] [(1, .lf (.ptr 0 0 0 0)), (3, .lf (.ptr 1 0 0 0)), (75, I a0.2.2.1)] (tn 2) ?_
   obtain ⟨y71, hy, h⟩ := andO_some h
   refine cal false [.t (.int .i64)] [] (some 76) K (ok53 N _ hy) ?_
   refine sGh K 1 [1, 3, 77] [0, 1] [(1, .lf (.ptr 0 0 0 0)), (3, .lf (.ptr 1 0 0 0)), (77, B y71)] (tn 1) ?_
   refine spB 77 h (fun h => ?_) (fun h => ?_)
   ·refine sG K 2 [3, 77, 79] [1] ⟨[(3, .lf (.ptr 0 0 0 0)), (77, B true), (79, I a0.2.2.2.2.1)], [bx [zi (0 : Int), zs a0.2.1, zi a0.2.2.1, zi a0.2.2.2.1, zi a0.2.2.2.2.1, zb a0.2.2.2.2.2.1, .v (.sl (.int .i64)) a0.2.2.2.2.2.2] 27]⟩ (tn 2) ?_
    refine VO.on (j := 3) (want := true) (d := 77) (b := true) rfl rfl rfl (by kernel_rfl) rfl ?_
    obtain ⟨y72, hy, h⟩ := andO_some h
    refine cal false [.t (.int .i64)] [] (some 80) K (ok53 N _ hy) ?_
    refine sNh K [3, 4] [0] [(3, .lf (.ptr 0 0 0 0)), (4, B y72)] (tn 2) ?_
    refine rR K [3, 4] [0] ⟨[(3, .lf (.ptr 0 0 0 0)), (4, B y72)], [bx [zi (0 : Int), zs a0.2.1, zi (0 : Int), zi a0.2.2.2.1, zi (0 : Int), zb a0.2.2.2.2.2.1, .v (.sl (.int .i64)) a0.2.2.2.2.2.2] 27]⟩ (tn 4) ?_
    exact arv [.ren [3, 4] [0]] ⟨a0.2.1, (0 : Int), a0.2.2.2.1, (0 : Int), a0.2.2.2.2.2.1, a0.2.2.2.2.2.2, y72, rfl, h⟩
   refine sN K [3, 4] [1] ⟨[(3, .lf (.ptr 0 0 0 0)), (4, B false)], [bx [zi (0 : Int), zs a0.2.1, zi a0.2.2.1, zi a0.2.2.2.1, zi a0.2.2.2.2.1, zb a0.2.2.2.2.2.1, .v (.sl (.int .i64)) a0.2.2.2.2.2.2] 27]⟩ (tn 5) ?_
   refine rR K [3, 4] [0] ⟨[(3, .lf (.ptr 0 0 0 0)), (4, B false)], [bx [zi (0 : Int), zs a0.2.1, zi (0 : Int), zi a0.2.2.2.1, zi (0 : Int), zb a0.2.2.2.2.2.1, .v (.sl (.int .i64)) a0.2.2.2.2.2.2] 27]⟩ (tn 4) ?_
   exact arv [.ren [3, 4] [0]] ⟨a0.2.1, (0 : Int), a0.2.2.2.1, (0 : Int), a0.2.2.2.2.2.1, a0.2.2.2.2.2.2, false, rfl, h⟩
  refine sRh K [1, 3, 4, 8, 84] [0, 1] [(1, .lf (.ptr 0 0 0 0)), (3, .lf (.ptr 1 0 0 0)), (4, B false), (8, I a0.1), (84, B (a0.1 == (5 : Int)))] (tn 2) ?_
  refine cnd h (fun h => ?_) (fun h => ?_)
  ·refine VW.seq ?_
   refine VW.region ?_
   refine sG K 2 [3, 87] [1] ⟨[(3, .lf (.ptr 0 0 0 0)), (87, I a0.2.2.1)], [bx [zi (0 : Int), zs a0.2.1, zi a0.2.2.1, zi a0.2.2.2.1, zi a0.2.2.2.2.1, zb a0.2.2.2.2.2.1, .v (.sl (.int .i64)) a0.2.2.2.2.2.2] 27]⟩ (tn 2) ?_
   obtain ⟨y73, hy, h⟩ := andO_some h
   refine cal false [.t (.int .i64)] [] (some 88) K (ok53 N _ hy) ?_
   refine sNh K [3, 4] [0] [(3, .lf (.ptr 0 0 0 0)), (4, B y73)] (tn 1) ?_
   refine rR K [3, 4] [0] ⟨[(3, .lf (.ptr 0 0 0 0)), (4, B y73)], [bx [zi (0 : Int), zs a0.2.1, zi (0 : Int), zi a0.2.2.2.1, zi a0.2.2.2.2.1, zb a0.2.2.2.2.2.1, .v (.sl (.int .i64)) a0.2.2.2.2.2.2] 27]⟩ (tn 2) ?_
   exact arv [.ren [3, 4] [0]] ⟨a0.2.1, (0 : Int), a0.2.2.2.1, a0.2.2.2.2.1, a0.2.2.2.2.2.1, a0.2.2.2.2.2.2, y73, rfl, h⟩
  refine sRh K [1, 3, 4, 8, 90] [0, 1] [(1, .lf (.ptr 0 0 0 0)), (3, .lf (.ptr 1 0 0 0)), (4, B false), (8, I a0.1), (90, B (a0.1 == (6 : Int)))] (tn 2) ?_
  refine cnd h (fun h => ?_) (fun h => ?_)
  ·refine VW.seq ?_
   refine VW.region ?_
   refine sGh K 2 [1, 3, 93] [0, 1] [(1, .lf (.ptr 0 0 0 0)), (3, .lf (.ptr 1 0 0 0)), (93, I a0.2.2.2.2.1)] (tn 2) ?_
   obtain ⟨y74, hy, h⟩ := andO_some h
   refine cal false [.t (.int .i64), .t (.int .i64), .t (.int .i64)] [] (some 94) K (ok54 N _ _ _ hy) ?_
   refine sGh K 1 [1, 3, 95] [0, 1] [(1, .lf (.ptr 0 0 0 0)), (3, .lf (.ptr 1 0 0 0)), (95, B y74)] (tn 1) ?_
   refine spB 95 h (fun h => ?_) (fun h => ?_)
   ·refine sGh K 4 [1, 3, 95, 99] [0, 1] [(1, .lf (.ptr 0 0 0 0)), (3, .lf (.ptr 1 0 0 0)), (95, B true), (99, B (!a0.2.2.2.2.2.1))] (tn 4) ?_
    refine spB 99 h (fun h => ?_) (fun h => ?_)
    ·refine sN K [3, 4] [1] ⟨[(3, .lf (.ptr 0 0 0 0)), (4, B true)], [bx [zi (0 : Int), zs a0.2.1, zi a0.2.2.1, zi a0.2.2.2.1, zi a0.2.2.2.2.1, zb a0.2.2.2.2.2.1, .v (.sl (.int .i64)) a0.2.2.2.2.2.2] 27]⟩ (tn 6) ?_
     refine rR K [3, 4] [0] ⟨[(3, .lf (.ptr 0 0 0 0)), (4, B true)], [bx [zi (0 : Int), zs a0.2.1, zi a0.2.2.1, zi a0.2.2.2.1, zi (0 : Int), zb false, .v (.sl (.int .i64)) a0.2.2.2.2.2.2] 27]⟩ (tn 4) ?_
     exact arv [.ren [3, 4] [0]] ⟨a0.2.1, a0.2.2.1, a0.2.2.2.1, (0 : Int), false, a0.2.2.2.2.2.2, true, rfl, h⟩
    refine sG K 2 [3, 95, 99, 101] [1] ⟨[(3, .lf (.ptr 0 0 0 0)), (95, B true), (99, B false), (101, I a0.2.2.2.2.1)], [bx [zi (0 : Int), zs a0.2.1, zi a0.2.2.1, zi a0.2.2.2.1, zi a0.2.2.2.2.1, zb a0.2.2.2.2.2.1, .v (.sl (.int .i64)) a0.2.2.2.2.2.2] 27]⟩ (tn 2) ?_
    refine VO.on (j := 7) (want := false) (d := 99) (b := false) rfl rfl rfl (by kernel_rfl) rfl ?_
    obtain ⟨y75, hy, h⟩ := andO_some h
    refine cal false [.t (.int .i64)] [] (some 102) K (ok55 N _ hy) ?_
    refine sNh K [3, 4] [0] [(3, .lf (.ptr 0 0 0 0)), (4, B y75)] (tn 3) ?_
    refine rR K [3, 4] [0] ⟨[(3, .lf (.ptr 0 0 0 0)), (4, B y75)], [bx [zi (0 : Int), zs a0.2.1, zi a0.2.2.1, zi a0.2.2.2.1, zi (0 : Int), zb false, .v (.sl (.int .i64)) a0.2.2.2.2.2.2] 27]⟩ (tn 4) ?_
    exact arv [.ren [3, 4] [0]] ⟨a0.2.1, a0.2.2.1, a0.2.2.2.1, (0 : Int), false, a0.2.2.2.2.2.2, y75, rfl, h⟩
   refine sN K [3, 4] [1] ⟨[(3, .lf (.ptr 0 0 0 0)), (4, B false)], [bx [zi (0 : Int), zs a0.2.1, zi a0.2.2.1, zi a0.2.2.2.1, zi a0.2.2.2.2.1, zb a0.2.2.2.2.2.1, .v (.sl (.int .i64)) a0.2.2.2.2.2.2] 27]⟩ (tn 10) ?_
   refine rR K [3, 4] [0] ⟨[(3, .lf (.ptr 0 0 0 0)), (4, B false)], [bx [zi (0 : Int), zs a0.2.1, zi a0.2.2.1, zi a0.2.2.2.1, zi (0 : Int), zb false, .v (.sl (.int .i64)) a0.2.2.2.2.2.2] 27]⟩ (tn 4) ?_
   exact arv [.ren [3, 4] [0]] ⟨a0.2.1, a0.2.2.1, a0.2.2.2.1, (0 : Int), false, a0.2.2.2.2.2.2, false, rfl, h⟩
  refine VW.join (fun s => ∃ (x76 : ByteArray) (x77 : Int) (x78 : Int) (x79 : Int) (x80 : Bool) (x81 : (List Int)) (x82 : Bool), s = ⟨[(3, .lf (.ptr 0 0 0 0)), (4, B false), (107, B x82)], [bx [zi (0 : Int), zs x76, zi x77, zi x78, zi x79, zb x80, .v (.sl (.int .i64)) x81] 27]⟩ ∧ F31_j3 N x76 x77 x78 x79 x80 x81 x82 = some r) ?_ ?_
  ·refine sR K [3, 4, 8, 107] [1] ⟨[(3, .lf (.ptr 0 0 0 0)), (4, B false), (8, I a0.1), (107, B (a0.1 == (4 : Int)))], [bx [zi (0 : Int), zs a0.2.1, zi a0.2.2.1, zi a0.2.2.2.1, zi a0.2.2.2.2.1, zb a0.2.2.2.2.2.1, .v (.sl (.int .i64)) a0.2.2.2.2.2.2] 27]⟩ (tn 2) ?_
   refine cnd h (fun h => ?_) (fun h => ?_)
   ·refine VW.skip ?_
    exact arv [.ren [3, 4, 107] [0]] ⟨a0.2.1, a0.2.2.1, a0.2.2.2.1, a0.2.2.2.2.1, a0.2.2.2.2.2.1, a0.2.2.2.2.2.2, (a0.1 == (4 : Int)), rfl, h⟩
   refine rRh K [3, 4, 107] [0] [(3, .lf (.ptr 0 0 0 0)), (4, B false), (107, B (a0.1 == (7 : Int)))] (tn 2) ?_
   exact arv [.ren [3, 4, 107] [0]] ⟨a0.2.1, a0.2.2.1, a0.2.2.2.1, a0.2.2.2.2.1, a0.2.2.2.2.2.1, a0.2.2.2.2.2.2, (a0.1 == (7 : Int)), rfl, h⟩
  rintro s ⟨x76, x77, x78, x79, x80, x81, x82, rfl, h⟩
  unfold F31_j3 at h
  refine cnd h (fun h => ?_) (fun h => ?_)
  ·refine rRh K [3, 4] [0] [(3, .lf (.ptr 0 0 0 0)), (4, B true)] (tn 1) ?_
   exact arv [.ren [3, 4] [0]] ⟨x76, x77, x78, x79, x80, x81, true, rfl, h⟩
  refine VW.skip ?_
  exact arv [.ren [3, 4] [0]] ⟨x76, x77, x78, x79, x80, x81, false, rfl, h⟩
 rintro s ⟨x38, x39, x40, x41, x42, x43, x44, rfl, h⟩
 unfold F31_j0 at h
 refine VW.seq ?_
 refine VW.region ?_
 refine sGh K 2 [3, 111] [0] [(3, .lf (.ptr 0 0 0 0)), (111, B x44)] (tn 2) ?_
 refine spB 111 h (fun h => ?_) (fun h => ?_)
 ·refine sG K 2 [111, 112, 113] [] ⟨[(111, B true), (112, .agg [zi (0 : Int), zs x38, zi x39, zi x40, zi x41, zb x42, .v (.sl (.int .i64)) x43]), (113, .agg [zi (0 : Int), zs ByteArray.empty, zi (0 : Int), zi (0 : Int), zi (0 : Int), zb false, .nil])], []⟩ (tn 2) ?_
  refine VO.on (j := 1) (want := true) (d := 111) (b := true) rfl rfl rfl (by kernel_rfl) rfl ?_
  obtain ⟨y45, hy, h⟩ := andO_some h
  refine cal false [.t Y23, .t Y23] [] (some 114) K (ok59 N _ _ hy) ?_
  refine sN K [2] [] ⟨[(2, B y45)], []⟩ (tn 2) ?_
  cases h; exact VW.ret (rt [])
 refine sN K [2] [] ⟨[(2, B false)], []⟩ (tn 5) ?_
 cases h; exact VW.ret (rt [])
def F32 (N : Nat) : Option ((List ByteArray)) :=
  some ([(⟨#[115, 99, 97, 110]⟩ : ByteArray), (⟨#[102, 105, 108, 116, 101, 114]⟩ : ByteArray), (⟨#[107, 101, 101, 112]⟩ : ByteArray), (⟨#[106, 111, 105, 110]⟩ : ByteArray), (⟨#[98, 111, 116, 104]⟩ : ByteArray), (⟨#[115, 111, 114, 116]⟩ : ByteArray), (⟨#[108, 105, 109, 105, 116]⟩ : ByteArray), (⟨#[111, 110, 99, 101]⟩ : ByteArray)])
theorem ok32 (N : Nat) {r : (List ByteArray)} (h : F32 N  = some r) : Con Go.Proofs.Tryd.prog 32 [] [.lf (.own .str r .dp)] := by
 refine ctr [.lf (.own .str .dp)] K Go.Proofs.Tryd.func32 rfl fun w0 E0 ht => ?_
 unfold F32 at h
 show VW _ _ _ _ _ (retQ _ _ _ _) _
 refine sR K [] [] ⟨[], []⟩ (tn 1) ?_
 refine sR K [0] [0] ⟨[(0, .lf (.hd 0 0 none))], [ar 0 .str ([(⟨#[115, 99, 97, 110]⟩ : ByteArray), (⟨#[102, 105, 108, 116, 101, 114]⟩ : ByteArray), (⟨#[107, 101, 101, 112]⟩ : ByteArray), (⟨#[106, 111, 105, 110]⟩ : ByteArray), (⟨#[98, 111, 116, 104]⟩ : ByteArray), (⟨#[115, 111, 114, 116]⟩ : ByteArray), (⟨#[108, 105, 109, 105, 116]⟩ : ByteArray), (⟨#[111, 110, 99, 101]⟩ : ByteArray)]) .dp]⟩ (tn 2) ?_
 cases h; exact VW.ret (rt [some 0])
def F60 (N : Nat) (a0 : Int) : Option (ByteArray) :=
  gd (-9223372036854775808 ≤ a0 ∧ a0 ≤ 9223372036854775807) (some ⟨(Lib.itoa a0).toArray⟩)
theorem ok60 (N : Nat) (a0 : Int) {r : ByteArray} (h : F60 N a0 = some r) : Con Go.Proofs.Tryd.prog 60 [I a0] [.lf (.v .str r)] := by
 obtain ⟨g, h⟩ := gd_some h
 cases h
 exact con_itoa (g := 3) (by kernel_rfl) (enters_of Go.Proofs.Tryd.func60 rfl (by decide)) (fun w ht => Go.Proofs.Tryd.strconv_Itoa a0 g.1 g.2 w ht)
def F33 (N : Nat) (a0 : Int) : Option (ByteArray) :=
  andO (F60 N a0) fun y1 => some y1
theorem ok33 (N : Nat) (a0 : Int) {r : ByteArray} (h : F33 N a0 = some r) : Con Go.Proofs.Tryd.prog 33 [I a0] [.lf (.v .str r)] := by
 refine ctr [.lf (.v .str)] K Go.Proofs.Tryd.func33 rfl fun w0 E0 ht => ?_
 unfold F33 at h
 show VW _ _ _ _ _ (retQ _ _ _ _) _
 refine sR K [0] [] ⟨[(0, I a0)], []⟩ (tn 1) ?_
 refine VW.seq ?_
 refine VW.region ?_
 refine sG K 1 [3] [] ⟨[(3, I a0)], []⟩ (tn 1) ?_
 obtain ⟨y1, hy, h⟩ := andO_some h
 refine cal false [.t (.int .i64)] [] (some 4) K (ok60 N _ hy) ?_
 refine sN K [2] [] ⟨[(2, S y1)], []⟩ (tn 1) ?_
 cases h; exact VW.ret (rt [])
def F34 (N : Nat) : Option ((List ByteArray)) :=
  some ([(⟨#[61]⟩ : ByteArray), (⟨#[60]⟩ : ByteArray), (⟨#[62]⟩ : ByteArray), (⟨#[110, 111, 110, 101]⟩ : ByteArray)])
theorem ok34 (N : Nat) {r : (List ByteArray)} (h : F34 N  = some r) : Con Go.Proofs.Tryd.prog 34 [] [.lf (.own .str r .dp)] := by
 refine ctr [.lf (.own .str .dp)] K Go.Proofs.Tryd.func34 rfl fun w0 E0 ht => ?_
 unfold F34 at h
 show VW _ _ _ _ _ (retQ _ _ _ _) _
 refine sR K [] [] ⟨[], []⟩ (tn 1) ?_
 refine sR K [0] [0] ⟨[(0, .lf (.hd 0 0 none))], [ar 0 .str ([(⟨#[61]⟩ : ByteArray), (⟨#[60]⟩ : ByteArray), (⟨#[62]⟩ : ByteArray), (⟨#[110, 111, 110, 101]⟩ : ByteArray)]) .dp]⟩ (tn 2) ?_
 cases h; exact VW.ret (rt [some 0])
def F35 (N : Nat) (a0 : (Int × (ByteArray × (Int × (Int × (Int × (Bool × (List Int)))))))) : Option (ByteArray) :=
  cond a0.2.2.2.2.2.1 (andO (F33 N a0.2.2.2.2.1) fun y3 => gd ((⟨#[36]⟩ : ByteArray).size + y3.size ≤ 9223372036854775807) (some ((⟨#[36]⟩ : ByteArray) ++ y3))) (andO (F33 N a0.2.2.2.2.1) fun y5 => some y5)
theorem ok35 (N : Nat) (a0 : (Int × (ByteArray × (Int × (Int × (Int × (Bool × (List Int)))))))) {r : ByteArray} (h : F35 N a0 = some r) : Con Go.Proofs.Tryd.prog 35 [.agg (lv Y23 a0)] [.lf (.v .str r)] := by
 refine ctr [.lf (.v .str)] K Go.Proofs.Tryd.func35 rfl fun w0 E0 ht => ?_
 unfold F35 at h
 show VW _ _ _ _ _ (retQ _ _ _ _) _
 refine sR K [1] [0] ⟨[(1, .lf (.ptr 0 0 0 0))], [bx (lv Y23 a0) 27]⟩ (tn 2) ?_
 refine VW.seq ?_
 refine sRh K [1, 4] [0] [(1, .lf (.ptr 0 0 0 0)), (4, B a0.2.2.2.2.2.1)] (tn 2) ?_
 refine cnd h (fun h => ?_) (fun h => ?_)
 ·refine VW.seq ?_
  refine VW.region ?_
  refine sG K 2 [6] [] ⟨[(6, I a0.2.2.2.2.1)], []⟩ (tn 2) ?_
  obtain ⟨y3, hy, h⟩ := andO_some h
  refine cal false [.t (.int .i64)] [] (some 7) K (ok33 N _ hy) ?_
  obtain ⟨g4, h⟩ := gd_some h
  refine sN K [2] [] ⟨[(2, S ((⟨#[36]⟩ : ByteArray) ++ y3))], []⟩ (an g4 (tn 1)) ?_
  cases h; exact VW.ret (rt [])
 refine VW.skip ?_
 refine VW.seq ?_
 refine VW.region ?_
 refine sG K 2 [10] [] ⟨[(10, I a0.2.2.2.2.1)], []⟩ (tn 2) ?_
 obtain ⟨y5, hy, h⟩ := andO_some h
 refine cal false [.t (.int .i64)] [] (some 11) K (ok33 N _ hy) ?_
 refine sN K [2] [] ⟨[(2, S y5)], []⟩ (tn 1) ?_
 cases h; exact VW.ret (rt [])
def F61 (N : Nat) (a0 : (List ByteArray)) (a1 : ByteArray) : Option (ByteArray) :=
  gd (a0.length ≤ 140737488355328 ∧ (Lib.join (a0.map (·.data.toList)) a1.data.toList).length ≤ 140737488355328) (some ⟨(Lib.join (a0.map (·.data.toList)) a1.data.toList).toArray⟩)
theorem ok61 (N : Nat) (a0 : (List ByteArray)) (a1 : ByteArray) {r : ByteArray} (h : F61 N a0 a1 = some r) : Con Go.Proofs.Tryd.prog 61 [.lf (.v (.sl .str) a0), S a1] [.lf (.v .str r)] := by
 obtain ⟨g, h⟩ := gd_some h
 cases h
 exact con_join (enters_of Go.Proofs.Tryd.func61 rfl (by decide)) g.1 g.2 (fun a c w => Go.Proofs.Tryd.strings_Join_none a c a1 w) (fun bk o c w h1 h2 h3 => Go.Proofs.Tryd.strings_Join bk o c a0 a1 w h1 h2 g.1 h3 g.2)
def F36 (N : Nat) (a0 : (List ByteArray)) : Option (ByteArray) :=
  andO (F61 N a0 (⟨#[32]⟩ : ByteArray)) fun y1 => some y1
theorem ok36 (N : Nat) (a0 : (List ByteArray)) {r : ByteArray} (h : F36 N a0 = some r) : Con Go.Proofs.Tryd.prog 36 [.lf (.v (.sl .str) a0)] [.lf (.v .str r)] := by
 refine ctr [.lf (.v .str)] K Go.Proofs.Tryd.func36 rfl fun w0 E0 ht => ?_
 unfold F36 at h
 show VW _ _ _ _ _ (retQ _ _ _ _) _
 refine sR K [0] [] ⟨[(0, .lf (.v (.sl .str) a0))], []⟩ (tn 1) ?_
 refine VW.seq ?_
 refine VW.region ?_
 refine sG K 1 [3] [] ⟨[(3, .lf (.v (.sl .str) a0))], []⟩ (tn 1) ?_
 obtain ⟨y1, hy, h⟩ := andO_some h
 refine cal false [.t (.sl .str), .t .str] [] (some 4) K (ok61 N _ _ hy) ?_
 refine sN K [2] [] ⟨[(2, S y1)], []⟩ (tn 1) ?_
 cases h; exact VW.ret (rt [])
def F10_j0 (N : Nat) (x49 : (List ByteArray)) : Option (ByteArray) :=
  andO (F36 N x49) fun y50 => some y50
def F10_l0_b (N : Nat) (nx81 : (List ByteArray) → (List Int) → Int → Int → Option (ByteArray)) (x71 : (List ByteArray)) (x72 : (List Int)) (x73 : Int) (x74 : Int) : Option (ByteArray) :=
  cond (decide (x74 < x73)) (gd (InR x74 x72.length) (andO (F33 N (x72.getD x74.toNat (Ty.dflt (.int .i64)))) fun y86 => gd (x71.length + ([y86]).length ≤ lim .str) (nx81 (x71 ++ ([y86])) x72 x73 (IntKind.i64.wrap (x74 + (1 : Int)))))) (F10_j0 N x71)
def F10_l0 (N : Nat) : Nat → (List ByteArray) → (List Int) → Int → Int → Option (ByteArray) := loopF (F10_l0_b N) (fun _ _ _ _ => none)
theorem F10_l0_s (N : Nat) {k : Nat} (hk : 0 < k) (x71 : (List ByteArray)) (x72 : (List Int)) (x73 : Int) (x74 : Int) : F10_l0 N k x71 x72 x73 x74 = F10_l0_b N (F10_l0 N (k - 1)) x71 x72 x73 x74 := by
 cases k with
 | zero => exact absurd hk (Nat.lt_irrefl 0)
 | succ m => rfl
def F10 (N : Nat) (a0 : (Int × (ByteArray × (Int × (Int × (Int × (Bool × (List Int)))))))) : Option (ByteArray) :=
  andO (F31 N a0) fun y2 => cond (!y2) (some ByteArray.empty) (andO (F32 N ) fun y3 => gd (InR a0.1 y3.length) (gd (a0.1.toNat < y3.length) (cond (a0.1 == (0 : Int)) (gd (([(y3.getD a0.1.toNat (Ty.dflt .str))]).length + ([a0.2.1]).length ≤ lim .str) (F10_j0 N (([(y3.getD a0.1.toNat (Ty.dflt .str))]) ++ ([a0.2.1])))) (cond (a0.1 == (1 : Int)) (andO (F33 N a0.2.2.1) fun y53 => andO (F34 N ) fun y54 => gd (InR a0.2.2.2.1 y54.length) (gd (a0.2.2.2.1.toNat < y54.length) (gd (([(y3.getD a0.1.toNat (Ty.dflt .str))]).length + ([y53, (y54.getD a0.2.2.2.1.toNat (Ty.dflt .str))]).length ≤ lim .str) (cond (a0.2.2.2.1 != (3 : Int)) (andO (F35 N a0) fun y58 => gd ((([(y3.getD a0.1.toNat (Ty.dflt .str))]) ++ ([y53, (y54.getD a0.2.2.2.1.toNat (Ty.dflt .str))])).length + ([y58]).length ≤ lim .str) (F10_j0 N ((([(y3.getD a0.1.toNat (Ty.dflt .str))]) ++ ([y53, (y54.getD a0.2.2.2.1.toNat (Ty.dflt .str))])) ++ ([y58])))) (F10_j0 N (([(y3.getD a0.1.toNat (Ty.dflt .str))]) ++ ([y53, (y54.getD a0.2.2.2.1.toNat (Ty.dflt .str))]))))))) (cond (a0.1 == (2 : Int)) (andO (F33 N (a0.2.2.2.2.2.2.length : Int)) fun y60 => gd (([(y3.getD a0.1.toNat (Ty.dflt .str))]).length + ([y60]).length ≤ lim .str) (F10_l0 N N (([(y3.getD a0.1.toNat (Ty.dflt .str))]) ++ ([y60])) a0.2.2.2.2.2.2 (a0.2.2.2.2.2.2.length : Int) (0 : Int))) (cond (a0.1 == (3 : Int)) (andO (F33 N a0.2.2.1) fun y88 => andO (F33 N a0.2.2.2.2.1) fun y89 => gd (([(y3.getD a0.1.toNat (Ty.dflt .str))]).length + ([y88, y89]).length ≤ lim .str) (F10_j0 N (([(y3.getD a0.1.toNat (Ty.dflt .str))]) ++ ([y88, y89])))) (cond (a0.1 == (5 : Int)) (andO (F33 N a0.2.2.1) fun y91 => gd (([(y3.getD a0.1.toNat (Ty.dflt .str))]).length + ([y91]).length ≤ lim .str) (F10_j0 N (([(y3.getD a0.1.toNat (Ty.dflt .str))]) ++ ([y91])))) (cond (a0.1 == (6 : Int)) (andO (F35 N a0) fun y93 => gd (([(y3.getD a0.1.toNat (Ty.dflt .str))]).length + ([y93]).length ≤ lim .str) (F10_j0 N (([(y3.getD a0.1.toNat (Ty.dflt .str))]) ++ ([y93])))) (F10_j0 N ([(y3.getD a0.1.toNat (Ty.dflt .str))]))))))))))
theorem ok10 (N : Nat) (a0 : (Int × (ByteArray × (Int × (Int × (Int × (Bool × (List Int)))))))) {r : ByteArray} (h : F10 N a0 = some r) : Con Go.Proofs.Tryd.prog 10 [.agg (lv Y23 a0)] [.lf (.v .str r)] := by
 refine ctr [.lf (.v .str)] K Go.Proofs.Tryd.func10 rfl fun w0 E0 ht => ?_
 unfold F10 at h
 show VW _ _ _ _ _ (retQ _ _ _ _) _
 refine sR K [1] [0] ⟨[(1, .lf (.ptr 0 0 0 0))], [bx (lv Y23 a0) 27]⟩ (tn 2) ?_
 refine VW.seq ?_
 refine VW.seq ?_
 refine VW.region ?_
 refine sGh K 1 [1, 6] [0] [(1, .lf (.ptr 0 0 0 0)), (6, .agg (lv Y23 a0))] (tn 1) ?_
 obtain ⟨y2, hy, h⟩ := andO_some h
 refine cal false [.t Y23] [] (some 7) K (ok31 N _ hy) ?_
 refine sNh K [1, 8] [0] [(1, .lf (.ptr 0 0 0 0)), (8, B (!y2))] (tn 1) ?_
 refine cnd h (fun h => ?_) (fun h => ?_)
 ·refine sR K [2] [] ⟨[(2, S ByteArray.empty)], []⟩ (tn 1) ?_
  cases h; exact VW.ret (rt [])
 refine VW.skip ?_
 refine VW.seq ?_
 obtain ⟨y3, hy3, h⟩ := andO_some h
 obtain ⟨g4, h⟩ := gd_some h
 obtain ⟨g5, h⟩ := gd_some h
 refine VW.gh (Gh.rsv .str .dp (by decide)) ?_
 refine VW.drawnM (by kernel_rfl) [some (9, .lf (.hd 2 0 none)), some (10, .lf (.ptr 0 0 0 0)), some (11, I a0.1), some (12, .lf (.ptr 2 0 a0.1.toNat 0)), some (13, S (y3.getD a0.1.toNat (Ty.dflt .str))), some (14, .lf (.hd 1 1 none)), some (3, .lf (.hd 1 1 none))] [0, 5] [(0, [bx (lv Y23 a0) 27, ar 0 .str ([]) .dp]), (1, [bx (lv Y23 a0) 27, ar 0 .str ([]) .dp, ar 0 .str y3 .dp]), (2, [bx (lv Y23 a0) 27, ar 1 .str ([(y3.getD a0.1.toNat (Ty.dflt .str))]) .dp]), (3, [bx (lv Y23 a0) 27, ar 1 .str ([(y3.getD a0.1.toNat (Ty.dflt .str))]) .dp, ar 0 .str y3 .dp])] [(0, 0), (0, 2), (1, 0), (1, 1), (1, 2), (1, 3), (2, 0), (2, 1), (2, 2), (2, 3), (3, 1), (3, 3), (4, 0), (4, 1), (5, 0), (5, 1), (6, 3)] [1, 3] [0, 1] (s' := ⟨[(1, .lf (.ptr 0 0 0 0)), (3, .lf (.hd 1 0 none))], [bx (lv Y23 a0) 27, ar 0 .str ([(y3.getD a0.1.toNat (Ty.dflt .str))]) .dp]⟩) (by kernel_rfl) (by kernel_rfl) ⟨⟨_, rfl, Stp.eq (Stp.call false [] [] K (d := some 9) (by kernel_rfl) (ok32 N  hy3) rfl) (by kernel_rfl) (by kernel_rfl)⟩,
    ⟨_, rfl, Stp.eq (Stp.call false [] [] K (d := some 9) (by kernel_rfl) (ok32 N  hy3) rfl) (by kernel_rfl) (by kernel_rfl)⟩,
    mT K,
    mT K,
    mT K,
    mT K,
    mT K,
    mT K,
    mT K,
    mT K,
    ⟨_, rfl, Stp.ev K (m := .dp) (φ := InR a0.1 y3.length) (by kernel_rfl) g4⟩,
    ⟨_, rfl, Stp.ev K (m := .dp) (φ := InR a0.1 y3.length) (by kernel_rfl) g4⟩,
    ⟨_, rfl, Stp.void 12 2 0 a0.1.toNat 0 rfl rfl⟩,
    ⟨_, rfl, Stp.ev K (m := .dp) (φ := a0.1.toNat < y3.length) (by kernel_rfl) g5⟩,
    ⟨_, rfl, Stp.litAt 1 K (by kernel_rfl)⟩,
    ⟨_, rfl, Stp.litAt 1 K (by kernel_rfl)⟩,
    mT K, trivial⟩ (by kernel_rfl) ?_
 refine VW.join (fun s => ∃ (x49 : (List ByteArray)), s = ⟨[(3, .lf (.hd 0 0 none))], [ar 0 .str x49 .dp]⟩ ∧ F10_j0 N x49 = some r) ?_ ?_
 ·refine sRh K [1, 3, 16] [0, 1] [(1, .lf (.ptr 0 0 0 0)), (3, .lf (.hd 1 0 none)), (16, I a0.1)] (tn 2) ?_
  refine VW.block ?_
  refine sRh K [1, 3, 16, 17] [0, 1] [(1, .lf (.ptr 0 0 0 0)), (3, .lf (.hd 1 0 none)), (16, I a0.1), (17, B (a0.1 == (0 : Int)))] (tn 2) ?_
  refine cnd h (fun h => ?_) (fun h => ?_)
  ·obtain ⟨g52, h⟩ := gd_some h
   refine rR K [3] [1] ⟨[(3, .lf (.hd 0 0 none))], [ar 0 .str (([(y3.getD a0.1.toNat (Ty.dflt .str))]) ++ ([a0.2.1])) .dp]⟩ (pu 4 (an g52 (tn 1))) ?_
   exact arv [.ren [3] [0]] ⟨(([(y3.getD a0.1.toNat (Ty.dflt .str))]) ++ ([a0.2.1])), rfl, h⟩
  refine sRh K [1, 3, 16, 24] [0, 1] [(1, .lf (.ptr 0 0 0 0)), (3, .lf (.hd 1 0 none)), (16, I a0.1), (24, B (a0.1 == (1 : Int)))] (tn 2) ?_
  refine cnd h (fun h => ?_) (fun h => ?_)
  ·refine VW.seq ?_
   obtain ⟨y53, hy53, h⟩ := andO_some h
   obtain ⟨y54, hy54, h⟩ := andO_some h
   obtain ⟨g55, h⟩ := gd_some h
   obtain ⟨g56, h⟩ := gd_some h
   obtain ⟨g57, h⟩ := gd_some h
   refine VW.gh (Gh.rsv .str .dp (by decide)) ?_
   refine VW.drawnM (by kernel_rfl) [some (26, .lf (.hd 1 0 none)), some (27, .lf (.ptr 0 0 0 2)), some (28, I a0.2.2.1), some (29, S y53), some (30, .lf (.hd 3 0 none)), some (31, .lf (.ptr 0 0 0 3)), some (32, I a0.2.2.2.1), some (33, .lf (.ptr 3 0 a0.2.2.2.1.toNat 0)), some (34, S (y54.getD a0.2.2.2.1.toNat (Ty.dflt .str))), some (35, .lf (.hd 2 1 none)), some (36, .lf (.hd 1 1 none)), some (3, .lf (.hd 1 1 none))] [4, 9, 10] [(0, [bx (lv Y23 a0) 27, ar 0 .str ([(y3.getD a0.1.toNat (Ty.dflt .str))]) .dp, ar 0 .str ([]) .dp]), (1, [bx (lv Y23 a0) 27, ar 0 .str ([(y3.getD a0.1.toNat (Ty.dflt .str))]) .dp, ar 0 .str ([]) .dp, ar 0 .str y54 .dp]), (2, [bx (lv Y23 a0) 27, ar 0 .str ([(y3.getD a0.1.toNat (Ty.dflt .str))]) .dp, ar 1 .str ([y53, (y54.getD a0.2.2.2.1.toNat (Ty.dflt .str))]) .dp]), (3, [bx (lv Y23 a0) 27, ar 0 .str ([(y3.getD a0.1.toNat (Ty.dflt .str))]) .dp, ar 1 .str ([y53, (y54.getD a0.2.2.2.1.toNat (Ty.dflt .str))]) .dp, ar 0 .str y54 .dp]), (7, [bx (lv Y23 a0) 27, ar 1 .str (([(y3.getD a0.1.toNat (Ty.dflt .str))]) ++ ([y53, (y54.getD a0.2.2.2.1.toNat (Ty.dflt .str))])) .dp, ar 1 .str ([y53, (y54.getD a0.2.2.2.1.toNat (Ty.dflt .str))]) .dp, ar 0 .str y54 .dp])] [(0, 0), (0, 1), (0, 2), (0, 3), (1, 0), (1, 1), (1, 2), (1, 3), (1, 7), (2, 0), (2, 1), (2, 2), (2, 3), (2, 7), (3, 0), (4, 0), (4, 2), (5, 0), (5, 1), (5, 2), (5, 3), (5, 7), (6, 0), (6, 1), (6, 2), (6, 3), (6, 7), (7, 1), (7, 3), (7, 7), (8, 0), (8, 1), (9, 0), (9, 1), (10, 3), (11, 7)] [1, 3] [0, 1] (s' := ⟨[(1, .lf (.ptr 0 0 0 0)), (3, .lf (.hd 1 0 none))], [bx (lv Y23 a0) 27, ar 0 .str (([(y3.getD a0.1.toNat (Ty.dflt .str))]) ++ ([y53, (y54.getD a0.2.2.2.1.toNat (Ty.dflt .str))])) .dp]⟩) (by kernel_rfl) (by kernel_rfl) ⟨mT K,
    mT K,
    mT K,
    mT K,
    mT K,
    mT K,
    mT K,
    mT K,
    mT K,
    mT K,
    mT K,
    mT K,
    mT K,
    mT K,
    ⟨_, rfl, Stp.eq (Stp.call false [.t (.int .i64)] [] K (d := some 29) (by kernel_rfl) (ok33 N _ hy53) rfl) (by kernel_rfl) (by kernel_rfl)⟩,
    ⟨_, rfl, Stp.eq (Stp.call false [] [] K (d := some 30) (by kernel_rfl) (ok34 N  hy54) rfl) (by kernel_rfl) (by kernel_rfl)⟩,
    ⟨_, rfl, Stp.eq (Stp.call false [] [] K (d := some 30) (by kernel_rfl) (ok34 N  hy54) rfl) (by kernel_rfl) (by kernel_rfl)⟩,
    mT K,
    mT K,
    mT K,
    mT K,
    mT K,
    mT K,
    mT K,
    mT K,
    mT K,
    mT K,
    ⟨_, rfl, Stp.ev K (m := .dp) (φ := InR a0.2.2.2.1 y54.length) (by kernel_rfl) g55⟩,
    ⟨_, rfl, Stp.ev K (m := .dp) (φ := InR a0.2.2.2.1 y54.length) (by kernel_rfl) g55⟩,
    ⟨_, rfl, Stp.ev K (m := .dp) (φ := InR a0.2.2.2.1 y54.length) (by kernel_rfl) g55⟩,
    ⟨_, rfl, Stp.void 33 3 0 a0.2.2.2.1.toNat 0 rfl rfl⟩,
    ⟨_, rfl, Stp.ev K (m := .dp) (φ := a0.2.2.2.1.toNat < y54.length) (by kernel_rfl) g56⟩,
    ⟨_, rfl, Stp.litAt 2 K (by kernel_rfl)⟩,
    ⟨_, rfl, Stp.litAt 2 K (by kernel_rfl)⟩,
    ⟨_, rfl, Stp.ev K (m := .dp) (φ := ([(y3.getD a0.1.toNat (Ty.dflt .str))]).length + ([y53, (y54.getD a0.2.2.2.1.toNat (Ty.dflt .str))]).length ≤ lim .str) (by kernel_rfl) g57⟩,
    mT K, trivial⟩ (by kernel_rfl) ?_
   refine sRh K [1, 3, 39] [0, 1] [(1, .lf (.ptr 0 0 0 0)), (3, .lf (.hd 1 0 none)), (39, B (a0.2.2.2.1 != (3 : Int)))] (tn 3) ?_
   refine cnd h (fun h => ?_) (fun h => ?_)
   ·refine VW.region ?_
    refine sG K 2 [40, 41] [1] ⟨[(40, .lf (.hd 0 0 none)), (41, .agg (lv Y23 a0))], [ar 0 .str (([(y3.getD a0.1.toNat (Ty.dflt .str))]) ++ ([y53, (y54.getD a0.2.2.2.1.toNat (Ty.dflt .str))])) .dp]⟩ (tn 2) ?_
    obtain ⟨y58, hy, h⟩ := andO_some h
    refine cal false [.t Y23] [] (some 42) K (ok35 N _ hy) ?_
    obtain ⟨g59, h⟩ := gd_some h
    refine sN K [3] [0] ⟨[(3, .lf (.hd 0 0 none))], [ar 0 .str ((([(y3.getD a0.1.toNat (Ty.dflt .str))]) ++ ([y53, (y54.getD a0.2.2.2.1.toNat (Ty.dflt .str))])) ++ ([y58])) .dp]⟩ (pu 1 (an g59 (tn 1))) ?_
    exact arv [.ren [3] [0]] ⟨((([(y3.getD a0.1.toNat (Ty.dflt .str))]) ++ ([y53, (y54.getD a0.2.2.2.1.toNat (Ty.dflt .str))])) ++ ([y58])), rfl, h⟩
   refine VW.skip ?_
   exact arv [.ren [3] [1]] ⟨(([(y3.getD a0.1.toNat (Ty.dflt .str))]) ++ ([y53, (y54.getD a0.2.2.2.1.toNat (Ty.dflt .str))])), rfl, h⟩
  refine sRh K [1, 3, 16, 45] [0, 1] [(1, .lf (.ptr 0 0 0 0)), (3, .lf (.hd 1 0 none)), (16, I a0.1), (45, B (a0.1 == (2 : Int)))] (tn 2) ?_
  refine cnd h (fun h => ?_) (fun h => ?_)
  ·refine VW.seq ?_
   refine VW.region ?_
   refine sGh K 4 [1, 47, 50] [0, 1] [(1, .lf (.ptr 0 0 0 0)), (47, .lf (.hd 1 0 none)), (50, I (a0.2.2.2.2.2.2.length : Int))] (tn 4) ?_
   obtain ⟨y60, hy, h⟩ := andO_some h
   refine cal false [.t (.int .i64)] [] (some 51) K (ok33 N _ hy) ?_
   obtain ⟨g61, h⟩ := gd_some h
   refine sN K [1, 3] [0, 1] ⟨[(1, .lf (.ptr 0 0 0 0)), (3, .lf (.hd 1 0 none))], [bx (lv Y23 a0) 27, ar 0 .str (([(y3.getD a0.1.toNat (Ty.dflt .str))]) ++ ([y60])) .dp]⟩ (pu 1 (an g61 (tn 1))) ?_
   refine sR K [3, 55, 56, 57] [1] ⟨[(3, .lf (.hd 0 0 none)), (55, .lf (.v (.sl (.int .i64)) a0.2.2.2.2.2.2)), (56, I (a0.2.2.2.2.2.2.length : Int)), (57, I (0 : Int))], [ar 0 .str (([(y3.getD a0.1.toNat (Ty.dflt .str))]) ++ ([y60])) .dp]⟩ (tn 4) ?_
   refine VW.block ?_
   refine lop (fun k s => ∃ (x71 : (List ByteArray)) (x72 : (List Int)) (x73 : Int) (x74 : Int), s = ⟨[(3, .lf (.hd 0 0 none)), (55, .lf (.v (.sl (.int .i64)) x72)), (56, I x73), (57, I x74)], [ar 0 .str x71 .dp]⟩ ∧ F10_l0 N k x71 x72 x73 x74 = some r) N [.ren [3, 55, 56, 57] [0]] ⟨(([(y3.getD a0.1.toNat (Ty.dflt .str))]) ++ ([y60])), a0.2.2.2.2.2.2, (a0.2.2.2.2.2.2.length : Int), (0 : Int), rfl, h⟩ ?_
   rintro k81 s ⟨x71, x72, x73, x74, rfl, h⟩
   cases k81 with
   | zero => cases show none = some r from h
   | succ k81 =>
    replace h : F10_l0_b N (F10_l0 N k81) x71 x72 x73 x74 = some r := h
    unfold F10_l0_b at h
    refine sRh K [3, 55, 56, 57, 58] [0] [(3, .lf (.hd 0 0 none)), (55, .lf (.v (.sl (.int .i64)) x72)), (56, I x73), (57, I x74), (58, B (decide (x74 < x73)))] (tn 1) ?_
    refine VW.seq ?_
    refine cnd h (fun h => ?_) (fun h => ?_)
    ·refine VW.skip ?_
     refine VW.seq ?_
     refine VW.block ?_
     obtain ⟨g85, h⟩ := gd_some h
     refine sRh K [3, 5, 55, 56, 57] [0] [(3, .lf (.hd 0 0 none)), (5, I (x72.getD x74.toNat (Ty.dflt (.int .i64)))), (55, .lf (.v (.sl (.int .i64)) x72)), (56, I x73), (57, I x74)] (an g85 (tn 2)) ?_
     refine VW.region ?_
     refine sGh K 2 [55, 56, 57, 61, 62] [0] [(55, .lf (.v (.sl (.int .i64)) x72)), (56, I x73), (57, I x74), (61, .lf (.hd 0 0 none)), (62, I (x72.getD x74.toNat (Ty.dflt (.int .i64))))] (tn 2) ?_
     obtain ⟨y86, hy, h⟩ := andO_some h
     refine cal false [.t (.int .i64)] [] (some 63) K (ok33 N _ hy) ?_
     obtain ⟨g87, h⟩ := gd_some h
     refine sN K [3, 55, 56, 57] [0] ⟨[(3, .lf (.hd 0 0 none)), (55, .lf (.v (.sl (.int .i64)) x72)), (56, I x73), (57, I x74)], [ar 0 .str (x71 ++ ([y86])) .dp]⟩ (pu 1 (an g87 (tn 1))) ?_
     refine rRh K [3, 55, 56, 57] [0] [(3, .lf (.hd 0 0 none)), (55, .lf (.v (.sl (.int .i64)) x72)), (56, I x73), (57, I (wr (x74 + (1 : Int))))] (tn 2) ?_
     exact aro [.ren [3, 55, 56, 57] [0]] ⟨(x71 ++ ([y86])), x72, x73, (wr (x74 + (1 : Int))), rfl, h⟩
    refine VW.exit ?_
    exact arv [.ren [3] [0]] ⟨x71, rfl, h⟩
  refine sRh K [1, 3, 16, 67] [0, 1] [(1, .lf (.ptr 0 0 0 0)), (3, .lf (.hd 1 0 none)), (16, I a0.1), (67, B (a0.1 == (3 : Int)))] (tn 2) ?_
  refine cnd h (fun h => ?_) (fun h => ?_)
  ·obtain ⟨y88, hy88, h⟩ := andO_some h
   obtain ⟨y89, hy89, h⟩ := andO_some h
   obtain ⟨g90, h⟩ := gd_some h
   refine VW.drawn (by kernel_rfl) [some (69, .lf (.hd 1 0 none)), some (70, .lf (.ptr 0 0 0 2)), some (71, I a0.2.2.1), some (72, S y88), some (73, .lf (.ptr 0 0 0 4)), some (74, I a0.2.2.2.2.1), some (75, S y89), some (76, .lf (.hd 2 0 none)), some (77, .lf (.hd 1 1 none)), some (3, .lf (.hd 1 1 none))] [7, 8] [[bx (lv Y23 a0) 27, ar 0 .str ([(y3.getD a0.1.toNat (Ty.dflt .str))]) .dp], [bx (lv Y23 a0) 27, ar 0 .str ([(y3.getD a0.1.toNat (Ty.dflt .str))]) .dp, ar 0 .str ([y88, y89]) .dp], [bx (lv Y23 a0) 27, ar 1 .str (([(y3.getD a0.1.toNat (Ty.dflt .str))]) ++ ([y88, y89])) .dp, ar 0 .str ([y88, y89]) .dp]] [(0, 0), (0, 1), (1, 0), (1, 1), (1, 2), (2, 0), (2, 1), (2, 2), (3, 0), (4, 0), (4, 1), (4, 2), (5, 0), (5, 1), (5, 2), (6, 0), (7, 0), (8, 1), (9, 2)] [3] [1] (s' := ⟨[(3, .lf (.hd 0 0 none))], [ar 0 .str (([(y3.getD a0.1.toNat (Ty.dflt .str))]) ++ ([y88, y89])) .dp]⟩) (by kernel_rfl) (by kernel_rfl) ⟨qT K,
    qT K,
    qT K,
    qT K,
    qT K,
    qT K,
    qT K,
    qT K,
    ⟨_, rfl, Stp.eq (Stp.call false [.t (.int .i64)] [] K (d := some 72) (by kernel_rfl) (ok33 N _ hy88) rfl) (by kernel_rfl) (by kernel_rfl)⟩,
    qT K,
    qT K,
    qT K,
    qT K,
    qT K,
    qT K,
    ⟨_, rfl, Stp.eq (Stp.call false [.t (.int .i64)] [] K (d := some 75) (by kernel_rfl) (ok33 N _ hy89) rfl) (by kernel_rfl) (by kernel_rfl)⟩,
    qT K,
    ⟨_, rfl, Stp.ev K (m := .dp) (φ := ([(y3.getD a0.1.toNat (Ty.dflt .str))]).length + ([y88, y89]).length ≤ lim .str) (by kernel_rfl) g90⟩,
    qT K, trivial⟩ (by kernel_rfl) ?_
   exact arv [.ren [3] [0]] ⟨(([(y3.getD a0.1.toNat (Ty.dflt .str))]) ++ ([y88, y89])), rfl, h⟩
  refine sRh K [1, 3, 16, 78] [0, 1] [(1, .lf (.ptr 0 0 0 0)), (3, .lf (.hd 1 0 none)), (16, I a0.1), (78, B (a0.1 == (5 : Int)))] (tn 2) ?_
  refine cnd h (fun h => ?_) (fun h => ?_)
  ·refine VW.region ?_
   refine sG K 3 [80, 82] [1] ⟨[(80, .lf (.hd 0 0 none)), (82, I a0.2.2.1)], [ar 0 .str ([(y3.getD a0.1.toNat (Ty.dflt .str))]) .dp]⟩ (tn 3) ?_
   obtain ⟨y91, hy, h⟩ := andO_some h
   refine cal false [.t (.int .i64)] [] (some 83) K (ok33 N _ hy) ?_
   obtain ⟨g92, h⟩ := gd_some h
   refine sN K [3] [0] ⟨[(3, .lf (.hd 0 0 none))], [ar 0 .str (([(y3.getD a0.1.toNat (Ty.dflt .str))]) ++ ([y91])) .dp]⟩ (pu 1 (an g92 (tn 1))) ?_
   exact arv [.ren [3] [0]] ⟨(([(y3.getD a0.1.toNat (Ty.dflt .str))]) ++ ([y91])), rfl, h⟩
  refine sRh K [1, 3, 86] [0, 1] [(1, .lf (.ptr 0 0 0 0)), (3, .lf (.hd 1 0 none)), (86, B (a0.1 == (6 : Int)))] (tn 2) ?_
  refine cnd h (fun h => ?_) (fun h => ?_)
  ·refine VW.region ?_
   refine sG K 2 [88, 89] [1] ⟨[(88, .lf (.hd 0 0 none)), (89, .agg (lv Y23 a0))], [ar 0 .str ([(y3.getD a0.1.toNat (Ty.dflt .str))]) .dp]⟩ (tn 2) ?_
   obtain ⟨y93, hy, h⟩ := andO_some h
   refine cal false [.t Y23] [] (some 90) K (ok35 N _ hy) ?_
   obtain ⟨g94, h⟩ := gd_some h
   refine sN K [3] [0] ⟨[(3, .lf (.hd 0 0 none))], [ar 0 .str (([(y3.getD a0.1.toNat (Ty.dflt .str))]) ++ ([y93])) .dp]⟩ (pu 1 (an g94 (tn 1))) ?_
   exact arv [.ren [3] [0]] ⟨(([(y3.getD a0.1.toNat (Ty.dflt .str))]) ++ ([y93])), rfl, h⟩
  refine VW.skip ?_
  exact arv [.ren [3] [1]] ⟨[(y3.getD a0.1.toNat (Ty.dflt .str))], rfl, h⟩
 rintro s ⟨x49, rfl, h⟩
 unfold F10_j0 at h
 refine VW.seq ?_
 refine VW.region ?_
 refine sGh K 1 [93] [0] [(93, .lf (.hd 0 0 none))] (tn 1) ?_
 obtain ⟨y50, hy, h⟩ := andO_some h
 refine cal true [.t (.sl .str)] [] (some 94) K (ok36 N _ hy) ?_
 refine sN K [2] [] ⟨[(2, S y50)], []⟩ (tn 1) ?_
 cases h; exact VW.ret (rt [])
def F37_j0 (N : Nat) : Option (Bool) :=
  some true
def F37_l0_b (N : Nat) (a0 : (List Int)) (a1 : (List Int)) (nx25 : Int → Option (Bool)) (x20 : Int) : Option (Bool) :=
  cond (decide (x20 < (a0.length : Int))) (gd (InR x20 a0.length) (gd (InR x20 a1.length) (cond ((a0.getD x20.toNat (Ty.dflt (.int .i64))) != (a1.getD x20.toNat (Ty.dflt (.int .i64)))) (some false) (nx25 (IntKind.i64.wrap (x20 + (1 : Int))))))) (F37_j0 N)
def F37_l0 (N : Nat) (a0 : (List Int)) (a1 : (List Int)) : Nat → Int → Option (Bool) := loopF (F37_l0_b N a0 a1) (fun _ => none)
theorem F37_l0_s (N : Nat) (a0 : (List Int)) (a1 : (List Int)) {k : Nat} (hk : 0 < k) (x20 : Int) : F37_l0 N a0 a1 k x20 = F37_l0_b N a0 a1 (F37_l0 N a0 a1 (k - 1)) x20 := by
 cases k with
 | zero => exact absurd hk (Nat.lt_irrefl 0)
 | succ m => rfl
def F37 (N : Nat) (a0 : (List Int)) (a1 : (List Int)) : Option (Bool) :=
  cond ((a0.length : Int) != (a1.length : Int)) (some false) (F37_l0 N a0 a1 N (0 : Int))
theorem ok37 (N : Nat) (a0 : (List Int)) (a1 : (List Int)) {r : Bool} (h : F37 N a0 a1 = some r) : Con Go.Proofs.Tryd.prog 37 [.lf (.v (.sl (.int .i64)) a0), .lf (.v (.sl (.int .i64)) a1)] [.lf (.v .bool r)] := by
 refine ctr [.lf (.v .bool)] K Go.Proofs.Tryd.func37 rfl fun w0 E0 ht => ?_
 unfold F37 at h
 show VW _ _ _ _ _ (retQ _ _ _ _) _
 refine sR K [0, 1] [] ⟨[(0, .lf (.v (.sl (.int .i64)) a0)), (1, .lf (.v (.sl (.int .i64)) a1))], []⟩ (tn 1) ?_
 refine VW.seq ?_
 refine sR K [0, 1, 10] [] ⟨[(0, .lf (.v (.sl (.int .i64)) a0)), (1, .lf (.v (.sl (.int .i64)) a1)), (10, B ((a0.length : Int) != (a1.length : Int)))], []⟩ (tn 5) ?_
 refine cnd h (fun h => ?_) (fun h => ?_)
 ·refine sR K [4] [] ⟨[(4, B false)], []⟩ (tn 1) ?_
  cases h; exact VW.ret (rt [])
 refine VW.skip ?_
 refine VW.join (fun s => s = ⟨[], []⟩ ∧ F37_j0 N = some r) ?_ ?_
 ·refine sR K [0, 1, 5] [] ⟨[(0, .lf (.v (.sl (.int .i64)) a0)), (1, .lf (.v (.sl (.int .i64)) a1)), (5, I (0 : Int))], []⟩ (tn 1) ?_
  refine VW.block ?_
  refine lop (fun k s => ∃ (x20 : Int), s = ⟨[(0, .lf (.v (.sl (.int .i64)) a0)), (1, .lf (.v (.sl (.int .i64)) a1)), (5, I x20)], []⟩ ∧ F37_l0 N a0 a1 k x20 = some r) N [.ren [0, 1, 5] []] ⟨(0 : Int), rfl, h⟩ ?_
  rintro k25 s ⟨x20, rfl, h⟩
  cases k25 with
  | zero => cases show none = some r from h
  | succ k25 =>
   replace h : F37_l0_b N a0 a1 (F37_l0 N a0 a1 k25) x20 = some r := h
   unfold F37_l0_b at h
   refine VW.seq ?_
   refine sR K [0, 1, 5, 14] [] ⟨[(0, .lf (.v (.sl (.int .i64)) a0)), (1, .lf (.v (.sl (.int .i64)) a1)), (5, I x20), (14, B (decide (x20 < (a0.length : Int))))], []⟩ (tn 4) ?_
   refine cnd h (fun h => ?_) (fun h => ?_)
   ·refine VW.skip ?_
    refine VW.seq ?_
    refine VW.block ?_
    refine VW.seq ?_
    obtain ⟨g28, h⟩ := gd_some h
    obtain ⟨g29, h⟩ := gd_some h
    refine VW.drawn (by kernel_rfl) [some (17, .lf (.v (.sl (.int .i64)) a0)), some (18, I x20), some (19, .lf (.fp (.int .i64) (a0.getD x20.toNat (Ty.dflt (.int .i64))) 0)), some (20, I (a0.getD x20.toNat (Ty.dflt (.int .i64)))), some (21, .lf (.v (.sl (.int .i64)) a1)), some (22, I x20), some (23, .lf (.fp (.int .i64) (a1.getD x20.toNat (Ty.dflt (.int .i64))) 0)), some (24, I (a1.getD x20.toNat (Ty.dflt (.int .i64)))), some (25, B ((a0.getD x20.toNat (Ty.dflt (.int .i64))) != (a1.getD x20.toNat (Ty.dflt (.int .i64)))))] [] [[]] [(0, 0), (1, 0), (2, 0), (3, 0), (4, 0), (5, 0), (6, 0), (7, 0), (8, 0)] [0, 1, 5, 25] [] (s' := ⟨[(0, .lf (.v (.sl (.int .i64)) a0)), (1, .lf (.v (.sl (.int .i64)) a1)), (5, I x20), (25, B ((a0.getD x20.toNat (Ty.dflt (.int .i64))) != (a1.getD x20.toNat (Ty.dflt (.int .i64)))))], []⟩) (by kernel_rfl) (by kernel_rfl) ⟨qT K,
    qT K,
    ⟨_, rfl, Stp.ev K (m := .dp) (φ := InR x20 a0.length) (by kernel_rfl) g28⟩,
    qT K,
    qT K,
    qT K,
    ⟨_, rfl, Stp.ev K (m := .dp) (φ := InR x20 a1.length) (by kernel_rfl) g29⟩,
    qT K,
    qT K, trivial⟩ (by kernel_rfl) ?_
    refine cnd h (fun h => ?_) (fun h => ?_)
    ·refine sR K [4] [] ⟨[(4, B false)], []⟩ (tn 1) ?_
     cases h; exact VW.ret (rt [])
    refine VW.skip ?_
    refine rR K [0, 1, 5] [] ⟨[(0, .lf (.v (.sl (.int .i64)) a0)), (1, .lf (.v (.sl (.int .i64)) a1)), (5, I (wr (x20 + (1 : Int))))], []⟩ (tn 3) ?_
    exact aro [.ren [0, 1, 5] []] ⟨(wr (x20 + (1 : Int))), rfl, h⟩
   refine VW.exit ?_
   exact arv [.ren [] []] ⟨rfl, h⟩
 rintro s ⟨rfl, h⟩
 unfold F37_j0 at h
 refine sR K [4] [] ⟨[(4, B true)], []⟩ (tn 1) ?_
 cases h; exact VW.ret (rt [])
def F11 (N : Nat) (a0 : (Int × (ByteArray × (Int × (Int × (Int × (Bool × (List Int)))))))) (a1 : (Int × (ByteArray × (Int × (Int × (Int × (Bool × (List Int)))))))) : Option (Bool) :=
  cond (a0.1 != a1.1) (some false) (cond (!(a0.2.1.toList == a1.2.1.toList)) (some false) (cond (a0.2.2.1 != a1.2.2.1) (some false) (cond (a0.2.2.2.1 != a1.2.2.2.1) (some false) (cond (a0.2.2.2.2.1 != a1.2.2.2.2.1) (some false) (cond (!(a0.2.2.2.2.2.1 == a1.2.2.2.2.2.1)) (some false) (andO (F37 N a0.2.2.2.2.2.2 a1.2.2.2.2.2.2) fun y2 => cond (!y2) (some false) (some true)))))))
theorem ok11 (N : Nat) (a0 : (Int × (ByteArray × (Int × (Int × (Int × (Bool × (List Int)))))))) (a1 : (Int × (ByteArray × (Int × (Int × (Int × (Bool × (List Int)))))))) {r : Bool} (h : F11 N a0 a1 = some r) : Con Go.Proofs.Tryd.prog 11 [.agg (lv Y23 a0), .agg (lv Y23 a1)] [.lf (.v .bool r)] := by
 refine ctr [.lf (.v .bool)] K Go.Proofs.Tryd.func11 rfl fun w0 E0 ht => ?_
 unfold F11 at h
 show VW _ _ _ _ _ (retQ _ _ _ _) _
 refine sR K [2, 3] [0, 1] ⟨[(2, .lf (.ptr 0 0 0 0)), (3, .lf (.ptr 1 0 0 0))], [bx (lv Y23 a0) 27, bx (lv Y23 a1) 27]⟩ (tn 3) ?_
 refine VW.seq ?_
 refine sRh K [2, 3, 9] [0, 1] [(2, .lf (.ptr 0 0 0 0)), (3, .lf (.ptr 1 0 0 0)), (9, B (a0.1 != a1.1))] (tn 5) ?_
 refine cnd h (fun h => ?_) (fun h => ?_)
 ·refine sR K [4] [] ⟨[(4, B false)], []⟩ (tn 1) ?_
  cases h; exact VW.ret (rt [])
 refine VW.skip ?_
 refine VW.seq ?_
 refine sRh K [2, 3, 14] [0, 1] [(2, .lf (.ptr 0 0 0 0)), (3, .lf (.ptr 1 0 0 0)), (14, B (!(a0.2.1.toList == a1.2.1.toList)))] (tn 5) ?_
 refine cnd h (fun h => ?_) (fun h => ?_)
 ·refine sR K [4] [] ⟨[(4, B false)], []⟩ (tn 1) ?_
  cases h; exact VW.ret (rt [])
 refine VW.skip ?_
 refine VW.seq ?_
 refine sRh K [2, 3, 19] [0, 1] [(2, .lf (.ptr 0 0 0 0)), (3, .lf (.ptr 1 0 0 0)), (19, B (a0.2.2.1 != a1.2.2.1))] (tn 5) ?_
 refine cnd h (fun h => ?_) (fun h => ?_)
 ·refine sR K [4] [] ⟨[(4, B false)], []⟩ (tn 1) ?_
  cases h; exact VW.ret (rt [])
 refine VW.skip ?_
 refine VW.seq ?_
 refine sRh K [2, 3, 24] [0, 1] [(2, .lf (.ptr 0 0 0 0)), (3, .lf (.ptr 1 0 0 0)), (24, B (a0.2.2.2.1 != a1.2.2.2.1))] (tn 5) ?_
 refine cnd h (fun h => ?_) (fun h => ?_)
 ·refine sR K [4] [] ⟨[(4, B false)], []⟩ (tn 1) ?_
  cases h; exact VW.ret (rt [])
 refine VW.skip ?_
 refine VW.seq ?_
 refine sRh K [2, 3, 29] [0, 1] [(2, .lf (.ptr 0 0 0 0)), (3, .lf (.ptr 1 0 0 0)), (29, B (a0.2.2.2.2.1 != a1.2.2.2.2.1))] (tn 5) ?_
 refine cnd h (fun h => ?_) (fun h => ?_)
 ·refine sR K [4] [] ⟨[(4, B false)], []⟩ (tn 1) ?_
  cases h; exact VW.ret (rt [])
 refine VW.skip ?_
 refine VW.seq ?_
 refine sRh K [2, 3, 34] [0, 1] [(2, .lf (.ptr 0 0 0 0)), (3, .lf (.ptr 1 0 0 0)), (34, B (!(a0.2.2.2.2.2.1 == a1.2.2.2.2.2.1)))] (tn 5) ?_
 refine cnd h (fun h => ?_) (fun h => ?_)
 ·refine sR K [4] [] ⟨[(4, B false)], []⟩ (tn 1) ?_
  cases h; exact VW.ret (rt [])
 refine VW.skip ?_
 refine VW.seq ?_
 refine VW.seq ?_
 refine VW.region ?_
 refine sG K 4 [36, 38] [] ⟨[(36, .lf (.v (.sl (.int .i64)) a0.2.2.2.2.2.2)), (38, .lf (.v (.sl (.int .i64)) a1.2.2.2.2.2.2))], []⟩ (tn 4) ?_
 obtain ⟨y2, hy, h⟩ := andO_some h
 refine cal false [.t (.sl (.int .i64)), .t (.sl (.int .i64))] [] (some 39) K (ok37 N _ _ hy) ?_
 refine sN K [40] [] ⟨[(40, B (!y2))], []⟩ (tn 1) ?_
 refine cnd h (fun h => ?_) (fun h => ?_)
 ·refine sR K [4] [] ⟨[(4, B false)], []⟩ (tn 1) ?_
  cases h; exact VW.ret (rt [])
 refine VW.skip ?_
 refine sR K [4] [] ⟨[(4, B true)], []⟩ (tn 1) ?_
 cases h; exact VW.ret (rt [])
def F12_j0 (N : Nat) (x17 : Int) : Option (Int) :=
  some x17
def F12_l0_b (N : Nat) (a0 : (List (Int × (ByteArray × (Int × (Int × (Int × (Bool × (List Int))))))))) (nx30 : Int → Int → Option (Int)) (x24 : Int) (x25 : Int) : Option (Int) :=
  cond (decide (x25 < (a0.length : Int))) (gd (InR x25 a0.length) (andO (F7 N (a0.getD x25.toNat (Ty.dflt Y23)) x24) fun y34 => cond (decide (y34 < (0 : Int))) (some (-1 : Int)) (nx30 y34 (IntKind.i64.wrap (x25 + (1 : Int)))))) (F12_j0 N x24)
def F12_l0 (N : Nat) (a0 : (List (Int × (ByteArray × (Int × (Int × (Int × (Bool × (List Int))))))))) : Nat → Int → Int → Option (Int) := loopF (F12_l0_b N a0) (fun _ _ => none)
theorem F12_l0_s (N : Nat) (a0 : (List (Int × (ByteArray × (Int × (Int × (Int × (Bool × (List Int))))))))) {k : Nat} (hk : 0 < k) (x24 : Int) (x25 : Int) : F12_l0 N a0 k x24 x25 = F12_l0_b N a0 (F12_l0 N a0 (k - 1)) x24 x25 := by
 cases k with
 | zero => exact absurd hk (Nat.lt_irrefl 0)
 | succ m => rfl
def F12 (N : Nat) (a0 : (List (Int × (ByteArray × (Int × (Int × (Int × (Bool × (List Int))))))))) (a1 : Int) : Option (Int) :=
  cond (decide ((IntKind.i64.wrap (a1 - (a0.length : Int))) < (0 : Int))) (some (-1 : Int)) (F12_l0 N a0 N (IntKind.i64.wrap (a1 - (a0.length : Int))) (0 : Int))
theorem ok12 (N : Nat) (a0 : (List (Int × (ByteArray × (Int × (Int × (Int × (Bool × (List Int))))))))) (a1 : Int) {r : Int} (h : F12 N a0 a1 = some r) : Con Go.Proofs.Tryd.prog 12 [.lf (.v (.sl Y23) a0), I a1] [.lf (.v (.int .i64) r)] := by
 refine ctr [.lf (.v (.int .i64))] K Go.Proofs.Tryd.func12 rfl fun w0 E0 ht => ?_
 unfold F12 at h
 show VW _ _ _ _ _ (retQ _ _ _ _) _
 refine sR K [0, 1] [] ⟨[(0, .lf (.v (.sl Y23) a0)), (1, I a1)], []⟩ (tn 1) ?_
 refine sR K [0, 1] [] ⟨[(0, .lf (.v (.sl Y23) a0)), (1, I (wr (a1 - (a0.length : Int))))], []⟩ (tn 5) ?_
 refine VW.seq ?_
 refine sR K [0, 1, 11] [] ⟨[(0, .lf (.v (.sl Y23) a0)), (1, I (wr (a1 - (a0.length : Int)))), (11, B (decide ((wr (a1 - (a0.length : Int))) < (0 : Int))))], []⟩ (tn 2) ?_
 refine cnd h (fun h => ?_) (fun h => ?_)
 ·refine sR K [4] [] ⟨[(4, I (-1 : Int))], []⟩ (tn 1) ?_
  cases h; exact VW.ret (rt [])
 refine VW.skip ?_
 refine VW.join (fun s => ∃ (x17 : Int), s = ⟨[(1, I x17)], []⟩ ∧ F12_j0 N x17 = some r) ?_ ?_
 ·refine sR K [0, 1, 5] [] ⟨[(0, .lf (.v (.sl Y23) a0)), (1, I (wr (a1 - (a0.length : Int)))), (5, I (0 : Int))], []⟩ (tn 1) ?_
  refine VW.block ?_
  refine lop (fun k s => ∃ (x24 : Int) (x25 : Int), s = ⟨[(0, .lf (.v (.sl Y23) a0)), (1, I x24), (5, I x25)], []⟩ ∧ F12_l0 N a0 k x24 x25 = some r) N [.ren [0, 1, 5] []] ⟨(wr (a1 - (a0.length : Int))), (0 : Int), rfl, h⟩ ?_
  rintro k30 s ⟨x24, x25, rfl, h⟩
  cases k30 with
  | zero => cases show none = some r from h
  | succ k30 =>
   replace h : F12_l0_b N a0 (F12_l0 N a0 k30) x24 x25 = some r := h
   unfold F12_l0_b at h
   refine VW.seq ?_
   refine sR K [0, 1, 5, 15] [] ⟨[(0, .lf (.v (.sl Y23) a0)), (1, I x24), (5, I x25), (15, B (decide (x25 < (a0.length : Int))))], []⟩ (tn 4) ?_
   refine cnd h (fun h => ?_) (fun h => ?_)
   ·refine VW.skip ?_
    refine VW.seq ?_
    refine VW.block ?_
    refine VW.seq ?_
    refine VW.region ?_
    obtain ⟨g33, h⟩ := gd_some h
    refine sG K 5 [0, 5, 21, 22] [] ⟨[(0, .lf (.v (.sl Y23) a0)), (5, I x25), (21, .agg (lv Y23 (a0.getD x25.toNat D23))), (22, I x24)], []⟩ (pu 2 (an g33 (tn 2))) ?_
    obtain ⟨y34, hy, h⟩ := andO_some h
    refine cal false [.t Y23, .t (.int .i64)] [] (some 23) K (ok7 N _ _ hy) ?_
    refine sN K [0, 1, 5] [] ⟨[(0, .lf (.v (.sl Y23) a0)), (1, I y34), (5, I x25)], []⟩ (tn 1) ?_
    refine sR K [0, 1, 5, 25] [] ⟨[(0, .lf (.v (.sl Y23) a0)), (1, I y34), (5, I x25), (25, B (decide (y34 < (0 : Int))))], []⟩ (tn 2) ?_
    refine cnd h (fun h => ?_) (fun h => ?_)
    ·refine sR K [4] [] ⟨[(4, I (-1 : Int))], []⟩ (tn 1) ?_
     cases h; exact VW.ret (rt [])
    refine VW.skip ?_
    refine rR K [0, 1, 5] [] ⟨[(0, .lf (.v (.sl Y23) a0)), (1, I y34), (5, I (wr (x25 + (1 : Int))))], []⟩ (tn 3) ?_
    exact aro [.ren [0, 1, 5] []] ⟨y34, (wr (x25 + (1 : Int))), rfl, h⟩
   refine VW.exit ?_
   exact arv [.ren [1] []] ⟨x24, rfl, h⟩
 rintro s ⟨x17, rfl, h⟩
 unfold F12_j0 at h
 refine sR K [4] [] ⟨[(4, I x17)], []⟩ (tn 2) ?_
 cases h; exact VW.ret (rt [])
def F77_j0 (N : Nat) (x6 : Bool) : Option (Int) :=
  cond x6 (some (1 : Int)) (some (-1 : Int))
def F77_j1 (N : Nat) (a0 : Int) (x5 : Bool) : Option (Int) :=
  cond x5 (some (2 : Int)) (cond (a0 == (1 : Int)) (F77_j0 N (a0 == (1 : Int))) (cond (a0 == (2 : Int)) (F77_j0 N (a0 == (2 : Int))) (cond (a0 == (5 : Int)) (F77_j0 N (a0 == (5 : Int))) (cond (a0 == (6 : Int)) (F77_j0 N (a0 == (6 : Int))) (F77_j0 N (a0 == (7 : Int)))))))
def F77 (N : Nat) (a0 : Int) : Option (Int) :=
  cond (a0 == (0 : Int)) (some (0 : Int)) (cond (a0 == (3 : Int)) (F77_j1 N a0 (a0 == (3 : Int))) (F77_j1 N a0 (a0 == (4 : Int))))
theorem ok77 (N : Nat) (a0 : Int) {r : Int} (h : F77 N a0 = some r) : Con Go.Proofs.Tryd.prog 77 [I a0] [.lf (.v (.int .i64) r)] := by
 refine ctr [.lf (.v (.int .i64))] K Go.Proofs.Tryd.func77 rfl fun w0 E0 ht => ?_
 unfold F77 at h
 show VW _ _ _ _ _ (retQ _ _ _ _) _
 refine sR K [0] [] ⟨[(0, I a0)], []⟩ (tn 1) ?_
 refine VW.seq ?_
 refine sR K [3] [] ⟨[(3, I a0)], []⟩ (tn 1) ?_
 refine VW.block ?_
 refine sR K [3, 4] [] ⟨[(3, I a0), (4, B (a0 == (0 : Int)))], []⟩ (tn 2) ?_
 refine cnd h (fun h => ?_) (fun h => ?_)
 ·refine sR K [2] [] ⟨[(2, I (0 : Int))], []⟩ (tn 1) ?_
  cases h; exact VW.ret (rt [])
 refine VW.join (fun s => ∃ (x5 : Bool), s = ⟨[(3, I a0), (6, B x5)], []⟩ ∧ F77_j1 N a0 x5 = some r) ?_ ?_
 ·refine sR K [3, 6] [] ⟨[(3, I a0), (6, B (a0 == (3 : Int)))], []⟩ (tn 2) ?_
  refine cnd h (fun h => ?_) (fun h => ?_)
  ·refine VW.skip ?_
   exact arv [.ren [3, 6] []] ⟨(a0 == (3 : Int)), rfl, h⟩
  refine rR K [3, 6] [] ⟨[(3, I a0), (6, B (a0 == (4 : Int)))], []⟩ (tn 2) ?_
  exact arv [.ren [3, 6] []] ⟨(a0 == (4 : Int)), rfl, h⟩
 rintro s ⟨x5, rfl, h⟩
 unfold F77_j1 at h
 refine cnd h (fun h => ?_) (fun h => ?_)
 ·refine sR K [2] [] ⟨[(2, I (2 : Int))], []⟩ (tn 1) ?_
  cases h; exact VW.ret (rt [])
 refine VW.join (fun s => ∃ (x6 : Bool), s = ⟨[(9, B x6)], []⟩ ∧ F77_j0 N x6 = some r) ?_ ?_
 ·refine sR K [3, 9] [] ⟨[(3, I a0), (9, B (a0 == (1 : Int)))], []⟩ (tn 2) ?_
  refine cnd h (fun h => ?_) (fun h => ?_)
  ·refine VW.skip ?_
   exact arv [.ren [9] []] ⟨(a0 == (1 : Int)), rfl, h⟩
  refine sR K [3, 9] [] ⟨[(3, I a0), (9, B (a0 == (2 : Int)))], []⟩ (tn 2) ?_
  refine cnd h (fun h => ?_) (fun h => ?_)
  ·refine VW.skip ?_
   exact arv [.ren [9] []] ⟨(a0 == (2 : Int)), rfl, h⟩
  refine sR K [3, 9] [] ⟨[(3, I a0), (9, B (a0 == (5 : Int)))], []⟩ (tn 2) ?_
  refine cnd h (fun h => ?_) (fun h => ?_)
  ·refine VW.skip ?_
   exact arv [.ren [9] []] ⟨(a0 == (5 : Int)), rfl, h⟩
  refine sR K [3, 9] [] ⟨[(3, I a0), (9, B (a0 == (6 : Int)))], []⟩ (tn 2) ?_
  refine cnd h (fun h => ?_) (fun h => ?_)
  ·refine VW.skip ?_
   exact arv [.ren [9] []] ⟨(a0 == (6 : Int)), rfl, h⟩
  refine rR K [9] [] ⟨[(9, B (a0 == (7 : Int)))], []⟩ (tn 2) ?_
  exact arv [.ren [9] []] ⟨(a0 == (7 : Int)), rfl, h⟩
 rintro s ⟨x6, rfl, h⟩
 unfold F77_j0 at h
 refine cnd h (fun h => ?_) (fun h => ?_)
 ·refine sR K [2] [] ⟨[(2, I (1 : Int))], []⟩ (tn 1) ?_
  cases h; exact VW.ret (rt [])
 refine VW.skip ?_
 refine sR K [2] [] ⟨[(2, I (-1 : Int))], []⟩ (tn 1) ?_
 cases h; exact VW.ret (rt [])
def F62_j0 (N : Nat) (x33 : Int) (x34 : Int) : Option (Int × Int) :=
  some (x33, (IntKind.i64.wrap (x34 + (1 : Int))))
def F62_j1 (N : Nat) (nx58 : Int → Int → Int → Option (Int × Int)) (x48 : Int) (x64 : Int) (x65 : Int) : Option (Int × Int) :=
  nx58 x64 x65 (IntKind.i64.wrap (x48 + (1 : Int)))
def F62_l0_b (N : Nat) (a0 : (List (Int × (ByteArray × (Int × (Int × (Int × (Bool × (List Int))))))))) (a1 : Int) (a2 : Int) (self : (List (Int × (ByteArray × (Int × (Int × (Int × (Bool × (List Int)))))))) → Int → Int → Option (Int × Int)) (nx58 : Int → Int → Int → Option (Int × Int)) (x46 : Int) (x47 : Int) (x48 : Int) : Option (Int × Int) :=
  gd (InR a1 a0.length) (andO (F77 N ((a0.getD a1.toNat (Ty.dflt Y23)).1)) fun y62 => cond (decide (x48 < y62)) (andO (self a0 x46 (IntKind.i64.wrap (a2 - (1 : Int)))) fun y67 => cond (decide (y67.1 < (0 : Int))) (some ((-1 : Int), (0 : Int))) (cond (decide (y67.2 > x47)) (F62_j1 N nx58 x48 y67.1 y67.2) (F62_j1 N nx58 x48 y67.1 x47))) (F62_j0 N x46 x47))
def F62_l0 (N : Nat) (a0 : (List (Int × (ByteArray × (Int × (Int × (Int × (Bool × (List Int))))))))) (a1 : Int) (a2 : Int) (self : (List (Int × (ByteArray × (Int × (Int × (Int × (Bool × (List Int)))))))) → Int → Int → Option (Int × Int)) : Nat → Int → Int → Int → Option (Int × Int) := loopF (F62_l0_b N a0 a1 a2 self) (fun _ _ _ => none)
theorem F62_l0_s (N : Nat) (a0 : (List (Int × (ByteArray × (Int × (Int × (Int × (Bool × (List Int))))))))) (a1 : Int) (a2 : Int) (self : (List (Int × (ByteArray × (Int × (Int × (Int × (Bool × (List Int)))))))) → Int → Int → Option (Int × Int)) {k : Nat} (hk : 0 < k) (x46 : Int) (x47 : Int) (x48 : Int) : F62_l0 N a0 a1 a2 self k x46 x47 x48 = F62_l0_b N a0 a1 a2 self (F62_l0 N a0 a1 a2 self (k - 1)) x46 x47 x48 := by
 cases k with
 | zero => exact absurd hk (Nat.lt_irrefl 0)
 | succ m => rfl
def F62_b (N : Nat) (self : (List (Int × (ByteArray × (Int × (Int × (Int × (Bool × (List Int)))))))) → Int → Int → Option (Int × Int)) (a0 : (List (Int × (ByteArray × (Int × (Int × (Int × (Bool × (List Int))))))))) (a1 : Int) (a2 : Int) : Option (Int × Int) :=
  cond (decide (a1 ≥ (a0.length : Int))) (some ((-1 : Int), (0 : Int))) (cond (a2 == (0 : Int)) (some ((-1 : Int), (0 : Int))) (F62_l0 N a0 a1 a2 self N (IntKind.i64.wrap (a1 + (1 : Int))) (0 : Int) (0 : Int)))
theorem ok62_b (N : Nat) (self : (List (Int × (ByteArray × (Int × (Int × (Int × (Bool × (List Int)))))))) → Int → Int → Option (Int × Int)) (ih : ∀ (a0 : (List (Int × (ByteArray × (Int × (Int × (Int × (Bool × (List Int))))))))) (a1 : Int) (a2 : Int) (r : Int × Int), self a0 a1 a2 = some r → Con Go.Proofs.Tryd.prog 62 [.lf (.v (.sl Y23) a0), I a1, I a2] [.lf (.v (.int .i64) r.1), .lf (.v (.int .i64) r.2)]) (a0 : (List (Int × (ByteArray × (Int × (Int × (Int × (Bool × (List Int))))))))) (a1 : Int) (a2 : Int) {r : Int × Int} (h : F62_b N self a0 a1 a2 = some r) : Con Go.Proofs.Tryd.prog 62 [.lf (.v (.sl Y23) a0), I a1, I a2] [.lf (.v (.int .i64) r.1), .lf (.v (.int .i64) r.2)] := by
 refine ctr [.lf (.v (.int .i64)), .lf (.v (.int .i64))] K Go.Proofs.Tryd.func62 rfl fun w0 E0 ht => ?_
 unfold F62_b at h
 show VW _ _ _ _ _ (retQ _ _ _ _) _
 refine sR K [0, 1, 2] [] ⟨[(0, .lf (.v (.sl Y23) a0)), (1, I a1), (2, I a2)], []⟩ (tn 2) ?_
 refine VW.seq ?_
 refine VW.seq ?_
 refine VW.region ?_
 refine sG K 5 [0, 1, 2, 17] [] ⟨[(0, .lf (.v (.sl Y23) a0)), (1, I a1), (2, I a2), (17, B (decide (a1 ≥ (a0.length : Int))))], []⟩ (tn 5) ?_
 refine spB 17 h (fun h => ?_) (fun h => ?_)
 ·refine sN K [0, 1, 2, 20] [] ⟨[(0, .lf (.v (.sl Y23) a0)), (1, I a1), (2, I a2), (20, B true)], []⟩ (tn 3) ?_
  refine VW.cond (b := true) (by kernel_rfl) (fun _ => ?_) (fun h' => nomatch h')
  refine sR K [6, 7] [] ⟨[(6, I (-1 : Int)), (7, I (0 : Int))], []⟩ (tn 2) ?_
  cases h; exact VW.ret (rt [])
 refine sN K [0, 1, 2, 20] [] ⟨[(0, .lf (.v (.sl Y23) a0)), (1, I a1), (2, I a2), (20, B (a2 == (0 : Int)))], []⟩ (tn 3) ?_
 refine cnd h (fun h => ?_) (fun h => ?_)
 ·refine sR K [6, 7] [] ⟨[(6, I (-1 : Int)), (7, I (0 : Int))], []⟩ (tn 2) ?_
  cases h; exact VW.ret (rt [])
 refine VW.skip ?_
 refine sR K [0, 1, 2, 8] [] ⟨[(0, .lf (.v (.sl Y23) a0)), (1, I a1), (2, I a2), (8, I (wr (a1 + (1 : Int))))], []⟩ (tn 3) ?_
 refine sR K [0, 1, 2, 8, 9] [] ⟨[(0, .lf (.v (.sl Y23) a0)), (1, I a1), (2, I a2), (8, I (wr (a1 + (1 : Int)))), (9, I (0 : Int))], []⟩ (tn 1) ?_
 refine VW.join (fun s => ∃ (x33 : Int) (x34 : Int), s = ⟨[(8, I x33), (9, I x34)], []⟩ ∧ F62_j0 N x33 x34 = some r) ?_ ?_
 ·refine sR K [0, 1, 2, 8, 9, 10] [] ⟨[(0, .lf (.v (.sl Y23) a0)), (1, I a1), (2, I a2), (8, I (wr (a1 + (1 : Int)))), (9, I (0 : Int)), (10, I (0 : Int))], []⟩ (tn 1) ?_
  refine VW.block ?_
  refine lop (fun k s => ∃ (x46 : Int) (x47 : Int) (x48 : Int), s = ⟨[(0, .lf (.v (.sl Y23) a0)), (1, I a1), (2, I a2), (8, I x46), (9, I x47), (10, I x48)], []⟩ ∧ F62_l0 N a0 a1 a2 self k x46 x47 x48 = some r) N [.ren [0, 1, 2, 8, 9, 10] []] ⟨(wr (a1 + (1 : Int))), (0 : Int), (0 : Int), rfl, h⟩ ?_
  rintro k58 s ⟨x46, x47, x48, rfl, h⟩
  cases k58 with
  | zero => cases show none = some r from h
  | succ k58 =>
   replace h : F62_l0_b N a0 a1 a2 self (F62_l0 N a0 a1 a2 self k58) x46 x47 x48 = some r := h
   unfold F62_l0_b at h
   refine VW.seq ?_
   refine VW.seq ?_
   refine VW.region ?_
   obtain ⟨g61, h⟩ := gd_some h
   refine sG K 6 [0, 1, 2, 8, 9, 10, 23, 28] [] ⟨[(0, .lf (.v (.sl Y23) a0)), (1, I a1), (2, I a2), (8, I x46), (9, I x47), (10, I x48), (23, I x48), (28, I ((a0.getD a1.toNat D23).1))], []⟩ (pu 3 (an g61 (tn 2))) ?_
   obtain ⟨y62, hy, h⟩ := andO_some h
   refine cal false [.t (.int .i64)] [] (some 29) K (ok77 N _ hy) ?_
   refine sN K [0, 1, 2, 8, 9, 10, 30] [] ⟨[(0, .lf (.v (.sl Y23) a0)), (1, I a1), (2, I a2), (8, I x46), (9, I x47), (10, I x48), (30, B (decide (x48 < y62)))], []⟩ (tn 1) ?_
   refine cnd h (fun h => ?_) (fun h => ?_)
   ·refine VW.skip ?_
    refine VW.join (fun s => ∃ (x64 : Int) (x65 : Int), s = ⟨[(0, .lf (.v (.sl Y23) a0)), (1, I a1), (2, I a2), (8, I x64), (9, I x65), (10, I x48)], []⟩ ∧ F62_j1 N (F62_l0 N a0 a1 a2 self k58) x48 x64 x65 = some r) ?_ ?_
    ·refine VW.block ?_
     refine VW.seq ?_
     refine VW.region ?_
     refine sG K 4 [0, 1, 2, 9, 10, 34, 35, 37] [] ⟨[(0, .lf (.v (.sl Y23) a0)), (1, I a1), (2, I a2), (9, I x47), (10, I x48), (34, .lf (.v (.sl Y23) a0)), (35, I x46), (37, I (wr (a2 - (1 : Int))))], []⟩ (tn 4) ?_
     obtain ⟨y67, hy, h⟩ := andO_some h
     refine cal false [.t (.sl Y23), .t (.int .i64), .t (.int .i64)] [] (some 38) K (ih _ _ _ _ hy) ?_
     refine sN K [0, 1, 2, 9, 10, 11, 12] [] ⟨[(0, .lf (.v (.sl Y23) a0)), (1, I a1), (2, I a2), (9, I x47), (10, I x48), (11, I y67.1), (12, I y67.2)], []⟩ (tn 5) ?_
     refine VW.seq ?_
     refine sR K [0, 1, 2, 9, 10, 11, 12, 42] [] ⟨[(0, .lf (.v (.sl Y23) a0)), (1, I a1), (2, I a2), (9, I x47), (10, I x48), (11, I y67.1), (12, I y67.2), (42, B (decide (y67.1 < (0 : Int))))], []⟩ (tn 2) ?_
     refine cnd h (fun h => ?_) (fun h => ?_)
     ·refine sR K [6, 7] [] ⟨[(6, I (-1 : Int)), (7, I (0 : Int))], []⟩ (tn 2) ?_
      cases h; exact VW.ret (rt [])
     refine VW.skip ?_
     refine sR K [0, 1, 2, 8, 9, 10, 12] [] ⟨[(0, .lf (.v (.sl Y23) a0)), (1, I a1), (2, I a2), (8, I y67.1), (9, I x47), (10, I x48), (12, I y67.2)], []⟩ (tn 2) ?_
     refine sR K [0, 1, 2, 8, 9, 10, 12, 46] [] ⟨[(0, .lf (.v (.sl Y23) a0)), (1, I a1), (2, I a2), (8, I y67.1), (9, I x47), (10, I x48), (12, I y67.2), (46, B (decide (y67.2 > x47)))], []⟩ (tn 3) ?_
     refine cnd h (fun h => ?_) (fun h => ?_)
     ·refine rR K [0, 1, 2, 8, 9, 10] [] ⟨[(0, .lf (.v (.sl Y23) a0)), (1, I a1), (2, I a2), (8, I y67.1), (9, I y67.2), (10, I x48)], []⟩ (tn 2) ?_
      exact arv [.ren [0, 1, 2, 8, 9, 10] []] ⟨y67.1, y67.2, rfl, h⟩
     refine VW.skip ?_
     exact arv [.ren [0, 1, 2, 8, 9, 10] []] ⟨y67.1, x47, rfl, h⟩
    rintro s ⟨x64, x65, rfl, h⟩
    unfold F62_j1 at h
    refine rR K [0, 1, 2, 8, 9, 10] [] ⟨[(0, .lf (.v (.sl Y23) a0)), (1, I a1), (2, I a2), (8, I x64), (9, I x65), (10, I (wr (x48 + (1 : Int))))], []⟩ (tn 3) ?_
    exact aro [.ren [0, 1, 2, 8, 9, 10] []] ⟨x64, x65, (wr (x48 + (1 : Int))), rfl, h⟩
   refine VW.exit ?_
   exact arv [.ren [8, 9] []] ⟨x46, x47, rfl, h⟩
 rintro s ⟨x33, x34, rfl, h⟩
 unfold F62_j0 at h
 refine sR K [6, 7] [] ⟨[(6, I x33), (7, I (wr (x34 + (1 : Int))))], []⟩ (tn 5) ?_
 cases h; exact VW.ret (rt [])
def F62_r (N : Nat) : Nat → (List (Int × (ByteArray × (Int × (Int × (Int × (Bool × (List Int)))))))) → Int → Int → Option (Int × Int) := loopF (F62_b N) (fun _ _ _ => none)
theorem F62_s (N : Nat) {k : Nat} (hk : 0 < k) (a0 : (List (Int × (ByteArray × (Int × (Int × (Int × (Bool × (List Int))))))))) (a1 : Int) (a2 : Int) : F62_r N k a0 a1 a2 = F62_b N (F62_r N (k - 1)) a0 a1 a2 := by
 cases k with
 | zero => exact absurd hk (Nat.lt_irrefl 0)
 | succ m => rfl
def F62 (N : Nat) : (List (Int × (ByteArray × (Int × (Int × (Int × (Bool × (List Int)))))))) → Int → Int → Option (Int × Int) := F62_r N N
theorem ok62_k (N : Nat) : ∀ (k : Nat) (a0 : (List (Int × (ByteArray × (Int × (Int × (Int × (Bool × (List Int))))))))) (a1 : Int) (a2 : Int) (r : Int × Int), loopF (F62_b N) (fun _ _ _ => none) k a0 a1 a2 = some r → Con Go.Proofs.Tryd.prog 62 [.lf (.v (.sl Y23) a0), I a1, I a2] [.lf (.v (.int .i64) r.1), .lf (.v (.int .i64) r.2)]
 | 0, a0, a1, a2, r, h => nomatch (show (none : Option (Int × Int)) = some r from h)
 | k + 1, a0, a1, a2, r, h => ok62_b N _ (ok62_k N k) a0 a1 a2 h
theorem ok62 (N : Nat) (a0 : (List (Int × (ByteArray × (Int × (Int × (Int × (Bool × (List Int))))))))) (a1 : Int) (a2 : Int) {r : Int × Int} (h : F62 N a0 a1 a2 = some r) : Con Go.Proofs.Tryd.prog 62 [.lf (.v (.sl Y23) a0), I a1, I a2] [.lf (.v (.int .i64) r.1), .lf (.v (.int .i64) r.2)] := ok62_k N N a0 a1 a2 r h
def F38_j0 (N : Nat) (a0 : (List (Int × (ByteArray × (Int × (Int × (Int × (Bool × (List Int))))))))) : Option (Bool) :=
  andO (F62 N a0 (0 : Int) (10 : Int)) fun y17 => some (y17.1 == (a0.length : Int))
def F38_l0_b (N : Nat) (a0 : (List (Int × (ByteArray × (Int × (Int × (Int × (Bool × (List Int))))))))) (nx28 : Int → Option (Bool)) (x23 : Int) : Option (Bool) :=
  cond (decide (x23 < (a0.length : Int))) (gd (InR x23 a0.length) (andO (F25 N (a0.getD x23.toNat (Ty.dflt Y23))) fun y32 => cond (!y32) (some false) (nx28 (IntKind.i64.wrap (x23 + (1 : Int)))))) (F38_j0 N a0)
def F38_l0 (N : Nat) (a0 : (List (Int × (ByteArray × (Int × (Int × (Int × (Bool × (List Int))))))))) : Nat → Int → Option (Bool) := loopF (F38_l0_b N a0) (fun _ => none)
theorem F38_l0_s (N : Nat) (a0 : (List (Int × (ByteArray × (Int × (Int × (Int × (Bool × (List Int))))))))) {k : Nat} (hk : 0 < k) (x23 : Int) : F38_l0 N a0 k x23 = F38_l0_b N a0 (F38_l0 N a0 (k - 1)) x23 := by
 cases k with
 | zero => exact absurd hk (Nat.lt_irrefl 0)
 | succ m => rfl
def F38 (N : Nat) (a0 : (List (Int × (ByteArray × (Int × (Int × (Int × (Bool × (List Int))))))))) : Option (Bool) :=
  andO (F48 N (a0.length : Int) (1 : Int) (40 : Int)) fun y2 => cond (!y2) (some false) (F38_l0 N a0 N (0 : Int))
theorem ok38 (N : Nat) (a0 : (List (Int × (ByteArray × (Int × (Int × (Int × (Bool × (List Int))))))))) {r : Bool} (h : F38 N a0 = some r) : Con Go.Proofs.Tryd.prog 38 [.lf (.v (.sl Y23) a0)] [.lf (.v .bool r)] := by
 refine ctr [.lf (.v .bool)] K Go.Proofs.Tryd.func38 rfl fun w0 E0 ht => ?_
 unfold F38 at h
 show VW _ _ _ _ _ (retQ _ _ _ _) _
 refine sR K [0] [] ⟨[(0, .lf (.v (.sl Y23) a0))], []⟩ (tn 1) ?_
 refine VW.seq ?_
 refine VW.seq ?_
 refine VW.region ?_
 refine sG K 2 [0, 7] [] ⟨[(0, .lf (.v (.sl Y23) a0)), (7, I (a0.length : Int))], []⟩ (tn 2) ?_
 obtain ⟨y2, hy, h⟩ := andO_some h
 refine cal false [.t (.int .i64), .t (.int .i64), .t (.int .i64)] [] (some 8) K (ok48 N _ _ _ hy) ?_
 refine sN K [0, 9] [] ⟨[(0, .lf (.v (.sl Y23) a0)), (9, B (!y2))], []⟩ (tn 1) ?_
 refine cnd h (fun h => ?_) (fun h => ?_)
 ·refine sR K [2] [] ⟨[(2, B false)], []⟩ (tn 1) ?_
  cases h; exact VW.ret (rt [])
 refine VW.skip ?_
 refine VW.join (fun s => s = ⟨[(0, .lf (.v (.sl Y23) a0))], []⟩ ∧ F38_j0 N a0 = some r) ?_ ?_
 ·refine sR K [0, 3] [] ⟨[(0, .lf (.v (.sl Y23) a0)), (3, I (0 : Int))], []⟩ (tn 1) ?_
  refine VW.block ?_
  refine lop (fun k s => ∃ (x23 : Int), s = ⟨[(0, .lf (.v (.sl Y23) a0)), (3, I x23)], []⟩ ∧ F38_l0 N a0 k x23 = some r) N [.ren [0, 3] []] ⟨(0 : Int), rfl, h⟩ ?_
  rintro k28 s ⟨x23, rfl, h⟩
  cases k28 with
  | zero => cases show none = some r from h
  | succ k28 =>
   replace h : F38_l0_b N a0 (F38_l0 N a0 k28) x23 = some r := h
   unfold F38_l0_b at h
   refine VW.seq ?_
   refine sR K [0, 3, 13] [] ⟨[(0, .lf (.v (.sl Y23) a0)), (3, I x23), (13, B (decide (x23 < (a0.length : Int))))], []⟩ (tn 4) ?_
   refine cnd h (fun h => ?_) (fun h => ?_)
   ·refine VW.skip ?_
    refine VW.seq ?_
    refine VW.block ?_
    refine VW.seq ?_
    refine VW.region ?_
    obtain ⟨g31, h⟩ := gd_some h
    refine sG K 4 [0, 3, 19] [] ⟨[(0, .lf (.v (.sl Y23) a0)), (3, I x23), (19, .agg (lv Y23 (a0.getD x23.toNat D23)))], []⟩ (pu 2 (an g31 (tn 1))) ?_
    obtain ⟨y32, hy, h⟩ := andO_some h
    refine cal false [.t Y23] [] (some 20) K (ok25 N _ hy) ?_
    refine sN K [0, 3, 21] [] ⟨[(0, .lf (.v (.sl Y23) a0)), (3, I x23), (21, B (!y32))], []⟩ (tn 1) ?_
    refine cnd h (fun h => ?_) (fun h => ?_)
    ·refine sR K [2] [] ⟨[(2, B false)], []⟩ (tn 1) ?_
     cases h; exact VW.ret (rt [])
    refine VW.skip ?_
    refine rR K [0, 3] [] ⟨[(0, .lf (.v (.sl Y23) a0)), (3, I (wr (x23 + (1 : Int))))], []⟩ (tn 3) ?_
    exact aro [.ren [0, 3] []] ⟨(wr (x23 + (1 : Int))), rfl, h⟩
   refine VW.exit ?_
   exact arv [.ren [0] []] ⟨rfl, h⟩
 rintro s ⟨rfl, h⟩
 unfold F38_j0 at h
 refine VW.seq ?_
 refine VW.region ?_
 refine sG K 1 [0, 23] [] ⟨[(0, .lf (.v (.sl Y23) a0)), (23, .lf (.v (.sl Y23) a0))], []⟩ (tn 1) ?_
 obtain ⟨y17, hy, h⟩ := andO_some h
 refine cal false [.t (.sl Y23), .t (.int .i64), .t (.int .i64)] [] (some 24) K (ok62 N _ _ _ hy) ?_
 refine sN K [0, 4] [] ⟨[(0, .lf (.v (.sl Y23) a0)), (4, I y17.1)], []⟩ (tn 5) ?_
 refine sR K [2] [] ⟨[(2, B (y17.1 == (a0.length : Int)))], []⟩ (tn 5) ?_
 cases h; exact VW.ret (rt [])
def F14_j0 (N : Nat) (x30 : (List (Int × (ByteArray × (Int × (Int × (Int × (Bool × (List Int))))))))) : Option ((List (Int × (ByteArray × (Int × (Int × (Int × (Bool × (List Int))))))))) :=
  some x30
def F14_l0_b (N : Nat) (a0 : (List (Int × (ByteArray × (Int × (Int × (Int × (Bool × (List Int))))))))) (nx51 : (List (Int × (ByteArray × (Int × (Int × (Int × (Bool × (List Int)))))))) → Int → Option ((List (Int × (ByteArray × (Int × (Int × (Int × (Bool × (List Int)))))))))) (x41 : (List (Int × (ByteArray × (Int × (Int × (Int × (Bool × (List Int))))))))) (x42 : Int) : Option ((List (Int × (ByteArray × (Int × (Int × (Int × (Bool × (List Int))))))))) :=
  cond (decide (x42 < (a0.length : Int))) (gd (InR x42 a0.length) (andO (F9 N (a0.getD x42.toNat (Ty.dflt Y23))) fun y57 => gd (InR x42 x41.length) (gd (x42.toNat < x41.length) (nx51 (x41.set x42.toNat y57) (IntKind.i64.wrap (x42 + (1 : Int))))))) (F14_j0 N x41)
def F14_l0 (N : Nat) (a0 : (List (Int × (ByteArray × (Int × (Int × (Int × (Bool × (List Int))))))))) : Nat → (List (Int × (ByteArray × (Int × (Int × (Int × (Bool × (List Int)))))))) → Int → Option ((List (Int × (ByteArray × (Int × (Int × (Int × (Bool × (List Int))))))))) := loopF (F14_l0_b N a0) (fun _ _ => none)
theorem F14_l0_s (N : Nat) (a0 : (List (Int × (ByteArray × (Int × (Int × (Int × (Bool × (List Int))))))))) {k : Nat} (hk : 0 < k) (x41 : (List (Int × (ByteArray × (Int × (Int × (Int × (Bool × (List Int))))))))) (x42 : Int) : F14_l0 N a0 k x41 x42 = F14_l0_b N a0 (F14_l0 N a0 (k - 1)) x41 x42 := by
 cases k with
 | zero => exact absurd hk (Nat.lt_irrefl 0)
 | succ m => rfl
def F14 (N : Nat) (a0 : (List (Int × (ByteArray × (Int × (Int × (Int × (Bool × (List Int))))))))) : Option ((List (Int × (ByteArray × (Int × (Int × (Int × (Bool × (List Int))))))))) :=
  gd (0 ≤ (a0.length : Int) ∧ (a0.length : Int) ≤ (lim Y23 : Int) ∧ (a0.length : Int) = (a0.length : Int)) (F14_l0 N a0 N (List.replicate (a0.length : Int).toNat (Ty.dflt Y23)) (0 : Int))
theorem ok14 (N : Nat) (a0 : (List (Int × (ByteArray × (Int × (Int × (Int × (Bool × (List Int))))))))) {r : (List (Int × (ByteArray × (Int × (Int × (Int × (Bool × (List Int))))))))} (h : F14 N a0 = some r) : Con Go.Proofs.Tryd.prog 14 [.lf (.v (.sl Y23) a0)] [.lf (.own Y23 r .dp)] := by
 refine ctr [.lf (.own Y23 .dp)] K Go.Proofs.Tryd.func14 rfl fun w0 E0 ht => ?_
 unfold F14 at h
 show VW _ _ _ _ _ (retQ _ _ _ _) _
 refine sR K [0] [] ⟨[(0, .lf (.v (.sl Y23) a0))], []⟩ (tn 1) ?_
 obtain ⟨g1, h⟩ := gd_some h
 refine sR K [0, 3] [0] ⟨[(0, .lf (.v (.sl Y23) a0)), (3, .lf (.hd 0 0 none))], [ar 0 Y23 (List.replicate (a0.length : Int).toNat D23) .dp]⟩ (pu 2 (an g1 (tn 1))) ?_
 refine VW.join (fun s => ∃ (x30 : (List (Int × (ByteArray × (Int × (Int × (Int × (Bool × (List Int))))))))), s = ⟨[(3, .lf (.hd 0 0 none))], [ar 0 Y23 x30 .dp]⟩ ∧ F14_j0 N x30 = some r) ?_ ?_
 ·refine sRh K [0, 3, 4] [0] [(0, .lf (.v (.sl Y23) a0)), (3, .lf (.hd 0 0 none)), (4, I (0 : Int))] (tn 1) ?_
  refine VW.block ?_
  refine lop (fun k s => ∃ (x41 : (List (Int × (ByteArray × (Int × (Int × (Int × (Bool × (List Int))))))))) (x42 : Int), s = ⟨[(0, .lf (.v (.sl Y23) a0)), (3, .lf (.hd 0 0 none)), (4, I x42)], [ar 0 Y23 x41 .dp]⟩ ∧ F14_l0 N a0 k x41 x42 = some r) N [.ren [0, 3, 4] [0]] ⟨(List.replicate (a0.length : Int).toNat D23), (0 : Int), rfl, h⟩ ?_
  rintro k51 s ⟨x41, x42, rfl, h⟩
  cases k51 with
  | zero => cases show none = some r from h
  | succ k51 =>
   replace h : F14_l0_b N a0 (F14_l0 N a0 k51) x41 x42 = some r := h
   unfold F14_l0_b at h
   refine VW.seq ?_
   refine sRh K [0, 3, 4, 11] [0] [(0, .lf (.v (.sl Y23) a0)), (3, .lf (.hd 0 0 none)), (4, I x42), (11, B (decide (x42 < (a0.length : Int))))] (tn 4) ?_
   refine cnd h (fun h => ?_) (fun h => ?_)
   ·refine VW.skip ?_
    refine VW.seq ?_
    refine VW.block ?_
    refine VW.region ?_
    obtain ⟨g56, h⟩ := gd_some h
    refine sGh K 6 [0, 3, 4, 14, 15, 19] [0] [(0, .lf (.v (.sl Y23) a0)), (3, .lf (.hd 0 0 none)), (4, I x42), (14, .lf (.hd 0 0 none)), (15, I x42), (19, .agg (lv Y23 (a0.getD x42.toNat D23)))] (pu 4 (an g56 (tn 1))) ?_
    obtain ⟨y57, hy, h⟩ := andO_some h
    refine cal false [.t Y23] [] (some 20) K (ok9 N _ hy) ?_
    obtain ⟨g58, h⟩ := gd_some h
    refine sGh K 1 [0, 3, 4, 20, 21] [0, 1] [(0, .lf (.v (.sl Y23) a0)), (3, .lf (.hd 0 0 none)), (4, I x42), (20, .agg [zi y57.1, zs y57.2.1, zi y57.2.2.1, zi y57.2.2.2.1, zi y57.2.2.2.2.1, zb y57.2.2.2.2.2.1, .hd 1 0 none]), (21, .lf (.ptr 0 0 x42.toNat 0))] (an g58 (tn 0)) ?_
    obtain ⟨g59, h⟩ := gd_some h
    refine VO.storeA (φ := x42.toNat < x41.length) (H' := [ar 0 Y23 (x41.set x42.toNat y57) .dp, none]) K (by kernel_rfl) g59 ?_
    refine sN K [0, 3, 4] [0] ⟨[(0, .lf (.v (.sl Y23) a0)), (3, .lf (.hd 0 0 none)), (4, I x42)], [ar 0 Y23 (x41.set x42.toNat y57) .dp]⟩ (tn 0) ?_
    refine rRh K [0, 3, 4] [0] [(0, .lf (.v (.sl Y23) a0)), (3, .lf (.hd 0 0 none)), (4, I (wr (x42 + (1 : Int))))] (tn 3) ?_
    exact aro [.ren [0, 3, 4] [0]] ⟨(x41.set x42.toNat y57), (wr (x42 + (1 : Int))), rfl, h⟩
   refine VW.exit ?_
   exact arv [.ren [3] [0]] ⟨x41, rfl, h⟩
 rintro s ⟨x30, rfl, h⟩
 unfold F14_j0 at h
 refine sRh K [2] [0] [(2, .lf (.hd 0 0 none))] (tn 2) ?_
 cases h; exact VW.ret (rt [some 0])
def F78_j0 (N : Nat) : Option (Int) :=
  some (-1 : Int)
def F78_l0_b (N : Nat) (a0 : (List (Int × (ByteArray × (Int × (Int × (Int × (Bool × (List Int))))))))) (p1 : (Int × (ByteArray × (Int × (Int × (Int × (Bool × (List Int))))))) → Option (Bool)) (nx29 : Int → Int → Option (Int)) (x23 : Int) (x24 : Int) : Option (Int) :=
  cond (decide (x24 < x23)) (gd (InR x24 a0.length) (andO (p1 (a0.getD x24.toNat (Ty.dflt Y23))) fun y33 => cond y33 (some x24) (nx29 x23 (IntKind.i64.wrap (x24 + (1 : Int)))))) (F78_j0 N)
def F78_l0 (N : Nat) (a0 : (List (Int × (ByteArray × (Int × (Int × (Int × (Bool × (List Int))))))))) (p1 : (Int × (ByteArray × (Int × (Int × (Int × (Bool × (List Int))))))) → Option (Bool)) : Nat → Int → Int → Option (Int) := loopF (F78_l0_b N a0 p1) (fun _ _ => none)
theorem F78_l0_s (N : Nat) (a0 : (List (Int × (ByteArray × (Int × (Int × (Int × (Bool × (List Int))))))))) (p1 : (Int × (ByteArray × (Int × (Int × (Int × (Bool × (List Int))))))) → Option (Bool)) {k : Nat} (hk : 0 < k) (x23 : Int) (x24 : Int) : F78_l0 N a0 p1 k x23 x24 = F78_l0_b N a0 p1 (F78_l0 N a0 p1 (k - 1)) x23 x24 := by
 cases k with
 | zero => exact absurd hk (Nat.lt_irrefl 0)
 | succ m => rfl
def F78 (N : Nat) (a0 : (List (Int × (ByteArray × (Int × (Int × (Int × (Bool × (List Int))))))))) (p1 : (Int × (ByteArray × (Int × (Int × (Int × (Bool × (List Int))))))) → Option (Bool)) : Option (Int) :=
  F78_l0 N a0 p1 N (a0.length : Int) (0 : Int)
theorem ok78 (N : Nat) (a0 : (List (Int × (ByteArray × (Int × (Int × (Int × (Bool × (List Int))))))))) (g1 : FuncId) (p1 : (Int × (ByteArray × (Int × (Int × (Int × (Bool × (List Int))))))) → Option (Bool)) (hp1 : ∀ (z0 : (Int × (ByteArray × (Int × (Int × (Int × (Bool × (List Int)))))))) (r : Bool), p1 z0 = some r → Con Go.Proofs.Tryd.prog g1 [.agg (lv Y23 z0)] [.lf (.v .bool r)]) {r : Int} (h : F78 N a0 p1 = some r) : Con Go.Proofs.Tryd.prog 78 [.lf (.v (.sl Y23) a0), .clo g1 []] [.lf (.v (.int .i64) r)] := by
 refine ctr [.lf (.v (.int .i64))] K Go.Proofs.Tryd.func78 rfl fun w0 E0 ht => ?_
 unfold F78 at h
 show VW _ _ _ _ _ (retQ _ _ _ _) _
 refine sR K [0, 1] [] ⟨[(0, .lf (.v (.sl Y23) a0)), (1, .clo g1 [])], []⟩ (tn 1) ?_
 refine VW.join (fun s => s = ⟨[], []⟩ ∧ F78_j0 N = some r) ?_ ?_
 ·refine sR K [0, 1, 7, 8] [] ⟨[(0, .lf (.v (.sl Y23) a0)), (1, .clo g1 []), (7, I (a0.length : Int)), (8, I (0 : Int))], []⟩ (tn 3) ?_
  refine VW.block ?_
  refine lop (fun k s => ∃ (x23 : Int) (x24 : Int), s = ⟨[(0, .lf (.v (.sl Y23) a0)), (1, .clo g1 []), (7, I x23), (8, I x24)], []⟩ ∧ F78_l0 N a0 p1 k x23 x24 = some r) N [.ren [0, 1, 7, 8] []] ⟨(a0.length : Int), (0 : Int), rfl, h⟩ ?_
  rintro k29 s ⟨x23, x24, rfl, h⟩
  cases k29 with
  | zero => cases show none = some r from h
  | succ k29 =>
   replace h : F78_l0_b N a0 p1 (F78_l0 N a0 p1 k29) x23 x24 = some r := h
   unfold F78_l0_b at h
   refine sR K [0, 1, 7, 8, 9] [] ⟨[(0, .lf (.v (.sl Y23) a0)), (1, .clo g1 []), (7, I x23), (8, I x24), (9, B (decide (x24 < x23)))], []⟩ (tn 1) ?_
   refine VW.seq ?_
   refine cnd h (fun h => ?_) (fun h => ?_)
   ·refine VW.skip ?_
    refine VW.seq ?_
    refine VW.block ?_
    refine sR K [0, 1, 5, 7, 8] [] ⟨[(0, .lf (.v (.sl Y23) a0)), (1, .clo g1 []), (5, I x24), (7, I x23), (8, I x24)], []⟩ (tn 2) ?_
    refine VW.seq ?_
    refine VW.region ?_
    obtain ⟨g32, h⟩ := gd_some h
    refine sG K 5 [0, 1, 5, 7, 8, 11, 15] [] ⟨[(0, .lf (.v (.sl Y23) a0)), (1, .clo g1 []), (5, I x24), (7, I x23), (8, I x24), (11, .clo g1 []), (15, .agg (lv Y23 (a0.getD x24.toNat D23)))], []⟩ (pu 3 (an g32 (tn 1))) ?_
    obtain ⟨y33, hy, h⟩ := andO_some h
    refine cal false [.t Y23] [] (some 16) K (hp1 _ _ hy) ?_
    refine sN K [0, 1, 5, 7, 8, 16] [] ⟨[(0, .lf (.v (.sl Y23) a0)), (1, .clo g1 []), (5, I x24), (7, I x23), (8, I x24), (16, B y33)], []⟩ (tn 0) ?_
    refine cnd h (fun h => ?_) (fun h => ?_)
    ·refine sR K [4] [] ⟨[(4, I x24)], []⟩ (tn 2) ?_
     cases h; exact VW.ret (rt [])
    refine VW.skip ?_
    refine rR K [0, 1, 7, 8] [] ⟨[(0, .lf (.v (.sl Y23) a0)), (1, .clo g1 []), (7, I x23), (8, I (wr (x24 + (1 : Int))))], []⟩ (tn 2) ?_
    exact aro [.ren [0, 1, 7, 8] []] ⟨x23, (wr (x24 + (1 : Int))), rfl, h⟩
   refine VW.exit ?_
   exact arv [.ren [] []] ⟨rfl, h⟩
 rintro s ⟨rfl, h⟩
 unfold F78_j0 at h
 refine sR K [4] [] ⟨[(4, I (-1 : Int))], []⟩ (tn 1) ?_
 cases h; exact VW.ret (rt [])
def F63 (N : Nat) (a0 : (List (Int × (ByteArray × (Int × (Int × (Int × (Bool × (List Int))))))))) (p1 : (Int × (ByteArray × (Int × (Int × (Int × (Bool × (List Int))))))) → Option (Bool)) : Option (Bool) :=
  andO (F78 N a0 p1) fun y1 => some (decide (y1 ≥ (0 : Int)))
theorem ok63 (N : Nat) (a0 : (List (Int × (ByteArray × (Int × (Int × (Int × (Bool × (List Int))))))))) (g1 : FuncId) (p1 : (Int × (ByteArray × (Int × (Int × (Int × (Bool × (List Int))))))) → Option (Bool)) (hp1 : ∀ (z0 : (Int × (ByteArray × (Int × (Int × (Int × (Bool × (List Int)))))))) (r : Bool), p1 z0 = some r → Con Go.Proofs.Tryd.prog g1 [.agg (lv Y23 z0)] [.lf (.v .bool r)]) {r : Bool} (h : F63 N a0 p1 = some r) : Con Go.Proofs.Tryd.prog 63 [.lf (.v (.sl Y23) a0), .clo g1 []] [.lf (.v .bool r)] := by
 refine ctr [.lf (.v .bool)] K Go.Proofs.Tryd.func63 rfl fun w0 E0 ht => ?_
 unfold F63 at h
 show VW _ _ _ _ _ (retQ _ _ _ _) _
 refine sR K [0, 1] [] ⟨[(0, .lf (.v (.sl Y23) a0)), (1, .clo g1 [])], []⟩ (tn 1) ?_
 refine VW.seq ?_
 refine VW.region ?_
 refine sG K 2 [5, 6] [] ⟨[(5, .lf (.v (.sl Y23) a0)), (6, .clo g1 [])], []⟩ (tn 2) ?_
 obtain ⟨y1, hy, h⟩ := andO_some h
 refine cal false [.t (.sl Y23), .clo []] [] (some 7) K (ok78 N _ g1  p1 hp1 hy) ?_
 refine sN K [4] [] ⟨[(4, B (decide (y1 ≥ (0 : Int))))], []⟩ (tn 2) ?_
 cases h; exact VW.ret (rt [])
def F64 (N : Nat) (a0 : (Int × (ByteArray × (Int × (Int × (Int × (Bool × (List Int)))))))) : Option (Bool) :=
  andO (F31 N a0) fun y1 => some (!y1)
theorem ok64 (N : Nat) (a0 : (Int × (ByteArray × (Int × (Int × (Int × (Bool × (List Int)))))))) {r : Bool} (h : F64 N a0 = some r) : Con Go.Proofs.Tryd.prog 64 [.agg (lv Y23 a0)] [.lf (.v .bool r)] := by
 refine ctr [.lf (.v .bool)] K Go.Proofs.Tryd.func64 rfl fun w0 E0 ht => ?_
 unfold F64 at h
 show VW _ _ _ _ _ (retQ _ _ _ _) _
 refine sR K [1] [0] ⟨[(1, .lf (.ptr 0 0 0 0))], [bx (lv Y23 a0) 27]⟩ (tn 2) ?_
 refine VW.seq ?_
 refine VW.region ?_
 refine sG K 1 [3] [] ⟨[(3, .agg (lv Y23 a0))], []⟩ (tn 1) ?_
 obtain ⟨y1, hy, h⟩ := andO_some h
 refine cal false [.t Y23] [] (some 4) K (ok31 N _ hy) ?_
 refine sN K [2] [] ⟨[(2, B (!y1))], []⟩ (tn 2) ?_
 cases h; exact VW.ret (rt [])
def F79_j0 (N : Nat) (x6 : Bool) : Option (Int) :=
  cond x6 (some (1 : Int)) (some (-1 : Int))
def F79_j1 (N : Nat) (a0 : Int) (x5 : Bool) : Option (Int) :=
  cond x5 (some (2 : Int)) (cond (a0 == (1 : Int)) (F79_j0 N (a0 == (1 : Int))) (cond (a0 == (2 : Int)) (F79_j0 N (a0 == (2 : Int))) (cond (a0 == (5 : Int)) (F79_j0 N (a0 == (5 : Int))) (cond (a0 == (6 : Int)) (F79_j0 N (a0 == (6 : Int))) (F79_j0 N (a0 == (7 : Int)))))))
def F79 (N : Nat) (a0 : Int) : Option (Int) :=
  cond (a0 == (0 : Int)) (some (0 : Int)) (cond (a0 == (3 : Int)) (F79_j1 N a0 (a0 == (3 : Int))) (F79_j1 N a0 (a0 == (4 : Int))))
theorem ok79 (N : Nat) (a0 : Int) {r : Int} (h : F79 N a0 = some r) : Con Go.Proofs.Tryd.prog 79 [I a0] [.lf (.v (.int .i64) r)] := by
 refine ctr [.lf (.v (.int .i64))] K Go.Proofs.Tryd.func79 rfl fun w0 E0 ht => ?_
 unfold F79 at h
 show VW _ _ _ _ _ (retQ _ _ _ _) _
 refine sR K [0] [] ⟨[(0, I a0)], []⟩ (tn 1) ?_
 refine VW.seq ?_
 refine sR K [3] [] ⟨[(3, I a0)], []⟩ (tn 1) ?_
 refine VW.block ?_
 refine sR K [3, 4] [] ⟨[(3, I a0), (4, B (a0 == (0 : Int)))], []⟩ (tn 2) ?_
 refine cnd h (fun h => ?_) (fun h => ?_)
 ·refine sR K [2] [] ⟨[(2, I (0 : Int))], []⟩ (tn 1) ?_
  cases h; exact VW.ret (rt [])
 refine VW.join (fun s => ∃ (x5 : Bool), s = ⟨[(3, I a0), (6, B x5)], []⟩ ∧ F79_j1 N a0 x5 = some r) ?_ ?_
 ·refine sR K [3, 6] [] ⟨[(3, I a0), (6, B (a0 == (3 : Int)))], []⟩ (tn 2) ?_
  refine cnd h (fun h => ?_) (fun h => ?_)
  ·refine VW.skip ?_
   exact arv [.ren [3, 6] []] ⟨(a0 == (3 : Int)), rfl, h⟩
  refine rR K [3, 6] [] ⟨[(3, I a0), (6, B (a0 == (4 : Int)))], []⟩ (tn 2) ?_
  exact arv [.ren [3, 6] []] ⟨(a0 == (4 : Int)), rfl, h⟩
 rintro s ⟨x5, rfl, h⟩
 unfold F79_j1 at h
 refine cnd h (fun h => ?_) (fun h => ?_)
 ·refine sR K [2] [] ⟨[(2, I (2 : Int))], []⟩ (tn 1) ?_
  cases h; exact VW.ret (rt [])
 refine VW.join (fun s => ∃ (x6 : Bool), s = ⟨[(9, B x6)], []⟩ ∧ F79_j0 N x6 = some r) ?_ ?_
 ·refine sR K [3, 9] [] ⟨[(3, I a0), (9, B (a0 == (1 : Int)))], []⟩ (tn 2) ?_
  refine cnd h (fun h => ?_) (fun h => ?_)
  ·refine VW.skip ?_
   exact arv [.ren [9] []] ⟨(a0 == (1 : Int)), rfl, h⟩
  refine sR K [3, 9] [] ⟨[(3, I a0), (9, B (a0 == (2 : Int)))], []⟩ (tn 2) ?_
  refine cnd h (fun h => ?_) (fun h => ?_)
  ·refine VW.skip ?_
   exact arv [.ren [9] []] ⟨(a0 == (2 : Int)), rfl, h⟩
  refine sR K [3, 9] [] ⟨[(3, I a0), (9, B (a0 == (5 : Int)))], []⟩ (tn 2) ?_
  refine cnd h (fun h => ?_) (fun h => ?_)
  ·refine VW.skip ?_
   exact arv [.ren [9] []] ⟨(a0 == (5 : Int)), rfl, h⟩
  refine sR K [3, 9] [] ⟨[(3, I a0), (9, B (a0 == (6 : Int)))], []⟩ (tn 2) ?_
  refine cnd h (fun h => ?_) (fun h => ?_)
  ·refine VW.skip ?_
   exact arv [.ren [9] []] ⟨(a0 == (6 : Int)), rfl, h⟩
  refine rR K [9] [] ⟨[(9, B (a0 == (7 : Int)))], []⟩ (tn 2) ?_
  exact arv [.ren [9] []] ⟨(a0 == (7 : Int)), rfl, h⟩
 rintro s ⟨x6, rfl, h⟩
 unfold F79_j0 at h
 refine cnd h (fun h => ?_) (fun h => ?_)
 ·refine sR K [2] [] ⟨[(2, I (1 : Int))], []⟩ (tn 1) ?_
  cases h; exact VW.ret (rt [])
 refine VW.skip ?_
 refine sR K [2] [] ⟨[(2, I (-1 : Int))], []⟩ (tn 1) ?_
 cases h; exact VW.ret (rt [])
def F65_j0 (N : Nat) (x13 : Int) : Option (Int) :=
  some x13
def F65_l0_b (N : Nat) (a0 : (List (Int × (ByteArray × (Int × (Int × (Int × (Bool × (List Int))))))))) (a2 : Int) (self : (List (Int × (ByteArray × (Int × (Int × (Int × (Bool × (List Int)))))))) → Int → Int → Option (Int)) (y16 : Int) (nx24 : Int → Int → Option (Int)) (x20 : Int) (x21 : Int) : Option (Int) :=
  cond (decide (x21 < y16)) (andO (self a0 x20 (IntKind.i64.wrap (a2 + (1 : Int)))) fun y26 => cond (decide (y26 < (0 : Int))) (some (-1 : Int)) (nx24 y26 (IntKind.i64.wrap (x21 + (1 : Int))))) (F65_j0 N x20)
def F65_l0 (N : Nat) (a0 : (List (Int × (ByteArray × (Int × (Int × (Int × (Bool × (List Int))))))))) (a2 : Int) (self : (List (Int × (ByteArray × (Int × (Int × (Int × (Bool × (List Int)))))))) → Int → Int → Option (Int)) (y16 : Int) : Nat → Int → Int → Option (Int) := loopF (F65_l0_b N a0 a2 self y16) (fun _ _ => none)
theorem F65_l0_s (N : Nat) (a0 : (List (Int × (ByteArray × (Int × (Int × (Int × (Bool × (List Int))))))))) (a2 : Int) (self : (List (Int × (ByteArray × (Int × (Int × (Int × (Bool × (List Int)))))))) → Int → Int → Option (Int)) (y16 : Int) {k : Nat} (hk : 0 < k) (x20 : Int) (x21 : Int) : F65_l0 N a0 a2 self y16 k x20 x21 = F65_l0_b N a0 a2 self y16 (F65_l0 N a0 a2 self y16 (k - 1)) x20 x21 := by
 cases k with
 | zero => exact absurd hk (Nat.lt_irrefl 0)
 | succ m => rfl
def F65_b (N : Nat) (self : (List (Int × (ByteArray × (Int × (Int × (Int × (Bool × (List Int)))))))) → Int → Int → Option (Int)) (a0 : (List (Int × (ByteArray × (Int × (Int × (Int × (Bool × (List Int))))))))) (a1 : Int) (a2 : Int) : Option (Int) :=
  cond (decide (a1 ≥ (a0.length : Int))) (some (-1 : Int)) (cond (decide (a2 > (10 : Int))) (some (-1 : Int)) (gd (InR a1 a0.length) (andO (F79 N ((a0.getD a1.toNat (Ty.dflt Y23)).1)) fun y16 => F65_l0 N a0 a2 self y16 N (IntKind.i64.wrap (a1 + (1 : Int))) (0 : Int))))
theorem ok65_b (N : Nat) (self : (List (Int × (ByteArray × (Int × (Int × (Int × (Bool × (List Int)))))))) → Int → Int → Option (Int)) (ih : ∀ (a0 : (List (Int × (ByteArray × (Int × (Int × (Int × (Bool × (List Int))))))))) (a1 : Int) (a2 : Int) (r : Int), self a0 a1 a2 = some r → Con Go.Proofs.Tryd.prog 65 [.lf (.v (.sl Y23) a0), I a1, I a2] [.lf (.v (.int .i64) r)]) (a0 : (List (Int × (ByteArray × (Int × (Int × (Int × (Bool × (List Int))))))))) (a1 : Int) (a2 : Int) {r : Int} (h : F65_b N self a0 a1 a2 = some r) : Con Go.Proofs.Tryd.prog 65 [.lf (.v (.sl Y23) a0), I a1, I a2] [.lf (.v (.int .i64) r)] := by
 refine ctr [.lf (.v (.int .i64))] K Go.Proofs.Tryd.func65 rfl fun w0 E0 ht => ?_
 unfold F65_b at h
 show VW _ _ _ _ _ (retQ _ _ _ _) _
 refine sR K [0, 1, 2] [] ⟨[(0, .lf (.v (.sl Y23) a0)), (1, I a1), (2, I a2)], []⟩ (tn 1) ?_
 refine VW.seq ?_
 refine VW.seq ?_
 refine VW.region ?_
 refine sG K 5 [0, 1, 2, 12] [] ⟨[(0, .lf (.v (.sl Y23) a0)), (1, I a1), (2, I a2), (12, B (decide (a1 ≥ (a0.length : Int))))], []⟩ (tn 5) ?_
 refine spB 12 h (fun h => ?_) (fun h => ?_)
 ·refine sN K [0, 1, 2, 15] [] ⟨[(0, .lf (.v (.sl Y23) a0)), (1, I a1), (2, I a2), (15, B true)], []⟩ (tn 3) ?_
  refine VW.cond (b := true) (by kernel_rfl) (fun _ => ?_) (fun h' => nomatch h')
  refine sR K [6] [] ⟨[(6, I (-1 : Int))], []⟩ (tn 1) ?_
  cases h; exact VW.ret (rt [])
 refine sN K [0, 1, 2, 15] [] ⟨[(0, .lf (.v (.sl Y23) a0)), (1, I a1), (2, I a2), (15, B (decide (a2 > (10 : Int))))], []⟩ (tn 3) ?_
 refine cnd h (fun h => ?_) (fun h => ?_)
 ·refine sR K [6] [] ⟨[(6, I (-1 : Int))], []⟩ (tn 1) ?_
  cases h; exact VW.ret (rt [])
 refine VW.skip ?_
 refine sR K [0, 1, 2, 7] [] ⟨[(0, .lf (.v (.sl Y23) a0)), (1, I a1), (2, I a2), (7, I (wr (a1 + (1 : Int))))], []⟩ (tn 3) ?_
 refine VW.join (fun s => ∃ (x13 : Int), s = ⟨[(7, I x13)], []⟩ ∧ F65_j0 N x13 = some r) ?_ ?_
 ·refine VW.seq ?_
  refine VW.region ?_
  obtain ⟨g15, h⟩ := gd_some h
  refine sG K 5 [0, 2, 7, 22] [] ⟨[(0, .lf (.v (.sl Y23) a0)), (2, I a2), (7, I (wr (a1 + (1 : Int)))), (22, I ((a0.getD a1.toNat D23).1))], []⟩ (pu 2 (an g15 (tn 2))) ?_
  obtain ⟨y16, hy, h⟩ := andO_some h
  refine cal false [.t (.int .i64)] [] (some 23) K (ok79 N _ hy) ?_
  refine sN K [0, 2, 7, 23, 24] [] ⟨[(0, .lf (.v (.sl Y23) a0)), (2, I a2), (7, I (wr (a1 + (1 : Int)))), (23, I y16), (24, I (0 : Int))], []⟩ (tn 1) ?_
  refine VW.block ?_
  refine lop (fun k s => ∃ (x20 : Int) (x21 : Int), s = ⟨[(0, .lf (.v (.sl Y23) a0)), (2, I a2), (7, I x20), (23, I y16), (24, I x21)], []⟩ ∧ F65_l0 N a0 a2 self y16 k x20 x21 = some r) N [.ren [0, 2, 7, 23, 24] []] ⟨(wr (a1 + (1 : Int))), (0 : Int), rfl, h⟩ ?_
  rintro k24 s ⟨x20, x21, rfl, h⟩
  cases k24 with
  | zero => cases show none = some r from h
  | succ k24 =>
   replace h : F65_l0_b N a0 a2 self y16 (F65_l0 N a0 a2 self y16 k24) x20 x21 = some r := h
   unfold F65_l0_b at h
   refine sR K [0, 2, 7, 23, 24, 25] [] ⟨[(0, .lf (.v (.sl Y23) a0)), (2, I a2), (7, I x20), (23, I y16), (24, I x21), (25, B (decide (x21 < y16)))], []⟩ (tn 1) ?_
   refine VW.seq ?_
   refine cnd h (fun h => ?_) (fun h => ?_)
   ·refine VW.skip ?_
    refine VW.seq ?_
    refine VW.block ?_
    refine VW.seq ?_
    refine VW.region ?_
    refine sG K 4 [0, 2, 23, 24, 26, 27, 29] [] ⟨[(0, .lf (.v (.sl Y23) a0)), (2, I a2), (23, I y16), (24, I x21), (26, .lf (.v (.sl Y23) a0)), (27, I x20), (29, I (wr (a2 + (1 : Int))))], []⟩ (tn 4) ?_
    obtain ⟨y26, hy, h⟩ := andO_some h
    refine cal false [.t (.sl Y23), .t (.int .i64), .t (.int .i64)] [] (some 30) K (ih _ _ _ _ hy) ?_
    refine sN K [0, 2, 7, 23, 24] [] ⟨[(0, .lf (.v (.sl Y23) a0)), (2, I a2), (7, I y26), (23, I y16), (24, I x21)], []⟩ (tn 1) ?_
    refine sR K [0, 2, 7, 23, 24, 32] [] ⟨[(0, .lf (.v (.sl Y23) a0)), (2, I a2), (7, I y26), (23, I y16), (24, I x21), (32, B (decide (y26 < (0 : Int))))], []⟩ (tn 2) ?_
    refine cnd h (fun h => ?_) (fun h => ?_)
    ·refine sR K [6] [] ⟨[(6, I (-1 : Int))], []⟩ (tn 1) ?_
     cases h; exact VW.ret (rt [])
    refine VW.skip ?_
    refine rR K [0, 2, 7, 23, 24] [] ⟨[(0, .lf (.v (.sl Y23) a0)), (2, I a2), (7, I y26), (23, I y16), (24, I (wr (x21 + (1 : Int))))], []⟩ (tn 2) ?_
    exact aro [.ren [0, 2, 7, 23, 24] []] ⟨y26, (wr (x21 + (1 : Int))), rfl, h⟩
   refine VW.exit ?_
   exact arv [.ren [7] []] ⟨x20, rfl, h⟩
 rintro s ⟨x13, rfl, h⟩
 unfold F65_j0 at h
 refine sR K [6] [] ⟨[(6, I x13)], []⟩ (tn 2) ?_
 cases h; exact VW.ret (rt [])
def F65_r (N : Nat) : Nat → (List (Int × (ByteArray × (Int × (Int × (Int × (Bool × (List Int)))))))) → Int → Int → Option (Int) := loopF (F65_b N) (fun _ _ _ => none)
theorem F65_s (N : Nat) {k : Nat} (hk : 0 < k) (a0 : (List (Int × (ByteArray × (Int × (Int × (Int × (Bool × (List Int))))))))) (a1 : Int) (a2 : Int) : F65_r N k a0 a1 a2 = F65_b N (F65_r N (k - 1)) a0 a1 a2 := by
 cases k with
 | zero => exact absurd hk (Nat.lt_irrefl 0)
 | succ m => rfl
def F65 (N : Nat) : (List (Int × (ByteArray × (Int × (Int × (Int × (Bool × (List Int)))))))) → Int → Int → Option (Int) := F65_r N N
theorem ok65_k (N : Nat) : ∀ (k : Nat) (a0 : (List (Int × (ByteArray × (Int × (Int × (Int × (Bool × (List Int))))))))) (a1 : Int) (a2 : Int) (r : Int), loopF (F65_b N) (fun _ _ _ => none) k a0 a1 a2 = some r → Con Go.Proofs.Tryd.prog 65 [.lf (.v (.sl Y23) a0), I a1, I a2] [.lf (.v (.int .i64) r)]
 | 0, a0, a1, a2, r, h => nomatch (show (none : Option (Int)) = some r from h)
 | k + 1, a0, a1, a2, r, h => ok65_b N _ (ok65_k N k) a0 a1 a2 h
theorem ok65 (N : Nat) (a0 : (List (Int × (ByteArray × (Int × (Int × (Int × (Bool × (List Int))))))))) (a1 : Int) (a2 : Int) {r : Int} (h : F65 N a0 a1 a2 = some r) : Con Go.Proofs.Tryd.prog 65 [.lf (.v (.sl Y23) a0), I a1, I a2] [.lf (.v (.int .i64) r)] := ok65_k N N a0 a1 a2 r h
def F39 (N : Nat) (a0 : (List (Int × (ByteArray × (Int × (Int × (Int × (Bool × (List Int))))))))) : Option (Bool) :=
  andO (F54 N (a0.length : Int) (1 : Int) (40 : Int)) fun y3 => cond (!y3) (some false) (andO (F63 N a0 (fun z0 => F64 N z0)) fun y4 => cond y4 (some false) (andO (F65 N a0 (0 : Int) (1 : Int)) fun y5 => some (y5 == (a0.length : Int))))
theorem ok39 (N : Nat) (a0 : (List (Int × (ByteArray × (Int × (Int × (Int × (Bool × (List Int))))))))) {r : Bool} (h : F39 N a0 = some r) : Con Go.Proofs.Tryd.prog 39 [.lf (.v (.sl Y23) a0)] [.lf (.v .bool r)] := by
 refine ctr [.lf (.v .bool)] K Go.Proofs.Tryd.func39 rfl fun w0 E0 ht => ?_
 unfold F39 at h
 show VW _ _ _ _ _ (retQ _ _ _ _) _
 refine sR K [0] [] ⟨[(0, .lf (.v (.sl Y23) a0))], []⟩ (tn 1) ?_
 refine VW.seq ?_
 refine VW.seq ?_
 refine VW.region ?_
 refine sG K 2 [0, 4] [] ⟨[(0, .lf (.v (.sl Y23) a0)), (4, I (a0.length : Int))], []⟩ (tn 2) ?_
 obtain ⟨y3, hy, h⟩ := andO_some h
 refine cal false [.t (.int .i64), .t (.int .i64), .t (.int .i64)] [] (some 5) K (ok54 N _ _ _ hy) ?_
 refine sG K 2 [0, 7] [] ⟨[(0, .lf (.v (.sl Y23) a0)), (7, B (!y3))], []⟩ (tn 2) ?_
 refine spB 7 h (fun h => ?_) (fun h => ?_)
 ·refine sN K [0, 10] [] ⟨[(0, .lf (.v (.sl Y23) a0)), (10, B true)], []⟩ (tn 3) ?_
  refine VW.cond (b := true) (by kernel_rfl) (fun _ => ?_) (fun h' => nomatch h')
  refine sR K [2] [] ⟨[(2, B false)], []⟩ (tn 1) ?_
  cases h; exact VW.ret (rt [])
 refine sG K 1 [0, 7, 8] [] ⟨[(0, .lf (.v (.sl Y23) a0)), (7, B false), (8, .lf (.v (.sl Y23) a0))], []⟩ (tn 1) ?_
 refine VO.on (j := 4) (want := false) (d := 7) (b := false) rfl rfl rfl (by kernel_rfl) rfl ?_
 obtain ⟨y4, hy, h⟩ := andO_some h
 refine cal false [.t (.sl Y23), .clo []] [] (some 9) K (ok63 N _ 64  (fun z0 => F64 N z0 ) (fun z0 _ hz => ok64 N z0 hz) hy) ?_
 refine sN K [0, 10] [] ⟨[(0, .lf (.v (.sl Y23) a0)), (10, B y4)], []⟩ (tn 1) ?_
 refine cnd h (fun h => ?_) (fun h => ?_)
 ·refine sR K [2] [] ⟨[(2, B false)], []⟩ (tn 1) ?_
  cases h; exact VW.ret (rt [])
 refine VW.skip ?_
 refine VW.seq ?_
 refine VW.region ?_
 refine sG K 1 [0, 11] [] ⟨[(0, .lf (.v (.sl Y23) a0)), (11, .lf (.v (.sl Y23) a0))], []⟩ (tn 1) ?_
 obtain ⟨y5, hy, h⟩ := andO_some h
 refine cal false [.t (.sl Y23), .t (.int .i64), .t (.int .i64)] [] (some 12) K (ok65 N _ _ _ hy) ?_
 refine sN K [2] [] ⟨[(2, B (y5 == (a0.length : Int)))], []⟩ (tn 4) ?_
 cases h; exact VW.ret (rt [])
def F16_j0 (N : Nat) : Option (Bool) :=
  some true
def F16_l0_b (N : Nat) (a0 : (List (Int × (ByteArray × (Int × (Int × (Int × (Bool × (List Int))))))))) (a1 : (List (Int × (ByteArray × (Int × (Int × (Int × (Bool × (List Int))))))))) (nx35 : Int → Option (Bool)) (x28 : Int) : Option (Bool) :=
  cond (decide (x28 < (a0.length : Int))) (gd (InR x28 a0.length) (gd (InR x28 a1.length) (andO (F11 N (a0.getD x28.toNat (Ty.dflt Y23)) (a1.getD x28.toNat (Ty.dflt Y23))) fun y41 => cond (!y41) (some false) (nx35 (IntKind.i64.wrap (x28 + (1 : Int))))))) (F16_j0 N)
def F16_l0 (N : Nat) (a0 : (List (Int × (ByteArray × (Int × (Int × (Int × (Bool × (List Int))))))))) (a1 : (List (Int × (ByteArray × (Int × (Int × (Int × (Bool × (List Int))))))))) : Nat → Int → Option (Bool) := loopF (F16_l0_b N a0 a1) (fun _ => none)
theorem F16_l0_s (N : Nat) (a0 : (List (Int × (ByteArray × (Int × (Int × (Int × (Bool × (List Int))))))))) (a1 : (List (Int × (ByteArray × (Int × (Int × (Int × (Bool × (List Int))))))))) {k : Nat} (hk : 0 < k) (x28 : Int) : F16_l0 N a0 a1 k x28 = F16_l0_b N a0 a1 (F16_l0 N a0 a1 (k - 1)) x28 := by
 cases k with
 | zero => exact absurd hk (Nat.lt_irrefl 0)
 | succ m => rfl
def F16 (N : Nat) (a0 : (List (Int × (ByteArray × (Int × (Int × (Int × (Bool × (List Int))))))))) (a1 : (List (Int × (ByteArray × (Int × (Int × (Int × (Bool × (List Int))))))))) : Option (Bool) :=
  cond ((a0.length : Int) != (a1.length : Int)) (some false) (F16_l0 N a0 a1 N (0 : Int))
theorem ok16 (N : Nat) (a0 : (List (Int × (ByteArray × (Int × (Int × (Int × (Bool × (List Int))))))))) (a1 : (List (Int × (ByteArray × (Int × (Int × (Int × (Bool × (List Int))))))))) {r : Bool} (h : F16 N a0 a1 = some r) : Con Go.Proofs.Tryd.prog 16 [.lf (.v (.sl Y23) a0), .lf (.v (.sl Y23) a1)] [.lf (.v .bool r)] := by
 refine ctr [.lf (.v .bool)] K Go.Proofs.Tryd.func16 rfl fun w0 E0 ht => ?_
 unfold F16 at h
 show VW _ _ _ _ _ (retQ _ _ _ _) _
 refine sR K [0, 1] [] ⟨[(0, .lf (.v (.sl Y23) a0)), (1, .lf (.v (.sl Y23) a1))], []⟩ (tn 1) ?_
 refine VW.seq ?_
 refine sR K [0, 1, 10] [] ⟨[(0, .lf (.v (.sl Y23) a0)), (1, .lf (.v (.sl Y23) a1)), (10, B ((a0.length : Int) != (a1.length : Int)))], []⟩ (tn 5) ?_
 refine cnd h (fun h => ?_) (fun h => ?_)
 ·refine sR K [4] [] ⟨[(4, B false)], []⟩ (tn 1) ?_
  cases h; exact VW.ret (rt [])
 refine VW.skip ?_
 refine VW.join (fun s => s = ⟨[], []⟩ ∧ F16_j0 N = some r) ?_ ?_
 ·refine sR K [0, 1, 5] [] ⟨[(0, .lf (.v (.sl Y23) a0)), (1, .lf (.v (.sl Y23) a1)), (5, I (0 : Int))], []⟩ (tn 1) ?_
  refine VW.block ?_
  refine lop (fun k s => ∃ (x28 : Int), s = ⟨[(0, .lf (.v (.sl Y23) a0)), (1, .lf (.v (.sl Y23) a1)), (5, I x28)], []⟩ ∧ F16_l0 N a0 a1 k x28 = some r) N [.ren [0, 1, 5] []] ⟨(0 : Int), rfl, h⟩ ?_
  rintro k35 s ⟨x28, rfl, h⟩
  cases k35 with
  | zero => cases show none = some r from h
  | succ k35 =>
   replace h : F16_l0_b N a0 a1 (F16_l0 N a0 a1 k35) x28 = some r := h
   unfold F16_l0_b at h
   refine VW.seq ?_
   refine sR K [0, 1, 5, 14] [] ⟨[(0, .lf (.v (.sl Y23) a0)), (1, .lf (.v (.sl Y23) a1)), (5, I x28), (14, B (decide (x28 < (a0.length : Int))))], []⟩ (tn 4) ?_
   refine cnd h (fun h => ?_) (fun h => ?_)
   ·refine VW.skip ?_
    refine VW.seq ?_
    refine VW.block ?_
    refine VW.seq ?_
    obtain ⟨g39, h⟩ := gd_some h
    obtain ⟨g40, h⟩ := gd_some h
    obtain ⟨y41, hy41, h⟩ := andO_some h
    refine VW.drawn (by kernel_rfl) [some (17, .lf (.v (.sl Y23) a0)), some (18, I x28), some (19, .lf (.fp Y23 (a0.getD x28.toNat D23) 0)), some (20, .agg (lv Y23 (a0.getD x28.toNat D23))), some (21, .lf (.v (.sl Y23) a1)), some (22, I x28), some (23, .lf (.fp Y23 (a1.getD x28.toNat D23) 0)), some (24, .agg (lv Y23 (a1.getD x28.toNat D23))), some (25, B y41), some (26, B (!y41))] [] [[]] [(0, 0), (1, 0), (2, 0), (3, 0), (4, 0), (5, 0), (6, 0), (7, 0), (8, 0), (9, 0)] [0, 1, 5, 26] [] (s' := ⟨[(0, .lf (.v (.sl Y23) a0)), (1, .lf (.v (.sl Y23) a1)), (5, I x28), (26, B (!y41))], []⟩) (by kernel_rfl) (by kernel_rfl) ⟨qT K,
    qT K,
    ⟨_, rfl, Stp.ev K (m := .dp) (φ := InR x28 a0.length) (by kernel_rfl) g39⟩,
    qT K,
    qT K,
    qT K,
    ⟨_, rfl, Stp.ev K (m := .dp) (φ := InR x28 a1.length) (by kernel_rfl) g40⟩,
    qT K,
    ⟨_, rfl, Stp.eq (Stp.call false [.t Y23, .t Y23] [] K (d := some 25) (by kernel_rfl) (ok11 N _ _ hy41) rfl) (by kernel_rfl) (by kernel_rfl)⟩,
    qT K, trivial⟩ (by kernel_rfl) ?_
    refine cnd h (fun h => ?_) (fun h => ?_)
    ·refine sR K [4] [] ⟨[(4, B false)], []⟩ (tn 1) ?_
     cases h; exact VW.ret (rt [])
    refine VW.skip ?_
    refine rR K [0, 1, 5] [] ⟨[(0, .lf (.v (.sl Y23) a0)), (1, .lf (.v (.sl Y23) a1)), (5, I (wr (x28 + (1 : Int))))], []⟩ (tn 3) ?_
    exact aro [.ren [0, 1, 5] []] ⟨(wr (x28 + (1 : Int))), rfl, h⟩
   refine VW.exit ?_
   exact arv [.ren [] []] ⟨rfl, h⟩
 rintro s ⟨rfl, h⟩
 unfold F16_j0 at h
 refine sR K [4] [] ⟨[(4, B true)], []⟩ (tn 1) ?_
 cases h; exact VW.ret (rt [])
def F40_j0 (N : Nat) (x16 : Int) : Option (Int) :=
  some x16
def F40_j1 (N : Nat) (nx28 : Int → Int → Option (Int)) (x23 : Int) (x30 : Int) : Option (Int) :=
  nx28 x30 (IntKind.i64.wrap (x23 + (1 : Int)))
def F40_l0_b (N : Nat) (a0 : (List (Int × (ByteArray × (Int × (Int × (Int × (Bool × (List Int))))))))) (a1 : Int) (nx28 : Int → Int → Option (Int)) (x22 : Int) (x23 : Int) : Option (Int) :=
  cond (decide (x23 < a1)) (andO (F62 N a0 x23 (10 : Int)) fun y32 => cond (decide (y32.1 > a1)) (F40_j1 N nx28 x23 (IntKind.i64.wrap (x22 + (1 : Int)))) (F40_j1 N nx28 x23 x22)) (F40_j0 N x22)
def F40_l0 (N : Nat) (a0 : (List (Int × (ByteArray × (Int × (Int × (Int × (Bool × (List Int))))))))) (a1 : Int) : Nat → Int → Int → Option (Int) := loopF (F40_l0_b N a0 a1) (fun _ _ => none)
theorem F40_l0_s (N : Nat) (a0 : (List (Int × (ByteArray × (Int × (Int × (Int × (Bool × (List Int))))))))) (a1 : Int) {k : Nat} (hk : 0 < k) (x22 : Int) (x23 : Int) : F40_l0 N a0 a1 k x22 x23 = F40_l0_b N a0 a1 (F40_l0 N a0 a1 (k - 1)) x22 x23 := by
 cases k with
 | zero => exact absurd hk (Nat.lt_irrefl 0)
 | succ m => rfl
def F40 (N : Nat) (a0 : (List (Int × (ByteArray × (Int × (Int × (Int × (Bool × (List Int))))))))) (a1 : Int) : Option (Int) :=
  F40_l0 N a0 a1 N (0 : Int) (0 : Int)
theorem ok40 (N : Nat) (a0 : (List (Int × (ByteArray × (Int × (Int × (Int × (Bool × (List Int))))))))) (a1 : Int) {r : Int} (h : F40 N a0 a1 = some r) : Con Go.Proofs.Tryd.prog 40 [.lf (.v (.sl Y23) a0), I a1] [.lf (.v (.int .i64) r)] := by
 refine ctr [.lf (.v (.int .i64))] K Go.Proofs.Tryd.func40 rfl fun w0 E0 ht => ?_
 unfold F40 at h
 show VW _ _ _ _ _ (retQ _ _ _ _) _
 refine sR K [0, 1] [] ⟨[(0, .lf (.v (.sl Y23) a0)), (1, I a1)], []⟩ (tn 1) ?_
 refine sR K [0, 1, 5] [] ⟨[(0, .lf (.v (.sl Y23) a0)), (1, I a1), (5, I (0 : Int))], []⟩ (tn 1) ?_
 refine VW.join (fun s => ∃ (x16 : Int), s = ⟨[(5, I x16)], []⟩ ∧ F40_j0 N x16 = some r) ?_ ?_
 ·refine sR K [0, 1, 5, 6] [] ⟨[(0, .lf (.v (.sl Y23) a0)), (1, I a1), (5, I (0 : Int)), (6, I (0 : Int))], []⟩ (tn 1) ?_
  refine VW.block ?_
  refine lop (fun k s => ∃ (x22 : Int) (x23 : Int), s = ⟨[(0, .lf (.v (.sl Y23) a0)), (1, I a1), (5, I x22), (6, I x23)], []⟩ ∧ F40_l0 N a0 a1 k x22 x23 = some r) N [.ren [0, 1, 5, 6] []] ⟨(0 : Int), (0 : Int), rfl, h⟩ ?_
  rintro k28 s ⟨x22, x23, rfl, h⟩
  cases k28 with
  | zero => cases show none = some r from h
  | succ k28 =>
   replace h : F40_l0_b N a0 a1 (F40_l0 N a0 a1 k28) x22 x23 = some r := h
   unfold F40_l0_b at h
   refine VW.seq ?_
   refine sR K [0, 1, 5, 6, 11] [] ⟨[(0, .lf (.v (.sl Y23) a0)), (1, I a1), (5, I x22), (6, I x23), (11, B (decide (x23 < a1)))], []⟩ (tn 3) ?_
   refine cnd h (fun h => ?_) (fun h => ?_)
   ·refine VW.skip ?_
    refine VW.join (fun s => ∃ (x30 : Int), s = ⟨[(0, .lf (.v (.sl Y23) a0)), (1, I a1), (5, I x30), (6, I x23)], []⟩ ∧ F40_j1 N (F40_l0 N a0 a1 k28) x23 x30 = some r) ?_ ?_
    ·refine VW.block ?_
     refine VW.seq ?_
     refine VW.region ?_
     refine sG K 2 [0, 1, 5, 6, 15, 16] [] ⟨[(0, .lf (.v (.sl Y23) a0)), (1, I a1), (5, I x22), (6, I x23), (15, .lf (.v (.sl Y23) a0)), (16, I x23)], []⟩ (tn 2) ?_
     obtain ⟨y32, hy, h⟩ := andO_some h
     refine cal false [.t (.sl Y23), .t (.int .i64), .t (.int .i64)] [] (some 17) K (ok62 N _ _ _ hy) ?_
     refine sN K [0, 1, 5, 6, 7] [] ⟨[(0, .lf (.v (.sl Y23) a0)), (1, I a1), (5, I x22), (6, I x23), (7, I y32.1)], []⟩ (tn 5) ?_
     refine sR K [0, 1, 5, 6, 22] [] ⟨[(0, .lf (.v (.sl Y23) a0)), (1, I a1), (5, I x22), (6, I x23), (22, B (decide (y32.1 > a1)))], []⟩ (tn 3) ?_
     refine cnd h (fun h => ?_) (fun h => ?_)
     ·refine rR K [0, 1, 5, 6] [] ⟨[(0, .lf (.v (.sl Y23) a0)), (1, I a1), (5, I (wr (x22 + (1 : Int)))), (6, I x23)], []⟩ (tn 3) ?_
      exact arv [.ren [0, 1, 5, 6] []] ⟨(wr (x22 + (1 : Int))), rfl, h⟩
     refine VW.skip ?_
     exact arv [.ren [0, 1, 5, 6] []] ⟨x22, rfl, h⟩
    rintro s ⟨x30, rfl, h⟩
    unfold F40_j1 at h
    refine rR K [0, 1, 5, 6] [] ⟨[(0, .lf (.v (.sl Y23) a0)), (1, I a1), (5, I x30), (6, I (wr (x23 + (1 : Int))))], []⟩ (tn 3) ?_
    exact aro [.ren [0, 1, 5, 6] []] ⟨x30, (wr (x23 + (1 : Int))), rfl, h⟩
   refine VW.exit ?_
   exact arv [.ren [5] []] ⟨x22, rfl, h⟩
 rintro s ⟨x16, rfl, h⟩
 unfold F40_j0 at h
 refine sR K [4] [] ⟨[(4, I x16)], []⟩ (tn 2) ?_
 cases h; exact VW.ret (rt [])
end Go.Proofs.YtfegppjofphpfaaDoor.Vc
namespace Go.Proofs.YtfegppjofphpfaaDoor.Vc
open Go Go.RowKit
set_option linter.unusedVariables false
set_option maxRecDepth 100000
set_option maxHeartbeats 4000000
def F17_j0 (N : Nat) (x168 : ByteArray) : Option (ByteArray) :=
  some x168
def F17_j1 (N : Nat) (nx280 : ByteArray → Int → Option (ByteArray)) (x225 : Int) (x307 : ByteArray) : Option (ByteArray) :=
  nx280 x307 (IntKind.i64.wrap (x225 + (1 : Int)))
def F17_j2 (N : Nat) (a0 : (List (Int × (ByteArray × (Int × (Int × (Int × (Bool × (List Int))))))))) (nx280 : ByteArray → Int → Option (ByteArray)) (x225 : Int) (x319 : ByteArray) : Option (ByteArray) :=
  gd (InR x225 a0.length) (andO (F8 N (a0.getD x225.toNat (Ty.dflt Y23))) fun y321 => gd (x319.size + y321.size ≤ 9223372036854775807) (gd ((x319 ++ y321).size + (⟨#[10]⟩ : ByteArray).size ≤ 9223372036854775807) (F17_j1 N nx280 x225 ((x319 ++ y321) ++ (⟨#[10]⟩ : ByteArray)))))
def F17_l0_b (N : Nat) (a0 : (List (Int × (ByteArray × (Int × (Int × (Int × (Bool × (List Int))))))))) (nx280 : ByteArray → Int → Option (ByteArray)) (x225 : Int) (nx332 : ByteArray → Int → Option (ByteArray)) (x328 : ByteArray) (x329 : Int) : Option (ByteArray) :=
  cond (decide (x329 > (0 : Int))) (gd (x328.size + (⟨#[32, 32]⟩ : ByteArray).size ≤ 9223372036854775807) (nx332 (x328 ++ (⟨#[32, 32]⟩ : ByteArray)) (IntKind.i64.wrap (x329 - (1 : Int))))) (F17_j2 N a0 nx280 x225 x328)
def F17_l0 (N : Nat) (a0 : (List (Int × (ByteArray × (Int × (Int × (Int × (Bool × (List Int))))))))) (nx280 : ByteArray → Int → Option (ByteArray)) (x225 : Int) : Nat → ByteArray → Int → Option (ByteArray) := loopF (F17_l0_b N a0 nx280 x225) (fun _ _ => none)
theorem F17_l0_s (N : Nat) (a0 : (List (Int × (ByteArray × (Int × (Int × (Int × (Bool × (List Int))))))))) (nx280 : ByteArray → Int → Option (ByteArray)) (x225 : Int) {k : Nat} (hk : 0 < k) (x328 : ByteArray) (x329 : Int) : F17_l0 N a0 nx280 x225 k x328 x329 = F17_l0_b N a0 nx280 x225 (F17_l0 N a0 nx280 x225 (k - 1)) x328 x329 := by
 cases k with
 | zero => exact absurd hk (Nat.lt_irrefl 0)
 | succ m => rfl
def F17_l1_b (N : Nat) (a0 : (List (Int × (ByteArray × (Int × (Int × (Int × (Bool × (List Int))))))))) (nx280 : ByteArray → Int → Option (ByteArray)) (x224 : ByteArray) (x225 : Int) : Option (ByteArray) :=
  cond (decide (x225 < (a0.length : Int))) (andO (F40 N a0 x225) fun y325 => F17_l0 N a0 nx280 x225 N x224 y325) (F17_j0 N x224)
def F17_l1 (N : Nat) (a0 : (List (Int × (ByteArray × (Int × (Int × (Int × (Bool × (List Int))))))))) : Nat → ByteArray → Int → Option (ByteArray) := loopF (F17_l1_b N a0) (fun _ _ => none)
theorem F17_l1_s (N : Nat) (a0 : (List (Int × (ByteArray × (Int × (Int × (Int × (Bool × (List Int))))))))) {k : Nat} (hk : 0 < k) (x224 : ByteArray) (x225 : Int) : F17_l1 N a0 k x224 x225 = F17_l1_b N a0 (F17_l1 N a0 (k - 1)) x224 x225 := by
 cases k with
 | zero => exact absurd hk (Nat.lt_irrefl 0)
 | succ m => rfl
def F17 (N : Nat) (a0 : (List (Int × (ByteArray × (Int × (Int × (Int × (Bool × (List Int))))))))) : Option (ByteArray) :=
  andO (F38 N a0) fun y2 => cond (!y2) (some ByteArray.empty) (F17_l1 N a0 N ByteArray.empty (0 : Int))
theorem ok17 (N : Nat) (a0 : (List (Int × (ByteArray × (Int × (Int × (Int × (Bool × (List Int))))))))) {r : ByteArray} (h : F17 N a0 = some r) : Con Go.Proofs.Tryd.prog 17 [.lf (.v (.sl Y23) a0)] [.lf (.v .str r)] := by
 refine ctr [.lf (.v .str)] K Go.Proofs.Tryd.func17 rfl fun w0 E0 ht => ?_
 unfold F17 at h
 show VW _ _ _ _ _ (retQ _ _ _ _) _
 refine sR K [0] [] ⟨[(0, .lf (.v (.sl Y23) a0))], []⟩ (tn 1) ?_
 refine sR K [0, 3] [] ⟨[(0, .lf (.v (.sl Y23) a0)), (3, S ByteArray.empty)], []⟩ (tn 1) ?_
 refine VW.seq ?_
 refine VW.seq ?_
 refine VW.region ?_
 refine sG K 1 [0, 3, 6] [] ⟨[(0, .lf (.v (.sl Y23) a0)), (3, S ByteArray.empty), (6, .lf (.v (.sl Y23) a0))], []⟩ (tn 1) ?_
 obtain ⟨y2, hy, h⟩ := andO_some h
 refine cal false [.t (.sl Y23)] [] (some 7) K (ok38 N _ hy) ?_
 refine sN K [0, 3, 8] [] ⟨[(0, .lf (.v (.sl Y23) a0)), (3, S ByteArray.empty), (8, B (!y2))], []⟩ (tn 1) ?_
 refine cnd h (fun h => ?_) (fun h => ?_)
 ·refine sR K [2] [] ⟨[(2, S ByteArray.empty)], []⟩ (tn 1) ?_
  cases h; exact VW.ret (rt [])
 refine VW.skip ?_
 refine VW.join (fun s => ∃ (x168 : ByteArray), s = ⟨[(3, S x168)], []⟩ ∧ F17_j0 N x168 = some r) ?_ ?_
 ·refine sR K [0, 3, 4] [] ⟨[(0, .lf (.v (.sl Y23) a0)), (3, S ByteArray.empty), (4, I (0 : Int))], []⟩ (tn 1) ?_
  refine VW.block ?_
  refine lop (fun k s => ∃ (x224 : ByteArray) (x225 : Int), s = ⟨[(0, .lf (.v (.sl Y23) a0)), (3, S x224), (4, I x225)], []⟩ ∧ F17_l1 N a0 k x224 x225 = some r) N [.ren [0, 3, 4] []] ⟨ByteArray.empty, (0 : Int), rfl, h⟩ ?_
  rintro k280 s ⟨x224, x225, rfl, h⟩
  cases k280 with
  | zero => cases show none = some r from h
  | succ k280 =>
   replace h : F17_l1_b N a0 (F17_l1 N a0 k280) x224 x225 = some r := h
   unfold F17_l1_b at h
   refine VW.seq ?_
   refine sR K [0, 3, 4, 12] [] ⟨[(0, .lf (.v (.sl Y23) a0)), (3, S x224), (4, I x225), (12, B (decide (x225 < (a0.length : Int))))], []⟩ (tn 4) ?_
   refine cnd h (fun h => ?_) (fun h => ?_)
   ·refine VW.skip ?_
    refine VW.join (fun s => ∃ (x307 : ByteArray), s = ⟨[(0, .lf (.v (.sl Y23) a0)), (3, S x307), (4, I x225)], []⟩ ∧ F17_j1 N (F17_l1 N a0 k280) x225 x307 = some r) ?_ ?_
    ·refine VW.block ?_
     refine VW.join (fun s => ∃ (x319 : ByteArray), s = ⟨[(0, .lf (.v (.sl Y23) a0)), (3, S x319), (4, I x225)], []⟩ ∧ F17_j2 N a0 (F17_l1 N a0 k280) x225 x319 = some r) ?_ ?_
     ·refine VW.seq ?_
      refine VW.region ?_
      refine sG K 2 [0, 3, 4, 15, 16] [] ⟨[(0, .lf (.v (.sl Y23) a0)), (3, S x224), (4, I x225), (15, .lf (.v (.sl Y23) a0)), (16, I x225)], []⟩ (tn 2) ?_
      obtain ⟨y325, hy, h⟩ := andO_some h
      refine cal false [.t (.sl Y23), .t (.int .i64)] [] (some 17) K (ok40 N _ _ hy) ?_
      refine sN K [0, 3, 4, 5] [] ⟨[(0, .lf (.v (.sl Y23) a0)), (3, S x224), (4, I x225), (5, I y325)], []⟩ (tn 1) ?_
      refine VW.block ?_
      refine lop (fun k s => ∃ (x328 : ByteArray) (x329 : Int), s = ⟨[(0, .lf (.v (.sl Y23) a0)), (3, S x328), (4, I x225), (5, I x329)], []⟩ ∧ F17_l0 N a0 (F17_l1 N a0 k280) x225 k x328 x329 = some r) N [.ren [0, 3, 4, 5] []] ⟨x224, y325, rfl, h⟩ ?_
      rintro k332 s ⟨x328, x329, rfl, h⟩
      cases k332 with
      | zero => cases show none = some r from h
      | succ k332 =>
       replace h : F17_l0_b N a0 (F17_l1 N a0 k280) x225 (F17_l0 N a0 (F17_l1 N a0 k280) x225 k332) x328 x329 = some r := h
       unfold F17_l0_b at h
       refine VW.seq ?_
       refine sR K [0, 3, 4, 5, 19] [] ⟨[(0, .lf (.v (.sl Y23) a0)), (3, S x328), (4, I x225), (5, I x329), (19, B (decide (x329 > (0 : Int))))], []⟩ (tn 2) ?_
       refine cnd h (fun h => ?_) (fun h => ?_)
       ·refine VW.skip ?_
        refine VW.seq ?_
        refine VW.block ?_
        obtain ⟨g334, h⟩ := gd_some h
        refine rR K [0, 3, 4, 5] [] ⟨[(0, .lf (.v (.sl Y23) a0)), (3, S (x328 ++ (⟨#[32, 32]⟩ : ByteArray))), (4, I x225), (5, I x329)], []⟩ (pu 1 (an g334 (tn 1))) ?_
        refine rR K [0, 3, 4, 5] [] ⟨[(0, .lf (.v (.sl Y23) a0)), (3, S (x328 ++ (⟨#[32, 32]⟩ : ByteArray))), (4, I x225), (5, I (wr (x329 - (1 : Int))))], []⟩ (tn 3) ?_
        exact aro [.ren [0, 3, 4, 5] []] ⟨(x328 ++ (⟨#[32, 32]⟩ : ByteArray)), (wr (x329 - (1 : Int))), rfl, h⟩
       refine VW.exit ?_
       exact arv [.ren [0, 3, 4] []] ⟨x328, rfl, h⟩
     rintro s ⟨x319, rfl, h⟩
     unfold F17_j2 at h
     refine VW.region ?_
     obtain ⟨g320, h⟩ := gd_some h
     refine sG K 5 [0, 4, 24, 28] [] ⟨[(0, .lf (.v (.sl Y23) a0)), (4, I x225), (24, S x319), (28, .agg (lv Y23 (a0.getD x225.toNat D23)))], []⟩ (pu 3 (an g320 (tn 1))) ?_
     obtain ⟨y321, hy, h⟩ := andO_some h
     refine cal false [.t Y23] [] (some 29) K (ok8 N _ hy) ?_
     obtain ⟨g322, h⟩ := gd_some h
     obtain ⟨g323, h⟩ := gd_some h
     refine sN K [0, 3, 4] [] ⟨[(0, .lf (.v (.sl Y23) a0)), (3, S ((x319 ++ y321) ++ (⟨#[10]⟩ : ByteArray))), (4, I x225)], []⟩ (an g322 (an g323 (tn 1))) ?_
     exact arv [.ren [0, 3, 4] []] ⟨((x319 ++ y321) ++ (⟨#[10]⟩ : ByteArray)), rfl, h⟩
    rintro s ⟨x307, rfl, h⟩
    unfold F17_j1 at h
    refine rR K [0, 3, 4] [] ⟨[(0, .lf (.v (.sl Y23) a0)), (3, S x307), (4, I (wr (x225 + (1 : Int))))], []⟩ (tn 3) ?_
    exact aro [.ren [0, 3, 4] []] ⟨x307, (wr (x225 + (1 : Int))), rfl, h⟩
   refine VW.exit ?_
   exact arv [.ren [3] []] ⟨x224, rfl, h⟩
 rintro s ⟨x168, rfl, h⟩
 unfold F17_j0 at h
 refine sR K [2] [] ⟨[(2, S x168)], []⟩ (tn 2) ?_
 cases h; exact VW.ret (rt [])
def F66 (N : Nat) (a0 : ByteArray) (a1 : Int) : Option (ByteArray) :=
  gd (0 ≤ a1 ∧ a1 ≤ 9223372036854775807 ∧ a0.size * a1.toNat ≤ 140737488355328) (some ⟨(Lib.repeatL a0.data.toList a1.toNat).toArray⟩)
theorem ok66 (N : Nat) (a0 : ByteArray) (a1 : Int) {r : ByteArray} (h : F66 N a0 a1 = some r) : Con Go.Proofs.Tryd.prog 66 [S a0, I a1] [.lf (.v .str r)] := by
 obtain ⟨g, h⟩ := gd_some h
 cases h
 refine con_repeat (enters_of Go.Proofs.Tryd.func66 rfl (by decide)) (fun w => ?_)
 have hw := Go.Proofs.Tryd.strings_Repeat a0 a1.toNat w (by omega) g.2.2
 rw [Int.toNat_of_nonneg g.1] at hw
 exact hw
def F67_j0 (N : Nat) (x20 : (List Int)) : Option ((List Int)) :=
  some x20
def F67_l0_b (N : Nat) (a0 : (List (Int × (ByteArray × (Int × (Int × (Int × (Bool × (List Int))))))))) (y23 : Int) (nx36 : (List Int) → Int → Int → Option ((List Int))) (x29 : (List Int)) (x30 : Int) (x31 : Int) : Option ((List Int)) :=
  cond (decide (x31 < y23)) (gd (x29.length + ([x30]).length ≤ lim (.int .i64)) (andO (F65 N a0 x30 (1 : Int)) fun y40 => nx36 (x29 ++ ([x30])) y40 (IntKind.i64.wrap (x31 + (1 : Int))))) (F67_j0 N x29)
def F67_l0 (N : Nat) (a0 : (List (Int × (ByteArray × (Int × (Int × (Int × (Bool × (List Int))))))))) (y23 : Int) : Nat → (List Int) → Int → Int → Option ((List Int)) := loopF (F67_l0_b N a0 y23) (fun _ _ _ => none)
theorem F67_l0_s (N : Nat) (a0 : (List (Int × (ByteArray × (Int × (Int × (Int × (Bool × (List Int))))))))) (y23 : Int) {k : Nat} (hk : 0 < k) (x29 : (List Int)) (x30 : Int) (x31 : Int) : F67_l0 N a0 y23 k x29 x30 x31 = F67_l0_b N a0 y23 (F67_l0 N a0 y23 (k - 1)) x29 x30 x31 := by
 cases k with
 | zero => exact absurd hk (Nat.lt_irrefl 0)
 | succ m => rfl
def F67 (N : Nat) (a0 : (List (Int × (ByteArray × (Int × (Int × (Int × (Bool × (List Int))))))))) (a1 : Int) : Option ((List Int)) :=
  gd (InR a1 a0.length) (andO (F79 N ((a0.getD a1.toNat (Ty.dflt Y23)).1)) fun y23 => F67_l0 N a0 y23 N ([]) (IntKind.i64.wrap (a1 + (1 : Int))) (0 : Int))
theorem ok67 (N : Nat) (a0 : (List (Int × (ByteArray × (Int × (Int × (Int × (Bool × (List Int))))))))) (a1 : Int) {r : (List Int)} (h : F67 N a0 a1 = some r) : Con Go.Proofs.Tryd.prog 67 [.lf (.v (.sl Y23) a0), I a1] [.lf (.own (.int .i64) r .dp)] := by
 refine ctr [.lf (.own (.int .i64) .dp)] K Go.Proofs.Tryd.func67 rfl fun w0 E0 ht => ?_
 unfold F67 at h
 show VW _ _ _ _ _ (retQ _ _ _ _) _
 refine sR K [0, 1] [] ⟨[(0, .lf (.v (.sl Y23) a0)), (1, I a1)], []⟩ (tn 1) ?_
 refine sR K [0, 1, 5] [] ⟨[(0, .lf (.v (.sl Y23) a0)), (1, I a1), (5, .lf (.nil))], []⟩ (tn 1) ?_
 refine sR K [0, 1, 5, 6] [] ⟨[(0, .lf (.v (.sl Y23) a0)), (1, I a1), (5, .lf (.nil)), (6, I (wr (a1 + (1 : Int))))], []⟩ (tn 3) ?_
 refine VW.join (fun s => ∃ (x20 : (List Int)), s = ⟨[(5, .lf (.hd 0 0 none))], [ar 0 (.int .i64) x20 .dp]⟩ ∧ F67_j0 N x20 = some r) ?_ ?_
 ·refine VW.seq ?_
  refine VW.region ?_
  obtain ⟨g22, h⟩ := gd_some h
  refine sG K 5 [0, 5, 6, 13] [] ⟨[(0, .lf (.v (.sl Y23) a0)), (5, .lf (.nil)), (6, I (wr (a1 + (1 : Int)))), (13, I ((a0.getD a1.toNat D23).1))], []⟩ (pu 2 (an g22 (tn 2))) ?_
  obtain ⟨y23, hy, h⟩ := andO_some h
  refine cal false [.t (.int .i64)] [] (some 14) K (ok79 N _ hy) ?_
  refine sN K [0, 5, 6, 14, 15] [] ⟨[(0, .lf (.v (.sl Y23) a0)), (5, .lf (.nil)), (6, I (wr (a1 + (1 : Int)))), (14, I y23), (15, I (0 : Int))], []⟩ (tn 1) ?_
  refine VW.block ?_
  refine lop (fun k s => ∃ (x29 : (List Int)) (x30 : Int) (x31 : Int), s = ⟨[(0, .lf (.v (.sl Y23) a0)), (5, .lf (.hd 0 0 none)), (6, I x30), (14, I y23), (15, I x31)], [ar 0 (.int .i64) x29 .dp]⟩ ∧ F67_l0 N a0 y23 k x29 x30 x31 = some r) N [.nilS 5 (.int .i64) .dp, .ren [0, 5, 6, 14, 15] [0]] ⟨[], (wr (a1 + (1 : Int))), (0 : Int), rfl, h⟩ ?_
  rintro k36 s ⟨x29, x30, x31, rfl, h⟩
  cases k36 with
  | zero => cases show none = some r from h
  | succ k36 =>
   replace h : F67_l0_b N a0 y23 (F67_l0 N a0 y23 k36) x29 x30 x31 = some r := h
   unfold F67_l0_b at h
   refine sRh K [0, 5, 6, 14, 15, 16] [0] [(0, .lf (.v (.sl Y23) a0)), (5, .lf (.hd 0 0 none)), (6, I x30), (14, I y23), (15, I x31), (16, B (decide (x31 < y23)))] (tn 1) ?_
   refine VW.seq ?_
   refine cnd h (fun h => ?_) (fun h => ?_)
   ·refine VW.skip ?_
    refine VW.seq ?_
    refine VW.block ?_
    obtain ⟨g39, h⟩ := gd_some h
    refine sR K [0, 5, 6, 14, 15] [0] ⟨[(0, .lf (.v (.sl Y23) a0)), (5, .lf (.hd 0 0 none)), (6, I x30), (14, I y23), (15, I x31)], [ar 0 (.int .i64) (x29 ++ ([x30])) .dp]⟩ (pu 3 (an g39 (tn 1))) ?_
    refine VW.region ?_
    refine sGh K 2 [0, 5, 14, 15, 21, 22] [0] [(0, .lf (.v (.sl Y23) a0)), (5, .lf (.hd 0 0 none)), (14, I y23), (15, I x31), (21, .lf (.v (.sl Y23) a0)), (22, I x30)] (tn 2) ?_
    obtain ⟨y40, hy, h⟩ := andO_some h
    refine cal false [.t (.sl Y23), .t (.int .i64), .t (.int .i64)] [] (some 23) K (ok65 N _ _ _ hy) ?_
    refine sNh K [0, 5, 6, 14, 15] [0] [(0, .lf (.v (.sl Y23) a0)), (5, .lf (.hd 0 0 none)), (6, I y40), (14, I y23), (15, I x31)] (tn 1) ?_
    refine rRh K [0, 5, 6, 14, 15] [0] [(0, .lf (.v (.sl Y23) a0)), (5, .lf (.hd 0 0 none)), (6, I y40), (14, I y23), (15, I (wr (x31 + (1 : Int))))] (tn 2) ?_
    exact aro [.ren [0, 5, 6, 14, 15] [0]] ⟨(x29 ++ ([x30])), y40, (wr (x31 + (1 : Int))), rfl, h⟩
   refine VW.exit ?_
   exact arv [.ren [5] [0]] ⟨x29, rfl, h⟩
 rintro s ⟨x20, rfl, h⟩
 unfold F67_j0 at h
 refine sRh K [4] [0] [(4, .lf (.hd 0 0 none))] (tn 2) ?_
 cases h; exact VW.ret (rt [some 0])
def F41_j0 (N : Nat) (x37 : ByteArray) : Option (ByteArray) :=
  some x37
def F41_l0_b (N : Nat) (a0 : (List (Int × (ByteArray × (Int × (Int × (Int × (Bool × (List Int))))))))) (a2 : Int) (self : (List (Int × (ByteArray × (Int × (Int × (Int × (Bool × (List Int)))))))) → Int → Int → Option (ByteArray)) (y39 : (List Int)) (nx61 : ByteArray → Int → Int → Option (ByteArray)) (x50 : ByteArray) (x51 : Int) (x52 : Int) : Option (ByteArray) :=
  cond (decide (x52 < x51)) (gd (InR x52 y39.length) (gd (x52.toNat < y39.length) (andO (self a0 (y39.getD x52.toNat (Ty.dflt (.int .i64))) (IntKind.i64.wrap (a2 + (1 : Int)))) fun y68 => gd (x50.size + y68.size ≤ 9223372036854775807) (nx61 (x50 ++ y68) x51 (IntKind.i64.wrap (x52 + (1 : Int))))))) (F41_j0 N x50)
def F41_l0 (N : Nat) (a0 : (List (Int × (ByteArray × (Int × (Int × (Int × (Bool × (List Int))))))))) (a2 : Int) (self : (List (Int × (ByteArray × (Int × (Int × (Int × (Bool × (List Int)))))))) → Int → Int → Option (ByteArray)) (y39 : (List Int)) : Nat → ByteArray → Int → Int → Option (ByteArray) := loopF (F41_l0_b N a0 a2 self y39) (fun _ _ _ => none)
theorem F41_l0_s (N : Nat) (a0 : (List (Int × (ByteArray × (Int × (Int × (Int × (Bool × (List Int))))))))) (a2 : Int) (self : (List (Int × (ByteArray × (Int × (Int × (Int × (Bool × (List Int)))))))) → Int → Int → Option (ByteArray)) (y39 : (List Int)) {k : Nat} (hk : 0 < k) (x50 : ByteArray) (x51 : Int) (x52 : Int) : F41_l0 N a0 a2 self y39 k x50 x51 x52 = F41_l0_b N a0 a2 self y39 (F41_l0 N a0 a2 self y39 (k - 1)) x50 x51 x52 := by
 cases k with
 | zero => exact absurd hk (Nat.lt_irrefl 0)
 | succ m => rfl
def F41_b (N : Nat) (self : (List (Int × (ByteArray × (Int × (Int × (Int × (Bool × (List Int)))))))) → Int → Int → Option (ByteArray)) (a0 : (List (Int × (ByteArray × (Int × (Int × (Int × (Bool × (List Int))))))))) (a1 : Int) (a2 : Int) : Option (ByteArray) :=
  andO (F66 N (⟨#[32, 32]⟩ : ByteArray) a2) fun y1 => gd (InR a1 a0.length) (andO (F10 N (a0.getD a1.toNat (Ty.dflt Y23))) fun y3 => gd (y1.size + y3.size ≤ 9223372036854775807) (gd ((y1 ++ y3).size + (⟨#[10]⟩ : ByteArray).size ≤ 9223372036854775807) (andO (F67 N a0 a1) fun y39 => F41_l0 N a0 a2 self y39 N ((y1 ++ y3) ++ (⟨#[10]⟩ : ByteArray)) (y39.length : Int) (0 : Int))))
theorem ok41_b (N : Nat) (self : (List (Int × (ByteArray × (Int × (Int × (Int × (Bool × (List Int)))))))) → Int → Int → Option (ByteArray)) (ih : ∀ (a0 : (List (Int × (ByteArray × (Int × (Int × (Int × (Bool × (List Int))))))))) (a1 : Int) (a2 : Int) (r : ByteArray), self a0 a1 a2 = some r → Con Go.Proofs.Tryd.prog 41 [.lf (.v (.sl Y23) a0), I a1, I a2] [.lf (.v .str r)]) (a0 : (List (Int × (ByteArray × (Int × (Int × (Int × (Bool × (List Int))))))))) (a1 : Int) (a2 : Int) {r : ByteArray} (h : F41_b N self a0 a1 a2 = some r) : Con Go.Proofs.Tryd.prog 41 [.lf (.v (.sl Y23) a0), I a1, I a2] [.lf (.v .str r)] := by
 refine ctr [.lf (.v .str)] K Go.Proofs.Tryd.func41 rfl fun w0 E0 ht => ?_
 unfold F41_b at h
 show VW _ _ _ _ _ (retQ _ _ _ _) _
 refine sR K [0, 1, 2] [] ⟨[(0, .lf (.v (.sl Y23) a0)), (1, I a1), (2, I a2)], []⟩ (tn 1) ?_
 refine VW.seq ?_
 obtain ⟨y1, hy1, h⟩ := andO_some h
 obtain ⟨g2, h⟩ := gd_some h
 obtain ⟨y3, hy3, h⟩ := andO_some h
 obtain ⟨g4, h⟩ := gd_some h
 obtain ⟨g5, h⟩ := gd_some h
 refine VW.drawn (by kernel_rfl) [some (10, I a2), some (11, S y1), some (12, .lf (.v (.sl Y23) a0)), some (13, I a1), some (14, .lf (.fp Y23 (a0.getD a1.toNat D23) 0)), some (15, .agg (lv Y23 (a0.getD a1.toNat D23))), some (16, S y3), some (17, S (y1 ++ y3)), some (18, S ((y1 ++ y3) ++ (⟨#[10]⟩ : ByteArray))), some (7, S ((y1 ++ y3) ++ (⟨#[10]⟩ : ByteArray)))] [] [[]] [(0, 0), (1, 0), (2, 0), (3, 0), (4, 0), (5, 0), (6, 0), (7, 0), (8, 0), (9, 0)] [0, 1, 2, 7] [] (s' := ⟨[(0, .lf (.v (.sl Y23) a0)), (1, I a1), (2, I a2), (7, S ((y1 ++ y3) ++ (⟨#[10]⟩ : ByteArray)))], []⟩) (by kernel_rfl) (by kernel_rfl) ⟨qT K,
    ⟨_, rfl, Stp.eq (Stp.call false [.t .str, .t (.int .i64)] [] K (d := some 11) (by kernel_rfl) (ok66 N _ _ hy1) rfl) (by kernel_rfl) (by kernel_rfl)⟩,
    qT K,
    qT K,
    ⟨_, rfl, Stp.ev K (m := .dp) (φ := InR a1 a0.length) (by kernel_rfl) g2⟩,
    qT K,
    ⟨_, rfl, Stp.eq (Stp.call false [.t Y23] [] K (d := some 16) (by kernel_rfl) (ok10 N _ hy3) rfl) (by kernel_rfl) (by kernel_rfl)⟩,
    ⟨_, rfl, Stp.ev K (m := .dp) (φ := y1.size + y3.size ≤ 9223372036854775807) (by kernel_rfl) g4⟩,
    ⟨_, rfl, Stp.ev K (m := .dp) (φ := (y1 ++ y3).size + (⟨#[10]⟩ : ByteArray).size ≤ 9223372036854775807) (by kernel_rfl) g5⟩,
    qT K, trivial⟩ (by kernel_rfl) ?_
 refine VW.join (fun s => ∃ (x37 : ByteArray), s = ⟨[(7, S x37)], []⟩ ∧ F41_j0 N x37 = some r) ?_ ?_
 ·refine VW.seq ?_
  refine VW.region ?_
  refine sG K 2 [0, 2, 7, 19, 20] [] ⟨[(0, .lf (.v (.sl Y23) a0)), (2, I a2), (7, S ((y1 ++ y3) ++ (⟨#[10]⟩ : ByteArray))), (19, .lf (.v (.sl Y23) a0)), (20, I a1)], []⟩ (tn 2) ?_
  obtain ⟨y39, hy, h⟩ := andO_some h
  refine cal false [.t (.sl Y23), .t (.int .i64)] [] (some 21) K (ok67 N _ _ hy) ?_
  refine sNh K [0, 2, 7, 21, 22, 23] [0] [(0, .lf (.v (.sl Y23) a0)), (2, I a2), (7, S ((y1 ++ y3) ++ (⟨#[10]⟩ : ByteArray))), (21, .lf (.hd 0 0 none)), (22, I (y39.length : Int)), (23, I (0 : Int))] (tn 2) ?_
  refine VW.block ?_
  refine lop (fun k s => ∃ (x50 : ByteArray) (x51 : Int) (x52 : Int), s = ⟨[(0, .lf (.v (.sl Y23) a0)), (2, I a2), (7, S x50), (21, .lf (.hd 0 0 none)), (22, I x51), (23, I x52)], [ar 0 (.int .i64) y39 .dp]⟩ ∧ F41_l0 N a0 a2 self y39 k x50 x51 x52 = some r) N [.ren [0, 2, 7, 21, 22, 23] [0]] ⟨((y1 ++ y3) ++ (⟨#[10]⟩ : ByteArray)), (y39.length : Int), (0 : Int), rfl, h⟩ ?_
  rintro k61 s ⟨x50, x51, x52, rfl, h⟩
  cases k61 with
  | zero => cases show none = some r from h
  | succ k61 =>
   replace h : F41_l0_b N a0 a2 self y39 (F41_l0 N a0 a2 self y39 k61) x50 x51 x52 = some r := h
   unfold F41_l0_b at h
   refine sRh K [0, 2, 7, 21, 22, 23, 24] [0] [(0, .lf (.v (.sl Y23) a0)), (2, I a2), (7, S x50), (21, .lf (.hd 0 0 none)), (22, I x51), (23, I x52), (24, B (decide (x52 < x51)))] (tn 1) ?_
   refine VW.seq ?_
   refine cnd h (fun h => ?_) (fun h => ?_)
   ·refine VW.skip ?_
    refine VW.seq ?_
    refine VW.block ?_
    obtain ⟨g66, h⟩ := gd_some h
    obtain ⟨g67, h⟩ := gd_some h
    refine sRh K [0, 2, 7, 9, 21, 22, 23] [0] [(0, .lf (.v (.sl Y23) a0)), (2, I a2), (7, S x50), (9, I (y39.getD x52.toNat (Ty.dflt (.int .i64)))), (21, .lf (.hd 0 0 none)), (22, I x51), (23, I x52)] (an g66 (an g67 (tn 1))) ?_
    refine VW.region ?_
    refine sGh K 5 [0, 2, 21, 22, 23, 27, 28, 29, 31] [0] [(0, .lf (.v (.sl Y23) a0)), (2, I a2), (21, .lf (.hd 0 0 none)), (22, I x51), (23, I x52), (27, S x50), (28, .lf (.v (.sl Y23) a0)), (29, I (y39.getD x52.toNat (Ty.dflt (.int .i64)))), (31, I (wr (a2 + (1 : Int))))] (tn 5) ?_
    obtain ⟨y68, hy, h⟩ := andO_some h
    refine cal false [.t (.sl Y23), .t (.int .i64), .t (.int .i64)] [] (some 32) K (ih _ _ _ _ hy) ?_
    obtain ⟨g69, h⟩ := gd_some h
    refine sNh K [0, 2, 7, 21, 22, 23] [0] [(0, .lf (.v (.sl Y23) a0)), (2, I a2), (7, S (x50 ++ y68)), (21, .lf (.hd 0 0 none)), (22, I x51), (23, I x52)] (an g69 (tn 1)) ?_
    refine rRh K [0, 2, 7, 21, 22, 23] [0] [(0, .lf (.v (.sl Y23) a0)), (2, I a2), (7, S (x50 ++ y68)), (21, .lf (.hd 0 0 none)), (22, I x51), (23, I (wr (x52 + (1 : Int))))] (tn 2) ?_
    exact aro [.ren [0, 2, 7, 21, 22, 23] [0]] ⟨(x50 ++ y68), x51, (wr (x52 + (1 : Int))), rfl, h⟩
   refine VW.exit ?_
   exact arv [.ren [7] []] ⟨x50, rfl, h⟩
 rintro s ⟨x37, rfl, h⟩
 unfold F41_j0 at h
 refine sR K [6] [] ⟨[(6, S x37)], []⟩ (tn 2) ?_
 cases h; exact VW.ret (rt [])
def F41_r (N : Nat) : Nat → (List (Int × (ByteArray × (Int × (Int × (Int × (Bool × (List Int)))))))) → Int → Int → Option (ByteArray) := loopF (F41_b N) (fun _ _ _ => none)
theorem F41_s (N : Nat) {k : Nat} (hk : 0 < k) (a0 : (List (Int × (ByteArray × (Int × (Int × (Int × (Bool × (List Int))))))))) (a1 : Int) (a2 : Int) : F41_r N k a0 a1 a2 = F41_b N (F41_r N (k - 1)) a0 a1 a2 := by
 cases k with
 | zero => exact absurd hk (Nat.lt_irrefl 0)
 | succ m => rfl
def F41 (N : Nat) : (List (Int × (ByteArray × (Int × (Int × (Int × (Bool × (List Int)))))))) → Int → Int → Option (ByteArray) := F41_r N N
theorem ok41_k (N : Nat) : ∀ (k : Nat) (a0 : (List (Int × (ByteArray × (Int × (Int × (Int × (Bool × (List Int))))))))) (a1 : Int) (a2 : Int) (r : ByteArray), loopF (F41_b N) (fun _ _ _ => none) k a0 a1 a2 = some r → Con Go.Proofs.Tryd.prog 41 [.lf (.v (.sl Y23) a0), I a1, I a2] [.lf (.v .str r)]
 | 0, a0, a1, a2, r, h => nomatch (show (none : Option (ByteArray)) = some r from h)
 | k + 1, a0, a1, a2, r, h => ok41_b N _ (ok41_k N k) a0 a1 a2 h
theorem ok41 (N : Nat) (a0 : (List (Int × (ByteArray × (Int × (Int × (Int × (Bool × (List Int))))))))) (a1 : Int) (a2 : Int) {r : ByteArray} (h : F41 N a0 a1 a2 = some r) : Con Go.Proofs.Tryd.prog 41 [.lf (.v (.sl Y23) a0), I a1, I a2] [.lf (.v .str r)] := ok41_k N N a0 a1 a2 r h
def F18 (N : Nat) (a0 : (List (Int × (ByteArray × (Int × (Int × (Int × (Bool × (List Int))))))))) : Option (ByteArray) :=
  andO (F39 N a0) fun y2 => cond (!y2) (some ByteArray.empty) (andO (F41 N a0 (0 : Int) (0 : Int)) fun y3 => some y3)
theorem ok18 (N : Nat) (a0 : (List (Int × (ByteArray × (Int × (Int × (Int × (Bool × (List Int))))))))) {r : ByteArray} (h : F18 N a0 = some r) : Con Go.Proofs.Tryd.prog 18 [.lf (.v (.sl Y23) a0)] [.lf (.v .str r)] := by
 refine ctr [.lf (.v .str)] K Go.Proofs.Tryd.func18 rfl fun w0 E0 ht => ?_
 unfold F18 at h
 show VW _ _ _ _ _ (retQ _ _ _ _) _
 refine sR K [0] [] ⟨[(0, .lf (.v (.sl Y23) a0))], []⟩ (tn 1) ?_
 refine VW.seq ?_
 refine VW.seq ?_
 refine VW.region ?_
 refine sG K 1 [0, 3] [] ⟨[(0, .lf (.v (.sl Y23) a0)), (3, .lf (.v (.sl Y23) a0))], []⟩ (tn 1) ?_
 obtain ⟨y2, hy, h⟩ := andO_some h
 refine cal false [.t (.sl Y23)] [] (some 4) K (ok39 N _ hy) ?_
 refine sN K [0, 5] [] ⟨[(0, .lf (.v (.sl Y23) a0)), (5, B (!y2))], []⟩ (tn 1) ?_
 refine cnd h (fun h => ?_) (fun h => ?_)
 ·refine sR K [2] [] ⟨[(2, S ByteArray.empty)], []⟩ (tn 1) ?_
  cases h; exact VW.ret (rt [])
 refine VW.skip ?_
 refine VW.seq ?_
 refine VW.region ?_
 refine sG K 1 [6] [] ⟨[(6, .lf (.v (.sl Y23) a0))], []⟩ (tn 1) ?_
 obtain ⟨y3, hy, h⟩ := andO_some h
 refine cal false [.t (.sl Y23), .t (.int .i64), .t (.int .i64)] [] (some 7) K (ok41 N _ _ _ hy) ?_
 refine sN K [2] [] ⟨[(2, S y3)], []⟩ (tn 1) ?_
 cases h; exact VW.ret (rt [])
def F5 (N : Nat) (a0 : (List (Int × (ByteArray × (Int × (Int × (Int × (Bool × (List Int))))))))) : Option (Bool) :=
  andO (F12 N a0 (1048576 : Int)) fun y1 => cond (decide (y1 < (0 : Int))) (some true) (andO (F14 N a0) fun y2 => andO (F17 N y2) fun y3 => andO (F14 N a0) fun y4 => andO (F18 N y4) fun y5 => cond (!(y5.toList == y3.toList)) (some false) (andO (F14 N a0) fun y8 => andO (F16 N y4 y8) fun y9 => cond (!y9) (some false) (some true)))
theorem ok5 (N : Nat) (a0 : (List (Int × (ByteArray × (Int × (Int × (Int × (Bool × (List Int))))))))) {r : Bool} (h : F5 N a0 = some r) : Con Go.Proofs.Tryd.prog 5 [.lf (.v (.sl Y23) a0)] [.lf (.v .bool r)] := by
 refine ctr [.lf (.v .bool)] K Go.Proofs.Tryd.func5 rfl fun w0 E0 ht => ?_
 unfold F5 at h
 show VW _ _ _ _ _ (retQ _ _ _ _) _
 refine sR K [0] [] ⟨[(0, .lf (.v (.sl Y23) a0))], []⟩ (tn 1) ?_
 refine sR K [0, 3] [] ⟨[(0, .lf (.v (.sl Y23) a0)), (3, I (1048576 : Int))], []⟩ (tn 1) ?_
 refine VW.seq ?_
 refine VW.region ?_
 refine sG K 2 [0, 7, 8] [] ⟨[(0, .lf (.v (.sl Y23) a0)), (7, .lf (.v (.sl Y23) a0)), (8, I (1048576 : Int))], []⟩ (tn 2) ?_
 obtain ⟨y1, hy, h⟩ := andO_some h
 refine cal false [.t (.sl Y23), .t (.int .i64)] [] (some 9) K (ok12 N _ _ hy) ?_
 refine sN K [0, 3] [] ⟨[(0, .lf (.v (.sl Y23) a0)), (3, I y1)], []⟩ (tn 1) ?_
 refine VW.seq ?_
 refine sR K [0, 11] [] ⟨[(0, .lf (.v (.sl Y23) a0)), (11, B (decide (y1 < (0 : Int))))], []⟩ (tn 2) ?_
 refine cnd h (fun h => ?_) (fun h => ?_)
 ·refine sR K [2] [] ⟨[(2, B true)], []⟩ (tn 1) ?_
  cases h; exact VW.ret (rt [])
 refine VW.skip ?_
 refine VW.seq ?_
 refine VW.region ?_
 refine sG K 1 [0, 12] [] ⟨[(0, .lf (.v (.sl Y23) a0)), (12, .lf (.v (.sl Y23) a0))], []⟩ (tn 1) ?_
 obtain ⟨y2, hy, h⟩ := andO_some h
 refine cal false [.t (.sl Y23)] [] (some 13) K (ok14 N _ hy) ?_
 obtain ⟨y3, hy, h⟩ := andO_some h
 refine cal true [.t (.sl Y23)] [] (some 14) K (ok17 N _ hy) ?_
 refine sN K [0, 4] [] ⟨[(0, .lf (.v (.sl Y23) a0)), (4, S y3)], []⟩ (tn 1) ?_
 refine VW.seq ?_
 refine VW.region ?_
 refine sG K 1 [0, 4, 15] [] ⟨[(0, .lf (.v (.sl Y23) a0)), (4, S y3), (15, .lf (.v (.sl Y23) a0))], []⟩ (tn 1) ?_
 obtain ⟨y4, hy, h⟩ := andO_some h
 refine cal false [.t (.sl Y23)] [] (some 16) K (ok14 N _ hy) ?_
 refine sNh K [0, 4, 5] [0] [(0, .lf (.v (.sl Y23) a0)), (4, S y3), (5, .lf (.hd 0 0 none))] (tn 1) ?_
 refine VW.seq ?_
 refine VW.region ?_
 refine sGh K 1 [0, 4, 5, 17] [0] [(0, .lf (.v (.sl Y23) a0)), (4, S y3), (5, .lf (.hd 0 0 none)), (17, .lf (.hd 0 0 none))] (tn 1) ?_
 obtain ⟨y5, hy, h⟩ := andO_some h
 refine cal true [.t (.sl Y23)] [] (some 18) K (ok18 N _ hy) ?_
 refine sNh K [0, 4, 5, 6] [0] [(0, .lf (.v (.sl Y23) a0)), (4, S y3), (5, .lf (.hd 0 0 none)), (6, S y5)] (tn 1) ?_
 refine VW.seq ?_
 refine sRh K [0, 5, 21] [0] [(0, .lf (.v (.sl Y23) a0)), (5, .lf (.hd 0 0 none)), (21, B (!(y5.toList == y3.toList)))] (tn 3) ?_
 refine cnd h (fun h => ?_) (fun h => ?_)
 ·refine sR K [2] [] ⟨[(2, B false)], []⟩ (tn 1) ?_
  cases h; exact VW.ret (rt [])
 refine VW.skip ?_
 refine VW.seq ?_
 refine VW.seq ?_
 refine VW.region ?_
 refine sGh K 2 [22, 23] [0] [(22, .lf (.hd 0 0 none)), (23, .lf (.v (.sl Y23) a0))] (tn 2) ?_
 obtain ⟨y8, hy, h⟩ := andO_some h
 refine cal false [.t (.sl Y23)] [] (some 24) K (ok14 N _ hy) ?_
 obtain ⟨y9, hy, h⟩ := andO_some h
 refine cal true [.t (.sl Y23), .t (.sl Y23)] [] (some 25) K (ok16 N _ _ hy) ?_
 refine sN K [26] [] ⟨[(26, B (!y9))], []⟩ (tn 1) ?_
 refine cnd h (fun h => ?_) (fun h => ?_)
 ·refine sR K [2] [] ⟨[(2, B false)], []⟩ (tn 1) ?_
  cases h; exact VW.ret (rt [])
 refine VW.skip ?_
 refine sR K [2] [] ⟨[(2, B true)], []⟩ (tn 1) ?_
 cases h; exact VW.ret (rt [])
end Go.Proofs.YtfegppjofphpfaaDoor.Vc
