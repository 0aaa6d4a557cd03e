/- What functions of the program compute, and that they do. -/
import Derived.Test.YtfegppjofphpfaaDoorProg
import Derived.Test.YtfegppjofphpfaaDoorVd1
import Derived.Test.YtfegppjofphpfaaDoorShelf
namespace Go.Proofs.YtfegppjofphpfaaDoor.Vc
open Go Go.RowKit
set_option linter.unusedVariables false
set_option maxRecDepth 100000
set_option maxHeartbeats 4000000
abbrev Y7 : Ty := .pair (.int .i64) (.pair (.int .i64) (.pair .bool (.int .u8)))
abbrev Y13 : Ty := .pair .str (.int .u64)
abbrev Y23 : Ty := .pair (.int .i64) (.pair .str (.pair (.int .i64) (.pair (.int .i64) (.pair (.int .i64) (.pair .bool (.sl (.int .i64)))))))
abbrev Y59 : Ty := .pair (.int .i64) (.int .i64)
abbrev Y134 : Ty := .pair (.int .u8) (.int .u8)
def TL : List (Nat × TI) := [(2, { ty := (.int .i64) }),
  (3, { ty := (.int .i64) }),
  (4, { ty := .bool }),
  (5, { ty := (.int .u8) }),
  (6, { ty := (.int .u8) }),
  (7, { ty := Y7, offs := [0, 1, 2, 3], szs := [1, 1, 1, 1] }),
  (8, { ty := Y7, offs := [0, 1, 2, 3], szs := [1, 1, 1, 1] }),
  (9, { ty := .str }),
  (10, { ty := .str }),
  (11, { ty := .str }),
  (12, { ty := (.int .u64) }),
  (13, { ty := Y13, offs := [0, 1], szs := [1, 1] }),
  (14, { ty := Y13, offs := [0, 1], szs := [1, 1] }),
  (21, { ty := (.int .i32) }),
  (22, { ty := (.sl (.int .i64)), elem := 3 }),
  (23, { ty := Y23, offs := [0, 1, 2, 3, 4, 5, 6], szs := [1, 1, 1, 1, 1, 1, 1] }),
  (24, { ty := Y23, offs := [0, 1, 2, 3, 4, 5, 6], szs := [1, 1, 1, 1, 1, 1, 1] }),
  (27, { ty := Y23, offs := [0, 1, 2, 3, 4, 5, 6], szs := [1, 1, 1, 1, 1, 1, 1] }),
  (31, { ty := (.sl Y23), elem := 24 }),
  (34, { ty := (.sl Y23), elem := 27 }),
  (38, { ty := (.sl Y59), elem := 60 }),
  (46, { ty := (.sl .str), elem := 9 }),
  (59, { ty := Y59, offs := [0, 1], szs := [1, 1] }),
  (60, { ty := Y59, offs := [0, 1], szs := [1, 1] }),
  (67, { ty := (.sl (.int .u8)), elem := 5 }),
  (88, { ty := (.int .u64) }),
  (98, { ty := (.int .u32) }),
  (101, { ty := (.int .u64) }),
  (108, { ty := (.int .i64) }),
  (134, { ty := Y134, offs := [0, 1], szs := [1, 1] }),
  (135, { ty := Y134, offs := [0, 1], szs := [1, 1] }),
  (149, { ty := (.int .u8) }),
  (150, { ty := (.int .u8) }),
  (152, { ty := (.int .i32) }),
  (153, { ty := (.int .i32) })]
abbrev T : Tab := lookT TL
theorem T_ok : TabOk Go.Proofs.Tryd.prog T := tabOk_of TL (by kernel_rfl)
theorem T_rec : RecOk Go.Proofs.Tryd.prog T := recOk_of TL (by kernel_rfl)
/- loop.example/g00844/laws.szIntS -/
def F24 (N : Nat) (a0 : (List Int)) (a1 : Int) : Option (Int) :=
  cond (decide ((IntKind.i64.wrap (a1 - (a0.length : Int))) < (0 : Int))) (some (-1 : Int)) (some (IntKind.i64.wrap (a1 - (a0.length : Int))))
theorem ok24 (N : Nat) (a0 : (List Int)) (a1 : Int) {r : Int} (h : F24 N a0 a1 = some r) : Con Go.Proofs.Tryd.prog 24 [.lf (.v (.sl (.int .i64)) a0), I a1] [.lf (.v (.int .i64) r)] := by
  refine ctr [.lf (.v (.int .i64))] T_ok Go.Proofs.Tryd.func24 rfl fun w0 E0 ht => ?_
  unfold F24 at h
  show VW _ _ _ _ _ (retQ _ _ _ _) _
  refine sR T_ok [0, 1] [] ⟨[(0, .lf (.v (.sl (.int .i64)) a0)), (1, I a1)], []⟩ (tn 1) ?_
  refine sR T_ok [1] [] ⟨[(1, I (IntKind.i64.wrap (a1 - (a0.length : Int))))], []⟩ (tn 5) ?_
  refine VW.seq ?_
  refine sR T_ok [1, 10] [] ⟨[(1, I (IntKind.i64.wrap (a1 - (a0.length : Int)))), (10, B (decide ((IntKind.i64.wrap (a1 - (a0.length : Int))) < (0 : Int))))], []⟩ (tn 2) ?_
  refine cnd h (fun h => ?_) (fun h => ?_)
  · refine sR T_ok [4] [] ⟨[(4, I (-1 : Int))], []⟩ (tn 1) ?_
    refine VW.ret ?_
    replace h := Option.some.inj h
    subst h
    exact rt []
  refine VW.skip ?_
  refine sR T_ok [4] [] ⟨[(4, I (IntKind.i64.wrap (a1 - (a0.length : Int))))], []⟩ (tn 2) ?_
  refine VW.ret ?_
  replace h := Option.some.inj h
  subst h
  exact rt []

/- loop.example/g00844/laws.szNode -/
def F7 (N : Nat) (a0 : (Int × (ByteArray × (Int × (Int × (Int × (Bool × (List Int)))))))) (a1 : Int) : Option (Int) :=
  cond (decide ((IntKind.i64.wrap (a1 - (a0.2.1.size : Int))) < (0 : Int))) (some (-1 : Int)) (andO (F24 N a0.2.2.2.2.2.2 (IntKind.i64.wrap (a1 - (a0.2.1.size : Int)))) fun y1 => cond (decide (y1 < (0 : Int))) (some (-1 : Int)) (some y1))
theorem ok7 (N : Nat) (a0 : (Int × (ByteArray × (Int × (Int × (Int × (Bool × (List Int)))))))) (a1 : Int) {r : Int} (h : F7 N a0 a1 = some r) : Con Go.Proofs.Tryd.prog 7 [.agg [.v (.int .i64) a0.1, .v .str a0.2.1, .v (.int .i64) a0.2.2.1, .v (.int .i64) a0.2.2.2.1, .v (.int .i64) a0.2.2.2.2.1, .v .bool a0.2.2.2.2.2.1, .v (.sl (.int .i64)) a0.2.2.2.2.2.2], I a1] [.lf (.v (.int .i64) r)] := by
  refine ctr [.lf (.v (.int .i64))] T_ok Go.Proofs.Tryd.func7 rfl fun w0 E0 ht => ?_
  unfold F7 at h
  show VW _ _ _ _ _ (retQ _ _ _ _) _
  refine sR T_ok [1, 2] [0] ⟨[(1, I a1), (2, .lf (.ptr 0 0 0 0))], [bx [.v (.int .i64) a0.1, .v .str a0.2.1, .v (.int .i64) a0.2.2.1, .v (.int .i64) a0.2.2.2.1, .v (.int .i64) a0.2.2.2.2.1, .v .bool a0.2.2.2.2.2.1, .v (.sl (.int .i64)) a0.2.2.2.2.2.2] 24]⟩ (tn 2) ?_
  refine sR T_ok [1, 2] [0] ⟨[(1, I (IntKind.i64.wrap (a1 - (a0.2.1.size : Int)))), (2, .lf (.ptr 0 0 0 0))], [bx [.v (.int .i64) a0.1, .v .str a0.2.1, .v (.int .i64) a0.2.2.1, .v (.int .i64) a0.2.2.2.1, .v (.int .i64) a0.2.2.2.2.1, .v .bool a0.2.2.2.2.2.1, .v (.sl (.int .i64)) a0.2.2.2.2.2.2] 24]⟩ (tn 6) ?_
  refine VW.seq ?_
  refine sR T_ok [1, 2, 11] [0] ⟨[(1, I (IntKind.i64.wrap (a1 - (a0.2.1.size : Int)))), (2, .lf (.ptr 0 0 0 0)), (11, B (decide ((IntKind.i64.wrap (a1 - (a0.2.1.size : Int))) < (0 : Int))))], [bx [.v (.int .i64) a0.1, .v .str a0.2.1, .v (.int .i64) a0.2.2.1, .v (.int .i64) a0.2.2.2.1, .v (.int .i64) a0.2.2.2.2.1, .v .bool a0.2.2.2.2.2.1, .v (.sl (.int .i64)) a0.2.2.2.2.2.2] 24]⟩ (tn 2) ?_
  refine cnd h (fun h => ?_) (fun h => ?_)
  · refine sR T_ok [4] [] ⟨[(4, I (-1 : Int))], []⟩ (tn 1) ?_
    refine VW.ret ?_
    replace h := Option.some.inj h
    subst h
    exact rt []
  refine VW.skip ?_
  refine VW.seq ?_
  refine VW.region ?_
  refine sG T_ok 3 [13, 14] [] ⟨[(13, .lf (.v (.sl (.int .i64)) a0.2.2.2.2.2.2)), (14, I (IntKind.i64.wrap (a1 - (a0.2.1.size : Int))))], []⟩ (tn 3) ?_
  obtain ⟨y1, hy, h⟩ := andO_some h
  refine cal false [.t (.sl (.int .i64)), .t (.int .i64)] [] (some 15) T_ok (ok24 N _ _ hy) ?_
  refine sN T_ok [1] [] ⟨[(1, I y1)], []⟩ (tn 1) ?_
  refine VW.seq ?_
  refine sR T_ok [1, 17] [] ⟨[(1, I y1), (17, B (decide (y1 < (0 : Int))))], []⟩ (tn 2) ?_
  refine cnd h (fun h => ?_) (fun h => ?_)
  · refine sR T_ok [4] [] ⟨[(4, I (-1 : Int))], []⟩ (tn 1) ?_
    refine VW.ret ?_
    replace h := Option.some.inj h
    subst h
    exact rt []
  refine VW.skip ?_
  refine sR T_ok [4] [] ⟨[(4, I y1)], []⟩ (tn 2) ?_
  refine VW.ret ?_
  replace h := Option.some.inj h
  subst h
  exact rt []

/- loop.example/g00844/spec.l01In -/
def F48 (N : Nat) (a0 : Int) (a1 : Int) (a2 : Int) : Option (Bool) :=
  cond (decide (a1 ≤ a0)) (some (decide (a0 ≤ a2))) (some false)
theorem ok48 (N : Nat) (a0 : Int) (a1 : Int) (a2 : Int) {r : Bool} (h : F48 N a0 a1 a2 = some r) : Con Go.Proofs.Tryd.prog 48 [I a0, I a1, I a2] [.lf (.v .bool r)] := by
  refine ctr [.lf (.v .bool)] T_ok Go.Proofs.Tryd.func48 rfl fun w0 E0 ht => ?_
  unfold F48 at h
  show VW _ _ _ _ _ (retQ _ _ _ _) _
  refine sR T_ok [0, 1, 2] [] ⟨[(0, I a0), (1, I a1), (2, I a2)], []⟩ (tn 1) ?_
  refine VW.seq ?_
  refine VW.region ?_
  refine sG T_ok 4 [0, 2, 10] [] ⟨[(0, I a0), (2, I a2), (10, B (decide (a1 ≤ a0)))], []⟩ (tn 4) ?_
  refine spB 10 h (fun h => ?_) (fun h => ?_)
  · refine sN T_ok [6] [] ⟨[(6, B (decide (a0 ≤ a2)))], []⟩ (tn 5) ?_
    refine VW.ret ?_
    replace h := Option.some.inj h
    subst h
    exact rt []
  refine sN T_ok [6] [] ⟨[(6, B false)], []⟩ (tn 5) ?_
  refine VW.ret ?_
  replace h := Option.some.inj h
  subst h
  exact rt []

/- loop.example/g00844/spec.WordOk -/
def F49_j0 (N : Nat) : Option (Bool) :=
  some true
def F49_j1 (N : Nat) (nx74 : Int → Option (Bool)) (x60 : Int) : Option (Bool) :=
  nx74 (IntKind.i64.wrap (x60 + (1 : Int)))
def F49_l0_b (N : Nat) (a0 : ByteArray) (nx74 : Int → Option (Bool)) (x60 : Int) : Option (Bool) :=
  cond (decide (x60 < (a0.size : Int))) (gd (InR x60 a0.size) (cond (decide (((a0.data.getD x60.toNat 0).toNat : Int) < (97 : Int))) (gd (InR x60 a0.size) (cond (decide (((a0.data.getD x60.toNat 0).toNat : Int) < (48 : Int))) (some false) (gd (InR x60 a0.size) (cond (decide (((a0.data.getD x60.toNat 0).toNat : Int) > (57 : Int))) (some false) (F49_j1 N nx74 x60))))) (gd (InR x60 a0.size) (cond (decide (((a0.data.getD x60.toNat 0).toNat : Int) > (122 : Int))) (gd (InR x60 a0.size) (cond (decide (((a0.data.getD x60.toNat 0).toNat : Int) < (48 : Int))) (some false) (gd (InR x60 a0.size) (cond (decide (((a0.data.getD x60.toNat 0).toNat : Int) > (57 : Int))) (some false) (F49_j1 N nx74 x60))))) (F49_j1 N nx74 x60))))) (F49_j0 N)
def F49_l0 (N : Nat) (a0 : ByteArray) : Nat → Int → Option (Bool) := loopF (F49_l0_b N a0) (fun _ => none)
theorem F49_l0_s (N : Nat) (a0 : ByteArray) {k : Nat} (hk : 0 < k) (x60 : Int) : F49_l0 N a0 k x60 = F49_l0_b N a0 (F49_l0 N a0 (k - 1)) x60 := by
  cases k with
  | zero => exact absurd hk (Nat.lt_irrefl 0)
  | succ m => rfl
def F49 (N : Nat) (a0 : ByteArray) : Option (Bool) :=
  andO (F48 N (a0.size : Int) (1 : Int) (12 : Int)) fun y3 => cond (!y3) (some false) (gd (InR (0 : Int) a0.size) (cond (decide (((a0.data.getD (0 : Int).toNat 0).toNat : Int) < (97 : Int))) (some false) (F49_l0 N a0 N (0 : Int))))
theorem ok49 (N : Nat) (a0 : ByteArray) {r : Bool} (h : F49 N a0 = some r) : Con Go.Proofs.Tryd.prog 49 [S a0] [.lf (.v .bool r)] := by
  refine ctr [.lf (.v .bool)] T_ok Go.Proofs.Tryd.func49 rfl fun w0 E0 ht => ?_
  unfold F49 at h
  show VW _ _ _ _ _ (retQ _ _ _ _) _
  refine sR T_ok [0] [] ⟨[(0, S a0)], []⟩ (tn 1) ?_
  refine VW.seq ?_
  refine VW.seq ?_
  refine VW.region ?_
  refine sG T_ok 2 [0, 5] [] ⟨[(0, S a0), (5, I (a0.size : Int))], []⟩ (tn 2) ?_
  obtain ⟨y3, hy, h⟩ := andO_some h
  refine cal false [.t (.int .i64), .t (.int .i64), .t (.int .i64)] [] (some 6) T_ok (ok48 N _ _ _ hy) ?_
  refine sG T_ok 2 [0, 8] [] ⟨[(0, S a0), (8, B (!y3))], []⟩ (tn 2) ?_
  refine spB 8 h (fun h => ?_) (fun h => ?_)
  · refine sN T_ok [0, 12] [] ⟨[(0, S a0), (12, B true)], []⟩ (tn 4) ?_
    refine VW.cond (b := true) (by kernel_rfl) (fun _ => ?_) (fun h' => nomatch h')
    refine sR T_ok [2] [] ⟨[(2, B false)], []⟩ (tn 1) ?_
    refine VW.ret ?_
    replace h := Option.some.inj h
    subst h
    exact rt []
  obtain ⟨g4, h⟩ := gd_some h
  refine sN T_ok [0, 12] [] ⟨[(0, S a0), (12, B (decide (((a0.data.getD (0 : Int).toNat 0).toNat : Int) < (97 : Int))))], []⟩ (pu 1 (an g4 (tn 2))) ?_
  refine cnd h (fun h => ?_) (fun h => ?_)
  · refine sR T_ok [2] [] ⟨[(2, B false)], []⟩ (tn 1) ?_
    refine VW.ret ?_
    replace h := Option.some.inj h
    subst h
    exact rt []
  refine VW.skip ?_
  refine VW.join (fun s => s = ⟨[], []⟩ ∧ F49_j0 N = some r) ?_ ?_
  · refine sR T_ok [0, 3] [] ⟨[(0, S a0), (3, I (0 : Int))], []⟩ (tn 1) ?_
    refine VW.block ?_
    refine lop (fun k s => ∃ (x60 : Int), s = ⟨[(0, S a0), (3, I x60)], []⟩ ∧ F49_l0 N a0 k x60 = some r) N [.ren [0, 3] []] ⟨(0 : Int), rfl, h⟩ ?_
    rintro k74 s ⟨x60, rfl, h⟩
    cases k74 with
    | zero => cases show none = some r from h
    | succ k74 =>
      replace h : F49_l0_b N a0 (F49_l0 N a0 k74) x60 = some r := h
      unfold F49_l0_b at h
      refine VW.seq ?_
      refine sR T_ok [0, 3, 16] [] ⟨[(0, S a0), (3, I x60), (16, B (decide (x60 < (a0.size : Int))))], []⟩ (tn 4) ?_
      refine cnd h (fun h => ?_) (fun h => ?_)
      · refine VW.skip ?_
        refine VW.join (fun s => s = ⟨[(0, S a0), (3, I x60)], []⟩ ∧ F49_j1 N (F49_l0 N a0 k74) x60 = some r) ?_ ?_
        · refine VW.block ?_
          refine VW.seq ?_
          refine VW.region ?_
          obtain ⟨g82, h⟩ := gd_some h
          refine sG T_ok 5 [0, 3, 23] [] ⟨[(0, S a0), (3, I x60), (23, B (decide (((a0.data.getD x60.toNat 0).toNat : Int) < (97 : Int))))], []⟩ (pu 2 (an g82 (tn 2))) ?_
          refine spB 23 h (fun h => ?_) (fun h => ?_)
          · obtain ⟨g83, h⟩ := gd_some h
            refine sG T_ok 11 [0, 3, 29, 34] [] ⟨[(0, S a0), (3, I x60), (29, B true), (34, B (decide (((a0.data.getD x60.toNat 0).toNat : Int) < (48 : Int))))], []⟩ (pu 8 (an g83 (tn 2))) ?_
            refine spB 34 h (fun h => ?_) (fun h => ?_)
            · refine sN T_ok [0, 3, 40] [] ⟨[(0, S a0), (3, I x60), (40, B true)], []⟩ (tn 6) ?_
              refine VW.cond (b := true) (by kernel_rfl) (fun _ => ?_) (fun h' => nomatch h')
              refine sR T_ok [2] [] ⟨[(2, B false)], []⟩ (tn 1) ?_
              refine VW.ret ?_
              replace h := Option.some.inj h
              subst h
              exact rt []
            obtain ⟨g84, h⟩ := gd_some h
            refine sN T_ok [0, 3, 40] [] ⟨[(0, S a0), (3, I x60), (40, B (decide (((a0.data.getD x60.toNat 0).toNat : Int) > (57 : Int))))], []⟩ (pu 2 (an g84 (tn 3))) ?_
            refine cnd h (fun h => ?_) (fun h => ?_)
            · refine sR T_ok [2] [] ⟨[(2, B false)], []⟩ (tn 1) ?_
              refine VW.ret ?_
              replace h := Option.some.inj h
              subst h
              exact rt []
            refine VW.skip ?_
            exact arv [.ren [0, 3] []] ⟨rfl, h⟩
          obtain ⟨g85, h⟩ := gd_some h
          refine sG T_ok 6 [0, 3, 29] [] ⟨[(0, S a0), (3, I x60), (29, B (decide (((a0.data.getD x60.toNat 0).toNat : Int) > (122 : Int))))], []⟩ (pu 2 (an g85 (tn 3))) ?_
          refine spB 29 h (fun h => ?_) (fun h => ?_)
          · obtain ⟨g86, h⟩ := gd_some h
            refine sG T_ok 5 [0, 3, 29, 34] [] ⟨[(0, S a0), (3, I x60), (29, B true), (34, B (decide (((a0.data.getD x60.toNat 0).toNat : Int) < (48 : Int))))], []⟩ (pu 2 (an g86 (tn 2))) ?_
            refine spB 34 h (fun h => ?_) (fun h => ?_)
            · refine sN T_ok [0, 3, 40] [] ⟨[(0, S a0), (3, I x60), (40, B true)], []⟩ (tn 6) ?_
              refine VW.cond (b := true) (by kernel_rfl) (fun _ => ?_) (fun h' => nomatch h')
              refine sR T_ok [2] [] ⟨[(2, B false)], []⟩ (tn 1) ?_
              refine VW.ret ?_
              replace h := Option.some.inj h
              subst h
              exact rt []
            obtain ⟨g87, h⟩ := gd_some h
            refine sN T_ok [0, 3, 40] [] ⟨[(0, S a0), (3, I x60), (40, B (decide (((a0.data.getD x60.toNat 0).toNat : Int) > (57 : Int))))], []⟩ (pu 2 (an g87 (tn 3))) ?_
            refine cnd h (fun h => ?_) (fun h => ?_)
            · refine sR T_ok [2] [] ⟨[(2, B false)], []⟩ (tn 1) ?_
              refine VW.ret ?_
              replace h := Option.some.inj h
              subst h
              exact rt []
            refine VW.skip ?_
            exact arv [.ren [0, 3] []] ⟨rfl, h⟩
          refine sN T_ok [0, 3, 40] [] ⟨[(0, S a0), (3, I x60), (40, B false)], []⟩ (tn 11) ?_
          refine VW.cond (b := false) (by kernel_rfl) (fun h' => nomatch h') (fun _ => ?_)
          refine VW.skip ?_
          exact arv [.ren [0, 3] []] ⟨rfl, h⟩
        rintro s ⟨rfl, h⟩
        unfold F49_j1 at h
        refine rR T_ok [0, 3] [] ⟨[(0, S a0), (3, I (IntKind.i64.wrap (x60 + (1 : Int))))], []⟩ (tn 3) ?_
        exact aro [.ren [0, 3] []] ⟨(IntKind.i64.wrap (x60 + (1 : Int))), rfl, h⟩
      refine VW.exit ?_
      exact arv [.ren [] []] ⟨rfl, h⟩
  rintro s ⟨rfl, h⟩
  unfold F49_j0 at h
  refine sR T_ok [2] [] ⟨[(2, B true)], []⟩ (tn 1) ?_
  refine VW.ret ?_
  replace h := Option.some.inj h
  subst h
  exact rt []

/- loop.example/g00844/spec.l02Col -/
def F50 (N : Nat) (a0 : Int) : Option (Bool) :=
  andO (F48 N a0 (0 : Int) (63 : Int)) fun y1 => some y1
theorem ok50 (N : Nat) (a0 : Int) {r : Bool} (h : F50 N a0 = some r) : Con Go.Proofs.Tryd.prog 50 [I a0] [.lf (.v .bool r)] := by
  refine ctr [.lf (.v .bool)] T_ok Go.Proofs.Tryd.func50 rfl fun w0 E0 ht => ?_
  unfold F50 at h
  show VW _ _ _ _ _ (retQ _ _ _ _) _
  refine sR T_ok [0] [] ⟨[(0, I a0)], []⟩ (tn 1) ?_
  refine VW.seq ?_
  refine VW.region ?_
  refine sG T_ok 1 [3] [] ⟨[(3, I a0)], []⟩ (tn 1) ?_
  obtain ⟨y1, hy, h⟩ := andO_some h
  refine cal false [.t (.int .i64), .t (.int .i64), .t (.int .i64)] [] (some 4) T_ok (ok48 N _ _ _ hy) ?_
  refine sN T_ok [2] [] ⟨[(2, B y1)], []⟩ (tn 1) ?_
  refine VW.ret ?_
  replace h := Option.some.inj h
  subst h
  exact rt []

/- loop.example/g00844/spec.l01Number -/
def F51 (N : Nat) (a0 : Int) : Option (Bool) :=
  andO (F48 N a0 (-1000000 : Int) (1000000 : Int)) fun y1 => some y1
theorem ok51 (N : Nat) (a0 : Int) {r : Bool} (h : F51 N a0 = some r) : Con Go.Proofs.Tryd.prog 51 [I a0] [.lf (.v .bool r)] := by
  refine ctr [.lf (.v .bool)] T_ok Go.Proofs.Tryd.func51 rfl fun w0 E0 ht => ?_
  unfold F51 at h
  show VW _ _ _ _ _ (retQ _ _ _ _) _
  refine sR T_ok [0] [] ⟨[(0, I a0)], []⟩ (tn 1) ?_
  refine VW.seq ?_
  refine VW.region ?_
  refine sG T_ok 1 [3] [] ⟨[(3, I a0)], []⟩ (tn 1) ?_
  obtain ⟨y1, hy, h⟩ := andO_some h
  refine cal false [.t (.int .i64), .t (.int .i64), .t (.int .i64)] [] (some 4) T_ok (ok48 N _ _ _ hy) ?_
  refine sN T_ok [2] [] ⟨[(2, B y1)], []⟩ (tn 1) ?_
  refine VW.ret ?_
  replace h := Option.some.inj h
  subst h
  exact rt []

/- loop.example/g00844/spec.NodeOk -/
def F25_j0 (N : Nat) : Option (Bool) :=
  some false
def F25_j1 (N : Nat) (x11 : Int) (x13 : Int) (x14 : Bool) (x15 : (List Int)) : Option (Bool) :=
  andO (F48 N (x15.length : Int) (1 : Int) (6 : Int)) fun y75 => cond y75 (cond (x11 == (0 : Int)) (cond (x13 == (0 : Int)) (some (!x14)) (some false)) (some false)) (some false)
def F25_l0_b (N : Nat) (x11 : Int) (x13 : Int) (x14 : Bool) (x15 : (List Int)) (nx86 : Int → Option (Bool)) (x81 : Int) : Option (Bool) :=
  cond (decide (x81 < (x15.length : Int))) (gd (InR x81 x15.length) (andO (F50 N (x15.getD x81.toNat (Ty.dflt (.int .i64)))) fun y90 => cond (!y90) (some false) (nx86 (IntKind.i64.wrap (x81 + (1 : Int)))))) (F25_j1 N x11 x13 x14 x15)
def F25_l0 (N : Nat) (x11 : Int) (x13 : Int) (x14 : Bool) (x15 : (List Int)) : Nat → Int → Option (Bool) := loopF (F25_l0_b N x11 x13 x14 x15) (fun _ => none)
theorem F25_l0_s (N : Nat) (x11 : Int) (x13 : Int) (x14 : Bool) (x15 : (List Int)) {k : Nat} (hk : 0 < k) (x81 : Int) : F25_l0 N x11 x13 x14 x15 k x81 = F25_l0_b N x11 x13 x14 x15 (F25_l0 N x11 x13 x14 x15 (k - 1)) x81 := by
  cases k with
  | zero => exact absurd hk (Nat.lt_irrefl 0)
  | succ m => rfl
def F25_j2 (N : Nat) (x11 : Int) (x13 : Int) (x14 : Bool) (x95 : Bool) : Option (Bool) :=
  cond x95 (cond (x11 == (0 : Int)) (cond (x13 == (0 : Int)) (some (!x14)) (some false)) (some false)) (F25_j0 N)
def F25_j3 (N : Nat) (x9 : Int) (x10 : ByteArray) (x11 : Int) (x12 : Int) (x13 : Int) (x14 : Bool) (x15 : (List Int)) : Option (Bool) :=
  cond (x9 == (0 : Int)) (andO (F49 N x10) fun y57 => cond y57 (cond (x11 == (0 : Int)) (cond (x13 == (0 : Int)) (some (!x14)) (some false)) (some false)) (some false)) (cond (x9 == (1 : Int)) (andO (F50 N x11) fun y58 => cond y58 (andO (F48 N x12 (0 : Int) (3 : Int)) fun y59 => cond y59 (andO (F51 N x13) fun y60 => cond y60 (cond (x12 != (3 : Int)) (some true) (cond (x13 == (0 : Int)) (some (!x14)) (some false))) (some false)) (some false)) (some false)) (cond (x9 == (2 : Int)) (F25_l0 N x11 x13 x14 x15 N (0 : Int)) (cond (x9 == (3 : Int)) (andO (F50 N x11) fun y91 => cond y91 (andO (F50 N x13) fun y92 => cond y92 (some (!x14)) (some false)) (some false)) (cond (x9 == (5 : Int)) (andO (F50 N x11) fun y93 => cond y93 (cond (x13 == (0 : Int)) (some (!x14)) (some false)) (some false)) (cond (x9 == (6 : Int)) (cond (x11 == (0 : Int)) (andO (F48 N x13 (0 : Int) (1000000 : Int)) fun y94 => some y94) (some false)) (cond (x9 == (4 : Int)) (F25_j2 N x11 x13 x14 (x9 == (4 : Int))) (F25_j2 N x11 x13 x14 (x9 == (7 : Int)))))))))
def F25 (N : Nat) (a0 : (Int × (ByteArray × (Int × (Int × (Int × (Bool × (List Int)))))))) : Option (Bool) :=
  cond (a0.1 != (0 : Int)) (cond (!(a0.2.1.toList == ByteArray.empty.toList)) (some false) (cond (a0.1 != (2 : Int)) (cond (decide ((a0.2.2.2.2.2.2.length : Int) > (0 : Int))) (some false) (cond (a0.1 != (1 : Int)) (cond (a0.2.2.2.1 != (0 : Int)) (some false) (cond a0.2.2.2.2.2.1 (andO (F48 N a0.2.2.2.2.1 (0 : Int) (39 : Int)) fun y98 => cond (!y98) (some false) (F25_j3 N a0.1 a0.2.1 a0.2.2.1 a0.2.2.2.1 a0.2.2.2.2.1 a0.2.2.2.2.2.1 a0.2.2.2.2.2.2)) (F25_j3 N a0.1 a0.2.1 a0.2.2.1 a0.2.2.2.1 a0.2.2.2.2.1 a0.2.2.2.2.2.1 a0.2.2.2.2.2.2))) (cond a0.2.2.2.2.2.1 (andO (F48 N a0.2.2.2.2.1 (0 : Int) (39 : Int)) fun y99 => cond (!y99) (some false) (F25_j3 N a0.1 a0.2.1 a0.2.2.1 a0.2.2.2.1 a0.2.2.2.2.1 a0.2.2.2.2.2.1 a0.2.2.2.2.2.2)) (F25_j3 N a0.1 a0.2.1 a0.2.2.1 a0.2.2.2.1 a0.2.2.2.2.1 a0.2.2.2.2.2.1 a0.2.2.2.2.2.2)))) (cond (a0.1 != (1 : Int)) (cond (a0.2.2.2.1 != (0 : Int)) (some false) (cond a0.2.2.2.2.2.1 (andO (F48 N a0.2.2.2.2.1 (0 : Int) (39 : Int)) fun y100 => cond (!y100) (some false) (F25_j3 N a0.1 a0.2.1 a0.2.2.1 a0.2.2.2.1 a0.2.2.2.2.1 a0.2.2.2.2.2.1 a0.2.2.2.2.2.2)) (F25_j3 N a0.1 a0.2.1 a0.2.2.1 a0.2.2.2.1 a0.2.2.2.2.1 a0.2.2.2.2.2.1 a0.2.2.2.2.2.2))) (cond a0.2.2.2.2.2.1 (andO (F48 N a0.2.2.2.2.1 (0 : Int) (39 : Int)) fun y101 => cond (!y101) (some false) (F25_j3 N a0.1 a0.2.1 a0.2.2.1 a0.2.2.2.1 a0.2.2.2.2.1 a0.2.2.2.2.2.1 a0.2.2.2.2.2.2)) (F25_j3 N a0.1 a0.2.1 a0.2.2.1 a0.2.2.2.1 a0.2.2.2.2.1 a0.2.2.2.2.2.1 a0.2.2.2.2.2.2))))) (cond (a0.1 != (2 : Int)) (cond (decide ((a0.2.2.2.2.2.2.length : Int) > (0 : Int))) (some false) (cond (a0.1 != (1 : Int)) (cond (a0.2.2.2.1 != (0 : Int)) (some false) (cond a0.2.2.2.2.2.1 (andO (F48 N a0.2.2.2.2.1 (0 : Int) (39 : Int)) fun y102 => cond (!y102) (some false) (F25_j3 N a0.1 a0.2.1 a0.2.2.1 a0.2.2.2.1 a0.2.2.2.2.1 a0.2.2.2.2.2.1 a0.2.2.2.2.2.2)) (F25_j3 N a0.1 a0.2.1 a0.2.2.1 a0.2.2.2.1 a0.2.2.2.2.1 a0.2.2.2.2.2.1 a0.2.2.2.2.2.2))) (cond a0.2.2.2.2.2.1 (andO (F48 N a0.2.2.2.2.1 (0 : Int) (39 : Int)) fun y103 => cond (!y103) (some false) (F25_j3 N a0.1 a0.2.1 a0.2.2.1 a0.2.2.2.1 a0.2.2.2.2.1 a0.2.2.2.2.2.1 a0.2.2.2.2.2.2)) (F25_j3 N a0.1 a0.2.1 a0.2.2.1 a0.2.2.2.1 a0.2.2.2.2.1 a0.2.2.2.2.2.1 a0.2.2.2.2.2.2)))) (cond (a0.1 != (1 : Int)) (cond (a0.2.2.2.1 != (0 : Int)) (some false) (cond a0.2.2.2.2.2.1 (andO (F48 N a0.2.2.2.2.1 (0 : Int) (39 : Int)) fun y104 => cond (!y104) (some false) (F25_j3 N a0.1 a0.2.1 a0.2.2.1 a0.2.2.2.1 a0.2.2.2.2.1 a0.2.2.2.2.2.1 a0.2.2.2.2.2.2)) (F25_j3 N a0.1 a0.2.1 a0.2.2.1 a0.2.2.2.1 a0.2.2.2.2.1 a0.2.2.2.2.2.1 a0.2.2.2.2.2.2))) (cond a0.2.2.2.2.2.1 (andO (F48 N a0.2.2.2.2.1 (0 : Int) (39 : Int)) fun y105 => cond (!y105) (some false) (F25_j3 N a0.1 a0.2.1 a0.2.2.1 a0.2.2.2.1 a0.2.2.2.2.1 a0.2.2.2.2.2.1 a0.2.2.2.2.2.2)) (F25_j3 N a0.1 a0.2.1 a0.2.2.1 a0.2.2.2.1 a0.2.2.2.2.1 a0.2.2.2.2.2.1 a0.2.2.2.2.2.2))))
theorem ok25 (N : Nat) (a0 : (Int × (ByteArray × (Int × (Int × (Int × (Bool × (List Int)))))))) {r : Bool} (h : F25 N a0 = some r) : Con Go.Proofs.Tryd.prog 25 [.agg [.v (.int .i64) a0.1, .v .str a0.2.1, .v (.int .i64) a0.2.2.1, .v (.int .i64) a0.2.2.2.1, .v (.int .i64) a0.2.2.2.2.1, .v .bool a0.2.2.2.2.2.1, .v (.sl (.int .i64)) a0.2.2.2.2.2.2]] [.lf (.v .bool r)] := by
  refine ctr [.lf (.v .bool)] T_ok Go.Proofs.Tryd.func25 rfl fun w0 E0 ht => ?_
  unfold F25 at h
  show VW _ _ _ _ _ (retQ _ _ _ _) _
  refine sR T_ok [1] [0] ⟨[(1, .lf (.ptr 0 0 0 0))], [bx [.v (.int .i64) a0.1, .v .str a0.2.1, .v (.int .i64) a0.2.2.1, .v (.int .i64) a0.2.2.2.1, .v (.int .i64) a0.2.2.2.2.1, .v .bool a0.2.2.2.2.2.1, .v (.sl (.int .i64)) a0.2.2.2.2.2.2] 27]⟩ (tn 2) ?_
  refine VW.join (fun s => ∃ (x9 : Int) (x10 : ByteArray) (x11 : Int) (x12 : Int) (x13 : Int) (x14 : Bool) (x15 : (List Int)), s = ⟨[(1, .lf (.ptr 0 0 0 0))], [bx [.v (.int .i64) x9, .v .str x10, .v (.int .i64) x11, .v (.int .i64) x12, .v (.int .i64) x13, .v .bool x14, .v (.sl (.int .i64)) x15] 27]⟩ ∧ F25_j3 N x9 x10 x11 x12 x13 x14 x15 = some r) ?_ ?_
  · refine VW.seq ?_
    refine VW.region ?_
    refine sG T_ok 4 [1, 7] [0] ⟨[(1, .lf (.ptr 0 0 0 0)), (7, B (a0.1 != (0 : Int)))], [bx [.v (.int .i64) a0.1, .v .str a0.2.1, .v (.int .i64) a0.2.2.1, .v (.int .i64) a0.2.2.2.1, .v (.int .i64) a0.2.2.2.2.1, .v .bool a0.2.2.2.2.2.1, .v (.sl (.int .i64)) a0.2.2.2.2.2.2] 27]⟩ (tn 4) ?_
    refine spB 7 h (fun h => ?_) (fun h => ?_)
    · refine sG T_ok 5 [1, 12] [0] ⟨[(1, .lf (.ptr 0 0 0 0)), (12, B (!(a0.2.1.toList == ByteArray.empty.toList)))], [bx [.v (.int .i64) a0.1, .v .str a0.2.1, .v (.int .i64) a0.2.2.1, .v (.int .i64) a0.2.2.2.1, .v (.int .i64) a0.2.2.2.2.1, .v .bool a0.2.2.2.2.2.1, .v (.sl (.int .i64)) a0.2.2.2.2.2.2] 27]⟩ (tn 5) ?_
      refine spB 12 h (fun h => ?_) (fun h => ?_)
      · refine sN T_ok [1, 42] [0] ⟨[(1, .lf (.ptr 0 0 0 0)), (42, B true)], [bx [.v (.int .i64) a0.1, .v .str a0.2.1, .v (.int .i64) a0.2.2.1, .v (.int .i64) a0.2.2.2.1, .v (.int .i64) a0.2.2.2.2.1, .v .bool a0.2.2.2.2.2.1, .v (.sl (.int .i64)) a0.2.2.2.2.2.2] 27]⟩ (tn 30) ?_
        refine VW.cond (b := true) (by kernel_rfl) (fun _ => ?_) (fun h' => nomatch h')
        refine sR T_ok [2] [] ⟨[(2, B false)], []⟩ (tn 1) ?_
        refine VW.ret ?_
        replace h := Option.some.inj h
        subst h
        exact rt []
      refine sG T_ok 4 [1, 12, 16] [0] ⟨[(1, .lf (.ptr 0 0 0 0)), (12, B false), (16, B (a0.1 != (2 : Int)))], [bx [.v (.int .i64) a0.1, .v .str a0.2.1, .v (.int .i64) a0.2.2.1, .v (.int .i64) a0.2.2.2.1, .v (.int .i64) a0.2.2.2.2.1, .v .bool a0.2.2.2.2.2.1, .v (.sl (.int .i64)) a0.2.2.2.2.2.2] 27]⟩ (tn 4) ?_
      refine spB 16 h (fun h => ?_) (fun h => ?_)
      · refine sG T_ok 7 [1, 23] [0] ⟨[(1, .lf (.ptr 0 0 0 0)), (23, B (decide ((a0.2.2.2.2.2.2.length : Int) > (0 : Int))))], [bx [.v (.int .i64) a0.1, .v .str a0.2.1, .v (.int .i64) a0.2.2.1, .v (.int .i64) a0.2.2.2.1, .v (.int .i64) a0.2.2.2.2.1, .v .bool a0.2.2.2.2.2.1, .v (.sl (.int .i64)) a0.2.2.2.2.2.2] 27]⟩ (tn 7) ?_
        refine spB 23 h (fun h => ?_) (fun h => ?_)
        · refine sN T_ok [1, 42] [0] ⟨[(1, .lf (.ptr 0 0 0 0)), (42, B true)], [bx [.v (.int .i64) a0.1, .v .str a0.2.1, .v (.int .i64) a0.2.2.1, .v (.int .i64) a0.2.2.2.1, .v (.int .i64) a0.2.2.2.2.1, .v .bool a0.2.2.2.2.2.1, .v (.sl (.int .i64)) a0.2.2.2.2.2.2] 27]⟩ (tn 19) ?_
          refine VW.cond (b := true) (by kernel_rfl) (fun _ => ?_) (fun h' => nomatch h')
          refine sR T_ok [2] [] ⟨[(2, B false)], []⟩ (tn 1) ?_
          refine VW.ret ?_
          replace h := Option.some.inj h
          subst h
          exact rt []
        refine sG T_ok 4 [1, 23, 27] [0] ⟨[(1, .lf (.ptr 0 0 0 0)), (23, B false), (27, B (a0.1 != (1 : Int)))], [bx [.v (.int .i64) a0.1, .v .str a0.2.1, .v (.int .i64) a0.2.2.1, .v (.int .i64) a0.2.2.2.1, .v (.int .i64) a0.2.2.2.2.1, .v .bool a0.2.2.2.2.2.1, .v (.sl (.int .i64)) a0.2.2.2.2.2.2] 27]⟩ (tn 4) ?_
        refine spB 27 h (fun h => ?_) (fun h => ?_)
        · refine sG T_ok 6 [1, 33] [0] ⟨[(1, .lf (.ptr 0 0 0 0)), (33, B (a0.2.2.2.1 != (0 : Int)))], [bx [.v (.int .i64) a0.1, .v .str a0.2.1, .v (.int .i64) a0.2.2.1, .v (.int .i64) a0.2.2.2.1, .v (.int .i64) a0.2.2.2.2.1, .v .bool a0.2.2.2.2.2.1, .v (.sl (.int .i64)) a0.2.2.2.2.2.2] 27]⟩ (tn 6) ?_
          refine spB 33 h (fun h => ?_) (fun h => ?_)
          · refine sN T_ok [1, 42] [0] ⟨[(1, .lf (.ptr 0 0 0 0)), (42, B true)], [bx [.v (.int .i64) a0.1, .v .str a0.2.1, .v (.int .i64) a0.2.2.1, .v (.int .i64) a0.2.2.2.1, .v (.int .i64) a0.2.2.2.2.1, .v .bool a0.2.2.2.2.2.1, .v (.sl (.int .i64)) a0.2.2.2.2.2.2] 27]⟩ (tn 9) ?_
            refine VW.cond (b := true) (by kernel_rfl) (fun _ => ?_) (fun h' => nomatch h')
            refine sR T_ok [2] [] ⟨[(2, B false)], []⟩ (tn 1) ?_
            refine VW.ret ?_
            replace h := Option.some.inj h
            subst h
            exact rt []
          refine sG T_ok 3 [1, 33, 36] [0] ⟨[(1, .lf (.ptr 0 0 0 0)), (33, B false), (36, B a0.2.2.2.2.2.1)], [bx [.v (.int .i64) a0.1, .v .str a0.2.1, .v (.int .i64) a0.2.2.1, .v (.int .i64) a0.2.2.2.1, .v (.int .i64) a0.2.2.2.2.1, .v .bool a0.2.2.2.2.2.1, .v (.sl (.int .i64)) a0.2.2.2.2.2.2] 27]⟩ (tn 3) ?_
          refine spB 36 h (fun h => ?_) (fun h => ?_)
          · refine sG T_ok 2 [1, 33, 36, 38] [0] ⟨[(1, .lf (.ptr 0 0 0 0)), (33, B false), (36, B true), (38, I a0.2.2.2.2.1)], [bx [.v (.int .i64) a0.1, .v .str a0.2.1, .v (.int .i64) a0.2.2.1, .v (.int .i64) a0.2.2.2.1, .v (.int .i64) a0.2.2.2.2.1, .v .bool a0.2.2.2.2.2.1, .v (.sl (.int .i64)) a0.2.2.2.2.2.2] 27]⟩ (tn 2) ?_
            refine VO.on (j := 32) (want := true) (d := 36) (b := true) rfl rfl rfl (by kernel_rfl) rfl ?_
            obtain ⟨y98, hy, h⟩ := andO_some h
            refine cal false [.t (.int .i64), .t (.int .i64), .t (.int .i64)] [] (some 39) T_ok (ok48 N _ _ _ hy) ?_
            refine sN T_ok [1, 42] [0] ⟨[(1, .lf (.ptr 0 0 0 0)), (42, B (!y98))], [bx [.v (.int .i64) a0.1, .v .str a0.2.1, .v (.int .i64) a0.2.2.1, .v (.int .i64) a0.2.2.2.1, .v (.int .i64) a0.2.2.2.2.1, .v .bool a0.2.2.2.2.2.1, .v (.sl (.int .i64)) a0.2.2.2.2.2.2] 27]⟩ (tn 3) ?_
            refine cnd h (fun h => ?_) (fun h => ?_)
            · refine sR T_ok [2] [] ⟨[(2, B false)], []⟩ (tn 1) ?_
              refine VW.ret ?_
              replace h := Option.some.inj h
              subst h
              exact rt []
            refine VW.skip ?_
            exact arv [.ren [1] [0]] ⟨a0.1, a0.2.1, a0.2.2.1, a0.2.2.2.1, a0.2.2.2.2.1, a0.2.2.2.2.2.1, a0.2.2.2.2.2.2, rfl, h⟩
          refine sN T_ok [1, 42] [0] ⟨[(1, .lf (.ptr 0 0 0 0)), (42, B false)], [bx [.v (.int .i64) a0.1, .v .str a0.2.1, .v (.int .i64) a0.2.2.1, .v (.int .i64) a0.2.2.2.1, .v (.int .i64) a0.2.2.2.2.1, .v .bool a0.2.2.2.2.2.1, .v (.sl (.int .i64)) a0.2.2.2.2.2.2] 27]⟩ (tn 6) ?_
          refine VW.cond (b := false) (by kernel_rfl) (fun h' => nomatch h') (fun _ => ?_)
          refine VW.skip ?_
          exact arv [.ren [1] [0]] ⟨a0.1, a0.2.1, a0.2.2.1, a0.2.2.2.1, a0.2.2.2.2.1, a0.2.2.2.2.2.1, a0.2.2.2.2.2.2, rfl, h⟩
        refine sG T_ok 9 [1, 33, 36] [0] ⟨[(1, .lf (.ptr 0 0 0 0)), (33, B false), (36, B a0.2.2.2.2.2.1)], [bx [.v (.int .i64) a0.1, .v .str a0.2.1, .v (.int .i64) a0.2.2.1, .v (.int .i64) a0.2.2.2.1, .v (.int .i64) a0.2.2.2.2.1, .v .bool a0.2.2.2.2.2.1, .v (.sl (.int .i64)) a0.2.2.2.2.2.2] 27]⟩ (tn 9) ?_
        refine spB 36 h (fun h => ?_) (fun h => ?_)
        · refine sG T_ok 2 [1, 33, 36, 38] [0] ⟨[(1, .lf (.ptr 0 0 0 0)), (33, B false), (36, B true), (38, I a0.2.2.2.2.1)], [bx [.v (.int .i64) a0.1, .v .str a0.2.1, .v (.int .i64) a0.2.2.1, .v (.int .i64) a0.2.2.2.1, .v (.int .i64) a0.2.2.2.2.1, .v .bool a0.2.2.2.2.2.1, .v (.sl (.int .i64)) a0.2.2.2.2.2.2] 27]⟩ (tn 2) ?_
          refine VO.on (j := 32) (want := true) (d := 36) (b := true) rfl rfl rfl (by kernel_rfl) rfl ?_
          obtain ⟨y99, hy, h⟩ := andO_some h
          refine cal false [.t (.int .i64), .t (.int .i64), .t (.int .i64)] [] (some 39) T_ok (ok48 N _ _ _ hy) ?_
          refine sN T_ok [1, 42] [0] ⟨[(1, .lf (.ptr 0 0 0 0)), (42, B (!y99))], [bx [.v (.int .i64) a0.1, .v .str a0.2.1, .v (.int .i64) a0.2.2.1, .v (.int .i64) a0.2.2.2.1, .v (.int .i64) a0.2.2.2.2.1, .v .bool a0.2.2.2.2.2.1, .v (.sl (.int .i64)) a0.2.2.2.2.2.2] 27]⟩ (tn 3) ?_
          refine cnd h (fun h => ?_) (fun h => ?_)
          · refine sR T_ok [2] [] ⟨[(2, B false)], []⟩ (tn 1) ?_
            refine VW.ret ?_
            replace h := Option.some.inj h
            subst h
            exact rt []
          refine VW.skip ?_
          exact arv [.ren [1] [0]] ⟨a0.1, a0.2.1, a0.2.2.1, a0.2.2.2.1, a0.2.2.2.2.1, a0.2.2.2.2.2.1, a0.2.2.2.2.2.2, rfl, h⟩
        refine sN T_ok [1, 42] [0] ⟨[(1, .lf (.ptr 0 0 0 0)), (42, B false)], [bx [.v (.int .i64) a0.1, .v .str a0.2.1, .v (.int .i64) a0.2.2.1, .v (.int .i64) a0.2.2.2.1, .v (.int .i64) a0.2.2.2.2.1, .v .bool a0.2.2.2.2.2.1, .v (.sl (.int .i64)) a0.2.2.2.2.2.2] 27]⟩ (tn 6) ?_
        refine VW.cond (b := false) (by kernel_rfl) (fun h' => nomatch h') (fun _ => ?_)
        refine VW.skip ?_
        exact arv [.ren [1] [0]] ⟨a0.1, a0.2.1, a0.2.2.1, a0.2.2.2.1, a0.2.2.2.2.1, a0.2.2.2.2.2.1, a0.2.2.2.2.2.2, rfl, h⟩
      refine sG T_ok 11 [1, 23, 27] [0] ⟨[(1, .lf (.ptr 0 0 0 0)), (23, B false), (27, B (a0.1 != (1 : Int)))], [bx [.v (.int .i64) a0.1, .v .str a0.2.1, .v (.int .i64) a0.2.2.1, .v (.int .i64) a0.2.2.2.1, .v (.int .i64) a0.2.2.2.2.1, .v .bool a0.2.2.2.2.2.1, .v (.sl (.int .i64)) a0.2.2.2.2.2.2] 27]⟩ (tn 11) ?_
      refine spB 27 h (fun h => ?_) (fun h => ?_)
      · refine sG T_ok 6 [1, 33] [0] ⟨[(1, .lf (.ptr 0 0 0 0)), (33, B (a0.2.2.2.1 != (0 : Int)))], [bx [.v (.int .i64) a0.1, .v .str a0.2.1, .v (.int .i64) a0.2.2.1, .v (.int .i64) a0.2.2.2.1, .v (.int .i64) a0.2.2.2.2.1, .v .bool a0.2.2.2.2.2.1, .v (.sl (.int .i64)) a0.2.2.2.2.2.2] 27]⟩ (tn 6) ?_
        refine spB 33 h (fun h => ?_) (fun h => ?_)
        · refine sN T_ok [1, 42] [0] ⟨[(1, .lf (.ptr 0 0 0 0)), (42, B true)], [bx [.v (.int .i64) a0.1, .v .str a0.2.1, .v (.int .i64) a0.2.2.1, .v (.int .i64) a0.2.2.2.1, .v (.int .i64) a0.2.2.2.2.1, .v .bool a0.2.2.2.2.2.1, .v (.sl (.int .i64)) a0.2.2.2.2.2.2] 27]⟩ (tn 9) ?_
          refine VW.cond (b := true) (by kernel_rfl) (fun _ => ?_) (fun h' => nomatch h')
          refine sR T_ok [2] [] ⟨[(2, B false)], []⟩ (tn 1) ?_
          refine VW.ret ?_
          replace h := Option.some.inj h
          subst h
          exact rt []
        refine sG T_ok 3 [1, 33, 36] [0] ⟨[(1, .lf (.ptr 0 0 0 0)), (33, B false), (36, B a0.2.2.2.2.2.1)], [bx [.v (.int .i64) a0.1, .v .str a0.2.1, .v (.int .i64) a0.2.2.1, .v (.int .i64) a0.2.2.2.1, .v (.int .i64) a0.2.2.2.2.1, .v .bool a0.2.2.2.2.2.1, .v (.sl (.int .i64)) a0.2.2.2.2.2.2] 27]⟩ (tn 3) ?_
        refine spB 36 h (fun h => ?_) (fun h => ?_)
        · refine sG T_ok 2 [1, 33, 36, 38] [0] ⟨[(1, .lf (.ptr 0 0 0 0)), (33, B false), (36, B true), (38, I a0.2.2.2.2.1)], [bx [.v (.int .i64) a0.1, .v .str a0.2.1, .v (.int .i64) a0.2.2.1, .v (.int .i64) a0.2.2.2.1, .v (.int .i64) a0.2.2.2.2.1, .v .bool a0.2.2.2.2.2.1, .v (.sl (.int .i64)) a0.2.2.2.2.2.2] 27]⟩ (tn 2) ?_
          refine VO.on (j := 32) (want := true) (d := 36) (b := true) rfl rfl rfl (by kernel_rfl) rfl ?_
          obtain ⟨y100, hy, h⟩ := andO_some h
          refine cal false [.t (.int .i64), .t (.int .i64), .t (.int .i64)] [] (some 39) T_ok (ok48 N _ _ _ hy) ?_
          refine sN T_ok [1, 42] [0] ⟨[(1, .lf (.ptr 0 0 0 0)), (42, B (!y100))], [bx [.v (.int .i64) a0.1, .v .str a0.2.1, .v (.int .i64) a0.2.2.1, .v (.int .i64) a0.2.2.2.1, .v (.int .i64) a0.2.2.2.2.1, .v .bool a0.2.2.2.2.2.1, .v (.sl (.int .i64)) a0.2.2.2.2.2.2] 27]⟩ (tn 3) ?_
          refine cnd h (fun h => ?_) (fun h => ?_)
          · refine sR T_ok [2] [] ⟨[(2, B false)], []⟩ (tn 1) ?_
            refine VW.ret ?_
            replace h := Option.some.inj h
            subst h
            exact rt []
          refine VW.skip ?_
          exact arv [.ren [1] [0]] ⟨a0.1, a0.2.1, a0.2.2.1, a0.2.2.2.1, a0.2.2.2.2.1, a0.2.2.2.2.2.1, a0.2.2.2.2.2.2, rfl, h⟩
        refine sN T_ok [1, 42] [0] ⟨[(1, .lf (.ptr 0 0 0 0)), (42, B false)], [bx [.v (.int .i64) a0.1, .v .str a0.2.1, .v (.int .i64) a0.2.2.1, .v (.int .i64) a0.2.2.2.1, .v (.int .i64) a0.2.2.2.2.1, .v .bool a0.2.2.2.2.2.1, .v (.sl (.int .i64)) a0.2.2.2.2.2.2] 27]⟩ (tn 6) ?_
        refine VW.cond (b := false) (by kernel_rfl) (fun h' => nomatch h') (fun _ => ?_)
        refine VW.skip ?_
        exact arv [.ren [1] [0]] ⟨a0.1, a0.2.1, a0.2.2.1, a0.2.2.2.1, a0.2.2.2.2.1, a0.2.2.2.2.2.1, a0.2.2.2.2.2.2, rfl, h⟩
      refine sG T_ok 9 [1, 33, 36] [0] ⟨[(1, .lf (.ptr 0 0 0 0)), (33, B false), (36, B a0.2.2.2.2.2.1)], [bx [.v (.int .i64) a0.1, .v .str a0.2.1, .v (.int .i64) a0.2.2.1, .v (.int .i64) a0.2.2.2.1, .v (.int .i64) a0.2.2.2.2.1, .v .bool a0.2.2.2.2.2.1, .v (.sl (.int .i64)) a0.2.2.2.2.2.2] 27]⟩ (tn 9) ?_
      refine spB 36 h (fun h => ?_) (fun h => ?_)
      · refine sG T_ok 2 [1, 33, 36, 38] [0] ⟨[(1, .lf (.ptr 0 0 0 0)), (33, B false), (36, B true), (38, I a0.2.2.2.2.1)], [bx [.v (.int .i64) a0.1, .v .str a0.2.1, .v (.int .i64) a0.2.2.1, .v (.int .i64) a0.2.2.2.1, .v (.int .i64) a0.2.2.2.2.1, .v .bool a0.2.2.2.2.2.1, .v (.sl (.int .i64)) a0.2.2.2.2.2.2] 27]⟩ (tn 2) ?_
        refine VO.on (j := 32) (want := true) (d := 36) (b := true) rfl rfl rfl (by kernel_rfl) rfl ?_
        obtain ⟨y101, hy, h⟩ := andO_some h
        refine cal false [.t (.int .i64), .t (.int .i64), .t (.int .i64)] [] (some 39) T_ok (ok48 N _ _ _ hy) ?_
        refine sN T_ok [1, 42] [0] ⟨[(1, .lf (.ptr 0 0 0 0)), (42, B (!y101))], [bx [.v (.int .i64) a0.1, .v .str a0.2.1, .v (.int .i64) a0.2.2.1, .v (.int .i64) a0.2.2.2.1, .v (.int .i64) a0.2.2.2.2.1, .v .bool a0.2.2.2.2.2.1, .v (.sl (.int .i64)) a0.2.2.2.2.2.2] 27]⟩ (tn 3) ?_
        refine cnd h (fun h => ?_) (fun h => ?_)
        · refine sR T_ok [2] [] ⟨[(2, B false)], []⟩ (tn 1) ?_
          refine VW.ret ?_
          replace h := Option.some.inj h
          subst h
          exact rt []
        refine VW.skip ?_
        exact arv [.ren [1] [0]] ⟨a0.1, a0.2.1, a0.2.2.1, a0.2.2.2.1, a0.2.2.2.2.1, a0.2.2.2.2.2.1, a0.2.2.2.2.2.2, rfl, h⟩
      refine sN T_ok [1, 42] [0] ⟨[(1, .lf (.ptr 0 0 0 0)), (42, B false)], [bx [.v (.int .i64) a0.1, .v .str a0.2.1, .v (.int .i64) a0.2.2.1, .v (.int .i64) a0.2.2.2.1, .v (.int .i64) a0.2.2.2.2.1, .v .bool a0.2.2.2.2.2.1, .v (.sl (.int .i64)) a0.2.2.2.2.2.2] 27]⟩ (tn 6) ?_
      refine VW.cond (b := false) (by kernel_rfl) (fun h' => nomatch h') (fun _ => ?_)
      refine VW.skip ?_
      exact arv [.ren [1] [0]] ⟨a0.1, a0.2.1, a0.2.2.1, a0.2.2.2.1, a0.2.2.2.2.1, a0.2.2.2.2.2.1, a0.2.2.2.2.2.2, rfl, h⟩
    refine sG T_ok 9 [1, 12, 16] [0] ⟨[(1, .lf (.ptr 0 0 0 0)), (12, B false), (16, B (a0.1 != (2 : Int)))], [bx [.v (.int .i64) a0.1, .v .str a0.2.1, .v (.int .i64) a0.2.2.1, .v (.int .i64) a0.2.2.2.1, .v (.int .i64) a0.2.2.2.2.1, .v .bool a0.2.2.2.2.2.1, .v (.sl (.int .i64)) a0.2.2.2.2.2.2] 27]⟩ (tn 9) ?_
    refine spB 16 h (fun h => ?_) (fun h => ?_)
    · refine sG T_ok 7 [1, 23] [0] ⟨[(1, .lf (.ptr 0 0 0 0)), (23, B (decide ((a0.2.2.2.2.2.2.length : Int) > (0 : Int))))], [bx [.v (.int .i64) a0.1, .v .str a0.2.1, .v (.int .i64) a0.2.2.1, .v (.int .i64) a0.2.2.2.1, .v (.int .i64) a0.2.2.2.2.1, .v .bool a0.2.2.2.2.2.1, .v (.sl (.int .i64)) a0.2.2.2.2.2.2] 27]⟩ (tn 7) ?_
      refine spB 23 h (fun h => ?_) (fun h => ?_)
      · refine sN T_ok [1, 42] [0] ⟨[(1, .lf (.ptr 0 0 0 0)), (42, B true)], [bx [.v (.int .i64) a0.1, .v .str a0.2.1, .v (.int .i64) a0.2.2.1, .v (.int .i64) a0.2.2.2.1, .v (.int .i64) a0.2.2.2.2.1, .v .bool a0.2.2.2.2.2.1, .v (.sl (.int .i64)) a0.2.2.2.2.2.2] 27]⟩ (tn 19) ?_
        refine VW.cond (b := true) (by kernel_rfl) (fun _ => ?_) (fun h' => nomatch h')
        refine sR T_ok [2] [] ⟨[(2, B false)], []⟩ (tn 1) ?_
        refine VW.ret ?_
        replace h := Option.some.inj h
        subst h
        exact rt []
      refine sG T_ok 4 [1, 23, 27] [0] ⟨[(1, .lf (.ptr 0 0 0 0)), (23, B false), (27, B (a0.1 != (1 : Int)))], [bx [.v (.int .i64) a0.1, .v .str a0.2.1, .v (.int .i64) a0.2.2.1, .v (.int .i64) a0.2.2.2.1, .v (.int .i64) a0.2.2.2.2.1, .v .bool a0.2.2.2.2.2.1, .v (.sl (.int .i64)) a0.2.2.2.2.2.2] 27]⟩ (tn 4) ?_
      refine spB 27 h (fun h => ?_) (fun h => ?_)
      · refine sG T_ok 6 [1, 33] [0] ⟨[(1, .lf (.ptr 0 0 0 0)), (33, B (a0.2.2.2.1 != (0 : Int)))], [bx [.v (.int .i64) a0.1, .v .str a0.2.1, .v (.int .i64) a0.2.2.1, .v (.int .i64) a0.2.2.2.1, .v (.int .i64) a0.2.2.2.2.1, .v .bool a0.2.2.2.2.2.1, .v (.sl (.int .i64)) a0.2.2.2.2.2.2] 27]⟩ (tn 6) ?_
        refine spB 33 h (fun h => ?_) (fun h => ?_)
        · refine sN T_ok [1, 42] [0] ⟨[(1, .lf (.ptr 0 0 0 0)), (42, B true)], [bx [.v (.int .i64) a0.1, .v .str a0.2.1, .v (.int .i64) a0.2.2.1, .v (.int .i64) a0.2.2.2.1, .v (.int .i64) a0.2.2.2.2.1, .v .bool a0.2.2.2.2.2.1, .v (.sl (.int .i64)) a0.2.2.2.2.2.2] 27]⟩ (tn 9) ?_
          refine VW.cond (b := true) (by kernel_rfl) (fun _ => ?_) (fun h' => nomatch h')
          refine sR T_ok [2] [] ⟨[(2, B false)], []⟩ (tn 1) ?_
          refine VW.ret ?_
          replace h := Option.some.inj h
          subst h
          exact rt []
        refine sG T_ok 3 [1, 33, 36] [0] ⟨[(1, .lf (.ptr 0 0 0 0)), (33, B false), (36, B a0.2.2.2.2.2.1)], [bx [.v (.int .i64) a0.1, .v .str a0.2.1, .v (.int .i64) a0.2.2.1, .v (.int .i64) a0.2.2.2.1, .v (.int .i64) a0.2.2.2.2.1, .v .bool a0.2.2.2.2.2.1, .v (.sl (.int .i64)) a0.2.2.2.2.2.2] 27]⟩ (tn 3) ?_
        refine spB 36 h (fun h => ?_) (fun h => ?_)
        · refine sG T_ok 2 [1, 33, 36, 38] [0] ⟨[(1, .lf (.ptr 0 0 0 0)), (33, B false), (36, B true), (38, I a0.2.2.2.2.1)], [bx [.v (.int .i64) a0.1, .v .str a0.2.1, .v (.int .i64) a0.2.2.1, .v (.int .i64) a0.2.2.2.1, .v (.int .i64) a0.2.2.2.2.1, .v .bool a0.2.2.2.2.2.1, .v (.sl (.int .i64)) a0.2.2.2.2.2.2] 27]⟩ (tn 2) ?_
          refine VO.on (j := 32) (want := true) (d := 36) (b := true) rfl rfl rfl (by kernel_rfl) rfl ?_
          obtain ⟨y102, hy, h⟩ := andO_some h
          refine cal false [.t (.int .i64), .t (.int .i64), .t (.int .i64)] [] (some 39) T_ok (ok48 N _ _ _ hy) ?_
          refine sN T_ok [1, 42] [0] ⟨[(1, .lf (.ptr 0 0 0 0)), (42, B (!y102))], [bx [.v (.int .i64) a0.1, .v .str a0.2.1, .v (.int .i64) a0.2.2.1, .v (.int .i64) a0.2.2.2.1, .v (.int .i64) a0.2.2.2.2.1, .v .bool a0.2.2.2.2.2.1, .v (.sl (.int .i64)) a0.2.2.2.2.2.2] 27]⟩ (tn 3) ?_
          refine cnd h (fun h => ?_) (fun h => ?_)
          · refine sR T_ok [2] [] ⟨[(2, B false)], []⟩ (tn 1) ?_
            refine VW.ret ?_
            replace h := Option.some.inj h
            subst h
            exact rt []
          refine VW.skip ?_
          exact arv [.ren [1] [0]] ⟨a0.1, a0.2.1, a0.2.2.1, a0.2.2.2.1, a0.2.2.2.2.1, a0.2.2.2.2.2.1, a0.2.2.2.2.2.2, rfl, h⟩
        refine sN T_ok [1, 42] [0] ⟨[(1, .lf (.ptr 0 0 0 0)), (42, B false)], [bx [.v (.int .i64) a0.1, .v .str a0.2.1, .v (.int .i64) a0.2.2.1, .v (.int .i64) a0.2.2.2.1, .v (.int .i64) a0.2.2.2.2.1, .v .bool a0.2.2.2.2.2.1, .v (.sl (.int .i64)) a0.2.2.2.2.2.2] 27]⟩ (tn 6) ?_
        refine VW.cond (b := false) (by kernel_rfl) (fun h' => nomatch h') (fun _ => ?_)
        refine VW.skip ?_
        exact arv [.ren [1] [0]] ⟨a0.1, a0.2.1, a0.2.2.1, a0.2.2.2.1, a0.2.2.2.2.1, a0.2.2.2.2.2.1, a0.2.2.2.2.2.2, rfl, h⟩
      refine sG T_ok 9 [1, 33, 36] [0] ⟨[(1, .lf (.ptr 0 0 0 0)), (33, B false), (36, B a0.2.2.2.2.2.1)], [bx [.v (.int .i64) a0.1, .v .str a0.2.1, .v (.int .i64) a0.2.2.1, .v (.int .i64) a0.2.2.2.1, .v (.int .i64) a0.2.2.2.2.1, .v .bool a0.2.2.2.2.2.1, .v (.sl (.int .i64)) a0.2.2.2.2.2.2] 27]⟩ (tn 9) ?_
      refine spB 36 h (fun h => ?_) (fun h => ?_)
      · refine sG T_ok 2 [1, 33, 36, 38] [0] ⟨[(1, .lf (.ptr 0 0 0 0)), (33, B false), (36, B true), (38, I a0.2.2.2.2.1)], [bx [.v (.int .i64) a0.1, .v .str a0.2.1, .v (.int .i64) a0.2.2.1, .v (.int .i64) a0.2.2.2.1, .v (.int .i64) a0.2.2.2.2.1, .v .bool a0.2.2.2.2.2.1, .v (.sl (.int .i64)) a0.2.2.2.2.2.2] 27]⟩ (tn 2) ?_
        refine VO.on (j := 32) (want := true) (d := 36) (b := true) rfl rfl rfl (by kernel_rfl) rfl ?_
        obtain ⟨y103, hy, h⟩ := andO_some h
        refine cal false [.t (.int .i64), .t (.int .i64), .t (.int .i64)] [] (some 39) T_ok (ok48 N _ _ _ hy) ?_
        refine sN T_ok [1, 42] [0] ⟨[(1, .lf (.ptr 0 0 0 0)), (42, B (!y103))], [bx [.v (.int .i64) a0.1, .v .str a0.2.1, .v (.int .i64) a0.2.2.1, .v (.int .i64) a0.2.2.2.1, .v (.int .i64) a0.2.2.2.2.1, .v .bool a0.2.2.2.2.2.1, .v (.sl (.int .i64)) a0.2.2.2.2.2.2] 27]⟩ (tn 3) ?_
        refine cnd h (fun h => ?_) (fun h => ?_)
        · refine sR T_ok [2] [] ⟨[(2, B false)], []⟩ (tn 1) ?_
          refine VW.ret ?_
          replace h := Option.some.inj h
          subst h
          exact rt []
        refine VW.skip ?_
        exact arv [.ren [1] [0]] ⟨a0.1, a0.2.1, a0.2.2.1, a0.2.2.2.1, a0.2.2.2.2.1, a0.2.2.2.2.2.1, a0.2.2.2.2.2.2, rfl, h⟩
      refine sN T_ok [1, 42] [0] ⟨[(1, .lf (.ptr 0 0 0 0)), (42, B false)], [bx [.v (.int .i64) a0.1, .v .str a0.2.1, .v (.int .i64) a0.2.2.1, .v (.int .i64) a0.2.2.2.1, .v (.int .i64) a0.2.2.2.2.1, .v .bool a0.2.2.2.2.2.1, .v (.sl (.int .i64)) a0.2.2.2.2.2.2] 27]⟩ (tn 6) ?_
      refine VW.cond (b := false) (by kernel_rfl) (fun h' => nomatch h') (fun _ => ?_)
      refine VW.skip ?_
      exact arv [.ren [1] [0]] ⟨a0.1, a0.2.1, a0.2.2.1, a0.2.2.2.1, a0.2.2.2.2.1, a0.2.2.2.2.2.1, a0.2.2.2.2.2.2, rfl, h⟩
    refine sG T_ok 11 [1, 23, 27] [0] ⟨[(1, .lf (.ptr 0 0 0 0)), (23, B false), (27, B (a0.1 != (1 : Int)))], [bx [.v (.int .i64) a0.1, .v .str a0.2.1, .v (.int .i64) a0.2.2.1, .v (.int .i64) a0.2.2.2.1, .v (.int .i64) a0.2.2.2.2.1, .v .bool a0.2.2.2.2.2.1, .v (.sl (.int .i64)) a0.2.2.2.2.2.2] 27]⟩ (tn 11) ?_
    refine spB 27 h (fun h => ?_) (fun h => ?_)
    · refine sG T_ok 6 [1, 33] [0] ⟨[(1, .lf (.ptr 0 0 0 0)), (33, B (a0.2.2.2.1 != (0 : Int)))], [bx [.v (.int .i64) a0.1, .v .str a0.2.1, .v (.int .i64) a0.2.2.1, .v (.int .i64) a0.2.2.2.1, .v (.int .i64) a0.2.2.2.2.1, .v .bool a0.2.2.2.2.2.1, .v (.sl (.int .i64)) a0.2.2.2.2.2.2] 27]⟩ (tn 6) ?_
      refine spB 33 h (fun h => ?_) (fun h => ?_)
      · refine sN T_ok [1, 42] [0] ⟨[(1, .lf (.ptr 0 0 0 0)), (42, B true)], [bx [.v (.int .i64) a0.1, .v .str a0.2.1, .v (.int .i64) a0.2.2.1, .v (.int .i64) a0.2.2.2.1, .v (.int .i64) a0.2.2.2.2.1, .v .bool a0.2.2.2.2.2.1, .v (.sl (.int .i64)) a0.2.2.2.2.2.2] 27]⟩ (tn 9) ?_
        refine VW.cond (b := true) (by kernel_rfl) (fun _ => ?_) (fun h' => nomatch h')
        refine sR T_ok [2] [] ⟨[(2, B false)], []⟩ (tn 1) ?_
        refine VW.ret ?_
        replace h := Option.some.inj h
        subst h
        exact rt []
      refine sG T_ok 3 [1, 33, 36] [0] ⟨[(1, .lf (.ptr 0 0 0 0)), (33, B false), (36, B a0.2.2.2.2.2.1)], [bx [.v (.int .i64) a0.1, .v .str a0.2.1, .v (.int .i64) a0.2.2.1, .v (.int .i64) a0.2.2.2.1, .v (.int .i64) a0.2.2.2.2.1, .v .bool a0.2.2.2.2.2.1, .v (.sl (.int .i64)) a0.2.2.2.2.2.2] 27]⟩ (tn 3) ?_
      refine spB 36 h (fun h => ?_) (fun h => ?_)
      · refine sG T_ok 2 [1, 33, 36, 38] [0] ⟨[(1, .lf (.ptr 0 0 0 0)), (33, B false), (36, B true), (38, I a0.2.2.2.2.1)], [bx [.v (.int .i64) a0.1, .v .str a0.2.1, .v (.int .i64) a0.2.2.1, .v (.int .i64) a0.2.2.2.1, .v (.int .i64) a0.2.2.2.2.1, .v .bool a0.2.2.2.2.2.1, .v (.sl (.int .i64)) a0.2.2.2.2.2.2] 27]⟩ (tn 2) ?_
        refine VO.on (j := 32) (want := true) (d := 36) (b := true) rfl rfl rfl (by kernel_rfl) rfl ?_
        obtain ⟨y104, hy, h⟩ := andO_some h
        refine cal false [.t (.int .i64), .t (.int .i64), .t (.int .i64)] [] (some 39) T_ok (ok48 N _ _ _ hy) ?_
        refine sN T_ok [1, 42] [0] ⟨[(1, .lf (.ptr 0 0 0 0)), (42, B (!y104))], [bx [.v (.int .i64) a0.1, .v .str a0.2.1, .v (.int .i64) a0.2.2.1, .v (.int .i64) a0.2.2.2.1, .v (.int .i64) a0.2.2.2.2.1, .v .bool a0.2.2.2.2.2.1, .v (.sl (.int .i64)) a0.2.2.2.2.2.2] 27]⟩ (tn 3) ?_
        refine cnd h (fun h => ?_) (fun h => ?_)
        · refine sR T_ok [2] [] ⟨[(2, B false)], []⟩ (tn 1) ?_
          refine VW.ret ?_
          replace h := Option.some.inj h
          subst h
          exact rt []
        refine VW.skip ?_
        exact arv [.ren [1] [0]] ⟨a0.1, a0.2.1, a0.2.2.1, a0.2.2.2.1, a0.2.2.2.2.1, a0.2.2.2.2.2.1, a0.2.2.2.2.2.2, rfl, h⟩
      refine sN T_ok [1, 42] [0] ⟨[(1, .lf (.ptr 0 0 0 0)), (42, B false)], [bx [.v (.int .i64) a0.1, .v .str a0.2.1, .v (.int .i64) a0.2.2.1, .v (.int .i64) a0.2.2.2.1, .v (.int .i64) a0.2.2.2.2.1, .v .bool a0.2.2.2.2.2.1, .v (.sl (.int .i64)) a0.2.2.2.2.2.2] 27]⟩ (tn 6) ?_
      refine VW.cond (b := false) (by kernel_rfl) (fun h' => nomatch h') (fun _ => ?_)
      refine VW.skip ?_
      exact arv [.ren [1] [0]] ⟨a0.1, a0.2.1, a0.2.2.1, a0.2.2.2.1, a0.2.2.2.2.1, a0.2.2.2.2.2.1, a0.2.2.2.2.2.2, rfl, h⟩
    refine sG T_ok 9 [1, 33, 36] [0] ⟨[(1, .lf (.ptr 0 0 0 0)), (33, B false), (36, B a0.2.2.2.2.2.1)], [bx [.v (.int .i64) a0.1, .v .str a0.2.1, .v (.int .i64) a0.2.2.1, .v (.int .i64) a0.2.2.2.1, .v (.int .i64) a0.2.2.2.2.1, .v .bool a0.2.2.2.2.2.1, .v (.sl (.int .i64)) a0.2.2.2.2.2.2] 27]⟩ (tn 9) ?_
    refine spB 36 h (fun h => ?_) (fun h => ?_)
    · refine sG T_ok 2 [1, 33, 36, 38] [0] ⟨[(1, .lf (.ptr 0 0 0 0)), (33, B false), (36, B true), (38, I a0.2.2.2.2.1)], [bx [.v (.int .i64) a0.1, .v .str a0.2.1, .v (.int .i64) a0.2.2.1, .v (.int .i64) a0.2.2.2.1, .v (.int .i64) a0.2.2.2.2.1, .v .bool a0.2.2.2.2.2.1, .v (.sl (.int .i64)) a0.2.2.2.2.2.2] 27]⟩ (tn 2) ?_
      refine VO.on (j := 32) (want := true) (d := 36) (b := true) rfl rfl rfl (by kernel_rfl) rfl ?_
      obtain ⟨y105, hy, h⟩ := andO_some h
      refine cal false [.t (.int .i64), .t (.int .i64), .t (.int .i64)] [] (some 39) T_ok (ok48 N _ _ _ hy) ?_
      refine sN T_ok [1, 42] [0] ⟨[(1, .lf (.ptr 0 0 0 0)), (42, B (!y105))], [bx [.v (.int .i64) a0.1, .v .str a0.2.1, .v (.int .i64) a0.2.2.1, .v (.int .i64) a0.2.2.2.1, .v (.int .i64) a0.2.2.2.2.1, .v .bool a0.2.2.2.2.2.1, .v (.sl (.int .i64)) a0.2.2.2.2.2.2] 27]⟩ (tn 3) ?_
      refine cnd h (fun h => ?_) (fun h => ?_)
      · refine sR T_ok [2] [] ⟨[(2, B false)], []⟩ (tn 1) ?_
        refine VW.ret ?_
        replace h := Option.some.inj h
        subst h
        exact rt []
      refine VW.skip ?_
      exact arv [.ren [1] [0]] ⟨a0.1, a0.2.1, a0.2.2.1, a0.2.2.2.1, a0.2.2.2.2.1, a0.2.2.2.2.2.1, a0.2.2.2.2.2.2, rfl, h⟩
    refine sN T_ok [1, 42] [0] ⟨[(1, .lf (.ptr 0 0 0 0)), (42, B false)], [bx [.v (.int .i64) a0.1, .v .str a0.2.1, .v (.int .i64) a0.2.2.1, .v (.int .i64) a0.2.2.2.1, .v (.int .i64) a0.2.2.2.2.1, .v .bool a0.2.2.2.2.2.1, .v (.sl (.int .i64)) a0.2.2.2.2.2.2] 27]⟩ (tn 6) ?_
    refine VW.cond (b := false) (by kernel_rfl) (fun h' => nomatch h') (fun _ => ?_)
    refine VW.skip ?_
    exact arv [.ren [1] [0]] ⟨a0.1, a0.2.1, a0.2.2.1, a0.2.2.2.1, a0.2.2.2.2.1, a0.2.2.2.2.2.1, a0.2.2.2.2.2.2, rfl, h⟩
  rintro s ⟨x9, x10, x11, x12, x13, x14, x15, rfl, h⟩
  unfold F25_j3 at h
  refine VW.join (fun s => s = ⟨[], []⟩ ∧ F25_j0 N = some r) ?_ ?_
  · refine sR T_ok [1, 44] [0] ⟨[(1, .lf (.ptr 0 0 0 0)), (44, I x9)], [bx [.v (.int .i64) x9, .v .str x10, .v (.int .i64) x11, .v (.int .i64) x12, .v (.int .i64) x13, .v .bool x14, .v (.sl (.int .i64)) x15] 27]⟩ (tn 2) ?_
    refine VW.block ?_
    refine sR T_ok [1, 44, 45] [0] ⟨[(1, .lf (.ptr 0 0 0 0)), (44, I x9), (45, B (x9 == (0 : Int)))], [bx [.v (.int .i64) x9, .v .str x10, .v (.int .i64) x11, .v (.int .i64) x12, .v (.int .i64) x13, .v .bool x14, .v (.sl (.int .i64)) x15] 27]⟩ (tn 2) ?_
    refine cnd h (fun h => ?_) (fun h => ?_)
    · refine VW.seq ?_
      refine VW.region ?_
      refine sG T_ok 2 [1, 48] [0] ⟨[(1, .lf (.ptr 0 0 0 0)), (48, S x10)], [bx [.v (.int .i64) x9, .v .str x10, .v (.int .i64) x11, .v (.int .i64) x12, .v (.int .i64) x13, .v .bool x14, .v (.sl (.int .i64)) x15] 27]⟩ (tn 2) ?_
      obtain ⟨y57, hy, h⟩ := andO_some h
      refine cal false [.t .str] [] (some 49) T_ok (ok49 N _ hy) ?_
      refine sG T_ok 1 [1, 50] [0] ⟨[(1, .lf (.ptr 0 0 0 0)), (50, B y57)], [bx [.v (.int .i64) x9, .v .str x10, .v (.int .i64) x11, .v (.int .i64) x12, .v (.int .i64) x13, .v .bool x14, .v (.sl (.int .i64)) x15] 27]⟩ (tn 1) ?_
      refine spB 50 h (fun h => ?_) (fun h => ?_)
      · refine sG T_ok 5 [1, 55] [0] ⟨[(1, .lf (.ptr 0 0 0 0)), (55, B (x11 == (0 : Int)))], [bx [.v (.int .i64) x9, .v .str x10, .v (.int .i64) x11, .v (.int .i64) x12, .v (.int .i64) x13, .v .bool x14, .v (.sl (.int .i64)) x15] 27]⟩ (tn 5) ?_
        refine spB 55 h (fun h => ?_) (fun h => ?_)
        · refine sG T_ok 5 [1, 60] [0] ⟨[(1, .lf (.ptr 0 0 0 0)), (60, B (x13 == (0 : Int)))], [bx [.v (.int .i64) x9, .v .str x10, .v (.int .i64) x11, .v (.int .i64) x12, .v (.int .i64) x13, .v .bool x14, .v (.sl (.int .i64)) x15] 27]⟩ (tn 5) ?_
          refine spB 60 h (fun h => ?_) (fun h => ?_)
          · refine sN T_ok [2] [] ⟨[(2, B (!x14))], []⟩ (tn 5) ?_
            refine VW.ret ?_
            replace h := Option.some.inj h
            subst h
            exact rt []
          refine sN T_ok [2] [] ⟨[(2, B false)], []⟩ (tn 5) ?_
          refine VW.ret ?_
          replace h := Option.some.inj h
          subst h
          exact rt []
        refine sN T_ok [2] [] ⟨[(2, B false)], []⟩ (tn 10) ?_
        refine VW.ret ?_
        replace h := Option.some.inj h
        subst h
        exact rt []
      refine sN T_ok [2] [] ⟨[(2, B false)], []⟩ (tn 15) ?_
      refine VW.ret ?_
      replace h := Option.some.inj h
      subst h
      exact rt []
    refine sR T_ok [1, 44, 65] [0] ⟨[(1, .lf (.ptr 0 0 0 0)), (44, I x9), (65, B (x9 == (1 : Int)))], [bx [.v (.int .i64) x9, .v .str x10, .v (.int .i64) x11, .v (.int .i64) x12, .v (.int .i64) x13, .v .bool x14, .v (.sl (.int .i64)) x15] 27]⟩ (tn 2) ?_
    refine cnd h (fun h => ?_) (fun h => ?_)
    · refine VW.seq ?_
      refine VW.region ?_
      refine sG T_ok 2 [1, 68] [0] ⟨[(1, .lf (.ptr 0 0 0 0)), (68, I x11)], [bx [.v (.int .i64) x9, .v .str x10, .v (.int .i64) x11, .v (.int .i64) x12, .v (.int .i64) x13, .v .bool x14, .v (.sl (.int .i64)) x15] 27]⟩ (tn 2) ?_
      obtain ⟨y58, hy, h⟩ := andO_some h
      refine cal false [.t (.int .i64)] [] (some 69) T_ok (ok50 N _ hy) ?_
      refine sG T_ok 1 [1, 70] [0] ⟨[(1, .lf (.ptr 0 0 0 0)), (70, B y58)], [bx [.v (.int .i64) x9, .v .str x10, .v (.int .i64) x11, .v (.int .i64) x12, .v (.int .i64) x13, .v .bool x14, .v (.sl (.int .i64)) x15] 27]⟩ (tn 1) ?_
      refine spB 70 h (fun h => ?_) (fun h => ?_)
      · refine sG T_ok 2 [1, 70, 72] [0] ⟨[(1, .lf (.ptr 0 0 0 0)), (70, B true), (72, I x12)], [bx [.v (.int .i64) x9, .v .str x10, .v (.int .i64) x11, .v (.int .i64) x12, .v (.int .i64) x13, .v .bool x14, .v (.sl (.int .i64)) x15] 27]⟩ (tn 2) ?_
        refine VO.on (j := 3) (want := true) (d := 70) (b := true) rfl rfl rfl (by kernel_rfl) rfl ?_
        obtain ⟨y59, hy, h⟩ := andO_some h
        refine cal false [.t (.int .i64), .t (.int .i64), .t (.int .i64)] [] (some 73) T_ok (ok48 N _ _ _ hy) ?_
        refine sG T_ok 2 [1, 75] [0] ⟨[(1, .lf (.ptr 0 0 0 0)), (75, B y59)], [bx [.v (.int .i64) x9, .v .str x10, .v (.int .i64) x11, .v (.int .i64) x12, .v (.int .i64) x13, .v .bool x14, .v (.sl (.int .i64)) x15] 27]⟩ (tn 2) ?_
        refine spB 75 h (fun h => ?_) (fun h => ?_)
        · refine sG T_ok 2 [1, 75, 77] [0] ⟨[(1, .lf (.ptr 0 0 0 0)), (75, B true), (77, I x13)], [bx [.v (.int .i64) x9, .v .str x10, .v (.int .i64) x11, .v (.int .i64) x12, .v (.int .i64) x13, .v .bool x14, .v (.sl (.int .i64)) x15] 27]⟩ (tn 2) ?_
          refine VO.on (j := 8) (want := true) (d := 75) (b := true) rfl rfl rfl (by kernel_rfl) rfl ?_
          obtain ⟨y60, hy, h⟩ := andO_some h
          refine cal false [.t (.int .i64)] [] (some 78) T_ok (ok51 N _ hy) ?_
          refine sG T_ok 2 [1, 80] [0] ⟨[(1, .lf (.ptr 0 0 0 0)), (80, B y60)], [bx [.v (.int .i64) x9, .v .str x10, .v (.int .i64) x11, .v (.int .i64) x12, .v (.int .i64) x13, .v .bool x14, .v (.sl (.int .i64)) x15] 27]⟩ (tn 2) ?_
          refine spB 80 h (fun h => ?_) (fun h => ?_)
          · refine sG T_ok 4 [1, 80, 84] [0] ⟨[(1, .lf (.ptr 0 0 0 0)), (80, B true), (84, B (x12 != (3 : Int)))], [bx [.v (.int .i64) x9, .v .str x10, .v (.int .i64) x11, .v (.int .i64) x12, .v (.int .i64) x13, .v .bool x14, .v (.sl (.int .i64)) x15] 27]⟩ (tn 4) ?_
            refine spB 84 h (fun h => ?_) (fun h => ?_)
            · refine sN T_ok [2] [] ⟨[(2, B true)], []⟩ (tn 11) ?_
              refine VW.ret ?_
              replace h := Option.some.inj h
              subst h
              exact rt []
            refine sG T_ok 4 [1, 80, 84, 88] [0] ⟨[(1, .lf (.ptr 0 0 0 0)), (80, B true), (84, B false), (88, B (x13 == (0 : Int)))], [bx [.v (.int .i64) x9, .v .str x10, .v (.int .i64) x11, .v (.int .i64) x12, .v (.int .i64) x13, .v .bool x14, .v (.sl (.int .i64)) x15] 27]⟩ (tn 4) ?_
            refine spB 88 h (fun h => ?_) (fun h => ?_)
            · refine sN T_ok [2] [] ⟨[(2, B (!x14))], []⟩ (tn 7) ?_
              refine VW.ret ?_
              replace h := Option.some.inj h
              subst h
              exact rt []
            refine sN T_ok [2] [] ⟨[(2, B false)], []⟩ (tn 7) ?_
            refine VW.ret ?_
            replace h := Option.some.inj h
            subst h
            exact rt []
          refine sN T_ok [2] [] ⟨[(2, B false)], []⟩ (tn 15) ?_
          refine VW.ret ?_
          replace h := Option.some.inj h
          subst h
          exact rt []
        refine sN T_ok [2] [] ⟨[(2, B false)], []⟩ (tn 20) ?_
        refine VW.ret ?_
        replace h := Option.some.inj h
        subst h
        exact rt []
      refine sN T_ok [2] [] ⟨[(2, B false)], []⟩ (tn 25) ?_
      refine VW.ret ?_
      replace h := Option.some.inj h
      subst h
      exact rt []
    refine sR T_ok [1, 44, 95] [0] ⟨[(1, .lf (.ptr 0 0 0 0)), (44, I x9), (95, B (x9 == (2 : Int)))], [bx [.v (.int .i64) x9, .v .str x10, .v (.int .i64) x11, .v (.int .i64) x12, .v (.int .i64) x13, .v .bool x14, .v (.sl (.int .i64)) x15] 27]⟩ (tn 2) ?_
    refine cnd h (fun h => ?_) (fun h => ?_)
    · refine VW.join (fun s => s = ⟨[(1, .lf (.ptr 0 0 0 0))], [bx [.v (.int .i64) x9, .v .str x10, .v (.int .i64) x11, .v (.int .i64) x12, .v (.int .i64) x13, .v .bool x14, .v (.sl (.int .i64)) x15] 27]⟩ ∧ F25_j1 N x11 x13 x14 x15 = some r) ?_ ?_
      · refine sR T_ok [1, 3] [0] ⟨[(1, .lf (.ptr 0 0 0 0)), (3, I (0 : Int))], [bx [.v (.int .i64) x9, .v .str x10, .v (.int .i64) x11, .v (.int .i64) x12, .v (.int .i64) x13, .v .bool x14, .v (.sl (.int .i64)) x15] 27]⟩ (tn 1) ?_
        refine VW.block ?_
        refine lop (fun k s => ∃ (x81 : Int), s = ⟨[(1, .lf (.ptr 0 0 0 0)), (3, I x81)], [bx [.v (.int .i64) x9, .v .str x10, .v (.int .i64) x11, .v (.int .i64) x12, .v (.int .i64) x13, .v .bool x14, .v (.sl (.int .i64)) x15] 27]⟩ ∧ F25_l0 N x11 x13 x14 x15 k x81 = some r) N [.ren [1, 3] [0]] ⟨(0 : Int), rfl, h⟩ ?_
        rintro k86 s ⟨x81, rfl, h⟩
        cases k86 with
        | zero => cases show none = some r from h
        | succ k86 =>
          replace h : F25_l0_b N x11 x13 x14 x15 (F25_l0 N x11 x13 x14 x15 k86) x81 = some r := h
          unfold F25_l0_b at h
          refine VW.seq ?_
          refine sR T_ok [1, 3, 101] [0] ⟨[(1, .lf (.ptr 0 0 0 0)), (3, I x81), (101, B (decide (x81 < (x15.length : Int))))], [bx [.v (.int .i64) x9, .v .str x10, .v (.int .i64) x11, .v (.int .i64) x12, .v (.int .i64) x13, .v .bool x14, .v (.sl (.int .i64)) x15] 27]⟩ (tn 5) ?_
          refine cnd h (fun h => ?_) (fun h => ?_)
          · refine VW.skip ?_
            refine VW.seq ?_
            refine VW.block ?_
            refine VW.seq ?_
            refine VW.region ?_
            obtain ⟨g89, h⟩ := gd_some h
            refine sG T_ok 5 [1, 3, 108] [0] ⟨[(1, .lf (.ptr 0 0 0 0)), (3, I x81), (108, I (x15.getD x81.toNat (Ty.dflt (.int .i64))))], [bx [.v (.int .i64) x9, .v .str x10, .v (.int .i64) x11, .v (.int .i64) x12, .v (.int .i64) x13, .v .bool x14, .v (.sl (.int .i64)) x15] 27]⟩ (pu 3 (an g89 (tn 1))) ?_
            obtain ⟨y90, hy, h⟩ := andO_some h
            refine cal false [.t (.int .i64)] [] (some 109) T_ok (ok50 N _ hy) ?_
            refine sN T_ok [1, 3, 110] [0] ⟨[(1, .lf (.ptr 0 0 0 0)), (3, I x81), (110, B (!y90))], [bx [.v (.int .i64) x9, .v .str x10, .v (.int .i64) x11, .v (.int .i64) x12, .v (.int .i64) x13, .v .bool x14, .v (.sl (.int .i64)) x15] 27]⟩ (tn 1) ?_
            refine cnd h (fun h => ?_) (fun h => ?_)
            · refine sR T_ok [2] [] ⟨[(2, B false)], []⟩ (tn 1) ?_
              refine VW.ret ?_
              replace h := Option.some.inj h
              subst h
              exact rt []
            refine VW.skip ?_
            refine rR T_ok [1, 3] [0] ⟨[(1, .lf (.ptr 0 0 0 0)), (3, I (IntKind.i64.wrap (x81 + (1 : Int))))], [bx [.v (.int .i64) x9, .v .str x10, .v (.int .i64) x11, .v (.int .i64) x12, .v (.int .i64) x13, .v .bool x14, .v (.sl (.int .i64)) x15] 27]⟩ (tn 3) ?_
            exact aro [.ren [1, 3] [0]] ⟨(IntKind.i64.wrap (x81 + (1 : Int))), rfl, h⟩
          refine VW.exit ?_
          exact arv [.ren [1] [0]] ⟨rfl, h⟩
      rintro s ⟨rfl, h⟩
      unfold F25_j1 at h
      refine VW.seq ?_
      refine VW.region ?_
      refine sG T_ok 3 [1, 113] [0] ⟨[(1, .lf (.ptr 0 0 0 0)), (113, I (x15.length : Int))], [bx [.v (.int .i64) x9, .v .str x10, .v (.int .i64) x11, .v (.int .i64) x12, .v (.int .i64) x13, .v .bool x14, .v (.sl (.int .i64)) x15] 27]⟩ (tn 3) ?_
      obtain ⟨y75, hy, h⟩ := andO_some h
      refine cal false [.t (.int .i64), .t (.int .i64), .t (.int .i64)] [] (some 114) T_ok (ok48 N _ _ _ hy) ?_
      refine sG T_ok 1 [1, 115] [0] ⟨[(1, .lf (.ptr 0 0 0 0)), (115, B y75)], [bx [.v (.int .i64) x9, .v .str x10, .v (.int .i64) x11, .v (.int .i64) x12, .v (.int .i64) x13, .v .bool x14, .v (.sl (.int .i64)) x15] 27]⟩ (tn 1) ?_
      refine spB 115 h (fun h => ?_) (fun h => ?_)
      · refine sG T_ok 5 [1, 120] [0] ⟨[(1, .lf (.ptr 0 0 0 0)), (120, B (x11 == (0 : Int)))], [bx [.v (.int .i64) x9, .v .str x10, .v (.int .i64) x11, .v (.int .i64) x12, .v (.int .i64) x13, .v .bool x14, .v (.sl (.int .i64)) x15] 27]⟩ (tn 5) ?_
        refine spB 120 h (fun h => ?_) (fun h => ?_)
        · refine sG T_ok 5 [1, 125] [0] ⟨[(1, .lf (.ptr 0 0 0 0)), (125, B (x13 == (0 : Int)))], [bx [.v (.int .i64) x9, .v .str x10, .v (.int .i64) x11, .v (.int .i64) x12, .v (.int .i64) x13, .v .bool x14, .v (.sl (.int .i64)) x15] 27]⟩ (tn 5) ?_
          refine spB 125 h (fun h => ?_) (fun h => ?_)
          · refine sN T_ok [2] [] ⟨[(2, B (!x14))], []⟩ (tn 5) ?_
            refine VW.ret ?_
            replace h := Option.some.inj h
            subst h
            exact rt []
          refine sN T_ok [2] [] ⟨[(2, B false)], []⟩ (tn 5) ?_
          refine VW.ret ?_
          replace h := Option.some.inj h
          subst h
          exact rt []
        refine sN T_ok [2] [] ⟨[(2, B false)], []⟩ (tn 10) ?_
        refine VW.ret ?_
        replace h := Option.some.inj h
        subst h
        exact rt []
      refine sN T_ok [2] [] ⟨[(2, B false)], []⟩ (tn 15) ?_
      refine VW.ret ?_
      replace h := Option.some.inj h
      subst h
      exact rt []
    refine sR T_ok [1, 44, 130] [0] ⟨[(1, .lf (.ptr 0 0 0 0)), (44, I x9), (130, B (x9 == (3 : Int)))], [bx [.v (.int .i64) x9, .v .str x10, .v (.int .i64) x11, .v (.int .i64) x12, .v (.int .i64) x13, .v .bool x14, .v (.sl (.int .i64)) x15] 27]⟩ (tn 2) ?_
    refine cnd h (fun h => ?_) (fun h => ?_)
    · refine VW.seq ?_
      refine VW.region ?_
      refine sG T_ok 2 [1, 133] [0] ⟨[(1, .lf (.ptr 0 0 0 0)), (133, I x11)], [bx [.v (.int .i64) x9, .v .str x10, .v (.int .i64) x11, .v (.int .i64) x12, .v (.int .i64) x13, .v .bool x14, .v (.sl (.int .i64)) x15] 27]⟩ (tn 2) ?_
      obtain ⟨y91, hy, h⟩ := andO_some h
      refine cal false [.t (.int .i64)] [] (some 134) T_ok (ok50 N _ hy) ?_
      refine sG T_ok 1 [1, 135] [0] ⟨[(1, .lf (.ptr 0 0 0 0)), (135, B y91)], [bx [.v (.int .i64) x9, .v .str x10, .v (.int .i64) x11, .v (.int .i64) x12, .v (.int .i64) x13, .v .bool x14, .v (.sl (.int .i64)) x15] 27]⟩ (tn 1) ?_
      refine spB 135 h (fun h => ?_) (fun h => ?_)
      · refine sG T_ok 2 [1, 135, 137] [0] ⟨[(1, .lf (.ptr 0 0 0 0)), (135, B true), (137, I x13)], [bx [.v (.int .i64) x9, .v .str x10, .v (.int .i64) x11, .v (.int .i64) x12, .v (.int .i64) x13, .v .bool x14, .v (.sl (.int .i64)) x15] 27]⟩ (tn 2) ?_
        refine VO.on (j := 3) (want := true) (d := 135) (b := true) rfl rfl rfl (by kernel_rfl) rfl ?_
        obtain ⟨y92, hy, h⟩ := andO_some h
        refine cal false [.t (.int .i64)] [] (some 138) T_ok (ok50 N _ hy) ?_
        refine sG T_ok 2 [1, 140] [0] ⟨[(1, .lf (.ptr 0 0 0 0)), (140, B y92)], [bx [.v (.int .i64) x9, .v .str x10, .v (.int .i64) x11, .v (.int .i64) x12, .v (.int .i64) x13, .v .bool x14, .v (.sl (.int .i64)) x15] 27]⟩ (tn 2) ?_
        refine spB 140 h (fun h => ?_) (fun h => ?_)
        · refine sN T_ok [2] [] ⟨[(2, B (!x14))], []⟩ (tn 5) ?_
          refine VW.ret ?_
          replace h := Option.some.inj h
          subst h
          exact rt []
        refine sN T_ok [2] [] ⟨[(2, B false)], []⟩ (tn 5) ?_
        refine VW.ret ?_
        replace h := Option.some.inj h
        subst h
        exact rt []
      refine sN T_ok [2] [] ⟨[(2, B false)], []⟩ (tn 10) ?_
      refine VW.ret ?_
      replace h := Option.some.inj h
      subst h
      exact rt []
    refine sR T_ok [1, 44, 145] [0] ⟨[(1, .lf (.ptr 0 0 0 0)), (44, I x9), (145, B (x9 == (5 : Int)))], [bx [.v (.int .i64) x9, .v .str x10, .v (.int .i64) x11, .v (.int .i64) x12, .v (.int .i64) x13, .v .bool x14, .v (.sl (.int .i64)) x15] 27]⟩ (tn 2) ?_
    refine cnd h (fun h => ?_) (fun h => ?_)
    · refine VW.seq ?_
      refine VW.region ?_
      refine sG T_ok 2 [1, 148] [0] ⟨[(1, .lf (.ptr 0 0 0 0)), (148, I x11)], [bx [.v (.int .i64) x9, .v .str x10, .v (.int .i64) x11, .v (.int .i64) x12, .v (.int .i64) x13, .v .bool x14, .v (.sl (.int .i64)) x15] 27]⟩ (tn 2) ?_
      obtain ⟨y93, hy, h⟩ := andO_some h
      refine cal false [.t (.int .i64)] [] (some 149) T_ok (ok50 N _ hy) ?_
      refine sG T_ok 1 [1, 150] [0] ⟨[(1, .lf (.ptr 0 0 0 0)), (150, B y93)], [bx [.v (.int .i64) x9, .v .str x10, .v (.int .i64) x11, .v (.int .i64) x12, .v (.int .i64) x13, .v .bool x14, .v (.sl (.int .i64)) x15] 27]⟩ (tn 1) ?_
      refine spB 150 h (fun h => ?_) (fun h => ?_)
      · refine sG T_ok 5 [1, 155] [0] ⟨[(1, .lf (.ptr 0 0 0 0)), (155, B (x13 == (0 : Int)))], [bx [.v (.int .i64) x9, .v .str x10, .v (.int .i64) x11, .v (.int .i64) x12, .v (.int .i64) x13, .v .bool x14, .v (.sl (.int .i64)) x15] 27]⟩ (tn 5) ?_
        refine spB 155 h (fun h => ?_) (fun h => ?_)
        · refine sN T_ok [2] [] ⟨[(2, B (!x14))], []⟩ (tn 5) ?_
          refine VW.ret ?_
          replace h := Option.some.inj h
          subst h
          exact rt []
        refine sN T_ok [2] [] ⟨[(2, B false)], []⟩ (tn 5) ?_
        refine VW.ret ?_
        replace h := Option.some.inj h
        subst h
        exact rt []
      refine sN T_ok [2] [] ⟨[(2, B false)], []⟩ (tn 10) ?_
      refine VW.ret ?_
      replace h := Option.some.inj h
      subst h
      exact rt []
    refine sR T_ok [1, 44, 160] [0] ⟨[(1, .lf (.ptr 0 0 0 0)), (44, I x9), (160, B (x9 == (6 : Int)))], [bx [.v (.int .i64) x9, .v .str x10, .v (.int .i64) x11, .v (.int .i64) x12, .v (.int .i64) x13, .v .bool x14, .v (.sl (.int .i64)) x15] 27]⟩ (tn 2) ?_
    refine cnd h (fun h => ?_) (fun h => ?_)
    · refine VW.seq ?_
      refine VW.region ?_
      refine sG T_ok 4 [1, 165] [0] ⟨[(1, .lf (.ptr 0 0 0 0)), (165, B (x11 == (0 : Int)))], [bx [.v (.int .i64) x9, .v .str x10, .v (.int .i64) x11, .v (.int .i64) x12, .v (.int .i64) x13, .v .bool x14, .v (.sl (.int .i64)) x15] 27]⟩ (tn 4) ?_
      refine spB 165 h (fun h => ?_) (fun h => ?_)
      · refine sG T_ok 2 [165, 167] [] ⟨[(165, B true), (167, I x13)], []⟩ (tn 2) ?_
        refine VO.on (j := 3) (want := true) (d := 165) (b := true) rfl rfl rfl (by kernel_rfl) rfl ?_
        obtain ⟨y94, hy, h⟩ := andO_some h
        refine cal false [.t (.int .i64), .t (.int .i64), .t (.int .i64)] [] (some 168) T_ok (ok48 N _ _ _ hy) ?_
        refine sN T_ok [2] [] ⟨[(2, B y94)], []⟩ (tn 2) ?_
        refine VW.ret ?_
        replace h := Option.some.inj h
        subst h
        exact rt []
      refine sN T_ok [2] [] ⟨[(2, B false)], []⟩ (tn 5) ?_
      refine VW.ret ?_
      replace h := Option.some.inj h
      subst h
      exact rt []
    refine VW.join (fun s => ∃ (x95 : Bool), s = ⟨[(1, .lf (.ptr 0 0 0 0)), (170, B x95)], [bx [.v (.int .i64) x9, .v .str x10, .v (.int .i64) x11, .v (.int .i64) x12, .v (.int .i64) x13, .v .bool x14, .v (.sl (.int .i64)) x15] 27]⟩ ∧ F25_j2 N x11 x13 x14 x95 = some r) ?_ ?_
    · refine sR T_ok [1, 44, 170] [0] ⟨[(1, .lf (.ptr 0 0 0 0)), (44, I x9), (170, B (x9 == (4 : Int)))], [bx [.v (.int .i64) x9, .v .str x10, .v (.int .i64) x11, .v (.int .i64) x12, .v (.int .i64) x13, .v .bool x14, .v (.sl (.int .i64)) x15] 27]⟩ (tn 2) ?_
      refine cnd h (fun h => ?_) (fun h => ?_)
      · refine VW.skip ?_
        exact arv [.ren [1, 170] [0]] ⟨(x9 == (4 : Int)), rfl, h⟩
      refine rR T_ok [1, 170] [0] ⟨[(1, .lf (.ptr 0 0 0 0)), (170, B (x9 == (7 : Int)))], [bx [.v (.int .i64) x9, .v .str x10, .v (.int .i64) x11, .v (.int .i64) x12, .v (.int .i64) x13, .v .bool x14, .v (.sl (.int .i64)) x15] 27]⟩ (tn 2) ?_
      exact arv [.ren [1, 170] [0]] ⟨(x9 == (7 : Int)), rfl, h⟩
    rintro s ⟨x95, rfl, h⟩
    unfold F25_j2 at h
    refine cnd h (fun h => ?_) (fun h => ?_)
    · refine VW.seq ?_
      refine VW.region ?_
      refine sG T_ok 4 [1, 176] [0] ⟨[(1, .lf (.ptr 0 0 0 0)), (176, B (x11 == (0 : Int)))], [bx [.v (.int .i64) x9, .v .str x10, .v (.int .i64) x11, .v (.int .i64) x12, .v (.int .i64) x13, .v .bool x14, .v (.sl (.int .i64)) x15] 27]⟩ (tn 4) ?_
      refine spB 176 h (fun h => ?_) (fun h => ?_)
      · refine sG T_ok 5 [1, 181] [0] ⟨[(1, .lf (.ptr 0 0 0 0)), (181, B (x13 == (0 : Int)))], [bx [.v (.int .i64) x9, .v .str x10, .v (.int .i64) x11, .v (.int .i64) x12, .v (.int .i64) x13, .v .bool x14, .v (.sl (.int .i64)) x15] 27]⟩ (tn 5) ?_
        refine spB 181 h (fun h => ?_) (fun h => ?_)
        · refine sN T_ok [2] [] ⟨[(2, B (!x14))], []⟩ (tn 5) ?_
          refine VW.ret ?_
          replace h := Option.some.inj h
          subst h
          exact rt []
        refine sN T_ok [2] [] ⟨[(2, B false)], []⟩ (tn 5) ?_
        refine VW.ret ?_
        replace h := Option.some.inj h
        subst h
        exact rt []
      refine sN T_ok [2] [] ⟨[(2, B false)], []⟩ (tn 10) ?_
      refine VW.ret ?_
      replace h := Option.some.inj h
      subst h
      exact rt []
    refine VW.skip ?_
    exact arv [.ren [] []] ⟨rfl, h⟩
  rintro s ⟨rfl, h⟩
  unfold F25_j0 at h
  refine sR T_ok [2] [] ⟨[(2, B false)], []⟩ (tn 1) ?_
  refine VW.ret ?_
  replace h := Option.some.inj h
  subst h
  exact rt []

/- loop.example/g00844/spec.l06Verbs -/
def F26 (N : Nat) : Option ((List ByteArray)) :=
  some ([(⟨#[115, 99, 97, 110]⟩ : ByteArray), (⟨#[102, 105, 108, 116, 101, 114]⟩ : ByteArray), (⟨#[107, 101, 101, 112]⟩ : ByteArray), (⟨#[106, 111, 105, 110]⟩ : ByteArray), (⟨#[98, 111, 116, 104]⟩ : ByteArray), (⟨#[115, 111, 114, 116]⟩ : ByteArray), (⟨#[108, 105, 109, 105, 116]⟩ : ByteArray), (⟨#[111, 110, 99, 101]⟩ : ByteArray)])
theorem ok26 (N : Nat) {r : (List ByteArray)} (h : F26 N  = some r) : Con Go.Proofs.Tryd.prog 26 [] [.lf (.own .str r .dp)] := by
  refine ctr [.lf (.own .str .dp)] T_ok Go.Proofs.Tryd.func26 rfl fun w0 E0 ht => ?_
  unfold F26 at h
  show VW _ _ _ _ _ (retQ _ _ _ _) _
  refine sR T_ok [] [] ⟨[], []⟩ (tn 1) ?_
  refine sR T_ok [0] [0] ⟨[(0, .lf (.hd 0 0 none))], [ar 0 .str ([(⟨#[115, 99, 97, 110]⟩ : ByteArray), (⟨#[102, 105, 108, 116, 101, 114]⟩ : ByteArray), (⟨#[107, 101, 101, 112]⟩ : ByteArray), (⟨#[106, 111, 105, 110]⟩ : ByteArray), (⟨#[98, 111, 116, 104]⟩ : ByteArray), (⟨#[115, 111, 114, 116]⟩ : ByteArray), (⟨#[108, 105, 109, 105, 116]⟩ : ByteArray), (⟨#[111, 110, 99, 101]⟩ : ByteArray)]) .dp]⟩ (tn 2) ?_
  refine VW.ret ?_
  replace h := Option.some.inj h
  subst h
  exact rt [some 0]

/- loop.example/g00844/spec.l01Num -/
def F27_j0 (N : Nat) (x15 : ByteArray) (x16 : Bool) : Option (ByteArray) :=
  cond x16 (gd ((⟨#[45]⟩ : ByteArray).size + x15.size ≤ 9223372036854775807) (some ((⟨#[45]⟩ : ByteArray) ++ x15))) (some x15)
def F27_j1 (N : Nat) (nx30 : Int → ByteArray → Bool → Option (ByteArray)) (x24 : Int) (x25 : ByteArray) (x26 : Bool) (x31 : Int) : Option (ByteArray) :=
  gd ((strOfNums ([(IntKind.u8.wrap (IntKind.i64.wrap ((48 : Int) + x31)))])).size + x25.size ≤ 9223372036854775807) (nx30 (IntKind.i64.wrap (Int.tdiv x24 (10 : Int))) ((strOfNums ([(IntKind.u8.wrap (IntKind.i64.wrap ((48 : Int) + x31)))])) ++ x25) x26)
def F27_l0_b (N : Nat) (nx30 : Int → ByteArray → Bool → Option (ByteArray)) (x24 : Int) (x25 : ByteArray) (x26 : Bool) : Option (ByteArray) :=
  cond (x24 != (0 : Int)) (cond (decide ((Int.tmod x24 (10 : Int)) < (0 : Int))) (F27_j1 N nx30 x24 x25 x26 (IntKind.i64.wrap ((0 : Int) - (Int.tmod x24 (10 : Int))))) (F27_j1 N nx30 x24 x25 x26 (Int.tmod x24 (10 : Int)))) (F27_j0 N x25 x26)
def F27_l0 (N : Nat) : Nat → Int → ByteArray → Bool → Option (ByteArray) := loopF (F27_l0_b N) (fun _ _ _ => none)
theorem F27_l0_s (N : Nat) {k : Nat} (hk : 0 < k) (x24 : Int) (x25 : ByteArray) (x26 : Bool) : F27_l0 N k x24 x25 x26 = F27_l0_b N (F27_l0 N (k - 1)) x24 x25 x26 := by
  cases k with
  | zero => exact absurd hk (Nat.lt_irrefl 0)
  | succ m => rfl
def F27 (N : Nat) (a0 : Int) : Option (ByteArray) :=
  cond (a0 == (0 : Int)) (some (⟨#[48]⟩ : ByteArray)) (F27_l0 N N a0 ByteArray.empty (decide (a0 < (0 : Int))))
theorem ok27 (N : Nat) (a0 : Int) {r : ByteArray} (h : F27 N a0 = some r) : Con Go.Proofs.Tryd.prog 27 [I a0] [.lf (.v .str r)] := by
  refine ctr [.lf (.v .str)] T_ok Go.Proofs.Tryd.func27 rfl fun w0 E0 ht => ?_
  unfold F27 at h
  show VW _ _ _ _ _ (retQ _ _ _ _) _
  refine sR T_ok [0] [] ⟨[(0, I a0)], []⟩ (tn 1) ?_
  refine VW.seq ?_
  refine sR T_ok [0, 7] [] ⟨[(0, I a0), (7, B (a0 == (0 : Int)))], []⟩ (tn 2) ?_
  refine cnd h (fun h => ?_) (fun h => ?_)
  · refine sR T_ok [2] [] ⟨[(2, S (⟨#[48]⟩ : ByteArray))], []⟩ (tn 1) ?_
    refine VW.ret ?_
    replace h := Option.some.inj h
    subst h
    exact rt []
  refine VW.skip ?_
  refine sR T_ok [0, 3] [] ⟨[(0, I a0), (3, S ByteArray.empty)], []⟩ (tn 1) ?_
  refine sR T_ok [0, 3, 4] [] ⟨[(0, I a0), (3, S ByteArray.empty), (4, B (decide (a0 < (0 : Int))))], []⟩ (tn 3) ?_
  refine VW.join (fun s => ∃ (x15 : ByteArray) (x16 : Bool), s = ⟨[(3, S x15), (4, B x16)], []⟩ ∧ F27_j0 N x15 x16 = some r) ?_ ?_
  · refine VW.block ?_
    refine lop (fun k s => ∃ (x24 : Int) (x25 : ByteArray) (x26 : Bool), s = ⟨[(0, I x24), (3, S x25), (4, B x26)], []⟩ ∧ F27_l0 N k x24 x25 x26 = some r) N [.ren [0, 3, 4] []] ⟨a0, ByteArray.empty, (decide (a0 < (0 : Int))), rfl, h⟩ ?_
    rintro k30 s ⟨x24, x25, x26, rfl, h⟩
    cases k30 with
    | zero => cases show none = some r from h
    | succ k30 =>
      replace h : F27_l0_b N (F27_l0 N k30) x24 x25 x26 = some r := h
      unfold F27_l0_b at h
      refine VW.seq ?_
      refine sR T_ok [0, 3, 4, 11] [] ⟨[(0, I x24), (3, S x25), (4, B x26), (11, B (x24 != (0 : Int)))], []⟩ (tn 2) ?_
      refine cnd h (fun h => ?_) (fun h => ?_)
      · refine VW.skip ?_
        refine VW.block ?_
        refine sR T_ok [0, 3, 4, 5] [] ⟨[(0, I x24), (3, S x25), (4, B x26), (5, I (Int.tmod x24 (10 : Int)))], []⟩ (pu 1 (an (show ((10 : Int) ≠ 0) from by decide) (tn 1))) ?_
        refine VW.join (fun s => ∃ (x31 : Int), s = ⟨[(0, I x24), (3, S x25), (4, B x26), (5, I x31)], []⟩ ∧ F27_j1 N (F27_l0 N k30) x24 x25 x26 x31 = some r) ?_ ?_
        · refine sR T_ok [0, 3, 4, 5, 15] [] ⟨[(0, I x24), (3, S x25), (4, B x26), (5, I (Int.tmod x24 (10 : Int))), (15, B (decide ((Int.tmod x24 (10 : Int)) < (0 : Int))))], []⟩ (tn 2) ?_
          refine cnd h (fun h => ?_) (fun h => ?_)
          · refine rR T_ok [0, 3, 4, 5] [] ⟨[(0, I x24), (3, S x25), (4, B x26), (5, I (IntKind.i64.wrap ((0 : Int) - (Int.tmod x24 (10 : Int)))))], []⟩ (tn 3) ?_
            exact arv [.ren [0, 3, 4, 5] []] ⟨(IntKind.i64.wrap ((0 : Int) - (Int.tmod x24 (10 : Int)))), rfl, h⟩
          refine VW.skip ?_
          exact arv [.ren [0, 3, 4, 5] []] ⟨(Int.tmod x24 (10 : Int)), rfl, h⟩
        rintro s ⟨x31, rfl, h⟩
        unfold F27_j1 at h
        obtain ⟨g32, h⟩ := gd_some h
        refine sR T_ok [0, 3, 4] [] ⟨[(0, I x24), (3, S ((strOfNums ([(IntKind.u8.wrap (IntKind.i64.wrap ((48 : Int) + x31)))])) ++ x25)), (4, B x26)], []⟩ (pu 6 (an g32 (tn 1))) ?_
        refine rR T_ok [0, 3, 4] [] ⟨[(0, I (IntKind.i64.wrap (Int.tdiv x24 (10 : Int)))), (3, S ((strOfNums ([(IntKind.u8.wrap (IntKind.i64.wrap ((48 : Int) + x31)))])) ++ x25)), (4, B x26)], []⟩ (pu 1 (an (show ((10 : Int) ≠ 0) from by decide) (tn 1))) ?_
        exact aro [.ren [0, 3, 4] []] ⟨(IntKind.i64.wrap (Int.tdiv x24 (10 : Int))), ((strOfNums ([(IntKind.u8.wrap (IntKind.i64.wrap ((48 : Int) + x31)))])) ++ x25), x26, rfl, h⟩
      refine VW.exit ?_
      exact arv [.ren [3, 4] []] ⟨x25, x26, rfl, h⟩
  rintro s ⟨x15, x16, rfl, h⟩
  unfold F27_j0 at h
  refine VW.seq ?_
  refine sR T_ok [3, 27] [] ⟨[(3, S x15), (27, B x16)], []⟩ (tn 1) ?_
  refine cnd h (fun h => ?_) (fun h => ?_)
  · obtain ⟨g18, h⟩ := gd_some h
    refine sR T_ok [2] [] ⟨[(2, S ((⟨#[45]⟩ : ByteArray) ++ x15))], []⟩ (pu 1 (an g18 (tn 1))) ?_
    refine VW.ret ?_
    replace h := Option.some.inj h
    subst h
    exact rt []
  refine VW.skip ?_
  refine sR T_ok [2] [] ⟨[(2, S x15)], []⟩ (tn 2) ?_
  refine VW.ret ?_
  replace h := Option.some.inj h
  subst h
  exact rt []

/- loop.example/g00844/spec.l06Ops -/
def F28 (N : Nat) : Option ((List ByteArray)) :=
  some ([(⟨#[61]⟩ : ByteArray), (⟨#[60]⟩ : ByteArray), (⟨#[62]⟩ : ByteArray), (⟨#[110, 111, 110, 101]⟩ : ByteArray)])
theorem ok28 (N : Nat) {r : (List ByteArray)} (h : F28 N  = some r) : Con Go.Proofs.Tryd.prog 28 [] [.lf (.own .str r .dp)] := by
  refine ctr [.lf (.own .str .dp)] T_ok Go.Proofs.Tryd.func28 rfl fun w0 E0 ht => ?_
  unfold F28 at h
  show VW _ _ _ _ _ (retQ _ _ _ _) _
  refine sR T_ok [] [] ⟨[], []⟩ (tn 1) ?_
  refine sR T_ok [0] [0] ⟨[(0, .lf (.hd 0 0 none))], [ar 0 .str ([(⟨#[61]⟩ : ByteArray), (⟨#[60]⟩ : ByteArray), (⟨#[62]⟩ : ByteArray), (⟨#[110, 111, 110, 101]⟩ : ByteArray)]) .dp]⟩ (tn 2) ?_
  refine VW.ret ?_
  replace h := Option.some.inj h
  subst h
  exact rt [some 0]

/- loop.example/g00844/spec.l06Num -/
def F29 (N : Nat) (a0 : (Int × (ByteArray × (Int × (Int × (Int × (Bool × (List Int)))))))) : Option (ByteArray) :=
  cond a0.2.2.2.2.2.1 (andO (F27 N a0.2.2.2.2.1) fun y3 => gd ((⟨#[36]⟩ : ByteArray).size + y3.size ≤ 9223372036854775807) (some ((⟨#[36]⟩ : ByteArray) ++ y3))) (andO (F27 N a0.2.2.2.2.1) fun y5 => some y5)
theorem ok29 (N : Nat) (a0 : (Int × (ByteArray × (Int × (Int × (Int × (Bool × (List Int)))))))) {r : ByteArray} (h : F29 N a0 = some r) : Con Go.Proofs.Tryd.prog 29 [.agg [.v (.int .i64) a0.1, .v .str a0.2.1, .v (.int .i64) a0.2.2.1, .v (.int .i64) a0.2.2.2.1, .v (.int .i64) a0.2.2.2.2.1, .v .bool a0.2.2.2.2.2.1, .v (.sl (.int .i64)) a0.2.2.2.2.2.2]] [.lf (.v .str r)] := by
  refine ctr [.lf (.v .str)] T_ok Go.Proofs.Tryd.func29 rfl fun w0 E0 ht => ?_
  unfold F29 at h
  show VW _ _ _ _ _ (retQ _ _ _ _) _
  refine sR T_ok [1] [0] ⟨[(1, .lf (.ptr 0 0 0 0))], [bx [.v (.int .i64) a0.1, .v .str a0.2.1, .v (.int .i64) a0.2.2.1, .v (.int .i64) a0.2.2.2.1, .v (.int .i64) a0.2.2.2.2.1, .v .bool a0.2.2.2.2.2.1, .v (.sl (.int .i64)) a0.2.2.2.2.2.2] 27]⟩ (tn 2) ?_
  refine VW.seq ?_
  refine sR T_ok [1, 4] [0] ⟨[(1, .lf (.ptr 0 0 0 0)), (4, B a0.2.2.2.2.2.1)], [bx [.v (.int .i64) a0.1, .v .str a0.2.1, .v (.int .i64) a0.2.2.1, .v (.int .i64) a0.2.2.2.1, .v (.int .i64) a0.2.2.2.2.1, .v .bool a0.2.2.2.2.2.1, .v (.sl (.int .i64)) a0.2.2.2.2.2.2] 27]⟩ (tn 2) ?_
  refine cnd h (fun h => ?_) (fun h => ?_)
  · refine VW.seq ?_
    refine VW.region ?_
    refine sG T_ok 2 [6] [] ⟨[(6, I a0.2.2.2.2.1)], []⟩ (tn 2) ?_
    obtain ⟨y3, hy, h⟩ := andO_some h
    refine cal false [.t (.int .i64)] [] (some 7) T_ok (ok27 N _ hy) ?_
    obtain ⟨g4, h⟩ := gd_some h
    refine sN T_ok [2] [] ⟨[(2, S ((⟨#[36]⟩ : ByteArray) ++ y3))], []⟩ (an g4 (tn 1)) ?_
    refine VW.ret ?_
    replace h := Option.some.inj h
    subst h
    exact rt []
  refine VW.skip ?_
  refine VW.seq ?_
  refine VW.region ?_
  refine sG T_ok 2 [10] [] ⟨[(10, I a0.2.2.2.2.1)], []⟩ (tn 2) ?_
  obtain ⟨y5, hy, h⟩ := andO_some h
  refine cal false [.t (.int .i64)] [] (some 11) T_ok (ok27 N _ hy) ?_
  refine sN T_ok [2] [] ⟨[(2, S y5)], []⟩ (tn 1) ?_
  refine VW.ret ?_
  replace h := Option.some.inj h
  subst h
  exact rt []

/- loop.example/g00844/spec.NodeText -/
def F8_j0 (N : Nat) (x76 : ByteArray) : Option (ByteArray) :=
  some x76
def F8_l0_b (N : Nat) (nx127 : Int → ByteArray → Int → Int → Int → Bool → (List Int) → ByteArray → Int → Option (ByteArray)) (x110 : Int) (x111 : ByteArray) (x112 : Int) (x113 : Int) (x114 : Int) (x115 : Bool) (x116 : (List Int)) (x117 : ByteArray) (x118 : Int) : Option (ByteArray) :=
  cond (decide (x118 < (x116.length : Int))) (gd (x117.size + (⟨#[32]⟩ : ByteArray).size ≤ 9223372036854775807) (gd (InR x118 x116.length) (andO (F27 N (x116.getD x118.toNat (Ty.dflt (.int .i64)))) fun y134 => gd ((x117 ++ (⟨#[32]⟩ : ByteArray)).size + y134.size ≤ 9223372036854775807) (nx127 x110 x111 x112 x113 x114 x115 x116 ((x117 ++ (⟨#[32]⟩ : ByteArray)) ++ y134) (IntKind.i64.wrap (x118 + (1 : Int))))))) (F8_j0 N x117)
def F8_l0 (N : Nat) : Nat → Int → ByteArray → Int → Int → Int → Bool → (List Int) → ByteArray → Int → Option (ByteArray) := loopF (F8_l0_b N) (fun _ _ _ _ _ _ _ _ _ => none)
theorem F8_l0_s (N : Nat) {k : Nat} (hk : 0 < k) (x110 : Int) (x111 : ByteArray) (x112 : Int) (x113 : Int) (x114 : Int) (x115 : Bool) (x116 : (List Int)) (x117 : ByteArray) (x118 : Int) : F8_l0 N k x110 x111 x112 x113 x114 x115 x116 x117 x118 = F8_l0_b N (F8_l0 N (k - 1)) x110 x111 x112 x113 x114 x115 x116 x117 x118 := by
  cases k with
  | zero => exact absurd hk (Nat.lt_irrefl 0)
  | succ m => rfl
def F8 (N : Nat) (a0 : (Int × (ByteArray × (Int × (Int × (Int × (Bool × (List Int)))))))) : Option (ByteArray) :=
  andO (F25 N a0) fun y2 => cond (!y2) (some ByteArray.empty) (andO (F26 N ) fun y3 => gd (InR a0.1 y3.length) (gd (a0.1.toNat < y3.length) (cond (a0.1 == (0 : Int)) (gd ((y3.getD a0.1.toNat (Ty.dflt .str)).size + (⟨#[32]⟩ : ByteArray).size ≤ 9223372036854775807) (gd (((y3.getD a0.1.toNat (Ty.dflt .str)) ++ (⟨#[32]⟩ : ByteArray)).size + a0.2.1.size ≤ 9223372036854775807) (some (((y3.getD a0.1.toNat (Ty.dflt .str)) ++ (⟨#[32]⟩ : ByteArray)) ++ a0.2.1)))) (cond (a0.1 == (1 : Int)) (gd ((y3.getD a0.1.toNat (Ty.dflt .str)).size + (⟨#[32]⟩ : ByteArray).size ≤ 9223372036854775807) (andO (F27 N a0.2.2.1) fun y81 => gd (((y3.getD a0.1.toNat (Ty.dflt .str)) ++ (⟨#[32]⟩ : ByteArray)).size + y81.size ≤ 9223372036854775807) (gd ((((y3.getD a0.1.toNat (Ty.dflt .str)) ++ (⟨#[32]⟩ : ByteArray)) ++ y81).size + (⟨#[32]⟩ : ByteArray).size ≤ 9223372036854775807) (andO (F28 N ) fun y84 => gd (InR a0.2.2.2.1 y84.length) (gd (a0.2.2.2.1.toNat < y84.length) (gd (((((y3.getD a0.1.toNat (Ty.dflt .str)) ++ (⟨#[32]⟩ : ByteArray)) ++ y81) ++ (⟨#[32]⟩ : ByteArray)).size + (y84.getD a0.2.2.2.1.toNat (Ty.dflt .str)).size ≤ 9223372036854775807) (cond (a0.2.2.2.1 != (3 : Int)) (gd ((((((y3.getD a0.1.toNat (Ty.dflt .str)) ++ (⟨#[32]⟩ : ByteArray)) ++ y81) ++ (⟨#[32]⟩ : ByteArray)) ++ (y84.getD a0.2.2.2.1.toNat (Ty.dflt .str))).size + (⟨#[32]⟩ : ByteArray).size ≤ 9223372036854775807) (andO (F29 N a0) fun y89 => gd (((((((y3.getD a0.1.toNat (Ty.dflt .str)) ++ (⟨#[32]⟩ : ByteArray)) ++ y81) ++ (⟨#[32]⟩ : ByteArray)) ++ (y84.getD a0.2.2.2.1.toNat (Ty.dflt .str))) ++ (⟨#[32]⟩ : ByteArray)).size + y89.size ≤ 9223372036854775807) (F8_j0 N (((((((y3.getD a0.1.toNat (Ty.dflt .str)) ++ (⟨#[32]⟩ : ByteArray)) ++ y81) ++ (⟨#[32]⟩ : ByteArray)) ++ (y84.getD a0.2.2.2.1.toNat (Ty.dflt .str))) ++ (⟨#[32]⟩ : ByteArray)) ++ y89)))) (F8_j0 N (((((y3.getD a0.1.toNat (Ty.dflt .str)) ++ (⟨#[32]⟩ : ByteArray)) ++ y81) ++ (⟨#[32]⟩ : ByteArray)) ++ (y84.getD a0.2.2.2.1.toNat (Ty.dflt .str))))))))))) (cond (a0.1 == (2 : Int)) (gd ((y3.getD a0.1.toNat (Ty.dflt .str)).size + (⟨#[32]⟩ : ByteArray).size ≤ 9223372036854775807) (andO (F27 N (a0.2.2.2.2.2.2.length : Int)) fun y92 => gd (((y3.getD a0.1.toNat (Ty.dflt .str)) ++ (⟨#[32]⟩ : ByteArray)).size + y92.size ≤ 9223372036854775807) (F8_l0 N N a0.1 a0.2.1 a0.2.2.1 a0.2.2.2.1 a0.2.2.2.2.1 a0.2.2.2.2.2.1 a0.2.2.2.2.2.2 (((y3.getD a0.1.toNat (Ty.dflt .str)) ++ (⟨#[32]⟩ : ByteArray)) ++ y92) (0 : Int)))) (cond (a0.1 == (3 : Int)) (gd ((y3.getD a0.1.toNat (Ty.dflt .str)).size + (⟨#[32]⟩ : ByteArray).size ≤ 9223372036854775807) (andO (F27 N a0.2.2.1) fun y137 => gd (((y3.getD a0.1.toNat (Ty.dflt .str)) ++ (⟨#[32]⟩ : ByteArray)).size + y137.size ≤ 9223372036854775807) (gd ((((y3.getD a0.1.toNat (Ty.dflt .str)) ++ (⟨#[32]⟩ : ByteArray)) ++ y137).size + (⟨#[32]⟩ : ByteArray).size ≤ 9223372036854775807) (andO (F27 N a0.2.2.2.2.1) fun y140 => gd (((((y3.getD a0.1.toNat (Ty.dflt .str)) ++ (⟨#[32]⟩ : ByteArray)) ++ y137) ++ (⟨#[32]⟩ : ByteArray)).size + y140.size ≤ 9223372036854775807) (F8_j0 N (((((y3.getD a0.1.toNat (Ty.dflt .str)) ++ (⟨#[32]⟩ : ByteArray)) ++ y137) ++ (⟨#[32]⟩ : ByteArray)) ++ y140)))))) (cond (a0.1 == (5 : Int)) (gd ((y3.getD a0.1.toNat (Ty.dflt .str)).size + (⟨#[32]⟩ : ByteArray).size ≤ 9223372036854775807) (andO (F27 N a0.2.2.1) fun y143 => gd (((y3.getD a0.1.toNat (Ty.dflt .str)) ++ (⟨#[32]⟩ : ByteArray)).size + y143.size ≤ 9223372036854775807) (F8_j0 N (((y3.getD a0.1.toNat (Ty.dflt .str)) ++ (⟨#[32]⟩ : ByteArray)) ++ y143)))) (cond (a0.1 == (6 : Int)) (gd ((y3.getD a0.1.toNat (Ty.dflt .str)).size + (⟨#[32]⟩ : ByteArray).size ≤ 9223372036854775807) (andO (F29 N a0) fun y146 => gd (((y3.getD a0.1.toNat (Ty.dflt .str)) ++ (⟨#[32]⟩ : ByteArray)).size + y146.size ≤ 9223372036854775807) (F8_j0 N (((y3.getD a0.1.toNat (Ty.dflt .str)) ++ (⟨#[32]⟩ : ByteArray)) ++ y146)))) (F8_j0 N (y3.getD a0.1.toNat (Ty.dflt .str)))))))))))
theorem ok8 (N : Nat) (a0 : (Int × (ByteArray × (Int × (Int × (Int × (Bool × (List Int)))))))) {r : ByteArray} (h : F8 N a0 = some r) : Con Go.Proofs.Tryd.prog 8 [.agg [.v (.int .i64) a0.1, .v .str a0.2.1, .v (.int .i64) a0.2.2.1, .v (.int .i64) a0.2.2.2.1, .v (.int .i64) a0.2.2.2.2.1, .v .bool a0.2.2.2.2.2.1, .v (.sl (.int .i64)) a0.2.2.2.2.2.2]] [.lf (.v .str r)] := by
  refine ctr [.lf (.v .str)] T_ok Go.Proofs.Tryd.func8 rfl fun w0 E0 ht => ?_
  unfold F8 at h
  show VW _ _ _ _ _ (retQ _ _ _ _) _
  refine sR T_ok [1] [0] ⟨[(1, .lf (.ptr 0 0 0 0))], [bx [.v (.int .i64) a0.1, .v .str a0.2.1, .v (.int .i64) a0.2.2.1, .v (.int .i64) a0.2.2.2.1, .v (.int .i64) a0.2.2.2.2.1, .v .bool a0.2.2.2.2.2.1, .v (.sl (.int .i64)) a0.2.2.2.2.2.2] 27]⟩ (tn 2) ?_
  refine VW.seq ?_
  refine VW.seq ?_
  refine VW.region ?_
  refine sG T_ok 1 [1, 5] [0] ⟨[(1, .lf (.ptr 0 0 0 0)), (5, .agg [.v (.int .i64) a0.1, .v .str a0.2.1, .v (.int .i64) a0.2.2.1, .v (.int .i64) a0.2.2.2.1, .v (.int .i64) a0.2.2.2.2.1, .v .bool a0.2.2.2.2.2.1, .v (.sl (.int .i64)) a0.2.2.2.2.2.2])], [bx [.v (.int .i64) a0.1, .v .str a0.2.1, .v (.int .i64) a0.2.2.1, .v (.int .i64) a0.2.2.2.1, .v (.int .i64) a0.2.2.2.2.1, .v .bool a0.2.2.2.2.2.1, .v (.sl (.int .i64)) a0.2.2.2.2.2.2] 27]⟩ (tn 1) ?_
  obtain ⟨y2, hy, h⟩ := andO_some h
  refine cal false [.t Y23] [] (some 6) T_ok (ok25 N _ hy) ?_
  refine sN T_ok [1, 7] [0] ⟨[(1, .lf (.ptr 0 0 0 0)), (7, B (!y2))], [bx [.v (.int .i64) a0.1, .v .str a0.2.1, .v (.int .i64) a0.2.2.1, .v (.int .i64) a0.2.2.2.1, .v (.int .i64) a0.2.2.2.2.1, .v .bool a0.2.2.2.2.2.1, .v (.sl (.int .i64)) a0.2.2.2.2.2.2] 27]⟩ (tn 1) ?_
  refine cnd h (fun h => ?_) (fun h => ?_)
  · refine sR T_ok [2] [] ⟨[(2, S ByteArray.empty)], []⟩ (tn 1) ?_
    refine VW.ret ?_
    replace h := Option.some.inj h
    subst h
    exact rt []
  refine VW.skip ?_
  refine VW.seq ?_
  obtain ⟨y3, hy3, h⟩ := andO_some h
  obtain ⟨g4, h⟩ := gd_some h
  obtain ⟨g5, h⟩ := gd_some h
  refine VW.drawn (by kernel_rfl) [some (8, .lf (.hd 1 0 none)), some (9, .lf (.ptr 0 0 0 0)), some (10, I a0.1), some (11, .lf (.ptr 1 0 a0.1.toNat 0)), some (12, S (y3.getD a0.1.toNat (Ty.dflt .str))), some (3, S (y3.getD a0.1.toNat (Ty.dflt .str)))] [0] [[bx [.v (.int .i64) a0.1, .v .str a0.2.1, .v (.int .i64) a0.2.2.1, .v (.int .i64) a0.2.2.2.1, .v (.int .i64) a0.2.2.2.2.1, .v .bool a0.2.2.2.2.2.1, .v (.sl (.int .i64)) a0.2.2.2.2.2.2] 27], [bx [.v (.int .i64) a0.1, .v .str a0.2.1, .v (.int .i64) a0.2.2.1, .v (.int .i64) a0.2.2.2.1, .v (.int .i64) a0.2.2.2.2.1, .v .bool a0.2.2.2.2.2.1, .v (.sl (.int .i64)) a0.2.2.2.2.2.2] 27, ar 0 .str y3 .dp]] [(0, 0), (1, 0), (1, 1), (2, 0), (2, 1), (3, 1), (4, 0), (4, 1), (5, 1)] [1, 3] [0] (s' := ⟨[(1, .lf (.ptr 0 0 0 0)), (3, S (y3.getD a0.1.toNat (Ty.dflt .str)))], [bx [.v (.int .i64) a0.1, .v .str a0.2.1, .v (.int .i64) a0.2.2.1, .v (.int .i64) a0.2.2.2.1, .v (.int .i64) a0.2.2.2.2.1, .v .bool a0.2.2.2.2.2.1, .v (.sl (.int .i64)) a0.2.2.2.2.2.2] 27]⟩) (by kernel_rfl) (by kernel_rfl) ⟨⟨_, rfl, Stp.eq (Stp.call false [] [] T_ok (d := some 8) (by kernel_rfl) (ok26 N  hy3) rfl) (by kernel_rfl) (by kernel_rfl)⟩,
    ⟨_, rfl, Stp.ev T_ok (m := .dp) (φ := True) (by kernel_rfl) trivial⟩,
    ⟨_, rfl, Stp.ev T_ok (m := .dp) (φ := True) (by kernel_rfl) trivial⟩,
    ⟨_, rfl, Stp.ev T_ok (m := .dp) (φ := True) (by kernel_rfl) trivial⟩,
    ⟨_, rfl, Stp.ev T_ok (m := .dp) (φ := True) (by kernel_rfl) trivial⟩,
    ⟨_, rfl, Stp.ev T_ok (m := .dp) (φ := InR a0.1 y3.length) (by kernel_rfl) g4⟩,
    ⟨_, rfl, Stp.void 11 1 0 a0.1.toNat 0 rfl rfl⟩,
    ⟨_, rfl, Stp.ev T_ok (m := .dp) (φ := a0.1.toNat < y3.length) (by kernel_rfl) g5⟩,
    ⟨_, rfl, Stp.ev T_ok (m := .dp) (φ := True) (by kernel_rfl) trivial⟩, trivial⟩ (by kernel_rfl) ?_
  refine VW.join (fun s => ∃ (x76 : ByteArray), s = ⟨[(3, S x76)], []⟩ ∧ F8_j0 N x76 = some r) ?_ ?_
  · refine sR T_ok [1, 3, 14] [0] ⟨[(1, .lf (.ptr 0 0 0 0)), (3, S (y3.getD a0.1.toNat (Ty.dflt .str))), (14, I a0.1)], [bx [.v (.int .i64) a0.1, .v .str a0.2.1, .v (.int .i64) a0.2.2.1, .v (.int .i64) a0.2.2.2.1, .v (.int .i64) a0.2.2.2.2.1, .v .bool a0.2.2.2.2.2.1, .v (.sl (.int .i64)) a0.2.2.2.2.2.2] 27]⟩ (tn 2) ?_
    refine VW.block ?_
    refine sR T_ok [1, 3, 14, 15] [0] ⟨[(1, .lf (.ptr 0 0 0 0)), (3, S (y3.getD a0.1.toNat (Ty.dflt .str))), (14, I a0.1), (15, B (a0.1 == (0 : Int)))], [bx [.v (.int .i64) a0.1, .v .str a0.2.1, .v (.int .i64) a0.2.2.1, .v (.int .i64) a0.2.2.2.1, .v (.int .i64) a0.2.2.2.2.1, .v .bool a0.2.2.2.2.2.1, .v (.sl (.int .i64)) a0.2.2.2.2.2.2] 27]⟩ (tn 2) ?_
    refine cnd h (fun h => ?_) (fun h => ?_)
    · obtain ⟨g78, h⟩ := gd_some h
      obtain ⟨g79, h⟩ := gd_some h
      refine sR T_ok [2] [] ⟨[(2, S (((y3.getD a0.1.toNat (Ty.dflt .str)) ++ (⟨#[32]⟩ : ByteArray)) ++ a0.2.1))], []⟩ (pu 1 (an g78 (pu 2 (an g79 (tn 1))))) ?_
      refine VW.ret ?_
      replace h := Option.some.inj h
      subst h
      exact rt []
    refine sR T_ok [1, 3, 14, 22] [0] ⟨[(1, .lf (.ptr 0 0 0 0)), (3, S (y3.getD a0.1.toNat (Ty.dflt .str))), (14, I a0.1), (22, B (a0.1 == (1 : Int)))], [bx [.v (.int .i64) a0.1, .v .str a0.2.1, .v (.int .i64) a0.2.2.1, .v (.int .i64) a0.2.2.2.1, .v (.int .i64) a0.2.2.2.2.1, .v .bool a0.2.2.2.2.2.1, .v (.sl (.int .i64)) a0.2.2.2.2.2.2] 27]⟩ (tn 2) ?_
    refine cnd h (fun h => ?_) (fun h => ?_)
    · refine VW.seq ?_
      obtain ⟨g80, h⟩ := gd_some h
      obtain ⟨y81, hy81, h⟩ := andO_some h
      obtain ⟨g82, h⟩ := gd_some h
      obtain ⟨g83, h⟩ := gd_some h
      obtain ⟨y84, hy84, h⟩ := andO_some h
      obtain ⟨g85, h⟩ := gd_some h
      obtain ⟨g86, h⟩ := gd_some h
      obtain ⟨g87, h⟩ := gd_some h
      refine VW.drawn (by kernel_rfl) [some (24, S (y3.getD a0.1.toNat (Ty.dflt .str))), some (25, S ((y3.getD a0.1.toNat (Ty.dflt .str)) ++ (⟨#[32]⟩ : ByteArray))), some (26, .lf (.ptr 0 0 0 2)), some (27, I a0.2.2.1), some (28, S y81), some (29, S (((y3.getD a0.1.toNat (Ty.dflt .str)) ++ (⟨#[32]⟩ : ByteArray)) ++ y81)), some (30, S ((((y3.getD a0.1.toNat (Ty.dflt .str)) ++ (⟨#[32]⟩ : ByteArray)) ++ y81) ++ (⟨#[32]⟩ : ByteArray))), some (31, .lf (.hd 1 0 none)), some (32, .lf (.ptr 0 0 0 3)), some (33, I a0.2.2.2.1), some (34, .lf (.ptr 1 0 a0.2.2.2.1.toNat 0)), some (35, S (y84.getD a0.2.2.2.1.toNat (Ty.dflt .str))), some (36, S (((((y3.getD a0.1.toNat (Ty.dflt .str)) ++ (⟨#[32]⟩ : ByteArray)) ++ y81) ++ (⟨#[32]⟩ : ByteArray)) ++ (y84.getD a0.2.2.2.1.toNat (Ty.dflt .str)))), some (3, S (((((y3.getD a0.1.toNat (Ty.dflt .str)) ++ (⟨#[32]⟩ : ByteArray)) ++ y81) ++ (⟨#[32]⟩ : ByteArray)) ++ (y84.getD a0.2.2.2.1.toNat (Ty.dflt .str))))] [7] [[bx [.v (.int .i64) a0.1, .v .str a0.2.1, .v (.int .i64) a0.2.2.1, .v (.int .i64) a0.2.2.2.1, .v (.int .i64) a0.2.2.2.2.1, .v .bool a0.2.2.2.2.2.1, .v (.sl (.int .i64)) a0.2.2.2.2.2.2] 27], [bx [.v (.int .i64) a0.1, .v .str a0.2.1, .v (.int .i64) a0.2.2.1, .v (.int .i64) a0.2.2.2.1, .v (.int .i64) a0.2.2.2.2.1, .v .bool a0.2.2.2.2.2.1, .v (.sl (.int .i64)) a0.2.2.2.2.2.2] 27, ar 0 .str y84 .dp]] [(0, 0), (0, 1), (1, 0), (1, 1), (2, 0), (2, 1), (3, 0), (3, 1), (4, 0), (5, 0), (5, 1), (6, 0), (6, 1), (7, 0), (8, 0), (8, 1), (9, 0), (9, 1), (10, 1), (11, 0), (11, 1), (12, 0), (12, 1), (13, 1)] [1, 3] [0] (s' := ⟨[(1, .lf (.ptr 0 0 0 0)), (3, S (((((y3.getD a0.1.toNat (Ty.dflt .str)) ++ (⟨#[32]⟩ : ByteArray)) ++ y81) ++ (⟨#[32]⟩ : ByteArray)) ++ (y84.getD a0.2.2.2.1.toNat (Ty.dflt .str))))], [bx [.v (.int .i64) a0.1, .v .str a0.2.1, .v (.int .i64) a0.2.2.1, .v (.int .i64) a0.2.2.2.1, .v (.int .i64) a0.2.2.2.2.1, .v .bool a0.2.2.2.2.2.1, .v (.sl (.int .i64)) a0.2.2.2.2.2.2] 27]⟩) (by kernel_rfl) (by kernel_rfl) ⟨⟨_, rfl, Stp.ev T_ok (m := .dp) (φ := True) (by kernel_rfl) trivial⟩,
    ⟨_, rfl, Stp.ev T_ok (m := .dp) (φ := True) (by kernel_rfl) trivial⟩,
    ⟨_, rfl, Stp.ev T_ok (m := .dp) (φ := (y3.getD a0.1.toNat (Ty.dflt .str)).size + (⟨#[32]⟩ : ByteArray).size ≤ 9223372036854775807) (by kernel_rfl) g80⟩,
    ⟨_, rfl, Stp.ev T_ok (m := .dp) (φ := (y3.getD a0.1.toNat (Ty.dflt .str)).size + (⟨#[32]⟩ : ByteArray).size ≤ 9223372036854775807) (by kernel_rfl) g80⟩,
    ⟨_, rfl, Stp.ev T_ok (m := .dp) (φ := True) (by kernel_rfl) trivial⟩,
    ⟨_, rfl, Stp.ev T_ok (m := .dp) (φ := True) (by kernel_rfl) trivial⟩,
    ⟨_, rfl, Stp.ev T_ok (m := .dp) (φ := True) (by kernel_rfl) trivial⟩,
    ⟨_, rfl, Stp.ev T_ok (m := .dp) (φ := True) (by kernel_rfl) trivial⟩,
    ⟨_, rfl, Stp.eq (Stp.call false [.t (.int .i64)] [] T_ok (d := some 28) (by kernel_rfl) (ok27 N _ hy81) rfl) (by kernel_rfl) (by kernel_rfl)⟩,
    ⟨_, rfl, Stp.ev T_ok (m := .dp) (φ := ((y3.getD a0.1.toNat (Ty.dflt .str)) ++ (⟨#[32]⟩ : ByteArray)).size + y81.size ≤ 9223372036854775807) (by kernel_rfl) g82⟩,
    ⟨_, rfl, Stp.ev T_ok (m := .dp) (φ := ((y3.getD a0.1.toNat (Ty.dflt .str)) ++ (⟨#[32]⟩ : ByteArray)).size + y81.size ≤ 9223372036854775807) (by kernel_rfl) g82⟩,
    ⟨_, rfl, Stp.ev T_ok (m := .dp) (φ := (((y3.getD a0.1.toNat (Ty.dflt .str)) ++ (⟨#[32]⟩ : ByteArray)) ++ y81).size + (⟨#[32]⟩ : ByteArray).size ≤ 9223372036854775807) (by kernel_rfl) g83⟩,
    ⟨_, rfl, Stp.ev T_ok (m := .dp) (φ := (((y3.getD a0.1.toNat (Ty.dflt .str)) ++ (⟨#[32]⟩ : ByteArray)) ++ y81).size + (⟨#[32]⟩ : ByteArray).size ≤ 9223372036854775807) (by kernel_rfl) g83⟩,
    ⟨_, rfl, Stp.eq (Stp.call false [] [] T_ok (d := some 31) (by kernel_rfl) (ok28 N  hy84) rfl) (by kernel_rfl) (by kernel_rfl)⟩,
    ⟨_, rfl, Stp.ev T_ok (m := .dp) (φ := True) (by kernel_rfl) trivial⟩,
    ⟨_, rfl, Stp.ev T_ok (m := .dp) (φ := True) (by kernel_rfl) trivial⟩,
    ⟨_, rfl, Stp.ev T_ok (m := .dp) (φ := True) (by kernel_rfl) trivial⟩,
    ⟨_, rfl, Stp.ev T_ok (m := .dp) (φ := True) (by kernel_rfl) trivial⟩,
    ⟨_, rfl, Stp.ev T_ok (m := .dp) (φ := InR a0.2.2.2.1 y84.length) (by kernel_rfl) g85⟩,
    ⟨_, rfl, Stp.void 34 1 0 a0.2.2.2.1.toNat 0 rfl rfl⟩,
    ⟨_, rfl, Stp.ev T_ok (m := .dp) (φ := a0.2.2.2.1.toNat < y84.length) (by kernel_rfl) g86⟩,
    ⟨_, rfl, Stp.ev T_ok (m := .dp) (φ := ((((y3.getD a0.1.toNat (Ty.dflt .str)) ++ (⟨#[32]⟩ : ByteArray)) ++ y81) ++ (⟨#[32]⟩ : ByteArray)).size + (y84.getD a0.2.2.2.1.toNat (Ty.dflt .str)).size ≤ 9223372036854775807) (by kernel_rfl) g87⟩,
    ⟨_, rfl, Stp.ev T_ok (m := .dp) (φ := ((((y3.getD a0.1.toNat (Ty.dflt .str)) ++ (⟨#[32]⟩ : ByteArray)) ++ y81) ++ (⟨#[32]⟩ : ByteArray)).size + (y84.getD a0.2.2.2.1.toNat (Ty.dflt .str)).size ≤ 9223372036854775807) (by kernel_rfl) g87⟩,
    ⟨_, rfl, Stp.ev T_ok (m := .dp) (φ := True) (by kernel_rfl) trivial⟩, trivial⟩ (by kernel_rfl) ?_
      refine sR T_ok [1, 3, 39] [0] ⟨[(1, .lf (.ptr 0 0 0 0)), (3, S (((((y3.getD a0.1.toNat (Ty.dflt .str)) ++ (⟨#[32]⟩ : ByteArray)) ++ y81) ++ (⟨#[32]⟩ : ByteArray)) ++ (y84.getD a0.2.2.2.1.toNat (Ty.dflt .str)))), (39, B (a0.2.2.2.1 != (3 : Int)))], [bx [.v (.int .i64) a0.1, .v .str a0.2.1, .v (.int .i64) a0.2.2.1, .v (.int .i64) a0.2.2.2.1, .v (.int .i64) a0.2.2.2.2.1, .v .bool a0.2.2.2.2.2.1, .v (.sl (.int .i64)) a0.2.2.2.2.2.2] 27]⟩ (tn 3) ?_
      refine cnd h (fun h => ?_) (fun h => ?_)
      · refine VW.region ?_
        obtain ⟨g88, h⟩ := gd_some h
        refine sG T_ok 3 [41, 42] [] ⟨[(41, S ((((((y3.getD a0.1.toNat (Ty.dflt .str)) ++ (⟨#[32]⟩ : ByteArray)) ++ y81) ++ (⟨#[32]⟩ : ByteArray)) ++ (y84.getD a0.2.2.2.1.toNat (Ty.dflt .str))) ++ (⟨#[32]⟩ : ByteArray))), (42, .agg [.v (.int .i64) a0.1, .v .str a0.2.1, .v (.int .i64) a0.2.2.1, .v (.int .i64) a0.2.2.2.1, .v (.int .i64) a0.2.2.2.2.1, .v .bool a0.2.2.2.2.2.1, .v (.sl (.int .i64)) a0.2.2.2.2.2.2])], []⟩ (pu 1 (an g88 (tn 1))) ?_
        obtain ⟨y89, hy, h⟩ := andO_some h
        refine cal false [.t Y23] [] (some 43) T_ok (ok29 N _ hy) ?_
        obtain ⟨g90, h⟩ := gd_some h
        refine sN T_ok [3] [] ⟨[(3, S (((((((y3.getD a0.1.toNat (Ty.dflt .str)) ++ (⟨#[32]⟩ : ByteArray)) ++ y81) ++ (⟨#[32]⟩ : ByteArray)) ++ (y84.getD a0.2.2.2.1.toNat (Ty.dflt .str))) ++ (⟨#[32]⟩ : ByteArray)) ++ y89))], []⟩ (an g90 (tn 1)) ?_
        exact arv [.ren [3] []] ⟨(((((((y3.getD a0.1.toNat (Ty.dflt .str)) ++ (⟨#[32]⟩ : ByteArray)) ++ y81) ++ (⟨#[32]⟩ : ByteArray)) ++ (y84.getD a0.2.2.2.1.toNat (Ty.dflt .str))) ++ (⟨#[32]⟩ : ByteArray)) ++ y89), rfl, h⟩
      refine VW.skip ?_
      exact arv [.ren [3] []] ⟨(((((y3.getD a0.1.toNat (Ty.dflt .str)) ++ (⟨#[32]⟩ : ByteArray)) ++ y81) ++ (⟨#[32]⟩ : ByteArray)) ++ (y84.getD a0.2.2.2.1.toNat (Ty.dflt .str))), rfl, h⟩
    refine sR T_ok [1, 3, 14, 45] [0] ⟨[(1, .lf (.ptr 0 0 0 0)), (3, S (y3.getD a0.1.toNat (Ty.dflt .str))), (14, I a0.1), (45, B (a0.1 == (2 : Int)))], [bx [.v (.int .i64) a0.1, .v .str a0.2.1, .v (.int .i64) a0.2.2.1, .v (.int .i64) a0.2.2.2.1, .v (.int .i64) a0.2.2.2.2.1, .v .bool a0.2.2.2.2.2.1, .v (.sl (.int .i64)) a0.2.2.2.2.2.2] 27]⟩ (tn 2) ?_
    refine cnd h (fun h => ?_) (fun h => ?_)
    · refine VW.seq ?_
      refine VW.region ?_
      obtain ⟨g91, h⟩ := gd_some h
      refine sG T_ok 5 [1, 48, 51] [0] ⟨[(1, .lf (.ptr 0 0 0 0)), (48, S ((y3.getD a0.1.toNat (Ty.dflt .str)) ++ (⟨#[32]⟩ : ByteArray))), (51, I (a0.2.2.2.2.2.2.length : Int))], [bx [.v (.int .i64) a0.1, .v .str a0.2.1, .v (.int .i64) a0.2.2.1, .v (.int .i64) a0.2.2.2.1, .v (.int .i64) a0.2.2.2.2.1, .v .bool a0.2.2.2.2.2.1, .v (.sl (.int .i64)) a0.2.2.2.2.2.2] 27]⟩ (pu 1 (an g91 (tn 3))) ?_
      obtain ⟨y92, hy, h⟩ := andO_some h
      refine cal false [.t (.int .i64)] [] (some 52) T_ok (ok27 N _ hy) ?_
      obtain ⟨g93, h⟩ := gd_some h
      refine sN T_ok [1, 3] [0] ⟨[(1, .lf (.ptr 0 0 0 0)), (3, S (((y3.getD a0.1.toNat (Ty.dflt .str)) ++ (⟨#[32]⟩ : ByteArray)) ++ y92))], [bx [.v (.int .i64) a0.1, .v .str a0.2.1, .v (.int .i64) a0.2.2.1, .v (.int .i64) a0.2.2.2.1, .v (.int .i64) a0.2.2.2.2.1, .v .bool a0.2.2.2.2.2.1, .v (.sl (.int .i64)) a0.2.2.2.2.2.2] 27]⟩ (an g93 (tn 1)) ?_
      refine sR T_ok [1, 3, 4] [0] ⟨[(1, .lf (.ptr 0 0 0 0)), (3, S (((y3.getD a0.1.toNat (Ty.dflt .str)) ++ (⟨#[32]⟩ : ByteArray)) ++ y92)), (4, I (0 : Int))], [bx [.v (.int .i64) a0.1, .v .str a0.2.1, .v (.int .i64) a0.2.2.1, .v (.int .i64) a0.2.2.2.1, .v (.int .i64) a0.2.2.2.2.1, .v .bool a0.2.2.2.2.2.1, .v (.sl (.int .i64)) a0.2.2.2.2.2.2] 27]⟩ (tn 1) ?_
      refine VW.block ?_
      refine lop (fun k s => ∃ (x110 : Int) (x111 : ByteArray) (x112 : Int) (x113 : Int) (x114 : Int) (x115 : Bool) (x116 : (List Int)) (x117 : ByteArray) (x118 : Int), s = ⟨[(1, .lf (.ptr 0 0 0 0)), (3, S x117), (4, I x118)], [bx [.v (.int .i64) x110, .v .str x111, .v (.int .i64) x112, .v (.int .i64) x113, .v (.int .i64) x114, .v .bool x115, .v (.sl (.int .i64)) x116] 27]⟩ ∧ F8_l0 N k x110 x111 x112 x113 x114 x115 x116 x117 x118 = some r) N [.ren [1, 3, 4] [0]] ⟨a0.1, a0.2.1, a0.2.2.1, a0.2.2.2.1, a0.2.2.2.2.1, a0.2.2.2.2.2.1, a0.2.2.2.2.2.2, (((y3.getD a0.1.toNat (Ty.dflt .str)) ++ (⟨#[32]⟩ : ByteArray)) ++ y92), (0 : Int), rfl, h⟩ ?_
      rintro k127 s ⟨x110, x111, x112, x113, x114, x115, x116, x117, x118, rfl, h⟩
      cases k127 with
      | zero => cases show none = some r from h
      | succ k127 =>
        replace h : F8_l0_b N (F8_l0 N k127) x110 x111 x112 x113 x114 x115 x116 x117 x118 = some r := h
        unfold F8_l0_b at h
        refine VW.seq ?_
        refine sR T_ok [1, 3, 4, 58] [0] ⟨[(1, .lf (.ptr 0 0 0 0)), (3, S x117), (4, I x118), (58, B (decide (x118 < (x116.length : Int))))], [bx [.v (.int .i64) x110, .v .str x111, .v (.int .i64) x112, .v (.int .i64) x113, .v (.int .i64) x114, .v .bool x115, .v (.sl (.int .i64)) x116] 27]⟩ (tn 5) ?_
        refine cnd h (fun h => ?_) (fun h => ?_)
        · refine VW.skip ?_
          refine VW.seq ?_
          refine VW.block ?_
          refine VW.region ?_
          obtain ⟨g132, h⟩ := gd_some h
          obtain ⟨g133, h⟩ := gd_some h
          refine sG T_ok 7 [1, 4, 62, 67] [0] ⟨[(1, .lf (.ptr 0 0 0 0)), (4, I x118), (62, S (x117 ++ (⟨#[32]⟩ : ByteArray))), (67, I (x116.getD x118.toNat (Ty.dflt (.int .i64))))], [bx [.v (.int .i64) x110, .v .str x111, .v (.int .i64) x112, .v (.int .i64) x113, .v (.int .i64) x114, .v .bool x115, .v (.sl (.int .i64)) x116] 27]⟩ (pu 1 (an g132 (pu 3 (an g133 (tn 1))))) ?_
          obtain ⟨y134, hy, h⟩ := andO_some h
          refine cal false [.t (.int .i64)] [] (some 68) T_ok (ok27 N _ hy) ?_
          obtain ⟨g135, h⟩ := gd_some h
          refine sN T_ok [1, 3, 4] [0] ⟨[(1, .lf (.ptr 0 0 0 0)), (3, S ((x117 ++ (⟨#[32]⟩ : ByteArray)) ++ y134)), (4, I x118)], [bx [.v (.int .i64) x110, .v .str x111, .v (.int .i64) x112, .v (.int .i64) x113, .v (.int .i64) x114, .v .bool x115, .v (.sl (.int .i64)) x116] 27]⟩ (an g135 (tn 1)) ?_
          refine rR T_ok [1, 3, 4] [0] ⟨[(1, .lf (.ptr 0 0 0 0)), (3, S ((x117 ++ (⟨#[32]⟩ : ByteArray)) ++ y134)), (4, I (IntKind.i64.wrap (x118 + (1 : Int))))], [bx [.v (.int .i64) x110, .v .str x111, .v (.int .i64) x112, .v (.int .i64) x113, .v (.int .i64) x114, .v .bool x115, .v (.sl (.int .i64)) x116] 27]⟩ (tn 3) ?_
          exact aro [.ren [1, 3, 4] [0]] ⟨x110, x111, x112, x113, x114, x115, x116, ((x117 ++ (⟨#[32]⟩ : ByteArray)) ++ y134), (IntKind.i64.wrap (x118 + (1 : Int))), rfl, h⟩
        refine VW.exit ?_
        exact arv [.ren [3] []] ⟨x117, rfl, h⟩
    refine sR T_ok [1, 3, 14, 70] [0] ⟨[(1, .lf (.ptr 0 0 0 0)), (3, S (y3.getD a0.1.toNat (Ty.dflt .str))), (14, I a0.1), (70, B (a0.1 == (3 : Int)))], [bx [.v (.int .i64) a0.1, .v .str a0.2.1, .v (.int .i64) a0.2.2.1, .v (.int .i64) a0.2.2.2.1, .v (.int .i64) a0.2.2.2.2.1, .v .bool a0.2.2.2.2.2.1, .v (.sl (.int .i64)) a0.2.2.2.2.2.2] 27]⟩ (tn 2) ?_
    refine cnd h (fun h => ?_) (fun h => ?_)
    · obtain ⟨g136, h⟩ := gd_some h
      obtain ⟨y137, hy137, h⟩ := andO_some h
      obtain ⟨g138, h⟩ := gd_some h
      obtain ⟨g139, h⟩ := gd_some h
      obtain ⟨y140, hy140, h⟩ := andO_some h
      obtain ⟨g141, h⟩ := gd_some h
      refine VW.drawn (by kernel_rfl) [some (72, S (y3.getD a0.1.toNat (Ty.dflt .str))), some (73, S ((y3.getD a0.1.toNat (Ty.dflt .str)) ++ (⟨#[32]⟩ : ByteArray))), some (74, .lf (.ptr 0 0 0 2)), some (75, I a0.2.2.1), some (76, S y137), some (77, S (((y3.getD a0.1.toNat (Ty.dflt .str)) ++ (⟨#[32]⟩ : ByteArray)) ++ y137)), some (78, S ((((y3.getD a0.1.toNat (Ty.dflt .str)) ++ (⟨#[32]⟩ : ByteArray)) ++ y137) ++ (⟨#[32]⟩ : ByteArray))), some (79, .lf (.ptr 0 0 0 4)), some (80, I a0.2.2.2.2.1), some (81, S y140), some (82, S (((((y3.getD a0.1.toNat (Ty.dflt .str)) ++ (⟨#[32]⟩ : ByteArray)) ++ y137) ++ (⟨#[32]⟩ : ByteArray)) ++ y140)), some (3, S (((((y3.getD a0.1.toNat (Ty.dflt .str)) ++ (⟨#[32]⟩ : ByteArray)) ++ y137) ++ (⟨#[32]⟩ : ByteArray)) ++ y140))] [] [[bx [.v (.int .i64) a0.1, .v .str a0.2.1, .v (.int .i64) a0.2.2.1, .v (.int .i64) a0.2.2.2.1, .v (.int .i64) a0.2.2.2.2.1, .v .bool a0.2.2.2.2.2.1, .v (.sl (.int .i64)) a0.2.2.2.2.2.2] 27]] [(0, 0), (1, 0), (2, 0), (3, 0), (4, 0), (5, 0), (6, 0), (7, 0), (8, 0), (9, 0), (10, 0), (11, 0)] [3] [] (s' := ⟨[(3, S (((((y3.getD a0.1.toNat (Ty.dflt .str)) ++ (⟨#[32]⟩ : ByteArray)) ++ y137) ++ (⟨#[32]⟩ : ByteArray)) ++ y140))], []⟩) (by kernel_rfl) (by kernel_rfl) ⟨⟨_, rfl, Stp.ev T_ok (m := .dp) (φ := True) (by kernel_rfl) trivial⟩,
    ⟨_, rfl, Stp.ev T_ok (m := .dp) (φ := (y3.getD a0.1.toNat (Ty.dflt .str)).size + (⟨#[32]⟩ : ByteArray).size ≤ 9223372036854775807) (by kernel_rfl) g136⟩,
    ⟨_, rfl, Stp.ev T_ok (m := .dp) (φ := True) (by kernel_rfl) trivial⟩,
    ⟨_, rfl, Stp.ev T_ok (m := .dp) (φ := True) (by kernel_rfl) trivial⟩,
    ⟨_, rfl, Stp.eq (Stp.call false [.t (.int .i64)] [] T_ok (d := some 76) (by kernel_rfl) (ok27 N _ hy137) rfl) (by kernel_rfl) (by kernel_rfl)⟩,
    ⟨_, rfl, Stp.ev T_ok (m := .dp) (φ := ((y3.getD a0.1.toNat (Ty.dflt .str)) ++ (⟨#[32]⟩ : ByteArray)).size + y137.size ≤ 9223372036854775807) (by kernel_rfl) g138⟩,
    ⟨_, rfl, Stp.ev T_ok (m := .dp) (φ := (((y3.getD a0.1.toNat (Ty.dflt .str)) ++ (⟨#[32]⟩ : ByteArray)) ++ y137).size + (⟨#[32]⟩ : ByteArray).size ≤ 9223372036854775807) (by kernel_rfl) g139⟩,
    ⟨_, rfl, Stp.ev T_ok (m := .dp) (φ := True) (by kernel_rfl) trivial⟩,
    ⟨_, rfl, Stp.ev T_ok (m := .dp) (φ := True) (by kernel_rfl) trivial⟩,
    ⟨_, rfl, Stp.eq (Stp.call false [.t (.int .i64)] [] T_ok (d := some 81) (by kernel_rfl) (ok27 N _ hy140) rfl) (by kernel_rfl) (by kernel_rfl)⟩,
    ⟨_, rfl, Stp.ev T_ok (m := .dp) (φ := ((((y3.getD a0.1.toNat (Ty.dflt .str)) ++ (⟨#[32]⟩ : ByteArray)) ++ y137) ++ (⟨#[32]⟩ : ByteArray)).size + y140.size ≤ 9223372036854775807) (by kernel_rfl) g141⟩,
    ⟨_, rfl, Stp.ev T_ok (m := .dp) (φ := True) (by kernel_rfl) trivial⟩, trivial⟩ (by kernel_rfl) ?_
      exact arv [.ren [3] []] ⟨(((((y3.getD a0.1.toNat (Ty.dflt .str)) ++ (⟨#[32]⟩ : ByteArray)) ++ y137) ++ (⟨#[32]⟩ : ByteArray)) ++ y140), rfl, h⟩
    refine sR T_ok [1, 3, 14, 83] [0] ⟨[(1, .lf (.ptr 0 0 0 0)), (3, S (y3.getD a0.1.toNat (Ty.dflt .str))), (14, I a0.1), (83, B (a0.1 == (5 : Int)))], [bx [.v (.int .i64) a0.1, .v .str a0.2.1, .v (.int .i64) a0.2.2.1, .v (.int .i64) a0.2.2.2.1, .v (.int .i64) a0.2.2.2.2.1, .v .bool a0.2.2.2.2.2.1, .v (.sl (.int .i64)) a0.2.2.2.2.2.2] 27]⟩ (tn 2) ?_
    refine cnd h (fun h => ?_) (fun h => ?_)
    · refine VW.region ?_
      obtain ⟨g142, h⟩ := gd_some h
      refine sG T_ok 4 [86, 88] [] ⟨[(86, S ((y3.getD a0.1.toNat (Ty.dflt .str)) ++ (⟨#[32]⟩ : ByteArray))), (88, I a0.2.2.1)], []⟩ (pu 1 (an g142 (tn 2))) ?_
      obtain ⟨y143, hy, h⟩ := andO_some h
      refine cal false [.t (.int .i64)] [] (some 89) T_ok (ok27 N _ hy) ?_
      obtain ⟨g144, h⟩ := gd_some h
      refine sN T_ok [3] [] ⟨[(3, S (((y3.getD a0.1.toNat (Ty.dflt .str)) ++ (⟨#[32]⟩ : ByteArray)) ++ y143))], []⟩ (an g144 (tn 1)) ?_
      exact arv [.ren [3] []] ⟨(((y3.getD a0.1.toNat (Ty.dflt .str)) ++ (⟨#[32]⟩ : ByteArray)) ++ y143), rfl, h⟩
    refine sR T_ok [1, 3, 91] [0] ⟨[(1, .lf (.ptr 0 0 0 0)), (3, S (y3.getD a0.1.toNat (Ty.dflt .str))), (91, B (a0.1 == (6 : Int)))], [bx [.v (.int .i64) a0.1, .v .str a0.2.1, .v (.int .i64) a0.2.2.1, .v (.int .i64) a0.2.2.2.1, .v (.int .i64) a0.2.2.2.2.1, .v .bool a0.2.2.2.2.2.1, .v (.sl (.int .i64)) a0.2.2.2.2.2.2] 27]⟩ (tn 2) ?_
    refine cnd h (fun h => ?_) (fun h => ?_)
    · refine VW.region ?_
      obtain ⟨g145, h⟩ := gd_some h
      refine sG T_ok 3 [94, 95] [] ⟨[(94, S ((y3.getD a0.1.toNat (Ty.dflt .str)) ++ (⟨#[32]⟩ : ByteArray))), (95, .agg [.v (.int .i64) a0.1, .v .str a0.2.1, .v (.int .i64) a0.2.2.1, .v (.int .i64) a0.2.2.2.1, .v (.int .i64) a0.2.2.2.2.1, .v .bool a0.2.2.2.2.2.1, .v (.sl (.int .i64)) a0.2.2.2.2.2.2])], []⟩ (pu 1 (an g145 (tn 1))) ?_
      obtain ⟨y146, hy, h⟩ := andO_some h
      refine cal false [.t Y23] [] (some 96) T_ok (ok29 N _ hy) ?_
      obtain ⟨g147, h⟩ := gd_some h
      refine sN T_ok [3] [] ⟨[(3, S (((y3.getD a0.1.toNat (Ty.dflt .str)) ++ (⟨#[32]⟩ : ByteArray)) ++ y146))], []⟩ (an g147 (tn 1)) ?_
      exact arv [.ren [3] []] ⟨(((y3.getD a0.1.toNat (Ty.dflt .str)) ++ (⟨#[32]⟩ : ByteArray)) ++ y146), rfl, h⟩
    refine VW.skip ?_
    exact arv [.ren [3] []] ⟨(y3.getD a0.1.toNat (Ty.dflt .str)), rfl, h⟩
  rintro s ⟨x76, rfl, h⟩
  unfold F8_j0 at h
  refine sR T_ok [2] [] ⟨[(2, S x76)], []⟩ (tn 2) ?_
  refine VW.ret ?_
  replace h := Option.some.inj h
  subst h
  exact rt []

/- loop.example/g00844/laws.toIntS -/
def F30_j0 (N : Nat) (x24 : (List Int)) : Option ((List Int)) :=
  some x24
def F30_l0_b (N : Nat) (a0 : (List Int)) (nx41 : (List Int) → Int → Option ((List Int))) (x33 : (List Int)) (x34 : Int) : Option ((List Int)) :=
  cond (decide (x34 < (a0.length : Int))) (gd (InR x34 a0.length) (gd (InR x34 x33.length) (gd (x34.toNat < x33.length) (nx41 (x33.set x34.toNat (a0.getD x34.toNat (Ty.dflt (.int .i64)))) (IntKind.i64.wrap (x34 + (1 : Int))))))) (F30_j0 N x33)
def F30_l0 (N : Nat) (a0 : (List Int)) : Nat → (List Int) → Int → Option ((List Int)) := loopF (F30_l0_b N a0) (fun _ _ => none)
theorem F30_l0_s (N : Nat) (a0 : (List Int)) {k : Nat} (hk : 0 < k) (x33 : (List Int)) (x34 : Int) : F30_l0 N a0 k x33 x34 = F30_l0_b N a0 (F30_l0 N a0 (k - 1)) x33 x34 := by
  cases k with
  | zero => exact absurd hk (Nat.lt_irrefl 0)
  | succ m => rfl
def F30 (N : Nat) (a0 : (List Int)) : Option ((List Int)) :=
  gd (0 ≤ (a0.length : Int) ∧ (a0.length : Int) ≤ (lim (.int .i64) : Int) ∧ (a0.length : Int) = (a0.length : Int)) (F30_l0 N a0 N (List.replicate (a0.length : Int).toNat (Ty.dflt (.int .i64))) (0 : Int))
theorem ok30 (N : Nat) (a0 : (List Int)) {r : (List Int)} (h : F30 N a0 = some r) : Con Go.Proofs.Tryd.prog 30 [.lf (.v (.sl (.int .i64)) a0)] [.lf (.own (.int .i64) r .dp)] := by
  refine ctr [.lf (.own (.int .i64) .dp)] T_ok Go.Proofs.Tryd.func30 rfl fun w0 E0 ht => ?_
  unfold F30 at h
  show VW _ _ _ _ _ (retQ _ _ _ _) _
  refine sR T_ok [0] [] ⟨[(0, .lf (.v (.sl (.int .i64)) a0))], []⟩ (tn 1) ?_
  obtain ⟨g1, h⟩ := gd_some h
  refine sR T_ok [0, 3] [0] ⟨[(0, .lf (.v (.sl (.int .i64)) a0)), (3, .lf (.hd 0 0 none))], [ar 0 (.int .i64) (List.replicate (a0.length : Int).toNat (Ty.dflt (.int .i64))) .dp]⟩ (pu 2 (an g1 (tn 1))) ?_
  refine VW.join (fun s => ∃ (x24 : (List Int)), s = ⟨[(3, .lf (.hd 0 0 none))], [ar 0 (.int .i64) x24 .dp]⟩ ∧ F30_j0 N x24 = some r) ?_ ?_
  · refine sR T_ok [0, 3, 4] [0] ⟨[(0, .lf (.v (.sl (.int .i64)) a0)), (3, .lf (.hd 0 0 none)), (4, I (0 : Int))], [ar 0 (.int .i64) (List.replicate (a0.length : Int).toNat (Ty.dflt (.int .i64))) .dp]⟩ (tn 1) ?_
    refine VW.block ?_
    refine lop (fun k s => ∃ (x33 : (List Int)) (x34 : Int), s = ⟨[(0, .lf (.v (.sl (.int .i64)) a0)), (3, .lf (.hd 0 0 none)), (4, I x34)], [ar 0 (.int .i64) x33 .dp]⟩ ∧ F30_l0 N a0 k x33 x34 = some r) N [.ren [0, 3, 4] [0]] ⟨(List.replicate (a0.length : Int).toNat (Ty.dflt (.int .i64))), (0 : Int), rfl, h⟩ ?_
    rintro k41 s ⟨x33, x34, rfl, h⟩
    cases k41 with
    | zero => cases show none = some r from h
    | succ k41 =>
      replace h : F30_l0_b N a0 (F30_l0 N a0 k41) x33 x34 = some r := h
      unfold F30_l0_b at h
      refine VW.seq ?_
      refine sR T_ok [0, 3, 4, 11] [0] ⟨[(0, .lf (.v (.sl (.int .i64)) a0)), (3, .lf (.hd 0 0 none)), (4, I x34), (11, B (decide (x34 < (a0.length : Int))))], [ar 0 (.int .i64) x33 .dp]⟩ (tn 4) ?_
      refine cnd h (fun h => ?_) (fun h => ?_)
      · refine VW.skip ?_
        refine VW.seq ?_
        refine VW.block ?_
        obtain ⟨g45, h⟩ := gd_some h
        obtain ⟨g46, h⟩ := gd_some h
        obtain ⟨g47, h⟩ := gd_some h
        refine rR T_ok [0, 3, 4] [0] ⟨[(0, .lf (.v (.sl (.int .i64)) a0)), (3, .lf (.hd 0 0 none)), (4, I x34)], [ar 0 (.int .i64) (x33.set x34.toNat (a0.getD x34.toNat (Ty.dflt (.int .i64)))) .dp]⟩ (pu 4 (an g45 (pu 1 (an g46 (an g47 (tn 0)))))) ?_
        refine rR T_ok [0, 3, 4] [0] ⟨[(0, .lf (.v (.sl (.int .i64)) a0)), (3, .lf (.hd 0 0 none)), (4, I (IntKind.i64.wrap (x34 + (1 : Int))))], [ar 0 (.int .i64) (x33.set x34.toNat (a0.getD x34.toNat (Ty.dflt (.int .i64)))) .dp]⟩ (tn 3) ?_
        exact aro [.ren [0, 3, 4] [0]] ⟨(x33.set x34.toNat (a0.getD x34.toNat (Ty.dflt (.int .i64)))), (IntKind.i64.wrap (x34 + (1 : Int))), rfl, h⟩
      refine VW.exit ?_
      exact arv [.ren [3] [0]] ⟨x33, rfl, h⟩
  rintro s ⟨x24, rfl, h⟩
  unfold F30_j0 at h
  refine sR T_ok [2] [0] ⟨[(2, .lf (.hd 0 0 none))], [ar 0 (.int .i64) x24 .dp]⟩ (tn 2) ?_
  refine VW.ret ?_
  replace h := Option.some.inj h
  subst h
  exact rt [some 0]

/- loop.example/g00844/laws.toNode -/
def F9 (N : Nat) (a0 : (Int × (ByteArray × (Int × (Int × (Int × (Bool × (List Int)))))))) : Option ((Int × (ByteArray × (Int × (Int × (Int × (Bool × (List Int)))))))) :=
  andO (F30 N a0.2.2.2.2.2.2) fun y1 => some (a0.1, (a0.2.1, (a0.2.2.1, (a0.2.2.2.1, (a0.2.2.2.2.1, (a0.2.2.2.2.2.1, y1))))))
theorem ok9 (N : Nat) (a0 : (Int × (ByteArray × (Int × (Int × (Int × (Bool × (List Int)))))))) {r : (Int × (ByteArray × (Int × (Int × (Int × (Bool × (List Int)))))))} (h : F9 N a0 = some r) : Con Go.Proofs.Tryd.prog 9 [.agg [.v (.int .i64) a0.1, .v .str a0.2.1, .v (.int .i64) a0.2.2.1, .v (.int .i64) a0.2.2.2.1, .v (.int .i64) a0.2.2.2.2.1, .v .bool a0.2.2.2.2.2.1, .v (.sl (.int .i64)) a0.2.2.2.2.2.2]] [.agg [.v (.int .i64) r.1, .v .str r.2.1, .v (.int .i64) r.2.2.1, .v (.int .i64) r.2.2.2.1, .v (.int .i64) r.2.2.2.2.1, .v .bool r.2.2.2.2.2.1, .own (.int .i64) r.2.2.2.2.2.2 .dp]] := by
  refine ctr [.agg [.v (.int .i64), .v .str, .v (.int .i64), .v (.int .i64), .v (.int .i64), .v .bool, .own (.int .i64) .dp]] T_ok Go.Proofs.Tryd.func9 rfl fun w0 E0 ht => ?_
  unfold F9 at h
  show VW _ _ _ _ _ (retQ _ _ _ _) _
  refine sR T_ok [1, 2] [0, 1] ⟨[(1, .lf (.ptr 0 0 0 0)), (2, .lf (.ptr 1 0 0 0))], [bx [.v (.int .i64) a0.1, .v .str a0.2.1, .v (.int .i64) a0.2.2.1, .v (.int .i64) a0.2.2.2.1, .v (.int .i64) a0.2.2.2.2.1, .v .bool a0.2.2.2.2.2.1, .v (.sl (.int .i64)) a0.2.2.2.2.2.2] 24, bx [.v (.int .i64) (0 : Int), .v .str ByteArray.empty, .v (.int .i64) (0 : Int), .v (.int .i64) (0 : Int), .v (.int .i64) (0 : Int), .v .bool false, .nil] 27]⟩ (tn 2) ?_
  refine sR T_ok [1, 2, 3] [0, 1, 2] ⟨[(1, .lf (.ptr 0 0 0 0)), (2, .lf (.ptr 1 0 0 0)), (3, .lf (.ptr 2 0 0 0))], [bx [.v (.int .i64) a0.1, .v .str a0.2.1, .v (.int .i64) a0.2.2.1, .v (.int .i64) a0.2.2.2.1, .v (.int .i64) a0.2.2.2.2.1, .v .bool a0.2.2.2.2.2.1, .v (.sl (.int .i64)) a0.2.2.2.2.2.2] 24, bx [.v (.int .i64) (0 : Int), .v .str ByteArray.empty, .v (.int .i64) (0 : Int), .v (.int .i64) (0 : Int), .v (.int .i64) (0 : Int), .v .bool false, .nil] 27, bx [.v (.int .i64) (0 : Int), .v .str ByteArray.empty, .v (.int .i64) (0 : Int), .v (.int .i64) (0 : Int), .v (.int .i64) (0 : Int), .v .bool false, .nil] 27]⟩ (tn 1) ?_
  refine sR T_ok [1, 2, 3] [0, 1, 2] ⟨[(1, .lf (.ptr 0 0 0 0)), (2, .lf (.ptr 1 0 0 0)), (3, .lf (.ptr 2 0 0 0))], [bx [.v (.int .i64) a0.1, .v .str a0.2.1, .v (.int .i64) a0.2.2.1, .v (.int .i64) a0.2.2.2.1, .v (.int .i64) a0.2.2.2.2.1, .v .bool a0.2.2.2.2.2.1, .v (.sl (.int .i64)) a0.2.2.2.2.2.2] 24, bx [.v (.int .i64) (0 : Int), .v .str ByteArray.empty, .v (.int .i64) (0 : Int), .v (.int .i64) (0 : Int), .v (.int .i64) (0 : Int), .v .bool false, .nil] 27, bx [.v (.int .i64) a0.1, .v .str ByteArray.empty, .v (.int .i64) (0 : Int), .v (.int .i64) (0 : Int), .v (.int .i64) (0 : Int), .v .bool false, .nil] 27]⟩ (tn 4) ?_
  refine sR T_ok [1, 2, 3] [0, 1, 2] ⟨[(1, .lf (.ptr 0 0 0 0)), (2, .lf (.ptr 1 0 0 0)), (3, .lf (.ptr 2 0 0 0))], [bx [.v (.int .i64) a0.1, .v .str a0.2.1, .v (.int .i64) a0.2.2.1, .v (.int .i64) a0.2.2.2.1, .v (.int .i64) a0.2.2.2.2.1, .v .bool a0.2.2.2.2.2.1, .v (.sl (.int .i64)) a0.2.2.2.2.2.2] 24, bx [.v (.int .i64) (0 : Int), .v .str ByteArray.empty, .v (.int .i64) (0 : Int), .v (.int .i64) (0 : Int), .v (.int .i64) (0 : Int), .v .bool false, .nil] 27, bx [.v (.int .i64) a0.1, .v .str a0.2.1, .v (.int .i64) (0 : Int), .v (.int .i64) (0 : Int), .v (.int .i64) (0 : Int), .v .bool false, .nil] 27]⟩ (tn 4) ?_
  refine sR T_ok [1, 2, 3] [0, 1, 2] ⟨[(1, .lf (.ptr 0 0 0 0)), (2, .lf (.ptr 1 0 0 0)), (3, .lf (.ptr 2 0 0 0))], [bx [.v (.int .i64) a0.1, .v .str a0.2.1, .v (.int .i64) a0.2.2.1, .v (.int .i64) a0.2.2.2.1, .v (.int .i64) a0.2.2.2.2.1, .v .bool a0.2.2.2.2.2.1, .v (.sl (.int .i64)) a0.2.2.2.2.2.2] 24, bx [.v (.int .i64) (0 : Int), .v .str ByteArray.empty, .v (.int .i64) (0 : Int), .v (.int .i64) (0 : Int), .v (.int .i64) (0 : Int), .v .bool false, .nil] 27, bx [.v (.int .i64) a0.1, .v .str a0.2.1, .v (.int .i64) a0.2.2.1, .v (.int .i64) (0 : Int), .v (.int .i64) (0 : Int), .v .bool false, .nil] 27]⟩ (tn 4) ?_
  refine sR T_ok [1, 2, 3] [0, 1, 2] ⟨[(1, .lf (.ptr 0 0 0 0)), (2, .lf (.ptr 1 0 0 0)), (3, .lf (.ptr 2 0 0 0))], [bx [.v (.int .i64) a0.1, .v .str a0.2.1, .v (.int .i64) a0.2.2.1, .v (.int .i64) a0.2.2.2.1, .v (.int .i64) a0.2.2.2.2.1, .v .bool a0.2.2.2.2.2.1, .v (.sl (.int .i64)) a0.2.2.2.2.2.2] 24, bx [.v (.int .i64) (0 : Int), .v .str ByteArray.empty, .v (.int .i64) (0 : Int), .v (.int .i64) (0 : Int), .v (.int .i64) (0 : Int), .v .bool false, .nil] 27, bx [.v (.int .i64) a0.1, .v .str a0.2.1, .v (.int .i64) a0.2.2.1, .v (.int .i64) a0.2.2.2.1, .v (.int .i64) (0 : Int), .v .bool false, .nil] 27]⟩ (tn 4) ?_
  refine sR T_ok [1, 2, 3] [0, 1, 2] ⟨[(1, .lf (.ptr 0 0 0 0)), (2, .lf (.ptr 1 0 0 0)), (3, .lf (.ptr 2 0 0 0))], [bx [.v (.int .i64) a0.1, .v .str a0.2.1, .v (.int .i64) a0.2.2.1, .v (.int .i64) a0.2.2.2.1, .v (.int .i64) a0.2.2.2.2.1, .v .bool a0.2.2.2.2.2.1, .v (.sl (.int .i64)) a0.2.2.2.2.2.2] 24, bx [.v (.int .i64) (0 : Int), .v .str ByteArray.empty, .v (.int .i64) (0 : Int), .v (.int .i64) (0 : Int), .v (.int .i64) (0 : Int), .v .bool false, .nil] 27, bx [.v (.int .i64) a0.1, .v .str a0.2.1, .v (.int .i64) a0.2.2.1, .v (.int .i64) a0.2.2.2.1, .v (.int .i64) a0.2.2.2.2.1, .v .bool false, .nil] 27]⟩ (tn 4) ?_
  refine sR T_ok [1, 2, 3] [0, 1, 2] ⟨[(1, .lf (.ptr 0 0 0 0)), (2, .lf (.ptr 1 0 0 0)), (3, .lf (.ptr 2 0 0 0))], [bx [.v (.int .i64) a0.1, .v .str a0.2.1, .v (.int .i64) a0.2.2.1, .v (.int .i64) a0.2.2.2.1, .v (.int .i64) a0.2.2.2.2.1, .v .bool a0.2.2.2.2.2.1, .v (.sl (.int .i64)) a0.2.2.2.2.2.2] 24, bx [.v (.int .i64) (0 : Int), .v .str ByteArray.empty, .v (.int .i64) (0 : Int), .v (.int .i64) (0 : Int), .v (.int .i64) (0 : Int), .v .bool false, .nil] 27, bx [.v (.int .i64) a0.1, .v .str a0.2.1, .v (.int .i64) a0.2.2.1, .v (.int .i64) a0.2.2.2.1, .v (.int .i64) a0.2.2.2.2.1, .v .bool a0.2.2.2.2.2.1, .nil] 27]⟩ (tn 4) ?_
  refine VW.seq ?_
  refine VW.region ?_
  refine sG T_ok 2 [2, 3, 23] [1, 2] ⟨[(2, .lf (.ptr 0 0 0 0)), (3, .lf (.ptr 1 0 0 0)), (23, .lf (.v (.sl (.int .i64)) a0.2.2.2.2.2.2))], [bx [.v (.int .i64) (0 : Int), .v .str ByteArray.empty, .v (.int .i64) (0 : Int), .v (.int .i64) (0 : Int), .v (.int .i64) (0 : Int), .v .bool false, .nil] 27, bx [.v (.int .i64) a0.1, .v .str a0.2.1, .v (.int .i64) a0.2.2.1, .v (.int .i64) a0.2.2.2.1, .v (.int .i64) a0.2.2.2.2.1, .v .bool a0.2.2.2.2.2.1, .nil] 27]⟩ (tn 2) ?_
  obtain ⟨y1, hy, h⟩ := andO_some h
  refine cal false [.t (.sl (.int .i64))] [] (some 24) T_ok (ok30 N _ hy) ?_
  refine sN T_ok [2, 3] [0, 1, 2] ⟨[(2, .lf (.ptr 0 0 0 0)), (3, .lf (.ptr 1 0 0 0))], [bx [.v (.int .i64) (0 : Int), .v .str ByteArray.empty, .v (.int .i64) (0 : Int), .v (.int .i64) (0 : Int), .v (.int .i64) (0 : Int), .v .bool false, .nil] 27, bx [.v (.int .i64) a0.1, .v .str a0.2.1, .v (.int .i64) a0.2.2.1, .v (.int .i64) a0.2.2.2.1, .v (.int .i64) a0.2.2.2.2.1, .v .bool a0.2.2.2.2.2.1, .hd 2 0 none] 27, ar 0 (.int .i64) y1 .dp]⟩ (tn 2) ?_
  refine sR T_ok [2] [0, 2] ⟨[(2, .lf (.ptr 0 0 0 0))], [bx [.v (.int .i64) a0.1, .v .str a0.2.1, .v (.int .i64) a0.2.2.1, .v (.int .i64) a0.2.2.2.1, .v (.int .i64) a0.2.2.2.2.1, .v .bool a0.2.2.2.2.2.1, .hd 1 0 none] 27, ar 0 (.int .i64) y1 .dp]⟩ (tn 2) ?_
  refine VW.ret ?_
  replace h := Option.some.inj h
  subst h
  exact rt [some 1]

/- loop.example/g00844/impl.in -/
def F54 (N : Nat) (a0 : Int) (a1 : Int) (a2 : Int) : Option (Bool) :=
  cond (decide (a0 ≥ a1)) (some (decide (a0 ≤ a2))) (some false)
theorem ok54 (N : Nat) (a0 : Int) (a1 : Int) (a2 : Int) {r : Bool} (h : F54 N a0 a1 a2 = some r) : Con Go.Proofs.Tryd.prog 54 [I a0, I a1, I a2] [.lf (.v .bool r)] := by
  refine ctr [.lf (.v .bool)] T_ok Go.Proofs.Tryd.func54 rfl fun w0 E0 ht => ?_
  unfold F54 at h
  show VW _ _ _ _ _ (retQ _ _ _ _) _
  refine sR T_ok [0, 1, 2] [] ⟨[(0, I a0), (1, I a1), (2, I a2)], []⟩ (tn 1) ?_
  refine VW.seq ?_
  refine VW.region ?_
  refine sG T_ok 4 [0, 2, 10] [] ⟨[(0, I a0), (2, I a2), (10, B (decide (a0 ≥ a1)))], []⟩ (tn 4) ?_
  refine spB 10 h (fun h => ?_) (fun h => ?_)
  · refine sN T_ok [6] [] ⟨[(6, B (decide (a0 ≤ a2)))], []⟩ (tn 5) ?_
    refine VW.ret ?_
    replace h := Option.some.inj h
    subst h
    exact rt []
  refine sN T_ok [6] [] ⟨[(6, B false)], []⟩ (tn 5) ?_
  refine VW.ret ?_
  replace h := Option.some.inj h
  subst h
  exact rt []

/- loop.example/g00844/impl.WordOk -/
def F52_j0 (N : Nat) (a0 : ByteArray) : Option (Bool) :=
  andO (F54 N (a0.size : Int) (1 : Int) (12 : Int)) fun y14 => some y14
def F52_j1 (N : Nat) (nx25 : Int → Int → Option (Bool)) (x20 : Int) (x21 : Int) : Option (Bool) :=
  nx25 x20 (IntKind.i64.wrap (x21 + (1 : Int)))
def F52_l0_b (N : Nat) (a0 : ByteArray) (nx25 : Int → Int → Option (Bool)) (x20 : Int) (x21 : Int) : Option (Bool) :=
  cond (decide (x21 < x20)) (gd (InR x21 a0.size) (cond (decide (((a0.data.getD x21.toNat 0).toNat : Int) ≥ (97 : Int))) (cond (!(decide (((a0.data.getD x21.toNat 0).toNat : Int) ≤ (122 : Int)))) (cond (x21 == (0 : Int)) (some false) (cond (decide (((a0.data.getD x21.toNat 0).toNat : Int) < (48 : Int))) (some false) (cond (decide (((a0.data.getD x21.toNat 0).toNat : Int) > (57 : Int))) (some false) (F52_j1 N nx25 x20 x21)))) (F52_j1 N nx25 x20 x21)) (cond (x21 == (0 : Int)) (some false) (cond (decide (((a0.data.getD x21.toNat 0).toNat : Int) < (48 : Int))) (some false) (cond (decide (((a0.data.getD x21.toNat 0).toNat : Int) > (57 : Int))) (some false) (F52_j1 N nx25 x20 x21)))))) (F52_j0 N a0)
def F52_l0 (N : Nat) (a0 : ByteArray) : Nat → Int → Int → Option (Bool) := loopF (F52_l0_b N a0) (fun _ _ => none)
theorem F52_l0_s (N : Nat) (a0 : ByteArray) {k : Nat} (hk : 0 < k) (x20 : Int) (x21 : Int) : F52_l0 N a0 k x20 x21 = F52_l0_b N a0 (F52_l0 N a0 (k - 1)) x20 x21 := by
  cases k with
  | zero => exact absurd hk (Nat.lt_irrefl 0)
  | succ m => rfl
def F52 (N : Nat) (a0 : ByteArray) : Option (Bool) :=
  F52_l0 N a0 N (a0.size : Int) (0 : Int)
theorem ok52 (N : Nat) (a0 : ByteArray) {r : Bool} (h : F52 N a0 = some r) : Con Go.Proofs.Tryd.prog 52 [S a0] [.lf (.v .bool r)] := by
  refine ctr [.lf (.v .bool)] T_ok Go.Proofs.Tryd.func52 rfl fun w0 E0 ht => ?_
  unfold F52 at h
  show VW _ _ _ _ _ (retQ _ _ _ _) _
  refine sR T_ok [0] [] ⟨[(0, S a0)], []⟩ (tn 1) ?_
  refine VW.join (fun s => s = ⟨[(0, S a0)], []⟩ ∧ F52_j0 N a0 = some r) ?_ ?_
  · refine sR T_ok [0, 7, 8] [] ⟨[(0, S a0), (7, I (a0.size : Int)), (8, I (0 : Int))], []⟩ (tn 3) ?_
    refine VW.block ?_
    refine lop (fun k s => ∃ (x20 : Int) (x21 : Int), s = ⟨[(0, S a0), (7, I x20), (8, I x21)], []⟩ ∧ F52_l0 N a0 k x20 x21 = some r) N [.ren [0, 7, 8] []] ⟨(a0.size : Int), (0 : Int), rfl, h⟩ ?_
    rintro k25 s ⟨x20, x21, rfl, h⟩
    cases k25 with
    | zero => cases show none = some r from h
    | succ k25 =>
      replace h : F52_l0_b N a0 (F52_l0 N a0 k25) x20 x21 = some r := h
      unfold F52_l0_b at h
      refine sR T_ok [0, 7, 8, 9] [] ⟨[(0, S a0), (7, I x20), (8, I x21), (9, B (decide (x21 < x20)))], []⟩ (tn 1) ?_
      refine VW.seq ?_
      refine cnd h (fun h => ?_) (fun h => ?_)
      · refine VW.skip ?_
        refine VW.join (fun s => s = ⟨[(0, S a0), (7, I x20), (8, I x21)], []⟩ ∧ F52_j1 N (F52_l0 N a0 k25) x20 x21 = some r) ?_ ?_
        · refine VW.block ?_
          refine sR T_ok [0, 3, 7, 8] [] ⟨[(0, S a0), (3, I x21), (7, I x20), (8, I x21)], []⟩ (tn 2) ?_
          obtain ⟨g28, h⟩ := gd_some h
          refine sR T_ok [0, 3, 4, 7, 8] [] ⟨[(0, S a0), (3, I x21), (4, U ((a0.data.getD x21.toNat 0).toNat : Int)), (7, I x20), (8, I x21)], []⟩ (pu 2 (an g28 (tn 1))) ?_
          refine VW.seq ?_
          refine VW.region ?_
          refine sG T_ok 3 [0, 3, 4, 7, 8, 16] [] ⟨[(0, S a0), (3, I x21), (4, U ((a0.data.getD x21.toNat 0).toNat : Int)), (7, I x20), (8, I x21), (16, B (decide (((a0.data.getD x21.toNat 0).toNat : Int) ≥ (97 : Int))))], []⟩ (tn 3) ?_
          refine spB 16 h (fun h => ?_) (fun h => ?_)
          · refine sN T_ok [0, 3, 4, 5, 7, 8] [] ⟨[(0, S a0), (3, I x21), (4, U ((a0.data.getD x21.toNat 0).toNat : Int)), (5, B (decide (((a0.data.getD x21.toNat 0).toNat : Int) ≤ (122 : Int)))), (7, I x20), (8, I x21)], []⟩ (tn 4) ?_
            refine VW.seq ?_
            refine VW.region ?_
            refine sG T_ok 3 [0, 3, 4, 7, 8, 22] [] ⟨[(0, S a0), (3, I x21), (4, U ((a0.data.getD x21.toNat 0).toNat : Int)), (7, I x20), (8, I x21), (22, B (!(decide (((a0.data.getD x21.toNat 0).toNat : Int) ≤ (122 : Int)))))], []⟩ (tn 3) ?_
            refine spB 22 h (fun h => ?_) (fun h => ?_)
            · refine sG T_ok 3 [0, 4, 7, 8, 22, 25] [] ⟨[(0, S a0), (4, U ((a0.data.getD x21.toNat 0).toNat : Int)), (7, I x20), (8, I x21), (22, B true), (25, B (x21 == (0 : Int)))], []⟩ (tn 3) ?_
              refine spB 25 h (fun h => ?_) (fun h => ?_)
              · refine sN T_ok [0, 7, 8, 33] [] ⟨[(0, S a0), (7, I x20), (8, I x21), (33, B true)], []⟩ (tn 8) ?_
                refine VW.cond (b := true) (by kernel_rfl) (fun _ => ?_) (fun h' => nomatch h')
                refine sR T_ok [2] [] ⟨[(2, B false)], []⟩ (tn 1) ?_
                refine VW.ret ?_
                replace h := Option.some.inj h
                subst h
                exact rt []
              refine sG T_ok 4 [0, 4, 7, 8, 22, 29] [] ⟨[(0, S a0), (4, U ((a0.data.getD x21.toNat 0).toNat : Int)), (7, I x20), (8, I x21), (22, B true), (29, B (decide (((a0.data.getD x21.toNat 0).toNat : Int) < (48 : Int))))], []⟩ (tn 4) ?_
              refine spB 29 h (fun h => ?_) (fun h => ?_)
              · refine sN T_ok [0, 7, 8, 33] [] ⟨[(0, S a0), (7, I x20), (8, I x21), (33, B true)], []⟩ (tn 4) ?_
                refine VW.cond (b := true) (by kernel_rfl) (fun _ => ?_) (fun h' => nomatch h')
                refine sR T_ok [2] [] ⟨[(2, B false)], []⟩ (tn 1) ?_
                refine VW.ret ?_
                replace h := Option.some.inj h
                subst h
                exact rt []
              refine sN T_ok [0, 7, 8, 33] [] ⟨[(0, S a0), (7, I x20), (8, I x21), (33, B (decide (((a0.data.getD x21.toNat 0).toNat : Int) > (57 : Int))))], []⟩ (tn 4) ?_
              refine cnd h (fun h => ?_) (fun h => ?_)
              · refine sR T_ok [2] [] ⟨[(2, B false)], []⟩ (tn 1) ?_
                refine VW.ret ?_
                replace h := Option.some.inj h
                subst h
                exact rt []
              refine VW.skip ?_
              exact arv [.ren [0, 7, 8] []] ⟨rfl, h⟩
            refine sN T_ok [0, 7, 8, 33] [] ⟨[(0, S a0), (7, I x20), (8, I x21), (33, B false)], []⟩ (tn 11) ?_
            refine VW.cond (b := false) (by kernel_rfl) (fun h' => nomatch h') (fun _ => ?_)
            refine VW.skip ?_
            exact arv [.ren [0, 7, 8] []] ⟨rfl, h⟩
          refine sN T_ok [0, 3, 4, 5, 7, 8] [] ⟨[(0, S a0), (3, I x21), (4, U ((a0.data.getD x21.toNat 0).toNat : Int)), (5, B false), (7, I x20), (8, I x21)], []⟩ (tn 4) ?_
          refine VW.seq ?_
          refine VW.region ?_
          refine sG T_ok 6 [0, 4, 7, 8, 22, 25] [] ⟨[(0, S a0), (4, U ((a0.data.getD x21.toNat 0).toNat : Int)), (7, I x20), (8, I x21), (22, B true), (25, B (x21 == (0 : Int)))], []⟩ (tn 6) ?_
          refine spB 25 h (fun h => ?_) (fun h => ?_)
          · refine sN T_ok [0, 7, 8, 33] [] ⟨[(0, S a0), (7, I x20), (8, I x21), (33, B true)], []⟩ (tn 8) ?_
            refine VW.cond (b := true) (by kernel_rfl) (fun _ => ?_) (fun h' => nomatch h')
            refine sR T_ok [2] [] ⟨[(2, B false)], []⟩ (tn 1) ?_
            refine VW.ret ?_
            replace h := Option.some.inj h
            subst h
            exact rt []
          refine sG T_ok 4 [0, 4, 7, 8, 22, 29] [] ⟨[(0, S a0), (4, U ((a0.data.getD x21.toNat 0).toNat : Int)), (7, I x20), (8, I x21), (22, B true), (29, B (decide (((a0.data.getD x21.toNat 0).toNat : Int) < (48 : Int))))], []⟩ (tn 4) ?_
          refine spB 29 h (fun h => ?_) (fun h => ?_)
          · refine sN T_ok [0, 7, 8, 33] [] ⟨[(0, S a0), (7, I x20), (8, I x21), (33, B true)], []⟩ (tn 4) ?_
            refine VW.cond (b := true) (by kernel_rfl) (fun _ => ?_) (fun h' => nomatch h')
            refine sR T_ok [2] [] ⟨[(2, B false)], []⟩ (tn 1) ?_
            refine VW.ret ?_
            replace h := Option.some.inj h
            subst h
            exact rt []
          refine sN T_ok [0, 7, 8, 33] [] ⟨[(0, S a0), (7, I x20), (8, I x21), (33, B (decide (((a0.data.getD x21.toNat 0).toNat : Int) > (57 : Int))))], []⟩ (tn 4) ?_
          refine cnd h (fun h => ?_) (fun h => ?_)
          · refine sR T_ok [2] [] ⟨[(2, B false)], []⟩ (tn 1) ?_
            refine VW.ret ?_
            replace h := Option.some.inj h
            subst h
            exact rt []
          refine VW.skip ?_
          exact arv [.ren [0, 7, 8] []] ⟨rfl, h⟩
        rintro s ⟨rfl, h⟩
        unfold F52_j1 at h
        refine rR T_ok [0, 7, 8] [] ⟨[(0, S a0), (7, I x20), (8, I (IntKind.i64.wrap (x21 + (1 : Int))))], []⟩ (tn 2) ?_
        exact aro [.ren [0, 7, 8] []] ⟨x20, (IntKind.i64.wrap (x21 + (1 : Int))), rfl, h⟩
      refine VW.exit ?_
      exact arv [.ren [0] []] ⟨rfl, h⟩
  rintro s ⟨rfl, h⟩
  unfold F52_j0 at h
  refine VW.seq ?_
  refine VW.region ?_
  refine sG T_ok 2 [36] [] ⟨[(36, I (a0.size : Int))], []⟩ (tn 2) ?_
  obtain ⟨y14, hy, h⟩ := andO_some h
  refine cal false [.t (.int .i64), .t (.int .i64), .t (.int .i64)] [] (some 37) T_ok (ok54 N _ _ _ hy) ?_
  refine sN T_ok [2] [] ⟨[(2, B y14)], []⟩ (tn 1) ?_
  refine VW.ret ?_
  replace h := Option.some.inj h
  subst h
  exact rt []

/- loop.example/g00844/impl.isCol -/
def F53 (N : Nat) (a0 : Int) : Option (Bool) :=
  andO (F54 N a0 (0 : Int) (63 : Int)) fun y1 => some y1
theorem ok53 (N : Nat) (a0 : Int) {r : Bool} (h : F53 N a0 = some r) : Con Go.Proofs.Tryd.prog 53 [I a0] [.lf (.v .bool r)] := by
  refine ctr [.lf (.v .bool)] T_ok Go.Proofs.Tryd.func53 rfl fun w0 E0 ht => ?_
  unfold F53 at h
  show VW _ _ _ _ _ (retQ _ _ _ _) _
  refine sR T_ok [0] [] ⟨[(0, I a0)], []⟩ (tn 1) ?_
  refine VW.seq ?_
  refine VW.region ?_
  refine sG T_ok 1 [3] [] ⟨[(3, I a0)], []⟩ (tn 1) ?_
  obtain ⟨y1, hy, h⟩ := andO_some h
  refine cal false [.t (.int .i64), .t (.int .i64), .t (.int .i64)] [] (some 4) T_ok (ok54 N _ _ _ hy) ?_
  refine sN T_ok [2] [] ⟨[(2, B y1)], []⟩ (tn 1) ?_
  refine VW.ret ?_
  replace h := Option.some.inj h
  subst h
  exact rt []

/- loop.example/g00844/impl.isSlot -/
def F55 (N : Nat) (a0 : Int) : Option (Bool) :=
  andO (F54 N a0 (0 : Int) (39 : Int)) fun y1 => some y1
theorem ok55 (N : Nat) (a0 : Int) {r : Bool} (h : F55 N a0 = some r) : Con Go.Proofs.Tryd.prog 55 [I a0] [.lf (.v .bool r)] := by
  refine ctr [.lf (.v .bool)] T_ok Go.Proofs.Tryd.func55 rfl fun w0 E0 ht => ?_
  unfold F55 at h
  show VW _ _ _ _ _ (retQ _ _ _ _) _
  refine sR T_ok [0] [] ⟨[(0, I a0)], []⟩ (tn 1) ?_
  refine VW.seq ?_
  refine VW.region ?_
  refine sG T_ok 1 [3] [] ⟨[(3, I a0)], []⟩ (tn 1) ?_
  obtain ⟨y1, hy, h⟩ := andO_some h
  refine cal false [.t (.int .i64), .t (.int .i64), .t (.int .i64)] [] (some 4) T_ok (ok54 N _ _ _ hy) ?_
  refine sN T_ok [2] [] ⟨[(2, B y1)], []⟩ (tn 1) ?_
  refine VW.ret ?_
  replace h := Option.some.inj h
  subst h
  exact rt []

/- loop.example/g00844/impl.isNum -/
def F56 (N : Nat) (a0 : Int) : Option (Bool) :=
  andO (F54 N a0 (-1000000 : Int) (1000000 : Int)) fun y1 => some y1
theorem ok56 (N : Nat) (a0 : Int) {r : Bool} (h : F56 N a0 = some r) : Con Go.Proofs.Tryd.prog 56 [I a0] [.lf (.v .bool r)] := by
  refine ctr [.lf (.v .bool)] T_ok Go.Proofs.Tryd.func56 rfl fun w0 E0 ht => ?_
  unfold F56 at h
  show VW _ _ _ _ _ (retQ _ _ _ _) _
  refine sR T_ok [0] [] ⟨[(0, I a0)], []⟩ (tn 1) ?_
  refine VW.seq ?_
  refine VW.region ?_
  refine sG T_ok 1 [3] [] ⟨[(3, I a0)], []⟩ (tn 1) ?_
  obtain ⟨y1, hy, h⟩ := andO_some h
  refine cal false [.t (.int .i64), .t (.int .i64), .t (.int .i64)] [] (some 4) T_ok (ok54 N _ _ _ hy) ?_
  refine sN T_ok [2] [] ⟨[(2, B y1)], []⟩ (tn 1) ?_
  refine VW.ret ?_
  replace h := Option.some.inj h
  subst h
  exact rt []

/- slices.IndexFunc[[]int,int] -/
def F71_j0 (N : Nat) : Option (Int) :=
  some (-1 : Int)
def F71_l0_b (N : Nat) (a0 : (List Int)) (p1 : Int → Option (Bool)) (nx29 : Int → Int → Option (Int)) (x23 : Int) (x24 : Int) : Option (Int) :=
  cond (decide (x24 < x23)) (gd (InR x24 a0.length) (andO (p1 (a0.getD x24.toNat (Ty.dflt (.int .i64)))) fun y33 => cond y33 (some x24) (nx29 x23 (IntKind.i64.wrap (x24 + (1 : Int)))))) (F71_j0 N)
def F71_l0 (N : Nat) (a0 : (List Int)) (p1 : Int → Option (Bool)) : Nat → Int → Int → Option (Int) := loopF (F71_l0_b N a0 p1) (fun _ _ => none)
theorem F71_l0_s (N : Nat) (a0 : (List Int)) (p1 : Int → Option (Bool)) {k : Nat} (hk : 0 < k) (x23 : Int) (x24 : Int) : F71_l0 N a0 p1 k x23 x24 = F71_l0_b N a0 p1 (F71_l0 N a0 p1 (k - 1)) x23 x24 := by
  cases k with
  | zero => exact absurd hk (Nat.lt_irrefl 0)
  | succ m => rfl
def F71 (N : Nat) (a0 : (List Int)) (p1 : Int → Option (Bool)) : Option (Int) :=
  F71_l0 N a0 p1 N (a0.length : Int) (0 : Int)
theorem ok71 (N : Nat) (a0 : (List Int)) (g1 : FuncId) (p1 : Int → Option (Bool)) (hp1 : ∀ (z0 : Int) (r : Bool), p1 z0 = some r → Con Go.Proofs.Tryd.prog g1 [I z0] [.lf (.v .bool r)]) {r : Int} (h : F71 N a0 p1 = some r) : Con Go.Proofs.Tryd.prog 71 [.lf (.v (.sl (.int .i64)) a0), .clo g1 []] [.lf (.v (.int .i64) r)] := by
  refine ctr [.lf (.v (.int .i64))] T_ok Go.Proofs.Tryd.func71 rfl fun w0 E0 ht => ?_
  unfold F71 at h
  show VW _ _ _ _ _ (retQ _ _ _ _) _
  refine sR T_ok [0, 1] [] ⟨[(0, .lf (.v (.sl (.int .i64)) a0)), (1, .clo g1 [])], []⟩ (tn 1) ?_
  refine VW.join (fun s => s = ⟨[], []⟩ ∧ F71_j0 N = some r) ?_ ?_
  · refine sR T_ok [0, 1, 7, 8] [] ⟨[(0, .lf (.v (.sl (.int .i64)) a0)), (1, .clo g1 []), (7, I (a0.length : Int)), (8, I (0 : Int))], []⟩ (tn 3) ?_
    refine VW.block ?_
    refine lop (fun k s => ∃ (x23 : Int) (x24 : Int), s = ⟨[(0, .lf (.v (.sl (.int .i64)) a0)), (1, .clo g1 []), (7, I x23), (8, I x24)], []⟩ ∧ F71_l0 N a0 p1 k x23 x24 = some r) N [.ren [0, 1, 7, 8] []] ⟨(a0.length : Int), (0 : Int), rfl, h⟩ ?_
    rintro k29 s ⟨x23, x24, rfl, h⟩
    cases k29 with
    | zero => cases show none = some r from h
    | succ k29 =>
      replace h : F71_l0_b N a0 p1 (F71_l0 N a0 p1 k29) x23 x24 = some r := h
      unfold F71_l0_b at h
      refine sR T_ok [0, 1, 7, 8, 9] [] ⟨[(0, .lf (.v (.sl (.int .i64)) a0)), (1, .clo g1 []), (7, I x23), (8, I x24), (9, B (decide (x24 < x23)))], []⟩ (tn 1) ?_
      refine VW.seq ?_
      refine cnd h (fun h => ?_) (fun h => ?_)
      · refine VW.skip ?_
        refine VW.seq ?_
        refine VW.block ?_
        refine sR T_ok [0, 1, 5, 7, 8] [] ⟨[(0, .lf (.v (.sl (.int .i64)) a0)), (1, .clo g1 []), (5, I x24), (7, I x23), (8, I x24)], []⟩ (tn 2) ?_
        refine VW.seq ?_
        refine VW.region ?_
        obtain ⟨g32, h⟩ := gd_some h
        refine sG T_ok 5 [0, 1, 5, 7, 8, 11, 15] [] ⟨[(0, .lf (.v (.sl (.int .i64)) a0)), (1, .clo g1 []), (5, I x24), (7, I x23), (8, I x24), (11, .clo g1 []), (15, I (a0.getD x24.toNat (Ty.dflt (.int .i64))))], []⟩ (pu 3 (an g32 (tn 1))) ?_
        obtain ⟨y33, hy, h⟩ := andO_some h
        refine cal false [.t (.int .i64)] [] (some 16) T_ok (hp1 _ _ hy) ?_
        refine sN T_ok [0, 1, 5, 7, 8, 16] [] ⟨[(0, .lf (.v (.sl (.int .i64)) a0)), (1, .clo g1 []), (5, I x24), (7, I x23), (8, I x24), (16, B y33)], []⟩ (tn 0) ?_
        refine cnd h (fun h => ?_) (fun h => ?_)
        · refine sR T_ok [4] [] ⟨[(4, I x24)], []⟩ (tn 2) ?_
          refine VW.ret ?_
          replace h := Option.some.inj h
          subst h
          exact rt []
        refine VW.skip ?_
        refine rR T_ok [0, 1, 7, 8] [] ⟨[(0, .lf (.v (.sl (.int .i64)) a0)), (1, .clo g1 []), (7, I x23), (8, I (IntKind.i64.wrap (x24 + (1 : Int))))], []⟩ (tn 2) ?_
        exact aro [.ren [0, 1, 7, 8] []] ⟨x23, (IntKind.i64.wrap (x24 + (1 : Int))), rfl, h⟩
      refine VW.exit ?_
      exact arv [.ren [] []] ⟨rfl, h⟩
  rintro s ⟨rfl, h⟩
  unfold F71_j0 at h
  refine sR T_ok [4] [] ⟨[(4, I (-1 : Int))], []⟩ (tn 1) ?_
  refine VW.ret ?_
  replace h := Option.some.inj h
  subst h
  exact rt []

/- slices.ContainsFunc[[]int,int] -/
def F57 (N : Nat) (a0 : (List Int)) (p1 : Int → Option (Bool)) : Option (Bool) :=
  andO (F71 N a0 p1) fun y1 => some (decide (y1 ≥ (0 : Int)))
theorem ok57 (N : Nat) (a0 : (List Int)) (g1 : FuncId) (p1 : Int → Option (Bool)) (hp1 : ∀ (z0 : Int) (r : Bool), p1 z0 = some r → Con Go.Proofs.Tryd.prog g1 [I z0] [.lf (.v .bool r)]) {r : Bool} (h : F57 N a0 p1 = some r) : Con Go.Proofs.Tryd.prog 57 [.lf (.v (.sl (.int .i64)) a0), .clo g1 []] [.lf (.v .bool r)] := by
  refine ctr [.lf (.v .bool)] T_ok Go.Proofs.Tryd.func57 rfl fun w0 E0 ht => ?_
  unfold F57 at h
  show VW _ _ _ _ _ (retQ _ _ _ _) _
  refine sR T_ok [0, 1] [] ⟨[(0, .lf (.v (.sl (.int .i64)) a0)), (1, .clo g1 [])], []⟩ (tn 1) ?_
  refine VW.seq ?_
  refine VW.region ?_
  refine sG T_ok 2 [5, 6] [] ⟨[(5, .lf (.v (.sl (.int .i64)) a0)), (6, .clo g1 [])], []⟩ (tn 2) ?_
  obtain ⟨y1, hy, h⟩ := andO_some h
  refine cal false [.t (.sl (.int .i64)), .clo []] [] (some 7) T_ok (ok71 N _ g1  p1 hp1 hy) ?_
  refine sN T_ok [4] [] ⟨[(4, B (decide (y1 ≥ (0 : Int))))], []⟩ (tn 2) ?_
  refine VW.ret ?_
  replace h := Option.some.inj h
  subst h
  exact rt []

/- loop.example/g00844/impl.NodeOk$1 -/
def F58 (N : Nat) (a0 : Int) : Option (Bool) :=
  andO (F53 N a0) fun y1 => some (!y1)
theorem ok58 (N : Nat) (a0 : Int) {r : Bool} (h : F58 N a0 = some r) : Con Go.Proofs.Tryd.prog 58 [I a0] [.lf (.v .bool r)] := by
  refine ctr [.lf (.v .bool)] T_ok Go.Proofs.Tryd.func58 rfl fun w0 E0 ht => ?_
  unfold F58 at h
  show VW _ _ _ _ _ (retQ _ _ _ _) _
  refine sR T_ok [0] [] ⟨[(0, I a0)], []⟩ (tn 1) ?_
  refine VW.seq ?_
  refine VW.region ?_
  refine sG T_ok 1 [3] [] ⟨[(3, I a0)], []⟩ (tn 1) ?_
  obtain ⟨y1, hy, h⟩ := andO_some h
  refine cal false [.t (.int .i64)] [] (some 4) T_ok (ok53 N _ hy) ?_
  refine sN T_ok [2] [] ⟨[(2, B (!y1))], []⟩ (tn 2) ?_
  refine VW.ret ?_
  replace h := Option.some.inj h
  subst h
  exact rt []

/- slices.Equal[[]int,int] -/
def F72_j0 (N : Nat) : Option (Bool) :=
  some true
def F72_l0_b (N : Nat) (a0 : (List Int)) (a1 : (List Int)) (nx29 : Int → Int → Option (Bool)) (x23 : Int) (x24 : Int) : Option (Bool) :=
  cond (decide (x24 < x23)) (gd (InR x24 a0.length) (gd (InR x24 a1.length) (cond ((a0.getD x24.toNat (Ty.dflt (.int .i64))) != (a1.getD x24.toNat (Ty.dflt (.int .i64)))) (some false) (nx29 x23 (IntKind.i64.wrap (x24 + (1 : Int))))))) (F72_j0 N)
def F72_l0 (N : Nat) (a0 : (List Int)) (a1 : (List Int)) : Nat → Int → Int → Option (Bool) := loopF (F72_l0_b N a0 a1) (fun _ _ => none)
theorem F72_l0_s (N : Nat) (a0 : (List Int)) (a1 : (List Int)) {k : Nat} (hk : 0 < k) (x23 : Int) (x24 : Int) : F72_l0 N a0 a1 k x23 x24 = F72_l0_b N a0 a1 (F72_l0 N a0 a1 (k - 1)) x23 x24 := by
  cases k with
  | zero => exact absurd hk (Nat.lt_irrefl 0)
  | succ m => rfl
def F72 (N : Nat) (a0 : (List Int)) (a1 : (List Int)) : Option (Bool) :=
  cond ((a0.length : Int) != (a1.length : Int)) (some false) (F72_l0 N a0 a1 N (a0.length : Int) (0 : Int))
theorem ok72 (N : Nat) (a0 : (List Int)) (a1 : (List Int)) {r : Bool} (h : F72 N a0 a1 = some r) : Con Go.Proofs.Tryd.prog 72 [.lf (.v (.sl (.int .i64)) a0), .lf (.v (.sl (.int .i64)) a1)] [.lf (.v .bool r)] := by
  refine ctr [.lf (.v .bool)] T_ok Go.Proofs.Tryd.func72 rfl fun w0 E0 ht => ?_
  unfold F72 at h
  show VW _ _ _ _ _ (retQ _ _ _ _) _
  refine sR T_ok [0, 1] [] ⟨[(0, .lf (.v (.sl (.int .i64)) a0)), (1, .lf (.v (.sl (.int .i64)) a1))], []⟩ (tn 1) ?_
  refine VW.seq ?_
  refine sR T_ok [0, 1, 10] [] ⟨[(0, .lf (.v (.sl (.int .i64)) a0)), (1, .lf (.v (.sl (.int .i64)) a1)), (10, B ((a0.length : Int) != (a1.length : Int)))], []⟩ (tn 5) ?_
  refine cnd h (fun h => ?_) (fun h => ?_)
  · refine sR T_ok [4] [] ⟨[(4, B false)], []⟩ (tn 1) ?_
    refine VW.ret ?_
    replace h := Option.some.inj h
    subst h
    exact rt []
  refine VW.skip ?_
  refine VW.join (fun s => s = ⟨[], []⟩ ∧ F72_j0 N = some r) ?_ ?_
  · refine sR T_ok [0, 1, 12, 13] [] ⟨[(0, .lf (.v (.sl (.int .i64)) a0)), (1, .lf (.v (.sl (.int .i64)) a1)), (12, I (a0.length : Int)), (13, I (0 : Int))], []⟩ (tn 3) ?_
    refine VW.block ?_
    refine lop (fun k s => ∃ (x23 : Int) (x24 : Int), s = ⟨[(0, .lf (.v (.sl (.int .i64)) a0)), (1, .lf (.v (.sl (.int .i64)) a1)), (12, I x23), (13, I x24)], []⟩ ∧ F72_l0 N a0 a1 k x23 x24 = some r) N [.ren [0, 1, 12, 13] []] ⟨(a0.length : Int), (0 : Int), rfl, h⟩ ?_
    rintro k29 s ⟨x23, x24, rfl, h⟩
    cases k29 with
    | zero => cases show none = some r from h
    | succ k29 =>
      replace h : F72_l0_b N a0 a1 (F72_l0 N a0 a1 k29) x23 x24 = some r := h
      unfold F72_l0_b at h
      refine sR T_ok [0, 1, 12, 13, 14] [] ⟨[(0, .lf (.v (.sl (.int .i64)) a0)), (1, .lf (.v (.sl (.int .i64)) a1)), (12, I x23), (13, I x24), (14, B (decide (x24 < x23)))], []⟩ (tn 1) ?_
      refine VW.seq ?_
      refine cnd h (fun h => ?_) (fun h => ?_)
      · refine VW.skip ?_
        refine VW.seq ?_
        refine VW.block ?_
        refine sR T_ok [0, 1, 5, 12, 13] [] ⟨[(0, .lf (.v (.sl (.int .i64)) a0)), (1, .lf (.v (.sl (.int .i64)) a1)), (5, I x24), (12, I x23), (13, I x24)], []⟩ (tn 2) ?_
        refine VW.seq ?_
        obtain ⟨g32, h⟩ := gd_some h
        obtain ⟨g33, h⟩ := gd_some h
        refine VW.drawn (by kernel_rfl) [some (16, .lf (.v (.sl (.int .i64)) a0)), some (17, I x24), some (18, .lf (.fp (.int .i64) (a0.getD x24.toNat (Ty.dflt (.int .i64))) 0)), some (19, I (a0.getD x24.toNat (Ty.dflt (.int .i64)))), some (20, .lf (.v (.sl (.int .i64)) a1)), some (21, I x24), some (22, .lf (.fp (.int .i64) (a1.getD x24.toNat (Ty.dflt (.int .i64))) 0)), some (23, I (a1.getD x24.toNat (Ty.dflt (.int .i64)))), some (24, B ((a0.getD x24.toNat (Ty.dflt (.int .i64))) != (a1.getD x24.toNat (Ty.dflt (.int .i64)))))] [] [[]] [(0, 0), (1, 0), (2, 0), (3, 0), (4, 0), (5, 0), (6, 0), (7, 0), (8, 0)] [0, 1, 12, 13, 24] [] (s' := ⟨[(0, .lf (.v (.sl (.int .i64)) a0)), (1, .lf (.v (.sl (.int .i64)) a1)), (12, I x23), (13, I x24), (24, B ((a0.getD x24.toNat (Ty.dflt (.int .i64))) != (a1.getD x24.toNat (Ty.dflt (.int .i64)))))], []⟩) (by kernel_rfl) (by kernel_rfl) ⟨⟨_, rfl, Stp.ev T_ok (m := .dp) (φ := True) (by kernel_rfl) trivial⟩,
    ⟨_, rfl, Stp.ev T_ok (m := .dp) (φ := True) (by kernel_rfl) trivial⟩,
    ⟨_, rfl, Stp.ev T_ok (m := .dp) (φ := InR x24 a0.length) (by kernel_rfl) g32⟩,
    ⟨_, rfl, Stp.ev T_ok (m := .dp) (φ := True) (by kernel_rfl) trivial⟩,
    ⟨_, rfl, Stp.ev T_ok (m := .dp) (φ := True) (by kernel_rfl) trivial⟩,
    ⟨_, rfl, Stp.ev T_ok (m := .dp) (φ := True) (by kernel_rfl) trivial⟩,
    ⟨_, rfl, Stp.ev T_ok (m := .dp) (φ := InR x24 a1.length) (by kernel_rfl) g33⟩,
    ⟨_, rfl, Stp.ev T_ok (m := .dp) (φ := True) (by kernel_rfl) trivial⟩,
    ⟨_, rfl, Stp.ev T_ok (m := .dp) (φ := True) (by kernel_rfl) trivial⟩, trivial⟩ (by kernel_rfl) ?_
        refine cnd h (fun h => ?_) (fun h => ?_)
        · refine sR T_ok [4] [] ⟨[(4, B false)], []⟩ (tn 1) ?_
          refine VW.ret ?_
          replace h := Option.some.inj h
          subst h
          exact rt []
        refine VW.skip ?_
        refine rR T_ok [0, 1, 12, 13] [] ⟨[(0, .lf (.v (.sl (.int .i64)) a0)), (1, .lf (.v (.sl (.int .i64)) a1)), (12, I x23), (13, I (IntKind.i64.wrap (x24 + (1 : Int))))], []⟩ (tn 2) ?_
        exact aro [.ren [0, 1, 12, 13] []] ⟨x23, (IntKind.i64.wrap (x24 + (1 : Int))), rfl, h⟩
      refine VW.exit ?_
      exact arv [.ren [] []] ⟨rfl, h⟩
  rintro s ⟨rfl, h⟩
  unfold F72_j0 at h
  refine sR T_ok [4] [] ⟨[(4, B true)], []⟩ (tn 1) ?_
  refine VW.ret ?_
  replace h := Option.some.inj h
  subst h
  exact rt []

/- loop.example/g00844/impl.sameNode -/
def F59 (N : Nat) (a0 : (Int × (ByteArray × (Int × (Int × (Int × (Bool × (List Int)))))))) (a1 : (Int × (ByteArray × (Int × (Int × (Int × (Bool × (List Int)))))))) : Option (Bool) :=
  cond (a0.1 == a1.1) (cond (a0.2.1.toList == a1.2.1.toList) (cond (a0.2.2.1 == a1.2.2.1) (cond (a0.2.2.2.1 == a1.2.2.2.1) (cond (a0.2.2.2.2.1 == a1.2.2.2.2.1) (cond (a0.2.2.2.2.2.1 == a1.2.2.2.2.2.1) (andO (F72 N a0.2.2.2.2.2.2 a1.2.2.2.2.2.2) fun y1 => some y1) (some false)) (some false)) (some false)) (some false)) (some false)) (some false)
theorem ok59 (N : Nat) (a0 : (Int × (ByteArray × (Int × (Int × (Int × (Bool × (List Int)))))))) (a1 : (Int × (ByteArray × (Int × (Int × (Int × (Bool × (List Int)))))))) {r : Bool} (h : F59 N a0 a1 = some r) : Con Go.Proofs.Tryd.prog 59 [.agg [.v (.int .i64) a0.1, .v .str a0.2.1, .v (.int .i64) a0.2.2.1, .v (.int .i64) a0.2.2.2.1, .v (.int .i64) a0.2.2.2.2.1, .v .bool a0.2.2.2.2.2.1, .v (.sl (.int .i64)) a0.2.2.2.2.2.2], .agg [.v (.int .i64) a1.1, .v .str a1.2.1, .v (.int .i64) a1.2.2.1, .v (.int .i64) a1.2.2.2.1, .v (.int .i64) a1.2.2.2.2.1, .v .bool a1.2.2.2.2.2.1, .v (.sl (.int .i64)) a1.2.2.2.2.2.2]] [.lf (.v .bool r)] := by
  refine ctr [.lf (.v .bool)] T_ok Go.Proofs.Tryd.func59 rfl fun w0 E0 ht => ?_
  unfold F59 at h
  show VW _ _ _ _ _ (retQ _ _ _ _) _
  refine sR T_ok [2, 3] [0, 1] ⟨[(2, .lf (.ptr 0 0 0 0)), (3, .lf (.ptr 1 0 0 0))], [bx [.v (.int .i64) a0.1, .v .str a0.2.1, .v (.int .i64) a0.2.2.1, .v (.int .i64) a0.2.2.2.1, .v (.int .i64) a0.2.2.2.2.1, .v .bool a0.2.2.2.2.2.1, .v (.sl (.int .i64)) a0.2.2.2.2.2.2] 27, bx [.v (.int .i64) a1.1, .v .str a1.2.1, .v (.int .i64) a1.2.2.1, .v (.int .i64) a1.2.2.2.1, .v (.int .i64) a1.2.2.2.2.1, .v .bool a1.2.2.2.2.2.1, .v (.sl (.int .i64)) a1.2.2.2.2.2.2] 27]⟩ (tn 3) ?_
  refine VW.seq ?_
  refine VW.region ?_
  refine sG T_ok 6 [2, 3, 10] [0, 1] ⟨[(2, .lf (.ptr 0 0 0 0)), (3, .lf (.ptr 1 0 0 0)), (10, B (a0.1 == a1.1))], [bx [.v (.int .i64) a0.1, .v .str a0.2.1, .v (.int .i64) a0.2.2.1, .v (.int .i64) a0.2.2.2.1, .v (.int .i64) a0.2.2.2.2.1, .v .bool a0.2.2.2.2.2.1, .v (.sl (.int .i64)) a0.2.2.2.2.2.2] 27, bx [.v (.int .i64) a1.1, .v .str a1.2.1, .v (.int .i64) a1.2.2.1, .v (.int .i64) a1.2.2.2.1, .v (.int .i64) a1.2.2.2.2.1, .v .bool a1.2.2.2.2.2.1, .v (.sl (.int .i64)) a1.2.2.2.2.2.2] 27]⟩ (tn 6) ?_
  refine spB 10 h (fun h => ?_) (fun h => ?_)
  · refine sG T_ok 7 [2, 3, 17] [0, 1] ⟨[(2, .lf (.ptr 0 0 0 0)), (3, .lf (.ptr 1 0 0 0)), (17, B (a0.2.1.toList == a1.2.1.toList))], [bx [.v (.int .i64) a0.1, .v .str a0.2.1, .v (.int .i64) a0.2.2.1, .v (.int .i64) a0.2.2.2.1, .v (.int .i64) a0.2.2.2.2.1, .v .bool a0.2.2.2.2.2.1, .v (.sl (.int .i64)) a0.2.2.2.2.2.2] 27, bx [.v (.int .i64) a1.1, .v .str a1.2.1, .v (.int .i64) a1.2.2.1, .v (.int .i64) a1.2.2.2.1, .v (.int .i64) a1.2.2.2.2.1, .v .bool a1.2.2.2.2.2.1, .v (.sl (.int .i64)) a1.2.2.2.2.2.2] 27]⟩ (tn 7) ?_
    refine spB 17 h (fun h => ?_) (fun h => ?_)
    · refine sG T_ok 7 [2, 3, 24] [0, 1] ⟨[(2, .lf (.ptr 0 0 0 0)), (3, .lf (.ptr 1 0 0 0)), (24, B (a0.2.2.1 == a1.2.2.1))], [bx [.v (.int .i64) a0.1, .v .str a0.2.1, .v (.int .i64) a0.2.2.1, .v (.int .i64) a0.2.2.2.1, .v (.int .i64) a0.2.2.2.2.1, .v .bool a0.2.2.2.2.2.1, .v (.sl (.int .i64)) a0.2.2.2.2.2.2] 27, bx [.v (.int .i64) a1.1, .v .str a1.2.1, .v (.int .i64) a1.2.2.1, .v (.int .i64) a1.2.2.2.1, .v (.int .i64) a1.2.2.2.2.1, .v .bool a1.2.2.2.2.2.1, .v (.sl (.int .i64)) a1.2.2.2.2.2.2] 27]⟩ (tn 7) ?_
      refine spB 24 h (fun h => ?_) (fun h => ?_)
      · refine sG T_ok 7 [2, 3, 31] [0, 1] ⟨[(2, .lf (.ptr 0 0 0 0)), (3, .lf (.ptr 1 0 0 0)), (31, B (a0.2.2.2.1 == a1.2.2.2.1))], [bx [.v (.int .i64) a0.1, .v .str a0.2.1, .v (.int .i64) a0.2.2.1, .v (.int .i64) a0.2.2.2.1, .v (.int .i64) a0.2.2.2.2.1, .v .bool a0.2.2.2.2.2.1, .v (.sl (.int .i64)) a0.2.2.2.2.2.2] 27, bx [.v (.int .i64) a1.1, .v .str a1.2.1, .v (.int .i64) a1.2.2.1, .v (.int .i64) a1.2.2.2.1, .v (.int .i64) a1.2.2.2.2.1, .v .bool a1.2.2.2.2.2.1, .v (.sl (.int .i64)) a1.2.2.2.2.2.2] 27]⟩ (tn 7) ?_
        refine spB 31 h (fun h => ?_) (fun h => ?_)
        · refine sG T_ok 7 [2, 3, 38] [0, 1] ⟨[(2, .lf (.ptr 0 0 0 0)), (3, .lf (.ptr 1 0 0 0)), (38, B (a0.2.2.2.2.1 == a1.2.2.2.2.1))], [bx [.v (.int .i64) a0.1, .v .str a0.2.1, .v (.int .i64) a0.2.2.1, .v (.int .i64) a0.2.2.2.1, .v (.int .i64) a0.2.2.2.2.1, .v .bool a0.2.2.2.2.2.1, .v (.sl (.int .i64)) a0.2.2.2.2.2.2] 27, bx [.v (.int .i64) a1.1, .v .str a1.2.1, .v (.int .i64) a1.2.2.1, .v (.int .i64) a1.2.2.2.1, .v (.int .i64) a1.2.2.2.2.1, .v .bool a1.2.2.2.2.2.1, .v (.sl (.int .i64)) a1.2.2.2.2.2.2] 27]⟩ (tn 7) ?_
          refine spB 38 h (fun h => ?_) (fun h => ?_)
          · refine sG T_ok 7 [2, 3, 45] [0, 1] ⟨[(2, .lf (.ptr 0 0 0 0)), (3, .lf (.ptr 1 0 0 0)), (45, B (a0.2.2.2.2.2.1 == a1.2.2.2.2.2.1))], [bx [.v (.int .i64) a0.1, .v .str a0.2.1, .v (.int .i64) a0.2.2.1, .v (.int .i64) a0.2.2.2.1, .v (.int .i64) a0.2.2.2.2.1, .v .bool a0.2.2.2.2.2.1, .v (.sl (.int .i64)) a0.2.2.2.2.2.2] 27, bx [.v (.int .i64) a1.1, .v .str a1.2.1, .v (.int .i64) a1.2.2.1, .v (.int .i64) a1.2.2.2.1, .v (.int .i64) a1.2.2.2.2.1, .v .bool a1.2.2.2.2.2.1, .v (.sl (.int .i64)) a1.2.2.2.2.2.2] 27]⟩ (tn 7) ?_
            refine spB 45 h (fun h => ?_) (fun h => ?_)
            · refine sG T_ok 4 [45, 47, 49] [] ⟨[(45, B true), (47, .lf (.v (.sl (.int .i64)) a0.2.2.2.2.2.2)), (49, .lf (.v (.sl (.int .i64)) a1.2.2.2.2.2.2))], []⟩ (tn 4) ?_
              refine VO.on (j := 40) (want := true) (d := 45) (b := true) rfl rfl rfl (by kernel_rfl) rfl ?_
              obtain ⟨y1, hy, h⟩ := andO_some h
              refine cal false [.t (.sl (.int .i64)), .t (.sl (.int .i64))] [] (some 50) T_ok (ok72 N _ _ hy) ?_
              refine sN T_ok [4] [] ⟨[(4, B y1)], []⟩ (tn 2) ?_
              refine VW.ret ?_
              replace h := Option.some.inj h
              subst h
              exact rt []
            refine sN T_ok [4] [] ⟨[(4, B false)], []⟩ (tn 7) ?_
            refine VW.ret ?_
            replace h := Option.some.inj h
            subst h
            exact rt []
          refine sN T_ok [4] [] ⟨[(4, B false)], []⟩ (tn 14) ?_
          refine VW.ret ?_
          replace h := Option.some.inj h
          subst h
          exact rt []
        refine sN T_ok [4] [] ⟨[(4, B false)], []⟩ (tn 21) ?_
        refine VW.ret ?_
        replace h := Option.some.inj h
        subst h
        exact rt []
      refine sN T_ok [4] [] ⟨[(4, B false)], []⟩ (tn 28) ?_
      refine VW.ret ?_
      replace h := Option.some.inj h
      subst h
      exact rt []
    refine sN T_ok [4] [] ⟨[(4, B false)], []⟩ (tn 35) ?_
    refine VW.ret ?_
    replace h := Option.some.inj h
    subst h
    exact rt []
  refine sN T_ok [4] [] ⟨[(4, B false)], []⟩ (tn 42) ?_
  refine VW.ret ?_
  replace h := Option.some.inj h
  subst h
  exact rt []

/- loop.example/g00844/impl.NodeOk -/
def F31_j0 (N : Nat) (x38 : ByteArray) (x39 : Int) (x40 : Int) (x41 : Int) (x42 : Bool) (x43 : (List Int)) (x44 : Bool) : Option (Bool) :=
  cond x44 (andO (F59 N ((0 : Int), (x38, (x39, (x40, (x41, (x42, x43)))))) ((0 : Int), (ByteArray.empty, ((0 : Int), ((0 : Int), ((0 : Int), (false, []))))))) fun y45 => some y45) (some false)
def F31_j1 (N : Nat) (x52 : ByteArray) (x53 : Int) (x54 : Int) (x55 : Int) (x56 : Bool) (x57 : (List Int)) (x58 : Bool) : Option (Bool) :=
  F31_j0 N x52 (0 : Int) (0 : Int) (0 : Int) false x57 x58
def F31_j2 (N : Nat) (x62 : ByteArray) (x63 : Int) (x64 : Int) (x65 : Int) (x66 : Bool) (x67 : (List Int)) : Option (Bool) :=
  F31_j0 N x62 (0 : Int) (0 : Int) (0 : Int) false x67 false
def F31_j3 (N : Nat) (x76 : ByteArray) (x77 : Int) (x78 : Int) (x79 : Int) (x80 : Bool) (x81 : (List Int)) (x82 : Bool) : Option (Bool) :=
  cond x82 (F31_j0 N x76 x77 x78 x79 x80 x81 true) (F31_j0 N x76 x77 x78 x79 x80 x81 false)
def F31 (N : Nat) (a0 : (Int × (ByteArray × (Int × (Int × (Int × (Bool × (List Int)))))))) : Option (Bool) :=
  cond (a0.1 == (0 : Int)) (andO (F52 N a0.2.1) fun y47 => F31_j0 N ByteArray.empty a0.2.2.1 a0.2.2.2.1 a0.2.2.2.2.1 a0.2.2.2.2.2.1 a0.2.2.2.2.2.2 y47) (cond (a0.1 == (1 : Int)) (andO (F53 N a0.2.2.1) fun y48 => cond y48 (andO (F54 N a0.2.2.2.1 (0 : Int) (3 : Int)) fun y49 => cond (a0.2.2.2.1 == (3 : Int)) (cond y49 (cond (a0.2.2.2.2.1 == (0 : Int)) (F31_j1 N a0.2.1 a0.2.2.1 a0.2.2.2.1 a0.2.2.2.2.1 a0.2.2.2.2.2.1 a0.2.2.2.2.2.2 (!a0.2.2.2.2.2.1)) (F31_j1 N a0.2.1 a0.2.2.1 a0.2.2.2.1 a0.2.2.2.2.1 a0.2.2.2.2.2.1 a0.2.2.2.2.2.2 false)) (F31_j1 N a0.2.1 a0.2.2.1 a0.2.2.2.1 a0.2.2.2.2.1 a0.2.2.2.2.2.1 a0.2.2.2.2.2.2 false)) (cond a0.2.2.2.2.2.1 (cond y49 (andO (F55 N a0.2.2.2.2.1) fun y60 => F31_j1 N a0.2.1 a0.2.2.1 a0.2.2.2.1 a0.2.2.2.2.1 a0.2.2.2.2.2.1 a0.2.2.2.2.2.2 y60) (F31_j1 N a0.2.1 a0.2.2.1 a0.2.2.2.1 a0.2.2.2.2.1 a0.2.2.2.2.2.1 a0.2.2.2.2.2.2 false)) (cond y49 (andO (F56 N a0.2.2.2.2.1) fun y61 => F31_j1 N a0.2.1 a0.2.2.1 a0.2.2.2.1 a0.2.2.2.2.1 a0.2.2.2.2.2.1 a0.2.2.2.2.2.2 y61) (F31_j1 N a0.2.1 a0.2.2.1 a0.2.2.2.1 a0.2.2.2.2.1 a0.2.2.2.2.2.1 a0.2.2.2.2.2.2 false)))) (cond (a0.2.2.2.1 == (3 : Int)) (F31_j2 N a0.2.1 a0.2.2.1 a0.2.2.2.1 a0.2.2.2.2.1 a0.2.2.2.2.2.1 a0.2.2.2.2.2.2) (cond a0.2.2.2.2.2.1 (F31_j2 N a0.2.1 a0.2.2.1 a0.2.2.2.1 a0.2.2.2.2.1 a0.2.2.2.2.2.1 a0.2.2.2.2.2.2) (F31_j2 N a0.2.1 a0.2.2.1 a0.2.2.2.1 a0.2.2.2.2.1 a0.2.2.2.2.2.1 a0.2.2.2.2.2.2)))) (cond (a0.1 == (2 : Int)) (andO (F54 N (a0.2.2.2.2.2.2.length : Int) (1 : Int) (6 : Int)) fun y69 => cond y69 (andO (F57 N a0.2.2.2.2.2.2 (fun z0 => F58 N z0)) fun y70 => F31_j0 N a0.2.1 a0.2.2.1 a0.2.2.2.1 a0.2.2.2.2.1 a0.2.2.2.2.2.1 ([]) (!y70)) (F31_j0 N a0.2.1 a0.2.2.1 a0.2.2.2.1 a0.2.2.2.2.1 a0.2.2.2.2.2.1 ([]) false)) (cond (a0.1 == (3 : Int)) (andO (F53 N a0.2.2.1) fun y71 => cond y71 (andO (F53 N a0.2.2.2.2.1) fun y72 => F31_j0 N a0.2.1 (0 : Int) a0.2.2.2.1 (0 : Int) a0.2.2.2.2.2.1 a0.2.2.2.2.2.2 y72) (F31_j0 N a0.2.1 (0 : Int) a0.2.2.2.1 (0 : Int) a0.2.2.2.2.2.1 a0.2.2.2.2.2.2 false)) (cond (a0.1 == (5 : Int)) (andO (F53 N a0.2.2.1) fun y73 => F31_j0 N a0.2.1 (0 : Int) a0.2.2.2.1 a0.2.2.2.2.1 a0.2.2.2.2.2.1 a0.2.2.2.2.2.2 y73) (cond (a0.1 == (6 : Int)) (andO (F54 N a0.2.2.2.2.1 (0 : Int) (1000000 : Int)) fun y74 => cond y74 (cond (!a0.2.2.2.2.2.1) (F31_j0 N a0.2.1 a0.2.2.1 a0.2.2.2.1 (0 : Int) false a0.2.2.2.2.2.2 true) (andO (F55 N a0.2.2.2.2.1) fun y75 => F31_j0 N a0.2.1 a0.2.2.1 a0.2.2.2.1 (0 : Int) false a0.2.2.2.2.2.2 y75)) (F31_j0 N a0.2.1 a0.2.2.1 a0.2.2.2.1 (0 : Int) false a0.2.2.2.2.2.2 false)) (cond (a0.1 == (4 : Int)) (F31_j3 N a0.2.1 a0.2.2.1 a0.2.2.2.1 a0.2.2.2.2.1 a0.2.2.2.2.2.1 a0.2.2.2.2.2.2 (a0.1 == (4 : Int))) (F31_j3 N a0.2.1 a0.2.2.1 a0.2.2.2.1 a0.2.2.2.2.1 a0.2.2.2.2.2.1 a0.2.2.2.2.2.2 (a0.1 == (7 : Int)))))))))
theorem ok31 (N : Nat) (a0 : (Int × (ByteArray × (Int × (Int × (Int × (Bool × (List Int)))))))) {r : Bool} (h : F31 N a0 = some r) : Con Go.Proofs.Tryd.prog 31 [.agg [.v (.int .i64) a0.1, .v .str a0.2.1, .v (.int .i64) a0.2.2.1, .v (.int .i64) a0.2.2.2.1, .v (.int .i64) a0.2.2.2.2.1, .v .bool a0.2.2.2.2.2.1, .v (.sl (.int .i64)) a0.2.2.2.2.2.2]] [.lf (.v .bool r)] := by
  refine ctr [.lf (.v .bool)] T_ok Go.Proofs.Tryd.func31 rfl fun w0 E0 ht => ?_
  unfold F31 at h
  show VW _ _ _ _ _ (retQ _ _ _ _) _
  refine sR T_ok [1] [0] ⟨[(1, .lf (.ptr 0 0 0 0))], [bx [.v (.int .i64) a0.1, .v .str a0.2.1, .v (.int .i64) a0.2.2.1, .v (.int .i64) a0.2.2.2.1, .v (.int .i64) a0.2.2.2.2.1, .v .bool a0.2.2.2.2.2.1, .v (.sl (.int .i64)) a0.2.2.2.2.2.2] 27]⟩ (tn 2) ?_
  refine sR T_ok [1, 3] [0, 1] ⟨[(1, .lf (.ptr 0 0 0 0)), (3, .lf (.ptr 1 0 0 0))], [bx [.v (.int .i64) a0.1, .v .str a0.2.1, .v (.int .i64) a0.2.2.1, .v (.int .i64) a0.2.2.2.1, .v (.int .i64) a0.2.2.2.2.1, .v .bool a0.2.2.2.2.2.1, .v (.sl (.int .i64)) a0.2.2.2.2.2.2] 27, bx [.v (.int .i64) a0.1, .v .str a0.2.1, .v (.int .i64) a0.2.2.1, .v (.int .i64) a0.2.2.2.1, .v (.int .i64) a0.2.2.2.2.1, .v .bool a0.2.2.2.2.2.1, .v (.sl (.int .i64)) a0.2.2.2.2.2.2] 27]⟩ (tn 3) ?_
  refine sR T_ok [1, 3] [0, 1] ⟨[(1, .lf (.ptr 0 0 0 0)), (3, .lf (.ptr 1 0 0 0))], [bx [.v (.int .i64) a0.1, .v .str a0.2.1, .v (.int .i64) a0.2.2.1, .v (.int .i64) a0.2.2.2.1, .v (.int .i64) a0.2.2.2.2.1, .v .bool a0.2.2.2.2.2.1, .v (.sl (.int .i64)) a0.2.2.2.2.2.2] 27, bx [.v (.int .i64) (0 : Int), .v .str a0.2.1, .v (.int .i64) a0.2.2.1, .v (.int .i64) a0.2.2.2.1, .v (.int .i64) a0.2.2.2.2.1, .v .bool a0.2.2.2.2.2.1, .v (.sl (.int .i64)) a0.2.2.2.2.2.2] 27]⟩ (tn 2) ?_
  refine sR T_ok [1, 3, 4] [0, 1] ⟨[(1, .lf (.ptr 0 0 0 0)), (3, .lf (.ptr 1 0 0 0)), (4, B false)], [bx [.v (.int .i64) a0.1, .v .str a0.2.1, .v (.int .i64) a0.2.2.1, .v (.int .i64) a0.2.2.2.1, .v (.int .i64) a0.2.2.2.2.1, .v .bool a0.2.2.2.2.2.1, .v (.sl (.int .i64)) a0.2.2.2.2.2.2] 27, bx [.v (.int .i64) (0 : Int), .v .str a0.2.1, .v (.int .i64) a0.2.2.1, .v (.int .i64) a0.2.2.2.1, .v (.int .i64) a0.2.2.2.2.1, .v .bool a0.2.2.2.2.2.1, .v (.sl (.int .i64)) a0.2.2.2.2.2.2] 27]⟩ (tn 1) ?_
  refine VW.join (fun s => ∃ (x38 : ByteArray) (x39 : Int) (x40 : Int) (x41 : Int) (x42 : Bool) (x43 : (List Int)) (x44 : Bool), s = ⟨[(3, .lf (.ptr 0 0 0 0)), (4, B x44)], [bx [.v (.int .i64) (0 : Int), .v .str x38, .v (.int .i64) x39, .v (.int .i64) x40, .v (.int .i64) x41, .v .bool x42, .v (.sl (.int .i64)) x43] 27]⟩ ∧ F31_j0 N x38 x39 x40 x41 x42 x43 x44 = some r) ?_ ?_
  · refine sR T_ok [1, 3, 4, 8] [0, 1] ⟨[(1, .lf (.ptr 0 0 0 0)), (3, .lf (.ptr 1 0 0 0)), (4, B false), (8, I a0.1)], [bx [.v (.int .i64) a0.1, .v .str a0.2.1, .v (.int .i64) a0.2.2.1, .v (.int .i64) a0.2.2.2.1, .v (.int .i64) a0.2.2.2.2.1, .v .bool a0.2.2.2.2.2.1, .v (.sl (.int .i64)) a0.2.2.2.2.2.2] 27, bx [.v (.int .i64) (0 : Int), .v .str a0.2.1, .v (.int .i64) a0.2.2.1, .v (.int .i64) a0.2.2.2.1, .v (.int .i64) a0.2.2.2.2.1, .v .bool a0.2.2.2.2.2.1, .v (.sl (.int .i64)) a0.2.2.2.2.2.2] 27]⟩ (tn 2) ?_
    refine VW.block ?_
    refine sR T_ok [1, 3, 4, 8, 9] [0, 1] ⟨[(1, .lf (.ptr 0 0 0 0)), (3, .lf (.ptr 1 0 0 0)), (4, B false), (8, I a0.1), (9, B (a0.1 == (0 : Int)))], [bx [.v (.int .i64) a0.1, .v .str a0.2.1, .v (.int .i64) a0.2.2.1, .v (.int .i64) a0.2.2.2.1, .v (.int .i64) a0.2.2.2.2.1, .v .bool a0.2.2.2.2.2.1, .v (.sl (.int .i64)) a0.2.2.2.2.2.2] 27, bx [.v (.int .i64) (0 : Int), .v .str a0.2.1, .v (.int .i64) a0.2.2.1, .v (.int .i64) a0.2.2.2.1, .v (.int .i64) a0.2.2.2.2.1, .v .bool a0.2.2.2.2.2.1, .v (.sl (.int .i64)) a0.2.2.2.2.2.2] 27]⟩ (tn 2) ?_
    refine cnd h (fun h => ?_) (fun h => ?_)
    · refine VW.seq ?_
      refine VW.region ?_
      refine sG T_ok 2 [3, 12] [1] ⟨[(3, .lf (.ptr 0 0 0 0)), (12, S a0.2.1)], [bx [.v (.int .i64) (0 : Int), .v .str a0.2.1, .v (.int .i64) a0.2.2.1, .v (.int .i64) a0.2.2.2.1, .v (.int .i64) a0.2.2.2.2.1, .v .bool a0.2.2.2.2.2.1, .v (.sl (.int .i64)) a0.2.2.2.2.2.2] 27]⟩ (tn 2) ?_
      obtain ⟨y47, hy, h⟩ := andO_some h
      refine cal false [.t .str] [] (some 13) T_ok (ok52 N _ hy) ?_
      refine sN T_ok [3, 4] [0] ⟨[(3, .lf (.ptr 0 0 0 0)), (4, B y47)], [bx [.v (.int .i64) (0 : Int), .v .str a0.2.1, .v (.int .i64) a0.2.2.1, .v (.int .i64) a0.2.2.2.1, .v (.int .i64) a0.2.2.2.2.1, .v .bool a0.2.2.2.2.2.1, .v (.sl (.int .i64)) a0.2.2.2.2.2.2] 27]⟩ (tn 1) ?_
      refine rR T_ok [3, 4] [0] ⟨[(3, .lf (.ptr 0 0 0 0)), (4, B y47)], [bx [.v (.int .i64) (0 : Int), .v .str ByteArray.empty, .v (.int .i64) a0.2.2.1, .v (.int .i64) a0.2.2.2.1, .v (.int .i64) a0.2.2.2.2.1, .v .bool a0.2.2.2.2.2.1, .v (.sl (.int .i64)) a0.2.2.2.2.2.2] 27]⟩ (tn 2) ?_
      exact arv [.ren [3, 4] [0]] ⟨ByteArray.empty, a0.2.2.1, a0.2.2.2.1, a0.2.2.2.2.1, a0.2.2.2.2.2.1, a0.2.2.2.2.2.2, y47, rfl, h⟩
    refine sR T_ok [1, 3, 4, 8, 15] [0, 1] ⟨[(1, .lf (.ptr 0 0 0 0)), (3, .lf (.ptr 1 0 0 0)), (4, B false), (8, I a0.1), (15, B (a0.1 == (1 : Int)))], [bx [.v (.int .i64) a0.1, .v .str a0.2.1, .v (.int .i64) a0.2.2.1, .v (.int .i64) a0.2.2.2.1, .v (.int .i64) a0.2.2.2.2.1, .v .bool a0.2.2.2.2.2.1, .v (.sl (.int .i64)) a0.2.2.2.2.2.2] 27, bx [.v (.int .i64) (0 : Int), .v .str a0.2.1, .v (.int .i64) a0.2.2.1, .v (.int .i64) a0.2.2.2.1, .v (.int .i64) a0.2.2.2.2.1, .v .bool a0.2.2.2.2.2.1, .v (.sl (.int .i64)) a0.2.2.2.2.2.2] 27]⟩ (tn 2) ?_
    refine cnd h (fun h => ?_) (fun h => ?_)
    · refine VW.seq ?_
      refine VW.region ?_
      refine sG T_ok 2 [1, 3, 18] [0, 1] ⟨[(1, .lf (.ptr 0 0 0 0)), (3, .lf (.ptr 1 0 0 0)), (18, I a0.2.2.1)], [bx [.v (.int .i64) a0.1, .v .str a0.2.1, .v (.int .i64) a0.2.2.1, .v (.int .i64) a0.2.2.2.1, .v (.int .i64) a0.2.2.2.2.1, .v .bool a0.2.2.2.2.2.1, .v (.sl (.int .i64)) a0.2.2.2.2.2.2] 27, bx [.v (.int .i64) (0 : Int), .v .str a0.2.1, .v (.int .i64) a0.2.2.1, .v (.int .i64) a0.2.2.2.1, .v (.int .i64) a0.2.2.2.2.1, .v .bool a0.2.2.2.2.2.1, .v (.sl (.int .i64)) a0.2.2.2.2.2.2] 27]⟩ (tn 2) ?_
      obtain ⟨y48, hy, h⟩ := andO_some h
      refine cal false [.t (.int .i64)] [] (some 19) T_ok (ok53 N _ hy) ?_
      refine sG T_ok 1 [1, 3, 20] [0, 1] ⟨[(1, .lf (.ptr 0 0 0 0)), (3, .lf (.ptr 1 0 0 0)), (20, B y48)], [bx [.v (.int .i64) a0.1, .v .str a0.2.1, .v (.int .i64) a0.2.2.1, .v (.int .i64) a0.2.2.2.1, .v (.int .i64) a0.2.2.2.2.1, .v .bool a0.2.2.2.2.2.1, .v (.sl (.int .i64)) a0.2.2.2.2.2.2] 27, bx [.v (.int .i64) (0 : Int), .v .str a0.2.1, .v (.int .i64) a0.2.2.1, .v (.int .i64) a0.2.2.2.1, .v (.int .i64) a0.2.2.2.2.1, .v .bool a0.2.2.2.2.2.1, .v (.sl (.int .i64)) a0.2.2.2.2.2.2] 27]⟩ (tn 1) ?_
      refine spB 20 h (fun h => ?_) (fun h => ?_)
      · refine sG T_ok 2 [1, 3, 20, 22] [0, 1] ⟨[(1, .lf (.ptr 0 0 0 0)), (3, .lf (.ptr 1 0 0 0)), (20, B true), (22, I a0.2.2.2.1)], [bx [.v (.int .i64) a0.1, .v .str a0.2.1, .v (.int .i64) a0.2.2.1, .v (.int .i64) a0.2.2.2.1, .v (.int .i64) a0.2.2.2.2.1, .v .bool a0.2.2.2.2.2.1, .v (.sl (.int .i64)) a0.2.2.2.2.2.2] 27, bx [.v (.int .i64) (0 : Int), .v .str a0.2.1, .v (.int .i64) a0.2.2.1, .v (.int .i64) a0.2.2.2.1, .v (.int .i64) a0.2.2.2.2.1, .v .bool a0.2.2.2.2.2.1, .v (.sl (.int .i64)) a0.2.2.2.2.2.2] 27]⟩ (tn 2) ?_
        refine VO.on (j := 3) (want := true) (d := 20) (b := true) rfl rfl rfl (by kernel_rfl) rfl ?_
        obtain ⟨y49, hy, h⟩ := andO_some h
        refine cal false [.t (.int .i64), .t (.int .i64), .t (.int .i64)] [] (some 23) T_ok (ok54 N _ _ _ hy) ?_
        refine sN T_ok [1, 3, 4] [0, 1] ⟨[(1, .lf (.ptr 0 0 0 0)), (3, .lf (.ptr 1 0 0 0)), (4, B y49)], [bx [.v (.int .i64) a0.1, .v .str a0.2.1, .v (.int .i64) a0.2.2.1, .v (.int .i64) a0.2.2.2.1, .v (.int .i64) a0.2.2.2.2.1, .v .bool a0.2.2.2.2.2.1, .v (.sl (.int .i64)) a0.2.2.2.2.2.2] 27, bx [.v (.int .i64) (0 : Int), .v .str a0.2.1, .v (.int .i64) a0.2.2.1, .v (.int .i64) a0.2.2.2.1, .v (.int .i64) a0.2.2.2.2.1, .v .bool a0.2.2.2.2.2.1, .v (.sl (.int .i64)) a0.2.2.2.2.2.2] 27]⟩ (tn 2) ?_
        refine VW.join (fun s => ∃ (x52 : ByteArray) (x53 : Int) (x54 : Int) (x55 : Int) (x56 : Bool) (x57 : (List Int)) (x58 : Bool), s = ⟨[(3, .lf (.ptr 0 0 0 0)), (4, B x58)], [bx [.v (.int .i64) (0 : Int), .v .str x52, .v (.int .i64) x53, .v (.int .i64) x54, .v (.int .i64) x55, .v .bool x56, .v (.sl (.int .i64)) x57] 27]⟩ ∧ F31_j1 N x52 x53 x54 x55 x56 x57 x58 = some r) ?_ ?_
        · refine VW.block ?_
          refine sR T_ok [1, 3, 4, 31] [0, 1] ⟨[(1, .lf (.ptr 0 0 0 0)), (3, .lf (.ptr 1 0 0 0)), (4, B y49), (31, B (a0.2.2.2.1 == (3 : Int)))], [bx [.v (.int .i64) a0.1, .v .str a0.2.1, .v (.int .i64) a0.2.2.1, .v (.int .i64) a0.2.2.2.1, .v (.int .i64) a0.2.2.2.2.1, .v .bool a0.2.2.2.2.2.1, .v (.sl (.int .i64)) a0.2.2.2.2.2.2] 27, bx [.v (.int .i64) (0 : Int), .v .str a0.2.1, .v (.int .i64) a0.2.2.1, .v (.int .i64) a0.2.2.2.1, .v (.int .i64) a0.2.2.2.2.1, .v .bool a0.2.2.2.2.2.1, .v (.sl (.int .i64)) a0.2.2.2.2.2.2] 27]⟩ (tn 4) ?_
          refine cnd h (fun h => ?_) (fun h => ?_)
          · refine VW.region ?_
            refine sG T_ok 2 [1, 3, 36] [0, 1] ⟨[(1, .lf (.ptr 0 0 0 0)), (3, .lf (.ptr 1 0 0 0)), (36, B y49)], [bx [.v (.int .i64) a0.1, .v .str a0.2.1, .v (.int .i64) a0.2.2.1, .v (.int .i64) a0.2.2.2.1, .v (.int .i64) a0.2.2.2.2.1, .v .bool a0.2.2.2.2.2.1, .v (.sl (.int .i64)) a0.2.2.2.2.2.2] 27, bx [.v (.int .i64) (0 : Int), .v .str a0.2.1, .v (.int .i64) a0.2.2.1, .v (.int .i64) a0.2.2.2.1, .v (.int .i64) a0.2.2.2.2.1, .v .bool a0.2.2.2.2.2.1, .v (.sl (.int .i64)) a0.2.2.2.2.2.2] 27]⟩ (tn 2) ?_
            refine spB 36 h (fun h => ?_) (fun h => ?_)
            · refine sG T_ok 5 [1, 3, 41] [0, 1] ⟨[(1, .lf (.ptr 0 0 0 0)), (3, .lf (.ptr 1 0 0 0)), (41, B (a0.2.2.2.2.1 == (0 : Int)))], [bx [.v (.int .i64) a0.1, .v .str a0.2.1, .v (.int .i64) a0.2.2.1, .v (.int .i64) a0.2.2.2.1, .v (.int .i64) a0.2.2.2.2.1, .v .bool a0.2.2.2.2.2.1, .v (.sl (.int .i64)) a0.2.2.2.2.2.2] 27, bx [.v (.int .i64) (0 : Int), .v .str a0.2.1, .v (.int .i64) a0.2.2.1, .v (.int .i64) a0.2.2.2.1, .v (.int .i64) a0.2.2.2.2.1, .v .bool a0.2.2.2.2.2.1, .v (.sl (.int .i64)) a0.2.2.2.2.2.2] 27]⟩ (tn 5) ?_
              refine spB 41 h (fun h => ?_) (fun h => ?_)
              · refine sN T_ok [3, 4] [1] ⟨[(3, .lf (.ptr 0 0 0 0)), (4, B (!a0.2.2.2.2.2.1))], [bx [.v (.int .i64) (0 : Int), .v .str a0.2.1, .v (.int .i64) a0.2.2.1, .v (.int .i64) a0.2.2.2.1, .v (.int .i64) a0.2.2.2.2.1, .v .bool a0.2.2.2.2.2.1, .v (.sl (.int .i64)) a0.2.2.2.2.2.2] 27]⟩ (tn 5) ?_
                exact arv [.ren [3, 4] [0]] ⟨a0.2.1, a0.2.2.1, a0.2.2.2.1, a0.2.2.2.2.1, a0.2.2.2.2.2.1, a0.2.2.2.2.2.2, (!a0.2.2.2.2.2.1), rfl, h⟩
              refine sN T_ok [3, 4] [1] ⟨[(3, .lf (.ptr 0 0 0 0)), (4, B false)], [bx [.v (.int .i64) (0 : Int), .v .str a0.2.1, .v (.int .i64) a0.2.2.1, .v (.int .i64) a0.2.2.2.1, .v (.int .i64) a0.2.2.2.2.1, .v .bool a0.2.2.2.2.2.1, .v (.sl (.int .i64)) a0.2.2.2.2.2.2] 27]⟩ (tn 5) ?_
              exact arv [.ren [3, 4] [0]] ⟨a0.2.1, a0.2.2.1, a0.2.2.2.1, a0.2.2.2.2.1, a0.2.2.2.2.2.1, a0.2.2.2.2.2.2, false, rfl, h⟩
            refine sN T_ok [3, 4] [1] ⟨[(3, .lf (.ptr 0 0 0 0)), (4, B false)], [bx [.v (.int .i64) (0 : Int), .v .str a0.2.1, .v (.int .i64) a0.2.2.1, .v (.int .i64) a0.2.2.2.1, .v (.int .i64) a0.2.2.2.2.1, .v .bool a0.2.2.2.2.2.1, .v (.sl (.int .i64)) a0.2.2.2.2.2.2] 27]⟩ (tn 10) ?_
            exact arv [.ren [3, 4] [0]] ⟨a0.2.1, a0.2.2.1, a0.2.2.2.1, a0.2.2.2.2.1, a0.2.2.2.2.2.1, a0.2.2.2.2.2.2, false, rfl, h⟩
          refine sR T_ok [1, 3, 4, 46] [0, 1] ⟨[(1, .lf (.ptr 0 0 0 0)), (3, .lf (.ptr 1 0 0 0)), (4, B y49), (46, B a0.2.2.2.2.2.1)], [bx [.v (.int .i64) a0.1, .v .str a0.2.1, .v (.int .i64) a0.2.2.1, .v (.int .i64) a0.2.2.2.1, .v (.int .i64) a0.2.2.2.2.1, .v .bool a0.2.2.2.2.2.1, .v (.sl (.int .i64)) a0.2.2.2.2.2.2] 27, bx [.v (.int .i64) (0 : Int), .v .str a0.2.1, .v (.int .i64) a0.2.2.1, .v (.int .i64) a0.2.2.2.1, .v (.int .i64) a0.2.2.2.2.1, .v .bool a0.2.2.2.2.2.1, .v (.sl (.int .i64)) a0.2.2.2.2.2.2] 27]⟩ (tn 3) ?_
          refine cnd h (fun h => ?_) (fun h => ?_)
          · refine VW.region ?_
            refine sG T_ok 2 [1, 3, 50] [0, 1] ⟨[(1, .lf (.ptr 0 0 0 0)), (3, .lf (.ptr 1 0 0 0)), (50, B y49)], [bx [.v (.int .i64) a0.1, .v .str a0.2.1, .v (.int .i64) a0.2.2.1, .v (.int .i64) a0.2.2.2.1, .v (.int .i64) a0.2.2.2.2.1, .v .bool a0.2.2.2.2.2.1, .v (.sl (.int .i64)) a0.2.2.2.2.2.2] 27, bx [.v (.int .i64) (0 : Int), .v .str a0.2.1, .v (.int .i64) a0.2.2.1, .v (.int .i64) a0.2.2.2.1, .v (.int .i64) a0.2.2.2.2.1, .v .bool a0.2.2.2.2.2.1, .v (.sl (.int .i64)) a0.2.2.2.2.2.2] 27]⟩ (tn 2) ?_
            refine spB 50 h (fun h => ?_) (fun h => ?_)
            · refine sG T_ok 2 [3, 50, 52] [1] ⟨[(3, .lf (.ptr 0 0 0 0)), (50, B true), (52, I a0.2.2.2.2.1)], [bx [.v (.int .i64) (0 : Int), .v .str a0.2.1, .v (.int .i64) a0.2.2.1, .v (.int .i64) a0.2.2.2.1, .v (.int .i64) a0.2.2.2.2.1, .v .bool a0.2.2.2.2.2.1, .v (.sl (.int .i64)) a0.2.2.2.2.2.2] 27]⟩ (tn 2) ?_
              refine VO.on (j := 1) (want := true) (d := 50) (b := true) rfl rfl rfl (by kernel_rfl) rfl ?_
              obtain ⟨y60, hy, h⟩ := andO_some h
              refine cal false [.t (.int .i64)] [] (some 53) T_ok (ok55 N _ hy) ?_
              refine sN T_ok [3, 4] [0] ⟨[(3, .lf (.ptr 0 0 0 0)), (4, B y60)], [bx [.v (.int .i64) (0 : Int), .v .str a0.2.1, .v (.int .i64) a0.2.2.1, .v (.int .i64) a0.2.2.2.1, .v (.int .i64) a0.2.2.2.2.1, .v .bool a0.2.2.2.2.2.1, .v (.sl (.int .i64)) a0.2.2.2.2.2.2] 27]⟩ (tn 2) ?_
              exact arv [.ren [3, 4] [0]] ⟨a0.2.1, a0.2.2.1, a0.2.2.2.1, a0.2.2.2.2.1, a0.2.2.2.2.2.1, a0.2.2.2.2.2.2, y60, rfl, h⟩
            refine sN T_ok [3, 4] [1] ⟨[(3, .lf (.ptr 0 0 0 0)), (4, B false)], [bx [.v (.int .i64) (0 : Int), .v .str a0.2.1, .v (.int .i64) a0.2.2.1, .v (.int .i64) a0.2.2.2.1, .v (.int .i64) a0.2.2.2.2.1, .v .bool a0.2.2.2.2.2.1, .v (.sl (.int .i64)) a0.2.2.2.2.2.2] 27]⟩ (tn 5) ?_
            exact arv [.ren [3, 4] [0]] ⟨a0.2.1, a0.2.2.1, a0.2.2.2.1, a0.2.2.2.2.1, a0.2.2.2.2.2.1, a0.2.2.2.2.2.2, false, rfl, h⟩
          refine VW.region ?_
          refine sG T_ok 2 [1, 3, 26] [0, 1] ⟨[(1, .lf (.ptr 0 0 0 0)), (3, .lf (.ptr 1 0 0 0)), (26, B y49)], [bx [.v (.int .i64) a0.1, .v .str a0.2.1, .v (.int .i64) a0.2.2.1, .v (.int .i64) a0.2.2.2.1, .v (.int .i64) a0.2.2.2.2.1, .v .bool a0.2.2.2.2.2.1, .v (.sl (.int .i64)) a0.2.2.2.2.2.2] 27, bx [.v (.int .i64) (0 : Int), .v .str a0.2.1, .v (.int .i64) a0.2.2.1, .v (.int .i64) a0.2.2.2.1, .v (.int .i64) a0.2.2.2.2.1, .v .bool a0.2.2.2.2.2.1, .v (.sl (.int .i64)) a0.2.2.2.2.2.2] 27]⟩ (tn 2) ?_
          refine spB 26 h (fun h => ?_) (fun h => ?_)
          · refine sG T_ok 2 [3, 26, 28] [1] ⟨[(3, .lf (.ptr 0 0 0 0)), (26, B true), (28, I a0.2.2.2.2.1)], [bx [.v (.int .i64) (0 : Int), .v .str a0.2.1, .v (.int .i64) a0.2.2.1, .v (.int .i64) a0.2.2.2.1, .v (.int .i64) a0.2.2.2.2.1, .v .bool a0.2.2.2.2.2.1, .v (.sl (.int .i64)) a0.2.2.2.2.2.2] 27]⟩ (tn 2) ?_
            refine VO.on (j := 1) (want := true) (d := 26) (b := true) rfl rfl rfl (by kernel_rfl) rfl ?_
            obtain ⟨y61, hy, h⟩ := andO_some h
            refine cal false [.t (.int .i64)] [] (some 29) T_ok (ok56 N _ hy) ?_
            refine sN T_ok [3, 4] [0] ⟨[(3, .lf (.ptr 0 0 0 0)), (4, B y61)], [bx [.v (.int .i64) (0 : Int), .v .str a0.2.1, .v (.int .i64) a0.2.2.1, .v (.int .i64) a0.2.2.2.1, .v (.int .i64) a0.2.2.2.2.1, .v .bool a0.2.2.2.2.2.1, .v (.sl (.int .i64)) a0.2.2.2.2.2.2] 27]⟩ (tn 2) ?_
            exact arv [.ren [3, 4] [0]] ⟨a0.2.1, a0.2.2.1, a0.2.2.2.1, a0.2.2.2.2.1, a0.2.2.2.2.2.1, a0.2.2.2.2.2.2, y61, rfl, h⟩
          refine sN T_ok [3, 4] [1] ⟨[(3, .lf (.ptr 0 0 0 0)), (4, B false)], [bx [.v (.int .i64) (0 : Int), .v .str a0.2.1, .v (.int .i64) a0.2.2.1, .v (.int .i64) a0.2.2.2.1, .v (.int .i64) a0.2.2.2.2.1, .v .bool a0.2.2.2.2.2.1, .v (.sl (.int .i64)) a0.2.2.2.2.2.2] 27]⟩ (tn 5) ?_
          exact arv [.ren [3, 4] [0]] ⟨a0.2.1, a0.2.2.1, a0.2.2.2.1, a0.2.2.2.2.1, a0.2.2.2.2.2.1, a0.2.2.2.2.2.2, false, rfl, h⟩
        rintro s ⟨x52, x53, x54, x55, x56, x57, x58, rfl, h⟩
        unfold F31_j1 at h
        refine rR T_ok [3, 4] [0] ⟨[(3, .lf (.ptr 0 0 0 0)), (4, B x58)], [bx [.v (.int .i64) (0 : Int), .v .str x52, .v (.int .i64) (0 : Int), .v (.int .i64) (0 : Int), .v (.int .i64) (0 : Int), .v .bool false, .v (.sl (.int .i64)) x57] 27]⟩ (tn 8) ?_
        exact arv [.ren [3, 4] [0]] ⟨x52, (0 : Int), (0 : Int), (0 : Int), false, x57, x58, rfl, h⟩
      refine sN T_ok [1, 3, 4] [0, 1] ⟨[(1, .lf (.ptr 0 0 0 0)), (3, .lf (.ptr 1 0 0 0)), (4, B false)], [bx [.v (.int .i64) a0.1, .v .str a0.2.1, .v (.int .i64) a0.2.2.1, .v (.int .i64) a0.2.2.2.1, .v (.int .i64) a0.2.2.2.2.1, .v .bool a0.2.2.2.2.2.1, .v (.sl (.int .i64)) a0.2.2.2.2.2.2] 27, bx [.v (.int .i64) (0 : Int), .v .str a0.2.1, .v (.int .i64) a0.2.2.1, .v (.int .i64) a0.2.2.2.1, .v (.int .i64) a0.2.2.2.2.1, .v .bool a0.2.2.2.2.2.1, .v (.sl (.int .i64)) a0.2.2.2.2.2.2] 27]⟩ (tn 5) ?_
      refine VW.join (fun s => ∃ (x62 : ByteArray) (x63 : Int) (x64 : Int) (x65 : Int) (x66 : Bool) (x67 : (List Int)), s = ⟨[(3, .lf (.ptr 0 0 0 0)), (4, B false)], [bx [.v (.int .i64) (0 : Int), .v .str x62, .v (.int .i64) x63, .v (.int .i64) x64, .v (.int .i64) x65, .v .bool x66, .v (.sl (.int .i64)) x67] 27]⟩ ∧ F31_j2 N x62 x63 x64 x65 x66 x67 = some r) ?_ ?_
      · refine VW.block ?_
        refine sR T_ok [1, 3, 4, 31] [0, 1] ⟨[(1, .lf (.ptr 0 0 0 0)), (3, .lf (.ptr 1 0 0 0)), (4, B false), (31, B (a0.2.2.2.1 == (3 : Int)))], [bx [.v (.int .i64) a0.1, .v .str a0.2.1, .v (.int .i64) a0.2.2.1, .v (.int .i64) a0.2.2.2.1, .v (.int .i64) a0.2.2.2.2.1, .v .bool a0.2.2.2.2.2.1, .v (.sl (.int .i64)) a0.2.2.2.2.2.2] 27, bx [.v (.int .i64) (0 : Int), .v .str a0.2.1, .v (.int .i64) a0.2.2.1, .v (.int .i64) a0.2.2.2.1, .v (.int .i64) a0.2.2.2.2.1, .v .bool a0.2.2.2.2.2.1, .v (.sl (.int .i64)) a0.2.2.2.2.2.2] 27]⟩ (tn 4) ?_
        refine cnd h (fun h => ?_) (fun h => ?_)
        · refine rR T_ok [3, 4] [1] ⟨[(3, .lf (.ptr 0 0 0 0)), (4, B false)], [bx [.v (.int .i64) (0 : Int), .v .str a0.2.1, .v (.int .i64) a0.2.2.1, .v (.int .i64) a0.2.2.2.1, .v (.int .i64) a0.2.2.2.2.1, .v .bool a0.2.2.2.2.2.1, .v (.sl (.int .i64)) a0.2.2.2.2.2.2] 27]⟩ (tn 12) ?_
          exact arv [.ren [3, 4] [0]] ⟨a0.2.1, a0.2.2.1, a0.2.2.2.1, a0.2.2.2.2.1, a0.2.2.2.2.2.1, a0.2.2.2.2.2.2, rfl, h⟩
        refine sR T_ok [1, 3, 4, 46] [0, 1] ⟨[(1, .lf (.ptr 0 0 0 0)), (3, .lf (.ptr 1 0 0 0)), (4, B false), (46, B a0.2.2.2.2.2.1)], [bx [.v (.int .i64) a0.1, .v .str a0.2.1, .v (.int .i64) a0.2.2.1, .v (.int .i64) a0.2.2.2.1, .v (.int .i64) a0.2.2.2.2.1, .v .bool a0.2.2.2.2.2.1, .v (.sl (.int .i64)) a0.2.2.2.2.2.2] 27, bx [.v (.int .i64) (0 : Int), .v .str a0.2.1, .v (.int .i64) a0.2.2.1, .v (.int .i64) a0.2.2.2.1, .v (.int .i64) a0.2.2.2.2.1, .v .bool a0.2.2.2.2.2.1, .v (.sl (.int .i64)) a0.2.2.2.2.2.2] 27]⟩ (tn 3) ?_
        refine cnd h (fun h => ?_) (fun h => ?_)
        · refine rR T_ok [3, 4] [1] ⟨[(3, .lf (.ptr 0 0 0 0)), (4, B false)], [bx [.v (.int .i64) (0 : Int), .v .str a0.2.1, .v (.int .i64) a0.2.2.1, .v (.int .i64) a0.2.2.2.1, .v (.int .i64) a0.2.2.2.2.1, .v .bool a0.2.2.2.2.2.1, .v (.sl (.int .i64)) a0.2.2.2.2.2.2] 27]⟩ (tn 7) ?_
          exact arv [.ren [3, 4] [0]] ⟨a0.2.1, a0.2.2.1, a0.2.2.2.1, a0.2.2.2.2.1, a0.2.2.2.2.2.1, a0.2.2.2.2.2.2, rfl, h⟩
        refine rR T_ok [3, 4] [1] ⟨[(3, .lf (.ptr 0 0 0 0)), (4, B false)], [bx [.v (.int .i64) (0 : Int), .v .str a0.2.1, .v (.int .i64) a0.2.2.1, .v (.int .i64) a0.2.2.2.1, .v (.int .i64) a0.2.2.2.2.1, .v .bool a0.2.2.2.2.2.1, .v (.sl (.int .i64)) a0.2.2.2.2.2.2] 27]⟩ (tn 7) ?_
        exact arv [.ren [3, 4] [0]] ⟨a0.2.1, a0.2.2.1, a0.2.2.2.1, a0.2.2.2.2.1, a0.2.2.2.2.2.1, a0.2.2.2.2.2.2, rfl, h⟩
      rintro s ⟨x62, x63, x64, x65, x66, x67, rfl, h⟩
      unfold F31_j2 at h
      refine rR T_ok [3, 4] [0] ⟨[(3, .lf (.ptr 0 0 0 0)), (4, B false)], [bx [.v (.int .i64) (0 : Int), .v .str x62, .v (.int .i64) (0 : Int), .v (.int .i64) (0 : Int), .v (.int .i64) (0 : Int), .v .bool false, .v (.sl (.int .i64)) x67] 27]⟩ (tn 8) ?_
      exact arv [.ren [3, 4] [0]] ⟨x62, (0 : Int), (0 : Int), (0 : Int), false, x67, false, rfl, h⟩
    refine sR T_ok [1, 3, 4, 8, 59] [0, 1] ⟨[(1, .lf (.ptr 0 0 0 0)), (3, .lf (.ptr 1 0 0 0)), (4, B false), (8, I a0.1), (59, B (a0.1 == (2 : Int)))], [bx [.v (.int .i64) a0.1, .v .str a0.2.1, .v (.int .i64) a0.2.2.1, .v (.int .i64) a0.2.2.2.1, .v (.int .i64) a0.2.2.2.2.1, .v .bool a0.2.2.2.2.2.1, .v (.sl (.int .i64)) a0.2.2.2.2.2.2] 27, bx [.v (.int .i64) (0 : Int), .v .str a0.2.1, .v (.int .i64) a0.2.2.1, .v (.int .i64) a0.2.2.2.1, .v (.int .i64) a0.2.2.2.2.1, .v .bool a0.2.2.2.2.2.1, .v (.sl (.int .i64)) a0.2.2.2.2.2.2] 27]⟩ (tn 2) ?_
    refine cnd h (fun h => ?_) (fun h => ?_)
    · refine VW.seq ?_
      refine VW.region ?_
      refine sG T_ok 3 [1, 3, 63] [0, 1] ⟨[(1, .lf (.ptr 0 0 0 0)), (3, .lf (.ptr 1 0 0 0)), (63, I (a0.2.2.2.2.2.2.length : Int))], [bx [.v (.int .i64) a0.1, .v .str a0.2.1, .v (.int .i64) a0.2.2.1, .v (.int .i64) a0.2.2.2.1, .v (.int .i64) a0.2.2.2.2.1, .v .bool a0.2.2.2.2.2.1, .v (.sl (.int .i64)) a0.2.2.2.2.2.2] 27, bx [.v (.int .i64) (0 : Int), .v .str a0.2.1, .v (.int .i64) a0.2.2.1, .v (.int .i64) a0.2.2.2.1, .v (.int .i64) a0.2.2.2.2.1, .v .bool a0.2.2.2.2.2.1, .v (.sl (.int .i64)) a0.2.2.2.2.2.2] 27]⟩ (tn 3) ?_
      obtain ⟨y69, hy, h⟩ := andO_some h
      refine cal false [.t (.int .i64), .t (.int .i64), .t (.int .i64)] [] (some 64) T_ok (ok54 N _ _ _ hy) ?_
      refine sG T_ok 1 [1, 3, 65] [0, 1] ⟨[(1, .lf (.ptr 0 0 0 0)), (3, .lf (.ptr 1 0 0 0)), (65, B y69)], [bx [.v (.int .i64) a0.1, .v .str a0.2.1, .v (.int .i64) a0.2.2.1, .v (.int .i64) a0.2.2.2.1, .v (.int .i64) a0.2.2.2.2.1, .v .bool a0.2.2.2.2.2.1, .v (.sl (.int .i64)) a0.2.2.2.2.2.2] 27, bx [.v (.int .i64) (0 : Int), .v .str a0.2.1, .v (.int .i64) a0.2.2.1, .v (.int .i64) a0.2.2.2.1, .v (.int .i64) a0.2.2.2.2.1, .v .bool a0.2.2.2.2.2.1, .v (.sl (.int .i64)) a0.2.2.2.2.2.2] 27]⟩ (tn 1) ?_
      refine spB 65 h (fun h => ?_) (fun h => ?_)
      · refine sG T_ok 2 [3, 65, 67] [1] ⟨[(3, .lf (.ptr 0 0 0 0)), (65, B true), (67, .lf (.v (.sl (.int .i64)) a0.2.2.2.2.2.2))], [bx [.v (.int .i64) (0 : Int), .v .str a0.2.1, .v (.int .i64) a0.2.2.1, .v (.int .i64) a0.2.2.2.1, .v (.int .i64) a0.2.2.2.2.1, .v .bool a0.2.2.2.2.2.1, .v (.sl (.int .i64)) a0.2.2.2.2.2.2] 27]⟩ (tn 2) ?_
        refine VO.on (j := 4) (want := true) (d := 65) (b := true) rfl rfl rfl (by kernel_rfl) rfl ?_
        obtain ⟨y70, hy, h⟩ := andO_some h
        refine cal false [.t (.sl (.int .i64)), .clo []] [] (some 68) T_ok (ok57 N _ 58  (fun z0 => F58 N z0 ) (fun z0 _ hz => ok58 N z0 hz) hy) ?_
        refine sN T_ok [3, 4] [0] ⟨[(3, .lf (.ptr 0 0 0 0)), (4, B (!y70))], [bx [.v (.int .i64) (0 : Int), .v .str a0.2.1, .v (.int .i64) a0.2.2.1, .v (.int .i64) a0.2.2.2.1, .v (.int .i64) a0.2.2.2.2.1, .v .bool a0.2.2.2.2.2.1, .v (.sl (.int .i64)) a0.2.2.2.2.2.2] 27]⟩ (tn 3) ?_
        refine rR T_ok [3, 4] [0] ⟨[(3, .lf (.ptr 0 0 0 0)), (4, B (!y70))], [bx [.v (.int .i64) (0 : Int), .v .str a0.2.1, .v (.int .i64) a0.2.2.1, .v (.int .i64) a0.2.2.2.1, .v (.int .i64) a0.2.2.2.2.1, .v .bool a0.2.2.2.2.2.1, .nil] 27]⟩ (tn 2) ?_
        exact arv [.nilB 0 6 (.int .i64), .ren [3, 4] [0]] ⟨a0.2.1, a0.2.2.1, a0.2.2.2.1, a0.2.2.2.2.1, a0.2.2.2.2.2.1, [], (!y70), rfl, h⟩
      refine sN T_ok [3, 4] [1] ⟨[(3, .lf (.ptr 0 0 0 0)), (4, B false)], [bx [.v (.int .i64) (0 : Int), .v .str a0.2.1, .v (.int .i64) a0.2.2.1, .v (.int .i64) a0.2.2.2.1, .v (.int .i64) a0.2.2.2.2.1, .v .bool a0.2.2.2.2.2.1, .v (.sl (.int .i64)) a0.2.2.2.2.2.2] 27]⟩ (tn 6) ?_
      refine rR T_ok [3, 4] [0] ⟨[(3, .lf (.ptr 0 0 0 0)), (4, B false)], [bx [.v (.int .i64) (0 : Int), .v .str a0.2.1, .v (.int .i64) a0.2.2.1, .v (.int .i64) a0.2.2.2.1, .v (.int .i64) a0.2.2.2.2.1, .v .bool a0.2.2.2.2.2.1, .nil] 27]⟩ (tn 2) ?_
      exact arv [.nilB 0 6 (.int .i64), .ren [3, 4] [0]] ⟨a0.2.1, a0.2.2.1, a0.2.2.2.1, a0.2.2.2.2.1, a0.2.2.2.2.2.1, [], false, rfl, h⟩
    refine sR T_ok [1, 3, 4, 8, 72] [0, 1] ⟨[(1, .lf (.ptr 0 0 0 0)), (3, .lf (.ptr 1 0 0 0)), (4, B false), (8, I a0.1), (72, B (a0.1 == (3 : Int)))], [bx [.v (.int .i64) a0.1, .v .str a0.2.1, .v (.int .i64) a0.2.2.1, .v (.int .i64) a0.2.2.2.1, .v (.int .i64) a0.2.2.2.2.1, .v .bool a0.2.2.2.2.2.1, .v (.sl (.int .i64)) a0.2.2.2.2.2.2] 27, bx [.v (.int .i64) (0 : Int), .v .str a0.2.1, .v (.int .i64) a0.2.2.1, .v (.int .i64) a0.2.2.2.1, .v (.int .i64) a0.2.2.2.2.1, .v .bool a0.2.2.2.2.2.1, .v (.sl (.int .i64)) a0.2.2.2.2.2.2] 27]⟩ (tn 2) ?_
    refine cnd h (fun h => ?_) (fun h => ?_)
    · refine VW.seq ?_
      refine VW.region ?_
      refine sG T_ok 2 [1, 3, 75] [0, 1] ⟨[(1, .lf (.ptr 0 0 0 0)), (3, .lf (.ptr 1 0 0 0)), (75, I a0.2.2.1)], [bx [.v (.int .i64) a0.1, .v .str a0.2.1, .v (.int .i64) a0.2.2.1, .v (.int .i64) a0.2.2.2.1, .v (.int .i64) a0.2.2.2.2.1, .v .bool a0.2.2.2.2.2.1, .v (.sl (.int .i64)) a0.2.2.2.2.2.2] 27, bx [.v (.int .i64) (0 : Int), .v .str a0.2.1, .v (.int .i64) a0.2.2.1, .v (.int .i64) a0.2.2.2.1, .v (.int .i64) a0.2.2.2.2.1, .v .bool a0.2.2.2.2.2.1, .v (.sl (.int .i64)) a0.2.2.2.2.2.2] 27]⟩ (tn 2) ?_
      obtain ⟨y71, hy, h⟩ := andO_some h
      refine cal false [.t (.int .i64)] [] (some 76) T_ok (ok53 N _ hy) ?_
      refine sG T_ok 1 [1, 3, 77] [0, 1] ⟨[(1, .lf (.ptr 0 0 0 0)), (3, .lf (.ptr 1 0 0 0)), (77, B y71)], [bx [.v (.int .i64) a0.1, .v .str a0.2.1, .v (.int .i64) a0.2.2.1, .v (.int .i64) a0.2.2.2.1, .v (.int .i64) a0.2.2.2.2.1, .v .bool a0.2.2.2.2.2.1, .v (.sl (.int .i64)) a0.2.2.2.2.2.2] 27, bx [.v (.int .i64) (0 : Int), .v .str a0.2.1, .v (.int .i64) a0.2.2.1, .v (.int .i64) a0.2.2.2.1, .v (.int .i64) a0.2.2.2.2.1, .v .bool a0.2.2.2.2.2.1, .v (.sl (.int .i64)) a0.2.2.2.2.2.2] 27]⟩ (tn 1) ?_
      refine spB 77 h (fun h => ?_) (fun h => ?_)
      · refine sG T_ok 2 [3, 77, 79] [1] ⟨[(3, .lf (.ptr 0 0 0 0)), (77, B true), (79, I a0.2.2.2.2.1)], [bx [.v (.int .i64) (0 : Int), .v .str a0.2.1, .v (.int .i64) a0.2.2.1, .v (.int .i64) a0.2.2.2.1, .v (.int .i64) a0.2.2.2.2.1, .v .bool a0.2.2.2.2.2.1, .v (.sl (.int .i64)) a0.2.2.2.2.2.2] 27]⟩ (tn 2) ?_
        refine VO.on (j := 3) (want := true) (d := 77) (b := true) rfl rfl rfl (by kernel_rfl) rfl ?_
        obtain ⟨y72, hy, h⟩ := andO_some h
        refine cal false [.t (.int .i64)] [] (some 80) T_ok (ok53 N _ hy) ?_
        refine sN T_ok [3, 4] [0] ⟨[(3, .lf (.ptr 0 0 0 0)), (4, B y72)], [bx [.v (.int .i64) (0 : Int), .v .str a0.2.1, .v (.int .i64) a0.2.2.1, .v (.int .i64) a0.2.2.2.1, .v (.int .i64) a0.2.2.2.2.1, .v .bool a0.2.2.2.2.2.1, .v (.sl (.int .i64)) a0.2.2.2.2.2.2] 27]⟩ (tn 2) ?_
        refine rR T_ok [3, 4] [0] ⟨[(3, .lf (.ptr 0 0 0 0)), (4, B y72)], [bx [.v (.int .i64) (0 : Int), .v .str a0.2.1, .v (.int .i64) (0 : Int), .v (.int .i64) a0.2.2.2.1, .v (.int .i64) (0 : Int), .v .bool a0.2.2.2.2.2.1, .v (.sl (.int .i64)) a0.2.2.2.2.2.2] 27]⟩ (tn 4) ?_
        exact arv [.ren [3, 4] [0]] ⟨a0.2.1, (0 : Int), a0.2.2.2.1, (0 : Int), a0.2.2.2.2.2.1, a0.2.2.2.2.2.2, y72, rfl, h⟩
      refine sN T_ok [3, 4] [1] ⟨[(3, .lf (.ptr 0 0 0 0)), (4, B false)], [bx [.v (.int .i64) (0 : Int), .v .str a0.2.1, .v (.int .i64) a0.2.2.1, .v (.int .i64) a0.2.2.2.1, .v (.int .i64) a0.2.2.2.2.1, .v .bool a0.2.2.2.2.2.1, .v (.sl (.int .i64)) a0.2.2.2.2.2.2] 27]⟩ (tn 5) ?_
      refine rR T_ok [3, 4] [0] ⟨[(3, .lf (.ptr 0 0 0 0)), (4, B false)], [bx [.v (.int .i64) (0 : Int), .v .str a0.2.1, .v (.int .i64) (0 : Int), .v (.int .i64) a0.2.2.2.1, .v (.int .i64) (0 : Int), .v .bool a0.2.2.2.2.2.1, .v (.sl (.int .i64)) a0.2.2.2.2.2.2] 27]⟩ (tn 4) ?_
      exact arv [.ren [3, 4] [0]] ⟨a0.2.1, (0 : Int), a0.2.2.2.1, (0 : Int), a0.2.2.2.2.2.1, a0.2.2.2.2.2.2, false, rfl, h⟩
    refine sR T_ok [1, 3, 4, 8, 84] [0, 1] ⟨[(1, .lf (.ptr 0 0 0 0)), (3, .lf (.ptr 1 0 0 0)), (4, B false), (8, I a0.1), (84, B (a0.1 == (5 : Int)))], [bx [.v (.int .i64) a0.1, .v .str a0.2.1, .v (.int .i64) a0.2.2.1, .v (.int .i64) a0.2.2.2.1, .v (.int .i64) a0.2.2.2.2.1, .v .bool a0.2.2.2.2.2.1, .v (.sl (.int .i64)) a0.2.2.2.2.2.2] 27, bx [.v (.int .i64) (0 : Int), .v .str a0.2.1, .v (.int .i64) a0.2.2.1, .v (.int .i64) a0.2.2.2.1, .v (.int .i64) a0.2.2.2.2.1, .v .bool a0.2.2.2.2.2.1, .v (.sl (.int .i64)) a0.2.2.2.2.2.2] 27]⟩ (tn 2) ?_
    refine cnd h (fun h => ?_) (fun h => ?_)
    · refine VW.seq ?_
      refine VW.region ?_
      refine sG T_ok 2 [3, 87] [1] ⟨[(3, .lf (.ptr 0 0 0 0)), (87, I a0.2.2.1)], [bx [.v (.int .i64) (0 : Int), .v .str a0.2.1, .v (.int .i64) a0.2.2.1, .v (.int .i64) a0.2.2.2.1, .v (.int .i64) a0.2.2.2.2.1, .v .bool a0.2.2.2.2.2.1, .v (.sl (.int .i64)) a0.2.2.2.2.2.2] 27]⟩ (tn 2) ?_
      obtain ⟨y73, hy, h⟩ := andO_some h
      refine cal false [.t (.int .i64)] [] (some 88) T_ok (ok53 N _ hy) ?_
      refine sN T_ok [3, 4] [0] ⟨[(3, .lf (.ptr 0 0 0 0)), (4, B y73)], [bx [.v (.int .i64) (0 : Int), .v .str a0.2.1, .v (.int .i64) a0.2.2.1, .v (.int .i64) a0.2.2.2.1, .v (.int .i64) a0.2.2.2.2.1, .v .bool a0.2.2.2.2.2.1, .v (.sl (.int .i64)) a0.2.2.2.2.2.2] 27]⟩ (tn 1) ?_
      refine rR T_ok [3, 4] [0] ⟨[(3, .lf (.ptr 0 0 0 0)), (4, B y73)], [bx [.v (.int .i64) (0 : Int), .v .str a0.2.1, .v (.int .i64) (0 : Int), .v (.int .i64) a0.2.2.2.1, .v (.int .i64) a0.2.2.2.2.1, .v .bool a0.2.2.2.2.2.1, .v (.sl (.int .i64)) a0.2.2.2.2.2.2] 27]⟩ (tn 2) ?_
      exact arv [.ren [3, 4] [0]] ⟨a0.2.1, (0 : Int), a0.2.2.2.1, a0.2.2.2.2.1, a0.2.2.2.2.2.1, a0.2.2.2.2.2.2, y73, rfl, h⟩
    refine sR T_ok [1, 3, 4, 8, 90] [0, 1] ⟨[(1, .lf (.ptr 0 0 0 0)), (3, .lf (.ptr 1 0 0 0)), (4, B false), (8, I a0.1), (90, B (a0.1 == (6 : Int)))], [bx [.v (.int .i64) a0.1, .v .str a0.2.1, .v (.int .i64) a0.2.2.1, .v (.int .i64) a0.2.2.2.1, .v (.int .i64) a0.2.2.2.2.1, .v .bool a0.2.2.2.2.2.1, .v (.sl (.int .i64)) a0.2.2.2.2.2.2] 27, bx [.v (.int .i64) (0 : Int), .v .str a0.2.1, .v (.int .i64) a0.2.2.1, .v (.int .i64) a0.2.2.2.1, .v (.int .i64) a0.2.2.2.2.1, .v .bool a0.2.2.2.2.2.1, .v (.sl (.int .i64)) a0.2.2.2.2.2.2] 27]⟩ (tn 2) ?_
    refine cnd h (fun h => ?_) (fun h => ?_)
    · refine VW.seq ?_
      refine VW.region ?_
      refine sG T_ok 2 [1, 3, 93] [0, 1] ⟨[(1, .lf (.ptr 0 0 0 0)), (3, .lf (.ptr 1 0 0 0)), (93, I a0.2.2.2.2.1)], [bx [.v (.int .i64) a0.1, .v .str a0.2.1, .v (.int .i64) a0.2.2.1, .v (.int .i64) a0.2.2.2.1, .v (.int .i64) a0.2.2.2.2.1, .v .bool a0.2.2.2.2.2.1, .v (.sl (.int .i64)) a0.2.2.2.2.2.2] 27, bx [.v (.int .i64) (0 : Int), .v .str a0.2.1, .v (.int .i64) a0.2.2.1, .v (.int .i64) a0.2.2.2.1, .v (.int .i64) a0.2.2.2.2.1, .v .bool a0.2.2.2.2.2.1, .v (.sl (.int .i64)) a0.2.2.2.2.2.2] 27]⟩ (tn 2) ?_
      obtain ⟨y74, hy, h⟩ := andO_some h
      refine cal false [.t (.int .i64), .t (.int .i64), .t (.int .i64)] [] (some 94) T_ok (ok54 N _ _ _ hy) ?_
      refine sG T_ok 1 [1, 3, 95] [0, 1] ⟨[(1, .lf (.ptr 0 0 0 0)), (3, .lf (.ptr 1 0 0 0)), (95, B y74)], [bx [.v (.int .i64) a0.1, .v .str a0.2.1, .v (.int .i64) a0.2.2.1, .v (.int .i64) a0.2.2.2.1, .v (.int .i64) a0.2.2.2.2.1, .v .bool a0.2.2.2.2.2.1, .v (.sl (.int .i64)) a0.2.2.2.2.2.2] 27, bx [.v (.int .i64) (0 : Int), .v .str a0.2.1, .v (.int .i64) a0.2.2.1, .v (.int .i64) a0.2.2.2.1, .v (.int .i64) a0.2.2.2.2.1, .v .bool a0.2.2.2.2.2.1, .v (.sl (.int .i64)) a0.2.2.2.2.2.2] 27]⟩ (tn 1) ?_
      refine spB 95 h (fun h => ?_) (fun h => ?_)
      · refine sG T_ok 4 [1, 3, 95, 99] [0, 1] ⟨[(1, .lf (.ptr 0 0 0 0)), (3, .lf (.ptr 1 0 0 0)), (95, B true), (99, B (!a0.2.2.2.2.2.1))], [bx [.v (.int .i64) a0.1, .v .str a0.2.1, .v (.int .i64) a0.2.2.1, .v (.int .i64) a0.2.2.2.1, .v (.int .i64) a0.2.2.2.2.1, .v .bool a0.2.2.2.2.2.1, .v (.sl (.int .i64)) a0.2.2.2.2.2.2] 27, bx [.v (.int .i64) (0 : Int), .v .str a0.2.1, .v (.int .i64) a0.2.2.1, .v (.int .i64) a0.2.2.2.1, .v (.int .i64) a0.2.2.2.2.1, .v .bool a0.2.2.2.2.2.1, .v (.sl (.int .i64)) a0.2.2.2.2.2.2] 27]⟩ (tn 4) ?_
        refine spB 99 h (fun h => ?_) (fun h => ?_)
        · refine sN T_ok [3, 4] [1] ⟨[(3, .lf (.ptr 0 0 0 0)), (4, B true)], [bx [.v (.int .i64) (0 : Int), .v .str a0.2.1, .v (.int .i64) a0.2.2.1, .v (.int .i64) a0.2.2.2.1, .v (.int .i64) a0.2.2.2.2.1, .v .bool a0.2.2.2.2.2.1, .v (.sl (.int .i64)) a0.2.2.2.2.2.2] 27]⟩ (tn 6) ?_
          refine rR T_ok [3, 4] [0] ⟨[(3, .lf (.ptr 0 0 0 0)), (4, B true)], [bx [.v (.int .i64) (0 : Int), .v .str a0.2.1, .v (.int .i64) a0.2.2.1, .v (.int .i64) a0.2.2.2.1, .v (.int .i64) (0 : Int), .v .bool false, .v (.sl (.int .i64)) a0.2.2.2.2.2.2] 27]⟩ (tn 4) ?_
          exact arv [.ren [3, 4] [0]] ⟨a0.2.1, a0.2.2.1, a0.2.2.2.1, (0 : Int), false, a0.2.2.2.2.2.2, true, rfl, h⟩
        refine sG T_ok 2 [3, 95, 99, 101] [1] ⟨[(3, .lf (.ptr 0 0 0 0)), (95, B true), (99, B false), (101, I a0.2.2.2.2.1)], [bx [.v (.int .i64) (0 : Int), .v .str a0.2.1, .v (.int .i64) a0.2.2.1, .v (.int .i64) a0.2.2.2.1, .v (.int .i64) a0.2.2.2.2.1, .v .bool a0.2.2.2.2.2.1, .v (.sl (.int .i64)) a0.2.2.2.2.2.2] 27]⟩ (tn 2) ?_
        refine VO.on (j := 7) (want := false) (d := 99) (b := false) rfl rfl rfl (by kernel_rfl) rfl ?_
        obtain ⟨y75, hy, h⟩ := andO_some h
        refine cal false [.t (.int .i64)] [] (some 102) T_ok (ok55 N _ hy) ?_
        refine sN T_ok [3, 4] [0] ⟨[(3, .lf (.ptr 0 0 0 0)), (4, B y75)], [bx [.v (.int .i64) (0 : Int), .v .str a0.2.1, .v (.int .i64) a0.2.2.1, .v (.int .i64) a0.2.2.2.1, .v (.int .i64) a0.2.2.2.2.1, .v .bool a0.2.2.2.2.2.1, .v (.sl (.int .i64)) a0.2.2.2.2.2.2] 27]⟩ (tn 3) ?_
        refine rR T_ok [3, 4] [0] ⟨[(3, .lf (.ptr 0 0 0 0)), (4, B y75)], [bx [.v (.int .i64) (0 : Int), .v .str a0.2.1, .v (.int .i64) a0.2.2.1, .v (.int .i64) a0.2.2.2.1, .v (.int .i64) (0 : Int), .v .bool false, .v (.sl (.int .i64)) a0.2.2.2.2.2.2] 27]⟩ (tn 4) ?_
        exact arv [.ren [3, 4] [0]] ⟨a0.2.1, a0.2.2.1, a0.2.2.2.1, (0 : Int), false, a0.2.2.2.2.2.2, y75, rfl, h⟩
      refine sN T_ok [3, 4] [1] ⟨[(3, .lf (.ptr 0 0 0 0)), (4, B false)], [bx [.v (.int .i64) (0 : Int), .v .str a0.2.1, .v (.int .i64) a0.2.2.1, .v (.int .i64) a0.2.2.2.1, .v (.int .i64) a0.2.2.2.2.1, .v .bool a0.2.2.2.2.2.1, .v (.sl (.int .i64)) a0.2.2.2.2.2.2] 27]⟩ (tn 10) ?_
      refine rR T_ok [3, 4] [0] ⟨[(3, .lf (.ptr 0 0 0 0)), (4, B false)], [bx [.v (.int .i64) (0 : Int), .v .str a0.2.1, .v (.int .i64) a0.2.2.1, .v (.int .i64) a0.2.2.2.1, .v (.int .i64) (0 : Int), .v .bool false, .v (.sl (.int .i64)) a0.2.2.2.2.2.2] 27]⟩ (tn 4) ?_
      exact arv [.ren [3, 4] [0]] ⟨a0.2.1, a0.2.2.1, a0.2.2.2.1, (0 : Int), false, a0.2.2.2.2.2.2, false, rfl, h⟩
    refine VW.join (fun s => ∃ (x76 : ByteArray) (x77 : Int) (x78 : Int) (x79 : Int) (x80 : Bool) (x81 : (List Int)) (x82 : Bool), s = ⟨[(3, .lf (.ptr 0 0 0 0)), (4, B false), (107, B x82)], [bx [.v (.int .i64) (0 : Int), .v .str x76, .v (.int .i64) x77, .v (.int .i64) x78, .v (.int .i64) x79, .v .bool x80, .v (.sl (.int .i64)) x81] 27]⟩ ∧ F31_j3 N x76 x77 x78 x79 x80 x81 x82 = some r) ?_ ?_
    · refine sR T_ok [3, 4, 8, 107] [1] ⟨[(3, .lf (.ptr 0 0 0 0)), (4, B false), (8, I a0.1), (107, B (a0.1 == (4 : Int)))], [bx [.v (.int .i64) (0 : Int), .v .str a0.2.1, .v (.int .i64) a0.2.2.1, .v (.int .i64) a0.2.2.2.1, .v (.int .i64) a0.2.2.2.2.1, .v .bool a0.2.2.2.2.2.1, .v (.sl (.int .i64)) a0.2.2.2.2.2.2] 27]⟩ (tn 2) ?_
      refine cnd h (fun h => ?_) (fun h => ?_)
      · refine VW.skip ?_
        exact arv [.ren [3, 4, 107] [0]] ⟨a0.2.1, a0.2.2.1, a0.2.2.2.1, a0.2.2.2.2.1, a0.2.2.2.2.2.1, a0.2.2.2.2.2.2, (a0.1 == (4 : Int)), rfl, h⟩
      refine rR T_ok [3, 4, 107] [0] ⟨[(3, .lf (.ptr 0 0 0 0)), (4, B false), (107, B (a0.1 == (7 : Int)))], [bx [.v (.int .i64) (0 : Int), .v .str a0.2.1, .v (.int .i64) a0.2.2.1, .v (.int .i64) a0.2.2.2.1, .v (.int .i64) a0.2.2.2.2.1, .v .bool a0.2.2.2.2.2.1, .v (.sl (.int .i64)) a0.2.2.2.2.2.2] 27]⟩ (tn 2) ?_
      exact arv [.ren [3, 4, 107] [0]] ⟨a0.2.1, a0.2.2.1, a0.2.2.2.1, a0.2.2.2.2.1, a0.2.2.2.2.2.1, a0.2.2.2.2.2.2, (a0.1 == (7 : Int)), rfl, h⟩
    rintro s ⟨x76, x77, x78, x79, x80, x81, x82, rfl, h⟩
    unfold F31_j3 at h
    refine cnd h (fun h => ?_) (fun h => ?_)
    · refine rR T_ok [3, 4] [0] ⟨[(3, .lf (.ptr 0 0 0 0)), (4, B true)], [bx [.v (.int .i64) (0 : Int), .v .str x76, .v (.int .i64) x77, .v (.int .i64) x78, .v (.int .i64) x79, .v .bool x80, .v (.sl (.int .i64)) x81] 27]⟩ (tn 1) ?_
      exact arv [.ren [3, 4] [0]] ⟨x76, x77, x78, x79, x80, x81, true, rfl, h⟩
    refine VW.skip ?_
    exact arv [.ren [3, 4] [0]] ⟨x76, x77, x78, x79, x80, x81, false, rfl, h⟩
  rintro s ⟨x38, x39, x40, x41, x42, x43, x44, rfl, h⟩
  unfold F31_j0 at h
  refine VW.seq ?_
  refine VW.region ?_
  refine sG T_ok 2 [3, 111] [0] ⟨[(3, .lf (.ptr 0 0 0 0)), (111, B x44)], [bx [.v (.int .i64) (0 : Int), .v .str x38, .v (.int .i64) x39, .v (.int .i64) x40, .v (.int .i64) x41, .v .bool x42, .v (.sl (.int .i64)) x43] 27]⟩ (tn 2) ?_
  refine spB 111 h (fun h => ?_) (fun h => ?_)
  · refine sG T_ok 2 [111, 112, 113] [] ⟨[(111, B true), (112, .agg [.v (.int .i64) (0 : Int), .v .str x38, .v (.int .i64) x39, .v (.int .i64) x40, .v (.int .i64) x41, .v .bool x42, .v (.sl (.int .i64)) x43]), (113, .agg [.v (.int .i64) (0 : Int), .v .str ByteArray.empty, .v (.int .i64) (0 : Int), .v (.int .i64) (0 : Int), .v (.int .i64) (0 : Int), .v .bool false, .nil])], []⟩ (tn 2) ?_
    refine VO.on (j := 1) (want := true) (d := 111) (b := true) rfl rfl rfl (by kernel_rfl) rfl ?_
    obtain ⟨y45, hy, h⟩ := andO_some h
    refine cal false [.t Y23, .t Y23] [] (some 114) T_ok (ok59 N _ _ hy) ?_
    refine sN T_ok [2] [] ⟨[(2, B y45)], []⟩ (tn 2) ?_
    refine VW.ret ?_
    replace h := Option.some.inj h
    subst h
    exact rt []
  refine sN T_ok [2] [] ⟨[(2, B false)], []⟩ (tn 5) ?_
  refine VW.ret ?_
  replace h := Option.some.inj h
  subst h
  exact rt []

/- loop.example/g00844/impl.kindNames -/
def F32 (N : Nat) : Option ((List ByteArray)) :=
  some ([(⟨#[115, 99, 97, 110]⟩ : ByteArray), (⟨#[102, 105, 108, 116, 101, 114]⟩ : ByteArray), (⟨#[107, 101, 101, 112]⟩ : ByteArray), (⟨#[106, 111, 105, 110]⟩ : ByteArray), (⟨#[98, 111, 116, 104]⟩ : ByteArray), (⟨#[115, 111, 114, 116]⟩ : ByteArray), (⟨#[108, 105, 109, 105, 116]⟩ : ByteArray), (⟨#[111, 110, 99, 101]⟩ : ByteArray)])
theorem ok32 (N : Nat) {r : (List ByteArray)} (h : F32 N  = some r) : Con Go.Proofs.Tryd.prog 32 [] [.lf (.own .str r .dp)] := by
  refine ctr [.lf (.own .str .dp)] T_ok Go.Proofs.Tryd.func32 rfl fun w0 E0 ht => ?_
  unfold F32 at h
  show VW _ _ _ _ _ (retQ _ _ _ _) _
  refine sR T_ok [] [] ⟨[], []⟩ (tn 1) ?_
  refine sR T_ok [0] [0] ⟨[(0, .lf (.hd 0 0 none))], [ar 0 .str ([(⟨#[115, 99, 97, 110]⟩ : ByteArray), (⟨#[102, 105, 108, 116, 101, 114]⟩ : ByteArray), (⟨#[107, 101, 101, 112]⟩ : ByteArray), (⟨#[106, 111, 105, 110]⟩ : ByteArray), (⟨#[98, 111, 116, 104]⟩ : ByteArray), (⟨#[115, 111, 114, 116]⟩ : ByteArray), (⟨#[108, 105, 109, 105, 116]⟩ : ByteArray), (⟨#[111, 110, 99, 101]⟩ : ByteArray)]) .dp]⟩ (tn 2) ?_
  refine VW.ret ?_
  replace h := Option.some.inj h
  subst h
  exact rt [some 0]

/- strconv.Itoa: proved of any program that bears it -/
def F60 (N : Nat) (a0 : Int) : Option (ByteArray) :=
  gd (-9223372036854775808 ≤ a0 ∧ a0 ≤ 9223372036854775807) (some ⟨(Lib.itoa a0).toArray⟩)
theorem ok60 (N : Nat) (a0 : Int) {r : ByteArray} (h : F60 N a0 = some r) : Con Go.Proofs.Tryd.prog 60 [I a0] [.lf (.v .str r)] := by
  obtain ⟨g, h⟩ := gd_some h
  cases h
  exact con_itoa (g := 3) (by kernel_rfl) (enters_of Go.Proofs.Tryd.func60 rfl (by decide)) (fun w ht => Go.Proofs.Tryd.strconv_Itoa a0 g.1 g.2 w ht)

/- loop.example/g00844/impl.number -/
def F33 (N : Nat) (a0 : Int) : Option (ByteArray) :=
  andO (F60 N a0) fun y1 => some y1
theorem ok33 (N : Nat) (a0 : Int) {r : ByteArray} (h : F33 N a0 = some r) : Con Go.Proofs.Tryd.prog 33 [I a0] [.lf (.v .str r)] := by
  refine ctr [.lf (.v .str)] T_ok Go.Proofs.Tryd.func33 rfl fun w0 E0 ht => ?_
  unfold F33 at h
  show VW _ _ _ _ _ (retQ _ _ _ _) _
  refine sR T_ok [0] [] ⟨[(0, I a0)], []⟩ (tn 1) ?_
  refine VW.seq ?_
  refine VW.region ?_
  refine sG T_ok 1 [3] [] ⟨[(3, I a0)], []⟩ (tn 1) ?_
  obtain ⟨y1, hy, h⟩ := andO_some h
  refine cal false [.t (.int .i64)] [] (some 4) T_ok (ok60 N _ hy) ?_
  refine sN T_ok [2] [] ⟨[(2, S y1)], []⟩ (tn 1) ?_
  refine VW.ret ?_
  replace h := Option.some.inj h
  subst h
  exact rt []

/- loop.example/g00844/impl.opNames -/
def F34 (N : Nat) : Option ((List ByteArray)) :=
  some ([(⟨#[61]⟩ : ByteArray), (⟨#[60]⟩ : ByteArray), (⟨#[62]⟩ : ByteArray), (⟨#[110, 111, 110, 101]⟩ : ByteArray)])
theorem ok34 (N : Nat) {r : (List ByteArray)} (h : F34 N  = some r) : Con Go.Proofs.Tryd.prog 34 [] [.lf (.own .str r .dp)] := by
  refine ctr [.lf (.own .str .dp)] T_ok Go.Proofs.Tryd.func34 rfl fun w0 E0 ht => ?_
  unfold F34 at h
  show VW _ _ _ _ _ (retQ _ _ _ _) _
  refine sR T_ok [] [] ⟨[], []⟩ (tn 1) ?_
  refine sR T_ok [0] [0] ⟨[(0, .lf (.hd 0 0 none))], [ar 0 .str ([(⟨#[61]⟩ : ByteArray), (⟨#[60]⟩ : ByteArray), (⟨#[62]⟩ : ByteArray), (⟨#[110, 111, 110, 101]⟩ : ByteArray)]) .dp]⟩ (tn 2) ?_
  refine VW.ret ?_
  replace h := Option.some.inj h
  subst h
  exact rt [some 0]

/- (loop.example/g00844/impl.Node).numWord -/
def F35 (N : Nat) (a0 : (Int × (ByteArray × (Int × (Int × (Int × (Bool × (List Int)))))))) : Option (ByteArray) :=
  cond a0.2.2.2.2.2.1 (andO (F33 N a0.2.2.2.2.1) fun y3 => gd ((⟨#[36]⟩ : ByteArray).size + y3.size ≤ 9223372036854775807) (some ((⟨#[36]⟩ : ByteArray) ++ y3))) (andO (F33 N a0.2.2.2.2.1) fun y5 => some y5)
theorem ok35 (N : Nat) (a0 : (Int × (ByteArray × (Int × (Int × (Int × (Bool × (List Int)))))))) {r : ByteArray} (h : F35 N a0 = some r) : Con Go.Proofs.Tryd.prog 35 [.agg [.v (.int .i64) a0.1, .v .str a0.2.1, .v (.int .i64) a0.2.2.1, .v (.int .i64) a0.2.2.2.1, .v (.int .i64) a0.2.2.2.2.1, .v .bool a0.2.2.2.2.2.1, .v (.sl (.int .i64)) a0.2.2.2.2.2.2]] [.lf (.v .str r)] := by
  refine ctr [.lf (.v .str)] T_ok Go.Proofs.Tryd.func35 rfl fun w0 E0 ht => ?_
  unfold F35 at h
  show VW _ _ _ _ _ (retQ _ _ _ _) _
  refine sR T_ok [1] [0] ⟨[(1, .lf (.ptr 0 0 0 0))], [bx [.v (.int .i64) a0.1, .v .str a0.2.1, .v (.int .i64) a0.2.2.1, .v (.int .i64) a0.2.2.2.1, .v (.int .i64) a0.2.2.2.2.1, .v .bool a0.2.2.2.2.2.1, .v (.sl (.int .i64)) a0.2.2.2.2.2.2] 27]⟩ (tn 2) ?_
  refine VW.seq ?_
  refine sR T_ok [1, 4] [0] ⟨[(1, .lf (.ptr 0 0 0 0)), (4, B a0.2.2.2.2.2.1)], [bx [.v (.int .i64) a0.1, .v .str a0.2.1, .v (.int .i64) a0.2.2.1, .v (.int .i64) a0.2.2.2.1, .v (.int .i64) a0.2.2.2.2.1, .v .bool a0.2.2.2.2.2.1, .v (.sl (.int .i64)) a0.2.2.2.2.2.2] 27]⟩ (tn 2) ?_
  refine cnd h (fun h => ?_) (fun h => ?_)
  · refine VW.seq ?_
    refine VW.region ?_
    refine sG T_ok 2 [6] [] ⟨[(6, I a0.2.2.2.2.1)], []⟩ (tn 2) ?_
    obtain ⟨y3, hy, h⟩ := andO_some h
    refine cal false [.t (.int .i64)] [] (some 7) T_ok (ok33 N _ hy) ?_
    obtain ⟨g4, h⟩ := gd_some h
    refine sN T_ok [2] [] ⟨[(2, S ((⟨#[36]⟩ : ByteArray) ++ y3))], []⟩ (an g4 (tn 1)) ?_
    refine VW.ret ?_
    replace h := Option.some.inj h
    subst h
    exact rt []
  refine VW.skip ?_
  refine VW.seq ?_
  refine VW.region ?_
  refine sG T_ok 2 [10] [] ⟨[(10, I a0.2.2.2.2.1)], []⟩ (tn 2) ?_
  obtain ⟨y5, hy, h⟩ := andO_some h
  refine cal false [.t (.int .i64)] [] (some 11) T_ok (ok33 N _ hy) ?_
  refine sN T_ok [2] [] ⟨[(2, S y5)], []⟩ (tn 1) ?_
  refine VW.ret ?_
  replace h := Option.some.inj h
  subst h
  exact rt []

/- strings.Join: proved of any program that bears it -/
def F61 (N : Nat) (a0 : (List ByteArray)) (a1 : ByteArray) : Option (ByteArray) :=
  gd (a0.length ≤ 140737488355328 ∧ (Lib.join (a0.map (·.data.toList)) a1.data.toList).length ≤ 140737488355328) (some ⟨(Lib.join (a0.map (·.data.toList)) a1.data.toList).toArray⟩)
theorem ok61 (N : Nat) (a0 : (List ByteArray)) (a1 : ByteArray) {r : ByteArray} (h : F61 N a0 a1 = some r) : Con Go.Proofs.Tryd.prog 61 [.lf (.v (.sl .str) a0), S a1] [.lf (.v .str r)] := by
  obtain ⟨g, h⟩ := gd_some h
  cases h
  exact con_join (enters_of Go.Proofs.Tryd.func61 rfl (by decide)) g.1 g.2 (fun a c w => Go.Proofs.Tryd.strings_Join_none a c a1 w) (fun bk o c w h1 h2 h3 => Go.Proofs.Tryd.strings_Join bk o c a0 a1 w h1 h2 g.1 h3 g.2)

/- loop.example/g00844/impl.spaced -/
def F36 (N : Nat) (a0 : (List ByteArray)) : Option (ByteArray) :=
  andO (F61 N a0 (⟨#[32]⟩ : ByteArray)) fun y1 => some y1
theorem ok36 (N : Nat) (a0 : (List ByteArray)) {r : ByteArray} (h : F36 N a0 = some r) : Con Go.Proofs.Tryd.prog 36 [.lf (.v (.sl .str) a0)] [.lf (.v .str r)] := by
  refine ctr [.lf (.v .str)] T_ok Go.Proofs.Tryd.func36 rfl fun w0 E0 ht => ?_
  unfold F36 at h
  show VW _ _ _ _ _ (retQ _ _ _ _) _
  refine sR T_ok [0] [] ⟨[(0, .lf (.v (.sl .str) a0))], []⟩ (tn 1) ?_
  refine VW.seq ?_
  refine VW.region ?_
  refine sG T_ok 1 [3] [] ⟨[(3, .lf (.v (.sl .str) a0))], []⟩ (tn 1) ?_
  obtain ⟨y1, hy, h⟩ := andO_some h
  refine cal false [.t (.sl .str), .t .str] [] (some 4) T_ok (ok61 N _ _ hy) ?_
  refine sN T_ok [2] [] ⟨[(2, S y1)], []⟩ (tn 1) ?_
  refine VW.ret ?_
  replace h := Option.some.inj h
  subst h
  exact rt []

end Go.Proofs.YtfegppjofphpfaaDoor.Vc
