/- What functions of the program compute, and that they do. -/
import Derived.Test.YtckcbjaldmlomaaProg
import Derived.Test.YtckcbjaldmlomaaVc35
namespace Go.Proofs.Ytckcbjaldmlomaa.Vc
open Go Go.RowKit
set_option linter.unusedVariables false
set_option maxRecDepth 100000
set_option maxHeartbeats 4000000
abbrev Y7 : Ty := .pair (.int .i64) (.pair (.int .i64) (.pair .bool (.int .u8)))
abbrev Y13 : Ty := .pair .str (.int .u64)
abbrev Y40 : Ty := .pair (.int .i64) (.pair .str (.pair (.int .i64) (.pair (.int .i64) (.pair (.int .i64) (.pair .bool (.sl (.int .i64)))))))
def TL : List (Nat × TI) := [(2, { ty := (.int .i64) }),
  (3, { ty := (.int .i64) }),
  (4, { ty := .bool }),
  (5, { ty := (.int .u8) }),
  (6, { ty := (.int .u8) }),
  (7, { ty := Y7, offs := [0, 1, 2, 3], szs := [1, 1, 1, 1] }),
  (8, { ty := Y7, offs := [0, 1, 2, 3], szs := [1, 1, 1, 1] }),
  (9, { ty := .str }),
  (10, { ty := .str }),
  (11, { ty := .str }),
  (12, { ty := (.int .u64) }),
  (13, { ty := Y13, offs := [0, 1], szs := [1, 1] }),
  (14, { ty := Y13, offs := [0, 1], szs := [1, 1] }),
  (21, { ty := (.int .i32) }),
  (22, { ty := (.sl Y40), elem := 41 }),
  (23, { ty := (.sl (.int .i64)), elem := 3 }),
  (25, { ty := (.sl Y40), elem := 44 }),
  (40, { ty := Y40, offs := [0, 1, 2, 3, 4, 5, 6], szs := [1, 1, 1, 1, 1, 1, 1] }),
  (41, { ty := Y40, offs := [0, 1, 2, 3, 4, 5, 6], szs := [1, 1, 1, 1, 1, 1, 1] }),
  (44, { ty := Y40, offs := [0, 1, 2, 3, 4, 5, 6], szs := [1, 1, 1, 1, 1, 1, 1] }),
  (57, { ty := (.sl (.int .u8)), elem := 5 }),
  (72, { ty := (.int .u32) }),
  (73, { ty := (.int .u8) }),
  (74, { ty := (.int .u8) }),
  (77, { ty := (.int .i32) }),
  (78, { ty := (.int .i32) })]
abbrev T : Tab := lookT TL
theorem T_ok : TabOk Go.Proofs.Try.prog T := tabOk_of TL (by kernel_rfl)
theorem T_rec : RecOk Go.Proofs.Try.prog T := recOk_of TL (by kernel_rfl)
/- loop.example/g00844/laws.szIntS -/
def F35 (N : Nat) (a0 : (List Int)) (a1 : Int) : Option (Int) :=
  cond (decide ((IntKind.i64.wrap (a1 - (a0.length : Int))) < (0 : Int))) (some (-1 : Int)) (some (IntKind.i64.wrap (a1 - (a0.length : Int))))
theorem ok35 (N : Nat) (a0 : (List Int)) (a1 : Int) {r : Int} (h : F35 N a0 a1 = some r) : Con Go.Proofs.Try.prog 35 [.lf (.v (.sl (.int .i64)) a0), I a1] [.lf (.v (.int .i64) r)] := by
  refine ctr [.lf (.v (.int .i64))] T_ok Go.Proofs.Try.func35 rfl fun w0 E0 => ?_
  unfold F35 at h
  show VW _ _ _ _ _ (retQ _ _ _ _) _
  refine sR T_ok [0, 1] [] ⟨[(0, .lf (.v (.sl (.int .i64)) a0)), (1, I a1)], []⟩ (tn 1) ?_
  refine sR T_ok [1] [] ⟨[(1, I (IntKind.i64.wrap (a1 - (a0.length : Int))))], []⟩ (tn 5) ?_
  refine VW.seq ?_
  refine sR T_ok [1, 10] [] ⟨[(1, I (IntKind.i64.wrap (a1 - (a0.length : Int)))), (10, B (decide ((IntKind.i64.wrap (a1 - (a0.length : Int))) < (0 : Int))))], []⟩ (tn 2) ?_
  refine cnd h (fun h => ?_) (fun h => ?_)
  · refine sR T_ok [4] [] ⟨[(4, I (-1 : Int))], []⟩ (tn 1) ?_
    refine VW.ret ?_
    replace h := Option.some.inj h
    subst h
    exact rt []
  refine VW.skip ?_
  refine sR T_ok [4] [] ⟨[(4, I (IntKind.i64.wrap (a1 - (a0.length : Int))))], []⟩ (tn 2) ?_
  refine VW.ret ?_
  replace h := Option.some.inj h
  subst h
  exact rt []

/- loop.example/g00844/laws.szNode -/
def F21 (N : Nat) (a0 : (Int × (ByteArray × (Int × (Int × (Int × (Bool × (List Int)))))))) (a1 : Int) : Option (Int) :=
  cond (decide ((IntKind.i64.wrap (a1 - (a0.2.1.size : Int))) < (0 : Int))) (some (-1 : Int)) (andO (F35 N a0.2.2.2.2.2.2 (IntKind.i64.wrap (a1 - (a0.2.1.size : Int)))) fun y1 => cond (decide (y1 < (0 : Int))) (some (-1 : Int)) (some y1))
theorem ok21 (N : Nat) (a0 : (Int × (ByteArray × (Int × (Int × (Int × (Bool × (List Int)))))))) (a1 : Int) {r : Int} (h : F21 N a0 a1 = some r) : Con Go.Proofs.Try.prog 21 [.agg [.v (.int .i64) a0.1, .v .str a0.2.1, .v (.int .i64) a0.2.2.1, .v (.int .i64) a0.2.2.2.1, .v (.int .i64) a0.2.2.2.2.1, .v .bool a0.2.2.2.2.2.1, .v (.sl (.int .i64)) a0.2.2.2.2.2.2], I a1] [.lf (.v (.int .i64) r)] := by
  refine ctr [.lf (.v (.int .i64))] T_ok Go.Proofs.Try.func21 rfl fun w0 E0 => ?_
  unfold F21 at h
  show VW _ _ _ _ _ (retQ _ _ _ _) _
  refine sR T_ok [1, 2] [0] ⟨[(1, I a1), (2, .lf (.ptr 0 0 0 0))], [bx [.v (.int .i64) a0.1, .v .str a0.2.1, .v (.int .i64) a0.2.2.1, .v (.int .i64) a0.2.2.2.1, .v (.int .i64) a0.2.2.2.2.1, .v .bool a0.2.2.2.2.2.1, .v (.sl (.int .i64)) a0.2.2.2.2.2.2] 41]⟩ (tn 2) ?_
  refine sR T_ok [1, 2] [0] ⟨[(1, I (IntKind.i64.wrap (a1 - (a0.2.1.size : Int)))), (2, .lf (.ptr 0 0 0 0))], [bx [.v (.int .i64) a0.1, .v .str a0.2.1, .v (.int .i64) a0.2.2.1, .v (.int .i64) a0.2.2.2.1, .v (.int .i64) a0.2.2.2.2.1, .v .bool a0.2.2.2.2.2.1, .v (.sl (.int .i64)) a0.2.2.2.2.2.2] 41]⟩ (tn 6) ?_
  refine VW.seq ?_
  refine sR T_ok [1, 2, 11] [0] ⟨[(1, I (IntKind.i64.wrap (a1 - (a0.2.1.size : Int)))), (2, .lf (.ptr 0 0 0 0)), (11, B (decide ((IntKind.i64.wrap (a1 - (a0.2.1.size : Int))) < (0 : Int))))], [bx [.v (.int .i64) a0.1, .v .str a0.2.1, .v (.int .i64) a0.2.2.1, .v (.int .i64) a0.2.2.2.1, .v (.int .i64) a0.2.2.2.2.1, .v .bool a0.2.2.2.2.2.1, .v (.sl (.int .i64)) a0.2.2.2.2.2.2] 41]⟩ (tn 2) ?_
  refine cnd h (fun h => ?_) (fun h => ?_)
  · refine sR T_ok [4] [] ⟨[(4, I (-1 : Int))], []⟩ (tn 1) ?_
    refine VW.ret ?_
    replace h := Option.some.inj h
    subst h
    exact rt []
  refine VW.skip ?_
  refine VW.seq ?_
  refine VW.region ?_
  refine sG T_ok 3 [13, 14] [] ⟨[(13, .lf (.v (.sl (.int .i64)) a0.2.2.2.2.2.2)), (14, I (IntKind.i64.wrap (a1 - (a0.2.1.size : Int))))], []⟩ (tn 3) ?_
  obtain ⟨y1, hy, h⟩ := andO_some h
  refine cal false [.t (.sl (.int .i64)), .t (.int .i64)] [] (some 15) T_ok (ok35 N _ _ hy) ?_
  refine sN T_ok [1] [] ⟨[(1, I y1)], []⟩ (tn 1) ?_
  refine VW.seq ?_
  refine sR T_ok [1, 17] [] ⟨[(1, I y1), (17, B (decide (y1 < (0 : Int))))], []⟩ (tn 2) ?_
  refine cnd h (fun h => ?_) (fun h => ?_)
  · refine sR T_ok [4] [] ⟨[(4, I (-1 : Int))], []⟩ (tn 1) ?_
    refine VW.ret ?_
    replace h := Option.some.inj h
    subst h
    exact rt []
  refine VW.skip ?_
  refine sR T_ok [4] [] ⟨[(4, I y1)], []⟩ (tn 2) ?_
  refine VW.ret ?_
  replace h := Option.some.inj h
  subst h
  exact rt []

/- loop.example/g00844/laws.szNodeS -/
def F6_j0 (N : Nat) (x17 : Int) : Option (Int) :=
  some x17
def F6_l0_b (N : Nat) (a0 : (List (Int × (ByteArray × (Int × (Int × (Int × (Bool × (List Int))))))))) (nx30 : Int → Int → Option (Int)) (x24 : Int) (x25 : Int) : Option (Int) :=
  cond (decide (x25 < (a0.length : Int))) (gd (InR x25 a0.length) (andO (F21 N (a0.getD x25.toNat (Ty.dflt Y40)) x24) fun y34 => cond (decide (y34 < (0 : Int))) (some (-1 : Int)) (nx30 y34 (IntKind.i64.wrap (x25 + (1 : Int)))))) (F6_j0 N x24)
def F6_l0 (N : Nat) (a0 : (List (Int × (ByteArray × (Int × (Int × (Int × (Bool × (List Int))))))))) : Nat → Int → Int → Option (Int) := loopF (F6_l0_b N a0) (fun _ _ => none)
theorem F6_l0_s (N : Nat) (a0 : (List (Int × (ByteArray × (Int × (Int × (Int × (Bool × (List Int))))))))) {k : Nat} (hk : 0 < k) (x24 : Int) (x25 : Int) : F6_l0 N a0 k x24 x25 = F6_l0_b N a0 (F6_l0 N a0 (k - 1)) x24 x25 := by
  cases k with
  | zero => exact absurd hk (Nat.lt_irrefl 0)
  | succ m => rfl
def F6 (N : Nat) (a0 : (List (Int × (ByteArray × (Int × (Int × (Int × (Bool × (List Int))))))))) (a1 : Int) : Option (Int) :=
  cond (decide ((IntKind.i64.wrap (a1 - (a0.length : Int))) < (0 : Int))) (some (-1 : Int)) (F6_l0 N a0 N (IntKind.i64.wrap (a1 - (a0.length : Int))) (0 : Int))
theorem ok6 (N : Nat) (a0 : (List (Int × (ByteArray × (Int × (Int × (Int × (Bool × (List Int))))))))) (a1 : Int) {r : Int} (h : F6 N a0 a1 = some r) : Con Go.Proofs.Try.prog 6 [.lf (.v (.sl Y40) a0), I a1] [.lf (.v (.int .i64) r)] := by
  refine ctr [.lf (.v (.int .i64))] T_ok Go.Proofs.Try.func6 rfl fun w0 E0 => ?_
  unfold F6 at h
  show VW _ _ _ _ _ (retQ _ _ _ _) _
  refine sR T_ok [0, 1] [] ⟨[(0, .lf (.v (.sl Y40) a0)), (1, I a1)], []⟩ (tn 1) ?_
  refine sR T_ok [0, 1] [] ⟨[(0, .lf (.v (.sl Y40) a0)), (1, I (IntKind.i64.wrap (a1 - (a0.length : Int))))], []⟩ (tn 5) ?_
  refine VW.seq ?_
  refine sR T_ok [0, 1, 11] [] ⟨[(0, .lf (.v (.sl Y40) a0)), (1, I (IntKind.i64.wrap (a1 - (a0.length : Int)))), (11, B (decide ((IntKind.i64.wrap (a1 - (a0.length : Int))) < (0 : Int))))], []⟩ (tn 2) ?_
  refine cnd h (fun h => ?_) (fun h => ?_)
  · refine sR T_ok [4] [] ⟨[(4, I (-1 : Int))], []⟩ (tn 1) ?_
    refine VW.ret ?_
    replace h := Option.some.inj h
    subst h
    exact rt []
  refine VW.skip ?_
  refine VW.join (fun s => ∃ (x17 : Int), s = ⟨[(1, I x17)], []⟩ ∧ F6_j0 N x17 = some r) ?_ ?_
  · refine sR T_ok [0, 1, 5] [] ⟨[(0, .lf (.v (.sl Y40) a0)), (1, I (IntKind.i64.wrap (a1 - (a0.length : Int)))), (5, I (0 : Int))], []⟩ (tn 1) ?_
    refine VW.block ?_
    refine lop (fun k s => ∃ (x24 : Int) (x25 : Int), s = ⟨[(0, .lf (.v (.sl Y40) a0)), (1, I x24), (5, I x25)], []⟩ ∧ F6_l0 N a0 k x24 x25 = some r) N [.ren [0, 1, 5] []] ⟨(IntKind.i64.wrap (a1 - (a0.length : Int))), (0 : Int), rfl, h⟩ ?_
    rintro k30 s ⟨x24, x25, rfl, h⟩
    cases k30 with
    | zero => cases show none = some r from h
    | succ k30 =>
      replace h : F6_l0_b N a0 (F6_l0 N a0 k30) x24 x25 = some r := h
      unfold F6_l0_b at h
      refine VW.seq ?_
      refine sR T_ok [0, 1, 5, 15] [] ⟨[(0, .lf (.v (.sl Y40) a0)), (1, I x24), (5, I x25), (15, B (decide (x25 < (a0.length : Int))))], []⟩ (tn 4) ?_
      refine cnd h (fun h => ?_) (fun h => ?_)
      · refine VW.skip ?_
        refine VW.seq ?_
        refine VW.block ?_
        refine VW.seq ?_
        refine VW.region ?_
        obtain ⟨g33, h⟩ := gd_some h
        refine sG T_ok 5 [0, 5, 21, 22] [] ⟨[(0, .lf (.v (.sl Y40) a0)), (5, I x25), (21, .agg [.v (.int .i64) ((a0.getD x25.toNat (Ty.dflt Y40)).1), .v .str ((a0.getD x25.toNat (Ty.dflt Y40)).2.1), .v (.int .i64) ((a0.getD x25.toNat (Ty.dflt Y40)).2.2.1), .v (.int .i64) ((a0.getD x25.toNat (Ty.dflt Y40)).2.2.2.1), .v (.int .i64) ((a0.getD x25.toNat (Ty.dflt Y40)).2.2.2.2.1), .v .bool ((a0.getD x25.toNat (Ty.dflt Y40)).2.2.2.2.2.1), .v (.sl (.int .i64)) ((a0.getD x25.toNat (Ty.dflt Y40)).2.2.2.2.2.2)]), (22, I x24)], []⟩ (pu 2 (an g33 (tn 2))) ?_
        obtain ⟨y34, hy, h⟩ := andO_some h
        refine cal false [.t Y40, .t (.int .i64)] [] (some 23) T_ok (ok21 N _ _ hy) ?_
        refine sN T_ok [0, 1, 5] [] ⟨[(0, .lf (.v (.sl Y40) a0)), (1, I y34), (5, I x25)], []⟩ (tn 1) ?_
        refine sR T_ok [0, 1, 5, 25] [] ⟨[(0, .lf (.v (.sl Y40) a0)), (1, I y34), (5, I x25), (25, B (decide (y34 < (0 : Int))))], []⟩ (tn 2) ?_
        refine cnd h (fun h => ?_) (fun h => ?_)
        · refine sR T_ok [4] [] ⟨[(4, I (-1 : Int))], []⟩ (tn 1) ?_
          refine VW.ret ?_
          replace h := Option.some.inj h
          subst h
          exact rt []
        refine VW.skip ?_
        refine rR T_ok [0, 1, 5] [] ⟨[(0, .lf (.v (.sl Y40) a0)), (1, I y34), (5, I (IntKind.i64.wrap (x25 + (1 : Int))))], []⟩ (tn 3) ?_
        exact aro [.ren [0, 1, 5] []] ⟨y34, (IntKind.i64.wrap (x25 + (1 : Int))), rfl, h⟩
      refine VW.exit ?_
      exact arv [.ren [1] []] ⟨x24, rfl, h⟩
  rintro s ⟨x17, rfl, h⟩
  unfold F6_j0 at h
  refine sR T_ok [4] [] ⟨[(4, I x17)], []⟩ (tn 2) ?_
  refine VW.ret ?_
  replace h := Option.some.inj h
  subst h
  exact rt []

/- loop.example/g00844/spec.l01In -/
def F36 (N : Nat) (a0 : Int) (a1 : Int) (a2 : Int) : Option (Bool) :=
  cond (decide (a1 ≤ a0)) (some (decide (a0 ≤ a2))) (some false)
theorem ok36 (N : Nat) (a0 : Int) (a1 : Int) (a2 : Int) {r : Bool} (h : F36 N a0 a1 a2 = some r) : Con Go.Proofs.Try.prog 36 [I a0, I a1, I a2] [.lf (.v .bool r)] := by
  refine ctr [.lf (.v .bool)] T_ok Go.Proofs.Try.func36 rfl fun w0 E0 => ?_
  unfold F36 at h
  show VW _ _ _ _ _ (retQ _ _ _ _) _
  refine sR T_ok [0, 1, 2] [] ⟨[(0, I a0), (1, I a1), (2, I a2)], []⟩ (tn 1) ?_
  refine VW.seq ?_
  refine VW.region ?_
  refine sG T_ok 4 [0, 2, 10] [] ⟨[(0, I a0), (2, I a2), (10, B (decide (a1 ≤ a0)))], []⟩ (tn 4) ?_
  refine spB 10 h (fun h => ?_) (fun h => ?_)
  · refine sN T_ok [6] [] ⟨[(6, B (decide (a0 ≤ a2)))], []⟩ (tn 5) ?_
    refine VW.ret ?_
    replace h := Option.some.inj h
    subst h
    exact rt []
  refine sN T_ok [6] [] ⟨[(6, B false)], []⟩ (tn 5) ?_
  refine VW.ret ?_
  replace h := Option.some.inj h
  subst h
  exact rt []

/- loop.example/g00844/spec.WordOk -/
def F48_j0 (N : Nat) : Option (Bool) :=
  some true
def F48_j1 (N : Nat) (nx74 : Int → Option (Bool)) (x60 : Int) : Option (Bool) :=
  nx74 (IntKind.i64.wrap (x60 + (1 : Int)))
def F48_l0_b (N : Nat) (a0 : ByteArray) (nx74 : Int → Option (Bool)) (x60 : Int) : Option (Bool) :=
  cond (decide (x60 < (a0.size : Int))) (gd (InR x60 a0.size) (cond (decide (((a0.data.getD x60.toNat 0).toNat : Int) < (97 : Int))) (gd (InR x60 a0.size) (cond (decide (((a0.data.getD x60.toNat 0).toNat : Int) < (48 : Int))) (some false) (gd (InR x60 a0.size) (cond (decide (((a0.data.getD x60.toNat 0).toNat : Int) > (57 : Int))) (some false) (F48_j1 N nx74 x60))))) (gd (InR x60 a0.size) (cond (decide (((a0.data.getD x60.toNat 0).toNat : Int) > (122 : Int))) (gd (InR x60 a0.size) (cond (decide (((a0.data.getD x60.toNat 0).toNat : Int) < (48 : Int))) (some false) (gd (InR x60 a0.size) (cond (decide (((a0.data.getD x60.toNat 0).toNat : Int) > (57 : Int))) (some false) (F48_j1 N nx74 x60))))) (F48_j1 N nx74 x60))))) (F48_j0 N)
def F48_l0 (N : Nat) (a0 : ByteArray) : Nat → Int → Option (Bool) := loopF (F48_l0_b N a0) (fun _ => none)
theorem F48_l0_s (N : Nat) (a0 : ByteArray) {k : Nat} (hk : 0 < k) (x60 : Int) : F48_l0 N a0 k x60 = F48_l0_b N a0 (F48_l0 N a0 (k - 1)) x60 := by
  cases k with
  | zero => exact absurd hk (Nat.lt_irrefl 0)
  | succ m => rfl
def F48 (N : Nat) (a0 : ByteArray) : Option (Bool) :=
  andO (F36 N (a0.size : Int) (1 : Int) (12 : Int)) fun y3 => cond (!y3) (some false) (gd (InR (0 : Int) a0.size) (cond (decide (((a0.data.getD (0 : Int).toNat 0).toNat : Int) < (97 : Int))) (some false) (F48_l0 N a0 N (0 : Int))))
theorem ok48 (N : Nat) (a0 : ByteArray) {r : Bool} (h : F48 N a0 = some r) : Con Go.Proofs.Try.prog 48 [S a0] [.lf (.v .bool r)] := by
  refine ctr [.lf (.v .bool)] T_ok Go.Proofs.Try.func48 rfl fun w0 E0 => ?_
  unfold F48 at h
  show VW _ _ _ _ _ (retQ _ _ _ _) _
  refine sR T_ok [0] [] ⟨[(0, S a0)], []⟩ (tn 1) ?_
  refine VW.seq ?_
  refine VW.seq ?_
  refine VW.region ?_
  refine sG T_ok 2 [0, 5] [] ⟨[(0, S a0), (5, I (a0.size : Int))], []⟩ (tn 2) ?_
  obtain ⟨y3, hy, h⟩ := andO_some h
  refine cal false [.t (.int .i64), .t (.int .i64), .t (.int .i64)] [] (some 6) T_ok (ok36 N _ _ _ hy) ?_
  refine sG T_ok 2 [0, 8] [] ⟨[(0, S a0), (8, B (!y3))], []⟩ (tn 2) ?_
  refine spB 8 h (fun h => ?_) (fun h => ?_)
  · refine sN T_ok [0, 12] [] ⟨[(0, S a0), (12, B true)], []⟩ (tn 4) ?_
    refine VW.cond (b := true) (by kernel_rfl) (fun _ => ?_) (fun h' => nomatch h')
    refine sR T_ok [2] [] ⟨[(2, B false)], []⟩ (tn 1) ?_
    refine VW.ret ?_
    replace h := Option.some.inj h
    subst h
    exact rt []
  obtain ⟨g4, h⟩ := gd_some h
  refine sN T_ok [0, 12] [] ⟨[(0, S a0), (12, B (decide (((a0.data.getD (0 : Int).toNat 0).toNat : Int) < (97 : Int))))], []⟩ (pu 1 (an g4 (tn 2))) ?_
  refine cnd h (fun h => ?_) (fun h => ?_)
  · refine sR T_ok [2] [] ⟨[(2, B false)], []⟩ (tn 1) ?_
    refine VW.ret ?_
    replace h := Option.some.inj h
    subst h
    exact rt []
  refine VW.skip ?_
  refine VW.join (fun s => s = ⟨[], []⟩ ∧ F48_j0 N = some r) ?_ ?_
  · refine sR T_ok [0, 3] [] ⟨[(0, S a0), (3, I (0 : Int))], []⟩ (tn 1) ?_
    refine VW.block ?_
    refine lop (fun k s => ∃ (x60 : Int), s = ⟨[(0, S a0), (3, I x60)], []⟩ ∧ F48_l0 N a0 k x60 = some r) N [.ren [0, 3] []] ⟨(0 : Int), rfl, h⟩ ?_
    rintro k74 s ⟨x60, rfl, h⟩
    cases k74 with
    | zero => cases show none = some r from h
    | succ k74 =>
      replace h : F48_l0_b N a0 (F48_l0 N a0 k74) x60 = some r := h
      unfold F48_l0_b at h
      refine VW.seq ?_
      refine sR T_ok [0, 3, 16] [] ⟨[(0, S a0), (3, I x60), (16, B (decide (x60 < (a0.size : Int))))], []⟩ (tn 4) ?_
      refine cnd h (fun h => ?_) (fun h => ?_)
      · refine VW.skip ?_
        refine VW.join (fun s => s = ⟨[(0, S a0), (3, I x60)], []⟩ ∧ F48_j1 N (F48_l0 N a0 k74) x60 = some r) ?_ ?_
        · refine VW.block ?_
          refine VW.seq ?_
          refine VW.region ?_
          obtain ⟨g82, h⟩ := gd_some h
          refine sG T_ok 5 [0, 3, 23] [] ⟨[(0, S a0), (3, I x60), (23, B (decide (((a0.data.getD x60.toNat 0).toNat : Int) < (97 : Int))))], []⟩ (pu 2 (an g82 (tn 2))) ?_
          refine spB 23 h (fun h => ?_) (fun h => ?_)
          · obtain ⟨g83, h⟩ := gd_some h
            refine sG T_ok 11 [0, 3, 29, 34] [] ⟨[(0, S a0), (3, I x60), (29, B true), (34, B (decide (((a0.data.getD x60.toNat 0).toNat : Int) < (48 : Int))))], []⟩ (pu 8 (an g83 (tn 2))) ?_
            refine spB 34 h (fun h => ?_) (fun h => ?_)
            · refine sN T_ok [0, 3, 40] [] ⟨[(0, S a0), (3, I x60), (40, B true)], []⟩ (tn 6) ?_
              refine VW.cond (b := true) (by kernel_rfl) (fun _ => ?_) (fun h' => nomatch h')
              refine sR T_ok [2] [] ⟨[(2, B false)], []⟩ (tn 1) ?_
              refine VW.ret ?_
              replace h := Option.some.inj h
              subst h
              exact rt []
            obtain ⟨g84, h⟩ := gd_some h
            refine sN T_ok [0, 3, 40] [] ⟨[(0, S a0), (3, I x60), (40, B (decide (((a0.data.getD x60.toNat 0).toNat : Int) > (57 : Int))))], []⟩ (pu 2 (an g84 (tn 3))) ?_
            refine cnd h (fun h => ?_) (fun h => ?_)
            · refine sR T_ok [2] [] ⟨[(2, B false)], []⟩ (tn 1) ?_
              refine VW.ret ?_
              replace h := Option.some.inj h
              subst h
              exact rt []
            refine VW.skip ?_
            exact arv [.ren [0, 3] []] ⟨rfl, h⟩
          obtain ⟨g85, h⟩ := gd_some h
          refine sG T_ok 6 [0, 3, 29] [] ⟨[(0, S a0), (3, I x60), (29, B (decide (((a0.data.getD x60.toNat 0).toNat : Int) > (122 : Int))))], []⟩ (pu 2 (an g85 (tn 3))) ?_
          refine spB 29 h (fun h => ?_) (fun h => ?_)
          · obtain ⟨g86, h⟩ := gd_some h
            refine sG T_ok 5 [0, 3, 29, 34] [] ⟨[(0, S a0), (3, I x60), (29, B true), (34, B (decide (((a0.data.getD x60.toNat 0).toNat : Int) < (48 : Int))))], []⟩ (pu 2 (an g86 (tn 2))) ?_
            refine spB 34 h (fun h => ?_) (fun h => ?_)
            · refine sN T_ok [0, 3, 40] [] ⟨[(0, S a0), (3, I x60), (40, B true)], []⟩ (tn 6) ?_
              refine VW.cond (b := true) (by kernel_rfl) (fun _ => ?_) (fun h' => nomatch h')
              refine sR T_ok [2] [] ⟨[(2, B false)], []⟩ (tn 1) ?_
              refine VW.ret ?_
              replace h := Option.some.inj h
              subst h
              exact rt []
            obtain ⟨g87, h⟩ := gd_some h
            refine sN T_ok [0, 3, 40] [] ⟨[(0, S a0), (3, I x60), (40, B (decide (((a0.data.getD x60.toNat 0).toNat : Int) > (57 : Int))))], []⟩ (pu 2 (an g87 (tn 3))) ?_
            refine cnd h (fun h => ?_) (fun h => ?_)
            · refine sR T_ok [2] [] ⟨[(2, B false)], []⟩ (tn 1) ?_
              refine VW.ret ?_
              replace h := Option.some.inj h
              subst h
              exact rt []
            refine VW.skip ?_
            exact arv [.ren [0, 3] []] ⟨rfl, h⟩
          refine sN T_ok [0, 3, 40] [] ⟨[(0, S a0), (3, I x60), (40, B false)], []⟩ (tn 11) ?_
          refine VW.cond (b := false) (by kernel_rfl) (fun h' => nomatch h') (fun _ => ?_)
          refine VW.skip ?_
          exact arv [.ren [0, 3] []] ⟨rfl, h⟩
        rintro s ⟨rfl, h⟩
        unfold F48_j1 at h
        refine rR T_ok [0, 3] [] ⟨[(0, S a0), (3, I (IntKind.i64.wrap (x60 + (1 : Int))))], []⟩ (tn 3) ?_
        exact aro [.ren [0, 3] []] ⟨(IntKind.i64.wrap (x60 + (1 : Int))), rfl, h⟩
      refine VW.exit ?_
      exact arv [.ren [] []] ⟨rfl, h⟩
  rintro s ⟨rfl, h⟩
  unfold F48_j0 at h
  refine sR T_ok [2] [] ⟨[(2, B true)], []⟩ (tn 1) ?_
  refine VW.ret ?_
  replace h := Option.some.inj h
  subst h
  exact rt []

/- loop.example/g00844/spec.l02Col -/
def F49 (N : Nat) (a0 : Int) : Option (Bool) :=
  andO (F36 N a0 (0 : Int) (63 : Int)) fun y1 => some y1
theorem ok49 (N : Nat) (a0 : Int) {r : Bool} (h : F49 N a0 = some r) : Con Go.Proofs.Try.prog 49 [I a0] [.lf (.v .bool r)] := by
  refine ctr [.lf (.v .bool)] T_ok Go.Proofs.Try.func49 rfl fun w0 E0 => ?_
  unfold F49 at h
  show VW _ _ _ _ _ (retQ _ _ _ _) _
  refine sR T_ok [0] [] ⟨[(0, I a0)], []⟩ (tn 1) ?_
  refine VW.seq ?_
  refine VW.region ?_
  refine sG T_ok 1 [3] [] ⟨[(3, I a0)], []⟩ (tn 1) ?_
  obtain ⟨y1, hy, h⟩ := andO_some h
  refine cal false [.t (.int .i64), .t (.int .i64), .t (.int .i64)] [] (some 4) T_ok (ok36 N _ _ _ hy) ?_
  refine sN T_ok [2] [] ⟨[(2, B y1)], []⟩ (tn 1) ?_
  refine VW.ret ?_
  replace h := Option.some.inj h
  subst h
  exact rt []

/- loop.example/g00844/spec.l01Number -/
def F50 (N : Nat) (a0 : Int) : Option (Bool) :=
  andO (F36 N a0 (-1000000 : Int) (1000000 : Int)) fun y1 => some y1
theorem ok50 (N : Nat) (a0 : Int) {r : Bool} (h : F50 N a0 = some r) : Con Go.Proofs.Try.prog 50 [I a0] [.lf (.v .bool r)] := by
  refine ctr [.lf (.v .bool)] T_ok Go.Proofs.Try.func50 rfl fun w0 E0 => ?_
  unfold F50 at h
  show VW _ _ _ _ _ (retQ _ _ _ _) _
  refine sR T_ok [0] [] ⟨[(0, I a0)], []⟩ (tn 1) ?_
  refine VW.seq ?_
  refine VW.region ?_
  refine sG T_ok 1 [3] [] ⟨[(3, I a0)], []⟩ (tn 1) ?_
  obtain ⟨y1, hy, h⟩ := andO_some h
  refine cal false [.t (.int .i64), .t (.int .i64), .t (.int .i64)] [] (some 4) T_ok (ok36 N _ _ _ hy) ?_
  refine sN T_ok [2] [] ⟨[(2, B y1)], []⟩ (tn 1) ?_
  refine VW.ret ?_
  replace h := Option.some.inj h
  subst h
  exact rt []

/- loop.example/g00844/spec.NodeOk -/
def F37_j0 (N : Nat) : Option (Bool) :=
  some false
def F37_j1 (N : Nat) (x11 : Int) (x13 : Int) (x14 : Bool) (x15 : (List Int)) : Option (Bool) :=
  andO (F36 N (x15.length : Int) (1 : Int) (6 : Int)) fun y75 => cond y75 (cond (x11 == (0 : Int)) (cond (x13 == (0 : Int)) (some (!x14)) (some false)) (some false)) (some false)
def F37_l0_b (N : Nat) (x11 : Int) (x13 : Int) (x14 : Bool) (x15 : (List Int)) (nx86 : Int → Option (Bool)) (x81 : Int) : Option (Bool) :=
  cond (decide (x81 < (x15.length : Int))) (gd (InR x81 x15.length) (andO (F49 N (x15.getD x81.toNat (Ty.dflt (.int .i64)))) fun y90 => cond (!y90) (some false) (nx86 (IntKind.i64.wrap (x81 + (1 : Int)))))) (F37_j1 N x11 x13 x14 x15)
def F37_l0 (N : Nat) (x11 : Int) (x13 : Int) (x14 : Bool) (x15 : (List Int)) : Nat → Int → Option (Bool) := loopF (F37_l0_b N x11 x13 x14 x15) (fun _ => none)
theorem F37_l0_s (N : Nat) (x11 : Int) (x13 : Int) (x14 : Bool) (x15 : (List Int)) {k : Nat} (hk : 0 < k) (x81 : Int) : F37_l0 N x11 x13 x14 x15 k x81 = F37_l0_b N x11 x13 x14 x15 (F37_l0 N x11 x13 x14 x15 (k - 1)) x81 := by
  cases k with
  | zero => exact absurd hk (Nat.lt_irrefl 0)
  | succ m => rfl
def F37_j2 (N : Nat) (x11 : Int) (x13 : Int) (x14 : Bool) (x95 : Bool) : Option (Bool) :=
  cond x95 (cond (x11 == (0 : Int)) (cond (x13 == (0 : Int)) (some (!x14)) (some false)) (some false)) (F37_j0 N)
def F37_j3 (N : Nat) (x9 : Int) (x10 : ByteArray) (x11 : Int) (x12 : Int) (x13 : Int) (x14 : Bool) (x15 : (List Int)) : Option (Bool) :=
  cond (x9 == (0 : Int)) (andO (F48 N x10) fun y57 => cond y57 (cond (x11 == (0 : Int)) (cond (x13 == (0 : Int)) (some (!x14)) (some false)) (some false)) (some false)) (cond (x9 == (1 : Int)) (andO (F49 N x11) fun y58 => cond y58 (andO (F36 N x12 (0 : Int) (3 : Int)) fun y59 => cond y59 (andO (F50 N x13) fun y60 => cond y60 (cond (x12 != (3 : Int)) (some true) (cond (x13 == (0 : Int)) (some (!x14)) (some false))) (some false)) (some false)) (some false)) (cond (x9 == (2 : Int)) (F37_l0 N x11 x13 x14 x15 N (0 : Int)) (cond (x9 == (3 : Int)) (andO (F49 N x11) fun y91 => cond y91 (andO (F49 N x13) fun y92 => cond y92 (some (!x14)) (some false)) (some false)) (cond (x9 == (5 : Int)) (andO (F49 N x11) fun y93 => cond y93 (cond (x13 == (0 : Int)) (some (!x14)) (some false)) (some false)) (cond (x9 == (6 : Int)) (cond (x11 == (0 : Int)) (andO (F36 N x13 (0 : Int) (1000000 : Int)) fun y94 => some y94) (some false)) (cond (x9 == (4 : Int)) (F37_j2 N x11 x13 x14 (x9 == (4 : Int))) (F37_j2 N x11 x13 x14 (x9 == (7 : Int)))))))))
def F37 (N : Nat) (a0 : (Int × (ByteArray × (Int × (Int × (Int × (Bool × (List Int)))))))) : Option (Bool) :=
  cond (a0.1 != (0 : Int)) (cond (!(a0.2.1.toList == ByteArray.empty.toList)) (some false) (cond (a0.1 != (2 : Int)) (cond (decide ((a0.2.2.2.2.2.2.length : Int) > (0 : Int))) (some false) (cond (a0.1 != (1 : Int)) (cond (a0.2.2.2.1 != (0 : Int)) (some false) (cond a0.2.2.2.2.2.1 (andO (F36 N a0.2.2.2.2.1 (0 : Int) (39 : Int)) fun y98 => cond (!y98) (some false) (F37_j3 N a0.1 a0.2.1 a0.2.2.1 a0.2.2.2.1 a0.2.2.2.2.1 a0.2.2.2.2.2.1 a0.2.2.2.2.2.2)) (F37_j3 N a0.1 a0.2.1 a0.2.2.1 a0.2.2.2.1 a0.2.2.2.2.1 a0.2.2.2.2.2.1 a0.2.2.2.2.2.2))) (cond a0.2.2.2.2.2.1 (andO (F36 N a0.2.2.2.2.1 (0 : Int) (39 : Int)) fun y99 => cond (!y99) (some false) (F37_j3 N a0.1 a0.2.1 a0.2.2.1 a0.2.2.2.1 a0.2.2.2.2.1 a0.2.2.2.2.2.1 a0.2.2.2.2.2.2)) (F37_j3 N a0.1 a0.2.1 a0.2.2.1 a0.2.2.2.1 a0.2.2.2.2.1 a0.2.2.2.2.2.1 a0.2.2.2.2.2.2)))) (cond (a0.1 != (1 : Int)) (cond (a0.2.2.2.1 != (0 : Int)) (some false) (cond a0.2.2.2.2.2.1 (andO (F36 N a0.2.2.2.2.1 (0 : Int) (39 : Int)) fun y100 => cond (!y100) (some false) (F37_j3 N a0.1 a0.2.1 a0.2.2.1 a0.2.2.2.1 a0.2.2.2.2.1 a0.2.2.2.2.2.1 a0.2.2.2.2.2.2)) (F37_j3 N a0.1 a0.2.1 a0.2.2.1 a0.2.2.2.1 a0.2.2.2.2.1 a0.2.2.2.2.2.1 a0.2.2.2.2.2.2))) (cond a0.2.2.2.2.2.1 (andO (F36 N a0.2.2.2.2.1 (0 : Int) (39 : Int)) fun y101 => cond (!y101) (some false) (F37_j3 N a0.1 a0.2.1 a0.2.2.1 a0.2.2.2.1 a0.2.2.2.2.1 a0.2.2.2.2.2.1 a0.2.2.2.2.2.2)) (F37_j3 N a0.1 a0.2.1 a0.2.2.1 a0.2.2.2.1 a0.2.2.2.2.1 a0.2.2.2.2.2.1 a0.2.2.2.2.2.2))))) (cond (a0.1 != (2 : Int)) (cond (decide ((a0.2.2.2.2.2.2.length : Int) > (0 : Int))) (some false) (cond (a0.1 != (1 : Int)) (cond (a0.2.2.2.1 != (0 : Int)) (some false) (cond a0.2.2.2.2.2.1 (andO (F36 N a0.2.2.2.2.1 (0 : Int) (39 : Int)) fun y102 => cond (!y102) (some false) (F37_j3 N a0.1 a0.2.1 a0.2.2.1 a0.2.2.2.1 a0.2.2.2.2.1 a0.2.2.2.2.2.1 a0.2.2.2.2.2.2)) (F37_j3 N a0.1 a0.2.1 a0.2.2.1 a0.2.2.2.1 a0.2.2.2.2.1 a0.2.2.2.2.2.1 a0.2.2.2.2.2.2))) (cond a0.2.2.2.2.2.1 (andO (F36 N a0.2.2.2.2.1 (0 : Int) (39 : Int)) fun y103 => cond (!y103) (some false) (F37_j3 N a0.1 a0.2.1 a0.2.2.1 a0.2.2.2.1 a0.2.2.2.2.1 a0.2.2.2.2.2.1 a0.2.2.2.2.2.2)) (F37_j3 N a0.1 a0.2.1 a0.2.2.1 a0.2.2.2.1 a0.2.2.2.2.1 a0.2.2.2.2.2.1 a0.2.2.2.2.2.2)))) (cond (a0.1 != (1 : Int)) (cond (a0.2.2.2.1 != (0 : Int)) (some false) (cond a0.2.2.2.2.2.1 (andO (F36 N a0.2.2.2.2.1 (0 : Int) (39 : Int)) fun y104 => cond (!y104) (some false) (F37_j3 N a0.1 a0.2.1 a0.2.2.1 a0.2.2.2.1 a0.2.2.2.2.1 a0.2.2.2.2.2.1 a0.2.2.2.2.2.2)) (F37_j3 N a0.1 a0.2.1 a0.2.2.1 a0.2.2.2.1 a0.2.2.2.2.1 a0.2.2.2.2.2.1 a0.2.2.2.2.2.2))) (cond a0.2.2.2.2.2.1 (andO (F36 N a0.2.2.2.2.1 (0 : Int) (39 : Int)) fun y105 => cond (!y105) (some false) (F37_j3 N a0.1 a0.2.1 a0.2.2.1 a0.2.2.2.1 a0.2.2.2.2.1 a0.2.2.2.2.2.1 a0.2.2.2.2.2.2)) (F37_j3 N a0.1 a0.2.1 a0.2.2.1 a0.2.2.2.1 a0.2.2.2.2.1 a0.2.2.2.2.2.1 a0.2.2.2.2.2.2))))
theorem ok37 (N : Nat) (a0 : (Int × (ByteArray × (Int × (Int × (Int × (Bool × (List Int)))))))) {r : Bool} (h : F37 N a0 = some r) : Con Go.Proofs.Try.prog 37 [.agg [.v (.int .i64) a0.1, .v .str a0.2.1, .v (.int .i64) a0.2.2.1, .v (.int .i64) a0.2.2.2.1, .v (.int .i64) a0.2.2.2.2.1, .v .bool a0.2.2.2.2.2.1, .v (.sl (.int .i64)) a0.2.2.2.2.2.2]] [.lf (.v .bool r)] := by
  refine ctr [.lf (.v .bool)] T_ok Go.Proofs.Try.func37 rfl fun w0 E0 => ?_
  unfold F37 at h
  show VW _ _ _ _ _ (retQ _ _ _ _) _
  refine sR T_ok [1] [0] ⟨[(1, .lf (.ptr 0 0 0 0))], [bx [.v (.int .i64) a0.1, .v .str a0.2.1, .v (.int .i64) a0.2.2.1, .v (.int .i64) a0.2.2.2.1, .v (.int .i64) a0.2.2.2.2.1, .v .bool a0.2.2.2.2.2.1, .v (.sl (.int .i64)) a0.2.2.2.2.2.2] 44]⟩ (tn 2) ?_
  refine VW.join (fun s => ∃ (x9 : Int) (x10 : ByteArray) (x11 : Int) (x12 : Int) (x13 : Int) (x14 : Bool) (x15 : (List Int)), s = ⟨[(1, .lf (.ptr 0 0 0 0))], [bx [.v (.int .i64) x9, .v .str x10, .v (.int .i64) x11, .v (.int .i64) x12, .v (.int .i64) x13, .v .bool x14, .v (.sl (.int .i64)) x15] 44]⟩ ∧ F37_j3 N x9 x10 x11 x12 x13 x14 x15 = some r) ?_ ?_
  · refine VW.seq ?_
    refine VW.region ?_
    refine sG T_ok 4 [1, 7] [0] ⟨[(1, .lf (.ptr 0 0 0 0)), (7, B (a0.1 != (0 : Int)))], [bx [.v (.int .i64) a0.1, .v .str a0.2.1, .v (.int .i64) a0.2.2.1, .v (.int .i64) a0.2.2.2.1, .v (.int .i64) a0.2.2.2.2.1, .v .bool a0.2.2.2.2.2.1, .v (.sl (.int .i64)) a0.2.2.2.2.2.2] 44]⟩ (tn 4) ?_
    refine spB 7 h (fun h => ?_) (fun h => ?_)
    · refine sG T_ok 5 [1, 12] [0] ⟨[(1, .lf (.ptr 0 0 0 0)), (12, B (!(a0.2.1.toList == ByteArray.empty.toList)))], [bx [.v (.int .i64) a0.1, .v .str a0.2.1, .v (.int .i64) a0.2.2.1, .v (.int .i64) a0.2.2.2.1, .v (.int .i64) a0.2.2.2.2.1, .v .bool a0.2.2.2.2.2.1, .v (.sl (.int .i64)) a0.2.2.2.2.2.2] 44]⟩ (tn 5) ?_
      refine spB 12 h (fun h => ?_) (fun h => ?_)
      · refine sN T_ok [1, 42] [0] ⟨[(1, .lf (.ptr 0 0 0 0)), (42, B true)], [bx [.v (.int .i64) a0.1, .v .str a0.2.1, .v (.int .i64) a0.2.2.1, .v (.int .i64) a0.2.2.2.1, .v (.int .i64) a0.2.2.2.2.1, .v .bool a0.2.2.2.2.2.1, .v (.sl (.int .i64)) a0.2.2.2.2.2.2] 44]⟩ (tn 30) ?_
        refine VW.cond (b := true) (by kernel_rfl) (fun _ => ?_) (fun h' => nomatch h')
        refine sR T_ok [2] [] ⟨[(2, B false)], []⟩ (tn 1) ?_
        refine VW.ret ?_
        replace h := Option.some.inj h
        subst h
        exact rt []
      refine sG T_ok 4 [1, 12, 16] [0] ⟨[(1, .lf (.ptr 0 0 0 0)), (12, B false), (16, B (a0.1 != (2 : Int)))], [bx [.v (.int .i64) a0.1, .v .str a0.2.1, .v (.int .i64) a0.2.2.1, .v (.int .i64) a0.2.2.2.1, .v (.int .i64) a0.2.2.2.2.1, .v .bool a0.2.2.2.2.2.1, .v (.sl (.int .i64)) a0.2.2.2.2.2.2] 44]⟩ (tn 4) ?_
      refine spB 16 h (fun h => ?_) (fun h => ?_)
      · refine sG T_ok 7 [1, 23] [0] ⟨[(1, .lf (.ptr 0 0 0 0)), (23, B (decide ((a0.2.2.2.2.2.2.length : Int) > (0 : Int))))], [bx [.v (.int .i64) a0.1, .v .str a0.2.1, .v (.int .i64) a0.2.2.1, .v (.int .i64) a0.2.2.2.1, .v (.int .i64) a0.2.2.2.2.1, .v .bool a0.2.2.2.2.2.1, .v (.sl (.int .i64)) a0.2.2.2.2.2.2] 44]⟩ (tn 7) ?_
        refine spB 23 h (fun h => ?_) (fun h => ?_)
        · refine sN T_ok [1, 42] [0] ⟨[(1, .lf (.ptr 0 0 0 0)), (42, B true)], [bx [.v (.int .i64) a0.1, .v .str a0.2.1, .v (.int .i64) a0.2.2.1, .v (.int .i64) a0.2.2.2.1, .v (.int .i64) a0.2.2.2.2.1, .v .bool a0.2.2.2.2.2.1, .v (.sl (.int .i64)) a0.2.2.2.2.2.2] 44]⟩ (tn 19) ?_
          refine VW.cond (b := true) (by kernel_rfl) (fun _ => ?_) (fun h' => nomatch h')
          refine sR T_ok [2] [] ⟨[(2, B false)], []⟩ (tn 1) ?_
          refine VW.ret ?_
          replace h := Option.some.inj h
          subst h
          exact rt []
        refine sG T_ok 4 [1, 23, 27] [0] ⟨[(1, .lf (.ptr 0 0 0 0)), (23, B false), (27, B (a0.1 != (1 : Int)))], [bx [.v (.int .i64) a0.1, .v .str a0.2.1, .v (.int .i64) a0.2.2.1, .v (.int .i64) a0.2.2.2.1, .v (.int .i64) a0.2.2.2.2.1, .v .bool a0.2.2.2.2.2.1, .v (.sl (.int .i64)) a0.2.2.2.2.2.2] 44]⟩ (tn 4) ?_
        refine spB 27 h (fun h => ?_) (fun h => ?_)
        · refine sG T_ok 6 [1, 33] [0] ⟨[(1, .lf (.ptr 0 0 0 0)), (33, B (a0.2.2.2.1 != (0 : Int)))], [bx [.v (.int .i64) a0.1, .v .str a0.2.1, .v (.int .i64) a0.2.2.1, .v (.int .i64) a0.2.2.2.1, .v (.int .i64) a0.2.2.2.2.1, .v .bool a0.2.2.2.2.2.1, .v (.sl (.int .i64)) a0.2.2.2.2.2.2] 44]⟩ (tn 6) ?_
          refine spB 33 h (fun h => ?_) (fun h => ?_)
          · refine sN T_ok [1, 42] [0] ⟨[(1, .lf (.ptr 0 0 0 0)), (42, B true)], [bx [.v (.int .i64) a0.1, .v .str a0.2.1, .v (.int .i64) a0.2.2.1, .v (.int .i64) a0.2.2.2.1, .v (.int .i64) a0.2.2.2.2.1, .v .bool a0.2.2.2.2.2.1, .v (.sl (.int .i64)) a0.2.2.2.2.2.2] 44]⟩ (tn 9) ?_
            refine VW.cond (b := true) (by kernel_rfl) (fun _ => ?_) (fun h' => nomatch h')
            refine sR T_ok [2] [] ⟨[(2, B false)], []⟩ (tn 1) ?_
            refine VW.ret ?_
            replace h := Option.some.inj h
            subst h
            exact rt []
          refine sG T_ok 3 [1, 33, 36] [0] ⟨[(1, .lf (.ptr 0 0 0 0)), (33, B false), (36, B a0.2.2.2.2.2.1)], [bx [.v (.int .i64) a0.1, .v .str a0.2.1, .v (.int .i64) a0.2.2.1, .v (.int .i64) a0.2.2.2.1, .v (.int .i64) a0.2.2.2.2.1, .v .bool a0.2.2.2.2.2.1, .v (.sl (.int .i64)) a0.2.2.2.2.2.2] 44]⟩ (tn 3) ?_
          refine spB 36 h (fun h => ?_) (fun h => ?_)
          · refine sG T_ok 2 [1, 33, 36, 38] [0] ⟨[(1, .lf (.ptr 0 0 0 0)), (33, B false), (36, B true), (38, I a0.2.2.2.2.1)], [bx [.v (.int .i64) a0.1, .v .str a0.2.1, .v (.int .i64) a0.2.2.1, .v (.int .i64) a0.2.2.2.1, .v (.int .i64) a0.2.2.2.2.1, .v .bool a0.2.2.2.2.2.1, .v (.sl (.int .i64)) a0.2.2.2.2.2.2] 44]⟩ (tn 2) ?_
            refine VO.on (j := 32) (want := true) (d := 36) (b := true) rfl rfl rfl (by kernel_rfl) rfl ?_
            obtain ⟨y98, hy, h⟩ := andO_some h
            refine cal false [.t (.int .i64), .t (.int .i64), .t (.int .i64)] [] (some 39) T_ok (ok36 N _ _ _ hy) ?_
            refine sN T_ok [1, 42] [0] ⟨[(1, .lf (.ptr 0 0 0 0)), (42, B (!y98))], [bx [.v (.int .i64) a0.1, .v .str a0.2.1, .v (.int .i64) a0.2.2.1, .v (.int .i64) a0.2.2.2.1, .v (.int .i64) a0.2.2.2.2.1, .v .bool a0.2.2.2.2.2.1, .v (.sl (.int .i64)) a0.2.2.2.2.2.2] 44]⟩ (tn 3) ?_
            refine cnd h (fun h => ?_) (fun h => ?_)
            · refine sR T_ok [2] [] ⟨[(2, B false)], []⟩ (tn 1) ?_
              refine VW.ret ?_
              replace h := Option.some.inj h
              subst h
              exact rt []
            refine VW.skip ?_
            exact arv [.ren [1] [0]] ⟨a0.1, a0.2.1, a0.2.2.1, a0.2.2.2.1, a0.2.2.2.2.1, a0.2.2.2.2.2.1, a0.2.2.2.2.2.2, rfl, h⟩
          refine sN T_ok [1, 42] [0] ⟨[(1, .lf (.ptr 0 0 0 0)), (42, B false)], [bx [.v (.int .i64) a0.1, .v .str a0.2.1, .v (.int .i64) a0.2.2.1, .v (.int .i64) a0.2.2.2.1, .v (.int .i64) a0.2.2.2.2.1, .v .bool a0.2.2.2.2.2.1, .v (.sl (.int .i64)) a0.2.2.2.2.2.2] 44]⟩ (tn 6) ?_
          refine VW.cond (b := false) (by kernel_rfl) (fun h' => nomatch h') (fun _ => ?_)
          refine VW.skip ?_
          exact arv [.ren [1] [0]] ⟨a0.1, a0.2.1, a0.2.2.1, a0.2.2.2.1, a0.2.2.2.2.1, a0.2.2.2.2.2.1, a0.2.2.2.2.2.2, rfl, h⟩
        refine sG T_ok 9 [1, 33, 36] [0] ⟨[(1, .lf (.ptr 0 0 0 0)), (33, B false), (36, B a0.2.2.2.2.2.1)], [bx [.v (.int .i64) a0.1, .v .str a0.2.1, .v (.int .i64) a0.2.2.1, .v (.int .i64) a0.2.2.2.1, .v (.int .i64) a0.2.2.2.2.1, .v .bool a0.2.2.2.2.2.1, .v (.sl (.int .i64)) a0.2.2.2.2.2.2] 44]⟩ (tn 9) ?_
        refine spB 36 h (fun h => ?_) (fun h => ?_)
        · refine sG T_ok 2 [1, 33, 36, 38] [0] ⟨[(1, .lf (.ptr 0 0 0 0)), (33, B false), (36, B true), (38, I a0.2.2.2.2.1)], [bx [.v (.int .i64) a0.1, .v .str a0.2.1, .v (.int .i64) a0.2.2.1, .v (.int .i64) a0.2.2.2.1, .v (.int .i64) a0.2.2.2.2.1, .v .bool a0.2.2.2.2.2.1, .v (.sl (.int .i64)) a0.2.2.2.2.2.2] 44]⟩ (tn 2) ?_
          refine VO.on (j := 32) (want := true) (d := 36) (b := true) rfl rfl rfl (by kernel_rfl) rfl ?_
          obtain ⟨y99, hy, h⟩ := andO_some h
          refine cal false [.t (.int .i64), .t (.int .i64), .t (.int .i64)] [] (some 39) T_ok (ok36 N _ _ _ hy) ?_
          refine sN T_ok [1, 42] [0] ⟨[(1, .lf (.ptr 0 0 0 0)), (42, B (!y99))], [bx [.v (.int .i64) a0.1, .v .str a0.2.1, .v (.int .i64) a0.2.2.1, .v (.int .i64) a0.2.2.2.1, .v (.int .i64) a0.2.2.2.2.1, .v .bool a0.2.2.2.2.2.1, .v (.sl (.int .i64)) a0.2.2.2.2.2.2] 44]⟩ (tn 3) ?_
          refine cnd h (fun h => ?_) (fun h => ?_)
          · refine sR T_ok [2] [] ⟨[(2, B false)], []⟩ (tn 1) ?_
            refine VW.ret ?_
            replace h := Option.some.inj h
            subst h
            exact rt []
          refine VW.skip ?_
          exact arv [.ren [1] [0]] ⟨a0.1, a0.2.1, a0.2.2.1, a0.2.2.2.1, a0.2.2.2.2.1, a0.2.2.2.2.2.1, a0.2.2.2.2.2.2, rfl, h⟩
        refine sN T_ok [1, 42] [0] ⟨[(1, .lf (.ptr 0 0 0 0)), (42, B false)], [bx [.v (.int .i64) a0.1, .v .str a0.2.1, .v (.int .i64) a0.2.2.1, .v (.int .i64) a0.2.2.2.1, .v (.int .i64) a0.2.2.2.2.1, .v .bool a0.2.2.2.2.2.1, .v (.sl (.int .i64)) a0.2.2.2.2.2.2] 44]⟩ (tn 6) ?_
        refine VW.cond (b := false) (by kernel_rfl) (fun h' => nomatch h') (fun _ => ?_)
        refine VW.skip ?_
        exact arv [.ren [1] [0]] ⟨a0.1, a0.2.1, a0.2.2.1, a0.2.2.2.1, a0.2.2.2.2.1, a0.2.2.2.2.2.1, a0.2.2.2.2.2.2, rfl, h⟩
      refine sG T_ok 11 [1, 23, 27] [0] ⟨[(1, .lf (.ptr 0 0 0 0)), (23, B false), (27, B (a0.1 != (1 : Int)))], [bx [.v (.int .i64) a0.1, .v .str a0.2.1, .v (.int .i64) a0.2.2.1, .v (.int .i64) a0.2.2.2.1, .v (.int .i64) a0.2.2.2.2.1, .v .bool a0.2.2.2.2.2.1, .v (.sl (.int .i64)) a0.2.2.2.2.2.2] 44]⟩ (tn 11) ?_
      refine spB 27 h (fun h => ?_) (fun h => ?_)
      · refine sG T_ok 6 [1, 33] [0] ⟨[(1, .lf (.ptr 0 0 0 0)), (33, B (a0.2.2.2.1 != (0 : Int)))], [bx [.v (.int .i64) a0.1, .v .str a0.2.1, .v (.int .i64) a0.2.2.1, .v (.int .i64) a0.2.2.2.1, .v (.int .i64) a0.2.2.2.2.1, .v .bool a0.2.2.2.2.2.1, .v (.sl (.int .i64)) a0.2.2.2.2.2.2] 44]⟩ (tn 6) ?_
        refine spB 33 h (fun h => ?_) (fun h => ?_)
        · refine sN T_ok [1, 42] [0] ⟨[(1, .lf (.ptr 0 0 0 0)), (42, B true)], [bx [.v (.int .i64) a0.1, .v .str a0.2.1, .v (.int .i64) a0.2.2.1, .v (.int .i64) a0.2.2.2.1, .v (.int .i64) a0.2.2.2.2.1, .v .bool a0.2.2.2.2.2.1, .v (.sl (.int .i64)) a0.2.2.2.2.2.2] 44]⟩ (tn 9) ?_
          refine VW.cond (b := true) (by kernel_rfl) (fun _ => ?_) (fun h' => nomatch h')
          refine sR T_ok [2] [] ⟨[(2, B false)], []⟩ (tn 1) ?_
          refine VW.ret ?_
          replace h := Option.some.inj h
          subst h
          exact rt []
        refine sG T_ok 3 [1, 33, 36] [0] ⟨[(1, .lf (.ptr 0 0 0 0)), (33, B false), (36, B a0.2.2.2.2.2.1)], [bx [.v (.int .i64) a0.1, .v .str a0.2.1, .v (.int .i64) a0.2.2.1, .v (.int .i64) a0.2.2.2.1, .v (.int .i64) a0.2.2.2.2.1, .v .bool a0.2.2.2.2.2.1, .v (.sl (.int .i64)) a0.2.2.2.2.2.2] 44]⟩ (tn 3) ?_
        refine spB 36 h (fun h => ?_) (fun h => ?_)
        · refine sG T_ok 2 [1, 33, 36, 38] [0] ⟨[(1, .lf (.ptr 0 0 0 0)), (33, B false), (36, B true), (38, I a0.2.2.2.2.1)], [bx [.v (.int .i64) a0.1, .v .str a0.2.1, .v (.int .i64) a0.2.2.1, .v (.int .i64) a0.2.2.2.1, .v (.int .i64) a0.2.2.2.2.1, .v .bool a0.2.2.2.2.2.1, .v (.sl (.int .i64)) a0.2.2.2.2.2.2] 44]⟩ (tn 2) ?_
          refine VO.on (j := 32) (want := true) (d := 36) (b := true) rfl rfl rfl (by kernel_rfl) rfl ?_
          obtain ⟨y100, hy, h⟩ := andO_some h
          refine cal false [.t (.int .i64), .t (.int .i64), .t (.int .i64)] [] (some 39) T_ok (ok36 N _ _ _ hy) ?_
          refine sN T_ok [1, 42] [0] ⟨[(1, .lf (.ptr 0 0 0 0)), (42, B (!y100))], [bx [.v (.int .i64) a0.1, .v .str a0.2.1, .v (.int .i64) a0.2.2.1, .v (.int .i64) a0.2.2.2.1, .v (.int .i64) a0.2.2.2.2.1, .v .bool a0.2.2.2.2.2.1, .v (.sl (.int .i64)) a0.2.2.2.2.2.2] 44]⟩ (tn 3) ?_
          refine cnd h (fun h => ?_) (fun h => ?_)
          · refine sR T_ok [2] [] ⟨[(2, B false)], []⟩ (tn 1) ?_
            refine VW.ret ?_
            replace h := Option.some.inj h
            subst h
            exact rt []
          refine VW.skip ?_
          exact arv [.ren [1] [0]] ⟨a0.1, a0.2.1, a0.2.2.1, a0.2.2.2.1, a0.2.2.2.2.1, a0.2.2.2.2.2.1, a0.2.2.2.2.2.2, rfl, h⟩
        refine sN T_ok [1, 42] [0] ⟨[(1, .lf (.ptr 0 0 0 0)), (42, B false)], [bx [.v (.int .i64) a0.1, .v .str a0.2.1, .v (.int .i64) a0.2.2.1, .v (.int .i64) a0.2.2.2.1, .v (.int .i64) a0.2.2.2.2.1, .v .bool a0.2.2.2.2.2.1, .v (.sl (.int .i64)) a0.2.2.2.2.2.2] 44]⟩ (tn 6) ?_
        refine VW.cond (b := false) (by kernel_rfl) (fun h' => nomatch h') (fun _ => ?_)
        refine VW.skip ?_
        exact arv [.ren [1] [0]] ⟨a0.1, a0.2.1, a0.2.2.1, a0.2.2.2.1, a0.2.2.2.2.1, a0.2.2.2.2.2.1, a0.2.2.2.2.2.2, rfl, h⟩
      refine sG T_ok 9 [1, 33, 36] [0] ⟨[(1, .lf (.ptr 0 0 0 0)), (33, B false), (36, B a0.2.2.2.2.2.1)], [bx [.v (.int .i64) a0.1, .v .str a0.2.1, .v (.int .i64) a0.2.2.1, .v (.int .i64) a0.2.2.2.1, .v (.int .i64) a0.2.2.2.2.1, .v .bool a0.2.2.2.2.2.1, .v (.sl (.int .i64)) a0.2.2.2.2.2.2] 44]⟩ (tn 9) ?_
      refine spB 36 h (fun h => ?_) (fun h => ?_)
      · refine sG T_ok 2 [1, 33, 36, 38] [0] ⟨[(1, .lf (.ptr 0 0 0 0)), (33, B false), (36, B true), (38, I a0.2.2.2.2.1)], [bx [.v (.int .i64) a0.1, .v .str a0.2.1, .v (.int .i64) a0.2.2.1, .v (.int .i64) a0.2.2.2.1, .v (.int .i64) a0.2.2.2.2.1, .v .bool a0.2.2.2.2.2.1, .v (.sl (.int .i64)) a0.2.2.2.2.2.2] 44]⟩ (tn 2) ?_
        refine VO.on (j := 32) (want := true) (d := 36) (b := true) rfl rfl rfl (by kernel_rfl) rfl ?_
        obtain ⟨y101, hy, h⟩ := andO_some h
        refine cal false [.t (.int .i64), .t (.int .i64), .t (.int .i64)] [] (some 39) T_ok (ok36 N _ _ _ hy) ?_
        refine sN T_ok [1, 42] [0] ⟨[(1, .lf (.ptr 0 0 0 0)), (42, B (!y101))], [bx [.v (.int .i64) a0.1, .v .str a0.2.1, .v (.int .i64) a0.2.2.1, .v (.int .i64) a0.2.2.2.1, .v (.int .i64) a0.2.2.2.2.1, .v .bool a0.2.2.2.2.2.1, .v (.sl (.int .i64)) a0.2.2.2.2.2.2] 44]⟩ (tn 3) ?_
        refine cnd h (fun h => ?_) (fun h => ?_)
        · refine sR T_ok [2] [] ⟨[(2, B false)], []⟩ (tn 1) ?_
          refine VW.ret ?_
          replace h := Option.some.inj h
          subst h
          exact rt []
        refine VW.skip ?_
        exact arv [.ren [1] [0]] ⟨a0.1, a0.2.1, a0.2.2.1, a0.2.2.2.1, a0.2.2.2.2.1, a0.2.2.2.2.2.1, a0.2.2.2.2.2.2, rfl, h⟩
      refine sN T_ok [1, 42] [0] ⟨[(1, .lf (.ptr 0 0 0 0)), (42, B false)], [bx [.v (.int .i64) a0.1, .v .str a0.2.1, .v (.int .i64) a0.2.2.1, .v (.int .i64) a0.2.2.2.1, .v (.int .i64) a0.2.2.2.2.1, .v .bool a0.2.2.2.2.2.1, .v (.sl (.int .i64)) a0.2.2.2.2.2.2] 44]⟩ (tn 6) ?_
      refine VW.cond (b := false) (by kernel_rfl) (fun h' => nomatch h') (fun _ => ?_)
      refine VW.skip ?_
      exact arv [.ren [1] [0]] ⟨a0.1, a0.2.1, a0.2.2.1, a0.2.2.2.1, a0.2.2.2.2.1, a0.2.2.2.2.2.1, a0.2.2.2.2.2.2, rfl, h⟩
    refine sG T_ok 9 [1, 12, 16] [0] ⟨[(1, .lf (.ptr 0 0 0 0)), (12, B false), (16, B (a0.1 != (2 : Int)))], [bx [.v (.int .i64) a0.1, .v .str a0.2.1, .v (.int .i64) a0.2.2.1, .v (.int .i64) a0.2.2.2.1, .v (.int .i64) a0.2.2.2.2.1, .v .bool a0.2.2.2.2.2.1, .v (.sl (.int .i64)) a0.2.2.2.2.2.2] 44]⟩ (tn 9) ?_
    refine spB 16 h (fun h => ?_) (fun h => ?_)
    · refine sG T_ok 7 [1, 23] [0] ⟨[(1, .lf (.ptr 0 0 0 0)), (23, B (decide ((a0.2.2.2.2.2.2.length : Int) > (0 : Int))))], [bx [.v (.int .i64) a0.1, .v .str a0.2.1, .v (.int .i64) a0.2.2.1, .v (.int .i64) a0.2.2.2.1, .v (.int .i64) a0.2.2.2.2.1, .v .bool a0.2.2.2.2.2.1, .v (.sl (.int .i64)) a0.2.2.2.2.2.2] 44]⟩ (tn 7) ?_
      refine spB 23 h (fun h => ?_) (fun h => ?_)
      · refine sN T_ok [1, 42] [0] ⟨[(1, .lf (.ptr 0 0 0 0)), (42, B true)], [bx [.v (.int .i64) a0.1, .v .str a0.2.1, .v (.int .i64) a0.2.2.1, .v (.int .i64) a0.2.2.2.1, .v (.int .i64) a0.2.2.2.2.1, .v .bool a0.2.2.2.2.2.1, .v (.sl (.int .i64)) a0.2.2.2.2.2.2] 44]⟩ (tn 19) ?_
        refine VW.cond (b := true) (by kernel_rfl) (fun _ => ?_) (fun h' => nomatch h')
        refine sR T_ok [2] [] ⟨[(2, B false)], []⟩ (tn 1) ?_
        refine VW.ret ?_
        replace h := Option.some.inj h
        subst h
        exact rt []
      refine sG T_ok 4 [1, 23, 27] [0] ⟨[(1, .lf (.ptr 0 0 0 0)), (23, B false), (27, B (a0.1 != (1 : Int)))], [bx [.v (.int .i64) a0.1, .v .str a0.2.1, .v (.int .i64) a0.2.2.1, .v (.int .i64) a0.2.2.2.1, .v (.int .i64) a0.2.2.2.2.1, .v .bool a0.2.2.2.2.2.1, .v (.sl (.int .i64)) a0.2.2.2.2.2.2] 44]⟩ (tn 4) ?_
      refine spB 27 h (fun h => ?_) (fun h => ?_)
      · refine sG T_ok 6 [1, 33] [0] ⟨[(1, .lf (.ptr 0 0 0 0)), (33, B (a0.2.2.2.1 != (0 : Int)))], [bx [.v (.int .i64) a0.1, .v .str a0.2.1, .v (.int .i64) a0.2.2.1, .v (.int .i64) a0.2.2.2.1, .v (.int .i64) a0.2.2.2.2.1, .v .bool a0.2.2.2.2.2.1, .v (.sl (.int .i64)) a0.2.2.2.2.2.2] 44]⟩ (tn 6) ?_
        refine spB 33 h (fun h => ?_) (fun h => ?_)
        · refine sN T_ok [1, 42] [0] ⟨[(1, .lf (.ptr 0 0 0 0)), (42, B true)], [bx [.v (.int .i64) a0.1, .v .str a0.2.1, .v (.int .i64) a0.2.2.1, .v (.int .i64) a0.2.2.2.1, .v (.int .i64) a0.2.2.2.2.1, .v .bool a0.2.2.2.2.2.1, .v (.sl (.int .i64)) a0.2.2.2.2.2.2] 44]⟩ (tn 9) ?_
          refine VW.cond (b := true) (by kernel_rfl) (fun _ => ?_) (fun h' => nomatch h')
          refine sR T_ok [2] [] ⟨[(2, B false)], []⟩ (tn 1) ?_
          refine VW.ret ?_
          replace h := Option.some.inj h
          subst h
          exact rt []
        refine sG T_ok 3 [1, 33, 36] [0] ⟨[(1, .lf (.ptr 0 0 0 0)), (33, B false), (36, B a0.2.2.2.2.2.1)], [bx [.v (.int .i64) a0.1, .v .str a0.2.1, .v (.int .i64) a0.2.2.1, .v (.int .i64) a0.2.2.2.1, .v (.int .i64) a0.2.2.2.2.1, .v .bool a0.2.2.2.2.2.1, .v (.sl (.int .i64)) a0.2.2.2.2.2.2] 44]⟩ (tn 3) ?_
        refine spB 36 h (fun h => ?_) (fun h => ?_)
        · refine sG T_ok 2 [1, 33, 36, 38] [0] ⟨[(1, .lf (.ptr 0 0 0 0)), (33, B false), (36, B true), (38, I a0.2.2.2.2.1)], [bx [.v (.int .i64) a0.1, .v .str a0.2.1, .v (.int .i64) a0.2.2.1, .v (.int .i64) a0.2.2.2.1, .v (.int .i64) a0.2.2.2.2.1, .v .bool a0.2.2.2.2.2.1, .v (.sl (.int .i64)) a0.2.2.2.2.2.2] 44]⟩ (tn 2) ?_
          refine VO.on (j := 32) (want := true) (d := 36) (b := true) rfl rfl rfl (by kernel_rfl) rfl ?_
          obtain ⟨y102, hy, h⟩ := andO_some h
          refine cal false [.t (.int .i64), .t (.int .i64), .t (.int .i64)] [] (some 39) T_ok (ok36 N _ _ _ hy) ?_
          refine sN T_ok [1, 42] [0] ⟨[(1, .lf (.ptr 0 0 0 0)), (42, B (!y102))], [bx [.v (.int .i64) a0.1, .v .str a0.2.1, .v (.int .i64) a0.2.2.1, .v (.int .i64) a0.2.2.2.1, .v (.int .i64) a0.2.2.2.2.1, .v .bool a0.2.2.2.2.2.1, .v (.sl (.int .i64)) a0.2.2.2.2.2.2] 44]⟩ (tn 3) ?_
          refine cnd h (fun h => ?_) (fun h => ?_)
          · refine sR T_ok [2] [] ⟨[(2, B false)], []⟩ (tn 1) ?_
            refine VW.ret ?_
            replace h := Option.some.inj h
            subst h
            exact rt []
          refine VW.skip ?_
          exact arv [.ren [1] [0]] ⟨a0.1, a0.2.1, a0.2.2.1, a0.2.2.2.1, a0.2.2.2.2.1, a0.2.2.2.2.2.1, a0.2.2.2.2.2.2, rfl, h⟩
        refine sN T_ok [1, 42] [0] ⟨[(1, .lf (.ptr 0 0 0 0)), (42, B false)], [bx [.v (.int .i64) a0.1, .v .str a0.2.1, .v (.int .i64) a0.2.2.1, .v (.int .i64) a0.2.2.2.1, .v (.int .i64) a0.2.2.2.2.1, .v .bool a0.2.2.2.2.2.1, .v (.sl (.int .i64)) a0.2.2.2.2.2.2] 44]⟩ (tn 6) ?_
        refine VW.cond (b := false) (by kernel_rfl) (fun h' => nomatch h') (fun _ => ?_)
        refine VW.skip ?_
        exact arv [.ren [1] [0]] ⟨a0.1, a0.2.1, a0.2.2.1, a0.2.2.2.1, a0.2.2.2.2.1, a0.2.2.2.2.2.1, a0.2.2.2.2.2.2, rfl, h⟩
      refine sG T_ok 9 [1, 33, 36] [0] ⟨[(1, .lf (.ptr 0 0 0 0)), (33, B false), (36, B a0.2.2.2.2.2.1)], [bx [.v (.int .i64) a0.1, .v .str a0.2.1, .v (.int .i64) a0.2.2.1, .v (.int .i64) a0.2.2.2.1, .v (.int .i64) a0.2.2.2.2.1, .v .bool a0.2.2.2.2.2.1, .v (.sl (.int .i64)) a0.2.2.2.2.2.2] 44]⟩ (tn 9) ?_
      refine spB 36 h (fun h => ?_) (fun h => ?_)
      · refine sG T_ok 2 [1, 33, 36, 38] [0] ⟨[(1, .lf (.ptr 0 0 0 0)), (33, B false), (36, B true), (38, I a0.2.2.2.2.1)], [bx [.v (.int .i64) a0.1, .v .str a0.2.1, .v (.int .i64) a0.2.2.1, .v (.int .i64) a0.2.2.2.1, .v (.int .i64) a0.2.2.2.2.1, .v .bool a0.2.2.2.2.2.1, .v (.sl (.int .i64)) a0.2.2.2.2.2.2] 44]⟩ (tn 2) ?_
        refine VO.on (j := 32) (want := true) (d := 36) (b := true) rfl rfl rfl (by kernel_rfl) rfl ?_
        obtain ⟨y103, hy, h⟩ := andO_some h
        refine cal false [.t (.int .i64), .t (.int .i64), .t (.int .i64)] [] (some 39) T_ok (ok36 N _ _ _ hy) ?_
        refine sN T_ok [1, 42] [0] ⟨[(1, .lf (.ptr 0 0 0 0)), (42, B (!y103))], [bx [.v (.int .i64) a0.1, .v .str a0.2.1, .v (.int .i64) a0.2.2.1, .v (.int .i64) a0.2.2.2.1, .v (.int .i64) a0.2.2.2.2.1, .v .bool a0.2.2.2.2.2.1, .v (.sl (.int .i64)) a0.2.2.2.2.2.2] 44]⟩ (tn 3) ?_
        refine cnd h (fun h => ?_) (fun h => ?_)
        · refine sR T_ok [2] [] ⟨[(2, B false)], []⟩ (tn 1) ?_
          refine VW.ret ?_
          replace h := Option.some.inj h
          subst h
          exact rt []
        refine VW.skip ?_
        exact arv [.ren [1] [0]] ⟨a0.1, a0.2.1, a0.2.2.1, a0.2.2.2.1, a0.2.2.2.2.1, a0.2.2.2.2.2.1, a0.2.2.2.2.2.2, rfl, h⟩
      refine sN T_ok [1, 42] [0] ⟨[(1, .lf (.ptr 0 0 0 0)), (42, B false)], [bx [.v (.int .i64) a0.1, .v .str a0.2.1, .v (.int .i64) a0.2.2.1, .v (.int .i64) a0.2.2.2.1, .v (.int .i64) a0.2.2.2.2.1, .v .bool a0.2.2.2.2.2.1, .v (.sl (.int .i64)) a0.2.2.2.2.2.2] 44]⟩ (tn 6) ?_
      refine VW.cond (b := false) (by kernel_rfl) (fun h' => nomatch h') (fun _ => ?_)
      refine VW.skip ?_
      exact arv [.ren [1] [0]] ⟨a0.1, a0.2.1, a0.2.2.1, a0.2.2.2.1, a0.2.2.2.2.1, a0.2.2.2.2.2.1, a0.2.2.2.2.2.2, rfl, h⟩
    refine sG T_ok 11 [1, 23, 27] [0] ⟨[(1, .lf (.ptr 0 0 0 0)), (23, B false), (27, B (a0.1 != (1 : Int)))], [bx [.v (.int .i64) a0.1, .v .str a0.2.1, .v (.int .i64) a0.2.2.1, .v (.int .i64) a0.2.2.2.1, .v (.int .i64) a0.2.2.2.2.1, .v .bool a0.2.2.2.2.2.1, .v (.sl (.int .i64)) a0.2.2.2.2.2.2] 44]⟩ (tn 11) ?_
    refine spB 27 h (fun h => ?_) (fun h => ?_)
    · refine sG T_ok 6 [1, 33] [0] ⟨[(1, .lf (.ptr 0 0 0 0)), (33, B (a0.2.2.2.1 != (0 : Int)))], [bx [.v (.int .i64) a0.1, .v .str a0.2.1, .v (.int .i64) a0.2.2.1, .v (.int .i64) a0.2.2.2.1, .v (.int .i64) a0.2.2.2.2.1, .v .bool a0.2.2.2.2.2.1, .v (.sl (.int .i64)) a0.2.2.2.2.2.2] 44]⟩ (tn 6) ?_
      refine spB 33 h (fun h => ?_) (fun h => ?_)
      · refine sN T_ok [1, 42] [0] ⟨[(1, .lf (.ptr 0 0 0 0)), (42, B true)], [bx [.v (.int .i64) a0.1, .v .str a0.2.1, .v (.int .i64) a0.2.2.1, .v (.int .i64) a0.2.2.2.1, .v (.int .i64) a0.2.2.2.2.1, .v .bool a0.2.2.2.2.2.1, .v (.sl (.int .i64)) a0.2.2.2.2.2.2] 44]⟩ (tn 9) ?_
        refine VW.cond (b := true) (by kernel_rfl) (fun _ => ?_) (fun h' => nomatch h')
        refine sR T_ok [2] [] ⟨[(2, B false)], []⟩ (tn 1) ?_
        refine VW.ret ?_
        replace h := Option.some.inj h
        subst h
        exact rt []
      refine sG T_ok 3 [1, 33, 36] [0] ⟨[(1, .lf (.ptr 0 0 0 0)), (33, B false), (36, B a0.2.2.2.2.2.1)], [bx [.v (.int .i64) a0.1, .v .str a0.2.1, .v (.int .i64) a0.2.2.1, .v (.int .i64) a0.2.2.2.1, .v (.int .i64) a0.2.2.2.2.1, .v .bool a0.2.2.2.2.2.1, .v (.sl (.int .i64)) a0.2.2.2.2.2.2] 44]⟩ (tn 3) ?_
      refine spB 36 h (fun h => ?_) (fun h => ?_)
      · refine sG T_ok 2 [1, 33, 36, 38] [0] ⟨[(1, .lf (.ptr 0 0 0 0)), (33, B false), (36, B true), (38, I a0.2.2.2.2.1)], [bx [.v (.int .i64) a0.1, .v .str a0.2.1, .v (.int .i64) a0.2.2.1, .v (.int .i64) a0.2.2.2.1, .v (.int .i64) a0.2.2.2.2.1, .v .bool a0.2.2.2.2.2.1, .v (.sl (.int .i64)) a0.2.2.2.2.2.2] 44]⟩ (tn 2) ?_
        refine VO.on (j := 32) (want := true) (d := 36) (b := true) rfl rfl rfl (by kernel_rfl) rfl ?_
        obtain ⟨y104, hy, h⟩ := andO_some h
        refine cal false [.t (.int .i64), .t (.int .i64), .t (.int .i64)] [] (some 39) T_ok (ok36 N _ _ _ hy) ?_
        refine sN T_ok [1, 42] [0] ⟨[(1, .lf (.ptr 0 0 0 0)), (42, B (!y104))], [bx [.v (.int .i64) a0.1, .v .str a0.2.1, .v (.int .i64) a0.2.2.1, .v (.int .i64) a0.2.2.2.1, .v (.int .i64) a0.2.2.2.2.1, .v .bool a0.2.2.2.2.2.1, .v (.sl (.int .i64)) a0.2.2.2.2.2.2] 44]⟩ (tn 3) ?_
        refine cnd h (fun h => ?_) (fun h => ?_)
        · refine sR T_ok [2] [] ⟨[(2, B false)], []⟩ (tn 1) ?_
          refine VW.ret ?_
          replace h := Option.some.inj h
          subst h
          exact rt []
        refine VW.skip ?_
        exact arv [.ren [1] [0]] ⟨a0.1, a0.2.1, a0.2.2.1, a0.2.2.2.1, a0.2.2.2.2.1, a0.2.2.2.2.2.1, a0.2.2.2.2.2.2, rfl, h⟩
      refine sN T_ok [1, 42] [0] ⟨[(1, .lf (.ptr 0 0 0 0)), (42, B false)], [bx [.v (.int .i64) a0.1, .v .str a0.2.1, .v (.int .i64) a0.2.2.1, .v (.int .i64) a0.2.2.2.1, .v (.int .i64) a0.2.2.2.2.1, .v .bool a0.2.2.2.2.2.1, .v (.sl (.int .i64)) a0.2.2.2.2.2.2] 44]⟩ (tn 6) ?_
      refine VW.cond (b := false) (by kernel_rfl) (fun h' => nomatch h') (fun _ => ?_)
      refine VW.skip ?_
      exact arv [.ren [1] [0]] ⟨a0.1, a0.2.1, a0.2.2.1, a0.2.2.2.1, a0.2.2.2.2.1, a0.2.2.2.2.2.1, a0.2.2.2.2.2.2, rfl, h⟩
    refine sG T_ok 9 [1, 33, 36] [0] ⟨[(1, .lf (.ptr 0 0 0 0)), (33, B false), (36, B a0.2.2.2.2.2.1)], [bx [.v (.int .i64) a0.1, .v .str a0.2.1, .v (.int .i64) a0.2.2.1, .v (.int .i64) a0.2.2.2.1, .v (.int .i64) a0.2.2.2.2.1, .v .bool a0.2.2.2.2.2.1, .v (.sl (.int .i64)) a0.2.2.2.2.2.2] 44]⟩ (tn 9) ?_
    refine spB 36 h (fun h => ?_) (fun h => ?_)
    · refine sG T_ok 2 [1, 33, 36, 38] [0] ⟨[(1, .lf (.ptr 0 0 0 0)), (33, B false), (36, B true), (38, I a0.2.2.2.2.1)], [bx [.v (.int .i64) a0.1, .v .str a0.2.1, .v (.int .i64) a0.2.2.1, .v (.int .i64) a0.2.2.2.1, .v (.int .i64) a0.2.2.2.2.1, .v .bool a0.2.2.2.2.2.1, .v (.sl (.int .i64)) a0.2.2.2.2.2.2] 44]⟩ (tn 2) ?_
      refine VO.on (j := 32) (want := true) (d := 36) (b := true) rfl rfl rfl (by kernel_rfl) rfl ?_
      obtain ⟨y105, hy, h⟩ := andO_some h
      refine cal false [.t (.int .i64), .t (.int .i64), .t (.int .i64)] [] (some 39) T_ok (ok36 N _ _ _ hy) ?_
      refine sN T_ok [1, 42] [0] ⟨[(1, .lf (.ptr 0 0 0 0)), (42, B (!y105))], [bx [.v (.int .i64) a0.1, .v .str a0.2.1, .v (.int .i64) a0.2.2.1, .v (.int .i64) a0.2.2.2.1, .v (.int .i64) a0.2.2.2.2.1, .v .bool a0.2.2.2.2.2.1, .v (.sl (.int .i64)) a0.2.2.2.2.2.2] 44]⟩ (tn 3) ?_
      refine cnd h (fun h => ?_) (fun h => ?_)
      · refine sR T_ok [2] [] ⟨[(2, B false)], []⟩ (tn 1) ?_
        refine VW.ret ?_
        replace h := Option.some.inj h
        subst h
        exact rt []
      refine VW.skip ?_
      exact arv [.ren [1] [0]] ⟨a0.1, a0.2.1, a0.2.2.1, a0.2.2.2.1, a0.2.2.2.2.1, a0.2.2.2.2.2.1, a0.2.2.2.2.2.2, rfl, h⟩
    refine sN T_ok [1, 42] [0] ⟨[(1, .lf (.ptr 0 0 0 0)), (42, B false)], [bx [.v (.int .i64) a0.1, .v .str a0.2.1, .v (.int .i64) a0.2.2.1, .v (.int .i64) a0.2.2.2.1, .v (.int .i64) a0.2.2.2.2.1, .v .bool a0.2.2.2.2.2.1, .v (.sl (.int .i64)) a0.2.2.2.2.2.2] 44]⟩ (tn 6) ?_
    refine VW.cond (b := false) (by kernel_rfl) (fun h' => nomatch h') (fun _ => ?_)
    refine VW.skip ?_
    exact arv [.ren [1] [0]] ⟨a0.1, a0.2.1, a0.2.2.1, a0.2.2.2.1, a0.2.2.2.2.1, a0.2.2.2.2.2.1, a0.2.2.2.2.2.2, rfl, h⟩
  rintro s ⟨x9, x10, x11, x12, x13, x14, x15, rfl, h⟩
  unfold F37_j3 at h
  refine VW.join (fun s => s = ⟨[], []⟩ ∧ F37_j0 N = some r) ?_ ?_
  · refine sR T_ok [1, 44] [0] ⟨[(1, .lf (.ptr 0 0 0 0)), (44, I x9)], [bx [.v (.int .i64) x9, .v .str x10, .v (.int .i64) x11, .v (.int .i64) x12, .v (.int .i64) x13, .v .bool x14, .v (.sl (.int .i64)) x15] 44]⟩ (tn 2) ?_
    refine VW.block ?_
    refine sR T_ok [1, 44, 45] [0] ⟨[(1, .lf (.ptr 0 0 0 0)), (44, I x9), (45, B (x9 == (0 : Int)))], [bx [.v (.int .i64) x9, .v .str x10, .v (.int .i64) x11, .v (.int .i64) x12, .v (.int .i64) x13, .v .bool x14, .v (.sl (.int .i64)) x15] 44]⟩ (tn 2) ?_
    refine cnd h (fun h => ?_) (fun h => ?_)
    · refine VW.seq ?_
      refine VW.region ?_
      refine sG T_ok 2 [1, 48] [0] ⟨[(1, .lf (.ptr 0 0 0 0)), (48, S x10)], [bx [.v (.int .i64) x9, .v .str x10, .v (.int .i64) x11, .v (.int .i64) x12, .v (.int .i64) x13, .v .bool x14, .v (.sl (.int .i64)) x15] 44]⟩ (tn 2) ?_
      obtain ⟨y57, hy, h⟩ := andO_some h
      refine cal false [.t .str] [] (some 49) T_ok (ok48 N _ hy) ?_
      refine sG T_ok 1 [1, 50] [0] ⟨[(1, .lf (.ptr 0 0 0 0)), (50, B y57)], [bx [.v (.int .i64) x9, .v .str x10, .v (.int .i64) x11, .v (.int .i64) x12, .v (.int .i64) x13, .v .bool x14, .v (.sl (.int .i64)) x15] 44]⟩ (tn 1) ?_
      refine spB 50 h (fun h => ?_) (fun h => ?_)
      · refine sG T_ok 5 [1, 55] [0] ⟨[(1, .lf (.ptr 0 0 0 0)), (55, B (x11 == (0 : Int)))], [bx [.v (.int .i64) x9, .v .str x10, .v (.int .i64) x11, .v (.int .i64) x12, .v (.int .i64) x13, .v .bool x14, .v (.sl (.int .i64)) x15] 44]⟩ (tn 5) ?_
        refine spB 55 h (fun h => ?_) (fun h => ?_)
        · refine sG T_ok 5 [1, 60] [0] ⟨[(1, .lf (.ptr 0 0 0 0)), (60, B (x13 == (0 : Int)))], [bx [.v (.int .i64) x9, .v .str x10, .v (.int .i64) x11, .v (.int .i64) x12, .v (.int .i64) x13, .v .bool x14, .v (.sl (.int .i64)) x15] 44]⟩ (tn 5) ?_
          refine spB 60 h (fun h => ?_) (fun h => ?_)
          · refine sN T_ok [2] [] ⟨[(2, B (!x14))], []⟩ (tn 5) ?_
            refine VW.ret ?_
            replace h := Option.some.inj h
            subst h
            exact rt []
          refine sN T_ok [2] [] ⟨[(2, B false)], []⟩ (tn 5) ?_
          refine VW.ret ?_
          replace h := Option.some.inj h
          subst h
          exact rt []
        refine sN T_ok [2] [] ⟨[(2, B false)], []⟩ (tn 10) ?_
        refine VW.ret ?_
        replace h := Option.some.inj h
        subst h
        exact rt []
      refine sN T_ok [2] [] ⟨[(2, B false)], []⟩ (tn 15) ?_
      refine VW.ret ?_
      replace h := Option.some.inj h
      subst h
      exact rt []
    refine sR T_ok [1, 44, 65] [0] ⟨[(1, .lf (.ptr 0 0 0 0)), (44, I x9), (65, B (x9 == (1 : Int)))], [bx [.v (.int .i64) x9, .v .str x10, .v (.int .i64) x11, .v (.int .i64) x12, .v (.int .i64) x13, .v .bool x14, .v (.sl (.int .i64)) x15] 44]⟩ (tn 2) ?_
    refine cnd h (fun h => ?_) (fun h => ?_)
    · refine VW.seq ?_
      refine VW.region ?_
      refine sG T_ok 2 [1, 68] [0] ⟨[(1, .lf (.ptr 0 0 0 0)), (68, I x11)], [bx [.v (.int .i64) x9, .v .str x10, .v (.int .i64) x11, .v (.int .i64) x12, .v (.int .i64) x13, .v .bool x14, .v (.sl (.int .i64)) x15] 44]⟩ (tn 2) ?_
      obtain ⟨y58, hy, h⟩ := andO_some h
      refine cal false [.t (.int .i64)] [] (some 69) T_ok (ok49 N _ hy) ?_
      refine sG T_ok 1 [1, 70] [0] ⟨[(1, .lf (.ptr 0 0 0 0)), (70, B y58)], [bx [.v (.int .i64) x9, .v .str x10, .v (.int .i64) x11, .v (.int .i64) x12, .v (.int .i64) x13, .v .bool x14, .v (.sl (.int .i64)) x15] 44]⟩ (tn 1) ?_
      refine spB 70 h (fun h => ?_) (fun h => ?_)
      · refine sG T_ok 2 [1, 70, 72] [0] ⟨[(1, .lf (.ptr 0 0 0 0)), (70, B true), (72, I x12)], [bx [.v (.int .i64) x9, .v .str x10, .v (.int .i64) x11, .v (.int .i64) x12, .v (.int .i64) x13, .v .bool x14, .v (.sl (.int .i64)) x15] 44]⟩ (tn 2) ?_
        refine VO.on (j := 3) (want := true) (d := 70) (b := true) rfl rfl rfl (by kernel_rfl) rfl ?_
        obtain ⟨y59, hy, h⟩ := andO_some h
        refine cal false [.t (.int .i64), .t (.int .i64), .t (.int .i64)] [] (some 73) T_ok (ok36 N _ _ _ hy) ?_
        refine sG T_ok 2 [1, 75] [0] ⟨[(1, .lf (.ptr 0 0 0 0)), (75, B y59)], [bx [.v (.int .i64) x9, .v .str x10, .v (.int .i64) x11, .v (.int .i64) x12, .v (.int .i64) x13, .v .bool x14, .v (.sl (.int .i64)) x15] 44]⟩ (tn 2) ?_
        refine spB 75 h (fun h => ?_) (fun h => ?_)
        · refine sG T_ok 2 [1, 75, 77] [0] ⟨[(1, .lf (.ptr 0 0 0 0)), (75, B true), (77, I x13)], [bx [.v (.int .i64) x9, .v .str x10, .v (.int .i64) x11, .v (.int .i64) x12, .v (.int .i64) x13, .v .bool x14, .v (.sl (.int .i64)) x15] 44]⟩ (tn 2) ?_
          refine VO.on (j := 8) (want := true) (d := 75) (b := true) rfl rfl rfl (by kernel_rfl) rfl ?_
          obtain ⟨y60, hy, h⟩ := andO_some h
          refine cal false [.t (.int .i64)] [] (some 78) T_ok (ok50 N _ hy) ?_
          refine sG T_ok 2 [1, 80] [0] ⟨[(1, .lf (.ptr 0 0 0 0)), (80, B y60)], [bx [.v (.int .i64) x9, .v .str x10, .v (.int .i64) x11, .v (.int .i64) x12, .v (.int .i64) x13, .v .bool x14, .v (.sl (.int .i64)) x15] 44]⟩ (tn 2) ?_
          refine spB 80 h (fun h => ?_) (fun h => ?_)
          · refine sG T_ok 4 [1, 80, 84] [0] ⟨[(1, .lf (.ptr 0 0 0 0)), (80, B true), (84, B (x12 != (3 : Int)))], [bx [.v (.int .i64) x9, .v .str x10, .v (.int .i64) x11, .v (.int .i64) x12, .v (.int .i64) x13, .v .bool x14, .v (.sl (.int .i64)) x15] 44]⟩ (tn 4) ?_
            refine spB 84 h (fun h => ?_) (fun h => ?_)
            · refine sN T_ok [2] [] ⟨[(2, B true)], []⟩ (tn 11) ?_
              refine VW.ret ?_
              replace h := Option.some.inj h
              subst h
              exact rt []
            refine sG T_ok 4 [1, 80, 84, 88] [0] ⟨[(1, .lf (.ptr 0 0 0 0)), (80, B true), (84, B false), (88, B (x13 == (0 : Int)))], [bx [.v (.int .i64) x9, .v .str x10, .v (.int .i64) x11, .v (.int .i64) x12, .v (.int .i64) x13, .v .bool x14, .v (.sl (.int .i64)) x15] 44]⟩ (tn 4) ?_
            refine spB 88 h (fun h => ?_) (fun h => ?_)
            · refine sN T_ok [2] [] ⟨[(2, B (!x14))], []⟩ (tn 7) ?_
              refine VW.ret ?_
              replace h := Option.some.inj h
              subst h
              exact rt []
            refine sN T_ok [2] [] ⟨[(2, B false)], []⟩ (tn 7) ?_
            refine VW.ret ?_
            replace h := Option.some.inj h
            subst h
            exact rt []
          refine sN T_ok [2] [] ⟨[(2, B false)], []⟩ (tn 15) ?_
          refine VW.ret ?_
          replace h := Option.some.inj h
          subst h
          exact rt []
        refine sN T_ok [2] [] ⟨[(2, B false)], []⟩ (tn 20) ?_
        refine VW.ret ?_
        replace h := Option.some.inj h
        subst h
        exact rt []
      refine sN T_ok [2] [] ⟨[(2, B false)], []⟩ (tn 25) ?_
      refine VW.ret ?_
      replace h := Option.some.inj h
      subst h
      exact rt []
    refine sR T_ok [1, 44, 95] [0] ⟨[(1, .lf (.ptr 0 0 0 0)), (44, I x9), (95, B (x9 == (2 : Int)))], [bx [.v (.int .i64) x9, .v .str x10, .v (.int .i64) x11, .v (.int .i64) x12, .v (.int .i64) x13, .v .bool x14, .v (.sl (.int .i64)) x15] 44]⟩ (tn 2) ?_
    refine cnd h (fun h => ?_) (fun h => ?_)
    · refine VW.join (fun s => s = ⟨[(1, .lf (.ptr 0 0 0 0))], [bx [.v (.int .i64) x9, .v .str x10, .v (.int .i64) x11, .v (.int .i64) x12, .v (.int .i64) x13, .v .bool x14, .v (.sl (.int .i64)) x15] 44]⟩ ∧ F37_j1 N x11 x13 x14 x15 = some r) ?_ ?_
      · refine sR T_ok [1, 3] [0] ⟨[(1, .lf (.ptr 0 0 0 0)), (3, I (0 : Int))], [bx [.v (.int .i64) x9, .v .str x10, .v (.int .i64) x11, .v (.int .i64) x12, .v (.int .i64) x13, .v .bool x14, .v (.sl (.int .i64)) x15] 44]⟩ (tn 1) ?_
        refine VW.block ?_
        refine lop (fun k s => ∃ (x81 : Int), s = ⟨[(1, .lf (.ptr 0 0 0 0)), (3, I x81)], [bx [.v (.int .i64) x9, .v .str x10, .v (.int .i64) x11, .v (.int .i64) x12, .v (.int .i64) x13, .v .bool x14, .v (.sl (.int .i64)) x15] 44]⟩ ∧ F37_l0 N x11 x13 x14 x15 k x81 = some r) N [.ren [1, 3] [0]] ⟨(0 : Int), rfl, h⟩ ?_
        rintro k86 s ⟨x81, rfl, h⟩
        cases k86 with
        | zero => cases show none = some r from h
        | succ k86 =>
          replace h : F37_l0_b N x11 x13 x14 x15 (F37_l0 N x11 x13 x14 x15 k86) x81 = some r := h
          unfold F37_l0_b at h
          refine VW.seq ?_
          refine sR T_ok [1, 3, 101] [0] ⟨[(1, .lf (.ptr 0 0 0 0)), (3, I x81), (101, B (decide (x81 < (x15.length : Int))))], [bx [.v (.int .i64) x9, .v .str x10, .v (.int .i64) x11, .v (.int .i64) x12, .v (.int .i64) x13, .v .bool x14, .v (.sl (.int .i64)) x15] 44]⟩ (tn 5) ?_
          refine cnd h (fun h => ?_) (fun h => ?_)
          · refine VW.skip ?_
            refine VW.seq ?_
            refine VW.block ?_
            refine VW.seq ?_
            refine VW.region ?_
            obtain ⟨g89, h⟩ := gd_some h
            refine sG T_ok 5 [1, 3, 108] [0] ⟨[(1, .lf (.ptr 0 0 0 0)), (3, I x81), (108, I (x15.getD x81.toNat (Ty.dflt (.int .i64))))], [bx [.v (.int .i64) x9, .v .str x10, .v (.int .i64) x11, .v (.int .i64) x12, .v (.int .i64) x13, .v .bool x14, .v (.sl (.int .i64)) x15] 44]⟩ (pu 3 (an g89 (tn 1))) ?_
            obtain ⟨y90, hy, h⟩ := andO_some h
            refine cal false [.t (.int .i64)] [] (some 109) T_ok (ok49 N _ hy) ?_
            refine sN T_ok [1, 3, 110] [0] ⟨[(1, .lf (.ptr 0 0 0 0)), (3, I x81), (110, B (!y90))], [bx [.v (.int .i64) x9, .v .str x10, .v (.int .i64) x11, .v (.int .i64) x12, .v (.int .i64) x13, .v .bool x14, .v (.sl (.int .i64)) x15] 44]⟩ (tn 1) ?_
            refine cnd h (fun h => ?_) (fun h => ?_)
            · refine sR T_ok [2] [] ⟨[(2, B false)], []⟩ (tn 1) ?_
              refine VW.ret ?_
              replace h := Option.some.inj h
              subst h
              exact rt []
            refine VW.skip ?_
            refine rR T_ok [1, 3] [0] ⟨[(1, .lf (.ptr 0 0 0 0)), (3, I (IntKind.i64.wrap (x81 + (1 : Int))))], [bx [.v (.int .i64) x9, .v .str x10, .v (.int .i64) x11, .v (.int .i64) x12, .v (.int .i64) x13, .v .bool x14, .v (.sl (.int .i64)) x15] 44]⟩ (tn 3) ?_
            exact aro [.ren [1, 3] [0]] ⟨(IntKind.i64.wrap (x81 + (1 : Int))), rfl, h⟩
          refine VW.exit ?_
          exact arv [.ren [1] [0]] ⟨rfl, h⟩
      rintro s ⟨rfl, h⟩
      unfold F37_j1 at h
      refine VW.seq ?_
      refine VW.region ?_
      refine sG T_ok 3 [1, 113] [0] ⟨[(1, .lf (.ptr 0 0 0 0)), (113, I (x15.length : Int))], [bx [.v (.int .i64) x9, .v .str x10, .v (.int .i64) x11, .v (.int .i64) x12, .v (.int .i64) x13, .v .bool x14, .v (.sl (.int .i64)) x15] 44]⟩ (tn 3) ?_
      obtain ⟨y75, hy, h⟩ := andO_some h
      refine cal false [.t (.int .i64), .t (.int .i64), .t (.int .i64)] [] (some 114) T_ok (ok36 N _ _ _ hy) ?_
      refine sG T_ok 1 [1, 115] [0] ⟨[(1, .lf (.ptr 0 0 0 0)), (115, B y75)], [bx [.v (.int .i64) x9, .v .str x10, .v (.int .i64) x11, .v (.int .i64) x12, .v (.int .i64) x13, .v .bool x14, .v (.sl (.int .i64)) x15] 44]⟩ (tn 1) ?_
      refine spB 115 h (fun h => ?_) (fun h => ?_)
      · refine sG T_ok 5 [1, 120] [0] ⟨[(1, .lf (.ptr 0 0 0 0)), (120, B (x11 == (0 : Int)))], [bx [.v (.int .i64) x9, .v .str x10, .v (.int .i64) x11, .v (.int .i64) x12, .v (.int .i64) x13, .v .bool x14, .v (.sl (.int .i64)) x15] 44]⟩ (tn 5) ?_
        refine spB 120 h (fun h => ?_) (fun h => ?_)
        · refine sG T_ok 5 [1, 125] [0] ⟨[(1, .lf (.ptr 0 0 0 0)), (125, B (x13 == (0 : Int)))], [bx [.v (.int .i64) x9, .v .str x10, .v (.int .i64) x11, .v (.int .i64) x12, .v (.int .i64) x13, .v .bool x14, .v (.sl (.int .i64)) x15] 44]⟩ (tn 5) ?_
          refine spB 125 h (fun h => ?_) (fun h => ?_)
          · refine sN T_ok [2] [] ⟨[(2, B (!x14))], []⟩ (tn 5) ?_
            refine VW.ret ?_
            replace h := Option.some.inj h
            subst h
            exact rt []
          refine sN T_ok [2] [] ⟨[(2, B false)], []⟩ (tn 5) ?_
          refine VW.ret ?_
          replace h := Option.some.inj h
          subst h
          exact rt []
        refine sN T_ok [2] [] ⟨[(2, B false)], []⟩ (tn 10) ?_
        refine VW.ret ?_
        replace h := Option.some.inj h
        subst h
        exact rt []
      refine sN T_ok [2] [] ⟨[(2, B false)], []⟩ (tn 15) ?_
      refine VW.ret ?_
      replace h := Option.some.inj h
      subst h
      exact rt []
    refine sR T_ok [1, 44, 130] [0] ⟨[(1, .lf (.ptr 0 0 0 0)), (44, I x9), (130, B (x9 == (3 : Int)))], [bx [.v (.int .i64) x9, .v .str x10, .v (.int .i64) x11, .v (.int .i64) x12, .v (.int .i64) x13, .v .bool x14, .v (.sl (.int .i64)) x15] 44]⟩ (tn 2) ?_
    refine cnd h (fun h => ?_) (fun h => ?_)
    · refine VW.seq ?_
      refine VW.region ?_
      refine sG T_ok 2 [1, 133] [0] ⟨[(1, .lf (.ptr 0 0 0 0)), (133, I x11)], [bx [.v (.int .i64) x9, .v .str x10, .v (.int .i64) x11, .v (.int .i64) x12, .v (.int .i64) x13, .v .bool x14, .v (.sl (.int .i64)) x15] 44]⟩ (tn 2) ?_
      obtain ⟨y91, hy, h⟩ := andO_some h
      refine cal false [.t (.int .i64)] [] (some 134) T_ok (ok49 N _ hy) ?_
      refine sG T_ok 1 [1, 135] [0] ⟨[(1, .lf (.ptr 0 0 0 0)), (135, B y91)], [bx [.v (.int .i64) x9, .v .str x10, .v (.int .i64) x11, .v (.int .i64) x12, .v (.int .i64) x13, .v .bool x14, .v (.sl (.int .i64)) x15] 44]⟩ (tn 1) ?_
      refine spB 135 h (fun h => ?_) (fun h => ?_)
      · refine sG T_ok 2 [1, 135, 137] [0] ⟨[(1, .lf (.ptr 0 0 0 0)), (135, B true), (137, I x13)], [bx [.v (.int .i64) x9, .v .str x10, .v (.int .i64) x11, .v (.int .i64) x12, .v (.int .i64) x13, .v .bool x14, .v (.sl (.int .i64)) x15] 44]⟩ (tn 2) ?_
        refine VO.on (j := 3) (want := true) (d := 135) (b := true) rfl rfl rfl (by kernel_rfl) rfl ?_
        obtain ⟨y92, hy, h⟩ := andO_some h
        refine cal false [.t (.int .i64)] [] (some 138) T_ok (ok49 N _ hy) ?_
        refine sG T_ok 2 [1, 140] [0] ⟨[(1, .lf (.ptr 0 0 0 0)), (140, B y92)], [bx [.v (.int .i64) x9, .v .str x10, .v (.int .i64) x11, .v (.int .i64) x12, .v (.int .i64) x13, .v .bool x14, .v (.sl (.int .i64)) x15] 44]⟩ (tn 2) ?_
        refine spB 140 h (fun h => ?_) (fun h => ?_)
        · refine sN T_ok [2] [] ⟨[(2, B (!x14))], []⟩ (tn 5) ?_
          refine VW.ret ?_
          replace h := Option.some.inj h
          subst h
          exact rt []
        refine sN T_ok [2] [] ⟨[(2, B false)], []⟩ (tn 5) ?_
        refine VW.ret ?_
        replace h := Option.some.inj h
        subst h
        exact rt []
      refine sN T_ok [2] [] ⟨[(2, B false)], []⟩ (tn 10) ?_
      refine VW.ret ?_
      replace h := Option.some.inj h
      subst h
      exact rt []
    refine sR T_ok [1, 44, 145] [0] ⟨[(1, .lf (.ptr 0 0 0 0)), (44, I x9), (145, B (x9 == (5 : Int)))], [bx [.v (.int .i64) x9, .v .str x10, .v (.int .i64) x11, .v (.int .i64) x12, .v (.int .i64) x13, .v .bool x14, .v (.sl (.int .i64)) x15] 44]⟩ (tn 2) ?_
    refine cnd h (fun h => ?_) (fun h => ?_)
    · refine VW.seq ?_
      refine VW.region ?_
      refine sG T_ok 2 [1, 148] [0] ⟨[(1, .lf (.ptr 0 0 0 0)), (148, I x11)], [bx [.v (.int .i64) x9, .v .str x10, .v (.int .i64) x11, .v (.int .i64) x12, .v (.int .i64) x13, .v .bool x14, .v (.sl (.int .i64)) x15] 44]⟩ (tn 2) ?_
      obtain ⟨y93, hy, h⟩ := andO_some h
      refine cal false [.t (.int .i64)] [] (some 149) T_ok (ok49 N _ hy) ?_
      refine sG T_ok 1 [1, 150] [0] ⟨[(1, .lf (.ptr 0 0 0 0)), (150, B y93)], [bx [.v (.int .i64) x9, .v .str x10, .v (.int .i64) x11, .v (.int .i64) x12, .v (.int .i64) x13, .v .bool x14, .v (.sl (.int .i64)) x15] 44]⟩ (tn 1) ?_
      refine spB 150 h (fun h => ?_) (fun h => ?_)
      · refine sG T_ok 5 [1, 155] [0] ⟨[(1, .lf (.ptr 0 0 0 0)), (155, B (x13 == (0 : Int)))], [bx [.v (.int .i64) x9, .v .str x10, .v (.int .i64) x11, .v (.int .i64) x12, .v (.int .i64) x13, .v .bool x14, .v (.sl (.int .i64)) x15] 44]⟩ (tn 5) ?_
        refine spB 155 h (fun h => ?_) (fun h => ?_)
        · refine sN T_ok [2] [] ⟨[(2, B (!x14))], []⟩ (tn 5) ?_
          refine VW.ret ?_
          replace h := Option.some.inj h
          subst h
          exact rt []
        refine sN T_ok [2] [] ⟨[(2, B false)], []⟩ (tn 5) ?_
        refine VW.ret ?_
        replace h := Option.some.inj h
        subst h
        exact rt []
      refine sN T_ok [2] [] ⟨[(2, B false)], []⟩ (tn 10) ?_
      refine VW.ret ?_
      replace h := Option.some.inj h
      subst h
      exact rt []
    refine sR T_ok [1, 44, 160] [0] ⟨[(1, .lf (.ptr 0 0 0 0)), (44, I x9), (160, B (x9 == (6 : Int)))], [bx [.v (.int .i64) x9, .v .str x10, .v (.int .i64) x11, .v (.int .i64) x12, .v (.int .i64) x13, .v .bool x14, .v (.sl (.int .i64)) x15] 44]⟩ (tn 2) ?_
    refine cnd h (fun h => ?_) (fun h => ?_)
    · refine VW.seq ?_
      refine VW.region ?_
      refine sG T_ok 4 [1, 165] [0] ⟨[(1, .lf (.ptr 0 0 0 0)), (165, B (x11 == (0 : Int)))], [bx [.v (.int .i64) x9, .v .str x10, .v (.int .i64) x11, .v (.int .i64) x12, .v (.int .i64) x13, .v .bool x14, .v (.sl (.int .i64)) x15] 44]⟩ (tn 4) ?_
      refine spB 165 h (fun h => ?_) (fun h => ?_)
      · refine sG T_ok 2 [165, 167] [] ⟨[(165, B true), (167, I x13)], []⟩ (tn 2) ?_
        refine VO.on (j := 3) (want := true) (d := 165) (b := true) rfl rfl rfl (by kernel_rfl) rfl ?_
        obtain ⟨y94, hy, h⟩ := andO_some h
        refine cal false [.t (.int .i64), .t (.int .i64), .t (.int .i64)] [] (some 168) T_ok (ok36 N _ _ _ hy) ?_
        refine sN T_ok [2] [] ⟨[(2, B y94)], []⟩ (tn 2) ?_
        refine VW.ret ?_
        replace h := Option.some.inj h
        subst h
        exact rt []
      refine sN T_ok [2] [] ⟨[(2, B false)], []⟩ (tn 5) ?_
      refine VW.ret ?_
      replace h := Option.some.inj h
      subst h
      exact rt []
    refine VW.join (fun s => ∃ (x95 : Bool), s = ⟨[(1, .lf (.ptr 0 0 0 0)), (170, B x95)], [bx [.v (.int .i64) x9, .v .str x10, .v (.int .i64) x11, .v (.int .i64) x12, .v (.int .i64) x13, .v .bool x14, .v (.sl (.int .i64)) x15] 44]⟩ ∧ F37_j2 N x11 x13 x14 x95 = some r) ?_ ?_
    · refine sR T_ok [1, 44, 170] [0] ⟨[(1, .lf (.ptr 0 0 0 0)), (44, I x9), (170, B (x9 == (4 : Int)))], [bx [.v (.int .i64) x9, .v .str x10, .v (.int .i64) x11, .v (.int .i64) x12, .v (.int .i64) x13, .v .bool x14, .v (.sl (.int .i64)) x15] 44]⟩ (tn 2) ?_
      refine cnd h (fun h => ?_) (fun h => ?_)
      · refine VW.skip ?_
        exact arv [.ren [1, 170] [0]] ⟨(x9 == (4 : Int)), rfl, h⟩
      refine rR T_ok [1, 170] [0] ⟨[(1, .lf (.ptr 0 0 0 0)), (170, B (x9 == (7 : Int)))], [bx [.v (.int .i64) x9, .v .str x10, .v (.int .i64) x11, .v (.int .i64) x12, .v (.int .i64) x13, .v .bool x14, .v (.sl (.int .i64)) x15] 44]⟩ (tn 2) ?_
      exact arv [.ren [1, 170] [0]] ⟨(x9 == (7 : Int)), rfl, h⟩
    rintro s ⟨x95, rfl, h⟩
    unfold F37_j2 at h
    refine cnd h (fun h => ?_) (fun h => ?_)
    · refine VW.seq ?_
      refine VW.region ?_
      refine sG T_ok 4 [1, 176] [0] ⟨[(1, .lf (.ptr 0 0 0 0)), (176, B (x11 == (0 : Int)))], [bx [.v (.int .i64) x9, .v .str x10, .v (.int .i64) x11, .v (.int .i64) x12, .v (.int .i64) x13, .v .bool x14, .v (.sl (.int .i64)) x15] 44]⟩ (tn 4) ?_
      refine spB 176 h (fun h => ?_) (fun h => ?_)
      · refine sG T_ok 5 [1, 181] [0] ⟨[(1, .lf (.ptr 0 0 0 0)), (181, B (x13 == (0 : Int)))], [bx [.v (.int .i64) x9, .v .str x10, .v (.int .i64) x11, .v (.int .i64) x12, .v (.int .i64) x13, .v .bool x14, .v (.sl (.int .i64)) x15] 44]⟩ (tn 5) ?_
        refine spB 181 h (fun h => ?_) (fun h => ?_)
        · refine sN T_ok [2] [] ⟨[(2, B (!x14))], []⟩ (tn 5) ?_
          refine VW.ret ?_
          replace h := Option.some.inj h
          subst h
          exact rt []
        refine sN T_ok [2] [] ⟨[(2, B false)], []⟩ (tn 5) ?_
        refine VW.ret ?_
        replace h := Option.some.inj h
        subst h
        exact rt []
      refine sN T_ok [2] [] ⟨[(2, B false)], []⟩ (tn 10) ?_
      refine VW.ret ?_
      replace h := Option.some.inj h
      subst h
      exact rt []
    refine VW.skip ?_
    exact arv [.ren [] []] ⟨rfl, h⟩
  rintro s ⟨rfl, h⟩
  unfold F37_j0 at h
  refine sR T_ok [2] [] ⟨[(2, B false)], []⟩ (tn 1) ?_
  refine VW.ret ?_
  replace h := Option.some.inj h
  subst h
  exact rt []

/- loop.example/g00844/spec.ArityOf -/
def F51_j0 (N : Nat) (x6 : Bool) : Option (Int) :=
  cond x6 (some (1 : Int)) (some (-1 : Int))
def F51_j1 (N : Nat) (a0 : Int) (x5 : Bool) : Option (Int) :=
  cond x5 (some (2 : Int)) (cond (a0 == (1 : Int)) (F51_j0 N (a0 == (1 : Int))) (cond (a0 == (2 : Int)) (F51_j0 N (a0 == (2 : Int))) (cond (a0 == (5 : Int)) (F51_j0 N (a0 == (5 : Int))) (cond (a0 == (6 : Int)) (F51_j0 N (a0 == (6 : Int))) (F51_j0 N (a0 == (7 : Int)))))))
def F51 (N : Nat) (a0 : Int) : Option (Int) :=
  cond (a0 == (0 : Int)) (some (0 : Int)) (cond (a0 == (3 : Int)) (F51_j1 N a0 (a0 == (3 : Int))) (F51_j1 N a0 (a0 == (4 : Int))))
theorem ok51 (N : Nat) (a0 : Int) {r : Int} (h : F51 N a0 = some r) : Con Go.Proofs.Try.prog 51 [I a0] [.lf (.v (.int .i64) r)] := by
  refine ctr [.lf (.v (.int .i64))] T_ok Go.Proofs.Try.func51 rfl fun w0 E0 => ?_
  unfold F51 at h
  show VW _ _ _ _ _ (retQ _ _ _ _) _
  refine sR T_ok [0] [] ⟨[(0, I a0)], []⟩ (tn 1) ?_
  refine VW.seq ?_
  refine sR T_ok [3] [] ⟨[(3, I a0)], []⟩ (tn 1) ?_
  refine VW.block ?_
  refine sR T_ok [3, 4] [] ⟨[(3, I a0), (4, B (a0 == (0 : Int)))], []⟩ (tn 2) ?_
  refine cnd h (fun h => ?_) (fun h => ?_)
  · refine sR T_ok [2] [] ⟨[(2, I (0 : Int))], []⟩ (tn 1) ?_
    refine VW.ret ?_
    replace h := Option.some.inj h
    subst h
    exact rt []
  refine VW.join (fun s => ∃ (x5 : Bool), s = ⟨[(3, I a0), (6, B x5)], []⟩ ∧ F51_j1 N a0 x5 = some r) ?_ ?_
  · refine sR T_ok [3, 6] [] ⟨[(3, I a0), (6, B (a0 == (3 : Int)))], []⟩ (tn 2) ?_
    refine cnd h (fun h => ?_) (fun h => ?_)
    · refine VW.skip ?_
      exact arv [.ren [3, 6] []] ⟨(a0 == (3 : Int)), rfl, h⟩
    refine rR T_ok [3, 6] [] ⟨[(3, I a0), (6, B (a0 == (4 : Int)))], []⟩ (tn 2) ?_
    exact arv [.ren [3, 6] []] ⟨(a0 == (4 : Int)), rfl, h⟩
  rintro s ⟨x5, rfl, h⟩
  unfold F51_j1 at h
  refine cnd h (fun h => ?_) (fun h => ?_)
  · refine sR T_ok [2] [] ⟨[(2, I (2 : Int))], []⟩ (tn 1) ?_
    refine VW.ret ?_
    replace h := Option.some.inj h
    subst h
    exact rt []
  refine VW.join (fun s => ∃ (x6 : Bool), s = ⟨[(9, B x6)], []⟩ ∧ F51_j0 N x6 = some r) ?_ ?_
  · refine sR T_ok [3, 9] [] ⟨[(3, I a0), (9, B (a0 == (1 : Int)))], []⟩ (tn 2) ?_
    refine cnd h (fun h => ?_) (fun h => ?_)
    · refine VW.skip ?_
      exact arv [.ren [9] []] ⟨(a0 == (1 : Int)), rfl, h⟩
    refine sR T_ok [3, 9] [] ⟨[(3, I a0), (9, B (a0 == (2 : Int)))], []⟩ (tn 2) ?_
    refine cnd h (fun h => ?_) (fun h => ?_)
    · refine VW.skip ?_
      exact arv [.ren [9] []] ⟨(a0 == (2 : Int)), rfl, h⟩
    refine sR T_ok [3, 9] [] ⟨[(3, I a0), (9, B (a0 == (5 : Int)))], []⟩ (tn 2) ?_
    refine cnd h (fun h => ?_) (fun h => ?_)
    · refine VW.skip ?_
      exact arv [.ren [9] []] ⟨(a0 == (5 : Int)), rfl, h⟩
    refine sR T_ok [3, 9] [] ⟨[(3, I a0), (9, B (a0 == (6 : Int)))], []⟩ (tn 2) ?_
    refine cnd h (fun h => ?_) (fun h => ?_)
    · refine VW.skip ?_
      exact arv [.ren [9] []] ⟨(a0 == (6 : Int)), rfl, h⟩
    refine rR T_ok [9] [] ⟨[(9, B (a0 == (7 : Int)))], []⟩ (tn 2) ?_
    exact arv [.ren [9] []] ⟨(a0 == (7 : Int)), rfl, h⟩
  rintro s ⟨x6, rfl, h⟩
  unfold F51_j0 at h
  refine cnd h (fun h => ?_) (fun h => ?_)
  · refine sR T_ok [2] [] ⟨[(2, I (1 : Int))], []⟩ (tn 1) ?_
    refine VW.ret ?_
    replace h := Option.some.inj h
    subst h
    exact rt []
  refine VW.skip ?_
  refine sR T_ok [2] [] ⟨[(2, I (-1 : Int))], []⟩ (tn 1) ?_
  refine VW.ret ?_
  replace h := Option.some.inj h
  subst h
  exact rt []

/- loop.example/g00844/spec.l02End -/
def F38_j0 (N : Nat) (x33 : Int) (x34 : Int) : Option (Int × Int) :=
  some (x33, (IntKind.i64.wrap (x34 + (1 : Int))))
def F38_j1 (N : Nat) (nx58 : Int → Int → Int → Option (Int × Int)) (x48 : Int) (x64 : Int) (x65 : Int) : Option (Int × Int) :=
  nx58 x64 x65 (IntKind.i64.wrap (x48 + (1 : Int)))
def F38_l0_b (N : Nat) (a0 : (List (Int × (ByteArray × (Int × (Int × (Int × (Bool × (List Int))))))))) (a1 : Int) (a2 : Int) (self : (List (Int × (ByteArray × (Int × (Int × (Int × (Bool × (List Int)))))))) → Int → Int → Option (Int × Int)) (nx58 : Int → Int → Int → Option (Int × Int)) (x46 : Int) (x47 : Int) (x48 : Int) : Option (Int × Int) :=
  gd (InR a1 a0.length) (andO (F51 N ((a0.getD a1.toNat (Ty.dflt Y40)).1)) fun y62 => cond (decide (x48 < y62)) (andO (self a0 x46 (IntKind.i64.wrap (a2 - (1 : Int)))) fun y67 => cond (decide (y67.1 < (0 : Int))) (some ((-1 : Int), (0 : Int))) (cond (decide (y67.2 > x47)) (F38_j1 N nx58 x48 y67.1 y67.2) (F38_j1 N nx58 x48 y67.1 x47))) (F38_j0 N x46 x47))
def F38_l0 (N : Nat) (a0 : (List (Int × (ByteArray × (Int × (Int × (Int × (Bool × (List Int))))))))) (a1 : Int) (a2 : Int) (self : (List (Int × (ByteArray × (Int × (Int × (Int × (Bool × (List Int)))))))) → Int → Int → Option (Int × Int)) : Nat → Int → Int → Int → Option (Int × Int) := loopF (F38_l0_b N a0 a1 a2 self) (fun _ _ _ => none)
theorem F38_l0_s (N : Nat) (a0 : (List (Int × (ByteArray × (Int × (Int × (Int × (Bool × (List Int))))))))) (a1 : Int) (a2 : Int) (self : (List (Int × (ByteArray × (Int × (Int × (Int × (Bool × (List Int)))))))) → Int → Int → Option (Int × Int)) {k : Nat} (hk : 0 < k) (x46 : Int) (x47 : Int) (x48 : Int) : F38_l0 N a0 a1 a2 self k x46 x47 x48 = F38_l0_b N a0 a1 a2 self (F38_l0 N a0 a1 a2 self (k - 1)) x46 x47 x48 := by
  cases k with
  | zero => exact absurd hk (Nat.lt_irrefl 0)
  | succ m => rfl
def F38_b (N : Nat) (self : (List (Int × (ByteArray × (Int × (Int × (Int × (Bool × (List Int)))))))) → Int → Int → Option (Int × Int)) (a0 : (List (Int × (ByteArray × (Int × (Int × (Int × (Bool × (List Int))))))))) (a1 : Int) (a2 : Int) : Option (Int × Int) :=
  cond (decide (a1 ≥ (a0.length : Int))) (some ((-1 : Int), (0 : Int))) (cond (a2 == (0 : Int)) (some ((-1 : Int), (0 : Int))) (F38_l0 N a0 a1 a2 self N (IntKind.i64.wrap (a1 + (1 : Int))) (0 : Int) (0 : Int)))
theorem ok38_b (N : Nat) (self : (List (Int × (ByteArray × (Int × (Int × (Int × (Bool × (List Int)))))))) → Int → Int → Option (Int × Int)) (ih : ∀ (a0 : (List (Int × (ByteArray × (Int × (Int × (Int × (Bool × (List Int))))))))) (a1 : Int) (a2 : Int) (r : Int × Int), self a0 a1 a2 = some r → Con Go.Proofs.Try.prog 38 [.lf (.v (.sl Y40) a0), I a1, I a2] [.lf (.v (.int .i64) r.1), .lf (.v (.int .i64) r.2)]) (a0 : (List (Int × (ByteArray × (Int × (Int × (Int × (Bool × (List Int))))))))) (a1 : Int) (a2 : Int) {r : Int × Int} (h : F38_b N self a0 a1 a2 = some r) : Con Go.Proofs.Try.prog 38 [.lf (.v (.sl Y40) a0), I a1, I a2] [.lf (.v (.int .i64) r.1), .lf (.v (.int .i64) r.2)] := by
  refine ctr [.lf (.v (.int .i64)), .lf (.v (.int .i64))] T_ok Go.Proofs.Try.func38 rfl fun w0 E0 => ?_
  unfold F38_b at h
  show VW _ _ _ _ _ (retQ _ _ _ _) _
  refine sR T_ok [0, 1, 2] [] ⟨[(0, .lf (.v (.sl Y40) a0)), (1, I a1), (2, I a2)], []⟩ (tn 2) ?_
  refine VW.seq ?_
  refine VW.seq ?_
  refine VW.region ?_
  refine sG T_ok 5 [0, 1, 2, 17] [] ⟨[(0, .lf (.v (.sl Y40) a0)), (1, I a1), (2, I a2), (17, B (decide (a1 ≥ (a0.length : Int))))], []⟩ (tn 5) ?_
  refine spB 17 h (fun h => ?_) (fun h => ?_)
  · refine sN T_ok [0, 1, 2, 20] [] ⟨[(0, .lf (.v (.sl Y40) a0)), (1, I a1), (2, I a2), (20, B true)], []⟩ (tn 3) ?_
    refine VW.cond (b := true) (by kernel_rfl) (fun _ => ?_) (fun h' => nomatch h')
    refine sR T_ok [6, 7] [] ⟨[(6, I (-1 : Int)), (7, I (0 : Int))], []⟩ (tn 2) ?_
    refine VW.ret ?_
    replace h := Option.some.inj h
    subst h
    exact rt []
  refine sN T_ok [0, 1, 2, 20] [] ⟨[(0, .lf (.v (.sl Y40) a0)), (1, I a1), (2, I a2), (20, B (a2 == (0 : Int)))], []⟩ (tn 3) ?_
  refine cnd h (fun h => ?_) (fun h => ?_)
  · refine sR T_ok [6, 7] [] ⟨[(6, I (-1 : Int)), (7, I (0 : Int))], []⟩ (tn 2) ?_
    refine VW.ret ?_
    replace h := Option.some.inj h
    subst h
    exact rt []
  refine VW.skip ?_
  refine sR T_ok [0, 1, 2, 8] [] ⟨[(0, .lf (.v (.sl Y40) a0)), (1, I a1), (2, I a2), (8, I (IntKind.i64.wrap (a1 + (1 : Int))))], []⟩ (tn 3) ?_
  refine sR T_ok [0, 1, 2, 8, 9] [] ⟨[(0, .lf (.v (.sl Y40) a0)), (1, I a1), (2, I a2), (8, I (IntKind.i64.wrap (a1 + (1 : Int)))), (9, I (0 : Int))], []⟩ (tn 1) ?_
  refine VW.join (fun s => ∃ (x33 : Int) (x34 : Int), s = ⟨[(8, I x33), (9, I x34)], []⟩ ∧ F38_j0 N x33 x34 = some r) ?_ ?_
  · refine sR T_ok [0, 1, 2, 8, 9, 10] [] ⟨[(0, .lf (.v (.sl Y40) a0)), (1, I a1), (2, I a2), (8, I (IntKind.i64.wrap (a1 + (1 : Int)))), (9, I (0 : Int)), (10, I (0 : Int))], []⟩ (tn 1) ?_
    refine VW.block ?_
    refine lop (fun k s => ∃ (x46 : Int) (x47 : Int) (x48 : Int), s = ⟨[(0, .lf (.v (.sl Y40) a0)), (1, I a1), (2, I a2), (8, I x46), (9, I x47), (10, I x48)], []⟩ ∧ F38_l0 N a0 a1 a2 self k x46 x47 x48 = some r) N [.ren [0, 1, 2, 8, 9, 10] []] ⟨(IntKind.i64.wrap (a1 + (1 : Int))), (0 : Int), (0 : Int), rfl, h⟩ ?_
    rintro k58 s ⟨x46, x47, x48, rfl, h⟩
    cases k58 with
    | zero => cases show none = some r from h
    | succ k58 =>
      replace h : F38_l0_b N a0 a1 a2 self (F38_l0 N a0 a1 a2 self k58) x46 x47 x48 = some r := h
      unfold F38_l0_b at h
      refine VW.seq ?_
      refine VW.seq ?_
      refine VW.region ?_
      obtain ⟨g61, h⟩ := gd_some h
      refine sG T_ok 6 [0, 1, 2, 8, 9, 10, 23, 28] [] ⟨[(0, .lf (.v (.sl Y40) a0)), (1, I a1), (2, I a2), (8, I x46), (9, I x47), (10, I x48), (23, I x48), (28, I ((a0.getD a1.toNat (Ty.dflt Y40)).1))], []⟩ (pu 3 (an g61 (tn 2))) ?_
      obtain ⟨y62, hy, h⟩ := andO_some h
      refine cal false [.t (.int .i64)] [] (some 29) T_ok (ok51 N _ hy) ?_
      refine sN T_ok [0, 1, 2, 8, 9, 10, 30] [] ⟨[(0, .lf (.v (.sl Y40) a0)), (1, I a1), (2, I a2), (8, I x46), (9, I x47), (10, I x48), (30, B (decide (x48 < y62)))], []⟩ (tn 1) ?_
      refine cnd h (fun h => ?_) (fun h => ?_)
      · refine VW.skip ?_
        refine VW.join (fun s => ∃ (x64 : Int) (x65 : Int), s = ⟨[(0, .lf (.v (.sl Y40) a0)), (1, I a1), (2, I a2), (8, I x64), (9, I x65), (10, I x48)], []⟩ ∧ F38_j1 N (F38_l0 N a0 a1 a2 self k58) x48 x64 x65 = some r) ?_ ?_
        · refine VW.block ?_
          refine VW.seq ?_
          refine VW.region ?_
          refine sG T_ok 4 [0, 1, 2, 9, 10, 34, 35, 37] [] ⟨[(0, .lf (.v (.sl Y40) a0)), (1, I a1), (2, I a2), (9, I x47), (10, I x48), (34, .lf (.v (.sl Y40) a0)), (35, I x46), (37, I (IntKind.i64.wrap (a2 - (1 : Int))))], []⟩ (tn 4) ?_
          obtain ⟨y67, hy, h⟩ := andO_some h
          refine cal false [.t (.sl Y40), .t (.int .i64), .t (.int .i64)] [] (some 38) T_ok (ih _ _ _ _ hy) ?_
          refine sN T_ok [0, 1, 2, 9, 10, 11, 12] [] ⟨[(0, .lf (.v (.sl Y40) a0)), (1, I a1), (2, I a2), (9, I x47), (10, I x48), (11, I y67.1), (12, I y67.2)], []⟩ (tn 5) ?_
          refine VW.seq ?_
          refine sR T_ok [0, 1, 2, 9, 10, 11, 12, 42] [] ⟨[(0, .lf (.v (.sl Y40) a0)), (1, I a1), (2, I a2), (9, I x47), (10, I x48), (11, I y67.1), (12, I y67.2), (42, B (decide (y67.1 < (0 : Int))))], []⟩ (tn 2) ?_
          refine cnd h (fun h => ?_) (fun h => ?_)
          · refine sR T_ok [6, 7] [] ⟨[(6, I (-1 : Int)), (7, I (0 : Int))], []⟩ (tn 2) ?_
            refine VW.ret ?_
            replace h := Option.some.inj h
            subst h
            exact rt []
          refine VW.skip ?_
          refine sR T_ok [0, 1, 2, 8, 9, 10, 12] [] ⟨[(0, .lf (.v (.sl Y40) a0)), (1, I a1), (2, I a2), (8, I y67.1), (9, I x47), (10, I x48), (12, I y67.2)], []⟩ (tn 2) ?_
          refine sR T_ok [0, 1, 2, 8, 9, 10, 12, 46] [] ⟨[(0, .lf (.v (.sl Y40) a0)), (1, I a1), (2, I a2), (8, I y67.1), (9, I x47), (10, I x48), (12, I y67.2), (46, B (decide (y67.2 > x47)))], []⟩ (tn 3) ?_
          refine cnd h (fun h => ?_) (fun h => ?_)
          · refine rR T_ok [0, 1, 2, 8, 9, 10] [] ⟨[(0, .lf (.v (.sl Y40) a0)), (1, I a1), (2, I a2), (8, I y67.1), (9, I y67.2), (10, I x48)], []⟩ (tn 2) ?_
            exact arv [.ren [0, 1, 2, 8, 9, 10] []] ⟨y67.1, y67.2, rfl, h⟩
          refine VW.skip ?_
          exact arv [.ren [0, 1, 2, 8, 9, 10] []] ⟨y67.1, x47, rfl, h⟩
        rintro s ⟨x64, x65, rfl, h⟩
        unfold F38_j1 at h
        refine rR T_ok [0, 1, 2, 8, 9, 10] [] ⟨[(0, .lf (.v (.sl Y40) a0)), (1, I a1), (2, I a2), (8, I x64), (9, I x65), (10, I (IntKind.i64.wrap (x48 + (1 : Int))))], []⟩ (tn 3) ?_
        exact aro [.ren [0, 1, 2, 8, 9, 10] []] ⟨x64, x65, (IntKind.i64.wrap (x48 + (1 : Int))), rfl, h⟩
      refine VW.exit ?_
      exact arv [.ren [8, 9] []] ⟨x46, x47, rfl, h⟩
  rintro s ⟨x33, x34, rfl, h⟩
  unfold F38_j0 at h
  refine sR T_ok [6, 7] [] ⟨[(6, I x33), (7, I (IntKind.i64.wrap (x34 + (1 : Int))))], []⟩ (tn 5) ?_
  refine VW.ret ?_
  replace h := Option.some.inj h
  subst h
  exact rt []
def F38_r (N : Nat) : Nat → (List (Int × (ByteArray × (Int × (Int × (Int × (Bool × (List Int)))))))) → Int → Int → Option (Int × Int) := loopF (F38_b N) (fun _ _ _ => none)
theorem F38_s (N : Nat) {k : Nat} (hk : 0 < k) (a0 : (List (Int × (ByteArray × (Int × (Int × (Int × (Bool × (List Int))))))))) (a1 : Int) (a2 : Int) : F38_r N k a0 a1 a2 = F38_b N (F38_r N (k - 1)) a0 a1 a2 := by
  cases k with
  | zero => exact absurd hk (Nat.lt_irrefl 0)
  | succ m => rfl
def F38 (N : Nat) : (List (Int × (ByteArray × (Int × (Int × (Int × (Bool × (List Int)))))))) → Int → Int → Option (Int × Int) := F38_r N N
theorem ok38_k (N : Nat) : ∀ (k : Nat) (a0 : (List (Int × (ByteArray × (Int × (Int × (Int × (Bool × (List Int))))))))) (a1 : Int) (a2 : Int) (r : Int × Int), loopF (F38_b N) (fun _ _ _ => none) k a0 a1 a2 = some r → Con Go.Proofs.Try.prog 38 [.lf (.v (.sl Y40) a0), I a1, I a2] [.lf (.v (.int .i64) r.1), .lf (.v (.int .i64) r.2)]
  | 0, a0, a1, a2, r, h => nomatch (show (none : Option (Int × Int)) = some r from h)
  | k + 1, a0, a1, a2, r, h => ok38_b N _ (ok38_k N k) a0 a1 a2 h
theorem ok38 (N : Nat) (a0 : (List (Int × (ByteArray × (Int × (Int × (Int × (Bool × (List Int))))))))) (a1 : Int) (a2 : Int) {r : Int × Int} (h : F38 N a0 a1 a2 = some r) : Con Go.Proofs.Try.prog 38 [.lf (.v (.sl Y40) a0), I a1, I a2] [.lf (.v (.int .i64) r.1), .lf (.v (.int .i64) r.2)] := ok38_k N N a0 a1 a2 r h

/- loop.example/g00844/spec.PlanOk -/
def F22_j0 (N : Nat) (a0 : (List (Int × (ByteArray × (Int × (Int × (Int × (Bool × (List Int))))))))) : Option (Bool) :=
  andO (F38 N a0 (0 : Int) (10 : Int)) fun y17 => some (y17.1 == (a0.length : Int))
def F22_l0_b (N : Nat) (a0 : (List (Int × (ByteArray × (Int × (Int × (Int × (Bool × (List Int))))))))) (nx28 : Int → Option (Bool)) (x23 : Int) : Option (Bool) :=
  cond (decide (x23 < (a0.length : Int))) (gd (InR x23 a0.length) (andO (F37 N (a0.getD x23.toNat (Ty.dflt Y40))) fun y32 => cond (!y32) (some false) (nx28 (IntKind.i64.wrap (x23 + (1 : Int)))))) (F22_j0 N a0)
def F22_l0 (N : Nat) (a0 : (List (Int × (ByteArray × (Int × (Int × (Int × (Bool × (List Int))))))))) : Nat → Int → Option (Bool) := loopF (F22_l0_b N a0) (fun _ => none)
theorem F22_l0_s (N : Nat) (a0 : (List (Int × (ByteArray × (Int × (Int × (Int × (Bool × (List Int))))))))) {k : Nat} (hk : 0 < k) (x23 : Int) : F22_l0 N a0 k x23 = F22_l0_b N a0 (F22_l0 N a0 (k - 1)) x23 := by
  cases k with
  | zero => exact absurd hk (Nat.lt_irrefl 0)
  | succ m => rfl
def F22 (N : Nat) (a0 : (List (Int × (ByteArray × (Int × (Int × (Int × (Bool × (List Int))))))))) : Option (Bool) :=
  andO (F36 N (a0.length : Int) (1 : Int) (40 : Int)) fun y2 => cond (!y2) (some false) (F22_l0 N a0 N (0 : Int))
theorem ok22 (N : Nat) (a0 : (List (Int × (ByteArray × (Int × (Int × (Int × (Bool × (List Int))))))))) {r : Bool} (h : F22 N a0 = some r) : Con Go.Proofs.Try.prog 22 [.lf (.v (.sl Y40) a0)] [.lf (.v .bool r)] := by
  refine ctr [.lf (.v .bool)] T_ok Go.Proofs.Try.func22 rfl fun w0 E0 => ?_
  unfold F22 at h
  show VW _ _ _ _ _ (retQ _ _ _ _) _
  refine sR T_ok [0] [] ⟨[(0, .lf (.v (.sl Y40) a0))], []⟩ (tn 1) ?_
  refine VW.seq ?_
  refine VW.seq ?_
  refine VW.region ?_
  refine sG T_ok 2 [0, 7] [] ⟨[(0, .lf (.v (.sl Y40) a0)), (7, I (a0.length : Int))], []⟩ (tn 2) ?_
  obtain ⟨y2, hy, h⟩ := andO_some h
  refine cal false [.t (.int .i64), .t (.int .i64), .t (.int .i64)] [] (some 8) T_ok (ok36 N _ _ _ hy) ?_
  refine sN T_ok [0, 9] [] ⟨[(0, .lf (.v (.sl Y40) a0)), (9, B (!y2))], []⟩ (tn 1) ?_
  refine cnd h (fun h => ?_) (fun h => ?_)
  · refine sR T_ok [2] [] ⟨[(2, B false)], []⟩ (tn 1) ?_
    refine VW.ret ?_
    replace h := Option.some.inj h
    subst h
    exact rt []
  refine VW.skip ?_
  refine VW.join (fun s => s = ⟨[(0, .lf (.v (.sl Y40) a0))], []⟩ ∧ F22_j0 N a0 = some r) ?_ ?_
  · refine sR T_ok [0, 3] [] ⟨[(0, .lf (.v (.sl Y40) a0)), (3, I (0 : Int))], []⟩ (tn 1) ?_
    refine VW.block ?_
    refine lop (fun k s => ∃ (x23 : Int), s = ⟨[(0, .lf (.v (.sl Y40) a0)), (3, I x23)], []⟩ ∧ F22_l0 N a0 k x23 = some r) N [.ren [0, 3] []] ⟨(0 : Int), rfl, h⟩ ?_
    rintro k28 s ⟨x23, rfl, h⟩
    cases k28 with
    | zero => cases show none = some r from h
    | succ k28 =>
      replace h : F22_l0_b N a0 (F22_l0 N a0 k28) x23 = some r := h
      unfold F22_l0_b at h
      refine VW.seq ?_
      refine sR T_ok [0, 3, 13] [] ⟨[(0, .lf (.v (.sl Y40) a0)), (3, I x23), (13, B (decide (x23 < (a0.length : Int))))], []⟩ (tn 4) ?_
      refine cnd h (fun h => ?_) (fun h => ?_)
      · refine VW.skip ?_
        refine VW.seq ?_
        refine VW.block ?_
        refine VW.seq ?_
        refine VW.region ?_
        obtain ⟨g31, h⟩ := gd_some h
        refine sG T_ok 4 [0, 3, 19] [] ⟨[(0, .lf (.v (.sl Y40) a0)), (3, I x23), (19, .agg [.v (.int .i64) ((a0.getD x23.toNat (Ty.dflt Y40)).1), .v .str ((a0.getD x23.toNat (Ty.dflt Y40)).2.1), .v (.int .i64) ((a0.getD x23.toNat (Ty.dflt Y40)).2.2.1), .v (.int .i64) ((a0.getD x23.toNat (Ty.dflt Y40)).2.2.2.1), .v (.int .i64) ((a0.getD x23.toNat (Ty.dflt Y40)).2.2.2.2.1), .v .bool ((a0.getD x23.toNat (Ty.dflt Y40)).2.2.2.2.2.1), .v (.sl (.int .i64)) ((a0.getD x23.toNat (Ty.dflt Y40)).2.2.2.2.2.2)])], []⟩ (pu 2 (an g31 (tn 1))) ?_
        obtain ⟨y32, hy, h⟩ := andO_some h
        refine cal false [.t Y40] [] (some 20) T_ok (ok37 N _ hy) ?_
        refine sN T_ok [0, 3, 21] [] ⟨[(0, .lf (.v (.sl Y40) a0)), (3, I x23), (21, B (!y32))], []⟩ (tn 1) ?_
        refine cnd h (fun h => ?_) (fun h => ?_)
        · refine sR T_ok [2] [] ⟨[(2, B false)], []⟩ (tn 1) ?_
          refine VW.ret ?_
          replace h := Option.some.inj h
          subst h
          exact rt []
        refine VW.skip ?_
        refine rR T_ok [0, 3] [] ⟨[(0, .lf (.v (.sl Y40) a0)), (3, I (IntKind.i64.wrap (x23 + (1 : Int))))], []⟩ (tn 3) ?_
        exact aro [.ren [0, 3] []] ⟨(IntKind.i64.wrap (x23 + (1 : Int))), rfl, h⟩
      refine VW.exit ?_
      exact arv [.ren [0] []] ⟨rfl, h⟩
  rintro s ⟨rfl, h⟩
  unfold F22_j0 at h
  refine VW.seq ?_
  refine VW.region ?_
  refine sG T_ok 1 [0, 23] [] ⟨[(0, .lf (.v (.sl Y40) a0)), (23, .lf (.v (.sl Y40) a0))], []⟩ (tn 1) ?_
  obtain ⟨y17, hy, h⟩ := andO_some h
  refine cal false [.t (.sl Y40), .t (.int .i64), .t (.int .i64)] [] (some 24) T_ok (ok38 N _ _ _ hy) ?_
  refine sN T_ok [0, 4] [] ⟨[(0, .lf (.v (.sl Y40) a0)), (4, I y17.1)], []⟩ (tn 5) ?_
  refine sR T_ok [2] [] ⟨[(2, B (y17.1 == (a0.length : Int)))], []⟩ (tn 5) ?_
  refine VW.ret ?_
  replace h := Option.some.inj h
  subst h
  exact rt []

/- loop.example/g00844/spec.l01Copy -/
def F39_j0 (N : Nat) (x16 : (List Int)) : Option ((List Int)) :=
  some x16
def F39_l0_b (N : Nat) (a0 : (List Int)) (nx28 : (List Int) → Int → Option ((List Int))) (x22 : (List Int)) (x23 : Int) : Option ((List Int)) :=
  cond (decide (x23 < (a0.length : Int))) (gd (InR x23 a0.length) (gd (x22.length + ([(a0.getD x23.toNat (Ty.dflt (.int .i64)))]).length ≤ lim (.int .i64)) (nx28 (x22 ++ ([(a0.getD x23.toNat (Ty.dflt (.int .i64)))])) (IntKind.i64.wrap (x23 + (1 : Int)))))) (F39_j0 N x22)
def F39_l0 (N : Nat) (a0 : (List Int)) : Nat → (List Int) → Int → Option ((List Int)) := loopF (F39_l0_b N a0) (fun _ _ => none)
theorem F39_l0_s (N : Nat) (a0 : (List Int)) {k : Nat} (hk : 0 < k) (x22 : (List Int)) (x23 : Int) : F39_l0 N a0 k x22 x23 = F39_l0_b N a0 (F39_l0 N a0 (k - 1)) x22 x23 := by
  cases k with
  | zero => exact absurd hk (Nat.lt_irrefl 0)
  | succ m => rfl
def F39 (N : Nat) (a0 : (List Int)) : Option ((List Int)) :=
  F39_l0 N a0 N ([]) (0 : Int)
theorem ok39 (N : Nat) (a0 : (List Int)) {r : (List Int)} (h : F39 N a0 = some r) : Con Go.Proofs.Try.prog 39 [.lf (.v (.sl (.int .i64)) a0)] [.lf (.own (.int .i64) r .dp)] := by
  refine ctr [.lf (.own (.int .i64) .dp)] T_ok Go.Proofs.Try.func39 rfl fun w0 E0 => ?_
  unfold F39 at h
  show VW _ _ _ _ _ (retQ _ _ _ _) _
  refine sR T_ok [0] [] ⟨[(0, .lf (.v (.sl (.int .i64)) a0))], []⟩ (tn 1) ?_
  refine sR T_ok [0, 3] [] ⟨[(0, .lf (.v (.sl (.int .i64)) a0)), (3, .lf (.nil))], []⟩ (tn 2) ?_
  refine VW.join (fun s => ∃ (x16 : (List Int)), s = ⟨[(3, .lf (.hd 0 0 none))], [ar 0 (.int .i64) x16 .dp]⟩ ∧ F39_j0 N x16 = some r) ?_ ?_
  · refine sR T_ok [0, 3, 4] [] ⟨[(0, .lf (.v (.sl (.int .i64)) a0)), (3, .lf (.nil)), (4, I (0 : Int))], []⟩ (tn 1) ?_
    refine VW.block ?_
    refine lop (fun k s => ∃ (x22 : (List Int)) (x23 : Int), s = ⟨[(0, .lf (.v (.sl (.int .i64)) a0)), (3, .lf (.hd 0 0 none)), (4, I x23)], [ar 0 (.int .i64) x22 .dp]⟩ ∧ F39_l0 N a0 k x22 x23 = some r) N [.nilS 3 (.int .i64) .dp, .ren [0, 3, 4] [0]] ⟨[], (0 : Int), rfl, h⟩ ?_
    rintro k28 s ⟨x22, x23, rfl, h⟩
    cases k28 with
    | zero => cases show none = some r from h
    | succ k28 =>
      replace h : F39_l0_b N a0 (F39_l0 N a0 k28) x22 x23 = some r := h
      unfold F39_l0_b at h
      refine VW.seq ?_
      refine sR T_ok [0, 3, 4, 9] [0] ⟨[(0, .lf (.v (.sl (.int .i64)) a0)), (3, .lf (.hd 0 0 none)), (4, I x23), (9, B (decide (x23 < (a0.length : Int))))], [ar 0 (.int .i64) x22 .dp]⟩ (tn 4) ?_
      refine cnd h (fun h => ?_) (fun h => ?_)
      · refine VW.skip ?_
        refine VW.seq ?_
        refine VW.block ?_
        obtain ⟨g31, h⟩ := gd_some h
        obtain ⟨g32, h⟩ := gd_some h
        refine rR T_ok [0, 3, 4] [0] ⟨[(0, .lf (.v (.sl (.int .i64)) a0)), (3, .lf (.hd 0 0 none)), (4, I x23)], [ar 0 (.int .i64) (x22 ++ ([(a0.getD x23.toNat (Ty.dflt (.int .i64)))])) .dp]⟩ (pu 3 (an g31 (pu 2 (an g32 (tn 1))))) ?_
        refine rR T_ok [0, 3, 4] [0] ⟨[(0, .lf (.v (.sl (.int .i64)) a0)), (3, .lf (.hd 0 0 none)), (4, I (IntKind.i64.wrap (x23 + (1 : Int))))], [ar 0 (.int .i64) (x22 ++ ([(a0.getD x23.toNat (Ty.dflt (.int .i64)))])) .dp]⟩ (tn 3) ?_
        exact aro [.ren [0, 3, 4] [0]] ⟨(x22 ++ ([(a0.getD x23.toNat (Ty.dflt (.int .i64)))])), (IntKind.i64.wrap (x23 + (1 : Int))), rfl, h⟩
      refine VW.exit ?_
      exact arv [.ren [3] [0]] ⟨x22, rfl, h⟩
  rintro s ⟨x16, rfl, h⟩
  unfold F39_j0 at h
  refine sR T_ok [2] [0] ⟨[(2, .lf (.hd 0 0 none))], [ar 0 (.int .i64) x16 .dp]⟩ (tn 2) ?_
  refine VW.ret ?_
  replace h := Option.some.inj h
  subst h
  exact rt [some 0]

/- loop.example/g00844/spec.l02Copy -/
def F23_j0 (N : Nat) (x100 : (List (Int × (ByteArray × (Int × (Int × (Int × (Bool × (List Int))))))))) : Option ((List (Int × (ByteArray × (Int × (Int × (Int × (Bool × (List Int))))))))) :=
  some x100
def F23_j1 (N : Nat) (nx168 : (List (Int × (ByteArray × (Int × (Int × (Int × (Bool × (List Int)))))))) → Int → Option ((List (Int × (ByteArray × (Int × (Int × (Int × (Bool × (List Int)))))))))) (x134 : (List (Int × (ByteArray × (Int × (Int × (Int × (Bool × (List Int))))))))) (x135 : Int) (x189 : Int) (x190 : ByteArray) (x191 : Int) (x192 : Int) (x193 : Int) (x194 : Bool) (x195 : (List Int)) : Option ((List (Int × (ByteArray × (Int × (Int × (Int × (Bool × (List Int))))))))) :=
  gd (x134.length + ([(x189, (x190, (x191, (x192, (x193, (x194, x195))))))]).length ≤ lim Y40) (nx168 (x134 ++ ([(x189, (x190, (x191, (x192, (x193, (x194, x195))))))])) (IntKind.i64.wrap (x135 + (1 : Int))))
def F23_l0_b (N : Nat) (a0 : (List (Int × (ByteArray × (Int × (Int × (Int × (Bool × (List Int))))))))) (nx168 : (List (Int × (ByteArray × (Int × (Int × (Int × (Bool × (List Int)))))))) → Int → Option ((List (Int × (ByteArray × (Int × (Int × (Int × (Bool × (List Int)))))))))) (x134 : (List (Int × (ByteArray × (Int × (Int × (Int × (Bool × (List Int))))))))) (x135 : Int) : Option ((List (Int × (ByteArray × (Int × (Int × (Int × (Bool × (List Int))))))))) :=
  cond (decide (x135 < (a0.length : Int))) (gd (InR x135 a0.length) (gd (InR x135 a0.length) (cond (decide ((((a0.getD x135.toNat (Ty.dflt Y40)).2.2.2.2.2.2).length : Int) > (0 : Int))) (gd (InR x135 a0.length) (andO (F39 N ((a0.getD x135.toNat (Ty.dflt Y40)).2.2.2.2.2.2)) fun y200 => F23_j1 N nx168 x134 x135 ((a0.getD x135.toNat (Ty.dflt Y40)).1) ((a0.getD x135.toNat (Ty.dflt Y40)).2.1) ((a0.getD x135.toNat (Ty.dflt Y40)).2.2.1) ((a0.getD x135.toNat (Ty.dflt Y40)).2.2.2.1) ((a0.getD x135.toNat (Ty.dflt Y40)).2.2.2.2.1) ((a0.getD x135.toNat (Ty.dflt Y40)).2.2.2.2.2.1) y200)) (F23_j1 N nx168 x134 x135 ((a0.getD x135.toNat (Ty.dflt Y40)).1) ((a0.getD x135.toNat (Ty.dflt Y40)).2.1) ((a0.getD x135.toNat (Ty.dflt Y40)).2.2.1) ((a0.getD x135.toNat (Ty.dflt Y40)).2.2.2.1) ((a0.getD x135.toNat (Ty.dflt Y40)).2.2.2.2.1) ((a0.getD x135.toNat (Ty.dflt Y40)).2.2.2.2.2.1) ([]))))) (F23_j0 N x134)
def F23_l0 (N : Nat) (a0 : (List (Int × (ByteArray × (Int × (Int × (Int × (Bool × (List Int))))))))) : Nat → (List (Int × (ByteArray × (Int × (Int × (Int × (Bool × (List Int)))))))) → Int → Option ((List (Int × (ByteArray × (Int × (Int × (Int × (Bool × (List Int))))))))) := loopF (F23_l0_b N a0) (fun _ _ => none)
theorem F23_l0_s (N : Nat) (a0 : (List (Int × (ByteArray × (Int × (Int × (Int × (Bool × (List Int))))))))) {k : Nat} (hk : 0 < k) (x134 : (List (Int × (ByteArray × (Int × (Int × (Int × (Bool × (List Int))))))))) (x135 : Int) : F23_l0 N a0 k x134 x135 = F23_l0_b N a0 (F23_l0 N a0 (k - 1)) x134 x135 := by
  cases k with
  | zero => exact absurd hk (Nat.lt_irrefl 0)
  | succ m => rfl
def F23 (N : Nat) (a0 : (List (Int × (ByteArray × (Int × (Int × (Int × (Bool × (List Int))))))))) : Option ((List (Int × (ByteArray × (Int × (Int × (Int × (Bool × (List Int))))))))) :=
  F23_l0 N a0 N ([]) (0 : Int)
theorem ok23 (N : Nat) (a0 : (List (Int × (ByteArray × (Int × (Int × (Int × (Bool × (List Int))))))))) {r : (List (Int × (ByteArray × (Int × (Int × (Int × (Bool × (List Int))))))))} (h : F23 N a0 = some r) : Con Go.Proofs.Try.prog 23 [.lf (.v (.sl Y40) a0)] [.lf (.own Y40 r .dp)] := by
  refine ctr [.lf (.own Y40 .dp)] T_ok Go.Proofs.Try.func23 rfl fun w0 E0 => ?_
  unfold F23 at h
  show VW _ _ _ _ _ (retQ _ _ _ _) _
  refine sR T_ok [0] [] ⟨[(0, .lf (.v (.sl Y40) a0))], []⟩ (tn 1) ?_
  refine sR T_ok [0, 3] [] ⟨[(0, .lf (.v (.sl Y40) a0)), (3, .lf (.nil))], []⟩ (tn 2) ?_
  refine VW.join (fun s => ∃ (x100 : (List (Int × (ByteArray × (Int × (Int × (Int × (Bool × (List Int))))))))), s = ⟨[(3, .lf (.hd 0 0 none))], [ar 0 Y40 x100 .dp]⟩ ∧ F23_j0 N x100 = some r) ?_ ?_
  · refine sR T_ok [0, 3, 4] [] ⟨[(0, .lf (.v (.sl Y40) a0)), (3, .lf (.nil)), (4, I (0 : Int))], []⟩ (tn 1) ?_
    refine VW.block ?_
    refine lop (fun k s => ∃ (x134 : (List (Int × (ByteArray × (Int × (Int × (Int × (Bool × (List Int))))))))) (x135 : Int), s = ⟨[(0, .lf (.v (.sl Y40) a0)), (3, .lf (.hd 0 0 none)), (4, I x135)], [ar 0 Y40 x134 .dp]⟩ ∧ F23_l0 N a0 k x134 x135 = some r) N [.nilS 3 Y40 .dp, .ren [0, 3, 4] [0]] ⟨[], (0 : Int), rfl, h⟩ ?_
    rintro k168 s ⟨x134, x135, rfl, h⟩
    cases k168 with
    | zero => cases show none = some r from h
    | succ k168 =>
      replace h : F23_l0_b N a0 (F23_l0 N a0 k168) x134 x135 = some r := h
      unfold F23_l0_b at h
      refine VW.seq ?_
      refine sR T_ok [0, 3, 4, 10] [0] ⟨[(0, .lf (.v (.sl Y40) a0)), (3, .lf (.hd 0 0 none)), (4, I x135), (10, B (decide (x135 < (a0.length : Int))))], [ar 0 Y40 x134 .dp]⟩ (tn 4) ?_
      refine cnd h (fun h => ?_) (fun h => ?_)
      · refine VW.skip ?_
        refine VW.seq ?_
        refine VW.block ?_
        obtain ⟨g185, h⟩ := gd_some h
        refine sR T_ok [0, 3, 4, 5] [0, 1] ⟨[(0, .lf (.v (.sl Y40) a0)), (3, .lf (.hd 0 0 none)), (4, I x135), (5, .lf (.ptr 1 0 0 0))], [ar 0 Y40 x134 .dp, bx [.v (.int .i64) ((a0.getD x135.toNat (Ty.dflt Y40)).1), .v .str ((a0.getD x135.toNat (Ty.dflt Y40)).2.1), .v (.int .i64) ((a0.getD x135.toNat (Ty.dflt Y40)).2.2.1), .v (.int .i64) ((a0.getD x135.toNat (Ty.dflt Y40)).2.2.2.1), .v (.int .i64) ((a0.getD x135.toNat (Ty.dflt Y40)).2.2.2.2.1), .v .bool ((a0.getD x135.toNat (Ty.dflt Y40)).2.2.2.2.2.1), .v (.sl (.int .i64)) ((a0.getD x135.toNat (Ty.dflt Y40)).2.2.2.2.2.2)] 44]⟩ (pu 2 (an g185 (tn 3))) ?_
        refine sR T_ok [0, 3, 4, 5] [0, 1] ⟨[(0, .lf (.v (.sl Y40) a0)), (3, .lf (.hd 0 0 none)), (4, I x135), (5, .lf (.ptr 1 0 0 0))], [ar 0 Y40 x134 .dp, bx [.v (.int .i64) ((a0.getD x135.toNat (Ty.dflt Y40)).1), .v .str ((a0.getD x135.toNat (Ty.dflt Y40)).2.1), .v (.int .i64) ((a0.getD x135.toNat (Ty.dflt Y40)).2.2.1), .v (.int .i64) ((a0.getD x135.toNat (Ty.dflt Y40)).2.2.2.1), .v (.int .i64) ((a0.getD x135.toNat (Ty.dflt Y40)).2.2.2.2.1), .v .bool ((a0.getD x135.toNat (Ty.dflt Y40)).2.2.2.2.2.1), .nil] 44]⟩ (tn 2) ?_
        refine VW.join (fun s => ∃ (x189 : Int) (x190 : ByteArray) (x191 : Int) (x192 : Int) (x193 : Int) (x194 : Bool) (x195 : (List Int)), s = ⟨[(0, .lf (.v (.sl Y40) a0)), (3, .lf (.hd 0 0 none)), (4, I x135), (5, .lf (.ptr 1 0 0 0))], [ar 0 Y40 x134 .dp, bx [.v (.int .i64) x189, .v .str x190, .v (.int .i64) x191, .v (.int .i64) x192, .v (.int .i64) x193, .v .bool x194, .hd 2 0 none] 44, ar 0 (.int .i64) x195 .dp]⟩ ∧ F23_j1 N (F23_l0 N a0 k168) x134 x135 x189 x190 x191 x192 x193 x194 x195 = some r) ?_ ?_
        · obtain ⟨g198, h⟩ := gd_some h
          refine sR T_ok [0, 3, 4, 5, 24] [0, 1] ⟨[(0, .lf (.v (.sl Y40) a0)), (3, .lf (.hd 0 0 none)), (4, I x135), (5, .lf (.ptr 1 0 0 0)), (24, B (decide ((((a0.getD x135.toNat (Ty.dflt Y40)).2.2.2.2.2.2).length : Int) > (0 : Int))))], [ar 0 Y40 x134 .dp, bx [.v (.int .i64) ((a0.getD x135.toNat (Ty.dflt Y40)).1), .v .str ((a0.getD x135.toNat (Ty.dflt Y40)).2.1), .v (.int .i64) ((a0.getD x135.toNat (Ty.dflt Y40)).2.2.1), .v (.int .i64) ((a0.getD x135.toNat (Ty.dflt Y40)).2.2.2.1), .v (.int .i64) ((a0.getD x135.toNat (Ty.dflt Y40)).2.2.2.2.1), .v .bool ((a0.getD x135.toNat (Ty.dflt Y40)).2.2.2.2.2.1), .nil] 44]⟩ (pu 2 (an g198 (tn 4))) ?_
          refine cnd h (fun h => ?_) (fun h => ?_)
          · refine VW.region ?_
            obtain ⟨g199, h⟩ := gd_some h
            refine sG T_ok 5 [0, 3, 4, 5, 29] [0, 1] ⟨[(0, .lf (.v (.sl Y40) a0)), (3, .lf (.hd 0 0 none)), (4, I x135), (5, .lf (.ptr 1 0 0 0)), (29, .lf (.v (.sl (.int .i64)) ((a0.getD x135.toNat (Ty.dflt Y40)).2.2.2.2.2.2)))], [ar 0 Y40 x134 .dp, bx [.v (.int .i64) ((a0.getD x135.toNat (Ty.dflt Y40)).1), .v .str ((a0.getD x135.toNat (Ty.dflt Y40)).2.1), .v (.int .i64) ((a0.getD x135.toNat (Ty.dflt Y40)).2.2.1), .v (.int .i64) ((a0.getD x135.toNat (Ty.dflt Y40)).2.2.2.1), .v (.int .i64) ((a0.getD x135.toNat (Ty.dflt Y40)).2.2.2.2.1), .v .bool ((a0.getD x135.toNat (Ty.dflt Y40)).2.2.2.2.2.1), .nil] 44]⟩ (pu 2 (an g199 (tn 2))) ?_
            obtain ⟨y200, hy, h⟩ := andO_some h
            refine cal false [.t (.sl (.int .i64))] [] (some 30) T_ok (ok39 N _ hy) ?_
            refine sN T_ok [0, 3, 4, 5] [0, 1, 2] ⟨[(0, .lf (.v (.sl Y40) a0)), (3, .lf (.hd 0 0 none)), (4, I x135), (5, .lf (.ptr 1 0 0 0))], [ar 0 Y40 x134 .dp, bx [.v (.int .i64) ((a0.getD x135.toNat (Ty.dflt Y40)).1), .v .str ((a0.getD x135.toNat (Ty.dflt Y40)).2.1), .v (.int .i64) ((a0.getD x135.toNat (Ty.dflt Y40)).2.2.1), .v (.int .i64) ((a0.getD x135.toNat (Ty.dflt Y40)).2.2.2.1), .v (.int .i64) ((a0.getD x135.toNat (Ty.dflt Y40)).2.2.2.2.1), .v .bool ((a0.getD x135.toNat (Ty.dflt Y40)).2.2.2.2.2.1), .hd 2 0 none] 44, ar 0 (.int .i64) y200 .dp]⟩ (tn 2) ?_
            exact arv [.ren [0, 3, 4, 5] [0, 1, 2]] ⟨(a0.getD x135.toNat (Ty.dflt Y40)).1, (a0.getD x135.toNat (Ty.dflt Y40)).2.1, (a0.getD x135.toNat (Ty.dflt Y40)).2.2.1, (a0.getD x135.toNat (Ty.dflt Y40)).2.2.2.1, (a0.getD x135.toNat (Ty.dflt Y40)).2.2.2.2.1, (a0.getD x135.toNat (Ty.dflt Y40)).2.2.2.2.2.1, y200, rfl, h⟩
          refine VW.skip ?_
          exact arv [.nil 1 6 (.int .i64) .dp, .ren [0, 3, 4, 5] [0, 1, 2]] ⟨(a0.getD x135.toNat (Ty.dflt Y40)).1, (a0.getD x135.toNat (Ty.dflt Y40)).2.1, (a0.getD x135.toNat (Ty.dflt Y40)).2.2.1, (a0.getD x135.toNat (Ty.dflt Y40)).2.2.2.1, (a0.getD x135.toNat (Ty.dflt Y40)).2.2.2.2.1, (a0.getD x135.toNat (Ty.dflt Y40)).2.2.2.2.2.1, [], rfl, h⟩
        rintro s ⟨x189, x190, x191, x192, x193, x194, x195, rfl, h⟩
        unfold F23_j1 at h
        refine VW.region ?_
        refine sG T_ok 2 [0, 4, 32, 33] [0, 2] ⟨[(0, .lf (.v (.sl Y40) a0)), (4, I x135), (32, .lf (.hd 0 0 none)), (33, .agg [.v (.int .i64) x189, .v .str x190, .v (.int .i64) x191, .v (.int .i64) x192, .v (.int .i64) x193, .v .bool x194, .hd 1 0 none])], [ar 0 Y40 x134 .dp, ar 0 (.int .i64) x195 .dp]⟩ (tn 2) ?_
        refine VO.litA (d := 34) (v := .lf (.hd 2 0 none)) (H' := [ar 0 Y40 x134 .dp, none, ar 0 Y40 ([(x189, (x190, (x191, (x192, (x193, (x194, x195))))))]) .dp]) T_ok (by kernel_rfl) ?_
        obtain ⟨g196, h⟩ := gd_some h
        refine VO.appM (d := 35) (φ := x134.length + ([(x189, (x190, (x191, (x192, (x193, (x194, x195))))))]).length ≤ lim Y40) (v := .lf (.hd 0 1 none)) (H' := [ar 1 Y40 (x134 ++ ([(x189, (x190, (x191, (x192, (x193, (x194, x195))))))])) .dp, none, none]) T_ok (by kernel_rfl) g196 ?_
        refine sN T_ok [0, 3, 4] [0] ⟨[(0, .lf (.v (.sl Y40) a0)), (3, .lf (.hd 0 0 none)), (4, I x135)], [ar 0 Y40 (x134 ++ ([(x189, (x190, (x191, (x192, (x193, (x194, x195))))))])) .dp]⟩ (tn 1) ?_
        refine rR T_ok [0, 3, 4] [0] ⟨[(0, .lf (.v (.sl Y40) a0)), (3, .lf (.hd 0 0 none)), (4, I (IntKind.i64.wrap (x135 + (1 : Int))))], [ar 0 Y40 (x134 ++ ([(x189, (x190, (x191, (x192, (x193, (x194, x195))))))])) .dp]⟩ (tn 3) ?_
        exact aro [.ren [0, 3, 4] [0]] ⟨(x134 ++ ([(x189, (x190, (x191, (x192, (x193, (x194, x195))))))])), (IntKind.i64.wrap (x135 + (1 : Int))), rfl, h⟩
      refine VW.exit ?_
      exact arv [.ren [3] [0]] ⟨x134, rfl, h⟩
  rintro s ⟨x100, rfl, h⟩
  unfold F23_j0 at h
  refine sR T_ok [2] [0] ⟨[(2, .lf (.hd 0 0 none))], [ar 0 Y40 x100 .dp]⟩ (tn 2) ?_
  refine VW.ret ?_
  replace h := Option.some.inj h
  subst h
  exact rt [some 0]

/- loop.example/g00844/laws.toIntS -/
def F9_j0 (N : Nat) (x24 : (List Int)) : Option ((List Int)) :=
  some x24
def F9_l0_b (N : Nat) (a0 : (List Int)) (nx41 : (List Int) → Int → Option ((List Int))) (x33 : (List Int)) (x34 : Int) : Option ((List Int)) :=
  cond (decide (x34 < (a0.length : Int))) (gd (InR x34 a0.length) (gd (InR x34 x33.length) (gd (x34.toNat < x33.length) (nx41 (x33.set x34.toNat (a0.getD x34.toNat (Ty.dflt (.int .i64)))) (IntKind.i64.wrap (x34 + (1 : Int))))))) (F9_j0 N x33)
def F9_l0 (N : Nat) (a0 : (List Int)) : Nat → (List Int) → Int → Option ((List Int)) := loopF (F9_l0_b N a0) (fun _ _ => none)
theorem F9_l0_s (N : Nat) (a0 : (List Int)) {k : Nat} (hk : 0 < k) (x33 : (List Int)) (x34 : Int) : F9_l0 N a0 k x33 x34 = F9_l0_b N a0 (F9_l0 N a0 (k - 1)) x33 x34 := by
  cases k with
  | zero => exact absurd hk (Nat.lt_irrefl 0)
  | succ m => rfl
def F9 (N : Nat) (a0 : (List Int)) : Option ((List Int)) :=
  gd (0 ≤ (a0.length : Int) ∧ (a0.length : Int) ≤ (lim (.int .i64) : Int) ∧ (a0.length : Int) = (a0.length : Int)) (F9_l0 N a0 N (List.replicate (a0.length : Int).toNat (Ty.dflt (.int .i64))) (0 : Int))
theorem ok9 (N : Nat) (a0 : (List Int)) {r : (List Int)} (h : F9 N a0 = some r) : Con Go.Proofs.Try.prog 9 [.lf (.v (.sl (.int .i64)) a0)] [.lf (.own (.int .i64) r .dp)] := by
  refine ctr [.lf (.own (.int .i64) .dp)] T_ok Go.Proofs.Try.func9 rfl fun w0 E0 => ?_
  unfold F9 at h
  show VW _ _ _ _ _ (retQ _ _ _ _) _
  refine sR T_ok [0] [] ⟨[(0, .lf (.v (.sl (.int .i64)) a0))], []⟩ (tn 1) ?_
  obtain ⟨g1, h⟩ := gd_some h
  refine sR T_ok [0, 3] [0] ⟨[(0, .lf (.v (.sl (.int .i64)) a0)), (3, .lf (.hd 0 0 none))], [ar 0 (.int .i64) (List.replicate (a0.length : Int).toNat (Ty.dflt (.int .i64))) .dp]⟩ (pu 2 (an g1 (tn 1))) ?_
  refine VW.join (fun s => ∃ (x24 : (List Int)), s = ⟨[(3, .lf (.hd 0 0 none))], [ar 0 (.int .i64) x24 .dp]⟩ ∧ F9_j0 N x24 = some r) ?_ ?_
  · refine sR T_ok [0, 3, 4] [0] ⟨[(0, .lf (.v (.sl (.int .i64)) a0)), (3, .lf (.hd 0 0 none)), (4, I (0 : Int))], [ar 0 (.int .i64) (List.replicate (a0.length : Int).toNat (Ty.dflt (.int .i64))) .dp]⟩ (tn 1) ?_
    refine VW.block ?_
    refine lop (fun k s => ∃ (x33 : (List Int)) (x34 : Int), s = ⟨[(0, .lf (.v (.sl (.int .i64)) a0)), (3, .lf (.hd 0 0 none)), (4, I x34)], [ar 0 (.int .i64) x33 .dp]⟩ ∧ F9_l0 N a0 k x33 x34 = some r) N [.ren [0, 3, 4] [0]] ⟨(List.replicate (a0.length : Int).toNat (Ty.dflt (.int .i64))), (0 : Int), rfl, h⟩ ?_
    rintro k41 s ⟨x33, x34, rfl, h⟩
    cases k41 with
    | zero => cases show none = some r from h
    | succ k41 =>
      replace h : F9_l0_b N a0 (F9_l0 N a0 k41) x33 x34 = some r := h
      unfold F9_l0_b at h
      refine VW.seq ?_
      refine sR T_ok [0, 3, 4, 11] [0] ⟨[(0, .lf (.v (.sl (.int .i64)) a0)), (3, .lf (.hd 0 0 none)), (4, I x34), (11, B (decide (x34 < (a0.length : Int))))], [ar 0 (.int .i64) x33 .dp]⟩ (tn 4) ?_
      refine cnd h (fun h => ?_) (fun h => ?_)
      · refine VW.skip ?_
        refine VW.seq ?_
        refine VW.block ?_
        obtain ⟨g45, h⟩ := gd_some h
        obtain ⟨g46, h⟩ := gd_some h
        obtain ⟨g47, h⟩ := gd_some h
        refine rR T_ok [0, 3, 4] [0] ⟨[(0, .lf (.v (.sl (.int .i64)) a0)), (3, .lf (.hd 0 0 none)), (4, I x34)], [ar 0 (.int .i64) (x33.set x34.toNat (a0.getD x34.toNat (Ty.dflt (.int .i64)))) .dp]⟩ (pu 4 (an g45 (pu 1 (an g46 (an g47 (tn 0)))))) ?_
        refine rR T_ok [0, 3, 4] [0] ⟨[(0, .lf (.v (.sl (.int .i64)) a0)), (3, .lf (.hd 0 0 none)), (4, I (IntKind.i64.wrap (x34 + (1 : Int))))], [ar 0 (.int .i64) (x33.set x34.toNat (a0.getD x34.toNat (Ty.dflt (.int .i64)))) .dp]⟩ (tn 3) ?_
        exact aro [.ren [0, 3, 4] [0]] ⟨(x33.set x34.toNat (a0.getD x34.toNat (Ty.dflt (.int .i64)))), (IntKind.i64.wrap (x34 + (1 : Int))), rfl, h⟩
      refine VW.exit ?_
      exact arv [.ren [3] [0]] ⟨x33, rfl, h⟩
  rintro s ⟨x24, rfl, h⟩
  unfold F9_j0 at h
  refine sR T_ok [2] [0] ⟨[(2, .lf (.hd 0 0 none))], [ar 0 (.int .i64) x24 .dp]⟩ (tn 2) ?_
  refine VW.ret ?_
  replace h := Option.some.inj h
  subst h
  exact rt [some 0]

/- loop.example/g00844/laws.toNode -/
def F24 (N : Nat) (a0 : (Int × (ByteArray × (Int × (Int × (Int × (Bool × (List Int)))))))) : Option ((Int × (ByteArray × (Int × (Int × (Int × (Bool × (List Int)))))))) :=
  andO (F9 N a0.2.2.2.2.2.2) fun y1 => some (a0.1, (a0.2.1, (a0.2.2.1, (a0.2.2.2.1, (a0.2.2.2.2.1, (a0.2.2.2.2.2.1, y1))))))
theorem ok24 (N : Nat) (a0 : (Int × (ByteArray × (Int × (Int × (Int × (Bool × (List Int)))))))) {r : (Int × (ByteArray × (Int × (Int × (Int × (Bool × (List Int)))))))} (h : F24 N a0 = some r) : Con Go.Proofs.Try.prog 24 [.agg [.v (.int .i64) a0.1, .v .str a0.2.1, .v (.int .i64) a0.2.2.1, .v (.int .i64) a0.2.2.2.1, .v (.int .i64) a0.2.2.2.2.1, .v .bool a0.2.2.2.2.2.1, .v (.sl (.int .i64)) a0.2.2.2.2.2.2]] [.agg [.v (.int .i64) r.1, .v .str r.2.1, .v (.int .i64) r.2.2.1, .v (.int .i64) r.2.2.2.1, .v (.int .i64) r.2.2.2.2.1, .v .bool r.2.2.2.2.2.1, .own (.int .i64) r.2.2.2.2.2.2 .dp]] := by
  refine ctr [.agg [.v (.int .i64), .v .str, .v (.int .i64), .v (.int .i64), .v (.int .i64), .v .bool, .own (.int .i64) .dp]] T_ok Go.Proofs.Try.func24 rfl fun w0 E0 => ?_
  unfold F24 at h
  show VW _ _ _ _ _ (retQ _ _ _ _) _
  refine sR T_ok [1, 2] [0, 1] ⟨[(1, .lf (.ptr 0 0 0 0)), (2, .lf (.ptr 1 0 0 0))], [bx [.v (.int .i64) a0.1, .v .str a0.2.1, .v (.int .i64) a0.2.2.1, .v (.int .i64) a0.2.2.2.1, .v (.int .i64) a0.2.2.2.2.1, .v .bool a0.2.2.2.2.2.1, .v (.sl (.int .i64)) a0.2.2.2.2.2.2] 41, bx [.v (.int .i64) (0 : Int), .v .str ByteArray.empty, .v (.int .i64) (0 : Int), .v (.int .i64) (0 : Int), .v (.int .i64) (0 : Int), .v .bool false, .nil] 44]⟩ (tn 2) ?_
  refine sR T_ok [1, 2, 3] [0, 1, 2] ⟨[(1, .lf (.ptr 0 0 0 0)), (2, .lf (.ptr 1 0 0 0)), (3, .lf (.ptr 2 0 0 0))], [bx [.v (.int .i64) a0.1, .v .str a0.2.1, .v (.int .i64) a0.2.2.1, .v (.int .i64) a0.2.2.2.1, .v (.int .i64) a0.2.2.2.2.1, .v .bool a0.2.2.2.2.2.1, .v (.sl (.int .i64)) a0.2.2.2.2.2.2] 41, bx [.v (.int .i64) (0 : Int), .v .str ByteArray.empty, .v (.int .i64) (0 : Int), .v (.int .i64) (0 : Int), .v (.int .i64) (0 : Int), .v .bool false, .nil] 44, bx [.v (.int .i64) (0 : Int), .v .str ByteArray.empty, .v (.int .i64) (0 : Int), .v (.int .i64) (0 : Int), .v (.int .i64) (0 : Int), .v .bool false, .nil] 44]⟩ (tn 1) ?_
  refine sR T_ok [1, 2, 3] [0, 1, 2] ⟨[(1, .lf (.ptr 0 0 0 0)), (2, .lf (.ptr 1 0 0 0)), (3, .lf (.ptr 2 0 0 0))], [bx [.v (.int .i64) a0.1, .v .str a0.2.1, .v (.int .i64) a0.2.2.1, .v (.int .i64) a0.2.2.2.1, .v (.int .i64) a0.2.2.2.2.1, .v .bool a0.2.2.2.2.2.1, .v (.sl (.int .i64)) a0.2.2.2.2.2.2] 41, bx [.v (.int .i64) (0 : Int), .v .str ByteArray.empty, .v (.int .i64) (0 : Int), .v (.int .i64) (0 : Int), .v (.int .i64) (0 : Int), .v .bool false, .nil] 44, bx [.v (.int .i64) a0.1, .v .str ByteArray.empty, .v (.int .i64) (0 : Int), .v (.int .i64) (0 : Int), .v (.int .i64) (0 : Int), .v .bool false, .nil] 44]⟩ (tn 4) ?_
  refine sR T_ok [1, 2, 3] [0, 1, 2] ⟨[(1, .lf (.ptr 0 0 0 0)), (2, .lf (.ptr 1 0 0 0)), (3, .lf (.ptr 2 0 0 0))], [bx [.v (.int .i64) a0.1, .v .str a0.2.1, .v (.int .i64) a0.2.2.1, .v (.int .i64) a0.2.2.2.1, .v (.int .i64) a0.2.2.2.2.1, .v .bool a0.2.2.2.2.2.1, .v (.sl (.int .i64)) a0.2.2.2.2.2.2] 41, bx [.v (.int .i64) (0 : Int), .v .str ByteArray.empty, .v (.int .i64) (0 : Int), .v (.int .i64) (0 : Int), .v (.int .i64) (0 : Int), .v .bool false, .nil] 44, bx [.v (.int .i64) a0.1, .v .str a0.2.1, .v (.int .i64) (0 : Int), .v (.int .i64) (0 : Int), .v (.int .i64) (0 : Int), .v .bool false, .nil] 44]⟩ (tn 4) ?_
  refine sR T_ok [1, 2, 3] [0, 1, 2] ⟨[(1, .lf (.ptr 0 0 0 0)), (2, .lf (.ptr 1 0 0 0)), (3, .lf (.ptr 2 0 0 0))], [bx [.v (.int .i64) a0.1, .v .str a0.2.1, .v (.int .i64) a0.2.2.1, .v (.int .i64) a0.2.2.2.1, .v (.int .i64) a0.2.2.2.2.1, .v .bool a0.2.2.2.2.2.1, .v (.sl (.int .i64)) a0.2.2.2.2.2.2] 41, bx [.v (.int .i64) (0 : Int), .v .str ByteArray.empty, .v (.int .i64) (0 : Int), .v (.int .i64) (0 : Int), .v (.int .i64) (0 : Int), .v .bool false, .nil] 44, bx [.v (.int .i64) a0.1, .v .str a0.2.1, .v (.int .i64) a0.2.2.1, .v (.int .i64) (0 : Int), .v (.int .i64) (0 : Int), .v .bool false, .nil] 44]⟩ (tn 4) ?_
  refine sR T_ok [1, 2, 3] [0, 1, 2] ⟨[(1, .lf (.ptr 0 0 0 0)), (2, .lf (.ptr 1 0 0 0)), (3, .lf (.ptr 2 0 0 0))], [bx [.v (.int .i64) a0.1, .v .str a0.2.1, .v (.int .i64) a0.2.2.1, .v (.int .i64) a0.2.2.2.1, .v (.int .i64) a0.2.2.2.2.1, .v .bool a0.2.2.2.2.2.1, .v (.sl (.int .i64)) a0.2.2.2.2.2.2] 41, bx [.v (.int .i64) (0 : Int), .v .str ByteArray.empty, .v (.int .i64) (0 : Int), .v (.int .i64) (0 : Int), .v (.int .i64) (0 : Int), .v .bool false, .nil] 44, bx [.v (.int .i64) a0.1, .v .str a0.2.1, .v (.int .i64) a0.2.2.1, .v (.int .i64) a0.2.2.2.1, .v (.int .i64) (0 : Int), .v .bool false, .nil] 44]⟩ (tn 4) ?_
  refine sR T_ok [1, 2, 3] [0, 1, 2] ⟨[(1, .lf (.ptr 0 0 0 0)), (2, .lf (.ptr 1 0 0 0)), (3, .lf (.ptr 2 0 0 0))], [bx [.v (.int .i64) a0.1, .v .str a0.2.1, .v (.int .i64) a0.2.2.1, .v (.int .i64) a0.2.2.2.1, .v (.int .i64) a0.2.2.2.2.1, .v .bool a0.2.2.2.2.2.1, .v (.sl (.int .i64)) a0.2.2.2.2.2.2] 41, bx [.v (.int .i64) (0 : Int), .v .str ByteArray.empty, .v (.int .i64) (0 : Int), .v (.int .i64) (0 : Int), .v (.int .i64) (0 : Int), .v .bool false, .nil] 44, bx [.v (.int .i64) a0.1, .v .str a0.2.1, .v (.int .i64) a0.2.2.1, .v (.int .i64) a0.2.2.2.1, .v (.int .i64) a0.2.2.2.2.1, .v .bool false, .nil] 44]⟩ (tn 4) ?_
  refine sR T_ok [1, 2, 3] [0, 1, 2] ⟨[(1, .lf (.ptr 0 0 0 0)), (2, .lf (.ptr 1 0 0 0)), (3, .lf (.ptr 2 0 0 0))], [bx [.v (.int .i64) a0.1, .v .str a0.2.1, .v (.int .i64) a0.2.2.1, .v (.int .i64) a0.2.2.2.1, .v (.int .i64) a0.2.2.2.2.1, .v .bool a0.2.2.2.2.2.1, .v (.sl (.int .i64)) a0.2.2.2.2.2.2] 41, bx [.v (.int .i64) (0 : Int), .v .str ByteArray.empty, .v (.int .i64) (0 : Int), .v (.int .i64) (0 : Int), .v (.int .i64) (0 : Int), .v .bool false, .nil] 44, bx [.v (.int .i64) a0.1, .v .str a0.2.1, .v (.int .i64) a0.2.2.1, .v (.int .i64) a0.2.2.2.1, .v (.int .i64) a0.2.2.2.2.1, .v .bool a0.2.2.2.2.2.1, .nil] 44]⟩ (tn 4) ?_
  refine VW.seq ?_
  refine VW.region ?_
  refine sG T_ok 2 [2, 3, 23] [1, 2] ⟨[(2, .lf (.ptr 0 0 0 0)), (3, .lf (.ptr 1 0 0 0)), (23, .lf (.v (.sl (.int .i64)) a0.2.2.2.2.2.2))], [bx [.v (.int .i64) (0 : Int), .v .str ByteArray.empty, .v (.int .i64) (0 : Int), .v (.int .i64) (0 : Int), .v (.int .i64) (0 : Int), .v .bool false, .nil] 44, bx [.v (.int .i64) a0.1, .v .str a0.2.1, .v (.int .i64) a0.2.2.1, .v (.int .i64) a0.2.2.2.1, .v (.int .i64) a0.2.2.2.2.1, .v .bool a0.2.2.2.2.2.1, .nil] 44]⟩ (tn 2) ?_
  obtain ⟨y1, hy, h⟩ := andO_some h
  refine cal false [.t (.sl (.int .i64))] [] (some 24) T_ok (ok9 N _ hy) ?_
  refine sN T_ok [2, 3] [0, 1, 2] ⟨[(2, .lf (.ptr 0 0 0 0)), (3, .lf (.ptr 1 0 0 0))], [bx [.v (.int .i64) (0 : Int), .v .str ByteArray.empty, .v (.int .i64) (0 : Int), .v (.int .i64) (0 : Int), .v (.int .i64) (0 : Int), .v .bool false, .nil] 44, bx [.v (.int .i64) a0.1, .v .str a0.2.1, .v (.int .i64) a0.2.2.1, .v (.int .i64) a0.2.2.2.1, .v (.int .i64) a0.2.2.2.2.1, .v .bool a0.2.2.2.2.2.1, .hd 2 0 none] 44, ar 0 (.int .i64) y1 .dp]⟩ (tn 2) ?_
  refine sR T_ok [2] [0, 2] ⟨[(2, .lf (.ptr 0 0 0 0))], [bx [.v (.int .i64) a0.1, .v .str a0.2.1, .v (.int .i64) a0.2.2.1, .v (.int .i64) a0.2.2.2.1, .v (.int .i64) a0.2.2.2.2.1, .v .bool a0.2.2.2.2.2.1, .hd 1 0 none] 44, ar 0 (.int .i64) y1 .dp]⟩ (tn 2) ?_
  refine VW.ret ?_
  replace h := Option.some.inj h
  subst h
  exact rt [some 1]

/- loop.example/g00844/laws.toNodeS -/
def F8_j0 (N : Nat) (x30 : (List (Int × (ByteArray × (Int × (Int × (Int × (Bool × (List Int))))))))) : Option ((List (Int × (ByteArray × (Int × (Int × (Int × (Bool × (List Int))))))))) :=
  some x30
def F8_l0_b (N : Nat) (a0 : (List (Int × (ByteArray × (Int × (Int × (Int × (Bool × (List Int))))))))) (nx51 : (List (Int × (ByteArray × (Int × (Int × (Int × (Bool × (List Int)))))))) → Int → Option ((List (Int × (ByteArray × (Int × (Int × (Int × (Bool × (List Int)))))))))) (x41 : (List (Int × (ByteArray × (Int × (Int × (Int × (Bool × (List Int))))))))) (x42 : Int) : Option ((List (Int × (ByteArray × (Int × (Int × (Int × (Bool × (List Int))))))))) :=
  cond (decide (x42 < (a0.length : Int))) (gd (InR x42 a0.length) (andO (F24 N (a0.getD x42.toNat (Ty.dflt Y40))) fun y57 => gd (InR x42 x41.length) (gd (x42.toNat < x41.length) (nx51 (x41.set x42.toNat y57) (IntKind.i64.wrap (x42 + (1 : Int))))))) (F8_j0 N x41)
def F8_l0 (N : Nat) (a0 : (List (Int × (ByteArray × (Int × (Int × (Int × (Bool × (List Int))))))))) : Nat → (List (Int × (ByteArray × (Int × (Int × (Int × (Bool × (List Int)))))))) → Int → Option ((List (Int × (ByteArray × (Int × (Int × (Int × (Bool × (List Int))))))))) := loopF (F8_l0_b N a0) (fun _ _ => none)
theorem F8_l0_s (N : Nat) (a0 : (List (Int × (ByteArray × (Int × (Int × (Int × (Bool × (List Int))))))))) {k : Nat} (hk : 0 < k) (x41 : (List (Int × (ByteArray × (Int × (Int × (Int × (Bool × (List Int))))))))) (x42 : Int) : F8_l0 N a0 k x41 x42 = F8_l0_b N a0 (F8_l0 N a0 (k - 1)) x41 x42 := by
  cases k with
  | zero => exact absurd hk (Nat.lt_irrefl 0)
  | succ m => rfl
def F8 (N : Nat) (a0 : (List (Int × (ByteArray × (Int × (Int × (Int × (Bool × (List Int))))))))) : Option ((List (Int × (ByteArray × (Int × (Int × (Int × (Bool × (List Int))))))))) :=
  gd (0 ≤ (a0.length : Int) ∧ (a0.length : Int) ≤ (lim Y40 : Int) ∧ (a0.length : Int) = (a0.length : Int)) (F8_l0 N a0 N (List.replicate (a0.length : Int).toNat (Ty.dflt Y40)) (0 : Int))
theorem ok8 (N : Nat) (a0 : (List (Int × (ByteArray × (Int × (Int × (Int × (Bool × (List Int))))))))) {r : (List (Int × (ByteArray × (Int × (Int × (Int × (Bool × (List Int))))))))} (h : F8 N a0 = some r) : Con Go.Proofs.Try.prog 8 [.lf (.v (.sl Y40) a0)] [.lf (.own Y40 r .dp)] := by
  refine ctr [.lf (.own Y40 .dp)] T_ok Go.Proofs.Try.func8 rfl fun w0 E0 => ?_
  unfold F8 at h
  show VW _ _ _ _ _ (retQ _ _ _ _) _
  refine sR T_ok [0] [] ⟨[(0, .lf (.v (.sl Y40) a0))], []⟩ (tn 1) ?_
  obtain ⟨g1, h⟩ := gd_some h
  refine sR T_ok [0, 3] [0] ⟨[(0, .lf (.v (.sl Y40) a0)), (3, .lf (.hd 0 0 none))], [ar 0 Y40 (List.replicate (a0.length : Int).toNat (Ty.dflt Y40)) .dp]⟩ (pu 2 (an g1 (tn 1))) ?_
  refine VW.join (fun s => ∃ (x30 : (List (Int × (ByteArray × (Int × (Int × (Int × (Bool × (List Int))))))))), s = ⟨[(3, .lf (.hd 0 0 none))], [ar 0 Y40 x30 .dp]⟩ ∧ F8_j0 N x30 = some r) ?_ ?_
  · refine sR T_ok [0, 3, 4] [0] ⟨[(0, .lf (.v (.sl Y40) a0)), (3, .lf (.hd 0 0 none)), (4, I (0 : Int))], [ar 0 Y40 (List.replicate (a0.length : Int).toNat (Ty.dflt Y40)) .dp]⟩ (tn 1) ?_
    refine VW.block ?_
    refine lop (fun k s => ∃ (x41 : (List (Int × (ByteArray × (Int × (Int × (Int × (Bool × (List Int))))))))) (x42 : Int), s = ⟨[(0, .lf (.v (.sl Y40) a0)), (3, .lf (.hd 0 0 none)), (4, I x42)], [ar 0 Y40 x41 .dp]⟩ ∧ F8_l0 N a0 k x41 x42 = some r) N [.ren [0, 3, 4] [0]] ⟨(List.replicate (a0.length : Int).toNat (Ty.dflt Y40)), (0 : Int), rfl, h⟩ ?_
    rintro k51 s ⟨x41, x42, rfl, h⟩
    cases k51 with
    | zero => cases show none = some r from h
    | succ k51 =>
      replace h : F8_l0_b N a0 (F8_l0 N a0 k51) x41 x42 = some r := h
      unfold F8_l0_b at h
      refine VW.seq ?_
      refine sR T_ok [0, 3, 4, 11] [0] ⟨[(0, .lf (.v (.sl Y40) a0)), (3, .lf (.hd 0 0 none)), (4, I x42), (11, B (decide (x42 < (a0.length : Int))))], [ar 0 Y40 x41 .dp]⟩ (tn 4) ?_
      refine cnd h (fun h => ?_) (fun h => ?_)
      · refine VW.skip ?_
        refine VW.seq ?_
        refine VW.block ?_
        refine VW.region ?_
        obtain ⟨g56, h⟩ := gd_some h
        refine sG T_ok 6 [0, 3, 4, 14, 15, 19] [0] ⟨[(0, .lf (.v (.sl Y40) a0)), (3, .lf (.hd 0 0 none)), (4, I x42), (14, .lf (.hd 0 0 none)), (15, I x42), (19, .agg [.v (.int .i64) ((a0.getD x42.toNat (Ty.dflt Y40)).1), .v .str ((a0.getD x42.toNat (Ty.dflt Y40)).2.1), .v (.int .i64) ((a0.getD x42.toNat (Ty.dflt Y40)).2.2.1), .v (.int .i64) ((a0.getD x42.toNat (Ty.dflt Y40)).2.2.2.1), .v (.int .i64) ((a0.getD x42.toNat (Ty.dflt Y40)).2.2.2.2.1), .v .bool ((a0.getD x42.toNat (Ty.dflt Y40)).2.2.2.2.2.1), .v (.sl (.int .i64)) ((a0.getD x42.toNat (Ty.dflt Y40)).2.2.2.2.2.2)])], [ar 0 Y40 x41 .dp]⟩ (pu 4 (an g56 (tn 1))) ?_
        obtain ⟨y57, hy, h⟩ := andO_some h
        refine cal false [.t Y40] [] (some 20) T_ok (ok24 N _ hy) ?_
        obtain ⟨g58, h⟩ := gd_some h
        refine sG T_ok 1 [0, 3, 4, 20, 21] [0, 1] ⟨[(0, .lf (.v (.sl Y40) a0)), (3, .lf (.hd 0 0 none)), (4, I x42), (20, .agg [.v (.int .i64) y57.1, .v .str y57.2.1, .v (.int .i64) y57.2.2.1, .v (.int .i64) y57.2.2.2.1, .v (.int .i64) y57.2.2.2.2.1, .v .bool y57.2.2.2.2.2.1, .hd 1 0 none]), (21, .lf (.ptr 0 0 x42.toNat 0))], [ar 0 Y40 x41 .dp, ar 0 (.int .i64) y57.2.2.2.2.2.2 .dp]⟩ (an g58 (tn 0)) ?_
        obtain ⟨g59, h⟩ := gd_some h
        refine VO.storeA (φ := x42.toNat < x41.length) (H' := [ar 0 Y40 (x41.set x42.toNat y57) .dp, none]) T_ok (by kernel_rfl) g59 ?_
        refine sN T_ok [0, 3, 4] [0] ⟨[(0, .lf (.v (.sl Y40) a0)), (3, .lf (.hd 0 0 none)), (4, I x42)], [ar 0 Y40 (x41.set x42.toNat y57) .dp]⟩ (tn 0) ?_
        refine rR T_ok [0, 3, 4] [0] ⟨[(0, .lf (.v (.sl Y40) a0)), (3, .lf (.hd 0 0 none)), (4, I (IntKind.i64.wrap (x42 + (1 : Int))))], [ar 0 Y40 (x41.set x42.toNat y57) .dp]⟩ (tn 3) ?_
        exact aro [.ren [0, 3, 4] [0]] ⟨(x41.set x42.toNat y57), (IntKind.i64.wrap (x42 + (1 : Int))), rfl, h⟩
      refine VW.exit ?_
      exact arv [.ren [3] [0]] ⟨x41, rfl, h⟩
  rintro s ⟨x30, rfl, h⟩
  unfold F8_j0 at h
  refine sR T_ok [2] [0] ⟨[(2, .lf (.hd 0 0 none))], [ar 0 Y40 x30 .dp]⟩ (tn 2) ?_
  refine VW.ret ?_
  replace h := Option.some.inj h
  subst h
  exact rt [some 0]

/- loop.example/g00844/impl.in -/
def F40 (N : Nat) (a0 : Int) (a1 : Int) (a2 : Int) : Option (Bool) :=
  cond (decide (a0 ≥ a1)) (some (decide (a0 ≤ a2))) (some false)
theorem ok40 (N : Nat) (a0 : Int) (a1 : Int) (a2 : Int) {r : Bool} (h : F40 N a0 a1 a2 = some r) : Con Go.Proofs.Try.prog 40 [I a0, I a1, I a2] [.lf (.v .bool r)] := by
  refine ctr [.lf (.v .bool)] T_ok Go.Proofs.Try.func40 rfl fun w0 E0 => ?_
  unfold F40 at h
  show VW _ _ _ _ _ (retQ _ _ _ _) _
  refine sR T_ok [0, 1, 2] [] ⟨[(0, I a0), (1, I a1), (2, I a2)], []⟩ (tn 1) ?_
  refine VW.seq ?_
  refine VW.region ?_
  refine sG T_ok 4 [0, 2, 10] [] ⟨[(0, I a0), (2, I a2), (10, B (decide (a0 ≥ a1)))], []⟩ (tn 4) ?_
  refine spB 10 h (fun h => ?_) (fun h => ?_)
  · refine sN T_ok [6] [] ⟨[(6, B (decide (a0 ≤ a2)))], []⟩ (tn 5) ?_
    refine VW.ret ?_
    replace h := Option.some.inj h
    subst h
    exact rt []
  refine sN T_ok [6] [] ⟨[(6, B false)], []⟩ (tn 5) ?_
  refine VW.ret ?_
  replace h := Option.some.inj h
  subst h
  exact rt []

/- slices.IndexFunc[[]loop.example/g00844/impl.Node,loop.example/g00844/impl.Node] -/
def F52_j0 (N : Nat) : Option (Int) :=
  some (-1 : Int)
def F52_l0_b (N : Nat) (a0 : (List (Int × (ByteArray × (Int × (Int × (Int × (Bool × (List Int))))))))) (p1 : (Int × (ByteArray × (Int × (Int × (Int × (Bool × (List Int))))))) → Option (Bool)) (nx29 : Int → Int → Option (Int)) (x23 : Int) (x24 : Int) : Option (Int) :=
  cond (decide (x24 < x23)) (gd (InR x24 a0.length) (andO (p1 (a0.getD x24.toNat (Ty.dflt Y40))) fun y33 => cond y33 (some x24) (nx29 x23 (IntKind.i64.wrap (x24 + (1 : Int)))))) (F52_j0 N)
def F52_l0 (N : Nat) (a0 : (List (Int × (ByteArray × (Int × (Int × (Int × (Bool × (List Int))))))))) (p1 : (Int × (ByteArray × (Int × (Int × (Int × (Bool × (List Int))))))) → Option (Bool)) : Nat → Int → Int → Option (Int) := loopF (F52_l0_b N a0 p1) (fun _ _ => none)
theorem F52_l0_s (N : Nat) (a0 : (List (Int × (ByteArray × (Int × (Int × (Int × (Bool × (List Int))))))))) (p1 : (Int × (ByteArray × (Int × (Int × (Int × (Bool × (List Int))))))) → Option (Bool)) {k : Nat} (hk : 0 < k) (x23 : Int) (x24 : Int) : F52_l0 N a0 p1 k x23 x24 = F52_l0_b N a0 p1 (F52_l0 N a0 p1 (k - 1)) x23 x24 := by
  cases k with
  | zero => exact absurd hk (Nat.lt_irrefl 0)
  | succ m => rfl
def F52 (N : Nat) (a0 : (List (Int × (ByteArray × (Int × (Int × (Int × (Bool × (List Int))))))))) (p1 : (Int × (ByteArray × (Int × (Int × (Int × (Bool × (List Int))))))) → Option (Bool)) : Option (Int) :=
  F52_l0 N a0 p1 N (a0.length : Int) (0 : Int)
theorem ok52 (N : Nat) (a0 : (List (Int × (ByteArray × (Int × (Int × (Int × (Bool × (List Int))))))))) (g1 : FuncId) (p1 : (Int × (ByteArray × (Int × (Int × (Int × (Bool × (List Int))))))) → Option (Bool)) (hp1 : ∀ (z0 : (Int × (ByteArray × (Int × (Int × (Int × (Bool × (List Int)))))))) (r : Bool), p1 z0 = some r → Con Go.Proofs.Try.prog g1 [.agg [.v (.int .i64) z0.1, .v .str z0.2.1, .v (.int .i64) z0.2.2.1, .v (.int .i64) z0.2.2.2.1, .v (.int .i64) z0.2.2.2.2.1, .v .bool z0.2.2.2.2.2.1, .v (.sl (.int .i64)) z0.2.2.2.2.2.2]] [.lf (.v .bool r)]) {r : Int} (h : F52 N a0 p1 = some r) : Con Go.Proofs.Try.prog 52 [.lf (.v (.sl Y40) a0), .clo g1 []] [.lf (.v (.int .i64) r)] := by
  refine ctr [.lf (.v (.int .i64))] T_ok Go.Proofs.Try.func52 rfl fun w0 E0 => ?_
  unfold F52 at h
  show VW _ _ _ _ _ (retQ _ _ _ _) _
  refine sR T_ok [0, 1] [] ⟨[(0, .lf (.v (.sl Y40) a0)), (1, .clo g1 [])], []⟩ (tn 1) ?_
  refine VW.join (fun s => s = ⟨[], []⟩ ∧ F52_j0 N = some r) ?_ ?_
  · refine sR T_ok [0, 1, 7, 8] [] ⟨[(0, .lf (.v (.sl Y40) a0)), (1, .clo g1 []), (7, I (a0.length : Int)), (8, I (0 : Int))], []⟩ (tn 3) ?_
    refine VW.block ?_
    refine lop (fun k s => ∃ (x23 : Int) (x24 : Int), s = ⟨[(0, .lf (.v (.sl Y40) a0)), (1, .clo g1 []), (7, I x23), (8, I x24)], []⟩ ∧ F52_l0 N a0 p1 k x23 x24 = some r) N [.ren [0, 1, 7, 8] []] ⟨(a0.length : Int), (0 : Int), rfl, h⟩ ?_
    rintro k29 s ⟨x23, x24, rfl, h⟩
    cases k29 with
    | zero => cases show none = some r from h
    | succ k29 =>
      replace h : F52_l0_b N a0 p1 (F52_l0 N a0 p1 k29) x23 x24 = some r := h
      unfold F52_l0_b at h
      refine sR T_ok [0, 1, 7, 8, 9] [] ⟨[(0, .lf (.v (.sl Y40) a0)), (1, .clo g1 []), (7, I x23), (8, I x24), (9, B (decide (x24 < x23)))], []⟩ (tn 1) ?_
      refine VW.seq ?_
      refine cnd h (fun h => ?_) (fun h => ?_)
      · refine VW.skip ?_
        refine VW.seq ?_
        refine VW.block ?_
        refine sR T_ok [0, 1, 5, 7, 8] [] ⟨[(0, .lf (.v (.sl Y40) a0)), (1, .clo g1 []), (5, I x24), (7, I x23), (8, I x24)], []⟩ (tn 2) ?_
        refine VW.seq ?_
        refine VW.region ?_
        obtain ⟨g32, h⟩ := gd_some h
        refine sG T_ok 5 [0, 1, 5, 7, 8, 11, 15] [] ⟨[(0, .lf (.v (.sl Y40) a0)), (1, .clo g1 []), (5, I x24), (7, I x23), (8, I x24), (11, .clo g1 []), (15, .agg [.v (.int .i64) ((a0.getD x24.toNat (Ty.dflt Y40)).1), .v .str ((a0.getD x24.toNat (Ty.dflt Y40)).2.1), .v (.int .i64) ((a0.getD x24.toNat (Ty.dflt Y40)).2.2.1), .v (.int .i64) ((a0.getD x24.toNat (Ty.dflt Y40)).2.2.2.1), .v (.int .i64) ((a0.getD x24.toNat (Ty.dflt Y40)).2.2.2.2.1), .v .bool ((a0.getD x24.toNat (Ty.dflt Y40)).2.2.2.2.2.1), .v (.sl (.int .i64)) ((a0.getD x24.toNat (Ty.dflt Y40)).2.2.2.2.2.2)])], []⟩ (pu 3 (an g32 (tn 1))) ?_
        obtain ⟨y33, hy, h⟩ := andO_some h
        refine cal false [.t Y40] [] (some 16) T_ok (hp1 _ _ hy) ?_
        refine sN T_ok [0, 1, 5, 7, 8, 16] [] ⟨[(0, .lf (.v (.sl Y40) a0)), (1, .clo g1 []), (5, I x24), (7, I x23), (8, I x24), (16, B y33)], []⟩ (tn 0) ?_
        refine cnd h (fun h => ?_) (fun h => ?_)
        · refine sR T_ok [4] [] ⟨[(4, I x24)], []⟩ (tn 2) ?_
          refine VW.ret ?_
          replace h := Option.some.inj h
          subst h
          exact rt []
        refine VW.skip ?_
        refine rR T_ok [0, 1, 7, 8] [] ⟨[(0, .lf (.v (.sl Y40) a0)), (1, .clo g1 []), (7, I x23), (8, I (IntKind.i64.wrap (x24 + (1 : Int))))], []⟩ (tn 2) ?_
        exact aro [.ren [0, 1, 7, 8] []] ⟨x23, (IntKind.i64.wrap (x24 + (1 : Int))), rfl, h⟩
      refine VW.exit ?_
      exact arv [.ren [] []] ⟨rfl, h⟩
  rintro s ⟨rfl, h⟩
  unfold F52_j0 at h
  refine sR T_ok [4] [] ⟨[(4, I (-1 : Int))], []⟩ (tn 1) ?_
  refine VW.ret ?_
  replace h := Option.some.inj h
  subst h
  exact rt []

/- slices.ContainsFunc[[]loop.example/g00844/impl.Node,loop.example/g00844/impl.Node] -/
def F41 (N : Nat) (a0 : (List (Int × (ByteArray × (Int × (Int × (Int × (Bool × (List Int))))))))) (p1 : (Int × (ByteArray × (Int × (Int × (Int × (Bool × (List Int))))))) → Option (Bool)) : Option (Bool) :=
  andO (F52 N a0 p1) fun y1 => some (decide (y1 ≥ (0 : Int)))
theorem ok41 (N : Nat) (a0 : (List (Int × (ByteArray × (Int × (Int × (Int × (Bool × (List Int))))))))) (g1 : FuncId) (p1 : (Int × (ByteArray × (Int × (Int × (Int × (Bool × (List Int))))))) → Option (Bool)) (hp1 : ∀ (z0 : (Int × (ByteArray × (Int × (Int × (Int × (Bool × (List Int)))))))) (r : Bool), p1 z0 = some r → Con Go.Proofs.Try.prog g1 [.agg [.v (.int .i64) z0.1, .v .str z0.2.1, .v (.int .i64) z0.2.2.1, .v (.int .i64) z0.2.2.2.1, .v (.int .i64) z0.2.2.2.2.1, .v .bool z0.2.2.2.2.2.1, .v (.sl (.int .i64)) z0.2.2.2.2.2.2]] [.lf (.v .bool r)]) {r : Bool} (h : F41 N a0 p1 = some r) : Con Go.Proofs.Try.prog 41 [.lf (.v (.sl Y40) a0), .clo g1 []] [.lf (.v .bool r)] := by
  refine ctr [.lf (.v .bool)] T_ok Go.Proofs.Try.func41 rfl fun w0 E0 => ?_
  unfold F41 at h
  show VW _ _ _ _ _ (retQ _ _ _ _) _
  refine sR T_ok [0, 1] [] ⟨[(0, .lf (.v (.sl Y40) a0)), (1, .clo g1 [])], []⟩ (tn 1) ?_
  refine VW.seq ?_
  refine VW.region ?_
  refine sG T_ok 2 [5, 6] [] ⟨[(5, .lf (.v (.sl Y40) a0)), (6, .clo g1 [])], []⟩ (tn 2) ?_
  obtain ⟨y1, hy, h⟩ := andO_some h
  refine cal false [.t (.sl Y40), .clo []] [] (some 7) T_ok (ok52 N _ g1  p1 hp1 hy) ?_
  refine sN T_ok [4] [] ⟨[(4, B (decide (y1 ≥ (0 : Int))))], []⟩ (tn 2) ?_
  refine VW.ret ?_
  replace h := Option.some.inj h
  subst h
  exact rt []

/- loop.example/g00844/impl.WordOk -/
def F53_j0 (N : Nat) (a0 : ByteArray) : Option (Bool) :=
  andO (F40 N (a0.size : Int) (1 : Int) (12 : Int)) fun y14 => some y14
def F53_j1 (N : Nat) (nx25 : Int → Int → Option (Bool)) (x20 : Int) (x21 : Int) : Option (Bool) :=
  nx25 x20 (IntKind.i64.wrap (x21 + (1 : Int)))
def F53_l0_b (N : Nat) (a0 : ByteArray) (nx25 : Int → Int → Option (Bool)) (x20 : Int) (x21 : Int) : Option (Bool) :=
  cond (decide (x21 < x20)) (gd (InR x21 a0.size) (cond (decide (((a0.data.getD x21.toNat 0).toNat : Int) ≥ (97 : Int))) (cond (!(decide (((a0.data.getD x21.toNat 0).toNat : Int) ≤ (122 : Int)))) (cond (x21 == (0 : Int)) (some false) (cond (decide (((a0.data.getD x21.toNat 0).toNat : Int) < (48 : Int))) (some false) (cond (decide (((a0.data.getD x21.toNat 0).toNat : Int) > (57 : Int))) (some false) (F53_j1 N nx25 x20 x21)))) (F53_j1 N nx25 x20 x21)) (cond (x21 == (0 : Int)) (some false) (cond (decide (((a0.data.getD x21.toNat 0).toNat : Int) < (48 : Int))) (some false) (cond (decide (((a0.data.getD x21.toNat 0).toNat : Int) > (57 : Int))) (some false) (F53_j1 N nx25 x20 x21)))))) (F53_j0 N a0)
def F53_l0 (N : Nat) (a0 : ByteArray) : Nat → Int → Int → Option (Bool) := loopF (F53_l0_b N a0) (fun _ _ => none)
theorem F53_l0_s (N : Nat) (a0 : ByteArray) {k : Nat} (hk : 0 < k) (x20 : Int) (x21 : Int) : F53_l0 N a0 k x20 x21 = F53_l0_b N a0 (F53_l0 N a0 (k - 1)) x20 x21 := by
  cases k with
  | zero => exact absurd hk (Nat.lt_irrefl 0)
  | succ m => rfl
def F53 (N : Nat) (a0 : ByteArray) : Option (Bool) :=
  F53_l0 N a0 N (a0.size : Int) (0 : Int)
theorem ok53 (N : Nat) (a0 : ByteArray) {r : Bool} (h : F53 N a0 = some r) : Con Go.Proofs.Try.prog 53 [S a0] [.lf (.v .bool r)] := by
  refine ctr [.lf (.v .bool)] T_ok Go.Proofs.Try.func53 rfl fun w0 E0 => ?_
  unfold F53 at h
  show VW _ _ _ _ _ (retQ _ _ _ _) _
  refine sR T_ok [0] [] ⟨[(0, S a0)], []⟩ (tn 1) ?_
  refine VW.join (fun s => s = ⟨[(0, S a0)], []⟩ ∧ F53_j0 N a0 = some r) ?_ ?_
  · refine sR T_ok [0, 7, 8] [] ⟨[(0, S a0), (7, I (a0.size : Int)), (8, I (0 : Int))], []⟩ (tn 3) ?_
    refine VW.block ?_
    refine lop (fun k s => ∃ (x20 : Int) (x21 : Int), s = ⟨[(0, S a0), (7, I x20), (8, I x21)], []⟩ ∧ F53_l0 N a0 k x20 x21 = some r) N [.ren [0, 7, 8] []] ⟨(a0.size : Int), (0 : Int), rfl, h⟩ ?_
    rintro k25 s ⟨x20, x21, rfl, h⟩
    cases k25 with
    | zero => cases show none = some r from h
    | succ k25 =>
      replace h : F53_l0_b N a0 (F53_l0 N a0 k25) x20 x21 = some r := h
      unfold F53_l0_b at h
      refine sR T_ok [0, 7, 8, 9] [] ⟨[(0, S a0), (7, I x20), (8, I x21), (9, B (decide (x21 < x20)))], []⟩ (tn 1) ?_
      refine VW.seq ?_
      refine cnd h (fun h => ?_) (fun h => ?_)
      · refine VW.skip ?_
        refine VW.join (fun s => s = ⟨[(0, S a0), (7, I x20), (8, I x21)], []⟩ ∧ F53_j1 N (F53_l0 N a0 k25) x20 x21 = some r) ?_ ?_
        · refine VW.block ?_
          refine sR T_ok [0, 3, 7, 8] [] ⟨[(0, S a0), (3, I x21), (7, I x20), (8, I x21)], []⟩ (tn 2) ?_
          obtain ⟨g28, h⟩ := gd_some h
          refine sR T_ok [0, 3, 4, 7, 8] [] ⟨[(0, S a0), (3, I x21), (4, U ((a0.data.getD x21.toNat 0).toNat : Int)), (7, I x20), (8, I x21)], []⟩ (pu 2 (an g28 (tn 1))) ?_
          refine VW.seq ?_
          refine VW.region ?_
          refine sG T_ok 3 [0, 3, 4, 7, 8, 16] [] ⟨[(0, S a0), (3, I x21), (4, U ((a0.data.getD x21.toNat 0).toNat : Int)), (7, I x20), (8, I x21), (16, B (decide (((a0.data.getD x21.toNat 0).toNat : Int) ≥ (97 : Int))))], []⟩ (tn 3) ?_
          refine spB 16 h (fun h => ?_) (fun h => ?_)
          · refine sN T_ok [0, 3, 4, 5, 7, 8] [] ⟨[(0, S a0), (3, I x21), (4, U ((a0.data.getD x21.toNat 0).toNat : Int)), (5, B (decide (((a0.data.getD x21.toNat 0).toNat : Int) ≤ (122 : Int)))), (7, I x20), (8, I x21)], []⟩ (tn 4) ?_
            refine VW.seq ?_
            refine VW.region ?_
            refine sG T_ok 3 [0, 3, 4, 7, 8, 22] [] ⟨[(0, S a0), (3, I x21), (4, U ((a0.data.getD x21.toNat 0).toNat : Int)), (7, I x20), (8, I x21), (22, B (!(decide (((a0.data.getD x21.toNat 0).toNat : Int) ≤ (122 : Int)))))], []⟩ (tn 3) ?_
            refine spB 22 h (fun h => ?_) (fun h => ?_)
            · refine sG T_ok 3 [0, 4, 7, 8, 22, 25] [] ⟨[(0, S a0), (4, U ((a0.data.getD x21.toNat 0).toNat : Int)), (7, I x20), (8, I x21), (22, B true), (25, B (x21 == (0 : Int)))], []⟩ (tn 3) ?_
              refine spB 25 h (fun h => ?_) (fun h => ?_)
              · refine sN T_ok [0, 7, 8, 33] [] ⟨[(0, S a0), (7, I x20), (8, I x21), (33, B true)], []⟩ (tn 8) ?_
                refine VW.cond (b := true) (by kernel_rfl) (fun _ => ?_) (fun h' => nomatch h')
                refine sR T_ok [2] [] ⟨[(2, B false)], []⟩ (tn 1) ?_
                refine VW.ret ?_
                replace h := Option.some.inj h
                subst h
                exact rt []
              refine sG T_ok 4 [0, 4, 7, 8, 22, 29] [] ⟨[(0, S a0), (4, U ((a0.data.getD x21.toNat 0).toNat : Int)), (7, I x20), (8, I x21), (22, B true), (29, B (decide (((a0.data.getD x21.toNat 0).toNat : Int) < (48 : Int))))], []⟩ (tn 4) ?_
              refine spB 29 h (fun h => ?_) (fun h => ?_)
              · refine sN T_ok [0, 7, 8, 33] [] ⟨[(0, S a0), (7, I x20), (8, I x21), (33, B true)], []⟩ (tn 4) ?_
                refine VW.cond (b := true) (by kernel_rfl) (fun _ => ?_) (fun h' => nomatch h')
                refine sR T_ok [2] [] ⟨[(2, B false)], []⟩ (tn 1) ?_
                refine VW.ret ?_
                replace h := Option.some.inj h
                subst h
                exact rt []
              refine sN T_ok [0, 7, 8, 33] [] ⟨[(0, S a0), (7, I x20), (8, I x21), (33, B (decide (((a0.data.getD x21.toNat 0).toNat : Int) > (57 : Int))))], []⟩ (tn 4) ?_
              refine cnd h (fun h => ?_) (fun h => ?_)
              · refine sR T_ok [2] [] ⟨[(2, B false)], []⟩ (tn 1) ?_
                refine VW.ret ?_
                replace h := Option.some.inj h
                subst h
                exact rt []
              refine VW.skip ?_
              exact arv [.ren [0, 7, 8] []] ⟨rfl, h⟩
            refine sN T_ok [0, 7, 8, 33] [] ⟨[(0, S a0), (7, I x20), (8, I x21), (33, B false)], []⟩ (tn 11) ?_
            refine VW.cond (b := false) (by kernel_rfl) (fun h' => nomatch h') (fun _ => ?_)
            refine VW.skip ?_
            exact arv [.ren [0, 7, 8] []] ⟨rfl, h⟩
          refine sN T_ok [0, 3, 4, 5, 7, 8] [] ⟨[(0, S a0), (3, I x21), (4, U ((a0.data.getD x21.toNat 0).toNat : Int)), (5, B false), (7, I x20), (8, I x21)], []⟩ (tn 4) ?_
          refine VW.seq ?_
          refine VW.region ?_
          refine sG T_ok 6 [0, 4, 7, 8, 22, 25] [] ⟨[(0, S a0), (4, U ((a0.data.getD x21.toNat 0).toNat : Int)), (7, I x20), (8, I x21), (22, B true), (25, B (x21 == (0 : Int)))], []⟩ (tn 6) ?_
          refine spB 25 h (fun h => ?_) (fun h => ?_)
          · refine sN T_ok [0, 7, 8, 33] [] ⟨[(0, S a0), (7, I x20), (8, I x21), (33, B true)], []⟩ (tn 8) ?_
            refine VW.cond (b := true) (by kernel_rfl) (fun _ => ?_) (fun h' => nomatch h')
            refine sR T_ok [2] [] ⟨[(2, B false)], []⟩ (tn 1) ?_
            refine VW.ret ?_
            replace h := Option.some.inj h
            subst h
            exact rt []
          refine sG T_ok 4 [0, 4, 7, 8, 22, 29] [] ⟨[(0, S a0), (4, U ((a0.data.getD x21.toNat 0).toNat : Int)), (7, I x20), (8, I x21), (22, B true), (29, B (decide (((a0.data.getD x21.toNat 0).toNat : Int) < (48 : Int))))], []⟩ (tn 4) ?_
          refine spB 29 h (fun h => ?_) (fun h => ?_)
          · refine sN T_ok [0, 7, 8, 33] [] ⟨[(0, S a0), (7, I x20), (8, I x21), (33, B true)], []⟩ (tn 4) ?_
            refine VW.cond (b := true) (by kernel_rfl) (fun _ => ?_) (fun h' => nomatch h')
            refine sR T_ok [2] [] ⟨[(2, B false)], []⟩ (tn 1) ?_
            refine VW.ret ?_
            replace h := Option.some.inj h
            subst h
            exact rt []
          refine sN T_ok [0, 7, 8, 33] [] ⟨[(0, S a0), (7, I x20), (8, I x21), (33, B (decide (((a0.data.getD x21.toNat 0).toNat : Int) > (57 : Int))))], []⟩ (tn 4) ?_
          refine cnd h (fun h => ?_) (fun h => ?_)
          · refine sR T_ok [2] [] ⟨[(2, B false)], []⟩ (tn 1) ?_
            refine VW.ret ?_
            replace h := Option.some.inj h
            subst h
            exact rt []
          refine VW.skip ?_
          exact arv [.ren [0, 7, 8] []] ⟨rfl, h⟩
        rintro s ⟨rfl, h⟩
        unfold F53_j1 at h
        refine rR T_ok [0, 7, 8] [] ⟨[(0, S a0), (7, I x20), (8, I (IntKind.i64.wrap (x21 + (1 : Int))))], []⟩ (tn 2) ?_
        exact aro [.ren [0, 7, 8] []] ⟨x20, (IntKind.i64.wrap (x21 + (1 : Int))), rfl, h⟩
      refine VW.exit ?_
      exact arv [.ren [0] []] ⟨rfl, h⟩
  rintro s ⟨rfl, h⟩
  unfold F53_j0 at h
  refine VW.seq ?_
  refine VW.region ?_
  refine sG T_ok 2 [36] [] ⟨[(36, I (a0.size : Int))], []⟩ (tn 2) ?_
  obtain ⟨y14, hy, h⟩ := andO_some h
  refine cal false [.t (.int .i64), .t (.int .i64), .t (.int .i64)] [] (some 37) T_ok (ok40 N _ _ _ hy) ?_
  refine sN T_ok [2] [] ⟨[(2, B y14)], []⟩ (tn 1) ?_
  refine VW.ret ?_
  replace h := Option.some.inj h
  subst h
  exact rt []

/- loop.example/g00844/impl.isCol -/
def F54 (N : Nat) (a0 : Int) : Option (Bool) :=
  andO (F40 N a0 (0 : Int) (63 : Int)) fun y1 => some y1
theorem ok54 (N : Nat) (a0 : Int) {r : Bool} (h : F54 N a0 = some r) : Con Go.Proofs.Try.prog 54 [I a0] [.lf (.v .bool r)] := by
  refine ctr [.lf (.v .bool)] T_ok Go.Proofs.Try.func54 rfl fun w0 E0 => ?_
  unfold F54 at h
  show VW _ _ _ _ _ (retQ _ _ _ _) _
  refine sR T_ok [0] [] ⟨[(0, I a0)], []⟩ (tn 1) ?_
  refine VW.seq ?_
  refine VW.region ?_
  refine sG T_ok 1 [3] [] ⟨[(3, I a0)], []⟩ (tn 1) ?_
  obtain ⟨y1, hy, h⟩ := andO_some h
  refine cal false [.t (.int .i64), .t (.int .i64), .t (.int .i64)] [] (some 4) T_ok (ok40 N _ _ _ hy) ?_
  refine sN T_ok [2] [] ⟨[(2, B y1)], []⟩ (tn 1) ?_
  refine VW.ret ?_
  replace h := Option.some.inj h
  subst h
  exact rt []

/- loop.example/g00844/impl.isSlot -/
def F55 (N : Nat) (a0 : Int) : Option (Bool) :=
  andO (F40 N a0 (0 : Int) (39 : Int)) fun y1 => some y1
theorem ok55 (N : Nat) (a0 : Int) {r : Bool} (h : F55 N a0 = some r) : Con Go.Proofs.Try.prog 55 [I a0] [.lf (.v .bool r)] := by
  refine ctr [.lf (.v .bool)] T_ok Go.Proofs.Try.func55 rfl fun w0 E0 => ?_
  unfold F55 at h
  show VW _ _ _ _ _ (retQ _ _ _ _) _
  refine sR T_ok [0] [] ⟨[(0, I a0)], []⟩ (tn 1) ?_
  refine VW.seq ?_
  refine VW.region ?_
  refine sG T_ok 1 [3] [] ⟨[(3, I a0)], []⟩ (tn 1) ?_
  obtain ⟨y1, hy, h⟩ := andO_some h
  refine cal false [.t (.int .i64), .t (.int .i64), .t (.int .i64)] [] (some 4) T_ok (ok40 N _ _ _ hy) ?_
  refine sN T_ok [2] [] ⟨[(2, B y1)], []⟩ (tn 1) ?_
  refine VW.ret ?_
  replace h := Option.some.inj h
  subst h
  exact rt []

/- loop.example/g00844/impl.isNum -/
def F56 (N : Nat) (a0 : Int) : Option (Bool) :=
  andO (F40 N a0 (-1000000 : Int) (1000000 : Int)) fun y1 => some y1
theorem ok56 (N : Nat) (a0 : Int) {r : Bool} (h : F56 N a0 = some r) : Con Go.Proofs.Try.prog 56 [I a0] [.lf (.v .bool r)] := by
  refine ctr [.lf (.v .bool)] T_ok Go.Proofs.Try.func56 rfl fun w0 E0 => ?_
  unfold F56 at h
  show VW _ _ _ _ _ (retQ _ _ _ _) _
  refine sR T_ok [0] [] ⟨[(0, I a0)], []⟩ (tn 1) ?_
  refine VW.seq ?_
  refine VW.region ?_
  refine sG T_ok 1 [3] [] ⟨[(3, I a0)], []⟩ (tn 1) ?_
  obtain ⟨y1, hy, h⟩ := andO_some h
  refine cal false [.t (.int .i64), .t (.int .i64), .t (.int .i64)] [] (some 4) T_ok (ok40 N _ _ _ hy) ?_
  refine sN T_ok [2] [] ⟨[(2, B y1)], []⟩ (tn 1) ?_
  refine VW.ret ?_
  replace h := Option.some.inj h
  subst h
  exact rt []

/- slices.IndexFunc[[]int,int] -/
def F62_j0 (N : Nat) : Option (Int) :=
  some (-1 : Int)
def F62_l0_b (N : Nat) (a0 : (List Int)) (p1 : Int → Option (Bool)) (nx29 : Int → Int → Option (Int)) (x23 : Int) (x24 : Int) : Option (Int) :=
  cond (decide (x24 < x23)) (gd (InR x24 a0.length) (andO (p1 (a0.getD x24.toNat (Ty.dflt (.int .i64)))) fun y33 => cond y33 (some x24) (nx29 x23 (IntKind.i64.wrap (x24 + (1 : Int)))))) (F62_j0 N)
def F62_l0 (N : Nat) (a0 : (List Int)) (p1 : Int → Option (Bool)) : Nat → Int → Int → Option (Int) := loopF (F62_l0_b N a0 p1) (fun _ _ => none)
theorem F62_l0_s (N : Nat) (a0 : (List Int)) (p1 : Int → Option (Bool)) {k : Nat} (hk : 0 < k) (x23 : Int) (x24 : Int) : F62_l0 N a0 p1 k x23 x24 = F62_l0_b N a0 p1 (F62_l0 N a0 p1 (k - 1)) x23 x24 := by
  cases k with
  | zero => exact absurd hk (Nat.lt_irrefl 0)
  | succ m => rfl
def F62 (N : Nat) (a0 : (List Int)) (p1 : Int → Option (Bool)) : Option (Int) :=
  F62_l0 N a0 p1 N (a0.length : Int) (0 : Int)
theorem ok62 (N : Nat) (a0 : (List Int)) (g1 : FuncId) (p1 : Int → Option (Bool)) (hp1 : ∀ (z0 : Int) (r : Bool), p1 z0 = some r → Con Go.Proofs.Try.prog g1 [I z0] [.lf (.v .bool r)]) {r : Int} (h : F62 N a0 p1 = some r) : Con Go.Proofs.Try.prog 62 [.lf (.v (.sl (.int .i64)) a0), .clo g1 []] [.lf (.v (.int .i64) r)] := by
  refine ctr [.lf (.v (.int .i64))] T_ok Go.Proofs.Try.func62 rfl fun w0 E0 => ?_
  unfold F62 at h
  show VW _ _ _ _ _ (retQ _ _ _ _) _
  refine sR T_ok [0, 1] [] ⟨[(0, .lf (.v (.sl (.int .i64)) a0)), (1, .clo g1 [])], []⟩ (tn 1) ?_
  refine VW.join (fun s => s = ⟨[], []⟩ ∧ F62_j0 N = some r) ?_ ?_
  · refine sR T_ok [0, 1, 7, 8] [] ⟨[(0, .lf (.v (.sl (.int .i64)) a0)), (1, .clo g1 []), (7, I (a0.length : Int)), (8, I (0 : Int))], []⟩ (tn 3) ?_
    refine VW.block ?_
    refine lop (fun k s => ∃ (x23 : Int) (x24 : Int), s = ⟨[(0, .lf (.v (.sl (.int .i64)) a0)), (1, .clo g1 []), (7, I x23), (8, I x24)], []⟩ ∧ F62_l0 N a0 p1 k x23 x24 = some r) N [.ren [0, 1, 7, 8] []] ⟨(a0.length : Int), (0 : Int), rfl, h⟩ ?_
    rintro k29 s ⟨x23, x24, rfl, h⟩
    cases k29 with
    | zero => cases show none = some r from h
    | succ k29 =>
      replace h : F62_l0_b N a0 p1 (F62_l0 N a0 p1 k29) x23 x24 = some r := h
      unfold F62_l0_b at h
      refine sR T_ok [0, 1, 7, 8, 9] [] ⟨[(0, .lf (.v (.sl (.int .i64)) a0)), (1, .clo g1 []), (7, I x23), (8, I x24), (9, B (decide (x24 < x23)))], []⟩ (tn 1) ?_
      refine VW.seq ?_
      refine cnd h (fun h => ?_) (fun h => ?_)
      · refine VW.skip ?_
        refine VW.seq ?_
        refine VW.block ?_
        refine sR T_ok [0, 1, 5, 7, 8] [] ⟨[(0, .lf (.v (.sl (.int .i64)) a0)), (1, .clo g1 []), (5, I x24), (7, I x23), (8, I x24)], []⟩ (tn 2) ?_
        refine VW.seq ?_
        refine VW.region ?_
        obtain ⟨g32, h⟩ := gd_some h
        refine sG T_ok 5 [0, 1, 5, 7, 8, 11, 15] [] ⟨[(0, .lf (.v (.sl (.int .i64)) a0)), (1, .clo g1 []), (5, I x24), (7, I x23), (8, I x24), (11, .clo g1 []), (15, I (a0.getD x24.toNat (Ty.dflt (.int .i64))))], []⟩ (pu 3 (an g32 (tn 1))) ?_
        obtain ⟨y33, hy, h⟩ := andO_some h
        refine cal false [.t (.int .i64)] [] (some 16) T_ok (hp1 _ _ hy) ?_
        refine sN T_ok [0, 1, 5, 7, 8, 16] [] ⟨[(0, .lf (.v (.sl (.int .i64)) a0)), (1, .clo g1 []), (5, I x24), (7, I x23), (8, I x24), (16, B y33)], []⟩ (tn 0) ?_
        refine cnd h (fun h => ?_) (fun h => ?_)
        · refine sR T_ok [4] [] ⟨[(4, I x24)], []⟩ (tn 2) ?_
          refine VW.ret ?_
          replace h := Option.some.inj h
          subst h
          exact rt []
        refine VW.skip ?_
        refine rR T_ok [0, 1, 7, 8] [] ⟨[(0, .lf (.v (.sl (.int .i64)) a0)), (1, .clo g1 []), (7, I x23), (8, I (IntKind.i64.wrap (x24 + (1 : Int))))], []⟩ (tn 2) ?_
        exact aro [.ren [0, 1, 7, 8] []] ⟨x23, (IntKind.i64.wrap (x24 + (1 : Int))), rfl, h⟩
      refine VW.exit ?_
      exact arv [.ren [] []] ⟨rfl, h⟩
  rintro s ⟨rfl, h⟩
  unfold F62_j0 at h
  refine sR T_ok [4] [] ⟨[(4, I (-1 : Int))], []⟩ (tn 1) ?_
  refine VW.ret ?_
  replace h := Option.some.inj h
  subst h
  exact rt []

/- slices.ContainsFunc[[]int,int] -/
def F57 (N : Nat) (a0 : (List Int)) (p1 : Int → Option (Bool)) : Option (Bool) :=
  andO (F62 N a0 p1) fun y1 => some (decide (y1 ≥ (0 : Int)))
theorem ok57 (N : Nat) (a0 : (List Int)) (g1 : FuncId) (p1 : Int → Option (Bool)) (hp1 : ∀ (z0 : Int) (r : Bool), p1 z0 = some r → Con Go.Proofs.Try.prog g1 [I z0] [.lf (.v .bool r)]) {r : Bool} (h : F57 N a0 p1 = some r) : Con Go.Proofs.Try.prog 57 [.lf (.v (.sl (.int .i64)) a0), .clo g1 []] [.lf (.v .bool r)] := by
  refine ctr [.lf (.v .bool)] T_ok Go.Proofs.Try.func57 rfl fun w0 E0 => ?_
  unfold F57 at h
  show VW _ _ _ _ _ (retQ _ _ _ _) _
  refine sR T_ok [0, 1] [] ⟨[(0, .lf (.v (.sl (.int .i64)) a0)), (1, .clo g1 [])], []⟩ (tn 1) ?_
  refine VW.seq ?_
  refine VW.region ?_
  refine sG T_ok 2 [5, 6] [] ⟨[(5, .lf (.v (.sl (.int .i64)) a0)), (6, .clo g1 [])], []⟩ (tn 2) ?_
  obtain ⟨y1, hy, h⟩ := andO_some h
  refine cal false [.t (.sl (.int .i64)), .clo []] [] (some 7) T_ok (ok62 N _ g1  p1 hp1 hy) ?_
  refine sN T_ok [4] [] ⟨[(4, B (decide (y1 ≥ (0 : Int))))], []⟩ (tn 2) ?_
  refine VW.ret ?_
  replace h := Option.some.inj h
  subst h
  exact rt []

/- loop.example/g00844/impl.NodeOk$1 -/
def F58 (N : Nat) (a0 : Int) : Option (Bool) :=
  andO (F54 N a0) fun y1 => some (!y1)
theorem ok58 (N : Nat) (a0 : Int) {r : Bool} (h : F58 N a0 = some r) : Con Go.Proofs.Try.prog 58 [I a0] [.lf (.v .bool r)] := by
  refine ctr [.lf (.v .bool)] T_ok Go.Proofs.Try.func58 rfl fun w0 E0 => ?_
  unfold F58 at h
  show VW _ _ _ _ _ (retQ _ _ _ _) _
  refine sR T_ok [0] [] ⟨[(0, I a0)], []⟩ (tn 1) ?_
  refine VW.seq ?_
  refine VW.region ?_
  refine sG T_ok 1 [3] [] ⟨[(3, I a0)], []⟩ (tn 1) ?_
  obtain ⟨y1, hy, h⟩ := andO_some h
  refine cal false [.t (.int .i64)] [] (some 4) T_ok (ok54 N _ hy) ?_
  refine sN T_ok [2] [] ⟨[(2, B (!y1))], []⟩ (tn 2) ?_
  refine VW.ret ?_
  replace h := Option.some.inj h
  subst h
  exact rt []

/- slices.Equal[[]int,int] -/
def F63_j0 (N : Nat) : Option (Bool) :=
  some true
def F63_l0_b (N : Nat) (a0 : (List Int)) (a1 : (List Int)) (nx29 : Int → Int → Option (Bool)) (x23 : Int) (x24 : Int) : Option (Bool) :=
  cond (decide (x24 < x23)) (gd (InR x24 a0.length) (gd (InR x24 a1.length) (cond ((a0.getD x24.toNat (Ty.dflt (.int .i64))) != (a1.getD x24.toNat (Ty.dflt (.int .i64)))) (some false) (nx29 x23 (IntKind.i64.wrap (x24 + (1 : Int))))))) (F63_j0 N)
def F63_l0 (N : Nat) (a0 : (List Int)) (a1 : (List Int)) : Nat → Int → Int → Option (Bool) := loopF (F63_l0_b N a0 a1) (fun _ _ => none)
theorem F63_l0_s (N : Nat) (a0 : (List Int)) (a1 : (List Int)) {k : Nat} (hk : 0 < k) (x23 : Int) (x24 : Int) : F63_l0 N a0 a1 k x23 x24 = F63_l0_b N a0 a1 (F63_l0 N a0 a1 (k - 1)) x23 x24 := by
  cases k with
  | zero => exact absurd hk (Nat.lt_irrefl 0)
  | succ m => rfl
def F63 (N : Nat) (a0 : (List Int)) (a1 : (List Int)) : Option (Bool) :=
  cond ((a0.length : Int) != (a1.length : Int)) (some false) (F63_l0 N a0 a1 N (a0.length : Int) (0 : Int))
theorem ok63 (N : Nat) (a0 : (List Int)) (a1 : (List Int)) {r : Bool} (h : F63 N a0 a1 = some r) : Con Go.Proofs.Try.prog 63 [.lf (.v (.sl (.int .i64)) a0), .lf (.v (.sl (.int .i64)) a1)] [.lf (.v .bool r)] := by
  refine ctr [.lf (.v .bool)] T_ok Go.Proofs.Try.func63 rfl fun w0 E0 => ?_
  unfold F63 at h
  show VW _ _ _ _ _ (retQ _ _ _ _) _
  refine sR T_ok [0, 1] [] ⟨[(0, .lf (.v (.sl (.int .i64)) a0)), (1, .lf (.v (.sl (.int .i64)) a1))], []⟩ (tn 1) ?_
  refine VW.seq ?_
  refine sR T_ok [0, 1, 10] [] ⟨[(0, .lf (.v (.sl (.int .i64)) a0)), (1, .lf (.v (.sl (.int .i64)) a1)), (10, B ((a0.length : Int) != (a1.length : Int)))], []⟩ (tn 5) ?_
  refine cnd h (fun h => ?_) (fun h => ?_)
  · refine sR T_ok [4] [] ⟨[(4, B false)], []⟩ (tn 1) ?_
    refine VW.ret ?_
    replace h := Option.some.inj h
    subst h
    exact rt []
  refine VW.skip ?_
  refine VW.join (fun s => s = ⟨[], []⟩ ∧ F63_j0 N = some r) ?_ ?_
  · refine sR T_ok [0, 1, 12, 13] [] ⟨[(0, .lf (.v (.sl (.int .i64)) a0)), (1, .lf (.v (.sl (.int .i64)) a1)), (12, I (a0.length : Int)), (13, I (0 : Int))], []⟩ (tn 3) ?_
    refine VW.block ?_
    refine lop (fun k s => ∃ (x23 : Int) (x24 : Int), s = ⟨[(0, .lf (.v (.sl (.int .i64)) a0)), (1, .lf (.v (.sl (.int .i64)) a1)), (12, I x23), (13, I x24)], []⟩ ∧ F63_l0 N a0 a1 k x23 x24 = some r) N [.ren [0, 1, 12, 13] []] ⟨(a0.length : Int), (0 : Int), rfl, h⟩ ?_
    rintro k29 s ⟨x23, x24, rfl, h⟩
    cases k29 with
    | zero => cases show none = some r from h
    | succ k29 =>
      replace h : F63_l0_b N a0 a1 (F63_l0 N a0 a1 k29) x23 x24 = some r := h
      unfold F63_l0_b at h
      refine sR T_ok [0, 1, 12, 13, 14] [] ⟨[(0, .lf (.v (.sl (.int .i64)) a0)), (1, .lf (.v (.sl (.int .i64)) a1)), (12, I x23), (13, I x24), (14, B (decide (x24 < x23)))], []⟩ (tn 1) ?_
      refine VW.seq ?_
      refine cnd h (fun h => ?_) (fun h => ?_)
      · refine VW.skip ?_
        refine VW.seq ?_
        refine VW.block ?_
        refine sR T_ok [0, 1, 5, 12, 13] [] ⟨[(0, .lf (.v (.sl (.int .i64)) a0)), (1, .lf (.v (.sl (.int .i64)) a1)), (5, I x24), (12, I x23), (13, I x24)], []⟩ (tn 2) ?_
        refine VW.seq ?_
        obtain ⟨g32, h⟩ := gd_some h
        obtain ⟨g33, h⟩ := gd_some h
        refine VW.drawn (by kernel_rfl) [some (16, .lf (.v (.sl (.int .i64)) a0)), some (17, I x24), some (18, .lf (.fp (.int .i64) (a0.getD x24.toNat (Ty.dflt (.int .i64))) 0)), some (19, I (a0.getD x24.toNat (Ty.dflt (.int .i64)))), some (20, .lf (.v (.sl (.int .i64)) a1)), some (21, I x24), some (22, .lf (.fp (.int .i64) (a1.getD x24.toNat (Ty.dflt (.int .i64))) 0)), some (23, I (a1.getD x24.toNat (Ty.dflt (.int .i64)))), some (24, B ((a0.getD x24.toNat (Ty.dflt (.int .i64))) != (a1.getD x24.toNat (Ty.dflt (.int .i64)))))] [] [[]] [(0, 0), (1, 0), (2, 0), (3, 0), (4, 0), (5, 0), (6, 0), (7, 0), (8, 0)] [0, 1, 12, 13, 24] [] (s' := ⟨[(0, .lf (.v (.sl (.int .i64)) a0)), (1, .lf (.v (.sl (.int .i64)) a1)), (12, I x23), (13, I x24), (24, B ((a0.getD x24.toNat (Ty.dflt (.int .i64))) != (a1.getD x24.toNat (Ty.dflt (.int .i64)))))], []⟩) (by kernel_rfl) (by kernel_rfl) ⟨⟨_, rfl, Stp.ev T_ok (m := .dp) (φ := True) (by kernel_rfl) trivial⟩,
    ⟨_, rfl, Stp.ev T_ok (m := .dp) (φ := True) (by kernel_rfl) trivial⟩,
    ⟨_, rfl, Stp.ev T_ok (m := .dp) (φ := InR x24 a0.length) (by kernel_rfl) g32⟩,
    ⟨_, rfl, Stp.ev T_ok (m := .dp) (φ := True) (by kernel_rfl) trivial⟩,
    ⟨_, rfl, Stp.ev T_ok (m := .dp) (φ := True) (by kernel_rfl) trivial⟩,
    ⟨_, rfl, Stp.ev T_ok (m := .dp) (φ := True) (by kernel_rfl) trivial⟩,
    ⟨_, rfl, Stp.ev T_ok (m := .dp) (φ := InR x24 a1.length) (by kernel_rfl) g33⟩,
    ⟨_, rfl, Stp.ev T_ok (m := .dp) (φ := True) (by kernel_rfl) trivial⟩,
    ⟨_, rfl, Stp.ev T_ok (m := .dp) (φ := True) (by kernel_rfl) trivial⟩, trivial⟩ (by kernel_rfl) ?_
        refine cnd h (fun h => ?_) (fun h => ?_)
        · refine sR T_ok [4] [] ⟨[(4, B false)], []⟩ (tn 1) ?_
          refine VW.ret ?_
          replace h := Option.some.inj h
          subst h
          exact rt []
        refine VW.skip ?_
        refine rR T_ok [0, 1, 12, 13] [] ⟨[(0, .lf (.v (.sl (.int .i64)) a0)), (1, .lf (.v (.sl (.int .i64)) a1)), (12, I x23), (13, I (IntKind.i64.wrap (x24 + (1 : Int))))], []⟩ (tn 2) ?_
        exact aro [.ren [0, 1, 12, 13] []] ⟨x23, (IntKind.i64.wrap (x24 + (1 : Int))), rfl, h⟩
      refine VW.exit ?_
      exact arv [.ren [] []] ⟨rfl, h⟩
  rintro s ⟨rfl, h⟩
  unfold F63_j0 at h
  refine sR T_ok [4] [] ⟨[(4, B true)], []⟩ (tn 1) ?_
  refine VW.ret ?_
  replace h := Option.some.inj h
  subst h
  exact rt []

/- loop.example/g00844/impl.sameNode -/
def F59 (N : Nat) (a0 : (Int × (ByteArray × (Int × (Int × (Int × (Bool × (List Int)))))))) (a1 : (Int × (ByteArray × (Int × (Int × (Int × (Bool × (List Int)))))))) : Option (Bool) :=
  cond (a0.1 == a1.1) (cond (a0.2.1.toList == a1.2.1.toList) (cond (a0.2.2.1 == a1.2.2.1) (cond (a0.2.2.2.1 == a1.2.2.2.1) (cond (a0.2.2.2.2.1 == a1.2.2.2.2.1) (cond (a0.2.2.2.2.2.1 == a1.2.2.2.2.2.1) (andO (F63 N a0.2.2.2.2.2.2 a1.2.2.2.2.2.2) fun y1 => some y1) (some false)) (some false)) (some false)) (some false)) (some false)) (some false)
theorem ok59 (N : Nat) (a0 : (Int × (ByteArray × (Int × (Int × (Int × (Bool × (List Int)))))))) (a1 : (Int × (ByteArray × (Int × (Int × (Int × (Bool × (List Int)))))))) {r : Bool} (h : F59 N a0 a1 = some r) : Con Go.Proofs.Try.prog 59 [.agg [.v (.int .i64) a0.1, .v .str a0.2.1, .v (.int .i64) a0.2.2.1, .v (.int .i64) a0.2.2.2.1, .v (.int .i64) a0.2.2.2.2.1, .v .bool a0.2.2.2.2.2.1, .v (.sl (.int .i64)) a0.2.2.2.2.2.2], .agg [.v (.int .i64) a1.1, .v .str a1.2.1, .v (.int .i64) a1.2.2.1, .v (.int .i64) a1.2.2.2.1, .v (.int .i64) a1.2.2.2.2.1, .v .bool a1.2.2.2.2.2.1, .v (.sl (.int .i64)) a1.2.2.2.2.2.2]] [.lf (.v .bool r)] := by
  refine ctr [.lf (.v .bool)] T_ok Go.Proofs.Try.func59 rfl fun w0 E0 => ?_
  unfold F59 at h
  show VW _ _ _ _ _ (retQ _ _ _ _) _
  refine sR T_ok [2, 3] [0, 1] ⟨[(2, .lf (.ptr 0 0 0 0)), (3, .lf (.ptr 1 0 0 0))], [bx [.v (.int .i64) a0.1, .v .str a0.2.1, .v (.int .i64) a0.2.2.1, .v (.int .i64) a0.2.2.2.1, .v (.int .i64) a0.2.2.2.2.1, .v .bool a0.2.2.2.2.2.1, .v (.sl (.int .i64)) a0.2.2.2.2.2.2] 44, bx [.v (.int .i64) a1.1, .v .str a1.2.1, .v (.int .i64) a1.2.2.1, .v (.int .i64) a1.2.2.2.1, .v (.int .i64) a1.2.2.2.2.1, .v .bool a1.2.2.2.2.2.1, .v (.sl (.int .i64)) a1.2.2.2.2.2.2] 44]⟩ (tn 3) ?_
  refine VW.seq ?_
  refine VW.region ?_
  refine sG T_ok 6 [2, 3, 10] [0, 1] ⟨[(2, .lf (.ptr 0 0 0 0)), (3, .lf (.ptr 1 0 0 0)), (10, B (a0.1 == a1.1))], [bx [.v (.int .i64) a0.1, .v .str a0.2.1, .v (.int .i64) a0.2.2.1, .v (.int .i64) a0.2.2.2.1, .v (.int .i64) a0.2.2.2.2.1, .v .bool a0.2.2.2.2.2.1, .v (.sl (.int .i64)) a0.2.2.2.2.2.2] 44, bx [.v (.int .i64) a1.1, .v .str a1.2.1, .v (.int .i64) a1.2.2.1, .v (.int .i64) a1.2.2.2.1, .v (.int .i64) a1.2.2.2.2.1, .v .bool a1.2.2.2.2.2.1, .v (.sl (.int .i64)) a1.2.2.2.2.2.2] 44]⟩ (tn 6) ?_
  refine spB 10 h (fun h => ?_) (fun h => ?_)
  · refine sG T_ok 7 [2, 3, 17] [0, 1] ⟨[(2, .lf (.ptr 0 0 0 0)), (3, .lf (.ptr 1 0 0 0)), (17, B (a0.2.1.toList == a1.2.1.toList))], [bx [.v (.int .i64) a0.1, .v .str a0.2.1, .v (.int .i64) a0.2.2.1, .v (.int .i64) a0.2.2.2.1, .v (.int .i64) a0.2.2.2.2.1, .v .bool a0.2.2.2.2.2.1, .v (.sl (.int .i64)) a0.2.2.2.2.2.2] 44, bx [.v (.int .i64) a1.1, .v .str a1.2.1, .v (.int .i64) a1.2.2.1, .v (.int .i64) a1.2.2.2.1, .v (.int .i64) a1.2.2.2.2.1, .v .bool a1.2.2.2.2.2.1, .v (.sl (.int .i64)) a1.2.2.2.2.2.2] 44]⟩ (tn 7) ?_
    refine spB 17 h (fun h => ?_) (fun h => ?_)
    · refine sG T_ok 7 [2, 3, 24] [0, 1] ⟨[(2, .lf (.ptr 0 0 0 0)), (3, .lf (.ptr 1 0 0 0)), (24, B (a0.2.2.1 == a1.2.2.1))], [bx [.v (.int .i64) a0.1, .v .str a0.2.1, .v (.int .i64) a0.2.2.1, .v (.int .i64) a0.2.2.2.1, .v (.int .i64) a0.2.2.2.2.1, .v .bool a0.2.2.2.2.2.1, .v (.sl (.int .i64)) a0.2.2.2.2.2.2] 44, bx [.v (.int .i64) a1.1, .v .str a1.2.1, .v (.int .i64) a1.2.2.1, .v (.int .i64) a1.2.2.2.1, .v (.int .i64) a1.2.2.2.2.1, .v .bool a1.2.2.2.2.2.1, .v (.sl (.int .i64)) a1.2.2.2.2.2.2] 44]⟩ (tn 7) ?_
      refine spB 24 h (fun h => ?_) (fun h => ?_)
      · refine sG T_ok 7 [2, 3, 31] [0, 1] ⟨[(2, .lf (.ptr 0 0 0 0)), (3, .lf (.ptr 1 0 0 0)), (31, B (a0.2.2.2.1 == a1.2.2.2.1))], [bx [.v (.int .i64) a0.1, .v .str a0.2.1, .v (.int .i64) a0.2.2.1, .v (.int .i64) a0.2.2.2.1, .v (.int .i64) a0.2.2.2.2.1, .v .bool a0.2.2.2.2.2.1, .v (.sl (.int .i64)) a0.2.2.2.2.2.2] 44, bx [.v (.int .i64) a1.1, .v .str a1.2.1, .v (.int .i64) a1.2.2.1, .v (.int .i64) a1.2.2.2.1, .v (.int .i64) a1.2.2.2.2.1, .v .bool a1.2.2.2.2.2.1, .v (.sl (.int .i64)) a1.2.2.2.2.2.2] 44]⟩ (tn 7) ?_
        refine spB 31 h (fun h => ?_) (fun h => ?_)
        · refine sG T_ok 7 [2, 3, 38] [0, 1] ⟨[(2, .lf (.ptr 0 0 0 0)), (3, .lf (.ptr 1 0 0 0)), (38, B (a0.2.2.2.2.1 == a1.2.2.2.2.1))], [bx [.v (.int .i64) a0.1, .v .str a0.2.1, .v (.int .i64) a0.2.2.1, .v (.int .i64) a0.2.2.2.1, .v (.int .i64) a0.2.2.2.2.1, .v .bool a0.2.2.2.2.2.1, .v (.sl (.int .i64)) a0.2.2.2.2.2.2] 44, bx [.v (.int .i64) a1.1, .v .str a1.2.1, .v (.int .i64) a1.2.2.1, .v (.int .i64) a1.2.2.2.1, .v (.int .i64) a1.2.2.2.2.1, .v .bool a1.2.2.2.2.2.1, .v (.sl (.int .i64)) a1.2.2.2.2.2.2] 44]⟩ (tn 7) ?_
          refine spB 38 h (fun h => ?_) (fun h => ?_)
          · refine sG T_ok 7 [2, 3, 45] [0, 1] ⟨[(2, .lf (.ptr 0 0 0 0)), (3, .lf (.ptr 1 0 0 0)), (45, B (a0.2.2.2.2.2.1 == a1.2.2.2.2.2.1))], [bx [.v (.int .i64) a0.1, .v .str a0.2.1, .v (.int .i64) a0.2.2.1, .v (.int .i64) a0.2.2.2.1, .v (.int .i64) a0.2.2.2.2.1, .v .bool a0.2.2.2.2.2.1, .v (.sl (.int .i64)) a0.2.2.2.2.2.2] 44, bx [.v (.int .i64) a1.1, .v .str a1.2.1, .v (.int .i64) a1.2.2.1, .v (.int .i64) a1.2.2.2.1, .v (.int .i64) a1.2.2.2.2.1, .v .bool a1.2.2.2.2.2.1, .v (.sl (.int .i64)) a1.2.2.2.2.2.2] 44]⟩ (tn 7) ?_
            refine spB 45 h (fun h => ?_) (fun h => ?_)
            · refine sG T_ok 4 [45, 47, 49] [] ⟨[(45, B true), (47, .lf (.v (.sl (.int .i64)) a0.2.2.2.2.2.2)), (49, .lf (.v (.sl (.int .i64)) a1.2.2.2.2.2.2))], []⟩ (tn 4) ?_
              refine VO.on (j := 40) (want := true) (d := 45) (b := true) rfl rfl rfl (by kernel_rfl) rfl ?_
              obtain ⟨y1, hy, h⟩ := andO_some h
              refine cal false [.t (.sl (.int .i64)), .t (.sl (.int .i64))] [] (some 50) T_ok (ok63 N _ _ hy) ?_
              refine sN T_ok [4] [] ⟨[(4, B y1)], []⟩ (tn 2) ?_
              refine VW.ret ?_
              replace h := Option.some.inj h
              subst h
              exact rt []
            refine sN T_ok [4] [] ⟨[(4, B false)], []⟩ (tn 7) ?_
            refine VW.ret ?_
            replace h := Option.some.inj h
            subst h
            exact rt []
          refine sN T_ok [4] [] ⟨[(4, B false)], []⟩ (tn 14) ?_
          refine VW.ret ?_
          replace h := Option.some.inj h
          subst h
          exact rt []
        refine sN T_ok [4] [] ⟨[(4, B false)], []⟩ (tn 21) ?_
        refine VW.ret ?_
        replace h := Option.some.inj h
        subst h
        exact rt []
      refine sN T_ok [4] [] ⟨[(4, B false)], []⟩ (tn 28) ?_
      refine VW.ret ?_
      replace h := Option.some.inj h
      subst h
      exact rt []
    refine sN T_ok [4] [] ⟨[(4, B false)], []⟩ (tn 35) ?_
    refine VW.ret ?_
    replace h := Option.some.inj h
    subst h
    exact rt []
  refine sN T_ok [4] [] ⟨[(4, B false)], []⟩ (tn 42) ?_
  refine VW.ret ?_
  replace h := Option.some.inj h
  subst h
  exact rt []

/- loop.example/g00844/impl.NodeOk -/
def F43_j0 (N : Nat) (x38 : ByteArray) (x39 : Int) (x40 : Int) (x41 : Int) (x42 : Bool) (x43 : (List Int)) (x44 : Bool) : Option (Bool) :=
  cond x44 (andO (F59 N ((0 : Int), (x38, (x39, (x40, (x41, (x42, x43)))))) ((0 : Int), (ByteArray.empty, ((0 : Int), ((0 : Int), ((0 : Int), (false, []))))))) fun y45 => some y45) (some false)
def F43_j1 (N : Nat) (x52 : ByteArray) (x53 : Int) (x54 : Int) (x55 : Int) (x56 : Bool) (x57 : (List Int)) (x58 : Bool) : Option (Bool) :=
  F43_j0 N x52 (0 : Int) (0 : Int) (0 : Int) false x57 x58
def F43_j2 (N : Nat) (x62 : ByteArray) (x63 : Int) (x64 : Int) (x65 : Int) (x66 : Bool) (x67 : (List Int)) : Option (Bool) :=
  F43_j0 N x62 (0 : Int) (0 : Int) (0 : Int) false x67 false
def F43_j3 (N : Nat) (x76 : ByteArray) (x77 : Int) (x78 : Int) (x79 : Int) (x80 : Bool) (x81 : (List Int)) (x82 : Bool) : Option (Bool) :=
  cond x82 (F43_j0 N x76 x77 x78 x79 x80 x81 true) (F43_j0 N x76 x77 x78 x79 x80 x81 false)
def F43 (N : Nat) (a0 : (Int × (ByteArray × (Int × (Int × (Int × (Bool × (List Int)))))))) : Option (Bool) :=
  cond (a0.1 == (0 : Int)) (andO (F53 N a0.2.1) fun y47 => F43_j0 N ByteArray.empty a0.2.2.1 a0.2.2.2.1 a0.2.2.2.2.1 a0.2.2.2.2.2.1 a0.2.2.2.2.2.2 y47) (cond (a0.1 == (1 : Int)) (andO (F54 N a0.2.2.1) fun y48 => cond y48 (andO (F40 N a0.2.2.2.1 (0 : Int) (3 : Int)) fun y49 => cond (a0.2.2.2.1 == (3 : Int)) (cond y49 (cond (a0.2.2.2.2.1 == (0 : Int)) (F43_j1 N a0.2.1 a0.2.2.1 a0.2.2.2.1 a0.2.2.2.2.1 a0.2.2.2.2.2.1 a0.2.2.2.2.2.2 (!a0.2.2.2.2.2.1)) (F43_j1 N a0.2.1 a0.2.2.1 a0.2.2.2.1 a0.2.2.2.2.1 a0.2.2.2.2.2.1 a0.2.2.2.2.2.2 false)) (F43_j1 N a0.2.1 a0.2.2.1 a0.2.2.2.1 a0.2.2.2.2.1 a0.2.2.2.2.2.1 a0.2.2.2.2.2.2 false)) (cond a0.2.2.2.2.2.1 (cond y49 (andO (F55 N a0.2.2.2.2.1) fun y60 => F43_j1 N a0.2.1 a0.2.2.1 a0.2.2.2.1 a0.2.2.2.2.1 a0.2.2.2.2.2.1 a0.2.2.2.2.2.2 y60) (F43_j1 N a0.2.1 a0.2.2.1 a0.2.2.2.1 a0.2.2.2.2.1 a0.2.2.2.2.2.1 a0.2.2.2.2.2.2 false)) (cond y49 (andO (F56 N a0.2.2.2.2.1) fun y61 => F43_j1 N a0.2.1 a0.2.2.1 a0.2.2.2.1 a0.2.2.2.2.1 a0.2.2.2.2.2.1 a0.2.2.2.2.2.2 y61) (F43_j1 N a0.2.1 a0.2.2.1 a0.2.2.2.1 a0.2.2.2.2.1 a0.2.2.2.2.2.1 a0.2.2.2.2.2.2 false)))) (cond (a0.2.2.2.1 == (3 : Int)) (F43_j2 N a0.2.1 a0.2.2.1 a0.2.2.2.1 a0.2.2.2.2.1 a0.2.2.2.2.2.1 a0.2.2.2.2.2.2) (cond a0.2.2.2.2.2.1 (F43_j2 N a0.2.1 a0.2.2.1 a0.2.2.2.1 a0.2.2.2.2.1 a0.2.2.2.2.2.1 a0.2.2.2.2.2.2) (F43_j2 N a0.2.1 a0.2.2.1 a0.2.2.2.1 a0.2.2.2.2.1 a0.2.2.2.2.2.1 a0.2.2.2.2.2.2)))) (cond (a0.1 == (2 : Int)) (andO (F40 N (a0.2.2.2.2.2.2.length : Int) (1 : Int) (6 : Int)) fun y69 => cond y69 (andO (F57 N a0.2.2.2.2.2.2 (fun z0 => F58 N z0)) fun y70 => F43_j0 N a0.2.1 a0.2.2.1 a0.2.2.2.1 a0.2.2.2.2.1 a0.2.2.2.2.2.1 ([]) (!y70)) (F43_j0 N a0.2.1 a0.2.2.1 a0.2.2.2.1 a0.2.2.2.2.1 a0.2.2.2.2.2.1 ([]) false)) (cond (a0.1 == (3 : Int)) (andO (F54 N a0.2.2.1) fun y71 => cond y71 (andO (F54 N a0.2.2.2.2.1) fun y72 => F43_j0 N a0.2.1 (0 : Int) a0.2.2.2.1 (0 : Int) a0.2.2.2.2.2.1 a0.2.2.2.2.2.2 y72) (F43_j0 N a0.2.1 (0 : Int) a0.2.2.2.1 (0 : Int) a0.2.2.2.2.2.1 a0.2.2.2.2.2.2 false)) (cond (a0.1 == (5 : Int)) (andO (F54 N a0.2.2.1) fun y73 => F43_j0 N a0.2.1 (0 : Int) a0.2.2.2.1 a0.2.2.2.2.1 a0.2.2.2.2.2.1 a0.2.2.2.2.2.2 y73) (cond (a0.1 == (6 : Int)) (andO (F40 N a0.2.2.2.2.1 (0 : Int) (1000000 : Int)) fun y74 => cond y74 (cond (!a0.2.2.2.2.2.1) (F43_j0 N a0.2.1 a0.2.2.1 a0.2.2.2.1 (0 : Int) false a0.2.2.2.2.2.2 true) (andO (F55 N a0.2.2.2.2.1) fun y75 => F43_j0 N a0.2.1 a0.2.2.1 a0.2.2.2.1 (0 : Int) false a0.2.2.2.2.2.2 y75)) (F43_j0 N a0.2.1 a0.2.2.1 a0.2.2.2.1 (0 : Int) false a0.2.2.2.2.2.2 false)) (cond (a0.1 == (4 : Int)) (F43_j3 N a0.2.1 a0.2.2.1 a0.2.2.2.1 a0.2.2.2.2.1 a0.2.2.2.2.2.1 a0.2.2.2.2.2.2 (a0.1 == (4 : Int))) (F43_j3 N a0.2.1 a0.2.2.1 a0.2.2.2.1 a0.2.2.2.2.1 a0.2.2.2.2.2.1 a0.2.2.2.2.2.2 (a0.1 == (7 : Int)))))))))
theorem ok43 (N : Nat) (a0 : (Int × (ByteArray × (Int × (Int × (Int × (Bool × (List Int)))))))) {r : Bool} (h : F43 N a0 = some r) : Con Go.Proofs.Try.prog 43 [.agg [.v (.int .i64) a0.1, .v .str a0.2.1, .v (.int .i64) a0.2.2.1, .v (.int .i64) a0.2.2.2.1, .v (.int .i64) a0.2.2.2.2.1, .v .bool a0.2.2.2.2.2.1, .v (.sl (.int .i64)) a0.2.2.2.2.2.2]] [.lf (.v .bool r)] := by
  refine ctr [.lf (.v .bool)] T_ok Go.Proofs.Try.func43 rfl fun w0 E0 => ?_
  unfold F43 at h
  show VW _ _ _ _ _ (retQ _ _ _ _) _
  refine sR T_ok [1] [0] ⟨[(1, .lf (.ptr 0 0 0 0))], [bx [.v (.int .i64) a0.1, .v .str a0.2.1, .v (.int .i64) a0.2.2.1, .v (.int .i64) a0.2.2.2.1, .v (.int .i64) a0.2.2.2.2.1, .v .bool a0.2.2.2.2.2.1, .v (.sl (.int .i64)) a0.2.2.2.2.2.2] 44]⟩ (tn 2) ?_
  refine sR T_ok [1, 3] [0, 1] ⟨[(1, .lf (.ptr 0 0 0 0)), (3, .lf (.ptr 1 0 0 0))], [bx [.v (.int .i64) a0.1, .v .str a0.2.1, .v (.int .i64) a0.2.2.1, .v (.int .i64) a0.2.2.2.1, .v (.int .i64) a0.2.2.2.2.1, .v .bool a0.2.2.2.2.2.1, .v (.sl (.int .i64)) a0.2.2.2.2.2.2] 44, bx [.v (.int .i64) a0.1, .v .str a0.2.1, .v (.int .i64) a0.2.2.1, .v (.int .i64) a0.2.2.2.1, .v (.int .i64) a0.2.2.2.2.1, .v .bool a0.2.2.2.2.2.1, .v (.sl (.int .i64)) a0.2.2.2.2.2.2] 44]⟩ (tn 3) ?_
  refine sR T_ok [1, 3] [0, 1] ⟨[(1, .lf (.ptr 0 0 0 0)), (3, .lf (.ptr 1 0 0 0))], [bx [.v (.int .i64) a0.1, .v .str a0.2.1, .v (.int .i64) a0.2.2.1, .v (.int .i64) a0.2.2.2.1, .v (.int .i64) a0.2.2.2.2.1, .v .bool a0.2.2.2.2.2.1, .v (.sl (.int .i64)) a0.2.2.2.2.2.2] 44, bx [.v (.int .i64) (0 : Int), .v .str a0.2.1, .v (.int .i64) a0.2.2.1, .v (.int .i64) a0.2.2.2.1, .v (.int .i64) a0.2.2.2.2.1, .v .bool a0.2.2.2.2.2.1, .v (.sl (.int .i64)) a0.2.2.2.2.2.2] 44]⟩ (tn 2) ?_
  refine sR T_ok [1, 3, 4] [0, 1] ⟨[(1, .lf (.ptr 0 0 0 0)), (3, .lf (.ptr 1 0 0 0)), (4, B false)], [bx [.v (.int .i64) a0.1, .v .str a0.2.1, .v (.int .i64) a0.2.2.1, .v (.int .i64) a0.2.2.2.1, .v (.int .i64) a0.2.2.2.2.1, .v .bool a0.2.2.2.2.2.1, .v (.sl (.int .i64)) a0.2.2.2.2.2.2] 44, bx [.v (.int .i64) (0 : Int), .v .str a0.2.1, .v (.int .i64) a0.2.2.1, .v (.int .i64) a0.2.2.2.1, .v (.int .i64) a0.2.2.2.2.1, .v .bool a0.2.2.2.2.2.1, .v (.sl (.int .i64)) a0.2.2.2.2.2.2] 44]⟩ (tn 1) ?_
  refine VW.join (fun s => ∃ (x38 : ByteArray) (x39 : Int) (x40 : Int) (x41 : Int) (x42 : Bool) (x43 : (List Int)) (x44 : Bool), s = ⟨[(3, .lf (.ptr 0 0 0 0)), (4, B x44)], [bx [.v (.int .i64) (0 : Int), .v .str x38, .v (.int .i64) x39, .v (.int .i64) x40, .v (.int .i64) x41, .v .bool x42, .v (.sl (.int .i64)) x43] 44]⟩ ∧ F43_j0 N x38 x39 x40 x41 x42 x43 x44 = some r) ?_ ?_
  · refine sR T_ok [1, 3, 4, 8] [0, 1] ⟨[(1, .lf (.ptr 0 0 0 0)), (3, .lf (.ptr 1 0 0 0)), (4, B false), (8, I a0.1)], [bx [.v (.int .i64) a0.1, .v .str a0.2.1, .v (.int .i64) a0.2.2.1, .v (.int .i64) a0.2.2.2.1, .v (.int .i64) a0.2.2.2.2.1, .v .bool a0.2.2.2.2.2.1, .v (.sl (.int .i64)) a0.2.2.2.2.2.2] 44, bx [.v (.int .i64) (0 : Int), .v .str a0.2.1, .v (.int .i64) a0.2.2.1, .v (.int .i64) a0.2.2.2.1, .v (.int .i64) a0.2.2.2.2.1, .v .bool a0.2.2.2.2.2.1, .v (.sl (.int .i64)) a0.2.2.2.2.2.2] 44]⟩ (tn 2) ?_
    refine VW.block ?_
    refine sR T_ok [1, 3, 4, 8, 9] [0, 1] ⟨[(1, .lf (.ptr 0 0 0 0)), (3, .lf (.ptr 1 0 0 0)), (4, B false), (8, I a0.1), (9, B (a0.1 == (0 : Int)))], [bx [.v (.int .i64) a0.1, .v .str a0.2.1, .v (.int .i64) a0.2.2.1, .v (.int .i64) a0.2.2.2.1, .v (.int .i64) a0.2.2.2.2.1, .v .bool a0.2.2.2.2.2.1, .v (.sl (.int .i64)) a0.2.2.2.2.2.2] 44, bx [.v (.int .i64) (0 : Int), .v .str a0.2.1, .v (.int .i64) a0.2.2.1, .v (.int .i64) a0.2.2.2.1, .v (.int .i64) a0.2.2.2.2.1, .v .bool a0.2.2.2.2.2.1, .v (.sl (.int .i64)) a0.2.2.2.2.2.2] 44]⟩ (tn 2) ?_
    refine cnd h (fun h => ?_) (fun h => ?_)
    · refine VW.seq ?_
      refine VW.region ?_
      refine sG T_ok 2 [3, 12] [1] ⟨[(3, .lf (.ptr 0 0 0 0)), (12, S a0.2.1)], [bx [.v (.int .i64) (0 : Int), .v .str a0.2.1, .v (.int .i64) a0.2.2.1, .v (.int .i64) a0.2.2.2.1, .v (.int .i64) a0.2.2.2.2.1, .v .bool a0.2.2.2.2.2.1, .v (.sl (.int .i64)) a0.2.2.2.2.2.2] 44]⟩ (tn 2) ?_
      obtain ⟨y47, hy, h⟩ := andO_some h
      refine cal false [.t .str] [] (some 13) T_ok (ok53 N _ hy) ?_
      refine sN T_ok [3, 4] [0] ⟨[(3, .lf (.ptr 0 0 0 0)), (4, B y47)], [bx [.v (.int .i64) (0 : Int), .v .str a0.2.1, .v (.int .i64) a0.2.2.1, .v (.int .i64) a0.2.2.2.1, .v (.int .i64) a0.2.2.2.2.1, .v .bool a0.2.2.2.2.2.1, .v (.sl (.int .i64)) a0.2.2.2.2.2.2] 44]⟩ (tn 1) ?_
      refine rR T_ok [3, 4] [0] ⟨[(3, .lf (.ptr 0 0 0 0)), (4, B y47)], [bx [.v (.int .i64) (0 : Int), .v .str ByteArray.empty, .v (.int .i64) a0.2.2.1, .v (.int .i64) a0.2.2.2.1, .v (.int .i64) a0.2.2.2.2.1, .v .bool a0.2.2.2.2.2.1, .v (.sl (.int .i64)) a0.2.2.2.2.2.2] 44]⟩ (tn 2) ?_
      exact arv [.ren [3, 4] [0]] ⟨ByteArray.empty, a0.2.2.1, a0.2.2.2.1, a0.2.2.2.2.1, a0.2.2.2.2.2.1, a0.2.2.2.2.2.2, y47, rfl, h⟩
    refine sR T_ok [1, 3, 4, 8, 15] [0, 1] ⟨[(1, .lf (.ptr 0 0 0 0)), (3, .lf (.ptr 1 0 0 0)), (4, B false), (8, I a0.1), (15, B (a0.1 == (1 : Int)))], [bx [.v (.int .i64) a0.1, .v .str a0.2.1, .v (.int .i64) a0.2.2.1, .v (.int .i64) a0.2.2.2.1, .v (.int .i64) a0.2.2.2.2.1, .v .bool a0.2.2.2.2.2.1, .v (.sl (.int .i64)) a0.2.2.2.2.2.2] 44, bx [.v (.int .i64) (0 : Int), .v .str a0.2.1, .v (.int .i64) a0.2.2.1, .v (.int .i64) a0.2.2.2.1, .v (.int .i64) a0.2.2.2.2.1, .v .bool a0.2.2.2.2.2.1, .v (.sl (.int .i64)) a0.2.2.2.2.2.2] 44]⟩ (tn 2) ?_
    refine cnd h (fun h => ?_) (fun h => ?_)
    · refine VW.seq ?_
      refine VW.region ?_
      refine sG T_ok 2 [1, 3, 18] [0, 1] ⟨[(1, .lf (.ptr 0 0 0 0)), (3, .lf (.ptr 1 0 0 0)), (18, I a0.2.2.1)], [bx [.v (.int .i64) a0.1, .v .str a0.2.1, .v (.int .i64) a0.2.2.1, .v (.int .i64) a0.2.2.2.1, .v (.int .i64) a0.2.2.2.2.1, .v .bool a0.2.2.2.2.2.1, .v (.sl (.int .i64)) a0.2.2.2.2.2.2] 44, bx [.v (.int .i64) (0 : Int), .v .str a0.2.1, .v (.int .i64) a0.2.2.1, .v (.int .i64) a0.2.2.2.1, .v (.int .i64) a0.2.2.2.2.1, .v .bool a0.2.2.2.2.2.1, .v (.sl (.int .i64)) a0.2.2.2.2.2.2] 44]⟩ (tn 2) ?_
      obtain ⟨y48, hy, h⟩ := andO_some h
      refine cal false [.t (.int .i64)] [] (some 19) T_ok (ok54 N _ hy) ?_
      refine sG T_ok 1 [1, 3, 20] [0, 1] ⟨[(1, .lf (.ptr 0 0 0 0)), (3, .lf (.ptr 1 0 0 0)), (20, B y48)], [bx [.v (.int .i64) a0.1, .v .str a0.2.1, .v (.int .i64) a0.2.2.1, .v (.int .i64) a0.2.2.2.1, .v (.int .i64) a0.2.2.2.2.1, .v .bool a0.2.2.2.2.2.1, .v (.sl (.int .i64)) a0.2.2.2.2.2.2] 44, bx [.v (.int .i64) (0 : Int), .v .str a0.2.1, .v (.int .i64) a0.2.2.1, .v (.int .i64) a0.2.2.2.1, .v (.int .i64) a0.2.2.2.2.1, .v .bool a0.2.2.2.2.2.1, .v (.sl (.int .i64)) a0.2.2.2.2.2.2] 44]⟩ (tn 1) ?_
      refine spB 20 h (fun h => ?_) (fun h => ?_)
      · refine sG T_ok 2 [1, 3, 20, 22] [0, 1] ⟨[(1, .lf (.ptr 0 0 0 0)), (3, .lf (.ptr 1 0 0 0)), (20, B true), (22, I a0.2.2.2.1)], [bx [.v (.int .i64) a0.1, .v .str a0.2.1, .v (.int .i64) a0.2.2.1, .v (.int .i64) a0.2.2.2.1, .v (.int .i64) a0.2.2.2.2.1, .v .bool a0.2.2.2.2.2.1, .v (.sl (.int .i64)) a0.2.2.2.2.2.2] 44, bx [.v (.int .i64) (0 : Int), .v .str a0.2.1, .v (.int .i64) a0.2.2.1, .v (.int .i64) a0.2.2.2.1, .v (.int .i64) a0.2.2.2.2.1, .v .bool a0.2.2.2.2.2.1, .v (.sl (.int .i64)) a0.2.2.2.2.2.2] 44]⟩ (tn 2) ?_
        refine VO.on (j := 3) (want := true) (d := 20) (b := true) rfl rfl rfl (by kernel_rfl) rfl ?_
        obtain ⟨y49, hy, h⟩ := andO_some h
        refine cal false [.t (.int .i64), .t (.int .i64), .t (.int .i64)] [] (some 23) T_ok (ok40 N _ _ _ hy) ?_
        refine sN T_ok [1, 3, 4] [0, 1] ⟨[(1, .lf (.ptr 0 0 0 0)), (3, .lf (.ptr 1 0 0 0)), (4, B y49)], [bx [.v (.int .i64) a0.1, .v .str a0.2.1, .v (.int .i64) a0.2.2.1, .v (.int .i64) a0.2.2.2.1, .v (.int .i64) a0.2.2.2.2.1, .v .bool a0.2.2.2.2.2.1, .v (.sl (.int .i64)) a0.2.2.2.2.2.2] 44, bx [.v (.int .i64) (0 : Int), .v .str a0.2.1, .v (.int .i64) a0.2.2.1, .v (.int .i64) a0.2.2.2.1, .v (.int .i64) a0.2.2.2.2.1, .v .bool a0.2.2.2.2.2.1, .v (.sl (.int .i64)) a0.2.2.2.2.2.2] 44]⟩ (tn 2) ?_
        refine VW.join (fun s => ∃ (x52 : ByteArray) (x53 : Int) (x54 : Int) (x55 : Int) (x56 : Bool) (x57 : (List Int)) (x58 : Bool), s = ⟨[(3, .lf (.ptr 0 0 0 0)), (4, B x58)], [bx [.v (.int .i64) (0 : Int), .v .str x52, .v (.int .i64) x53, .v (.int .i64) x54, .v (.int .i64) x55, .v .bool x56, .v (.sl (.int .i64)) x57] 44]⟩ ∧ F43_j1 N x52 x53 x54 x55 x56 x57 x58 = some r) ?_ ?_
        · refine VW.block ?_
          refine sR T_ok [1, 3, 4, 31] [0, 1] ⟨[(1, .lf (.ptr 0 0 0 0)), (3, .lf (.ptr 1 0 0 0)), (4, B y49), (31, B (a0.2.2.2.1 == (3 : Int)))], [bx [.v (.int .i64) a0.1, .v .str a0.2.1, .v (.int .i64) a0.2.2.1, .v (.int .i64) a0.2.2.2.1, .v (.int .i64) a0.2.2.2.2.1, .v .bool a0.2.2.2.2.2.1, .v (.sl (.int .i64)) a0.2.2.2.2.2.2] 44, bx [.v (.int .i64) (0 : Int), .v .str a0.2.1, .v (.int .i64) a0.2.2.1, .v (.int .i64) a0.2.2.2.1, .v (.int .i64) a0.2.2.2.2.1, .v .bool a0.2.2.2.2.2.1, .v (.sl (.int .i64)) a0.2.2.2.2.2.2] 44]⟩ (tn 4) ?_
          refine cnd h (fun h => ?_) (fun h => ?_)
          · refine VW.region ?_
            refine sG T_ok 2 [1, 3, 36] [0, 1] ⟨[(1, .lf (.ptr 0 0 0 0)), (3, .lf (.ptr 1 0 0 0)), (36, B y49)], [bx [.v (.int .i64) a0.1, .v .str a0.2.1, .v (.int .i64) a0.2.2.1, .v (.int .i64) a0.2.2.2.1, .v (.int .i64) a0.2.2.2.2.1, .v .bool a0.2.2.2.2.2.1, .v (.sl (.int .i64)) a0.2.2.2.2.2.2] 44, bx [.v (.int .i64) (0 : Int), .v .str a0.2.1, .v (.int .i64) a0.2.2.1, .v (.int .i64) a0.2.2.2.1, .v (.int .i64) a0.2.2.2.2.1, .v .bool a0.2.2.2.2.2.1, .v (.sl (.int .i64)) a0.2.2.2.2.2.2] 44]⟩ (tn 2) ?_
            refine spB 36 h (fun h => ?_) (fun h => ?_)
            · refine sG T_ok 5 [1, 3, 41] [0, 1] ⟨[(1, .lf (.ptr 0 0 0 0)), (3, .lf (.ptr 1 0 0 0)), (41, B (a0.2.2.2.2.1 == (0 : Int)))], [bx [.v (.int .i64) a0.1, .v .str a0.2.1, .v (.int .i64) a0.2.2.1, .v (.int .i64) a0.2.2.2.1, .v (.int .i64) a0.2.2.2.2.1, .v .bool a0.2.2.2.2.2.1, .v (.sl (.int .i64)) a0.2.2.2.2.2.2] 44, bx [.v (.int .i64) (0 : Int), .v .str a0.2.1, .v (.int .i64) a0.2.2.1, .v (.int .i64) a0.2.2.2.1, .v (.int .i64) a0.2.2.2.2.1, .v .bool a0.2.2.2.2.2.1, .v (.sl (.int .i64)) a0.2.2.2.2.2.2] 44]⟩ (tn 5) ?_
              refine spB 41 h (fun h => ?_) (fun h => ?_)
              · refine sN T_ok [3, 4] [1] ⟨[(3, .lf (.ptr 0 0 0 0)), (4, B (!a0.2.2.2.2.2.1))], [bx [.v (.int .i64) (0 : Int), .v .str a0.2.1, .v (.int .i64) a0.2.2.1, .v (.int .i64) a0.2.2.2.1, .v (.int .i64) a0.2.2.2.2.1, .v .bool a0.2.2.2.2.2.1, .v (.sl (.int .i64)) a0.2.2.2.2.2.2] 44]⟩ (tn 5) ?_
                exact arv [.ren [3, 4] [0]] ⟨a0.2.1, a0.2.2.1, a0.2.2.2.1, a0.2.2.2.2.1, a0.2.2.2.2.2.1, a0.2.2.2.2.2.2, (!a0.2.2.2.2.2.1), rfl, h⟩
              refine sN T_ok [3, 4] [1] ⟨[(3, .lf (.ptr 0 0 0 0)), (4, B false)], [bx [.v (.int .i64) (0 : Int), .v .str a0.2.1, .v (.int .i64) a0.2.2.1, .v (.int .i64) a0.2.2.2.1, .v (.int .i64) a0.2.2.2.2.1, .v .bool a0.2.2.2.2.2.1, .v (.sl (.int .i64)) a0.2.2.2.2.2.2] 44]⟩ (tn 5) ?_
              exact arv [.ren [3, 4] [0]] ⟨a0.2.1, a0.2.2.1, a0.2.2.2.1, a0.2.2.2.2.1, a0.2.2.2.2.2.1, a0.2.2.2.2.2.2, false, rfl, h⟩
            refine sN T_ok [3, 4] [1] ⟨[(3, .lf (.ptr 0 0 0 0)), (4, B false)], [bx [.v (.int .i64) (0 : Int), .v .str a0.2.1, .v (.int .i64) a0.2.2.1, .v (.int .i64) a0.2.2.2.1, .v (.int .i64) a0.2.2.2.2.1, .v .bool a0.2.2.2.2.2.1, .v (.sl (.int .i64)) a0.2.2.2.2.2.2] 44]⟩ (tn 10) ?_
            exact arv [.ren [3, 4] [0]] ⟨a0.2.1, a0.2.2.1, a0.2.2.2.1, a0.2.2.2.2.1, a0.2.2.2.2.2.1, a0.2.2.2.2.2.2, false, rfl, h⟩
          refine sR T_ok [1, 3, 4, 46] [0, 1] ⟨[(1, .lf (.ptr 0 0 0 0)), (3, .lf (.ptr 1 0 0 0)), (4, B y49), (46, B a0.2.2.2.2.2.1)], [bx [.v (.int .i64) a0.1, .v .str a0.2.1, .v (.int .i64) a0.2.2.1, .v (.int .i64) a0.2.2.2.1, .v (.int .i64) a0.2.2.2.2.1, .v .bool a0.2.2.2.2.2.1, .v (.sl (.int .i64)) a0.2.2.2.2.2.2] 44, bx [.v (.int .i64) (0 : Int), .v .str a0.2.1, .v (.int .i64) a0.2.2.1, .v (.int .i64) a0.2.2.2.1, .v (.int .i64) a0.2.2.2.2.1, .v .bool a0.2.2.2.2.2.1, .v (.sl (.int .i64)) a0.2.2.2.2.2.2] 44]⟩ (tn 3) ?_
          refine cnd h (fun h => ?_) (fun h => ?_)
          · refine VW.region ?_
            refine sG T_ok 2 [1, 3, 50] [0, 1] ⟨[(1, .lf (.ptr 0 0 0 0)), (3, .lf (.ptr 1 0 0 0)), (50, B y49)], [bx [.v (.int .i64) a0.1, .v .str a0.2.1, .v (.int .i64) a0.2.2.1, .v (.int .i64) a0.2.2.2.1, .v (.int .i64) a0.2.2.2.2.1, .v .bool a0.2.2.2.2.2.1, .v (.sl (.int .i64)) a0.2.2.2.2.2.2] 44, bx [.v (.int .i64) (0 : Int), .v .str a0.2.1, .v (.int .i64) a0.2.2.1, .v (.int .i64) a0.2.2.2.1, .v (.int .i64) a0.2.2.2.2.1, .v .bool a0.2.2.2.2.2.1, .v (.sl (.int .i64)) a0.2.2.2.2.2.2] 44]⟩ (tn 2) ?_
            refine spB 50 h (fun h => ?_) (fun h => ?_)
            · refine sG T_ok 2 [3, 50, 52] [1] ⟨[(3, .lf (.ptr 0 0 0 0)), (50, B true), (52, I a0.2.2.2.2.1)], [bx [.v (.int .i64) (0 : Int), .v .str a0.2.1, .v (.int .i64) a0.2.2.1, .v (.int .i64) a0.2.2.2.1, .v (.int .i64) a0.2.2.2.2.1, .v .bool a0.2.2.2.2.2.1, .v (.sl (.int .i64)) a0.2.2.2.2.2.2] 44]⟩ (tn 2) ?_
              refine VO.on (j := 1) (want := true) (d := 50) (b := true) rfl rfl rfl (by kernel_rfl) rfl ?_
              obtain ⟨y60, hy, h⟩ := andO_some h
              refine cal false [.t (.int .i64)] [] (some 53) T_ok (ok55 N _ hy) ?_
              refine sN T_ok [3, 4] [0] ⟨[(3, .lf (.ptr 0 0 0 0)), (4, B y60)], [bx [.v (.int .i64) (0 : Int), .v .str a0.2.1, .v (.int .i64) a0.2.2.1, .v (.int .i64) a0.2.2.2.1, .v (.int .i64) a0.2.2.2.2.1, .v .bool a0.2.2.2.2.2.1, .v (.sl (.int .i64)) a0.2.2.2.2.2.2] 44]⟩ (tn 2) ?_
              exact arv [.ren [3, 4] [0]] ⟨a0.2.1, a0.2.2.1, a0.2.2.2.1, a0.2.2.2.2.1, a0.2.2.2.2.2.1, a0.2.2.2.2.2.2, y60, rfl, h⟩
            refine sN T_ok [3, 4] [1] ⟨[(3, .lf (.ptr 0 0 0 0)), (4, B false)], [bx [.v (.int .i64) (0 : Int), .v .str a0.2.1, .v (.int .i64) a0.2.2.1, .v (.int .i64) a0.2.2.2.1, .v (.int .i64) a0.2.2.2.2.1, .v .bool a0.2.2.2.2.2.1, .v (.sl (.int .i64)) a0.2.2.2.2.2.2] 44]⟩ (tn 5) ?_
            exact arv [.ren [3, 4] [0]] ⟨a0.2.1, a0.2.2.1, a0.2.2.2.1, a0.2.2.2.2.1, a0.2.2.2.2.2.1, a0.2.2.2.2.2.2, false, rfl, h⟩
          refine VW.region ?_
          refine sG T_ok 2 [1, 3, 26] [0, 1] ⟨[(1, .lf (.ptr 0 0 0 0)), (3, .lf (.ptr 1 0 0 0)), (26, B y49)], [bx [.v (.int .i64) a0.1, .v .str a0.2.1, .v (.int .i64) a0.2.2.1, .v (.int .i64) a0.2.2.2.1, .v (.int .i64) a0.2.2.2.2.1, .v .bool a0.2.2.2.2.2.1, .v (.sl (.int .i64)) a0.2.2.2.2.2.2] 44, bx [.v (.int .i64) (0 : Int), .v .str a0.2.1, .v (.int .i64) a0.2.2.1, .v (.int .i64) a0.2.2.2.1, .v (.int .i64) a0.2.2.2.2.1, .v .bool a0.2.2.2.2.2.1, .v (.sl (.int .i64)) a0.2.2.2.2.2.2] 44]⟩ (tn 2) ?_
          refine spB 26 h (fun h => ?_) (fun h => ?_)
          · refine sG T_ok 2 [3, 26, 28] [1] ⟨[(3, .lf (.ptr 0 0 0 0)), (26, B true), (28, I a0.2.2.2.2.1)], [bx [.v (.int .i64) (0 : Int), .v .str a0.2.1, .v (.int .i64) a0.2.2.1, .v (.int .i64) a0.2.2.2.1, .v (.int .i64) a0.2.2.2.2.1, .v .bool a0.2.2.2.2.2.1, .v (.sl (.int .i64)) a0.2.2.2.2.2.2] 44]⟩ (tn 2) ?_
            refine VO.on (j := 1) (want := true) (d := 26) (b := true) rfl rfl rfl (by kernel_rfl) rfl ?_
            obtain ⟨y61, hy, h⟩ := andO_some h
            refine cal false [.t (.int .i64)] [] (some 29) T_ok (ok56 N _ hy) ?_
            refine sN T_ok [3, 4] [0] ⟨[(3, .lf (.ptr 0 0 0 0)), (4, B y61)], [bx [.v (.int .i64) (0 : Int), .v .str a0.2.1, .v (.int .i64) a0.2.2.1, .v (.int .i64) a0.2.2.2.1, .v (.int .i64) a0.2.2.2.2.1, .v .bool a0.2.2.2.2.2.1, .v (.sl (.int .i64)) a0.2.2.2.2.2.2] 44]⟩ (tn 2) ?_
            exact arv [.ren [3, 4] [0]] ⟨a0.2.1, a0.2.2.1, a0.2.2.2.1, a0.2.2.2.2.1, a0.2.2.2.2.2.1, a0.2.2.2.2.2.2, y61, rfl, h⟩
          refine sN T_ok [3, 4] [1] ⟨[(3, .lf (.ptr 0 0 0 0)), (4, B false)], [bx [.v (.int .i64) (0 : Int), .v .str a0.2.1, .v (.int .i64) a0.2.2.1, .v (.int .i64) a0.2.2.2.1, .v (.int .i64) a0.2.2.2.2.1, .v .bool a0.2.2.2.2.2.1, .v (.sl (.int .i64)) a0.2.2.2.2.2.2] 44]⟩ (tn 5) ?_
          exact arv [.ren [3, 4] [0]] ⟨a0.2.1, a0.2.2.1, a0.2.2.2.1, a0.2.2.2.2.1, a0.2.2.2.2.2.1, a0.2.2.2.2.2.2, false, rfl, h⟩
        rintro s ⟨x52, x53, x54, x55, x56, x57, x58, rfl, h⟩
        unfold F43_j1 at h
        refine rR T_ok [3, 4] [0] ⟨[(3, .lf (.ptr 0 0 0 0)), (4, B x58)], [bx [.v (.int .i64) (0 : Int), .v .str x52, .v (.int .i64) (0 : Int), .v (.int .i64) (0 : Int), .v (.int .i64) (0 : Int), .v .bool false, .v (.sl (.int .i64)) x57] 44]⟩ (tn 8) ?_
        exact arv [.ren [3, 4] [0]] ⟨x52, (0 : Int), (0 : Int), (0 : Int), false, x57, x58, rfl, h⟩
      refine sN T_ok [1, 3, 4] [0, 1] ⟨[(1, .lf (.ptr 0 0 0 0)), (3, .lf (.ptr 1 0 0 0)), (4, B false)], [bx [.v (.int .i64) a0.1, .v .str a0.2.1, .v (.int .i64) a0.2.2.1, .v (.int .i64) a0.2.2.2.1, .v (.int .i64) a0.2.2.2.2.1, .v .bool a0.2.2.2.2.2.1, .v (.sl (.int .i64)) a0.2.2.2.2.2.2] 44, bx [.v (.int .i64) (0 : Int), .v .str a0.2.1, .v (.int .i64) a0.2.2.1, .v (.int .i64) a0.2.2.2.1, .v (.int .i64) a0.2.2.2.2.1, .v .bool a0.2.2.2.2.2.1, .v (.sl (.int .i64)) a0.2.2.2.2.2.2] 44]⟩ (tn 5) ?_
      refine VW.join (fun s => ∃ (x62 : ByteArray) (x63 : Int) (x64 : Int) (x65 : Int) (x66 : Bool) (x67 : (List Int)), s = ⟨[(3, .lf (.ptr 0 0 0 0)), (4, B false)], [bx [.v (.int .i64) (0 : Int), .v .str x62, .v (.int .i64) x63, .v (.int .i64) x64, .v (.int .i64) x65, .v .bool x66, .v (.sl (.int .i64)) x67] 44]⟩ ∧ F43_j2 N x62 x63 x64 x65 x66 x67 = some r) ?_ ?_
      · refine VW.block ?_
        refine sR T_ok [1, 3, 4, 31] [0, 1] ⟨[(1, .lf (.ptr 0 0 0 0)), (3, .lf (.ptr 1 0 0 0)), (4, B false), (31, B (a0.2.2.2.1 == (3 : Int)))], [bx [.v (.int .i64) a0.1, .v .str a0.2.1, .v (.int .i64) a0.2.2.1, .v (.int .i64) a0.2.2.2.1, .v (.int .i64) a0.2.2.2.2.1, .v .bool a0.2.2.2.2.2.1, .v (.sl (.int .i64)) a0.2.2.2.2.2.2] 44, bx [.v (.int .i64) (0 : Int), .v .str a0.2.1, .v (.int .i64) a0.2.2.1, .v (.int .i64) a0.2.2.2.1, .v (.int .i64) a0.2.2.2.2.1, .v .bool a0.2.2.2.2.2.1, .v (.sl (.int .i64)) a0.2.2.2.2.2.2] 44]⟩ (tn 4) ?_
        refine cnd h (fun h => ?_) (fun h => ?_)
        · refine rR T_ok [3, 4] [1] ⟨[(3, .lf (.ptr 0 0 0 0)), (4, B false)], [bx [.v (.int .i64) (0 : Int), .v .str a0.2.1, .v (.int .i64) a0.2.2.1, .v (.int .i64) a0.2.2.2.1, .v (.int .i64) a0.2.2.2.2.1, .v .bool a0.2.2.2.2.2.1, .v (.sl (.int .i64)) a0.2.2.2.2.2.2] 44]⟩ (tn 12) ?_
          exact arv [.ren [3, 4] [0]] ⟨a0.2.1, a0.2.2.1, a0.2.2.2.1, a0.2.2.2.2.1, a0.2.2.2.2.2.1, a0.2.2.2.2.2.2, rfl, h⟩
        refine sR T_ok [1, 3, 4, 46] [0, 1] ⟨[(1, .lf (.ptr 0 0 0 0)), (3, .lf (.ptr 1 0 0 0)), (4, B false), (46, B a0.2.2.2.2.2.1)], [bx [.v (.int .i64) a0.1, .v .str a0.2.1, .v (.int .i64) a0.2.2.1, .v (.int .i64) a0.2.2.2.1, .v (.int .i64) a0.2.2.2.2.1, .v .bool a0.2.2.2.2.2.1, .v (.sl (.int .i64)) a0.2.2.2.2.2.2] 44, bx [.v (.int .i64) (0 : Int), .v .str a0.2.1, .v (.int .i64) a0.2.2.1, .v (.int .i64) a0.2.2.2.1, .v (.int .i64) a0.2.2.2.2.1, .v .bool a0.2.2.2.2.2.1, .v (.sl (.int .i64)) a0.2.2.2.2.2.2] 44]⟩ (tn 3) ?_
        refine cnd h (fun h => ?_) (fun h => ?_)
        · refine rR T_ok [3, 4] [1] ⟨[(3, .lf (.ptr 0 0 0 0)), (4, B false)], [bx [.v (.int .i64) (0 : Int), .v .str a0.2.1, .v (.int .i64) a0.2.2.1, .v (.int .i64) a0.2.2.2.1, .v (.int .i64) a0.2.2.2.2.1, .v .bool a0.2.2.2.2.2.1, .v (.sl (.int .i64)) a0.2.2.2.2.2.2] 44]⟩ (tn 7) ?_
          exact arv [.ren [3, 4] [0]] ⟨a0.2.1, a0.2.2.1, a0.2.2.2.1, a0.2.2.2.2.1, a0.2.2.2.2.2.1, a0.2.2.2.2.2.2, rfl, h⟩
        refine rR T_ok [3, 4] [1] ⟨[(3, .lf (.ptr 0 0 0 0)), (4, B false)], [bx [.v (.int .i64) (0 : Int), .v .str a0.2.1, .v (.int .i64) a0.2.2.1, .v (.int .i64) a0.2.2.2.1, .v (.int .i64) a0.2.2.2.2.1, .v .bool a0.2.2.2.2.2.1, .v (.sl (.int .i64)) a0.2.2.2.2.2.2] 44]⟩ (tn 7) ?_
        exact arv [.ren [3, 4] [0]] ⟨a0.2.1, a0.2.2.1, a0.2.2.2.1, a0.2.2.2.2.1, a0.2.2.2.2.2.1, a0.2.2.2.2.2.2, rfl, h⟩
      rintro s ⟨x62, x63, x64, x65, x66, x67, rfl, h⟩
      unfold F43_j2 at h
      refine rR T_ok [3, 4] [0] ⟨[(3, .lf (.ptr 0 0 0 0)), (4, B false)], [bx [.v (.int .i64) (0 : Int), .v .str x62, .v (.int .i64) (0 : Int), .v (.int .i64) (0 : Int), .v (.int .i64) (0 : Int), .v .bool false, .v (.sl (.int .i64)) x67] 44]⟩ (tn 8) ?_
      exact arv [.ren [3, 4] [0]] ⟨x62, (0 : Int), (0 : Int), (0 : Int), false, x67, false, rfl, h⟩
    refine sR T_ok [1, 3, 4, 8, 59] [0, 1] ⟨[(1, .lf (.ptr 0 0 0 0)), (3, .lf (.ptr 1 0 0 0)), (4, B false), (8, I a0.1), (59, B (a0.1 == (2 : Int)))], [bx [.v (.int .i64) a0.1, .v .str a0.2.1, .v (.int .i64) a0.2.2.1, .v (.int .i64) a0.2.2.2.1, .v (.int .i64) a0.2.2.2.2.1, .v .bool a0.2.2.2.2.2.1, .v (.sl (.int .i64)) a0.2.2.2.2.2.2] 44, bx [.v (.int .i64) (0 : Int), .v .str a0.2.1, .v (.int .i64) a0.2.2.1, .v (.int .i64) a0.2.2.2.1, .v (.int .i64) a0.2.2.2.2.1, .v .bool a0.2.2.2.2.2.1, .v (.sl (.int .i64)) a0.2.2.2.2.2.2] 44]⟩ (tn 2) ?_
    refine cnd h (fun h => ?_) (fun h => ?_)
    · refine VW.seq ?_
      refine VW.region ?_
      refine sG T_ok 3 [1, 3, 63] [0, 1] ⟨[(1, .lf (.ptr 0 0 0 0)), (3, .lf (.ptr 1 0 0 0)), (63, I (a0.2.2.2.2.2.2.length : Int))], [bx [.v (.int .i64) a0.1, .v .str a0.2.1, .v (.int .i64) a0.2.2.1, .v (.int .i64) a0.2.2.2.1, .v (.int .i64) a0.2.2.2.2.1, .v .bool a0.2.2.2.2.2.1, .v (.sl (.int .i64)) a0.2.2.2.2.2.2] 44, bx [.v (.int .i64) (0 : Int), .v .str a0.2.1, .v (.int .i64) a0.2.2.1, .v (.int .i64) a0.2.2.2.1, .v (.int .i64) a0.2.2.2.2.1, .v .bool a0.2.2.2.2.2.1, .v (.sl (.int .i64)) a0.2.2.2.2.2.2] 44]⟩ (tn 3) ?_
      obtain ⟨y69, hy, h⟩ := andO_some h
      refine cal false [.t (.int .i64), .t (.int .i64), .t (.int .i64)] [] (some 64) T_ok (ok40 N _ _ _ hy) ?_
      refine sG T_ok 1 [1, 3, 65] [0, 1] ⟨[(1, .lf (.ptr 0 0 0 0)), (3, .lf (.ptr 1 0 0 0)), (65, B y69)], [bx [.v (.int .i64) a0.1, .v .str a0.2.1, .v (.int .i64) a0.2.2.1, .v (.int .i64) a0.2.2.2.1, .v (.int .i64) a0.2.2.2.2.1, .v .bool a0.2.2.2.2.2.1, .v (.sl (.int .i64)) a0.2.2.2.2.2.2] 44, bx [.v (.int .i64) (0 : Int), .v .str a0.2.1, .v (.int .i64) a0.2.2.1, .v (.int .i64) a0.2.2.2.1, .v (.int .i64) a0.2.2.2.2.1, .v .bool a0.2.2.2.2.2.1, .v (.sl (.int .i64)) a0.2.2.2.2.2.2] 44]⟩ (tn 1) ?_
      refine spB 65 h (fun h => ?_) (fun h => ?_)
      · refine sG T_ok 2 [3, 65, 67] [1] ⟨[(3, .lf (.ptr 0 0 0 0)), (65, B true), (67, .lf (.v (.sl (.int .i64)) a0.2.2.2.2.2.2))], [bx [.v (.int .i64) (0 : Int), .v .str a0.2.1, .v (.int .i64) a0.2.2.1, .v (.int .i64) a0.2.2.2.1, .v (.int .i64) a0.2.2.2.2.1, .v .bool a0.2.2.2.2.2.1, .v (.sl (.int .i64)) a0.2.2.2.2.2.2] 44]⟩ (tn 2) ?_
        refine VO.on (j := 4) (want := true) (d := 65) (b := true) rfl rfl rfl (by kernel_rfl) rfl ?_
        obtain ⟨y70, hy, h⟩ := andO_some h
        refine cal false [.t (.sl (.int .i64)), .clo []] [] (some 68) T_ok (ok57 N _ 58  (fun z0 => F58 N z0 ) (fun z0 _ hz => ok58 N z0 hz) hy) ?_
        refine sN T_ok [3, 4] [0] ⟨[(3, .lf (.ptr 0 0 0 0)), (4, B (!y70))], [bx [.v (.int .i64) (0 : Int), .v .str a0.2.1, .v (.int .i64) a0.2.2.1, .v (.int .i64) a0.2.2.2.1, .v (.int .i64) a0.2.2.2.2.1, .v .bool a0.2.2.2.2.2.1, .v (.sl (.int .i64)) a0.2.2.2.2.2.2] 44]⟩ (tn 3) ?_
        refine rR T_ok [3, 4] [0] ⟨[(3, .lf (.ptr 0 0 0 0)), (4, B (!y70))], [bx [.v (.int .i64) (0 : Int), .v .str a0.2.1, .v (.int .i64) a0.2.2.1, .v (.int .i64) a0.2.2.2.1, .v (.int .i64) a0.2.2.2.2.1, .v .bool a0.2.2.2.2.2.1, .nil] 44]⟩ (tn 2) ?_
        exact arv [.nilB 0 6 (.int .i64), .ren [3, 4] [0]] ⟨a0.2.1, a0.2.2.1, a0.2.2.2.1, a0.2.2.2.2.1, a0.2.2.2.2.2.1, [], (!y70), rfl, h⟩
      refine sN T_ok [3, 4] [1] ⟨[(3, .lf (.ptr 0 0 0 0)), (4, B false)], [bx [.v (.int .i64) (0 : Int), .v .str a0.2.1, .v (.int .i64) a0.2.2.1, .v (.int .i64) a0.2.2.2.1, .v (.int .i64) a0.2.2.2.2.1, .v .bool a0.2.2.2.2.2.1, .v (.sl (.int .i64)) a0.2.2.2.2.2.2] 44]⟩ (tn 6) ?_
      refine rR T_ok [3, 4] [0] ⟨[(3, .lf (.ptr 0 0 0 0)), (4, B false)], [bx [.v (.int .i64) (0 : Int), .v .str a0.2.1, .v (.int .i64) a0.2.2.1, .v (.int .i64) a0.2.2.2.1, .v (.int .i64) a0.2.2.2.2.1, .v .bool a0.2.2.2.2.2.1, .nil] 44]⟩ (tn 2) ?_
      exact arv [.nilB 0 6 (.int .i64), .ren [3, 4] [0]] ⟨a0.2.1, a0.2.2.1, a0.2.2.2.1, a0.2.2.2.2.1, a0.2.2.2.2.2.1, [], false, rfl, h⟩
    refine sR T_ok [1, 3, 4, 8, 72] [0, 1] ⟨[(1, .lf (.ptr 0 0 0 0)), (3, .lf (.ptr 1 0 0 0)), (4, B false), (8, I a0.1), (72, B (a0.1 == (3 : Int)))], [bx [.v (.int .i64) a0.1, .v .str a0.2.1, .v (.int .i64) a0.2.2.1, .v (.int .i64) a0.2.2.2.1, .v (.int .i64) a0.2.2.2.2.1, .v .bool a0.2.2.2.2.2.1, .v (.sl (.int .i64)) a0.2.2.2.2.2.2] 44, bx [.v (.int .i64) (0 : Int), .v .str a0.2.1, .v (.int .i64) a0.2.2.1, .v (.int .i64) a0.2.2.2.1, .v (.int .i64) a0.2.2.2.2.1, .v .bool a0.2.2.2.2.2.1, .v (.sl (.int .i64)) a0.2.2.2.2.2.2] 44]⟩ (tn 2) ?_
    refine cnd h (fun h => ?_) (fun h => ?_)
    · refine VW.seq ?_
      refine VW.region ?_
      refine sG T_ok 2 [1, 3, 75] [0, 1] ⟨[(1, .lf (.ptr 0 0 0 0)), (3, .lf (.ptr 1 0 0 0)), (75, I a0.2.2.1)], [bx [.v (.int .i64) a0.1, .v .str a0.2.1, .v (.int .i64) a0.2.2.1, .v (.int .i64) a0.2.2.2.1, .v (.int .i64) a0.2.2.2.2.1, .v .bool a0.2.2.2.2.2.1, .v (.sl (.int .i64)) a0.2.2.2.2.2.2] 44, bx [.v (.int .i64) (0 : Int), .v .str a0.2.1, .v (.int .i64) a0.2.2.1, .v (.int .i64) a0.2.2.2.1, .v (.int .i64) a0.2.2.2.2.1, .v .bool a0.2.2.2.2.2.1, .v (.sl (.int .i64)) a0.2.2.2.2.2.2] 44]⟩ (tn 2) ?_
      obtain ⟨y71, hy, h⟩ := andO_some h
      refine cal false [.t (.int .i64)] [] (some 76) T_ok (ok54 N _ hy) ?_
      refine sG T_ok 1 [1, 3, 77] [0, 1] ⟨[(1, .lf (.ptr 0 0 0 0)), (3, .lf (.ptr 1 0 0 0)), (77, B y71)], [bx [.v (.int .i64) a0.1, .v .str a0.2.1, .v (.int .i64) a0.2.2.1, .v (.int .i64) a0.2.2.2.1, .v (.int .i64) a0.2.2.2.2.1, .v .bool a0.2.2.2.2.2.1, .v (.sl (.int .i64)) a0.2.2.2.2.2.2] 44, bx [.v (.int .i64) (0 : Int), .v .str a0.2.1, .v (.int .i64) a0.2.2.1, .v (.int .i64) a0.2.2.2.1, .v (.int .i64) a0.2.2.2.2.1, .v .bool a0.2.2.2.2.2.1, .v (.sl (.int .i64)) a0.2.2.2.2.2.2] 44]⟩ (tn 1) ?_
      refine spB 77 h (fun h => ?_) (fun h => ?_)
      · refine sG T_ok 2 [3, 77, 79] [1] ⟨[(3, .lf (.ptr 0 0 0 0)), (77, B true), (79, I a0.2.2.2.2.1)], [bx [.v (.int .i64) (0 : Int), .v .str a0.2.1, .v (.int .i64) a0.2.2.1, .v (.int .i64) a0.2.2.2.1, .v (.int .i64) a0.2.2.2.2.1, .v .bool a0.2.2.2.2.2.1, .v (.sl (.int .i64)) a0.2.2.2.2.2.2] 44]⟩ (tn 2) ?_
        refine VO.on (j := 3) (want := true) (d := 77) (b := true) rfl rfl rfl (by kernel_rfl) rfl ?_
        obtain ⟨y72, hy, h⟩ := andO_some h
        refine cal false [.t (.int .i64)] [] (some 80) T_ok (ok54 N _ hy) ?_
        refine sN T_ok [3, 4] [0] ⟨[(3, .lf (.ptr 0 0 0 0)), (4, B y72)], [bx [.v (.int .i64) (0 : Int), .v .str a0.2.1, .v (.int .i64) a0.2.2.1, .v (.int .i64) a0.2.2.2.1, .v (.int .i64) a0.2.2.2.2.1, .v .bool a0.2.2.2.2.2.1, .v (.sl (.int .i64)) a0.2.2.2.2.2.2] 44]⟩ (tn 2) ?_
        refine rR T_ok [3, 4] [0] ⟨[(3, .lf (.ptr 0 0 0 0)), (4, B y72)], [bx [.v (.int .i64) (0 : Int), .v .str a0.2.1, .v (.int .i64) (0 : Int), .v (.int .i64) a0.2.2.2.1, .v (.int .i64) (0 : Int), .v .bool a0.2.2.2.2.2.1, .v (.sl (.int .i64)) a0.2.2.2.2.2.2] 44]⟩ (tn 4) ?_
        exact arv [.ren [3, 4] [0]] ⟨a0.2.1, (0 : Int), a0.2.2.2.1, (0 : Int), a0.2.2.2.2.2.1, a0.2.2.2.2.2.2, y72, rfl, h⟩
      refine sN T_ok [3, 4] [1] ⟨[(3, .lf (.ptr 0 0 0 0)), (4, B false)], [bx [.v (.int .i64) (0 : Int), .v .str a0.2.1, .v (.int .i64) a0.2.2.1, .v (.int .i64) a0.2.2.2.1, .v (.int .i64) a0.2.2.2.2.1, .v .bool a0.2.2.2.2.2.1, .v (.sl (.int .i64)) a0.2.2.2.2.2.2] 44]⟩ (tn 5) ?_
      refine rR T_ok [3, 4] [0] ⟨[(3, .lf (.ptr 0 0 0 0)), (4, B false)], [bx [.v (.int .i64) (0 : Int), .v .str a0.2.1, .v (.int .i64) (0 : Int), .v (.int .i64) a0.2.2.2.1, .v (.int .i64) (0 : Int), .v .bool a0.2.2.2.2.2.1, .v (.sl (.int .i64)) a0.2.2.2.2.2.2] 44]⟩ (tn 4) ?_
      exact arv [.ren [3, 4] [0]] ⟨a0.2.1, (0 : Int), a0.2.2.2.1, (0 : Int), a0.2.2.2.2.2.1, a0.2.2.2.2.2.2, false, rfl, h⟩
    refine sR T_ok [1, 3, 4, 8, 84] [0, 1] ⟨[(1, .lf (.ptr 0 0 0 0)), (3, .lf (.ptr 1 0 0 0)), (4, B false), (8, I a0.1), (84, B (a0.1 == (5 : Int)))], [bx [.v (.int .i64) a0.1, .v .str a0.2.1, .v (.int .i64) a0.2.2.1, .v (.int .i64) a0.2.2.2.1, .v (.int .i64) a0.2.2.2.2.1, .v .bool a0.2.2.2.2.2.1, .v (.sl (.int .i64)) a0.2.2.2.2.2.2] 44, bx [.v (.int .i64) (0 : Int), .v .str a0.2.1, .v (.int .i64) a0.2.2.1, .v (.int .i64) a0.2.2.2.1, .v (.int .i64) a0.2.2.2.2.1, .v .bool a0.2.2.2.2.2.1, .v (.sl (.int .i64)) a0.2.2.2.2.2.2] 44]⟩ (tn 2) ?_
    refine cnd h (fun h => ?_) (fun h => ?_)
    · refine VW.seq ?_
      refine VW.region ?_
      refine sG T_ok 2 [3, 87] [1] ⟨[(3, .lf (.ptr 0 0 0 0)), (87, I a0.2.2.1)], [bx [.v (.int .i64) (0 : Int), .v .str a0.2.1, .v (.int .i64) a0.2.2.1, .v (.int .i64) a0.2.2.2.1, .v (.int .i64) a0.2.2.2.2.1, .v .bool a0.2.2.2.2.2.1, .v (.sl (.int .i64)) a0.2.2.2.2.2.2] 44]⟩ (tn 2) ?_
      obtain ⟨y73, hy, h⟩ := andO_some h
      refine cal false [.t (.int .i64)] [] (some 88) T_ok (ok54 N _ hy) ?_
      refine sN T_ok [3, 4] [0] ⟨[(3, .lf (.ptr 0 0 0 0)), (4, B y73)], [bx [.v (.int .i64) (0 : Int), .v .str a0.2.1, .v (.int .i64) a0.2.2.1, .v (.int .i64) a0.2.2.2.1, .v (.int .i64) a0.2.2.2.2.1, .v .bool a0.2.2.2.2.2.1, .v (.sl (.int .i64)) a0.2.2.2.2.2.2] 44]⟩ (tn 1) ?_
      refine rR T_ok [3, 4] [0] ⟨[(3, .lf (.ptr 0 0 0 0)), (4, B y73)], [bx [.v (.int .i64) (0 : Int), .v .str a0.2.1, .v (.int .i64) (0 : Int), .v (.int .i64) a0.2.2.2.1, .v (.int .i64) a0.2.2.2.2.1, .v .bool a0.2.2.2.2.2.1, .v (.sl (.int .i64)) a0.2.2.2.2.2.2] 44]⟩ (tn 2) ?_
      exact arv [.ren [3, 4] [0]] ⟨a0.2.1, (0 : Int), a0.2.2.2.1, a0.2.2.2.2.1, a0.2.2.2.2.2.1, a0.2.2.2.2.2.2, y73, rfl, h⟩
    refine sR T_ok [1, 3, 4, 8, 90] [0, 1] ⟨[(1, .lf (.ptr 0 0 0 0)), (3, .lf (.ptr 1 0 0 0)), (4, B false), (8, I a0.1), (90, B (a0.1 == (6 : Int)))], [bx [.v (.int .i64) a0.1, .v .str a0.2.1, .v (.int .i64) a0.2.2.1, .v (.int .i64) a0.2.2.2.1, .v (.int .i64) a0.2.2.2.2.1, .v .bool a0.2.2.2.2.2.1, .v (.sl (.int .i64)) a0.2.2.2.2.2.2] 44, bx [.v (.int .i64) (0 : Int), .v .str a0.2.1, .v (.int .i64) a0.2.2.1, .v (.int .i64) a0.2.2.2.1, .v (.int .i64) a0.2.2.2.2.1, .v .bool a0.2.2.2.2.2.1, .v (.sl (.int .i64)) a0.2.2.2.2.2.2] 44]⟩ (tn 2) ?_
    refine cnd h (fun h => ?_) (fun h => ?_)
    · refine VW.seq ?_
      refine VW.region ?_
      refine sG T_ok 2 [1, 3, 93] [0, 1] ⟨[(1, .lf (.ptr 0 0 0 0)), (3, .lf (.ptr 1 0 0 0)), (93, I a0.2.2.2.2.1)], [bx [.v (.int .i64) a0.1, .v .str a0.2.1, .v (.int .i64) a0.2.2.1, .v (.int .i64) a0.2.2.2.1, .v (.int .i64) a0.2.2.2.2.1, .v .bool a0.2.2.2.2.2.1, .v (.sl (.int .i64)) a0.2.2.2.2.2.2] 44, bx [.v (.int .i64) (0 : Int), .v .str a0.2.1, .v (.int .i64) a0.2.2.1, .v (.int .i64) a0.2.2.2.1, .v (.int .i64) a0.2.2.2.2.1, .v .bool a0.2.2.2.2.2.1, .v (.sl (.int .i64)) a0.2.2.2.2.2.2] 44]⟩ (tn 2) ?_
      obtain ⟨y74, hy, h⟩ := andO_some h
      refine cal false [.t (.int .i64), .t (.int .i64), .t (.int .i64)] [] (some 94) T_ok (ok40 N _ _ _ hy) ?_
      refine sG T_ok 1 [1, 3, 95] [0, 1] ⟨[(1, .lf (.ptr 0 0 0 0)), (3, .lf (.ptr 1 0 0 0)), (95, B y74)], [bx [.v (.int .i64) a0.1, .v .str a0.2.1, .v (.int .i64) a0.2.2.1, .v (.int .i64) a0.2.2.2.1, .v (.int .i64) a0.2.2.2.2.1, .v .bool a0.2.2.2.2.2.1, .v (.sl (.int .i64)) a0.2.2.2.2.2.2] 44, bx [.v (.int .i64) (0 : Int), .v .str a0.2.1, .v (.int .i64) a0.2.2.1, .v (.int .i64) a0.2.2.2.1, .v (.int .i64) a0.2.2.2.2.1, .v .bool a0.2.2.2.2.2.1, .v (.sl (.int .i64)) a0.2.2.2.2.2.2] 44]⟩ (tn 1) ?_
      refine spB 95 h (fun h => ?_) (fun h => ?_)
      · refine sG T_ok 4 [1, 3, 95, 99] [0, 1] ⟨[(1, .lf (.ptr 0 0 0 0)), (3, .lf (.ptr 1 0 0 0)), (95, B true), (99, B (!a0.2.2.2.2.2.1))], [bx [.v (.int .i64) a0.1, .v .str a0.2.1, .v (.int .i64) a0.2.2.1, .v (.int .i64) a0.2.2.2.1, .v (.int .i64) a0.2.2.2.2.1, .v .bool a0.2.2.2.2.2.1, .v (.sl (.int .i64)) a0.2.2.2.2.2.2] 44, bx [.v (.int .i64) (0 : Int), .v .str a0.2.1, .v (.int .i64) a0.2.2.1, .v (.int .i64) a0.2.2.2.1, .v (.int .i64) a0.2.2.2.2.1, .v .bool a0.2.2.2.2.2.1, .v (.sl (.int .i64)) a0.2.2.2.2.2.2] 44]⟩ (tn 4) ?_
        refine spB 99 h (fun h => ?_) (fun h => ?_)
        · refine sN T_ok [3, 4] [1] ⟨[(3, .lf (.ptr 0 0 0 0)), (4, B true)], [bx [.v (.int .i64) (0 : Int), .v .str a0.2.1, .v (.int .i64) a0.2.2.1, .v (.int .i64) a0.2.2.2.1, .v (.int .i64) a0.2.2.2.2.1, .v .bool a0.2.2.2.2.2.1, .v (.sl (.int .i64)) a0.2.2.2.2.2.2] 44]⟩ (tn 6) ?_
          refine rR T_ok [3, 4] [0] ⟨[(3, .lf (.ptr 0 0 0 0)), (4, B true)], [bx [.v (.int .i64) (0 : Int), .v .str a0.2.1, .v (.int .i64) a0.2.2.1, .v (.int .i64) a0.2.2.2.1, .v (.int .i64) (0 : Int), .v .bool false, .v (.sl (.int .i64)) a0.2.2.2.2.2.2] 44]⟩ (tn 4) ?_
          exact arv [.ren [3, 4] [0]] ⟨a0.2.1, a0.2.2.1, a0.2.2.2.1, (0 : Int), false, a0.2.2.2.2.2.2, true, rfl, h⟩
        refine sG T_ok 2 [3, 95, 99, 101] [1] ⟨[(3, .lf (.ptr 0 0 0 0)), (95, B true), (99, B false), (101, I a0.2.2.2.2.1)], [bx [.v (.int .i64) (0 : Int), .v .str a0.2.1, .v (.int .i64) a0.2.2.1, .v (.int .i64) a0.2.2.2.1, .v (.int .i64) a0.2.2.2.2.1, .v .bool a0.2.2.2.2.2.1, .v (.sl (.int .i64)) a0.2.2.2.2.2.2] 44]⟩ (tn 2) ?_
        refine VO.on (j := 7) (want := false) (d := 99) (b := false) rfl rfl rfl (by kernel_rfl) rfl ?_
        obtain ⟨y75, hy, h⟩ := andO_some h
        refine cal false [.t (.int .i64)] [] (some 102) T_ok (ok55 N _ hy) ?_
        refine sN T_ok [3, 4] [0] ⟨[(3, .lf (.ptr 0 0 0 0)), (4, B y75)], [bx [.v (.int .i64) (0 : Int), .v .str a0.2.1, .v (.int .i64) a0.2.2.1, .v (.int .i64) a0.2.2.2.1, .v (.int .i64) a0.2.2.2.2.1, .v .bool a0.2.2.2.2.2.1, .v (.sl (.int .i64)) a0.2.2.2.2.2.2] 44]⟩ (tn 3) ?_
        refine rR T_ok [3, 4] [0] ⟨[(3, .lf (.ptr 0 0 0 0)), (4, B y75)], [bx [.v (.int .i64) (0 : Int), .v .str a0.2.1, .v (.int .i64) a0.2.2.1, .v (.int .i64) a0.2.2.2.1, .v (.int .i64) (0 : Int), .v .bool false, .v (.sl (.int .i64)) a0.2.2.2.2.2.2] 44]⟩ (tn 4) ?_
        exact arv [.ren [3, 4] [0]] ⟨a0.2.1, a0.2.2.1, a0.2.2.2.1, (0 : Int), false, a0.2.2.2.2.2.2, y75, rfl, h⟩
      refine sN T_ok [3, 4] [1] ⟨[(3, .lf (.ptr 0 0 0 0)), (4, B false)], [bx [.v (.int .i64) (0 : Int), .v .str a0.2.1, .v (.int .i64) a0.2.2.1, .v (.int .i64) a0.2.2.2.1, .v (.int .i64) a0.2.2.2.2.1, .v .bool a0.2.2.2.2.2.1, .v (.sl (.int .i64)) a0.2.2.2.2.2.2] 44]⟩ (tn 10) ?_
      refine rR T_ok [3, 4] [0] ⟨[(3, .lf (.ptr 0 0 0 0)), (4, B false)], [bx [.v (.int .i64) (0 : Int), .v .str a0.2.1, .v (.int .i64) a0.2.2.1, .v (.int .i64) a0.2.2.2.1, .v (.int .i64) (0 : Int), .v .bool false, .v (.sl (.int .i64)) a0.2.2.2.2.2.2] 44]⟩ (tn 4) ?_
      exact arv [.ren [3, 4] [0]] ⟨a0.2.1, a0.2.2.1, a0.2.2.2.1, (0 : Int), false, a0.2.2.2.2.2.2, false, rfl, h⟩
    refine VW.join (fun s => ∃ (x76 : ByteArray) (x77 : Int) (x78 : Int) (x79 : Int) (x80 : Bool) (x81 : (List Int)) (x82 : Bool), s = ⟨[(3, .lf (.ptr 0 0 0 0)), (4, B false), (107, B x82)], [bx [.v (.int .i64) (0 : Int), .v .str x76, .v (.int .i64) x77, .v (.int .i64) x78, .v (.int .i64) x79, .v .bool x80, .v (.sl (.int .i64)) x81] 44]⟩ ∧ F43_j3 N x76 x77 x78 x79 x80 x81 x82 = some r) ?_ ?_
    · refine sR T_ok [3, 4, 8, 107] [1] ⟨[(3, .lf (.ptr 0 0 0 0)), (4, B false), (8, I a0.1), (107, B (a0.1 == (4 : Int)))], [bx [.v (.int .i64) (0 : Int), .v .str a0.2.1, .v (.int .i64) a0.2.2.1, .v (.int .i64) a0.2.2.2.1, .v (.int .i64) a0.2.2.2.2.1, .v .bool a0.2.2.2.2.2.1, .v (.sl (.int .i64)) a0.2.2.2.2.2.2] 44]⟩ (tn 2) ?_
      refine cnd h (fun h => ?_) (fun h => ?_)
      · refine VW.skip ?_
        exact arv [.ren [3, 4, 107] [0]] ⟨a0.2.1, a0.2.2.1, a0.2.2.2.1, a0.2.2.2.2.1, a0.2.2.2.2.2.1, a0.2.2.2.2.2.2, (a0.1 == (4 : Int)), rfl, h⟩
      refine rR T_ok [3, 4, 107] [0] ⟨[(3, .lf (.ptr 0 0 0 0)), (4, B false), (107, B (a0.1 == (7 : Int)))], [bx [.v (.int .i64) (0 : Int), .v .str a0.2.1, .v (.int .i64) a0.2.2.1, .v (.int .i64) a0.2.2.2.1, .v (.int .i64) a0.2.2.2.2.1, .v .bool a0.2.2.2.2.2.1, .v (.sl (.int .i64)) a0.2.2.2.2.2.2] 44]⟩ (tn 2) ?_
      exact arv [.ren [3, 4, 107] [0]] ⟨a0.2.1, a0.2.2.1, a0.2.2.2.1, a0.2.2.2.2.1, a0.2.2.2.2.2.1, a0.2.2.2.2.2.2, (a0.1 == (7 : Int)), rfl, h⟩
    rintro s ⟨x76, x77, x78, x79, x80, x81, x82, rfl, h⟩
    unfold F43_j3 at h
    refine cnd h (fun h => ?_) (fun h => ?_)
    · refine rR T_ok [3, 4] [0] ⟨[(3, .lf (.ptr 0 0 0 0)), (4, B true)], [bx [.v (.int .i64) (0 : Int), .v .str x76, .v (.int .i64) x77, .v (.int .i64) x78, .v (.int .i64) x79, .v .bool x80, .v (.sl (.int .i64)) x81] 44]⟩ (tn 1) ?_
      exact arv [.ren [3, 4] [0]] ⟨x76, x77, x78, x79, x80, x81, true, rfl, h⟩
    refine VW.skip ?_
    exact arv [.ren [3, 4] [0]] ⟨x76, x77, x78, x79, x80, x81, false, rfl, h⟩
  rintro s ⟨x38, x39, x40, x41, x42, x43, x44, rfl, h⟩
  unfold F43_j0 at h
  refine VW.seq ?_
  refine VW.region ?_
  refine sG T_ok 2 [3, 111] [0] ⟨[(3, .lf (.ptr 0 0 0 0)), (111, B x44)], [bx [.v (.int .i64) (0 : Int), .v .str x38, .v (.int .i64) x39, .v (.int .i64) x40, .v (.int .i64) x41, .v .bool x42, .v (.sl (.int .i64)) x43] 44]⟩ (tn 2) ?_
  refine spB 111 h (fun h => ?_) (fun h => ?_)
  · refine sG T_ok 2 [111, 112, 113] [] ⟨[(111, B true), (112, .agg [.v (.int .i64) (0 : Int), .v .str x38, .v (.int .i64) x39, .v (.int .i64) x40, .v (.int .i64) x41, .v .bool x42, .v (.sl (.int .i64)) x43]), (113, .agg [.v (.int .i64) (0 : Int), .v .str ByteArray.empty, .v (.int .i64) (0 : Int), .v (.int .i64) (0 : Int), .v (.int .i64) (0 : Int), .v .bool false, .nil])], []⟩ (tn 2) ?_
    refine VO.on (j := 1) (want := true) (d := 111) (b := true) rfl rfl rfl (by kernel_rfl) rfl ?_
    obtain ⟨y45, hy, h⟩ := andO_some h
    refine cal false [.t Y40, .t Y40] [] (some 114) T_ok (ok59 N _ _ hy) ?_
    refine sN T_ok [2] [] ⟨[(2, B y45)], []⟩ (tn 2) ?_
    refine VW.ret ?_
    replace h := Option.some.inj h
    subst h
    exact rt []
  refine sN T_ok [2] [] ⟨[(2, B false)], []⟩ (tn 5) ?_
  refine VW.ret ?_
  replace h := Option.some.inj h
  subst h
  exact rt []

/- loop.example/g00844/impl.PlanOk$1 -/
def F42 (N : Nat) (a0 : (Int × (ByteArray × (Int × (Int × (Int × (Bool × (List Int)))))))) : Option (Bool) :=
  andO (F43 N a0) fun y1 => some (!y1)
theorem ok42 (N : Nat) (a0 : (Int × (ByteArray × (Int × (Int × (Int × (Bool × (List Int)))))))) {r : Bool} (h : F42 N a0 = some r) : Con Go.Proofs.Try.prog 42 [.agg [.v (.int .i64) a0.1, .v .str a0.2.1, .v (.int .i64) a0.2.2.1, .v (.int .i64) a0.2.2.2.1, .v (.int .i64) a0.2.2.2.2.1, .v .bool a0.2.2.2.2.2.1, .v (.sl (.int .i64)) a0.2.2.2.2.2.2]] [.lf (.v .bool r)] := by
  refine ctr [.lf (.v .bool)] T_ok Go.Proofs.Try.func42 rfl fun w0 E0 => ?_
  unfold F42 at h
  show VW _ _ _ _ _ (retQ _ _ _ _) _
  refine sR T_ok [1] [0] ⟨[(1, .lf (.ptr 0 0 0 0))], [bx [.v (.int .i64) a0.1, .v .str a0.2.1, .v (.int .i64) a0.2.2.1, .v (.int .i64) a0.2.2.2.1, .v (.int .i64) a0.2.2.2.2.1, .v .bool a0.2.2.2.2.2.1, .v (.sl (.int .i64)) a0.2.2.2.2.2.2] 44]⟩ (tn 2) ?_
  refine VW.seq ?_
  refine VW.region ?_
  refine sG T_ok 1 [3] [] ⟨[(3, .agg [.v (.int .i64) a0.1, .v .str a0.2.1, .v (.int .i64) a0.2.2.1, .v (.int .i64) a0.2.2.2.1, .v (.int .i64) a0.2.2.2.2.1, .v .bool a0.2.2.2.2.2.1, .v (.sl (.int .i64)) a0.2.2.2.2.2.2])], []⟩ (tn 1) ?_
  obtain ⟨y1, hy, h⟩ := andO_some h
  refine cal false [.t Y40] [] (some 4) T_ok (ok43 N _ hy) ?_
  refine sN T_ok [2] [] ⟨[(2, B (!y1))], []⟩ (tn 2) ?_
  refine VW.ret ?_
  replace h := Option.some.inj h
  subst h
  exact rt []

/- loop.example/g00844/impl.ArityOf -/
def F60_j0 (N : Nat) (x6 : Bool) : Option (Int) :=
  cond x6 (some (1 : Int)) (some (-1 : Int))
def F60_j1 (N : Nat) (a0 : Int) (x5 : Bool) : Option (Int) :=
  cond x5 (some (2 : Int)) (cond (a0 == (1 : Int)) (F60_j0 N (a0 == (1 : Int))) (cond (a0 == (2 : Int)) (F60_j0 N (a0 == (2 : Int))) (cond (a0 == (5 : Int)) (F60_j0 N (a0 == (5 : Int))) (cond (a0 == (6 : Int)) (F60_j0 N (a0 == (6 : Int))) (F60_j0 N (a0 == (7 : Int)))))))
def F60 (N : Nat) (a0 : Int) : Option (Int) :=
  cond (a0 == (0 : Int)) (some (0 : Int)) (cond (a0 == (3 : Int)) (F60_j1 N a0 (a0 == (3 : Int))) (F60_j1 N a0 (a0 == (4 : Int))))
theorem ok60 (N : Nat) (a0 : Int) {r : Int} (h : F60 N a0 = some r) : Con Go.Proofs.Try.prog 60 [I a0] [.lf (.v (.int .i64) r)] := by
  refine ctr [.lf (.v (.int .i64))] T_ok Go.Proofs.Try.func60 rfl fun w0 E0 => ?_
  unfold F60 at h
  show VW _ _ _ _ _ (retQ _ _ _ _) _
  refine sR T_ok [0] [] ⟨[(0, I a0)], []⟩ (tn 1) ?_
  refine VW.seq ?_
  refine sR T_ok [3] [] ⟨[(3, I a0)], []⟩ (tn 1) ?_
  refine VW.block ?_
  refine sR T_ok [3, 4] [] ⟨[(3, I a0), (4, B (a0 == (0 : Int)))], []⟩ (tn 2) ?_
  refine cnd h (fun h => ?_) (fun h => ?_)
  · refine sR T_ok [2] [] ⟨[(2, I (0 : Int))], []⟩ (tn 1) ?_
    refine VW.ret ?_
    replace h := Option.some.inj h
    subst h
    exact rt []
  refine VW.join (fun s => ∃ (x5 : Bool), s = ⟨[(3, I a0), (6, B x5)], []⟩ ∧ F60_j1 N a0 x5 = some r) ?_ ?_
  · refine sR T_ok [3, 6] [] ⟨[(3, I a0), (6, B (a0 == (3 : Int)))], []⟩ (tn 2) ?_
    refine cnd h (fun h => ?_) (fun h => ?_)
    · refine VW.skip ?_
      exact arv [.ren [3, 6] []] ⟨(a0 == (3 : Int)), rfl, h⟩
    refine rR T_ok [3, 6] [] ⟨[(3, I a0), (6, B (a0 == (4 : Int)))], []⟩ (tn 2) ?_
    exact arv [.ren [3, 6] []] ⟨(a0 == (4 : Int)), rfl, h⟩
  rintro s ⟨x5, rfl, h⟩
  unfold F60_j1 at h
  refine cnd h (fun h => ?_) (fun h => ?_)
  · refine sR T_ok [2] [] ⟨[(2, I (2 : Int))], []⟩ (tn 1) ?_
    refine VW.ret ?_
    replace h := Option.some.inj h
    subst h
    exact rt []
  refine VW.join (fun s => ∃ (x6 : Bool), s = ⟨[(9, B x6)], []⟩ ∧ F60_j0 N x6 = some r) ?_ ?_
  · refine sR T_ok [3, 9] [] ⟨[(3, I a0), (9, B (a0 == (1 : Int)))], []⟩ (tn 2) ?_
    refine cnd h (fun h => ?_) (fun h => ?_)
    · refine VW.skip ?_
      exact arv [.ren [9] []] ⟨(a0 == (1 : Int)), rfl, h⟩
    refine sR T_ok [3, 9] [] ⟨[(3, I a0), (9, B (a0 == (2 : Int)))], []⟩ (tn 2) ?_
    refine cnd h (fun h => ?_) (fun h => ?_)
    · refine VW.skip ?_
      exact arv [.ren [9] []] ⟨(a0 == (2 : Int)), rfl, h⟩
    refine sR T_ok [3, 9] [] ⟨[(3, I a0), (9, B (a0 == (5 : Int)))], []⟩ (tn 2) ?_
    refine cnd h (fun h => ?_) (fun h => ?_)
    · refine VW.skip ?_
      exact arv [.ren [9] []] ⟨(a0 == (5 : Int)), rfl, h⟩
    refine sR T_ok [3, 9] [] ⟨[(3, I a0), (9, B (a0 == (6 : Int)))], []⟩ (tn 2) ?_
    refine cnd h (fun h => ?_) (fun h => ?_)
    · refine VW.skip ?_
      exact arv [.ren [9] []] ⟨(a0 == (6 : Int)), rfl, h⟩
    refine rR T_ok [9] [] ⟨[(9, B (a0 == (7 : Int)))], []⟩ (tn 2) ?_
    exact arv [.ren [9] []] ⟨(a0 == (7 : Int)), rfl, h⟩
  rintro s ⟨x6, rfl, h⟩
  unfold F60_j0 at h
  refine cnd h (fun h => ?_) (fun h => ?_)
  · refine sR T_ok [2] [] ⟨[(2, I (1 : Int))], []⟩ (tn 1) ?_
    refine VW.ret ?_
    replace h := Option.some.inj h
    subst h
    exact rt []
  refine VW.skip ?_
  refine sR T_ok [2] [] ⟨[(2, I (-1 : Int))], []⟩ (tn 1) ?_
  refine VW.ret ?_
  replace h := Option.some.inj h
  subst h
  exact rt []

/- loop.example/g00844/impl.end -/
def F44_j0 (N : Nat) (x13 : Int) : Option (Int) :=
  some x13
def F44_l0_b (N : Nat) (a0 : (List (Int × (ByteArray × (Int × (Int × (Int × (Bool × (List Int))))))))) (a2 : Int) (self : (List (Int × (ByteArray × (Int × (Int × (Int × (Bool × (List Int)))))))) → Int → Int → Option (Int)) (y16 : Int) (nx24 : Int → Int → Option (Int)) (x20 : Int) (x21 : Int) : Option (Int) :=
  cond (decide (x21 < y16)) (andO (self a0 x20 (IntKind.i64.wrap (a2 + (1 : Int)))) fun y26 => cond (decide (y26 < (0 : Int))) (some (-1 : Int)) (nx24 y26 (IntKind.i64.wrap (x21 + (1 : Int))))) (F44_j0 N x20)
def F44_l0 (N : Nat) (a0 : (List (Int × (ByteArray × (Int × (Int × (Int × (Bool × (List Int))))))))) (a2 : Int) (self : (List (Int × (ByteArray × (Int × (Int × (Int × (Bool × (List Int)))))))) → Int → Int → Option (Int)) (y16 : Int) : Nat → Int → Int → Option (Int) := loopF (F44_l0_b N a0 a2 self y16) (fun _ _ => none)
theorem F44_l0_s (N : Nat) (a0 : (List (Int × (ByteArray × (Int × (Int × (Int × (Bool × (List Int))))))))) (a2 : Int) (self : (List (Int × (ByteArray × (Int × (Int × (Int × (Bool × (List Int)))))))) → Int → Int → Option (Int)) (y16 : Int) {k : Nat} (hk : 0 < k) (x20 : Int) (x21 : Int) : F44_l0 N a0 a2 self y16 k x20 x21 = F44_l0_b N a0 a2 self y16 (F44_l0 N a0 a2 self y16 (k - 1)) x20 x21 := by
  cases k with
  | zero => exact absurd hk (Nat.lt_irrefl 0)
  | succ m => rfl
def F44_b (N : Nat) (self : (List (Int × (ByteArray × (Int × (Int × (Int × (Bool × (List Int)))))))) → Int → Int → Option (Int)) (a0 : (List (Int × (ByteArray × (Int × (Int × (Int × (Bool × (List Int))))))))) (a1 : Int) (a2 : Int) : Option (Int) :=
  cond (decide (a1 ≥ (a0.length : Int))) (some (-1 : Int)) (cond (decide (a2 > (10 : Int))) (some (-1 : Int)) (gd (InR a1 a0.length) (andO (F60 N ((a0.getD a1.toNat (Ty.dflt Y40)).1)) fun y16 => F44_l0 N a0 a2 self y16 N (IntKind.i64.wrap (a1 + (1 : Int))) (0 : Int))))
theorem ok44_b (N : Nat) (self : (List (Int × (ByteArray × (Int × (Int × (Int × (Bool × (List Int)))))))) → Int → Int → Option (Int)) (ih : ∀ (a0 : (List (Int × (ByteArray × (Int × (Int × (Int × (Bool × (List Int))))))))) (a1 : Int) (a2 : Int) (r : Int), self a0 a1 a2 = some r → Con Go.Proofs.Try.prog 44 [.lf (.v (.sl Y40) a0), I a1, I a2] [.lf (.v (.int .i64) r)]) (a0 : (List (Int × (ByteArray × (Int × (Int × (Int × (Bool × (List Int))))))))) (a1 : Int) (a2 : Int) {r : Int} (h : F44_b N self a0 a1 a2 = some r) : Con Go.Proofs.Try.prog 44 [.lf (.v (.sl Y40) a0), I a1, I a2] [.lf (.v (.int .i64) r)] := by
  refine ctr [.lf (.v (.int .i64))] T_ok Go.Proofs.Try.func44 rfl fun w0 E0 => ?_
  unfold F44_b at h
  show VW _ _ _ _ _ (retQ _ _ _ _) _
  refine sR T_ok [0, 1, 2] [] ⟨[(0, .lf (.v (.sl Y40) a0)), (1, I a1), (2, I a2)], []⟩ (tn 1) ?_
  refine VW.seq ?_
  refine VW.seq ?_
  refine VW.region ?_
  refine sG T_ok 5 [0, 1, 2, 12] [] ⟨[(0, .lf (.v (.sl Y40) a0)), (1, I a1), (2, I a2), (12, B (decide (a1 ≥ (a0.length : Int))))], []⟩ (tn 5) ?_
  refine spB 12 h (fun h => ?_) (fun h => ?_)
  · refine sN T_ok [0, 1, 2, 15] [] ⟨[(0, .lf (.v (.sl Y40) a0)), (1, I a1), (2, I a2), (15, B true)], []⟩ (tn 3) ?_
    refine VW.cond (b := true) (by kernel_rfl) (fun _ => ?_) (fun h' => nomatch h')
    refine sR T_ok [6] [] ⟨[(6, I (-1 : Int))], []⟩ (tn 1) ?_
    refine VW.ret ?_
    replace h := Option.some.inj h
    subst h
    exact rt []
  refine sN T_ok [0, 1, 2, 15] [] ⟨[(0, .lf (.v (.sl Y40) a0)), (1, I a1), (2, I a2), (15, B (decide (a2 > (10 : Int))))], []⟩ (tn 3) ?_
  refine cnd h (fun h => ?_) (fun h => ?_)
  · refine sR T_ok [6] [] ⟨[(6, I (-1 : Int))], []⟩ (tn 1) ?_
    refine VW.ret ?_
    replace h := Option.some.inj h
    subst h
    exact rt []
  refine VW.skip ?_
  refine sR T_ok [0, 1, 2, 7] [] ⟨[(0, .lf (.v (.sl Y40) a0)), (1, I a1), (2, I a2), (7, I (IntKind.i64.wrap (a1 + (1 : Int))))], []⟩ (tn 3) ?_
  refine VW.join (fun s => ∃ (x13 : Int), s = ⟨[(7, I x13)], []⟩ ∧ F44_j0 N x13 = some r) ?_ ?_
  · refine VW.seq ?_
    refine VW.region ?_
    obtain ⟨g15, h⟩ := gd_some h
    refine sG T_ok 5 [0, 2, 7, 22] [] ⟨[(0, .lf (.v (.sl Y40) a0)), (2, I a2), (7, I (IntKind.i64.wrap (a1 + (1 : Int)))), (22, I ((a0.getD a1.toNat (Ty.dflt Y40)).1))], []⟩ (pu 2 (an g15 (tn 2))) ?_
    obtain ⟨y16, hy, h⟩ := andO_some h
    refine cal false [.t (.int .i64)] [] (some 23) T_ok (ok60 N _ hy) ?_
    refine sN T_ok [0, 2, 7, 23, 24] [] ⟨[(0, .lf (.v (.sl Y40) a0)), (2, I a2), (7, I (IntKind.i64.wrap (a1 + (1 : Int)))), (23, I y16), (24, I (0 : Int))], []⟩ (tn 1) ?_
    refine VW.block ?_
    refine lop (fun k s => ∃ (x20 : Int) (x21 : Int), s = ⟨[(0, .lf (.v (.sl Y40) a0)), (2, I a2), (7, I x20), (23, I y16), (24, I x21)], []⟩ ∧ F44_l0 N a0 a2 self y16 k x20 x21 = some r) N [.ren [0, 2, 7, 23, 24] []] ⟨(IntKind.i64.wrap (a1 + (1 : Int))), (0 : Int), rfl, h⟩ ?_
    rintro k24 s ⟨x20, x21, rfl, h⟩
    cases k24 with
    | zero => cases show none = some r from h
    | succ k24 =>
      replace h : F44_l0_b N a0 a2 self y16 (F44_l0 N a0 a2 self y16 k24) x20 x21 = some r := h
      unfold F44_l0_b at h
      refine sR T_ok [0, 2, 7, 23, 24, 25] [] ⟨[(0, .lf (.v (.sl Y40) a0)), (2, I a2), (7, I x20), (23, I y16), (24, I x21), (25, B (decide (x21 < y16)))], []⟩ (tn 1) ?_
      refine VW.seq ?_
      refine cnd h (fun h => ?_) (fun h => ?_)
      · refine VW.skip ?_
        refine VW.seq ?_
        refine VW.block ?_
        refine VW.seq ?_
        refine VW.region ?_
        refine sG T_ok 4 [0, 2, 23, 24, 26, 27, 29] [] ⟨[(0, .lf (.v (.sl Y40) a0)), (2, I a2), (23, I y16), (24, I x21), (26, .lf (.v (.sl Y40) a0)), (27, I x20), (29, I (IntKind.i64.wrap (a2 + (1 : Int))))], []⟩ (tn 4) ?_
        obtain ⟨y26, hy, h⟩ := andO_some h
        refine cal false [.t (.sl Y40), .t (.int .i64), .t (.int .i64)] [] (some 30) T_ok (ih _ _ _ _ hy) ?_
        refine sN T_ok [0, 2, 7, 23, 24] [] ⟨[(0, .lf (.v (.sl Y40) a0)), (2, I a2), (7, I y26), (23, I y16), (24, I x21)], []⟩ (tn 1) ?_
        refine sR T_ok [0, 2, 7, 23, 24, 32] [] ⟨[(0, .lf (.v (.sl Y40) a0)), (2, I a2), (7, I y26), (23, I y16), (24, I x21), (32, B (decide (y26 < (0 : Int))))], []⟩ (tn 2) ?_
        refine cnd h (fun h => ?_) (fun h => ?_)
        · refine sR T_ok [6] [] ⟨[(6, I (-1 : Int))], []⟩ (tn 1) ?_
          refine VW.ret ?_
          replace h := Option.some.inj h
          subst h
          exact rt []
        refine VW.skip ?_
        refine rR T_ok [0, 2, 7, 23, 24] [] ⟨[(0, .lf (.v (.sl Y40) a0)), (2, I a2), (7, I y26), (23, I y16), (24, I (IntKind.i64.wrap (x21 + (1 : Int))))], []⟩ (tn 2) ?_
        exact aro [.ren [0, 2, 7, 23, 24] []] ⟨y26, (IntKind.i64.wrap (x21 + (1 : Int))), rfl, h⟩
      refine VW.exit ?_
      exact arv [.ren [7] []] ⟨x20, rfl, h⟩
  rintro s ⟨x13, rfl, h⟩
  unfold F44_j0 at h
  refine sR T_ok [6] [] ⟨[(6, I x13)], []⟩ (tn 2) ?_
  refine VW.ret ?_
  replace h := Option.some.inj h
  subst h
  exact rt []
def F44_r (N : Nat) : Nat → (List (Int × (ByteArray × (Int × (Int × (Int × (Bool × (List Int)))))))) → Int → Int → Option (Int) := loopF (F44_b N) (fun _ _ _ => none)
theorem F44_s (N : Nat) {k : Nat} (hk : 0 < k) (a0 : (List (Int × (ByteArray × (Int × (Int × (Int × (Bool × (List Int))))))))) (a1 : Int) (a2 : Int) : F44_r N k a0 a1 a2 = F44_b N (F44_r N (k - 1)) a0 a1 a2 := by
  cases k with
  | zero => exact absurd hk (Nat.lt_irrefl 0)
  | succ m => rfl
def F44 (N : Nat) : (List (Int × (ByteArray × (Int × (Int × (Int × (Bool × (List Int)))))))) → Int → Int → Option (Int) := F44_r N N
theorem ok44_k (N : Nat) : ∀ (k : Nat) (a0 : (List (Int × (ByteArray × (Int × (Int × (Int × (Bool × (List Int))))))))) (a1 : Int) (a2 : Int) (r : Int), loopF (F44_b N) (fun _ _ _ => none) k a0 a1 a2 = some r → Con Go.Proofs.Try.prog 44 [.lf (.v (.sl Y40) a0), I a1, I a2] [.lf (.v (.int .i64) r)]
  | 0, a0, a1, a2, r, h => nomatch (show (none : Option (Int)) = some r from h)
  | k + 1, a0, a1, a2, r, h => ok44_b N _ (ok44_k N k) a0 a1 a2 h
theorem ok44 (N : Nat) (a0 : (List (Int × (ByteArray × (Int × (Int × (Int × (Bool × (List Int))))))))) (a1 : Int) (a2 : Int) {r : Int} (h : F44 N a0 a1 a2 = some r) : Con Go.Proofs.Try.prog 44 [.lf (.v (.sl Y40) a0), I a1, I a2] [.lf (.v (.int .i64) r)] := ok44_k N N a0 a1 a2 r h

/- loop.example/g00844/impl.PlanOk -/
def F25 (N : Nat) (a0 : (List (Int × (ByteArray × (Int × (Int × (Int × (Bool × (List Int))))))))) : Option (Bool) :=
  andO (F40 N (a0.length : Int) (1 : Int) (40 : Int)) fun y3 => cond (!y3) (some false) (andO (F41 N a0 (fun z0 => F42 N z0)) fun y4 => cond y4 (some false) (andO (F44 N a0 (0 : Int) (1 : Int)) fun y5 => some (y5 == (a0.length : Int))))
theorem ok25 (N : Nat) (a0 : (List (Int × (ByteArray × (Int × (Int × (Int × (Bool × (List Int))))))))) {r : Bool} (h : F25 N a0 = some r) : Con Go.Proofs.Try.prog 25 [.lf (.v (.sl Y40) a0)] [.lf (.v .bool r)] := by
  refine ctr [.lf (.v .bool)] T_ok Go.Proofs.Try.func25 rfl fun w0 E0 => ?_
  unfold F25 at h
  show VW _ _ _ _ _ (retQ _ _ _ _) _
  refine sR T_ok [0] [] ⟨[(0, .lf (.v (.sl Y40) a0))], []⟩ (tn 1) ?_
  refine VW.seq ?_
  refine VW.seq ?_
  refine VW.region ?_
  refine sG T_ok 2 [0, 4] [] ⟨[(0, .lf (.v (.sl Y40) a0)), (4, I (a0.length : Int))], []⟩ (tn 2) ?_
  obtain ⟨y3, hy, h⟩ := andO_some h
  refine cal false [.t (.int .i64), .t (.int .i64), .t (.int .i64)] [] (some 5) T_ok (ok40 N _ _ _ hy) ?_
  refine sG T_ok 2 [0, 7] [] ⟨[(0, .lf (.v (.sl Y40) a0)), (7, B (!y3))], []⟩ (tn 2) ?_
  refine spB 7 h (fun h => ?_) (fun h => ?_)
  · refine sN T_ok [0, 10] [] ⟨[(0, .lf (.v (.sl Y40) a0)), (10, B true)], []⟩ (tn 3) ?_
    refine VW.cond (b := true) (by kernel_rfl) (fun _ => ?_) (fun h' => nomatch h')
    refine sR T_ok [2] [] ⟨[(2, B false)], []⟩ (tn 1) ?_
    refine VW.ret ?_
    replace h := Option.some.inj h
    subst h
    exact rt []
  refine sG T_ok 1 [0, 7, 8] [] ⟨[(0, .lf (.v (.sl Y40) a0)), (7, B false), (8, .lf (.v (.sl Y40) a0))], []⟩ (tn 1) ?_
  refine VO.on (j := 4) (want := false) (d := 7) (b := false) rfl rfl rfl (by kernel_rfl) rfl ?_
  obtain ⟨y4, hy, h⟩ := andO_some h
  refine cal false [.t (.sl Y40), .clo []] [] (some 9) T_ok (ok41 N _ 42  (fun z0 => F42 N z0 ) (fun z0 _ hz => ok42 N z0 hz) hy) ?_
  refine sN T_ok [0, 10] [] ⟨[(0, .lf (.v (.sl Y40) a0)), (10, B y4)], []⟩ (tn 1) ?_
  refine cnd h (fun h => ?_) (fun h => ?_)
  · refine sR T_ok [2] [] ⟨[(2, B false)], []⟩ (tn 1) ?_
    refine VW.ret ?_
    replace h := Option.some.inj h
    subst h
    exact rt []
  refine VW.skip ?_
  refine VW.seq ?_
  refine VW.region ?_
  refine sG T_ok 1 [0, 11] [] ⟨[(0, .lf (.v (.sl Y40) a0)), (11, .lf (.v (.sl Y40) a0))], []⟩ (tn 1) ?_
  obtain ⟨y5, hy, h⟩ := andO_some h
  refine cal false [.t (.sl Y40), .t (.int .i64), .t (.int .i64)] [] (some 12) T_ok (ok44 N _ _ _ hy) ?_
  refine sN T_ok [2] [] ⟨[(2, B (y5 == (a0.length : Int)))], []⟩ (tn 4) ?_
  refine VW.ret ?_
  replace h := Option.some.inj h
  subst h
  exact rt []

/- slices.Clone[[]int,int] -/
def F45 (N : Nat) (a0 : (List Int)) : Option ((List Int)) :=
  gd (a0.length ≤ lim (.int .i64)) (some a0)
theorem ok45 (N : Nat) (a0 : (List Int)) {r : (List Int)} (h : F45 N a0 = some r) : Con Go.Proofs.Try.prog 45 [.lf (.v (.sl (.int .i64)) a0)] [.lf (.own (.int .i64) r .dp)] := by
  refine ctr [.lf (.own (.int .i64) .dp)] T_ok Go.Proofs.Try.func45 rfl fun w0 E0 => ?_
  unfold F45 at h
  show VW _ _ _ _ _ (retQ _ _ _ _) _
  refine sR T_ok [0] [] ⟨[(0, .lf (.v (.sl (.int .i64)) a0))], []⟩ (tn 1) ?_
  refine VW.seq ?_
  refine VW.seq ?_
  refine VW.region ?_
  refine sG T_ok 1 [0, 3] [] ⟨[(0, .lf (.v (.sl (.int .i64)) a0)), (3, .lf (.v (.sl (.int .i64)) a0))], []⟩ (tn 1) ?_
  refine VO.isNil (d := 4) (e := (.int .i64)) (xs := a0) T_ok rfl rfl rfl rfl (by kernel_rfl) (by kernel_rfl) (fun hx => ?_) ?_
  · replace h : some ([]) = some r := by
      subst hx; first | exact h | exact (gd_some h).2
    refine sN T_ok [0, 4] [] ⟨[(0, .lf (.v (.sl (.int .i64)) a0)), (4, B true)], []⟩ (tn 0) ?_
    refine VW.cond (b := true) (by kernel_rfl) (fun _ => ?_) (fun h' => nomatch h')
    refine sR T_ok [2] [] ⟨[(2, .lf (.nil))], []⟩ (tn 1) ?_
    refine VW.ret ?_
    replace h := Option.some.inj h
    subst h
    exact rt [none]
  refine sN T_ok [0, 4] [] ⟨[(0, .lf (.v (.sl (.int .i64)) a0)), (4, B false)], []⟩ (tn 0) ?_
  refine VW.cond (b := false) (by kernel_rfl) (fun h' => nomatch h') (fun _ => ?_)
  refine VW.skip ?_
  obtain ⟨g1, h⟩ := gd_some h
  refine sR T_ok [2] [0] ⟨[(2, .lf (.hd 0 0 none))], [ar 0 (.int .i64) a0 .dp]⟩ (pu 2 (an g1 (tn 1))) ?_
  refine VW.ret ?_
  replace h := Option.some.inj h
  subst h
  exact rt [some 0]

end Go.Proofs.Ytckcbjaldmlomaa.Vc
