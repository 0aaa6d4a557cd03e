/- What functions of the program compute, and that they do. -/
import Derived.Test.YtgpddckjpokclaaProg
import Derived.Test.YtgpddckjpokclaaVc35
namespace Go.Proofs.Ytgpddckjpokclaa.Vc
open Go Go.RowKit
set_option linter.unusedVariables false
set_option maxRecDepth 100000
set_option maxHeartbeats 4000000
abbrev Y7 : Ty := .pair (.int .i64) (.pair (.int .i64) (.pair .bool (.int .u8)))
abbrev Y13 : Ty := .pair .str (.int .u64)
abbrev Y31 : Ty := .pair (.int .i64) (.pair (.sl (.pair .str (.int .i64))) (.pair (.sl (.pair (.int .i64) (.pair (.sl (.pair (.int .i64) (.pair .str (.pair (.int .i64) (.pair (.int .i64) (.pair (.int .i64) (.pair .bool (.sl (.int .i64))))))))) (.pair (.sl (.pair (.int .i64) (.pair .str (.pair (.int .i64) (.pair (.int .i64) (.pair (.int .i64) (.pair .bool (.sl (.int .i64))))))))) (.pair (.int .i64) (.int .i64)))))) (.pair (.int .i64) (.pair (.int .i64) (.pair (.int .i64) (.pair (.int .i64) (.pair (.int .i64) (.int .i64))))))))
abbrev Y58 : Ty := .pair (.int .i64) (.pair (.sl (.int .i64)) (.sl (.int .i64)))
abbrev Y69 : Ty := .pair (.int .i64) (.int .i64)
abbrev Y93 : Ty := .pair .str (.int .i64)
abbrev Y105 : Ty := .pair (.int .i64) (.pair .str (.pair (.int .i64) (.pair (.int .i64) (.pair (.int .i64) (.pair .bool (.sl (.int .i64)))))))
abbrev Y151 : Ty := .pair (.int .i64) (.pair (.sl Y105) (.pair (.sl Y105) Y69))
abbrev Y159 : Ty := .pair (.sl (.int .u8)) Y69
abbrev Y182 : Ty := .pair (.sl (.int .u8)) (.pair (.int .i64) .bool)
def TL : List (Nat × TI) := [(2, { ty := (.int .i64) }),
  (3, { ty := (.int .i64) }),
  (4, { ty := .bool }),
  (5, { ty := (.int .u8) }),
  (6, { ty := (.int .u8) }),
  (7, { ty := Y7, offs := [0, 1, 2, 3], szs := [1, 1, 1, 1] }),
  (8, { ty := Y7, offs := [0, 1, 2, 3], szs := [1, 1, 1, 1] }),
  (9, { ty := .str }),
  (10, { ty := .str }),
  (11, { ty := .str }),
  (12, { ty := (.int .u64) }),
  (13, { ty := Y13, offs := [0, 1], szs := [1, 1] }),
  (14, { ty := Y13, offs := [0, 1], szs := [1, 1] }),
  (21, { ty := (.int .i32) }),
  (22, { ty := (.sl .str), elem := 9 }),
  (27, { ty := (.sl Y93), elem := 94 }),
  (29, { ty := (.sl Y93), elem := 98 }),
  (30, { ty := (.sl Y151), elem := 152 }),
  (31, { ty := Y31, offs := [0, 1, 2, 3, 4, 5, 6, 7, 8], szs := [1, 1, 1, 1, 1, 1, 1, 1, 1] }),
  (32, { ty := Y31, offs := [0, 1, 2, 3, 4, 5, 6, 7, 8], szs := [1, 1, 1, 1, 1, 1, 1, 1, 1] }),
  (41, { ty := (.sl Y105), elem := 106 }),
  (44, { ty := (.sl Y105), elem := 107 }),
  (48, { ty := (.sl (.int .i64)), elem := 3 }),
  (53, { ty := (.sl (.int .u8)), elem := 5 }),
  (58, { ty := Y58, offs := [0, 1, 2], szs := [1, 1, 1] }),
  (59, { ty := Y58, offs := [0, 1, 2], szs := [1, 1, 1] }),
  (69, { ty := Y69, offs := [0, 1], szs := [1, 1] }),
  (70, { ty := Y69, offs := [0, 1], szs := [1, 1] }),
  (73, { ty := Y69, offs := [0, 1], szs := [1, 1] }),
  (76, { ty := (.sl Y69), elem := 73 }),
  (93, { ty := Y93, offs := [0, 1], szs := [1, 1] }),
  (94, { ty := Y93, offs := [0, 1], szs := [1, 1] }),
  (98, { ty := Y93, offs := [0, 1], szs := [1, 1] }),
  (105, { ty := Y105, offs := [0, 1, 2, 3, 4, 5, 6], szs := [1, 1, 1, 1, 1, 1, 1] }),
  (106, { ty := Y105, offs := [0, 1, 2, 3, 4, 5, 6], szs := [1, 1, 1, 1, 1, 1, 1] }),
  (107, { ty := Y105, offs := [0, 1, 2, 3, 4, 5, 6], szs := [1, 1, 1, 1, 1, 1, 1] }),
  (133, { ty := (.sl (.sl Y105)), elem := 44 }),
  (146, { ty := (.sl Y69), elem := 148 }),
  (147, { ty := Y69, offs := [0, 1], szs := [1, 1] }),
  (148, { ty := Y69, offs := [0, 1], szs := [1, 1] }),
  (151, { ty := Y151, offs := [0, 1, 2, 3, 4], szs := [1, 1, 1, 1, 1] }),
  (152, { ty := Y151, offs := [0, 1, 2, 3, 4], szs := [1, 1, 1, 1, 1] }),
  (158, { ty := (.int .u64) }),
  (159, { ty := Y159, offs := [0, 1, 2], szs := [1, 1, 1] }),
  (160, { ty := Y159, offs := [0, 1, 2], szs := [1, 1, 1] }),
  (182, { ty := Y182, offs := [0, 1, 2], szs := [1, 1, 1] }),
  (183, { ty := Y182, offs := [0, 1, 2], szs := [1, 1, 1] }),
  (190, { ty := (.int .i64) }),
  (198, { ty := (.int .u32) }),
  (200, { ty := (.int .u64) }),
  (205, { ty := (.sl (.sl (.int .u8))), elem := 53 }),
  (207, { ty := (.int .u64) }),
  (225, { ty := (.int .u8) }),
  (226, { ty := (.int .u8) }),
  (229, { ty := (.int .i32) }),
  (230, { ty := (.int .i32) })]
abbrev T : Tab := lookT TL
theorem T_ok : TabOk Go.Proofs.Try.prog T := tabOk_of TL (by kernel_rfl)
theorem T_rec : RecOk Go.Proofs.Try.prog T := recOk_of TL (by kernel_rfl)
/- loop.example/g00844/laws.markText -/
def F69_j0 (N : Nat) (x7 : ByteArray) : Option (ByteArray) :=
  gd ((⟨#[109]⟩ : ByteArray).size + x7.size ≤ 9223372036854775807) (some ((⟨#[109]⟩ : ByteArray) ++ x7))
def F69_l0_b (N : Nat) (nx14 : Int → ByteArray → Option (ByteArray)) (x11 : Int) (x12 : ByteArray) : Option (ByteArray) :=
  cond (decide (x11 > (0 : Int))) (gd ((strOfNums ([(IntKind.u8.wrap (IntKind.i64.wrap ((48 : Int) + (Int.tmod x11 (10 : Int)))))])).size + x12.size ≤ 9223372036854775807) (nx14 (IntKind.i64.wrap (Int.tdiv x11 (10 : Int))) ((strOfNums ([(IntKind.u8.wrap (IntKind.i64.wrap ((48 : Int) + (Int.tmod x11 (10 : Int)))))])) ++ x12))) (F69_j0 N x12)
def F69_l0 (N : Nat) : Nat → Int → ByteArray → Option (ByteArray) := loopF (F69_l0_b N) (fun _ _ => none)
theorem F69_l0_s (N : Nat) {k : Nat} (hk : 0 < k) (x11 : Int) (x12 : ByteArray) : F69_l0 N k x11 x12 = F69_l0_b N (F69_l0 N (k - 1)) x11 x12 := by
  cases k with
  | zero => exact absurd hk (Nat.lt_irrefl 0)
  | succ m => rfl
def F69 (N : Nat) (a0 : Int) : Option (ByteArray) :=
  cond (decide (a0 ≤ (0 : Int))) (some (⟨#[109, 48]⟩ : ByteArray)) (F69_l0 N N a0 ByteArray.empty)
theorem ok69 (N : Nat) (a0 : Int) {r : ByteArray} (h : F69 N a0 = some r) : Con Go.Proofs.Try.prog 69 [I a0] [.lf (.v .str r)] := by
  refine ctr [.lf (.v .str)] T_ok Go.Proofs.Try.func69 rfl fun w0 E0 => ?_
  unfold F69 at h
  show VW _ _ _ _ _ (retQ _ _ _ _) _
  refine sR T_ok [0] [] ⟨[(0, I a0)], []⟩ (tn 1) ?_
  refine VW.seq ?_
  refine sR T_ok [0, 5] [] ⟨[(0, I a0), (5, B (decide (a0 ≤ (0 : Int))))], []⟩ (tn 2) ?_
  refine cnd h (fun h => ?_) (fun h => ?_)
  · refine sR T_ok [2] [] ⟨[(2, S (⟨#[109, 48]⟩ : ByteArray))], []⟩ (tn 1) ?_
    refine VW.ret ?_
    replace h := Option.some.inj h
    subst h
    exact rt []
  refine VW.skip ?_
  refine sR T_ok [0, 3] [] ⟨[(0, I a0), (3, S ByteArray.empty)], []⟩ (tn 1) ?_
  refine VW.join (fun s => ∃ (x7 : ByteArray), s = ⟨[(3, S x7)], []⟩ ∧ F69_j0 N x7 = some r) ?_ ?_
  · refine VW.block ?_
    refine lop (fun k s => ∃ (x11 : Int) (x12 : ByteArray), s = ⟨[(0, I x11), (3, S x12)], []⟩ ∧ F69_l0 N k x11 x12 = some r) N [.ren [0, 3] []] ⟨a0, ByteArray.empty, rfl, h⟩ ?_
    rintro k14 s ⟨x11, x12, rfl, h⟩
    cases k14 with
    | zero => cases show none = some r from h
    | succ k14 =>
      replace h : F69_l0_b N (F69_l0 N k14) x11 x12 = some r := h
      unfold F69_l0_b at h
      refine VW.seq ?_
      refine sR T_ok [0, 3, 7] [] ⟨[(0, I x11), (3, S x12), (7, B (decide (x11 > (0 : Int))))], []⟩ (tn 2) ?_
      refine cnd h (fun h => ?_) (fun h => ?_)
      · refine VW.skip ?_
        refine VW.block ?_
        obtain ⟨g15, h⟩ := gd_some h
        refine sR T_ok [0, 3] [] ⟨[(0, I x11), (3, S ((strOfNums ([(IntKind.u8.wrap (IntKind.i64.wrap ((48 : Int) + (Int.tmod x11 (10 : Int)))))])) ++ x12))], []⟩ (pu 1 (an (show ((10 : Int) ≠ 0) from by decide) (pu 5 (an g15 (tn 1))))) ?_
        refine rR T_ok [0, 3] [] ⟨[(0, I (IntKind.i64.wrap (Int.tdiv x11 (10 : Int)))), (3, S ((strOfNums ([(IntKind.u8.wrap (IntKind.i64.wrap ((48 : Int) + (Int.tmod x11 (10 : Int)))))])) ++ x12))], []⟩ (pu 1 (an (show ((10 : Int) ≠ 0) from by decide) (tn 1))) ?_
        exact aro [.ren [0, 3] []] ⟨(IntKind.i64.wrap (Int.tdiv x11 (10 : Int))), ((strOfNums ([(IntKind.u8.wrap (IntKind.i64.wrap ((48 : Int) + (Int.tmod x11 (10 : Int)))))])) ++ x12), rfl, h⟩
      refine VW.exit ?_
      exact arv [.ren [3] []] ⟨x12, rfl, h⟩
  rintro s ⟨x7, rfl, h⟩
  unfold F69_j0 at h
  obtain ⟨g8, h⟩ := gd_some h
  refine sR T_ok [2] [] ⟨[(2, S ((⟨#[109]⟩ : ByteArray) ++ x7))], []⟩ (pu 1 (an g8 (tn 1))) ?_
  refine VW.ret ?_
  replace h := Option.some.inj h
  subst h
  exact rt []

/- loop.example/g00844/laws.szTable -/
def F70 (N : Nat) (a0 : (ByteArray × Int)) (a1 : Int) : Option (Int) :=
  cond (decide ((IntKind.i64.wrap (a1 - (a0.1.size : Int))) < (0 : Int))) (some (-1 : Int)) (some (IntKind.i64.wrap (a1 - (a0.1.size : Int))))
theorem ok70 (N : Nat) (a0 : (ByteArray × Int)) (a1 : Int) {r : Int} (h : F70 N a0 a1 = some r) : Con Go.Proofs.Try.prog 70 [.agg [.v .str a0.1, .v (.int .i64) a0.2], I a1] [.lf (.v (.int .i64) r)] := by
  refine ctr [.lf (.v (.int .i64))] T_ok Go.Proofs.Try.func70 rfl fun w0 E0 => ?_
  unfold F70 at h
  show VW _ _ _ _ _ (retQ _ _ _ _) _
  refine sR T_ok [1, 2] [0] ⟨[(1, I a1), (2, .lf (.ptr 0 0 0 0))], [bx [.v .str a0.1, .v (.int .i64) a0.2] 94]⟩ (tn 2) ?_
  refine sR T_ok [1] [] ⟨[(1, I (IntKind.i64.wrap (a1 - (a0.1.size : Int))))], []⟩ (tn 6) ?_
  refine VW.seq ?_
  refine sR T_ok [1, 11] [] ⟨[(1, I (IntKind.i64.wrap (a1 - (a0.1.size : Int)))), (11, B (decide ((IntKind.i64.wrap (a1 - (a0.1.size : Int))) < (0 : Int))))], []⟩ (tn 2) ?_
  refine cnd h (fun h => ?_) (fun h => ?_)
  · refine sR T_ok [4] [] ⟨[(4, I (-1 : Int))], []⟩ (tn 1) ?_
    refine VW.ret ?_
    replace h := Option.some.inj h
    subst h
    exact rt []
  refine VW.skip ?_
  refine sR T_ok [4] [] ⟨[(4, I (IntKind.i64.wrap (a1 - (a0.1.size : Int))))], []⟩ (tn 2) ?_
  refine VW.ret ?_
  replace h := Option.some.inj h
  subst h
  exact rt []

/- loop.example/g00844/laws.szTableS -/
def F16_j0 (N : Nat) (x17 : Int) : Option (Int) :=
  some x17
def F16_l0_b (N : Nat) (a0 : (List (ByteArray × Int))) (nx30 : Int → Int → Option (Int)) (x24 : Int) (x25 : Int) : Option (Int) :=
  cond (decide (x25 < (a0.length : Int))) (gd (InR x25 a0.length) (andO (F70 N (a0.getD x25.toNat (Ty.dflt Y93)) x24) fun y34 => cond (decide (y34 < (0 : Int))) (some (-1 : Int)) (nx30 y34 (IntKind.i64.wrap (x25 + (1 : Int)))))) (F16_j0 N x24)
def F16_l0 (N : Nat) (a0 : (List (ByteArray × Int))) : Nat → Int → Int → Option (Int) := loopF (F16_l0_b N a0) (fun _ _ => none)
theorem F16_l0_s (N : Nat) (a0 : (List (ByteArray × Int))) {k : Nat} (hk : 0 < k) (x24 : Int) (x25 : Int) : F16_l0 N a0 k x24 x25 = F16_l0_b N a0 (F16_l0 N a0 (k - 1)) x24 x25 := by
  cases k with
  | zero => exact absurd hk (Nat.lt_irrefl 0)
  | succ m => rfl
def F16 (N : Nat) (a0 : (List (ByteArray × Int))) (a1 : Int) : Option (Int) :=
  cond (decide ((IntKind.i64.wrap (a1 - (a0.length : Int))) < (0 : Int))) (some (-1 : Int)) (F16_l0 N a0 N (IntKind.i64.wrap (a1 - (a0.length : Int))) (0 : Int))
theorem ok16 (N : Nat) (a0 : (List (ByteArray × Int))) (a1 : Int) {r : Int} (h : F16 N a0 a1 = some r) : Con Go.Proofs.Try.prog 16 [.lf (.v (.sl Y93) a0), I a1] [.lf (.v (.int .i64) r)] := by
  refine ctr [.lf (.v (.int .i64))] T_ok Go.Proofs.Try.func16 rfl fun w0 E0 => ?_
  unfold F16 at h
  show VW _ _ _ _ _ (retQ _ _ _ _) _
  refine sR T_ok [0, 1] [] ⟨[(0, .lf (.v (.sl Y93) a0)), (1, I a1)], []⟩ (tn 1) ?_
  refine sR T_ok [0, 1] [] ⟨[(0, .lf (.v (.sl Y93) a0)), (1, I (IntKind.i64.wrap (a1 - (a0.length : Int))))], []⟩ (tn 5) ?_
  refine VW.seq ?_
  refine sR T_ok [0, 1, 11] [] ⟨[(0, .lf (.v (.sl Y93) a0)), (1, I (IntKind.i64.wrap (a1 - (a0.length : Int)))), (11, B (decide ((IntKind.i64.wrap (a1 - (a0.length : Int))) < (0 : Int))))], []⟩ (tn 2) ?_
  refine cnd h (fun h => ?_) (fun h => ?_)
  · refine sR T_ok [4] [] ⟨[(4, I (-1 : Int))], []⟩ (tn 1) ?_
    refine VW.ret ?_
    replace h := Option.some.inj h
    subst h
    exact rt []
  refine VW.skip ?_
  refine VW.join (fun s => ∃ (x17 : Int), s = ⟨[(1, I x17)], []⟩ ∧ F16_j0 N x17 = some r) ?_ ?_
  · refine sR T_ok [0, 1, 5] [] ⟨[(0, .lf (.v (.sl Y93) a0)), (1, I (IntKind.i64.wrap (a1 - (a0.length : Int)))), (5, I (0 : Int))], []⟩ (tn 1) ?_
    refine VW.block ?_
    refine lop (fun k s => ∃ (x24 : Int) (x25 : Int), s = ⟨[(0, .lf (.v (.sl Y93) a0)), (1, I x24), (5, I x25)], []⟩ ∧ F16_l0 N a0 k x24 x25 = some r) N [.ren [0, 1, 5] []] ⟨(IntKind.i64.wrap (a1 - (a0.length : Int))), (0 : Int), rfl, h⟩ ?_
    rintro k30 s ⟨x24, x25, rfl, h⟩
    cases k30 with
    | zero => cases show none = some r from h
    | succ k30 =>
      replace h : F16_l0_b N a0 (F16_l0 N a0 k30) x24 x25 = some r := h
      unfold F16_l0_b at h
      refine VW.seq ?_
      refine sR T_ok [0, 1, 5, 15] [] ⟨[(0, .lf (.v (.sl Y93) a0)), (1, I x24), (5, I x25), (15, B (decide (x25 < (a0.length : Int))))], []⟩ (tn 4) ?_
      refine cnd h (fun h => ?_) (fun h => ?_)
      · refine VW.skip ?_
        refine VW.seq ?_
        refine VW.block ?_
        refine VW.seq ?_
        refine VW.region ?_
        obtain ⟨g33, h⟩ := gd_some h
        refine sG T_ok 5 [0, 5, 21, 22] [] ⟨[(0, .lf (.v (.sl Y93) a0)), (5, I x25), (21, .agg [.v .str ((a0.getD x25.toNat (Ty.dflt Y93)).1), .v (.int .i64) ((a0.getD x25.toNat (Ty.dflt Y93)).2)]), (22, I x24)], []⟩ (pu 2 (an g33 (tn 2))) ?_
        obtain ⟨y34, hy, h⟩ := andO_some h
        refine cal false [.t Y93, .t (.int .i64)] [] (some 23) T_ok (ok70 N _ _ hy) ?_
        refine sN T_ok [0, 1, 5] [] ⟨[(0, .lf (.v (.sl Y93) a0)), (1, I y34), (5, I x25)], []⟩ (tn 1) ?_
        refine sR T_ok [0, 1, 5, 25] [] ⟨[(0, .lf (.v (.sl Y93) a0)), (1, I y34), (5, I x25), (25, B (decide (y34 < (0 : Int))))], []⟩ (tn 2) ?_
        refine cnd h (fun h => ?_) (fun h => ?_)
        · refine sR T_ok [4] [] ⟨[(4, I (-1 : Int))], []⟩ (tn 1) ?_
          refine VW.ret ?_
          replace h := Option.some.inj h
          subst h
          exact rt []
        refine VW.skip ?_
        refine rR T_ok [0, 1, 5] [] ⟨[(0, .lf (.v (.sl Y93) a0)), (1, I y34), (5, I (IntKind.i64.wrap (x25 + (1 : Int))))], []⟩ (tn 3) ?_
        exact aro [.ren [0, 1, 5] []] ⟨y34, (IntKind.i64.wrap (x25 + (1 : Int))), rfl, h⟩
      refine VW.exit ?_
      exact arv [.ren [1] []] ⟨x24, rfl, h⟩
  rintro s ⟨x17, rfl, h⟩
  unfold F16_j0 at h
  refine sR T_ok [4] [] ⟨[(4, I x17)], []⟩ (tn 2) ?_
  refine VW.ret ?_
  replace h := Option.some.inj h
  subst h
  exact rt []

/- loop.example/g00844/spec.l01In -/
def F71 (N : Nat) (a0 : Int) (a1 : Int) (a2 : Int) : Option (Bool) :=
  cond (decide (a1 ≤ a0)) (some (decide (a0 ≤ a2))) (some false)
theorem ok71 (N : Nat) (a0 : Int) (a1 : Int) (a2 : Int) {r : Bool} (h : F71 N a0 a1 a2 = some r) : Con Go.Proofs.Try.prog 71 [I a0, I a1, I a2] [.lf (.v .bool r)] := by
  refine ctr [.lf (.v .bool)] T_ok Go.Proofs.Try.func71 rfl fun w0 E0 => ?_
  unfold F71 at h
  show VW _ _ _ _ _ (retQ _ _ _ _) _
  refine sR T_ok [0, 1, 2] [] ⟨[(0, I a0), (1, I a1), (2, I a2)], []⟩ (tn 1) ?_
  refine VW.seq ?_
  refine VW.region ?_
  refine sG T_ok 4 [0, 2, 10] [] ⟨[(0, I a0), (2, I a2), (10, B (decide (a1 ≤ a0)))], []⟩ (tn 4) ?_
  refine spB 10 h (fun h => ?_) (fun h => ?_)
  · refine sN T_ok [6] [] ⟨[(6, B (decide (a0 ≤ a2)))], []⟩ (tn 5) ?_
    refine VW.ret ?_
    replace h := Option.some.inj h
    subst h
    exact rt []
  refine sN T_ok [6] [] ⟨[(6, B false)], []⟩ (tn 5) ?_
  refine VW.ret ?_
  replace h := Option.some.inj h
  subst h
  exact rt []

/- loop.example/g00844/spec.WordOk -/
def F138_j0 (N : Nat) : Option (Bool) :=
  some true
def F138_j1 (N : Nat) (nx74 : Int → Option (Bool)) (x60 : Int) : Option (Bool) :=
  nx74 (IntKind.i64.wrap (x60 + (1 : Int)))
def F138_l0_b (N : Nat) (a0 : ByteArray) (nx74 : Int → Option (Bool)) (x60 : Int) : Option (Bool) :=
  cond (decide (x60 < (a0.size : Int))) (gd (InR x60 a0.size) (cond (decide (((a0.data.getD x60.toNat 0).toNat : Int) < (97 : Int))) (gd (InR x60 a0.size) (cond (decide (((a0.data.getD x60.toNat 0).toNat : Int) < (48 : Int))) (some false) (gd (InR x60 a0.size) (cond (decide (((a0.data.getD x60.toNat 0).toNat : Int) > (57 : Int))) (some false) (F138_j1 N nx74 x60))))) (gd (InR x60 a0.size) (cond (decide (((a0.data.getD x60.toNat 0).toNat : Int) > (122 : Int))) (gd (InR x60 a0.size) (cond (decide (((a0.data.getD x60.toNat 0).toNat : Int) < (48 : Int))) (some false) (gd (InR x60 a0.size) (cond (decide (((a0.data.getD x60.toNat 0).toNat : Int) > (57 : Int))) (some false) (F138_j1 N nx74 x60))))) (F138_j1 N nx74 x60))))) (F138_j0 N)
def F138_l0 (N : Nat) (a0 : ByteArray) : Nat → Int → Option (Bool) := loopF (F138_l0_b N a0) (fun _ => none)
theorem F138_l0_s (N : Nat) (a0 : ByteArray) {k : Nat} (hk : 0 < k) (x60 : Int) : F138_l0 N a0 k x60 = F138_l0_b N a0 (F138_l0 N a0 (k - 1)) x60 := by
  cases k with
  | zero => exact absurd hk (Nat.lt_irrefl 0)
  | succ m => rfl
def F138 (N : Nat) (a0 : ByteArray) : Option (Bool) :=
  andO (F71 N (a0.size : Int) (1 : Int) (12 : Int)) fun y3 => cond (!y3) (some false) (gd (InR (0 : Int) a0.size) (cond (decide (((a0.data.getD (0 : Int).toNat 0).toNat : Int) < (97 : Int))) (some false) (F138_l0 N a0 N (0 : Int))))
theorem ok138 (N : Nat) (a0 : ByteArray) {r : Bool} (h : F138 N a0 = some r) : Con Go.Proofs.Try.prog 138 [S a0] [.lf (.v .bool r)] := by
  refine ctr [.lf (.v .bool)] T_ok Go.Proofs.Try.func138 rfl fun w0 E0 => ?_
  unfold F138 at h
  show VW _ _ _ _ _ (retQ _ _ _ _) _
  refine sR T_ok [0] [] ⟨[(0, S a0)], []⟩ (tn 1) ?_
  refine VW.seq ?_
  refine VW.seq ?_
  refine VW.region ?_
  refine sG T_ok 2 [0, 5] [] ⟨[(0, S a0), (5, I (a0.size : Int))], []⟩ (tn 2) ?_
  obtain ⟨y3, hy, h⟩ := andO_some h
  refine cal false [.t (.int .i64), .t (.int .i64), .t (.int .i64)] [] (some 6) T_ok (ok71 N _ _ _ hy) ?_
  refine sG T_ok 2 [0, 8] [] ⟨[(0, S a0), (8, B (!y3))], []⟩ (tn 2) ?_
  refine spB 8 h (fun h => ?_) (fun h => ?_)
  · refine sN T_ok [0, 12] [] ⟨[(0, S a0), (12, B true)], []⟩ (tn 4) ?_
    refine VW.cond (b := true) (by kernel_rfl) (fun _ => ?_) (fun h' => nomatch h')
    refine sR T_ok [2] [] ⟨[(2, B false)], []⟩ (tn 1) ?_
    refine VW.ret ?_
    replace h := Option.some.inj h
    subst h
    exact rt []
  obtain ⟨g4, h⟩ := gd_some h
  refine sN T_ok [0, 12] [] ⟨[(0, S a0), (12, B (decide (((a0.data.getD (0 : Int).toNat 0).toNat : Int) < (97 : Int))))], []⟩ (pu 1 (an g4 (tn 2))) ?_
  refine cnd h (fun h => ?_) (fun h => ?_)
  · refine sR T_ok [2] [] ⟨[(2, B false)], []⟩ (tn 1) ?_
    refine VW.ret ?_
    replace h := Option.some.inj h
    subst h
    exact rt []
  refine VW.skip ?_
  refine VW.join (fun s => s = ⟨[], []⟩ ∧ F138_j0 N = some r) ?_ ?_
  · refine sR T_ok [0, 3] [] ⟨[(0, S a0), (3, I (0 : Int))], []⟩ (tn 1) ?_
    refine VW.block ?_
    refine lop (fun k s => ∃ (x60 : Int), s = ⟨[(0, S a0), (3, I x60)], []⟩ ∧ F138_l0 N a0 k x60 = some r) N [.ren [0, 3] []] ⟨(0 : Int), rfl, h⟩ ?_
    rintro k74 s ⟨x60, rfl, h⟩
    cases k74 with
    | zero => cases show none = some r from h
    | succ k74 =>
      replace h : F138_l0_b N a0 (F138_l0 N a0 k74) x60 = some r := h
      unfold F138_l0_b at h
      refine VW.seq ?_
      refine sR T_ok [0, 3, 16] [] ⟨[(0, S a0), (3, I x60), (16, B (decide (x60 < (a0.size : Int))))], []⟩ (tn 4) ?_
      refine cnd h (fun h => ?_) (fun h => ?_)
      · refine VW.skip ?_
        refine VW.join (fun s => s = ⟨[(0, S a0), (3, I x60)], []⟩ ∧ F138_j1 N (F138_l0 N a0 k74) x60 = some r) ?_ ?_
        · refine VW.block ?_
          refine VW.seq ?_
          refine VW.region ?_
          obtain ⟨g82, h⟩ := gd_some h
          refine sG T_ok 5 [0, 3, 23] [] ⟨[(0, S a0), (3, I x60), (23, B (decide (((a0.data.getD x60.toNat 0).toNat : Int) < (97 : Int))))], []⟩ (pu 2 (an g82 (tn 2))) ?_
          refine spB 23 h (fun h => ?_) (fun h => ?_)
          · obtain ⟨g83, h⟩ := gd_some h
            refine sG T_ok 11 [0, 3, 29, 34] [] ⟨[(0, S a0), (3, I x60), (29, B true), (34, B (decide (((a0.data.getD x60.toNat 0).toNat : Int) < (48 : Int))))], []⟩ (pu 8 (an g83 (tn 2))) ?_
            refine spB 34 h (fun h => ?_) (fun h => ?_)
            · refine sN T_ok [0, 3, 40] [] ⟨[(0, S a0), (3, I x60), (40, B true)], []⟩ (tn 6) ?_
              refine VW.cond (b := true) (by kernel_rfl) (fun _ => ?_) (fun h' => nomatch h')
              refine sR T_ok [2] [] ⟨[(2, B false)], []⟩ (tn 1) ?_
              refine VW.ret ?_
              replace h := Option.some.inj h
              subst h
              exact rt []
            obtain ⟨g84, h⟩ := gd_some h
            refine sN T_ok [0, 3, 40] [] ⟨[(0, S a0), (3, I x60), (40, B (decide (((a0.data.getD x60.toNat 0).toNat : Int) > (57 : Int))))], []⟩ (pu 2 (an g84 (tn 3))) ?_
            refine cnd h (fun h => ?_) (fun h => ?_)
            · refine sR T_ok [2] [] ⟨[(2, B false)], []⟩ (tn 1) ?_
              refine VW.ret ?_
              replace h := Option.some.inj h
              subst h
              exact rt []
            refine VW.skip ?_
            exact arv [.ren [0, 3] []] ⟨rfl, h⟩
          obtain ⟨g85, h⟩ := gd_some h
          refine sG T_ok 6 [0, 3, 29] [] ⟨[(0, S a0), (3, I x60), (29, B (decide (((a0.data.getD x60.toNat 0).toNat : Int) > (122 : Int))))], []⟩ (pu 2 (an g85 (tn 3))) ?_
          refine spB 29 h (fun h => ?_) (fun h => ?_)
          · obtain ⟨g86, h⟩ := gd_some h
            refine sG T_ok 5 [0, 3, 29, 34] [] ⟨[(0, S a0), (3, I x60), (29, B true), (34, B (decide (((a0.data.getD x60.toNat 0).toNat : Int) < (48 : Int))))], []⟩ (pu 2 (an g86 (tn 2))) ?_
            refine spB 34 h (fun h => ?_) (fun h => ?_)
            · refine sN T_ok [0, 3, 40] [] ⟨[(0, S a0), (3, I x60), (40, B true)], []⟩ (tn 6) ?_
              refine VW.cond (b := true) (by kernel_rfl) (fun _ => ?_) (fun h' => nomatch h')
              refine sR T_ok [2] [] ⟨[(2, B false)], []⟩ (tn 1) ?_
              refine VW.ret ?_
              replace h := Option.some.inj h
              subst h
              exact rt []
            obtain ⟨g87, h⟩ := gd_some h
            refine sN T_ok [0, 3, 40] [] ⟨[(0, S a0), (3, I x60), (40, B (decide (((a0.data.getD x60.toNat 0).toNat : Int) > (57 : Int))))], []⟩ (pu 2 (an g87 (tn 3))) ?_
            refine cnd h (fun h => ?_) (fun h => ?_)
            · refine sR T_ok [2] [] ⟨[(2, B false)], []⟩ (tn 1) ?_
              refine VW.ret ?_
              replace h := Option.some.inj h
              subst h
              exact rt []
            refine VW.skip ?_
            exact arv [.ren [0, 3] []] ⟨rfl, h⟩
          refine sN T_ok [0, 3, 40] [] ⟨[(0, S a0), (3, I x60), (40, B false)], []⟩ (tn 11) ?_
          refine VW.cond (b := false) (by kernel_rfl) (fun h' => nomatch h') (fun _ => ?_)
          refine VW.skip ?_
          exact arv [.ren [0, 3] []] ⟨rfl, h⟩
        rintro s ⟨rfl, h⟩
        unfold F138_j1 at h
        refine rR T_ok [0, 3] [] ⟨[(0, S a0), (3, I (IntKind.i64.wrap (x60 + (1 : Int))))], []⟩ (tn 3) ?_
        exact aro [.ren [0, 3] []] ⟨(IntKind.i64.wrap (x60 + (1 : Int))), rfl, h⟩
      refine VW.exit ?_
      exact arv [.ren [] []] ⟨rfl, h⟩
  rintro s ⟨rfl, h⟩
  unfold F138_j0 at h
  refine sR T_ok [2] [] ⟨[(2, B true)], []⟩ (tn 1) ?_
  refine VW.ret ?_
  replace h := Option.some.inj h
  subst h
  exact rt []

/- loop.example/g00844/spec.l01Less -/
def F139_j0 (N : Nat) (a0 : ByteArray) (a1 : ByteArray) : Option (Bool) :=
  some (decide ((a0.size : Int) < (a1.size : Int)))
def F139_l0_b (N : Nat) (a0 : ByteArray) (a1 : ByteArray) (nx45 : Int → Option (Bool)) (x36 : Int) : Option (Bool) :=
  cond (decide (x36 < (a0.size : Int))) (cond (decide (x36 < (a1.size : Int))) (gd (InR x36 a0.size) (gd (InR x36 a1.size) (cond (((a0.data.getD x36.toNat 0).toNat : Int) != ((a1.data.getD x36.toNat 0).toNat : Int)) (gd (InR x36 a0.size) (gd (InR x36 a1.size) (some (decide (((a0.data.getD x36.toNat 0).toNat : Int) < ((a1.data.getD x36.toNat 0).toNat : Int)))))) (nx45 (IntKind.i64.wrap (x36 + (1 : Int))))))) (F139_j0 N a0 a1)) (F139_j0 N a0 a1)
def F139_l0 (N : Nat) (a0 : ByteArray) (a1 : ByteArray) : Nat → Int → Option (Bool) := loopF (F139_l0_b N a0 a1) (fun _ => none)
theorem F139_l0_s (N : Nat) (a0 : ByteArray) (a1 : ByteArray) {k : Nat} (hk : 0 < k) (x36 : Int) : F139_l0 N a0 a1 k x36 = F139_l0_b N a0 a1 (F139_l0 N a0 a1 (k - 1)) x36 := by
  cases k with
  | zero => exact absurd hk (Nat.lt_irrefl 0)
  | succ m => rfl
def F139 (N : Nat) (a0 : ByteArray) (a1 : ByteArray) : Option (Bool) :=
  F139_l0 N a0 a1 N (0 : Int)
theorem ok139 (N : Nat) (a0 : ByteArray) (a1 : ByteArray) {r : Bool} (h : F139 N a0 a1 = some r) : Con Go.Proofs.Try.prog 139 [S a0, S a1] [.lf (.v .bool r)] := by
  refine ctr [.lf (.v .bool)] T_ok Go.Proofs.Try.func139 rfl fun w0 E0 => ?_
  unfold F139 at h
  show VW _ _ _ _ _ (retQ _ _ _ _) _
  refine sR T_ok [0, 1] [] ⟨[(0, S a0), (1, S a1)], []⟩ (tn 1) ?_
  refine VW.join (fun s => s = ⟨[(0, S a0), (1, S a1)], []⟩ ∧ F139_j0 N a0 a1 = some r) ?_ ?_
  · refine sR T_ok [0, 1, 5] [] ⟨[(0, S a0), (1, S a1), (5, I (0 : Int))], []⟩ (tn 1) ?_
    refine VW.block ?_
    refine lop (fun k s => ∃ (x36 : Int), s = ⟨[(0, S a0), (1, S a1), (5, I x36)], []⟩ ∧ F139_l0 N a0 a1 k x36 = some r) N [.ren [0, 1, 5] []] ⟨(0 : Int), rfl, h⟩ ?_
    rintro k45 s ⟨x36, rfl, h⟩
    cases k45 with
    | zero => cases show none = some r from h
    | succ k45 =>
      replace h : F139_l0_b N a0 a1 (F139_l0 N a0 a1 k45) x36 = some r := h
      unfold F139_l0_b at h
      refine VW.seq ?_
      refine VW.seq ?_
      refine VW.region ?_
      refine sG T_ok 5 [0, 1, 5, 10] [] ⟨[(0, S a0), (1, S a1), (5, I x36), (10, B (decide (x36 < (a0.size : Int))))], []⟩ (tn 5) ?_
      refine spB 10 h (fun h => ?_) (fun h => ?_)
      · refine sN T_ok [0, 1, 5, 15] [] ⟨[(0, S a0), (1, S a1), (5, I x36), (15, B (decide (x36 < (a1.size : Int))))], []⟩ (tn 5) ?_
        refine cnd h (fun h => ?_) (fun h => ?_)
        · refine VW.skip ?_
          refine VW.seq ?_
          refine VW.block ?_
          refine VW.seq ?_
          obtain ⟨g50, h⟩ := gd_some h
          obtain ⟨g51, h⟩ := gd_some h
          refine VW.drawn (by kernel_rfl) [some (18, S a0), some (19, I x36), some (20, U ((a0.data.getD x36.toNat 0).toNat : Int)), some (21, S a1), some (22, I x36), some (23, U ((a1.data.getD x36.toNat 0).toNat : Int)), some (24, B (((a0.data.getD x36.toNat 0).toNat : Int) != ((a1.data.getD x36.toNat 0).toNat : Int)))] [] [[]] [(0, 0), (1, 0), (2, 0), (3, 0), (4, 0), (5, 0), (6, 0)] [0, 1, 5, 24] [] (s' := ⟨[(0, S a0), (1, S a1), (5, I x36), (24, B (((a0.data.getD x36.toNat 0).toNat : Int) != ((a1.data.getD x36.toNat 0).toNat : Int)))], []⟩) (by kernel_rfl) (by kernel_rfl) ⟨⟨_, rfl, Stp.ev T_ok (m := .dp) (φ := True) (by kernel_rfl) trivial⟩,
    ⟨_, rfl, Stp.ev T_ok (m := .dp) (φ := True) (by kernel_rfl) trivial⟩,
    ⟨_, rfl, Stp.ev T_ok (m := .dp) (φ := InR x36 a0.size) (by kernel_rfl) g50⟩,
    ⟨_, rfl, Stp.ev T_ok (m := .dp) (φ := True) (by kernel_rfl) trivial⟩,
    ⟨_, rfl, Stp.ev T_ok (m := .dp) (φ := True) (by kernel_rfl) trivial⟩,
    ⟨_, rfl, Stp.ev T_ok (m := .dp) (φ := InR x36 a1.size) (by kernel_rfl) g51⟩,
    ⟨_, rfl, Stp.ev T_ok (m := .dp) (φ := True) (by kernel_rfl) trivial⟩, trivial⟩ (by kernel_rfl) ?_
          refine cnd h (fun h => ?_) (fun h => ?_)
          · refine VW.seq ?_
            obtain ⟨g52, h⟩ := gd_some h
            obtain ⟨g53, h⟩ := gd_some h
            refine VW.drawn (by kernel_rfl) [some (25, S a0), some (26, I x36), some (27, U ((a0.data.getD x36.toNat 0).toNat : Int)), some (28, S a1), some (29, I x36), some (30, U ((a1.data.getD x36.toNat 0).toNat : Int)), some (31, B (decide (((a0.data.getD x36.toNat 0).toNat : Int) < ((a1.data.getD x36.toNat 0).toNat : Int)))), some (4, B (decide (((a0.data.getD x36.toNat 0).toNat : Int) < ((a1.data.getD x36.toNat 0).toNat : Int))))] [] [[]] [(0, 0), (1, 0), (2, 0), (3, 0), (4, 0), (5, 0), (6, 0), (7, 0)] [4] [] (s' := ⟨[(4, B (decide (((a0.data.getD x36.toNat 0).toNat : Int) < ((a1.data.getD x36.toNat 0).toNat : Int))))], []⟩) (by kernel_rfl) (by kernel_rfl) ⟨⟨_, rfl, Stp.ev T_ok (m := .dp) (φ := True) (by kernel_rfl) trivial⟩,
    ⟨_, rfl, Stp.ev T_ok (m := .dp) (φ := True) (by kernel_rfl) trivial⟩,
    ⟨_, rfl, Stp.ev T_ok (m := .dp) (φ := InR x36 a0.size) (by kernel_rfl) g52⟩,
    ⟨_, rfl, Stp.ev T_ok (m := .dp) (φ := True) (by kernel_rfl) trivial⟩,
    ⟨_, rfl, Stp.ev T_ok (m := .dp) (φ := True) (by kernel_rfl) trivial⟩,
    ⟨_, rfl, Stp.ev T_ok (m := .dp) (φ := InR x36 a1.size) (by kernel_rfl) g53⟩,
    ⟨_, rfl, Stp.ev T_ok (m := .dp) (φ := True) (by kernel_rfl) trivial⟩,
    ⟨_, rfl, Stp.ev T_ok (m := .dp) (φ := True) (by kernel_rfl) trivial⟩, trivial⟩ (by kernel_rfl) ?_
            refine VW.ret ?_
            replace h := Option.some.inj h
            subst h
            exact rt []
          refine VW.skip ?_
          refine rR T_ok [0, 1, 5] [] ⟨[(0, S a0), (1, S a1), (5, I (IntKind.i64.wrap (x36 + (1 : Int))))], []⟩ (tn 3) ?_
          exact aro [.ren [0, 1, 5] []] ⟨(IntKind.i64.wrap (x36 + (1 : Int))), rfl, h⟩
        refine VW.exit ?_
        exact arv [.ren [0, 1] []] ⟨rfl, h⟩
      refine sN T_ok [0, 1, 5, 15] [] ⟨[(0, S a0), (1, S a1), (5, I x36), (15, B false)], []⟩ (tn 5) ?_
      refine VW.cond (b := false) (by kernel_rfl) (fun h' => nomatch h') (fun _ => ?_)
      refine VW.exit ?_
      exact arv [.ren [0, 1] []] ⟨rfl, h⟩
  rintro s ⟨rfl, h⟩
  unfold F139_j0 at h
  refine sR T_ok [4] [] ⟨[(4, B (decide ((a0.size : Int) < (a1.size : Int))))], []⟩ (tn 6) ?_
  refine VW.ret ?_
  replace h := Option.some.inj h
  subst h
  exact rt []

/- loop.example/g00844/spec.SchemaOk -/
def F72_j0 (N : Nat) : Option (Bool) :=
  some true
def F72_j1 (N : Nat) (nx110 : Int → Option (Bool)) (x88 : Int) : Option (Bool) :=
  nx110 (IntKind.i64.wrap (x88 + (1 : Int)))
def F72_l0_b (N : Nat) (a0 : (List (ByteArray × Int))) (nx110 : Int → Option (Bool)) (x88 : Int) : Option (Bool) :=
  cond (decide (x88 < (a0.length : Int))) (gd (InR x88 a0.length) (andO (F138 N ((a0.getD x88.toNat (Ty.dflt Y93)).1)) fun y123 => cond (!y123) (some false) (gd (InR x88 a0.length) (andO (F71 N ((a0.getD x88.toNat (Ty.dflt Y93)).2) (1 : Int) (6 : Int)) fun y126 => cond (!y126) (some false) (cond (decide (x88 > (0 : Int))) (gd (InR (IntKind.i64.wrap (x88 - (1 : Int))) a0.length) (gd (InR x88 a0.length) (andO (F139 N ((a0.getD (IntKind.i64.wrap (x88 - (1 : Int))).toNat (Ty.dflt Y93)).1) ((a0.getD x88.toNat (Ty.dflt Y93)).1)) fun y131 => cond (!y131) (some false) (F72_j1 N nx110 x88)))) (F72_j1 N nx110 x88)))))) (F72_j0 N)
def F72_l0 (N : Nat) (a0 : (List (ByteArray × Int))) : Nat → Int → Option (Bool) := loopF (F72_l0_b N a0) (fun _ => none)
theorem F72_l0_s (N : Nat) (a0 : (List (ByteArray × Int))) {k : Nat} (hk : 0 < k) (x88 : Int) : F72_l0 N a0 k x88 = F72_l0_b N a0 (F72_l0 N a0 (k - 1)) x88 := by
  cases k with
  | zero => exact absurd hk (Nat.lt_irrefl 0)
  | succ m => rfl
def F72 (N : Nat) (a0 : (List (ByteArray × Int))) : Option (Bool) :=
  cond (decide ((a0.length : Int) > (8 : Int))) (some false) (F72_l0 N a0 N (0 : Int))
theorem ok72 (N : Nat) (a0 : (List (ByteArray × Int))) {r : Bool} (h : F72 N a0 = some r) : Con Go.Proofs.Try.prog 72 [.lf (.v (.sl Y93) a0)] [.lf (.v .bool r)] := by
  refine ctr [.lf (.v .bool)] T_ok Go.Proofs.Try.func72 rfl fun w0 E0 => ?_
  unfold F72 at h
  show VW _ _ _ _ _ (retQ _ _ _ _) _
  refine sR T_ok [0] [] ⟨[(0, .lf (.v (.sl Y93) a0))], []⟩ (tn 1) ?_
  refine VW.seq ?_
  refine sR T_ok [0, 6] [] ⟨[(0, .lf (.v (.sl Y93) a0)), (6, B (decide ((a0.length : Int) > (8 : Int))))], []⟩ (tn 3) ?_
  refine cnd h (fun h => ?_) (fun h => ?_)
  · refine sR T_ok [2] [] ⟨[(2, B false)], []⟩ (tn 1) ?_
    refine VW.ret ?_
    replace h := Option.some.inj h
    subst h
    exact rt []
  refine VW.skip ?_
  refine VW.join (fun s => s = ⟨[], []⟩ ∧ F72_j0 N = some r) ?_ ?_
  · refine sR T_ok [0, 3] [] ⟨[(0, .lf (.v (.sl Y93) a0)), (3, I (0 : Int))], []⟩ (tn 1) ?_
    refine VW.block ?_
    refine lop (fun k s => ∃ (x88 : Int), s = ⟨[(0, .lf (.v (.sl Y93) a0)), (3, I x88)], []⟩ ∧ F72_l0 N a0 k x88 = some r) N [.ren [0, 3] []] ⟨(0 : Int), rfl, h⟩ ?_
    rintro k110 s ⟨x88, rfl, h⟩
    cases k110 with
    | zero => cases show none = some r from h
    | succ k110 =>
      replace h : F72_l0_b N a0 (F72_l0 N a0 k110) x88 = some r := h
      unfold F72_l0_b at h
      refine VW.seq ?_
      refine sR T_ok [0, 3, 10] [] ⟨[(0, .lf (.v (.sl Y93) a0)), (3, I x88), (10, B (decide (x88 < (a0.length : Int))))], []⟩ (tn 4) ?_
      refine cnd h (fun h => ?_) (fun h => ?_)
      · refine VW.skip ?_
        refine VW.join (fun s => s = ⟨[(0, .lf (.v (.sl Y93) a0)), (3, I x88)], []⟩ ∧ F72_j1 N (F72_l0 N a0 k110) x88 = some r) ?_ ?_
        · refine VW.block ?_
          refine VW.seq ?_
          obtain ⟨g122, h⟩ := gd_some h
          obtain ⟨y123, hy123, h⟩ := andO_some h
          rcases Bool.eq_false_or_eq_true (!y123) with hb124 | hb124
          · replace h := cond_t h hb124
            refine VW.drawn (by kernel_rfl) [some (13, .lf (.v (.sl Y93) a0)), some (14, I x88), some (15, .lf (.fp Y93 (a0.getD x88.toNat (Ty.dflt Y93)) 0)), some (16, .lf (.fp Y93 (a0.getD x88.toNat (Ty.dflt Y93)) 0)), some (17, S ((a0.getD x88.toNat (Ty.dflt Y93)).1)), some (18, B y123), some (19, B (!y123)), some (20, B true), some (21, .unk), some (22, .unk), some (23, .unk), some (24, .unk), some (25, .unk), some (26, .unk), some (27, .unk), some (28, B true), some (29, B true), some (30, .unk), some (31, .unk), some (32, .unk), some (33, .unk), some (34, .unk), some (35, .unk), some (36, .unk), some (37, .unk), some (38, .unk), some (39, .unk), some (40, .unk), some (41, .unk), some (42, .unk), some (43, .unk), some (44, .unk), some (45, .unk), some (46, .unk), some (47, B true)] [] [[]] [(0, 0), (1, 0), (2, 0), (3, 0), (4, 0), (5, 0), (6, 0), (7, 0), (8, 0), (9, 0), (10, 0), (11, 0), (12, 0), (13, 0), (14, 0), (15, 0), (16, 0), (17, 0), (18, 0), (19, 0), (20, 0), (21, 0), (22, 0), (23, 0), (24, 0), (25, 0), (26, 0), (27, 0), (28, 0), (29, 0), (30, 0), (31, 0), (32, 0), (33, 0), (34, 0)] [0, 3, 47] [] (s' := ⟨[(0, .lf (.v (.sl Y93) a0)), (3, I x88), (47, B true)], []⟩) (by kernel_rfl) (by kernel_rfl) ⟨⟨_, rfl, Stp.ev T_ok (m := .dp) (φ := True) (by kernel_rfl) trivial⟩,
    ⟨_, rfl, Stp.ev T_ok (m := .dp) (φ := True) (by kernel_rfl) trivial⟩,
    ⟨_, rfl, Stp.ev T_ok (m := .dp) (φ := InR x88 a0.length) (by kernel_rfl) g122⟩,
    ⟨_, rfl, Stp.ev T_ok (m := .dp) (φ := True) (by kernel_rfl) trivial⟩,
    ⟨_, rfl, Stp.ev T_ok (m := .dp) (φ := True) (by kernel_rfl) trivial⟩,
    ⟨_, rfl, Stp.eq (Stp.call false [.t .str] [] T_ok (d := some 18) (by kernel_rfl) (ok138 N _ hy123) rfl) (by kernel_rfl) (by kernel_rfl)⟩,
    ⟨_, rfl, Stp.ev T_ok (m := .dp) (φ := True) (by kernel_rfl) trivial⟩,
    ⟨_, rfl, Stp.lit (d := 20) (b := (!y123)) (c := true) (Stp.ev T_ok (m := .dp) (φ := True) (by kernel_rfl) trivial) hb124⟩,
    ⟨_, rfl, Stp.off (d := 20) (b := true) rfl rfl rfl (by kernel_rfl) (by decide) rfl (Nat.le_of_ble_eq_true rfl)⟩,
    ⟨_, rfl, Stp.off (d := 20) (b := true) rfl rfl rfl (by kernel_rfl) (by decide) rfl (Nat.le_of_ble_eq_true rfl)⟩,
    ⟨_, rfl, Stp.off (d := 20) (b := true) rfl rfl rfl (by kernel_rfl) (by decide) rfl (Nat.le_of_ble_eq_true rfl)⟩,
    ⟨_, rfl, Stp.off (d := 20) (b := true) rfl rfl rfl (by kernel_rfl) (by decide) rfl (Nat.le_of_ble_eq_true rfl)⟩,
    ⟨_, rfl, Stp.off (d := 20) (b := true) rfl rfl rfl (by kernel_rfl) (by decide) rfl (Nat.le_of_ble_eq_true rfl)⟩,
    ⟨_, rfl, Stp.off (d := 20) (b := true) rfl rfl rfl (by kernel_rfl) (by decide) rfl (Nat.le_of_ble_eq_true rfl)⟩,
    ⟨_, rfl, Stp.off (d := 20) (b := true) rfl rfl rfl (by kernel_rfl) (by decide) rfl (Nat.le_of_ble_eq_true rfl)⟩,
    ⟨_, rfl, Stp.ev T_ok (m := .dp) (φ := True) (by kernel_rfl) trivial⟩,
    ⟨_, rfl, Stp.ev T_ok (m := .dp) (φ := True) (by kernel_rfl) trivial⟩,
    ⟨_, rfl, Stp.off (d := 29) (b := true) rfl rfl rfl (by kernel_rfl) (by decide) rfl (Nat.le_of_ble_eq_true rfl)⟩,
    ⟨_, rfl, Stp.off (d := 29) (b := true) rfl rfl rfl (by kernel_rfl) (by decide) rfl (Nat.le_of_ble_eq_true rfl)⟩,
    ⟨_, rfl, Stp.off (d := 29) (b := true) rfl rfl rfl (by kernel_rfl) (by decide) rfl (Nat.le_of_ble_eq_true rfl)⟩,
    ⟨_, rfl, Stp.off2 (d := 32) rfl rfl rfl (by kernel_rfl) rfl (Nat.le_of_ble_eq_true rfl)⟩,
    ⟨_, rfl, Stp.off2 (d := 32) rfl rfl rfl (by kernel_rfl) rfl (Nat.le_of_ble_eq_true rfl)⟩,
    ⟨_, rfl, Stp.off2 (d := 32) rfl rfl rfl (by kernel_rfl) rfl (Nat.le_of_ble_eq_true rfl)⟩,
    ⟨_, rfl, Stp.off2 (d := 32) rfl rfl rfl (by kernel_rfl) rfl (Nat.le_of_ble_eq_true rfl)⟩,
    ⟨_, rfl, Stp.off2 (d := 32) rfl rfl rfl (by kernel_rfl) rfl (Nat.le_of_ble_eq_true rfl)⟩,
    ⟨_, rfl, Stp.off2 (d := 32) rfl rfl rfl (by kernel_rfl) rfl (Nat.le_of_ble_eq_true rfl)⟩,
    ⟨_, rfl, Stp.off2 (d := 32) rfl rfl rfl (by kernel_rfl) rfl (Nat.le_of_ble_eq_true rfl)⟩,
    ⟨_, rfl, Stp.off2 (d := 32) rfl rfl rfl (by kernel_rfl) rfl (Nat.le_of_ble_eq_true rfl)⟩,
    ⟨_, rfl, Stp.off2 (d := 32) rfl rfl rfl (by kernel_rfl) rfl (Nat.le_of_ble_eq_true rfl)⟩,
    ⟨_, rfl, Stp.off2 (d := 32) rfl rfl rfl (by kernel_rfl) rfl (Nat.le_of_ble_eq_true rfl)⟩,
    ⟨_, rfl, Stp.off2 (d := 32) rfl rfl rfl (by kernel_rfl) rfl (Nat.le_of_ble_eq_true rfl)⟩,
    ⟨_, rfl, Stp.off2 (d := 32) rfl rfl rfl (by kernel_rfl) rfl (Nat.le_of_ble_eq_true rfl)⟩,
    ⟨_, rfl, Stp.off2 (d := 32) rfl rfl rfl (by kernel_rfl) rfl (Nat.le_of_ble_eq_true rfl)⟩,
    ⟨_, rfl, Stp.off (d := 29) (b := true) rfl rfl rfl (by kernel_rfl) (by decide) rfl (Nat.le_of_ble_eq_true rfl)⟩,
    ⟨_, rfl, Stp.ev T_ok (m := .dp) (φ := True) (by kernel_rfl) trivial⟩, trivial⟩ (by kernel_rfl) ?_
            refine VW.cond (b := true) (by kernel_rfl) (fun _ => ?_) (fun h' => nomatch h')
            refine sR T_ok [2] [] ⟨[(2, B false)], []⟩ (tn 1) ?_
            refine VW.ret ?_
            replace h := Option.some.inj h
            subst h
            exact rt []
          replace h := cond_f h hb124
          obtain ⟨g125, h⟩ := gd_some h
          obtain ⟨y126, hy126, h⟩ := andO_some h
          rcases Bool.eq_false_or_eq_true (!y126) with hb127 | hb127
          · replace h := cond_t h hb127
            refine VW.drawn (by kernel_rfl) [some (13, .lf (.v (.sl Y93) a0)), some (14, I x88), some (15, .lf (.fp Y93 (a0.getD x88.toNat (Ty.dflt Y93)) 0)), some (16, .lf (.fp Y93 (a0.getD x88.toNat (Ty.dflt Y93)) 0)), some (17, S ((a0.getD x88.toNat (Ty.dflt Y93)).1)), some (18, B y123), some (19, B (!y123)), some (20, B false), some (21, .lf (.v (.sl Y93) a0)), some (22, I x88), some (23, .lf (.fp Y93 (a0.getD x88.toNat (Ty.dflt Y93)) 0)), some (24, .lf (.fp Y93 (a0.getD x88.toNat (Ty.dflt Y93)) 1)), some (25, I ((a0.getD x88.toNat (Ty.dflt Y93)).2)), some (26, B y126), some (27, B (!y126)), some (28, B (!y126)), some (29, B true), some (30, .unk), some (31, .unk), some (32, .unk), some (33, .unk), some (34, .unk), some (35, .unk), some (36, .unk), some (37, .unk), some (38, .unk), some (39, .unk), some (40, .unk), some (41, .unk), some (42, .unk), some (43, .unk), some (44, .unk), some (45, .unk), some (46, .unk), some (47, B true)] [] [[]] [(0, 0), (1, 0), (2, 0), (3, 0), (4, 0), (5, 0), (6, 0), (7, 0), (8, 0), (9, 0), (10, 0), (11, 0), (12, 0), (13, 0), (14, 0), (15, 0), (16, 0), (17, 0), (18, 0), (19, 0), (20, 0), (21, 0), (22, 0), (23, 0), (24, 0), (25, 0), (26, 0), (27, 0), (28, 0), (29, 0), (30, 0), (31, 0), (32, 0), (33, 0), (34, 0)] [0, 3, 47] [] (s' := ⟨[(0, .lf (.v (.sl Y93) a0)), (3, I x88), (47, B true)], []⟩) (by kernel_rfl) (by kernel_rfl) ⟨⟨_, rfl, Stp.ev T_ok (m := .dp) (φ := True) (by kernel_rfl) trivial⟩,
    ⟨_, rfl, Stp.ev T_ok (m := .dp) (φ := True) (by kernel_rfl) trivial⟩,
    ⟨_, rfl, Stp.ev T_ok (m := .dp) (φ := InR x88 a0.length) (by kernel_rfl) g122⟩,
    ⟨_, rfl, Stp.ev T_ok (m := .dp) (φ := True) (by kernel_rfl) trivial⟩,
    ⟨_, rfl, Stp.ev T_ok (m := .dp) (φ := True) (by kernel_rfl) trivial⟩,
    ⟨_, rfl, Stp.eq (Stp.call false [.t .str] [] T_ok (d := some 18) (by kernel_rfl) (ok138 N _ hy123) rfl) (by kernel_rfl) (by kernel_rfl)⟩,
    ⟨_, rfl, Stp.ev T_ok (m := .dp) (φ := True) (by kernel_rfl) trivial⟩,
    ⟨_, rfl, Stp.lit (d := 20) (b := (!y123)) (c := false) (Stp.ev T_ok (m := .dp) (φ := True) (by kernel_rfl) trivial) hb124⟩,
    ⟨_, rfl, Stp.on (d := 20) (b := false) rfl rfl rfl (by kernel_rfl) rfl (Stp.ev T_ok (m := .dp) (φ := True) (by kernel_rfl) trivial)⟩,
    ⟨_, rfl, Stp.on (d := 20) (b := false) rfl rfl rfl (by kernel_rfl) rfl (Stp.ev T_ok (m := .dp) (φ := True) (by kernel_rfl) trivial)⟩,
    ⟨_, rfl, Stp.on (d := 20) (b := false) rfl rfl rfl (by kernel_rfl) rfl (Stp.ev T_ok (m := .dp) (φ := InR x88 a0.length) (by kernel_rfl) g125)⟩,
    ⟨_, rfl, Stp.on (d := 20) (b := false) rfl rfl rfl (by kernel_rfl) rfl (Stp.ev T_ok (m := .dp) (φ := True) (by kernel_rfl) trivial)⟩,
    ⟨_, rfl, Stp.on (d := 20) (b := false) rfl rfl rfl (by kernel_rfl) rfl (Stp.ev T_ok (m := .dp) (φ := True) (by kernel_rfl) trivial)⟩,
    ⟨_, rfl, Stp.eq (Stp.on (d := 20) (b := false) rfl rfl rfl (by kernel_rfl) rfl (Stp.call false [.t (.int .i64), .t (.int .i64), .t (.int .i64)] [] T_ok (d := some 26) (by kernel_rfl) (ok71 N _ _ _ hy126) rfl)) (by kernel_rfl) (by kernel_rfl)⟩,
    ⟨_, rfl, Stp.on (d := 20) (b := false) rfl rfl rfl (by kernel_rfl) rfl (Stp.ev T_ok (m := .dp) (φ := True) (by kernel_rfl) trivial)⟩,
    ⟨_, rfl, Stp.ev T_ok (m := .dp) (φ := True) (by kernel_rfl) trivial⟩,
    ⟨_, rfl, Stp.lit (d := 29) (b := (!y126)) (c := true) (Stp.ev T_ok (m := .dp) (φ := True) (by kernel_rfl) trivial) hb127⟩,
    ⟨_, rfl, Stp.off (d := 29) (b := true) rfl rfl rfl (by kernel_rfl) (by decide) rfl (Nat.le_of_ble_eq_true rfl)⟩,
    ⟨_, rfl, Stp.off (d := 29) (b := true) rfl rfl rfl (by kernel_rfl) (by decide) rfl (Nat.le_of_ble_eq_true rfl)⟩,
    ⟨_, rfl, Stp.off (d := 29) (b := true) rfl rfl rfl (by kernel_rfl) (by decide) rfl (Nat.le_of_ble_eq_true rfl)⟩,
    ⟨_, rfl, Stp.off2 (d := 32) rfl rfl rfl (by kernel_rfl) rfl (Nat.le_of_ble_eq_true rfl)⟩,
    ⟨_, rfl, Stp.off2 (d := 32) rfl rfl rfl (by kernel_rfl) rfl (Nat.le_of_ble_eq_true rfl)⟩,
    ⟨_, rfl, Stp.off2 (d := 32) rfl rfl rfl (by kernel_rfl) rfl (Nat.le_of_ble_eq_true rfl)⟩,
    ⟨_, rfl, Stp.off2 (d := 32) rfl rfl rfl (by kernel_rfl) rfl (Nat.le_of_ble_eq_true rfl)⟩,
    ⟨_, rfl, Stp.off2 (d := 32) rfl rfl rfl (by kernel_rfl) rfl (Nat.le_of_ble_eq_true rfl)⟩,
    ⟨_, rfl, Stp.off2 (d := 32) rfl rfl rfl (by kernel_rfl) rfl (Nat.le_of_ble_eq_true rfl)⟩,
    ⟨_, rfl, Stp.off2 (d := 32) rfl rfl rfl (by kernel_rfl) rfl (Nat.le_of_ble_eq_true rfl)⟩,
    ⟨_, rfl, Stp.off2 (d := 32) rfl rfl rfl (by kernel_rfl) rfl (Nat.le_of_ble_eq_true rfl)⟩,
    ⟨_, rfl, Stp.off2 (d := 32) rfl rfl rfl (by kernel_rfl) rfl (Nat.le_of_ble_eq_true rfl)⟩,
    ⟨_, rfl, Stp.off2 (d := 32) rfl rfl rfl (by kernel_rfl) rfl (Nat.le_of_ble_eq_true rfl)⟩,
    ⟨_, rfl, Stp.off2 (d := 32) rfl rfl rfl (by kernel_rfl) rfl (Nat.le_of_ble_eq_true rfl)⟩,
    ⟨_, rfl, Stp.off2 (d := 32) rfl rfl rfl (by kernel_rfl) rfl (Nat.le_of_ble_eq_true rfl)⟩,
    ⟨_, rfl, Stp.off2 (d := 32) rfl rfl rfl (by kernel_rfl) rfl (Nat.le_of_ble_eq_true rfl)⟩,
    ⟨_, rfl, Stp.off (d := 29) (b := true) rfl rfl rfl (by kernel_rfl) (by decide) rfl (Nat.le_of_ble_eq_true rfl)⟩,
    ⟨_, rfl, Stp.ev T_ok (m := .dp) (φ := True) (by kernel_rfl) trivial⟩, trivial⟩ (by kernel_rfl) ?_
            refine VW.cond (b := true) (by kernel_rfl) (fun _ => ?_) (fun h' => nomatch h')
            refine sR T_ok [2] [] ⟨[(2, B false)], []⟩ (tn 1) ?_
            refine VW.ret ?_
            replace h := Option.some.inj h
            subst h
            exact rt []
          replace h := cond_f h hb127
          rcases Bool.eq_false_or_eq_true (decide (x88 > (0 : Int))) with hb128 | hb128
          · replace h := cond_t h hb128
            obtain ⟨g129, h⟩ := gd_some h
            obtain ⟨g130, h⟩ := gd_some h
            obtain ⟨y131, hy131, h⟩ := andO_some h
            refine VW.drawn (by kernel_rfl) [some (13, .lf (.v (.sl Y93) a0)), some (14, I x88), some (15, .lf (.fp Y93 (a0.getD x88.toNat (Ty.dflt Y93)) 0)), some (16, .lf (.fp Y93 (a0.getD x88.toNat (Ty.dflt Y93)) 0)), some (17, S ((a0.getD x88.toNat (Ty.dflt Y93)).1)), some (18, B y123), some (19, B (!y123)), some (20, B false), some (21, .lf (.v (.sl Y93) a0)), some (22, I x88), some (23, .lf (.fp Y93 (a0.getD x88.toNat (Ty.dflt Y93)) 0)), some (24, .lf (.fp Y93 (a0.getD x88.toNat (Ty.dflt Y93)) 1)), some (25, I ((a0.getD x88.toNat (Ty.dflt Y93)).2)), some (26, B y126), some (27, B (!y126)), some (28, B (!y126)), some (29, B false), some (30, I x88), some (31, B (decide (x88 > (0 : Int)))), some (32, B true), some (33, .lf (.v (.sl Y93) a0)), some (34, I x88), some (35, I (IntKind.i64.wrap (x88 - (1 : Int)))), some (36, .lf (.fp Y93 (a0.getD (IntKind.i64.wrap (x88 - (1 : Int))).toNat (Ty.dflt Y93)) 0)), some (37, .lf (.fp Y93 (a0.getD (IntKind.i64.wrap (x88 - (1 : Int))).toNat (Ty.dflt Y93)) 0)), some (38, S ((a0.getD (IntKind.i64.wrap (x88 - (1 : Int))).toNat (Ty.dflt Y93)).1)), some (39, .lf (.v (.sl Y93) a0)), some (40, I x88), some (41, .lf (.fp Y93 (a0.getD x88.toNat (Ty.dflt Y93)) 0)), some (42, .lf (.fp Y93 (a0.getD x88.toNat (Ty.dflt Y93)) 0)), some (43, S ((a0.getD x88.toNat (Ty.dflt Y93)).1)), some (44, B y131), some (45, B (!y131)), some (46, B (!y131)), some (47, B (!y131))] [] [[]] [(0, 0), (1, 0), (2, 0), (3, 0), (4, 0), (5, 0), (6, 0), (7, 0), (8, 0), (9, 0), (10, 0), (11, 0), (12, 0), (13, 0), (14, 0), (15, 0), (16, 0), (17, 0), (18, 0), (19, 0), (20, 0), (21, 0), (22, 0), (23, 0), (24, 0), (25, 0), (26, 0), (27, 0), (28, 0), (29, 0), (30, 0), (31, 0), (32, 0), (33, 0), (34, 0)] [0, 3, 47] [] (s' := ⟨[(0, .lf (.v (.sl Y93) a0)), (3, I x88), (47, B (!y131))], []⟩) (by kernel_rfl) (by kernel_rfl) ⟨⟨_, rfl, Stp.ev T_ok (m := .dp) (φ := True) (by kernel_rfl) trivial⟩,
    ⟨_, rfl, Stp.ev T_ok (m := .dp) (φ := True) (by kernel_rfl) trivial⟩,
    ⟨_, rfl, Stp.ev T_ok (m := .dp) (φ := InR x88 a0.length) (by kernel_rfl) g122⟩,
    ⟨_, rfl, Stp.ev T_ok (m := .dp) (φ := True) (by kernel_rfl) trivial⟩,
    ⟨_, rfl, Stp.ev T_ok (m := .dp) (φ := True) (by kernel_rfl) trivial⟩,
    ⟨_, rfl, Stp.eq (Stp.call false [.t .str] [] T_ok (d := some 18) (by kernel_rfl) (ok138 N _ hy123) rfl) (by kernel_rfl) (by kernel_rfl)⟩,
    ⟨_, rfl, Stp.ev T_ok (m := .dp) (φ := True) (by kernel_rfl) trivial⟩,
    ⟨_, rfl, Stp.lit (d := 20) (b := (!y123)) (c := false) (Stp.ev T_ok (m := .dp) (φ := True) (by kernel_rfl) trivial) hb124⟩,
    ⟨_, rfl, Stp.on (d := 20) (b := false) rfl rfl rfl (by kernel_rfl) rfl (Stp.ev T_ok (m := .dp) (φ := True) (by kernel_rfl) trivial)⟩,
    ⟨_, rfl, Stp.on (d := 20) (b := false) rfl rfl rfl (by kernel_rfl) rfl (Stp.ev T_ok (m := .dp) (φ := True) (by kernel_rfl) trivial)⟩,
    ⟨_, rfl, Stp.on (d := 20) (b := false) rfl rfl rfl (by kernel_rfl) rfl (Stp.ev T_ok (m := .dp) (φ := InR x88 a0.length) (by kernel_rfl) g125)⟩,
    ⟨_, rfl, Stp.on (d := 20) (b := false) rfl rfl rfl (by kernel_rfl) rfl (Stp.ev T_ok (m := .dp) (φ := True) (by kernel_rfl) trivial)⟩,
    ⟨_, rfl, Stp.on (d := 20) (b := false) rfl rfl rfl (by kernel_rfl) rfl (Stp.ev T_ok (m := .dp) (φ := True) (by kernel_rfl) trivial)⟩,
    ⟨_, rfl, Stp.eq (Stp.on (d := 20) (b := false) rfl rfl rfl (by kernel_rfl) rfl (Stp.call false [.t (.int .i64), .t (.int .i64), .t (.int .i64)] [] T_ok (d := some 26) (by kernel_rfl) (ok71 N _ _ _ hy126) rfl)) (by kernel_rfl) (by kernel_rfl)⟩,
    ⟨_, rfl, Stp.on (d := 20) (b := false) rfl rfl rfl (by kernel_rfl) rfl (Stp.ev T_ok (m := .dp) (φ := True) (by kernel_rfl) trivial)⟩,
    ⟨_, rfl, Stp.ev T_ok (m := .dp) (φ := True) (by kernel_rfl) trivial⟩,
    ⟨_, rfl, Stp.lit (d := 29) (b := (!y126)) (c := false) (Stp.ev T_ok (m := .dp) (φ := True) (by kernel_rfl) trivial) hb127⟩,
    ⟨_, rfl, Stp.on (d := 29) (b := false) rfl rfl rfl (by kernel_rfl) rfl (Stp.ev T_ok (m := .dp) (φ := True) (by kernel_rfl) trivial)⟩,
    ⟨_, rfl, Stp.on (d := 29) (b := false) rfl rfl rfl (by kernel_rfl) rfl (Stp.ev T_ok (m := .dp) (φ := True) (by kernel_rfl) trivial)⟩,
    ⟨_, rfl, Stp.lit (d := 32) (b := (decide (x88 > (0 : Int)))) (c := true) (Stp.on (d := 29) (b := false) rfl rfl rfl (by kernel_rfl) rfl (Stp.ev T_ok (m := .dp) (φ := True) (by kernel_rfl) trivial)) hb128⟩,
    ⟨_, rfl, Stp.on (d := 32) (b := true) rfl rfl rfl (by kernel_rfl) rfl (Stp.ev T_ok (m := .dp) (φ := True) (by kernel_rfl) trivial)⟩,
    ⟨_, rfl, Stp.on (d := 32) (b := true) rfl rfl rfl (by kernel_rfl) rfl (Stp.ev T_ok (m := .dp) (φ := True) (by kernel_rfl) trivial)⟩,
    ⟨_, rfl, Stp.on (d := 32) (b := true) rfl rfl rfl (by kernel_rfl) rfl (Stp.ev T_ok (m := .dp) (φ := True) (by kernel_rfl) trivial)⟩,
    ⟨_, rfl, Stp.on (d := 32) (b := true) rfl rfl rfl (by kernel_rfl) rfl (Stp.ev T_ok (m := .dp) (φ := InR (IntKind.i64.wrap (x88 - (1 : Int))) a0.length) (by kernel_rfl) g129)⟩,
    ⟨_, rfl, Stp.on (d := 32) (b := true) rfl rfl rfl (by kernel_rfl) rfl (Stp.ev T_ok (m := .dp) (φ := True) (by kernel_rfl) trivial)⟩,
    ⟨_, rfl, Stp.on (d := 32) (b := true) rfl rfl rfl (by kernel_rfl) rfl (Stp.ev T_ok (m := .dp) (φ := True) (by kernel_rfl) trivial)⟩,
    ⟨_, rfl, Stp.on (d := 32) (b := true) rfl rfl rfl (by kernel_rfl) rfl (Stp.ev T_ok (m := .dp) (φ := True) (by kernel_rfl) trivial)⟩,
    ⟨_, rfl, Stp.on (d := 32) (b := true) rfl rfl rfl (by kernel_rfl) rfl (Stp.ev T_ok (m := .dp) (φ := True) (by kernel_rfl) trivial)⟩,
    ⟨_, rfl, Stp.on (d := 32) (b := true) rfl rfl rfl (by kernel_rfl) rfl (Stp.ev T_ok (m := .dp) (φ := InR x88 a0.length) (by kernel_rfl) g130)⟩,
    ⟨_, rfl, Stp.on (d := 32) (b := true) rfl rfl rfl (by kernel_rfl) rfl (Stp.ev T_ok (m := .dp) (φ := True) (by kernel_rfl) trivial)⟩,
    ⟨_, rfl, Stp.on (d := 32) (b := true) rfl rfl rfl (by kernel_rfl) rfl (Stp.ev T_ok (m := .dp) (φ := True) (by kernel_rfl) trivial)⟩,
    ⟨_, rfl, Stp.eq (Stp.on (d := 32) (b := true) rfl rfl rfl (by kernel_rfl) rfl (Stp.call false [.t .str, .t .str] [] T_ok (d := some 44) (by kernel_rfl) (ok139 N _ _ hy131) rfl)) (by kernel_rfl) (by kernel_rfl)⟩,
    ⟨_, rfl, Stp.on (d := 32) (b := true) rfl rfl rfl (by kernel_rfl) rfl (Stp.ev T_ok (m := .dp) (φ := True) (by kernel_rfl) trivial)⟩,
    ⟨_, rfl, Stp.on (d := 29) (b := false) rfl rfl rfl (by kernel_rfl) rfl (Stp.ev T_ok (m := .dp) (φ := True) (by kernel_rfl) trivial)⟩,
    ⟨_, rfl, Stp.ev T_ok (m := .dp) (φ := True) (by kernel_rfl) trivial⟩, trivial⟩ (by kernel_rfl) ?_
            refine cnd h (fun h => ?_) (fun h => ?_)
            · refine sR T_ok [2] [] ⟨[(2, B false)], []⟩ (tn 1) ?_
              refine VW.ret ?_
              replace h := Option.some.inj h
              subst h
              exact rt []
            refine VW.skip ?_
            exact arv [.ren [0, 3] []] ⟨rfl, h⟩
          replace h := cond_f h hb128
          refine VW.drawn (by kernel_rfl) [some (13, .lf (.v (.sl Y93) a0)), some (14, I x88), some (15, .lf (.fp Y93 (a0.getD x88.toNat (Ty.dflt Y93)) 0)), some (16, .lf (.fp Y93 (a0.getD x88.toNat (Ty.dflt Y93)) 0)), some (17, S ((a0.getD x88.toNat (Ty.dflt Y93)).1)), some (18, B y123), some (19, B (!y123)), some (20, B false), some (21, .lf (.v (.sl Y93) a0)), some (22, I x88), some (23, .lf (.fp Y93 (a0.getD x88.toNat (Ty.dflt Y93)) 0)), some (24, .lf (.fp Y93 (a0.getD x88.toNat (Ty.dflt Y93)) 1)), some (25, I ((a0.getD x88.toNat (Ty.dflt Y93)).2)), some (26, B y126), some (27, B (!y126)), some (28, B (!y126)), some (29, B false), some (30, I x88), some (31, B (decide (x88 > (0 : Int)))), some (32, B false), some (33, .unk), some (34, .unk), some (35, .unk), some (36, .unk), some (37, .unk), some (38, .unk), some (39, .unk), some (40, .unk), some (41, .unk), some (42, .unk), some (43, .unk), some (44, .unk), some (45, .unk), some (46, B false), some (47, B false)] [] [[]] [(0, 0), (1, 0), (2, 0), (3, 0), (4, 0), (5, 0), (6, 0), (7, 0), (8, 0), (9, 0), (10, 0), (11, 0), (12, 0), (13, 0), (14, 0), (15, 0), (16, 0), (17, 0), (18, 0), (19, 0), (20, 0), (21, 0), (22, 0), (23, 0), (24, 0), (25, 0), (26, 0), (27, 0), (28, 0), (29, 0), (30, 0), (31, 0), (32, 0), (33, 0), (34, 0)] [0, 3, 47] [] (s' := ⟨[(0, .lf (.v (.sl Y93) a0)), (3, I x88), (47, B false)], []⟩) (by kernel_rfl) (by kernel_rfl) ⟨⟨_, rfl, Stp.ev T_ok (m := .dp) (φ := True) (by kernel_rfl) trivial⟩,
    ⟨_, rfl, Stp.ev T_ok (m := .dp) (φ := True) (by kernel_rfl) trivial⟩,
    ⟨_, rfl, Stp.ev T_ok (m := .dp) (φ := InR x88 a0.length) (by kernel_rfl) g122⟩,
    ⟨_, rfl, Stp.ev T_ok (m := .dp) (φ := True) (by kernel_rfl) trivial⟩,
    ⟨_, rfl, Stp.ev T_ok (m := .dp) (φ := True) (by kernel_rfl) trivial⟩,
    ⟨_, rfl, Stp.eq (Stp.call false [.t .str] [] T_ok (d := some 18) (by kernel_rfl) (ok138 N _ hy123) rfl) (by kernel_rfl) (by kernel_rfl)⟩,
    ⟨_, rfl, Stp.ev T_ok (m := .dp) (φ := True) (by kernel_rfl) trivial⟩,
    ⟨_, rfl, Stp.lit (d := 20) (b := (!y123)) (c := false) (Stp.ev T_ok (m := .dp) (φ := True) (by kernel_rfl) trivial) hb124⟩,
    ⟨_, rfl, Stp.on (d := 20) (b := false) rfl rfl rfl (by kernel_rfl) rfl (Stp.ev T_ok (m := .dp) (φ := True) (by kernel_rfl) trivial)⟩,
    ⟨_, rfl, Stp.on (d := 20) (b := false) rfl rfl rfl (by kernel_rfl) rfl (Stp.ev T_ok (m := .dp) (φ := True) (by kernel_rfl) trivial)⟩,
    ⟨_, rfl, Stp.on (d := 20) (b := false) rfl rfl rfl (by kernel_rfl) rfl (Stp.ev T_ok (m := .dp) (φ := InR x88 a0.length) (by kernel_rfl) g125)⟩,
    ⟨_, rfl, Stp.on (d := 20) (b := false) rfl rfl rfl (by kernel_rfl) rfl (Stp.ev T_ok (m := .dp) (φ := True) (by kernel_rfl) trivial)⟩,
    ⟨_, rfl, Stp.on (d := 20) (b := false) rfl rfl rfl (by kernel_rfl) rfl (Stp.ev T_ok (m := .dp) (φ := True) (by kernel_rfl) trivial)⟩,
    ⟨_, rfl, Stp.eq (Stp.on (d := 20) (b := false) rfl rfl rfl (by kernel_rfl) rfl (Stp.call false [.t (.int .i64), .t (.int .i64), .t (.int .i64)] [] T_ok (d := some 26) (by kernel_rfl) (ok71 N _ _ _ hy126) rfl)) (by kernel_rfl) (by kernel_rfl)⟩,
    ⟨_, rfl, Stp.on (d := 20) (b := false) rfl rfl rfl (by kernel_rfl) rfl (Stp.ev T_ok (m := .dp) (φ := True) (by kernel_rfl) trivial)⟩,
    ⟨_, rfl, Stp.ev T_ok (m := .dp) (φ := True) (by kernel_rfl) trivial⟩,
    ⟨_, rfl, Stp.lit (d := 29) (b := (!y126)) (c := false) (Stp.ev T_ok (m := .dp) (φ := True) (by kernel_rfl) trivial) hb127⟩,
    ⟨_, rfl, Stp.on (d := 29) (b := false) rfl rfl rfl (by kernel_rfl) rfl (Stp.ev T_ok (m := .dp) (φ := True) (by kernel_rfl) trivial)⟩,
    ⟨_, rfl, Stp.on (d := 29) (b := false) rfl rfl rfl (by kernel_rfl) rfl (Stp.ev T_ok (m := .dp) (φ := True) (by kernel_rfl) trivial)⟩,
    ⟨_, rfl, Stp.lit (d := 32) (b := (decide (x88 > (0 : Int)))) (c := false) (Stp.on (d := 29) (b := false) rfl rfl rfl (by kernel_rfl) rfl (Stp.ev T_ok (m := .dp) (φ := True) (by kernel_rfl) trivial)) hb128⟩,
    ⟨_, rfl, Stp.off (d := 32) (b := false) rfl rfl rfl (by kernel_rfl) (by decide) rfl (Nat.le_of_ble_eq_true rfl)⟩,
    ⟨_, rfl, Stp.off (d := 32) (b := false) rfl rfl rfl (by kernel_rfl) (by decide) rfl (Nat.le_of_ble_eq_true rfl)⟩,
    ⟨_, rfl, Stp.off (d := 32) (b := false) rfl rfl rfl (by kernel_rfl) (by decide) rfl (Nat.le_of_ble_eq_true rfl)⟩,
    ⟨_, rfl, Stp.off (d := 32) (b := false) rfl rfl rfl (by kernel_rfl) (by decide) rfl (Nat.le_of_ble_eq_true rfl)⟩,
    ⟨_, rfl, Stp.off (d := 32) (b := false) rfl rfl rfl (by kernel_rfl) (by decide) rfl (Nat.le_of_ble_eq_true rfl)⟩,
    ⟨_, rfl, Stp.off (d := 32) (b := false) rfl rfl rfl (by kernel_rfl) (by decide) rfl (Nat.le_of_ble_eq_true rfl)⟩,
    ⟨_, rfl, Stp.off (d := 32) (b := false) rfl rfl rfl (by kernel_rfl) (by decide) rfl (Nat.le_of_ble_eq_true rfl)⟩,
    ⟨_, rfl, Stp.off (d := 32) (b := false) rfl rfl rfl (by kernel_rfl) (by decide) rfl (Nat.le_of_ble_eq_true rfl)⟩,
    ⟨_, rfl, Stp.off (d := 32) (b := false) rfl rfl rfl (by kernel_rfl) (by decide) rfl (Nat.le_of_ble_eq_true rfl)⟩,
    ⟨_, rfl, Stp.off (d := 32) (b := false) rfl rfl rfl (by kernel_rfl) (by decide) rfl (Nat.le_of_ble_eq_true rfl)⟩,
    ⟨_, rfl, Stp.off (d := 32) (b := false) rfl rfl rfl (by kernel_rfl) (by decide) rfl (Nat.le_of_ble_eq_true rfl)⟩,
    ⟨_, rfl, Stp.off (d := 32) (b := false) rfl rfl rfl (by kernel_rfl) (by decide) rfl (Nat.le_of_ble_eq_true rfl)⟩,
    ⟨_, rfl, Stp.off (d := 32) (b := false) rfl rfl rfl (by kernel_rfl) (by decide) rfl (Nat.le_of_ble_eq_true rfl)⟩,
    ⟨_, rfl, Stp.on (d := 29) (b := false) rfl rfl rfl (by kernel_rfl) rfl (Stp.ev T_ok (m := .dp) (φ := True) (by kernel_rfl) trivial)⟩,
    ⟨_, rfl, Stp.ev T_ok (m := .dp) (φ := True) (by kernel_rfl) trivial⟩, trivial⟩ (by kernel_rfl) ?_
          refine VW.cond (b := false) (by kernel_rfl) (fun h' => nomatch h') (fun _ => ?_)
          refine VW.skip ?_
          exact arv [.ren [0, 3] []] ⟨rfl, h⟩
        rintro s ⟨rfl, h⟩
        unfold F72_j1 at h
        refine rR T_ok [0, 3] [] ⟨[(0, .lf (.v (.sl Y93) a0)), (3, I (IntKind.i64.wrap (x88 + (1 : Int))))], []⟩ (tn 3) ?_
        exact aro [.ren [0, 3] []] ⟨(IntKind.i64.wrap (x88 + (1 : Int))), rfl, h⟩
      refine VW.exit ?_
      exact arv [.ren [] []] ⟨rfl, h⟩
  rintro s ⟨rfl, h⟩
  unfold F72_j0 at h
  refine sR T_ok [2] [] ⟨[(2, B true)], []⟩ (tn 1) ?_
  refine VW.ret ?_
  replace h := Option.some.inj h
  subst h
  exact rt []

/- loop.example/g00844/spec.l03Copy -/
def F73_j0 (N : Nat) (x16 : (List (ByteArray × Int))) : Option ((List (ByteArray × Int))) :=
  some x16
def F73_l0_b (N : Nat) (a0 : (List (ByteArray × Int))) (nx28 : (List (ByteArray × Int)) → Int → Option ((List (ByteArray × Int)))) (x22 : (List (ByteArray × Int))) (x23 : Int) : Option ((List (ByteArray × Int))) :=
  cond (decide (x23 < (a0.length : Int))) (gd (InR x23 a0.length) (gd (x22.length + ([(a0.getD x23.toNat (Ty.dflt Y93))]).length ≤ lim Y93) (nx28 (x22 ++ ([(a0.getD x23.toNat (Ty.dflt Y93))])) (IntKind.i64.wrap (x23 + (1 : Int)))))) (F73_j0 N x22)
def F73_l0 (N : Nat) (a0 : (List (ByteArray × Int))) : Nat → (List (ByteArray × Int)) → Int → Option ((List (ByteArray × Int))) := loopF (F73_l0_b N a0) (fun _ _ => none)
theorem F73_l0_s (N : Nat) (a0 : (List (ByteArray × Int))) {k : Nat} (hk : 0 < k) (x22 : (List (ByteArray × Int))) (x23 : Int) : F73_l0 N a0 k x22 x23 = F73_l0_b N a0 (F73_l0 N a0 (k - 1)) x22 x23 := by
  cases k with
  | zero => exact absurd hk (Nat.lt_irrefl 0)
  | succ m => rfl
def F73 (N : Nat) (a0 : (List (ByteArray × Int))) : Option ((List (ByteArray × Int))) :=
  F73_l0 N a0 N ([]) (0 : Int)
theorem ok73 (N : Nat) (a0 : (List (ByteArray × Int))) {r : (List (ByteArray × Int))} (h : F73 N a0 = some r) : Con Go.Proofs.Try.prog 73 [.lf (.v (.sl Y93) a0)] [.lf (.own Y93 r .dp)] := by
  refine ctr [.lf (.own Y93 .dp)] T_ok Go.Proofs.Try.func73 rfl fun w0 E0 => ?_
  unfold F73 at h
  show VW _ _ _ _ _ (retQ _ _ _ _) _
  refine sR T_ok [0] [] ⟨[(0, .lf (.v (.sl Y93) a0))], []⟩ (tn 1) ?_
  refine sR T_ok [0, 3] [] ⟨[(0, .lf (.v (.sl Y93) a0)), (3, .lf (.nil))], []⟩ (tn 2) ?_
  refine VW.join (fun s => ∃ (x16 : (List (ByteArray × Int))), s = ⟨[(3, .lf (.hd 0 0 none))], [ar 0 Y93 x16 .dp]⟩ ∧ F73_j0 N x16 = some r) ?_ ?_
  · refine sR T_ok [0, 3, 4] [] ⟨[(0, .lf (.v (.sl Y93) a0)), (3, .lf (.nil)), (4, I (0 : Int))], []⟩ (tn 1) ?_
    refine VW.block ?_
    refine lop (fun k s => ∃ (x22 : (List (ByteArray × Int))) (x23 : Int), s = ⟨[(0, .lf (.v (.sl Y93) a0)), (3, .lf (.hd 0 0 none)), (4, I x23)], [ar 0 Y93 x22 .dp]⟩ ∧ F73_l0 N a0 k x22 x23 = some r) N [.nilS 3 Y93 .dp, .ren [0, 3, 4] [0]] ⟨[], (0 : Int), rfl, h⟩ ?_
    rintro k28 s ⟨x22, x23, rfl, h⟩
    cases k28 with
    | zero => cases show none = some r from h
    | succ k28 =>
      replace h : F73_l0_b N a0 (F73_l0 N a0 k28) x22 x23 = some r := h
      unfold F73_l0_b at h
      refine VW.seq ?_
      refine sR T_ok [0, 3, 4, 9] [0] ⟨[(0, .lf (.v (.sl Y93) a0)), (3, .lf (.hd 0 0 none)), (4, I x23), (9, B (decide (x23 < (a0.length : Int))))], [ar 0 Y93 x22 .dp]⟩ (tn 4) ?_
      refine cnd h (fun h => ?_) (fun h => ?_)
      · refine VW.skip ?_
        refine VW.seq ?_
        refine VW.block ?_
        obtain ⟨g31, h⟩ := gd_some h
        obtain ⟨g32, h⟩ := gd_some h
        refine rR T_ok [0, 3, 4] [0] ⟨[(0, .lf (.v (.sl Y93) a0)), (3, .lf (.hd 0 0 none)), (4, I x23)], [ar 0 Y93 (x22 ++ ([(a0.getD x23.toNat (Ty.dflt Y93))])) .dp]⟩ (pu 3 (an g31 (pu 2 (an g32 (tn 1))))) ?_
        refine rR T_ok [0, 3, 4] [0] ⟨[(0, .lf (.v (.sl Y93) a0)), (3, .lf (.hd 0 0 none)), (4, I (IntKind.i64.wrap (x23 + (1 : Int))))], [ar 0 Y93 (x22 ++ ([(a0.getD x23.toNat (Ty.dflt Y93))])) .dp]⟩ (tn 3) ?_
        exact aro [.ren [0, 3, 4] [0]] ⟨(x22 ++ ([(a0.getD x23.toNat (Ty.dflt Y93))])), (IntKind.i64.wrap (x23 + (1 : Int))), rfl, h⟩
      refine VW.exit ?_
      exact arv [.ren [3] [0]] ⟨x22, rfl, h⟩
  rintro s ⟨x16, rfl, h⟩
  unfold F73_j0 at h
  refine sR T_ok [2] [0] ⟨[(2, .lf (.hd 0 0 none))], [ar 0 Y93 x16 .dp]⟩ (tn 2) ?_
  refine VW.ret ?_
  replace h := Option.some.inj h
  subst h
  exact rt [some 0]

/- loop.example/g00844/spec.NewShelf -/
def F17 (N : Nat) (a0 : Int) (a1 : (List (ByteArray × Int))) : Option ((Int × ((List (ByteArray × Int)) × ((List (Int × ((List (Int × (ByteArray × (Int × (Int × (Int × (Bool × (List Int)))))))) × ((List (Int × (ByteArray × (Int × (Int × (Int × (Bool × (List Int)))))))) × (Int × Int))))) × (Int × (Int × (Int × (Int × (Int × Int)))))))) × Bool) :=
  andO (F71 N a0 (1 : Int) (16 : Int)) fun y3 => cond (!y3) (some (((0 : Int), ([], ([], ((0 : Int), ((0 : Int), ((0 : Int), ((0 : Int), ((0 : Int), (0 : Int))))))))), false)) (andO (F72 N a1) fun y4 => cond (!y4) (some (((0 : Int), ([], ([], ((0 : Int), ((0 : Int), ((0 : Int), ((0 : Int), ((0 : Int), (0 : Int))))))))), false)) (andO (F73 N a1) fun y5 => some ((a0, (y5, ([], ((0 : Int), ((0 : Int), ((0 : Int), ((0 : Int), ((0 : Int), (0 : Int))))))))), true)))
theorem ok17 (N : Nat) (a0 : Int) (a1 : (List (ByteArray × Int))) {r : (Int × ((List (ByteArray × Int)) × ((List (Int × ((List (Int × (ByteArray × (Int × (Int × (Int × (Bool × (List Int)))))))) × ((List (Int × (ByteArray × (Int × (Int × (Int × (Bool × (List Int)))))))) × (Int × Int))))) × (Int × (Int × (Int × (Int × (Int × Int)))))))) × Bool} (h : F17 N a0 a1 = some r) : Con Go.Proofs.Try.prog 17 [I a0, .lf (.v (.sl Y93) a1)] [.agg [.v (.int .i64) r.1.1, .own Y93 r.1.2.1 .dp, .own Y151 r.1.2.2.1 .dp, .v (.int .i64) r.1.2.2.2.1, .v (.int .i64) r.1.2.2.2.2.1, .v (.int .i64) r.1.2.2.2.2.2.1, .v (.int .i64) r.1.2.2.2.2.2.2.1, .v (.int .i64) r.1.2.2.2.2.2.2.2.1, .v (.int .i64) r.1.2.2.2.2.2.2.2.2], .lf (.v .bool r.2)] := by
  refine ctr [.agg [.v (.int .i64), .own Y93 .dp, .own Y151 .dp, .v (.int .i64), .v (.int .i64), .v (.int .i64), .v (.int .i64), .v (.int .i64), .v (.int .i64)], .lf (.v .bool)] T_ok Go.Proofs.Try.func17 rfl fun w0 E0 => ?_
  unfold F17 at h
  show VW _ _ _ _ _ (retQ _ _ _ _) _
  refine sR T_ok [0, 1, 4] [0] ⟨[(0, I a0), (1, .lf (.v (.sl Y93) a1)), (4, .lf (.ptr 0 0 0 0))], [bx [.v (.int .i64) (0 : Int), .nil, .nil, .v (.int .i64) (0 : Int), .v (.int .i64) (0 : Int), .v (.int .i64) (0 : Int), .v (.int .i64) (0 : Int), .v (.int .i64) (0 : Int), .v (.int .i64) (0 : Int)] 32]⟩ (tn 2) ?_
  refine VW.seq ?_
  refine VW.seq ?_
  refine VW.region ?_
  refine sG T_ok 1 [0, 1, 4, 6] [0] ⟨[(0, I a0), (1, .lf (.v (.sl Y93) a1)), (4, .lf (.ptr 0 0 0 0)), (6, I a0)], [bx [.v (.int .i64) (0 : Int), .nil, .nil, .v (.int .i64) (0 : Int), .v (.int .i64) (0 : Int), .v (.int .i64) (0 : Int), .v (.int .i64) (0 : Int), .v (.int .i64) (0 : Int), .v (.int .i64) (0 : Int)] 32]⟩ (tn 1) ?_
  obtain ⟨y3, hy, h⟩ := andO_some h
  refine cal false [.t (.int .i64), .t (.int .i64), .t (.int .i64)] [] (some 7) T_ok (ok71 N _ _ _ hy) ?_
  refine sG T_ok 2 [0, 1, 4, 9] [0] ⟨[(0, I a0), (1, .lf (.v (.sl Y93) a1)), (4, .lf (.ptr 0 0 0 0)), (9, B (!y3))], [bx [.v (.int .i64) (0 : Int), .nil, .nil, .v (.int .i64) (0 : Int), .v (.int .i64) (0 : Int), .v (.int .i64) (0 : Int), .v (.int .i64) (0 : Int), .v (.int .i64) (0 : Int), .v (.int .i64) (0 : Int)] 32]⟩ (tn 2) ?_
  refine spB 9 h (fun h => ?_) (fun h => ?_)
  · refine sN T_ok [0, 1, 4, 13] [0] ⟨[(0, I a0), (1, .lf (.v (.sl Y93) a1)), (4, .lf (.ptr 0 0 0 0)), (13, B true)], [bx [.v (.int .i64) (0 : Int), .nil, .nil, .v (.int .i64) (0 : Int), .v (.int .i64) (0 : Int), .v (.int .i64) (0 : Int), .v (.int .i64) (0 : Int), .v (.int .i64) (0 : Int), .v (.int .i64) (0 : Int)] 32]⟩ (tn 4) ?_
    refine VW.cond (b := true) (by kernel_rfl) (fun _ => ?_) (fun h' => nomatch h')
    refine sR T_ok [4, 5] [0] ⟨[(4, .lf (.ptr 0 0 0 0)), (5, B false)], [bx [.v (.int .i64) (0 : Int), .nil, .nil, .v (.int .i64) (0 : Int), .v (.int .i64) (0 : Int), .v (.int .i64) (0 : Int), .v (.int .i64) (0 : Int), .v (.int .i64) (0 : Int), .v (.int .i64) (0 : Int)] 32]⟩ (tn 3) ?_
    refine VW.ret ?_
    replace h := Option.some.inj h
    subst h
    exact rt [none, none]
  refine sG T_ok 1 [0, 1, 4, 9, 10] [0] ⟨[(0, I a0), (1, .lf (.v (.sl Y93) a1)), (4, .lf (.ptr 0 0 0 0)), (9, B false), (10, .lf (.v (.sl Y93) a1))], [bx [.v (.int .i64) (0 : Int), .nil, .nil, .v (.int .i64) (0 : Int), .v (.int .i64) (0 : Int), .v (.int .i64) (0 : Int), .v (.int .i64) (0 : Int), .v (.int .i64) (0 : Int), .v (.int .i64) (0 : Int)] 32]⟩ (tn 1) ?_
  refine VO.on (j := 3) (want := false) (d := 9) (b := false) rfl rfl rfl (by kernel_rfl) rfl ?_
  obtain ⟨y4, hy, h⟩ := andO_some h
  refine cal false [.t (.sl Y93)] [] (some 11) T_ok (ok72 N _ hy) ?_
  refine sN T_ok [0, 1, 4, 13] [0] ⟨[(0, I a0), (1, .lf (.v (.sl Y93) a1)), (4, .lf (.ptr 0 0 0 0)), (13, B (!y4))], [bx [.v (.int .i64) (0 : Int), .nil, .nil, .v (.int .i64) (0 : Int), .v (.int .i64) (0 : Int), .v (.int .i64) (0 : Int), .v (.int .i64) (0 : Int), .v (.int .i64) (0 : Int), .v (.int .i64) (0 : Int)] 32]⟩ (tn 2) ?_
  refine cnd h (fun h => ?_) (fun h => ?_)
  · refine sR T_ok [4, 5] [0] ⟨[(4, .lf (.ptr 0 0 0 0)), (5, B false)], [bx [.v (.int .i64) (0 : Int), .nil, .nil, .v (.int .i64) (0 : Int), .v (.int .i64) (0 : Int), .v (.int .i64) (0 : Int), .v (.int .i64) (0 : Int), .v (.int .i64) (0 : Int), .v (.int .i64) (0 : Int)] 32]⟩ (tn 3) ?_
    refine VW.ret ?_
    replace h := Option.some.inj h
    subst h
    exact rt [none, none]
  refine VW.skip ?_
  refine VW.seq ?_
  refine VW.region ?_
  refine sG T_ok 2 [4, 15, 16] [0] ⟨[(4, .lf (.ptr 0 0 0 0)), (15, I a0), (16, .lf (.v (.sl Y93) a1))], [bx [.v (.int .i64) (0 : Int), .nil, .nil, .v (.int .i64) (0 : Int), .v (.int .i64) (0 : Int), .v (.int .i64) (0 : Int), .v (.int .i64) (0 : Int), .v (.int .i64) (0 : Int), .v (.int .i64) (0 : Int)] 32]⟩ (tn 2) ?_
  obtain ⟨y5, hy, h⟩ := andO_some h
  refine cal false [.t (.sl Y93)] [] (some 17) T_ok (ok73 N _ hy) ?_
  refine sN T_ok [4, 5] [0, 1] ⟨[(4, .lf (.ptr 0 0 0 0)), (5, B true)], [bx [.v (.int .i64) a0, .hd 1 0 none, .nil, .v (.int .i64) (0 : Int), .v (.int .i64) (0 : Int), .v (.int .i64) (0 : Int), .v (.int .i64) (0 : Int), .v (.int .i64) (0 : Int), .v (.int .i64) (0 : Int)] 32, ar 0 Y93 y5 .dp]⟩ (tn 3) ?_
  refine VW.ret ?_
  replace h := Option.some.inj h
  subst h
  exact rt [some 1, none]

/- loop.example/g00844/laws.toTable -/
def F74 (N : Nat) (a0 : (ByteArray × Int)) : Option ((ByteArray × Int)) :=
  some a0
theorem ok74 (N : Nat) (a0 : (ByteArray × Int)) {r : (ByteArray × Int)} (h : F74 N a0 = some r) : Con Go.Proofs.Try.prog 74 [.agg [.v .str a0.1, .v (.int .i64) a0.2]] [.agg [.v .str r.1, .v (.int .i64) r.2]] := by
  refine ctr [.agg [.v .str, .v (.int .i64)]] T_ok Go.Proofs.Try.func74 rfl fun w0 E0 => ?_
  unfold F74 at h
  show VW _ _ _ _ _ (retQ _ _ _ _) _
  refine sR T_ok [1, 2] [0, 1] ⟨[(1, .lf (.ptr 0 0 0 0)), (2, .lf (.ptr 1 0 0 0))], [bx [.v .str a0.1, .v (.int .i64) a0.2] 94, bx [.v .str ByteArray.empty, .v (.int .i64) (0 : Int)] 98]⟩ (tn 2) ?_
  refine sR T_ok [1, 2, 3] [0, 1, 2] ⟨[(1, .lf (.ptr 0 0 0 0)), (2, .lf (.ptr 1 0 0 0)), (3, .lf (.ptr 2 0 0 0))], [bx [.v .str a0.1, .v (.int .i64) a0.2] 94, bx [.v .str ByteArray.empty, .v (.int .i64) (0 : Int)] 98, bx [.v .str ByteArray.empty, .v (.int .i64) (0 : Int)] 98]⟩ (tn 1) ?_
  refine sR T_ok [1, 2, 3] [0, 1, 2] ⟨[(1, .lf (.ptr 0 0 0 0)), (2, .lf (.ptr 1 0 0 0)), (3, .lf (.ptr 2 0 0 0))], [bx [.v .str a0.1, .v (.int .i64) a0.2] 94, bx [.v .str ByteArray.empty, .v (.int .i64) (0 : Int)] 98, bx [.v .str a0.1, .v (.int .i64) (0 : Int)] 98]⟩ (tn 4) ?_
  refine sR T_ok [2, 3] [1, 2] ⟨[(2, .lf (.ptr 0 0 0 0)), (3, .lf (.ptr 1 0 0 0))], [bx [.v .str ByteArray.empty, .v (.int .i64) (0 : Int)] 98, bx [.v .str a0.1, .v (.int .i64) a0.2] 98]⟩ (tn 4) ?_
  refine sR T_ok [2] [0] ⟨[(2, .lf (.ptr 0 0 0 0))], [bx [.v .str a0.1, .v (.int .i64) a0.2] 98]⟩ (tn 2) ?_
  refine VW.ret ?_
  replace h := Option.some.inj h
  subst h
  exact rt []

/- loop.example/g00844/laws.toTableS -/
def F18_j0 (N : Nat) (x30 : (List (ByteArray × Int))) : Option ((List (ByteArray × Int))) :=
  some x30
def F18_l0_b (N : Nat) (a0 : (List (ByteArray × Int))) (nx51 : (List (ByteArray × Int)) → Int → Option ((List (ByteArray × Int)))) (x41 : (List (ByteArray × Int))) (x42 : Int) : Option ((List (ByteArray × Int))) :=
  cond (decide (x42 < (a0.length : Int))) (gd (InR x42 a0.length) (andO (F74 N (a0.getD x42.toNat (Ty.dflt Y93))) fun y57 => gd (InR x42 x41.length) (gd (x42.toNat < x41.length) (nx51 (x41.set x42.toNat y57) (IntKind.i64.wrap (x42 + (1 : Int))))))) (F18_j0 N x41)
def F18_l0 (N : Nat) (a0 : (List (ByteArray × Int))) : Nat → (List (ByteArray × Int)) → Int → Option ((List (ByteArray × Int))) := loopF (F18_l0_b N a0) (fun _ _ => none)
theorem F18_l0_s (N : Nat) (a0 : (List (ByteArray × Int))) {k : Nat} (hk : 0 < k) (x41 : (List (ByteArray × Int))) (x42 : Int) : F18_l0 N a0 k x41 x42 = F18_l0_b N a0 (F18_l0 N a0 (k - 1)) x41 x42 := by
  cases k with
  | zero => exact absurd hk (Nat.lt_irrefl 0)
  | succ m => rfl
def F18 (N : Nat) (a0 : (List (ByteArray × Int))) : Option ((List (ByteArray × Int))) :=
  gd (0 ≤ (a0.length : Int) ∧ (a0.length : Int) ≤ (lim Y93 : Int) ∧ (a0.length : Int) = (a0.length : Int)) (F18_l0 N a0 N (List.replicate (a0.length : Int).toNat (Ty.dflt Y93)) (0 : Int))
theorem ok18 (N : Nat) (a0 : (List (ByteArray × Int))) {r : (List (ByteArray × Int))} (h : F18 N a0 = some r) : Con Go.Proofs.Try.prog 18 [.lf (.v (.sl Y93) a0)] [.lf (.own Y93 r .dp)] := by
  refine ctr [.lf (.own Y93 .dp)] T_ok Go.Proofs.Try.func18 rfl fun w0 E0 => ?_
  unfold F18 at h
  show VW _ _ _ _ _ (retQ _ _ _ _) _
  refine sR T_ok [0] [] ⟨[(0, .lf (.v (.sl Y93) a0))], []⟩ (tn 1) ?_
  obtain ⟨g1, h⟩ := gd_some h
  refine sR T_ok [0, 3] [0] ⟨[(0, .lf (.v (.sl Y93) a0)), (3, .lf (.hd 0 0 none))], [ar 0 Y93 (List.replicate (a0.length : Int).toNat (Ty.dflt Y93)) .dp]⟩ (pu 2 (an g1 (tn 1))) ?_
  refine VW.join (fun s => ∃ (x30 : (List (ByteArray × Int))), s = ⟨[(3, .lf (.hd 0 0 none))], [ar 0 Y93 x30 .dp]⟩ ∧ F18_j0 N x30 = some r) ?_ ?_
  · refine sR T_ok [0, 3, 4] [0] ⟨[(0, .lf (.v (.sl Y93) a0)), (3, .lf (.hd 0 0 none)), (4, I (0 : Int))], [ar 0 Y93 (List.replicate (a0.length : Int).toNat (Ty.dflt Y93)) .dp]⟩ (tn 1) ?_
    refine VW.block ?_
    refine lop (fun k s => ∃ (x41 : (List (ByteArray × Int))) (x42 : Int), s = ⟨[(0, .lf (.v (.sl Y93) a0)), (3, .lf (.hd 0 0 none)), (4, I x42)], [ar 0 Y93 x41 .dp]⟩ ∧ F18_l0 N a0 k x41 x42 = some r) N [.ren [0, 3, 4] [0]] ⟨(List.replicate (a0.length : Int).toNat (Ty.dflt Y93)), (0 : Int), rfl, h⟩ ?_
    rintro k51 s ⟨x41, x42, rfl, h⟩
    cases k51 with
    | zero => cases show none = some r from h
    | succ k51 =>
      replace h : F18_l0_b N a0 (F18_l0 N a0 k51) x41 x42 = some r := h
      unfold F18_l0_b at h
      refine VW.seq ?_
      refine sR T_ok [0, 3, 4, 11] [0] ⟨[(0, .lf (.v (.sl Y93) a0)), (3, .lf (.hd 0 0 none)), (4, I x42), (11, B (decide (x42 < (a0.length : Int))))], [ar 0 Y93 x41 .dp]⟩ (tn 4) ?_
      refine cnd h (fun h => ?_) (fun h => ?_)
      · refine VW.skip ?_
        refine VW.seq ?_
        refine VW.block ?_
        refine VW.region ?_
        obtain ⟨g56, h⟩ := gd_some h
        refine sG T_ok 6 [0, 3, 4, 14, 15, 19] [0] ⟨[(0, .lf (.v (.sl Y93) a0)), (3, .lf (.hd 0 0 none)), (4, I x42), (14, .lf (.hd 0 0 none)), (15, I x42), (19, .agg [.v .str ((a0.getD x42.toNat (Ty.dflt Y93)).1), .v (.int .i64) ((a0.getD x42.toNat (Ty.dflt Y93)).2)])], [ar 0 Y93 x41 .dp]⟩ (pu 4 (an g56 (tn 1))) ?_
        obtain ⟨y57, hy, h⟩ := andO_some h
        refine cal false [.t Y93] [] (some 20) T_ok (ok74 N _ hy) ?_
        obtain ⟨g58, h⟩ := gd_some h
        obtain ⟨g59, h⟩ := gd_some h
        refine sN T_ok [0, 3, 4] [0] ⟨[(0, .lf (.v (.sl Y93) a0)), (3, .lf (.hd 0 0 none)), (4, I x42)], [ar 0 Y93 (x41.set x42.toNat y57) .dp]⟩ (an g58 (an g59 (tn 0))) ?_
        refine rR T_ok [0, 3, 4] [0] ⟨[(0, .lf (.v (.sl Y93) a0)), (3, .lf (.hd 0 0 none)), (4, I (IntKind.i64.wrap (x42 + (1 : Int))))], [ar 0 Y93 (x41.set x42.toNat y57) .dp]⟩ (tn 3) ?_
        exact aro [.ren [0, 3, 4] [0]] ⟨(x41.set x42.toNat y57), (IntKind.i64.wrap (x42 + (1 : Int))), rfl, h⟩
      refine VW.exit ?_
      exact arv [.ren [3] [0]] ⟨x41, rfl, h⟩
  rintro s ⟨x30, rfl, h⟩
  unfold F18_j0 at h
  refine sR T_ok [2] [0] ⟨[(2, .lf (.hd 0 0 none))], [ar 0 Y93 x30 .dp]⟩ (tn 2) ?_
  refine VW.ret ?_
  replace h := Option.some.inj h
  subst h
  exact rt [some 0]

/- loop.example/g00844/impl.in -/
def F130 (N : Nat) (a0 : Int) (a1 : Int) (a2 : Int) : Option (Bool) :=
  cond (decide (a0 ≥ a1)) (some (decide (a0 ≤ a2))) (some false)
theorem ok130 (N : Nat) (a0 : Int) (a1 : Int) (a2 : Int) {r : Bool} (h : F130 N a0 a1 a2 = some r) : Con Go.Proofs.Try.prog 130 [I a0, I a1, I a2] [.lf (.v .bool r)] := by
  refine ctr [.lf (.v .bool)] T_ok Go.Proofs.Try.func130 rfl fun w0 E0 => ?_
  unfold F130 at h
  show VW _ _ _ _ _ (retQ _ _ _ _) _
  refine sR T_ok [0, 1, 2] [] ⟨[(0, I a0), (1, I a1), (2, I a2)], []⟩ (tn 1) ?_
  refine VW.seq ?_
  refine VW.region ?_
  refine sG T_ok 4 [0, 2, 10] [] ⟨[(0, I a0), (2, I a2), (10, B (decide (a0 ≥ a1)))], []⟩ (tn 4) ?_
  refine spB 10 h (fun h => ?_) (fun h => ?_)
  · refine sN T_ok [6] [] ⟨[(6, B (decide (a0 ≤ a2)))], []⟩ (tn 5) ?_
    refine VW.ret ?_
    replace h := Option.some.inj h
    subst h
    exact rt []
  refine sN T_ok [6] [] ⟨[(6, B false)], []⟩ (tn 5) ?_
  refine VW.ret ?_
  replace h := Option.some.inj h
  subst h
  exact rt []

/- loop.example/g00844/impl.isCap -/
def F75 (N : Nat) (a0 : Int) : Option (Bool) :=
  andO (F130 N a0 (1 : Int) (16 : Int)) fun y1 => some y1
theorem ok75 (N : Nat) (a0 : Int) {r : Bool} (h : F75 N a0 = some r) : Con Go.Proofs.Try.prog 75 [I a0] [.lf (.v .bool r)] := by
  refine ctr [.lf (.v .bool)] T_ok Go.Proofs.Try.func75 rfl fun w0 E0 => ?_
  unfold F75 at h
  show VW _ _ _ _ _ (retQ _ _ _ _) _
  refine sR T_ok [0] [] ⟨[(0, I a0)], []⟩ (tn 1) ?_
  refine VW.seq ?_
  refine VW.region ?_
  refine sG T_ok 1 [3] [] ⟨[(3, I a0)], []⟩ (tn 1) ?_
  obtain ⟨y1, hy, h⟩ := andO_some h
  refine cal false [.t (.int .i64), .t (.int .i64), .t (.int .i64)] [] (some 4) T_ok (ok130 N _ _ _ hy) ?_
  refine sN T_ok [2] [] ⟨[(2, B y1)], []⟩ (tn 1) ?_
  refine VW.ret ?_
  replace h := Option.some.inj h
  subst h
  exact rt []

/- loop.example/g00844/impl.WordOk -/
def F140_j0 (N : Nat) (a0 : ByteArray) : Option (Bool) :=
  andO (F130 N (a0.size : Int) (1 : Int) (12 : Int)) fun y14 => some y14
def F140_j1 (N : Nat) (nx25 : Int → Int → Option (Bool)) (x20 : Int) (x21 : Int) : Option (Bool) :=
  nx25 x20 (IntKind.i64.wrap (x21 + (1 : Int)))
def F140_l0_b (N : Nat) (a0 : ByteArray) (nx25 : Int → Int → Option (Bool)) (x20 : Int) (x21 : Int) : Option (Bool) :=
  cond (decide (x21 < x20)) (gd (InR x21 a0.size) (cond (decide (((a0.data.getD x21.toNat 0).toNat : Int) ≥ (97 : Int))) (cond (!(decide (((a0.data.getD x21.toNat 0).toNat : Int) ≤ (122 : Int)))) (cond (x21 == (0 : Int)) (some false) (cond (decide (((a0.data.getD x21.toNat 0).toNat : Int) < (48 : Int))) (some false) (cond (decide (((a0.data.getD x21.toNat 0).toNat : Int) > (57 : Int))) (some false) (F140_j1 N nx25 x20 x21)))) (F140_j1 N nx25 x20 x21)) (cond (x21 == (0 : Int)) (some false) (cond (decide (((a0.data.getD x21.toNat 0).toNat : Int) < (48 : Int))) (some false) (cond (decide (((a0.data.getD x21.toNat 0).toNat : Int) > (57 : Int))) (some false) (F140_j1 N nx25 x20 x21)))))) (F140_j0 N a0)
def F140_l0 (N : Nat) (a0 : ByteArray) : Nat → Int → Int → Option (Bool) := loopF (F140_l0_b N a0) (fun _ _ => none)
theorem F140_l0_s (N : Nat) (a0 : ByteArray) {k : Nat} (hk : 0 < k) (x20 : Int) (x21 : Int) : F140_l0 N a0 k x20 x21 = F140_l0_b N a0 (F140_l0 N a0 (k - 1)) x20 x21 := by
  cases k with
  | zero => exact absurd hk (Nat.lt_irrefl 0)
  | succ m => rfl
def F140 (N : Nat) (a0 : ByteArray) : Option (Bool) :=
  F140_l0 N a0 N (a0.size : Int) (0 : Int)
theorem ok140 (N : Nat) (a0 : ByteArray) {r : Bool} (h : F140 N a0 = some r) : Con Go.Proofs.Try.prog 140 [S a0] [.lf (.v .bool r)] := by
  refine ctr [.lf (.v .bool)] T_ok Go.Proofs.Try.func140 rfl fun w0 E0 => ?_
  unfold F140 at h
  show VW _ _ _ _ _ (retQ _ _ _ _) _
  refine sR T_ok [0] [] ⟨[(0, S a0)], []⟩ (tn 1) ?_
  refine VW.join (fun s => s = ⟨[(0, S a0)], []⟩ ∧ F140_j0 N a0 = some r) ?_ ?_
  · refine sR T_ok [0, 7, 8] [] ⟨[(0, S a0), (7, I (a0.size : Int)), (8, I (0 : Int))], []⟩ (tn 3) ?_
    refine VW.block ?_
    refine lop (fun k s => ∃ (x20 : Int) (x21 : Int), s = ⟨[(0, S a0), (7, I x20), (8, I x21)], []⟩ ∧ F140_l0 N a0 k x20 x21 = some r) N [.ren [0, 7, 8] []] ⟨(a0.size : Int), (0 : Int), rfl, h⟩ ?_
    rintro k25 s ⟨x20, x21, rfl, h⟩
    cases k25 with
    | zero => cases show none = some r from h
    | succ k25 =>
      replace h : F140_l0_b N a0 (F140_l0 N a0 k25) x20 x21 = some r := h
      unfold F140_l0_b at h
      refine sR T_ok [0, 7, 8, 9] [] ⟨[(0, S a0), (7, I x20), (8, I x21), (9, B (decide (x21 < x20)))], []⟩ (tn 1) ?_
      refine VW.seq ?_
      refine cnd h (fun h => ?_) (fun h => ?_)
      · refine VW.skip ?_
        refine VW.join (fun s => s = ⟨[(0, S a0), (7, I x20), (8, I x21)], []⟩ ∧ F140_j1 N (F140_l0 N a0 k25) x20 x21 = some r) ?_ ?_
        · refine VW.block ?_
          refine sR T_ok [0, 3, 7, 8] [] ⟨[(0, S a0), (3, I x21), (7, I x20), (8, I x21)], []⟩ (tn 2) ?_
          obtain ⟨g28, h⟩ := gd_some h
          refine sR T_ok [0, 3, 4, 7, 8] [] ⟨[(0, S a0), (3, I x21), (4, U ((a0.data.getD x21.toNat 0).toNat : Int)), (7, I x20), (8, I x21)], []⟩ (pu 2 (an g28 (tn 1))) ?_
          refine VW.seq ?_
          refine VW.region ?_
          refine sG T_ok 3 [0, 3, 4, 7, 8, 16] [] ⟨[(0, S a0), (3, I x21), (4, U ((a0.data.getD x21.toNat 0).toNat : Int)), (7, I x20), (8, I x21), (16, B (decide (((a0.data.getD x21.toNat 0).toNat : Int) ≥ (97 : Int))))], []⟩ (tn 3) ?_
          refine spB 16 h (fun h => ?_) (fun h => ?_)
          · refine sN T_ok [0, 3, 4, 5, 7, 8] [] ⟨[(0, S a0), (3, I x21), (4, U ((a0.data.getD x21.toNat 0).toNat : Int)), (5, B (decide (((a0.data.getD x21.toNat 0).toNat : Int) ≤ (122 : Int)))), (7, I x20), (8, I x21)], []⟩ (tn 4) ?_
            refine VW.seq ?_
            refine VW.region ?_
            refine sG T_ok 3 [0, 3, 4, 7, 8, 22] [] ⟨[(0, S a0), (3, I x21), (4, U ((a0.data.getD x21.toNat 0).toNat : Int)), (7, I x20), (8, I x21), (22, B (!(decide (((a0.data.getD x21.toNat 0).toNat : Int) ≤ (122 : Int)))))], []⟩ (tn 3) ?_
            refine spB 22 h (fun h => ?_) (fun h => ?_)
            · refine sG T_ok 3 [0, 4, 7, 8, 22, 25] [] ⟨[(0, S a0), (4, U ((a0.data.getD x21.toNat 0).toNat : Int)), (7, I x20), (8, I x21), (22, B true), (25, B (x21 == (0 : Int)))], []⟩ (tn 3) ?_
              refine spB 25 h (fun h => ?_) (fun h => ?_)
              · refine sN T_ok [0, 7, 8, 33] [] ⟨[(0, S a0), (7, I x20), (8, I x21), (33, B true)], []⟩ (tn 8) ?_
                refine VW.cond (b := true) (by kernel_rfl) (fun _ => ?_) (fun h' => nomatch h')
                refine sR T_ok [2] [] ⟨[(2, B false)], []⟩ (tn 1) ?_
                refine VW.ret ?_
                replace h := Option.some.inj h
                subst h
                exact rt []
              refine sG T_ok 4 [0, 4, 7, 8, 22, 29] [] ⟨[(0, S a0), (4, U ((a0.data.getD x21.toNat 0).toNat : Int)), (7, I x20), (8, I x21), (22, B true), (29, B (decide (((a0.data.getD x21.toNat 0).toNat : Int) < (48 : Int))))], []⟩ (tn 4) ?_
              refine spB 29 h (fun h => ?_) (fun h => ?_)
              · refine sN T_ok [0, 7, 8, 33] [] ⟨[(0, S a0), (7, I x20), (8, I x21), (33, B true)], []⟩ (tn 4) ?_
                refine VW.cond (b := true) (by kernel_rfl) (fun _ => ?_) (fun h' => nomatch h')
                refine sR T_ok [2] [] ⟨[(2, B false)], []⟩ (tn 1) ?_
                refine VW.ret ?_
                replace h := Option.some.inj h
                subst h
                exact rt []
              refine sN T_ok [0, 7, 8, 33] [] ⟨[(0, S a0), (7, I x20), (8, I x21), (33, B (decide (((a0.data.getD x21.toNat 0).toNat : Int) > (57 : Int))))], []⟩ (tn 4) ?_
              refine cnd h (fun h => ?_) (fun h => ?_)
              · refine sR T_ok [2] [] ⟨[(2, B false)], []⟩ (tn 1) ?_
                refine VW.ret ?_
                replace h := Option.some.inj h
                subst h
                exact rt []
              refine VW.skip ?_
              exact arv [.ren [0, 7, 8] []] ⟨rfl, h⟩
            refine sN T_ok [0, 7, 8, 33] [] ⟨[(0, S a0), (7, I x20), (8, I x21), (33, B false)], []⟩ (tn 11) ?_
            refine VW.cond (b := false) (by kernel_rfl) (fun h' => nomatch h') (fun _ => ?_)
            refine VW.skip ?_
            exact arv [.ren [0, 7, 8] []] ⟨rfl, h⟩
          refine sN T_ok [0, 3, 4, 5, 7, 8] [] ⟨[(0, S a0), (3, I x21), (4, U ((a0.data.getD x21.toNat 0).toNat : Int)), (5, B false), (7, I x20), (8, I x21)], []⟩ (tn 4) ?_
          refine VW.seq ?_
          refine VW.region ?_
          refine sG T_ok 6 [0, 4, 7, 8, 22, 25] [] ⟨[(0, S a0), (4, U ((a0.data.getD x21.toNat 0).toNat : Int)), (7, I x20), (8, I x21), (22, B true), (25, B (x21 == (0 : Int)))], []⟩ (tn 6) ?_
          refine spB 25 h (fun h => ?_) (fun h => ?_)
          · refine sN T_ok [0, 7, 8, 33] [] ⟨[(0, S a0), (7, I x20), (8, I x21), (33, B true)], []⟩ (tn 8) ?_
            refine VW.cond (b := true) (by kernel_rfl) (fun _ => ?_) (fun h' => nomatch h')
            refine sR T_ok [2] [] ⟨[(2, B false)], []⟩ (tn 1) ?_
            refine VW.ret ?_
            replace h := Option.some.inj h
            subst h
            exact rt []
          refine sG T_ok 4 [0, 4, 7, 8, 22, 29] [] ⟨[(0, S a0), (4, U ((a0.data.getD x21.toNat 0).toNat : Int)), (7, I x20), (8, I x21), (22, B true), (29, B (decide (((a0.data.getD x21.toNat 0).toNat : Int) < (48 : Int))))], []⟩ (tn 4) ?_
          refine spB 29 h (fun h => ?_) (fun h => ?_)
          · refine sN T_ok [0, 7, 8, 33] [] ⟨[(0, S a0), (7, I x20), (8, I x21), (33, B true)], []⟩ (tn 4) ?_
            refine VW.cond (b := true) (by kernel_rfl) (fun _ => ?_) (fun h' => nomatch h')
            refine sR T_ok [2] [] ⟨[(2, B false)], []⟩ (tn 1) ?_
            refine VW.ret ?_
            replace h := Option.some.inj h
            subst h
            exact rt []
          refine sN T_ok [0, 7, 8, 33] [] ⟨[(0, S a0), (7, I x20), (8, I x21), (33, B (decide (((a0.data.getD x21.toNat 0).toNat : Int) > (57 : Int))))], []⟩ (tn 4) ?_
          refine cnd h (fun h => ?_) (fun h => ?_)
          · refine sR T_ok [2] [] ⟨[(2, B false)], []⟩ (tn 1) ?_
            refine VW.ret ?_
            replace h := Option.some.inj h
            subst h
            exact rt []
          refine VW.skip ?_
          exact arv [.ren [0, 7, 8] []] ⟨rfl, h⟩
        rintro s ⟨rfl, h⟩
        unfold F140_j1 at h
        refine rR T_ok [0, 7, 8] [] ⟨[(0, S a0), (7, I x20), (8, I (IntKind.i64.wrap (x21 + (1 : Int))))], []⟩ (tn 2) ?_
        exact aro [.ren [0, 7, 8] []] ⟨x20, (IntKind.i64.wrap (x21 + (1 : Int))), rfl, h⟩
      refine VW.exit ?_
      exact arv [.ren [0] []] ⟨rfl, h⟩
  rintro s ⟨rfl, h⟩
  unfold F140_j0 at h
  refine VW.seq ?_
  refine VW.region ?_
  refine sG T_ok 2 [36] [] ⟨[(36, I (a0.size : Int))], []⟩ (tn 2) ?_
  obtain ⟨y14, hy, h⟩ := andO_some h
  refine cal false [.t (.int .i64), .t (.int .i64), .t (.int .i64)] [] (some 37) T_ok (ok130 N _ _ _ hy) ?_
  refine sN T_ok [2] [] ⟨[(2, B y14)], []⟩ (tn 1) ?_
  refine VW.ret ?_
  replace h := Option.some.inj h
  subst h
  exact rt []

/- loop.example/g00844/impl.SchemaOk -/
def F76_j0 (N : Nat) (a0 : (List (ByteArray × Int))) : Option (Bool) :=
  some (decide ((a0.length : Int) ≤ (8 : Int)))
def F76_j1 (N : Nat) (nx84 : Int → Int → Option (Bool)) (x67 : Int) (x68 : Int) : Option (Bool) :=
  nx84 x67 (IntKind.i64.wrap (x68 + (1 : Int)))
def F76_l0_b (N : Nat) (a0 : (List (ByteArray × Int))) (nx84 : Int → Int → Option (Bool)) (x67 : Int) (x68 : Int) : Option (Bool) :=
  cond (decide (x68 < x67)) (gd (InR x68 a0.length) (andO (F140 N ((a0.getD x68.toNat (Ty.dflt Y93)).1)) fun y94 => cond (!y94) (some false) (andO (F130 N ((a0.getD x68.toNat (Ty.dflt Y93)).2) (1 : Int) (6 : Int)) fun y96 => cond (!y96) (some false) (cond (decide (x68 > (0 : Int))) (gd (InR (IntKind.i64.wrap (x68 - (1 : Int))) a0.length) (cond (!(Op.bytesLess ((a0.getD (IntKind.i64.wrap (x68 - (1 : Int))).toNat (Ty.dflt Y93)).1).toList ((a0.getD x68.toNat (Ty.dflt Y93)).1).toList)) (some false) (F76_j1 N nx84 x67 x68))) (F76_j1 N nx84 x67 x68))))) (F76_j0 N a0)
def F76_l0 (N : Nat) (a0 : (List (ByteArray × Int))) : Nat → Int → Int → Option (Bool) := loopF (F76_l0_b N a0) (fun _ _ => none)
theorem F76_l0_s (N : Nat) (a0 : (List (ByteArray × Int))) {k : Nat} (hk : 0 < k) (x67 : Int) (x68 : Int) : F76_l0 N a0 k x67 x68 = F76_l0_b N a0 (F76_l0 N a0 (k - 1)) x67 x68 := by
  cases k with
  | zero => exact absurd hk (Nat.lt_irrefl 0)
  | succ m => rfl
def F76 (N : Nat) (a0 : (List (ByteArray × Int))) : Option (Bool) :=
  F76_l0 N a0 N (a0.length : Int) (0 : Int)
theorem ok76 (N : Nat) (a0 : (List (ByteArray × Int))) {r : Bool} (h : F76 N a0 = some r) : Con Go.Proofs.Try.prog 76 [.lf (.v (.sl Y93) a0)] [.lf (.v .bool r)] := by
  refine ctr [.lf (.v .bool)] T_ok Go.Proofs.Try.func76 rfl fun w0 E0 => ?_
  unfold F76 at h
  show VW _ _ _ _ _ (retQ _ _ _ _) _
  refine sR T_ok [0] [] ⟨[(0, .lf (.v (.sl Y93) a0))], []⟩ (tn 1) ?_
  refine VW.join (fun s => s = ⟨[(0, .lf (.v (.sl Y93) a0))], []⟩ ∧ F76_j0 N a0 = some r) ?_ ?_
  · refine sR T_ok [0, 5, 6, 7] [] ⟨[(0, .lf (.v (.sl Y93) a0)), (5, .lf (.v (.sl Y93) a0)), (6, I (a0.length : Int)), (7, I (0 : Int))], []⟩ (tn 3) ?_
    refine VW.block ?_
    refine lop (fun k s => ∃ (x67 : Int) (x68 : Int), s = ⟨[(0, .lf (.v (.sl Y93) a0)), (5, .lf (.v (.sl Y93) a0)), (6, I x67), (7, I x68)], []⟩ ∧ F76_l0 N a0 k x67 x68 = some r) N [.ren [0, 5, 6, 7] []] ⟨(a0.length : Int), (0 : Int), rfl, h⟩ ?_
    rintro k84 s ⟨x67, x68, rfl, h⟩
    cases k84 with
    | zero => cases show none = some r from h
    | succ k84 =>
      replace h : F76_l0_b N a0 (F76_l0 N a0 k84) x67 x68 = some r := h
      unfold F76_l0_b at h
      refine sR T_ok [0, 5, 6, 7, 8] [] ⟨[(0, .lf (.v (.sl Y93) a0)), (5, .lf (.v (.sl Y93) a0)), (6, I x67), (7, I x68), (8, B (decide (x68 < x67)))], []⟩ (tn 1) ?_
      refine VW.seq ?_
      refine cnd h (fun h => ?_) (fun h => ?_)
      · refine VW.skip ?_
        refine VW.join (fun s => s = ⟨[(0, .lf (.v (.sl Y93) a0)), (5, .lf (.v (.sl Y93) a0)), (6, I x67), (7, I x68)], []⟩ ∧ F76_j1 N (F76_l0 N a0 k84) x67 x68 = some r) ?_ ?_
        · refine VW.block ?_
          obtain ⟨g93, h⟩ := gd_some h
          refine sR T_ok [0, 3, 4, 5, 6, 7] [0] ⟨[(0, .lf (.v (.sl Y93) a0)), (3, I x68), (4, .lf (.ptr 0 0 0 0)), (5, .lf (.v (.sl Y93) a0)), (6, I x67), (7, I x68)], [bx [.v .str ((a0.getD x68.toNat (Ty.dflt Y93)).1), .v (.int .i64) ((a0.getD x68.toNat (Ty.dflt Y93)).2)] 98]⟩ (pu 1 (an g93 (tn 4))) ?_
          refine VW.seq ?_
          obtain ⟨y94, hy94, h⟩ := andO_some h
          rcases Bool.eq_false_or_eq_true (!y94) with hb95 | hb95
          · replace h := cond_t h hb95
            refine VW.drawn (by kernel_rfl) [some (12, .lf (.ptr 0 0 0 0)), some (13, S ((a0.getD x68.toNat (Ty.dflt Y93)).1)), some (14, B y94), some (15, B (!y94)), some (16, B true), some (17, .unk), some (18, .unk), some (19, .unk), some (20, .unk), some (21, B true), some (22, B true), some (23, .unk), some (24, .unk), some (25, .unk), some (26, .unk), some (27, .unk), some (28, .unk), some (29, .unk), some (30, .unk), some (31, .unk), some (32, .unk), some (33, .unk), some (34, .unk), some (35, .unk), some (36, B true)] [] [[bx [.v .str ((a0.getD x68.toNat (Ty.dflt Y93)).1), .v (.int .i64) ((a0.getD x68.toNat (Ty.dflt Y93)).2)] 98]] [(0, 0), (1, 0), (2, 0), (3, 0), (4, 0), (5, 0), (6, 0), (7, 0), (8, 0), (9, 0), (10, 0), (11, 0), (12, 0), (13, 0), (14, 0), (15, 0), (16, 0), (17, 0), (18, 0), (19, 0), (20, 0), (21, 0), (22, 0), (23, 0), (24, 0)] [0, 5, 6, 7, 36] [] (s' := ⟨[(0, .lf (.v (.sl Y93) a0)), (5, .lf (.v (.sl Y93) a0)), (6, I x67), (7, I x68), (36, B true)], []⟩) (by kernel_rfl) (by kernel_rfl) ⟨⟨_, rfl, Stp.ev T_ok (m := .dp) (φ := True) (by kernel_rfl) trivial⟩,
    ⟨_, rfl, Stp.ev T_ok (m := .dp) (φ := True) (by kernel_rfl) trivial⟩,
    ⟨_, rfl, Stp.eq (Stp.call false [.t .str] [] T_ok (d := some 14) (by kernel_rfl) (ok140 N _ hy94) rfl) (by kernel_rfl) (by kernel_rfl)⟩,
    ⟨_, rfl, Stp.ev T_ok (m := .dp) (φ := True) (by kernel_rfl) trivial⟩,
    ⟨_, rfl, Stp.lit (d := 16) (b := (!y94)) (c := true) (Stp.ev T_ok (m := .dp) (φ := True) (by kernel_rfl) trivial) hb95⟩,
    ⟨_, rfl, Stp.off (d := 16) (b := true) rfl rfl rfl (by kernel_rfl) (by decide) rfl (Nat.le_of_ble_eq_true rfl)⟩,
    ⟨_, rfl, Stp.off (d := 16) (b := true) rfl rfl rfl (by kernel_rfl) (by decide) rfl (Nat.le_of_ble_eq_true rfl)⟩,
    ⟨_, rfl, Stp.off (d := 16) (b := true) rfl rfl rfl (by kernel_rfl) (by decide) rfl (Nat.le_of_ble_eq_true rfl)⟩,
    ⟨_, rfl, Stp.off (d := 16) (b := true) rfl rfl rfl (by kernel_rfl) (by decide) rfl (Nat.le_of_ble_eq_true rfl)⟩,
    ⟨_, rfl, Stp.ev T_ok (m := .dp) (φ := True) (by kernel_rfl) trivial⟩,
    ⟨_, rfl, Stp.ev T_ok (m := .dp) (φ := True) (by kernel_rfl) trivial⟩,
    ⟨_, rfl, Stp.off (d := 22) (b := true) rfl rfl rfl (by kernel_rfl) (by decide) rfl (Nat.le_of_ble_eq_true rfl)⟩,
    ⟨_, rfl, Stp.off (d := 22) (b := true) rfl rfl rfl (by kernel_rfl) (by decide) rfl (Nat.le_of_ble_eq_true rfl)⟩,
    ⟨_, rfl, Stp.off (d := 22) (b := true) rfl rfl rfl (by kernel_rfl) (by decide) rfl (Nat.le_of_ble_eq_true rfl)⟩,
    ⟨_, rfl, Stp.off2 (d := 25) rfl rfl rfl (by kernel_rfl) rfl (Nat.le_of_ble_eq_true rfl)⟩,
    ⟨_, rfl, Stp.off2 (d := 25) rfl rfl rfl (by kernel_rfl) rfl (Nat.le_of_ble_eq_true rfl)⟩,
    ⟨_, rfl, Stp.off2 (d := 25) rfl rfl rfl (by kernel_rfl) rfl (Nat.le_of_ble_eq_true rfl)⟩,
    ⟨_, rfl, Stp.off2 (d := 25) rfl rfl rfl (by kernel_rfl) rfl (Nat.le_of_ble_eq_true rfl)⟩,
    ⟨_, rfl, Stp.off2 (d := 25) rfl rfl rfl (by kernel_rfl) rfl (Nat.le_of_ble_eq_true rfl)⟩,
    ⟨_, rfl, Stp.off2 (d := 25) rfl rfl rfl (by kernel_rfl) rfl (Nat.le_of_ble_eq_true rfl)⟩,
    ⟨_, rfl, Stp.off2 (d := 25) rfl rfl rfl (by kernel_rfl) rfl (Nat.le_of_ble_eq_true rfl)⟩,
    ⟨_, rfl, Stp.off2 (d := 25) rfl rfl rfl (by kernel_rfl) rfl (Nat.le_of_ble_eq_true rfl)⟩,
    ⟨_, rfl, Stp.off2 (d := 25) rfl rfl rfl (by kernel_rfl) rfl (Nat.le_of_ble_eq_true rfl)⟩,
    ⟨_, rfl, Stp.off (d := 22) (b := true) rfl rfl rfl (by kernel_rfl) (by decide) rfl (Nat.le_of_ble_eq_true rfl)⟩,
    ⟨_, rfl, Stp.ev T_ok (m := .dp) (φ := True) (by kernel_rfl) trivial⟩, trivial⟩ (by kernel_rfl) ?_
            refine VW.cond (b := true) (by kernel_rfl) (fun _ => ?_) (fun h' => nomatch h')
            refine sR T_ok [2] [] ⟨[(2, B false)], []⟩ (tn 1) ?_
            refine VW.ret ?_
            replace h := Option.some.inj h
            subst h
            exact rt []
          replace h := cond_f h hb95
          obtain ⟨y96, hy96, h⟩ := andO_some h
          rcases Bool.eq_false_or_eq_true (!y96) with hb97 | hb97
          · replace h := cond_t h hb97
            refine VW.drawn (by kernel_rfl) [some (12, .lf (.ptr 0 0 0 0)), some (13, S ((a0.getD x68.toNat (Ty.dflt Y93)).1)), some (14, B y94), some (15, B (!y94)), some (16, B false), some (17, .lf (.ptr 0 0 0 1)), some (18, I ((a0.getD x68.toNat (Ty.dflt Y93)).2)), some (19, B y96), some (20, B (!y96)), some (21, B (!y96)), some (22, B true), some (23, .unk), some (24, .unk), some (25, .unk), some (26, .unk), some (27, .unk), some (28, .unk), some (29, .unk), some (30, .unk), some (31, .unk), some (32, .unk), some (33, .unk), some (34, .unk), some (35, .unk), some (36, B true)] [] [[bx [.v .str ((a0.getD x68.toNat (Ty.dflt Y93)).1), .v (.int .i64) ((a0.getD x68.toNat (Ty.dflt Y93)).2)] 98]] [(0, 0), (1, 0), (2, 0), (3, 0), (4, 0), (5, 0), (6, 0), (7, 0), (8, 0), (9, 0), (10, 0), (11, 0), (12, 0), (13, 0), (14, 0), (15, 0), (16, 0), (17, 0), (18, 0), (19, 0), (20, 0), (21, 0), (22, 0), (23, 0), (24, 0)] [0, 5, 6, 7, 36] [] (s' := ⟨[(0, .lf (.v (.sl Y93) a0)), (5, .lf (.v (.sl Y93) a0)), (6, I x67), (7, I x68), (36, B true)], []⟩) (by kernel_rfl) (by kernel_rfl) ⟨⟨_, rfl, Stp.ev T_ok (m := .dp) (φ := True) (by kernel_rfl) trivial⟩,
    ⟨_, rfl, Stp.ev T_ok (m := .dp) (φ := True) (by kernel_rfl) trivial⟩,
    ⟨_, rfl, Stp.eq (Stp.call false [.t .str] [] T_ok (d := some 14) (by kernel_rfl) (ok140 N _ hy94) rfl) (by kernel_rfl) (by kernel_rfl)⟩,
    ⟨_, rfl, Stp.ev T_ok (m := .dp) (φ := True) (by kernel_rfl) trivial⟩,
    ⟨_, rfl, Stp.lit (d := 16) (b := (!y94)) (c := false) (Stp.ev T_ok (m := .dp) (φ := True) (by kernel_rfl) trivial) hb95⟩,
    ⟨_, rfl, Stp.on (d := 16) (b := false) rfl rfl rfl (by kernel_rfl) rfl (Stp.ev T_ok (m := .dp) (φ := True) (by kernel_rfl) trivial)⟩,
    ⟨_, rfl, Stp.on (d := 16) (b := false) rfl rfl rfl (by kernel_rfl) rfl (Stp.ev T_ok (m := .dp) (φ := True) (by kernel_rfl) trivial)⟩,
    ⟨_, rfl, Stp.eq (Stp.on (d := 16) (b := false) rfl rfl rfl (by kernel_rfl) rfl (Stp.call false [.t (.int .i64), .t (.int .i64), .t (.int .i64)] [] T_ok (d := some 19) (by kernel_rfl) (ok130 N _ _ _ hy96) rfl)) (by kernel_rfl) (by kernel_rfl)⟩,
    ⟨_, rfl, Stp.on (d := 16) (b := false) rfl rfl rfl (by kernel_rfl) rfl (Stp.ev T_ok (m := .dp) (φ := True) (by kernel_rfl) trivial)⟩,
    ⟨_, rfl, Stp.ev T_ok (m := .dp) (φ := True) (by kernel_rfl) trivial⟩,
    ⟨_, rfl, Stp.lit (d := 22) (b := (!y96)) (c := true) (Stp.ev T_ok (m := .dp) (φ := True) (by kernel_rfl) trivial) hb97⟩,
    ⟨_, rfl, Stp.off (d := 22) (b := true) rfl rfl rfl (by kernel_rfl) (by decide) rfl (Nat.le_of_ble_eq_true rfl)⟩,
    ⟨_, rfl, Stp.off (d := 22) (b := true) rfl rfl rfl (by kernel_rfl) (by decide) rfl (Nat.le_of_ble_eq_true rfl)⟩,
    ⟨_, rfl, Stp.off (d := 22) (b := true) rfl rfl rfl (by kernel_rfl) (by decide) rfl (Nat.le_of_ble_eq_true rfl)⟩,
    ⟨_, rfl, Stp.off2 (d := 25) rfl rfl rfl (by kernel_rfl) rfl (Nat.le_of_ble_eq_true rfl)⟩,
    ⟨_, rfl, Stp.off2 (d := 25) rfl rfl rfl (by kernel_rfl) rfl (Nat.le_of_ble_eq_true rfl)⟩,
    ⟨_, rfl, Stp.off2 (d := 25) rfl rfl rfl (by kernel_rfl) rfl (Nat.le_of_ble_eq_true rfl)⟩,
    ⟨_, rfl, Stp.off2 (d := 25) rfl rfl rfl (by kernel_rfl) rfl (Nat.le_of_ble_eq_true rfl)⟩,
    ⟨_, rfl, Stp.off2 (d := 25) rfl rfl rfl (by kernel_rfl) rfl (Nat.le_of_ble_eq_true rfl)⟩,
    ⟨_, rfl, Stp.off2 (d := 25) rfl rfl rfl (by kernel_rfl) rfl (Nat.le_of_ble_eq_true rfl)⟩,
    ⟨_, rfl, Stp.off2 (d := 25) rfl rfl rfl (by kernel_rfl) rfl (Nat.le_of_ble_eq_true rfl)⟩,
    ⟨_, rfl, Stp.off2 (d := 25) rfl rfl rfl (by kernel_rfl) rfl (Nat.le_of_ble_eq_true rfl)⟩,
    ⟨_, rfl, Stp.off2 (d := 25) rfl rfl rfl (by kernel_rfl) rfl (Nat.le_of_ble_eq_true rfl)⟩,
    ⟨_, rfl, Stp.off (d := 22) (b := true) rfl rfl rfl (by kernel_rfl) (by decide) rfl (Nat.le_of_ble_eq_true rfl)⟩,
    ⟨_, rfl, Stp.ev T_ok (m := .dp) (φ := True) (by kernel_rfl) trivial⟩, trivial⟩ (by kernel_rfl) ?_
            refine VW.cond (b := true) (by kernel_rfl) (fun _ => ?_) (fun h' => nomatch h')
            refine sR T_ok [2] [] ⟨[(2, B false)], []⟩ (tn 1) ?_
            refine VW.ret ?_
            replace h := Option.some.inj h
            subst h
            exact rt []
          replace h := cond_f h hb97
          rcases Bool.eq_false_or_eq_true (decide (x68 > (0 : Int))) with hb98 | hb98
          · replace h := cond_t h hb98
            obtain ⟨g99, h⟩ := gd_some h
            refine VW.drawn (by kernel_rfl) [some (12, .lf (.ptr 0 0 0 0)), some (13, S ((a0.getD x68.toNat (Ty.dflt Y93)).1)), some (14, B y94), some (15, B (!y94)), some (16, B false), some (17, .lf (.ptr 0 0 0 1)), some (18, I ((a0.getD x68.toNat (Ty.dflt Y93)).2)), some (19, B y96), some (20, B (!y96)), some (21, B (!y96)), some (22, B false), some (23, I x68), some (24, B (decide (x68 > (0 : Int)))), some (25, B true), some (26, .lf (.v (.sl Y93) a0)), some (27, I x68), some (28, I (IntKind.i64.wrap (x68 - (1 : Int)))), some (29, .lf (.fp Y93 (a0.getD (IntKind.i64.wrap (x68 - (1 : Int))).toNat (Ty.dflt Y93)) 0)), some (30, .lf (.fp Y93 (a0.getD (IntKind.i64.wrap (x68 - (1 : Int))).toNat (Ty.dflt Y93)) 0)), some (31, S ((a0.getD (IntKind.i64.wrap (x68 - (1 : Int))).toNat (Ty.dflt Y93)).1)), some (32, .lf (.ptr 0 0 0 0)), some (33, S ((a0.getD x68.toNat (Ty.dflt Y93)).1)), some (34, B (!(Op.bytesLess ((a0.getD (IntKind.i64.wrap (x68 - (1 : Int))).toNat (Ty.dflt Y93)).1).toList ((a0.getD x68.toNat (Ty.dflt Y93)).1).toList))), some (35, B (!(Op.bytesLess ((a0.getD (IntKind.i64.wrap (x68 - (1 : Int))).toNat (Ty.dflt Y93)).1).toList ((a0.getD x68.toNat (Ty.dflt Y93)).1).toList))), some (36, B (!(Op.bytesLess ((a0.getD (IntKind.i64.wrap (x68 - (1 : Int))).toNat (Ty.dflt Y93)).1).toList ((a0.getD x68.toNat (Ty.dflt Y93)).1).toList)))] [] [[bx [.v .str ((a0.getD x68.toNat (Ty.dflt Y93)).1), .v (.int .i64) ((a0.getD x68.toNat (Ty.dflt Y93)).2)] 98]] [(0, 0), (1, 0), (2, 0), (3, 0), (4, 0), (5, 0), (6, 0), (7, 0), (8, 0), (9, 0), (10, 0), (11, 0), (12, 0), (13, 0), (14, 0), (15, 0), (16, 0), (17, 0), (18, 0), (19, 0), (20, 0), (21, 0), (22, 0), (23, 0), (24, 0)] [0, 5, 6, 7, 36] [] (s' := ⟨[(0, .lf (.v (.sl Y93) a0)), (5, .lf (.v (.sl Y93) a0)), (6, I x67), (7, I x68), (36, B (!(Op.bytesLess ((a0.getD (IntKind.i64.wrap (x68 - (1 : Int))).toNat (Ty.dflt Y93)).1).toList ((a0.getD x68.toNat (Ty.dflt Y93)).1).toList)))], []⟩) (by kernel_rfl) (by kernel_rfl) ⟨⟨_, rfl, Stp.ev T_ok (m := .dp) (φ := True) (by kernel_rfl) trivial⟩,
    ⟨_, rfl, Stp.ev T_ok (m := .dp) (φ := True) (by kernel_rfl) trivial⟩,
    ⟨_, rfl, Stp.eq (Stp.call false [.t .str] [] T_ok (d := some 14) (by kernel_rfl) (ok140 N _ hy94) rfl) (by kernel_rfl) (by kernel_rfl)⟩,
    ⟨_, rfl, Stp.ev T_ok (m := .dp) (φ := True) (by kernel_rfl) trivial⟩,
    ⟨_, rfl, Stp.lit (d := 16) (b := (!y94)) (c := false) (Stp.ev T_ok (m := .dp) (φ := True) (by kernel_rfl) trivial) hb95⟩,
    ⟨_, rfl, Stp.on (d := 16) (b := false) rfl rfl rfl (by kernel_rfl) rfl (Stp.ev T_ok (m := .dp) (φ := True) (by kernel_rfl) trivial)⟩,
    ⟨_, rfl, Stp.on (d := 16) (b := false) rfl rfl rfl (by kernel_rfl) rfl (Stp.ev T_ok (m := .dp) (φ := True) (by kernel_rfl) trivial)⟩,
    ⟨_, rfl, Stp.eq (Stp.on (d := 16) (b := false) rfl rfl rfl (by kernel_rfl) rfl (Stp.call false [.t (.int .i64), .t (.int .i64), .t (.int .i64)] [] T_ok (d := some 19) (by kernel_rfl) (ok130 N _ _ _ hy96) rfl)) (by kernel_rfl) (by kernel_rfl)⟩,
    ⟨_, rfl, Stp.on (d := 16) (b := false) rfl rfl rfl (by kernel_rfl) rfl (Stp.ev T_ok (m := .dp) (φ := True) (by kernel_rfl) trivial)⟩,
    ⟨_, rfl, Stp.ev T_ok (m := .dp) (φ := True) (by kernel_rfl) trivial⟩,
    ⟨_, rfl, Stp.lit (d := 22) (b := (!y96)) (c := false) (Stp.ev T_ok (m := .dp) (φ := True) (by kernel_rfl) trivial) hb97⟩,
    ⟨_, rfl, Stp.on (d := 22) (b := false) rfl rfl rfl (by kernel_rfl) rfl (Stp.ev T_ok (m := .dp) (φ := True) (by kernel_rfl) trivial)⟩,
    ⟨_, rfl, Stp.on (d := 22) (b := false) rfl rfl rfl (by kernel_rfl) rfl (Stp.ev T_ok (m := .dp) (φ := True) (by kernel_rfl) trivial)⟩,
    ⟨_, rfl, Stp.lit (d := 25) (b := (decide (x68 > (0 : Int)))) (c := true) (Stp.on (d := 22) (b := false) rfl rfl rfl (by kernel_rfl) rfl (Stp.ev T_ok (m := .dp) (φ := True) (by kernel_rfl) trivial)) hb98⟩,
    ⟨_, rfl, Stp.on (d := 25) (b := true) rfl rfl rfl (by kernel_rfl) rfl (Stp.ev T_ok (m := .dp) (φ := True) (by kernel_rfl) trivial)⟩,
    ⟨_, rfl, Stp.on (d := 25) (b := true) rfl rfl rfl (by kernel_rfl) rfl (Stp.ev T_ok (m := .dp) (φ := True) (by kernel_rfl) trivial)⟩,
    ⟨_, rfl, Stp.on (d := 25) (b := true) rfl rfl rfl (by kernel_rfl) rfl (Stp.ev T_ok (m := .dp) (φ := True) (by kernel_rfl) trivial)⟩,
    ⟨_, rfl, Stp.on (d := 25) (b := true) rfl rfl rfl (by kernel_rfl) rfl (Stp.ev T_ok (m := .dp) (φ := InR (IntKind.i64.wrap (x68 - (1 : Int))) a0.length) (by kernel_rfl) g99)⟩,
    ⟨_, rfl, Stp.on (d := 25) (b := true) rfl rfl rfl (by kernel_rfl) rfl (Stp.ev T_ok (m := .dp) (φ := True) (by kernel_rfl) trivial)⟩,
    ⟨_, rfl, Stp.on (d := 25) (b := true) rfl rfl rfl (by kernel_rfl) rfl (Stp.ev T_ok (m := .dp) (φ := True) (by kernel_rfl) trivial)⟩,
    ⟨_, rfl, Stp.on (d := 25) (b := true) rfl rfl rfl (by kernel_rfl) rfl (Stp.ev T_ok (m := .dp) (φ := True) (by kernel_rfl) trivial)⟩,
    ⟨_, rfl, Stp.on (d := 25) (b := true) rfl rfl rfl (by kernel_rfl) rfl (Stp.ev T_ok (m := .dp) (φ := True) (by kernel_rfl) trivial)⟩,
    ⟨_, rfl, Stp.on (d := 25) (b := true) rfl rfl rfl (by kernel_rfl) rfl (Stp.ev T_ok (m := .dp) (φ := True) (by kernel_rfl) trivial)⟩,
    ⟨_, rfl, Stp.on (d := 22) (b := false) rfl rfl rfl (by kernel_rfl) rfl (Stp.ev T_ok (m := .dp) (φ := True) (by kernel_rfl) trivial)⟩,
    ⟨_, rfl, Stp.ev T_ok (m := .dp) (φ := True) (by kernel_rfl) trivial⟩, trivial⟩ (by kernel_rfl) ?_
            refine cnd h (fun h => ?_) (fun h => ?_)
            · refine sR T_ok [2] [] ⟨[(2, B false)], []⟩ (tn 1) ?_
              refine VW.ret ?_
              replace h := Option.some.inj h
              subst h
              exact rt []
            refine VW.skip ?_
            exact arv [.ren [0, 5, 6, 7] []] ⟨rfl, h⟩
          replace h := cond_f h hb98
          refine VW.drawn (by kernel_rfl) [some (12, .lf (.ptr 0 0 0 0)), some (13, S ((a0.getD x68.toNat (Ty.dflt Y93)).1)), some (14, B y94), some (15, B (!y94)), some (16, B false), some (17, .lf (.ptr 0 0 0 1)), some (18, I ((a0.getD x68.toNat (Ty.dflt Y93)).2)), some (19, B y96), some (20, B (!y96)), some (21, B (!y96)), some (22, B false), some (23, I x68), some (24, B (decide (x68 > (0 : Int)))), some (25, B false), some (26, .unk), some (27, .unk), some (28, .unk), some (29, .unk), some (30, .unk), some (31, .unk), some (32, .unk), some (33, .unk), some (34, .unk), some (35, B false), some (36, B false)] [] [[bx [.v .str ((a0.getD x68.toNat (Ty.dflt Y93)).1), .v (.int .i64) ((a0.getD x68.toNat (Ty.dflt Y93)).2)] 98]] [(0, 0), (1, 0), (2, 0), (3, 0), (4, 0), (5, 0), (6, 0), (7, 0), (8, 0), (9, 0), (10, 0), (11, 0), (12, 0), (13, 0), (14, 0), (15, 0), (16, 0), (17, 0), (18, 0), (19, 0), (20, 0), (21, 0), (22, 0), (23, 0), (24, 0)] [0, 5, 6, 7, 36] [] (s' := ⟨[(0, .lf (.v (.sl Y93) a0)), (5, .lf (.v (.sl Y93) a0)), (6, I x67), (7, I x68), (36, B false)], []⟩) (by kernel_rfl) (by kernel_rfl) ⟨⟨_, rfl, Stp.ev T_ok (m := .dp) (φ := True) (by kernel_rfl) trivial⟩,
    ⟨_, rfl, Stp.ev T_ok (m := .dp) (φ := True) (by kernel_rfl) trivial⟩,
    ⟨_, rfl, Stp.eq (Stp.call false [.t .str] [] T_ok (d := some 14) (by kernel_rfl) (ok140 N _ hy94) rfl) (by kernel_rfl) (by kernel_rfl)⟩,
    ⟨_, rfl, Stp.ev T_ok (m := .dp) (φ := True) (by kernel_rfl) trivial⟩,
    ⟨_, rfl, Stp.lit (d := 16) (b := (!y94)) (c := false) (Stp.ev T_ok (m := .dp) (φ := True) (by kernel_rfl) trivial) hb95⟩,
    ⟨_, rfl, Stp.on (d := 16) (b := false) rfl rfl rfl (by kernel_rfl) rfl (Stp.ev T_ok (m := .dp) (φ := True) (by kernel_rfl) trivial)⟩,
    ⟨_, rfl, Stp.on (d := 16) (b := false) rfl rfl rfl (by kernel_rfl) rfl (Stp.ev T_ok (m := .dp) (φ := True) (by kernel_rfl) trivial)⟩,
    ⟨_, rfl, Stp.eq (Stp.on (d := 16) (b := false) rfl rfl rfl (by kernel_rfl) rfl (Stp.call false [.t (.int .i64), .t (.int .i64), .t (.int .i64)] [] T_ok (d := some 19) (by kernel_rfl) (ok130 N _ _ _ hy96) rfl)) (by kernel_rfl) (by kernel_rfl)⟩,
    ⟨_, rfl, Stp.on (d := 16) (b := false) rfl rfl rfl (by kernel_rfl) rfl (Stp.ev T_ok (m := .dp) (φ := True) (by kernel_rfl) trivial)⟩,
    ⟨_, rfl, Stp.ev T_ok (m := .dp) (φ := True) (by kernel_rfl) trivial⟩,
    ⟨_, rfl, Stp.lit (d := 22) (b := (!y96)) (c := false) (Stp.ev T_ok (m := .dp) (φ := True) (by kernel_rfl) trivial) hb97⟩,
    ⟨_, rfl, Stp.on (d := 22) (b := false) rfl rfl rfl (by kernel_rfl) rfl (Stp.ev T_ok (m := .dp) (φ := True) (by kernel_rfl) trivial)⟩,
    ⟨_, rfl, Stp.on (d := 22) (b := false) rfl rfl rfl (by kernel_rfl) rfl (Stp.ev T_ok (m := .dp) (φ := True) (by kernel_rfl) trivial)⟩,
    ⟨_, rfl, Stp.lit (d := 25) (b := (decide (x68 > (0 : Int)))) (c := false) (Stp.on (d := 22) (b := false) rfl rfl rfl (by kernel_rfl) rfl (Stp.ev T_ok (m := .dp) (φ := True) (by kernel_rfl) trivial)) hb98⟩,
    ⟨_, rfl, Stp.off (d := 25) (b := false) rfl rfl rfl (by kernel_rfl) (by decide) rfl (Nat.le_of_ble_eq_true rfl)⟩,
    ⟨_, rfl, Stp.off (d := 25) (b := false) rfl rfl rfl (by kernel_rfl) (by decide) rfl (Nat.le_of_ble_eq_true rfl)⟩,
    ⟨_, rfl, Stp.off (d := 25) (b := false) rfl rfl rfl (by kernel_rfl) (by decide) rfl (Nat.le_of_ble_eq_true rfl)⟩,
    ⟨_, rfl, Stp.off (d := 25) (b := false) rfl rfl rfl (by kernel_rfl) (by decide) rfl (Nat.le_of_ble_eq_true rfl)⟩,
    ⟨_, rfl, Stp.off (d := 25) (b := false) rfl rfl rfl (by kernel_rfl) (by decide) rfl (Nat.le_of_ble_eq_true rfl)⟩,
    ⟨_, rfl, Stp.off (d := 25) (b := false) rfl rfl rfl (by kernel_rfl) (by decide) rfl (Nat.le_of_ble_eq_true rfl)⟩,
    ⟨_, rfl, Stp.off (d := 25) (b := false) rfl rfl rfl (by kernel_rfl) (by decide) rfl (Nat.le_of_ble_eq_true rfl)⟩,
    ⟨_, rfl, Stp.off (d := 25) (b := false) rfl rfl rfl (by kernel_rfl) (by decide) rfl (Nat.le_of_ble_eq_true rfl)⟩,
    ⟨_, rfl, Stp.off (d := 25) (b := false) rfl rfl rfl (by kernel_rfl) (by decide) rfl (Nat.le_of_ble_eq_true rfl)⟩,
    ⟨_, rfl, Stp.on (d := 22) (b := false) rfl rfl rfl (by kernel_rfl) rfl (Stp.ev T_ok (m := .dp) (φ := True) (by kernel_rfl) trivial)⟩,
    ⟨_, rfl, Stp.ev T_ok (m := .dp) (φ := True) (by kernel_rfl) trivial⟩, trivial⟩ (by kernel_rfl) ?_
          refine VW.cond (b := false) (by kernel_rfl) (fun h' => nomatch h') (fun _ => ?_)
          refine VW.skip ?_
          exact arv [.ren [0, 5, 6, 7] []] ⟨rfl, h⟩
        rintro s ⟨rfl, h⟩
        unfold F76_j1 at h
        refine rR T_ok [0, 5, 6, 7] [] ⟨[(0, .lf (.v (.sl Y93) a0)), (5, .lf (.v (.sl Y93) a0)), (6, I x67), (7, I (IntKind.i64.wrap (x68 + (1 : Int))))], []⟩ (tn 2) ?_
        exact aro [.ren [0, 5, 6, 7] []] ⟨x67, (IntKind.i64.wrap (x68 + (1 : Int))), rfl, h⟩
      refine VW.exit ?_
      exact arv [.ren [0] []] ⟨rfl, h⟩
  rintro s ⟨rfl, h⟩
  unfold F76_j0 at h
  refine sR T_ok [2] [] ⟨[(2, B (decide ((a0.length : Int) ≤ (8 : Int))))], []⟩ (tn 4) ?_
  refine VW.ret ?_
  replace h := Option.some.inj h
  subst h
  exact rt []

/- slices.Clone[[]loop.example/g00844/impl.Table,loop.example/g00844/impl.Table] -/
def F77 (N : Nat) (a0 : (List (ByteArray × Int))) : Option ((List (ByteArray × Int))) :=
  gd (a0.length ≤ lim Y93) (some a0)
theorem ok77 (N : Nat) (a0 : (List (ByteArray × Int))) {r : (List (ByteArray × Int))} (h : F77 N a0 = some r) : Con Go.Proofs.Try.prog 77 [.lf (.v (.sl Y93) a0)] [.lf (.own Y93 r .dp)] := by
  refine ctr [.lf (.own Y93 .dp)] T_ok Go.Proofs.Try.func77 rfl fun w0 E0 => ?_
  unfold F77 at h
  show VW _ _ _ _ _ (retQ _ _ _ _) _
  refine sR T_ok [0] [] ⟨[(0, .lf (.v (.sl Y93) a0))], []⟩ (tn 1) ?_
  refine VW.seq ?_
  refine VW.seq ?_
  refine VW.region ?_
  refine sG T_ok 1 [0, 3] [] ⟨[(0, .lf (.v (.sl Y93) a0)), (3, .lf (.v (.sl Y93) a0))], []⟩ (tn 1) ?_
  refine VO.isNil (d := 4) (e := Y93) (xs := a0) T_ok rfl rfl rfl rfl (by kernel_rfl) (by kernel_rfl) (fun hx => ?_) ?_
  · replace h : some ([]) = some r := by
      subst hx; first | exact h | exact (gd_some h).2
    refine sN T_ok [0, 4] [] ⟨[(0, .lf (.v (.sl Y93) a0)), (4, B true)], []⟩ (tn 0) ?_
    refine VW.cond (b := true) (by kernel_rfl) (fun _ => ?_) (fun h' => nomatch h')
    refine sR T_ok [2] [] ⟨[(2, .lf (.nil))], []⟩ (tn 1) ?_
    refine VW.ret ?_
    replace h := Option.some.inj h
    subst h
    exact rt [none]
  refine sN T_ok [0, 4] [] ⟨[(0, .lf (.v (.sl Y93) a0)), (4, B false)], []⟩ (tn 0) ?_
  refine VW.cond (b := false) (by kernel_rfl) (fun h' => nomatch h') (fun _ => ?_)
  refine VW.skip ?_
  obtain ⟨g1, h⟩ := gd_some h
  refine sR T_ok [2] [0] ⟨[(2, .lf (.hd 0 0 none))], [ar 0 Y93 a0 .dp]⟩ (pu 2 (an g1 (tn 1))) ?_
  refine VW.ret ?_
  replace h := Option.some.inj h
  subst h
  exact rt [some 0]

/- loop.example/g00844/impl.NewShelf -/
def F19 (N : Nat) (a0 : Int) (a1 : (List (ByteArray × Int))) : Option ((Int × ((List (ByteArray × Int)) × ((List (Int × ((List (Int × (ByteArray × (Int × (Int × (Int × (Bool × (List Int)))))))) × ((List (Int × (ByteArray × (Int × (Int × (Int × (Bool × (List Int)))))))) × (Int × Int))))) × (Int × (Int × (Int × (Int × (Int × Int)))))))) × Bool) :=
  andO (F75 N a0) fun y3 => cond (!y3) (some (((0 : Int), ([], ([], ((0 : Int), ((0 : Int), ((0 : Int), ((0 : Int), ((0 : Int), (0 : Int))))))))), false)) (andO (F76 N a1) fun y4 => cond (!y4) (some (((0 : Int), ([], ([], ((0 : Int), ((0 : Int), ((0 : Int), ((0 : Int), ((0 : Int), (0 : Int))))))))), false)) (andO (F77 N a1) fun y5 => some ((a0, (y5, ([], ((0 : Int), ((0 : Int), ((0 : Int), ((0 : Int), ((0 : Int), (0 : Int))))))))), true)))
theorem ok19 (N : Nat) (a0 : Int) (a1 : (List (ByteArray × Int))) {r : (Int × ((List (ByteArray × Int)) × ((List (Int × ((List (Int × (ByteArray × (Int × (Int × (Int × (Bool × (List Int)))))))) × ((List (Int × (ByteArray × (Int × (Int × (Int × (Bool × (List Int)))))))) × (Int × Int))))) × (Int × (Int × (Int × (Int × (Int × Int)))))))) × Bool} (h : F19 N a0 a1 = some r) : Con Go.Proofs.Try.prog 19 [I a0, .lf (.v (.sl Y93) a1)] [.agg [.v (.int .i64) r.1.1, .own Y93 r.1.2.1 .dp, .own Y151 r.1.2.2.1 .dp, .v (.int .i64) r.1.2.2.2.1, .v (.int .i64) r.1.2.2.2.2.1, .v (.int .i64) r.1.2.2.2.2.2.1, .v (.int .i64) r.1.2.2.2.2.2.2.1, .v (.int .i64) r.1.2.2.2.2.2.2.2.1, .v (.int .i64) r.1.2.2.2.2.2.2.2.2], .lf (.v .bool r.2)] := by
  refine ctr [.agg [.v (.int .i64), .own Y93 .dp, .own Y151 .dp, .v (.int .i64), .v (.int .i64), .v (.int .i64), .v (.int .i64), .v (.int .i64), .v (.int .i64)], .lf (.v .bool)] T_ok Go.Proofs.Try.func19 rfl fun w0 E0 => ?_
  unfold F19 at h
  show VW _ _ _ _ _ (retQ _ _ _ _) _
  refine sR T_ok [0, 1, 4] [0] ⟨[(0, I a0), (1, .lf (.v (.sl Y93) a1)), (4, .lf (.ptr 0 0 0 0))], [bx [.v (.int .i64) (0 : Int), .nil, .nil, .v (.int .i64) (0 : Int), .v (.int .i64) (0 : Int), .v (.int .i64) (0 : Int), .v (.int .i64) (0 : Int), .v (.int .i64) (0 : Int), .v (.int .i64) (0 : Int)] 32]⟩ (tn 2) ?_
  refine VW.seq ?_
  refine VW.seq ?_
  refine VW.region ?_
  refine sG T_ok 1 [0, 1, 4, 6] [0] ⟨[(0, I a0), (1, .lf (.v (.sl Y93) a1)), (4, .lf (.ptr 0 0 0 0)), (6, I a0)], [bx [.v (.int .i64) (0 : Int), .nil, .nil, .v (.int .i64) (0 : Int), .v (.int .i64) (0 : Int), .v (.int .i64) (0 : Int), .v (.int .i64) (0 : Int), .v (.int .i64) (0 : Int), .v (.int .i64) (0 : Int)] 32]⟩ (tn 1) ?_
  obtain ⟨y3, hy, h⟩ := andO_some h
  refine cal false [.t (.int .i64)] [] (some 7) T_ok (ok75 N _ hy) ?_
  refine sG T_ok 2 [0, 1, 4, 9] [0] ⟨[(0, I a0), (1, .lf (.v (.sl Y93) a1)), (4, .lf (.ptr 0 0 0 0)), (9, B (!y3))], [bx [.v (.int .i64) (0 : Int), .nil, .nil, .v (.int .i64) (0 : Int), .v (.int .i64) (0 : Int), .v (.int .i64) (0 : Int), .v (.int .i64) (0 : Int), .v (.int .i64) (0 : Int), .v (.int .i64) (0 : Int)] 32]⟩ (tn 2) ?_
  refine spB 9 h (fun h => ?_) (fun h => ?_)
  · refine sN T_ok [0, 1, 4, 13] [0] ⟨[(0, I a0), (1, .lf (.v (.sl Y93) a1)), (4, .lf (.ptr 0 0 0 0)), (13, B true)], [bx [.v (.int .i64) (0 : Int), .nil, .nil, .v (.int .i64) (0 : Int), .v (.int .i64) (0 : Int), .v (.int .i64) (0 : Int), .v (.int .i64) (0 : Int), .v (.int .i64) (0 : Int), .v (.int .i64) (0 : Int)] 32]⟩ (tn 4) ?_
    refine VW.cond (b := true) (by kernel_rfl) (fun _ => ?_) (fun h' => nomatch h')
    refine sR T_ok [4, 5] [0] ⟨[(4, .lf (.ptr 0 0 0 0)), (5, B false)], [bx [.v (.int .i64) (0 : Int), .nil, .nil, .v (.int .i64) (0 : Int), .v (.int .i64) (0 : Int), .v (.int .i64) (0 : Int), .v (.int .i64) (0 : Int), .v (.int .i64) (0 : Int), .v (.int .i64) (0 : Int)] 32]⟩ (tn 3) ?_
    refine VW.ret ?_
    replace h := Option.some.inj h
    subst h
    exact rt [none, none]
  refine sG T_ok 1 [0, 1, 4, 9, 10] [0] ⟨[(0, I a0), (1, .lf (.v (.sl Y93) a1)), (4, .lf (.ptr 0 0 0 0)), (9, B false), (10, .lf (.v (.sl Y93) a1))], [bx [.v (.int .i64) (0 : Int), .nil, .nil, .v (.int .i64) (0 : Int), .v (.int .i64) (0 : Int), .v (.int .i64) (0 : Int), .v (.int .i64) (0 : Int), .v (.int .i64) (0 : Int), .v (.int .i64) (0 : Int)] 32]⟩ (tn 1) ?_
  refine VO.on (j := 3) (want := false) (d := 9) (b := false) rfl rfl rfl (by kernel_rfl) rfl ?_
  obtain ⟨y4, hy, h⟩ := andO_some h
  refine cal false [.t (.sl Y93)] [] (some 11) T_ok (ok76 N _ hy) ?_
  refine sN T_ok [0, 1, 4, 13] [0] ⟨[(0, I a0), (1, .lf (.v (.sl Y93) a1)), (4, .lf (.ptr 0 0 0 0)), (13, B (!y4))], [bx [.v (.int .i64) (0 : Int), .nil, .nil, .v (.int .i64) (0 : Int), .v (.int .i64) (0 : Int), .v (.int .i64) (0 : Int), .v (.int .i64) (0 : Int), .v (.int .i64) (0 : Int), .v (.int .i64) (0 : Int)] 32]⟩ (tn 2) ?_
  refine cnd h (fun h => ?_) (fun h => ?_)
  · refine sR T_ok [4, 5] [0] ⟨[(4, .lf (.ptr 0 0 0 0)), (5, B false)], [bx [.v (.int .i64) (0 : Int), .nil, .nil, .v (.int .i64) (0 : Int), .v (.int .i64) (0 : Int), .v (.int .i64) (0 : Int), .v (.int .i64) (0 : Int), .v (.int .i64) (0 : Int), .v (.int .i64) (0 : Int)] 32]⟩ (tn 3) ?_
    refine VW.ret ?_
    replace h := Option.some.inj h
    subst h
    exact rt [none, none]
  refine VW.skip ?_
  refine VW.seq ?_
  refine VW.region ?_
  refine sG T_ok 2 [4, 15, 16] [0] ⟨[(4, .lf (.ptr 0 0 0 0)), (15, I a0), (16, .lf (.v (.sl Y93) a1))], [bx [.v (.int .i64) (0 : Int), .nil, .nil, .v (.int .i64) (0 : Int), .v (.int .i64) (0 : Int), .v (.int .i64) (0 : Int), .v (.int .i64) (0 : Int), .v (.int .i64) (0 : Int), .v (.int .i64) (0 : Int)] 32]⟩ (tn 2) ?_
  obtain ⟨y5, hy, h⟩ := andO_some h
  refine cal false [.t (.sl Y93)] [] (some 17) T_ok (ok77 N _ hy) ?_
  refine sN T_ok [4, 5] [0, 1] ⟨[(4, .lf (.ptr 0 0 0 0)), (5, B true)], [bx [.v (.int .i64) a0, .hd 1 0 none, .nil, .v (.int .i64) (0 : Int), .v (.int .i64) (0 : Int), .v (.int .i64) (0 : Int), .v (.int .i64) (0 : Int), .v (.int .i64) (0 : Int), .v (.int .i64) (0 : Int)] 32, ar 0 Y93 y5 .dp]⟩ (tn 3) ?_
  refine VW.ret ?_
  replace h := Option.some.inj h
  subst h
  exact rt [some 1, none]

/- loop.example/g00844/laws.eqTable -/
def F79 (N : Nat) (a0 : (ByteArray × Int)) (a1 : (ByteArray × Int)) : Option (Bool) :=
  cond (!(a0.1.toList == a1.1.toList)) (some false) (cond (a0.2 != a1.2) (some false) (some true))
theorem ok79 (N : Nat) (a0 : (ByteArray × Int)) (a1 : (ByteArray × Int)) {r : Bool} (h : F79 N a0 a1 = some r) : Con Go.Proofs.Try.prog 79 [.agg [.v .str a0.1, .v (.int .i64) a0.2], .agg [.v .str a1.1, .v (.int .i64) a1.2]] [.lf (.v .bool r)] := by
  refine ctr [.lf (.v .bool)] T_ok Go.Proofs.Try.func79 rfl fun w0 E0 => ?_
  unfold F79 at h
  show VW _ _ _ _ _ (retQ _ _ _ _) _
  refine sR T_ok [2, 3] [0, 1] ⟨[(2, .lf (.ptr 0 0 0 0)), (3, .lf (.ptr 1 0 0 0))], [bx [.v .str a0.1, .v (.int .i64) a0.2] 98, bx [.v .str a1.1, .v (.int .i64) a1.2] 98]⟩ (tn 3) ?_
  refine VW.seq ?_
  refine sR T_ok [2, 3, 9] [0, 1] ⟨[(2, .lf (.ptr 0 0 0 0)), (3, .lf (.ptr 1 0 0 0)), (9, B (!(a0.1.toList == a1.1.toList)))], [bx [.v .str a0.1, .v (.int .i64) a0.2] 98, bx [.v .str a1.1, .v (.int .i64) a1.2] 98]⟩ (tn 5) ?_
  refine cnd h (fun h => ?_) (fun h => ?_)
  · refine sR T_ok [4] [] ⟨[(4, B false)], []⟩ (tn 1) ?_
    refine VW.ret ?_
    replace h := Option.some.inj h
    subst h
    exact rt []
  refine VW.skip ?_
  refine VW.seq ?_
  refine sR T_ok [14] [] ⟨[(14, B (a0.2 != a1.2))], []⟩ (tn 5) ?_
  refine cnd h (fun h => ?_) (fun h => ?_)
  · refine sR T_ok [4] [] ⟨[(4, B false)], []⟩ (tn 1) ?_
    refine VW.ret ?_
    replace h := Option.some.inj h
    subst h
    exact rt []
  refine VW.skip ?_
  refine sR T_ok [4] [] ⟨[(4, B true)], []⟩ (tn 1) ?_
  refine VW.ret ?_
  replace h := Option.some.inj h
  subst h
  exact rt []

/- loop.example/g00844/laws.eqTableS -/
def F21_j0 (N : Nat) : Option (Bool) :=
  some true
def F21_l0_b (N : Nat) (a0 : (List (ByteArray × Int))) (a1 : (List (ByteArray × Int))) (nx35 : Int → Option (Bool)) (x28 : Int) : Option (Bool) :=
  cond (decide (x28 < (a0.length : Int))) (gd (InR x28 a0.length) (gd (InR x28 a1.length) (andO (F79 N (a0.getD x28.toNat (Ty.dflt Y93)) (a1.getD x28.toNat (Ty.dflt Y93))) fun y41 => cond (!y41) (some false) (nx35 (IntKind.i64.wrap (x28 + (1 : Int))))))) (F21_j0 N)
def F21_l0 (N : Nat) (a0 : (List (ByteArray × Int))) (a1 : (List (ByteArray × Int))) : Nat → Int → Option (Bool) := loopF (F21_l0_b N a0 a1) (fun _ => none)
theorem F21_l0_s (N : Nat) (a0 : (List (ByteArray × Int))) (a1 : (List (ByteArray × Int))) {k : Nat} (hk : 0 < k) (x28 : Int) : F21_l0 N a0 a1 k x28 = F21_l0_b N a0 a1 (F21_l0 N a0 a1 (k - 1)) x28 := by
  cases k with
  | zero => exact absurd hk (Nat.lt_irrefl 0)
  | succ m => rfl
def F21 (N : Nat) (a0 : (List (ByteArray × Int))) (a1 : (List (ByteArray × Int))) : Option (Bool) :=
  cond ((a0.length : Int) != (a1.length : Int)) (some false) (F21_l0 N a0 a1 N (0 : Int))
theorem ok21 (N : Nat) (a0 : (List (ByteArray × Int))) (a1 : (List (ByteArray × Int))) {r : Bool} (h : F21 N a0 a1 = some r) : Con Go.Proofs.Try.prog 21 [.lf (.v (.sl Y93) a0), .lf (.v (.sl Y93) a1)] [.lf (.v .bool r)] := by
  refine ctr [.lf (.v .bool)] T_ok Go.Proofs.Try.func21 rfl fun w0 E0 => ?_
  unfold F21 at h
  show VW _ _ _ _ _ (retQ _ _ _ _) _
  refine sR T_ok [0, 1] [] ⟨[(0, .lf (.v (.sl Y93) a0)), (1, .lf (.v (.sl Y93) a1))], []⟩ (tn 1) ?_
  refine VW.seq ?_
  refine sR T_ok [0, 1, 10] [] ⟨[(0, .lf (.v (.sl Y93) a0)), (1, .lf (.v (.sl Y93) a1)), (10, B ((a0.length : Int) != (a1.length : Int)))], []⟩ (tn 5) ?_
  refine cnd h (fun h => ?_) (fun h => ?_)
  · refine sR T_ok [4] [] ⟨[(4, B false)], []⟩ (tn 1) ?_
    refine VW.ret ?_
    replace h := Option.some.inj h
    subst h
    exact rt []
  refine VW.skip ?_
  refine VW.join (fun s => s = ⟨[], []⟩ ∧ F21_j0 N = some r) ?_ ?_
  · refine sR T_ok [0, 1, 5] [] ⟨[(0, .lf (.v (.sl Y93) a0)), (1, .lf (.v (.sl Y93) a1)), (5, I (0 : Int))], []⟩ (tn 1) ?_
    refine VW.block ?_
    refine lop (fun k s => ∃ (x28 : Int), s = ⟨[(0, .lf (.v (.sl Y93) a0)), (1, .lf (.v (.sl Y93) a1)), (5, I x28)], []⟩ ∧ F21_l0 N a0 a1 k x28 = some r) N [.ren [0, 1, 5] []] ⟨(0 : Int), rfl, h⟩ ?_
    rintro k35 s ⟨x28, rfl, h⟩
    cases k35 with
    | zero => cases show none = some r from h
    | succ k35 =>
      replace h : F21_l0_b N a0 a1 (F21_l0 N a0 a1 k35) x28 = some r := h
      unfold F21_l0_b at h
      refine VW.seq ?_
      refine sR T_ok [0, 1, 5, 14] [] ⟨[(0, .lf (.v (.sl Y93) a0)), (1, .lf (.v (.sl Y93) a1)), (5, I x28), (14, B (decide (x28 < (a0.length : Int))))], []⟩ (tn 4) ?_
      refine cnd h (fun h => ?_) (fun h => ?_)
      · refine VW.skip ?_
        refine VW.seq ?_
        refine VW.block ?_
        refine VW.seq ?_
        obtain ⟨g39, h⟩ := gd_some h
        obtain ⟨g40, h⟩ := gd_some h
        obtain ⟨y41, hy41, h⟩ := andO_some h
        refine VW.drawn (by kernel_rfl) [some (17, .lf (.v (.sl Y93) a0)), some (18, I x28), some (19, .lf (.fp Y93 (a0.getD x28.toNat (Ty.dflt Y93)) 0)), some (20, .agg [.v .str ((a0.getD x28.toNat (Ty.dflt Y93)).1), .v (.int .i64) ((a0.getD x28.toNat (Ty.dflt Y93)).2)]), some (21, .lf (.v (.sl Y93) a1)), some (22, I x28), some (23, .lf (.fp Y93 (a1.getD x28.toNat (Ty.dflt Y93)) 0)), some (24, .agg [.v .str ((a1.getD x28.toNat (Ty.dflt Y93)).1), .v (.int .i64) ((a1.getD x28.toNat (Ty.dflt Y93)).2)]), some (25, B y41), some (26, B (!y41))] [] [[]] [(0, 0), (1, 0), (2, 0), (3, 0), (4, 0), (5, 0), (6, 0), (7, 0), (8, 0), (9, 0)] [0, 1, 5, 26] [] (s' := ⟨[(0, .lf (.v (.sl Y93) a0)), (1, .lf (.v (.sl Y93) a1)), (5, I x28), (26, B (!y41))], []⟩) (by kernel_rfl) (by kernel_rfl) ⟨⟨_, rfl, Stp.ev T_ok (m := .dp) (φ := True) (by kernel_rfl) trivial⟩,
    ⟨_, rfl, Stp.ev T_ok (m := .dp) (φ := True) (by kernel_rfl) trivial⟩,
    ⟨_, rfl, Stp.ev T_ok (m := .dp) (φ := InR x28 a0.length) (by kernel_rfl) g39⟩,
    ⟨_, rfl, Stp.ev T_ok (m := .dp) (φ := True) (by kernel_rfl) trivial⟩,
    ⟨_, rfl, Stp.ev T_ok (m := .dp) (φ := True) (by kernel_rfl) trivial⟩,
    ⟨_, rfl, Stp.ev T_ok (m := .dp) (φ := True) (by kernel_rfl) trivial⟩,
    ⟨_, rfl, Stp.ev T_ok (m := .dp) (φ := InR x28 a1.length) (by kernel_rfl) g40⟩,
    ⟨_, rfl, Stp.ev T_ok (m := .dp) (φ := True) (by kernel_rfl) trivial⟩,
    ⟨_, rfl, Stp.eq (Stp.call false [.t Y93, .t Y93] [] T_ok (d := some 25) (by kernel_rfl) (ok79 N _ _ hy41) rfl) (by kernel_rfl) (by kernel_rfl)⟩,
    ⟨_, rfl, Stp.ev T_ok (m := .dp) (φ := True) (by kernel_rfl) trivial⟩, trivial⟩ (by kernel_rfl) ?_
        refine cnd h (fun h => ?_) (fun h => ?_)
        · refine sR T_ok [4] [] ⟨[(4, B false)], []⟩ (tn 1) ?_
          refine VW.ret ?_
          replace h := Option.some.inj h
          subst h
          exact rt []
        refine VW.skip ?_
        refine rR T_ok [0, 1, 5] [] ⟨[(0, .lf (.v (.sl Y93) a0)), (1, .lf (.v (.sl Y93) a1)), (5, I (IntKind.i64.wrap (x28 + (1 : Int))))], []⟩ (tn 3) ?_
        exact aro [.ren [0, 1, 5] []] ⟨(IntKind.i64.wrap (x28 + (1 : Int))), rfl, h⟩
      refine VW.exit ?_
      exact arv [.ren [] []] ⟨rfl, h⟩
  rintro s ⟨rfl, h⟩
  unfold F21_j0 at h
  refine sR T_ok [4] [] ⟨[(4, B true)], []⟩ (tn 1) ?_
  refine VW.ret ?_
  replace h := Option.some.inj h
  subst h
  exact rt []

/- loop.example/g00844/laws.eqIntS -/
def F32_j0 (N : Nat) : Option (Bool) :=
  some true
def F32_l0_b (N : Nat) (a0 : (List Int)) (a1 : (List Int)) (nx25 : Int → Option (Bool)) (x20 : Int) : Option (Bool) :=
  cond (decide (x20 < (a0.length : Int))) (gd (InR x20 a0.length) (gd (InR x20 a1.length) (cond ((a0.getD x20.toNat (Ty.dflt (.int .i64))) != (a1.getD x20.toNat (Ty.dflt (.int .i64)))) (some false) (nx25 (IntKind.i64.wrap (x20 + (1 : Int))))))) (F32_j0 N)
def F32_l0 (N : Nat) (a0 : (List Int)) (a1 : (List Int)) : Nat → Int → Option (Bool) := loopF (F32_l0_b N a0 a1) (fun _ => none)
theorem F32_l0_s (N : Nat) (a0 : (List Int)) (a1 : (List Int)) {k : Nat} (hk : 0 < k) (x20 : Int) : F32_l0 N a0 a1 k x20 = F32_l0_b N a0 a1 (F32_l0 N a0 a1 (k - 1)) x20 := by
  cases k with
  | zero => exact absurd hk (Nat.lt_irrefl 0)
  | succ m => rfl
def F32 (N : Nat) (a0 : (List Int)) (a1 : (List Int)) : Option (Bool) :=
  cond ((a0.length : Int) != (a1.length : Int)) (some false) (F32_l0 N a0 a1 N (0 : Int))
theorem ok32 (N : Nat) (a0 : (List Int)) (a1 : (List Int)) {r : Bool} (h : F32 N a0 a1 = some r) : Con Go.Proofs.Try.prog 32 [.lf (.v (.sl (.int .i64)) a0), .lf (.v (.sl (.int .i64)) a1)] [.lf (.v .bool r)] := by
  refine ctr [.lf (.v .bool)] T_ok Go.Proofs.Try.func32 rfl fun w0 E0 => ?_
  unfold F32 at h
  show VW _ _ _ _ _ (retQ _ _ _ _) _
  refine sR T_ok [0, 1] [] ⟨[(0, .lf (.v (.sl (.int .i64)) a0)), (1, .lf (.v (.sl (.int .i64)) a1))], []⟩ (tn 1) ?_
  refine VW.seq ?_
  refine sR T_ok [0, 1, 10] [] ⟨[(0, .lf (.v (.sl (.int .i64)) a0)), (1, .lf (.v (.sl (.int .i64)) a1)), (10, B ((a0.length : Int) != (a1.length : Int)))], []⟩ (tn 5) ?_
  refine cnd h (fun h => ?_) (fun h => ?_)
  · refine sR T_ok [4] [] ⟨[(4, B false)], []⟩ (tn 1) ?_
    refine VW.ret ?_
    replace h := Option.some.inj h
    subst h
    exact rt []
  refine VW.skip ?_
  refine VW.join (fun s => s = ⟨[], []⟩ ∧ F32_j0 N = some r) ?_ ?_
  · refine sR T_ok [0, 1, 5] [] ⟨[(0, .lf (.v (.sl (.int .i64)) a0)), (1, .lf (.v (.sl (.int .i64)) a1)), (5, I (0 : Int))], []⟩ (tn 1) ?_
    refine VW.block ?_
    refine lop (fun k s => ∃ (x20 : Int), s = ⟨[(0, .lf (.v (.sl (.int .i64)) a0)), (1, .lf (.v (.sl (.int .i64)) a1)), (5, I x20)], []⟩ ∧ F32_l0 N a0 a1 k x20 = some r) N [.ren [0, 1, 5] []] ⟨(0 : Int), rfl, h⟩ ?_
    rintro k25 s ⟨x20, rfl, h⟩
    cases k25 with
    | zero => cases show none = some r from h
    | succ k25 =>
      replace h : F32_l0_b N a0 a1 (F32_l0 N a0 a1 k25) x20 = some r := h
      unfold F32_l0_b at h
      refine VW.seq ?_
      refine sR T_ok [0, 1, 5, 14] [] ⟨[(0, .lf (.v (.sl (.int .i64)) a0)), (1, .lf (.v (.sl (.int .i64)) a1)), (5, I x20), (14, B (decide (x20 < (a0.length : Int))))], []⟩ (tn 4) ?_
      refine cnd h (fun h => ?_) (fun h => ?_)
      · refine VW.skip ?_
        refine VW.seq ?_
        refine VW.block ?_
        refine VW.seq ?_
        obtain ⟨g28, h⟩ := gd_some h
        obtain ⟨g29, h⟩ := gd_some h
        refine VW.drawn (by kernel_rfl) [some (17, .lf (.v (.sl (.int .i64)) a0)), some (18, I x20), some (19, .lf (.fp (.int .i64) (a0.getD x20.toNat (Ty.dflt (.int .i64))) 0)), some (20, I (a0.getD x20.toNat (Ty.dflt (.int .i64)))), some (21, .lf (.v (.sl (.int .i64)) a1)), some (22, I x20), some (23, .lf (.fp (.int .i64) (a1.getD x20.toNat (Ty.dflt (.int .i64))) 0)), some (24, I (a1.getD x20.toNat (Ty.dflt (.int .i64)))), some (25, B ((a0.getD x20.toNat (Ty.dflt (.int .i64))) != (a1.getD x20.toNat (Ty.dflt (.int .i64)))))] [] [[]] [(0, 0), (1, 0), (2, 0), (3, 0), (4, 0), (5, 0), (6, 0), (7, 0), (8, 0)] [0, 1, 5, 25] [] (s' := ⟨[(0, .lf (.v (.sl (.int .i64)) a0)), (1, .lf (.v (.sl (.int .i64)) a1)), (5, I x20), (25, B ((a0.getD x20.toNat (Ty.dflt (.int .i64))) != (a1.getD x20.toNat (Ty.dflt (.int .i64)))))], []⟩) (by kernel_rfl) (by kernel_rfl) ⟨⟨_, rfl, Stp.ev T_ok (m := .dp) (φ := True) (by kernel_rfl) trivial⟩,
    ⟨_, rfl, Stp.ev T_ok (m := .dp) (φ := True) (by kernel_rfl) trivial⟩,
    ⟨_, rfl, Stp.ev T_ok (m := .dp) (φ := InR x20 a0.length) (by kernel_rfl) g28⟩,
    ⟨_, rfl, Stp.ev T_ok (m := .dp) (φ := True) (by kernel_rfl) trivial⟩,
    ⟨_, rfl, Stp.ev T_ok (m := .dp) (φ := True) (by kernel_rfl) trivial⟩,
    ⟨_, rfl, Stp.ev T_ok (m := .dp) (φ := True) (by kernel_rfl) trivial⟩,
    ⟨_, rfl, Stp.ev T_ok (m := .dp) (φ := InR x20 a1.length) (by kernel_rfl) g29⟩,
    ⟨_, rfl, Stp.ev T_ok (m := .dp) (φ := True) (by kernel_rfl) trivial⟩,
    ⟨_, rfl, Stp.ev T_ok (m := .dp) (φ := True) (by kernel_rfl) trivial⟩, trivial⟩ (by kernel_rfl) ?_
        refine cnd h (fun h => ?_) (fun h => ?_)
        · refine sR T_ok [4] [] ⟨[(4, B false)], []⟩ (tn 1) ?_
          refine VW.ret ?_
          replace h := Option.some.inj h
          subst h
          exact rt []
        refine VW.skip ?_
        refine rR T_ok [0, 1, 5] [] ⟨[(0, .lf (.v (.sl (.int .i64)) a0)), (1, .lf (.v (.sl (.int .i64)) a1)), (5, I (IntKind.i64.wrap (x20 + (1 : Int))))], []⟩ (tn 3) ?_
        exact aro [.ren [0, 1, 5] []] ⟨(IntKind.i64.wrap (x20 + (1 : Int))), rfl, h⟩
      refine VW.exit ?_
      exact arv [.ren [] []] ⟨rfl, h⟩
  rintro s ⟨rfl, h⟩
  unfold F32_j0 at h
  refine sR T_ok [4] [] ⟨[(4, B true)], []⟩ (tn 1) ?_
  refine VW.ret ?_
  replace h := Option.some.inj h
  subst h
  exact rt []

/- loop.example/g00844/laws.eqNode -/
def F85 (N : Nat) (a0 : (Int × (ByteArray × (Int × (Int × (Int × (Bool × (List Int)))))))) (a1 : (Int × (ByteArray × (Int × (Int × (Int × (Bool × (List Int)))))))) : Option (Bool) :=
  cond (a0.1 != a1.1) (some false) (cond (!(a0.2.1.toList == a1.2.1.toList)) (some false) (cond (a0.2.2.1 != a1.2.2.1) (some false) (cond (a0.2.2.2.1 != a1.2.2.2.1) (some false) (cond (a0.2.2.2.2.1 != a1.2.2.2.2.1) (some false) (cond (!(a0.2.2.2.2.2.1 == a1.2.2.2.2.2.1)) (some false) (andO (F32 N a0.2.2.2.2.2.2 a1.2.2.2.2.2.2) fun y2 => cond (!y2) (some false) (some true)))))))
theorem ok85 (N : Nat) (a0 : (Int × (ByteArray × (Int × (Int × (Int × (Bool × (List Int)))))))) (a1 : (Int × (ByteArray × (Int × (Int × (Int × (Bool × (List Int)))))))) {r : Bool} (h : F85 N a0 a1 = some r) : Con Go.Proofs.Try.prog 85 [.agg [.v (.int .i64) a0.1, .v .str a0.2.1, .v (.int .i64) a0.2.2.1, .v (.int .i64) a0.2.2.2.1, .v (.int .i64) a0.2.2.2.2.1, .v .bool a0.2.2.2.2.2.1, .v (.sl (.int .i64)) a0.2.2.2.2.2.2], .agg [.v (.int .i64) a1.1, .v .str a1.2.1, .v (.int .i64) a1.2.2.1, .v (.int .i64) a1.2.2.2.1, .v (.int .i64) a1.2.2.2.2.1, .v .bool a1.2.2.2.2.2.1, .v (.sl (.int .i64)) a1.2.2.2.2.2.2]] [.lf (.v .bool r)] := by
  refine ctr [.lf (.v .bool)] T_ok Go.Proofs.Try.func85 rfl fun w0 E0 => ?_
  unfold F85 at h
  show VW _ _ _ _ _ (retQ _ _ _ _) _
  refine sR T_ok [2, 3] [0, 1] ⟨[(2, .lf (.ptr 0 0 0 0)), (3, .lf (.ptr 1 0 0 0))], [bx [.v (.int .i64) a0.1, .v .str a0.2.1, .v (.int .i64) a0.2.2.1, .v (.int .i64) a0.2.2.2.1, .v (.int .i64) a0.2.2.2.2.1, .v .bool a0.2.2.2.2.2.1, .v (.sl (.int .i64)) a0.2.2.2.2.2.2] 107, bx [.v (.int .i64) a1.1, .v .str a1.2.1, .v (.int .i64) a1.2.2.1, .v (.int .i64) a1.2.2.2.1, .v (.int .i64) a1.2.2.2.2.1, .v .bool a1.2.2.2.2.2.1, .v (.sl (.int .i64)) a1.2.2.2.2.2.2] 107]⟩ (tn 3) ?_
  refine VW.seq ?_
  refine sR T_ok [2, 3, 9] [0, 1] ⟨[(2, .lf (.ptr 0 0 0 0)), (3, .lf (.ptr 1 0 0 0)), (9, B (a0.1 != a1.1))], [bx [.v (.int .i64) a0.1, .v .str a0.2.1, .v (.int .i64) a0.2.2.1, .v (.int .i64) a0.2.2.2.1, .v (.int .i64) a0.2.2.2.2.1, .v .bool a0.2.2.2.2.2.1, .v (.sl (.int .i64)) a0.2.2.2.2.2.2] 107, bx [.v (.int .i64) a1.1, .v .str a1.2.1, .v (.int .i64) a1.2.2.1, .v (.int .i64) a1.2.2.2.1, .v (.int .i64) a1.2.2.2.2.1, .v .bool a1.2.2.2.2.2.1, .v (.sl (.int .i64)) a1.2.2.2.2.2.2] 107]⟩ (tn 5) ?_
  refine cnd h (fun h => ?_) (fun h => ?_)
  · refine sR T_ok [4] [] ⟨[(4, B false)], []⟩ (tn 1) ?_
    refine VW.ret ?_
    replace h := Option.some.inj h
    subst h
    exact rt []
  refine VW.skip ?_
  refine VW.seq ?_
  refine sR T_ok [2, 3, 14] [0, 1] ⟨[(2, .lf (.ptr 0 0 0 0)), (3, .lf (.ptr 1 0 0 0)), (14, B (!(a0.2.1.toList == a1.2.1.toList)))], [bx [.v (.int .i64) a0.1, .v .str a0.2.1, .v (.int .i64) a0.2.2.1, .v (.int .i64) a0.2.2.2.1, .v (.int .i64) a0.2.2.2.2.1, .v .bool a0.2.2.2.2.2.1, .v (.sl (.int .i64)) a0.2.2.2.2.2.2] 107, bx [.v (.int .i64) a1.1, .v .str a1.2.1, .v (.int .i64) a1.2.2.1, .v (.int .i64) a1.2.2.2.1, .v (.int .i64) a1.2.2.2.2.1, .v .bool a1.2.2.2.2.2.1, .v (.sl (.int .i64)) a1.2.2.2.2.2.2] 107]⟩ (tn 5) ?_
  refine cnd h (fun h => ?_) (fun h => ?_)
  · refine sR T_ok [4] [] ⟨[(4, B false)], []⟩ (tn 1) ?_
    refine VW.ret ?_
    replace h := Option.some.inj h
    subst h
    exact rt []
  refine VW.skip ?_
  refine VW.seq ?_
  refine sR T_ok [2, 3, 19] [0, 1] ⟨[(2, .lf (.ptr 0 0 0 0)), (3, .lf (.ptr 1 0 0 0)), (19, B (a0.2.2.1 != a1.2.2.1))], [bx [.v (.int .i64) a0.1, .v .str a0.2.1, .v (.int .i64) a0.2.2.1, .v (.int .i64) a0.2.2.2.1, .v (.int .i64) a0.2.2.2.2.1, .v .bool a0.2.2.2.2.2.1, .v (.sl (.int .i64)) a0.2.2.2.2.2.2] 107, bx [.v (.int .i64) a1.1, .v .str a1.2.1, .v (.int .i64) a1.2.2.1, .v (.int .i64) a1.2.2.2.1, .v (.int .i64) a1.2.2.2.2.1, .v .bool a1.2.2.2.2.2.1, .v (.sl (.int .i64)) a1.2.2.2.2.2.2] 107]⟩ (tn 5) ?_
  refine cnd h (fun h => ?_) (fun h => ?_)
  · refine sR T_ok [4] [] ⟨[(4, B false)], []⟩ (tn 1) ?_
    refine VW.ret ?_
    replace h := Option.some.inj h
    subst h
    exact rt []
  refine VW.skip ?_
  refine VW.seq ?_
  refine sR T_ok [2, 3, 24] [0, 1] ⟨[(2, .lf (.ptr 0 0 0 0)), (3, .lf (.ptr 1 0 0 0)), (24, B (a0.2.2.2.1 != a1.2.2.2.1))], [bx [.v (.int .i64) a0.1, .v .str a0.2.1, .v (.int .i64) a0.2.2.1, .v (.int .i64) a0.2.2.2.1, .v (.int .i64) a0.2.2.2.2.1, .v .bool a0.2.2.2.2.2.1, .v (.sl (.int .i64)) a0.2.2.2.2.2.2] 107, bx [.v (.int .i64) a1.1, .v .str a1.2.1, .v (.int .i64) a1.2.2.1, .v (.int .i64) a1.2.2.2.1, .v (.int .i64) a1.2.2.2.2.1, .v .bool a1.2.2.2.2.2.1, .v (.sl (.int .i64)) a1.2.2.2.2.2.2] 107]⟩ (tn 5) ?_
  refine cnd h (fun h => ?_) (fun h => ?_)
  · refine sR T_ok [4] [] ⟨[(4, B false)], []⟩ (tn 1) ?_
    refine VW.ret ?_
    replace h := Option.some.inj h
    subst h
    exact rt []
  refine VW.skip ?_
  refine VW.seq ?_
  refine sR T_ok [2, 3, 29] [0, 1] ⟨[(2, .lf (.ptr 0 0 0 0)), (3, .lf (.ptr 1 0 0 0)), (29, B (a0.2.2.2.2.1 != a1.2.2.2.2.1))], [bx [.v (.int .i64) a0.1, .v .str a0.2.1, .v (.int .i64) a0.2.2.1, .v (.int .i64) a0.2.2.2.1, .v (.int .i64) a0.2.2.2.2.1, .v .bool a0.2.2.2.2.2.1, .v (.sl (.int .i64)) a0.2.2.2.2.2.2] 107, bx [.v (.int .i64) a1.1, .v .str a1.2.1, .v (.int .i64) a1.2.2.1, .v (.int .i64) a1.2.2.2.1, .v (.int .i64) a1.2.2.2.2.1, .v .bool a1.2.2.2.2.2.1, .v (.sl (.int .i64)) a1.2.2.2.2.2.2] 107]⟩ (tn 5) ?_
  refine cnd h (fun h => ?_) (fun h => ?_)
  · refine sR T_ok [4] [] ⟨[(4, B false)], []⟩ (tn 1) ?_
    refine VW.ret ?_
    replace h := Option.some.inj h
    subst h
    exact rt []
  refine VW.skip ?_
  refine VW.seq ?_
  refine sR T_ok [2, 3, 34] [0, 1] ⟨[(2, .lf (.ptr 0 0 0 0)), (3, .lf (.ptr 1 0 0 0)), (34, B (!(a0.2.2.2.2.2.1 == a1.2.2.2.2.2.1)))], [bx [.v (.int .i64) a0.1, .v .str a0.2.1, .v (.int .i64) a0.2.2.1, .v (.int .i64) a0.2.2.2.1, .v (.int .i64) a0.2.2.2.2.1, .v .bool a0.2.2.2.2.2.1, .v (.sl (.int .i64)) a0.2.2.2.2.2.2] 107, bx [.v (.int .i64) a1.1, .v .str a1.2.1, .v (.int .i64) a1.2.2.1, .v (.int .i64) a1.2.2.2.1, .v (.int .i64) a1.2.2.2.2.1, .v .bool a1.2.2.2.2.2.1, .v (.sl (.int .i64)) a1.2.2.2.2.2.2] 107]⟩ (tn 5) ?_
  refine cnd h (fun h => ?_) (fun h => ?_)
  · refine sR T_ok [4] [] ⟨[(4, B false)], []⟩ (tn 1) ?_
    refine VW.ret ?_
    replace h := Option.some.inj h
    subst h
    exact rt []
  refine VW.skip ?_
  refine VW.seq ?_
  refine VW.seq ?_
  refine VW.region ?_
  refine sG T_ok 4 [36, 38] [] ⟨[(36, .lf (.v (.sl (.int .i64)) a0.2.2.2.2.2.2)), (38, .lf (.v (.sl (.int .i64)) a1.2.2.2.2.2.2))], []⟩ (tn 4) ?_
  obtain ⟨y2, hy, h⟩ := andO_some h
  refine cal false [.t (.sl (.int .i64)), .t (.sl (.int .i64))] [] (some 39) T_ok (ok32 N _ _ hy) ?_
  refine sN T_ok [40] [] ⟨[(40, B (!y2))], []⟩ (tn 1) ?_
  refine cnd h (fun h => ?_) (fun h => ?_)
  · refine sR T_ok [4] [] ⟨[(4, B false)], []⟩ (tn 1) ?_
    refine VW.ret ?_
    replace h := Option.some.inj h
    subst h
    exact rt []
  refine VW.skip ?_
  refine sR T_ok [4] [] ⟨[(4, B true)], []⟩ (tn 1) ?_
  refine VW.ret ?_
  replace h := Option.some.inj h
  subst h
  exact rt []

/- loop.example/g00844/laws.eqNodeS -/
def F29_j0 (N : Nat) : Option (Bool) :=
  some true
def F29_l0_b (N : Nat) (a0 : (List (Int × (ByteArray × (Int × (Int × (Int × (Bool × (List Int))))))))) (a1 : (List (Int × (ByteArray × (Int × (Int × (Int × (Bool × (List Int))))))))) (nx35 : Int → Option (Bool)) (x28 : Int) : Option (Bool) :=
  cond (decide (x28 < (a0.length : Int))) (gd (InR x28 a0.length) (gd (InR x28 a1.length) (andO (F85 N (a0.getD x28.toNat (Ty.dflt Y105)) (a1.getD x28.toNat (Ty.dflt Y105))) fun y41 => cond (!y41) (some false) (nx35 (IntKind.i64.wrap (x28 + (1 : Int))))))) (F29_j0 N)
def F29_l0 (N : Nat) (a0 : (List (Int × (ByteArray × (Int × (Int × (Int × (Bool × (List Int))))))))) (a1 : (List (Int × (ByteArray × (Int × (Int × (Int × (Bool × (List Int))))))))) : Nat → Int → Option (Bool) := loopF (F29_l0_b N a0 a1) (fun _ => none)
theorem F29_l0_s (N : Nat) (a0 : (List (Int × (ByteArray × (Int × (Int × (Int × (Bool × (List Int))))))))) (a1 : (List (Int × (ByteArray × (Int × (Int × (Int × (Bool × (List Int))))))))) {k : Nat} (hk : 0 < k) (x28 : Int) : F29_l0 N a0 a1 k x28 = F29_l0_b N a0 a1 (F29_l0 N a0 a1 (k - 1)) x28 := by
  cases k with
  | zero => exact absurd hk (Nat.lt_irrefl 0)
  | succ m => rfl
def F29 (N : Nat) (a0 : (List (Int × (ByteArray × (Int × (Int × (Int × (Bool × (List Int))))))))) (a1 : (List (Int × (ByteArray × (Int × (Int × (Int × (Bool × (List Int))))))))) : Option (Bool) :=
  cond ((a0.length : Int) != (a1.length : Int)) (some false) (F29_l0 N a0 a1 N (0 : Int))
theorem ok29 (N : Nat) (a0 : (List (Int × (ByteArray × (Int × (Int × (Int × (Bool × (List Int))))))))) (a1 : (List (Int × (ByteArray × (Int × (Int × (Int × (Bool × (List Int))))))))) {r : Bool} (h : F29 N a0 a1 = some r) : Con Go.Proofs.Try.prog 29 [.lf (.v (.sl Y105) a0), .lf (.v (.sl Y105) a1)] [.lf (.v .bool r)] := by
  refine ctr [.lf (.v .bool)] T_ok Go.Proofs.Try.func29 rfl fun w0 E0 => ?_
  unfold F29 at h
  show VW _ _ _ _ _ (retQ _ _ _ _) _
  refine sR T_ok [0, 1] [] ⟨[(0, .lf (.v (.sl Y105) a0)), (1, .lf (.v (.sl Y105) a1))], []⟩ (tn 1) ?_
  refine VW.seq ?_
  refine sR T_ok [0, 1, 10] [] ⟨[(0, .lf (.v (.sl Y105) a0)), (1, .lf (.v (.sl Y105) a1)), (10, B ((a0.length : Int) != (a1.length : Int)))], []⟩ (tn 5) ?_
  refine cnd h (fun h => ?_) (fun h => ?_)
  · refine sR T_ok [4] [] ⟨[(4, B false)], []⟩ (tn 1) ?_
    refine VW.ret ?_
    replace h := Option.some.inj h
    subst h
    exact rt []
  refine VW.skip ?_
  refine VW.join (fun s => s = ⟨[], []⟩ ∧ F29_j0 N = some r) ?_ ?_
  · refine sR T_ok [0, 1, 5] [] ⟨[(0, .lf (.v (.sl Y105) a0)), (1, .lf (.v (.sl Y105) a1)), (5, I (0 : Int))], []⟩ (tn 1) ?_
    refine VW.block ?_
    refine lop (fun k s => ∃ (x28 : Int), s = ⟨[(0, .lf (.v (.sl Y105) a0)), (1, .lf (.v (.sl Y105) a1)), (5, I x28)], []⟩ ∧ F29_l0 N a0 a1 k x28 = some r) N [.ren [0, 1, 5] []] ⟨(0 : Int), rfl, h⟩ ?_
    rintro k35 s ⟨x28, rfl, h⟩
    cases k35 with
    | zero => cases show none = some r from h
    | succ k35 =>
      replace h : F29_l0_b N a0 a1 (F29_l0 N a0 a1 k35) x28 = some r := h
      unfold F29_l0_b at h
      refine VW.seq ?_
      refine sR T_ok [0, 1, 5, 14] [] ⟨[(0, .lf (.v (.sl Y105) a0)), (1, .lf (.v (.sl Y105) a1)), (5, I x28), (14, B (decide (x28 < (a0.length : Int))))], []⟩ (tn 4) ?_
      refine cnd h (fun h => ?_) (fun h => ?_)
      · refine VW.skip ?_
        refine VW.seq ?_
        refine VW.block ?_
        refine VW.seq ?_
        obtain ⟨g39, h⟩ := gd_some h
        obtain ⟨g40, h⟩ := gd_some h
        obtain ⟨y41, hy41, h⟩ := andO_some h
        refine VW.drawn (by kernel_rfl) [some (17, .lf (.v (.sl Y105) a0)), some (18, I x28), some (19, .lf (.fp Y105 (a0.getD x28.toNat (Ty.dflt Y105)) 0)), some (20, .agg [.v (.int .i64) ((a0.getD x28.toNat (Ty.dflt Y105)).1), .v .str ((a0.getD x28.toNat (Ty.dflt Y105)).2.1), .v (.int .i64) ((a0.getD x28.toNat (Ty.dflt Y105)).2.2.1), .v (.int .i64) ((a0.getD x28.toNat (Ty.dflt Y105)).2.2.2.1), .v (.int .i64) ((a0.getD x28.toNat (Ty.dflt Y105)).2.2.2.2.1), .v .bool ((a0.getD x28.toNat (Ty.dflt Y105)).2.2.2.2.2.1), .v (.sl (.int .i64)) ((a0.getD x28.toNat (Ty.dflt Y105)).2.2.2.2.2.2)]), some (21, .lf (.v (.sl Y105) a1)), some (22, I x28), some (23, .lf (.fp Y105 (a1.getD x28.toNat (Ty.dflt Y105)) 0)), some (24, .agg [.v (.int .i64) ((a1.getD x28.toNat (Ty.dflt Y105)).1), .v .str ((a1.getD x28.toNat (Ty.dflt Y105)).2.1), .v (.int .i64) ((a1.getD x28.toNat (Ty.dflt Y105)).2.2.1), .v (.int .i64) ((a1.getD x28.toNat (Ty.dflt Y105)).2.2.2.1), .v (.int .i64) ((a1.getD x28.toNat (Ty.dflt Y105)).2.2.2.2.1), .v .bool ((a1.getD x28.toNat (Ty.dflt Y105)).2.2.2.2.2.1), .v (.sl (.int .i64)) ((a1.getD x28.toNat (Ty.dflt Y105)).2.2.2.2.2.2)]), some (25, B y41), some (26, B (!y41))] [] [[]] [(0, 0), (1, 0), (2, 0), (3, 0), (4, 0), (5, 0), (6, 0), (7, 0), (8, 0), (9, 0)] [0, 1, 5, 26] [] (s' := ⟨[(0, .lf (.v (.sl Y105) a0)), (1, .lf (.v (.sl Y105) a1)), (5, I x28), (26, B (!y41))], []⟩) (by kernel_rfl) (by kernel_rfl) ⟨⟨_, rfl, Stp.ev T_ok (m := .dp) (φ := True) (by kernel_rfl) trivial⟩,
    ⟨_, rfl, Stp.ev T_ok (m := .dp) (φ := True) (by kernel_rfl) trivial⟩,
    ⟨_, rfl, Stp.ev T_ok (m := .dp) (φ := InR x28 a0.length) (by kernel_rfl) g39⟩,
    ⟨_, rfl, Stp.ev T_ok (m := .dp) (φ := True) (by kernel_rfl) trivial⟩,
    ⟨_, rfl, Stp.ev T_ok (m := .dp) (φ := True) (by kernel_rfl) trivial⟩,
    ⟨_, rfl, Stp.ev T_ok (m := .dp) (φ := True) (by kernel_rfl) trivial⟩,
    ⟨_, rfl, Stp.ev T_ok (m := .dp) (φ := InR x28 a1.length) (by kernel_rfl) g40⟩,
    ⟨_, rfl, Stp.ev T_ok (m := .dp) (φ := True) (by kernel_rfl) trivial⟩,
    ⟨_, rfl, Stp.eq (Stp.call false [.t Y105, .t Y105] [] T_ok (d := some 25) (by kernel_rfl) (ok85 N _ _ hy41) rfl) (by kernel_rfl) (by kernel_rfl)⟩,
    ⟨_, rfl, Stp.ev T_ok (m := .dp) (φ := True) (by kernel_rfl) trivial⟩, trivial⟩ (by kernel_rfl) ?_
        refine cnd h (fun h => ?_) (fun h => ?_)
        · refine sR T_ok [4] [] ⟨[(4, B false)], []⟩ (tn 1) ?_
          refine VW.ret ?_
          replace h := Option.some.inj h
          subst h
          exact rt []
        refine VW.skip ?_
        refine rR T_ok [0, 1, 5] [] ⟨[(0, .lf (.v (.sl Y105) a0)), (1, .lf (.v (.sl Y105) a1)), (5, I (IntKind.i64.wrap (x28 + (1 : Int))))], []⟩ (tn 3) ?_
        exact aro [.ren [0, 1, 5] []] ⟨(IntKind.i64.wrap (x28 + (1 : Int))), rfl, h⟩
      refine VW.exit ?_
      exact arv [.ren [] []] ⟨rfl, h⟩
  rintro s ⟨rfl, h⟩
  unfold F29_j0 at h
  refine sR T_ok [4] [] ⟨[(4, B true)], []⟩ (tn 1) ?_
  refine VW.ret ?_
  replace h := Option.some.inj h
  subst h
  exact rt []

/- loop.example/g00844/laws.eqEntry -/
def F141 (N : Nat) (a0 : (Int × ((List (Int × (ByteArray × (Int × (Int × (Int × (Bool × (List Int)))))))) × ((List (Int × (ByteArray × (Int × (Int × (Int × (Bool × (List Int)))))))) × (Int × Int))))) (a1 : (Int × ((List (Int × (ByteArray × (Int × (Int × (Int × (Bool × (List Int)))))))) × ((List (Int × (ByteArray × (Int × (Int × (Int × (Bool × (List Int)))))))) × (Int × Int))))) : Option (Bool) :=
  cond (a0.1 != a1.1) (some false) (andO (F29 N a0.2.1 a1.2.1) fun y2 => cond (!y2) (some false) (andO (F29 N a0.2.2.1 a1.2.2.1) fun y4 => cond (!y4) (some false) (cond (a0.2.2.2.1 != a1.2.2.2.1) (some false) (cond (a0.2.2.2.2 != a1.2.2.2.2) (some false) (some true)))))
theorem ok141 (N : Nat) (a0 : (Int × ((List (Int × (ByteArray × (Int × (Int × (Int × (Bool × (List Int)))))))) × ((List (Int × (ByteArray × (Int × (Int × (Int × (Bool × (List Int)))))))) × (Int × Int))))) (a1 : (Int × ((List (Int × (ByteArray × (Int × (Int × (Int × (Bool × (List Int)))))))) × ((List (Int × (ByteArray × (Int × (Int × (Int × (Bool × (List Int)))))))) × (Int × Int))))) {r : Bool} (h : F141 N a0 a1 = some r) : Con Go.Proofs.Try.prog 141 [.agg [.v (.int .i64) a0.1, .v (.sl Y105) a0.2.1, .v (.sl Y105) a0.2.2.1, .v (.int .i64) a0.2.2.2.1, .v (.int .i64) a0.2.2.2.2], .agg [.v (.int .i64) a1.1, .v (.sl Y105) a1.2.1, .v (.sl Y105) a1.2.2.1, .v (.int .i64) a1.2.2.2.1, .v (.int .i64) a1.2.2.2.2]] [.lf (.v .bool r)] := by
  refine ctr [.lf (.v .bool)] T_ok Go.Proofs.Try.func141 rfl fun w0 E0 => ?_
  unfold F141 at h
  show VW _ _ _ _ _ (retQ _ _ _ _) _
  refine sR T_ok [2, 3] [0, 1] ⟨[(2, .lf (.ptr 0 0 0 0)), (3, .lf (.ptr 1 0 0 0))], [bx [.v (.int .i64) a0.1, .v (.sl Y105) a0.2.1, .v (.sl Y105) a0.2.2.1, .v (.int .i64) a0.2.2.2.1, .v (.int .i64) a0.2.2.2.2] 152, bx [.v (.int .i64) a1.1, .v (.sl Y105) a1.2.1, .v (.sl Y105) a1.2.2.1, .v (.int .i64) a1.2.2.2.1, .v (.int .i64) a1.2.2.2.2] 152]⟩ (tn 3) ?_
  refine VW.seq ?_
  refine sR T_ok [2, 3, 9] [0, 1] ⟨[(2, .lf (.ptr 0 0 0 0)), (3, .lf (.ptr 1 0 0 0)), (9, B (a0.1 != a1.1))], [bx [.v (.int .i64) a0.1, .v (.sl Y105) a0.2.1, .v (.sl Y105) a0.2.2.1, .v (.int .i64) a0.2.2.2.1, .v (.int .i64) a0.2.2.2.2] 152, bx [.v (.int .i64) a1.1, .v (.sl Y105) a1.2.1, .v (.sl Y105) a1.2.2.1, .v (.int .i64) a1.2.2.2.1, .v (.int .i64) a1.2.2.2.2] 152]⟩ (tn 5) ?_
  refine cnd h (fun h => ?_) (fun h => ?_)
  · refine sR T_ok [4] [] ⟨[(4, B false)], []⟩ (tn 1) ?_
    refine VW.ret ?_
    replace h := Option.some.inj h
    subst h
    exact rt []
  refine VW.skip ?_
  refine VW.seq ?_
  refine VW.seq ?_
  refine VW.region ?_
  refine sG T_ok 4 [2, 3, 11, 13] [0, 1] ⟨[(2, .lf (.ptr 0 0 0 0)), (3, .lf (.ptr 1 0 0 0)), (11, .lf (.v (.sl Y105) a0.2.1)), (13, .lf (.v (.sl Y105) a1.2.1))], [bx [.v (.int .i64) a0.1, .v (.sl Y105) a0.2.1, .v (.sl Y105) a0.2.2.1, .v (.int .i64) a0.2.2.2.1, .v (.int .i64) a0.2.2.2.2] 152, bx [.v (.int .i64) a1.1, .v (.sl Y105) a1.2.1, .v (.sl Y105) a1.2.2.1, .v (.int .i64) a1.2.2.2.1, .v (.int .i64) a1.2.2.2.2] 152]⟩ (tn 4) ?_
  obtain ⟨y2, hy, h⟩ := andO_some h
  refine cal false [.t (.sl Y105), .t (.sl Y105)] [] (some 14) T_ok (ok29 N _ _ hy) ?_
  refine sN T_ok [2, 3, 15] [0, 1] ⟨[(2, .lf (.ptr 0 0 0 0)), (3, .lf (.ptr 1 0 0 0)), (15, B (!y2))], [bx [.v (.int .i64) a0.1, .v (.sl Y105) a0.2.1, .v (.sl Y105) a0.2.2.1, .v (.int .i64) a0.2.2.2.1, .v (.int .i64) a0.2.2.2.2] 152, bx [.v (.int .i64) a1.1, .v (.sl Y105) a1.2.1, .v (.sl Y105) a1.2.2.1, .v (.int .i64) a1.2.2.2.1, .v (.int .i64) a1.2.2.2.2] 152]⟩ (tn 1) ?_
  refine cnd h (fun h => ?_) (fun h => ?_)
  · refine sR T_ok [4] [] ⟨[(4, B false)], []⟩ (tn 1) ?_
    refine VW.ret ?_
    replace h := Option.some.inj h
    subst h
    exact rt []
  refine VW.skip ?_
  refine VW.seq ?_
  refine VW.seq ?_
  refine VW.region ?_
  refine sG T_ok 4 [2, 3, 17, 19] [0, 1] ⟨[(2, .lf (.ptr 0 0 0 0)), (3, .lf (.ptr 1 0 0 0)), (17, .lf (.v (.sl Y105) a0.2.2.1)), (19, .lf (.v (.sl Y105) a1.2.2.1))], [bx [.v (.int .i64) a0.1, .v (.sl Y105) a0.2.1, .v (.sl Y105) a0.2.2.1, .v (.int .i64) a0.2.2.2.1, .v (.int .i64) a0.2.2.2.2] 152, bx [.v (.int .i64) a1.1, .v (.sl Y105) a1.2.1, .v (.sl Y105) a1.2.2.1, .v (.int .i64) a1.2.2.2.1, .v (.int .i64) a1.2.2.2.2] 152]⟩ (tn 4) ?_
  obtain ⟨y4, hy, h⟩ := andO_some h
  refine cal false [.t (.sl Y105), .t (.sl Y105)] [] (some 20) T_ok (ok29 N _ _ hy) ?_
  refine sN T_ok [2, 3, 21] [0, 1] ⟨[(2, .lf (.ptr 0 0 0 0)), (3, .lf (.ptr 1 0 0 0)), (21, B (!y4))], [bx [.v (.int .i64) a0.1, .v (.sl Y105) a0.2.1, .v (.sl Y105) a0.2.2.1, .v (.int .i64) a0.2.2.2.1, .v (.int .i64) a0.2.2.2.2] 152, bx [.v (.int .i64) a1.1, .v (.sl Y105) a1.2.1, .v (.sl Y105) a1.2.2.1, .v (.int .i64) a1.2.2.2.1, .v (.int .i64) a1.2.2.2.2] 152]⟩ (tn 1) ?_
  refine cnd h (fun h => ?_) (fun h => ?_)
  · refine sR T_ok [4] [] ⟨[(4, B false)], []⟩ (tn 1) ?_
    refine VW.ret ?_
    replace h := Option.some.inj h
    subst h
    exact rt []
  refine VW.skip ?_
  refine VW.seq ?_
  refine sR T_ok [2, 3, 26] [0, 1] ⟨[(2, .lf (.ptr 0 0 0 0)), (3, .lf (.ptr 1 0 0 0)), (26, B (a0.2.2.2.1 != a1.2.2.2.1))], [bx [.v (.int .i64) a0.1, .v (.sl Y105) a0.2.1, .v (.sl Y105) a0.2.2.1, .v (.int .i64) a0.2.2.2.1, .v (.int .i64) a0.2.2.2.2] 152, bx [.v (.int .i64) a1.1, .v (.sl Y105) a1.2.1, .v (.sl Y105) a1.2.2.1, .v (.int .i64) a1.2.2.2.1, .v (.int .i64) a1.2.2.2.2] 152]⟩ (tn 5) ?_
  refine cnd h (fun h => ?_) (fun h => ?_)
  · refine sR T_ok [4] [] ⟨[(4, B false)], []⟩ (tn 1) ?_
    refine VW.ret ?_
    replace h := Option.some.inj h
    subst h
    exact rt []
  refine VW.skip ?_
  refine VW.seq ?_
  refine sR T_ok [31] [] ⟨[(31, B (a0.2.2.2.2 != a1.2.2.2.2))], []⟩ (tn 5) ?_
  refine cnd h (fun h => ?_) (fun h => ?_)
  · refine sR T_ok [4] [] ⟨[(4, B false)], []⟩ (tn 1) ?_
    refine VW.ret ?_
    replace h := Option.some.inj h
    subst h
    exact rt []
  refine VW.skip ?_
  refine sR T_ok [4] [] ⟨[(4, B true)], []⟩ (tn 1) ?_
  refine VW.ret ?_
  replace h := Option.some.inj h
  subst h
  exact rt []

/- loop.example/g00844/laws.eqEntryS -/
def F78_j0 (N : Nat) : Option (Bool) :=
  some true
def F78_l0_b (N : Nat) (a0 : (List (Int × ((List (Int × (ByteArray × (Int × (Int × (Int × (Bool × (List Int)))))))) × ((List (Int × (ByteArray × (Int × (Int × (Int × (Bool × (List Int)))))))) × (Int × Int)))))) (a1 : (List (Int × ((List (Int × (ByteArray × (Int × (Int × (Int × (Bool × (List Int)))))))) × ((List (Int × (ByteArray × (Int × (Int × (Int × (Bool × (List Int)))))))) × (Int × Int)))))) (nx35 : Int → Option (Bool)) (x28 : Int) : Option (Bool) :=
  cond (decide (x28 < (a0.length : Int))) (gd (InR x28 a0.length) (gd (InR x28 a1.length) (andO (F141 N (a0.getD x28.toNat (Ty.dflt Y151)) (a1.getD x28.toNat (Ty.dflt Y151))) fun y41 => cond (!y41) (some false) (nx35 (IntKind.i64.wrap (x28 + (1 : Int))))))) (F78_j0 N)
def F78_l0 (N : Nat) (a0 : (List (Int × ((List (Int × (ByteArray × (Int × (Int × (Int × (Bool × (List Int)))))))) × ((List (Int × (ByteArray × (Int × (Int × (Int × (Bool × (List Int)))))))) × (Int × Int)))))) (a1 : (List (Int × ((List (Int × (ByteArray × (Int × (Int × (Int × (Bool × (List Int)))))))) × ((List (Int × (ByteArray × (Int × (Int × (Int × (Bool × (List Int)))))))) × (Int × Int)))))) : Nat → Int → Option (Bool) := loopF (F78_l0_b N a0 a1) (fun _ => none)
theorem F78_l0_s (N : Nat) (a0 : (List (Int × ((List (Int × (ByteArray × (Int × (Int × (Int × (Bool × (List Int)))))))) × ((List (Int × (ByteArray × (Int × (Int × (Int × (Bool × (List Int)))))))) × (Int × Int)))))) (a1 : (List (Int × ((List (Int × (ByteArray × (Int × (Int × (Int × (Bool × (List Int)))))))) × ((List (Int × (ByteArray × (Int × (Int × (Int × (Bool × (List Int)))))))) × (Int × Int)))))) {k : Nat} (hk : 0 < k) (x28 : Int) : F78_l0 N a0 a1 k x28 = F78_l0_b N a0 a1 (F78_l0 N a0 a1 (k - 1)) x28 := by
  cases k with
  | zero => exact absurd hk (Nat.lt_irrefl 0)
  | succ m => rfl
def F78 (N : Nat) (a0 : (List (Int × ((List (Int × (ByteArray × (Int × (Int × (Int × (Bool × (List Int)))))))) × ((List (Int × (ByteArray × (Int × (Int × (Int × (Bool × (List Int)))))))) × (Int × Int)))))) (a1 : (List (Int × ((List (Int × (ByteArray × (Int × (Int × (Int × (Bool × (List Int)))))))) × ((List (Int × (ByteArray × (Int × (Int × (Int × (Bool × (List Int)))))))) × (Int × Int)))))) : Option (Bool) :=
  cond ((a0.length : Int) != (a1.length : Int)) (some false) (F78_l0 N a0 a1 N (0 : Int))
theorem ok78 (N : Nat) (a0 : (List (Int × ((List (Int × (ByteArray × (Int × (Int × (Int × (Bool × (List Int)))))))) × ((List (Int × (ByteArray × (Int × (Int × (Int × (Bool × (List Int)))))))) × (Int × Int)))))) (a1 : (List (Int × ((List (Int × (ByteArray × (Int × (Int × (Int × (Bool × (List Int)))))))) × ((List (Int × (ByteArray × (Int × (Int × (Int × (Bool × (List Int)))))))) × (Int × Int)))))) {r : Bool} (h : F78 N a0 a1 = some r) : Con Go.Proofs.Try.prog 78 [.lf (.v (.sl Y151) a0), .lf (.v (.sl Y151) a1)] [.lf (.v .bool r)] := by
  refine ctr [.lf (.v .bool)] T_ok Go.Proofs.Try.func78 rfl fun w0 E0 => ?_
  unfold F78 at h
  show VW _ _ _ _ _ (retQ _ _ _ _) _
  refine sR T_ok [0, 1] [] ⟨[(0, .lf (.v (.sl Y151) a0)), (1, .lf (.v (.sl Y151) a1))], []⟩ (tn 1) ?_
  refine VW.seq ?_
  refine sR T_ok [0, 1, 10] [] ⟨[(0, .lf (.v (.sl Y151) a0)), (1, .lf (.v (.sl Y151) a1)), (10, B ((a0.length : Int) != (a1.length : Int)))], []⟩ (tn 5) ?_
  refine cnd h (fun h => ?_) (fun h => ?_)
  · refine sR T_ok [4] [] ⟨[(4, B false)], []⟩ (tn 1) ?_
    refine VW.ret ?_
    replace h := Option.some.inj h
    subst h
    exact rt []
  refine VW.skip ?_
  refine VW.join (fun s => s = ⟨[], []⟩ ∧ F78_j0 N = some r) ?_ ?_
  · refine sR T_ok [0, 1, 5] [] ⟨[(0, .lf (.v (.sl Y151) a0)), (1, .lf (.v (.sl Y151) a1)), (5, I (0 : Int))], []⟩ (tn 1) ?_
    refine VW.block ?_
    refine lop (fun k s => ∃ (x28 : Int), s = ⟨[(0, .lf (.v (.sl Y151) a0)), (1, .lf (.v (.sl Y151) a1)), (5, I x28)], []⟩ ∧ F78_l0 N a0 a1 k x28 = some r) N [.ren [0, 1, 5] []] ⟨(0 : Int), rfl, h⟩ ?_
    rintro k35 s ⟨x28, rfl, h⟩
    cases k35 with
    | zero => cases show none = some r from h
    | succ k35 =>
      replace h : F78_l0_b N a0 a1 (F78_l0 N a0 a1 k35) x28 = some r := h
      unfold F78_l0_b at h
      refine VW.seq ?_
      refine sR T_ok [0, 1, 5, 14] [] ⟨[(0, .lf (.v (.sl Y151) a0)), (1, .lf (.v (.sl Y151) a1)), (5, I x28), (14, B (decide (x28 < (a0.length : Int))))], []⟩ (tn 4) ?_
      refine cnd h (fun h => ?_) (fun h => ?_)
      · refine VW.skip ?_
        refine VW.seq ?_
        refine VW.block ?_
        refine VW.seq ?_
        obtain ⟨g39, h⟩ := gd_some h
        obtain ⟨g40, h⟩ := gd_some h
        obtain ⟨y41, hy41, h⟩ := andO_some h
        refine VW.drawn (by kernel_rfl) [some (17, .lf (.v (.sl Y151) a0)), some (18, I x28), some (19, .lf (.fp Y151 (a0.getD x28.toNat (Ty.dflt Y151)) 0)), some (20, .agg [.v (.int .i64) ((a0.getD x28.toNat (Ty.dflt Y151)).1), .v (.sl Y105) ((a0.getD x28.toNat (Ty.dflt Y151)).2.1), .v (.sl Y105) ((a0.getD x28.toNat (Ty.dflt Y151)).2.2.1), .v (.int .i64) ((a0.getD x28.toNat (Ty.dflt Y151)).2.2.2.1), .v (.int .i64) ((a0.getD x28.toNat (Ty.dflt Y151)).2.2.2.2)]), some (21, .lf (.v (.sl Y151) a1)), some (22, I x28), some (23, .lf (.fp Y151 (a1.getD x28.toNat (Ty.dflt Y151)) 0)), some (24, .agg [.v (.int .i64) ((a1.getD x28.toNat (Ty.dflt Y151)).1), .v (.sl Y105) ((a1.getD x28.toNat (Ty.dflt Y151)).2.1), .v (.sl Y105) ((a1.getD x28.toNat (Ty.dflt Y151)).2.2.1), .v (.int .i64) ((a1.getD x28.toNat (Ty.dflt Y151)).2.2.2.1), .v (.int .i64) ((a1.getD x28.toNat (Ty.dflt Y151)).2.2.2.2)]), some (25, B y41), some (26, B (!y41))] [] [[]] [(0, 0), (1, 0), (2, 0), (3, 0), (4, 0), (5, 0), (6, 0), (7, 0), (8, 0), (9, 0)] [0, 1, 5, 26] [] (s' := ⟨[(0, .lf (.v (.sl Y151) a0)), (1, .lf (.v (.sl Y151) a1)), (5, I x28), (26, B (!y41))], []⟩) (by kernel_rfl) (by kernel_rfl) ⟨⟨_, rfl, Stp.ev T_ok (m := .dp) (φ := True) (by kernel_rfl) trivial⟩,
    ⟨_, rfl, Stp.ev T_ok (m := .dp) (φ := True) (by kernel_rfl) trivial⟩,
    ⟨_, rfl, Stp.ev T_ok (m := .dp) (φ := InR x28 a0.length) (by kernel_rfl) g39⟩,
    ⟨_, rfl, Stp.ev T_ok (m := .dp) (φ := True) (by kernel_rfl) trivial⟩,
    ⟨_, rfl, Stp.ev T_ok (m := .dp) (φ := True) (by kernel_rfl) trivial⟩,
    ⟨_, rfl, Stp.ev T_ok (m := .dp) (φ := True) (by kernel_rfl) trivial⟩,
    ⟨_, rfl, Stp.ev T_ok (m := .dp) (φ := InR x28 a1.length) (by kernel_rfl) g40⟩,
    ⟨_, rfl, Stp.ev T_ok (m := .dp) (φ := True) (by kernel_rfl) trivial⟩,
    ⟨_, rfl, Stp.eq (Stp.call false [.t Y151, .t Y151] [] T_ok (d := some 25) (by kernel_rfl) (ok141 N _ _ hy41) rfl) (by kernel_rfl) (by kernel_rfl)⟩,
    ⟨_, rfl, Stp.ev T_ok (m := .dp) (φ := True) (by kernel_rfl) trivial⟩, trivial⟩ (by kernel_rfl) ?_
        refine cnd h (fun h => ?_) (fun h => ?_)
        · refine sR T_ok [4] [] ⟨[(4, B false)], []⟩ (tn 1) ?_
          refine VW.ret ?_
          replace h := Option.some.inj h
          subst h
          exact rt []
        refine VW.skip ?_
        refine rR T_ok [0, 1, 5] [] ⟨[(0, .lf (.v (.sl Y151) a0)), (1, .lf (.v (.sl Y151) a1)), (5, I (IntKind.i64.wrap (x28 + (1 : Int))))], []⟩ (tn 3) ?_
        exact aro [.ren [0, 1, 5] []] ⟨(IntKind.i64.wrap (x28 + (1 : Int))), rfl, h⟩
      refine VW.exit ?_
      exact arv [.ren [] []] ⟨rfl, h⟩
  rintro s ⟨rfl, h⟩
  unfold F78_j0 at h
  refine sR T_ok [4] [] ⟨[(4, B true)], []⟩ (tn 1) ?_
  refine VW.ret ?_
  replace h := Option.some.inj h
  subst h
  exact rt []

/- loop.example/g00844/laws.eqShelf -/
def F20 (N : Nat) (a0 : (Int × ((List (ByteArray × Int)) × ((List (Int × ((List (Int × (ByteArray × (Int × (Int × (Int × (Bool × (List Int)))))))) × ((List (Int × (ByteArray × (Int × (Int × (Int × (Bool × (List Int)))))))) × (Int × Int))))) × (Int × (Int × (Int × (Int × (Int × Int))))))))) (a1 : (Int × ((List (ByteArray × Int)) × ((List (Int × ((List (Int × (ByteArray × (Int × (Int × (Int × (Bool × (List Int)))))))) × ((List (Int × (ByteArray × (Int × (Int × (Int × (Bool × (List Int)))))))) × (Int × Int))))) × (Int × (Int × (Int × (Int × (Int × Int))))))))) : Option (Bool) :=
  cond (a0.1 != a1.1) (some false) (andO (F21 N a0.2.1 a1.2.1) fun y2 => cond (!y2) (some false) (andO (F78 N a0.2.2.1 a1.2.2.1) fun y4 => cond (!y4) (some false) (cond (a0.2.2.2.1 != a1.2.2.2.1) (some false) (cond (a0.2.2.2.2.1 != a1.2.2.2.2.1) (some false) (cond (a0.2.2.2.2.2.1 != a1.2.2.2.2.2.1) (some false) (cond (a0.2.2.2.2.2.2.1 != a1.2.2.2.2.2.2.1) (some false) (cond (a0.2.2.2.2.2.2.2.1 != a1.2.2.2.2.2.2.2.1) (some false) (cond (a0.2.2.2.2.2.2.2.2 != a1.2.2.2.2.2.2.2.2) (some false) (some true)))))))))
theorem ok20 (N : Nat) (a0 : (Int × ((List (ByteArray × Int)) × ((List (Int × ((List (Int × (ByteArray × (Int × (Int × (Int × (Bool × (List Int)))))))) × ((List (Int × (ByteArray × (Int × (Int × (Int × (Bool × (List Int)))))))) × (Int × Int))))) × (Int × (Int × (Int × (Int × (Int × Int))))))))) (a1 : (Int × ((List (ByteArray × Int)) × ((List (Int × ((List (Int × (ByteArray × (Int × (Int × (Int × (Bool × (List Int)))))))) × ((List (Int × (ByteArray × (Int × (Int × (Int × (Bool × (List Int)))))))) × (Int × Int))))) × (Int × (Int × (Int × (Int × (Int × Int))))))))) {r : Bool} (h : F20 N a0 a1 = some r) : Con Go.Proofs.Try.prog 20 [.agg [.v (.int .i64) a0.1, .v (.sl Y93) a0.2.1, .v (.sl Y151) a0.2.2.1, .v (.int .i64) a0.2.2.2.1, .v (.int .i64) a0.2.2.2.2.1, .v (.int .i64) a0.2.2.2.2.2.1, .v (.int .i64) a0.2.2.2.2.2.2.1, .v (.int .i64) a0.2.2.2.2.2.2.2.1, .v (.int .i64) a0.2.2.2.2.2.2.2.2], .agg [.v (.int .i64) a1.1, .v (.sl Y93) a1.2.1, .v (.sl Y151) a1.2.2.1, .v (.int .i64) a1.2.2.2.1, .v (.int .i64) a1.2.2.2.2.1, .v (.int .i64) a1.2.2.2.2.2.1, .v (.int .i64) a1.2.2.2.2.2.2.1, .v (.int .i64) a1.2.2.2.2.2.2.2.1, .v (.int .i64) a1.2.2.2.2.2.2.2.2]] [.lf (.v .bool r)] := by
  refine ctr [.lf (.v .bool)] T_ok Go.Proofs.Try.func20 rfl fun w0 E0 => ?_
  unfold F20 at h
  show VW _ _ _ _ _ (retQ _ _ _ _) _
  refine sR T_ok [2, 3] [0, 1] ⟨[(2, .lf (.ptr 0 0 0 0)), (3, .lf (.ptr 1 0 0 0))], [bx [.v (.int .i64) a0.1, .v (.sl Y93) a0.2.1, .v (.sl Y151) a0.2.2.1, .v (.int .i64) a0.2.2.2.1, .v (.int .i64) a0.2.2.2.2.1, .v (.int .i64) a0.2.2.2.2.2.1, .v (.int .i64) a0.2.2.2.2.2.2.1, .v (.int .i64) a0.2.2.2.2.2.2.2.1, .v (.int .i64) a0.2.2.2.2.2.2.2.2] 32, bx [.v (.int .i64) a1.1, .v (.sl Y93) a1.2.1, .v (.sl Y151) a1.2.2.1, .v (.int .i64) a1.2.2.2.1, .v (.int .i64) a1.2.2.2.2.1, .v (.int .i64) a1.2.2.2.2.2.1, .v (.int .i64) a1.2.2.2.2.2.2.1, .v (.int .i64) a1.2.2.2.2.2.2.2.1, .v (.int .i64) a1.2.2.2.2.2.2.2.2] 32]⟩ (tn 3) ?_
  refine VW.seq ?_
  refine sR T_ok [2, 3, 9] [0, 1] ⟨[(2, .lf (.ptr 0 0 0 0)), (3, .lf (.ptr 1 0 0 0)), (9, B (a0.1 != a1.1))], [bx [.v (.int .i64) a0.1, .v (.sl Y93) a0.2.1, .v (.sl Y151) a0.2.2.1, .v (.int .i64) a0.2.2.2.1, .v (.int .i64) a0.2.2.2.2.1, .v (.int .i64) a0.2.2.2.2.2.1, .v (.int .i64) a0.2.2.2.2.2.2.1, .v (.int .i64) a0.2.2.2.2.2.2.2.1, .v (.int .i64) a0.2.2.2.2.2.2.2.2] 32, bx [.v (.int .i64) a1.1, .v (.sl Y93) a1.2.1, .v (.sl Y151) a1.2.2.1, .v (.int .i64) a1.2.2.2.1, .v (.int .i64) a1.2.2.2.2.1, .v (.int .i64) a1.2.2.2.2.2.1, .v (.int .i64) a1.2.2.2.2.2.2.1, .v (.int .i64) a1.2.2.2.2.2.2.2.1, .v (.int .i64) a1.2.2.2.2.2.2.2.2] 32]⟩ (tn 5) ?_
  refine cnd h (fun h => ?_) (fun h => ?_)
  · refine sR T_ok [4] [] ⟨[(4, B false)], []⟩ (tn 1) ?_
    refine VW.ret ?_
    replace h := Option.some.inj h
    subst h
    exact rt []
  refine VW.skip ?_
  refine VW.seq ?_
  refine VW.seq ?_
  refine VW.region ?_
  refine sG T_ok 4 [2, 3, 11, 13] [0, 1] ⟨[(2, .lf (.ptr 0 0 0 0)), (3, .lf (.ptr 1 0 0 0)), (11, .lf (.v (.sl Y93) a0.2.1)), (13, .lf (.v (.sl Y93) a1.2.1))], [bx [.v (.int .i64) a0.1, .v (.sl Y93) a0.2.1, .v (.sl Y151) a0.2.2.1, .v (.int .i64) a0.2.2.2.1, .v (.int .i64) a0.2.2.2.2.1, .v (.int .i64) a0.2.2.2.2.2.1, .v (.int .i64) a0.2.2.2.2.2.2.1, .v (.int .i64) a0.2.2.2.2.2.2.2.1, .v (.int .i64) a0.2.2.2.2.2.2.2.2] 32, bx [.v (.int .i64) a1.1, .v (.sl Y93) a1.2.1, .v (.sl Y151) a1.2.2.1, .v (.int .i64) a1.2.2.2.1, .v (.int .i64) a1.2.2.2.2.1, .v (.int .i64) a1.2.2.2.2.2.1, .v (.int .i64) a1.2.2.2.2.2.2.1, .v (.int .i64) a1.2.2.2.2.2.2.2.1, .v (.int .i64) a1.2.2.2.2.2.2.2.2] 32]⟩ (tn 4) ?_
  obtain ⟨y2, hy, h⟩ := andO_some h
  refine cal false [.t (.sl Y93), .t (.sl Y93)] [] (some 14) T_ok (ok21 N _ _ hy) ?_
  refine sN T_ok [2, 3, 15] [0, 1] ⟨[(2, .lf (.ptr 0 0 0 0)), (3, .lf (.ptr 1 0 0 0)), (15, B (!y2))], [bx [.v (.int .i64) a0.1, .v (.sl Y93) a0.2.1, .v (.sl Y151) a0.2.2.1, .v (.int .i64) a0.2.2.2.1, .v (.int .i64) a0.2.2.2.2.1, .v (.int .i64) a0.2.2.2.2.2.1, .v (.int .i64) a0.2.2.2.2.2.2.1, .v (.int .i64) a0.2.2.2.2.2.2.2.1, .v (.int .i64) a0.2.2.2.2.2.2.2.2] 32, bx [.v (.int .i64) a1.1, .v (.sl Y93) a1.2.1, .v (.sl Y151) a1.2.2.1, .v (.int .i64) a1.2.2.2.1, .v (.int .i64) a1.2.2.2.2.1, .v (.int .i64) a1.2.2.2.2.2.1, .v (.int .i64) a1.2.2.2.2.2.2.1, .v (.int .i64) a1.2.2.2.2.2.2.2.1, .v (.int .i64) a1.2.2.2.2.2.2.2.2] 32]⟩ (tn 1) ?_
  refine cnd h (fun h => ?_) (fun h => ?_)
  · refine sR T_ok [4] [] ⟨[(4, B false)], []⟩ (tn 1) ?_
    refine VW.ret ?_
    replace h := Option.some.inj h
    subst h
    exact rt []
  refine VW.skip ?_
  refine VW.seq ?_
  refine VW.seq ?_
  refine VW.region ?_
  refine sG T_ok 4 [2, 3, 17, 19] [0, 1] ⟨[(2, .lf (.ptr 0 0 0 0)), (3, .lf (.ptr 1 0 0 0)), (17, .lf (.v (.sl Y151) a0.2.2.1)), (19, .lf (.v (.sl Y151) a1.2.2.1))], [bx [.v (.int .i64) a0.1, .v (.sl Y93) a0.2.1, .v (.sl Y151) a0.2.2.1, .v (.int .i64) a0.2.2.2.1, .v (.int .i64) a0.2.2.2.2.1, .v (.int .i64) a0.2.2.2.2.2.1, .v (.int .i64) a0.2.2.2.2.2.2.1, .v (.int .i64) a0.2.2.2.2.2.2.2.1, .v (.int .i64) a0.2.2.2.2.2.2.2.2] 32, bx [.v (.int .i64) a1.1, .v (.sl Y93) a1.2.1, .v (.sl Y151) a1.2.2.1, .v (.int .i64) a1.2.2.2.1, .v (.int .i64) a1.2.2.2.2.1, .v (.int .i64) a1.2.2.2.2.2.1, .v (.int .i64) a1.2.2.2.2.2.2.1, .v (.int .i64) a1.2.2.2.2.2.2.2.1, .v (.int .i64) a1.2.2.2.2.2.2.2.2] 32]⟩ (tn 4) ?_
  obtain ⟨y4, hy, h⟩ := andO_some h
  refine cal false [.t (.sl Y151), .t (.sl Y151)] [] (some 20) T_ok (ok78 N _ _ hy) ?_
  refine sN T_ok [2, 3, 21] [0, 1] ⟨[(2, .lf (.ptr 0 0 0 0)), (3, .lf (.ptr 1 0 0 0)), (21, B (!y4))], [bx [.v (.int .i64) a0.1, .v (.sl Y93) a0.2.1, .v (.sl Y151) a0.2.2.1, .v (.int .i64) a0.2.2.2.1, .v (.int .i64) a0.2.2.2.2.1, .v (.int .i64) a0.2.2.2.2.2.1, .v (.int .i64) a0.2.2.2.2.2.2.1, .v (.int .i64) a0.2.2.2.2.2.2.2.1, .v (.int .i64) a0.2.2.2.2.2.2.2.2] 32, bx [.v (.int .i64) a1.1, .v (.sl Y93) a1.2.1, .v (.sl Y151) a1.2.2.1, .v (.int .i64) a1.2.2.2.1, .v (.int .i64) a1.2.2.2.2.1, .v (.int .i64) a1.2.2.2.2.2.1, .v (.int .i64) a1.2.2.2.2.2.2.1, .v (.int .i64) a1.2.2.2.2.2.2.2.1, .v (.int .i64) a1.2.2.2.2.2.2.2.2] 32]⟩ (tn 1) ?_
  refine cnd h (fun h => ?_) (fun h => ?_)
  · refine sR T_ok [4] [] ⟨[(4, B false)], []⟩ (tn 1) ?_
    refine VW.ret ?_
    replace h := Option.some.inj h
    subst h
    exact rt []
  refine VW.skip ?_
  refine VW.seq ?_
  refine sR T_ok [2, 3, 26] [0, 1] ⟨[(2, .lf (.ptr 0 0 0 0)), (3, .lf (.ptr 1 0 0 0)), (26, B (a0.2.2.2.1 != a1.2.2.2.1))], [bx [.v (.int .i64) a0.1, .v (.sl Y93) a0.2.1, .v (.sl Y151) a0.2.2.1, .v (.int .i64) a0.2.2.2.1, .v (.int .i64) a0.2.2.2.2.1, .v (.int .i64) a0.2.2.2.2.2.1, .v (.int .i64) a0.2.2.2.2.2.2.1, .v (.int .i64) a0.2.2.2.2.2.2.2.1, .v (.int .i64) a0.2.2.2.2.2.2.2.2] 32, bx [.v (.int .i64) a1.1, .v (.sl Y93) a1.2.1, .v (.sl Y151) a1.2.2.1, .v (.int .i64) a1.2.2.2.1, .v (.int .i64) a1.2.2.2.2.1, .v (.int .i64) a1.2.2.2.2.2.1, .v (.int .i64) a1.2.2.2.2.2.2.1, .v (.int .i64) a1.2.2.2.2.2.2.2.1, .v (.int .i64) a1.2.2.2.2.2.2.2.2] 32]⟩ (tn 5) ?_
  refine cnd h (fun h => ?_) (fun h => ?_)
  · refine sR T_ok [4] [] ⟨[(4, B false)], []⟩ (tn 1) ?_
    refine VW.ret ?_
    replace h := Option.some.inj h
    subst h
    exact rt []
  refine VW.skip ?_
  refine VW.seq ?_
  refine sR T_ok [2, 3, 31] [0, 1] ⟨[(2, .lf (.ptr 0 0 0 0)), (3, .lf (.ptr 1 0 0 0)), (31, B (a0.2.2.2.2.1 != a1.2.2.2.2.1))], [bx [.v (.int .i64) a0.1, .v (.sl Y93) a0.2.1, .v (.sl Y151) a0.2.2.1, .v (.int .i64) a0.2.2.2.1, .v (.int .i64) a0.2.2.2.2.1, .v (.int .i64) a0.2.2.2.2.2.1, .v (.int .i64) a0.2.2.2.2.2.2.1, .v (.int .i64) a0.2.2.2.2.2.2.2.1, .v (.int .i64) a0.2.2.2.2.2.2.2.2] 32, bx [.v (.int .i64) a1.1, .v (.sl Y93) a1.2.1, .v (.sl Y151) a1.2.2.1, .v (.int .i64) a1.2.2.2.1, .v (.int .i64) a1.2.2.2.2.1, .v (.int .i64) a1.2.2.2.2.2.1, .v (.int .i64) a1.2.2.2.2.2.2.1, .v (.int .i64) a1.2.2.2.2.2.2.2.1, .v (.int .i64) a1.2.2.2.2.2.2.2.2] 32]⟩ (tn 5) ?_
  refine cnd h (fun h => ?_) (fun h => ?_)
  · refine sR T_ok [4] [] ⟨[(4, B false)], []⟩ (tn 1) ?_
    refine VW.ret ?_
    replace h := Option.some.inj h
    subst h
    exact rt []
  refine VW.skip ?_
  refine VW.seq ?_
  refine sR T_ok [2, 3, 36] [0, 1] ⟨[(2, .lf (.ptr 0 0 0 0)), (3, .lf (.ptr 1 0 0 0)), (36, B (a0.2.2.2.2.2.1 != a1.2.2.2.2.2.1))], [bx [.v (.int .i64) a0.1, .v (.sl Y93) a0.2.1, .v (.sl Y151) a0.2.2.1, .v (.int .i64) a0.2.2.2.1, .v (.int .i64) a0.2.2.2.2.1, .v (.int .i64) a0.2.2.2.2.2.1, .v (.int .i64) a0.2.2.2.2.2.2.1, .v (.int .i64) a0.2.2.2.2.2.2.2.1, .v (.int .i64) a0.2.2.2.2.2.2.2.2] 32, bx [.v (.int .i64) a1.1, .v (.sl Y93) a1.2.1, .v (.sl Y151) a1.2.2.1, .v (.int .i64) a1.2.2.2.1, .v (.int .i64) a1.2.2.2.2.1, .v (.int .i64) a1.2.2.2.2.2.1, .v (.int .i64) a1.2.2.2.2.2.2.1, .v (.int .i64) a1.2.2.2.2.2.2.2.1, .v (.int .i64) a1.2.2.2.2.2.2.2.2] 32]⟩ (tn 5) ?_
  refine cnd h (fun h => ?_) (fun h => ?_)
  · refine sR T_ok [4] [] ⟨[(4, B false)], []⟩ (tn 1) ?_
    refine VW.ret ?_
    replace h := Option.some.inj h
    subst h
    exact rt []
  refine VW.skip ?_
  refine VW.seq ?_
  refine sR T_ok [2, 3, 41] [0, 1] ⟨[(2, .lf (.ptr 0 0 0 0)), (3, .lf (.ptr 1 0 0 0)), (41, B (a0.2.2.2.2.2.2.1 != a1.2.2.2.2.2.2.1))], [bx [.v (.int .i64) a0.1, .v (.sl Y93) a0.2.1, .v (.sl Y151) a0.2.2.1, .v (.int .i64) a0.2.2.2.1, .v (.int .i64) a0.2.2.2.2.1, .v (.int .i64) a0.2.2.2.2.2.1, .v (.int .i64) a0.2.2.2.2.2.2.1, .v (.int .i64) a0.2.2.2.2.2.2.2.1, .v (.int .i64) a0.2.2.2.2.2.2.2.2] 32, bx [.v (.int .i64) a1.1, .v (.sl Y93) a1.2.1, .v (.sl Y151) a1.2.2.1, .v (.int .i64) a1.2.2.2.1, .v (.int .i64) a1.2.2.2.2.1, .v (.int .i64) a1.2.2.2.2.2.1, .v (.int .i64) a1.2.2.2.2.2.2.1, .v (.int .i64) a1.2.2.2.2.2.2.2.1, .v (.int .i64) a1.2.2.2.2.2.2.2.2] 32]⟩ (tn 5) ?_
  refine cnd h (fun h => ?_) (fun h => ?_)
  · refine sR T_ok [4] [] ⟨[(4, B false)], []⟩ (tn 1) ?_
    refine VW.ret ?_
    replace h := Option.some.inj h
    subst h
    exact rt []
  refine VW.skip ?_
  refine VW.seq ?_
  refine sR T_ok [2, 3, 46] [0, 1] ⟨[(2, .lf (.ptr 0 0 0 0)), (3, .lf (.ptr 1 0 0 0)), (46, B (a0.2.2.2.2.2.2.2.1 != a1.2.2.2.2.2.2.2.1))], [bx [.v (.int .i64) a0.1, .v (.sl Y93) a0.2.1, .v (.sl Y151) a0.2.2.1, .v (.int .i64) a0.2.2.2.1, .v (.int .i64) a0.2.2.2.2.1, .v (.int .i64) a0.2.2.2.2.2.1, .v (.int .i64) a0.2.2.2.2.2.2.1, .v (.int .i64) a0.2.2.2.2.2.2.2.1, .v (.int .i64) a0.2.2.2.2.2.2.2.2] 32, bx [.v (.int .i64) a1.1, .v (.sl Y93) a1.2.1, .v (.sl Y151) a1.2.2.1, .v (.int .i64) a1.2.2.2.1, .v (.int .i64) a1.2.2.2.2.1, .v (.int .i64) a1.2.2.2.2.2.1, .v (.int .i64) a1.2.2.2.2.2.2.1, .v (.int .i64) a1.2.2.2.2.2.2.2.1, .v (.int .i64) a1.2.2.2.2.2.2.2.2] 32]⟩ (tn 5) ?_
  refine cnd h (fun h => ?_) (fun h => ?_)
  · refine sR T_ok [4] [] ⟨[(4, B false)], []⟩ (tn 1) ?_
    refine VW.ret ?_
    replace h := Option.some.inj h
    subst h
    exact rt []
  refine VW.skip ?_
  refine VW.seq ?_
  refine sR T_ok [51] [] ⟨[(51, B (a0.2.2.2.2.2.2.2.2 != a1.2.2.2.2.2.2.2.2))], []⟩ (tn 5) ?_
  refine cnd h (fun h => ?_) (fun h => ?_)
  · refine sR T_ok [4] [] ⟨[(4, B false)], []⟩ (tn 1) ?_
    refine VW.ret ?_
    replace h := Option.some.inj h
    subst h
    exact rt []
  refine VW.skip ?_
  refine sR T_ok [4] [] ⟨[(4, B true)], []⟩ (tn 1) ?_
  refine VW.ret ?_
  replace h := Option.some.inj h
  subst h
  exact rt []

/- loop.example/g00844/laws.markTableS -/
def F22_j0 (N : Nat) (x35 : Int) (x36 : (List (ByteArray × Int))) : Option ((List (ByteArray × Int)) × Int) :=
  some (x36, x35)
def F22_l0_b (N : Nat) (nx61 : (List (ByteArray × Int)) → Int → Int → Option ((List (ByteArray × Int)) × Int)) (x48 : (List (ByteArray × Int))) (x49 : Int) (x50 : Int) : Option ((List (ByteArray × Int)) × Int) :=
  cond (decide (x50 < (x48.length : Int))) (andO (F69 N x49) fun y67 => gd (InR x50 x48.length) (gd (x50.toNat < x48.length) (gd (InR x50 (x48.set x50.toNat (y67, (x48.getD x50.toNat (Ty.dflt Y93)).2)).length) (gd (x50.toNat < (x48.set x50.toNat (y67, (x48.getD x50.toNat (Ty.dflt Y93)).2)).length) (nx61 ((x48.set x50.toNat (y67, (x48.getD x50.toNat (Ty.dflt Y93)).2)).set x50.toNat (((x48.set x50.toNat (y67, (x48.getD x50.toNat (Ty.dflt Y93)).2)).getD x50.toNat (Ty.dflt Y93)).1, (IntKind.i64.wrap (x49 + (1 : Int))))) (IntKind.i64.wrap ((IntKind.i64.wrap (x49 + (1 : Int))) + (1 : Int))) (IntKind.i64.wrap (x50 + (1 : Int)))))))) (F22_j0 N x49 x48)
def F22_l0 (N : Nat) : Nat → (List (ByteArray × Int)) → Int → Int → Option ((List (ByteArray × Int)) × Int) := loopF (F22_l0_b N) (fun _ _ _ => none)
theorem F22_l0_s (N : Nat) {k : Nat} (hk : 0 < k) (x48 : (List (ByteArray × Int))) (x49 : Int) (x50 : Int) : F22_l0 N k x48 x49 x50 = F22_l0_b N (F22_l0 N (k - 1)) x48 x49 x50 := by
  cases k with
  | zero => exact absurd hk (Nat.lt_irrefl 0)
  | succ m => rfl
def F22 (N : Nat) (a0 : (List (ByteArray × Int))) (a1 : Int) : Option ((List (ByteArray × Int)) × Int) :=
  F22_l0 N N a0 a1 (0 : Int)
theorem ok22 (N : Nat) (a0 : (List (ByteArray × Int))) (a1 : Int) {r : (List (ByteArray × Int)) × Int} (h : F22 N a0 a1 = some r) : ConM Go.Proofs.Try.prog 22 [ar 0 Y93 a0 .dp] [.lf (.hd 0 0 none), I a1] [.lf (.v (.int .i64) r.2)] [ar 0 Y93 r.1 .dp] := by
  refine ⟨enters_of Go.Proofs.Try.func22 rfl (by decide), HM.intro [.lf (.v (.int .i64))] T_ok Go.Proofs.Try.func22 rfl (Nat.le_of_ble_eq_true rfl) (Nat.le_of_ble_eq_true rfl) fun w0 E0 => ?_⟩
  unfold F22 at h
  show VW _ _ _ _ _ (retM _ _ _ _ _) _
  refine sR T_ok [0, 1, 65536] [0] ⟨[(0, .lf (.hd 0 0 none)), (1, I a1), (65536, .lf (.hd 0 0 none))], [ar 0 Y93 a0 .dp]⟩ (tn 1) ?_
  refine VW.join (fun s => ∃ (x35 : Int) (x36 : (List (ByteArray × Int))), s = ⟨[(1, I x35), (65536, .lf (.hd 0 0 none))], [ar 0 Y93 x36 .dp]⟩ ∧ F22_j0 N x35 x36 = some r) ?_ ?_
  · refine sR T_ok [0, 1, 5, 65536] [0] ⟨[(0, .lf (.hd 0 0 none)), (1, I a1), (5, I (0 : Int)), (65536, .lf (.hd 0 0 none))], [ar 0 Y93 a0 .dp]⟩ (tn 1) ?_
    refine VW.block ?_
    refine lop (fun k s => ∃ (x48 : (List (ByteArray × Int))) (x49 : Int) (x50 : Int), s = ⟨[(0, .lf (.hd 0 0 none)), (1, I x49), (5, I x50), (65536, .lf (.hd 0 0 none))], [ar 0 Y93 x48 .dp]⟩ ∧ F22_l0 N k x48 x49 x50 = some r) N [.ren [0, 1, 5, 65536] [0]] ⟨a0, a1, (0 : Int), rfl, h⟩ ?_
    rintro k61 s ⟨x48, x49, x50, rfl, h⟩
    cases k61 with
    | zero => cases show none = some r from h
    | succ k61 =>
      replace h : F22_l0_b N (F22_l0 N k61) x48 x49 x50 = some r := h
      unfold F22_l0_b at h
      refine VW.seq ?_
      refine sR T_ok [0, 1, 5, 9, 65536] [0] ⟨[(0, .lf (.hd 0 0 none)), (1, I x49), (5, I x50), (9, B (decide (x50 < (x48.length : Int)))), (65536, .lf (.hd 0 0 none))], [ar 0 Y93 x48 .dp]⟩ (tn 4) ?_
      refine cnd h (fun h => ?_) (fun h => ?_)
      · refine VW.skip ?_
        refine VW.seq ?_
        refine VW.block ?_
        refine VW.seq ?_
        refine VW.region ?_
        refine sG T_ok 3 [0, 1, 5, 12, 13, 14, 65536] [0] ⟨[(0, .lf (.hd 0 0 none)), (1, I x49), (5, I x50), (12, .lf (.hd 0 0 none)), (13, I x50), (14, I x49), (65536, .lf (.hd 0 0 none))], [ar 0 Y93 x48 .dp]⟩ (tn 3) ?_
        obtain ⟨y67, hy, h⟩ := andO_some h
        refine cal false [.t (.int .i64)] [] (some 15) T_ok (ok69 N _ hy) ?_
        obtain ⟨g68, h⟩ := gd_some h
        obtain ⟨g69, h⟩ := gd_some h
        refine sN T_ok [0, 1, 5, 65536] [0] ⟨[(0, .lf (.hd 0 0 none)), (1, I x49), (5, I x50), (65536, .lf (.hd 0 0 none))], [ar 0 Y93 (x48.set x50.toNat (y67, (x48.getD x50.toNat (Ty.dflt Y93)).2)) .dp]⟩ (an g68 (pu 1 (an g69 (tn 0)))) ?_
        refine sR T_ok [0, 1, 5, 65536] [0] ⟨[(0, .lf (.hd 0 0 none)), (1, I (IntKind.i64.wrap (x49 + (1 : Int)))), (5, I x50), (65536, .lf (.hd 0 0 none))], [ar 0 Y93 (x48.set x50.toNat (y67, (x48.getD x50.toNat (Ty.dflt Y93)).2)) .dp]⟩ (tn 3) ?_
        obtain ⟨g70, h⟩ := gd_some h
        obtain ⟨g71, h⟩ := gd_some h
        refine sR T_ok [0, 1, 5, 65536] [0] ⟨[(0, .lf (.hd 0 0 none)), (1, I (IntKind.i64.wrap (x49 + (1 : Int)))), (5, I x50), (65536, .lf (.hd 0 0 none))], [ar 0 Y93 ((x48.set x50.toNat (y67, (x48.getD x50.toNat (Ty.dflt Y93)).2)).set x50.toNat (((x48.set x50.toNat (y67, (x48.getD x50.toNat (Ty.dflt Y93)).2)).getD x50.toNat (Ty.dflt Y93)).1, (IntKind.i64.wrap (x49 + (1 : Int))))) .dp]⟩ (pu 3 (an g70 (pu 1 (an g71 (tn 0))))) ?_
        refine rR T_ok [0, 1, 5, 65536] [0] ⟨[(0, .lf (.hd 0 0 none)), (1, I (IntKind.i64.wrap ((IntKind.i64.wrap (x49 + (1 : Int))) + (1 : Int)))), (5, I x50), (65536, .lf (.hd 0 0 none))], [ar 0 Y93 ((x48.set x50.toNat (y67, (x48.getD x50.toNat (Ty.dflt Y93)).2)).set x50.toNat (((x48.set x50.toNat (y67, (x48.getD x50.toNat (Ty.dflt Y93)).2)).getD x50.toNat (Ty.dflt Y93)).1, (IntKind.i64.wrap (x49 + (1 : Int))))) .dp]⟩ (tn 3) ?_
        refine rR T_ok [0, 1, 5, 65536] [0] ⟨[(0, .lf (.hd 0 0 none)), (1, I (IntKind.i64.wrap ((IntKind.i64.wrap (x49 + (1 : Int))) + (1 : Int)))), (5, I (IntKind.i64.wrap (x50 + (1 : Int)))), (65536, .lf (.hd 0 0 none))], [ar 0 Y93 ((x48.set x50.toNat (y67, (x48.getD x50.toNat (Ty.dflt Y93)).2)).set x50.toNat (((x48.set x50.toNat (y67, (x48.getD x50.toNat (Ty.dflt Y93)).2)).getD x50.toNat (Ty.dflt Y93)).1, (IntKind.i64.wrap (x49 + (1 : Int))))) .dp]⟩ (tn 3) ?_
        exact aro [.ren [0, 1, 5, 65536] [0]] ⟨((x48.set x50.toNat (y67, (x48.getD x50.toNat (Ty.dflt Y93)).2)).set x50.toNat (((x48.set x50.toNat (y67, (x48.getD x50.toNat (Ty.dflt Y93)).2)).getD x50.toNat (Ty.dflt Y93)).1, (IntKind.i64.wrap (x49 + (1 : Int))))), (IntKind.i64.wrap ((IntKind.i64.wrap (x49 + (1 : Int))) + (1 : Int))), (IntKind.i64.wrap (x50 + (1 : Int))), rfl, h⟩
      refine VW.exit ?_
      exact arv [.ren [1, 65536] [0]] ⟨x49, x48, rfl, h⟩
  rintro s ⟨x35, x36, rfl, h⟩
  unfold F22_j0 at h
  refine sR T_ok [4, 65536] [0] ⟨[(4, I x35), (65536, .lf (.hd 0 0 none))], [ar 0 Y93 x36 .dp]⟩ (tn 2) ?_
  replace h := Option.some.inj h
  subst h
  refine VW.ghl [.ren [4, 65536] [0]] (VW.ret ?_)
  exact ⟨[], by kernel_rfl, by kernel_rfl, by kernel_rfl⟩

/- loop.example/g00844/laws.markIntS -/
def F34_j0 (N : Nat) (x17 : Int) (x18 : (List Int)) : Option ((List Int) × Int) :=
  some (x18, x17)
def F34_l0_b (N : Nat) (nx31 : (List Int) → Int → Int → Option ((List Int) × Int)) (x24 : (List Int)) (x25 : Int) (x26 : Int) : Option ((List Int) × Int) :=
  cond (decide (x26 < (x24.length : Int))) (gd (InR x26 x24.length) (gd (x26.toNat < x24.length) (nx31 (x24.set x26.toNat x25) (IntKind.i64.wrap (x25 + (1 : Int))) (IntKind.i64.wrap (x26 + (1 : Int)))))) (F34_j0 N x25 x24)
def F34_l0 (N : Nat) : Nat → (List Int) → Int → Int → Option ((List Int) × Int) := loopF (F34_l0_b N) (fun _ _ _ => none)
theorem F34_l0_s (N : Nat) {k : Nat} (hk : 0 < k) (x24 : (List Int)) (x25 : Int) (x26 : Int) : F34_l0 N k x24 x25 x26 = F34_l0_b N (F34_l0 N (k - 1)) x24 x25 x26 := by
  cases k with
  | zero => exact absurd hk (Nat.lt_irrefl 0)
  | succ m => rfl
def F34 (N : Nat) (a0 : (List Int)) (a1 : Int) : Option ((List Int) × Int) :=
  F34_l0 N N a0 a1 (0 : Int)
theorem ok34 (N : Nat) (a0 : (List Int)) (a1 : Int) {r : (List Int) × Int} (h : F34 N a0 a1 = some r) : ConM Go.Proofs.Try.prog 34 [ar 0 (.int .i64) a0 .dp] [.lf (.hd 0 0 none), I a1] [.lf (.v (.int .i64) r.2)] [ar 0 (.int .i64) r.1 .dp] := by
  refine ⟨enters_of Go.Proofs.Try.func34 rfl (by decide), HM.intro [.lf (.v (.int .i64))] T_ok Go.Proofs.Try.func34 rfl (Nat.le_of_ble_eq_true rfl) (Nat.le_of_ble_eq_true rfl) fun w0 E0 => ?_⟩
  unfold F34 at h
  show VW _ _ _ _ _ (retM _ _ _ _ _) _
  refine sR T_ok [0, 1, 65536] [0] ⟨[(0, .lf (.hd 0 0 none)), (1, I a1), (65536, .lf (.hd 0 0 none))], [ar 0 (.int .i64) a0 .dp]⟩ (tn 1) ?_
  refine VW.join (fun s => ∃ (x17 : Int) (x18 : (List Int)), s = ⟨[(1, I x17), (65536, .lf (.hd 0 0 none))], [ar 0 (.int .i64) x18 .dp]⟩ ∧ F34_j0 N x17 x18 = some r) ?_ ?_
  · refine sR T_ok [0, 1, 5, 65536] [0] ⟨[(0, .lf (.hd 0 0 none)), (1, I a1), (5, I (0 : Int)), (65536, .lf (.hd 0 0 none))], [ar 0 (.int .i64) a0 .dp]⟩ (tn 1) ?_
    refine VW.block ?_
    refine lop (fun k s => ∃ (x24 : (List Int)) (x25 : Int) (x26 : Int), s = ⟨[(0, .lf (.hd 0 0 none)), (1, I x25), (5, I x26), (65536, .lf (.hd 0 0 none))], [ar 0 (.int .i64) x24 .dp]⟩ ∧ F34_l0 N k x24 x25 x26 = some r) N [.ren [0, 1, 5, 65536] [0]] ⟨a0, a1, (0 : Int), rfl, h⟩ ?_
    rintro k31 s ⟨x24, x25, x26, rfl, h⟩
    cases k31 with
    | zero => cases show none = some r from h
    | succ k31 =>
      replace h : F34_l0_b N (F34_l0 N k31) x24 x25 x26 = some r := h
      unfold F34_l0_b at h
      refine VW.seq ?_
      refine sR T_ok [0, 1, 5, 9, 65536] [0] ⟨[(0, .lf (.hd 0 0 none)), (1, I x25), (5, I x26), (9, B (decide (x26 < (x24.length : Int)))), (65536, .lf (.hd 0 0 none))], [ar 0 (.int .i64) x24 .dp]⟩ (tn 4) ?_
      refine cnd h (fun h => ?_) (fun h => ?_)
      · refine VW.skip ?_
        refine VW.seq ?_
        refine VW.block ?_
        obtain ⟨g34, h⟩ := gd_some h
        obtain ⟨g35, h⟩ := gd_some h
        refine sR T_ok [0, 1, 5, 65536] [0] ⟨[(0, .lf (.hd 0 0 none)), (1, I x25), (5, I x26), (65536, .lf (.hd 0 0 none))], [ar 0 (.int .i64) (x24.set x26.toNat x25) .dp]⟩ (pu 3 (an g34 (an g35 (tn 0)))) ?_
        refine rR T_ok [0, 1, 5, 65536] [0] ⟨[(0, .lf (.hd 0 0 none)), (1, I (IntKind.i64.wrap (x25 + (1 : Int)))), (5, I x26), (65536, .lf (.hd 0 0 none))], [ar 0 (.int .i64) (x24.set x26.toNat x25) .dp]⟩ (tn 3) ?_
        refine rR T_ok [0, 1, 5, 65536] [0] ⟨[(0, .lf (.hd 0 0 none)), (1, I (IntKind.i64.wrap (x25 + (1 : Int)))), (5, I (IntKind.i64.wrap (x26 + (1 : Int)))), (65536, .lf (.hd 0 0 none))], [ar 0 (.int .i64) (x24.set x26.toNat x25) .dp]⟩ (tn 3) ?_
        exact aro [.ren [0, 1, 5, 65536] [0]] ⟨(x24.set x26.toNat x25), (IntKind.i64.wrap (x25 + (1 : Int))), (IntKind.i64.wrap (x26 + (1 : Int))), rfl, h⟩
      refine VW.exit ?_
      exact arv [.ren [1, 65536] [0]] ⟨x25, x24, rfl, h⟩
  rintro s ⟨x17, x18, rfl, h⟩
  unfold F34_j0 at h
  refine sR T_ok [4, 65536] [0] ⟨[(4, I x17), (65536, .lf (.hd 0 0 none))], [ar 0 (.int .i64) x18 .dp]⟩ (tn 2) ?_
  replace h := Option.some.inj h
  subst h
  refine VW.ghl [.ren [4, 65536] [0]] (VW.ret ?_)
  exact ⟨[], by kernel_rfl, by kernel_rfl, by kernel_rfl⟩

end Go.Proofs.Ytgpddckjpokclaa.Vc
