/- What functions of the program compute, and that they do. -/
import Derived.Test.YtgpddckjpokclaaProg
import Derived.Test.YtgpddckjpokclaaVd2
import Derived.Test.YtgpddckjpokclaaShelf
namespace Go.Proofs.Ytgpddckjpokclaa.Vc
open Go Go.RowKit
set_option linter.unusedVariables false
set_option maxRecDepth 100000
set_option maxHeartbeats 4000000
abbrev Y7 : Ty := .pair (.int .i64) (.pair (.int .i64) (.pair .bool (.int .u8)))
abbrev Y13 : Ty := .pair .str (.int .u64)
abbrev Y31 : Ty := .pair (.int .i64) (.pair (.sl (.pair .str (.int .i64))) (.pair (.sl (.pair (.int .i64) (.pair (.sl (.pair (.int .i64) (.pair .str (.pair (.int .i64) (.pair (.int .i64) (.pair (.int .i64) (.pair .bool (.sl (.int .i64))))))))) (.pair (.sl (.pair (.int .i64) (.pair .str (.pair (.int .i64) (.pair (.int .i64) (.pair (.int .i64) (.pair .bool (.sl (.int .i64))))))))) (.pair (.int .i64) (.int .i64)))))) (.pair (.int .i64) (.pair (.int .i64) (.pair (.int .i64) (.pair (.int .i64) (.pair (.int .i64) (.int .i64))))))))
abbrev Y58 : Ty := .pair (.int .i64) (.pair (.sl (.int .i64)) (.sl (.int .i64)))
abbrev Y69 : Ty := .pair (.int .i64) (.int .i64)
abbrev Y93 : Ty := .pair .str (.int .i64)
abbrev Y105 : Ty := .pair (.int .i64) (.pair .str (.pair (.int .i64) (.pair (.int .i64) (.pair (.int .i64) (.pair .bool (.sl (.int .i64)))))))
abbrev Y151 : Ty := .pair (.int .i64) (.pair (.sl Y105) (.pair (.sl Y105) Y69))
abbrev Y159 : Ty := .pair (.sl (.int .u8)) Y69
abbrev Y182 : Ty := .pair (.sl (.int .u8)) (.pair (.int .i64) .bool)
def TL : List (Nat × TI) := [(2, { ty := (.int .i64) }),
  (3, { ty := (.int .i64) }),
  (4, { ty := .bool }),
  (5, { ty := (.int .u8) }),
  (6, { ty := (.int .u8) }),
  (7, { ty := Y7, offs := [0, 1, 2, 3], szs := [1, 1, 1, 1] }),
  (8, { ty := Y7, offs := [0, 1, 2, 3], szs := [1, 1, 1, 1] }),
  (9, { ty := .str }),
  (10, { ty := .str }),
  (11, { ty := .str }),
  (12, { ty := (.int .u64) }),
  (13, { ty := Y13, offs := [0, 1], szs := [1, 1] }),
  (14, { ty := Y13, offs := [0, 1], szs := [1, 1] }),
  (21, { ty := (.int .i32) }),
  (22, { ty := (.sl .str), elem := 9 }),
  (27, { ty := (.sl Y93), elem := 94 }),
  (29, { ty := (.sl Y93), elem := 98 }),
  (30, { ty := (.sl Y151), elem := 152 }),
  (31, { ty := Y31, offs := [0, 1, 2, 3, 4, 5, 6, 7, 8], szs := [1, 1, 1, 1, 1, 1, 1, 1, 1] }),
  (32, { ty := Y31, offs := [0, 1, 2, 3, 4, 5, 6, 7, 8], szs := [1, 1, 1, 1, 1, 1, 1, 1, 1] }),
  (41, { ty := (.sl Y105), elem := 106 }),
  (44, { ty := (.sl Y105), elem := 107 }),
  (48, { ty := (.sl (.int .i64)), elem := 3 }),
  (53, { ty := (.sl (.int .u8)), elem := 5 }),
  (58, { ty := Y58, offs := [0, 1, 2], szs := [1, 1, 1] }),
  (59, { ty := Y58, offs := [0, 1, 2], szs := [1, 1, 1] }),
  (69, { ty := Y69, offs := [0, 1], szs := [1, 1] }),
  (70, { ty := Y69, offs := [0, 1], szs := [1, 1] }),
  (73, { ty := Y69, offs := [0, 1], szs := [1, 1] }),
  (76, { ty := (.sl Y69), elem := 73 }),
  (93, { ty := Y93, offs := [0, 1], szs := [1, 1] }),
  (94, { ty := Y93, offs := [0, 1], szs := [1, 1] }),
  (98, { ty := Y93, offs := [0, 1], szs := [1, 1] }),
  (105, { ty := Y105, offs := [0, 1, 2, 3, 4, 5, 6], szs := [1, 1, 1, 1, 1, 1, 1] }),
  (106, { ty := Y105, offs := [0, 1, 2, 3, 4, 5, 6], szs := [1, 1, 1, 1, 1, 1, 1] }),
  (107, { ty := Y105, offs := [0, 1, 2, 3, 4, 5, 6], szs := [1, 1, 1, 1, 1, 1, 1] }),
  (133, { ty := (.sl (.sl Y105)), elem := 44 }),
  (146, { ty := (.sl Y69), elem := 148 }),
  (147, { ty := Y69, offs := [0, 1], szs := [1, 1] }),
  (148, { ty := Y69, offs := [0, 1], szs := [1, 1] }),
  (151, { ty := Y151, offs := [0, 1, 2, 3, 4], szs := [1, 1, 1, 1, 1] }),
  (152, { ty := Y151, offs := [0, 1, 2, 3, 4], szs := [1, 1, 1, 1, 1] }),
  (158, { ty := (.int .u64) }),
  (159, { ty := Y159, offs := [0, 1, 2], szs := [1, 1, 1] }),
  (160, { ty := Y159, offs := [0, 1, 2], szs := [1, 1, 1] }),
  (182, { ty := Y182, offs := [0, 1, 2], szs := [1, 1, 1] }),
  (183, { ty := Y182, offs := [0, 1, 2], szs := [1, 1, 1] }),
  (190, { ty := (.int .i64) }),
  (198, { ty := (.int .u32) }),
  (200, { ty := (.int .u64) }),
  (205, { ty := (.sl (.sl (.int .u8))), elem := 53 }),
  (207, { ty := (.int .u64) }),
  (225, { ty := (.int .u8) }),
  (226, { ty := (.int .u8) }),
  (229, { ty := (.int .i32) }),
  (230, { ty := (.int .i32) })]
abbrev T : Tab := lookT TL
theorem T_ok : TabOk Go.Proofs.Try.prog T := tabOk_of TL (by kernel_rfl)
theorem T_rec : RecOk Go.Proofs.Try.prog T := recOk_of TL (by kernel_rfl)
/- loop.example/g00844/laws.markText -/
def F69_j0 (N : Nat) (x7 : ByteArray) : Option (ByteArray) :=
  gd ((⟨#[109]⟩ : ByteArray).size + x7.size ≤ 9223372036854775807) (some ((⟨#[109]⟩ : ByteArray) ++ x7))
def F69_l0_b (N : Nat) (nx14 : Int → ByteArray → Option (ByteArray)) (x11 : Int) (x12 : ByteArray) : Option (ByteArray) :=
  cond (decide (x11 > (0 : Int))) (gd ((strOfNums ([(IntKind.u8.wrap (IntKind.i64.wrap ((48 : Int) + (Int.tmod x11 (10 : Int)))))])).size + x12.size ≤ 9223372036854775807) (nx14 (IntKind.i64.wrap (Int.tdiv x11 (10 : Int))) ((strOfNums ([(IntKind.u8.wrap (IntKind.i64.wrap ((48 : Int) + (Int.tmod x11 (10 : Int)))))])) ++ x12))) (F69_j0 N x12)
def F69_l0 (N : Nat) : Nat → Int → ByteArray → Option (ByteArray) := loopF (F69_l0_b N) (fun _ _ => none)
theorem F69_l0_s (N : Nat) {k : Nat} (hk : 0 < k) (x11 : Int) (x12 : ByteArray) : F69_l0 N k x11 x12 = F69_l0_b N (F69_l0 N (k - 1)) x11 x12 := by
  cases k with
  | zero => exact absurd hk (Nat.lt_irrefl 0)
  | succ m => rfl
def F69 (N : Nat) (a0 : Int) : Option (ByteArray) :=
  cond (decide (a0 ≤ (0 : Int))) (some (⟨#[109, 48]⟩ : ByteArray)) (F69_l0 N N a0 ByteArray.empty)
theorem ok69 (N : Nat) (a0 : Int) {r : ByteArray} (h : F69 N a0 = some r) : Con Go.Proofs.Try.prog 69 [I a0] [.lf (.v .str r)] := by
  refine ctr [.lf (.v .str)] T_ok Go.Proofs.Try.func69 rfl fun w0 E0 ht => ?_
  unfold F69 at h
  show VW _ _ _ _ _ (retQ _ _ _ _) _
  refine sR T_ok [0] [] ⟨[(0, I a0)], []⟩ (tn 1) ?_
  refine VW.seq ?_
  refine sR T_ok [0, 5] [] ⟨[(0, I a0), (5, B (decide (a0 ≤ (0 : Int))))], []⟩ (tn 2) ?_
  refine cnd h (fun h => ?_) (fun h => ?_)
  · refine sR T_ok [2] [] ⟨[(2, S (⟨#[109, 48]⟩ : ByteArray))], []⟩ (tn 1) ?_
    refine VW.ret ?_
    replace h := Option.some.inj h
    subst h
    exact rt []
  refine VW.skip ?_
  refine sR T_ok [0, 3] [] ⟨[(0, I a0), (3, S ByteArray.empty)], []⟩ (tn 1) ?_
  refine VW.join (fun s => ∃ (x7 : ByteArray), s = ⟨[(3, S x7)], []⟩ ∧ F69_j0 N x7 = some r) ?_ ?_
  · refine VW.block ?_
    refine lop (fun k s => ∃ (x11 : Int) (x12 : ByteArray), s = ⟨[(0, I x11), (3, S x12)], []⟩ ∧ F69_l0 N k x11 x12 = some r) N [.ren [0, 3] []] ⟨a0, ByteArray.empty, rfl, h⟩ ?_
    rintro k14 s ⟨x11, x12, rfl, h⟩
    cases k14 with
    | zero => cases show none = some r from h
    | succ k14 =>
      replace h : F69_l0_b N (F69_l0 N k14) x11 x12 = some r := h
      unfold F69_l0_b at h
      refine VW.seq ?_
      refine sR T_ok [0, 3, 7] [] ⟨[(0, I x11), (3, S x12), (7, B (decide (x11 > (0 : Int))))], []⟩ (tn 2) ?_
      refine cnd h (fun h => ?_) (fun h => ?_)
      · refine VW.skip ?_
        refine VW.block ?_
        obtain ⟨g15, h⟩ := gd_some h
        refine sR T_ok [0, 3] [] ⟨[(0, I x11), (3, S ((strOfNums ([(IntKind.u8.wrap (IntKind.i64.wrap ((48 : Int) + (Int.tmod x11 (10 : Int)))))])) ++ x12))], []⟩ (pu 1 (an (show ((10 : Int) ≠ 0) from by decide) (pu 5 (an g15 (tn 1))))) ?_
        refine rR T_ok [0, 3] [] ⟨[(0, I (IntKind.i64.wrap (Int.tdiv x11 (10 : Int)))), (3, S ((strOfNums ([(IntKind.u8.wrap (IntKind.i64.wrap ((48 : Int) + (Int.tmod x11 (10 : Int)))))])) ++ x12))], []⟩ (pu 1 (an (show ((10 : Int) ≠ 0) from by decide) (tn 1))) ?_
        exact aro [.ren [0, 3] []] ⟨(IntKind.i64.wrap (Int.tdiv x11 (10 : Int))), ((strOfNums ([(IntKind.u8.wrap (IntKind.i64.wrap ((48 : Int) + (Int.tmod x11 (10 : Int)))))])) ++ x12), rfl, h⟩
      refine VW.exit ?_
      exact arv [.ren [3] []] ⟨x12, rfl, h⟩
  rintro s ⟨x7, rfl, h⟩
  unfold F69_j0 at h
  obtain ⟨g8, h⟩ := gd_some h
  refine sR T_ok [2] [] ⟨[(2, S ((⟨#[109]⟩ : ByteArray) ++ x7))], []⟩ (pu 1 (an g8 (tn 1))) ?_
  refine VW.ret ?_
  replace h := Option.some.inj h
  subst h
  exact rt []

/- loop.example/g00844/spec.l01In -/
def F71 (N : Nat) (a0 : Int) (a1 : Int) (a2 : Int) : Option (Bool) :=
  cond (decide (a1 ≤ a0)) (some (decide (a0 ≤ a2))) (some false)
theorem ok71 (N : Nat) (a0 : Int) (a1 : Int) (a2 : Int) {r : Bool} (h : F71 N a0 a1 a2 = some r) : Con Go.Proofs.Try.prog 71 [I a0, I a1, I a2] [.lf (.v .bool r)] := by
  refine ctr [.lf (.v .bool)] T_ok Go.Proofs.Try.func71 rfl fun w0 E0 ht => ?_
  unfold F71 at h
  show VW _ _ _ _ _ (retQ _ _ _ _) _
  refine sR T_ok [0, 1, 2] [] ⟨[(0, I a0), (1, I a1), (2, I a2)], []⟩ (tn 1) ?_
  refine VW.seq ?_
  refine VW.region ?_
  refine sG T_ok 4 [0, 2, 10] [] ⟨[(0, I a0), (2, I a2), (10, B (decide (a1 ≤ a0)))], []⟩ (tn 4) ?_
  refine spB 10 h (fun h => ?_) (fun h => ?_)
  · refine sN T_ok [6] [] ⟨[(6, B (decide (a0 ≤ a2)))], []⟩ (tn 5) ?_
    refine VW.ret ?_
    replace h := Option.some.inj h
    subst h
    exact rt []
  refine sN T_ok [6] [] ⟨[(6, B false)], []⟩ (tn 5) ?_
  refine VW.ret ?_
  replace h := Option.some.inj h
  subst h
  exact rt []

/- loop.example/g00844/spec.WordOk -/
def F138_j0 (N : Nat) : Option (Bool) :=
  some true
def F138_j1 (N : Nat) (nx74 : Int → Option (Bool)) (x60 : Int) : Option (Bool) :=
  nx74 (IntKind.i64.wrap (x60 + (1 : Int)))
def F138_l0_b (N : Nat) (a0 : ByteArray) (nx74 : Int → Option (Bool)) (x60 : Int) : Option (Bool) :=
  cond (decide (x60 < (a0.size : Int))) (gd (InR x60 a0.size) (cond (decide (((a0.data.getD x60.toNat 0).toNat : Int) < (97 : Int))) (gd (InR x60 a0.size) (cond (decide (((a0.data.getD x60.toNat 0).toNat : Int) < (48 : Int))) (some false) (gd (InR x60 a0.size) (cond (decide (((a0.data.getD x60.toNat 0).toNat : Int) > (57 : Int))) (some false) (F138_j1 N nx74 x60))))) (gd (InR x60 a0.size) (cond (decide (((a0.data.getD x60.toNat 0).toNat : Int) > (122 : Int))) (gd (InR x60 a0.size) (cond (decide (((a0.data.getD x60.toNat 0).toNat : Int) < (48 : Int))) (some false) (gd (InR x60 a0.size) (cond (decide (((a0.data.getD x60.toNat 0).toNat : Int) > (57 : Int))) (some false) (F138_j1 N nx74 x60))))) (F138_j1 N nx74 x60))))) (F138_j0 N)
def F138_l0 (N : Nat) (a0 : ByteArray) : Nat → Int → Option (Bool) := loopF (F138_l0_b N a0) (fun _ => none)
theorem F138_l0_s (N : Nat) (a0 : ByteArray) {k : Nat} (hk : 0 < k) (x60 : Int) : F138_l0 N a0 k x60 = F138_l0_b N a0 (F138_l0 N a0 (k - 1)) x60 := by
  cases k with
  | zero => exact absurd hk (Nat.lt_irrefl 0)
  | succ m => rfl
def F138 (N : Nat) (a0 : ByteArray) : Option (Bool) :=
  andO (F71 N (a0.size : Int) (1 : Int) (12 : Int)) fun y3 => cond (!y3) (some false) (gd (InR (0 : Int) a0.size) (cond (decide (((a0.data.getD (0 : Int).toNat 0).toNat : Int) < (97 : Int))) (some false) (F138_l0 N a0 N (0 : Int))))
theorem ok138 (N : Nat) (a0 : ByteArray) {r : Bool} (h : F138 N a0 = some r) : Con Go.Proofs.Try.prog 138 [S a0] [.lf (.v .bool r)] := by
  refine ctr [.lf (.v .bool)] T_ok Go.Proofs.Try.func138 rfl fun w0 E0 ht => ?_
  unfold F138 at h
  show VW _ _ _ _ _ (retQ _ _ _ _) _
  refine sR T_ok [0] [] ⟨[(0, S a0)], []⟩ (tn 1) ?_
  refine VW.seq ?_
  refine VW.seq ?_
  refine VW.region ?_
  refine sG T_ok 2 [0, 5] [] ⟨[(0, S a0), (5, I (a0.size : Int))], []⟩ (tn 2) ?_
  obtain ⟨y3, hy, h⟩ := andO_some h
  refine cal false [.t (.int .i64), .t (.int .i64), .t (.int .i64)] [] (some 6) T_ok (ok71 N _ _ _ hy) ?_
  refine sG T_ok 2 [0, 8] [] ⟨[(0, S a0), (8, B (!y3))], []⟩ (tn 2) ?_
  refine spB 8 h (fun h => ?_) (fun h => ?_)
  · refine sN T_ok [0, 12] [] ⟨[(0, S a0), (12, B true)], []⟩ (tn 4) ?_
    refine VW.cond (b := true) (by kernel_rfl) (fun _ => ?_) (fun h' => nomatch h')
    refine sR T_ok [2] [] ⟨[(2, B false)], []⟩ (tn 1) ?_
    refine VW.ret ?_
    replace h := Option.some.inj h
    subst h
    exact rt []
  obtain ⟨g4, h⟩ := gd_some h
  refine sN T_ok [0, 12] [] ⟨[(0, S a0), (12, B (decide (((a0.data.getD (0 : Int).toNat 0).toNat : Int) < (97 : Int))))], []⟩ (pu 1 (an g4 (tn 2))) ?_
  refine cnd h (fun h => ?_) (fun h => ?_)
  · refine sR T_ok [2] [] ⟨[(2, B false)], []⟩ (tn 1) ?_
    refine VW.ret ?_
    replace h := Option.some.inj h
    subst h
    exact rt []
  refine VW.skip ?_
  refine VW.join (fun s => s = ⟨[], []⟩ ∧ F138_j0 N = some r) ?_ ?_
  · refine sR T_ok [0, 3] [] ⟨[(0, S a0), (3, I (0 : Int))], []⟩ (tn 1) ?_
    refine VW.block ?_
    refine lop (fun k s => ∃ (x60 : Int), s = ⟨[(0, S a0), (3, I x60)], []⟩ ∧ F138_l0 N a0 k x60 = some r) N [.ren [0, 3] []] ⟨(0 : Int), rfl, h⟩ ?_
    rintro k74 s ⟨x60, rfl, h⟩
    cases k74 with
    | zero => cases show none = some r from h
    | succ k74 =>
      replace h : F138_l0_b N a0 (F138_l0 N a0 k74) x60 = some r := h
      unfold F138_l0_b at h
      refine VW.seq ?_
      refine sR T_ok [0, 3, 16] [] ⟨[(0, S a0), (3, I x60), (16, B (decide (x60 < (a0.size : Int))))], []⟩ (tn 4) ?_
      refine cnd h (fun h => ?_) (fun h => ?_)
      · refine VW.skip ?_
        refine VW.join (fun s => s = ⟨[(0, S a0), (3, I x60)], []⟩ ∧ F138_j1 N (F138_l0 N a0 k74) x60 = some r) ?_ ?_
        · refine VW.block ?_
          refine VW.seq ?_
          refine VW.region ?_
          obtain ⟨g82, h⟩ := gd_some h
          refine sG T_ok 5 [0, 3, 23] [] ⟨[(0, S a0), (3, I x60), (23, B (decide (((a0.data.getD x60.toNat 0).toNat : Int) < (97 : Int))))], []⟩ (pu 2 (an g82 (tn 2))) ?_
          refine spB 23 h (fun h => ?_) (fun h => ?_)
          · obtain ⟨g83, h⟩ := gd_some h
            refine sG T_ok 11 [0, 3, 29, 34] [] ⟨[(0, S a0), (3, I x60), (29, B true), (34, B (decide (((a0.data.getD x60.toNat 0).toNat : Int) < (48 : Int))))], []⟩ (pu 8 (an g83 (tn 2))) ?_
            refine spB 34 h (fun h => ?_) (fun h => ?_)
            · refine sN T_ok [0, 3, 40] [] ⟨[(0, S a0), (3, I x60), (40, B true)], []⟩ (tn 6) ?_
              refine VW.cond (b := true) (by kernel_rfl) (fun _ => ?_) (fun h' => nomatch h')
              refine sR T_ok [2] [] ⟨[(2, B false)], []⟩ (tn 1) ?_
              refine VW.ret ?_
              replace h := Option.some.inj h
              subst h
              exact rt []
            obtain ⟨g84, h⟩ := gd_some h
            refine sN T_ok [0, 3, 40] [] ⟨[(0, S a0), (3, I x60), (40, B (decide (((a0.data.getD x60.toNat 0).toNat : Int) > (57 : Int))))], []⟩ (pu 2 (an g84 (tn 3))) ?_
            refine cnd h (fun h => ?_) (fun h => ?_)
            · refine sR T_ok [2] [] ⟨[(2, B false)], []⟩ (tn 1) ?_
              refine VW.ret ?_
              replace h := Option.some.inj h
              subst h
              exact rt []
            refine VW.skip ?_
            exact arv [.ren [0, 3] []] ⟨rfl, h⟩
          obtain ⟨g85, h⟩ := gd_some h
          refine sG T_ok 6 [0, 3, 29] [] ⟨[(0, S a0), (3, I x60), (29, B (decide (((a0.data.getD x60.toNat 0).toNat : Int) > (122 : Int))))], []⟩ (pu 2 (an g85 (tn 3))) ?_
          refine spB 29 h (fun h => ?_) (fun h => ?_)
          · obtain ⟨g86, h⟩ := gd_some h
            refine sG T_ok 5 [0, 3, 29, 34] [] ⟨[(0, S a0), (3, I x60), (29, B true), (34, B (decide (((a0.data.getD x60.toNat 0).toNat : Int) < (48 : Int))))], []⟩ (pu 2 (an g86 (tn 2))) ?_
            refine spB 34 h (fun h => ?_) (fun h => ?_)
            · refine sN T_ok [0, 3, 40] [] ⟨[(0, S a0), (3, I x60), (40, B true)], []⟩ (tn 6) ?_
              refine VW.cond (b := true) (by kernel_rfl) (fun _ => ?_) (fun h' => nomatch h')
              refine sR T_ok [2] [] ⟨[(2, B false)], []⟩ (tn 1) ?_
              refine VW.ret ?_
              replace h := Option.some.inj h
              subst h
              exact rt []
            obtain ⟨g87, h⟩ := gd_some h
            refine sN T_ok [0, 3, 40] [] ⟨[(0, S a0), (3, I x60), (40, B (decide (((a0.data.getD x60.toNat 0).toNat : Int) > (57 : Int))))], []⟩ (pu 2 (an g87 (tn 3))) ?_
            refine cnd h (fun h => ?_) (fun h => ?_)
            · refine sR T_ok [2] [] ⟨[(2, B false)], []⟩ (tn 1) ?_
              refine VW.ret ?_
              replace h := Option.some.inj h
              subst h
              exact rt []
            refine VW.skip ?_
            exact arv [.ren [0, 3] []] ⟨rfl, h⟩
          refine sN T_ok [0, 3, 40] [] ⟨[(0, S a0), (3, I x60), (40, B false)], []⟩ (tn 11) ?_
          refine VW.cond (b := false) (by kernel_rfl) (fun h' => nomatch h') (fun _ => ?_)
          refine VW.skip ?_
          exact arv [.ren [0, 3] []] ⟨rfl, h⟩
        rintro s ⟨rfl, h⟩
        unfold F138_j1 at h
        refine rR T_ok [0, 3] [] ⟨[(0, S a0), (3, I (IntKind.i64.wrap (x60 + (1 : Int))))], []⟩ (tn 3) ?_
        exact aro [.ren [0, 3] []] ⟨(IntKind.i64.wrap (x60 + (1 : Int))), rfl, h⟩
      refine VW.exit ?_
      exact arv [.ren [] []] ⟨rfl, h⟩
  rintro s ⟨rfl, h⟩
  unfold F138_j0 at h
  refine sR T_ok [2] [] ⟨[(2, B true)], []⟩ (tn 1) ?_
  refine VW.ret ?_
  replace h := Option.some.inj h
  subst h
  exact rt []

/- loop.example/g00844/impl.in -/
def F130 (N : Nat) (a0 : Int) (a1 : Int) (a2 : Int) : Option (Bool) :=
  cond (decide (a0 ≥ a1)) (some (decide (a0 ≤ a2))) (some false)
theorem ok130 (N : Nat) (a0 : Int) (a1 : Int) (a2 : Int) {r : Bool} (h : F130 N a0 a1 a2 = some r) : Con Go.Proofs.Try.prog 130 [I a0, I a1, I a2] [.lf (.v .bool r)] := by
  refine ctr [.lf (.v .bool)] T_ok Go.Proofs.Try.func130 rfl fun w0 E0 ht => ?_
  unfold F130 at h
  show VW _ _ _ _ _ (retQ _ _ _ _) _
  refine sR T_ok [0, 1, 2] [] ⟨[(0, I a0), (1, I a1), (2, I a2)], []⟩ (tn 1) ?_
  refine VW.seq ?_
  refine VW.region ?_
  refine sG T_ok 4 [0, 2, 10] [] ⟨[(0, I a0), (2, I a2), (10, B (decide (a0 ≥ a1)))], []⟩ (tn 4) ?_
  refine spB 10 h (fun h => ?_) (fun h => ?_)
  · refine sN T_ok [6] [] ⟨[(6, B (decide (a0 ≤ a2)))], []⟩ (tn 5) ?_
    refine VW.ret ?_
    replace h := Option.some.inj h
    subst h
    exact rt []
  refine sN T_ok [6] [] ⟨[(6, B false)], []⟩ (tn 5) ?_
  refine VW.ret ?_
  replace h := Option.some.inj h
  subst h
  exact rt []

/- loop.example/g00844/impl.WordOk -/
def F140_j0 (N : Nat) (a0 : ByteArray) : Option (Bool) :=
  andO (F130 N (a0.size : Int) (1 : Int) (12 : Int)) fun y14 => some y14
def F140_j1 (N : Nat) (nx25 : Int → Int → Option (Bool)) (x20 : Int) (x21 : Int) : Option (Bool) :=
  nx25 x20 (IntKind.i64.wrap (x21 + (1 : Int)))
def F140_l0_b (N : Nat) (a0 : ByteArray) (nx25 : Int → Int → Option (Bool)) (x20 : Int) (x21 : Int) : Option (Bool) :=
  cond (decide (x21 < x20)) (gd (InR x21 a0.size) (cond (decide (((a0.data.getD x21.toNat 0).toNat : Int) ≥ (97 : Int))) (cond (!(decide (((a0.data.getD x21.toNat 0).toNat : Int) ≤ (122 : Int)))) (cond (x21 == (0 : Int)) (some false) (cond (decide (((a0.data.getD x21.toNat 0).toNat : Int) < (48 : Int))) (some false) (cond (decide (((a0.data.getD x21.toNat 0).toNat : Int) > (57 : Int))) (some false) (F140_j1 N nx25 x20 x21)))) (F140_j1 N nx25 x20 x21)) (cond (x21 == (0 : Int)) (some false) (cond (decide (((a0.data.getD x21.toNat 0).toNat : Int) < (48 : Int))) (some false) (cond (decide (((a0.data.getD x21.toNat 0).toNat : Int) > (57 : Int))) (some false) (F140_j1 N nx25 x20 x21)))))) (F140_j0 N a0)
def F140_l0 (N : Nat) (a0 : ByteArray) : Nat → Int → Int → Option (Bool) := loopF (F140_l0_b N a0) (fun _ _ => none)
theorem F140_l0_s (N : Nat) (a0 : ByteArray) {k : Nat} (hk : 0 < k) (x20 : Int) (x21 : Int) : F140_l0 N a0 k x20 x21 = F140_l0_b N a0 (F140_l0 N a0 (k - 1)) x20 x21 := by
  cases k with
  | zero => exact absurd hk (Nat.lt_irrefl 0)
  | succ m => rfl
def F140 (N : Nat) (a0 : ByteArray) : Option (Bool) :=
  F140_l0 N a0 N (a0.size : Int) (0 : Int)
theorem ok140 (N : Nat) (a0 : ByteArray) {r : Bool} (h : F140 N a0 = some r) : Con Go.Proofs.Try.prog 140 [S a0] [.lf (.v .bool r)] := by
  refine ctr [.lf (.v .bool)] T_ok Go.Proofs.Try.func140 rfl fun w0 E0 ht => ?_
  unfold F140 at h
  show VW _ _ _ _ _ (retQ _ _ _ _) _
  refine sR T_ok [0] [] ⟨[(0, S a0)], []⟩ (tn 1) ?_
  refine VW.join (fun s => s = ⟨[(0, S a0)], []⟩ ∧ F140_j0 N a0 = some r) ?_ ?_
  · refine sR T_ok [0, 7, 8] [] ⟨[(0, S a0), (7, I (a0.size : Int)), (8, I (0 : Int))], []⟩ (tn 3) ?_
    refine VW.block ?_
    refine lop (fun k s => ∃ (x20 : Int) (x21 : Int), s = ⟨[(0, S a0), (7, I x20), (8, I x21)], []⟩ ∧ F140_l0 N a0 k x20 x21 = some r) N [.ren [0, 7, 8] []] ⟨(a0.size : Int), (0 : Int), rfl, h⟩ ?_
    rintro k25 s ⟨x20, x21, rfl, h⟩
    cases k25 with
    | zero => cases show none = some r from h
    | succ k25 =>
      replace h : F140_l0_b N a0 (F140_l0 N a0 k25) x20 x21 = some r := h
      unfold F140_l0_b at h
      refine sR T_ok [0, 7, 8, 9] [] ⟨[(0, S a0), (7, I x20), (8, I x21), (9, B (decide (x21 < x20)))], []⟩ (tn 1) ?_
      refine VW.seq ?_
      refine cnd h (fun h => ?_) (fun h => ?_)
      · refine VW.skip ?_
        refine VW.join (fun s => s = ⟨[(0, S a0), (7, I x20), (8, I x21)], []⟩ ∧ F140_j1 N (F140_l0 N a0 k25) x20 x21 = some r) ?_ ?_
        · refine VW.block ?_
          refine sR T_ok [0, 3, 7, 8] [] ⟨[(0, S a0), (3, I x21), (7, I x20), (8, I x21)], []⟩ (tn 2) ?_
          obtain ⟨g28, h⟩ := gd_some h
          refine sR T_ok [0, 3, 4, 7, 8] [] ⟨[(0, S a0), (3, I x21), (4, U ((a0.data.getD x21.toNat 0).toNat : Int)), (7, I x20), (8, I x21)], []⟩ (pu 2 (an g28 (tn 1))) ?_
          refine VW.seq ?_
          refine VW.region ?_
          refine sG T_ok 3 [0, 3, 4, 7, 8, 16] [] ⟨[(0, S a0), (3, I x21), (4, U ((a0.data.getD x21.toNat 0).toNat : Int)), (7, I x20), (8, I x21), (16, B (decide (((a0.data.getD x21.toNat 0).toNat : Int) ≥ (97 : Int))))], []⟩ (tn 3) ?_
          refine spB 16 h (fun h => ?_) (fun h => ?_)
          · refine sN T_ok [0, 3, 4, 5, 7, 8] [] ⟨[(0, S a0), (3, I x21), (4, U ((a0.data.getD x21.toNat 0).toNat : Int)), (5, B (decide (((a0.data.getD x21.toNat 0).toNat : Int) ≤ (122 : Int)))), (7, I x20), (8, I x21)], []⟩ (tn 4) ?_
            refine VW.seq ?_
            refine VW.region ?_
            refine sG T_ok 3 [0, 3, 4, 7, 8, 22] [] ⟨[(0, S a0), (3, I x21), (4, U ((a0.data.getD x21.toNat 0).toNat : Int)), (7, I x20), (8, I x21), (22, B (!(decide (((a0.data.getD x21.toNat 0).toNat : Int) ≤ (122 : Int)))))], []⟩ (tn 3) ?_
            refine spB 22 h (fun h => ?_) (fun h => ?_)
            · refine sG T_ok 3 [0, 4, 7, 8, 22, 25] [] ⟨[(0, S a0), (4, U ((a0.data.getD x21.toNat 0).toNat : Int)), (7, I x20), (8, I x21), (22, B true), (25, B (x21 == (0 : Int)))], []⟩ (tn 3) ?_
              refine spB 25 h (fun h => ?_) (fun h => ?_)
              · refine sN T_ok [0, 7, 8, 33] [] ⟨[(0, S a0), (7, I x20), (8, I x21), (33, B true)], []⟩ (tn 8) ?_
                refine VW.cond (b := true) (by kernel_rfl) (fun _ => ?_) (fun h' => nomatch h')
                refine sR T_ok [2] [] ⟨[(2, B false)], []⟩ (tn 1) ?_
                refine VW.ret ?_
                replace h := Option.some.inj h
                subst h
                exact rt []
              refine sG T_ok 4 [0, 4, 7, 8, 22, 29] [] ⟨[(0, S a0), (4, U ((a0.data.getD x21.toNat 0).toNat : Int)), (7, I x20), (8, I x21), (22, B true), (29, B (decide (((a0.data.getD x21.toNat 0).toNat : Int) < (48 : Int))))], []⟩ (tn 4) ?_
              refine spB 29 h (fun h => ?_) (fun h => ?_)
              · refine sN T_ok [0, 7, 8, 33] [] ⟨[(0, S a0), (7, I x20), (8, I x21), (33, B true)], []⟩ (tn 4) ?_
                refine VW.cond (b := true) (by kernel_rfl) (fun _ => ?_) (fun h' => nomatch h')
                refine sR T_ok [2] [] ⟨[(2, B false)], []⟩ (tn 1) ?_
                refine VW.ret ?_
                replace h := Option.some.inj h
                subst h
                exact rt []
              refine sN T_ok [0, 7, 8, 33] [] ⟨[(0, S a0), (7, I x20), (8, I x21), (33, B (decide (((a0.data.getD x21.toNat 0).toNat : Int) > (57 : Int))))], []⟩ (tn 4) ?_
              refine cnd h (fun h => ?_) (fun h => ?_)
              · refine sR T_ok [2] [] ⟨[(2, B false)], []⟩ (tn 1) ?_
                refine VW.ret ?_
                replace h := Option.some.inj h
                subst h
                exact rt []
              refine VW.skip ?_
              exact arv [.ren [0, 7, 8] []] ⟨rfl, h⟩
            refine sN T_ok [0, 7, 8, 33] [] ⟨[(0, S a0), (7, I x20), (8, I x21), (33, B false)], []⟩ (tn 11) ?_
            refine VW.cond (b := false) (by kernel_rfl) (fun h' => nomatch h') (fun _ => ?_)
            refine VW.skip ?_
            exact arv [.ren [0, 7, 8] []] ⟨rfl, h⟩
          refine sN T_ok [0, 3, 4, 5, 7, 8] [] ⟨[(0, S a0), (3, I x21), (4, U ((a0.data.getD x21.toNat 0).toNat : Int)), (5, B false), (7, I x20), (8, I x21)], []⟩ (tn 4) ?_
          refine VW.seq ?_
          refine VW.region ?_
          refine sG T_ok 6 [0, 4, 7, 8, 22, 25] [] ⟨[(0, S a0), (4, U ((a0.data.getD x21.toNat 0).toNat : Int)), (7, I x20), (8, I x21), (22, B true), (25, B (x21 == (0 : Int)))], []⟩ (tn 6) ?_
          refine spB 25 h (fun h => ?_) (fun h => ?_)
          · refine sN T_ok [0, 7, 8, 33] [] ⟨[(0, S a0), (7, I x20), (8, I x21), (33, B true)], []⟩ (tn 8) ?_
            refine VW.cond (b := true) (by kernel_rfl) (fun _ => ?_) (fun h' => nomatch h')
            refine sR T_ok [2] [] ⟨[(2, B false)], []⟩ (tn 1) ?_
            refine VW.ret ?_
            replace h := Option.some.inj h
            subst h
            exact rt []
          refine sG T_ok 4 [0, 4, 7, 8, 22, 29] [] ⟨[(0, S a0), (4, U ((a0.data.getD x21.toNat 0).toNat : Int)), (7, I x20), (8, I x21), (22, B true), (29, B (decide (((a0.data.getD x21.toNat 0).toNat : Int) < (48 : Int))))], []⟩ (tn 4) ?_
          refine spB 29 h (fun h => ?_) (fun h => ?_)
          · refine sN T_ok [0, 7, 8, 33] [] ⟨[(0, S a0), (7, I x20), (8, I x21), (33, B true)], []⟩ (tn 4) ?_
            refine VW.cond (b := true) (by kernel_rfl) (fun _ => ?_) (fun h' => nomatch h')
            refine sR T_ok [2] [] ⟨[(2, B false)], []⟩ (tn 1) ?_
            refine VW.ret ?_
            replace h := Option.some.inj h
            subst h
            exact rt []
          refine sN T_ok [0, 7, 8, 33] [] ⟨[(0, S a0), (7, I x20), (8, I x21), (33, B (decide (((a0.data.getD x21.toNat 0).toNat : Int) > (57 : Int))))], []⟩ (tn 4) ?_
          refine cnd h (fun h => ?_) (fun h => ?_)
          · refine sR T_ok [2] [] ⟨[(2, B false)], []⟩ (tn 1) ?_
            refine VW.ret ?_
            replace h := Option.some.inj h
            subst h
            exact rt []
          refine VW.skip ?_
          exact arv [.ren [0, 7, 8] []] ⟨rfl, h⟩
        rintro s ⟨rfl, h⟩
        unfold F140_j1 at h
        refine rR T_ok [0, 7, 8] [] ⟨[(0, S a0), (7, I x20), (8, I (IntKind.i64.wrap (x21 + (1 : Int))))], []⟩ (tn 2) ?_
        exact aro [.ren [0, 7, 8] []] ⟨x20, (IntKind.i64.wrap (x21 + (1 : Int))), rfl, h⟩
      refine VW.exit ?_
      exact arv [.ren [0] []] ⟨rfl, h⟩
  rintro s ⟨rfl, h⟩
  unfold F140_j0 at h
  refine VW.seq ?_
  refine VW.region ?_
  refine sG T_ok 2 [36] [] ⟨[(36, I (a0.size : Int))], []⟩ (tn 2) ?_
  obtain ⟨y14, hy, h⟩ := andO_some h
  refine cal false [.t (.int .i64), .t (.int .i64), .t (.int .i64)] [] (some 37) T_ok (ok130 N _ _ _ hy) ?_
  refine sN T_ok [2] [] ⟨[(2, B y14)], []⟩ (tn 1) ?_
  refine VW.ret ?_
  replace h := Option.some.inj h
  subst h
  exact rt []

/- loop.example/g00844/laws.eqIntS -/
def F32_j0 (N : Nat) : Option (Bool) :=
  some true
def F32_l0_b (N : Nat) (a0 : (List Int)) (a1 : (List Int)) (nx25 : Int → Option (Bool)) (x20 : Int) : Option (Bool) :=
  cond (decide (x20 < (a0.length : Int))) (gd (InR x20 a0.length) (gd (InR x20 a1.length) (cond ((a0.getD x20.toNat (Ty.dflt (.int .i64))) != (a1.getD x20.toNat (Ty.dflt (.int .i64)))) (some false) (nx25 (IntKind.i64.wrap (x20 + (1 : Int))))))) (F32_j0 N)
def F32_l0 (N : Nat) (a0 : (List Int)) (a1 : (List Int)) : Nat → Int → Option (Bool) := loopF (F32_l0_b N a0 a1) (fun _ => none)
theorem F32_l0_s (N : Nat) (a0 : (List Int)) (a1 : (List Int)) {k : Nat} (hk : 0 < k) (x20 : Int) : F32_l0 N a0 a1 k x20 = F32_l0_b N a0 a1 (F32_l0 N a0 a1 (k - 1)) x20 := by
  cases k with
  | zero => exact absurd hk (Nat.lt_irrefl 0)
  | succ m => rfl
def F32 (N : Nat) (a0 : (List Int)) (a1 : (List Int)) : Option (Bool) :=
  cond ((a0.length : Int) != (a1.length : Int)) (some false) (F32_l0 N a0 a1 N (0 : Int))
theorem ok32 (N : Nat) (a0 : (List Int)) (a1 : (List Int)) {r : Bool} (h : F32 N a0 a1 = some r) : Con Go.Proofs.Try.prog 32 [.lf (.v (.sl (.int .i64)) a0), .lf (.v (.sl (.int .i64)) a1)] [.lf (.v .bool r)] := by
  refine ctr [.lf (.v .bool)] T_ok Go.Proofs.Try.func32 rfl fun w0 E0 ht => ?_
  unfold F32 at h
  show VW _ _ _ _ _ (retQ _ _ _ _) _
  refine sR T_ok [0, 1] [] ⟨[(0, .lf (.v (.sl (.int .i64)) a0)), (1, .lf (.v (.sl (.int .i64)) a1))], []⟩ (tn 1) ?_
  refine VW.seq ?_
  refine sR T_ok [0, 1, 10] [] ⟨[(0, .lf (.v (.sl (.int .i64)) a0)), (1, .lf (.v (.sl (.int .i64)) a1)), (10, B ((a0.length : Int) != (a1.length : Int)))], []⟩ (tn 5) ?_
  refine cnd h (fun h => ?_) (fun h => ?_)
  · refine sR T_ok [4] [] ⟨[(4, B false)], []⟩ (tn 1) ?_
    refine VW.ret ?_
    replace h := Option.some.inj h
    subst h
    exact rt []
  refine VW.skip ?_
  refine VW.join (fun s => s = ⟨[], []⟩ ∧ F32_j0 N = some r) ?_ ?_
  · refine sR T_ok [0, 1, 5] [] ⟨[(0, .lf (.v (.sl (.int .i64)) a0)), (1, .lf (.v (.sl (.int .i64)) a1)), (5, I (0 : Int))], []⟩ (tn 1) ?_
    refine VW.block ?_
    refine lop (fun k s => ∃ (x20 : Int), s = ⟨[(0, .lf (.v (.sl (.int .i64)) a0)), (1, .lf (.v (.sl (.int .i64)) a1)), (5, I x20)], []⟩ ∧ F32_l0 N a0 a1 k x20 = some r) N [.ren [0, 1, 5] []] ⟨(0 : Int), rfl, h⟩ ?_
    rintro k25 s ⟨x20, rfl, h⟩
    cases k25 with
    | zero => cases show none = some r from h
    | succ k25 =>
      replace h : F32_l0_b N a0 a1 (F32_l0 N a0 a1 k25) x20 = some r := h
      unfold F32_l0_b at h
      refine VW.seq ?_
      refine sR T_ok [0, 1, 5, 14] [] ⟨[(0, .lf (.v (.sl (.int .i64)) a0)), (1, .lf (.v (.sl (.int .i64)) a1)), (5, I x20), (14, B (decide (x20 < (a0.length : Int))))], []⟩ (tn 4) ?_
      refine cnd h (fun h => ?_) (fun h => ?_)
      · refine VW.skip ?_
        refine VW.seq ?_
        refine VW.block ?_
        refine VW.seq ?_
        obtain ⟨g28, h⟩ := gd_some h
        obtain ⟨g29, h⟩ := gd_some h
        refine VW.drawn (by kernel_rfl) [some (17, .lf (.v (.sl (.int .i64)) a0)), some (18, I x20), some (19, .lf (.fp (.int .i64) (a0.getD x20.toNat (Ty.dflt (.int .i64))) 0)), some (20, I (a0.getD x20.toNat (Ty.dflt (.int .i64)))), some (21, .lf (.v (.sl (.int .i64)) a1)), some (22, I x20), some (23, .lf (.fp (.int .i64) (a1.getD x20.toNat (Ty.dflt (.int .i64))) 0)), some (24, I (a1.getD x20.toNat (Ty.dflt (.int .i64)))), some (25, B ((a0.getD x20.toNat (Ty.dflt (.int .i64))) != (a1.getD x20.toNat (Ty.dflt (.int .i64)))))] [] [[]] [(0, 0), (1, 0), (2, 0), (3, 0), (4, 0), (5, 0), (6, 0), (7, 0), (8, 0)] [0, 1, 5, 25] [] (s' := ⟨[(0, .lf (.v (.sl (.int .i64)) a0)), (1, .lf (.v (.sl (.int .i64)) a1)), (5, I x20), (25, B ((a0.getD x20.toNat (Ty.dflt (.int .i64))) != (a1.getD x20.toNat (Ty.dflt (.int .i64)))))], []⟩) (by kernel_rfl) (by kernel_rfl) ⟨⟨_, rfl, Stp.ev T_ok (m := .dp) (φ := True) (by kernel_rfl) trivial⟩,
    ⟨_, rfl, Stp.ev T_ok (m := .dp) (φ := True) (by kernel_rfl) trivial⟩,
    ⟨_, rfl, Stp.ev T_ok (m := .dp) (φ := InR x20 a0.length) (by kernel_rfl) g28⟩,
    ⟨_, rfl, Stp.ev T_ok (m := .dp) (φ := True) (by kernel_rfl) trivial⟩,
    ⟨_, rfl, Stp.ev T_ok (m := .dp) (φ := True) (by kernel_rfl) trivial⟩,
    ⟨_, rfl, Stp.ev T_ok (m := .dp) (φ := True) (by kernel_rfl) trivial⟩,
    ⟨_, rfl, Stp.ev T_ok (m := .dp) (φ := InR x20 a1.length) (by kernel_rfl) g29⟩,
    ⟨_, rfl, Stp.ev T_ok (m := .dp) (φ := True) (by kernel_rfl) trivial⟩,
    ⟨_, rfl, Stp.ev T_ok (m := .dp) (φ := True) (by kernel_rfl) trivial⟩, trivial⟩ (by kernel_rfl) ?_
        refine cnd h (fun h => ?_) (fun h => ?_)
        · refine sR T_ok [4] [] ⟨[(4, B false)], []⟩ (tn 1) ?_
          refine VW.ret ?_
          replace h := Option.some.inj h
          subst h
          exact rt []
        refine VW.skip ?_
        refine rR T_ok [0, 1, 5] [] ⟨[(0, .lf (.v (.sl (.int .i64)) a0)), (1, .lf (.v (.sl (.int .i64)) a1)), (5, I (IntKind.i64.wrap (x20 + (1 : Int))))], []⟩ (tn 3) ?_
        exact aro [.ren [0, 1, 5] []] ⟨(IntKind.i64.wrap (x20 + (1 : Int))), rfl, h⟩
      refine VW.exit ?_
      exact arv [.ren [] []] ⟨rfl, h⟩
  rintro s ⟨rfl, h⟩
  unfold F32_j0 at h
  refine sR T_ok [4] [] ⟨[(4, B true)], []⟩ (tn 1) ?_
  refine VW.ret ?_
  replace h := Option.some.inj h
  subst h
  exact rt []

/- loop.example/g00844/laws.eqNode -/
def F85 (N : Nat) (a0 : (Int × (ByteArray × (Int × (Int × (Int × (Bool × (List Int)))))))) (a1 : (Int × (ByteArray × (Int × (Int × (Int × (Bool × (List Int)))))))) : Option (Bool) :=
  cond (a0.1 != a1.1) (some false) (cond (!(a0.2.1.toList == a1.2.1.toList)) (some false) (cond (a0.2.2.1 != a1.2.2.1) (some false) (cond (a0.2.2.2.1 != a1.2.2.2.1) (some false) (cond (a0.2.2.2.2.1 != a1.2.2.2.2.1) (some false) (cond (!(a0.2.2.2.2.2.1 == a1.2.2.2.2.2.1)) (some false) (andO (F32 N a0.2.2.2.2.2.2 a1.2.2.2.2.2.2) fun y2 => cond (!y2) (some false) (some true)))))))
theorem ok85 (N : Nat) (a0 : (Int × (ByteArray × (Int × (Int × (Int × (Bool × (List Int)))))))) (a1 : (Int × (ByteArray × (Int × (Int × (Int × (Bool × (List Int)))))))) {r : Bool} (h : F85 N a0 a1 = some r) : Con Go.Proofs.Try.prog 85 [.agg [.v (.int .i64) a0.1, .v .str a0.2.1, .v (.int .i64) a0.2.2.1, .v (.int .i64) a0.2.2.2.1, .v (.int .i64) a0.2.2.2.2.1, .v .bool a0.2.2.2.2.2.1, .v (.sl (.int .i64)) a0.2.2.2.2.2.2], .agg [.v (.int .i64) a1.1, .v .str a1.2.1, .v (.int .i64) a1.2.2.1, .v (.int .i64) a1.2.2.2.1, .v (.int .i64) a1.2.2.2.2.1, .v .bool a1.2.2.2.2.2.1, .v (.sl (.int .i64)) a1.2.2.2.2.2.2]] [.lf (.v .bool r)] := by
  refine ctr [.lf (.v .bool)] T_ok Go.Proofs.Try.func85 rfl fun w0 E0 ht => ?_
  unfold F85 at h
  show VW _ _ _ _ _ (retQ _ _ _ _) _
  refine sR T_ok [2, 3] [0, 1] ⟨[(2, .lf (.ptr 0 0 0 0)), (3, .lf (.ptr 1 0 0 0))], [bx [.v (.int .i64) a0.1, .v .str a0.2.1, .v (.int .i64) a0.2.2.1, .v (.int .i64) a0.2.2.2.1, .v (.int .i64) a0.2.2.2.2.1, .v .bool a0.2.2.2.2.2.1, .v (.sl (.int .i64)) a0.2.2.2.2.2.2] 107, bx [.v (.int .i64) a1.1, .v .str a1.2.1, .v (.int .i64) a1.2.2.1, .v (.int .i64) a1.2.2.2.1, .v (.int .i64) a1.2.2.2.2.1, .v .bool a1.2.2.2.2.2.1, .v (.sl (.int .i64)) a1.2.2.2.2.2.2] 107]⟩ (tn 3) ?_
  refine VW.seq ?_
  refine sR T_ok [2, 3, 9] [0, 1] ⟨[(2, .lf (.ptr 0 0 0 0)), (3, .lf (.ptr 1 0 0 0)), (9, B (a0.1 != a1.1))], [bx [.v (.int .i64) a0.1, .v .str a0.2.1, .v (.int .i64) a0.2.2.1, .v (.int .i64) a0.2.2.2.1, .v (.int .i64) a0.2.2.2.2.1, .v .bool a0.2.2.2.2.2.1, .v (.sl (.int .i64)) a0.2.2.2.2.2.2] 107, bx [.v (.int .i64) a1.1, .v .str a1.2.1, .v (.int .i64) a1.2.2.1, .v (.int .i64) a1.2.2.2.1, .v (.int .i64) a1.2.2.2.2.1, .v .bool a1.2.2.2.2.2.1, .v (.sl (.int .i64)) a1.2.2.2.2.2.2] 107]⟩ (tn 5) ?_
  refine cnd h (fun h => ?_) (fun h => ?_)
  · refine sR T_ok [4] [] ⟨[(4, B false)], []⟩ (tn 1) ?_
    refine VW.ret ?_
    replace h := Option.some.inj h
    subst h
    exact rt []
  refine VW.skip ?_
  refine VW.seq ?_
  refine sR T_ok [2, 3, 14] [0, 1] ⟨[(2, .lf (.ptr 0 0 0 0)), (3, .lf (.ptr 1 0 0 0)), (14, B (!(a0.2.1.toList == a1.2.1.toList)))], [bx [.v (.int .i64) a0.1, .v .str a0.2.1, .v (.int .i64) a0.2.2.1, .v (.int .i64) a0.2.2.2.1, .v (.int .i64) a0.2.2.2.2.1, .v .bool a0.2.2.2.2.2.1, .v (.sl (.int .i64)) a0.2.2.2.2.2.2] 107, bx [.v (.int .i64) a1.1, .v .str a1.2.1, .v (.int .i64) a1.2.2.1, .v (.int .i64) a1.2.2.2.1, .v (.int .i64) a1.2.2.2.2.1, .v .bool a1.2.2.2.2.2.1, .v (.sl (.int .i64)) a1.2.2.2.2.2.2] 107]⟩ (tn 5) ?_
  refine cnd h (fun h => ?_) (fun h => ?_)
  · refine sR T_ok [4] [] ⟨[(4, B false)], []⟩ (tn 1) ?_
    refine VW.ret ?_
    replace h := Option.some.inj h
    subst h
    exact rt []
  refine VW.skip ?_
  refine VW.seq ?_
  refine sR T_ok [2, 3, 19] [0, 1] ⟨[(2, .lf (.ptr 0 0 0 0)), (3, .lf (.ptr 1 0 0 0)), (19, B (a0.2.2.1 != a1.2.2.1))], [bx [.v (.int .i64) a0.1, .v .str a0.2.1, .v (.int .i64) a0.2.2.1, .v (.int .i64) a0.2.2.2.1, .v (.int .i64) a0.2.2.2.2.1, .v .bool a0.2.2.2.2.2.1, .v (.sl (.int .i64)) a0.2.2.2.2.2.2] 107, bx [.v (.int .i64) a1.1, .v .str a1.2.1, .v (.int .i64) a1.2.2.1, .v (.int .i64) a1.2.2.2.1, .v (.int .i64) a1.2.2.2.2.1, .v .bool a1.2.2.2.2.2.1, .v (.sl (.int .i64)) a1.2.2.2.2.2.2] 107]⟩ (tn 5) ?_
  refine cnd h (fun h => ?_) (fun h => ?_)
  · refine sR T_ok [4] [] ⟨[(4, B false)], []⟩ (tn 1) ?_
    refine VW.ret ?_
    replace h := Option.some.inj h
    subst h
    exact rt []
  refine VW.skip ?_
  refine VW.seq ?_
  refine sR T_ok [2, 3, 24] [0, 1] ⟨[(2, .lf (.ptr 0 0 0 0)), (3, .lf (.ptr 1 0 0 0)), (24, B (a0.2.2.2.1 != a1.2.2.2.1))], [bx [.v (.int .i64) a0.1, .v .str a0.2.1, .v (.int .i64) a0.2.2.1, .v (.int .i64) a0.2.2.2.1, .v (.int .i64) a0.2.2.2.2.1, .v .bool a0.2.2.2.2.2.1, .v (.sl (.int .i64)) a0.2.2.2.2.2.2] 107, bx [.v (.int .i64) a1.1, .v .str a1.2.1, .v (.int .i64) a1.2.2.1, .v (.int .i64) a1.2.2.2.1, .v (.int .i64) a1.2.2.2.2.1, .v .bool a1.2.2.2.2.2.1, .v (.sl (.int .i64)) a1.2.2.2.2.2.2] 107]⟩ (tn 5) ?_
  refine cnd h (fun h => ?_) (fun h => ?_)
  · refine sR T_ok [4] [] ⟨[(4, B false)], []⟩ (tn 1) ?_
    refine VW.ret ?_
    replace h := Option.some.inj h
    subst h
    exact rt []
  refine VW.skip ?_
  refine VW.seq ?_
  refine sR T_ok [2, 3, 29] [0, 1] ⟨[(2, .lf (.ptr 0 0 0 0)), (3, .lf (.ptr 1 0 0 0)), (29, B (a0.2.2.2.2.1 != a1.2.2.2.2.1))], [bx [.v (.int .i64) a0.1, .v .str a0.2.1, .v (.int .i64) a0.2.2.1, .v (.int .i64) a0.2.2.2.1, .v (.int .i64) a0.2.2.2.2.1, .v .bool a0.2.2.2.2.2.1, .v (.sl (.int .i64)) a0.2.2.2.2.2.2] 107, bx [.v (.int .i64) a1.1, .v .str a1.2.1, .v (.int .i64) a1.2.2.1, .v (.int .i64) a1.2.2.2.1, .v (.int .i64) a1.2.2.2.2.1, .v .bool a1.2.2.2.2.2.1, .v (.sl (.int .i64)) a1.2.2.2.2.2.2] 107]⟩ (tn 5) ?_
  refine cnd h (fun h => ?_) (fun h => ?_)
  · refine sR T_ok [4] [] ⟨[(4, B false)], []⟩ (tn 1) ?_
    refine VW.ret ?_
    replace h := Option.some.inj h
    subst h
    exact rt []
  refine VW.skip ?_
  refine VW.seq ?_
  refine sR T_ok [2, 3, 34] [0, 1] ⟨[(2, .lf (.ptr 0 0 0 0)), (3, .lf (.ptr 1 0 0 0)), (34, B (!(a0.2.2.2.2.2.1 == a1.2.2.2.2.2.1)))], [bx [.v (.int .i64) a0.1, .v .str a0.2.1, .v (.int .i64) a0.2.2.1, .v (.int .i64) a0.2.2.2.1, .v (.int .i64) a0.2.2.2.2.1, .v .bool a0.2.2.2.2.2.1, .v (.sl (.int .i64)) a0.2.2.2.2.2.2] 107, bx [.v (.int .i64) a1.1, .v .str a1.2.1, .v (.int .i64) a1.2.2.1, .v (.int .i64) a1.2.2.2.1, .v (.int .i64) a1.2.2.2.2.1, .v .bool a1.2.2.2.2.2.1, .v (.sl (.int .i64)) a1.2.2.2.2.2.2] 107]⟩ (tn 5) ?_
  refine cnd h (fun h => ?_) (fun h => ?_)
  · refine sR T_ok [4] [] ⟨[(4, B false)], []⟩ (tn 1) ?_
    refine VW.ret ?_
    replace h := Option.some.inj h
    subst h
    exact rt []
  refine VW.skip ?_
  refine VW.seq ?_
  refine VW.seq ?_
  refine VW.region ?_
  refine sG T_ok 4 [36, 38] [] ⟨[(36, .lf (.v (.sl (.int .i64)) a0.2.2.2.2.2.2)), (38, .lf (.v (.sl (.int .i64)) a1.2.2.2.2.2.2))], []⟩ (tn 4) ?_
  obtain ⟨y2, hy, h⟩ := andO_some h
  refine cal false [.t (.sl (.int .i64)), .t (.sl (.int .i64))] [] (some 39) T_ok (ok32 N _ _ hy) ?_
  refine sN T_ok [40] [] ⟨[(40, B (!y2))], []⟩ (tn 1) ?_
  refine cnd h (fun h => ?_) (fun h => ?_)
  · refine sR T_ok [4] [] ⟨[(4, B false)], []⟩ (tn 1) ?_
    refine VW.ret ?_
    replace h := Option.some.inj h
    subst h
    exact rt []
  refine VW.skip ?_
  refine sR T_ok [4] [] ⟨[(4, B true)], []⟩ (tn 1) ?_
  refine VW.ret ?_
  replace h := Option.some.inj h
  subst h
  exact rt []

/- loop.example/g00844/laws.eqNodeS -/
def F29_j0 (N : Nat) : Option (Bool) :=
  some true
def F29_l0_b (N : Nat) (a0 : (List (Int × (ByteArray × (Int × (Int × (Int × (Bool × (List Int))))))))) (a1 : (List (Int × (ByteArray × (Int × (Int × (Int × (Bool × (List Int))))))))) (nx35 : Int → Option (Bool)) (x28 : Int) : Option (Bool) :=
  cond (decide (x28 < (a0.length : Int))) (gd (InR x28 a0.length) (gd (InR x28 a1.length) (andO (F85 N (a0.getD x28.toNat (Ty.dflt Y105)) (a1.getD x28.toNat (Ty.dflt Y105))) fun y41 => cond (!y41) (some false) (nx35 (IntKind.i64.wrap (x28 + (1 : Int))))))) (F29_j0 N)
def F29_l0 (N : Nat) (a0 : (List (Int × (ByteArray × (Int × (Int × (Int × (Bool × (List Int))))))))) (a1 : (List (Int × (ByteArray × (Int × (Int × (Int × (Bool × (List Int))))))))) : Nat → Int → Option (Bool) := loopF (F29_l0_b N a0 a1) (fun _ => none)
theorem F29_l0_s (N : Nat) (a0 : (List (Int × (ByteArray × (Int × (Int × (Int × (Bool × (List Int))))))))) (a1 : (List (Int × (ByteArray × (Int × (Int × (Int × (Bool × (List Int))))))))) {k : Nat} (hk : 0 < k) (x28 : Int) : F29_l0 N a0 a1 k x28 = F29_l0_b N a0 a1 (F29_l0 N a0 a1 (k - 1)) x28 := by
  cases k with
  | zero => exact absurd hk (Nat.lt_irrefl 0)
  | succ m => rfl
def F29 (N : Nat) (a0 : (List (Int × (ByteArray × (Int × (Int × (Int × (Bool × (List Int))))))))) (a1 : (List (Int × (ByteArray × (Int × (Int × (Int × (Bool × (List Int))))))))) : Option (Bool) :=
  cond ((a0.length : Int) != (a1.length : Int)) (some false) (F29_l0 N a0 a1 N (0 : Int))
theorem ok29 (N : Nat) (a0 : (List (Int × (ByteArray × (Int × (Int × (Int × (Bool × (List Int))))))))) (a1 : (List (Int × (ByteArray × (Int × (Int × (Int × (Bool × (List Int))))))))) {r : Bool} (h : F29 N a0 a1 = some r) : Con Go.Proofs.Try.prog 29 [.lf (.v (.sl Y105) a0), .lf (.v (.sl Y105) a1)] [.lf (.v .bool r)] := by
  refine ctr [.lf (.v .bool)] T_ok Go.Proofs.Try.func29 rfl fun w0 E0 ht => ?_
  unfold F29 at h
  show VW _ _ _ _ _ (retQ _ _ _ _) _
  refine sR T_ok [0, 1] [] ⟨[(0, .lf (.v (.sl Y105) a0)), (1, .lf (.v (.sl Y105) a1))], []⟩ (tn 1) ?_
  refine VW.seq ?_
  refine sR T_ok [0, 1, 10] [] ⟨[(0, .lf (.v (.sl Y105) a0)), (1, .lf (.v (.sl Y105) a1)), (10, B ((a0.length : Int) != (a1.length : Int)))], []⟩ (tn 5) ?_
  refine cnd h (fun h => ?_) (fun h => ?_)
  · refine sR T_ok [4] [] ⟨[(4, B false)], []⟩ (tn 1) ?_
    refine VW.ret ?_
    replace h := Option.some.inj h
    subst h
    exact rt []
  refine VW.skip ?_
  refine VW.join (fun s => s = ⟨[], []⟩ ∧ F29_j0 N = some r) ?_ ?_
  · refine sR T_ok [0, 1, 5] [] ⟨[(0, .lf (.v (.sl Y105) a0)), (1, .lf (.v (.sl Y105) a1)), (5, I (0 : Int))], []⟩ (tn 1) ?_
    refine VW.block ?_
    refine lop (fun k s => ∃ (x28 : Int), s = ⟨[(0, .lf (.v (.sl Y105) a0)), (1, .lf (.v (.sl Y105) a1)), (5, I x28)], []⟩ ∧ F29_l0 N a0 a1 k x28 = some r) N [.ren [0, 1, 5] []] ⟨(0 : Int), rfl, h⟩ ?_
    rintro k35 s ⟨x28, rfl, h⟩
    cases k35 with
    | zero => cases show none = some r from h
    | succ k35 =>
      replace h : F29_l0_b N a0 a1 (F29_l0 N a0 a1 k35) x28 = some r := h
      unfold F29_l0_b at h
      refine VW.seq ?_
      refine sR T_ok [0, 1, 5, 14] [] ⟨[(0, .lf (.v (.sl Y105) a0)), (1, .lf (.v (.sl Y105) a1)), (5, I x28), (14, B (decide (x28 < (a0.length : Int))))], []⟩ (tn 4) ?_
      refine cnd h (fun h => ?_) (fun h => ?_)
      · refine VW.skip ?_
        refine VW.seq ?_
        refine VW.block ?_
        refine VW.seq ?_
        obtain ⟨g39, h⟩ := gd_some h
        obtain ⟨g40, h⟩ := gd_some h
        obtain ⟨y41, hy41, h⟩ := andO_some h
        refine VW.drawn (by kernel_rfl) [some (17, .lf (.v (.sl Y105) a0)), some (18, I x28), some (19, .lf (.fp Y105 (a0.getD x28.toNat (Ty.dflt Y105)) 0)), some (20, .agg [.v (.int .i64) ((a0.getD x28.toNat (Ty.dflt Y105)).1), .v .str ((a0.getD x28.toNat (Ty.dflt Y105)).2.1), .v (.int .i64) ((a0.getD x28.toNat (Ty.dflt Y105)).2.2.1), .v (.int .i64) ((a0.getD x28.toNat (Ty.dflt Y105)).2.2.2.1), .v (.int .i64) ((a0.getD x28.toNat (Ty.dflt Y105)).2.2.2.2.1), .v .bool ((a0.getD x28.toNat (Ty.dflt Y105)).2.2.2.2.2.1), .v (.sl (.int .i64)) ((a0.getD x28.toNat (Ty.dflt Y105)).2.2.2.2.2.2)]), some (21, .lf (.v (.sl Y105) a1)), some (22, I x28), some (23, .lf (.fp Y105 (a1.getD x28.toNat (Ty.dflt Y105)) 0)), some (24, .agg [.v (.int .i64) ((a1.getD x28.toNat (Ty.dflt Y105)).1), .v .str ((a1.getD x28.toNat (Ty.dflt Y105)).2.1), .v (.int .i64) ((a1.getD x28.toNat (Ty.dflt Y105)).2.2.1), .v (.int .i64) ((a1.getD x28.toNat (Ty.dflt Y105)).2.2.2.1), .v (.int .i64) ((a1.getD x28.toNat (Ty.dflt Y105)).2.2.2.2.1), .v .bool ((a1.getD x28.toNat (Ty.dflt Y105)).2.2.2.2.2.1), .v (.sl (.int .i64)) ((a1.getD x28.toNat (Ty.dflt Y105)).2.2.2.2.2.2)]), some (25, B y41), some (26, B (!y41))] [] [[]] [(0, 0), (1, 0), (2, 0), (3, 0), (4, 0), (5, 0), (6, 0), (7, 0), (8, 0), (9, 0)] [0, 1, 5, 26] [] (s' := ⟨[(0, .lf (.v (.sl Y105) a0)), (1, .lf (.v (.sl Y105) a1)), (5, I x28), (26, B (!y41))], []⟩) (by kernel_rfl) (by kernel_rfl) ⟨⟨_, rfl, Stp.ev T_ok (m := .dp) (φ := True) (by kernel_rfl) trivial⟩,
    ⟨_, rfl, Stp.ev T_ok (m := .dp) (φ := True) (by kernel_rfl) trivial⟩,
    ⟨_, rfl, Stp.ev T_ok (m := .dp) (φ := InR x28 a0.length) (by kernel_rfl) g39⟩,
    ⟨_, rfl, Stp.ev T_ok (m := .dp) (φ := True) (by kernel_rfl) trivial⟩,
    ⟨_, rfl, Stp.ev T_ok (m := .dp) (φ := True) (by kernel_rfl) trivial⟩,
    ⟨_, rfl, Stp.ev T_ok (m := .dp) (φ := True) (by kernel_rfl) trivial⟩,
    ⟨_, rfl, Stp.ev T_ok (m := .dp) (φ := InR x28 a1.length) (by kernel_rfl) g40⟩,
    ⟨_, rfl, Stp.ev T_ok (m := .dp) (φ := True) (by kernel_rfl) trivial⟩,
    ⟨_, rfl, Stp.eq (Stp.call false [.t Y105, .t Y105] [] T_ok (d := some 25) (by kernel_rfl) (ok85 N _ _ hy41) rfl) (by kernel_rfl) (by kernel_rfl)⟩,
    ⟨_, rfl, Stp.ev T_ok (m := .dp) (φ := True) (by kernel_rfl) trivial⟩, trivial⟩ (by kernel_rfl) ?_
        refine cnd h (fun h => ?_) (fun h => ?_)
        · refine sR T_ok [4] [] ⟨[(4, B false)], []⟩ (tn 1) ?_
          refine VW.ret ?_
          replace h := Option.some.inj h
          subst h
          exact rt []
        refine VW.skip ?_
        refine rR T_ok [0, 1, 5] [] ⟨[(0, .lf (.v (.sl Y105) a0)), (1, .lf (.v (.sl Y105) a1)), (5, I (IntKind.i64.wrap (x28 + (1 : Int))))], []⟩ (tn 3) ?_
        exact aro [.ren [0, 1, 5] []] ⟨(IntKind.i64.wrap (x28 + (1 : Int))), rfl, h⟩
      refine VW.exit ?_
      exact arv [.ren [] []] ⟨rfl, h⟩
  rintro s ⟨rfl, h⟩
  unfold F29_j0 at h
  refine sR T_ok [4] [] ⟨[(4, B true)], []⟩ (tn 1) ?_
  refine VW.ret ?_
  replace h := Option.some.inj h
  subst h
  exact rt []

/- loop.example/g00844/laws.markIntS -/
def F34_j0 (N : Nat) (x17 : Int) (x18 : (List Int)) : Option ((List Int) × Int) :=
  some (x18, x17)
def F34_l0_b (N : Nat) (nx31 : (List Int) → Int → Int → Option ((List Int) × Int)) (x24 : (List Int)) (x25 : Int) (x26 : Int) : Option ((List Int) × Int) :=
  cond (decide (x26 < (x24.length : Int))) (gd (InR x26 x24.length) (gd (x26.toNat < x24.length) (nx31 (x24.set x26.toNat x25) (IntKind.i64.wrap (x25 + (1 : Int))) (IntKind.i64.wrap (x26 + (1 : Int)))))) (F34_j0 N x25 x24)
def F34_l0 (N : Nat) : Nat → (List Int) → Int → Int → Option ((List Int) × Int) := loopF (F34_l0_b N) (fun _ _ _ => none)
theorem F34_l0_s (N : Nat) {k : Nat} (hk : 0 < k) (x24 : (List Int)) (x25 : Int) (x26 : Int) : F34_l0 N k x24 x25 x26 = F34_l0_b N (F34_l0 N (k - 1)) x24 x25 x26 := by
  cases k with
  | zero => exact absurd hk (Nat.lt_irrefl 0)
  | succ m => rfl
def F34 (N : Nat) (a0 : (List Int)) (a1 : Int) : Option ((List Int) × Int) :=
  F34_l0 N N a0 a1 (0 : Int)
theorem ok34 (N : Nat) (a0 : (List Int)) (a1 : Int) {r : (List Int) × Int} (h : F34 N a0 a1 = some r) : ConM Go.Proofs.Try.prog 34 [ar 0 (.int .i64) a0 .dp] [.lf (.hd 0 0 none), I a1] [.lf (.v (.int .i64) r.2)] [ar 0 (.int .i64) r.1 .dp] := by
  refine ⟨enters_of Go.Proofs.Try.func34 rfl (by decide), HM.intro [.lf (.v (.int .i64))] T_ok Go.Proofs.Try.func34 rfl (Nat.le_of_ble_eq_true rfl) (Nat.le_of_ble_eq_true rfl) fun w0 E0 ht => ?_⟩
  unfold F34 at h
  show VW _ _ _ _ _ (retM _ _ _ _ _) _
  refine sR T_ok [0, 1, 65536] [0] ⟨[(0, .lf (.hd 0 0 none)), (1, I a1), (65536, .lf (.hd 0 0 none))], [ar 0 (.int .i64) a0 .dp]⟩ (tn 1) ?_
  refine VW.join (fun s => ∃ (x17 : Int) (x18 : (List Int)), s = ⟨[(1, I x17), (65536, .lf (.hd 0 0 none))], [ar 0 (.int .i64) x18 .dp]⟩ ∧ F34_j0 N x17 x18 = some r) ?_ ?_
  · refine sR T_ok [0, 1, 5, 65536] [0] ⟨[(0, .lf (.hd 0 0 none)), (1, I a1), (5, I (0 : Int)), (65536, .lf (.hd 0 0 none))], [ar 0 (.int .i64) a0 .dp]⟩ (tn 1) ?_
    refine VW.block ?_
    refine lop (fun k s => ∃ (x24 : (List Int)) (x25 : Int) (x26 : Int), s = ⟨[(0, .lf (.hd 0 0 none)), (1, I x25), (5, I x26), (65536, .lf (.hd 0 0 none))], [ar 0 (.int .i64) x24 .dp]⟩ ∧ F34_l0 N k x24 x25 x26 = some r) N [.ren [0, 1, 5, 65536] [0]] ⟨a0, a1, (0 : Int), rfl, h⟩ ?_
    rintro k31 s ⟨x24, x25, x26, rfl, h⟩
    cases k31 with
    | zero => cases show none = some r from h
    | succ k31 =>
      replace h : F34_l0_b N (F34_l0 N k31) x24 x25 x26 = some r := h
      unfold F34_l0_b at h
      refine VW.seq ?_
      refine sR T_ok [0, 1, 5, 9, 65536] [0] ⟨[(0, .lf (.hd 0 0 none)), (1, I x25), (5, I x26), (9, B (decide (x26 < (x24.length : Int)))), (65536, .lf (.hd 0 0 none))], [ar 0 (.int .i64) x24 .dp]⟩ (tn 4) ?_
      refine cnd h (fun h => ?_) (fun h => ?_)
      · refine VW.skip ?_
        refine VW.seq ?_
        refine VW.block ?_
        obtain ⟨g34, h⟩ := gd_some h
        obtain ⟨g35, h⟩ := gd_some h
        refine sR T_ok [0, 1, 5, 65536] [0] ⟨[(0, .lf (.hd 0 0 none)), (1, I x25), (5, I x26), (65536, .lf (.hd 0 0 none))], [ar 0 (.int .i64) (x24.set x26.toNat x25) .dp]⟩ (pu 3 (an g34 (an g35 (tn 0)))) ?_
        refine rR T_ok [0, 1, 5, 65536] [0] ⟨[(0, .lf (.hd 0 0 none)), (1, I (IntKind.i64.wrap (x25 + (1 : Int)))), (5, I x26), (65536, .lf (.hd 0 0 none))], [ar 0 (.int .i64) (x24.set x26.toNat x25) .dp]⟩ (tn 3) ?_
        refine rR T_ok [0, 1, 5, 65536] [0] ⟨[(0, .lf (.hd 0 0 none)), (1, I (IntKind.i64.wrap (x25 + (1 : Int)))), (5, I (IntKind.i64.wrap (x26 + (1 : Int)))), (65536, .lf (.hd 0 0 none))], [ar 0 (.int .i64) (x24.set x26.toNat x25) .dp]⟩ (tn 3) ?_
        exact aro [.ren [0, 1, 5, 65536] [0]] ⟨(x24.set x26.toNat x25), (IntKind.i64.wrap (x25 + (1 : Int))), (IntKind.i64.wrap (x26 + (1 : Int))), rfl, h⟩
      refine VW.exit ?_
      exact arv [.ren [1, 65536] [0]] ⟨x25, x24, rfl, h⟩
  rintro s ⟨x17, x18, rfl, h⟩
  unfold F34_j0 at h
  refine sR T_ok [4, 65536] [0] ⟨[(4, I x17), (65536, .lf (.hd 0 0 none))], [ar 0 (.int .i64) x18 .dp]⟩ (tn 2) ?_
  replace h := Option.some.inj h
  subst h
  refine VW.ghl [.ren [4, 65536] [0]] (VW.ret ?_)
  exact ⟨[], by kernel_rfl, by kernel_rfl, by kernel_rfl⟩

/- loop.example/g00844/laws.markNodeS -/
def F33_j0 (N : Nat) (x101 : Int) (x102 : (List (Int × (ByteArray × (Int × (Int × (Int × (Bool × (List Int))))))))) : Option ((List (Int × (ByteArray × (Int × (Int × (Int × (Bool × (List Int)))))))) × Int) :=
  some (x102, x101)
def F33_l0_b (N : Nat) (nx171 : (List (Int × (ByteArray × (Int × (Int × (Int × (Bool × (List Int)))))))) → Int → Int → Option ((List (Int × (ByteArray × (Int × (Int × (Int × (Bool × (List Int)))))))) × Int)) (x136 : (List (Int × (ByteArray × (Int × (Int × (Int × (Bool × (List Int))))))))) (x137 : Int) (x138 : Int) : Option ((List (Int × (ByteArray × (Int × (Int × (Int × (Bool × (List Int)))))))) × Int) :=
  cond (decide (x138 < (x136.length : Int))) (gd (InR x138 x136.length) (gd (x138.toNat < x136.length) (andO (F69 N (IntKind.i64.wrap (x137 + (1 : Int)))) fun y190 => gd (InR x138 (x136.set x138.toNat (x137, ((x136.getD x138.toNat (Ty.dflt Y105)).2.1, ((x136.getD x138.toNat (Ty.dflt Y105)).2.2.1, ((x136.getD x138.toNat (Ty.dflt Y105)).2.2.2.1, ((x136.getD x138.toNat (Ty.dflt Y105)).2.2.2.2.1, ((x136.getD x138.toNat (Ty.dflt Y105)).2.2.2.2.2.1, (x136.getD x138.toNat (Ty.dflt Y105)).2.2.2.2.2.2))))))).length) (gd (x138.toNat < (x136.set x138.toNat (x137, ((x136.getD x138.toNat (Ty.dflt Y105)).2.1, ((x136.getD x138.toNat (Ty.dflt Y105)).2.2.1, ((x136.getD x138.toNat (Ty.dflt Y105)).2.2.2.1, ((x136.getD x138.toNat (Ty.dflt Y105)).2.2.2.2.1, ((x136.getD x138.toNat (Ty.dflt Y105)).2.2.2.2.2.1, (x136.getD x138.toNat (Ty.dflt Y105)).2.2.2.2.2.2))))))).length) (gd (InR x138 (x136.set x138.toNat (x137, (y190, ((x136.getD x138.toNat (Ty.dflt Y105)).2.2.1, ((x136.getD x138.toNat (Ty.dflt Y105)).2.2.2.1, ((x136.getD x138.toNat (Ty.dflt Y105)).2.2.2.2.1, ((x136.getD x138.toNat (Ty.dflt Y105)).2.2.2.2.2.1, (x136.getD x138.toNat (Ty.dflt Y105)).2.2.2.2.2.2))))))).length) (gd (x138.toNat < (x136.set x138.toNat (x137, (y190, ((x136.getD x138.toNat (Ty.dflt Y105)).2.2.1, ((x136.getD x138.toNat (Ty.dflt Y105)).2.2.2.1, ((x136.getD x138.toNat (Ty.dflt Y105)).2.2.2.2.1, ((x136.getD x138.toNat (Ty.dflt Y105)).2.2.2.2.2.1, (x136.getD x138.toNat (Ty.dflt Y105)).2.2.2.2.2.2))))))).length) (gd (InR x138 (x136.set x138.toNat (x137, (y190, ((IntKind.i64.wrap ((IntKind.i64.wrap (x137 + (1 : Int))) + (1 : Int))), ((x136.getD x138.toNat (Ty.dflt Y105)).2.2.2.1, ((x136.getD x138.toNat (Ty.dflt Y105)).2.2.2.2.1, ((x136.getD x138.toNat (Ty.dflt Y105)).2.2.2.2.2.1, (x136.getD x138.toNat (Ty.dflt Y105)).2.2.2.2.2.2))))))).length) (gd (x138.toNat < (x136.set x138.toNat (x137, (y190, ((IntKind.i64.wrap ((IntKind.i64.wrap (x137 + (1 : Int))) + (1 : Int))), ((x136.getD x138.toNat (Ty.dflt Y105)).2.2.2.1, ((x136.getD x138.toNat (Ty.dflt Y105)).2.2.2.2.1, ((x136.getD x138.toNat (Ty.dflt Y105)).2.2.2.2.2.1, (x136.getD x138.toNat (Ty.dflt Y105)).2.2.2.2.2.2))))))).length) (gd (InR x138 (x136.set x138.toNat (x137, (y190, ((IntKind.i64.wrap ((IntKind.i64.wrap (x137 + (1 : Int))) + (1 : Int))), ((IntKind.i64.wrap ((IntKind.i64.wrap ((IntKind.i64.wrap (x137 + (1 : Int))) + (1 : Int))) + (1 : Int))), ((x136.getD x138.toNat (Ty.dflt Y105)).2.2.2.2.1, ((x136.getD x138.toNat (Ty.dflt Y105)).2.2.2.2.2.1, (x136.getD x138.toNat (Ty.dflt Y105)).2.2.2.2.2.2))))))).length) (gd (x138.toNat < (x136.set x138.toNat (x137, (y190, ((IntKind.i64.wrap ((IntKind.i64.wrap (x137 + (1 : Int))) + (1 : Int))), ((IntKind.i64.wrap ((IntKind.i64.wrap ((IntKind.i64.wrap (x137 + (1 : Int))) + (1 : Int))) + (1 : Int))), ((x136.getD x138.toNat (Ty.dflt Y105)).2.2.2.2.1, ((x136.getD x138.toNat (Ty.dflt Y105)).2.2.2.2.2.1, (x136.getD x138.toNat (Ty.dflt Y105)).2.2.2.2.2.2))))))).length) (gd (InR x138 (x136.set x138.toNat (x137, (y190, ((IntKind.i64.wrap ((IntKind.i64.wrap (x137 + (1 : Int))) + (1 : Int))), ((IntKind.i64.wrap ((IntKind.i64.wrap ((IntKind.i64.wrap (x137 + (1 : Int))) + (1 : Int))) + (1 : Int))), ((IntKind.i64.wrap ((IntKind.i64.wrap ((IntKind.i64.wrap ((IntKind.i64.wrap (x137 + (1 : Int))) + (1 : Int))) + (1 : Int))) + (1 : Int))), ((x136.getD x138.toNat (Ty.dflt Y105)).2.2.2.2.2.1, (x136.getD x138.toNat (Ty.dflt Y105)).2.2.2.2.2.2))))))).length) (gd (x138.toNat < (x136.set x138.toNat (x137, (y190, ((IntKind.i64.wrap ((IntKind.i64.wrap (x137 + (1 : Int))) + (1 : Int))), ((IntKind.i64.wrap ((IntKind.i64.wrap ((IntKind.i64.wrap (x137 + (1 : Int))) + (1 : Int))) + (1 : Int))), ((IntKind.i64.wrap ((IntKind.i64.wrap ((IntKind.i64.wrap ((IntKind.i64.wrap (x137 + (1 : Int))) + (1 : Int))) + (1 : Int))) + (1 : Int))), ((x136.getD x138.toNat (Ty.dflt Y105)).2.2.2.2.2.1, (x136.getD x138.toNat (Ty.dflt Y105)).2.2.2.2.2.2))))))).length) (gd (InR x138 (x136.set x138.toNat (x137, (y190, ((IntKind.i64.wrap ((IntKind.i64.wrap (x137 + (1 : Int))) + (1 : Int))), ((IntKind.i64.wrap ((IntKind.i64.wrap ((IntKind.i64.wrap (x137 + (1 : Int))) + (1 : Int))) + (1 : Int))), ((IntKind.i64.wrap ((IntKind.i64.wrap ((IntKind.i64.wrap ((IntKind.i64.wrap (x137 + (1 : Int))) + (1 : Int))) + (1 : Int))) + (1 : Int))), (((Int.tmod (IntKind.i64.wrap ((IntKind.i64.wrap ((IntKind.i64.wrap ((IntKind.i64.wrap ((IntKind.i64.wrap (x137 + (1 : Int))) + (1 : Int))) + (1 : Int))) + (1 : Int))) + (1 : Int))) (3 : Int)) == (0 : Int)), (x136.getD x138.toNat (Ty.dflt Y105)).2.2.2.2.2.2))))))).length) (gd (x138.toNat < x136.length) (andO (F34 N ((x136.getD x138.toNat (Ty.dflt Y105)).2.2.2.2.2.2) (IntKind.i64.wrap ((IntKind.i64.wrap ((IntKind.i64.wrap ((IntKind.i64.wrap ((IntKind.i64.wrap ((IntKind.i64.wrap (x137 + (1 : Int))) + (1 : Int))) + (1 : Int))) + (1 : Int))) + (1 : Int))) + (1 : Int)))) fun y202 => nx171 (x136.set x138.toNat (x137, (y190, ((IntKind.i64.wrap ((IntKind.i64.wrap (x137 + (1 : Int))) + (1 : Int))), ((IntKind.i64.wrap ((IntKind.i64.wrap ((IntKind.i64.wrap (x137 + (1 : Int))) + (1 : Int))) + (1 : Int))), ((IntKind.i64.wrap ((IntKind.i64.wrap ((IntKind.i64.wrap ((IntKind.i64.wrap (x137 + (1 : Int))) + (1 : Int))) + (1 : Int))) + (1 : Int))), (((Int.tmod (IntKind.i64.wrap ((IntKind.i64.wrap ((IntKind.i64.wrap ((IntKind.i64.wrap ((IntKind.i64.wrap (x137 + (1 : Int))) + (1 : Int))) + (1 : Int))) + (1 : Int))) + (1 : Int))) (3 : Int)) == (0 : Int)), y202.1))))))) y202.2 (IntKind.i64.wrap (x138 + (1 : Int)))))))))))))))))) (F33_j0 N x137 x136)
def F33_l0 (N : Nat) : Nat → (List (Int × (ByteArray × (Int × (Int × (Int × (Bool × (List Int)))))))) → Int → Int → Option ((List (Int × (ByteArray × (Int × (Int × (Int × (Bool × (List Int)))))))) × Int) := loopF (F33_l0_b N) (fun _ _ _ => none)
theorem F33_l0_s (N : Nat) {k : Nat} (hk : 0 < k) (x136 : (List (Int × (ByteArray × (Int × (Int × (Int × (Bool × (List Int))))))))) (x137 : Int) (x138 : Int) : F33_l0 N k x136 x137 x138 = F33_l0_b N (F33_l0 N (k - 1)) x136 x137 x138 := by
  cases k with
  | zero => exact absurd hk (Nat.lt_irrefl 0)
  | succ m => rfl
def F33 (N : Nat) (a0 : (List (Int × (ByteArray × (Int × (Int × (Int × (Bool × (List Int))))))))) (a1 : Int) : Option ((List (Int × (ByteArray × (Int × (Int × (Int × (Bool × (List Int)))))))) × Int) :=
  F33_l0 N N a0 a1 (0 : Int)
theorem ok33 (N : Nat) (a0 : (List (Int × (ByteArray × (Int × (Int × (Int × (Bool × (List Int))))))))) (a1 : Int) {r : (List (Int × (ByteArray × (Int × (Int × (Int × (Bool × (List Int)))))))) × Int} (h : F33 N a0 a1 = some r) : ConM Go.Proofs.Try.prog 33 [ar 0 Y105 a0 .dp] [.lf (.hd 0 0 none), I a1] [.lf (.v (.int .i64) r.2)] [ar 0 Y105 r.1 .dp] := by
  refine ⟨enters_of Go.Proofs.Try.func33 rfl (by decide), HM.intro [.lf (.v (.int .i64))] T_ok Go.Proofs.Try.func33 rfl (Nat.le_of_ble_eq_true rfl) (Nat.le_of_ble_eq_true rfl) fun w0 E0 ht => ?_⟩
  unfold F33 at h
  show VW _ _ _ _ _ (retM _ _ _ _ _) _
  refine sR T_ok [0, 1, 65536] [0] ⟨[(0, .lf (.hd 0 0 none)), (1, I a1), (65536, .lf (.hd 0 0 none))], [ar 0 Y105 a0 .dp]⟩ (tn 1) ?_
  refine VW.join (fun s => ∃ (x101 : Int) (x102 : (List (Int × (ByteArray × (Int × (Int × (Int × (Bool × (List Int))))))))), s = ⟨[(1, I x101), (65536, .lf (.hd 0 0 none))], [ar 0 Y105 x102 .dp]⟩ ∧ F33_j0 N x101 x102 = some r) ?_ ?_
  · refine sR T_ok [0, 1, 5, 65536] [0] ⟨[(0, .lf (.hd 0 0 none)), (1, I a1), (5, I (0 : Int)), (65536, .lf (.hd 0 0 none))], [ar 0 Y105 a0 .dp]⟩ (tn 1) ?_
    refine VW.block ?_
    refine lop (fun k s => ∃ (x136 : (List (Int × (ByteArray × (Int × (Int × (Int × (Bool × (List Int))))))))) (x137 : Int) (x138 : Int), s = ⟨[(0, .lf (.hd 0 0 none)), (1, I x137), (5, I x138), (65536, .lf (.hd 0 0 none))], [ar 0 Y105 x136 .dp]⟩ ∧ F33_l0 N k x136 x137 x138 = some r) N [.ren [0, 1, 5, 65536] [0]] ⟨a0, a1, (0 : Int), rfl, h⟩ ?_
    rintro k171 s ⟨x136, x137, x138, rfl, h⟩
    cases k171 with
    | zero => cases show none = some r from h
    | succ k171 =>
      replace h : F33_l0_b N (F33_l0 N k171) x136 x137 x138 = some r := h
      unfold F33_l0_b at h
      refine VW.seq ?_
      refine sR T_ok [0, 1, 5, 9, 65536] [0] ⟨[(0, .lf (.hd 0 0 none)), (1, I x137), (5, I x138), (9, B (decide (x138 < (x136.length : Int)))), (65536, .lf (.hd 0 0 none))], [ar 0 Y105 x136 .dp]⟩ (tn 4) ?_
      refine cnd h (fun h => ?_) (fun h => ?_)
      · refine VW.skip ?_
        refine VW.seq ?_
        refine VW.block ?_
        obtain ⟨g188, h⟩ := gd_some h
        obtain ⟨g189, h⟩ := gd_some h
        refine sR T_ok [0, 1, 5, 65536] [0] ⟨[(0, .lf (.hd 0 0 none)), (1, I x137), (5, I x138), (65536, .lf (.hd 0 0 none))], [ar 0 Y105 (x136.set x138.toNat (x137, ((x136.getD x138.toNat (Ty.dflt Y105)).2.1, ((x136.getD x138.toNat (Ty.dflt Y105)).2.2.1, ((x136.getD x138.toNat (Ty.dflt Y105)).2.2.2.1, ((x136.getD x138.toNat (Ty.dflt Y105)).2.2.2.2.1, ((x136.getD x138.toNat (Ty.dflt Y105)).2.2.2.2.2.1, (x136.getD x138.toNat (Ty.dflt Y105)).2.2.2.2.2.2))))))) .dp]⟩ (pu 3 (an g188 (pu 1 (an g189 (tn 0))))) ?_
        refine sR T_ok [0, 1, 5, 65536] [0] ⟨[(0, .lf (.hd 0 0 none)), (1, I (IntKind.i64.wrap (x137 + (1 : Int)))), (5, I x138), (65536, .lf (.hd 0 0 none))], [ar 0 Y105 (x136.set x138.toNat (x137, ((x136.getD x138.toNat (Ty.dflt Y105)).2.1, ((x136.getD x138.toNat (Ty.dflt Y105)).2.2.1, ((x136.getD x138.toNat (Ty.dflt Y105)).2.2.2.1, ((x136.getD x138.toNat (Ty.dflt Y105)).2.2.2.2.1, ((x136.getD x138.toNat (Ty.dflt Y105)).2.2.2.2.2.1, (x136.getD x138.toNat (Ty.dflt Y105)).2.2.2.2.2.2))))))) .dp]⟩ (tn 3) ?_
        refine VW.seq ?_
        refine VW.region ?_
        refine sG T_ok 3 [0, 1, 5, 19, 20, 21, 65536] [0] ⟨[(0, .lf (.hd 0 0 none)), (1, I (IntKind.i64.wrap (x137 + (1 : Int)))), (5, I x138), (19, .lf (.hd 0 0 none)), (20, I x138), (21, I (IntKind.i64.wrap (x137 + (1 : Int)))), (65536, .lf (.hd 0 0 none))], [ar 0 Y105 (x136.set x138.toNat (x137, ((x136.getD x138.toNat (Ty.dflt Y105)).2.1, ((x136.getD x138.toNat (Ty.dflt Y105)).2.2.1, ((x136.getD x138.toNat (Ty.dflt Y105)).2.2.2.1, ((x136.getD x138.toNat (Ty.dflt Y105)).2.2.2.2.1, ((x136.getD x138.toNat (Ty.dflt Y105)).2.2.2.2.2.1, (x136.getD x138.toNat (Ty.dflt Y105)).2.2.2.2.2.2))))))) .dp]⟩ (tn 3) ?_
        obtain ⟨y190, hy, h⟩ := andO_some h
        refine cal false [.t (.int .i64)] [] (some 22) T_ok (ok69 N _ hy) ?_
        obtain ⟨g191, h⟩ := gd_some h
        obtain ⟨g192, h⟩ := gd_some h
        refine sG T_ok 3 [0, 1, 5, 65536] [0] ⟨[(0, .lf (.hd 0 0 none)), (1, I (IntKind.i64.wrap (x137 + (1 : Int)))), (5, I x138), (65536, .lf (.hd 0 0 none))], [ar 0 Y105 ((x136.set x138.toNat (x137, ((x136.getD x138.toNat (Ty.dflt Y105)).2.1, ((x136.getD x138.toNat (Ty.dflt Y105)).2.2.1, ((x136.getD x138.toNat (Ty.dflt Y105)).2.2.2.1, ((x136.getD x138.toNat (Ty.dflt Y105)).2.2.2.2.1, ((x136.getD x138.toNat (Ty.dflt Y105)).2.2.2.2.2.1, (x136.getD x138.toNat (Ty.dflt Y105)).2.2.2.2.2.2))))))).set x138.toNat (((x136.set x138.toNat (x137, ((x136.getD x138.toNat (Ty.dflt Y105)).2.1, ((x136.getD x138.toNat (Ty.dflt Y105)).2.2.1, ((x136.getD x138.toNat (Ty.dflt Y105)).2.2.2.1, ((x136.getD x138.toNat (Ty.dflt Y105)).2.2.2.2.1, ((x136.getD x138.toNat (Ty.dflt Y105)).2.2.2.2.2.1, (x136.getD x138.toNat (Ty.dflt Y105)).2.2.2.2.2.2))))))).getD x138.toNat (Ty.dflt Y105)).1, (y190, (((x136.set x138.toNat (x137, ((x136.getD x138.toNat (Ty.dflt Y105)).2.1, ((x136.getD x138.toNat (Ty.dflt Y105)).2.2.1, ((x136.getD x138.toNat (Ty.dflt Y105)).2.2.2.1, ((x136.getD x138.toNat (Ty.dflt Y105)).2.2.2.2.1, ((x136.getD x138.toNat (Ty.dflt Y105)).2.2.2.2.2.1, (x136.getD x138.toNat (Ty.dflt Y105)).2.2.2.2.2.2))))))).getD x138.toNat (Ty.dflt Y105)).2.2.1, (((x136.set x138.toNat (x137, ((x136.getD x138.toNat (Ty.dflt Y105)).2.1, ((x136.getD x138.toNat (Ty.dflt Y105)).2.2.1, ((x136.getD x138.toNat (Ty.dflt Y105)).2.2.2.1, ((x136.getD x138.toNat (Ty.dflt Y105)).2.2.2.2.1, ((x136.getD x138.toNat (Ty.dflt Y105)).2.2.2.2.2.1, (x136.getD x138.toNat (Ty.dflt Y105)).2.2.2.2.2.2))))))).getD x138.toNat (Ty.dflt Y105)).2.2.2.1, (((x136.set x138.toNat (x137, ((x136.getD x138.toNat (Ty.dflt Y105)).2.1, ((x136.getD x138.toNat (Ty.dflt Y105)).2.2.1, ((x136.getD x138.toNat (Ty.dflt Y105)).2.2.2.1, ((x136.getD x138.toNat (Ty.dflt Y105)).2.2.2.2.1, ((x136.getD x138.toNat (Ty.dflt Y105)).2.2.2.2.2.1, (x136.getD x138.toNat (Ty.dflt Y105)).2.2.2.2.2.2))))))).getD x138.toNat (Ty.dflt Y105)).2.2.2.2.1, (((x136.set x138.toNat (x137, ((x136.getD x138.toNat (Ty.dflt Y105)).2.1, ((x136.getD x138.toNat (Ty.dflt Y105)).2.2.1, ((x136.getD x138.toNat (Ty.dflt Y105)).2.2.2.1, ((x136.getD x138.toNat (Ty.dflt Y105)).2.2.2.2.1, ((x136.getD x138.toNat (Ty.dflt Y105)).2.2.2.2.2.1, (x136.getD x138.toNat (Ty.dflt Y105)).2.2.2.2.2.2))))))).getD x138.toNat (Ty.dflt Y105)).2.2.2.2.2.1, ((x136.set x138.toNat (x137, ((x136.getD x138.toNat (Ty.dflt Y105)).2.1, ((x136.getD x138.toNat (Ty.dflt Y105)).2.2.1, ((x136.getD x138.toNat (Ty.dflt Y105)).2.2.2.1, ((x136.getD x138.toNat (Ty.dflt Y105)).2.2.2.2.1, ((x136.getD x138.toNat (Ty.dflt Y105)).2.2.2.2.2.1, (x136.getD x138.toNat (Ty.dflt Y105)).2.2.2.2.2.2))))))).getD x138.toNat (Ty.dflt Y105)).2.2.2.2.2.2))))))) .dp]⟩ (an g191 (pu 1 (an g192 (tn 0)))) ?_
        rw [show ((x136.set x138.toNat (x137, ((x136.getD x138.toNat (Ty.dflt Y105)).2.1, ((x136.getD x138.toNat (Ty.dflt Y105)).2.2.1, ((x136.getD x138.toNat (Ty.dflt Y105)).2.2.2.1, ((x136.getD x138.toNat (Ty.dflt Y105)).2.2.2.2.1, ((x136.getD x138.toNat (Ty.dflt Y105)).2.2.2.2.2.1, (x136.getD x138.toNat (Ty.dflt Y105)).2.2.2.2.2.2))))))).set x138.toNat (((x136.set x138.toNat (x137, ((x136.getD x138.toNat (Ty.dflt Y105)).2.1, ((x136.getD x138.toNat (Ty.dflt Y105)).2.2.1, ((x136.getD x138.toNat (Ty.dflt Y105)).2.2.2.1, ((x136.getD x138.toNat (Ty.dflt Y105)).2.2.2.2.1, ((x136.getD x138.toNat (Ty.dflt Y105)).2.2.2.2.2.1, (x136.getD x138.toNat (Ty.dflt Y105)).2.2.2.2.2.2))))))).getD x138.toNat (Ty.dflt Y105)).1, (y190, (((x136.set x138.toNat (x137, ((x136.getD x138.toNat (Ty.dflt Y105)).2.1, ((x136.getD x138.toNat (Ty.dflt Y105)).2.2.1, ((x136.getD x138.toNat (Ty.dflt Y105)).2.2.2.1, ((x136.getD x138.toNat (Ty.dflt Y105)).2.2.2.2.1, ((x136.getD x138.toNat (Ty.dflt Y105)).2.2.2.2.2.1, (x136.getD x138.toNat (Ty.dflt Y105)).2.2.2.2.2.2))))))).getD x138.toNat (Ty.dflt Y105)).2.2.1, (((x136.set x138.toNat (x137, ((x136.getD x138.toNat (Ty.dflt Y105)).2.1, ((x136.getD x138.toNat (Ty.dflt Y105)).2.2.1, ((x136.getD x138.toNat (Ty.dflt Y105)).2.2.2.1, ((x136.getD x138.toNat (Ty.dflt Y105)).2.2.2.2.1, ((x136.getD x138.toNat (Ty.dflt Y105)).2.2.2.2.2.1, (x136.getD x138.toNat (Ty.dflt Y105)).2.2.2.2.2.2))))))).getD x138.toNat (Ty.dflt Y105)).2.2.2.1, (((x136.set x138.toNat (x137, ((x136.getD x138.toNat (Ty.dflt Y105)).2.1, ((x136.getD x138.toNat (Ty.dflt Y105)).2.2.1, ((x136.getD x138.toNat (Ty.dflt Y105)).2.2.2.1, ((x136.getD x138.toNat (Ty.dflt Y105)).2.2.2.2.1, ((x136.getD x138.toNat (Ty.dflt Y105)).2.2.2.2.2.1, (x136.getD x138.toNat (Ty.dflt Y105)).2.2.2.2.2.2))))))).getD x138.toNat (Ty.dflt Y105)).2.2.2.2.1, (((x136.set x138.toNat (x137, ((x136.getD x138.toNat (Ty.dflt Y105)).2.1, ((x136.getD x138.toNat (Ty.dflt Y105)).2.2.1, ((x136.getD x138.toNat (Ty.dflt Y105)).2.2.2.1, ((x136.getD x138.toNat (Ty.dflt Y105)).2.2.2.2.1, ((x136.getD x138.toNat (Ty.dflt Y105)).2.2.2.2.2.1, (x136.getD x138.toNat (Ty.dflt Y105)).2.2.2.2.2.2))))))).getD x138.toNat (Ty.dflt Y105)).2.2.2.2.2.1, ((x136.set x138.toNat (x137, ((x136.getD x138.toNat (Ty.dflt Y105)).2.1, ((x136.getD x138.toNat (Ty.dflt Y105)).2.2.1, ((x136.getD x138.toNat (Ty.dflt Y105)).2.2.2.1, ((x136.getD x138.toNat (Ty.dflt Y105)).2.2.2.2.1, ((x136.getD x138.toNat (Ty.dflt Y105)).2.2.2.2.2.1, (x136.getD x138.toNat (Ty.dflt Y105)).2.2.2.2.2.2))))))).getD x138.toNat (Ty.dflt Y105)).2.2.2.2.2.2))))))) = (x136.set x138.toNat (x137, (y190, ((x136.getD x138.toNat (Ty.dflt Y105)).2.2.1, ((x136.getD x138.toNat (Ty.dflt Y105)).2.2.2.1, ((x136.getD x138.toNat (Ty.dflt Y105)).2.2.2.2.1, ((x136.getD x138.toNat (Ty.dflt Y105)).2.2.2.2.2.1, (x136.getD x138.toNat (Ty.dflt Y105)).2.2.2.2.2.2))))))) from set_upd x136 x138.toNat (x137, ((x136.getD x138.toNat (Ty.dflt Y105)).2.1, ((x136.getD x138.toNat (Ty.dflt Y105)).2.2.1, ((x136.getD x138.toNat (Ty.dflt Y105)).2.2.2.1, ((x136.getD x138.toNat (Ty.dflt Y105)).2.2.2.2.1, ((x136.getD x138.toNat (Ty.dflt Y105)).2.2.2.2.2.1, (x136.getD x138.toNat (Ty.dflt Y105)).2.2.2.2.2.2)))))) (Ty.dflt Y105) (fun z => (z.1, (y190, (z.2.2.1, (z.2.2.2.1, (z.2.2.2.2.1, (z.2.2.2.2.2.1, z.2.2.2.2.2.2))))))) (by simpa using g192)]
        refine sN T_ok [0, 1, 5, 65536] [0] ⟨[(0, .lf (.hd 0 0 none)), (1, I (IntKind.i64.wrap (x137 + (1 : Int)))), (5, I x138), (65536, .lf (.hd 0 0 none))], [ar 0 Y105 (x136.set x138.toNat (x137, (y190, ((x136.getD x138.toNat (Ty.dflt Y105)).2.2.1, ((x136.getD x138.toNat (Ty.dflt Y105)).2.2.2.1, ((x136.getD x138.toNat (Ty.dflt Y105)).2.2.2.2.1, ((x136.getD x138.toNat (Ty.dflt Y105)).2.2.2.2.2.1, (x136.getD x138.toNat (Ty.dflt Y105)).2.2.2.2.2.2))))))) .dp]⟩ (tn 0) ?_
        refine sR T_ok [0, 1, 5, 65536] [0] ⟨[(0, .lf (.hd 0 0 none)), (1, I (IntKind.i64.wrap ((IntKind.i64.wrap (x137 + (1 : Int))) + (1 : Int)))), (5, I x138), (65536, .lf (.hd 0 0 none))], [ar 0 Y105 (x136.set x138.toNat (x137, (y190, ((x136.getD x138.toNat (Ty.dflt Y105)).2.2.1, ((x136.getD x138.toNat (Ty.dflt Y105)).2.2.2.1, ((x136.getD x138.toNat (Ty.dflt Y105)).2.2.2.2.1, ((x136.getD x138.toNat (Ty.dflt Y105)).2.2.2.2.2.1, (x136.getD x138.toNat (Ty.dflt Y105)).2.2.2.2.2.2))))))) .dp]⟩ (tn 3) ?_
        refine VW.seq ?_
        refine VW.region ?_
        obtain ⟨g193, h⟩ := gd_some h
        obtain ⟨g194, h⟩ := gd_some h
        refine sG T_ok 6 [0, 1, 5, 65536] [0] ⟨[(0, .lf (.hd 0 0 none)), (1, I (IntKind.i64.wrap ((IntKind.i64.wrap (x137 + (1 : Int))) + (1 : Int)))), (5, I x138), (65536, .lf (.hd 0 0 none))], [ar 0 Y105 ((x136.set x138.toNat (x137, (y190, ((x136.getD x138.toNat (Ty.dflt Y105)).2.2.1, ((x136.getD x138.toNat (Ty.dflt Y105)).2.2.2.1, ((x136.getD x138.toNat (Ty.dflt Y105)).2.2.2.2.1, ((x136.getD x138.toNat (Ty.dflt Y105)).2.2.2.2.2.1, (x136.getD x138.toNat (Ty.dflt Y105)).2.2.2.2.2.2))))))).set x138.toNat (((x136.set x138.toNat (x137, (y190, ((x136.getD x138.toNat (Ty.dflt Y105)).2.2.1, ((x136.getD x138.toNat (Ty.dflt Y105)).2.2.2.1, ((x136.getD x138.toNat (Ty.dflt Y105)).2.2.2.2.1, ((x136.getD x138.toNat (Ty.dflt Y105)).2.2.2.2.2.1, (x136.getD x138.toNat (Ty.dflt Y105)).2.2.2.2.2.2))))))).getD x138.toNat (Ty.dflt Y105)).1, (((x136.set x138.toNat (x137, (y190, ((x136.getD x138.toNat (Ty.dflt Y105)).2.2.1, ((x136.getD x138.toNat (Ty.dflt Y105)).2.2.2.1, ((x136.getD x138.toNat (Ty.dflt Y105)).2.2.2.2.1, ((x136.getD x138.toNat (Ty.dflt Y105)).2.2.2.2.2.1, (x136.getD x138.toNat (Ty.dflt Y105)).2.2.2.2.2.2))))))).getD x138.toNat (Ty.dflt Y105)).2.1, ((IntKind.i64.wrap ((IntKind.i64.wrap (x137 + (1 : Int))) + (1 : Int))), (((x136.set x138.toNat (x137, (y190, ((x136.getD x138.toNat (Ty.dflt Y105)).2.2.1, ((x136.getD x138.toNat (Ty.dflt Y105)).2.2.2.1, ((x136.getD x138.toNat (Ty.dflt Y105)).2.2.2.2.1, ((x136.getD x138.toNat (Ty.dflt Y105)).2.2.2.2.2.1, (x136.getD x138.toNat (Ty.dflt Y105)).2.2.2.2.2.2))))))).getD x138.toNat (Ty.dflt Y105)).2.2.2.1, (((x136.set x138.toNat (x137, (y190, ((x136.getD x138.toNat (Ty.dflt Y105)).2.2.1, ((x136.getD x138.toNat (Ty.dflt Y105)).2.2.2.1, ((x136.getD x138.toNat (Ty.dflt Y105)).2.2.2.2.1, ((x136.getD x138.toNat (Ty.dflt Y105)).2.2.2.2.2.1, (x136.getD x138.toNat (Ty.dflt Y105)).2.2.2.2.2.2))))))).getD x138.toNat (Ty.dflt Y105)).2.2.2.2.1, (((x136.set x138.toNat (x137, (y190, ((x136.getD x138.toNat (Ty.dflt Y105)).2.2.1, ((x136.getD x138.toNat (Ty.dflt Y105)).2.2.2.1, ((x136.getD x138.toNat (Ty.dflt Y105)).2.2.2.2.1, ((x136.getD x138.toNat (Ty.dflt Y105)).2.2.2.2.2.1, (x136.getD x138.toNat (Ty.dflt Y105)).2.2.2.2.2.2))))))).getD x138.toNat (Ty.dflt Y105)).2.2.2.2.2.1, ((x136.set x138.toNat (x137, (y190, ((x136.getD x138.toNat (Ty.dflt Y105)).2.2.1, ((x136.getD x138.toNat (Ty.dflt Y105)).2.2.2.1, ((x136.getD x138.toNat (Ty.dflt Y105)).2.2.2.2.1, ((x136.getD x138.toNat (Ty.dflt Y105)).2.2.2.2.2.1, (x136.getD x138.toNat (Ty.dflt Y105)).2.2.2.2.2.2))))))).getD x138.toNat (Ty.dflt Y105)).2.2.2.2.2.2))))))) .dp]⟩ (pu 3 (an g193 (pu 1 (an g194 (tn 0))))) ?_
        rw [show ((x136.set x138.toNat (x137, (y190, ((x136.getD x138.toNat (Ty.dflt Y105)).2.2.1, ((x136.getD x138.toNat (Ty.dflt Y105)).2.2.2.1, ((x136.getD x138.toNat (Ty.dflt Y105)).2.2.2.2.1, ((x136.getD x138.toNat (Ty.dflt Y105)).2.2.2.2.2.1, (x136.getD x138.toNat (Ty.dflt Y105)).2.2.2.2.2.2))))))).set x138.toNat (((x136.set x138.toNat (x137, (y190, ((x136.getD x138.toNat (Ty.dflt Y105)).2.2.1, ((x136.getD x138.toNat (Ty.dflt Y105)).2.2.2.1, ((x136.getD x138.toNat (Ty.dflt Y105)).2.2.2.2.1, ((x136.getD x138.toNat (Ty.dflt Y105)).2.2.2.2.2.1, (x136.getD x138.toNat (Ty.dflt Y105)).2.2.2.2.2.2))))))).getD x138.toNat (Ty.dflt Y105)).1, (((x136.set x138.toNat (x137, (y190, ((x136.getD x138.toNat (Ty.dflt Y105)).2.2.1, ((x136.getD x138.toNat (Ty.dflt Y105)).2.2.2.1, ((x136.getD x138.toNat (Ty.dflt Y105)).2.2.2.2.1, ((x136.getD x138.toNat (Ty.dflt Y105)).2.2.2.2.2.1, (x136.getD x138.toNat (Ty.dflt Y105)).2.2.2.2.2.2))))))).getD x138.toNat (Ty.dflt Y105)).2.1, ((IntKind.i64.wrap ((IntKind.i64.wrap (x137 + (1 : Int))) + (1 : Int))), (((x136.set x138.toNat (x137, (y190, ((x136.getD x138.toNat (Ty.dflt Y105)).2.2.1, ((x136.getD x138.toNat (Ty.dflt Y105)).2.2.2.1, ((x136.getD x138.toNat (Ty.dflt Y105)).2.2.2.2.1, ((x136.getD x138.toNat (Ty.dflt Y105)).2.2.2.2.2.1, (x136.getD x138.toNat (Ty.dflt Y105)).2.2.2.2.2.2))))))).getD x138.toNat (Ty.dflt Y105)).2.2.2.1, (((x136.set x138.toNat (x137, (y190, ((x136.getD x138.toNat (Ty.dflt Y105)).2.2.1, ((x136.getD x138.toNat (Ty.dflt Y105)).2.2.2.1, ((x136.getD x138.toNat (Ty.dflt Y105)).2.2.2.2.1, ((x136.getD x138.toNat (Ty.dflt Y105)).2.2.2.2.2.1, (x136.getD x138.toNat (Ty.dflt Y105)).2.2.2.2.2.2))))))).getD x138.toNat (Ty.dflt Y105)).2.2.2.2.1, (((x136.set x138.toNat (x137, (y190, ((x136.getD x138.toNat (Ty.dflt Y105)).2.2.1, ((x136.getD x138.toNat (Ty.dflt Y105)).2.2.2.1, ((x136.getD x138.toNat (Ty.dflt Y105)).2.2.2.2.1, ((x136.getD x138.toNat (Ty.dflt Y105)).2.2.2.2.2.1, (x136.getD x138.toNat (Ty.dflt Y105)).2.2.2.2.2.2))))))).getD x138.toNat (Ty.dflt Y105)).2.2.2.2.2.1, ((x136.set x138.toNat (x137, (y190, ((x136.getD x138.toNat (Ty.dflt Y105)).2.2.1, ((x136.getD x138.toNat (Ty.dflt Y105)).2.2.2.1, ((x136.getD x138.toNat (Ty.dflt Y105)).2.2.2.2.1, ((x136.getD x138.toNat (Ty.dflt Y105)).2.2.2.2.2.1, (x136.getD x138.toNat (Ty.dflt Y105)).2.2.2.2.2.2))))))).getD x138.toNat (Ty.dflt Y105)).2.2.2.2.2.2))))))) = (x136.set x138.toNat (x137, (y190, ((IntKind.i64.wrap ((IntKind.i64.wrap (x137 + (1 : Int))) + (1 : Int))), ((x136.getD x138.toNat (Ty.dflt Y105)).2.2.2.1, ((x136.getD x138.toNat (Ty.dflt Y105)).2.2.2.2.1, ((x136.getD x138.toNat (Ty.dflt Y105)).2.2.2.2.2.1, (x136.getD x138.toNat (Ty.dflt Y105)).2.2.2.2.2.2))))))) from set_upd x136 x138.toNat (x137, (y190, ((x136.getD x138.toNat (Ty.dflt Y105)).2.2.1, ((x136.getD x138.toNat (Ty.dflt Y105)).2.2.2.1, ((x136.getD x138.toNat (Ty.dflt Y105)).2.2.2.2.1, ((x136.getD x138.toNat (Ty.dflt Y105)).2.2.2.2.2.1, (x136.getD x138.toNat (Ty.dflt Y105)).2.2.2.2.2.2)))))) (Ty.dflt Y105) (fun z => (z.1, (z.2.1, ((IntKind.i64.wrap ((IntKind.i64.wrap (x137 + (1 : Int))) + (1 : Int))), (z.2.2.2.1, (z.2.2.2.2.1, (z.2.2.2.2.2.1, z.2.2.2.2.2.2))))))) (by simpa using g194)]
        refine sN T_ok [0, 1, 5, 65536] [0] ⟨[(0, .lf (.hd 0 0 none)), (1, I (IntKind.i64.wrap ((IntKind.i64.wrap (x137 + (1 : Int))) + (1 : Int)))), (5, I x138), (65536, .lf (.hd 0 0 none))], [ar 0 Y105 (x136.set x138.toNat (x137, (y190, ((IntKind.i64.wrap ((IntKind.i64.wrap (x137 + (1 : Int))) + (1 : Int))), ((x136.getD x138.toNat (Ty.dflt Y105)).2.2.2.1, ((x136.getD x138.toNat (Ty.dflt Y105)).2.2.2.2.1, ((x136.getD x138.toNat (Ty.dflt Y105)).2.2.2.2.2.1, (x136.getD x138.toNat (Ty.dflt Y105)).2.2.2.2.2.2))))))) .dp]⟩ (tn 0) ?_
        refine sR T_ok [0, 1, 5, 65536] [0] ⟨[(0, .lf (.hd 0 0 none)), (1, I (IntKind.i64.wrap ((IntKind.i64.wrap ((IntKind.i64.wrap (x137 + (1 : Int))) + (1 : Int))) + (1 : Int)))), (5, I x138), (65536, .lf (.hd 0 0 none))], [ar 0 Y105 (x136.set x138.toNat (x137, (y190, ((IntKind.i64.wrap ((IntKind.i64.wrap (x137 + (1 : Int))) + (1 : Int))), ((x136.getD x138.toNat (Ty.dflt Y105)).2.2.2.1, ((x136.getD x138.toNat (Ty.dflt Y105)).2.2.2.2.1, ((x136.getD x138.toNat (Ty.dflt Y105)).2.2.2.2.2.1, (x136.getD x138.toNat (Ty.dflt Y105)).2.2.2.2.2.2))))))) .dp]⟩ (tn 3) ?_
        refine VW.seq ?_
        refine VW.region ?_
        obtain ⟨g195, h⟩ := gd_some h
        obtain ⟨g196, h⟩ := gd_some h
        refine sG T_ok 6 [0, 1, 5, 65536] [0] ⟨[(0, .lf (.hd 0 0 none)), (1, I (IntKind.i64.wrap ((IntKind.i64.wrap ((IntKind.i64.wrap (x137 + (1 : Int))) + (1 : Int))) + (1 : Int)))), (5, I x138), (65536, .lf (.hd 0 0 none))], [ar 0 Y105 ((x136.set x138.toNat (x137, (y190, ((IntKind.i64.wrap ((IntKind.i64.wrap (x137 + (1 : Int))) + (1 : Int))), ((x136.getD x138.toNat (Ty.dflt Y105)).2.2.2.1, ((x136.getD x138.toNat (Ty.dflt Y105)).2.2.2.2.1, ((x136.getD x138.toNat (Ty.dflt Y105)).2.2.2.2.2.1, (x136.getD x138.toNat (Ty.dflt Y105)).2.2.2.2.2.2))))))).set x138.toNat (((x136.set x138.toNat (x137, (y190, ((IntKind.i64.wrap ((IntKind.i64.wrap (x137 + (1 : Int))) + (1 : Int))), ((x136.getD x138.toNat (Ty.dflt Y105)).2.2.2.1, ((x136.getD x138.toNat (Ty.dflt Y105)).2.2.2.2.1, ((x136.getD x138.toNat (Ty.dflt Y105)).2.2.2.2.2.1, (x136.getD x138.toNat (Ty.dflt Y105)).2.2.2.2.2.2))))))).getD x138.toNat (Ty.dflt Y105)).1, (((x136.set x138.toNat (x137, (y190, ((IntKind.i64.wrap ((IntKind.i64.wrap (x137 + (1 : Int))) + (1 : Int))), ((x136.getD x138.toNat (Ty.dflt Y105)).2.2.2.1, ((x136.getD x138.toNat (Ty.dflt Y105)).2.2.2.2.1, ((x136.getD x138.toNat (Ty.dflt Y105)).2.2.2.2.2.1, (x136.getD x138.toNat (Ty.dflt Y105)).2.2.2.2.2.2))))))).getD x138.toNat (Ty.dflt Y105)).2.1, (((x136.set x138.toNat (x137, (y190, ((IntKind.i64.wrap ((IntKind.i64.wrap (x137 + (1 : Int))) + (1 : Int))), ((x136.getD x138.toNat (Ty.dflt Y105)).2.2.2.1, ((x136.getD x138.toNat (Ty.dflt Y105)).2.2.2.2.1, ((x136.getD x138.toNat (Ty.dflt Y105)).2.2.2.2.2.1, (x136.getD x138.toNat (Ty.dflt Y105)).2.2.2.2.2.2))))))).getD x138.toNat (Ty.dflt Y105)).2.2.1, ((IntKind.i64.wrap ((IntKind.i64.wrap ((IntKind.i64.wrap (x137 + (1 : Int))) + (1 : Int))) + (1 : Int))), (((x136.set x138.toNat (x137, (y190, ((IntKind.i64.wrap ((IntKind.i64.wrap (x137 + (1 : Int))) + (1 : Int))), ((x136.getD x138.toNat (Ty.dflt Y105)).2.2.2.1, ((x136.getD x138.toNat (Ty.dflt Y105)).2.2.2.2.1, ((x136.getD x138.toNat (Ty.dflt Y105)).2.2.2.2.2.1, (x136.getD x138.toNat (Ty.dflt Y105)).2.2.2.2.2.2))))))).getD x138.toNat (Ty.dflt Y105)).2.2.2.2.1, (((x136.set x138.toNat (x137, (y190, ((IntKind.i64.wrap ((IntKind.i64.wrap (x137 + (1 : Int))) + (1 : Int))), ((x136.getD x138.toNat (Ty.dflt Y105)).2.2.2.1, ((x136.getD x138.toNat (Ty.dflt Y105)).2.2.2.2.1, ((x136.getD x138.toNat (Ty.dflt Y105)).2.2.2.2.2.1, (x136.getD x138.toNat (Ty.dflt Y105)).2.2.2.2.2.2))))))).getD x138.toNat (Ty.dflt Y105)).2.2.2.2.2.1, ((x136.set x138.toNat (x137, (y190, ((IntKind.i64.wrap ((IntKind.i64.wrap (x137 + (1 : Int))) + (1 : Int))), ((x136.getD x138.toNat (Ty.dflt Y105)).2.2.2.1, ((x136.getD x138.toNat (Ty.dflt Y105)).2.2.2.2.1, ((x136.getD x138.toNat (Ty.dflt Y105)).2.2.2.2.2.1, (x136.getD x138.toNat (Ty.dflt Y105)).2.2.2.2.2.2))))))).getD x138.toNat (Ty.dflt Y105)).2.2.2.2.2.2))))))) .dp]⟩ (pu 3 (an g195 (pu 1 (an g196 (tn 0))))) ?_
        rw [show ((x136.set x138.toNat (x137, (y190, ((IntKind.i64.wrap ((IntKind.i64.wrap (x137 + (1 : Int))) + (1 : Int))), ((x136.getD x138.toNat (Ty.dflt Y105)).2.2.2.1, ((x136.getD x138.toNat (Ty.dflt Y105)).2.2.2.2.1, ((x136.getD x138.toNat (Ty.dflt Y105)).2.2.2.2.2.1, (x136.getD x138.toNat (Ty.dflt Y105)).2.2.2.2.2.2))))))).set x138.toNat (((x136.set x138.toNat (x137, (y190, ((IntKind.i64.wrap ((IntKind.i64.wrap (x137 + (1 : Int))) + (1 : Int))), ((x136.getD x138.toNat (Ty.dflt Y105)).2.2.2.1, ((x136.getD x138.toNat (Ty.dflt Y105)).2.2.2.2.1, ((x136.getD x138.toNat (Ty.dflt Y105)).2.2.2.2.2.1, (x136.getD x138.toNat (Ty.dflt Y105)).2.2.2.2.2.2))))))).getD x138.toNat (Ty.dflt Y105)).1, (((x136.set x138.toNat (x137, (y190, ((IntKind.i64.wrap ((IntKind.i64.wrap (x137 + (1 : Int))) + (1 : Int))), ((x136.getD x138.toNat (Ty.dflt Y105)).2.2.2.1, ((x136.getD x138.toNat (Ty.dflt Y105)).2.2.2.2.1, ((x136.getD x138.toNat (Ty.dflt Y105)).2.2.2.2.2.1, (x136.getD x138.toNat (Ty.dflt Y105)).2.2.2.2.2.2))))))).getD x138.toNat (Ty.dflt Y105)).2.1, (((x136.set x138.toNat (x137, (y190, ((IntKind.i64.wrap ((IntKind.i64.wrap (x137 + (1 : Int))) + (1 : Int))), ((x136.getD x138.toNat (Ty.dflt Y105)).2.2.2.1, ((x136.getD x138.toNat (Ty.dflt Y105)).2.2.2.2.1, ((x136.getD x138.toNat (Ty.dflt Y105)).2.2.2.2.2.1, (x136.getD x138.toNat (Ty.dflt Y105)).2.2.2.2.2.2))))))).getD x138.toNat (Ty.dflt Y105)).2.2.1, ((IntKind.i64.wrap ((IntKind.i64.wrap ((IntKind.i64.wrap (x137 + (1 : Int))) + (1 : Int))) + (1 : Int))), (((x136.set x138.toNat (x137, (y190, ((IntKind.i64.wrap ((IntKind.i64.wrap (x137 + (1 : Int))) + (1 : Int))), ((x136.getD x138.toNat (Ty.dflt Y105)).2.2.2.1, ((x136.getD x138.toNat (Ty.dflt Y105)).2.2.2.2.1, ((x136.getD x138.toNat (Ty.dflt Y105)).2.2.2.2.2.1, (x136.getD x138.toNat (Ty.dflt Y105)).2.2.2.2.2.2))))))).getD x138.toNat (Ty.dflt Y105)).2.2.2.2.1, (((x136.set x138.toNat (x137, (y190, ((IntKind.i64.wrap ((IntKind.i64.wrap (x137 + (1 : Int))) + (1 : Int))), ((x136.getD x138.toNat (Ty.dflt Y105)).2.2.2.1, ((x136.getD x138.toNat (Ty.dflt Y105)).2.2.2.2.1, ((x136.getD x138.toNat (Ty.dflt Y105)).2.2.2.2.2.1, (x136.getD x138.toNat (Ty.dflt Y105)).2.2.2.2.2.2))))))).getD x138.toNat (Ty.dflt Y105)).2.2.2.2.2.1, ((x136.set x138.toNat (x137, (y190, ((IntKind.i64.wrap ((IntKind.i64.wrap (x137 + (1 : Int))) + (1 : Int))), ((x136.getD x138.toNat (Ty.dflt Y105)).2.2.2.1, ((x136.getD x138.toNat (Ty.dflt Y105)).2.2.2.2.1, ((x136.getD x138.toNat (Ty.dflt Y105)).2.2.2.2.2.1, (x136.getD x138.toNat (Ty.dflt Y105)).2.2.2.2.2.2))))))).getD x138.toNat (Ty.dflt Y105)).2.2.2.2.2.2))))))) = (x136.set x138.toNat (x137, (y190, ((IntKind.i64.wrap ((IntKind.i64.wrap (x137 + (1 : Int))) + (1 : Int))), ((IntKind.i64.wrap ((IntKind.i64.wrap ((IntKind.i64.wrap (x137 + (1 : Int))) + (1 : Int))) + (1 : Int))), ((x136.getD x138.toNat (Ty.dflt Y105)).2.2.2.2.1, ((x136.getD x138.toNat (Ty.dflt Y105)).2.2.2.2.2.1, (x136.getD x138.toNat (Ty.dflt Y105)).2.2.2.2.2.2))))))) from set_upd x136 x138.toNat (x137, (y190, ((IntKind.i64.wrap ((IntKind.i64.wrap (x137 + (1 : Int))) + (1 : Int))), ((x136.getD x138.toNat (Ty.dflt Y105)).2.2.2.1, ((x136.getD x138.toNat (Ty.dflt Y105)).2.2.2.2.1, ((x136.getD x138.toNat (Ty.dflt Y105)).2.2.2.2.2.1, (x136.getD x138.toNat (Ty.dflt Y105)).2.2.2.2.2.2)))))) (Ty.dflt Y105) (fun z => (z.1, (z.2.1, (z.2.2.1, ((IntKind.i64.wrap ((IntKind.i64.wrap ((IntKind.i64.wrap (x137 + (1 : Int))) + (1 : Int))) + (1 : Int))), (z.2.2.2.2.1, (z.2.2.2.2.2.1, z.2.2.2.2.2.2))))))) (by simpa using g196)]
        refine sN T_ok [0, 1, 5, 65536] [0] ⟨[(0, .lf (.hd 0 0 none)), (1, I (IntKind.i64.wrap ((IntKind.i64.wrap ((IntKind.i64.wrap (x137 + (1 : Int))) + (1 : Int))) + (1 : Int)))), (5, I x138), (65536, .lf (.hd 0 0 none))], [ar 0 Y105 (x136.set x138.toNat (x137, (y190, ((IntKind.i64.wrap ((IntKind.i64.wrap (x137 + (1 : Int))) + (1 : Int))), ((IntKind.i64.wrap ((IntKind.i64.wrap ((IntKind.i64.wrap (x137 + (1 : Int))) + (1 : Int))) + (1 : Int))), ((x136.getD x138.toNat (Ty.dflt Y105)).2.2.2.2.1, ((x136.getD x138.toNat (Ty.dflt Y105)).2.2.2.2.2.1, (x136.getD x138.toNat (Ty.dflt Y105)).2.2.2.2.2.2))))))) .dp]⟩ (tn 0) ?_
        refine sR T_ok [0, 1, 5, 65536] [0] ⟨[(0, .lf (.hd 0 0 none)), (1, I (IntKind.i64.wrap ((IntKind.i64.wrap ((IntKind.i64.wrap ((IntKind.i64.wrap (x137 + (1 : Int))) + (1 : Int))) + (1 : Int))) + (1 : Int)))), (5, I x138), (65536, .lf (.hd 0 0 none))], [ar 0 Y105 (x136.set x138.toNat (x137, (y190, ((IntKind.i64.wrap ((IntKind.i64.wrap (x137 + (1 : Int))) + (1 : Int))), ((IntKind.i64.wrap ((IntKind.i64.wrap ((IntKind.i64.wrap (x137 + (1 : Int))) + (1 : Int))) + (1 : Int))), ((x136.getD x138.toNat (Ty.dflt Y105)).2.2.2.2.1, ((x136.getD x138.toNat (Ty.dflt Y105)).2.2.2.2.2.1, (x136.getD x138.toNat (Ty.dflt Y105)).2.2.2.2.2.2))))))) .dp]⟩ (tn 3) ?_
        refine VW.seq ?_
        refine VW.region ?_
        obtain ⟨g197, h⟩ := gd_some h
        obtain ⟨g198, h⟩ := gd_some h
        refine sG T_ok 6 [0, 1, 5, 65536] [0] ⟨[(0, .lf (.hd 0 0 none)), (1, I (IntKind.i64.wrap ((IntKind.i64.wrap ((IntKind.i64.wrap ((IntKind.i64.wrap (x137 + (1 : Int))) + (1 : Int))) + (1 : Int))) + (1 : Int)))), (5, I x138), (65536, .lf (.hd 0 0 none))], [ar 0 Y105 ((x136.set x138.toNat (x137, (y190, ((IntKind.i64.wrap ((IntKind.i64.wrap (x137 + (1 : Int))) + (1 : Int))), ((IntKind.i64.wrap ((IntKind.i64.wrap ((IntKind.i64.wrap (x137 + (1 : Int))) + (1 : Int))) + (1 : Int))), ((x136.getD x138.toNat (Ty.dflt Y105)).2.2.2.2.1, ((x136.getD x138.toNat (Ty.dflt Y105)).2.2.2.2.2.1, (x136.getD x138.toNat (Ty.dflt Y105)).2.2.2.2.2.2))))))).set x138.toNat (((x136.set x138.toNat (x137, (y190, ((IntKind.i64.wrap ((IntKind.i64.wrap (x137 + (1 : Int))) + (1 : Int))), ((IntKind.i64.wrap ((IntKind.i64.wrap ((IntKind.i64.wrap (x137 + (1 : Int))) + (1 : Int))) + (1 : Int))), ((x136.getD x138.toNat (Ty.dflt Y105)).2.2.2.2.1, ((x136.getD x138.toNat (Ty.dflt Y105)).2.2.2.2.2.1, (x136.getD x138.toNat (Ty.dflt Y105)).2.2.2.2.2.2))))))).getD x138.toNat (Ty.dflt Y105)).1, (((x136.set x138.toNat (x137, (y190, ((IntKind.i64.wrap ((IntKind.i64.wrap (x137 + (1 : Int))) + (1 : Int))), ((IntKind.i64.wrap ((IntKind.i64.wrap ((IntKind.i64.wrap (x137 + (1 : Int))) + (1 : Int))) + (1 : Int))), ((x136.getD x138.toNat (Ty.dflt Y105)).2.2.2.2.1, ((x136.getD x138.toNat (Ty.dflt Y105)).2.2.2.2.2.1, (x136.getD x138.toNat (Ty.dflt Y105)).2.2.2.2.2.2))))))).getD x138.toNat (Ty.dflt Y105)).2.1, (((x136.set x138.toNat (x137, (y190, ((IntKind.i64.wrap ((IntKind.i64.wrap (x137 + (1 : Int))) + (1 : Int))), ((IntKind.i64.wrap ((IntKind.i64.wrap ((IntKind.i64.wrap (x137 + (1 : Int))) + (1 : Int))) + (1 : Int))), ((x136.getD x138.toNat (Ty.dflt Y105)).2.2.2.2.1, ((x136.getD x138.toNat (Ty.dflt Y105)).2.2.2.2.2.1, (x136.getD x138.toNat (Ty.dflt Y105)).2.2.2.2.2.2))))))).getD x138.toNat (Ty.dflt Y105)).2.2.1, (((x136.set x138.toNat (x137, (y190, ((IntKind.i64.wrap ((IntKind.i64.wrap (x137 + (1 : Int))) + (1 : Int))), ((IntKind.i64.wrap ((IntKind.i64.wrap ((IntKind.i64.wrap (x137 + (1 : Int))) + (1 : Int))) + (1 : Int))), ((x136.getD x138.toNat (Ty.dflt Y105)).2.2.2.2.1, ((x136.getD x138.toNat (Ty.dflt Y105)).2.2.2.2.2.1, (x136.getD x138.toNat (Ty.dflt Y105)).2.2.2.2.2.2))))))).getD x138.toNat (Ty.dflt Y105)).2.2.2.1, ((IntKind.i64.wrap ((IntKind.i64.wrap ((IntKind.i64.wrap ((IntKind.i64.wrap (x137 + (1 : Int))) + (1 : Int))) + (1 : Int))) + (1 : Int))), (((x136.set x138.toNat (x137, (y190, ((IntKind.i64.wrap ((IntKind.i64.wrap (x137 + (1 : Int))) + (1 : Int))), ((IntKind.i64.wrap ((IntKind.i64.wrap ((IntKind.i64.wrap (x137 + (1 : Int))) + (1 : Int))) + (1 : Int))), ((x136.getD x138.toNat (Ty.dflt Y105)).2.2.2.2.1, ((x136.getD x138.toNat (Ty.dflt Y105)).2.2.2.2.2.1, (x136.getD x138.toNat (Ty.dflt Y105)).2.2.2.2.2.2))))))).getD x138.toNat (Ty.dflt Y105)).2.2.2.2.2.1, ((x136.set x138.toNat (x137, (y190, ((IntKind.i64.wrap ((IntKind.i64.wrap (x137 + (1 : Int))) + (1 : Int))), ((IntKind.i64.wrap ((IntKind.i64.wrap ((IntKind.i64.wrap (x137 + (1 : Int))) + (1 : Int))) + (1 : Int))), ((x136.getD x138.toNat (Ty.dflt Y105)).2.2.2.2.1, ((x136.getD x138.toNat (Ty.dflt Y105)).2.2.2.2.2.1, (x136.getD x138.toNat (Ty.dflt Y105)).2.2.2.2.2.2))))))).getD x138.toNat (Ty.dflt Y105)).2.2.2.2.2.2))))))) .dp]⟩ (pu 3 (an g197 (pu 1 (an g198 (tn 0))))) ?_
        rw [show ((x136.set x138.toNat (x137, (y190, ((IntKind.i64.wrap ((IntKind.i64.wrap (x137 + (1 : Int))) + (1 : Int))), ((IntKind.i64.wrap ((IntKind.i64.wrap ((IntKind.i64.wrap (x137 + (1 : Int))) + (1 : Int))) + (1 : Int))), ((x136.getD x138.toNat (Ty.dflt Y105)).2.2.2.2.1, ((x136.getD x138.toNat (Ty.dflt Y105)).2.2.2.2.2.1, (x136.getD x138.toNat (Ty.dflt Y105)).2.2.2.2.2.2))))))).set x138.toNat (((x136.set x138.toNat (x137, (y190, ((IntKind.i64.wrap ((IntKind.i64.wrap (x137 + (1 : Int))) + (1 : Int))), ((IntKind.i64.wrap ((IntKind.i64.wrap ((IntKind.i64.wrap (x137 + (1 : Int))) + (1 : Int))) + (1 : Int))), ((x136.getD x138.toNat (Ty.dflt Y105)).2.2.2.2.1, ((x136.getD x138.toNat (Ty.dflt Y105)).2.2.2.2.2.1, (x136.getD x138.toNat (Ty.dflt Y105)).2.2.2.2.2.2))))))).getD x138.toNat (Ty.dflt Y105)).1, (((x136.set x138.toNat (x137, (y190, ((IntKind.i64.wrap ((IntKind.i64.wrap (x137 + (1 : Int))) + (1 : Int))), ((IntKind.i64.wrap ((IntKind.i64.wrap ((IntKind.i64.wrap (x137 + (1 : Int))) + (1 : Int))) + (1 : Int))), ((x136.getD x138.toNat (Ty.dflt Y105)).2.2.2.2.1, ((x136.getD x138.toNat (Ty.dflt Y105)).2.2.2.2.2.1, (x136.getD x138.toNat (Ty.dflt Y105)).2.2.2.2.2.2))))))).getD x138.toNat (Ty.dflt Y105)).2.1, (((x136.set x138.toNat (x137, (y190, ((IntKind.i64.wrap ((IntKind.i64.wrap (x137 + (1 : Int))) + (1 : Int))), ((IntKind.i64.wrap ((IntKind.i64.wrap ((IntKind.i64.wrap (x137 + (1 : Int))) + (1 : Int))) + (1 : Int))), ((x136.getD x138.toNat (Ty.dflt Y105)).2.2.2.2.1, ((x136.getD x138.toNat (Ty.dflt Y105)).2.2.2.2.2.1, (x136.getD x138.toNat (Ty.dflt Y105)).2.2.2.2.2.2))))))).getD x138.toNat (Ty.dflt Y105)).2.2.1, (((x136.set x138.toNat (x137, (y190, ((IntKind.i64.wrap ((IntKind.i64.wrap (x137 + (1 : Int))) + (1 : Int))), ((IntKind.i64.wrap ((IntKind.i64.wrap ((IntKind.i64.wrap (x137 + (1 : Int))) + (1 : Int))) + (1 : Int))), ((x136.getD x138.toNat (Ty.dflt Y105)).2.2.2.2.1, ((x136.getD x138.toNat (Ty.dflt Y105)).2.2.2.2.2.1, (x136.getD x138.toNat (Ty.dflt Y105)).2.2.2.2.2.2))))))).getD x138.toNat (Ty.dflt Y105)).2.2.2.1, ((IntKind.i64.wrap ((IntKind.i64.wrap ((IntKind.i64.wrap ((IntKind.i64.wrap (x137 + (1 : Int))) + (1 : Int))) + (1 : Int))) + (1 : Int))), (((x136.set x138.toNat (x137, (y190, ((IntKind.i64.wrap ((IntKind.i64.wrap (x137 + (1 : Int))) + (1 : Int))), ((IntKind.i64.wrap ((IntKind.i64.wrap ((IntKind.i64.wrap (x137 + (1 : Int))) + (1 : Int))) + (1 : Int))), ((x136.getD x138.toNat (Ty.dflt Y105)).2.2.2.2.1, ((x136.getD x138.toNat (Ty.dflt Y105)).2.2.2.2.2.1, (x136.getD x138.toNat (Ty.dflt Y105)).2.2.2.2.2.2))))))).getD x138.toNat (Ty.dflt Y105)).2.2.2.2.2.1, ((x136.set x138.toNat (x137, (y190, ((IntKind.i64.wrap ((IntKind.i64.wrap (x137 + (1 : Int))) + (1 : Int))), ((IntKind.i64.wrap ((IntKind.i64.wrap ((IntKind.i64.wrap (x137 + (1 : Int))) + (1 : Int))) + (1 : Int))), ((x136.getD x138.toNat (Ty.dflt Y105)).2.2.2.2.1, ((x136.getD x138.toNat (Ty.dflt Y105)).2.2.2.2.2.1, (x136.getD x138.toNat (Ty.dflt Y105)).2.2.2.2.2.2))))))).getD x138.toNat (Ty.dflt Y105)).2.2.2.2.2.2))))))) = (x136.set x138.toNat (x137, (y190, ((IntKind.i64.wrap ((IntKind.i64.wrap (x137 + (1 : Int))) + (1 : Int))), ((IntKind.i64.wrap ((IntKind.i64.wrap ((IntKind.i64.wrap (x137 + (1 : Int))) + (1 : Int))) + (1 : Int))), ((IntKind.i64.wrap ((IntKind.i64.wrap ((IntKind.i64.wrap ((IntKind.i64.wrap (x137 + (1 : Int))) + (1 : Int))) + (1 : Int))) + (1 : Int))), ((x136.getD x138.toNat (Ty.dflt Y105)).2.2.2.2.2.1, (x136.getD x138.toNat (Ty.dflt Y105)).2.2.2.2.2.2))))))) from set_upd x136 x138.toNat (x137, (y190, ((IntKind.i64.wrap ((IntKind.i64.wrap (x137 + (1 : Int))) + (1 : Int))), ((IntKind.i64.wrap ((IntKind.i64.wrap ((IntKind.i64.wrap (x137 + (1 : Int))) + (1 : Int))) + (1 : Int))), ((x136.getD x138.toNat (Ty.dflt Y105)).2.2.2.2.1, ((x136.getD x138.toNat (Ty.dflt Y105)).2.2.2.2.2.1, (x136.getD x138.toNat (Ty.dflt Y105)).2.2.2.2.2.2)))))) (Ty.dflt Y105) (fun z => (z.1, (z.2.1, (z.2.2.1, (z.2.2.2.1, ((IntKind.i64.wrap ((IntKind.i64.wrap ((IntKind.i64.wrap ((IntKind.i64.wrap (x137 + (1 : Int))) + (1 : Int))) + (1 : Int))) + (1 : Int))), (z.2.2.2.2.2.1, z.2.2.2.2.2.2))))))) (by simpa using g198)]
        refine sN T_ok [0, 1, 5, 65536] [0] ⟨[(0, .lf (.hd 0 0 none)), (1, I (IntKind.i64.wrap ((IntKind.i64.wrap ((IntKind.i64.wrap ((IntKind.i64.wrap (x137 + (1 : Int))) + (1 : Int))) + (1 : Int))) + (1 : Int)))), (5, I x138), (65536, .lf (.hd 0 0 none))], [ar 0 Y105 (x136.set x138.toNat (x137, (y190, ((IntKind.i64.wrap ((IntKind.i64.wrap (x137 + (1 : Int))) + (1 : Int))), ((IntKind.i64.wrap ((IntKind.i64.wrap ((IntKind.i64.wrap (x137 + (1 : Int))) + (1 : Int))) + (1 : Int))), ((IntKind.i64.wrap ((IntKind.i64.wrap ((IntKind.i64.wrap ((IntKind.i64.wrap (x137 + (1 : Int))) + (1 : Int))) + (1 : Int))) + (1 : Int))), ((x136.getD x138.toNat (Ty.dflt Y105)).2.2.2.2.2.1, (x136.getD x138.toNat (Ty.dflt Y105)).2.2.2.2.2.2))))))) .dp]⟩ (tn 0) ?_
        refine sR T_ok [0, 1, 5, 65536] [0] ⟨[(0, .lf (.hd 0 0 none)), (1, I (IntKind.i64.wrap ((IntKind.i64.wrap ((IntKind.i64.wrap ((IntKind.i64.wrap ((IntKind.i64.wrap (x137 + (1 : Int))) + (1 : Int))) + (1 : Int))) + (1 : Int))) + (1 : Int)))), (5, I x138), (65536, .lf (.hd 0 0 none))], [ar 0 Y105 (x136.set x138.toNat (x137, (y190, ((IntKind.i64.wrap ((IntKind.i64.wrap (x137 + (1 : Int))) + (1 : Int))), ((IntKind.i64.wrap ((IntKind.i64.wrap ((IntKind.i64.wrap (x137 + (1 : Int))) + (1 : Int))) + (1 : Int))), ((IntKind.i64.wrap ((IntKind.i64.wrap ((IntKind.i64.wrap ((IntKind.i64.wrap (x137 + (1 : Int))) + (1 : Int))) + (1 : Int))) + (1 : Int))), ((x136.getD x138.toNat (Ty.dflt Y105)).2.2.2.2.2.1, (x136.getD x138.toNat (Ty.dflt Y105)).2.2.2.2.2.2))))))) .dp]⟩ (tn 3) ?_
        refine VW.seq ?_
        refine VW.region ?_
        obtain ⟨g199, h⟩ := gd_some h
        obtain ⟨g200, h⟩ := gd_some h
        refine sG T_ok 8 [0, 1, 5, 65536] [0] ⟨[(0, .lf (.hd 0 0 none)), (1, I (IntKind.i64.wrap ((IntKind.i64.wrap ((IntKind.i64.wrap ((IntKind.i64.wrap ((IntKind.i64.wrap (x137 + (1 : Int))) + (1 : Int))) + (1 : Int))) + (1 : Int))) + (1 : Int)))), (5, I x138), (65536, .lf (.hd 0 0 none))], [ar 0 Y105 ((x136.set x138.toNat (x137, (y190, ((IntKind.i64.wrap ((IntKind.i64.wrap (x137 + (1 : Int))) + (1 : Int))), ((IntKind.i64.wrap ((IntKind.i64.wrap ((IntKind.i64.wrap (x137 + (1 : Int))) + (1 : Int))) + (1 : Int))), ((IntKind.i64.wrap ((IntKind.i64.wrap ((IntKind.i64.wrap ((IntKind.i64.wrap (x137 + (1 : Int))) + (1 : Int))) + (1 : Int))) + (1 : Int))), ((x136.getD x138.toNat (Ty.dflt Y105)).2.2.2.2.2.1, (x136.getD x138.toNat (Ty.dflt Y105)).2.2.2.2.2.2))))))).set x138.toNat (((x136.set x138.toNat (x137, (y190, ((IntKind.i64.wrap ((IntKind.i64.wrap (x137 + (1 : Int))) + (1 : Int))), ((IntKind.i64.wrap ((IntKind.i64.wrap ((IntKind.i64.wrap (x137 + (1 : Int))) + (1 : Int))) + (1 : Int))), ((IntKind.i64.wrap ((IntKind.i64.wrap ((IntKind.i64.wrap ((IntKind.i64.wrap (x137 + (1 : Int))) + (1 : Int))) + (1 : Int))) + (1 : Int))), ((x136.getD x138.toNat (Ty.dflt Y105)).2.2.2.2.2.1, (x136.getD x138.toNat (Ty.dflt Y105)).2.2.2.2.2.2))))))).getD x138.toNat (Ty.dflt Y105)).1, (((x136.set x138.toNat (x137, (y190, ((IntKind.i64.wrap ((IntKind.i64.wrap (x137 + (1 : Int))) + (1 : Int))), ((IntKind.i64.wrap ((IntKind.i64.wrap ((IntKind.i64.wrap (x137 + (1 : Int))) + (1 : Int))) + (1 : Int))), ((IntKind.i64.wrap ((IntKind.i64.wrap ((IntKind.i64.wrap ((IntKind.i64.wrap (x137 + (1 : Int))) + (1 : Int))) + (1 : Int))) + (1 : Int))), ((x136.getD x138.toNat (Ty.dflt Y105)).2.2.2.2.2.1, (x136.getD x138.toNat (Ty.dflt Y105)).2.2.2.2.2.2))))))).getD x138.toNat (Ty.dflt Y105)).2.1, (((x136.set x138.toNat (x137, (y190, ((IntKind.i64.wrap ((IntKind.i64.wrap (x137 + (1 : Int))) + (1 : Int))), ((IntKind.i64.wrap ((IntKind.i64.wrap ((IntKind.i64.wrap (x137 + (1 : Int))) + (1 : Int))) + (1 : Int))), ((IntKind.i64.wrap ((IntKind.i64.wrap ((IntKind.i64.wrap ((IntKind.i64.wrap (x137 + (1 : Int))) + (1 : Int))) + (1 : Int))) + (1 : Int))), ((x136.getD x138.toNat (Ty.dflt Y105)).2.2.2.2.2.1, (x136.getD x138.toNat (Ty.dflt Y105)).2.2.2.2.2.2))))))).getD x138.toNat (Ty.dflt Y105)).2.2.1, (((x136.set x138.toNat (x137, (y190, ((IntKind.i64.wrap ((IntKind.i64.wrap (x137 + (1 : Int))) + (1 : Int))), ((IntKind.i64.wrap ((IntKind.i64.wrap ((IntKind.i64.wrap (x137 + (1 : Int))) + (1 : Int))) + (1 : Int))), ((IntKind.i64.wrap ((IntKind.i64.wrap ((IntKind.i64.wrap ((IntKind.i64.wrap (x137 + (1 : Int))) + (1 : Int))) + (1 : Int))) + (1 : Int))), ((x136.getD x138.toNat (Ty.dflt Y105)).2.2.2.2.2.1, (x136.getD x138.toNat (Ty.dflt Y105)).2.2.2.2.2.2))))))).getD x138.toNat (Ty.dflt Y105)).2.2.2.1, (((x136.set x138.toNat (x137, (y190, ((IntKind.i64.wrap ((IntKind.i64.wrap (x137 + (1 : Int))) + (1 : Int))), ((IntKind.i64.wrap ((IntKind.i64.wrap ((IntKind.i64.wrap (x137 + (1 : Int))) + (1 : Int))) + (1 : Int))), ((IntKind.i64.wrap ((IntKind.i64.wrap ((IntKind.i64.wrap ((IntKind.i64.wrap (x137 + (1 : Int))) + (1 : Int))) + (1 : Int))) + (1 : Int))), ((x136.getD x138.toNat (Ty.dflt Y105)).2.2.2.2.2.1, (x136.getD x138.toNat (Ty.dflt Y105)).2.2.2.2.2.2))))))).getD x138.toNat (Ty.dflt Y105)).2.2.2.2.1, (((Int.tmod (IntKind.i64.wrap ((IntKind.i64.wrap ((IntKind.i64.wrap ((IntKind.i64.wrap ((IntKind.i64.wrap (x137 + (1 : Int))) + (1 : Int))) + (1 : Int))) + (1 : Int))) + (1 : Int))) (3 : Int)) == (0 : Int)), ((x136.set x138.toNat (x137, (y190, ((IntKind.i64.wrap ((IntKind.i64.wrap (x137 + (1 : Int))) + (1 : Int))), ((IntKind.i64.wrap ((IntKind.i64.wrap ((IntKind.i64.wrap (x137 + (1 : Int))) + (1 : Int))) + (1 : Int))), ((IntKind.i64.wrap ((IntKind.i64.wrap ((IntKind.i64.wrap ((IntKind.i64.wrap (x137 + (1 : Int))) + (1 : Int))) + (1 : Int))) + (1 : Int))), ((x136.getD x138.toNat (Ty.dflt Y105)).2.2.2.2.2.1, (x136.getD x138.toNat (Ty.dflt Y105)).2.2.2.2.2.2))))))).getD x138.toNat (Ty.dflt Y105)).2.2.2.2.2.2))))))) .dp]⟩ (pu 3 (an (show ((3 : Int) ≠ 0) from by decide) (pu 1 (an g199 (pu 1 (an g200 (tn 0))))))) ?_
        rw [show ((x136.set x138.toNat (x137, (y190, ((IntKind.i64.wrap ((IntKind.i64.wrap (x137 + (1 : Int))) + (1 : Int))), ((IntKind.i64.wrap ((IntKind.i64.wrap ((IntKind.i64.wrap (x137 + (1 : Int))) + (1 : Int))) + (1 : Int))), ((IntKind.i64.wrap ((IntKind.i64.wrap ((IntKind.i64.wrap ((IntKind.i64.wrap (x137 + (1 : Int))) + (1 : Int))) + (1 : Int))) + (1 : Int))), ((x136.getD x138.toNat (Ty.dflt Y105)).2.2.2.2.2.1, (x136.getD x138.toNat (Ty.dflt Y105)).2.2.2.2.2.2))))))).set x138.toNat (((x136.set x138.toNat (x137, (y190, ((IntKind.i64.wrap ((IntKind.i64.wrap (x137 + (1 : Int))) + (1 : Int))), ((IntKind.i64.wrap ((IntKind.i64.wrap ((IntKind.i64.wrap (x137 + (1 : Int))) + (1 : Int))) + (1 : Int))), ((IntKind.i64.wrap ((IntKind.i64.wrap ((IntKind.i64.wrap ((IntKind.i64.wrap (x137 + (1 : Int))) + (1 : Int))) + (1 : Int))) + (1 : Int))), ((x136.getD x138.toNat (Ty.dflt Y105)).2.2.2.2.2.1, (x136.getD x138.toNat (Ty.dflt Y105)).2.2.2.2.2.2))))))).getD x138.toNat (Ty.dflt Y105)).1, (((x136.set x138.toNat (x137, (y190, ((IntKind.i64.wrap ((IntKind.i64.wrap (x137 + (1 : Int))) + (1 : Int))), ((IntKind.i64.wrap ((IntKind.i64.wrap ((IntKind.i64.wrap (x137 + (1 : Int))) + (1 : Int))) + (1 : Int))), ((IntKind.i64.wrap ((IntKind.i64.wrap ((IntKind.i64.wrap ((IntKind.i64.wrap (x137 + (1 : Int))) + (1 : Int))) + (1 : Int))) + (1 : Int))), ((x136.getD x138.toNat (Ty.dflt Y105)).2.2.2.2.2.1, (x136.getD x138.toNat (Ty.dflt Y105)).2.2.2.2.2.2))))))).getD x138.toNat (Ty.dflt Y105)).2.1, (((x136.set x138.toNat (x137, (y190, ((IntKind.i64.wrap ((IntKind.i64.wrap (x137 + (1 : Int))) + (1 : Int))), ((IntKind.i64.wrap ((IntKind.i64.wrap ((IntKind.i64.wrap (x137 + (1 : Int))) + (1 : Int))) + (1 : Int))), ((IntKind.i64.wrap ((IntKind.i64.wrap ((IntKind.i64.wrap ((IntKind.i64.wrap (x137 + (1 : Int))) + (1 : Int))) + (1 : Int))) + (1 : Int))), ((x136.getD x138.toNat (Ty.dflt Y105)).2.2.2.2.2.1, (x136.getD x138.toNat (Ty.dflt Y105)).2.2.2.2.2.2))))))).getD x138.toNat (Ty.dflt Y105)).2.2.1, (((x136.set x138.toNat (x137, (y190, ((IntKind.i64.wrap ((IntKind.i64.wrap (x137 + (1 : Int))) + (1 : Int))), ((IntKind.i64.wrap ((IntKind.i64.wrap ((IntKind.i64.wrap (x137 + (1 : Int))) + (1 : Int))) + (1 : Int))), ((IntKind.i64.wrap ((IntKind.i64.wrap ((IntKind.i64.wrap ((IntKind.i64.wrap (x137 + (1 : Int))) + (1 : Int))) + (1 : Int))) + (1 : Int))), ((x136.getD x138.toNat (Ty.dflt Y105)).2.2.2.2.2.1, (x136.getD x138.toNat (Ty.dflt Y105)).2.2.2.2.2.2))))))).getD x138.toNat (Ty.dflt Y105)).2.2.2.1, (((x136.set x138.toNat (x137, (y190, ((IntKind.i64.wrap ((IntKind.i64.wrap (x137 + (1 : Int))) + (1 : Int))), ((IntKind.i64.wrap ((IntKind.i64.wrap ((IntKind.i64.wrap (x137 + (1 : Int))) + (1 : Int))) + (1 : Int))), ((IntKind.i64.wrap ((IntKind.i64.wrap ((IntKind.i64.wrap ((IntKind.i64.wrap (x137 + (1 : Int))) + (1 : Int))) + (1 : Int))) + (1 : Int))), ((x136.getD x138.toNat (Ty.dflt Y105)).2.2.2.2.2.1, (x136.getD x138.toNat (Ty.dflt Y105)).2.2.2.2.2.2))))))).getD x138.toNat (Ty.dflt Y105)).2.2.2.2.1, (((Int.tmod (IntKind.i64.wrap ((IntKind.i64.wrap ((IntKind.i64.wrap ((IntKind.i64.wrap ((IntKind.i64.wrap (x137 + (1 : Int))) + (1 : Int))) + (1 : Int))) + (1 : Int))) + (1 : Int))) (3 : Int)) == (0 : Int)), ((x136.set x138.toNat (x137, (y190, ((IntKind.i64.wrap ((IntKind.i64.wrap (x137 + (1 : Int))) + (1 : Int))), ((IntKind.i64.wrap ((IntKind.i64.wrap ((IntKind.i64.wrap (x137 + (1 : Int))) + (1 : Int))) + (1 : Int))), ((IntKind.i64.wrap ((IntKind.i64.wrap ((IntKind.i64.wrap ((IntKind.i64.wrap (x137 + (1 : Int))) + (1 : Int))) + (1 : Int))) + (1 : Int))), ((x136.getD x138.toNat (Ty.dflt Y105)).2.2.2.2.2.1, (x136.getD x138.toNat (Ty.dflt Y105)).2.2.2.2.2.2))))))).getD x138.toNat (Ty.dflt Y105)).2.2.2.2.2.2))))))) = (x136.set x138.toNat (x137, (y190, ((IntKind.i64.wrap ((IntKind.i64.wrap (x137 + (1 : Int))) + (1 : Int))), ((IntKind.i64.wrap ((IntKind.i64.wrap ((IntKind.i64.wrap (x137 + (1 : Int))) + (1 : Int))) + (1 : Int))), ((IntKind.i64.wrap ((IntKind.i64.wrap ((IntKind.i64.wrap ((IntKind.i64.wrap (x137 + (1 : Int))) + (1 : Int))) + (1 : Int))) + (1 : Int))), (((Int.tmod (IntKind.i64.wrap ((IntKind.i64.wrap ((IntKind.i64.wrap ((IntKind.i64.wrap ((IntKind.i64.wrap (x137 + (1 : Int))) + (1 : Int))) + (1 : Int))) + (1 : Int))) + (1 : Int))) (3 : Int)) == (0 : Int)), (x136.getD x138.toNat (Ty.dflt Y105)).2.2.2.2.2.2))))))) from set_upd x136 x138.toNat (x137, (y190, ((IntKind.i64.wrap ((IntKind.i64.wrap (x137 + (1 : Int))) + (1 : Int))), ((IntKind.i64.wrap ((IntKind.i64.wrap ((IntKind.i64.wrap (x137 + (1 : Int))) + (1 : Int))) + (1 : Int))), ((IntKind.i64.wrap ((IntKind.i64.wrap ((IntKind.i64.wrap ((IntKind.i64.wrap (x137 + (1 : Int))) + (1 : Int))) + (1 : Int))) + (1 : Int))), ((x136.getD x138.toNat (Ty.dflt Y105)).2.2.2.2.2.1, (x136.getD x138.toNat (Ty.dflt Y105)).2.2.2.2.2.2)))))) (Ty.dflt Y105) (fun z => (z.1, (z.2.1, (z.2.2.1, (z.2.2.2.1, (z.2.2.2.2.1, (((Int.tmod (IntKind.i64.wrap ((IntKind.i64.wrap ((IntKind.i64.wrap ((IntKind.i64.wrap ((IntKind.i64.wrap (x137 + (1 : Int))) + (1 : Int))) + (1 : Int))) + (1 : Int))) + (1 : Int))) (3 : Int)) == (0 : Int)), z.2.2.2.2.2.2))))))) (by simpa using g200)]
        refine sN T_ok [0, 1, 5, 65536] [0] ⟨[(0, .lf (.hd 0 0 none)), (1, I (IntKind.i64.wrap ((IntKind.i64.wrap ((IntKind.i64.wrap ((IntKind.i64.wrap ((IntKind.i64.wrap (x137 + (1 : Int))) + (1 : Int))) + (1 : Int))) + (1 : Int))) + (1 : Int)))), (5, I x138), (65536, .lf (.hd 0 0 none))], [ar 0 Y105 (x136.set x138.toNat (x137, (y190, ((IntKind.i64.wrap ((IntKind.i64.wrap (x137 + (1 : Int))) + (1 : Int))), ((IntKind.i64.wrap ((IntKind.i64.wrap ((IntKind.i64.wrap (x137 + (1 : Int))) + (1 : Int))) + (1 : Int))), ((IntKind.i64.wrap ((IntKind.i64.wrap ((IntKind.i64.wrap ((IntKind.i64.wrap (x137 + (1 : Int))) + (1 : Int))) + (1 : Int))) + (1 : Int))), (((Int.tmod (IntKind.i64.wrap ((IntKind.i64.wrap ((IntKind.i64.wrap ((IntKind.i64.wrap ((IntKind.i64.wrap (x137 + (1 : Int))) + (1 : Int))) + (1 : Int))) + (1 : Int))) + (1 : Int))) (3 : Int)) == (0 : Int)), (x136.getD x138.toNat (Ty.dflt Y105)).2.2.2.2.2.2))))))) .dp]⟩ (tn 0) ?_
        refine sR T_ok [0, 1, 5, 65536] [0] ⟨[(0, .lf (.hd 0 0 none)), (1, I (IntKind.i64.wrap ((IntKind.i64.wrap ((IntKind.i64.wrap ((IntKind.i64.wrap ((IntKind.i64.wrap ((IntKind.i64.wrap (x137 + (1 : Int))) + (1 : Int))) + (1 : Int))) + (1 : Int))) + (1 : Int))) + (1 : Int)))), (5, I x138), (65536, .lf (.hd 0 0 none))], [ar 0 Y105 (x136.set x138.toNat (x137, (y190, ((IntKind.i64.wrap ((IntKind.i64.wrap (x137 + (1 : Int))) + (1 : Int))), ((IntKind.i64.wrap ((IntKind.i64.wrap ((IntKind.i64.wrap (x137 + (1 : Int))) + (1 : Int))) + (1 : Int))), ((IntKind.i64.wrap ((IntKind.i64.wrap ((IntKind.i64.wrap ((IntKind.i64.wrap (x137 + (1 : Int))) + (1 : Int))) + (1 : Int))) + (1 : Int))), (((Int.tmod (IntKind.i64.wrap ((IntKind.i64.wrap ((IntKind.i64.wrap ((IntKind.i64.wrap ((IntKind.i64.wrap (x137 + (1 : Int))) + (1 : Int))) + (1 : Int))) + (1 : Int))) + (1 : Int))) (3 : Int)) == (0 : Int)), (x136.getD x138.toNat (Ty.dflt Y105)).2.2.2.2.2.2))))))) .dp]⟩ (tn 3) ?_
        refine VW.region ?_
        obtain ⟨g201, h⟩ := gd_some h
        refine sG T_ok 4 [0, 1, 5, 60, 65536] [0] ⟨[(0, .lf (.hd 0 0 none)), (1, I (IntKind.i64.wrap ((IntKind.i64.wrap ((IntKind.i64.wrap ((IntKind.i64.wrap ((IntKind.i64.wrap ((IntKind.i64.wrap (x137 + (1 : Int))) + (1 : Int))) + (1 : Int))) + (1 : Int))) + (1 : Int))) + (1 : Int)))), (5, I x138), (60, .lf (.ptr 0 0 x138.toNat 6)), (65536, .lf (.hd 0 0 none))], [ar 0 Y105 (x136.set x138.toNat (x137, (y190, ((IntKind.i64.wrap ((IntKind.i64.wrap (x137 + (1 : Int))) + (1 : Int))), ((IntKind.i64.wrap ((IntKind.i64.wrap ((IntKind.i64.wrap (x137 + (1 : Int))) + (1 : Int))) + (1 : Int))), ((IntKind.i64.wrap ((IntKind.i64.wrap ((IntKind.i64.wrap ((IntKind.i64.wrap (x137 + (1 : Int))) + (1 : Int))) + (1 : Int))) + (1 : Int))), (((Int.tmod (IntKind.i64.wrap ((IntKind.i64.wrap ((IntKind.i64.wrap ((IntKind.i64.wrap ((IntKind.i64.wrap (x137 + (1 : Int))) + (1 : Int))) + (1 : Int))) + (1 : Int))) + (1 : Int))) (3 : Int)) == (0 : Int)), (x136.getD x138.toNat (Ty.dflt Y105)).2.2.2.2.2.2))))))) .dp]⟩ (pu 2 (an g201 (tn 1))) ?_
        obtain ⟨g203, h⟩ := gd_some h
        obtain ⟨y202, hy, h⟩ := andO_some h
        refine VO.lendInS (t := 48) (d1 := 61) (d2 := 62) (d3 := 63) (id := 0) (cur := 0) (i := x138.toNat) (j := 6) (v2 := I (IntKind.i64.wrap ((IntKind.i64.wrap ((IntKind.i64.wrap ((IntKind.i64.wrap ((IntKind.i64.wrap ((IntKind.i64.wrap (x137 + (1 : Int))) + (1 : Int))) + (1 : Int))) + (1 : Int))) + (1 : Int))) + (1 : Int)))) (f := 34) (l := [I (IntKind.i64.wrap ((IntKind.i64.wrap ((IntKind.i64.wrap ((IntKind.i64.wrap ((IntKind.i64.wrap ((IntKind.i64.wrap (x137 + (1 : Int))) + (1 : Int))) + (1 : Int))) + (1 : Int))) + (1 : Int))) + (1 : Int)))]) (e := Y105) (t' := (.int .i64)) (X := x136) (c := (x137, (y190, ((IntKind.i64.wrap ((IntKind.i64.wrap (x137 + (1 : Int))) + (1 : Int))), ((IntKind.i64.wrap ((IntKind.i64.wrap ((IntKind.i64.wrap (x137 + (1 : Int))) + (1 : Int))) + (1 : Int))), ((IntKind.i64.wrap ((IntKind.i64.wrap ((IntKind.i64.wrap ((IntKind.i64.wrap (x137 + (1 : Int))) + (1 : Int))) + (1 : Int))) + (1 : Int))), (((Int.tmod (IntKind.i64.wrap ((IntKind.i64.wrap ((IntKind.i64.wrap ((IntKind.i64.wrap ((IntKind.i64.wrap (x137 + (1 : Int))) + (1 : Int))) + (1 : Int))) + (1 : Int))) + (1 : Int))) (3 : Int)) == (0 : Int)), (x136.getD x138.toNat (Ty.dflt Y105)).2.2.2.2.2.2))))))) (ys := ((x136.getD x138.toNat (Ty.dflt Y105)).2.2.2.2.2.2)) (ys' := y202.1) (x' := (x137, (y190, ((IntKind.i64.wrap ((IntKind.i64.wrap (x137 + (1 : Int))) + (1 : Int))), ((IntKind.i64.wrap ((IntKind.i64.wrap ((IntKind.i64.wrap (x137 + (1 : Int))) + (1 : Int))) + (1 : Int))), ((IntKind.i64.wrap ((IntKind.i64.wrap ((IntKind.i64.wrap ((IntKind.i64.wrap (x137 + (1 : Int))) + (1 : Int))) + (1 : Int))) + (1 : Int))), (((Int.tmod (IntKind.i64.wrap ((IntKind.i64.wrap ((IntKind.i64.wrap ((IntKind.i64.wrap ((IntKind.i64.wrap (x137 + (1 : Int))) + (1 : Int))) + (1 : Int))) + (1 : Int))) + (1 : Int))) (3 : Int)) == (0 : Int)), y202.1))))))) (rs := [.lf (.v (.int .i64) y202.2)]) (v1 := 0) T_ok (by kernel_rfl) (by kernel_rfl) (by kernel_rfl) (by kernel_rfl) (by kernel_rfl) g203 (ok34 N _ _ hy) rfl ?_
        refine sN T_ok [0, 1, 5, 65536] [0] ⟨[(0, .lf (.hd 0 0 none)), (1, I y202.2), (5, I x138), (65536, .lf (.hd 0 0 none))], [ar 0 Y105 (x136.set x138.toNat (x137, (y190, ((IntKind.i64.wrap ((IntKind.i64.wrap (x137 + (1 : Int))) + (1 : Int))), ((IntKind.i64.wrap ((IntKind.i64.wrap ((IntKind.i64.wrap (x137 + (1 : Int))) + (1 : Int))) + (1 : Int))), ((IntKind.i64.wrap ((IntKind.i64.wrap ((IntKind.i64.wrap ((IntKind.i64.wrap (x137 + (1 : Int))) + (1 : Int))) + (1 : Int))) + (1 : Int))), (((Int.tmod (IntKind.i64.wrap ((IntKind.i64.wrap ((IntKind.i64.wrap ((IntKind.i64.wrap ((IntKind.i64.wrap (x137 + (1 : Int))) + (1 : Int))) + (1 : Int))) + (1 : Int))) + (1 : Int))) (3 : Int)) == (0 : Int)), y202.1))))))) .dp]⟩ (tn 1) ?_
        refine rR T_ok [0, 1, 5, 65536] [0] ⟨[(0, .lf (.hd 0 0 none)), (1, I y202.2), (5, I (IntKind.i64.wrap (x138 + (1 : Int)))), (65536, .lf (.hd 0 0 none))], [ar 0 Y105 (x136.set x138.toNat (x137, (y190, ((IntKind.i64.wrap ((IntKind.i64.wrap (x137 + (1 : Int))) + (1 : Int))), ((IntKind.i64.wrap ((IntKind.i64.wrap ((IntKind.i64.wrap (x137 + (1 : Int))) + (1 : Int))) + (1 : Int))), ((IntKind.i64.wrap ((IntKind.i64.wrap ((IntKind.i64.wrap ((IntKind.i64.wrap (x137 + (1 : Int))) + (1 : Int))) + (1 : Int))) + (1 : Int))), (((Int.tmod (IntKind.i64.wrap ((IntKind.i64.wrap ((IntKind.i64.wrap ((IntKind.i64.wrap ((IntKind.i64.wrap (x137 + (1 : Int))) + (1 : Int))) + (1 : Int))) + (1 : Int))) + (1 : Int))) (3 : Int)) == (0 : Int)), y202.1))))))) .dp]⟩ (tn 3) ?_
        exact aro [.ren [0, 1, 5, 65536] [0]] ⟨(x136.set x138.toNat (x137, (y190, ((IntKind.i64.wrap ((IntKind.i64.wrap (x137 + (1 : Int))) + (1 : Int))), ((IntKind.i64.wrap ((IntKind.i64.wrap ((IntKind.i64.wrap (x137 + (1 : Int))) + (1 : Int))) + (1 : Int))), ((IntKind.i64.wrap ((IntKind.i64.wrap ((IntKind.i64.wrap ((IntKind.i64.wrap (x137 + (1 : Int))) + (1 : Int))) + (1 : Int))) + (1 : Int))), (((Int.tmod (IntKind.i64.wrap ((IntKind.i64.wrap ((IntKind.i64.wrap ((IntKind.i64.wrap ((IntKind.i64.wrap (x137 + (1 : Int))) + (1 : Int))) + (1 : Int))) + (1 : Int))) + (1 : Int))) (3 : Int)) == (0 : Int)), y202.1))))))), y202.2, (IntKind.i64.wrap (x138 + (1 : Int))), rfl, h⟩
      refine VW.exit ?_
      exact arv [.ren [1, 65536] [0]] ⟨x137, x136, rfl, h⟩
  rintro s ⟨x101, x102, rfl, h⟩
  unfold F33_j0 at h
  refine sR T_ok [4, 65536] [0] ⟨[(4, I x101), (65536, .lf (.hd 0 0 none))], [ar 0 Y105 x102 .dp]⟩ (tn 2) ?_
  replace h := Option.some.inj h
  subst h
  refine VW.ghl [.ren [4, 65536] [0]] (VW.ret ?_)
  exact ⟨[], by kernel_rfl, by kernel_rfl, by kernel_rfl⟩

/- loop.example/g00844/laws.heldIntS -/
def F35_j0 (N : Nat) (x16 : Int) : Option (Int) :=
  some x16
def F35_l0_b (N : Nat) (a0 : (List Int)) (nx28 : Int → Int → Option (Int)) (x22 : Int) (x23 : Int) : Option (Int) :=
  cond (decide (x23 < (a0.length : Int))) (gd (InR x23 a0.length) (cond ((a0.getD x23.toNat (Ty.dflt (.int .i64))) != x22) (some (-1 : Int)) (nx28 (IntKind.i64.wrap (x22 + (1 : Int))) (IntKind.i64.wrap (x23 + (1 : Int)))))) (F35_j0 N x22)
def F35_l0 (N : Nat) (a0 : (List Int)) : Nat → Int → Int → Option (Int) := loopF (F35_l0_b N a0) (fun _ _ => none)
theorem F35_l0_s (N : Nat) (a0 : (List Int)) {k : Nat} (hk : 0 < k) (x22 : Int) (x23 : Int) : F35_l0 N a0 k x22 x23 = F35_l0_b N a0 (F35_l0 N a0 (k - 1)) x22 x23 := by
  cases k with
  | zero => exact absurd hk (Nat.lt_irrefl 0)
  | succ m => rfl
def F35 (N : Nat) (a0 : (List Int)) (a1 : Int) : Option (Int) :=
  F35_l0 N a0 N a1 (0 : Int)
theorem ok35 (N : Nat) (a0 : (List Int)) (a1 : Int) {r : Int} (h : F35 N a0 a1 = some r) : Con Go.Proofs.Try.prog 35 [.lf (.v (.sl (.int .i64)) a0), I a1] [.lf (.v (.int .i64) r)] := by
  refine ctr [.lf (.v (.int .i64))] T_ok Go.Proofs.Try.func35 rfl fun w0 E0 ht => ?_
  unfold F35 at h
  show VW _ _ _ _ _ (retQ _ _ _ _) _
  refine sR T_ok [0, 1] [] ⟨[(0, .lf (.v (.sl (.int .i64)) a0)), (1, I a1)], []⟩ (tn 1) ?_
  refine VW.join (fun s => ∃ (x16 : Int), s = ⟨[(1, I x16)], []⟩ ∧ F35_j0 N x16 = some r) ?_ ?_
  · refine sR T_ok [0, 1, 5] [] ⟨[(0, .lf (.v (.sl (.int .i64)) a0)), (1, I a1), (5, I (0 : Int))], []⟩ (tn 1) ?_
    refine VW.block ?_
    refine lop (fun k s => ∃ (x22 : Int) (x23 : Int), s = ⟨[(0, .lf (.v (.sl (.int .i64)) a0)), (1, I x22), (5, I x23)], []⟩ ∧ F35_l0 N a0 k x22 x23 = some r) N [.ren [0, 1, 5] []] ⟨a1, (0 : Int), rfl, h⟩ ?_
    rintro k28 s ⟨x22, x23, rfl, h⟩
    cases k28 with
    | zero => cases show none = some r from h
    | succ k28 =>
      replace h : F35_l0_b N a0 (F35_l0 N a0 k28) x22 x23 = some r := h
      unfold F35_l0_b at h
      refine VW.seq ?_
      refine sR T_ok [0, 1, 5, 9] [] ⟨[(0, .lf (.v (.sl (.int .i64)) a0)), (1, I x22), (5, I x23), (9, B (decide (x23 < (a0.length : Int))))], []⟩ (tn 4) ?_
      refine cnd h (fun h => ?_) (fun h => ?_)
      · refine VW.skip ?_
        refine VW.seq ?_
        refine VW.block ?_
        refine VW.seq ?_
        obtain ⟨g32, h⟩ := gd_some h
        refine sR T_ok [0, 1, 5, 17] [] ⟨[(0, .lf (.v (.sl (.int .i64)) a0)), (1, I x22), (5, I x23), (17, B ((a0.getD x23.toNat (Ty.dflt (.int .i64))) != x22))], []⟩ (pu 2 (an g32 (tn 3))) ?_
        refine cnd h (fun h => ?_) (fun h => ?_)
        · refine sR T_ok [4] [] ⟨[(4, I (-1 : Int))], []⟩ (tn 1) ?_
          refine VW.ret ?_
          replace h := Option.some.inj h
          subst h
          exact rt []
        refine VW.skip ?_
        refine rR T_ok [0, 1, 5] [] ⟨[(0, .lf (.v (.sl (.int .i64)) a0)), (1, I (IntKind.i64.wrap (x22 + (1 : Int)))), (5, I x23)], []⟩ (tn 3) ?_
        refine rR T_ok [0, 1, 5] [] ⟨[(0, .lf (.v (.sl (.int .i64)) a0)), (1, I (IntKind.i64.wrap (x22 + (1 : Int)))), (5, I (IntKind.i64.wrap (x23 + (1 : Int))))], []⟩ (tn 3) ?_
        exact aro [.ren [0, 1, 5] []] ⟨(IntKind.i64.wrap (x22 + (1 : Int))), (IntKind.i64.wrap (x23 + (1 : Int))), rfl, h⟩
      refine VW.exit ?_
      exact arv [.ren [1] []] ⟨x22, rfl, h⟩
  rintro s ⟨x16, rfl, h⟩
  unfold F35_j0 at h
  refine sR T_ok [4] [] ⟨[(4, I x16)], []⟩ (tn 2) ?_
  refine VW.ret ?_
  replace h := Option.some.inj h
  subst h
  exact rt []

/- loop.example/g00844/laws.szIntS -/
def F142 (N : Nat) (a0 : (List Int)) (a1 : Int) : Option (Int) :=
  cond (decide ((IntKind.i64.wrap (a1 - (a0.length : Int))) < (0 : Int))) (some (-1 : Int)) (some (IntKind.i64.wrap (a1 - (a0.length : Int))))
theorem ok142 (N : Nat) (a0 : (List Int)) (a1 : Int) {r : Int} (h : F142 N a0 a1 = some r) : Con Go.Proofs.Try.prog 142 [.lf (.v (.sl (.int .i64)) a0), I a1] [.lf (.v (.int .i64) r)] := by
  refine ctr [.lf (.v (.int .i64))] T_ok Go.Proofs.Try.func142 rfl fun w0 E0 ht => ?_
  unfold F142 at h
  show VW _ _ _ _ _ (retQ _ _ _ _) _
  refine sR T_ok [0, 1] [] ⟨[(0, .lf (.v (.sl (.int .i64)) a0)), (1, I a1)], []⟩ (tn 1) ?_
  refine sR T_ok [1] [] ⟨[(1, I (IntKind.i64.wrap (a1 - (a0.length : Int))))], []⟩ (tn 5) ?_
  refine VW.seq ?_
  refine sR T_ok [1, 10] [] ⟨[(1, I (IntKind.i64.wrap (a1 - (a0.length : Int)))), (10, B (decide ((IntKind.i64.wrap (a1 - (a0.length : Int))) < (0 : Int))))], []⟩ (tn 2) ?_
  refine cnd h (fun h => ?_) (fun h => ?_)
  · refine sR T_ok [4] [] ⟨[(4, I (-1 : Int))], []⟩ (tn 1) ?_
    refine VW.ret ?_
    replace h := Option.some.inj h
    subst h
    exact rt []
  refine VW.skip ?_
  refine sR T_ok [4] [] ⟨[(4, I (IntKind.i64.wrap (a1 - (a0.length : Int))))], []⟩ (tn 2) ?_
  refine VW.ret ?_
  replace h := Option.some.inj h
  subst h
  exact rt []

/- loop.example/g00844/laws.szNode -/
def F83 (N : Nat) (a0 : (Int × (ByteArray × (Int × (Int × (Int × (Bool × (List Int)))))))) (a1 : Int) : Option (Int) :=
  cond (decide ((IntKind.i64.wrap (a1 - (a0.2.1.size : Int))) < (0 : Int))) (some (-1 : Int)) (andO (F142 N a0.2.2.2.2.2.2 (IntKind.i64.wrap (a1 - (a0.2.1.size : Int)))) fun y1 => cond (decide (y1 < (0 : Int))) (some (-1 : Int)) (some y1))
theorem ok83 (N : Nat) (a0 : (Int × (ByteArray × (Int × (Int × (Int × (Bool × (List Int)))))))) (a1 : Int) {r : Int} (h : F83 N a0 a1 = some r) : Con Go.Proofs.Try.prog 83 [.agg [.v (.int .i64) a0.1, .v .str a0.2.1, .v (.int .i64) a0.2.2.1, .v (.int .i64) a0.2.2.2.1, .v (.int .i64) a0.2.2.2.2.1, .v .bool a0.2.2.2.2.2.1, .v (.sl (.int .i64)) a0.2.2.2.2.2.2], I a1] [.lf (.v (.int .i64) r)] := by
  refine ctr [.lf (.v (.int .i64))] T_ok Go.Proofs.Try.func83 rfl fun w0 E0 ht => ?_
  unfold F83 at h
  show VW _ _ _ _ _ (retQ _ _ _ _) _
  refine sR T_ok [1, 2] [0] ⟨[(1, I a1), (2, .lf (.ptr 0 0 0 0))], [bx [.v (.int .i64) a0.1, .v .str a0.2.1, .v (.int .i64) a0.2.2.1, .v (.int .i64) a0.2.2.2.1, .v (.int .i64) a0.2.2.2.2.1, .v .bool a0.2.2.2.2.2.1, .v (.sl (.int .i64)) a0.2.2.2.2.2.2] 106]⟩ (tn 2) ?_
  refine sR T_ok [1, 2] [0] ⟨[(1, I (IntKind.i64.wrap (a1 - (a0.2.1.size : Int)))), (2, .lf (.ptr 0 0 0 0))], [bx [.v (.int .i64) a0.1, .v .str a0.2.1, .v (.int .i64) a0.2.2.1, .v (.int .i64) a0.2.2.2.1, .v (.int .i64) a0.2.2.2.2.1, .v .bool a0.2.2.2.2.2.1, .v (.sl (.int .i64)) a0.2.2.2.2.2.2] 106]⟩ (tn 6) ?_
  refine VW.seq ?_
  refine sR T_ok [1, 2, 11] [0] ⟨[(1, I (IntKind.i64.wrap (a1 - (a0.2.1.size : Int)))), (2, .lf (.ptr 0 0 0 0)), (11, B (decide ((IntKind.i64.wrap (a1 - (a0.2.1.size : Int))) < (0 : Int))))], [bx [.v (.int .i64) a0.1, .v .str a0.2.1, .v (.int .i64) a0.2.2.1, .v (.int .i64) a0.2.2.2.1, .v (.int .i64) a0.2.2.2.2.1, .v .bool a0.2.2.2.2.2.1, .v (.sl (.int .i64)) a0.2.2.2.2.2.2] 106]⟩ (tn 2) ?_
  refine cnd h (fun h => ?_) (fun h => ?_)
  · refine sR T_ok [4] [] ⟨[(4, I (-1 : Int))], []⟩ (tn 1) ?_
    refine VW.ret ?_
    replace h := Option.some.inj h
    subst h
    exact rt []
  refine VW.skip ?_
  refine VW.seq ?_
  refine VW.region ?_
  refine sG T_ok 3 [13, 14] [] ⟨[(13, .lf (.v (.sl (.int .i64)) a0.2.2.2.2.2.2)), (14, I (IntKind.i64.wrap (a1 - (a0.2.1.size : Int))))], []⟩ (tn 3) ?_
  obtain ⟨y1, hy, h⟩ := andO_some h
  refine cal false [.t (.sl (.int .i64)), .t (.int .i64)] [] (some 15) T_ok (ok142 N _ _ hy) ?_
  refine sN T_ok [1] [] ⟨[(1, I y1)], []⟩ (tn 1) ?_
  refine VW.seq ?_
  refine sR T_ok [1, 17] [] ⟨[(1, I y1), (17, B (decide (y1 < (0 : Int))))], []⟩ (tn 2) ?_
  refine cnd h (fun h => ?_) (fun h => ?_)
  · refine sR T_ok [4] [] ⟨[(4, I (-1 : Int))], []⟩ (tn 1) ?_
    refine VW.ret ?_
    replace h := Option.some.inj h
    subst h
    exact rt []
  refine VW.skip ?_
  refine sR T_ok [4] [] ⟨[(4, I y1)], []⟩ (tn 2) ?_
  refine VW.ret ?_
  replace h := Option.some.inj h
  subst h
  exact rt []

/- loop.example/g00844/laws.szNodeS -/
def F25_j0 (N : Nat) (x17 : Int) : Option (Int) :=
  some x17
def F25_l0_b (N : Nat) (a0 : (List (Int × (ByteArray × (Int × (Int × (Int × (Bool × (List Int))))))))) (nx30 : Int → Int → Option (Int)) (x24 : Int) (x25 : Int) : Option (Int) :=
  cond (decide (x25 < (a0.length : Int))) (gd (InR x25 a0.length) (andO (F83 N (a0.getD x25.toNat (Ty.dflt Y105)) x24) fun y34 => cond (decide (y34 < (0 : Int))) (some (-1 : Int)) (nx30 y34 (IntKind.i64.wrap (x25 + (1 : Int)))))) (F25_j0 N x24)
def F25_l0 (N : Nat) (a0 : (List (Int × (ByteArray × (Int × (Int × (Int × (Bool × (List Int))))))))) : Nat → Int → Int → Option (Int) := loopF (F25_l0_b N a0) (fun _ _ => none)
theorem F25_l0_s (N : Nat) (a0 : (List (Int × (ByteArray × (Int × (Int × (Int × (Bool × (List Int))))))))) {k : Nat} (hk : 0 < k) (x24 : Int) (x25 : Int) : F25_l0 N a0 k x24 x25 = F25_l0_b N a0 (F25_l0 N a0 (k - 1)) x24 x25 := by
  cases k with
  | zero => exact absurd hk (Nat.lt_irrefl 0)
  | succ m => rfl
def F25 (N : Nat) (a0 : (List (Int × (ByteArray × (Int × (Int × (Int × (Bool × (List Int))))))))) (a1 : Int) : Option (Int) :=
  cond (decide ((IntKind.i64.wrap (a1 - (a0.length : Int))) < (0 : Int))) (some (-1 : Int)) (F25_l0 N a0 N (IntKind.i64.wrap (a1 - (a0.length : Int))) (0 : Int))
theorem ok25 (N : Nat) (a0 : (List (Int × (ByteArray × (Int × (Int × (Int × (Bool × (List Int))))))))) (a1 : Int) {r : Int} (h : F25 N a0 a1 = some r) : Con Go.Proofs.Try.prog 25 [.lf (.v (.sl Y105) a0), I a1] [.lf (.v (.int .i64) r)] := by
  refine ctr [.lf (.v (.int .i64))] T_ok Go.Proofs.Try.func25 rfl fun w0 E0 ht => ?_
  unfold F25 at h
  show VW _ _ _ _ _ (retQ _ _ _ _) _
  refine sR T_ok [0, 1] [] ⟨[(0, .lf (.v (.sl Y105) a0)), (1, I a1)], []⟩ (tn 1) ?_
  refine sR T_ok [0, 1] [] ⟨[(0, .lf (.v (.sl Y105) a0)), (1, I (IntKind.i64.wrap (a1 - (a0.length : Int))))], []⟩ (tn 5) ?_
  refine VW.seq ?_
  refine sR T_ok [0, 1, 11] [] ⟨[(0, .lf (.v (.sl Y105) a0)), (1, I (IntKind.i64.wrap (a1 - (a0.length : Int)))), (11, B (decide ((IntKind.i64.wrap (a1 - (a0.length : Int))) < (0 : Int))))], []⟩ (tn 2) ?_
  refine cnd h (fun h => ?_) (fun h => ?_)
  · refine sR T_ok [4] [] ⟨[(4, I (-1 : Int))], []⟩ (tn 1) ?_
    refine VW.ret ?_
    replace h := Option.some.inj h
    subst h
    exact rt []
  refine VW.skip ?_
  refine VW.join (fun s => ∃ (x17 : Int), s = ⟨[(1, I x17)], []⟩ ∧ F25_j0 N x17 = some r) ?_ ?_
  · refine sR T_ok [0, 1, 5] [] ⟨[(0, .lf (.v (.sl Y105) a0)), (1, I (IntKind.i64.wrap (a1 - (a0.length : Int)))), (5, I (0 : Int))], []⟩ (tn 1) ?_
    refine VW.block ?_
    refine lop (fun k s => ∃ (x24 : Int) (x25 : Int), s = ⟨[(0, .lf (.v (.sl Y105) a0)), (1, I x24), (5, I x25)], []⟩ ∧ F25_l0 N a0 k x24 x25 = some r) N [.ren [0, 1, 5] []] ⟨(IntKind.i64.wrap (a1 - (a0.length : Int))), (0 : Int), rfl, h⟩ ?_
    rintro k30 s ⟨x24, x25, rfl, h⟩
    cases k30 with
    | zero => cases show none = some r from h
    | succ k30 =>
      replace h : F25_l0_b N a0 (F25_l0 N a0 k30) x24 x25 = some r := h
      unfold F25_l0_b at h
      refine VW.seq ?_
      refine sR T_ok [0, 1, 5, 15] [] ⟨[(0, .lf (.v (.sl Y105) a0)), (1, I x24), (5, I x25), (15, B (decide (x25 < (a0.length : Int))))], []⟩ (tn 4) ?_
      refine cnd h (fun h => ?_) (fun h => ?_)
      · refine VW.skip ?_
        refine VW.seq ?_
        refine VW.block ?_
        refine VW.seq ?_
        refine VW.region ?_
        obtain ⟨g33, h⟩ := gd_some h
        refine sG T_ok 5 [0, 5, 21, 22] [] ⟨[(0, .lf (.v (.sl Y105) a0)), (5, I x25), (21, .agg [.v (.int .i64) ((a0.getD x25.toNat (Ty.dflt Y105)).1), .v .str ((a0.getD x25.toNat (Ty.dflt Y105)).2.1), .v (.int .i64) ((a0.getD x25.toNat (Ty.dflt Y105)).2.2.1), .v (.int .i64) ((a0.getD x25.toNat (Ty.dflt Y105)).2.2.2.1), .v (.int .i64) ((a0.getD x25.toNat (Ty.dflt Y105)).2.2.2.2.1), .v .bool ((a0.getD x25.toNat (Ty.dflt Y105)).2.2.2.2.2.1), .v (.sl (.int .i64)) ((a0.getD x25.toNat (Ty.dflt Y105)).2.2.2.2.2.2)]), (22, I x24)], []⟩ (pu 2 (an g33 (tn 2))) ?_
        obtain ⟨y34, hy, h⟩ := andO_some h
        refine cal false [.t Y105, .t (.int .i64)] [] (some 23) T_ok (ok83 N _ _ hy) ?_
        refine sN T_ok [0, 1, 5] [] ⟨[(0, .lf (.v (.sl Y105) a0)), (1, I y34), (5, I x25)], []⟩ (tn 1) ?_
        refine sR T_ok [0, 1, 5, 25] [] ⟨[(0, .lf (.v (.sl Y105) a0)), (1, I y34), (5, I x25), (25, B (decide (y34 < (0 : Int))))], []⟩ (tn 2) ?_
        refine cnd h (fun h => ?_) (fun h => ?_)
        · refine sR T_ok [4] [] ⟨[(4, I (-1 : Int))], []⟩ (tn 1) ?_
          refine VW.ret ?_
          replace h := Option.some.inj h
          subst h
          exact rt []
        refine VW.skip ?_
        refine rR T_ok [0, 1, 5] [] ⟨[(0, .lf (.v (.sl Y105) a0)), (1, I y34), (5, I (IntKind.i64.wrap (x25 + (1 : Int))))], []⟩ (tn 3) ?_
        exact aro [.ren [0, 1, 5] []] ⟨y34, (IntKind.i64.wrap (x25 + (1 : Int))), rfl, h⟩
      refine VW.exit ?_
      exact arv [.ren [1] []] ⟨x24, rfl, h⟩
  rintro s ⟨x17, rfl, h⟩
  unfold F25_j0 at h
  refine sR T_ok [4] [] ⟨[(4, I x17)], []⟩ (tn 2) ?_
  refine VW.ret ?_
  replace h := Option.some.inj h
  subst h
  exact rt []

/- loop.example/g00844/spec.ArityOf -/
def F165_j0 (N : Nat) (x6 : Bool) : Option (Int) :=
  cond x6 (some (1 : Int)) (some (-1 : Int))
def F165_j1 (N : Nat) (a0 : Int) (x5 : Bool) : Option (Int) :=
  cond x5 (some (2 : Int)) (cond (a0 == (1 : Int)) (F165_j0 N (a0 == (1 : Int))) (cond (a0 == (2 : Int)) (F165_j0 N (a0 == (2 : Int))) (cond (a0 == (5 : Int)) (F165_j0 N (a0 == (5 : Int))) (cond (a0 == (6 : Int)) (F165_j0 N (a0 == (6 : Int))) (F165_j0 N (a0 == (7 : Int)))))))
def F165 (N : Nat) (a0 : Int) : Option (Int) :=
  cond (a0 == (0 : Int)) (some (0 : Int)) (cond (a0 == (3 : Int)) (F165_j1 N a0 (a0 == (3 : Int))) (F165_j1 N a0 (a0 == (4 : Int))))
theorem ok165 (N : Nat) (a0 : Int) {r : Int} (h : F165 N a0 = some r) : Con Go.Proofs.Try.prog 165 [I a0] [.lf (.v (.int .i64) r)] := by
  refine ctr [.lf (.v (.int .i64))] T_ok Go.Proofs.Try.func165 rfl fun w0 E0 ht => ?_
  unfold F165 at h
  show VW _ _ _ _ _ (retQ _ _ _ _) _
  refine sR T_ok [0] [] ⟨[(0, I a0)], []⟩ (tn 1) ?_
  refine VW.seq ?_
  refine sR T_ok [3] [] ⟨[(3, I a0)], []⟩ (tn 1) ?_
  refine VW.block ?_
  refine sR T_ok [3, 4] [] ⟨[(3, I a0), (4, B (a0 == (0 : Int)))], []⟩ (tn 2) ?_
  refine cnd h (fun h => ?_) (fun h => ?_)
  · refine sR T_ok [2] [] ⟨[(2, I (0 : Int))], []⟩ (tn 1) ?_
    refine VW.ret ?_
    replace h := Option.some.inj h
    subst h
    exact rt []
  refine VW.join (fun s => ∃ (x5 : Bool), s = ⟨[(3, I a0), (6, B x5)], []⟩ ∧ F165_j1 N a0 x5 = some r) ?_ ?_
  · refine sR T_ok [3, 6] [] ⟨[(3, I a0), (6, B (a0 == (3 : Int)))], []⟩ (tn 2) ?_
    refine cnd h (fun h => ?_) (fun h => ?_)
    · refine VW.skip ?_
      exact arv [.ren [3, 6] []] ⟨(a0 == (3 : Int)), rfl, h⟩
    refine rR T_ok [3, 6] [] ⟨[(3, I a0), (6, B (a0 == (4 : Int)))], []⟩ (tn 2) ?_
    exact arv [.ren [3, 6] []] ⟨(a0 == (4 : Int)), rfl, h⟩
  rintro s ⟨x5, rfl, h⟩
  unfold F165_j1 at h
  refine cnd h (fun h => ?_) (fun h => ?_)
  · refine sR T_ok [2] [] ⟨[(2, I (2 : Int))], []⟩ (tn 1) ?_
    refine VW.ret ?_
    replace h := Option.some.inj h
    subst h
    exact rt []
  refine VW.join (fun s => ∃ (x6 : Bool), s = ⟨[(9, B x6)], []⟩ ∧ F165_j0 N x6 = some r) ?_ ?_
  · refine sR T_ok [3, 9] [] ⟨[(3, I a0), (9, B (a0 == (1 : Int)))], []⟩ (tn 2) ?_
    refine cnd h (fun h => ?_) (fun h => ?_)
    · refine VW.skip ?_
      exact arv [.ren [9] []] ⟨(a0 == (1 : Int)), rfl, h⟩
    refine sR T_ok [3, 9] [] ⟨[(3, I a0), (9, B (a0 == (2 : Int)))], []⟩ (tn 2) ?_
    refine cnd h (fun h => ?_) (fun h => ?_)
    · refine VW.skip ?_
      exact arv [.ren [9] []] ⟨(a0 == (2 : Int)), rfl, h⟩
    refine sR T_ok [3, 9] [] ⟨[(3, I a0), (9, B (a0 == (5 : Int)))], []⟩ (tn 2) ?_
    refine cnd h (fun h => ?_) (fun h => ?_)
    · refine VW.skip ?_
      exact arv [.ren [9] []] ⟨(a0 == (5 : Int)), rfl, h⟩
    refine sR T_ok [3, 9] [] ⟨[(3, I a0), (9, B (a0 == (6 : Int)))], []⟩ (tn 2) ?_
    refine cnd h (fun h => ?_) (fun h => ?_)
    · refine VW.skip ?_
      exact arv [.ren [9] []] ⟨(a0 == (6 : Int)), rfl, h⟩
    refine rR T_ok [9] [] ⟨[(9, B (a0 == (7 : Int)))], []⟩ (tn 2) ?_
    exact arv [.ren [9] []] ⟨(a0 == (7 : Int)), rfl, h⟩
  rintro s ⟨x6, rfl, h⟩
  unfold F165_j0 at h
  refine cnd h (fun h => ?_) (fun h => ?_)
  · refine sR T_ok [2] [] ⟨[(2, I (1 : Int))], []⟩ (tn 1) ?_
    refine VW.ret ?_
    replace h := Option.some.inj h
    subst h
    exact rt []
  refine VW.skip ?_
  refine sR T_ok [2] [] ⟨[(2, I (-1 : Int))], []⟩ (tn 1) ?_
  refine VW.ret ?_
  replace h := Option.some.inj h
  subst h
  exact rt []

/- loop.example/g00844/spec.l02End -/
def F112_j0 (N : Nat) (x33 : Int) (x34 : Int) : Option (Int × Int) :=
  some (x33, (IntKind.i64.wrap (x34 + (1 : Int))))
def F112_j1 (N : Nat) (nx58 : Int → Int → Int → Option (Int × Int)) (x48 : Int) (x64 : Int) (x65 : Int) : Option (Int × Int) :=
  nx58 x64 x65 (IntKind.i64.wrap (x48 + (1 : Int)))
def F112_l0_b (N : Nat) (a0 : (List (Int × (ByteArray × (Int × (Int × (Int × (Bool × (List Int))))))))) (a1 : Int) (a2 : Int) (self : (List (Int × (ByteArray × (Int × (Int × (Int × (Bool × (List Int)))))))) → Int → Int → Option (Int × Int)) (nx58 : Int → Int → Int → Option (Int × Int)) (x46 : Int) (x47 : Int) (x48 : Int) : Option (Int × Int) :=
  gd (InR a1 a0.length) (andO (F165 N ((a0.getD a1.toNat (Ty.dflt Y105)).1)) fun y62 => cond (decide (x48 < y62)) (andO (self a0 x46 (IntKind.i64.wrap (a2 - (1 : Int)))) fun y67 => cond (decide (y67.1 < (0 : Int))) (some ((-1 : Int), (0 : Int))) (cond (decide (y67.2 > x47)) (F112_j1 N nx58 x48 y67.1 y67.2) (F112_j1 N nx58 x48 y67.1 x47))) (F112_j0 N x46 x47))
def F112_l0 (N : Nat) (a0 : (List (Int × (ByteArray × (Int × (Int × (Int × (Bool × (List Int))))))))) (a1 : Int) (a2 : Int) (self : (List (Int × (ByteArray × (Int × (Int × (Int × (Bool × (List Int)))))))) → Int → Int → Option (Int × Int)) : Nat → Int → Int → Int → Option (Int × Int) := loopF (F112_l0_b N a0 a1 a2 self) (fun _ _ _ => none)
theorem F112_l0_s (N : Nat) (a0 : (List (Int × (ByteArray × (Int × (Int × (Int × (Bool × (List Int))))))))) (a1 : Int) (a2 : Int) (self : (List (Int × (ByteArray × (Int × (Int × (Int × (Bool × (List Int)))))))) → Int → Int → Option (Int × Int)) {k : Nat} (hk : 0 < k) (x46 : Int) (x47 : Int) (x48 : Int) : F112_l0 N a0 a1 a2 self k x46 x47 x48 = F112_l0_b N a0 a1 a2 self (F112_l0 N a0 a1 a2 self (k - 1)) x46 x47 x48 := by
  cases k with
  | zero => exact absurd hk (Nat.lt_irrefl 0)
  | succ m => rfl
def F112_b (N : Nat) (self : (List (Int × (ByteArray × (Int × (Int × (Int × (Bool × (List Int)))))))) → Int → Int → Option (Int × Int)) (a0 : (List (Int × (ByteArray × (Int × (Int × (Int × (Bool × (List Int))))))))) (a1 : Int) (a2 : Int) : Option (Int × Int) :=
  cond (decide (a1 ≥ (a0.length : Int))) (some ((-1 : Int), (0 : Int))) (cond (a2 == (0 : Int)) (some ((-1 : Int), (0 : Int))) (F112_l0 N a0 a1 a2 self N (IntKind.i64.wrap (a1 + (1 : Int))) (0 : Int) (0 : Int)))
theorem ok112_b (N : Nat) (self : (List (Int × (ByteArray × (Int × (Int × (Int × (Bool × (List Int)))))))) → Int → Int → Option (Int × Int)) (ih : ∀ (a0 : (List (Int × (ByteArray × (Int × (Int × (Int × (Bool × (List Int))))))))) (a1 : Int) (a2 : Int) (r : Int × Int), self a0 a1 a2 = some r → Con Go.Proofs.Try.prog 112 [.lf (.v (.sl Y105) a0), I a1, I a2] [.lf (.v (.int .i64) r.1), .lf (.v (.int .i64) r.2)]) (a0 : (List (Int × (ByteArray × (Int × (Int × (Int × (Bool × (List Int))))))))) (a1 : Int) (a2 : Int) {r : Int × Int} (h : F112_b N self a0 a1 a2 = some r) : Con Go.Proofs.Try.prog 112 [.lf (.v (.sl Y105) a0), I a1, I a2] [.lf (.v (.int .i64) r.1), .lf (.v (.int .i64) r.2)] := by
  refine ctr [.lf (.v (.int .i64)), .lf (.v (.int .i64))] T_ok Go.Proofs.Try.func112 rfl fun w0 E0 ht => ?_
  unfold F112_b at h
  show VW _ _ _ _ _ (retQ _ _ _ _) _
  refine sR T_ok [0, 1, 2] [] ⟨[(0, .lf (.v (.sl Y105) a0)), (1, I a1), (2, I a2)], []⟩ (tn 2) ?_
  refine VW.seq ?_
  refine VW.seq ?_
  refine VW.region ?_
  refine sG T_ok 5 [0, 1, 2, 17] [] ⟨[(0, .lf (.v (.sl Y105) a0)), (1, I a1), (2, I a2), (17, B (decide (a1 ≥ (a0.length : Int))))], []⟩ (tn 5) ?_
  refine spB 17 h (fun h => ?_) (fun h => ?_)
  · refine sN T_ok [0, 1, 2, 20] [] ⟨[(0, .lf (.v (.sl Y105) a0)), (1, I a1), (2, I a2), (20, B true)], []⟩ (tn 3) ?_
    refine VW.cond (b := true) (by kernel_rfl) (fun _ => ?_) (fun h' => nomatch h')
    refine sR T_ok [6, 7] [] ⟨[(6, I (-1 : Int)), (7, I (0 : Int))], []⟩ (tn 2) ?_
    refine VW.ret ?_
    replace h := Option.some.inj h
    subst h
    exact rt []
  refine sN T_ok [0, 1, 2, 20] [] ⟨[(0, .lf (.v (.sl Y105) a0)), (1, I a1), (2, I a2), (20, B (a2 == (0 : Int)))], []⟩ (tn 3) ?_
  refine cnd h (fun h => ?_) (fun h => ?_)
  · refine sR T_ok [6, 7] [] ⟨[(6, I (-1 : Int)), (7, I (0 : Int))], []⟩ (tn 2) ?_
    refine VW.ret ?_
    replace h := Option.some.inj h
    subst h
    exact rt []
  refine VW.skip ?_
  refine sR T_ok [0, 1, 2, 8] [] ⟨[(0, .lf (.v (.sl Y105) a0)), (1, I a1), (2, I a2), (8, I (IntKind.i64.wrap (a1 + (1 : Int))))], []⟩ (tn 3) ?_
  refine sR T_ok [0, 1, 2, 8, 9] [] ⟨[(0, .lf (.v (.sl Y105) a0)), (1, I a1), (2, I a2), (8, I (IntKind.i64.wrap (a1 + (1 : Int)))), (9, I (0 : Int))], []⟩ (tn 1) ?_
  refine VW.join (fun s => ∃ (x33 : Int) (x34 : Int), s = ⟨[(8, I x33), (9, I x34)], []⟩ ∧ F112_j0 N x33 x34 = some r) ?_ ?_
  · refine sR T_ok [0, 1, 2, 8, 9, 10] [] ⟨[(0, .lf (.v (.sl Y105) a0)), (1, I a1), (2, I a2), (8, I (IntKind.i64.wrap (a1 + (1 : Int)))), (9, I (0 : Int)), (10, I (0 : Int))], []⟩ (tn 1) ?_
    refine VW.block ?_
    refine lop (fun k s => ∃ (x46 : Int) (x47 : Int) (x48 : Int), s = ⟨[(0, .lf (.v (.sl Y105) a0)), (1, I a1), (2, I a2), (8, I x46), (9, I x47), (10, I x48)], []⟩ ∧ F112_l0 N a0 a1 a2 self k x46 x47 x48 = some r) N [.ren [0, 1, 2, 8, 9, 10] []] ⟨(IntKind.i64.wrap (a1 + (1 : Int))), (0 : Int), (0 : Int), rfl, h⟩ ?_
    rintro k58 s ⟨x46, x47, x48, rfl, h⟩
    cases k58 with
    | zero => cases show none = some r from h
    | succ k58 =>
      replace h : F112_l0_b N a0 a1 a2 self (F112_l0 N a0 a1 a2 self k58) x46 x47 x48 = some r := h
      unfold F112_l0_b at h
      refine VW.seq ?_
      refine VW.seq ?_
      refine VW.region ?_
      obtain ⟨g61, h⟩ := gd_some h
      refine sG T_ok 6 [0, 1, 2, 8, 9, 10, 23, 28] [] ⟨[(0, .lf (.v (.sl Y105) a0)), (1, I a1), (2, I a2), (8, I x46), (9, I x47), (10, I x48), (23, I x48), (28, I ((a0.getD a1.toNat (Ty.dflt Y105)).1))], []⟩ (pu 3 (an g61 (tn 2))) ?_
      obtain ⟨y62, hy, h⟩ := andO_some h
      refine cal false [.t (.int .i64)] [] (some 29) T_ok (ok165 N _ hy) ?_
      refine sN T_ok [0, 1, 2, 8, 9, 10, 30] [] ⟨[(0, .lf (.v (.sl Y105) a0)), (1, I a1), (2, I a2), (8, I x46), (9, I x47), (10, I x48), (30, B (decide (x48 < y62)))], []⟩ (tn 1) ?_
      refine cnd h (fun h => ?_) (fun h => ?_)
      · refine VW.skip ?_
        refine VW.join (fun s => ∃ (x64 : Int) (x65 : Int), s = ⟨[(0, .lf (.v (.sl Y105) a0)), (1, I a1), (2, I a2), (8, I x64), (9, I x65), (10, I x48)], []⟩ ∧ F112_j1 N (F112_l0 N a0 a1 a2 self k58) x48 x64 x65 = some r) ?_ ?_
        · refine VW.block ?_
          refine VW.seq ?_
          refine VW.region ?_
          refine sG T_ok 4 [0, 1, 2, 9, 10, 34, 35, 37] [] ⟨[(0, .lf (.v (.sl Y105) a0)), (1, I a1), (2, I a2), (9, I x47), (10, I x48), (34, .lf (.v (.sl Y105) a0)), (35, I x46), (37, I (IntKind.i64.wrap (a2 - (1 : Int))))], []⟩ (tn 4) ?_
          obtain ⟨y67, hy, h⟩ := andO_some h
          refine cal false [.t (.sl Y105), .t (.int .i64), .t (.int .i64)] [] (some 38) T_ok (ih _ _ _ _ hy) ?_
          refine sN T_ok [0, 1, 2, 9, 10, 11, 12] [] ⟨[(0, .lf (.v (.sl Y105) a0)), (1, I a1), (2, I a2), (9, I x47), (10, I x48), (11, I y67.1), (12, I y67.2)], []⟩ (tn 5) ?_
          refine VW.seq ?_
          refine sR T_ok [0, 1, 2, 9, 10, 11, 12, 42] [] ⟨[(0, .lf (.v (.sl Y105) a0)), (1, I a1), (2, I a2), (9, I x47), (10, I x48), (11, I y67.1), (12, I y67.2), (42, B (decide (y67.1 < (0 : Int))))], []⟩ (tn 2) ?_
          refine cnd h (fun h => ?_) (fun h => ?_)
          · refine sR T_ok [6, 7] [] ⟨[(6, I (-1 : Int)), (7, I (0 : Int))], []⟩ (tn 2) ?_
            refine VW.ret ?_
            replace h := Option.some.inj h
            subst h
            exact rt []
          refine VW.skip ?_
          refine sR T_ok [0, 1, 2, 8, 9, 10, 12] [] ⟨[(0, .lf (.v (.sl Y105) a0)), (1, I a1), (2, I a2), (8, I y67.1), (9, I x47), (10, I x48), (12, I y67.2)], []⟩ (tn 2) ?_
          refine sR T_ok [0, 1, 2, 8, 9, 10, 12, 46] [] ⟨[(0, .lf (.v (.sl Y105) a0)), (1, I a1), (2, I a2), (8, I y67.1), (9, I x47), (10, I x48), (12, I y67.2), (46, B (decide (y67.2 > x47)))], []⟩ (tn 3) ?_
          refine cnd h (fun h => ?_) (fun h => ?_)
          · refine rR T_ok [0, 1, 2, 8, 9, 10] [] ⟨[(0, .lf (.v (.sl Y105) a0)), (1, I a1), (2, I a2), (8, I y67.1), (9, I y67.2), (10, I x48)], []⟩ (tn 2) ?_
            exact arv [.ren [0, 1, 2, 8, 9, 10] []] ⟨y67.1, y67.2, rfl, h⟩
          refine VW.skip ?_
          exact arv [.ren [0, 1, 2, 8, 9, 10] []] ⟨y67.1, x47, rfl, h⟩
        rintro s ⟨x64, x65, rfl, h⟩
        unfold F112_j1 at h
        refine rR T_ok [0, 1, 2, 8, 9, 10] [] ⟨[(0, .lf (.v (.sl Y105) a0)), (1, I a1), (2, I a2), (8, I x64), (9, I x65), (10, I (IntKind.i64.wrap (x48 + (1 : Int))))], []⟩ (tn 3) ?_
        exact aro [.ren [0, 1, 2, 8, 9, 10] []] ⟨x64, x65, (IntKind.i64.wrap (x48 + (1 : Int))), rfl, h⟩
      refine VW.exit ?_
      exact arv [.ren [8, 9] []] ⟨x46, x47, rfl, h⟩
  rintro s ⟨x33, x34, rfl, h⟩
  unfold F112_j0 at h
  refine sR T_ok [6, 7] [] ⟨[(6, I x33), (7, I (IntKind.i64.wrap (x34 + (1 : Int))))], []⟩ (tn 5) ?_
  refine VW.ret ?_
  replace h := Option.some.inj h
  subst h
  exact rt []
def F112_r (N : Nat) : Nat → (List (Int × (ByteArray × (Int × (Int × (Int × (Bool × (List Int)))))))) → Int → Int → Option (Int × Int) := loopF (F112_b N) (fun _ _ _ => none)
theorem F112_s (N : Nat) {k : Nat} (hk : 0 < k) (a0 : (List (Int × (ByteArray × (Int × (Int × (Int × (Bool × (List Int))))))))) (a1 : Int) (a2 : Int) : F112_r N k a0 a1 a2 = F112_b N (F112_r N (k - 1)) a0 a1 a2 := by
  cases k with
  | zero => exact absurd hk (Nat.lt_irrefl 0)
  | succ m => rfl
def F112 (N : Nat) : (List (Int × (ByteArray × (Int × (Int × (Int × (Bool × (List Int)))))))) → Int → Int → Option (Int × Int) := F112_r N N
theorem ok112_k (N : Nat) : ∀ (k : Nat) (a0 : (List (Int × (ByteArray × (Int × (Int × (Int × (Bool × (List Int))))))))) (a1 : Int) (a2 : Int) (r : Int × Int), loopF (F112_b N) (fun _ _ _ => none) k a0 a1 a2 = some r → Con Go.Proofs.Try.prog 112 [.lf (.v (.sl Y105) a0), I a1, I a2] [.lf (.v (.int .i64) r.1), .lf (.v (.int .i64) r.2)]
  | 0, a0, a1, a2, r, h => nomatch (show (none : Option (Int × Int)) = some r from h)
  | k + 1, a0, a1, a2, r, h => ok112_b N _ (ok112_k N k) a0 a1 a2 h
theorem ok112 (N : Nat) (a0 : (List (Int × (ByteArray × (Int × (Int × (Int × (Bool × (List Int))))))))) (a1 : Int) (a2 : Int) {r : Int × Int} (h : F112 N a0 a1 a2 = some r) : Con Go.Proofs.Try.prog 112 [.lf (.v (.sl Y105) a0), I a1, I a2] [.lf (.v (.int .i64) r.1), .lf (.v (.int .i64) r.2)] := ok112_k N N a0 a1 a2 r h

/- loop.example/g00844/spec.l01Number -/
def F156 (N : Nat) (a0 : Int) : Option (Bool) :=
  andO (F71 N a0 (-1000000 : Int) (1000000 : Int)) fun y1 => some y1
theorem ok156 (N : Nat) (a0 : Int) {r : Bool} (h : F156 N a0 = some r) : Con Go.Proofs.Try.prog 156 [I a0] [.lf (.v .bool r)] := by
  refine ctr [.lf (.v .bool)] T_ok Go.Proofs.Try.func156 rfl fun w0 E0 ht => ?_
  unfold F156 at h
  show VW _ _ _ _ _ (retQ _ _ _ _) _
  refine sR T_ok [0] [] ⟨[(0, I a0)], []⟩ (tn 1) ?_
  refine VW.seq ?_
  refine VW.region ?_
  refine sG T_ok 1 [3] [] ⟨[(3, I a0)], []⟩ (tn 1) ?_
  obtain ⟨y1, hy, h⟩ := andO_some h
  refine cal false [.t (.int .i64), .t (.int .i64), .t (.int .i64)] [] (some 4) T_ok (ok71 N _ _ _ hy) ?_
  refine sN T_ok [2] [] ⟨[(2, B y1)], []⟩ (tn 1) ?_
  refine VW.ret ?_
  replace h := Option.some.inj h
  subst h
  exact rt []

/- loop.example/g00844/spec.l02Col -/
def F192 (N : Nat) (a0 : Int) : Option (Bool) :=
  andO (F71 N a0 (0 : Int) (63 : Int)) fun y1 => some y1
theorem ok192 (N : Nat) (a0 : Int) {r : Bool} (h : F192 N a0 = some r) : Con Go.Proofs.Try.prog 192 [I a0] [.lf (.v .bool r)] := by
  refine ctr [.lf (.v .bool)] T_ok Go.Proofs.Try.func192 rfl fun w0 E0 ht => ?_
  unfold F192 at h
  show VW _ _ _ _ _ (retQ _ _ _ _) _
  refine sR T_ok [0] [] ⟨[(0, I a0)], []⟩ (tn 1) ?_
  refine VW.seq ?_
  refine VW.region ?_
  refine sG T_ok 1 [3] [] ⟨[(3, I a0)], []⟩ (tn 1) ?_
  obtain ⟨y1, hy, h⟩ := andO_some h
  refine cal false [.t (.int .i64), .t (.int .i64), .t (.int .i64)] [] (some 4) T_ok (ok71 N _ _ _ hy) ?_
  refine sN T_ok [2] [] ⟨[(2, B y1)], []⟩ (tn 1) ?_
  refine VW.ret ?_
  replace h := Option.some.inj h
  subst h
  exact rt []

/- loop.example/g00844/spec.NodeOk -/
def F144_j0 (N : Nat) : Option (Bool) :=
  some false
def F144_j1 (N : Nat) (x11 : Int) (x13 : Int) (x14 : Bool) (x15 : (List Int)) : Option (Bool) :=
  andO (F71 N (x15.length : Int) (1 : Int) (6 : Int)) fun y75 => cond y75 (cond (x11 == (0 : Int)) (cond (x13 == (0 : Int)) (some (!x14)) (some false)) (some false)) (some false)
def F144_l0_b (N : Nat) (x11 : Int) (x13 : Int) (x14 : Bool) (x15 : (List Int)) (nx86 : Int → Option (Bool)) (x81 : Int) : Option (Bool) :=
  cond (decide (x81 < (x15.length : Int))) (gd (InR x81 x15.length) (andO (F192 N (x15.getD x81.toNat (Ty.dflt (.int .i64)))) fun y90 => cond (!y90) (some false) (nx86 (IntKind.i64.wrap (x81 + (1 : Int)))))) (F144_j1 N x11 x13 x14 x15)
def F144_l0 (N : Nat) (x11 : Int) (x13 : Int) (x14 : Bool) (x15 : (List Int)) : Nat → Int → Option (Bool) := loopF (F144_l0_b N x11 x13 x14 x15) (fun _ => none)
theorem F144_l0_s (N : Nat) (x11 : Int) (x13 : Int) (x14 : Bool) (x15 : (List Int)) {k : Nat} (hk : 0 < k) (x81 : Int) : F144_l0 N x11 x13 x14 x15 k x81 = F144_l0_b N x11 x13 x14 x15 (F144_l0 N x11 x13 x14 x15 (k - 1)) x81 := by
  cases k with
  | zero => exact absurd hk (Nat.lt_irrefl 0)
  | succ m => rfl
def F144_j2 (N : Nat) (x11 : Int) (x13 : Int) (x14 : Bool) (x95 : Bool) : Option (Bool) :=
  cond x95 (cond (x11 == (0 : Int)) (cond (x13 == (0 : Int)) (some (!x14)) (some false)) (some false)) (F144_j0 N)
def F144_j3 (N : Nat) (x9 : Int) (x10 : ByteArray) (x11 : Int) (x12 : Int) (x13 : Int) (x14 : Bool) (x15 : (List Int)) : Option (Bool) :=
  cond (x9 == (0 : Int)) (andO (F138 N x10) fun y57 => cond y57 (cond (x11 == (0 : Int)) (cond (x13 == (0 : Int)) (some (!x14)) (some false)) (some false)) (some false)) (cond (x9 == (1 : Int)) (andO (F192 N x11) fun y58 => cond y58 (andO (F71 N x12 (0 : Int) (3 : Int)) fun y59 => cond y59 (andO (F156 N x13) fun y60 => cond y60 (cond (x12 != (3 : Int)) (some true) (cond (x13 == (0 : Int)) (some (!x14)) (some false))) (some false)) (some false)) (some false)) (cond (x9 == (2 : Int)) (F144_l0 N x11 x13 x14 x15 N (0 : Int)) (cond (x9 == (3 : Int)) (andO (F192 N x11) fun y91 => cond y91 (andO (F192 N x13) fun y92 => cond y92 (some (!x14)) (some false)) (some false)) (cond (x9 == (5 : Int)) (andO (F192 N x11) fun y93 => cond y93 (cond (x13 == (0 : Int)) (some (!x14)) (some false)) (some false)) (cond (x9 == (6 : Int)) (cond (x11 == (0 : Int)) (andO (F71 N x13 (0 : Int) (1000000 : Int)) fun y94 => some y94) (some false)) (cond (x9 == (4 : Int)) (F144_j2 N x11 x13 x14 (x9 == (4 : Int))) (F144_j2 N x11 x13 x14 (x9 == (7 : Int)))))))))
def F144 (N : Nat) (a0 : (Int × (ByteArray × (Int × (Int × (Int × (Bool × (List Int)))))))) : Option (Bool) :=
  cond (a0.1 != (0 : Int)) (cond (!(a0.2.1.toList == ByteArray.empty.toList)) (some false) (cond (a0.1 != (2 : Int)) (cond (decide ((a0.2.2.2.2.2.2.length : Int) > (0 : Int))) (some false) (cond (a0.1 != (1 : Int)) (cond (a0.2.2.2.1 != (0 : Int)) (some false) (cond a0.2.2.2.2.2.1 (andO (F71 N a0.2.2.2.2.1 (0 : Int) (39 : Int)) fun y98 => cond (!y98) (some false) (F144_j3 N a0.1 a0.2.1 a0.2.2.1 a0.2.2.2.1 a0.2.2.2.2.1 a0.2.2.2.2.2.1 a0.2.2.2.2.2.2)) (F144_j3 N a0.1 a0.2.1 a0.2.2.1 a0.2.2.2.1 a0.2.2.2.2.1 a0.2.2.2.2.2.1 a0.2.2.2.2.2.2))) (cond a0.2.2.2.2.2.1 (andO (F71 N a0.2.2.2.2.1 (0 : Int) (39 : Int)) fun y99 => cond (!y99) (some false) (F144_j3 N a0.1 a0.2.1 a0.2.2.1 a0.2.2.2.1 a0.2.2.2.2.1 a0.2.2.2.2.2.1 a0.2.2.2.2.2.2)) (F144_j3 N a0.1 a0.2.1 a0.2.2.1 a0.2.2.2.1 a0.2.2.2.2.1 a0.2.2.2.2.2.1 a0.2.2.2.2.2.2)))) (cond (a0.1 != (1 : Int)) (cond (a0.2.2.2.1 != (0 : Int)) (some false) (cond a0.2.2.2.2.2.1 (andO (F71 N a0.2.2.2.2.1 (0 : Int) (39 : Int)) fun y100 => cond (!y100) (some false) (F144_j3 N a0.1 a0.2.1 a0.2.2.1 a0.2.2.2.1 a0.2.2.2.2.1 a0.2.2.2.2.2.1 a0.2.2.2.2.2.2)) (F144_j3 N a0.1 a0.2.1 a0.2.2.1 a0.2.2.2.1 a0.2.2.2.2.1 a0.2.2.2.2.2.1 a0.2.2.2.2.2.2))) (cond a0.2.2.2.2.2.1 (andO (F71 N a0.2.2.2.2.1 (0 : Int) (39 : Int)) fun y101 => cond (!y101) (some false) (F144_j3 N a0.1 a0.2.1 a0.2.2.1 a0.2.2.2.1 a0.2.2.2.2.1 a0.2.2.2.2.2.1 a0.2.2.2.2.2.2)) (F144_j3 N a0.1 a0.2.1 a0.2.2.1 a0.2.2.2.1 a0.2.2.2.2.1 a0.2.2.2.2.2.1 a0.2.2.2.2.2.2))))) (cond (a0.1 != (2 : Int)) (cond (decide ((a0.2.2.2.2.2.2.length : Int) > (0 : Int))) (some false) (cond (a0.1 != (1 : Int)) (cond (a0.2.2.2.1 != (0 : Int)) (some false) (cond a0.2.2.2.2.2.1 (andO (F71 N a0.2.2.2.2.1 (0 : Int) (39 : Int)) fun y102 => cond (!y102) (some false) (F144_j3 N a0.1 a0.2.1 a0.2.2.1 a0.2.2.2.1 a0.2.2.2.2.1 a0.2.2.2.2.2.1 a0.2.2.2.2.2.2)) (F144_j3 N a0.1 a0.2.1 a0.2.2.1 a0.2.2.2.1 a0.2.2.2.2.1 a0.2.2.2.2.2.1 a0.2.2.2.2.2.2))) (cond a0.2.2.2.2.2.1 (andO (F71 N a0.2.2.2.2.1 (0 : Int) (39 : Int)) fun y103 => cond (!y103) (some false) (F144_j3 N a0.1 a0.2.1 a0.2.2.1 a0.2.2.2.1 a0.2.2.2.2.1 a0.2.2.2.2.2.1 a0.2.2.2.2.2.2)) (F144_j3 N a0.1 a0.2.1 a0.2.2.1 a0.2.2.2.1 a0.2.2.2.2.1 a0.2.2.2.2.2.1 a0.2.2.2.2.2.2)))) (cond (a0.1 != (1 : Int)) (cond (a0.2.2.2.1 != (0 : Int)) (some false) (cond a0.2.2.2.2.2.1 (andO (F71 N a0.2.2.2.2.1 (0 : Int) (39 : Int)) fun y104 => cond (!y104) (some false) (F144_j3 N a0.1 a0.2.1 a0.2.2.1 a0.2.2.2.1 a0.2.2.2.2.1 a0.2.2.2.2.2.1 a0.2.2.2.2.2.2)) (F144_j3 N a0.1 a0.2.1 a0.2.2.1 a0.2.2.2.1 a0.2.2.2.2.1 a0.2.2.2.2.2.1 a0.2.2.2.2.2.2))) (cond a0.2.2.2.2.2.1 (andO (F71 N a0.2.2.2.2.1 (0 : Int) (39 : Int)) fun y105 => cond (!y105) (some false) (F144_j3 N a0.1 a0.2.1 a0.2.2.1 a0.2.2.2.1 a0.2.2.2.2.1 a0.2.2.2.2.2.1 a0.2.2.2.2.2.2)) (F144_j3 N a0.1 a0.2.1 a0.2.2.1 a0.2.2.2.1 a0.2.2.2.2.1 a0.2.2.2.2.2.1 a0.2.2.2.2.2.2))))
theorem ok144 (N : Nat) (a0 : (Int × (ByteArray × (Int × (Int × (Int × (Bool × (List Int)))))))) {r : Bool} (h : F144 N a0 = some r) : Con Go.Proofs.Try.prog 144 [.agg [.v (.int .i64) a0.1, .v .str a0.2.1, .v (.int .i64) a0.2.2.1, .v (.int .i64) a0.2.2.2.1, .v (.int .i64) a0.2.2.2.2.1, .v .bool a0.2.2.2.2.2.1, .v (.sl (.int .i64)) a0.2.2.2.2.2.2]] [.lf (.v .bool r)] := by
  refine ctr [.lf (.v .bool)] T_ok Go.Proofs.Try.func144 rfl fun w0 E0 ht => ?_
  unfold F144 at h
  show VW _ _ _ _ _ (retQ _ _ _ _) _
  refine sR T_ok [1] [0] ⟨[(1, .lf (.ptr 0 0 0 0))], [bx [.v (.int .i64) a0.1, .v .str a0.2.1, .v (.int .i64) a0.2.2.1, .v (.int .i64) a0.2.2.2.1, .v (.int .i64) a0.2.2.2.2.1, .v .bool a0.2.2.2.2.2.1, .v (.sl (.int .i64)) a0.2.2.2.2.2.2] 107]⟩ (tn 2) ?_
  refine VW.join (fun s => ∃ (x9 : Int) (x10 : ByteArray) (x11 : Int) (x12 : Int) (x13 : Int) (x14 : Bool) (x15 : (List Int)), s = ⟨[(1, .lf (.ptr 0 0 0 0))], [bx [.v (.int .i64) x9, .v .str x10, .v (.int .i64) x11, .v (.int .i64) x12, .v (.int .i64) x13, .v .bool x14, .v (.sl (.int .i64)) x15] 107]⟩ ∧ F144_j3 N x9 x10 x11 x12 x13 x14 x15 = some r) ?_ ?_
  · refine VW.seq ?_
    refine VW.region ?_
    refine sG T_ok 4 [1, 7] [0] ⟨[(1, .lf (.ptr 0 0 0 0)), (7, B (a0.1 != (0 : Int)))], [bx [.v (.int .i64) a0.1, .v .str a0.2.1, .v (.int .i64) a0.2.2.1, .v (.int .i64) a0.2.2.2.1, .v (.int .i64) a0.2.2.2.2.1, .v .bool a0.2.2.2.2.2.1, .v (.sl (.int .i64)) a0.2.2.2.2.2.2] 107]⟩ (tn 4) ?_
    refine spB 7 h (fun h => ?_) (fun h => ?_)
    · refine sG T_ok 5 [1, 12] [0] ⟨[(1, .lf (.ptr 0 0 0 0)), (12, B (!(a0.2.1.toList == ByteArray.empty.toList)))], [bx [.v (.int .i64) a0.1, .v .str a0.2.1, .v (.int .i64) a0.2.2.1, .v (.int .i64) a0.2.2.2.1, .v (.int .i64) a0.2.2.2.2.1, .v .bool a0.2.2.2.2.2.1, .v (.sl (.int .i64)) a0.2.2.2.2.2.2] 107]⟩ (tn 5) ?_
      refine spB 12 h (fun h => ?_) (fun h => ?_)
      · refine sN T_ok [1, 42] [0] ⟨[(1, .lf (.ptr 0 0 0 0)), (42, B true)], [bx [.v (.int .i64) a0.1, .v .str a0.2.1, .v (.int .i64) a0.2.2.1, .v (.int .i64) a0.2.2.2.1, .v (.int .i64) a0.2.2.2.2.1, .v .bool a0.2.2.2.2.2.1, .v (.sl (.int .i64)) a0.2.2.2.2.2.2] 107]⟩ (tn 30) ?_
        refine VW.cond (b := true) (by kernel_rfl) (fun _ => ?_) (fun h' => nomatch h')
        refine sR T_ok [2] [] ⟨[(2, B false)], []⟩ (tn 1) ?_
        refine VW.ret ?_
        replace h := Option.some.inj h
        subst h
        exact rt []
      refine sG T_ok 4 [1, 12, 16] [0] ⟨[(1, .lf (.ptr 0 0 0 0)), (12, B false), (16, B (a0.1 != (2 : Int)))], [bx [.v (.int .i64) a0.1, .v .str a0.2.1, .v (.int .i64) a0.2.2.1, .v (.int .i64) a0.2.2.2.1, .v (.int .i64) a0.2.2.2.2.1, .v .bool a0.2.2.2.2.2.1, .v (.sl (.int .i64)) a0.2.2.2.2.2.2] 107]⟩ (tn 4) ?_
      refine spB 16 h (fun h => ?_) (fun h => ?_)
      · refine sG T_ok 7 [1, 23] [0] ⟨[(1, .lf (.ptr 0 0 0 0)), (23, B (decide ((a0.2.2.2.2.2.2.length : Int) > (0 : Int))))], [bx [.v (.int .i64) a0.1, .v .str a0.2.1, .v (.int .i64) a0.2.2.1, .v (.int .i64) a0.2.2.2.1, .v (.int .i64) a0.2.2.2.2.1, .v .bool a0.2.2.2.2.2.1, .v (.sl (.int .i64)) a0.2.2.2.2.2.2] 107]⟩ (tn 7) ?_
        refine spB 23 h (fun h => ?_) (fun h => ?_)
        · refine sN T_ok [1, 42] [0] ⟨[(1, .lf (.ptr 0 0 0 0)), (42, B true)], [bx [.v (.int .i64) a0.1, .v .str a0.2.1, .v (.int .i64) a0.2.2.1, .v (.int .i64) a0.2.2.2.1, .v (.int .i64) a0.2.2.2.2.1, .v .bool a0.2.2.2.2.2.1, .v (.sl (.int .i64)) a0.2.2.2.2.2.2] 107]⟩ (tn 19) ?_
          refine VW.cond (b := true) (by kernel_rfl) (fun _ => ?_) (fun h' => nomatch h')
          refine sR T_ok [2] [] ⟨[(2, B false)], []⟩ (tn 1) ?_
          refine VW.ret ?_
          replace h := Option.some.inj h
          subst h
          exact rt []
        refine sG T_ok 4 [1, 23, 27] [0] ⟨[(1, .lf (.ptr 0 0 0 0)), (23, B false), (27, B (a0.1 != (1 : Int)))], [bx [.v (.int .i64) a0.1, .v .str a0.2.1, .v (.int .i64) a0.2.2.1, .v (.int .i64) a0.2.2.2.1, .v (.int .i64) a0.2.2.2.2.1, .v .bool a0.2.2.2.2.2.1, .v (.sl (.int .i64)) a0.2.2.2.2.2.2] 107]⟩ (tn 4) ?_
        refine spB 27 h (fun h => ?_) (fun h => ?_)
        · refine sG T_ok 6 [1, 33] [0] ⟨[(1, .lf (.ptr 0 0 0 0)), (33, B (a0.2.2.2.1 != (0 : Int)))], [bx [.v (.int .i64) a0.1, .v .str a0.2.1, .v (.int .i64) a0.2.2.1, .v (.int .i64) a0.2.2.2.1, .v (.int .i64) a0.2.2.2.2.1, .v .bool a0.2.2.2.2.2.1, .v (.sl (.int .i64)) a0.2.2.2.2.2.2] 107]⟩ (tn 6) ?_
          refine spB 33 h (fun h => ?_) (fun h => ?_)
          · refine sN T_ok [1, 42] [0] ⟨[(1, .lf (.ptr 0 0 0 0)), (42, B true)], [bx [.v (.int .i64) a0.1, .v .str a0.2.1, .v (.int .i64) a0.2.2.1, .v (.int .i64) a0.2.2.2.1, .v (.int .i64) a0.2.2.2.2.1, .v .bool a0.2.2.2.2.2.1, .v (.sl (.int .i64)) a0.2.2.2.2.2.2] 107]⟩ (tn 9) ?_
            refine VW.cond (b := true) (by kernel_rfl) (fun _ => ?_) (fun h' => nomatch h')
            refine sR T_ok [2] [] ⟨[(2, B false)], []⟩ (tn 1) ?_
            refine VW.ret ?_
            replace h := Option.some.inj h
            subst h
            exact rt []
          refine sG T_ok 3 [1, 33, 36] [0] ⟨[(1, .lf (.ptr 0 0 0 0)), (33, B false), (36, B a0.2.2.2.2.2.1)], [bx [.v (.int .i64) a0.1, .v .str a0.2.1, .v (.int .i64) a0.2.2.1, .v (.int .i64) a0.2.2.2.1, .v (.int .i64) a0.2.2.2.2.1, .v .bool a0.2.2.2.2.2.1, .v (.sl (.int .i64)) a0.2.2.2.2.2.2] 107]⟩ (tn 3) ?_
          refine spB 36 h (fun h => ?_) (fun h => ?_)
          · refine sG T_ok 2 [1, 33, 36, 38] [0] ⟨[(1, .lf (.ptr 0 0 0 0)), (33, B false), (36, B true), (38, I a0.2.2.2.2.1)], [bx [.v (.int .i64) a0.1, .v .str a0.2.1, .v (.int .i64) a0.2.2.1, .v (.int .i64) a0.2.2.2.1, .v (.int .i64) a0.2.2.2.2.1, .v .bool a0.2.2.2.2.2.1, .v (.sl (.int .i64)) a0.2.2.2.2.2.2] 107]⟩ (tn 2) ?_
            refine VO.on (j := 32) (want := true) (d := 36) (b := true) rfl rfl rfl (by kernel_rfl) rfl ?_
            obtain ⟨y98, hy, h⟩ := andO_some h
            refine cal false [.t (.int .i64), .t (.int .i64), .t (.int .i64)] [] (some 39) T_ok (ok71 N _ _ _ hy) ?_
            refine sN T_ok [1, 42] [0] ⟨[(1, .lf (.ptr 0 0 0 0)), (42, B (!y98))], [bx [.v (.int .i64) a0.1, .v .str a0.2.1, .v (.int .i64) a0.2.2.1, .v (.int .i64) a0.2.2.2.1, .v (.int .i64) a0.2.2.2.2.1, .v .bool a0.2.2.2.2.2.1, .v (.sl (.int .i64)) a0.2.2.2.2.2.2] 107]⟩ (tn 3) ?_
            refine cnd h (fun h => ?_) (fun h => ?_)
            · refine sR T_ok [2] [] ⟨[(2, B false)], []⟩ (tn 1) ?_
              refine VW.ret ?_
              replace h := Option.some.inj h
              subst h
              exact rt []
            refine VW.skip ?_
            exact arv [.ren [1] [0]] ⟨a0.1, a0.2.1, a0.2.2.1, a0.2.2.2.1, a0.2.2.2.2.1, a0.2.2.2.2.2.1, a0.2.2.2.2.2.2, rfl, h⟩
          refine sN T_ok [1, 42] [0] ⟨[(1, .lf (.ptr 0 0 0 0)), (42, B false)], [bx [.v (.int .i64) a0.1, .v .str a0.2.1, .v (.int .i64) a0.2.2.1, .v (.int .i64) a0.2.2.2.1, .v (.int .i64) a0.2.2.2.2.1, .v .bool a0.2.2.2.2.2.1, .v (.sl (.int .i64)) a0.2.2.2.2.2.2] 107]⟩ (tn 6) ?_
          refine VW.cond (b := false) (by kernel_rfl) (fun h' => nomatch h') (fun _ => ?_)
          refine VW.skip ?_
          exact arv [.ren [1] [0]] ⟨a0.1, a0.2.1, a0.2.2.1, a0.2.2.2.1, a0.2.2.2.2.1, a0.2.2.2.2.2.1, a0.2.2.2.2.2.2, rfl, h⟩
        refine sG T_ok 9 [1, 33, 36] [0] ⟨[(1, .lf (.ptr 0 0 0 0)), (33, B false), (36, B a0.2.2.2.2.2.1)], [bx [.v (.int .i64) a0.1, .v .str a0.2.1, .v (.int .i64) a0.2.2.1, .v (.int .i64) a0.2.2.2.1, .v (.int .i64) a0.2.2.2.2.1, .v .bool a0.2.2.2.2.2.1, .v (.sl (.int .i64)) a0.2.2.2.2.2.2] 107]⟩ (tn 9) ?_
        refine spB 36 h (fun h => ?_) (fun h => ?_)
        · refine sG T_ok 2 [1, 33, 36, 38] [0] ⟨[(1, .lf (.ptr 0 0 0 0)), (33, B false), (36, B true), (38, I a0.2.2.2.2.1)], [bx [.v (.int .i64) a0.1, .v .str a0.2.1, .v (.int .i64) a0.2.2.1, .v (.int .i64) a0.2.2.2.1, .v (.int .i64) a0.2.2.2.2.1, .v .bool a0.2.2.2.2.2.1, .v (.sl (.int .i64)) a0.2.2.2.2.2.2] 107]⟩ (tn 2) ?_
          refine VO.on (j := 32) (want := true) (d := 36) (b := true) rfl rfl rfl (by kernel_rfl) rfl ?_
          obtain ⟨y99, hy, h⟩ := andO_some h
          refine cal false [.t (.int .i64), .t (.int .i64), .t (.int .i64)] [] (some 39) T_ok (ok71 N _ _ _ hy) ?_
          refine sN T_ok [1, 42] [0] ⟨[(1, .lf (.ptr 0 0 0 0)), (42, B (!y99))], [bx [.v (.int .i64) a0.1, .v .str a0.2.1, .v (.int .i64) a0.2.2.1, .v (.int .i64) a0.2.2.2.1, .v (.int .i64) a0.2.2.2.2.1, .v .bool a0.2.2.2.2.2.1, .v (.sl (.int .i64)) a0.2.2.2.2.2.2] 107]⟩ (tn 3) ?_
          refine cnd h (fun h => ?_) (fun h => ?_)
          · refine sR T_ok [2] [] ⟨[(2, B false)], []⟩ (tn 1) ?_
            refine VW.ret ?_
            replace h := Option.some.inj h
            subst h
            exact rt []
          refine VW.skip ?_
          exact arv [.ren [1] [0]] ⟨a0.1, a0.2.1, a0.2.2.1, a0.2.2.2.1, a0.2.2.2.2.1, a0.2.2.2.2.2.1, a0.2.2.2.2.2.2, rfl, h⟩
        refine sN T_ok [1, 42] [0] ⟨[(1, .lf (.ptr 0 0 0 0)), (42, B false)], [bx [.v (.int .i64) a0.1, .v .str a0.2.1, .v (.int .i64) a0.2.2.1, .v (.int .i64) a0.2.2.2.1, .v (.int .i64) a0.2.2.2.2.1, .v .bool a0.2.2.2.2.2.1, .v (.sl (.int .i64)) a0.2.2.2.2.2.2] 107]⟩ (tn 6) ?_
        refine VW.cond (b := false) (by kernel_rfl) (fun h' => nomatch h') (fun _ => ?_)
        refine VW.skip ?_
        exact arv [.ren [1] [0]] ⟨a0.1, a0.2.1, a0.2.2.1, a0.2.2.2.1, a0.2.2.2.2.1, a0.2.2.2.2.2.1, a0.2.2.2.2.2.2, rfl, h⟩
      refine sG T_ok 11 [1, 23, 27] [0] ⟨[(1, .lf (.ptr 0 0 0 0)), (23, B false), (27, B (a0.1 != (1 : Int)))], [bx [.v (.int .i64) a0.1, .v .str a0.2.1, .v (.int .i64) a0.2.2.1, .v (.int .i64) a0.2.2.2.1, .v (.int .i64) a0.2.2.2.2.1, .v .bool a0.2.2.2.2.2.1, .v (.sl (.int .i64)) a0.2.2.2.2.2.2] 107]⟩ (tn 11) ?_
      refine spB 27 h (fun h => ?_) (fun h => ?_)
      · refine sG T_ok 6 [1, 33] [0] ⟨[(1, .lf (.ptr 0 0 0 0)), (33, B (a0.2.2.2.1 != (0 : Int)))], [bx [.v (.int .i64) a0.1, .v .str a0.2.1, .v (.int .i64) a0.2.2.1, .v (.int .i64) a0.2.2.2.1, .v (.int .i64) a0.2.2.2.2.1, .v .bool a0.2.2.2.2.2.1, .v (.sl (.int .i64)) a0.2.2.2.2.2.2] 107]⟩ (tn 6) ?_
        refine spB 33 h (fun h => ?_) (fun h => ?_)
        · refine sN T_ok [1, 42] [0] ⟨[(1, .lf (.ptr 0 0 0 0)), (42, B true)], [bx [.v (.int .i64) a0.1, .v .str a0.2.1, .v (.int .i64) a0.2.2.1, .v (.int .i64) a0.2.2.2.1, .v (.int .i64) a0.2.2.2.2.1, .v .bool a0.2.2.2.2.2.1, .v (.sl (.int .i64)) a0.2.2.2.2.2.2] 107]⟩ (tn 9) ?_
          refine VW.cond (b := true) (by kernel_rfl) (fun _ => ?_) (fun h' => nomatch h')
          refine sR T_ok [2] [] ⟨[(2, B false)], []⟩ (tn 1) ?_
          refine VW.ret ?_
          replace h := Option.some.inj h
          subst h
          exact rt []
        refine sG T_ok 3 [1, 33, 36] [0] ⟨[(1, .lf (.ptr 0 0 0 0)), (33, B false), (36, B a0.2.2.2.2.2.1)], [bx [.v (.int .i64) a0.1, .v .str a0.2.1, .v (.int .i64) a0.2.2.1, .v (.int .i64) a0.2.2.2.1, .v (.int .i64) a0.2.2.2.2.1, .v .bool a0.2.2.2.2.2.1, .v (.sl (.int .i64)) a0.2.2.2.2.2.2] 107]⟩ (tn 3) ?_
        refine spB 36 h (fun h => ?_) (fun h => ?_)
        · refine sG T_ok 2 [1, 33, 36, 38] [0] ⟨[(1, .lf (.ptr 0 0 0 0)), (33, B false), (36, B true), (38, I a0.2.2.2.2.1)], [bx [.v (.int .i64) a0.1, .v .str a0.2.1, .v (.int .i64) a0.2.2.1, .v (.int .i64) a0.2.2.2.1, .v (.int .i64) a0.2.2.2.2.1, .v .bool a0.2.2.2.2.2.1, .v (.sl (.int .i64)) a0.2.2.2.2.2.2] 107]⟩ (tn 2) ?_
          refine VO.on (j := 32) (want := true) (d := 36) (b := true) rfl rfl rfl (by kernel_rfl) rfl ?_
          obtain ⟨y100, hy, h⟩ := andO_some h
          refine cal false [.t (.int .i64), .t (.int .i64), .t (.int .i64)] [] (some 39) T_ok (ok71 N _ _ _ hy) ?_
          refine sN T_ok [1, 42] [0] ⟨[(1, .lf (.ptr 0 0 0 0)), (42, B (!y100))], [bx [.v (.int .i64) a0.1, .v .str a0.2.1, .v (.int .i64) a0.2.2.1, .v (.int .i64) a0.2.2.2.1, .v (.int .i64) a0.2.2.2.2.1, .v .bool a0.2.2.2.2.2.1, .v (.sl (.int .i64)) a0.2.2.2.2.2.2] 107]⟩ (tn 3) ?_
          refine cnd h (fun h => ?_) (fun h => ?_)
          · refine sR T_ok [2] [] ⟨[(2, B false)], []⟩ (tn 1) ?_
            refine VW.ret ?_
            replace h := Option.some.inj h
            subst h
            exact rt []
          refine VW.skip ?_
          exact arv [.ren [1] [0]] ⟨a0.1, a0.2.1, a0.2.2.1, a0.2.2.2.1, a0.2.2.2.2.1, a0.2.2.2.2.2.1, a0.2.2.2.2.2.2, rfl, h⟩
        refine sN T_ok [1, 42] [0] ⟨[(1, .lf (.ptr 0 0 0 0)), (42, B false)], [bx [.v (.int .i64) a0.1, .v .str a0.2.1, .v (.int .i64) a0.2.2.1, .v (.int .i64) a0.2.2.2.1, .v (.int .i64) a0.2.2.2.2.1, .v .bool a0.2.2.2.2.2.1, .v (.sl (.int .i64)) a0.2.2.2.2.2.2] 107]⟩ (tn 6) ?_
        refine VW.cond (b := false) (by kernel_rfl) (fun h' => nomatch h') (fun _ => ?_)
        refine VW.skip ?_
        exact arv [.ren [1] [0]] ⟨a0.1, a0.2.1, a0.2.2.1, a0.2.2.2.1, a0.2.2.2.2.1, a0.2.2.2.2.2.1, a0.2.2.2.2.2.2, rfl, h⟩
      refine sG T_ok 9 [1, 33, 36] [0] ⟨[(1, .lf (.ptr 0 0 0 0)), (33, B false), (36, B a0.2.2.2.2.2.1)], [bx [.v (.int .i64) a0.1, .v .str a0.2.1, .v (.int .i64) a0.2.2.1, .v (.int .i64) a0.2.2.2.1, .v (.int .i64) a0.2.2.2.2.1, .v .bool a0.2.2.2.2.2.1, .v (.sl (.int .i64)) a0.2.2.2.2.2.2] 107]⟩ (tn 9) ?_
      refine spB 36 h (fun h => ?_) (fun h => ?_)
      · refine sG T_ok 2 [1, 33, 36, 38] [0] ⟨[(1, .lf (.ptr 0 0 0 0)), (33, B false), (36, B true), (38, I a0.2.2.2.2.1)], [bx [.v (.int .i64) a0.1, .v .str a0.2.1, .v (.int .i64) a0.2.2.1, .v (.int .i64) a0.2.2.2.1, .v (.int .i64) a0.2.2.2.2.1, .v .bool a0.2.2.2.2.2.1, .v (.sl (.int .i64)) a0.2.2.2.2.2.2] 107]⟩ (tn 2) ?_
        refine VO.on (j := 32) (want := true) (d := 36) (b := true) rfl rfl rfl (by kernel_rfl) rfl ?_
        obtain ⟨y101, hy, h⟩ := andO_some h
        refine cal false [.t (.int .i64), .t (.int .i64), .t (.int .i64)] [] (some 39) T_ok (ok71 N _ _ _ hy) ?_
        refine sN T_ok [1, 42] [0] ⟨[(1, .lf (.ptr 0 0 0 0)), (42, B (!y101))], [bx [.v (.int .i64) a0.1, .v .str a0.2.1, .v (.int .i64) a0.2.2.1, .v (.int .i64) a0.2.2.2.1, .v (.int .i64) a0.2.2.2.2.1, .v .bool a0.2.2.2.2.2.1, .v (.sl (.int .i64)) a0.2.2.2.2.2.2] 107]⟩ (tn 3) ?_
        refine cnd h (fun h => ?_) (fun h => ?_)
        · refine sR T_ok [2] [] ⟨[(2, B false)], []⟩ (tn 1) ?_
          refine VW.ret ?_
          replace h := Option.some.inj h
          subst h
          exact rt []
        refine VW.skip ?_
        exact arv [.ren [1] [0]] ⟨a0.1, a0.2.1, a0.2.2.1, a0.2.2.2.1, a0.2.2.2.2.1, a0.2.2.2.2.2.1, a0.2.2.2.2.2.2, rfl, h⟩
      refine sN T_ok [1, 42] [0] ⟨[(1, .lf (.ptr 0 0 0 0)), (42, B false)], [bx [.v (.int .i64) a0.1, .v .str a0.2.1, .v (.int .i64) a0.2.2.1, .v (.int .i64) a0.2.2.2.1, .v (.int .i64) a0.2.2.2.2.1, .v .bool a0.2.2.2.2.2.1, .v (.sl (.int .i64)) a0.2.2.2.2.2.2] 107]⟩ (tn 6) ?_
      refine VW.cond (b := false) (by kernel_rfl) (fun h' => nomatch h') (fun _ => ?_)
      refine VW.skip ?_
      exact arv [.ren [1] [0]] ⟨a0.1, a0.2.1, a0.2.2.1, a0.2.2.2.1, a0.2.2.2.2.1, a0.2.2.2.2.2.1, a0.2.2.2.2.2.2, rfl, h⟩
    refine sG T_ok 9 [1, 12, 16] [0] ⟨[(1, .lf (.ptr 0 0 0 0)), (12, B false), (16, B (a0.1 != (2 : Int)))], [bx [.v (.int .i64) a0.1, .v .str a0.2.1, .v (.int .i64) a0.2.2.1, .v (.int .i64) a0.2.2.2.1, .v (.int .i64) a0.2.2.2.2.1, .v .bool a0.2.2.2.2.2.1, .v (.sl (.int .i64)) a0.2.2.2.2.2.2] 107]⟩ (tn 9) ?_
    refine spB 16 h (fun h => ?_) (fun h => ?_)
    · refine sG T_ok 7 [1, 23] [0] ⟨[(1, .lf (.ptr 0 0 0 0)), (23, B (decide ((a0.2.2.2.2.2.2.length : Int) > (0 : Int))))], [bx [.v (.int .i64) a0.1, .v .str a0.2.1, .v (.int .i64) a0.2.2.1, .v (.int .i64) a0.2.2.2.1, .v (.int .i64) a0.2.2.2.2.1, .v .bool a0.2.2.2.2.2.1, .v (.sl (.int .i64)) a0.2.2.2.2.2.2] 107]⟩ (tn 7) ?_
      refine spB 23 h (fun h => ?_) (fun h => ?_)
      · refine sN T_ok [1, 42] [0] ⟨[(1, .lf (.ptr 0 0 0 0)), (42, B true)], [bx [.v (.int .i64) a0.1, .v .str a0.2.1, .v (.int .i64) a0.2.2.1, .v (.int .i64) a0.2.2.2.1, .v (.int .i64) a0.2.2.2.2.1, .v .bool a0.2.2.2.2.2.1, .v (.sl (.int .i64)) a0.2.2.2.2.2.2] 107]⟩ (tn 19) ?_
        refine VW.cond (b := true) (by kernel_rfl) (fun _ => ?_) (fun h' => nomatch h')
        refine sR T_ok [2] [] ⟨[(2, B false)], []⟩ (tn 1) ?_
        refine VW.ret ?_
        replace h := Option.some.inj h
        subst h
        exact rt []
      refine sG T_ok 4 [1, 23, 27] [0] ⟨[(1, .lf (.ptr 0 0 0 0)), (23, B false), (27, B (a0.1 != (1 : Int)))], [bx [.v (.int .i64) a0.1, .v .str a0.2.1, .v (.int .i64) a0.2.2.1, .v (.int .i64) a0.2.2.2.1, .v (.int .i64) a0.2.2.2.2.1, .v .bool a0.2.2.2.2.2.1, .v (.sl (.int .i64)) a0.2.2.2.2.2.2] 107]⟩ (tn 4) ?_
      refine spB 27 h (fun h => ?_) (fun h => ?_)
      · refine sG T_ok 6 [1, 33] [0] ⟨[(1, .lf (.ptr 0 0 0 0)), (33, B (a0.2.2.2.1 != (0 : Int)))], [bx [.v (.int .i64) a0.1, .v .str a0.2.1, .v (.int .i64) a0.2.2.1, .v (.int .i64) a0.2.2.2.1, .v (.int .i64) a0.2.2.2.2.1, .v .bool a0.2.2.2.2.2.1, .v (.sl (.int .i64)) a0.2.2.2.2.2.2] 107]⟩ (tn 6) ?_
        refine spB 33 h (fun h => ?_) (fun h => ?_)
        · refine sN T_ok [1, 42] [0] ⟨[(1, .lf (.ptr 0 0 0 0)), (42, B true)], [bx [.v (.int .i64) a0.1, .v .str a0.2.1, .v (.int .i64) a0.2.2.1, .v (.int .i64) a0.2.2.2.1, .v (.int .i64) a0.2.2.2.2.1, .v .bool a0.2.2.2.2.2.1, .v (.sl (.int .i64)) a0.2.2.2.2.2.2] 107]⟩ (tn 9) ?_
          refine VW.cond (b := true) (by kernel_rfl) (fun _ => ?_) (fun h' => nomatch h')
          refine sR T_ok [2] [] ⟨[(2, B false)], []⟩ (tn 1) ?_
          refine VW.ret ?_
          replace h := Option.some.inj h
          subst h
          exact rt []
        refine sG T_ok 3 [1, 33, 36] [0] ⟨[(1, .lf (.ptr 0 0 0 0)), (33, B false), (36, B a0.2.2.2.2.2.1)], [bx [.v (.int .i64) a0.1, .v .str a0.2.1, .v (.int .i64) a0.2.2.1, .v (.int .i64) a0.2.2.2.1, .v (.int .i64) a0.2.2.2.2.1, .v .bool a0.2.2.2.2.2.1, .v (.sl (.int .i64)) a0.2.2.2.2.2.2] 107]⟩ (tn 3) ?_
        refine spB 36 h (fun h => ?_) (fun h => ?_)
        · refine sG T_ok 2 [1, 33, 36, 38] [0] ⟨[(1, .lf (.ptr 0 0 0 0)), (33, B false), (36, B true), (38, I a0.2.2.2.2.1)], [bx [.v (.int .i64) a0.1, .v .str a0.2.1, .v (.int .i64) a0.2.2.1, .v (.int .i64) a0.2.2.2.1, .v (.int .i64) a0.2.2.2.2.1, .v .bool a0.2.2.2.2.2.1, .v (.sl (.int .i64)) a0.2.2.2.2.2.2] 107]⟩ (tn 2) ?_
          refine VO.on (j := 32) (want := true) (d := 36) (b := true) rfl rfl rfl (by kernel_rfl) rfl ?_
          obtain ⟨y102, hy, h⟩ := andO_some h
          refine cal false [.t (.int .i64), .t (.int .i64), .t (.int .i64)] [] (some 39) T_ok (ok71 N _ _ _ hy) ?_
          refine sN T_ok [1, 42] [0] ⟨[(1, .lf (.ptr 0 0 0 0)), (42, B (!y102))], [bx [.v (.int .i64) a0.1, .v .str a0.2.1, .v (.int .i64) a0.2.2.1, .v (.int .i64) a0.2.2.2.1, .v (.int .i64) a0.2.2.2.2.1, .v .bool a0.2.2.2.2.2.1, .v (.sl (.int .i64)) a0.2.2.2.2.2.2] 107]⟩ (tn 3) ?_
          refine cnd h (fun h => ?_) (fun h => ?_)
          · refine sR T_ok [2] [] ⟨[(2, B false)], []⟩ (tn 1) ?_
            refine VW.ret ?_
            replace h := Option.some.inj h
            subst h
            exact rt []
          refine VW.skip ?_
          exact arv [.ren [1] [0]] ⟨a0.1, a0.2.1, a0.2.2.1, a0.2.2.2.1, a0.2.2.2.2.1, a0.2.2.2.2.2.1, a0.2.2.2.2.2.2, rfl, h⟩
        refine sN T_ok [1, 42] [0] ⟨[(1, .lf (.ptr 0 0 0 0)), (42, B false)], [bx [.v (.int .i64) a0.1, .v .str a0.2.1, .v (.int .i64) a0.2.2.1, .v (.int .i64) a0.2.2.2.1, .v (.int .i64) a0.2.2.2.2.1, .v .bool a0.2.2.2.2.2.1, .v (.sl (.int .i64)) a0.2.2.2.2.2.2] 107]⟩ (tn 6) ?_
        refine VW.cond (b := false) (by kernel_rfl) (fun h' => nomatch h') (fun _ => ?_)
        refine VW.skip ?_
        exact arv [.ren [1] [0]] ⟨a0.1, a0.2.1, a0.2.2.1, a0.2.2.2.1, a0.2.2.2.2.1, a0.2.2.2.2.2.1, a0.2.2.2.2.2.2, rfl, h⟩
      refine sG T_ok 9 [1, 33, 36] [0] ⟨[(1, .lf (.ptr 0 0 0 0)), (33, B false), (36, B a0.2.2.2.2.2.1)], [bx [.v (.int .i64) a0.1, .v .str a0.2.1, .v (.int .i64) a0.2.2.1, .v (.int .i64) a0.2.2.2.1, .v (.int .i64) a0.2.2.2.2.1, .v .bool a0.2.2.2.2.2.1, .v (.sl (.int .i64)) a0.2.2.2.2.2.2] 107]⟩ (tn 9) ?_
      refine spB 36 h (fun h => ?_) (fun h => ?_)
      · refine sG T_ok 2 [1, 33, 36, 38] [0] ⟨[(1, .lf (.ptr 0 0 0 0)), (33, B false), (36, B true), (38, I a0.2.2.2.2.1)], [bx [.v (.int .i64) a0.1, .v .str a0.2.1, .v (.int .i64) a0.2.2.1, .v (.int .i64) a0.2.2.2.1, .v (.int .i64) a0.2.2.2.2.1, .v .bool a0.2.2.2.2.2.1, .v (.sl (.int .i64)) a0.2.2.2.2.2.2] 107]⟩ (tn 2) ?_
        refine VO.on (j := 32) (want := true) (d := 36) (b := true) rfl rfl rfl (by kernel_rfl) rfl ?_
        obtain ⟨y103, hy, h⟩ := andO_some h
        refine cal false [.t (.int .i64), .t (.int .i64), .t (.int .i64)] [] (some 39) T_ok (ok71 N _ _ _ hy) ?_
        refine sN T_ok [1, 42] [0] ⟨[(1, .lf (.ptr 0 0 0 0)), (42, B (!y103))], [bx [.v (.int .i64) a0.1, .v .str a0.2.1, .v (.int .i64) a0.2.2.1, .v (.int .i64) a0.2.2.2.1, .v (.int .i64) a0.2.2.2.2.1, .v .bool a0.2.2.2.2.2.1, .v (.sl (.int .i64)) a0.2.2.2.2.2.2] 107]⟩ (tn 3) ?_
        refine cnd h (fun h => ?_) (fun h => ?_)
        · refine sR T_ok [2] [] ⟨[(2, B false)], []⟩ (tn 1) ?_
          refine VW.ret ?_
          replace h := Option.some.inj h
          subst h
          exact rt []
        refine VW.skip ?_
        exact arv [.ren [1] [0]] ⟨a0.1, a0.2.1, a0.2.2.1, a0.2.2.2.1, a0.2.2.2.2.1, a0.2.2.2.2.2.1, a0.2.2.2.2.2.2, rfl, h⟩
      refine sN T_ok [1, 42] [0] ⟨[(1, .lf (.ptr 0 0 0 0)), (42, B false)], [bx [.v (.int .i64) a0.1, .v .str a0.2.1, .v (.int .i64) a0.2.2.1, .v (.int .i64) a0.2.2.2.1, .v (.int .i64) a0.2.2.2.2.1, .v .bool a0.2.2.2.2.2.1, .v (.sl (.int .i64)) a0.2.2.2.2.2.2] 107]⟩ (tn 6) ?_
      refine VW.cond (b := false) (by kernel_rfl) (fun h' => nomatch h') (fun _ => ?_)
      refine VW.skip ?_
      exact arv [.ren [1] [0]] ⟨a0.1, a0.2.1, a0.2.2.1, a0.2.2.2.1, a0.2.2.2.2.1, a0.2.2.2.2.2.1, a0.2.2.2.2.2.2, rfl, h⟩
    refine sG T_ok 11 [1, 23, 27] [0] ⟨[(1, .lf (.ptr 0 0 0 0)), (23, B false), (27, B (a0.1 != (1 : Int)))], [bx [.v (.int .i64) a0.1, .v .str a0.2.1, .v (.int .i64) a0.2.2.1, .v (.int .i64) a0.2.2.2.1, .v (.int .i64) a0.2.2.2.2.1, .v .bool a0.2.2.2.2.2.1, .v (.sl (.int .i64)) a0.2.2.2.2.2.2] 107]⟩ (tn 11) ?_
    refine spB 27 h (fun h => ?_) (fun h => ?_)
    · refine sG T_ok 6 [1, 33] [0] ⟨[(1, .lf (.ptr 0 0 0 0)), (33, B (a0.2.2.2.1 != (0 : Int)))], [bx [.v (.int .i64) a0.1, .v .str a0.2.1, .v (.int .i64) a0.2.2.1, .v (.int .i64) a0.2.2.2.1, .v (.int .i64) a0.2.2.2.2.1, .v .bool a0.2.2.2.2.2.1, .v (.sl (.int .i64)) a0.2.2.2.2.2.2] 107]⟩ (tn 6) ?_
      refine spB 33 h (fun h => ?_) (fun h => ?_)
      · refine sN T_ok [1, 42] [0] ⟨[(1, .lf (.ptr 0 0 0 0)), (42, B true)], [bx [.v (.int .i64) a0.1, .v .str a0.2.1, .v (.int .i64) a0.2.2.1, .v (.int .i64) a0.2.2.2.1, .v (.int .i64) a0.2.2.2.2.1, .v .bool a0.2.2.2.2.2.1, .v (.sl (.int .i64)) a0.2.2.2.2.2.2] 107]⟩ (tn 9) ?_
        refine VW.cond (b := true) (by kernel_rfl) (fun _ => ?_) (fun h' => nomatch h')
        refine sR T_ok [2] [] ⟨[(2, B false)], []⟩ (tn 1) ?_
        refine VW.ret ?_
        replace h := Option.some.inj h
        subst h
        exact rt []
      refine sG T_ok 3 [1, 33, 36] [0] ⟨[(1, .lf (.ptr 0 0 0 0)), (33, B false), (36, B a0.2.2.2.2.2.1)], [bx [.v (.int .i64) a0.1, .v .str a0.2.1, .v (.int .i64) a0.2.2.1, .v (.int .i64) a0.2.2.2.1, .v (.int .i64) a0.2.2.2.2.1, .v .bool a0.2.2.2.2.2.1, .v (.sl (.int .i64)) a0.2.2.2.2.2.2] 107]⟩ (tn 3) ?_
      refine spB 36 h (fun h => ?_) (fun h => ?_)
      · refine sG T_ok 2 [1, 33, 36, 38] [0] ⟨[(1, .lf (.ptr 0 0 0 0)), (33, B false), (36, B true), (38, I a0.2.2.2.2.1)], [bx [.v (.int .i64) a0.1, .v .str a0.2.1, .v (.int .i64) a0.2.2.1, .v (.int .i64) a0.2.2.2.1, .v (.int .i64) a0.2.2.2.2.1, .v .bool a0.2.2.2.2.2.1, .v (.sl (.int .i64)) a0.2.2.2.2.2.2] 107]⟩ (tn 2) ?_
        refine VO.on (j := 32) (want := true) (d := 36) (b := true) rfl rfl rfl (by kernel_rfl) rfl ?_
        obtain ⟨y104, hy, h⟩ := andO_some h
        refine cal false [.t (.int .i64), .t (.int .i64), .t (.int .i64)] [] (some 39) T_ok (ok71 N _ _ _ hy) ?_
        refine sN T_ok [1, 42] [0] ⟨[(1, .lf (.ptr 0 0 0 0)), (42, B (!y104))], [bx [.v (.int .i64) a0.1, .v .str a0.2.1, .v (.int .i64) a0.2.2.1, .v (.int .i64) a0.2.2.2.1, .v (.int .i64) a0.2.2.2.2.1, .v .bool a0.2.2.2.2.2.1, .v (.sl (.int .i64)) a0.2.2.2.2.2.2] 107]⟩ (tn 3) ?_
        refine cnd h (fun h => ?_) (fun h => ?_)
        · refine sR T_ok [2] [] ⟨[(2, B false)], []⟩ (tn 1) ?_
          refine VW.ret ?_
          replace h := Option.some.inj h
          subst h
          exact rt []
        refine VW.skip ?_
        exact arv [.ren [1] [0]] ⟨a0.1, a0.2.1, a0.2.2.1, a0.2.2.2.1, a0.2.2.2.2.1, a0.2.2.2.2.2.1, a0.2.2.2.2.2.2, rfl, h⟩
      refine sN T_ok [1, 42] [0] ⟨[(1, .lf (.ptr 0 0 0 0)), (42, B false)], [bx [.v (.int .i64) a0.1, .v .str a0.2.1, .v (.int .i64) a0.2.2.1, .v (.int .i64) a0.2.2.2.1, .v (.int .i64) a0.2.2.2.2.1, .v .bool a0.2.2.2.2.2.1, .v (.sl (.int .i64)) a0.2.2.2.2.2.2] 107]⟩ (tn 6) ?_
      refine VW.cond (b := false) (by kernel_rfl) (fun h' => nomatch h') (fun _ => ?_)
      refine VW.skip ?_
      exact arv [.ren [1] [0]] ⟨a0.1, a0.2.1, a0.2.2.1, a0.2.2.2.1, a0.2.2.2.2.1, a0.2.2.2.2.2.1, a0.2.2.2.2.2.2, rfl, h⟩
    refine sG T_ok 9 [1, 33, 36] [0] ⟨[(1, .lf (.ptr 0 0 0 0)), (33, B false), (36, B a0.2.2.2.2.2.1)], [bx [.v (.int .i64) a0.1, .v .str a0.2.1, .v (.int .i64) a0.2.2.1, .v (.int .i64) a0.2.2.2.1, .v (.int .i64) a0.2.2.2.2.1, .v .bool a0.2.2.2.2.2.1, .v (.sl (.int .i64)) a0.2.2.2.2.2.2] 107]⟩ (tn 9) ?_
    refine spB 36 h (fun h => ?_) (fun h => ?_)
    · refine sG T_ok 2 [1, 33, 36, 38] [0] ⟨[(1, .lf (.ptr 0 0 0 0)), (33, B false), (36, B true), (38, I a0.2.2.2.2.1)], [bx [.v (.int .i64) a0.1, .v .str a0.2.1, .v (.int .i64) a0.2.2.1, .v (.int .i64) a0.2.2.2.1, .v (.int .i64) a0.2.2.2.2.1, .v .bool a0.2.2.2.2.2.1, .v (.sl (.int .i64)) a0.2.2.2.2.2.2] 107]⟩ (tn 2) ?_
      refine VO.on (j := 32) (want := true) (d := 36) (b := true) rfl rfl rfl (by kernel_rfl) rfl ?_
      obtain ⟨y105, hy, h⟩ := andO_some h
      refine cal false [.t (.int .i64), .t (.int .i64), .t (.int .i64)] [] (some 39) T_ok (ok71 N _ _ _ hy) ?_
      refine sN T_ok [1, 42] [0] ⟨[(1, .lf (.ptr 0 0 0 0)), (42, B (!y105))], [bx [.v (.int .i64) a0.1, .v .str a0.2.1, .v (.int .i64) a0.2.2.1, .v (.int .i64) a0.2.2.2.1, .v (.int .i64) a0.2.2.2.2.1, .v .bool a0.2.2.2.2.2.1, .v (.sl (.int .i64)) a0.2.2.2.2.2.2] 107]⟩ (tn 3) ?_
      refine cnd h (fun h => ?_) (fun h => ?_)
      · refine sR T_ok [2] [] ⟨[(2, B false)], []⟩ (tn 1) ?_
        refine VW.ret ?_
        replace h := Option.some.inj h
        subst h
        exact rt []
      refine VW.skip ?_
      exact arv [.ren [1] [0]] ⟨a0.1, a0.2.1, a0.2.2.1, a0.2.2.2.1, a0.2.2.2.2.1, a0.2.2.2.2.2.1, a0.2.2.2.2.2.2, rfl, h⟩
    refine sN T_ok [1, 42] [0] ⟨[(1, .lf (.ptr 0 0 0 0)), (42, B false)], [bx [.v (.int .i64) a0.1, .v .str a0.2.1, .v (.int .i64) a0.2.2.1, .v (.int .i64) a0.2.2.2.1, .v (.int .i64) a0.2.2.2.2.1, .v .bool a0.2.2.2.2.2.1, .v (.sl (.int .i64)) a0.2.2.2.2.2.2] 107]⟩ (tn 6) ?_
    refine VW.cond (b := false) (by kernel_rfl) (fun h' => nomatch h') (fun _ => ?_)
    refine VW.skip ?_
    exact arv [.ren [1] [0]] ⟨a0.1, a0.2.1, a0.2.2.1, a0.2.2.2.1, a0.2.2.2.2.1, a0.2.2.2.2.2.1, a0.2.2.2.2.2.2, rfl, h⟩
  rintro s ⟨x9, x10, x11, x12, x13, x14, x15, rfl, h⟩
  unfold F144_j3 at h
  refine VW.join (fun s => s = ⟨[], []⟩ ∧ F144_j0 N = some r) ?_ ?_
  · refine sR T_ok [1, 44] [0] ⟨[(1, .lf (.ptr 0 0 0 0)), (44, I x9)], [bx [.v (.int .i64) x9, .v .str x10, .v (.int .i64) x11, .v (.int .i64) x12, .v (.int .i64) x13, .v .bool x14, .v (.sl (.int .i64)) x15] 107]⟩ (tn 2) ?_
    refine VW.block ?_
    refine sR T_ok [1, 44, 45] [0] ⟨[(1, .lf (.ptr 0 0 0 0)), (44, I x9), (45, B (x9 == (0 : Int)))], [bx [.v (.int .i64) x9, .v .str x10, .v (.int .i64) x11, .v (.int .i64) x12, .v (.int .i64) x13, .v .bool x14, .v (.sl (.int .i64)) x15] 107]⟩ (tn 2) ?_
    refine cnd h (fun h => ?_) (fun h => ?_)
    · refine VW.seq ?_
      refine VW.region ?_
      refine sG T_ok 2 [1, 48] [0] ⟨[(1, .lf (.ptr 0 0 0 0)), (48, S x10)], [bx [.v (.int .i64) x9, .v .str x10, .v (.int .i64) x11, .v (.int .i64) x12, .v (.int .i64) x13, .v .bool x14, .v (.sl (.int .i64)) x15] 107]⟩ (tn 2) ?_
      obtain ⟨y57, hy, h⟩ := andO_some h
      refine cal false [.t .str] [] (some 49) T_ok (ok138 N _ hy) ?_
      refine sG T_ok 1 [1, 50] [0] ⟨[(1, .lf (.ptr 0 0 0 0)), (50, B y57)], [bx [.v (.int .i64) x9, .v .str x10, .v (.int .i64) x11, .v (.int .i64) x12, .v (.int .i64) x13, .v .bool x14, .v (.sl (.int .i64)) x15] 107]⟩ (tn 1) ?_
      refine spB 50 h (fun h => ?_) (fun h => ?_)
      · refine sG T_ok 5 [1, 55] [0] ⟨[(1, .lf (.ptr 0 0 0 0)), (55, B (x11 == (0 : Int)))], [bx [.v (.int .i64) x9, .v .str x10, .v (.int .i64) x11, .v (.int .i64) x12, .v (.int .i64) x13, .v .bool x14, .v (.sl (.int .i64)) x15] 107]⟩ (tn 5) ?_
        refine spB 55 h (fun h => ?_) (fun h => ?_)
        · refine sG T_ok 5 [1, 60] [0] ⟨[(1, .lf (.ptr 0 0 0 0)), (60, B (x13 == (0 : Int)))], [bx [.v (.int .i64) x9, .v .str x10, .v (.int .i64) x11, .v (.int .i64) x12, .v (.int .i64) x13, .v .bool x14, .v (.sl (.int .i64)) x15] 107]⟩ (tn 5) ?_
          refine spB 60 h (fun h => ?_) (fun h => ?_)
          · refine sN T_ok [2] [] ⟨[(2, B (!x14))], []⟩ (tn 5) ?_
            refine VW.ret ?_
            replace h := Option.some.inj h
            subst h
            exact rt []
          refine sN T_ok [2] [] ⟨[(2, B false)], []⟩ (tn 5) ?_
          refine VW.ret ?_
          replace h := Option.some.inj h
          subst h
          exact rt []
        refine sN T_ok [2] [] ⟨[(2, B false)], []⟩ (tn 10) ?_
        refine VW.ret ?_
        replace h := Option.some.inj h
        subst h
        exact rt []
      refine sN T_ok [2] [] ⟨[(2, B false)], []⟩ (tn 15) ?_
      refine VW.ret ?_
      replace h := Option.some.inj h
      subst h
      exact rt []
    refine sR T_ok [1, 44, 65] [0] ⟨[(1, .lf (.ptr 0 0 0 0)), (44, I x9), (65, B (x9 == (1 : Int)))], [bx [.v (.int .i64) x9, .v .str x10, .v (.int .i64) x11, .v (.int .i64) x12, .v (.int .i64) x13, .v .bool x14, .v (.sl (.int .i64)) x15] 107]⟩ (tn 2) ?_
    refine cnd h (fun h => ?_) (fun h => ?_)
    · refine VW.seq ?_
      refine VW.region ?_
      refine sG T_ok 2 [1, 68] [0] ⟨[(1, .lf (.ptr 0 0 0 0)), (68, I x11)], [bx [.v (.int .i64) x9, .v .str x10, .v (.int .i64) x11, .v (.int .i64) x12, .v (.int .i64) x13, .v .bool x14, .v (.sl (.int .i64)) x15] 107]⟩ (tn 2) ?_
      obtain ⟨y58, hy, h⟩ := andO_some h
      refine cal false [.t (.int .i64)] [] (some 69) T_ok (ok192 N _ hy) ?_
      refine sG T_ok 1 [1, 70] [0] ⟨[(1, .lf (.ptr 0 0 0 0)), (70, B y58)], [bx [.v (.int .i64) x9, .v .str x10, .v (.int .i64) x11, .v (.int .i64) x12, .v (.int .i64) x13, .v .bool x14, .v (.sl (.int .i64)) x15] 107]⟩ (tn 1) ?_
      refine spB 70 h (fun h => ?_) (fun h => ?_)
      · refine sG T_ok 2 [1, 70, 72] [0] ⟨[(1, .lf (.ptr 0 0 0 0)), (70, B true), (72, I x12)], [bx [.v (.int .i64) x9, .v .str x10, .v (.int .i64) x11, .v (.int .i64) x12, .v (.int .i64) x13, .v .bool x14, .v (.sl (.int .i64)) x15] 107]⟩ (tn 2) ?_
        refine VO.on (j := 3) (want := true) (d := 70) (b := true) rfl rfl rfl (by kernel_rfl) rfl ?_
        obtain ⟨y59, hy, h⟩ := andO_some h
        refine cal false [.t (.int .i64), .t (.int .i64), .t (.int .i64)] [] (some 73) T_ok (ok71 N _ _ _ hy) ?_
        refine sG T_ok 2 [1, 75] [0] ⟨[(1, .lf (.ptr 0 0 0 0)), (75, B y59)], [bx [.v (.int .i64) x9, .v .str x10, .v (.int .i64) x11, .v (.int .i64) x12, .v (.int .i64) x13, .v .bool x14, .v (.sl (.int .i64)) x15] 107]⟩ (tn 2) ?_
        refine spB 75 h (fun h => ?_) (fun h => ?_)
        · refine sG T_ok 2 [1, 75, 77] [0] ⟨[(1, .lf (.ptr 0 0 0 0)), (75, B true), (77, I x13)], [bx [.v (.int .i64) x9, .v .str x10, .v (.int .i64) x11, .v (.int .i64) x12, .v (.int .i64) x13, .v .bool x14, .v (.sl (.int .i64)) x15] 107]⟩ (tn 2) ?_
          refine VO.on (j := 8) (want := true) (d := 75) (b := true) rfl rfl rfl (by kernel_rfl) rfl ?_
          obtain ⟨y60, hy, h⟩ := andO_some h
          refine cal false [.t (.int .i64)] [] (some 78) T_ok (ok156 N _ hy) ?_
          refine sG T_ok 2 [1, 80] [0] ⟨[(1, .lf (.ptr 0 0 0 0)), (80, B y60)], [bx [.v (.int .i64) x9, .v .str x10, .v (.int .i64) x11, .v (.int .i64) x12, .v (.int .i64) x13, .v .bool x14, .v (.sl (.int .i64)) x15] 107]⟩ (tn 2) ?_
          refine spB 80 h (fun h => ?_) (fun h => ?_)
          · refine sG T_ok 4 [1, 80, 84] [0] ⟨[(1, .lf (.ptr 0 0 0 0)), (80, B true), (84, B (x12 != (3 : Int)))], [bx [.v (.int .i64) x9, .v .str x10, .v (.int .i64) x11, .v (.int .i64) x12, .v (.int .i64) x13, .v .bool x14, .v (.sl (.int .i64)) x15] 107]⟩ (tn 4) ?_
            refine spB 84 h (fun h => ?_) (fun h => ?_)
            · refine sN T_ok [2] [] ⟨[(2, B true)], []⟩ (tn 11) ?_
              refine VW.ret ?_
              replace h := Option.some.inj h
              subst h
              exact rt []
            refine sG T_ok 4 [1, 80, 84, 88] [0] ⟨[(1, .lf (.ptr 0 0 0 0)), (80, B true), (84, B false), (88, B (x13 == (0 : Int)))], [bx [.v (.int .i64) x9, .v .str x10, .v (.int .i64) x11, .v (.int .i64) x12, .v (.int .i64) x13, .v .bool x14, .v (.sl (.int .i64)) x15] 107]⟩ (tn 4) ?_
            refine spB 88 h (fun h => ?_) (fun h => ?_)
            · refine sN T_ok [2] [] ⟨[(2, B (!x14))], []⟩ (tn 7) ?_
              refine VW.ret ?_
              replace h := Option.some.inj h
              subst h
              exact rt []
            refine sN T_ok [2] [] ⟨[(2, B false)], []⟩ (tn 7) ?_
            refine VW.ret ?_
            replace h := Option.some.inj h
            subst h
            exact rt []
          refine sN T_ok [2] [] ⟨[(2, B false)], []⟩ (tn 15) ?_
          refine VW.ret ?_
          replace h := Option.some.inj h
          subst h
          exact rt []
        refine sN T_ok [2] [] ⟨[(2, B false)], []⟩ (tn 20) ?_
        refine VW.ret ?_
        replace h := Option.some.inj h
        subst h
        exact rt []
      refine sN T_ok [2] [] ⟨[(2, B false)], []⟩ (tn 25) ?_
      refine VW.ret ?_
      replace h := Option.some.inj h
      subst h
      exact rt []
    refine sR T_ok [1, 44, 95] [0] ⟨[(1, .lf (.ptr 0 0 0 0)), (44, I x9), (95, B (x9 == (2 : Int)))], [bx [.v (.int .i64) x9, .v .str x10, .v (.int .i64) x11, .v (.int .i64) x12, .v (.int .i64) x13, .v .bool x14, .v (.sl (.int .i64)) x15] 107]⟩ (tn 2) ?_
    refine cnd h (fun h => ?_) (fun h => ?_)
    · refine VW.join (fun s => s = ⟨[(1, .lf (.ptr 0 0 0 0))], [bx [.v (.int .i64) x9, .v .str x10, .v (.int .i64) x11, .v (.int .i64) x12, .v (.int .i64) x13, .v .bool x14, .v (.sl (.int .i64)) x15] 107]⟩ ∧ F144_j1 N x11 x13 x14 x15 = some r) ?_ ?_
      · refine sR T_ok [1, 3] [0] ⟨[(1, .lf (.ptr 0 0 0 0)), (3, I (0 : Int))], [bx [.v (.int .i64) x9, .v .str x10, .v (.int .i64) x11, .v (.int .i64) x12, .v (.int .i64) x13, .v .bool x14, .v (.sl (.int .i64)) x15] 107]⟩ (tn 1) ?_
        refine VW.block ?_
        refine lop (fun k s => ∃ (x81 : Int), s = ⟨[(1, .lf (.ptr 0 0 0 0)), (3, I x81)], [bx [.v (.int .i64) x9, .v .str x10, .v (.int .i64) x11, .v (.int .i64) x12, .v (.int .i64) x13, .v .bool x14, .v (.sl (.int .i64)) x15] 107]⟩ ∧ F144_l0 N x11 x13 x14 x15 k x81 = some r) N [.ren [1, 3] [0]] ⟨(0 : Int), rfl, h⟩ ?_
        rintro k86 s ⟨x81, rfl, h⟩
        cases k86 with
        | zero => cases show none = some r from h
        | succ k86 =>
          replace h : F144_l0_b N x11 x13 x14 x15 (F144_l0 N x11 x13 x14 x15 k86) x81 = some r := h
          unfold F144_l0_b at h
          refine VW.seq ?_
          refine sR T_ok [1, 3, 101] [0] ⟨[(1, .lf (.ptr 0 0 0 0)), (3, I x81), (101, B (decide (x81 < (x15.length : Int))))], [bx [.v (.int .i64) x9, .v .str x10, .v (.int .i64) x11, .v (.int .i64) x12, .v (.int .i64) x13, .v .bool x14, .v (.sl (.int .i64)) x15] 107]⟩ (tn 5) ?_
          refine cnd h (fun h => ?_) (fun h => ?_)
          · refine VW.skip ?_
            refine VW.seq ?_
            refine VW.block ?_
            refine VW.seq ?_
            refine VW.region ?_
            obtain ⟨g89, h⟩ := gd_some h
            refine sG T_ok 5 [1, 3, 108] [0] ⟨[(1, .lf (.ptr 0 0 0 0)), (3, I x81), (108, I (x15.getD x81.toNat (Ty.dflt (.int .i64))))], [bx [.v (.int .i64) x9, .v .str x10, .v (.int .i64) x11, .v (.int .i64) x12, .v (.int .i64) x13, .v .bool x14, .v (.sl (.int .i64)) x15] 107]⟩ (pu 3 (an g89 (tn 1))) ?_
            obtain ⟨y90, hy, h⟩ := andO_some h
            refine cal false [.t (.int .i64)] [] (some 109) T_ok (ok192 N _ hy) ?_
            refine sN T_ok [1, 3, 110] [0] ⟨[(1, .lf (.ptr 0 0 0 0)), (3, I x81), (110, B (!y90))], [bx [.v (.int .i64) x9, .v .str x10, .v (.int .i64) x11, .v (.int .i64) x12, .v (.int .i64) x13, .v .bool x14, .v (.sl (.int .i64)) x15] 107]⟩ (tn 1) ?_
            refine cnd h (fun h => ?_) (fun h => ?_)
            · refine sR T_ok [2] [] ⟨[(2, B false)], []⟩ (tn 1) ?_
              refine VW.ret ?_
              replace h := Option.some.inj h
              subst h
              exact rt []
            refine VW.skip ?_
            refine rR T_ok [1, 3] [0] ⟨[(1, .lf (.ptr 0 0 0 0)), (3, I (IntKind.i64.wrap (x81 + (1 : Int))))], [bx [.v (.int .i64) x9, .v .str x10, .v (.int .i64) x11, .v (.int .i64) x12, .v (.int .i64) x13, .v .bool x14, .v (.sl (.int .i64)) x15] 107]⟩ (tn 3) ?_
            exact aro [.ren [1, 3] [0]] ⟨(IntKind.i64.wrap (x81 + (1 : Int))), rfl, h⟩
          refine VW.exit ?_
          exact arv [.ren [1] [0]] ⟨rfl, h⟩
      rintro s ⟨rfl, h⟩
      unfold F144_j1 at h
      refine VW.seq ?_
      refine VW.region ?_
      refine sG T_ok 3 [1, 113] [0] ⟨[(1, .lf (.ptr 0 0 0 0)), (113, I (x15.length : Int))], [bx [.v (.int .i64) x9, .v .str x10, .v (.int .i64) x11, .v (.int .i64) x12, .v (.int .i64) x13, .v .bool x14, .v (.sl (.int .i64)) x15] 107]⟩ (tn 3) ?_
      obtain ⟨y75, hy, h⟩ := andO_some h
      refine cal false [.t (.int .i64), .t (.int .i64), .t (.int .i64)] [] (some 114) T_ok (ok71 N _ _ _ hy) ?_
      refine sG T_ok 1 [1, 115] [0] ⟨[(1, .lf (.ptr 0 0 0 0)), (115, B y75)], [bx [.v (.int .i64) x9, .v .str x10, .v (.int .i64) x11, .v (.int .i64) x12, .v (.int .i64) x13, .v .bool x14, .v (.sl (.int .i64)) x15] 107]⟩ (tn 1) ?_
      refine spB 115 h (fun h => ?_) (fun h => ?_)
      · refine sG T_ok 5 [1, 120] [0] ⟨[(1, .lf (.ptr 0 0 0 0)), (120, B (x11 == (0 : Int)))], [bx [.v (.int .i64) x9, .v .str x10, .v (.int .i64) x11, .v (.int .i64) x12, .v (.int .i64) x13, .v .bool x14, .v (.sl (.int .i64)) x15] 107]⟩ (tn 5) ?_
        refine spB 120 h (fun h => ?_) (fun h => ?_)
        · refine sG T_ok 5 [1, 125] [0] ⟨[(1, .lf (.ptr 0 0 0 0)), (125, B (x13 == (0 : Int)))], [bx [.v (.int .i64) x9, .v .str x10, .v (.int .i64) x11, .v (.int .i64) x12, .v (.int .i64) x13, .v .bool x14, .v (.sl (.int .i64)) x15] 107]⟩ (tn 5) ?_
          refine spB 125 h (fun h => ?_) (fun h => ?_)
          · refine sN T_ok [2] [] ⟨[(2, B (!x14))], []⟩ (tn 5) ?_
            refine VW.ret ?_
            replace h := Option.some.inj h
            subst h
            exact rt []
          refine sN T_ok [2] [] ⟨[(2, B false)], []⟩ (tn 5) ?_
          refine VW.ret ?_
          replace h := Option.some.inj h
          subst h
          exact rt []
        refine sN T_ok [2] [] ⟨[(2, B false)], []⟩ (tn 10) ?_
        refine VW.ret ?_
        replace h := Option.some.inj h
        subst h
        exact rt []
      refine sN T_ok [2] [] ⟨[(2, B false)], []⟩ (tn 15) ?_
      refine VW.ret ?_
      replace h := Option.some.inj h
      subst h
      exact rt []
    refine sR T_ok [1, 44, 130] [0] ⟨[(1, .lf (.ptr 0 0 0 0)), (44, I x9), (130, B (x9 == (3 : Int)))], [bx [.v (.int .i64) x9, .v .str x10, .v (.int .i64) x11, .v (.int .i64) x12, .v (.int .i64) x13, .v .bool x14, .v (.sl (.int .i64)) x15] 107]⟩ (tn 2) ?_
    refine cnd h (fun h => ?_) (fun h => ?_)
    · refine VW.seq ?_
      refine VW.region ?_
      refine sG T_ok 2 [1, 133] [0] ⟨[(1, .lf (.ptr 0 0 0 0)), (133, I x11)], [bx [.v (.int .i64) x9, .v .str x10, .v (.int .i64) x11, .v (.int .i64) x12, .v (.int .i64) x13, .v .bool x14, .v (.sl (.int .i64)) x15] 107]⟩ (tn 2) ?_
      obtain ⟨y91, hy, h⟩ := andO_some h
      refine cal false [.t (.int .i64)] [] (some 134) T_ok (ok192 N _ hy) ?_
      refine sG T_ok 1 [1, 135] [0] ⟨[(1, .lf (.ptr 0 0 0 0)), (135, B y91)], [bx [.v (.int .i64) x9, .v .str x10, .v (.int .i64) x11, .v (.int .i64) x12, .v (.int .i64) x13, .v .bool x14, .v (.sl (.int .i64)) x15] 107]⟩ (tn 1) ?_
      refine spB 135 h (fun h => ?_) (fun h => ?_)
      · refine sG T_ok 2 [1, 135, 137] [0] ⟨[(1, .lf (.ptr 0 0 0 0)), (135, B true), (137, I x13)], [bx [.v (.int .i64) x9, .v .str x10, .v (.int .i64) x11, .v (.int .i64) x12, .v (.int .i64) x13, .v .bool x14, .v (.sl (.int .i64)) x15] 107]⟩ (tn 2) ?_
        refine VO.on (j := 3) (want := true) (d := 135) (b := true) rfl rfl rfl (by kernel_rfl) rfl ?_
        obtain ⟨y92, hy, h⟩ := andO_some h
        refine cal false [.t (.int .i64)] [] (some 138) T_ok (ok192 N _ hy) ?_
        refine sG T_ok 2 [1, 140] [0] ⟨[(1, .lf (.ptr 0 0 0 0)), (140, B y92)], [bx [.v (.int .i64) x9, .v .str x10, .v (.int .i64) x11, .v (.int .i64) x12, .v (.int .i64) x13, .v .bool x14, .v (.sl (.int .i64)) x15] 107]⟩ (tn 2) ?_
        refine spB 140 h (fun h => ?_) (fun h => ?_)
        · refine sN T_ok [2] [] ⟨[(2, B (!x14))], []⟩ (tn 5) ?_
          refine VW.ret ?_
          replace h := Option.some.inj h
          subst h
          exact rt []
        refine sN T_ok [2] [] ⟨[(2, B false)], []⟩ (tn 5) ?_
        refine VW.ret ?_
        replace h := Option.some.inj h
        subst h
        exact rt []
      refine sN T_ok [2] [] ⟨[(2, B false)], []⟩ (tn 10) ?_
      refine VW.ret ?_
      replace h := Option.some.inj h
      subst h
      exact rt []
    refine sR T_ok [1, 44, 145] [0] ⟨[(1, .lf (.ptr 0 0 0 0)), (44, I x9), (145, B (x9 == (5 : Int)))], [bx [.v (.int .i64) x9, .v .str x10, .v (.int .i64) x11, .v (.int .i64) x12, .v (.int .i64) x13, .v .bool x14, .v (.sl (.int .i64)) x15] 107]⟩ (tn 2) ?_
    refine cnd h (fun h => ?_) (fun h => ?_)
    · refine VW.seq ?_
      refine VW.region ?_
      refine sG T_ok 2 [1, 148] [0] ⟨[(1, .lf (.ptr 0 0 0 0)), (148, I x11)], [bx [.v (.int .i64) x9, .v .str x10, .v (.int .i64) x11, .v (.int .i64) x12, .v (.int .i64) x13, .v .bool x14, .v (.sl (.int .i64)) x15] 107]⟩ (tn 2) ?_
      obtain ⟨y93, hy, h⟩ := andO_some h
      refine cal false [.t (.int .i64)] [] (some 149) T_ok (ok192 N _ hy) ?_
      refine sG T_ok 1 [1, 150] [0] ⟨[(1, .lf (.ptr 0 0 0 0)), (150, B y93)], [bx [.v (.int .i64) x9, .v .str x10, .v (.int .i64) x11, .v (.int .i64) x12, .v (.int .i64) x13, .v .bool x14, .v (.sl (.int .i64)) x15] 107]⟩ (tn 1) ?_
      refine spB 150 h (fun h => ?_) (fun h => ?_)
      · refine sG T_ok 5 [1, 155] [0] ⟨[(1, .lf (.ptr 0 0 0 0)), (155, B (x13 == (0 : Int)))], [bx [.v (.int .i64) x9, .v .str x10, .v (.int .i64) x11, .v (.int .i64) x12, .v (.int .i64) x13, .v .bool x14, .v (.sl (.int .i64)) x15] 107]⟩ (tn 5) ?_
        refine spB 155 h (fun h => ?_) (fun h => ?_)
        · refine sN T_ok [2] [] ⟨[(2, B (!x14))], []⟩ (tn 5) ?_
          refine VW.ret ?_
          replace h := Option.some.inj h
          subst h
          exact rt []
        refine sN T_ok [2] [] ⟨[(2, B false)], []⟩ (tn 5) ?_
        refine VW.ret ?_
        replace h := Option.some.inj h
        subst h
        exact rt []
      refine sN T_ok [2] [] ⟨[(2, B false)], []⟩ (tn 10) ?_
      refine VW.ret ?_
      replace h := Option.some.inj h
      subst h
      exact rt []
    refine sR T_ok [1, 44, 160] [0] ⟨[(1, .lf (.ptr 0 0 0 0)), (44, I x9), (160, B (x9 == (6 : Int)))], [bx [.v (.int .i64) x9, .v .str x10, .v (.int .i64) x11, .v (.int .i64) x12, .v (.int .i64) x13, .v .bool x14, .v (.sl (.int .i64)) x15] 107]⟩ (tn 2) ?_
    refine cnd h (fun h => ?_) (fun h => ?_)
    · refine VW.seq ?_
      refine VW.region ?_
      refine sG T_ok 4 [1, 165] [0] ⟨[(1, .lf (.ptr 0 0 0 0)), (165, B (x11 == (0 : Int)))], [bx [.v (.int .i64) x9, .v .str x10, .v (.int .i64) x11, .v (.int .i64) x12, .v (.int .i64) x13, .v .bool x14, .v (.sl (.int .i64)) x15] 107]⟩ (tn 4) ?_
      refine spB 165 h (fun h => ?_) (fun h => ?_)
      · refine sG T_ok 2 [165, 167] [] ⟨[(165, B true), (167, I x13)], []⟩ (tn 2) ?_
        refine VO.on (j := 3) (want := true) (d := 165) (b := true) rfl rfl rfl (by kernel_rfl) rfl ?_
        obtain ⟨y94, hy, h⟩ := andO_some h
        refine cal false [.t (.int .i64), .t (.int .i64), .t (.int .i64)] [] (some 168) T_ok (ok71 N _ _ _ hy) ?_
        refine sN T_ok [2] [] ⟨[(2, B y94)], []⟩ (tn 2) ?_
        refine VW.ret ?_
        replace h := Option.some.inj h
        subst h
        exact rt []
      refine sN T_ok [2] [] ⟨[(2, B false)], []⟩ (tn 5) ?_
      refine VW.ret ?_
      replace h := Option.some.inj h
      subst h
      exact rt []
    refine VW.join (fun s => ∃ (x95 : Bool), s = ⟨[(1, .lf (.ptr 0 0 0 0)), (170, B x95)], [bx [.v (.int .i64) x9, .v .str x10, .v (.int .i64) x11, .v (.int .i64) x12, .v (.int .i64) x13, .v .bool x14, .v (.sl (.int .i64)) x15] 107]⟩ ∧ F144_j2 N x11 x13 x14 x95 = some r) ?_ ?_
    · refine sR T_ok [1, 44, 170] [0] ⟨[(1, .lf (.ptr 0 0 0 0)), (44, I x9), (170, B (x9 == (4 : Int)))], [bx [.v (.int .i64) x9, .v .str x10, .v (.int .i64) x11, .v (.int .i64) x12, .v (.int .i64) x13, .v .bool x14, .v (.sl (.int .i64)) x15] 107]⟩ (tn 2) ?_
      refine cnd h (fun h => ?_) (fun h => ?_)
      · refine VW.skip ?_
        exact arv [.ren [1, 170] [0]] ⟨(x9 == (4 : Int)), rfl, h⟩
      refine rR T_ok [1, 170] [0] ⟨[(1, .lf (.ptr 0 0 0 0)), (170, B (x9 == (7 : Int)))], [bx [.v (.int .i64) x9, .v .str x10, .v (.int .i64) x11, .v (.int .i64) x12, .v (.int .i64) x13, .v .bool x14, .v (.sl (.int .i64)) x15] 107]⟩ (tn 2) ?_
      exact arv [.ren [1, 170] [0]] ⟨(x9 == (7 : Int)), rfl, h⟩
    rintro s ⟨x95, rfl, h⟩
    unfold F144_j2 at h
    refine cnd h (fun h => ?_) (fun h => ?_)
    · refine VW.seq ?_
      refine VW.region ?_
      refine sG T_ok 4 [1, 176] [0] ⟨[(1, .lf (.ptr 0 0 0 0)), (176, B (x11 == (0 : Int)))], [bx [.v (.int .i64) x9, .v .str x10, .v (.int .i64) x11, .v (.int .i64) x12, .v (.int .i64) x13, .v .bool x14, .v (.sl (.int .i64)) x15] 107]⟩ (tn 4) ?_
      refine spB 176 h (fun h => ?_) (fun h => ?_)
      · refine sG T_ok 5 [1, 181] [0] ⟨[(1, .lf (.ptr 0 0 0 0)), (181, B (x13 == (0 : Int)))], [bx [.v (.int .i64) x9, .v .str x10, .v (.int .i64) x11, .v (.int .i64) x12, .v (.int .i64) x13, .v .bool x14, .v (.sl (.int .i64)) x15] 107]⟩ (tn 5) ?_
        refine spB 181 h (fun h => ?_) (fun h => ?_)
        · refine sN T_ok [2] [] ⟨[(2, B (!x14))], []⟩ (tn 5) ?_
          refine VW.ret ?_
          replace h := Option.some.inj h
          subst h
          exact rt []
        refine sN T_ok [2] [] ⟨[(2, B false)], []⟩ (tn 5) ?_
        refine VW.ret ?_
        replace h := Option.some.inj h
        subst h
        exact rt []
      refine sN T_ok [2] [] ⟨[(2, B false)], []⟩ (tn 10) ?_
      refine VW.ret ?_
      replace h := Option.some.inj h
      subst h
      exact rt []
    refine VW.skip ?_
    exact arv [.ren [] []] ⟨rfl, h⟩
  rintro s ⟨rfl, h⟩
  unfold F144_j0 at h
  refine sR T_ok [2] [] ⟨[(2, B false)], []⟩ (tn 1) ?_
  refine VW.ret ?_
  replace h := Option.some.inj h
  subst h
  exact rt []

/- loop.example/g00844/spec.PlanOk -/
def F86_j0 (N : Nat) (a0 : (List (Int × (ByteArray × (Int × (Int × (Int × (Bool × (List Int))))))))) : Option (Bool) :=
  andO (F112 N a0 (0 : Int) (10 : Int)) fun y17 => some (y17.1 == (a0.length : Int))
def F86_l0_b (N : Nat) (a0 : (List (Int × (ByteArray × (Int × (Int × (Int × (Bool × (List Int))))))))) (nx28 : Int → Option (Bool)) (x23 : Int) : Option (Bool) :=
  cond (decide (x23 < (a0.length : Int))) (gd (InR x23 a0.length) (andO (F144 N (a0.getD x23.toNat (Ty.dflt Y105))) fun y32 => cond (!y32) (some false) (nx28 (IntKind.i64.wrap (x23 + (1 : Int)))))) (F86_j0 N a0)
def F86_l0 (N : Nat) (a0 : (List (Int × (ByteArray × (Int × (Int × (Int × (Bool × (List Int))))))))) : Nat → Int → Option (Bool) := loopF (F86_l0_b N a0) (fun _ => none)
theorem F86_l0_s (N : Nat) (a0 : (List (Int × (ByteArray × (Int × (Int × (Int × (Bool × (List Int))))))))) {k : Nat} (hk : 0 < k) (x23 : Int) : F86_l0 N a0 k x23 = F86_l0_b N a0 (F86_l0 N a0 (k - 1)) x23 := by
  cases k with
  | zero => exact absurd hk (Nat.lt_irrefl 0)
  | succ m => rfl
def F86 (N : Nat) (a0 : (List (Int × (ByteArray × (Int × (Int × (Int × (Bool × (List Int))))))))) : Option (Bool) :=
  andO (F71 N (a0.length : Int) (1 : Int) (40 : Int)) fun y2 => cond (!y2) (some false) (F86_l0 N a0 N (0 : Int))
theorem ok86 (N : Nat) (a0 : (List (Int × (ByteArray × (Int × (Int × (Int × (Bool × (List Int))))))))) {r : Bool} (h : F86 N a0 = some r) : Con Go.Proofs.Try.prog 86 [.lf (.v (.sl Y105) a0)] [.lf (.v .bool r)] := by
  refine ctr [.lf (.v .bool)] T_ok Go.Proofs.Try.func86 rfl fun w0 E0 ht => ?_
  unfold F86 at h
  show VW _ _ _ _ _ (retQ _ _ _ _) _
  refine sR T_ok [0] [] ⟨[(0, .lf (.v (.sl Y105) a0))], []⟩ (tn 1) ?_
  refine VW.seq ?_
  refine VW.seq ?_
  refine VW.region ?_
  refine sG T_ok 2 [0, 7] [] ⟨[(0, .lf (.v (.sl Y105) a0)), (7, I (a0.length : Int))], []⟩ (tn 2) ?_
  obtain ⟨y2, hy, h⟩ := andO_some h
  refine cal false [.t (.int .i64), .t (.int .i64), .t (.int .i64)] [] (some 8) T_ok (ok71 N _ _ _ hy) ?_
  refine sN T_ok [0, 9] [] ⟨[(0, .lf (.v (.sl Y105) a0)), (9, B (!y2))], []⟩ (tn 1) ?_
  refine cnd h (fun h => ?_) (fun h => ?_)
  · refine sR T_ok [2] [] ⟨[(2, B false)], []⟩ (tn 1) ?_
    refine VW.ret ?_
    replace h := Option.some.inj h
    subst h
    exact rt []
  refine VW.skip ?_
  refine VW.join (fun s => s = ⟨[(0, .lf (.v (.sl Y105) a0))], []⟩ ∧ F86_j0 N a0 = some r) ?_ ?_
  · refine sR T_ok [0, 3] [] ⟨[(0, .lf (.v (.sl Y105) a0)), (3, I (0 : Int))], []⟩ (tn 1) ?_
    refine VW.block ?_
    refine lop (fun k s => ∃ (x23 : Int), s = ⟨[(0, .lf (.v (.sl Y105) a0)), (3, I x23)], []⟩ ∧ F86_l0 N a0 k x23 = some r) N [.ren [0, 3] []] ⟨(0 : Int), rfl, h⟩ ?_
    rintro k28 s ⟨x23, rfl, h⟩
    cases k28 with
    | zero => cases show none = some r from h
    | succ k28 =>
      replace h : F86_l0_b N a0 (F86_l0 N a0 k28) x23 = some r := h
      unfold F86_l0_b at h
      refine VW.seq ?_
      refine sR T_ok [0, 3, 13] [] ⟨[(0, .lf (.v (.sl Y105) a0)), (3, I x23), (13, B (decide (x23 < (a0.length : Int))))], []⟩ (tn 4) ?_
      refine cnd h (fun h => ?_) (fun h => ?_)
      · refine VW.skip ?_
        refine VW.seq ?_
        refine VW.block ?_
        refine VW.seq ?_
        refine VW.region ?_
        obtain ⟨g31, h⟩ := gd_some h
        refine sG T_ok 4 [0, 3, 19] [] ⟨[(0, .lf (.v (.sl Y105) a0)), (3, I x23), (19, .agg [.v (.int .i64) ((a0.getD x23.toNat (Ty.dflt Y105)).1), .v .str ((a0.getD x23.toNat (Ty.dflt Y105)).2.1), .v (.int .i64) ((a0.getD x23.toNat (Ty.dflt Y105)).2.2.1), .v (.int .i64) ((a0.getD x23.toNat (Ty.dflt Y105)).2.2.2.1), .v (.int .i64) ((a0.getD x23.toNat (Ty.dflt Y105)).2.2.2.2.1), .v .bool ((a0.getD x23.toNat (Ty.dflt Y105)).2.2.2.2.2.1), .v (.sl (.int .i64)) ((a0.getD x23.toNat (Ty.dflt Y105)).2.2.2.2.2.2)])], []⟩ (pu 2 (an g31 (tn 1))) ?_
        obtain ⟨y32, hy, h⟩ := andO_some h
        refine cal false [.t Y105] [] (some 20) T_ok (ok144 N _ hy) ?_
        refine sN T_ok [0, 3, 21] [] ⟨[(0, .lf (.v (.sl Y105) a0)), (3, I x23), (21, B (!y32))], []⟩ (tn 1) ?_
        refine cnd h (fun h => ?_) (fun h => ?_)
        · refine sR T_ok [2] [] ⟨[(2, B false)], []⟩ (tn 1) ?_
          refine VW.ret ?_
          replace h := Option.some.inj h
          subst h
          exact rt []
        refine VW.skip ?_
        refine rR T_ok [0, 3] [] ⟨[(0, .lf (.v (.sl Y105) a0)), (3, I (IntKind.i64.wrap (x23 + (1 : Int))))], []⟩ (tn 3) ?_
        exact aro [.ren [0, 3] []] ⟨(IntKind.i64.wrap (x23 + (1 : Int))), rfl, h⟩
      refine VW.exit ?_
      exact arv [.ren [0] []] ⟨rfl, h⟩
  rintro s ⟨rfl, h⟩
  unfold F86_j0 at h
  refine VW.seq ?_
  refine VW.region ?_
  refine sG T_ok 1 [0, 23] [] ⟨[(0, .lf (.v (.sl Y105) a0)), (23, .lf (.v (.sl Y105) a0))], []⟩ (tn 1) ?_
  obtain ⟨y17, hy, h⟩ := andO_some h
  refine cal false [.t (.sl Y105), .t (.int .i64), .t (.int .i64)] [] (some 24) T_ok (ok112 N _ _ _ hy) ?_
  refine sN T_ok [0, 4] [] ⟨[(0, .lf (.v (.sl Y105) a0)), (4, I y17.1)], []⟩ (tn 5) ?_
  refine sR T_ok [2] [] ⟨[(2, B (y17.1 == (a0.length : Int)))], []⟩ (tn 5) ?_
  refine VW.ret ?_
  replace h := Option.some.inj h
  subst h
  exact rt []

/- loop.example/g00844/laws.toIntS -/
def F143_j0 (N : Nat) (x24 : (List Int)) : Option ((List Int)) :=
  some x24
def F143_l0_b (N : Nat) (a0 : (List Int)) (nx41 : (List Int) → Int → Option ((List Int))) (x33 : (List Int)) (x34 : Int) : Option ((List Int)) :=
  cond (decide (x34 < (a0.length : Int))) (gd (InR x34 a0.length) (gd (InR x34 x33.length) (gd (x34.toNat < x33.length) (nx41 (x33.set x34.toNat (a0.getD x34.toNat (Ty.dflt (.int .i64)))) (IntKind.i64.wrap (x34 + (1 : Int))))))) (F143_j0 N x33)
def F143_l0 (N : Nat) (a0 : (List Int)) : Nat → (List Int) → Int → Option ((List Int)) := loopF (F143_l0_b N a0) (fun _ _ => none)
theorem F143_l0_s (N : Nat) (a0 : (List Int)) {k : Nat} (hk : 0 < k) (x33 : (List Int)) (x34 : Int) : F143_l0 N a0 k x33 x34 = F143_l0_b N a0 (F143_l0 N a0 (k - 1)) x33 x34 := by
  cases k with
  | zero => exact absurd hk (Nat.lt_irrefl 0)
  | succ m => rfl
def F143 (N : Nat) (a0 : (List Int)) : Option ((List Int)) :=
  gd (0 ≤ (a0.length : Int) ∧ (a0.length : Int) ≤ (lim (.int .i64) : Int) ∧ (a0.length : Int) = (a0.length : Int)) (F143_l0 N a0 N (List.replicate (a0.length : Int).toNat (Ty.dflt (.int .i64))) (0 : Int))
theorem ok143 (N : Nat) (a0 : (List Int)) {r : (List Int)} (h : F143 N a0 = some r) : Con Go.Proofs.Try.prog 143 [.lf (.v (.sl (.int .i64)) a0)] [.lf (.own (.int .i64) r .dp)] := by
  refine ctr [.lf (.own (.int .i64) .dp)] T_ok Go.Proofs.Try.func143 rfl fun w0 E0 ht => ?_
  unfold F143 at h
  show VW _ _ _ _ _ (retQ _ _ _ _) _
  refine sR T_ok [0] [] ⟨[(0, .lf (.v (.sl (.int .i64)) a0))], []⟩ (tn 1) ?_
  obtain ⟨g1, h⟩ := gd_some h
  refine sR T_ok [0, 3] [0] ⟨[(0, .lf (.v (.sl (.int .i64)) a0)), (3, .lf (.hd 0 0 none))], [ar 0 (.int .i64) (List.replicate (a0.length : Int).toNat (Ty.dflt (.int .i64))) .dp]⟩ (pu 2 (an g1 (tn 1))) ?_
  refine VW.join (fun s => ∃ (x24 : (List Int)), s = ⟨[(3, .lf (.hd 0 0 none))], [ar 0 (.int .i64) x24 .dp]⟩ ∧ F143_j0 N x24 = some r) ?_ ?_
  · refine sR T_ok [0, 3, 4] [0] ⟨[(0, .lf (.v (.sl (.int .i64)) a0)), (3, .lf (.hd 0 0 none)), (4, I (0 : Int))], [ar 0 (.int .i64) (List.replicate (a0.length : Int).toNat (Ty.dflt (.int .i64))) .dp]⟩ (tn 1) ?_
    refine VW.block ?_
    refine lop (fun k s => ∃ (x33 : (List Int)) (x34 : Int), s = ⟨[(0, .lf (.v (.sl (.int .i64)) a0)), (3, .lf (.hd 0 0 none)), (4, I x34)], [ar 0 (.int .i64) x33 .dp]⟩ ∧ F143_l0 N a0 k x33 x34 = some r) N [.ren [0, 3, 4] [0]] ⟨(List.replicate (a0.length : Int).toNat (Ty.dflt (.int .i64))), (0 : Int), rfl, h⟩ ?_
    rintro k41 s ⟨x33, x34, rfl, h⟩
    cases k41 with
    | zero => cases show none = some r from h
    | succ k41 =>
      replace h : F143_l0_b N a0 (F143_l0 N a0 k41) x33 x34 = some r := h
      unfold F143_l0_b at h
      refine VW.seq ?_
      refine sR T_ok [0, 3, 4, 11] [0] ⟨[(0, .lf (.v (.sl (.int .i64)) a0)), (3, .lf (.hd 0 0 none)), (4, I x34), (11, B (decide (x34 < (a0.length : Int))))], [ar 0 (.int .i64) x33 .dp]⟩ (tn 4) ?_
      refine cnd h (fun h => ?_) (fun h => ?_)
      · refine VW.skip ?_
        refine VW.seq ?_
        refine VW.block ?_
        obtain ⟨g45, h⟩ := gd_some h
        obtain ⟨g46, h⟩ := gd_some h
        obtain ⟨g47, h⟩ := gd_some h
        refine rR T_ok [0, 3, 4] [0] ⟨[(0, .lf (.v (.sl (.int .i64)) a0)), (3, .lf (.hd 0 0 none)), (4, I x34)], [ar 0 (.int .i64) (x33.set x34.toNat (a0.getD x34.toNat (Ty.dflt (.int .i64)))) .dp]⟩ (pu 4 (an g45 (pu 1 (an g46 (an g47 (tn 0)))))) ?_
        refine rR T_ok [0, 3, 4] [0] ⟨[(0, .lf (.v (.sl (.int .i64)) a0)), (3, .lf (.hd 0 0 none)), (4, I (IntKind.i64.wrap (x34 + (1 : Int))))], [ar 0 (.int .i64) (x33.set x34.toNat (a0.getD x34.toNat (Ty.dflt (.int .i64)))) .dp]⟩ (tn 3) ?_
        exact aro [.ren [0, 3, 4] [0]] ⟨(x33.set x34.toNat (a0.getD x34.toNat (Ty.dflt (.int .i64)))), (IntKind.i64.wrap (x34 + (1 : Int))), rfl, h⟩
      refine VW.exit ?_
      exact arv [.ren [3] [0]] ⟨x33, rfl, h⟩
  rintro s ⟨x24, rfl, h⟩
  unfold F143_j0 at h
  refine sR T_ok [2] [0] ⟨[(2, .lf (.hd 0 0 none))], [ar 0 (.int .i64) x24 .dp]⟩ (tn 2) ?_
  refine VW.ret ?_
  replace h := Option.some.inj h
  subst h
  exact rt [some 0]

/- loop.example/g00844/laws.toNode -/
def F84 (N : Nat) (a0 : (Int × (ByteArray × (Int × (Int × (Int × (Bool × (List Int)))))))) : Option ((Int × (ByteArray × (Int × (Int × (Int × (Bool × (List Int)))))))) :=
  andO (F143 N a0.2.2.2.2.2.2) fun y1 => some (a0.1, (a0.2.1, (a0.2.2.1, (a0.2.2.2.1, (a0.2.2.2.2.1, (a0.2.2.2.2.2.1, y1))))))
theorem ok84 (N : Nat) (a0 : (Int × (ByteArray × (Int × (Int × (Int × (Bool × (List Int)))))))) {r : (Int × (ByteArray × (Int × (Int × (Int × (Bool × (List Int)))))))} (h : F84 N a0 = some r) : Con Go.Proofs.Try.prog 84 [.agg [.v (.int .i64) a0.1, .v .str a0.2.1, .v (.int .i64) a0.2.2.1, .v (.int .i64) a0.2.2.2.1, .v (.int .i64) a0.2.2.2.2.1, .v .bool a0.2.2.2.2.2.1, .v (.sl (.int .i64)) a0.2.2.2.2.2.2]] [.agg [.v (.int .i64) r.1, .v .str r.2.1, .v (.int .i64) r.2.2.1, .v (.int .i64) r.2.2.2.1, .v (.int .i64) r.2.2.2.2.1, .v .bool r.2.2.2.2.2.1, .own (.int .i64) r.2.2.2.2.2.2 .dp]] := by
  refine ctr [.agg [.v (.int .i64), .v .str, .v (.int .i64), .v (.int .i64), .v (.int .i64), .v .bool, .own (.int .i64) .dp]] T_ok Go.Proofs.Try.func84 rfl fun w0 E0 ht => ?_
  unfold F84 at h
  show VW _ _ _ _ _ (retQ _ _ _ _) _
  refine sR T_ok [1, 2] [0, 1] ⟨[(1, .lf (.ptr 0 0 0 0)), (2, .lf (.ptr 1 0 0 0))], [bx [.v (.int .i64) a0.1, .v .str a0.2.1, .v (.int .i64) a0.2.2.1, .v (.int .i64) a0.2.2.2.1, .v (.int .i64) a0.2.2.2.2.1, .v .bool a0.2.2.2.2.2.1, .v (.sl (.int .i64)) a0.2.2.2.2.2.2] 106, bx [.v (.int .i64) (0 : Int), .v .str ByteArray.empty, .v (.int .i64) (0 : Int), .v (.int .i64) (0 : Int), .v (.int .i64) (0 : Int), .v .bool false, .nil] 107]⟩ (tn 2) ?_
  refine sR T_ok [1, 2, 3] [0, 1, 2] ⟨[(1, .lf (.ptr 0 0 0 0)), (2, .lf (.ptr 1 0 0 0)), (3, .lf (.ptr 2 0 0 0))], [bx [.v (.int .i64) a0.1, .v .str a0.2.1, .v (.int .i64) a0.2.2.1, .v (.int .i64) a0.2.2.2.1, .v (.int .i64) a0.2.2.2.2.1, .v .bool a0.2.2.2.2.2.1, .v (.sl (.int .i64)) a0.2.2.2.2.2.2] 106, bx [.v (.int .i64) (0 : Int), .v .str ByteArray.empty, .v (.int .i64) (0 : Int), .v (.int .i64) (0 : Int), .v (.int .i64) (0 : Int), .v .bool false, .nil] 107, bx [.v (.int .i64) (0 : Int), .v .str ByteArray.empty, .v (.int .i64) (0 : Int), .v (.int .i64) (0 : Int), .v (.int .i64) (0 : Int), .v .bool false, .nil] 107]⟩ (tn 1) ?_
  refine sR T_ok [1, 2, 3] [0, 1, 2] ⟨[(1, .lf (.ptr 0 0 0 0)), (2, .lf (.ptr 1 0 0 0)), (3, .lf (.ptr 2 0 0 0))], [bx [.v (.int .i64) a0.1, .v .str a0.2.1, .v (.int .i64) a0.2.2.1, .v (.int .i64) a0.2.2.2.1, .v (.int .i64) a0.2.2.2.2.1, .v .bool a0.2.2.2.2.2.1, .v (.sl (.int .i64)) a0.2.2.2.2.2.2] 106, bx [.v (.int .i64) (0 : Int), .v .str ByteArray.empty, .v (.int .i64) (0 : Int), .v (.int .i64) (0 : Int), .v (.int .i64) (0 : Int), .v .bool false, .nil] 107, bx [.v (.int .i64) a0.1, .v .str ByteArray.empty, .v (.int .i64) (0 : Int), .v (.int .i64) (0 : Int), .v (.int .i64) (0 : Int), .v .bool false, .nil] 107]⟩ (tn 4) ?_
  refine sR T_ok [1, 2, 3] [0, 1, 2] ⟨[(1, .lf (.ptr 0 0 0 0)), (2, .lf (.ptr 1 0 0 0)), (3, .lf (.ptr 2 0 0 0))], [bx [.v (.int .i64) a0.1, .v .str a0.2.1, .v (.int .i64) a0.2.2.1, .v (.int .i64) a0.2.2.2.1, .v (.int .i64) a0.2.2.2.2.1, .v .bool a0.2.2.2.2.2.1, .v (.sl (.int .i64)) a0.2.2.2.2.2.2] 106, bx [.v (.int .i64) (0 : Int), .v .str ByteArray.empty, .v (.int .i64) (0 : Int), .v (.int .i64) (0 : Int), .v (.int .i64) (0 : Int), .v .bool false, .nil] 107, bx [.v (.int .i64) a0.1, .v .str a0.2.1, .v (.int .i64) (0 : Int), .v (.int .i64) (0 : Int), .v (.int .i64) (0 : Int), .v .bool false, .nil] 107]⟩ (tn 4) ?_
  refine sR T_ok [1, 2, 3] [0, 1, 2] ⟨[(1, .lf (.ptr 0 0 0 0)), (2, .lf (.ptr 1 0 0 0)), (3, .lf (.ptr 2 0 0 0))], [bx [.v (.int .i64) a0.1, .v .str a0.2.1, .v (.int .i64) a0.2.2.1, .v (.int .i64) a0.2.2.2.1, .v (.int .i64) a0.2.2.2.2.1, .v .bool a0.2.2.2.2.2.1, .v (.sl (.int .i64)) a0.2.2.2.2.2.2] 106, bx [.v (.int .i64) (0 : Int), .v .str ByteArray.empty, .v (.int .i64) (0 : Int), .v (.int .i64) (0 : Int), .v (.int .i64) (0 : Int), .v .bool false, .nil] 107, bx [.v (.int .i64) a0.1, .v .str a0.2.1, .v (.int .i64) a0.2.2.1, .v (.int .i64) (0 : Int), .v (.int .i64) (0 : Int), .v .bool false, .nil] 107]⟩ (tn 4) ?_
  refine sR T_ok [1, 2, 3] [0, 1, 2] ⟨[(1, .lf (.ptr 0 0 0 0)), (2, .lf (.ptr 1 0 0 0)), (3, .lf (.ptr 2 0 0 0))], [bx [.v (.int .i64) a0.1, .v .str a0.2.1, .v (.int .i64) a0.2.2.1, .v (.int .i64) a0.2.2.2.1, .v (.int .i64) a0.2.2.2.2.1, .v .bool a0.2.2.2.2.2.1, .v (.sl (.int .i64)) a0.2.2.2.2.2.2] 106, bx [.v (.int .i64) (0 : Int), .v .str ByteArray.empty, .v (.int .i64) (0 : Int), .v (.int .i64) (0 : Int), .v (.int .i64) (0 : Int), .v .bool false, .nil] 107, bx [.v (.int .i64) a0.1, .v .str a0.2.1, .v (.int .i64) a0.2.2.1, .v (.int .i64) a0.2.2.2.1, .v (.int .i64) (0 : Int), .v .bool false, .nil] 107]⟩ (tn 4) ?_
  refine sR T_ok [1, 2, 3] [0, 1, 2] ⟨[(1, .lf (.ptr 0 0 0 0)), (2, .lf (.ptr 1 0 0 0)), (3, .lf (.ptr 2 0 0 0))], [bx [.v (.int .i64) a0.1, .v .str a0.2.1, .v (.int .i64) a0.2.2.1, .v (.int .i64) a0.2.2.2.1, .v (.int .i64) a0.2.2.2.2.1, .v .bool a0.2.2.2.2.2.1, .v (.sl (.int .i64)) a0.2.2.2.2.2.2] 106, bx [.v (.int .i64) (0 : Int), .v .str ByteArray.empty, .v (.int .i64) (0 : Int), .v (.int .i64) (0 : Int), .v (.int .i64) (0 : Int), .v .bool false, .nil] 107, bx [.v (.int .i64) a0.1, .v .str a0.2.1, .v (.int .i64) a0.2.2.1, .v (.int .i64) a0.2.2.2.1, .v (.int .i64) a0.2.2.2.2.1, .v .bool false, .nil] 107]⟩ (tn 4) ?_
  refine sR T_ok [1, 2, 3] [0, 1, 2] ⟨[(1, .lf (.ptr 0 0 0 0)), (2, .lf (.ptr 1 0 0 0)), (3, .lf (.ptr 2 0 0 0))], [bx [.v (.int .i64) a0.1, .v .str a0.2.1, .v (.int .i64) a0.2.2.1, .v (.int .i64) a0.2.2.2.1, .v (.int .i64) a0.2.2.2.2.1, .v .bool a0.2.2.2.2.2.1, .v (.sl (.int .i64)) a0.2.2.2.2.2.2] 106, bx [.v (.int .i64) (0 : Int), .v .str ByteArray.empty, .v (.int .i64) (0 : Int), .v (.int .i64) (0 : Int), .v (.int .i64) (0 : Int), .v .bool false, .nil] 107, bx [.v (.int .i64) a0.1, .v .str a0.2.1, .v (.int .i64) a0.2.2.1, .v (.int .i64) a0.2.2.2.1, .v (.int .i64) a0.2.2.2.2.1, .v .bool a0.2.2.2.2.2.1, .nil] 107]⟩ (tn 4) ?_
  refine VW.seq ?_
  refine VW.region ?_
  refine sG T_ok 2 [2, 3, 23] [1, 2] ⟨[(2, .lf (.ptr 0 0 0 0)), (3, .lf (.ptr 1 0 0 0)), (23, .lf (.v (.sl (.int .i64)) a0.2.2.2.2.2.2))], [bx [.v (.int .i64) (0 : Int), .v .str ByteArray.empty, .v (.int .i64) (0 : Int), .v (.int .i64) (0 : Int), .v (.int .i64) (0 : Int), .v .bool false, .nil] 107, bx [.v (.int .i64) a0.1, .v .str a0.2.1, .v (.int .i64) a0.2.2.1, .v (.int .i64) a0.2.2.2.1, .v (.int .i64) a0.2.2.2.2.1, .v .bool a0.2.2.2.2.2.1, .nil] 107]⟩ (tn 2) ?_
  obtain ⟨y1, hy, h⟩ := andO_some h
  refine cal false [.t (.sl (.int .i64))] [] (some 24) T_ok (ok143 N _ hy) ?_
  refine sN T_ok [2, 3] [0, 1, 2] ⟨[(2, .lf (.ptr 0 0 0 0)), (3, .lf (.ptr 1 0 0 0))], [bx [.v (.int .i64) (0 : Int), .v .str ByteArray.empty, .v (.int .i64) (0 : Int), .v (.int .i64) (0 : Int), .v (.int .i64) (0 : Int), .v .bool false, .nil] 107, bx [.v (.int .i64) a0.1, .v .str a0.2.1, .v (.int .i64) a0.2.2.1, .v (.int .i64) a0.2.2.2.1, .v (.int .i64) a0.2.2.2.2.1, .v .bool a0.2.2.2.2.2.1, .hd 2 0 none] 107, ar 0 (.int .i64) y1 .dp]⟩ (tn 2) ?_
  refine sR T_ok [2] [0, 2] ⟨[(2, .lf (.ptr 0 0 0 0))], [bx [.v (.int .i64) a0.1, .v .str a0.2.1, .v (.int .i64) a0.2.2.1, .v (.int .i64) a0.2.2.2.1, .v (.int .i64) a0.2.2.2.2.1, .v .bool a0.2.2.2.2.2.1, .hd 1 0 none] 107, ar 0 (.int .i64) y1 .dp]⟩ (tn 2) ?_
  refine VW.ret ?_
  replace h := Option.some.inj h
  subst h
  exact rt [some 1]

/- loop.example/g00844/laws.toNodeS -/
def F27_j0 (N : Nat) (x30 : (List (Int × (ByteArray × (Int × (Int × (Int × (Bool × (List Int))))))))) : Option ((List (Int × (ByteArray × (Int × (Int × (Int × (Bool × (List Int))))))))) :=
  some x30
def F27_l0_b (N : Nat) (a0 : (List (Int × (ByteArray × (Int × (Int × (Int × (Bool × (List Int))))))))) (nx51 : (List (Int × (ByteArray × (Int × (Int × (Int × (Bool × (List Int)))))))) → Int → Option ((List (Int × (ByteArray × (Int × (Int × (Int × (Bool × (List Int)))))))))) (x41 : (List (Int × (ByteArray × (Int × (Int × (Int × (Bool × (List Int))))))))) (x42 : Int) : Option ((List (Int × (ByteArray × (Int × (Int × (Int × (Bool × (List Int))))))))) :=
  cond (decide (x42 < (a0.length : Int))) (gd (InR x42 a0.length) (andO (F84 N (a0.getD x42.toNat (Ty.dflt Y105))) fun y57 => gd (InR x42 x41.length) (gd (x42.toNat < x41.length) (nx51 (x41.set x42.toNat y57) (IntKind.i64.wrap (x42 + (1 : Int))))))) (F27_j0 N x41)
def F27_l0 (N : Nat) (a0 : (List (Int × (ByteArray × (Int × (Int × (Int × (Bool × (List Int))))))))) : Nat → (List (Int × (ByteArray × (Int × (Int × (Int × (Bool × (List Int)))))))) → Int → Option ((List (Int × (ByteArray × (Int × (Int × (Int × (Bool × (List Int))))))))) := loopF (F27_l0_b N a0) (fun _ _ => none)
theorem F27_l0_s (N : Nat) (a0 : (List (Int × (ByteArray × (Int × (Int × (Int × (Bool × (List Int))))))))) {k : Nat} (hk : 0 < k) (x41 : (List (Int × (ByteArray × (Int × (Int × (Int × (Bool × (List Int))))))))) (x42 : Int) : F27_l0 N a0 k x41 x42 = F27_l0_b N a0 (F27_l0 N a0 (k - 1)) x41 x42 := by
  cases k with
  | zero => exact absurd hk (Nat.lt_irrefl 0)
  | succ m => rfl
def F27 (N : Nat) (a0 : (List (Int × (ByteArray × (Int × (Int × (Int × (Bool × (List Int))))))))) : Option ((List (Int × (ByteArray × (Int × (Int × (Int × (Bool × (List Int))))))))) :=
  gd (0 ≤ (a0.length : Int) ∧ (a0.length : Int) ≤ (lim Y105 : Int) ∧ (a0.length : Int) = (a0.length : Int)) (F27_l0 N a0 N (List.replicate (a0.length : Int).toNat (Ty.dflt Y105)) (0 : Int))
theorem ok27 (N : Nat) (a0 : (List (Int × (ByteArray × (Int × (Int × (Int × (Bool × (List Int))))))))) {r : (List (Int × (ByteArray × (Int × (Int × (Int × (Bool × (List Int))))))))} (h : F27 N a0 = some r) : Con Go.Proofs.Try.prog 27 [.lf (.v (.sl Y105) a0)] [.lf (.own Y105 r .dp)] := by
  refine ctr [.lf (.own Y105 .dp)] T_ok Go.Proofs.Try.func27 rfl fun w0 E0 ht => ?_
  unfold F27 at h
  show VW _ _ _ _ _ (retQ _ _ _ _) _
  refine sR T_ok [0] [] ⟨[(0, .lf (.v (.sl Y105) a0))], []⟩ (tn 1) ?_
  obtain ⟨g1, h⟩ := gd_some h
  refine sR T_ok [0, 3] [0] ⟨[(0, .lf (.v (.sl Y105) a0)), (3, .lf (.hd 0 0 none))], [ar 0 Y105 (List.replicate (a0.length : Int).toNat (Ty.dflt Y105)) .dp]⟩ (pu 2 (an g1 (tn 1))) ?_
  refine VW.join (fun s => ∃ (x30 : (List (Int × (ByteArray × (Int × (Int × (Int × (Bool × (List Int))))))))), s = ⟨[(3, .lf (.hd 0 0 none))], [ar 0 Y105 x30 .dp]⟩ ∧ F27_j0 N x30 = some r) ?_ ?_
  · refine sR T_ok [0, 3, 4] [0] ⟨[(0, .lf (.v (.sl Y105) a0)), (3, .lf (.hd 0 0 none)), (4, I (0 : Int))], [ar 0 Y105 (List.replicate (a0.length : Int).toNat (Ty.dflt Y105)) .dp]⟩ (tn 1) ?_
    refine VW.block ?_
    refine lop (fun k s => ∃ (x41 : (List (Int × (ByteArray × (Int × (Int × (Int × (Bool × (List Int))))))))) (x42 : Int), s = ⟨[(0, .lf (.v (.sl Y105) a0)), (3, .lf (.hd 0 0 none)), (4, I x42)], [ar 0 Y105 x41 .dp]⟩ ∧ F27_l0 N a0 k x41 x42 = some r) N [.ren [0, 3, 4] [0]] ⟨(List.replicate (a0.length : Int).toNat (Ty.dflt Y105)), (0 : Int), rfl, h⟩ ?_
    rintro k51 s ⟨x41, x42, rfl, h⟩
    cases k51 with
    | zero => cases show none = some r from h
    | succ k51 =>
      replace h : F27_l0_b N a0 (F27_l0 N a0 k51) x41 x42 = some r := h
      unfold F27_l0_b at h
      refine VW.seq ?_
      refine sR T_ok [0, 3, 4, 11] [0] ⟨[(0, .lf (.v (.sl Y105) a0)), (3, .lf (.hd 0 0 none)), (4, I x42), (11, B (decide (x42 < (a0.length : Int))))], [ar 0 Y105 x41 .dp]⟩ (tn 4) ?_
      refine cnd h (fun h => ?_) (fun h => ?_)
      · refine VW.skip ?_
        refine VW.seq ?_
        refine VW.block ?_
        refine VW.region ?_
        obtain ⟨g56, h⟩ := gd_some h
        refine sG T_ok 6 [0, 3, 4, 14, 15, 19] [0] ⟨[(0, .lf (.v (.sl Y105) a0)), (3, .lf (.hd 0 0 none)), (4, I x42), (14, .lf (.hd 0 0 none)), (15, I x42), (19, .agg [.v (.int .i64) ((a0.getD x42.toNat (Ty.dflt Y105)).1), .v .str ((a0.getD x42.toNat (Ty.dflt Y105)).2.1), .v (.int .i64) ((a0.getD x42.toNat (Ty.dflt Y105)).2.2.1), .v (.int .i64) ((a0.getD x42.toNat (Ty.dflt Y105)).2.2.2.1), .v (.int .i64) ((a0.getD x42.toNat (Ty.dflt Y105)).2.2.2.2.1), .v .bool ((a0.getD x42.toNat (Ty.dflt Y105)).2.2.2.2.2.1), .v (.sl (.int .i64)) ((a0.getD x42.toNat (Ty.dflt Y105)).2.2.2.2.2.2)])], [ar 0 Y105 x41 .dp]⟩ (pu 4 (an g56 (tn 1))) ?_
        obtain ⟨y57, hy, h⟩ := andO_some h
        refine cal false [.t Y105] [] (some 20) T_ok (ok84 N _ hy) ?_
        obtain ⟨g58, h⟩ := gd_some h
        refine sG T_ok 1 [0, 3, 4, 20, 21] [0, 1] ⟨[(0, .lf (.v (.sl Y105) a0)), (3, .lf (.hd 0 0 none)), (4, I x42), (20, .agg [.v (.int .i64) y57.1, .v .str y57.2.1, .v (.int .i64) y57.2.2.1, .v (.int .i64) y57.2.2.2.1, .v (.int .i64) y57.2.2.2.2.1, .v .bool y57.2.2.2.2.2.1, .hd 1 0 none]), (21, .lf (.ptr 0 0 x42.toNat 0))], [ar 0 Y105 x41 .dp, ar 0 (.int .i64) y57.2.2.2.2.2.2 .dp]⟩ (an g58 (tn 0)) ?_
        obtain ⟨g59, h⟩ := gd_some h
        refine VO.storeA (φ := x42.toNat < x41.length) (H' := [ar 0 Y105 (x41.set x42.toNat y57) .dp, none]) T_ok (by kernel_rfl) g59 ?_
        refine sN T_ok [0, 3, 4] [0] ⟨[(0, .lf (.v (.sl Y105) a0)), (3, .lf (.hd 0 0 none)), (4, I x42)], [ar 0 Y105 (x41.set x42.toNat y57) .dp]⟩ (tn 0) ?_
        refine rR T_ok [0, 3, 4] [0] ⟨[(0, .lf (.v (.sl Y105) a0)), (3, .lf (.hd 0 0 none)), (4, I (IntKind.i64.wrap (x42 + (1 : Int))))], [ar 0 Y105 (x41.set x42.toNat y57) .dp]⟩ (tn 3) ?_
        exact aro [.ren [0, 3, 4] [0]] ⟨(x41.set x42.toNat y57), (IntKind.i64.wrap (x42 + (1 : Int))), rfl, h⟩
      refine VW.exit ?_
      exact arv [.ren [3] [0]] ⟨x41, rfl, h⟩
  rintro s ⟨x30, rfl, h⟩
  unfold F27_j0 at h
  refine sR T_ok [2] [0] ⟨[(2, .lf (.hd 0 0 none))], [ar 0 Y105 x30 .dp]⟩ (tn 2) ?_
  refine VW.ret ?_
  replace h := Option.some.inj h
  subst h
  exact rt [some 0]

/- slices.IndexFunc[[]loop.example/g00844/impl.Node,loop.example/g00844/impl.Node] -/
def F193_j0 (N : Nat) : Option (Int) :=
  some (-1 : Int)
def F193_l0_b (N : Nat) (a0 : (List (Int × (ByteArray × (Int × (Int × (Int × (Bool × (List Int))))))))) (p1 : (Int × (ByteArray × (Int × (Int × (Int × (Bool × (List Int))))))) → Option (Bool)) (nx29 : Int → Int → Option (Int)) (x23 : Int) (x24 : Int) : Option (Int) :=
  cond (decide (x24 < x23)) (gd (InR x24 a0.length) (andO (p1 (a0.getD x24.toNat (Ty.dflt Y105))) fun y33 => cond y33 (some x24) (nx29 x23 (IntKind.i64.wrap (x24 + (1 : Int)))))) (F193_j0 N)
def F193_l0 (N : Nat) (a0 : (List (Int × (ByteArray × (Int × (Int × (Int × (Bool × (List Int))))))))) (p1 : (Int × (ByteArray × (Int × (Int × (Int × (Bool × (List Int))))))) → Option (Bool)) : Nat → Int → Int → Option (Int) := loopF (F193_l0_b N a0 p1) (fun _ _ => none)
theorem F193_l0_s (N : Nat) (a0 : (List (Int × (ByteArray × (Int × (Int × (Int × (Bool × (List Int))))))))) (p1 : (Int × (ByteArray × (Int × (Int × (Int × (Bool × (List Int))))))) → Option (Bool)) {k : Nat} (hk : 0 < k) (x23 : Int) (x24 : Int) : F193_l0 N a0 p1 k x23 x24 = F193_l0_b N a0 p1 (F193_l0 N a0 p1 (k - 1)) x23 x24 := by
  cases k with
  | zero => exact absurd hk (Nat.lt_irrefl 0)
  | succ m => rfl
def F193 (N : Nat) (a0 : (List (Int × (ByteArray × (Int × (Int × (Int × (Bool × (List Int))))))))) (p1 : (Int × (ByteArray × (Int × (Int × (Int × (Bool × (List Int))))))) → Option (Bool)) : Option (Int) :=
  F193_l0 N a0 p1 N (a0.length : Int) (0 : Int)
theorem ok193 (N : Nat) (a0 : (List (Int × (ByteArray × (Int × (Int × (Int × (Bool × (List Int))))))))) (g1 : FuncId) (p1 : (Int × (ByteArray × (Int × (Int × (Int × (Bool × (List Int))))))) → Option (Bool)) (hp1 : ∀ (z0 : (Int × (ByteArray × (Int × (Int × (Int × (Bool × (List Int)))))))) (r : Bool), p1 z0 = some r → Con Go.Proofs.Try.prog g1 [.agg [.v (.int .i64) z0.1, .v .str z0.2.1, .v (.int .i64) z0.2.2.1, .v (.int .i64) z0.2.2.2.1, .v (.int .i64) z0.2.2.2.2.1, .v .bool z0.2.2.2.2.2.1, .v (.sl (.int .i64)) z0.2.2.2.2.2.2]] [.lf (.v .bool r)]) {r : Int} (h : F193 N a0 p1 = some r) : Con Go.Proofs.Try.prog 193 [.lf (.v (.sl Y105) a0), .clo g1 []] [.lf (.v (.int .i64) r)] := by
  refine ctr [.lf (.v (.int .i64))] T_ok Go.Proofs.Try.func193 rfl fun w0 E0 ht => ?_
  unfold F193 at h
  show VW _ _ _ _ _ (retQ _ _ _ _) _
  refine sR T_ok [0, 1] [] ⟨[(0, .lf (.v (.sl Y105) a0)), (1, .clo g1 [])], []⟩ (tn 1) ?_
  refine VW.join (fun s => s = ⟨[], []⟩ ∧ F193_j0 N = some r) ?_ ?_
  · refine sR T_ok [0, 1, 7, 8] [] ⟨[(0, .lf (.v (.sl Y105) a0)), (1, .clo g1 []), (7, I (a0.length : Int)), (8, I (0 : Int))], []⟩ (tn 3) ?_
    refine VW.block ?_
    refine lop (fun k s => ∃ (x23 : Int) (x24 : Int), s = ⟨[(0, .lf (.v (.sl Y105) a0)), (1, .clo g1 []), (7, I x23), (8, I x24)], []⟩ ∧ F193_l0 N a0 p1 k x23 x24 = some r) N [.ren [0, 1, 7, 8] []] ⟨(a0.length : Int), (0 : Int), rfl, h⟩ ?_
    rintro k29 s ⟨x23, x24, rfl, h⟩
    cases k29 with
    | zero => cases show none = some r from h
    | succ k29 =>
      replace h : F193_l0_b N a0 p1 (F193_l0 N a0 p1 k29) x23 x24 = some r := h
      unfold F193_l0_b at h
      refine sR T_ok [0, 1, 7, 8, 9] [] ⟨[(0, .lf (.v (.sl Y105) a0)), (1, .clo g1 []), (7, I x23), (8, I x24), (9, B (decide (x24 < x23)))], []⟩ (tn 1) ?_
      refine VW.seq ?_
      refine cnd h (fun h => ?_) (fun h => ?_)
      · refine VW.skip ?_
        refine VW.seq ?_
        refine VW.block ?_
        refine sR T_ok [0, 1, 5, 7, 8] [] ⟨[(0, .lf (.v (.sl Y105) a0)), (1, .clo g1 []), (5, I x24), (7, I x23), (8, I x24)], []⟩ (tn 2) ?_
        refine VW.seq ?_
        refine VW.region ?_
        obtain ⟨g32, h⟩ := gd_some h
        refine sG T_ok 5 [0, 1, 5, 7, 8, 11, 15] [] ⟨[(0, .lf (.v (.sl Y105) a0)), (1, .clo g1 []), (5, I x24), (7, I x23), (8, I x24), (11, .clo g1 []), (15, .agg [.v (.int .i64) ((a0.getD x24.toNat (Ty.dflt Y105)).1), .v .str ((a0.getD x24.toNat (Ty.dflt Y105)).2.1), .v (.int .i64) ((a0.getD x24.toNat (Ty.dflt Y105)).2.2.1), .v (.int .i64) ((a0.getD x24.toNat (Ty.dflt Y105)).2.2.2.1), .v (.int .i64) ((a0.getD x24.toNat (Ty.dflt Y105)).2.2.2.2.1), .v .bool ((a0.getD x24.toNat (Ty.dflt Y105)).2.2.2.2.2.1), .v (.sl (.int .i64)) ((a0.getD x24.toNat (Ty.dflt Y105)).2.2.2.2.2.2)])], []⟩ (pu 3 (an g32 (tn 1))) ?_
        obtain ⟨y33, hy, h⟩ := andO_some h
        refine cal false [.t Y105] [] (some 16) T_ok (hp1 _ _ hy) ?_
        refine sN T_ok [0, 1, 5, 7, 8, 16] [] ⟨[(0, .lf (.v (.sl Y105) a0)), (1, .clo g1 []), (5, I x24), (7, I x23), (8, I x24), (16, B y33)], []⟩ (tn 0) ?_
        refine cnd h (fun h => ?_) (fun h => ?_)
        · refine sR T_ok [4] [] ⟨[(4, I x24)], []⟩ (tn 2) ?_
          refine VW.ret ?_
          replace h := Option.some.inj h
          subst h
          exact rt []
        refine VW.skip ?_
        refine rR T_ok [0, 1, 7, 8] [] ⟨[(0, .lf (.v (.sl Y105) a0)), (1, .clo g1 []), (7, I x23), (8, I (IntKind.i64.wrap (x24 + (1 : Int))))], []⟩ (tn 2) ?_
        exact aro [.ren [0, 1, 7, 8] []] ⟨x23, (IntKind.i64.wrap (x24 + (1 : Int))), rfl, h⟩
      refine VW.exit ?_
      exact arv [.ren [] []] ⟨rfl, h⟩
  rintro s ⟨rfl, h⟩
  unfold F193_j0 at h
  refine sR T_ok [4] [] ⟨[(4, I (-1 : Int))], []⟩ (tn 1) ?_
  refine VW.ret ?_
  replace h := Option.some.inj h
  subst h
  exact rt []

/- slices.ContainsFunc[[]loop.example/g00844/impl.Node,loop.example/g00844/impl.Node] -/
def F145 (N : Nat) (a0 : (List (Int × (ByteArray × (Int × (Int × (Int × (Bool × (List Int))))))))) (p1 : (Int × (ByteArray × (Int × (Int × (Int × (Bool × (List Int))))))) → Option (Bool)) : Option (Bool) :=
  andO (F193 N a0 p1) fun y1 => some (decide (y1 ≥ (0 : Int)))
theorem ok145 (N : Nat) (a0 : (List (Int × (ByteArray × (Int × (Int × (Int × (Bool × (List Int))))))))) (g1 : FuncId) (p1 : (Int × (ByteArray × (Int × (Int × (Int × (Bool × (List Int))))))) → Option (Bool)) (hp1 : ∀ (z0 : (Int × (ByteArray × (Int × (Int × (Int × (Bool × (List Int)))))))) (r : Bool), p1 z0 = some r → Con Go.Proofs.Try.prog g1 [.agg [.v (.int .i64) z0.1, .v .str z0.2.1, .v (.int .i64) z0.2.2.1, .v (.int .i64) z0.2.2.2.1, .v (.int .i64) z0.2.2.2.2.1, .v .bool z0.2.2.2.2.2.1, .v (.sl (.int .i64)) z0.2.2.2.2.2.2]] [.lf (.v .bool r)]) {r : Bool} (h : F145 N a0 p1 = some r) : Con Go.Proofs.Try.prog 145 [.lf (.v (.sl Y105) a0), .clo g1 []] [.lf (.v .bool r)] := by
  refine ctr [.lf (.v .bool)] T_ok Go.Proofs.Try.func145 rfl fun w0 E0 ht => ?_
  unfold F145 at h
  show VW _ _ _ _ _ (retQ _ _ _ _) _
  refine sR T_ok [0, 1] [] ⟨[(0, .lf (.v (.sl Y105) a0)), (1, .clo g1 [])], []⟩ (tn 1) ?_
  refine VW.seq ?_
  refine VW.region ?_
  refine sG T_ok 2 [5, 6] [] ⟨[(5, .lf (.v (.sl Y105) a0)), (6, .clo g1 [])], []⟩ (tn 2) ?_
  obtain ⟨y1, hy, h⟩ := andO_some h
  refine cal false [.t (.sl Y105), .clo []] [] (some 7) T_ok (ok193 N _ g1  p1 hp1 hy) ?_
  refine sN T_ok [4] [] ⟨[(4, B (decide (y1 ≥ (0 : Int))))], []⟩ (tn 2) ?_
  refine VW.ret ?_
  replace h := Option.some.inj h
  subst h
  exact rt []

/- slices.Equal[[]int,int] -/
def F187_j0 (N : Nat) : Option (Bool) :=
  some true
def F187_l0_b (N : Nat) (a0 : (List Int)) (a1 : (List Int)) (nx29 : Int → Int → Option (Bool)) (x23 : Int) (x24 : Int) : Option (Bool) :=
  cond (decide (x24 < x23)) (gd (InR x24 a0.length) (gd (InR x24 a1.length) (cond ((a0.getD x24.toNat (Ty.dflt (.int .i64))) != (a1.getD x24.toNat (Ty.dflt (.int .i64)))) (some false) (nx29 x23 (IntKind.i64.wrap (x24 + (1 : Int))))))) (F187_j0 N)
def F187_l0 (N : Nat) (a0 : (List Int)) (a1 : (List Int)) : Nat → Int → Int → Option (Bool) := loopF (F187_l0_b N a0 a1) (fun _ _ => none)
theorem F187_l0_s (N : Nat) (a0 : (List Int)) (a1 : (List Int)) {k : Nat} (hk : 0 < k) (x23 : Int) (x24 : Int) : F187_l0 N a0 a1 k x23 x24 = F187_l0_b N a0 a1 (F187_l0 N a0 a1 (k - 1)) x23 x24 := by
  cases k with
  | zero => exact absurd hk (Nat.lt_irrefl 0)
  | succ m => rfl
def F187 (N : Nat) (a0 : (List Int)) (a1 : (List Int)) : Option (Bool) :=
  cond ((a0.length : Int) != (a1.length : Int)) (some false) (F187_l0 N a0 a1 N (a0.length : Int) (0 : Int))
theorem ok187 (N : Nat) (a0 : (List Int)) (a1 : (List Int)) {r : Bool} (h : F187 N a0 a1 = some r) : Con Go.Proofs.Try.prog 187 [.lf (.v (.sl (.int .i64)) a0), .lf (.v (.sl (.int .i64)) a1)] [.lf (.v .bool r)] := by
  refine ctr [.lf (.v .bool)] T_ok Go.Proofs.Try.func187 rfl fun w0 E0 ht => ?_
  unfold F187 at h
  show VW _ _ _ _ _ (retQ _ _ _ _) _
  refine sR T_ok [0, 1] [] ⟨[(0, .lf (.v (.sl (.int .i64)) a0)), (1, .lf (.v (.sl (.int .i64)) a1))], []⟩ (tn 1) ?_
  refine VW.seq ?_
  refine sR T_ok [0, 1, 10] [] ⟨[(0, .lf (.v (.sl (.int .i64)) a0)), (1, .lf (.v (.sl (.int .i64)) a1)), (10, B ((a0.length : Int) != (a1.length : Int)))], []⟩ (tn 5) ?_
  refine cnd h (fun h => ?_) (fun h => ?_)
  · refine sR T_ok [4] [] ⟨[(4, B false)], []⟩ (tn 1) ?_
    refine VW.ret ?_
    replace h := Option.some.inj h
    subst h
    exact rt []
  refine VW.skip ?_
  refine VW.join (fun s => s = ⟨[], []⟩ ∧ F187_j0 N = some r) ?_ ?_
  · refine sR T_ok [0, 1, 12, 13] [] ⟨[(0, .lf (.v (.sl (.int .i64)) a0)), (1, .lf (.v (.sl (.int .i64)) a1)), (12, I (a0.length : Int)), (13, I (0 : Int))], []⟩ (tn 3) ?_
    refine VW.block ?_
    refine lop (fun k s => ∃ (x23 : Int) (x24 : Int), s = ⟨[(0, .lf (.v (.sl (.int .i64)) a0)), (1, .lf (.v (.sl (.int .i64)) a1)), (12, I x23), (13, I x24)], []⟩ ∧ F187_l0 N a0 a1 k x23 x24 = some r) N [.ren [0, 1, 12, 13] []] ⟨(a0.length : Int), (0 : Int), rfl, h⟩ ?_
    rintro k29 s ⟨x23, x24, rfl, h⟩
    cases k29 with
    | zero => cases show none = some r from h
    | succ k29 =>
      replace h : F187_l0_b N a0 a1 (F187_l0 N a0 a1 k29) x23 x24 = some r := h
      unfold F187_l0_b at h
      refine sR T_ok [0, 1, 12, 13, 14] [] ⟨[(0, .lf (.v (.sl (.int .i64)) a0)), (1, .lf (.v (.sl (.int .i64)) a1)), (12, I x23), (13, I x24), (14, B (decide (x24 < x23)))], []⟩ (tn 1) ?_
      refine VW.seq ?_
      refine cnd h (fun h => ?_) (fun h => ?_)
      · refine VW.skip ?_
        refine VW.seq ?_
        refine VW.block ?_
        refine sR T_ok [0, 1, 5, 12, 13] [] ⟨[(0, .lf (.v (.sl (.int .i64)) a0)), (1, .lf (.v (.sl (.int .i64)) a1)), (5, I x24), (12, I x23), (13, I x24)], []⟩ (tn 2) ?_
        refine VW.seq ?_
        obtain ⟨g32, h⟩ := gd_some h
        obtain ⟨g33, h⟩ := gd_some h
        refine VW.drawn (by kernel_rfl) [some (16, .lf (.v (.sl (.int .i64)) a0)), some (17, I x24), some (18, .lf (.fp (.int .i64) (a0.getD x24.toNat (Ty.dflt (.int .i64))) 0)), some (19, I (a0.getD x24.toNat (Ty.dflt (.int .i64)))), some (20, .lf (.v (.sl (.int .i64)) a1)), some (21, I x24), some (22, .lf (.fp (.int .i64) (a1.getD x24.toNat (Ty.dflt (.int .i64))) 0)), some (23, I (a1.getD x24.toNat (Ty.dflt (.int .i64)))), some (24, B ((a0.getD x24.toNat (Ty.dflt (.int .i64))) != (a1.getD x24.toNat (Ty.dflt (.int .i64)))))] [] [[]] [(0, 0), (1, 0), (2, 0), (3, 0), (4, 0), (5, 0), (6, 0), (7, 0), (8, 0)] [0, 1, 12, 13, 24] [] (s' := ⟨[(0, .lf (.v (.sl (.int .i64)) a0)), (1, .lf (.v (.sl (.int .i64)) a1)), (12, I x23), (13, I x24), (24, B ((a0.getD x24.toNat (Ty.dflt (.int .i64))) != (a1.getD x24.toNat (Ty.dflt (.int .i64)))))], []⟩) (by kernel_rfl) (by kernel_rfl) ⟨⟨_, rfl, Stp.ev T_ok (m := .dp) (φ := True) (by kernel_rfl) trivial⟩,
    ⟨_, rfl, Stp.ev T_ok (m := .dp) (φ := True) (by kernel_rfl) trivial⟩,
    ⟨_, rfl, Stp.ev T_ok (m := .dp) (φ := InR x24 a0.length) (by kernel_rfl) g32⟩,
    ⟨_, rfl, Stp.ev T_ok (m := .dp) (φ := True) (by kernel_rfl) trivial⟩,
    ⟨_, rfl, Stp.ev T_ok (m := .dp) (φ := True) (by kernel_rfl) trivial⟩,
    ⟨_, rfl, Stp.ev T_ok (m := .dp) (φ := True) (by kernel_rfl) trivial⟩,
    ⟨_, rfl, Stp.ev T_ok (m := .dp) (φ := InR x24 a1.length) (by kernel_rfl) g33⟩,
    ⟨_, rfl, Stp.ev T_ok (m := .dp) (φ := True) (by kernel_rfl) trivial⟩,
    ⟨_, rfl, Stp.ev T_ok (m := .dp) (φ := True) (by kernel_rfl) trivial⟩, trivial⟩ (by kernel_rfl) ?_
        refine cnd h (fun h => ?_) (fun h => ?_)
        · refine sR T_ok [4] [] ⟨[(4, B false)], []⟩ (tn 1) ?_
          refine VW.ret ?_
          replace h := Option.some.inj h
          subst h
          exact rt []
        refine VW.skip ?_
        refine rR T_ok [0, 1, 12, 13] [] ⟨[(0, .lf (.v (.sl (.int .i64)) a0)), (1, .lf (.v (.sl (.int .i64)) a1)), (12, I x23), (13, I (IntKind.i64.wrap (x24 + (1 : Int))))], []⟩ (tn 2) ?_
        exact aro [.ren [0, 1, 12, 13] []] ⟨x23, (IntKind.i64.wrap (x24 + (1 : Int))), rfl, h⟩
      refine VW.exit ?_
      exact arv [.ren [] []] ⟨rfl, h⟩
  rintro s ⟨rfl, h⟩
  unfold F187_j0 at h
  refine sR T_ok [4] [] ⟨[(4, B true)], []⟩ (tn 1) ?_
  refine VW.ret ?_
  replace h := Option.some.inj h
  subst h
  exact rt []

end Go.Proofs.Ytgpddckjpokclaa.Vc
