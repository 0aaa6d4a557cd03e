/- What functions of the program compute, and that they do. -/
import Derived.Test.YtgpddckjpokclaaDoorProg
import Derived.Test.YtgpddckjpokclaaDoorVd1
import Derived.Test.YtgpddckjpokclaaDoorShelf
namespace Go.Proofs.YtgpddckjpokclaaDoor.Vc
open Go Go.RowKit
set_option linter.unusedVariables false
set_option maxRecDepth 100000
set_option maxHeartbeats 4000000
abbrev Y7 : Ty := .pair (.int .i64) (.pair (.int .i64) (.pair .bool (.int .u8)))
abbrev Y13 : Ty := .pair .str (.int .u64)
abbrev Y27 : Ty := .pair (.int .i64) (.pair (.sl (.int .i64)) (.sl (.int .i64)))
abbrev Y36 : Ty := .pair (.int .i64) (.int .i64)
abbrev Y74 : Ty := .pair (.sl (.int .u8)) Y36
def TL : List (Nat × TI) := [(2, { ty := (.int .i64) }),
  (3, { ty := (.int .i64) }),
  (4, { ty := .bool }),
  (5, { ty := (.int .u8) }),
  (6, { ty := (.int .u8) }),
  (7, { ty := Y7, offs := [0, 1, 2, 3], szs := [1, 1, 1, 1] }),
  (8, { ty := Y7, offs := [0, 1, 2, 3], szs := [1, 1, 1, 1] }),
  (9, { ty := .str }),
  (10, { ty := .str }),
  (11, { ty := .str }),
  (12, { ty := (.int .u64) }),
  (13, { ty := Y13, offs := [0, 1], szs := [1, 1] }),
  (14, { ty := Y13, offs := [0, 1], szs := [1, 1] }),
  (21, { ty := (.int .i32) }),
  (22, { ty := (.sl (.int .u8)), elem := 5 }),
  (24, { ty := (.sl (.int .i64)), elem := 3 }),
  (27, { ty := Y27, offs := [0, 1, 2], szs := [1, 1, 1] }),
  (28, { ty := Y27, offs := [0, 1, 2], szs := [1, 1, 1] }),
  (36, { ty := Y36, offs := [0, 1], szs := [1, 1] }),
  (37, { ty := Y36, offs := [0, 1], szs := [1, 1] }),
  (39, { ty := Y36, offs := [0, 1], szs := [1, 1] }),
  (42, { ty := (.sl Y36), elem := 37 }),
  (45, { ty := (.sl Y36), elem := 39 }),
  (49, { ty := Y27, offs := [0, 1, 2], szs := [1, 1, 1] }),
  (67, { ty := (.sl .str), elem := 9 }),
  (74, { ty := Y74, offs := [0, 1, 2], szs := [1, 1, 1] }),
  (75, { ty := Y74, offs := [0, 1, 2], szs := [1, 1, 1] }),
  (85, { ty := (.int .u64) }),
  (99, { ty := (.int .u64) }),
  (109, { ty := (.int .u32) }),
  (121, { ty := (.int .u8) }),
  (122, { ty := (.int .u8) }),
  (124, { ty := (.int .i32) }),
  (125, { ty := (.int .i32) })]
abbrev T : Tab := lookT TL
theorem T_ok : TabOk Go.Proofs.Tryd.prog T := tabOk_of TL (by kernel_rfl)
theorem T_rec : RecOk Go.Proofs.Tryd.prog T := recOk_of TL (by kernel_rfl)
/- loop.example/g00844/spec.l01In -/
def F54 (N : Nat) (a0 : Int) (a1 : Int) (a2 : Int) : Option (Bool) :=
  cond (decide (a1 ≤ a0)) (some (decide (a0 ≤ a2))) (some false)
theorem ok54 (N : Nat) (a0 : Int) (a1 : Int) (a2 : Int) {r : Bool} (h : F54 N a0 a1 a2 = some r) : Con Go.Proofs.Tryd.prog 54 [I a0, I a1, I a2] [.lf (.v .bool r)] := by
  refine ctr [.lf (.v .bool)] T_ok Go.Proofs.Tryd.func54 rfl fun w0 E0 ht => ?_
  unfold F54 at h
  show VW _ _ _ _ _ (retQ _ _ _ _) _
  refine sR T_ok [0, 1, 2] [] ⟨[(0, I a0), (1, I a1), (2, I a2)], []⟩ (tn 1) ?_
  refine VW.seq ?_
  refine VW.region ?_
  refine sG T_ok 4 [0, 2, 10] [] ⟨[(0, I a0), (2, I a2), (10, B (decide (a1 ≤ a0)))], []⟩ (tn 4) ?_
  refine spB 10 h (fun h => ?_) (fun h => ?_)
  · refine sN T_ok [6] [] ⟨[(6, B (decide (a0 ≤ a2)))], []⟩ (tn 5) ?_
    refine VW.ret ?_
    replace h := Option.some.inj h
    subst h
    exact rt []
  refine sN T_ok [6] [] ⟨[(6, B false)], []⟩ (tn 5) ?_
  refine VW.ret ?_
  replace h := Option.some.inj h
  subst h
  exact rt []

/- loop.example/g00844/spec.l01Number -/
def F59 (N : Nat) (a0 : Int) : Option (Bool) :=
  andO (F54 N a0 (-1000000 : Int) (1000000 : Int)) fun y1 => some y1
theorem ok59 (N : Nat) (a0 : Int) {r : Bool} (h : F59 N a0 = some r) : Con Go.Proofs.Tryd.prog 59 [I a0] [.lf (.v .bool r)] := by
  refine ctr [.lf (.v .bool)] T_ok Go.Proofs.Tryd.func59 rfl fun w0 E0 ht => ?_
  unfold F59 at h
  show VW _ _ _ _ _ (retQ _ _ _ _) _
  refine sR T_ok [0] [] ⟨[(0, I a0)], []⟩ (tn 1) ?_
  refine VW.seq ?_
  refine VW.region ?_
  refine sG T_ok 1 [3] [] ⟨[(3, I a0)], []⟩ (tn 1) ?_
  obtain ⟨y1, hy, h⟩ := andO_some h
  refine cal false [.t (.int .i64), .t (.int .i64), .t (.int .i64)] [] (some 4) T_ok (ok54 N _ _ _ hy) ?_
  refine sN T_ok [2] [] ⟨[(2, B y1)], []⟩ (tn 1) ?_
  refine VW.ret ?_
  replace h := Option.some.inj h
  subst h
  exact rt []

/- loop.example/g00844/spec.l01Has -/
def F66_j0 (N : Nat) : Option (Bool) :=
  some false
def F66_l0_b (N : Nat) (a0 : (List Int)) (a1 : Int) (nx15 : Int → Option (Bool)) (x12 : Int) : Option (Bool) :=
  cond (decide (x12 < (a0.length : Int))) (gd (InR x12 a0.length) (cond ((a0.getD x12.toNat (Ty.dflt (.int .i64))) == a1) (some true) (nx15 (IntKind.i64.wrap (x12 + (1 : Int)))))) (F66_j0 N)
def F66_l0 (N : Nat) (a0 : (List Int)) (a1 : Int) : Nat → Int → Option (Bool) := loopF (F66_l0_b N a0 a1) (fun _ => none)
theorem F66_l0_s (N : Nat) (a0 : (List Int)) (a1 : Int) {k : Nat} (hk : 0 < k) (x12 : Int) : F66_l0 N a0 a1 k x12 = F66_l0_b N a0 a1 (F66_l0 N a0 a1 (k - 1)) x12 := by
  cases k with
  | zero => exact absurd hk (Nat.lt_irrefl 0)
  | succ m => rfl
def F66 (N : Nat) (a0 : (List Int)) (a1 : Int) : Option (Bool) :=
  F66_l0 N a0 a1 N (0 : Int)
theorem ok66 (N : Nat) (a0 : (List Int)) (a1 : Int) {r : Bool} (h : F66 N a0 a1 = some r) : Con Go.Proofs.Tryd.prog 66 [.lf (.v (.sl (.int .i64)) a0), I a1] [.lf (.v .bool r)] := by
  refine ctr [.lf (.v .bool)] T_ok Go.Proofs.Tryd.func66 rfl fun w0 E0 ht => ?_
  unfold F66 at h
  show VW _ _ _ _ _ (retQ _ _ _ _) _
  refine sR T_ok [0, 1] [] ⟨[(0, .lf (.v (.sl (.int .i64)) a0)), (1, I a1)], []⟩ (tn 1) ?_
  refine VW.join (fun s => s = ⟨[], []⟩ ∧ F66_j0 N = some r) ?_ ?_
  · refine sR T_ok [0, 1, 5] [] ⟨[(0, .lf (.v (.sl (.int .i64)) a0)), (1, I a1), (5, I (0 : Int))], []⟩ (tn 1) ?_
    refine VW.block ?_
    refine lop (fun k s => ∃ (x12 : Int), s = ⟨[(0, .lf (.v (.sl (.int .i64)) a0)), (1, I a1), (5, I x12)], []⟩ ∧ F66_l0 N a0 a1 k x12 = some r) N [.ren [0, 1, 5] []] ⟨(0 : Int), rfl, h⟩ ?_
    rintro k15 s ⟨x12, rfl, h⟩
    cases k15 with
    | zero => cases show none = some r from h
    | succ k15 =>
      replace h : F66_l0_b N a0 a1 (F66_l0 N a0 a1 k15) x12 = some r := h
      unfold F66_l0_b at h
      refine VW.seq ?_
      refine sR T_ok [0, 1, 5, 9] [] ⟨[(0, .lf (.v (.sl (.int .i64)) a0)), (1, I a1), (5, I x12), (9, B (decide (x12 < (a0.length : Int))))], []⟩ (tn 4) ?_
      refine cnd h (fun h => ?_) (fun h => ?_)
      · refine VW.skip ?_
        refine VW.seq ?_
        refine VW.block ?_
        obtain ⟨g17, h⟩ := gd_some h
        refine sR T_ok [0, 1, 5, 17] [] ⟨[(0, .lf (.v (.sl (.int .i64)) a0)), (1, I a1), (5, I x12), (17, B ((a0.getD x12.toNat (Ty.dflt (.int .i64))) == a1))], []⟩ (pu 2 (an g17 (tn 3))) ?_
        refine cnd h (fun h => ?_) (fun h => ?_)
        · refine sR T_ok [4] [] ⟨[(4, B true)], []⟩ (tn 1) ?_
          refine VW.ret ?_
          replace h := Option.some.inj h
          subst h
          exact rt []
        refine VW.skip ?_
        refine rR T_ok [0, 1, 5] [] ⟨[(0, .lf (.v (.sl (.int .i64)) a0)), (1, I a1), (5, I (IntKind.i64.wrap (x12 + (1 : Int))))], []⟩ (tn 3) ?_
        exact aro [.ren [0, 1, 5] []] ⟨(IntKind.i64.wrap (x12 + (1 : Int))), rfl, h⟩
      refine VW.exit ?_
      exact arv [.ren [] []] ⟨rfl, h⟩
  rintro s ⟨rfl, h⟩
  unfold F66_j0 at h
  refine sR T_ok [4] [] ⟨[(4, B false)], []⟩ (tn 1) ?_
  refine VW.ret ?_
  replace h := Option.some.inj h
  subst h
  exact rt []

/- loop.example/g00844/spec.CacheOk -/
def F44_j0 (N : Nat) : Option (Bool) :=
  some true
def F44_l0_b (N : Nat) (nx109 : Int → (List Int) → (List Int) → Int → Option (Bool)) (x87 : Int) (x88 : (List Int)) (x89 : (List Int)) (x90 : Int) : Option (Bool) :=
  cond (decide (x90 < (x88.length : Int))) (gd (InR x90 x88.length) (andO (F59 N (x88.getD x90.toNat (Ty.dflt (.int .i64)))) fun y120 => cond (!y120) (some false) (gd (InR x90 x89.length) (andO (F59 N (x89.getD x90.toNat (Ty.dflt (.int .i64)))) fun y123 => cond (!y123) (some false) (gd (0 ≤ x90 ∧ x90 ≤ (x88.length : Int)) (gd (InR x90 x88.length) (andO (F66 N (x88.take x90.toNat) (x88.getD x90.toNat (Ty.dflt (.int .i64)))) fun y127 => cond y127 (some false) (nx109 x87 x88 x89 (IntKind.i64.wrap (x90 + (1 : Int))))))))))) (F44_j0 N)
def F44_l0 (N : Nat) : Nat → Int → (List Int) → (List Int) → Int → Option (Bool) := loopF (F44_l0_b N) (fun _ _ _ _ => none)
theorem F44_l0_s (N : Nat) {k : Nat} (hk : 0 < k) (x87 : Int) (x88 : (List Int)) (x89 : (List Int)) (x90 : Int) : F44_l0 N k x87 x88 x89 x90 = F44_l0_b N (F44_l0 N (k - 1)) x87 x88 x89 x90 := by
  cases k with
  | zero => exact absurd hk (Nat.lt_irrefl 0)
  | succ m => rfl
def F44 (N : Nat) (a0 : (Int × ((List Int) × (List Int)))) : Option (Bool) :=
  andO (F54 N a0.1 (1 : Int) (16 : Int)) fun y2 => cond (!y2) (some false) (cond (decide ((a0.2.1.length : Int) > a0.1)) (some false) (cond ((a0.2.2.length : Int) != (a0.2.1.length : Int)) (some false) (F44_l0 N N a0.1 a0.2.1 a0.2.2 (0 : Int))))
theorem ok44 (N : Nat) (a0 : (Int × ((List Int) × (List Int)))) {r : Bool} (h : F44 N a0 = some r) : Con Go.Proofs.Tryd.prog 44 [.agg [.v (.int .i64) a0.1, .v (.sl (.int .i64)) a0.2.1, .v (.sl (.int .i64)) a0.2.2]] [.lf (.v .bool r)] := by
  refine ctr [.lf (.v .bool)] T_ok Go.Proofs.Tryd.func44 rfl fun w0 E0 ht => ?_
  unfold F44 at h
  show VW _ _ _ _ _ (retQ _ _ _ _) _
  refine sR T_ok [1] [0] ⟨[(1, .lf (.ptr 0 0 0 0))], [bx [.v (.int .i64) a0.1, .v (.sl (.int .i64)) a0.2.1, .v (.sl (.int .i64)) a0.2.2] 28]⟩ (tn 2) ?_
  refine VW.seq ?_
  refine VW.seq ?_
  refine VW.region ?_
  refine sG T_ok 2 [1, 5] [0] ⟨[(1, .lf (.ptr 0 0 0 0)), (5, I a0.1)], [bx [.v (.int .i64) a0.1, .v (.sl (.int .i64)) a0.2.1, .v (.sl (.int .i64)) a0.2.2] 28]⟩ (tn 2) ?_
  obtain ⟨y2, hy, h⟩ := andO_some h
  refine cal false [.t (.int .i64), .t (.int .i64), .t (.int .i64)] [] (some 6) T_ok (ok54 N _ _ _ hy) ?_
  refine sG T_ok 2 [1, 8] [0] ⟨[(1, .lf (.ptr 0 0 0 0)), (8, B (!y2))], [bx [.v (.int .i64) a0.1, .v (.sl (.int .i64)) a0.2.1, .v (.sl (.int .i64)) a0.2.2] 28]⟩ (tn 2) ?_
  refine spB 8 h (fun h => ?_) (fun h => ?_)
  · refine sN T_ok [1, 24] [0] ⟨[(1, .lf (.ptr 0 0 0 0)), (24, B true)], [bx [.v (.int .i64) a0.1, .v (.sl (.int .i64)) a0.2.1, .v (.sl (.int .i64)) a0.2.2] 28]⟩ (tn 16) ?_
    refine VW.cond (b := true) (by kernel_rfl) (fun _ => ?_) (fun h' => nomatch h')
    refine sR T_ok [2] [] ⟨[(2, B false)], []⟩ (tn 1) ?_
    refine VW.ret ?_
    replace h := Option.some.inj h
    subst h
    exact rt []
  refine sG T_ok 8 [1, 16] [0] ⟨[(1, .lf (.ptr 0 0 0 0)), (16, B (decide ((a0.2.1.length : Int) > a0.1)))], [bx [.v (.int .i64) a0.1, .v (.sl (.int .i64)) a0.2.1, .v (.sl (.int .i64)) a0.2.2] 28]⟩ (tn 8) ?_
  refine spB 16 h (fun h => ?_) (fun h => ?_)
  · refine sN T_ok [1, 24] [0] ⟨[(1, .lf (.ptr 0 0 0 0)), (24, B true)], [bx [.v (.int .i64) a0.1, .v (.sl (.int .i64)) a0.2.1, .v (.sl (.int .i64)) a0.2.2] 28]⟩ (tn 8) ?_
    refine VW.cond (b := true) (by kernel_rfl) (fun _ => ?_) (fun h' => nomatch h')
    refine sR T_ok [2] [] ⟨[(2, B false)], []⟩ (tn 1) ?_
    refine VW.ret ?_
    replace h := Option.some.inj h
    subst h
    exact rt []
  refine sN T_ok [1, 24] [0] ⟨[(1, .lf (.ptr 0 0 0 0)), (24, B ((a0.2.2.length : Int) != (a0.2.1.length : Int)))], [bx [.v (.int .i64) a0.1, .v (.sl (.int .i64)) a0.2.1, .v (.sl (.int .i64)) a0.2.2] 28]⟩ (tn 8) ?_
  refine cnd h (fun h => ?_) (fun h => ?_)
  · refine sR T_ok [2] [] ⟨[(2, B false)], []⟩ (tn 1) ?_
    refine VW.ret ?_
    replace h := Option.some.inj h
    subst h
    exact rt []
  refine VW.skip ?_
  refine VW.join (fun s => s = ⟨[], []⟩ ∧ F44_j0 N = some r) ?_ ?_
  · refine sR T_ok [1, 3] [0] ⟨[(1, .lf (.ptr 0 0 0 0)), (3, I (0 : Int))], [bx [.v (.int .i64) a0.1, .v (.sl (.int .i64)) a0.2.1, .v (.sl (.int .i64)) a0.2.2] 28]⟩ (tn 1) ?_
    refine VW.block ?_
    refine lop (fun k s => ∃ (x87 : Int) (x88 : (List Int)) (x89 : (List Int)) (x90 : Int), s = ⟨[(1, .lf (.ptr 0 0 0 0)), (3, I x90)], [bx [.v (.int .i64) x87, .v (.sl (.int .i64)) x88, .v (.sl (.int .i64)) x89] 28]⟩ ∧ F44_l0 N k x87 x88 x89 x90 = some r) N [.ren [1, 3] [0]] ⟨a0.1, a0.2.1, a0.2.2, (0 : Int), rfl, h⟩ ?_
    rintro k109 s ⟨x87, x88, x89, x90, rfl, h⟩
    cases k109 with
    | zero => cases show none = some r from h
    | succ k109 =>
      replace h : F44_l0_b N (F44_l0 N k109) x87 x88 x89 x90 = some r := h
      unfold F44_l0_b at h
      refine VW.seq ?_
      refine sR T_ok [1, 3, 29] [0] ⟨[(1, .lf (.ptr 0 0 0 0)), (3, I x90), (29, B (decide (x90 < (x88.length : Int))))], [bx [.v (.int .i64) x87, .v (.sl (.int .i64)) x88, .v (.sl (.int .i64)) x89] 28]⟩ (tn 5) ?_
      refine cnd h (fun h => ?_) (fun h => ?_)
      · refine VW.skip ?_
        refine VW.seq ?_
        refine VW.block ?_
        refine VW.seq ?_
        obtain ⟨g119, h⟩ := gd_some h
        obtain ⟨y120, hy120, h⟩ := andO_some h
        rcases Bool.eq_false_or_eq_true (!y120) with hb121 | hb121
        · replace h := cond_t h hb121
          refine VW.drawn (by kernel_rfl) [some (32, .lf (.ptr 0 0 0 1)), some (33, .lf (.v (.sl (.int .i64)) x88)), some (34, I x90), some (35, .lf (.fp (.int .i64) (x88.getD x90.toNat (Ty.dflt (.int .i64))) 0)), some (36, I (x88.getD x90.toNat (Ty.dflt (.int .i64)))), some (37, B y120), some (38, B (!y120)), some (39, B true), some (40, .unk), some (41, .unk), some (42, .unk), some (43, .unk), some (44, .unk), some (45, .unk), some (46, .unk), some (47, B true), some (48, B true), some (49, .unk), some (50, .unk), some (51, .unk), some (52, .unk), some (53, .unk), some (54, .unk), some (55, .unk), some (56, .unk), some (57, .unk), some (58, .unk), some (59, B true)] [] [[bx [.v (.int .i64) x87, .v (.sl (.int .i64)) x88, .v (.sl (.int .i64)) x89] 28]] [(0, 0), (1, 0), (2, 0), (3, 0), (4, 0), (5, 0), (6, 0), (7, 0), (8, 0), (9, 0), (10, 0), (11, 0), (12, 0), (13, 0), (14, 0), (15, 0), (16, 0), (17, 0), (18, 0), (19, 0), (20, 0), (21, 0), (22, 0), (23, 0), (24, 0), (25, 0), (26, 0), (27, 0)] [1, 3, 59] [0] (s' := ⟨[(1, .lf (.ptr 0 0 0 0)), (3, I x90), (59, B true)], [bx [.v (.int .i64) x87, .v (.sl (.int .i64)) x88, .v (.sl (.int .i64)) x89] 28]⟩) (by kernel_rfl) (by kernel_rfl) ⟨⟨_, rfl, Stp.ev T_ok (m := .dp) (φ := True) (by kernel_rfl) trivial⟩,
    ⟨_, rfl, Stp.ev T_ok (m := .dp) (φ := True) (by kernel_rfl) trivial⟩,
    ⟨_, rfl, Stp.ev T_ok (m := .dp) (φ := True) (by kernel_rfl) trivial⟩,
    ⟨_, rfl, Stp.ev T_ok (m := .dp) (φ := InR x90 x88.length) (by kernel_rfl) g119⟩,
    ⟨_, rfl, Stp.ev T_ok (m := .dp) (φ := True) (by kernel_rfl) trivial⟩,
    ⟨_, rfl, Stp.eq (Stp.call false [.t (.int .i64)] [] T_ok (d := some 37) (by kernel_rfl) (ok59 N _ hy120) rfl) (by kernel_rfl) (by kernel_rfl)⟩,
    ⟨_, rfl, Stp.ev T_ok (m := .dp) (φ := True) (by kernel_rfl) trivial⟩,
    ⟨_, rfl, Stp.lit (d := 39) (b := (!y120)) (c := true) (Stp.ev T_ok (m := .dp) (φ := True) (by kernel_rfl) trivial) hb121⟩,
    ⟨_, rfl, Stp.off (d := 39) (b := true) rfl rfl rfl (by kernel_rfl) (by decide) rfl (Nat.le_of_ble_eq_true rfl)⟩,
    ⟨_, rfl, Stp.off (d := 39) (b := true) rfl rfl rfl (by kernel_rfl) (by decide) rfl (Nat.le_of_ble_eq_true rfl)⟩,
    ⟨_, rfl, Stp.off (d := 39) (b := true) rfl rfl rfl (by kernel_rfl) (by decide) rfl (Nat.le_of_ble_eq_true rfl)⟩,
    ⟨_, rfl, Stp.off (d := 39) (b := true) rfl rfl rfl (by kernel_rfl) (by decide) rfl (Nat.le_of_ble_eq_true rfl)⟩,
    ⟨_, rfl, Stp.off (d := 39) (b := true) rfl rfl rfl (by kernel_rfl) (by decide) rfl (Nat.le_of_ble_eq_true rfl)⟩,
    ⟨_, rfl, Stp.off (d := 39) (b := true) rfl rfl rfl (by kernel_rfl) (by decide) rfl (Nat.le_of_ble_eq_true rfl)⟩,
    ⟨_, rfl, Stp.off (d := 39) (b := true) rfl rfl rfl (by kernel_rfl) (by decide) rfl (Nat.le_of_ble_eq_true rfl)⟩,
    ⟨_, rfl, Stp.ev T_ok (m := .dp) (φ := True) (by kernel_rfl) trivial⟩,
    ⟨_, rfl, Stp.ev T_ok (m := .dp) (φ := True) (by kernel_rfl) trivial⟩,
    ⟨_, rfl, Stp.off (d := 48) (b := true) rfl rfl rfl (by kernel_rfl) (by decide) rfl (Nat.le_of_ble_eq_true rfl)⟩,
    ⟨_, rfl, Stp.off (d := 48) (b := true) rfl rfl rfl (by kernel_rfl) (by decide) rfl (Nat.le_of_ble_eq_true rfl)⟩,
    ⟨_, rfl, Stp.off (d := 48) (b := true) rfl rfl rfl (by kernel_rfl) (by decide) rfl (Nat.le_of_ble_eq_true rfl)⟩,
    ⟨_, rfl, Stp.off (d := 48) (b := true) rfl rfl rfl (by kernel_rfl) (by decide) rfl (Nat.le_of_ble_eq_true rfl)⟩,
    ⟨_, rfl, Stp.off (d := 48) (b := true) rfl rfl rfl (by kernel_rfl) (by decide) rfl (Nat.le_of_ble_eq_true rfl)⟩,
    ⟨_, rfl, Stp.off (d := 48) (b := true) rfl rfl rfl (by kernel_rfl) (by decide) rfl (Nat.le_of_ble_eq_true rfl)⟩,
    ⟨_, rfl, Stp.off (d := 48) (b := true) rfl rfl rfl (by kernel_rfl) (by decide) rfl (Nat.le_of_ble_eq_true rfl)⟩,
    ⟨_, rfl, Stp.off (d := 48) (b := true) rfl rfl rfl (by kernel_rfl) (by decide) rfl (Nat.le_of_ble_eq_true rfl)⟩,
    ⟨_, rfl, Stp.off (d := 48) (b := true) rfl rfl rfl (by kernel_rfl) (by decide) rfl (Nat.le_of_ble_eq_true rfl)⟩,
    ⟨_, rfl, Stp.off (d := 48) (b := true) rfl rfl rfl (by kernel_rfl) (by decide) rfl (Nat.le_of_ble_eq_true rfl)⟩,
    ⟨_, rfl, Stp.ev T_ok (m := .dp) (φ := True) (by kernel_rfl) trivial⟩, trivial⟩ (by kernel_rfl) ?_
          refine VW.cond (b := true) (by kernel_rfl) (fun _ => ?_) (fun h' => nomatch h')
          refine sR T_ok [2] [] ⟨[(2, B false)], []⟩ (tn 1) ?_
          refine VW.ret ?_
          replace h := Option.some.inj h
          subst h
          exact rt []
        replace h := cond_f h hb121
        obtain ⟨g122, h⟩ := gd_some h
        obtain ⟨y123, hy123, h⟩ := andO_some h
        rcases Bool.eq_false_or_eq_true (!y123) with hb124 | hb124
        · replace h := cond_t h hb124
          refine VW.drawn (by kernel_rfl) [some (32, .lf (.ptr 0 0 0 1)), some (33, .lf (.v (.sl (.int .i64)) x88)), some (34, I x90), some (35, .lf (.fp (.int .i64) (x88.getD x90.toNat (Ty.dflt (.int .i64))) 0)), some (36, I (x88.getD x90.toNat (Ty.dflt (.int .i64)))), some (37, B y120), some (38, B (!y120)), some (39, B false), some (40, .lf (.ptr 0 0 0 2)), some (41, .lf (.v (.sl (.int .i64)) x89)), some (42, I x90), some (43, .lf (.fp (.int .i64) (x89.getD x90.toNat (Ty.dflt (.int .i64))) 0)), some (44, I (x89.getD x90.toNat (Ty.dflt (.int .i64)))), some (45, B y123), some (46, B (!y123)), some (47, B (!y123)), some (48, B true), some (49, .unk), some (50, .unk), some (51, .unk), some (52, .unk), some (53, .unk), some (54, .unk), some (55, .unk), some (56, .unk), some (57, .unk), some (58, .unk), some (59, B true)] [] [[bx [.v (.int .i64) x87, .v (.sl (.int .i64)) x88, .v (.sl (.int .i64)) x89] 28]] [(0, 0), (1, 0), (2, 0), (3, 0), (4, 0), (5, 0), (6, 0), (7, 0), (8, 0), (9, 0), (10, 0), (11, 0), (12, 0), (13, 0), (14, 0), (15, 0), (16, 0), (17, 0), (18, 0), (19, 0), (20, 0), (21, 0), (22, 0), (23, 0), (24, 0), (25, 0), (26, 0), (27, 0)] [1, 3, 59] [0] (s' := ⟨[(1, .lf (.ptr 0 0 0 0)), (3, I x90), (59, B true)], [bx [.v (.int .i64) x87, .v (.sl (.int .i64)) x88, .v (.sl (.int .i64)) x89] 28]⟩) (by kernel_rfl) (by kernel_rfl) ⟨⟨_, rfl, Stp.ev T_ok (m := .dp) (φ := True) (by kernel_rfl) trivial⟩,
    ⟨_, rfl, Stp.ev T_ok (m := .dp) (φ := True) (by kernel_rfl) trivial⟩,
    ⟨_, rfl, Stp.ev T_ok (m := .dp) (φ := True) (by kernel_rfl) trivial⟩,
    ⟨_, rfl, Stp.ev T_ok (m := .dp) (φ := InR x90 x88.length) (by kernel_rfl) g119⟩,
    ⟨_, rfl, Stp.ev T_ok (m := .dp) (φ := True) (by kernel_rfl) trivial⟩,
    ⟨_, rfl, Stp.eq (Stp.call false [.t (.int .i64)] [] T_ok (d := some 37) (by kernel_rfl) (ok59 N _ hy120) rfl) (by kernel_rfl) (by kernel_rfl)⟩,
    ⟨_, rfl, Stp.ev T_ok (m := .dp) (φ := True) (by kernel_rfl) trivial⟩,
    ⟨_, rfl, Stp.lit (d := 39) (b := (!y120)) (c := false) (Stp.ev T_ok (m := .dp) (φ := True) (by kernel_rfl) trivial) hb121⟩,
    ⟨_, rfl, Stp.on (d := 39) (b := false) rfl rfl rfl (by kernel_rfl) rfl (Stp.ev T_ok (m := .dp) (φ := True) (by kernel_rfl) trivial)⟩,
    ⟨_, rfl, Stp.on (d := 39) (b := false) rfl rfl rfl (by kernel_rfl) rfl (Stp.ev T_ok (m := .dp) (φ := True) (by kernel_rfl) trivial)⟩,
    ⟨_, rfl, Stp.on (d := 39) (b := false) rfl rfl rfl (by kernel_rfl) rfl (Stp.ev T_ok (m := .dp) (φ := True) (by kernel_rfl) trivial)⟩,
    ⟨_, rfl, Stp.on (d := 39) (b := false) rfl rfl rfl (by kernel_rfl) rfl (Stp.ev T_ok (m := .dp) (φ := InR x90 x89.length) (by kernel_rfl) g122)⟩,
    ⟨_, rfl, Stp.on (d := 39) (b := false) rfl rfl rfl (by kernel_rfl) rfl (Stp.ev T_ok (m := .dp) (φ := True) (by kernel_rfl) trivial)⟩,
    ⟨_, rfl, Stp.eq (Stp.on (d := 39) (b := false) rfl rfl rfl (by kernel_rfl) rfl (Stp.call false [.t (.int .i64)] [] T_ok (d := some 45) (by kernel_rfl) (ok59 N _ hy123) rfl)) (by kernel_rfl) (by kernel_rfl)⟩,
    ⟨_, rfl, Stp.on (d := 39) (b := false) rfl rfl rfl (by kernel_rfl) rfl (Stp.ev T_ok (m := .dp) (φ := True) (by kernel_rfl) trivial)⟩,
    ⟨_, rfl, Stp.ev T_ok (m := .dp) (φ := True) (by kernel_rfl) trivial⟩,
    ⟨_, rfl, Stp.lit (d := 48) (b := (!y123)) (c := true) (Stp.ev T_ok (m := .dp) (φ := True) (by kernel_rfl) trivial) hb124⟩,
    ⟨_, rfl, Stp.off (d := 48) (b := true) rfl rfl rfl (by kernel_rfl) (by decide) rfl (Nat.le_of_ble_eq_true rfl)⟩,
    ⟨_, rfl, Stp.off (d := 48) (b := true) rfl rfl rfl (by kernel_rfl) (by decide) rfl (Nat.le_of_ble_eq_true rfl)⟩,
    ⟨_, rfl, Stp.off (d := 48) (b := true) rfl rfl rfl (by kernel_rfl) (by decide) rfl (Nat.le_of_ble_eq_true rfl)⟩,
    ⟨_, rfl, Stp.off (d := 48) (b := true) rfl rfl rfl (by kernel_rfl) (by decide) rfl (Nat.le_of_ble_eq_true rfl)⟩,
    ⟨_, rfl, Stp.off (d := 48) (b := true) rfl rfl rfl (by kernel_rfl) (by decide) rfl (Nat.le_of_ble_eq_true rfl)⟩,
    ⟨_, rfl, Stp.off (d := 48) (b := true) rfl rfl rfl (by kernel_rfl) (by decide) rfl (Nat.le_of_ble_eq_true rfl)⟩,
    ⟨_, rfl, Stp.off (d := 48) (b := true) rfl rfl rfl (by kernel_rfl) (by decide) rfl (Nat.le_of_ble_eq_true rfl)⟩,
    ⟨_, rfl, Stp.off (d := 48) (b := true) rfl rfl rfl (by kernel_rfl) (by decide) rfl (Nat.le_of_ble_eq_true rfl)⟩,
    ⟨_, rfl, Stp.off (d := 48) (b := true) rfl rfl rfl (by kernel_rfl) (by decide) rfl (Nat.le_of_ble_eq_true rfl)⟩,
    ⟨_, rfl, Stp.off (d := 48) (b := true) rfl rfl rfl (by kernel_rfl) (by decide) rfl (Nat.le_of_ble_eq_true rfl)⟩,
    ⟨_, rfl, Stp.ev T_ok (m := .dp) (φ := True) (by kernel_rfl) trivial⟩, trivial⟩ (by kernel_rfl) ?_
          refine VW.cond (b := true) (by kernel_rfl) (fun _ => ?_) (fun h' => nomatch h')
          refine sR T_ok [2] [] ⟨[(2, B false)], []⟩ (tn 1) ?_
          refine VW.ret ?_
          replace h := Option.some.inj h
          subst h
          exact rt []
        replace h := cond_f h hb124
        obtain ⟨g125, h⟩ := gd_some h
        obtain ⟨g126, h⟩ := gd_some h
        obtain ⟨y127, hy127, h⟩ := andO_some h
        refine VW.drawn (by kernel_rfl) [some (32, .lf (.ptr 0 0 0 1)), some (33, .lf (.v (.sl (.int .i64)) x88)), some (34, I x90), some (35, .lf (.fp (.int .i64) (x88.getD x90.toNat (Ty.dflt (.int .i64))) 0)), some (36, I (x88.getD x90.toNat (Ty.dflt (.int .i64)))), some (37, B y120), some (38, B (!y120)), some (39, B false), some (40, .lf (.ptr 0 0 0 2)), some (41, .lf (.v (.sl (.int .i64)) x89)), some (42, I x90), some (43, .lf (.fp (.int .i64) (x89.getD x90.toNat (Ty.dflt (.int .i64))) 0)), some (44, I (x89.getD x90.toNat (Ty.dflt (.int .i64)))), some (45, B y123), some (46, B (!y123)), some (47, B (!y123)), some (48, B false), some (49, .lf (.ptr 0 0 0 1)), some (50, .lf (.v (.sl (.int .i64)) x88)), some (51, I x90), some (52, .lf (.v (.sl (.int .i64)) (x88.take x90.toNat))), some (53, .lf (.ptr 0 0 0 1)), some (54, .lf (.v (.sl (.int .i64)) x88)), some (55, I x90), some (56, .lf (.fp (.int .i64) (x88.getD x90.toNat (Ty.dflt (.int .i64))) 0)), some (57, I (x88.getD x90.toNat (Ty.dflt (.int .i64)))), some (58, B y127), some (59, B y127)] [] [[bx [.v (.int .i64) x87, .v (.sl (.int .i64)) x88, .v (.sl (.int .i64)) x89] 28]] [(0, 0), (1, 0), (2, 0), (3, 0), (4, 0), (5, 0), (6, 0), (7, 0), (8, 0), (9, 0), (10, 0), (11, 0), (12, 0), (13, 0), (14, 0), (15, 0), (16, 0), (17, 0), (18, 0), (19, 0), (20, 0), (21, 0), (22, 0), (23, 0), (24, 0), (25, 0), (26, 0), (27, 0)] [1, 3, 59] [0] (s' := ⟨[(1, .lf (.ptr 0 0 0 0)), (3, I x90), (59, B y127)], [bx [.v (.int .i64) x87, .v (.sl (.int .i64)) x88, .v (.sl (.int .i64)) x89] 28]⟩) (by kernel_rfl) (by kernel_rfl) ⟨⟨_, rfl, Stp.ev T_ok (m := .dp) (φ := True) (by kernel_rfl) trivial⟩,
    ⟨_, rfl, Stp.ev T_ok (m := .dp) (φ := True) (by kernel_rfl) trivial⟩,
    ⟨_, rfl, Stp.ev T_ok (m := .dp) (φ := True) (by kernel_rfl) trivial⟩,
    ⟨_, rfl, Stp.ev T_ok (m := .dp) (φ := InR x90 x88.length) (by kernel_rfl) g119⟩,
    ⟨_, rfl, Stp.ev T_ok (m := .dp) (φ := True) (by kernel_rfl) trivial⟩,
    ⟨_, rfl, Stp.eq (Stp.call false [.t (.int .i64)] [] T_ok (d := some 37) (by kernel_rfl) (ok59 N _ hy120) rfl) (by kernel_rfl) (by kernel_rfl)⟩,
    ⟨_, rfl, Stp.ev T_ok (m := .dp) (φ := True) (by kernel_rfl) trivial⟩,
    ⟨_, rfl, Stp.lit (d := 39) (b := (!y120)) (c := false) (Stp.ev T_ok (m := .dp) (φ := True) (by kernel_rfl) trivial) hb121⟩,
    ⟨_, rfl, Stp.on (d := 39) (b := false) rfl rfl rfl (by kernel_rfl) rfl (Stp.ev T_ok (m := .dp) (φ := True) (by kernel_rfl) trivial)⟩,
    ⟨_, rfl, Stp.on (d := 39) (b := false) rfl rfl rfl (by kernel_rfl) rfl (Stp.ev T_ok (m := .dp) (φ := True) (by kernel_rfl) trivial)⟩,
    ⟨_, rfl, Stp.on (d := 39) (b := false) rfl rfl rfl (by kernel_rfl) rfl (Stp.ev T_ok (m := .dp) (φ := True) (by kernel_rfl) trivial)⟩,
    ⟨_, rfl, Stp.on (d := 39) (b := false) rfl rfl rfl (by kernel_rfl) rfl (Stp.ev T_ok (m := .dp) (φ := InR x90 x89.length) (by kernel_rfl) g122)⟩,
    ⟨_, rfl, Stp.on (d := 39) (b := false) rfl rfl rfl (by kernel_rfl) rfl (Stp.ev T_ok (m := .dp) (φ := True) (by kernel_rfl) trivial)⟩,
    ⟨_, rfl, Stp.eq (Stp.on (d := 39) (b := false) rfl rfl rfl (by kernel_rfl) rfl (Stp.call false [.t (.int .i64)] [] T_ok (d := some 45) (by kernel_rfl) (ok59 N _ hy123) rfl)) (by kernel_rfl) (by kernel_rfl)⟩,
    ⟨_, rfl, Stp.on (d := 39) (b := false) rfl rfl rfl (by kernel_rfl) rfl (Stp.ev T_ok (m := .dp) (φ := True) (by kernel_rfl) trivial)⟩,
    ⟨_, rfl, Stp.ev T_ok (m := .dp) (φ := True) (by kernel_rfl) trivial⟩,
    ⟨_, rfl, Stp.lit (d := 48) (b := (!y123)) (c := false) (Stp.ev T_ok (m := .dp) (φ := True) (by kernel_rfl) trivial) hb124⟩,
    ⟨_, rfl, Stp.on (d := 48) (b := false) rfl rfl rfl (by kernel_rfl) rfl (Stp.ev T_ok (m := .dp) (φ := True) (by kernel_rfl) trivial)⟩,
    ⟨_, rfl, Stp.on (d := 48) (b := false) rfl rfl rfl (by kernel_rfl) rfl (Stp.ev T_ok (m := .dp) (φ := True) (by kernel_rfl) trivial)⟩,
    ⟨_, rfl, Stp.on (d := 48) (b := false) rfl rfl rfl (by kernel_rfl) rfl (Stp.ev T_ok (m := .dp) (φ := True) (by kernel_rfl) trivial)⟩,
    ⟨_, rfl, Stp.on (d := 48) (b := false) rfl rfl rfl (by kernel_rfl) rfl (Stp.ev T_ok (m := .dp) (φ := 0 ≤ x90 ∧ x90 ≤ (x88.length : Int)) (by kernel_rfl) g125)⟩,
    ⟨_, rfl, Stp.on (d := 48) (b := false) rfl rfl rfl (by kernel_rfl) rfl (Stp.ev T_ok (m := .dp) (φ := True) (by kernel_rfl) trivial)⟩,
    ⟨_, rfl, Stp.on (d := 48) (b := false) rfl rfl rfl (by kernel_rfl) rfl (Stp.ev T_ok (m := .dp) (φ := True) (by kernel_rfl) trivial)⟩,
    ⟨_, rfl, Stp.on (d := 48) (b := false) rfl rfl rfl (by kernel_rfl) rfl (Stp.ev T_ok (m := .dp) (φ := True) (by kernel_rfl) trivial)⟩,
    ⟨_, rfl, Stp.on (d := 48) (b := false) rfl rfl rfl (by kernel_rfl) rfl (Stp.ev T_ok (m := .dp) (φ := InR x90 x88.length) (by kernel_rfl) g126)⟩,
    ⟨_, rfl, Stp.on (d := 48) (b := false) rfl rfl rfl (by kernel_rfl) rfl (Stp.ev T_ok (m := .dp) (φ := True) (by kernel_rfl) trivial)⟩,
    ⟨_, rfl, Stp.eq (Stp.on (d := 48) (b := false) rfl rfl rfl (by kernel_rfl) rfl (Stp.call false [.t (.sl (.int .i64)), .t (.int .i64)] [] T_ok (d := some 58) (by kernel_rfl) (ok66 N _ _ hy127) rfl)) (by kernel_rfl) (by kernel_rfl)⟩,
    ⟨_, rfl, Stp.ev T_ok (m := .dp) (φ := True) (by kernel_rfl) trivial⟩, trivial⟩ (by kernel_rfl) ?_
        refine cnd h (fun h => ?_) (fun h => ?_)
        · refine sR T_ok [2] [] ⟨[(2, B false)], []⟩ (tn 1) ?_
          refine VW.ret ?_
          replace h := Option.some.inj h
          subst h
          exact rt []
        refine VW.skip ?_
        refine rR T_ok [1, 3] [0] ⟨[(1, .lf (.ptr 0 0 0 0)), (3, I (IntKind.i64.wrap (x90 + (1 : Int))))], [bx [.v (.int .i64) x87, .v (.sl (.int .i64)) x88, .v (.sl (.int .i64)) x89] 28]⟩ (tn 3) ?_
        exact aro [.ren [1, 3] [0]] ⟨x87, x88, x89, (IntKind.i64.wrap (x90 + (1 : Int))), rfl, h⟩
      refine VW.exit ?_
      exact arv [.ren [] []] ⟨rfl, h⟩
  rintro s ⟨rfl, h⟩
  unfold F44_j0 at h
  refine sR T_ok [2] [] ⟨[(2, B true)], []⟩ (tn 1) ?_
  refine VW.ret ?_
  replace h := Option.some.inj h
  subst h
  exact rt []

/- loop.example/g00844/impl.in -/
def F67 (N : Nat) (a0 : Int) (a1 : Int) (a2 : Int) : Option (Bool) :=
  cond (decide (a0 ≥ a1)) (some (decide (a0 ≤ a2))) (some false)
theorem ok67 (N : Nat) (a0 : Int) (a1 : Int) (a2 : Int) {r : Bool} (h : F67 N a0 a1 a2 = some r) : Con Go.Proofs.Tryd.prog 67 [I a0, I a1, I a2] [.lf (.v .bool r)] := by
  refine ctr [.lf (.v .bool)] T_ok Go.Proofs.Tryd.func67 rfl fun w0 E0 ht => ?_
  unfold F67 at h
  show VW _ _ _ _ _ (retQ _ _ _ _) _
  refine sR T_ok [0, 1, 2] [] ⟨[(0, I a0), (1, I a1), (2, I a2)], []⟩ (tn 1) ?_
  refine VW.seq ?_
  refine VW.region ?_
  refine sG T_ok 4 [0, 2, 10] [] ⟨[(0, I a0), (2, I a2), (10, B (decide (a0 ≥ a1)))], []⟩ (tn 4) ?_
  refine spB 10 h (fun h => ?_) (fun h => ?_)
  · refine sN T_ok [6] [] ⟨[(6, B (decide (a0 ≤ a2)))], []⟩ (tn 5) ?_
    refine VW.ret ?_
    replace h := Option.some.inj h
    subst h
    exact rt []
  refine sN T_ok [6] [] ⟨[(6, B false)], []⟩ (tn 5) ?_
  refine VW.ret ?_
  replace h := Option.some.inj h
  subst h
  exact rt []

/- loop.example/g00844/impl.isCap -/
def F46 (N : Nat) (a0 : Int) : Option (Bool) :=
  andO (F67 N a0 (1 : Int) (16 : Int)) fun y1 => some y1
theorem ok46 (N : Nat) (a0 : Int) {r : Bool} (h : F46 N a0 = some r) : Con Go.Proofs.Tryd.prog 46 [I a0] [.lf (.v .bool r)] := by
  refine ctr [.lf (.v .bool)] T_ok Go.Proofs.Tryd.func46 rfl fun w0 E0 ht => ?_
  unfold F46 at h
  show VW _ _ _ _ _ (retQ _ _ _ _) _
  refine sR T_ok [0] [] ⟨[(0, I a0)], []⟩ (tn 1) ?_
  refine VW.seq ?_
  refine VW.region ?_
  refine sG T_ok 1 [3] [] ⟨[(3, I a0)], []⟩ (tn 1) ?_
  obtain ⟨y1, hy, h⟩ := andO_some h
  refine cal false [.t (.int .i64), .t (.int .i64), .t (.int .i64)] [] (some 4) T_ok (ok67 N _ _ _ hy) ?_
  refine sN T_ok [2] [] ⟨[(2, B y1)], []⟩ (tn 1) ?_
  refine VW.ret ?_
  replace h := Option.some.inj h
  subst h
  exact rt []

/- loop.example/g00844/impl.isNum -/
def F47 (N : Nat) (a0 : Int) : Option (Bool) :=
  andO (F67 N a0 (-1000000 : Int) (1000000 : Int)) fun y1 => some y1
theorem ok47 (N : Nat) (a0 : Int) {r : Bool} (h : F47 N a0 = some r) : Con Go.Proofs.Tryd.prog 47 [I a0] [.lf (.v .bool r)] := by
  refine ctr [.lf (.v .bool)] T_ok Go.Proofs.Tryd.func47 rfl fun w0 E0 ht => ?_
  unfold F47 at h
  show VW _ _ _ _ _ (retQ _ _ _ _) _
  refine sR T_ok [0] [] ⟨[(0, I a0)], []⟩ (tn 1) ?_
  refine VW.seq ?_
  refine VW.region ?_
  refine sG T_ok 1 [3] [] ⟨[(3, I a0)], []⟩ (tn 1) ?_
  obtain ⟨y1, hy, h⟩ := andO_some h
  refine cal false [.t (.int .i64), .t (.int .i64), .t (.int .i64)] [] (some 4) T_ok (ok67 N _ _ _ hy) ?_
  refine sN T_ok [2] [] ⟨[(2, B y1)], []⟩ (tn 1) ?_
  refine VW.ret ?_
  replace h := Option.some.inj h
  subst h
  exact rt []

/- slices.Index[[]int,int] -/
def F48_j0 (N : Nat) : Option (Int) :=
  some (-1 : Int)
def F48_l0_b (N : Nat) (a0 : (List Int)) (a1 : Int) (nx19 : Int → Int → Option (Int)) (x15 : Int) (x16 : Int) : Option (Int) :=
  cond (decide (x16 < x15)) (gd (InR x16 a0.length) (cond (a1 == (a0.getD x16.toNat (Ty.dflt (.int .i64)))) (some x16) (nx19 x15 (IntKind.i64.wrap (x16 + (1 : Int)))))) (F48_j0 N)
def F48_l0 (N : Nat) (a0 : (List Int)) (a1 : Int) : Nat → Int → Int → Option (Int) := loopF (F48_l0_b N a0 a1) (fun _ _ => none)
theorem F48_l0_s (N : Nat) (a0 : (List Int)) (a1 : Int) {k : Nat} (hk : 0 < k) (x15 : Int) (x16 : Int) : F48_l0 N a0 a1 k x15 x16 = F48_l0_b N a0 a1 (F48_l0 N a0 a1 (k - 1)) x15 x16 := by
  cases k with
  | zero => exact absurd hk (Nat.lt_irrefl 0)
  | succ m => rfl
def F48 (N : Nat) (a0 : (List Int)) (a1 : Int) : Option (Int) :=
  F48_l0 N a0 a1 N (a0.length : Int) (0 : Int)
theorem ok48 (N : Nat) (a0 : (List Int)) (a1 : Int) {r : Int} (h : F48 N a0 a1 = some r) : Con Go.Proofs.Tryd.prog 48 [.lf (.v (.sl (.int .i64)) a0), I a1] [.lf (.v (.int .i64) r)] := by
  refine ctr [.lf (.v (.int .i64))] T_ok Go.Proofs.Tryd.func48 rfl fun w0 E0 ht => ?_
  unfold F48 at h
  show VW _ _ _ _ _ (retQ _ _ _ _) _
  refine sR T_ok [0, 1] [] ⟨[(0, .lf (.v (.sl (.int .i64)) a0)), (1, I a1)], []⟩ (tn 1) ?_
  refine VW.join (fun s => s = ⟨[], []⟩ ∧ F48_j0 N = some r) ?_ ?_
  · refine sR T_ok [0, 1, 7, 8] [] ⟨[(0, .lf (.v (.sl (.int .i64)) a0)), (1, I a1), (7, I (a0.length : Int)), (8, I (0 : Int))], []⟩ (tn 3) ?_
    refine VW.block ?_
    refine lop (fun k s => ∃ (x15 : Int) (x16 : Int), s = ⟨[(0, .lf (.v (.sl (.int .i64)) a0)), (1, I a1), (7, I x15), (8, I x16)], []⟩ ∧ F48_l0 N a0 a1 k x15 x16 = some r) N [.ren [0, 1, 7, 8] []] ⟨(a0.length : Int), (0 : Int), rfl, h⟩ ?_
    rintro k19 s ⟨x15, x16, rfl, h⟩
    cases k19 with
    | zero => cases show none = some r from h
    | succ k19 =>
      replace h : F48_l0_b N a0 a1 (F48_l0 N a0 a1 k19) x15 x16 = some r := h
      unfold F48_l0_b at h
      refine sR T_ok [0, 1, 7, 8, 9] [] ⟨[(0, .lf (.v (.sl (.int .i64)) a0)), (1, I a1), (7, I x15), (8, I x16), (9, B (decide (x16 < x15)))], []⟩ (tn 1) ?_
      refine VW.seq ?_
      refine cnd h (fun h => ?_) (fun h => ?_)
      · refine VW.skip ?_
        refine VW.seq ?_
        refine VW.block ?_
        refine sR T_ok [0, 1, 5, 7, 8] [] ⟨[(0, .lf (.v (.sl (.int .i64)) a0)), (1, I a1), (5, I x16), (7, I x15), (8, I x16)], []⟩ (tn 2) ?_
        obtain ⟨g21, h⟩ := gd_some h
        refine sR T_ok [0, 1, 5, 7, 8, 16] [] ⟨[(0, .lf (.v (.sl (.int .i64)) a0)), (1, I a1), (5, I x16), (7, I x15), (8, I x16), (16, B (a1 == (a0.getD x16.toNat (Ty.dflt (.int .i64)))))], []⟩ (pu 3 (an g21 (tn 2))) ?_
        refine cnd h (fun h => ?_) (fun h => ?_)
        · refine sR T_ok [4] [] ⟨[(4, I x16)], []⟩ (tn 2) ?_
          refine VW.ret ?_
          replace h := Option.some.inj h
          subst h
          exact rt []
        refine VW.skip ?_
        refine rR T_ok [0, 1, 7, 8] [] ⟨[(0, .lf (.v (.sl (.int .i64)) a0)), (1, I a1), (7, I x15), (8, I (IntKind.i64.wrap (x16 + (1 : Int))))], []⟩ (tn 2) ?_
        exact aro [.ren [0, 1, 7, 8] []] ⟨x15, (IntKind.i64.wrap (x16 + (1 : Int))), rfl, h⟩
      refine VW.exit ?_
      exact arv [.ren [] []] ⟨rfl, h⟩
  rintro s ⟨rfl, h⟩
  unfold F48_j0 at h
  refine sR T_ok [4] [] ⟨[(4, I (-1 : Int))], []⟩ (tn 1) ?_
  refine VW.ret ?_
  replace h := Option.some.inj h
  subst h
  exact rt []

/- loop.example/g00844/impl.CacheOk -/
def F15_j0 (N : Nat) : Option (Bool) :=
  some true
def F15_l0_b (N : Nat) (nx77 : Int → (List Int) → (List Int) → (List Int) → Int → Int → Option (Bool)) (x61 : Int) (x62 : (List Int)) (x63 : (List Int)) (x64 : (List Int)) (x65 : Int) (x66 : Int) : Option (Bool) :=
  cond (decide (x66 < x65)) (gd (InR x66 x64.length) (andO (F47 N (x64.getD x66.toNat (Ty.dflt (.int .i64)))) fun y84 => cond (!y84) (some false) (gd (InR x66 x63.length) (andO (F47 N (x63.getD x66.toNat (Ty.dflt (.int .i64)))) fun y86 => cond (!y86) (some false) (andO (F48 N x62 (x64.getD x66.toNat (Ty.dflt (.int .i64)))) fun y87 => cond (y87 != x66) (some false) (nx77 x61 x62 x63 x64 x65 (IntKind.i64.wrap (x66 + (1 : Int))))))))) (F15_j0 N)
def F15_l0 (N : Nat) : Nat → Int → (List Int) → (List Int) → (List Int) → Int → Int → Option (Bool) := loopF (F15_l0_b N) (fun _ _ _ _ _ _ => none)
theorem F15_l0_s (N : Nat) {k : Nat} (hk : 0 < k) (x61 : Int) (x62 : (List Int)) (x63 : (List Int)) (x64 : (List Int)) (x65 : Int) (x66 : Int) : F15_l0 N k x61 x62 x63 x64 x65 x66 = F15_l0_b N (F15_l0 N (k - 1)) x61 x62 x63 x64 x65 x66 := by
  cases k with
  | zero => exact absurd hk (Nat.lt_irrefl 0)
  | succ m => rfl
def F15 (N : Nat) (a0 : (Int × ((List Int) × (List Int)))) : Option (Bool) :=
  andO (F46 N a0.1) fun y2 => cond (!y2) (some false) (cond (decide ((a0.2.1.length : Int) > a0.1)) (some false) (cond ((a0.2.2.length : Int) != (a0.2.1.length : Int)) (some false) (F15_l0 N N a0.1 a0.2.1 a0.2.2 a0.2.1 (a0.2.1.length : Int) (0 : Int))))
theorem ok15 (N : Nat) (a0 : (Int × ((List Int) × (List Int)))) {r : Bool} (h : F15 N a0 = some r) : Con Go.Proofs.Tryd.prog 15 [.agg [.v (.int .i64) a0.1, .v (.sl (.int .i64)) a0.2.1, .v (.sl (.int .i64)) a0.2.2]] [.lf (.v .bool r)] := by
  refine ctr [.lf (.v .bool)] T_ok Go.Proofs.Tryd.func15 rfl fun w0 E0 ht => ?_
  unfold F15 at h
  show VW _ _ _ _ _ (retQ _ _ _ _) _
  refine sR T_ok [1] [0] ⟨[(1, .lf (.ptr 0 0 0 0))], [bx [.v (.int .i64) a0.1, .v (.sl (.int .i64)) a0.2.1, .v (.sl (.int .i64)) a0.2.2] 28]⟩ (tn 2) ?_
  refine VW.seq ?_
  refine VW.seq ?_
  refine VW.region ?_
  refine sG T_ok 2 [1, 6] [0] ⟨[(1, .lf (.ptr 0 0 0 0)), (6, I a0.1)], [bx [.v (.int .i64) a0.1, .v (.sl (.int .i64)) a0.2.1, .v (.sl (.int .i64)) a0.2.2] 28]⟩ (tn 2) ?_
  obtain ⟨y2, hy, h⟩ := andO_some h
  refine cal false [.t (.int .i64)] [] (some 7) T_ok (ok46 N _ hy) ?_
  refine sG T_ok 2 [1, 9] [0] ⟨[(1, .lf (.ptr 0 0 0 0)), (9, B (!y2))], [bx [.v (.int .i64) a0.1, .v (.sl (.int .i64)) a0.2.1, .v (.sl (.int .i64)) a0.2.2] 28]⟩ (tn 2) ?_
  refine spB 9 h (fun h => ?_) (fun h => ?_)
  · refine sN T_ok [1, 25] [0] ⟨[(1, .lf (.ptr 0 0 0 0)), (25, B true)], [bx [.v (.int .i64) a0.1, .v (.sl (.int .i64)) a0.2.1, .v (.sl (.int .i64)) a0.2.2] 28]⟩ (tn 16) ?_
    refine VW.cond (b := true) (by kernel_rfl) (fun _ => ?_) (fun h' => nomatch h')
    refine sR T_ok [2] [] ⟨[(2, B false)], []⟩ (tn 1) ?_
    refine VW.ret ?_
    replace h := Option.some.inj h
    subst h
    exact rt []
  refine sG T_ok 8 [1, 17] [0] ⟨[(1, .lf (.ptr 0 0 0 0)), (17, B (decide ((a0.2.1.length : Int) > a0.1)))], [bx [.v (.int .i64) a0.1, .v (.sl (.int .i64)) a0.2.1, .v (.sl (.int .i64)) a0.2.2] 28]⟩ (tn 8) ?_
  refine spB 17 h (fun h => ?_) (fun h => ?_)
  · refine sN T_ok [1, 25] [0] ⟨[(1, .lf (.ptr 0 0 0 0)), (25, B true)], [bx [.v (.int .i64) a0.1, .v (.sl (.int .i64)) a0.2.1, .v (.sl (.int .i64)) a0.2.2] 28]⟩ (tn 8) ?_
    refine VW.cond (b := true) (by kernel_rfl) (fun _ => ?_) (fun h' => nomatch h')
    refine sR T_ok [2] [] ⟨[(2, B false)], []⟩ (tn 1) ?_
    refine VW.ret ?_
    replace h := Option.some.inj h
    subst h
    exact rt []
  refine sN T_ok [1, 25] [0] ⟨[(1, .lf (.ptr 0 0 0 0)), (25, B ((a0.2.2.length : Int) != (a0.2.1.length : Int)))], [bx [.v (.int .i64) a0.1, .v (.sl (.int .i64)) a0.2.1, .v (.sl (.int .i64)) a0.2.2] 28]⟩ (tn 8) ?_
  refine cnd h (fun h => ?_) (fun h => ?_)
  · refine sR T_ok [2] [] ⟨[(2, B false)], []⟩ (tn 1) ?_
    refine VW.ret ?_
    replace h := Option.some.inj h
    subst h
    exact rt []
  refine VW.skip ?_
  refine VW.join (fun s => s = ⟨[], []⟩ ∧ F15_j0 N = some r) ?_ ?_
  · refine sR T_ok [1, 27, 28, 29] [0] ⟨[(1, .lf (.ptr 0 0 0 0)), (27, .lf (.v (.sl (.int .i64)) a0.2.1)), (28, I (a0.2.1.length : Int)), (29, I (0 : Int))], [bx [.v (.int .i64) a0.1, .v (.sl (.int .i64)) a0.2.1, .v (.sl (.int .i64)) a0.2.2] 28]⟩ (tn 4) ?_
    refine VW.block ?_
    refine lop (fun k s => ∃ (x61 : Int) (x62 : (List Int)) (x63 : (List Int)) (x64 : (List Int)) (x65 : Int) (x66 : Int), s = ⟨[(1, .lf (.ptr 0 0 0 0)), (27, .lf (.v (.sl (.int .i64)) x64)), (28, I x65), (29, I x66)], [bx [.v (.int .i64) x61, .v (.sl (.int .i64)) x62, .v (.sl (.int .i64)) x63] 28]⟩ ∧ F15_l0 N k x61 x62 x63 x64 x65 x66 = some r) N [.ren [1, 27, 28, 29] [0]] ⟨a0.1, a0.2.1, a0.2.2, a0.2.1, (a0.2.1.length : Int), (0 : Int), rfl, h⟩ ?_
    rintro k77 s ⟨x61, x62, x63, x64, x65, x66, rfl, h⟩
    cases k77 with
    | zero => cases show none = some r from h
    | succ k77 =>
      replace h : F15_l0_b N (F15_l0 N k77) x61 x62 x63 x64 x65 x66 = some r := h
      unfold F15_l0_b at h
      refine sR T_ok [1, 27, 28, 29, 30] [0] ⟨[(1, .lf (.ptr 0 0 0 0)), (27, .lf (.v (.sl (.int .i64)) x64)), (28, I x65), (29, I x66), (30, B (decide (x66 < x65)))], [bx [.v (.int .i64) x61, .v (.sl (.int .i64)) x62, .v (.sl (.int .i64)) x63] 28]⟩ (tn 1) ?_
      refine VW.seq ?_
      refine cnd h (fun h => ?_) (fun h => ?_)
      · refine VW.skip ?_
        refine VW.seq ?_
        refine VW.block ?_
        obtain ⟨g83, h⟩ := gd_some h
        refine sR T_ok [1, 3, 4, 27, 28, 29] [0] ⟨[(1, .lf (.ptr 0 0 0 0)), (3, I x66), (4, I (x64.getD x66.toNat (Ty.dflt (.int .i64)))), (27, .lf (.v (.sl (.int .i64)) x64)), (28, I x65), (29, I x66)], [bx [.v (.int .i64) x61, .v (.sl (.int .i64)) x62, .v (.sl (.int .i64)) x63] 28]⟩ (pu 1 (an g83 (tn 3))) ?_
        refine VW.seq ?_
        refine VW.region ?_
        refine sG T_ok 1 [1, 3, 4, 27, 28, 29, 34] [0] ⟨[(1, .lf (.ptr 0 0 0 0)), (3, I x66), (4, I (x64.getD x66.toNat (Ty.dflt (.int .i64)))), (27, .lf (.v (.sl (.int .i64)) x64)), (28, I x65), (29, I x66), (34, I (x64.getD x66.toNat (Ty.dflt (.int .i64))))], [bx [.v (.int .i64) x61, .v (.sl (.int .i64)) x62, .v (.sl (.int .i64)) x63] 28]⟩ (tn 1) ?_
        obtain ⟨y84, hy, h⟩ := andO_some h
        refine cal false [.t (.int .i64)] [] (some 35) T_ok (ok47 N _ hy) ?_
        refine sG T_ok 2 [1, 3, 4, 27, 28, 29, 37] [0] ⟨[(1, .lf (.ptr 0 0 0 0)), (3, I x66), (4, I (x64.getD x66.toNat (Ty.dflt (.int .i64)))), (27, .lf (.v (.sl (.int .i64)) x64)), (28, I x65), (29, I x66), (37, B (!y84))], [bx [.v (.int .i64) x61, .v (.sl (.int .i64)) x62, .v (.sl (.int .i64)) x63] 28]⟩ (tn 2) ?_
        refine spB 37 h (fun h => ?_) (fun h => ?_)
        · refine sN T_ok [1, 27, 28, 29, 53] [0] ⟨[(1, .lf (.ptr 0 0 0 0)), (27, .lf (.v (.sl (.int .i64)) x64)), (28, I x65), (29, I x66), (53, B true)], [bx [.v (.int .i64) x61, .v (.sl (.int .i64)) x62, .v (.sl (.int .i64)) x63] 28]⟩ (tn 16) ?_
          refine VW.cond (b := true) (by kernel_rfl) (fun _ => ?_) (fun h' => nomatch h')
          refine sR T_ok [2] [] ⟨[(2, B false)], []⟩ (tn 1) ?_
          refine VW.ret ?_
          replace h := Option.some.inj h
          subst h
          exact rt []
        obtain ⟨g85, h⟩ := gd_some h
        refine sG T_ok 5 [1, 3, 4, 27, 28, 29, 37, 42] [0] ⟨[(1, .lf (.ptr 0 0 0 0)), (3, I x66), (4, I (x64.getD x66.toNat (Ty.dflt (.int .i64)))), (27, .lf (.v (.sl (.int .i64)) x64)), (28, I x65), (29, I x66), (37, B false), (42, I (x63.getD x66.toNat (Ty.dflt (.int .i64))))], [bx [.v (.int .i64) x61, .v (.sl (.int .i64)) x62, .v (.sl (.int .i64)) x63] 28]⟩ (pu 3 (an g85 (tn 1))) ?_
        refine VO.on (j := 3) (want := false) (d := 37) (b := false) rfl rfl rfl (by kernel_rfl) rfl ?_
        obtain ⟨y86, hy, h⟩ := andO_some h
        refine cal false [.t (.int .i64)] [] (some 43) T_ok (ok47 N _ hy) ?_
        refine sG T_ok 3 [1, 3, 4, 27, 28, 29, 46] [0] ⟨[(1, .lf (.ptr 0 0 0 0)), (3, I x66), (4, I (x64.getD x66.toNat (Ty.dflt (.int .i64)))), (27, .lf (.v (.sl (.int .i64)) x64)), (28, I x65), (29, I x66), (46, B (!y86))], [bx [.v (.int .i64) x61, .v (.sl (.int .i64)) x62, .v (.sl (.int .i64)) x63] 28]⟩ (tn 3) ?_
        refine spB 46 h (fun h => ?_) (fun h => ?_)
        · refine sN T_ok [1, 27, 28, 29, 53] [0] ⟨[(1, .lf (.ptr 0 0 0 0)), (27, .lf (.v (.sl (.int .i64)) x64)), (28, I x65), (29, I x66), (53, B true)], [bx [.v (.int .i64) x61, .v (.sl (.int .i64)) x62, .v (.sl (.int .i64)) x63] 28]⟩ (tn 7) ?_
          refine VW.cond (b := true) (by kernel_rfl) (fun _ => ?_) (fun h' => nomatch h')
          refine sR T_ok [2] [] ⟨[(2, B false)], []⟩ (tn 1) ?_
          refine VW.ret ?_
          replace h := Option.some.inj h
          subst h
          exact rt []
        refine sG T_ok 3 [1, 3, 27, 28, 29, 46, 48, 49] [0] ⟨[(1, .lf (.ptr 0 0 0 0)), (3, I x66), (27, .lf (.v (.sl (.int .i64)) x64)), (28, I x65), (29, I x66), (46, B false), (48, .lf (.v (.sl (.int .i64)) x62)), (49, I (x64.getD x66.toNat (Ty.dflt (.int .i64))))], [bx [.v (.int .i64) x61, .v (.sl (.int .i64)) x62, .v (.sl (.int .i64)) x63] 28]⟩ (tn 3) ?_
        refine VO.on (j := 12) (want := false) (d := 46) (b := false) rfl rfl rfl (by kernel_rfl) rfl ?_
        obtain ⟨y87, hy, h⟩ := andO_some h
        refine cal false [.t (.sl (.int .i64)), .t (.int .i64)] [] (some 50) T_ok (ok48 N _ _ hy) ?_
        refine sN T_ok [1, 27, 28, 29, 53] [0] ⟨[(1, .lf (.ptr 0 0 0 0)), (27, .lf (.v (.sl (.int .i64)) x64)), (28, I x65), (29, I x66), (53, B (y87 != x66))], [bx [.v (.int .i64) x61, .v (.sl (.int .i64)) x62, .v (.sl (.int .i64)) x63] 28]⟩ (tn 3) ?_
        refine cnd h (fun h => ?_) (fun h => ?_)
        · refine sR T_ok [2] [] ⟨[(2, B false)], []⟩ (tn 1) ?_
          refine VW.ret ?_
          replace h := Option.some.inj h
          subst h
          exact rt []
        refine VW.skip ?_
        refine rR T_ok [1, 27, 28, 29] [0] ⟨[(1, .lf (.ptr 0 0 0 0)), (27, .lf (.v (.sl (.int .i64)) x64)), (28, I x65), (29, I (IntKind.i64.wrap (x66 + (1 : Int))))], [bx [.v (.int .i64) x61, .v (.sl (.int .i64)) x62, .v (.sl (.int .i64)) x63] 28]⟩ (tn 2) ?_
        exact aro [.ren [1, 27, 28, 29] [0]] ⟨x61, x62, x63, x64, x65, (IntKind.i64.wrap (x66 + (1 : Int))), rfl, h⟩
      refine VW.exit ?_
      exact arv [.ren [] []] ⟨rfl, h⟩
  rintro s ⟨rfl, h⟩
  unfold F15_j0 at h
  refine sR T_ok [2] [] ⟨[(2, B true)], []⟩ (tn 1) ?_
  refine VW.ret ?_
  replace h := Option.some.inj h
  subst h
  exact rt []

/- strconv.Itoa: proved of any program that bears it -/
def F64 (N : Nat) (a0 : Int) : Option (ByteArray) :=
  gd (-9223372036854775808 ≤ a0 ∧ a0 ≤ 9223372036854775807) (some ⟨(Lib.itoa a0).toArray⟩)
theorem ok64 (N : Nat) (a0 : Int) {r : ByteArray} (h : F64 N a0 = some r) : Con Go.Proofs.Tryd.prog 64 [I a0] [.lf (.v .str r)] := by
  obtain ⟨g, h⟩ := gd_some h
  cases h
  exact con_itoa (g := 0) (by kernel_rfl) (enters_of Go.Proofs.Tryd.func64 rfl (by decide)) (fun w ht => Go.Proofs.Tryd.strconv_Itoa a0 g.1 g.2 w ht)

/- loop.example/g00844/impl.number -/
def F42 (N : Nat) (a0 : Int) : Option (ByteArray) :=
  andO (F64 N a0) fun y1 => some y1
theorem ok42 (N : Nat) (a0 : Int) {r : ByteArray} (h : F42 N a0 = some r) : Con Go.Proofs.Tryd.prog 42 [I a0] [.lf (.v .str r)] := by
  refine ctr [.lf (.v .str)] T_ok Go.Proofs.Tryd.func42 rfl fun w0 E0 ht => ?_
  unfold F42 at h
  show VW _ _ _ _ _ (retQ _ _ _ _) _
  refine sR T_ok [0] [] ⟨[(0, I a0)], []⟩ (tn 1) ?_
  refine VW.seq ?_
  refine VW.region ?_
  refine sG T_ok 1 [3] [] ⟨[(3, I a0)], []⟩ (tn 1) ?_
  obtain ⟨y1, hy, h⟩ := andO_some h
  refine cal false [.t (.int .i64)] [] (some 4) T_ok (ok64 N _ hy) ?_
  refine sN T_ok [2] [] ⟨[(2, S y1)], []⟩ (tn 1) ?_
  refine VW.ret ?_
  replace h := Option.some.inj h
  subst h
  exact rt []

/- strings.Join: proved of any program that bears it -/
def F65 (N : Nat) (a0 : (List ByteArray)) (a1 : ByteArray) : Option (ByteArray) :=
  gd (a0.length ≤ 140737488355328 ∧ (Lib.join (a0.map (·.data.toList)) a1.data.toList).length ≤ 140737488355328) (some ⟨(Lib.join (a0.map (·.data.toList)) a1.data.toList).toArray⟩)
theorem ok65 (N : Nat) (a0 : (List ByteArray)) (a1 : ByteArray) {r : ByteArray} (h : F65 N a0 a1 = some r) : Con Go.Proofs.Tryd.prog 65 [.lf (.v (.sl .str) a0), S a1] [.lf (.v .str r)] := by
  obtain ⟨g, h⟩ := gd_some h
  cases h
  exact con_join (enters_of Go.Proofs.Tryd.func65 rfl (by decide)) g.1 g.2 (fun a c w => Go.Proofs.Tryd.strings_Join_none a c a1 w) (fun bk o c w h1 h2 h3 => Go.Proofs.Tryd.strings_Join bk o c a0 a1 w h1 h2 g.1 h3 g.2)

/- loop.example/g00844/impl.spaced -/
def F43 (N : Nat) (a0 : (List ByteArray)) : Option (ByteArray) :=
  andO (F65 N a0 (⟨#[32]⟩ : ByteArray)) fun y1 => some y1
theorem ok43 (N : Nat) (a0 : (List ByteArray)) {r : ByteArray} (h : F43 N a0 = some r) : Con Go.Proofs.Tryd.prog 43 [.lf (.v (.sl .str) a0)] [.lf (.v .str r)] := by
  refine ctr [.lf (.v .str)] T_ok Go.Proofs.Tryd.func43 rfl fun w0 E0 ht => ?_
  unfold F43 at h
  show VW _ _ _ _ _ (retQ _ _ _ _) _
  refine sR T_ok [0] [] ⟨[(0, .lf (.v (.sl .str) a0))], []⟩ (tn 1) ?_
  refine VW.seq ?_
  refine VW.region ?_
  refine sG T_ok 1 [3] [] ⟨[(3, .lf (.v (.sl .str) a0))], []⟩ (tn 1) ?_
  obtain ⟨y1, hy, h⟩ := andO_some h
  refine cal false [.t (.sl .str), .t .str] [] (some 4) T_ok (ok65 N _ _ hy) ?_
  refine sN T_ok [2] [] ⟨[(2, S y1)], []⟩ (tn 1) ?_
  refine VW.ret ?_
  replace h := Option.some.inj h
  subst h
  exact rt []

/- loop.example/g00844/impl.CacheText -/
def F12_j0 (N : Nat) (x58 : (List ByteArray)) : Option (ByteArray) :=
  andO (F43 N x58) fun y59 => some y59
def F12_l0_b (N : Nat) (nx101 : Int → (List Int) → (List Int) → (List ByteArray) → (List Int) → Int → Int → Option (ByteArray)) (x80 : Int) (x81 : (List Int)) (x82 : (List Int)) (x83 : (List ByteArray)) (x84 : (List Int)) (x85 : Int) (x86 : Int) : Option (ByteArray) :=
  cond (decide (x86 < x85)) (gd (InR x86 x84.length) (andO (F42 N (x84.getD x86.toNat (Ty.dflt (.int .i64)))) fun y110 => gd (y110.size + (⟨#[61]⟩ : ByteArray).size ≤ 9223372036854775807) (gd (InR x86 x82.length) (andO (F42 N (x82.getD x86.toNat (Ty.dflt (.int .i64)))) fun y113 => gd ((y110 ++ (⟨#[61]⟩ : ByteArray)).size + y113.size ≤ 9223372036854775807) (gd (x83.length + ([((y110 ++ (⟨#[61]⟩ : ByteArray)) ++ y113)]).length ≤ lim .str) (nx101 x80 x81 x82 (x83 ++ ([((y110 ++ (⟨#[61]⟩ : ByteArray)) ++ y113)])) x84 x85 (IntKind.i64.wrap (x86 + (1 : Int))))))))) (F12_j0 N x83)
def F12_l0 (N : Nat) : Nat → Int → (List Int) → (List Int) → (List ByteArray) → (List Int) → Int → Int → Option (ByteArray) := loopF (F12_l0_b N) (fun _ _ _ _ _ _ _ => none)
theorem F12_l0_s (N : Nat) {k : Nat} (hk : 0 < k) (x80 : Int) (x81 : (List Int)) (x82 : (List Int)) (x83 : (List ByteArray)) (x84 : (List Int)) (x85 : Int) (x86 : Int) : F12_l0 N k x80 x81 x82 x83 x84 x85 x86 = F12_l0_b N (F12_l0 N (k - 1)) x80 x81 x82 x83 x84 x85 x86 := by
  cases k with
  | zero => exact absurd hk (Nat.lt_irrefl 0)
  | succ m => rfl
def F12 (N : Nat) (a0 : (Int × ((List Int) × (List Int)))) : Option (ByteArray) :=
  andO (F15 N a0) fun y2 => cond (!y2) (some ByteArray.empty) (cond ((a0.2.1.length : Int) == (0 : Int)) (some (⟨#[45]⟩ : ByteArray)) (F12_l0 N N a0.1 a0.2.1 a0.2.2 ([]) a0.2.1 (a0.2.1.length : Int) (0 : Int)))
theorem ok12 (N : Nat) (a0 : (Int × ((List Int) × (List Int)))) {r : ByteArray} (h : F12 N a0 = some r) : Con Go.Proofs.Tryd.prog 12 [.agg [.v (.int .i64) a0.1, .v (.sl (.int .i64)) a0.2.1, .v (.sl (.int .i64)) a0.2.2]] [.lf (.v .str r)] := by
  refine ctr [.lf (.v .str)] T_ok Go.Proofs.Tryd.func12 rfl fun w0 E0 ht => ?_
  unfold F12 at h
  show VW _ _ _ _ _ (retQ _ _ _ _) _
  refine sR T_ok [1] [0] ⟨[(1, .lf (.ptr 0 0 0 0))], [bx [.v (.int .i64) a0.1, .v (.sl (.int .i64)) a0.2.1, .v (.sl (.int .i64)) a0.2.2] 28]⟩ (tn 2) ?_
  refine VW.seq ?_
  refine VW.seq ?_
  refine VW.region ?_
  refine sG T_ok 1 [1, 6] [0] ⟨[(1, .lf (.ptr 0 0 0 0)), (6, .agg [.v (.int .i64) a0.1, .v (.sl (.int .i64)) a0.2.1, .v (.sl (.int .i64)) a0.2.2])], [bx [.v (.int .i64) a0.1, .v (.sl (.int .i64)) a0.2.1, .v (.sl (.int .i64)) a0.2.2] 28]⟩ (tn 1) ?_
  obtain ⟨y2, hy, h⟩ := andO_some h
  refine cal false [.t Y27] [] (some 7) T_ok (ok15 N _ hy) ?_
  refine sN T_ok [1, 8] [0] ⟨[(1, .lf (.ptr 0 0 0 0)), (8, B (!y2))], [bx [.v (.int .i64) a0.1, .v (.sl (.int .i64)) a0.2.1, .v (.sl (.int .i64)) a0.2.2] 28]⟩ (tn 1) ?_
  refine cnd h (fun h => ?_) (fun h => ?_)
  · refine sR T_ok [2] [] ⟨[(2, S ByteArray.empty)], []⟩ (tn 1) ?_
    refine VW.ret ?_
    replace h := Option.some.inj h
    subst h
    exact rt []
  refine VW.skip ?_
  refine VW.seq ?_
  refine sR T_ok [1, 12] [0] ⟨[(1, .lf (.ptr 0 0 0 0)), (12, B ((a0.2.1.length : Int) == (0 : Int)))], [bx [.v (.int .i64) a0.1, .v (.sl (.int .i64)) a0.2.1, .v (.sl (.int .i64)) a0.2.2] 28]⟩ (tn 4) ?_
  refine cnd h (fun h => ?_) (fun h => ?_)
  · refine sR T_ok [2] [] ⟨[(2, S (⟨#[45]⟩ : ByteArray))], []⟩ (tn 1) ?_
    refine VW.ret ?_
    replace h := Option.some.inj h
    subst h
    exact rt []
  refine VW.skip ?_
  refine sR T_ok [1, 3] [0] ⟨[(1, .lf (.ptr 0 0 0 0)), (3, .lf (.nil))], [bx [.v (.int .i64) a0.1, .v (.sl (.int .i64)) a0.2.1, .v (.sl (.int .i64)) a0.2.2] 28]⟩ (tn 1) ?_
  refine VW.join (fun s => ∃ (x58 : (List ByteArray)), s = ⟨[(3, .lf (.hd 0 0 none))], [ar 0 .str x58 .dp]⟩ ∧ F12_j0 N x58 = some r) ?_ ?_
  · refine sR T_ok [1, 3, 14, 15, 16] [0] ⟨[(1, .lf (.ptr 0 0 0 0)), (3, .lf (.nil)), (14, .lf (.v (.sl (.int .i64)) a0.2.1)), (15, I (a0.2.1.length : Int)), (16, I (0 : Int))], [bx [.v (.int .i64) a0.1, .v (.sl (.int .i64)) a0.2.1, .v (.sl (.int .i64)) a0.2.2] 28]⟩ (tn 4) ?_
    refine VW.block ?_
    refine lop (fun k s => ∃ (x80 : Int) (x81 : (List Int)) (x82 : (List Int)) (x83 : (List ByteArray)) (x84 : (List Int)) (x85 : Int) (x86 : Int), s = ⟨[(1, .lf (.ptr 0 0 0 0)), (3, .lf (.hd 1 0 none)), (14, .lf (.v (.sl (.int .i64)) x84)), (15, I x85), (16, I x86)], [bx [.v (.int .i64) x80, .v (.sl (.int .i64)) x81, .v (.sl (.int .i64)) x82] 28, ar 0 .str x83 .dp]⟩ ∧ F12_l0 N k x80 x81 x82 x83 x84 x85 x86 = some r) N [.nilS 3 .str .dp, .ren [1, 3, 14, 15, 16] [0, 1]] ⟨a0.1, a0.2.1, a0.2.2, [], a0.2.1, (a0.2.1.length : Int), (0 : Int), rfl, h⟩ ?_
    rintro k101 s ⟨x80, x81, x82, x83, x84, x85, x86, rfl, h⟩
    cases k101 with
    | zero => cases show none = some r from h
    | succ k101 =>
      replace h : F12_l0_b N (F12_l0 N k101) x80 x81 x82 x83 x84 x85 x86 = some r := h
      unfold F12_l0_b at h
      refine sR T_ok [1, 3, 14, 15, 16, 17] [0, 1] ⟨[(1, .lf (.ptr 0 0 0 0)), (3, .lf (.hd 1 0 none)), (14, .lf (.v (.sl (.int .i64)) x84)), (15, I x85), (16, I x86), (17, B (decide (x86 < x85)))], [bx [.v (.int .i64) x80, .v (.sl (.int .i64)) x81, .v (.sl (.int .i64)) x82] 28, ar 0 .str x83 .dp]⟩ (tn 1) ?_
      refine VW.seq ?_
      refine cnd h (fun h => ?_) (fun h => ?_)
      · refine VW.skip ?_
        refine VW.seq ?_
        refine VW.block ?_
        obtain ⟨g109, h⟩ := gd_some h
        refine sR T_ok [1, 3, 4, 5, 14, 15, 16] [0, 1] ⟨[(1, .lf (.ptr 0 0 0 0)), (3, .lf (.hd 1 0 none)), (4, I x86), (5, I (x84.getD x86.toNat (Ty.dflt (.int .i64)))), (14, .lf (.v (.sl (.int .i64)) x84)), (15, I x85), (16, I x86)], [bx [.v (.int .i64) x80, .v (.sl (.int .i64)) x81, .v (.sl (.int .i64)) x82] 28, ar 0 .str x83 .dp]⟩ (pu 1 (an g109 (tn 3))) ?_
        obtain ⟨y110, hy110, h⟩ := andO_some h
        obtain ⟨g111, h⟩ := gd_some h
        obtain ⟨g112, h⟩ := gd_some h
        obtain ⟨y113, hy113, h⟩ := andO_some h
        obtain ⟨g114, h⟩ := gd_some h
        obtain ⟨g115, h⟩ := gd_some h
        refine VW.drawn (by kernel_rfl) [some (21, .lf (.hd 1 0 none)), some (22, I (x84.getD x86.toNat (Ty.dflt (.int .i64)))), some (23, S y110), some (24, S (y110 ++ (⟨#[61]⟩ : ByteArray))), some (25, .lf (.ptr 0 0 0 2)), some (26, .lf (.v (.sl (.int .i64)) x82)), some (27, I x86), some (28, .lf (.fp (.int .i64) (x82.getD x86.toNat (Ty.dflt (.int .i64))) 0)), some (29, I (x82.getD x86.toNat (Ty.dflt (.int .i64)))), some (30, S y113), some (31, S ((y110 ++ (⟨#[61]⟩ : ByteArray)) ++ y113)), some (32, .lf (.hd 2 0 none)), some (33, .lf (.hd 1 1 none)), some (3, .lf (.hd 1 1 none))] [11, 12] [[bx [.v (.int .i64) x80, .v (.sl (.int .i64)) x81, .v (.sl (.int .i64)) x82] 28, ar 0 .str x83 .dp], [bx [.v (.int .i64) x80, .v (.sl (.int .i64)) x81, .v (.sl (.int .i64)) x82] 28, ar 0 .str x83 .dp, ar 0 .str ([((y110 ++ (⟨#[61]⟩ : ByteArray)) ++ y113)]) .dp], [bx [.v (.int .i64) x80, .v (.sl (.int .i64)) x81, .v (.sl (.int .i64)) x82] 28, ar 1 .str (x83 ++ ([((y110 ++ (⟨#[61]⟩ : ByteArray)) ++ y113)])) .dp, ar 0 .str ([((y110 ++ (⟨#[61]⟩ : ByteArray)) ++ y113)]) .dp]] [(0, 0), (0, 1), (1, 0), (1, 1), (1, 2), (2, 0), (2, 1), (2, 2), (3, 0), (3, 1), (3, 2), (4, 0), (4, 1), (4, 2), (5, 0), (5, 1), (5, 2), (6, 0), (6, 1), (6, 2), (7, 0), (7, 1), (7, 2), (8, 0), (8, 1), (8, 2), (9, 0), (9, 1), (10, 0), (11, 0), (12, 1), (13, 2)] [1, 3, 14, 15, 16] [0, 1] (s' := ⟨[(1, .lf (.ptr 0 0 0 0)), (3, .lf (.hd 1 0 none)), (14, .lf (.v (.sl (.int .i64)) x84)), (15, I x85), (16, I x86)], [bx [.v (.int .i64) x80, .v (.sl (.int .i64)) x81, .v (.sl (.int .i64)) x82] 28, ar 0 .str (x83 ++ ([((y110 ++ (⟨#[61]⟩ : ByteArray)) ++ y113)])) .dp]⟩) (by kernel_rfl) (by kernel_rfl) ⟨⟨_, rfl, Stp.ev T_ok (m := .dp) (φ := True) (by kernel_rfl) trivial⟩,
    ⟨_, rfl, Stp.ev T_ok (m := .dp) (φ := True) (by kernel_rfl) trivial⟩,
    ⟨_, rfl, Stp.ev T_ok (m := .dp) (φ := True) (by kernel_rfl) trivial⟩,
    ⟨_, rfl, Stp.ev T_ok (m := .dp) (φ := True) (by kernel_rfl) trivial⟩,
    ⟨_, rfl, Stp.ev T_ok (m := .dp) (φ := True) (by kernel_rfl) trivial⟩,
    ⟨_, rfl, Stp.eq (Stp.call false [.t (.int .i64)] [] T_ok (d := some 23) (by kernel_rfl) (ok42 N _ hy110) rfl) (by kernel_rfl) (by kernel_rfl)⟩,
    ⟨_, rfl, Stp.eq (Stp.call false [.t (.int .i64)] [] T_ok (d := some 23) (by kernel_rfl) (ok42 N _ hy110) rfl) (by kernel_rfl) (by kernel_rfl)⟩,
    ⟨_, rfl, Stp.eq (Stp.call false [.t (.int .i64)] [] T_ok (d := some 23) (by kernel_rfl) (ok42 N _ hy110) rfl) (by kernel_rfl) (by kernel_rfl)⟩,
    ⟨_, rfl, Stp.ev T_ok (m := .dp) (φ := y110.size + (⟨#[61]⟩ : ByteArray).size ≤ 9223372036854775807) (by kernel_rfl) g111⟩,
    ⟨_, rfl, Stp.ev T_ok (m := .dp) (φ := y110.size + (⟨#[61]⟩ : ByteArray).size ≤ 9223372036854775807) (by kernel_rfl) g111⟩,
    ⟨_, rfl, Stp.ev T_ok (m := .dp) (φ := y110.size + (⟨#[61]⟩ : ByteArray).size ≤ 9223372036854775807) (by kernel_rfl) g111⟩,
    ⟨_, rfl, Stp.ev T_ok (m := .dp) (φ := True) (by kernel_rfl) trivial⟩,
    ⟨_, rfl, Stp.ev T_ok (m := .dp) (φ := True) (by kernel_rfl) trivial⟩,
    ⟨_, rfl, Stp.ev T_ok (m := .dp) (φ := True) (by kernel_rfl) trivial⟩,
    ⟨_, rfl, Stp.ev T_ok (m := .dp) (φ := True) (by kernel_rfl) trivial⟩,
    ⟨_, rfl, Stp.ev T_ok (m := .dp) (φ := True) (by kernel_rfl) trivial⟩,
    ⟨_, rfl, Stp.ev T_ok (m := .dp) (φ := True) (by kernel_rfl) trivial⟩,
    ⟨_, rfl, Stp.ev T_ok (m := .dp) (φ := True) (by kernel_rfl) trivial⟩,
    ⟨_, rfl, Stp.ev T_ok (m := .dp) (φ := True) (by kernel_rfl) trivial⟩,
    ⟨_, rfl, Stp.ev T_ok (m := .dp) (φ := True) (by kernel_rfl) trivial⟩,
    ⟨_, rfl, Stp.ev T_ok (m := .dp) (φ := InR x86 x82.length) (by kernel_rfl) g112⟩,
    ⟨_, rfl, Stp.ev T_ok (m := .dp) (φ := InR x86 x82.length) (by kernel_rfl) g112⟩,
    ⟨_, rfl, Stp.ev T_ok (m := .dp) (φ := InR x86 x82.length) (by kernel_rfl) g112⟩,
    ⟨_, rfl, Stp.ev T_ok (m := .dp) (φ := True) (by kernel_rfl) trivial⟩,
    ⟨_, rfl, Stp.ev T_ok (m := .dp) (φ := True) (by kernel_rfl) trivial⟩,
    ⟨_, rfl, Stp.ev T_ok (m := .dp) (φ := True) (by kernel_rfl) trivial⟩,
    ⟨_, rfl, Stp.eq (Stp.call false [.t (.int .i64)] [] T_ok (d := some 30) (by kernel_rfl) (ok42 N _ hy113) rfl) (by kernel_rfl) (by kernel_rfl)⟩,
    ⟨_, rfl, Stp.eq (Stp.call false [.t (.int .i64)] [] T_ok (d := some 30) (by kernel_rfl) (ok42 N _ hy113) rfl) (by kernel_rfl) (by kernel_rfl)⟩,
    ⟨_, rfl, Stp.ev T_ok (m := .dp) (φ := (y110 ++ (⟨#[61]⟩ : ByteArray)).size + y113.size ≤ 9223372036854775807) (by kernel_rfl) g114⟩,
    ⟨_, rfl, Stp.ev T_ok (m := .dp) (φ := True) (by kernel_rfl) trivial⟩,
    ⟨_, rfl, Stp.ev T_ok (m := .dp) (φ := x83.length + ([((y110 ++ (⟨#[61]⟩ : ByteArray)) ++ y113)]).length ≤ lim .str) (by kernel_rfl) g115⟩,
    ⟨_, rfl, Stp.ev T_ok (m := .dp) (φ := True) (by kernel_rfl) trivial⟩, trivial⟩ (by kernel_rfl) ?_
        refine rR T_ok [1, 3, 14, 15, 16] [0, 1] ⟨[(1, .lf (.ptr 0 0 0 0)), (3, .lf (.hd 1 0 none)), (14, .lf (.v (.sl (.int .i64)) x84)), (15, I x85), (16, I (IntKind.i64.wrap (x86 + (1 : Int))))], [bx [.v (.int .i64) x80, .v (.sl (.int .i64)) x81, .v (.sl (.int .i64)) x82] 28, ar 0 .str (x83 ++ ([((y110 ++ (⟨#[61]⟩ : ByteArray)) ++ y113)])) .dp]⟩ (tn 2) ?_
        exact aro [.ren [1, 3, 14, 15, 16] [0, 1]] ⟨x80, x81, x82, (x83 ++ ([((y110 ++ (⟨#[61]⟩ : ByteArray)) ++ y113)])), x84, x85, (IntKind.i64.wrap (x86 + (1 : Int))), rfl, h⟩
      refine VW.exit ?_
      exact arv [.ren [3] [1]] ⟨x83, rfl, h⟩
  rintro s ⟨x58, rfl, h⟩
  unfold F12_j0 at h
  refine VW.seq ?_
  refine VW.region ?_
  refine sG T_ok 1 [35] [0] ⟨[(35, .lf (.hd 0 0 none))], [ar 0 .str x58 .dp]⟩ (tn 1) ?_
  obtain ⟨y59, hy, h⟩ := andO_some h
  refine cal true [.t (.sl .str)] [] (some 36) T_ok (ok43 N _ hy) ?_
  refine sN T_ok [2] [] ⟨[(2, S y59)], []⟩ (tn 1) ?_
  refine VW.ret ?_
  replace h := Option.some.inj h
  subst h
  exact rt []

/- loop.example/g00844/spec.l01Num -/
def F45_j0 (N : Nat) (x15 : ByteArray) (x16 : Bool) : Option (ByteArray) :=
  cond x16 (gd ((⟨#[45]⟩ : ByteArray).size + x15.size ≤ 9223372036854775807) (some ((⟨#[45]⟩ : ByteArray) ++ x15))) (some x15)
def F45_j1 (N : Nat) (nx30 : Int → ByteArray → Bool → Option (ByteArray)) (x24 : Int) (x25 : ByteArray) (x26 : Bool) (x31 : Int) : Option (ByteArray) :=
  gd ((strOfNums ([(IntKind.u8.wrap (IntKind.i64.wrap ((48 : Int) + x31)))])).size + x25.size ≤ 9223372036854775807) (nx30 (IntKind.i64.wrap (Int.tdiv x24 (10 : Int))) ((strOfNums ([(IntKind.u8.wrap (IntKind.i64.wrap ((48 : Int) + x31)))])) ++ x25) x26)
def F45_l0_b (N : Nat) (nx30 : Int → ByteArray → Bool → Option (ByteArray)) (x24 : Int) (x25 : ByteArray) (x26 : Bool) : Option (ByteArray) :=
  cond (x24 != (0 : Int)) (cond (decide ((Int.tmod x24 (10 : Int)) < (0 : Int))) (F45_j1 N nx30 x24 x25 x26 (IntKind.i64.wrap ((0 : Int) - (Int.tmod x24 (10 : Int))))) (F45_j1 N nx30 x24 x25 x26 (Int.tmod x24 (10 : Int)))) (F45_j0 N x25 x26)
def F45_l0 (N : Nat) : Nat → Int → ByteArray → Bool → Option (ByteArray) := loopF (F45_l0_b N) (fun _ _ _ => none)
theorem F45_l0_s (N : Nat) {k : Nat} (hk : 0 < k) (x24 : Int) (x25 : ByteArray) (x26 : Bool) : F45_l0 N k x24 x25 x26 = F45_l0_b N (F45_l0 N (k - 1)) x24 x25 x26 := by
  cases k with
  | zero => exact absurd hk (Nat.lt_irrefl 0)
  | succ m => rfl
def F45 (N : Nat) (a0 : Int) : Option (ByteArray) :=
  cond (a0 == (0 : Int)) (some (⟨#[48]⟩ : ByteArray)) (F45_l0 N N a0 ByteArray.empty (decide (a0 < (0 : Int))))
theorem ok45 (N : Nat) (a0 : Int) {r : ByteArray} (h : F45 N a0 = some r) : Con Go.Proofs.Tryd.prog 45 [I a0] [.lf (.v .str r)] := by
  refine ctr [.lf (.v .str)] T_ok Go.Proofs.Tryd.func45 rfl fun w0 E0 ht => ?_
  unfold F45 at h
  show VW _ _ _ _ _ (retQ _ _ _ _) _
  refine sR T_ok [0] [] ⟨[(0, I a0)], []⟩ (tn 1) ?_
  refine VW.seq ?_
  refine sR T_ok [0, 7] [] ⟨[(0, I a0), (7, B (a0 == (0 : Int)))], []⟩ (tn 2) ?_
  refine cnd h (fun h => ?_) (fun h => ?_)
  · refine sR T_ok [2] [] ⟨[(2, S (⟨#[48]⟩ : ByteArray))], []⟩ (tn 1) ?_
    refine VW.ret ?_
    replace h := Option.some.inj h
    subst h
    exact rt []
  refine VW.skip ?_
  refine sR T_ok [0, 3] [] ⟨[(0, I a0), (3, S ByteArray.empty)], []⟩ (tn 1) ?_
  refine sR T_ok [0, 3, 4] [] ⟨[(0, I a0), (3, S ByteArray.empty), (4, B (decide (a0 < (0 : Int))))], []⟩ (tn 3) ?_
  refine VW.join (fun s => ∃ (x15 : ByteArray) (x16 : Bool), s = ⟨[(3, S x15), (4, B x16)], []⟩ ∧ F45_j0 N x15 x16 = some r) ?_ ?_
  · refine VW.block ?_
    refine lop (fun k s => ∃ (x24 : Int) (x25 : ByteArray) (x26 : Bool), s = ⟨[(0, I x24), (3, S x25), (4, B x26)], []⟩ ∧ F45_l0 N k x24 x25 x26 = some r) N [.ren [0, 3, 4] []] ⟨a0, ByteArray.empty, (decide (a0 < (0 : Int))), rfl, h⟩ ?_
    rintro k30 s ⟨x24, x25, x26, rfl, h⟩
    cases k30 with
    | zero => cases show none = some r from h
    | succ k30 =>
      replace h : F45_l0_b N (F45_l0 N k30) x24 x25 x26 = some r := h
      unfold F45_l0_b at h
      refine VW.seq ?_
      refine sR T_ok [0, 3, 4, 11] [] ⟨[(0, I x24), (3, S x25), (4, B x26), (11, B (x24 != (0 : Int)))], []⟩ (tn 2) ?_
      refine cnd h (fun h => ?_) (fun h => ?_)
      · refine VW.skip ?_
        refine VW.block ?_
        refine sR T_ok [0, 3, 4, 5] [] ⟨[(0, I x24), (3, S x25), (4, B x26), (5, I (Int.tmod x24 (10 : Int)))], []⟩ (pu 1 (an (show ((10 : Int) ≠ 0) from by decide) (tn 1))) ?_
        refine VW.join (fun s => ∃ (x31 : Int), s = ⟨[(0, I x24), (3, S x25), (4, B x26), (5, I x31)], []⟩ ∧ F45_j1 N (F45_l0 N k30) x24 x25 x26 x31 = some r) ?_ ?_
        · refine sR T_ok [0, 3, 4, 5, 15] [] ⟨[(0, I x24), (3, S x25), (4, B x26), (5, I (Int.tmod x24 (10 : Int))), (15, B (decide ((Int.tmod x24 (10 : Int)) < (0 : Int))))], []⟩ (tn 2) ?_
          refine cnd h (fun h => ?_) (fun h => ?_)
          · refine rR T_ok [0, 3, 4, 5] [] ⟨[(0, I x24), (3, S x25), (4, B x26), (5, I (IntKind.i64.wrap ((0 : Int) - (Int.tmod x24 (10 : Int)))))], []⟩ (tn 3) ?_
            exact arv [.ren [0, 3, 4, 5] []] ⟨(IntKind.i64.wrap ((0 : Int) - (Int.tmod x24 (10 : Int)))), rfl, h⟩
          refine VW.skip ?_
          exact arv [.ren [0, 3, 4, 5] []] ⟨(Int.tmod x24 (10 : Int)), rfl, h⟩
        rintro s ⟨x31, rfl, h⟩
        unfold F45_j1 at h
        obtain ⟨g32, h⟩ := gd_some h
        refine sR T_ok [0, 3, 4] [] ⟨[(0, I x24), (3, S ((strOfNums ([(IntKind.u8.wrap (IntKind.i64.wrap ((48 : Int) + x31)))])) ++ x25)), (4, B x26)], []⟩ (pu 6 (an g32 (tn 1))) ?_
        refine rR T_ok [0, 3, 4] [] ⟨[(0, I (IntKind.i64.wrap (Int.tdiv x24 (10 : Int)))), (3, S ((strOfNums ([(IntKind.u8.wrap (IntKind.i64.wrap ((48 : Int) + x31)))])) ++ x25)), (4, B x26)], []⟩ (pu 1 (an (show ((10 : Int) ≠ 0) from by decide) (tn 1))) ?_
        exact aro [.ren [0, 3, 4] []] ⟨(IntKind.i64.wrap (Int.tdiv x24 (10 : Int))), ((strOfNums ([(IntKind.u8.wrap (IntKind.i64.wrap ((48 : Int) + x31)))])) ++ x25), x26, rfl, h⟩
      refine VW.exit ?_
      exact arv [.ren [3, 4] []] ⟨x25, x26, rfl, h⟩
  rintro s ⟨x15, x16, rfl, h⟩
  unfold F45_j0 at h
  refine VW.seq ?_
  refine sR T_ok [3, 27] [] ⟨[(3, S x15), (27, B x16)], []⟩ (tn 1) ?_
  refine cnd h (fun h => ?_) (fun h => ?_)
  · obtain ⟨g18, h⟩ := gd_some h
    refine sR T_ok [2] [] ⟨[(2, S ((⟨#[45]⟩ : ByteArray) ++ x15))], []⟩ (pu 1 (an g18 (tn 1))) ?_
    refine VW.ret ?_
    replace h := Option.some.inj h
    subst h
    exact rt []
  refine VW.skip ?_
  refine sR T_ok [2] [] ⟨[(2, S x15)], []⟩ (tn 2) ?_
  refine VW.ret ?_
  replace h := Option.some.inj h
  subst h
  exact rt []

/- loop.example/g00844/spec.CacheText -/
def F13_j0 (N : Nat) (x78 : ByteArray) : Option (ByteArray) :=
  some x78
def F13_j1 (N : Nat) (nx132 : Int → (List Int) → (List Int) → ByteArray → Int → Option (ByteArray)) (x105 : Int) (x106 : (List Int)) (x107 : (List Int)) (x109 : Int) (x145 : ByteArray) : Option (ByteArray) :=
  gd (InR x109 x106.length) (andO (F45 N (x106.getD x109.toNat (Ty.dflt (.int .i64)))) fun y147 => gd (x145.size + y147.size ≤ 9223372036854775807) (gd ((x145 ++ y147).size + (⟨#[61]⟩ : ByteArray).size ≤ 9223372036854775807) (gd (InR x109 x107.length) (andO (F45 N (x107.getD x109.toNat (Ty.dflt (.int .i64)))) fun y151 => gd (((x145 ++ y147) ++ (⟨#[61]⟩ : ByteArray)).size + y151.size ≤ 9223372036854775807) (nx132 x105 x106 x107 (((x145 ++ y147) ++ (⟨#[61]⟩ : ByteArray)) ++ y151) (IntKind.i64.wrap (x109 + (1 : Int))))))))
def F13_l0_b (N : Nat) (nx132 : Int → (List Int) → (List Int) → ByteArray → Int → Option (ByteArray)) (x105 : Int) (x106 : (List Int)) (x107 : (List Int)) (x108 : ByteArray) (x109 : Int) : Option (ByteArray) :=
  cond (decide (x109 < (x106.length : Int))) (cond (decide (x109 > (0 : Int))) (gd (x108.size + (⟨#[32]⟩ : ByteArray).size ≤ 9223372036854775807) (F13_j1 N nx132 x105 x106 x107 x109 (x108 ++ (⟨#[32]⟩ : ByteArray)))) (F13_j1 N nx132 x105 x106 x107 x109 x108)) (F13_j0 N x108)
def F13_l0 (N : Nat) : Nat → Int → (List Int) → (List Int) → ByteArray → Int → Option (ByteArray) := loopF (F13_l0_b N) (fun _ _ _ _ _ => none)
theorem F13_l0_s (N : Nat) {k : Nat} (hk : 0 < k) (x105 : Int) (x106 : (List Int)) (x107 : (List Int)) (x108 : ByteArray) (x109 : Int) : F13_l0 N k x105 x106 x107 x108 x109 = F13_l0_b N (F13_l0 N (k - 1)) x105 x106 x107 x108 x109 := by
  cases k with
  | zero => exact absurd hk (Nat.lt_irrefl 0)
  | succ m => rfl
def F13 (N : Nat) (a0 : (Int × ((List Int) × (List Int)))) : Option (ByteArray) :=
  andO (F44 N a0) fun y2 => cond (!y2) (some ByteArray.empty) (cond ((a0.2.1.length : Int) == (0 : Int)) (some (⟨#[45]⟩ : ByteArray)) (F13_l0 N N a0.1 a0.2.1 a0.2.2 ByteArray.empty (0 : Int)))
theorem ok13 (N : Nat) (a0 : (Int × ((List Int) × (List Int)))) {r : ByteArray} (h : F13 N a0 = some r) : Con Go.Proofs.Tryd.prog 13 [.agg [.v (.int .i64) a0.1, .v (.sl (.int .i64)) a0.2.1, .v (.sl (.int .i64)) a0.2.2]] [.lf (.v .str r)] := by
  refine ctr [.lf (.v .str)] T_ok Go.Proofs.Tryd.func13 rfl fun w0 E0 ht => ?_
  unfold F13 at h
  show VW _ _ _ _ _ (retQ _ _ _ _) _
  refine sR T_ok [1] [0] ⟨[(1, .lf (.ptr 0 0 0 0))], [bx [.v (.int .i64) a0.1, .v (.sl (.int .i64)) a0.2.1, .v (.sl (.int .i64)) a0.2.2] 28]⟩ (tn 2) ?_
  refine VW.seq ?_
  refine VW.seq ?_
  refine VW.region ?_
  refine sG T_ok 1 [1, 5] [0] ⟨[(1, .lf (.ptr 0 0 0 0)), (5, .agg [.v (.int .i64) a0.1, .v (.sl (.int .i64)) a0.2.1, .v (.sl (.int .i64)) a0.2.2])], [bx [.v (.int .i64) a0.1, .v (.sl (.int .i64)) a0.2.1, .v (.sl (.int .i64)) a0.2.2] 28]⟩ (tn 1) ?_
  obtain ⟨y2, hy, h⟩ := andO_some h
  refine cal false [.t Y27] [] (some 6) T_ok (ok44 N _ hy) ?_
  refine sN T_ok [1, 7] [0] ⟨[(1, .lf (.ptr 0 0 0 0)), (7, B (!y2))], [bx [.v (.int .i64) a0.1, .v (.sl (.int .i64)) a0.2.1, .v (.sl (.int .i64)) a0.2.2] 28]⟩ (tn 1) ?_
  refine cnd h (fun h => ?_) (fun h => ?_)
  · refine sR T_ok [2] [] ⟨[(2, S ByteArray.empty)], []⟩ (tn 1) ?_
    refine VW.ret ?_
    replace h := Option.some.inj h
    subst h
    exact rt []
  refine VW.skip ?_
  refine VW.seq ?_
  refine sR T_ok [1, 11] [0] ⟨[(1, .lf (.ptr 0 0 0 0)), (11, B ((a0.2.1.length : Int) == (0 : Int)))], [bx [.v (.int .i64) a0.1, .v (.sl (.int .i64)) a0.2.1, .v (.sl (.int .i64)) a0.2.2] 28]⟩ (tn 4) ?_
  refine cnd h (fun h => ?_) (fun h => ?_)
  · refine sR T_ok [2] [] ⟨[(2, S (⟨#[45]⟩ : ByteArray))], []⟩ (tn 1) ?_
    refine VW.ret ?_
    replace h := Option.some.inj h
    subst h
    exact rt []
  refine VW.skip ?_
  refine sR T_ok [1, 3] [0] ⟨[(1, .lf (.ptr 0 0 0 0)), (3, S ByteArray.empty)], [bx [.v (.int .i64) a0.1, .v (.sl (.int .i64)) a0.2.1, .v (.sl (.int .i64)) a0.2.2] 28]⟩ (tn 1) ?_
  refine VW.join (fun s => ∃ (x78 : ByteArray), s = ⟨[(3, S x78)], []⟩ ∧ F13_j0 N x78 = some r) ?_ ?_
  · refine sR T_ok [1, 3, 4] [0] ⟨[(1, .lf (.ptr 0 0 0 0)), (3, S ByteArray.empty), (4, I (0 : Int))], [bx [.v (.int .i64) a0.1, .v (.sl (.int .i64)) a0.2.1, .v (.sl (.int .i64)) a0.2.2] 28]⟩ (tn 1) ?_
    refine VW.block ?_
    refine lop (fun k s => ∃ (x105 : Int) (x106 : (List Int)) (x107 : (List Int)) (x108 : ByteArray) (x109 : Int), s = ⟨[(1, .lf (.ptr 0 0 0 0)), (3, S x108), (4, I x109)], [bx [.v (.int .i64) x105, .v (.sl (.int .i64)) x106, .v (.sl (.int .i64)) x107] 28]⟩ ∧ F13_l0 N k x105 x106 x107 x108 x109 = some r) N [.ren [1, 3, 4] [0]] ⟨a0.1, a0.2.1, a0.2.2, ByteArray.empty, (0 : Int), rfl, h⟩ ?_
    rintro k132 s ⟨x105, x106, x107, x108, x109, rfl, h⟩
    cases k132 with
    | zero => cases show none = some r from h
    | succ k132 =>
      replace h : F13_l0_b N (F13_l0 N k132) x105 x106 x107 x108 x109 = some r := h
      unfold F13_l0_b at h
      refine VW.seq ?_
      refine sR T_ok [1, 3, 4, 16] [0] ⟨[(1, .lf (.ptr 0 0 0 0)), (3, S x108), (4, I x109), (16, B (decide (x109 < (x106.length : Int))))], [bx [.v (.int .i64) x105, .v (.sl (.int .i64)) x106, .v (.sl (.int .i64)) x107] 28]⟩ (tn 5) ?_
      refine cnd h (fun h => ?_) (fun h => ?_)
      · refine VW.skip ?_
        refine VW.seq ?_
        refine VW.block ?_
        refine VW.join (fun s => ∃ (x145 : ByteArray), s = ⟨[(1, .lf (.ptr 0 0 0 0)), (3, S x145), (4, I x109)], [bx [.v (.int .i64) x105, .v (.sl (.int .i64)) x106, .v (.sl (.int .i64)) x107] 28]⟩ ∧ F13_j1 N (F13_l0 N k132) x105 x106 x107 x109 x145 = some r) ?_ ?_
        · refine sR T_ok [1, 3, 4, 20] [0] ⟨[(1, .lf (.ptr 0 0 0 0)), (3, S x108), (4, I x109), (20, B (decide (x109 > (0 : Int))))], [bx [.v (.int .i64) x105, .v (.sl (.int .i64)) x106, .v (.sl (.int .i64)) x107] 28]⟩ (tn 2) ?_
          refine cnd h (fun h => ?_) (fun h => ?_)
          · obtain ⟨g154, h⟩ := gd_some h
            refine rR T_ok [1, 3, 4] [0] ⟨[(1, .lf (.ptr 0 0 0 0)), (3, S (x108 ++ (⟨#[32]⟩ : ByteArray))), (4, I x109)], [bx [.v (.int .i64) x105, .v (.sl (.int .i64)) x106, .v (.sl (.int .i64)) x107] 28]⟩ (pu 1 (an g154 (tn 1))) ?_
            exact arv [.ren [1, 3, 4] [0]] ⟨(x108 ++ (⟨#[32]⟩ : ByteArray)), rfl, h⟩
          refine VW.skip ?_
          exact arv [.ren [1, 3, 4] [0]] ⟨x108, rfl, h⟩
        rintro s ⟨x145, rfl, h⟩
        unfold F13_j1 at h
        obtain ⟨g146, h⟩ := gd_some h
        obtain ⟨y147, hy147, h⟩ := andO_some h
        obtain ⟨g148, h⟩ := gd_some h
        obtain ⟨g149, h⟩ := gd_some h
        obtain ⟨g150, h⟩ := gd_some h
        obtain ⟨y151, hy151, h⟩ := andO_some h
        obtain ⟨g152, h⟩ := gd_some h
        refine VW.drawn (by kernel_rfl) [some (23, S x145), some (24, .lf (.ptr 0 0 0 1)), some (25, .lf (.v (.sl (.int .i64)) x106)), some (26, I x109), some (27, .lf (.fp (.int .i64) (x106.getD x109.toNat (Ty.dflt (.int .i64))) 0)), some (28, I (x106.getD x109.toNat (Ty.dflt (.int .i64)))), some (29, S y147), some (30, S (x145 ++ y147)), some (31, S ((x145 ++ y147) ++ (⟨#[61]⟩ : ByteArray))), some (32, .lf (.ptr 0 0 0 2)), some (33, .lf (.v (.sl (.int .i64)) x107)), some (34, I x109), some (35, .lf (.fp (.int .i64) (x107.getD x109.toNat (Ty.dflt (.int .i64))) 0)), some (36, I (x107.getD x109.toNat (Ty.dflt (.int .i64)))), some (37, S y151), some (38, S (((x145 ++ y147) ++ (⟨#[61]⟩ : ByteArray)) ++ y151)), some (3, S (((x145 ++ y147) ++ (⟨#[61]⟩ : ByteArray)) ++ y151))] [] [[bx [.v (.int .i64) x105, .v (.sl (.int .i64)) x106, .v (.sl (.int .i64)) x107] 28]] [(0, 0), (1, 0), (2, 0), (3, 0), (4, 0), (5, 0), (6, 0), (7, 0), (8, 0), (9, 0), (10, 0), (11, 0), (12, 0), (13, 0), (14, 0), (15, 0), (16, 0)] [1, 3, 4] [0] (s' := ⟨[(1, .lf (.ptr 0 0 0 0)), (3, S (((x145 ++ y147) ++ (⟨#[61]⟩ : ByteArray)) ++ y151)), (4, I x109)], [bx [.v (.int .i64) x105, .v (.sl (.int .i64)) x106, .v (.sl (.int .i64)) x107] 28]⟩) (by kernel_rfl) (by kernel_rfl) ⟨⟨_, rfl, Stp.ev T_ok (m := .dp) (φ := True) (by kernel_rfl) trivial⟩,
    ⟨_, rfl, Stp.ev T_ok (m := .dp) (φ := True) (by kernel_rfl) trivial⟩,
    ⟨_, rfl, Stp.ev T_ok (m := .dp) (φ := True) (by kernel_rfl) trivial⟩,
    ⟨_, rfl, Stp.ev T_ok (m := .dp) (φ := True) (by kernel_rfl) trivial⟩,
    ⟨_, rfl, Stp.ev T_ok (m := .dp) (φ := InR x109 x106.length) (by kernel_rfl) g146⟩,
    ⟨_, rfl, Stp.ev T_ok (m := .dp) (φ := True) (by kernel_rfl) trivial⟩,
    ⟨_, rfl, Stp.eq (Stp.call false [.t (.int .i64)] [] T_ok (d := some 29) (by kernel_rfl) (ok45 N _ hy147) rfl) (by kernel_rfl) (by kernel_rfl)⟩,
    ⟨_, rfl, Stp.ev T_ok (m := .dp) (φ := x145.size + y147.size ≤ 9223372036854775807) (by kernel_rfl) g148⟩,
    ⟨_, rfl, Stp.ev T_ok (m := .dp) (φ := (x145 ++ y147).size + (⟨#[61]⟩ : ByteArray).size ≤ 9223372036854775807) (by kernel_rfl) g149⟩,
    ⟨_, rfl, Stp.ev T_ok (m := .dp) (φ := True) (by kernel_rfl) trivial⟩,
    ⟨_, rfl, Stp.ev T_ok (m := .dp) (φ := True) (by kernel_rfl) trivial⟩,
    ⟨_, rfl, Stp.ev T_ok (m := .dp) (φ := True) (by kernel_rfl) trivial⟩,
    ⟨_, rfl, Stp.ev T_ok (m := .dp) (φ := InR x109 x107.length) (by kernel_rfl) g150⟩,
    ⟨_, rfl, Stp.ev T_ok (m := .dp) (φ := True) (by kernel_rfl) trivial⟩,
    ⟨_, rfl, Stp.eq (Stp.call false [.t (.int .i64)] [] T_ok (d := some 37) (by kernel_rfl) (ok45 N _ hy151) rfl) (by kernel_rfl) (by kernel_rfl)⟩,
    ⟨_, rfl, Stp.ev T_ok (m := .dp) (φ := ((x145 ++ y147) ++ (⟨#[61]⟩ : ByteArray)).size + y151.size ≤ 9223372036854775807) (by kernel_rfl) g152⟩,
    ⟨_, rfl, Stp.ev T_ok (m := .dp) (φ := True) (by kernel_rfl) trivial⟩, trivial⟩ (by kernel_rfl) ?_
        refine rR T_ok [1, 3, 4] [0] ⟨[(1, .lf (.ptr 0 0 0 0)), (3, S (((x145 ++ y147) ++ (⟨#[61]⟩ : ByteArray)) ++ y151)), (4, I (IntKind.i64.wrap (x109 + (1 : Int))))], [bx [.v (.int .i64) x105, .v (.sl (.int .i64)) x106, .v (.sl (.int .i64)) x107] 28]⟩ (tn 3) ?_
        exact aro [.ren [1, 3, 4] [0]] ⟨x105, x106, x107, (((x145 ++ y147) ++ (⟨#[61]⟩ : ByteArray)) ++ y151), (IntKind.i64.wrap (x109 + (1 : Int))), rfl, h⟩
      refine VW.exit ?_
      exact arv [.ren [3] []] ⟨x108, rfl, h⟩
  rintro s ⟨x78, rfl, h⟩
  unfold F13_j0 at h
  refine sR T_ok [2] [] ⟨[(2, S x78)], []⟩ (tn 2) ?_
  refine VW.ret ?_
  replace h := Option.some.inj h
  subst h
  exact rt []

/- loop.example/g00844/laws.szIntS -/
def F50 (N : Nat) (a0 : (List Int)) (a1 : Int) : Option (Int) :=
  cond (decide ((IntKind.i64.wrap (a1 - (a0.length : Int))) < (0 : Int))) (some (-1 : Int)) (some (IntKind.i64.wrap (a1 - (a0.length : Int))))
theorem ok50 (N : Nat) (a0 : (List Int)) (a1 : Int) {r : Int} (h : F50 N a0 a1 = some r) : Con Go.Proofs.Tryd.prog 50 [.lf (.v (.sl (.int .i64)) a0), I a1] [.lf (.v (.int .i64) r)] := by
  refine ctr [.lf (.v (.int .i64))] T_ok Go.Proofs.Tryd.func50 rfl fun w0 E0 ht => ?_
  unfold F50 at h
  show VW _ _ _ _ _ (retQ _ _ _ _) _
  refine sR T_ok [0, 1] [] ⟨[(0, .lf (.v (.sl (.int .i64)) a0)), (1, I a1)], []⟩ (tn 1) ?_
  refine sR T_ok [1] [] ⟨[(1, I (IntKind.i64.wrap (a1 - (a0.length : Int))))], []⟩ (tn 5) ?_
  refine VW.seq ?_
  refine sR T_ok [1, 10] [] ⟨[(1, I (IntKind.i64.wrap (a1 - (a0.length : Int)))), (10, B (decide ((IntKind.i64.wrap (a1 - (a0.length : Int))) < (0 : Int))))], []⟩ (tn 2) ?_
  refine cnd h (fun h => ?_) (fun h => ?_)
  · refine sR T_ok [4] [] ⟨[(4, I (-1 : Int))], []⟩ (tn 1) ?_
    refine VW.ret ?_
    replace h := Option.some.inj h
    subst h
    exact rt []
  refine VW.skip ?_
  refine sR T_ok [4] [] ⟨[(4, I (IntKind.i64.wrap (a1 - (a0.length : Int))))], []⟩ (tn 2) ?_
  refine VW.ret ?_
  replace h := Option.some.inj h
  subst h
  exact rt []

/- loop.example/g00844/laws.szCache -/
def F25 (N : Nat) (a0 : (Int × ((List Int) × (List Int)))) (a1 : Int) : Option (Int) :=
  andO (F50 N a0.2.1 a1) fun y1 => cond (decide (y1 < (0 : Int))) (some (-1 : Int)) (andO (F50 N a0.2.2 y1) fun y2 => cond (decide (y2 < (0 : Int))) (some (-1 : Int)) (some y2))
theorem ok25 (N : Nat) (a0 : (Int × ((List Int) × (List Int)))) (a1 : Int) {r : Int} (h : F25 N a0 a1 = some r) : Con Go.Proofs.Tryd.prog 25 [.agg [.v (.int .i64) a0.1, .v (.sl (.int .i64)) a0.2.1, .v (.sl (.int .i64)) a0.2.2], I a1] [.lf (.v (.int .i64) r)] := by
  refine ctr [.lf (.v (.int .i64))] T_ok Go.Proofs.Tryd.func25 rfl fun w0 E0 ht => ?_
  unfold F25 at h
  show VW _ _ _ _ _ (retQ _ _ _ _) _
  refine sR T_ok [1, 2] [0] ⟨[(1, I a1), (2, .lf (.ptr 0 0 0 0))], [bx [.v (.int .i64) a0.1, .v (.sl (.int .i64)) a0.2.1, .v (.sl (.int .i64)) a0.2.2] 49]⟩ (tn 2) ?_
  refine VW.seq ?_
  refine VW.region ?_
  refine sG T_ok 3 [2, 6, 7] [0] ⟨[(2, .lf (.ptr 0 0 0 0)), (6, .lf (.v (.sl (.int .i64)) a0.2.1)), (7, I a1)], [bx [.v (.int .i64) a0.1, .v (.sl (.int .i64)) a0.2.1, .v (.sl (.int .i64)) a0.2.2] 49]⟩ (tn 3) ?_
  obtain ⟨y1, hy, h⟩ := andO_some h
  refine cal false [.t (.sl (.int .i64)), .t (.int .i64)] [] (some 8) T_ok (ok50 N _ _ hy) ?_
  refine sN T_ok [1, 2] [0] ⟨[(1, I y1), (2, .lf (.ptr 0 0 0 0))], [bx [.v (.int .i64) a0.1, .v (.sl (.int .i64)) a0.2.1, .v (.sl (.int .i64)) a0.2.2] 49]⟩ (tn 1) ?_
  refine VW.seq ?_
  refine sR T_ok [1, 2, 10] [0] ⟨[(1, I y1), (2, .lf (.ptr 0 0 0 0)), (10, B (decide (y1 < (0 : Int))))], [bx [.v (.int .i64) a0.1, .v (.sl (.int .i64)) a0.2.1, .v (.sl (.int .i64)) a0.2.2] 49]⟩ (tn 2) ?_
  refine cnd h (fun h => ?_) (fun h => ?_)
  · refine sR T_ok [4] [] ⟨[(4, I (-1 : Int))], []⟩ (tn 1) ?_
    refine VW.ret ?_
    replace h := Option.some.inj h
    subst h
    exact rt []
  refine VW.skip ?_
  refine VW.seq ?_
  refine VW.region ?_
  refine sG T_ok 3 [12, 13] [] ⟨[(12, .lf (.v (.sl (.int .i64)) a0.2.2)), (13, I y1)], []⟩ (tn 3) ?_
  obtain ⟨y2, hy, h⟩ := andO_some h
  refine cal false [.t (.sl (.int .i64)), .t (.int .i64)] [] (some 14) T_ok (ok50 N _ _ hy) ?_
  refine sN T_ok [1] [] ⟨[(1, I y2)], []⟩ (tn 1) ?_
  refine VW.seq ?_
  refine sR T_ok [1, 16] [] ⟨[(1, I y2), (16, B (decide (y2 < (0 : Int))))], []⟩ (tn 2) ?_
  refine cnd h (fun h => ?_) (fun h => ?_)
  · refine sR T_ok [4] [] ⟨[(4, I (-1 : Int))], []⟩ (tn 1) ?_
    refine VW.ret ?_
    replace h := Option.some.inj h
    subst h
    exact rt []
  refine VW.skip ?_
  refine sR T_ok [4] [] ⟨[(4, I y2)], []⟩ (tn 2) ?_
  refine VW.ret ?_
  replace h := Option.some.inj h
  subst h
  exact rt []

/- loop.example/g00844/laws.toIntS -/
def F51_j0 (N : Nat) (x24 : (List Int)) : Option ((List Int)) :=
  some x24
def F51_l0_b (N : Nat) (a0 : (List Int)) (nx41 : (List Int) → Int → Option ((List Int))) (x33 : (List Int)) (x34 : Int) : Option ((List Int)) :=
  cond (decide (x34 < (a0.length : Int))) (gd (InR x34 a0.length) (gd (InR x34 x33.length) (gd (x34.toNat < x33.length) (nx41 (x33.set x34.toNat (a0.getD x34.toNat (Ty.dflt (.int .i64)))) (IntKind.i64.wrap (x34 + (1 : Int))))))) (F51_j0 N x33)
def F51_l0 (N : Nat) (a0 : (List Int)) : Nat → (List Int) → Int → Option ((List Int)) := loopF (F51_l0_b N a0) (fun _ _ => none)
theorem F51_l0_s (N : Nat) (a0 : (List Int)) {k : Nat} (hk : 0 < k) (x33 : (List Int)) (x34 : Int) : F51_l0 N a0 k x33 x34 = F51_l0_b N a0 (F51_l0 N a0 (k - 1)) x33 x34 := by
  cases k with
  | zero => exact absurd hk (Nat.lt_irrefl 0)
  | succ m => rfl
def F51 (N : Nat) (a0 : (List Int)) : Option ((List Int)) :=
  gd (0 ≤ (a0.length : Int) ∧ (a0.length : Int) ≤ (lim (.int .i64) : Int) ∧ (a0.length : Int) = (a0.length : Int)) (F51_l0 N a0 N (List.replicate (a0.length : Int).toNat (Ty.dflt (.int .i64))) (0 : Int))
theorem ok51 (N : Nat) (a0 : (List Int)) {r : (List Int)} (h : F51 N a0 = some r) : Con Go.Proofs.Tryd.prog 51 [.lf (.v (.sl (.int .i64)) a0)] [.lf (.own (.int .i64) r .dp)] := by
  refine ctr [.lf (.own (.int .i64) .dp)] T_ok Go.Proofs.Tryd.func51 rfl fun w0 E0 ht => ?_
  unfold F51 at h
  show VW _ _ _ _ _ (retQ _ _ _ _) _
  refine sR T_ok [0] [] ⟨[(0, .lf (.v (.sl (.int .i64)) a0))], []⟩ (tn 1) ?_
  obtain ⟨g1, h⟩ := gd_some h
  refine sR T_ok [0, 3] [0] ⟨[(0, .lf (.v (.sl (.int .i64)) a0)), (3, .lf (.hd 0 0 none))], [ar 0 (.int .i64) (List.replicate (a0.length : Int).toNat (Ty.dflt (.int .i64))) .dp]⟩ (pu 2 (an g1 (tn 1))) ?_
  refine VW.join (fun s => ∃ (x24 : (List Int)), s = ⟨[(3, .lf (.hd 0 0 none))], [ar 0 (.int .i64) x24 .dp]⟩ ∧ F51_j0 N x24 = some r) ?_ ?_
  · refine sR T_ok [0, 3, 4] [0] ⟨[(0, .lf (.v (.sl (.int .i64)) a0)), (3, .lf (.hd 0 0 none)), (4, I (0 : Int))], [ar 0 (.int .i64) (List.replicate (a0.length : Int).toNat (Ty.dflt (.int .i64))) .dp]⟩ (tn 1) ?_
    refine VW.block ?_
    refine lop (fun k s => ∃ (x33 : (List Int)) (x34 : Int), s = ⟨[(0, .lf (.v (.sl (.int .i64)) a0)), (3, .lf (.hd 0 0 none)), (4, I x34)], [ar 0 (.int .i64) x33 .dp]⟩ ∧ F51_l0 N a0 k x33 x34 = some r) N [.ren [0, 3, 4] [0]] ⟨(List.replicate (a0.length : Int).toNat (Ty.dflt (.int .i64))), (0 : Int), rfl, h⟩ ?_
    rintro k41 s ⟨x33, x34, rfl, h⟩
    cases k41 with
    | zero => cases show none = some r from h
    | succ k41 =>
      replace h : F51_l0_b N a0 (F51_l0 N a0 k41) x33 x34 = some r := h
      unfold F51_l0_b at h
      refine VW.seq ?_
      refine sR T_ok [0, 3, 4, 11] [0] ⟨[(0, .lf (.v (.sl (.int .i64)) a0)), (3, .lf (.hd 0 0 none)), (4, I x34), (11, B (decide (x34 < (a0.length : Int))))], [ar 0 (.int .i64) x33 .dp]⟩ (tn 4) ?_
      refine cnd h (fun h => ?_) (fun h => ?_)
      · refine VW.skip ?_
        refine VW.seq ?_
        refine VW.block ?_
        obtain ⟨g45, h⟩ := gd_some h
        obtain ⟨g46, h⟩ := gd_some h
        obtain ⟨g47, h⟩ := gd_some h
        refine rR T_ok [0, 3, 4] [0] ⟨[(0, .lf (.v (.sl (.int .i64)) a0)), (3, .lf (.hd 0 0 none)), (4, I x34)], [ar 0 (.int .i64) (x33.set x34.toNat (a0.getD x34.toNat (Ty.dflt (.int .i64)))) .dp]⟩ (pu 4 (an g45 (pu 1 (an g46 (an g47 (tn 0)))))) ?_
        refine rR T_ok [0, 3, 4] [0] ⟨[(0, .lf (.v (.sl (.int .i64)) a0)), (3, .lf (.hd 0 0 none)), (4, I (IntKind.i64.wrap (x34 + (1 : Int))))], [ar 0 (.int .i64) (x33.set x34.toNat (a0.getD x34.toNat (Ty.dflt (.int .i64)))) .dp]⟩ (tn 3) ?_
        exact aro [.ren [0, 3, 4] [0]] ⟨(x33.set x34.toNat (a0.getD x34.toNat (Ty.dflt (.int .i64)))), (IntKind.i64.wrap (x34 + (1 : Int))), rfl, h⟩
      refine VW.exit ?_
      exact arv [.ren [3] [0]] ⟨x33, rfl, h⟩
  rintro s ⟨x24, rfl, h⟩
  unfold F51_j0 at h
  refine sR T_ok [2] [0] ⟨[(2, .lf (.hd 0 0 none))], [ar 0 (.int .i64) x24 .dp]⟩ (tn 2) ?_
  refine VW.ret ?_
  replace h := Option.some.inj h
  subst h
  exact rt [some 0]

/- loop.example/g00844/laws.toCache -/
def F26 (N : Nat) (a0 : (Int × ((List Int) × (List Int)))) : Option ((Int × ((List Int) × (List Int)))) :=
  andO (F51 N a0.2.1) fun y1 => andO (F51 N a0.2.2) fun y2 => some (a0.1, (y1, y2))
theorem ok26 (N : Nat) (a0 : (Int × ((List Int) × (List Int)))) {r : (Int × ((List Int) × (List Int)))} (h : F26 N a0 = some r) : Con Go.Proofs.Tryd.prog 26 [.agg [.v (.int .i64) a0.1, .v (.sl (.int .i64)) a0.2.1, .v (.sl (.int .i64)) a0.2.2]] [.agg [.v (.int .i64) r.1, .own (.int .i64) r.2.1 .dp, .own (.int .i64) r.2.2 .dp]] := by
  refine ctr [.agg [.v (.int .i64), .own (.int .i64) .dp, .own (.int .i64) .dp]] T_ok Go.Proofs.Tryd.func26 rfl fun w0 E0 ht => ?_
  unfold F26 at h
  show VW _ _ _ _ _ (retQ _ _ _ _) _
  refine sR T_ok [1, 2] [0, 1] ⟨[(1, .lf (.ptr 0 0 0 0)), (2, .lf (.ptr 1 0 0 0))], [bx [.v (.int .i64) a0.1, .v (.sl (.int .i64)) a0.2.1, .v (.sl (.int .i64)) a0.2.2] 49, bx [.v (.int .i64) (0 : Int), .nil, .nil] 28]⟩ (tn 2) ?_
  refine sR T_ok [1, 2, 3] [0, 1, 2] ⟨[(1, .lf (.ptr 0 0 0 0)), (2, .lf (.ptr 1 0 0 0)), (3, .lf (.ptr 2 0 0 0))], [bx [.v (.int .i64) a0.1, .v (.sl (.int .i64)) a0.2.1, .v (.sl (.int .i64)) a0.2.2] 49, bx [.v (.int .i64) (0 : Int), .nil, .nil] 28, bx [.v (.int .i64) (0 : Int), .nil, .nil] 28]⟩ (tn 1) ?_
  refine sR T_ok [1, 2, 3] [0, 1, 2] ⟨[(1, .lf (.ptr 0 0 0 0)), (2, .lf (.ptr 1 0 0 0)), (3, .lf (.ptr 2 0 0 0))], [bx [.v (.int .i64) a0.1, .v (.sl (.int .i64)) a0.2.1, .v (.sl (.int .i64)) a0.2.2] 49, bx [.v (.int .i64) (0 : Int), .nil, .nil] 28, bx [.v (.int .i64) a0.1, .nil, .nil] 28]⟩ (tn 4) ?_
  refine VW.seq ?_
  refine VW.region ?_
  refine sG T_ok 2 [1, 2, 3, 8] [0, 1, 2] ⟨[(1, .lf (.ptr 0 0 0 0)), (2, .lf (.ptr 1 0 0 0)), (3, .lf (.ptr 2 0 0 0)), (8, .lf (.v (.sl (.int .i64)) a0.2.1))], [bx [.v (.int .i64) a0.1, .v (.sl (.int .i64)) a0.2.1, .v (.sl (.int .i64)) a0.2.2] 49, bx [.v (.int .i64) (0 : Int), .nil, .nil] 28, bx [.v (.int .i64) a0.1, .nil, .nil] 28]⟩ (tn 2) ?_
  obtain ⟨y1, hy, h⟩ := andO_some h
  refine cal false [.t (.sl (.int .i64))] [] (some 9) T_ok (ok51 N _ hy) ?_
  refine sN T_ok [1, 2, 3] [0, 1, 2, 3] ⟨[(1, .lf (.ptr 0 0 0 0)), (2, .lf (.ptr 1 0 0 0)), (3, .lf (.ptr 2 0 0 0))], [bx [.v (.int .i64) a0.1, .v (.sl (.int .i64)) a0.2.1, .v (.sl (.int .i64)) a0.2.2] 49, bx [.v (.int .i64) (0 : Int), .nil, .nil] 28, bx [.v (.int .i64) a0.1, .hd 3 0 none, .nil] 28, ar 0 (.int .i64) y1 .dp]⟩ (tn 2) ?_
  refine VW.seq ?_
  refine VW.region ?_
  refine sG T_ok 2 [2, 3, 12] [1, 2, 3] ⟨[(2, .lf (.ptr 0 0 0 0)), (3, .lf (.ptr 1 0 0 0)), (12, .lf (.v (.sl (.int .i64)) a0.2.2))], [bx [.v (.int .i64) (0 : Int), .nil, .nil] 28, bx [.v (.int .i64) a0.1, .hd 2 0 none, .nil] 28, ar 0 (.int .i64) y1 .dp]⟩ (tn 2) ?_
  obtain ⟨y2, hy, h⟩ := andO_some h
  refine cal false [.t (.sl (.int .i64))] [] (some 13) T_ok (ok51 N _ hy) ?_
  refine sN T_ok [2, 3] [0, 1, 2, 3] ⟨[(2, .lf (.ptr 0 0 0 0)), (3, .lf (.ptr 1 0 0 0))], [bx [.v (.int .i64) (0 : Int), .nil, .nil] 28, bx [.v (.int .i64) a0.1, .hd 2 0 none, .hd 3 0 none] 28, ar 0 (.int .i64) y1 .dp, ar 0 (.int .i64) y2 .dp]⟩ (tn 2) ?_
  refine sR T_ok [2] [0, 2, 3] ⟨[(2, .lf (.ptr 0 0 0 0))], [bx [.v (.int .i64) a0.1, .hd 1 0 none, .hd 2 0 none] 28, ar 0 (.int .i64) y1 .dp, ar 0 (.int .i64) y2 .dp]⟩ (tn 2) ?_
  refine VW.ret ?_
  replace h := Option.some.inj h
  subst h
  exact rt [some 1, some 2]

/- loop.example/g00844/laws.eqIntS -/
def F52_j0 (N : Nat) : Option (Bool) :=
  some true
def F52_l0_b (N : Nat) (a0 : (List Int)) (a1 : (List Int)) (nx25 : Int → Option (Bool)) (x20 : Int) : Option (Bool) :=
  cond (decide (x20 < (a0.length : Int))) (gd (InR x20 a0.length) (gd (InR x20 a1.length) (cond ((a0.getD x20.toNat (Ty.dflt (.int .i64))) != (a1.getD x20.toNat (Ty.dflt (.int .i64)))) (some false) (nx25 (IntKind.i64.wrap (x20 + (1 : Int))))))) (F52_j0 N)
def F52_l0 (N : Nat) (a0 : (List Int)) (a1 : (List Int)) : Nat → Int → Option (Bool) := loopF (F52_l0_b N a0 a1) (fun _ => none)
theorem F52_l0_s (N : Nat) (a0 : (List Int)) (a1 : (List Int)) {k : Nat} (hk : 0 < k) (x20 : Int) : F52_l0 N a0 a1 k x20 = F52_l0_b N a0 a1 (F52_l0 N a0 a1 (k - 1)) x20 := by
  cases k with
  | zero => exact absurd hk (Nat.lt_irrefl 0)
  | succ m => rfl
def F52 (N : Nat) (a0 : (List Int)) (a1 : (List Int)) : Option (Bool) :=
  cond ((a0.length : Int) != (a1.length : Int)) (some false) (F52_l0 N a0 a1 N (0 : Int))
theorem ok52 (N : Nat) (a0 : (List Int)) (a1 : (List Int)) {r : Bool} (h : F52 N a0 a1 = some r) : Con Go.Proofs.Tryd.prog 52 [.lf (.v (.sl (.int .i64)) a0), .lf (.v (.sl (.int .i64)) a1)] [.lf (.v .bool r)] := by
  refine ctr [.lf (.v .bool)] T_ok Go.Proofs.Tryd.func52 rfl fun w0 E0 ht => ?_
  unfold F52 at h
  show VW _ _ _ _ _ (retQ _ _ _ _) _
  refine sR T_ok [0, 1] [] ⟨[(0, .lf (.v (.sl (.int .i64)) a0)), (1, .lf (.v (.sl (.int .i64)) a1))], []⟩ (tn 1) ?_
  refine VW.seq ?_
  refine sR T_ok [0, 1, 10] [] ⟨[(0, .lf (.v (.sl (.int .i64)) a0)), (1, .lf (.v (.sl (.int .i64)) a1)), (10, B ((a0.length : Int) != (a1.length : Int)))], []⟩ (tn 5) ?_
  refine cnd h (fun h => ?_) (fun h => ?_)
  · refine sR T_ok [4] [] ⟨[(4, B false)], []⟩ (tn 1) ?_
    refine VW.ret ?_
    replace h := Option.some.inj h
    subst h
    exact rt []
  refine VW.skip ?_
  refine VW.join (fun s => s = ⟨[], []⟩ ∧ F52_j0 N = some r) ?_ ?_
  · refine sR T_ok [0, 1, 5] [] ⟨[(0, .lf (.v (.sl (.int .i64)) a0)), (1, .lf (.v (.sl (.int .i64)) a1)), (5, I (0 : Int))], []⟩ (tn 1) ?_
    refine VW.block ?_
    refine lop (fun k s => ∃ (x20 : Int), s = ⟨[(0, .lf (.v (.sl (.int .i64)) a0)), (1, .lf (.v (.sl (.int .i64)) a1)), (5, I x20)], []⟩ ∧ F52_l0 N a0 a1 k x20 = some r) N [.ren [0, 1, 5] []] ⟨(0 : Int), rfl, h⟩ ?_
    rintro k25 s ⟨x20, rfl, h⟩
    cases k25 with
    | zero => cases show none = some r from h
    | succ k25 =>
      replace h : F52_l0_b N a0 a1 (F52_l0 N a0 a1 k25) x20 = some r := h
      unfold F52_l0_b at h
      refine VW.seq ?_
      refine sR T_ok [0, 1, 5, 14] [] ⟨[(0, .lf (.v (.sl (.int .i64)) a0)), (1, .lf (.v (.sl (.int .i64)) a1)), (5, I x20), (14, B (decide (x20 < (a0.length : Int))))], []⟩ (tn 4) ?_
      refine cnd h (fun h => ?_) (fun h => ?_)
      · refine VW.skip ?_
        refine VW.seq ?_
        refine VW.block ?_
        refine VW.seq ?_
        obtain ⟨g28, h⟩ := gd_some h
        obtain ⟨g29, h⟩ := gd_some h
        refine VW.drawn (by kernel_rfl) [some (17, .lf (.v (.sl (.int .i64)) a0)), some (18, I x20), some (19, .lf (.fp (.int .i64) (a0.getD x20.toNat (Ty.dflt (.int .i64))) 0)), some (20, I (a0.getD x20.toNat (Ty.dflt (.int .i64)))), some (21, .lf (.v (.sl (.int .i64)) a1)), some (22, I x20), some (23, .lf (.fp (.int .i64) (a1.getD x20.toNat (Ty.dflt (.int .i64))) 0)), some (24, I (a1.getD x20.toNat (Ty.dflt (.int .i64)))), some (25, B ((a0.getD x20.toNat (Ty.dflt (.int .i64))) != (a1.getD x20.toNat (Ty.dflt (.int .i64)))))] [] [[]] [(0, 0), (1, 0), (2, 0), (3, 0), (4, 0), (5, 0), (6, 0), (7, 0), (8, 0)] [0, 1, 5, 25] [] (s' := ⟨[(0, .lf (.v (.sl (.int .i64)) a0)), (1, .lf (.v (.sl (.int .i64)) a1)), (5, I x20), (25, B ((a0.getD x20.toNat (Ty.dflt (.int .i64))) != (a1.getD x20.toNat (Ty.dflt (.int .i64)))))], []⟩) (by kernel_rfl) (by kernel_rfl) ⟨⟨_, rfl, Stp.ev T_ok (m := .dp) (φ := True) (by kernel_rfl) trivial⟩,
    ⟨_, rfl, Stp.ev T_ok (m := .dp) (φ := True) (by kernel_rfl) trivial⟩,
    ⟨_, rfl, Stp.ev T_ok (m := .dp) (φ := InR x20 a0.length) (by kernel_rfl) g28⟩,
    ⟨_, rfl, Stp.ev T_ok (m := .dp) (φ := True) (by kernel_rfl) trivial⟩,
    ⟨_, rfl, Stp.ev T_ok (m := .dp) (φ := True) (by kernel_rfl) trivial⟩,
    ⟨_, rfl, Stp.ev T_ok (m := .dp) (φ := True) (by kernel_rfl) trivial⟩,
    ⟨_, rfl, Stp.ev T_ok (m := .dp) (φ := InR x20 a1.length) (by kernel_rfl) g29⟩,
    ⟨_, rfl, Stp.ev T_ok (m := .dp) (φ := True) (by kernel_rfl) trivial⟩,
    ⟨_, rfl, Stp.ev T_ok (m := .dp) (φ := True) (by kernel_rfl) trivial⟩, trivial⟩ (by kernel_rfl) ?_
        refine cnd h (fun h => ?_) (fun h => ?_)
        · refine sR T_ok [4] [] ⟨[(4, B false)], []⟩ (tn 1) ?_
          refine VW.ret ?_
          replace h := Option.some.inj h
          subst h
          exact rt []
        refine VW.skip ?_
        refine rR T_ok [0, 1, 5] [] ⟨[(0, .lf (.v (.sl (.int .i64)) a0)), (1, .lf (.v (.sl (.int .i64)) a1)), (5, I (IntKind.i64.wrap (x20 + (1 : Int))))], []⟩ (tn 3) ?_
        exact aro [.ren [0, 1, 5] []] ⟨(IntKind.i64.wrap (x20 + (1 : Int))), rfl, h⟩
      refine VW.exit ?_
      exact arv [.ren [] []] ⟨rfl, h⟩
  rintro s ⟨rfl, h⟩
  unfold F52_j0 at h
  refine sR T_ok [4] [] ⟨[(4, B true)], []⟩ (tn 1) ?_
  refine VW.ret ?_
  replace h := Option.some.inj h
  subst h
  exact rt []

/- loop.example/g00844/laws.eqCache -/
def F27 (N : Nat) (a0 : (Int × ((List Int) × (List Int)))) (a1 : (Int × ((List Int) × (List Int)))) : Option (Bool) :=
  cond (a0.1 != a1.1) (some false) (andO (F52 N a0.2.1 a1.2.1) fun y2 => cond (!y2) (some false) (andO (F52 N a0.2.2 a1.2.2) fun y4 => cond (!y4) (some false) (some true)))
theorem ok27 (N : Nat) (a0 : (Int × ((List Int) × (List Int)))) (a1 : (Int × ((List Int) × (List Int)))) {r : Bool} (h : F27 N a0 a1 = some r) : Con Go.Proofs.Tryd.prog 27 [.agg [.v (.int .i64) a0.1, .v (.sl (.int .i64)) a0.2.1, .v (.sl (.int .i64)) a0.2.2], .agg [.v (.int .i64) a1.1, .v (.sl (.int .i64)) a1.2.1, .v (.sl (.int .i64)) a1.2.2]] [.lf (.v .bool r)] := by
  refine ctr [.lf (.v .bool)] T_ok Go.Proofs.Tryd.func27 rfl fun w0 E0 ht => ?_
  unfold F27 at h
  show VW _ _ _ _ _ (retQ _ _ _ _) _
  refine sR T_ok [2, 3] [0, 1] ⟨[(2, .lf (.ptr 0 0 0 0)), (3, .lf (.ptr 1 0 0 0))], [bx [.v (.int .i64) a0.1, .v (.sl (.int .i64)) a0.2.1, .v (.sl (.int .i64)) a0.2.2] 28, bx [.v (.int .i64) a1.1, .v (.sl (.int .i64)) a1.2.1, .v (.sl (.int .i64)) a1.2.2] 28]⟩ (tn 3) ?_
  refine VW.seq ?_
  refine sR T_ok [2, 3, 9] [0, 1] ⟨[(2, .lf (.ptr 0 0 0 0)), (3, .lf (.ptr 1 0 0 0)), (9, B (a0.1 != a1.1))], [bx [.v (.int .i64) a0.1, .v (.sl (.int .i64)) a0.2.1, .v (.sl (.int .i64)) a0.2.2] 28, bx [.v (.int .i64) a1.1, .v (.sl (.int .i64)) a1.2.1, .v (.sl (.int .i64)) a1.2.2] 28]⟩ (tn 5) ?_
  refine cnd h (fun h => ?_) (fun h => ?_)
  · refine sR T_ok [4] [] ⟨[(4, B false)], []⟩ (tn 1) ?_
    refine VW.ret ?_
    replace h := Option.some.inj h
    subst h
    exact rt []
  refine VW.skip ?_
  refine VW.seq ?_
  refine VW.seq ?_
  refine VW.region ?_
  refine sG T_ok 4 [2, 3, 11, 13] [0, 1] ⟨[(2, .lf (.ptr 0 0 0 0)), (3, .lf (.ptr 1 0 0 0)), (11, .lf (.v (.sl (.int .i64)) a0.2.1)), (13, .lf (.v (.sl (.int .i64)) a1.2.1))], [bx [.v (.int .i64) a0.1, .v (.sl (.int .i64)) a0.2.1, .v (.sl (.int .i64)) a0.2.2] 28, bx [.v (.int .i64) a1.1, .v (.sl (.int .i64)) a1.2.1, .v (.sl (.int .i64)) a1.2.2] 28]⟩ (tn 4) ?_
  obtain ⟨y2, hy, h⟩ := andO_some h
  refine cal false [.t (.sl (.int .i64)), .t (.sl (.int .i64))] [] (some 14) T_ok (ok52 N _ _ hy) ?_
  refine sN T_ok [2, 3, 15] [0, 1] ⟨[(2, .lf (.ptr 0 0 0 0)), (3, .lf (.ptr 1 0 0 0)), (15, B (!y2))], [bx [.v (.int .i64) a0.1, .v (.sl (.int .i64)) a0.2.1, .v (.sl (.int .i64)) a0.2.2] 28, bx [.v (.int .i64) a1.1, .v (.sl (.int .i64)) a1.2.1, .v (.sl (.int .i64)) a1.2.2] 28]⟩ (tn 1) ?_
  refine cnd h (fun h => ?_) (fun h => ?_)
  · refine sR T_ok [4] [] ⟨[(4, B false)], []⟩ (tn 1) ?_
    refine VW.ret ?_
    replace h := Option.some.inj h
    subst h
    exact rt []
  refine VW.skip ?_
  refine VW.seq ?_
  refine VW.seq ?_
  refine VW.region ?_
  refine sG T_ok 4 [17, 19] [] ⟨[(17, .lf (.v (.sl (.int .i64)) a0.2.2)), (19, .lf (.v (.sl (.int .i64)) a1.2.2))], []⟩ (tn 4) ?_
  obtain ⟨y4, hy, h⟩ := andO_some h
  refine cal false [.t (.sl (.int .i64)), .t (.sl (.int .i64))] [] (some 20) T_ok (ok52 N _ _ hy) ?_
  refine sN T_ok [21] [] ⟨[(21, B (!y4))], []⟩ (tn 1) ?_
  refine cnd h (fun h => ?_) (fun h => ?_)
  · refine sR T_ok [4] [] ⟨[(4, B false)], []⟩ (tn 1) ?_
    refine VW.ret ?_
    replace h := Option.some.inj h
    subst h
    exact rt []
  refine VW.skip ?_
  refine sR T_ok [4] [] ⟨[(4, B true)], []⟩ (tn 1) ?_
  refine VW.ret ?_
  replace h := Option.some.inj h
  subst h
  exact rt []

/- loop.example/g00844/laws.FnExactCacheText -/
def F6 (N : Nat) (a0 : (Int × ((List Int) × (List Int)))) : Option (Bool) :=
  andO (F25 N a0 (1048576 : Int)) fun y1 => cond (decide (y1 < (0 : Int))) (some true) (andO (F26 N a0) fun y2 => andO (F13 N y2) fun y3 => andO (F26 N a0) fun y4 => andO (F12 N y4) fun y5 => cond (!(y5.toList == y3.toList)) (some false) (andO (F26 N a0) fun y8 => andO (F27 N y4 y8) fun y9 => cond (!y9) (some false) (some true)))
theorem ok6 (N : Nat) (a0 : (Int × ((List Int) × (List Int)))) {r : Bool} (h : F6 N a0 = some r) : Con Go.Proofs.Tryd.prog 6 [.agg [.v (.int .i64) a0.1, .v (.sl (.int .i64)) a0.2.1, .v (.sl (.int .i64)) a0.2.2]] [.lf (.v .bool r)] := by
  refine ctr [.lf (.v .bool)] T_ok Go.Proofs.Tryd.func6 rfl fun w0 E0 ht => ?_
  unfold F6 at h
  show VW _ _ _ _ _ (retQ _ _ _ _) _
  refine sR T_ok [1] [0] ⟨[(1, .lf (.ptr 0 0 0 0))], [bx [.v (.int .i64) a0.1, .v (.sl (.int .i64)) a0.2.1, .v (.sl (.int .i64)) a0.2.2] 49]⟩ (tn 2) ?_
  refine sR T_ok [1, 3] [0] ⟨[(1, .lf (.ptr 0 0 0 0)), (3, I (1048576 : Int))], [bx [.v (.int .i64) a0.1, .v (.sl (.int .i64)) a0.2.1, .v (.sl (.int .i64)) a0.2.2] 49]⟩ (tn 1) ?_
  refine VW.seq ?_
  refine VW.region ?_
  refine sG T_ok 2 [1, 7, 8] [0] ⟨[(1, .lf (.ptr 0 0 0 0)), (7, .agg [.v (.int .i64) a0.1, .v (.sl (.int .i64)) a0.2.1, .v (.sl (.int .i64)) a0.2.2]), (8, I (1048576 : Int))], [bx [.v (.int .i64) a0.1, .v (.sl (.int .i64)) a0.2.1, .v (.sl (.int .i64)) a0.2.2] 49]⟩ (tn 2) ?_
  obtain ⟨y1, hy, h⟩ := andO_some h
  refine cal false [.t Y27, .t (.int .i64)] [] (some 9) T_ok (ok25 N _ _ hy) ?_
  refine sN T_ok [1, 3] [0] ⟨[(1, .lf (.ptr 0 0 0 0)), (3, I y1)], [bx [.v (.int .i64) a0.1, .v (.sl (.int .i64)) a0.2.1, .v (.sl (.int .i64)) a0.2.2] 49]⟩ (tn 1) ?_
  refine VW.seq ?_
  refine sR T_ok [1, 11] [0] ⟨[(1, .lf (.ptr 0 0 0 0)), (11, B (decide (y1 < (0 : Int))))], [bx [.v (.int .i64) a0.1, .v (.sl (.int .i64)) a0.2.1, .v (.sl (.int .i64)) a0.2.2] 49]⟩ (tn 2) ?_
  refine cnd h (fun h => ?_) (fun h => ?_)
  · refine sR T_ok [2] [] ⟨[(2, B true)], []⟩ (tn 1) ?_
    refine VW.ret ?_
    replace h := Option.some.inj h
    subst h
    exact rt []
  refine VW.skip ?_
  refine VW.seq ?_
  refine VW.region ?_
  refine sG T_ok 1 [1, 12] [0] ⟨[(1, .lf (.ptr 0 0 0 0)), (12, .agg [.v (.int .i64) a0.1, .v (.sl (.int .i64)) a0.2.1, .v (.sl (.int .i64)) a0.2.2])], [bx [.v (.int .i64) a0.1, .v (.sl (.int .i64)) a0.2.1, .v (.sl (.int .i64)) a0.2.2] 49]⟩ (tn 1) ?_
  obtain ⟨y2, hy, h⟩ := andO_some h
  refine cal false [.t Y27] [] (some 13) T_ok (ok26 N _ hy) ?_
  obtain ⟨y3, hy, h⟩ := andO_some h
  refine cal true [.t Y27] [] (some 14) T_ok (ok13 N _ hy) ?_
  refine sN T_ok [1, 4] [0] ⟨[(1, .lf (.ptr 0 0 0 0)), (4, S y3)], [bx [.v (.int .i64) a0.1, .v (.sl (.int .i64)) a0.2.1, .v (.sl (.int .i64)) a0.2.2] 49]⟩ (tn 1) ?_
  refine VW.seq ?_
  refine VW.region ?_
  refine sG T_ok 1 [1, 4, 15] [0] ⟨[(1, .lf (.ptr 0 0 0 0)), (4, S y3), (15, .agg [.v (.int .i64) a0.1, .v (.sl (.int .i64)) a0.2.1, .v (.sl (.int .i64)) a0.2.2])], [bx [.v (.int .i64) a0.1, .v (.sl (.int .i64)) a0.2.1, .v (.sl (.int .i64)) a0.2.2] 49]⟩ (tn 1) ?_
  obtain ⟨y4, hy, h⟩ := andO_some h
  refine cal false [.t Y27] [] (some 16) T_ok (ok26 N _ hy) ?_
  refine sN T_ok [1, 4, 5] [0, 3, 1, 2] ⟨[(1, .lf (.ptr 0 0 0 0)), (4, S y3), (5, .lf (.ptr 1 0 0 0))], [bx [.v (.int .i64) a0.1, .v (.sl (.int .i64)) a0.2.1, .v (.sl (.int .i64)) a0.2.2] 49, bx [.v (.int .i64) y4.1, .hd 2 0 none, .hd 3 0 none] 28, ar 0 (.int .i64) y4.2.1 .dp, ar 0 (.int .i64) y4.2.2 .dp]⟩ (tn 2) ?_
  refine VW.seq ?_
  refine VW.region ?_
  refine sG T_ok 1 [1, 4, 5, 17] [0, 1, 2, 3] ⟨[(1, .lf (.ptr 0 0 0 0)), (4, S y3), (5, .lf (.ptr 1 0 0 0)), (17, .agg [.v (.int .i64) y4.1, .hd 2 0 none, .hd 3 0 none])], [bx [.v (.int .i64) a0.1, .v (.sl (.int .i64)) a0.2.1, .v (.sl (.int .i64)) a0.2.2] 49, bx [.v (.int .i64) y4.1, .hd 2 0 none, .hd 3 0 none] 28, ar 0 (.int .i64) y4.2.1 .dp, ar 0 (.int .i64) y4.2.2 .dp]⟩ (tn 1) ?_
  obtain ⟨y5, hy, h⟩ := andO_some h
  refine cal true [.t Y27] [] (some 18) T_ok (ok12 N _ hy) ?_
  refine sN T_ok [1, 4, 5, 6] [0, 1, 2, 3] ⟨[(1, .lf (.ptr 0 0 0 0)), (4, S y3), (5, .lf (.ptr 1 0 0 0)), (6, S y5)], [bx [.v (.int .i64) a0.1, .v (.sl (.int .i64)) a0.2.1, .v (.sl (.int .i64)) a0.2.2] 49, bx [.v (.int .i64) y4.1, .hd 2 0 none, .hd 3 0 none] 28, ar 0 (.int .i64) y4.2.1 .dp, ar 0 (.int .i64) y4.2.2 .dp]⟩ (tn 1) ?_
  refine VW.seq ?_
  refine sR T_ok [1, 5, 21] [0, 1, 2, 3] ⟨[(1, .lf (.ptr 0 0 0 0)), (5, .lf (.ptr 1 0 0 0)), (21, B (!(y5.toList == y3.toList)))], [bx [.v (.int .i64) a0.1, .v (.sl (.int .i64)) a0.2.1, .v (.sl (.int .i64)) a0.2.2] 49, bx [.v (.int .i64) y4.1, .hd 2 0 none, .hd 3 0 none] 28, ar 0 (.int .i64) y4.2.1 .dp, ar 0 (.int .i64) y4.2.2 .dp]⟩ (tn 3) ?_
  refine cnd h (fun h => ?_) (fun h => ?_)
  · refine sR T_ok [2] [] ⟨[(2, B false)], []⟩ (tn 1) ?_
    refine VW.ret ?_
    replace h := Option.some.inj h
    subst h
    exact rt []
  refine VW.skip ?_
  refine VW.seq ?_
  refine VW.seq ?_
  obtain ⟨y8, hy8, h⟩ := andO_some h
  obtain ⟨y9, hy9, h⟩ := andO_some h
  refine VW.drawn (by kernel_rfl) [some (22, .agg [.v (.int .i64) y4.1, .hd 2 0 none, .hd 3 0 none]), some (23, .agg [.v (.int .i64) a0.1, .v (.sl (.int .i64)) a0.2.1, .v (.sl (.int .i64)) a0.2.2]), some (24, .agg [.v (.int .i64) y8.1, .hd 4 0 none, .hd 5 0 none]), some (25, B y9), some (26, B (!y9))] [2] [[bx [.v (.int .i64) a0.1, .v (.sl (.int .i64)) a0.2.1, .v (.sl (.int .i64)) a0.2.2] 49, bx [.v (.int .i64) y4.1, .hd 2 0 none, .hd 3 0 none] 28, ar 0 (.int .i64) y4.2.1 .dp, ar 0 (.int .i64) y4.2.2 .dp], [bx [.v (.int .i64) a0.1, .v (.sl (.int .i64)) a0.2.1, .v (.sl (.int .i64)) a0.2.2] 49, bx [.v (.int .i64) y4.1, .hd 2 0 none, .hd 3 0 none] 28, ar 0 (.int .i64) y4.2.1 .dp, ar 0 (.int .i64) y4.2.2 .dp, ar 0 (.int .i64) y8.2.1 .dp, ar 0 (.int .i64) y8.2.2 .dp]] [(0, 0), (0, 1), (1, 0), (2, 0), (3, 1), (4, 0), (4, 1)] [26] [] (s' := ⟨[(26, B (!y9))], []⟩) (by kernel_rfl) (by kernel_rfl) ⟨⟨_, rfl, Stp.ev T_ok (m := .dp) (φ := True) (by kernel_rfl) trivial⟩,
    ⟨_, rfl, Stp.ev T_ok (m := .dp) (φ := True) (by kernel_rfl) trivial⟩,
    ⟨_, rfl, Stp.ev T_ok (m := .dp) (φ := True) (by kernel_rfl) trivial⟩,
    ⟨_, rfl, Stp.eq (Stp.call false [.t Y27] [] T_ok (d := some 24) (by kernel_rfl) (ok26 N _ hy8) rfl) (by kernel_rfl) (by kernel_rfl)⟩,
    ⟨_, rfl, Stp.eq (Stp.call true [.t Y27, .t Y27] [] T_ok (d := some 25) (by kernel_rfl) (ok27 N _ _ hy9) rfl) (by kernel_rfl) (by kernel_rfl)⟩,
    ⟨_, rfl, Stp.ev T_ok (m := .dp) (φ := True) (by kernel_rfl) trivial⟩,
    ⟨_, rfl, Stp.ev T_ok (m := .dp) (φ := True) (by kernel_rfl) trivial⟩, trivial⟩ (by kernel_rfl) ?_
  refine cnd h (fun h => ?_) (fun h => ?_)
  · refine sR T_ok [2] [] ⟨[(2, B false)], []⟩ (tn 1) ?_
    refine VW.ret ?_
    replace h := Option.some.inj h
    subst h
    exact rt []
  refine VW.skip ?_
  refine sR T_ok [2] [] ⟨[(2, B true)], []⟩ (tn 1) ?_
  refine VW.ret ?_
  replace h := Option.some.inj h
  subst h
  exact rt []

end Go.Proofs.YtgpddckjpokclaaDoor.Vc
