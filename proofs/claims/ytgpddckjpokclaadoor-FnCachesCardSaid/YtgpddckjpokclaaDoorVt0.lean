/- What functions of the program compute, and that they do. -/
import Derived.Test.YtgpddckjpokclaaDoorProg
import Derived.Test.YtgpddckjpokclaaDoorVd1
import Derived.Test.YtgpddckjpokclaaDoorShelf
namespace Go.Proofs.YtgpddckjpokclaaDoor.Vc
open Go Go.RowKit
set_option linter.unusedVariables false
set_option maxRecDepth 100000
set_option maxHeartbeats 4000000
abbrev Y7 : Ty := .pair (.int .i64) (.pair (.int .i64) (.pair .bool (.int .u8)))
abbrev Y13 : Ty := .pair .str (.int .u64)
abbrev Y27 : Ty := .pair (.int .i64) (.pair (.sl (.int .i64)) (.sl (.int .i64)))
abbrev Y36 : Ty := .pair (.int .i64) (.int .i64)
abbrev Y74 : Ty := .pair (.sl (.int .u8)) Y36
def TL : List (Nat × TI) := [(2, { ty := (.int .i64) }),
  (3, { ty := (.int .i64) }),
  (4, { ty := .bool }),
  (5, { ty := (.int .u8) }),
  (6, { ty := (.int .u8) }),
  (7, { ty := Y7, offs := [0, 1, 2, 3], szs := [1, 1, 1, 1] }),
  (8, { ty := Y7, offs := [0, 1, 2, 3], szs := [1, 1, 1, 1] }),
  (9, { ty := .str }),
  (10, { ty := .str }),
  (11, { ty := .str }),
  (12, { ty := (.int .u64) }),
  (13, { ty := Y13, offs := [0, 1], szs := [1, 1] }),
  (14, { ty := Y13, offs := [0, 1], szs := [1, 1] }),
  (21, { ty := (.int .i32) }),
  (22, { ty := (.sl (.int .u8)), elem := 5 }),
  (24, { ty := (.sl (.int .i64)), elem := 3 }),
  (27, { ty := Y27, offs := [0, 1, 2], szs := [1, 1, 1] }),
  (28, { ty := Y27, offs := [0, 1, 2], szs := [1, 1, 1] }),
  (36, { ty := Y36, offs := [0, 1], szs := [1, 1] }),
  (37, { ty := Y36, offs := [0, 1], szs := [1, 1] }),
  (39, { ty := Y36, offs := [0, 1], szs := [1, 1] }),
  (42, { ty := (.sl Y36), elem := 37 }),
  (45, { ty := (.sl Y36), elem := 39 }),
  (49, { ty := Y27, offs := [0, 1, 2], szs := [1, 1, 1] }),
  (67, { ty := (.sl .str), elem := 9 }),
  (74, { ty := Y74, offs := [0, 1, 2], szs := [1, 1, 1] }),
  (75, { ty := Y74, offs := [0, 1, 2], szs := [1, 1, 1] }),
  (85, { ty := (.int .u64) }),
  (99, { ty := (.int .u64) }),
  (109, { ty := (.int .u32) }),
  (121, { ty := (.int .u8) }),
  (122, { ty := (.int .u8) }),
  (124, { ty := (.int .i32) }),
  (125, { ty := (.int .i32) })]
abbrev T : Tab := lookT TL
theorem T_ok : TabOk Go.Proofs.Tryd.prog T := tabOk_of TL (by kernel_rfl)
theorem T_rec : RecOk Go.Proofs.Tryd.prog T := recOk_of TL (by kernel_rfl)
/- loop.example/g00844/laws.big -/
def F7 (N : Nat) (a0 : (List Int)) : Option (Bool) :=
  some (decide ((a0.length : Int) > (1048576 : Int)))
theorem ok7 (N : Nat) (a0 : (List Int)) {r : Bool} (h : F7 N a0 = some r) : Con Go.Proofs.Tryd.prog 7 [.lf (.v (.sl (.int .u8)) a0)] [.lf (.v .bool r)] := by
  refine ctr [.lf (.v .bool)] T_ok Go.Proofs.Tryd.func7 rfl fun w0 E0 ht => ?_
  unfold F7 at h
  show VW _ _ _ _ _ (retQ _ _ _ _) _
  refine sR T_ok [0] [] ⟨[(0, .lf (.v (.sl (.int .u8)) a0))], []⟩ (tn 1) ?_
  refine sR T_ok [2] [] ⟨[(2, B (decide ((a0.length : Int) > (1048576 : Int))))], []⟩ (tn 4) ?_
  refine VW.ret ?_
  replace h := Option.some.inj h
  subst h
  exact rt []

/- loop.example/g00844/spec.l01New -/
def F28_j0 (N : Nat) (a0 : (List Int)) (x11 : Int) : Option (((List Int) × (Int × Int))) :=
  some (a0, ((0 : Int), x11))
def F28_l0_b (N : Nat) (a0 : (List Int)) (nx20 : Int → Int → Option (((List Int) × (Int × Int)))) (x16 : Int) (x17 : Int) : Option (((List Int) × (Int × Int))) :=
  cond (decide (x17 < (a0.length : Int))) (cond (decide (x17 < (4000 : Int))) (gd (InR x17 a0.length) (nx20 (IntKind.i64.wrap (((BitVec.ofInt IntKind.i64.bits (IntKind.i64.wrap ((IntKind.i64.wrap ((IntKind.i64.wrap (x16 * (149 : Int))) + (IntKind.i64.wrap (a0.getD x17.toNat (Ty.dflt (.int .u8)))))) + (11 : Int))) &&& BitVec.ofInt IntKind.i64.bits (1073741823 : Int)).toNat : Nat) : Int)) (IntKind.i64.wrap (x17 + (1 : Int))))) (F28_j0 N a0 x16)) (F28_j0 N a0 x16)
def F28_l0 (N : Nat) (a0 : (List Int)) : Nat → Int → Int → Option (((List Int) × (Int × Int))) := loopF (F28_l0_b N a0) (fun _ _ => none)
theorem F28_l0_s (N : Nat) (a0 : (List Int)) {k : Nat} (hk : 0 < k) (x16 : Int) (x17 : Int) : F28_l0 N a0 k x16 x17 = F28_l0_b N a0 (F28_l0 N a0 (k - 1)) x16 x17 := by
  cases k with
  | zero => exact absurd hk (Nat.lt_irrefl 0)
  | succ m => rfl
def F28 (N : Nat) (a0 : (List Int)) : Option (((List Int) × (Int × Int))) :=
  F28_l0 N a0 N (IntKind.i64.wrap ((844844 : Int) + (a0.length : Int))) (0 : Int)
theorem ok28 (N : Nat) (a0 : (List Int)) {r : ((List Int) × (Int × Int))} (h : F28 N a0 = some r) : ConB Go.Proofs.Tryd.prog 28 [.lf (.v (.sl (.int .u8)) a0)] [.v (.sl (.int .u8)) r.1, .v (.int .i64) r.2.1, .v (.int .i64) r.2.2] 75 := by
  refine ⟨enters_of Go.Proofs.Tryd.func28 rfl (by decide), by kernel_rfl, HB.intro (d := 2) Go.Proofs.Tryd.func28 rfl (Nat.le_of_ble_eq_true rfl) (Nat.le_of_ble_eq_true rfl) rfl (by kernel_rfl) fun w0 E0 ht => ?_⟩
  unfold F28 at h
  show VW _ _ _ _ _ (retB _ _ _) _
  refine sR T_ok [0] [] ⟨[(0, .lf (.v (.sl (.int .u8)) a0))], []⟩ (tn 1) ?_
  refine sR T_ok [0, 3] [] ⟨[(0, .lf (.v (.sl (.int .u8)) a0)), (3, I (IntKind.i64.wrap ((844844 : Int) + (a0.length : Int))))], []⟩ (tn 4) ?_
  refine VW.join (fun s => ∃ (x11 : Int), s = ⟨[(0, .lf (.v (.sl (.int .u8)) a0)), (3, I x11)], []⟩ ∧ F28_j0 N a0 x11 = some r) ?_ ?_
  · refine sR T_ok [0, 3, 4] [] ⟨[(0, .lf (.v (.sl (.int .u8)) a0)), (3, I (IntKind.i64.wrap ((844844 : Int) + (a0.length : Int)))), (4, I (0 : Int))], []⟩ (tn 1) ?_
    refine VW.block ?_
    refine lop (fun k s => ∃ (x16 : Int) (x17 : Int), s = ⟨[(0, .lf (.v (.sl (.int .u8)) a0)), (3, I x16), (4, I x17)], []⟩ ∧ F28_l0 N a0 k x16 x17 = some r) N [.ren [0, 3, 4] []] ⟨(IntKind.i64.wrap ((844844 : Int) + (a0.length : Int))), (0 : Int), rfl, h⟩ ?_
    rintro k20 s ⟨x16, x17, rfl, h⟩
    cases k20 with
    | zero => cases show none = some r from h
    | succ k20 =>
      replace h : F28_l0_b N a0 (F28_l0 N a0 k20) x16 x17 = some r := h
      unfold F28_l0_b at h
      refine VW.seq ?_
      refine VW.seq ?_
      refine VW.region ?_
      refine sG T_ok 5 [0, 3, 4, 12] [] ⟨[(0, .lf (.v (.sl (.int .u8)) a0)), (3, I x16), (4, I x17), (12, B (decide (x17 < (a0.length : Int))))], []⟩ (tn 5) ?_
      refine spB 12 h (fun h => ?_) (fun h => ?_)
      · refine sN T_ok [0, 3, 4, 15] [] ⟨[(0, .lf (.v (.sl (.int .u8)) a0)), (3, I x16), (4, I x17), (15, B (decide (x17 < (4000 : Int))))], []⟩ (tn 3) ?_
        refine cnd h (fun h => ?_) (fun h => ?_)
        · refine VW.skip ?_
          refine VW.seq ?_
          refine VW.block ?_
          obtain ⟨g22, h⟩ := gd_some h
          refine rR T_ok [0, 3, 4] [] ⟨[(0, .lf (.v (.sl (.int .u8)) a0)), (3, I (IntKind.i64.wrap (((BitVec.ofInt IntKind.i64.bits (IntKind.i64.wrap ((IntKind.i64.wrap ((IntKind.i64.wrap (x16 * (149 : Int))) + (IntKind.i64.wrap (a0.getD x17.toNat (Ty.dflt (.int .u8)))))) + (11 : Int))) &&& BitVec.ofInt IntKind.i64.bits (1073741823 : Int)).toNat : Nat) : Int))), (4, I x17)], []⟩ (pu 4 (an g22 (tn 6))) ?_
          refine rR T_ok [0, 3, 4] [] ⟨[(0, .lf (.v (.sl (.int .u8)) a0)), (3, I (IntKind.i64.wrap (((BitVec.ofInt IntKind.i64.bits (IntKind.i64.wrap ((IntKind.i64.wrap ((IntKind.i64.wrap (x16 * (149 : Int))) + (IntKind.i64.wrap (a0.getD x17.toNat (Ty.dflt (.int .u8)))))) + (11 : Int))) &&& BitVec.ofInt IntKind.i64.bits (1073741823 : Int)).toNat : Nat) : Int))), (4, I (IntKind.i64.wrap (x17 + (1 : Int))))], []⟩ (tn 3) ?_
          exact aro [.ren [0, 3, 4] []] ⟨(IntKind.i64.wrap (((BitVec.ofInt IntKind.i64.bits (IntKind.i64.wrap ((IntKind.i64.wrap ((IntKind.i64.wrap (x16 * (149 : Int))) + (IntKind.i64.wrap (a0.getD x17.toNat (Ty.dflt (.int .u8)))))) + (11 : Int))) &&& BitVec.ofInt IntKind.i64.bits (1073741823 : Int)).toNat : Nat) : Int)), (IntKind.i64.wrap (x17 + (1 : Int))), rfl, h⟩
        refine VW.exit ?_
        exact arv [.ren [0, 3] []] ⟨x16, rfl, h⟩
      refine sN T_ok [0, 3, 4, 15] [] ⟨[(0, .lf (.v (.sl (.int .u8)) a0)), (3, I x16), (4, I x17), (15, B false)], []⟩ (tn 3) ?_
      refine VW.cond (b := false) (by kernel_rfl) (fun h' => nomatch h') (fun _ => ?_)
      refine VW.exit ?_
      exact arv [.ren [0, 3] []] ⟨x16, rfl, h⟩
  rintro s ⟨x11, rfl, h⟩
  unfold F28_j0 at h
  refine sR T_ok [2] [0] ⟨[(2, .lf (.ptr 0 0 0 0))], [bx [.v (.sl (.int .u8)) a0, .v (.int .i64) (0 : Int), .v (.int .i64) x11] 75]⟩ (tn 5) ?_
  replace h := Option.some.inj h
  subst h
  refine VW.ret ?_
  exact ⟨0, 0, by kernel_rfl, by kernel_rfl⟩

/- loop.example/g00844/spec.l01Byte -/
def F53_j0 (N : Nat) (x2 : Int) (x3 : (List Int)) (x4 : Int) (x5 : Int) : Option (((List Int) × (Int × Int)) × Int) :=
  some ((x3, (x4, x5)), x2)
def F53 (N : Nat) (a0 : ((List Int) × (Int × Int))) : Option (((List Int) × (Int × Int)) × Int) :=
  cond (decide (a0.2.1 < (a0.1.length : Int))) (gd (InR a0.2.1 a0.1.length) (F53_j0 N (IntKind.i64.wrap (((BitVec.ofInt IntKind.i64.bits (IntKind.i64.wrap ((IntKind.i64.wrap (((BitVec.ofInt IntKind.i64.bits (IntKind.i64.wrap (((BitVec.ofInt IntKind.i64.bits (Int.fdiv (IntKind.i64.wrap ((IntKind.i64.wrap (a0.2.2 * (6364136223846793005 : Int))) + (1442695040888963407 : Int))) (2 ^ (min (33 : Int).toNat IntKind.i64.bits))) ^^^ BitVec.ofInt IntKind.i64.bits (Int.fdiv (IntKind.i64.wrap ((IntKind.i64.wrap (a0.2.2 * (6364136223846793005 : Int))) + (1442695040888963407 : Int))) (2 ^ (min (45 : Int).toNat IntKind.i64.bits)))).toNat : Nat) : Int)) &&& BitVec.ofInt IntKind.i64.bits (255 : Int)).toNat : Nat) : Int)) + (IntKind.i64.wrap (a0.1.getD a0.2.1.toNat (Ty.dflt (.int .u8)))))) &&& BitVec.ofInt IntKind.i64.bits (255 : Int)).toNat : Nat) : Int)) a0.1 (IntKind.i64.wrap (a0.2.1 + (1 : Int))) (IntKind.i64.wrap ((IntKind.i64.wrap (a0.2.2 * (6364136223846793005 : Int))) + (1442695040888963407 : Int))))) (F53_j0 N (IntKind.i64.wrap (((BitVec.ofInt IntKind.i64.bits (IntKind.i64.wrap (((BitVec.ofInt IntKind.i64.bits (Int.fdiv (IntKind.i64.wrap ((IntKind.i64.wrap (a0.2.2 * (6364136223846793005 : Int))) + (1442695040888963407 : Int))) (2 ^ (min (33 : Int).toNat IntKind.i64.bits))) ^^^ BitVec.ofInt IntKind.i64.bits (Int.fdiv (IntKind.i64.wrap ((IntKind.i64.wrap (a0.2.2 * (6364136223846793005 : Int))) + (1442695040888963407 : Int))) (2 ^ (min (45 : Int).toNat IntKind.i64.bits)))).toNat : Nat) : Int)) &&& BitVec.ofInt IntKind.i64.bits (255 : Int)).toNat : Nat) : Int)) a0.1 a0.2.1 (IntKind.i64.wrap ((IntKind.i64.wrap (a0.2.2 * (6364136223846793005 : Int))) + (1442695040888963407 : Int))))
theorem ok53 (N : Nat) (a0 : ((List Int) × (Int × Int))) {r : ((List Int) × (Int × Int)) × Int} (h : F53 N a0 = some r) : ConM Go.Proofs.Tryd.prog 53 [bx [.v (.sl (.int .u8)) a0.1, .v (.int .i64) a0.2.1, .v (.int .i64) a0.2.2] 75] [.lf (.ptr 0 0 0 0)] [.lf (.v (.int .i64) r.2)] [bx [.v (.sl (.int .u8)) r.1.1, .v (.int .i64) r.1.2.1, .v (.int .i64) r.1.2.2] 75] := by
  refine ⟨enters_of Go.Proofs.Tryd.func53 rfl (by decide), HM.intro [.lf (.v (.int .i64))] T_ok Go.Proofs.Tryd.func53 rfl (Nat.le_of_ble_eq_true rfl) (Nat.le_of_ble_eq_true rfl) fun w0 E0 ht => ?_⟩
  unfold F53 at h
  show VW _ _ _ _ _ (retM _ _ _ _ _) _
  refine sR T_ok [0, 65536] [0] ⟨[(0, .lf (.ptr 0 0 0 0)), (65536, .lf (.ptr 0 0 0 0))], [bx [.v (.sl (.int .u8)) a0.1, .v (.int .i64) a0.2.1, .v (.int .i64) a0.2.2] 75]⟩ (tn 1) ?_
  refine sR T_ok [0, 65536] [0] ⟨[(0, .lf (.ptr 0 0 0 0)), (65536, .lf (.ptr 0 0 0 0))], [bx [.v (.sl (.int .u8)) a0.1, .v (.int .i64) a0.2.1, .v (.int .i64) (IntKind.i64.wrap ((IntKind.i64.wrap (a0.2.2 * (6364136223846793005 : Int))) + (1442695040888963407 : Int)))] 75]⟩ (tn 10) ?_
  refine VW.seq ?_
  refine VW.drawn (by kernel_rfl) [some (13, .lf (.ptr 0 0 0 0)), some (14, .lf (.ptr 0 0 0 0)), some (15, .lf (.ptr 0 0 0 2)), some (16, I (IntKind.i64.wrap ((IntKind.i64.wrap (a0.2.2 * (6364136223846793005 : Int))) + (1442695040888963407 : Int)))), some (17, I (Int.fdiv (IntKind.i64.wrap ((IntKind.i64.wrap (a0.2.2 * (6364136223846793005 : Int))) + (1442695040888963407 : Int))) (2 ^ (min (33 : Int).toNat IntKind.i64.bits)))), some (18, .lf (.ptr 0 0 0 0)), some (19, .lf (.ptr 0 0 0 0)), some (20, .lf (.ptr 0 0 0 2)), some (21, I (IntKind.i64.wrap ((IntKind.i64.wrap (a0.2.2 * (6364136223846793005 : Int))) + (1442695040888963407 : Int)))), some (22, I (Int.fdiv (IntKind.i64.wrap ((IntKind.i64.wrap (a0.2.2 * (6364136223846793005 : Int))) + (1442695040888963407 : Int))) (2 ^ (min (45 : Int).toNat IntKind.i64.bits)))), some (23, I (IntKind.i64.wrap (((BitVec.ofInt IntKind.i64.bits (Int.fdiv (IntKind.i64.wrap ((IntKind.i64.wrap (a0.2.2 * (6364136223846793005 : Int))) + (1442695040888963407 : Int))) (2 ^ (min (33 : Int).toNat IntKind.i64.bits))) ^^^ BitVec.ofInt IntKind.i64.bits (Int.fdiv (IntKind.i64.wrap ((IntKind.i64.wrap (a0.2.2 * (6364136223846793005 : Int))) + (1442695040888963407 : Int))) (2 ^ (min (45 : Int).toNat IntKind.i64.bits)))).toNat : Nat) : Int))), some (24, I (IntKind.i64.wrap (((BitVec.ofInt IntKind.i64.bits (IntKind.i64.wrap (((BitVec.ofInt IntKind.i64.bits (Int.fdiv (IntKind.i64.wrap ((IntKind.i64.wrap (a0.2.2 * (6364136223846793005 : Int))) + (1442695040888963407 : Int))) (2 ^ (min (33 : Int).toNat IntKind.i64.bits))) ^^^ BitVec.ofInt IntKind.i64.bits (Int.fdiv (IntKind.i64.wrap ((IntKind.i64.wrap (a0.2.2 * (6364136223846793005 : Int))) + (1442695040888963407 : Int))) (2 ^ (min (45 : Int).toNat IntKind.i64.bits)))).toNat : Nat) : Int)) &&& BitVec.ofInt IntKind.i64.bits (255 : Int)).toNat : Nat) : Int))), some (3, I (IntKind.i64.wrap (((BitVec.ofInt IntKind.i64.bits (IntKind.i64.wrap (((BitVec.ofInt IntKind.i64.bits (Int.fdiv (IntKind.i64.wrap ((IntKind.i64.wrap (a0.2.2 * (6364136223846793005 : Int))) + (1442695040888963407 : Int))) (2 ^ (min (33 : Int).toNat IntKind.i64.bits))) ^^^ BitVec.ofInt IntKind.i64.bits (Int.fdiv (IntKind.i64.wrap ((IntKind.i64.wrap (a0.2.2 * (6364136223846793005 : Int))) + (1442695040888963407 : Int))) (2 ^ (min (45 : Int).toNat IntKind.i64.bits)))).toNat : Nat) : Int)) &&& BitVec.ofInt IntKind.i64.bits (255 : Int)).toNat : Nat) : Int)))] [] [[bx [.v (.sl (.int .u8)) a0.1, .v (.int .i64) a0.2.1, .v (.int .i64) (IntKind.i64.wrap ((IntKind.i64.wrap (a0.2.2 * (6364136223846793005 : Int))) + (1442695040888963407 : Int)))] 75]] [(0, 0), (1, 0), (2, 0), (3, 0), (4, 0), (5, 0), (6, 0), (7, 0), (8, 0), (9, 0), (10, 0), (11, 0), (12, 0)] [0, 3, 65536] [0] (s' := ⟨[(0, .lf (.ptr 0 0 0 0)), (3, I (IntKind.i64.wrap (((BitVec.ofInt IntKind.i64.bits (IntKind.i64.wrap (((BitVec.ofInt IntKind.i64.bits (Int.fdiv (IntKind.i64.wrap ((IntKind.i64.wrap (a0.2.2 * (6364136223846793005 : Int))) + (1442695040888963407 : Int))) (2 ^ (min (33 : Int).toNat IntKind.i64.bits))) ^^^ BitVec.ofInt IntKind.i64.bits (Int.fdiv (IntKind.i64.wrap ((IntKind.i64.wrap (a0.2.2 * (6364136223846793005 : Int))) + (1442695040888963407 : Int))) (2 ^ (min (45 : Int).toNat IntKind.i64.bits)))).toNat : Nat) : Int)) &&& BitVec.ofInt IntKind.i64.bits (255 : Int)).toNat : Nat) : Int))), (65536, .lf (.ptr 0 0 0 0))], [bx [.v (.sl (.int .u8)) a0.1, .v (.int .i64) a0.2.1, .v (.int .i64) (IntKind.i64.wrap ((IntKind.i64.wrap (a0.2.2 * (6364136223846793005 : Int))) + (1442695040888963407 : Int)))] 75]⟩) (by kernel_rfl) (by kernel_rfl) ⟨⟨_, rfl, Stp.ev T_ok (m := .dp) (φ := True) (by kernel_rfl) trivial⟩,
    ⟨_, rfl, Stp.ev T_ok (m := .dp) (φ := True) (by kernel_rfl) trivial⟩,
    ⟨_, rfl, Stp.ev T_ok (m := .dp) (φ := True) (by kernel_rfl) trivial⟩,
    ⟨_, rfl, Stp.ev T_ok (m := .dp) (φ := True) (by kernel_rfl) trivial⟩,
    ⟨_, rfl, Stp.ev T_ok (m := .dp) (φ := 0 ≤ (33 : Int)) (by kernel_rfl) (by decide)⟩,
    ⟨_, rfl, Stp.ev T_ok (m := .dp) (φ := True) (by kernel_rfl) trivial⟩,
    ⟨_, rfl, Stp.ev T_ok (m := .dp) (φ := True) (by kernel_rfl) trivial⟩,
    ⟨_, rfl, Stp.ev T_ok (m := .dp) (φ := True) (by kernel_rfl) trivial⟩,
    ⟨_, rfl, Stp.ev T_ok (m := .dp) (φ := True) (by kernel_rfl) trivial⟩,
    ⟨_, rfl, Stp.ev T_ok (m := .dp) (φ := 0 ≤ (45 : Int)) (by kernel_rfl) (by decide)⟩,
    ⟨_, rfl, Stp.ev T_ok (m := .dp) (φ := True) (by kernel_rfl) trivial⟩,
    ⟨_, rfl, Stp.ev T_ok (m := .dp) (φ := True) (by kernel_rfl) trivial⟩,
    ⟨_, rfl, Stp.ev T_ok (m := .dp) (φ := True) (by kernel_rfl) trivial⟩, trivial⟩ (by kernel_rfl) ?_
  refine VW.join (fun s => ∃ (x2 : Int) (x3 : (List Int)) (x4 : Int) (x5 : Int), s = ⟨[(3, I x2), (65536, .lf (.ptr 0 0 0 0))], [bx [.v (.sl (.int .u8)) x3, .v (.int .i64) x4, .v (.int .i64) x5] 75]⟩ ∧ F53_j0 N x2 x3 x4 x5 = some r) ?_ ?_
  · refine VW.seq ?_
    refine VW.drawn (by kernel_rfl) [some (25, .lf (.ptr 0 0 0 0)), some (26, .lf (.ptr 0 0 0 0)), some (27, .lf (.ptr 0 0 0 1)), some (28, I a0.2.1), some (29, .lf (.ptr 0 0 0 0)), some (30, .lf (.ptr 0 0 0 0)), some (31, .lf (.ptr 0 0 0 0)), some (32, .lf (.v (.sl (.int .u8)) a0.1)), some (33, I (a0.1.length : Int)), some (34, B (decide (a0.2.1 < (a0.1.length : Int))))] [] [[bx [.v (.sl (.int .u8)) a0.1, .v (.int .i64) a0.2.1, .v (.int .i64) (IntKind.i64.wrap ((IntKind.i64.wrap (a0.2.2 * (6364136223846793005 : Int))) + (1442695040888963407 : Int)))] 75]] [(0, 0), (1, 0), (2, 0), (3, 0), (4, 0), (5, 0), (6, 0), (7, 0), (8, 0), (9, 0)] [0, 3, 34, 65536] [0] (s' := ⟨[(0, .lf (.ptr 0 0 0 0)), (3, I (IntKind.i64.wrap (((BitVec.ofInt IntKind.i64.bits (IntKind.i64.wrap (((BitVec.ofInt IntKind.i64.bits (Int.fdiv (IntKind.i64.wrap ((IntKind.i64.wrap (a0.2.2 * (6364136223846793005 : Int))) + (1442695040888963407 : Int))) (2 ^ (min (33 : Int).toNat IntKind.i64.bits))) ^^^ BitVec.ofInt IntKind.i64.bits (Int.fdiv (IntKind.i64.wrap ((IntKind.i64.wrap (a0.2.2 * (6364136223846793005 : Int))) + (1442695040888963407 : Int))) (2 ^ (min (45 : Int).toNat IntKind.i64.bits)))).toNat : Nat) : Int)) &&& BitVec.ofInt IntKind.i64.bits (255 : Int)).toNat : Nat) : Int))), (34, B (decide (a0.2.1 < (a0.1.length : Int)))), (65536, .lf (.ptr 0 0 0 0))], [bx [.v (.sl (.int .u8)) a0.1, .v (.int .i64) a0.2.1, .v (.int .i64) (IntKind.i64.wrap ((IntKind.i64.wrap (a0.2.2 * (6364136223846793005 : Int))) + (1442695040888963407 : Int)))] 75]⟩) (by kernel_rfl) (by kernel_rfl) ⟨⟨_, rfl, Stp.ev T_ok (m := .dp) (φ := True) (by kernel_rfl) trivial⟩,
    ⟨_, rfl, Stp.ev T_ok (m := .dp) (φ := True) (by kernel_rfl) trivial⟩,
    ⟨_, rfl, Stp.ev T_ok (m := .dp) (φ := True) (by kernel_rfl) trivial⟩,
    ⟨_, rfl, Stp.ev T_ok (m := .dp) (φ := True) (by kernel_rfl) trivial⟩,
    ⟨_, rfl, Stp.ev T_ok (m := .dp) (φ := True) (by kernel_rfl) trivial⟩,
    ⟨_, rfl, Stp.ev T_ok (m := .dp) (φ := True) (by kernel_rfl) trivial⟩,
    ⟨_, rfl, Stp.ev T_ok (m := .dp) (φ := True) (by kernel_rfl) trivial⟩,
    ⟨_, rfl, Stp.ev T_ok (m := .dp) (φ := True) (by kernel_rfl) trivial⟩,
    ⟨_, rfl, Stp.ev T_ok (m := .dp) (φ := True) (by kernel_rfl) trivial⟩,
    ⟨_, rfl, Stp.ev T_ok (m := .dp) (φ := True) (by kernel_rfl) trivial⟩, trivial⟩ (by kernel_rfl) ?_
    refine cnd h (fun h => ?_) (fun h => ?_)
    · refine VW.seq ?_
      obtain ⟨g7, h⟩ := gd_some h
      refine VW.drawn (by kernel_rfl) [some (35, I (IntKind.i64.wrap (((BitVec.ofInt IntKind.i64.bits (IntKind.i64.wrap (((BitVec.ofInt IntKind.i64.bits (Int.fdiv (IntKind.i64.wrap ((IntKind.i64.wrap (a0.2.2 * (6364136223846793005 : Int))) + (1442695040888963407 : Int))) (2 ^ (min (33 : Int).toNat IntKind.i64.bits))) ^^^ BitVec.ofInt IntKind.i64.bits (Int.fdiv (IntKind.i64.wrap ((IntKind.i64.wrap (a0.2.2 * (6364136223846793005 : Int))) + (1442695040888963407 : Int))) (2 ^ (min (45 : Int).toNat IntKind.i64.bits)))).toNat : Nat) : Int)) &&& BitVec.ofInt IntKind.i64.bits (255 : Int)).toNat : Nat) : Int))), some (36, .lf (.ptr 0 0 0 0)), some (37, .lf (.ptr 0 0 0 0)), some (38, .lf (.ptr 0 0 0 0)), some (39, .lf (.v (.sl (.int .u8)) a0.1)), some (40, .lf (.ptr 0 0 0 0)), some (41, .lf (.ptr 0 0 0 0)), some (42, .lf (.ptr 0 0 0 1)), some (43, I a0.2.1), some (44, .lf (.fp (.int .u8) (a0.1.getD a0.2.1.toNat (Ty.dflt (.int .u8))) 0)), some (45, U (a0.1.getD a0.2.1.toNat (Ty.dflt (.int .u8)))), some (46, I (IntKind.i64.wrap (a0.1.getD a0.2.1.toNat (Ty.dflt (.int .u8))))), some (47, I (IntKind.i64.wrap ((IntKind.i64.wrap (((BitVec.ofInt IntKind.i64.bits (IntKind.i64.wrap (((BitVec.ofInt IntKind.i64.bits (Int.fdiv (IntKind.i64.wrap ((IntKind.i64.wrap (a0.2.2 * (6364136223846793005 : Int))) + (1442695040888963407 : Int))) (2 ^ (min (33 : Int).toNat IntKind.i64.bits))) ^^^ BitVec.ofInt IntKind.i64.bits (Int.fdiv (IntKind.i64.wrap ((IntKind.i64.wrap (a0.2.2 * (6364136223846793005 : Int))) + (1442695040888963407 : Int))) (2 ^ (min (45 : Int).toNat IntKind.i64.bits)))).toNat : Nat) : Int)) &&& BitVec.ofInt IntKind.i64.bits (255 : Int)).toNat : Nat) : Int)) + (IntKind.i64.wrap (a0.1.getD a0.2.1.toNat (Ty.dflt (.int .u8))))))), some (48, I (IntKind.i64.wrap (((BitVec.ofInt IntKind.i64.bits (IntKind.i64.wrap ((IntKind.i64.wrap (((BitVec.ofInt IntKind.i64.bits (IntKind.i64.wrap (((BitVec.ofInt IntKind.i64.bits (Int.fdiv (IntKind.i64.wrap ((IntKind.i64.wrap (a0.2.2 * (6364136223846793005 : Int))) + (1442695040888963407 : Int))) (2 ^ (min (33 : Int).toNat IntKind.i64.bits))) ^^^ BitVec.ofInt IntKind.i64.bits (Int.fdiv (IntKind.i64.wrap ((IntKind.i64.wrap (a0.2.2 * (6364136223846793005 : Int))) + (1442695040888963407 : Int))) (2 ^ (min (45 : Int).toNat IntKind.i64.bits)))).toNat : Nat) : Int)) &&& BitVec.ofInt IntKind.i64.bits (255 : Int)).toNat : Nat) : Int)) + (IntKind.i64.wrap (a0.1.getD a0.2.1.toNat (Ty.dflt (.int .u8)))))) &&& BitVec.ofInt IntKind.i64.bits (255 : Int)).toNat : Nat) : Int))), some (3, I (IntKind.i64.wrap (((BitVec.ofInt IntKind.i64.bits (IntKind.i64.wrap ((IntKind.i64.wrap (((BitVec.ofInt IntKind.i64.bits (IntKind.i64.wrap (((BitVec.ofInt IntKind.i64.bits (Int.fdiv (IntKind.i64.wrap ((IntKind.i64.wrap (a0.2.2 * (6364136223846793005 : Int))) + (1442695040888963407 : Int))) (2 ^ (min (33 : Int).toNat IntKind.i64.bits))) ^^^ BitVec.ofInt IntKind.i64.bits (Int.fdiv (IntKind.i64.wrap ((IntKind.i64.wrap (a0.2.2 * (6364136223846793005 : Int))) + (1442695040888963407 : Int))) (2 ^ (min (45 : Int).toNat IntKind.i64.bits)))).toNat : Nat) : Int)) &&& BitVec.ofInt IntKind.i64.bits (255 : Int)).toNat : Nat) : Int)) + (IntKind.i64.wrap (a0.1.getD a0.2.1.toNat (Ty.dflt (.int .u8)))))) &&& BitVec.ofInt IntKind.i64.bits (255 : Int)).toNat : Nat) : Int)))] [] [[bx [.v (.sl (.int .u8)) a0.1, .v (.int .i64) a0.2.1, .v (.int .i64) (IntKind.i64.wrap ((IntKind.i64.wrap (a0.2.2 * (6364136223846793005 : Int))) + (1442695040888963407 : Int)))] 75]] [(0, 0), (1, 0), (2, 0), (3, 0), (4, 0), (5, 0), (6, 0), (7, 0), (8, 0), (9, 0), (10, 0), (11, 0), (12, 0), (13, 0), (14, 0)] [0, 3, 65536] [0] (s' := ⟨[(0, .lf (.ptr 0 0 0 0)), (3, I (IntKind.i64.wrap (((BitVec.ofInt IntKind.i64.bits (IntKind.i64.wrap ((IntKind.i64.wrap (((BitVec.ofInt IntKind.i64.bits (IntKind.i64.wrap (((BitVec.ofInt IntKind.i64.bits (Int.fdiv (IntKind.i64.wrap ((IntKind.i64.wrap (a0.2.2 * (6364136223846793005 : Int))) + (1442695040888963407 : Int))) (2 ^ (min (33 : Int).toNat IntKind.i64.bits))) ^^^ BitVec.ofInt IntKind.i64.bits (Int.fdiv (IntKind.i64.wrap ((IntKind.i64.wrap (a0.2.2 * (6364136223846793005 : Int))) + (1442695040888963407 : Int))) (2 ^ (min (45 : Int).toNat IntKind.i64.bits)))).toNat : Nat) : Int)) &&& BitVec.ofInt IntKind.i64.bits (255 : Int)).toNat : Nat) : Int)) + (IntKind.i64.wrap (a0.1.getD a0.2.1.toNat (Ty.dflt (.int .u8)))))) &&& BitVec.ofInt IntKind.i64.bits (255 : Int)).toNat : Nat) : Int))), (65536, .lf (.ptr 0 0 0 0))], [bx [.v (.sl (.int .u8)) a0.1, .v (.int .i64) a0.2.1, .v (.int .i64) (IntKind.i64.wrap ((IntKind.i64.wrap (a0.2.2 * (6364136223846793005 : Int))) + (1442695040888963407 : Int)))] 75]⟩) (by kernel_rfl) (by kernel_rfl) ⟨⟨_, rfl, Stp.ev T_ok (m := .dp) (φ := True) (by kernel_rfl) trivial⟩,
    ⟨_, rfl, Stp.ev T_ok (m := .dp) (φ := True) (by kernel_rfl) trivial⟩,
    ⟨_, rfl, Stp.ev T_ok (m := .dp) (φ := True) (by kernel_rfl) trivial⟩,
    ⟨_, rfl, Stp.ev T_ok (m := .dp) (φ := True) (by kernel_rfl) trivial⟩,
    ⟨_, rfl, Stp.ev T_ok (m := .dp) (φ := True) (by kernel_rfl) trivial⟩,
    ⟨_, rfl, Stp.ev T_ok (m := .dp) (φ := True) (by kernel_rfl) trivial⟩,
    ⟨_, rfl, Stp.ev T_ok (m := .dp) (φ := True) (by kernel_rfl) trivial⟩,
    ⟨_, rfl, Stp.ev T_ok (m := .dp) (φ := True) (by kernel_rfl) trivial⟩,
    ⟨_, rfl, Stp.ev T_ok (m := .dp) (φ := True) (by kernel_rfl) trivial⟩,
    ⟨_, rfl, Stp.ev T_ok (m := .dp) (φ := InR a0.2.1 a0.1.length) (by kernel_rfl) g7⟩,
    ⟨_, rfl, Stp.ev T_ok (m := .dp) (φ := True) (by kernel_rfl) trivial⟩,
    ⟨_, rfl, Stp.ev T_ok (m := .dp) (φ := True) (by kernel_rfl) trivial⟩,
    ⟨_, rfl, Stp.ev T_ok (m := .dp) (φ := True) (by kernel_rfl) trivial⟩,
    ⟨_, rfl, Stp.ev T_ok (m := .dp) (φ := True) (by kernel_rfl) trivial⟩,
    ⟨_, rfl, Stp.ev T_ok (m := .dp) (φ := True) (by kernel_rfl) trivial⟩, trivial⟩ (by kernel_rfl) ?_
      refine rR T_ok [3, 65536] [0] ⟨[(3, I (IntKind.i64.wrap (((BitVec.ofInt IntKind.i64.bits (IntKind.i64.wrap ((IntKind.i64.wrap (((BitVec.ofInt IntKind.i64.bits (IntKind.i64.wrap (((BitVec.ofInt IntKind.i64.bits (Int.fdiv (IntKind.i64.wrap ((IntKind.i64.wrap (a0.2.2 * (6364136223846793005 : Int))) + (1442695040888963407 : Int))) (2 ^ (min (33 : Int).toNat IntKind.i64.bits))) ^^^ BitVec.ofInt IntKind.i64.bits (Int.fdiv (IntKind.i64.wrap ((IntKind.i64.wrap (a0.2.2 * (6364136223846793005 : Int))) + (1442695040888963407 : Int))) (2 ^ (min (45 : Int).toNat IntKind.i64.bits)))).toNat : Nat) : Int)) &&& BitVec.ofInt IntKind.i64.bits (255 : Int)).toNat : Nat) : Int)) + (IntKind.i64.wrap (a0.1.getD a0.2.1.toNat (Ty.dflt (.int .u8)))))) &&& BitVec.ofInt IntKind.i64.bits (255 : Int)).toNat : Nat) : Int))), (65536, .lf (.ptr 0 0 0 0))], [bx [.v (.sl (.int .u8)) a0.1, .v (.int .i64) (IntKind.i64.wrap (a0.2.1 + (1 : Int))), .v (.int .i64) (IntKind.i64.wrap ((IntKind.i64.wrap (a0.2.2 * (6364136223846793005 : Int))) + (1442695040888963407 : Int)))] 75]⟩ (tn 9) ?_
      exact arv [.ren [3, 65536] [0]] ⟨(IntKind.i64.wrap (((BitVec.ofInt IntKind.i64.bits (IntKind.i64.wrap ((IntKind.i64.wrap (((BitVec.ofInt IntKind.i64.bits (IntKind.i64.wrap (((BitVec.ofInt IntKind.i64.bits (Int.fdiv (IntKind.i64.wrap ((IntKind.i64.wrap (a0.2.2 * (6364136223846793005 : Int))) + (1442695040888963407 : Int))) (2 ^ (min (33 : Int).toNat IntKind.i64.bits))) ^^^ BitVec.ofInt IntKind.i64.bits (Int.fdiv (IntKind.i64.wrap ((IntKind.i64.wrap (a0.2.2 * (6364136223846793005 : Int))) + (1442695040888963407 : Int))) (2 ^ (min (45 : Int).toNat IntKind.i64.bits)))).toNat : Nat) : Int)) &&& BitVec.ofInt IntKind.i64.bits (255 : Int)).toNat : Nat) : Int)) + (IntKind.i64.wrap (a0.1.getD a0.2.1.toNat (Ty.dflt (.int .u8)))))) &&& BitVec.ofInt IntKind.i64.bits (255 : Int)).toNat : Nat) : Int)), a0.1, (IntKind.i64.wrap (a0.2.1 + (1 : Int))), (IntKind.i64.wrap ((IntKind.i64.wrap (a0.2.2 * (6364136223846793005 : Int))) + (1442695040888963407 : Int))), rfl, h⟩
    refine VW.skip ?_
    exact arv [.ren [3, 65536] [0]] ⟨(IntKind.i64.wrap (((BitVec.ofInt IntKind.i64.bits (IntKind.i64.wrap (((BitVec.ofInt IntKind.i64.bits (Int.fdiv (IntKind.i64.wrap ((IntKind.i64.wrap (a0.2.2 * (6364136223846793005 : Int))) + (1442695040888963407 : Int))) (2 ^ (min (33 : Int).toNat IntKind.i64.bits))) ^^^ BitVec.ofInt IntKind.i64.bits (Int.fdiv (IntKind.i64.wrap ((IntKind.i64.wrap (a0.2.2 * (6364136223846793005 : Int))) + (1442695040888963407 : Int))) (2 ^ (min (45 : Int).toNat IntKind.i64.bits)))).toNat : Nat) : Int)) &&& BitVec.ofInt IntKind.i64.bits (255 : Int)).toNat : Nat) : Int)), a0.1, a0.2.1, (IntKind.i64.wrap ((IntKind.i64.wrap (a0.2.2 * (6364136223846793005 : Int))) + (1442695040888963407 : Int))), rfl, h⟩
  rintro s ⟨x2, x3, x4, x5, rfl, h⟩
  unfold F53_j0 at h
  refine sR T_ok [2, 65536] [0] ⟨[(2, I x2), (65536, .lf (.ptr 0 0 0 0))], [bx [.v (.sl (.int .u8)) x3, .v (.int .i64) x4, .v (.int .i64) x5] 75]⟩ (tn 2) ?_
  replace h := Option.some.inj h
  subst h
  refine VW.ghl [.ren [2, 65536] [0]] (VW.ret ?_)
  exact ⟨[], by kernel_rfl, by kernel_rfl, by kernel_rfl⟩

/- loop.example/g00844/spec.l01Below -/
def F29 (N : Nat) (a0 : ((List Int) × (Int × Int))) (a1 : Int) : Option (((List Int) × (Int × Int)) × Int) :=
  cond (decide (a1 ≤ (0 : Int))) (some (a0, (0 : Int))) (cond (decide (a1 ≤ (256 : Int))) (andO (F53 N a0) fun y3 => gd (a1 ≠ 0) (some (y3.1, (Int.tmod y3.2 a1)))) (andO (F53 N a0) fun y5 => andO (F53 N y5.1) fun y6 => andO (F53 N y6.1) fun y7 => gd (a1 ≠ 0) (some (y7.1, (Int.tmod (IntKind.i64.wrap ((IntKind.i64.wrap ((IntKind.i64.wrap (y5.2 * (65536 : Int))) + (IntKind.i64.wrap (y6.2 * (256 : Int))))) + y7.2)) a1)))))
theorem ok29 (N : Nat) (a0 : ((List Int) × (Int × Int))) (a1 : Int) {r : ((List Int) × (Int × Int)) × Int} (h : F29 N a0 a1 = some r) : ConM Go.Proofs.Tryd.prog 29 [bx [.v (.sl (.int .u8)) a0.1, .v (.int .i64) a0.2.1, .v (.int .i64) a0.2.2] 75] [.lf (.ptr 0 0 0 0), I a1] [.lf (.v (.int .i64) r.2)] [bx [.v (.sl (.int .u8)) r.1.1, .v (.int .i64) r.1.2.1, .v (.int .i64) r.1.2.2] 75] := by
  refine ⟨enters_of Go.Proofs.Tryd.func29 rfl (by decide), HM.intro [.lf (.v (.int .i64))] T_ok Go.Proofs.Tryd.func29 rfl (Nat.le_of_ble_eq_true rfl) (Nat.le_of_ble_eq_true rfl) fun w0 E0 ht => ?_⟩
  unfold F29 at h
  show VW _ _ _ _ _ (retM _ _ _ _ _) _
  refine sR T_ok [0, 1, 65536] [0] ⟨[(0, .lf (.ptr 0 0 0 0)), (1, I a1), (65536, .lf (.ptr 0 0 0 0))], [bx [.v (.sl (.int .u8)) a0.1, .v (.int .i64) a0.2.1, .v (.int .i64) a0.2.2] 75]⟩ (tn 1) ?_
  refine VW.seq ?_
  refine sR T_ok [0, 1, 9, 65536] [0] ⟨[(0, .lf (.ptr 0 0 0 0)), (1, I a1), (9, B (decide (a1 ≤ (0 : Int)))), (65536, .lf (.ptr 0 0 0 0))], [bx [.v (.sl (.int .u8)) a0.1, .v (.int .i64) a0.2.1, .v (.int .i64) a0.2.2] 75]⟩ (tn 2) ?_
  refine cnd h (fun h => ?_) (fun h => ?_)
  · refine sR T_ok [4, 65536] [0] ⟨[(4, I (0 : Int)), (65536, .lf (.ptr 0 0 0 0))], [bx [.v (.sl (.int .u8)) a0.1, .v (.int .i64) a0.2.1, .v (.int .i64) a0.2.2] 75]⟩ (tn 1) ?_
    replace h := Option.some.inj h
    subst h
    refine VW.ghl [.ren [4, 65536] [0]] (VW.ret ?_)
    exact ⟨[], by kernel_rfl, by kernel_rfl, by kernel_rfl⟩
  refine VW.skip ?_
  refine VW.seq ?_
  refine sR T_ok [0, 1, 11, 65536] [0] ⟨[(0, .lf (.ptr 0 0 0 0)), (1, I a1), (11, B (decide (a1 ≤ (256 : Int)))), (65536, .lf (.ptr 0 0 0 0))], [bx [.v (.sl (.int .u8)) a0.1, .v (.int .i64) a0.2.1, .v (.int .i64) a0.2.2] 75]⟩ (tn 2) ?_
  refine cnd h (fun h => ?_) (fun h => ?_)
  · refine VW.seq ?_
    refine VW.region ?_
    refine sG T_ok 1 [1, 12, 65536] [0] ⟨[(1, I a1), (12, .lf (.ptr 0 0 0 0)), (65536, .lf (.ptr 0 0 0 0))], [bx [.v (.sl (.int .u8)) a0.1, .v (.int .i64) a0.2.1, .v (.int .i64) a0.2.2] 75]⟩ (tn 1) ?_
    obtain ⟨y3, hy, h⟩ := andO_some h
    refine VO.callM [0] [.r] (d := some 13) (by kernel_rfl) (by kernel_rfl) (ok53 N _ hy) (by kernel_rfl) ?_
    obtain ⟨g4, h⟩ := gd_some h
    refine sN T_ok [4, 65536] [0] ⟨[(4, I (Int.tmod y3.2 a1)), (65536, .lf (.ptr 0 0 0 0))], [bx [.v (.sl (.int .u8)) y3.1.1, .v (.int .i64) y3.1.2.1, .v (.int .i64) y3.1.2.2] 75]⟩ (pu 1 (an g4 (tn 1))) ?_
    replace h := Option.some.inj h
    subst h
    refine VW.ghl [.ren [4, 65536] [0]] (VW.ret ?_)
    exact ⟨[], by kernel_rfl, by kernel_rfl, by kernel_rfl⟩
  refine VW.skip ?_
  refine VW.seq ?_
  refine VW.region ?_
  refine sG T_ok 1 [0, 1, 16, 65536] [0] ⟨[(0, .lf (.ptr 0 0 0 0)), (1, I a1), (16, .lf (.ptr 0 0 0 0)), (65536, .lf (.ptr 0 0 0 0))], [bx [.v (.sl (.int .u8)) a0.1, .v (.int .i64) a0.2.1, .v (.int .i64) a0.2.2] 75]⟩ (tn 1) ?_
  obtain ⟨y5, hy, h⟩ := andO_some h
  refine VO.callM [0] [.r] (d := some 17) (by kernel_rfl) (by kernel_rfl) (ok53 N _ hy) (by kernel_rfl) ?_
  refine sN T_ok [0, 1, 5, 65536] [0] ⟨[(0, .lf (.ptr 0 0 0 0)), (1, I a1), (5, I y5.2), (65536, .lf (.ptr 0 0 0 0))], [bx [.v (.sl (.int .u8)) y5.1.1, .v (.int .i64) y5.1.2.1, .v (.int .i64) y5.1.2.2] 75]⟩ (tn 1) ?_
  refine VW.seq ?_
  refine VW.region ?_
  refine sG T_ok 1 [0, 1, 5, 18, 65536] [0] ⟨[(0, .lf (.ptr 0 0 0 0)), (1, I a1), (5, I y5.2), (18, .lf (.ptr 0 0 0 0)), (65536, .lf (.ptr 0 0 0 0))], [bx [.v (.sl (.int .u8)) y5.1.1, .v (.int .i64) y5.1.2.1, .v (.int .i64) y5.1.2.2] 75]⟩ (tn 1) ?_
  obtain ⟨y6, hy, h⟩ := andO_some h
  refine VO.callM [0] [.r] (d := some 19) (by kernel_rfl) (by kernel_rfl) (ok53 N _ hy) (by kernel_rfl) ?_
  refine sN T_ok [0, 1, 5, 6, 65536] [0] ⟨[(0, .lf (.ptr 0 0 0 0)), (1, I a1), (5, I y5.2), (6, I y6.2), (65536, .lf (.ptr 0 0 0 0))], [bx [.v (.sl (.int .u8)) y6.1.1, .v (.int .i64) y6.1.2.1, .v (.int .i64) y6.1.2.2] 75]⟩ (tn 1) ?_
  refine VW.seq ?_
  refine VW.region ?_
  refine sG T_ok 1 [1, 5, 6, 20, 65536] [0] ⟨[(1, I a1), (5, I y5.2), (6, I y6.2), (20, .lf (.ptr 0 0 0 0)), (65536, .lf (.ptr 0 0 0 0))], [bx [.v (.sl (.int .u8)) y6.1.1, .v (.int .i64) y6.1.2.1, .v (.int .i64) y6.1.2.2] 75]⟩ (tn 1) ?_
  obtain ⟨y7, hy, h⟩ := andO_some h
  refine VO.callM [0] [.r] (d := some 21) (by kernel_rfl) (by kernel_rfl) (ok53 N _ hy) (by kernel_rfl) ?_
  refine sN T_ok [1, 5, 6, 7, 65536] [0] ⟨[(1, I a1), (5, I y5.2), (6, I y6.2), (7, I y7.2), (65536, .lf (.ptr 0 0 0 0))], [bx [.v (.sl (.int .u8)) y7.1.1, .v (.int .i64) y7.1.2.1, .v (.int .i64) y7.1.2.2] 75]⟩ (tn 1) ?_
  obtain ⟨g8, h⟩ := gd_some h
  refine sR T_ok [4, 65536] [0] ⟨[(4, I (Int.tmod (IntKind.i64.wrap ((IntKind.i64.wrap ((IntKind.i64.wrap (y5.2 * (65536 : Int))) + (IntKind.i64.wrap (y6.2 * (256 : Int))))) + y7.2)) a1)), (65536, .lf (.ptr 0 0 0 0))], [bx [.v (.sl (.int .u8)) y7.1.1, .v (.int .i64) y7.1.2.1, .v (.int .i64) y7.1.2.2] 75]⟩ (pu 8 (an g8 (tn 1))) ?_
  replace h := Option.some.inj h
  subst h
  refine VW.ghl [.ren [4, 65536] [0]] (VW.ret ?_)
  exact ⟨[], by kernel_rfl, by kernel_rfl, by kernel_rfl⟩

/- loop.example/g00844/spec.l01Size -/
def F30 (N : Nat) (a0 : (List Int)) (a1 : Int) : Option (Int) :=
  cond (decide ((IntKind.i64.wrap ((2 : Int) + (IntKind.i64.wrap (Int.tdiv (a0.length : Int) (16 : Int))))) > a1)) (some a1) (some (IntKind.i64.wrap ((2 : Int) + (IntKind.i64.wrap (Int.tdiv (a0.length : Int) (16 : Int))))))
theorem ok30 (N : Nat) (a0 : (List Int)) (a1 : Int) {r : Int} (h : F30 N a0 a1 = some r) : Con Go.Proofs.Tryd.prog 30 [.lf (.v (.sl (.int .u8)) a0), I a1] [.lf (.v (.int .i64) r)] := by
  refine ctr [.lf (.v (.int .i64))] T_ok Go.Proofs.Tryd.func30 rfl fun w0 E0 ht => ?_
  unfold F30 at h
  show VW _ _ _ _ _ (retQ _ _ _ _) _
  refine sR T_ok [0, 1] [] ⟨[(0, .lf (.v (.sl (.int .u8)) a0)), (1, I a1)], []⟩ (tn 1) ?_
  refine sR T_ok [1, 5] [] ⟨[(1, I a1), (5, I (IntKind.i64.wrap ((2 : Int) + (IntKind.i64.wrap (Int.tdiv (a0.length : Int) (16 : Int))))))], []⟩ (pu 2 (an (show ((16 : Int) ≠ 0) from by decide) (tn 2))) ?_
  refine VW.seq ?_
  refine sR T_ok [1, 5, 12] [] ⟨[(1, I a1), (5, I (IntKind.i64.wrap ((2 : Int) + (IntKind.i64.wrap (Int.tdiv (a0.length : Int) (16 : Int)))))), (12, B (decide ((IntKind.i64.wrap ((2 : Int) + (IntKind.i64.wrap (Int.tdiv (a0.length : Int) (16 : Int))))) > a1)))], []⟩ (tn 3) ?_
  refine cnd h (fun h => ?_) (fun h => ?_)
  · refine sR T_ok [4] [] ⟨[(4, I a1)], []⟩ (tn 2) ?_
    refine VW.ret ?_
    replace h := Option.some.inj h
    subst h
    exact rt []
  refine VW.skip ?_
  refine sR T_ok [4] [] ⟨[(4, I (IntKind.i64.wrap ((2 : Int) + (IntKind.i64.wrap (Int.tdiv (a0.length : Int) (16 : Int))))))], []⟩ (tn 2) ?_
  refine VW.ret ?_
  replace h := Option.some.inj h
  subst h
  exact rt []

/- loop.example/g00844/spec.l01Once -/
def F31 (N : Nat) (a0 : ((List Int) × (Int × Int))) (a1 : Int) : Option (((List Int) × (Int × Int)) × Bool) :=
  andO (F29 N a0 a1) fun y1 => some (y1.1, (y1.2 == (0 : Int)))
theorem ok31 (N : Nat) (a0 : ((List Int) × (Int × Int))) (a1 : Int) {r : ((List Int) × (Int × Int)) × Bool} (h : F31 N a0 a1 = some r) : ConM Go.Proofs.Tryd.prog 31 [bx [.v (.sl (.int .u8)) a0.1, .v (.int .i64) a0.2.1, .v (.int .i64) a0.2.2] 75] [.lf (.ptr 0 0 0 0), I a1] [.lf (.v .bool r.2)] [bx [.v (.sl (.int .u8)) r.1.1, .v (.int .i64) r.1.2.1, .v (.int .i64) r.1.2.2] 75] := by
  refine ⟨enters_of Go.Proofs.Tryd.func31 rfl (by decide), HM.intro [.lf (.v .bool)] T_ok Go.Proofs.Tryd.func31 rfl (Nat.le_of_ble_eq_true rfl) (Nat.le_of_ble_eq_true rfl) fun w0 E0 ht => ?_⟩
  unfold F31 at h
  show VW _ _ _ _ _ (retM _ _ _ _ _) _
  refine sR T_ok [0, 1, 65536] [0] ⟨[(0, .lf (.ptr 0 0 0 0)), (1, I a1), (65536, .lf (.ptr 0 0 0 0))], [bx [.v (.sl (.int .u8)) a0.1, .v (.int .i64) a0.2.1, .v (.int .i64) a0.2.2] 75]⟩ (tn 1) ?_
  refine VW.seq ?_
  refine VW.region ?_
  refine sG T_ok 2 [5, 6, 65536] [0] ⟨[(5, .lf (.ptr 0 0 0 0)), (6, I a1), (65536, .lf (.ptr 0 0 0 0))], [bx [.v (.sl (.int .u8)) a0.1, .v (.int .i64) a0.2.1, .v (.int .i64) a0.2.2] 75]⟩ (tn 2) ?_
  obtain ⟨y1, hy, h⟩ := andO_some h
  refine VO.callM [0] [.r, .t (.int .i64)] (d := some 7) (by kernel_rfl) (by kernel_rfl) (ok29 N _ _ hy) (by kernel_rfl) ?_
  refine sN T_ok [4, 65536] [0] ⟨[(4, B (y1.2 == (0 : Int))), (65536, .lf (.ptr 0 0 0 0))], [bx [.v (.sl (.int .u8)) y1.1.1, .v (.int .i64) y1.1.2.1, .v (.int .i64) y1.1.2.2] 75]⟩ (tn 2) ?_
  replace h := Option.some.inj h
  subst h
  refine VW.ghl [.ren [4, 65536] [0]] (VW.ret ?_)
  exact ⟨[], by kernel_rfl, by kernel_rfl, by kernel_rfl⟩

/- loop.example/g00844/spec.l01PickInt -/
def F32 (N : Nat) (a0 : ((List Int) × (Int × Int))) (a1 : (List Int)) : Option (((List Int) × (Int × Int)) × Int) :=
  andO (F29 N a0 (a1.length : Int)) fun y1 => gd (InR y1.2 a1.length) (some (y1.1, (a1.getD y1.2.toNat (Ty.dflt (.int .i64)))))
theorem ok32 (N : Nat) (a0 : ((List Int) × (Int × Int))) (a1 : (List Int)) {r : ((List Int) × (Int × Int)) × Int} (h : F32 N a0 a1 = some r) : ConM Go.Proofs.Tryd.prog 32 [bx [.v (.sl (.int .u8)) a0.1, .v (.int .i64) a0.2.1, .v (.int .i64) a0.2.2] 75] [.lf (.ptr 0 0 0 0), .lf (.v (.sl (.int .i64)) a1)] [.lf (.v (.int .i64) r.2)] [bx [.v (.sl (.int .u8)) r.1.1, .v (.int .i64) r.1.2.1, .v (.int .i64) r.1.2.2] 75] := by
  refine ⟨enters_of Go.Proofs.Tryd.func32 rfl (by decide), HM.intro [.lf (.v (.int .i64))] T_ok Go.Proofs.Tryd.func32 rfl (Nat.le_of_ble_eq_true rfl) (Nat.le_of_ble_eq_true rfl) fun w0 E0 ht => ?_⟩
  unfold F32 at h
  show VW _ _ _ _ _ (retM _ _ _ _ _) _
  refine sR T_ok [0, 1, 65536] [0] ⟨[(0, .lf (.ptr 0 0 0 0)), (1, .lf (.v (.sl (.int .i64)) a1)), (65536, .lf (.ptr 0 0 0 0))], [bx [.v (.sl (.int .u8)) a0.1, .v (.int .i64) a0.2.1, .v (.int .i64) a0.2.2] 75]⟩ (tn 1) ?_
  refine VW.seq ?_
  refine VW.region ?_
  refine sG T_ok 4 [5, 6, 8, 65536] [0] ⟨[(5, .lf (.v (.sl (.int .i64)) a1)), (6, .lf (.ptr 0 0 0 0)), (8, I (a1.length : Int)), (65536, .lf (.ptr 0 0 0 0))], [bx [.v (.sl (.int .u8)) a0.1, .v (.int .i64) a0.2.1, .v (.int .i64) a0.2.2] 75]⟩ (tn 4) ?_
  obtain ⟨y1, hy, h⟩ := andO_some h
  refine VO.callM [0] [.r, .t (.int .i64)] (d := some 9) (by kernel_rfl) (by kernel_rfl) (ok29 N _ _ hy) (by kernel_rfl) ?_
  obtain ⟨g2, h⟩ := gd_some h
  refine sN T_ok [4, 65536] [0] ⟨[(4, I (a1.getD y1.2.toNat (Ty.dflt (.int .i64)))), (65536, .lf (.ptr 0 0 0 0))], [bx [.v (.sl (.int .u8)) y1.1.1, .v (.int .i64) y1.1.2.1, .v (.int .i64) y1.1.2.2] 75]⟩ (an g2 (tn 2)) ?_
  replace h := Option.some.inj h
  subst h
  refine VW.ghl [.ren [4, 65536] [0]] (VW.ret ?_)
  exact ⟨[], by kernel_rfl, by kernel_rfl, by kernel_rfl⟩

/- loop.example/g00844/spec.DrawPlayCache -/
def F8_j0 (N : Nat) (x52 : (List Int)) (x53 : Int) (x54 : Int) (x55 : (List Int)) : Option (Int × (List Int)) :=
  andO (F32 N (x52, (x53, x54)) ([(1 : Int), (2 : Int), (3 : Int), (4 : Int), (16 : Int), (17 : Int), (0 : Int)])) fun y56 => some (y56.2, x55)
def F8_l0_b (N : Nat) (x9 : Int) (nx87 : (List Int) → Int → Int → (List Int) → Int → Option (Int × (List Int))) (x70 : (List Int)) (x71 : Int) (x72 : Int) (x73 : (List Int)) (x74 : Int) : Option (Int × (List Int)) :=
  cond (decide (x74 < x9)) (andO (F29 N (x70, (x71, x72)) (20 : Int)) fun y94 => andO (F29 N y94.1 (20 : Int)) fun y95 => andO (F29 N y95.1 (20 : Int)) fun y96 => andO (F29 N y96.1 (9 : Int)) fun y97 => andO (F32 N y97.1 ([y94.2, y95.2, y96.2, (IntKind.i64.wrap ((-1 : Int) - y97.2))])) fun y98 => gd (x73.length + ([y98.2]).length ≤ lim (.int .i64)) (nx87 y98.1.1 y98.1.2.1 y98.1.2.2 (x73 ++ ([y98.2])) (IntKind.i64.wrap (x74 + (1 : Int))))) (F8_j0 N x70 x71 x72 x73)
def F8_l0 (N : Nat) (x9 : Int) : Nat → (List Int) → Int → Int → (List Int) → Int → Option (Int × (List Int)) := loopF (F8_l0_b N x9) (fun _ _ _ _ _ => none)
theorem F8_l0_s (N : Nat) (x9 : Int) {k : Nat} (hk : 0 < k) (x70 : (List Int)) (x71 : Int) (x72 : Int) (x73 : (List Int)) (x74 : Int) : F8_l0 N x9 k x70 x71 x72 x73 x74 = F8_l0_b N x9 (F8_l0 N x9 (k - 1)) x70 x71 x72 x73 x74 := by
  cases k with
  | zero => exact absurd hk (Nat.lt_irrefl 0)
  | succ m => rfl
def F8_j1 (N : Nat) (x6 : (List Int)) (x7 : Int) (x8 : Int) (x9 : Int) : Option (Int × (List Int)) :=
  F8_l0 N x9 N x6 x7 x8 ([]) (0 : Int)
def F8 (N : Nat) (a0 : (List Int)) : Option (Int × (List Int)) :=
  andO (F28 N a0) fun y1 => andO (F30 N a0 (50 : Int)) fun y2 => andO (F29 N y1 y2) fun y3 => andO (F31 N y3.1 (40 : Int)) fun y101 => cond y101.2 (andO (F29 N y101.1 (2 : Int)) fun y102 => F8_j1 N y102.1.1 y102.1.2.1 y102.1.2.2 (IntKind.i64.wrap ((300 : Int) + y102.2))) (F8_j1 N y101.1.1 y101.1.2.1 y101.1.2.2 y3.2)
theorem ok8 (N : Nat) (a0 : (List Int)) {r : Int × (List Int)} (h : F8 N a0 = some r) : Con Go.Proofs.Tryd.prog 8 [.lf (.v (.sl (.int .u8)) a0)] [.lf (.v (.int .i64) r.1), .lf (.own (.int .i64) r.2 .dp)] := by
  refine ctr [.lf (.v (.int .i64)), .lf (.own (.int .i64) .dp)] T_ok Go.Proofs.Tryd.func8 rfl fun w0 E0 ht => ?_
  unfold F8 at h
  show VW _ _ _ _ _ (retQ _ _ _ _) _
  refine sR T_ok [0] [] ⟨[(0, .lf (.v (.sl (.int .u8)) a0))], []⟩ (tn 2) ?_
  refine VW.seq ?_
  refine VW.region ?_
  refine sG T_ok 1 [0, 8] [] ⟨[(0, .lf (.v (.sl (.int .u8)) a0)), (8, .lf (.v (.sl (.int .u8)) a0))], []⟩ (tn 1) ?_
  obtain ⟨y1, hy, h⟩ := andO_some h
  refine VO.callB [.t (.sl (.int .u8))] (d := 9) (by kernel_rfl) (ok28 N _ hy) ?_
  refine sN T_ok [0, 4] [0] ⟨[(0, .lf (.v (.sl (.int .u8)) a0)), (4, .lf (.ptr 0 0 0 0))], [bx [.v (.sl (.int .u8)) y1.1, .v (.int .i64) y1.2.1, .v (.int .i64) y1.2.2] 75]⟩ (tn 1) ?_
  refine sR T_ok [0, 4, 5] [0] ⟨[(0, .lf (.v (.sl (.int .u8)) a0)), (4, .lf (.ptr 0 0 0 0)), (5, .lf (.nil))], [bx [.v (.sl (.int .u8)) y1.1, .v (.int .i64) y1.2.1, .v (.int .i64) y1.2.2] 75]⟩ (tn 2) ?_
  refine VW.seq ?_
  refine VW.region ?_
  refine sG T_ok 2 [4, 5, 11, 12] [0] ⟨[(4, .lf (.ptr 0 0 0 0)), (5, .lf (.nil)), (11, .lf (.ptr 0 0 0 0)), (12, .lf (.v (.sl (.int .u8)) a0))], [bx [.v (.sl (.int .u8)) y1.1, .v (.int .i64) y1.2.1, .v (.int .i64) y1.2.2] 75]⟩ (tn 2) ?_
  obtain ⟨y2, hy, h⟩ := andO_some h
  refine cal false [.t (.sl (.int .u8)), .t (.int .i64)] [] (some 13) T_ok (ok30 N _ _ hy) ?_
  obtain ⟨y3, hy, h⟩ := andO_some h
  refine VO.callM [0] [.r, .t (.int .i64)] (d := some 14) (by kernel_rfl) (by kernel_rfl) (ok29 N _ _ hy) (by kernel_rfl) ?_
  refine sN T_ok [4, 5, 6] [0] ⟨[(4, .lf (.ptr 0 0 0 0)), (5, .lf (.nil)), (6, I y3.2)], [bx [.v (.sl (.int .u8)) y3.1.1, .v (.int .i64) y3.1.2.1, .v (.int .i64) y3.1.2.2] 75]⟩ (tn 1) ?_
  refine VW.join (fun s => ∃ (x6 : (List Int)) (x7 : Int) (x8 : Int) (x9 : Int), s = ⟨[(4, .lf (.ptr 0 0 0 0)), (5, .lf (.nil)), (6, I x9)], [bx [.v (.sl (.int .u8)) x6, .v (.int .i64) x7, .v (.int .i64) x8] 75]⟩ ∧ F8_j1 N x6 x7 x8 x9 = some r) ?_ ?_
  · refine VW.seq ?_
    refine VW.region ?_
    refine sG T_ok 1 [4, 5, 6, 15] [0] ⟨[(4, .lf (.ptr 0 0 0 0)), (5, .lf (.nil)), (6, I y3.2), (15, .lf (.ptr 0 0 0 0))], [bx [.v (.sl (.int .u8)) y3.1.1, .v (.int .i64) y3.1.2.1, .v (.int .i64) y3.1.2.2] 75]⟩ (tn 1) ?_
    obtain ⟨y101, hy, h⟩ := andO_some h
    refine VO.callM [0] [.r, .t (.int .i64)] (d := some 16) (by kernel_rfl) (by kernel_rfl) (ok31 N _ _ hy) (by kernel_rfl) ?_
    refine sN T_ok [4, 5, 6, 16] [0] ⟨[(4, .lf (.ptr 0 0 0 0)), (5, .lf (.nil)), (6, I y3.2), (16, B y101.2)], [bx [.v (.sl (.int .u8)) y101.1.1, .v (.int .i64) y101.1.2.1, .v (.int .i64) y101.1.2.2] 75]⟩ (tn 0) ?_
    refine cnd h (fun h => ?_) (fun h => ?_)
    · refine VW.region ?_
      refine sG T_ok 1 [4, 5, 17] [0] ⟨[(4, .lf (.ptr 0 0 0 0)), (5, .lf (.nil)), (17, .lf (.ptr 0 0 0 0))], [bx [.v (.sl (.int .u8)) y101.1.1, .v (.int .i64) y101.1.2.1, .v (.int .i64) y101.1.2.2] 75]⟩ (tn 1) ?_
      obtain ⟨y102, hy, h⟩ := andO_some h
      refine VO.callM [0] [.r, .t (.int .i64)] (d := some 18) (by kernel_rfl) (by kernel_rfl) (ok29 N _ _ hy) (by kernel_rfl) ?_
      refine sN T_ok [4, 5, 6] [0] ⟨[(4, .lf (.ptr 0 0 0 0)), (5, .lf (.nil)), (6, I (IntKind.i64.wrap ((300 : Int) + y102.2)))], [bx [.v (.sl (.int .u8)) y102.1.1, .v (.int .i64) y102.1.2.1, .v (.int .i64) y102.1.2.2] 75]⟩ (tn 2) ?_
      exact arv [.ren [4, 5, 6] [0]] ⟨y102.1.1, y102.1.2.1, y102.1.2.2, (IntKind.i64.wrap ((300 : Int) + y102.2)), rfl, h⟩
    refine VW.skip ?_
    exact arv [.ren [4, 5, 6] [0]] ⟨y101.1.1, y101.1.2.1, y101.1.2.2, y3.2, rfl, h⟩
  rintro s ⟨x6, x7, x8, x9, rfl, h⟩
  unfold F8_j1 at h
  refine VW.join (fun s => ∃ (x52 : (List Int)) (x53 : Int) (x54 : Int) (x55 : (List Int)), s = ⟨[(4, .lf (.ptr 0 0 0 0)), (5, .lf (.hd 1 0 none))], [bx [.v (.sl (.int .u8)) x52, .v (.int .i64) x53, .v (.int .i64) x54] 75, ar 0 (.int .i64) x55 .dp]⟩ ∧ F8_j0 N x52 x53 x54 x55 = some r) ?_ ?_
  · refine sR T_ok [4, 5, 6, 7] [0] ⟨[(4, .lf (.ptr 0 0 0 0)), (5, .lf (.nil)), (6, I x9), (7, I (0 : Int))], [bx [.v (.sl (.int .u8)) x6, .v (.int .i64) x7, .v (.int .i64) x8] 75]⟩ (tn 1) ?_
    refine VW.block ?_
    refine lop (fun k s => ∃ (x70 : (List Int)) (x71 : Int) (x72 : Int) (x73 : (List Int)) (x74 : Int), s = ⟨[(4, .lf (.ptr 0 0 0 0)), (5, .lf (.hd 1 0 none)), (6, I x9), (7, I x74)], [bx [.v (.sl (.int .u8)) x70, .v (.int .i64) x71, .v (.int .i64) x72] 75, ar 0 (.int .i64) x73 .dp]⟩ ∧ F8_l0 N x9 k x70 x71 x72 x73 x74 = some r) N [.nilS 5 (.int .i64) .dp, .ren [4, 5, 6, 7] [0, 1]] ⟨x6, x7, x8, [], (0 : Int), rfl, h⟩ ?_
    rintro k87 s ⟨x70, x71, x72, x73, x74, rfl, h⟩
    cases k87 with
    | zero => cases show none = some r from h
    | succ k87 =>
      replace h : F8_l0_b N x9 (F8_l0 N x9 k87) x70 x71 x72 x73 x74 = some r := h
      unfold F8_l0_b at h
      refine VW.seq ?_
      refine sR T_ok [4, 5, 6, 7, 22] [0, 1] ⟨[(4, .lf (.ptr 0 0 0 0)), (5, .lf (.hd 1 0 none)), (6, I x9), (7, I x74), (22, B (decide (x74 < x9)))], [bx [.v (.sl (.int .u8)) x70, .v (.int .i64) x71, .v (.int .i64) x72] 75, ar 0 (.int .i64) x73 .dp]⟩ (tn 3) ?_
      refine cnd h (fun h => ?_) (fun h => ?_)
      · refine VW.skip ?_
        refine VW.seq ?_
        refine VW.block ?_
        refine VW.region ?_
        refine sG T_ok 3 [4, 6, 7, 25, 26, 27] [0, 1] ⟨[(4, .lf (.ptr 0 0 0 0)), (6, I x9), (7, I x74), (25, .lf (.hd 1 0 none)), (26, .lf (.ptr 0 0 0 0)), (27, .lf (.ptr 0 0 0 0))], [bx [.v (.sl (.int .u8)) x70, .v (.int .i64) x71, .v (.int .i64) x72] 75, ar 0 (.int .i64) x73 .dp]⟩ (tn 3) ?_
        obtain ⟨y94, hy, h⟩ := andO_some h
        refine VO.callM [0] [.r, .t (.int .i64)] (d := some 28) (by kernel_rfl) (by kernel_rfl) (ok29 N _ _ hy) (by kernel_rfl) ?_
        refine sG T_ok 1 [4, 6, 7, 25, 26, 28, 29] [0, 1] ⟨[(4, .lf (.ptr 0 0 0 0)), (6, I x9), (7, I x74), (25, .lf (.hd 1 0 none)), (26, .lf (.ptr 0 0 0 0)), (28, I y94.2), (29, .lf (.ptr 0 0 0 0))], [bx [.v (.sl (.int .u8)) y94.1.1, .v (.int .i64) y94.1.2.1, .v (.int .i64) y94.1.2.2] 75, ar 0 (.int .i64) x73 .dp]⟩ (tn 1) ?_
        obtain ⟨y95, hy, h⟩ := andO_some h
        refine VO.callM [0] [.r, .t (.int .i64)] (d := some 30) (by kernel_rfl) (by kernel_rfl) (ok29 N _ _ hy) (by kernel_rfl) ?_
        refine sG T_ok 1 [4, 6, 7, 25, 26, 28, 30, 31] [0, 1] ⟨[(4, .lf (.ptr 0 0 0 0)), (6, I x9), (7, I x74), (25, .lf (.hd 1 0 none)), (26, .lf (.ptr 0 0 0 0)), (28, I y94.2), (30, I y95.2), (31, .lf (.ptr 0 0 0 0))], [bx [.v (.sl (.int .u8)) y95.1.1, .v (.int .i64) y95.1.2.1, .v (.int .i64) y95.1.2.2] 75, ar 0 (.int .i64) x73 .dp]⟩ (tn 1) ?_
        obtain ⟨y96, hy, h⟩ := andO_some h
        refine VO.callM [0] [.r, .t (.int .i64)] (d := some 32) (by kernel_rfl) (by kernel_rfl) (ok29 N _ _ hy) (by kernel_rfl) ?_
        refine sG T_ok 1 [4, 6, 7, 25, 26, 28, 30, 32, 33] [0, 1] ⟨[(4, .lf (.ptr 0 0 0 0)), (6, I x9), (7, I x74), (25, .lf (.hd 1 0 none)), (26, .lf (.ptr 0 0 0 0)), (28, I y94.2), (30, I y95.2), (32, I y96.2), (33, .lf (.ptr 0 0 0 0))], [bx [.v (.sl (.int .u8)) y96.1.1, .v (.int .i64) y96.1.2.1, .v (.int .i64) y96.1.2.2] 75, ar 0 (.int .i64) x73 .dp]⟩ (tn 1) ?_
        obtain ⟨y97, hy, h⟩ := andO_some h
        refine VO.callM [0] [.r, .t (.int .i64)] (d := some 34) (by kernel_rfl) (by kernel_rfl) (ok29 N _ _ hy) (by kernel_rfl) ?_
        refine sG T_ok 2 [4, 6, 7, 25, 26, 36] [0, 1, 2] ⟨[(4, .lf (.ptr 0 0 0 0)), (6, I x9), (7, I x74), (25, .lf (.hd 1 0 none)), (26, .lf (.ptr 0 0 0 0)), (36, .lf (.hd 2 0 none))], [bx [.v (.sl (.int .u8)) y97.1.1, .v (.int .i64) y97.1.2.1, .v (.int .i64) y97.1.2.2] 75, ar 0 (.int .i64) x73 .dp, ar 0 (.int .i64) ([y94.2, y95.2, y96.2, (IntKind.i64.wrap ((-1 : Int) - y97.2))]) .dp]⟩ (tn 2) ?_
        obtain ⟨y98, hy, h⟩ := andO_some h
        refine VO.ghl [.frz 2] ?_
        refine VO.callM [0] [.r, .t (.sl (.int .i64))] (d := some 37) (by kernel_rfl) (by kernel_rfl) (ok32 N _ _ hy) (by kernel_rfl) ?_
        obtain ⟨g99, h⟩ := gd_some h
        refine sN T_ok [4, 5, 6, 7] [0, 1] ⟨[(4, .lf (.ptr 0 0 0 0)), (5, .lf (.hd 1 0 none)), (6, I x9), (7, I x74)], [bx [.v (.sl (.int .u8)) y98.1.1, .v (.int .i64) y98.1.2.1, .v (.int .i64) y98.1.2.2] 75, ar 0 (.int .i64) (x73 ++ ([y98.2])) .dp]⟩ (pu 1 (an g99 (tn 1))) ?_
        refine rR T_ok [4, 5, 6, 7] [0, 1] ⟨[(4, .lf (.ptr 0 0 0 0)), (5, .lf (.hd 1 0 none)), (6, I x9), (7, I (IntKind.i64.wrap (x74 + (1 : Int))))], [bx [.v (.sl (.int .u8)) y98.1.1, .v (.int .i64) y98.1.2.1, .v (.int .i64) y98.1.2.2] 75, ar 0 (.int .i64) (x73 ++ ([y98.2])) .dp]⟩ (tn 3) ?_
        exact aro [.ren [4, 5, 6, 7] [0, 1]] ⟨y98.1.1, y98.1.2.1, y98.1.2.2, (x73 ++ ([y98.2])), (IntKind.i64.wrap (x74 + (1 : Int))), rfl, h⟩
      refine VW.exit ?_
      exact arv [.ren [4, 5] [0, 1]] ⟨x70, x71, x72, x73, rfl, h⟩
  rintro s ⟨x52, x53, x54, x55, rfl, h⟩
  unfold F8_j0 at h
  refine VW.seq ?_
  refine VW.region ?_
  refine sG T_ok 2 [5, 40, 41] [1, 0, 2] ⟨[(5, .lf (.hd 0 0 none)), (40, .lf (.ptr 1 0 0 0)), (41, .lf (.hd 2 0 none))], [ar 0 (.int .i64) x55 .dp, bx [.v (.sl (.int .u8)) x52, .v (.int .i64) x53, .v (.int .i64) x54] 75, ar 0 (.int .i64) ([(1 : Int), (2 : Int), (3 : Int), (4 : Int), (16 : Int), (17 : Int), (0 : Int)]) .dp]⟩ (tn 2) ?_
  obtain ⟨y56, hy, h⟩ := andO_some h
  refine VO.ghl [.frz 2] ?_
  refine VO.callM [1] [.r, .t (.sl (.int .i64))] (d := some 42) (by kernel_rfl) (by kernel_rfl) (ok32 N _ _ hy) (by kernel_rfl) ?_
  refine sN T_ok [2, 3] [0] ⟨[(2, I y56.2), (3, .lf (.hd 0 0 none))], [ar 0 (.int .i64) x55 .dp]⟩ (tn 3) ?_
  refine VW.ret ?_
  replace h := Option.some.inj h
  subst h
  exact rt [some 0]

/- loop.example/g00844/spec.l01In -/
def F54 (N : Nat) (a0 : Int) (a1 : Int) (a2 : Int) : Option (Bool) :=
  cond (decide (a1 ≤ a0)) (some (decide (a0 ≤ a2))) (some false)
theorem ok54 (N : Nat) (a0 : Int) (a1 : Int) (a2 : Int) {r : Bool} (h : F54 N a0 a1 a2 = some r) : Con Go.Proofs.Tryd.prog 54 [I a0, I a1, I a2] [.lf (.v .bool r)] := by
  refine ctr [.lf (.v .bool)] T_ok Go.Proofs.Tryd.func54 rfl fun w0 E0 ht => ?_
  unfold F54 at h
  show VW _ _ _ _ _ (retQ _ _ _ _) _
  refine sR T_ok [0, 1, 2] [] ⟨[(0, I a0), (1, I a1), (2, I a2)], []⟩ (tn 1) ?_
  refine VW.seq ?_
  refine VW.region ?_
  refine sG T_ok 4 [0, 2, 10] [] ⟨[(0, I a0), (2, I a2), (10, B (decide (a1 ≤ a0)))], []⟩ (tn 4) ?_
  refine spB 10 h (fun h => ?_) (fun h => ?_)
  · refine sN T_ok [6] [] ⟨[(6, B (decide (a0 ≤ a2)))], []⟩ (tn 5) ?_
    refine VW.ret ?_
    replace h := Option.some.inj h
    subst h
    exact rt []
  refine sN T_ok [6] [] ⟨[(6, B false)], []⟩ (tn 5) ?_
  refine VW.ret ?_
  replace h := Option.some.inj h
  subst h
  exact rt []

/- loop.example/g00844/spec.NewCache -/
def F33 (N : Nat) (a0 : Int) : Option ((Int × ((List Int) × (List Int))) × Bool) :=
  andO (F54 N a0 (1 : Int) (16 : Int)) fun y2 => cond (!y2) (some (((0 : Int), ([], [])), false)) (some ((a0, ([], [])), true))
theorem ok33 (N : Nat) (a0 : Int) {r : (Int × ((List Int) × (List Int))) × Bool} (h : F33 N a0 = some r) : Con Go.Proofs.Tryd.prog 33 [I a0] [.agg [.v (.int .i64) r.1.1, .own (.int .i64) r.1.2.1 .dp, .own (.int .i64) r.1.2.2 .dp], .lf (.v .bool r.2)] := by
  refine ctr [.agg [.v (.int .i64), .own (.int .i64) .dp, .own (.int .i64) .dp], .lf (.v .bool)] T_ok Go.Proofs.Tryd.func33 rfl fun w0 E0 ht => ?_
  unfold F33 at h
  show VW _ _ _ _ _ (retQ _ _ _ _) _
  refine sR T_ok [0, 2] [0] ⟨[(0, I a0), (2, .lf (.ptr 0 0 0 0))], [bx [.v (.int .i64) (0 : Int), .nil, .nil] 28]⟩ (tn 2) ?_
  refine VW.seq ?_
  refine VW.seq ?_
  refine VW.region ?_
  refine sG T_ok 1 [0, 2, 4] [0] ⟨[(0, I a0), (2, .lf (.ptr 0 0 0 0)), (4, I a0)], [bx [.v (.int .i64) (0 : Int), .nil, .nil] 28]⟩ (tn 1) ?_
  obtain ⟨y2, hy, h⟩ := andO_some h
  refine cal false [.t (.int .i64), .t (.int .i64), .t (.int .i64)] [] (some 5) T_ok (ok54 N _ _ _ hy) ?_
  refine sN T_ok [0, 2, 6] [0] ⟨[(0, I a0), (2, .lf (.ptr 0 0 0 0)), (6, B (!y2))], [bx [.v (.int .i64) (0 : Int), .nil, .nil] 28]⟩ (tn 1) ?_
  refine cnd h (fun h => ?_) (fun h => ?_)
  · refine sR T_ok [2, 3] [0] ⟨[(2, .lf (.ptr 0 0 0 0)), (3, B false)], [bx [.v (.int .i64) (0 : Int), .nil, .nil] 28]⟩ (tn 3) ?_
    refine VW.ret ?_
    replace h := Option.some.inj h
    subst h
    exact rt [none, none]
  refine VW.skip ?_
  refine sR T_ok [2, 3] [0] ⟨[(2, .lf (.ptr 0 0 0 0)), (3, B true)], [bx [.v (.int .i64) a0, .nil, .nil] 28]⟩ (tn 4) ?_
  refine VW.ret ?_
  replace h := Option.some.inj h
  subst h
  exact rt [none, none]

/- loop.example/g00844/spec.l01Number -/
def F59 (N : Nat) (a0 : Int) : Option (Bool) :=
  andO (F54 N a0 (-1000000 : Int) (1000000 : Int)) fun y1 => some y1
theorem ok59 (N : Nat) (a0 : Int) {r : Bool} (h : F59 N a0 = some r) : Con Go.Proofs.Tryd.prog 59 [I a0] [.lf (.v .bool r)] := by
  refine ctr [.lf (.v .bool)] T_ok Go.Proofs.Tryd.func59 rfl fun w0 E0 ht => ?_
  unfold F59 at h
  show VW _ _ _ _ _ (retQ _ _ _ _) _
  refine sR T_ok [0] [] ⟨[(0, I a0)], []⟩ (tn 1) ?_
  refine VW.seq ?_
  refine VW.region ?_
  refine sG T_ok 1 [3] [] ⟨[(3, I a0)], []⟩ (tn 1) ?_
  obtain ⟨y1, hy, h⟩ := andO_some h
  refine cal false [.t (.int .i64), .t (.int .i64), .t (.int .i64)] [] (some 4) T_ok (ok54 N _ _ _ hy) ?_
  refine sN T_ok [2] [] ⟨[(2, B y1)], []⟩ (tn 1) ?_
  refine VW.ret ?_
  replace h := Option.some.inj h
  subst h
  exact rt []

/- loop.example/g00844/spec.l01Has -/
def F66_j0 (N : Nat) : Option (Bool) :=
  some false
def F66_l0_b (N : Nat) (a0 : (List Int)) (a1 : Int) (nx15 : Int → Option (Bool)) (x12 : Int) : Option (Bool) :=
  cond (decide (x12 < (a0.length : Int))) (gd (InR x12 a0.length) (cond ((a0.getD x12.toNat (Ty.dflt (.int .i64))) == a1) (some true) (nx15 (IntKind.i64.wrap (x12 + (1 : Int)))))) (F66_j0 N)
def F66_l0 (N : Nat) (a0 : (List Int)) (a1 : Int) : Nat → Int → Option (Bool) := loopF (F66_l0_b N a0 a1) (fun _ => none)
theorem F66_l0_s (N : Nat) (a0 : (List Int)) (a1 : Int) {k : Nat} (hk : 0 < k) (x12 : Int) : F66_l0 N a0 a1 k x12 = F66_l0_b N a0 a1 (F66_l0 N a0 a1 (k - 1)) x12 := by
  cases k with
  | zero => exact absurd hk (Nat.lt_irrefl 0)
  | succ m => rfl
def F66 (N : Nat) (a0 : (List Int)) (a1 : Int) : Option (Bool) :=
  F66_l0 N a0 a1 N (0 : Int)
theorem ok66 (N : Nat) (a0 : (List Int)) (a1 : Int) {r : Bool} (h : F66 N a0 a1 = some r) : Con Go.Proofs.Tryd.prog 66 [.lf (.v (.sl (.int .i64)) a0), I a1] [.lf (.v .bool r)] := by
  refine ctr [.lf (.v .bool)] T_ok Go.Proofs.Tryd.func66 rfl fun w0 E0 ht => ?_
  unfold F66 at h
  show VW _ _ _ _ _ (retQ _ _ _ _) _
  refine sR T_ok [0, 1] [] ⟨[(0, .lf (.v (.sl (.int .i64)) a0)), (1, I a1)], []⟩ (tn 1) ?_
  refine VW.join (fun s => s = ⟨[], []⟩ ∧ F66_j0 N = some r) ?_ ?_
  · refine sR T_ok [0, 1, 5] [] ⟨[(0, .lf (.v (.sl (.int .i64)) a0)), (1, I a1), (5, I (0 : Int))], []⟩ (tn 1) ?_
    refine VW.block ?_
    refine lop (fun k s => ∃ (x12 : Int), s = ⟨[(0, .lf (.v (.sl (.int .i64)) a0)), (1, I a1), (5, I x12)], []⟩ ∧ F66_l0 N a0 a1 k x12 = some r) N [.ren [0, 1, 5] []] ⟨(0 : Int), rfl, h⟩ ?_
    rintro k15 s ⟨x12, rfl, h⟩
    cases k15 with
    | zero => cases show none = some r from h
    | succ k15 =>
      replace h : F66_l0_b N a0 a1 (F66_l0 N a0 a1 k15) x12 = some r := h
      unfold F66_l0_b at h
      refine VW.seq ?_
      refine sR T_ok [0, 1, 5, 9] [] ⟨[(0, .lf (.v (.sl (.int .i64)) a0)), (1, I a1), (5, I x12), (9, B (decide (x12 < (a0.length : Int))))], []⟩ (tn 4) ?_
      refine cnd h (fun h => ?_) (fun h => ?_)
      · refine VW.skip ?_
        refine VW.seq ?_
        refine VW.block ?_
        obtain ⟨g17, h⟩ := gd_some h
        refine sR T_ok [0, 1, 5, 17] [] ⟨[(0, .lf (.v (.sl (.int .i64)) a0)), (1, I a1), (5, I x12), (17, B ((a0.getD x12.toNat (Ty.dflt (.int .i64))) == a1))], []⟩ (pu 2 (an g17 (tn 3))) ?_
        refine cnd h (fun h => ?_) (fun h => ?_)
        · refine sR T_ok [4] [] ⟨[(4, B true)], []⟩ (tn 1) ?_
          refine VW.ret ?_
          replace h := Option.some.inj h
          subst h
          exact rt []
        refine VW.skip ?_
        refine rR T_ok [0, 1, 5] [] ⟨[(0, .lf (.v (.sl (.int .i64)) a0)), (1, I a1), (5, I (IntKind.i64.wrap (x12 + (1 : Int))))], []⟩ (tn 3) ?_
        exact aro [.ren [0, 1, 5] []] ⟨(IntKind.i64.wrap (x12 + (1 : Int))), rfl, h⟩
      refine VW.exit ?_
      exact arv [.ren [] []] ⟨rfl, h⟩
  rintro s ⟨rfl, h⟩
  unfold F66_j0 at h
  refine sR T_ok [4] [] ⟨[(4, B false)], []⟩ (tn 1) ?_
  refine VW.ret ?_
  replace h := Option.some.inj h
  subst h
  exact rt []

/- loop.example/g00844/spec.CacheOk -/
def F44_j0 (N : Nat) : Option (Bool) :=
  some true
def F44_l0_b (N : Nat) (nx109 : Int → (List Int) → (List Int) → Int → Option (Bool)) (x87 : Int) (x88 : (List Int)) (x89 : (List Int)) (x90 : Int) : Option (Bool) :=
  cond (decide (x90 < (x88.length : Int))) (gd (InR x90 x88.length) (andO (F59 N (x88.getD x90.toNat (Ty.dflt (.int .i64)))) fun y120 => cond (!y120) (some false) (gd (InR x90 x89.length) (andO (F59 N (x89.getD x90.toNat (Ty.dflt (.int .i64)))) fun y123 => cond (!y123) (some false) (gd (0 ≤ x90 ∧ x90 ≤ (x88.length : Int)) (gd (InR x90 x88.length) (andO (F66 N (x88.take x90.toNat) (x88.getD x90.toNat (Ty.dflt (.int .i64)))) fun y127 => cond y127 (some false) (nx109 x87 x88 x89 (IntKind.i64.wrap (x90 + (1 : Int))))))))))) (F44_j0 N)
def F44_l0 (N : Nat) : Nat → Int → (List Int) → (List Int) → Int → Option (Bool) := loopF (F44_l0_b N) (fun _ _ _ _ => none)
theorem F44_l0_s (N : Nat) {k : Nat} (hk : 0 < k) (x87 : Int) (x88 : (List Int)) (x89 : (List Int)) (x90 : Int) : F44_l0 N k x87 x88 x89 x90 = F44_l0_b N (F44_l0 N (k - 1)) x87 x88 x89 x90 := by
  cases k with
  | zero => exact absurd hk (Nat.lt_irrefl 0)
  | succ m => rfl
def F44 (N : Nat) (a0 : (Int × ((List Int) × (List Int)))) : Option (Bool) :=
  andO (F54 N a0.1 (1 : Int) (16 : Int)) fun y2 => cond (!y2) (some false) (cond (decide ((a0.2.1.length : Int) > a0.1)) (some false) (cond ((a0.2.2.length : Int) != (a0.2.1.length : Int)) (some false) (F44_l0 N N a0.1 a0.2.1 a0.2.2 (0 : Int))))
theorem ok44 (N : Nat) (a0 : (Int × ((List Int) × (List Int)))) {r : Bool} (h : F44 N a0 = some r) : Con Go.Proofs.Tryd.prog 44 [.agg [.v (.int .i64) a0.1, .v (.sl (.int .i64)) a0.2.1, .v (.sl (.int .i64)) a0.2.2]] [.lf (.v .bool r)] := by
  refine ctr [.lf (.v .bool)] T_ok Go.Proofs.Tryd.func44 rfl fun w0 E0 ht => ?_
  unfold F44 at h
  show VW _ _ _ _ _ (retQ _ _ _ _) _
  refine sR T_ok [1] [0] ⟨[(1, .lf (.ptr 0 0 0 0))], [bx [.v (.int .i64) a0.1, .v (.sl (.int .i64)) a0.2.1, .v (.sl (.int .i64)) a0.2.2] 28]⟩ (tn 2) ?_
  refine VW.seq ?_
  refine VW.seq ?_
  refine VW.region ?_
  refine sG T_ok 2 [1, 5] [0] ⟨[(1, .lf (.ptr 0 0 0 0)), (5, I a0.1)], [bx [.v (.int .i64) a0.1, .v (.sl (.int .i64)) a0.2.1, .v (.sl (.int .i64)) a0.2.2] 28]⟩ (tn 2) ?_
  obtain ⟨y2, hy, h⟩ := andO_some h
  refine cal false [.t (.int .i64), .t (.int .i64), .t (.int .i64)] [] (some 6) T_ok (ok54 N _ _ _ hy) ?_
  refine sG T_ok 2 [1, 8] [0] ⟨[(1, .lf (.ptr 0 0 0 0)), (8, B (!y2))], [bx [.v (.int .i64) a0.1, .v (.sl (.int .i64)) a0.2.1, .v (.sl (.int .i64)) a0.2.2] 28]⟩ (tn 2) ?_
  refine spB 8 h (fun h => ?_) (fun h => ?_)
  · refine sN T_ok [1, 24] [0] ⟨[(1, .lf (.ptr 0 0 0 0)), (24, B true)], [bx [.v (.int .i64) a0.1, .v (.sl (.int .i64)) a0.2.1, .v (.sl (.int .i64)) a0.2.2] 28]⟩ (tn 16) ?_
    refine VW.cond (b := true) (by kernel_rfl) (fun _ => ?_) (fun h' => nomatch h')
    refine sR T_ok [2] [] ⟨[(2, B false)], []⟩ (tn 1) ?_
    refine VW.ret ?_
    replace h := Option.some.inj h
    subst h
    exact rt []
  refine sG T_ok 8 [1, 16] [0] ⟨[(1, .lf (.ptr 0 0 0 0)), (16, B (decide ((a0.2.1.length : Int) > a0.1)))], [bx [.v (.int .i64) a0.1, .v (.sl (.int .i64)) a0.2.1, .v (.sl (.int .i64)) a0.2.2] 28]⟩ (tn 8) ?_
  refine spB 16 h (fun h => ?_) (fun h => ?_)
  · refine sN T_ok [1, 24] [0] ⟨[(1, .lf (.ptr 0 0 0 0)), (24, B true)], [bx [.v (.int .i64) a0.1, .v (.sl (.int .i64)) a0.2.1, .v (.sl (.int .i64)) a0.2.2] 28]⟩ (tn 8) ?_
    refine VW.cond (b := true) (by kernel_rfl) (fun _ => ?_) (fun h' => nomatch h')
    refine sR T_ok [2] [] ⟨[(2, B false)], []⟩ (tn 1) ?_
    refine VW.ret ?_
    replace h := Option.some.inj h
    subst h
    exact rt []
  refine sN T_ok [1, 24] [0] ⟨[(1, .lf (.ptr 0 0 0 0)), (24, B ((a0.2.2.length : Int) != (a0.2.1.length : Int)))], [bx [.v (.int .i64) a0.1, .v (.sl (.int .i64)) a0.2.1, .v (.sl (.int .i64)) a0.2.2] 28]⟩ (tn 8) ?_
  refine cnd h (fun h => ?_) (fun h => ?_)
  · refine sR T_ok [2] [] ⟨[(2, B false)], []⟩ (tn 1) ?_
    refine VW.ret ?_
    replace h := Option.some.inj h
    subst h
    exact rt []
  refine VW.skip ?_
  refine VW.join (fun s => s = ⟨[], []⟩ ∧ F44_j0 N = some r) ?_ ?_
  · refine sR T_ok [1, 3] [0] ⟨[(1, .lf (.ptr 0 0 0 0)), (3, I (0 : Int))], [bx [.v (.int .i64) a0.1, .v (.sl (.int .i64)) a0.2.1, .v (.sl (.int .i64)) a0.2.2] 28]⟩ (tn 1) ?_
    refine VW.block ?_
    refine lop (fun k s => ∃ (x87 : Int) (x88 : (List Int)) (x89 : (List Int)) (x90 : Int), s = ⟨[(1, .lf (.ptr 0 0 0 0)), (3, I x90)], [bx [.v (.int .i64) x87, .v (.sl (.int .i64)) x88, .v (.sl (.int .i64)) x89] 28]⟩ ∧ F44_l0 N k x87 x88 x89 x90 = some r) N [.ren [1, 3] [0]] ⟨a0.1, a0.2.1, a0.2.2, (0 : Int), rfl, h⟩ ?_
    rintro k109 s ⟨x87, x88, x89, x90, rfl, h⟩
    cases k109 with
    | zero => cases show none = some r from h
    | succ k109 =>
      replace h : F44_l0_b N (F44_l0 N k109) x87 x88 x89 x90 = some r := h
      unfold F44_l0_b at h
      refine VW.seq ?_
      refine sR T_ok [1, 3, 29] [0] ⟨[(1, .lf (.ptr 0 0 0 0)), (3, I x90), (29, B (decide (x90 < (x88.length : Int))))], [bx [.v (.int .i64) x87, .v (.sl (.int .i64)) x88, .v (.sl (.int .i64)) x89] 28]⟩ (tn 5) ?_
      refine cnd h (fun h => ?_) (fun h => ?_)
      · refine VW.skip ?_
        refine VW.seq ?_
        refine VW.block ?_
        refine VW.seq ?_
        obtain ⟨g119, h⟩ := gd_some h
        obtain ⟨y120, hy120, h⟩ := andO_some h
        rcases Bool.eq_false_or_eq_true (!y120) with hb121 | hb121
        · replace h := cond_t h hb121
          refine VW.drawn (by kernel_rfl) [some (32, .lf (.ptr 0 0 0 1)), some (33, .lf (.v (.sl (.int .i64)) x88)), some (34, I x90), some (35, .lf (.fp (.int .i64) (x88.getD x90.toNat (Ty.dflt (.int .i64))) 0)), some (36, I (x88.getD x90.toNat (Ty.dflt (.int .i64)))), some (37, B y120), some (38, B (!y120)), some (39, B true), some (40, .unk), some (41, .unk), some (42, .unk), some (43, .unk), some (44, .unk), some (45, .unk), some (46, .unk), some (47, B true), some (48, B true), some (49, .unk), some (50, .unk), some (51, .unk), some (52, .unk), some (53, .unk), some (54, .unk), some (55, .unk), some (56, .unk), some (57, .unk), some (58, .unk), some (59, B true)] [] [[bx [.v (.int .i64) x87, .v (.sl (.int .i64)) x88, .v (.sl (.int .i64)) x89] 28]] [(0, 0), (1, 0), (2, 0), (3, 0), (4, 0), (5, 0), (6, 0), (7, 0), (8, 0), (9, 0), (10, 0), (11, 0), (12, 0), (13, 0), (14, 0), (15, 0), (16, 0), (17, 0), (18, 0), (19, 0), (20, 0), (21, 0), (22, 0), (23, 0), (24, 0), (25, 0), (26, 0), (27, 0)] [1, 3, 59] [0] (s' := ⟨[(1, .lf (.ptr 0 0 0 0)), (3, I x90), (59, B true)], [bx [.v (.int .i64) x87, .v (.sl (.int .i64)) x88, .v (.sl (.int .i64)) x89] 28]⟩) (by kernel_rfl) (by kernel_rfl) ⟨⟨_, rfl, Stp.ev T_ok (m := .dp) (φ := True) (by kernel_rfl) trivial⟩,
    ⟨_, rfl, Stp.ev T_ok (m := .dp) (φ := True) (by kernel_rfl) trivial⟩,
    ⟨_, rfl, Stp.ev T_ok (m := .dp) (φ := True) (by kernel_rfl) trivial⟩,
    ⟨_, rfl, Stp.ev T_ok (m := .dp) (φ := InR x90 x88.length) (by kernel_rfl) g119⟩,
    ⟨_, rfl, Stp.ev T_ok (m := .dp) (φ := True) (by kernel_rfl) trivial⟩,
    ⟨_, rfl, Stp.eq (Stp.call false [.t (.int .i64)] [] T_ok (d := some 37) (by kernel_rfl) (ok59 N _ hy120) rfl) (by kernel_rfl) (by kernel_rfl)⟩,
    ⟨_, rfl, Stp.ev T_ok (m := .dp) (φ := True) (by kernel_rfl) trivial⟩,
    ⟨_, rfl, Stp.lit (d := 39) (b := (!y120)) (c := true) (Stp.ev T_ok (m := .dp) (φ := True) (by kernel_rfl) trivial) hb121⟩,
    ⟨_, rfl, Stp.off (d := 39) (b := true) rfl rfl rfl (by kernel_rfl) (by decide) rfl (Nat.le_of_ble_eq_true rfl)⟩,
    ⟨_, rfl, Stp.off (d := 39) (b := true) rfl rfl rfl (by kernel_rfl) (by decide) rfl (Nat.le_of_ble_eq_true rfl)⟩,
    ⟨_, rfl, Stp.off (d := 39) (b := true) rfl rfl rfl (by kernel_rfl) (by decide) rfl (Nat.le_of_ble_eq_true rfl)⟩,
    ⟨_, rfl, Stp.off (d := 39) (b := true) rfl rfl rfl (by kernel_rfl) (by decide) rfl (Nat.le_of_ble_eq_true rfl)⟩,
    ⟨_, rfl, Stp.off (d := 39) (b := true) rfl rfl rfl (by kernel_rfl) (by decide) rfl (Nat.le_of_ble_eq_true rfl)⟩,
    ⟨_, rfl, Stp.off (d := 39) (b := true) rfl rfl rfl (by kernel_rfl) (by decide) rfl (Nat.le_of_ble_eq_true rfl)⟩,
    ⟨_, rfl, Stp.off (d := 39) (b := true) rfl rfl rfl (by kernel_rfl) (by decide) rfl (Nat.le_of_ble_eq_true rfl)⟩,
    ⟨_, rfl, Stp.ev T_ok (m := .dp) (φ := True) (by kernel_rfl) trivial⟩,
    ⟨_, rfl, Stp.ev T_ok (m := .dp) (φ := True) (by kernel_rfl) trivial⟩,
    ⟨_, rfl, Stp.off (d := 48) (b := true) rfl rfl rfl (by kernel_rfl) (by decide) rfl (Nat.le_of_ble_eq_true rfl)⟩,
    ⟨_, rfl, Stp.off (d := 48) (b := true) rfl rfl rfl (by kernel_rfl) (by decide) rfl (Nat.le_of_ble_eq_true rfl)⟩,
    ⟨_, rfl, Stp.off (d := 48) (b := true) rfl rfl rfl (by kernel_rfl) (by decide) rfl (Nat.le_of_ble_eq_true rfl)⟩,
    ⟨_, rfl, Stp.off (d := 48) (b := true) rfl rfl rfl (by kernel_rfl) (by decide) rfl (Nat.le_of_ble_eq_true rfl)⟩,
    ⟨_, rfl, Stp.off (d := 48) (b := true) rfl rfl rfl (by kernel_rfl) (by decide) rfl (Nat.le_of_ble_eq_true rfl)⟩,
    ⟨_, rfl, Stp.off (d := 48) (b := true) rfl rfl rfl (by kernel_rfl) (by decide) rfl (Nat.le_of_ble_eq_true rfl)⟩,
    ⟨_, rfl, Stp.off (d := 48) (b := true) rfl rfl rfl (by kernel_rfl) (by decide) rfl (Nat.le_of_ble_eq_true rfl)⟩,
    ⟨_, rfl, Stp.off (d := 48) (b := true) rfl rfl rfl (by kernel_rfl) (by decide) rfl (Nat.le_of_ble_eq_true rfl)⟩,
    ⟨_, rfl, Stp.off (d := 48) (b := true) rfl rfl rfl (by kernel_rfl) (by decide) rfl (Nat.le_of_ble_eq_true rfl)⟩,
    ⟨_, rfl, Stp.off (d := 48) (b := true) rfl rfl rfl (by kernel_rfl) (by decide) rfl (Nat.le_of_ble_eq_true rfl)⟩,
    ⟨_, rfl, Stp.ev T_ok (m := .dp) (φ := True) (by kernel_rfl) trivial⟩, trivial⟩ (by kernel_rfl) ?_
          refine VW.cond (b := true) (by kernel_rfl) (fun _ => ?_) (fun h' => nomatch h')
          refine sR T_ok [2] [] ⟨[(2, B false)], []⟩ (tn 1) ?_
          refine VW.ret ?_
          replace h := Option.some.inj h
          subst h
          exact rt []
        replace h := cond_f h hb121
        obtain ⟨g122, h⟩ := gd_some h
        obtain ⟨y123, hy123, h⟩ := andO_some h
        rcases Bool.eq_false_or_eq_true (!y123) with hb124 | hb124
        · replace h := cond_t h hb124
          refine VW.drawn (by kernel_rfl) [some (32, .lf (.ptr 0 0 0 1)), some (33, .lf (.v (.sl (.int .i64)) x88)), some (34, I x90), some (35, .lf (.fp (.int .i64) (x88.getD x90.toNat (Ty.dflt (.int .i64))) 0)), some (36, I (x88.getD x90.toNat (Ty.dflt (.int .i64)))), some (37, B y120), some (38, B (!y120)), some (39, B false), some (40, .lf (.ptr 0 0 0 2)), some (41, .lf (.v (.sl (.int .i64)) x89)), some (42, I x90), some (43, .lf (.fp (.int .i64) (x89.getD x90.toNat (Ty.dflt (.int .i64))) 0)), some (44, I (x89.getD x90.toNat (Ty.dflt (.int .i64)))), some (45, B y123), some (46, B (!y123)), some (47, B (!y123)), some (48, B true), some (49, .unk), some (50, .unk), some (51, .unk), some (52, .unk), some (53, .unk), some (54, .unk), some (55, .unk), some (56, .unk), some (57, .unk), some (58, .unk), some (59, B true)] [] [[bx [.v (.int .i64) x87, .v (.sl (.int .i64)) x88, .v (.sl (.int .i64)) x89] 28]] [(0, 0), (1, 0), (2, 0), (3, 0), (4, 0), (5, 0), (6, 0), (7, 0), (8, 0), (9, 0), (10, 0), (11, 0), (12, 0), (13, 0), (14, 0), (15, 0), (16, 0), (17, 0), (18, 0), (19, 0), (20, 0), (21, 0), (22, 0), (23, 0), (24, 0), (25, 0), (26, 0), (27, 0)] [1, 3, 59] [0] (s' := ⟨[(1, .lf (.ptr 0 0 0 0)), (3, I x90), (59, B true)], [bx [.v (.int .i64) x87, .v (.sl (.int .i64)) x88, .v (.sl (.int .i64)) x89] 28]⟩) (by kernel_rfl) (by kernel_rfl) ⟨⟨_, rfl, Stp.ev T_ok (m := .dp) (φ := True) (by kernel_rfl) trivial⟩,
    ⟨_, rfl, Stp.ev T_ok (m := .dp) (φ := True) (by kernel_rfl) trivial⟩,
    ⟨_, rfl, Stp.ev T_ok (m := .dp) (φ := True) (by kernel_rfl) trivial⟩,
    ⟨_, rfl, Stp.ev T_ok (m := .dp) (φ := InR x90 x88.length) (by kernel_rfl) g119⟩,
    ⟨_, rfl, Stp.ev T_ok (m := .dp) (φ := True) (by kernel_rfl) trivial⟩,
    ⟨_, rfl, Stp.eq (Stp.call false [.t (.int .i64)] [] T_ok (d := some 37) (by kernel_rfl) (ok59 N _ hy120) rfl) (by kernel_rfl) (by kernel_rfl)⟩,
    ⟨_, rfl, Stp.ev T_ok (m := .dp) (φ := True) (by kernel_rfl) trivial⟩,
    ⟨_, rfl, Stp.lit (d := 39) (b := (!y120)) (c := false) (Stp.ev T_ok (m := .dp) (φ := True) (by kernel_rfl) trivial) hb121⟩,
    ⟨_, rfl, Stp.on (d := 39) (b := false) rfl rfl rfl (by kernel_rfl) rfl (Stp.ev T_ok (m := .dp) (φ := True) (by kernel_rfl) trivial)⟩,
    ⟨_, rfl, Stp.on (d := 39) (b := false) rfl rfl rfl (by kernel_rfl) rfl (Stp.ev T_ok (m := .dp) (φ := True) (by kernel_rfl) trivial)⟩,
    ⟨_, rfl, Stp.on (d := 39) (b := false) rfl rfl rfl (by kernel_rfl) rfl (Stp.ev T_ok (m := .dp) (φ := True) (by kernel_rfl) trivial)⟩,
    ⟨_, rfl, Stp.on (d := 39) (b := false) rfl rfl rfl (by kernel_rfl) rfl (Stp.ev T_ok (m := .dp) (φ := InR x90 x89.length) (by kernel_rfl) g122)⟩,
    ⟨_, rfl, Stp.on (d := 39) (b := false) rfl rfl rfl (by kernel_rfl) rfl (Stp.ev T_ok (m := .dp) (φ := True) (by kernel_rfl) trivial)⟩,
    ⟨_, rfl, Stp.eq (Stp.on (d := 39) (b := false) rfl rfl rfl (by kernel_rfl) rfl (Stp.call false [.t (.int .i64)] [] T_ok (d := some 45) (by kernel_rfl) (ok59 N _ hy123) rfl)) (by kernel_rfl) (by kernel_rfl)⟩,
    ⟨_, rfl, Stp.on (d := 39) (b := false) rfl rfl rfl (by kernel_rfl) rfl (Stp.ev T_ok (m := .dp) (φ := True) (by kernel_rfl) trivial)⟩,
    ⟨_, rfl, Stp.ev T_ok (m := .dp) (φ := True) (by kernel_rfl) trivial⟩,
    ⟨_, rfl, Stp.lit (d := 48) (b := (!y123)) (c := true) (Stp.ev T_ok (m := .dp) (φ := True) (by kernel_rfl) trivial) hb124⟩,
    ⟨_, rfl, Stp.off (d := 48) (b := true) rfl rfl rfl (by kernel_rfl) (by decide) rfl (Nat.le_of_ble_eq_true rfl)⟩,
    ⟨_, rfl, Stp.off (d := 48) (b := true) rfl rfl rfl (by kernel_rfl) (by decide) rfl (Nat.le_of_ble_eq_true rfl)⟩,
    ⟨_, rfl, Stp.off (d := 48) (b := true) rfl rfl rfl (by kernel_rfl) (by decide) rfl (Nat.le_of_ble_eq_true rfl)⟩,
    ⟨_, rfl, Stp.off (d := 48) (b := true) rfl rfl rfl (by kernel_rfl) (by decide) rfl (Nat.le_of_ble_eq_true rfl)⟩,
    ⟨_, rfl, Stp.off (d := 48) (b := true) rfl rfl rfl (by kernel_rfl) (by decide) rfl (Nat.le_of_ble_eq_true rfl)⟩,
    ⟨_, rfl, Stp.off (d := 48) (b := true) rfl rfl rfl (by kernel_rfl) (by decide) rfl (Nat.le_of_ble_eq_true rfl)⟩,
    ⟨_, rfl, Stp.off (d := 48) (b := true) rfl rfl rfl (by kernel_rfl) (by decide) rfl (Nat.le_of_ble_eq_true rfl)⟩,
    ⟨_, rfl, Stp.off (d := 48) (b := true) rfl rfl rfl (by kernel_rfl) (by decide) rfl (Nat.le_of_ble_eq_true rfl)⟩,
    ⟨_, rfl, Stp.off (d := 48) (b := true) rfl rfl rfl (by kernel_rfl) (by decide) rfl (Nat.le_of_ble_eq_true rfl)⟩,
    ⟨_, rfl, Stp.off (d := 48) (b := true) rfl rfl rfl (by kernel_rfl) (by decide) rfl (Nat.le_of_ble_eq_true rfl)⟩,
    ⟨_, rfl, Stp.ev T_ok (m := .dp) (φ := True) (by kernel_rfl) trivial⟩, trivial⟩ (by kernel_rfl) ?_
          refine VW.cond (b := true) (by kernel_rfl) (fun _ => ?_) (fun h' => nomatch h')
          refine sR T_ok [2] [] ⟨[(2, B false)], []⟩ (tn 1) ?_
          refine VW.ret ?_
          replace h := Option.some.inj h
          subst h
          exact rt []
        replace h := cond_f h hb124
        obtain ⟨g125, h⟩ := gd_some h
        obtain ⟨g126, h⟩ := gd_some h
        obtain ⟨y127, hy127, h⟩ := andO_some h
        refine VW.drawn (by kernel_rfl) [some (32, .lf (.ptr 0 0 0 1)), some (33, .lf (.v (.sl (.int .i64)) x88)), some (34, I x90), some (35, .lf (.fp (.int .i64) (x88.getD x90.toNat (Ty.dflt (.int .i64))) 0)), some (36, I (x88.getD x90.toNat (Ty.dflt (.int .i64)))), some (37, B y120), some (38, B (!y120)), some (39, B false), some (40, .lf (.ptr 0 0 0 2)), some (41, .lf (.v (.sl (.int .i64)) x89)), some (42, I x90), some (43, .lf (.fp (.int .i64) (x89.getD x90.toNat (Ty.dflt (.int .i64))) 0)), some (44, I (x89.getD x90.toNat (Ty.dflt (.int .i64)))), some (45, B y123), some (46, B (!y123)), some (47, B (!y123)), some (48, B false), some (49, .lf (.ptr 0 0 0 1)), some (50, .lf (.v (.sl (.int .i64)) x88)), some (51, I x90), some (52, .lf (.v (.sl (.int .i64)) (x88.take x90.toNat))), some (53, .lf (.ptr 0 0 0 1)), some (54, .lf (.v (.sl (.int .i64)) x88)), some (55, I x90), some (56, .lf (.fp (.int .i64) (x88.getD x90.toNat (Ty.dflt (.int .i64))) 0)), some (57, I (x88.getD x90.toNat (Ty.dflt (.int .i64)))), some (58, B y127), some (59, B y127)] [] [[bx [.v (.int .i64) x87, .v (.sl (.int .i64)) x88, .v (.sl (.int .i64)) x89] 28]] [(0, 0), (1, 0), (2, 0), (3, 0), (4, 0), (5, 0), (6, 0), (7, 0), (8, 0), (9, 0), (10, 0), (11, 0), (12, 0), (13, 0), (14, 0), (15, 0), (16, 0), (17, 0), (18, 0), (19, 0), (20, 0), (21, 0), (22, 0), (23, 0), (24, 0), (25, 0), (26, 0), (27, 0)] [1, 3, 59] [0] (s' := ⟨[(1, .lf (.ptr 0 0 0 0)), (3, I x90), (59, B y127)], [bx [.v (.int .i64) x87, .v (.sl (.int .i64)) x88, .v (.sl (.int .i64)) x89] 28]⟩) (by kernel_rfl) (by kernel_rfl) ⟨⟨_, rfl, Stp.ev T_ok (m := .dp) (φ := True) (by kernel_rfl) trivial⟩,
    ⟨_, rfl, Stp.ev T_ok (m := .dp) (φ := True) (by kernel_rfl) trivial⟩,
    ⟨_, rfl, Stp.ev T_ok (m := .dp) (φ := True) (by kernel_rfl) trivial⟩,
    ⟨_, rfl, Stp.ev T_ok (m := .dp) (φ := InR x90 x88.length) (by kernel_rfl) g119⟩,
    ⟨_, rfl, Stp.ev T_ok (m := .dp) (φ := True) (by kernel_rfl) trivial⟩,
    ⟨_, rfl, Stp.eq (Stp.call false [.t (.int .i64)] [] T_ok (d := some 37) (by kernel_rfl) (ok59 N _ hy120) rfl) (by kernel_rfl) (by kernel_rfl)⟩,
    ⟨_, rfl, Stp.ev T_ok (m := .dp) (φ := True) (by kernel_rfl) trivial⟩,
    ⟨_, rfl, Stp.lit (d := 39) (b := (!y120)) (c := false) (Stp.ev T_ok (m := .dp) (φ := True) (by kernel_rfl) trivial) hb121⟩,
    ⟨_, rfl, Stp.on (d := 39) (b := false) rfl rfl rfl (by kernel_rfl) rfl (Stp.ev T_ok (m := .dp) (φ := True) (by kernel_rfl) trivial)⟩,
    ⟨_, rfl, Stp.on (d := 39) (b := false) rfl rfl rfl (by kernel_rfl) rfl (Stp.ev T_ok (m := .dp) (φ := True) (by kernel_rfl) trivial)⟩,
    ⟨_, rfl, Stp.on (d := 39) (b := false) rfl rfl rfl (by kernel_rfl) rfl (Stp.ev T_ok (m := .dp) (φ := True) (by kernel_rfl) trivial)⟩,
    ⟨_, rfl, Stp.on (d := 39) (b := false) rfl rfl rfl (by kernel_rfl) rfl (Stp.ev T_ok (m := .dp) (φ := InR x90 x89.length) (by kernel_rfl) g122)⟩,
    ⟨_, rfl, Stp.on (d := 39) (b := false) rfl rfl rfl (by kernel_rfl) rfl (Stp.ev T_ok (m := .dp) (φ := True) (by kernel_rfl) trivial)⟩,
    ⟨_, rfl, Stp.eq (Stp.on (d := 39) (b := false) rfl rfl rfl (by kernel_rfl) rfl (Stp.call false [.t (.int .i64)] [] T_ok (d := some 45) (by kernel_rfl) (ok59 N _ hy123) rfl)) (by kernel_rfl) (by kernel_rfl)⟩,
    ⟨_, rfl, Stp.on (d := 39) (b := false) rfl rfl rfl (by kernel_rfl) rfl (Stp.ev T_ok (m := .dp) (φ := True) (by kernel_rfl) trivial)⟩,
    ⟨_, rfl, Stp.ev T_ok (m := .dp) (φ := True) (by kernel_rfl) trivial⟩,
    ⟨_, rfl, Stp.lit (d := 48) (b := (!y123)) (c := false) (Stp.ev T_ok (m := .dp) (φ := True) (by kernel_rfl) trivial) hb124⟩,
    ⟨_, rfl, Stp.on (d := 48) (b := false) rfl rfl rfl (by kernel_rfl) rfl (Stp.ev T_ok (m := .dp) (φ := True) (by kernel_rfl) trivial)⟩,
    ⟨_, rfl, Stp.on (d := 48) (b := false) rfl rfl rfl (by kernel_rfl) rfl (Stp.ev T_ok (m := .dp) (φ := True) (by kernel_rfl) trivial)⟩,
    ⟨_, rfl, Stp.on (d := 48) (b := false) rfl rfl rfl (by kernel_rfl) rfl (Stp.ev T_ok (m := .dp) (φ := True) (by kernel_rfl) trivial)⟩,
    ⟨_, rfl, Stp.on (d := 48) (b := false) rfl rfl rfl (by kernel_rfl) rfl (Stp.ev T_ok (m := .dp) (φ := 0 ≤ x90 ∧ x90 ≤ (x88.length : Int)) (by kernel_rfl) g125)⟩,
    ⟨_, rfl, Stp.on (d := 48) (b := false) rfl rfl rfl (by kernel_rfl) rfl (Stp.ev T_ok (m := .dp) (φ := True) (by kernel_rfl) trivial)⟩,
    ⟨_, rfl, Stp.on (d := 48) (b := false) rfl rfl rfl (by kernel_rfl) rfl (Stp.ev T_ok (m := .dp) (φ := True) (by kernel_rfl) trivial)⟩,
    ⟨_, rfl, Stp.on (d := 48) (b := false) rfl rfl rfl (by kernel_rfl) rfl (Stp.ev T_ok (m := .dp) (φ := True) (by kernel_rfl) trivial)⟩,
    ⟨_, rfl, Stp.on (d := 48) (b := false) rfl rfl rfl (by kernel_rfl) rfl (Stp.ev T_ok (m := .dp) (φ := InR x90 x88.length) (by kernel_rfl) g126)⟩,
    ⟨_, rfl, Stp.on (d := 48) (b := false) rfl rfl rfl (by kernel_rfl) rfl (Stp.ev T_ok (m := .dp) (φ := True) (by kernel_rfl) trivial)⟩,
    ⟨_, rfl, Stp.eq (Stp.on (d := 48) (b := false) rfl rfl rfl (by kernel_rfl) rfl (Stp.call false [.t (.sl (.int .i64)), .t (.int .i64)] [] T_ok (d := some 58) (by kernel_rfl) (ok66 N _ _ hy127) rfl)) (by kernel_rfl) (by kernel_rfl)⟩,
    ⟨_, rfl, Stp.ev T_ok (m := .dp) (φ := True) (by kernel_rfl) trivial⟩, trivial⟩ (by kernel_rfl) ?_
        refine cnd h (fun h => ?_) (fun h => ?_)
        · refine sR T_ok [2] [] ⟨[(2, B false)], []⟩ (tn 1) ?_
          refine VW.ret ?_
          replace h := Option.some.inj h
          subst h
          exact rt []
        refine VW.skip ?_
        refine rR T_ok [1, 3] [0] ⟨[(1, .lf (.ptr 0 0 0 0)), (3, I (IntKind.i64.wrap (x90 + (1 : Int))))], [bx [.v (.int .i64) x87, .v (.sl (.int .i64)) x88, .v (.sl (.int .i64)) x89] 28]⟩ (tn 3) ?_
        exact aro [.ren [1, 3] [0]] ⟨x87, x88, x89, (IntKind.i64.wrap (x90 + (1 : Int))), rfl, h⟩
      refine VW.exit ?_
      exact arv [.ren [] []] ⟨rfl, h⟩
  rintro s ⟨rfl, h⟩
  unfold F44_j0 at h
  refine sR T_ok [2] [] ⟨[(2, B true)], []⟩ (tn 1) ?_
  refine VW.ret ?_
  replace h := Option.some.inj h
  subst h
  exact rt []

/- loop.example/g00844/spec.l09At -/
def F55_j0 (N : Nat) : Option (Int) :=
  some (-1 : Int)
def F55_l0_b (N : Nat) (a1 : Int) (nx27 : Int → (List Int) → (List Int) → Int → Option (Int)) (x21 : Int) (x22 : (List Int)) (x23 : (List Int)) (x24 : Int) : Option (Int) :=
  cond (decide (x24 < (x22.length : Int))) (gd (InR x24 x22.length) (cond ((x22.getD x24.toNat (Ty.dflt (.int .i64))) == a1) (some x24) (nx27 x21 x22 x23 (IntKind.i64.wrap (x24 + (1 : Int)))))) (F55_j0 N)
def F55_l0 (N : Nat) (a1 : Int) : Nat → Int → (List Int) → (List Int) → Int → Option (Int) := loopF (F55_l0_b N a1) (fun _ _ _ _ => none)
theorem F55_l0_s (N : Nat) (a1 : Int) {k : Nat} (hk : 0 < k) (x21 : Int) (x22 : (List Int)) (x23 : (List Int)) (x24 : Int) : F55_l0 N a1 k x21 x22 x23 x24 = F55_l0_b N a1 (F55_l0 N a1 (k - 1)) x21 x22 x23 x24 := by
  cases k with
  | zero => exact absurd hk (Nat.lt_irrefl 0)
  | succ m => rfl
def F55 (N : Nat) (a0 : (Int × ((List Int) × (List Int)))) (a1 : Int) : Option (Int) :=
  F55_l0 N a1 N a0.1 a0.2.1 a0.2.2 (0 : Int)
theorem ok55 (N : Nat) (a0 : (Int × ((List Int) × (List Int)))) (a1 : Int) {r : Int} (h : F55 N a0 a1 = some r) : Con Go.Proofs.Tryd.prog 55 [.agg [.v (.int .i64) a0.1, .v (.sl (.int .i64)) a0.2.1, .v (.sl (.int .i64)) a0.2.2], I a1] [.lf (.v (.int .i64) r)] := by
  refine ctr [.lf (.v (.int .i64))] T_ok Go.Proofs.Tryd.func55 rfl fun w0 E0 ht => ?_
  unfold F55 at h
  show VW _ _ _ _ _ (retQ _ _ _ _) _
  refine sR T_ok [1, 2] [0] ⟨[(1, I a1), (2, .lf (.ptr 0 0 0 0))], [bx [.v (.int .i64) a0.1, .v (.sl (.int .i64)) a0.2.1, .v (.sl (.int .i64)) a0.2.2] 28]⟩ (tn 2) ?_
  refine VW.join (fun s => s = ⟨[], []⟩ ∧ F55_j0 N = some r) ?_ ?_
  · refine sR T_ok [1, 2, 5] [0] ⟨[(1, I a1), (2, .lf (.ptr 0 0 0 0)), (5, I (0 : Int))], [bx [.v (.int .i64) a0.1, .v (.sl (.int .i64)) a0.2.1, .v (.sl (.int .i64)) a0.2.2] 28]⟩ (tn 1) ?_
    refine VW.block ?_
    refine lop (fun k s => ∃ (x21 : Int) (x22 : (List Int)) (x23 : (List Int)) (x24 : Int), s = ⟨[(1, I a1), (2, .lf (.ptr 0 0 0 0)), (5, I x24)], [bx [.v (.int .i64) x21, .v (.sl (.int .i64)) x22, .v (.sl (.int .i64)) x23] 28]⟩ ∧ F55_l0 N a1 k x21 x22 x23 x24 = some r) N [.ren [1, 2, 5] [0]] ⟨a0.1, a0.2.1, a0.2.2, (0 : Int), rfl, h⟩ ?_
    rintro k27 s ⟨x21, x22, x23, x24, rfl, h⟩
    cases k27 with
    | zero => cases show none = some r from h
    | succ k27 =>
      replace h : F55_l0_b N a1 (F55_l0 N a1 k27) x21 x22 x23 x24 = some r := h
      unfold F55_l0_b at h
      refine VW.seq ?_
      refine sR T_ok [1, 2, 5, 10] [0] ⟨[(1, I a1), (2, .lf (.ptr 0 0 0 0)), (5, I x24), (10, B (decide (x24 < (x22.length : Int))))], [bx [.v (.int .i64) x21, .v (.sl (.int .i64)) x22, .v (.sl (.int .i64)) x23] 28]⟩ (tn 5) ?_
      refine cnd h (fun h => ?_) (fun h => ?_)
      · refine VW.skip ?_
        refine VW.seq ?_
        refine VW.block ?_
        obtain ⟨g29, h⟩ := gd_some h
        refine sR T_ok [1, 2, 5, 19] [0] ⟨[(1, I a1), (2, .lf (.ptr 0 0 0 0)), (5, I x24), (19, B ((x22.getD x24.toNat (Ty.dflt (.int .i64))) == a1))], [bx [.v (.int .i64) x21, .v (.sl (.int .i64)) x22, .v (.sl (.int .i64)) x23] 28]⟩ (pu 3 (an g29 (tn 3))) ?_
        refine cnd h (fun h => ?_) (fun h => ?_)
        · refine sR T_ok [4] [] ⟨[(4, I x24)], []⟩ (tn 2) ?_
          refine VW.ret ?_
          replace h := Option.some.inj h
          subst h
          exact rt []
        refine VW.skip ?_
        refine rR T_ok [1, 2, 5] [0] ⟨[(1, I a1), (2, .lf (.ptr 0 0 0 0)), (5, I (IntKind.i64.wrap (x24 + (1 : Int))))], [bx [.v (.int .i64) x21, .v (.sl (.int .i64)) x22, .v (.sl (.int .i64)) x23] 28]⟩ (tn 3) ?_
        exact aro [.ren [1, 2, 5] [0]] ⟨x21, x22, x23, (IntKind.i64.wrap (x24 + (1 : Int))), rfl, h⟩
      refine VW.exit ?_
      exact arv [.ren [] []] ⟨rfl, h⟩
  rintro s ⟨rfl, h⟩
  unfold F55_j0 at h
  refine sR T_ok [4] [] ⟨[(4, I (-1 : Int))], []⟩ (tn 1) ?_
  refine VW.ret ?_
  replace h := Option.some.inj h
  subst h
  exact rt []

/- loop.example/g00844/spec.l01Copy -/
def F68_j0 (N : Nat) (x16 : (List Int)) : Option ((List Int)) :=
  some x16
def F68_l0_b (N : Nat) (a0 : (List Int)) (nx28 : (List Int) → Int → Option ((List Int))) (x22 : (List Int)) (x23 : Int) : Option ((List Int)) :=
  cond (decide (x23 < (a0.length : Int))) (gd (InR x23 a0.length) (gd (x22.length + ([(a0.getD x23.toNat (Ty.dflt (.int .i64)))]).length ≤ lim (.int .i64)) (nx28 (x22 ++ ([(a0.getD x23.toNat (Ty.dflt (.int .i64)))])) (IntKind.i64.wrap (x23 + (1 : Int)))))) (F68_j0 N x22)
def F68_l0 (N : Nat) (a0 : (List Int)) : Nat → (List Int) → Int → Option ((List Int)) := loopF (F68_l0_b N a0) (fun _ _ => none)
theorem F68_l0_s (N : Nat) (a0 : (List Int)) {k : Nat} (hk : 0 < k) (x22 : (List Int)) (x23 : Int) : F68_l0 N a0 k x22 x23 = F68_l0_b N a0 (F68_l0 N a0 (k - 1)) x22 x23 := by
  cases k with
  | zero => exact absurd hk (Nat.lt_irrefl 0)
  | succ m => rfl
def F68 (N : Nat) (a0 : (List Int)) : Option ((List Int)) :=
  F68_l0 N a0 N ([]) (0 : Int)
theorem ok68 (N : Nat) (a0 : (List Int)) {r : (List Int)} (h : F68 N a0 = some r) : Con Go.Proofs.Tryd.prog 68 [.lf (.v (.sl (.int .i64)) a0)] [.lf (.own (.int .i64) r .dp)] := by
  refine ctr [.lf (.own (.int .i64) .dp)] T_ok Go.Proofs.Tryd.func68 rfl fun w0 E0 ht => ?_
  unfold F68 at h
  show VW _ _ _ _ _ (retQ _ _ _ _) _
  refine sR T_ok [0] [] ⟨[(0, .lf (.v (.sl (.int .i64)) a0))], []⟩ (tn 1) ?_
  refine sR T_ok [0, 3] [] ⟨[(0, .lf (.v (.sl (.int .i64)) a0)), (3, .lf (.nil))], []⟩ (tn 2) ?_
  refine VW.join (fun s => ∃ (x16 : (List Int)), s = ⟨[(3, .lf (.hd 0 0 none))], [ar 0 (.int .i64) x16 .dp]⟩ ∧ F68_j0 N x16 = some r) ?_ ?_
  · refine sR T_ok [0, 3, 4] [] ⟨[(0, .lf (.v (.sl (.int .i64)) a0)), (3, .lf (.nil)), (4, I (0 : Int))], []⟩ (tn 1) ?_
    refine VW.block ?_
    refine lop (fun k s => ∃ (x22 : (List Int)) (x23 : Int), s = ⟨[(0, .lf (.v (.sl (.int .i64)) a0)), (3, .lf (.hd 0 0 none)), (4, I x23)], [ar 0 (.int .i64) x22 .dp]⟩ ∧ F68_l0 N a0 k x22 x23 = some r) N [.nilS 3 (.int .i64) .dp, .ren [0, 3, 4] [0]] ⟨[], (0 : Int), rfl, h⟩ ?_
    rintro k28 s ⟨x22, x23, rfl, h⟩
    cases k28 with
    | zero => cases show none = some r from h
    | succ k28 =>
      replace h : F68_l0_b N a0 (F68_l0 N a0 k28) x22 x23 = some r := h
      unfold F68_l0_b at h
      refine VW.seq ?_
      refine sR T_ok [0, 3, 4, 9] [0] ⟨[(0, .lf (.v (.sl (.int .i64)) a0)), (3, .lf (.hd 0 0 none)), (4, I x23), (9, B (decide (x23 < (a0.length : Int))))], [ar 0 (.int .i64) x22 .dp]⟩ (tn 4) ?_
      refine cnd h (fun h => ?_) (fun h => ?_)
      · refine VW.skip ?_
        refine VW.seq ?_
        refine VW.block ?_
        obtain ⟨g31, h⟩ := gd_some h
        obtain ⟨g32, h⟩ := gd_some h
        refine rR T_ok [0, 3, 4] [0] ⟨[(0, .lf (.v (.sl (.int .i64)) a0)), (3, .lf (.hd 0 0 none)), (4, I x23)], [ar 0 (.int .i64) (x22 ++ ([(a0.getD x23.toNat (Ty.dflt (.int .i64)))])) .dp]⟩ (pu 3 (an g31 (pu 2 (an g32 (tn 1))))) ?_
        refine rR T_ok [0, 3, 4] [0] ⟨[(0, .lf (.v (.sl (.int .i64)) a0)), (3, .lf (.hd 0 0 none)), (4, I (IntKind.i64.wrap (x23 + (1 : Int))))], [ar 0 (.int .i64) (x22 ++ ([(a0.getD x23.toNat (Ty.dflt (.int .i64)))])) .dp]⟩ (tn 3) ?_
        exact aro [.ren [0, 3, 4] [0]] ⟨(x22 ++ ([(a0.getD x23.toNat (Ty.dflt (.int .i64)))])), (IntKind.i64.wrap (x23 + (1 : Int))), rfl, h⟩
      refine VW.exit ?_
      exact arv [.ren [3] [0]] ⟨x22, rfl, h⟩
  rintro s ⟨x16, rfl, h⟩
  unfold F68_j0 at h
  refine sR T_ok [2] [0] ⟨[(2, .lf (.hd 0 0 none))], [ar 0 (.int .i64) x16 .dp]⟩ (tn 2) ?_
  refine VW.ret ?_
  replace h := Option.some.inj h
  subst h
  exact rt [some 0]

/- loop.example/g00844/spec.l09Copy -/
def F56 (N : Nat) (a0 : (Int × ((List Int) × (List Int)))) : Option ((Int × ((List Int) × (List Int)))) :=
  andO (F68 N a0.2.1) fun y1 => andO (F68 N a0.2.2) fun y2 => some (a0.1, (y1, y2))
theorem ok56 (N : Nat) (a0 : (Int × ((List Int) × (List Int)))) {r : (Int × ((List Int) × (List Int)))} (h : F56 N a0 = some r) : Con Go.Proofs.Tryd.prog 56 [.agg [.v (.int .i64) a0.1, .v (.sl (.int .i64)) a0.2.1, .v (.sl (.int .i64)) a0.2.2]] [.agg [.v (.int .i64) r.1, .own (.int .i64) r.2.1 .dp, .own (.int .i64) r.2.2 .dp]] := by
  refine ctr [.agg [.v (.int .i64), .own (.int .i64) .dp, .own (.int .i64) .dp]] T_ok Go.Proofs.Tryd.func56 rfl fun w0 E0 ht => ?_
  unfold F56 at h
  show VW _ _ _ _ _ (retQ _ _ _ _) _
  refine sR T_ok [1, 2] [0, 1] ⟨[(1, .lf (.ptr 0 0 0 0)), (2, .lf (.ptr 1 0 0 0))], [bx [.v (.int .i64) a0.1, .v (.sl (.int .i64)) a0.2.1, .v (.sl (.int .i64)) a0.2.2] 28, bx [.v (.int .i64) (0 : Int), .nil, .nil] 28]⟩ (tn 2) ?_
  refine VW.seq ?_
  obtain ⟨y1, hy1, h⟩ := andO_some h
  obtain ⟨y2, hy2, h⟩ := andO_some h
  refine VW.drawn (by kernel_rfl) [some (3, .lf (.ptr 0 0 0 0)), some (4, I a0.1), some (5, .lf (.ptr 0 0 0 1)), some (6, .lf (.v (.sl (.int .i64)) a0.2.1)), some (7, .lf (.hd 2 0 none)), some (8, .lf (.ptr 0 0 0 2)), some (9, .lf (.v (.sl (.int .i64)) a0.2.2)), some (10, .lf (.hd 3 0 none)), some (11, .agg [.v (.int .i64) a0.1, .hd 2 0 none, .hd 3 0 none]), none] [4, 7, 9] [[bx [.v (.int .i64) a0.1, .v (.sl (.int .i64)) a0.2.1, .v (.sl (.int .i64)) a0.2.2] 28, bx [.v (.int .i64) (0 : Int), .nil, .nil] 28], [bx [.v (.int .i64) a0.1, .v (.sl (.int .i64)) a0.2.1, .v (.sl (.int .i64)) a0.2.2] 28, bx [.v (.int .i64) (0 : Int), .nil, .nil] 28, ar 0 (.int .i64) y1 .dp], [bx [.v (.int .i64) a0.1, .v (.sl (.int .i64)) a0.2.1, .v (.sl (.int .i64)) a0.2.2] 28, bx [.v (.int .i64) (0 : Int), .nil, .nil] 28, ar 0 (.int .i64) y1 .dp, ar 0 (.int .i64) y2 .dp], [bx [.v (.int .i64) a0.1, .v (.sl (.int .i64)) a0.2.1, .v (.sl (.int .i64)) a0.2.2] 28, bx [.v (.int .i64) a0.1, .hd 2 0 none, .hd 3 0 none] 28, ar 0 (.int .i64) y1 .dp, ar 0 (.int .i64) y2 .dp]] [(0, 0), (0, 1), (0, 2), (1, 0), (1, 1), (1, 2), (2, 0), (2, 1), (2, 2), (3, 0), (4, 0), (5, 0), (5, 1), (5, 2), (6, 0), (6, 1), (7, 1), (8, 2), (9, 2)] [2] [1, 2, 3] (s' := ⟨[(2, .lf (.ptr 0 0 0 0))], [bx [.v (.int .i64) a0.1, .hd 1 0 none, .hd 2 0 none] 28, ar 0 (.int .i64) y1 .dp, ar 0 (.int .i64) y2 .dp]⟩) (by kernel_rfl) (by kernel_rfl) ⟨⟨_, rfl, Stp.ev T_ok (m := .dp) (φ := True) (by kernel_rfl) trivial⟩,
    ⟨_, rfl, Stp.ev T_ok (m := .dp) (φ := True) (by kernel_rfl) trivial⟩,
    ⟨_, rfl, Stp.ev T_ok (m := .dp) (φ := True) (by kernel_rfl) trivial⟩,
    ⟨_, rfl, Stp.ev T_ok (m := .dp) (φ := True) (by kernel_rfl) trivial⟩,
    ⟨_, rfl, Stp.ev T_ok (m := .dp) (φ := True) (by kernel_rfl) trivial⟩,
    ⟨_, rfl, Stp.ev T_ok (m := .dp) (φ := True) (by kernel_rfl) trivial⟩,
    ⟨_, rfl, Stp.ev T_ok (m := .dp) (φ := True) (by kernel_rfl) trivial⟩,
    ⟨_, rfl, Stp.ev T_ok (m := .dp) (φ := True) (by kernel_rfl) trivial⟩,
    ⟨_, rfl, Stp.ev T_ok (m := .dp) (φ := True) (by kernel_rfl) trivial⟩,
    ⟨_, rfl, Stp.ev T_ok (m := .dp) (φ := True) (by kernel_rfl) trivial⟩,
    ⟨_, rfl, Stp.eq (Stp.call false [.t (.sl (.int .i64))] [] T_ok (d := some 7) (by kernel_rfl) (ok68 N _ hy1) rfl) (by kernel_rfl) (by kernel_rfl)⟩,
    ⟨_, rfl, Stp.ev T_ok (m := .dp) (φ := True) (by kernel_rfl) trivial⟩,
    ⟨_, rfl, Stp.ev T_ok (m := .dp) (φ := True) (by kernel_rfl) trivial⟩,
    ⟨_, rfl, Stp.ev T_ok (m := .dp) (φ := True) (by kernel_rfl) trivial⟩,
    ⟨_, rfl, Stp.ev T_ok (m := .dp) (φ := True) (by kernel_rfl) trivial⟩,
    ⟨_, rfl, Stp.ev T_ok (m := .dp) (φ := True) (by kernel_rfl) trivial⟩,
    ⟨_, rfl, Stp.eq (Stp.call false [.t (.sl (.int .i64))] [] T_ok (d := some 10) (by kernel_rfl) (ok68 N _ hy2) rfl) (by kernel_rfl) (by kernel_rfl)⟩,
    ⟨_, rfl, Stp.ev T_ok (m := .dp) (φ := True) (by kernel_rfl) trivial⟩,
    ⟨_, rfl, Stp.ev T_ok (m := .dp) (φ := True) (by kernel_rfl) trivial⟩, trivial⟩ (by kernel_rfl) ?_
  refine VW.ret ?_
  replace h := Option.some.inj h
  subst h
  exact rt [some 1, some 2]

/- loop.example/g00844/spec.l09Without -/
def F57_j0 (N : Nat) (x46 : Int) (x47 : (List Int)) (x48 : (List Int)) : Option ((Int × ((List Int) × (List Int)))) :=
  some (x46, (x47, x48))
def F57_j1 (N : Nat) (nx83 : Int → (List Int) → (List Int) → Int → (List Int) → (List Int) → Int → Option ((Int × ((List Int) × (List Int))))) (x65 : Int) (x66 : (List Int)) (x67 : (List Int)) (x68 : Int) (x71 : Int) (x88 : (List Int)) (x89 : (List Int)) : Option ((Int × ((List Int) × (List Int)))) :=
  nx83 x65 x66 x67 x68 x88 x89 (IntKind.i64.wrap (x71 + (1 : Int)))
def F57_l0_b (N : Nat) (a1 : Int) (nx83 : Int → (List Int) → (List Int) → Int → (List Int) → (List Int) → Int → Option ((Int × ((List Int) × (List Int))))) (x65 : Int) (x66 : (List Int)) (x67 : (List Int)) (x68 : Int) (x69 : (List Int)) (x70 : (List Int)) (x71 : Int) : Option ((Int × ((List Int) × (List Int)))) :=
  cond (decide (x71 < (x66.length : Int))) (cond (x71 != a1) (gd (InR x71 x66.length) (gd (x69.length + ([(x66.getD x71.toNat (Ty.dflt (.int .i64)))]).length ≤ lim (.int .i64)) (gd (InR x71 x67.length) (gd (x70.length + ([(x67.getD x71.toNat (Ty.dflt (.int .i64)))]).length ≤ lim (.int .i64)) (F57_j1 N nx83 x65 x66 x67 x68 x71 (x69 ++ ([(x66.getD x71.toNat (Ty.dflt (.int .i64)))])) (x70 ++ ([(x67.getD x71.toNat (Ty.dflt (.int .i64)))]))))))) (F57_j1 N nx83 x65 x66 x67 x68 x71 x69 x70)) (F57_j0 N x68 x69 x70)
def F57_l0 (N : Nat) (a1 : Int) : Nat → Int → (List Int) → (List Int) → Int → (List Int) → (List Int) → Int → Option ((Int × ((List Int) × (List Int)))) := loopF (F57_l0_b N a1) (fun _ _ _ _ _ _ _ => none)
theorem F57_l0_s (N : Nat) (a1 : Int) {k : Nat} (hk : 0 < k) (x65 : Int) (x66 : (List Int)) (x67 : (List Int)) (x68 : Int) (x69 : (List Int)) (x70 : (List Int)) (x71 : Int) : F57_l0 N a1 k x65 x66 x67 x68 x69 x70 x71 = F57_l0_b N a1 (F57_l0 N a1 (k - 1)) x65 x66 x67 x68 x69 x70 x71 := by
  cases k with
  | zero => exact absurd hk (Nat.lt_irrefl 0)
  | succ m => rfl
def F57 (N : Nat) (a0 : (Int × ((List Int) × (List Int)))) (a1 : Int) : Option ((Int × ((List Int) × (List Int)))) :=
  F57_l0 N a1 N a0.1 a0.2.1 a0.2.2 a0.1 ([]) ([]) (0 : Int)
theorem ok57 (N : Nat) (a0 : (Int × ((List Int) × (List Int)))) (a1 : Int) {r : (Int × ((List Int) × (List Int)))} (h : F57 N a0 a1 = some r) : Con Go.Proofs.Tryd.prog 57 [.agg [.v (.int .i64) a0.1, .v (.sl (.int .i64)) a0.2.1, .v (.sl (.int .i64)) a0.2.2], I a1] [.agg [.v (.int .i64) r.1, .own (.int .i64) r.2.1 .dp, .own (.int .i64) r.2.2 .dp]] := by
  refine ctr [.agg [.v (.int .i64), .own (.int .i64) .dp, .own (.int .i64) .dp]] T_ok Go.Proofs.Tryd.func57 rfl fun w0 E0 ht => ?_
  unfold F57 at h
  show VW _ _ _ _ _ (retQ _ _ _ _) _
  refine sR T_ok [1, 2, 4] [0, 1] ⟨[(1, I a1), (2, .lf (.ptr 0 0 0 0)), (4, .lf (.ptr 1 0 0 0))], [bx [.v (.int .i64) a0.1, .v (.sl (.int .i64)) a0.2.1, .v (.sl (.int .i64)) a0.2.2] 28, bx [.v (.int .i64) (0 : Int), .nil, .nil] 28]⟩ (tn 2) ?_
  refine sR T_ok [1, 2, 4, 5] [0, 1, 2] ⟨[(1, I a1), (2, .lf (.ptr 0 0 0 0)), (4, .lf (.ptr 1 0 0 0)), (5, .lf (.ptr 2 0 0 0))], [bx [.v (.int .i64) a0.1, .v (.sl (.int .i64)) a0.2.1, .v (.sl (.int .i64)) a0.2.2] 28, bx [.v (.int .i64) (0 : Int), .nil, .nil] 28, bx [.v (.int .i64) a0.1, .nil, .nil] 28]⟩ (tn 5) ?_
  refine VW.join (fun s => ∃ (x46 : Int) (x47 : (List Int)) (x48 : (List Int)), s = ⟨[(4, .lf (.ptr 0 0 0 0)), (5, .lf (.ptr 1 0 0 0))], [bx [.v (.int .i64) (0 : Int), .nil, .nil] 28, bx [.v (.int .i64) x46, .hd 2 0 none, .hd 3 0 none] 28, ar 0 (.int .i64) x47 .dp, ar 0 (.int .i64) x48 .dp]⟩ ∧ F57_j0 N x46 x47 x48 = some r) ?_ ?_
  · refine sR T_ok [1, 2, 4, 5, 6] [0, 1, 2] ⟨[(1, I a1), (2, .lf (.ptr 0 0 0 0)), (4, .lf (.ptr 1 0 0 0)), (5, .lf (.ptr 2 0 0 0)), (6, I (0 : Int))], [bx [.v (.int .i64) a0.1, .v (.sl (.int .i64)) a0.2.1, .v (.sl (.int .i64)) a0.2.2] 28, bx [.v (.int .i64) (0 : Int), .nil, .nil] 28, bx [.v (.int .i64) a0.1, .nil, .nil] 28]⟩ (tn 1) ?_
    refine VW.block ?_
    refine lop (fun k s => ∃ (x65 : Int) (x66 : (List Int)) (x67 : (List Int)) (x68 : Int) (x69 : (List Int)) (x70 : (List Int)) (x71 : Int), s = ⟨[(1, I a1), (2, .lf (.ptr 0 0 0 0)), (4, .lf (.ptr 1 0 0 0)), (5, .lf (.ptr 2 0 0 0)), (6, I x71)], [bx [.v (.int .i64) x65, .v (.sl (.int .i64)) x66, .v (.sl (.int .i64)) x67] 28, bx [.v (.int .i64) (0 : Int), .nil, .nil] 28, bx [.v (.int .i64) x68, .hd 3 0 none, .hd 4 0 none] 28, ar 0 (.int .i64) x69 .dp, ar 0 (.int .i64) x70 .dp]⟩ ∧ F57_l0 N a1 k x65 x66 x67 x68 x69 x70 x71 = some r) N [.nil 2 1 (.int .i64) .dp, .nil 2 2 (.int .i64) .dp, .ren [1, 2, 4, 5, 6] [0, 1, 2, 3, 4]] ⟨a0.1, a0.2.1, a0.2.2, a0.1, [], [], (0 : Int), rfl, h⟩ ?_
    rintro k83 s ⟨x65, x66, x67, x68, x69, x70, x71, rfl, h⟩
    cases k83 with
    | zero => cases show none = some r from h
    | succ k83 =>
      replace h : F57_l0_b N a1 (F57_l0 N a1 k83) x65 x66 x67 x68 x69 x70 x71 = some r := h
      unfold F57_l0_b at h
      refine VW.seq ?_
      refine sR T_ok [1, 2, 4, 5, 6, 14] [0, 1, 2, 3, 4] ⟨[(1, I a1), (2, .lf (.ptr 0 0 0 0)), (4, .lf (.ptr 1 0 0 0)), (5, .lf (.ptr 2 0 0 0)), (6, I x71), (14, B (decide (x71 < (x66.length : Int))))], [bx [.v (.int .i64) x65, .v (.sl (.int .i64)) x66, .v (.sl (.int .i64)) x67] 28, bx [.v (.int .i64) (0 : Int), .nil, .nil] 28, bx [.v (.int .i64) x68, .hd 3 0 none, .hd 4 0 none] 28, ar 0 (.int .i64) x69 .dp, ar 0 (.int .i64) x70 .dp]⟩ (tn 5) ?_
      refine cnd h (fun h => ?_) (fun h => ?_)
      · refine VW.skip ?_
        refine VW.join (fun s => ∃ (x88 : (List Int)) (x89 : (List Int)), s = ⟨[(1, I a1), (2, .lf (.ptr 0 0 0 0)), (4, .lf (.ptr 1 0 0 0)), (5, .lf (.ptr 2 0 0 0)), (6, I x71)], [bx [.v (.int .i64) x65, .v (.sl (.int .i64)) x66, .v (.sl (.int .i64)) x67] 28, bx [.v (.int .i64) (0 : Int), .nil, .nil] 28, bx [.v (.int .i64) x68, .hd 3 0 none, .hd 4 0 none] 28, ar 0 (.int .i64) x88 .dp, ar 0 (.int .i64) x89 .dp]⟩ ∧ F57_j1 N (F57_l0 N a1 k83) x65 x66 x67 x68 x71 x88 x89 = some r) ?_ ?_
        · refine VW.block ?_
          refine sR T_ok [1, 2, 4, 5, 6, 19] [0, 1, 2, 3, 4] ⟨[(1, I a1), (2, .lf (.ptr 0 0 0 0)), (4, .lf (.ptr 1 0 0 0)), (5, .lf (.ptr 2 0 0 0)), (6, I x71), (19, B (x71 != a1))], [bx [.v (.int .i64) x65, .v (.sl (.int .i64)) x66, .v (.sl (.int .i64)) x67] 28, bx [.v (.int .i64) (0 : Int), .nil, .nil] 28, bx [.v (.int .i64) x68, .hd 3 0 none, .hd 4 0 none] 28, ar 0 (.int .i64) x69 .dp, ar 0 (.int .i64) x70 .dp]⟩ (tn 3) ?_
          refine cnd h (fun h => ?_) (fun h => ?_)
          · refine VW.seq ?_
            obtain ⟨g91, h⟩ := gd_some h
            obtain ⟨g92, h⟩ := gd_some h
            refine VW.drawn (by kernel_rfl) [some (20, .lf (.ptr 2 0 0 1)), some (21, .lf (.hd 3 0 none)), some (22, .lf (.ptr 0 0 0 1)), some (23, .lf (.v (.sl (.int .i64)) x66)), some (24, I x71), some (25, .lf (.fp (.int .i64) (x66.getD x71.toNat (Ty.dflt (.int .i64))) 0)), some (26, I (x66.getD x71.toNat (Ty.dflt (.int .i64)))), some (27, .lf (.hd 5 0 none)), some (28, .lf (.hd 3 1 none)), some (29, .lf (.ptr 2 0 0 1)), none] [7, 8, 10] [[bx [.v (.int .i64) x65, .v (.sl (.int .i64)) x66, .v (.sl (.int .i64)) x67] 28, bx [.v (.int .i64) (0 : Int), .nil, .nil] 28, bx [.v (.int .i64) x68, .hd 3 0 none, .hd 4 0 none] 28, ar 0 (.int .i64) x69 .dp, ar 0 (.int .i64) x70 .dp], [bx [.v (.int .i64) x65, .v (.sl (.int .i64)) x66, .v (.sl (.int .i64)) x67] 28, bx [.v (.int .i64) (0 : Int), .nil, .nil] 28, bx [.v (.int .i64) x68, .hd 3 0 none, .hd 4 0 none] 28, ar 0 (.int .i64) x69 .dp, ar 0 (.int .i64) x70 .dp, ar 0 (.int .i64) ([(x66.getD x71.toNat (Ty.dflt (.int .i64)))]) .dp], [bx [.v (.int .i64) x65, .v (.sl (.int .i64)) x66, .v (.sl (.int .i64)) x67] 28, bx [.v (.int .i64) (0 : Int), .nil, .nil] 28, bx [.v (.int .i64) x68, .hd 3 0 none, .hd 4 0 none] 28, ar 1 (.int .i64) (x69 ++ ([(x66.getD x71.toNat (Ty.dflt (.int .i64)))])) .dp, ar 0 (.int .i64) x70 .dp, ar 0 (.int .i64) ([(x66.getD x71.toNat (Ty.dflt (.int .i64)))]) .dp], [bx [.v (.int .i64) x65, .v (.sl (.int .i64)) x66, .v (.sl (.int .i64)) x67] 28, bx [.v (.int .i64) (0 : Int), .nil, .nil] 28, bx [.v (.int .i64) x68, .hd 3 1 none, .hd 4 0 none] 28, ar 1 (.int .i64) (x69 ++ ([(x66.getD x71.toNat (Ty.dflt (.int .i64)))])) .dp, ar 0 (.int .i64) x70 .dp, ar 0 (.int .i64) ([(x66.getD x71.toNat (Ty.dflt (.int .i64)))]) .dp]] [(0, 0), (0, 1), (0, 2), (1, 0), (1, 1), (2, 0), (2, 1), (2, 2), (3, 0), (3, 1), (3, 2), (4, 0), (4, 1), (4, 2), (5, 0), (5, 1), (5, 2), (6, 0), (7, 0), (8, 1), (9, 2), (10, 2)] [1, 2, 4, 5, 6] [0, 1, 2, 3, 4] (s' := ⟨[(1, I a1), (2, .lf (.ptr 0 0 0 0)), (4, .lf (.ptr 1 0 0 0)), (5, .lf (.ptr 2 0 0 0)), (6, I x71)], [bx [.v (.int .i64) x65, .v (.sl (.int .i64)) x66, .v (.sl (.int .i64)) x67] 28, bx [.v (.int .i64) (0 : Int), .nil, .nil] 28, bx [.v (.int .i64) x68, .hd 3 0 none, .hd 4 0 none] 28, ar 0 (.int .i64) (x69 ++ ([(x66.getD x71.toNat (Ty.dflt (.int .i64)))])) .dp, ar 0 (.int .i64) x70 .dp]⟩) (by kernel_rfl) (by kernel_rfl) ⟨⟨_, rfl, Stp.ev T_ok (m := .dp) (φ := True) (by kernel_rfl) trivial⟩,
    ⟨_, rfl, Stp.ev T_ok (m := .dp) (φ := True) (by kernel_rfl) trivial⟩,
    ⟨_, rfl, Stp.ev T_ok (m := .dp) (φ := True) (by kernel_rfl) trivial⟩,
    ⟨_, rfl, Stp.ev T_ok (m := .dp) (φ := True) (by kernel_rfl) trivial⟩,
    ⟨_, rfl, Stp.ev T_ok (m := .dp) (φ := True) (by kernel_rfl) trivial⟩,
    ⟨_, rfl, Stp.ev T_ok (m := .dp) (φ := True) (by kernel_rfl) trivial⟩,
    ⟨_, rfl, Stp.ev T_ok (m := .dp) (φ := True) (by kernel_rfl) trivial⟩,
    ⟨_, rfl, Stp.ev T_ok (m := .dp) (φ := True) (by kernel_rfl) trivial⟩,
    ⟨_, rfl, Stp.ev T_ok (m := .dp) (φ := True) (by kernel_rfl) trivial⟩,
    ⟨_, rfl, Stp.ev T_ok (m := .dp) (φ := True) (by kernel_rfl) trivial⟩,
    ⟨_, rfl, Stp.ev T_ok (m := .dp) (φ := True) (by kernel_rfl) trivial⟩,
    ⟨_, rfl, Stp.ev T_ok (m := .dp) (φ := True) (by kernel_rfl) trivial⟩,
    ⟨_, rfl, Stp.ev T_ok (m := .dp) (φ := True) (by kernel_rfl) trivial⟩,
    ⟨_, rfl, Stp.ev T_ok (m := .dp) (φ := True) (by kernel_rfl) trivial⟩,
    ⟨_, rfl, Stp.ev T_ok (m := .dp) (φ := InR x71 x66.length) (by kernel_rfl) g91⟩,
    ⟨_, rfl, Stp.ev T_ok (m := .dp) (φ := InR x71 x66.length) (by kernel_rfl) g91⟩,
    ⟨_, rfl, Stp.ev T_ok (m := .dp) (φ := InR x71 x66.length) (by kernel_rfl) g91⟩,
    ⟨_, rfl, Stp.ev T_ok (m := .dp) (φ := True) (by kernel_rfl) trivial⟩,
    ⟨_, rfl, Stp.ev T_ok (m := .dp) (φ := True) (by kernel_rfl) trivial⟩,
    ⟨_, rfl, Stp.ev T_ok (m := .dp) (φ := x69.length + ([(x66.getD x71.toNat (Ty.dflt (.int .i64)))]).length ≤ lim (.int .i64)) (by kernel_rfl) g92⟩,
    ⟨_, rfl, Stp.ev T_ok (m := .dp) (φ := True) (by kernel_rfl) trivial⟩,
    ⟨_, rfl, Stp.ev T_ok (m := .dp) (φ := True) (by kernel_rfl) trivial⟩, trivial⟩ (by kernel_rfl) ?_
            obtain ⟨g93, h⟩ := gd_some h
            obtain ⟨g94, h⟩ := gd_some h
            refine VW.drawn (by kernel_rfl) [some (30, .lf (.ptr 2 0 0 2)), some (31, .lf (.hd 4 0 none)), some (32, .lf (.ptr 0 0 0 2)), some (33, .lf (.v (.sl (.int .i64)) x67)), some (34, I x71), some (35, .lf (.fp (.int .i64) (x67.getD x71.toNat (Ty.dflt (.int .i64))) 0)), some (36, I (x67.getD x71.toNat (Ty.dflt (.int .i64)))), some (37, .lf (.hd 5 0 none)), some (38, .lf (.hd 4 1 none)), some (39, .lf (.ptr 2 0 0 2)), none] [7, 8, 10] [[bx [.v (.int .i64) x65, .v (.sl (.int .i64)) x66, .v (.sl (.int .i64)) x67] 28, bx [.v (.int .i64) (0 : Int), .nil, .nil] 28, bx [.v (.int .i64) x68, .hd 3 0 none, .hd 4 0 none] 28, ar 0 (.int .i64) (x69 ++ ([(x66.getD x71.toNat (Ty.dflt (.int .i64)))])) .dp, ar 0 (.int .i64) x70 .dp], [bx [.v (.int .i64) x65, .v (.sl (.int .i64)) x66, .v (.sl (.int .i64)) x67] 28, bx [.v (.int .i64) (0 : Int), .nil, .nil] 28, bx [.v (.int .i64) x68, .hd 3 0 none, .hd 4 0 none] 28, ar 0 (.int .i64) (x69 ++ ([(x66.getD x71.toNat (Ty.dflt (.int .i64)))])) .dp, ar 0 (.int .i64) x70 .dp, ar 0 (.int .i64) ([(x67.getD x71.toNat (Ty.dflt (.int .i64)))]) .dp], [bx [.v (.int .i64) x65, .v (.sl (.int .i64)) x66, .v (.sl (.int .i64)) x67] 28, bx [.v (.int .i64) (0 : Int), .nil, .nil] 28, bx [.v (.int .i64) x68, .hd 3 0 none, .hd 4 0 none] 28, ar 0 (.int .i64) (x69 ++ ([(x66.getD x71.toNat (Ty.dflt (.int .i64)))])) .dp, ar 1 (.int .i64) (x70 ++ ([(x67.getD x71.toNat (Ty.dflt (.int .i64)))])) .dp, ar 0 (.int .i64) ([(x67.getD x71.toNat (Ty.dflt (.int .i64)))]) .dp], [bx [.v (.int .i64) x65, .v (.sl (.int .i64)) x66, .v (.sl (.int .i64)) x67] 28, bx [.v (.int .i64) (0 : Int), .nil, .nil] 28, bx [.v (.int .i64) x68, .hd 3 0 none, .hd 4 1 none] 28, ar 0 (.int .i64) (x69 ++ ([(x66.getD x71.toNat (Ty.dflt (.int .i64)))])) .dp, ar 1 (.int .i64) (x70 ++ ([(x67.getD x71.toNat (Ty.dflt (.int .i64)))])) .dp, ar 0 (.int .i64) ([(x67.getD x71.toNat (Ty.dflt (.int .i64)))]) .dp]] [(0, 0), (0, 1), (0, 2), (1, 0), (1, 1), (2, 0), (2, 1), (2, 2), (3, 0), (3, 1), (3, 2), (4, 0), (4, 1), (4, 2), (5, 0), (5, 1), (5, 2), (6, 0), (7, 0), (8, 1), (9, 2), (10, 2)] [1, 2, 4, 5, 6] [0, 1, 2, 3, 4] (s' := ⟨[(1, I a1), (2, .lf (.ptr 0 0 0 0)), (4, .lf (.ptr 1 0 0 0)), (5, .lf (.ptr 2 0 0 0)), (6, I x71)], [bx [.v (.int .i64) x65, .v (.sl (.int .i64)) x66, .v (.sl (.int .i64)) x67] 28, bx [.v (.int .i64) (0 : Int), .nil, .nil] 28, bx [.v (.int .i64) x68, .hd 3 0 none, .hd 4 0 none] 28, ar 0 (.int .i64) (x69 ++ ([(x66.getD x71.toNat (Ty.dflt (.int .i64)))])) .dp, ar 0 (.int .i64) (x70 ++ ([(x67.getD x71.toNat (Ty.dflt (.int .i64)))])) .dp]⟩) (by kernel_rfl) (by kernel_rfl) ⟨⟨_, rfl, Stp.ev T_ok (m := .dp) (φ := True) (by kernel_rfl) trivial⟩,
    ⟨_, rfl, Stp.ev T_ok (m := .dp) (φ := True) (by kernel_rfl) trivial⟩,
    ⟨_, rfl, Stp.ev T_ok (m := .dp) (φ := True) (by kernel_rfl) trivial⟩,
    ⟨_, rfl, Stp.ev T_ok (m := .dp) (φ := True) (by kernel_rfl) trivial⟩,
    ⟨_, rfl, Stp.ev T_ok (m := .dp) (φ := True) (by kernel_rfl) trivial⟩,
    ⟨_, rfl, Stp.ev T_ok (m := .dp) (φ := True) (by kernel_rfl) trivial⟩,
    ⟨_, rfl, Stp.ev T_ok (m := .dp) (φ := True) (by kernel_rfl) trivial⟩,
    ⟨_, rfl, Stp.ev T_ok (m := .dp) (φ := True) (by kernel_rfl) trivial⟩,
    ⟨_, rfl, Stp.ev T_ok (m := .dp) (φ := True) (by kernel_rfl) trivial⟩,
    ⟨_, rfl, Stp.ev T_ok (m := .dp) (φ := True) (by kernel_rfl) trivial⟩,
    ⟨_, rfl, Stp.ev T_ok (m := .dp) (φ := True) (by kernel_rfl) trivial⟩,
    ⟨_, rfl, Stp.ev T_ok (m := .dp) (φ := True) (by kernel_rfl) trivial⟩,
    ⟨_, rfl, Stp.ev T_ok (m := .dp) (φ := True) (by kernel_rfl) trivial⟩,
    ⟨_, rfl, Stp.ev T_ok (m := .dp) (φ := True) (by kernel_rfl) trivial⟩,
    ⟨_, rfl, Stp.ev T_ok (m := .dp) (φ := InR x71 x67.length) (by kernel_rfl) g93⟩,
    ⟨_, rfl, Stp.ev T_ok (m := .dp) (φ := InR x71 x67.length) (by kernel_rfl) g93⟩,
    ⟨_, rfl, Stp.ev T_ok (m := .dp) (φ := InR x71 x67.length) (by kernel_rfl) g93⟩,
    ⟨_, rfl, Stp.ev T_ok (m := .dp) (φ := True) (by kernel_rfl) trivial⟩,
    ⟨_, rfl, Stp.ev T_ok (m := .dp) (φ := True) (by kernel_rfl) trivial⟩,
    ⟨_, rfl, Stp.ev T_ok (m := .dp) (φ := x70.length + ([(x67.getD x71.toNat (Ty.dflt (.int .i64)))]).length ≤ lim (.int .i64)) (by kernel_rfl) g94⟩,
    ⟨_, rfl, Stp.ev T_ok (m := .dp) (φ := True) (by kernel_rfl) trivial⟩,
    ⟨_, rfl, Stp.ev T_ok (m := .dp) (φ := True) (by kernel_rfl) trivial⟩, trivial⟩ (by kernel_rfl) ?_
            exact arv [.ren [1, 2, 4, 5, 6] [0, 1, 2, 3, 4]] ⟨(x69 ++ ([(x66.getD x71.toNat (Ty.dflt (.int .i64)))])), (x70 ++ ([(x67.getD x71.toNat (Ty.dflt (.int .i64)))])), rfl, h⟩
          refine VW.skip ?_
          exact arv [.ren [1, 2, 4, 5, 6] [0, 1, 2, 3, 4]] ⟨x69, x70, rfl, h⟩
        rintro s ⟨x88, x89, rfl, h⟩
        unfold F57_j1 at h
        refine rR T_ok [1, 2, 4, 5, 6] [0, 1, 2, 3, 4] ⟨[(1, I a1), (2, .lf (.ptr 0 0 0 0)), (4, .lf (.ptr 1 0 0 0)), (5, .lf (.ptr 2 0 0 0)), (6, I (IntKind.i64.wrap (x71 + (1 : Int))))], [bx [.v (.int .i64) x65, .v (.sl (.int .i64)) x66, .v (.sl (.int .i64)) x67] 28, bx [.v (.int .i64) (0 : Int), .nil, .nil] 28, bx [.v (.int .i64) x68, .hd 3 0 none, .hd 4 0 none] 28, ar 0 (.int .i64) x88 .dp, ar 0 (.int .i64) x89 .dp]⟩ (tn 3) ?_
        exact aro [.ren [1, 2, 4, 5, 6] [0, 1, 2, 3, 4]] ⟨x65, x66, x67, x68, x88, x89, (IntKind.i64.wrap (x71 + (1 : Int))), rfl, h⟩
      refine VW.exit ?_
      exact arv [.ren [4, 5] [1, 2, 3, 4]] ⟨x68, x69, x70, rfl, h⟩
  rintro s ⟨x46, x47, x48, rfl, h⟩
  unfold F57_j0 at h
  refine sR T_ok [4] [0, 2, 3] ⟨[(4, .lf (.ptr 0 0 0 0))], [bx [.v (.int .i64) x46, .hd 1 0 none, .hd 2 0 none] 28, ar 0 (.int .i64) x47 .dp, ar 0 (.int .i64) x48 .dp]⟩ (tn 2) ?_
  refine VW.ret ?_
  replace h := Option.some.inj h
  subst h
  exact rt [some 1, some 2]

/- loop.example/g00844/spec.DropKey -/
def F34 (N : Nat) (a0 : (Int × ((List Int) × (List Int)))) (a1 : Int) : Option ((Int × ((List Int) × (List Int))) × Bool) :=
  andO (F55 N a0 a1) fun y1 => andO (F44 N a0) fun y5 => cond (!y5) (andO (F56 N a0) fun y6 => some (y6, false)) (cond (decide (y1 < (0 : Int))) (andO (F56 N a0) fun y7 => some (y7, false)) (andO (F57 N a0 y1) fun y8 => some (y8, true)))
theorem ok34 (N : Nat) (a0 : (Int × ((List Int) × (List Int)))) (a1 : Int) {r : (Int × ((List Int) × (List Int))) × Bool} (h : F34 N a0 a1 = some r) : Con Go.Proofs.Tryd.prog 34 [.agg [.v (.int .i64) a0.1, .v (.sl (.int .i64)) a0.2.1, .v (.sl (.int .i64)) a0.2.2], I a1] [.agg [.v (.int .i64) r.1.1, .own (.int .i64) r.1.2.1 .dp, .own (.int .i64) r.1.2.2 .dp], .lf (.v .bool r.2)] := by
  refine ctr [.agg [.v (.int .i64), .own (.int .i64) .dp, .own (.int .i64) .dp], .lf (.v .bool)] T_ok Go.Proofs.Tryd.func34 rfl fun w0 E0 ht => ?_
  unfold F34 at h
  show VW _ _ _ _ _ (retQ _ _ _ _) _
  refine sR T_ok [1, 2, 4] [0, 1] ⟨[(1, I a1), (2, .lf (.ptr 0 0 0 0)), (4, .lf (.ptr 1 0 0 0))], [bx [.v (.int .i64) a0.1, .v (.sl (.int .i64)) a0.2.1, .v (.sl (.int .i64)) a0.2.2] 28, bx [.v (.int .i64) (0 : Int), .nil, .nil] 28]⟩ (tn 3) ?_
  refine VW.seq ?_
  refine VW.region ?_
  refine sG T_ok 2 [2, 4, 7, 8] [0, 1] ⟨[(2, .lf (.ptr 0 0 0 0)), (4, .lf (.ptr 1 0 0 0)), (7, .agg [.v (.int .i64) a0.1, .v (.sl (.int .i64)) a0.2.1, .v (.sl (.int .i64)) a0.2.2]), (8, I a1)], [bx [.v (.int .i64) a0.1, .v (.sl (.int .i64)) a0.2.1, .v (.sl (.int .i64)) a0.2.2] 28, bx [.v (.int .i64) (0 : Int), .nil, .nil] 28]⟩ (tn 2) ?_
  obtain ⟨y1, hy, h⟩ := andO_some h
  refine cal false [.t Y27, .t (.int .i64)] [] (some 9) T_ok (ok55 N _ _ hy) ?_
  refine sN T_ok [2, 4, 6] [0, 1] ⟨[(2, .lf (.ptr 0 0 0 0)), (4, .lf (.ptr 1 0 0 0)), (6, I y1)], [bx [.v (.int .i64) a0.1, .v (.sl (.int .i64)) a0.2.1, .v (.sl (.int .i64)) a0.2.2] 28, bx [.v (.int .i64) (0 : Int), .nil, .nil] 28]⟩ (tn 1) ?_
  refine VW.seq ?_
  refine VW.seq ?_
  refine VW.region ?_
  refine sG T_ok 1 [2, 4, 6, 10] [0, 1] ⟨[(2, .lf (.ptr 0 0 0 0)), (4, .lf (.ptr 1 0 0 0)), (6, I y1), (10, .agg [.v (.int .i64) a0.1, .v (.sl (.int .i64)) a0.2.1, .v (.sl (.int .i64)) a0.2.2])], [bx [.v (.int .i64) a0.1, .v (.sl (.int .i64)) a0.2.1, .v (.sl (.int .i64)) a0.2.2] 28, bx [.v (.int .i64) (0 : Int), .nil, .nil] 28]⟩ (tn 1) ?_
  obtain ⟨y5, hy, h⟩ := andO_some h
  refine cal false [.t Y27] [] (some 11) T_ok (ok44 N _ hy) ?_
  refine sG T_ok 2 [2, 4, 6, 13] [0, 1] ⟨[(2, .lf (.ptr 0 0 0 0)), (4, .lf (.ptr 1 0 0 0)), (6, I y1), (13, B (!y5))], [bx [.v (.int .i64) a0.1, .v (.sl (.int .i64)) a0.2.1, .v (.sl (.int .i64)) a0.2.2] 28, bx [.v (.int .i64) (0 : Int), .nil, .nil] 28]⟩ (tn 2) ?_
  refine spB 13 h (fun h => ?_) (fun h => ?_)
  · refine sN T_ok [2, 4, 6, 16] [0, 1] ⟨[(2, .lf (.ptr 0 0 0 0)), (4, .lf (.ptr 1 0 0 0)), (6, I y1), (16, B true)], [bx [.v (.int .i64) a0.1, .v (.sl (.int .i64)) a0.2.1, .v (.sl (.int .i64)) a0.2.2] 28, bx [.v (.int .i64) (0 : Int), .nil, .nil] 28]⟩ (tn 3) ?_
    refine VW.cond (b := true) (by kernel_rfl) (fun _ => ?_) (fun h' => nomatch h')
    refine VW.seq ?_
    refine VW.region ?_
    refine sG T_ok 1 [4, 17] [1] ⟨[(4, .lf (.ptr 0 0 0 0)), (17, .agg [.v (.int .i64) a0.1, .v (.sl (.int .i64)) a0.2.1, .v (.sl (.int .i64)) a0.2.2])], [bx [.v (.int .i64) (0 : Int), .nil, .nil] 28]⟩ (tn 1) ?_
    obtain ⟨y6, hy, h⟩ := andO_some h
    refine cal false [.t Y27] [] (some 18) T_ok (ok56 N _ hy) ?_
    refine sN T_ok [4, 5] [0, 1, 2] ⟨[(4, .lf (.ptr 0 0 0 0)), (5, B false)], [bx [.v (.int .i64) y6.1, .hd 1 0 none, .hd 2 0 none] 28, ar 0 (.int .i64) y6.2.1 .dp, ar 0 (.int .i64) y6.2.2 .dp]⟩ (tn 2) ?_
    refine VW.ret ?_
    replace h := Option.some.inj h
    subst h
    exact rt [some 1, some 2]
  refine sN T_ok [2, 4, 6, 16] [0, 1] ⟨[(2, .lf (.ptr 0 0 0 0)), (4, .lf (.ptr 1 0 0 0)), (6, I y1), (16, B (decide (y1 < (0 : Int))))], [bx [.v (.int .i64) a0.1, .v (.sl (.int .i64)) a0.2.1, .v (.sl (.int .i64)) a0.2.2] 28, bx [.v (.int .i64) (0 : Int), .nil, .nil] 28]⟩ (tn 3) ?_
  refine cnd h (fun h => ?_) (fun h => ?_)
  · refine VW.seq ?_
    refine VW.region ?_
    refine sG T_ok 1 [4, 17] [1] ⟨[(4, .lf (.ptr 0 0 0 0)), (17, .agg [.v (.int .i64) a0.1, .v (.sl (.int .i64)) a0.2.1, .v (.sl (.int .i64)) a0.2.2])], [bx [.v (.int .i64) (0 : Int), .nil, .nil] 28]⟩ (tn 1) ?_
    obtain ⟨y7, hy, h⟩ := andO_some h
    refine cal false [.t Y27] [] (some 18) T_ok (ok56 N _ hy) ?_
    refine sN T_ok [4, 5] [0, 1, 2] ⟨[(4, .lf (.ptr 0 0 0 0)), (5, B false)], [bx [.v (.int .i64) y7.1, .hd 1 0 none, .hd 2 0 none] 28, ar 0 (.int .i64) y7.2.1 .dp, ar 0 (.int .i64) y7.2.2 .dp]⟩ (tn 2) ?_
    refine VW.ret ?_
    replace h := Option.some.inj h
    subst h
    exact rt [some 1, some 2]
  refine VW.skip ?_
  refine VW.seq ?_
  refine VW.region ?_
  refine sG T_ok 2 [4, 19, 20] [1] ⟨[(4, .lf (.ptr 0 0 0 0)), (19, .agg [.v (.int .i64) a0.1, .v (.sl (.int .i64)) a0.2.1, .v (.sl (.int .i64)) a0.2.2]), (20, I y1)], [bx [.v (.int .i64) (0 : Int), .nil, .nil] 28]⟩ (tn 2) ?_
  obtain ⟨y8, hy, h⟩ := andO_some h
  refine cal false [.t Y27, .t (.int .i64)] [] (some 21) T_ok (ok57 N _ _ hy) ?_
  refine sN T_ok [4, 5] [0, 1, 2] ⟨[(4, .lf (.ptr 0 0 0 0)), (5, B true)], [bx [.v (.int .i64) y8.1, .hd 1 0 none, .hd 2 0 none] 28, ar 0 (.int .i64) y8.2.1 .dp, ar 0 (.int .i64) y8.2.2 .dp]⟩ (tn 2) ?_
  refine VW.ret ?_
  replace h := Option.some.inj h
  subst h
  exact rt [some 1, some 2]

/- loop.example/g00844/spec.l09First -/
def F58_j0 (N : Nat) (x53 : Int) (x54 : (List Int)) (x55 : (List Int)) : Option ((Int × ((List Int) × (List Int)))) :=
  some (x53, (x54, x55))
def F58_l0_b (N : Nat) (nx94 : Int → (List Int) → (List Int) → Int → (List Int) → (List Int) → Int → Option ((Int × ((List Int) × (List Int))))) (x75 : Int) (x76 : (List Int)) (x77 : (List Int)) (x78 : Int) (x79 : (List Int)) (x80 : (List Int)) (x81 : Int) : Option ((Int × ((List Int) × (List Int)))) :=
  cond (decide (x81 < (x76.length : Int))) (gd (InR x81 x76.length) (gd (x81.toNat < x76.length) (gd (x79.length + ([(x76.getD x81.toNat (Ty.dflt (.int .i64)))]).length ≤ lim (.int .i64)) (gd (InR x81 x77.length) (gd (x81.toNat < x77.length) (gd (x80.length + ([(x77.getD x81.toNat (Ty.dflt (.int .i64)))]).length ≤ lim (.int .i64)) (nx94 x75 x76 x77 x78 (x79 ++ ([(x76.getD x81.toNat (Ty.dflt (.int .i64)))])) (x80 ++ ([(x77.getD x81.toNat (Ty.dflt (.int .i64)))])) (IntKind.i64.wrap (x81 + (1 : Int)))))))))) (F58_j0 N x78 x79 x80)
def F58_l0 (N : Nat) : Nat → Int → (List Int) → (List Int) → Int → (List Int) → (List Int) → Int → Option ((Int × ((List Int) × (List Int)))) := loopF (F58_l0_b N) (fun _ _ _ _ _ _ _ => none)
theorem F58_l0_s (N : Nat) {k : Nat} (hk : 0 < k) (x75 : Int) (x76 : (List Int)) (x77 : (List Int)) (x78 : Int) (x79 : (List Int)) (x80 : (List Int)) (x81 : Int) : F58_l0 N k x75 x76 x77 x78 x79 x80 x81 = F58_l0_b N (F58_l0 N (k - 1)) x75 x76 x77 x78 x79 x80 x81 := by
  cases k with
  | zero => exact absurd hk (Nat.lt_irrefl 0)
  | succ m => rfl
def F58 (N : Nat) (a0 : (Int × ((List Int) × (List Int)))) (a1 : Int) (a2 : Int) : Option ((Int × ((List Int) × (List Int)))) :=
  andO (F55 N a0 a1) fun y1 => andO (F57 N a0 y1) fun y2 => F58_l0 N N y2.1 y2.2.1 y2.2.2 a0.1 ([a1]) ([a2]) (0 : Int)
theorem ok58 (N : Nat) (a0 : (Int × ((List Int) × (List Int)))) (a1 : Int) (a2 : Int) {r : (Int × ((List Int) × (List Int)))} (h : F58 N a0 a1 a2 = some r) : Con Go.Proofs.Tryd.prog 58 [.agg [.v (.int .i64) a0.1, .v (.sl (.int .i64)) a0.2.1, .v (.sl (.int .i64)) a0.2.2], I a1, I a2] [.agg [.v (.int .i64) r.1, .own (.int .i64) r.2.1 .dp, .own (.int .i64) r.2.2 .dp]] := by
  refine ctr [.agg [.v (.int .i64), .own (.int .i64) .dp, .own (.int .i64) .dp]] T_ok Go.Proofs.Tryd.func58 rfl fun w0 E0 ht => ?_
  unfold F58 at h
  show VW _ _ _ _ _ (retQ _ _ _ _) _
  refine sR T_ok [1, 2, 3, 6] [0, 1] ⟨[(1, I a1), (2, I a2), (3, .lf (.ptr 0 0 0 0)), (6, .lf (.ptr 1 0 0 0))], [bx [.v (.int .i64) a0.1, .v (.sl (.int .i64)) a0.2.1, .v (.sl (.int .i64)) a0.2.2] 28, bx [.v (.int .i64) (0 : Int), .nil, .nil] 28]⟩ (tn 2) ?_
  refine VW.seq ?_
  obtain ⟨y1, hy1, h⟩ := andO_some h
  obtain ⟨y2, hy2, h⟩ := andO_some h
  refine VW.ideal (by kernel_rfl) [[], [0], [1], [2], [5], [0, 1], [0, 2], [0, 5], [1, 2], [1, 5], [2, 5], [0, 1, 2], [0, 1, 5], [0, 2, 5], [1, 2, 3], [1, 2, 5], [0, 1, 2, 3], [0, 1, 2, 5], [1, 2, 3, 5], [0, 1, 2, 3, 4], [0, 1, 2, 3, 5], [0, 1, 2, 3, 4, 5], [0, 1, 2, 3, 4, 5, 6]] [⟨[(1, I a1), (2, I a2), (3, .lf (.ptr 0 0 0 0)), (6, .lf (.ptr 1 0 0 0))], [bx [.v (.int .i64) a0.1, .v (.sl (.int .i64)) a0.2.1, .v (.sl (.int .i64)) a0.2.2] 28, bx [.v (.int .i64) (0 : Int), .nil, .nil] 28]⟩,
    ⟨[(1, I a1), (2, I a2), (3, .lf (.ptr 0 0 0 0)), (6, .lf (.ptr 1 0 0 0)), (10, .agg [.v (.int .i64) a0.1, .v (.sl (.int .i64)) a0.2.1, .v (.sl (.int .i64)) a0.2.2])], [bx [.v (.int .i64) a0.1, .v (.sl (.int .i64)) a0.2.1, .v (.sl (.int .i64)) a0.2.2] 28, bx [.v (.int .i64) (0 : Int), .nil, .nil] 28]⟩,
    ⟨[(1, I a1), (2, I a2), (3, .lf (.ptr 0 0 0 0)), (6, .lf (.ptr 1 0 0 0)), (11, .agg [.v (.int .i64) a0.1, .v (.sl (.int .i64)) a0.2.1, .v (.sl (.int .i64)) a0.2.2])], [bx [.v (.int .i64) a0.1, .v (.sl (.int .i64)) a0.2.1, .v (.sl (.int .i64)) a0.2.2] 28, bx [.v (.int .i64) (0 : Int), .nil, .nil] 28]⟩,
    ⟨[(1, I a1), (2, I a2), (3, .lf (.ptr 0 0 0 0)), (6, .lf (.ptr 1 0 0 0)), (12, I a1)], [bx [.v (.int .i64) a0.1, .v (.sl (.int .i64)) a0.2.1, .v (.sl (.int .i64)) a0.2.2] 28, bx [.v (.int .i64) (0 : Int), .nil, .nil] 28]⟩,
    ⟨[(1, I a1), (2, I a2), (3, .lf (.ptr 0 0 0 0)), (6, .lf (.ptr 1 0 0 0)), (7, .lf (.ptr 2 0 0 0))], [bx [.v (.int .i64) a0.1, .v (.sl (.int .i64)) a0.2.1, .v (.sl (.int .i64)) a0.2.2] 28, bx [.v (.int .i64) (0 : Int), .nil, .nil] 28, bx [.v (.int .i64) (0 : Int), .nil, .nil] 28]⟩,
    ⟨[(1, I a1), (2, I a2), (3, .lf (.ptr 0 0 0 0)), (6, .lf (.ptr 1 0 0 0)), (10, .agg [.v (.int .i64) a0.1, .v (.sl (.int .i64)) a0.2.1, .v (.sl (.int .i64)) a0.2.2]), (11, .agg [.v (.int .i64) a0.1, .v (.sl (.int .i64)) a0.2.1, .v (.sl (.int .i64)) a0.2.2])], [bx [.v (.int .i64) a0.1, .v (.sl (.int .i64)) a0.2.1, .v (.sl (.int .i64)) a0.2.2] 28, bx [.v (.int .i64) (0 : Int), .nil, .nil] 28]⟩,
    ⟨[(1, I a1), (2, I a2), (3, .lf (.ptr 0 0 0 0)), (6, .lf (.ptr 1 0 0 0)), (10, .agg [.v (.int .i64) a0.1, .v (.sl (.int .i64)) a0.2.1, .v (.sl (.int .i64)) a0.2.2]), (12, I a1)], [bx [.v (.int .i64) a0.1, .v (.sl (.int .i64)) a0.2.1, .v (.sl (.int .i64)) a0.2.2] 28, bx [.v (.int .i64) (0 : Int), .nil, .nil] 28]⟩,
    ⟨[(1, I a1), (2, I a2), (3, .lf (.ptr 0 0 0 0)), (6, .lf (.ptr 1 0 0 0)), (7, .lf (.ptr 2 0 0 0)), (10, .agg [.v (.int .i64) a0.1, .v (.sl (.int .i64)) a0.2.1, .v (.sl (.int .i64)) a0.2.2])], [bx [.v (.int .i64) a0.1, .v (.sl (.int .i64)) a0.2.1, .v (.sl (.int .i64)) a0.2.2] 28, bx [.v (.int .i64) (0 : Int), .nil, .nil] 28, bx [.v (.int .i64) (0 : Int), .nil, .nil] 28]⟩,
    ⟨[(1, I a1), (2, I a2), (3, .lf (.ptr 0 0 0 0)), (6, .lf (.ptr 1 0 0 0)), (11, .agg [.v (.int .i64) a0.1, .v (.sl (.int .i64)) a0.2.1, .v (.sl (.int .i64)) a0.2.2]), (12, I a1)], [bx [.v (.int .i64) a0.1, .v (.sl (.int .i64)) a0.2.1, .v (.sl (.int .i64)) a0.2.2] 28, bx [.v (.int .i64) (0 : Int), .nil, .nil] 28]⟩,
    ⟨[(1, I a1), (2, I a2), (3, .lf (.ptr 0 0 0 0)), (6, .lf (.ptr 1 0 0 0)), (7, .lf (.ptr 2 0 0 0)), (11, .agg [.v (.int .i64) a0.1, .v (.sl (.int .i64)) a0.2.1, .v (.sl (.int .i64)) a0.2.2])], [bx [.v (.int .i64) a0.1, .v (.sl (.int .i64)) a0.2.1, .v (.sl (.int .i64)) a0.2.2] 28, bx [.v (.int .i64) (0 : Int), .nil, .nil] 28, bx [.v (.int .i64) (0 : Int), .nil, .nil] 28]⟩,
    ⟨[(1, I a1), (2, I a2), (3, .lf (.ptr 0 0 0 0)), (6, .lf (.ptr 1 0 0 0)), (7, .lf (.ptr 2 0 0 0)), (12, I a1)], [bx [.v (.int .i64) a0.1, .v (.sl (.int .i64)) a0.2.1, .v (.sl (.int .i64)) a0.2.2] 28, bx [.v (.int .i64) (0 : Int), .nil, .nil] 28, bx [.v (.int .i64) (0 : Int), .nil, .nil] 28]⟩,
    ⟨[(1, I a1), (2, I a2), (3, .lf (.ptr 0 0 0 0)), (6, .lf (.ptr 1 0 0 0)), (10, .agg [.v (.int .i64) a0.1, .v (.sl (.int .i64)) a0.2.1, .v (.sl (.int .i64)) a0.2.2]), (11, .agg [.v (.int .i64) a0.1, .v (.sl (.int .i64)) a0.2.1, .v (.sl (.int .i64)) a0.2.2]), (12, I a1)], [bx [.v (.int .i64) a0.1, .v (.sl (.int .i64)) a0.2.1, .v (.sl (.int .i64)) a0.2.2] 28, bx [.v (.int .i64) (0 : Int), .nil, .nil] 28]⟩,
    ⟨[(1, I a1), (2, I a2), (3, .lf (.ptr 0 0 0 0)), (6, .lf (.ptr 1 0 0 0)), (7, .lf (.ptr 2 0 0 0)), (10, .agg [.v (.int .i64) a0.1, .v (.sl (.int .i64)) a0.2.1, .v (.sl (.int .i64)) a0.2.2]), (11, .agg [.v (.int .i64) a0.1, .v (.sl (.int .i64)) a0.2.1, .v (.sl (.int .i64)) a0.2.2])], [bx [.v (.int .i64) a0.1, .v (.sl (.int .i64)) a0.2.1, .v (.sl (.int .i64)) a0.2.2] 28, bx [.v (.int .i64) (0 : Int), .nil, .nil] 28, bx [.v (.int .i64) (0 : Int), .nil, .nil] 28]⟩,
    ⟨[(1, I a1), (2, I a2), (3, .lf (.ptr 0 0 0 0)), (6, .lf (.ptr 1 0 0 0)), (7, .lf (.ptr 2 0 0 0)), (10, .agg [.v (.int .i64) a0.1, .v (.sl (.int .i64)) a0.2.1, .v (.sl (.int .i64)) a0.2.2]), (12, I a1)], [bx [.v (.int .i64) a0.1, .v (.sl (.int .i64)) a0.2.1, .v (.sl (.int .i64)) a0.2.2] 28, bx [.v (.int .i64) (0 : Int), .nil, .nil] 28, bx [.v (.int .i64) (0 : Int), .nil, .nil] 28]⟩,
    ⟨[(1, I a1), (2, I a2), (3, .lf (.ptr 0 0 0 0)), (6, .lf (.ptr 1 0 0 0)), (13, I y1)], [bx [.v (.int .i64) a0.1, .v (.sl (.int .i64)) a0.2.1, .v (.sl (.int .i64)) a0.2.2] 28, bx [.v (.int .i64) (0 : Int), .nil, .nil] 28]⟩,
    ⟨[(1, I a1), (2, I a2), (3, .lf (.ptr 0 0 0 0)), (6, .lf (.ptr 1 0 0 0)), (7, .lf (.ptr 2 0 0 0)), (11, .agg [.v (.int .i64) a0.1, .v (.sl (.int .i64)) a0.2.1, .v (.sl (.int .i64)) a0.2.2]), (12, I a1)], [bx [.v (.int .i64) a0.1, .v (.sl (.int .i64)) a0.2.1, .v (.sl (.int .i64)) a0.2.2] 28, bx [.v (.int .i64) (0 : Int), .nil, .nil] 28, bx [.v (.int .i64) (0 : Int), .nil, .nil] 28]⟩,
    ⟨[(1, I a1), (2, I a2), (3, .lf (.ptr 0 0 0 0)), (6, .lf (.ptr 1 0 0 0)), (10, .agg [.v (.int .i64) a0.1, .v (.sl (.int .i64)) a0.2.1, .v (.sl (.int .i64)) a0.2.2]), (13, I y1)], [bx [.v (.int .i64) a0.1, .v (.sl (.int .i64)) a0.2.1, .v (.sl (.int .i64)) a0.2.2] 28, bx [.v (.int .i64) (0 : Int), .nil, .nil] 28]⟩,
    ⟨[(1, I a1), (2, I a2), (3, .lf (.ptr 0 0 0 0)), (6, .lf (.ptr 1 0 0 0)), (7, .lf (.ptr 2 0 0 0)), (10, .agg [.v (.int .i64) a0.1, .v (.sl (.int .i64)) a0.2.1, .v (.sl (.int .i64)) a0.2.2]), (11, .agg [.v (.int .i64) a0.1, .v (.sl (.int .i64)) a0.2.1, .v (.sl (.int .i64)) a0.2.2]), (12, I a1)], [bx [.v (.int .i64) a0.1, .v (.sl (.int .i64)) a0.2.1, .v (.sl (.int .i64)) a0.2.2] 28, bx [.v (.int .i64) (0 : Int), .nil, .nil] 28, bx [.v (.int .i64) (0 : Int), .nil, .nil] 28]⟩,
    ⟨[(1, I a1), (2, I a2), (3, .lf (.ptr 0 0 0 0)), (6, .lf (.ptr 1 0 0 0)), (7, .lf (.ptr 2 0 0 0)), (13, I y1)], [bx [.v (.int .i64) a0.1, .v (.sl (.int .i64)) a0.2.1, .v (.sl (.int .i64)) a0.2.2] 28, bx [.v (.int .i64) (0 : Int), .nil, .nil] 28, bx [.v (.int .i64) (0 : Int), .nil, .nil] 28]⟩,
    ⟨[(1, I a1), (2, I a2), (3, .lf (.ptr 0 0 0 0)), (6, .lf (.ptr 1 0 0 0)), (14, .agg [.v (.int .i64) y2.1, .hd 2 0 none, .hd 3 0 none])], [bx [.v (.int .i64) a0.1, .v (.sl (.int .i64)) a0.2.1, .v (.sl (.int .i64)) a0.2.2] 28, bx [.v (.int .i64) (0 : Int), .nil, .nil] 28, ar 0 (.int .i64) y2.2.1 .dp, ar 0 (.int .i64) y2.2.2 .dp]⟩,
    ⟨[(1, I a1), (2, I a2), (3, .lf (.ptr 0 0 0 0)), (6, .lf (.ptr 1 0 0 0)), (7, .lf (.ptr 2 0 0 0)), (10, .agg [.v (.int .i64) a0.1, .v (.sl (.int .i64)) a0.2.1, .v (.sl (.int .i64)) a0.2.2]), (13, I y1)], [bx [.v (.int .i64) a0.1, .v (.sl (.int .i64)) a0.2.1, .v (.sl (.int .i64)) a0.2.2] 28, bx [.v (.int .i64) (0 : Int), .nil, .nil] 28, bx [.v (.int .i64) (0 : Int), .nil, .nil] 28]⟩,
    ⟨[(1, I a1), (2, I a2), (3, .lf (.ptr 0 0 0 0)), (6, .lf (.ptr 1 0 0 0)), (7, .lf (.ptr 2 0 0 0)), (14, .agg [.v (.int .i64) y2.1, .hd 3 0 none, .hd 4 0 none])], [bx [.v (.int .i64) a0.1, .v (.sl (.int .i64)) a0.2.1, .v (.sl (.int .i64)) a0.2.2] 28, bx [.v (.int .i64) (0 : Int), .nil, .nil] 28, bx [.v (.int .i64) (0 : Int), .nil, .nil] 28, ar 0 (.int .i64) y2.2.1 .dp, ar 0 (.int .i64) y2.2.2 .dp]⟩,
    ⟨[(1, I a1), (2, I a2), (3, .lf (.ptr 0 0 0 0)), (6, .lf (.ptr 1 0 0 0)), (7, .lf (.ptr 2 0 0 0))], [bx [.v (.int .i64) a0.1, .v (.sl (.int .i64)) a0.2.1, .v (.sl (.int .i64)) a0.2.2] 28, bx [.v (.int .i64) (0 : Int), .nil, .nil] 28, bx [.v (.int .i64) y2.1, .hd 3 0 none, .hd 4 0 none] 28, ar 0 (.int .i64) y2.2.1 .dp, ar 0 (.int .i64) y2.2.2 .dp]⟩] [(0, 0, 1), (0, 1, 2), (0, 2, 3), (0, 5, 4), (1, 1, 5), (1, 2, 6), (1, 5, 7), (2, 0, 5), (2, 2, 8), (2, 5, 9), (3, 0, 6), (3, 1, 8), (3, 5, 10), (4, 0, 7), (4, 1, 9), (4, 2, 10), (5, 2, 11), (5, 5, 12), (6, 1, 11), (6, 5, 13), (7, 1, 12), (7, 2, 13), (8, 0, 11), (8, 3, 14), (8, 5, 15), (9, 0, 12), (9, 2, 15), (10, 0, 13), (10, 1, 15), (11, 3, 16), (11, 5, 17), (12, 2, 17), (13, 1, 17), (14, 0, 16), (14, 5, 18), (15, 0, 17), (15, 3, 18), (16, 4, 19), (16, 5, 20), (17, 3, 20), (18, 0, 20), (19, 5, 21), (20, 4, 21), (21, 6, 22)] 22 (s' := ⟨[(1, I a1), (2, I a2), (3, .lf (.ptr 0 0 0 0)), (6, .lf (.ptr 1 0 0 0)), (7, .lf (.ptr 2 0 0 0))], [bx [.v (.int .i64) a0.1, .v (.sl (.int .i64)) a0.2.1, .v (.sl (.int .i64)) a0.2.2] 28, bx [.v (.int .i64) (0 : Int), .nil, .nil] 28, bx [.v (.int .i64) y2.1, .hd 3 0 none, .hd 4 0 none] 28, ar 0 (.int .i64) y2.2.1 .dp, ar 0 (.int .i64) y2.2.2 .dp]⟩) (by kernel_rfl) rfl rfl ⟨⟨_, _, _, rfl, rfl, rfl, VO.seg T_ok .dp 1 [1, 2, 3, 6, 10] [0, 1] (φ := True ∧ True) (by kernel_rfl) ⟨trivial, trivial⟩ (VI.fin rfl)⟩,
    ⟨_, _, _, rfl, rfl, rfl, VO.seg T_ok .dp 1 [1, 2, 3, 6, 11] [0, 1] (φ := True ∧ True) (by kernel_rfl) ⟨trivial, trivial⟩ (VI.fin rfl)⟩,
    ⟨_, _, _, rfl, rfl, rfl, VO.seg T_ok .dp 1 [1, 2, 3, 6, 12] [0, 1] (φ := True ∧ True) (by kernel_rfl) ⟨trivial, trivial⟩ (VI.fin rfl)⟩,
    ⟨_, _, _, rfl, rfl, rfl, VO.seg T_ok .dp 1 [1, 2, 3, 6, 7] [0, 1, 2] (φ := True ∧ True) (by kernel_rfl) ⟨trivial, trivial⟩ (VI.fin rfl)⟩,
    ⟨_, _, _, rfl, rfl, rfl, VO.seg T_ok .dp 1 [1, 2, 3, 6, 10, 11] [0, 1] (φ := True ∧ True) (by kernel_rfl) ⟨trivial, trivial⟩ (VI.fin rfl)⟩,
    ⟨_, _, _, rfl, rfl, rfl, VO.seg T_ok .dp 1 [1, 2, 3, 6, 10, 12] [0, 1] (φ := True ∧ True) (by kernel_rfl) ⟨trivial, trivial⟩ (VI.fin rfl)⟩,
    ⟨_, _, _, rfl, rfl, rfl, VO.seg T_ok .dp 1 [1, 2, 3, 6, 7, 10] [0, 1, 2] (φ := True ∧ True) (by kernel_rfl) ⟨trivial, trivial⟩ (VI.fin rfl)⟩,
    ⟨_, _, _, rfl, rfl, rfl, VO.seg T_ok .dp 1 [1, 2, 3, 6, 10, 11] [0, 1] (φ := True ∧ True) (by kernel_rfl) ⟨trivial, trivial⟩ (VI.fin rfl)⟩,
    ⟨_, _, _, rfl, rfl, rfl, VO.seg T_ok .dp 1 [1, 2, 3, 6, 11, 12] [0, 1] (φ := True ∧ True) (by kernel_rfl) ⟨trivial, trivial⟩ (VI.fin rfl)⟩,
    ⟨_, _, _, rfl, rfl, rfl, VO.seg T_ok .dp 1 [1, 2, 3, 6, 7, 11] [0, 1, 2] (φ := True ∧ True) (by kernel_rfl) ⟨trivial, trivial⟩ (VI.fin rfl)⟩,
    ⟨_, _, _, rfl, rfl, rfl, VO.seg T_ok .dp 1 [1, 2, 3, 6, 10, 12] [0, 1] (φ := True ∧ True) (by kernel_rfl) ⟨trivial, trivial⟩ (VI.fin rfl)⟩,
    ⟨_, _, _, rfl, rfl, rfl, VO.seg T_ok .dp 1 [1, 2, 3, 6, 11, 12] [0, 1] (φ := True ∧ True) (by kernel_rfl) ⟨trivial, trivial⟩ (VI.fin rfl)⟩,
    ⟨_, _, _, rfl, rfl, rfl, VO.seg T_ok .dp 1 [1, 2, 3, 6, 7, 12] [0, 1, 2] (φ := True ∧ True) (by kernel_rfl) ⟨trivial, trivial⟩ (VI.fin rfl)⟩,
    ⟨_, _, _, rfl, rfl, rfl, VO.seg T_ok .dp 1 [1, 2, 3, 6, 7, 10] [0, 1, 2] (φ := True ∧ True) (by kernel_rfl) ⟨trivial, trivial⟩ (VI.fin rfl)⟩,
    ⟨_, _, _, rfl, rfl, rfl, VO.seg T_ok .dp 1 [1, 2, 3, 6, 7, 11] [0, 1, 2] (φ := True ∧ True) (by kernel_rfl) ⟨trivial, trivial⟩ (VI.fin rfl)⟩,
    ⟨_, _, _, rfl, rfl, rfl, VO.seg T_ok .dp 1 [1, 2, 3, 6, 7, 12] [0, 1, 2] (φ := True ∧ True) (by kernel_rfl) ⟨trivial, trivial⟩ (VI.fin rfl)⟩,
    ⟨_, _, _, rfl, rfl, rfl, VO.seg T_ok .dp 1 [1, 2, 3, 6, 10, 11, 12] [0, 1] (φ := True ∧ True) (by kernel_rfl) ⟨trivial, trivial⟩ (VI.fin rfl)⟩,
    ⟨_, _, _, rfl, rfl, rfl, VO.seg T_ok .dp 1 [1, 2, 3, 6, 7, 10, 11] [0, 1, 2] (φ := True ∧ True) (by kernel_rfl) ⟨trivial, trivial⟩ (VI.fin rfl)⟩,
    ⟨_, _, _, rfl, rfl, rfl, VO.seg T_ok .dp 1 [1, 2, 3, 6, 10, 11, 12] [0, 1] (φ := True ∧ True) (by kernel_rfl) ⟨trivial, trivial⟩ (VI.fin rfl)⟩,
    ⟨_, _, _, rfl, rfl, rfl, VO.seg T_ok .dp 1 [1, 2, 3, 6, 7, 10, 12] [0, 1, 2] (φ := True ∧ True) (by kernel_rfl) ⟨trivial, trivial⟩ (VI.fin rfl)⟩,
    ⟨_, _, _, rfl, rfl, rfl, VO.seg T_ok .dp 1 [1, 2, 3, 6, 7, 10, 11] [0, 1, 2] (φ := True ∧ True) (by kernel_rfl) ⟨trivial, trivial⟩ (VI.fin rfl)⟩,
    ⟨_, _, _, rfl, rfl, rfl, VO.seg T_ok .dp 1 [1, 2, 3, 6, 7, 10, 12] [0, 1, 2] (φ := True ∧ True) (by kernel_rfl) ⟨trivial, trivial⟩ (VI.fin rfl)⟩,
    ⟨_, _, _, rfl, rfl, rfl, VO.seg T_ok .dp 1 [1, 2, 3, 6, 10, 11, 12] [0, 1] (φ := True ∧ True) (by kernel_rfl) ⟨trivial, trivial⟩ (VI.fin rfl)⟩,
    ⟨_, _, _, rfl, rfl, rfl, by
      refine VO.call false [.t Y27, .t (.int .i64)] [] T_ok (d := some 13) (by kernel_rfl) (ok55 N _ _ hy1) rfl ?_
      exact VO.ghl [.ren [1, 2, 3, 6, 13] [0, 1]] (VI.fin (by kernel_rfl))⟩,
    ⟨_, _, _, rfl, rfl, rfl, VO.seg T_ok .dp 1 [1, 2, 3, 6, 7, 11, 12] [0, 1, 2] (φ := True ∧ True) (by kernel_rfl) ⟨trivial, trivial⟩ (VI.fin rfl)⟩,
    ⟨_, _, _, rfl, rfl, rfl, VO.seg T_ok .dp 1 [1, 2, 3, 6, 7, 10, 11] [0, 1, 2] (φ := True ∧ True) (by kernel_rfl) ⟨trivial, trivial⟩ (VI.fin rfl)⟩,
    ⟨_, _, _, rfl, rfl, rfl, VO.seg T_ok .dp 1 [1, 2, 3, 6, 7, 11, 12] [0, 1, 2] (φ := True ∧ True) (by kernel_rfl) ⟨trivial, trivial⟩ (VI.fin rfl)⟩,
    ⟨_, _, _, rfl, rfl, rfl, VO.seg T_ok .dp 1 [1, 2, 3, 6, 7, 10, 12] [0, 1, 2] (φ := True ∧ True) (by kernel_rfl) ⟨trivial, trivial⟩ (VI.fin rfl)⟩,
    ⟨_, _, _, rfl, rfl, rfl, VO.seg T_ok .dp 1 [1, 2, 3, 6, 7, 11, 12] [0, 1, 2] (φ := True ∧ True) (by kernel_rfl) ⟨trivial, trivial⟩ (VI.fin rfl)⟩,
    ⟨_, _, _, rfl, rfl, rfl, by
      refine VO.call false [.t Y27, .t (.int .i64)] [] T_ok (d := some 13) (by kernel_rfl) (ok55 N _ _ hy1) rfl ?_
      exact VO.ghl [.ren [1, 2, 3, 6, 10, 13] [0, 1]] (VI.fin (by kernel_rfl))⟩,
    ⟨_, _, _, rfl, rfl, rfl, VO.seg T_ok .dp 1 [1, 2, 3, 6, 7, 10, 11, 12] [0, 1, 2] (φ := True ∧ True) (by kernel_rfl) ⟨trivial, trivial⟩ (VI.fin rfl)⟩,
    ⟨_, _, _, rfl, rfl, rfl, VO.seg T_ok .dp 1 [1, 2, 3, 6, 7, 10, 11, 12] [0, 1, 2] (φ := True ∧ True) (by kernel_rfl) ⟨trivial, trivial⟩ (VI.fin rfl)⟩,
    ⟨_, _, _, rfl, rfl, rfl, VO.seg T_ok .dp 1 [1, 2, 3, 6, 7, 10, 11, 12] [0, 1, 2] (φ := True ∧ True) (by kernel_rfl) ⟨trivial, trivial⟩ (VI.fin rfl)⟩,
    ⟨_, _, _, rfl, rfl, rfl, VO.seg T_ok .dp 1 [1, 2, 3, 6, 10, 13] [0, 1] (φ := True ∧ True) (by kernel_rfl) ⟨trivial, trivial⟩ (VI.fin rfl)⟩,
    ⟨_, _, _, rfl, rfl, rfl, VO.seg T_ok .dp 1 [1, 2, 3, 6, 7, 13] [0, 1, 2] (φ := True ∧ True) (by kernel_rfl) ⟨trivial, trivial⟩ (VI.fin rfl)⟩,
    ⟨_, _, _, rfl, rfl, rfl, VO.seg T_ok .dp 1 [1, 2, 3, 6, 7, 10, 11, 12] [0, 1, 2] (φ := True ∧ True) (by kernel_rfl) ⟨trivial, trivial⟩ (VI.fin rfl)⟩,
    ⟨_, _, _, rfl, rfl, rfl, by
      refine VO.call false [.t Y27, .t (.int .i64)] [] T_ok (d := some 13) (by kernel_rfl) (ok55 N _ _ hy1) rfl ?_
      exact VO.ghl [.ren [1, 2, 3, 6, 7, 13] [0, 1, 2]] (VI.fin (by kernel_rfl))⟩,
    ⟨_, _, _, rfl, rfl, rfl, by
      refine VO.call false [.t Y27, .t (.int .i64)] [] T_ok (d := some 14) (by kernel_rfl) (ok57 N _ _ hy2) rfl ?_
      exact VO.ghl [.ren [1, 2, 3, 6, 14] [0, 1, 2, 3]] (VI.fin (by kernel_rfl))⟩,
    ⟨_, _, _, rfl, rfl, rfl, VO.seg T_ok .dp 1 [1, 2, 3, 6, 7, 10, 13] [0, 1, 2] (φ := True ∧ True) (by kernel_rfl) ⟨trivial, trivial⟩ (VI.fin rfl)⟩,
    ⟨_, _, _, rfl, rfl, rfl, by
      refine VO.call false [.t Y27, .t (.int .i64)] [] T_ok (d := some 13) (by kernel_rfl) (ok55 N _ _ hy1) rfl ?_
      exact VO.ghl [.ren [1, 2, 3, 6, 7, 10, 13] [0, 1, 2]] (VI.fin (by kernel_rfl))⟩,
    ⟨_, _, _, rfl, rfl, rfl, VO.seg T_ok .dp 1 [1, 2, 3, 6, 7, 10, 13] [0, 1, 2] (φ := True ∧ True) (by kernel_rfl) ⟨trivial, trivial⟩ (VI.fin rfl)⟩,
    ⟨_, _, _, rfl, rfl, rfl, VO.seg T_ok .dp 1 [1, 2, 3, 6, 7, 14] [0, 1, 4, 2, 3] (φ := True ∧ True) (by kernel_rfl) ⟨trivial, trivial⟩ (VI.fin rfl)⟩,
    ⟨_, _, _, rfl, rfl, rfl, by
      refine VO.call false [.t Y27, .t (.int .i64)] [] T_ok (d := some 14) (by kernel_rfl) (ok57 N _ _ hy2) rfl ?_
      exact VO.ghl [.ren [1, 2, 3, 6, 7, 14] [0, 1, 2, 3, 4]] (VI.fin (by kernel_rfl))⟩,
    ⟨_, _, _, rfl, rfl, rfl, VO.seg T_ok .dp 1 [1, 2, 3, 6, 7] [0, 1, 2, 3, 4] (φ := True ∧ True) (by kernel_rfl) ⟨trivial, trivial⟩ (VI.fin rfl)⟩, trivial⟩ ?_
  refine sR T_ok [6, 7, 8] [1, 2, 3, 4, 7, 5, 6] ⟨[(6, .lf (.ptr 0 0 0 0)), (7, .lf (.ptr 1 0 0 0)), (8, .lf (.ptr 4 0 0 0))], [bx [.v (.int .i64) (0 : Int), .nil, .nil] 28, bx [.v (.int .i64) y2.1, .hd 2 0 none, .hd 3 0 none] 28, ar 0 (.int .i64) y2.2.1 .dp, ar 0 (.int .i64) y2.2.2 .dp, bx [.v (.int .i64) a0.1, .hd 5 0 none, .hd 6 0 none] 28, ar 0 (.int .i64) ([a1]) .dp, ar 0 (.int .i64) ([a2]) .dp]⟩ (tn 9) ?_
  refine VW.join (fun s => ∃ (x53 : Int) (x54 : (List Int)) (x55 : (List Int)), s = ⟨[(6, .lf (.ptr 0 0 0 0)), (8, .lf (.ptr 1 0 0 0))], [bx [.v (.int .i64) (0 : Int), .nil, .nil] 28, bx [.v (.int .i64) x53, .hd 2 0 none, .hd 3 0 none] 28, ar 0 (.int .i64) x54 .dp, ar 0 (.int .i64) x55 .dp]⟩ ∧ F58_j0 N x53 x54 x55 = some r) ?_ ?_
  · refine sR T_ok [6, 7, 8, 9] [0, 1, 2, 3, 4, 5, 6] ⟨[(6, .lf (.ptr 0 0 0 0)), (7, .lf (.ptr 1 0 0 0)), (8, .lf (.ptr 4 0 0 0)), (9, I (0 : Int))], [bx [.v (.int .i64) (0 : Int), .nil, .nil] 28, bx [.v (.int .i64) y2.1, .hd 2 0 none, .hd 3 0 none] 28, ar 0 (.int .i64) y2.2.1 .dp, ar 0 (.int .i64) y2.2.2 .dp, bx [.v (.int .i64) a0.1, .hd 5 0 none, .hd 6 0 none] 28, ar 0 (.int .i64) ([a1]) .dp, ar 0 (.int .i64) ([a2]) .dp]⟩ (tn 1) ?_
    refine VW.block ?_
    refine lop (fun k s => ∃ (x75 : Int) (x76 : (List Int)) (x77 : (List Int)) (x78 : Int) (x79 : (List Int)) (x80 : (List Int)) (x81 : Int), s = ⟨[(6, .lf (.ptr 0 0 0 0)), (7, .lf (.ptr 1 0 0 0)), (8, .lf (.ptr 4 0 0 0)), (9, I x81)], [bx [.v (.int .i64) (0 : Int), .nil, .nil] 28, bx [.v (.int .i64) x75, .hd 2 0 none, .hd 3 0 none] 28, ar 0 (.int .i64) x76 .dp, ar 0 (.int .i64) x77 .dp, bx [.v (.int .i64) x78, .hd 5 0 none, .hd 6 0 none] 28, ar 0 (.int .i64) x79 .dp, ar 0 (.int .i64) x80 .dp]⟩ ∧ F58_l0 N k x75 x76 x77 x78 x79 x80 x81 = some r) N [.ren [6, 7, 8, 9] [0, 1, 2, 3, 4, 5, 6]] ⟨y2.1, y2.2.1, y2.2.2, a0.1, [a1], [a2], (0 : Int), rfl, h⟩ ?_
    rintro k94 s ⟨x75, x76, x77, x78, x79, x80, x81, rfl, h⟩
    cases k94 with
    | zero => cases show none = some r from h
    | succ k94 =>
      replace h : F58_l0_b N (F58_l0 N k94) x75 x76 x77 x78 x79 x80 x81 = some r := h
      unfold F58_l0_b at h
      refine VW.seq ?_
      refine sR T_ok [6, 7, 8, 9, 26] [0, 1, 2, 3, 4, 5, 6] ⟨[(6, .lf (.ptr 0 0 0 0)), (7, .lf (.ptr 1 0 0 0)), (8, .lf (.ptr 4 0 0 0)), (9, I x81), (26, B (decide (x81 < (x76.length : Int))))], [bx [.v (.int .i64) (0 : Int), .nil, .nil] 28, bx [.v (.int .i64) x75, .hd 2 0 none, .hd 3 0 none] 28, ar 0 (.int .i64) x76 .dp, ar 0 (.int .i64) x77 .dp, bx [.v (.int .i64) x78, .hd 5 0 none, .hd 6 0 none] 28, ar 0 (.int .i64) x79 .dp, ar 0 (.int .i64) x80 .dp]⟩ (tn 5) ?_
      refine cnd h (fun h => ?_) (fun h => ?_)
      · refine VW.skip ?_
        refine VW.seq ?_
        refine VW.block ?_
        refine VW.seq ?_
        obtain ⟨g101, h⟩ := gd_some h
        obtain ⟨g102, h⟩ := gd_some h
        obtain ⟨g103, h⟩ := gd_some h
        refine VW.drawn (by kernel_rfl) [some (29, .lf (.ptr 4 0 0 1)), some (30, .lf (.hd 5 0 none)), some (31, .lf (.ptr 1 0 0 1)), some (32, .lf (.hd 2 0 none)), some (33, I x81), some (34, .lf (.ptr 2 0 x81.toNat 0)), some (35, I (x76.getD x81.toNat (Ty.dflt (.int .i64)))), some (36, .lf (.hd 7 0 none)), some (37, .lf (.hd 5 1 none)), some (38, .lf (.ptr 4 0 0 1)), none] [7, 8, 10] [[bx [.v (.int .i64) (0 : Int), .nil, .nil] 28, bx [.v (.int .i64) x75, .hd 2 0 none, .hd 3 0 none] 28, ar 0 (.int .i64) x76 .dp, ar 0 (.int .i64) x77 .dp, bx [.v (.int .i64) x78, .hd 5 0 none, .hd 6 0 none] 28, ar 0 (.int .i64) x79 .dp, ar 0 (.int .i64) x80 .dp], [bx [.v (.int .i64) (0 : Int), .nil, .nil] 28, bx [.v (.int .i64) x75, .hd 2 0 none, .hd 3 0 none] 28, ar 0 (.int .i64) x76 .dp, ar 0 (.int .i64) x77 .dp, bx [.v (.int .i64) x78, .hd 5 0 none, .hd 6 0 none] 28, ar 0 (.int .i64) x79 .dp, ar 0 (.int .i64) x80 .dp, ar 0 (.int .i64) ([(x76.getD x81.toNat (Ty.dflt (.int .i64)))]) .dp], [bx [.v (.int .i64) (0 : Int), .nil, .nil] 28, bx [.v (.int .i64) x75, .hd 2 0 none, .hd 3 0 none] 28, ar 0 (.int .i64) x76 .dp, ar 0 (.int .i64) x77 .dp, bx [.v (.int .i64) x78, .hd 5 0 none, .hd 6 0 none] 28, ar 1 (.int .i64) (x79 ++ ([(x76.getD x81.toNat (Ty.dflt (.int .i64)))])) .dp, ar 0 (.int .i64) x80 .dp, ar 0 (.int .i64) ([(x76.getD x81.toNat (Ty.dflt (.int .i64)))]) .dp], [bx [.v (.int .i64) (0 : Int), .nil, .nil] 28, bx [.v (.int .i64) x75, .hd 2 0 none, .hd 3 0 none] 28, ar 0 (.int .i64) x76 .dp, ar 0 (.int .i64) x77 .dp, bx [.v (.int .i64) x78, .hd 5 1 none, .hd 6 0 none] 28, ar 1 (.int .i64) (x79 ++ ([(x76.getD x81.toNat (Ty.dflt (.int .i64)))])) .dp, ar 0 (.int .i64) x80 .dp, ar 0 (.int .i64) ([(x76.getD x81.toNat (Ty.dflt (.int .i64)))]) .dp]] [(0, 0), (0, 1), (0, 2), (1, 0), (1, 1), (2, 0), (2, 1), (2, 2), (3, 0), (3, 1), (3, 2), (4, 0), (4, 1), (4, 2), (5, 0), (5, 1), (5, 2), (6, 0), (7, 0), (8, 1), (9, 2), (10, 2)] [6, 7, 8, 9] [0, 1, 2, 3, 4, 5, 6] (s' := ⟨[(6, .lf (.ptr 0 0 0 0)), (7, .lf (.ptr 1 0 0 0)), (8, .lf (.ptr 4 0 0 0)), (9, I x81)], [bx [.v (.int .i64) (0 : Int), .nil, .nil] 28, bx [.v (.int .i64) x75, .hd 2 0 none, .hd 3 0 none] 28, ar 0 (.int .i64) x76 .dp, ar 0 (.int .i64) x77 .dp, bx [.v (.int .i64) x78, .hd 5 0 none, .hd 6 0 none] 28, ar 0 (.int .i64) (x79 ++ ([(x76.getD x81.toNat (Ty.dflt (.int .i64)))])) .dp, ar 0 (.int .i64) x80 .dp]⟩) (by kernel_rfl) (by kernel_rfl) ⟨⟨_, rfl, Stp.ev T_ok (m := .dp) (φ := True) (by kernel_rfl) trivial⟩,
    ⟨_, rfl, Stp.ev T_ok (m := .dp) (φ := True) (by kernel_rfl) trivial⟩,
    ⟨_, rfl, Stp.ev T_ok (m := .dp) (φ := True) (by kernel_rfl) trivial⟩,
    ⟨_, rfl, Stp.ev T_ok (m := .dp) (φ := True) (by kernel_rfl) trivial⟩,
    ⟨_, rfl, Stp.ev T_ok (m := .dp) (φ := True) (by kernel_rfl) trivial⟩,
    ⟨_, rfl, Stp.ev T_ok (m := .dp) (φ := True) (by kernel_rfl) trivial⟩,
    ⟨_, rfl, Stp.ev T_ok (m := .dp) (φ := True) (by kernel_rfl) trivial⟩,
    ⟨_, rfl, Stp.ev T_ok (m := .dp) (φ := True) (by kernel_rfl) trivial⟩,
    ⟨_, rfl, Stp.ev T_ok (m := .dp) (φ := True) (by kernel_rfl) trivial⟩,
    ⟨_, rfl, Stp.ev T_ok (m := .dp) (φ := True) (by kernel_rfl) trivial⟩,
    ⟨_, rfl, Stp.ev T_ok (m := .dp) (φ := True) (by kernel_rfl) trivial⟩,
    ⟨_, rfl, Stp.ev T_ok (m := .dp) (φ := True) (by kernel_rfl) trivial⟩,
    ⟨_, rfl, Stp.ev T_ok (m := .dp) (φ := True) (by kernel_rfl) trivial⟩,
    ⟨_, rfl, Stp.ev T_ok (m := .dp) (φ := True) (by kernel_rfl) trivial⟩,
    ⟨_, rfl, Stp.ev T_ok (m := .dp) (φ := InR x81 x76.length) (by kernel_rfl) g101⟩,
    ⟨_, rfl, Stp.ev T_ok (m := .dp) (φ := InR x81 x76.length) (by kernel_rfl) g101⟩,
    ⟨_, rfl, Stp.ev T_ok (m := .dp) (φ := InR x81 x76.length) (by kernel_rfl) g101⟩,
    ⟨_, rfl, Stp.ev T_ok (m := .dp) (φ := x81.toNat < x76.length) (by kernel_rfl) g102⟩,
    ⟨_, rfl, Stp.ev T_ok (m := .dp) (φ := True) (by kernel_rfl) trivial⟩,
    ⟨_, rfl, Stp.ev T_ok (m := .dp) (φ := x79.length + ([(x76.getD x81.toNat (Ty.dflt (.int .i64)))]).length ≤ lim (.int .i64)) (by kernel_rfl) g103⟩,
    ⟨_, rfl, Stp.ev T_ok (m := .dp) (φ := True) (by kernel_rfl) trivial⟩,
    ⟨_, rfl, Stp.ev T_ok (m := .dp) (φ := True) (by kernel_rfl) trivial⟩, trivial⟩ (by kernel_rfl) ?_
        obtain ⟨g104, h⟩ := gd_some h
        obtain ⟨g105, h⟩ := gd_some h
        obtain ⟨g106, h⟩ := gd_some h
        refine VW.drawn (by kernel_rfl) [some (39, .lf (.ptr 4 0 0 2)), some (40, .lf (.hd 6 0 none)), some (41, .lf (.ptr 1 0 0 2)), some (42, .lf (.hd 3 0 none)), some (43, I x81), some (44, .lf (.ptr 3 0 x81.toNat 0)), some (45, I (x77.getD x81.toNat (Ty.dflt (.int .i64)))), some (46, .lf (.hd 7 0 none)), some (47, .lf (.hd 6 1 none)), some (48, .lf (.ptr 4 0 0 2)), none] [7, 8, 10] [[bx [.v (.int .i64) (0 : Int), .nil, .nil] 28, bx [.v (.int .i64) x75, .hd 2 0 none, .hd 3 0 none] 28, ar 0 (.int .i64) x76 .dp, ar 0 (.int .i64) x77 .dp, bx [.v (.int .i64) x78, .hd 5 0 none, .hd 6 0 none] 28, ar 0 (.int .i64) (x79 ++ ([(x76.getD x81.toNat (Ty.dflt (.int .i64)))])) .dp, ar 0 (.int .i64) x80 .dp], [bx [.v (.int .i64) (0 : Int), .nil, .nil] 28, bx [.v (.int .i64) x75, .hd 2 0 none, .hd 3 0 none] 28, ar 0 (.int .i64) x76 .dp, ar 0 (.int .i64) x77 .dp, bx [.v (.int .i64) x78, .hd 5 0 none, .hd 6 0 none] 28, ar 0 (.int .i64) (x79 ++ ([(x76.getD x81.toNat (Ty.dflt (.int .i64)))])) .dp, ar 0 (.int .i64) x80 .dp, ar 0 (.int .i64) ([(x77.getD x81.toNat (Ty.dflt (.int .i64)))]) .dp], [bx [.v (.int .i64) (0 : Int), .nil, .nil] 28, bx [.v (.int .i64) x75, .hd 2 0 none, .hd 3 0 none] 28, ar 0 (.int .i64) x76 .dp, ar 0 (.int .i64) x77 .dp, bx [.v (.int .i64) x78, .hd 5 0 none, .hd 6 0 none] 28, ar 0 (.int .i64) (x79 ++ ([(x76.getD x81.toNat (Ty.dflt (.int .i64)))])) .dp, ar 1 (.int .i64) (x80 ++ ([(x77.getD x81.toNat (Ty.dflt (.int .i64)))])) .dp, ar 0 (.int .i64) ([(x77.getD x81.toNat (Ty.dflt (.int .i64)))]) .dp], [bx [.v (.int .i64) (0 : Int), .nil, .nil] 28, bx [.v (.int .i64) x75, .hd 2 0 none, .hd 3 0 none] 28, ar 0 (.int .i64) x76 .dp, ar 0 (.int .i64) x77 .dp, bx [.v (.int .i64) x78, .hd 5 0 none, .hd 6 1 none] 28, ar 0 (.int .i64) (x79 ++ ([(x76.getD x81.toNat (Ty.dflt (.int .i64)))])) .dp, ar 1 (.int .i64) (x80 ++ ([(x77.getD x81.toNat (Ty.dflt (.int .i64)))])) .dp, ar 0 (.int .i64) ([(x77.getD x81.toNat (Ty.dflt (.int .i64)))]) .dp]] [(0, 0), (0, 1), (0, 2), (1, 0), (1, 1), (2, 0), (2, 1), (2, 2), (3, 0), (3, 1), (3, 2), (4, 0), (4, 1), (4, 2), (5, 0), (5, 1), (5, 2), (6, 0), (7, 0), (8, 1), (9, 2), (10, 2)] [6, 7, 8, 9] [0, 1, 2, 3, 4, 5, 6] (s' := ⟨[(6, .lf (.ptr 0 0 0 0)), (7, .lf (.ptr 1 0 0 0)), (8, .lf (.ptr 4 0 0 0)), (9, I x81)], [bx [.v (.int .i64) (0 : Int), .nil, .nil] 28, bx [.v (.int .i64) x75, .hd 2 0 none, .hd 3 0 none] 28, ar 0 (.int .i64) x76 .dp, ar 0 (.int .i64) x77 .dp, bx [.v (.int .i64) x78, .hd 5 0 none, .hd 6 0 none] 28, ar 0 (.int .i64) (x79 ++ ([(x76.getD x81.toNat (Ty.dflt (.int .i64)))])) .dp, ar 0 (.int .i64) (x80 ++ ([(x77.getD x81.toNat (Ty.dflt (.int .i64)))])) .dp]⟩) (by kernel_rfl) (by kernel_rfl) ⟨⟨_, rfl, Stp.ev T_ok (m := .dp) (φ := True) (by kernel_rfl) trivial⟩,
    ⟨_, rfl, Stp.ev T_ok (m := .dp) (φ := True) (by kernel_rfl) trivial⟩,
    ⟨_, rfl, Stp.ev T_ok (m := .dp) (φ := True) (by kernel_rfl) trivial⟩,
    ⟨_, rfl, Stp.ev T_ok (m := .dp) (φ := True) (by kernel_rfl) trivial⟩,
    ⟨_, rfl, Stp.ev T_ok (m := .dp) (φ := True) (by kernel_rfl) trivial⟩,
    ⟨_, rfl, Stp.ev T_ok (m := .dp) (φ := True) (by kernel_rfl) trivial⟩,
    ⟨_, rfl, Stp.ev T_ok (m := .dp) (φ := True) (by kernel_rfl) trivial⟩,
    ⟨_, rfl, Stp.ev T_ok (m := .dp) (φ := True) (by kernel_rfl) trivial⟩,
    ⟨_, rfl, Stp.ev T_ok (m := .dp) (φ := True) (by kernel_rfl) trivial⟩,
    ⟨_, rfl, Stp.ev T_ok (m := .dp) (φ := True) (by kernel_rfl) trivial⟩,
    ⟨_, rfl, Stp.ev T_ok (m := .dp) (φ := True) (by kernel_rfl) trivial⟩,
    ⟨_, rfl, Stp.ev T_ok (m := .dp) (φ := True) (by kernel_rfl) trivial⟩,
    ⟨_, rfl, Stp.ev T_ok (m := .dp) (φ := True) (by kernel_rfl) trivial⟩,
    ⟨_, rfl, Stp.ev T_ok (m := .dp) (φ := True) (by kernel_rfl) trivial⟩,
    ⟨_, rfl, Stp.ev T_ok (m := .dp) (φ := InR x81 x77.length) (by kernel_rfl) g104⟩,
    ⟨_, rfl, Stp.ev T_ok (m := .dp) (φ := InR x81 x77.length) (by kernel_rfl) g104⟩,
    ⟨_, rfl, Stp.ev T_ok (m := .dp) (φ := InR x81 x77.length) (by kernel_rfl) g104⟩,
    ⟨_, rfl, Stp.ev T_ok (m := .dp) (φ := x81.toNat < x77.length) (by kernel_rfl) g105⟩,
    ⟨_, rfl, Stp.ev T_ok (m := .dp) (φ := True) (by kernel_rfl) trivial⟩,
    ⟨_, rfl, Stp.ev T_ok (m := .dp) (φ := x80.length + ([(x77.getD x81.toNat (Ty.dflt (.int .i64)))]).length ≤ lim (.int .i64)) (by kernel_rfl) g106⟩,
    ⟨_, rfl, Stp.ev T_ok (m := .dp) (φ := True) (by kernel_rfl) trivial⟩,
    ⟨_, rfl, Stp.ev T_ok (m := .dp) (φ := True) (by kernel_rfl) trivial⟩, trivial⟩ (by kernel_rfl) ?_
        refine rR T_ok [6, 7, 8, 9] [0, 1, 2, 3, 4, 5, 6] ⟨[(6, .lf (.ptr 0 0 0 0)), (7, .lf (.ptr 1 0 0 0)), (8, .lf (.ptr 4 0 0 0)), (9, I (IntKind.i64.wrap (x81 + (1 : Int))))], [bx [.v (.int .i64) (0 : Int), .nil, .nil] 28, bx [.v (.int .i64) x75, .hd 2 0 none, .hd 3 0 none] 28, ar 0 (.int .i64) x76 .dp, ar 0 (.int .i64) x77 .dp, bx [.v (.int .i64) x78, .hd 5 0 none, .hd 6 0 none] 28, ar 0 (.int .i64) (x79 ++ ([(x76.getD x81.toNat (Ty.dflt (.int .i64)))])) .dp, ar 0 (.int .i64) (x80 ++ ([(x77.getD x81.toNat (Ty.dflt (.int .i64)))])) .dp]⟩ (tn 3) ?_
        exact aro [.ren [6, 7, 8, 9] [0, 1, 2, 3, 4, 5, 6]] ⟨x75, x76, x77, x78, (x79 ++ ([(x76.getD x81.toNat (Ty.dflt (.int .i64)))])), (x80 ++ ([(x77.getD x81.toNat (Ty.dflt (.int .i64)))])), (IntKind.i64.wrap (x81 + (1 : Int))), rfl, h⟩
      refine VW.exit ?_
      exact arv [.ren [6, 8] [0, 4, 5, 6]] ⟨x78, x79, x80, rfl, h⟩
  rintro s ⟨x53, x54, x55, rfl, h⟩
  unfold F58_j0 at h
  refine sR T_ok [6] [0, 2, 3] ⟨[(6, .lf (.ptr 0 0 0 0))], [bx [.v (.int .i64) x53, .hd 1 0 none, .hd 2 0 none] 28, ar 0 (.int .i64) x54 .dp, ar 0 (.int .i64) x55 .dp]⟩ (tn 2) ?_
  refine VW.ret ?_
  replace h := Option.some.inj h
  subst h
  exact rt [some 1, some 2]

/- loop.example/g00844/spec.GetKey -/
def F35 (N : Nat) (a0 : (Int × ((List Int) × (List Int)))) (a1 : Int) : Option ((Int × ((List Int) × (List Int))) × Int × Bool) :=
  andO (F55 N a0 a1) fun y1 => andO (F44 N a0) fun y5 => cond (!y5) (andO (F56 N a0) fun y6 => some (y6, (0 : Int), false)) (cond (decide (y1 < (0 : Int))) (andO (F56 N a0) fun y7 => some (y7, (0 : Int), false)) (gd (InR y1 a0.2.2.length) (andO (F58 N a0 a1 (a0.2.2.getD y1.toNat (Ty.dflt (.int .i64)))) fun y9 => gd (InR y1 a0.2.2.length) (some (y9, (a0.2.2.getD y1.toNat (Ty.dflt (.int .i64))), true)))))
theorem ok35 (N : Nat) (a0 : (Int × ((List Int) × (List Int)))) (a1 : Int) {r : (Int × ((List Int) × (List Int))) × Int × Bool} (h : F35 N a0 a1 = some r) : Con Go.Proofs.Tryd.prog 35 [.agg [.v (.int .i64) a0.1, .v (.sl (.int .i64)) a0.2.1, .v (.sl (.int .i64)) a0.2.2], I a1] [.agg [.v (.int .i64) r.1.1, .own (.int .i64) r.1.2.1 .dp, .own (.int .i64) r.1.2.2 .dp], .lf (.v (.int .i64) r.2.1), .lf (.v .bool r.2.2)] := by
  refine ctr [.agg [.v (.int .i64), .own (.int .i64) .dp, .own (.int .i64) .dp], .lf (.v (.int .i64)), .lf (.v .bool)] T_ok Go.Proofs.Tryd.func35 rfl fun w0 E0 ht => ?_
  unfold F35 at h
  show VW _ _ _ _ _ (retQ _ _ _ _) _
  refine sR T_ok [1, 2, 4] [0, 1] ⟨[(1, I a1), (2, .lf (.ptr 0 0 0 0)), (4, .lf (.ptr 1 0 0 0))], [bx [.v (.int .i64) a0.1, .v (.sl (.int .i64)) a0.2.1, .v (.sl (.int .i64)) a0.2.2] 28, bx [.v (.int .i64) (0 : Int), .nil, .nil] 28]⟩ (tn 4) ?_
  refine VW.seq ?_
  refine VW.region ?_
  refine sG T_ok 2 [1, 2, 4, 8, 9] [0, 1] ⟨[(1, I a1), (2, .lf (.ptr 0 0 0 0)), (4, .lf (.ptr 1 0 0 0)), (8, .agg [.v (.int .i64) a0.1, .v (.sl (.int .i64)) a0.2.1, .v (.sl (.int .i64)) a0.2.2]), (9, I a1)], [bx [.v (.int .i64) a0.1, .v (.sl (.int .i64)) a0.2.1, .v (.sl (.int .i64)) a0.2.2] 28, bx [.v (.int .i64) (0 : Int), .nil, .nil] 28]⟩ (tn 2) ?_
  obtain ⟨y1, hy, h⟩ := andO_some h
  refine cal false [.t Y27, .t (.int .i64)] [] (some 10) T_ok (ok55 N _ _ hy) ?_
  refine sN T_ok [1, 2, 4, 7] [0, 1] ⟨[(1, I a1), (2, .lf (.ptr 0 0 0 0)), (4, .lf (.ptr 1 0 0 0)), (7, I y1)], [bx [.v (.int .i64) a0.1, .v (.sl (.int .i64)) a0.2.1, .v (.sl (.int .i64)) a0.2.2] 28, bx [.v (.int .i64) (0 : Int), .nil, .nil] 28]⟩ (tn 1) ?_
  refine VW.seq ?_
  refine VW.seq ?_
  refine VW.region ?_
  refine sG T_ok 1 [1, 2, 4, 7, 11] [0, 1] ⟨[(1, I a1), (2, .lf (.ptr 0 0 0 0)), (4, .lf (.ptr 1 0 0 0)), (7, I y1), (11, .agg [.v (.int .i64) a0.1, .v (.sl (.int .i64)) a0.2.1, .v (.sl (.int .i64)) a0.2.2])], [bx [.v (.int .i64) a0.1, .v (.sl (.int .i64)) a0.2.1, .v (.sl (.int .i64)) a0.2.2] 28, bx [.v (.int .i64) (0 : Int), .nil, .nil] 28]⟩ (tn 1) ?_
  obtain ⟨y5, hy, h⟩ := andO_some h
  refine cal false [.t Y27] [] (some 12) T_ok (ok44 N _ hy) ?_
  refine sG T_ok 2 [1, 2, 4, 7, 14] [0, 1] ⟨[(1, I a1), (2, .lf (.ptr 0 0 0 0)), (4, .lf (.ptr 1 0 0 0)), (7, I y1), (14, B (!y5))], [bx [.v (.int .i64) a0.1, .v (.sl (.int .i64)) a0.2.1, .v (.sl (.int .i64)) a0.2.2] 28, bx [.v (.int .i64) (0 : Int), .nil, .nil] 28]⟩ (tn 2) ?_
  refine spB 14 h (fun h => ?_) (fun h => ?_)
  · refine sN T_ok [1, 2, 4, 7, 17] [0, 1] ⟨[(1, I a1), (2, .lf (.ptr 0 0 0 0)), (4, .lf (.ptr 1 0 0 0)), (7, I y1), (17, B true)], [bx [.v (.int .i64) a0.1, .v (.sl (.int .i64)) a0.2.1, .v (.sl (.int .i64)) a0.2.2] 28, bx [.v (.int .i64) (0 : Int), .nil, .nil] 28]⟩ (tn 3) ?_
    refine VW.cond (b := true) (by kernel_rfl) (fun _ => ?_) (fun h' => nomatch h')
    refine VW.seq ?_
    refine VW.region ?_
    refine sG T_ok 1 [4, 18] [1] ⟨[(4, .lf (.ptr 0 0 0 0)), (18, .agg [.v (.int .i64) a0.1, .v (.sl (.int .i64)) a0.2.1, .v (.sl (.int .i64)) a0.2.2])], [bx [.v (.int .i64) (0 : Int), .nil, .nil] 28]⟩ (tn 1) ?_
    obtain ⟨y6, hy, h⟩ := andO_some h
    refine cal false [.t Y27] [] (some 19) T_ok (ok56 N _ hy) ?_
    refine sN T_ok [4, 5, 6] [0, 1, 2] ⟨[(4, .lf (.ptr 0 0 0 0)), (5, I (0 : Int)), (6, B false)], [bx [.v (.int .i64) y6.1, .hd 1 0 none, .hd 2 0 none] 28, ar 0 (.int .i64) y6.2.1 .dp, ar 0 (.int .i64) y6.2.2 .dp]⟩ (tn 3) ?_
    refine VW.ret ?_
    replace h := Option.some.inj h
    subst h
    exact rt [some 1, some 2]
  refine sN T_ok [1, 2, 4, 7, 17] [0, 1] ⟨[(1, I a1), (2, .lf (.ptr 0 0 0 0)), (4, .lf (.ptr 1 0 0 0)), (7, I y1), (17, B (decide (y1 < (0 : Int))))], [bx [.v (.int .i64) a0.1, .v (.sl (.int .i64)) a0.2.1, .v (.sl (.int .i64)) a0.2.2] 28, bx [.v (.int .i64) (0 : Int), .nil, .nil] 28]⟩ (tn 3) ?_
  refine cnd h (fun h => ?_) (fun h => ?_)
  · refine VW.seq ?_
    refine VW.region ?_
    refine sG T_ok 1 [4, 18] [1] ⟨[(4, .lf (.ptr 0 0 0 0)), (18, .agg [.v (.int .i64) a0.1, .v (.sl (.int .i64)) a0.2.1, .v (.sl (.int .i64)) a0.2.2])], [bx [.v (.int .i64) (0 : Int), .nil, .nil] 28]⟩ (tn 1) ?_
    obtain ⟨y7, hy, h⟩ := andO_some h
    refine cal false [.t Y27] [] (some 19) T_ok (ok56 N _ hy) ?_
    refine sN T_ok [4, 5, 6] [0, 1, 2] ⟨[(4, .lf (.ptr 0 0 0 0)), (5, I (0 : Int)), (6, B false)], [bx [.v (.int .i64) y7.1, .hd 1 0 none, .hd 2 0 none] 28, ar 0 (.int .i64) y7.2.1 .dp, ar 0 (.int .i64) y7.2.2 .dp]⟩ (tn 3) ?_
    refine VW.ret ?_
    replace h := Option.some.inj h
    subst h
    exact rt [some 1, some 2]
  refine VW.skip ?_
  refine VW.seq ?_
  obtain ⟨g8, h⟩ := gd_some h
  obtain ⟨y9, hy9, h⟩ := andO_some h
  obtain ⟨g10, h⟩ := gd_some h
  refine VW.drawn (by kernel_rfl) [some (20, .agg [.v (.int .i64) a0.1, .v (.sl (.int .i64)) a0.2.1, .v (.sl (.int .i64)) a0.2.2]), some (21, I a1), some (22, .lf (.ptr 0 0 0 2)), some (23, .lf (.v (.sl (.int .i64)) a0.2.2)), some (24, I y1), some (25, .lf (.fp (.int .i64) (a0.2.2.getD y1.toNat (Ty.dflt (.int .i64))) 0)), some (26, I (a0.2.2.getD y1.toNat (Ty.dflt (.int .i64)))), some (27, .agg [.v (.int .i64) y9.1, .hd 2 0 none, .hd 3 0 none]), some (28, .lf (.ptr 0 0 0 2)), some (29, .lf (.v (.sl (.int .i64)) a0.2.2)), some (30, I y1), some (31, .lf (.fp (.int .i64) (a0.2.2.getD y1.toNat (Ty.dflt (.int .i64))) 0)), some (32, I (a0.2.2.getD y1.toNat (Ty.dflt (.int .i64)))), none, some (5, I (a0.2.2.getD y1.toNat (Ty.dflt (.int .i64)))), some (6, B true)] [7, 13] [[bx [.v (.int .i64) a0.1, .v (.sl (.int .i64)) a0.2.1, .v (.sl (.int .i64)) a0.2.2] 28, bx [.v (.int .i64) (0 : Int), .nil, .nil] 28], [bx [.v (.int .i64) a0.1, .v (.sl (.int .i64)) a0.2.1, .v (.sl (.int .i64)) a0.2.2] 28, bx [.v (.int .i64) (0 : Int), .nil, .nil] 28, ar 0 (.int .i64) y9.2.1 .dp, ar 0 (.int .i64) y9.2.2 .dp], [bx [.v (.int .i64) a0.1, .v (.sl (.int .i64)) a0.2.1, .v (.sl (.int .i64)) a0.2.2] 28, bx [.v (.int .i64) y9.1, .hd 2 0 none, .hd 3 0 none] 28, ar 0 (.int .i64) y9.2.1 .dp, ar 0 (.int .i64) y9.2.2 .dp]] [(0, 0), (1, 0), (2, 0), (2, 1), (3, 0), (3, 1), (4, 0), (4, 1), (5, 0), (5, 1), (6, 0), (7, 0), (8, 0), (8, 1), (8, 2), (9, 0), (9, 1), (9, 2), (10, 0), (10, 1), (10, 2), (11, 0), (11, 1), (11, 2), (12, 0), (12, 1), (12, 2), (13, 1), (14, 2), (15, 2)] [4, 5, 6] [1, 2, 3] (s' := ⟨[(4, .lf (.ptr 0 0 0 0)), (5, I (a0.2.2.getD y1.toNat (Ty.dflt (.int .i64)))), (6, B true)], [bx [.v (.int .i64) y9.1, .hd 1 0 none, .hd 2 0 none] 28, ar 0 (.int .i64) y9.2.1 .dp, ar 0 (.int .i64) y9.2.2 .dp]⟩) (by kernel_rfl) (by kernel_rfl) ⟨⟨_, rfl, Stp.ev T_ok (m := .dp) (φ := True) (by kernel_rfl) trivial⟩,
    ⟨_, rfl, Stp.ev T_ok (m := .dp) (φ := True) (by kernel_rfl) trivial⟩,
    ⟨_, rfl, Stp.ev T_ok (m := .dp) (φ := True) (by kernel_rfl) trivial⟩,
    ⟨_, rfl, Stp.ev T_ok (m := .dp) (φ := True) (by kernel_rfl) trivial⟩,
    ⟨_, rfl, Stp.ev T_ok (m := .dp) (φ := True) (by kernel_rfl) trivial⟩,
    ⟨_, rfl, Stp.ev T_ok (m := .dp) (φ := True) (by kernel_rfl) trivial⟩,
    ⟨_, rfl, Stp.ev T_ok (m := .dp) (φ := True) (by kernel_rfl) trivial⟩,
    ⟨_, rfl, Stp.ev T_ok (m := .dp) (φ := True) (by kernel_rfl) trivial⟩,
    ⟨_, rfl, Stp.ev T_ok (m := .dp) (φ := InR y1 a0.2.2.length) (by kernel_rfl) g8⟩,
    ⟨_, rfl, Stp.ev T_ok (m := .dp) (φ := InR y1 a0.2.2.length) (by kernel_rfl) g8⟩,
    ⟨_, rfl, Stp.ev T_ok (m := .dp) (φ := True) (by kernel_rfl) trivial⟩,
    ⟨_, rfl, Stp.eq (Stp.call false [.t Y27, .t (.int .i64), .t (.int .i64)] [] T_ok (d := some 27) (by kernel_rfl) (ok58 N _ _ _ hy9) rfl) (by kernel_rfl) (by kernel_rfl)⟩,
    ⟨_, rfl, Stp.ev T_ok (m := .dp) (φ := True) (by kernel_rfl) trivial⟩,
    ⟨_, rfl, Stp.ev T_ok (m := .dp) (φ := True) (by kernel_rfl) trivial⟩,
    ⟨_, rfl, Stp.ev T_ok (m := .dp) (φ := True) (by kernel_rfl) trivial⟩,
    ⟨_, rfl, Stp.ev T_ok (m := .dp) (φ := True) (by kernel_rfl) trivial⟩,
    ⟨_, rfl, Stp.ev T_ok (m := .dp) (φ := True) (by kernel_rfl) trivial⟩,
    ⟨_, rfl, Stp.ev T_ok (m := .dp) (φ := True) (by kernel_rfl) trivial⟩,
    ⟨_, rfl, Stp.ev T_ok (m := .dp) (φ := True) (by kernel_rfl) trivial⟩,
    ⟨_, rfl, Stp.ev T_ok (m := .dp) (φ := True) (by kernel_rfl) trivial⟩,
    ⟨_, rfl, Stp.ev T_ok (m := .dp) (φ := True) (by kernel_rfl) trivial⟩,
    ⟨_, rfl, Stp.ev T_ok (m := .dp) (φ := InR y1 a0.2.2.length) (by kernel_rfl) g10⟩,
    ⟨_, rfl, Stp.ev T_ok (m := .dp) (φ := InR y1 a0.2.2.length) (by kernel_rfl) g10⟩,
    ⟨_, rfl, Stp.ev T_ok (m := .dp) (φ := InR y1 a0.2.2.length) (by kernel_rfl) g10⟩,
    ⟨_, rfl, Stp.ev T_ok (m := .dp) (φ := True) (by kernel_rfl) trivial⟩,
    ⟨_, rfl, Stp.ev T_ok (m := .dp) (φ := True) (by kernel_rfl) trivial⟩,
    ⟨_, rfl, Stp.ev T_ok (m := .dp) (φ := True) (by kernel_rfl) trivial⟩,
    ⟨_, rfl, Stp.ev T_ok (m := .dp) (φ := True) (by kernel_rfl) trivial⟩,
    ⟨_, rfl, Stp.ev T_ok (m := .dp) (φ := True) (by kernel_rfl) trivial⟩,
    ⟨_, rfl, Stp.ev T_ok (m := .dp) (φ := True) (by kernel_rfl) trivial⟩, trivial⟩ (by kernel_rfl) ?_
  refine VW.ret ?_
  replace h := Option.some.inj h
  subst h
  exact rt [some 1, some 2]

/- loop.example/g00844/spec.PutKey -/
def F36 (N : Nat) (a0 : (Int × ((List Int) × (List Int)))) (a1 : Int) (a2 : Int) : Option ((Int × ((List Int) × (List Int))) × Int × Bool) :=
  andO (F44 N a0) fun y7 => cond (!y7) (andO (F56 N a0) fun y8 => some (y8, (1000001 : Int), false)) (andO (F59 N a1) fun y9 => cond (!y9) (andO (F56 N a0) fun y10 => some (y10, (1000001 : Int), false)) (andO (F59 N a2) fun y11 => cond (!y11) (andO (F56 N a0) fun y12 => some (y12, (1000001 : Int), false)) (andO (F58 N a0 a1 a2) fun y13 => cond (decide ((y13.2.1.length : Int) ≤ a0.1)) (some (y13, (1000001 : Int), true)) (andO (F57 N y13 (IntKind.i64.wrap ((y13.2.1.length : Int) - (1 : Int)))) fun y14 => gd (InR (IntKind.i64.wrap ((y13.2.1.length : Int) - (1 : Int))) y13.2.1.length) (gd ((IntKind.i64.wrap ((y13.2.1.length : Int) - (1 : Int))).toNat < y13.2.1.length) (some (y14, (y13.2.1.getD ((IntKind.i64.wrap ((y13.2.1.length : Int) - (1 : Int))).toNat) (Ty.dflt (.int .i64))), true)))))))
theorem ok36 (N : Nat) (a0 : (Int × ((List Int) × (List Int)))) (a1 : Int) (a2 : Int) {r : (Int × ((List Int) × (List Int))) × Int × Bool} (h : F36 N a0 a1 a2 = some r) : Con Go.Proofs.Tryd.prog 36 [.agg [.v (.int .i64) a0.1, .v (.sl (.int .i64)) a0.2.1, .v (.sl (.int .i64)) a0.2.2], I a1, I a2] [.agg [.v (.int .i64) r.1.1, .own (.int .i64) r.1.2.1 .dp, .own (.int .i64) r.1.2.2 .dp], .lf (.v (.int .i64) r.2.1), .lf (.v .bool r.2.2)] := by
  refine ctr [.agg [.v (.int .i64), .own (.int .i64) .dp, .own (.int .i64) .dp], .lf (.v (.int .i64)), .lf (.v .bool)] T_ok Go.Proofs.Tryd.func36 rfl fun w0 E0 ht => ?_
  unfold F36 at h
  show VW _ _ _ _ _ (retQ _ _ _ _) _
  refine sR T_ok [1, 2, 3, 6] [0, 1] ⟨[(1, I a1), (2, I a2), (3, .lf (.ptr 0 0 0 0)), (6, .lf (.ptr 1 0 0 0))], [bx [.v (.int .i64) a0.1, .v (.sl (.int .i64)) a0.2.1, .v (.sl (.int .i64)) a0.2.2] 28, bx [.v (.int .i64) (0 : Int), .nil, .nil] 28]⟩ (tn 4) ?_
  refine VW.seq ?_
  refine VW.seq ?_
  refine VW.region ?_
  refine sG T_ok 1 [1, 2, 3, 6, 11] [0, 1] ⟨[(1, I a1), (2, I a2), (3, .lf (.ptr 0 0 0 0)), (6, .lf (.ptr 1 0 0 0)), (11, .agg [.v (.int .i64) a0.1, .v (.sl (.int .i64)) a0.2.1, .v (.sl (.int .i64)) a0.2.2])], [bx [.v (.int .i64) a0.1, .v (.sl (.int .i64)) a0.2.1, .v (.sl (.int .i64)) a0.2.2] 28, bx [.v (.int .i64) (0 : Int), .nil, .nil] 28]⟩ (tn 1) ?_
  obtain ⟨y7, hy, h⟩ := andO_some h
  refine cal false [.t Y27] [] (some 12) T_ok (ok44 N _ hy) ?_
  refine sG T_ok 2 [1, 2, 3, 6, 14] [0, 1] ⟨[(1, I a1), (2, I a2), (3, .lf (.ptr 0 0 0 0)), (6, .lf (.ptr 1 0 0 0)), (14, B (!y7))], [bx [.v (.int .i64) a0.1, .v (.sl (.int .i64)) a0.2.1, .v (.sl (.int .i64)) a0.2.2] 28, bx [.v (.int .i64) (0 : Int), .nil, .nil] 28]⟩ (tn 2) ?_
  refine spB 14 h (fun h => ?_) (fun h => ?_)
  · refine sN T_ok [1, 2, 3, 6, 23] [0, 1] ⟨[(1, I a1), (2, I a2), (3, .lf (.ptr 0 0 0 0)), (6, .lf (.ptr 1 0 0 0)), (23, B true)], [bx [.v (.int .i64) a0.1, .v (.sl (.int .i64)) a0.2.1, .v (.sl (.int .i64)) a0.2.2] 28, bx [.v (.int .i64) (0 : Int), .nil, .nil] 28]⟩ (tn 9) ?_
    refine VW.cond (b := true) (by kernel_rfl) (fun _ => ?_) (fun h' => nomatch h')
    refine VW.seq ?_
    refine VW.region ?_
    refine sG T_ok 1 [6, 24] [1] ⟨[(6, .lf (.ptr 0 0 0 0)), (24, .agg [.v (.int .i64) a0.1, .v (.sl (.int .i64)) a0.2.1, .v (.sl (.int .i64)) a0.2.2])], [bx [.v (.int .i64) (0 : Int), .nil, .nil] 28]⟩ (tn 1) ?_
    obtain ⟨y8, hy, h⟩ := andO_some h
    refine cal false [.t Y27] [] (some 25) T_ok (ok56 N _ hy) ?_
    refine sN T_ok [6, 7, 8] [0, 1, 2] ⟨[(6, .lf (.ptr 0 0 0 0)), (7, I (1000001 : Int)), (8, B false)], [bx [.v (.int .i64) y8.1, .hd 1 0 none, .hd 2 0 none] 28, ar 0 (.int .i64) y8.2.1 .dp, ar 0 (.int .i64) y8.2.2 .dp]⟩ (tn 3) ?_
    refine VW.ret ?_
    replace h := Option.some.inj h
    subst h
    exact rt [some 1, some 2]
  refine sG T_ok 1 [1, 2, 3, 6, 14, 15] [0, 1] ⟨[(1, I a1), (2, I a2), (3, .lf (.ptr 0 0 0 0)), (6, .lf (.ptr 1 0 0 0)), (14, B false), (15, I a1)], [bx [.v (.int .i64) a0.1, .v (.sl (.int .i64)) a0.2.1, .v (.sl (.int .i64)) a0.2.2] 28, bx [.v (.int .i64) (0 : Int), .nil, .nil] 28]⟩ (tn 1) ?_
  refine VO.on (j := 3) (want := false) (d := 14) (b := false) rfl rfl rfl (by kernel_rfl) rfl ?_
  obtain ⟨y9, hy, h⟩ := andO_some h
  refine cal false [.t (.int .i64)] [] (some 16) T_ok (ok59 N _ hy) ?_
  refine sG T_ok 3 [1, 2, 3, 6, 19] [0, 1] ⟨[(1, I a1), (2, I a2), (3, .lf (.ptr 0 0 0 0)), (6, .lf (.ptr 1 0 0 0)), (19, B (!y9))], [bx [.v (.int .i64) a0.1, .v (.sl (.int .i64)) a0.2.1, .v (.sl (.int .i64)) a0.2.2] 28, bx [.v (.int .i64) (0 : Int), .nil, .nil] 28]⟩ (tn 3) ?_
  refine spB 19 h (fun h => ?_) (fun h => ?_)
  · refine sN T_ok [1, 2, 3, 6, 23] [0, 1] ⟨[(1, I a1), (2, I a2), (3, .lf (.ptr 0 0 0 0)), (6, .lf (.ptr 1 0 0 0)), (23, B true)], [bx [.v (.int .i64) a0.1, .v (.sl (.int .i64)) a0.2.1, .v (.sl (.int .i64)) a0.2.2] 28, bx [.v (.int .i64) (0 : Int), .nil, .nil] 28]⟩ (tn 4) ?_
    refine VW.cond (b := true) (by kernel_rfl) (fun _ => ?_) (fun h' => nomatch h')
    refine VW.seq ?_
    refine VW.region ?_
    refine sG T_ok 1 [6, 24] [1] ⟨[(6, .lf (.ptr 0 0 0 0)), (24, .agg [.v (.int .i64) a0.1, .v (.sl (.int .i64)) a0.2.1, .v (.sl (.int .i64)) a0.2.2])], [bx [.v (.int .i64) (0 : Int), .nil, .nil] 28]⟩ (tn 1) ?_
    obtain ⟨y10, hy, h⟩ := andO_some h
    refine cal false [.t Y27] [] (some 25) T_ok (ok56 N _ hy) ?_
    refine sN T_ok [6, 7, 8] [0, 1, 2] ⟨[(6, .lf (.ptr 0 0 0 0)), (7, I (1000001 : Int)), (8, B false)], [bx [.v (.int .i64) y10.1, .hd 1 0 none, .hd 2 0 none] 28, ar 0 (.int .i64) y10.2.1 .dp, ar 0 (.int .i64) y10.2.2 .dp]⟩ (tn 3) ?_
    refine VW.ret ?_
    replace h := Option.some.inj h
    subst h
    exact rt [some 1, some 2]
  refine sG T_ok 1 [1, 2, 3, 6, 19, 20] [0, 1] ⟨[(1, I a1), (2, I a2), (3, .lf (.ptr 0 0 0 0)), (6, .lf (.ptr 1 0 0 0)), (19, B false), (20, I a2)], [bx [.v (.int .i64) a0.1, .v (.sl (.int .i64)) a0.2.1, .v (.sl (.int .i64)) a0.2.2] 28, bx [.v (.int .i64) (0 : Int), .nil, .nil] 28]⟩ (tn 1) ?_
  refine VO.on (j := 8) (want := false) (d := 19) (b := false) rfl rfl rfl (by kernel_rfl) rfl ?_
  obtain ⟨y11, hy, h⟩ := andO_some h
  refine cal false [.t (.int .i64)] [] (some 21) T_ok (ok59 N _ hy) ?_
  refine sN T_ok [1, 2, 3, 6, 23] [0, 1] ⟨[(1, I a1), (2, I a2), (3, .lf (.ptr 0 0 0 0)), (6, .lf (.ptr 1 0 0 0)), (23, B (!y11))], [bx [.v (.int .i64) a0.1, .v (.sl (.int .i64)) a0.2.1, .v (.sl (.int .i64)) a0.2.2] 28, bx [.v (.int .i64) (0 : Int), .nil, .nil] 28]⟩ (tn 2) ?_
  refine cnd h (fun h => ?_) (fun h => ?_)
  · refine VW.seq ?_
    refine VW.region ?_
    refine sG T_ok 1 [6, 24] [1] ⟨[(6, .lf (.ptr 0 0 0 0)), (24, .agg [.v (.int .i64) a0.1, .v (.sl (.int .i64)) a0.2.1, .v (.sl (.int .i64)) a0.2.2])], [bx [.v (.int .i64) (0 : Int), .nil, .nil] 28]⟩ (tn 1) ?_
    obtain ⟨y12, hy, h⟩ := andO_some h
    refine cal false [.t Y27] [] (some 25) T_ok (ok56 N _ hy) ?_
    refine sN T_ok [6, 7, 8] [0, 1, 2] ⟨[(6, .lf (.ptr 0 0 0 0)), (7, I (1000001 : Int)), (8, B false)], [bx [.v (.int .i64) y12.1, .hd 1 0 none, .hd 2 0 none] 28, ar 0 (.int .i64) y12.2.1 .dp, ar 0 (.int .i64) y12.2.2 .dp]⟩ (tn 3) ?_
    refine VW.ret ?_
    replace h := Option.some.inj h
    subst h
    exact rt [some 1, some 2]
  refine VW.skip ?_
  refine VW.seq ?_
  refine VW.region ?_
  refine sG T_ok 3 [3, 6, 26, 27, 28] [0, 1] ⟨[(3, .lf (.ptr 0 0 0 0)), (6, .lf (.ptr 1 0 0 0)), (26, .agg [.v (.int .i64) a0.1, .v (.sl (.int .i64)) a0.2.1, .v (.sl (.int .i64)) a0.2.2]), (27, I a1), (28, I a2)], [bx [.v (.int .i64) a0.1, .v (.sl (.int .i64)) a0.2.1, .v (.sl (.int .i64)) a0.2.2] 28, bx [.v (.int .i64) (0 : Int), .nil, .nil] 28]⟩ (tn 3) ?_
  obtain ⟨y13, hy, h⟩ := andO_some h
  refine cal false [.t Y27, .t (.int .i64), .t (.int .i64)] [] (some 29) T_ok (ok58 N _ _ _ hy) ?_
  refine sN T_ok [3, 6, 9] [0, 1, 4, 2, 3] ⟨[(3, .lf (.ptr 0 0 0 0)), (6, .lf (.ptr 1 0 0 0)), (9, .lf (.ptr 2 0 0 0))], [bx [.v (.int .i64) a0.1, .v (.sl (.int .i64)) a0.2.1, .v (.sl (.int .i64)) a0.2.2] 28, bx [.v (.int .i64) (0 : Int), .nil, .nil] 28, bx [.v (.int .i64) y13.1, .hd 3 0 none, .hd 4 0 none] 28, ar 0 (.int .i64) y13.2.1 .dp, ar 0 (.int .i64) y13.2.2 .dp]⟩ (tn 2) ?_
  refine sR T_ok [3, 6, 9, 10] [0, 1, 2, 3, 4] ⟨[(3, .lf (.ptr 0 0 0 0)), (6, .lf (.ptr 1 0 0 0)), (9, .lf (.ptr 2 0 0 0)), (10, I (y13.2.1.length : Int))], [bx [.v (.int .i64) a0.1, .v (.sl (.int .i64)) a0.2.1, .v (.sl (.int .i64)) a0.2.2] 28, bx [.v (.int .i64) (0 : Int), .nil, .nil] 28, bx [.v (.int .i64) y13.1, .hd 3 0 none, .hd 4 0 none] 28, ar 0 (.int .i64) y13.2.1 .dp, ar 0 (.int .i64) y13.2.2 .dp]⟩ (tn 4) ?_
  refine VW.seq ?_
  refine sR T_ok [6, 9, 10, 36] [1, 2, 3, 4] ⟨[(6, .lf (.ptr 0 0 0 0)), (9, .lf (.ptr 1 0 0 0)), (10, I (y13.2.1.length : Int)), (36, B (decide ((y13.2.1.length : Int) ≤ a0.1)))], [bx [.v (.int .i64) (0 : Int), .nil, .nil] 28, bx [.v (.int .i64) y13.1, .hd 2 0 none, .hd 3 0 none] 28, ar 0 (.int .i64) y13.2.1 .dp, ar 0 (.int .i64) y13.2.2 .dp]⟩ (tn 4) ?_
  refine cnd h (fun h => ?_) (fun h => ?_)
  · refine sR T_ok [6, 7, 8] [0, 2, 3] ⟨[(6, .lf (.ptr 0 0 0 0)), (7, I (1000001 : Int)), (8, B true)], [bx [.v (.int .i64) y13.1, .hd 1 0 none, .hd 2 0 none] 28, ar 0 (.int .i64) y13.2.1 .dp, ar 0 (.int .i64) y13.2.2 .dp]⟩ (tn 4) ?_
    refine VW.ret ?_
    replace h := Option.some.inj h
    subst h
    exact rt [some 1, some 2]
  refine VW.skip ?_
  refine VW.seq ?_
  obtain ⟨y14, hy14, h⟩ := andO_some h
  obtain ⟨g15, h⟩ := gd_some h
  obtain ⟨g16, h⟩ := gd_some h
  refine VW.drawn (by kernel_rfl) [some (38, .agg [.v (.int .i64) y13.1, .hd 2 0 none, .hd 3 0 none]), some (39, I (y13.2.1.length : Int)), some (40, I (IntKind.i64.wrap ((y13.2.1.length : Int) - (1 : Int)))), some (41, .agg [.v (.int .i64) y14.1, .hd 4 0 none, .hd 5 0 none]), some (42, .lf (.ptr 1 0 0 1)), some (43, .lf (.hd 2 0 none)), some (44, I (y13.2.1.length : Int)), some (45, I (IntKind.i64.wrap ((y13.2.1.length : Int) - (1 : Int)))), some (46, .lf (.ptr 2 0 ((IntKind.i64.wrap ((y13.2.1.length : Int) - (1 : Int))).toNat) 0)), some (47, I (y13.2.1.getD ((IntKind.i64.wrap ((y13.2.1.length : Int) - (1 : Int))).toNat) (Ty.dflt (.int .i64)))), none, some (7, I (y13.2.1.getD ((IntKind.i64.wrap ((y13.2.1.length : Int) - (1 : Int))).toNat) (Ty.dflt (.int .i64)))), some (8, B true)] [3, 10] [[bx [.v (.int .i64) (0 : Int), .nil, .nil] 28, bx [.v (.int .i64) y13.1, .hd 2 0 none, .hd 3 0 none] 28, ar 0 (.int .i64) y13.2.1 .dp, ar 0 (.int .i64) y13.2.2 .dp], [bx [.v (.int .i64) (0 : Int), .nil, .nil] 28, bx [.v (.int .i64) y13.1, .hd 2 0 none, .hd 3 0 none] 28, ar 0 (.int .i64) y13.2.1 .dp, ar 0 (.int .i64) y13.2.2 .dp, ar 0 (.int .i64) y14.2.1 .dp, ar 0 (.int .i64) y14.2.2 .dp], [bx [.v (.int .i64) y14.1, .hd 4 0 none, .hd 5 0 none] 28, bx [.v (.int .i64) y13.1, .hd 2 0 none, .hd 3 0 none] 28, ar 0 (.int .i64) y13.2.1 .dp, ar 0 (.int .i64) y13.2.2 .dp, ar 0 (.int .i64) y14.2.1 .dp, ar 0 (.int .i64) y14.2.2 .dp]] [(0, 0), (1, 0), (1, 1), (2, 0), (3, 0), (4, 0), (4, 1), (4, 2), (5, 0), (5, 1), (5, 2), (6, 0), (6, 1), (6, 2), (7, 0), (7, 1), (7, 2), (8, 0), (8, 1), (8, 2), (9, 0), (9, 1), (9, 2), (10, 1), (11, 2), (12, 2)] [6, 7, 8] [0, 4, 5] (s' := ⟨[(6, .lf (.ptr 0 0 0 0)), (7, I (y13.2.1.getD ((IntKind.i64.wrap ((y13.2.1.length : Int) - (1 : Int))).toNat) (Ty.dflt (.int .i64)))), (8, B true)], [bx [.v (.int .i64) y14.1, .hd 1 0 none, .hd 2 0 none] 28, ar 0 (.int .i64) y14.2.1 .dp, ar 0 (.int .i64) y14.2.2 .dp]⟩) (by kernel_rfl) (by kernel_rfl) ⟨⟨_, rfl, Stp.ev T_ok (m := .dp) (φ := True) (by kernel_rfl) trivial⟩,
    ⟨_, rfl, Stp.ev T_ok (m := .dp) (φ := True) (by kernel_rfl) trivial⟩,
    ⟨_, rfl, Stp.ev T_ok (m := .dp) (φ := True) (by kernel_rfl) trivial⟩,
    ⟨_, rfl, Stp.ev T_ok (m := .dp) (φ := True) (by kernel_rfl) trivial⟩,
    ⟨_, rfl, Stp.eq (Stp.call true [.t Y27, .t (.int .i64)] [] T_ok (d := some 41) (by kernel_rfl) (ok57 N _ _ hy14) rfl) (by kernel_rfl) (by kernel_rfl)⟩,
    ⟨_, rfl, Stp.ev T_ok (m := .dp) (φ := True) (by kernel_rfl) trivial⟩,
    ⟨_, rfl, Stp.ev T_ok (m := .dp) (φ := True) (by kernel_rfl) trivial⟩,
    ⟨_, rfl, Stp.ev T_ok (m := .dp) (φ := True) (by kernel_rfl) trivial⟩,
    ⟨_, rfl, Stp.ev T_ok (m := .dp) (φ := True) (by kernel_rfl) trivial⟩,
    ⟨_, rfl, Stp.ev T_ok (m := .dp) (φ := True) (by kernel_rfl) trivial⟩,
    ⟨_, rfl, Stp.ev T_ok (m := .dp) (φ := True) (by kernel_rfl) trivial⟩,
    ⟨_, rfl, Stp.ev T_ok (m := .dp) (φ := True) (by kernel_rfl) trivial⟩,
    ⟨_, rfl, Stp.ev T_ok (m := .dp) (φ := True) (by kernel_rfl) trivial⟩,
    ⟨_, rfl, Stp.ev T_ok (m := .dp) (φ := True) (by kernel_rfl) trivial⟩,
    ⟨_, rfl, Stp.ev T_ok (m := .dp) (φ := True) (by kernel_rfl) trivial⟩,
    ⟨_, rfl, Stp.ev T_ok (m := .dp) (φ := True) (by kernel_rfl) trivial⟩,
    ⟨_, rfl, Stp.ev T_ok (m := .dp) (φ := True) (by kernel_rfl) trivial⟩,
    ⟨_, rfl, Stp.ev T_ok (m := .dp) (φ := InR (IntKind.i64.wrap ((y13.2.1.length : Int) - (1 : Int))) y13.2.1.length) (by kernel_rfl) g15⟩,
    ⟨_, rfl, Stp.ev T_ok (m := .dp) (φ := InR (IntKind.i64.wrap ((y13.2.1.length : Int) - (1 : Int))) y13.2.1.length) (by kernel_rfl) g15⟩,
    ⟨_, rfl, Stp.ev T_ok (m := .dp) (φ := InR (IntKind.i64.wrap ((y13.2.1.length : Int) - (1 : Int))) y13.2.1.length) (by kernel_rfl) g15⟩,
    ⟨_, rfl, Stp.ev T_ok (m := .dp) (φ := (IntKind.i64.wrap ((y13.2.1.length : Int) - (1 : Int))).toNat < y13.2.1.length) (by kernel_rfl) g16⟩,
    ⟨_, rfl, Stp.ev T_ok (m := .dp) (φ := (IntKind.i64.wrap ((y13.2.1.length : Int) - (1 : Int))).toNat < y13.2.1.length) (by kernel_rfl) g16⟩,
    ⟨_, rfl, Stp.ev T_ok (m := .dp) (φ := (IntKind.i64.wrap ((y13.2.1.length : Int) - (1 : Int))).toNat < y13.2.1.length) (by kernel_rfl) g16⟩,
    ⟨_, rfl, Stp.ev T_ok (m := .dp) (φ := True) (by kernel_rfl) trivial⟩,
    ⟨_, rfl, Stp.ev T_ok (m := .dp) (φ := True) (by kernel_rfl) trivial⟩,
    ⟨_, rfl, Stp.ev T_ok (m := .dp) (φ := True) (by kernel_rfl) trivial⟩, trivial⟩ (by kernel_rfl) ?_
  refine VW.ret ?_
  replace h := Option.some.inj h
  subst h
  exact rt [some 1, some 2]

/- loop.example/g00844/spec.PlayCache -/
def F9_j0 (N : Nat) (x89 : Int) (x90 : (List Int)) (x91 : (List Int)) (x92 : (List Int)) : Option ((Int × ((List Int) × (List Int))) × (List Int)) :=
  some ((x89, (x90, x91)), x92)
def F9_j1 (N : Nat) (nx154 : Int → (List Int) → (List Int) → (List Int) → Int → Option ((Int × ((List Int) × (List Int))) × (List Int))) (x126 : (List Int)) (x127 : Int) (x172 : Int) (x173 : (List Int)) (x174 : (List Int)) (x175 : Int) : Option ((Int × ((List Int) × (List Int))) × (List Int)) :=
  gd (x126.length + ([x175]).length ≤ lim (.int .i64)) (nx154 x172 x173 x174 (x126 ++ ([x175])) (IntKind.i64.wrap (x127 + (1 : Int))))
def F9_l0_b (N : Nat) (a1 : (List Int)) (nx154 : Int → (List Int) → (List Int) → (List Int) → Int → Option ((Int × ((List Int) × (List Int))) × (List Int))) (x123 : Int) (x124 : (List Int)) (x125 : (List Int)) (x126 : (List Int)) (x127 : Int) : Option ((Int × ((List Int) × (List Int))) × (List Int)) :=
  cond (decide (x127 < (a1.length : Int))) (gd (InR x127 a1.length) (cond (decide ((a1.getD x127.toNat (Ty.dflt (.int .i64))) < (0 : Int))) (andO (F34 N (x123, (x124, x125)) (IntKind.i64.wrap ((IntKind.i64.wrap ((0 : Int) - (a1.getD x127.toNat (Ty.dflt (.int .i64))))) - (1 : Int)))) fun y178 => cond y178.2 (F9_j1 N nx154 x126 x127 y178.1.1 y178.1.2.1 y178.1.2.2 (1 : Int)) (F9_j1 N nx154 x126 x127 y178.1.1 y178.1.2.1 y178.1.2.2 (0 : Int))) (cond ((Int.tmod (a1.getD x127.toNat (Ty.dflt (.int .i64))) (2 : Int)) == (0 : Int)) (andO (F35 N (x123, (x124, x125)) (IntKind.i64.wrap (Int.tdiv (a1.getD x127.toNat (Ty.dflt (.int .i64))) (2 : Int)))) fun y179 => cond y179.2.2 (F9_j1 N nx154 x126 x127 y179.1.1 y179.1.2.1 y179.1.2.2 y179.2.1) (F9_j1 N nx154 x126 x127 y179.1.1 y179.1.2.1 y179.1.2.2 (-1 : Int))) (andO (F36 N (x123, (x124, x125)) (IntKind.i64.wrap (Int.tdiv (a1.getD x127.toNat (Ty.dflt (.int .i64))) (2 : Int))) (a1.getD x127.toNat (Ty.dflt (.int .i64)))) fun y180 => cond (decide (y180.2.1 ≤ (1000000 : Int))) (F9_j1 N nx154 x126 x127 y180.1.1 y180.1.2.1 y180.1.2.2 y180.2.1) (F9_j1 N nx154 x126 x127 y180.1.1 y180.1.2.1 y180.1.2.2 (-1 : Int)))))) (F9_j0 N x123 x124 x125 x126)
def F9_l0 (N : Nat) (a1 : (List Int)) : Nat → Int → (List Int) → (List Int) → (List Int) → Int → Option ((Int × ((List Int) × (List Int))) × (List Int)) := loopF (F9_l0_b N a1) (fun _ _ _ _ _ => none)
theorem F9_l0_s (N : Nat) (a1 : (List Int)) {k : Nat} (hk : 0 < k) (x123 : Int) (x124 : (List Int)) (x125 : (List Int)) (x126 : (List Int)) (x127 : Int) : F9_l0 N a1 k x123 x124 x125 x126 x127 = F9_l0_b N a1 (F9_l0 N a1 (k - 1)) x123 x124 x125 x126 x127 := by
  cases k with
  | zero => exact absurd hk (Nat.lt_irrefl 0)
  | succ m => rfl
def F9 (N : Nat) (a0 : Int) (a1 : (List Int)) : Option ((Int × ((List Int) × (List Int))) × (List Int)) :=
  andO (F33 N a0) fun y1 => cond (!y1.2) (some (((0 : Int), ([], [])), [])) (cond (decide ((a1.length : Int) > (300 : Int))) (some (((0 : Int), ([], [])), [])) (F9_l0 N a1 N y1.1.1 y1.1.2.1 y1.1.2.2 ([]) (0 : Int)))
theorem ok9 (N : Nat) (a0 : Int) (a1 : (List Int)) {r : (Int × ((List Int) × (List Int))) × (List Int)} (h : F9 N a0 a1 = some r) : Con Go.Proofs.Tryd.prog 9 [I a0, .lf (.v (.sl (.int .i64)) a1)] [.agg [.v (.int .i64) r.1.1, .own (.int .i64) r.1.2.1 .dp, .own (.int .i64) r.1.2.2 .dp], .lf (.own (.int .i64) r.2 .dp)] := by
  refine ctr [.agg [.v (.int .i64), .own (.int .i64) .dp, .own (.int .i64) .dp], .lf (.own (.int .i64) .dp)] T_ok Go.Proofs.Tryd.func9 rfl fun w0 E0 ht => ?_
  unfold F9 at h
  show VW _ _ _ _ _ (retQ _ _ _ _) _
  refine sR T_ok [0, 1, 4] [0] ⟨[(0, I a0), (1, .lf (.v (.sl (.int .i64)) a1)), (4, .lf (.ptr 0 0 0 0))], [bx [.v (.int .i64) (0 : Int), .nil, .nil] 28]⟩ (tn 2) ?_
  refine VW.seq ?_
  refine VW.region ?_
  refine sG T_ok 1 [1, 4, 21] [0] ⟨[(1, .lf (.v (.sl (.int .i64)) a1)), (4, .lf (.ptr 0 0 0 0)), (21, I a0)], [bx [.v (.int .i64) (0 : Int), .nil, .nil] 28]⟩ (tn 1) ?_
  obtain ⟨y1, hy, h⟩ := andO_some h
  refine cal false [.t (.int .i64)] [] (some 22) T_ok (ok33 N _ hy) ?_
  refine sN T_ok [1, 4, 6, 7] [0, 3, 1, 2] ⟨[(1, .lf (.v (.sl (.int .i64)) a1)), (4, .lf (.ptr 0 0 0 0)), (6, .lf (.ptr 1 0 0 0)), (7, B y1.2)], [bx [.v (.int .i64) (0 : Int), .nil, .nil] 28, bx [.v (.int .i64) y1.1.1, .hd 2 0 none, .hd 3 0 none] 28, ar 0 (.int .i64) y1.1.2.1 .dp, ar 0 (.int .i64) y1.1.2.2 .dp]⟩ (tn 6) ?_
  refine VW.seq ?_
  refine VW.seq ?_
  refine VW.region ?_
  refine sG T_ok 3 [1, 4, 6, 27] [0, 1, 2, 3] ⟨[(1, .lf (.v (.sl (.int .i64)) a1)), (4, .lf (.ptr 0 0 0 0)), (6, .lf (.ptr 1 0 0 0)), (27, B (!y1.2))], [bx [.v (.int .i64) (0 : Int), .nil, .nil] 28, bx [.v (.int .i64) y1.1.1, .hd 2 0 none, .hd 3 0 none] 28, ar 0 (.int .i64) y1.1.2.1 .dp, ar 0 (.int .i64) y1.1.2.2 .dp]⟩ (tn 3) ?_
  refine spB 27 h (fun h => ?_) (fun h => ?_)
  · refine sN T_ok [1, 4, 6, 31] [0, 1, 2, 3] ⟨[(1, .lf (.v (.sl (.int .i64)) a1)), (4, .lf (.ptr 0 0 0 0)), (6, .lf (.ptr 1 0 0 0)), (31, B true)], [bx [.v (.int .i64) (0 : Int), .nil, .nil] 28, bx [.v (.int .i64) y1.1.1, .hd 2 0 none, .hd 3 0 none] 28, ar 0 (.int .i64) y1.1.2.1 .dp, ar 0 (.int .i64) y1.1.2.2 .dp]⟩ (tn 4) ?_
    refine VW.cond (b := true) (by kernel_rfl) (fun _ => ?_) (fun h' => nomatch h')
    refine sR T_ok [4, 5] [0] ⟨[(4, .lf (.ptr 0 0 0 0)), (5, .lf (.nil))], [bx [.v (.int .i64) (0 : Int), .nil, .nil] 28]⟩ (tn 3) ?_
    refine VW.ret ?_
    replace h := Option.some.inj h
    subst h
    exact rt [none, none, none]
  refine sN T_ok [1, 4, 6, 31] [0, 1, 2, 3] ⟨[(1, .lf (.v (.sl (.int .i64)) a1)), (4, .lf (.ptr 0 0 0 0)), (6, .lf (.ptr 1 0 0 0)), (31, B (decide ((a1.length : Int) > (300 : Int))))], [bx [.v (.int .i64) (0 : Int), .nil, .nil] 28, bx [.v (.int .i64) y1.1.1, .hd 2 0 none, .hd 3 0 none] 28, ar 0 (.int .i64) y1.1.2.1 .dp, ar 0 (.int .i64) y1.1.2.2 .dp]⟩ (tn 4) ?_
  refine cnd h (fun h => ?_) (fun h => ?_)
  · refine sR T_ok [4, 5] [0] ⟨[(4, .lf (.ptr 0 0 0 0)), (5, .lf (.nil))], [bx [.v (.int .i64) (0 : Int), .nil, .nil] 28]⟩ (tn 3) ?_
    refine VW.ret ?_
    replace h := Option.some.inj h
    subst h
    exact rt [none, none, none]
  refine VW.skip ?_
  refine sR T_ok [1, 4, 6, 8] [0, 1, 2, 3] ⟨[(1, .lf (.v (.sl (.int .i64)) a1)), (4, .lf (.ptr 0 0 0 0)), (6, .lf (.ptr 1 0 0 0)), (8, .lf (.nil))], [bx [.v (.int .i64) (0 : Int), .nil, .nil] 28, bx [.v (.int .i64) y1.1.1, .hd 2 0 none, .hd 3 0 none] 28, ar 0 (.int .i64) y1.1.2.1 .dp, ar 0 (.int .i64) y1.1.2.2 .dp]⟩ (tn 2) ?_
  refine VW.join (fun s => ∃ (x89 : Int) (x90 : (List Int)) (x91 : (List Int)) (x92 : (List Int)), s = ⟨[(4, .lf (.ptr 0 0 0 0)), (6, .lf (.ptr 1 0 0 0)), (8, .lf (.hd 4 0 none))], [bx [.v (.int .i64) (0 : Int), .nil, .nil] 28, bx [.v (.int .i64) x89, .hd 2 0 none, .hd 3 0 none] 28, ar 0 (.int .i64) x90 .dp, ar 0 (.int .i64) x91 .dp, ar 0 (.int .i64) x92 .dp]⟩ ∧ F9_j0 N x89 x90 x91 x92 = some r) ?_ ?_
  · refine sR T_ok [1, 4, 6, 8, 9] [0, 1, 2, 3] ⟨[(1, .lf (.v (.sl (.int .i64)) a1)), (4, .lf (.ptr 0 0 0 0)), (6, .lf (.ptr 1 0 0 0)), (8, .lf (.nil)), (9, I (0 : Int))], [bx [.v (.int .i64) (0 : Int), .nil, .nil] 28, bx [.v (.int .i64) y1.1.1, .hd 2 0 none, .hd 3 0 none] 28, ar 0 (.int .i64) y1.1.2.1 .dp, ar 0 (.int .i64) y1.1.2.2 .dp]⟩ (tn 1) ?_
    refine VW.block ?_
    refine lop (fun k s => ∃ (x123 : Int) (x124 : (List Int)) (x125 : (List Int)) (x126 : (List Int)) (x127 : Int), s = ⟨[(1, .lf (.v (.sl (.int .i64)) a1)), (4, .lf (.ptr 0 0 0 0)), (6, .lf (.ptr 1 0 0 0)), (8, .lf (.hd 4 0 none)), (9, I x127)], [bx [.v (.int .i64) (0 : Int), .nil, .nil] 28, bx [.v (.int .i64) x123, .hd 2 0 none, .hd 3 0 none] 28, ar 0 (.int .i64) x124 .dp, ar 0 (.int .i64) x125 .dp, ar 0 (.int .i64) x126 .dp]⟩ ∧ F9_l0 N a1 k x123 x124 x125 x126 x127 = some r) N [.nilS 8 (.int .i64) .dp, .ren [1, 4, 6, 8, 9] [0, 1, 2, 3, 4]] ⟨y1.1.1, y1.1.2.1, y1.1.2.2, [], (0 : Int), rfl, h⟩ ?_
    rintro k154 s ⟨x123, x124, x125, x126, x127, rfl, h⟩
    cases k154 with
    | zero => cases show none = some r from h
    | succ k154 =>
      replace h : F9_l0_b N a1 (F9_l0 N a1 k154) x123 x124 x125 x126 x127 = some r := h
      unfold F9_l0_b at h
      refine VW.seq ?_
      refine sR T_ok [1, 4, 6, 8, 9, 37] [0, 1, 2, 3, 4] ⟨[(1, .lf (.v (.sl (.int .i64)) a1)), (4, .lf (.ptr 0 0 0 0)), (6, .lf (.ptr 1 0 0 0)), (8, .lf (.hd 4 0 none)), (9, I x127), (37, B (decide (x127 < (a1.length : Int))))], [bx [.v (.int .i64) (0 : Int), .nil, .nil] 28, bx [.v (.int .i64) x123, .hd 2 0 none, .hd 3 0 none] 28, ar 0 (.int .i64) x124 .dp, ar 0 (.int .i64) x125 .dp, ar 0 (.int .i64) x126 .dp]⟩ (tn 4) ?_
      refine cnd h (fun h => ?_) (fun h => ?_)
      · refine VW.skip ?_
        refine VW.seq ?_
        refine VW.block ?_
        obtain ⟨g168, h⟩ := gd_some h
        refine sR T_ok [1, 4, 6, 8, 9, 10] [0, 1, 2, 3, 4] ⟨[(1, .lf (.v (.sl (.int .i64)) a1)), (4, .lf (.ptr 0 0 0 0)), (6, .lf (.ptr 1 0 0 0)), (8, .lf (.hd 4 0 none)), (9, I x127), (10, I (a1.getD x127.toNat (Ty.dflt (.int .i64))))], [bx [.v (.int .i64) (0 : Int), .nil, .nil] 28, bx [.v (.int .i64) x123, .hd 2 0 none, .hd 3 0 none] 28, ar 0 (.int .i64) x124 .dp, ar 0 (.int .i64) x125 .dp, ar 0 (.int .i64) x126 .dp]⟩ (pu 2 (an g168 (tn 2))) ?_
        refine sR T_ok [1, 4, 6, 8, 9, 10, 11] [0, 1, 2, 3, 4] ⟨[(1, .lf (.v (.sl (.int .i64)) a1)), (4, .lf (.ptr 0 0 0 0)), (6, .lf (.ptr 1 0 0 0)), (8, .lf (.hd 4 0 none)), (9, I x127), (10, I (a1.getD x127.toNat (Ty.dflt (.int .i64)))), (11, I (-1 : Int))], [bx [.v (.int .i64) (0 : Int), .nil, .nil] 28, bx [.v (.int .i64) x123, .hd 2 0 none, .hd 3 0 none] 28, ar 0 (.int .i64) x124 .dp, ar 0 (.int .i64) x125 .dp, ar 0 (.int .i64) x126 .dp]⟩ (tn 1) ?_
        refine VW.join (fun s => ∃ (x172 : Int) (x173 : (List Int)) (x174 : (List Int)) (x175 : Int), s = ⟨[(1, .lf (.v (.sl (.int .i64)) a1)), (4, .lf (.ptr 0 0 0 0)), (6, .lf (.ptr 1 0 0 0)), (8, .lf (.hd 4 0 none)), (9, I x127), (11, I x175)], [bx [.v (.int .i64) (0 : Int), .nil, .nil] 28, bx [.v (.int .i64) x172, .hd 2 0 none, .hd 3 0 none] 28, ar 0 (.int .i64) x173 .dp, ar 0 (.int .i64) x174 .dp, ar 0 (.int .i64) x126 .dp]⟩ ∧ F9_j1 N (F9_l0 N a1 k154) x126 x127 x172 x173 x174 x175 = some r) ?_ ?_
        · refine VW.block ?_
          refine sR T_ok [1, 4, 6, 8, 9, 10, 11, 57] [0, 1, 2, 3, 4] ⟨[(1, .lf (.v (.sl (.int .i64)) a1)), (4, .lf (.ptr 0 0 0 0)), (6, .lf (.ptr 1 0 0 0)), (8, .lf (.hd 4 0 none)), (9, I x127), (10, I (a1.getD x127.toNat (Ty.dflt (.int .i64)))), (11, I (-1 : Int)), (57, B (decide ((a1.getD x127.toNat (Ty.dflt (.int .i64))) < (0 : Int))))], [bx [.v (.int .i64) (0 : Int), .nil, .nil] 28, bx [.v (.int .i64) x123, .hd 2 0 none, .hd 3 0 none] 28, ar 0 (.int .i64) x124 .dp, ar 0 (.int .i64) x125 .dp, ar 0 (.int .i64) x126 .dp]⟩ (tn 3) ?_
          refine cnd h (fun h => ?_) (fun h => ?_)
          · refine VW.seq ?_
            refine VW.region ?_
            refine sG T_ok 4 [1, 4, 6, 8, 9, 61, 64] [0, 1, 2, 3, 4] ⟨[(1, .lf (.v (.sl (.int .i64)) a1)), (4, .lf (.ptr 0 0 0 0)), (6, .lf (.ptr 1 0 0 0)), (8, .lf (.hd 4 0 none)), (9, I x127), (61, .agg [.v (.int .i64) x123, .hd 2 0 none, .hd 3 0 none]), (64, I (IntKind.i64.wrap ((IntKind.i64.wrap ((0 : Int) - (a1.getD x127.toNat (Ty.dflt (.int .i64))))) - (1 : Int))))], [bx [.v (.int .i64) (0 : Int), .nil, .nil] 28, bx [.v (.int .i64) x123, .hd 2 0 none, .hd 3 0 none] 28, ar 0 (.int .i64) x124 .dp, ar 0 (.int .i64) x125 .dp, ar 0 (.int .i64) x126 .dp]⟩ (tn 4) ?_
            obtain ⟨y178, hy, h⟩ := andO_some h
            refine cal true [.t Y27, .t (.int .i64)] [] (some 65) T_ok (ok34 N _ _ hy) ?_
            refine sN T_ok [1, 4, 6, 8, 9, 12, 13] [0, 1, 2, 3, 4, 7, 5, 6] ⟨[(1, .lf (.v (.sl (.int .i64)) a1)), (4, .lf (.ptr 0 0 0 0)), (6, .lf (.ptr 1 0 0 0)), (8, .lf (.hd 4 0 none)), (9, I x127), (12, .lf (.ptr 5 0 0 0)), (13, B y178.2)], [bx [.v (.int .i64) (0 : Int), .nil, .nil] 28, bx [.v (.int .i64) x123, .hd 2 0 none, .hd 3 0 none] 28, ar 0 (.int .i64) x124 .dp, ar 0 (.int .i64) x125 .dp, ar 0 (.int .i64) x126 .dp, bx [.v (.int .i64) y178.1.1, .hd 6 0 none, .hd 7 0 none] 28, ar 0 (.int .i64) y178.1.2.1 .dp, ar 0 (.int .i64) y178.1.2.2 .dp]⟩ (tn 6) ?_
            refine sR T_ok [1, 4, 6, 8, 9, 13] [0, 1, 6, 7, 4] ⟨[(1, .lf (.v (.sl (.int .i64)) a1)), (4, .lf (.ptr 0 0 0 0)), (6, .lf (.ptr 1 0 0 0)), (8, .lf (.hd 4 0 none)), (9, I x127), (13, B y178.2)], [bx [.v (.int .i64) (0 : Int), .nil, .nil] 28, bx [.v (.int .i64) y178.1.1, .hd 2 0 none, .hd 3 0 none] 28, ar 0 (.int .i64) y178.1.2.1 .dp, ar 0 (.int .i64) y178.1.2.2 .dp, ar 0 (.int .i64) x126 .dp]⟩ (tn 2) ?_
            refine sR T_ok [1, 4, 6, 8, 9, 11, 13] [0, 1, 2, 3, 4] ⟨[(1, .lf (.v (.sl (.int .i64)) a1)), (4, .lf (.ptr 0 0 0 0)), (6, .lf (.ptr 1 0 0 0)), (8, .lf (.hd 4 0 none)), (9, I x127), (11, I (0 : Int)), (13, B y178.2)], [bx [.v (.int .i64) (0 : Int), .nil, .nil] 28, bx [.v (.int .i64) y178.1.1, .hd 2 0 none, .hd 3 0 none] 28, ar 0 (.int .i64) y178.1.2.1 .dp, ar 0 (.int .i64) y178.1.2.2 .dp, ar 0 (.int .i64) x126 .dp]⟩ (tn 1) ?_
            refine sR T_ok [1, 4, 6, 8, 9, 11, 69] [0, 1, 2, 3, 4] ⟨[(1, .lf (.v (.sl (.int .i64)) a1)), (4, .lf (.ptr 0 0 0 0)), (6, .lf (.ptr 1 0 0 0)), (8, .lf (.hd 4 0 none)), (9, I x127), (11, I (0 : Int)), (69, B y178.2)], [bx [.v (.int .i64) (0 : Int), .nil, .nil] 28, bx [.v (.int .i64) y178.1.1, .hd 2 0 none, .hd 3 0 none] 28, ar 0 (.int .i64) y178.1.2.1 .dp, ar 0 (.int .i64) y178.1.2.2 .dp, ar 0 (.int .i64) x126 .dp]⟩ (tn 1) ?_
            refine cnd h (fun h => ?_) (fun h => ?_)
            · refine rR T_ok [1, 4, 6, 8, 9, 11] [0, 1, 2, 3, 4] ⟨[(1, .lf (.v (.sl (.int .i64)) a1)), (4, .lf (.ptr 0 0 0 0)), (6, .lf (.ptr 1 0 0 0)), (8, .lf (.hd 4 0 none)), (9, I x127), (11, I (1 : Int))], [bx [.v (.int .i64) (0 : Int), .nil, .nil] 28, bx [.v (.int .i64) y178.1.1, .hd 2 0 none, .hd 3 0 none] 28, ar 0 (.int .i64) y178.1.2.1 .dp, ar 0 (.int .i64) y178.1.2.2 .dp, ar 0 (.int .i64) x126 .dp]⟩ (tn 1) ?_
              exact arv [.ren [1, 4, 6, 8, 9, 11] [0, 1, 2, 3, 4]] ⟨y178.1.1, y178.1.2.1, y178.1.2.2, (1 : Int), rfl, h⟩
            refine VW.skip ?_
            exact arv [.ren [1, 4, 6, 8, 9, 11] [0, 1, 2, 3, 4]] ⟨y178.1.1, y178.1.2.1, y178.1.2.2, (0 : Int), rfl, h⟩
          refine sR T_ok [1, 4, 6, 8, 9, 10, 11, 70] [0, 1, 2, 3, 4] ⟨[(1, .lf (.v (.sl (.int .i64)) a1)), (4, .lf (.ptr 0 0 0 0)), (6, .lf (.ptr 1 0 0 0)), (8, .lf (.hd 4 0 none)), (9, I x127), (10, I (a1.getD x127.toNat (Ty.dflt (.int .i64)))), (11, I (-1 : Int)), (70, B ((Int.tmod (a1.getD x127.toNat (Ty.dflt (.int .i64))) (2 : Int)) == (0 : Int)))], [bx [.v (.int .i64) (0 : Int), .nil, .nil] 28, bx [.v (.int .i64) x123, .hd 2 0 none, .hd 3 0 none] 28, ar 0 (.int .i64) x124 .dp, ar 0 (.int .i64) x125 .dp, ar 0 (.int .i64) x126 .dp]⟩ (pu 1 (an (show ((2 : Int) ≠ 0) from by decide) (tn 2))) ?_
          refine cnd h (fun h => ?_) (fun h => ?_)
          · refine VW.seq ?_
            refine VW.region ?_
            refine sG T_ok 3 [1, 4, 6, 8, 9, 11, 75, 77] [0, 1, 2, 3, 4] ⟨[(1, .lf (.v (.sl (.int .i64)) a1)), (4, .lf (.ptr 0 0 0 0)), (6, .lf (.ptr 1 0 0 0)), (8, .lf (.hd 4 0 none)), (9, I x127), (11, I (-1 : Int)), (75, .agg [.v (.int .i64) x123, .hd 2 0 none, .hd 3 0 none]), (77, I (IntKind.i64.wrap (Int.tdiv (a1.getD x127.toNat (Ty.dflt (.int .i64))) (2 : Int))))], [bx [.v (.int .i64) (0 : Int), .nil, .nil] 28, bx [.v (.int .i64) x123, .hd 2 0 none, .hd 3 0 none] 28, ar 0 (.int .i64) x124 .dp, ar 0 (.int .i64) x125 .dp, ar 0 (.int .i64) x126 .dp]⟩ (pu 2 (an (show ((2 : Int) ≠ 0) from by decide) (tn 0))) ?_
            obtain ⟨y179, hy, h⟩ := andO_some h
            refine cal true [.t Y27, .t (.int .i64)] [] (some 78) T_ok (ok35 N _ _ hy) ?_
            refine sN T_ok [1, 4, 6, 8, 9, 11, 14, 15, 16] [0, 1, 2, 3, 4, 7, 5, 6] ⟨[(1, .lf (.v (.sl (.int .i64)) a1)), (4, .lf (.ptr 0 0 0 0)), (6, .lf (.ptr 1 0 0 0)), (8, .lf (.hd 4 0 none)), (9, I x127), (11, I (-1 : Int)), (14, .lf (.ptr 5 0 0 0)), (15, I y179.2.1), (16, B y179.2.2)], [bx [.v (.int .i64) (0 : Int), .nil, .nil] 28, bx [.v (.int .i64) x123, .hd 2 0 none, .hd 3 0 none] 28, ar 0 (.int .i64) x124 .dp, ar 0 (.int .i64) x125 .dp, ar 0 (.int .i64) x126 .dp, bx [.v (.int .i64) y179.1.1, .hd 6 0 none, .hd 7 0 none] 28, ar 0 (.int .i64) y179.1.2.1 .dp, ar 0 (.int .i64) y179.1.2.2 .dp]⟩ (tn 8) ?_
            refine sR T_ok [1, 4, 6, 8, 9, 11, 15, 16] [0, 1, 6, 7, 4] ⟨[(1, .lf (.v (.sl (.int .i64)) a1)), (4, .lf (.ptr 0 0 0 0)), (6, .lf (.ptr 1 0 0 0)), (8, .lf (.hd 4 0 none)), (9, I x127), (11, I (-1 : Int)), (15, I y179.2.1), (16, B y179.2.2)], [bx [.v (.int .i64) (0 : Int), .nil, .nil] 28, bx [.v (.int .i64) y179.1.1, .hd 2 0 none, .hd 3 0 none] 28, ar 0 (.int .i64) y179.1.2.1 .dp, ar 0 (.int .i64) y179.1.2.2 .dp, ar 0 (.int .i64) x126 .dp]⟩ (tn 2) ?_
            refine sR T_ok [1, 4, 6, 8, 9, 11, 15, 83] [0, 1, 2, 3, 4] ⟨[(1, .lf (.v (.sl (.int .i64)) a1)), (4, .lf (.ptr 0 0 0 0)), (6, .lf (.ptr 1 0 0 0)), (8, .lf (.hd 4 0 none)), (9, I x127), (11, I (-1 : Int)), (15, I y179.2.1), (83, B y179.2.2)], [bx [.v (.int .i64) (0 : Int), .nil, .nil] 28, bx [.v (.int .i64) y179.1.1, .hd 2 0 none, .hd 3 0 none] 28, ar 0 (.int .i64) y179.1.2.1 .dp, ar 0 (.int .i64) y179.1.2.2 .dp, ar 0 (.int .i64) x126 .dp]⟩ (tn 1) ?_
            refine cnd h (fun h => ?_) (fun h => ?_)
            · refine rR T_ok [1, 4, 6, 8, 9, 11] [0, 1, 2, 3, 4] ⟨[(1, .lf (.v (.sl (.int .i64)) a1)), (4, .lf (.ptr 0 0 0 0)), (6, .lf (.ptr 1 0 0 0)), (8, .lf (.hd 4 0 none)), (9, I x127), (11, I y179.2.1)], [bx [.v (.int .i64) (0 : Int), .nil, .nil] 28, bx [.v (.int .i64) y179.1.1, .hd 2 0 none, .hd 3 0 none] 28, ar 0 (.int .i64) y179.1.2.1 .dp, ar 0 (.int .i64) y179.1.2.2 .dp, ar 0 (.int .i64) x126 .dp]⟩ (tn 2) ?_
              exact arv [.ren [1, 4, 6, 8, 9, 11] [0, 1, 2, 3, 4]] ⟨y179.1.1, y179.1.2.1, y179.1.2.2, y179.2.1, rfl, h⟩
            refine VW.skip ?_
            exact arv [.ren [1, 4, 6, 8, 9, 11] [0, 1, 2, 3, 4]] ⟨y179.1.1, y179.1.2.1, y179.1.2.2, (-1 : Int), rfl, h⟩
          refine VW.seq ?_
          refine VW.region ?_
          refine sG T_ok 4 [1, 4, 6, 8, 9, 11, 45, 47, 48] [0, 1, 2, 3, 4] ⟨[(1, .lf (.v (.sl (.int .i64)) a1)), (4, .lf (.ptr 0 0 0 0)), (6, .lf (.ptr 1 0 0 0)), (8, .lf (.hd 4 0 none)), (9, I x127), (11, I (-1 : Int)), (45, .agg [.v (.int .i64) x123, .hd 2 0 none, .hd 3 0 none]), (47, I (IntKind.i64.wrap (Int.tdiv (a1.getD x127.toNat (Ty.dflt (.int .i64))) (2 : Int)))), (48, I (a1.getD x127.toNat (Ty.dflt (.int .i64))))], [bx [.v (.int .i64) (0 : Int), .nil, .nil] 28, bx [.v (.int .i64) x123, .hd 2 0 none, .hd 3 0 none] 28, ar 0 (.int .i64) x124 .dp, ar 0 (.int .i64) x125 .dp, ar 0 (.int .i64) x126 .dp]⟩ (pu 2 (an (show ((2 : Int) ≠ 0) from by decide) (tn 1))) ?_
          obtain ⟨y180, hy, h⟩ := andO_some h
          refine cal true [.t Y27, .t (.int .i64), .t (.int .i64)] [] (some 49) T_ok (ok36 N _ _ _ hy) ?_
          refine sN T_ok [1, 4, 6, 8, 9, 11, 17, 18] [0, 1, 2, 3, 4, 7, 5, 6] ⟨[(1, .lf (.v (.sl (.int .i64)) a1)), (4, .lf (.ptr 0 0 0 0)), (6, .lf (.ptr 1 0 0 0)), (8, .lf (.hd 4 0 none)), (9, I x127), (11, I (-1 : Int)), (17, .lf (.ptr 5 0 0 0)), (18, I y180.2.1)], [bx [.v (.int .i64) (0 : Int), .nil, .nil] 28, bx [.v (.int .i64) x123, .hd 2 0 none, .hd 3 0 none] 28, ar 0 (.int .i64) x124 .dp, ar 0 (.int .i64) x125 .dp, ar 0 (.int .i64) x126 .dp, bx [.v (.int .i64) y180.1.1, .hd 6 0 none, .hd 7 0 none] 28, ar 0 (.int .i64) y180.1.2.1 .dp, ar 0 (.int .i64) y180.1.2.2 .dp]⟩ (tn 8) ?_
          refine sR T_ok [1, 4, 6, 8, 9, 11, 18] [0, 1, 6, 7, 4] ⟨[(1, .lf (.v (.sl (.int .i64)) a1)), (4, .lf (.ptr 0 0 0 0)), (6, .lf (.ptr 1 0 0 0)), (8, .lf (.hd 4 0 none)), (9, I x127), (11, I (-1 : Int)), (18, I y180.2.1)], [bx [.v (.int .i64) (0 : Int), .nil, .nil] 28, bx [.v (.int .i64) y180.1.1, .hd 2 0 none, .hd 3 0 none] 28, ar 0 (.int .i64) y180.1.2.1 .dp, ar 0 (.int .i64) y180.1.2.2 .dp, ar 0 (.int .i64) x126 .dp]⟩ (tn 2) ?_
          refine sR T_ok [1, 4, 6, 8, 9, 11, 18, 55] [0, 1, 2, 3, 4] ⟨[(1, .lf (.v (.sl (.int .i64)) a1)), (4, .lf (.ptr 0 0 0 0)), (6, .lf (.ptr 1 0 0 0)), (8, .lf (.hd 4 0 none)), (9, I x127), (11, I (-1 : Int)), (18, I y180.2.1), (55, B (decide (y180.2.1 ≤ (1000000 : Int))))], [bx [.v (.int .i64) (0 : Int), .nil, .nil] 28, bx [.v (.int .i64) y180.1.1, .hd 2 0 none, .hd 3 0 none] 28, ar 0 (.int .i64) y180.1.2.1 .dp, ar 0 (.int .i64) y180.1.2.2 .dp, ar 0 (.int .i64) x126 .dp]⟩ (tn 2) ?_
          refine cnd h (fun h => ?_) (fun h => ?_)
          · refine rR T_ok [1, 4, 6, 8, 9, 11] [0, 1, 2, 3, 4] ⟨[(1, .lf (.v (.sl (.int .i64)) a1)), (4, .lf (.ptr 0 0 0 0)), (6, .lf (.ptr 1 0 0 0)), (8, .lf (.hd 4 0 none)), (9, I x127), (11, I y180.2.1)], [bx [.v (.int .i64) (0 : Int), .nil, .nil] 28, bx [.v (.int .i64) y180.1.1, .hd 2 0 none, .hd 3 0 none] 28, ar 0 (.int .i64) y180.1.2.1 .dp, ar 0 (.int .i64) y180.1.2.2 .dp, ar 0 (.int .i64) x126 .dp]⟩ (tn 2) ?_
            exact arv [.ren [1, 4, 6, 8, 9, 11] [0, 1, 2, 3, 4]] ⟨y180.1.1, y180.1.2.1, y180.1.2.2, y180.2.1, rfl, h⟩
          refine VW.skip ?_
          exact arv [.ren [1, 4, 6, 8, 9, 11] [0, 1, 2, 3, 4]] ⟨y180.1.1, y180.1.2.1, y180.1.2.2, (-1 : Int), rfl, h⟩
        rintro s ⟨x172, x173, x174, x175, rfl, h⟩
        unfold F9_j1 at h
        obtain ⟨g176, h⟩ := gd_some h
        refine rR T_ok [1, 4, 6, 8, 9] [0, 1, 2, 3, 4] ⟨[(1, .lf (.v (.sl (.int .i64)) a1)), (4, .lf (.ptr 0 0 0 0)), (6, .lf (.ptr 1 0 0 0)), (8, .lf (.hd 4 0 none)), (9, I x127)], [bx [.v (.int .i64) (0 : Int), .nil, .nil] 28, bx [.v (.int .i64) x172, .hd 2 0 none, .hd 3 0 none] 28, ar 0 (.int .i64) x173 .dp, ar 0 (.int .i64) x174 .dp, ar 0 (.int .i64) (x126 ++ ([x175])) .dp]⟩ (pu 3 (an g176 (tn 1))) ?_
        refine rR T_ok [1, 4, 6, 8, 9] [0, 1, 2, 3, 4] ⟨[(1, .lf (.v (.sl (.int .i64)) a1)), (4, .lf (.ptr 0 0 0 0)), (6, .lf (.ptr 1 0 0 0)), (8, .lf (.hd 4 0 none)), (9, I (IntKind.i64.wrap (x127 + (1 : Int))))], [bx [.v (.int .i64) (0 : Int), .nil, .nil] 28, bx [.v (.int .i64) x172, .hd 2 0 none, .hd 3 0 none] 28, ar 0 (.int .i64) x173 .dp, ar 0 (.int .i64) x174 .dp, ar 0 (.int .i64) (x126 ++ ([x175])) .dp]⟩ (tn 3) ?_
        exact aro [.ren [1, 4, 6, 8, 9] [0, 1, 2, 3, 4]] ⟨x172, x173, x174, (x126 ++ ([x175])), (IntKind.i64.wrap (x127 + (1 : Int))), rfl, h⟩
      refine VW.exit ?_
      exact arv [.ren [4, 6, 8] [0, 1, 2, 3, 4]] ⟨x123, x124, x125, x126, rfl, h⟩
  rintro s ⟨x89, x90, x91, x92, rfl, h⟩
  unfold F9_j0 at h
  refine sR T_ok [4, 5] [0, 2, 3, 4] ⟨[(4, .lf (.ptr 0 0 0 0)), (5, .lf (.hd 3 0 none))], [bx [.v (.int .i64) x89, .hd 1 0 none, .hd 2 0 none] 28, ar 0 (.int .i64) x90 .dp, ar 0 (.int .i64) x91 .dp, ar 0 (.int .i64) x92 .dp]⟩ (tn 4) ?_
  refine VW.ret ?_
  replace h := Option.some.inj h
  subst h
  exact rt [some 1, some 2, some 3]

/- loop.example/g00844/impl.in -/
def F67 (N : Nat) (a0 : Int) (a1 : Int) (a2 : Int) : Option (Bool) :=
  cond (decide (a0 ≥ a1)) (some (decide (a0 ≤ a2))) (some false)
theorem ok67 (N : Nat) (a0 : Int) (a1 : Int) (a2 : Int) {r : Bool} (h : F67 N a0 a1 a2 = some r) : Con Go.Proofs.Tryd.prog 67 [I a0, I a1, I a2] [.lf (.v .bool r)] := by
  refine ctr [.lf (.v .bool)] T_ok Go.Proofs.Tryd.func67 rfl fun w0 E0 ht => ?_
  unfold F67 at h
  show VW _ _ _ _ _ (retQ _ _ _ _) _
  refine sR T_ok [0, 1, 2] [] ⟨[(0, I a0), (1, I a1), (2, I a2)], []⟩ (tn 1) ?_
  refine VW.seq ?_
  refine VW.region ?_
  refine sG T_ok 4 [0, 2, 10] [] ⟨[(0, I a0), (2, I a2), (10, B (decide (a0 ≥ a1)))], []⟩ (tn 4) ?_
  refine spB 10 h (fun h => ?_) (fun h => ?_)
  · refine sN T_ok [6] [] ⟨[(6, B (decide (a0 ≤ a2)))], []⟩ (tn 5) ?_
    refine VW.ret ?_
    replace h := Option.some.inj h
    subst h
    exact rt []
  refine sN T_ok [6] [] ⟨[(6, B false)], []⟩ (tn 5) ?_
  refine VW.ret ?_
  replace h := Option.some.inj h
  subst h
  exact rt []

/- loop.example/g00844/impl.isCap -/
def F46 (N : Nat) (a0 : Int) : Option (Bool) :=
  andO (F67 N a0 (1 : Int) (16 : Int)) fun y1 => some y1
theorem ok46 (N : Nat) (a0 : Int) {r : Bool} (h : F46 N a0 = some r) : Con Go.Proofs.Tryd.prog 46 [I a0] [.lf (.v .bool r)] := by
  refine ctr [.lf (.v .bool)] T_ok Go.Proofs.Tryd.func46 rfl fun w0 E0 ht => ?_
  unfold F46 at h
  show VW _ _ _ _ _ (retQ _ _ _ _) _
  refine sR T_ok [0] [] ⟨[(0, I a0)], []⟩ (tn 1) ?_
  refine VW.seq ?_
  refine VW.region ?_
  refine sG T_ok 1 [3] [] ⟨[(3, I a0)], []⟩ (tn 1) ?_
  obtain ⟨y1, hy, h⟩ := andO_some h
  refine cal false [.t (.int .i64), .t (.int .i64), .t (.int .i64)] [] (some 4) T_ok (ok67 N _ _ _ hy) ?_
  refine sN T_ok [2] [] ⟨[(2, B y1)], []⟩ (tn 1) ?_
  refine VW.ret ?_
  replace h := Option.some.inj h
  subst h
  exact rt []

/- loop.example/g00844/impl.NewCache -/
def F37 (N : Nat) (a0 : Int) : Option ((Int × ((List Int) × (List Int))) × Bool) :=
  andO (F46 N a0) fun y2 => cond (!y2) (some (((0 : Int), ([], [])), false)) (some ((a0, ([], [])), true))
theorem ok37 (N : Nat) (a0 : Int) {r : (Int × ((List Int) × (List Int))) × Bool} (h : F37 N a0 = some r) : Con Go.Proofs.Tryd.prog 37 [I a0] [.agg [.v (.int .i64) r.1.1, .own (.int .i64) r.1.2.1 .dp, .own (.int .i64) r.1.2.2 .dp], .lf (.v .bool r.2)] := by
  refine ctr [.agg [.v (.int .i64), .own (.int .i64) .dp, .own (.int .i64) .dp], .lf (.v .bool)] T_ok Go.Proofs.Tryd.func37 rfl fun w0 E0 ht => ?_
  unfold F37 at h
  show VW _ _ _ _ _ (retQ _ _ _ _) _
  refine sR T_ok [0, 2] [0] ⟨[(0, I a0), (2, .lf (.ptr 0 0 0 0))], [bx [.v (.int .i64) (0 : Int), .nil, .nil] 28]⟩ (tn 2) ?_
  refine VW.seq ?_
  refine VW.seq ?_
  refine VW.region ?_
  refine sG T_ok 1 [0, 2, 4] [0] ⟨[(0, I a0), (2, .lf (.ptr 0 0 0 0)), (4, I a0)], [bx [.v (.int .i64) (0 : Int), .nil, .nil] 28]⟩ (tn 1) ?_
  obtain ⟨y2, hy, h⟩ := andO_some h
  refine cal false [.t (.int .i64)] [] (some 5) T_ok (ok46 N _ hy) ?_
  refine sN T_ok [0, 2, 6] [0] ⟨[(0, I a0), (2, .lf (.ptr 0 0 0 0)), (6, B (!y2))], [bx [.v (.int .i64) (0 : Int), .nil, .nil] 28]⟩ (tn 1) ?_
  refine cnd h (fun h => ?_) (fun h => ?_)
  · refine sR T_ok [2, 3] [0] ⟨[(2, .lf (.ptr 0 0 0 0)), (3, B false)], [bx [.v (.int .i64) (0 : Int), .nil, .nil] 28]⟩ (tn 3) ?_
    refine VW.ret ?_
    replace h := Option.some.inj h
    subst h
    exact rt [none, none]
  refine VW.skip ?_
  refine sR T_ok [2, 3] [0] ⟨[(2, .lf (.ptr 0 0 0 0)), (3, B true)], [bx [.v (.int .i64) a0, .nil, .nil] 28]⟩ (tn 4) ?_
  refine VW.ret ?_
  replace h := Option.some.inj h
  subst h
  exact rt [none, none]

/- loop.example/g00844/impl.isNum -/
def F47 (N : Nat) (a0 : Int) : Option (Bool) :=
  andO (F67 N a0 (-1000000 : Int) (1000000 : Int)) fun y1 => some y1
theorem ok47 (N : Nat) (a0 : Int) {r : Bool} (h : F47 N a0 = some r) : Con Go.Proofs.Tryd.prog 47 [I a0] [.lf (.v .bool r)] := by
  refine ctr [.lf (.v .bool)] T_ok Go.Proofs.Tryd.func47 rfl fun w0 E0 ht => ?_
  unfold F47 at h
  show VW _ _ _ _ _ (retQ _ _ _ _) _
  refine sR T_ok [0] [] ⟨[(0, I a0)], []⟩ (tn 1) ?_
  refine VW.seq ?_
  refine VW.region ?_
  refine sG T_ok 1 [3] [] ⟨[(3, I a0)], []⟩ (tn 1) ?_
  obtain ⟨y1, hy, h⟩ := andO_some h
  refine cal false [.t (.int .i64), .t (.int .i64), .t (.int .i64)] [] (some 4) T_ok (ok67 N _ _ _ hy) ?_
  refine sN T_ok [2] [] ⟨[(2, B y1)], []⟩ (tn 1) ?_
  refine VW.ret ?_
  replace h := Option.some.inj h
  subst h
  exact rt []

/- slices.Index[[]int,int] -/
def F48_j0 (N : Nat) : Option (Int) :=
  some (-1 : Int)
def F48_l0_b (N : Nat) (a0 : (List Int)) (a1 : Int) (nx19 : Int → Int → Option (Int)) (x15 : Int) (x16 : Int) : Option (Int) :=
  cond (decide (x16 < x15)) (gd (InR x16 a0.length) (cond (a1 == (a0.getD x16.toNat (Ty.dflt (.int .i64)))) (some x16) (nx19 x15 (IntKind.i64.wrap (x16 + (1 : Int)))))) (F48_j0 N)
def F48_l0 (N : Nat) (a0 : (List Int)) (a1 : Int) : Nat → Int → Int → Option (Int) := loopF (F48_l0_b N a0 a1) (fun _ _ => none)
theorem F48_l0_s (N : Nat) (a0 : (List Int)) (a1 : Int) {k : Nat} (hk : 0 < k) (x15 : Int) (x16 : Int) : F48_l0 N a0 a1 k x15 x16 = F48_l0_b N a0 a1 (F48_l0 N a0 a1 (k - 1)) x15 x16 := by
  cases k with
  | zero => exact absurd hk (Nat.lt_irrefl 0)
  | succ m => rfl
def F48 (N : Nat) (a0 : (List Int)) (a1 : Int) : Option (Int) :=
  F48_l0 N a0 a1 N (a0.length : Int) (0 : Int)
theorem ok48 (N : Nat) (a0 : (List Int)) (a1 : Int) {r : Int} (h : F48 N a0 a1 = some r) : Con Go.Proofs.Tryd.prog 48 [.lf (.v (.sl (.int .i64)) a0), I a1] [.lf (.v (.int .i64) r)] := by
  refine ctr [.lf (.v (.int .i64))] T_ok Go.Proofs.Tryd.func48 rfl fun w0 E0 ht => ?_
  unfold F48 at h
  show VW _ _ _ _ _ (retQ _ _ _ _) _
  refine sR T_ok [0, 1] [] ⟨[(0, .lf (.v (.sl (.int .i64)) a0)), (1, I a1)], []⟩ (tn 1) ?_
  refine VW.join (fun s => s = ⟨[], []⟩ ∧ F48_j0 N = some r) ?_ ?_
  · refine sR T_ok [0, 1, 7, 8] [] ⟨[(0, .lf (.v (.sl (.int .i64)) a0)), (1, I a1), (7, I (a0.length : Int)), (8, I (0 : Int))], []⟩ (tn 3) ?_
    refine VW.block ?_
    refine lop (fun k s => ∃ (x15 : Int) (x16 : Int), s = ⟨[(0, .lf (.v (.sl (.int .i64)) a0)), (1, I a1), (7, I x15), (8, I x16)], []⟩ ∧ F48_l0 N a0 a1 k x15 x16 = some r) N [.ren [0, 1, 7, 8] []] ⟨(a0.length : Int), (0 : Int), rfl, h⟩ ?_
    rintro k19 s ⟨x15, x16, rfl, h⟩
    cases k19 with
    | zero => cases show none = some r from h
    | succ k19 =>
      replace h : F48_l0_b N a0 a1 (F48_l0 N a0 a1 k19) x15 x16 = some r := h
      unfold F48_l0_b at h
      refine sR T_ok [0, 1, 7, 8, 9] [] ⟨[(0, .lf (.v (.sl (.int .i64)) a0)), (1, I a1), (7, I x15), (8, I x16), (9, B (decide (x16 < x15)))], []⟩ (tn 1) ?_
      refine VW.seq ?_
      refine cnd h (fun h => ?_) (fun h => ?_)
      · refine VW.skip ?_
        refine VW.seq ?_
        refine VW.block ?_
        refine sR T_ok [0, 1, 5, 7, 8] [] ⟨[(0, .lf (.v (.sl (.int .i64)) a0)), (1, I a1), (5, I x16), (7, I x15), (8, I x16)], []⟩ (tn 2) ?_
        obtain ⟨g21, h⟩ := gd_some h
        refine sR T_ok [0, 1, 5, 7, 8, 16] [] ⟨[(0, .lf (.v (.sl (.int .i64)) a0)), (1, I a1), (5, I x16), (7, I x15), (8, I x16), (16, B (a1 == (a0.getD x16.toNat (Ty.dflt (.int .i64)))))], []⟩ (pu 3 (an g21 (tn 2))) ?_
        refine cnd h (fun h => ?_) (fun h => ?_)
        · refine sR T_ok [4] [] ⟨[(4, I x16)], []⟩ (tn 2) ?_
          refine VW.ret ?_
          replace h := Option.some.inj h
          subst h
          exact rt []
        refine VW.skip ?_
        refine rR T_ok [0, 1, 7, 8] [] ⟨[(0, .lf (.v (.sl (.int .i64)) a0)), (1, I a1), (7, I x15), (8, I (IntKind.i64.wrap (x16 + (1 : Int))))], []⟩ (tn 2) ?_
        exact aro [.ren [0, 1, 7, 8] []] ⟨x15, (IntKind.i64.wrap (x16 + (1 : Int))), rfl, h⟩
      refine VW.exit ?_
      exact arv [.ren [] []] ⟨rfl, h⟩
  rintro s ⟨rfl, h⟩
  unfold F48_j0 at h
  refine sR T_ok [4] [] ⟨[(4, I (-1 : Int))], []⟩ (tn 1) ?_
  refine VW.ret ?_
  replace h := Option.some.inj h
  subst h
  exact rt []

/- loop.example/g00844/impl.CacheOk -/
def F15_j0 (N : Nat) : Option (Bool) :=
  some true
def F15_l0_b (N : Nat) (nx77 : Int → (List Int) → (List Int) → (List Int) → Int → Int → Option (Bool)) (x61 : Int) (x62 : (List Int)) (x63 : (List Int)) (x64 : (List Int)) (x65 : Int) (x66 : Int) : Option (Bool) :=
  cond (decide (x66 < x65)) (gd (InR x66 x64.length) (andO (F47 N (x64.getD x66.toNat (Ty.dflt (.int .i64)))) fun y84 => cond (!y84) (some false) (gd (InR x66 x63.length) (andO (F47 N (x63.getD x66.toNat (Ty.dflt (.int .i64)))) fun y86 => cond (!y86) (some false) (andO (F48 N x62 (x64.getD x66.toNat (Ty.dflt (.int .i64)))) fun y87 => cond (y87 != x66) (some false) (nx77 x61 x62 x63 x64 x65 (IntKind.i64.wrap (x66 + (1 : Int))))))))) (F15_j0 N)
def F15_l0 (N : Nat) : Nat → Int → (List Int) → (List Int) → (List Int) → Int → Int → Option (Bool) := loopF (F15_l0_b N) (fun _ _ _ _ _ _ => none)
theorem F15_l0_s (N : Nat) {k : Nat} (hk : 0 < k) (x61 : Int) (x62 : (List Int)) (x63 : (List Int)) (x64 : (List Int)) (x65 : Int) (x66 : Int) : F15_l0 N k x61 x62 x63 x64 x65 x66 = F15_l0_b N (F15_l0 N (k - 1)) x61 x62 x63 x64 x65 x66 := by
  cases k with
  | zero => exact absurd hk (Nat.lt_irrefl 0)
  | succ m => rfl
def F15 (N : Nat) (a0 : (Int × ((List Int) × (List Int)))) : Option (Bool) :=
  andO (F46 N a0.1) fun y2 => cond (!y2) (some false) (cond (decide ((a0.2.1.length : Int) > a0.1)) (some false) (cond ((a0.2.2.length : Int) != (a0.2.1.length : Int)) (some false) (F15_l0 N N a0.1 a0.2.1 a0.2.2 a0.2.1 (a0.2.1.length : Int) (0 : Int))))
theorem ok15 (N : Nat) (a0 : (Int × ((List Int) × (List Int)))) {r : Bool} (h : F15 N a0 = some r) : Con Go.Proofs.Tryd.prog 15 [.agg [.v (.int .i64) a0.1, .v (.sl (.int .i64)) a0.2.1, .v (.sl (.int .i64)) a0.2.2]] [.lf (.v .bool r)] := by
  refine ctr [.lf (.v .bool)] T_ok Go.Proofs.Tryd.func15 rfl fun w0 E0 ht => ?_
  unfold F15 at h
  show VW _ _ _ _ _ (retQ _ _ _ _) _
  refine sR T_ok [1] [0] ⟨[(1, .lf (.ptr 0 0 0 0))], [bx [.v (.int .i64) a0.1, .v (.sl (.int .i64)) a0.2.1, .v (.sl (.int .i64)) a0.2.2] 28]⟩ (tn 2) ?_
  refine VW.seq ?_
  refine VW.seq ?_
  refine VW.region ?_
  refine sG T_ok 2 [1, 6] [0] ⟨[(1, .lf (.ptr 0 0 0 0)), (6, I a0.1)], [bx [.v (.int .i64) a0.1, .v (.sl (.int .i64)) a0.2.1, .v (.sl (.int .i64)) a0.2.2] 28]⟩ (tn 2) ?_
  obtain ⟨y2, hy, h⟩ := andO_some h
  refine cal false [.t (.int .i64)] [] (some 7) T_ok (ok46 N _ hy) ?_
  refine sG T_ok 2 [1, 9] [0] ⟨[(1, .lf (.ptr 0 0 0 0)), (9, B (!y2))], [bx [.v (.int .i64) a0.1, .v (.sl (.int .i64)) a0.2.1, .v (.sl (.int .i64)) a0.2.2] 28]⟩ (tn 2) ?_
  refine spB 9 h (fun h => ?_) (fun h => ?_)
  · refine sN T_ok [1, 25] [0] ⟨[(1, .lf (.ptr 0 0 0 0)), (25, B true)], [bx [.v (.int .i64) a0.1, .v (.sl (.int .i64)) a0.2.1, .v (.sl (.int .i64)) a0.2.2] 28]⟩ (tn 16) ?_
    refine VW.cond (b := true) (by kernel_rfl) (fun _ => ?_) (fun h' => nomatch h')
    refine sR T_ok [2] [] ⟨[(2, B false)], []⟩ (tn 1) ?_
    refine VW.ret ?_
    replace h := Option.some.inj h
    subst h
    exact rt []
  refine sG T_ok 8 [1, 17] [0] ⟨[(1, .lf (.ptr 0 0 0 0)), (17, B (decide ((a0.2.1.length : Int) > a0.1)))], [bx [.v (.int .i64) a0.1, .v (.sl (.int .i64)) a0.2.1, .v (.sl (.int .i64)) a0.2.2] 28]⟩ (tn 8) ?_
  refine spB 17 h (fun h => ?_) (fun h => ?_)
  · refine sN T_ok [1, 25] [0] ⟨[(1, .lf (.ptr 0 0 0 0)), (25, B true)], [bx [.v (.int .i64) a0.1, .v (.sl (.int .i64)) a0.2.1, .v (.sl (.int .i64)) a0.2.2] 28]⟩ (tn 8) ?_
    refine VW.cond (b := true) (by kernel_rfl) (fun _ => ?_) (fun h' => nomatch h')
    refine sR T_ok [2] [] ⟨[(2, B false)], []⟩ (tn 1) ?_
    refine VW.ret ?_
    replace h := Option.some.inj h
    subst h
    exact rt []
  refine sN T_ok [1, 25] [0] ⟨[(1, .lf (.ptr 0 0 0 0)), (25, B ((a0.2.2.length : Int) != (a0.2.1.length : Int)))], [bx [.v (.int .i64) a0.1, .v (.sl (.int .i64)) a0.2.1, .v (.sl (.int .i64)) a0.2.2] 28]⟩ (tn 8) ?_
  refine cnd h (fun h => ?_) (fun h => ?_)
  · refine sR T_ok [2] [] ⟨[(2, B false)], []⟩ (tn 1) ?_
    refine VW.ret ?_
    replace h := Option.some.inj h
    subst h
    exact rt []
  refine VW.skip ?_
  refine VW.join (fun s => s = ⟨[], []⟩ ∧ F15_j0 N = some r) ?_ ?_
  · refine sR T_ok [1, 27, 28, 29] [0] ⟨[(1, .lf (.ptr 0 0 0 0)), (27, .lf (.v (.sl (.int .i64)) a0.2.1)), (28, I (a0.2.1.length : Int)), (29, I (0 : Int))], [bx [.v (.int .i64) a0.1, .v (.sl (.int .i64)) a0.2.1, .v (.sl (.int .i64)) a0.2.2] 28]⟩ (tn 4) ?_
    refine VW.block ?_
    refine lop (fun k s => ∃ (x61 : Int) (x62 : (List Int)) (x63 : (List Int)) (x64 : (List Int)) (x65 : Int) (x66 : Int), s = ⟨[(1, .lf (.ptr 0 0 0 0)), (27, .lf (.v (.sl (.int .i64)) x64)), (28, I x65), (29, I x66)], [bx [.v (.int .i64) x61, .v (.sl (.int .i64)) x62, .v (.sl (.int .i64)) x63] 28]⟩ ∧ F15_l0 N k x61 x62 x63 x64 x65 x66 = some r) N [.ren [1, 27, 28, 29] [0]] ⟨a0.1, a0.2.1, a0.2.2, a0.2.1, (a0.2.1.length : Int), (0 : Int), rfl, h⟩ ?_
    rintro k77 s ⟨x61, x62, x63, x64, x65, x66, rfl, h⟩
    cases k77 with
    | zero => cases show none = some r from h
    | succ k77 =>
      replace h : F15_l0_b N (F15_l0 N k77) x61 x62 x63 x64 x65 x66 = some r := h
      unfold F15_l0_b at h
      refine sR T_ok [1, 27, 28, 29, 30] [0] ⟨[(1, .lf (.ptr 0 0 0 0)), (27, .lf (.v (.sl (.int .i64)) x64)), (28, I x65), (29, I x66), (30, B (decide (x66 < x65)))], [bx [.v (.int .i64) x61, .v (.sl (.int .i64)) x62, .v (.sl (.int .i64)) x63] 28]⟩ (tn 1) ?_
      refine VW.seq ?_
      refine cnd h (fun h => ?_) (fun h => ?_)
      · refine VW.skip ?_
        refine VW.seq ?_
        refine VW.block ?_
        obtain ⟨g83, h⟩ := gd_some h
        refine sR T_ok [1, 3, 4, 27, 28, 29] [0] ⟨[(1, .lf (.ptr 0 0 0 0)), (3, I x66), (4, I (x64.getD x66.toNat (Ty.dflt (.int .i64)))), (27, .lf (.v (.sl (.int .i64)) x64)), (28, I x65), (29, I x66)], [bx [.v (.int .i64) x61, .v (.sl (.int .i64)) x62, .v (.sl (.int .i64)) x63] 28]⟩ (pu 1 (an g83 (tn 3))) ?_
        refine VW.seq ?_
        refine VW.region ?_
        refine sG T_ok 1 [1, 3, 4, 27, 28, 29, 34] [0] ⟨[(1, .lf (.ptr 0 0 0 0)), (3, I x66), (4, I (x64.getD x66.toNat (Ty.dflt (.int .i64)))), (27, .lf (.v (.sl (.int .i64)) x64)), (28, I x65), (29, I x66), (34, I (x64.getD x66.toNat (Ty.dflt (.int .i64))))], [bx [.v (.int .i64) x61, .v (.sl (.int .i64)) x62, .v (.sl (.int .i64)) x63] 28]⟩ (tn 1) ?_
        obtain ⟨y84, hy, h⟩ := andO_some h
        refine cal false [.t (.int .i64)] [] (some 35) T_ok (ok47 N _ hy) ?_
        refine sG T_ok 2 [1, 3, 4, 27, 28, 29, 37] [0] ⟨[(1, .lf (.ptr 0 0 0 0)), (3, I x66), (4, I (x64.getD x66.toNat (Ty.dflt (.int .i64)))), (27, .lf (.v (.sl (.int .i64)) x64)), (28, I x65), (29, I x66), (37, B (!y84))], [bx [.v (.int .i64) x61, .v (.sl (.int .i64)) x62, .v (.sl (.int .i64)) x63] 28]⟩ (tn 2) ?_
        refine spB 37 h (fun h => ?_) (fun h => ?_)
        · refine sN T_ok [1, 27, 28, 29, 53] [0] ⟨[(1, .lf (.ptr 0 0 0 0)), (27, .lf (.v (.sl (.int .i64)) x64)), (28, I x65), (29, I x66), (53, B true)], [bx [.v (.int .i64) x61, .v (.sl (.int .i64)) x62, .v (.sl (.int .i64)) x63] 28]⟩ (tn 16) ?_
          refine VW.cond (b := true) (by kernel_rfl) (fun _ => ?_) (fun h' => nomatch h')
          refine sR T_ok [2] [] ⟨[(2, B false)], []⟩ (tn 1) ?_
          refine VW.ret ?_
          replace h := Option.some.inj h
          subst h
          exact rt []
        obtain ⟨g85, h⟩ := gd_some h
        refine sG T_ok 5 [1, 3, 4, 27, 28, 29, 37, 42] [0] ⟨[(1, .lf (.ptr 0 0 0 0)), (3, I x66), (4, I (x64.getD x66.toNat (Ty.dflt (.int .i64)))), (27, .lf (.v (.sl (.int .i64)) x64)), (28, I x65), (29, I x66), (37, B false), (42, I (x63.getD x66.toNat (Ty.dflt (.int .i64))))], [bx [.v (.int .i64) x61, .v (.sl (.int .i64)) x62, .v (.sl (.int .i64)) x63] 28]⟩ (pu 3 (an g85 (tn 1))) ?_
        refine VO.on (j := 3) (want := false) (d := 37) (b := false) rfl rfl rfl (by kernel_rfl) rfl ?_
        obtain ⟨y86, hy, h⟩ := andO_some h
        refine cal false [.t (.int .i64)] [] (some 43) T_ok (ok47 N _ hy) ?_
        refine sG T_ok 3 [1, 3, 4, 27, 28, 29, 46] [0] ⟨[(1, .lf (.ptr 0 0 0 0)), (3, I x66), (4, I (x64.getD x66.toNat (Ty.dflt (.int .i64)))), (27, .lf (.v (.sl (.int .i64)) x64)), (28, I x65), (29, I x66), (46, B (!y86))], [bx [.v (.int .i64) x61, .v (.sl (.int .i64)) x62, .v (.sl (.int .i64)) x63] 28]⟩ (tn 3) ?_
        refine spB 46 h (fun h => ?_) (fun h => ?_)
        · refine sN T_ok [1, 27, 28, 29, 53] [0] ⟨[(1, .lf (.ptr 0 0 0 0)), (27, .lf (.v (.sl (.int .i64)) x64)), (28, I x65), (29, I x66), (53, B true)], [bx [.v (.int .i64) x61, .v (.sl (.int .i64)) x62, .v (.sl (.int .i64)) x63] 28]⟩ (tn 7) ?_
          refine VW.cond (b := true) (by kernel_rfl) (fun _ => ?_) (fun h' => nomatch h')
          refine sR T_ok [2] [] ⟨[(2, B false)], []⟩ (tn 1) ?_
          refine VW.ret ?_
          replace h := Option.some.inj h
          subst h
          exact rt []
        refine sG T_ok 3 [1, 3, 27, 28, 29, 46, 48, 49] [0] ⟨[(1, .lf (.ptr 0 0 0 0)), (3, I x66), (27, .lf (.v (.sl (.int .i64)) x64)), (28, I x65), (29, I x66), (46, B false), (48, .lf (.v (.sl (.int .i64)) x62)), (49, I (x64.getD x66.toNat (Ty.dflt (.int .i64))))], [bx [.v (.int .i64) x61, .v (.sl (.int .i64)) x62, .v (.sl (.int .i64)) x63] 28]⟩ (tn 3) ?_
        refine VO.on (j := 12) (want := false) (d := 46) (b := false) rfl rfl rfl (by kernel_rfl) rfl ?_
        obtain ⟨y87, hy, h⟩ := andO_some h
        refine cal false [.t (.sl (.int .i64)), .t (.int .i64)] [] (some 50) T_ok (ok48 N _ _ hy) ?_
        refine sN T_ok [1, 27, 28, 29, 53] [0] ⟨[(1, .lf (.ptr 0 0 0 0)), (27, .lf (.v (.sl (.int .i64)) x64)), (28, I x65), (29, I x66), (53, B (y87 != x66))], [bx [.v (.int .i64) x61, .v (.sl (.int .i64)) x62, .v (.sl (.int .i64)) x63] 28]⟩ (tn 3) ?_
        refine cnd h (fun h => ?_) (fun h => ?_)
        · refine sR T_ok [2] [] ⟨[(2, B false)], []⟩ (tn 1) ?_
          refine VW.ret ?_
          replace h := Option.some.inj h
          subst h
          exact rt []
        refine VW.skip ?_
        refine rR T_ok [1, 27, 28, 29] [0] ⟨[(1, .lf (.ptr 0 0 0 0)), (27, .lf (.v (.sl (.int .i64)) x64)), (28, I x65), (29, I (IntKind.i64.wrap (x66 + (1 : Int))))], [bx [.v (.int .i64) x61, .v (.sl (.int .i64)) x62, .v (.sl (.int .i64)) x63] 28]⟩ (tn 2) ?_
        exact aro [.ren [1, 27, 28, 29] [0]] ⟨x61, x62, x63, x64, x65, (IntKind.i64.wrap (x66 + (1 : Int))), rfl, h⟩
      refine VW.exit ?_
      exact arv [.ren [] []] ⟨rfl, h⟩
  rintro s ⟨rfl, h⟩
  unfold F15_j0 at h
  refine sR T_ok [2] [] ⟨[(2, B true)], []⟩ (tn 1) ?_
  refine VW.ret ?_
  replace h := Option.some.inj h
  subst h
  exact rt []

/- loop.example/g00844/impl.find -/
def F60 (N : Nat) (a0 : (Int × ((List Int) × (List Int)))) (a1 : Int) : Option (Int) :=
  andO (F15 N a0) fun y2 => cond (!y2) (some (-1 : Int)) (andO (F48 N a0.2.1 a1) fun y3 => some y3)
theorem ok60 (N : Nat) (a0 : (Int × ((List Int) × (List Int)))) (a1 : Int) {r : Int} (h : F60 N a0 a1 = some r) : Con Go.Proofs.Tryd.prog 60 [.agg [.v (.int .i64) a0.1, .v (.sl (.int .i64)) a0.2.1, .v (.sl (.int .i64)) a0.2.2], I a1] [.lf (.v (.int .i64) r)] := by
  refine ctr [.lf (.v (.int .i64))] T_ok Go.Proofs.Tryd.func60 rfl fun w0 E0 ht => ?_
  unfold F60 at h
  show VW _ _ _ _ _ (retQ _ _ _ _) _
  refine sR T_ok [1, 2] [0] ⟨[(1, I a1), (2, .lf (.ptr 0 0 0 0))], [bx [.v (.int .i64) a0.1, .v (.sl (.int .i64)) a0.2.1, .v (.sl (.int .i64)) a0.2.2] 28]⟩ (tn 2) ?_
  refine VW.seq ?_
  refine VW.seq ?_
  refine VW.region ?_
  refine sG T_ok 1 [1, 2, 5] [0] ⟨[(1, I a1), (2, .lf (.ptr 0 0 0 0)), (5, .agg [.v (.int .i64) a0.1, .v (.sl (.int .i64)) a0.2.1, .v (.sl (.int .i64)) a0.2.2])], [bx [.v (.int .i64) a0.1, .v (.sl (.int .i64)) a0.2.1, .v (.sl (.int .i64)) a0.2.2] 28]⟩ (tn 1) ?_
  obtain ⟨y2, hy, h⟩ := andO_some h
  refine cal false [.t Y27] [] (some 6) T_ok (ok15 N _ hy) ?_
  refine sN T_ok [1, 2, 7] [0] ⟨[(1, I a1), (2, .lf (.ptr 0 0 0 0)), (7, B (!y2))], [bx [.v (.int .i64) a0.1, .v (.sl (.int .i64)) a0.2.1, .v (.sl (.int .i64)) a0.2.2] 28]⟩ (tn 1) ?_
  refine cnd h (fun h => ?_) (fun h => ?_)
  · refine sR T_ok [4] [] ⟨[(4, I (-1 : Int))], []⟩ (tn 1) ?_
    refine VW.ret ?_
    replace h := Option.some.inj h
    subst h
    exact rt []
  refine VW.skip ?_
  refine VW.seq ?_
  refine VW.region ?_
  refine sG T_ok 3 [9, 10] [] ⟨[(9, .lf (.v (.sl (.int .i64)) a0.2.1)), (10, I a1)], []⟩ (tn 3) ?_
  obtain ⟨y3, hy, h⟩ := andO_some h
  refine cal false [.t (.sl (.int .i64)), .t (.int .i64)] [] (some 11) T_ok (ok48 N _ _ hy) ?_
  refine sN T_ok [4] [] ⟨[(4, I y3)], []⟩ (tn 1) ?_
  refine VW.ret ?_
  replace h := Option.some.inj h
  subst h
  exact rt []

/- slices.Clone[[]int,int] -/
def F69 (N : Nat) (a0 : (List Int)) : Option ((List Int)) :=
  gd (a0.length ≤ lim (.int .i64)) (some a0)
theorem ok69 (N : Nat) (a0 : (List Int)) {r : (List Int)} (h : F69 N a0 = some r) : Con Go.Proofs.Tryd.prog 69 [.lf (.v (.sl (.int .i64)) a0)] [.lf (.own (.int .i64) r .dp)] := by
  refine ctr [.lf (.own (.int .i64) .dp)] T_ok Go.Proofs.Tryd.func69 rfl fun w0 E0 ht => ?_
  unfold F69 at h
  show VW _ _ _ _ _ (retQ _ _ _ _) _
  refine sR T_ok [0] [] ⟨[(0, .lf (.v (.sl (.int .i64)) a0))], []⟩ (tn 1) ?_
  refine VW.seq ?_
  refine VW.seq ?_
  refine VW.region ?_
  refine sG T_ok 1 [0, 3] [] ⟨[(0, .lf (.v (.sl (.int .i64)) a0)), (3, .lf (.v (.sl (.int .i64)) a0))], []⟩ (tn 1) ?_
  refine VO.isNil (d := 4) (e := (.int .i64)) (xs := a0) T_ok rfl rfl rfl rfl (by kernel_rfl) (by kernel_rfl) (fun hx => ?_) ?_
  · replace h : some ([]) = some r := by
      subst hx; first | exact h | exact (gd_some h).2
    refine sN T_ok [0, 4] [] ⟨[(0, .lf (.v (.sl (.int .i64)) a0)), (4, B true)], []⟩ (tn 0) ?_
    refine VW.cond (b := true) (by kernel_rfl) (fun _ => ?_) (fun h' => nomatch h')
    refine sR T_ok [2] [] ⟨[(2, .lf (.nil))], []⟩ (tn 1) ?_
    refine VW.ret ?_
    replace h := Option.some.inj h
    subst h
    exact rt [none]
  refine sN T_ok [0, 4] [] ⟨[(0, .lf (.v (.sl (.int .i64)) a0)), (4, B false)], []⟩ (tn 0) ?_
  refine VW.cond (b := false) (by kernel_rfl) (fun h' => nomatch h') (fun _ => ?_)
  refine VW.skip ?_
  obtain ⟨g1, h⟩ := gd_some h
  refine sR T_ok [2] [0] ⟨[(2, .lf (.hd 0 0 none))], [ar 0 (.int .i64) a0 .dp]⟩ (pu 2 (an g1 (tn 1))) ?_
  refine VW.ret ?_
  replace h := Option.some.inj h
  subst h
  exact rt [some 0]

/- loop.example/g00844/impl.ownCache -/
def F61 (N : Nat) (a0 : (Int × ((List Int) × (List Int)))) : Option ((Int × ((List Int) × (List Int)))) :=
  andO (F69 N a0.2.1) fun y1 => andO (F69 N a0.2.2) fun y2 => some (a0.1, (y1, y2))
theorem ok61 (N : Nat) (a0 : (Int × ((List Int) × (List Int)))) {r : (Int × ((List Int) × (List Int)))} (h : F61 N a0 = some r) : Con Go.Proofs.Tryd.prog 61 [.agg [.v (.int .i64) a0.1, .v (.sl (.int .i64)) a0.2.1, .v (.sl (.int .i64)) a0.2.2]] [.agg [.v (.int .i64) r.1, .own (.int .i64) r.2.1 .dp, .own (.int .i64) r.2.2 .dp]] := by
  refine ctr [.agg [.v (.int .i64), .own (.int .i64) .dp, .own (.int .i64) .dp]] T_ok Go.Proofs.Tryd.func61 rfl fun w0 E0 ht => ?_
  unfold F61 at h
  show VW _ _ _ _ _ (retQ _ _ _ _) _
  refine sR T_ok [1, 2] [0, 1] ⟨[(1, .lf (.ptr 0 0 0 0)), (2, .lf (.ptr 1 0 0 0))], [bx [.v (.int .i64) a0.1, .v (.sl (.int .i64)) a0.2.1, .v (.sl (.int .i64)) a0.2.2] 28, bx [.v (.int .i64) (0 : Int), .nil, .nil] 28]⟩ (tn 2) ?_
  refine VW.seq ?_
  refine VW.region ?_
  refine sG T_ok 2 [1, 2, 4] [0, 1] ⟨[(1, .lf (.ptr 0 0 0 0)), (2, .lf (.ptr 1 0 0 0)), (4, .lf (.v (.sl (.int .i64)) a0.2.1))], [bx [.v (.int .i64) a0.1, .v (.sl (.int .i64)) a0.2.1, .v (.sl (.int .i64)) a0.2.2] 28, bx [.v (.int .i64) (0 : Int), .nil, .nil] 28]⟩ (tn 2) ?_
  obtain ⟨y1, hy, h⟩ := andO_some h
  refine cal false [.t (.sl (.int .i64))] [] (some 5) T_ok (ok69 N _ hy) ?_
  refine sN T_ok [1, 2] [0, 2, 1] ⟨[(1, .lf (.ptr 0 0 0 0)), (2, .lf (.ptr 2 0 0 0))], [bx [.v (.int .i64) a0.1, .hd 1 0 none, .v (.sl (.int .i64)) a0.2.2] 28, ar 0 (.int .i64) y1 .dp, bx [.v (.int .i64) (0 : Int), .nil, .nil] 28]⟩ (tn 2) ?_
  refine VW.seq ?_
  refine VW.region ?_
  refine sG T_ok 2 [1, 2, 8] [0, 1, 2] ⟨[(1, .lf (.ptr 0 0 0 0)), (2, .lf (.ptr 2 0 0 0)), (8, .lf (.v (.sl (.int .i64)) a0.2.2))], [bx [.v (.int .i64) a0.1, .hd 1 0 none, .v (.sl (.int .i64)) a0.2.2] 28, ar 0 (.int .i64) y1 .dp, bx [.v (.int .i64) (0 : Int), .nil, .nil] 28]⟩ (tn 2) ?_
  obtain ⟨y2, hy, h⟩ := andO_some h
  refine cal false [.t (.sl (.int .i64))] [] (some 9) T_ok (ok69 N _ hy) ?_
  refine sN T_ok [1, 2] [0, 1, 3, 2] ⟨[(1, .lf (.ptr 0 0 0 0)), (2, .lf (.ptr 3 0 0 0))], [bx [.v (.int .i64) a0.1, .hd 1 0 none, .hd 2 0 none] 28, ar 0 (.int .i64) y1 .dp, ar 0 (.int .i64) y2 .dp, bx [.v (.int .i64) (0 : Int), .nil, .nil] 28]⟩ (tn 2) ?_
  refine sR T_ok [2] [3, 1, 2] ⟨[(2, .lf (.ptr 0 0 0 0))], [bx [.v (.int .i64) a0.1, .hd 1 0 none, .hd 2 0 none] 28, ar 0 (.int .i64) y1 .dp, ar 0 (.int .i64) y2 .dp]⟩ (tn 2) ?_
  refine VW.ret ?_
  replace h := Option.some.inj h
  subst h
  exact rt [some 1, some 2]

/- slices.Delete[[]int,int] -/
def F70 (N : Nat) (a0 : (List Int)) (a1 : Int) (a2 : Int) : Option ((List Int)) :=
  gd (0 ≤ a1 ∧ a1 ≤ a2 ∧ a2 ≤ (a0.length : Int) ∧ (a0.length : Int) ≤ (a0.length : Int)) (cond (a1 == a2) (some a0) (gd (0 ≤ a1 ∧ a1 ≤ (a0.length : Int)) (gd (0 ≤ a2 ∧ a2 ≤ (a0.length : Int)) (gd (a1.toNat + ((a0.drop a2.toNat).take (a0.length - a2.toNat)).length ≤ a0.length ∧ a0.length ≤ lim (.int .i64)) (gd (0 ≤ ((a1.toNat + ((a0.drop a2.toNat).take (a0.length - a2.toNat)).length) : Int) ∧ ((a1.toNat + ((a0.drop a2.toNat).take (a0.length - a2.toNat)).length) : Int) ≤ (a0.length : Int) ∧ (a0.length : Int) ≤ ((a0.take a1.toNat ++ ((a0.drop a2.toNat).take (a0.length - a2.toNat)) ++ a0.drop (a1.toNat + ((a0.drop a2.toNat).take (a0.length - a2.toNat)).length)).length : Int) - (0 : Int)) (some (((a0.take a1.toNat ++ ((a0.drop a2.toNat).take (a0.length - a2.toNat)) ++ a0.drop (a1.toNat + ((a0.drop a2.toNat).take (a0.length - a2.toNat)).length)).take (0 + ((a1.toNat + ((a0.drop a2.toNat).take (a0.length - a2.toNat)).length) : Int).toNat) ++ List.replicate ((a0.length : Int).toNat - ((a1.toNat + ((a0.drop a2.toNat).take (a0.length - a2.toNat)).length) : Int).toNat) (Ty.dflt (.int .i64)) ++ (a0.take a1.toNat ++ ((a0.drop a2.toNat).take (a0.length - a2.toNat)) ++ a0.drop (a1.toNat + ((a0.drop a2.toNat).take (a0.length - a2.toNat)).length)).drop ((0 + ((a1.toNat + ((a0.drop a2.toNat).take (a0.length - a2.toNat)).length) : Int).toNat) + ((a0.length : Int).toNat - ((a1.toNat + ((a0.drop a2.toNat).take (a0.length - a2.toNat)).length) : Int).toNat))).take (a1.toNat + ((a0.drop a2.toNat).take (a0.length - a2.toNat)).length))))))))
theorem ok70 (N : Nat) (a0 : (List Int)) (a1 : Int) (a2 : Int) {r : (List Int)} (h : F70 N a0 a1 a2 = some r) : ConM Go.Proofs.Tryd.prog 70 [ar 0 (.int .i64) a0 .dp] [.lf (.hd 0 0 none), I a1, I a2] [.lf (.own (.int .i64) r .dp)] [none] := by
  refine ⟨enters_of Go.Proofs.Tryd.func70 rfl (by decide), HM.intro [.lf (.own (.int .i64) .dp)] T_ok Go.Proofs.Tryd.func70 rfl (Nat.le_of_ble_eq_true rfl) (Nat.le_of_ble_eq_true rfl) fun w0 E0 ht => ?_⟩
  unfold F70 at h
  show VW _ _ _ _ _ (retM _ _ _ _ _) _
  refine sR T_ok [0, 1, 2] [0] ⟨[(0, .lf (.hd 0 0 none)), (1, I a1), (2, I a2)], [ar 0 (.int .i64) a0 .dp]⟩ (tn 1) ?_
  obtain ⟨g1, h⟩ := gd_some h
  refine sR T_ok [0, 1, 2] [0] ⟨[(0, .lf (.hd 0 0 none)), (1, I a1), (2, I a2)], [ar 0 (.int .i64) a0 .dp]⟩ (pu 5 (an g1 (tn 0))) ?_
  refine VW.seq ?_
  refine sR T_ok [0, 1, 2, 16] [0] ⟨[(0, .lf (.hd 0 0 none)), (1, I a1), (2, I a2), (16, B (a1 == a2))], [ar 0 (.int .i64) a0 .dp]⟩ (tn 3) ?_
  refine cnd h (fun h => ?_) (fun h => ?_)
  · refine sR T_ok [6] [0] ⟨[(6, .lf (.hd 0 0 none))], [ar 0 (.int .i64) a0 .dp]⟩ (tn 2) ?_
    replace h := Option.some.inj h
    subst h
    refine VW.ghl [.ren [6] [100000, 0]] (VW.ret ?_)
    exact ⟨[some 1], by kernel_rfl, by kernel_rfl, by kernel_rfl⟩
  refine VW.skip ?_
  refine sR T_ok [0, 1, 2, 7] [0] ⟨[(0, .lf (.hd 0 0 none)), (1, I a1), (2, I a2), (7, I (a0.length : Int))], [ar 0 (.int .i64) a0 .dp]⟩ (tn 3) ?_
  refine VW.seq ?_
  obtain ⟨g2, h⟩ := gd_some h
  obtain ⟨g3, h⟩ := gd_some h
  obtain ⟨g4, h⟩ := gd_some h
  refine VW.drawn (by kernel_rfl) [some (20, .lf (.hd 0 0 none)), some (21, I a1), some (22, .lf (.hd 0 0 (some (0, a1.toNat)))), some (23, .lf (.hd 0 0 none)), some (24, I a2), some (25, .lf (.hd 0 0 (some (a2.toNat, (a0.length - a2.toNat))))), some (26, .lf (.hd 0 0 (some (0, (a1.toNat + ((a0.drop a2.toNat).take (a0.length - a2.toNat)).length))))), some (0, .lf (.hd 0 0 (some (0, (a1.toNat + ((a0.drop a2.toNat).take (a0.length - a2.toNat)).length)))))] [6] [[ar 0 (.int .i64) a0 .dp], [ar 0 (.int .i64) (a0.take a1.toNat ++ ((a0.drop a2.toNat).take (a0.length - a2.toNat)) ++ a0.drop (a1.toNat + ((a0.drop a2.toNat).take (a0.length - a2.toNat)).length)) .dp]] [(0, 0), (0, 1), (1, 0), (1, 1), (2, 0), (3, 0), (3, 1), (4, 0), (4, 1), (5, 0), (6, 0), (7, 1)] [0, 7] [0] (s' := ⟨[(0, .lf (.hd 0 0 (some (0, (a1.toNat + ((a0.drop a2.toNat).take (a0.length - a2.toNat)).length))))), (7, I (a0.length : Int))], [ar 0 (.int .i64) (a0.take a1.toNat ++ ((a0.drop a2.toNat).take (a0.length - a2.toNat)) ++ a0.drop (a1.toNat + ((a0.drop a2.toNat).take (a0.length - a2.toNat)).length)) .dp]⟩) (by kernel_rfl) (by kernel_rfl) ⟨⟨_, rfl, Stp.ev T_ok (m := .dp) (φ := True) (by kernel_rfl) trivial⟩,
    ⟨_, rfl, Stp.ev T_ok (m := .dp) (φ := True) (by kernel_rfl) trivial⟩,
    ⟨_, rfl, Stp.ev T_ok (m := .dp) (φ := True) (by kernel_rfl) trivial⟩,
    ⟨_, rfl, Stp.ev T_ok (m := .dp) (φ := True) (by kernel_rfl) trivial⟩,
    ⟨_, rfl, Stp.ev T_ok (m := .dp) (φ := 0 ≤ a1 ∧ a1 ≤ (a0.length : Int)) (by kernel_rfl) g2⟩,
    ⟨_, rfl, Stp.ev T_ok (m := .dp) (φ := True) (by kernel_rfl) trivial⟩,
    ⟨_, rfl, Stp.ev T_ok (m := .dp) (φ := True) (by kernel_rfl) trivial⟩,
    ⟨_, rfl, Stp.ev T_ok (m := .dp) (φ := True) (by kernel_rfl) trivial⟩,
    ⟨_, rfl, Stp.ev T_ok (m := .dp) (φ := True) (by kernel_rfl) trivial⟩,
    ⟨_, rfl, Stp.ev T_ok (m := .dp) (φ := 0 ≤ a2 ∧ a2 ≤ (a0.length : Int)) (by kernel_rfl) g3⟩,
    ⟨_, rfl, Stp.ev T_ok (m := .dp) (φ := a1.toNat + ((a0.drop a2.toNat).take (a0.length - a2.toNat)).length ≤ a0.length ∧ a0.length ≤ lim (.int .i64)) (by kernel_rfl) g4⟩,
    ⟨_, rfl, Stp.ev T_ok (m := .dp) (φ := True) (by kernel_rfl) trivial⟩, trivial⟩ (by kernel_rfl) ?_
  obtain ⟨g5, h⟩ := gd_some h
  refine sR T_ok [0] [0] ⟨[(0, .lf (.hd 0 0 (some (0, (a1.toNat + ((a0.drop a2.toNat).take (a0.length - a2.toNat)).length)))))], [ar 0 (.int .i64) ((a0.take a1.toNat ++ ((a0.drop a2.toNat).take (a0.length - a2.toNat)) ++ a0.drop (a1.toNat + ((a0.drop a2.toNat).take (a0.length - a2.toNat)).length)).take (0 + ((a1.toNat + ((a0.drop a2.toNat).take (a0.length - a2.toNat)).length) : Int).toNat) ++ List.replicate ((a0.length : Int).toNat - ((a1.toNat + ((a0.drop a2.toNat).take (a0.length - a2.toNat)).length) : Int).toNat) (Ty.dflt (.int .i64)) ++ (a0.take a1.toNat ++ ((a0.drop a2.toNat).take (a0.length - a2.toNat)) ++ a0.drop (a1.toNat + ((a0.drop a2.toNat).take (a0.length - a2.toNat)).length)).drop ((0 + ((a1.toNat + ((a0.drop a2.toNat).take (a0.length - a2.toNat)).length) : Int).toNat) + ((a0.length : Int).toNat - ((a1.toNat + ((a0.drop a2.toNat).take (a0.length - a2.toNat)).length) : Int).toNat))) .dp]⟩ (pu 4 (an g5 (tn 1))) ?_
  refine sR T_ok [6] [0] ⟨[(6, .lf (.hd 0 0 (some (0, (a1.toNat + ((a0.drop a2.toNat).take (a0.length - a2.toNat)).length)))))], [ar 0 (.int .i64) ((a0.take a1.toNat ++ ((a0.drop a2.toNat).take (a0.length - a2.toNat)) ++ a0.drop (a1.toNat + ((a0.drop a2.toNat).take (a0.length - a2.toNat)).length)).take (0 + ((a1.toNat + ((a0.drop a2.toNat).take (a0.length - a2.toNat)).length) : Int).toNat) ++ List.replicate ((a0.length : Int).toNat - ((a1.toNat + ((a0.drop a2.toNat).take (a0.length - a2.toNat)).length) : Int).toNat) (Ty.dflt (.int .i64)) ++ (a0.take a1.toNat ++ ((a0.drop a2.toNat).take (a0.length - a2.toNat)) ++ a0.drop (a1.toNat + ((a0.drop a2.toNat).take (a0.length - a2.toNat)).length)).drop ((0 + ((a1.toNat + ((a0.drop a2.toNat).take (a0.length - a2.toNat)).length) : Int).toNat) + ((a0.length : Int).toNat - ((a1.toNat + ((a0.drop a2.toNat).take (a0.length - a2.toNat)).length) : Int).toNat))) .dp]⟩ (tn 2) ?_
  replace h := Option.some.inj h
  subst h
  refine VW.ghl [.shr 6, .ren [6] [100000, 0]] (VW.ret ?_)
  exact ⟨[some 1], by kernel_rfl, by kernel_rfl, by kernel_rfl⟩

end Go.Proofs.YtgpddckjpokclaaDoor.Vc
