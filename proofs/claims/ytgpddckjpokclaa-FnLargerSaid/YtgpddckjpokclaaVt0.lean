/- What functions of the program compute, and that they do. -/
import Derived.Test.YtgpddckjpokclaaProg
import Derived.Test.YtgpddckjpokclaaVc36
namespace Go.Proofs.Ytgpddckjpokclaa.Vc
open Go Go.RowKit
set_option linter.unusedVariables false
set_option maxRecDepth 100000
set_option maxHeartbeats 4000000
abbrev Y7 : Ty := .pair (.int .i64) (.pair (.int .i64) (.pair .bool (.int .u8)))
abbrev Y13 : Ty := .pair .str (.int .u64)
abbrev Y31 : Ty := .pair (.int .i64) (.pair (.sl (.pair .str (.int .i64))) (.pair (.sl (.pair (.int .i64) (.pair (.sl (.pair (.int .i64) (.pair .str (.pair (.int .i64) (.pair (.int .i64) (.pair (.int .i64) (.pair .bool (.sl (.int .i64))))))))) (.pair (.sl (.pair (.int .i64) (.pair .str (.pair (.int .i64) (.pair (.int .i64) (.pair (.int .i64) (.pair .bool (.sl (.int .i64))))))))) (.pair (.int .i64) (.int .i64)))))) (.pair (.int .i64) (.pair (.int .i64) (.pair (.int .i64) (.pair (.int .i64) (.pair (.int .i64) (.int .i64))))))))
abbrev Y58 : Ty := .pair (.int .i64) (.pair (.sl (.int .i64)) (.sl (.int .i64)))
abbrev Y69 : Ty := .pair (.int .i64) (.int .i64)
abbrev Y93 : Ty := .pair .str (.int .i64)
abbrev Y105 : Ty := .pair (.int .i64) (.pair .str (.pair (.int .i64) (.pair (.int .i64) (.pair (.int .i64) (.pair .bool (.sl (.int .i64)))))))
abbrev Y151 : Ty := .pair (.int .i64) (.pair (.sl Y105) (.pair (.sl Y105) Y69))
abbrev Y159 : Ty := .pair (.sl (.int .u8)) Y69
abbrev Y182 : Ty := .pair (.sl (.int .u8)) (.pair (.int .i64) .bool)
def TL : List (Nat × TI) := [(2, { ty := (.int .i64) }),
  (3, { ty := (.int .i64) }),
  (4, { ty := .bool }),
  (5, { ty := (.int .u8) }),
  (6, { ty := (.int .u8) }),
  (7, { ty := Y7, offs := [0, 1, 2, 3], szs := [1, 1, 1, 1] }),
  (8, { ty := Y7, offs := [0, 1, 2, 3], szs := [1, 1, 1, 1] }),
  (9, { ty := .str }),
  (10, { ty := .str }),
  (11, { ty := .str }),
  (12, { ty := (.int .u64) }),
  (13, { ty := Y13, offs := [0, 1], szs := [1, 1] }),
  (14, { ty := Y13, offs := [0, 1], szs := [1, 1] }),
  (21, { ty := (.int .i32) }),
  (22, { ty := (.sl .str), elem := 9 }),
  (27, { ty := (.sl Y93), elem := 94 }),
  (29, { ty := (.sl Y93), elem := 98 }),
  (30, { ty := (.sl Y151), elem := 152 }),
  (31, { ty := Y31, offs := [0, 1, 2, 3, 4, 5, 6, 7, 8], szs := [1, 1, 1, 1, 1, 1, 1, 1, 1] }),
  (32, { ty := Y31, offs := [0, 1, 2, 3, 4, 5, 6, 7, 8], szs := [1, 1, 1, 1, 1, 1, 1, 1, 1] }),
  (41, { ty := (.sl Y105), elem := 106 }),
  (44, { ty := (.sl Y105), elem := 107 }),
  (48, { ty := (.sl (.int .i64)), elem := 3 }),
  (53, { ty := (.sl (.int .u8)), elem := 5 }),
  (58, { ty := Y58, offs := [0, 1, 2], szs := [1, 1, 1] }),
  (59, { ty := Y58, offs := [0, 1, 2], szs := [1, 1, 1] }),
  (69, { ty := Y69, offs := [0, 1], szs := [1, 1] }),
  (70, { ty := Y69, offs := [0, 1], szs := [1, 1] }),
  (73, { ty := Y69, offs := [0, 1], szs := [1, 1] }),
  (76, { ty := (.sl Y69), elem := 73 }),
  (93, { ty := Y93, offs := [0, 1], szs := [1, 1] }),
  (94, { ty := Y93, offs := [0, 1], szs := [1, 1] }),
  (98, { ty := Y93, offs := [0, 1], szs := [1, 1] }),
  (105, { ty := Y105, offs := [0, 1, 2, 3, 4, 5, 6], szs := [1, 1, 1, 1, 1, 1, 1] }),
  (106, { ty := Y105, offs := [0, 1, 2, 3, 4, 5, 6], szs := [1, 1, 1, 1, 1, 1, 1] }),
  (107, { ty := Y105, offs := [0, 1, 2, 3, 4, 5, 6], szs := [1, 1, 1, 1, 1, 1, 1] }),
  (133, { ty := (.sl (.sl Y105)), elem := 44 }),
  (146, { ty := (.sl Y69), elem := 148 }),
  (147, { ty := Y69, offs := [0, 1], szs := [1, 1] }),
  (148, { ty := Y69, offs := [0, 1], szs := [1, 1] }),
  (151, { ty := Y151, offs := [0, 1, 2, 3, 4], szs := [1, 1, 1, 1, 1] }),
  (152, { ty := Y151, offs := [0, 1, 2, 3, 4], szs := [1, 1, 1, 1, 1] }),
  (158, { ty := (.int .u64) }),
  (159, { ty := Y159, offs := [0, 1, 2], szs := [1, 1, 1] }),
  (160, { ty := Y159, offs := [0, 1, 2], szs := [1, 1, 1] }),
  (182, { ty := Y182, offs := [0, 1, 2], szs := [1, 1, 1] }),
  (183, { ty := Y182, offs := [0, 1, 2], szs := [1, 1, 1] }),
  (190, { ty := (.int .i64) }),
  (198, { ty := (.int .u32) }),
  (200, { ty := (.int .u64) }),
  (205, { ty := (.sl (.sl (.int .u8))), elem := 53 }),
  (207, { ty := (.int .u64) }),
  (225, { ty := (.int .u8) }),
  (226, { ty := (.int .u8) }),
  (229, { ty := (.int .i32) }),
  (230, { ty := (.int .i32) })]
abbrev T : Tab := lookT TL
theorem T_ok : TabOk Go.Proofs.Try.prog T := tabOk_of TL (by kernel_rfl)
theorem T_rec : RecOk Go.Proofs.Try.prog T := recOk_of TL (by kernel_rfl)
/- loop.example/g00844/spec.l01In -/
def F71 (N : Nat) (a0 : Int) (a1 : Int) (a2 : Int) : Option (Bool) :=
  cond (decide (a1 ≤ a0)) (some (decide (a0 ≤ a2))) (some false)
theorem ok71 (N : Nat) (a0 : Int) (a1 : Int) (a2 : Int) {r : Bool} (h : F71 N a0 a1 a2 = some r) : Con Go.Proofs.Try.prog 71 [I a0, I a1, I a2] [.lf (.v .bool r)] := by
  refine ctr [.lf (.v .bool)] T_ok Go.Proofs.Try.func71 rfl fun w0 E0 ht => ?_
  unfold F71 at h
  show VW _ _ _ _ _ (retQ _ _ _ _) _
  refine sR T_ok [0, 1, 2] [] ⟨[(0, I a0), (1, I a1), (2, I a2)], []⟩ (tn 1) ?_
  refine VW.seq ?_
  refine VW.region ?_
  refine sG T_ok 4 [0, 2, 10] [] ⟨[(0, I a0), (2, I a2), (10, B (decide (a1 ≤ a0)))], []⟩ (tn 4) ?_
  refine spB 10 h (fun h => ?_) (fun h => ?_)
  · refine sN T_ok [6] [] ⟨[(6, B (decide (a0 ≤ a2)))], []⟩ (tn 5) ?_
    refine VW.ret ?_
    replace h := Option.some.inj h
    subst h
    exact rt []
  refine sN T_ok [6] [] ⟨[(6, B false)], []⟩ (tn 5) ?_
  refine VW.ret ?_
  replace h := Option.some.inj h
  subst h
  exact rt []

/- loop.example/g00844/impl.in -/
def F130 (N : Nat) (a0 : Int) (a1 : Int) (a2 : Int) : Option (Bool) :=
  cond (decide (a0 ≥ a1)) (some (decide (a0 ≤ a2))) (some false)
theorem ok130 (N : Nat) (a0 : Int) (a1 : Int) (a2 : Int) {r : Bool} (h : F130 N a0 a1 a2 = some r) : Con Go.Proofs.Try.prog 130 [I a0, I a1, I a2] [.lf (.v .bool r)] := by
  refine ctr [.lf (.v .bool)] T_ok Go.Proofs.Try.func130 rfl fun w0 E0 ht => ?_
  unfold F130 at h
  show VW _ _ _ _ _ (retQ _ _ _ _) _
  refine sR T_ok [0, 1, 2] [] ⟨[(0, I a0), (1, I a1), (2, I a2)], []⟩ (tn 1) ?_
  refine VW.seq ?_
  refine VW.region ?_
  refine sG T_ok 4 [0, 2, 10] [] ⟨[(0, I a0), (2, I a2), (10, B (decide (a0 ≥ a1)))], []⟩ (tn 4) ?_
  refine spB 10 h (fun h => ?_) (fun h => ?_)
  · refine sN T_ok [6] [] ⟨[(6, B (decide (a0 ≤ a2)))], []⟩ (tn 5) ?_
    refine VW.ret ?_
    replace h := Option.some.inj h
    subst h
    exact rt []
  refine sN T_ok [6] [] ⟨[(6, B false)], []⟩ (tn 5) ?_
  refine VW.ret ?_
  replace h := Option.some.inj h
  subst h
  exact rt []

/- loop.example/g00844/impl.isCap -/
def F75 (N : Nat) (a0 : Int) : Option (Bool) :=
  andO (F130 N a0 (1 : Int) (16 : Int)) fun y1 => some y1
theorem ok75 (N : Nat) (a0 : Int) {r : Bool} (h : F75 N a0 = some r) : Con Go.Proofs.Try.prog 75 [I a0] [.lf (.v .bool r)] := by
  refine ctr [.lf (.v .bool)] T_ok Go.Proofs.Try.func75 rfl fun w0 E0 ht => ?_
  unfold F75 at h
  show VW _ _ _ _ _ (retQ _ _ _ _) _
  refine sR T_ok [0] [] ⟨[(0, I a0)], []⟩ (tn 1) ?_
  refine VW.seq ?_
  refine VW.region ?_
  refine sG T_ok 1 [3] [] ⟨[(3, I a0)], []⟩ (tn 1) ?_
  obtain ⟨y1, hy, h⟩ := andO_some h
  refine cal false [.t (.int .i64), .t (.int .i64), .t (.int .i64)] [] (some 4) T_ok (ok130 N _ _ _ hy) ?_
  refine sN T_ok [2] [] ⟨[(2, B y1)], []⟩ (tn 1) ?_
  refine VW.ret ?_
  replace h := Option.some.inj h
  subst h
  exact rt []

/- loop.example/g00844/spec.l01Number -/
def F156 (N : Nat) (a0 : Int) : Option (Bool) :=
  andO (F71 N a0 (-1000000 : Int) (1000000 : Int)) fun y1 => some y1
theorem ok156 (N : Nat) (a0 : Int) {r : Bool} (h : F156 N a0 = some r) : Con Go.Proofs.Try.prog 156 [I a0] [.lf (.v .bool r)] := by
  refine ctr [.lf (.v .bool)] T_ok Go.Proofs.Try.func156 rfl fun w0 E0 ht => ?_
  unfold F156 at h
  show VW _ _ _ _ _ (retQ _ _ _ _) _
  refine sR T_ok [0] [] ⟨[(0, I a0)], []⟩ (tn 1) ?_
  refine VW.seq ?_
  refine VW.region ?_
  refine sG T_ok 1 [3] [] ⟨[(3, I a0)], []⟩ (tn 1) ?_
  obtain ⟨y1, hy, h⟩ := andO_some h
  refine cal false [.t (.int .i64), .t (.int .i64), .t (.int .i64)] [] (some 4) T_ok (ok71 N _ _ _ hy) ?_
  refine sN T_ok [2] [] ⟨[(2, B y1)], []⟩ (tn 1) ?_
  refine VW.ret ?_
  replace h := Option.some.inj h
  subst h
  exact rt []

/- loop.example/g00844/impl.isNum -/
def F152 (N : Nat) (a0 : Int) : Option (Bool) :=
  andO (F130 N a0 (-1000000 : Int) (1000000 : Int)) fun y1 => some y1
theorem ok152 (N : Nat) (a0 : Int) {r : Bool} (h : F152 N a0 = some r) : Con Go.Proofs.Try.prog 152 [I a0] [.lf (.v .bool r)] := by
  refine ctr [.lf (.v .bool)] T_ok Go.Proofs.Try.func152 rfl fun w0 E0 ht => ?_
  unfold F152 at h
  show VW _ _ _ _ _ (retQ _ _ _ _) _
  refine sR T_ok [0] [] ⟨[(0, I a0)], []⟩ (tn 1) ?_
  refine VW.seq ?_
  refine VW.region ?_
  refine sG T_ok 1 [3] [] ⟨[(3, I a0)], []⟩ (tn 1) ?_
  obtain ⟨y1, hy, h⟩ := andO_some h
  refine cal false [.t (.int .i64), .t (.int .i64), .t (.int .i64)] [] (some 4) T_ok (ok130 N _ _ _ hy) ?_
  refine sN T_ok [2] [] ⟨[(2, B y1)], []⟩ (tn 1) ?_
  refine VW.ret ?_
  replace h := Option.some.inj h
  subst h
  exact rt []

/- loop.example/g00844/spec.l01Has -/
def F87_j0 (N : Nat) : Option (Bool) :=
  some false
def F87_l0_b (N : Nat) (a0 : (List Int)) (a1 : Int) (nx15 : Int → Option (Bool)) (x12 : Int) : Option (Bool) :=
  cond (decide (x12 < (a0.length : Int))) (gd (InR x12 a0.length) (cond ((a0.getD x12.toNat (Ty.dflt (.int .i64))) == a1) (some true) (nx15 (IntKind.i64.wrap (x12 + (1 : Int)))))) (F87_j0 N)
def F87_l0 (N : Nat) (a0 : (List Int)) (a1 : Int) : Nat → Int → Option (Bool) := loopF (F87_l0_b N a0 a1) (fun _ => none)
theorem F87_l0_s (N : Nat) (a0 : (List Int)) (a1 : Int) {k : Nat} (hk : 0 < k) (x12 : Int) : F87_l0 N a0 a1 k x12 = F87_l0_b N a0 a1 (F87_l0 N a0 a1 (k - 1)) x12 := by
  cases k with
  | zero => exact absurd hk (Nat.lt_irrefl 0)
  | succ m => rfl
def F87 (N : Nat) (a0 : (List Int)) (a1 : Int) : Option (Bool) :=
  F87_l0 N a0 a1 N (0 : Int)
theorem ok87 (N : Nat) (a0 : (List Int)) (a1 : Int) {r : Bool} (h : F87 N a0 a1 = some r) : Con Go.Proofs.Try.prog 87 [.lf (.v (.sl (.int .i64)) a0), I a1] [.lf (.v .bool r)] := by
  refine ctr [.lf (.v .bool)] T_ok Go.Proofs.Try.func87 rfl fun w0 E0 ht => ?_
  unfold F87 at h
  show VW _ _ _ _ _ (retQ _ _ _ _) _
  refine sR T_ok [0, 1] [] ⟨[(0, .lf (.v (.sl (.int .i64)) a0)), (1, I a1)], []⟩ (tn 1) ?_
  refine VW.join (fun s => s = ⟨[], []⟩ ∧ F87_j0 N = some r) ?_ ?_
  · refine sR T_ok [0, 1, 5] [] ⟨[(0, .lf (.v (.sl (.int .i64)) a0)), (1, I a1), (5, I (0 : Int))], []⟩ (tn 1) ?_
    refine VW.block ?_
    refine lop (fun k s => ∃ (x12 : Int), s = ⟨[(0, .lf (.v (.sl (.int .i64)) a0)), (1, I a1), (5, I x12)], []⟩ ∧ F87_l0 N a0 a1 k x12 = some r) N [.ren [0, 1, 5] []] ⟨(0 : Int), rfl, h⟩ ?_
    rintro k15 s ⟨x12, rfl, h⟩
    cases k15 with
    | zero => cases show none = some r from h
    | succ k15 =>
      replace h : F87_l0_b N a0 a1 (F87_l0 N a0 a1 k15) x12 = some r := h
      unfold F87_l0_b at h
      refine VW.seq ?_
      refine sR T_ok [0, 1, 5, 9] [] ⟨[(0, .lf (.v (.sl (.int .i64)) a0)), (1, I a1), (5, I x12), (9, B (decide (x12 < (a0.length : Int))))], []⟩ (tn 4) ?_
      refine cnd h (fun h => ?_) (fun h => ?_)
      · refine VW.skip ?_
        refine VW.seq ?_
        refine VW.block ?_
        obtain ⟨g17, h⟩ := gd_some h
        refine sR T_ok [0, 1, 5, 17] [] ⟨[(0, .lf (.v (.sl (.int .i64)) a0)), (1, I a1), (5, I x12), (17, B ((a0.getD x12.toNat (Ty.dflt (.int .i64))) == a1))], []⟩ (pu 2 (an g17 (tn 3))) ?_
        refine cnd h (fun h => ?_) (fun h => ?_)
        · refine sR T_ok [4] [] ⟨[(4, B true)], []⟩ (tn 1) ?_
          refine VW.ret ?_
          replace h := Option.some.inj h
          subst h
          exact rt []
        refine VW.skip ?_
        refine rR T_ok [0, 1, 5] [] ⟨[(0, .lf (.v (.sl (.int .i64)) a0)), (1, I a1), (5, I (IntKind.i64.wrap (x12 + (1 : Int))))], []⟩ (tn 3) ?_
        exact aro [.ren [0, 1, 5] []] ⟨(IntKind.i64.wrap (x12 + (1 : Int))), rfl, h⟩
      refine VW.exit ?_
      exact arv [.ren [] []] ⟨rfl, h⟩
  rintro s ⟨rfl, h⟩
  unfold F87_j0 at h
  refine sR T_ok [4] [] ⟨[(4, B false)], []⟩ (tn 1) ?_
  refine VW.ret ?_
  replace h := Option.some.inj h
  subst h
  exact rt []

/- loop.example/g00844/laws.big -/
def F36 (N : Nat) (a0 : (List Int)) : Option (Bool) :=
  some (decide ((a0.length : Int) > (1048576 : Int)))
theorem ok36 (N : Nat) (a0 : (List Int)) {r : Bool} (h : F36 N a0 = some r) : Con Go.Proofs.Try.prog 36 [.lf (.v (.sl (.int .u8)) a0)] [.lf (.v .bool r)] := by
  refine ctr [.lf (.v .bool)] T_ok Go.Proofs.Try.func36 rfl fun w0 E0 ht => ?_
  unfold F36 at h
  show VW _ _ _ _ _ (retQ _ _ _ _) _
  refine sR T_ok [0] [] ⟨[(0, .lf (.v (.sl (.int .u8)) a0))], []⟩ (tn 1) ?_
  refine sR T_ok [2] [] ⟨[(2, B (decide ((a0.length : Int) > (1048576 : Int))))], []⟩ (tn 4) ?_
  refine VW.ret ?_
  replace h := Option.some.inj h
  subst h
  exact rt []

/- loop.example/g00844/spec.l01New -/
def F91_j0 (N : Nat) (a0 : (List Int)) (x11 : Int) : Option (((List Int) × (Int × Int))) :=
  some (a0, ((0 : Int), x11))
def F91_l0_b (N : Nat) (a0 : (List Int)) (nx20 : Int → Int → Option (((List Int) × (Int × Int)))) (x16 : Int) (x17 : Int) : Option (((List Int) × (Int × Int))) :=
  cond (decide (x17 < (a0.length : Int))) (cond (decide (x17 < (4000 : Int))) (gd (InR x17 a0.length) (nx20 (IntKind.i64.wrap (((BitVec.ofInt IntKind.i64.bits (IntKind.i64.wrap ((IntKind.i64.wrap ((IntKind.i64.wrap (x16 * (149 : Int))) + (IntKind.i64.wrap (a0.getD x17.toNat (Ty.dflt (.int .u8)))))) + (11 : Int))) &&& BitVec.ofInt IntKind.i64.bits (1073741823 : Int)).toNat : Nat) : Int)) (IntKind.i64.wrap (x17 + (1 : Int))))) (F91_j0 N a0 x16)) (F91_j0 N a0 x16)
def F91_l0 (N : Nat) (a0 : (List Int)) : Nat → Int → Int → Option (((List Int) × (Int × Int))) := loopF (F91_l0_b N a0) (fun _ _ => none)
theorem F91_l0_s (N : Nat) (a0 : (List Int)) {k : Nat} (hk : 0 < k) (x16 : Int) (x17 : Int) : F91_l0 N a0 k x16 x17 = F91_l0_b N a0 (F91_l0 N a0 (k - 1)) x16 x17 := by
  cases k with
  | zero => exact absurd hk (Nat.lt_irrefl 0)
  | succ m => rfl
def F91 (N : Nat) (a0 : (List Int)) : Option (((List Int) × (Int × Int))) :=
  F91_l0 N a0 N (IntKind.i64.wrap ((844844 : Int) + (a0.length : Int))) (0 : Int)
theorem ok91 (N : Nat) (a0 : (List Int)) {r : ((List Int) × (Int × Int))} (h : F91 N a0 = some r) : ConB Go.Proofs.Try.prog 91 [.lf (.v (.sl (.int .u8)) a0)] [.v (.sl (.int .u8)) r.1, .v (.int .i64) r.2.1, .v (.int .i64) r.2.2] 160 := by
  refine ⟨enters_of Go.Proofs.Try.func91 rfl (by decide), by kernel_rfl, HB.intro (d := 2) Go.Proofs.Try.func91 rfl (Nat.le_of_ble_eq_true rfl) (Nat.le_of_ble_eq_true rfl) rfl (by kernel_rfl) fun w0 E0 ht => ?_⟩
  unfold F91 at h
  show VW _ _ _ _ _ (retB _ _ _) _
  refine sR T_ok [0] [] ⟨[(0, .lf (.v (.sl (.int .u8)) a0))], []⟩ (tn 1) ?_
  refine sR T_ok [0, 3] [] ⟨[(0, .lf (.v (.sl (.int .u8)) a0)), (3, I (IntKind.i64.wrap ((844844 : Int) + (a0.length : Int))))], []⟩ (tn 4) ?_
  refine VW.join (fun s => ∃ (x11 : Int), s = ⟨[(0, .lf (.v (.sl (.int .u8)) a0)), (3, I x11)], []⟩ ∧ F91_j0 N a0 x11 = some r) ?_ ?_
  · refine sR T_ok [0, 3, 4] [] ⟨[(0, .lf (.v (.sl (.int .u8)) a0)), (3, I (IntKind.i64.wrap ((844844 : Int) + (a0.length : Int)))), (4, I (0 : Int))], []⟩ (tn 1) ?_
    refine VW.block ?_
    refine lop (fun k s => ∃ (x16 : Int) (x17 : Int), s = ⟨[(0, .lf (.v (.sl (.int .u8)) a0)), (3, I x16), (4, I x17)], []⟩ ∧ F91_l0 N a0 k x16 x17 = some r) N [.ren [0, 3, 4] []] ⟨(IntKind.i64.wrap ((844844 : Int) + (a0.length : Int))), (0 : Int), rfl, h⟩ ?_
    rintro k20 s ⟨x16, x17, rfl, h⟩
    cases k20 with
    | zero => cases show none = some r from h
    | succ k20 =>
      replace h : F91_l0_b N a0 (F91_l0 N a0 k20) x16 x17 = some r := h
      unfold F91_l0_b at h
      refine VW.seq ?_
      refine VW.seq ?_
      refine VW.region ?_
      refine sG T_ok 5 [0, 3, 4, 12] [] ⟨[(0, .lf (.v (.sl (.int .u8)) a0)), (3, I x16), (4, I x17), (12, B (decide (x17 < (a0.length : Int))))], []⟩ (tn 5) ?_
      refine spB 12 h (fun h => ?_) (fun h => ?_)
      · refine sN T_ok [0, 3, 4, 15] [] ⟨[(0, .lf (.v (.sl (.int .u8)) a0)), (3, I x16), (4, I x17), (15, B (decide (x17 < (4000 : Int))))], []⟩ (tn 3) ?_
        refine cnd h (fun h => ?_) (fun h => ?_)
        · refine VW.skip ?_
          refine VW.seq ?_
          refine VW.block ?_
          obtain ⟨g22, h⟩ := gd_some h
          refine rR T_ok [0, 3, 4] [] ⟨[(0, .lf (.v (.sl (.int .u8)) a0)), (3, I (IntKind.i64.wrap (((BitVec.ofInt IntKind.i64.bits (IntKind.i64.wrap ((IntKind.i64.wrap ((IntKind.i64.wrap (x16 * (149 : Int))) + (IntKind.i64.wrap (a0.getD x17.toNat (Ty.dflt (.int .u8)))))) + (11 : Int))) &&& BitVec.ofInt IntKind.i64.bits (1073741823 : Int)).toNat : Nat) : Int))), (4, I x17)], []⟩ (pu 4 (an g22 (tn 6))) ?_
          refine rR T_ok [0, 3, 4] [] ⟨[(0, .lf (.v (.sl (.int .u8)) a0)), (3, I (IntKind.i64.wrap (((BitVec.ofInt IntKind.i64.bits (IntKind.i64.wrap ((IntKind.i64.wrap ((IntKind.i64.wrap (x16 * (149 : Int))) + (IntKind.i64.wrap (a0.getD x17.toNat (Ty.dflt (.int .u8)))))) + (11 : Int))) &&& BitVec.ofInt IntKind.i64.bits (1073741823 : Int)).toNat : Nat) : Int))), (4, I (IntKind.i64.wrap (x17 + (1 : Int))))], []⟩ (tn 3) ?_
          exact aro [.ren [0, 3, 4] []] ⟨(IntKind.i64.wrap (((BitVec.ofInt IntKind.i64.bits (IntKind.i64.wrap ((IntKind.i64.wrap ((IntKind.i64.wrap (x16 * (149 : Int))) + (IntKind.i64.wrap (a0.getD x17.toNat (Ty.dflt (.int .u8)))))) + (11 : Int))) &&& BitVec.ofInt IntKind.i64.bits (1073741823 : Int)).toNat : Nat) : Int)), (IntKind.i64.wrap (x17 + (1 : Int))), rfl, h⟩
        refine VW.exit ?_
        exact arv [.ren [0, 3] []] ⟨x16, rfl, h⟩
      refine sN T_ok [0, 3, 4, 15] [] ⟨[(0, .lf (.v (.sl (.int .u8)) a0)), (3, I x16), (4, I x17), (15, B false)], []⟩ (tn 3) ?_
      refine VW.cond (b := false) (by kernel_rfl) (fun h' => nomatch h') (fun _ => ?_)
      refine VW.exit ?_
      exact arv [.ren [0, 3] []] ⟨x16, rfl, h⟩
  rintro s ⟨x11, rfl, h⟩
  unfold F91_j0 at h
  refine sR T_ok [2] [0] ⟨[(2, .lf (.ptr 0 0 0 0))], [bx [.v (.sl (.int .u8)) a0, .v (.int .i64) (0 : Int), .v (.int .i64) x11] 160]⟩ (tn 5) ?_
  replace h := Option.some.inj h
  subst h
  refine VW.ret ?_
  exact ⟨0, 0, by kernel_rfl, by kernel_rfl⟩

/- loop.example/g00844/spec.l01Byte -/
def F151_j0 (N : Nat) (x2 : Int) (x3 : (List Int)) (x4 : Int) (x5 : Int) : Option (((List Int) × (Int × Int)) × Int) :=
  some ((x3, (x4, x5)), x2)
def F151 (N : Nat) (a0 : ((List Int) × (Int × Int))) : Option (((List Int) × (Int × Int)) × Int) :=
  cond (decide (a0.2.1 < (a0.1.length : Int))) (gd (InR a0.2.1 a0.1.length) (F151_j0 N (IntKind.i64.wrap (((BitVec.ofInt IntKind.i64.bits (IntKind.i64.wrap ((IntKind.i64.wrap (((BitVec.ofInt IntKind.i64.bits (IntKind.i64.wrap (((BitVec.ofInt IntKind.i64.bits (Int.fdiv (IntKind.i64.wrap ((IntKind.i64.wrap (a0.2.2 * (6364136223846793005 : Int))) + (1442695040888963407 : Int))) (2 ^ (min (33 : Int).toNat IntKind.i64.bits))) ^^^ BitVec.ofInt IntKind.i64.bits (Int.fdiv (IntKind.i64.wrap ((IntKind.i64.wrap (a0.2.2 * (6364136223846793005 : Int))) + (1442695040888963407 : Int))) (2 ^ (min (45 : Int).toNat IntKind.i64.bits)))).toNat : Nat) : Int)) &&& BitVec.ofInt IntKind.i64.bits (255 : Int)).toNat : Nat) : Int)) + (IntKind.i64.wrap (a0.1.getD a0.2.1.toNat (Ty.dflt (.int .u8)))))) &&& BitVec.ofInt IntKind.i64.bits (255 : Int)).toNat : Nat) : Int)) a0.1 (IntKind.i64.wrap (a0.2.1 + (1 : Int))) (IntKind.i64.wrap ((IntKind.i64.wrap (a0.2.2 * (6364136223846793005 : Int))) + (1442695040888963407 : Int))))) (F151_j0 N (IntKind.i64.wrap (((BitVec.ofInt IntKind.i64.bits (IntKind.i64.wrap (((BitVec.ofInt IntKind.i64.bits (Int.fdiv (IntKind.i64.wrap ((IntKind.i64.wrap (a0.2.2 * (6364136223846793005 : Int))) + (1442695040888963407 : Int))) (2 ^ (min (33 : Int).toNat IntKind.i64.bits))) ^^^ BitVec.ofInt IntKind.i64.bits (Int.fdiv (IntKind.i64.wrap ((IntKind.i64.wrap (a0.2.2 * (6364136223846793005 : Int))) + (1442695040888963407 : Int))) (2 ^ (min (45 : Int).toNat IntKind.i64.bits)))).toNat : Nat) : Int)) &&& BitVec.ofInt IntKind.i64.bits (255 : Int)).toNat : Nat) : Int)) a0.1 a0.2.1 (IntKind.i64.wrap ((IntKind.i64.wrap (a0.2.2 * (6364136223846793005 : Int))) + (1442695040888963407 : Int))))
theorem ok151 (N : Nat) (a0 : ((List Int) × (Int × Int))) {r : ((List Int) × (Int × Int)) × Int} (h : F151 N a0 = some r) : ConM Go.Proofs.Try.prog 151 [bx [.v (.sl (.int .u8)) a0.1, .v (.int .i64) a0.2.1, .v (.int .i64) a0.2.2] 160] [.lf (.ptr 0 0 0 0)] [.lf (.v (.int .i64) r.2)] [bx [.v (.sl (.int .u8)) r.1.1, .v (.int .i64) r.1.2.1, .v (.int .i64) r.1.2.2] 160] := by
  refine ⟨enters_of Go.Proofs.Try.func151 rfl (by decide), HM.intro [.lf (.v (.int .i64))] T_ok Go.Proofs.Try.func151 rfl (Nat.le_of_ble_eq_true rfl) (Nat.le_of_ble_eq_true rfl) fun w0 E0 ht => ?_⟩
  unfold F151 at h
  show VW _ _ _ _ _ (retM _ _ _ _ _) _
  refine sR T_ok [0, 65536] [0] ⟨[(0, .lf (.ptr 0 0 0 0)), (65536, .lf (.ptr 0 0 0 0))], [bx [.v (.sl (.int .u8)) a0.1, .v (.int .i64) a0.2.1, .v (.int .i64) a0.2.2] 160]⟩ (tn 1) ?_
  refine sR T_ok [0, 65536] [0] ⟨[(0, .lf (.ptr 0 0 0 0)), (65536, .lf (.ptr 0 0 0 0))], [bx [.v (.sl (.int .u8)) a0.1, .v (.int .i64) a0.2.1, .v (.int .i64) (IntKind.i64.wrap ((IntKind.i64.wrap (a0.2.2 * (6364136223846793005 : Int))) + (1442695040888963407 : Int)))] 160]⟩ (tn 10) ?_
  refine VW.seq ?_
  refine VW.drawn (by kernel_rfl) [some (13, .lf (.ptr 0 0 0 0)), some (14, .lf (.ptr 0 0 0 0)), some (15, .lf (.ptr 0 0 0 2)), some (16, I (IntKind.i64.wrap ((IntKind.i64.wrap (a0.2.2 * (6364136223846793005 : Int))) + (1442695040888963407 : Int)))), some (17, I (Int.fdiv (IntKind.i64.wrap ((IntKind.i64.wrap (a0.2.2 * (6364136223846793005 : Int))) + (1442695040888963407 : Int))) (2 ^ (min (33 : Int).toNat IntKind.i64.bits)))), some (18, .lf (.ptr 0 0 0 0)), some (19, .lf (.ptr 0 0 0 0)), some (20, .lf (.ptr 0 0 0 2)), some (21, I (IntKind.i64.wrap ((IntKind.i64.wrap (a0.2.2 * (6364136223846793005 : Int))) + (1442695040888963407 : Int)))), some (22, I (Int.fdiv (IntKind.i64.wrap ((IntKind.i64.wrap (a0.2.2 * (6364136223846793005 : Int))) + (1442695040888963407 : Int))) (2 ^ (min (45 : Int).toNat IntKind.i64.bits)))), some (23, I (IntKind.i64.wrap (((BitVec.ofInt IntKind.i64.bits (Int.fdiv (IntKind.i64.wrap ((IntKind.i64.wrap (a0.2.2 * (6364136223846793005 : Int))) + (1442695040888963407 : Int))) (2 ^ (min (33 : Int).toNat IntKind.i64.bits))) ^^^ BitVec.ofInt IntKind.i64.bits (Int.fdiv (IntKind.i64.wrap ((IntKind.i64.wrap (a0.2.2 * (6364136223846793005 : Int))) + (1442695040888963407 : Int))) (2 ^ (min (45 : Int).toNat IntKind.i64.bits)))).toNat : Nat) : Int))), some (24, I (IntKind.i64.wrap (((BitVec.ofInt IntKind.i64.bits (IntKind.i64.wrap (((BitVec.ofInt IntKind.i64.bits (Int.fdiv (IntKind.i64.wrap ((IntKind.i64.wrap (a0.2.2 * (6364136223846793005 : Int))) + (1442695040888963407 : Int))) (2 ^ (min (33 : Int).toNat IntKind.i64.bits))) ^^^ BitVec.ofInt IntKind.i64.bits (Int.fdiv (IntKind.i64.wrap ((IntKind.i64.wrap (a0.2.2 * (6364136223846793005 : Int))) + (1442695040888963407 : Int))) (2 ^ (min (45 : Int).toNat IntKind.i64.bits)))).toNat : Nat) : Int)) &&& BitVec.ofInt IntKind.i64.bits (255 : Int)).toNat : Nat) : Int))), some (3, I (IntKind.i64.wrap (((BitVec.ofInt IntKind.i64.bits (IntKind.i64.wrap (((BitVec.ofInt IntKind.i64.bits (Int.fdiv (IntKind.i64.wrap ((IntKind.i64.wrap (a0.2.2 * (6364136223846793005 : Int))) + (1442695040888963407 : Int))) (2 ^ (min (33 : Int).toNat IntKind.i64.bits))) ^^^ BitVec.ofInt IntKind.i64.bits (Int.fdiv (IntKind.i64.wrap ((IntKind.i64.wrap (a0.2.2 * (6364136223846793005 : Int))) + (1442695040888963407 : Int))) (2 ^ (min (45 : Int).toNat IntKind.i64.bits)))).toNat : Nat) : Int)) &&& BitVec.ofInt IntKind.i64.bits (255 : Int)).toNat : Nat) : Int)))] [] [[bx [.v (.sl (.int .u8)) a0.1, .v (.int .i64) a0.2.1, .v (.int .i64) (IntKind.i64.wrap ((IntKind.i64.wrap (a0.2.2 * (6364136223846793005 : Int))) + (1442695040888963407 : Int)))] 160]] [(0, 0), (1, 0), (2, 0), (3, 0), (4, 0), (5, 0), (6, 0), (7, 0), (8, 0), (9, 0), (10, 0), (11, 0), (12, 0)] [0, 3, 65536] [0] (s' := ⟨[(0, .lf (.ptr 0 0 0 0)), (3, I (IntKind.i64.wrap (((BitVec.ofInt IntKind.i64.bits (IntKind.i64.wrap (((BitVec.ofInt IntKind.i64.bits (Int.fdiv (IntKind.i64.wrap ((IntKind.i64.wrap (a0.2.2 * (6364136223846793005 : Int))) + (1442695040888963407 : Int))) (2 ^ (min (33 : Int).toNat IntKind.i64.bits))) ^^^ BitVec.ofInt IntKind.i64.bits (Int.fdiv (IntKind.i64.wrap ((IntKind.i64.wrap (a0.2.2 * (6364136223846793005 : Int))) + (1442695040888963407 : Int))) (2 ^ (min (45 : Int).toNat IntKind.i64.bits)))).toNat : Nat) : Int)) &&& BitVec.ofInt IntKind.i64.bits (255 : Int)).toNat : Nat) : Int))), (65536, .lf (.ptr 0 0 0 0))], [bx [.v (.sl (.int .u8)) a0.1, .v (.int .i64) a0.2.1, .v (.int .i64) (IntKind.i64.wrap ((IntKind.i64.wrap (a0.2.2 * (6364136223846793005 : Int))) + (1442695040888963407 : Int)))] 160]⟩) (by kernel_rfl) (by kernel_rfl) ⟨⟨_, rfl, Stp.ev T_ok (m := .dp) (φ := True) (by kernel_rfl) trivial⟩,
    ⟨_, rfl, Stp.ev T_ok (m := .dp) (φ := True) (by kernel_rfl) trivial⟩,
    ⟨_, rfl, Stp.ev T_ok (m := .dp) (φ := True) (by kernel_rfl) trivial⟩,
    ⟨_, rfl, Stp.ev T_ok (m := .dp) (φ := True) (by kernel_rfl) trivial⟩,
    ⟨_, rfl, Stp.ev T_ok (m := .dp) (φ := 0 ≤ (33 : Int)) (by kernel_rfl) (by decide)⟩,
    ⟨_, rfl, Stp.ev T_ok (m := .dp) (φ := True) (by kernel_rfl) trivial⟩,
    ⟨_, rfl, Stp.ev T_ok (m := .dp) (φ := True) (by kernel_rfl) trivial⟩,
    ⟨_, rfl, Stp.ev T_ok (m := .dp) (φ := True) (by kernel_rfl) trivial⟩,
    ⟨_, rfl, Stp.ev T_ok (m := .dp) (φ := True) (by kernel_rfl) trivial⟩,
    ⟨_, rfl, Stp.ev T_ok (m := .dp) (φ := 0 ≤ (45 : Int)) (by kernel_rfl) (by decide)⟩,
    ⟨_, rfl, Stp.ev T_ok (m := .dp) (φ := True) (by kernel_rfl) trivial⟩,
    ⟨_, rfl, Stp.ev T_ok (m := .dp) (φ := True) (by kernel_rfl) trivial⟩,
    ⟨_, rfl, Stp.ev T_ok (m := .dp) (φ := True) (by kernel_rfl) trivial⟩, trivial⟩ (by kernel_rfl) ?_
  refine VW.join (fun s => ∃ (x2 : Int) (x3 : (List Int)) (x4 : Int) (x5 : Int), s = ⟨[(3, I x2), (65536, .lf (.ptr 0 0 0 0))], [bx [.v (.sl (.int .u8)) x3, .v (.int .i64) x4, .v (.int .i64) x5] 160]⟩ ∧ F151_j0 N x2 x3 x4 x5 = some r) ?_ ?_
  · refine VW.seq ?_
    refine VW.drawn (by kernel_rfl) [some (25, .lf (.ptr 0 0 0 0)), some (26, .lf (.ptr 0 0 0 0)), some (27, .lf (.ptr 0 0 0 1)), some (28, I a0.2.1), some (29, .lf (.ptr 0 0 0 0)), some (30, .lf (.ptr 0 0 0 0)), some (31, .lf (.ptr 0 0 0 0)), some (32, .lf (.v (.sl (.int .u8)) a0.1)), some (33, I (a0.1.length : Int)), some (34, B (decide (a0.2.1 < (a0.1.length : Int))))] [] [[bx [.v (.sl (.int .u8)) a0.1, .v (.int .i64) a0.2.1, .v (.int .i64) (IntKind.i64.wrap ((IntKind.i64.wrap (a0.2.2 * (6364136223846793005 : Int))) + (1442695040888963407 : Int)))] 160]] [(0, 0), (1, 0), (2, 0), (3, 0), (4, 0), (5, 0), (6, 0), (7, 0), (8, 0), (9, 0)] [0, 3, 34, 65536] [0] (s' := ⟨[(0, .lf (.ptr 0 0 0 0)), (3, I (IntKind.i64.wrap (((BitVec.ofInt IntKind.i64.bits (IntKind.i64.wrap (((BitVec.ofInt IntKind.i64.bits (Int.fdiv (IntKind.i64.wrap ((IntKind.i64.wrap (a0.2.2 * (6364136223846793005 : Int))) + (1442695040888963407 : Int))) (2 ^ (min (33 : Int).toNat IntKind.i64.bits))) ^^^ BitVec.ofInt IntKind.i64.bits (Int.fdiv (IntKind.i64.wrap ((IntKind.i64.wrap (a0.2.2 * (6364136223846793005 : Int))) + (1442695040888963407 : Int))) (2 ^ (min (45 : Int).toNat IntKind.i64.bits)))).toNat : Nat) : Int)) &&& BitVec.ofInt IntKind.i64.bits (255 : Int)).toNat : Nat) : Int))), (34, B (decide (a0.2.1 < (a0.1.length : Int)))), (65536, .lf (.ptr 0 0 0 0))], [bx [.v (.sl (.int .u8)) a0.1, .v (.int .i64) a0.2.1, .v (.int .i64) (IntKind.i64.wrap ((IntKind.i64.wrap (a0.2.2 * (6364136223846793005 : Int))) + (1442695040888963407 : Int)))] 160]⟩) (by kernel_rfl) (by kernel_rfl) ⟨⟨_, rfl, Stp.ev T_ok (m := .dp) (φ := True) (by kernel_rfl) trivial⟩,
    ⟨_, rfl, Stp.ev T_ok (m := .dp) (φ := True) (by kernel_rfl) trivial⟩,
    ⟨_, rfl, Stp.ev T_ok (m := .dp) (φ := True) (by kernel_rfl) trivial⟩,
    ⟨_, rfl, Stp.ev T_ok (m := .dp) (φ := True) (by kernel_rfl) trivial⟩,
    ⟨_, rfl, Stp.ev T_ok (m := .dp) (φ := True) (by kernel_rfl) trivial⟩,
    ⟨_, rfl, Stp.ev T_ok (m := .dp) (φ := True) (by kernel_rfl) trivial⟩,
    ⟨_, rfl, Stp.ev T_ok (m := .dp) (φ := True) (by kernel_rfl) trivial⟩,
    ⟨_, rfl, Stp.ev T_ok (m := .dp) (φ := True) (by kernel_rfl) trivial⟩,
    ⟨_, rfl, Stp.ev T_ok (m := .dp) (φ := True) (by kernel_rfl) trivial⟩,
    ⟨_, rfl, Stp.ev T_ok (m := .dp) (φ := True) (by kernel_rfl) trivial⟩, trivial⟩ (by kernel_rfl) ?_
    refine cnd h (fun h => ?_) (fun h => ?_)
    · refine VW.seq ?_
      obtain ⟨g7, h⟩ := gd_some h
      refine VW.drawn (by kernel_rfl) [some (35, I (IntKind.i64.wrap (((BitVec.ofInt IntKind.i64.bits (IntKind.i64.wrap (((BitVec.ofInt IntKind.i64.bits (Int.fdiv (IntKind.i64.wrap ((IntKind.i64.wrap (a0.2.2 * (6364136223846793005 : Int))) + (1442695040888963407 : Int))) (2 ^ (min (33 : Int).toNat IntKind.i64.bits))) ^^^ BitVec.ofInt IntKind.i64.bits (Int.fdiv (IntKind.i64.wrap ((IntKind.i64.wrap (a0.2.2 * (6364136223846793005 : Int))) + (1442695040888963407 : Int))) (2 ^ (min (45 : Int).toNat IntKind.i64.bits)))).toNat : Nat) : Int)) &&& BitVec.ofInt IntKind.i64.bits (255 : Int)).toNat : Nat) : Int))), some (36, .lf (.ptr 0 0 0 0)), some (37, .lf (.ptr 0 0 0 0)), some (38, .lf (.ptr 0 0 0 0)), some (39, .lf (.v (.sl (.int .u8)) a0.1)), some (40, .lf (.ptr 0 0 0 0)), some (41, .lf (.ptr 0 0 0 0)), some (42, .lf (.ptr 0 0 0 1)), some (43, I a0.2.1), some (44, .lf (.fp (.int .u8) (a0.1.getD a0.2.1.toNat (Ty.dflt (.int .u8))) 0)), some (45, U (a0.1.getD a0.2.1.toNat (Ty.dflt (.int .u8)))), some (46, I (IntKind.i64.wrap (a0.1.getD a0.2.1.toNat (Ty.dflt (.int .u8))))), some (47, I (IntKind.i64.wrap ((IntKind.i64.wrap (((BitVec.ofInt IntKind.i64.bits (IntKind.i64.wrap (((BitVec.ofInt IntKind.i64.bits (Int.fdiv (IntKind.i64.wrap ((IntKind.i64.wrap (a0.2.2 * (6364136223846793005 : Int))) + (1442695040888963407 : Int))) (2 ^ (min (33 : Int).toNat IntKind.i64.bits))) ^^^ BitVec.ofInt IntKind.i64.bits (Int.fdiv (IntKind.i64.wrap ((IntKind.i64.wrap (a0.2.2 * (6364136223846793005 : Int))) + (1442695040888963407 : Int))) (2 ^ (min (45 : Int).toNat IntKind.i64.bits)))).toNat : Nat) : Int)) &&& BitVec.ofInt IntKind.i64.bits (255 : Int)).toNat : Nat) : Int)) + (IntKind.i64.wrap (a0.1.getD a0.2.1.toNat (Ty.dflt (.int .u8))))))), some (48, I (IntKind.i64.wrap (((BitVec.ofInt IntKind.i64.bits (IntKind.i64.wrap ((IntKind.i64.wrap (((BitVec.ofInt IntKind.i64.bits (IntKind.i64.wrap (((BitVec.ofInt IntKind.i64.bits (Int.fdiv (IntKind.i64.wrap ((IntKind.i64.wrap (a0.2.2 * (6364136223846793005 : Int))) + (1442695040888963407 : Int))) (2 ^ (min (33 : Int).toNat IntKind.i64.bits))) ^^^ BitVec.ofInt IntKind.i64.bits (Int.fdiv (IntKind.i64.wrap ((IntKind.i64.wrap (a0.2.2 * (6364136223846793005 : Int))) + (1442695040888963407 : Int))) (2 ^ (min (45 : Int).toNat IntKind.i64.bits)))).toNat : Nat) : Int)) &&& BitVec.ofInt IntKind.i64.bits (255 : Int)).toNat : Nat) : Int)) + (IntKind.i64.wrap (a0.1.getD a0.2.1.toNat (Ty.dflt (.int .u8)))))) &&& BitVec.ofInt IntKind.i64.bits (255 : Int)).toNat : Nat) : Int))), some (3, I (IntKind.i64.wrap (((BitVec.ofInt IntKind.i64.bits (IntKind.i64.wrap ((IntKind.i64.wrap (((BitVec.ofInt IntKind.i64.bits (IntKind.i64.wrap (((BitVec.ofInt IntKind.i64.bits (Int.fdiv (IntKind.i64.wrap ((IntKind.i64.wrap (a0.2.2 * (6364136223846793005 : Int))) + (1442695040888963407 : Int))) (2 ^ (min (33 : Int).toNat IntKind.i64.bits))) ^^^ BitVec.ofInt IntKind.i64.bits (Int.fdiv (IntKind.i64.wrap ((IntKind.i64.wrap (a0.2.2 * (6364136223846793005 : Int))) + (1442695040888963407 : Int))) (2 ^ (min (45 : Int).toNat IntKind.i64.bits)))).toNat : Nat) : Int)) &&& BitVec.ofInt IntKind.i64.bits (255 : Int)).toNat : Nat) : Int)) + (IntKind.i64.wrap (a0.1.getD a0.2.1.toNat (Ty.dflt (.int .u8)))))) &&& BitVec.ofInt IntKind.i64.bits (255 : Int)).toNat : Nat) : Int)))] [] [[bx [.v (.sl (.int .u8)) a0.1, .v (.int .i64) a0.2.1, .v (.int .i64) (IntKind.i64.wrap ((IntKind.i64.wrap (a0.2.2 * (6364136223846793005 : Int))) + (1442695040888963407 : Int)))] 160]] [(0, 0), (1, 0), (2, 0), (3, 0), (4, 0), (5, 0), (6, 0), (7, 0), (8, 0), (9, 0), (10, 0), (11, 0), (12, 0), (13, 0), (14, 0)] [0, 3, 65536] [0] (s' := ⟨[(0, .lf (.ptr 0 0 0 0)), (3, I (IntKind.i64.wrap (((BitVec.ofInt IntKind.i64.bits (IntKind.i64.wrap ((IntKind.i64.wrap (((BitVec.ofInt IntKind.i64.bits (IntKind.i64.wrap (((BitVec.ofInt IntKind.i64.bits (Int.fdiv (IntKind.i64.wrap ((IntKind.i64.wrap (a0.2.2 * (6364136223846793005 : Int))) + (1442695040888963407 : Int))) (2 ^ (min (33 : Int).toNat IntKind.i64.bits))) ^^^ BitVec.ofInt IntKind.i64.bits (Int.fdiv (IntKind.i64.wrap ((IntKind.i64.wrap (a0.2.2 * (6364136223846793005 : Int))) + (1442695040888963407 : Int))) (2 ^ (min (45 : Int).toNat IntKind.i64.bits)))).toNat : Nat) : Int)) &&& BitVec.ofInt IntKind.i64.bits (255 : Int)).toNat : Nat) : Int)) + (IntKind.i64.wrap (a0.1.getD a0.2.1.toNat (Ty.dflt (.int .u8)))))) &&& BitVec.ofInt IntKind.i64.bits (255 : Int)).toNat : Nat) : Int))), (65536, .lf (.ptr 0 0 0 0))], [bx [.v (.sl (.int .u8)) a0.1, .v (.int .i64) a0.2.1, .v (.int .i64) (IntKind.i64.wrap ((IntKind.i64.wrap (a0.2.2 * (6364136223846793005 : Int))) + (1442695040888963407 : Int)))] 160]⟩) (by kernel_rfl) (by kernel_rfl) ⟨⟨_, rfl, Stp.ev T_ok (m := .dp) (φ := True) (by kernel_rfl) trivial⟩,
    ⟨_, rfl, Stp.ev T_ok (m := .dp) (φ := True) (by kernel_rfl) trivial⟩,
    ⟨_, rfl, Stp.ev T_ok (m := .dp) (φ := True) (by kernel_rfl) trivial⟩,
    ⟨_, rfl, Stp.ev T_ok (m := .dp) (φ := True) (by kernel_rfl) trivial⟩,
    ⟨_, rfl, Stp.ev T_ok (m := .dp) (φ := True) (by kernel_rfl) trivial⟩,
    ⟨_, rfl, Stp.ev T_ok (m := .dp) (φ := True) (by kernel_rfl) trivial⟩,
    ⟨_, rfl, Stp.ev T_ok (m := .dp) (φ := True) (by kernel_rfl) trivial⟩,
    ⟨_, rfl, Stp.ev T_ok (m := .dp) (φ := True) (by kernel_rfl) trivial⟩,
    ⟨_, rfl, Stp.ev T_ok (m := .dp) (φ := True) (by kernel_rfl) trivial⟩,
    ⟨_, rfl, Stp.ev T_ok (m := .dp) (φ := InR a0.2.1 a0.1.length) (by kernel_rfl) g7⟩,
    ⟨_, rfl, Stp.ev T_ok (m := .dp) (φ := True) (by kernel_rfl) trivial⟩,
    ⟨_, rfl, Stp.ev T_ok (m := .dp) (φ := True) (by kernel_rfl) trivial⟩,
    ⟨_, rfl, Stp.ev T_ok (m := .dp) (φ := True) (by kernel_rfl) trivial⟩,
    ⟨_, rfl, Stp.ev T_ok (m := .dp) (φ := True) (by kernel_rfl) trivial⟩,
    ⟨_, rfl, Stp.ev T_ok (m := .dp) (φ := True) (by kernel_rfl) trivial⟩, trivial⟩ (by kernel_rfl) ?_
      refine rR T_ok [3, 65536] [0] ⟨[(3, I (IntKind.i64.wrap (((BitVec.ofInt IntKind.i64.bits (IntKind.i64.wrap ((IntKind.i64.wrap (((BitVec.ofInt IntKind.i64.bits (IntKind.i64.wrap (((BitVec.ofInt IntKind.i64.bits (Int.fdiv (IntKind.i64.wrap ((IntKind.i64.wrap (a0.2.2 * (6364136223846793005 : Int))) + (1442695040888963407 : Int))) (2 ^ (min (33 : Int).toNat IntKind.i64.bits))) ^^^ BitVec.ofInt IntKind.i64.bits (Int.fdiv (IntKind.i64.wrap ((IntKind.i64.wrap (a0.2.2 * (6364136223846793005 : Int))) + (1442695040888963407 : Int))) (2 ^ (min (45 : Int).toNat IntKind.i64.bits)))).toNat : Nat) : Int)) &&& BitVec.ofInt IntKind.i64.bits (255 : Int)).toNat : Nat) : Int)) + (IntKind.i64.wrap (a0.1.getD a0.2.1.toNat (Ty.dflt (.int .u8)))))) &&& BitVec.ofInt IntKind.i64.bits (255 : Int)).toNat : Nat) : Int))), (65536, .lf (.ptr 0 0 0 0))], [bx [.v (.sl (.int .u8)) a0.1, .v (.int .i64) (IntKind.i64.wrap (a0.2.1 + (1 : Int))), .v (.int .i64) (IntKind.i64.wrap ((IntKind.i64.wrap (a0.2.2 * (6364136223846793005 : Int))) + (1442695040888963407 : Int)))] 160]⟩ (tn 9) ?_
      exact arv [.ren [3, 65536] [0]] ⟨(IntKind.i64.wrap (((BitVec.ofInt IntKind.i64.bits (IntKind.i64.wrap ((IntKind.i64.wrap (((BitVec.ofInt IntKind.i64.bits (IntKind.i64.wrap (((BitVec.ofInt IntKind.i64.bits (Int.fdiv (IntKind.i64.wrap ((IntKind.i64.wrap (a0.2.2 * (6364136223846793005 : Int))) + (1442695040888963407 : Int))) (2 ^ (min (33 : Int).toNat IntKind.i64.bits))) ^^^ BitVec.ofInt IntKind.i64.bits (Int.fdiv (IntKind.i64.wrap ((IntKind.i64.wrap (a0.2.2 * (6364136223846793005 : Int))) + (1442695040888963407 : Int))) (2 ^ (min (45 : Int).toNat IntKind.i64.bits)))).toNat : Nat) : Int)) &&& BitVec.ofInt IntKind.i64.bits (255 : Int)).toNat : Nat) : Int)) + (IntKind.i64.wrap (a0.1.getD a0.2.1.toNat (Ty.dflt (.int .u8)))))) &&& BitVec.ofInt IntKind.i64.bits (255 : Int)).toNat : Nat) : Int)), a0.1, (IntKind.i64.wrap (a0.2.1 + (1 : Int))), (IntKind.i64.wrap ((IntKind.i64.wrap (a0.2.2 * (6364136223846793005 : Int))) + (1442695040888963407 : Int))), rfl, h⟩
    refine VW.skip ?_
    exact arv [.ren [3, 65536] [0]] ⟨(IntKind.i64.wrap (((BitVec.ofInt IntKind.i64.bits (IntKind.i64.wrap (((BitVec.ofInt IntKind.i64.bits (Int.fdiv (IntKind.i64.wrap ((IntKind.i64.wrap (a0.2.2 * (6364136223846793005 : Int))) + (1442695040888963407 : Int))) (2 ^ (min (33 : Int).toNat IntKind.i64.bits))) ^^^ BitVec.ofInt IntKind.i64.bits (Int.fdiv (IntKind.i64.wrap ((IntKind.i64.wrap (a0.2.2 * (6364136223846793005 : Int))) + (1442695040888963407 : Int))) (2 ^ (min (45 : Int).toNat IntKind.i64.bits)))).toNat : Nat) : Int)) &&& BitVec.ofInt IntKind.i64.bits (255 : Int)).toNat : Nat) : Int)), a0.1, a0.2.1, (IntKind.i64.wrap ((IntKind.i64.wrap (a0.2.2 * (6364136223846793005 : Int))) + (1442695040888963407 : Int))), rfl, h⟩
  rintro s ⟨x2, x3, x4, x5, rfl, h⟩
  unfold F151_j0 at h
  refine sR T_ok [2, 65536] [0] ⟨[(2, I x2), (65536, .lf (.ptr 0 0 0 0))], [bx [.v (.sl (.int .u8)) x3, .v (.int .i64) x4, .v (.int .i64) x5] 160]⟩ (tn 2) ?_
  replace h := Option.some.inj h
  subst h
  refine VW.ghl [.ren [2, 65536] [0]] (VW.ret ?_)
  exact ⟨[], by kernel_rfl, by kernel_rfl, by kernel_rfl⟩

/- loop.example/g00844/spec.l01Below -/
def F92 (N : Nat) (a0 : ((List Int) × (Int × Int))) (a1 : Int) : Option (((List Int) × (Int × Int)) × Int) :=
  cond (decide (a1 ≤ (0 : Int))) (some (a0, (0 : Int))) (cond (decide (a1 ≤ (256 : Int))) (andO (F151 N a0) fun y3 => gd (a1 ≠ 0) (some (y3.1, (Int.tmod y3.2 a1)))) (andO (F151 N a0) fun y5 => andO (F151 N y5.1) fun y6 => andO (F151 N y6.1) fun y7 => gd (a1 ≠ 0) (some (y7.1, (Int.tmod (IntKind.i64.wrap ((IntKind.i64.wrap ((IntKind.i64.wrap (y5.2 * (65536 : Int))) + (IntKind.i64.wrap (y6.2 * (256 : Int))))) + y7.2)) a1)))))
theorem ok92 (N : Nat) (a0 : ((List Int) × (Int × Int))) (a1 : Int) {r : ((List Int) × (Int × Int)) × Int} (h : F92 N a0 a1 = some r) : ConM Go.Proofs.Try.prog 92 [bx [.v (.sl (.int .u8)) a0.1, .v (.int .i64) a0.2.1, .v (.int .i64) a0.2.2] 160] [.lf (.ptr 0 0 0 0), I a1] [.lf (.v (.int .i64) r.2)] [bx [.v (.sl (.int .u8)) r.1.1, .v (.int .i64) r.1.2.1, .v (.int .i64) r.1.2.2] 160] := by
  refine ⟨enters_of Go.Proofs.Try.func92 rfl (by decide), HM.intro [.lf (.v (.int .i64))] T_ok Go.Proofs.Try.func92 rfl (Nat.le_of_ble_eq_true rfl) (Nat.le_of_ble_eq_true rfl) fun w0 E0 ht => ?_⟩
  unfold F92 at h
  show VW _ _ _ _ _ (retM _ _ _ _ _) _
  refine sR T_ok [0, 1, 65536] [0] ⟨[(0, .lf (.ptr 0 0 0 0)), (1, I a1), (65536, .lf (.ptr 0 0 0 0))], [bx [.v (.sl (.int .u8)) a0.1, .v (.int .i64) a0.2.1, .v (.int .i64) a0.2.2] 160]⟩ (tn 1) ?_
  refine VW.seq ?_
  refine sR T_ok [0, 1, 9, 65536] [0] ⟨[(0, .lf (.ptr 0 0 0 0)), (1, I a1), (9, B (decide (a1 ≤ (0 : Int)))), (65536, .lf (.ptr 0 0 0 0))], [bx [.v (.sl (.int .u8)) a0.1, .v (.int .i64) a0.2.1, .v (.int .i64) a0.2.2] 160]⟩ (tn 2) ?_
  refine cnd h (fun h => ?_) (fun h => ?_)
  · refine sR T_ok [4, 65536] [0] ⟨[(4, I (0 : Int)), (65536, .lf (.ptr 0 0 0 0))], [bx [.v (.sl (.int .u8)) a0.1, .v (.int .i64) a0.2.1, .v (.int .i64) a0.2.2] 160]⟩ (tn 1) ?_
    replace h := Option.some.inj h
    subst h
    refine VW.ghl [.ren [4, 65536] [0]] (VW.ret ?_)
    exact ⟨[], by kernel_rfl, by kernel_rfl, by kernel_rfl⟩
  refine VW.skip ?_
  refine VW.seq ?_
  refine sR T_ok [0, 1, 11, 65536] [0] ⟨[(0, .lf (.ptr 0 0 0 0)), (1, I a1), (11, B (decide (a1 ≤ (256 : Int)))), (65536, .lf (.ptr 0 0 0 0))], [bx [.v (.sl (.int .u8)) a0.1, .v (.int .i64) a0.2.1, .v (.int .i64) a0.2.2] 160]⟩ (tn 2) ?_
  refine cnd h (fun h => ?_) (fun h => ?_)
  · refine VW.seq ?_
    refine VW.region ?_
    refine sG T_ok 1 [1, 12, 65536] [0] ⟨[(1, I a1), (12, .lf (.ptr 0 0 0 0)), (65536, .lf (.ptr 0 0 0 0))], [bx [.v (.sl (.int .u8)) a0.1, .v (.int .i64) a0.2.1, .v (.int .i64) a0.2.2] 160]⟩ (tn 1) ?_
    obtain ⟨y3, hy, h⟩ := andO_some h
    refine VO.callM [0] [.r] (d := some 13) (by kernel_rfl) (by kernel_rfl) (ok151 N _ hy) (by kernel_rfl) ?_
    obtain ⟨g4, h⟩ := gd_some h
    refine sN T_ok [4, 65536] [0] ⟨[(4, I (Int.tmod y3.2 a1)), (65536, .lf (.ptr 0 0 0 0))], [bx [.v (.sl (.int .u8)) y3.1.1, .v (.int .i64) y3.1.2.1, .v (.int .i64) y3.1.2.2] 160]⟩ (pu 1 (an g4 (tn 1))) ?_
    replace h := Option.some.inj h
    subst h
    refine VW.ghl [.ren [4, 65536] [0]] (VW.ret ?_)
    exact ⟨[], by kernel_rfl, by kernel_rfl, by kernel_rfl⟩
  refine VW.skip ?_
  refine VW.seq ?_
  refine VW.region ?_
  refine sG T_ok 1 [0, 1, 16, 65536] [0] ⟨[(0, .lf (.ptr 0 0 0 0)), (1, I a1), (16, .lf (.ptr 0 0 0 0)), (65536, .lf (.ptr 0 0 0 0))], [bx [.v (.sl (.int .u8)) a0.1, .v (.int .i64) a0.2.1, .v (.int .i64) a0.2.2] 160]⟩ (tn 1) ?_
  obtain ⟨y5, hy, h⟩ := andO_some h
  refine VO.callM [0] [.r] (d := some 17) (by kernel_rfl) (by kernel_rfl) (ok151 N _ hy) (by kernel_rfl) ?_
  refine sN T_ok [0, 1, 5, 65536] [0] ⟨[(0, .lf (.ptr 0 0 0 0)), (1, I a1), (5, I y5.2), (65536, .lf (.ptr 0 0 0 0))], [bx [.v (.sl (.int .u8)) y5.1.1, .v (.int .i64) y5.1.2.1, .v (.int .i64) y5.1.2.2] 160]⟩ (tn 1) ?_
  refine VW.seq ?_
  refine VW.region ?_
  refine sG T_ok 1 [0, 1, 5, 18, 65536] [0] ⟨[(0, .lf (.ptr 0 0 0 0)), (1, I a1), (5, I y5.2), (18, .lf (.ptr 0 0 0 0)), (65536, .lf (.ptr 0 0 0 0))], [bx [.v (.sl (.int .u8)) y5.1.1, .v (.int .i64) y5.1.2.1, .v (.int .i64) y5.1.2.2] 160]⟩ (tn 1) ?_
  obtain ⟨y6, hy, h⟩ := andO_some h
  refine VO.callM [0] [.r] (d := some 19) (by kernel_rfl) (by kernel_rfl) (ok151 N _ hy) (by kernel_rfl) ?_
  refine sN T_ok [0, 1, 5, 6, 65536] [0] ⟨[(0, .lf (.ptr 0 0 0 0)), (1, I a1), (5, I y5.2), (6, I y6.2), (65536, .lf (.ptr 0 0 0 0))], [bx [.v (.sl (.int .u8)) y6.1.1, .v (.int .i64) y6.1.2.1, .v (.int .i64) y6.1.2.2] 160]⟩ (tn 1) ?_
  refine VW.seq ?_
  refine VW.region ?_
  refine sG T_ok 1 [1, 5, 6, 20, 65536] [0] ⟨[(1, I a1), (5, I y5.2), (6, I y6.2), (20, .lf (.ptr 0 0 0 0)), (65536, .lf (.ptr 0 0 0 0))], [bx [.v (.sl (.int .u8)) y6.1.1, .v (.int .i64) y6.1.2.1, .v (.int .i64) y6.1.2.2] 160]⟩ (tn 1) ?_
  obtain ⟨y7, hy, h⟩ := andO_some h
  refine VO.callM [0] [.r] (d := some 21) (by kernel_rfl) (by kernel_rfl) (ok151 N _ hy) (by kernel_rfl) ?_
  refine sN T_ok [1, 5, 6, 7, 65536] [0] ⟨[(1, I a1), (5, I y5.2), (6, I y6.2), (7, I y7.2), (65536, .lf (.ptr 0 0 0 0))], [bx [.v (.sl (.int .u8)) y7.1.1, .v (.int .i64) y7.1.2.1, .v (.int .i64) y7.1.2.2] 160]⟩ (tn 1) ?_
  obtain ⟨g8, h⟩ := gd_some h
  refine sR T_ok [4, 65536] [0] ⟨[(4, I (Int.tmod (IntKind.i64.wrap ((IntKind.i64.wrap ((IntKind.i64.wrap (y5.2 * (65536 : Int))) + (IntKind.i64.wrap (y6.2 * (256 : Int))))) + y7.2)) a1)), (65536, .lf (.ptr 0 0 0 0))], [bx [.v (.sl (.int .u8)) y7.1.1, .v (.int .i64) y7.1.2.1, .v (.int .i64) y7.1.2.2] 160]⟩ (pu 8 (an g8 (tn 1))) ?_
  replace h := Option.some.inj h
  subst h
  refine VW.ghl [.ren [4, 65536] [0]] (VW.ret ?_)
  exact ⟨[], by kernel_rfl, by kernel_rfl, by kernel_rfl⟩

/- loop.example/g00844/spec.l01Size -/
def F93 (N : Nat) (a0 : (List Int)) (a1 : Int) : Option (Int) :=
  cond (decide ((IntKind.i64.wrap ((2 : Int) + (IntKind.i64.wrap (Int.tdiv (a0.length : Int) (16 : Int))))) > a1)) (some a1) (some (IntKind.i64.wrap ((2 : Int) + (IntKind.i64.wrap (Int.tdiv (a0.length : Int) (16 : Int))))))
theorem ok93 (N : Nat) (a0 : (List Int)) (a1 : Int) {r : Int} (h : F93 N a0 a1 = some r) : Con Go.Proofs.Try.prog 93 [.lf (.v (.sl (.int .u8)) a0), I a1] [.lf (.v (.int .i64) r)] := by
  refine ctr [.lf (.v (.int .i64))] T_ok Go.Proofs.Try.func93 rfl fun w0 E0 ht => ?_
  unfold F93 at h
  show VW _ _ _ _ _ (retQ _ _ _ _) _
  refine sR T_ok [0, 1] [] ⟨[(0, .lf (.v (.sl (.int .u8)) a0)), (1, I a1)], []⟩ (tn 1) ?_
  refine sR T_ok [1, 5] [] ⟨[(1, I a1), (5, I (IntKind.i64.wrap ((2 : Int) + (IntKind.i64.wrap (Int.tdiv (a0.length : Int) (16 : Int))))))], []⟩ (pu 2 (an (show ((16 : Int) ≠ 0) from by decide) (tn 2))) ?_
  refine VW.seq ?_
  refine sR T_ok [1, 5, 12] [] ⟨[(1, I a1), (5, I (IntKind.i64.wrap ((2 : Int) + (IntKind.i64.wrap (Int.tdiv (a0.length : Int) (16 : Int)))))), (12, B (decide ((IntKind.i64.wrap ((2 : Int) + (IntKind.i64.wrap (Int.tdiv (a0.length : Int) (16 : Int))))) > a1)))], []⟩ (tn 3) ?_
  refine cnd h (fun h => ?_) (fun h => ?_)
  · refine sR T_ok [4] [] ⟨[(4, I a1)], []⟩ (tn 2) ?_
    refine VW.ret ?_
    replace h := Option.some.inj h
    subst h
    exact rt []
  refine VW.skip ?_
  refine sR T_ok [4] [] ⟨[(4, I (IntKind.i64.wrap ((2 : Int) + (IntKind.i64.wrap (Int.tdiv (a0.length : Int) (16 : Int))))))], []⟩ (tn 2) ?_
  refine VW.ret ?_
  replace h := Option.some.inj h
  subst h
  exact rt []

/- loop.example/g00844/spec.l01Once -/
def F94 (N : Nat) (a0 : ((List Int) × (Int × Int))) (a1 : Int) : Option (((List Int) × (Int × Int)) × Bool) :=
  andO (F92 N a0 a1) fun y1 => some (y1.1, (y1.2 == (0 : Int)))
theorem ok94 (N : Nat) (a0 : ((List Int) × (Int × Int))) (a1 : Int) {r : ((List Int) × (Int × Int)) × Bool} (h : F94 N a0 a1 = some r) : ConM Go.Proofs.Try.prog 94 [bx [.v (.sl (.int .u8)) a0.1, .v (.int .i64) a0.2.1, .v (.int .i64) a0.2.2] 160] [.lf (.ptr 0 0 0 0), I a1] [.lf (.v .bool r.2)] [bx [.v (.sl (.int .u8)) r.1.1, .v (.int .i64) r.1.2.1, .v (.int .i64) r.1.2.2] 160] := by
  refine ⟨enters_of Go.Proofs.Try.func94 rfl (by decide), HM.intro [.lf (.v .bool)] T_ok Go.Proofs.Try.func94 rfl (Nat.le_of_ble_eq_true rfl) (Nat.le_of_ble_eq_true rfl) fun w0 E0 ht => ?_⟩
  unfold F94 at h
  show VW _ _ _ _ _ (retM _ _ _ _ _) _
  refine sR T_ok [0, 1, 65536] [0] ⟨[(0, .lf (.ptr 0 0 0 0)), (1, I a1), (65536, .lf (.ptr 0 0 0 0))], [bx [.v (.sl (.int .u8)) a0.1, .v (.int .i64) a0.2.1, .v (.int .i64) a0.2.2] 160]⟩ (tn 1) ?_
  refine VW.seq ?_
  refine VW.region ?_
  refine sG T_ok 2 [5, 6, 65536] [0] ⟨[(5, .lf (.ptr 0 0 0 0)), (6, I a1), (65536, .lf (.ptr 0 0 0 0))], [bx [.v (.sl (.int .u8)) a0.1, .v (.int .i64) a0.2.1, .v (.int .i64) a0.2.2] 160]⟩ (tn 2) ?_
  obtain ⟨y1, hy, h⟩ := andO_some h
  refine VO.callM [0] [.r, .t (.int .i64)] (d := some 7) (by kernel_rfl) (by kernel_rfl) (ok92 N _ _ hy) (by kernel_rfl) ?_
  refine sN T_ok [4, 65536] [0] ⟨[(4, B (y1.2 == (0 : Int))), (65536, .lf (.ptr 0 0 0 0))], [bx [.v (.sl (.int .u8)) y1.1.1, .v (.int .i64) y1.1.2.1, .v (.int .i64) y1.1.2.2] 160]⟩ (tn 2) ?_
  replace h := Option.some.inj h
  subst h
  refine VW.ghl [.ren [4, 65536] [0]] (VW.ret ?_)
  exact ⟨[], by kernel_rfl, by kernel_rfl, by kernel_rfl⟩

/- loop.example/g00844/spec.l01PickInt -/
def F95 (N : Nat) (a0 : ((List Int) × (Int × Int))) (a1 : (List Int)) : Option (((List Int) × (Int × Int)) × Int) :=
  andO (F92 N a0 (a1.length : Int)) fun y1 => gd (InR y1.2 a1.length) (some (y1.1, (a1.getD y1.2.toNat (Ty.dflt (.int .i64)))))
theorem ok95 (N : Nat) (a0 : ((List Int) × (Int × Int))) (a1 : (List Int)) {r : ((List Int) × (Int × Int)) × Int} (h : F95 N a0 a1 = some r) : ConM Go.Proofs.Try.prog 95 [bx [.v (.sl (.int .u8)) a0.1, .v (.int .i64) a0.2.1, .v (.int .i64) a0.2.2] 160] [.lf (.ptr 0 0 0 0), .lf (.v (.sl (.int .i64)) a1)] [.lf (.v (.int .i64) r.2)] [bx [.v (.sl (.int .u8)) r.1.1, .v (.int .i64) r.1.2.1, .v (.int .i64) r.1.2.2] 160] := by
  refine ⟨enters_of Go.Proofs.Try.func95 rfl (by decide), HM.intro [.lf (.v (.int .i64))] T_ok Go.Proofs.Try.func95 rfl (Nat.le_of_ble_eq_true rfl) (Nat.le_of_ble_eq_true rfl) fun w0 E0 ht => ?_⟩
  unfold F95 at h
  show VW _ _ _ _ _ (retM _ _ _ _ _) _
  refine sR T_ok [0, 1, 65536] [0] ⟨[(0, .lf (.ptr 0 0 0 0)), (1, .lf (.v (.sl (.int .i64)) a1)), (65536, .lf (.ptr 0 0 0 0))], [bx [.v (.sl (.int .u8)) a0.1, .v (.int .i64) a0.2.1, .v (.int .i64) a0.2.2] 160]⟩ (tn 1) ?_
  refine VW.seq ?_
  refine VW.region ?_
  refine sG T_ok 4 [5, 6, 8, 65536] [0] ⟨[(5, .lf (.v (.sl (.int .i64)) a1)), (6, .lf (.ptr 0 0 0 0)), (8, I (a1.length : Int)), (65536, .lf (.ptr 0 0 0 0))], [bx [.v (.sl (.int .u8)) a0.1, .v (.int .i64) a0.2.1, .v (.int .i64) a0.2.2] 160]⟩ (tn 4) ?_
  obtain ⟨y1, hy, h⟩ := andO_some h
  refine VO.callM [0] [.r, .t (.int .i64)] (d := some 9) (by kernel_rfl) (by kernel_rfl) (ok92 N _ _ hy) (by kernel_rfl) ?_
  obtain ⟨g2, h⟩ := gd_some h
  refine sN T_ok [4, 65536] [0] ⟨[(4, I (a1.getD y1.2.toNat (Ty.dflt (.int .i64)))), (65536, .lf (.ptr 0 0 0 0))], [bx [.v (.sl (.int .u8)) y1.1.1, .v (.int .i64) y1.1.2.1, .v (.int .i64) y1.1.2.2] 160]⟩ (an g2 (tn 2)) ?_
  replace h := Option.some.inj h
  subst h
  refine VW.ghl [.ren [4, 65536] [0]] (VW.ret ?_)
  exact ⟨[], by kernel_rfl, by kernel_rfl, by kernel_rfl⟩

/- loop.example/g00844/spec.DrawHitsIn -/
def F37_j0 (N : Nat) (x61 : (List Int)) (x62 : Int) (x63 : Int) (x64 : (List Int)) : Option (Int × (List Int)) :=
  andO (F95 N (x61, (x62, x63)) ([(1 : Int), (2 : Int), (3 : Int), (5 : Int), (16 : Int), (17 : Int), (0 : Int)])) fun y65 => some (y65.2, x64)
def F37_j1 (N : Nat) (nx102 : (List Int) → Int → Int → (List Int) → Int → Option (Int × (List Int))) (x86 : Int) (x108 : (List Int)) (x109 : Int) (x110 : Int) (x111 : (List Int)) : Option (Int × (List Int)) :=
  nx102 x108 x109 x110 x111 (IntKind.i64.wrap (x86 + (1 : Int)))
def F37_l0_b (N : Nat) (x9 : Int) (nx102 : (List Int) → Int → Int → (List Int) → Int → Option (Int × (List Int))) (x82 : (List Int)) (x83 : Int) (x84 : Int) (x85 : (List Int)) (x86 : Int) : Option (Int × (List Int)) :=
  cond (decide (x86 < x9)) (andO (F92 N (x82, (x83, x84)) (8 : Int)) fun y113 => gd (x85.length + ([y113.2]).length ≤ lim (.int .i64)) (andO (F94 N y113.1 (60 : Int)) fun y115 => cond y115.2 (gd (InR x86 (x85 ++ ([y113.2])).length) (gd (x86.toNat < (x85 ++ ([y113.2])).length) (F37_j1 N nx102 x86 y115.1.1 y115.1.2.1 y115.1.2.2 ((x85 ++ ([y113.2])).set x86.toNat (1000001 : Int))))) (F37_j1 N nx102 x86 y115.1.1 y115.1.2.1 y115.1.2.2 (x85 ++ ([y113.2]))))) (F37_j0 N x82 x83 x84 x85)
def F37_l0 (N : Nat) (x9 : Int) : Nat → (List Int) → Int → Int → (List Int) → Int → Option (Int × (List Int)) := loopF (F37_l0_b N x9) (fun _ _ _ _ _ => none)
theorem F37_l0_s (N : Nat) (x9 : Int) {k : Nat} (hk : 0 < k) (x82 : (List Int)) (x83 : Int) (x84 : Int) (x85 : (List Int)) (x86 : Int) : F37_l0 N x9 k x82 x83 x84 x85 x86 = F37_l0_b N x9 (F37_l0 N x9 (k - 1)) x82 x83 x84 x85 x86 := by
  cases k with
  | zero => exact absurd hk (Nat.lt_irrefl 0)
  | succ m => rfl
def F37_j2 (N : Nat) (x6 : (List Int)) (x7 : Int) (x8 : Int) (x9 : Int) : Option (Int × (List Int)) :=
  F37_l0 N x9 N x6 x7 x8 ([]) (0 : Int)
def F37 (N : Nat) (a0 : (List Int)) : Option (Int × (List Int)) :=
  andO (F91 N a0) fun y1 => andO (F93 N a0 (50 : Int)) fun y2 => andO (F92 N y1 y2) fun y3 => andO (F94 N y3.1 (40 : Int)) fun y119 => cond y119.2 (andO (F92 N y119.1 (2 : Int)) fun y120 => F37_j2 N y120.1.1 y120.1.2.1 y120.1.2.2 (IntKind.i64.wrap ((300 : Int) + y120.2))) (F37_j2 N y119.1.1 y119.1.2.1 y119.1.2.2 y3.2)
theorem ok37 (N : Nat) (a0 : (List Int)) {r : Int × (List Int)} (h : F37 N a0 = some r) : Con Go.Proofs.Try.prog 37 [.lf (.v (.sl (.int .u8)) a0)] [.lf (.v (.int .i64) r.1), .lf (.own (.int .i64) r.2 .dp)] := by
  refine ctr [.lf (.v (.int .i64)), .lf (.own (.int .i64) .dp)] T_ok Go.Proofs.Try.func37 rfl fun w0 E0 ht => ?_
  unfold F37 at h
  show VW _ _ _ _ _ (retQ _ _ _ _) _
  refine sR T_ok [0] [] ⟨[(0, .lf (.v (.sl (.int .u8)) a0))], []⟩ (tn 2) ?_
  refine VW.seq ?_
  refine VW.region ?_
  refine sG T_ok 1 [0, 8] [] ⟨[(0, .lf (.v (.sl (.int .u8)) a0)), (8, .lf (.v (.sl (.int .u8)) a0))], []⟩ (tn 1) ?_
  obtain ⟨y1, hy, h⟩ := andO_some h
  refine VO.callB [.t (.sl (.int .u8))] (d := 9) (by kernel_rfl) (ok91 N _ hy) ?_
  refine sN T_ok [0, 4] [0] ⟨[(0, .lf (.v (.sl (.int .u8)) a0)), (4, .lf (.ptr 0 0 0 0))], [bx [.v (.sl (.int .u8)) y1.1, .v (.int .i64) y1.2.1, .v (.int .i64) y1.2.2] 160]⟩ (tn 1) ?_
  refine sR T_ok [0, 4, 5] [0] ⟨[(0, .lf (.v (.sl (.int .u8)) a0)), (4, .lf (.ptr 0 0 0 0)), (5, .lf (.nil))], [bx [.v (.sl (.int .u8)) y1.1, .v (.int .i64) y1.2.1, .v (.int .i64) y1.2.2] 160]⟩ (tn 2) ?_
  refine VW.seq ?_
  refine VW.region ?_
  refine sG T_ok 2 [4, 5, 11, 12] [0] ⟨[(4, .lf (.ptr 0 0 0 0)), (5, .lf (.nil)), (11, .lf (.ptr 0 0 0 0)), (12, .lf (.v (.sl (.int .u8)) a0))], [bx [.v (.sl (.int .u8)) y1.1, .v (.int .i64) y1.2.1, .v (.int .i64) y1.2.2] 160]⟩ (tn 2) ?_
  obtain ⟨y2, hy, h⟩ := andO_some h
  refine cal false [.t (.sl (.int .u8)), .t (.int .i64)] [] (some 13) T_ok (ok93 N _ _ hy) ?_
  obtain ⟨y3, hy, h⟩ := andO_some h
  refine VO.callM [0] [.r, .t (.int .i64)] (d := some 14) (by kernel_rfl) (by kernel_rfl) (ok92 N _ _ hy) (by kernel_rfl) ?_
  refine sN T_ok [4, 5, 6] [0] ⟨[(4, .lf (.ptr 0 0 0 0)), (5, .lf (.nil)), (6, I y3.2)], [bx [.v (.sl (.int .u8)) y3.1.1, .v (.int .i64) y3.1.2.1, .v (.int .i64) y3.1.2.2] 160]⟩ (tn 1) ?_
  refine VW.join (fun s => ∃ (x6 : (List Int)) (x7 : Int) (x8 : Int) (x9 : Int), s = ⟨[(4, .lf (.ptr 0 0 0 0)), (5, .lf (.nil)), (6, I x9)], [bx [.v (.sl (.int .u8)) x6, .v (.int .i64) x7, .v (.int .i64) x8] 160]⟩ ∧ F37_j2 N x6 x7 x8 x9 = some r) ?_ ?_
  · refine VW.seq ?_
    refine VW.region ?_
    refine sG T_ok 1 [4, 5, 6, 15] [0] ⟨[(4, .lf (.ptr 0 0 0 0)), (5, .lf (.nil)), (6, I y3.2), (15, .lf (.ptr 0 0 0 0))], [bx [.v (.sl (.int .u8)) y3.1.1, .v (.int .i64) y3.1.2.1, .v (.int .i64) y3.1.2.2] 160]⟩ (tn 1) ?_
    obtain ⟨y119, hy, h⟩ := andO_some h
    refine VO.callM [0] [.r, .t (.int .i64)] (d := some 16) (by kernel_rfl) (by kernel_rfl) (ok94 N _ _ hy) (by kernel_rfl) ?_
    refine sN T_ok [4, 5, 6, 16] [0] ⟨[(4, .lf (.ptr 0 0 0 0)), (5, .lf (.nil)), (6, I y3.2), (16, B y119.2)], [bx [.v (.sl (.int .u8)) y119.1.1, .v (.int .i64) y119.1.2.1, .v (.int .i64) y119.1.2.2] 160]⟩ (tn 0) ?_
    refine cnd h (fun h => ?_) (fun h => ?_)
    · refine VW.region ?_
      refine sG T_ok 1 [4, 5, 17] [0] ⟨[(4, .lf (.ptr 0 0 0 0)), (5, .lf (.nil)), (17, .lf (.ptr 0 0 0 0))], [bx [.v (.sl (.int .u8)) y119.1.1, .v (.int .i64) y119.1.2.1, .v (.int .i64) y119.1.2.2] 160]⟩ (tn 1) ?_
      obtain ⟨y120, hy, h⟩ := andO_some h
      refine VO.callM [0] [.r, .t (.int .i64)] (d := some 18) (by kernel_rfl) (by kernel_rfl) (ok92 N _ _ hy) (by kernel_rfl) ?_
      refine sN T_ok [4, 5, 6] [0] ⟨[(4, .lf (.ptr 0 0 0 0)), (5, .lf (.nil)), (6, I (IntKind.i64.wrap ((300 : Int) + y120.2)))], [bx [.v (.sl (.int .u8)) y120.1.1, .v (.int .i64) y120.1.2.1, .v (.int .i64) y120.1.2.2] 160]⟩ (tn 2) ?_
      exact arv [.ren [4, 5, 6] [0]] ⟨y120.1.1, y120.1.2.1, y120.1.2.2, (IntKind.i64.wrap ((300 : Int) + y120.2)), rfl, h⟩
    refine VW.skip ?_
    exact arv [.ren [4, 5, 6] [0]] ⟨y119.1.1, y119.1.2.1, y119.1.2.2, y3.2, rfl, h⟩
  rintro s ⟨x6, x7, x8, x9, rfl, h⟩
  unfold F37_j2 at h
  refine VW.join (fun s => ∃ (x61 : (List Int)) (x62 : Int) (x63 : Int) (x64 : (List Int)), s = ⟨[(4, .lf (.ptr 0 0 0 0)), (5, .lf (.hd 1 0 none))], [bx [.v (.sl (.int .u8)) x61, .v (.int .i64) x62, .v (.int .i64) x63] 160, ar 0 (.int .i64) x64 .dp]⟩ ∧ F37_j0 N x61 x62 x63 x64 = some r) ?_ ?_
  · refine sR T_ok [4, 5, 6, 7] [0] ⟨[(4, .lf (.ptr 0 0 0 0)), (5, .lf (.nil)), (6, I x9), (7, I (0 : Int))], [bx [.v (.sl (.int .u8)) x6, .v (.int .i64) x7, .v (.int .i64) x8] 160]⟩ (tn 1) ?_
    refine VW.block ?_
    refine lop (fun k s => ∃ (x82 : (List Int)) (x83 : Int) (x84 : Int) (x85 : (List Int)) (x86 : Int), s = ⟨[(4, .lf (.ptr 0 0 0 0)), (5, .lf (.hd 1 0 none)), (6, I x9), (7, I x86)], [bx [.v (.sl (.int .u8)) x82, .v (.int .i64) x83, .v (.int .i64) x84] 160, ar 0 (.int .i64) x85 .dp]⟩ ∧ F37_l0 N x9 k x82 x83 x84 x85 x86 = some r) N [.nilS 5 (.int .i64) .dp, .ren [4, 5, 6, 7] [0, 1]] ⟨x6, x7, x8, [], (0 : Int), rfl, h⟩ ?_
    rintro k102 s ⟨x82, x83, x84, x85, x86, rfl, h⟩
    cases k102 with
    | zero => cases show none = some r from h
    | succ k102 =>
      replace h : F37_l0_b N x9 (F37_l0 N x9 k102) x82 x83 x84 x85 x86 = some r := h
      unfold F37_l0_b at h
      refine VW.seq ?_
      refine sR T_ok [4, 5, 6, 7, 22] [0, 1] ⟨[(4, .lf (.ptr 0 0 0 0)), (5, .lf (.hd 1 0 none)), (6, I x9), (7, I x86), (22, B (decide (x86 < x9)))], [bx [.v (.sl (.int .u8)) x82, .v (.int .i64) x83, .v (.int .i64) x84] 160, ar 0 (.int .i64) x85 .dp]⟩ (tn 3) ?_
      refine cnd h (fun h => ?_) (fun h => ?_)
      · refine VW.skip ?_
        refine VW.join (fun s => ∃ (x108 : (List Int)) (x109 : Int) (x110 : Int) (x111 : (List Int)), s = ⟨[(4, .lf (.ptr 0 0 0 0)), (5, .lf (.hd 1 0 none)), (6, I x9), (7, I x86)], [bx [.v (.sl (.int .u8)) x108, .v (.int .i64) x109, .v (.int .i64) x110] 160, ar 0 (.int .i64) x111 .dp]⟩ ∧ F37_j1 N (F37_l0 N x9 k102) x86 x108 x109 x110 x111 = some r) ?_ ?_
        · refine VW.block ?_
          refine VW.seq ?_
          refine VW.region ?_
          refine sG T_ok 2 [4, 6, 7, 25, 26] [0, 1] ⟨[(4, .lf (.ptr 0 0 0 0)), (6, I x9), (7, I x86), (25, .lf (.hd 1 0 none)), (26, .lf (.ptr 0 0 0 0))], [bx [.v (.sl (.int .u8)) x82, .v (.int .i64) x83, .v (.int .i64) x84] 160, ar 0 (.int .i64) x85 .dp]⟩ (tn 2) ?_
          obtain ⟨y113, hy, h⟩ := andO_some h
          refine VO.callM [0] [.r, .t (.int .i64)] (d := some 27) (by kernel_rfl) (by kernel_rfl) (ok92 N _ _ hy) (by kernel_rfl) ?_
          obtain ⟨g114, h⟩ := gd_some h
          refine sN T_ok [4, 5, 6, 7] [0, 1] ⟨[(4, .lf (.ptr 0 0 0 0)), (5, .lf (.hd 1 0 none)), (6, I x9), (7, I x86)], [bx [.v (.sl (.int .u8)) y113.1.1, .v (.int .i64) y113.1.2.1, .v (.int .i64) y113.1.2.2] 160, ar 0 (.int .i64) (x85 ++ ([y113.2])) .dp]⟩ (pu 1 (an g114 (tn 1))) ?_
          refine VW.seq ?_
          refine VW.region ?_
          refine sG T_ok 1 [4, 5, 6, 7, 30] [0, 1] ⟨[(4, .lf (.ptr 0 0 0 0)), (5, .lf (.hd 1 0 none)), (6, I x9), (7, I x86), (30, .lf (.ptr 0 0 0 0))], [bx [.v (.sl (.int .u8)) y113.1.1, .v (.int .i64) y113.1.2.1, .v (.int .i64) y113.1.2.2] 160, ar 0 (.int .i64) (x85 ++ ([y113.2])) .dp]⟩ (tn 1) ?_
          obtain ⟨y115, hy, h⟩ := andO_some h
          refine VO.callM [0] [.r, .t (.int .i64)] (d := some 31) (by kernel_rfl) (by kernel_rfl) (ok94 N _ _ hy) (by kernel_rfl) ?_
          refine sN T_ok [4, 5, 6, 7, 31] [0, 1] ⟨[(4, .lf (.ptr 0 0 0 0)), (5, .lf (.hd 1 0 none)), (6, I x9), (7, I x86), (31, B y115.2)], [bx [.v (.sl (.int .u8)) y115.1.1, .v (.int .i64) y115.1.2.1, .v (.int .i64) y115.1.2.2] 160, ar 0 (.int .i64) (x85 ++ ([y113.2])) .dp]⟩ (tn 0) ?_
          refine cnd h (fun h => ?_) (fun h => ?_)
          · obtain ⟨g116, h⟩ := gd_some h
            obtain ⟨g117, h⟩ := gd_some h
            refine rR T_ok [4, 5, 6, 7] [0, 1] ⟨[(4, .lf (.ptr 0 0 0 0)), (5, .lf (.hd 1 0 none)), (6, I x9), (7, I x86)], [bx [.v (.sl (.int .u8)) y115.1.1, .v (.int .i64) y115.1.2.1, .v (.int .i64) y115.1.2.2] 160, ar 0 (.int .i64) ((x85 ++ ([y113.2])).set x86.toNat (1000001 : Int)) .dp]⟩ (pu 2 (an g116 (an g117 (tn 0)))) ?_
            exact arv [.ren [4, 5, 6, 7] [0, 1]] ⟨y115.1.1, y115.1.2.1, y115.1.2.2, ((x85 ++ ([y113.2])).set x86.toNat (1000001 : Int)), rfl, h⟩
          refine VW.skip ?_
          exact arv [.ren [4, 5, 6, 7] [0, 1]] ⟨y115.1.1, y115.1.2.1, y115.1.2.2, (x85 ++ ([y113.2])), rfl, h⟩
        rintro s ⟨x108, x109, x110, x111, rfl, h⟩
        unfold F37_j1 at h
        refine rR T_ok [4, 5, 6, 7] [0, 1] ⟨[(4, .lf (.ptr 0 0 0 0)), (5, .lf (.hd 1 0 none)), (6, I x9), (7, I (IntKind.i64.wrap (x86 + (1 : Int))))], [bx [.v (.sl (.int .u8)) x108, .v (.int .i64) x109, .v (.int .i64) x110] 160, ar 0 (.int .i64) x111 .dp]⟩ (tn 3) ?_
        exact aro [.ren [4, 5, 6, 7] [0, 1]] ⟨x108, x109, x110, x111, (IntKind.i64.wrap (x86 + (1 : Int))), rfl, h⟩
      refine VW.exit ?_
      exact arv [.ren [4, 5] [0, 1]] ⟨x82, x83, x84, x85, rfl, h⟩
  rintro s ⟨x61, x62, x63, x64, rfl, h⟩
  unfold F37_j0 at h
  refine VW.seq ?_
  refine VW.region ?_
  refine sG T_ok 2 [5, 35, 36] [1, 0, 2] ⟨[(5, .lf (.hd 0 0 none)), (35, .lf (.ptr 1 0 0 0)), (36, .lf (.hd 2 0 none))], [ar 0 (.int .i64) x64 .dp, bx [.v (.sl (.int .u8)) x61, .v (.int .i64) x62, .v (.int .i64) x63] 160, ar 0 (.int .i64) ([(1 : Int), (2 : Int), (3 : Int), (5 : Int), (16 : Int), (17 : Int), (0 : Int)]) .dp]⟩ (tn 2) ?_
  obtain ⟨y65, hy, h⟩ := andO_some h
  refine VO.ghl [.frz 2] ?_
  refine VO.callM [1] [.r, .t (.sl (.int .i64))] (d := some 37) (by kernel_rfl) (by kernel_rfl) (ok95 N _ _ hy) (by kernel_rfl) ?_
  refine sN T_ok [2, 3] [0] ⟨[(2, I y65.2), (3, .lf (.hd 0 0 none))], [ar 0 (.int .i64) x64 .dp]⟩ (tn 3) ?_
  refine VW.ret ?_
  replace h := Option.some.inj h
  subst h
  exact rt [some 0]

/- slices.Clone[[]int,int] -/
def F159 (N : Nat) (a0 : (List Int)) : Option ((List Int)) :=
  gd (a0.length ≤ lim (.int .i64)) (some a0)
theorem ok159 (N : Nat) (a0 : (List Int)) {r : (List Int)} (h : F159 N a0 = some r) : Con Go.Proofs.Try.prog 159 [.lf (.v (.sl (.int .i64)) a0)] [.lf (.own (.int .i64) r .dp)] := by
  refine ctr [.lf (.own (.int .i64) .dp)] T_ok Go.Proofs.Try.func159 rfl fun w0 E0 ht => ?_
  unfold F159 at h
  show VW _ _ _ _ _ (retQ _ _ _ _) _
  refine sR T_ok [0] [] ⟨[(0, .lf (.v (.sl (.int .i64)) a0))], []⟩ (tn 1) ?_
  refine VW.seq ?_
  refine VW.seq ?_
  refine VW.region ?_
  refine sG T_ok 1 [0, 3] [] ⟨[(0, .lf (.v (.sl (.int .i64)) a0)), (3, .lf (.v (.sl (.int .i64)) a0))], []⟩ (tn 1) ?_
  refine VO.isNil (d := 4) (e := (.int .i64)) (xs := a0) T_ok rfl rfl rfl rfl (by kernel_rfl) (by kernel_rfl) (fun hx => ?_) ?_
  · replace h : some ([]) = some r := by
      subst hx; first | exact h | exact (gd_some h).2
    refine sN T_ok [0, 4] [] ⟨[(0, .lf (.v (.sl (.int .i64)) a0)), (4, B true)], []⟩ (tn 0) ?_
    refine VW.cond (b := true) (by kernel_rfl) (fun _ => ?_) (fun h' => nomatch h')
    refine sR T_ok [2] [] ⟨[(2, .lf (.nil))], []⟩ (tn 1) ?_
    refine VW.ret ?_
    replace h := Option.some.inj h
    subst h
    exact rt [none]
  refine sN T_ok [0, 4] [] ⟨[(0, .lf (.v (.sl (.int .i64)) a0)), (4, B false)], []⟩ (tn 0) ?_
  refine VW.cond (b := false) (by kernel_rfl) (fun h' => nomatch h') (fun _ => ?_)
  refine VW.skip ?_
  obtain ⟨g1, h⟩ := gd_some h
  refine sR T_ok [2] [0] ⟨[(2, .lf (.hd 0 0 none))], [ar 0 (.int .i64) a0 .dp]⟩ (pu 2 (an g1 (tn 1))) ?_
  refine VW.ret ?_
  replace h := Option.some.inj h
  subst h
  exact rt [some 0]

/- loop.example/g00844/impl.ownCache -/
def F102 (N : Nat) (a0 : (Int × ((List Int) × (List Int)))) : Option ((Int × ((List Int) × (List Int)))) :=
  andO (F159 N a0.2.1) fun y1 => andO (F159 N a0.2.2) fun y2 => some (a0.1, (y1, y2))
theorem ok102 (N : Nat) (a0 : (Int × ((List Int) × (List Int)))) {r : (Int × ((List Int) × (List Int)))} (h : F102 N a0 = some r) : Con Go.Proofs.Try.prog 102 [.agg [.v (.int .i64) a0.1, .v (.sl (.int .i64)) a0.2.1, .v (.sl (.int .i64)) a0.2.2]] [.agg [.v (.int .i64) r.1, .own (.int .i64) r.2.1 .dp, .own (.int .i64) r.2.2 .dp]] := by
  refine ctr [.agg [.v (.int .i64), .own (.int .i64) .dp, .own (.int .i64) .dp]] T_ok Go.Proofs.Try.func102 rfl fun w0 E0 ht => ?_
  unfold F102 at h
  show VW _ _ _ _ _ (retQ _ _ _ _) _
  refine sR T_ok [1, 2] [0, 1] ⟨[(1, .lf (.ptr 0 0 0 0)), (2, .lf (.ptr 1 0 0 0))], [bx [.v (.int .i64) a0.1, .v (.sl (.int .i64)) a0.2.1, .v (.sl (.int .i64)) a0.2.2] 59, bx [.v (.int .i64) (0 : Int), .nil, .nil] 59]⟩ (tn 2) ?_
  refine VW.seq ?_
  refine VW.region ?_
  refine sG T_ok 2 [1, 2, 4] [0, 1] ⟨[(1, .lf (.ptr 0 0 0 0)), (2, .lf (.ptr 1 0 0 0)), (4, .lf (.v (.sl (.int .i64)) a0.2.1))], [bx [.v (.int .i64) a0.1, .v (.sl (.int .i64)) a0.2.1, .v (.sl (.int .i64)) a0.2.2] 59, bx [.v (.int .i64) (0 : Int), .nil, .nil] 59]⟩ (tn 2) ?_
  obtain ⟨y1, hy, h⟩ := andO_some h
  refine cal false [.t (.sl (.int .i64))] [] (some 5) T_ok (ok159 N _ hy) ?_
  refine sN T_ok [1, 2] [0, 2, 1] ⟨[(1, .lf (.ptr 0 0 0 0)), (2, .lf (.ptr 2 0 0 0))], [bx [.v (.int .i64) a0.1, .hd 1 0 none, .v (.sl (.int .i64)) a0.2.2] 59, ar 0 (.int .i64) y1 .dp, bx [.v (.int .i64) (0 : Int), .nil, .nil] 59]⟩ (tn 2) ?_
  refine VW.seq ?_
  refine VW.region ?_
  refine sG T_ok 2 [1, 2, 8] [0, 1, 2] ⟨[(1, .lf (.ptr 0 0 0 0)), (2, .lf (.ptr 2 0 0 0)), (8, .lf (.v (.sl (.int .i64)) a0.2.2))], [bx [.v (.int .i64) a0.1, .hd 1 0 none, .v (.sl (.int .i64)) a0.2.2] 59, ar 0 (.int .i64) y1 .dp, bx [.v (.int .i64) (0 : Int), .nil, .nil] 59]⟩ (tn 2) ?_
  obtain ⟨y2, hy, h⟩ := andO_some h
  refine cal false [.t (.sl (.int .i64))] [] (some 9) T_ok (ok159 N _ hy) ?_
  refine sN T_ok [1, 2] [0, 1, 3, 2] ⟨[(1, .lf (.ptr 0 0 0 0)), (2, .lf (.ptr 3 0 0 0))], [bx [.v (.int .i64) a0.1, .hd 1 0 none, .hd 2 0 none] 59, ar 0 (.int .i64) y1 .dp, ar 0 (.int .i64) y2 .dp, bx [.v (.int .i64) (0 : Int), .nil, .nil] 59]⟩ (tn 2) ?_
  refine sR T_ok [2] [3, 1, 2] ⟨[(2, .lf (.ptr 0 0 0 0))], [bx [.v (.int .i64) a0.1, .hd 1 0 none, .hd 2 0 none] 59, ar 0 (.int .i64) y1 .dp, ar 0 (.int .i64) y2 .dp]⟩ (tn 2) ?_
  refine VW.ret ?_
  replace h := Option.some.inj h
  subst h
  exact rt [some 1, some 2]

/- slices.Index[[]int,int] -/
def F160_j0 (N : Nat) : Option (Int) :=
  some (-1 : Int)
def F160_l0_b (N : Nat) (a0 : (List Int)) (a1 : Int) (nx19 : Int → Int → Option (Int)) (x15 : Int) (x16 : Int) : Option (Int) :=
  cond (decide (x16 < x15)) (gd (InR x16 a0.length) (cond (a1 == (a0.getD x16.toNat (Ty.dflt (.int .i64)))) (some x16) (nx19 x15 (IntKind.i64.wrap (x16 + (1 : Int)))))) (F160_j0 N)
def F160_l0 (N : Nat) (a0 : (List Int)) (a1 : Int) : Nat → Int → Int → Option (Int) := loopF (F160_l0_b N a0 a1) (fun _ _ => none)
theorem F160_l0_s (N : Nat) (a0 : (List Int)) (a1 : Int) {k : Nat} (hk : 0 < k) (x15 : Int) (x16 : Int) : F160_l0 N a0 a1 k x15 x16 = F160_l0_b N a0 a1 (F160_l0 N a0 a1 (k - 1)) x15 x16 := by
  cases k with
  | zero => exact absurd hk (Nat.lt_irrefl 0)
  | succ m => rfl
def F160 (N : Nat) (a0 : (List Int)) (a1 : Int) : Option (Int) :=
  F160_l0 N a0 a1 N (a0.length : Int) (0 : Int)
theorem ok160 (N : Nat) (a0 : (List Int)) (a1 : Int) {r : Int} (h : F160 N a0 a1 = some r) : Con Go.Proofs.Try.prog 160 [.lf (.v (.sl (.int .i64)) a0), I a1] [.lf (.v (.int .i64) r)] := by
  refine ctr [.lf (.v (.int .i64))] T_ok Go.Proofs.Try.func160 rfl fun w0 E0 ht => ?_
  unfold F160 at h
  show VW _ _ _ _ _ (retQ _ _ _ _) _
  refine sR T_ok [0, 1] [] ⟨[(0, .lf (.v (.sl (.int .i64)) a0)), (1, I a1)], []⟩ (tn 1) ?_
  refine VW.join (fun s => s = ⟨[], []⟩ ∧ F160_j0 N = some r) ?_ ?_
  · refine sR T_ok [0, 1, 7, 8] [] ⟨[(0, .lf (.v (.sl (.int .i64)) a0)), (1, I a1), (7, I (a0.length : Int)), (8, I (0 : Int))], []⟩ (tn 3) ?_
    refine VW.block ?_
    refine lop (fun k s => ∃ (x15 : Int) (x16 : Int), s = ⟨[(0, .lf (.v (.sl (.int .i64)) a0)), (1, I a1), (7, I x15), (8, I x16)], []⟩ ∧ F160_l0 N a0 a1 k x15 x16 = some r) N [.ren [0, 1, 7, 8] []] ⟨(a0.length : Int), (0 : Int), rfl, h⟩ ?_
    rintro k19 s ⟨x15, x16, rfl, h⟩
    cases k19 with
    | zero => cases show none = some r from h
    | succ k19 =>
      replace h : F160_l0_b N a0 a1 (F160_l0 N a0 a1 k19) x15 x16 = some r := h
      unfold F160_l0_b at h
      refine sR T_ok [0, 1, 7, 8, 9] [] ⟨[(0, .lf (.v (.sl (.int .i64)) a0)), (1, I a1), (7, I x15), (8, I x16), (9, B (decide (x16 < x15)))], []⟩ (tn 1) ?_
      refine VW.seq ?_
      refine cnd h (fun h => ?_) (fun h => ?_)
      · refine VW.skip ?_
        refine VW.seq ?_
        refine VW.block ?_
        refine sR T_ok [0, 1, 5, 7, 8] [] ⟨[(0, .lf (.v (.sl (.int .i64)) a0)), (1, I a1), (5, I x16), (7, I x15), (8, I x16)], []⟩ (tn 2) ?_
        obtain ⟨g21, h⟩ := gd_some h
        refine sR T_ok [0, 1, 5, 7, 8, 16] [] ⟨[(0, .lf (.v (.sl (.int .i64)) a0)), (1, I a1), (5, I x16), (7, I x15), (8, I x16), (16, B (a1 == (a0.getD x16.toNat (Ty.dflt (.int .i64)))))], []⟩ (pu 3 (an g21 (tn 2))) ?_
        refine cnd h (fun h => ?_) (fun h => ?_)
        · refine sR T_ok [4] [] ⟨[(4, I x16)], []⟩ (tn 2) ?_
          refine VW.ret ?_
          replace h := Option.some.inj h
          subst h
          exact rt []
        refine VW.skip ?_
        refine rR T_ok [0, 1, 7, 8] [] ⟨[(0, .lf (.v (.sl (.int .i64)) a0)), (1, I a1), (7, I x15), (8, I (IntKind.i64.wrap (x16 + (1 : Int))))], []⟩ (tn 2) ?_
        exact aro [.ren [0, 1, 7, 8] []] ⟨x15, (IntKind.i64.wrap (x16 + (1 : Int))), rfl, h⟩
      refine VW.exit ?_
      exact arv [.ren [] []] ⟨rfl, h⟩
  rintro s ⟨rfl, h⟩
  unfold F160_j0 at h
  refine sR T_ok [4] [] ⟨[(4, I (-1 : Int))], []⟩ (tn 1) ?_
  refine VW.ret ?_
  replace h := Option.some.inj h
  subst h
  exact rt []

/- loop.example/g00844/impl.CacheOk -/
def F103_j0 (N : Nat) : Option (Bool) :=
  some true
def F103_l0_b (N : Nat) (nx77 : Int → (List Int) → (List Int) → (List Int) → Int → Int → Option (Bool)) (x61 : Int) (x62 : (List Int)) (x63 : (List Int)) (x64 : (List Int)) (x65 : Int) (x66 : Int) : Option (Bool) :=
  cond (decide (x66 < x65)) (gd (InR x66 x64.length) (andO (F152 N (x64.getD x66.toNat (Ty.dflt (.int .i64)))) fun y84 => cond (!y84) (some false) (gd (InR x66 x63.length) (andO (F152 N (x63.getD x66.toNat (Ty.dflt (.int .i64)))) fun y86 => cond (!y86) (some false) (andO (F160 N x62 (x64.getD x66.toNat (Ty.dflt (.int .i64)))) fun y87 => cond (y87 != x66) (some false) (nx77 x61 x62 x63 x64 x65 (IntKind.i64.wrap (x66 + (1 : Int))))))))) (F103_j0 N)
def F103_l0 (N : Nat) : Nat → Int → (List Int) → (List Int) → (List Int) → Int → Int → Option (Bool) := loopF (F103_l0_b N) (fun _ _ _ _ _ _ => none)
theorem F103_l0_s (N : Nat) {k : Nat} (hk : 0 < k) (x61 : Int) (x62 : (List Int)) (x63 : (List Int)) (x64 : (List Int)) (x65 : Int) (x66 : Int) : F103_l0 N k x61 x62 x63 x64 x65 x66 = F103_l0_b N (F103_l0 N (k - 1)) x61 x62 x63 x64 x65 x66 := by
  cases k with
  | zero => exact absurd hk (Nat.lt_irrefl 0)
  | succ m => rfl
def F103 (N : Nat) (a0 : (Int × ((List Int) × (List Int)))) : Option (Bool) :=
  andO (F75 N a0.1) fun y2 => cond (!y2) (some false) (cond (decide ((a0.2.1.length : Int) > a0.1)) (some false) (cond ((a0.2.2.length : Int) != (a0.2.1.length : Int)) (some false) (F103_l0 N N a0.1 a0.2.1 a0.2.2 a0.2.1 (a0.2.1.length : Int) (0 : Int))))
theorem ok103 (N : Nat) (a0 : (Int × ((List Int) × (List Int)))) {r : Bool} (h : F103 N a0 = some r) : Con Go.Proofs.Try.prog 103 [.agg [.v (.int .i64) a0.1, .v (.sl (.int .i64)) a0.2.1, .v (.sl (.int .i64)) a0.2.2]] [.lf (.v .bool r)] := by
  refine ctr [.lf (.v .bool)] T_ok Go.Proofs.Try.func103 rfl fun w0 E0 ht => ?_
  unfold F103 at h
  show VW _ _ _ _ _ (retQ _ _ _ _) _
  refine sR T_ok [1] [0] ⟨[(1, .lf (.ptr 0 0 0 0))], [bx [.v (.int .i64) a0.1, .v (.sl (.int .i64)) a0.2.1, .v (.sl (.int .i64)) a0.2.2] 59]⟩ (tn 2) ?_
  refine VW.seq ?_
  refine VW.seq ?_
  refine VW.region ?_
  refine sG T_ok 2 [1, 6] [0] ⟨[(1, .lf (.ptr 0 0 0 0)), (6, I a0.1)], [bx [.v (.int .i64) a0.1, .v (.sl (.int .i64)) a0.2.1, .v (.sl (.int .i64)) a0.2.2] 59]⟩ (tn 2) ?_
  obtain ⟨y2, hy, h⟩ := andO_some h
  refine cal false [.t (.int .i64)] [] (some 7) T_ok (ok75 N _ hy) ?_
  refine sG T_ok 2 [1, 9] [0] ⟨[(1, .lf (.ptr 0 0 0 0)), (9, B (!y2))], [bx [.v (.int .i64) a0.1, .v (.sl (.int .i64)) a0.2.1, .v (.sl (.int .i64)) a0.2.2] 59]⟩ (tn 2) ?_
  refine spB 9 h (fun h => ?_) (fun h => ?_)
  · refine sN T_ok [1, 25] [0] ⟨[(1, .lf (.ptr 0 0 0 0)), (25, B true)], [bx [.v (.int .i64) a0.1, .v (.sl (.int .i64)) a0.2.1, .v (.sl (.int .i64)) a0.2.2] 59]⟩ (tn 16) ?_
    refine VW.cond (b := true) (by kernel_rfl) (fun _ => ?_) (fun h' => nomatch h')
    refine sR T_ok [2] [] ⟨[(2, B false)], []⟩ (tn 1) ?_
    refine VW.ret ?_
    replace h := Option.some.inj h
    subst h
    exact rt []
  refine sG T_ok 8 [1, 17] [0] ⟨[(1, .lf (.ptr 0 0 0 0)), (17, B (decide ((a0.2.1.length : Int) > a0.1)))], [bx [.v (.int .i64) a0.1, .v (.sl (.int .i64)) a0.2.1, .v (.sl (.int .i64)) a0.2.2] 59]⟩ (tn 8) ?_
  refine spB 17 h (fun h => ?_) (fun h => ?_)
  · refine sN T_ok [1, 25] [0] ⟨[(1, .lf (.ptr 0 0 0 0)), (25, B true)], [bx [.v (.int .i64) a0.1, .v (.sl (.int .i64)) a0.2.1, .v (.sl (.int .i64)) a0.2.2] 59]⟩ (tn 8) ?_
    refine VW.cond (b := true) (by kernel_rfl) (fun _ => ?_) (fun h' => nomatch h')
    refine sR T_ok [2] [] ⟨[(2, B false)], []⟩ (tn 1) ?_
    refine VW.ret ?_
    replace h := Option.some.inj h
    subst h
    exact rt []
  refine sN T_ok [1, 25] [0] ⟨[(1, .lf (.ptr 0 0 0 0)), (25, B ((a0.2.2.length : Int) != (a0.2.1.length : Int)))], [bx [.v (.int .i64) a0.1, .v (.sl (.int .i64)) a0.2.1, .v (.sl (.int .i64)) a0.2.2] 59]⟩ (tn 8) ?_
  refine cnd h (fun h => ?_) (fun h => ?_)
  · refine sR T_ok [2] [] ⟨[(2, B false)], []⟩ (tn 1) ?_
    refine VW.ret ?_
    replace h := Option.some.inj h
    subst h
    exact rt []
  refine VW.skip ?_
  refine VW.join (fun s => s = ⟨[], []⟩ ∧ F103_j0 N = some r) ?_ ?_
  · refine sR T_ok [1, 27, 28, 29] [0] ⟨[(1, .lf (.ptr 0 0 0 0)), (27, .lf (.v (.sl (.int .i64)) a0.2.1)), (28, I (a0.2.1.length : Int)), (29, I (0 : Int))], [bx [.v (.int .i64) a0.1, .v (.sl (.int .i64)) a0.2.1, .v (.sl (.int .i64)) a0.2.2] 59]⟩ (tn 4) ?_
    refine VW.block ?_
    refine lop (fun k s => ∃ (x61 : Int) (x62 : (List Int)) (x63 : (List Int)) (x64 : (List Int)) (x65 : Int) (x66 : Int), s = ⟨[(1, .lf (.ptr 0 0 0 0)), (27, .lf (.v (.sl (.int .i64)) x64)), (28, I x65), (29, I x66)], [bx [.v (.int .i64) x61, .v (.sl (.int .i64)) x62, .v (.sl (.int .i64)) x63] 59]⟩ ∧ F103_l0 N k x61 x62 x63 x64 x65 x66 = some r) N [.ren [1, 27, 28, 29] [0]] ⟨a0.1, a0.2.1, a0.2.2, a0.2.1, (a0.2.1.length : Int), (0 : Int), rfl, h⟩ ?_
    rintro k77 s ⟨x61, x62, x63, x64, x65, x66, rfl, h⟩
    cases k77 with
    | zero => cases show none = some r from h
    | succ k77 =>
      replace h : F103_l0_b N (F103_l0 N k77) x61 x62 x63 x64 x65 x66 = some r := h
      unfold F103_l0_b at h
      refine sR T_ok [1, 27, 28, 29, 30] [0] ⟨[(1, .lf (.ptr 0 0 0 0)), (27, .lf (.v (.sl (.int .i64)) x64)), (28, I x65), (29, I x66), (30, B (decide (x66 < x65)))], [bx [.v (.int .i64) x61, .v (.sl (.int .i64)) x62, .v (.sl (.int .i64)) x63] 59]⟩ (tn 1) ?_
      refine VW.seq ?_
      refine cnd h (fun h => ?_) (fun h => ?_)
      · refine VW.skip ?_
        refine VW.seq ?_
        refine VW.block ?_
        obtain ⟨g83, h⟩ := gd_some h
        refine sR T_ok [1, 3, 4, 27, 28, 29] [0] ⟨[(1, .lf (.ptr 0 0 0 0)), (3, I x66), (4, I (x64.getD x66.toNat (Ty.dflt (.int .i64)))), (27, .lf (.v (.sl (.int .i64)) x64)), (28, I x65), (29, I x66)], [bx [.v (.int .i64) x61, .v (.sl (.int .i64)) x62, .v (.sl (.int .i64)) x63] 59]⟩ (pu 1 (an g83 (tn 3))) ?_
        refine VW.seq ?_
        refine VW.region ?_
        refine sG T_ok 1 [1, 3, 4, 27, 28, 29, 34] [0] ⟨[(1, .lf (.ptr 0 0 0 0)), (3, I x66), (4, I (x64.getD x66.toNat (Ty.dflt (.int .i64)))), (27, .lf (.v (.sl (.int .i64)) x64)), (28, I x65), (29, I x66), (34, I (x64.getD x66.toNat (Ty.dflt (.int .i64))))], [bx [.v (.int .i64) x61, .v (.sl (.int .i64)) x62, .v (.sl (.int .i64)) x63] 59]⟩ (tn 1) ?_
        obtain ⟨y84, hy, h⟩ := andO_some h
        refine cal false [.t (.int .i64)] [] (some 35) T_ok (ok152 N _ hy) ?_
        refine sG T_ok 2 [1, 3, 4, 27, 28, 29, 37] [0] ⟨[(1, .lf (.ptr 0 0 0 0)), (3, I x66), (4, I (x64.getD x66.toNat (Ty.dflt (.int .i64)))), (27, .lf (.v (.sl (.int .i64)) x64)), (28, I x65), (29, I x66), (37, B (!y84))], [bx [.v (.int .i64) x61, .v (.sl (.int .i64)) x62, .v (.sl (.int .i64)) x63] 59]⟩ (tn 2) ?_
        refine spB 37 h (fun h => ?_) (fun h => ?_)
        · refine sN T_ok [1, 27, 28, 29, 53] [0] ⟨[(1, .lf (.ptr 0 0 0 0)), (27, .lf (.v (.sl (.int .i64)) x64)), (28, I x65), (29, I x66), (53, B true)], [bx [.v (.int .i64) x61, .v (.sl (.int .i64)) x62, .v (.sl (.int .i64)) x63] 59]⟩ (tn 16) ?_
          refine VW.cond (b := true) (by kernel_rfl) (fun _ => ?_) (fun h' => nomatch h')
          refine sR T_ok [2] [] ⟨[(2, B false)], []⟩ (tn 1) ?_
          refine VW.ret ?_
          replace h := Option.some.inj h
          subst h
          exact rt []
        obtain ⟨g85, h⟩ := gd_some h
        refine sG T_ok 5 [1, 3, 4, 27, 28, 29, 37, 42] [0] ⟨[(1, .lf (.ptr 0 0 0 0)), (3, I x66), (4, I (x64.getD x66.toNat (Ty.dflt (.int .i64)))), (27, .lf (.v (.sl (.int .i64)) x64)), (28, I x65), (29, I x66), (37, B false), (42, I (x63.getD x66.toNat (Ty.dflt (.int .i64))))], [bx [.v (.int .i64) x61, .v (.sl (.int .i64)) x62, .v (.sl (.int .i64)) x63] 59]⟩ (pu 3 (an g85 (tn 1))) ?_
        refine VO.on (j := 3) (want := false) (d := 37) (b := false) rfl rfl rfl (by kernel_rfl) rfl ?_
        obtain ⟨y86, hy, h⟩ := andO_some h
        refine cal false [.t (.int .i64)] [] (some 43) T_ok (ok152 N _ hy) ?_
        refine sG T_ok 3 [1, 3, 4, 27, 28, 29, 46] [0] ⟨[(1, .lf (.ptr 0 0 0 0)), (3, I x66), (4, I (x64.getD x66.toNat (Ty.dflt (.int .i64)))), (27, .lf (.v (.sl (.int .i64)) x64)), (28, I x65), (29, I x66), (46, B (!y86))], [bx [.v (.int .i64) x61, .v (.sl (.int .i64)) x62, .v (.sl (.int .i64)) x63] 59]⟩ (tn 3) ?_
        refine spB 46 h (fun h => ?_) (fun h => ?_)
        · refine sN T_ok [1, 27, 28, 29, 53] [0] ⟨[(1, .lf (.ptr 0 0 0 0)), (27, .lf (.v (.sl (.int .i64)) x64)), (28, I x65), (29, I x66), (53, B true)], [bx [.v (.int .i64) x61, .v (.sl (.int .i64)) x62, .v (.sl (.int .i64)) x63] 59]⟩ (tn 7) ?_
          refine VW.cond (b := true) (by kernel_rfl) (fun _ => ?_) (fun h' => nomatch h')
          refine sR T_ok [2] [] ⟨[(2, B false)], []⟩ (tn 1) ?_
          refine VW.ret ?_
          replace h := Option.some.inj h
          subst h
          exact rt []
        refine sG T_ok 3 [1, 3, 27, 28, 29, 46, 48, 49] [0] ⟨[(1, .lf (.ptr 0 0 0 0)), (3, I x66), (27, .lf (.v (.sl (.int .i64)) x64)), (28, I x65), (29, I x66), (46, B false), (48, .lf (.v (.sl (.int .i64)) x62)), (49, I (x64.getD x66.toNat (Ty.dflt (.int .i64))))], [bx [.v (.int .i64) x61, .v (.sl (.int .i64)) x62, .v (.sl (.int .i64)) x63] 59]⟩ (tn 3) ?_
        refine VO.on (j := 12) (want := false) (d := 46) (b := false) rfl rfl rfl (by kernel_rfl) rfl ?_
        obtain ⟨y87, hy, h⟩ := andO_some h
        refine cal false [.t (.sl (.int .i64)), .t (.int .i64)] [] (some 50) T_ok (ok160 N _ _ hy) ?_
        refine sN T_ok [1, 27, 28, 29, 53] [0] ⟨[(1, .lf (.ptr 0 0 0 0)), (27, .lf (.v (.sl (.int .i64)) x64)), (28, I x65), (29, I x66), (53, B (y87 != x66))], [bx [.v (.int .i64) x61, .v (.sl (.int .i64)) x62, .v (.sl (.int .i64)) x63] 59]⟩ (tn 3) ?_
        refine cnd h (fun h => ?_) (fun h => ?_)
        · refine sR T_ok [2] [] ⟨[(2, B false)], []⟩ (tn 1) ?_
          refine VW.ret ?_
          replace h := Option.some.inj h
          subst h
          exact rt []
        refine VW.skip ?_
        refine rR T_ok [1, 27, 28, 29] [0] ⟨[(1, .lf (.ptr 0 0 0 0)), (27, .lf (.v (.sl (.int .i64)) x64)), (28, I x65), (29, I (IntKind.i64.wrap (x66 + (1 : Int))))], [bx [.v (.int .i64) x61, .v (.sl (.int .i64)) x62, .v (.sl (.int .i64)) x63] 59]⟩ (tn 2) ?_
        exact aro [.ren [1, 27, 28, 29] [0]] ⟨x61, x62, x63, x64, x65, (IntKind.i64.wrap (x66 + (1 : Int))), rfl, h⟩
      refine VW.exit ?_
      exact arv [.ren [] []] ⟨rfl, h⟩
  rintro s ⟨rfl, h⟩
  unfold F103_j0 at h
  refine sR T_ok [2] [] ⟨[(2, B true)], []⟩ (tn 1) ?_
  refine VW.ret ?_
  replace h := Option.some.inj h
  subst h
  exact rt []

/- loop.example/g00844/impl.find -/
def F106 (N : Nat) (a0 : (Int × ((List Int) × (List Int)))) (a1 : Int) : Option (Int) :=
  andO (F103 N a0) fun y2 => cond (!y2) (some (-1 : Int)) (andO (F160 N a0.2.1 a1) fun y3 => some y3)
theorem ok106 (N : Nat) (a0 : (Int × ((List Int) × (List Int)))) (a1 : Int) {r : Int} (h : F106 N a0 a1 = some r) : Con Go.Proofs.Try.prog 106 [.agg [.v (.int .i64) a0.1, .v (.sl (.int .i64)) a0.2.1, .v (.sl (.int .i64)) a0.2.2], I a1] [.lf (.v (.int .i64) r)] := by
  refine ctr [.lf (.v (.int .i64))] T_ok Go.Proofs.Try.func106 rfl fun w0 E0 ht => ?_
  unfold F106 at h
  show VW _ _ _ _ _ (retQ _ _ _ _) _
  refine sR T_ok [1, 2] [0] ⟨[(1, I a1), (2, .lf (.ptr 0 0 0 0))], [bx [.v (.int .i64) a0.1, .v (.sl (.int .i64)) a0.2.1, .v (.sl (.int .i64)) a0.2.2] 59]⟩ (tn 2) ?_
  refine VW.seq ?_
  refine VW.seq ?_
  refine VW.region ?_
  refine sG T_ok 1 [1, 2, 5] [0] ⟨[(1, I a1), (2, .lf (.ptr 0 0 0 0)), (5, .agg [.v (.int .i64) a0.1, .v (.sl (.int .i64)) a0.2.1, .v (.sl (.int .i64)) a0.2.2])], [bx [.v (.int .i64) a0.1, .v (.sl (.int .i64)) a0.2.1, .v (.sl (.int .i64)) a0.2.2] 59]⟩ (tn 1) ?_
  obtain ⟨y2, hy, h⟩ := andO_some h
  refine cal false [.t Y58] [] (some 6) T_ok (ok103 N _ hy) ?_
  refine sN T_ok [1, 2, 7] [0] ⟨[(1, I a1), (2, .lf (.ptr 0 0 0 0)), (7, B (!y2))], [bx [.v (.int .i64) a0.1, .v (.sl (.int .i64)) a0.2.1, .v (.sl (.int .i64)) a0.2.2] 59]⟩ (tn 1) ?_
  refine cnd h (fun h => ?_) (fun h => ?_)
  · refine sR T_ok [4] [] ⟨[(4, I (-1 : Int))], []⟩ (tn 1) ?_
    refine VW.ret ?_
    replace h := Option.some.inj h
    subst h
    exact rt []
  refine VW.skip ?_
  refine VW.seq ?_
  refine VW.region ?_
  refine sG T_ok 3 [9, 10] [] ⟨[(9, .lf (.v (.sl (.int .i64)) a0.2.1)), (10, I a1)], []⟩ (tn 3) ?_
  obtain ⟨y3, hy, h⟩ := andO_some h
  refine cal false [.t (.sl (.int .i64)), .t (.int .i64)] [] (some 11) T_ok (ok160 N _ _ hy) ?_
  refine sN T_ok [4] [] ⟨[(4, I y3)], []⟩ (tn 1) ?_
  refine VW.ret ?_
  replace h := Option.some.inj h
  subst h
  exact rt []

/- slices.Delete[[]int,int] -/
def F210 (N : Nat) (a0 : (List Int)) (a1 : Int) (a2 : Int) : Option ((List Int)) :=
  gd (0 ≤ a1 ∧ a1 ≤ a2 ∧ a2 ≤ (a0.length : Int) ∧ (a0.length : Int) ≤ (a0.length : Int)) (cond (a1 == a2) (some a0) (gd (0 ≤ a1 ∧ a1 ≤ (a0.length : Int)) (gd (0 ≤ a2 ∧ a2 ≤ (a0.length : Int)) (gd (a1.toNat + ((a0.drop a2.toNat).take (a0.length - a2.toNat)).length ≤ a0.length ∧ a0.length ≤ lim (.int .i64)) (gd (0 ≤ ((a1.toNat + ((a0.drop a2.toNat).take (a0.length - a2.toNat)).length) : Int) ∧ ((a1.toNat + ((a0.drop a2.toNat).take (a0.length - a2.toNat)).length) : Int) ≤ (a0.length : Int) ∧ (a0.length : Int) ≤ ((a0.take a1.toNat ++ ((a0.drop a2.toNat).take (a0.length - a2.toNat)) ++ a0.drop (a1.toNat + ((a0.drop a2.toNat).take (a0.length - a2.toNat)).length)).length : Int) - (0 : Int)) (some (((a0.take a1.toNat ++ ((a0.drop a2.toNat).take (a0.length - a2.toNat)) ++ a0.drop (a1.toNat + ((a0.drop a2.toNat).take (a0.length - a2.toNat)).length)).take (0 + ((a1.toNat + ((a0.drop a2.toNat).take (a0.length - a2.toNat)).length) : Int).toNat) ++ List.replicate ((a0.length : Int).toNat - ((a1.toNat + ((a0.drop a2.toNat).take (a0.length - a2.toNat)).length) : Int).toNat) (Ty.dflt (.int .i64)) ++ (a0.take a1.toNat ++ ((a0.drop a2.toNat).take (a0.length - a2.toNat)) ++ a0.drop (a1.toNat + ((a0.drop a2.toNat).take (a0.length - a2.toNat)).length)).drop ((0 + ((a1.toNat + ((a0.drop a2.toNat).take (a0.length - a2.toNat)).length) : Int).toNat) + ((a0.length : Int).toNat - ((a1.toNat + ((a0.drop a2.toNat).take (a0.length - a2.toNat)).length) : Int).toNat))).take (a1.toNat + ((a0.drop a2.toNat).take (a0.length - a2.toNat)).length))))))))
theorem ok210 (N : Nat) (a0 : (List Int)) (a1 : Int) (a2 : Int) {r : (List Int)} (h : F210 N a0 a1 a2 = some r) : ConM Go.Proofs.Try.prog 210 [ar 0 (.int .i64) a0 .dp] [.lf (.hd 0 0 none), I a1, I a2] [.lf (.own (.int .i64) r .dp)] [none] := by
  refine ⟨enters_of Go.Proofs.Try.func210 rfl (by decide), HM.intro [.lf (.own (.int .i64) .dp)] T_ok Go.Proofs.Try.func210 rfl (Nat.le_of_ble_eq_true rfl) (Nat.le_of_ble_eq_true rfl) fun w0 E0 ht => ?_⟩
  unfold F210 at h
  show VW _ _ _ _ _ (retM _ _ _ _ _) _
  refine sR T_ok [0, 1, 2] [0] ⟨[(0, .lf (.hd 0 0 none)), (1, I a1), (2, I a2)], [ar 0 (.int .i64) a0 .dp]⟩ (tn 1) ?_
  obtain ⟨g1, h⟩ := gd_some h
  refine sR T_ok [0, 1, 2] [0] ⟨[(0, .lf (.hd 0 0 none)), (1, I a1), (2, I a2)], [ar 0 (.int .i64) a0 .dp]⟩ (pu 5 (an g1 (tn 0))) ?_
  refine VW.seq ?_
  refine sR T_ok [0, 1, 2, 16] [0] ⟨[(0, .lf (.hd 0 0 none)), (1, I a1), (2, I a2), (16, B (a1 == a2))], [ar 0 (.int .i64) a0 .dp]⟩ (tn 3) ?_
  refine cnd h (fun h => ?_) (fun h => ?_)
  · refine sR T_ok [6] [0] ⟨[(6, .lf (.hd 0 0 none))], [ar 0 (.int .i64) a0 .dp]⟩ (tn 2) ?_
    replace h := Option.some.inj h
    subst h
    refine VW.ghl [.ren [6] [100000, 0]] (VW.ret ?_)
    exact ⟨[some 1], by kernel_rfl, by kernel_rfl, by kernel_rfl⟩
  refine VW.skip ?_
  refine sR T_ok [0, 1, 2, 7] [0] ⟨[(0, .lf (.hd 0 0 none)), (1, I a1), (2, I a2), (7, I (a0.length : Int))], [ar 0 (.int .i64) a0 .dp]⟩ (tn 3) ?_
  refine VW.seq ?_
  obtain ⟨g2, h⟩ := gd_some h
  obtain ⟨g3, h⟩ := gd_some h
  obtain ⟨g4, h⟩ := gd_some h
  refine VW.drawn (by kernel_rfl) [some (20, .lf (.hd 0 0 none)), some (21, I a1), some (22, .lf (.hd 0 0 (some (0, a1.toNat)))), some (23, .lf (.hd 0 0 none)), some (24, I a2), some (25, .lf (.hd 0 0 (some (a2.toNat, (a0.length - a2.toNat))))), some (26, .lf (.hd 0 0 (some (0, (a1.toNat + ((a0.drop a2.toNat).take (a0.length - a2.toNat)).length))))), some (0, .lf (.hd 0 0 (some (0, (a1.toNat + ((a0.drop a2.toNat).take (a0.length - a2.toNat)).length)))))] [6] [[ar 0 (.int .i64) a0 .dp], [ar 0 (.int .i64) (a0.take a1.toNat ++ ((a0.drop a2.toNat).take (a0.length - a2.toNat)) ++ a0.drop (a1.toNat + ((a0.drop a2.toNat).take (a0.length - a2.toNat)).length)) .dp]] [(0, 0), (0, 1), (1, 0), (1, 1), (2, 0), (3, 0), (3, 1), (4, 0), (4, 1), (5, 0), (6, 0), (7, 1)] [0, 7] [0] (s' := ⟨[(0, .lf (.hd 0 0 (some (0, (a1.toNat + ((a0.drop a2.toNat).take (a0.length - a2.toNat)).length))))), (7, I (a0.length : Int))], [ar 0 (.int .i64) (a0.take a1.toNat ++ ((a0.drop a2.toNat).take (a0.length - a2.toNat)) ++ a0.drop (a1.toNat + ((a0.drop a2.toNat).take (a0.length - a2.toNat)).length)) .dp]⟩) (by kernel_rfl) (by kernel_rfl) ⟨⟨_, rfl, Stp.ev T_ok (m := .dp) (φ := True) (by kernel_rfl) trivial⟩,
    ⟨_, rfl, Stp.ev T_ok (m := .dp) (φ := True) (by kernel_rfl) trivial⟩,
    ⟨_, rfl, Stp.ev T_ok (m := .dp) (φ := True) (by kernel_rfl) trivial⟩,
    ⟨_, rfl, Stp.ev T_ok (m := .dp) (φ := True) (by kernel_rfl) trivial⟩,
    ⟨_, rfl, Stp.ev T_ok (m := .dp) (φ := 0 ≤ a1 ∧ a1 ≤ (a0.length : Int)) (by kernel_rfl) g2⟩,
    ⟨_, rfl, Stp.ev T_ok (m := .dp) (φ := True) (by kernel_rfl) trivial⟩,
    ⟨_, rfl, Stp.ev T_ok (m := .dp) (φ := True) (by kernel_rfl) trivial⟩,
    ⟨_, rfl, Stp.ev T_ok (m := .dp) (φ := True) (by kernel_rfl) trivial⟩,
    ⟨_, rfl, Stp.ev T_ok (m := .dp) (φ := True) (by kernel_rfl) trivial⟩,
    ⟨_, rfl, Stp.ev T_ok (m := .dp) (φ := 0 ≤ a2 ∧ a2 ≤ (a0.length : Int)) (by kernel_rfl) g3⟩,
    ⟨_, rfl, Stp.ev T_ok (m := .dp) (φ := a1.toNat + ((a0.drop a2.toNat).take (a0.length - a2.toNat)).length ≤ a0.length ∧ a0.length ≤ lim (.int .i64)) (by kernel_rfl) g4⟩,
    ⟨_, rfl, Stp.ev T_ok (m := .dp) (φ := True) (by kernel_rfl) trivial⟩, trivial⟩ (by kernel_rfl) ?_
  obtain ⟨g5, h⟩ := gd_some h
  refine sR T_ok [0] [0] ⟨[(0, .lf (.hd 0 0 (some (0, (a1.toNat + ((a0.drop a2.toNat).take (a0.length - a2.toNat)).length)))))], [ar 0 (.int .i64) ((a0.take a1.toNat ++ ((a0.drop a2.toNat).take (a0.length - a2.toNat)) ++ a0.drop (a1.toNat + ((a0.drop a2.toNat).take (a0.length - a2.toNat)).length)).take (0 + ((a1.toNat + ((a0.drop a2.toNat).take (a0.length - a2.toNat)).length) : Int).toNat) ++ List.replicate ((a0.length : Int).toNat - ((a1.toNat + ((a0.drop a2.toNat).take (a0.length - a2.toNat)).length) : Int).toNat) (Ty.dflt (.int .i64)) ++ (a0.take a1.toNat ++ ((a0.drop a2.toNat).take (a0.length - a2.toNat)) ++ a0.drop (a1.toNat + ((a0.drop a2.toNat).take (a0.length - a2.toNat)).length)).drop ((0 + ((a1.toNat + ((a0.drop a2.toNat).take (a0.length - a2.toNat)).length) : Int).toNat) + ((a0.length : Int).toNat - ((a1.toNat + ((a0.drop a2.toNat).take (a0.length - a2.toNat)).length) : Int).toNat))) .dp]⟩ (pu 4 (an g5 (tn 1))) ?_
  refine sR T_ok [6] [0] ⟨[(6, .lf (.hd 0 0 (some (0, (a1.toNat + ((a0.drop a2.toNat).take (a0.length - a2.toNat)).length)))))], [ar 0 (.int .i64) ((a0.take a1.toNat ++ ((a0.drop a2.toNat).take (a0.length - a2.toNat)) ++ a0.drop (a1.toNat + ((a0.drop a2.toNat).take (a0.length - a2.toNat)).length)).take (0 + ((a1.toNat + ((a0.drop a2.toNat).take (a0.length - a2.toNat)).length) : Int).toNat) ++ List.replicate ((a0.length : Int).toNat - ((a1.toNat + ((a0.drop a2.toNat).take (a0.length - a2.toNat)).length) : Int).toNat) (Ty.dflt (.int .i64)) ++ (a0.take a1.toNat ++ ((a0.drop a2.toNat).take (a0.length - a2.toNat)) ++ a0.drop (a1.toNat + ((a0.drop a2.toNat).take (a0.length - a2.toNat)).length)).drop ((0 + ((a1.toNat + ((a0.drop a2.toNat).take (a0.length - a2.toNat)).length) : Int).toNat) + ((a0.length : Int).toNat - ((a1.toNat + ((a0.drop a2.toNat).take (a0.length - a2.toNat)).length) : Int).toNat))) .dp]⟩ (tn 2) ?_
  replace h := Option.some.inj h
  subst h
  refine VW.ghl [.shr 6, .ren [6] [100000, 0]] (VW.ret ?_)
  exact ⟨[some 1], by kernel_rfl, by kernel_rfl, by kernel_rfl⟩

/- (loop.example/g00844/impl.Cache).without -/
def F153 (N : Nat) (a0 : (Int × ((List Int) × (List Int)))) (a1 : Int) : Option ((Int × ((List Int) × (List Int)))) :=
  andO (F102 N a0) fun y1 => andO (F210 N y1.2.1 a1 (IntKind.i64.wrap (a1 + (1 : Int)))) fun y2 => andO (F210 N y1.2.2 a1 (IntKind.i64.wrap (a1 + (1 : Int)))) fun y3 => some (y1.1, (y2, y3))
theorem ok153 (N : Nat) (a0 : (Int × ((List Int) × (List Int)))) (a1 : Int) {r : (Int × ((List Int) × (List Int)))} (h : F153 N a0 a1 = some r) : Con Go.Proofs.Try.prog 153 [.agg [.v (.int .i64) a0.1, .v (.sl (.int .i64)) a0.2.1, .v (.sl (.int .i64)) a0.2.2], I a1] [.agg [.v (.int .i64) r.1, .own (.int .i64) r.2.1 .dp, .own (.int .i64) r.2.2 .dp]] := by
  refine ctr [.agg [.v (.int .i64), .own (.int .i64) .dp, .own (.int .i64) .dp]] T_ok Go.Proofs.Try.func153 rfl fun w0 E0 ht => ?_
  unfold F153 at h
  show VW _ _ _ _ _ (retQ _ _ _ _) _
  refine sR T_ok [1, 2, 4] [0, 1] ⟨[(1, I a1), (2, .lf (.ptr 0 0 0 0)), (4, .lf (.ptr 1 0 0 0))], [bx [.v (.int .i64) a0.1, .v (.sl (.int .i64)) a0.2.1, .v (.sl (.int .i64)) a0.2.2] 59, bx [.v (.int .i64) (0 : Int), .nil, .nil] 59]⟩ (tn 2) ?_
  refine VW.seq ?_
  refine VW.region ?_
  refine sG T_ok 1 [1, 4, 6] [1] ⟨[(1, I a1), (4, .lf (.ptr 0 0 0 0)), (6, .agg [.v (.int .i64) a0.1, .v (.sl (.int .i64)) a0.2.1, .v (.sl (.int .i64)) a0.2.2])], [bx [.v (.int .i64) (0 : Int), .nil, .nil] 59]⟩ (tn 1) ?_
  obtain ⟨y1, hy, h⟩ := andO_some h
  refine cal false [.t Y58] [] (some 7) T_ok (ok102 N _ hy) ?_
  refine sN T_ok [1, 4, 5] [0, 3, 1, 2] ⟨[(1, I a1), (4, .lf (.ptr 0 0 0 0)), (5, .lf (.ptr 1 0 0 0))], [bx [.v (.int .i64) (0 : Int), .nil, .nil] 59, bx [.v (.int .i64) y1.1, .hd 2 0 none, .hd 3 0 none] 59, ar 0 (.int .i64) y1.2.1 .dp, ar 0 (.int .i64) y1.2.2 .dp]⟩ (tn 2) ?_
  refine VW.seq ?_
  refine VW.region ?_
  refine sG T_ok 5 [1, 4, 5, 9, 10, 12] [0, 1, 2, 3] ⟨[(1, I a1), (4, .lf (.ptr 0 0 0 0)), (5, .lf (.ptr 1 0 0 0)), (9, .lf (.hd 2 0 none)), (10, I a1), (12, I (IntKind.i64.wrap (a1 + (1 : Int))))], [bx [.v (.int .i64) (0 : Int), .nil, .nil] 59, bx [.v (.int .i64) y1.1, .hd 2 0 none, .hd 3 0 none] 59, ar 0 (.int .i64) y1.2.1 .dp, ar 0 (.int .i64) y1.2.2 .dp]⟩ (tn 5) ?_
  obtain ⟨y2, hy, h⟩ := andO_some h
  refine VO.callM [2] [.t (.sl (.int .i64)), .t (.int .i64), .t (.int .i64)] (d := some 13) (by kernel_rfl) (by kernel_rfl) (ok210 N _ _ _ hy) (by kernel_rfl) ?_
  refine sN T_ok [1, 4, 5] [0, 1, 4, 3] ⟨[(1, I a1), (4, .lf (.ptr 0 0 0 0)), (5, .lf (.ptr 1 0 0 0))], [bx [.v (.int .i64) (0 : Int), .nil, .nil] 59, bx [.v (.int .i64) y1.1, .hd 2 0 none, .hd 3 0 none] 59, ar 0 (.int .i64) y2 .dp, ar 0 (.int .i64) y1.2.2 .dp]⟩ (tn 2) ?_
  refine VW.seq ?_
  refine VW.region ?_
  refine sG T_ok 5 [4, 5, 16, 17, 19] [0, 1, 2, 3] ⟨[(4, .lf (.ptr 0 0 0 0)), (5, .lf (.ptr 1 0 0 0)), (16, .lf (.hd 3 0 none)), (17, I a1), (19, I (IntKind.i64.wrap (a1 + (1 : Int))))], [bx [.v (.int .i64) (0 : Int), .nil, .nil] 59, bx [.v (.int .i64) y1.1, .hd 2 0 none, .hd 3 0 none] 59, ar 0 (.int .i64) y2 .dp, ar 0 (.int .i64) y1.2.2 .dp]⟩ (tn 5) ?_
  obtain ⟨y3, hy, h⟩ := andO_some h
  refine VO.callM [3] [.t (.sl (.int .i64)), .t (.int .i64), .t (.int .i64)] (d := some 20) (by kernel_rfl) (by kernel_rfl) (ok210 N _ _ _ hy) (by kernel_rfl) ?_
  refine sN T_ok [4, 5] [0, 1, 2, 4] ⟨[(4, .lf (.ptr 0 0 0 0)), (5, .lf (.ptr 1 0 0 0))], [bx [.v (.int .i64) (0 : Int), .nil, .nil] 59, bx [.v (.int .i64) y1.1, .hd 2 0 none, .hd 3 0 none] 59, ar 0 (.int .i64) y2 .dp, ar 0 (.int .i64) y3 .dp]⟩ (tn 2) ?_
  refine sR T_ok [4] [0, 2, 3] ⟨[(4, .lf (.ptr 0 0 0 0))], [bx [.v (.int .i64) y1.1, .hd 1 0 none, .hd 2 0 none] 59, ar 0 (.int .i64) y2 .dp, ar 0 (.int .i64) y3 .dp]⟩ (tn 2) ?_
  refine VW.ret ?_
  replace h := Option.some.inj h
  subst h
  exact rt [some 1, some 2]

/- (loop.example/g00844/impl.Cache).ahead -/
def F107_j0 (N : Nat) (a1 : Int) (a2 : Int) (x3 : Int) (x4 : (List Int)) (x5 : (List Int)) : Option ((Int × ((List Int) × (List Int)))) :=
  gd (([a1]).length + x4.length ≤ lim (.int .i64)) (gd (([a2]).length + x5.length ≤ lim (.int .i64)) (some (x3, ((([a1]) ++ x4), (([a2]) ++ x5)))))
def F107 (N : Nat) (a0 : (Int × ((List Int) × (List Int)))) (a1 : Int) (a2 : Int) : Option ((Int × ((List Int) × (List Int)))) :=
  andO (F160 N a0.2.1 a1) fun y9 => cond (decide (y9 ≥ (0 : Int))) (andO (F153 N a0 y9) fun y10 => F107_j0 N a1 a2 y10.1 y10.2.1 y10.2.2) (F107_j0 N a1 a2 a0.1 a0.2.1 a0.2.2)
theorem ok107 (N : Nat) (a0 : (Int × ((List Int) × (List Int)))) (a1 : Int) (a2 : Int) {r : (Int × ((List Int) × (List Int)))} (h : F107 N a0 a1 a2 = some r) : Con Go.Proofs.Try.prog 107 [.agg [.v (.int .i64) a0.1, .v (.sl (.int .i64)) a0.2.1, .v (.sl (.int .i64)) a0.2.2], I a1, I a2] [.agg [.v (.int .i64) r.1, .own (.int .i64) r.2.1 .dp, .own (.int .i64) r.2.2 .dp]] := by
  refine ctr [.agg [.v (.int .i64), .own (.int .i64) .dp, .own (.int .i64) .dp]] T_ok Go.Proofs.Try.func107 rfl fun w0 E0 ht => ?_
  unfold F107 at h
  show VW _ _ _ _ _ (retQ _ _ _ _) _
  refine sR T_ok [1, 2, 3, 6] [0, 1] ⟨[(1, I a1), (2, I a2), (3, .lf (.ptr 0 0 0 0)), (6, .lf (.ptr 1 0 0 0))], [bx [.v (.int .i64) a0.1, .v (.sl (.int .i64)) a0.2.1, .v (.sl (.int .i64)) a0.2.2] 59, bx [.v (.int .i64) (0 : Int), .nil, .nil] 59]⟩ (tn 2) ?_
  refine VW.join (fun s => ∃ (x3 : Int) (x4 : (List Int)) (x5 : (List Int)), s = ⟨[(1, I a1), (2, I a2), (3, .lf (.ptr 0 0 0 0)), (6, .lf (.ptr 1 0 0 0))], [bx [.v (.int .i64) x3, .v (.sl (.int .i64)) x4, .v (.sl (.int .i64)) x5] 59, bx [.v (.int .i64) (0 : Int), .nil, .nil] 59]⟩ ∧ F107_j0 N a1 a2 x3 x4 x5 = some r) ?_ ?_
  · refine VW.seq ?_
    refine VW.region ?_
    refine sG T_ok 3 [1, 2, 3, 6, 9, 10] [0, 1] ⟨[(1, I a1), (2, I a2), (3, .lf (.ptr 0 0 0 0)), (6, .lf (.ptr 1 0 0 0)), (9, .lf (.v (.sl (.int .i64)) a0.2.1)), (10, I a1)], [bx [.v (.int .i64) a0.1, .v (.sl (.int .i64)) a0.2.1, .v (.sl (.int .i64)) a0.2.2] 59, bx [.v (.int .i64) (0 : Int), .nil, .nil] 59]⟩ (tn 3) ?_
    obtain ⟨y9, hy, h⟩ := andO_some h
    refine cal false [.t (.sl (.int .i64)), .t (.int .i64)] [] (some 11) T_ok (ok160 N _ _ hy) ?_
    refine sN T_ok [1, 2, 3, 6, 7] [0, 1] ⟨[(1, I a1), (2, I a2), (3, .lf (.ptr 0 0 0 0)), (6, .lf (.ptr 1 0 0 0)), (7, I y9)], [bx [.v (.int .i64) a0.1, .v (.sl (.int .i64)) a0.2.1, .v (.sl (.int .i64)) a0.2.2] 59, bx [.v (.int .i64) (0 : Int), .nil, .nil] 59]⟩ (tn 1) ?_
    refine sR T_ok [1, 2, 3, 6, 7, 13] [0, 1] ⟨[(1, I a1), (2, I a2), (3, .lf (.ptr 0 0 0 0)), (6, .lf (.ptr 1 0 0 0)), (7, I y9), (13, B (decide (y9 ≥ (0 : Int))))], [bx [.v (.int .i64) a0.1, .v (.sl (.int .i64)) a0.2.1, .v (.sl (.int .i64)) a0.2.2] 59, bx [.v (.int .i64) (0 : Int), .nil, .nil] 59]⟩ (tn 2) ?_
    refine cnd h (fun h => ?_) (fun h => ?_)
    · refine VW.region ?_
      refine sG T_ok 2 [1, 2, 3, 6, 14, 15] [0, 1] ⟨[(1, I a1), (2, I a2), (3, .lf (.ptr 0 0 0 0)), (6, .lf (.ptr 1 0 0 0)), (14, .agg [.v (.int .i64) a0.1, .v (.sl (.int .i64)) a0.2.1, .v (.sl (.int .i64)) a0.2.2]), (15, I y9)], [bx [.v (.int .i64) a0.1, .v (.sl (.int .i64)) a0.2.1, .v (.sl (.int .i64)) a0.2.2] 59, bx [.v (.int .i64) (0 : Int), .nil, .nil] 59]⟩ (tn 2) ?_
      obtain ⟨y10, hy, h⟩ := andO_some h
      refine cal false [.t Y58, .t (.int .i64)] [] (some 16) T_ok (ok153 N _ _ hy) ?_
      refine sN T_ok [1, 2, 3, 6] [0, 2, 3, 1] ⟨[(1, I a1), (2, I a2), (3, .lf (.ptr 0 0 0 0)), (6, .lf (.ptr 3 0 0 0))], [bx [.v (.int .i64) y10.1, .hd 1 0 none, .hd 2 0 none] 59, ar 0 (.int .i64) y10.2.1 .dp, ar 0 (.int .i64) y10.2.2 .dp, bx [.v (.int .i64) (0 : Int), .nil, .nil] 59]⟩ (tn 1) ?_
      exact arv [.frz 1, .frz 2, .ren [1, 2, 3, 6] [0, 3]] ⟨y10.1, y10.2.1, y10.2.2, rfl, h⟩
    refine VW.skip ?_
    exact arv [.ren [1, 2, 3, 6] [0, 1]] ⟨a0.1, a0.2.1, a0.2.2, rfl, h⟩
  rintro s ⟨x3, x4, x5, rfl, h⟩
  unfold F107_j0 at h
  obtain ⟨g6, h⟩ := gd_some h
  refine sR T_ok [2, 3, 6] [0, 2, 1] ⟨[(2, I a2), (3, .lf (.ptr 0 0 0 0)), (6, .lf (.ptr 2 0 0 0))], [bx [.v (.int .i64) x3, .hd 1 0 none, .v (.sl (.int .i64)) x5] 59, ar 0 (.int .i64) (([a1]) ++ x4) .dp, bx [.v (.int .i64) (0 : Int), .nil, .nil] 59]⟩ (pu 4 (an g6 (tn 2))) ?_
  obtain ⟨g7, h⟩ := gd_some h
  refine sR T_ok [3, 6] [0, 1, 3, 2] ⟨[(3, .lf (.ptr 0 0 0 0)), (6, .lf (.ptr 3 0 0 0))], [bx [.v (.int .i64) x3, .hd 1 0 none, .hd 2 0 none] 59, ar 0 (.int .i64) (([a1]) ++ x4) .dp, ar 0 (.int .i64) (([a2]) ++ x5) .dp, bx [.v (.int .i64) (0 : Int), .nil, .nil] 59]⟩ (pu 4 (an g7 (tn 2))) ?_
  refine sR T_ok [6] [3, 1, 2] ⟨[(6, .lf (.ptr 0 0 0 0))], [bx [.v (.int .i64) x3, .hd 1 0 none, .hd 2 0 none] 59, ar 0 (.int .i64) (([a1]) ++ x4) .dp, ar 0 (.int .i64) (([a2]) ++ x5) .dp]⟩ (tn 2) ?_
  refine VW.ret ?_
  replace h := Option.some.inj h
  subst h
  exact rt [some 1, some 2]

/- loop.example/g00844/impl.GetKey -/
def F46 (N : Nat) (a0 : (Int × ((List Int) × (List Int)))) (a1 : Int) : Option ((Int × ((List Int) × (List Int))) × Int × Bool) :=
  andO (F106 N a0 a1) fun y1 => cond (decide (y1 < (0 : Int))) (andO (F102 N a0) fun y3 => some (y3, (0 : Int), false)) (gd (InR y1 a0.2.2.length) (andO (F107 N a0 a1 (a0.2.2.getD y1.toNat (Ty.dflt (.int .i64)))) fun y5 => some (y5, (a0.2.2.getD y1.toNat (Ty.dflt (.int .i64))), true)))
theorem ok46 (N : Nat) (a0 : (Int × ((List Int) × (List Int)))) (a1 : Int) {r : (Int × ((List Int) × (List Int))) × Int × Bool} (h : F46 N a0 a1 = some r) : Con Go.Proofs.Try.prog 46 [.agg [.v (.int .i64) a0.1, .v (.sl (.int .i64)) a0.2.1, .v (.sl (.int .i64)) a0.2.2], I a1] [.agg [.v (.int .i64) r.1.1, .own (.int .i64) r.1.2.1 .dp, .own (.int .i64) r.1.2.2 .dp], .lf (.v (.int .i64) r.2.1), .lf (.v .bool r.2.2)] := by
  refine ctr [.agg [.v (.int .i64), .own (.int .i64) .dp, .own (.int .i64) .dp], .lf (.v (.int .i64)), .lf (.v .bool)] T_ok Go.Proofs.Try.func46 rfl fun w0 E0 ht => ?_
  unfold F46 at h
  show VW _ _ _ _ _ (retQ _ _ _ _) _
  refine sR T_ok [1, 2, 4] [0, 1] ⟨[(1, I a1), (2, .lf (.ptr 0 0 0 0)), (4, .lf (.ptr 1 0 0 0))], [bx [.v (.int .i64) a0.1, .v (.sl (.int .i64)) a0.2.1, .v (.sl (.int .i64)) a0.2.2] 59, bx [.v (.int .i64) (0 : Int), .nil, .nil] 59]⟩ (tn 4) ?_
  refine VW.seq ?_
  refine VW.region ?_
  refine sG T_ok 2 [1, 2, 4, 9, 10] [0, 1] ⟨[(1, I a1), (2, .lf (.ptr 0 0 0 0)), (4, .lf (.ptr 1 0 0 0)), (9, .agg [.v (.int .i64) a0.1, .v (.sl (.int .i64)) a0.2.1, .v (.sl (.int .i64)) a0.2.2]), (10, I a1)], [bx [.v (.int .i64) a0.1, .v (.sl (.int .i64)) a0.2.1, .v (.sl (.int .i64)) a0.2.2] 59, bx [.v (.int .i64) (0 : Int), .nil, .nil] 59]⟩ (tn 2) ?_
  obtain ⟨y1, hy, h⟩ := andO_some h
  refine cal false [.t Y58, .t (.int .i64)] [] (some 11) T_ok (ok106 N _ _ hy) ?_
  refine sN T_ok [1, 2, 4, 7] [0, 1] ⟨[(1, I a1), (2, .lf (.ptr 0 0 0 0)), (4, .lf (.ptr 1 0 0 0)), (7, I y1)], [bx [.v (.int .i64) a0.1, .v (.sl (.int .i64)) a0.2.1, .v (.sl (.int .i64)) a0.2.2] 59, bx [.v (.int .i64) (0 : Int), .nil, .nil] 59]⟩ (tn 1) ?_
  refine VW.seq ?_
  refine sR T_ok [1, 2, 4, 7, 13] [0, 1] ⟨[(1, I a1), (2, .lf (.ptr 0 0 0 0)), (4, .lf (.ptr 1 0 0 0)), (7, I y1), (13, B (decide (y1 < (0 : Int))))], [bx [.v (.int .i64) a0.1, .v (.sl (.int .i64)) a0.2.1, .v (.sl (.int .i64)) a0.2.2] 59, bx [.v (.int .i64) (0 : Int), .nil, .nil] 59]⟩ (tn 2) ?_
  refine cnd h (fun h => ?_) (fun h => ?_)
  · refine VW.seq ?_
    refine VW.region ?_
    refine sG T_ok 1 [4, 14] [1] ⟨[(4, .lf (.ptr 0 0 0 0)), (14, .agg [.v (.int .i64) a0.1, .v (.sl (.int .i64)) a0.2.1, .v (.sl (.int .i64)) a0.2.2])], [bx [.v (.int .i64) (0 : Int), .nil, .nil] 59]⟩ (tn 1) ?_
    obtain ⟨y3, hy, h⟩ := andO_some h
    refine cal false [.t Y58] [] (some 15) T_ok (ok102 N _ hy) ?_
    refine sN T_ok [4, 5, 6] [0, 1, 2] ⟨[(4, .lf (.ptr 0 0 0 0)), (5, I (0 : Int)), (6, B false)], [bx [.v (.int .i64) y3.1, .hd 1 0 none, .hd 2 0 none] 59, ar 0 (.int .i64) y3.2.1 .dp, ar 0 (.int .i64) y3.2.2 .dp]⟩ (tn 3) ?_
    refine VW.ret ?_
    replace h := Option.some.inj h
    subst h
    exact rt [some 1, some 2]
  refine VW.skip ?_
  obtain ⟨g4, h⟩ := gd_some h
  refine sR T_ok [1, 2, 4, 8] [0, 1] ⟨[(1, I a1), (2, .lf (.ptr 0 0 0 0)), (4, .lf (.ptr 1 0 0 0)), (8, I (a0.2.2.getD y1.toNat (Ty.dflt (.int .i64))))], [bx [.v (.int .i64) a0.1, .v (.sl (.int .i64)) a0.2.1, .v (.sl (.int .i64)) a0.2.2] 59, bx [.v (.int .i64) (0 : Int), .nil, .nil] 59]⟩ (pu 3 (an g4 (tn 2))) ?_
  refine VW.seq ?_
  refine VW.region ?_
  refine sG T_ok 3 [4, 8, 21, 22, 23] [1] ⟨[(4, .lf (.ptr 0 0 0 0)), (8, I (a0.2.2.getD y1.toNat (Ty.dflt (.int .i64)))), (21, .agg [.v (.int .i64) a0.1, .v (.sl (.int .i64)) a0.2.1, .v (.sl (.int .i64)) a0.2.2]), (22, I a1), (23, I (a0.2.2.getD y1.toNat (Ty.dflt (.int .i64))))], [bx [.v (.int .i64) (0 : Int), .nil, .nil] 59]⟩ (tn 3) ?_
  obtain ⟨y5, hy, h⟩ := andO_some h
  refine cal false [.t Y58, .t (.int .i64), .t (.int .i64)] [] (some 24) T_ok (ok107 N _ _ _ hy) ?_
  refine sN T_ok [4, 5, 6] [0, 1, 2] ⟨[(4, .lf (.ptr 0 0 0 0)), (5, I (a0.2.2.getD y1.toNat (Ty.dflt (.int .i64)))), (6, B true)], [bx [.v (.int .i64) y5.1, .hd 1 0 none, .hd 2 0 none] 59, ar 0 (.int .i64) y5.2.1 .dp, ar 0 (.int .i64) y5.2.2 .dp]⟩ (tn 4) ?_
  refine VW.ret ?_
  replace h := Option.some.inj h
  subst h
  exact rt [some 1, some 2]

/- loop.example/g00844/impl.NewCache -/
def F96 (N : Nat) (a0 : Int) : Option ((Int × ((List Int) × (List Int))) × Bool) :=
  andO (F75 N a0) fun y2 => cond (!y2) (some (((0 : Int), ([], [])), false)) (some ((a0, ([], [])), true))
theorem ok96 (N : Nat) (a0 : Int) {r : (Int × ((List Int) × (List Int))) × Bool} (h : F96 N a0 = some r) : Con Go.Proofs.Try.prog 96 [I a0] [.agg [.v (.int .i64) r.1.1, .own (.int .i64) r.1.2.1 .dp, .own (.int .i64) r.1.2.2 .dp], .lf (.v .bool r.2)] := by
  refine ctr [.agg [.v (.int .i64), .own (.int .i64) .dp, .own (.int .i64) .dp], .lf (.v .bool)] T_ok Go.Proofs.Try.func96 rfl fun w0 E0 ht => ?_
  unfold F96 at h
  show VW _ _ _ _ _ (retQ _ _ _ _) _
  refine sR T_ok [0, 2] [0] ⟨[(0, I a0), (2, .lf (.ptr 0 0 0 0))], [bx [.v (.int .i64) (0 : Int), .nil, .nil] 59]⟩ (tn 2) ?_
  refine VW.seq ?_
  refine VW.seq ?_
  refine VW.region ?_
  refine sG T_ok 1 [0, 2, 4] [0] ⟨[(0, I a0), (2, .lf (.ptr 0 0 0 0)), (4, I a0)], [bx [.v (.int .i64) (0 : Int), .nil, .nil] 59]⟩ (tn 1) ?_
  obtain ⟨y2, hy, h⟩ := andO_some h
  refine cal false [.t (.int .i64)] [] (some 5) T_ok (ok75 N _ hy) ?_
  refine sN T_ok [0, 2, 6] [0] ⟨[(0, I a0), (2, .lf (.ptr 0 0 0 0)), (6, B (!y2))], [bx [.v (.int .i64) (0 : Int), .nil, .nil] 59]⟩ (tn 1) ?_
  refine cnd h (fun h => ?_) (fun h => ?_)
  · refine sR T_ok [2, 3] [0] ⟨[(2, .lf (.ptr 0 0 0 0)), (3, B false)], [bx [.v (.int .i64) (0 : Int), .nil, .nil] 59]⟩ (tn 3) ?_
    refine VW.ret ?_
    replace h := Option.some.inj h
    subst h
    exact rt [none, none]
  refine VW.skip ?_
  refine sR T_ok [2, 3] [0] ⟨[(2, .lf (.ptr 0 0 0 0)), (3, B true)], [bx [.v (.int .i64) a0, .nil, .nil] 59]⟩ (tn 4) ?_
  refine VW.ret ?_
  replace h := Option.some.inj h
  subst h
  exact rt [none, none]

/- loop.example/g00844/impl.PutKey -/
def F97 (N : Nat) (a0 : (Int × ((List Int) × (List Int)))) (a1 : Int) (a2 : Int) : Option ((Int × ((List Int) × (List Int))) × Int × Bool) :=
  andO (F103 N a0) fun y7 => cond (!y7) (andO (F102 N a0) fun y8 => some (y8, (1000001 : Int), false)) (andO (F152 N a1) fun y9 => cond (!y9) (andO (F102 N a0) fun y10 => some (y10, (1000001 : Int), false)) (andO (F152 N a2) fun y11 => cond (!y11) (andO (F102 N a0) fun y12 => some (y12, (1000001 : Int), false)) (andO (F107 N a0 a1 a2) fun y13 => cond (decide ((y13.2.1.length : Int) ≤ a0.1)) (some (y13, (1000001 : Int), true)) (gd (InR a0.1 y13.2.1.length) (gd (a0.1.toNat < y13.2.1.length) (andO (F153 N y13 a0.1) fun y16 => some (y16, (y13.2.1.getD a0.1.toNat (Ty.dflt (.int .i64))), true)))))))
theorem ok97 (N : Nat) (a0 : (Int × ((List Int) × (List Int)))) (a1 : Int) (a2 : Int) {r : (Int × ((List Int) × (List Int))) × Int × Bool} (h : F97 N a0 a1 a2 = some r) : Con Go.Proofs.Try.prog 97 [.agg [.v (.int .i64) a0.1, .v (.sl (.int .i64)) a0.2.1, .v (.sl (.int .i64)) a0.2.2], I a1, I a2] [.agg [.v (.int .i64) r.1.1, .own (.int .i64) r.1.2.1 .dp, .own (.int .i64) r.1.2.2 .dp], .lf (.v (.int .i64) r.2.1), .lf (.v .bool r.2.2)] := by
  refine ctr [.agg [.v (.int .i64), .own (.int .i64) .dp, .own (.int .i64) .dp], .lf (.v (.int .i64)), .lf (.v .bool)] T_ok Go.Proofs.Try.func97 rfl fun w0 E0 ht => ?_
  unfold F97 at h
  show VW _ _ _ _ _ (retQ _ _ _ _) _
  refine sR T_ok [1, 2, 3, 6] [0, 1] ⟨[(1, I a1), (2, I a2), (3, .lf (.ptr 0 0 0 0)), (6, .lf (.ptr 1 0 0 0))], [bx [.v (.int .i64) a0.1, .v (.sl (.int .i64)) a0.2.1, .v (.sl (.int .i64)) a0.2.2] 59, bx [.v (.int .i64) (0 : Int), .nil, .nil] 59]⟩ (tn 4) ?_
  refine VW.seq ?_
  refine VW.seq ?_
  refine VW.region ?_
  refine sG T_ok 1 [1, 2, 3, 6, 11] [0, 1] ⟨[(1, I a1), (2, I a2), (3, .lf (.ptr 0 0 0 0)), (6, .lf (.ptr 1 0 0 0)), (11, .agg [.v (.int .i64) a0.1, .v (.sl (.int .i64)) a0.2.1, .v (.sl (.int .i64)) a0.2.2])], [bx [.v (.int .i64) a0.1, .v (.sl (.int .i64)) a0.2.1, .v (.sl (.int .i64)) a0.2.2] 59, bx [.v (.int .i64) (0 : Int), .nil, .nil] 59]⟩ (tn 1) ?_
  obtain ⟨y7, hy, h⟩ := andO_some h
  refine cal false [.t Y58] [] (some 12) T_ok (ok103 N _ hy) ?_
  refine sG T_ok 2 [1, 2, 3, 6, 14] [0, 1] ⟨[(1, I a1), (2, I a2), (3, .lf (.ptr 0 0 0 0)), (6, .lf (.ptr 1 0 0 0)), (14, B (!y7))], [bx [.v (.int .i64) a0.1, .v (.sl (.int .i64)) a0.2.1, .v (.sl (.int .i64)) a0.2.2] 59, bx [.v (.int .i64) (0 : Int), .nil, .nil] 59]⟩ (tn 2) ?_
  refine spB 14 h (fun h => ?_) (fun h => ?_)
  · refine sN T_ok [1, 2, 3, 6, 23] [0, 1] ⟨[(1, I a1), (2, I a2), (3, .lf (.ptr 0 0 0 0)), (6, .lf (.ptr 1 0 0 0)), (23, B true)], [bx [.v (.int .i64) a0.1, .v (.sl (.int .i64)) a0.2.1, .v (.sl (.int .i64)) a0.2.2] 59, bx [.v (.int .i64) (0 : Int), .nil, .nil] 59]⟩ (tn 9) ?_
    refine VW.cond (b := true) (by kernel_rfl) (fun _ => ?_) (fun h' => nomatch h')
    refine VW.seq ?_
    refine VW.region ?_
    refine sG T_ok 1 [6, 24] [1] ⟨[(6, .lf (.ptr 0 0 0 0)), (24, .agg [.v (.int .i64) a0.1, .v (.sl (.int .i64)) a0.2.1, .v (.sl (.int .i64)) a0.2.2])], [bx [.v (.int .i64) (0 : Int), .nil, .nil] 59]⟩ (tn 1) ?_
    obtain ⟨y8, hy, h⟩ := andO_some h
    refine cal false [.t Y58] [] (some 25) T_ok (ok102 N _ hy) ?_
    refine sN T_ok [6, 7, 8] [0, 1, 2] ⟨[(6, .lf (.ptr 0 0 0 0)), (7, I (1000001 : Int)), (8, B false)], [bx [.v (.int .i64) y8.1, .hd 1 0 none, .hd 2 0 none] 59, ar 0 (.int .i64) y8.2.1 .dp, ar 0 (.int .i64) y8.2.2 .dp]⟩ (tn 3) ?_
    refine VW.ret ?_
    replace h := Option.some.inj h
    subst h
    exact rt [some 1, some 2]
  refine sG T_ok 1 [1, 2, 3, 6, 14, 15] [0, 1] ⟨[(1, I a1), (2, I a2), (3, .lf (.ptr 0 0 0 0)), (6, .lf (.ptr 1 0 0 0)), (14, B false), (15, I a1)], [bx [.v (.int .i64) a0.1, .v (.sl (.int .i64)) a0.2.1, .v (.sl (.int .i64)) a0.2.2] 59, bx [.v (.int .i64) (0 : Int), .nil, .nil] 59]⟩ (tn 1) ?_
  refine VO.on (j := 3) (want := false) (d := 14) (b := false) rfl rfl rfl (by kernel_rfl) rfl ?_
  obtain ⟨y9, hy, h⟩ := andO_some h
  refine cal false [.t (.int .i64)] [] (some 16) T_ok (ok152 N _ hy) ?_
  refine sG T_ok 3 [1, 2, 3, 6, 19] [0, 1] ⟨[(1, I a1), (2, I a2), (3, .lf (.ptr 0 0 0 0)), (6, .lf (.ptr 1 0 0 0)), (19, B (!y9))], [bx [.v (.int .i64) a0.1, .v (.sl (.int .i64)) a0.2.1, .v (.sl (.int .i64)) a0.2.2] 59, bx [.v (.int .i64) (0 : Int), .nil, .nil] 59]⟩ (tn 3) ?_
  refine spB 19 h (fun h => ?_) (fun h => ?_)
  · refine sN T_ok [1, 2, 3, 6, 23] [0, 1] ⟨[(1, I a1), (2, I a2), (3, .lf (.ptr 0 0 0 0)), (6, .lf (.ptr 1 0 0 0)), (23, B true)], [bx [.v (.int .i64) a0.1, .v (.sl (.int .i64)) a0.2.1, .v (.sl (.int .i64)) a0.2.2] 59, bx [.v (.int .i64) (0 : Int), .nil, .nil] 59]⟩ (tn 4) ?_
    refine VW.cond (b := true) (by kernel_rfl) (fun _ => ?_) (fun h' => nomatch h')
    refine VW.seq ?_
    refine VW.region ?_
    refine sG T_ok 1 [6, 24] [1] ⟨[(6, .lf (.ptr 0 0 0 0)), (24, .agg [.v (.int .i64) a0.1, .v (.sl (.int .i64)) a0.2.1, .v (.sl (.int .i64)) a0.2.2])], [bx [.v (.int .i64) (0 : Int), .nil, .nil] 59]⟩ (tn 1) ?_
    obtain ⟨y10, hy, h⟩ := andO_some h
    refine cal false [.t Y58] [] (some 25) T_ok (ok102 N _ hy) ?_
    refine sN T_ok [6, 7, 8] [0, 1, 2] ⟨[(6, .lf (.ptr 0 0 0 0)), (7, I (1000001 : Int)), (8, B false)], [bx [.v (.int .i64) y10.1, .hd 1 0 none, .hd 2 0 none] 59, ar 0 (.int .i64) y10.2.1 .dp, ar 0 (.int .i64) y10.2.2 .dp]⟩ (tn 3) ?_
    refine VW.ret ?_
    replace h := Option.some.inj h
    subst h
    exact rt [some 1, some 2]
  refine sG T_ok 1 [1, 2, 3, 6, 19, 20] [0, 1] ⟨[(1, I a1), (2, I a2), (3, .lf (.ptr 0 0 0 0)), (6, .lf (.ptr 1 0 0 0)), (19, B false), (20, I a2)], [bx [.v (.int .i64) a0.1, .v (.sl (.int .i64)) a0.2.1, .v (.sl (.int .i64)) a0.2.2] 59, bx [.v (.int .i64) (0 : Int), .nil, .nil] 59]⟩ (tn 1) ?_
  refine VO.on (j := 8) (want := false) (d := 19) (b := false) rfl rfl rfl (by kernel_rfl) rfl ?_
  obtain ⟨y11, hy, h⟩ := andO_some h
  refine cal false [.t (.int .i64)] [] (some 21) T_ok (ok152 N _ hy) ?_
  refine sN T_ok [1, 2, 3, 6, 23] [0, 1] ⟨[(1, I a1), (2, I a2), (3, .lf (.ptr 0 0 0 0)), (6, .lf (.ptr 1 0 0 0)), (23, B (!y11))], [bx [.v (.int .i64) a0.1, .v (.sl (.int .i64)) a0.2.1, .v (.sl (.int .i64)) a0.2.2] 59, bx [.v (.int .i64) (0 : Int), .nil, .nil] 59]⟩ (tn 2) ?_
  refine cnd h (fun h => ?_) (fun h => ?_)
  · refine VW.seq ?_
    refine VW.region ?_
    refine sG T_ok 1 [6, 24] [1] ⟨[(6, .lf (.ptr 0 0 0 0)), (24, .agg [.v (.int .i64) a0.1, .v (.sl (.int .i64)) a0.2.1, .v (.sl (.int .i64)) a0.2.2])], [bx [.v (.int .i64) (0 : Int), .nil, .nil] 59]⟩ (tn 1) ?_
    obtain ⟨y12, hy, h⟩ := andO_some h
    refine cal false [.t Y58] [] (some 25) T_ok (ok102 N _ hy) ?_
    refine sN T_ok [6, 7, 8] [0, 1, 2] ⟨[(6, .lf (.ptr 0 0 0 0)), (7, I (1000001 : Int)), (8, B false)], [bx [.v (.int .i64) y12.1, .hd 1 0 none, .hd 2 0 none] 59, ar 0 (.int .i64) y12.2.1 .dp, ar 0 (.int .i64) y12.2.2 .dp]⟩ (tn 3) ?_
    refine VW.ret ?_
    replace h := Option.some.inj h
    subst h
    exact rt [some 1, some 2]
  refine VW.skip ?_
  refine VW.seq ?_
  refine VW.region ?_
  refine sG T_ok 3 [3, 6, 26, 27, 28] [0, 1] ⟨[(3, .lf (.ptr 0 0 0 0)), (6, .lf (.ptr 1 0 0 0)), (26, .agg [.v (.int .i64) a0.1, .v (.sl (.int .i64)) a0.2.1, .v (.sl (.int .i64)) a0.2.2]), (27, I a1), (28, I a2)], [bx [.v (.int .i64) a0.1, .v (.sl (.int .i64)) a0.2.1, .v (.sl (.int .i64)) a0.2.2] 59, bx [.v (.int .i64) (0 : Int), .nil, .nil] 59]⟩ (tn 3) ?_
  obtain ⟨y13, hy, h⟩ := andO_some h
  refine cal false [.t Y58, .t (.int .i64), .t (.int .i64)] [] (some 29) T_ok (ok107 N _ _ _ hy) ?_
  refine sN T_ok [3, 6, 9] [0, 1, 4, 2, 3] ⟨[(3, .lf (.ptr 0 0 0 0)), (6, .lf (.ptr 1 0 0 0)), (9, .lf (.ptr 2 0 0 0))], [bx [.v (.int .i64) a0.1, .v (.sl (.int .i64)) a0.2.1, .v (.sl (.int .i64)) a0.2.2] 59, bx [.v (.int .i64) (0 : Int), .nil, .nil] 59, bx [.v (.int .i64) y13.1, .hd 3 0 none, .hd 4 0 none] 59, ar 0 (.int .i64) y13.2.1 .dp, ar 0 (.int .i64) y13.2.2 .dp]⟩ (tn 2) ?_
  refine VW.seq ?_
  refine sR T_ok [3, 6, 9, 35] [0, 1, 2, 3, 4] ⟨[(3, .lf (.ptr 0 0 0 0)), (6, .lf (.ptr 1 0 0 0)), (9, .lf (.ptr 2 0 0 0)), (35, B (decide ((y13.2.1.length : Int) ≤ a0.1)))], [bx [.v (.int .i64) a0.1, .v (.sl (.int .i64)) a0.2.1, .v (.sl (.int .i64)) a0.2.2] 59, bx [.v (.int .i64) (0 : Int), .nil, .nil] 59, bx [.v (.int .i64) y13.1, .hd 3 0 none, .hd 4 0 none] 59, ar 0 (.int .i64) y13.2.1 .dp, ar 0 (.int .i64) y13.2.2 .dp]⟩ (tn 6) ?_
  refine cnd h (fun h => ?_) (fun h => ?_)
  · refine sR T_ok [6, 7, 8] [1, 3, 4] ⟨[(6, .lf (.ptr 0 0 0 0)), (7, I (1000001 : Int)), (8, B true)], [bx [.v (.int .i64) y13.1, .hd 1 0 none, .hd 2 0 none] 59, ar 0 (.int .i64) y13.2.1 .dp, ar 0 (.int .i64) y13.2.2 .dp]⟩ (tn 4) ?_
    refine VW.ret ?_
    replace h := Option.some.inj h
    subst h
    exact rt [some 1, some 2]
  refine VW.skip ?_
  obtain ⟨g14, h⟩ := gd_some h
  obtain ⟨g15, h⟩ := gd_some h
  refine sR T_ok [3, 6, 9, 10] [0, 1, 2, 3, 4] ⟨[(3, .lf (.ptr 0 0 0 0)), (6, .lf (.ptr 1 0 0 0)), (9, .lf (.ptr 2 0 0 0)), (10, I (y13.2.1.getD a0.1.toNat (Ty.dflt (.int .i64))))], [bx [.v (.int .i64) a0.1, .v (.sl (.int .i64)) a0.2.1, .v (.sl (.int .i64)) a0.2.2] 59, bx [.v (.int .i64) (0 : Int), .nil, .nil] 59, bx [.v (.int .i64) y13.1, .hd 3 0 none, .hd 4 0 none] 59, ar 0 (.int .i64) y13.2.1 .dp, ar 0 (.int .i64) y13.2.2 .dp]⟩ (pu 4 (an g14 (an g15 (tn 1)))) ?_
  refine VW.seq ?_
  refine VW.region ?_
  refine sG T_ok 3 [6, 10, 43, 45] [1, 3, 4] ⟨[(6, .lf (.ptr 0 0 0 0)), (10, I (y13.2.1.getD a0.1.toNat (Ty.dflt (.int .i64)))), (43, .agg [.v (.int .i64) y13.1, .hd 1 0 none, .hd 2 0 none]), (45, I a0.1)], [bx [.v (.int .i64) (0 : Int), .nil, .nil] 59, ar 0 (.int .i64) y13.2.1 .dp, ar 0 (.int .i64) y13.2.2 .dp]⟩ (tn 3) ?_
  obtain ⟨y16, hy, h⟩ := andO_some h
  refine cal true [.t Y58, .t (.int .i64)] [] (some 46) T_ok (ok153 N _ _ hy) ?_
  refine sN T_ok [6, 7, 8] [0, 3, 4] ⟨[(6, .lf (.ptr 0 0 0 0)), (7, I (y13.2.1.getD a0.1.toNat (Ty.dflt (.int .i64)))), (8, B true)], [bx [.v (.int .i64) y16.1, .hd 1 0 none, .hd 2 0 none] 59, ar 0 (.int .i64) y16.2.1 .dp, ar 0 (.int .i64) y16.2.2 .dp]⟩ (tn 4) ?_
  refine VW.ret ?_
  replace h := Option.some.inj h
  subst h
  exact rt [some 1, some 2]

/- loop.example/g00844/impl.HitsIn -/
def F38_j0 (N : Nat) (x67 : Int) : Option (Int) :=
  some x67
def F38_j1 (N : Nat) (nx115 : Int → (List Int) → (List Int) → Int → Int → Int → Option (Int)) (x95 : Int) (x96 : Int) (x128 : Int) (x129 : Int) (x130 : (List Int)) (x131 : (List Int)) : Option (Int) :=
  nx115 x129 x130 x131 x128 x95 (IntKind.i64.wrap (x96 + (1 : Int)))
def F38_l0_b (N : Nat) (a1 : (List Int)) (nx115 : Int → (List Int) → (List Int) → Int → Int → Int → Option (Int)) (x91 : Int) (x92 : (List Int)) (x93 : (List Int)) (x94 : Int) (x95 : Int) (x96 : Int) : Option (Int) :=
  cond (decide (x96 < x95)) (gd (InR x96 a1.length) (andO (F46 N (x91, (x92, x93)) (a1.getD x96.toNat (Ty.dflt (.int .i64)))) fun y126 => cond y126.2.2 (F38_j1 N nx115 x95 x96 (IntKind.i64.wrap (x94 + (1 : Int))) y126.1.1 y126.1.2.1 y126.1.2.2) (andO (F97 N (x91, (x92, x93)) (a1.getD x96.toNat (Ty.dflt (.int .i64))) (0 : Int)) fun y133 => F38_j1 N nx115 x95 x96 x94 y133.1.1 y133.1.2.1 y133.1.2.2))) (F38_j0 N x94)
def F38_l0 (N : Nat) (a1 : (List Int)) : Nat → Int → (List Int) → (List Int) → Int → Int → Int → Option (Int) := loopF (F38_l0_b N a1) (fun _ _ _ _ _ _ => none)
theorem F38_l0_s (N : Nat) (a1 : (List Int)) {k : Nat} (hk : 0 < k) (x91 : Int) (x92 : (List Int)) (x93 : (List Int)) (x94 : Int) (x95 : Int) (x96 : Int) : F38_l0 N a1 k x91 x92 x93 x94 x95 x96 = F38_l0_b N a1 (F38_l0 N a1 (k - 1)) x91 x92 x93 x94 x95 x96 := by
  cases k with
  | zero => exact absurd hk (Nat.lt_irrefl 0)
  | succ m => rfl
def F38 (N : Nat) (a0 : Int) (a1 : (List Int)) : Option (Int) :=
  andO (F96 N a0) fun y1 => cond (!y1.2) (some (-1 : Int)) (cond (decide ((a1.length : Int) > (300 : Int))) (some (-1 : Int)) (F38_l0 N a1 N y1.1.1 y1.1.2.1 y1.1.2.2 (0 : Int) (a1.length : Int) (0 : Int)))
theorem ok38 (N : Nat) (a0 : Int) (a1 : (List Int)) {r : Int} (h : F38 N a0 a1 = some r) : Con Go.Proofs.Try.prog 38 [I a0, .lf (.v (.sl (.int .i64)) a1)] [.lf (.v (.int .i64) r)] := by
  refine ctr [.lf (.v (.int .i64))] T_ok Go.Proofs.Try.func38 rfl fun w0 E0 ht => ?_
  unfold F38 at h
  show VW _ _ _ _ _ (retQ _ _ _ _) _
  refine sR T_ok [0, 1] [] ⟨[(0, I a0), (1, .lf (.v (.sl (.int .i64)) a1))], []⟩ (tn 1) ?_
  refine VW.seq ?_
  refine VW.region ?_
  refine sG T_ok 1 [1, 14] [] ⟨[(1, .lf (.v (.sl (.int .i64)) a1)), (14, I a0)], []⟩ (tn 1) ?_
  obtain ⟨y1, hy, h⟩ := andO_some h
  refine cal false [.t (.int .i64)] [] (some 15) T_ok (ok96 N _ hy) ?_
  refine sN T_ok [1, 5, 6] [2, 0, 1] ⟨[(1, .lf (.v (.sl (.int .i64)) a1)), (5, .lf (.ptr 0 0 0 0)), (6, B y1.2)], [bx [.v (.int .i64) y1.1.1, .hd 1 0 none, .hd 2 0 none] 59, ar 0 (.int .i64) y1.1.2.1 .dp, ar 0 (.int .i64) y1.1.2.2 .dp]⟩ (tn 6) ?_
  refine VW.seq ?_
  refine VW.seq ?_
  refine VW.region ?_
  refine sG T_ok 3 [1, 5, 20] [0, 1, 2] ⟨[(1, .lf (.v (.sl (.int .i64)) a1)), (5, .lf (.ptr 0 0 0 0)), (20, B (!y1.2))], [bx [.v (.int .i64) y1.1.1, .hd 1 0 none, .hd 2 0 none] 59, ar 0 (.int .i64) y1.1.2.1 .dp, ar 0 (.int .i64) y1.1.2.2 .dp]⟩ (tn 3) ?_
  refine spB 20 h (fun h => ?_) (fun h => ?_)
  · refine sN T_ok [1, 5, 24] [0, 1, 2] ⟨[(1, .lf (.v (.sl (.int .i64)) a1)), (5, .lf (.ptr 0 0 0 0)), (24, B true)], [bx [.v (.int .i64) y1.1.1, .hd 1 0 none, .hd 2 0 none] 59, ar 0 (.int .i64) y1.1.2.1 .dp, ar 0 (.int .i64) y1.1.2.2 .dp]⟩ (tn 4) ?_
    refine VW.cond (b := true) (by kernel_rfl) (fun _ => ?_) (fun h' => nomatch h')
    refine sR T_ok [4] [] ⟨[(4, I (-1 : Int))], []⟩ (tn 1) ?_
    refine VW.ret ?_
    replace h := Option.some.inj h
    subst h
    exact rt []
  refine sN T_ok [1, 5, 24] [0, 1, 2] ⟨[(1, .lf (.v (.sl (.int .i64)) a1)), (5, .lf (.ptr 0 0 0 0)), (24, B (decide ((a1.length : Int) > (300 : Int))))], [bx [.v (.int .i64) y1.1.1, .hd 1 0 none, .hd 2 0 none] 59, ar 0 (.int .i64) y1.1.2.1 .dp, ar 0 (.int .i64) y1.1.2.2 .dp]⟩ (tn 4) ?_
  refine cnd h (fun h => ?_) (fun h => ?_)
  · refine sR T_ok [4] [] ⟨[(4, I (-1 : Int))], []⟩ (tn 1) ?_
    refine VW.ret ?_
    replace h := Option.some.inj h
    subst h
    exact rt []
  refine VW.skip ?_
  refine sR T_ok [1, 5, 7] [0, 1, 2] ⟨[(1, .lf (.v (.sl (.int .i64)) a1)), (5, .lf (.ptr 0 0 0 0)), (7, I (0 : Int))], [bx [.v (.int .i64) y1.1.1, .hd 1 0 none, .hd 2 0 none] 59, ar 0 (.int .i64) y1.1.2.1 .dp, ar 0 (.int .i64) y1.1.2.2 .dp]⟩ (tn 1) ?_
  refine VW.join (fun s => ∃ (x67 : Int), s = ⟨[(7, I x67)], []⟩ ∧ F38_j0 N x67 = some r) ?_ ?_
  · refine sR T_ok [5, 7, 25, 26, 27] [0, 1, 2] ⟨[(5, .lf (.ptr 0 0 0 0)), (7, I (0 : Int)), (25, .lf (.v (.sl (.int .i64)) a1)), (26, I (a1.length : Int)), (27, I (0 : Int))], [bx [.v (.int .i64) y1.1.1, .hd 1 0 none, .hd 2 0 none] 59, ar 0 (.int .i64) y1.1.2.1 .dp, ar 0 (.int .i64) y1.1.2.2 .dp]⟩ (tn 3) ?_
    refine VW.block ?_
    refine lop (fun k s => ∃ (x91 : Int) (x92 : (List Int)) (x93 : (List Int)) (x94 : Int) (x95 : Int) (x96 : Int), s = ⟨[(5, .lf (.ptr 0 0 0 0)), (7, I x94), (25, .lf (.v (.sl (.int .i64)) a1)), (26, I x95), (27, I x96)], [bx [.v (.int .i64) x91, .hd 1 0 none, .hd 2 0 none] 59, ar 0 (.int .i64) x92 .dp, ar 0 (.int .i64) x93 .dp]⟩ ∧ F38_l0 N a1 k x91 x92 x93 x94 x95 x96 = some r) N [.ren [5, 7, 25, 26, 27] [0, 1, 2]] ⟨y1.1.1, y1.1.2.1, y1.1.2.2, (0 : Int), (a1.length : Int), (0 : Int), rfl, h⟩ ?_
    rintro k115 s ⟨x91, x92, x93, x94, x95, x96, rfl, h⟩
    cases k115 with
    | zero => cases show none = some r from h
    | succ k115 =>
      replace h : F38_l0_b N a1 (F38_l0 N a1 k115) x91 x92 x93 x94 x95 x96 = some r := h
      unfold F38_l0_b at h
      refine sR T_ok [5, 7, 25, 26, 27, 28] [0, 1, 2] ⟨[(5, .lf (.ptr 0 0 0 0)), (7, I x94), (25, .lf (.v (.sl (.int .i64)) a1)), (26, I x95), (27, I x96), (28, B (decide (x96 < x95)))], [bx [.v (.int .i64) x91, .hd 1 0 none, .hd 2 0 none] 59, ar 0 (.int .i64) x92 .dp, ar 0 (.int .i64) x93 .dp]⟩ (tn 1) ?_
      refine VW.seq ?_
      refine cnd h (fun h => ?_) (fun h => ?_)
      · refine VW.skip ?_
        refine VW.seq ?_
        refine VW.block ?_
        obtain ⟨g125, h⟩ := gd_some h
        refine sR T_ok [5, 7, 9, 25, 26, 27] [0, 1, 2] ⟨[(5, .lf (.ptr 0 0 0 0)), (7, I x94), (9, I (a1.getD x96.toNat (Ty.dflt (.int .i64)))), (25, .lf (.v (.sl (.int .i64)) a1)), (26, I x95), (27, I x96)], [bx [.v (.int .i64) x91, .hd 1 0 none, .hd 2 0 none] 59, ar 0 (.int .i64) x92 .dp, ar 0 (.int .i64) x93 .dp]⟩ (an g125 (tn 2)) ?_
        refine VW.seq ?_
        refine VW.region ?_
        refine sG T_ok 2 [5, 7, 9, 25, 26, 27, 32, 33] [0, 1, 2] ⟨[(5, .lf (.ptr 0 0 0 0)), (7, I x94), (9, I (a1.getD x96.toNat (Ty.dflt (.int .i64)))), (25, .lf (.v (.sl (.int .i64)) a1)), (26, I x95), (27, I x96), (32, .agg [.v (.int .i64) x91, .hd 1 0 none, .hd 2 0 none]), (33, I (a1.getD x96.toNat (Ty.dflt (.int .i64))))], [bx [.v (.int .i64) x91, .hd 1 0 none, .hd 2 0 none] 59, ar 0 (.int .i64) x92 .dp, ar 0 (.int .i64) x93 .dp]⟩ (tn 2) ?_
        obtain ⟨y126, hy, h⟩ := andO_some h
        refine cal true [.t Y58, .t (.int .i64)] [] (some 34) T_ok (ok46 N _ _ hy) ?_
        refine sN T_ok [5, 7, 9, 10, 12, 25, 26, 27] [0, 1, 2, 5, 3, 4] ⟨[(5, .lf (.ptr 0 0 0 0)), (7, I x94), (9, I (a1.getD x96.toNat (Ty.dflt (.int .i64)))), (10, .lf (.ptr 3 0 0 0)), (12, B y126.2.2), (25, .lf (.v (.sl (.int .i64)) a1)), (26, I x95), (27, I x96)], [bx [.v (.int .i64) x91, .hd 1 0 none, .hd 2 0 none] 59, ar 0 (.int .i64) x92 .dp, ar 0 (.int .i64) x93 .dp, bx [.v (.int .i64) y126.1.1, .hd 4 0 none, .hd 5 0 none] 59, ar 0 (.int .i64) y126.1.2.1 .dp, ar 0 (.int .i64) y126.1.2.2 .dp]⟩ (tn 8) ?_
        refine VW.join (fun s => ∃ (x128 : Int) (x129 : Int) (x130 : (List Int)) (x131 : (List Int)), s = ⟨[(5, .lf (.ptr 0 0 0 0)), (7, I x128), (10, .lf (.ptr 3 0 0 0)), (25, .lf (.v (.sl (.int .i64)) a1)), (26, I x95), (27, I x96)], [bx [.v (.int .i64) x91, .hd 1 0 none, .hd 2 0 none] 59, ar 0 (.int .i64) x92 .dp, ar 0 (.int .i64) x93 .dp, bx [.v (.int .i64) x129, .hd 4 0 none, .hd 5 0 none] 59, ar 0 (.int .i64) x130 .dp, ar 0 (.int .i64) x131 .dp]⟩ ∧ F38_j1 N (F38_l0 N a1 k115) x95 x96 x128 x129 x130 x131 = some r) ?_ ?_
        · refine sR T_ok [5, 7, 9, 10, 25, 26, 27, 38] [0, 1, 2, 3, 4, 5] ⟨[(5, .lf (.ptr 0 0 0 0)), (7, I x94), (9, I (a1.getD x96.toNat (Ty.dflt (.int .i64)))), (10, .lf (.ptr 3 0 0 0)), (25, .lf (.v (.sl (.int .i64)) a1)), (26, I x95), (27, I x96), (38, B y126.2.2)], [bx [.v (.int .i64) x91, .hd 1 0 none, .hd 2 0 none] 59, ar 0 (.int .i64) x92 .dp, ar 0 (.int .i64) x93 .dp, bx [.v (.int .i64) y126.1.1, .hd 4 0 none, .hd 5 0 none] 59, ar 0 (.int .i64) y126.1.2.1 .dp, ar 0 (.int .i64) y126.1.2.2 .dp]⟩ (tn 1) ?_
          refine cnd h (fun h => ?_) (fun h => ?_)
          · refine rR T_ok [5, 7, 10, 25, 26, 27] [0, 1, 2, 3, 4, 5] ⟨[(5, .lf (.ptr 0 0 0 0)), (7, I (IntKind.i64.wrap (x94 + (1 : Int)))), (10, .lf (.ptr 3 0 0 0)), (25, .lf (.v (.sl (.int .i64)) a1)), (26, I x95), (27, I x96)], [bx [.v (.int .i64) x91, .hd 1 0 none, .hd 2 0 none] 59, ar 0 (.int .i64) x92 .dp, ar 0 (.int .i64) x93 .dp, bx [.v (.int .i64) y126.1.1, .hd 4 0 none, .hd 5 0 none] 59, ar 0 (.int .i64) y126.1.2.1 .dp, ar 0 (.int .i64) y126.1.2.2 .dp]⟩ (tn 3) ?_
            exact arv [.ren [5, 7, 10, 25, 26, 27] [0, 1, 2, 3, 4, 5]] ⟨(IntKind.i64.wrap (x94 + (1 : Int))), y126.1.1, y126.1.2.1, y126.1.2.2, rfl, h⟩
          refine VW.region ?_
          refine sG T_ok 2 [5, 7, 10, 25, 26, 27, 42, 43] [0, 1, 2, 3, 4, 5] ⟨[(5, .lf (.ptr 0 0 0 0)), (7, I x94), (10, .lf (.ptr 3 0 0 0)), (25, .lf (.v (.sl (.int .i64)) a1)), (26, I x95), (27, I x96), (42, .agg [.v (.int .i64) x91, .hd 1 0 none, .hd 2 0 none]), (43, I (a1.getD x96.toNat (Ty.dflt (.int .i64))))], [bx [.v (.int .i64) x91, .hd 1 0 none, .hd 2 0 none] 59, ar 0 (.int .i64) x92 .dp, ar 0 (.int .i64) x93 .dp, bx [.v (.int .i64) y126.1.1, .hd 4 0 none, .hd 5 0 none] 59, ar 0 (.int .i64) y126.1.2.1 .dp, ar 0 (.int .i64) y126.1.2.2 .dp]⟩ (tn 2) ?_
          obtain ⟨y133, hy, h⟩ := andO_some h
          refine cal true [.t Y58, .t (.int .i64), .t (.int .i64)] [] (some 44) T_ok (ok97 N _ _ _ hy) ?_
          refine sN T_ok [5, 7, 10, 25, 26, 27] [0, 1, 2, 3, 6, 7] ⟨[(5, .lf (.ptr 0 0 0 0)), (7, I x94), (10, .lf (.ptr 3 0 0 0)), (25, .lf (.v (.sl (.int .i64)) a1)), (26, I x95), (27, I x96)], [bx [.v (.int .i64) x91, .hd 1 0 none, .hd 2 0 none] 59, ar 0 (.int .i64) x92 .dp, ar 0 (.int .i64) x93 .dp, bx [.v (.int .i64) y133.1.1, .hd 4 0 none, .hd 5 0 none] 59, ar 0 (.int .i64) y133.1.2.1 .dp, ar 0 (.int .i64) y133.1.2.2 .dp]⟩ (tn 5) ?_
          exact arv [.ren [5, 7, 10, 25, 26, 27] [0, 1, 2, 3, 4, 5]] ⟨x94, y133.1.1, y133.1.2.1, y133.1.2.2, rfl, h⟩
        rintro s ⟨x128, x129, x130, x131, rfl, h⟩
        unfold F38_j1 at h
        refine rR T_ok [5, 7, 25, 26, 27] [0, 4, 5] ⟨[(5, .lf (.ptr 0 0 0 0)), (7, I x128), (25, .lf (.v (.sl (.int .i64)) a1)), (26, I x95), (27, I x96)], [bx [.v (.int .i64) x129, .hd 1 0 none, .hd 2 0 none] 59, ar 0 (.int .i64) x130 .dp, ar 0 (.int .i64) x131 .dp]⟩ (tn 2) ?_
        refine rR T_ok [5, 7, 25, 26, 27] [0, 1, 2] ⟨[(5, .lf (.ptr 0 0 0 0)), (7, I x128), (25, .lf (.v (.sl (.int .i64)) a1)), (26, I x95), (27, I (IntKind.i64.wrap (x96 + (1 : Int))))], [bx [.v (.int .i64) x129, .hd 1 0 none, .hd 2 0 none] 59, ar 0 (.int .i64) x130 .dp, ar 0 (.int .i64) x131 .dp]⟩ (tn 2) ?_
        exact aro [.ren [5, 7, 25, 26, 27] [0, 1, 2]] ⟨x129, x130, x131, x128, x95, (IntKind.i64.wrap (x96 + (1 : Int))), rfl, h⟩
      refine VW.exit ?_
      exact arv [.ren [7] []] ⟨x94, rfl, h⟩
  rintro s ⟨x67, rfl, h⟩
  unfold F38_j0 at h
  refine sR T_ok [4] [] ⟨[(4, I x67)], []⟩ (tn 2) ?_
  refine VW.ret ?_
  replace h := Option.some.inj h
  subst h
  exact rt []

/- loop.example/g00844/spec.NewCache -/
def F98 (N : Nat) (a0 : Int) : Option ((Int × ((List Int) × (List Int))) × Bool) :=
  andO (F71 N a0 (1 : Int) (16 : Int)) fun y2 => cond (!y2) (some (((0 : Int), ([], [])), false)) (some ((a0, ([], [])), true))
theorem ok98 (N : Nat) (a0 : Int) {r : (Int × ((List Int) × (List Int))) × Bool} (h : F98 N a0 = some r) : Con Go.Proofs.Try.prog 98 [I a0] [.agg [.v (.int .i64) r.1.1, .own (.int .i64) r.1.2.1 .dp, .own (.int .i64) r.1.2.2 .dp], .lf (.v .bool r.2)] := by
  refine ctr [.agg [.v (.int .i64), .own (.int .i64) .dp, .own (.int .i64) .dp], .lf (.v .bool)] T_ok Go.Proofs.Try.func98 rfl fun w0 E0 ht => ?_
  unfold F98 at h
  show VW _ _ _ _ _ (retQ _ _ _ _) _
  refine sR T_ok [0, 2] [0] ⟨[(0, I a0), (2, .lf (.ptr 0 0 0 0))], [bx [.v (.int .i64) (0 : Int), .nil, .nil] 59]⟩ (tn 2) ?_
  refine VW.seq ?_
  refine VW.seq ?_
  refine VW.region ?_
  refine sG T_ok 1 [0, 2, 4] [0] ⟨[(0, I a0), (2, .lf (.ptr 0 0 0 0)), (4, I a0)], [bx [.v (.int .i64) (0 : Int), .nil, .nil] 59]⟩ (tn 1) ?_
  obtain ⟨y2, hy, h⟩ := andO_some h
  refine cal false [.t (.int .i64), .t (.int .i64), .t (.int .i64)] [] (some 5) T_ok (ok71 N _ _ _ hy) ?_
  refine sN T_ok [0, 2, 6] [0] ⟨[(0, I a0), (2, .lf (.ptr 0 0 0 0)), (6, B (!y2))], [bx [.v (.int .i64) (0 : Int), .nil, .nil] 59]⟩ (tn 1) ?_
  refine cnd h (fun h => ?_) (fun h => ?_)
  · refine sR T_ok [2, 3] [0] ⟨[(2, .lf (.ptr 0 0 0 0)), (3, B false)], [bx [.v (.int .i64) (0 : Int), .nil, .nil] 59]⟩ (tn 3) ?_
    refine VW.ret ?_
    replace h := Option.some.inj h
    subst h
    exact rt [none, none]
  refine VW.skip ?_
  refine sR T_ok [2, 3] [0] ⟨[(2, .lf (.ptr 0 0 0 0)), (3, B true)], [bx [.v (.int .i64) a0, .nil, .nil] 59]⟩ (tn 4) ?_
  refine VW.ret ?_
  replace h := Option.some.inj h
  subst h
  exact rt [none, none]

/- loop.example/g00844/spec.l01Copy -/
def F161_j0 (N : Nat) (x16 : (List Int)) : Option ((List Int)) :=
  some x16
def F161_l0_b (N : Nat) (a0 : (List Int)) (nx28 : (List Int) → Int → Option ((List Int))) (x22 : (List Int)) (x23 : Int) : Option ((List Int)) :=
  cond (decide (x23 < (a0.length : Int))) (gd (InR x23 a0.length) (gd (x22.length + ([(a0.getD x23.toNat (Ty.dflt (.int .i64)))]).length ≤ lim (.int .i64)) (nx28 (x22 ++ ([(a0.getD x23.toNat (Ty.dflt (.int .i64)))])) (IntKind.i64.wrap (x23 + (1 : Int)))))) (F161_j0 N x22)
def F161_l0 (N : Nat) (a0 : (List Int)) : Nat → (List Int) → Int → Option ((List Int)) := loopF (F161_l0_b N a0) (fun _ _ => none)
theorem F161_l0_s (N : Nat) (a0 : (List Int)) {k : Nat} (hk : 0 < k) (x22 : (List Int)) (x23 : Int) : F161_l0 N a0 k x22 x23 = F161_l0_b N a0 (F161_l0 N a0 (k - 1)) x22 x23 := by
  cases k with
  | zero => exact absurd hk (Nat.lt_irrefl 0)
  | succ m => rfl
def F161 (N : Nat) (a0 : (List Int)) : Option ((List Int)) :=
  F161_l0 N a0 N ([]) (0 : Int)
theorem ok161 (N : Nat) (a0 : (List Int)) {r : (List Int)} (h : F161 N a0 = some r) : Con Go.Proofs.Try.prog 161 [.lf (.v (.sl (.int .i64)) a0)] [.lf (.own (.int .i64) r .dp)] := by
  refine ctr [.lf (.own (.int .i64) .dp)] T_ok Go.Proofs.Try.func161 rfl fun w0 E0 ht => ?_
  unfold F161 at h
  show VW _ _ _ _ _ (retQ _ _ _ _) _
  refine sR T_ok [0] [] ⟨[(0, .lf (.v (.sl (.int .i64)) a0))], []⟩ (tn 1) ?_
  refine sR T_ok [0, 3] [] ⟨[(0, .lf (.v (.sl (.int .i64)) a0)), (3, .lf (.nil))], []⟩ (tn 2) ?_
  refine VW.join (fun s => ∃ (x16 : (List Int)), s = ⟨[(3, .lf (.hd 0 0 none))], [ar 0 (.int .i64) x16 .dp]⟩ ∧ F161_j0 N x16 = some r) ?_ ?_
  · refine sR T_ok [0, 3, 4] [] ⟨[(0, .lf (.v (.sl (.int .i64)) a0)), (3, .lf (.nil)), (4, I (0 : Int))], []⟩ (tn 1) ?_
    refine VW.block ?_
    refine lop (fun k s => ∃ (x22 : (List Int)) (x23 : Int), s = ⟨[(0, .lf (.v (.sl (.int .i64)) a0)), (3, .lf (.hd 0 0 none)), (4, I x23)], [ar 0 (.int .i64) x22 .dp]⟩ ∧ F161_l0 N a0 k x22 x23 = some r) N [.nilS 3 (.int .i64) .dp, .ren [0, 3, 4] [0]] ⟨[], (0 : Int), rfl, h⟩ ?_
    rintro k28 s ⟨x22, x23, rfl, h⟩
    cases k28 with
    | zero => cases show none = some r from h
    | succ k28 =>
      replace h : F161_l0_b N a0 (F161_l0 N a0 k28) x22 x23 = some r := h
      unfold F161_l0_b at h
      refine VW.seq ?_
      refine sR T_ok [0, 3, 4, 9] [0] ⟨[(0, .lf (.v (.sl (.int .i64)) a0)), (3, .lf (.hd 0 0 none)), (4, I x23), (9, B (decide (x23 < (a0.length : Int))))], [ar 0 (.int .i64) x22 .dp]⟩ (tn 4) ?_
      refine cnd h (fun h => ?_) (fun h => ?_)
      · refine VW.skip ?_
        refine VW.seq ?_
        refine VW.block ?_
        obtain ⟨g31, h⟩ := gd_some h
        obtain ⟨g32, h⟩ := gd_some h
        refine rR T_ok [0, 3, 4] [0] ⟨[(0, .lf (.v (.sl (.int .i64)) a0)), (3, .lf (.hd 0 0 none)), (4, I x23)], [ar 0 (.int .i64) (x22 ++ ([(a0.getD x23.toNat (Ty.dflt (.int .i64)))])) .dp]⟩ (pu 3 (an g31 (pu 2 (an g32 (tn 1))))) ?_
        refine rR T_ok [0, 3, 4] [0] ⟨[(0, .lf (.v (.sl (.int .i64)) a0)), (3, .lf (.hd 0 0 none)), (4, I (IntKind.i64.wrap (x23 + (1 : Int))))], [ar 0 (.int .i64) (x22 ++ ([(a0.getD x23.toNat (Ty.dflt (.int .i64)))])) .dp]⟩ (tn 3) ?_
        exact aro [.ren [0, 3, 4] [0]] ⟨(x22 ++ ([(a0.getD x23.toNat (Ty.dflt (.int .i64)))])), (IntKind.i64.wrap (x23 + (1 : Int))), rfl, h⟩
      refine VW.exit ?_
      exact arv [.ren [3] [0]] ⟨x22, rfl, h⟩
  rintro s ⟨x16, rfl, h⟩
  unfold F161_j0 at h
  refine sR T_ok [2] [0] ⟨[(2, .lf (.hd 0 0 none))], [ar 0 (.int .i64) x16 .dp]⟩ (tn 2) ?_
  refine VW.ret ?_
  replace h := Option.some.inj h
  subst h
  exact rt [some 0]

/- loop.example/g00844/spec.l09Copy -/
def F104 (N : Nat) (a0 : (Int × ((List Int) × (List Int)))) : Option ((Int × ((List Int) × (List Int)))) :=
  andO (F161 N a0.2.1) fun y1 => andO (F161 N a0.2.2) fun y2 => some (a0.1, (y1, y2))
theorem ok104 (N : Nat) (a0 : (Int × ((List Int) × (List Int)))) {r : (Int × ((List Int) × (List Int)))} (h : F104 N a0 = some r) : Con Go.Proofs.Try.prog 104 [.agg [.v (.int .i64) a0.1, .v (.sl (.int .i64)) a0.2.1, .v (.sl (.int .i64)) a0.2.2]] [.agg [.v (.int .i64) r.1, .own (.int .i64) r.2.1 .dp, .own (.int .i64) r.2.2 .dp]] := by
  refine ctr [.agg [.v (.int .i64), .own (.int .i64) .dp, .own (.int .i64) .dp]] T_ok Go.Proofs.Try.func104 rfl fun w0 E0 ht => ?_
  unfold F104 at h
  show VW _ _ _ _ _ (retQ _ _ _ _) _
  refine sR T_ok [1, 2] [0, 1] ⟨[(1, .lf (.ptr 0 0 0 0)), (2, .lf (.ptr 1 0 0 0))], [bx [.v (.int .i64) a0.1, .v (.sl (.int .i64)) a0.2.1, .v (.sl (.int .i64)) a0.2.2] 59, bx [.v (.int .i64) (0 : Int), .nil, .nil] 59]⟩ (tn 2) ?_
  refine VW.seq ?_
  obtain ⟨y1, hy1, h⟩ := andO_some h
  obtain ⟨y2, hy2, h⟩ := andO_some h
  refine VW.drawn (by kernel_rfl) [some (3, .lf (.ptr 0 0 0 0)), some (4, I a0.1), some (5, .lf (.ptr 0 0 0 1)), some (6, .lf (.v (.sl (.int .i64)) a0.2.1)), some (7, .lf (.hd 2 0 none)), some (8, .lf (.ptr 0 0 0 2)), some (9, .lf (.v (.sl (.int .i64)) a0.2.2)), some (10, .lf (.hd 3 0 none)), some (11, .agg [.v (.int .i64) a0.1, .hd 2 0 none, .hd 3 0 none]), none] [4, 7, 9] [[bx [.v (.int .i64) a0.1, .v (.sl (.int .i64)) a0.2.1, .v (.sl (.int .i64)) a0.2.2] 59, bx [.v (.int .i64) (0 : Int), .nil, .nil] 59], [bx [.v (.int .i64) a0.1, .v (.sl (.int .i64)) a0.2.1, .v (.sl (.int .i64)) a0.2.2] 59, bx [.v (.int .i64) (0 : Int), .nil, .nil] 59, ar 0 (.int .i64) y1 .dp], [bx [.v (.int .i64) a0.1, .v (.sl (.int .i64)) a0.2.1, .v (.sl (.int .i64)) a0.2.2] 59, bx [.v (.int .i64) (0 : Int), .nil, .nil] 59, ar 0 (.int .i64) y1 .dp, ar 0 (.int .i64) y2 .dp], [bx [.v (.int .i64) a0.1, .v (.sl (.int .i64)) a0.2.1, .v (.sl (.int .i64)) a0.2.2] 59, bx [.v (.int .i64) a0.1, .hd 2 0 none, .hd 3 0 none] 59, ar 0 (.int .i64) y1 .dp, ar 0 (.int .i64) y2 .dp]] [(0, 0), (0, 1), (0, 2), (1, 0), (1, 1), (1, 2), (2, 0), (2, 1), (2, 2), (3, 0), (4, 0), (5, 0), (5, 1), (5, 2), (6, 0), (6, 1), (7, 1), (8, 2), (9, 2)] [2] [1, 2, 3] (s' := ⟨[(2, .lf (.ptr 0 0 0 0))], [bx [.v (.int .i64) a0.1, .hd 1 0 none, .hd 2 0 none] 59, ar 0 (.int .i64) y1 .dp, ar 0 (.int .i64) y2 .dp]⟩) (by kernel_rfl) (by kernel_rfl) ⟨⟨_, rfl, Stp.ev T_ok (m := .dp) (φ := True) (by kernel_rfl) trivial⟩,
    ⟨_, rfl, Stp.ev T_ok (m := .dp) (φ := True) (by kernel_rfl) trivial⟩,
    ⟨_, rfl, Stp.ev T_ok (m := .dp) (φ := True) (by kernel_rfl) trivial⟩,
    ⟨_, rfl, Stp.ev T_ok (m := .dp) (φ := True) (by kernel_rfl) trivial⟩,
    ⟨_, rfl, Stp.ev T_ok (m := .dp) (φ := True) (by kernel_rfl) trivial⟩,
    ⟨_, rfl, Stp.ev T_ok (m := .dp) (φ := True) (by kernel_rfl) trivial⟩,
    ⟨_, rfl, Stp.ev T_ok (m := .dp) (φ := True) (by kernel_rfl) trivial⟩,
    ⟨_, rfl, Stp.ev T_ok (m := .dp) (φ := True) (by kernel_rfl) trivial⟩,
    ⟨_, rfl, Stp.ev T_ok (m := .dp) (φ := True) (by kernel_rfl) trivial⟩,
    ⟨_, rfl, Stp.ev T_ok (m := .dp) (φ := True) (by kernel_rfl) trivial⟩,
    ⟨_, rfl, Stp.eq (Stp.call false [.t (.sl (.int .i64))] [] T_ok (d := some 7) (by kernel_rfl) (ok161 N _ hy1) rfl) (by kernel_rfl) (by kernel_rfl)⟩,
    ⟨_, rfl, Stp.ev T_ok (m := .dp) (φ := True) (by kernel_rfl) trivial⟩,
    ⟨_, rfl, Stp.ev T_ok (m := .dp) (φ := True) (by kernel_rfl) trivial⟩,
    ⟨_, rfl, Stp.ev T_ok (m := .dp) (φ := True) (by kernel_rfl) trivial⟩,
    ⟨_, rfl, Stp.ev T_ok (m := .dp) (φ := True) (by kernel_rfl) trivial⟩,
    ⟨_, rfl, Stp.ev T_ok (m := .dp) (φ := True) (by kernel_rfl) trivial⟩,
    ⟨_, rfl, Stp.eq (Stp.call false [.t (.sl (.int .i64))] [] T_ok (d := some 10) (by kernel_rfl) (ok161 N _ hy2) rfl) (by kernel_rfl) (by kernel_rfl)⟩,
    ⟨_, rfl, Stp.ev T_ok (m := .dp) (φ := True) (by kernel_rfl) trivial⟩,
    ⟨_, rfl, Stp.ev T_ok (m := .dp) (φ := True) (by kernel_rfl) trivial⟩, trivial⟩ (by kernel_rfl) ?_
  refine VW.ret ?_
  replace h := Option.some.inj h
  subst h
  exact rt [some 1, some 2]

/- loop.example/g00844/spec.CacheOk -/
def F105_j0 (N : Nat) : Option (Bool) :=
  some true
def F105_l0_b (N : Nat) (nx109 : Int → (List Int) → (List Int) → Int → Option (Bool)) (x87 : Int) (x88 : (List Int)) (x89 : (List Int)) (x90 : Int) : Option (Bool) :=
  cond (decide (x90 < (x88.length : Int))) (gd (InR x90 x88.length) (andO (F156 N (x88.getD x90.toNat (Ty.dflt (.int .i64)))) fun y120 => cond (!y120) (some false) (gd (InR x90 x89.length) (andO (F156 N (x89.getD x90.toNat (Ty.dflt (.int .i64)))) fun y123 => cond (!y123) (some false) (gd (0 ≤ x90 ∧ x90 ≤ (x88.length : Int)) (gd (InR x90 x88.length) (andO (F87 N (x88.take x90.toNat) (x88.getD x90.toNat (Ty.dflt (.int .i64)))) fun y127 => cond y127 (some false) (nx109 x87 x88 x89 (IntKind.i64.wrap (x90 + (1 : Int))))))))))) (F105_j0 N)
def F105_l0 (N : Nat) : Nat → Int → (List Int) → (List Int) → Int → Option (Bool) := loopF (F105_l0_b N) (fun _ _ _ _ => none)
theorem F105_l0_s (N : Nat) {k : Nat} (hk : 0 < k) (x87 : Int) (x88 : (List Int)) (x89 : (List Int)) (x90 : Int) : F105_l0 N k x87 x88 x89 x90 = F105_l0_b N (F105_l0 N (k - 1)) x87 x88 x89 x90 := by
  cases k with
  | zero => exact absurd hk (Nat.lt_irrefl 0)
  | succ m => rfl
def F105 (N : Nat) (a0 : (Int × ((List Int) × (List Int)))) : Option (Bool) :=
  andO (F71 N a0.1 (1 : Int) (16 : Int)) fun y2 => cond (!y2) (some false) (cond (decide ((a0.2.1.length : Int) > a0.1)) (some false) (cond ((a0.2.2.length : Int) != (a0.2.1.length : Int)) (some false) (F105_l0 N N a0.1 a0.2.1 a0.2.2 (0 : Int))))
theorem ok105 (N : Nat) (a0 : (Int × ((List Int) × (List Int)))) {r : Bool} (h : F105 N a0 = some r) : Con Go.Proofs.Try.prog 105 [.agg [.v (.int .i64) a0.1, .v (.sl (.int .i64)) a0.2.1, .v (.sl (.int .i64)) a0.2.2]] [.lf (.v .bool r)] := by
  refine ctr [.lf (.v .bool)] T_ok Go.Proofs.Try.func105 rfl fun w0 E0 ht => ?_
  unfold F105 at h
  show VW _ _ _ _ _ (retQ _ _ _ _) _
  refine sR T_ok [1] [0] ⟨[(1, .lf (.ptr 0 0 0 0))], [bx [.v (.int .i64) a0.1, .v (.sl (.int .i64)) a0.2.1, .v (.sl (.int .i64)) a0.2.2] 59]⟩ (tn 2) ?_
  refine VW.seq ?_
  refine VW.seq ?_
  refine VW.region ?_
  refine sG T_ok 2 [1, 5] [0] ⟨[(1, .lf (.ptr 0 0 0 0)), (5, I a0.1)], [bx [.v (.int .i64) a0.1, .v (.sl (.int .i64)) a0.2.1, .v (.sl (.int .i64)) a0.2.2] 59]⟩ (tn 2) ?_
  obtain ⟨y2, hy, h⟩ := andO_some h
  refine cal false [.t (.int .i64), .t (.int .i64), .t (.int .i64)] [] (some 6) T_ok (ok71 N _ _ _ hy) ?_
  refine sG T_ok 2 [1, 8] [0] ⟨[(1, .lf (.ptr 0 0 0 0)), (8, B (!y2))], [bx [.v (.int .i64) a0.1, .v (.sl (.int .i64)) a0.2.1, .v (.sl (.int .i64)) a0.2.2] 59]⟩ (tn 2) ?_
  refine spB 8 h (fun h => ?_) (fun h => ?_)
  · refine sN T_ok [1, 24] [0] ⟨[(1, .lf (.ptr 0 0 0 0)), (24, B true)], [bx [.v (.int .i64) a0.1, .v (.sl (.int .i64)) a0.2.1, .v (.sl (.int .i64)) a0.2.2] 59]⟩ (tn 16) ?_
    refine VW.cond (b := true) (by kernel_rfl) (fun _ => ?_) (fun h' => nomatch h')
    refine sR T_ok [2] [] ⟨[(2, B false)], []⟩ (tn 1) ?_
    refine VW.ret ?_
    replace h := Option.some.inj h
    subst h
    exact rt []
  refine sG T_ok 8 [1, 16] [0] ⟨[(1, .lf (.ptr 0 0 0 0)), (16, B (decide ((a0.2.1.length : Int) > a0.1)))], [bx [.v (.int .i64) a0.1, .v (.sl (.int .i64)) a0.2.1, .v (.sl (.int .i64)) a0.2.2] 59]⟩ (tn 8) ?_
  refine spB 16 h (fun h => ?_) (fun h => ?_)
  · refine sN T_ok [1, 24] [0] ⟨[(1, .lf (.ptr 0 0 0 0)), (24, B true)], [bx [.v (.int .i64) a0.1, .v (.sl (.int .i64)) a0.2.1, .v (.sl (.int .i64)) a0.2.2] 59]⟩ (tn 8) ?_
    refine VW.cond (b := true) (by kernel_rfl) (fun _ => ?_) (fun h' => nomatch h')
    refine sR T_ok [2] [] ⟨[(2, B false)], []⟩ (tn 1) ?_
    refine VW.ret ?_
    replace h := Option.some.inj h
    subst h
    exact rt []
  refine sN T_ok [1, 24] [0] ⟨[(1, .lf (.ptr 0 0 0 0)), (24, B ((a0.2.2.length : Int) != (a0.2.1.length : Int)))], [bx [.v (.int .i64) a0.1, .v (.sl (.int .i64)) a0.2.1, .v (.sl (.int .i64)) a0.2.2] 59]⟩ (tn 8) ?_
  refine cnd h (fun h => ?_) (fun h => ?_)
  · refine sR T_ok [2] [] ⟨[(2, B false)], []⟩ (tn 1) ?_
    refine VW.ret ?_
    replace h := Option.some.inj h
    subst h
    exact rt []
  refine VW.skip ?_
  refine VW.join (fun s => s = ⟨[], []⟩ ∧ F105_j0 N = some r) ?_ ?_
  · refine sR T_ok [1, 3] [0] ⟨[(1, .lf (.ptr 0 0 0 0)), (3, I (0 : Int))], [bx [.v (.int .i64) a0.1, .v (.sl (.int .i64)) a0.2.1, .v (.sl (.int .i64)) a0.2.2] 59]⟩ (tn 1) ?_
    refine VW.block ?_
    refine lop (fun k s => ∃ (x87 : Int) (x88 : (List Int)) (x89 : (List Int)) (x90 : Int), s = ⟨[(1, .lf (.ptr 0 0 0 0)), (3, I x90)], [bx [.v (.int .i64) x87, .v (.sl (.int .i64)) x88, .v (.sl (.int .i64)) x89] 59]⟩ ∧ F105_l0 N k x87 x88 x89 x90 = some r) N [.ren [1, 3] [0]] ⟨a0.1, a0.2.1, a0.2.2, (0 : Int), rfl, h⟩ ?_
    rintro k109 s ⟨x87, x88, x89, x90, rfl, h⟩
    cases k109 with
    | zero => cases show none = some r from h
    | succ k109 =>
      replace h : F105_l0_b N (F105_l0 N k109) x87 x88 x89 x90 = some r := h
      unfold F105_l0_b at h
      refine VW.seq ?_
      refine sR T_ok [1, 3, 29] [0] ⟨[(1, .lf (.ptr 0 0 0 0)), (3, I x90), (29, B (decide (x90 < (x88.length : Int))))], [bx [.v (.int .i64) x87, .v (.sl (.int .i64)) x88, .v (.sl (.int .i64)) x89] 59]⟩ (tn 5) ?_
      refine cnd h (fun h => ?_) (fun h => ?_)
      · refine VW.skip ?_
        refine VW.seq ?_
        refine VW.block ?_
        refine VW.seq ?_
        obtain ⟨g119, h⟩ := gd_some h
        obtain ⟨y120, hy120, h⟩ := andO_some h
        rcases Bool.eq_false_or_eq_true (!y120) with hb121 | hb121
        · replace h := cond_t h hb121
          refine VW.drawn (by kernel_rfl) [some (32, .lf (.ptr 0 0 0 1)), some (33, .lf (.v (.sl (.int .i64)) x88)), some (34, I x90), some (35, .lf (.fp (.int .i64) (x88.getD x90.toNat (Ty.dflt (.int .i64))) 0)), some (36, I (x88.getD x90.toNat (Ty.dflt (.int .i64)))), some (37, B y120), some (38, B (!y120)), some (39, B true), some (40, .unk), some (41, .unk), some (42, .unk), some (43, .unk), some (44, .unk), some (45, .unk), some (46, .unk), some (47, B true), some (48, B true), some (49, .unk), some (50, .unk), some (51, .unk), some (52, .unk), some (53, .unk), some (54, .unk), some (55, .unk), some (56, .unk), some (57, .unk), some (58, .unk), some (59, B true)] [] [[bx [.v (.int .i64) x87, .v (.sl (.int .i64)) x88, .v (.sl (.int .i64)) x89] 59]] [(0, 0), (1, 0), (2, 0), (3, 0), (4, 0), (5, 0), (6, 0), (7, 0), (8, 0), (9, 0), (10, 0), (11, 0), (12, 0), (13, 0), (14, 0), (15, 0), (16, 0), (17, 0), (18, 0), (19, 0), (20, 0), (21, 0), (22, 0), (23, 0), (24, 0), (25, 0), (26, 0), (27, 0)] [1, 3, 59] [0] (s' := ⟨[(1, .lf (.ptr 0 0 0 0)), (3, I x90), (59, B true)], [bx [.v (.int .i64) x87, .v (.sl (.int .i64)) x88, .v (.sl (.int .i64)) x89] 59]⟩) (by kernel_rfl) (by kernel_rfl) ⟨⟨_, rfl, Stp.ev T_ok (m := .dp) (φ := True) (by kernel_rfl) trivial⟩,
    ⟨_, rfl, Stp.ev T_ok (m := .dp) (φ := True) (by kernel_rfl) trivial⟩,
    ⟨_, rfl, Stp.ev T_ok (m := .dp) (φ := True) (by kernel_rfl) trivial⟩,
    ⟨_, rfl, Stp.ev T_ok (m := .dp) (φ := InR x90 x88.length) (by kernel_rfl) g119⟩,
    ⟨_, rfl, Stp.ev T_ok (m := .dp) (φ := True) (by kernel_rfl) trivial⟩,
    ⟨_, rfl, Stp.eq (Stp.call false [.t (.int .i64)] [] T_ok (d := some 37) (by kernel_rfl) (ok156 N _ hy120) rfl) (by kernel_rfl) (by kernel_rfl)⟩,
    ⟨_, rfl, Stp.ev T_ok (m := .dp) (φ := True) (by kernel_rfl) trivial⟩,
    ⟨_, rfl, Stp.lit (d := 39) (b := (!y120)) (c := true) (Stp.ev T_ok (m := .dp) (φ := True) (by kernel_rfl) trivial) hb121⟩,
    ⟨_, rfl, Stp.off (d := 39) (b := true) rfl rfl rfl (by kernel_rfl) (by decide) rfl (Nat.le_of_ble_eq_true rfl)⟩,
    ⟨_, rfl, Stp.off (d := 39) (b := true) rfl rfl rfl (by kernel_rfl) (by decide) rfl (Nat.le_of_ble_eq_true rfl)⟩,
    ⟨_, rfl, Stp.off (d := 39) (b := true) rfl rfl rfl (by kernel_rfl) (by decide) rfl (Nat.le_of_ble_eq_true rfl)⟩,
    ⟨_, rfl, Stp.off (d := 39) (b := true) rfl rfl rfl (by kernel_rfl) (by decide) rfl (Nat.le_of_ble_eq_true rfl)⟩,
    ⟨_, rfl, Stp.off (d := 39) (b := true) rfl rfl rfl (by kernel_rfl) (by decide) rfl (Nat.le_of_ble_eq_true rfl)⟩,
    ⟨_, rfl, Stp.off (d := 39) (b := true) rfl rfl rfl (by kernel_rfl) (by decide) rfl (Nat.le_of_ble_eq_true rfl)⟩,
    ⟨_, rfl, Stp.off (d := 39) (b := true) rfl rfl rfl (by kernel_rfl) (by decide) rfl (Nat.le_of_ble_eq_true rfl)⟩,
    ⟨_, rfl, Stp.ev T_ok (m := .dp) (φ := True) (by kernel_rfl) trivial⟩,
    ⟨_, rfl, Stp.ev T_ok (m := .dp) (φ := True) (by kernel_rfl) trivial⟩,
    ⟨_, rfl, Stp.off (d := 48) (b := true) rfl rfl rfl (by kernel_rfl) (by decide) rfl (Nat.le_of_ble_eq_true rfl)⟩,
    ⟨_, rfl, Stp.off (d := 48) (b := true) rfl rfl rfl (by kernel_rfl) (by decide) rfl (Nat.le_of_ble_eq_true rfl)⟩,
    ⟨_, rfl, Stp.off (d := 48) (b := true) rfl rfl rfl (by kernel_rfl) (by decide) rfl (Nat.le_of_ble_eq_true rfl)⟩,
    ⟨_, rfl, Stp.off (d := 48) (b := true) rfl rfl rfl (by kernel_rfl) (by decide) rfl (Nat.le_of_ble_eq_true rfl)⟩,
    ⟨_, rfl, Stp.off (d := 48) (b := true) rfl rfl rfl (by kernel_rfl) (by decide) rfl (Nat.le_of_ble_eq_true rfl)⟩,
    ⟨_, rfl, Stp.off (d := 48) (b := true) rfl rfl rfl (by kernel_rfl) (by decide) rfl (Nat.le_of_ble_eq_true rfl)⟩,
    ⟨_, rfl, Stp.off (d := 48) (b := true) rfl rfl rfl (by kernel_rfl) (by decide) rfl (Nat.le_of_ble_eq_true rfl)⟩,
    ⟨_, rfl, Stp.off (d := 48) (b := true) rfl rfl rfl (by kernel_rfl) (by decide) rfl (Nat.le_of_ble_eq_true rfl)⟩,
    ⟨_, rfl, Stp.off (d := 48) (b := true) rfl rfl rfl (by kernel_rfl) (by decide) rfl (Nat.le_of_ble_eq_true rfl)⟩,
    ⟨_, rfl, Stp.off (d := 48) (b := true) rfl rfl rfl (by kernel_rfl) (by decide) rfl (Nat.le_of_ble_eq_true rfl)⟩,
    ⟨_, rfl, Stp.ev T_ok (m := .dp) (φ := True) (by kernel_rfl) trivial⟩, trivial⟩ (by kernel_rfl) ?_
          refine VW.cond (b := true) (by kernel_rfl) (fun _ => ?_) (fun h' => nomatch h')
          refine sR T_ok [2] [] ⟨[(2, B false)], []⟩ (tn 1) ?_
          refine VW.ret ?_
          replace h := Option.some.inj h
          subst h
          exact rt []
        replace h := cond_f h hb121
        obtain ⟨g122, h⟩ := gd_some h
        obtain ⟨y123, hy123, h⟩ := andO_some h
        rcases Bool.eq_false_or_eq_true (!y123) with hb124 | hb124
        · replace h := cond_t h hb124
          refine VW.drawn (by kernel_rfl) [some (32, .lf (.ptr 0 0 0 1)), some (33, .lf (.v (.sl (.int .i64)) x88)), some (34, I x90), some (35, .lf (.fp (.int .i64) (x88.getD x90.toNat (Ty.dflt (.int .i64))) 0)), some (36, I (x88.getD x90.toNat (Ty.dflt (.int .i64)))), some (37, B y120), some (38, B (!y120)), some (39, B false), some (40, .lf (.ptr 0 0 0 2)), some (41, .lf (.v (.sl (.int .i64)) x89)), some (42, I x90), some (43, .lf (.fp (.int .i64) (x89.getD x90.toNat (Ty.dflt (.int .i64))) 0)), some (44, I (x89.getD x90.toNat (Ty.dflt (.int .i64)))), some (45, B y123), some (46, B (!y123)), some (47, B (!y123)), some (48, B true), some (49, .unk), some (50, .unk), some (51, .unk), some (52, .unk), some (53, .unk), some (54, .unk), some (55, .unk), some (56, .unk), some (57, .unk), some (58, .unk), some (59, B true)] [] [[bx [.v (.int .i64) x87, .v (.sl (.int .i64)) x88, .v (.sl (.int .i64)) x89] 59]] [(0, 0), (1, 0), (2, 0), (3, 0), (4, 0), (5, 0), (6, 0), (7, 0), (8, 0), (9, 0), (10, 0), (11, 0), (12, 0), (13, 0), (14, 0), (15, 0), (16, 0), (17, 0), (18, 0), (19, 0), (20, 0), (21, 0), (22, 0), (23, 0), (24, 0), (25, 0), (26, 0), (27, 0)] [1, 3, 59] [0] (s' := ⟨[(1, .lf (.ptr 0 0 0 0)), (3, I x90), (59, B true)], [bx [.v (.int .i64) x87, .v (.sl (.int .i64)) x88, .v (.sl (.int .i64)) x89] 59]⟩) (by kernel_rfl) (by kernel_rfl) ⟨⟨_, rfl, Stp.ev T_ok (m := .dp) (φ := True) (by kernel_rfl) trivial⟩,
    ⟨_, rfl, Stp.ev T_ok (m := .dp) (φ := True) (by kernel_rfl) trivial⟩,
    ⟨_, rfl, Stp.ev T_ok (m := .dp) (φ := True) (by kernel_rfl) trivial⟩,
    ⟨_, rfl, Stp.ev T_ok (m := .dp) (φ := InR x90 x88.length) (by kernel_rfl) g119⟩,
    ⟨_, rfl, Stp.ev T_ok (m := .dp) (φ := True) (by kernel_rfl) trivial⟩,
    ⟨_, rfl, Stp.eq (Stp.call false [.t (.int .i64)] [] T_ok (d := some 37) (by kernel_rfl) (ok156 N _ hy120) rfl) (by kernel_rfl) (by kernel_rfl)⟩,
    ⟨_, rfl, Stp.ev T_ok (m := .dp) (φ := True) (by kernel_rfl) trivial⟩,
    ⟨_, rfl, Stp.lit (d := 39) (b := (!y120)) (c := false) (Stp.ev T_ok (m := .dp) (φ := True) (by kernel_rfl) trivial) hb121⟩,
    ⟨_, rfl, Stp.on (d := 39) (b := false) rfl rfl rfl (by kernel_rfl) rfl (Stp.ev T_ok (m := .dp) (φ := True) (by kernel_rfl) trivial)⟩,
    ⟨_, rfl, Stp.on (d := 39) (b := false) rfl rfl rfl (by kernel_rfl) rfl (Stp.ev T_ok (m := .dp) (φ := True) (by kernel_rfl) trivial)⟩,
    ⟨_, rfl, Stp.on (d := 39) (b := false) rfl rfl rfl (by kernel_rfl) rfl (Stp.ev T_ok (m := .dp) (φ := True) (by kernel_rfl) trivial)⟩,
    ⟨_, rfl, Stp.on (d := 39) (b := false) rfl rfl rfl (by kernel_rfl) rfl (Stp.ev T_ok (m := .dp) (φ := InR x90 x89.length) (by kernel_rfl) g122)⟩,
    ⟨_, rfl, Stp.on (d := 39) (b := false) rfl rfl rfl (by kernel_rfl) rfl (Stp.ev T_ok (m := .dp) (φ := True) (by kernel_rfl) trivial)⟩,
    ⟨_, rfl, Stp.eq (Stp.on (d := 39) (b := false) rfl rfl rfl (by kernel_rfl) rfl (Stp.call false [.t (.int .i64)] [] T_ok (d := some 45) (by kernel_rfl) (ok156 N _ hy123) rfl)) (by kernel_rfl) (by kernel_rfl)⟩,
    ⟨_, rfl, Stp.on (d := 39) (b := false) rfl rfl rfl (by kernel_rfl) rfl (Stp.ev T_ok (m := .dp) (φ := True) (by kernel_rfl) trivial)⟩,
    ⟨_, rfl, Stp.ev T_ok (m := .dp) (φ := True) (by kernel_rfl) trivial⟩,
    ⟨_, rfl, Stp.lit (d := 48) (b := (!y123)) (c := true) (Stp.ev T_ok (m := .dp) (φ := True) (by kernel_rfl) trivial) hb124⟩,
    ⟨_, rfl, Stp.off (d := 48) (b := true) rfl rfl rfl (by kernel_rfl) (by decide) rfl (Nat.le_of_ble_eq_true rfl)⟩,
    ⟨_, rfl, Stp.off (d := 48) (b := true) rfl rfl rfl (by kernel_rfl) (by decide) rfl (Nat.le_of_ble_eq_true rfl)⟩,
    ⟨_, rfl, Stp.off (d := 48) (b := true) rfl rfl rfl (by kernel_rfl) (by decide) rfl (Nat.le_of_ble_eq_true rfl)⟩,
    ⟨_, rfl, Stp.off (d := 48) (b := true) rfl rfl rfl (by kernel_rfl) (by decide) rfl (Nat.le_of_ble_eq_true rfl)⟩,
    ⟨_, rfl, Stp.off (d := 48) (b := true) rfl rfl rfl (by kernel_rfl) (by decide) rfl (Nat.le_of_ble_eq_true rfl)⟩,
    ⟨_, rfl, Stp.off (d := 48) (b := true) rfl rfl rfl (by kernel_rfl) (by decide) rfl (Nat.le_of_ble_eq_true rfl)⟩,
    ⟨_, rfl, Stp.off (d := 48) (b := true) rfl rfl rfl (by kernel_rfl) (by decide) rfl (Nat.le_of_ble_eq_true rfl)⟩,
    ⟨_, rfl, Stp.off (d := 48) (b := true) rfl rfl rfl (by kernel_rfl) (by decide) rfl (Nat.le_of_ble_eq_true rfl)⟩,
    ⟨_, rfl, Stp.off (d := 48) (b := true) rfl rfl rfl (by kernel_rfl) (by decide) rfl (Nat.le_of_ble_eq_true rfl)⟩,
    ⟨_, rfl, Stp.off (d := 48) (b := true) rfl rfl rfl (by kernel_rfl) (by decide) rfl (Nat.le_of_ble_eq_true rfl)⟩,
    ⟨_, rfl, Stp.ev T_ok (m := .dp) (φ := True) (by kernel_rfl) trivial⟩, trivial⟩ (by kernel_rfl) ?_
          refine VW.cond (b := true) (by kernel_rfl) (fun _ => ?_) (fun h' => nomatch h')
          refine sR T_ok [2] [] ⟨[(2, B false)], []⟩ (tn 1) ?_
          refine VW.ret ?_
          replace h := Option.some.inj h
          subst h
          exact rt []
        replace h := cond_f h hb124
        obtain ⟨g125, h⟩ := gd_some h
        obtain ⟨g126, h⟩ := gd_some h
        obtain ⟨y127, hy127, h⟩ := andO_some h
        refine VW.drawn (by kernel_rfl) [some (32, .lf (.ptr 0 0 0 1)), some (33, .lf (.v (.sl (.int .i64)) x88)), some (34, I x90), some (35, .lf (.fp (.int .i64) (x88.getD x90.toNat (Ty.dflt (.int .i64))) 0)), some (36, I (x88.getD x90.toNat (Ty.dflt (.int .i64)))), some (37, B y120), some (38, B (!y120)), some (39, B false), some (40, .lf (.ptr 0 0 0 2)), some (41, .lf (.v (.sl (.int .i64)) x89)), some (42, I x90), some (43, .lf (.fp (.int .i64) (x89.getD x90.toNat (Ty.dflt (.int .i64))) 0)), some (44, I (x89.getD x90.toNat (Ty.dflt (.int .i64)))), some (45, B y123), some (46, B (!y123)), some (47, B (!y123)), some (48, B false), some (49, .lf (.ptr 0 0 0 1)), some (50, .lf (.v (.sl (.int .i64)) x88)), some (51, I x90), some (52, .lf (.v (.sl (.int .i64)) (x88.take x90.toNat))), some (53, .lf (.ptr 0 0 0 1)), some (54, .lf (.v (.sl (.int .i64)) x88)), some (55, I x90), some (56, .lf (.fp (.int .i64) (x88.getD x90.toNat (Ty.dflt (.int .i64))) 0)), some (57, I (x88.getD x90.toNat (Ty.dflt (.int .i64)))), some (58, B y127), some (59, B y127)] [] [[bx [.v (.int .i64) x87, .v (.sl (.int .i64)) x88, .v (.sl (.int .i64)) x89] 59]] [(0, 0), (1, 0), (2, 0), (3, 0), (4, 0), (5, 0), (6, 0), (7, 0), (8, 0), (9, 0), (10, 0), (11, 0), (12, 0), (13, 0), (14, 0), (15, 0), (16, 0), (17, 0), (18, 0), (19, 0), (20, 0), (21, 0), (22, 0), (23, 0), (24, 0), (25, 0), (26, 0), (27, 0)] [1, 3, 59] [0] (s' := ⟨[(1, .lf (.ptr 0 0 0 0)), (3, I x90), (59, B y127)], [bx [.v (.int .i64) x87, .v (.sl (.int .i64)) x88, .v (.sl (.int .i64)) x89] 59]⟩) (by kernel_rfl) (by kernel_rfl) ⟨⟨_, rfl, Stp.ev T_ok (m := .dp) (φ := True) (by kernel_rfl) trivial⟩,
    ⟨_, rfl, Stp.ev T_ok (m := .dp) (φ := True) (by kernel_rfl) trivial⟩,
    ⟨_, rfl, Stp.ev T_ok (m := .dp) (φ := True) (by kernel_rfl) trivial⟩,
    ⟨_, rfl, Stp.ev T_ok (m := .dp) (φ := InR x90 x88.length) (by kernel_rfl) g119⟩,
    ⟨_, rfl, Stp.ev T_ok (m := .dp) (φ := True) (by kernel_rfl) trivial⟩,
    ⟨_, rfl, Stp.eq (Stp.call false [.t (.int .i64)] [] T_ok (d := some 37) (by kernel_rfl) (ok156 N _ hy120) rfl) (by kernel_rfl) (by kernel_rfl)⟩,
    ⟨_, rfl, Stp.ev T_ok (m := .dp) (φ := True) (by kernel_rfl) trivial⟩,
    ⟨_, rfl, Stp.lit (d := 39) (b := (!y120)) (c := false) (Stp.ev T_ok (m := .dp) (φ := True) (by kernel_rfl) trivial) hb121⟩,
    ⟨_, rfl, Stp.on (d := 39) (b := false) rfl rfl rfl (by kernel_rfl) rfl (Stp.ev T_ok (m := .dp) (φ := True) (by kernel_rfl) trivial)⟩,
    ⟨_, rfl, Stp.on (d := 39) (b := false) rfl rfl rfl (by kernel_rfl) rfl (Stp.ev T_ok (m := .dp) (φ := True) (by kernel_rfl) trivial)⟩,
    ⟨_, rfl, Stp.on (d := 39) (b := false) rfl rfl rfl (by kernel_rfl) rfl (Stp.ev T_ok (m := .dp) (φ := True) (by kernel_rfl) trivial)⟩,
    ⟨_, rfl, Stp.on (d := 39) (b := false) rfl rfl rfl (by kernel_rfl) rfl (Stp.ev T_ok (m := .dp) (φ := InR x90 x89.length) (by kernel_rfl) g122)⟩,
    ⟨_, rfl, Stp.on (d := 39) (b := false) rfl rfl rfl (by kernel_rfl) rfl (Stp.ev T_ok (m := .dp) (φ := True) (by kernel_rfl) trivial)⟩,
    ⟨_, rfl, Stp.eq (Stp.on (d := 39) (b := false) rfl rfl rfl (by kernel_rfl) rfl (Stp.call false [.t (.int .i64)] [] T_ok (d := some 45) (by kernel_rfl) (ok156 N _ hy123) rfl)) (by kernel_rfl) (by kernel_rfl)⟩,
    ⟨_, rfl, Stp.on (d := 39) (b := false) rfl rfl rfl (by kernel_rfl) rfl (Stp.ev T_ok (m := .dp) (φ := True) (by kernel_rfl) trivial)⟩,
    ⟨_, rfl, Stp.ev T_ok (m := .dp) (φ := True) (by kernel_rfl) trivial⟩,
    ⟨_, rfl, Stp.lit (d := 48) (b := (!y123)) (c := false) (Stp.ev T_ok (m := .dp) (φ := True) (by kernel_rfl) trivial) hb124⟩,
    ⟨_, rfl, Stp.on (d := 48) (b := false) rfl rfl rfl (by kernel_rfl) rfl (Stp.ev T_ok (m := .dp) (φ := True) (by kernel_rfl) trivial)⟩,
    ⟨_, rfl, Stp.on (d := 48) (b := false) rfl rfl rfl (by kernel_rfl) rfl (Stp.ev T_ok (m := .dp) (φ := True) (by kernel_rfl) trivial)⟩,
    ⟨_, rfl, Stp.on (d := 48) (b := false) rfl rfl rfl (by kernel_rfl) rfl (Stp.ev T_ok (m := .dp) (φ := True) (by kernel_rfl) trivial)⟩,
    ⟨_, rfl, Stp.on (d := 48) (b := false) rfl rfl rfl (by kernel_rfl) rfl (Stp.ev T_ok (m := .dp) (φ := 0 ≤ x90 ∧ x90 ≤ (x88.length : Int)) (by kernel_rfl) g125)⟩,
    ⟨_, rfl, Stp.on (d := 48) (b := false) rfl rfl rfl (by kernel_rfl) rfl (Stp.ev T_ok (m := .dp) (φ := True) (by kernel_rfl) trivial)⟩,
    ⟨_, rfl, Stp.on (d := 48) (b := false) rfl rfl rfl (by kernel_rfl) rfl (Stp.ev T_ok (m := .dp) (φ := True) (by kernel_rfl) trivial)⟩,
    ⟨_, rfl, Stp.on (d := 48) (b := false) rfl rfl rfl (by kernel_rfl) rfl (Stp.ev T_ok (m := .dp) (φ := True) (by kernel_rfl) trivial)⟩,
    ⟨_, rfl, Stp.on (d := 48) (b := false) rfl rfl rfl (by kernel_rfl) rfl (Stp.ev T_ok (m := .dp) (φ := InR x90 x88.length) (by kernel_rfl) g126)⟩,
    ⟨_, rfl, Stp.on (d := 48) (b := false) rfl rfl rfl (by kernel_rfl) rfl (Stp.ev T_ok (m := .dp) (φ := True) (by kernel_rfl) trivial)⟩,
    ⟨_, rfl, Stp.eq (Stp.on (d := 48) (b := false) rfl rfl rfl (by kernel_rfl) rfl (Stp.call false [.t (.sl (.int .i64)), .t (.int .i64)] [] T_ok (d := some 58) (by kernel_rfl) (ok87 N _ _ hy127) rfl)) (by kernel_rfl) (by kernel_rfl)⟩,
    ⟨_, rfl, Stp.ev T_ok (m := .dp) (φ := True) (by kernel_rfl) trivial⟩, trivial⟩ (by kernel_rfl) ?_
        refine cnd h (fun h => ?_) (fun h => ?_)
        · refine sR T_ok [2] [] ⟨[(2, B false)], []⟩ (tn 1) ?_
          refine VW.ret ?_
          replace h := Option.some.inj h
          subst h
          exact rt []
        refine VW.skip ?_
        refine rR T_ok [1, 3] [0] ⟨[(1, .lf (.ptr 0 0 0 0)), (3, I (IntKind.i64.wrap (x90 + (1 : Int))))], [bx [.v (.int .i64) x87, .v (.sl (.int .i64)) x88, .v (.sl (.int .i64)) x89] 59]⟩ (tn 3) ?_
        exact aro [.ren [1, 3] [0]] ⟨x87, x88, x89, (IntKind.i64.wrap (x90 + (1 : Int))), rfl, h⟩
      refine VW.exit ?_
      exact arv [.ren [] []] ⟨rfl, h⟩
  rintro s ⟨rfl, h⟩
  unfold F105_j0 at h
  refine sR T_ok [2] [] ⟨[(2, B true)], []⟩ (tn 1) ?_
  refine VW.ret ?_
  replace h := Option.some.inj h
  subst h
  exact rt []

/- loop.example/g00844/spec.l09At -/
def F154_j0 (N : Nat) : Option (Int) :=
  some (-1 : Int)
def F154_l0_b (N : Nat) (a1 : Int) (nx27 : Int → (List Int) → (List Int) → Int → Option (Int)) (x21 : Int) (x22 : (List Int)) (x23 : (List Int)) (x24 : Int) : Option (Int) :=
  cond (decide (x24 < (x22.length : Int))) (gd (InR x24 x22.length) (cond ((x22.getD x24.toNat (Ty.dflt (.int .i64))) == a1) (some x24) (nx27 x21 x22 x23 (IntKind.i64.wrap (x24 + (1 : Int)))))) (F154_j0 N)
def F154_l0 (N : Nat) (a1 : Int) : Nat → Int → (List Int) → (List Int) → Int → Option (Int) := loopF (F154_l0_b N a1) (fun _ _ _ _ => none)
theorem F154_l0_s (N : Nat) (a1 : Int) {k : Nat} (hk : 0 < k) (x21 : Int) (x22 : (List Int)) (x23 : (List Int)) (x24 : Int) : F154_l0 N a1 k x21 x22 x23 x24 = F154_l0_b N a1 (F154_l0 N a1 (k - 1)) x21 x22 x23 x24 := by
  cases k with
  | zero => exact absurd hk (Nat.lt_irrefl 0)
  | succ m => rfl
def F154 (N : Nat) (a0 : (Int × ((List Int) × (List Int)))) (a1 : Int) : Option (Int) :=
  F154_l0 N a1 N a0.1 a0.2.1 a0.2.2 (0 : Int)
theorem ok154 (N : Nat) (a0 : (Int × ((List Int) × (List Int)))) (a1 : Int) {r : Int} (h : F154 N a0 a1 = some r) : Con Go.Proofs.Try.prog 154 [.agg [.v (.int .i64) a0.1, .v (.sl (.int .i64)) a0.2.1, .v (.sl (.int .i64)) a0.2.2], I a1] [.lf (.v (.int .i64) r)] := by
  refine ctr [.lf (.v (.int .i64))] T_ok Go.Proofs.Try.func154 rfl fun w0 E0 ht => ?_
  unfold F154 at h
  show VW _ _ _ _ _ (retQ _ _ _ _) _
  refine sR T_ok [1, 2] [0] ⟨[(1, I a1), (2, .lf (.ptr 0 0 0 0))], [bx [.v (.int .i64) a0.1, .v (.sl (.int .i64)) a0.2.1, .v (.sl (.int .i64)) a0.2.2] 59]⟩ (tn 2) ?_
  refine VW.join (fun s => s = ⟨[], []⟩ ∧ F154_j0 N = some r) ?_ ?_
  · refine sR T_ok [1, 2, 5] [0] ⟨[(1, I a1), (2, .lf (.ptr 0 0 0 0)), (5, I (0 : Int))], [bx [.v (.int .i64) a0.1, .v (.sl (.int .i64)) a0.2.1, .v (.sl (.int .i64)) a0.2.2] 59]⟩ (tn 1) ?_
    refine VW.block ?_
    refine lop (fun k s => ∃ (x21 : Int) (x22 : (List Int)) (x23 : (List Int)) (x24 : Int), s = ⟨[(1, I a1), (2, .lf (.ptr 0 0 0 0)), (5, I x24)], [bx [.v (.int .i64) x21, .v (.sl (.int .i64)) x22, .v (.sl (.int .i64)) x23] 59]⟩ ∧ F154_l0 N a1 k x21 x22 x23 x24 = some r) N [.ren [1, 2, 5] [0]] ⟨a0.1, a0.2.1, a0.2.2, (0 : Int), rfl, h⟩ ?_
    rintro k27 s ⟨x21, x22, x23, x24, rfl, h⟩
    cases k27 with
    | zero => cases show none = some r from h
    | succ k27 =>
      replace h : F154_l0_b N a1 (F154_l0 N a1 k27) x21 x22 x23 x24 = some r := h
      unfold F154_l0_b at h
      refine VW.seq ?_
      refine sR T_ok [1, 2, 5, 10] [0] ⟨[(1, I a1), (2, .lf (.ptr 0 0 0 0)), (5, I x24), (10, B (decide (x24 < (x22.length : Int))))], [bx [.v (.int .i64) x21, .v (.sl (.int .i64)) x22, .v (.sl (.int .i64)) x23] 59]⟩ (tn 5) ?_
      refine cnd h (fun h => ?_) (fun h => ?_)
      · refine VW.skip ?_
        refine VW.seq ?_
        refine VW.block ?_
        obtain ⟨g29, h⟩ := gd_some h
        refine sR T_ok [1, 2, 5, 19] [0] ⟨[(1, I a1), (2, .lf (.ptr 0 0 0 0)), (5, I x24), (19, B ((x22.getD x24.toNat (Ty.dflt (.int .i64))) == a1))], [bx [.v (.int .i64) x21, .v (.sl (.int .i64)) x22, .v (.sl (.int .i64)) x23] 59]⟩ (pu 3 (an g29 (tn 3))) ?_
        refine cnd h (fun h => ?_) (fun h => ?_)
        · refine sR T_ok [4] [] ⟨[(4, I x24)], []⟩ (tn 2) ?_
          refine VW.ret ?_
          replace h := Option.some.inj h
          subst h
          exact rt []
        refine VW.skip ?_
        refine rR T_ok [1, 2, 5] [0] ⟨[(1, I a1), (2, .lf (.ptr 0 0 0 0)), (5, I (IntKind.i64.wrap (x24 + (1 : Int))))], [bx [.v (.int .i64) x21, .v (.sl (.int .i64)) x22, .v (.sl (.int .i64)) x23] 59]⟩ (tn 3) ?_
        exact aro [.ren [1, 2, 5] [0]] ⟨x21, x22, x23, (IntKind.i64.wrap (x24 + (1 : Int))), rfl, h⟩
      refine VW.exit ?_
      exact arv [.ren [] []] ⟨rfl, h⟩
  rintro s ⟨rfl, h⟩
  unfold F154_j0 at h
  refine sR T_ok [4] [] ⟨[(4, I (-1 : Int))], []⟩ (tn 1) ?_
  refine VW.ret ?_
  replace h := Option.some.inj h
  subst h
  exact rt []

/- loop.example/g00844/spec.l09Without -/
def F157_j0 (N : Nat) (x46 : Int) (x47 : (List Int)) (x48 : (List Int)) : Option ((Int × ((List Int) × (List Int)))) :=
  some (x46, (x47, x48))
def F157_j1 (N : Nat) (nx83 : Int → (List Int) → (List Int) → Int → (List Int) → (List Int) → Int → Option ((Int × ((List Int) × (List Int))))) (x65 : Int) (x66 : (List Int)) (x67 : (List Int)) (x68 : Int) (x71 : Int) (x88 : (List Int)) (x89 : (List Int)) : Option ((Int × ((List Int) × (List Int)))) :=
  nx83 x65 x66 x67 x68 x88 x89 (IntKind.i64.wrap (x71 + (1 : Int)))
def F157_l0_b (N : Nat) (a1 : Int) (nx83 : Int → (List Int) → (List Int) → Int → (List Int) → (List Int) → Int → Option ((Int × ((List Int) × (List Int))))) (x65 : Int) (x66 : (List Int)) (x67 : (List Int)) (x68 : Int) (x69 : (List Int)) (x70 : (List Int)) (x71 : Int) : Option ((Int × ((List Int) × (List Int)))) :=
  cond (decide (x71 < (x66.length : Int))) (cond (x71 != a1) (gd (InR x71 x66.length) (gd (x69.length + ([(x66.getD x71.toNat (Ty.dflt (.int .i64)))]).length ≤ lim (.int .i64)) (gd (InR x71 x67.length) (gd (x70.length + ([(x67.getD x71.toNat (Ty.dflt (.int .i64)))]).length ≤ lim (.int .i64)) (F157_j1 N nx83 x65 x66 x67 x68 x71 (x69 ++ ([(x66.getD x71.toNat (Ty.dflt (.int .i64)))])) (x70 ++ ([(x67.getD x71.toNat (Ty.dflt (.int .i64)))]))))))) (F157_j1 N nx83 x65 x66 x67 x68 x71 x69 x70)) (F157_j0 N x68 x69 x70)
def F157_l0 (N : Nat) (a1 : Int) : Nat → Int → (List Int) → (List Int) → Int → (List Int) → (List Int) → Int → Option ((Int × ((List Int) × (List Int)))) := loopF (F157_l0_b N a1) (fun _ _ _ _ _ _ _ => none)
theorem F157_l0_s (N : Nat) (a1 : Int) {k : Nat} (hk : 0 < k) (x65 : Int) (x66 : (List Int)) (x67 : (List Int)) (x68 : Int) (x69 : (List Int)) (x70 : (List Int)) (x71 : Int) : F157_l0 N a1 k x65 x66 x67 x68 x69 x70 x71 = F157_l0_b N a1 (F157_l0 N a1 (k - 1)) x65 x66 x67 x68 x69 x70 x71 := by
  cases k with
  | zero => exact absurd hk (Nat.lt_irrefl 0)
  | succ m => rfl
def F157 (N : Nat) (a0 : (Int × ((List Int) × (List Int)))) (a1 : Int) : Option ((Int × ((List Int) × (List Int)))) :=
  F157_l0 N a1 N a0.1 a0.2.1 a0.2.2 a0.1 ([]) ([]) (0 : Int)
theorem ok157 (N : Nat) (a0 : (Int × ((List Int) × (List Int)))) (a1 : Int) {r : (Int × ((List Int) × (List Int)))} (h : F157 N a0 a1 = some r) : Con Go.Proofs.Try.prog 157 [.agg [.v (.int .i64) a0.1, .v (.sl (.int .i64)) a0.2.1, .v (.sl (.int .i64)) a0.2.2], I a1] [.agg [.v (.int .i64) r.1, .own (.int .i64) r.2.1 .dp, .own (.int .i64) r.2.2 .dp]] := by
  refine ctr [.agg [.v (.int .i64), .own (.int .i64) .dp, .own (.int .i64) .dp]] T_ok Go.Proofs.Try.func157 rfl fun w0 E0 ht => ?_
  unfold F157 at h
  show VW _ _ _ _ _ (retQ _ _ _ _) _
  refine sR T_ok [1, 2, 4] [0, 1] ⟨[(1, I a1), (2, .lf (.ptr 0 0 0 0)), (4, .lf (.ptr 1 0 0 0))], [bx [.v (.int .i64) a0.1, .v (.sl (.int .i64)) a0.2.1, .v (.sl (.int .i64)) a0.2.2] 59, bx [.v (.int .i64) (0 : Int), .nil, .nil] 59]⟩ (tn 2) ?_
  refine sR T_ok [1, 2, 4, 5] [0, 1, 2] ⟨[(1, I a1), (2, .lf (.ptr 0 0 0 0)), (4, .lf (.ptr 1 0 0 0)), (5, .lf (.ptr 2 0 0 0))], [bx [.v (.int .i64) a0.1, .v (.sl (.int .i64)) a0.2.1, .v (.sl (.int .i64)) a0.2.2] 59, bx [.v (.int .i64) (0 : Int), .nil, .nil] 59, bx [.v (.int .i64) a0.1, .nil, .nil] 59]⟩ (tn 5) ?_
  refine VW.join (fun s => ∃ (x46 : Int) (x47 : (List Int)) (x48 : (List Int)), s = ⟨[(4, .lf (.ptr 0 0 0 0)), (5, .lf (.ptr 1 0 0 0))], [bx [.v (.int .i64) (0 : Int), .nil, .nil] 59, bx [.v (.int .i64) x46, .hd 2 0 none, .hd 3 0 none] 59, ar 0 (.int .i64) x47 .dp, ar 0 (.int .i64) x48 .dp]⟩ ∧ F157_j0 N x46 x47 x48 = some r) ?_ ?_
  · refine sR T_ok [1, 2, 4, 5, 6] [0, 1, 2] ⟨[(1, I a1), (2, .lf (.ptr 0 0 0 0)), (4, .lf (.ptr 1 0 0 0)), (5, .lf (.ptr 2 0 0 0)), (6, I (0 : Int))], [bx [.v (.int .i64) a0.1, .v (.sl (.int .i64)) a0.2.1, .v (.sl (.int .i64)) a0.2.2] 59, bx [.v (.int .i64) (0 : Int), .nil, .nil] 59, bx [.v (.int .i64) a0.1, .nil, .nil] 59]⟩ (tn 1) ?_
    refine VW.block ?_
    refine lop (fun k s => ∃ (x65 : Int) (x66 : (List Int)) (x67 : (List Int)) (x68 : Int) (x69 : (List Int)) (x70 : (List Int)) (x71 : Int), s = ⟨[(1, I a1), (2, .lf (.ptr 0 0 0 0)), (4, .lf (.ptr 1 0 0 0)), (5, .lf (.ptr 2 0 0 0)), (6, I x71)], [bx [.v (.int .i64) x65, .v (.sl (.int .i64)) x66, .v (.sl (.int .i64)) x67] 59, bx [.v (.int .i64) (0 : Int), .nil, .nil] 59, bx [.v (.int .i64) x68, .hd 3 0 none, .hd 4 0 none] 59, ar 0 (.int .i64) x69 .dp, ar 0 (.int .i64) x70 .dp]⟩ ∧ F157_l0 N a1 k x65 x66 x67 x68 x69 x70 x71 = some r) N [.nil 2 1 (.int .i64) .dp, .nil 2 2 (.int .i64) .dp, .ren [1, 2, 4, 5, 6] [0, 1, 2, 3, 4]] ⟨a0.1, a0.2.1, a0.2.2, a0.1, [], [], (0 : Int), rfl, h⟩ ?_
    rintro k83 s ⟨x65, x66, x67, x68, x69, x70, x71, rfl, h⟩
    cases k83 with
    | zero => cases show none = some r from h
    | succ k83 =>
      replace h : F157_l0_b N a1 (F157_l0 N a1 k83) x65 x66 x67 x68 x69 x70 x71 = some r := h
      unfold F157_l0_b at h
      refine VW.seq ?_
      refine sR T_ok [1, 2, 4, 5, 6, 14] [0, 1, 2, 3, 4] ⟨[(1, I a1), (2, .lf (.ptr 0 0 0 0)), (4, .lf (.ptr 1 0 0 0)), (5, .lf (.ptr 2 0 0 0)), (6, I x71), (14, B (decide (x71 < (x66.length : Int))))], [bx [.v (.int .i64) x65, .v (.sl (.int .i64)) x66, .v (.sl (.int .i64)) x67] 59, bx [.v (.int .i64) (0 : Int), .nil, .nil] 59, bx [.v (.int .i64) x68, .hd 3 0 none, .hd 4 0 none] 59, ar 0 (.int .i64) x69 .dp, ar 0 (.int .i64) x70 .dp]⟩ (tn 5) ?_
      refine cnd h (fun h => ?_) (fun h => ?_)
      · refine VW.skip ?_
        refine VW.join (fun s => ∃ (x88 : (List Int)) (x89 : (List Int)), s = ⟨[(1, I a1), (2, .lf (.ptr 0 0 0 0)), (4, .lf (.ptr 1 0 0 0)), (5, .lf (.ptr 2 0 0 0)), (6, I x71)], [bx [.v (.int .i64) x65, .v (.sl (.int .i64)) x66, .v (.sl (.int .i64)) x67] 59, bx [.v (.int .i64) (0 : Int), .nil, .nil] 59, bx [.v (.int .i64) x68, .hd 3 0 none, .hd 4 0 none] 59, ar 0 (.int .i64) x88 .dp, ar 0 (.int .i64) x89 .dp]⟩ ∧ F157_j1 N (F157_l0 N a1 k83) x65 x66 x67 x68 x71 x88 x89 = some r) ?_ ?_
        · refine VW.block ?_
          refine sR T_ok [1, 2, 4, 5, 6, 19] [0, 1, 2, 3, 4] ⟨[(1, I a1), (2, .lf (.ptr 0 0 0 0)), (4, .lf (.ptr 1 0 0 0)), (5, .lf (.ptr 2 0 0 0)), (6, I x71), (19, B (x71 != a1))], [bx [.v (.int .i64) x65, .v (.sl (.int .i64)) x66, .v (.sl (.int .i64)) x67] 59, bx [.v (.int .i64) (0 : Int), .nil, .nil] 59, bx [.v (.int .i64) x68, .hd 3 0 none, .hd 4 0 none] 59, ar 0 (.int .i64) x69 .dp, ar 0 (.int .i64) x70 .dp]⟩ (tn 3) ?_
          refine cnd h (fun h => ?_) (fun h => ?_)
          · refine VW.seq ?_
            obtain ⟨g91, h⟩ := gd_some h
            obtain ⟨g92, h⟩ := gd_some h
            refine VW.drawn (by kernel_rfl) [some (20, .lf (.ptr 2 0 0 1)), some (21, .lf (.hd 3 0 none)), some (22, .lf (.ptr 0 0 0 1)), some (23, .lf (.v (.sl (.int .i64)) x66)), some (24, I x71), some (25, .lf (.fp (.int .i64) (x66.getD x71.toNat (Ty.dflt (.int .i64))) 0)), some (26, I (x66.getD x71.toNat (Ty.dflt (.int .i64)))), some (27, .lf (.hd 5 0 none)), some (28, .lf (.hd 3 1 none)), some (29, .lf (.ptr 2 0 0 1)), none] [7, 8, 10] [[bx [.v (.int .i64) x65, .v (.sl (.int .i64)) x66, .v (.sl (.int .i64)) x67] 59, bx [.v (.int .i64) (0 : Int), .nil, .nil] 59, bx [.v (.int .i64) x68, .hd 3 0 none, .hd 4 0 none] 59, ar 0 (.int .i64) x69 .dp, ar 0 (.int .i64) x70 .dp], [bx [.v (.int .i64) x65, .v (.sl (.int .i64)) x66, .v (.sl (.int .i64)) x67] 59, bx [.v (.int .i64) (0 : Int), .nil, .nil] 59, bx [.v (.int .i64) x68, .hd 3 0 none, .hd 4 0 none] 59, ar 0 (.int .i64) x69 .dp, ar 0 (.int .i64) x70 .dp, ar 0 (.int .i64) ([(x66.getD x71.toNat (Ty.dflt (.int .i64)))]) .dp], [bx [.v (.int .i64) x65, .v (.sl (.int .i64)) x66, .v (.sl (.int .i64)) x67] 59, bx [.v (.int .i64) (0 : Int), .nil, .nil] 59, bx [.v (.int .i64) x68, .hd 3 0 none, .hd 4 0 none] 59, ar 1 (.int .i64) (x69 ++ ([(x66.getD x71.toNat (Ty.dflt (.int .i64)))])) .dp, ar 0 (.int .i64) x70 .dp, ar 0 (.int .i64) ([(x66.getD x71.toNat (Ty.dflt (.int .i64)))]) .dp], [bx [.v (.int .i64) x65, .v (.sl (.int .i64)) x66, .v (.sl (.int .i64)) x67] 59, bx [.v (.int .i64) (0 : Int), .nil, .nil] 59, bx [.v (.int .i64) x68, .hd 3 1 none, .hd 4 0 none] 59, ar 1 (.int .i64) (x69 ++ ([(x66.getD x71.toNat (Ty.dflt (.int .i64)))])) .dp, ar 0 (.int .i64) x70 .dp, ar 0 (.int .i64) ([(x66.getD x71.toNat (Ty.dflt (.int .i64)))]) .dp]] [(0, 0), (0, 1), (0, 2), (1, 0), (1, 1), (2, 0), (2, 1), (2, 2), (3, 0), (3, 1), (3, 2), (4, 0), (4, 1), (4, 2), (5, 0), (5, 1), (5, 2), (6, 0), (7, 0), (8, 1), (9, 2), (10, 2)] [1, 2, 4, 5, 6] [0, 1, 2, 3, 4] (s' := ⟨[(1, I a1), (2, .lf (.ptr 0 0 0 0)), (4, .lf (.ptr 1 0 0 0)), (5, .lf (.ptr 2 0 0 0)), (6, I x71)], [bx [.v (.int .i64) x65, .v (.sl (.int .i64)) x66, .v (.sl (.int .i64)) x67] 59, bx [.v (.int .i64) (0 : Int), .nil, .nil] 59, bx [.v (.int .i64) x68, .hd 3 0 none, .hd 4 0 none] 59, ar 0 (.int .i64) (x69 ++ ([(x66.getD x71.toNat (Ty.dflt (.int .i64)))])) .dp, ar 0 (.int .i64) x70 .dp]⟩) (by kernel_rfl) (by kernel_rfl) ⟨⟨_, rfl, Stp.ev T_ok (m := .dp) (φ := True) (by kernel_rfl) trivial⟩,
    ⟨_, rfl, Stp.ev T_ok (m := .dp) (φ := True) (by kernel_rfl) trivial⟩,
    ⟨_, rfl, Stp.ev T_ok (m := .dp) (φ := True) (by kernel_rfl) trivial⟩,
    ⟨_, rfl, Stp.ev T_ok (m := .dp) (φ := True) (by kernel_rfl) trivial⟩,
    ⟨_, rfl, Stp.ev T_ok (m := .dp) (φ := True) (by kernel_rfl) trivial⟩,
    ⟨_, rfl, Stp.ev T_ok (m := .dp) (φ := True) (by kernel_rfl) trivial⟩,
    ⟨_, rfl, Stp.ev T_ok (m := .dp) (φ := True) (by kernel_rfl) trivial⟩,
    ⟨_, rfl, Stp.ev T_ok (m := .dp) (φ := True) (by kernel_rfl) trivial⟩,
    ⟨_, rfl, Stp.ev T_ok (m := .dp) (φ := True) (by kernel_rfl) trivial⟩,
    ⟨_, rfl, Stp.ev T_ok (m := .dp) (φ := True) (by kernel_rfl) trivial⟩,
    ⟨_, rfl, Stp.ev T_ok (m := .dp) (φ := True) (by kernel_rfl) trivial⟩,
    ⟨_, rfl, Stp.ev T_ok (m := .dp) (φ := True) (by kernel_rfl) trivial⟩,
    ⟨_, rfl, Stp.ev T_ok (m := .dp) (φ := True) (by kernel_rfl) trivial⟩,
    ⟨_, rfl, Stp.ev T_ok (m := .dp) (φ := True) (by kernel_rfl) trivial⟩,
    ⟨_, rfl, Stp.ev T_ok (m := .dp) (φ := InR x71 x66.length) (by kernel_rfl) g91⟩,
    ⟨_, rfl, Stp.ev T_ok (m := .dp) (φ := InR x71 x66.length) (by kernel_rfl) g91⟩,
    ⟨_, rfl, Stp.ev T_ok (m := .dp) (φ := InR x71 x66.length) (by kernel_rfl) g91⟩,
    ⟨_, rfl, Stp.ev T_ok (m := .dp) (φ := True) (by kernel_rfl) trivial⟩,
    ⟨_, rfl, Stp.ev T_ok (m := .dp) (φ := True) (by kernel_rfl) trivial⟩,
    ⟨_, rfl, Stp.ev T_ok (m := .dp) (φ := x69.length + ([(x66.getD x71.toNat (Ty.dflt (.int .i64)))]).length ≤ lim (.int .i64)) (by kernel_rfl) g92⟩,
    ⟨_, rfl, Stp.ev T_ok (m := .dp) (φ := True) (by kernel_rfl) trivial⟩,
    ⟨_, rfl, Stp.ev T_ok (m := .dp) (φ := True) (by kernel_rfl) trivial⟩, trivial⟩ (by kernel_rfl) ?_
            obtain ⟨g93, h⟩ := gd_some h
            obtain ⟨g94, h⟩ := gd_some h
            refine VW.drawn (by kernel_rfl) [some (30, .lf (.ptr 2 0 0 2)), some (31, .lf (.hd 4 0 none)), some (32, .lf (.ptr 0 0 0 2)), some (33, .lf (.v (.sl (.int .i64)) x67)), some (34, I x71), some (35, .lf (.fp (.int .i64) (x67.getD x71.toNat (Ty.dflt (.int .i64))) 0)), some (36, I (x67.getD x71.toNat (Ty.dflt (.int .i64)))), some (37, .lf (.hd 5 0 none)), some (38, .lf (.hd 4 1 none)), some (39, .lf (.ptr 2 0 0 2)), none] [7, 8, 10] [[bx [.v (.int .i64) x65, .v (.sl (.int .i64)) x66, .v (.sl (.int .i64)) x67] 59, bx [.v (.int .i64) (0 : Int), .nil, .nil] 59, bx [.v (.int .i64) x68, .hd 3 0 none, .hd 4 0 none] 59, ar 0 (.int .i64) (x69 ++ ([(x66.getD x71.toNat (Ty.dflt (.int .i64)))])) .dp, ar 0 (.int .i64) x70 .dp], [bx [.v (.int .i64) x65, .v (.sl (.int .i64)) x66, .v (.sl (.int .i64)) x67] 59, bx [.v (.int .i64) (0 : Int), .nil, .nil] 59, bx [.v (.int .i64) x68, .hd 3 0 none, .hd 4 0 none] 59, ar 0 (.int .i64) (x69 ++ ([(x66.getD x71.toNat (Ty.dflt (.int .i64)))])) .dp, ar 0 (.int .i64) x70 .dp, ar 0 (.int .i64) ([(x67.getD x71.toNat (Ty.dflt (.int .i64)))]) .dp], [bx [.v (.int .i64) x65, .v (.sl (.int .i64)) x66, .v (.sl (.int .i64)) x67] 59, bx [.v (.int .i64) (0 : Int), .nil, .nil] 59, bx [.v (.int .i64) x68, .hd 3 0 none, .hd 4 0 none] 59, ar 0 (.int .i64) (x69 ++ ([(x66.getD x71.toNat (Ty.dflt (.int .i64)))])) .dp, ar 1 (.int .i64) (x70 ++ ([(x67.getD x71.toNat (Ty.dflt (.int .i64)))])) .dp, ar 0 (.int .i64) ([(x67.getD x71.toNat (Ty.dflt (.int .i64)))]) .dp], [bx [.v (.int .i64) x65, .v (.sl (.int .i64)) x66, .v (.sl (.int .i64)) x67] 59, bx [.v (.int .i64) (0 : Int), .nil, .nil] 59, bx [.v (.int .i64) x68, .hd 3 0 none, .hd 4 1 none] 59, ar 0 (.int .i64) (x69 ++ ([(x66.getD x71.toNat (Ty.dflt (.int .i64)))])) .dp, ar 1 (.int .i64) (x70 ++ ([(x67.getD x71.toNat (Ty.dflt (.int .i64)))])) .dp, ar 0 (.int .i64) ([(x67.getD x71.toNat (Ty.dflt (.int .i64)))]) .dp]] [(0, 0), (0, 1), (0, 2), (1, 0), (1, 1), (2, 0), (2, 1), (2, 2), (3, 0), (3, 1), (3, 2), (4, 0), (4, 1), (4, 2), (5, 0), (5, 1), (5, 2), (6, 0), (7, 0), (8, 1), (9, 2), (10, 2)] [1, 2, 4, 5, 6] [0, 1, 2, 3, 4] (s' := ⟨[(1, I a1), (2, .lf (.ptr 0 0 0 0)), (4, .lf (.ptr 1 0 0 0)), (5, .lf (.ptr 2 0 0 0)), (6, I x71)], [bx [.v (.int .i64) x65, .v (.sl (.int .i64)) x66, .v (.sl (.int .i64)) x67] 59, bx [.v (.int .i64) (0 : Int), .nil, .nil] 59, bx [.v (.int .i64) x68, .hd 3 0 none, .hd 4 0 none] 59, ar 0 (.int .i64) (x69 ++ ([(x66.getD x71.toNat (Ty.dflt (.int .i64)))])) .dp, ar 0 (.int .i64) (x70 ++ ([(x67.getD x71.toNat (Ty.dflt (.int .i64)))])) .dp]⟩) (by kernel_rfl) (by kernel_rfl) ⟨⟨_, rfl, Stp.ev T_ok (m := .dp) (φ := True) (by kernel_rfl) trivial⟩,
    ⟨_, rfl, Stp.ev T_ok (m := .dp) (φ := True) (by kernel_rfl) trivial⟩,
    ⟨_, rfl, Stp.ev T_ok (m := .dp) (φ := True) (by kernel_rfl) trivial⟩,
    ⟨_, rfl, Stp.ev T_ok (m := .dp) (φ := True) (by kernel_rfl) trivial⟩,
    ⟨_, rfl, Stp.ev T_ok (m := .dp) (φ := True) (by kernel_rfl) trivial⟩,
    ⟨_, rfl, Stp.ev T_ok (m := .dp) (φ := True) (by kernel_rfl) trivial⟩,
    ⟨_, rfl, Stp.ev T_ok (m := .dp) (φ := True) (by kernel_rfl) trivial⟩,
    ⟨_, rfl, Stp.ev T_ok (m := .dp) (φ := True) (by kernel_rfl) trivial⟩,
    ⟨_, rfl, Stp.ev T_ok (m := .dp) (φ := True) (by kernel_rfl) trivial⟩,
    ⟨_, rfl, Stp.ev T_ok (m := .dp) (φ := True) (by kernel_rfl) trivial⟩,
    ⟨_, rfl, Stp.ev T_ok (m := .dp) (φ := True) (by kernel_rfl) trivial⟩,
    ⟨_, rfl, Stp.ev T_ok (m := .dp) (φ := True) (by kernel_rfl) trivial⟩,
    ⟨_, rfl, Stp.ev T_ok (m := .dp) (φ := True) (by kernel_rfl) trivial⟩,
    ⟨_, rfl, Stp.ev T_ok (m := .dp) (φ := True) (by kernel_rfl) trivial⟩,
    ⟨_, rfl, Stp.ev T_ok (m := .dp) (φ := InR x71 x67.length) (by kernel_rfl) g93⟩,
    ⟨_, rfl, Stp.ev T_ok (m := .dp) (φ := InR x71 x67.length) (by kernel_rfl) g93⟩,
    ⟨_, rfl, Stp.ev T_ok (m := .dp) (φ := InR x71 x67.length) (by kernel_rfl) g93⟩,
    ⟨_, rfl, Stp.ev T_ok (m := .dp) (φ := True) (by kernel_rfl) trivial⟩,
    ⟨_, rfl, Stp.ev T_ok (m := .dp) (φ := True) (by kernel_rfl) trivial⟩,
    ⟨_, rfl, Stp.ev T_ok (m := .dp) (φ := x70.length + ([(x67.getD x71.toNat (Ty.dflt (.int .i64)))]).length ≤ lim (.int .i64)) (by kernel_rfl) g94⟩,
    ⟨_, rfl, Stp.ev T_ok (m := .dp) (φ := True) (by kernel_rfl) trivial⟩,
    ⟨_, rfl, Stp.ev T_ok (m := .dp) (φ := True) (by kernel_rfl) trivial⟩, trivial⟩ (by kernel_rfl) ?_
            exact arv [.ren [1, 2, 4, 5, 6] [0, 1, 2, 3, 4]] ⟨(x69 ++ ([(x66.getD x71.toNat (Ty.dflt (.int .i64)))])), (x70 ++ ([(x67.getD x71.toNat (Ty.dflt (.int .i64)))])), rfl, h⟩
          refine VW.skip ?_
          exact arv [.ren [1, 2, 4, 5, 6] [0, 1, 2, 3, 4]] ⟨x69, x70, rfl, h⟩
        rintro s ⟨x88, x89, rfl, h⟩
        unfold F157_j1 at h
        refine rR T_ok [1, 2, 4, 5, 6] [0, 1, 2, 3, 4] ⟨[(1, I a1), (2, .lf (.ptr 0 0 0 0)), (4, .lf (.ptr 1 0 0 0)), (5, .lf (.ptr 2 0 0 0)), (6, I (IntKind.i64.wrap (x71 + (1 : Int))))], [bx [.v (.int .i64) x65, .v (.sl (.int .i64)) x66, .v (.sl (.int .i64)) x67] 59, bx [.v (.int .i64) (0 : Int), .nil, .nil] 59, bx [.v (.int .i64) x68, .hd 3 0 none, .hd 4 0 none] 59, ar 0 (.int .i64) x88 .dp, ar 0 (.int .i64) x89 .dp]⟩ (tn 3) ?_
        exact aro [.ren [1, 2, 4, 5, 6] [0, 1, 2, 3, 4]] ⟨x65, x66, x67, x68, x88, x89, (IntKind.i64.wrap (x71 + (1 : Int))), rfl, h⟩
      refine VW.exit ?_
      exact arv [.ren [4, 5] [1, 2, 3, 4]] ⟨x68, x69, x70, rfl, h⟩
  rintro s ⟨x46, x47, x48, rfl, h⟩
  unfold F157_j0 at h
  refine sR T_ok [4] [0, 2, 3] ⟨[(4, .lf (.ptr 0 0 0 0))], [bx [.v (.int .i64) x46, .hd 1 0 none, .hd 2 0 none] 59, ar 0 (.int .i64) x47 .dp, ar 0 (.int .i64) x48 .dp]⟩ (tn 2) ?_
  refine VW.ret ?_
  replace h := Option.some.inj h
  subst h
  exact rt [some 1, some 2]

/- loop.example/g00844/spec.l09First -/
def F155_j0 (N : Nat) (x53 : Int) (x54 : (List Int)) (x55 : (List Int)) : Option ((Int × ((List Int) × (List Int)))) :=
  some (x53, (x54, x55))
def F155_l0_b (N : Nat) (nx94 : Int → (List Int) → (List Int) → Int → (List Int) → (List Int) → Int → Option ((Int × ((List Int) × (List Int))))) (x75 : Int) (x76 : (List Int)) (x77 : (List Int)) (x78 : Int) (x79 : (List Int)) (x80 : (List Int)) (x81 : Int) : Option ((Int × ((List Int) × (List Int)))) :=
  cond (decide (x81 < (x76.length : Int))) (gd (InR x81 x76.length) (gd (x81.toNat < x76.length) (gd (x79.length + ([(x76.getD x81.toNat (Ty.dflt (.int .i64)))]).length ≤ lim (.int .i64)) (gd (InR x81 x77.length) (gd (x81.toNat < x77.length) (gd (x80.length + ([(x77.getD x81.toNat (Ty.dflt (.int .i64)))]).length ≤ lim (.int .i64)) (nx94 x75 x76 x77 x78 (x79 ++ ([(x76.getD x81.toNat (Ty.dflt (.int .i64)))])) (x80 ++ ([(x77.getD x81.toNat (Ty.dflt (.int .i64)))])) (IntKind.i64.wrap (x81 + (1 : Int)))))))))) (F155_j0 N x78 x79 x80)
def F155_l0 (N : Nat) : Nat → Int → (List Int) → (List Int) → Int → (List Int) → (List Int) → Int → Option ((Int × ((List Int) × (List Int)))) := loopF (F155_l0_b N) (fun _ _ _ _ _ _ _ => none)
theorem F155_l0_s (N : Nat) {k : Nat} (hk : 0 < k) (x75 : Int) (x76 : (List Int)) (x77 : (List Int)) (x78 : Int) (x79 : (List Int)) (x80 : (List Int)) (x81 : Int) : F155_l0 N k x75 x76 x77 x78 x79 x80 x81 = F155_l0_b N (F155_l0 N (k - 1)) x75 x76 x77 x78 x79 x80 x81 := by
  cases k with
  | zero => exact absurd hk (Nat.lt_irrefl 0)
  | succ m => rfl
def F155 (N : Nat) (a0 : (Int × ((List Int) × (List Int)))) (a1 : Int) (a2 : Int) : Option ((Int × ((List Int) × (List Int)))) :=
  andO (F154 N a0 a1) fun y1 => andO (F157 N a0 y1) fun y2 => F155_l0 N N y2.1 y2.2.1 y2.2.2 a0.1 ([a1]) ([a2]) (0 : Int)
theorem ok155 (N : Nat) (a0 : (Int × ((List Int) × (List Int)))) (a1 : Int) (a2 : Int) {r : (Int × ((List Int) × (List Int)))} (h : F155 N a0 a1 a2 = some r) : Con Go.Proofs.Try.prog 155 [.agg [.v (.int .i64) a0.1, .v (.sl (.int .i64)) a0.2.1, .v (.sl (.int .i64)) a0.2.2], I a1, I a2] [.agg [.v (.int .i64) r.1, .own (.int .i64) r.2.1 .dp, .own (.int .i64) r.2.2 .dp]] := by
  refine ctr [.agg [.v (.int .i64), .own (.int .i64) .dp, .own (.int .i64) .dp]] T_ok Go.Proofs.Try.func155 rfl fun w0 E0 ht => ?_
  unfold F155 at h
  show VW _ _ _ _ _ (retQ _ _ _ _) _
  refine sR T_ok [1, 2, 3, 6] [0, 1] ⟨[(1, I a1), (2, I a2), (3, .lf (.ptr 0 0 0 0)), (6, .lf (.ptr 1 0 0 0))], [bx [.v (.int .i64) a0.1, .v (.sl (.int .i64)) a0.2.1, .v (.sl (.int .i64)) a0.2.2] 59, bx [.v (.int .i64) (0 : Int), .nil, .nil] 59]⟩ (tn 2) ?_
  refine VW.seq ?_
  obtain ⟨y1, hy1, h⟩ := andO_some h
  obtain ⟨y2, hy2, h⟩ := andO_some h
  refine VW.ideal (by kernel_rfl) [[], [0], [1], [2], [5], [0, 1], [0, 2], [0, 5], [1, 2], [1, 5], [2, 5], [0, 1, 2], [0, 1, 5], [0, 2, 5], [1, 2, 3], [1, 2, 5], [0, 1, 2, 3], [0, 1, 2, 5], [1, 2, 3, 5], [0, 1, 2, 3, 4], [0, 1, 2, 3, 5], [0, 1, 2, 3, 4, 5], [0, 1, 2, 3, 4, 5, 6]] [⟨[(1, I a1), (2, I a2), (3, .lf (.ptr 0 0 0 0)), (6, .lf (.ptr 1 0 0 0))], [bx [.v (.int .i64) a0.1, .v (.sl (.int .i64)) a0.2.1, .v (.sl (.int .i64)) a0.2.2] 59, bx [.v (.int .i64) (0 : Int), .nil, .nil] 59]⟩,
    ⟨[(1, I a1), (2, I a2), (3, .lf (.ptr 0 0 0 0)), (6, .lf (.ptr 1 0 0 0)), (10, .agg [.v (.int .i64) a0.1, .v (.sl (.int .i64)) a0.2.1, .v (.sl (.int .i64)) a0.2.2])], [bx [.v (.int .i64) a0.1, .v (.sl (.int .i64)) a0.2.1, .v (.sl (.int .i64)) a0.2.2] 59, bx [.v (.int .i64) (0 : Int), .nil, .nil] 59]⟩,
    ⟨[(1, I a1), (2, I a2), (3, .lf (.ptr 0 0 0 0)), (6, .lf (.ptr 1 0 0 0)), (11, .agg [.v (.int .i64) a0.1, .v (.sl (.int .i64)) a0.2.1, .v (.sl (.int .i64)) a0.2.2])], [bx [.v (.int .i64) a0.1, .v (.sl (.int .i64)) a0.2.1, .v (.sl (.int .i64)) a0.2.2] 59, bx [.v (.int .i64) (0 : Int), .nil, .nil] 59]⟩,
    ⟨[(1, I a1), (2, I a2), (3, .lf (.ptr 0 0 0 0)), (6, .lf (.ptr 1 0 0 0)), (12, I a1)], [bx [.v (.int .i64) a0.1, .v (.sl (.int .i64)) a0.2.1, .v (.sl (.int .i64)) a0.2.2] 59, bx [.v (.int .i64) (0 : Int), .nil, .nil] 59]⟩,
    ⟨[(1, I a1), (2, I a2), (3, .lf (.ptr 0 0 0 0)), (6, .lf (.ptr 1 0 0 0)), (7, .lf (.ptr 2 0 0 0))], [bx [.v (.int .i64) a0.1, .v (.sl (.int .i64)) a0.2.1, .v (.sl (.int .i64)) a0.2.2] 59, bx [.v (.int .i64) (0 : Int), .nil, .nil] 59, bx [.v (.int .i64) (0 : Int), .nil, .nil] 59]⟩,
    ⟨[(1, I a1), (2, I a2), (3, .lf (.ptr 0 0 0 0)), (6, .lf (.ptr 1 0 0 0)), (10, .agg [.v (.int .i64) a0.1, .v (.sl (.int .i64)) a0.2.1, .v (.sl (.int .i64)) a0.2.2]), (11, .agg [.v (.int .i64) a0.1, .v (.sl (.int .i64)) a0.2.1, .v (.sl (.int .i64)) a0.2.2])], [bx [.v (.int .i64) a0.1, .v (.sl (.int .i64)) a0.2.1, .v (.sl (.int .i64)) a0.2.2] 59, bx [.v (.int .i64) (0 : Int), .nil, .nil] 59]⟩,
    ⟨[(1, I a1), (2, I a2), (3, .lf (.ptr 0 0 0 0)), (6, .lf (.ptr 1 0 0 0)), (10, .agg [.v (.int .i64) a0.1, .v (.sl (.int .i64)) a0.2.1, .v (.sl (.int .i64)) a0.2.2]), (12, I a1)], [bx [.v (.int .i64) a0.1, .v (.sl (.int .i64)) a0.2.1, .v (.sl (.int .i64)) a0.2.2] 59, bx [.v (.int .i64) (0 : Int), .nil, .nil] 59]⟩,
    ⟨[(1, I a1), (2, I a2), (3, .lf (.ptr 0 0 0 0)), (6, .lf (.ptr 1 0 0 0)), (7, .lf (.ptr 2 0 0 0)), (10, .agg [.v (.int .i64) a0.1, .v (.sl (.int .i64)) a0.2.1, .v (.sl (.int .i64)) a0.2.2])], [bx [.v (.int .i64) a0.1, .v (.sl (.int .i64)) a0.2.1, .v (.sl (.int .i64)) a0.2.2] 59, bx [.v (.int .i64) (0 : Int), .nil, .nil] 59, bx [.v (.int .i64) (0 : Int), .nil, .nil] 59]⟩,
    ⟨[(1, I a1), (2, I a2), (3, .lf (.ptr 0 0 0 0)), (6, .lf (.ptr 1 0 0 0)), (11, .agg [.v (.int .i64) a0.1, .v (.sl (.int .i64)) a0.2.1, .v (.sl (.int .i64)) a0.2.2]), (12, I a1)], [bx [.v (.int .i64) a0.1, .v (.sl (.int .i64)) a0.2.1, .v (.sl (.int .i64)) a0.2.2] 59, bx [.v (.int .i64) (0 : Int), .nil, .nil] 59]⟩,
    ⟨[(1, I a1), (2, I a2), (3, .lf (.ptr 0 0 0 0)), (6, .lf (.ptr 1 0 0 0)), (7, .lf (.ptr 2 0 0 0)), (11, .agg [.v (.int .i64) a0.1, .v (.sl (.int .i64)) a0.2.1, .v (.sl (.int .i64)) a0.2.2])], [bx [.v (.int .i64) a0.1, .v (.sl (.int .i64)) a0.2.1, .v (.sl (.int .i64)) a0.2.2] 59, bx [.v (.int .i64) (0 : Int), .nil, .nil] 59, bx [.v (.int .i64) (0 : Int), .nil, .nil] 59]⟩,
    ⟨[(1, I a1), (2, I a2), (3, .lf (.ptr 0 0 0 0)), (6, .lf (.ptr 1 0 0 0)), (7, .lf (.ptr 2 0 0 0)), (12, I a1)], [bx [.v (.int .i64) a0.1, .v (.sl (.int .i64)) a0.2.1, .v (.sl (.int .i64)) a0.2.2] 59, bx [.v (.int .i64) (0 : Int), .nil, .nil] 59, bx [.v (.int .i64) (0 : Int), .nil, .nil] 59]⟩,
    ⟨[(1, I a1), (2, I a2), (3, .lf (.ptr 0 0 0 0)), (6, .lf (.ptr 1 0 0 0)), (10, .agg [.v (.int .i64) a0.1, .v (.sl (.int .i64)) a0.2.1, .v (.sl (.int .i64)) a0.2.2]), (11, .agg [.v (.int .i64) a0.1, .v (.sl (.int .i64)) a0.2.1, .v (.sl (.int .i64)) a0.2.2]), (12, I a1)], [bx [.v (.int .i64) a0.1, .v (.sl (.int .i64)) a0.2.1, .v (.sl (.int .i64)) a0.2.2] 59, bx [.v (.int .i64) (0 : Int), .nil, .nil] 59]⟩,
    ⟨[(1, I a1), (2, I a2), (3, .lf (.ptr 0 0 0 0)), (6, .lf (.ptr 1 0 0 0)), (7, .lf (.ptr 2 0 0 0)), (10, .agg [.v (.int .i64) a0.1, .v (.sl (.int .i64)) a0.2.1, .v (.sl (.int .i64)) a0.2.2]), (11, .agg [.v (.int .i64) a0.1, .v (.sl (.int .i64)) a0.2.1, .v (.sl (.int .i64)) a0.2.2])], [bx [.v (.int .i64) a0.1, .v (.sl (.int .i64)) a0.2.1, .v (.sl (.int .i64)) a0.2.2] 59, bx [.v (.int .i64) (0 : Int), .nil, .nil] 59, bx [.v (.int .i64) (0 : Int), .nil, .nil] 59]⟩,
    ⟨[(1, I a1), (2, I a2), (3, .lf (.ptr 0 0 0 0)), (6, .lf (.ptr 1 0 0 0)), (7, .lf (.ptr 2 0 0 0)), (10, .agg [.v (.int .i64) a0.1, .v (.sl (.int .i64)) a0.2.1, .v (.sl (.int .i64)) a0.2.2]), (12, I a1)], [bx [.v (.int .i64) a0.1, .v (.sl (.int .i64)) a0.2.1, .v (.sl (.int .i64)) a0.2.2] 59, bx [.v (.int .i64) (0 : Int), .nil, .nil] 59, bx [.v (.int .i64) (0 : Int), .nil, .nil] 59]⟩,
    ⟨[(1, I a1), (2, I a2), (3, .lf (.ptr 0 0 0 0)), (6, .lf (.ptr 1 0 0 0)), (13, I y1)], [bx [.v (.int .i64) a0.1, .v (.sl (.int .i64)) a0.2.1, .v (.sl (.int .i64)) a0.2.2] 59, bx [.v (.int .i64) (0 : Int), .nil, .nil] 59]⟩,
    ⟨[(1, I a1), (2, I a2), (3, .lf (.ptr 0 0 0 0)), (6, .lf (.ptr 1 0 0 0)), (7, .lf (.ptr 2 0 0 0)), (11, .agg [.v (.int .i64) a0.1, .v (.sl (.int .i64)) a0.2.1, .v (.sl (.int .i64)) a0.2.2]), (12, I a1)], [bx [.v (.int .i64) a0.1, .v (.sl (.int .i64)) a0.2.1, .v (.sl (.int .i64)) a0.2.2] 59, bx [.v (.int .i64) (0 : Int), .nil, .nil] 59, bx [.v (.int .i64) (0 : Int), .nil, .nil] 59]⟩,
    ⟨[(1, I a1), (2, I a2), (3, .lf (.ptr 0 0 0 0)), (6, .lf (.ptr 1 0 0 0)), (10, .agg [.v (.int .i64) a0.1, .v (.sl (.int .i64)) a0.2.1, .v (.sl (.int .i64)) a0.2.2]), (13, I y1)], [bx [.v (.int .i64) a0.1, .v (.sl (.int .i64)) a0.2.1, .v (.sl (.int .i64)) a0.2.2] 59, bx [.v (.int .i64) (0 : Int), .nil, .nil] 59]⟩,
    ⟨[(1, I a1), (2, I a2), (3, .lf (.ptr 0 0 0 0)), (6, .lf (.ptr 1 0 0 0)), (7, .lf (.ptr 2 0 0 0)), (10, .agg [.v (.int .i64) a0.1, .v (.sl (.int .i64)) a0.2.1, .v (.sl (.int .i64)) a0.2.2]), (11, .agg [.v (.int .i64) a0.1, .v (.sl (.int .i64)) a0.2.1, .v (.sl (.int .i64)) a0.2.2]), (12, I a1)], [bx [.v (.int .i64) a0.1, .v (.sl (.int .i64)) a0.2.1, .v (.sl (.int .i64)) a0.2.2] 59, bx [.v (.int .i64) (0 : Int), .nil, .nil] 59, bx [.v (.int .i64) (0 : Int), .nil, .nil] 59]⟩,
    ⟨[(1, I a1), (2, I a2), (3, .lf (.ptr 0 0 0 0)), (6, .lf (.ptr 1 0 0 0)), (7, .lf (.ptr 2 0 0 0)), (13, I y1)], [bx [.v (.int .i64) a0.1, .v (.sl (.int .i64)) a0.2.1, .v (.sl (.int .i64)) a0.2.2] 59, bx [.v (.int .i64) (0 : Int), .nil, .nil] 59, bx [.v (.int .i64) (0 : Int), .nil, .nil] 59]⟩,
    ⟨[(1, I a1), (2, I a2), (3, .lf (.ptr 0 0 0 0)), (6, .lf (.ptr 1 0 0 0)), (14, .agg [.v (.int .i64) y2.1, .hd 2 0 none, .hd 3 0 none])], [bx [.v (.int .i64) a0.1, .v (.sl (.int .i64)) a0.2.1, .v (.sl (.int .i64)) a0.2.2] 59, bx [.v (.int .i64) (0 : Int), .nil, .nil] 59, ar 0 (.int .i64) y2.2.1 .dp, ar 0 (.int .i64) y2.2.2 .dp]⟩,
    ⟨[(1, I a1), (2, I a2), (3, .lf (.ptr 0 0 0 0)), (6, .lf (.ptr 1 0 0 0)), (7, .lf (.ptr 2 0 0 0)), (10, .agg [.v (.int .i64) a0.1, .v (.sl (.int .i64)) a0.2.1, .v (.sl (.int .i64)) a0.2.2]), (13, I y1)], [bx [.v (.int .i64) a0.1, .v (.sl (.int .i64)) a0.2.1, .v (.sl (.int .i64)) a0.2.2] 59, bx [.v (.int .i64) (0 : Int), .nil, .nil] 59, bx [.v (.int .i64) (0 : Int), .nil, .nil] 59]⟩,
    ⟨[(1, I a1), (2, I a2), (3, .lf (.ptr 0 0 0 0)), (6, .lf (.ptr 1 0 0 0)), (7, .lf (.ptr 2 0 0 0)), (14, .agg [.v (.int .i64) y2.1, .hd 3 0 none, .hd 4 0 none])], [bx [.v (.int .i64) a0.1, .v (.sl (.int .i64)) a0.2.1, .v (.sl (.int .i64)) a0.2.2] 59, bx [.v (.int .i64) (0 : Int), .nil, .nil] 59, bx [.v (.int .i64) (0 : Int), .nil, .nil] 59, ar 0 (.int .i64) y2.2.1 .dp, ar 0 (.int .i64) y2.2.2 .dp]⟩,
    ⟨[(1, I a1), (2, I a2), (3, .lf (.ptr 0 0 0 0)), (6, .lf (.ptr 1 0 0 0)), (7, .lf (.ptr 2 0 0 0))], [bx [.v (.int .i64) a0.1, .v (.sl (.int .i64)) a0.2.1, .v (.sl (.int .i64)) a0.2.2] 59, bx [.v (.int .i64) (0 : Int), .nil, .nil] 59, bx [.v (.int .i64) y2.1, .hd 3 0 none, .hd 4 0 none] 59, ar 0 (.int .i64) y2.2.1 .dp, ar 0 (.int .i64) y2.2.2 .dp]⟩] [(0, 0, 1), (0, 1, 2), (0, 2, 3), (0, 5, 4), (1, 1, 5), (1, 2, 6), (1, 5, 7), (2, 0, 5), (2, 2, 8), (2, 5, 9), (3, 0, 6), (3, 1, 8), (3, 5, 10), (4, 0, 7), (4, 1, 9), (4, 2, 10), (5, 2, 11), (5, 5, 12), (6, 1, 11), (6, 5, 13), (7, 1, 12), (7, 2, 13), (8, 0, 11), (8, 3, 14), (8, 5, 15), (9, 0, 12), (9, 2, 15), (10, 0, 13), (10, 1, 15), (11, 3, 16), (11, 5, 17), (12, 2, 17), (13, 1, 17), (14, 0, 16), (14, 5, 18), (15, 0, 17), (15, 3, 18), (16, 4, 19), (16, 5, 20), (17, 3, 20), (18, 0, 20), (19, 5, 21), (20, 4, 21), (21, 6, 22)] 22 (s' := ⟨[(1, I a1), (2, I a2), (3, .lf (.ptr 0 0 0 0)), (6, .lf (.ptr 1 0 0 0)), (7, .lf (.ptr 2 0 0 0))], [bx [.v (.int .i64) a0.1, .v (.sl (.int .i64)) a0.2.1, .v (.sl (.int .i64)) a0.2.2] 59, bx [.v (.int .i64) (0 : Int), .nil, .nil] 59, bx [.v (.int .i64) y2.1, .hd 3 0 none, .hd 4 0 none] 59, ar 0 (.int .i64) y2.2.1 .dp, ar 0 (.int .i64) y2.2.2 .dp]⟩) (by kernel_rfl) rfl rfl ⟨⟨_, _, _, rfl, rfl, rfl, VO.seg T_ok .dp 1 [1, 2, 3, 6, 10] [0, 1] (φ := True ∧ True) (by kernel_rfl) ⟨trivial, trivial⟩ (VI.fin rfl)⟩,
    ⟨_, _, _, rfl, rfl, rfl, VO.seg T_ok .dp 1 [1, 2, 3, 6, 11] [0, 1] (φ := True ∧ True) (by kernel_rfl) ⟨trivial, trivial⟩ (VI.fin rfl)⟩,
    ⟨_, _, _, rfl, rfl, rfl, VO.seg T_ok .dp 1 [1, 2, 3, 6, 12] [0, 1] (φ := True ∧ True) (by kernel_rfl) ⟨trivial, trivial⟩ (VI.fin rfl)⟩,
    ⟨_, _, _, rfl, rfl, rfl, VO.seg T_ok .dp 1 [1, 2, 3, 6, 7] [0, 1, 2] (φ := True ∧ True) (by kernel_rfl) ⟨trivial, trivial⟩ (VI.fin rfl)⟩,
    ⟨_, _, _, rfl, rfl, rfl, VO.seg T_ok .dp 1 [1, 2, 3, 6, 10, 11] [0, 1] (φ := True ∧ True) (by kernel_rfl) ⟨trivial, trivial⟩ (VI.fin rfl)⟩,
    ⟨_, _, _, rfl, rfl, rfl, VO.seg T_ok .dp 1 [1, 2, 3, 6, 10, 12] [0, 1] (φ := True ∧ True) (by kernel_rfl) ⟨trivial, trivial⟩ (VI.fin rfl)⟩,
    ⟨_, _, _, rfl, rfl, rfl, VO.seg T_ok .dp 1 [1, 2, 3, 6, 7, 10] [0, 1, 2] (φ := True ∧ True) (by kernel_rfl) ⟨trivial, trivial⟩ (VI.fin rfl)⟩,
    ⟨_, _, _, rfl, rfl, rfl, VO.seg T_ok .dp 1 [1, 2, 3, 6, 10, 11] [0, 1] (φ := True ∧ True) (by kernel_rfl) ⟨trivial, trivial⟩ (VI.fin rfl)⟩,
    ⟨_, _, _, rfl, rfl, rfl, VO.seg T_ok .dp 1 [1, 2, 3, 6, 11, 12] [0, 1] (φ := True ∧ True) (by kernel_rfl) ⟨trivial, trivial⟩ (VI.fin rfl)⟩,
    ⟨_, _, _, rfl, rfl, rfl, VO.seg T_ok .dp 1 [1, 2, 3, 6, 7, 11] [0, 1, 2] (φ := True ∧ True) (by kernel_rfl) ⟨trivial, trivial⟩ (VI.fin rfl)⟩,
    ⟨_, _, _, rfl, rfl, rfl, VO.seg T_ok .dp 1 [1, 2, 3, 6, 10, 12] [0, 1] (φ := True ∧ True) (by kernel_rfl) ⟨trivial, trivial⟩ (VI.fin rfl)⟩,
    ⟨_, _, _, rfl, rfl, rfl, VO.seg T_ok .dp 1 [1, 2, 3, 6, 11, 12] [0, 1] (φ := True ∧ True) (by kernel_rfl) ⟨trivial, trivial⟩ (VI.fin rfl)⟩,
    ⟨_, _, _, rfl, rfl, rfl, VO.seg T_ok .dp 1 [1, 2, 3, 6, 7, 12] [0, 1, 2] (φ := True ∧ True) (by kernel_rfl) ⟨trivial, trivial⟩ (VI.fin rfl)⟩,
    ⟨_, _, _, rfl, rfl, rfl, VO.seg T_ok .dp 1 [1, 2, 3, 6, 7, 10] [0, 1, 2] (φ := True ∧ True) (by kernel_rfl) ⟨trivial, trivial⟩ (VI.fin rfl)⟩,
    ⟨_, _, _, rfl, rfl, rfl, VO.seg T_ok .dp 1 [1, 2, 3, 6, 7, 11] [0, 1, 2] (φ := True ∧ True) (by kernel_rfl) ⟨trivial, trivial⟩ (VI.fin rfl)⟩,
    ⟨_, _, _, rfl, rfl, rfl, VO.seg T_ok .dp 1 [1, 2, 3, 6, 7, 12] [0, 1, 2] (φ := True ∧ True) (by kernel_rfl) ⟨trivial, trivial⟩ (VI.fin rfl)⟩,
    ⟨_, _, _, rfl, rfl, rfl, VO.seg T_ok .dp 1 [1, 2, 3, 6, 10, 11, 12] [0, 1] (φ := True ∧ True) (by kernel_rfl) ⟨trivial, trivial⟩ (VI.fin rfl)⟩,
    ⟨_, _, _, rfl, rfl, rfl, VO.seg T_ok .dp 1 [1, 2, 3, 6, 7, 10, 11] [0, 1, 2] (φ := True ∧ True) (by kernel_rfl) ⟨trivial, trivial⟩ (VI.fin rfl)⟩,
    ⟨_, _, _, rfl, rfl, rfl, VO.seg T_ok .dp 1 [1, 2, 3, 6, 10, 11, 12] [0, 1] (φ := True ∧ True) (by kernel_rfl) ⟨trivial, trivial⟩ (VI.fin rfl)⟩,
    ⟨_, _, _, rfl, rfl, rfl, VO.seg T_ok .dp 1 [1, 2, 3, 6, 7, 10, 12] [0, 1, 2] (φ := True ∧ True) (by kernel_rfl) ⟨trivial, trivial⟩ (VI.fin rfl)⟩,
    ⟨_, _, _, rfl, rfl, rfl, VO.seg T_ok .dp 1 [1, 2, 3, 6, 7, 10, 11] [0, 1, 2] (φ := True ∧ True) (by kernel_rfl) ⟨trivial, trivial⟩ (VI.fin rfl)⟩,
    ⟨_, _, _, rfl, rfl, rfl, VO.seg T_ok .dp 1 [1, 2, 3, 6, 7, 10, 12] [0, 1, 2] (φ := True ∧ True) (by kernel_rfl) ⟨trivial, trivial⟩ (VI.fin rfl)⟩,
    ⟨_, _, _, rfl, rfl, rfl, VO.seg T_ok .dp 1 [1, 2, 3, 6, 10, 11, 12] [0, 1] (φ := True ∧ True) (by kernel_rfl) ⟨trivial, trivial⟩ (VI.fin rfl)⟩,
    ⟨_, _, _, rfl, rfl, rfl, by
      refine VO.call false [.t Y58, .t (.int .i64)] [] T_ok (d := some 13) (by kernel_rfl) (ok154 N _ _ hy1) rfl ?_
      exact VO.ghl [.ren [1, 2, 3, 6, 13] [0, 1]] (VI.fin (by kernel_rfl))⟩,
    ⟨_, _, _, rfl, rfl, rfl, VO.seg T_ok .dp 1 [1, 2, 3, 6, 7, 11, 12] [0, 1, 2] (φ := True ∧ True) (by kernel_rfl) ⟨trivial, trivial⟩ (VI.fin rfl)⟩,
    ⟨_, _, _, rfl, rfl, rfl, VO.seg T_ok .dp 1 [1, 2, 3, 6, 7, 10, 11] [0, 1, 2] (φ := True ∧ True) (by kernel_rfl) ⟨trivial, trivial⟩ (VI.fin rfl)⟩,
    ⟨_, _, _, rfl, rfl, rfl, VO.seg T_ok .dp 1 [1, 2, 3, 6, 7, 11, 12] [0, 1, 2] (φ := True ∧ True) (by kernel_rfl) ⟨trivial, trivial⟩ (VI.fin rfl)⟩,
    ⟨_, _, _, rfl, rfl, rfl, VO.seg T_ok .dp 1 [1, 2, 3, 6, 7, 10, 12] [0, 1, 2] (φ := True ∧ True) (by kernel_rfl) ⟨trivial, trivial⟩ (VI.fin rfl)⟩,
    ⟨_, _, _, rfl, rfl, rfl, VO.seg T_ok .dp 1 [1, 2, 3, 6, 7, 11, 12] [0, 1, 2] (φ := True ∧ True) (by kernel_rfl) ⟨trivial, trivial⟩ (VI.fin rfl)⟩,
    ⟨_, _, _, rfl, rfl, rfl, by
      refine VO.call false [.t Y58, .t (.int .i64)] [] T_ok (d := some 13) (by kernel_rfl) (ok154 N _ _ hy1) rfl ?_
      exact VO.ghl [.ren [1, 2, 3, 6, 10, 13] [0, 1]] (VI.fin (by kernel_rfl))⟩,
    ⟨_, _, _, rfl, rfl, rfl, VO.seg T_ok .dp 1 [1, 2, 3, 6, 7, 10, 11, 12] [0, 1, 2] (φ := True ∧ True) (by kernel_rfl) ⟨trivial, trivial⟩ (VI.fin rfl)⟩,
    ⟨_, _, _, rfl, rfl, rfl, VO.seg T_ok .dp 1 [1, 2, 3, 6, 7, 10, 11, 12] [0, 1, 2] (φ := True ∧ True) (by kernel_rfl) ⟨trivial, trivial⟩ (VI.fin rfl)⟩,
    ⟨_, _, _, rfl, rfl, rfl, VO.seg T_ok .dp 1 [1, 2, 3, 6, 7, 10, 11, 12] [0, 1, 2] (φ := True ∧ True) (by kernel_rfl) ⟨trivial, trivial⟩ (VI.fin rfl)⟩,
    ⟨_, _, _, rfl, rfl, rfl, VO.seg T_ok .dp 1 [1, 2, 3, 6, 10, 13] [0, 1] (φ := True ∧ True) (by kernel_rfl) ⟨trivial, trivial⟩ (VI.fin rfl)⟩,
    ⟨_, _, _, rfl, rfl, rfl, VO.seg T_ok .dp 1 [1, 2, 3, 6, 7, 13] [0, 1, 2] (φ := True ∧ True) (by kernel_rfl) ⟨trivial, trivial⟩ (VI.fin rfl)⟩,
    ⟨_, _, _, rfl, rfl, rfl, VO.seg T_ok .dp 1 [1, 2, 3, 6, 7, 10, 11, 12] [0, 1, 2] (φ := True ∧ True) (by kernel_rfl) ⟨trivial, trivial⟩ (VI.fin rfl)⟩,
    ⟨_, _, _, rfl, rfl, rfl, by
      refine VO.call false [.t Y58, .t (.int .i64)] [] T_ok (d := some 13) (by kernel_rfl) (ok154 N _ _ hy1) rfl ?_
      exact VO.ghl [.ren [1, 2, 3, 6, 7, 13] [0, 1, 2]] (VI.fin (by kernel_rfl))⟩,
    ⟨_, _, _, rfl, rfl, rfl, by
      refine VO.call false [.t Y58, .t (.int .i64)] [] T_ok (d := some 14) (by kernel_rfl) (ok157 N _ _ hy2) rfl ?_
      exact VO.ghl [.ren [1, 2, 3, 6, 14] [0, 1, 2, 3]] (VI.fin (by kernel_rfl))⟩,
    ⟨_, _, _, rfl, rfl, rfl, VO.seg T_ok .dp 1 [1, 2, 3, 6, 7, 10, 13] [0, 1, 2] (φ := True ∧ True) (by kernel_rfl) ⟨trivial, trivial⟩ (VI.fin rfl)⟩,
    ⟨_, _, _, rfl, rfl, rfl, by
      refine VO.call false [.t Y58, .t (.int .i64)] [] T_ok (d := some 13) (by kernel_rfl) (ok154 N _ _ hy1) rfl ?_
      exact VO.ghl [.ren [1, 2, 3, 6, 7, 10, 13] [0, 1, 2]] (VI.fin (by kernel_rfl))⟩,
    ⟨_, _, _, rfl, rfl, rfl, VO.seg T_ok .dp 1 [1, 2, 3, 6, 7, 10, 13] [0, 1, 2] (φ := True ∧ True) (by kernel_rfl) ⟨trivial, trivial⟩ (VI.fin rfl)⟩,
    ⟨_, _, _, rfl, rfl, rfl, VO.seg T_ok .dp 1 [1, 2, 3, 6, 7, 14] [0, 1, 4, 2, 3] (φ := True ∧ True) (by kernel_rfl) ⟨trivial, trivial⟩ (VI.fin rfl)⟩,
    ⟨_, _, _, rfl, rfl, rfl, by
      refine VO.call false [.t Y58, .t (.int .i64)] [] T_ok (d := some 14) (by kernel_rfl) (ok157 N _ _ hy2) rfl ?_
      exact VO.ghl [.ren [1, 2, 3, 6, 7, 14] [0, 1, 2, 3, 4]] (VI.fin (by kernel_rfl))⟩,
    ⟨_, _, _, rfl, rfl, rfl, VO.seg T_ok .dp 1 [1, 2, 3, 6, 7] [0, 1, 2, 3, 4] (φ := True ∧ True) (by kernel_rfl) ⟨trivial, trivial⟩ (VI.fin rfl)⟩, trivial⟩ ?_
  refine sR T_ok [6, 7, 8] [1, 2, 3, 4, 7, 5, 6] ⟨[(6, .lf (.ptr 0 0 0 0)), (7, .lf (.ptr 1 0 0 0)), (8, .lf (.ptr 4 0 0 0))], [bx [.v (.int .i64) (0 : Int), .nil, .nil] 59, bx [.v (.int .i64) y2.1, .hd 2 0 none, .hd 3 0 none] 59, ar 0 (.int .i64) y2.2.1 .dp, ar 0 (.int .i64) y2.2.2 .dp, bx [.v (.int .i64) a0.1, .hd 5 0 none, .hd 6 0 none] 59, ar 0 (.int .i64) ([a1]) .dp, ar 0 (.int .i64) ([a2]) .dp]⟩ (tn 9) ?_
  refine VW.join (fun s => ∃ (x53 : Int) (x54 : (List Int)) (x55 : (List Int)), s = ⟨[(6, .lf (.ptr 0 0 0 0)), (8, .lf (.ptr 1 0 0 0))], [bx [.v (.int .i64) (0 : Int), .nil, .nil] 59, bx [.v (.int .i64) x53, .hd 2 0 none, .hd 3 0 none] 59, ar 0 (.int .i64) x54 .dp, ar 0 (.int .i64) x55 .dp]⟩ ∧ F155_j0 N x53 x54 x55 = some r) ?_ ?_
  · refine sR T_ok [6, 7, 8, 9] [0, 1, 2, 3, 4, 5, 6] ⟨[(6, .lf (.ptr 0 0 0 0)), (7, .lf (.ptr 1 0 0 0)), (8, .lf (.ptr 4 0 0 0)), (9, I (0 : Int))], [bx [.v (.int .i64) (0 : Int), .nil, .nil] 59, bx [.v (.int .i64) y2.1, .hd 2 0 none, .hd 3 0 none] 59, ar 0 (.int .i64) y2.2.1 .dp, ar 0 (.int .i64) y2.2.2 .dp, bx [.v (.int .i64) a0.1, .hd 5 0 none, .hd 6 0 none] 59, ar 0 (.int .i64) ([a1]) .dp, ar 0 (.int .i64) ([a2]) .dp]⟩ (tn 1) ?_
    refine VW.block ?_
    refine lop (fun k s => ∃ (x75 : Int) (x76 : (List Int)) (x77 : (List Int)) (x78 : Int) (x79 : (List Int)) (x80 : (List Int)) (x81 : Int), s = ⟨[(6, .lf (.ptr 0 0 0 0)), (7, .lf (.ptr 1 0 0 0)), (8, .lf (.ptr 4 0 0 0)), (9, I x81)], [bx [.v (.int .i64) (0 : Int), .nil, .nil] 59, bx [.v (.int .i64) x75, .hd 2 0 none, .hd 3 0 none] 59, ar 0 (.int .i64) x76 .dp, ar 0 (.int .i64) x77 .dp, bx [.v (.int .i64) x78, .hd 5 0 none, .hd 6 0 none] 59, ar 0 (.int .i64) x79 .dp, ar 0 (.int .i64) x80 .dp]⟩ ∧ F155_l0 N k x75 x76 x77 x78 x79 x80 x81 = some r) N [.ren [6, 7, 8, 9] [0, 1, 2, 3, 4, 5, 6]] ⟨y2.1, y2.2.1, y2.2.2, a0.1, [a1], [a2], (0 : Int), rfl, h⟩ ?_
    rintro k94 s ⟨x75, x76, x77, x78, x79, x80, x81, rfl, h⟩
    cases k94 with
    | zero => cases show none = some r from h
    | succ k94 =>
      replace h : F155_l0_b N (F155_l0 N k94) x75 x76 x77 x78 x79 x80 x81 = some r := h
      unfold F155_l0_b at h
      refine VW.seq ?_
      refine sR T_ok [6, 7, 8, 9, 26] [0, 1, 2, 3, 4, 5, 6] ⟨[(6, .lf (.ptr 0 0 0 0)), (7, .lf (.ptr 1 0 0 0)), (8, .lf (.ptr 4 0 0 0)), (9, I x81), (26, B (decide (x81 < (x76.length : Int))))], [bx [.v (.int .i64) (0 : Int), .nil, .nil] 59, bx [.v (.int .i64) x75, .hd 2 0 none, .hd 3 0 none] 59, ar 0 (.int .i64) x76 .dp, ar 0 (.int .i64) x77 .dp, bx [.v (.int .i64) x78, .hd 5 0 none, .hd 6 0 none] 59, ar 0 (.int .i64) x79 .dp, ar 0 (.int .i64) x80 .dp]⟩ (tn 5) ?_
      refine cnd h (fun h => ?_) (fun h => ?_)
      · refine VW.skip ?_
        refine VW.seq ?_
        refine VW.block ?_
        refine VW.seq ?_
        obtain ⟨g101, h⟩ := gd_some h
        obtain ⟨g102, h⟩ := gd_some h
        obtain ⟨g103, h⟩ := gd_some h
        refine VW.drawn (by kernel_rfl) [some (29, .lf (.ptr 4 0 0 1)), some (30, .lf (.hd 5 0 none)), some (31, .lf (.ptr 1 0 0 1)), some (32, .lf (.hd 2 0 none)), some (33, I x81), some (34, .lf (.ptr 2 0 x81.toNat 0)), some (35, I (x76.getD x81.toNat (Ty.dflt (.int .i64)))), some (36, .lf (.hd 7 0 none)), some (37, .lf (.hd 5 1 none)), some (38, .lf (.ptr 4 0 0 1)), none] [7, 8, 10] [[bx [.v (.int .i64) (0 : Int), .nil, .nil] 59, bx [.v (.int .i64) x75, .hd 2 0 none, .hd 3 0 none] 59, ar 0 (.int .i64) x76 .dp, ar 0 (.int .i64) x77 .dp, bx [.v (.int .i64) x78, .hd 5 0 none, .hd 6 0 none] 59, ar 0 (.int .i64) x79 .dp, ar 0 (.int .i64) x80 .dp], [bx [.v (.int .i64) (0 : Int), .nil, .nil] 59, bx [.v (.int .i64) x75, .hd 2 0 none, .hd 3 0 none] 59, ar 0 (.int .i64) x76 .dp, ar 0 (.int .i64) x77 .dp, bx [.v (.int .i64) x78, .hd 5 0 none, .hd 6 0 none] 59, ar 0 (.int .i64) x79 .dp, ar 0 (.int .i64) x80 .dp, ar 0 (.int .i64) ([(x76.getD x81.toNat (Ty.dflt (.int .i64)))]) .dp], [bx [.v (.int .i64) (0 : Int), .nil, .nil] 59, bx [.v (.int .i64) x75, .hd 2 0 none, .hd 3 0 none] 59, ar 0 (.int .i64) x76 .dp, ar 0 (.int .i64) x77 .dp, bx [.v (.int .i64) x78, .hd 5 0 none, .hd 6 0 none] 59, ar 1 (.int .i64) (x79 ++ ([(x76.getD x81.toNat (Ty.dflt (.int .i64)))])) .dp, ar 0 (.int .i64) x80 .dp, ar 0 (.int .i64) ([(x76.getD x81.toNat (Ty.dflt (.int .i64)))]) .dp], [bx [.v (.int .i64) (0 : Int), .nil, .nil] 59, bx [.v (.int .i64) x75, .hd 2 0 none, .hd 3 0 none] 59, ar 0 (.int .i64) x76 .dp, ar 0 (.int .i64) x77 .dp, bx [.v (.int .i64) x78, .hd 5 1 none, .hd 6 0 none] 59, ar 1 (.int .i64) (x79 ++ ([(x76.getD x81.toNat (Ty.dflt (.int .i64)))])) .dp, ar 0 (.int .i64) x80 .dp, ar 0 (.int .i64) ([(x76.getD x81.toNat (Ty.dflt (.int .i64)))]) .dp]] [(0, 0), (0, 1), (0, 2), (1, 0), (1, 1), (2, 0), (2, 1), (2, 2), (3, 0), (3, 1), (3, 2), (4, 0), (4, 1), (4, 2), (5, 0), (5, 1), (5, 2), (6, 0), (7, 0), (8, 1), (9, 2), (10, 2)] [6, 7, 8, 9] [0, 1, 2, 3, 4, 5, 6] (s' := ⟨[(6, .lf (.ptr 0 0 0 0)), (7, .lf (.ptr 1 0 0 0)), (8, .lf (.ptr 4 0 0 0)), (9, I x81)], [bx [.v (.int .i64) (0 : Int), .nil, .nil] 59, bx [.v (.int .i64) x75, .hd 2 0 none, .hd 3 0 none] 59, ar 0 (.int .i64) x76 .dp, ar 0 (.int .i64) x77 .dp, bx [.v (.int .i64) x78, .hd 5 0 none, .hd 6 0 none] 59, ar 0 (.int .i64) (x79 ++ ([(x76.getD x81.toNat (Ty.dflt (.int .i64)))])) .dp, ar 0 (.int .i64) x80 .dp]⟩) (by kernel_rfl) (by kernel_rfl) ⟨⟨_, rfl, Stp.ev T_ok (m := .dp) (φ := True) (by kernel_rfl) trivial⟩,
    ⟨_, rfl, Stp.ev T_ok (m := .dp) (φ := True) (by kernel_rfl) trivial⟩,
    ⟨_, rfl, Stp.ev T_ok (m := .dp) (φ := True) (by kernel_rfl) trivial⟩,
    ⟨_, rfl, Stp.ev T_ok (m := .dp) (φ := True) (by kernel_rfl) trivial⟩,
    ⟨_, rfl, Stp.ev T_ok (m := .dp) (φ := True) (by kernel_rfl) trivial⟩,
    ⟨_, rfl, Stp.ev T_ok (m := .dp) (φ := True) (by kernel_rfl) trivial⟩,
    ⟨_, rfl, Stp.ev T_ok (m := .dp) (φ := True) (by kernel_rfl) trivial⟩,
    ⟨_, rfl, Stp.ev T_ok (m := .dp) (φ := True) (by kernel_rfl) trivial⟩,
    ⟨_, rfl, Stp.ev T_ok (m := .dp) (φ := True) (by kernel_rfl) trivial⟩,
    ⟨_, rfl, Stp.ev T_ok (m := .dp) (φ := True) (by kernel_rfl) trivial⟩,
    ⟨_, rfl, Stp.ev T_ok (m := .dp) (φ := True) (by kernel_rfl) trivial⟩,
    ⟨_, rfl, Stp.ev T_ok (m := .dp) (φ := True) (by kernel_rfl) trivial⟩,
    ⟨_, rfl, Stp.ev T_ok (m := .dp) (φ := True) (by kernel_rfl) trivial⟩,
    ⟨_, rfl, Stp.ev T_ok (m := .dp) (φ := True) (by kernel_rfl) trivial⟩,
    ⟨_, rfl, Stp.ev T_ok (m := .dp) (φ := InR x81 x76.length) (by kernel_rfl) g101⟩,
    ⟨_, rfl, Stp.ev T_ok (m := .dp) (φ := InR x81 x76.length) (by kernel_rfl) g101⟩,
    ⟨_, rfl, Stp.ev T_ok (m := .dp) (φ := InR x81 x76.length) (by kernel_rfl) g101⟩,
    ⟨_, rfl, Stp.ev T_ok (m := .dp) (φ := x81.toNat < x76.length) (by kernel_rfl) g102⟩,
    ⟨_, rfl, Stp.ev T_ok (m := .dp) (φ := True) (by kernel_rfl) trivial⟩,
    ⟨_, rfl, Stp.ev T_ok (m := .dp) (φ := x79.length + ([(x76.getD x81.toNat (Ty.dflt (.int .i64)))]).length ≤ lim (.int .i64)) (by kernel_rfl) g103⟩,
    ⟨_, rfl, Stp.ev T_ok (m := .dp) (φ := True) (by kernel_rfl) trivial⟩,
    ⟨_, rfl, Stp.ev T_ok (m := .dp) (φ := True) (by kernel_rfl) trivial⟩, trivial⟩ (by kernel_rfl) ?_
        obtain ⟨g104, h⟩ := gd_some h
        obtain ⟨g105, h⟩ := gd_some h
        obtain ⟨g106, h⟩ := gd_some h
        refine VW.drawn (by kernel_rfl) [some (39, .lf (.ptr 4 0 0 2)), some (40, .lf (.hd 6 0 none)), some (41, .lf (.ptr 1 0 0 2)), some (42, .lf (.hd 3 0 none)), some (43, I x81), some (44, .lf (.ptr 3 0 x81.toNat 0)), some (45, I (x77.getD x81.toNat (Ty.dflt (.int .i64)))), some (46, .lf (.hd 7 0 none)), some (47, .lf (.hd 6 1 none)), some (48, .lf (.ptr 4 0 0 2)), none] [7, 8, 10] [[bx [.v (.int .i64) (0 : Int), .nil, .nil] 59, bx [.v (.int .i64) x75, .hd 2 0 none, .hd 3 0 none] 59, ar 0 (.int .i64) x76 .dp, ar 0 (.int .i64) x77 .dp, bx [.v (.int .i64) x78, .hd 5 0 none, .hd 6 0 none] 59, ar 0 (.int .i64) (x79 ++ ([(x76.getD x81.toNat (Ty.dflt (.int .i64)))])) .dp, ar 0 (.int .i64) x80 .dp], [bx [.v (.int .i64) (0 : Int), .nil, .nil] 59, bx [.v (.int .i64) x75, .hd 2 0 none, .hd 3 0 none] 59, ar 0 (.int .i64) x76 .dp, ar 0 (.int .i64) x77 .dp, bx [.v (.int .i64) x78, .hd 5 0 none, .hd 6 0 none] 59, ar 0 (.int .i64) (x79 ++ ([(x76.getD x81.toNat (Ty.dflt (.int .i64)))])) .dp, ar 0 (.int .i64) x80 .dp, ar 0 (.int .i64) ([(x77.getD x81.toNat (Ty.dflt (.int .i64)))]) .dp], [bx [.v (.int .i64) (0 : Int), .nil, .nil] 59, bx [.v (.int .i64) x75, .hd 2 0 none, .hd 3 0 none] 59, ar 0 (.int .i64) x76 .dp, ar 0 (.int .i64) x77 .dp, bx [.v (.int .i64) x78, .hd 5 0 none, .hd 6 0 none] 59, ar 0 (.int .i64) (x79 ++ ([(x76.getD x81.toNat (Ty.dflt (.int .i64)))])) .dp, ar 1 (.int .i64) (x80 ++ ([(x77.getD x81.toNat (Ty.dflt (.int .i64)))])) .dp, ar 0 (.int .i64) ([(x77.getD x81.toNat (Ty.dflt (.int .i64)))]) .dp], [bx [.v (.int .i64) (0 : Int), .nil, .nil] 59, bx [.v (.int .i64) x75, .hd 2 0 none, .hd 3 0 none] 59, ar 0 (.int .i64) x76 .dp, ar 0 (.int .i64) x77 .dp, bx [.v (.int .i64) x78, .hd 5 0 none, .hd 6 1 none] 59, ar 0 (.int .i64) (x79 ++ ([(x76.getD x81.toNat (Ty.dflt (.int .i64)))])) .dp, ar 1 (.int .i64) (x80 ++ ([(x77.getD x81.toNat (Ty.dflt (.int .i64)))])) .dp, ar 0 (.int .i64) ([(x77.getD x81.toNat (Ty.dflt (.int .i64)))]) .dp]] [(0, 0), (0, 1), (0, 2), (1, 0), (1, 1), (2, 0), (2, 1), (2, 2), (3, 0), (3, 1), (3, 2), (4, 0), (4, 1), (4, 2), (5, 0), (5, 1), (5, 2), (6, 0), (7, 0), (8, 1), (9, 2), (10, 2)] [6, 7, 8, 9] [0, 1, 2, 3, 4, 5, 6] (s' := ⟨[(6, .lf (.ptr 0 0 0 0)), (7, .lf (.ptr 1 0 0 0)), (8, .lf (.ptr 4 0 0 0)), (9, I x81)], [bx [.v (.int .i64) (0 : Int), .nil, .nil] 59, bx [.v (.int .i64) x75, .hd 2 0 none, .hd 3 0 none] 59, ar 0 (.int .i64) x76 .dp, ar 0 (.int .i64) x77 .dp, bx [.v (.int .i64) x78, .hd 5 0 none, .hd 6 0 none] 59, ar 0 (.int .i64) (x79 ++ ([(x76.getD x81.toNat (Ty.dflt (.int .i64)))])) .dp, ar 0 (.int .i64) (x80 ++ ([(x77.getD x81.toNat (Ty.dflt (.int .i64)))])) .dp]⟩) (by kernel_rfl) (by kernel_rfl) ⟨⟨_, rfl, Stp.ev T_ok (m := .dp) (φ := True) (by kernel_rfl) trivial⟩,
    ⟨_, rfl, Stp.ev T_ok (m := .dp) (φ := True) (by kernel_rfl) trivial⟩,
    ⟨_, rfl, Stp.ev T_ok (m := .dp) (φ := True) (by kernel_rfl) trivial⟩,
    ⟨_, rfl, Stp.ev T_ok (m := .dp) (φ := True) (by kernel_rfl) trivial⟩,
    ⟨_, rfl, Stp.ev T_ok (m := .dp) (φ := True) (by kernel_rfl) trivial⟩,
    ⟨_, rfl, Stp.ev T_ok (m := .dp) (φ := True) (by kernel_rfl) trivial⟩,
    ⟨_, rfl, Stp.ev T_ok (m := .dp) (φ := True) (by kernel_rfl) trivial⟩,
    ⟨_, rfl, Stp.ev T_ok (m := .dp) (φ := True) (by kernel_rfl) trivial⟩,
    ⟨_, rfl, Stp.ev T_ok (m := .dp) (φ := True) (by kernel_rfl) trivial⟩,
    ⟨_, rfl, Stp.ev T_ok (m := .dp) (φ := True) (by kernel_rfl) trivial⟩,
    ⟨_, rfl, Stp.ev T_ok (m := .dp) (φ := True) (by kernel_rfl) trivial⟩,
    ⟨_, rfl, Stp.ev T_ok (m := .dp) (φ := True) (by kernel_rfl) trivial⟩,
    ⟨_, rfl, Stp.ev T_ok (m := .dp) (φ := True) (by kernel_rfl) trivial⟩,
    ⟨_, rfl, Stp.ev T_ok (m := .dp) (φ := True) (by kernel_rfl) trivial⟩,
    ⟨_, rfl, Stp.ev T_ok (m := .dp) (φ := InR x81 x77.length) (by kernel_rfl) g104⟩,
    ⟨_, rfl, Stp.ev T_ok (m := .dp) (φ := InR x81 x77.length) (by kernel_rfl) g104⟩,
    ⟨_, rfl, Stp.ev T_ok (m := .dp) (φ := InR x81 x77.length) (by kernel_rfl) g104⟩,
    ⟨_, rfl, Stp.ev T_ok (m := .dp) (φ := x81.toNat < x77.length) (by kernel_rfl) g105⟩,
    ⟨_, rfl, Stp.ev T_ok (m := .dp) (φ := True) (by kernel_rfl) trivial⟩,
    ⟨_, rfl, Stp.ev T_ok (m := .dp) (φ := x80.length + ([(x77.getD x81.toNat (Ty.dflt (.int .i64)))]).length ≤ lim (.int .i64)) (by kernel_rfl) g106⟩,
    ⟨_, rfl, Stp.ev T_ok (m := .dp) (φ := True) (by kernel_rfl) trivial⟩,
    ⟨_, rfl, Stp.ev T_ok (m := .dp) (φ := True) (by kernel_rfl) trivial⟩, trivial⟩ (by kernel_rfl) ?_
        refine rR T_ok [6, 7, 8, 9] [0, 1, 2, 3, 4, 5, 6] ⟨[(6, .lf (.ptr 0 0 0 0)), (7, .lf (.ptr 1 0 0 0)), (8, .lf (.ptr 4 0 0 0)), (9, I (IntKind.i64.wrap (x81 + (1 : Int))))], [bx [.v (.int .i64) (0 : Int), .nil, .nil] 59, bx [.v (.int .i64) x75, .hd 2 0 none, .hd 3 0 none] 59, ar 0 (.int .i64) x76 .dp, ar 0 (.int .i64) x77 .dp, bx [.v (.int .i64) x78, .hd 5 0 none, .hd 6 0 none] 59, ar 0 (.int .i64) (x79 ++ ([(x76.getD x81.toNat (Ty.dflt (.int .i64)))])) .dp, ar 0 (.int .i64) (x80 ++ ([(x77.getD x81.toNat (Ty.dflt (.int .i64)))])) .dp]⟩ (tn 3) ?_
        exact aro [.ren [6, 7, 8, 9] [0, 1, 2, 3, 4, 5, 6]] ⟨x75, x76, x77, x78, (x79 ++ ([(x76.getD x81.toNat (Ty.dflt (.int .i64)))])), (x80 ++ ([(x77.getD x81.toNat (Ty.dflt (.int .i64)))])), (IntKind.i64.wrap (x81 + (1 : Int))), rfl, h⟩
      refine VW.exit ?_
      exact arv [.ren [6, 8] [0, 4, 5, 6]] ⟨x78, x79, x80, rfl, h⟩
  rintro s ⟨x53, x54, x55, rfl, h⟩
  unfold F155_j0 at h
  refine sR T_ok [6] [0, 2, 3] ⟨[(6, .lf (.ptr 0 0 0 0))], [bx [.v (.int .i64) x53, .hd 1 0 none, .hd 2 0 none] 59, ar 0 (.int .i64) x54 .dp, ar 0 (.int .i64) x55 .dp]⟩ (tn 2) ?_
  refine VW.ret ?_
  replace h := Option.some.inj h
  subst h
  exact rt [some 1, some 2]

/- loop.example/g00844/spec.GetKey -/
def F99 (N : Nat) (a0 : (Int × ((List Int) × (List Int)))) (a1 : Int) : Option ((Int × ((List Int) × (List Int))) × Int × Bool) :=
  andO (F154 N a0 a1) fun y1 => andO (F105 N a0) fun y5 => cond (!y5) (andO (F104 N a0) fun y6 => some (y6, (0 : Int), false)) (cond (decide (y1 < (0 : Int))) (andO (F104 N a0) fun y7 => some (y7, (0 : Int), false)) (gd (InR y1 a0.2.2.length) (andO (F155 N a0 a1 (a0.2.2.getD y1.toNat (Ty.dflt (.int .i64)))) fun y9 => gd (InR y1 a0.2.2.length) (some (y9, (a0.2.2.getD y1.toNat (Ty.dflt (.int .i64))), true)))))
theorem ok99 (N : Nat) (a0 : (Int × ((List Int) × (List Int)))) (a1 : Int) {r : (Int × ((List Int) × (List Int))) × Int × Bool} (h : F99 N a0 a1 = some r) : Con Go.Proofs.Try.prog 99 [.agg [.v (.int .i64) a0.1, .v (.sl (.int .i64)) a0.2.1, .v (.sl (.int .i64)) a0.2.2], I a1] [.agg [.v (.int .i64) r.1.1, .own (.int .i64) r.1.2.1 .dp, .own (.int .i64) r.1.2.2 .dp], .lf (.v (.int .i64) r.2.1), .lf (.v .bool r.2.2)] := by
  refine ctr [.agg [.v (.int .i64), .own (.int .i64) .dp, .own (.int .i64) .dp], .lf (.v (.int .i64)), .lf (.v .bool)] T_ok Go.Proofs.Try.func99 rfl fun w0 E0 ht => ?_
  unfold F99 at h
  show VW _ _ _ _ _ (retQ _ _ _ _) _
  refine sR T_ok [1, 2, 4] [0, 1] ⟨[(1, I a1), (2, .lf (.ptr 0 0 0 0)), (4, .lf (.ptr 1 0 0 0))], [bx [.v (.int .i64) a0.1, .v (.sl (.int .i64)) a0.2.1, .v (.sl (.int .i64)) a0.2.2] 59, bx [.v (.int .i64) (0 : Int), .nil, .nil] 59]⟩ (tn 4) ?_
  refine VW.seq ?_
  refine VW.region ?_
  refine sG T_ok 2 [1, 2, 4, 8, 9] [0, 1] ⟨[(1, I a1), (2, .lf (.ptr 0 0 0 0)), (4, .lf (.ptr 1 0 0 0)), (8, .agg [.v (.int .i64) a0.1, .v (.sl (.int .i64)) a0.2.1, .v (.sl (.int .i64)) a0.2.2]), (9, I a1)], [bx [.v (.int .i64) a0.1, .v (.sl (.int .i64)) a0.2.1, .v (.sl (.int .i64)) a0.2.2] 59, bx [.v (.int .i64) (0 : Int), .nil, .nil] 59]⟩ (tn 2) ?_
  obtain ⟨y1, hy, h⟩ := andO_some h
  refine cal false [.t Y58, .t (.int .i64)] [] (some 10) T_ok (ok154 N _ _ hy) ?_
  refine sN T_ok [1, 2, 4, 7] [0, 1] ⟨[(1, I a1), (2, .lf (.ptr 0 0 0 0)), (4, .lf (.ptr 1 0 0 0)), (7, I y1)], [bx [.v (.int .i64) a0.1, .v (.sl (.int .i64)) a0.2.1, .v (.sl (.int .i64)) a0.2.2] 59, bx [.v (.int .i64) (0 : Int), .nil, .nil] 59]⟩ (tn 1) ?_
  refine VW.seq ?_
  refine VW.seq ?_
  refine VW.region ?_
  refine sG T_ok 1 [1, 2, 4, 7, 11] [0, 1] ⟨[(1, I a1), (2, .lf (.ptr 0 0 0 0)), (4, .lf (.ptr 1 0 0 0)), (7, I y1), (11, .agg [.v (.int .i64) a0.1, .v (.sl (.int .i64)) a0.2.1, .v (.sl (.int .i64)) a0.2.2])], [bx [.v (.int .i64) a0.1, .v (.sl (.int .i64)) a0.2.1, .v (.sl (.int .i64)) a0.2.2] 59, bx [.v (.int .i64) (0 : Int), .nil, .nil] 59]⟩ (tn 1) ?_
  obtain ⟨y5, hy, h⟩ := andO_some h
  refine cal false [.t Y58] [] (some 12) T_ok (ok105 N _ hy) ?_
  refine sG T_ok 2 [1, 2, 4, 7, 14] [0, 1] ⟨[(1, I a1), (2, .lf (.ptr 0 0 0 0)), (4, .lf (.ptr 1 0 0 0)), (7, I y1), (14, B (!y5))], [bx [.v (.int .i64) a0.1, .v (.sl (.int .i64)) a0.2.1, .v (.sl (.int .i64)) a0.2.2] 59, bx [.v (.int .i64) (0 : Int), .nil, .nil] 59]⟩ (tn 2) ?_
  refine spB 14 h (fun h => ?_) (fun h => ?_)
  · refine sN T_ok [1, 2, 4, 7, 17] [0, 1] ⟨[(1, I a1), (2, .lf (.ptr 0 0 0 0)), (4, .lf (.ptr 1 0 0 0)), (7, I y1), (17, B true)], [bx [.v (.int .i64) a0.1, .v (.sl (.int .i64)) a0.2.1, .v (.sl (.int .i64)) a0.2.2] 59, bx [.v (.int .i64) (0 : Int), .nil, .nil] 59]⟩ (tn 3) ?_
    refine VW.cond (b := true) (by kernel_rfl) (fun _ => ?_) (fun h' => nomatch h')
    refine VW.seq ?_
    refine VW.region ?_
    refine sG T_ok 1 [4, 18] [1] ⟨[(4, .lf (.ptr 0 0 0 0)), (18, .agg [.v (.int .i64) a0.1, .v (.sl (.int .i64)) a0.2.1, .v (.sl (.int .i64)) a0.2.2])], [bx [.v (.int .i64) (0 : Int), .nil, .nil] 59]⟩ (tn 1) ?_
    obtain ⟨y6, hy, h⟩ := andO_some h
    refine cal false [.t Y58] [] (some 19) T_ok (ok104 N _ hy) ?_
    refine sN T_ok [4, 5, 6] [0, 1, 2] ⟨[(4, .lf (.ptr 0 0 0 0)), (5, I (0 : Int)), (6, B false)], [bx [.v (.int .i64) y6.1, .hd 1 0 none, .hd 2 0 none] 59, ar 0 (.int .i64) y6.2.1 .dp, ar 0 (.int .i64) y6.2.2 .dp]⟩ (tn 3) ?_
    refine VW.ret ?_
    replace h := Option.some.inj h
    subst h
    exact rt [some 1, some 2]
  refine sN T_ok [1, 2, 4, 7, 17] [0, 1] ⟨[(1, I a1), (2, .lf (.ptr 0 0 0 0)), (4, .lf (.ptr 1 0 0 0)), (7, I y1), (17, B (decide (y1 < (0 : Int))))], [bx [.v (.int .i64) a0.1, .v (.sl (.int .i64)) a0.2.1, .v (.sl (.int .i64)) a0.2.2] 59, bx [.v (.int .i64) (0 : Int), .nil, .nil] 59]⟩ (tn 3) ?_
  refine cnd h (fun h => ?_) (fun h => ?_)
  · refine VW.seq ?_
    refine VW.region ?_
    refine sG T_ok 1 [4, 18] [1] ⟨[(4, .lf (.ptr 0 0 0 0)), (18, .agg [.v (.int .i64) a0.1, .v (.sl (.int .i64)) a0.2.1, .v (.sl (.int .i64)) a0.2.2])], [bx [.v (.int .i64) (0 : Int), .nil, .nil] 59]⟩ (tn 1) ?_
    obtain ⟨y7, hy, h⟩ := andO_some h
    refine cal false [.t Y58] [] (some 19) T_ok (ok104 N _ hy) ?_
    refine sN T_ok [4, 5, 6] [0, 1, 2] ⟨[(4, .lf (.ptr 0 0 0 0)), (5, I (0 : Int)), (6, B false)], [bx [.v (.int .i64) y7.1, .hd 1 0 none, .hd 2 0 none] 59, ar 0 (.int .i64) y7.2.1 .dp, ar 0 (.int .i64) y7.2.2 .dp]⟩ (tn 3) ?_
    refine VW.ret ?_
    replace h := Option.some.inj h
    subst h
    exact rt [some 1, some 2]
  refine VW.skip ?_
  refine VW.seq ?_
  obtain ⟨g8, h⟩ := gd_some h
  obtain ⟨y9, hy9, h⟩ := andO_some h
  obtain ⟨g10, h⟩ := gd_some h
  refine VW.drawn (by kernel_rfl) [some (20, .agg [.v (.int .i64) a0.1, .v (.sl (.int .i64)) a0.2.1, .v (.sl (.int .i64)) a0.2.2]), some (21, I a1), some (22, .lf (.ptr 0 0 0 2)), some (23, .lf (.v (.sl (.int .i64)) a0.2.2)), some (24, I y1), some (25, .lf (.fp (.int .i64) (a0.2.2.getD y1.toNat (Ty.dflt (.int .i64))) 0)), some (26, I (a0.2.2.getD y1.toNat (Ty.dflt (.int .i64)))), some (27, .agg [.v (.int .i64) y9.1, .hd 2 0 none, .hd 3 0 none]), some (28, .lf (.ptr 0 0 0 2)), some (29, .lf (.v (.sl (.int .i64)) a0.2.2)), some (30, I y1), some (31, .lf (.fp (.int .i64) (a0.2.2.getD y1.toNat (Ty.dflt (.int .i64))) 0)), some (32, I (a0.2.2.getD y1.toNat (Ty.dflt (.int .i64)))), none, some (5, I (a0.2.2.getD y1.toNat (Ty.dflt (.int .i64)))), some (6, B true)] [7, 13] [[bx [.v (.int .i64) a0.1, .v (.sl (.int .i64)) a0.2.1, .v (.sl (.int .i64)) a0.2.2] 59, bx [.v (.int .i64) (0 : Int), .nil, .nil] 59], [bx [.v (.int .i64) a0.1, .v (.sl (.int .i64)) a0.2.1, .v (.sl (.int .i64)) a0.2.2] 59, bx [.v (.int .i64) (0 : Int), .nil, .nil] 59, ar 0 (.int .i64) y9.2.1 .dp, ar 0 (.int .i64) y9.2.2 .dp], [bx [.v (.int .i64) a0.1, .v (.sl (.int .i64)) a0.2.1, .v (.sl (.int .i64)) a0.2.2] 59, bx [.v (.int .i64) y9.1, .hd 2 0 none, .hd 3 0 none] 59, ar 0 (.int .i64) y9.2.1 .dp, ar 0 (.int .i64) y9.2.2 .dp]] [(0, 0), (1, 0), (2, 0), (2, 1), (3, 0), (3, 1), (4, 0), (4, 1), (5, 0), (5, 1), (6, 0), (7, 0), (8, 0), (8, 1), (8, 2), (9, 0), (9, 1), (9, 2), (10, 0), (10, 1), (10, 2), (11, 0), (11, 1), (11, 2), (12, 0), (12, 1), (12, 2), (13, 1), (14, 2), (15, 2)] [4, 5, 6] [1, 2, 3] (s' := ⟨[(4, .lf (.ptr 0 0 0 0)), (5, I (a0.2.2.getD y1.toNat (Ty.dflt (.int .i64)))), (6, B true)], [bx [.v (.int .i64) y9.1, .hd 1 0 none, .hd 2 0 none] 59, ar 0 (.int .i64) y9.2.1 .dp, ar 0 (.int .i64) y9.2.2 .dp]⟩) (by kernel_rfl) (by kernel_rfl) ⟨⟨_, rfl, Stp.ev T_ok (m := .dp) (φ := True) (by kernel_rfl) trivial⟩,
    ⟨_, rfl, Stp.ev T_ok (m := .dp) (φ := True) (by kernel_rfl) trivial⟩,
    ⟨_, rfl, Stp.ev T_ok (m := .dp) (φ := True) (by kernel_rfl) trivial⟩,
    ⟨_, rfl, Stp.ev T_ok (m := .dp) (φ := True) (by kernel_rfl) trivial⟩,
    ⟨_, rfl, Stp.ev T_ok (m := .dp) (φ := True) (by kernel_rfl) trivial⟩,
    ⟨_, rfl, Stp.ev T_ok (m := .dp) (φ := True) (by kernel_rfl) trivial⟩,
    ⟨_, rfl, Stp.ev T_ok (m := .dp) (φ := True) (by kernel_rfl) trivial⟩,
    ⟨_, rfl, Stp.ev T_ok (m := .dp) (φ := True) (by kernel_rfl) trivial⟩,
    ⟨_, rfl, Stp.ev T_ok (m := .dp) (φ := InR y1 a0.2.2.length) (by kernel_rfl) g8⟩,
    ⟨_, rfl, Stp.ev T_ok (m := .dp) (φ := InR y1 a0.2.2.length) (by kernel_rfl) g8⟩,
    ⟨_, rfl, Stp.ev T_ok (m := .dp) (φ := True) (by kernel_rfl) trivial⟩,
    ⟨_, rfl, Stp.eq (Stp.call false [.t Y58, .t (.int .i64), .t (.int .i64)] [] T_ok (d := some 27) (by kernel_rfl) (ok155 N _ _ _ hy9) rfl) (by kernel_rfl) (by kernel_rfl)⟩,
    ⟨_, rfl, Stp.ev T_ok (m := .dp) (φ := True) (by kernel_rfl) trivial⟩,
    ⟨_, rfl, Stp.ev T_ok (m := .dp) (φ := True) (by kernel_rfl) trivial⟩,
    ⟨_, rfl, Stp.ev T_ok (m := .dp) (φ := True) (by kernel_rfl) trivial⟩,
    ⟨_, rfl, Stp.ev T_ok (m := .dp) (φ := True) (by kernel_rfl) trivial⟩,
    ⟨_, rfl, Stp.ev T_ok (m := .dp) (φ := True) (by kernel_rfl) trivial⟩,
    ⟨_, rfl, Stp.ev T_ok (m := .dp) (φ := True) (by kernel_rfl) trivial⟩,
    ⟨_, rfl, Stp.ev T_ok (m := .dp) (φ := True) (by kernel_rfl) trivial⟩,
    ⟨_, rfl, Stp.ev T_ok (m := .dp) (φ := True) (by kernel_rfl) trivial⟩,
    ⟨_, rfl, Stp.ev T_ok (m := .dp) (φ := True) (by kernel_rfl) trivial⟩,
    ⟨_, rfl, Stp.ev T_ok (m := .dp) (φ := InR y1 a0.2.2.length) (by kernel_rfl) g10⟩,
    ⟨_, rfl, Stp.ev T_ok (m := .dp) (φ := InR y1 a0.2.2.length) (by kernel_rfl) g10⟩,
    ⟨_, rfl, Stp.ev T_ok (m := .dp) (φ := InR y1 a0.2.2.length) (by kernel_rfl) g10⟩,
    ⟨_, rfl, Stp.ev T_ok (m := .dp) (φ := True) (by kernel_rfl) trivial⟩,
    ⟨_, rfl, Stp.ev T_ok (m := .dp) (φ := True) (by kernel_rfl) trivial⟩,
    ⟨_, rfl, Stp.ev T_ok (m := .dp) (φ := True) (by kernel_rfl) trivial⟩,
    ⟨_, rfl, Stp.ev T_ok (m := .dp) (φ := True) (by kernel_rfl) trivial⟩,
    ⟨_, rfl, Stp.ev T_ok (m := .dp) (φ := True) (by kernel_rfl) trivial⟩,
    ⟨_, rfl, Stp.ev T_ok (m := .dp) (φ := True) (by kernel_rfl) trivial⟩, trivial⟩ (by kernel_rfl) ?_
  refine VW.ret ?_
  replace h := Option.some.inj h
  subst h
  exact rt [some 1, some 2]

end Go.Proofs.Ytgpddckjpokclaa.Vc
