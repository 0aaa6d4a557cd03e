/- What functions of the program compute, and that they do. -/
import Derived.Test.YtgpddckjpokclaaDoorProg
import Derived.Test.YtgpddckjpokclaaDoorVd1
import Derived.Test.YtgpddckjpokclaaDoorShelf
namespace Go.Proofs.YtgpddckjpokclaaDoor.Vc
open Go Go.RowKit
set_option linter.unusedVariables false
set_option maxRecDepth 100000
set_option maxHeartbeats 4000000
abbrev Y7 : Ty := .pair (.int .i64) (.pair (.int .i64) (.pair .bool (.int .u8)))
abbrev Y13 : Ty := .pair .str (.int .u64)
abbrev Y27 : Ty := .pair (.int .i64) (.pair (.sl (.int .i64)) (.sl (.int .i64)))
abbrev Y36 : Ty := .pair (.int .i64) (.int .i64)
abbrev Y74 : Ty := .pair (.sl (.int .u8)) Y36
def TL : List (Nat × TI) := [(2, { ty := (.int .i64) }),
  (3, { ty := (.int .i64) }),
  (4, { ty := .bool }),
  (5, { ty := (.int .u8) }),
  (6, { ty := (.int .u8) }),
  (7, { ty := Y7, offs := [0, 1, 2, 3], szs := [1, 1, 1, 1] }),
  (8, { ty := Y7, offs := [0, 1, 2, 3], szs := [1, 1, 1, 1] }),
  (9, { ty := .str }),
  (10, { ty := .str }),
  (11, { ty := .str }),
  (12, { ty := (.int .u64) }),
  (13, { ty := Y13, offs := [0, 1], szs := [1, 1] }),
  (14, { ty := Y13, offs := [0, 1], szs := [1, 1] }),
  (21, { ty := (.int .i32) }),
  (22, { ty := (.sl (.int .u8)), elem := 5 }),
  (24, { ty := (.sl (.int .i64)), elem := 3 }),
  (27, { ty := Y27, offs := [0, 1, 2], szs := [1, 1, 1] }),
  (28, { ty := Y27, offs := [0, 1, 2], szs := [1, 1, 1] }),
  (36, { ty := Y36, offs := [0, 1], szs := [1, 1] }),
  (37, { ty := Y36, offs := [0, 1], szs := [1, 1] }),
  (39, { ty := Y36, offs := [0, 1], szs := [1, 1] }),
  (42, { ty := (.sl Y36), elem := 37 }),
  (45, { ty := (.sl Y36), elem := 39 }),
  (49, { ty := Y27, offs := [0, 1, 2], szs := [1, 1, 1] }),
  (67, { ty := (.sl .str), elem := 9 }),
  (74, { ty := Y74, offs := [0, 1, 2], szs := [1, 1, 1] }),
  (75, { ty := Y74, offs := [0, 1, 2], szs := [1, 1, 1] }),
  (85, { ty := (.int .u64) }),
  (99, { ty := (.int .u64) }),
  (109, { ty := (.int .u32) }),
  (121, { ty := (.int .u8) }),
  (122, { ty := (.int .u8) }),
  (124, { ty := (.int .i32) }),
  (125, { ty := (.int .i32) })]
abbrev T : Tab := lookT TL
theorem T_ok : TabOk Go.Proofs.Tryd.prog T := tabOk_of TL (by kernel_rfl)
theorem T_rec : RecOk Go.Proofs.Tryd.prog T := recOk_of TL (by kernel_rfl)
/- strconv.Itoa: proved of any program that bears it -/
def F64 (N : Nat) (a0 : Int) : Option (ByteArray) :=
  gd (-9223372036854775808 ≤ a0 ∧ a0 ≤ 9223372036854775807) (some ⟨(Lib.itoa a0).toArray⟩)
theorem ok64 (N : Nat) (a0 : Int) {r : ByteArray} (h : F64 N a0 = some r) : Con Go.Proofs.Tryd.prog 64 [I a0] [.lf (.v .str r)] := by
  obtain ⟨g, h⟩ := gd_some h
  cases h
  exact con_itoa (g := 0) (by kernel_rfl) (enters_of Go.Proofs.Tryd.func64 rfl (by decide)) (fun w ht => Go.Proofs.Tryd.strconv_Itoa a0 g.1 g.2 w ht)

/- loop.example/g00844/impl.number -/
def F42 (N : Nat) (a0 : Int) : Option (ByteArray) :=
  andO (F64 N a0) fun y1 => some y1
theorem ok42 (N : Nat) (a0 : Int) {r : ByteArray} (h : F42 N a0 = some r) : Con Go.Proofs.Tryd.prog 42 [I a0] [.lf (.v .str r)] := by
  refine ctr [.lf (.v .str)] T_ok Go.Proofs.Tryd.func42 rfl fun w0 E0 ht => ?_
  unfold F42 at h
  show VW _ _ _ _ _ (retQ _ _ _ _) _
  refine sR T_ok [0] [] ⟨[(0, I a0)], []⟩ (tn 1) ?_
  refine VW.seq ?_
  refine VW.region ?_
  refine sG T_ok 1 [3] [] ⟨[(3, I a0)], []⟩ (tn 1) ?_
  obtain ⟨y1, hy, h⟩ := andO_some h
  refine cal false [.t (.int .i64)] [] (some 4) T_ok (ok64 N _ hy) ?_
  refine sN T_ok [2] [] ⟨[(2, S y1)], []⟩ (tn 1) ?_
  refine VW.ret ?_
  replace h := Option.some.inj h
  subst h
  exact rt []

/- loop.example/g00844/spec.l01Num -/
def F45_j0 (N : Nat) (x15 : ByteArray) (x16 : Bool) : Option (ByteArray) :=
  cond x16 (gd ((⟨#[45]⟩ : ByteArray).size + x15.size ≤ 9223372036854775807) (some ((⟨#[45]⟩ : ByteArray) ++ x15))) (some x15)
def F45_j1 (N : Nat) (nx30 : Int → ByteArray → Bool → Option (ByteArray)) (x24 : Int) (x25 : ByteArray) (x26 : Bool) (x31 : Int) : Option (ByteArray) :=
  gd ((strOfNums ([(IntKind.u8.wrap (IntKind.i64.wrap ((48 : Int) + x31)))])).size + x25.size ≤ 9223372036854775807) (nx30 (IntKind.i64.wrap (Int.tdiv x24 (10 : Int))) ((strOfNums ([(IntKind.u8.wrap (IntKind.i64.wrap ((48 : Int) + x31)))])) ++ x25) x26)
def F45_l0_b (N : Nat) (nx30 : Int → ByteArray → Bool → Option (ByteArray)) (x24 : Int) (x25 : ByteArray) (x26 : Bool) : Option (ByteArray) :=
  cond (x24 != (0 : Int)) (cond (decide ((Int.tmod x24 (10 : Int)) < (0 : Int))) (F45_j1 N nx30 x24 x25 x26 (IntKind.i64.wrap ((0 : Int) - (Int.tmod x24 (10 : Int))))) (F45_j1 N nx30 x24 x25 x26 (Int.tmod x24 (10 : Int)))) (F45_j0 N x25 x26)
def F45_l0 (N : Nat) : Nat → Int → ByteArray → Bool → Option (ByteArray) := loopF (F45_l0_b N) (fun _ _ _ => none)
theorem F45_l0_s (N : Nat) {k : Nat} (hk : 0 < k) (x24 : Int) (x25 : ByteArray) (x26 : Bool) : F45_l0 N k x24 x25 x26 = F45_l0_b N (F45_l0 N (k - 1)) x24 x25 x26 := by
  cases k with
  | zero => exact absurd hk (Nat.lt_irrefl 0)
  | succ m => rfl
def F45 (N : Nat) (a0 : Int) : Option (ByteArray) :=
  cond (a0 == (0 : Int)) (some (⟨#[48]⟩ : ByteArray)) (F45_l0 N N a0 ByteArray.empty (decide (a0 < (0 : Int))))
theorem ok45 (N : Nat) (a0 : Int) {r : ByteArray} (h : F45 N a0 = some r) : Con Go.Proofs.Tryd.prog 45 [I a0] [.lf (.v .str r)] := by
  refine ctr [.lf (.v .str)] T_ok Go.Proofs.Tryd.func45 rfl fun w0 E0 ht => ?_
  unfold F45 at h
  show VW _ _ _ _ _ (retQ _ _ _ _) _
  refine sR T_ok [0] [] ⟨[(0, I a0)], []⟩ (tn 1) ?_
  refine VW.seq ?_
  refine sR T_ok [0, 7] [] ⟨[(0, I a0), (7, B (a0 == (0 : Int)))], []⟩ (tn 2) ?_
  refine cnd h (fun h => ?_) (fun h => ?_)
  · refine sR T_ok [2] [] ⟨[(2, S (⟨#[48]⟩ : ByteArray))], []⟩ (tn 1) ?_
    refine VW.ret ?_
    replace h := Option.some.inj h
    subst h
    exact rt []
  refine VW.skip ?_
  refine sR T_ok [0, 3] [] ⟨[(0, I a0), (3, S ByteArray.empty)], []⟩ (tn 1) ?_
  refine sR T_ok [0, 3, 4] [] ⟨[(0, I a0), (3, S ByteArray.empty), (4, B (decide (a0 < (0 : Int))))], []⟩ (tn 3) ?_
  refine VW.join (fun s => ∃ (x15 : ByteArray) (x16 : Bool), s = ⟨[(3, S x15), (4, B x16)], []⟩ ∧ F45_j0 N x15 x16 = some r) ?_ ?_
  · refine VW.block ?_
    refine lop (fun k s => ∃ (x24 : Int) (x25 : ByteArray) (x26 : Bool), s = ⟨[(0, I x24), (3, S x25), (4, B x26)], []⟩ ∧ F45_l0 N k x24 x25 x26 = some r) N [.ren [0, 3, 4] []] ⟨a0, ByteArray.empty, (decide (a0 < (0 : Int))), rfl, h⟩ ?_
    rintro k30 s ⟨x24, x25, x26, rfl, h⟩
    cases k30 with
    | zero => cases show none = some r from h
    | succ k30 =>
      replace h : F45_l0_b N (F45_l0 N k30) x24 x25 x26 = some r := h
      unfold F45_l0_b at h
      refine VW.seq ?_
      refine sR T_ok [0, 3, 4, 11] [] ⟨[(0, I x24), (3, S x25), (4, B x26), (11, B (x24 != (0 : Int)))], []⟩ (tn 2) ?_
      refine cnd h (fun h => ?_) (fun h => ?_)
      · refine VW.skip ?_
        refine VW.block ?_
        refine sR T_ok [0, 3, 4, 5] [] ⟨[(0, I x24), (3, S x25), (4, B x26), (5, I (Int.tmod x24 (10 : Int)))], []⟩ (pu 1 (an (show ((10 : Int) ≠ 0) from by decide) (tn 1))) ?_
        refine VW.join (fun s => ∃ (x31 : Int), s = ⟨[(0, I x24), (3, S x25), (4, B x26), (5, I x31)], []⟩ ∧ F45_j1 N (F45_l0 N k30) x24 x25 x26 x31 = some r) ?_ ?_
        · refine sR T_ok [0, 3, 4, 5, 15] [] ⟨[(0, I x24), (3, S x25), (4, B x26), (5, I (Int.tmod x24 (10 : Int))), (15, B (decide ((Int.tmod x24 (10 : Int)) < (0 : Int))))], []⟩ (tn 2) ?_
          refine cnd h (fun h => ?_) (fun h => ?_)
          · refine rR T_ok [0, 3, 4, 5] [] ⟨[(0, I x24), (3, S x25), (4, B x26), (5, I (IntKind.i64.wrap ((0 : Int) - (Int.tmod x24 (10 : Int)))))], []⟩ (tn 3) ?_
            exact arv [.ren [0, 3, 4, 5] []] ⟨(IntKind.i64.wrap ((0 : Int) - (Int.tmod x24 (10 : Int)))), rfl, h⟩
          refine VW.skip ?_
          exact arv [.ren [0, 3, 4, 5] []] ⟨(Int.tmod x24 (10 : Int)), rfl, h⟩
        rintro s ⟨x31, rfl, h⟩
        unfold F45_j1 at h
        obtain ⟨g32, h⟩ := gd_some h
        refine sR T_ok [0, 3, 4] [] ⟨[(0, I x24), (3, S ((strOfNums ([(IntKind.u8.wrap (IntKind.i64.wrap ((48 : Int) + x31)))])) ++ x25)), (4, B x26)], []⟩ (pu 6 (an g32 (tn 1))) ?_
        refine rR T_ok [0, 3, 4] [] ⟨[(0, I (IntKind.i64.wrap (Int.tdiv x24 (10 : Int)))), (3, S ((strOfNums ([(IntKind.u8.wrap (IntKind.i64.wrap ((48 : Int) + x31)))])) ++ x25)), (4, B x26)], []⟩ (pu 1 (an (show ((10 : Int) ≠ 0) from by decide) (tn 1))) ?_
        exact aro [.ren [0, 3, 4] []] ⟨(IntKind.i64.wrap (Int.tdiv x24 (10 : Int))), ((strOfNums ([(IntKind.u8.wrap (IntKind.i64.wrap ((48 : Int) + x31)))])) ++ x25), x26, rfl, h⟩
      refine VW.exit ?_
      exact arv [.ren [3, 4] []] ⟨x25, x26, rfl, h⟩
  rintro s ⟨x15, x16, rfl, h⟩
  unfold F45_j0 at h
  refine VW.seq ?_
  refine sR T_ok [3, 27] [] ⟨[(3, S x15), (27, B x16)], []⟩ (tn 1) ?_
  refine cnd h (fun h => ?_) (fun h => ?_)
  · obtain ⟨g18, h⟩ := gd_some h
    refine sR T_ok [2] [] ⟨[(2, S ((⟨#[45]⟩ : ByteArray) ++ x15))], []⟩ (pu 1 (an g18 (tn 1))) ?_
    refine VW.ret ?_
    replace h := Option.some.inj h
    subst h
    exact rt []
  refine VW.skip ?_
  refine sR T_ok [2] [] ⟨[(2, S x15)], []⟩ (tn 2) ?_
  refine VW.ret ?_
  replace h := Option.some.inj h
  subst h
  exact rt []

/- loop.example/g00844/spec.StepText -/
def F17 (N : Nat) (a0 : (Int × Int)) : Option (ByteArray) :=
  andO (F45 N a0.1) fun y1 => gd (y1.size + (⟨#[64]⟩ : ByteArray).size ≤ 9223372036854775807) (andO (F45 N a0.2) fun y3 => gd ((y1 ++ (⟨#[64]⟩ : ByteArray)).size + y3.size ≤ 9223372036854775807) (some ((y1 ++ (⟨#[64]⟩ : ByteArray)) ++ y3)))
theorem ok17 (N : Nat) (a0 : (Int × Int)) {r : ByteArray} (h : F17 N a0 = some r) : Con Go.Proofs.Tryd.prog 17 [.agg [.v (.int .i64) a0.1, .v (.int .i64) a0.2]] [.lf (.v .str r)] := by
  refine ctr [.lf (.v .str)] T_ok Go.Proofs.Tryd.func17 rfl fun w0 E0 ht => ?_
  unfold F17 at h
  show VW _ _ _ _ _ (retQ _ _ _ _) _
  refine sR T_ok [1] [0] ⟨[(1, .lf (.ptr 0 0 0 0))], [bx [.v (.int .i64) a0.1, .v (.int .i64) a0.2] 39]⟩ (tn 2) ?_
  refine VW.seq ?_
  obtain ⟨y1, hy1, h⟩ := andO_some h
  obtain ⟨g2, h⟩ := gd_some h
  obtain ⟨y3, hy3, h⟩ := andO_some h
  obtain ⟨g4, h⟩ := gd_some h
  refine VW.drawn (by kernel_rfl) [some (3, .lf (.ptr 0 0 0 0)), some (4, I a0.1), some (5, S y1), some (6, S (y1 ++ (⟨#[64]⟩ : ByteArray))), some (7, .lf (.ptr 0 0 0 1)), some (8, I a0.2), some (9, S y3), some (10, S ((y1 ++ (⟨#[64]⟩ : ByteArray)) ++ y3)), some (2, S ((y1 ++ (⟨#[64]⟩ : ByteArray)) ++ y3))] [] [[bx [.v (.int .i64) a0.1, .v (.int .i64) a0.2] 39]] [(0, 0), (1, 0), (2, 0), (3, 0), (4, 0), (5, 0), (6, 0), (7, 0), (8, 0)] [2] [] (s' := ⟨[(2, S ((y1 ++ (⟨#[64]⟩ : ByteArray)) ++ y3))], []⟩) (by kernel_rfl) (by kernel_rfl) ⟨⟨_, rfl, Stp.ev T_ok (m := .dp) (φ := True) (by kernel_rfl) trivial⟩,
    ⟨_, rfl, Stp.ev T_ok (m := .dp) (φ := True) (by kernel_rfl) trivial⟩,
    ⟨_, rfl, Stp.eq (Stp.call false [.t (.int .i64)] [] T_ok (d := some 5) (by kernel_rfl) (ok45 N _ hy1) rfl) (by kernel_rfl) (by kernel_rfl)⟩,
    ⟨_, rfl, Stp.ev T_ok (m := .dp) (φ := y1.size + (⟨#[64]⟩ : ByteArray).size ≤ 9223372036854775807) (by kernel_rfl) g2⟩,
    ⟨_, rfl, Stp.ev T_ok (m := .dp) (φ := True) (by kernel_rfl) trivial⟩,
    ⟨_, rfl, Stp.ev T_ok (m := .dp) (φ := True) (by kernel_rfl) trivial⟩,
    ⟨_, rfl, Stp.eq (Stp.call false [.t (.int .i64)] [] T_ok (d := some 9) (by kernel_rfl) (ok45 N _ hy3) rfl) (by kernel_rfl) (by kernel_rfl)⟩,
    ⟨_, rfl, Stp.ev T_ok (m := .dp) (φ := (y1 ++ (⟨#[64]⟩ : ByteArray)).size + y3.size ≤ 9223372036854775807) (by kernel_rfl) g4⟩,
    ⟨_, rfl, Stp.ev T_ok (m := .dp) (φ := True) (by kernel_rfl) trivial⟩, trivial⟩ (by kernel_rfl) ?_
  refine VW.ret ?_
  replace h := Option.some.inj h
  subst h
  exact rt []

/- loop.example/g00844/laws.toStep -/
def F18 (N : Nat) (a0 : (Int × Int)) : Option ((Int × Int)) :=
  some a0
theorem ok18 (N : Nat) (a0 : (Int × Int)) {r : (Int × Int)} (h : F18 N a0 = some r) : Con Go.Proofs.Tryd.prog 18 [.agg [.v (.int .i64) a0.1, .v (.int .i64) a0.2]] [.agg [.v (.int .i64) r.1, .v (.int .i64) r.2]] := by
  refine ctr [.agg [.v (.int .i64), .v (.int .i64)]] T_ok Go.Proofs.Tryd.func18 rfl fun w0 E0 ht => ?_
  unfold F18 at h
  show VW _ _ _ _ _ (retQ _ _ _ _) _
  refine sR T_ok [1, 2] [0, 1] ⟨[(1, .lf (.ptr 0 0 0 0)), (2, .lf (.ptr 1 0 0 0))], [bx [.v (.int .i64) a0.1, .v (.int .i64) a0.2] 37, bx [.v (.int .i64) (0 : Int), .v (.int .i64) (0 : Int)] 39]⟩ (tn 2) ?_
  refine sR T_ok [1, 2, 3] [0, 1, 2] ⟨[(1, .lf (.ptr 0 0 0 0)), (2, .lf (.ptr 1 0 0 0)), (3, .lf (.ptr 2 0 0 0))], [bx [.v (.int .i64) a0.1, .v (.int .i64) a0.2] 37, bx [.v (.int .i64) (0 : Int), .v (.int .i64) (0 : Int)] 39, bx [.v (.int .i64) (0 : Int), .v (.int .i64) (0 : Int)] 39]⟩ (tn 1) ?_
  refine sR T_ok [1, 2, 3] [0, 1, 2] ⟨[(1, .lf (.ptr 0 0 0 0)), (2, .lf (.ptr 1 0 0 0)), (3, .lf (.ptr 2 0 0 0))], [bx [.v (.int .i64) a0.1, .v (.int .i64) a0.2] 37, bx [.v (.int .i64) (0 : Int), .v (.int .i64) (0 : Int)] 39, bx [.v (.int .i64) a0.1, .v (.int .i64) (0 : Int)] 39]⟩ (tn 4) ?_
  refine sR T_ok [2, 3] [1, 2] ⟨[(2, .lf (.ptr 0 0 0 0)), (3, .lf (.ptr 1 0 0 0))], [bx [.v (.int .i64) (0 : Int), .v (.int .i64) (0 : Int)] 39, bx [.v (.int .i64) a0.1, .v (.int .i64) a0.2] 39]⟩ (tn 4) ?_
  refine sR T_ok [2] [0] ⟨[(2, .lf (.ptr 0 0 0 0))], [bx [.v (.int .i64) a0.1, .v (.int .i64) a0.2] 39]⟩ (tn 2) ?_
  refine VW.ret ?_
  replace h := Option.some.inj h
  subst h
  exact rt []

/- loop.example/g00844/impl.StepText -/
def F19 (N : Nat) (a0 : (Int × Int)) : Option (ByteArray) :=
  andO (F42 N a0.1) fun y1 => gd (y1.size + (⟨#[64]⟩ : ByteArray).size ≤ 9223372036854775807) (andO (F42 N a0.2) fun y3 => gd ((y1 ++ (⟨#[64]⟩ : ByteArray)).size + y3.size ≤ 9223372036854775807) (some ((y1 ++ (⟨#[64]⟩ : ByteArray)) ++ y3)))
theorem ok19 (N : Nat) (a0 : (Int × Int)) {r : ByteArray} (h : F19 N a0 = some r) : Con Go.Proofs.Tryd.prog 19 [.agg [.v (.int .i64) a0.1, .v (.int .i64) a0.2]] [.lf (.v .str r)] := by
  refine ctr [.lf (.v .str)] T_ok Go.Proofs.Tryd.func19 rfl fun w0 E0 ht => ?_
  unfold F19 at h
  show VW _ _ _ _ _ (retQ _ _ _ _) _
  refine sR T_ok [1] [0] ⟨[(1, .lf (.ptr 0 0 0 0))], [bx [.v (.int .i64) a0.1, .v (.int .i64) a0.2] 39]⟩ (tn 2) ?_
  refine VW.seq ?_
  obtain ⟨y1, hy1, h⟩ := andO_some h
  obtain ⟨g2, h⟩ := gd_some h
  obtain ⟨y3, hy3, h⟩ := andO_some h
  obtain ⟨g4, h⟩ := gd_some h
  refine VW.drawn (by kernel_rfl) [some (3, .lf (.ptr 0 0 0 0)), some (4, I a0.1), some (5, S y1), some (6, S (y1 ++ (⟨#[64]⟩ : ByteArray))), some (7, .lf (.ptr 0 0 0 1)), some (8, I a0.2), some (9, S y3), some (10, S ((y1 ++ (⟨#[64]⟩ : ByteArray)) ++ y3)), some (2, S ((y1 ++ (⟨#[64]⟩ : ByteArray)) ++ y3))] [] [[bx [.v (.int .i64) a0.1, .v (.int .i64) a0.2] 39]] [(0, 0), (1, 0), (2, 0), (3, 0), (4, 0), (5, 0), (6, 0), (7, 0), (8, 0)] [2] [] (s' := ⟨[(2, S ((y1 ++ (⟨#[64]⟩ : ByteArray)) ++ y3))], []⟩) (by kernel_rfl) (by kernel_rfl) ⟨⟨_, rfl, Stp.ev T_ok (m := .dp) (φ := True) (by kernel_rfl) trivial⟩,
    ⟨_, rfl, Stp.ev T_ok (m := .dp) (φ := True) (by kernel_rfl) trivial⟩,
    ⟨_, rfl, Stp.eq (Stp.call false [.t (.int .i64)] [] T_ok (d := some 5) (by kernel_rfl) (ok42 N _ hy1) rfl) (by kernel_rfl) (by kernel_rfl)⟩,
    ⟨_, rfl, Stp.ev T_ok (m := .dp) (φ := y1.size + (⟨#[64]⟩ : ByteArray).size ≤ 9223372036854775807) (by kernel_rfl) g2⟩,
    ⟨_, rfl, Stp.ev T_ok (m := .dp) (φ := True) (by kernel_rfl) trivial⟩,
    ⟨_, rfl, Stp.ev T_ok (m := .dp) (φ := True) (by kernel_rfl) trivial⟩,
    ⟨_, rfl, Stp.eq (Stp.call false [.t (.int .i64)] [] T_ok (d := some 9) (by kernel_rfl) (ok42 N _ hy3) rfl) (by kernel_rfl) (by kernel_rfl)⟩,
    ⟨_, rfl, Stp.ev T_ok (m := .dp) (φ := (y1 ++ (⟨#[64]⟩ : ByteArray)).size + y3.size ≤ 9223372036854775807) (by kernel_rfl) g4⟩,
    ⟨_, rfl, Stp.ev T_ok (m := .dp) (φ := True) (by kernel_rfl) trivial⟩, trivial⟩ (by kernel_rfl) ?_
  refine VW.ret ?_
  replace h := Option.some.inj h
  subst h
  exact rt []

/- loop.example/g00844/laws.FnExactStepText -/
def F4 (N : Nat) (a0 : (Int × Int)) : Option (Bool) :=
  andO (F18 N a0) fun y1 => andO (F17 N y1) fun y2 => andO (F18 N a0) fun y3 => andO (F19 N y3) fun y4 => cond (!(y4.toList == y2.toList)) (some false) (some true)
theorem ok4 (N : Nat) (a0 : (Int × Int)) {r : Bool} (h : F4 N a0 = some r) : Con Go.Proofs.Tryd.prog 4 [.agg [.v (.int .i64) a0.1, .v (.int .i64) a0.2]] [.lf (.v .bool r)] := by
  refine ctr [.lf (.v .bool)] T_ok Go.Proofs.Tryd.func4 rfl fun w0 E0 ht => ?_
  unfold F4 at h
  show VW _ _ _ _ _ (retQ _ _ _ _) _
  refine sR T_ok [1] [0] ⟨[(1, .lf (.ptr 0 0 0 0))], [bx [.v (.int .i64) a0.1, .v (.int .i64) a0.2] 37]⟩ (tn 2) ?_
  refine VW.seq ?_
  refine VW.region ?_
  refine sG T_ok 1 [1, 5] [0] ⟨[(1, .lf (.ptr 0 0 0 0)), (5, .agg [.v (.int .i64) a0.1, .v (.int .i64) a0.2])], [bx [.v (.int .i64) a0.1, .v (.int .i64) a0.2] 37]⟩ (tn 1) ?_
  obtain ⟨y1, hy, h⟩ := andO_some h
  refine cal false [.t Y36] [] (some 6) T_ok (ok18 N _ hy) ?_
  obtain ⟨y2, hy, h⟩ := andO_some h
  refine cal false [.t Y36] [] (some 7) T_ok (ok17 N _ hy) ?_
  refine sN T_ok [1, 3] [0] ⟨[(1, .lf (.ptr 0 0 0 0)), (3, S y2)], [bx [.v (.int .i64) a0.1, .v (.int .i64) a0.2] 37]⟩ (tn 1) ?_
  refine VW.seq ?_
  refine VW.region ?_
  refine sG T_ok 1 [3, 8] [] ⟨[(3, S y2), (8, .agg [.v (.int .i64) a0.1, .v (.int .i64) a0.2])], []⟩ (tn 1) ?_
  obtain ⟨y3, hy, h⟩ := andO_some h
  refine cal false [.t Y36] [] (some 9) T_ok (ok18 N _ hy) ?_
  obtain ⟨y4, hy, h⟩ := andO_some h
  refine cal false [.t Y36] [] (some 10) T_ok (ok19 N _ hy) ?_
  refine sN T_ok [3, 4] [] ⟨[(3, S y2), (4, S y4)], []⟩ (tn 1) ?_
  refine VW.seq ?_
  refine sR T_ok [13] [] ⟨[(13, B (!(y4.toList == y2.toList)))], []⟩ (tn 3) ?_
  refine cnd h (fun h => ?_) (fun h => ?_)
  · refine sR T_ok [2] [] ⟨[(2, B false)], []⟩ (tn 1) ?_
    refine VW.ret ?_
    replace h := Option.some.inj h
    subst h
    exact rt []
  refine VW.skip ?_
  refine sR T_ok [2] [] ⟨[(2, B true)], []⟩ (tn 1) ?_
  refine VW.ret ?_
  replace h := Option.some.inj h
  subst h
  exact rt []

end Go.Proofs.YtgpddckjpokclaaDoor.Vc
