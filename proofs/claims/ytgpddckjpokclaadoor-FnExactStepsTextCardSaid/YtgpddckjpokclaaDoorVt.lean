/- What functions of the program compute, and that they do. -/
import Derived.Test.YtgpddckjpokclaaDoorProg
import Derived.Test.YtgpddckjpokclaaDoorVd1
import Derived.Test.YtgpddckjpokclaaDoorShelf
namespace Go.Proofs.YtgpddckjpokclaaDoor.Vc
open Go Go.RowKit
set_option linter.unusedVariables false
set_option maxRecDepth 100000
set_option maxHeartbeats 4000000
abbrev Y7 : Ty := .pair (.int .i64) (.pair (.int .i64) (.pair .bool (.int .u8)))
abbrev Y13 : Ty := .pair .str (.int .u64)
abbrev Y27 : Ty := .pair (.int .i64) (.pair (.sl (.int .i64)) (.sl (.int .i64)))
abbrev Y36 : Ty := .pair (.int .i64) (.int .i64)
abbrev Y74 : Ty := .pair (.sl (.int .u8)) Y36
def TL : List (Nat × TI) := [(2, { ty := (.int .i64) }),
  (3, { ty := (.int .i64) }),
  (4, { ty := .bool }),
  (5, { ty := (.int .u8) }),
  (6, { ty := (.int .u8) }),
  (7, { ty := Y7, offs := [0, 1, 2, 3], szs := [1, 1, 1, 1] }),
  (8, { ty := Y7, offs := [0, 1, 2, 3], szs := [1, 1, 1, 1] }),
  (9, { ty := .str }),
  (10, { ty := .str }),
  (11, { ty := .str }),
  (12, { ty := (.int .u64) }),
  (13, { ty := Y13, offs := [0, 1], szs := [1, 1] }),
  (14, { ty := Y13, offs := [0, 1], szs := [1, 1] }),
  (21, { ty := (.int .i32) }),
  (22, { ty := (.sl (.int .u8)), elem := 5 }),
  (24, { ty := (.sl (.int .i64)), elem := 3 }),
  (27, { ty := Y27, offs := [0, 1, 2], szs := [1, 1, 1] }),
  (28, { ty := Y27, offs := [0, 1, 2], szs := [1, 1, 1] }),
  (36, { ty := Y36, offs := [0, 1], szs := [1, 1] }),
  (37, { ty := Y36, offs := [0, 1], szs := [1, 1] }),
  (39, { ty := Y36, offs := [0, 1], szs := [1, 1] }),
  (42, { ty := (.sl Y36), elem := 37 }),
  (45, { ty := (.sl Y36), elem := 39 }),
  (49, { ty := Y27, offs := [0, 1, 2], szs := [1, 1, 1] }),
  (67, { ty := (.sl .str), elem := 9 }),
  (74, { ty := Y74, offs := [0, 1, 2], szs := [1, 1, 1] }),
  (75, { ty := Y74, offs := [0, 1, 2], szs := [1, 1, 1] }),
  (85, { ty := (.int .u64) }),
  (99, { ty := (.int .u64) }),
  (109, { ty := (.int .u32) }),
  (121, { ty := (.int .u8) }),
  (122, { ty := (.int .u8) }),
  (124, { ty := (.int .i32) }),
  (125, { ty := (.int .i32) })]
abbrev T : Tab := lookT TL
theorem T_ok : TabOk Go.Proofs.Tryd.prog T := tabOk_of TL (by kernel_rfl)
theorem T_rec : RecOk Go.Proofs.Tryd.prog T := recOk_of TL (by kernel_rfl)
/- strconv.Itoa: proved of any program that bears it -/
def F64 (N : Nat) (a0 : Int) : Option (ByteArray) :=
  gd (-9223372036854775808 ≤ a0 ∧ a0 ≤ 9223372036854775807) (some ⟨(Lib.itoa a0).toArray⟩)
theorem ok64 (N : Nat) (a0 : Int) {r : ByteArray} (h : F64 N a0 = some r) : Con Go.Proofs.Tryd.prog 64 [I a0] [.lf (.v .str r)] := by
  obtain ⟨g, h⟩ := gd_some h
  cases h
  exact con_itoa (g := 0) (by kernel_rfl) (enters_of Go.Proofs.Tryd.func64 rfl (by decide)) (fun w ht => Go.Proofs.Tryd.strconv_Itoa a0 g.1 g.2 w ht)

/- loop.example/g00844/impl.number -/
def F42 (N : Nat) (a0 : Int) : Option (ByteArray) :=
  andO (F64 N a0) fun y1 => some y1
theorem ok42 (N : Nat) (a0 : Int) {r : ByteArray} (h : F42 N a0 = some r) : Con Go.Proofs.Tryd.prog 42 [I a0] [.lf (.v .str r)] := by
  refine ctr [.lf (.v .str)] T_ok Go.Proofs.Tryd.func42 rfl fun w0 E0 ht => ?_
  unfold F42 at h
  show VW _ _ _ _ _ (retQ _ _ _ _) _
  refine sR T_ok [0] [] ⟨[(0, I a0)], []⟩ (tn 1) ?_
  refine VW.seq ?_
  refine VW.region ?_
  refine sG T_ok 1 [3] [] ⟨[(3, I a0)], []⟩ (tn 1) ?_
  obtain ⟨y1, hy, h⟩ := andO_some h
  refine cal false [.t (.int .i64)] [] (some 4) T_ok (ok64 N _ hy) ?_
  refine sN T_ok [2] [] ⟨[(2, S y1)], []⟩ (tn 1) ?_
  refine VW.ret ?_
  replace h := Option.some.inj h
  subst h
  exact rt []

/- strings.Join: proved of any program that bears it -/
def F65 (N : Nat) (a0 : (List ByteArray)) (a1 : ByteArray) : Option (ByteArray) :=
  gd (a0.length ≤ 140737488355328 ∧ (Lib.join (a0.map (·.data.toList)) a1.data.toList).length ≤ 140737488355328) (some ⟨(Lib.join (a0.map (·.data.toList)) a1.data.toList).toArray⟩)
theorem ok65 (N : Nat) (a0 : (List ByteArray)) (a1 : ByteArray) {r : ByteArray} (h : F65 N a0 a1 = some r) : Con Go.Proofs.Tryd.prog 65 [.lf (.v (.sl .str) a0), S a1] [.lf (.v .str r)] := by
  obtain ⟨g, h⟩ := gd_some h
  cases h
  exact con_join (enters_of Go.Proofs.Tryd.func65 rfl (by decide)) g.1 g.2 (fun a c w => Go.Proofs.Tryd.strings_Join_none a c a1 w) (fun bk o c w h1 h2 h3 => Go.Proofs.Tryd.strings_Join bk o c a0 a1 w h1 h2 g.1 h3 g.2)

/- loop.example/g00844/impl.spaced -/
def F43 (N : Nat) (a0 : (List ByteArray)) : Option (ByteArray) :=
  andO (F65 N a0 (⟨#[32]⟩ : ByteArray)) fun y1 => some y1
theorem ok43 (N : Nat) (a0 : (List ByteArray)) {r : ByteArray} (h : F43 N a0 = some r) : Con Go.Proofs.Tryd.prog 43 [.lf (.v (.sl .str) a0)] [.lf (.v .str r)] := by
  refine ctr [.lf (.v .str)] T_ok Go.Proofs.Tryd.func43 rfl fun w0 E0 ht => ?_
  unfold F43 at h
  show VW _ _ _ _ _ (retQ _ _ _ _) _
  refine sR T_ok [0] [] ⟨[(0, .lf (.v (.sl .str) a0))], []⟩ (tn 1) ?_
  refine VW.seq ?_
  refine VW.region ?_
  refine sG T_ok 1 [3] [] ⟨[(3, .lf (.v (.sl .str) a0))], []⟩ (tn 1) ?_
  obtain ⟨y1, hy, h⟩ := andO_some h
  refine cal false [.t (.sl .str), .t .str] [] (some 4) T_ok (ok65 N _ _ hy) ?_
  refine sN T_ok [2] [] ⟨[(2, S y1)], []⟩ (tn 1) ?_
  refine VW.ret ?_
  replace h := Option.some.inj h
  subst h
  exact rt []

/- loop.example/g00844/spec.l01Num -/
def F45_j0 (N : Nat) (x15 : ByteArray) (x16 : Bool) : Option (ByteArray) :=
  cond x16 (gd ((⟨#[45]⟩ : ByteArray).size + x15.size ≤ 9223372036854775807) (some ((⟨#[45]⟩ : ByteArray) ++ x15))) (some x15)
def F45_j1 (N : Nat) (nx30 : Int → ByteArray → Bool → Option (ByteArray)) (x24 : Int) (x25 : ByteArray) (x26 : Bool) (x31 : Int) : Option (ByteArray) :=
  gd ((strOfNums ([(IntKind.u8.wrap (IntKind.i64.wrap ((48 : Int) + x31)))])).size + x25.size ≤ 9223372036854775807) (nx30 (IntKind.i64.wrap (Int.tdiv x24 (10 : Int))) ((strOfNums ([(IntKind.u8.wrap (IntKind.i64.wrap ((48 : Int) + x31)))])) ++ x25) x26)
def F45_l0_b (N : Nat) (nx30 : Int → ByteArray → Bool → Option (ByteArray)) (x24 : Int) (x25 : ByteArray) (x26 : Bool) : Option (ByteArray) :=
  cond (x24 != (0 : Int)) (cond (decide ((Int.tmod x24 (10 : Int)) < (0 : Int))) (F45_j1 N nx30 x24 x25 x26 (IntKind.i64.wrap ((0 : Int) - (Int.tmod x24 (10 : Int))))) (F45_j1 N nx30 x24 x25 x26 (Int.tmod x24 (10 : Int)))) (F45_j0 N x25 x26)
def F45_l0 (N : Nat) : Nat → Int → ByteArray → Bool → Option (ByteArray) := loopF (F45_l0_b N) (fun _ _ _ => none)
theorem F45_l0_s (N : Nat) {k : Nat} (hk : 0 < k) (x24 : Int) (x25 : ByteArray) (x26 : Bool) : F45_l0 N k x24 x25 x26 = F45_l0_b N (F45_l0 N (k - 1)) x24 x25 x26 := by
  cases k with
  | zero => exact absurd hk (Nat.lt_irrefl 0)
  | succ m => rfl
def F45 (N : Nat) (a0 : Int) : Option (ByteArray) :=
  cond (a0 == (0 : Int)) (some (⟨#[48]⟩ : ByteArray)) (F45_l0 N N a0 ByteArray.empty (decide (a0 < (0 : Int))))
theorem ok45 (N : Nat) (a0 : Int) {r : ByteArray} (h : F45 N a0 = some r) : Con Go.Proofs.Tryd.prog 45 [I a0] [.lf (.v .str r)] := by
  refine ctr [.lf (.v .str)] T_ok Go.Proofs.Tryd.func45 rfl fun w0 E0 ht => ?_
  unfold F45 at h
  show VW _ _ _ _ _ (retQ _ _ _ _) _
  refine sR T_ok [0] [] ⟨[(0, I a0)], []⟩ (tn 1) ?_
  refine VW.seq ?_
  refine sR T_ok [0, 7] [] ⟨[(0, I a0), (7, B (a0 == (0 : Int)))], []⟩ (tn 2) ?_
  refine cnd h (fun h => ?_) (fun h => ?_)
  · refine sR T_ok [2] [] ⟨[(2, S (⟨#[48]⟩ : ByteArray))], []⟩ (tn 1) ?_
    refine VW.ret ?_
    replace h := Option.some.inj h
    subst h
    exact rt []
  refine VW.skip ?_
  refine sR T_ok [0, 3] [] ⟨[(0, I a0), (3, S ByteArray.empty)], []⟩ (tn 1) ?_
  refine sR T_ok [0, 3, 4] [] ⟨[(0, I a0), (3, S ByteArray.empty), (4, B (decide (a0 < (0 : Int))))], []⟩ (tn 3) ?_
  refine VW.join (fun s => ∃ (x15 : ByteArray) (x16 : Bool), s = ⟨[(3, S x15), (4, B x16)], []⟩ ∧ F45_j0 N x15 x16 = some r) ?_ ?_
  · refine VW.block ?_
    refine lop (fun k s => ∃ (x24 : Int) (x25 : ByteArray) (x26 : Bool), s = ⟨[(0, I x24), (3, S x25), (4, B x26)], []⟩ ∧ F45_l0 N k x24 x25 x26 = some r) N [.ren [0, 3, 4] []] ⟨a0, ByteArray.empty, (decide (a0 < (0 : Int))), rfl, h⟩ ?_
    rintro k30 s ⟨x24, x25, x26, rfl, h⟩
    cases k30 with
    | zero => cases show none = some r from h
    | succ k30 =>
      replace h : F45_l0_b N (F45_l0 N k30) x24 x25 x26 = some r := h
      unfold F45_l0_b at h
      refine VW.seq ?_
      refine sR T_ok [0, 3, 4, 11] [] ⟨[(0, I x24), (3, S x25), (4, B x26), (11, B (x24 != (0 : Int)))], []⟩ (tn 2) ?_
      refine cnd h (fun h => ?_) (fun h => ?_)
      · refine VW.skip ?_
        refine VW.block ?_
        refine sR T_ok [0, 3, 4, 5] [] ⟨[(0, I x24), (3, S x25), (4, B x26), (5, I (Int.tmod x24 (10 : Int)))], []⟩ (pu 1 (an (show ((10 : Int) ≠ 0) from by decide) (tn 1))) ?_
        refine VW.join (fun s => ∃ (x31 : Int), s = ⟨[(0, I x24), (3, S x25), (4, B x26), (5, I x31)], []⟩ ∧ F45_j1 N (F45_l0 N k30) x24 x25 x26 x31 = some r) ?_ ?_
        · refine sR T_ok [0, 3, 4, 5, 15] [] ⟨[(0, I x24), (3, S x25), (4, B x26), (5, I (Int.tmod x24 (10 : Int))), (15, B (decide ((Int.tmod x24 (10 : Int)) < (0 : Int))))], []⟩ (tn 2) ?_
          refine cnd h (fun h => ?_) (fun h => ?_)
          · refine rR T_ok [0, 3, 4, 5] [] ⟨[(0, I x24), (3, S x25), (4, B x26), (5, I (IntKind.i64.wrap ((0 : Int) - (Int.tmod x24 (10 : Int)))))], []⟩ (tn 3) ?_
            exact arv [.ren [0, 3, 4, 5] []] ⟨(IntKind.i64.wrap ((0 : Int) - (Int.tmod x24 (10 : Int)))), rfl, h⟩
          refine VW.skip ?_
          exact arv [.ren [0, 3, 4, 5] []] ⟨(Int.tmod x24 (10 : Int)), rfl, h⟩
        rintro s ⟨x31, rfl, h⟩
        unfold F45_j1 at h
        obtain ⟨g32, h⟩ := gd_some h
        refine sR T_ok [0, 3, 4] [] ⟨[(0, I x24), (3, S ((strOfNums ([(IntKind.u8.wrap (IntKind.i64.wrap ((48 : Int) + x31)))])) ++ x25)), (4, B x26)], []⟩ (pu 6 (an g32 (tn 1))) ?_
        refine rR T_ok [0, 3, 4] [] ⟨[(0, I (IntKind.i64.wrap (Int.tdiv x24 (10 : Int)))), (3, S ((strOfNums ([(IntKind.u8.wrap (IntKind.i64.wrap ((48 : Int) + x31)))])) ++ x25)), (4, B x26)], []⟩ (pu 1 (an (show ((10 : Int) ≠ 0) from by decide) (tn 1))) ?_
        exact aro [.ren [0, 3, 4] []] ⟨(IntKind.i64.wrap (Int.tdiv x24 (10 : Int))), ((strOfNums ([(IntKind.u8.wrap (IntKind.i64.wrap ((48 : Int) + x31)))])) ++ x25), x26, rfl, h⟩
      refine VW.exit ?_
      exact arv [.ren [3, 4] []] ⟨x25, x26, rfl, h⟩
  rintro s ⟨x15, x16, rfl, h⟩
  unfold F45_j0 at h
  refine VW.seq ?_
  refine sR T_ok [3, 27] [] ⟨[(3, S x15), (27, B x16)], []⟩ (tn 1) ?_
  refine cnd h (fun h => ?_) (fun h => ?_)
  · obtain ⟨g18, h⟩ := gd_some h
    refine sR T_ok [2] [] ⟨[(2, S ((⟨#[45]⟩ : ByteArray) ++ x15))], []⟩ (pu 1 (an g18 (tn 1))) ?_
    refine VW.ret ?_
    replace h := Option.some.inj h
    subst h
    exact rt []
  refine VW.skip ?_
  refine sR T_ok [2] [] ⟨[(2, S x15)], []⟩ (tn 2) ?_
  refine VW.ret ?_
  replace h := Option.some.inj h
  subst h
  exact rt []

/- loop.example/g00844/spec.StepText -/
def F17 (N : Nat) (a0 : (Int × Int)) : Option (ByteArray) :=
  andO (F45 N a0.1) fun y1 => gd (y1.size + (⟨#[64]⟩ : ByteArray).size ≤ 9223372036854775807) (andO (F45 N a0.2) fun y3 => gd ((y1 ++ (⟨#[64]⟩ : ByteArray)).size + y3.size ≤ 9223372036854775807) (some ((y1 ++ (⟨#[64]⟩ : ByteArray)) ++ y3)))
theorem ok17 (N : Nat) (a0 : (Int × Int)) {r : ByteArray} (h : F17 N a0 = some r) : Con Go.Proofs.Tryd.prog 17 [.agg [.v (.int .i64) a0.1, .v (.int .i64) a0.2]] [.lf (.v .str r)] := by
  refine ctr [.lf (.v .str)] T_ok Go.Proofs.Tryd.func17 rfl fun w0 E0 ht => ?_
  unfold F17 at h
  show VW _ _ _ _ _ (retQ _ _ _ _) _
  refine sR T_ok [1] [0] ⟨[(1, .lf (.ptr 0 0 0 0))], [bx [.v (.int .i64) a0.1, .v (.int .i64) a0.2] 39]⟩ (tn 2) ?_
  refine VW.seq ?_
  obtain ⟨y1, hy1, h⟩ := andO_some h
  obtain ⟨g2, h⟩ := gd_some h
  obtain ⟨y3, hy3, h⟩ := andO_some h
  obtain ⟨g4, h⟩ := gd_some h
  refine VW.drawn (by kernel_rfl) [some (3, .lf (.ptr 0 0 0 0)), some (4, I a0.1), some (5, S y1), some (6, S (y1 ++ (⟨#[64]⟩ : ByteArray))), some (7, .lf (.ptr 0 0 0 1)), some (8, I a0.2), some (9, S y3), some (10, S ((y1 ++ (⟨#[64]⟩ : ByteArray)) ++ y3)), some (2, S ((y1 ++ (⟨#[64]⟩ : ByteArray)) ++ y3))] [] [[bx [.v (.int .i64) a0.1, .v (.int .i64) a0.2] 39]] [(0, 0), (1, 0), (2, 0), (3, 0), (4, 0), (5, 0), (6, 0), (7, 0), (8, 0)] [2] [] (s' := ⟨[(2, S ((y1 ++ (⟨#[64]⟩ : ByteArray)) ++ y3))], []⟩) (by kernel_rfl) (by kernel_rfl) ⟨⟨_, rfl, Stp.ev T_ok (m := .dp) (φ := True) (by kernel_rfl) trivial⟩,
    ⟨_, rfl, Stp.ev T_ok (m := .dp) (φ := True) (by kernel_rfl) trivial⟩,
    ⟨_, rfl, Stp.eq (Stp.call false [.t (.int .i64)] [] T_ok (d := some 5) (by kernel_rfl) (ok45 N _ hy1) rfl) (by kernel_rfl) (by kernel_rfl)⟩,
    ⟨_, rfl, Stp.ev T_ok (m := .dp) (φ := y1.size + (⟨#[64]⟩ : ByteArray).size ≤ 9223372036854775807) (by kernel_rfl) g2⟩,
    ⟨_, rfl, Stp.ev T_ok (m := .dp) (φ := True) (by kernel_rfl) trivial⟩,
    ⟨_, rfl, Stp.ev T_ok (m := .dp) (φ := True) (by kernel_rfl) trivial⟩,
    ⟨_, rfl, Stp.eq (Stp.call false [.t (.int .i64)] [] T_ok (d := some 9) (by kernel_rfl) (ok45 N _ hy3) rfl) (by kernel_rfl) (by kernel_rfl)⟩,
    ⟨_, rfl, Stp.ev T_ok (m := .dp) (φ := (y1 ++ (⟨#[64]⟩ : ByteArray)).size + y3.size ≤ 9223372036854775807) (by kernel_rfl) g4⟩,
    ⟨_, rfl, Stp.ev T_ok (m := .dp) (φ := True) (by kernel_rfl) trivial⟩, trivial⟩ (by kernel_rfl) ?_
  refine VW.ret ?_
  replace h := Option.some.inj h
  subst h
  exact rt []

/- loop.example/g00844/laws.toStep -/
def F18 (N : Nat) (a0 : (Int × Int)) : Option ((Int × Int)) :=
  some a0
theorem ok18 (N : Nat) (a0 : (Int × Int)) {r : (Int × Int)} (h : F18 N a0 = some r) : Con Go.Proofs.Tryd.prog 18 [.agg [.v (.int .i64) a0.1, .v (.int .i64) a0.2]] [.agg [.v (.int .i64) r.1, .v (.int .i64) r.2]] := by
  refine ctr [.agg [.v (.int .i64), .v (.int .i64)]] T_ok Go.Proofs.Tryd.func18 rfl fun w0 E0 ht => ?_
  unfold F18 at h
  show VW _ _ _ _ _ (retQ _ _ _ _) _
  refine sR T_ok [1, 2] [0, 1] ⟨[(1, .lf (.ptr 0 0 0 0)), (2, .lf (.ptr 1 0 0 0))], [bx [.v (.int .i64) a0.1, .v (.int .i64) a0.2] 37, bx [.v (.int .i64) (0 : Int), .v (.int .i64) (0 : Int)] 39]⟩ (tn 2) ?_
  refine sR T_ok [1, 2, 3] [0, 1, 2] ⟨[(1, .lf (.ptr 0 0 0 0)), (2, .lf (.ptr 1 0 0 0)), (3, .lf (.ptr 2 0 0 0))], [bx [.v (.int .i64) a0.1, .v (.int .i64) a0.2] 37, bx [.v (.int .i64) (0 : Int), .v (.int .i64) (0 : Int)] 39, bx [.v (.int .i64) (0 : Int), .v (.int .i64) (0 : Int)] 39]⟩ (tn 1) ?_
  refine sR T_ok [1, 2, 3] [0, 1, 2] ⟨[(1, .lf (.ptr 0 0 0 0)), (2, .lf (.ptr 1 0 0 0)), (3, .lf (.ptr 2 0 0 0))], [bx [.v (.int .i64) a0.1, .v (.int .i64) a0.2] 37, bx [.v (.int .i64) (0 : Int), .v (.int .i64) (0 : Int)] 39, bx [.v (.int .i64) a0.1, .v (.int .i64) (0 : Int)] 39]⟩ (tn 4) ?_
  refine sR T_ok [2, 3] [1, 2] ⟨[(2, .lf (.ptr 0 0 0 0)), (3, .lf (.ptr 1 0 0 0))], [bx [.v (.int .i64) (0 : Int), .v (.int .i64) (0 : Int)] 39, bx [.v (.int .i64) a0.1, .v (.int .i64) a0.2] 39]⟩ (tn 4) ?_
  refine sR T_ok [2] [0] ⟨[(2, .lf (.ptr 0 0 0 0))], [bx [.v (.int .i64) a0.1, .v (.int .i64) a0.2] 39]⟩ (tn 2) ?_
  refine VW.ret ?_
  replace h := Option.some.inj h
  subst h
  exact rt []

/- loop.example/g00844/impl.StepText -/
def F19 (N : Nat) (a0 : (Int × Int)) : Option (ByteArray) :=
  andO (F42 N a0.1) fun y1 => gd (y1.size + (⟨#[64]⟩ : ByteArray).size ≤ 9223372036854775807) (andO (F42 N a0.2) fun y3 => gd ((y1 ++ (⟨#[64]⟩ : ByteArray)).size + y3.size ≤ 9223372036854775807) (some ((y1 ++ (⟨#[64]⟩ : ByteArray)) ++ y3)))
theorem ok19 (N : Nat) (a0 : (Int × Int)) {r : ByteArray} (h : F19 N a0 = some r) : Con Go.Proofs.Tryd.prog 19 [.agg [.v (.int .i64) a0.1, .v (.int .i64) a0.2]] [.lf (.v .str r)] := by
  refine ctr [.lf (.v .str)] T_ok Go.Proofs.Tryd.func19 rfl fun w0 E0 ht => ?_
  unfold F19 at h
  show VW _ _ _ _ _ (retQ _ _ _ _) _
  refine sR T_ok [1] [0] ⟨[(1, .lf (.ptr 0 0 0 0))], [bx [.v (.int .i64) a0.1, .v (.int .i64) a0.2] 39]⟩ (tn 2) ?_
  refine VW.seq ?_
  obtain ⟨y1, hy1, h⟩ := andO_some h
  obtain ⟨g2, h⟩ := gd_some h
  obtain ⟨y3, hy3, h⟩ := andO_some h
  obtain ⟨g4, h⟩ := gd_some h
  refine VW.drawn (by kernel_rfl) [some (3, .lf (.ptr 0 0 0 0)), some (4, I a0.1), some (5, S y1), some (6, S (y1 ++ (⟨#[64]⟩ : ByteArray))), some (7, .lf (.ptr 0 0 0 1)), some (8, I a0.2), some (9, S y3), some (10, S ((y1 ++ (⟨#[64]⟩ : ByteArray)) ++ y3)), some (2, S ((y1 ++ (⟨#[64]⟩ : ByteArray)) ++ y3))] [] [[bx [.v (.int .i64) a0.1, .v (.int .i64) a0.2] 39]] [(0, 0), (1, 0), (2, 0), (3, 0), (4, 0), (5, 0), (6, 0), (7, 0), (8, 0)] [2] [] (s' := ⟨[(2, S ((y1 ++ (⟨#[64]⟩ : ByteArray)) ++ y3))], []⟩) (by kernel_rfl) (by kernel_rfl) ⟨⟨_, rfl, Stp.ev T_ok (m := .dp) (φ := True) (by kernel_rfl) trivial⟩,
    ⟨_, rfl, Stp.ev T_ok (m := .dp) (φ := True) (by kernel_rfl) trivial⟩,
    ⟨_, rfl, Stp.eq (Stp.call false [.t (.int .i64)] [] T_ok (d := some 5) (by kernel_rfl) (ok42 N _ hy1) rfl) (by kernel_rfl) (by kernel_rfl)⟩,
    ⟨_, rfl, Stp.ev T_ok (m := .dp) (φ := y1.size + (⟨#[64]⟩ : ByteArray).size ≤ 9223372036854775807) (by kernel_rfl) g2⟩,
    ⟨_, rfl, Stp.ev T_ok (m := .dp) (φ := True) (by kernel_rfl) trivial⟩,
    ⟨_, rfl, Stp.ev T_ok (m := .dp) (φ := True) (by kernel_rfl) trivial⟩,
    ⟨_, rfl, Stp.eq (Stp.call false [.t (.int .i64)] [] T_ok (d := some 9) (by kernel_rfl) (ok42 N _ hy3) rfl) (by kernel_rfl) (by kernel_rfl)⟩,
    ⟨_, rfl, Stp.ev T_ok (m := .dp) (φ := (y1 ++ (⟨#[64]⟩ : ByteArray)).size + y3.size ≤ 9223372036854775807) (by kernel_rfl) g4⟩,
    ⟨_, rfl, Stp.ev T_ok (m := .dp) (φ := True) (by kernel_rfl) trivial⟩, trivial⟩ (by kernel_rfl) ?_
  refine VW.ret ?_
  replace h := Option.some.inj h
  subst h
  exact rt []

/- loop.example/g00844/laws.szStepS -/
def F20 (N : Nat) (a0 : (List (Int × Int))) (a1 : Int) : Option (Int) :=
  cond (decide ((IntKind.i64.wrap (a1 - (a0.length : Int))) < (0 : Int))) (some (-1 : Int)) (some (IntKind.i64.wrap (a1 - (a0.length : Int))))
theorem ok20 (N : Nat) (a0 : (List (Int × Int))) (a1 : Int) {r : Int} (h : F20 N a0 a1 = some r) : Con Go.Proofs.Tryd.prog 20 [.lf (.v (.sl Y36) a0), I a1] [.lf (.v (.int .i64) r)] := by
  refine ctr [.lf (.v (.int .i64))] T_ok Go.Proofs.Tryd.func20 rfl fun w0 E0 ht => ?_
  unfold F20 at h
  show VW _ _ _ _ _ (retQ _ _ _ _) _
  refine sR T_ok [0, 1] [] ⟨[(0, .lf (.v (.sl Y36) a0)), (1, I a1)], []⟩ (tn 1) ?_
  refine sR T_ok [1] [] ⟨[(1, I (IntKind.i64.wrap (a1 - (a0.length : Int))))], []⟩ (tn 5) ?_
  refine VW.seq ?_
  refine sR T_ok [1, 10] [] ⟨[(1, I (IntKind.i64.wrap (a1 - (a0.length : Int)))), (10, B (decide ((IntKind.i64.wrap (a1 - (a0.length : Int))) < (0 : Int))))], []⟩ (tn 2) ?_
  refine cnd h (fun h => ?_) (fun h => ?_)
  · refine sR T_ok [4] [] ⟨[(4, I (-1 : Int))], []⟩ (tn 1) ?_
    refine VW.ret ?_
    replace h := Option.some.inj h
    subst h
    exact rt []
  refine VW.skip ?_
  refine sR T_ok [4] [] ⟨[(4, I (IntKind.i64.wrap (a1 - (a0.length : Int))))], []⟩ (tn 2) ?_
  refine VW.ret ?_
  replace h := Option.some.inj h
  subst h
  exact rt []

/- loop.example/g00844/spec.StepsText -/
def F21_j0 (N : Nat) (x46 : ByteArray) : Option (ByteArray) :=
  some x46
def F21_j1 (N : Nat) (a0 : (List (Int × Int))) (nx78 : ByteArray → Int → Option (ByteArray)) (x63 : Int) (x87 : ByteArray) : Option (ByteArray) :=
  gd (InR x63 a0.length) (andO (F17 N (a0.getD x63.toNat (Ty.dflt Y36))) fun y89 => gd (x87.size + y89.size ≤ 9223372036854775807) (nx78 (x87 ++ y89) (IntKind.i64.wrap (x63 + (1 : Int)))))
def F21_l0_b (N : Nat) (a0 : (List (Int × Int))) (nx78 : ByteArray → Int → Option (ByteArray)) (x62 : ByteArray) (x63 : Int) : Option (ByteArray) :=
  cond (decide (x63 < (a0.length : Int))) (cond (decide (x63 > (0 : Int))) (gd (x62.size + (⟨#[32]⟩ : ByteArray).size ≤ 9223372036854775807) (F21_j1 N a0 nx78 x63 (x62 ++ (⟨#[32]⟩ : ByteArray)))) (F21_j1 N a0 nx78 x63 x62)) (F21_j0 N x62)
def F21_l0 (N : Nat) (a0 : (List (Int × Int))) : Nat → ByteArray → Int → Option (ByteArray) := loopF (F21_l0_b N a0) (fun _ _ => none)
theorem F21_l0_s (N : Nat) (a0 : (List (Int × Int))) {k : Nat} (hk : 0 < k) (x62 : ByteArray) (x63 : Int) : F21_l0 N a0 k x62 x63 = F21_l0_b N a0 (F21_l0 N a0 (k - 1)) x62 x63 := by
  cases k with
  | zero => exact absurd hk (Nat.lt_irrefl 0)
  | succ m => rfl
def F21 (N : Nat) (a0 : (List (Int × Int))) : Option (ByteArray) :=
  cond (decide ((a0.length : Int) > (20 : Int))) (some ByteArray.empty) (F21_l0 N a0 N ByteArray.empty (0 : Int))
theorem ok21 (N : Nat) (a0 : (List (Int × Int))) {r : ByteArray} (h : F21 N a0 = some r) : Con Go.Proofs.Tryd.prog 21 [.lf (.v (.sl Y36) a0)] [.lf (.v .str r)] := by
  refine ctr [.lf (.v .str)] T_ok Go.Proofs.Tryd.func21 rfl fun w0 E0 ht => ?_
  unfold F21 at h
  show VW _ _ _ _ _ (retQ _ _ _ _) _
  refine sR T_ok [0] [] ⟨[(0, .lf (.v (.sl Y36) a0))], []⟩ (tn 1) ?_
  refine sR T_ok [0, 3] [] ⟨[(0, .lf (.v (.sl Y36) a0)), (3, S ByteArray.empty)], []⟩ (tn 1) ?_
  refine VW.seq ?_
  refine sR T_ok [0, 3, 7] [] ⟨[(0, .lf (.v (.sl Y36) a0)), (3, S ByteArray.empty), (7, B (decide ((a0.length : Int) > (20 : Int))))], []⟩ (tn 3) ?_
  refine cnd h (fun h => ?_) (fun h => ?_)
  · refine sR T_ok [2] [] ⟨[(2, S ByteArray.empty)], []⟩ (tn 1) ?_
    refine VW.ret ?_
    replace h := Option.some.inj h
    subst h
    exact rt []
  refine VW.skip ?_
  refine VW.join (fun s => ∃ (x46 : ByteArray), s = ⟨[(3, S x46)], []⟩ ∧ F21_j0 N x46 = some r) ?_ ?_
  · refine sR T_ok [0, 3, 4] [] ⟨[(0, .lf (.v (.sl Y36) a0)), (3, S ByteArray.empty), (4, I (0 : Int))], []⟩ (tn 1) ?_
    refine VW.block ?_
    refine lop (fun k s => ∃ (x62 : ByteArray) (x63 : Int), s = ⟨[(0, .lf (.v (.sl Y36) a0)), (3, S x62), (4, I x63)], []⟩ ∧ F21_l0 N a0 k x62 x63 = some r) N [.ren [0, 3, 4] []] ⟨ByteArray.empty, (0 : Int), rfl, h⟩ ?_
    rintro k78 s ⟨x62, x63, rfl, h⟩
    cases k78 with
    | zero => cases show none = some r from h
    | succ k78 =>
      replace h : F21_l0_b N a0 (F21_l0 N a0 k78) x62 x63 = some r := h
      unfold F21_l0_b at h
      refine VW.seq ?_
      refine sR T_ok [0, 3, 4, 11] [] ⟨[(0, .lf (.v (.sl Y36) a0)), (3, S x62), (4, I x63), (11, B (decide (x63 < (a0.length : Int))))], []⟩ (tn 4) ?_
      refine cnd h (fun h => ?_) (fun h => ?_)
      · refine VW.skip ?_
        refine VW.seq ?_
        refine VW.block ?_
        refine VW.join (fun s => ∃ (x87 : ByteArray), s = ⟨[(0, .lf (.v (.sl Y36) a0)), (3, S x87), (4, I x63)], []⟩ ∧ F21_j1 N a0 (F21_l0 N a0 k78) x63 x87 = some r) ?_ ?_
        · refine sR T_ok [0, 3, 4, 15] [] ⟨[(0, .lf (.v (.sl Y36) a0)), (3, S x62), (4, I x63), (15, B (decide (x63 > (0 : Int))))], []⟩ (tn 2) ?_
          refine cnd h (fun h => ?_) (fun h => ?_)
          · obtain ⟨g92, h⟩ := gd_some h
            refine rR T_ok [0, 3, 4] [] ⟨[(0, .lf (.v (.sl Y36) a0)), (3, S (x62 ++ (⟨#[32]⟩ : ByteArray))), (4, I x63)], []⟩ (pu 1 (an g92 (tn 1))) ?_
            exact arv [.ren [0, 3, 4] []] ⟨(x62 ++ (⟨#[32]⟩ : ByteArray)), rfl, h⟩
          refine VW.skip ?_
          exact arv [.ren [0, 3, 4] []] ⟨x62, rfl, h⟩
        rintro s ⟨x87, rfl, h⟩
        unfold F21_j1 at h
        refine VW.region ?_
        obtain ⟨g88, h⟩ := gd_some h
        refine sG T_ok 5 [0, 4, 18, 22] [] ⟨[(0, .lf (.v (.sl Y36) a0)), (4, I x63), (18, S x87), (22, .agg [.v (.int .i64) ((a0.getD x63.toNat (Ty.dflt Y36)).1), .v (.int .i64) ((a0.getD x63.toNat (Ty.dflt Y36)).2)])], []⟩ (pu 3 (an g88 (tn 1))) ?_
        obtain ⟨y89, hy, h⟩ := andO_some h
        refine cal false [.t Y36] [] (some 23) T_ok (ok17 N _ hy) ?_
        obtain ⟨g90, h⟩ := gd_some h
        refine sN T_ok [0, 3, 4] [] ⟨[(0, .lf (.v (.sl Y36) a0)), (3, S (x87 ++ y89)), (4, I x63)], []⟩ (an g90 (tn 1)) ?_
        refine rR T_ok [0, 3, 4] [] ⟨[(0, .lf (.v (.sl Y36) a0)), (3, S (x87 ++ y89)), (4, I (IntKind.i64.wrap (x63 + (1 : Int))))], []⟩ (tn 3) ?_
        exact aro [.ren [0, 3, 4] []] ⟨(x87 ++ y89), (IntKind.i64.wrap (x63 + (1 : Int))), rfl, h⟩
      refine VW.exit ?_
      exact arv [.ren [3] []] ⟨x62, rfl, h⟩
  rintro s ⟨x46, rfl, h⟩
  unfold F21_j0 at h
  refine sR T_ok [2] [] ⟨[(2, S x46)], []⟩ (tn 2) ?_
  refine VW.ret ?_
  replace h := Option.some.inj h
  subst h
  exact rt []

/- loop.example/g00844/laws.toStepS -/
def F22_j0 (N : Nat) (x30 : (List (Int × Int))) : Option ((List (Int × Int))) :=
  some x30
def F22_l0_b (N : Nat) (a0 : (List (Int × Int))) (nx51 : (List (Int × Int)) → Int → Option ((List (Int × Int)))) (x41 : (List (Int × Int))) (x42 : Int) : Option ((List (Int × Int))) :=
  cond (decide (x42 < (a0.length : Int))) (gd (InR x42 a0.length) (andO (F18 N (a0.getD x42.toNat (Ty.dflt Y36))) fun y57 => gd (InR x42 x41.length) (gd (x42.toNat < x41.length) (nx51 (x41.set x42.toNat y57) (IntKind.i64.wrap (x42 + (1 : Int))))))) (F22_j0 N x41)
def F22_l0 (N : Nat) (a0 : (List (Int × Int))) : Nat → (List (Int × Int)) → Int → Option ((List (Int × Int))) := loopF (F22_l0_b N a0) (fun _ _ => none)
theorem F22_l0_s (N : Nat) (a0 : (List (Int × Int))) {k : Nat} (hk : 0 < k) (x41 : (List (Int × Int))) (x42 : Int) : F22_l0 N a0 k x41 x42 = F22_l0_b N a0 (F22_l0 N a0 (k - 1)) x41 x42 := by
  cases k with
  | zero => exact absurd hk (Nat.lt_irrefl 0)
  | succ m => rfl
def F22 (N : Nat) (a0 : (List (Int × Int))) : Option ((List (Int × Int))) :=
  gd (0 ≤ (a0.length : Int) ∧ (a0.length : Int) ≤ (lim Y36 : Int) ∧ (a0.length : Int) = (a0.length : Int)) (F22_l0 N a0 N (List.replicate (a0.length : Int).toNat (Ty.dflt Y36)) (0 : Int))
theorem ok22 (N : Nat) (a0 : (List (Int × Int))) {r : (List (Int × Int))} (h : F22 N a0 = some r) : Con Go.Proofs.Tryd.prog 22 [.lf (.v (.sl Y36) a0)] [.lf (.own Y36 r .dp)] := by
  refine ctr [.lf (.own Y36 .dp)] T_ok Go.Proofs.Tryd.func22 rfl fun w0 E0 ht => ?_
  unfold F22 at h
  show VW _ _ _ _ _ (retQ _ _ _ _) _
  refine sR T_ok [0] [] ⟨[(0, .lf (.v (.sl Y36) a0))], []⟩ (tn 1) ?_
  obtain ⟨g1, h⟩ := gd_some h
  refine sR T_ok [0, 3] [0] ⟨[(0, .lf (.v (.sl Y36) a0)), (3, .lf (.hd 0 0 none))], [ar 0 Y36 (List.replicate (a0.length : Int).toNat (Ty.dflt Y36)) .dp]⟩ (pu 2 (an g1 (tn 1))) ?_
  refine VW.join (fun s => ∃ (x30 : (List (Int × Int))), s = ⟨[(3, .lf (.hd 0 0 none))], [ar 0 Y36 x30 .dp]⟩ ∧ F22_j0 N x30 = some r) ?_ ?_
  · refine sR T_ok [0, 3, 4] [0] ⟨[(0, .lf (.v (.sl Y36) a0)), (3, .lf (.hd 0 0 none)), (4, I (0 : Int))], [ar 0 Y36 (List.replicate (a0.length : Int).toNat (Ty.dflt Y36)) .dp]⟩ (tn 1) ?_
    refine VW.block ?_
    refine lop (fun k s => ∃ (x41 : (List (Int × Int))) (x42 : Int), s = ⟨[(0, .lf (.v (.sl Y36) a0)), (3, .lf (.hd 0 0 none)), (4, I x42)], [ar 0 Y36 x41 .dp]⟩ ∧ F22_l0 N a0 k x41 x42 = some r) N [.ren [0, 3, 4] [0]] ⟨(List.replicate (a0.length : Int).toNat (Ty.dflt Y36)), (0 : Int), rfl, h⟩ ?_
    rintro k51 s ⟨x41, x42, rfl, h⟩
    cases k51 with
    | zero => cases show none = some r from h
    | succ k51 =>
      replace h : F22_l0_b N a0 (F22_l0 N a0 k51) x41 x42 = some r := h
      unfold F22_l0_b at h
      refine VW.seq ?_
      refine sR T_ok [0, 3, 4, 11] [0] ⟨[(0, .lf (.v (.sl Y36) a0)), (3, .lf (.hd 0 0 none)), (4, I x42), (11, B (decide (x42 < (a0.length : Int))))], [ar 0 Y36 x41 .dp]⟩ (tn 4) ?_
      refine cnd h (fun h => ?_) (fun h => ?_)
      · refine VW.skip ?_
        refine VW.seq ?_
        refine VW.block ?_
        refine VW.region ?_
        obtain ⟨g56, h⟩ := gd_some h
        refine sG T_ok 6 [0, 3, 4, 14, 15, 19] [0] ⟨[(0, .lf (.v (.sl Y36) a0)), (3, .lf (.hd 0 0 none)), (4, I x42), (14, .lf (.hd 0 0 none)), (15, I x42), (19, .agg [.v (.int .i64) ((a0.getD x42.toNat (Ty.dflt Y36)).1), .v (.int .i64) ((a0.getD x42.toNat (Ty.dflt Y36)).2)])], [ar 0 Y36 x41 .dp]⟩ (pu 4 (an g56 (tn 1))) ?_
        obtain ⟨y57, hy, h⟩ := andO_some h
        refine cal false [.t Y36] [] (some 20) T_ok (ok18 N _ hy) ?_
        obtain ⟨g58, h⟩ := gd_some h
        obtain ⟨g59, h⟩ := gd_some h
        refine sN T_ok [0, 3, 4] [0] ⟨[(0, .lf (.v (.sl Y36) a0)), (3, .lf (.hd 0 0 none)), (4, I x42)], [ar 0 Y36 (x41.set x42.toNat y57) .dp]⟩ (an g58 (an g59 (tn 0))) ?_
        refine rR T_ok [0, 3, 4] [0] ⟨[(0, .lf (.v (.sl Y36) a0)), (3, .lf (.hd 0 0 none)), (4, I (IntKind.i64.wrap (x42 + (1 : Int))))], [ar 0 Y36 (x41.set x42.toNat y57) .dp]⟩ (tn 3) ?_
        exact aro [.ren [0, 3, 4] [0]] ⟨(x41.set x42.toNat y57), (IntKind.i64.wrap (x42 + (1 : Int))), rfl, h⟩
      refine VW.exit ?_
      exact arv [.ren [3] [0]] ⟨x41, rfl, h⟩
  rintro s ⟨x30, rfl, h⟩
  unfold F22_j0 at h
  refine sR T_ok [2] [0] ⟨[(2, .lf (.hd 0 0 none))], [ar 0 Y36 x30 .dp]⟩ (tn 2) ?_
  refine VW.ret ?_
  replace h := Option.some.inj h
  subst h
  exact rt [some 0]

/- loop.example/g00844/impl.StepsText -/
def F23_j0 (N : Nat) (x24 : (List ByteArray)) : Option (ByteArray) :=
  andO (F43 N x24) fun y25 => some y25
def F23_l0_b (N : Nat) (a0 : (List (Int × Int))) (nx43 : (List ByteArray) → Int → Int → Option (ByteArray)) (x34 : (List ByteArray)) (x35 : Int) (x36 : Int) : Option (ByteArray) :=
  cond (decide (x36 < x35)) (gd (InR x36 a0.length) (andO (F19 N (a0.getD x36.toNat (Ty.dflt Y36))) fun y48 => gd (x34.length + ([y48]).length ≤ lim .str) (nx43 (x34 ++ ([y48])) x35 (IntKind.i64.wrap (x36 + (1 : Int)))))) (F23_j0 N x34)
def F23_l0 (N : Nat) (a0 : (List (Int × Int))) : Nat → (List ByteArray) → Int → Int → Option (ByteArray) := loopF (F23_l0_b N a0) (fun _ _ _ => none)
theorem F23_l0_s (N : Nat) (a0 : (List (Int × Int))) {k : Nat} (hk : 0 < k) (x34 : (List ByteArray)) (x35 : Int) (x36 : Int) : F23_l0 N a0 k x34 x35 x36 = F23_l0_b N a0 (F23_l0 N a0 (k - 1)) x34 x35 x36 := by
  cases k with
  | zero => exact absurd hk (Nat.lt_irrefl 0)
  | succ m => rfl
def F23 (N : Nat) (a0 : (List (Int × Int))) : Option (ByteArray) :=
  cond (decide ((a0.length : Int) > (20 : Int))) (some ByteArray.empty) (F23_l0 N a0 N ([]) (a0.length : Int) (0 : Int))
theorem ok23 (N : Nat) (a0 : (List (Int × Int))) {r : ByteArray} (h : F23 N a0 = some r) : Con Go.Proofs.Tryd.prog 23 [.lf (.v (.sl Y36) a0)] [.lf (.v .str r)] := by
  refine ctr [.lf (.v .str)] T_ok Go.Proofs.Tryd.func23 rfl fun w0 E0 ht => ?_
  unfold F23 at h
  show VW _ _ _ _ _ (retQ _ _ _ _) _
  refine sR T_ok [0] [] ⟨[(0, .lf (.v (.sl Y36) a0))], []⟩ (tn 1) ?_
  refine VW.seq ?_
  refine sR T_ok [0, 8] [] ⟨[(0, .lf (.v (.sl Y36) a0)), (8, B (decide ((a0.length : Int) > (20 : Int))))], []⟩ (tn 3) ?_
  refine cnd h (fun h => ?_) (fun h => ?_)
  · refine sR T_ok [2] [] ⟨[(2, S ByteArray.empty)], []⟩ (tn 1) ?_
    refine VW.ret ?_
    replace h := Option.some.inj h
    subst h
    exact rt []
  refine VW.skip ?_
  refine sR T_ok [0, 3] [] ⟨[(0, .lf (.v (.sl Y36) a0)), (3, .lf (.nil))], []⟩ (tn 1) ?_
  refine VW.join (fun s => ∃ (x24 : (List ByteArray)), s = ⟨[(3, .lf (.hd 0 0 none))], [ar 0 .str x24 .dp]⟩ ∧ F23_j0 N x24 = some r) ?_ ?_
  · refine sR T_ok [3, 9, 10, 11] [] ⟨[(3, .lf (.nil)), (9, .lf (.v (.sl Y36) a0)), (10, I (a0.length : Int)), (11, I (0 : Int))], []⟩ (tn 3) ?_
    refine VW.block ?_
    refine lop (fun k s => ∃ (x34 : (List ByteArray)) (x35 : Int) (x36 : Int), s = ⟨[(3, .lf (.hd 0 0 none)), (9, .lf (.v (.sl Y36) a0)), (10, I x35), (11, I x36)], [ar 0 .str x34 .dp]⟩ ∧ F23_l0 N a0 k x34 x35 x36 = some r) N [.nilS 3 .str .dp, .ren [3, 9, 10, 11] [0]] ⟨[], (a0.length : Int), (0 : Int), rfl, h⟩ ?_
    rintro k43 s ⟨x34, x35, x36, rfl, h⟩
    cases k43 with
    | zero => cases show none = some r from h
    | succ k43 =>
      replace h : F23_l0_b N a0 (F23_l0 N a0 k43) x34 x35 x36 = some r := h
      unfold F23_l0_b at h
      refine sR T_ok [3, 9, 10, 11, 12] [0] ⟨[(3, .lf (.hd 0 0 none)), (9, .lf (.v (.sl Y36) a0)), (10, I x35), (11, I x36), (12, B (decide (x36 < x35)))], [ar 0 .str x34 .dp]⟩ (tn 1) ?_
      refine VW.seq ?_
      refine cnd h (fun h => ?_) (fun h => ?_)
      · refine VW.skip ?_
        refine VW.seq ?_
        refine VW.block ?_
        obtain ⟨g47, h⟩ := gd_some h
        refine sR T_ok [3, 5, 9, 10, 11] [0, 1] ⟨[(3, .lf (.hd 0 0 none)), (5, .lf (.ptr 1 0 0 0)), (9, .lf (.v (.sl Y36) a0)), (10, I x35), (11, I x36)], [ar 0 .str x34 .dp, bx [.v (.int .i64) ((a0.getD x36.toNat (Ty.dflt Y36)).1), .v (.int .i64) ((a0.getD x36.toNat (Ty.dflt Y36)).2)] 39]⟩ (an g47 (tn 3)) ?_
        refine VW.region ?_
        refine sG T_ok 2 [9, 10, 11, 15, 16] [0] ⟨[(9, .lf (.v (.sl Y36) a0)), (10, I x35), (11, I x36), (15, .lf (.hd 0 0 none)), (16, .agg [.v (.int .i64) ((a0.getD x36.toNat (Ty.dflt Y36)).1), .v (.int .i64) ((a0.getD x36.toNat (Ty.dflt Y36)).2)])], [ar 0 .str x34 .dp]⟩ (tn 2) ?_
        obtain ⟨y48, hy, h⟩ := andO_some h
        refine cal false [.t Y36] [] (some 17) T_ok (ok19 N _ hy) ?_
        obtain ⟨g49, h⟩ := gd_some h
        refine sN T_ok [3, 9, 10, 11] [0] ⟨[(3, .lf (.hd 0 0 none)), (9, .lf (.v (.sl Y36) a0)), (10, I x35), (11, I x36)], [ar 0 .str (x34 ++ ([y48])) .dp]⟩ (pu 1 (an g49 (tn 1))) ?_
        refine rR T_ok [3, 9, 10, 11] [0] ⟨[(3, .lf (.hd 0 0 none)), (9, .lf (.v (.sl Y36) a0)), (10, I x35), (11, I (IntKind.i64.wrap (x36 + (1 : Int))))], [ar 0 .str (x34 ++ ([y48])) .dp]⟩ (tn 2) ?_
        exact aro [.ren [3, 9, 10, 11] [0]] ⟨(x34 ++ ([y48])), x35, (IntKind.i64.wrap (x36 + (1 : Int))), rfl, h⟩
      refine VW.exit ?_
      exact arv [.ren [3] [0]] ⟨x34, rfl, h⟩
  rintro s ⟨x24, rfl, h⟩
  unfold F23_j0 at h
  refine VW.seq ?_
  refine VW.region ?_
  refine sG T_ok 1 [21] [0] ⟨[(21, .lf (.hd 0 0 none))], [ar 0 .str x24 .dp]⟩ (tn 1) ?_
  obtain ⟨y25, hy, h⟩ := andO_some h
  refine cal true [.t (.sl .str)] [] (some 22) T_ok (ok43 N _ hy) ?_
  refine sN T_ok [2] [] ⟨[(2, S y25)], []⟩ (tn 1) ?_
  refine VW.ret ?_
  replace h := Option.some.inj h
  subst h
  exact rt []

/- loop.example/g00844/laws.eqStep -/
def F49 (N : Nat) (a0 : (Int × Int)) (a1 : (Int × Int)) : Option (Bool) :=
  cond (a0.1 != a1.1) (some false) (cond (a0.2 != a1.2) (some false) (some true))
theorem ok49 (N : Nat) (a0 : (Int × Int)) (a1 : (Int × Int)) {r : Bool} (h : F49 N a0 a1 = some r) : Con Go.Proofs.Tryd.prog 49 [.agg [.v (.int .i64) a0.1, .v (.int .i64) a0.2], .agg [.v (.int .i64) a1.1, .v (.int .i64) a1.2]] [.lf (.v .bool r)] := by
  refine ctr [.lf (.v .bool)] T_ok Go.Proofs.Tryd.func49 rfl fun w0 E0 ht => ?_
  unfold F49 at h
  show VW _ _ _ _ _ (retQ _ _ _ _) _
  refine sR T_ok [2, 3] [0, 1] ⟨[(2, .lf (.ptr 0 0 0 0)), (3, .lf (.ptr 1 0 0 0))], [bx [.v (.int .i64) a0.1, .v (.int .i64) a0.2] 39, bx [.v (.int .i64) a1.1, .v (.int .i64) a1.2] 39]⟩ (tn 3) ?_
  refine VW.seq ?_
  refine sR T_ok [2, 3, 9] [0, 1] ⟨[(2, .lf (.ptr 0 0 0 0)), (3, .lf (.ptr 1 0 0 0)), (9, B (a0.1 != a1.1))], [bx [.v (.int .i64) a0.1, .v (.int .i64) a0.2] 39, bx [.v (.int .i64) a1.1, .v (.int .i64) a1.2] 39]⟩ (tn 5) ?_
  refine cnd h (fun h => ?_) (fun h => ?_)
  · refine sR T_ok [4] [] ⟨[(4, B false)], []⟩ (tn 1) ?_
    refine VW.ret ?_
    replace h := Option.some.inj h
    subst h
    exact rt []
  refine VW.skip ?_
  refine VW.seq ?_
  refine sR T_ok [14] [] ⟨[(14, B (a0.2 != a1.2))], []⟩ (tn 5) ?_
  refine cnd h (fun h => ?_) (fun h => ?_)
  · refine sR T_ok [4] [] ⟨[(4, B false)], []⟩ (tn 1) ?_
    refine VW.ret ?_
    replace h := Option.some.inj h
    subst h
    exact rt []
  refine VW.skip ?_
  refine sR T_ok [4] [] ⟨[(4, B true)], []⟩ (tn 1) ?_
  refine VW.ret ?_
  replace h := Option.some.inj h
  subst h
  exact rt []

/- loop.example/g00844/laws.eqStepS -/
def F24_j0 (N : Nat) : Option (Bool) :=
  some true
def F24_l0_b (N : Nat) (a0 : (List (Int × Int))) (a1 : (List (Int × Int))) (nx35 : Int → Option (Bool)) (x28 : Int) : Option (Bool) :=
  cond (decide (x28 < (a0.length : Int))) (gd (InR x28 a0.length) (gd (InR x28 a1.length) (andO (F49 N (a0.getD x28.toNat (Ty.dflt Y36)) (a1.getD x28.toNat (Ty.dflt Y36))) fun y41 => cond (!y41) (some false) (nx35 (IntKind.i64.wrap (x28 + (1 : Int))))))) (F24_j0 N)
def F24_l0 (N : Nat) (a0 : (List (Int × Int))) (a1 : (List (Int × Int))) : Nat → Int → Option (Bool) := loopF (F24_l0_b N a0 a1) (fun _ => none)
theorem F24_l0_s (N : Nat) (a0 : (List (Int × Int))) (a1 : (List (Int × Int))) {k : Nat} (hk : 0 < k) (x28 : Int) : F24_l0 N a0 a1 k x28 = F24_l0_b N a0 a1 (F24_l0 N a0 a1 (k - 1)) x28 := by
  cases k with
  | zero => exact absurd hk (Nat.lt_irrefl 0)
  | succ m => rfl
def F24 (N : Nat) (a0 : (List (Int × Int))) (a1 : (List (Int × Int))) : Option (Bool) :=
  cond ((a0.length : Int) != (a1.length : Int)) (some false) (F24_l0 N a0 a1 N (0 : Int))
theorem ok24 (N : Nat) (a0 : (List (Int × Int))) (a1 : (List (Int × Int))) {r : Bool} (h : F24 N a0 a1 = some r) : Con Go.Proofs.Tryd.prog 24 [.lf (.v (.sl Y36) a0), .lf (.v (.sl Y36) a1)] [.lf (.v .bool r)] := by
  refine ctr [.lf (.v .bool)] T_ok Go.Proofs.Tryd.func24 rfl fun w0 E0 ht => ?_
  unfold F24 at h
  show VW _ _ _ _ _ (retQ _ _ _ _) _
  refine sR T_ok [0, 1] [] ⟨[(0, .lf (.v (.sl Y36) a0)), (1, .lf (.v (.sl Y36) a1))], []⟩ (tn 1) ?_
  refine VW.seq ?_
  refine sR T_ok [0, 1, 10] [] ⟨[(0, .lf (.v (.sl Y36) a0)), (1, .lf (.v (.sl Y36) a1)), (10, B ((a0.length : Int) != (a1.length : Int)))], []⟩ (tn 5) ?_
  refine cnd h (fun h => ?_) (fun h => ?_)
  · refine sR T_ok [4] [] ⟨[(4, B false)], []⟩ (tn 1) ?_
    refine VW.ret ?_
    replace h := Option.some.inj h
    subst h
    exact rt []
  refine VW.skip ?_
  refine VW.join (fun s => s = ⟨[], []⟩ ∧ F24_j0 N = some r) ?_ ?_
  · refine sR T_ok [0, 1, 5] [] ⟨[(0, .lf (.v (.sl Y36) a0)), (1, .lf (.v (.sl Y36) a1)), (5, I (0 : Int))], []⟩ (tn 1) ?_
    refine VW.block ?_
    refine lop (fun k s => ∃ (x28 : Int), s = ⟨[(0, .lf (.v (.sl Y36) a0)), (1, .lf (.v (.sl Y36) a1)), (5, I x28)], []⟩ ∧ F24_l0 N a0 a1 k x28 = some r) N [.ren [0, 1, 5] []] ⟨(0 : Int), rfl, h⟩ ?_
    rintro k35 s ⟨x28, rfl, h⟩
    cases k35 with
    | zero => cases show none = some r from h
    | succ k35 =>
      replace h : F24_l0_b N a0 a1 (F24_l0 N a0 a1 k35) x28 = some r := h
      unfold F24_l0_b at h
      refine VW.seq ?_
      refine sR T_ok [0, 1, 5, 14] [] ⟨[(0, .lf (.v (.sl Y36) a0)), (1, .lf (.v (.sl Y36) a1)), (5, I x28), (14, B (decide (x28 < (a0.length : Int))))], []⟩ (tn 4) ?_
      refine cnd h (fun h => ?_) (fun h => ?_)
      · refine VW.skip ?_
        refine VW.seq ?_
        refine VW.block ?_
        refine VW.seq ?_
        obtain ⟨g39, h⟩ := gd_some h
        obtain ⟨g40, h⟩ := gd_some h
        obtain ⟨y41, hy41, h⟩ := andO_some h
        refine VW.drawn (by kernel_rfl) [some (17, .lf (.v (.sl Y36) a0)), some (18, I x28), some (19, .lf (.fp Y36 (a0.getD x28.toNat (Ty.dflt Y36)) 0)), some (20, .agg [.v (.int .i64) ((a0.getD x28.toNat (Ty.dflt Y36)).1), .v (.int .i64) ((a0.getD x28.toNat (Ty.dflt Y36)).2)]), some (21, .lf (.v (.sl Y36) a1)), some (22, I x28), some (23, .lf (.fp Y36 (a1.getD x28.toNat (Ty.dflt Y36)) 0)), some (24, .agg [.v (.int .i64) ((a1.getD x28.toNat (Ty.dflt Y36)).1), .v (.int .i64) ((a1.getD x28.toNat (Ty.dflt Y36)).2)]), some (25, B y41), some (26, B (!y41))] [] [[]] [(0, 0), (1, 0), (2, 0), (3, 0), (4, 0), (5, 0), (6, 0), (7, 0), (8, 0), (9, 0)] [0, 1, 5, 26] [] (s' := ⟨[(0, .lf (.v (.sl Y36) a0)), (1, .lf (.v (.sl Y36) a1)), (5, I x28), (26, B (!y41))], []⟩) (by kernel_rfl) (by kernel_rfl) ⟨⟨_, rfl, Stp.ev T_ok (m := .dp) (φ := True) (by kernel_rfl) trivial⟩,
    ⟨_, rfl, Stp.ev T_ok (m := .dp) (φ := True) (by kernel_rfl) trivial⟩,
    ⟨_, rfl, Stp.ev T_ok (m := .dp) (φ := InR x28 a0.length) (by kernel_rfl) g39⟩,
    ⟨_, rfl, Stp.ev T_ok (m := .dp) (φ := True) (by kernel_rfl) trivial⟩,
    ⟨_, rfl, Stp.ev T_ok (m := .dp) (φ := True) (by kernel_rfl) trivial⟩,
    ⟨_, rfl, Stp.ev T_ok (m := .dp) (φ := True) (by kernel_rfl) trivial⟩,
    ⟨_, rfl, Stp.ev T_ok (m := .dp) (φ := InR x28 a1.length) (by kernel_rfl) g40⟩,
    ⟨_, rfl, Stp.ev T_ok (m := .dp) (φ := True) (by kernel_rfl) trivial⟩,
    ⟨_, rfl, Stp.eq (Stp.call false [.t Y36, .t Y36] [] T_ok (d := some 25) (by kernel_rfl) (ok49 N _ _ hy41) rfl) (by kernel_rfl) (by kernel_rfl)⟩,
    ⟨_, rfl, Stp.ev T_ok (m := .dp) (φ := True) (by kernel_rfl) trivial⟩, trivial⟩ (by kernel_rfl) ?_
        refine cnd h (fun h => ?_) (fun h => ?_)
        · refine sR T_ok [4] [] ⟨[(4, B false)], []⟩ (tn 1) ?_
          refine VW.ret ?_
          replace h := Option.some.inj h
          subst h
          exact rt []
        refine VW.skip ?_
        refine rR T_ok [0, 1, 5] [] ⟨[(0, .lf (.v (.sl Y36) a0)), (1, .lf (.v (.sl Y36) a1)), (5, I (IntKind.i64.wrap (x28 + (1 : Int))))], []⟩ (tn 3) ?_
        exact aro [.ren [0, 1, 5] []] ⟨(IntKind.i64.wrap (x28 + (1 : Int))), rfl, h⟩
      refine VW.exit ?_
      exact arv [.ren [] []] ⟨rfl, h⟩
  rintro s ⟨rfl, h⟩
  unfold F24_j0 at h
  refine sR T_ok [4] [] ⟨[(4, B true)], []⟩ (tn 1) ?_
  refine VW.ret ?_
  replace h := Option.some.inj h
  subst h
  exact rt []

/- loop.example/g00844/laws.FnExactStepsText -/
def F5 (N : Nat) (a0 : (List (Int × Int))) : Option (Bool) :=
  andO (F20 N a0 (1048576 : Int)) fun y1 => cond (decide (y1 < (0 : Int))) (some true) (andO (F22 N a0) fun y2 => andO (F21 N y2) fun y3 => andO (F22 N a0) fun y4 => andO (F23 N y4) fun y5 => cond (!(y5.toList == y3.toList)) (some false) (andO (F22 N a0) fun y8 => andO (F24 N y4 y8) fun y9 => cond (!y9) (some false) (some true)))
theorem ok5 (N : Nat) (a0 : (List (Int × Int))) {r : Bool} (h : F5 N a0 = some r) : Con Go.Proofs.Tryd.prog 5 [.lf (.v (.sl Y36) a0)] [.lf (.v .bool r)] := by
  refine ctr [.lf (.v .bool)] T_ok Go.Proofs.Tryd.func5 rfl fun w0 E0 ht => ?_
  unfold F5 at h
  show VW _ _ _ _ _ (retQ _ _ _ _) _
  refine sR T_ok [0] [] ⟨[(0, .lf (.v (.sl Y36) a0))], []⟩ (tn 1) ?_
  refine sR T_ok [0, 3] [] ⟨[(0, .lf (.v (.sl Y36) a0)), (3, I (1048576 : Int))], []⟩ (tn 1) ?_
  refine VW.seq ?_
  refine VW.region ?_
  refine sG T_ok 2 [0, 7, 8] [] ⟨[(0, .lf (.v (.sl Y36) a0)), (7, .lf (.v (.sl Y36) a0)), (8, I (1048576 : Int))], []⟩ (tn 2) ?_
  obtain ⟨y1, hy, h⟩ := andO_some h
  refine cal false [.t (.sl Y36), .t (.int .i64)] [] (some 9) T_ok (ok20 N _ _ hy) ?_
  refine sN T_ok [0, 3] [] ⟨[(0, .lf (.v (.sl Y36) a0)), (3, I y1)], []⟩ (tn 1) ?_
  refine VW.seq ?_
  refine sR T_ok [0, 11] [] ⟨[(0, .lf (.v (.sl Y36) a0)), (11, B (decide (y1 < (0 : Int))))], []⟩ (tn 2) ?_
  refine cnd h (fun h => ?_) (fun h => ?_)
  · refine sR T_ok [2] [] ⟨[(2, B true)], []⟩ (tn 1) ?_
    refine VW.ret ?_
    replace h := Option.some.inj h
    subst h
    exact rt []
  refine VW.skip ?_
  refine VW.seq ?_
  refine VW.region ?_
  refine sG T_ok 1 [0, 12] [] ⟨[(0, .lf (.v (.sl Y36) a0)), (12, .lf (.v (.sl Y36) a0))], []⟩ (tn 1) ?_
  obtain ⟨y2, hy, h⟩ := andO_some h
  refine cal false [.t (.sl Y36)] [] (some 13) T_ok (ok22 N _ hy) ?_
  obtain ⟨y3, hy, h⟩ := andO_some h
  refine cal true [.t (.sl Y36)] [] (some 14) T_ok (ok21 N _ hy) ?_
  refine sN T_ok [0, 4] [] ⟨[(0, .lf (.v (.sl Y36) a0)), (4, S y3)], []⟩ (tn 1) ?_
  refine VW.seq ?_
  refine VW.region ?_
  refine sG T_ok 1 [0, 4, 15] [] ⟨[(0, .lf (.v (.sl Y36) a0)), (4, S y3), (15, .lf (.v (.sl Y36) a0))], []⟩ (tn 1) ?_
  obtain ⟨y4, hy, h⟩ := andO_some h
  refine cal false [.t (.sl Y36)] [] (some 16) T_ok (ok22 N _ hy) ?_
  refine sN T_ok [0, 4, 5] [0] ⟨[(0, .lf (.v (.sl Y36) a0)), (4, S y3), (5, .lf (.hd 0 0 none))], [ar 0 Y36 y4 .dp]⟩ (tn 1) ?_
  refine VW.seq ?_
  refine VW.region ?_
  refine sG T_ok 1 [0, 4, 5, 17] [0] ⟨[(0, .lf (.v (.sl Y36) a0)), (4, S y3), (5, .lf (.hd 0 0 none)), (17, .lf (.hd 0 0 none))], [ar 0 Y36 y4 .dp]⟩ (tn 1) ?_
  obtain ⟨y5, hy, h⟩ := andO_some h
  refine cal true [.t (.sl Y36)] [] (some 18) T_ok (ok23 N _ hy) ?_
  refine sN T_ok [0, 4, 5, 6] [0] ⟨[(0, .lf (.v (.sl Y36) a0)), (4, S y3), (5, .lf (.hd 0 0 none)), (6, S y5)], [ar 0 Y36 y4 .dp]⟩ (tn 1) ?_
  refine VW.seq ?_
  refine sR T_ok [0, 5, 21] [0] ⟨[(0, .lf (.v (.sl Y36) a0)), (5, .lf (.hd 0 0 none)), (21, B (!(y5.toList == y3.toList)))], [ar 0 Y36 y4 .dp]⟩ (tn 3) ?_
  refine cnd h (fun h => ?_) (fun h => ?_)
  · refine sR T_ok [2] [] ⟨[(2, B false)], []⟩ (tn 1) ?_
    refine VW.ret ?_
    replace h := Option.some.inj h
    subst h
    exact rt []
  refine VW.skip ?_
  refine VW.seq ?_
  refine VW.seq ?_
  refine VW.region ?_
  refine sG T_ok 2 [22, 23] [0] ⟨[(22, .lf (.hd 0 0 none)), (23, .lf (.v (.sl Y36) a0))], [ar 0 Y36 y4 .dp]⟩ (tn 2) ?_
  obtain ⟨y8, hy, h⟩ := andO_some h
  refine cal false [.t (.sl Y36)] [] (some 24) T_ok (ok22 N _ hy) ?_
  obtain ⟨y9, hy, h⟩ := andO_some h
  refine cal true [.t (.sl Y36), .t (.sl Y36)] [] (some 25) T_ok (ok24 N _ _ hy) ?_
  refine sN T_ok [26] [] ⟨[(26, B (!y9))], []⟩ (tn 1) ?_
  refine cnd h (fun h => ?_) (fun h => ?_)
  · refine sR T_ok [2] [] ⟨[(2, B false)], []⟩ (tn 1) ?_
    refine VW.ret ?_
    replace h := Option.some.inj h
    subst h
    exact rt []
  refine VW.skip ?_
  refine sR T_ok [2] [] ⟨[(2, B true)], []⟩ (tn 1) ?_
  refine VW.ret ?_
  replace h := Option.some.inj h
  subst h
  exact rt []

end Go.Proofs.YtgpddckjpokclaaDoor.Vc
