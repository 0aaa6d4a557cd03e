/- What functions of the program compute, and that they do. -/
import Derived.Test.YtgpddckjpokclaaVt0
namespace Go.Proofs.Ytgpddckjpokclaa.Vc
open Go Go.RowKit
set_option linter.unusedVariables false
set_option maxRecDepth 100000
set_option maxHeartbeats 4000000
/- loop.example/g00844/impl.sameNode -/
def F133 (N : Nat) (a0 : (Int × (ByteArray × (Int × (Int × (Int × (Bool × (List Int)))))))) (a1 : (Int × (ByteArray × (Int × (Int × (Int × (Bool × (List Int)))))))) : Option (Bool) :=
  cond (a0.1 == a1.1) (cond (a0.2.1.toList == a1.2.1.toList) (cond (a0.2.2.1 == a1.2.2.1) (cond (a0.2.2.2.1 == a1.2.2.2.1) (cond (a0.2.2.2.2.1 == a1.2.2.2.2.1) (cond (a0.2.2.2.2.2.1 == a1.2.2.2.2.2.1) (andO (F187 N a0.2.2.2.2.2.2 a1.2.2.2.2.2.2) fun y1 => some y1) (some false)) (some false)) (some false)) (some false)) (some false)) (some false)
theorem ok133 (N : Nat) (a0 : (Int × (ByteArray × (Int × (Int × (Int × (Bool × (List Int)))))))) (a1 : (Int × (ByteArray × (Int × (Int × (Int × (Bool × (List Int)))))))) {r : Bool} (h : F133 N a0 a1 = some r) : Con Go.Proofs.Try.prog 133 [.agg [.v (.int .i64) a0.1, .v .str a0.2.1, .v (.int .i64) a0.2.2.1, .v (.int .i64) a0.2.2.2.1, .v (.int .i64) a0.2.2.2.2.1, .v .bool a0.2.2.2.2.2.1, .v (.sl (.int .i64)) a0.2.2.2.2.2.2], .agg [.v (.int .i64) a1.1, .v .str a1.2.1, .v (.int .i64) a1.2.2.1, .v (.int .i64) a1.2.2.2.1, .v (.int .i64) a1.2.2.2.2.1, .v .bool a1.2.2.2.2.2.1, .v (.sl (.int .i64)) a1.2.2.2.2.2.2]] [.lf (.v .bool r)] := by
  refine ctr [.lf (.v .bool)] T_ok Go.Proofs.Try.func133 rfl fun w0 E0 ht => ?_
  unfold F133 at h
  show VW _ _ _ _ _ (retQ _ _ _ _) _
  refine sR T_ok [2, 3] [0, 1] ⟨[(2, .lf (.ptr 0 0 0 0)), (3, .lf (.ptr 1 0 0 0))], [bx [.v (.int .i64) a0.1, .v .str a0.2.1, .v (.int .i64) a0.2.2.1, .v (.int .i64) a0.2.2.2.1, .v (.int .i64) a0.2.2.2.2.1, .v .bool a0.2.2.2.2.2.1, .v (.sl (.int .i64)) a0.2.2.2.2.2.2] 107, bx [.v (.int .i64) a1.1, .v .str a1.2.1, .v (.int .i64) a1.2.2.1, .v (.int .i64) a1.2.2.2.1, .v (.int .i64) a1.2.2.2.2.1, .v .bool a1.2.2.2.2.2.1, .v (.sl (.int .i64)) a1.2.2.2.2.2.2] 107]⟩ (tn 3) ?_
  refine VW.seq ?_
  refine VW.region ?_
  refine sG T_ok 6 [2, 3, 10] [0, 1] ⟨[(2, .lf (.ptr 0 0 0 0)), (3, .lf (.ptr 1 0 0 0)), (10, B (a0.1 == a1.1))], [bx [.v (.int .i64) a0.1, .v .str a0.2.1, .v (.int .i64) a0.2.2.1, .v (.int .i64) a0.2.2.2.1, .v (.int .i64) a0.2.2.2.2.1, .v .bool a0.2.2.2.2.2.1, .v (.sl (.int .i64)) a0.2.2.2.2.2.2] 107, bx [.v (.int .i64) a1.1, .v .str a1.2.1, .v (.int .i64) a1.2.2.1, .v (.int .i64) a1.2.2.2.1, .v (.int .i64) a1.2.2.2.2.1, .v .bool a1.2.2.2.2.2.1, .v (.sl (.int .i64)) a1.2.2.2.2.2.2] 107]⟩ (tn 6) ?_
  refine spB 10 h (fun h => ?_) (fun h => ?_)
  · refine sG T_ok 7 [2, 3, 17] [0, 1] ⟨[(2, .lf (.ptr 0 0 0 0)), (3, .lf (.ptr 1 0 0 0)), (17, B (a0.2.1.toList == a1.2.1.toList))], [bx [.v (.int .i64) a0.1, .v .str a0.2.1, .v (.int .i64) a0.2.2.1, .v (.int .i64) a0.2.2.2.1, .v (.int .i64) a0.2.2.2.2.1, .v .bool a0.2.2.2.2.2.1, .v (.sl (.int .i64)) a0.2.2.2.2.2.2] 107, bx [.v (.int .i64) a1.1, .v .str a1.2.1, .v (.int .i64) a1.2.2.1, .v (.int .i64) a1.2.2.2.1, .v (.int .i64) a1.2.2.2.2.1, .v .bool a1.2.2.2.2.2.1, .v (.sl (.int .i64)) a1.2.2.2.2.2.2] 107]⟩ (tn 7) ?_
    refine spB 17 h (fun h => ?_) (fun h => ?_)
    · refine sG T_ok 7 [2, 3, 24] [0, 1] ⟨[(2, .lf (.ptr 0 0 0 0)), (3, .lf (.ptr 1 0 0 0)), (24, B (a0.2.2.1 == a1.2.2.1))], [bx [.v (.int .i64) a0.1, .v .str a0.2.1, .v (.int .i64) a0.2.2.1, .v (.int .i64) a0.2.2.2.1, .v (.int .i64) a0.2.2.2.2.1, .v .bool a0.2.2.2.2.2.1, .v (.sl (.int .i64)) a0.2.2.2.2.2.2] 107, bx [.v (.int .i64) a1.1, .v .str a1.2.1, .v (.int .i64) a1.2.2.1, .v (.int .i64) a1.2.2.2.1, .v (.int .i64) a1.2.2.2.2.1, .v .bool a1.2.2.2.2.2.1, .v (.sl (.int .i64)) a1.2.2.2.2.2.2] 107]⟩ (tn 7) ?_
      refine spB 24 h (fun h => ?_) (fun h => ?_)
      · refine sG T_ok 7 [2, 3, 31] [0, 1] ⟨[(2, .lf (.ptr 0 0 0 0)), (3, .lf (.ptr 1 0 0 0)), (31, B (a0.2.2.2.1 == a1.2.2.2.1))], [bx [.v (.int .i64) a0.1, .v .str a0.2.1, .v (.int .i64) a0.2.2.1, .v (.int .i64) a0.2.2.2.1, .v (.int .i64) a0.2.2.2.2.1, .v .bool a0.2.2.2.2.2.1, .v (.sl (.int .i64)) a0.2.2.2.2.2.2] 107, bx [.v (.int .i64) a1.1, .v .str a1.2.1, .v (.int .i64) a1.2.2.1, .v (.int .i64) a1.2.2.2.1, .v (.int .i64) a1.2.2.2.2.1, .v .bool a1.2.2.2.2.2.1, .v (.sl (.int .i64)) a1.2.2.2.2.2.2] 107]⟩ (tn 7) ?_
        refine spB 31 h (fun h => ?_) (fun h => ?_)
        · refine sG T_ok 7 [2, 3, 38] [0, 1] ⟨[(2, .lf (.ptr 0 0 0 0)), (3, .lf (.ptr 1 0 0 0)), (38, B (a0.2.2.2.2.1 == a1.2.2.2.2.1))], [bx [.v (.int .i64) a0.1, .v .str a0.2.1, .v (.int .i64) a0.2.2.1, .v (.int .i64) a0.2.2.2.1, .v (.int .i64) a0.2.2.2.2.1, .v .bool a0.2.2.2.2.2.1, .v (.sl (.int .i64)) a0.2.2.2.2.2.2] 107, bx [.v (.int .i64) a1.1, .v .str a1.2.1, .v (.int .i64) a1.2.2.1, .v (.int .i64) a1.2.2.2.1, .v (.int .i64) a1.2.2.2.2.1, .v .bool a1.2.2.2.2.2.1, .v (.sl (.int .i64)) a1.2.2.2.2.2.2] 107]⟩ (tn 7) ?_
          refine spB 38 h (fun h => ?_) (fun h => ?_)
          · refine sG T_ok 7 [2, 3, 45] [0, 1] ⟨[(2, .lf (.ptr 0 0 0 0)), (3, .lf (.ptr 1 0 0 0)), (45, B (a0.2.2.2.2.2.1 == a1.2.2.2.2.2.1))], [bx [.v (.int .i64) a0.1, .v .str a0.2.1, .v (.int .i64) a0.2.2.1, .v (.int .i64) a0.2.2.2.1, .v (.int .i64) a0.2.2.2.2.1, .v .bool a0.2.2.2.2.2.1, .v (.sl (.int .i64)) a0.2.2.2.2.2.2] 107, bx [.v (.int .i64) a1.1, .v .str a1.2.1, .v (.int .i64) a1.2.2.1, .v (.int .i64) a1.2.2.2.1, .v (.int .i64) a1.2.2.2.2.1, .v .bool a1.2.2.2.2.2.1, .v (.sl (.int .i64)) a1.2.2.2.2.2.2] 107]⟩ (tn 7) ?_
            refine spB 45 h (fun h => ?_) (fun h => ?_)
            · refine sG T_ok 4 [45, 47, 49] [] ⟨[(45, B true), (47, .lf (.v (.sl (.int .i64)) a0.2.2.2.2.2.2)), (49, .lf (.v (.sl (.int .i64)) a1.2.2.2.2.2.2))], []⟩ (tn 4) ?_
              refine VO.on (j := 40) (want := true) (d := 45) (b := true) rfl rfl rfl (by kernel_rfl) rfl ?_
              obtain ⟨y1, hy, h⟩ := andO_some h
              refine cal false [.t (.sl (.int .i64)), .t (.sl (.int .i64))] [] (some 50) T_ok (ok187 N _ _ hy) ?_
              refine sN T_ok [4] [] ⟨[(4, B y1)], []⟩ (tn 2) ?_
              refine VW.ret ?_
              replace h := Option.some.inj h
              subst h
              exact rt []
            refine sN T_ok [4] [] ⟨[(4, B false)], []⟩ (tn 7) ?_
            refine VW.ret ?_
            replace h := Option.some.inj h
            subst h
            exact rt []
          refine sN T_ok [4] [] ⟨[(4, B false)], []⟩ (tn 14) ?_
          refine VW.ret ?_
          replace h := Option.some.inj h
          subst h
          exact rt []
        refine sN T_ok [4] [] ⟨[(4, B false)], []⟩ (tn 21) ?_
        refine VW.ret ?_
        replace h := Option.some.inj h
        subst h
        exact rt []
      refine sN T_ok [4] [] ⟨[(4, B false)], []⟩ (tn 28) ?_
      refine VW.ret ?_
      replace h := Option.some.inj h
      subst h
      exact rt []
    refine sN T_ok [4] [] ⟨[(4, B false)], []⟩ (tn 35) ?_
    refine VW.ret ?_
    replace h := Option.some.inj h
    subst h
    exact rt []
  refine sN T_ok [4] [] ⟨[(4, B false)], []⟩ (tn 42) ?_
  refine VW.ret ?_
  replace h := Option.some.inj h
  subst h
  exact rt []

/- loop.example/g00844/impl.isNum -/
def F152 (N : Nat) (a0 : Int) : Option (Bool) :=
  andO (F130 N a0 (-1000000 : Int) (1000000 : Int)) fun y1 => some y1
theorem ok152 (N : Nat) (a0 : Int) {r : Bool} (h : F152 N a0 = some r) : Con Go.Proofs.Try.prog 152 [I a0] [.lf (.v .bool r)] := by
  refine ctr [.lf (.v .bool)] T_ok Go.Proofs.Try.func152 rfl fun w0 E0 ht => ?_
  unfold F152 at h
  show VW _ _ _ _ _ (retQ _ _ _ _) _
  refine sR T_ok [0] [] ⟨[(0, I a0)], []⟩ (tn 1) ?_
  refine VW.seq ?_
  refine VW.region ?_
  refine sG T_ok 1 [3] [] ⟨[(3, I a0)], []⟩ (tn 1) ?_
  obtain ⟨y1, hy, h⟩ := andO_some h
  refine cal false [.t (.int .i64), .t (.int .i64), .t (.int .i64)] [] (some 4) T_ok (ok130 N _ _ _ hy) ?_
  refine sN T_ok [2] [] ⟨[(2, B y1)], []⟩ (tn 1) ?_
  refine VW.ret ?_
  replace h := Option.some.inj h
  subst h
  exact rt []

/- loop.example/g00844/impl.isCol -/
def F194 (N : Nat) (a0 : Int) : Option (Bool) :=
  andO (F130 N a0 (0 : Int) (63 : Int)) fun y1 => some y1
theorem ok194 (N : Nat) (a0 : Int) {r : Bool} (h : F194 N a0 = some r) : Con Go.Proofs.Try.prog 194 [I a0] [.lf (.v .bool r)] := by
  refine ctr [.lf (.v .bool)] T_ok Go.Proofs.Try.func194 rfl fun w0 E0 ht => ?_
  unfold F194 at h
  show VW _ _ _ _ _ (retQ _ _ _ _) _
  refine sR T_ok [0] [] ⟨[(0, I a0)], []⟩ (tn 1) ?_
  refine VW.seq ?_
  refine VW.region ?_
  refine sG T_ok 1 [3] [] ⟨[(3, I a0)], []⟩ (tn 1) ?_
  obtain ⟨y1, hy, h⟩ := andO_some h
  refine cal false [.t (.int .i64), .t (.int .i64), .t (.int .i64)] [] (some 4) T_ok (ok130 N _ _ _ hy) ?_
  refine sN T_ok [2] [] ⟨[(2, B y1)], []⟩ (tn 1) ?_
  refine VW.ret ?_
  replace h := Option.some.inj h
  subst h
  exact rt []

/- loop.example/g00844/impl.isSlot -/
def F195 (N : Nat) (a0 : Int) : Option (Bool) :=
  andO (F130 N a0 (0 : Int) (39 : Int)) fun y1 => some y1
theorem ok195 (N : Nat) (a0 : Int) {r : Bool} (h : F195 N a0 = some r) : Con Go.Proofs.Try.prog 195 [I a0] [.lf (.v .bool r)] := by
  refine ctr [.lf (.v .bool)] T_ok Go.Proofs.Try.func195 rfl fun w0 E0 ht => ?_
  unfold F195 at h
  show VW _ _ _ _ _ (retQ _ _ _ _) _
  refine sR T_ok [0] [] ⟨[(0, I a0)], []⟩ (tn 1) ?_
  refine VW.seq ?_
  refine VW.region ?_
  refine sG T_ok 1 [3] [] ⟨[(3, I a0)], []⟩ (tn 1) ?_
  obtain ⟨y1, hy, h⟩ := andO_some h
  refine cal false [.t (.int .i64), .t (.int .i64), .t (.int .i64)] [] (some 4) T_ok (ok130 N _ _ _ hy) ?_
  refine sN T_ok [2] [] ⟨[(2, B y1)], []⟩ (tn 1) ?_
  refine VW.ret ?_
  replace h := Option.some.inj h
  subst h
  exact rt []

/- slices.IndexFunc[[]int,int] -/
def F218_j0 (N : Nat) : Option (Int) :=
  some (-1 : Int)
def F218_l0_b (N : Nat) (a0 : (List Int)) (p1 : Int → Option (Bool)) (nx29 : Int → Int → Option (Int)) (x23 : Int) (x24 : Int) : Option (Int) :=
  cond (decide (x24 < x23)) (gd (InR x24 a0.length) (andO (p1 (a0.getD x24.toNat (Ty.dflt (.int .i64)))) fun y33 => cond y33 (some x24) (nx29 x23 (IntKind.i64.wrap (x24 + (1 : Int)))))) (F218_j0 N)
def F218_l0 (N : Nat) (a0 : (List Int)) (p1 : Int → Option (Bool)) : Nat → Int → Int → Option (Int) := loopF (F218_l0_b N a0 p1) (fun _ _ => none)
theorem F218_l0_s (N : Nat) (a0 : (List Int)) (p1 : Int → Option (Bool)) {k : Nat} (hk : 0 < k) (x23 : Int) (x24 : Int) : F218_l0 N a0 p1 k x23 x24 = F218_l0_b N a0 p1 (F218_l0 N a0 p1 (k - 1)) x23 x24 := by
  cases k with
  | zero => exact absurd hk (Nat.lt_irrefl 0)
  | succ m => rfl
def F218 (N : Nat) (a0 : (List Int)) (p1 : Int → Option (Bool)) : Option (Int) :=
  F218_l0 N a0 p1 N (a0.length : Int) (0 : Int)
theorem ok218 (N : Nat) (a0 : (List Int)) (g1 : FuncId) (p1 : Int → Option (Bool)) (hp1 : ∀ (z0 : Int) (r : Bool), p1 z0 = some r → Con Go.Proofs.Try.prog g1 [I z0] [.lf (.v .bool r)]) {r : Int} (h : F218 N a0 p1 = some r) : Con Go.Proofs.Try.prog 218 [.lf (.v (.sl (.int .i64)) a0), .clo g1 []] [.lf (.v (.int .i64) r)] := by
  refine ctr [.lf (.v (.int .i64))] T_ok Go.Proofs.Try.func218 rfl fun w0 E0 ht => ?_
  unfold F218 at h
  show VW _ _ _ _ _ (retQ _ _ _ _) _
  refine sR T_ok [0, 1] [] ⟨[(0, .lf (.v (.sl (.int .i64)) a0)), (1, .clo g1 [])], []⟩ (tn 1) ?_
  refine VW.join (fun s => s = ⟨[], []⟩ ∧ F218_j0 N = some r) ?_ ?_
  · refine sR T_ok [0, 1, 7, 8] [] ⟨[(0, .lf (.v (.sl (.int .i64)) a0)), (1, .clo g1 []), (7, I (a0.length : Int)), (8, I (0 : Int))], []⟩ (tn 3) ?_
    refine VW.block ?_
    refine lop (fun k s => ∃ (x23 : Int) (x24 : Int), s = ⟨[(0, .lf (.v (.sl (.int .i64)) a0)), (1, .clo g1 []), (7, I x23), (8, I x24)], []⟩ ∧ F218_l0 N a0 p1 k x23 x24 = some r) N [.ren [0, 1, 7, 8] []] ⟨(a0.length : Int), (0 : Int), rfl, h⟩ ?_
    rintro k29 s ⟨x23, x24, rfl, h⟩
    cases k29 with
    | zero => cases show none = some r from h
    | succ k29 =>
      replace h : F218_l0_b N a0 p1 (F218_l0 N a0 p1 k29) x23 x24 = some r := h
      unfold F218_l0_b at h
      refine sR T_ok [0, 1, 7, 8, 9] [] ⟨[(0, .lf (.v (.sl (.int .i64)) a0)), (1, .clo g1 []), (7, I x23), (8, I x24), (9, B (decide (x24 < x23)))], []⟩ (tn 1) ?_
      refine VW.seq ?_
      refine cnd h (fun h => ?_) (fun h => ?_)
      · refine VW.skip ?_
        refine VW.seq ?_
        refine VW.block ?_
        refine sR T_ok [0, 1, 5, 7, 8] [] ⟨[(0, .lf (.v (.sl (.int .i64)) a0)), (1, .clo g1 []), (5, I x24), (7, I x23), (8, I x24)], []⟩ (tn 2) ?_
        refine VW.seq ?_
        refine VW.region ?_
        obtain ⟨g32, h⟩ := gd_some h
        refine sG T_ok 5 [0, 1, 5, 7, 8, 11, 15] [] ⟨[(0, .lf (.v (.sl (.int .i64)) a0)), (1, .clo g1 []), (5, I x24), (7, I x23), (8, I x24), (11, .clo g1 []), (15, I (a0.getD x24.toNat (Ty.dflt (.int .i64))))], []⟩ (pu 3 (an g32 (tn 1))) ?_
        obtain ⟨y33, hy, h⟩ := andO_some h
        refine cal false [.t (.int .i64)] [] (some 16) T_ok (hp1 _ _ hy) ?_
        refine sN T_ok [0, 1, 5, 7, 8, 16] [] ⟨[(0, .lf (.v (.sl (.int .i64)) a0)), (1, .clo g1 []), (5, I x24), (7, I x23), (8, I x24), (16, B y33)], []⟩ (tn 0) ?_
        refine cnd h (fun h => ?_) (fun h => ?_)
        · refine sR T_ok [4] [] ⟨[(4, I x24)], []⟩ (tn 2) ?_
          refine VW.ret ?_
          replace h := Option.some.inj h
          subst h
          exact rt []
        refine VW.skip ?_
        refine rR T_ok [0, 1, 7, 8] [] ⟨[(0, .lf (.v (.sl (.int .i64)) a0)), (1, .clo g1 []), (7, I x23), (8, I (IntKind.i64.wrap (x24 + (1 : Int))))], []⟩ (tn 2) ?_
        exact aro [.ren [0, 1, 7, 8] []] ⟨x23, (IntKind.i64.wrap (x24 + (1 : Int))), rfl, h⟩
      refine VW.exit ?_
      exact arv [.ren [] []] ⟨rfl, h⟩
  rintro s ⟨rfl, h⟩
  unfold F218_j0 at h
  refine sR T_ok [4] [] ⟨[(4, I (-1 : Int))], []⟩ (tn 1) ?_
  refine VW.ret ?_
  replace h := Option.some.inj h
  subst h
  exact rt []

/- slices.ContainsFunc[[]int,int] -/
def F196 (N : Nat) (a0 : (List Int)) (p1 : Int → Option (Bool)) : Option (Bool) :=
  andO (F218 N a0 p1) fun y1 => some (decide (y1 ≥ (0 : Int)))
theorem ok196 (N : Nat) (a0 : (List Int)) (g1 : FuncId) (p1 : Int → Option (Bool)) (hp1 : ∀ (z0 : Int) (r : Bool), p1 z0 = some r → Con Go.Proofs.Try.prog g1 [I z0] [.lf (.v .bool r)]) {r : Bool} (h : F196 N a0 p1 = some r) : Con Go.Proofs.Try.prog 196 [.lf (.v (.sl (.int .i64)) a0), .clo g1 []] [.lf (.v .bool r)] := by
  refine ctr [.lf (.v .bool)] T_ok Go.Proofs.Try.func196 rfl fun w0 E0 ht => ?_
  unfold F196 at h
  show VW _ _ _ _ _ (retQ _ _ _ _) _
  refine sR T_ok [0, 1] [] ⟨[(0, .lf (.v (.sl (.int .i64)) a0)), (1, .clo g1 [])], []⟩ (tn 1) ?_
  refine VW.seq ?_
  refine VW.region ?_
  refine sG T_ok 2 [5, 6] [] ⟨[(5, .lf (.v (.sl (.int .i64)) a0)), (6, .clo g1 [])], []⟩ (tn 2) ?_
  obtain ⟨y1, hy, h⟩ := andO_some h
  refine cal false [.t (.sl (.int .i64)), .clo []] [] (some 7) T_ok (ok218 N _ g1  p1 hp1 hy) ?_
  refine sN T_ok [4] [] ⟨[(4, B (decide (y1 ≥ (0 : Int))))], []⟩ (tn 2) ?_
  refine VW.ret ?_
  replace h := Option.some.inj h
  subst h
  exact rt []

/- loop.example/g00844/impl.NodeOk$1 -/
def F197 (N : Nat) (a0 : Int) : Option (Bool) :=
  andO (F194 N a0) fun y1 => some (!y1)
theorem ok197 (N : Nat) (a0 : Int) {r : Bool} (h : F197 N a0 = some r) : Con Go.Proofs.Try.prog 197 [I a0] [.lf (.v .bool r)] := by
  refine ctr [.lf (.v .bool)] T_ok Go.Proofs.Try.func197 rfl fun w0 E0 ht => ?_
  unfold F197 at h
  show VW _ _ _ _ _ (retQ _ _ _ _) _
  refine sR T_ok [0] [] ⟨[(0, I a0)], []⟩ (tn 1) ?_
  refine VW.seq ?_
  refine VW.region ?_
  refine sG T_ok 1 [3] [] ⟨[(3, I a0)], []⟩ (tn 1) ?_
  obtain ⟨y1, hy, h⟩ := andO_some h
  refine cal false [.t (.int .i64)] [] (some 4) T_ok (ok194 N _ hy) ?_
  refine sN T_ok [2] [] ⟨[(2, B (!y1))], []⟩ (tn 2) ?_
  refine VW.ret ?_
  replace h := Option.some.inj h
  subst h
  exact rt []

/- loop.example/g00844/impl.NodeOk -/
def F147_j0 (N : Nat) (x38 : ByteArray) (x39 : Int) (x40 : Int) (x41 : Int) (x42 : Bool) (x43 : (List Int)) (x44 : Bool) : Option (Bool) :=
  cond x44 (andO (F133 N ((0 : Int), (x38, (x39, (x40, (x41, (x42, x43)))))) ((0 : Int), (ByteArray.empty, ((0 : Int), ((0 : Int), ((0 : Int), (false, []))))))) fun y45 => some y45) (some false)
def F147_j1 (N : Nat) (x52 : ByteArray) (x53 : Int) (x54 : Int) (x55 : Int) (x56 : Bool) (x57 : (List Int)) (x58 : Bool) : Option (Bool) :=
  F147_j0 N x52 (0 : Int) (0 : Int) (0 : Int) false x57 x58
def F147_j2 (N : Nat) (x62 : ByteArray) (x63 : Int) (x64 : Int) (x65 : Int) (x66 : Bool) (x67 : (List Int)) : Option (Bool) :=
  F147_j0 N x62 (0 : Int) (0 : Int) (0 : Int) false x67 false
def F147_j3 (N : Nat) (x76 : ByteArray) (x77 : Int) (x78 : Int) (x79 : Int) (x80 : Bool) (x81 : (List Int)) (x82 : Bool) : Option (Bool) :=
  cond x82 (F147_j0 N x76 x77 x78 x79 x80 x81 true) (F147_j0 N x76 x77 x78 x79 x80 x81 false)
def F147 (N : Nat) (a0 : (Int × (ByteArray × (Int × (Int × (Int × (Bool × (List Int)))))))) : Option (Bool) :=
  cond (a0.1 == (0 : Int)) (andO (F140 N a0.2.1) fun y47 => F147_j0 N ByteArray.empty a0.2.2.1 a0.2.2.2.1 a0.2.2.2.2.1 a0.2.2.2.2.2.1 a0.2.2.2.2.2.2 y47) (cond (a0.1 == (1 : Int)) (andO (F194 N a0.2.2.1) fun y48 => cond y48 (andO (F130 N a0.2.2.2.1 (0 : Int) (3 : Int)) fun y49 => cond (a0.2.2.2.1 == (3 : Int)) (cond y49 (cond (a0.2.2.2.2.1 == (0 : Int)) (F147_j1 N a0.2.1 a0.2.2.1 a0.2.2.2.1 a0.2.2.2.2.1 a0.2.2.2.2.2.1 a0.2.2.2.2.2.2 (!a0.2.2.2.2.2.1)) (F147_j1 N a0.2.1 a0.2.2.1 a0.2.2.2.1 a0.2.2.2.2.1 a0.2.2.2.2.2.1 a0.2.2.2.2.2.2 false)) (F147_j1 N a0.2.1 a0.2.2.1 a0.2.2.2.1 a0.2.2.2.2.1 a0.2.2.2.2.2.1 a0.2.2.2.2.2.2 false)) (cond a0.2.2.2.2.2.1 (cond y49 (andO (F195 N a0.2.2.2.2.1) fun y60 => F147_j1 N a0.2.1 a0.2.2.1 a0.2.2.2.1 a0.2.2.2.2.1 a0.2.2.2.2.2.1 a0.2.2.2.2.2.2 y60) (F147_j1 N a0.2.1 a0.2.2.1 a0.2.2.2.1 a0.2.2.2.2.1 a0.2.2.2.2.2.1 a0.2.2.2.2.2.2 false)) (cond y49 (andO (F152 N a0.2.2.2.2.1) fun y61 => F147_j1 N a0.2.1 a0.2.2.1 a0.2.2.2.1 a0.2.2.2.2.1 a0.2.2.2.2.2.1 a0.2.2.2.2.2.2 y61) (F147_j1 N a0.2.1 a0.2.2.1 a0.2.2.2.1 a0.2.2.2.2.1 a0.2.2.2.2.2.1 a0.2.2.2.2.2.2 false)))) (cond (a0.2.2.2.1 == (3 : Int)) (F147_j2 N a0.2.1 a0.2.2.1 a0.2.2.2.1 a0.2.2.2.2.1 a0.2.2.2.2.2.1 a0.2.2.2.2.2.2) (cond a0.2.2.2.2.2.1 (F147_j2 N a0.2.1 a0.2.2.1 a0.2.2.2.1 a0.2.2.2.2.1 a0.2.2.2.2.2.1 a0.2.2.2.2.2.2) (F147_j2 N a0.2.1 a0.2.2.1 a0.2.2.2.1 a0.2.2.2.2.1 a0.2.2.2.2.2.1 a0.2.2.2.2.2.2)))) (cond (a0.1 == (2 : Int)) (andO (F130 N (a0.2.2.2.2.2.2.length : Int) (1 : Int) (6 : Int)) fun y69 => cond y69 (andO (F196 N a0.2.2.2.2.2.2 (fun z0 => F197 N z0)) fun y70 => F147_j0 N a0.2.1 a0.2.2.1 a0.2.2.2.1 a0.2.2.2.2.1 a0.2.2.2.2.2.1 ([]) (!y70)) (F147_j0 N a0.2.1 a0.2.2.1 a0.2.2.2.1 a0.2.2.2.2.1 a0.2.2.2.2.2.1 ([]) false)) (cond (a0.1 == (3 : Int)) (andO (F194 N a0.2.2.1) fun y71 => cond y71 (andO (F194 N a0.2.2.2.2.1) fun y72 => F147_j0 N a0.2.1 (0 : Int) a0.2.2.2.1 (0 : Int) a0.2.2.2.2.2.1 a0.2.2.2.2.2.2 y72) (F147_j0 N a0.2.1 (0 : Int) a0.2.2.2.1 (0 : Int) a0.2.2.2.2.2.1 a0.2.2.2.2.2.2 false)) (cond (a0.1 == (5 : Int)) (andO (F194 N a0.2.2.1) fun y73 => F147_j0 N a0.2.1 (0 : Int) a0.2.2.2.1 a0.2.2.2.2.1 a0.2.2.2.2.2.1 a0.2.2.2.2.2.2 y73) (cond (a0.1 == (6 : Int)) (andO (F130 N a0.2.2.2.2.1 (0 : Int) (1000000 : Int)) fun y74 => cond y74 (cond (!a0.2.2.2.2.2.1) (F147_j0 N a0.2.1 a0.2.2.1 a0.2.2.2.1 (0 : Int) false a0.2.2.2.2.2.2 true) (andO (F195 N a0.2.2.2.2.1) fun y75 => F147_j0 N a0.2.1 a0.2.2.1 a0.2.2.2.1 (0 : Int) false a0.2.2.2.2.2.2 y75)) (F147_j0 N a0.2.1 a0.2.2.1 a0.2.2.2.1 (0 : Int) false a0.2.2.2.2.2.2 false)) (cond (a0.1 == (4 : Int)) (F147_j3 N a0.2.1 a0.2.2.1 a0.2.2.2.1 a0.2.2.2.2.1 a0.2.2.2.2.2.1 a0.2.2.2.2.2.2 (a0.1 == (4 : Int))) (F147_j3 N a0.2.1 a0.2.2.1 a0.2.2.2.1 a0.2.2.2.2.1 a0.2.2.2.2.2.1 a0.2.2.2.2.2.2 (a0.1 == (7 : Int)))))))))
theorem ok147 (N : Nat) (a0 : (Int × (ByteArray × (Int × (Int × (Int × (Bool × (List Int)))))))) {r : Bool} (h : F147 N a0 = some r) : Con Go.Proofs.Try.prog 147 [.agg [.v (.int .i64) a0.1, .v .str a0.2.1, .v (.int .i64) a0.2.2.1, .v (.int .i64) a0.2.2.2.1, .v (.int .i64) a0.2.2.2.2.1, .v .bool a0.2.2.2.2.2.1, .v (.sl (.int .i64)) a0.2.2.2.2.2.2]] [.lf (.v .bool r)] := by
  refine ctr [.lf (.v .bool)] T_ok Go.Proofs.Try.func147 rfl fun w0 E0 ht => ?_
  unfold F147 at h
  show VW _ _ _ _ _ (retQ _ _ _ _) _
  refine sR T_ok [1] [0] ⟨[(1, .lf (.ptr 0 0 0 0))], [bx [.v (.int .i64) a0.1, .v .str a0.2.1, .v (.int .i64) a0.2.2.1, .v (.int .i64) a0.2.2.2.1, .v (.int .i64) a0.2.2.2.2.1, .v .bool a0.2.2.2.2.2.1, .v (.sl (.int .i64)) a0.2.2.2.2.2.2] 107]⟩ (tn 2) ?_
  refine sR T_ok [1, 3] [0, 1] ⟨[(1, .lf (.ptr 0 0 0 0)), (3, .lf (.ptr 1 0 0 0))], [bx [.v (.int .i64) a0.1, .v .str a0.2.1, .v (.int .i64) a0.2.2.1, .v (.int .i64) a0.2.2.2.1, .v (.int .i64) a0.2.2.2.2.1, .v .bool a0.2.2.2.2.2.1, .v (.sl (.int .i64)) a0.2.2.2.2.2.2] 107, bx [.v (.int .i64) a0.1, .v .str a0.2.1, .v (.int .i64) a0.2.2.1, .v (.int .i64) a0.2.2.2.1, .v (.int .i64) a0.2.2.2.2.1, .v .bool a0.2.2.2.2.2.1, .v (.sl (.int .i64)) a0.2.2.2.2.2.2] 107]⟩ (tn 3) ?_
  refine sR T_ok [1, 3] [0, 1] ⟨[(1, .lf (.ptr 0 0 0 0)), (3, .lf (.ptr 1 0 0 0))], [bx [.v (.int .i64) a0.1, .v .str a0.2.1, .v (.int .i64) a0.2.2.1, .v (.int .i64) a0.2.2.2.1, .v (.int .i64) a0.2.2.2.2.1, .v .bool a0.2.2.2.2.2.1, .v (.sl (.int .i64)) a0.2.2.2.2.2.2] 107, bx [.v (.int .i64) (0 : Int), .v .str a0.2.1, .v (.int .i64) a0.2.2.1, .v (.int .i64) a0.2.2.2.1, .v (.int .i64) a0.2.2.2.2.1, .v .bool a0.2.2.2.2.2.1, .v (.sl (.int .i64)) a0.2.2.2.2.2.2] 107]⟩ (tn 2) ?_
  refine sR T_ok [1, 3, 4] [0, 1] ⟨[(1, .lf (.ptr 0 0 0 0)), (3, .lf (.ptr 1 0 0 0)), (4, B false)], [bx [.v (.int .i64) a0.1, .v .str a0.2.1, .v (.int .i64) a0.2.2.1, .v (.int .i64) a0.2.2.2.1, .v (.int .i64) a0.2.2.2.2.1, .v .bool a0.2.2.2.2.2.1, .v (.sl (.int .i64)) a0.2.2.2.2.2.2] 107, bx [.v (.int .i64) (0 : Int), .v .str a0.2.1, .v (.int .i64) a0.2.2.1, .v (.int .i64) a0.2.2.2.1, .v (.int .i64) a0.2.2.2.2.1, .v .bool a0.2.2.2.2.2.1, .v (.sl (.int .i64)) a0.2.2.2.2.2.2] 107]⟩ (tn 1) ?_
  refine VW.join (fun s => ∃ (x38 : ByteArray) (x39 : Int) (x40 : Int) (x41 : Int) (x42 : Bool) (x43 : (List Int)) (x44 : Bool), s = ⟨[(3, .lf (.ptr 0 0 0 0)), (4, B x44)], [bx [.v (.int .i64) (0 : Int), .v .str x38, .v (.int .i64) x39, .v (.int .i64) x40, .v (.int .i64) x41, .v .bool x42, .v (.sl (.int .i64)) x43] 107]⟩ ∧ F147_j0 N x38 x39 x40 x41 x42 x43 x44 = some r) ?_ ?_
  · refine sR T_ok [1, 3, 4, 8] [0, 1] ⟨[(1, .lf (.ptr 0 0 0 0)), (3, .lf (.ptr 1 0 0 0)), (4, B false), (8, I a0.1)], [bx [.v (.int .i64) a0.1, .v .str a0.2.1, .v (.int .i64) a0.2.2.1, .v (.int .i64) a0.2.2.2.1, .v (.int .i64) a0.2.2.2.2.1, .v .bool a0.2.2.2.2.2.1, .v (.sl (.int .i64)) a0.2.2.2.2.2.2] 107, bx [.v (.int .i64) (0 : Int), .v .str a0.2.1, .v (.int .i64) a0.2.2.1, .v (.int .i64) a0.2.2.2.1, .v (.int .i64) a0.2.2.2.2.1, .v .bool a0.2.2.2.2.2.1, .v (.sl (.int .i64)) a0.2.2.2.2.2.2] 107]⟩ (tn 2) ?_
    refine VW.block ?_
    refine sR T_ok [1, 3, 4, 8, 9] [0, 1] ⟨[(1, .lf (.ptr 0 0 0 0)), (3, .lf (.ptr 1 0 0 0)), (4, B false), (8, I a0.1), (9, B (a0.1 == (0 : Int)))], [bx [.v (.int .i64) a0.1, .v .str a0.2.1, .v (.int .i64) a0.2.2.1, .v (.int .i64) a0.2.2.2.1, .v (.int .i64) a0.2.2.2.2.1, .v .bool a0.2.2.2.2.2.1, .v (.sl (.int .i64)) a0.2.2.2.2.2.2] 107, bx [.v (.int .i64) (0 : Int), .v .str a0.2.1, .v (.int .i64) a0.2.2.1, .v (.int .i64) a0.2.2.2.1, .v (.int .i64) a0.2.2.2.2.1, .v .bool a0.2.2.2.2.2.1, .v (.sl (.int .i64)) a0.2.2.2.2.2.2] 107]⟩ (tn 2) ?_
    refine cnd h (fun h => ?_) (fun h => ?_)
    · refine VW.seq ?_
      refine VW.region ?_
      refine sG T_ok 2 [3, 12] [1] ⟨[(3, .lf (.ptr 0 0 0 0)), (12, S a0.2.1)], [bx [.v (.int .i64) (0 : Int), .v .str a0.2.1, .v (.int .i64) a0.2.2.1, .v (.int .i64) a0.2.2.2.1, .v (.int .i64) a0.2.2.2.2.1, .v .bool a0.2.2.2.2.2.1, .v (.sl (.int .i64)) a0.2.2.2.2.2.2] 107]⟩ (tn 2) ?_
      obtain ⟨y47, hy, h⟩ := andO_some h
      refine cal false [.t .str] [] (some 13) T_ok (ok140 N _ hy) ?_
      refine sN T_ok [3, 4] [0] ⟨[(3, .lf (.ptr 0 0 0 0)), (4, B y47)], [bx [.v (.int .i64) (0 : Int), .v .str a0.2.1, .v (.int .i64) a0.2.2.1, .v (.int .i64) a0.2.2.2.1, .v (.int .i64) a0.2.2.2.2.1, .v .bool a0.2.2.2.2.2.1, .v (.sl (.int .i64)) a0.2.2.2.2.2.2] 107]⟩ (tn 1) ?_
      refine rR T_ok [3, 4] [0] ⟨[(3, .lf (.ptr 0 0 0 0)), (4, B y47)], [bx [.v (.int .i64) (0 : Int), .v .str ByteArray.empty, .v (.int .i64) a0.2.2.1, .v (.int .i64) a0.2.2.2.1, .v (.int .i64) a0.2.2.2.2.1, .v .bool a0.2.2.2.2.2.1, .v (.sl (.int .i64)) a0.2.2.2.2.2.2] 107]⟩ (tn 2) ?_
      exact arv [.ren [3, 4] [0]] ⟨ByteArray.empty, a0.2.2.1, a0.2.2.2.1, a0.2.2.2.2.1, a0.2.2.2.2.2.1, a0.2.2.2.2.2.2, y47, rfl, h⟩
    refine sR T_ok [1, 3, 4, 8, 15] [0, 1] ⟨[(1, .lf (.ptr 0 0 0 0)), (3, .lf (.ptr 1 0 0 0)), (4, B false), (8, I a0.1), (15, B (a0.1 == (1 : Int)))], [bx [.v (.int .i64) a0.1, .v .str a0.2.1, .v (.int .i64) a0.2.2.1, .v (.int .i64) a0.2.2.2.1, .v (.int .i64) a0.2.2.2.2.1, .v .bool a0.2.2.2.2.2.1, .v (.sl (.int .i64)) a0.2.2.2.2.2.2] 107, bx [.v (.int .i64) (0 : Int), .v .str a0.2.1, .v (.int .i64) a0.2.2.1, .v (.int .i64) a0.2.2.2.1, .v (.int .i64) a0.2.2.2.2.1, .v .bool a0.2.2.2.2.2.1, .v (.sl (.int .i64)) a0.2.2.2.2.2.2] 107]⟩ (tn 2) ?_
    refine cnd h (fun h => ?_) (fun h => ?_)
    · refine VW.seq ?_
      refine VW.region ?_
      refine sG T_ok 2 [1, 3, 18] [0, 1] ⟨[(1, .lf (.ptr 0 0 0 0)), (3, .lf (.ptr 1 0 0 0)), (18, I a0.2.2.1)], [bx [.v (.int .i64) a0.1, .v .str a0.2.1, .v (.int .i64) a0.2.2.1, .v (.int .i64) a0.2.2.2.1, .v (.int .i64) a0.2.2.2.2.1, .v .bool a0.2.2.2.2.2.1, .v (.sl (.int .i64)) a0.2.2.2.2.2.2] 107, bx [.v (.int .i64) (0 : Int), .v .str a0.2.1, .v (.int .i64) a0.2.2.1, .v (.int .i64) a0.2.2.2.1, .v (.int .i64) a0.2.2.2.2.1, .v .bool a0.2.2.2.2.2.1, .v (.sl (.int .i64)) a0.2.2.2.2.2.2] 107]⟩ (tn 2) ?_
      obtain ⟨y48, hy, h⟩ := andO_some h
      refine cal false [.t (.int .i64)] [] (some 19) T_ok (ok194 N _ hy) ?_
      refine sG T_ok 1 [1, 3, 20] [0, 1] ⟨[(1, .lf (.ptr 0 0 0 0)), (3, .lf (.ptr 1 0 0 0)), (20, B y48)], [bx [.v (.int .i64) a0.1, .v .str a0.2.1, .v (.int .i64) a0.2.2.1, .v (.int .i64) a0.2.2.2.1, .v (.int .i64) a0.2.2.2.2.1, .v .bool a0.2.2.2.2.2.1, .v (.sl (.int .i64)) a0.2.2.2.2.2.2] 107, bx [.v (.int .i64) (0 : Int), .v .str a0.2.1, .v (.int .i64) a0.2.2.1, .v (.int .i64) a0.2.2.2.1, .v (.int .i64) a0.2.2.2.2.1, .v .bool a0.2.2.2.2.2.1, .v (.sl (.int .i64)) a0.2.2.2.2.2.2] 107]⟩ (tn 1) ?_
      refine spB 20 h (fun h => ?_) (fun h => ?_)
      · refine sG T_ok 2 [1, 3, 20, 22] [0, 1] ⟨[(1, .lf (.ptr 0 0 0 0)), (3, .lf (.ptr 1 0 0 0)), (20, B true), (22, I a0.2.2.2.1)], [bx [.v (.int .i64) a0.1, .v .str a0.2.1, .v (.int .i64) a0.2.2.1, .v (.int .i64) a0.2.2.2.1, .v (.int .i64) a0.2.2.2.2.1, .v .bool a0.2.2.2.2.2.1, .v (.sl (.int .i64)) a0.2.2.2.2.2.2] 107, bx [.v (.int .i64) (0 : Int), .v .str a0.2.1, .v (.int .i64) a0.2.2.1, .v (.int .i64) a0.2.2.2.1, .v (.int .i64) a0.2.2.2.2.1, .v .bool a0.2.2.2.2.2.1, .v (.sl (.int .i64)) a0.2.2.2.2.2.2] 107]⟩ (tn 2) ?_
        refine VO.on (j := 3) (want := true) (d := 20) (b := true) rfl rfl rfl (by kernel_rfl) rfl ?_
        obtain ⟨y49, hy, h⟩ := andO_some h
        refine cal false [.t (.int .i64), .t (.int .i64), .t (.int .i64)] [] (some 23) T_ok (ok130 N _ _ _ hy) ?_
        refine sN T_ok [1, 3, 4] [0, 1] ⟨[(1, .lf (.ptr 0 0 0 0)), (3, .lf (.ptr 1 0 0 0)), (4, B y49)], [bx [.v (.int .i64) a0.1, .v .str a0.2.1, .v (.int .i64) a0.2.2.1, .v (.int .i64) a0.2.2.2.1, .v (.int .i64) a0.2.2.2.2.1, .v .bool a0.2.2.2.2.2.1, .v (.sl (.int .i64)) a0.2.2.2.2.2.2] 107, bx [.v (.int .i64) (0 : Int), .v .str a0.2.1, .v (.int .i64) a0.2.2.1, .v (.int .i64) a0.2.2.2.1, .v (.int .i64) a0.2.2.2.2.1, .v .bool a0.2.2.2.2.2.1, .v (.sl (.int .i64)) a0.2.2.2.2.2.2] 107]⟩ (tn 2) ?_
        refine VW.join (fun s => ∃ (x52 : ByteArray) (x53 : Int) (x54 : Int) (x55 : Int) (x56 : Bool) (x57 : (List Int)) (x58 : Bool), s = ⟨[(3, .lf (.ptr 0 0 0 0)), (4, B x58)], [bx [.v (.int .i64) (0 : Int), .v .str x52, .v (.int .i64) x53, .v (.int .i64) x54, .v (.int .i64) x55, .v .bool x56, .v (.sl (.int .i64)) x57] 107]⟩ ∧ F147_j1 N x52 x53 x54 x55 x56 x57 x58 = some r) ?_ ?_
        · refine VW.block ?_
          refine sR T_ok [1, 3, 4, 31] [0, 1] ⟨[(1, .lf (.ptr 0 0 0 0)), (3, .lf (.ptr 1 0 0 0)), (4, B y49), (31, B (a0.2.2.2.1 == (3 : Int)))], [bx [.v (.int .i64) a0.1, .v .str a0.2.1, .v (.int .i64) a0.2.2.1, .v (.int .i64) a0.2.2.2.1, .v (.int .i64) a0.2.2.2.2.1, .v .bool a0.2.2.2.2.2.1, .v (.sl (.int .i64)) a0.2.2.2.2.2.2] 107, bx [.v (.int .i64) (0 : Int), .v .str a0.2.1, .v (.int .i64) a0.2.2.1, .v (.int .i64) a0.2.2.2.1, .v (.int .i64) a0.2.2.2.2.1, .v .bool a0.2.2.2.2.2.1, .v (.sl (.int .i64)) a0.2.2.2.2.2.2] 107]⟩ (tn 4) ?_
          refine cnd h (fun h => ?_) (fun h => ?_)
          · refine VW.region ?_
            refine sG T_ok 2 [1, 3, 36] [0, 1] ⟨[(1, .lf (.ptr 0 0 0 0)), (3, .lf (.ptr 1 0 0 0)), (36, B y49)], [bx [.v (.int .i64) a0.1, .v .str a0.2.1, .v (.int .i64) a0.2.2.1, .v (.int .i64) a0.2.2.2.1, .v (.int .i64) a0.2.2.2.2.1, .v .bool a0.2.2.2.2.2.1, .v (.sl (.int .i64)) a0.2.2.2.2.2.2] 107, bx [.v (.int .i64) (0 : Int), .v .str a0.2.1, .v (.int .i64) a0.2.2.1, .v (.int .i64) a0.2.2.2.1, .v (.int .i64) a0.2.2.2.2.1, .v .bool a0.2.2.2.2.2.1, .v (.sl (.int .i64)) a0.2.2.2.2.2.2] 107]⟩ (tn 2) ?_
            refine spB 36 h (fun h => ?_) (fun h => ?_)
            · refine sG T_ok 5 [1, 3, 41] [0, 1] ⟨[(1, .lf (.ptr 0 0 0 0)), (3, .lf (.ptr 1 0 0 0)), (41, B (a0.2.2.2.2.1 == (0 : Int)))], [bx [.v (.int .i64) a0.1, .v .str a0.2.1, .v (.int .i64) a0.2.2.1, .v (.int .i64) a0.2.2.2.1, .v (.int .i64) a0.2.2.2.2.1, .v .bool a0.2.2.2.2.2.1, .v (.sl (.int .i64)) a0.2.2.2.2.2.2] 107, bx [.v (.int .i64) (0 : Int), .v .str a0.2.1, .v (.int .i64) a0.2.2.1, .v (.int .i64) a0.2.2.2.1, .v (.int .i64) a0.2.2.2.2.1, .v .bool a0.2.2.2.2.2.1, .v (.sl (.int .i64)) a0.2.2.2.2.2.2] 107]⟩ (tn 5) ?_
              refine spB 41 h (fun h => ?_) (fun h => ?_)
              · refine sN T_ok [3, 4] [1] ⟨[(3, .lf (.ptr 0 0 0 0)), (4, B (!a0.2.2.2.2.2.1))], [bx [.v (.int .i64) (0 : Int), .v .str a0.2.1, .v (.int .i64) a0.2.2.1, .v (.int .i64) a0.2.2.2.1, .v (.int .i64) a0.2.2.2.2.1, .v .bool a0.2.2.2.2.2.1, .v (.sl (.int .i64)) a0.2.2.2.2.2.2] 107]⟩ (tn 5) ?_
                exact arv [.ren [3, 4] [0]] ⟨a0.2.1, a0.2.2.1, a0.2.2.2.1, a0.2.2.2.2.1, a0.2.2.2.2.2.1, a0.2.2.2.2.2.2, (!a0.2.2.2.2.2.1), rfl, h⟩
              refine sN T_ok [3, 4] [1] ⟨[(3, .lf (.ptr 0 0 0 0)), (4, B false)], [bx [.v (.int .i64) (0 : Int), .v .str a0.2.1, .v (.int .i64) a0.2.2.1, .v (.int .i64) a0.2.2.2.1, .v (.int .i64) a0.2.2.2.2.1, .v .bool a0.2.2.2.2.2.1, .v (.sl (.int .i64)) a0.2.2.2.2.2.2] 107]⟩ (tn 5) ?_
              exact arv [.ren [3, 4] [0]] ⟨a0.2.1, a0.2.2.1, a0.2.2.2.1, a0.2.2.2.2.1, a0.2.2.2.2.2.1, a0.2.2.2.2.2.2, false, rfl, h⟩
            refine sN T_ok [3, 4] [1] ⟨[(3, .lf (.ptr 0 0 0 0)), (4, B false)], [bx [.v (.int .i64) (0 : Int), .v .str a0.2.1, .v (.int .i64) a0.2.2.1, .v (.int .i64) a0.2.2.2.1, .v (.int .i64) a0.2.2.2.2.1, .v .bool a0.2.2.2.2.2.1, .v (.sl (.int .i64)) a0.2.2.2.2.2.2] 107]⟩ (tn 10) ?_
            exact arv [.ren [3, 4] [0]] ⟨a0.2.1, a0.2.2.1, a0.2.2.2.1, a0.2.2.2.2.1, a0.2.2.2.2.2.1, a0.2.2.2.2.2.2, false, rfl, h⟩
          refine sR T_ok [1, 3, 4, 46] [0, 1] ⟨[(1, .lf (.ptr 0 0 0 0)), (3, .lf (.ptr 1 0 0 0)), (4, B y49), (46, B a0.2.2.2.2.2.1)], [bx [.v (.int .i64) a0.1, .v .str a0.2.1, .v (.int .i64) a0.2.2.1, .v (.int .i64) a0.2.2.2.1, .v (.int .i64) a0.2.2.2.2.1, .v .bool a0.2.2.2.2.2.1, .v (.sl (.int .i64)) a0.2.2.2.2.2.2] 107, bx [.v (.int .i64) (0 : Int), .v .str a0.2.1, .v (.int .i64) a0.2.2.1, .v (.int .i64) a0.2.2.2.1, .v (.int .i64) a0.2.2.2.2.1, .v .bool a0.2.2.2.2.2.1, .v (.sl (.int .i64)) a0.2.2.2.2.2.2] 107]⟩ (tn 3) ?_
          refine cnd h (fun h => ?_) (fun h => ?_)
          · refine VW.region ?_
            refine sG T_ok 2 [1, 3, 50] [0, 1] ⟨[(1, .lf (.ptr 0 0 0 0)), (3, .lf (.ptr 1 0 0 0)), (50, B y49)], [bx [.v (.int .i64) a0.1, .v .str a0.2.1, .v (.int .i64) a0.2.2.1, .v (.int .i64) a0.2.2.2.1, .v (.int .i64) a0.2.2.2.2.1, .v .bool a0.2.2.2.2.2.1, .v (.sl (.int .i64)) a0.2.2.2.2.2.2] 107, bx [.v (.int .i64) (0 : Int), .v .str a0.2.1, .v (.int .i64) a0.2.2.1, .v (.int .i64) a0.2.2.2.1, .v (.int .i64) a0.2.2.2.2.1, .v .bool a0.2.2.2.2.2.1, .v (.sl (.int .i64)) a0.2.2.2.2.2.2] 107]⟩ (tn 2) ?_
            refine spB 50 h (fun h => ?_) (fun h => ?_)
            · refine sG T_ok 2 [3, 50, 52] [1] ⟨[(3, .lf (.ptr 0 0 0 0)), (50, B true), (52, I a0.2.2.2.2.1)], [bx [.v (.int .i64) (0 : Int), .v .str a0.2.1, .v (.int .i64) a0.2.2.1, .v (.int .i64) a0.2.2.2.1, .v (.int .i64) a0.2.2.2.2.1, .v .bool a0.2.2.2.2.2.1, .v (.sl (.int .i64)) a0.2.2.2.2.2.2] 107]⟩ (tn 2) ?_
              refine VO.on (j := 1) (want := true) (d := 50) (b := true) rfl rfl rfl (by kernel_rfl) rfl ?_
              obtain ⟨y60, hy, h⟩ := andO_some h
              refine cal false [.t (.int .i64)] [] (some 53) T_ok (ok195 N _ hy) ?_
              refine sN T_ok [3, 4] [0] ⟨[(3, .lf (.ptr 0 0 0 0)), (4, B y60)], [bx [.v (.int .i64) (0 : Int), .v .str a0.2.1, .v (.int .i64) a0.2.2.1, .v (.int .i64) a0.2.2.2.1, .v (.int .i64) a0.2.2.2.2.1, .v .bool a0.2.2.2.2.2.1, .v (.sl (.int .i64)) a0.2.2.2.2.2.2] 107]⟩ (tn 2) ?_
              exact arv [.ren [3, 4] [0]] ⟨a0.2.1, a0.2.2.1, a0.2.2.2.1, a0.2.2.2.2.1, a0.2.2.2.2.2.1, a0.2.2.2.2.2.2, y60, rfl, h⟩
            refine sN T_ok [3, 4] [1] ⟨[(3, .lf (.ptr 0 0 0 0)), (4, B false)], [bx [.v (.int .i64) (0 : Int), .v .str a0.2.1, .v (.int .i64) a0.2.2.1, .v (.int .i64) a0.2.2.2.1, .v (.int .i64) a0.2.2.2.2.1, .v .bool a0.2.2.2.2.2.1, .v (.sl (.int .i64)) a0.2.2.2.2.2.2] 107]⟩ (tn 5) ?_
            exact arv [.ren [3, 4] [0]] ⟨a0.2.1, a0.2.2.1, a0.2.2.2.1, a0.2.2.2.2.1, a0.2.2.2.2.2.1, a0.2.2.2.2.2.2, false, rfl, h⟩
          refine VW.region ?_
          refine sG T_ok 2 [1, 3, 26] [0, 1] ⟨[(1, .lf (.ptr 0 0 0 0)), (3, .lf (.ptr 1 0 0 0)), (26, B y49)], [bx [.v (.int .i64) a0.1, .v .str a0.2.1, .v (.int .i64) a0.2.2.1, .v (.int .i64) a0.2.2.2.1, .v (.int .i64) a0.2.2.2.2.1, .v .bool a0.2.2.2.2.2.1, .v (.sl (.int .i64)) a0.2.2.2.2.2.2] 107, bx [.v (.int .i64) (0 : Int), .v .str a0.2.1, .v (.int .i64) a0.2.2.1, .v (.int .i64) a0.2.2.2.1, .v (.int .i64) a0.2.2.2.2.1, .v .bool a0.2.2.2.2.2.1, .v (.sl (.int .i64)) a0.2.2.2.2.2.2] 107]⟩ (tn 2) ?_
          refine spB 26 h (fun h => ?_) (fun h => ?_)
          · refine sG T_ok 2 [3, 26, 28] [1] ⟨[(3, .lf (.ptr 0 0 0 0)), (26, B true), (28, I a0.2.2.2.2.1)], [bx [.v (.int .i64) (0 : Int), .v .str a0.2.1, .v (.int .i64) a0.2.2.1, .v (.int .i64) a0.2.2.2.1, .v (.int .i64) a0.2.2.2.2.1, .v .bool a0.2.2.2.2.2.1, .v (.sl (.int .i64)) a0.2.2.2.2.2.2] 107]⟩ (tn 2) ?_
            refine VO.on (j := 1) (want := true) (d := 26) (b := true) rfl rfl rfl (by kernel_rfl) rfl ?_
            obtain ⟨y61, hy, h⟩ := andO_some h
            refine cal false [.t (.int .i64)] [] (some 29) T_ok (ok152 N _ hy) ?_
            refine sN T_ok [3, 4] [0] ⟨[(3, .lf (.ptr 0 0 0 0)), (4, B y61)], [bx [.v (.int .i64) (0 : Int), .v .str a0.2.1, .v (.int .i64) a0.2.2.1, .v (.int .i64) a0.2.2.2.1, .v (.int .i64) a0.2.2.2.2.1, .v .bool a0.2.2.2.2.2.1, .v (.sl (.int .i64)) a0.2.2.2.2.2.2] 107]⟩ (tn 2) ?_
            exact arv [.ren [3, 4] [0]] ⟨a0.2.1, a0.2.2.1, a0.2.2.2.1, a0.2.2.2.2.1, a0.2.2.2.2.2.1, a0.2.2.2.2.2.2, y61, rfl, h⟩
          refine sN T_ok [3, 4] [1] ⟨[(3, .lf (.ptr 0 0 0 0)), (4, B false)], [bx [.v (.int .i64) (0 : Int), .v .str a0.2.1, .v (.int .i64) a0.2.2.1, .v (.int .i64) a0.2.2.2.1, .v (.int .i64) a0.2.2.2.2.1, .v .bool a0.2.2.2.2.2.1, .v (.sl (.int .i64)) a0.2.2.2.2.2.2] 107]⟩ (tn 5) ?_
          exact arv [.ren [3, 4] [0]] ⟨a0.2.1, a0.2.2.1, a0.2.2.2.1, a0.2.2.2.2.1, a0.2.2.2.2.2.1, a0.2.2.2.2.2.2, false, rfl, h⟩
        rintro s ⟨x52, x53, x54, x55, x56, x57, x58, rfl, h⟩
        unfold F147_j1 at h
        refine rR T_ok [3, 4] [0] ⟨[(3, .lf (.ptr 0 0 0 0)), (4, B x58)], [bx [.v (.int .i64) (0 : Int), .v .str x52, .v (.int .i64) (0 : Int), .v (.int .i64) (0 : Int), .v (.int .i64) (0 : Int), .v .bool false, .v (.sl (.int .i64)) x57] 107]⟩ (tn 8) ?_
        exact arv [.ren [3, 4] [0]] ⟨x52, (0 : Int), (0 : Int), (0 : Int), false, x57, x58, rfl, h⟩
      refine sN T_ok [1, 3, 4] [0, 1] ⟨[(1, .lf (.ptr 0 0 0 0)), (3, .lf (.ptr 1 0 0 0)), (4, B false)], [bx [.v (.int .i64) a0.1, .v .str a0.2.1, .v (.int .i64) a0.2.2.1, .v (.int .i64) a0.2.2.2.1, .v (.int .i64) a0.2.2.2.2.1, .v .bool a0.2.2.2.2.2.1, .v (.sl (.int .i64)) a0.2.2.2.2.2.2] 107, bx [.v (.int .i64) (0 : Int), .v .str a0.2.1, .v (.int .i64) a0.2.2.1, .v (.int .i64) a0.2.2.2.1, .v (.int .i64) a0.2.2.2.2.1, .v .bool a0.2.2.2.2.2.1, .v (.sl (.int .i64)) a0.2.2.2.2.2.2] 107]⟩ (tn 5) ?_
      refine VW.join (fun s => ∃ (x62 : ByteArray) (x63 : Int) (x64 : Int) (x65 : Int) (x66 : Bool) (x67 : (List Int)), s = ⟨[(3, .lf (.ptr 0 0 0 0)), (4, B false)], [bx [.v (.int .i64) (0 : Int), .v .str x62, .v (.int .i64) x63, .v (.int .i64) x64, .v (.int .i64) x65, .v .bool x66, .v (.sl (.int .i64)) x67] 107]⟩ ∧ F147_j2 N x62 x63 x64 x65 x66 x67 = some r) ?_ ?_
      · refine VW.block ?_
        refine sR T_ok [1, 3, 4, 31] [0, 1] ⟨[(1, .lf (.ptr 0 0 0 0)), (3, .lf (.ptr 1 0 0 0)), (4, B false), (31, B (a0.2.2.2.1 == (3 : Int)))], [bx [.v (.int .i64) a0.1, .v .str a0.2.1, .v (.int .i64) a0.2.2.1, .v (.int .i64) a0.2.2.2.1, .v (.int .i64) a0.2.2.2.2.1, .v .bool a0.2.2.2.2.2.1, .v (.sl (.int .i64)) a0.2.2.2.2.2.2] 107, bx [.v (.int .i64) (0 : Int), .v .str a0.2.1, .v (.int .i64) a0.2.2.1, .v (.int .i64) a0.2.2.2.1, .v (.int .i64) a0.2.2.2.2.1, .v .bool a0.2.2.2.2.2.1, .v (.sl (.int .i64)) a0.2.2.2.2.2.2] 107]⟩ (tn 4) ?_
        refine cnd h (fun h => ?_) (fun h => ?_)
        · refine rR T_ok [3, 4] [1] ⟨[(3, .lf (.ptr 0 0 0 0)), (4, B false)], [bx [.v (.int .i64) (0 : Int), .v .str a0.2.1, .v (.int .i64) a0.2.2.1, .v (.int .i64) a0.2.2.2.1, .v (.int .i64) a0.2.2.2.2.1, .v .bool a0.2.2.2.2.2.1, .v (.sl (.int .i64)) a0.2.2.2.2.2.2] 107]⟩ (tn 12) ?_
          exact arv [.ren [3, 4] [0]] ⟨a0.2.1, a0.2.2.1, a0.2.2.2.1, a0.2.2.2.2.1, a0.2.2.2.2.2.1, a0.2.2.2.2.2.2, rfl, h⟩
        refine sR T_ok [1, 3, 4, 46] [0, 1] ⟨[(1, .lf (.ptr 0 0 0 0)), (3, .lf (.ptr 1 0 0 0)), (4, B false), (46, B a0.2.2.2.2.2.1)], [bx [.v (.int .i64) a0.1, .v .str a0.2.1, .v (.int .i64) a0.2.2.1, .v (.int .i64) a0.2.2.2.1, .v (.int .i64) a0.2.2.2.2.1, .v .bool a0.2.2.2.2.2.1, .v (.sl (.int .i64)) a0.2.2.2.2.2.2] 107, bx [.v (.int .i64) (0 : Int), .v .str a0.2.1, .v (.int .i64) a0.2.2.1, .v (.int .i64) a0.2.2.2.1, .v (.int .i64) a0.2.2.2.2.1, .v .bool a0.2.2.2.2.2.1, .v (.sl (.int .i64)) a0.2.2.2.2.2.2] 107]⟩ (tn 3) ?_
        refine cnd h (fun h => ?_) (fun h => ?_)
        · refine rR T_ok [3, 4] [1] ⟨[(3, .lf (.ptr 0 0 0 0)), (4, B false)], [bx [.v (.int .i64) (0 : Int), .v .str a0.2.1, .v (.int .i64) a0.2.2.1, .v (.int .i64) a0.2.2.2.1, .v (.int .i64) a0.2.2.2.2.1, .v .bool a0.2.2.2.2.2.1, .v (.sl (.int .i64)) a0.2.2.2.2.2.2] 107]⟩ (tn 7) ?_
          exact arv [.ren [3, 4] [0]] ⟨a0.2.1, a0.2.2.1, a0.2.2.2.1, a0.2.2.2.2.1, a0.2.2.2.2.2.1, a0.2.2.2.2.2.2, rfl, h⟩
        refine rR T_ok [3, 4] [1] ⟨[(3, .lf (.ptr 0 0 0 0)), (4, B false)], [bx [.v (.int .i64) (0 : Int), .v .str a0.2.1, .v (.int .i64) a0.2.2.1, .v (.int .i64) a0.2.2.2.1, .v (.int .i64) a0.2.2.2.2.1, .v .bool a0.2.2.2.2.2.1, .v (.sl (.int .i64)) a0.2.2.2.2.2.2] 107]⟩ (tn 7) ?_
        exact arv [.ren [3, 4] [0]] ⟨a0.2.1, a0.2.2.1, a0.2.2.2.1, a0.2.2.2.2.1, a0.2.2.2.2.2.1, a0.2.2.2.2.2.2, rfl, h⟩
      rintro s ⟨x62, x63, x64, x65, x66, x67, rfl, h⟩
      unfold F147_j2 at h
      refine rR T_ok [3, 4] [0] ⟨[(3, .lf (.ptr 0 0 0 0)), (4, B false)], [bx [.v (.int .i64) (0 : Int), .v .str x62, .v (.int .i64) (0 : Int), .v (.int .i64) (0 : Int), .v (.int .i64) (0 : Int), .v .bool false, .v (.sl (.int .i64)) x67] 107]⟩ (tn 8) ?_
      exact arv [.ren [3, 4] [0]] ⟨x62, (0 : Int), (0 : Int), (0 : Int), false, x67, false, rfl, h⟩
    refine sR T_ok [1, 3, 4, 8, 59] [0, 1] ⟨[(1, .lf (.ptr 0 0 0 0)), (3, .lf (.ptr 1 0 0 0)), (4, B false), (8, I a0.1), (59, B (a0.1 == (2 : Int)))], [bx [.v (.int .i64) a0.1, .v .str a0.2.1, .v (.int .i64) a0.2.2.1, .v (.int .i64) a0.2.2.2.1, .v (.int .i64) a0.2.2.2.2.1, .v .bool a0.2.2.2.2.2.1, .v (.sl (.int .i64)) a0.2.2.2.2.2.2] 107, bx [.v (.int .i64) (0 : Int), .v .str a0.2.1, .v (.int .i64) a0.2.2.1, .v (.int .i64) a0.2.2.2.1, .v (.int .i64) a0.2.2.2.2.1, .v .bool a0.2.2.2.2.2.1, .v (.sl (.int .i64)) a0.2.2.2.2.2.2] 107]⟩ (tn 2) ?_
    refine cnd h (fun h => ?_) (fun h => ?_)
    · refine VW.seq ?_
      refine VW.region ?_
      refine sG T_ok 3 [1, 3, 63] [0, 1] ⟨[(1, .lf (.ptr 0 0 0 0)), (3, .lf (.ptr 1 0 0 0)), (63, I (a0.2.2.2.2.2.2.length : Int))], [bx [.v (.int .i64) a0.1, .v .str a0.2.1, .v (.int .i64) a0.2.2.1, .v (.int .i64) a0.2.2.2.1, .v (.int .i64) a0.2.2.2.2.1, .v .bool a0.2.2.2.2.2.1, .v (.sl (.int .i64)) a0.2.2.2.2.2.2] 107, bx [.v (.int .i64) (0 : Int), .v .str a0.2.1, .v (.int .i64) a0.2.2.1, .v (.int .i64) a0.2.2.2.1, .v (.int .i64) a0.2.2.2.2.1, .v .bool a0.2.2.2.2.2.1, .v (.sl (.int .i64)) a0.2.2.2.2.2.2] 107]⟩ (tn 3) ?_
      obtain ⟨y69, hy, h⟩ := andO_some h
      refine cal false [.t (.int .i64), .t (.int .i64), .t (.int .i64)] [] (some 64) T_ok (ok130 N _ _ _ hy) ?_
      refine sG T_ok 1 [1, 3, 65] [0, 1] ⟨[(1, .lf (.ptr 0 0 0 0)), (3, .lf (.ptr 1 0 0 0)), (65, B y69)], [bx [.v (.int .i64) a0.1, .v .str a0.2.1, .v (.int .i64) a0.2.2.1, .v (.int .i64) a0.2.2.2.1, .v (.int .i64) a0.2.2.2.2.1, .v .bool a0.2.2.2.2.2.1, .v (.sl (.int .i64)) a0.2.2.2.2.2.2] 107, bx [.v (.int .i64) (0 : Int), .v .str a0.2.1, .v (.int .i64) a0.2.2.1, .v (.int .i64) a0.2.2.2.1, .v (.int .i64) a0.2.2.2.2.1, .v .bool a0.2.2.2.2.2.1, .v (.sl (.int .i64)) a0.2.2.2.2.2.2] 107]⟩ (tn 1) ?_
      refine spB 65 h (fun h => ?_) (fun h => ?_)
      · refine sG T_ok 2 [3, 65, 67] [1] ⟨[(3, .lf (.ptr 0 0 0 0)), (65, B true), (67, .lf (.v (.sl (.int .i64)) a0.2.2.2.2.2.2))], [bx [.v (.int .i64) (0 : Int), .v .str a0.2.1, .v (.int .i64) a0.2.2.1, .v (.int .i64) a0.2.2.2.1, .v (.int .i64) a0.2.2.2.2.1, .v .bool a0.2.2.2.2.2.1, .v (.sl (.int .i64)) a0.2.2.2.2.2.2] 107]⟩ (tn 2) ?_
        refine VO.on (j := 4) (want := true) (d := 65) (b := true) rfl rfl rfl (by kernel_rfl) rfl ?_
        obtain ⟨y70, hy, h⟩ := andO_some h
        refine cal false [.t (.sl (.int .i64)), .clo []] [] (some 68) T_ok (ok196 N _ 197  (fun z0 => F197 N z0 ) (fun z0 _ hz => ok197 N z0 hz) hy) ?_
        refine sN T_ok [3, 4] [0] ⟨[(3, .lf (.ptr 0 0 0 0)), (4, B (!y70))], [bx [.v (.int .i64) (0 : Int), .v .str a0.2.1, .v (.int .i64) a0.2.2.1, .v (.int .i64) a0.2.2.2.1, .v (.int .i64) a0.2.2.2.2.1, .v .bool a0.2.2.2.2.2.1, .v (.sl (.int .i64)) a0.2.2.2.2.2.2] 107]⟩ (tn 3) ?_
        refine rR T_ok [3, 4] [0] ⟨[(3, .lf (.ptr 0 0 0 0)), (4, B (!y70))], [bx [.v (.int .i64) (0 : Int), .v .str a0.2.1, .v (.int .i64) a0.2.2.1, .v (.int .i64) a0.2.2.2.1, .v (.int .i64) a0.2.2.2.2.1, .v .bool a0.2.2.2.2.2.1, .nil] 107]⟩ (tn 2) ?_
        exact arv [.nilB 0 6 (.int .i64), .ren [3, 4] [0]] ⟨a0.2.1, a0.2.2.1, a0.2.2.2.1, a0.2.2.2.2.1, a0.2.2.2.2.2.1, [], (!y70), rfl, h⟩
      refine sN T_ok [3, 4] [1] ⟨[(3, .lf (.ptr 0 0 0 0)), (4, B false)], [bx [.v (.int .i64) (0 : Int), .v .str a0.2.1, .v (.int .i64) a0.2.2.1, .v (.int .i64) a0.2.2.2.1, .v (.int .i64) a0.2.2.2.2.1, .v .bool a0.2.2.2.2.2.1, .v (.sl (.int .i64)) a0.2.2.2.2.2.2] 107]⟩ (tn 6) ?_
      refine rR T_ok [3, 4] [0] ⟨[(3, .lf (.ptr 0 0 0 0)), (4, B false)], [bx [.v (.int .i64) (0 : Int), .v .str a0.2.1, .v (.int .i64) a0.2.2.1, .v (.int .i64) a0.2.2.2.1, .v (.int .i64) a0.2.2.2.2.1, .v .bool a0.2.2.2.2.2.1, .nil] 107]⟩ (tn 2) ?_
      exact arv [.nilB 0 6 (.int .i64), .ren [3, 4] [0]] ⟨a0.2.1, a0.2.2.1, a0.2.2.2.1, a0.2.2.2.2.1, a0.2.2.2.2.2.1, [], false, rfl, h⟩
    refine sR T_ok [1, 3, 4, 8, 72] [0, 1] ⟨[(1, .lf (.ptr 0 0 0 0)), (3, .lf (.ptr 1 0 0 0)), (4, B false), (8, I a0.1), (72, B (a0.1 == (3 : Int)))], [bx [.v (.int .i64) a0.1, .v .str a0.2.1, .v (.int .i64) a0.2.2.1, .v (.int .i64) a0.2.2.2.1, .v (.int .i64) a0.2.2.2.2.1, .v .bool a0.2.2.2.2.2.1, .v (.sl (.int .i64)) a0.2.2.2.2.2.2] 107, bx [.v (.int .i64) (0 : Int), .v .str a0.2.1, .v (.int .i64) a0.2.2.1, .v (.int .i64) a0.2.2.2.1, .v (.int .i64) a0.2.2.2.2.1, .v .bool a0.2.2.2.2.2.1, .v (.sl (.int .i64)) a0.2.2.2.2.2.2] 107]⟩ (tn 2) ?_
    refine cnd h (fun h => ?_) (fun h => ?_)
    · refine VW.seq ?_
      refine VW.region ?_
      refine sG T_ok 2 [1, 3, 75] [0, 1] ⟨[(1, .lf (.ptr 0 0 0 0)), (3, .lf (.ptr 1 0 0 0)), (75, I a0.2.2.1)], [bx [.v (.int .i64) a0.1, .v .str a0.2.1, .v (.int .i64) a0.2.2.1, .v (.int .i64) a0.2.2.2.1, .v (.int .i64) a0.2.2.2.2.1, .v .bool a0.2.2.2.2.2.1, .v (.sl (.int .i64)) a0.2.2.2.2.2.2] 107, bx [.v (.int .i64) (0 : Int), .v .str a0.2.1, .v (.int .i64) a0.2.2.1, .v (.int .i64) a0.2.2.2.1, .v (.int .i64) a0.2.2.2.2.1, .v .bool a0.2.2.2.2.2.1, .v (.sl (.int .i64)) a0.2.2.2.2.2.2] 107]⟩ (tn 2) ?_
      obtain ⟨y71, hy, h⟩ := andO_some h
      refine cal false [.t (.int .i64)] [] (some 76) T_ok (ok194 N _ hy) ?_
      refine sG T_ok 1 [1, 3, 77] [0, 1] ⟨[(1, .lf (.ptr 0 0 0 0)), (3, .lf (.ptr 1 0 0 0)), (77, B y71)], [bx [.v (.int .i64) a0.1, .v .str a0.2.1, .v (.int .i64) a0.2.2.1, .v (.int .i64) a0.2.2.2.1, .v (.int .i64) a0.2.2.2.2.1, .v .bool a0.2.2.2.2.2.1, .v (.sl (.int .i64)) a0.2.2.2.2.2.2] 107, bx [.v (.int .i64) (0 : Int), .v .str a0.2.1, .v (.int .i64) a0.2.2.1, .v (.int .i64) a0.2.2.2.1, .v (.int .i64) a0.2.2.2.2.1, .v .bool a0.2.2.2.2.2.1, .v (.sl (.int .i64)) a0.2.2.2.2.2.2] 107]⟩ (tn 1) ?_
      refine spB 77 h (fun h => ?_) (fun h => ?_)
      · refine sG T_ok 2 [3, 77, 79] [1] ⟨[(3, .lf (.ptr 0 0 0 0)), (77, B true), (79, I a0.2.2.2.2.1)], [bx [.v (.int .i64) (0 : Int), .v .str a0.2.1, .v (.int .i64) a0.2.2.1, .v (.int .i64) a0.2.2.2.1, .v (.int .i64) a0.2.2.2.2.1, .v .bool a0.2.2.2.2.2.1, .v (.sl (.int .i64)) a0.2.2.2.2.2.2] 107]⟩ (tn 2) ?_
        refine VO.on (j := 3) (want := true) (d := 77) (b := true) rfl rfl rfl (by kernel_rfl) rfl ?_
        obtain ⟨y72, hy, h⟩ := andO_some h
        refine cal false [.t (.int .i64)] [] (some 80) T_ok (ok194 N _ hy) ?_
        refine sN T_ok [3, 4] [0] ⟨[(3, .lf (.ptr 0 0 0 0)), (4, B y72)], [bx [.v (.int .i64) (0 : Int), .v .str a0.2.1, .v (.int .i64) a0.2.2.1, .v (.int .i64) a0.2.2.2.1, .v (.int .i64) a0.2.2.2.2.1, .v .bool a0.2.2.2.2.2.1, .v (.sl (.int .i64)) a0.2.2.2.2.2.2] 107]⟩ (tn 2) ?_
        refine rR T_ok [3, 4] [0] ⟨[(3, .lf (.ptr 0 0 0 0)), (4, B y72)], [bx [.v (.int .i64) (0 : Int), .v .str a0.2.1, .v (.int .i64) (0 : Int), .v (.int .i64) a0.2.2.2.1, .v (.int .i64) (0 : Int), .v .bool a0.2.2.2.2.2.1, .v (.sl (.int .i64)) a0.2.2.2.2.2.2] 107]⟩ (tn 4) ?_
        exact arv [.ren [3, 4] [0]] ⟨a0.2.1, (0 : Int), a0.2.2.2.1, (0 : Int), a0.2.2.2.2.2.1, a0.2.2.2.2.2.2, y72, rfl, h⟩
      refine sN T_ok [3, 4] [1] ⟨[(3, .lf (.ptr 0 0 0 0)), (4, B false)], [bx [.v (.int .i64) (0 : Int), .v .str a0.2.1, .v (.int .i64) a0.2.2.1, .v (.int .i64) a0.2.2.2.1, .v (.int .i64) a0.2.2.2.2.1, .v .bool a0.2.2.2.2.2.1, .v (.sl (.int .i64)) a0.2.2.2.2.2.2] 107]⟩ (tn 5) ?_
      refine rR T_ok [3, 4] [0] ⟨[(3, .lf (.ptr 0 0 0 0)), (4, B false)], [bx [.v (.int .i64) (0 : Int), .v .str a0.2.1, .v (.int .i64) (0 : Int), .v (.int .i64) a0.2.2.2.1, .v (.int .i64) (0 : Int), .v .bool a0.2.2.2.2.2.1, .v (.sl (.int .i64)) a0.2.2.2.2.2.2] 107]⟩ (tn 4) ?_
      exact arv [.ren [3, 4] [0]] ⟨a0.2.1, (0 : Int), a0.2.2.2.1, (0 : Int), a0.2.2.2.2.2.1, a0.2.2.2.2.2.2, false, rfl, h⟩
    refine sR T_ok [1, 3, 4, 8, 84] [0, 1] ⟨[(1, .lf (.ptr 0 0 0 0)), (3, .lf (.ptr 1 0 0 0)), (4, B false), (8, I a0.1), (84, B (a0.1 == (5 : Int)))], [bx [.v (.int .i64) a0.1, .v .str a0.2.1, .v (.int .i64) a0.2.2.1, .v (.int .i64) a0.2.2.2.1, .v (.int .i64) a0.2.2.2.2.1, .v .bool a0.2.2.2.2.2.1, .v (.sl (.int .i64)) a0.2.2.2.2.2.2] 107, bx [.v (.int .i64) (0 : Int), .v .str a0.2.1, .v (.int .i64) a0.2.2.1, .v (.int .i64) a0.2.2.2.1, .v (.int .i64) a0.2.2.2.2.1, .v .bool a0.2.2.2.2.2.1, .v (.sl (.int .i64)) a0.2.2.2.2.2.2] 107]⟩ (tn 2) ?_
    refine cnd h (fun h => ?_) (fun h => ?_)
    · refine VW.seq ?_
      refine VW.region ?_
      refine sG T_ok 2 [3, 87] [1] ⟨[(3, .lf (.ptr 0 0 0 0)), (87, I a0.2.2.1)], [bx [.v (.int .i64) (0 : Int), .v .str a0.2.1, .v (.int .i64) a0.2.2.1, .v (.int .i64) a0.2.2.2.1, .v (.int .i64) a0.2.2.2.2.1, .v .bool a0.2.2.2.2.2.1, .v (.sl (.int .i64)) a0.2.2.2.2.2.2] 107]⟩ (tn 2) ?_
      obtain ⟨y73, hy, h⟩ := andO_some h
      refine cal false [.t (.int .i64)] [] (some 88) T_ok (ok194 N _ hy) ?_
      refine sN T_ok [3, 4] [0] ⟨[(3, .lf (.ptr 0 0 0 0)), (4, B y73)], [bx [.v (.int .i64) (0 : Int), .v .str a0.2.1, .v (.int .i64) a0.2.2.1, .v (.int .i64) a0.2.2.2.1, .v (.int .i64) a0.2.2.2.2.1, .v .bool a0.2.2.2.2.2.1, .v (.sl (.int .i64)) a0.2.2.2.2.2.2] 107]⟩ (tn 1) ?_
      refine rR T_ok [3, 4] [0] ⟨[(3, .lf (.ptr 0 0 0 0)), (4, B y73)], [bx [.v (.int .i64) (0 : Int), .v .str a0.2.1, .v (.int .i64) (0 : Int), .v (.int .i64) a0.2.2.2.1, .v (.int .i64) a0.2.2.2.2.1, .v .bool a0.2.2.2.2.2.1, .v (.sl (.int .i64)) a0.2.2.2.2.2.2] 107]⟩ (tn 2) ?_
      exact arv [.ren [3, 4] [0]] ⟨a0.2.1, (0 : Int), a0.2.2.2.1, a0.2.2.2.2.1, a0.2.2.2.2.2.1, a0.2.2.2.2.2.2, y73, rfl, h⟩
    refine sR T_ok [1, 3, 4, 8, 90] [0, 1] ⟨[(1, .lf (.ptr 0 0 0 0)), (3, .lf (.ptr 1 0 0 0)), (4, B false), (8, I a0.1), (90, B (a0.1 == (6 : Int)))], [bx [.v (.int .i64) a0.1, .v .str a0.2.1, .v (.int .i64) a0.2.2.1, .v (.int .i64) a0.2.2.2.1, .v (.int .i64) a0.2.2.2.2.1, .v .bool a0.2.2.2.2.2.1, .v (.sl (.int .i64)) a0.2.2.2.2.2.2] 107, bx [.v (.int .i64) (0 : Int), .v .str a0.2.1, .v (.int .i64) a0.2.2.1, .v (.int .i64) a0.2.2.2.1, .v (.int .i64) a0.2.2.2.2.1, .v .bool a0.2.2.2.2.2.1, .v (.sl (.int .i64)) a0.2.2.2.2.2.2] 107]⟩ (tn 2) ?_
    refine cnd h (fun h => ?_) (fun h => ?_)
    · refine VW.seq ?_
      refine VW.region ?_
      refine sG T_ok 2 [1, 3, 93] [0, 1] ⟨[(1, .lf (.ptr 0 0 0 0)), (3, .lf (.ptr 1 0 0 0)), (93, I a0.2.2.2.2.1)], [bx [.v (.int .i64) a0.1, .v .str a0.2.1, .v (.int .i64) a0.2.2.1, .v (.int .i64) a0.2.2.2.1, .v (.int .i64) a0.2.2.2.2.1, .v .bool a0.2.2.2.2.2.1, .v (.sl (.int .i64)) a0.2.2.2.2.2.2] 107, bx [.v (.int .i64) (0 : Int), .v .str a0.2.1, .v (.int .i64) a0.2.2.1, .v (.int .i64) a0.2.2.2.1, .v (.int .i64) a0.2.2.2.2.1, .v .bool a0.2.2.2.2.2.1, .v (.sl (.int .i64)) a0.2.2.2.2.2.2] 107]⟩ (tn 2) ?_
      obtain ⟨y74, hy, h⟩ := andO_some h
      refine cal false [.t (.int .i64), .t (.int .i64), .t (.int .i64)] [] (some 94) T_ok (ok130 N _ _ _ hy) ?_
      refine sG T_ok 1 [1, 3, 95] [0, 1] ⟨[(1, .lf (.ptr 0 0 0 0)), (3, .lf (.ptr 1 0 0 0)), (95, B y74)], [bx [.v (.int .i64) a0.1, .v .str a0.2.1, .v (.int .i64) a0.2.2.1, .v (.int .i64) a0.2.2.2.1, .v (.int .i64) a0.2.2.2.2.1, .v .bool a0.2.2.2.2.2.1, .v (.sl (.int .i64)) a0.2.2.2.2.2.2] 107, bx [.v (.int .i64) (0 : Int), .v .str a0.2.1, .v (.int .i64) a0.2.2.1, .v (.int .i64) a0.2.2.2.1, .v (.int .i64) a0.2.2.2.2.1, .v .bool a0.2.2.2.2.2.1, .v (.sl (.int .i64)) a0.2.2.2.2.2.2] 107]⟩ (tn 1) ?_
      refine spB 95 h (fun h => ?_) (fun h => ?_)
      · refine sG T_ok 4 [1, 3, 95, 99] [0, 1] ⟨[(1, .lf (.ptr 0 0 0 0)), (3, .lf (.ptr 1 0 0 0)), (95, B true), (99, B (!a0.2.2.2.2.2.1))], [bx [.v (.int .i64) a0.1, .v .str a0.2.1, .v (.int .i64) a0.2.2.1, .v (.int .i64) a0.2.2.2.1, .v (.int .i64) a0.2.2.2.2.1, .v .bool a0.2.2.2.2.2.1, .v (.sl (.int .i64)) a0.2.2.2.2.2.2] 107, bx [.v (.int .i64) (0 : Int), .v .str a0.2.1, .v (.int .i64) a0.2.2.1, .v (.int .i64) a0.2.2.2.1, .v (.int .i64) a0.2.2.2.2.1, .v .bool a0.2.2.2.2.2.1, .v (.sl (.int .i64)) a0.2.2.2.2.2.2] 107]⟩ (tn 4) ?_
        refine spB 99 h (fun h => ?_) (fun h => ?_)
        · refine sN T_ok [3, 4] [1] ⟨[(3, .lf (.ptr 0 0 0 0)), (4, B true)], [bx [.v (.int .i64) (0 : Int), .v .str a0.2.1, .v (.int .i64) a0.2.2.1, .v (.int .i64) a0.2.2.2.1, .v (.int .i64) a0.2.2.2.2.1, .v .bool a0.2.2.2.2.2.1, .v (.sl (.int .i64)) a0.2.2.2.2.2.2] 107]⟩ (tn 6) ?_
          refine rR T_ok [3, 4] [0] ⟨[(3, .lf (.ptr 0 0 0 0)), (4, B true)], [bx [.v (.int .i64) (0 : Int), .v .str a0.2.1, .v (.int .i64) a0.2.2.1, .v (.int .i64) a0.2.2.2.1, .v (.int .i64) (0 : Int), .v .bool false, .v (.sl (.int .i64)) a0.2.2.2.2.2.2] 107]⟩ (tn 4) ?_
          exact arv [.ren [3, 4] [0]] ⟨a0.2.1, a0.2.2.1, a0.2.2.2.1, (0 : Int), false, a0.2.2.2.2.2.2, true, rfl, h⟩
        refine sG T_ok 2 [3, 95, 99, 101] [1] ⟨[(3, .lf (.ptr 0 0 0 0)), (95, B true), (99, B false), (101, I a0.2.2.2.2.1)], [bx [.v (.int .i64) (0 : Int), .v .str a0.2.1, .v (.int .i64) a0.2.2.1, .v (.int .i64) a0.2.2.2.1, .v (.int .i64) a0.2.2.2.2.1, .v .bool a0.2.2.2.2.2.1, .v (.sl (.int .i64)) a0.2.2.2.2.2.2] 107]⟩ (tn 2) ?_
        refine VO.on (j := 7) (want := false) (d := 99) (b := false) rfl rfl rfl (by kernel_rfl) rfl ?_
        obtain ⟨y75, hy, h⟩ := andO_some h
        refine cal false [.t (.int .i64)] [] (some 102) T_ok (ok195 N _ hy) ?_
        refine sN T_ok [3, 4] [0] ⟨[(3, .lf (.ptr 0 0 0 0)), (4, B y75)], [bx [.v (.int .i64) (0 : Int), .v .str a0.2.1, .v (.int .i64) a0.2.2.1, .v (.int .i64) a0.2.2.2.1, .v (.int .i64) a0.2.2.2.2.1, .v .bool a0.2.2.2.2.2.1, .v (.sl (.int .i64)) a0.2.2.2.2.2.2] 107]⟩ (tn 3) ?_
        refine rR T_ok [3, 4] [0] ⟨[(3, .lf (.ptr 0 0 0 0)), (4, B y75)], [bx [.v (.int .i64) (0 : Int), .v .str a0.2.1, .v (.int .i64) a0.2.2.1, .v (.int .i64) a0.2.2.2.1, .v (.int .i64) (0 : Int), .v .bool false, .v (.sl (.int .i64)) a0.2.2.2.2.2.2] 107]⟩ (tn 4) ?_
        exact arv [.ren [3, 4] [0]] ⟨a0.2.1, a0.2.2.1, a0.2.2.2.1, (0 : Int), false, a0.2.2.2.2.2.2, y75, rfl, h⟩
      refine sN T_ok [3, 4] [1] ⟨[(3, .lf (.ptr 0 0 0 0)), (4, B false)], [bx [.v (.int .i64) (0 : Int), .v .str a0.2.1, .v (.int .i64) a0.2.2.1, .v (.int .i64) a0.2.2.2.1, .v (.int .i64) a0.2.2.2.2.1, .v .bool a0.2.2.2.2.2.1, .v (.sl (.int .i64)) a0.2.2.2.2.2.2] 107]⟩ (tn 10) ?_
      refine rR T_ok [3, 4] [0] ⟨[(3, .lf (.ptr 0 0 0 0)), (4, B false)], [bx [.v (.int .i64) (0 : Int), .v .str a0.2.1, .v (.int .i64) a0.2.2.1, .v (.int .i64) a0.2.2.2.1, .v (.int .i64) (0 : Int), .v .bool false, .v (.sl (.int .i64)) a0.2.2.2.2.2.2] 107]⟩ (tn 4) ?_
      exact arv [.ren [3, 4] [0]] ⟨a0.2.1, a0.2.2.1, a0.2.2.2.1, (0 : Int), false, a0.2.2.2.2.2.2, false, rfl, h⟩
    refine VW.join (fun s => ∃ (x76 : ByteArray) (x77 : Int) (x78 : Int) (x79 : Int) (x80 : Bool) (x81 : (List Int)) (x82 : Bool), s = ⟨[(3, .lf (.ptr 0 0 0 0)), (4, B false), (107, B x82)], [bx [.v (.int .i64) (0 : Int), .v .str x76, .v (.int .i64) x77, .v (.int .i64) x78, .v (.int .i64) x79, .v .bool x80, .v (.sl (.int .i64)) x81] 107]⟩ ∧ F147_j3 N x76 x77 x78 x79 x80 x81 x82 = some r) ?_ ?_
    · refine sR T_ok [3, 4, 8, 107] [1] ⟨[(3, .lf (.ptr 0 0 0 0)), (4, B false), (8, I a0.1), (107, B (a0.1 == (4 : Int)))], [bx [.v (.int .i64) (0 : Int), .v .str a0.2.1, .v (.int .i64) a0.2.2.1, .v (.int .i64) a0.2.2.2.1, .v (.int .i64) a0.2.2.2.2.1, .v .bool a0.2.2.2.2.2.1, .v (.sl (.int .i64)) a0.2.2.2.2.2.2] 107]⟩ (tn 2) ?_
      refine cnd h (fun h => ?_) (fun h => ?_)
      · refine VW.skip ?_
        exact arv [.ren [3, 4, 107] [0]] ⟨a0.2.1, a0.2.2.1, a0.2.2.2.1, a0.2.2.2.2.1, a0.2.2.2.2.2.1, a0.2.2.2.2.2.2, (a0.1 == (4 : Int)), rfl, h⟩
      refine rR T_ok [3, 4, 107] [0] ⟨[(3, .lf (.ptr 0 0 0 0)), (4, B false), (107, B (a0.1 == (7 : Int)))], [bx [.v (.int .i64) (0 : Int), .v .str a0.2.1, .v (.int .i64) a0.2.2.1, .v (.int .i64) a0.2.2.2.1, .v (.int .i64) a0.2.2.2.2.1, .v .bool a0.2.2.2.2.2.1, .v (.sl (.int .i64)) a0.2.2.2.2.2.2] 107]⟩ (tn 2) ?_
      exact arv [.ren [3, 4, 107] [0]] ⟨a0.2.1, a0.2.2.1, a0.2.2.2.1, a0.2.2.2.2.1, a0.2.2.2.2.2.1, a0.2.2.2.2.2.2, (a0.1 == (7 : Int)), rfl, h⟩
    rintro s ⟨x76, x77, x78, x79, x80, x81, x82, rfl, h⟩
    unfold F147_j3 at h
    refine cnd h (fun h => ?_) (fun h => ?_)
    · refine rR T_ok [3, 4] [0] ⟨[(3, .lf (.ptr 0 0 0 0)), (4, B true)], [bx [.v (.int .i64) (0 : Int), .v .str x76, .v (.int .i64) x77, .v (.int .i64) x78, .v (.int .i64) x79, .v .bool x80, .v (.sl (.int .i64)) x81] 107]⟩ (tn 1) ?_
      exact arv [.ren [3, 4] [0]] ⟨x76, x77, x78, x79, x80, x81, true, rfl, h⟩
    refine VW.skip ?_
    exact arv [.ren [3, 4] [0]] ⟨x76, x77, x78, x79, x80, x81, false, rfl, h⟩
  rintro s ⟨x38, x39, x40, x41, x42, x43, x44, rfl, h⟩
  unfold F147_j0 at h
  refine VW.seq ?_
  refine VW.region ?_
  refine sG T_ok 2 [3, 111] [0] ⟨[(3, .lf (.ptr 0 0 0 0)), (111, B x44)], [bx [.v (.int .i64) (0 : Int), .v .str x38, .v (.int .i64) x39, .v (.int .i64) x40, .v (.int .i64) x41, .v .bool x42, .v (.sl (.int .i64)) x43] 107]⟩ (tn 2) ?_
  refine spB 111 h (fun h => ?_) (fun h => ?_)
  · refine sG T_ok 2 [111, 112, 113] [] ⟨[(111, B true), (112, .agg [.v (.int .i64) (0 : Int), .v .str x38, .v (.int .i64) x39, .v (.int .i64) x40, .v (.int .i64) x41, .v .bool x42, .v (.sl (.int .i64)) x43]), (113, .agg [.v (.int .i64) (0 : Int), .v .str ByteArray.empty, .v (.int .i64) (0 : Int), .v (.int .i64) (0 : Int), .v (.int .i64) (0 : Int), .v .bool false, .nil])], []⟩ (tn 2) ?_
    refine VO.on (j := 1) (want := true) (d := 111) (b := true) rfl rfl rfl (by kernel_rfl) rfl ?_
    obtain ⟨y45, hy, h⟩ := andO_some h
    refine cal false [.t Y105, .t Y105] [] (some 114) T_ok (ok133 N _ _ hy) ?_
    refine sN T_ok [2] [] ⟨[(2, B y45)], []⟩ (tn 2) ?_
    refine VW.ret ?_
    replace h := Option.some.inj h
    subst h
    exact rt []
  refine sN T_ok [2] [] ⟨[(2, B false)], []⟩ (tn 5) ?_
  refine VW.ret ?_
  replace h := Option.some.inj h
  subst h
  exact rt []

/- loop.example/g00844/impl.PlanOk$1 -/
def F146 (N : Nat) (a0 : (Int × (ByteArray × (Int × (Int × (Int × (Bool × (List Int)))))))) : Option (Bool) :=
  andO (F147 N a0) fun y1 => some (!y1)
theorem ok146 (N : Nat) (a0 : (Int × (ByteArray × (Int × (Int × (Int × (Bool × (List Int)))))))) {r : Bool} (h : F146 N a0 = some r) : Con Go.Proofs.Try.prog 146 [.agg [.v (.int .i64) a0.1, .v .str a0.2.1, .v (.int .i64) a0.2.2.1, .v (.int .i64) a0.2.2.2.1, .v (.int .i64) a0.2.2.2.2.1, .v .bool a0.2.2.2.2.2.1, .v (.sl (.int .i64)) a0.2.2.2.2.2.2]] [.lf (.v .bool r)] := by
  refine ctr [.lf (.v .bool)] T_ok Go.Proofs.Try.func146 rfl fun w0 E0 ht => ?_
  unfold F146 at h
  show VW _ _ _ _ _ (retQ _ _ _ _) _
  refine sR T_ok [1] [0] ⟨[(1, .lf (.ptr 0 0 0 0))], [bx [.v (.int .i64) a0.1, .v .str a0.2.1, .v (.int .i64) a0.2.2.1, .v (.int .i64) a0.2.2.2.1, .v (.int .i64) a0.2.2.2.2.1, .v .bool a0.2.2.2.2.2.1, .v (.sl (.int .i64)) a0.2.2.2.2.2.2] 107]⟩ (tn 2) ?_
  refine VW.seq ?_
  refine VW.region ?_
  refine sG T_ok 1 [3] [] ⟨[(3, .agg [.v (.int .i64) a0.1, .v .str a0.2.1, .v (.int .i64) a0.2.2.1, .v (.int .i64) a0.2.2.2.1, .v (.int .i64) a0.2.2.2.2.1, .v .bool a0.2.2.2.2.2.1, .v (.sl (.int .i64)) a0.2.2.2.2.2.2])], []⟩ (tn 1) ?_
  obtain ⟨y1, hy, h⟩ := andO_some h
  refine cal false [.t Y105] [] (some 4) T_ok (ok147 N _ hy) ?_
  refine sN T_ok [2] [] ⟨[(2, B (!y1))], []⟩ (tn 2) ?_
  refine VW.ret ?_
  replace h := Option.some.inj h
  subst h
  exact rt []

/- loop.example/g00844/impl.ArityOf -/
def F198_j0 (N : Nat) (x6 : Bool) : Option (Int) :=
  cond x6 (some (1 : Int)) (some (-1 : Int))
def F198_j1 (N : Nat) (a0 : Int) (x5 : Bool) : Option (Int) :=
  cond x5 (some (2 : Int)) (cond (a0 == (1 : Int)) (F198_j0 N (a0 == (1 : Int))) (cond (a0 == (2 : Int)) (F198_j0 N (a0 == (2 : Int))) (cond (a0 == (5 : Int)) (F198_j0 N (a0 == (5 : Int))) (cond (a0 == (6 : Int)) (F198_j0 N (a0 == (6 : Int))) (F198_j0 N (a0 == (7 : Int)))))))
def F198 (N : Nat) (a0 : Int) : Option (Int) :=
  cond (a0 == (0 : Int)) (some (0 : Int)) (cond (a0 == (3 : Int)) (F198_j1 N a0 (a0 == (3 : Int))) (F198_j1 N a0 (a0 == (4 : Int))))
theorem ok198 (N : Nat) (a0 : Int) {r : Int} (h : F198 N a0 = some r) : Con Go.Proofs.Try.prog 198 [I a0] [.lf (.v (.int .i64) r)] := by
  refine ctr [.lf (.v (.int .i64))] T_ok Go.Proofs.Try.func198 rfl fun w0 E0 ht => ?_
  unfold F198 at h
  show VW _ _ _ _ _ (retQ _ _ _ _) _
  refine sR T_ok [0] [] ⟨[(0, I a0)], []⟩ (tn 1) ?_
  refine VW.seq ?_
  refine sR T_ok [3] [] ⟨[(3, I a0)], []⟩ (tn 1) ?_
  refine VW.block ?_
  refine sR T_ok [3, 4] [] ⟨[(3, I a0), (4, B (a0 == (0 : Int)))], []⟩ (tn 2) ?_
  refine cnd h (fun h => ?_) (fun h => ?_)
  · refine sR T_ok [2] [] ⟨[(2, I (0 : Int))], []⟩ (tn 1) ?_
    refine VW.ret ?_
    replace h := Option.some.inj h
    subst h
    exact rt []
  refine VW.join (fun s => ∃ (x5 : Bool), s = ⟨[(3, I a0), (6, B x5)], []⟩ ∧ F198_j1 N a0 x5 = some r) ?_ ?_
  · refine sR T_ok [3, 6] [] ⟨[(3, I a0), (6, B (a0 == (3 : Int)))], []⟩ (tn 2) ?_
    refine cnd h (fun h => ?_) (fun h => ?_)
    · refine VW.skip ?_
      exact arv [.ren [3, 6] []] ⟨(a0 == (3 : Int)), rfl, h⟩
    refine rR T_ok [3, 6] [] ⟨[(3, I a0), (6, B (a0 == (4 : Int)))], []⟩ (tn 2) ?_
    exact arv [.ren [3, 6] []] ⟨(a0 == (4 : Int)), rfl, h⟩
  rintro s ⟨x5, rfl, h⟩
  unfold F198_j1 at h
  refine cnd h (fun h => ?_) (fun h => ?_)
  · refine sR T_ok [2] [] ⟨[(2, I (2 : Int))], []⟩ (tn 1) ?_
    refine VW.ret ?_
    replace h := Option.some.inj h
    subst h
    exact rt []
  refine VW.join (fun s => ∃ (x6 : Bool), s = ⟨[(9, B x6)], []⟩ ∧ F198_j0 N x6 = some r) ?_ ?_
  · refine sR T_ok [3, 9] [] ⟨[(3, I a0), (9, B (a0 == (1 : Int)))], []⟩ (tn 2) ?_
    refine cnd h (fun h => ?_) (fun h => ?_)
    · refine VW.skip ?_
      exact arv [.ren [9] []] ⟨(a0 == (1 : Int)), rfl, h⟩
    refine sR T_ok [3, 9] [] ⟨[(3, I a0), (9, B (a0 == (2 : Int)))], []⟩ (tn 2) ?_
    refine cnd h (fun h => ?_) (fun h => ?_)
    · refine VW.skip ?_
      exact arv [.ren [9] []] ⟨(a0 == (2 : Int)), rfl, h⟩
    refine sR T_ok [3, 9] [] ⟨[(3, I a0), (9, B (a0 == (5 : Int)))], []⟩ (tn 2) ?_
    refine cnd h (fun h => ?_) (fun h => ?_)
    · refine VW.skip ?_
      exact arv [.ren [9] []] ⟨(a0 == (5 : Int)), rfl, h⟩
    refine sR T_ok [3, 9] [] ⟨[(3, I a0), (9, B (a0 == (6 : Int)))], []⟩ (tn 2) ?_
    refine cnd h (fun h => ?_) (fun h => ?_)
    · refine VW.skip ?_
      exact arv [.ren [9] []] ⟨(a0 == (6 : Int)), rfl, h⟩
    refine rR T_ok [9] [] ⟨[(9, B (a0 == (7 : Int)))], []⟩ (tn 2) ?_
    exact arv [.ren [9] []] ⟨(a0 == (7 : Int)), rfl, h⟩
  rintro s ⟨x6, rfl, h⟩
  unfold F198_j0 at h
  refine cnd h (fun h => ?_) (fun h => ?_)
  · refine sR T_ok [2] [] ⟨[(2, I (1 : Int))], []⟩ (tn 1) ?_
    refine VW.ret ?_
    replace h := Option.some.inj h
    subst h
    exact rt []
  refine VW.skip ?_
  refine sR T_ok [2] [] ⟨[(2, I (-1 : Int))], []⟩ (tn 1) ?_
  refine VW.ret ?_
  replace h := Option.some.inj h
  subst h
  exact rt []

/- loop.example/g00844/impl.end -/
def F148_j0 (N : Nat) (x13 : Int) : Option (Int) :=
  some x13
def F148_l0_b (N : Nat) (a0 : (List (Int × (ByteArray × (Int × (Int × (Int × (Bool × (List Int))))))))) (a2 : Int) (self : (List (Int × (ByteArray × (Int × (Int × (Int × (Bool × (List Int)))))))) → Int → Int → Option (Int)) (y16 : Int) (nx24 : Int → Int → Option (Int)) (x20 : Int) (x21 : Int) : Option (Int) :=
  cond (decide (x21 < y16)) (andO (self a0 x20 (IntKind.i64.wrap (a2 + (1 : Int)))) fun y26 => cond (decide (y26 < (0 : Int))) (some (-1 : Int)) (nx24 y26 (IntKind.i64.wrap (x21 + (1 : Int))))) (F148_j0 N x20)
def F148_l0 (N : Nat) (a0 : (List (Int × (ByteArray × (Int × (Int × (Int × (Bool × (List Int))))))))) (a2 : Int) (self : (List (Int × (ByteArray × (Int × (Int × (Int × (Bool × (List Int)))))))) → Int → Int → Option (Int)) (y16 : Int) : Nat → Int → Int → Option (Int) := loopF (F148_l0_b N a0 a2 self y16) (fun _ _ => none)
theorem F148_l0_s (N : Nat) (a0 : (List (Int × (ByteArray × (Int × (Int × (Int × (Bool × (List Int))))))))) (a2 : Int) (self : (List (Int × (ByteArray × (Int × (Int × (Int × (Bool × (List Int)))))))) → Int → Int → Option (Int)) (y16 : Int) {k : Nat} (hk : 0 < k) (x20 : Int) (x21 : Int) : F148_l0 N a0 a2 self y16 k x20 x21 = F148_l0_b N a0 a2 self y16 (F148_l0 N a0 a2 self y16 (k - 1)) x20 x21 := by
  cases k with
  | zero => exact absurd hk (Nat.lt_irrefl 0)
  | succ m => rfl
def F148_b (N : Nat) (self : (List (Int × (ByteArray × (Int × (Int × (Int × (Bool × (List Int)))))))) → Int → Int → Option (Int)) (a0 : (List (Int × (ByteArray × (Int × (Int × (Int × (Bool × (List Int))))))))) (a1 : Int) (a2 : Int) : Option (Int) :=
  cond (decide (a1 ≥ (a0.length : Int))) (some (-1 : Int)) (cond (decide (a2 > (10 : Int))) (some (-1 : Int)) (gd (InR a1 a0.length) (andO (F198 N ((a0.getD a1.toNat (Ty.dflt Y105)).1)) fun y16 => F148_l0 N a0 a2 self y16 N (IntKind.i64.wrap (a1 + (1 : Int))) (0 : Int))))
theorem ok148_b (N : Nat) (self : (List (Int × (ByteArray × (Int × (Int × (Int × (Bool × (List Int)))))))) → Int → Int → Option (Int)) (ih : ∀ (a0 : (List (Int × (ByteArray × (Int × (Int × (Int × (Bool × (List Int))))))))) (a1 : Int) (a2 : Int) (r : Int), self a0 a1 a2 = some r → Con Go.Proofs.Try.prog 148 [.lf (.v (.sl Y105) a0), I a1, I a2] [.lf (.v (.int .i64) r)]) (a0 : (List (Int × (ByteArray × (Int × (Int × (Int × (Bool × (List Int))))))))) (a1 : Int) (a2 : Int) {r : Int} (h : F148_b N self a0 a1 a2 = some r) : Con Go.Proofs.Try.prog 148 [.lf (.v (.sl Y105) a0), I a1, I a2] [.lf (.v (.int .i64) r)] := by
  refine ctr [.lf (.v (.int .i64))] T_ok Go.Proofs.Try.func148 rfl fun w0 E0 ht => ?_
  unfold F148_b at h
  show VW _ _ _ _ _ (retQ _ _ _ _) _
  refine sR T_ok [0, 1, 2] [] ⟨[(0, .lf (.v (.sl Y105) a0)), (1, I a1), (2, I a2)], []⟩ (tn 1) ?_
  refine VW.seq ?_
  refine VW.seq ?_
  refine VW.region ?_
  refine sG T_ok 5 [0, 1, 2, 12] [] ⟨[(0, .lf (.v (.sl Y105) a0)), (1, I a1), (2, I a2), (12, B (decide (a1 ≥ (a0.length : Int))))], []⟩ (tn 5) ?_
  refine spB 12 h (fun h => ?_) (fun h => ?_)
  · refine sN T_ok [0, 1, 2, 15] [] ⟨[(0, .lf (.v (.sl Y105) a0)), (1, I a1), (2, I a2), (15, B true)], []⟩ (tn 3) ?_
    refine VW.cond (b := true) (by kernel_rfl) (fun _ => ?_) (fun h' => nomatch h')
    refine sR T_ok [6] [] ⟨[(6, I (-1 : Int))], []⟩ (tn 1) ?_
    refine VW.ret ?_
    replace h := Option.some.inj h
    subst h
    exact rt []
  refine sN T_ok [0, 1, 2, 15] [] ⟨[(0, .lf (.v (.sl Y105) a0)), (1, I a1), (2, I a2), (15, B (decide (a2 > (10 : Int))))], []⟩ (tn 3) ?_
  refine cnd h (fun h => ?_) (fun h => ?_)
  · refine sR T_ok [6] [] ⟨[(6, I (-1 : Int))], []⟩ (tn 1) ?_
    refine VW.ret ?_
    replace h := Option.some.inj h
    subst h
    exact rt []
  refine VW.skip ?_
  refine sR T_ok [0, 1, 2, 7] [] ⟨[(0, .lf (.v (.sl Y105) a0)), (1, I a1), (2, I a2), (7, I (IntKind.i64.wrap (a1 + (1 : Int))))], []⟩ (tn 3) ?_
  refine VW.join (fun s => ∃ (x13 : Int), s = ⟨[(7, I x13)], []⟩ ∧ F148_j0 N x13 = some r) ?_ ?_
  · refine VW.seq ?_
    refine VW.region ?_
    obtain ⟨g15, h⟩ := gd_some h
    refine sG T_ok 5 [0, 2, 7, 22] [] ⟨[(0, .lf (.v (.sl Y105) a0)), (2, I a2), (7, I (IntKind.i64.wrap (a1 + (1 : Int)))), (22, I ((a0.getD a1.toNat (Ty.dflt Y105)).1))], []⟩ (pu 2 (an g15 (tn 2))) ?_
    obtain ⟨y16, hy, h⟩ := andO_some h
    refine cal false [.t (.int .i64)] [] (some 23) T_ok (ok198 N _ hy) ?_
    refine sN T_ok [0, 2, 7, 23, 24] [] ⟨[(0, .lf (.v (.sl Y105) a0)), (2, I a2), (7, I (IntKind.i64.wrap (a1 + (1 : Int)))), (23, I y16), (24, I (0 : Int))], []⟩ (tn 1) ?_
    refine VW.block ?_
    refine lop (fun k s => ∃ (x20 : Int) (x21 : Int), s = ⟨[(0, .lf (.v (.sl Y105) a0)), (2, I a2), (7, I x20), (23, I y16), (24, I x21)], []⟩ ∧ F148_l0 N a0 a2 self y16 k x20 x21 = some r) N [.ren [0, 2, 7, 23, 24] []] ⟨(IntKind.i64.wrap (a1 + (1 : Int))), (0 : Int), rfl, h⟩ ?_
    rintro k24 s ⟨x20, x21, rfl, h⟩
    cases k24 with
    | zero => cases show none = some r from h
    | succ k24 =>
      replace h : F148_l0_b N a0 a2 self y16 (F148_l0 N a0 a2 self y16 k24) x20 x21 = some r := h
      unfold F148_l0_b at h
      refine sR T_ok [0, 2, 7, 23, 24, 25] [] ⟨[(0, .lf (.v (.sl Y105) a0)), (2, I a2), (7, I x20), (23, I y16), (24, I x21), (25, B (decide (x21 < y16)))], []⟩ (tn 1) ?_
      refine VW.seq ?_
      refine cnd h (fun h => ?_) (fun h => ?_)
      · refine VW.skip ?_
        refine VW.seq ?_
        refine VW.block ?_
        refine VW.seq ?_
        refine VW.region ?_
        refine sG T_ok 4 [0, 2, 23, 24, 26, 27, 29] [] ⟨[(0, .lf (.v (.sl Y105) a0)), (2, I a2), (23, I y16), (24, I x21), (26, .lf (.v (.sl Y105) a0)), (27, I x20), (29, I (IntKind.i64.wrap (a2 + (1 : Int))))], []⟩ (tn 4) ?_
        obtain ⟨y26, hy, h⟩ := andO_some h
        refine cal false [.t (.sl Y105), .t (.int .i64), .t (.int .i64)] [] (some 30) T_ok (ih _ _ _ _ hy) ?_
        refine sN T_ok [0, 2, 7, 23, 24] [] ⟨[(0, .lf (.v (.sl Y105) a0)), (2, I a2), (7, I y26), (23, I y16), (24, I x21)], []⟩ (tn 1) ?_
        refine sR T_ok [0, 2, 7, 23, 24, 32] [] ⟨[(0, .lf (.v (.sl Y105) a0)), (2, I a2), (7, I y26), (23, I y16), (24, I x21), (32, B (decide (y26 < (0 : Int))))], []⟩ (tn 2) ?_
        refine cnd h (fun h => ?_) (fun h => ?_)
        · refine sR T_ok [6] [] ⟨[(6, I (-1 : Int))], []⟩ (tn 1) ?_
          refine VW.ret ?_
          replace h := Option.some.inj h
          subst h
          exact rt []
        refine VW.skip ?_
        refine rR T_ok [0, 2, 7, 23, 24] [] ⟨[(0, .lf (.v (.sl Y105) a0)), (2, I a2), (7, I y26), (23, I y16), (24, I (IntKind.i64.wrap (x21 + (1 : Int))))], []⟩ (tn 2) ?_
        exact aro [.ren [0, 2, 7, 23, 24] []] ⟨y26, (IntKind.i64.wrap (x21 + (1 : Int))), rfl, h⟩
      refine VW.exit ?_
      exact arv [.ren [7] []] ⟨x20, rfl, h⟩
  rintro s ⟨x13, rfl, h⟩
  unfold F148_j0 at h
  refine sR T_ok [6] [] ⟨[(6, I x13)], []⟩ (tn 2) ?_
  refine VW.ret ?_
  replace h := Option.some.inj h
  subst h
  exact rt []
def F148_r (N : Nat) : Nat → (List (Int × (ByteArray × (Int × (Int × (Int × (Bool × (List Int)))))))) → Int → Int → Option (Int) := loopF (F148_b N) (fun _ _ _ => none)
theorem F148_s (N : Nat) {k : Nat} (hk : 0 < k) (a0 : (List (Int × (ByteArray × (Int × (Int × (Int × (Bool × (List Int))))))))) (a1 : Int) (a2 : Int) : F148_r N k a0 a1 a2 = F148_b N (F148_r N (k - 1)) a0 a1 a2 := by
  cases k with
  | zero => exact absurd hk (Nat.lt_irrefl 0)
  | succ m => rfl
def F148 (N : Nat) : (List (Int × (ByteArray × (Int × (Int × (Int × (Bool × (List Int)))))))) → Int → Int → Option (Int) := F148_r N N
theorem ok148_k (N : Nat) : ∀ (k : Nat) (a0 : (List (Int × (ByteArray × (Int × (Int × (Int × (Bool × (List Int))))))))) (a1 : Int) (a2 : Int) (r : Int), loopF (F148_b N) (fun _ _ _ => none) k a0 a1 a2 = some r → Con Go.Proofs.Try.prog 148 [.lf (.v (.sl Y105) a0), I a1, I a2] [.lf (.v (.int .i64) r)]
  | 0, a0, a1, a2, r, h => nomatch (show (none : Option (Int)) = some r from h)
  | k + 1, a0, a1, a2, r, h => ok148_b N _ (ok148_k N k) a0 a1 a2 h
theorem ok148 (N : Nat) (a0 : (List (Int × (ByteArray × (Int × (Int × (Int × (Bool × (List Int))))))))) (a1 : Int) (a2 : Int) {r : Int} (h : F148 N a0 a1 a2 = some r) : Con Go.Proofs.Try.prog 148 [.lf (.v (.sl Y105) a0), I a1, I a2] [.lf (.v (.int .i64) r)] := ok148_k N N a0 a1 a2 r h

/- loop.example/g00844/impl.PlanOk -/
def F88 (N : Nat) (a0 : (List (Int × (ByteArray × (Int × (Int × (Int × (Bool × (List Int))))))))) : Option (Bool) :=
  andO (F130 N (a0.length : Int) (1 : Int) (40 : Int)) fun y3 => cond (!y3) (some false) (andO (F145 N a0 (fun z0 => F146 N z0)) fun y4 => cond y4 (some false) (andO (F148 N a0 (0 : Int) (1 : Int)) fun y5 => some (y5 == (a0.length : Int))))
theorem ok88 (N : Nat) (a0 : (List (Int × (ByteArray × (Int × (Int × (Int × (Bool × (List Int))))))))) {r : Bool} (h : F88 N a0 = some r) : Con Go.Proofs.Try.prog 88 [.lf (.v (.sl Y105) a0)] [.lf (.v .bool r)] := by
  refine ctr [.lf (.v .bool)] T_ok Go.Proofs.Try.func88 rfl fun w0 E0 ht => ?_
  unfold F88 at h
  show VW _ _ _ _ _ (retQ _ _ _ _) _
  refine sR T_ok [0] [] ⟨[(0, .lf (.v (.sl Y105) a0))], []⟩ (tn 1) ?_
  refine VW.seq ?_
  refine VW.seq ?_
  refine VW.region ?_
  refine sG T_ok 2 [0, 4] [] ⟨[(0, .lf (.v (.sl Y105) a0)), (4, I (a0.length : Int))], []⟩ (tn 2) ?_
  obtain ⟨y3, hy, h⟩ := andO_some h
  refine cal false [.t (.int .i64), .t (.int .i64), .t (.int .i64)] [] (some 5) T_ok (ok130 N _ _ _ hy) ?_
  refine sG T_ok 2 [0, 7] [] ⟨[(0, .lf (.v (.sl Y105) a0)), (7, B (!y3))], []⟩ (tn 2) ?_
  refine spB 7 h (fun h => ?_) (fun h => ?_)
  · refine sN T_ok [0, 10] [] ⟨[(0, .lf (.v (.sl Y105) a0)), (10, B true)], []⟩ (tn 3) ?_
    refine VW.cond (b := true) (by kernel_rfl) (fun _ => ?_) (fun h' => nomatch h')
    refine sR T_ok [2] [] ⟨[(2, B false)], []⟩ (tn 1) ?_
    refine VW.ret ?_
    replace h := Option.some.inj h
    subst h
    exact rt []
  refine sG T_ok 1 [0, 7, 8] [] ⟨[(0, .lf (.v (.sl Y105) a0)), (7, B false), (8, .lf (.v (.sl Y105) a0))], []⟩ (tn 1) ?_
  refine VO.on (j := 4) (want := false) (d := 7) (b := false) rfl rfl rfl (by kernel_rfl) rfl ?_
  obtain ⟨y4, hy, h⟩ := andO_some h
  refine cal false [.t (.sl Y105), .clo []] [] (some 9) T_ok (ok145 N _ 146  (fun z0 => F146 N z0 ) (fun z0 _ hz => ok146 N z0 hz) hy) ?_
  refine sN T_ok [0, 10] [] ⟨[(0, .lf (.v (.sl Y105) a0)), (10, B y4)], []⟩ (tn 1) ?_
  refine cnd h (fun h => ?_) (fun h => ?_)
  · refine sR T_ok [2] [] ⟨[(2, B false)], []⟩ (tn 1) ?_
    refine VW.ret ?_
    replace h := Option.some.inj h
    subst h
    exact rt []
  refine VW.skip ?_
  refine VW.seq ?_
  refine VW.region ?_
  refine sG T_ok 1 [0, 11] [] ⟨[(0, .lf (.v (.sl Y105) a0)), (11, .lf (.v (.sl Y105) a0))], []⟩ (tn 1) ?_
  obtain ⟨y5, hy, h⟩ := andO_some h
  refine cal false [.t (.sl Y105), .t (.int .i64), .t (.int .i64)] [] (some 12) T_ok (ok148 N _ _ _ hy) ?_
  refine sN T_ok [2] [] ⟨[(2, B (y5 == (a0.length : Int)))], []⟩ (tn 4) ?_
  refine VW.ret ?_
  replace h := Option.some.inj h
  subst h
  exact rt []

/- loop.example/g00844/spec.l01Has -/
def F87_j0 (N : Nat) : Option (Bool) :=
  some false
def F87_l0_b (N : Nat) (a0 : (List Int)) (a1 : Int) (nx15 : Int → Option (Bool)) (x12 : Int) : Option (Bool) :=
  cond (decide (x12 < (a0.length : Int))) (gd (InR x12 a0.length) (cond ((a0.getD x12.toNat (Ty.dflt (.int .i64))) == a1) (some true) (nx15 (IntKind.i64.wrap (x12 + (1 : Int)))))) (F87_j0 N)
def F87_l0 (N : Nat) (a0 : (List Int)) (a1 : Int) : Nat → Int → Option (Bool) := loopF (F87_l0_b N a0 a1) (fun _ => none)
theorem F87_l0_s (N : Nat) (a0 : (List Int)) (a1 : Int) {k : Nat} (hk : 0 < k) (x12 : Int) : F87_l0 N a0 a1 k x12 = F87_l0_b N a0 a1 (F87_l0 N a0 a1 (k - 1)) x12 := by
  cases k with
  | zero => exact absurd hk (Nat.lt_irrefl 0)
  | succ m => rfl
def F87 (N : Nat) (a0 : (List Int)) (a1 : Int) : Option (Bool) :=
  F87_l0 N a0 a1 N (0 : Int)
theorem ok87 (N : Nat) (a0 : (List Int)) (a1 : Int) {r : Bool} (h : F87 N a0 a1 = some r) : Con Go.Proofs.Try.prog 87 [.lf (.v (.sl (.int .i64)) a0), I a1] [.lf (.v .bool r)] := by
  refine ctr [.lf (.v .bool)] T_ok Go.Proofs.Try.func87 rfl fun w0 E0 ht => ?_
  unfold F87 at h
  show VW _ _ _ _ _ (retQ _ _ _ _) _
  refine sR T_ok [0, 1] [] ⟨[(0, .lf (.v (.sl (.int .i64)) a0)), (1, I a1)], []⟩ (tn 1) ?_
  refine VW.join (fun s => s = ⟨[], []⟩ ∧ F87_j0 N = some r) ?_ ?_
  · refine sR T_ok [0, 1, 5] [] ⟨[(0, .lf (.v (.sl (.int .i64)) a0)), (1, I a1), (5, I (0 : Int))], []⟩ (tn 1) ?_
    refine VW.block ?_
    refine lop (fun k s => ∃ (x12 : Int), s = ⟨[(0, .lf (.v (.sl (.int .i64)) a0)), (1, I a1), (5, I x12)], []⟩ ∧ F87_l0 N a0 a1 k x12 = some r) N [.ren [0, 1, 5] []] ⟨(0 : Int), rfl, h⟩ ?_
    rintro k15 s ⟨x12, rfl, h⟩
    cases k15 with
    | zero => cases show none = some r from h
    | succ k15 =>
      replace h : F87_l0_b N a0 a1 (F87_l0 N a0 a1 k15) x12 = some r := h
      unfold F87_l0_b at h
      refine VW.seq ?_
      refine sR T_ok [0, 1, 5, 9] [] ⟨[(0, .lf (.v (.sl (.int .i64)) a0)), (1, I a1), (5, I x12), (9, B (decide (x12 < (a0.length : Int))))], []⟩ (tn 4) ?_
      refine cnd h (fun h => ?_) (fun h => ?_)
      · refine VW.skip ?_
        refine VW.seq ?_
        refine VW.block ?_
        obtain ⟨g17, h⟩ := gd_some h
        refine sR T_ok [0, 1, 5, 17] [] ⟨[(0, .lf (.v (.sl (.int .i64)) a0)), (1, I a1), (5, I x12), (17, B ((a0.getD x12.toNat (Ty.dflt (.int .i64))) == a1))], []⟩ (pu 2 (an g17 (tn 3))) ?_
        refine cnd h (fun h => ?_) (fun h => ?_)
        · refine sR T_ok [4] [] ⟨[(4, B true)], []⟩ (tn 1) ?_
          refine VW.ret ?_
          replace h := Option.some.inj h
          subst h
          exact rt []
        refine VW.skip ?_
        refine rR T_ok [0, 1, 5] [] ⟨[(0, .lf (.v (.sl (.int .i64)) a0)), (1, I a1), (5, I (IntKind.i64.wrap (x12 + (1 : Int))))], []⟩ (tn 3) ?_
        exact aro [.ren [0, 1, 5] []] ⟨(IntKind.i64.wrap (x12 + (1 : Int))), rfl, h⟩
      refine VW.exit ?_
      exact arv [.ren [] []] ⟨rfl, h⟩
  rintro s ⟨rfl, h⟩
  unfold F87_j0 at h
  refine sR T_ok [4] [] ⟨[(4, B false)], []⟩ (tn 1) ?_
  refine VW.ret ?_
  replace h := Option.some.inj h
  subst h
  exact rt []

/- loop.example/g00844/spec.SlotsOf -/
def F30_j0 (N : Nat) (x210 : (List Int)) : Option ((List Int)) :=
  some x210
def F30_j1 (N : Nat) (nx350 : (List Int) → Int → Option ((List Int))) (x281 : Int) (x384 : (List Int)) : Option ((List Int)) :=
  nx350 x384 (IntKind.i64.wrap (x281 + (1 : Int)))
def F30_j2 (N : Nat) (nx408 : (List Int) → Int → Option ((List Int))) (x397 : Int) (x413 : (List Int)) : Option ((List Int)) :=
  nx408 x413 (IntKind.i64.wrap (x397 + (1 : Int)))
def F30_l0_b (N : Nat) (a0 : (List (Int × (ByteArray × (Int × (Int × (Int × (Bool × (List Int))))))))) (nx350 : (List Int) → Int → Option ((List Int))) (x281 : Int) (nx408 : (List Int) → Int → Option ((List Int))) (x396 : (List Int)) (x397 : Int) : Option ((List Int)) :=
  cond (decide (x397 < (a0.length : Int))) (gd (InR x397 a0.length) (cond ((a0.getD x397.toNat (Ty.dflt Y105)).2.2.2.2.2.1) (gd (InR x397 a0.length) (cond (((a0.getD x397.toNat (Ty.dflt Y105)).2.2.2.2.1) == x281) (andO (F87 N x396 x281) fun y417 => cond (!y417) (gd (x396.length + ([x281]).length ≤ lim (.int .i64)) (F30_j2 N nx408 x397 (x396 ++ ([x281])))) (F30_j2 N nx408 x397 x396)) (F30_j2 N nx408 x397 x396))) (F30_j2 N nx408 x397 x396))) (F30_j1 N nx350 x281 x396)
def F30_l0 (N : Nat) (a0 : (List (Int × (ByteArray × (Int × (Int × (Int × (Bool × (List Int))))))))) (nx350 : (List Int) → Int → Option ((List Int))) (x281 : Int) : Nat → (List Int) → Int → Option ((List Int)) := loopF (F30_l0_b N a0 nx350 x281) (fun _ _ => none)
theorem F30_l0_s (N : Nat) (a0 : (List (Int × (ByteArray × (Int × (Int × (Int × (Bool × (List Int))))))))) (nx350 : (List Int) → Int → Option ((List Int))) (x281 : Int) {k : Nat} (hk : 0 < k) (x396 : (List Int)) (x397 : Int) : F30_l0 N a0 nx350 x281 k x396 x397 = F30_l0_b N a0 nx350 x281 (F30_l0 N a0 nx350 x281 (k - 1)) x396 x397 := by
  cases k with
  | zero => exact absurd hk (Nat.lt_irrefl 0)
  | succ m => rfl
def F30_l1_b (N : Nat) (a0 : (List (Int × (ByteArray × (Int × (Int × (Int × (Bool × (List Int))))))))) (nx350 : (List Int) → Int → Option ((List Int))) (x280 : (List Int)) (x281 : Int) : Option ((List Int)) :=
  cond (decide (x281 < (40 : Int))) (F30_l0 N a0 nx350 x281 N x280 (0 : Int)) (F30_j0 N x280)
def F30_l1 (N : Nat) (a0 : (List (Int × (ByteArray × (Int × (Int × (Int × (Bool × (List Int))))))))) : Nat → (List Int) → Int → Option ((List Int)) := loopF (F30_l1_b N a0) (fun _ _ => none)
theorem F30_l1_s (N : Nat) (a0 : (List (Int × (ByteArray × (Int × (Int × (Int × (Bool × (List Int))))))))) {k : Nat} (hk : 0 < k) (x280 : (List Int)) (x281 : Int) : F30_l1 N a0 k x280 x281 = F30_l1_b N a0 (F30_l1 N a0 (k - 1)) x280 x281 := by
  cases k with
  | zero => exact absurd hk (Nat.lt_irrefl 0)
  | succ m => rfl
def F30 (N : Nat) (a0 : (List (Int × (ByteArray × (Int × (Int × (Int × (Bool × (List Int))))))))) : Option ((List Int)) :=
  andO (F86 N a0) fun y2 => cond (!y2) (some ([])) (F30_l1 N a0 N ([]) (0 : Int))
theorem ok30 (N : Nat) (a0 : (List (Int × (ByteArray × (Int × (Int × (Int × (Bool × (List Int))))))))) {r : (List Int)} (h : F30 N a0 = some r) : Con Go.Proofs.Try.prog 30 [.lf (.v (.sl Y105) a0)] [.lf (.own (.int .i64) r .dp)] := by
  refine ctr [.lf (.own (.int .i64) .dp)] T_ok Go.Proofs.Try.func30 rfl fun w0 E0 ht => ?_
  unfold F30 at h
  show VW _ _ _ _ _ (retQ _ _ _ _) _
  refine sR T_ok [0] [] ⟨[(0, .lf (.v (.sl Y105) a0))], []⟩ (tn 1) ?_
  refine sR T_ok [0, 3] [] ⟨[(0, .lf (.v (.sl Y105) a0)), (3, .lf (.nil))], []⟩ (tn 2) ?_
  refine VW.seq ?_
  refine VW.seq ?_
  refine VW.region ?_
  refine sG T_ok 1 [0, 3, 7] [] ⟨[(0, .lf (.v (.sl Y105) a0)), (3, .lf (.nil)), (7, .lf (.v (.sl Y105) a0))], []⟩ (tn 1) ?_
  obtain ⟨y2, hy, h⟩ := andO_some h
  refine cal false [.t (.sl Y105)] [] (some 8) T_ok (ok86 N _ hy) ?_
  refine sN T_ok [0, 3, 9] [] ⟨[(0, .lf (.v (.sl Y105) a0)), (3, .lf (.nil)), (9, B (!y2))], []⟩ (tn 1) ?_
  refine cnd h (fun h => ?_) (fun h => ?_)
  · refine sR T_ok [2] [] ⟨[(2, .lf (.nil))], []⟩ (tn 1) ?_
    refine VW.ret ?_
    replace h := Option.some.inj h
    subst h
    exact rt [none]
  refine VW.skip ?_
  refine VW.join (fun s => ∃ (x210 : (List Int)), s = ⟨[(3, .lf (.hd 0 0 none))], [ar 0 (.int .i64) x210 .dp]⟩ ∧ F30_j0 N x210 = some r) ?_ ?_
  · refine sR T_ok [0, 3, 4] [] ⟨[(0, .lf (.v (.sl Y105) a0)), (3, .lf (.nil)), (4, I (0 : Int))], []⟩ (tn 1) ?_
    refine VW.block ?_
    refine lop (fun k s => ∃ (x280 : (List Int)) (x281 : Int), s = ⟨[(0, .lf (.v (.sl Y105) a0)), (3, .lf (.hd 0 0 none)), (4, I x281)], [ar 0 (.int .i64) x280 .dp]⟩ ∧ F30_l1 N a0 k x280 x281 = some r) N [.nilS 3 (.int .i64) .dp, .ren [0, 3, 4] [0]] ⟨[], (0 : Int), rfl, h⟩ ?_
    rintro k350 s ⟨x280, x281, rfl, h⟩
    cases k350 with
    | zero => cases show none = some r from h
    | succ k350 =>
      replace h : F30_l1_b N a0 (F30_l1 N a0 k350) x280 x281 = some r := h
      unfold F30_l1_b at h
      refine VW.seq ?_
      refine sR T_ok [0, 3, 4, 11] [0] ⟨[(0, .lf (.v (.sl Y105) a0)), (3, .lf (.hd 0 0 none)), (4, I x281), (11, B (decide (x281 < (40 : Int))))], [ar 0 (.int .i64) x280 .dp]⟩ (tn 2) ?_
      refine cnd h (fun h => ?_) (fun h => ?_)
      · refine VW.skip ?_
        refine VW.join (fun s => ∃ (x384 : (List Int)), s = ⟨[(0, .lf (.v (.sl Y105) a0)), (3, .lf (.hd 0 0 none)), (4, I x281)], [ar 0 (.int .i64) x384 .dp]⟩ ∧ F30_j1 N (F30_l1 N a0 k350) x281 x384 = some r) ?_ ?_
        · refine VW.block ?_
          refine sR T_ok [0, 3, 4, 5] [0] ⟨[(0, .lf (.v (.sl Y105) a0)), (3, .lf (.hd 0 0 none)), (4, I x281), (5, I (0 : Int))], [ar 0 (.int .i64) x280 .dp]⟩ (tn 1) ?_
          refine VW.block ?_
          refine lop (fun k s => ∃ (x396 : (List Int)) (x397 : Int), s = ⟨[(0, .lf (.v (.sl Y105) a0)), (3, .lf (.hd 0 0 none)), (4, I x281), (5, I x397)], [ar 0 (.int .i64) x396 .dp]⟩ ∧ F30_l0 N a0 (F30_l1 N a0 k350) x281 k x396 x397 = some r) N [.ren [0, 3, 4, 5] [0]] ⟨x280, (0 : Int), rfl, h⟩ ?_
          rintro k408 s ⟨x396, x397, rfl, h⟩
          cases k408 with
          | zero => cases show none = some r from h
          | succ k408 =>
            replace h : F30_l0_b N a0 (F30_l1 N a0 k350) x281 (F30_l0 N a0 (F30_l1 N a0 k350) x281 k408) x396 x397 = some r := h
            unfold F30_l0_b at h
            refine VW.seq ?_
            refine sR T_ok [0, 3, 4, 5, 17] [0] ⟨[(0, .lf (.v (.sl Y105) a0)), (3, .lf (.hd 0 0 none)), (4, I x281), (5, I x397), (17, B (decide (x397 < (a0.length : Int))))], [ar 0 (.int .i64) x396 .dp]⟩ (tn 4) ?_
            refine cnd h (fun h => ?_) (fun h => ?_)
            · refine VW.skip ?_
              refine VW.join (fun s => ∃ (x413 : (List Int)), s = ⟨[(0, .lf (.v (.sl Y105) a0)), (3, .lf (.hd 0 0 none)), (4, I x281), (5, I x397)], [ar 0 (.int .i64) x413 .dp]⟩ ∧ F30_j2 N (F30_l0 N a0 (F30_l1 N a0 k350) x281 k408) x397 x413 = some r) ?_ ?_
              · refine VW.block ?_
                refine VW.seq ?_
                refine VW.region ?_
                obtain ⟨g415, h⟩ := gd_some h
                refine sG T_ok 6 [0, 3, 4, 5, 25] [0] ⟨[(0, .lf (.v (.sl Y105) a0)), (3, .lf (.hd 0 0 none)), (4, I x281), (5, I x397), (25, B ((a0.getD x397.toNat (Ty.dflt Y105)).2.2.2.2.2.1))], [ar 0 (.int .i64) x396 .dp]⟩ (pu 2 (an g415 (tn 3))) ?_
                refine spB 25 h (fun h => ?_) (fun h => ?_)
                · obtain ⟨g416, h⟩ := gd_some h
                  refine sG T_ok 9 [0, 3, 4, 5, 34] [0] ⟨[(0, .lf (.v (.sl Y105) a0)), (3, .lf (.hd 0 0 none)), (4, I x281), (5, I x397), (34, B (((a0.getD x397.toNat (Ty.dflt Y105)).2.2.2.2.1) == x281))], [ar 0 (.int .i64) x396 .dp]⟩ (pu 2 (an g416 (tn 6))) ?_
                  refine spB 34 h (fun h => ?_) (fun h => ?_)
                  · refine sG T_ok 2 [0, 3, 4, 5, 34, 35, 36] [0] ⟨[(0, .lf (.v (.sl Y105) a0)), (3, .lf (.hd 0 0 none)), (4, I x281), (5, I x397), (34, B true), (35, .lf (.hd 0 0 none)), (36, I x281)], [ar 0 (.int .i64) x396 .dp]⟩ (tn 2) ?_
                    refine VO.on (j := 14) (want := true) (d := 34) (b := true) rfl rfl rfl (by kernel_rfl) rfl ?_
                    obtain ⟨y417, hy, h⟩ := andO_some h
                    refine cal true [.t (.sl (.int .i64)), .t (.int .i64)] [] (some 37) T_ok (ok87 N _ _ hy) ?_
                    refine sN T_ok [0, 3, 4, 5, 39] [0] ⟨[(0, .lf (.v (.sl Y105) a0)), (3, .lf (.hd 0 0 none)), (4, I x281), (5, I x397), (39, B (!y417))], [ar 0 (.int .i64) x396 .dp]⟩ (tn 2) ?_
                    refine cnd h (fun h => ?_) (fun h => ?_)
                    · obtain ⟨g418, h⟩ := gd_some h
                      refine rR T_ok [0, 3, 4, 5] [0] ⟨[(0, .lf (.v (.sl Y105) a0)), (3, .lf (.hd 0 0 none)), (4, I x281), (5, I x397)], [ar 0 (.int .i64) (x396 ++ ([x281])) .dp]⟩ (pu 3 (an g418 (tn 1))) ?_
                      exact arv [.ren [0, 3, 4, 5] [0]] ⟨(x396 ++ ([x281])), rfl, h⟩
                    refine VW.skip ?_
                    exact arv [.ren [0, 3, 4, 5] [0]] ⟨x396, rfl, h⟩
                  refine sN T_ok [0, 3, 4, 5, 39] [0] ⟨[(0, .lf (.v (.sl Y105) a0)), (3, .lf (.hd 0 0 none)), (4, I x281), (5, I x397), (39, B false)], [ar 0 (.int .i64) x396 .dp]⟩ (tn 5) ?_
                  refine VW.cond (b := false) (by kernel_rfl) (fun h' => nomatch h') (fun _ => ?_)
                  refine VW.skip ?_
                  exact arv [.ren [0, 3, 4, 5] [0]] ⟨x396, rfl, h⟩
                refine sN T_ok [0, 3, 4, 5, 39] [0] ⟨[(0, .lf (.v (.sl Y105) a0)), (3, .lf (.hd 0 0 none)), (4, I x281), (5, I x397), (39, B false)], [ar 0 (.int .i64) x396 .dp]⟩ (tn 14) ?_
                refine VW.cond (b := false) (by kernel_rfl) (fun h' => nomatch h') (fun _ => ?_)
                refine VW.skip ?_
                exact arv [.ren [0, 3, 4, 5] [0]] ⟨x396, rfl, h⟩
              rintro s ⟨x413, rfl, h⟩
              unfold F30_j2 at h
              refine rR T_ok [0, 3, 4, 5] [0] ⟨[(0, .lf (.v (.sl Y105) a0)), (3, .lf (.hd 0 0 none)), (4, I x281), (5, I (IntKind.i64.wrap (x397 + (1 : Int))))], [ar 0 (.int .i64) x413 .dp]⟩ (tn 3) ?_
              exact aro [.ren [0, 3, 4, 5] [0]] ⟨x413, (IntKind.i64.wrap (x397 + (1 : Int))), rfl, h⟩
            refine VW.exit ?_
            exact arv [.ren [0, 3, 4] [0]] ⟨x396, rfl, h⟩
        rintro s ⟨x384, rfl, h⟩
        unfold F30_j1 at h
        refine rR T_ok [0, 3, 4] [0] ⟨[(0, .lf (.v (.sl Y105) a0)), (3, .lf (.hd 0 0 none)), (4, I (IntKind.i64.wrap (x281 + (1 : Int))))], [ar 0 (.int .i64) x384 .dp]⟩ (tn 3) ?_
        exact aro [.ren [0, 3, 4] [0]] ⟨x384, (IntKind.i64.wrap (x281 + (1 : Int))), rfl, h⟩
      refine VW.exit ?_
      exact arv [.ren [3] [0]] ⟨x280, rfl, h⟩
  rintro s ⟨x210, rfl, h⟩
  unfold F30_j0 at h
  refine sR T_ok [2] [0] ⟨[(2, .lf (.hd 0 0 none))], [ar 0 (.int .i64) x210 .dp]⟩ (tn 2) ?_
  refine VW.ret ?_
  replace h := Option.some.inj h
  subst h
  exact rt [some 0]

/- slices.Sort of integers: proved of any program that bears it -/
def F89 (N : Nat) (a0 : (List Int)) : Option ((List Int)) :=
  gd (a0.length < 4611686018427387904) (some (a0.mergeSort fun x y => decide (x ≤ y)))
theorem ok89 (N : Nat) (a0 : (List Int)) {r : (List Int)} (h : F89 N a0 = some r) : ConM Go.Proofs.Try.prog 89 [some (.arr 0 (.int .i64) a0 .dp)] [.lf (.hd 0 0 none)] [] [some (.arr 0 (.int .i64) r .dp)] := by
  obtain ⟨g, h⟩ := gd_some h
  cases h
  exact con_sort (enters_of Go.Proofs.Try.func89 rfl (by decide)) g (fun p c w => Go.Proofs.Try.slices_Sort_int_none p c w) (fun b c w h1 h2 => Go.Proofs.Try.slices_Sort_int b 0 c a0 w h1 h2 g)

/- slices.Compact of integers: proved of any program that bears it -/
def F90 (N : Nat) (a0 : (List Int)) : Option ((List Int)) :=
  gd (a0.length ≤ 9223372036854775807) (some (Lib.compact a0))
theorem ok90 (N : Nat) (a0 : (List Int)) {r : (List Int)} (h : F90 N a0 = some r) : ConM Go.Proofs.Try.prog 90 [some (.arr 0 (.int .i64) a0 .dp)] [.lf (.hd 0 0 none)] [.lf (.own (.int .i64) r .dp)] [none] := by
  obtain ⟨g, h⟩ := gd_some h
  cases h
  exact con_compact (enters_of Go.Proofs.Try.func90 rfl (by decide)) g (fun p c w => Go.Proofs.Try.slices_Compact_int_empty p c w) (fun b c w h1 h2 => Go.Proofs.Try.slices_Compact_int b 0 c a0 w h1 g h2)

/- loop.example/g00844/impl.SlotsOf -/
def F31_j0 (N : Nat) (x26 : (List Int)) : Option ((List Int)) :=
  andO (F89 N x26) fun y27 => andO (F90 N y27) fun y28 => some y28
def F31_j1 (N : Nat) (nx46 : (List Int) → Int → Int → Option ((List Int))) (x38 : Int) (x39 : Int) (x49 : (List Int)) : Option ((List Int)) :=
  nx46 x49 x38 (IntKind.i64.wrap (x39 + (1 : Int)))
def F31_l0_b (N : Nat) (a0 : (List (Int × (ByteArray × (Int × (Int × (Int × (Bool × (List Int))))))))) (nx46 : (List Int) → Int → Int → Option ((List Int))) (x37 : (List Int)) (x38 : Int) (x39 : Int) : Option ((List Int)) :=
  cond (decide (x39 < x38)) (gd (InR x39 a0.length) (cond ((a0.getD x39.toNat (Ty.dflt Y105)).2.2.2.2.2.1) (gd (x37.length + ([(a0.getD x39.toNat (Ty.dflt Y105)).2.2.2.2.1]).length ≤ lim (.int .i64)) (F31_j1 N nx46 x38 x39 (x37 ++ ([(a0.getD x39.toNat (Ty.dflt Y105)).2.2.2.2.1])))) (F31_j1 N nx46 x38 x39 x37))) (F31_j0 N x37)
def F31_l0 (N : Nat) (a0 : (List (Int × (ByteArray × (Int × (Int × (Int × (Bool × (List Int))))))))) : Nat → (List Int) → Int → Int → Option ((List Int)) := loopF (F31_l0_b N a0) (fun _ _ _ => none)
theorem F31_l0_s (N : Nat) (a0 : (List (Int × (ByteArray × (Int × (Int × (Int × (Bool × (List Int))))))))) {k : Nat} (hk : 0 < k) (x37 : (List Int)) (x38 : Int) (x39 : Int) : F31_l0 N a0 k x37 x38 x39 = F31_l0_b N a0 (F31_l0 N a0 (k - 1)) x37 x38 x39 := by
  cases k with
  | zero => exact absurd hk (Nat.lt_irrefl 0)
  | succ m => rfl
def F31 (N : Nat) (a0 : (List (Int × (ByteArray × (Int × (Int × (Int × (Bool × (List Int))))))))) : Option ((List Int)) :=
  andO (F88 N a0) fun y2 => cond (!y2) (some ([])) (F31_l0 N a0 N ([]) (a0.length : Int) (0 : Int))
theorem ok31 (N : Nat) (a0 : (List (Int × (ByteArray × (Int × (Int × (Int × (Bool × (List Int))))))))) {r : (List Int)} (h : F31 N a0 = some r) : Con Go.Proofs.Try.prog 31 [.lf (.v (.sl Y105) a0)] [.lf (.own (.int .i64) r .dp)] := by
  refine ctr [.lf (.own (.int .i64) .dp)] T_ok Go.Proofs.Try.func31 rfl fun w0 E0 ht => ?_
  unfold F31 at h
  show VW _ _ _ _ _ (retQ _ _ _ _) _
  refine sR T_ok [0] [] ⟨[(0, .lf (.v (.sl Y105) a0))], []⟩ (tn 1) ?_
  refine VW.seq ?_
  refine VW.seq ?_
  refine VW.region ?_
  refine sG T_ok 1 [0, 6] [] ⟨[(0, .lf (.v (.sl Y105) a0)), (6, .lf (.v (.sl Y105) a0))], []⟩ (tn 1) ?_
  obtain ⟨y2, hy, h⟩ := andO_some h
  refine cal false [.t (.sl Y105)] [] (some 7) T_ok (ok88 N _ hy) ?_
  refine sN T_ok [0, 8] [] ⟨[(0, .lf (.v (.sl Y105) a0)), (8, B (!y2))], []⟩ (tn 1) ?_
  refine cnd h (fun h => ?_) (fun h => ?_)
  · refine sR T_ok [2] [] ⟨[(2, .lf (.nil))], []⟩ (tn 1) ?_
    refine VW.ret ?_
    replace h := Option.some.inj h
    subst h
    exact rt [none]
  refine VW.skip ?_
  refine sR T_ok [0, 3] [] ⟨[(0, .lf (.v (.sl Y105) a0)), (3, .lf (.nil))], []⟩ (tn 1) ?_
  refine VW.join (fun s => ∃ (x26 : (List Int)), s = ⟨[(3, .lf (.hd 0 0 none))], [ar 0 (.int .i64) x26 .dp]⟩ ∧ F31_j0 N x26 = some r) ?_ ?_
  · refine sR T_ok [3, 9, 10, 11] [] ⟨[(3, .lf (.nil)), (9, .lf (.v (.sl Y105) a0)), (10, I (a0.length : Int)), (11, I (0 : Int))], []⟩ (tn 3) ?_
    refine VW.block ?_
    refine lop (fun k s => ∃ (x37 : (List Int)) (x38 : Int) (x39 : Int), s = ⟨[(3, .lf (.hd 0 0 none)), (9, .lf (.v (.sl Y105) a0)), (10, I x38), (11, I x39)], [ar 0 (.int .i64) x37 .dp]⟩ ∧ F31_l0 N a0 k x37 x38 x39 = some r) N [.nilS 3 (.int .i64) .dp, .ren [3, 9, 10, 11] [0]] ⟨[], (a0.length : Int), (0 : Int), rfl, h⟩ ?_
    rintro k46 s ⟨x37, x38, x39, rfl, h⟩
    cases k46 with
    | zero => cases show none = some r from h
    | succ k46 =>
      replace h : F31_l0_b N a0 (F31_l0 N a0 k46) x37 x38 x39 = some r := h
      unfold F31_l0_b at h
      refine sR T_ok [3, 9, 10, 11, 12] [0] ⟨[(3, .lf (.hd 0 0 none)), (9, .lf (.v (.sl Y105) a0)), (10, I x38), (11, I x39), (12, B (decide (x39 < x38)))], [ar 0 (.int .i64) x37 .dp]⟩ (tn 1) ?_
      refine VW.seq ?_
      refine cnd h (fun h => ?_) (fun h => ?_)
      · refine VW.skip ?_
        refine VW.join (fun s => ∃ (x49 : (List Int)), s = ⟨[(3, .lf (.hd 0 0 none)), (9, .lf (.v (.sl Y105) a0)), (10, I x38), (11, I x39)], [ar 0 (.int .i64) x49 .dp]⟩ ∧ F31_j1 N (F31_l0 N a0 k46) x38 x39 x49 = some r) ?_ ?_
        · refine VW.block ?_
          obtain ⟨g51, h⟩ := gd_some h
          refine sR T_ok [3, 5, 9, 10, 11] [0, 1] ⟨[(3, .lf (.hd 0 0 none)), (5, .lf (.ptr 1 0 0 0)), (9, .lf (.v (.sl Y105) a0)), (10, I x38), (11, I x39)], [ar 0 (.int .i64) x37 .dp, bx [.v (.int .i64) ((a0.getD x39.toNat (Ty.dflt Y105)).1), .v .str ((a0.getD x39.toNat (Ty.dflt Y105)).2.1), .v (.int .i64) ((a0.getD x39.toNat (Ty.dflt Y105)).2.2.1), .v (.int .i64) ((a0.getD x39.toNat (Ty.dflt Y105)).2.2.2.1), .v (.int .i64) ((a0.getD x39.toNat (Ty.dflt Y105)).2.2.2.2.1), .v .bool ((a0.getD x39.toNat (Ty.dflt Y105)).2.2.2.2.2.1), .v (.sl (.int .i64)) ((a0.getD x39.toNat (Ty.dflt Y105)).2.2.2.2.2.2)] 107]⟩ (an g51 (tn 3)) ?_
          refine sR T_ok [3, 5, 9, 10, 11, 16] [0, 1] ⟨[(3, .lf (.hd 0 0 none)), (5, .lf (.ptr 1 0 0 0)), (9, .lf (.v (.sl Y105) a0)), (10, I x38), (11, I x39), (16, B ((a0.getD x39.toNat (Ty.dflt Y105)).2.2.2.2.2.1))], [ar 0 (.int .i64) x37 .dp, bx [.v (.int .i64) ((a0.getD x39.toNat (Ty.dflt Y105)).1), .v .str ((a0.getD x39.toNat (Ty.dflt Y105)).2.1), .v (.int .i64) ((a0.getD x39.toNat (Ty.dflt Y105)).2.2.1), .v (.int .i64) ((a0.getD x39.toNat (Ty.dflt Y105)).2.2.2.1), .v (.int .i64) ((a0.getD x39.toNat (Ty.dflt Y105)).2.2.2.2.1), .v .bool ((a0.getD x39.toNat (Ty.dflt Y105)).2.2.2.2.2.1), .v (.sl (.int .i64)) ((a0.getD x39.toNat (Ty.dflt Y105)).2.2.2.2.2.2)] 107]⟩ (tn 2) ?_
          refine cnd h (fun h => ?_) (fun h => ?_)
          · obtain ⟨g52, h⟩ := gd_some h
            refine rR T_ok [3, 9, 10, 11] [0] ⟨[(3, .lf (.hd 0 0 none)), (9, .lf (.v (.sl Y105) a0)), (10, I x38), (11, I x39)], [ar 0 (.int .i64) (x37 ++ ([(a0.getD x39.toNat (Ty.dflt Y105)).2.2.2.2.1])) .dp]⟩ (pu 4 (an g52 (tn 1))) ?_
            exact arv [.ren [3, 9, 10, 11] [0]] ⟨(x37 ++ ([(a0.getD x39.toNat (Ty.dflt Y105)).2.2.2.2.1])), rfl, h⟩
          refine VW.skip ?_
          exact arv [.ren [3, 9, 10, 11] [0]] ⟨x37, rfl, h⟩
        rintro s ⟨x49, rfl, h⟩
        unfold F31_j1 at h
        refine rR T_ok [3, 9, 10, 11] [0] ⟨[(3, .lf (.hd 0 0 none)), (9, .lf (.v (.sl Y105) a0)), (10, I x38), (11, I (IntKind.i64.wrap (x39 + (1 : Int))))], [ar 0 (.int .i64) x49 .dp]⟩ (tn 2) ?_
        exact aro [.ren [3, 9, 10, 11] [0]] ⟨x49, x38, (IntKind.i64.wrap (x39 + (1 : Int))), rfl, h⟩
      refine VW.exit ?_
      exact arv [.ren [3] [0]] ⟨x37, rfl, h⟩
  rintro s ⟨x26, rfl, h⟩
  unfold F31_j0 at h
  refine VW.seq ?_
  refine VW.region ?_
  refine sG T_ok 1 [3, 23] [0] ⟨[(3, .lf (.hd 0 0 none)), (23, .lf (.hd 0 0 none))], [ar 0 (.int .i64) x26 .dp]⟩ (tn 1) ?_
  obtain ⟨y27, hy, h⟩ := andO_some h
  refine VO.callM [0] [.t (.sl (.int .i64))] (d := some 24) (by kernel_rfl) (by kernel_rfl) (ok89 N _ hy) (by kernel_rfl) ?_
  refine sN T_ok [3] [0] ⟨[(3, .lf (.hd 0 0 none))], [ar 0 (.int .i64) y27 .dp]⟩ (tn 0) ?_
  refine VW.seq ?_
  refine VW.region ?_
  refine sG T_ok 1 [25] [0] ⟨[(25, .lf (.hd 0 0 none))], [ar 0 (.int .i64) y27 .dp]⟩ (tn 1) ?_
  obtain ⟨y28, hy, h⟩ := andO_some h
  refine VO.callM [0] [.t (.sl (.int .i64))] (d := some 26) (by kernel_rfl) (by kernel_rfl) (ok90 N _ hy) (by kernel_rfl) ?_
  refine sN T_ok [2] [1] ⟨[(2, .lf (.hd 0 0 none))], [ar 0 (.int .i64) y28 .dp]⟩ (tn 1) ?_
  refine VW.ret ?_
  replace h := Option.some.inj h
  subst h
  exact rt [some 0]

/- loop.example/g00844/laws.FnExactSlotsOf -/
def F6 (N : Nat) (a0 : (List (Int × (ByteArray × (Int × (Int × (Int × (Bool × (List Int))))))))) : Option (Bool) :=
  andO (F25 N a0 (1048576 : Int)) fun y1 => cond (decide (y1 < (0 : Int))) (some true) (andO (F27 N a0) fun y2 => andO (F30 N y2) fun y3 => andO (F27 N a0) fun y4 => andO (F31 N y4) fun y5 => andO (F32 N y5 y3) fun y7 => cond (!y7) (some false) (andO (F27 N a0) fun y10 => andO (F29 N y4 y10) fun y11 => cond (!y11) (some false) (andO (F33 N y4 (1 : Int)) fun y12 => cond (decide (y12.2 < (0 : Int))) (some false) (andO (F32 N y5 y3) fun y14 => cond (!y14) (some false) (andO (F34 N y5 (1 : Int)) fun y15 => andO (F35 N y15.1 (1 : Int)) fun y16 => cond (decide (y16 < (0 : Int))) (some false) (cond (y16 != y15.2) (some false) (andO (F27 N a0) fun y17 => andO (F31 N y17) fun y18 => andO (F32 N y18 y3) fun y20 => cond (!y20) (some false) (andO (F35 N y15.1 (1 : Int)) fun y21 => cond (decide (y21 < (0 : Int))) (some false) (cond (y21 != y15.2) (some false) (some true))))))))))
theorem ok6 (N : Nat) (a0 : (List (Int × (ByteArray × (Int × (Int × (Int × (Bool × (List Int))))))))) {r : Bool} (h : F6 N a0 = some r) : Con Go.Proofs.Try.prog 6 [.lf (.v (.sl Y105) a0)] [.lf (.v .bool r)] := by
  refine ctr [.lf (.v .bool)] T_ok Go.Proofs.Try.func6 rfl fun w0 E0 ht => ?_
  unfold F6 at h
  show VW _ _ _ _ _ (retQ _ _ _ _) _
  refine sR T_ok [0] [] ⟨[(0, .lf (.v (.sl Y105) a0))], []⟩ (tn 1) ?_
  refine sR T_ok [0, 3] [] ⟨[(0, .lf (.v (.sl Y105) a0)), (3, I (1048576 : Int))], []⟩ (tn 1) ?_
  refine VW.seq ?_
  refine VW.region ?_
  refine sG T_ok 2 [0, 11, 12] [] ⟨[(0, .lf (.v (.sl Y105) a0)), (11, .lf (.v (.sl Y105) a0)), (12, I (1048576 : Int))], []⟩ (tn 2) ?_
  obtain ⟨y1, hy, h⟩ := andO_some h
  refine cal false [.t (.sl Y105), .t (.int .i64)] [] (some 13) T_ok (ok25 N _ _ hy) ?_
  refine sN T_ok [0, 3] [] ⟨[(0, .lf (.v (.sl Y105) a0)), (3, I y1)], []⟩ (tn 1) ?_
  refine VW.seq ?_
  refine sR T_ok [0, 15] [] ⟨[(0, .lf (.v (.sl Y105) a0)), (15, B (decide (y1 < (0 : Int))))], []⟩ (tn 2) ?_
  refine cnd h (fun h => ?_) (fun h => ?_)
  · refine sR T_ok [2] [] ⟨[(2, B true)], []⟩ (tn 1) ?_
    refine VW.ret ?_
    replace h := Option.some.inj h
    subst h
    exact rt []
  refine VW.skip ?_
  refine VW.seq ?_
  refine VW.region ?_
  refine sG T_ok 1 [0, 16] [] ⟨[(0, .lf (.v (.sl Y105) a0)), (16, .lf (.v (.sl Y105) a0))], []⟩ (tn 1) ?_
  obtain ⟨y2, hy, h⟩ := andO_some h
  refine cal false [.t (.sl Y105)] [] (some 17) T_ok (ok27 N _ hy) ?_
  obtain ⟨y3, hy, h⟩ := andO_some h
  refine cal true [.t (.sl Y105)] [] (some 18) T_ok (ok30 N _ hy) ?_
  refine sN T_ok [0, 4] [1] ⟨[(0, .lf (.v (.sl Y105) a0)), (4, .lf (.hd 0 0 none))], [ar 0 (.int .i64) y3 .dp]⟩ (tn 1) ?_
  refine VW.seq ?_
  refine VW.region ?_
  refine sG T_ok 1 [0, 4, 19] [0] ⟨[(0, .lf (.v (.sl Y105) a0)), (4, .lf (.hd 0 0 none)), (19, .lf (.v (.sl Y105) a0))], [ar 0 (.int .i64) y3 .dp]⟩ (tn 1) ?_
  obtain ⟨y4, hy, h⟩ := andO_some h
  refine cal false [.t (.sl Y105)] [] (some 20) T_ok (ok27 N _ hy) ?_
  refine sN T_ok [0, 4, 5] [0, 1] ⟨[(0, .lf (.v (.sl Y105) a0)), (4, .lf (.hd 0 0 none)), (5, .lf (.hd 1 0 none))], [ar 0 (.int .i64) y3 .dp, ar 0 Y105 y4 .dp]⟩ (tn 1) ?_
  refine VW.seq ?_
  refine VW.region ?_
  refine sG T_ok 1 [0, 4, 5, 21] [0, 1] ⟨[(0, .lf (.v (.sl Y105) a0)), (4, .lf (.hd 0 0 none)), (5, .lf (.hd 1 0 none)), (21, .lf (.hd 1 0 none))], [ar 0 (.int .i64) y3 .dp, ar 0 Y105 y4 .dp]⟩ (tn 1) ?_
  obtain ⟨y5, hy, h⟩ := andO_some h
  refine cal true [.t (.sl Y105)] [] (some 22) T_ok (ok31 N _ hy) ?_
  refine sN T_ok [0, 4, 5, 6] [0, 1, 2] ⟨[(0, .lf (.v (.sl Y105) a0)), (4, .lf (.hd 0 0 none)), (5, .lf (.hd 1 0 none)), (6, .lf (.hd 2 0 none))], [ar 0 (.int .i64) y3 .dp, ar 0 Y105 y4 .dp, ar 0 (.int .i64) y5 .dp]⟩ (tn 1) ?_
  refine VW.seq ?_
  refine VW.seq ?_
  refine VW.region ?_
  refine sG T_ok 2 [0, 4, 5, 6, 23, 24] [0, 1, 2] ⟨[(0, .lf (.v (.sl Y105) a0)), (4, .lf (.hd 0 0 none)), (5, .lf (.hd 1 0 none)), (6, .lf (.hd 2 0 none)), (23, .lf (.hd 2 0 none)), (24, .lf (.hd 0 0 none))], [ar 0 (.int .i64) y3 .dp, ar 0 Y105 y4 .dp, ar 0 (.int .i64) y5 .dp]⟩ (tn 2) ?_
  obtain ⟨y7, hy, h⟩ := andO_some h
  refine cal true [.t (.sl (.int .i64)), .t (.sl (.int .i64))] [] (some 25) T_ok (ok32 N _ _ hy) ?_
  refine sN T_ok [0, 4, 5, 6, 26] [0, 1, 2] ⟨[(0, .lf (.v (.sl Y105) a0)), (4, .lf (.hd 0 0 none)), (5, .lf (.hd 1 0 none)), (6, .lf (.hd 2 0 none)), (26, B (!y7))], [ar 0 (.int .i64) y3 .dp, ar 0 Y105 y4 .dp, ar 0 (.int .i64) y5 .dp]⟩ (tn 1) ?_
  refine cnd h (fun h => ?_) (fun h => ?_)
  · refine sR T_ok [2] [] ⟨[(2, B false)], []⟩ (tn 1) ?_
    refine VW.ret ?_
    replace h := Option.some.inj h
    subst h
    exact rt []
  refine VW.skip ?_
  refine VW.seq ?_
  refine VW.seq ?_
  refine VW.region ?_
  refine sG T_ok 2 [0, 4, 5, 6, 27, 28] [0, 1, 2] ⟨[(0, .lf (.v (.sl Y105) a0)), (4, .lf (.hd 0 0 none)), (5, .lf (.hd 1 0 none)), (6, .lf (.hd 2 0 none)), (27, .lf (.hd 1 0 none)), (28, .lf (.v (.sl Y105) a0))], [ar 0 (.int .i64) y3 .dp, ar 0 Y105 y4 .dp, ar 0 (.int .i64) y5 .dp]⟩ (tn 2) ?_
  obtain ⟨y10, hy, h⟩ := andO_some h
  refine cal false [.t (.sl Y105)] [] (some 29) T_ok (ok27 N _ hy) ?_
  obtain ⟨y11, hy, h⟩ := andO_some h
  refine cal true [.t (.sl Y105), .t (.sl Y105)] [] (some 30) T_ok (ok29 N _ _ hy) ?_
  refine sN T_ok [0, 4, 5, 6, 31] [0, 1, 2] ⟨[(0, .lf (.v (.sl Y105) a0)), (4, .lf (.hd 0 0 none)), (5, .lf (.hd 1 0 none)), (6, .lf (.hd 2 0 none)), (31, B (!y11))], [ar 0 (.int .i64) y3 .dp, ar 0 Y105 y4 .dp, ar 0 (.int .i64) y5 .dp]⟩ (tn 1) ?_
  refine cnd h (fun h => ?_) (fun h => ?_)
  · refine sR T_ok [2] [] ⟨[(2, B false)], []⟩ (tn 1) ?_
    refine VW.ret ?_
    replace h := Option.some.inj h
    subst h
    exact rt []
  refine VW.skip ?_
  refine sR T_ok [0, 4, 5, 6, 7] [0, 1, 2] ⟨[(0, .lf (.v (.sl Y105) a0)), (4, .lf (.hd 0 0 none)), (5, .lf (.hd 1 0 none)), (6, .lf (.hd 2 0 none)), (7, I (1 : Int))], [ar 0 (.int .i64) y3 .dp, ar 0 Y105 y4 .dp, ar 0 (.int .i64) y5 .dp]⟩ (tn 1) ?_
  refine VW.seq ?_
  refine VW.region ?_
  refine sG T_ok 2 [0, 4, 6, 32, 33] [0, 2, 1] ⟨[(0, .lf (.v (.sl Y105) a0)), (4, .lf (.hd 0 0 none)), (6, .lf (.hd 1 0 none)), (32, .lf (.hd 2 0 none)), (33, I (1 : Int))], [ar 0 (.int .i64) y3 .dp, ar 0 (.int .i64) y5 .dp, ar 0 Y105 y4 .dp]⟩ (tn 2) ?_
  obtain ⟨y12, hy, h⟩ := andO_some h
  refine VO.callM [2] [.t (.sl Y105), .t (.int .i64)] (d := some 34) (by kernel_rfl) (by kernel_rfl) (ok33 N _ _ hy) (by kernel_rfl) ?_
  refine sN T_ok [0, 4, 6, 7] [0, 1] ⟨[(0, .lf (.v (.sl Y105) a0)), (4, .lf (.hd 0 0 none)), (6, .lf (.hd 1 0 none)), (7, I y12.2)], [ar 0 (.int .i64) y3 .dp, ar 0 (.int .i64) y5 .dp]⟩ (tn 1) ?_
  refine VW.seq ?_
  refine VW.seq ?_
  refine VW.region ?_
  refine sG T_ok 3 [0, 4, 6, 37] [0, 1] ⟨[(0, .lf (.v (.sl Y105) a0)), (4, .lf (.hd 0 0 none)), (6, .lf (.hd 1 0 none)), (37, B (decide (y12.2 < (0 : Int))))], [ar 0 (.int .i64) y3 .dp, ar 0 (.int .i64) y5 .dp]⟩ (tn 3) ?_
  refine spB 37 h (fun h => ?_) (fun h => ?_)
  · refine sN T_ok [0, 4, 6, 42] [0, 1] ⟨[(0, .lf (.v (.sl Y105) a0)), (4, .lf (.hd 0 0 none)), (6, .lf (.hd 1 0 none)), (42, B true)], [ar 0 (.int .i64) y3 .dp, ar 0 (.int .i64) y5 .dp]⟩ (tn 5) ?_
    refine VW.cond (b := true) (by kernel_rfl) (fun _ => ?_) (fun h' => nomatch h')
    refine sR T_ok [2] [] ⟨[(2, B false)], []⟩ (tn 1) ?_
    refine VW.ret ?_
    replace h := Option.some.inj h
    subst h
    exact rt []
  refine sG T_ok 2 [0, 4, 6, 37, 38, 39] [0, 1] ⟨[(0, .lf (.v (.sl Y105) a0)), (4, .lf (.hd 0 0 none)), (6, .lf (.hd 1 0 none)), (37, B false), (38, .lf (.hd 1 0 none)), (39, .lf (.hd 0 0 none))], [ar 0 (.int .i64) y3 .dp, ar 0 (.int .i64) y5 .dp]⟩ (tn 2) ?_
  refine VO.on (j := 2) (want := false) (d := 37) (b := false) rfl rfl rfl (by kernel_rfl) rfl ?_
  obtain ⟨y14, hy, h⟩ := andO_some h
  refine cal true [.t (.sl (.int .i64)), .t (.sl (.int .i64))] [] (some 40) T_ok (ok32 N _ _ hy) ?_
  refine sN T_ok [0, 4, 6, 42] [0, 1] ⟨[(0, .lf (.v (.sl Y105) a0)), (4, .lf (.hd 0 0 none)), (6, .lf (.hd 1 0 none)), (42, B (!y14))], [ar 0 (.int .i64) y3 .dp, ar 0 (.int .i64) y5 .dp]⟩ (tn 2) ?_
  refine cnd h (fun h => ?_) (fun h => ?_)
  · refine sR T_ok [2] [] ⟨[(2, B false)], []⟩ (tn 1) ?_
    refine VW.ret ?_
    replace h := Option.some.inj h
    subst h
    exact rt []
  refine VW.skip ?_
  refine sR T_ok [0, 4, 6, 8] [0, 1] ⟨[(0, .lf (.v (.sl Y105) a0)), (4, .lf (.hd 0 0 none)), (6, .lf (.hd 1 0 none)), (8, I (1 : Int))], [ar 0 (.int .i64) y3 .dp, ar 0 (.int .i64) y5 .dp]⟩ (tn 1) ?_
  refine VW.seq ?_
  refine VW.region ?_
  refine sG T_ok 2 [0, 4, 6, 43, 44] [0, 1] ⟨[(0, .lf (.v (.sl Y105) a0)), (4, .lf (.hd 0 0 none)), (6, .lf (.hd 1 0 none)), (43, .lf (.hd 1 0 none)), (44, I (1 : Int))], [ar 0 (.int .i64) y3 .dp, ar 0 (.int .i64) y5 .dp]⟩ (tn 2) ?_
  obtain ⟨y15, hy, h⟩ := andO_some h
  refine VO.callM [1] [.t (.sl (.int .i64)), .t (.int .i64)] (d := some 45) (by kernel_rfl) (by kernel_rfl) (ok34 N _ _ hy) (by kernel_rfl) ?_
  refine sN T_ok [0, 4, 6, 8] [0, 1] ⟨[(0, .lf (.v (.sl Y105) a0)), (4, .lf (.hd 0 0 none)), (6, .lf (.hd 1 0 none)), (8, I y15.2)], [ar 0 (.int .i64) y3 .dp, ar 0 (.int .i64) y15.1 .dp]⟩ (tn 1) ?_
  refine sR T_ok [0, 4, 6, 8, 9] [0, 1] ⟨[(0, .lf (.v (.sl Y105) a0)), (4, .lf (.hd 0 0 none)), (6, .lf (.hd 1 0 none)), (8, I y15.2), (9, I (1 : Int))], [ar 0 (.int .i64) y3 .dp, ar 0 (.int .i64) y15.1 .dp]⟩ (tn 1) ?_
  refine VW.seq ?_
  refine VW.region ?_
  refine sG T_ok 2 [0, 4, 6, 8, 46, 47] [0, 1] ⟨[(0, .lf (.v (.sl Y105) a0)), (4, .lf (.hd 0 0 none)), (6, .lf (.hd 1 0 none)), (8, I y15.2), (46, .lf (.hd 1 0 none)), (47, I (1 : Int))], [ar 0 (.int .i64) y3 .dp, ar 0 (.int .i64) y15.1 .dp]⟩ (tn 2) ?_
  obtain ⟨y16, hy, h⟩ := andO_some h
  refine cal true [.t (.sl (.int .i64)), .t (.int .i64)] [] (some 48) T_ok (ok35 N _ _ hy) ?_
  refine sN T_ok [0, 4, 6, 8, 9] [0, 1] ⟨[(0, .lf (.v (.sl Y105) a0)), (4, .lf (.hd 0 0 none)), (6, .lf (.hd 1 0 none)), (8, I y15.2), (9, I y16)], [ar 0 (.int .i64) y3 .dp, ar 0 (.int .i64) y15.1 .dp]⟩ (tn 1) ?_
  refine VW.seq ?_
  refine sR T_ok [0, 4, 6, 8, 9, 50] [0, 1] ⟨[(0, .lf (.v (.sl Y105) a0)), (4, .lf (.hd 0 0 none)), (6, .lf (.hd 1 0 none)), (8, I y15.2), (9, I y16), (50, B (decide (y16 < (0 : Int))))], [ar 0 (.int .i64) y3 .dp, ar 0 (.int .i64) y15.1 .dp]⟩ (tn 2) ?_
  refine cnd h (fun h => ?_) (fun h => ?_)
  · refine sR T_ok [2] [] ⟨[(2, B false)], []⟩ (tn 1) ?_
    refine VW.ret ?_
    replace h := Option.some.inj h
    subst h
    exact rt []
  refine VW.skip ?_
  refine VW.seq ?_
  refine sR T_ok [0, 4, 6, 8, 53] [0, 1] ⟨[(0, .lf (.v (.sl Y105) a0)), (4, .lf (.hd 0 0 none)), (6, .lf (.hd 1 0 none)), (8, I y15.2), (53, B (y16 != y15.2))], [ar 0 (.int .i64) y3 .dp, ar 0 (.int .i64) y15.1 .dp]⟩ (tn 3) ?_
  refine cnd h (fun h => ?_) (fun h => ?_)
  · refine sR T_ok [2] [] ⟨[(2, B false)], []⟩ (tn 1) ?_
    refine VW.ret ?_
    replace h := Option.some.inj h
    subst h
    exact rt []
  refine VW.skip ?_
  refine VW.seq ?_
  refine VW.region ?_
  refine sG T_ok 1 [4, 6, 8, 54] [0, 1] ⟨[(4, .lf (.hd 0 0 none)), (6, .lf (.hd 1 0 none)), (8, I y15.2), (54, .lf (.v (.sl Y105) a0))], [ar 0 (.int .i64) y3 .dp, ar 0 (.int .i64) y15.1 .dp]⟩ (tn 1) ?_
  obtain ⟨y17, hy, h⟩ := andO_some h
  refine cal false [.t (.sl Y105)] [] (some 55) T_ok (ok27 N _ hy) ?_
  obtain ⟨y18, hy, h⟩ := andO_some h
  refine cal true [.t (.sl Y105)] [] (some 56) T_ok (ok31 N _ hy) ?_
  refine sN T_ok [4, 6, 8, 10] [0, 1, 3] ⟨[(4, .lf (.hd 0 0 none)), (6, .lf (.hd 1 0 none)), (8, I y15.2), (10, .lf (.hd 2 0 none))], [ar 0 (.int .i64) y3 .dp, ar 0 (.int .i64) y15.1 .dp, ar 0 (.int .i64) y18 .dp]⟩ (tn 1) ?_
  refine VW.seq ?_
  refine VW.seq ?_
  refine VW.region ?_
  refine sG T_ok 2 [6, 8, 57, 58] [1, 2, 0] ⟨[(6, .lf (.hd 0 0 none)), (8, I y15.2), (57, .lf (.hd 1 0 none)), (58, .lf (.hd 2 0 none))], [ar 0 (.int .i64) y15.1 .dp, ar 0 (.int .i64) y18 .dp, ar 0 (.int .i64) y3 .dp]⟩ (tn 2) ?_
  obtain ⟨y20, hy, h⟩ := andO_some h
  refine cal true [.t (.sl (.int .i64)), .t (.sl (.int .i64))] [] (some 59) T_ok (ok32 N _ _ hy) ?_
  refine sN T_ok [6, 8, 60] [0] ⟨[(6, .lf (.hd 0 0 none)), (8, I y15.2), (60, B (!y20))], [ar 0 (.int .i64) y15.1 .dp]⟩ (tn 1) ?_
  refine cnd h (fun h => ?_) (fun h => ?_)
  · refine sR T_ok [2] [] ⟨[(2, B false)], []⟩ (tn 1) ?_
    refine VW.ret ?_
    replace h := Option.some.inj h
    subst h
    exact rt []
  refine VW.skip ?_
  refine sR T_ok [6, 8, 9] [0] ⟨[(6, .lf (.hd 0 0 none)), (8, I y15.2), (9, I (1 : Int))], [ar 0 (.int .i64) y15.1 .dp]⟩ (tn 1) ?_
  refine VW.seq ?_
  refine VW.region ?_
  refine sG T_ok 2 [8, 61, 62] [0] ⟨[(8, I y15.2), (61, .lf (.hd 0 0 none)), (62, I (1 : Int))], [ar 0 (.int .i64) y15.1 .dp]⟩ (tn 2) ?_
  obtain ⟨y21, hy, h⟩ := andO_some h
  refine cal true [.t (.sl (.int .i64)), .t (.int .i64)] [] (some 63) T_ok (ok35 N _ _ hy) ?_
  refine sN T_ok [8, 9] [] ⟨[(8, I y15.2), (9, I y21)], []⟩ (tn 1) ?_
  refine VW.seq ?_
  refine sR T_ok [8, 9, 65] [] ⟨[(8, I y15.2), (9, I y21), (65, B (decide (y21 < (0 : Int))))], []⟩ (tn 2) ?_
  refine cnd h (fun h => ?_) (fun h => ?_)
  · refine sR T_ok [2] [] ⟨[(2, B false)], []⟩ (tn 1) ?_
    refine VW.ret ?_
    replace h := Option.some.inj h
    subst h
    exact rt []
  refine VW.skip ?_
  refine VW.seq ?_
  refine sR T_ok [68] [] ⟨[(68, B (y21 != y15.2))], []⟩ (tn 3) ?_
  refine cnd h (fun h => ?_) (fun h => ?_)
  · refine sR T_ok [2] [] ⟨[(2, B false)], []⟩ (tn 1) ?_
    refine VW.ret ?_
    replace h := Option.some.inj h
    subst h
    exact rt []
  refine VW.skip ?_
  refine sR T_ok [2] [] ⟨[(2, B true)], []⟩ (tn 1) ?_
  refine VW.ret ?_
  replace h := Option.some.inj h
  subst h
  exact rt []

end Go.Proofs.Ytgpddckjpokclaa.Vc
