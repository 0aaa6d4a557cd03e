/- What functions of the program compute, and that they do. -/
import Derived.Test.YtckcbjaldmlomaaVt0
namespace Go.Proofs.Ytckcbjaldmlomaa.Vc
open Go Go.RowKit
set_option linter.unusedVariables false
set_option maxRecDepth 100000
set_option maxHeartbeats 4000000
/- loop.example/g00844/impl.own -/
def F26_j0 (N : Nat) (x24 : (List (Int × (ByteArray × (Int × (Int × (Int × (Bool × (List Int))))))))) : Option ((List (Int × (ByteArray × (Int × (Int × (Int × (Bool × (List Int))))))))) :=
  some x24
def F26_l0_b (N : Nat) (a0 : (List (Int × (ByteArray × (Int × (Int × (Int × (Bool × (List Int))))))))) (nx42 : (List (Int × (ByteArray × (Int × (Int × (Int × (Bool × (List Int)))))))) → Int → Int → Option ((List (Int × (ByteArray × (Int × (Int × (Int × (Bool × (List Int)))))))))) (x33 : (List (Int × (ByteArray × (Int × (Int × (Int × (Bool × (List Int))))))))) (x34 : Int) (x35 : Int) : Option ((List (Int × (ByteArray × (Int × (Int × (Int × (Bool × (List Int))))))))) :=
  cond (decide (x35 < x34)) (gd (InR x35 a0.length) (andO (F45 N ((a0.getD x35.toNat (Ty.dflt Y40)).2.2.2.2.2.2)) fun y47 => gd (x33.length + ([((a0.getD x35.toNat (Ty.dflt Y40)).1, ((a0.getD x35.toNat (Ty.dflt Y40)).2.1, ((a0.getD x35.toNat (Ty.dflt Y40)).2.2.1, ((a0.getD x35.toNat (Ty.dflt Y40)).2.2.2.1, ((a0.getD x35.toNat (Ty.dflt Y40)).2.2.2.2.1, ((a0.getD x35.toNat (Ty.dflt Y40)).2.2.2.2.2.1, y47))))))]).length ≤ lim Y40) (nx42 (x33 ++ ([((a0.getD x35.toNat (Ty.dflt Y40)).1, ((a0.getD x35.toNat (Ty.dflt Y40)).2.1, ((a0.getD x35.toNat (Ty.dflt Y40)).2.2.1, ((a0.getD x35.toNat (Ty.dflt Y40)).2.2.2.1, ((a0.getD x35.toNat (Ty.dflt Y40)).2.2.2.2.1, ((a0.getD x35.toNat (Ty.dflt Y40)).2.2.2.2.2.1, y47))))))])) x34 (IntKind.i64.wrap (x35 + (1 : Int)))))) (F26_j0 N x33)
def F26_l0 (N : Nat) (a0 : (List (Int × (ByteArray × (Int × (Int × (Int × (Bool × (List Int))))))))) : Nat → (List (Int × (ByteArray × (Int × (Int × (Int × (Bool × (List Int)))))))) → Int → Int → Option ((List (Int × (ByteArray × (Int × (Int × (Int × (Bool × (List Int))))))))) := loopF (F26_l0_b N a0) (fun _ _ _ => none)
theorem F26_l0_s (N : Nat) (a0 : (List (Int × (ByteArray × (Int × (Int × (Int × (Bool × (List Int))))))))) {k : Nat} (hk : 0 < k) (x33 : (List (Int × (ByteArray × (Int × (Int × (Int × (Bool × (List Int))))))))) (x34 : Int) (x35 : Int) : F26_l0 N a0 k x33 x34 x35 = F26_l0_b N a0 (F26_l0 N a0 (k - 1)) x33 x34 x35 := by
  cases k with
  | zero => exact absurd hk (Nat.lt_irrefl 0)
  | succ m => rfl
def F26 (N : Nat) (a0 : (List (Int × (ByteArray × (Int × (Int × (Int × (Bool × (List Int))))))))) : Option ((List (Int × (ByteArray × (Int × (Int × (Int × (Bool × (List Int))))))))) :=
  F26_l0 N a0 N ([]) (a0.length : Int) (0 : Int)
theorem ok26 (N : Nat) (a0 : (List (Int × (ByteArray × (Int × (Int × (Int × (Bool × (List Int))))))))) {r : (List (Int × (ByteArray × (Int × (Int × (Int × (Bool × (List Int))))))))} (h : F26 N a0 = some r) : Con Go.Proofs.Try.prog 26 [.lf (.v (.sl Y40) a0)] [.lf (.own Y40 r .dp)] := by
  refine ctr [.lf (.own Y40 .dp)] T_ok Go.Proofs.Try.func26 rfl fun w0 E0 => ?_
  unfold F26 at h
  show VW _ _ _ _ _ (retQ _ _ _ _) _
  refine sR T_ok [0] [] ⟨[(0, .lf (.v (.sl Y40) a0))], []⟩ (tn 1) ?_
  refine sR T_ok [0, 3] [] ⟨[(0, .lf (.v (.sl Y40) a0)), (3, .lf (.nil))], []⟩ (tn 1) ?_
  refine VW.join (fun s => ∃ (x24 : (List (Int × (ByteArray × (Int × (Int × (Int × (Bool × (List Int))))))))), s = ⟨[(3, .lf (.hd 0 0 none))], [ar 0 Y40 x24 .dp]⟩ ∧ F26_j0 N x24 = some r) ?_ ?_
  · refine sR T_ok [3, 6, 7, 8] [] ⟨[(3, .lf (.nil)), (6, .lf (.v (.sl Y40) a0)), (7, I (a0.length : Int)), (8, I (0 : Int))], []⟩ (tn 3) ?_
    refine VW.block ?_
    refine lop (fun k s => ∃ (x33 : (List (Int × (ByteArray × (Int × (Int × (Int × (Bool × (List Int))))))))) (x34 : Int) (x35 : Int), s = ⟨[(3, .lf (.hd 0 0 none)), (6, .lf (.v (.sl Y40) a0)), (7, I x34), (8, I x35)], [ar 0 Y40 x33 .dp]⟩ ∧ F26_l0 N a0 k x33 x34 x35 = some r) N [.nilS 3 Y40 .dp, .ren [3, 6, 7, 8] [0]] ⟨[], (a0.length : Int), (0 : Int), rfl, h⟩ ?_
    rintro k42 s ⟨x33, x34, x35, rfl, h⟩
    cases k42 with
    | zero => cases show none = some r from h
    | succ k42 =>
      replace h : F26_l0_b N a0 (F26_l0 N a0 k42) x33 x34 x35 = some r := h
      unfold F26_l0_b at h
      refine sR T_ok [3, 6, 7, 8, 9] [0] ⟨[(3, .lf (.hd 0 0 none)), (6, .lf (.v (.sl Y40) a0)), (7, I x34), (8, I x35), (9, B (decide (x35 < x34)))], [ar 0 Y40 x33 .dp]⟩ (tn 1) ?_
      refine VW.seq ?_
      refine cnd h (fun h => ?_) (fun h => ?_)
      · refine VW.skip ?_
        refine VW.seq ?_
        refine VW.block ?_
        obtain ⟨g46, h⟩ := gd_some h
        refine sR T_ok [3, 5, 6, 7, 8] [0, 1] ⟨[(3, .lf (.hd 0 0 none)), (5, .lf (.ptr 1 0 0 0)), (6, .lf (.v (.sl Y40) a0)), (7, I x34), (8, I x35)], [ar 0 Y40 x33 .dp, bx [.v (.int .i64) ((a0.getD x35.toNat (Ty.dflt Y40)).1), .v .str ((a0.getD x35.toNat (Ty.dflt Y40)).2.1), .v (.int .i64) ((a0.getD x35.toNat (Ty.dflt Y40)).2.2.1), .v (.int .i64) ((a0.getD x35.toNat (Ty.dflt Y40)).2.2.2.1), .v (.int .i64) ((a0.getD x35.toNat (Ty.dflt Y40)).2.2.2.2.1), .v .bool ((a0.getD x35.toNat (Ty.dflt Y40)).2.2.2.2.2.1), .v (.sl (.int .i64)) ((a0.getD x35.toNat (Ty.dflt Y40)).2.2.2.2.2.2)] 44]⟩ (an g46 (tn 3)) ?_
        refine VW.seq ?_
        refine VW.region ?_
        refine sG T_ok 2 [3, 5, 6, 7, 8, 13] [0, 1] ⟨[(3, .lf (.hd 0 0 none)), (5, .lf (.ptr 1 0 0 0)), (6, .lf (.v (.sl Y40) a0)), (7, I x34), (8, I x35), (13, .lf (.v (.sl (.int .i64)) ((a0.getD x35.toNat (Ty.dflt Y40)).2.2.2.2.2.2)))], [ar 0 Y40 x33 .dp, bx [.v (.int .i64) ((a0.getD x35.toNat (Ty.dflt Y40)).1), .v .str ((a0.getD x35.toNat (Ty.dflt Y40)).2.1), .v (.int .i64) ((a0.getD x35.toNat (Ty.dflt Y40)).2.2.1), .v (.int .i64) ((a0.getD x35.toNat (Ty.dflt Y40)).2.2.2.1), .v (.int .i64) ((a0.getD x35.toNat (Ty.dflt Y40)).2.2.2.2.1), .v .bool ((a0.getD x35.toNat (Ty.dflt Y40)).2.2.2.2.2.1), .v (.sl (.int .i64)) ((a0.getD x35.toNat (Ty.dflt Y40)).2.2.2.2.2.2)] 44]⟩ (tn 2) ?_
        obtain ⟨y47, hy, h⟩ := andO_some h
        refine cal false [.t (.sl (.int .i64))] [] (some 14) T_ok (ok45 N _ hy) ?_
        refine sN T_ok [3, 5, 6, 7, 8] [0, 1, 2] ⟨[(3, .lf (.hd 0 0 none)), (5, .lf (.ptr 1 0 0 0)), (6, .lf (.v (.sl Y40) a0)), (7, I x34), (8, I x35)], [ar 0 Y40 x33 .dp, bx [.v (.int .i64) ((a0.getD x35.toNat (Ty.dflt Y40)).1), .v .str ((a0.getD x35.toNat (Ty.dflt Y40)).2.1), .v (.int .i64) ((a0.getD x35.toNat (Ty.dflt Y40)).2.2.1), .v (.int .i64) ((a0.getD x35.toNat (Ty.dflt Y40)).2.2.2.1), .v (.int .i64) ((a0.getD x35.toNat (Ty.dflt Y40)).2.2.2.2.1), .v .bool ((a0.getD x35.toNat (Ty.dflt Y40)).2.2.2.2.2.1), .hd 2 0 none] 44, ar 0 (.int .i64) y47 .dp]⟩ (tn 2) ?_
        refine VW.region ?_
        refine sG T_ok 2 [6, 7, 8, 16, 17] [0, 2] ⟨[(6, .lf (.v (.sl Y40) a0)), (7, I x34), (8, I x35), (16, .lf (.hd 0 0 none)), (17, .agg [.v (.int .i64) ((a0.getD x35.toNat (Ty.dflt Y40)).1), .v .str ((a0.getD x35.toNat (Ty.dflt Y40)).2.1), .v (.int .i64) ((a0.getD x35.toNat (Ty.dflt Y40)).2.2.1), .v (.int .i64) ((a0.getD x35.toNat (Ty.dflt Y40)).2.2.2.1), .v (.int .i64) ((a0.getD x35.toNat (Ty.dflt Y40)).2.2.2.2.1), .v .bool ((a0.getD x35.toNat (Ty.dflt Y40)).2.2.2.2.2.1), .hd 1 0 none])], [ar 0 Y40 x33 .dp, ar 0 (.int .i64) y47 .dp]⟩ (tn 2) ?_
        refine VO.litA (d := 18) (v := .lf (.hd 2 0 none)) (H' := [ar 0 Y40 x33 .dp, none, ar 0 Y40 ([((a0.getD x35.toNat (Ty.dflt Y40)).1, ((a0.getD x35.toNat (Ty.dflt Y40)).2.1, ((a0.getD x35.toNat (Ty.dflt Y40)).2.2.1, ((a0.getD x35.toNat (Ty.dflt Y40)).2.2.2.1, ((a0.getD x35.toNat (Ty.dflt Y40)).2.2.2.2.1, ((a0.getD x35.toNat (Ty.dflt Y40)).2.2.2.2.2.1, y47))))))]) .dp]) T_ok (by kernel_rfl) ?_
        obtain ⟨g48, h⟩ := gd_some h
        refine VO.appM (d := 19) (φ := x33.length + ([((a0.getD x35.toNat (Ty.dflt Y40)).1, ((a0.getD x35.toNat (Ty.dflt Y40)).2.1, ((a0.getD x35.toNat (Ty.dflt Y40)).2.2.1, ((a0.getD x35.toNat (Ty.dflt Y40)).2.2.2.1, ((a0.getD x35.toNat (Ty.dflt Y40)).2.2.2.2.1, ((a0.getD x35.toNat (Ty.dflt Y40)).2.2.2.2.2.1, y47))))))]).length ≤ lim Y40) (v := .lf (.hd 0 1 none)) (H' := [ar 1 Y40 (x33 ++ ([((a0.getD x35.toNat (Ty.dflt Y40)).1, ((a0.getD x35.toNat (Ty.dflt Y40)).2.1, ((a0.getD x35.toNat (Ty.dflt Y40)).2.2.1, ((a0.getD x35.toNat (Ty.dflt Y40)).2.2.2.1, ((a0.getD x35.toNat (Ty.dflt Y40)).2.2.2.2.1, ((a0.getD x35.toNat (Ty.dflt Y40)).2.2.2.2.2.1, y47))))))])) .dp, none, none]) T_ok (by kernel_rfl) g48 ?_
        refine sN T_ok [3, 6, 7, 8] [0] ⟨[(3, .lf (.hd 0 0 none)), (6, .lf (.v (.sl Y40) a0)), (7, I x34), (8, I x35)], [ar 0 Y40 (x33 ++ ([((a0.getD x35.toNat (Ty.dflt Y40)).1, ((a0.getD x35.toNat (Ty.dflt Y40)).2.1, ((a0.getD x35.toNat (Ty.dflt Y40)).2.2.1, ((a0.getD x35.toNat (Ty.dflt Y40)).2.2.2.1, ((a0.getD x35.toNat (Ty.dflt Y40)).2.2.2.2.1, ((a0.getD x35.toNat (Ty.dflt Y40)).2.2.2.2.2.1, y47))))))])) .dp]⟩ (tn 1) ?_
        refine rR T_ok [3, 6, 7, 8] [0] ⟨[(3, .lf (.hd 0 0 none)), (6, .lf (.v (.sl Y40) a0)), (7, I x34), (8, I (IntKind.i64.wrap (x35 + (1 : Int))))], [ar 0 Y40 (x33 ++ ([((a0.getD x35.toNat (Ty.dflt Y40)).1, ((a0.getD x35.toNat (Ty.dflt Y40)).2.1, ((a0.getD x35.toNat (Ty.dflt Y40)).2.2.1, ((a0.getD x35.toNat (Ty.dflt Y40)).2.2.2.1, ((a0.getD x35.toNat (Ty.dflt Y40)).2.2.2.2.1, ((a0.getD x35.toNat (Ty.dflt Y40)).2.2.2.2.2.1, y47))))))])) .dp]⟩ (tn 2) ?_
        exact aro [.ren [3, 6, 7, 8] [0]] ⟨(x33 ++ ([((a0.getD x35.toNat (Ty.dflt Y40)).1, ((a0.getD x35.toNat (Ty.dflt Y40)).2.1, ((a0.getD x35.toNat (Ty.dflt Y40)).2.2.1, ((a0.getD x35.toNat (Ty.dflt Y40)).2.2.2.1, ((a0.getD x35.toNat (Ty.dflt Y40)).2.2.2.2.1, ((a0.getD x35.toNat (Ty.dflt Y40)).2.2.2.2.2.1, y47))))))])), x34, (IntKind.i64.wrap (x35 + (1 : Int))), rfl, h⟩
      refine VW.exit ?_
      exact arv [.ren [3] [0]] ⟨x33, rfl, h⟩
  rintro s ⟨x24, rfl, h⟩
  unfold F26_j0 at h
  refine sR T_ok [2] [0] ⟨[(2, .lf (.hd 0 0 none))], [ar 0 Y40 x24 .dp]⟩ (tn 2) ?_
  refine VW.ret ?_
  replace h := Option.some.inj h
  subst h
  exact rt [some 0]

/- loop.example/g00844/laws.eqIntS -/
def F12_j0 (N : Nat) : Option (Bool) :=
  some true
def F12_l0_b (N : Nat) (a0 : (List Int)) (a1 : (List Int)) (nx25 : Int → Option (Bool)) (x20 : Int) : Option (Bool) :=
  cond (decide (x20 < (a0.length : Int))) (gd (InR x20 a0.length) (gd (InR x20 a1.length) (cond ((a0.getD x20.toNat (Ty.dflt (.int .i64))) != (a1.getD x20.toNat (Ty.dflt (.int .i64)))) (some false) (nx25 (IntKind.i64.wrap (x20 + (1 : Int))))))) (F12_j0 N)
def F12_l0 (N : Nat) (a0 : (List Int)) (a1 : (List Int)) : Nat → Int → Option (Bool) := loopF (F12_l0_b N a0 a1) (fun _ => none)
theorem F12_l0_s (N : Nat) (a0 : (List Int)) (a1 : (List Int)) {k : Nat} (hk : 0 < k) (x20 : Int) : F12_l0 N a0 a1 k x20 = F12_l0_b N a0 a1 (F12_l0 N a0 a1 (k - 1)) x20 := by
  cases k with
  | zero => exact absurd hk (Nat.lt_irrefl 0)
  | succ m => rfl
def F12 (N : Nat) (a0 : (List Int)) (a1 : (List Int)) : Option (Bool) :=
  cond ((a0.length : Int) != (a1.length : Int)) (some false) (F12_l0 N a0 a1 N (0 : Int))
theorem ok12 (N : Nat) (a0 : (List Int)) (a1 : (List Int)) {r : Bool} (h : F12 N a0 a1 = some r) : Con Go.Proofs.Try.prog 12 [.lf (.v (.sl (.int .i64)) a0), .lf (.v (.sl (.int .i64)) a1)] [.lf (.v .bool r)] := by
  refine ctr [.lf (.v .bool)] T_ok Go.Proofs.Try.func12 rfl fun w0 E0 => ?_
  unfold F12 at h
  show VW _ _ _ _ _ (retQ _ _ _ _) _
  refine sR T_ok [0, 1] [] ⟨[(0, .lf (.v (.sl (.int .i64)) a0)), (1, .lf (.v (.sl (.int .i64)) a1))], []⟩ (tn 1) ?_
  refine VW.seq ?_
  refine sR T_ok [0, 1, 10] [] ⟨[(0, .lf (.v (.sl (.int .i64)) a0)), (1, .lf (.v (.sl (.int .i64)) a1)), (10, B ((a0.length : Int) != (a1.length : Int)))], []⟩ (tn 5) ?_
  refine cnd h (fun h => ?_) (fun h => ?_)
  · refine sR T_ok [4] [] ⟨[(4, B false)], []⟩ (tn 1) ?_
    refine VW.ret ?_
    replace h := Option.some.inj h
    subst h
    exact rt []
  refine VW.skip ?_
  refine VW.join (fun s => s = ⟨[], []⟩ ∧ F12_j0 N = some r) ?_ ?_
  · refine sR T_ok [0, 1, 5] [] ⟨[(0, .lf (.v (.sl (.int .i64)) a0)), (1, .lf (.v (.sl (.int .i64)) a1)), (5, I (0 : Int))], []⟩ (tn 1) ?_
    refine VW.block ?_
    refine lop (fun k s => ∃ (x20 : Int), s = ⟨[(0, .lf (.v (.sl (.int .i64)) a0)), (1, .lf (.v (.sl (.int .i64)) a1)), (5, I x20)], []⟩ ∧ F12_l0 N a0 a1 k x20 = some r) N [.ren [0, 1, 5] []] ⟨(0 : Int), rfl, h⟩ ?_
    rintro k25 s ⟨x20, rfl, h⟩
    cases k25 with
    | zero => cases show none = some r from h
    | succ k25 =>
      replace h : F12_l0_b N a0 a1 (F12_l0 N a0 a1 k25) x20 = some r := h
      unfold F12_l0_b at h
      refine VW.seq ?_
      refine sR T_ok [0, 1, 5, 14] [] ⟨[(0, .lf (.v (.sl (.int .i64)) a0)), (1, .lf (.v (.sl (.int .i64)) a1)), (5, I x20), (14, B (decide (x20 < (a0.length : Int))))], []⟩ (tn 4) ?_
      refine cnd h (fun h => ?_) (fun h => ?_)
      · refine VW.skip ?_
        refine VW.seq ?_
        refine VW.block ?_
        refine VW.seq ?_
        obtain ⟨g28, h⟩ := gd_some h
        obtain ⟨g29, h⟩ := gd_some h
        refine VW.drawn (by kernel_rfl) [some (17, .lf (.v (.sl (.int .i64)) a0)), some (18, I x20), some (19, .lf (.fp (.int .i64) (a0.getD x20.toNat (Ty.dflt (.int .i64))) 0)), some (20, I (a0.getD x20.toNat (Ty.dflt (.int .i64)))), some (21, .lf (.v (.sl (.int .i64)) a1)), some (22, I x20), some (23, .lf (.fp (.int .i64) (a1.getD x20.toNat (Ty.dflt (.int .i64))) 0)), some (24, I (a1.getD x20.toNat (Ty.dflt (.int .i64)))), some (25, B ((a0.getD x20.toNat (Ty.dflt (.int .i64))) != (a1.getD x20.toNat (Ty.dflt (.int .i64)))))] [] [[]] [(0, 0), (1, 0), (2, 0), (3, 0), (4, 0), (5, 0), (6, 0), (7, 0), (8, 0)] [0, 1, 5, 25] [] (s' := ⟨[(0, .lf (.v (.sl (.int .i64)) a0)), (1, .lf (.v (.sl (.int .i64)) a1)), (5, I x20), (25, B ((a0.getD x20.toNat (Ty.dflt (.int .i64))) != (a1.getD x20.toNat (Ty.dflt (.int .i64)))))], []⟩) (by kernel_rfl) (by kernel_rfl) ⟨⟨_, rfl, Stp.ev T_ok (m := .dp) (φ := True) (by kernel_rfl) trivial⟩,
    ⟨_, rfl, Stp.ev T_ok (m := .dp) (φ := True) (by kernel_rfl) trivial⟩,
    ⟨_, rfl, Stp.ev T_ok (m := .dp) (φ := InR x20 a0.length) (by kernel_rfl) g28⟩,
    ⟨_, rfl, Stp.ev T_ok (m := .dp) (φ := True) (by kernel_rfl) trivial⟩,
    ⟨_, rfl, Stp.ev T_ok (m := .dp) (φ := True) (by kernel_rfl) trivial⟩,
    ⟨_, rfl, Stp.ev T_ok (m := .dp) (φ := True) (by kernel_rfl) trivial⟩,
    ⟨_, rfl, Stp.ev T_ok (m := .dp) (φ := InR x20 a1.length) (by kernel_rfl) g29⟩,
    ⟨_, rfl, Stp.ev T_ok (m := .dp) (φ := True) (by kernel_rfl) trivial⟩,
    ⟨_, rfl, Stp.ev T_ok (m := .dp) (φ := True) (by kernel_rfl) trivial⟩, trivial⟩ (by kernel_rfl) ?_
        refine cnd h (fun h => ?_) (fun h => ?_)
        · refine sR T_ok [4] [] ⟨[(4, B false)], []⟩ (tn 1) ?_
          refine VW.ret ?_
          replace h := Option.some.inj h
          subst h
          exact rt []
        refine VW.skip ?_
        refine rR T_ok [0, 1, 5] [] ⟨[(0, .lf (.v (.sl (.int .i64)) a0)), (1, .lf (.v (.sl (.int .i64)) a1)), (5, I (IntKind.i64.wrap (x20 + (1 : Int))))], []⟩ (tn 3) ?_
        exact aro [.ren [0, 1, 5] []] ⟨(IntKind.i64.wrap (x20 + (1 : Int))), rfl, h⟩
      refine VW.exit ?_
      exact arv [.ren [] []] ⟨rfl, h⟩
  rintro s ⟨rfl, h⟩
  unfold F12_j0 at h
  refine sR T_ok [4] [] ⟨[(4, B true)], []⟩ (tn 1) ?_
  refine VW.ret ?_
  replace h := Option.some.inj h
  subst h
  exact rt []

/- loop.example/g00844/laws.eqNode -/
def F27 (N : Nat) (a0 : (Int × (ByteArray × (Int × (Int × (Int × (Bool × (List Int)))))))) (a1 : (Int × (ByteArray × (Int × (Int × (Int × (Bool × (List Int)))))))) : Option (Bool) :=
  cond (a0.1 != a1.1) (some false) (cond (!(a0.2.1.toList == a1.2.1.toList)) (some false) (cond (a0.2.2.1 != a1.2.2.1) (some false) (cond (a0.2.2.2.1 != a1.2.2.2.1) (some false) (cond (a0.2.2.2.2.1 != a1.2.2.2.2.1) (some false) (cond (!(a0.2.2.2.2.2.1 == a1.2.2.2.2.2.1)) (some false) (andO (F12 N a0.2.2.2.2.2.2 a1.2.2.2.2.2.2) fun y2 => cond (!y2) (some false) (some true)))))))
theorem ok27 (N : Nat) (a0 : (Int × (ByteArray × (Int × (Int × (Int × (Bool × (List Int)))))))) (a1 : (Int × (ByteArray × (Int × (Int × (Int × (Bool × (List Int)))))))) {r : Bool} (h : F27 N a0 a1 = some r) : Con Go.Proofs.Try.prog 27 [.agg [.v (.int .i64) a0.1, .v .str a0.2.1, .v (.int .i64) a0.2.2.1, .v (.int .i64) a0.2.2.2.1, .v (.int .i64) a0.2.2.2.2.1, .v .bool a0.2.2.2.2.2.1, .v (.sl (.int .i64)) a0.2.2.2.2.2.2], .agg [.v (.int .i64) a1.1, .v .str a1.2.1, .v (.int .i64) a1.2.2.1, .v (.int .i64) a1.2.2.2.1, .v (.int .i64) a1.2.2.2.2.1, .v .bool a1.2.2.2.2.2.1, .v (.sl (.int .i64)) a1.2.2.2.2.2.2]] [.lf (.v .bool r)] := by
  refine ctr [.lf (.v .bool)] T_ok Go.Proofs.Try.func27 rfl fun w0 E0 => ?_
  unfold F27 at h
  show VW _ _ _ _ _ (retQ _ _ _ _) _
  refine sR T_ok [2, 3] [0, 1] ⟨[(2, .lf (.ptr 0 0 0 0)), (3, .lf (.ptr 1 0 0 0))], [bx [.v (.int .i64) a0.1, .v .str a0.2.1, .v (.int .i64) a0.2.2.1, .v (.int .i64) a0.2.2.2.1, .v (.int .i64) a0.2.2.2.2.1, .v .bool a0.2.2.2.2.2.1, .v (.sl (.int .i64)) a0.2.2.2.2.2.2] 44, bx [.v (.int .i64) a1.1, .v .str a1.2.1, .v (.int .i64) a1.2.2.1, .v (.int .i64) a1.2.2.2.1, .v (.int .i64) a1.2.2.2.2.1, .v .bool a1.2.2.2.2.2.1, .v (.sl (.int .i64)) a1.2.2.2.2.2.2] 44]⟩ (tn 3) ?_
  refine VW.seq ?_
  refine sR T_ok [2, 3, 9] [0, 1] ⟨[(2, .lf (.ptr 0 0 0 0)), (3, .lf (.ptr 1 0 0 0)), (9, B (a0.1 != a1.1))], [bx [.v (.int .i64) a0.1, .v .str a0.2.1, .v (.int .i64) a0.2.2.1, .v (.int .i64) a0.2.2.2.1, .v (.int .i64) a0.2.2.2.2.1, .v .bool a0.2.2.2.2.2.1, .v (.sl (.int .i64)) a0.2.2.2.2.2.2] 44, bx [.v (.int .i64) a1.1, .v .str a1.2.1, .v (.int .i64) a1.2.2.1, .v (.int .i64) a1.2.2.2.1, .v (.int .i64) a1.2.2.2.2.1, .v .bool a1.2.2.2.2.2.1, .v (.sl (.int .i64)) a1.2.2.2.2.2.2] 44]⟩ (tn 5) ?_
  refine cnd h (fun h => ?_) (fun h => ?_)
  · refine sR T_ok [4] [] ⟨[(4, B false)], []⟩ (tn 1) ?_
    refine VW.ret ?_
    replace h := Option.some.inj h
    subst h
    exact rt []
  refine VW.skip ?_
  refine VW.seq ?_
  refine sR T_ok [2, 3, 14] [0, 1] ⟨[(2, .lf (.ptr 0 0 0 0)), (3, .lf (.ptr 1 0 0 0)), (14, B (!(a0.2.1.toList == a1.2.1.toList)))], [bx [.v (.int .i64) a0.1, .v .str a0.2.1, .v (.int .i64) a0.2.2.1, .v (.int .i64) a0.2.2.2.1, .v (.int .i64) a0.2.2.2.2.1, .v .bool a0.2.2.2.2.2.1, .v (.sl (.int .i64)) a0.2.2.2.2.2.2] 44, bx [.v (.int .i64) a1.1, .v .str a1.2.1, .v (.int .i64) a1.2.2.1, .v (.int .i64) a1.2.2.2.1, .v (.int .i64) a1.2.2.2.2.1, .v .bool a1.2.2.2.2.2.1, .v (.sl (.int .i64)) a1.2.2.2.2.2.2] 44]⟩ (tn 5) ?_
  refine cnd h (fun h => ?_) (fun h => ?_)
  · refine sR T_ok [4] [] ⟨[(4, B false)], []⟩ (tn 1) ?_
    refine VW.ret ?_
    replace h := Option.some.inj h
    subst h
    exact rt []
  refine VW.skip ?_
  refine VW.seq ?_
  refine sR T_ok [2, 3, 19] [0, 1] ⟨[(2, .lf (.ptr 0 0 0 0)), (3, .lf (.ptr 1 0 0 0)), (19, B (a0.2.2.1 != a1.2.2.1))], [bx [.v (.int .i64) a0.1, .v .str a0.2.1, .v (.int .i64) a0.2.2.1, .v (.int .i64) a0.2.2.2.1, .v (.int .i64) a0.2.2.2.2.1, .v .bool a0.2.2.2.2.2.1, .v (.sl (.int .i64)) a0.2.2.2.2.2.2] 44, bx [.v (.int .i64) a1.1, .v .str a1.2.1, .v (.int .i64) a1.2.2.1, .v (.int .i64) a1.2.2.2.1, .v (.int .i64) a1.2.2.2.2.1, .v .bool a1.2.2.2.2.2.1, .v (.sl (.int .i64)) a1.2.2.2.2.2.2] 44]⟩ (tn 5) ?_
  refine cnd h (fun h => ?_) (fun h => ?_)
  · refine sR T_ok [4] [] ⟨[(4, B false)], []⟩ (tn 1) ?_
    refine VW.ret ?_
    replace h := Option.some.inj h
    subst h
    exact rt []
  refine VW.skip ?_
  refine VW.seq ?_
  refine sR T_ok [2, 3, 24] [0, 1] ⟨[(2, .lf (.ptr 0 0 0 0)), (3, .lf (.ptr 1 0 0 0)), (24, B (a0.2.2.2.1 != a1.2.2.2.1))], [bx [.v (.int .i64) a0.1, .v .str a0.2.1, .v (.int .i64) a0.2.2.1, .v (.int .i64) a0.2.2.2.1, .v (.int .i64) a0.2.2.2.2.1, .v .bool a0.2.2.2.2.2.1, .v (.sl (.int .i64)) a0.2.2.2.2.2.2] 44, bx [.v (.int .i64) a1.1, .v .str a1.2.1, .v (.int .i64) a1.2.2.1, .v (.int .i64) a1.2.2.2.1, .v (.int .i64) a1.2.2.2.2.1, .v .bool a1.2.2.2.2.2.1, .v (.sl (.int .i64)) a1.2.2.2.2.2.2] 44]⟩ (tn 5) ?_
  refine cnd h (fun h => ?_) (fun h => ?_)
  · refine sR T_ok [4] [] ⟨[(4, B false)], []⟩ (tn 1) ?_
    refine VW.ret ?_
    replace h := Option.some.inj h
    subst h
    exact rt []
  refine VW.skip ?_
  refine VW.seq ?_
  refine sR T_ok [2, 3, 29] [0, 1] ⟨[(2, .lf (.ptr 0 0 0 0)), (3, .lf (.ptr 1 0 0 0)), (29, B (a0.2.2.2.2.1 != a1.2.2.2.2.1))], [bx [.v (.int .i64) a0.1, .v .str a0.2.1, .v (.int .i64) a0.2.2.1, .v (.int .i64) a0.2.2.2.1, .v (.int .i64) a0.2.2.2.2.1, .v .bool a0.2.2.2.2.2.1, .v (.sl (.int .i64)) a0.2.2.2.2.2.2] 44, bx [.v (.int .i64) a1.1, .v .str a1.2.1, .v (.int .i64) a1.2.2.1, .v (.int .i64) a1.2.2.2.1, .v (.int .i64) a1.2.2.2.2.1, .v .bool a1.2.2.2.2.2.1, .v (.sl (.int .i64)) a1.2.2.2.2.2.2] 44]⟩ (tn 5) ?_
  refine cnd h (fun h => ?_) (fun h => ?_)
  · refine sR T_ok [4] [] ⟨[(4, B false)], []⟩ (tn 1) ?_
    refine VW.ret ?_
    replace h := Option.some.inj h
    subst h
    exact rt []
  refine VW.skip ?_
  refine VW.seq ?_
  refine sR T_ok [2, 3, 34] [0, 1] ⟨[(2, .lf (.ptr 0 0 0 0)), (3, .lf (.ptr 1 0 0 0)), (34, B (!(a0.2.2.2.2.2.1 == a1.2.2.2.2.2.1)))], [bx [.v (.int .i64) a0.1, .v .str a0.2.1, .v (.int .i64) a0.2.2.1, .v (.int .i64) a0.2.2.2.1, .v (.int .i64) a0.2.2.2.2.1, .v .bool a0.2.2.2.2.2.1, .v (.sl (.int .i64)) a0.2.2.2.2.2.2] 44, bx [.v (.int .i64) a1.1, .v .str a1.2.1, .v (.int .i64) a1.2.2.1, .v (.int .i64) a1.2.2.2.1, .v (.int .i64) a1.2.2.2.2.1, .v .bool a1.2.2.2.2.2.1, .v (.sl (.int .i64)) a1.2.2.2.2.2.2] 44]⟩ (tn 5) ?_
  refine cnd h (fun h => ?_) (fun h => ?_)
  · refine sR T_ok [4] [] ⟨[(4, B false)], []⟩ (tn 1) ?_
    refine VW.ret ?_
    replace h := Option.some.inj h
    subst h
    exact rt []
  refine VW.skip ?_
  refine VW.seq ?_
  refine VW.seq ?_
  refine VW.region ?_
  refine sG T_ok 4 [36, 38] [] ⟨[(36, .lf (.v (.sl (.int .i64)) a0.2.2.2.2.2.2)), (38, .lf (.v (.sl (.int .i64)) a1.2.2.2.2.2.2))], []⟩ (tn 4) ?_
  obtain ⟨y2, hy, h⟩ := andO_some h
  refine cal false [.t (.sl (.int .i64)), .t (.sl (.int .i64))] [] (some 39) T_ok (ok12 N _ _ hy) ?_
  refine sN T_ok [40] [] ⟨[(40, B (!y2))], []⟩ (tn 1) ?_
  refine cnd h (fun h => ?_) (fun h => ?_)
  · refine sR T_ok [4] [] ⟨[(4, B false)], []⟩ (tn 1) ?_
    refine VW.ret ?_
    replace h := Option.some.inj h
    subst h
    exact rt []
  refine VW.skip ?_
  refine sR T_ok [4] [] ⟨[(4, B true)], []⟩ (tn 1) ?_
  refine VW.ret ?_
  replace h := Option.some.inj h
  subst h
  exact rt []

/- loop.example/g00844/laws.eqNodeS -/
def F11_j0 (N : Nat) : Option (Bool) :=
  some true
def F11_l0_b (N : Nat) (a0 : (List (Int × (ByteArray × (Int × (Int × (Int × (Bool × (List Int))))))))) (a1 : (List (Int × (ByteArray × (Int × (Int × (Int × (Bool × (List Int))))))))) (nx35 : Int → Option (Bool)) (x28 : Int) : Option (Bool) :=
  cond (decide (x28 < (a0.length : Int))) (gd (InR x28 a0.length) (gd (InR x28 a1.length) (andO (F27 N (a0.getD x28.toNat (Ty.dflt Y40)) (a1.getD x28.toNat (Ty.dflt Y40))) fun y41 => cond (!y41) (some false) (nx35 (IntKind.i64.wrap (x28 + (1 : Int))))))) (F11_j0 N)
def F11_l0 (N : Nat) (a0 : (List (Int × (ByteArray × (Int × (Int × (Int × (Bool × (List Int))))))))) (a1 : (List (Int × (ByteArray × (Int × (Int × (Int × (Bool × (List Int))))))))) : Nat → Int → Option (Bool) := loopF (F11_l0_b N a0 a1) (fun _ => none)
theorem F11_l0_s (N : Nat) (a0 : (List (Int × (ByteArray × (Int × (Int × (Int × (Bool × (List Int))))))))) (a1 : (List (Int × (ByteArray × (Int × (Int × (Int × (Bool × (List Int))))))))) {k : Nat} (hk : 0 < k) (x28 : Int) : F11_l0 N a0 a1 k x28 = F11_l0_b N a0 a1 (F11_l0 N a0 a1 (k - 1)) x28 := by
  cases k with
  | zero => exact absurd hk (Nat.lt_irrefl 0)
  | succ m => rfl
def F11 (N : Nat) (a0 : (List (Int × (ByteArray × (Int × (Int × (Int × (Bool × (List Int))))))))) (a1 : (List (Int × (ByteArray × (Int × (Int × (Int × (Bool × (List Int))))))))) : Option (Bool) :=
  cond ((a0.length : Int) != (a1.length : Int)) (some false) (F11_l0 N a0 a1 N (0 : Int))
theorem ok11 (N : Nat) (a0 : (List (Int × (ByteArray × (Int × (Int × (Int × (Bool × (List Int))))))))) (a1 : (List (Int × (ByteArray × (Int × (Int × (Int × (Bool × (List Int))))))))) {r : Bool} (h : F11 N a0 a1 = some r) : Con Go.Proofs.Try.prog 11 [.lf (.v (.sl Y40) a0), .lf (.v (.sl Y40) a1)] [.lf (.v .bool r)] := by
  refine ctr [.lf (.v .bool)] T_ok Go.Proofs.Try.func11 rfl fun w0 E0 => ?_
  unfold F11 at h
  show VW _ _ _ _ _ (retQ _ _ _ _) _
  refine sR T_ok [0, 1] [] ⟨[(0, .lf (.v (.sl Y40) a0)), (1, .lf (.v (.sl Y40) a1))], []⟩ (tn 1) ?_
  refine VW.seq ?_
  refine sR T_ok [0, 1, 10] [] ⟨[(0, .lf (.v (.sl Y40) a0)), (1, .lf (.v (.sl Y40) a1)), (10, B ((a0.length : Int) != (a1.length : Int)))], []⟩ (tn 5) ?_
  refine cnd h (fun h => ?_) (fun h => ?_)
  · refine sR T_ok [4] [] ⟨[(4, B false)], []⟩ (tn 1) ?_
    refine VW.ret ?_
    replace h := Option.some.inj h
    subst h
    exact rt []
  refine VW.skip ?_
  refine VW.join (fun s => s = ⟨[], []⟩ ∧ F11_j0 N = some r) ?_ ?_
  · refine sR T_ok [0, 1, 5] [] ⟨[(0, .lf (.v (.sl Y40) a0)), (1, .lf (.v (.sl Y40) a1)), (5, I (0 : Int))], []⟩ (tn 1) ?_
    refine VW.block ?_
    refine lop (fun k s => ∃ (x28 : Int), s = ⟨[(0, .lf (.v (.sl Y40) a0)), (1, .lf (.v (.sl Y40) a1)), (5, I x28)], []⟩ ∧ F11_l0 N a0 a1 k x28 = some r) N [.ren [0, 1, 5] []] ⟨(0 : Int), rfl, h⟩ ?_
    rintro k35 s ⟨x28, rfl, h⟩
    cases k35 with
    | zero => cases show none = some r from h
    | succ k35 =>
      replace h : F11_l0_b N a0 a1 (F11_l0 N a0 a1 k35) x28 = some r := h
      unfold F11_l0_b at h
      refine VW.seq ?_
      refine sR T_ok [0, 1, 5, 14] [] ⟨[(0, .lf (.v (.sl Y40) a0)), (1, .lf (.v (.sl Y40) a1)), (5, I x28), (14, B (decide (x28 < (a0.length : Int))))], []⟩ (tn 4) ?_
      refine cnd h (fun h => ?_) (fun h => ?_)
      · refine VW.skip ?_
        refine VW.seq ?_
        refine VW.block ?_
        refine VW.seq ?_
        obtain ⟨g39, h⟩ := gd_some h
        obtain ⟨g40, h⟩ := gd_some h
        obtain ⟨y41, hy41, h⟩ := andO_some h
        refine VW.drawn (by kernel_rfl) [some (17, .lf (.v (.sl Y40) a0)), some (18, I x28), some (19, .lf (.fp Y40 (a0.getD x28.toNat (Ty.dflt Y40)) 0)), some (20, .agg [.v (.int .i64) ((a0.getD x28.toNat (Ty.dflt Y40)).1), .v .str ((a0.getD x28.toNat (Ty.dflt Y40)).2.1), .v (.int .i64) ((a0.getD x28.toNat (Ty.dflt Y40)).2.2.1), .v (.int .i64) ((a0.getD x28.toNat (Ty.dflt Y40)).2.2.2.1), .v (.int .i64) ((a0.getD x28.toNat (Ty.dflt Y40)).2.2.2.2.1), .v .bool ((a0.getD x28.toNat (Ty.dflt Y40)).2.2.2.2.2.1), .v (.sl (.int .i64)) ((a0.getD x28.toNat (Ty.dflt Y40)).2.2.2.2.2.2)]), some (21, .lf (.v (.sl Y40) a1)), some (22, I x28), some (23, .lf (.fp Y40 (a1.getD x28.toNat (Ty.dflt Y40)) 0)), some (24, .agg [.v (.int .i64) ((a1.getD x28.toNat (Ty.dflt Y40)).1), .v .str ((a1.getD x28.toNat (Ty.dflt Y40)).2.1), .v (.int .i64) ((a1.getD x28.toNat (Ty.dflt Y40)).2.2.1), .v (.int .i64) ((a1.getD x28.toNat (Ty.dflt Y40)).2.2.2.1), .v (.int .i64) ((a1.getD x28.toNat (Ty.dflt Y40)).2.2.2.2.1), .v .bool ((a1.getD x28.toNat (Ty.dflt Y40)).2.2.2.2.2.1), .v (.sl (.int .i64)) ((a1.getD x28.toNat (Ty.dflt Y40)).2.2.2.2.2.2)]), some (25, B y41), some (26, B (!y41))] [] [[]] [(0, 0), (1, 0), (2, 0), (3, 0), (4, 0), (5, 0), (6, 0), (7, 0), (8, 0), (9, 0)] [0, 1, 5, 26] [] (s' := ⟨[(0, .lf (.v (.sl Y40) a0)), (1, .lf (.v (.sl Y40) a1)), (5, I x28), (26, B (!y41))], []⟩) (by kernel_rfl) (by kernel_rfl) ⟨⟨_, rfl, Stp.ev T_ok (m := .dp) (φ := True) (by kernel_rfl) trivial⟩,
    ⟨_, rfl, Stp.ev T_ok (m := .dp) (φ := True) (by kernel_rfl) trivial⟩,
    ⟨_, rfl, Stp.ev T_ok (m := .dp) (φ := InR x28 a0.length) (by kernel_rfl) g39⟩,
    ⟨_, rfl, Stp.ev T_ok (m := .dp) (φ := True) (by kernel_rfl) trivial⟩,
    ⟨_, rfl, Stp.ev T_ok (m := .dp) (φ := True) (by kernel_rfl) trivial⟩,
    ⟨_, rfl, Stp.ev T_ok (m := .dp) (φ := True) (by kernel_rfl) trivial⟩,
    ⟨_, rfl, Stp.ev T_ok (m := .dp) (φ := InR x28 a1.length) (by kernel_rfl) g40⟩,
    ⟨_, rfl, Stp.ev T_ok (m := .dp) (φ := True) (by kernel_rfl) trivial⟩,
    ⟨_, rfl, Stp.eq (Stp.call false [.t Y40, .t Y40] [] T_ok (d := some 25) (by kernel_rfl) (ok27 N _ _ hy41) rfl) (by kernel_rfl) (by kernel_rfl)⟩,
    ⟨_, rfl, Stp.ev T_ok (m := .dp) (φ := True) (by kernel_rfl) trivial⟩, trivial⟩ (by kernel_rfl) ?_
        refine cnd h (fun h => ?_) (fun h => ?_)
        · refine sR T_ok [4] [] ⟨[(4, B false)], []⟩ (tn 1) ?_
          refine VW.ret ?_
          replace h := Option.some.inj h
          subst h
          exact rt []
        refine VW.skip ?_
        refine rR T_ok [0, 1, 5] [] ⟨[(0, .lf (.v (.sl Y40) a0)), (1, .lf (.v (.sl Y40) a1)), (5, I (IntKind.i64.wrap (x28 + (1 : Int))))], []⟩ (tn 3) ?_
        exact aro [.ren [0, 1, 5] []] ⟨(IntKind.i64.wrap (x28 + (1 : Int))), rfl, h⟩
      refine VW.exit ?_
      exact arv [.ren [] []] ⟨rfl, h⟩
  rintro s ⟨rfl, h⟩
  unfold F11_j0 at h
  refine sR T_ok [4] [] ⟨[(4, B true)], []⟩ (tn 1) ?_
  refine VW.ret ?_
  replace h := Option.some.inj h
  subst h
  exact rt []

/- loop.example/g00844/laws.markIntS -/
def F14_j0 (N : Nat) (x17 : Int) (x18 : (List Int)) : Option ((List Int) × Int) :=
  some (x18, x17)
def F14_l0_b (N : Nat) (nx31 : (List Int) → Int → Int → Option ((List Int) × Int)) (x24 : (List Int)) (x25 : Int) (x26 : Int) : Option ((List Int) × Int) :=
  cond (decide (x26 < (x24.length : Int))) (gd (InR x26 x24.length) (gd (x26.toNat < x24.length) (nx31 (x24.set x26.toNat x25) (IntKind.i64.wrap (x25 + (1 : Int))) (IntKind.i64.wrap (x26 + (1 : Int)))))) (F14_j0 N x25 x24)
def F14_l0 (N : Nat) : Nat → (List Int) → Int → Int → Option ((List Int) × Int) := loopF (F14_l0_b N) (fun _ _ _ => none)
theorem F14_l0_s (N : Nat) {k : Nat} (hk : 0 < k) (x24 : (List Int)) (x25 : Int) (x26 : Int) : F14_l0 N k x24 x25 x26 = F14_l0_b N (F14_l0 N (k - 1)) x24 x25 x26 := by
  cases k with
  | zero => exact absurd hk (Nat.lt_irrefl 0)
  | succ m => rfl
def F14 (N : Nat) (a0 : (List Int)) (a1 : Int) : Option ((List Int) × Int) :=
  F14_l0 N N a0 a1 (0 : Int)
theorem ok14 (N : Nat) (a0 : (List Int)) (a1 : Int) {r : (List Int) × Int} (h : F14 N a0 a1 = some r) : ConM Go.Proofs.Try.prog 14 [ar 0 (.int .i64) a0 .dp] [.lf (.hd 0 0 none), I a1] [.lf (.v (.int .i64) r.2)] [ar 0 (.int .i64) r.1 .dp] := by
  refine ⟨enters_of Go.Proofs.Try.func14 rfl (by decide), HM.intro [.lf (.v (.int .i64))] T_ok Go.Proofs.Try.func14 rfl (Nat.le_of_ble_eq_true rfl) (Nat.le_of_ble_eq_true rfl) fun w0 E0 => ?_⟩
  unfold F14 at h
  show VW _ _ _ _ _ (retM _ _ _ _ _) _
  refine sR T_ok [0, 1, 65536] [0] ⟨[(0, .lf (.hd 0 0 none)), (1, I a1), (65536, .lf (.hd 0 0 none))], [ar 0 (.int .i64) a0 .dp]⟩ (tn 1) ?_
  refine VW.join (fun s => ∃ (x17 : Int) (x18 : (List Int)), s = ⟨[(1, I x17), (65536, .lf (.hd 0 0 none))], [ar 0 (.int .i64) x18 .dp]⟩ ∧ F14_j0 N x17 x18 = some r) ?_ ?_
  · refine sR T_ok [0, 1, 5, 65536] [0] ⟨[(0, .lf (.hd 0 0 none)), (1, I a1), (5, I (0 : Int)), (65536, .lf (.hd 0 0 none))], [ar 0 (.int .i64) a0 .dp]⟩ (tn 1) ?_
    refine VW.block ?_
    refine lop (fun k s => ∃ (x24 : (List Int)) (x25 : Int) (x26 : Int), s = ⟨[(0, .lf (.hd 0 0 none)), (1, I x25), (5, I x26), (65536, .lf (.hd 0 0 none))], [ar 0 (.int .i64) x24 .dp]⟩ ∧ F14_l0 N k x24 x25 x26 = some r) N [.ren [0, 1, 5, 65536] [0]] ⟨a0, a1, (0 : Int), rfl, h⟩ ?_
    rintro k31 s ⟨x24, x25, x26, rfl, h⟩
    cases k31 with
    | zero => cases show none = some r from h
    | succ k31 =>
      replace h : F14_l0_b N (F14_l0 N k31) x24 x25 x26 = some r := h
      unfold F14_l0_b at h
      refine VW.seq ?_
      refine sR T_ok [0, 1, 5, 9, 65536] [0] ⟨[(0, .lf (.hd 0 0 none)), (1, I x25), (5, I x26), (9, B (decide (x26 < (x24.length : Int)))), (65536, .lf (.hd 0 0 none))], [ar 0 (.int .i64) x24 .dp]⟩ (tn 4) ?_
      refine cnd h (fun h => ?_) (fun h => ?_)
      · refine VW.skip ?_
        refine VW.seq ?_
        refine VW.block ?_
        obtain ⟨g34, h⟩ := gd_some h
        obtain ⟨g35, h⟩ := gd_some h
        refine sR T_ok [0, 1, 5, 65536] [0] ⟨[(0, .lf (.hd 0 0 none)), (1, I x25), (5, I x26), (65536, .lf (.hd 0 0 none))], [ar 0 (.int .i64) (x24.set x26.toNat x25) .dp]⟩ (pu 3 (an g34 (an g35 (tn 0)))) ?_
        refine rR T_ok [0, 1, 5, 65536] [0] ⟨[(0, .lf (.hd 0 0 none)), (1, I (IntKind.i64.wrap (x25 + (1 : Int)))), (5, I x26), (65536, .lf (.hd 0 0 none))], [ar 0 (.int .i64) (x24.set x26.toNat x25) .dp]⟩ (tn 3) ?_
        refine rR T_ok [0, 1, 5, 65536] [0] ⟨[(0, .lf (.hd 0 0 none)), (1, I (IntKind.i64.wrap (x25 + (1 : Int)))), (5, I (IntKind.i64.wrap (x26 + (1 : Int)))), (65536, .lf (.hd 0 0 none))], [ar 0 (.int .i64) (x24.set x26.toNat x25) .dp]⟩ (tn 3) ?_
        exact aro [.ren [0, 1, 5, 65536] [0]] ⟨(x24.set x26.toNat x25), (IntKind.i64.wrap (x25 + (1 : Int))), (IntKind.i64.wrap (x26 + (1 : Int))), rfl, h⟩
      refine VW.exit ?_
      exact arv [.ren [1, 65536] [0]] ⟨x25, x24, rfl, h⟩
  rintro s ⟨x17, x18, rfl, h⟩
  unfold F14_j0 at h
  refine sR T_ok [4, 65536] [0] ⟨[(4, I x17), (65536, .lf (.hd 0 0 none))], [ar 0 (.int .i64) x18 .dp]⟩ (tn 2) ?_
  replace h := Option.some.inj h
  subst h
  refine VW.ghl [.ren [4, 65536] [0]] (VW.ret ?_)
  exact ⟨[], by kernel_rfl, by kernel_rfl, by kernel_rfl⟩

/- loop.example/g00844/laws.markText -/
def F28_j0 (N : Nat) (x7 : ByteArray) : Option (ByteArray) :=
  gd ((⟨#[109]⟩ : ByteArray).size + x7.size ≤ 9223372036854775807) (some ((⟨#[109]⟩ : ByteArray) ++ x7))
def F28_l0_b (N : Nat) (nx14 : Int → ByteArray → Option (ByteArray)) (x11 : Int) (x12 : ByteArray) : Option (ByteArray) :=
  cond (decide (x11 > (0 : Int))) (gd ((strOfNums ([(IntKind.u8.wrap (IntKind.i64.wrap ((48 : Int) + (Int.tmod x11 (10 : Int)))))])).size + x12.size ≤ 9223372036854775807) (nx14 (IntKind.i64.wrap (Int.tdiv x11 (10 : Int))) ((strOfNums ([(IntKind.u8.wrap (IntKind.i64.wrap ((48 : Int) + (Int.tmod x11 (10 : Int)))))])) ++ x12))) (F28_j0 N x12)
def F28_l0 (N : Nat) : Nat → Int → ByteArray → Option (ByteArray) := loopF (F28_l0_b N) (fun _ _ => none)
theorem F28_l0_s (N : Nat) {k : Nat} (hk : 0 < k) (x11 : Int) (x12 : ByteArray) : F28_l0 N k x11 x12 = F28_l0_b N (F28_l0 N (k - 1)) x11 x12 := by
  cases k with
  | zero => exact absurd hk (Nat.lt_irrefl 0)
  | succ m => rfl
def F28 (N : Nat) (a0 : Int) : Option (ByteArray) :=
  cond (decide (a0 ≤ (0 : Int))) (some (⟨#[109, 48]⟩ : ByteArray)) (F28_l0 N N a0 ByteArray.empty)
theorem ok28 (N : Nat) (a0 : Int) {r : ByteArray} (h : F28 N a0 = some r) : Con Go.Proofs.Try.prog 28 [I a0] [.lf (.v .str r)] := by
  refine ctr [.lf (.v .str)] T_ok Go.Proofs.Try.func28 rfl fun w0 E0 => ?_
  unfold F28 at h
  show VW _ _ _ _ _ (retQ _ _ _ _) _
  refine sR T_ok [0] [] ⟨[(0, I a0)], []⟩ (tn 1) ?_
  refine VW.seq ?_
  refine sR T_ok [0, 5] [] ⟨[(0, I a0), (5, B (decide (a0 ≤ (0 : Int))))], []⟩ (tn 2) ?_
  refine cnd h (fun h => ?_) (fun h => ?_)
  · refine sR T_ok [2] [] ⟨[(2, S (⟨#[109, 48]⟩ : ByteArray))], []⟩ (tn 1) ?_
    refine VW.ret ?_
    replace h := Option.some.inj h
    subst h
    exact rt []
  refine VW.skip ?_
  refine sR T_ok [0, 3] [] ⟨[(0, I a0), (3, S ByteArray.empty)], []⟩ (tn 1) ?_
  refine VW.join (fun s => ∃ (x7 : ByteArray), s = ⟨[(3, S x7)], []⟩ ∧ F28_j0 N x7 = some r) ?_ ?_
  · refine VW.block ?_
    refine lop (fun k s => ∃ (x11 : Int) (x12 : ByteArray), s = ⟨[(0, I x11), (3, S x12)], []⟩ ∧ F28_l0 N k x11 x12 = some r) N [.ren [0, 3] []] ⟨a0, ByteArray.empty, rfl, h⟩ ?_
    rintro k14 s ⟨x11, x12, rfl, h⟩
    cases k14 with
    | zero => cases show none = some r from h
    | succ k14 =>
      replace h : F28_l0_b N (F28_l0 N k14) x11 x12 = some r := h
      unfold F28_l0_b at h
      refine VW.seq ?_
      refine sR T_ok [0, 3, 7] [] ⟨[(0, I x11), (3, S x12), (7, B (decide (x11 > (0 : Int))))], []⟩ (tn 2) ?_
      refine cnd h (fun h => ?_) (fun h => ?_)
      · refine VW.skip ?_
        refine VW.block ?_
        obtain ⟨g15, h⟩ := gd_some h
        refine sR T_ok [0, 3] [] ⟨[(0, I x11), (3, S ((strOfNums ([(IntKind.u8.wrap (IntKind.i64.wrap ((48 : Int) + (Int.tmod x11 (10 : Int)))))])) ++ x12))], []⟩ (pu 1 (an (show ((10 : Int) ≠ 0) from by decide) (pu 5 (an g15 (tn 1))))) ?_
        refine rR T_ok [0, 3] [] ⟨[(0, I (IntKind.i64.wrap (Int.tdiv x11 (10 : Int)))), (3, S ((strOfNums ([(IntKind.u8.wrap (IntKind.i64.wrap ((48 : Int) + (Int.tmod x11 (10 : Int)))))])) ++ x12))], []⟩ (pu 1 (an (show ((10 : Int) ≠ 0) from by decide) (tn 1))) ?_
        exact aro [.ren [0, 3] []] ⟨(IntKind.i64.wrap (Int.tdiv x11 (10 : Int))), ((strOfNums ([(IntKind.u8.wrap (IntKind.i64.wrap ((48 : Int) + (Int.tmod x11 (10 : Int)))))])) ++ x12), rfl, h⟩
      refine VW.exit ?_
      exact arv [.ren [3] []] ⟨x12, rfl, h⟩
  rintro s ⟨x7, rfl, h⟩
  unfold F28_j0 at h
  obtain ⟨g8, h⟩ := gd_some h
  refine sR T_ok [2] [] ⟨[(2, S ((⟨#[109]⟩ : ByteArray) ++ x7))], []⟩ (pu 1 (an g8 (tn 1))) ?_
  refine VW.ret ?_
  replace h := Option.some.inj h
  subst h
  exact rt []

/- loop.example/g00844/laws.markNodeS -/
def F13_j0 (N : Nat) (x101 : Int) (x102 : (List (Int × (ByteArray × (Int × (Int × (Int × (Bool × (List Int))))))))) : Option ((List (Int × (ByteArray × (Int × (Int × (Int × (Bool × (List Int)))))))) × Int) :=
  some (x102, x101)
def F13_l0_b (N : Nat) (nx171 : (List (Int × (ByteArray × (Int × (Int × (Int × (Bool × (List Int)))))))) → Int → Int → Option ((List (Int × (ByteArray × (Int × (Int × (Int × (Bool × (List Int)))))))) × Int)) (x136 : (List (Int × (ByteArray × (Int × (Int × (Int × (Bool × (List Int))))))))) (x137 : Int) (x138 : Int) : Option ((List (Int × (ByteArray × (Int × (Int × (Int × (Bool × (List Int)))))))) × Int) :=
  cond (decide (x138 < (x136.length : Int))) (gd (InR x138 x136.length) (gd (x138.toNat < x136.length) (andO (F28 N (IntKind.i64.wrap (x137 + (1 : Int)))) fun y190 => gd (InR x138 (x136.set x138.toNat (x137, ((x136.getD x138.toNat (Ty.dflt Y40)).2.1, ((x136.getD x138.toNat (Ty.dflt Y40)).2.2.1, ((x136.getD x138.toNat (Ty.dflt Y40)).2.2.2.1, ((x136.getD x138.toNat (Ty.dflt Y40)).2.2.2.2.1, ((x136.getD x138.toNat (Ty.dflt Y40)).2.2.2.2.2.1, (x136.getD x138.toNat (Ty.dflt Y40)).2.2.2.2.2.2))))))).length) (gd (x138.toNat < (x136.set x138.toNat (x137, ((x136.getD x138.toNat (Ty.dflt Y40)).2.1, ((x136.getD x138.toNat (Ty.dflt Y40)).2.2.1, ((x136.getD x138.toNat (Ty.dflt Y40)).2.2.2.1, ((x136.getD x138.toNat (Ty.dflt Y40)).2.2.2.2.1, ((x136.getD x138.toNat (Ty.dflt Y40)).2.2.2.2.2.1, (x136.getD x138.toNat (Ty.dflt Y40)).2.2.2.2.2.2))))))).length) (gd (InR x138 (x136.set x138.toNat (x137, (y190, ((x136.getD x138.toNat (Ty.dflt Y40)).2.2.1, ((x136.getD x138.toNat (Ty.dflt Y40)).2.2.2.1, ((x136.getD x138.toNat (Ty.dflt Y40)).2.2.2.2.1, ((x136.getD x138.toNat (Ty.dflt Y40)).2.2.2.2.2.1, (x136.getD x138.toNat (Ty.dflt Y40)).2.2.2.2.2.2))))))).length) (gd (x138.toNat < (x136.set x138.toNat (x137, (y190, ((x136.getD x138.toNat (Ty.dflt Y40)).2.2.1, ((x136.getD x138.toNat (Ty.dflt Y40)).2.2.2.1, ((x136.getD x138.toNat (Ty.dflt Y40)).2.2.2.2.1, ((x136.getD x138.toNat (Ty.dflt Y40)).2.2.2.2.2.1, (x136.getD x138.toNat (Ty.dflt Y40)).2.2.2.2.2.2))))))).length) (gd (InR x138 (x136.set x138.toNat (x137, (y190, ((IntKind.i64.wrap ((IntKind.i64.wrap (x137 + (1 : Int))) + (1 : Int))), ((x136.getD x138.toNat (Ty.dflt Y40)).2.2.2.1, ((x136.getD x138.toNat (Ty.dflt Y40)).2.2.2.2.1, ((x136.getD x138.toNat (Ty.dflt Y40)).2.2.2.2.2.1, (x136.getD x138.toNat (Ty.dflt Y40)).2.2.2.2.2.2))))))).length) (gd (x138.toNat < (x136.set x138.toNat (x137, (y190, ((IntKind.i64.wrap ((IntKind.i64.wrap (x137 + (1 : Int))) + (1 : Int))), ((x136.getD x138.toNat (Ty.dflt Y40)).2.2.2.1, ((x136.getD x138.toNat (Ty.dflt Y40)).2.2.2.2.1, ((x136.getD x138.toNat (Ty.dflt Y40)).2.2.2.2.2.1, (x136.getD x138.toNat (Ty.dflt Y40)).2.2.2.2.2.2))))))).length) (gd (InR x138 (x136.set x138.toNat (x137, (y190, ((IntKind.i64.wrap ((IntKind.i64.wrap (x137 + (1 : Int))) + (1 : Int))), ((IntKind.i64.wrap ((IntKind.i64.wrap ((IntKind.i64.wrap (x137 + (1 : Int))) + (1 : Int))) + (1 : Int))), ((x136.getD x138.toNat (Ty.dflt Y40)).2.2.2.2.1, ((x136.getD x138.toNat (Ty.dflt Y40)).2.2.2.2.2.1, (x136.getD x138.toNat (Ty.dflt Y40)).2.2.2.2.2.2))))))).length) (gd (x138.toNat < (x136.set x138.toNat (x137, (y190, ((IntKind.i64.wrap ((IntKind.i64.wrap (x137 + (1 : Int))) + (1 : Int))), ((IntKind.i64.wrap ((IntKind.i64.wrap ((IntKind.i64.wrap (x137 + (1 : Int))) + (1 : Int))) + (1 : Int))), ((x136.getD x138.toNat (Ty.dflt Y40)).2.2.2.2.1, ((x136.getD x138.toNat (Ty.dflt Y40)).2.2.2.2.2.1, (x136.getD x138.toNat (Ty.dflt Y40)).2.2.2.2.2.2))))))).length) (gd (InR x138 (x136.set x138.toNat (x137, (y190, ((IntKind.i64.wrap ((IntKind.i64.wrap (x137 + (1 : Int))) + (1 : Int))), ((IntKind.i64.wrap ((IntKind.i64.wrap ((IntKind.i64.wrap (x137 + (1 : Int))) + (1 : Int))) + (1 : Int))), ((IntKind.i64.wrap ((IntKind.i64.wrap ((IntKind.i64.wrap ((IntKind.i64.wrap (x137 + (1 : Int))) + (1 : Int))) + (1 : Int))) + (1 : Int))), ((x136.getD x138.toNat (Ty.dflt Y40)).2.2.2.2.2.1, (x136.getD x138.toNat (Ty.dflt Y40)).2.2.2.2.2.2))))))).length) (gd (x138.toNat < (x136.set x138.toNat (x137, (y190, ((IntKind.i64.wrap ((IntKind.i64.wrap (x137 + (1 : Int))) + (1 : Int))), ((IntKind.i64.wrap ((IntKind.i64.wrap ((IntKind.i64.wrap (x137 + (1 : Int))) + (1 : Int))) + (1 : Int))), ((IntKind.i64.wrap ((IntKind.i64.wrap ((IntKind.i64.wrap ((IntKind.i64.wrap (x137 + (1 : Int))) + (1 : Int))) + (1 : Int))) + (1 : Int))), ((x136.getD x138.toNat (Ty.dflt Y40)).2.2.2.2.2.1, (x136.getD x138.toNat (Ty.dflt Y40)).2.2.2.2.2.2))))))).length) (gd (InR x138 (x136.set x138.toNat (x137, (y190, ((IntKind.i64.wrap ((IntKind.i64.wrap (x137 + (1 : Int))) + (1 : Int))), ((IntKind.i64.wrap ((IntKind.i64.wrap ((IntKind.i64.wrap (x137 + (1 : Int))) + (1 : Int))) + (1 : Int))), ((IntKind.i64.wrap ((IntKind.i64.wrap ((IntKind.i64.wrap ((IntKind.i64.wrap (x137 + (1 : Int))) + (1 : Int))) + (1 : Int))) + (1 : Int))), (((Int.tmod (IntKind.i64.wrap ((IntKind.i64.wrap ((IntKind.i64.wrap ((IntKind.i64.wrap ((IntKind.i64.wrap (x137 + (1 : Int))) + (1 : Int))) + (1 : Int))) + (1 : Int))) + (1 : Int))) (3 : Int)) == (0 : Int)), (x136.getD x138.toNat (Ty.dflt Y40)).2.2.2.2.2.2))))))).length) (gd (x138.toNat < (x136.set x138.toNat (x137, (y190, ((IntKind.i64.wrap ((IntKind.i64.wrap (x137 + (1 : Int))) + (1 : Int))), ((IntKind.i64.wrap ((IntKind.i64.wrap ((IntKind.i64.wrap (x137 + (1 : Int))) + (1 : Int))) + (1 : Int))), ((IntKind.i64.wrap ((IntKind.i64.wrap ((IntKind.i64.wrap ((IntKind.i64.wrap (x137 + (1 : Int))) + (1 : Int))) + (1 : Int))) + (1 : Int))), (((Int.tmod (IntKind.i64.wrap ((IntKind.i64.wrap ((IntKind.i64.wrap ((IntKind.i64.wrap ((IntKind.i64.wrap (x137 + (1 : Int))) + (1 : Int))) + (1 : Int))) + (1 : Int))) + (1 : Int))) (3 : Int)) == (0 : Int)), (x136.getD x138.toNat (Ty.dflt Y40)).2.2.2.2.2.2))))))).length) (andO (F14 N (((x136.set x138.toNat (x137, (y190, ((IntKind.i64.wrap ((IntKind.i64.wrap (x137 + (1 : Int))) + (1 : Int))), ((IntKind.i64.wrap ((IntKind.i64.wrap ((IntKind.i64.wrap (x137 + (1 : Int))) + (1 : Int))) + (1 : Int))), ((IntKind.i64.wrap ((IntKind.i64.wrap ((IntKind.i64.wrap ((IntKind.i64.wrap (x137 + (1 : Int))) + (1 : Int))) + (1 : Int))) + (1 : Int))), (((Int.tmod (IntKind.i64.wrap ((IntKind.i64.wrap ((IntKind.i64.wrap ((IntKind.i64.wrap ((IntKind.i64.wrap (x137 + (1 : Int))) + (1 : Int))) + (1 : Int))) + (1 : Int))) + (1 : Int))) (3 : Int)) == (0 : Int)), (x136.getD x138.toNat (Ty.dflt Y40)).2.2.2.2.2.2))))))).getD x138.toNat (Ty.dflt Y40)).2.2.2.2.2.2) (IntKind.i64.wrap ((IntKind.i64.wrap ((IntKind.i64.wrap ((IntKind.i64.wrap ((IntKind.i64.wrap ((IntKind.i64.wrap (x137 + (1 : Int))) + (1 : Int))) + (1 : Int))) + (1 : Int))) + (1 : Int))) + (1 : Int)))) fun y202 => nx171 ((x136.set x138.toNat (x137, (y190, ((IntKind.i64.wrap ((IntKind.i64.wrap (x137 + (1 : Int))) + (1 : Int))), ((IntKind.i64.wrap ((IntKind.i64.wrap ((IntKind.i64.wrap (x137 + (1 : Int))) + (1 : Int))) + (1 : Int))), ((IntKind.i64.wrap ((IntKind.i64.wrap ((IntKind.i64.wrap ((IntKind.i64.wrap (x137 + (1 : Int))) + (1 : Int))) + (1 : Int))) + (1 : Int))), (((Int.tmod (IntKind.i64.wrap ((IntKind.i64.wrap ((IntKind.i64.wrap ((IntKind.i64.wrap ((IntKind.i64.wrap (x137 + (1 : Int))) + (1 : Int))) + (1 : Int))) + (1 : Int))) + (1 : Int))) (3 : Int)) == (0 : Int)), (x136.getD x138.toNat (Ty.dflt Y40)).2.2.2.2.2.2))))))).set x138.toNat (((x136.set x138.toNat (x137, (y190, ((IntKind.i64.wrap ((IntKind.i64.wrap (x137 + (1 : Int))) + (1 : Int))), ((IntKind.i64.wrap ((IntKind.i64.wrap ((IntKind.i64.wrap (x137 + (1 : Int))) + (1 : Int))) + (1 : Int))), ((IntKind.i64.wrap ((IntKind.i64.wrap ((IntKind.i64.wrap ((IntKind.i64.wrap (x137 + (1 : Int))) + (1 : Int))) + (1 : Int))) + (1 : Int))), (((Int.tmod (IntKind.i64.wrap ((IntKind.i64.wrap ((IntKind.i64.wrap ((IntKind.i64.wrap ((IntKind.i64.wrap (x137 + (1 : Int))) + (1 : Int))) + (1 : Int))) + (1 : Int))) + (1 : Int))) (3 : Int)) == (0 : Int)), (x136.getD x138.toNat (Ty.dflt Y40)).2.2.2.2.2.2))))))).getD x138.toNat (Ty.dflt Y40)).1, (((x136.set x138.toNat (x137, (y190, ((IntKind.i64.wrap ((IntKind.i64.wrap (x137 + (1 : Int))) + (1 : Int))), ((IntKind.i64.wrap ((IntKind.i64.wrap ((IntKind.i64.wrap (x137 + (1 : Int))) + (1 : Int))) + (1 : Int))), ((IntKind.i64.wrap ((IntKind.i64.wrap ((IntKind.i64.wrap ((IntKind.i64.wrap (x137 + (1 : Int))) + (1 : Int))) + (1 : Int))) + (1 : Int))), (((Int.tmod (IntKind.i64.wrap ((IntKind.i64.wrap ((IntKind.i64.wrap ((IntKind.i64.wrap ((IntKind.i64.wrap (x137 + (1 : Int))) + (1 : Int))) + (1 : Int))) + (1 : Int))) + (1 : Int))) (3 : Int)) == (0 : Int)), (x136.getD x138.toNat (Ty.dflt Y40)).2.2.2.2.2.2))))))).getD x138.toNat (Ty.dflt Y40)).2.1, (((x136.set x138.toNat (x137, (y190, ((IntKind.i64.wrap ((IntKind.i64.wrap (x137 + (1 : Int))) + (1 : Int))), ((IntKind.i64.wrap ((IntKind.i64.wrap ((IntKind.i64.wrap (x137 + (1 : Int))) + (1 : Int))) + (1 : Int))), ((IntKind.i64.wrap ((IntKind.i64.wrap ((IntKind.i64.wrap ((IntKind.i64.wrap (x137 + (1 : Int))) + (1 : Int))) + (1 : Int))) + (1 : Int))), (((Int.tmod (IntKind.i64.wrap ((IntKind.i64.wrap ((IntKind.i64.wrap ((IntKind.i64.wrap ((IntKind.i64.wrap (x137 + (1 : Int))) + (1 : Int))) + (1 : Int))) + (1 : Int))) + (1 : Int))) (3 : Int)) == (0 : Int)), (x136.getD x138.toNat (Ty.dflt Y40)).2.2.2.2.2.2))))))).getD x138.toNat (Ty.dflt Y40)).2.2.1, (((x136.set x138.toNat (x137, (y190, ((IntKind.i64.wrap ((IntKind.i64.wrap (x137 + (1 : Int))) + (1 : Int))), ((IntKind.i64.wrap ((IntKind.i64.wrap ((IntKind.i64.wrap (x137 + (1 : Int))) + (1 : Int))) + (1 : Int))), ((IntKind.i64.wrap ((IntKind.i64.wrap ((IntKind.i64.wrap ((IntKind.i64.wrap (x137 + (1 : Int))) + (1 : Int))) + (1 : Int))) + (1 : Int))), (((Int.tmod (IntKind.i64.wrap ((IntKind.i64.wrap ((IntKind.i64.wrap ((IntKind.i64.wrap ((IntKind.i64.wrap (x137 + (1 : Int))) + (1 : Int))) + (1 : Int))) + (1 : Int))) + (1 : Int))) (3 : Int)) == (0 : Int)), (x136.getD x138.toNat (Ty.dflt Y40)).2.2.2.2.2.2))))))).getD x138.toNat (Ty.dflt Y40)).2.2.2.1, (((x136.set x138.toNat (x137, (y190, ((IntKind.i64.wrap ((IntKind.i64.wrap (x137 + (1 : Int))) + (1 : Int))), ((IntKind.i64.wrap ((IntKind.i64.wrap ((IntKind.i64.wrap (x137 + (1 : Int))) + (1 : Int))) + (1 : Int))), ((IntKind.i64.wrap ((IntKind.i64.wrap ((IntKind.i64.wrap ((IntKind.i64.wrap (x137 + (1 : Int))) + (1 : Int))) + (1 : Int))) + (1 : Int))), (((Int.tmod (IntKind.i64.wrap ((IntKind.i64.wrap ((IntKind.i64.wrap ((IntKind.i64.wrap ((IntKind.i64.wrap (x137 + (1 : Int))) + (1 : Int))) + (1 : Int))) + (1 : Int))) + (1 : Int))) (3 : Int)) == (0 : Int)), (x136.getD x138.toNat (Ty.dflt Y40)).2.2.2.2.2.2))))))).getD x138.toNat (Ty.dflt Y40)).2.2.2.2.1, (((x136.set x138.toNat (x137, (y190, ((IntKind.i64.wrap ((IntKind.i64.wrap (x137 + (1 : Int))) + (1 : Int))), ((IntKind.i64.wrap ((IntKind.i64.wrap ((IntKind.i64.wrap (x137 + (1 : Int))) + (1 : Int))) + (1 : Int))), ((IntKind.i64.wrap ((IntKind.i64.wrap ((IntKind.i64.wrap ((IntKind.i64.wrap (x137 + (1 : Int))) + (1 : Int))) + (1 : Int))) + (1 : Int))), (((Int.tmod (IntKind.i64.wrap ((IntKind.i64.wrap ((IntKind.i64.wrap ((IntKind.i64.wrap ((IntKind.i64.wrap (x137 + (1 : Int))) + (1 : Int))) + (1 : Int))) + (1 : Int))) + (1 : Int))) (3 : Int)) == (0 : Int)), (x136.getD x138.toNat (Ty.dflt Y40)).2.2.2.2.2.2))))))).getD x138.toNat (Ty.dflt Y40)).2.2.2.2.2.1, y202.1))))))) y202.2 (IntKind.i64.wrap (x138 + (1 : Int)))))))))))))))))) (F13_j0 N x137 x136)
def F13_l0 (N : Nat) : Nat → (List (Int × (ByteArray × (Int × (Int × (Int × (Bool × (List Int)))))))) → Int → Int → Option ((List (Int × (ByteArray × (Int × (Int × (Int × (Bool × (List Int)))))))) × Int) := loopF (F13_l0_b N) (fun _ _ _ => none)
theorem F13_l0_s (N : Nat) {k : Nat} (hk : 0 < k) (x136 : (List (Int × (ByteArray × (Int × (Int × (Int × (Bool × (List Int))))))))) (x137 : Int) (x138 : Int) : F13_l0 N k x136 x137 x138 = F13_l0_b N (F13_l0 N (k - 1)) x136 x137 x138 := by
  cases k with
  | zero => exact absurd hk (Nat.lt_irrefl 0)
  | succ m => rfl
def F13 (N : Nat) (a0 : (List (Int × (ByteArray × (Int × (Int × (Int × (Bool × (List Int))))))))) (a1 : Int) : Option ((List (Int × (ByteArray × (Int × (Int × (Int × (Bool × (List Int)))))))) × Int) :=
  F13_l0 N N a0 a1 (0 : Int)
theorem ok13 (N : Nat) (a0 : (List (Int × (ByteArray × (Int × (Int × (Int × (Bool × (List Int))))))))) (a1 : Int) {r : (List (Int × (ByteArray × (Int × (Int × (Int × (Bool × (List Int)))))))) × Int} (h : F13 N a0 a1 = some r) : ConM Go.Proofs.Try.prog 13 [ar 0 Y40 a0 .dp] [.lf (.hd 0 0 none), I a1] [.lf (.v (.int .i64) r.2)] [ar 0 Y40 r.1 .dp] := by
  refine ⟨enters_of Go.Proofs.Try.func13 rfl (by decide), HM.intro [.lf (.v (.int .i64))] T_ok Go.Proofs.Try.func13 rfl (Nat.le_of_ble_eq_true rfl) (Nat.le_of_ble_eq_true rfl) fun w0 E0 => ?_⟩
  unfold F13 at h
  show VW _ _ _ _ _ (retM _ _ _ _ _) _
  refine sR T_ok [0, 1, 65536] [0] ⟨[(0, .lf (.hd 0 0 none)), (1, I a1), (65536, .lf (.hd 0 0 none))], [ar 0 Y40 a0 .dp]⟩ (tn 1) ?_
  refine VW.join (fun s => ∃ (x101 : Int) (x102 : (List (Int × (ByteArray × (Int × (Int × (Int × (Bool × (List Int))))))))), s = ⟨[(1, I x101), (65536, .lf (.hd 0 0 none))], [ar 0 Y40 x102 .dp]⟩ ∧ F13_j0 N x101 x102 = some r) ?_ ?_
  · refine sR T_ok [0, 1, 5, 65536] [0] ⟨[(0, .lf (.hd 0 0 none)), (1, I a1), (5, I (0 : Int)), (65536, .lf (.hd 0 0 none))], [ar 0 Y40 a0 .dp]⟩ (tn 1) ?_
    refine VW.block ?_
    refine lop (fun k s => ∃ (x136 : (List (Int × (ByteArray × (Int × (Int × (Int × (Bool × (List Int))))))))) (x137 : Int) (x138 : Int), s = ⟨[(0, .lf (.hd 0 0 none)), (1, I x137), (5, I x138), (65536, .lf (.hd 0 0 none))], [ar 0 Y40 x136 .dp]⟩ ∧ F13_l0 N k x136 x137 x138 = some r) N [.ren [0, 1, 5, 65536] [0]] ⟨a0, a1, (0 : Int), rfl, h⟩ ?_
    rintro k171 s ⟨x136, x137, x138, rfl, h⟩
    cases k171 with
    | zero => cases show none = some r from h
    | succ k171 =>
      replace h : F13_l0_b N (F13_l0 N k171) x136 x137 x138 = some r := h
      unfold F13_l0_b at h
      refine VW.seq ?_
      refine sR T_ok [0, 1, 5, 9, 65536] [0] ⟨[(0, .lf (.hd 0 0 none)), (1, I x137), (5, I x138), (9, B (decide (x138 < (x136.length : Int)))), (65536, .lf (.hd 0 0 none))], [ar 0 Y40 x136 .dp]⟩ (tn 4) ?_
      refine cnd h (fun h => ?_) (fun h => ?_)
      · refine VW.skip ?_
        refine VW.seq ?_
        refine VW.block ?_
        obtain ⟨g188, h⟩ := gd_some h
        obtain ⟨g189, h⟩ := gd_some h
        refine sR T_ok [0, 1, 5, 65536] [0] ⟨[(0, .lf (.hd 0 0 none)), (1, I x137), (5, I x138), (65536, .lf (.hd 0 0 none))], [ar 0 Y40 (x136.set x138.toNat (x137, ((x136.getD x138.toNat (Ty.dflt Y40)).2.1, ((x136.getD x138.toNat (Ty.dflt Y40)).2.2.1, ((x136.getD x138.toNat (Ty.dflt Y40)).2.2.2.1, ((x136.getD x138.toNat (Ty.dflt Y40)).2.2.2.2.1, ((x136.getD x138.toNat (Ty.dflt Y40)).2.2.2.2.2.1, (x136.getD x138.toNat (Ty.dflt Y40)).2.2.2.2.2.2))))))) .dp]⟩ (pu 3 (an g188 (pu 1 (an g189 (tn 0))))) ?_
        refine sR T_ok [0, 1, 5, 65536] [0] ⟨[(0, .lf (.hd 0 0 none)), (1, I (IntKind.i64.wrap (x137 + (1 : Int)))), (5, I x138), (65536, .lf (.hd 0 0 none))], [ar 0 Y40 (x136.set x138.toNat (x137, ((x136.getD x138.toNat (Ty.dflt Y40)).2.1, ((x136.getD x138.toNat (Ty.dflt Y40)).2.2.1, ((x136.getD x138.toNat (Ty.dflt Y40)).2.2.2.1, ((x136.getD x138.toNat (Ty.dflt Y40)).2.2.2.2.1, ((x136.getD x138.toNat (Ty.dflt Y40)).2.2.2.2.2.1, (x136.getD x138.toNat (Ty.dflt Y40)).2.2.2.2.2.2))))))) .dp]⟩ (tn 3) ?_
        refine VW.seq ?_
        refine VW.region ?_
        refine sG T_ok 3 [0, 1, 5, 19, 20, 21, 65536] [0] ⟨[(0, .lf (.hd 0 0 none)), (1, I (IntKind.i64.wrap (x137 + (1 : Int)))), (5, I x138), (19, .lf (.hd 0 0 none)), (20, I x138), (21, I (IntKind.i64.wrap (x137 + (1 : Int)))), (65536, .lf (.hd 0 0 none))], [ar 0 Y40 (x136.set x138.toNat (x137, ((x136.getD x138.toNat (Ty.dflt Y40)).2.1, ((x136.getD x138.toNat (Ty.dflt Y40)).2.2.1, ((x136.getD x138.toNat (Ty.dflt Y40)).2.2.2.1, ((x136.getD x138.toNat (Ty.dflt Y40)).2.2.2.2.1, ((x136.getD x138.toNat (Ty.dflt Y40)).2.2.2.2.2.1, (x136.getD x138.toNat (Ty.dflt Y40)).2.2.2.2.2.2))))))) .dp]⟩ (tn 3) ?_
        obtain ⟨y190, hy, h⟩ := andO_some h
        refine cal false [.t (.int .i64)] [] (some 22) T_ok (ok28 N _ hy) ?_
        obtain ⟨g191, h⟩ := gd_some h
        obtain ⟨g192, h⟩ := gd_some h
        refine sG T_ok 3 [0, 1, 5, 65536] [0] ⟨[(0, .lf (.hd 0 0 none)), (1, I (IntKind.i64.wrap (x137 + (1 : Int)))), (5, I x138), (65536, .lf (.hd 0 0 none))], [ar 0 Y40 ((x136.set x138.toNat (x137, ((x136.getD x138.toNat (Ty.dflt Y40)).2.1, ((x136.getD x138.toNat (Ty.dflt Y40)).2.2.1, ((x136.getD x138.toNat (Ty.dflt Y40)).2.2.2.1, ((x136.getD x138.toNat (Ty.dflt Y40)).2.2.2.2.1, ((x136.getD x138.toNat (Ty.dflt Y40)).2.2.2.2.2.1, (x136.getD x138.toNat (Ty.dflt Y40)).2.2.2.2.2.2))))))).set x138.toNat (((x136.set x138.toNat (x137, ((x136.getD x138.toNat (Ty.dflt Y40)).2.1, ((x136.getD x138.toNat (Ty.dflt Y40)).2.2.1, ((x136.getD x138.toNat (Ty.dflt Y40)).2.2.2.1, ((x136.getD x138.toNat (Ty.dflt Y40)).2.2.2.2.1, ((x136.getD x138.toNat (Ty.dflt Y40)).2.2.2.2.2.1, (x136.getD x138.toNat (Ty.dflt Y40)).2.2.2.2.2.2))))))).getD x138.toNat (Ty.dflt Y40)).1, (y190, (((x136.set x138.toNat (x137, ((x136.getD x138.toNat (Ty.dflt Y40)).2.1, ((x136.getD x138.toNat (Ty.dflt Y40)).2.2.1, ((x136.getD x138.toNat (Ty.dflt Y40)).2.2.2.1, ((x136.getD x138.toNat (Ty.dflt Y40)).2.2.2.2.1, ((x136.getD x138.toNat (Ty.dflt Y40)).2.2.2.2.2.1, (x136.getD x138.toNat (Ty.dflt Y40)).2.2.2.2.2.2))))))).getD x138.toNat (Ty.dflt Y40)).2.2.1, (((x136.set x138.toNat (x137, ((x136.getD x138.toNat (Ty.dflt Y40)).2.1, ((x136.getD x138.toNat (Ty.dflt Y40)).2.2.1, ((x136.getD x138.toNat (Ty.dflt Y40)).2.2.2.1, ((x136.getD x138.toNat (Ty.dflt Y40)).2.2.2.2.1, ((x136.getD x138.toNat (Ty.dflt Y40)).2.2.2.2.2.1, (x136.getD x138.toNat (Ty.dflt Y40)).2.2.2.2.2.2))))))).getD x138.toNat (Ty.dflt Y40)).2.2.2.1, (((x136.set x138.toNat (x137, ((x136.getD x138.toNat (Ty.dflt Y40)).2.1, ((x136.getD x138.toNat (Ty.dflt Y40)).2.2.1, ((x136.getD x138.toNat (Ty.dflt Y40)).2.2.2.1, ((x136.getD x138.toNat (Ty.dflt Y40)).2.2.2.2.1, ((x136.getD x138.toNat (Ty.dflt Y40)).2.2.2.2.2.1, (x136.getD x138.toNat (Ty.dflt Y40)).2.2.2.2.2.2))))))).getD x138.toNat (Ty.dflt Y40)).2.2.2.2.1, (((x136.set x138.toNat (x137, ((x136.getD x138.toNat (Ty.dflt Y40)).2.1, ((x136.getD x138.toNat (Ty.dflt Y40)).2.2.1, ((x136.getD x138.toNat (Ty.dflt Y40)).2.2.2.1, ((x136.getD x138.toNat (Ty.dflt Y40)).2.2.2.2.1, ((x136.getD x138.toNat (Ty.dflt Y40)).2.2.2.2.2.1, (x136.getD x138.toNat (Ty.dflt Y40)).2.2.2.2.2.2))))))).getD x138.toNat (Ty.dflt Y40)).2.2.2.2.2.1, ((x136.set x138.toNat (x137, ((x136.getD x138.toNat (Ty.dflt Y40)).2.1, ((x136.getD x138.toNat (Ty.dflt Y40)).2.2.1, ((x136.getD x138.toNat (Ty.dflt Y40)).2.2.2.1, ((x136.getD x138.toNat (Ty.dflt Y40)).2.2.2.2.1, ((x136.getD x138.toNat (Ty.dflt Y40)).2.2.2.2.2.1, (x136.getD x138.toNat (Ty.dflt Y40)).2.2.2.2.2.2))))))).getD x138.toNat (Ty.dflt Y40)).2.2.2.2.2.2))))))) .dp]⟩ (an g191 (pu 1 (an g192 (tn 0)))) ?_
        rw [show ((x136.set x138.toNat (x137, ((x136.getD x138.toNat (Ty.dflt Y40)).2.1, ((x136.getD x138.toNat (Ty.dflt Y40)).2.2.1, ((x136.getD x138.toNat (Ty.dflt Y40)).2.2.2.1, ((x136.getD x138.toNat (Ty.dflt Y40)).2.2.2.2.1, ((x136.getD x138.toNat (Ty.dflt Y40)).2.2.2.2.2.1, (x136.getD x138.toNat (Ty.dflt Y40)).2.2.2.2.2.2))))))).set x138.toNat (((x136.set x138.toNat (x137, ((x136.getD x138.toNat (Ty.dflt Y40)).2.1, ((x136.getD x138.toNat (Ty.dflt Y40)).2.2.1, ((x136.getD x138.toNat (Ty.dflt Y40)).2.2.2.1, ((x136.getD x138.toNat (Ty.dflt Y40)).2.2.2.2.1, ((x136.getD x138.toNat (Ty.dflt Y40)).2.2.2.2.2.1, (x136.getD x138.toNat (Ty.dflt Y40)).2.2.2.2.2.2))))))).getD x138.toNat (Ty.dflt Y40)).1, (y190, (((x136.set x138.toNat (x137, ((x136.getD x138.toNat (Ty.dflt Y40)).2.1, ((x136.getD x138.toNat (Ty.dflt Y40)).2.2.1, ((x136.getD x138.toNat (Ty.dflt Y40)).2.2.2.1, ((x136.getD x138.toNat (Ty.dflt Y40)).2.2.2.2.1, ((x136.getD x138.toNat (Ty.dflt Y40)).2.2.2.2.2.1, (x136.getD x138.toNat (Ty.dflt Y40)).2.2.2.2.2.2))))))).getD x138.toNat (Ty.dflt Y40)).2.2.1, (((x136.set x138.toNat (x137, ((x136.getD x138.toNat (Ty.dflt Y40)).2.1, ((x136.getD x138.toNat (Ty.dflt Y40)).2.2.1, ((x136.getD x138.toNat (Ty.dflt Y40)).2.2.2.1, ((x136.getD x138.toNat (Ty.dflt Y40)).2.2.2.2.1, ((x136.getD x138.toNat (Ty.dflt Y40)).2.2.2.2.2.1, (x136.getD x138.toNat (Ty.dflt Y40)).2.2.2.2.2.2))))))).getD x138.toNat (Ty.dflt Y40)).2.2.2.1, (((x136.set x138.toNat (x137, ((x136.getD x138.toNat (Ty.dflt Y40)).2.1, ((x136.getD x138.toNat (Ty.dflt Y40)).2.2.1, ((x136.getD x138.toNat (Ty.dflt Y40)).2.2.2.1, ((x136.getD x138.toNat (Ty.dflt Y40)).2.2.2.2.1, ((x136.getD x138.toNat (Ty.dflt Y40)).2.2.2.2.2.1, (x136.getD x138.toNat (Ty.dflt Y40)).2.2.2.2.2.2))))))).getD x138.toNat (Ty.dflt Y40)).2.2.2.2.1, (((x136.set x138.toNat (x137, ((x136.getD x138.toNat (Ty.dflt Y40)).2.1, ((x136.getD x138.toNat (Ty.dflt Y40)).2.2.1, ((x136.getD x138.toNat (Ty.dflt Y40)).2.2.2.1, ((x136.getD x138.toNat (Ty.dflt Y40)).2.2.2.2.1, ((x136.getD x138.toNat (Ty.dflt Y40)).2.2.2.2.2.1, (x136.getD x138.toNat (Ty.dflt Y40)).2.2.2.2.2.2))))))).getD x138.toNat (Ty.dflt Y40)).2.2.2.2.2.1, ((x136.set x138.toNat (x137, ((x136.getD x138.toNat (Ty.dflt Y40)).2.1, ((x136.getD x138.toNat (Ty.dflt Y40)).2.2.1, ((x136.getD x138.toNat (Ty.dflt Y40)).2.2.2.1, ((x136.getD x138.toNat (Ty.dflt Y40)).2.2.2.2.1, ((x136.getD x138.toNat (Ty.dflt Y40)).2.2.2.2.2.1, (x136.getD x138.toNat (Ty.dflt Y40)).2.2.2.2.2.2))))))).getD x138.toNat (Ty.dflt Y40)).2.2.2.2.2.2))))))) = (x136.set x138.toNat (x137, (y190, ((x136.getD x138.toNat (Ty.dflt Y40)).2.2.1, ((x136.getD x138.toNat (Ty.dflt Y40)).2.2.2.1, ((x136.getD x138.toNat (Ty.dflt Y40)).2.2.2.2.1, ((x136.getD x138.toNat (Ty.dflt Y40)).2.2.2.2.2.1, (x136.getD x138.toNat (Ty.dflt Y40)).2.2.2.2.2.2))))))) from set_upd x136 x138.toNat (x137, ((x136.getD x138.toNat (Ty.dflt Y40)).2.1, ((x136.getD x138.toNat (Ty.dflt Y40)).2.2.1, ((x136.getD x138.toNat (Ty.dflt Y40)).2.2.2.1, ((x136.getD x138.toNat (Ty.dflt Y40)).2.2.2.2.1, ((x136.getD x138.toNat (Ty.dflt Y40)).2.2.2.2.2.1, (x136.getD x138.toNat (Ty.dflt Y40)).2.2.2.2.2.2)))))) (Ty.dflt Y40) (fun z => (z.1, (y190, (z.2.2.1, (z.2.2.2.1, (z.2.2.2.2.1, (z.2.2.2.2.2.1, z.2.2.2.2.2.2))))))) (by simpa using g192)]
        refine sN T_ok [0, 1, 5, 65536] [0] ⟨[(0, .lf (.hd 0 0 none)), (1, I (IntKind.i64.wrap (x137 + (1 : Int)))), (5, I x138), (65536, .lf (.hd 0 0 none))], [ar 0 Y40 (x136.set x138.toNat (x137, (y190, ((x136.getD x138.toNat (Ty.dflt Y40)).2.2.1, ((x136.getD x138.toNat (Ty.dflt Y40)).2.2.2.1, ((x136.getD x138.toNat (Ty.dflt Y40)).2.2.2.2.1, ((x136.getD x138.toNat (Ty.dflt Y40)).2.2.2.2.2.1, (x136.getD x138.toNat (Ty.dflt Y40)).2.2.2.2.2.2))))))) .dp]⟩ (tn 0) ?_
        refine sR T_ok [0, 1, 5, 65536] [0] ⟨[(0, .lf (.hd 0 0 none)), (1, I (IntKind.i64.wrap ((IntKind.i64.wrap (x137 + (1 : Int))) + (1 : Int)))), (5, I x138), (65536, .lf (.hd 0 0 none))], [ar 0 Y40 (x136.set x138.toNat (x137, (y190, ((x136.getD x138.toNat (Ty.dflt Y40)).2.2.1, ((x136.getD x138.toNat (Ty.dflt Y40)).2.2.2.1, ((x136.getD x138.toNat (Ty.dflt Y40)).2.2.2.2.1, ((x136.getD x138.toNat (Ty.dflt Y40)).2.2.2.2.2.1, (x136.getD x138.toNat (Ty.dflt Y40)).2.2.2.2.2.2))))))) .dp]⟩ (tn 3) ?_
        refine VW.seq ?_
        refine VW.region ?_
        obtain ⟨g193, h⟩ := gd_some h
        obtain ⟨g194, h⟩ := gd_some h
        refine sG T_ok 6 [0, 1, 5, 65536] [0] ⟨[(0, .lf (.hd 0 0 none)), (1, I (IntKind.i64.wrap ((IntKind.i64.wrap (x137 + (1 : Int))) + (1 : Int)))), (5, I x138), (65536, .lf (.hd 0 0 none))], [ar 0 Y40 ((x136.set x138.toNat (x137, (y190, ((x136.getD x138.toNat (Ty.dflt Y40)).2.2.1, ((x136.getD x138.toNat (Ty.dflt Y40)).2.2.2.1, ((x136.getD x138.toNat (Ty.dflt Y40)).2.2.2.2.1, ((x136.getD x138.toNat (Ty.dflt Y40)).2.2.2.2.2.1, (x136.getD x138.toNat (Ty.dflt Y40)).2.2.2.2.2.2))))))).set x138.toNat (((x136.set x138.toNat (x137, (y190, ((x136.getD x138.toNat (Ty.dflt Y40)).2.2.1, ((x136.getD x138.toNat (Ty.dflt Y40)).2.2.2.1, ((x136.getD x138.toNat (Ty.dflt Y40)).2.2.2.2.1, ((x136.getD x138.toNat (Ty.dflt Y40)).2.2.2.2.2.1, (x136.getD x138.toNat (Ty.dflt Y40)).2.2.2.2.2.2))))))).getD x138.toNat (Ty.dflt Y40)).1, (((x136.set x138.toNat (x137, (y190, ((x136.getD x138.toNat (Ty.dflt Y40)).2.2.1, ((x136.getD x138.toNat (Ty.dflt Y40)).2.2.2.1, ((x136.getD x138.toNat (Ty.dflt Y40)).2.2.2.2.1, ((x136.getD x138.toNat (Ty.dflt Y40)).2.2.2.2.2.1, (x136.getD x138.toNat (Ty.dflt Y40)).2.2.2.2.2.2))))))).getD x138.toNat (Ty.dflt Y40)).2.1, ((IntKind.i64.wrap ((IntKind.i64.wrap (x137 + (1 : Int))) + (1 : Int))), (((x136.set x138.toNat (x137, (y190, ((x136.getD x138.toNat (Ty.dflt Y40)).2.2.1, ((x136.getD x138.toNat (Ty.dflt Y40)).2.2.2.1, ((x136.getD x138.toNat (Ty.dflt Y40)).2.2.2.2.1, ((x136.getD x138.toNat (Ty.dflt Y40)).2.2.2.2.2.1, (x136.getD x138.toNat (Ty.dflt Y40)).2.2.2.2.2.2))))))).getD x138.toNat (Ty.dflt Y40)).2.2.2.1, (((x136.set x138.toNat (x137, (y190, ((x136.getD x138.toNat (Ty.dflt Y40)).2.2.1, ((x136.getD x138.toNat (Ty.dflt Y40)).2.2.2.1, ((x136.getD x138.toNat (Ty.dflt Y40)).2.2.2.2.1, ((x136.getD x138.toNat (Ty.dflt Y40)).2.2.2.2.2.1, (x136.getD x138.toNat (Ty.dflt Y40)).2.2.2.2.2.2))))))).getD x138.toNat (Ty.dflt Y40)).2.2.2.2.1, (((x136.set x138.toNat (x137, (y190, ((x136.getD x138.toNat (Ty.dflt Y40)).2.2.1, ((x136.getD x138.toNat (Ty.dflt Y40)).2.2.2.1, ((x136.getD x138.toNat (Ty.dflt Y40)).2.2.2.2.1, ((x136.getD x138.toNat (Ty.dflt Y40)).2.2.2.2.2.1, (x136.getD x138.toNat (Ty.dflt Y40)).2.2.2.2.2.2))))))).getD x138.toNat (Ty.dflt Y40)).2.2.2.2.2.1, ((x136.set x138.toNat (x137, (y190, ((x136.getD x138.toNat (Ty.dflt Y40)).2.2.1, ((x136.getD x138.toNat (Ty.dflt Y40)).2.2.2.1, ((x136.getD x138.toNat (Ty.dflt Y40)).2.2.2.2.1, ((x136.getD x138.toNat (Ty.dflt Y40)).2.2.2.2.2.1, (x136.getD x138.toNat (Ty.dflt Y40)).2.2.2.2.2.2))))))).getD x138.toNat (Ty.dflt Y40)).2.2.2.2.2.2))))))) .dp]⟩ (pu 3 (an g193 (pu 1 (an g194 (tn 0))))) ?_
        rw [show ((x136.set x138.toNat (x137, (y190, ((x136.getD x138.toNat (Ty.dflt Y40)).2.2.1, ((x136.getD x138.toNat (Ty.dflt Y40)).2.2.2.1, ((x136.getD x138.toNat (Ty.dflt Y40)).2.2.2.2.1, ((x136.getD x138.toNat (Ty.dflt Y40)).2.2.2.2.2.1, (x136.getD x138.toNat (Ty.dflt Y40)).2.2.2.2.2.2))))))).set x138.toNat (((x136.set x138.toNat (x137, (y190, ((x136.getD x138.toNat (Ty.dflt Y40)).2.2.1, ((x136.getD x138.toNat (Ty.dflt Y40)).2.2.2.1, ((x136.getD x138.toNat (Ty.dflt Y40)).2.2.2.2.1, ((x136.getD x138.toNat (Ty.dflt Y40)).2.2.2.2.2.1, (x136.getD x138.toNat (Ty.dflt Y40)).2.2.2.2.2.2))))))).getD x138.toNat (Ty.dflt Y40)).1, (((x136.set x138.toNat (x137, (y190, ((x136.getD x138.toNat (Ty.dflt Y40)).2.2.1, ((x136.getD x138.toNat (Ty.dflt Y40)).2.2.2.1, ((x136.getD x138.toNat (Ty.dflt Y40)).2.2.2.2.1, ((x136.getD x138.toNat (Ty.dflt Y40)).2.2.2.2.2.1, (x136.getD x138.toNat (Ty.dflt Y40)).2.2.2.2.2.2))))))).getD x138.toNat (Ty.dflt Y40)).2.1, ((IntKind.i64.wrap ((IntKind.i64.wrap (x137 + (1 : Int))) + (1 : Int))), (((x136.set x138.toNat (x137, (y190, ((x136.getD x138.toNat (Ty.dflt Y40)).2.2.1, ((x136.getD x138.toNat (Ty.dflt Y40)).2.2.2.1, ((x136.getD x138.toNat (Ty.dflt Y40)).2.2.2.2.1, ((x136.getD x138.toNat (Ty.dflt Y40)).2.2.2.2.2.1, (x136.getD x138.toNat (Ty.dflt Y40)).2.2.2.2.2.2))))))).getD x138.toNat (Ty.dflt Y40)).2.2.2.1, (((x136.set x138.toNat (x137, (y190, ((x136.getD x138.toNat (Ty.dflt Y40)).2.2.1, ((x136.getD x138.toNat (Ty.dflt Y40)).2.2.2.1, ((x136.getD x138.toNat (Ty.dflt Y40)).2.2.2.2.1, ((x136.getD x138.toNat (Ty.dflt Y40)).2.2.2.2.2.1, (x136.getD x138.toNat (Ty.dflt Y40)).2.2.2.2.2.2))))))).getD x138.toNat (Ty.dflt Y40)).2.2.2.2.1, (((x136.set x138.toNat (x137, (y190, ((x136.getD x138.toNat (Ty.dflt Y40)).2.2.1, ((x136.getD x138.toNat (Ty.dflt Y40)).2.2.2.1, ((x136.getD x138.toNat (Ty.dflt Y40)).2.2.2.2.1, ((x136.getD x138.toNat (Ty.dflt Y40)).2.2.2.2.2.1, (x136.getD x138.toNat (Ty.dflt Y40)).2.2.2.2.2.2))))))).getD x138.toNat (Ty.dflt Y40)).2.2.2.2.2.1, ((x136.set x138.toNat (x137, (y190, ((x136.getD x138.toNat (Ty.dflt Y40)).2.2.1, ((x136.getD x138.toNat (Ty.dflt Y40)).2.2.2.1, ((x136.getD x138.toNat (Ty.dflt Y40)).2.2.2.2.1, ((x136.getD x138.toNat (Ty.dflt Y40)).2.2.2.2.2.1, (x136.getD x138.toNat (Ty.dflt Y40)).2.2.2.2.2.2))))))).getD x138.toNat (Ty.dflt Y40)).2.2.2.2.2.2))))))) = (x136.set x138.toNat (x137, (y190, ((IntKind.i64.wrap ((IntKind.i64.wrap (x137 + (1 : Int))) + (1 : Int))), ((x136.getD x138.toNat (Ty.dflt Y40)).2.2.2.1, ((x136.getD x138.toNat (Ty.dflt Y40)).2.2.2.2.1, ((x136.getD x138.toNat (Ty.dflt Y40)).2.2.2.2.2.1, (x136.getD x138.toNat (Ty.dflt Y40)).2.2.2.2.2.2))))))) from set_upd x136 x138.toNat (x137, (y190, ((x136.getD x138.toNat (Ty.dflt Y40)).2.2.1, ((x136.getD x138.toNat (Ty.dflt Y40)).2.2.2.1, ((x136.getD x138.toNat (Ty.dflt Y40)).2.2.2.2.1, ((x136.getD x138.toNat (Ty.dflt Y40)).2.2.2.2.2.1, (x136.getD x138.toNat (Ty.dflt Y40)).2.2.2.2.2.2)))))) (Ty.dflt Y40) (fun z => (z.1, (z.2.1, ((IntKind.i64.wrap ((IntKind.i64.wrap (x137 + (1 : Int))) + (1 : Int))), (z.2.2.2.1, (z.2.2.2.2.1, (z.2.2.2.2.2.1, z.2.2.2.2.2.2))))))) (by simpa using g194)]
        refine sN T_ok [0, 1, 5, 65536] [0] ⟨[(0, .lf (.hd 0 0 none)), (1, I (IntKind.i64.wrap ((IntKind.i64.wrap (x137 + (1 : Int))) + (1 : Int)))), (5, I x138), (65536, .lf (.hd 0 0 none))], [ar 0 Y40 (x136.set x138.toNat (x137, (y190, ((IntKind.i64.wrap ((IntKind.i64.wrap (x137 + (1 : Int))) + (1 : Int))), ((x136.getD x138.toNat (Ty.dflt Y40)).2.2.2.1, ((x136.getD x138.toNat (Ty.dflt Y40)).2.2.2.2.1, ((x136.getD x138.toNat (Ty.dflt Y40)).2.2.2.2.2.1, (x136.getD x138.toNat (Ty.dflt Y40)).2.2.2.2.2.2))))))) .dp]⟩ (tn 0) ?_
        refine sR T_ok [0, 1, 5, 65536] [0] ⟨[(0, .lf (.hd 0 0 none)), (1, I (IntKind.i64.wrap ((IntKind.i64.wrap ((IntKind.i64.wrap (x137 + (1 : Int))) + (1 : Int))) + (1 : Int)))), (5, I x138), (65536, .lf (.hd 0 0 none))], [ar 0 Y40 (x136.set x138.toNat (x137, (y190, ((IntKind.i64.wrap ((IntKind.i64.wrap (x137 + (1 : Int))) + (1 : Int))), ((x136.getD x138.toNat (Ty.dflt Y40)).2.2.2.1, ((x136.getD x138.toNat (Ty.dflt Y40)).2.2.2.2.1, ((x136.getD x138.toNat (Ty.dflt Y40)).2.2.2.2.2.1, (x136.getD x138.toNat (Ty.dflt Y40)).2.2.2.2.2.2))))))) .dp]⟩ (tn 3) ?_
        refine VW.seq ?_
        refine VW.region ?_
        obtain ⟨g195, h⟩ := gd_some h
        obtain ⟨g196, h⟩ := gd_some h
        refine sG T_ok 6 [0, 1, 5, 65536] [0] ⟨[(0, .lf (.hd 0 0 none)), (1, I (IntKind.i64.wrap ((IntKind.i64.wrap ((IntKind.i64.wrap (x137 + (1 : Int))) + (1 : Int))) + (1 : Int)))), (5, I x138), (65536, .lf (.hd 0 0 none))], [ar 0 Y40 ((x136.set x138.toNat (x137, (y190, ((IntKind.i64.wrap ((IntKind.i64.wrap (x137 + (1 : Int))) + (1 : Int))), ((x136.getD x138.toNat (Ty.dflt Y40)).2.2.2.1, ((x136.getD x138.toNat (Ty.dflt Y40)).2.2.2.2.1, ((x136.getD x138.toNat (Ty.dflt Y40)).2.2.2.2.2.1, (x136.getD x138.toNat (Ty.dflt Y40)).2.2.2.2.2.2))))))).set x138.toNat (((x136.set x138.toNat (x137, (y190, ((IntKind.i64.wrap ((IntKind.i64.wrap (x137 + (1 : Int))) + (1 : Int))), ((x136.getD x138.toNat (Ty.dflt Y40)).2.2.2.1, ((x136.getD x138.toNat (Ty.dflt Y40)).2.2.2.2.1, ((x136.getD x138.toNat (Ty.dflt Y40)).2.2.2.2.2.1, (x136.getD x138.toNat (Ty.dflt Y40)).2.2.2.2.2.2))))))).getD x138.toNat (Ty.dflt Y40)).1, (((x136.set x138.toNat (x137, (y190, ((IntKind.i64.wrap ((IntKind.i64.wrap (x137 + (1 : Int))) + (1 : Int))), ((x136.getD x138.toNat (Ty.dflt Y40)).2.2.2.1, ((x136.getD x138.toNat (Ty.dflt Y40)).2.2.2.2.1, ((x136.getD x138.toNat (Ty.dflt Y40)).2.2.2.2.2.1, (x136.getD x138.toNat (Ty.dflt Y40)).2.2.2.2.2.2))))))).getD x138.toNat (Ty.dflt Y40)).2.1, (((x136.set x138.toNat (x137, (y190, ((IntKind.i64.wrap ((IntKind.i64.wrap (x137 + (1 : Int))) + (1 : Int))), ((x136.getD x138.toNat (Ty.dflt Y40)).2.2.2.1, ((x136.getD x138.toNat (Ty.dflt Y40)).2.2.2.2.1, ((x136.getD x138.toNat (Ty.dflt Y40)).2.2.2.2.2.1, (x136.getD x138.toNat (Ty.dflt Y40)).2.2.2.2.2.2))))))).getD x138.toNat (Ty.dflt Y40)).2.2.1, ((IntKind.i64.wrap ((IntKind.i64.wrap ((IntKind.i64.wrap (x137 + (1 : Int))) + (1 : Int))) + (1 : Int))), (((x136.set x138.toNat (x137, (y190, ((IntKind.i64.wrap ((IntKind.i64.wrap (x137 + (1 : Int))) + (1 : Int))), ((x136.getD x138.toNat (Ty.dflt Y40)).2.2.2.1, ((x136.getD x138.toNat (Ty.dflt Y40)).2.2.2.2.1, ((x136.getD x138.toNat (Ty.dflt Y40)).2.2.2.2.2.1, (x136.getD x138.toNat (Ty.dflt Y40)).2.2.2.2.2.2))))))).getD x138.toNat (Ty.dflt Y40)).2.2.2.2.1, (((x136.set x138.toNat (x137, (y190, ((IntKind.i64.wrap ((IntKind.i64.wrap (x137 + (1 : Int))) + (1 : Int))), ((x136.getD x138.toNat (Ty.dflt Y40)).2.2.2.1, ((x136.getD x138.toNat (Ty.dflt Y40)).2.2.2.2.1, ((x136.getD x138.toNat (Ty.dflt Y40)).2.2.2.2.2.1, (x136.getD x138.toNat (Ty.dflt Y40)).2.2.2.2.2.2))))))).getD x138.toNat (Ty.dflt Y40)).2.2.2.2.2.1, ((x136.set x138.toNat (x137, (y190, ((IntKind.i64.wrap ((IntKind.i64.wrap (x137 + (1 : Int))) + (1 : Int))), ((x136.getD x138.toNat (Ty.dflt Y40)).2.2.2.1, ((x136.getD x138.toNat (Ty.dflt Y40)).2.2.2.2.1, ((x136.getD x138.toNat (Ty.dflt Y40)).2.2.2.2.2.1, (x136.getD x138.toNat (Ty.dflt Y40)).2.2.2.2.2.2))))))).getD x138.toNat (Ty.dflt Y40)).2.2.2.2.2.2))))))) .dp]⟩ (pu 3 (an g195 (pu 1 (an g196 (tn 0))))) ?_
        rw [show ((x136.set x138.toNat (x137, (y190, ((IntKind.i64.wrap ((IntKind.i64.wrap (x137 + (1 : Int))) + (1 : Int))), ((x136.getD x138.toNat (Ty.dflt Y40)).2.2.2.1, ((x136.getD x138.toNat (Ty.dflt Y40)).2.2.2.2.1, ((x136.getD x138.toNat (Ty.dflt Y40)).2.2.2.2.2.1, (x136.getD x138.toNat (Ty.dflt Y40)).2.2.2.2.2.2))))))).set x138.toNat (((x136.set x138.toNat (x137, (y190, ((IntKind.i64.wrap ((IntKind.i64.wrap (x137 + (1 : Int))) + (1 : Int))), ((x136.getD x138.toNat (Ty.dflt Y40)).2.2.2.1, ((x136.getD x138.toNat (Ty.dflt Y40)).2.2.2.2.1, ((x136.getD x138.toNat (Ty.dflt Y40)).2.2.2.2.2.1, (x136.getD x138.toNat (Ty.dflt Y40)).2.2.2.2.2.2))))))).getD x138.toNat (Ty.dflt Y40)).1, (((x136.set x138.toNat (x137, (y190, ((IntKind.i64.wrap ((IntKind.i64.wrap (x137 + (1 : Int))) + (1 : Int))), ((x136.getD x138.toNat (Ty.dflt Y40)).2.2.2.1, ((x136.getD x138.toNat (Ty.dflt Y40)).2.2.2.2.1, ((x136.getD x138.toNat (Ty.dflt Y40)).2.2.2.2.2.1, (x136.getD x138.toNat (Ty.dflt Y40)).2.2.2.2.2.2))))))).getD x138.toNat (Ty.dflt Y40)).2.1, (((x136.set x138.toNat (x137, (y190, ((IntKind.i64.wrap ((IntKind.i64.wrap (x137 + (1 : Int))) + (1 : Int))), ((x136.getD x138.toNat (Ty.dflt Y40)).2.2.2.1, ((x136.getD x138.toNat (Ty.dflt Y40)).2.2.2.2.1, ((x136.getD x138.toNat (Ty.dflt Y40)).2.2.2.2.2.1, (x136.getD x138.toNat (Ty.dflt Y40)).2.2.2.2.2.2))))))).getD x138.toNat (Ty.dflt Y40)).2.2.1, ((IntKind.i64.wrap ((IntKind.i64.wrap ((IntKind.i64.wrap (x137 + (1 : Int))) + (1 : Int))) + (1 : Int))), (((x136.set x138.toNat (x137, (y190, ((IntKind.i64.wrap ((IntKind.i64.wrap (x137 + (1 : Int))) + (1 : Int))), ((x136.getD x138.toNat (Ty.dflt Y40)).2.2.2.1, ((x136.getD x138.toNat (Ty.dflt Y40)).2.2.2.2.1, ((x136.getD x138.toNat (Ty.dflt Y40)).2.2.2.2.2.1, (x136.getD x138.toNat (Ty.dflt Y40)).2.2.2.2.2.2))))))).getD x138.toNat (Ty.dflt Y40)).2.2.2.2.1, (((x136.set x138.toNat (x137, (y190, ((IntKind.i64.wrap ((IntKind.i64.wrap (x137 + (1 : Int))) + (1 : Int))), ((x136.getD x138.toNat (Ty.dflt Y40)).2.2.2.1, ((x136.getD x138.toNat (Ty.dflt Y40)).2.2.2.2.1, ((x136.getD x138.toNat (Ty.dflt Y40)).2.2.2.2.2.1, (x136.getD x138.toNat (Ty.dflt Y40)).2.2.2.2.2.2))))))).getD x138.toNat (Ty.dflt Y40)).2.2.2.2.2.1, ((x136.set x138.toNat (x137, (y190, ((IntKind.i64.wrap ((IntKind.i64.wrap (x137 + (1 : Int))) + (1 : Int))), ((x136.getD x138.toNat (Ty.dflt Y40)).2.2.2.1, ((x136.getD x138.toNat (Ty.dflt Y40)).2.2.2.2.1, ((x136.getD x138.toNat (Ty.dflt Y40)).2.2.2.2.2.1, (x136.getD x138.toNat (Ty.dflt Y40)).2.2.2.2.2.2))))))).getD x138.toNat (Ty.dflt Y40)).2.2.2.2.2.2))))))) = (x136.set x138.toNat (x137, (y190, ((IntKind.i64.wrap ((IntKind.i64.wrap (x137 + (1 : Int))) + (1 : Int))), ((IntKind.i64.wrap ((IntKind.i64.wrap ((IntKind.i64.wrap (x137 + (1 : Int))) + (1 : Int))) + (1 : Int))), ((x136.getD x138.toNat (Ty.dflt Y40)).2.2.2.2.1, ((x136.getD x138.toNat (Ty.dflt Y40)).2.2.2.2.2.1, (x136.getD x138.toNat (Ty.dflt Y40)).2.2.2.2.2.2))))))) from set_upd x136 x138.toNat (x137, (y190, ((IntKind.i64.wrap ((IntKind.i64.wrap (x137 + (1 : Int))) + (1 : Int))), ((x136.getD x138.toNat (Ty.dflt Y40)).2.2.2.1, ((x136.getD x138.toNat (Ty.dflt Y40)).2.2.2.2.1, ((x136.getD x138.toNat (Ty.dflt Y40)).2.2.2.2.2.1, (x136.getD x138.toNat (Ty.dflt Y40)).2.2.2.2.2.2)))))) (Ty.dflt Y40) (fun z => (z.1, (z.2.1, (z.2.2.1, ((IntKind.i64.wrap ((IntKind.i64.wrap ((IntKind.i64.wrap (x137 + (1 : Int))) + (1 : Int))) + (1 : Int))), (z.2.2.2.2.1, (z.2.2.2.2.2.1, z.2.2.2.2.2.2))))))) (by simpa using g196)]
        refine sN T_ok [0, 1, 5, 65536] [0] ⟨[(0, .lf (.hd 0 0 none)), (1, I (IntKind.i64.wrap ((IntKind.i64.wrap ((IntKind.i64.wrap (x137 + (1 : Int))) + (1 : Int))) + (1 : Int)))), (5, I x138), (65536, .lf (.hd 0 0 none))], [ar 0 Y40 (x136.set x138.toNat (x137, (y190, ((IntKind.i64.wrap ((IntKind.i64.wrap (x137 + (1 : Int))) + (1 : Int))), ((IntKind.i64.wrap ((IntKind.i64.wrap ((IntKind.i64.wrap (x137 + (1 : Int))) + (1 : Int))) + (1 : Int))), ((x136.getD x138.toNat (Ty.dflt Y40)).2.2.2.2.1, ((x136.getD x138.toNat (Ty.dflt Y40)).2.2.2.2.2.1, (x136.getD x138.toNat (Ty.dflt Y40)).2.2.2.2.2.2))))))) .dp]⟩ (tn 0) ?_
        refine sR T_ok [0, 1, 5, 65536] [0] ⟨[(0, .lf (.hd 0 0 none)), (1, I (IntKind.i64.wrap ((IntKind.i64.wrap ((IntKind.i64.wrap ((IntKind.i64.wrap (x137 + (1 : Int))) + (1 : Int))) + (1 : Int))) + (1 : Int)))), (5, I x138), (65536, .lf (.hd 0 0 none))], [ar 0 Y40 (x136.set x138.toNat (x137, (y190, ((IntKind.i64.wrap ((IntKind.i64.wrap (x137 + (1 : Int))) + (1 : Int))), ((IntKind.i64.wrap ((IntKind.i64.wrap ((IntKind.i64.wrap (x137 + (1 : Int))) + (1 : Int))) + (1 : Int))), ((x136.getD x138.toNat (Ty.dflt Y40)).2.2.2.2.1, ((x136.getD x138.toNat (Ty.dflt Y40)).2.2.2.2.2.1, (x136.getD x138.toNat (Ty.dflt Y40)).2.2.2.2.2.2))))))) .dp]⟩ (tn 3) ?_
        refine VW.seq ?_
        refine VW.region ?_
        obtain ⟨g197, h⟩ := gd_some h
        obtain ⟨g198, h⟩ := gd_some h
        refine sG T_ok 6 [0, 1, 5, 65536] [0] ⟨[(0, .lf (.hd 0 0 none)), (1, I (IntKind.i64.wrap ((IntKind.i64.wrap ((IntKind.i64.wrap ((IntKind.i64.wrap (x137 + (1 : Int))) + (1 : Int))) + (1 : Int))) + (1 : Int)))), (5, I x138), (65536, .lf (.hd 0 0 none))], [ar 0 Y40 ((x136.set x138.toNat (x137, (y190, ((IntKind.i64.wrap ((IntKind.i64.wrap (x137 + (1 : Int))) + (1 : Int))), ((IntKind.i64.wrap ((IntKind.i64.wrap ((IntKind.i64.wrap (x137 + (1 : Int))) + (1 : Int))) + (1 : Int))), ((x136.getD x138.toNat (Ty.dflt Y40)).2.2.2.2.1, ((x136.getD x138.toNat (Ty.dflt Y40)).2.2.2.2.2.1, (x136.getD x138.toNat (Ty.dflt Y40)).2.2.2.2.2.2))))))).set x138.toNat (((x136.set x138.toNat (x137, (y190, ((IntKind.i64.wrap ((IntKind.i64.wrap (x137 + (1 : Int))) + (1 : Int))), ((IntKind.i64.wrap ((IntKind.i64.wrap ((IntKind.i64.wrap (x137 + (1 : Int))) + (1 : Int))) + (1 : Int))), ((x136.getD x138.toNat (Ty.dflt Y40)).2.2.2.2.1, ((x136.getD x138.toNat (Ty.dflt Y40)).2.2.2.2.2.1, (x136.getD x138.toNat (Ty.dflt Y40)).2.2.2.2.2.2))))))).getD x138.toNat (Ty.dflt Y40)).1, (((x136.set x138.toNat (x137, (y190, ((IntKind.i64.wrap ((IntKind.i64.wrap (x137 + (1 : Int))) + (1 : Int))), ((IntKind.i64.wrap ((IntKind.i64.wrap ((IntKind.i64.wrap (x137 + (1 : Int))) + (1 : Int))) + (1 : Int))), ((x136.getD x138.toNat (Ty.dflt Y40)).2.2.2.2.1, ((x136.getD x138.toNat (Ty.dflt Y40)).2.2.2.2.2.1, (x136.getD x138.toNat (Ty.dflt Y40)).2.2.2.2.2.2))))))).getD x138.toNat (Ty.dflt Y40)).2.1, (((x136.set x138.toNat (x137, (y190, ((IntKind.i64.wrap ((IntKind.i64.wrap (x137 + (1 : Int))) + (1 : Int))), ((IntKind.i64.wrap ((IntKind.i64.wrap ((IntKind.i64.wrap (x137 + (1 : Int))) + (1 : Int))) + (1 : Int))), ((x136.getD x138.toNat (Ty.dflt Y40)).2.2.2.2.1, ((x136.getD x138.toNat (Ty.dflt Y40)).2.2.2.2.2.1, (x136.getD x138.toNat (Ty.dflt Y40)).2.2.2.2.2.2))))))).getD x138.toNat (Ty.dflt Y40)).2.2.1, (((x136.set x138.toNat (x137, (y190, ((IntKind.i64.wrap ((IntKind.i64.wrap (x137 + (1 : Int))) + (1 : Int))), ((IntKind.i64.wrap ((IntKind.i64.wrap ((IntKind.i64.wrap (x137 + (1 : Int))) + (1 : Int))) + (1 : Int))), ((x136.getD x138.toNat (Ty.dflt Y40)).2.2.2.2.1, ((x136.getD x138.toNat (Ty.dflt Y40)).2.2.2.2.2.1, (x136.getD x138.toNat (Ty.dflt Y40)).2.2.2.2.2.2))))))).getD x138.toNat (Ty.dflt Y40)).2.2.2.1, ((IntKind.i64.wrap ((IntKind.i64.wrap ((IntKind.i64.wrap ((IntKind.i64.wrap (x137 + (1 : Int))) + (1 : Int))) + (1 : Int))) + (1 : Int))), (((x136.set x138.toNat (x137, (y190, ((IntKind.i64.wrap ((IntKind.i64.wrap (x137 + (1 : Int))) + (1 : Int))), ((IntKind.i64.wrap ((IntKind.i64.wrap ((IntKind.i64.wrap (x137 + (1 : Int))) + (1 : Int))) + (1 : Int))), ((x136.getD x138.toNat (Ty.dflt Y40)).2.2.2.2.1, ((x136.getD x138.toNat (Ty.dflt Y40)).2.2.2.2.2.1, (x136.getD x138.toNat (Ty.dflt Y40)).2.2.2.2.2.2))))))).getD x138.toNat (Ty.dflt Y40)).2.2.2.2.2.1, ((x136.set x138.toNat (x137, (y190, ((IntKind.i64.wrap ((IntKind.i64.wrap (x137 + (1 : Int))) + (1 : Int))), ((IntKind.i64.wrap ((IntKind.i64.wrap ((IntKind.i64.wrap (x137 + (1 : Int))) + (1 : Int))) + (1 : Int))), ((x136.getD x138.toNat (Ty.dflt Y40)).2.2.2.2.1, ((x136.getD x138.toNat (Ty.dflt Y40)).2.2.2.2.2.1, (x136.getD x138.toNat (Ty.dflt Y40)).2.2.2.2.2.2))))))).getD x138.toNat (Ty.dflt Y40)).2.2.2.2.2.2))))))) .dp]⟩ (pu 3 (an g197 (pu 1 (an g198 (tn 0))))) ?_
        rw [show ((x136.set x138.toNat (x137, (y190, ((IntKind.i64.wrap ((IntKind.i64.wrap (x137 + (1 : Int))) + (1 : Int))), ((IntKind.i64.wrap ((IntKind.i64.wrap ((IntKind.i64.wrap (x137 + (1 : Int))) + (1 : Int))) + (1 : Int))), ((x136.getD x138.toNat (Ty.dflt Y40)).2.2.2.2.1, ((x136.getD x138.toNat (Ty.dflt Y40)).2.2.2.2.2.1, (x136.getD x138.toNat (Ty.dflt Y40)).2.2.2.2.2.2))))))).set x138.toNat (((x136.set x138.toNat (x137, (y190, ((IntKind.i64.wrap ((IntKind.i64.wrap (x137 + (1 : Int))) + (1 : Int))), ((IntKind.i64.wrap ((IntKind.i64.wrap ((IntKind.i64.wrap (x137 + (1 : Int))) + (1 : Int))) + (1 : Int))), ((x136.getD x138.toNat (Ty.dflt Y40)).2.2.2.2.1, ((x136.getD x138.toNat (Ty.dflt Y40)).2.2.2.2.2.1, (x136.getD x138.toNat (Ty.dflt Y40)).2.2.2.2.2.2))))))).getD x138.toNat (Ty.dflt Y40)).1, (((x136.set x138.toNat (x137, (y190, ((IntKind.i64.wrap ((IntKind.i64.wrap (x137 + (1 : Int))) + (1 : Int))), ((IntKind.i64.wrap ((IntKind.i64.wrap ((IntKind.i64.wrap (x137 + (1 : Int))) + (1 : Int))) + (1 : Int))), ((x136.getD x138.toNat (Ty.dflt Y40)).2.2.2.2.1, ((x136.getD x138.toNat (Ty.dflt Y40)).2.2.2.2.2.1, (x136.getD x138.toNat (Ty.dflt Y40)).2.2.2.2.2.2))))))).getD x138.toNat (Ty.dflt Y40)).2.1, (((x136.set x138.toNat (x137, (y190, ((IntKind.i64.wrap ((IntKind.i64.wrap (x137 + (1 : Int))) + (1 : Int))), ((IntKind.i64.wrap ((IntKind.i64.wrap ((IntKind.i64.wrap (x137 + (1 : Int))) + (1 : Int))) + (1 : Int))), ((x136.getD x138.toNat (Ty.dflt Y40)).2.2.2.2.1, ((x136.getD x138.toNat (Ty.dflt Y40)).2.2.2.2.2.1, (x136.getD x138.toNat (Ty.dflt Y40)).2.2.2.2.2.2))))))).getD x138.toNat (Ty.dflt Y40)).2.2.1, (((x136.set x138.toNat (x137, (y190, ((IntKind.i64.wrap ((IntKind.i64.wrap (x137 + (1 : Int))) + (1 : Int))), ((IntKind.i64.wrap ((IntKind.i64.wrap ((IntKind.i64.wrap (x137 + (1 : Int))) + (1 : Int))) + (1 : Int))), ((x136.getD x138.toNat (Ty.dflt Y40)).2.2.2.2.1, ((x136.getD x138.toNat (Ty.dflt Y40)).2.2.2.2.2.1, (x136.getD x138.toNat (Ty.dflt Y40)).2.2.2.2.2.2))))))).getD x138.toNat (Ty.dflt Y40)).2.2.2.1, ((IntKind.i64.wrap ((IntKind.i64.wrap ((IntKind.i64.wrap ((IntKind.i64.wrap (x137 + (1 : Int))) + (1 : Int))) + (1 : Int))) + (1 : Int))), (((x136.set x138.toNat (x137, (y190, ((IntKind.i64.wrap ((IntKind.i64.wrap (x137 + (1 : Int))) + (1 : Int))), ((IntKind.i64.wrap ((IntKind.i64.wrap ((IntKind.i64.wrap (x137 + (1 : Int))) + (1 : Int))) + (1 : Int))), ((x136.getD x138.toNat (Ty.dflt Y40)).2.2.2.2.1, ((x136.getD x138.toNat (Ty.dflt Y40)).2.2.2.2.2.1, (x136.getD x138.toNat (Ty.dflt Y40)).2.2.2.2.2.2))))))).getD x138.toNat (Ty.dflt Y40)).2.2.2.2.2.1, ((x136.set x138.toNat (x137, (y190, ((IntKind.i64.wrap ((IntKind.i64.wrap (x137 + (1 : Int))) + (1 : Int))), ((IntKind.i64.wrap ((IntKind.i64.wrap ((IntKind.i64.wrap (x137 + (1 : Int))) + (1 : Int))) + (1 : Int))), ((x136.getD x138.toNat (Ty.dflt Y40)).2.2.2.2.1, ((x136.getD x138.toNat (Ty.dflt Y40)).2.2.2.2.2.1, (x136.getD x138.toNat (Ty.dflt Y40)).2.2.2.2.2.2))))))).getD x138.toNat (Ty.dflt Y40)).2.2.2.2.2.2))))))) = (x136.set x138.toNat (x137, (y190, ((IntKind.i64.wrap ((IntKind.i64.wrap (x137 + (1 : Int))) + (1 : Int))), ((IntKind.i64.wrap ((IntKind.i64.wrap ((IntKind.i64.wrap (x137 + (1 : Int))) + (1 : Int))) + (1 : Int))), ((IntKind.i64.wrap ((IntKind.i64.wrap ((IntKind.i64.wrap ((IntKind.i64.wrap (x137 + (1 : Int))) + (1 : Int))) + (1 : Int))) + (1 : Int))), ((x136.getD x138.toNat (Ty.dflt Y40)).2.2.2.2.2.1, (x136.getD x138.toNat (Ty.dflt Y40)).2.2.2.2.2.2))))))) from set_upd x136 x138.toNat (x137, (y190, ((IntKind.i64.wrap ((IntKind.i64.wrap (x137 + (1 : Int))) + (1 : Int))), ((IntKind.i64.wrap ((IntKind.i64.wrap ((IntKind.i64.wrap (x137 + (1 : Int))) + (1 : Int))) + (1 : Int))), ((x136.getD x138.toNat (Ty.dflt Y40)).2.2.2.2.1, ((x136.getD x138.toNat (Ty.dflt Y40)).2.2.2.2.2.1, (x136.getD x138.toNat (Ty.dflt Y40)).2.2.2.2.2.2)))))) (Ty.dflt Y40) (fun z => (z.1, (z.2.1, (z.2.2.1, (z.2.2.2.1, ((IntKind.i64.wrap ((IntKind.i64.wrap ((IntKind.i64.wrap ((IntKind.i64.wrap (x137 + (1 : Int))) + (1 : Int))) + (1 : Int))) + (1 : Int))), (z.2.2.2.2.2.1, z.2.2.2.2.2.2))))))) (by simpa using g198)]
        refine sN T_ok [0, 1, 5, 65536] [0] ⟨[(0, .lf (.hd 0 0 none)), (1, I (IntKind.i64.wrap ((IntKind.i64.wrap ((IntKind.i64.wrap ((IntKind.i64.wrap (x137 + (1 : Int))) + (1 : Int))) + (1 : Int))) + (1 : Int)))), (5, I x138), (65536, .lf (.hd 0 0 none))], [ar 0 Y40 (x136.set x138.toNat (x137, (y190, ((IntKind.i64.wrap ((IntKind.i64.wrap (x137 + (1 : Int))) + (1 : Int))), ((IntKind.i64.wrap ((IntKind.i64.wrap ((IntKind.i64.wrap (x137 + (1 : Int))) + (1 : Int))) + (1 : Int))), ((IntKind.i64.wrap ((IntKind.i64.wrap ((IntKind.i64.wrap ((IntKind.i64.wrap (x137 + (1 : Int))) + (1 : Int))) + (1 : Int))) + (1 : Int))), ((x136.getD x138.toNat (Ty.dflt Y40)).2.2.2.2.2.1, (x136.getD x138.toNat (Ty.dflt Y40)).2.2.2.2.2.2))))))) .dp]⟩ (tn 0) ?_
        refine sR T_ok [0, 1, 5, 65536] [0] ⟨[(0, .lf (.hd 0 0 none)), (1, I (IntKind.i64.wrap ((IntKind.i64.wrap ((IntKind.i64.wrap ((IntKind.i64.wrap ((IntKind.i64.wrap (x137 + (1 : Int))) + (1 : Int))) + (1 : Int))) + (1 : Int))) + (1 : Int)))), (5, I x138), (65536, .lf (.hd 0 0 none))], [ar 0 Y40 (x136.set x138.toNat (x137, (y190, ((IntKind.i64.wrap ((IntKind.i64.wrap (x137 + (1 : Int))) + (1 : Int))), ((IntKind.i64.wrap ((IntKind.i64.wrap ((IntKind.i64.wrap (x137 + (1 : Int))) + (1 : Int))) + (1 : Int))), ((IntKind.i64.wrap ((IntKind.i64.wrap ((IntKind.i64.wrap ((IntKind.i64.wrap (x137 + (1 : Int))) + (1 : Int))) + (1 : Int))) + (1 : Int))), ((x136.getD x138.toNat (Ty.dflt Y40)).2.2.2.2.2.1, (x136.getD x138.toNat (Ty.dflt Y40)).2.2.2.2.2.2))))))) .dp]⟩ (tn 3) ?_
        refine VW.seq ?_
        refine VW.region ?_
        obtain ⟨g199, h⟩ := gd_some h
        obtain ⟨g200, h⟩ := gd_some h
        refine sG T_ok 8 [0, 1, 5, 65536] [0] ⟨[(0, .lf (.hd 0 0 none)), (1, I (IntKind.i64.wrap ((IntKind.i64.wrap ((IntKind.i64.wrap ((IntKind.i64.wrap ((IntKind.i64.wrap (x137 + (1 : Int))) + (1 : Int))) + (1 : Int))) + (1 : Int))) + (1 : Int)))), (5, I x138), (65536, .lf (.hd 0 0 none))], [ar 0 Y40 ((x136.set x138.toNat (x137, (y190, ((IntKind.i64.wrap ((IntKind.i64.wrap (x137 + (1 : Int))) + (1 : Int))), ((IntKind.i64.wrap ((IntKind.i64.wrap ((IntKind.i64.wrap (x137 + (1 : Int))) + (1 : Int))) + (1 : Int))), ((IntKind.i64.wrap ((IntKind.i64.wrap ((IntKind.i64.wrap ((IntKind.i64.wrap (x137 + (1 : Int))) + (1 : Int))) + (1 : Int))) + (1 : Int))), ((x136.getD x138.toNat (Ty.dflt Y40)).2.2.2.2.2.1, (x136.getD x138.toNat (Ty.dflt Y40)).2.2.2.2.2.2))))))).set x138.toNat (((x136.set x138.toNat (x137, (y190, ((IntKind.i64.wrap ((IntKind.i64.wrap (x137 + (1 : Int))) + (1 : Int))), ((IntKind.i64.wrap ((IntKind.i64.wrap ((IntKind.i64.wrap (x137 + (1 : Int))) + (1 : Int))) + (1 : Int))), ((IntKind.i64.wrap ((IntKind.i64.wrap ((IntKind.i64.wrap ((IntKind.i64.wrap (x137 + (1 : Int))) + (1 : Int))) + (1 : Int))) + (1 : Int))), ((x136.getD x138.toNat (Ty.dflt Y40)).2.2.2.2.2.1, (x136.getD x138.toNat (Ty.dflt Y40)).2.2.2.2.2.2))))))).getD x138.toNat (Ty.dflt Y40)).1, (((x136.set x138.toNat (x137, (y190, ((IntKind.i64.wrap ((IntKind.i64.wrap (x137 + (1 : Int))) + (1 : Int))), ((IntKind.i64.wrap ((IntKind.i64.wrap ((IntKind.i64.wrap (x137 + (1 : Int))) + (1 : Int))) + (1 : Int))), ((IntKind.i64.wrap ((IntKind.i64.wrap ((IntKind.i64.wrap ((IntKind.i64.wrap (x137 + (1 : Int))) + (1 : Int))) + (1 : Int))) + (1 : Int))), ((x136.getD x138.toNat (Ty.dflt Y40)).2.2.2.2.2.1, (x136.getD x138.toNat (Ty.dflt Y40)).2.2.2.2.2.2))))))).getD x138.toNat (Ty.dflt Y40)).2.1, (((x136.set x138.toNat (x137, (y190, ((IntKind.i64.wrap ((IntKind.i64.wrap (x137 + (1 : Int))) + (1 : Int))), ((IntKind.i64.wrap ((IntKind.i64.wrap ((IntKind.i64.wrap (x137 + (1 : Int))) + (1 : Int))) + (1 : Int))), ((IntKind.i64.wrap ((IntKind.i64.wrap ((IntKind.i64.wrap ((IntKind.i64.wrap (x137 + (1 : Int))) + (1 : Int))) + (1 : Int))) + (1 : Int))), ((x136.getD x138.toNat (Ty.dflt Y40)).2.2.2.2.2.1, (x136.getD x138.toNat (Ty.dflt Y40)).2.2.2.2.2.2))))))).getD x138.toNat (Ty.dflt Y40)).2.2.1, (((x136.set x138.toNat (x137, (y190, ((IntKind.i64.wrap ((IntKind.i64.wrap (x137 + (1 : Int))) + (1 : Int))), ((IntKind.i64.wrap ((IntKind.i64.wrap ((IntKind.i64.wrap (x137 + (1 : Int))) + (1 : Int))) + (1 : Int))), ((IntKind.i64.wrap ((IntKind.i64.wrap ((IntKind.i64.wrap ((IntKind.i64.wrap (x137 + (1 : Int))) + (1 : Int))) + (1 : Int))) + (1 : Int))), ((x136.getD x138.toNat (Ty.dflt Y40)).2.2.2.2.2.1, (x136.getD x138.toNat (Ty.dflt Y40)).2.2.2.2.2.2))))))).getD x138.toNat (Ty.dflt Y40)).2.2.2.1, (((x136.set x138.toNat (x137, (y190, ((IntKind.i64.wrap ((IntKind.i64.wrap (x137 + (1 : Int))) + (1 : Int))), ((IntKind.i64.wrap ((IntKind.i64.wrap ((IntKind.i64.wrap (x137 + (1 : Int))) + (1 : Int))) + (1 : Int))), ((IntKind.i64.wrap ((IntKind.i64.wrap ((IntKind.i64.wrap ((IntKind.i64.wrap (x137 + (1 : Int))) + (1 : Int))) + (1 : Int))) + (1 : Int))), ((x136.getD x138.toNat (Ty.dflt Y40)).2.2.2.2.2.1, (x136.getD x138.toNat (Ty.dflt Y40)).2.2.2.2.2.2))))))).getD x138.toNat (Ty.dflt Y40)).2.2.2.2.1, (((Int.tmod (IntKind.i64.wrap ((IntKind.i64.wrap ((IntKind.i64.wrap ((IntKind.i64.wrap ((IntKind.i64.wrap (x137 + (1 : Int))) + (1 : Int))) + (1 : Int))) + (1 : Int))) + (1 : Int))) (3 : Int)) == (0 : Int)), ((x136.set x138.toNat (x137, (y190, ((IntKind.i64.wrap ((IntKind.i64.wrap (x137 + (1 : Int))) + (1 : Int))), ((IntKind.i64.wrap ((IntKind.i64.wrap ((IntKind.i64.wrap (x137 + (1 : Int))) + (1 : Int))) + (1 : Int))), ((IntKind.i64.wrap ((IntKind.i64.wrap ((IntKind.i64.wrap ((IntKind.i64.wrap (x137 + (1 : Int))) + (1 : Int))) + (1 : Int))) + (1 : Int))), ((x136.getD x138.toNat (Ty.dflt Y40)).2.2.2.2.2.1, (x136.getD x138.toNat (Ty.dflt Y40)).2.2.2.2.2.2))))))).getD x138.toNat (Ty.dflt Y40)).2.2.2.2.2.2))))))) .dp]⟩ (pu 3 (an (show ((3 : Int) ≠ 0) from by decide) (pu 1 (an g199 (pu 1 (an g200 (tn 0))))))) ?_
        rw [show ((x136.set x138.toNat (x137, (y190, ((IntKind.i64.wrap ((IntKind.i64.wrap (x137 + (1 : Int))) + (1 : Int))), ((IntKind.i64.wrap ((IntKind.i64.wrap ((IntKind.i64.wrap (x137 + (1 : Int))) + (1 : Int))) + (1 : Int))), ((IntKind.i64.wrap ((IntKind.i64.wrap ((IntKind.i64.wrap ((IntKind.i64.wrap (x137 + (1 : Int))) + (1 : Int))) + (1 : Int))) + (1 : Int))), ((x136.getD x138.toNat (Ty.dflt Y40)).2.2.2.2.2.1, (x136.getD x138.toNat (Ty.dflt Y40)).2.2.2.2.2.2))))))).set x138.toNat (((x136.set x138.toNat (x137, (y190, ((IntKind.i64.wrap ((IntKind.i64.wrap (x137 + (1 : Int))) + (1 : Int))), ((IntKind.i64.wrap ((IntKind.i64.wrap ((IntKind.i64.wrap (x137 + (1 : Int))) + (1 : Int))) + (1 : Int))), ((IntKind.i64.wrap ((IntKind.i64.wrap ((IntKind.i64.wrap ((IntKind.i64.wrap (x137 + (1 : Int))) + (1 : Int))) + (1 : Int))) + (1 : Int))), ((x136.getD x138.toNat (Ty.dflt Y40)).2.2.2.2.2.1, (x136.getD x138.toNat (Ty.dflt Y40)).2.2.2.2.2.2))))))).getD x138.toNat (Ty.dflt Y40)).1, (((x136.set x138.toNat (x137, (y190, ((IntKind.i64.wrap ((IntKind.i64.wrap (x137 + (1 : Int))) + (1 : Int))), ((IntKind.i64.wrap ((IntKind.i64.wrap ((IntKind.i64.wrap (x137 + (1 : Int))) + (1 : Int))) + (1 : Int))), ((IntKind.i64.wrap ((IntKind.i64.wrap ((IntKind.i64.wrap ((IntKind.i64.wrap (x137 + (1 : Int))) + (1 : Int))) + (1 : Int))) + (1 : Int))), ((x136.getD x138.toNat (Ty.dflt Y40)).2.2.2.2.2.1, (x136.getD x138.toNat (Ty.dflt Y40)).2.2.2.2.2.2))))))).getD x138.toNat (Ty.dflt Y40)).2.1, (((x136.set x138.toNat (x137, (y190, ((IntKind.i64.wrap ((IntKind.i64.wrap (x137 + (1 : Int))) + (1 : Int))), ((IntKind.i64.wrap ((IntKind.i64.wrap ((IntKind.i64.wrap (x137 + (1 : Int))) + (1 : Int))) + (1 : Int))), ((IntKind.i64.wrap ((IntKind.i64.wrap ((IntKind.i64.wrap ((IntKind.i64.wrap (x137 + (1 : Int))) + (1 : Int))) + (1 : Int))) + (1 : Int))), ((x136.getD x138.toNat (Ty.dflt Y40)).2.2.2.2.2.1, (x136.getD x138.toNat (Ty.dflt Y40)).2.2.2.2.2.2))))))).getD x138.toNat (Ty.dflt Y40)).2.2.1, (((x136.set x138.toNat (x137, (y190, ((IntKind.i64.wrap ((IntKind.i64.wrap (x137 + (1 : Int))) + (1 : Int))), ((IntKind.i64.wrap ((IntKind.i64.wrap ((IntKind.i64.wrap (x137 + (1 : Int))) + (1 : Int))) + (1 : Int))), ((IntKind.i64.wrap ((IntKind.i64.wrap ((IntKind.i64.wrap ((IntKind.i64.wrap (x137 + (1 : Int))) + (1 : Int))) + (1 : Int))) + (1 : Int))), ((x136.getD x138.toNat (Ty.dflt Y40)).2.2.2.2.2.1, (x136.getD x138.toNat (Ty.dflt Y40)).2.2.2.2.2.2))))))).getD x138.toNat (Ty.dflt Y40)).2.2.2.1, (((x136.set x138.toNat (x137, (y190, ((IntKind.i64.wrap ((IntKind.i64.wrap (x137 + (1 : Int))) + (1 : Int))), ((IntKind.i64.wrap ((IntKind.i64.wrap ((IntKind.i64.wrap (x137 + (1 : Int))) + (1 : Int))) + (1 : Int))), ((IntKind.i64.wrap ((IntKind.i64.wrap ((IntKind.i64.wrap ((IntKind.i64.wrap (x137 + (1 : Int))) + (1 : Int))) + (1 : Int))) + (1 : Int))), ((x136.getD x138.toNat (Ty.dflt Y40)).2.2.2.2.2.1, (x136.getD x138.toNat (Ty.dflt Y40)).2.2.2.2.2.2))))))).getD x138.toNat (Ty.dflt Y40)).2.2.2.2.1, (((Int.tmod (IntKind.i64.wrap ((IntKind.i64.wrap ((IntKind.i64.wrap ((IntKind.i64.wrap ((IntKind.i64.wrap (x137 + (1 : Int))) + (1 : Int))) + (1 : Int))) + (1 : Int))) + (1 : Int))) (3 : Int)) == (0 : Int)), ((x136.set x138.toNat (x137, (y190, ((IntKind.i64.wrap ((IntKind.i64.wrap (x137 + (1 : Int))) + (1 : Int))), ((IntKind.i64.wrap ((IntKind.i64.wrap ((IntKind.i64.wrap (x137 + (1 : Int))) + (1 : Int))) + (1 : Int))), ((IntKind.i64.wrap ((IntKind.i64.wrap ((IntKind.i64.wrap ((IntKind.i64.wrap (x137 + (1 : Int))) + (1 : Int))) + (1 : Int))) + (1 : Int))), ((x136.getD x138.toNat (Ty.dflt Y40)).2.2.2.2.2.1, (x136.getD x138.toNat (Ty.dflt Y40)).2.2.2.2.2.2))))))).getD x138.toNat (Ty.dflt Y40)).2.2.2.2.2.2))))))) = (x136.set x138.toNat (x137, (y190, ((IntKind.i64.wrap ((IntKind.i64.wrap (x137 + (1 : Int))) + (1 : Int))), ((IntKind.i64.wrap ((IntKind.i64.wrap ((IntKind.i64.wrap (x137 + (1 : Int))) + (1 : Int))) + (1 : Int))), ((IntKind.i64.wrap ((IntKind.i64.wrap ((IntKind.i64.wrap ((IntKind.i64.wrap (x137 + (1 : Int))) + (1 : Int))) + (1 : Int))) + (1 : Int))), (((Int.tmod (IntKind.i64.wrap ((IntKind.i64.wrap ((IntKind.i64.wrap ((IntKind.i64.wrap ((IntKind.i64.wrap (x137 + (1 : Int))) + (1 : Int))) + (1 : Int))) + (1 : Int))) + (1 : Int))) (3 : Int)) == (0 : Int)), (x136.getD x138.toNat (Ty.dflt Y40)).2.2.2.2.2.2))))))) from set_upd x136 x138.toNat (x137, (y190, ((IntKind.i64.wrap ((IntKind.i64.wrap (x137 + (1 : Int))) + (1 : Int))), ((IntKind.i64.wrap ((IntKind.i64.wrap ((IntKind.i64.wrap (x137 + (1 : Int))) + (1 : Int))) + (1 : Int))), ((IntKind.i64.wrap ((IntKind.i64.wrap ((IntKind.i64.wrap ((IntKind.i64.wrap (x137 + (1 : Int))) + (1 : Int))) + (1 : Int))) + (1 : Int))), ((x136.getD x138.toNat (Ty.dflt Y40)).2.2.2.2.2.1, (x136.getD x138.toNat (Ty.dflt Y40)).2.2.2.2.2.2)))))) (Ty.dflt Y40) (fun z => (z.1, (z.2.1, (z.2.2.1, (z.2.2.2.1, (z.2.2.2.2.1, (((Int.tmod (IntKind.i64.wrap ((IntKind.i64.wrap ((IntKind.i64.wrap ((IntKind.i64.wrap ((IntKind.i64.wrap (x137 + (1 : Int))) + (1 : Int))) + (1 : Int))) + (1 : Int))) + (1 : Int))) (3 : Int)) == (0 : Int)), z.2.2.2.2.2.2))))))) (by simpa using g200)]
        refine sN T_ok [0, 1, 5, 65536] [0] ⟨[(0, .lf (.hd 0 0 none)), (1, I (IntKind.i64.wrap ((IntKind.i64.wrap ((IntKind.i64.wrap ((IntKind.i64.wrap ((IntKind.i64.wrap (x137 + (1 : Int))) + (1 : Int))) + (1 : Int))) + (1 : Int))) + (1 : Int)))), (5, I x138), (65536, .lf (.hd 0 0 none))], [ar 0 Y40 (x136.set x138.toNat (x137, (y190, ((IntKind.i64.wrap ((IntKind.i64.wrap (x137 + (1 : Int))) + (1 : Int))), ((IntKind.i64.wrap ((IntKind.i64.wrap ((IntKind.i64.wrap (x137 + (1 : Int))) + (1 : Int))) + (1 : Int))), ((IntKind.i64.wrap ((IntKind.i64.wrap ((IntKind.i64.wrap ((IntKind.i64.wrap (x137 + (1 : Int))) + (1 : Int))) + (1 : Int))) + (1 : Int))), (((Int.tmod (IntKind.i64.wrap ((IntKind.i64.wrap ((IntKind.i64.wrap ((IntKind.i64.wrap ((IntKind.i64.wrap (x137 + (1 : Int))) + (1 : Int))) + (1 : Int))) + (1 : Int))) + (1 : Int))) (3 : Int)) == (0 : Int)), (x136.getD x138.toNat (Ty.dflt Y40)).2.2.2.2.2.2))))))) .dp]⟩ (tn 0) ?_
        refine sR T_ok [0, 1, 5, 65536] [0] ⟨[(0, .lf (.hd 0 0 none)), (1, I (IntKind.i64.wrap ((IntKind.i64.wrap ((IntKind.i64.wrap ((IntKind.i64.wrap ((IntKind.i64.wrap ((IntKind.i64.wrap (x137 + (1 : Int))) + (1 : Int))) + (1 : Int))) + (1 : Int))) + (1 : Int))) + (1 : Int)))), (5, I x138), (65536, .lf (.hd 0 0 none))], [ar 0 Y40 (x136.set x138.toNat (x137, (y190, ((IntKind.i64.wrap ((IntKind.i64.wrap (x137 + (1 : Int))) + (1 : Int))), ((IntKind.i64.wrap ((IntKind.i64.wrap ((IntKind.i64.wrap (x137 + (1 : Int))) + (1 : Int))) + (1 : Int))), ((IntKind.i64.wrap ((IntKind.i64.wrap ((IntKind.i64.wrap ((IntKind.i64.wrap (x137 + (1 : Int))) + (1 : Int))) + (1 : Int))) + (1 : Int))), (((Int.tmod (IntKind.i64.wrap ((IntKind.i64.wrap ((IntKind.i64.wrap ((IntKind.i64.wrap ((IntKind.i64.wrap (x137 + (1 : Int))) + (1 : Int))) + (1 : Int))) + (1 : Int))) + (1 : Int))) (3 : Int)) == (0 : Int)), (x136.getD x138.toNat (Ty.dflt Y40)).2.2.2.2.2.2))))))) .dp]⟩ (tn 3) ?_
        refine VW.region ?_
        obtain ⟨g201, h⟩ := gd_some h
        refine sG T_ok 4 [0, 1, 5, 60, 65536] [0] ⟨[(0, .lf (.hd 0 0 none)), (1, I (IntKind.i64.wrap ((IntKind.i64.wrap ((IntKind.i64.wrap ((IntKind.i64.wrap ((IntKind.i64.wrap ((IntKind.i64.wrap (x137 + (1 : Int))) + (1 : Int))) + (1 : Int))) + (1 : Int))) + (1 : Int))) + (1 : Int)))), (5, I x138), (60, .lf (.ptr 0 0 x138.toNat 6)), (65536, .lf (.hd 0 0 none))], [ar 0 Y40 (x136.set x138.toNat (x137, (y190, ((IntKind.i64.wrap ((IntKind.i64.wrap (x137 + (1 : Int))) + (1 : Int))), ((IntKind.i64.wrap ((IntKind.i64.wrap ((IntKind.i64.wrap (x137 + (1 : Int))) + (1 : Int))) + (1 : Int))), ((IntKind.i64.wrap ((IntKind.i64.wrap ((IntKind.i64.wrap ((IntKind.i64.wrap (x137 + (1 : Int))) + (1 : Int))) + (1 : Int))) + (1 : Int))), (((Int.tmod (IntKind.i64.wrap ((IntKind.i64.wrap ((IntKind.i64.wrap ((IntKind.i64.wrap ((IntKind.i64.wrap (x137 + (1 : Int))) + (1 : Int))) + (1 : Int))) + (1 : Int))) + (1 : Int))) (3 : Int)) == (0 : Int)), (x136.getD x138.toNat (Ty.dflt Y40)).2.2.2.2.2.2))))))) .dp]⟩ (pu 2 (an g201 (tn 1))) ?_
        obtain ⟨g203, h⟩ := gd_some h
        obtain ⟨y202, hy, h⟩ := andO_some h
        refine VO.lendIn (t := 23) (d1 := 61) (d2 := 62) (d3 := 63) (id := 0) (cur := 0) (i := x138.toNat) (j := 6) (v2 := I (IntKind.i64.wrap ((IntKind.i64.wrap ((IntKind.i64.wrap ((IntKind.i64.wrap ((IntKind.i64.wrap ((IntKind.i64.wrap (x137 + (1 : Int))) + (1 : Int))) + (1 : Int))) + (1 : Int))) + (1 : Int))) + (1 : Int)))) (f := 14) (l := [I (IntKind.i64.wrap ((IntKind.i64.wrap ((IntKind.i64.wrap ((IntKind.i64.wrap ((IntKind.i64.wrap ((IntKind.i64.wrap (x137 + (1 : Int))) + (1 : Int))) + (1 : Int))) + (1 : Int))) + (1 : Int))) + (1 : Int)))]) (e := Y40) (t' := (.int .i64)) (xs := (x136.set x138.toNat (x137, (y190, ((IntKind.i64.wrap ((IntKind.i64.wrap (x137 + (1 : Int))) + (1 : Int))), ((IntKind.i64.wrap ((IntKind.i64.wrap ((IntKind.i64.wrap (x137 + (1 : Int))) + (1 : Int))) + (1 : Int))), ((IntKind.i64.wrap ((IntKind.i64.wrap ((IntKind.i64.wrap ((IntKind.i64.wrap (x137 + (1 : Int))) + (1 : Int))) + (1 : Int))) + (1 : Int))), (((Int.tmod (IntKind.i64.wrap ((IntKind.i64.wrap ((IntKind.i64.wrap ((IntKind.i64.wrap ((IntKind.i64.wrap (x137 + (1 : Int))) + (1 : Int))) + (1 : Int))) + (1 : Int))) + (1 : Int))) (3 : Int)) == (0 : Int)), (x136.getD x138.toNat (Ty.dflt Y40)).2.2.2.2.2.2)))))))) (ys := (((x136.set x138.toNat (x137, (y190, ((IntKind.i64.wrap ((IntKind.i64.wrap (x137 + (1 : Int))) + (1 : Int))), ((IntKind.i64.wrap ((IntKind.i64.wrap ((IntKind.i64.wrap (x137 + (1 : Int))) + (1 : Int))) + (1 : Int))), ((IntKind.i64.wrap ((IntKind.i64.wrap ((IntKind.i64.wrap ((IntKind.i64.wrap (x137 + (1 : Int))) + (1 : Int))) + (1 : Int))) + (1 : Int))), (((Int.tmod (IntKind.i64.wrap ((IntKind.i64.wrap ((IntKind.i64.wrap ((IntKind.i64.wrap ((IntKind.i64.wrap (x137 + (1 : Int))) + (1 : Int))) + (1 : Int))) + (1 : Int))) + (1 : Int))) (3 : Int)) == (0 : Int)), (x136.getD x138.toNat (Ty.dflt Y40)).2.2.2.2.2.2))))))).getD x138.toNat (Ty.dflt Y40)).2.2.2.2.2.2)) (ys' := y202.1) (x' := (((x136.set x138.toNat (x137, (y190, ((IntKind.i64.wrap ((IntKind.i64.wrap (x137 + (1 : Int))) + (1 : Int))), ((IntKind.i64.wrap ((IntKind.i64.wrap ((IntKind.i64.wrap (x137 + (1 : Int))) + (1 : Int))) + (1 : Int))), ((IntKind.i64.wrap ((IntKind.i64.wrap ((IntKind.i64.wrap ((IntKind.i64.wrap (x137 + (1 : Int))) + (1 : Int))) + (1 : Int))) + (1 : Int))), (((Int.tmod (IntKind.i64.wrap ((IntKind.i64.wrap ((IntKind.i64.wrap ((IntKind.i64.wrap ((IntKind.i64.wrap (x137 + (1 : Int))) + (1 : Int))) + (1 : Int))) + (1 : Int))) + (1 : Int))) (3 : Int)) == (0 : Int)), (x136.getD x138.toNat (Ty.dflt Y40)).2.2.2.2.2.2))))))).getD x138.toNat (Ty.dflt Y40)).1, (((x136.set x138.toNat (x137, (y190, ((IntKind.i64.wrap ((IntKind.i64.wrap (x137 + (1 : Int))) + (1 : Int))), ((IntKind.i64.wrap ((IntKind.i64.wrap ((IntKind.i64.wrap (x137 + (1 : Int))) + (1 : Int))) + (1 : Int))), ((IntKind.i64.wrap ((IntKind.i64.wrap ((IntKind.i64.wrap ((IntKind.i64.wrap (x137 + (1 : Int))) + (1 : Int))) + (1 : Int))) + (1 : Int))), (((Int.tmod (IntKind.i64.wrap ((IntKind.i64.wrap ((IntKind.i64.wrap ((IntKind.i64.wrap ((IntKind.i64.wrap (x137 + (1 : Int))) + (1 : Int))) + (1 : Int))) + (1 : Int))) + (1 : Int))) (3 : Int)) == (0 : Int)), (x136.getD x138.toNat (Ty.dflt Y40)).2.2.2.2.2.2))))))).getD x138.toNat (Ty.dflt Y40)).2.1, (((x136.set x138.toNat (x137, (y190, ((IntKind.i64.wrap ((IntKind.i64.wrap (x137 + (1 : Int))) + (1 : Int))), ((IntKind.i64.wrap ((IntKind.i64.wrap ((IntKind.i64.wrap (x137 + (1 : Int))) + (1 : Int))) + (1 : Int))), ((IntKind.i64.wrap ((IntKind.i64.wrap ((IntKind.i64.wrap ((IntKind.i64.wrap (x137 + (1 : Int))) + (1 : Int))) + (1 : Int))) + (1 : Int))), (((Int.tmod (IntKind.i64.wrap ((IntKind.i64.wrap ((IntKind.i64.wrap ((IntKind.i64.wrap ((IntKind.i64.wrap (x137 + (1 : Int))) + (1 : Int))) + (1 : Int))) + (1 : Int))) + (1 : Int))) (3 : Int)) == (0 : Int)), (x136.getD x138.toNat (Ty.dflt Y40)).2.2.2.2.2.2))))))).getD x138.toNat (Ty.dflt Y40)).2.2.1, (((x136.set x138.toNat (x137, (y190, ((IntKind.i64.wrap ((IntKind.i64.wrap (x137 + (1 : Int))) + (1 : Int))), ((IntKind.i64.wrap ((IntKind.i64.wrap ((IntKind.i64.wrap (x137 + (1 : Int))) + (1 : Int))) + (1 : Int))), ((IntKind.i64.wrap ((IntKind.i64.wrap ((IntKind.i64.wrap ((IntKind.i64.wrap (x137 + (1 : Int))) + (1 : Int))) + (1 : Int))) + (1 : Int))), (((Int.tmod (IntKind.i64.wrap ((IntKind.i64.wrap ((IntKind.i64.wrap ((IntKind.i64.wrap ((IntKind.i64.wrap (x137 + (1 : Int))) + (1 : Int))) + (1 : Int))) + (1 : Int))) + (1 : Int))) (3 : Int)) == (0 : Int)), (x136.getD x138.toNat (Ty.dflt Y40)).2.2.2.2.2.2))))))).getD x138.toNat (Ty.dflt Y40)).2.2.2.1, (((x136.set x138.toNat (x137, (y190, ((IntKind.i64.wrap ((IntKind.i64.wrap (x137 + (1 : Int))) + (1 : Int))), ((IntKind.i64.wrap ((IntKind.i64.wrap ((IntKind.i64.wrap (x137 + (1 : Int))) + (1 : Int))) + (1 : Int))), ((IntKind.i64.wrap ((IntKind.i64.wrap ((IntKind.i64.wrap ((IntKind.i64.wrap (x137 + (1 : Int))) + (1 : Int))) + (1 : Int))) + (1 : Int))), (((Int.tmod (IntKind.i64.wrap ((IntKind.i64.wrap ((IntKind.i64.wrap ((IntKind.i64.wrap ((IntKind.i64.wrap (x137 + (1 : Int))) + (1 : Int))) + (1 : Int))) + (1 : Int))) + (1 : Int))) (3 : Int)) == (0 : Int)), (x136.getD x138.toNat (Ty.dflt Y40)).2.2.2.2.2.2))))))).getD x138.toNat (Ty.dflt Y40)).2.2.2.2.1, (((x136.set x138.toNat (x137, (y190, ((IntKind.i64.wrap ((IntKind.i64.wrap (x137 + (1 : Int))) + (1 : Int))), ((IntKind.i64.wrap ((IntKind.i64.wrap ((IntKind.i64.wrap (x137 + (1 : Int))) + (1 : Int))) + (1 : Int))), ((IntKind.i64.wrap ((IntKind.i64.wrap ((IntKind.i64.wrap ((IntKind.i64.wrap (x137 + (1 : Int))) + (1 : Int))) + (1 : Int))) + (1 : Int))), (((Int.tmod (IntKind.i64.wrap ((IntKind.i64.wrap ((IntKind.i64.wrap ((IntKind.i64.wrap ((IntKind.i64.wrap (x137 + (1 : Int))) + (1 : Int))) + (1 : Int))) + (1 : Int))) + (1 : Int))) (3 : Int)) == (0 : Int)), (x136.getD x138.toNat (Ty.dflt Y40)).2.2.2.2.2.2))))))).getD x138.toNat (Ty.dflt Y40)).2.2.2.2.2.1, y202.1))))))) (rs := [.lf (.v (.int .i64) y202.2)]) (v1 := 0) T_ok (by kernel_rfl) (by kernel_rfl) (by kernel_rfl) (by kernel_rfl) (by kernel_rfl) g203 (ok14 N _ _ hy) rfl ?_
        refine sN T_ok [0, 1, 5, 65536] [0] ⟨[(0, .lf (.hd 0 0 none)), (1, I y202.2), (5, I x138), (65536, .lf (.hd 0 0 none))], [ar 0 Y40 ((x136.set x138.toNat (x137, (y190, ((IntKind.i64.wrap ((IntKind.i64.wrap (x137 + (1 : Int))) + (1 : Int))), ((IntKind.i64.wrap ((IntKind.i64.wrap ((IntKind.i64.wrap (x137 + (1 : Int))) + (1 : Int))) + (1 : Int))), ((IntKind.i64.wrap ((IntKind.i64.wrap ((IntKind.i64.wrap ((IntKind.i64.wrap (x137 + (1 : Int))) + (1 : Int))) + (1 : Int))) + (1 : Int))), (((Int.tmod (IntKind.i64.wrap ((IntKind.i64.wrap ((IntKind.i64.wrap ((IntKind.i64.wrap ((IntKind.i64.wrap (x137 + (1 : Int))) + (1 : Int))) + (1 : Int))) + (1 : Int))) + (1 : Int))) (3 : Int)) == (0 : Int)), (x136.getD x138.toNat (Ty.dflt Y40)).2.2.2.2.2.2))))))).set x138.toNat (((x136.set x138.toNat (x137, (y190, ((IntKind.i64.wrap ((IntKind.i64.wrap (x137 + (1 : Int))) + (1 : Int))), ((IntKind.i64.wrap ((IntKind.i64.wrap ((IntKind.i64.wrap (x137 + (1 : Int))) + (1 : Int))) + (1 : Int))), ((IntKind.i64.wrap ((IntKind.i64.wrap ((IntKind.i64.wrap ((IntKind.i64.wrap (x137 + (1 : Int))) + (1 : Int))) + (1 : Int))) + (1 : Int))), (((Int.tmod (IntKind.i64.wrap ((IntKind.i64.wrap ((IntKind.i64.wrap ((IntKind.i64.wrap ((IntKind.i64.wrap (x137 + (1 : Int))) + (1 : Int))) + (1 : Int))) + (1 : Int))) + (1 : Int))) (3 : Int)) == (0 : Int)), (x136.getD x138.toNat (Ty.dflt Y40)).2.2.2.2.2.2))))))).getD x138.toNat (Ty.dflt Y40)).1, (((x136.set x138.toNat (x137, (y190, ((IntKind.i64.wrap ((IntKind.i64.wrap (x137 + (1 : Int))) + (1 : Int))), ((IntKind.i64.wrap ((IntKind.i64.wrap ((IntKind.i64.wrap (x137 + (1 : Int))) + (1 : Int))) + (1 : Int))), ((IntKind.i64.wrap ((IntKind.i64.wrap ((IntKind.i64.wrap ((IntKind.i64.wrap (x137 + (1 : Int))) + (1 : Int))) + (1 : Int))) + (1 : Int))), (((Int.tmod (IntKind.i64.wrap ((IntKind.i64.wrap ((IntKind.i64.wrap ((IntKind.i64.wrap ((IntKind.i64.wrap (x137 + (1 : Int))) + (1 : Int))) + (1 : Int))) + (1 : Int))) + (1 : Int))) (3 : Int)) == (0 : Int)), (x136.getD x138.toNat (Ty.dflt Y40)).2.2.2.2.2.2))))))).getD x138.toNat (Ty.dflt Y40)).2.1, (((x136.set x138.toNat (x137, (y190, ((IntKind.i64.wrap ((IntKind.i64.wrap (x137 + (1 : Int))) + (1 : Int))), ((IntKind.i64.wrap ((IntKind.i64.wrap ((IntKind.i64.wrap (x137 + (1 : Int))) + (1 : Int))) + (1 : Int))), ((IntKind.i64.wrap ((IntKind.i64.wrap ((IntKind.i64.wrap ((IntKind.i64.wrap (x137 + (1 : Int))) + (1 : Int))) + (1 : Int))) + (1 : Int))), (((Int.tmod (IntKind.i64.wrap ((IntKind.i64.wrap ((IntKind.i64.wrap ((IntKind.i64.wrap ((IntKind.i64.wrap (x137 + (1 : Int))) + (1 : Int))) + (1 : Int))) + (1 : Int))) + (1 : Int))) (3 : Int)) == (0 : Int)), (x136.getD x138.toNat (Ty.dflt Y40)).2.2.2.2.2.2))))))).getD x138.toNat (Ty.dflt Y40)).2.2.1, (((x136.set x138.toNat (x137, (y190, ((IntKind.i64.wrap ((IntKind.i64.wrap (x137 + (1 : Int))) + (1 : Int))), ((IntKind.i64.wrap ((IntKind.i64.wrap ((IntKind.i64.wrap (x137 + (1 : Int))) + (1 : Int))) + (1 : Int))), ((IntKind.i64.wrap ((IntKind.i64.wrap ((IntKind.i64.wrap ((IntKind.i64.wrap (x137 + (1 : Int))) + (1 : Int))) + (1 : Int))) + (1 : Int))), (((Int.tmod (IntKind.i64.wrap ((IntKind.i64.wrap ((IntKind.i64.wrap ((IntKind.i64.wrap ((IntKind.i64.wrap (x137 + (1 : Int))) + (1 : Int))) + (1 : Int))) + (1 : Int))) + (1 : Int))) (3 : Int)) == (0 : Int)), (x136.getD x138.toNat (Ty.dflt Y40)).2.2.2.2.2.2))))))).getD x138.toNat (Ty.dflt Y40)).2.2.2.1, (((x136.set x138.toNat (x137, (y190, ((IntKind.i64.wrap ((IntKind.i64.wrap (x137 + (1 : Int))) + (1 : Int))), ((IntKind.i64.wrap ((IntKind.i64.wrap ((IntKind.i64.wrap (x137 + (1 : Int))) + (1 : Int))) + (1 : Int))), ((IntKind.i64.wrap ((IntKind.i64.wrap ((IntKind.i64.wrap ((IntKind.i64.wrap (x137 + (1 : Int))) + (1 : Int))) + (1 : Int))) + (1 : Int))), (((Int.tmod (IntKind.i64.wrap ((IntKind.i64.wrap ((IntKind.i64.wrap ((IntKind.i64.wrap ((IntKind.i64.wrap (x137 + (1 : Int))) + (1 : Int))) + (1 : Int))) + (1 : Int))) + (1 : Int))) (3 : Int)) == (0 : Int)), (x136.getD x138.toNat (Ty.dflt Y40)).2.2.2.2.2.2))))))).getD x138.toNat (Ty.dflt Y40)).2.2.2.2.1, (((x136.set x138.toNat (x137, (y190, ((IntKind.i64.wrap ((IntKind.i64.wrap (x137 + (1 : Int))) + (1 : Int))), ((IntKind.i64.wrap ((IntKind.i64.wrap ((IntKind.i64.wrap (x137 + (1 : Int))) + (1 : Int))) + (1 : Int))), ((IntKind.i64.wrap ((IntKind.i64.wrap ((IntKind.i64.wrap ((IntKind.i64.wrap (x137 + (1 : Int))) + (1 : Int))) + (1 : Int))) + (1 : Int))), (((Int.tmod (IntKind.i64.wrap ((IntKind.i64.wrap ((IntKind.i64.wrap ((IntKind.i64.wrap ((IntKind.i64.wrap (x137 + (1 : Int))) + (1 : Int))) + (1 : Int))) + (1 : Int))) + (1 : Int))) (3 : Int)) == (0 : Int)), (x136.getD x138.toNat (Ty.dflt Y40)).2.2.2.2.2.2))))))).getD x138.toNat (Ty.dflt Y40)).2.2.2.2.2.1, y202.1))))))) .dp]⟩ (tn 1) ?_
        refine rR T_ok [0, 1, 5, 65536] [0] ⟨[(0, .lf (.hd 0 0 none)), (1, I y202.2), (5, I (IntKind.i64.wrap (x138 + (1 : Int)))), (65536, .lf (.hd 0 0 none))], [ar 0 Y40 ((x136.set x138.toNat (x137, (y190, ((IntKind.i64.wrap ((IntKind.i64.wrap (x137 + (1 : Int))) + (1 : Int))), ((IntKind.i64.wrap ((IntKind.i64.wrap ((IntKind.i64.wrap (x137 + (1 : Int))) + (1 : Int))) + (1 : Int))), ((IntKind.i64.wrap ((IntKind.i64.wrap ((IntKind.i64.wrap ((IntKind.i64.wrap (x137 + (1 : Int))) + (1 : Int))) + (1 : Int))) + (1 : Int))), (((Int.tmod (IntKind.i64.wrap ((IntKind.i64.wrap ((IntKind.i64.wrap ((IntKind.i64.wrap ((IntKind.i64.wrap (x137 + (1 : Int))) + (1 : Int))) + (1 : Int))) + (1 : Int))) + (1 : Int))) (3 : Int)) == (0 : Int)), (x136.getD x138.toNat (Ty.dflt Y40)).2.2.2.2.2.2))))))).set x138.toNat (((x136.set x138.toNat (x137, (y190, ((IntKind.i64.wrap ((IntKind.i64.wrap (x137 + (1 : Int))) + (1 : Int))), ((IntKind.i64.wrap ((IntKind.i64.wrap ((IntKind.i64.wrap (x137 + (1 : Int))) + (1 : Int))) + (1 : Int))), ((IntKind.i64.wrap ((IntKind.i64.wrap ((IntKind.i64.wrap ((IntKind.i64.wrap (x137 + (1 : Int))) + (1 : Int))) + (1 : Int))) + (1 : Int))), (((Int.tmod (IntKind.i64.wrap ((IntKind.i64.wrap ((IntKind.i64.wrap ((IntKind.i64.wrap ((IntKind.i64.wrap (x137 + (1 : Int))) + (1 : Int))) + (1 : Int))) + (1 : Int))) + (1 : Int))) (3 : Int)) == (0 : Int)), (x136.getD x138.toNat (Ty.dflt Y40)).2.2.2.2.2.2))))))).getD x138.toNat (Ty.dflt Y40)).1, (((x136.set x138.toNat (x137, (y190, ((IntKind.i64.wrap ((IntKind.i64.wrap (x137 + (1 : Int))) + (1 : Int))), ((IntKind.i64.wrap ((IntKind.i64.wrap ((IntKind.i64.wrap (x137 + (1 : Int))) + (1 : Int))) + (1 : Int))), ((IntKind.i64.wrap ((IntKind.i64.wrap ((IntKind.i64.wrap ((IntKind.i64.wrap (x137 + (1 : Int))) + (1 : Int))) + (1 : Int))) + (1 : Int))), (((Int.tmod (IntKind.i64.wrap ((IntKind.i64.wrap ((IntKind.i64.wrap ((IntKind.i64.wrap ((IntKind.i64.wrap (x137 + (1 : Int))) + (1 : Int))) + (1 : Int))) + (1 : Int))) + (1 : Int))) (3 : Int)) == (0 : Int)), (x136.getD x138.toNat (Ty.dflt Y40)).2.2.2.2.2.2))))))).getD x138.toNat (Ty.dflt Y40)).2.1, (((x136.set x138.toNat (x137, (y190, ((IntKind.i64.wrap ((IntKind.i64.wrap (x137 + (1 : Int))) + (1 : Int))), ((IntKind.i64.wrap ((IntKind.i64.wrap ((IntKind.i64.wrap (x137 + (1 : Int))) + (1 : Int))) + (1 : Int))), ((IntKind.i64.wrap ((IntKind.i64.wrap ((IntKind.i64.wrap ((IntKind.i64.wrap (x137 + (1 : Int))) + (1 : Int))) + (1 : Int))) + (1 : Int))), (((Int.tmod (IntKind.i64.wrap ((IntKind.i64.wrap ((IntKind.i64.wrap ((IntKind.i64.wrap ((IntKind.i64.wrap (x137 + (1 : Int))) + (1 : Int))) + (1 : Int))) + (1 : Int))) + (1 : Int))) (3 : Int)) == (0 : Int)), (x136.getD x138.toNat (Ty.dflt Y40)).2.2.2.2.2.2))))))).getD x138.toNat (Ty.dflt Y40)).2.2.1, (((x136.set x138.toNat (x137, (y190, ((IntKind.i64.wrap ((IntKind.i64.wrap (x137 + (1 : Int))) + (1 : Int))), ((IntKind.i64.wrap ((IntKind.i64.wrap ((IntKind.i64.wrap (x137 + (1 : Int))) + (1 : Int))) + (1 : Int))), ((IntKind.i64.wrap ((IntKind.i64.wrap ((IntKind.i64.wrap ((IntKind.i64.wrap (x137 + (1 : Int))) + (1 : Int))) + (1 : Int))) + (1 : Int))), (((Int.tmod (IntKind.i64.wrap ((IntKind.i64.wrap ((IntKind.i64.wrap ((IntKind.i64.wrap ((IntKind.i64.wrap (x137 + (1 : Int))) + (1 : Int))) + (1 : Int))) + (1 : Int))) + (1 : Int))) (3 : Int)) == (0 : Int)), (x136.getD x138.toNat (Ty.dflt Y40)).2.2.2.2.2.2))))))).getD x138.toNat (Ty.dflt Y40)).2.2.2.1, (((x136.set x138.toNat (x137, (y190, ((IntKind.i64.wrap ((IntKind.i64.wrap (x137 + (1 : Int))) + (1 : Int))), ((IntKind.i64.wrap ((IntKind.i64.wrap ((IntKind.i64.wrap (x137 + (1 : Int))) + (1 : Int))) + (1 : Int))), ((IntKind.i64.wrap ((IntKind.i64.wrap ((IntKind.i64.wrap ((IntKind.i64.wrap (x137 + (1 : Int))) + (1 : Int))) + (1 : Int))) + (1 : Int))), (((Int.tmod (IntKind.i64.wrap ((IntKind.i64.wrap ((IntKind.i64.wrap ((IntKind.i64.wrap ((IntKind.i64.wrap (x137 + (1 : Int))) + (1 : Int))) + (1 : Int))) + (1 : Int))) + (1 : Int))) (3 : Int)) == (0 : Int)), (x136.getD x138.toNat (Ty.dflt Y40)).2.2.2.2.2.2))))))).getD x138.toNat (Ty.dflt Y40)).2.2.2.2.1, (((x136.set x138.toNat (x137, (y190, ((IntKind.i64.wrap ((IntKind.i64.wrap (x137 + (1 : Int))) + (1 : Int))), ((IntKind.i64.wrap ((IntKind.i64.wrap ((IntKind.i64.wrap (x137 + (1 : Int))) + (1 : Int))) + (1 : Int))), ((IntKind.i64.wrap ((IntKind.i64.wrap ((IntKind.i64.wrap ((IntKind.i64.wrap (x137 + (1 : Int))) + (1 : Int))) + (1 : Int))) + (1 : Int))), (((Int.tmod (IntKind.i64.wrap ((IntKind.i64.wrap ((IntKind.i64.wrap ((IntKind.i64.wrap ((IntKind.i64.wrap (x137 + (1 : Int))) + (1 : Int))) + (1 : Int))) + (1 : Int))) + (1 : Int))) (3 : Int)) == (0 : Int)), (x136.getD x138.toNat (Ty.dflt Y40)).2.2.2.2.2.2))))))).getD x138.toNat (Ty.dflt Y40)).2.2.2.2.2.1, y202.1))))))) .dp]⟩ (tn 3) ?_
        exact aro [.ren [0, 1, 5, 65536] [0]] ⟨((x136.set x138.toNat (x137, (y190, ((IntKind.i64.wrap ((IntKind.i64.wrap (x137 + (1 : Int))) + (1 : Int))), ((IntKind.i64.wrap ((IntKind.i64.wrap ((IntKind.i64.wrap (x137 + (1 : Int))) + (1 : Int))) + (1 : Int))), ((IntKind.i64.wrap ((IntKind.i64.wrap ((IntKind.i64.wrap ((IntKind.i64.wrap (x137 + (1 : Int))) + (1 : Int))) + (1 : Int))) + (1 : Int))), (((Int.tmod (IntKind.i64.wrap ((IntKind.i64.wrap ((IntKind.i64.wrap ((IntKind.i64.wrap ((IntKind.i64.wrap (x137 + (1 : Int))) + (1 : Int))) + (1 : Int))) + (1 : Int))) + (1 : Int))) (3 : Int)) == (0 : Int)), (x136.getD x138.toNat (Ty.dflt Y40)).2.2.2.2.2.2))))))).set x138.toNat (((x136.set x138.toNat (x137, (y190, ((IntKind.i64.wrap ((IntKind.i64.wrap (x137 + (1 : Int))) + (1 : Int))), ((IntKind.i64.wrap ((IntKind.i64.wrap ((IntKind.i64.wrap (x137 + (1 : Int))) + (1 : Int))) + (1 : Int))), ((IntKind.i64.wrap ((IntKind.i64.wrap ((IntKind.i64.wrap ((IntKind.i64.wrap (x137 + (1 : Int))) + (1 : Int))) + (1 : Int))) + (1 : Int))), (((Int.tmod (IntKind.i64.wrap ((IntKind.i64.wrap ((IntKind.i64.wrap ((IntKind.i64.wrap ((IntKind.i64.wrap (x137 + (1 : Int))) + (1 : Int))) + (1 : Int))) + (1 : Int))) + (1 : Int))) (3 : Int)) == (0 : Int)), (x136.getD x138.toNat (Ty.dflt Y40)).2.2.2.2.2.2))))))).getD x138.toNat (Ty.dflt Y40)).1, (((x136.set x138.toNat (x137, (y190, ((IntKind.i64.wrap ((IntKind.i64.wrap (x137 + (1 : Int))) + (1 : Int))), ((IntKind.i64.wrap ((IntKind.i64.wrap ((IntKind.i64.wrap (x137 + (1 : Int))) + (1 : Int))) + (1 : Int))), ((IntKind.i64.wrap ((IntKind.i64.wrap ((IntKind.i64.wrap ((IntKind.i64.wrap (x137 + (1 : Int))) + (1 : Int))) + (1 : Int))) + (1 : Int))), (((Int.tmod (IntKind.i64.wrap ((IntKind.i64.wrap ((IntKind.i64.wrap ((IntKind.i64.wrap ((IntKind.i64.wrap (x137 + (1 : Int))) + (1 : Int))) + (1 : Int))) + (1 : Int))) + (1 : Int))) (3 : Int)) == (0 : Int)), (x136.getD x138.toNat (Ty.dflt Y40)).2.2.2.2.2.2))))))).getD x138.toNat (Ty.dflt Y40)).2.1, (((x136.set x138.toNat (x137, (y190, ((IntKind.i64.wrap ((IntKind.i64.wrap (x137 + (1 : Int))) + (1 : Int))), ((IntKind.i64.wrap ((IntKind.i64.wrap ((IntKind.i64.wrap (x137 + (1 : Int))) + (1 : Int))) + (1 : Int))), ((IntKind.i64.wrap ((IntKind.i64.wrap ((IntKind.i64.wrap ((IntKind.i64.wrap (x137 + (1 : Int))) + (1 : Int))) + (1 : Int))) + (1 : Int))), (((Int.tmod (IntKind.i64.wrap ((IntKind.i64.wrap ((IntKind.i64.wrap ((IntKind.i64.wrap ((IntKind.i64.wrap (x137 + (1 : Int))) + (1 : Int))) + (1 : Int))) + (1 : Int))) + (1 : Int))) (3 : Int)) == (0 : Int)), (x136.getD x138.toNat (Ty.dflt Y40)).2.2.2.2.2.2))))))).getD x138.toNat (Ty.dflt Y40)).2.2.1, (((x136.set x138.toNat (x137, (y190, ((IntKind.i64.wrap ((IntKind.i64.wrap (x137 + (1 : Int))) + (1 : Int))), ((IntKind.i64.wrap ((IntKind.i64.wrap ((IntKind.i64.wrap (x137 + (1 : Int))) + (1 : Int))) + (1 : Int))), ((IntKind.i64.wrap ((IntKind.i64.wrap ((IntKind.i64.wrap ((IntKind.i64.wrap (x137 + (1 : Int))) + (1 : Int))) + (1 : Int))) + (1 : Int))), (((Int.tmod (IntKind.i64.wrap ((IntKind.i64.wrap ((IntKind.i64.wrap ((IntKind.i64.wrap ((IntKind.i64.wrap (x137 + (1 : Int))) + (1 : Int))) + (1 : Int))) + (1 : Int))) + (1 : Int))) (3 : Int)) == (0 : Int)), (x136.getD x138.toNat (Ty.dflt Y40)).2.2.2.2.2.2))))))).getD x138.toNat (Ty.dflt Y40)).2.2.2.1, (((x136.set x138.toNat (x137, (y190, ((IntKind.i64.wrap ((IntKind.i64.wrap (x137 + (1 : Int))) + (1 : Int))), ((IntKind.i64.wrap ((IntKind.i64.wrap ((IntKind.i64.wrap (x137 + (1 : Int))) + (1 : Int))) + (1 : Int))), ((IntKind.i64.wrap ((IntKind.i64.wrap ((IntKind.i64.wrap ((IntKind.i64.wrap (x137 + (1 : Int))) + (1 : Int))) + (1 : Int))) + (1 : Int))), (((Int.tmod (IntKind.i64.wrap ((IntKind.i64.wrap ((IntKind.i64.wrap ((IntKind.i64.wrap ((IntKind.i64.wrap (x137 + (1 : Int))) + (1 : Int))) + (1 : Int))) + (1 : Int))) + (1 : Int))) (3 : Int)) == (0 : Int)), (x136.getD x138.toNat (Ty.dflt Y40)).2.2.2.2.2.2))))))).getD x138.toNat (Ty.dflt Y40)).2.2.2.2.1, (((x136.set x138.toNat (x137, (y190, ((IntKind.i64.wrap ((IntKind.i64.wrap (x137 + (1 : Int))) + (1 : Int))), ((IntKind.i64.wrap ((IntKind.i64.wrap ((IntKind.i64.wrap (x137 + (1 : Int))) + (1 : Int))) + (1 : Int))), ((IntKind.i64.wrap ((IntKind.i64.wrap ((IntKind.i64.wrap ((IntKind.i64.wrap (x137 + (1 : Int))) + (1 : Int))) + (1 : Int))) + (1 : Int))), (((Int.tmod (IntKind.i64.wrap ((IntKind.i64.wrap ((IntKind.i64.wrap ((IntKind.i64.wrap ((IntKind.i64.wrap (x137 + (1 : Int))) + (1 : Int))) + (1 : Int))) + (1 : Int))) + (1 : Int))) (3 : Int)) == (0 : Int)), (x136.getD x138.toNat (Ty.dflt Y40)).2.2.2.2.2.2))))))).getD x138.toNat (Ty.dflt Y40)).2.2.2.2.2.1, y202.1))))))), y202.2, (IntKind.i64.wrap (x138 + (1 : Int))), rfl, h⟩
      refine VW.exit ?_
      exact arv [.ren [1, 65536] [0]] ⟨x137, x136, rfl, h⟩
  rintro s ⟨x101, x102, rfl, h⟩
  unfold F13_j0 at h
  refine sR T_ok [4, 65536] [0] ⟨[(4, I x101), (65536, .lf (.hd 0 0 none))], [ar 0 Y40 x102 .dp]⟩ (tn 2) ?_
  replace h := Option.some.inj h
  subst h
  refine VW.ghl [.ren [4, 65536] [0]] (VW.ret ?_)
  exact ⟨[], by kernel_rfl, by kernel_rfl, by kernel_rfl⟩

/- loop.example/g00844/laws.heldIntS -/
def F20_j0 (N : Nat) (x16 : Int) : Option (Int) :=
  some x16
def F20_l0_b (N : Nat) (a0 : (List Int)) (nx28 : Int → Int → Option (Int)) (x22 : Int) (x23 : Int) : Option (Int) :=
  cond (decide (x23 < (a0.length : Int))) (gd (InR x23 a0.length) (cond ((a0.getD x23.toNat (Ty.dflt (.int .i64))) != x22) (some (-1 : Int)) (nx28 (IntKind.i64.wrap (x22 + (1 : Int))) (IntKind.i64.wrap (x23 + (1 : Int)))))) (F20_j0 N x22)
def F20_l0 (N : Nat) (a0 : (List Int)) : Nat → Int → Int → Option (Int) := loopF (F20_l0_b N a0) (fun _ _ => none)
theorem F20_l0_s (N : Nat) (a0 : (List Int)) {k : Nat} (hk : 0 < k) (x22 : Int) (x23 : Int) : F20_l0 N a0 k x22 x23 = F20_l0_b N a0 (F20_l0 N a0 (k - 1)) x22 x23 := by
  cases k with
  | zero => exact absurd hk (Nat.lt_irrefl 0)
  | succ m => rfl
def F20 (N : Nat) (a0 : (List Int)) (a1 : Int) : Option (Int) :=
  F20_l0 N a0 N a1 (0 : Int)
theorem ok20 (N : Nat) (a0 : (List Int)) (a1 : Int) {r : Int} (h : F20 N a0 a1 = some r) : Con Go.Proofs.Try.prog 20 [.lf (.v (.sl (.int .i64)) a0), I a1] [.lf (.v (.int .i64) r)] := by
  refine ctr [.lf (.v (.int .i64))] T_ok Go.Proofs.Try.func20 rfl fun w0 E0 => ?_
  unfold F20 at h
  show VW _ _ _ _ _ (retQ _ _ _ _) _
  refine sR T_ok [0, 1] [] ⟨[(0, .lf (.v (.sl (.int .i64)) a0)), (1, I a1)], []⟩ (tn 1) ?_
  refine VW.join (fun s => ∃ (x16 : Int), s = ⟨[(1, I x16)], []⟩ ∧ F20_j0 N x16 = some r) ?_ ?_
  · refine sR T_ok [0, 1, 5] [] ⟨[(0, .lf (.v (.sl (.int .i64)) a0)), (1, I a1), (5, I (0 : Int))], []⟩ (tn 1) ?_
    refine VW.block ?_
    refine lop (fun k s => ∃ (x22 : Int) (x23 : Int), s = ⟨[(0, .lf (.v (.sl (.int .i64)) a0)), (1, I x22), (5, I x23)], []⟩ ∧ F20_l0 N a0 k x22 x23 = some r) N [.ren [0, 1, 5] []] ⟨a1, (0 : Int), rfl, h⟩ ?_
    rintro k28 s ⟨x22, x23, rfl, h⟩
    cases k28 with
    | zero => cases show none = some r from h
    | succ k28 =>
      replace h : F20_l0_b N a0 (F20_l0 N a0 k28) x22 x23 = some r := h
      unfold F20_l0_b at h
      refine VW.seq ?_
      refine sR T_ok [0, 1, 5, 9] [] ⟨[(0, .lf (.v (.sl (.int .i64)) a0)), (1, I x22), (5, I x23), (9, B (decide (x23 < (a0.length : Int))))], []⟩ (tn 4) ?_
      refine cnd h (fun h => ?_) (fun h => ?_)
      · refine VW.skip ?_
        refine VW.seq ?_
        refine VW.block ?_
        refine VW.seq ?_
        obtain ⟨g32, h⟩ := gd_some h
        refine sR T_ok [0, 1, 5, 17] [] ⟨[(0, .lf (.v (.sl (.int .i64)) a0)), (1, I x22), (5, I x23), (17, B ((a0.getD x23.toNat (Ty.dflt (.int .i64))) != x22))], []⟩ (pu 2 (an g32 (tn 3))) ?_
        refine cnd h (fun h => ?_) (fun h => ?_)
        · refine sR T_ok [4] [] ⟨[(4, I (-1 : Int))], []⟩ (tn 1) ?_
          refine VW.ret ?_
          replace h := Option.some.inj h
          subst h
          exact rt []
        refine VW.skip ?_
        refine rR T_ok [0, 1, 5] [] ⟨[(0, .lf (.v (.sl (.int .i64)) a0)), (1, I (IntKind.i64.wrap (x22 + (1 : Int)))), (5, I x23)], []⟩ (tn 3) ?_
        refine rR T_ok [0, 1, 5] [] ⟨[(0, .lf (.v (.sl (.int .i64)) a0)), (1, I (IntKind.i64.wrap (x22 + (1 : Int)))), (5, I (IntKind.i64.wrap (x23 + (1 : Int))))], []⟩ (tn 3) ?_
        exact aro [.ren [0, 1, 5] []] ⟨(IntKind.i64.wrap (x22 + (1 : Int))), (IntKind.i64.wrap (x23 + (1 : Int))), rfl, h⟩
      refine VW.exit ?_
      exact arv [.ren [1] []] ⟨x22, rfl, h⟩
  rintro s ⟨x16, rfl, h⟩
  unfold F20_j0 at h
  refine sR T_ok [4] [] ⟨[(4, I x16)], []⟩ (tn 2) ?_
  refine VW.ret ?_
  replace h := Option.some.inj h
  subst h
  exact rt []

/- loop.example/g00844/laws.heldNodeS -/
def F15_j0 (N : Nat) (x100 : Int) : Option (Int) :=
  some x100
def F15_l0_b (N : Nat) (a0 : (List (Int × (ByteArray × (Int × (Int × (Int × (Bool × (List Int))))))))) (nx168 : Int → Int → Option (Int)) (x134 : Int) (x135 : Int) : Option (Int) :=
  cond (decide (x135 < (a0.length : Int))) (gd (InR x135 a0.length) (cond (((a0.getD x135.toNat (Ty.dflt Y40)).1) != x134) (some (-1 : Int)) (gd (InR x135 a0.length) (andO (F28 N (IntKind.i64.wrap (x134 + (1 : Int)))) fun y190 => cond (!(((a0.getD x135.toNat (Ty.dflt Y40)).2.1).toList == y190.toList)) (some (-1 : Int)) (gd (InR x135 a0.length) (cond (((a0.getD x135.toNat (Ty.dflt Y40)).2.2.1) != (IntKind.i64.wrap ((IntKind.i64.wrap (x134 + (1 : Int))) + (1 : Int)))) (some (-1 : Int)) (gd (InR x135 a0.length) (cond (((a0.getD x135.toNat (Ty.dflt Y40)).2.2.2.1) != (IntKind.i64.wrap ((IntKind.i64.wrap ((IntKind.i64.wrap (x134 + (1 : Int))) + (1 : Int))) + (1 : Int)))) (some (-1 : Int)) (gd (InR x135 a0.length) (cond (((a0.getD x135.toNat (Ty.dflt Y40)).2.2.2.2.1) != (IntKind.i64.wrap ((IntKind.i64.wrap ((IntKind.i64.wrap ((IntKind.i64.wrap (x134 + (1 : Int))) + (1 : Int))) + (1 : Int))) + (1 : Int)))) (some (-1 : Int)) (gd (InR x135 a0.length) (cond (!(((a0.getD x135.toNat (Ty.dflt Y40)).2.2.2.2.2.1) == ((Int.tmod (IntKind.i64.wrap ((IntKind.i64.wrap ((IntKind.i64.wrap ((IntKind.i64.wrap ((IntKind.i64.wrap (x134 + (1 : Int))) + (1 : Int))) + (1 : Int))) + (1 : Int))) + (1 : Int))) (3 : Int)) == (0 : Int)))) (some (-1 : Int)) (gd (InR x135 a0.length) (andO (F20 N ((a0.getD x135.toNat (Ty.dflt Y40)).2.2.2.2.2.2) (IntKind.i64.wrap ((IntKind.i64.wrap ((IntKind.i64.wrap ((IntKind.i64.wrap ((IntKind.i64.wrap ((IntKind.i64.wrap (x134 + (1 : Int))) + (1 : Int))) + (1 : Int))) + (1 : Int))) + (1 : Int))) + (1 : Int)))) fun y200 => cond (decide (y200 < (0 : Int))) (some (-1 : Int)) (nx168 y200 (IntKind.i64.wrap (x135 + (1 : Int)))))))))))))))))) (F15_j0 N x134)
def F15_l0 (N : Nat) (a0 : (List (Int × (ByteArray × (Int × (Int × (Int × (Bool × (List Int))))))))) : Nat → Int → Int → Option (Int) := loopF (F15_l0_b N a0) (fun _ _ => none)
theorem F15_l0_s (N : Nat) (a0 : (List (Int × (ByteArray × (Int × (Int × (Int × (Bool × (List Int))))))))) {k : Nat} (hk : 0 < k) (x134 : Int) (x135 : Int) : F15_l0 N a0 k x134 x135 = F15_l0_b N a0 (F15_l0 N a0 (k - 1)) x134 x135 := by
  cases k with
  | zero => exact absurd hk (Nat.lt_irrefl 0)
  | succ m => rfl
def F15 (N : Nat) (a0 : (List (Int × (ByteArray × (Int × (Int × (Int × (Bool × (List Int))))))))) (a1 : Int) : Option (Int) :=
  F15_l0 N a0 N a1 (0 : Int)
theorem ok15 (N : Nat) (a0 : (List (Int × (ByteArray × (Int × (Int × (Int × (Bool × (List Int))))))))) (a1 : Int) {r : Int} (h : F15 N a0 a1 = some r) : Con Go.Proofs.Try.prog 15 [.lf (.v (.sl Y40) a0), I a1] [.lf (.v (.int .i64) r)] := by
  refine ctr [.lf (.v (.int .i64))] T_ok Go.Proofs.Try.func15 rfl fun w0 E0 => ?_
  unfold F15 at h
  show VW _ _ _ _ _ (retQ _ _ _ _) _
  refine sR T_ok [0, 1] [] ⟨[(0, .lf (.v (.sl Y40) a0)), (1, I a1)], []⟩ (tn 1) ?_
  refine VW.join (fun s => ∃ (x100 : Int), s = ⟨[(1, I x100)], []⟩ ∧ F15_j0 N x100 = some r) ?_ ?_
  · refine sR T_ok [0, 1, 5] [] ⟨[(0, .lf (.v (.sl Y40) a0)), (1, I a1), (5, I (0 : Int))], []⟩ (tn 1) ?_
    refine VW.block ?_
    refine lop (fun k s => ∃ (x134 : Int) (x135 : Int), s = ⟨[(0, .lf (.v (.sl Y40) a0)), (1, I x134), (5, I x135)], []⟩ ∧ F15_l0 N a0 k x134 x135 = some r) N [.ren [0, 1, 5] []] ⟨a1, (0 : Int), rfl, h⟩ ?_
    rintro k168 s ⟨x134, x135, rfl, h⟩
    cases k168 with
    | zero => cases show none = some r from h
    | succ k168 =>
      replace h : F15_l0_b N a0 (F15_l0 N a0 k168) x134 x135 = some r := h
      unfold F15_l0_b at h
      refine VW.seq ?_
      refine sR T_ok [0, 1, 5, 9] [] ⟨[(0, .lf (.v (.sl Y40) a0)), (1, I x134), (5, I x135), (9, B (decide (x135 < (a0.length : Int))))], []⟩ (tn 4) ?_
      refine cnd h (fun h => ?_) (fun h => ?_)
      · refine VW.skip ?_
        refine VW.seq ?_
        refine VW.block ?_
        refine VW.seq ?_
        obtain ⟨g186, h⟩ := gd_some h
        refine sR T_ok [0, 1, 5, 18] [] ⟨[(0, .lf (.v (.sl Y40) a0)), (1, I x134), (5, I x135), (18, B (((a0.getD x135.toNat (Ty.dflt Y40)).1) != x134))], []⟩ (pu 2 (an g186 (tn 4))) ?_
        refine cnd h (fun h => ?_) (fun h => ?_)
        · refine sR T_ok [4] [] ⟨[(4, I (-1 : Int))], []⟩ (tn 1) ?_
          refine VW.ret ?_
          replace h := Option.some.inj h
          subst h
          exact rt []
        refine VW.skip ?_
        refine sR T_ok [0, 1, 5] [] ⟨[(0, .lf (.v (.sl Y40) a0)), (1, I (IntKind.i64.wrap (x134 + (1 : Int)))), (5, I x135)], []⟩ (tn 3) ?_
        refine VW.seq ?_
        refine VW.seq ?_
        obtain ⟨g189, h⟩ := gd_some h
        obtain ⟨y190, hy190, h⟩ := andO_some h
        refine VW.drawn (by kernel_rfl) [some (21, .lf (.v (.sl Y40) a0)), some (22, I x135), some (23, .lf (.fp Y40 (a0.getD x135.toNat (Ty.dflt Y40)) 0)), some (24, .lf (.fp Y40 (a0.getD x135.toNat (Ty.dflt Y40)) 1)), some (25, S ((a0.getD x135.toNat (Ty.dflt Y40)).2.1)), some (26, I (IntKind.i64.wrap (x134 + (1 : Int)))), some (27, S y190), some (28, B (!(((a0.getD x135.toNat (Ty.dflt Y40)).2.1).toList == y190.toList)))] [] [[]] [(0, 0), (1, 0), (2, 0), (3, 0), (4, 0), (5, 0), (6, 0), (7, 0)] [0, 1, 5, 28] [] (s' := ⟨[(0, .lf (.v (.sl Y40) a0)), (1, I (IntKind.i64.wrap (x134 + (1 : Int)))), (5, I x135), (28, B (!(((a0.getD x135.toNat (Ty.dflt Y40)).2.1).toList == y190.toList)))], []⟩) (by kernel_rfl) (by kernel_rfl) ⟨⟨_, rfl, Stp.ev T_ok (m := .dp) (φ := True) (by kernel_rfl) trivial⟩,
    ⟨_, rfl, Stp.ev T_ok (m := .dp) (φ := True) (by kernel_rfl) trivial⟩,
    ⟨_, rfl, Stp.ev T_ok (m := .dp) (φ := InR x135 a0.length) (by kernel_rfl) g189⟩,
    ⟨_, rfl, Stp.ev T_ok (m := .dp) (φ := True) (by kernel_rfl) trivial⟩,
    ⟨_, rfl, Stp.ev T_ok (m := .dp) (φ := True) (by kernel_rfl) trivial⟩,
    ⟨_, rfl, Stp.ev T_ok (m := .dp) (φ := True) (by kernel_rfl) trivial⟩,
    ⟨_, rfl, Stp.eq (Stp.call false [.t (.int .i64)] [] T_ok (d := some 27) (by kernel_rfl) (ok28 N _ hy190) rfl) (by kernel_rfl) (by kernel_rfl)⟩,
    ⟨_, rfl, Stp.ev T_ok (m := .dp) (φ := True) (by kernel_rfl) trivial⟩, trivial⟩ (by kernel_rfl) ?_
        refine cnd h (fun h => ?_) (fun h => ?_)
        · refine sR T_ok [4] [] ⟨[(4, I (-1 : Int))], []⟩ (tn 1) ?_
          refine VW.ret ?_
          replace h := Option.some.inj h
          subst h
          exact rt []
        refine VW.skip ?_
        refine sR T_ok [0, 1, 5] [] ⟨[(0, .lf (.v (.sl Y40) a0)), (1, I (IntKind.i64.wrap ((IntKind.i64.wrap (x134 + (1 : Int))) + (1 : Int)))), (5, I x135)], []⟩ (tn 3) ?_
        refine VW.seq ?_
        obtain ⟨g192, h⟩ := gd_some h
        refine sR T_ok [0, 1, 5, 37] [] ⟨[(0, .lf (.v (.sl Y40) a0)), (1, I (IntKind.i64.wrap ((IntKind.i64.wrap (x134 + (1 : Int))) + (1 : Int)))), (5, I x135), (37, B (((a0.getD x135.toNat (Ty.dflt Y40)).2.2.1) != (IntKind.i64.wrap ((IntKind.i64.wrap (x134 + (1 : Int))) + (1 : Int)))))], []⟩ (pu 2 (an g192 (tn 4))) ?_
        refine cnd h (fun h => ?_) (fun h => ?_)
        · refine sR T_ok [4] [] ⟨[(4, I (-1 : Int))], []⟩ (tn 1) ?_
          refine VW.ret ?_
          replace h := Option.some.inj h
          subst h
          exact rt []
        refine VW.skip ?_
        refine sR T_ok [0, 1, 5] [] ⟨[(0, .lf (.v (.sl Y40) a0)), (1, I (IntKind.i64.wrap ((IntKind.i64.wrap ((IntKind.i64.wrap (x134 + (1 : Int))) + (1 : Int))) + (1 : Int)))), (5, I x135)], []⟩ (tn 3) ?_
        refine VW.seq ?_
        obtain ⟨g194, h⟩ := gd_some h
        refine sR T_ok [0, 1, 5, 46] [] ⟨[(0, .lf (.v (.sl Y40) a0)), (1, I (IntKind.i64.wrap ((IntKind.i64.wrap ((IntKind.i64.wrap (x134 + (1 : Int))) + (1 : Int))) + (1 : Int)))), (5, I x135), (46, B (((a0.getD x135.toNat (Ty.dflt Y40)).2.2.2.1) != (IntKind.i64.wrap ((IntKind.i64.wrap ((IntKind.i64.wrap (x134 + (1 : Int))) + (1 : Int))) + (1 : Int)))))], []⟩ (pu 2 (an g194 (tn 4))) ?_
        refine cnd h (fun h => ?_) (fun h => ?_)
        · refine sR T_ok [4] [] ⟨[(4, I (-1 : Int))], []⟩ (tn 1) ?_
          refine VW.ret ?_
          replace h := Option.some.inj h
          subst h
          exact rt []
        refine VW.skip ?_
        refine sR T_ok [0, 1, 5] [] ⟨[(0, .lf (.v (.sl Y40) a0)), (1, I (IntKind.i64.wrap ((IntKind.i64.wrap ((IntKind.i64.wrap ((IntKind.i64.wrap (x134 + (1 : Int))) + (1 : Int))) + (1 : Int))) + (1 : Int)))), (5, I x135)], []⟩ (tn 3) ?_
        refine VW.seq ?_
        obtain ⟨g196, h⟩ := gd_some h
        refine sR T_ok [0, 1, 5, 55] [] ⟨[(0, .lf (.v (.sl Y40) a0)), (1, I (IntKind.i64.wrap ((IntKind.i64.wrap ((IntKind.i64.wrap ((IntKind.i64.wrap (x134 + (1 : Int))) + (1 : Int))) + (1 : Int))) + (1 : Int)))), (5, I x135), (55, B (((a0.getD x135.toNat (Ty.dflt Y40)).2.2.2.2.1) != (IntKind.i64.wrap ((IntKind.i64.wrap ((IntKind.i64.wrap ((IntKind.i64.wrap (x134 + (1 : Int))) + (1 : Int))) + (1 : Int))) + (1 : Int)))))], []⟩ (pu 2 (an g196 (tn 4))) ?_
        refine cnd h (fun h => ?_) (fun h => ?_)
        · refine sR T_ok [4] [] ⟨[(4, I (-1 : Int))], []⟩ (tn 1) ?_
          refine VW.ret ?_
          replace h := Option.some.inj h
          subst h
          exact rt []
        refine VW.skip ?_
        refine sR T_ok [0, 1, 5] [] ⟨[(0, .lf (.v (.sl Y40) a0)), (1, I (IntKind.i64.wrap ((IntKind.i64.wrap ((IntKind.i64.wrap ((IntKind.i64.wrap ((IntKind.i64.wrap (x134 + (1 : Int))) + (1 : Int))) + (1 : Int))) + (1 : Int))) + (1 : Int)))), (5, I x135)], []⟩ (tn 3) ?_
        refine VW.seq ?_
        obtain ⟨g198, h⟩ := gd_some h
        refine sR T_ok [0, 1, 5, 66] [] ⟨[(0, .lf (.v (.sl Y40) a0)), (1, I (IntKind.i64.wrap ((IntKind.i64.wrap ((IntKind.i64.wrap ((IntKind.i64.wrap ((IntKind.i64.wrap (x134 + (1 : Int))) + (1 : Int))) + (1 : Int))) + (1 : Int))) + (1 : Int)))), (5, I x135), (66, B (!(((a0.getD x135.toNat (Ty.dflt Y40)).2.2.2.2.2.1) == ((Int.tmod (IntKind.i64.wrap ((IntKind.i64.wrap ((IntKind.i64.wrap ((IntKind.i64.wrap ((IntKind.i64.wrap (x134 + (1 : Int))) + (1 : Int))) + (1 : Int))) + (1 : Int))) + (1 : Int))) (3 : Int)) == (0 : Int)))))], []⟩ (pu 2 (an g198 (pu 3 (an (show ((3 : Int) ≠ 0) from by decide) (tn 2))))) ?_
        refine cnd h (fun h => ?_) (fun h => ?_)
        · refine sR T_ok [4] [] ⟨[(4, I (-1 : Int))], []⟩ (tn 1) ?_
          refine VW.ret ?_
          replace h := Option.some.inj h
          subst h
          exact rt []
        refine VW.skip ?_
        refine sR T_ok [0, 1, 5] [] ⟨[(0, .lf (.v (.sl Y40) a0)), (1, I (IntKind.i64.wrap ((IntKind.i64.wrap ((IntKind.i64.wrap ((IntKind.i64.wrap ((IntKind.i64.wrap ((IntKind.i64.wrap (x134 + (1 : Int))) + (1 : Int))) + (1 : Int))) + (1 : Int))) + (1 : Int))) + (1 : Int)))), (5, I x135)], []⟩ (tn 3) ?_
        refine VW.seq ?_
        refine VW.region ?_
        obtain ⟨g199, h⟩ := gd_some h
        refine sG T_ok 6 [0, 5, 73, 74] [] ⟨[(0, .lf (.v (.sl Y40) a0)), (5, I x135), (73, .lf (.v (.sl (.int .i64)) ((a0.getD x135.toNat (Ty.dflt Y40)).2.2.2.2.2.2))), (74, I (IntKind.i64.wrap ((IntKind.i64.wrap ((IntKind.i64.wrap ((IntKind.i64.wrap ((IntKind.i64.wrap ((IntKind.i64.wrap (x134 + (1 : Int))) + (1 : Int))) + (1 : Int))) + (1 : Int))) + (1 : Int))) + (1 : Int))))], []⟩ (pu 2 (an g199 (tn 3))) ?_
        obtain ⟨y200, hy, h⟩ := andO_some h
        refine cal false [.t (.sl (.int .i64)), .t (.int .i64)] [] (some 75) T_ok (ok20 N _ _ hy) ?_
        refine sN T_ok [0, 1, 5] [] ⟨[(0, .lf (.v (.sl Y40) a0)), (1, I y200), (5, I x135)], []⟩ (tn 1) ?_
        refine sR T_ok [0, 1, 5, 77] [] ⟨[(0, .lf (.v (.sl Y40) a0)), (1, I y200), (5, I x135), (77, B (decide (y200 < (0 : Int))))], []⟩ (tn 2) ?_
        refine cnd h (fun h => ?_) (fun h => ?_)
        · refine sR T_ok [4] [] ⟨[(4, I (-1 : Int))], []⟩ (tn 1) ?_
          refine VW.ret ?_
          replace h := Option.some.inj h
          subst h
          exact rt []
        refine VW.skip ?_
        refine rR T_ok [0, 1, 5] [] ⟨[(0, .lf (.v (.sl Y40) a0)), (1, I y200), (5, I (IntKind.i64.wrap (x135 + (1 : Int))))], []⟩ (tn 3) ?_
        exact aro [.ren [0, 1, 5] []] ⟨y200, (IntKind.i64.wrap (x135 + (1 : Int))), rfl, h⟩
      refine VW.exit ?_
      exact arv [.ren [1] []] ⟨x134, rfl, h⟩
  rintro s ⟨x100, rfl, h⟩
  unfold F15_j0 at h
  refine sR T_ok [4] [] ⟨[(4, I x100)], []⟩ (tn 2) ?_
  refine VW.ret ?_
  replace h := Option.some.inj h
  subst h
  exact rt []

/- loop.example/g00844/spec.l01Has -/
def F29_j0 (N : Nat) : Option (Bool) :=
  some false
def F29_l0_b (N : Nat) (a0 : (List Int)) (a1 : Int) (nx15 : Int → Option (Bool)) (x12 : Int) : Option (Bool) :=
  cond (decide (x12 < (a0.length : Int))) (gd (InR x12 a0.length) (cond ((a0.getD x12.toNat (Ty.dflt (.int .i64))) == a1) (some true) (nx15 (IntKind.i64.wrap (x12 + (1 : Int)))))) (F29_j0 N)
def F29_l0 (N : Nat) (a0 : (List Int)) (a1 : Int) : Nat → Int → Option (Bool) := loopF (F29_l0_b N a0 a1) (fun _ => none)
theorem F29_l0_s (N : Nat) (a0 : (List Int)) (a1 : Int) {k : Nat} (hk : 0 < k) (x12 : Int) : F29_l0 N a0 a1 k x12 = F29_l0_b N a0 a1 (F29_l0 N a0 a1 (k - 1)) x12 := by
  cases k with
  | zero => exact absurd hk (Nat.lt_irrefl 0)
  | succ m => rfl
def F29 (N : Nat) (a0 : (List Int)) (a1 : Int) : Option (Bool) :=
  F29_l0 N a0 a1 N (0 : Int)
theorem ok29 (N : Nat) (a0 : (List Int)) (a1 : Int) {r : Bool} (h : F29 N a0 a1 = some r) : Con Go.Proofs.Try.prog 29 [.lf (.v (.sl (.int .i64)) a0), I a1] [.lf (.v .bool r)] := by
  refine ctr [.lf (.v .bool)] T_ok Go.Proofs.Try.func29 rfl fun w0 E0 => ?_
  unfold F29 at h
  show VW _ _ _ _ _ (retQ _ _ _ _) _
  refine sR T_ok [0, 1] [] ⟨[(0, .lf (.v (.sl (.int .i64)) a0)), (1, I a1)], []⟩ (tn 1) ?_
  refine VW.join (fun s => s = ⟨[], []⟩ ∧ F29_j0 N = some r) ?_ ?_
  · refine sR T_ok [0, 1, 5] [] ⟨[(0, .lf (.v (.sl (.int .i64)) a0)), (1, I a1), (5, I (0 : Int))], []⟩ (tn 1) ?_
    refine VW.block ?_
    refine lop (fun k s => ∃ (x12 : Int), s = ⟨[(0, .lf (.v (.sl (.int .i64)) a0)), (1, I a1), (5, I x12)], []⟩ ∧ F29_l0 N a0 a1 k x12 = some r) N [.ren [0, 1, 5] []] ⟨(0 : Int), rfl, h⟩ ?_
    rintro k15 s ⟨x12, rfl, h⟩
    cases k15 with
    | zero => cases show none = some r from h
    | succ k15 =>
      replace h : F29_l0_b N a0 a1 (F29_l0 N a0 a1 k15) x12 = some r := h
      unfold F29_l0_b at h
      refine VW.seq ?_
      refine sR T_ok [0, 1, 5, 9] [] ⟨[(0, .lf (.v (.sl (.int .i64)) a0)), (1, I a1), (5, I x12), (9, B (decide (x12 < (a0.length : Int))))], []⟩ (tn 4) ?_
      refine cnd h (fun h => ?_) (fun h => ?_)
      · refine VW.skip ?_
        refine VW.seq ?_
        refine VW.block ?_
        obtain ⟨g17, h⟩ := gd_some h
        refine sR T_ok [0, 1, 5, 17] [] ⟨[(0, .lf (.v (.sl (.int .i64)) a0)), (1, I a1), (5, I x12), (17, B ((a0.getD x12.toNat (Ty.dflt (.int .i64))) == a1))], []⟩ (pu 2 (an g17 (tn 3))) ?_
        refine cnd h (fun h => ?_) (fun h => ?_)
        · refine sR T_ok [4] [] ⟨[(4, B true)], []⟩ (tn 1) ?_
          refine VW.ret ?_
          replace h := Option.some.inj h
          subst h
          exact rt []
        refine VW.skip ?_
        refine rR T_ok [0, 1, 5] [] ⟨[(0, .lf (.v (.sl (.int .i64)) a0)), (1, I a1), (5, I (IntKind.i64.wrap (x12 + (1 : Int))))], []⟩ (tn 3) ?_
        exact aro [.ren [0, 1, 5] []] ⟨(IntKind.i64.wrap (x12 + (1 : Int))), rfl, h⟩
      refine VW.exit ?_
      exact arv [.ren [] []] ⟨rfl, h⟩
  rintro s ⟨rfl, h⟩
  unfold F29_j0 at h
  refine sR T_ok [4] [] ⟨[(4, B false)], []⟩ (tn 1) ?_
  refine VW.ret ?_
  replace h := Option.some.inj h
  subst h
  exact rt []

/- loop.example/g00844/spec.SlotsOf -/
def F46_j0 (N : Nat) (x210 : (List Int)) : Option ((List Int)) :=
  some x210
def F46_j1 (N : Nat) (nx350 : (List Int) → Int → Option ((List Int))) (x281 : Int) (x384 : (List Int)) : Option ((List Int)) :=
  nx350 x384 (IntKind.i64.wrap (x281 + (1 : Int)))
def F46_j2 (N : Nat) (nx408 : (List Int) → Int → Option ((List Int))) (x397 : Int) (x413 : (List Int)) : Option ((List Int)) :=
  nx408 x413 (IntKind.i64.wrap (x397 + (1 : Int)))
def F46_l0_b (N : Nat) (a0 : (List (Int × (ByteArray × (Int × (Int × (Int × (Bool × (List Int))))))))) (nx350 : (List Int) → Int → Option ((List Int))) (x281 : Int) (nx408 : (List Int) → Int → Option ((List Int))) (x396 : (List Int)) (x397 : Int) : Option ((List Int)) :=
  cond (decide (x397 < (a0.length : Int))) (gd (InR x397 a0.length) (cond ((a0.getD x397.toNat (Ty.dflt Y40)).2.2.2.2.2.1) (gd (InR x397 a0.length) (cond (((a0.getD x397.toNat (Ty.dflt Y40)).2.2.2.2.1) == x281) (andO (F29 N x396 x281) fun y417 => cond (!y417) (gd (x396.length + ([x281]).length ≤ lim (.int .i64)) (F46_j2 N nx408 x397 (x396 ++ ([x281])))) (F46_j2 N nx408 x397 x396)) (F46_j2 N nx408 x397 x396))) (F46_j2 N nx408 x397 x396))) (F46_j1 N nx350 x281 x396)
def F46_l0 (N : Nat) (a0 : (List (Int × (ByteArray × (Int × (Int × (Int × (Bool × (List Int))))))))) (nx350 : (List Int) → Int → Option ((List Int))) (x281 : Int) : Nat → (List Int) → Int → Option ((List Int)) := loopF (F46_l0_b N a0 nx350 x281) (fun _ _ => none)
theorem F46_l0_s (N : Nat) (a0 : (List (Int × (ByteArray × (Int × (Int × (Int × (Bool × (List Int))))))))) (nx350 : (List Int) → Int → Option ((List Int))) (x281 : Int) {k : Nat} (hk : 0 < k) (x396 : (List Int)) (x397 : Int) : F46_l0 N a0 nx350 x281 k x396 x397 = F46_l0_b N a0 nx350 x281 (F46_l0 N a0 nx350 x281 (k - 1)) x396 x397 := by
  cases k with
  | zero => exact absurd hk (Nat.lt_irrefl 0)
  | succ m => rfl
def F46_l1_b (N : Nat) (a0 : (List (Int × (ByteArray × (Int × (Int × (Int × (Bool × (List Int))))))))) (nx350 : (List Int) → Int → Option ((List Int))) (x280 : (List Int)) (x281 : Int) : Option ((List Int)) :=
  cond (decide (x281 < (40 : Int))) (F46_l0 N a0 nx350 x281 N x280 (0 : Int)) (F46_j0 N x280)
def F46_l1 (N : Nat) (a0 : (List (Int × (ByteArray × (Int × (Int × (Int × (Bool × (List Int))))))))) : Nat → (List Int) → Int → Option ((List Int)) := loopF (F46_l1_b N a0) (fun _ _ => none)
theorem F46_l1_s (N : Nat) (a0 : (List (Int × (ByteArray × (Int × (Int × (Int × (Bool × (List Int))))))))) {k : Nat} (hk : 0 < k) (x280 : (List Int)) (x281 : Int) : F46_l1 N a0 k x280 x281 = F46_l1_b N a0 (F46_l1 N a0 (k - 1)) x280 x281 := by
  cases k with
  | zero => exact absurd hk (Nat.lt_irrefl 0)
  | succ m => rfl
def F46 (N : Nat) (a0 : (List (Int × (ByteArray × (Int × (Int × (Int × (Bool × (List Int))))))))) : Option ((List Int)) :=
  andO (F22 N a0) fun y2 => cond (!y2) (some ([])) (F46_l1 N a0 N ([]) (0 : Int))
theorem ok46 (N : Nat) (a0 : (List (Int × (ByteArray × (Int × (Int × (Int × (Bool × (List Int))))))))) {r : (List Int)} (h : F46 N a0 = some r) : Con Go.Proofs.Try.prog 46 [.lf (.v (.sl Y40) a0)] [.lf (.own (.int .i64) r .dp)] := by
  refine ctr [.lf (.own (.int .i64) .dp)] T_ok Go.Proofs.Try.func46 rfl fun w0 E0 => ?_
  unfold F46 at h
  show VW _ _ _ _ _ (retQ _ _ _ _) _
  refine sR T_ok [0] [] ⟨[(0, .lf (.v (.sl Y40) a0))], []⟩ (tn 1) ?_
  refine sR T_ok [0, 3] [] ⟨[(0, .lf (.v (.sl Y40) a0)), (3, .lf (.nil))], []⟩ (tn 2) ?_
  refine VW.seq ?_
  refine VW.seq ?_
  refine VW.region ?_
  refine sG T_ok 1 [0, 3, 7] [] ⟨[(0, .lf (.v (.sl Y40) a0)), (3, .lf (.nil)), (7, .lf (.v (.sl Y40) a0))], []⟩ (tn 1) ?_
  obtain ⟨y2, hy, h⟩ := andO_some h
  refine cal false [.t (.sl Y40)] [] (some 8) T_ok (ok22 N _ hy) ?_
  refine sN T_ok [0, 3, 9] [] ⟨[(0, .lf (.v (.sl Y40) a0)), (3, .lf (.nil)), (9, B (!y2))], []⟩ (tn 1) ?_
  refine cnd h (fun h => ?_) (fun h => ?_)
  · refine sR T_ok [2] [] ⟨[(2, .lf (.nil))], []⟩ (tn 1) ?_
    refine VW.ret ?_
    replace h := Option.some.inj h
    subst h
    exact rt [none]
  refine VW.skip ?_
  refine VW.join (fun s => ∃ (x210 : (List Int)), s = ⟨[(3, .lf (.hd 0 0 none))], [ar 0 (.int .i64) x210 .dp]⟩ ∧ F46_j0 N x210 = some r) ?_ ?_
  · refine sR T_ok [0, 3, 4] [] ⟨[(0, .lf (.v (.sl Y40) a0)), (3, .lf (.nil)), (4, I (0 : Int))], []⟩ (tn 1) ?_
    refine VW.block ?_
    refine lop (fun k s => ∃ (x280 : (List Int)) (x281 : Int), s = ⟨[(0, .lf (.v (.sl Y40) a0)), (3, .lf (.hd 0 0 none)), (4, I x281)], [ar 0 (.int .i64) x280 .dp]⟩ ∧ F46_l1 N a0 k x280 x281 = some r) N [.nilS 3 (.int .i64) .dp, .ren [0, 3, 4] [0]] ⟨[], (0 : Int), rfl, h⟩ ?_
    rintro k350 s ⟨x280, x281, rfl, h⟩
    cases k350 with
    | zero => cases show none = some r from h
    | succ k350 =>
      replace h : F46_l1_b N a0 (F46_l1 N a0 k350) x280 x281 = some r := h
      unfold F46_l1_b at h
      refine VW.seq ?_
      refine sR T_ok [0, 3, 4, 11] [0] ⟨[(0, .lf (.v (.sl Y40) a0)), (3, .lf (.hd 0 0 none)), (4, I x281), (11, B (decide (x281 < (40 : Int))))], [ar 0 (.int .i64) x280 .dp]⟩ (tn 2) ?_
      refine cnd h (fun h => ?_) (fun h => ?_)
      · refine VW.skip ?_
        refine VW.join (fun s => ∃ (x384 : (List Int)), s = ⟨[(0, .lf (.v (.sl Y40) a0)), (3, .lf (.hd 0 0 none)), (4, I x281)], [ar 0 (.int .i64) x384 .dp]⟩ ∧ F46_j1 N (F46_l1 N a0 k350) x281 x384 = some r) ?_ ?_
        · refine VW.block ?_
          refine sR T_ok [0, 3, 4, 5] [0] ⟨[(0, .lf (.v (.sl Y40) a0)), (3, .lf (.hd 0 0 none)), (4, I x281), (5, I (0 : Int))], [ar 0 (.int .i64) x280 .dp]⟩ (tn 1) ?_
          refine VW.block ?_
          refine lop (fun k s => ∃ (x396 : (List Int)) (x397 : Int), s = ⟨[(0, .lf (.v (.sl Y40) a0)), (3, .lf (.hd 0 0 none)), (4, I x281), (5, I x397)], [ar 0 (.int .i64) x396 .dp]⟩ ∧ F46_l0 N a0 (F46_l1 N a0 k350) x281 k x396 x397 = some r) N [.ren [0, 3, 4, 5] [0]] ⟨x280, (0 : Int), rfl, h⟩ ?_
          rintro k408 s ⟨x396, x397, rfl, h⟩
          cases k408 with
          | zero => cases show none = some r from h
          | succ k408 =>
            replace h : F46_l0_b N a0 (F46_l1 N a0 k350) x281 (F46_l0 N a0 (F46_l1 N a0 k350) x281 k408) x396 x397 = some r := h
            unfold F46_l0_b at h
            refine VW.seq ?_
            refine sR T_ok [0, 3, 4, 5, 17] [0] ⟨[(0, .lf (.v (.sl Y40) a0)), (3, .lf (.hd 0 0 none)), (4, I x281), (5, I x397), (17, B (decide (x397 < (a0.length : Int))))], [ar 0 (.int .i64) x396 .dp]⟩ (tn 4) ?_
            refine cnd h (fun h => ?_) (fun h => ?_)
            · refine VW.skip ?_
              refine VW.join (fun s => ∃ (x413 : (List Int)), s = ⟨[(0, .lf (.v (.sl Y40) a0)), (3, .lf (.hd 0 0 none)), (4, I x281), (5, I x397)], [ar 0 (.int .i64) x413 .dp]⟩ ∧ F46_j2 N (F46_l0 N a0 (F46_l1 N a0 k350) x281 k408) x397 x413 = some r) ?_ ?_
              · refine VW.block ?_
                refine VW.seq ?_
                refine VW.region ?_
                obtain ⟨g415, h⟩ := gd_some h
                refine sG T_ok 6 [0, 3, 4, 5, 25] [0] ⟨[(0, .lf (.v (.sl Y40) a0)), (3, .lf (.hd 0 0 none)), (4, I x281), (5, I x397), (25, B ((a0.getD x397.toNat (Ty.dflt Y40)).2.2.2.2.2.1))], [ar 0 (.int .i64) x396 .dp]⟩ (pu 2 (an g415 (tn 3))) ?_
                refine spB 25 h (fun h => ?_) (fun h => ?_)
                · obtain ⟨g416, h⟩ := gd_some h
                  refine sG T_ok 9 [0, 3, 4, 5, 34] [0] ⟨[(0, .lf (.v (.sl Y40) a0)), (3, .lf (.hd 0 0 none)), (4, I x281), (5, I x397), (34, B (((a0.getD x397.toNat (Ty.dflt Y40)).2.2.2.2.1) == x281))], [ar 0 (.int .i64) x396 .dp]⟩ (pu 2 (an g416 (tn 6))) ?_
                  refine spB 34 h (fun h => ?_) (fun h => ?_)
                  · refine sG T_ok 2 [0, 3, 4, 5, 34, 35, 36] [0] ⟨[(0, .lf (.v (.sl Y40) a0)), (3, .lf (.hd 0 0 none)), (4, I x281), (5, I x397), (34, B true), (35, .lf (.hd 0 0 none)), (36, I x281)], [ar 0 (.int .i64) x396 .dp]⟩ (tn 2) ?_
                    refine VO.on (j := 14) (want := true) (d := 34) (b := true) rfl rfl rfl (by kernel_rfl) rfl ?_
                    obtain ⟨y417, hy, h⟩ := andO_some h
                    refine cal true [.t (.sl (.int .i64)), .t (.int .i64)] [] (some 37) T_ok (ok29 N _ _ hy) ?_
                    refine sN T_ok [0, 3, 4, 5, 39] [0] ⟨[(0, .lf (.v (.sl Y40) a0)), (3, .lf (.hd 0 0 none)), (4, I x281), (5, I x397), (39, B (!y417))], [ar 0 (.int .i64) x396 .dp]⟩ (tn 2) ?_
                    refine cnd h (fun h => ?_) (fun h => ?_)
                    · obtain ⟨g418, h⟩ := gd_some h
                      refine rR T_ok [0, 3, 4, 5] [0] ⟨[(0, .lf (.v (.sl Y40) a0)), (3, .lf (.hd 0 0 none)), (4, I x281), (5, I x397)], [ar 0 (.int .i64) (x396 ++ ([x281])) .dp]⟩ (pu 3 (an g418 (tn 1))) ?_
                      exact arv [.ren [0, 3, 4, 5] [0]] ⟨(x396 ++ ([x281])), rfl, h⟩
                    refine VW.skip ?_
                    exact arv [.ren [0, 3, 4, 5] [0]] ⟨x396, rfl, h⟩
                  refine sN T_ok [0, 3, 4, 5, 39] [0] ⟨[(0, .lf (.v (.sl Y40) a0)), (3, .lf (.hd 0 0 none)), (4, I x281), (5, I x397), (39, B false)], [ar 0 (.int .i64) x396 .dp]⟩ (tn 5) ?_
                  refine VW.cond (b := false) (by kernel_rfl) (fun h' => nomatch h') (fun _ => ?_)
                  refine VW.skip ?_
                  exact arv [.ren [0, 3, 4, 5] [0]] ⟨x396, rfl, h⟩
                refine sN T_ok [0, 3, 4, 5, 39] [0] ⟨[(0, .lf (.v (.sl Y40) a0)), (3, .lf (.hd 0 0 none)), (4, I x281), (5, I x397), (39, B false)], [ar 0 (.int .i64) x396 .dp]⟩ (tn 14) ?_
                refine VW.cond (b := false) (by kernel_rfl) (fun h' => nomatch h') (fun _ => ?_)
                refine VW.skip ?_
                exact arv [.ren [0, 3, 4, 5] [0]] ⟨x396, rfl, h⟩
              rintro s ⟨x413, rfl, h⟩
              unfold F46_j2 at h
              refine rR T_ok [0, 3, 4, 5] [0] ⟨[(0, .lf (.v (.sl Y40) a0)), (3, .lf (.hd 0 0 none)), (4, I x281), (5, I (IntKind.i64.wrap (x397 + (1 : Int))))], [ar 0 (.int .i64) x413 .dp]⟩ (tn 3) ?_
              exact aro [.ren [0, 3, 4, 5] [0]] ⟨x413, (IntKind.i64.wrap (x397 + (1 : Int))), rfl, h⟩
            refine VW.exit ?_
            exact arv [.ren [0, 3, 4] [0]] ⟨x396, rfl, h⟩
        rintro s ⟨x384, rfl, h⟩
        unfold F46_j1 at h
        refine rR T_ok [0, 3, 4] [0] ⟨[(0, .lf (.v (.sl Y40) a0)), (3, .lf (.hd 0 0 none)), (4, I (IntKind.i64.wrap (x281 + (1 : Int))))], [ar 0 (.int .i64) x384 .dp]⟩ (tn 3) ?_
        exact aro [.ren [0, 3, 4] [0]] ⟨x384, (IntKind.i64.wrap (x281 + (1 : Int))), rfl, h⟩
      refine VW.exit ?_
      exact arv [.ren [3] [0]] ⟨x280, rfl, h⟩
  rintro s ⟨x210, rfl, h⟩
  unfold F46_j0 at h
  refine sR T_ok [2] [0] ⟨[(2, .lf (.hd 0 0 none))], [ar 0 (.int .i64) x210 .dp]⟩ (tn 2) ?_
  refine VW.ret ?_
  replace h := Option.some.inj h
  subst h
  exact rt [some 0]

/- loop.example/g00844/spec.Closed -/
def F31 (N : Nat) (a0 : (List (Int × (ByteArray × (Int × (Int × (Int × (Bool × (List Int))))))))) : Option (Bool) :=
  andO (F22 N a0) fun y1 => cond y1 (andO (F46 N a0) fun y2 => some ((y2.length : Int) == (0 : Int))) (some false)
theorem ok31 (N : Nat) (a0 : (List (Int × (ByteArray × (Int × (Int × (Int × (Bool × (List Int))))))))) {r : Bool} (h : F31 N a0 = some r) : Con Go.Proofs.Try.prog 31 [.lf (.v (.sl Y40) a0)] [.lf (.v .bool r)] := by
  refine ctr [.lf (.v .bool)] T_ok Go.Proofs.Try.func31 rfl fun w0 E0 => ?_
  unfold F31 at h
  show VW _ _ _ _ _ (retQ _ _ _ _) _
  refine sR T_ok [0] [] ⟨[(0, .lf (.v (.sl Y40) a0))], []⟩ (tn 1) ?_
  refine VW.seq ?_
  refine VW.region ?_
  refine sG T_ok 1 [0, 3] [] ⟨[(0, .lf (.v (.sl Y40) a0)), (3, .lf (.v (.sl Y40) a0))], []⟩ (tn 1) ?_
  obtain ⟨y1, hy, h⟩ := andO_some h
  refine cal false [.t (.sl Y40)] [] (some 4) T_ok (ok22 N _ hy) ?_
  refine sG T_ok 1 [0, 5] [] ⟨[(0, .lf (.v (.sl Y40) a0)), (5, B y1)], []⟩ (tn 1) ?_
  refine spB 5 h (fun h => ?_) (fun h => ?_)
  · refine sG T_ok 1 [5, 6] [] ⟨[(5, B true), (6, .lf (.v (.sl Y40) a0))], []⟩ (tn 1) ?_
    refine VO.on (j := 2) (want := true) (d := 5) (b := true) rfl rfl rfl (by kernel_rfl) rfl ?_
    obtain ⟨y2, hy, h⟩ := andO_some h
    refine cal false [.t (.sl Y40)] [] (some 7) T_ok (ok46 N _ hy) ?_
    refine sN T_ok [2] [] ⟨[(2, B ((y2.length : Int) == (0 : Int)))], []⟩ (tn 4) ?_
    refine VW.ret ?_
    replace h := Option.some.inj h
    subst h
    exact rt []
  refine sN T_ok [2] [] ⟨[(2, B false)], []⟩ (tn 6) ?_
  refine VW.ret ?_
  replace h := Option.some.inj h
  subst h
  exact rt []

/- loop.example/g00844/spec.l07Literal -/
def F32 (N : Nat) (a0 : (Int × (ByteArray × (Int × (Int × (Int × (Bool × (List Int)))))))) : Option (Bool) :=
  cond (a0.1 == (1 : Int)) (cond (a0.2.2.2.1 != (3 : Int)) (some true) (some (a0.1 == (6 : Int)))) (some (a0.1 == (6 : Int)))
theorem ok32 (N : Nat) (a0 : (Int × (ByteArray × (Int × (Int × (Int × (Bool × (List Int)))))))) {r : Bool} (h : F32 N a0 = some r) : Con Go.Proofs.Try.prog 32 [.agg [.v (.int .i64) a0.1, .v .str a0.2.1, .v (.int .i64) a0.2.2.1, .v (.int .i64) a0.2.2.2.1, .v (.int .i64) a0.2.2.2.2.1, .v .bool a0.2.2.2.2.2.1, .v (.sl (.int .i64)) a0.2.2.2.2.2.2]] [.lf (.v .bool r)] := by
  refine ctr [.lf (.v .bool)] T_ok Go.Proofs.Try.func32 rfl fun w0 E0 => ?_
  unfold F32 at h
  show VW _ _ _ _ _ (retQ _ _ _ _) _
  refine sR T_ok [1] [0] ⟨[(1, .lf (.ptr 0 0 0 0))], [bx [.v (.int .i64) a0.1, .v .str a0.2.1, .v (.int .i64) a0.2.2.1, .v (.int .i64) a0.2.2.2.1, .v (.int .i64) a0.2.2.2.2.1, .v .bool a0.2.2.2.2.2.1, .v (.sl (.int .i64)) a0.2.2.2.2.2.2] 44]⟩ (tn 2) ?_
  refine VW.seq ?_
  refine VW.region ?_
  refine sG T_ok 4 [1, 6] [0] ⟨[(1, .lf (.ptr 0 0 0 0)), (6, B (a0.1 == (1 : Int)))], [bx [.v (.int .i64) a0.1, .v .str a0.2.1, .v (.int .i64) a0.2.2.1, .v (.int .i64) a0.2.2.2.1, .v (.int .i64) a0.2.2.2.2.1, .v .bool a0.2.2.2.2.2.1, .v (.sl (.int .i64)) a0.2.2.2.2.2.2] 44]⟩ (tn 4) ?_
  refine spB 6 h (fun h => ?_) (fun h => ?_)
  · refine sG T_ok 5 [1, 11] [0] ⟨[(1, .lf (.ptr 0 0 0 0)), (11, B (a0.2.2.2.1 != (3 : Int)))], [bx [.v (.int .i64) a0.1, .v .str a0.2.1, .v (.int .i64) a0.2.2.1, .v (.int .i64) a0.2.2.2.1, .v (.int .i64) a0.2.2.2.2.1, .v .bool a0.2.2.2.2.2.1, .v (.sl (.int .i64)) a0.2.2.2.2.2.2] 44]⟩ (tn 5) ?_
    refine spB 11 h (fun h => ?_) (fun h => ?_)
    · refine sN T_ok [2] [] ⟨[(2, B true)], []⟩ (tn 5) ?_
      refine VW.ret ?_
      replace h := Option.some.inj h
      subst h
      exact rt []
    refine sN T_ok [2] [] ⟨[(2, B (a0.1 == (6 : Int)))], []⟩ (tn 5) ?_
    refine VW.ret ?_
    replace h := Option.some.inj h
    subst h
    exact rt []
  refine sN T_ok [2] [] ⟨[(2, B (a0.1 == (6 : Int)))], []⟩ (tn 10) ?_
  refine VW.ret ?_
  replace h := Option.some.inj h
  subst h
  exact rt []

/- loop.example/g00844/spec.Lift -/
def F18_j0 (N : Nat) (x95 : (List (Int × (ByteArray × (Int × (Int × (Int × (Bool × (List Int))))))))) (x96 : (List Int)) : Option ((List (Int × (ByteArray × (Int × (Int × (Int × (Bool × (List Int)))))))) × (List Int) × Bool) :=
  some (x95, x96, true)
def F18_j1 (N : Nat) (nx159 : (List (Int × (ByteArray × (Int × (Int × (Int × (Bool × (List Int)))))))) → (List Int) → Int → Option ((List (Int × (ByteArray × (Int × (Int × (Int × (Bool × (List Int)))))))) × (List Int) × Bool)) (x129 : Int) (x173 : (List (Int × (ByteArray × (Int × (Int × (Int × (Bool × (List Int))))))))) (x174 : (List Int)) : Option ((List (Int × (ByteArray × (Int × (Int × (Int × (Bool × (List Int)))))))) × (List Int) × Bool) :=
  nx159 x173 x174 (IntKind.i64.wrap (x129 + (1 : Int)))
def F18_l0_b (N : Nat) (nx159 : (List (Int × (ByteArray × (Int × (Int × (Int × (Bool × (List Int)))))))) → (List Int) → Int → Option ((List (Int × (ByteArray × (Int × (Int × (Int × (Bool × (List Int)))))))) × (List Int) × Bool)) (x127 : (List (Int × (ByteArray × (Int × (Int × (Int × (Bool × (List Int))))))))) (x128 : (List Int)) (x129 : Int) : Option ((List (Int × (ByteArray × (Int × (Int × (Int × (Bool × (List Int)))))))) × (List Int) × Bool) :=
  cond (decide (x129 < (x127.length : Int))) (gd (InR x129 x127.length) (gd (x129.toNat < x127.length) (andO (F32 N (x127.getD x129.toNat (Ty.dflt Y40))) fun y180 => cond (!y180) (F18_j1 N nx159 x129 x127 x128) (gd (InR x129 x127.length) (gd (x129.toNat < x127.length) (gd (x128.length + ([(x127.getD x129.toNat (Ty.dflt Y40)).2.2.2.2.1]).length ≤ lim (.int .i64)) (gd (InR x129 x127.length) (gd (x129.toNat < x127.length) (gd (InR x129 (x127.set x129.toNat ((x127.getD x129.toNat (Ty.dflt Y40)).1, ((x127.getD x129.toNat (Ty.dflt Y40)).2.1, ((x127.getD x129.toNat (Ty.dflt Y40)).2.2.1, ((x127.getD x129.toNat (Ty.dflt Y40)).2.2.2.1, ((x127.getD x129.toNat (Ty.dflt Y40)).2.2.2.2.1, (true, (x127.getD x129.toNat (Ty.dflt Y40)).2.2.2.2.2.2))))))).length) (gd (x129.toNat < (x127.set x129.toNat ((x127.getD x129.toNat (Ty.dflt Y40)).1, ((x127.getD x129.toNat (Ty.dflt Y40)).2.1, ((x127.getD x129.toNat (Ty.dflt Y40)).2.2.1, ((x127.getD x129.toNat (Ty.dflt Y40)).2.2.2.1, ((x127.getD x129.toNat (Ty.dflt Y40)).2.2.2.2.1, (true, (x127.getD x129.toNat (Ty.dflt Y40)).2.2.2.2.2.2))))))).length) (F18_j1 N nx159 x129 (x127.set x129.toNat ((x127.getD x129.toNat (Ty.dflt Y40)).1, ((x127.getD x129.toNat (Ty.dflt Y40)).2.1, ((x127.getD x129.toNat (Ty.dflt Y40)).2.2.1, ((x127.getD x129.toNat (Ty.dflt Y40)).2.2.2.1, ((IntKind.i64.wrap (((x128 ++ ([(x127.getD x129.toNat (Ty.dflt Y40)).2.2.2.2.1])).length : Int) - (1 : Int))), (true, (x127.getD x129.toNat (Ty.dflt Y40)).2.2.2.2.2.2))))))) (x128 ++ ([(x127.getD x129.toNat (Ty.dflt Y40)).2.2.2.2.1]))))))))))))) (F18_j0 N x127 x128)
def F18_l0 (N : Nat) : Nat → (List (Int × (ByteArray × (Int × (Int × (Int × (Bool × (List Int)))))))) → (List Int) → Int → Option ((List (Int × (ByteArray × (Int × (Int × (Int × (Bool × (List Int)))))))) × (List Int) × Bool) := loopF (F18_l0_b N) (fun _ _ _ => none)
theorem F18_l0_s (N : Nat) {k : Nat} (hk : 0 < k) (x127 : (List (Int × (ByteArray × (Int × (Int × (Int × (Bool × (List Int))))))))) (x128 : (List Int)) (x129 : Int) : F18_l0 N k x127 x128 x129 = F18_l0_b N (F18_l0 N (k - 1)) x127 x128 x129 := by
  cases k with
  | zero => exact absurd hk (Nat.lt_irrefl 0)
  | succ m => rfl
def F18 (N : Nat) (a0 : (List (Int × (ByteArray × (Int × (Int × (Int × (Bool × (List Int))))))))) : Option ((List (Int × (ByteArray × (Int × (Int × (Int × (Bool × (List Int)))))))) × (List Int) × Bool) :=
  andO (F31 N a0) fun y2 => cond (!y2) (some ([], [], false)) (andO (F23 N a0) fun y3 => F18_l0 N N y3 ([]) (0 : Int))
theorem ok18 (N : Nat) (a0 : (List (Int × (ByteArray × (Int × (Int × (Int × (Bool × (List Int))))))))) {r : (List (Int × (ByteArray × (Int × (Int × (Int × (Bool × (List Int)))))))) × (List Int) × Bool} (h : F18 N a0 = some r) : Con Go.Proofs.Try.prog 18 [.lf (.v (.sl Y40) a0)] [.lf (.own Y40 r.1 .dp), .lf (.own (.int .i64) r.2.1 .dp), .lf (.v .bool r.2.2)] := by
  refine ctr [.lf (.own Y40 .dp), .lf (.own (.int .i64) .dp), .lf (.v .bool)] T_ok Go.Proofs.Try.func18 rfl fun w0 E0 => ?_
  unfold F18 at h
  show VW _ _ _ _ _ (retQ _ _ _ _) _
  refine sR T_ok [0] [] ⟨[(0, .lf (.v (.sl Y40) a0))], []⟩ (tn 3) ?_
  refine VW.seq ?_
  refine VW.seq ?_
  refine VW.region ?_
  refine sG T_ok 1 [0, 8] [] ⟨[(0, .lf (.v (.sl Y40) a0)), (8, .lf (.v (.sl Y40) a0))], []⟩ (tn 1) ?_
  obtain ⟨y2, hy, h⟩ := andO_some h
  refine cal false [.t (.sl Y40)] [] (some 9) T_ok (ok31 N _ hy) ?_
  refine sN T_ok [0, 10] [] ⟨[(0, .lf (.v (.sl Y40) a0)), (10, B (!y2))], []⟩ (tn 1) ?_
  refine cnd h (fun h => ?_) (fun h => ?_)
  · refine sR T_ok [2, 3, 4] [] ⟨[(2, .lf (.nil)), (3, .lf (.nil)), (4, B false)], []⟩ (tn 3) ?_
    refine VW.ret ?_
    replace h := Option.some.inj h
    subst h
    exact rt [none, none]
  refine VW.skip ?_
  refine VW.seq ?_
  refine VW.region ?_
  refine sG T_ok 1 [11] [] ⟨[(11, .lf (.v (.sl Y40) a0))], []⟩ (tn 1) ?_
  obtain ⟨y3, hy, h⟩ := andO_some h
  refine cal false [.t (.sl Y40)] [] (some 12) T_ok (ok23 N _ hy) ?_
  refine sN T_ok [5] [0] ⟨[(5, .lf (.hd 0 0 none))], [ar 0 Y40 y3 .dp]⟩ (tn 1) ?_
  refine sR T_ok [5, 6] [0] ⟨[(5, .lf (.hd 0 0 none)), (6, .lf (.nil))], [ar 0 Y40 y3 .dp]⟩ (tn 2) ?_
  refine VW.join (fun s => ∃ (x95 : (List (Int × (ByteArray × (Int × (Int × (Int × (Bool × (List Int))))))))) (x96 : (List Int)), s = ⟨[(5, .lf (.hd 0 0 none)), (6, .lf (.hd 1 0 none))], [ar 0 Y40 x95 .dp, ar 0 (.int .i64) x96 .dp]⟩ ∧ F18_j0 N x95 x96 = some r) ?_ ?_
  · refine sR T_ok [5, 6, 7] [0] ⟨[(5, .lf (.hd 0 0 none)), (6, .lf (.nil)), (7, I (0 : Int))], [ar 0 Y40 y3 .dp]⟩ (tn 1) ?_
    refine VW.block ?_
    refine lop (fun k s => ∃ (x127 : (List (Int × (ByteArray × (Int × (Int × (Int × (Bool × (List Int))))))))) (x128 : (List Int)) (x129 : Int), s = ⟨[(5, .lf (.hd 0 0 none)), (6, .lf (.hd 1 0 none)), (7, I x129)], [ar 0 Y40 x127 .dp, ar 0 (.int .i64) x128 .dp]⟩ ∧ F18_l0 N k x127 x128 x129 = some r) N [.nilS 6 (.int .i64) .dp, .ren [5, 6, 7] [0, 1]] ⟨y3, [], (0 : Int), rfl, h⟩ ?_
    rintro k159 s ⟨x127, x128, x129, rfl, h⟩
    cases k159 with
    | zero => cases show none = some r from h
    | succ k159 =>
      replace h : F18_l0_b N (F18_l0 N k159) x127 x128 x129 = some r := h
      unfold F18_l0_b at h
      refine VW.seq ?_
      refine sR T_ok [5, 6, 7, 17] [0, 1] ⟨[(5, .lf (.hd 0 0 none)), (6, .lf (.hd 1 0 none)), (7, I x129), (17, B (decide (x129 < (x127.length : Int))))], [ar 0 Y40 x127 .dp, ar 0 (.int .i64) x128 .dp]⟩ (tn 4) ?_
      refine cnd h (fun h => ?_) (fun h => ?_)
      · refine VW.skip ?_
        refine VW.join (fun s => ∃ (x173 : (List (Int × (ByteArray × (Int × (Int × (Int × (Bool × (List Int))))))))) (x174 : (List Int)), s = ⟨[(5, .lf (.hd 0 0 none)), (6, .lf (.hd 1 0 none)), (7, I x129)], [ar 0 Y40 x173 .dp, ar 0 (.int .i64) x174 .dp]⟩ ∧ F18_j1 N (F18_l0 N k159) x129 x173 x174 = some r) ?_ ?_
        · refine VW.block ?_
          refine VW.seq ?_
          refine VW.seq ?_
          refine VW.region ?_
          obtain ⟨g179, h⟩ := gd_some h
          refine sG T_ok 3 [5, 6, 7, 22] [0, 1] ⟨[(5, .lf (.hd 0 0 none)), (6, .lf (.hd 1 0 none)), (7, I x129), (22, .lf (.ptr 0 0 x129.toNat 0))], [ar 0 Y40 x127 .dp, ar 0 (.int .i64) x128 .dp]⟩ (pu 2 (an g179 (tn 0))) ?_
          obtain ⟨g181, h⟩ := gd_some h
          obtain ⟨y180, hy, h⟩ := andO_some h
          refine VO.peek (t := 44) (d1 := 23) (d2 := 24) (id := 0) (cur := 0) (i := x129.toNat) (f := 32) (l := []) (e := Y40) (xs := x127) T_ok (by kernel_rfl) (by kernel_rfl) (by kernel_rfl) (by kernel_rfl) g181 (by kernel_rfl) (ok32 N _ hy) rfl ?_
          refine sN T_ok [5, 6, 7, 25] [0, 1] ⟨[(5, .lf (.hd 0 0 none)), (6, .lf (.hd 1 0 none)), (7, I x129), (25, B (!y180))], [ar 0 Y40 x127 .dp, ar 0 (.int .i64) x128 .dp]⟩ (tn 1) ?_
          refine cnd h (fun h => ?_) (fun h => ?_)
          · refine VW.exit ?_
            exact arv [.ren [5, 6, 7] [0, 1]] ⟨x127, x128, rfl, h⟩
          refine VW.skip ?_
          obtain ⟨g182, h⟩ := gd_some h
          obtain ⟨g183, h⟩ := gd_some h
          obtain ⟨g184, h⟩ := gd_some h
          refine sR T_ok [5, 6, 7] [0, 1] ⟨[(5, .lf (.hd 0 0 none)), (6, .lf (.hd 1 0 none)), (7, I x129)], [ar 0 Y40 x127 .dp, ar 0 (.int .i64) (x128 ++ ([(x127.getD x129.toNat (Ty.dflt Y40)).2.2.2.2.1])) .dp]⟩ (pu 3 (an g182 (pu 1 (an g183 (pu 1 (an g184 (tn 1))))))) ?_
          obtain ⟨g185, h⟩ := gd_some h
          obtain ⟨g186, h⟩ := gd_some h
          refine sR T_ok [5, 6, 7] [0, 1] ⟨[(5, .lf (.hd 0 0 none)), (6, .lf (.hd 1 0 none)), (7, I x129)], [ar 0 Y40 (x127.set x129.toNat ((x127.getD x129.toNat (Ty.dflt Y40)).1, ((x127.getD x129.toNat (Ty.dflt Y40)).2.1, ((x127.getD x129.toNat (Ty.dflt Y40)).2.2.1, ((x127.getD x129.toNat (Ty.dflt Y40)).2.2.2.1, ((x127.getD x129.toNat (Ty.dflt Y40)).2.2.2.2.1, (true, (x127.getD x129.toNat (Ty.dflt Y40)).2.2.2.2.2.2))))))) .dp, ar 0 (.int .i64) (x128 ++ ([(x127.getD x129.toNat (Ty.dflt Y40)).2.2.2.2.1])) .dp]⟩ (pu 2 (an g185 (pu 1 (an g186 (tn 0))))) ?_
          refine VW.region ?_
          obtain ⟨g187, h⟩ := gd_some h
          obtain ⟨g188, h⟩ := gd_some h
          refine sG T_ok 8 [5, 6, 7] [0, 1] ⟨[(5, .lf (.hd 0 0 none)), (6, .lf (.hd 1 0 none)), (7, I x129)], [ar 0 Y40 ((x127.set x129.toNat ((x127.getD x129.toNat (Ty.dflt Y40)).1, ((x127.getD x129.toNat (Ty.dflt Y40)).2.1, ((x127.getD x129.toNat (Ty.dflt Y40)).2.2.1, ((x127.getD x129.toNat (Ty.dflt Y40)).2.2.2.1, ((x127.getD x129.toNat (Ty.dflt Y40)).2.2.2.2.1, (true, (x127.getD x129.toNat (Ty.dflt Y40)).2.2.2.2.2.2))))))).set x129.toNat (((x127.set x129.toNat ((x127.getD x129.toNat (Ty.dflt Y40)).1, ((x127.getD x129.toNat (Ty.dflt Y40)).2.1, ((x127.getD x129.toNat (Ty.dflt Y40)).2.2.1, ((x127.getD x129.toNat (Ty.dflt Y40)).2.2.2.1, ((x127.getD x129.toNat (Ty.dflt Y40)).2.2.2.2.1, (true, (x127.getD x129.toNat (Ty.dflt Y40)).2.2.2.2.2.2))))))).getD x129.toNat (Ty.dflt Y40)).1, (((x127.set x129.toNat ((x127.getD x129.toNat (Ty.dflt Y40)).1, ((x127.getD x129.toNat (Ty.dflt Y40)).2.1, ((x127.getD x129.toNat (Ty.dflt Y40)).2.2.1, ((x127.getD x129.toNat (Ty.dflt Y40)).2.2.2.1, ((x127.getD x129.toNat (Ty.dflt Y40)).2.2.2.2.1, (true, (x127.getD x129.toNat (Ty.dflt Y40)).2.2.2.2.2.2))))))).getD x129.toNat (Ty.dflt Y40)).2.1, (((x127.set x129.toNat ((x127.getD x129.toNat (Ty.dflt Y40)).1, ((x127.getD x129.toNat (Ty.dflt Y40)).2.1, ((x127.getD x129.toNat (Ty.dflt Y40)).2.2.1, ((x127.getD x129.toNat (Ty.dflt Y40)).2.2.2.1, ((x127.getD x129.toNat (Ty.dflt Y40)).2.2.2.2.1, (true, (x127.getD x129.toNat (Ty.dflt Y40)).2.2.2.2.2.2))))))).getD x129.toNat (Ty.dflt Y40)).2.2.1, (((x127.set x129.toNat ((x127.getD x129.toNat (Ty.dflt Y40)).1, ((x127.getD x129.toNat (Ty.dflt Y40)).2.1, ((x127.getD x129.toNat (Ty.dflt Y40)).2.2.1, ((x127.getD x129.toNat (Ty.dflt Y40)).2.2.2.1, ((x127.getD x129.toNat (Ty.dflt Y40)).2.2.2.2.1, (true, (x127.getD x129.toNat (Ty.dflt Y40)).2.2.2.2.2.2))))))).getD x129.toNat (Ty.dflt Y40)).2.2.2.1, ((IntKind.i64.wrap (((x128 ++ ([(x127.getD x129.toNat (Ty.dflt Y40)).2.2.2.2.1])).length : Int) - (1 : Int))), (((x127.set x129.toNat ((x127.getD x129.toNat (Ty.dflt Y40)).1, ((x127.getD x129.toNat (Ty.dflt Y40)).2.1, ((x127.getD x129.toNat (Ty.dflt Y40)).2.2.1, ((x127.getD x129.toNat (Ty.dflt Y40)).2.2.2.1, ((x127.getD x129.toNat (Ty.dflt Y40)).2.2.2.2.1, (true, (x127.getD x129.toNat (Ty.dflt Y40)).2.2.2.2.2.2))))))).getD x129.toNat (Ty.dflt Y40)).2.2.2.2.2.1, ((x127.set x129.toNat ((x127.getD x129.toNat (Ty.dflt Y40)).1, ((x127.getD x129.toNat (Ty.dflt Y40)).2.1, ((x127.getD x129.toNat (Ty.dflt Y40)).2.2.1, ((x127.getD x129.toNat (Ty.dflt Y40)).2.2.2.1, ((x127.getD x129.toNat (Ty.dflt Y40)).2.2.2.2.1, (true, (x127.getD x129.toNat (Ty.dflt Y40)).2.2.2.2.2.2))))))).getD x129.toNat (Ty.dflt Y40)).2.2.2.2.2.2))))))) .dp, ar 0 (.int .i64) (x128 ++ ([(x127.getD x129.toNat (Ty.dflt Y40)).2.2.2.2.1])) .dp]⟩ (pu 5 (an g187 (pu 1 (an g188 (tn 0))))) ?_
          rw [show ((x127.set x129.toNat ((x127.getD x129.toNat (Ty.dflt Y40)).1, ((x127.getD x129.toNat (Ty.dflt Y40)).2.1, ((x127.getD x129.toNat (Ty.dflt Y40)).2.2.1, ((x127.getD x129.toNat (Ty.dflt Y40)).2.2.2.1, ((x127.getD x129.toNat (Ty.dflt Y40)).2.2.2.2.1, (true, (x127.getD x129.toNat (Ty.dflt Y40)).2.2.2.2.2.2))))))).set x129.toNat (((x127.set x129.toNat ((x127.getD x129.toNat (Ty.dflt Y40)).1, ((x127.getD x129.toNat (Ty.dflt Y40)).2.1, ((x127.getD x129.toNat (Ty.dflt Y40)).2.2.1, ((x127.getD x129.toNat (Ty.dflt Y40)).2.2.2.1, ((x127.getD x129.toNat (Ty.dflt Y40)).2.2.2.2.1, (true, (x127.getD x129.toNat (Ty.dflt Y40)).2.2.2.2.2.2))))))).getD x129.toNat (Ty.dflt Y40)).1, (((x127.set x129.toNat ((x127.getD x129.toNat (Ty.dflt Y40)).1, ((x127.getD x129.toNat (Ty.dflt Y40)).2.1, ((x127.getD x129.toNat (Ty.dflt Y40)).2.2.1, ((x127.getD x129.toNat (Ty.dflt Y40)).2.2.2.1, ((x127.getD x129.toNat (Ty.dflt Y40)).2.2.2.2.1, (true, (x127.getD x129.toNat (Ty.dflt Y40)).2.2.2.2.2.2))))))).getD x129.toNat (Ty.dflt Y40)).2.1, (((x127.set x129.toNat ((x127.getD x129.toNat (Ty.dflt Y40)).1, ((x127.getD x129.toNat (Ty.dflt Y40)).2.1, ((x127.getD x129.toNat (Ty.dflt Y40)).2.2.1, ((x127.getD x129.toNat (Ty.dflt Y40)).2.2.2.1, ((x127.getD x129.toNat (Ty.dflt Y40)).2.2.2.2.1, (true, (x127.getD x129.toNat (Ty.dflt Y40)).2.2.2.2.2.2))))))).getD x129.toNat (Ty.dflt Y40)).2.2.1, (((x127.set x129.toNat ((x127.getD x129.toNat (Ty.dflt Y40)).1, ((x127.getD x129.toNat (Ty.dflt Y40)).2.1, ((x127.getD x129.toNat (Ty.dflt Y40)).2.2.1, ((x127.getD x129.toNat (Ty.dflt Y40)).2.2.2.1, ((x127.getD x129.toNat (Ty.dflt Y40)).2.2.2.2.1, (true, (x127.getD x129.toNat (Ty.dflt Y40)).2.2.2.2.2.2))))))).getD x129.toNat (Ty.dflt Y40)).2.2.2.1, ((IntKind.i64.wrap (((x128 ++ ([(x127.getD x129.toNat (Ty.dflt Y40)).2.2.2.2.1])).length : Int) - (1 : Int))), (((x127.set x129.toNat ((x127.getD x129.toNat (Ty.dflt Y40)).1, ((x127.getD x129.toNat (Ty.dflt Y40)).2.1, ((x127.getD x129.toNat (Ty.dflt Y40)).2.2.1, ((x127.getD x129.toNat (Ty.dflt Y40)).2.2.2.1, ((x127.getD x129.toNat (Ty.dflt Y40)).2.2.2.2.1, (true, (x127.getD x129.toNat (Ty.dflt Y40)).2.2.2.2.2.2))))))).getD x129.toNat (Ty.dflt Y40)).2.2.2.2.2.1, ((x127.set x129.toNat ((x127.getD x129.toNat (Ty.dflt Y40)).1, ((x127.getD x129.toNat (Ty.dflt Y40)).2.1, ((x127.getD x129.toNat (Ty.dflt Y40)).2.2.1, ((x127.getD x129.toNat (Ty.dflt Y40)).2.2.2.1, ((x127.getD x129.toNat (Ty.dflt Y40)).2.2.2.2.1, (true, (x127.getD x129.toNat (Ty.dflt Y40)).2.2.2.2.2.2))))))).getD x129.toNat (Ty.dflt Y40)).2.2.2.2.2.2))))))) = (x127.set x129.toNat ((x127.getD x129.toNat (Ty.dflt Y40)).1, ((x127.getD x129.toNat (Ty.dflt Y40)).2.1, ((x127.getD x129.toNat (Ty.dflt Y40)).2.2.1, ((x127.getD x129.toNat (Ty.dflt Y40)).2.2.2.1, ((IntKind.i64.wrap (((x128 ++ ([(x127.getD x129.toNat (Ty.dflt Y40)).2.2.2.2.1])).length : Int) - (1 : Int))), (true, (x127.getD x129.toNat (Ty.dflt Y40)).2.2.2.2.2.2))))))) from set_upd x127 x129.toNat ((x127.getD x129.toNat (Ty.dflt Y40)).1, ((x127.getD x129.toNat (Ty.dflt Y40)).2.1, ((x127.getD x129.toNat (Ty.dflt Y40)).2.2.1, ((x127.getD x129.toNat (Ty.dflt Y40)).2.2.2.1, ((x127.getD x129.toNat (Ty.dflt Y40)).2.2.2.2.1, (true, (x127.getD x129.toNat (Ty.dflt Y40)).2.2.2.2.2.2)))))) (Ty.dflt Y40) (fun z => (z.1, (z.2.1, (z.2.2.1, (z.2.2.2.1, ((IntKind.i64.wrap (((x128 ++ ([(x127.getD x129.toNat (Ty.dflt Y40)).2.2.2.2.1])).length : Int) - (1 : Int))), (z.2.2.2.2.2.1, z.2.2.2.2.2.2))))))) (by simpa using g188)]
          refine sN T_ok [5, 6, 7] [0, 1] ⟨[(5, .lf (.hd 0 0 none)), (6, .lf (.hd 1 0 none)), (7, I x129)], [ar 0 Y40 (x127.set x129.toNat ((x127.getD x129.toNat (Ty.dflt Y40)).1, ((x127.getD x129.toNat (Ty.dflt Y40)).2.1, ((x127.getD x129.toNat (Ty.dflt Y40)).2.2.1, ((x127.getD x129.toNat (Ty.dflt Y40)).2.2.2.1, ((IntKind.i64.wrap (((x128 ++ ([(x127.getD x129.toNat (Ty.dflt Y40)).2.2.2.2.1])).length : Int) - (1 : Int))), (true, (x127.getD x129.toNat (Ty.dflt Y40)).2.2.2.2.2.2))))))) .dp, ar 0 (.int .i64) (x128 ++ ([(x127.getD x129.toNat (Ty.dflt Y40)).2.2.2.2.1])) .dp]⟩ (tn 0) ?_
          exact arv [.ren [5, 6, 7] [0, 1]] ⟨(x127.set x129.toNat ((x127.getD x129.toNat (Ty.dflt Y40)).1, ((x127.getD x129.toNat (Ty.dflt Y40)).2.1, ((x127.getD x129.toNat (Ty.dflt Y40)).2.2.1, ((x127.getD x129.toNat (Ty.dflt Y40)).2.2.2.1, ((IntKind.i64.wrap (((x128 ++ ([(x127.getD x129.toNat (Ty.dflt Y40)).2.2.2.2.1])).length : Int) - (1 : Int))), (true, (x127.getD x129.toNat (Ty.dflt Y40)).2.2.2.2.2.2))))))), (x128 ++ ([(x127.getD x129.toNat (Ty.dflt Y40)).2.2.2.2.1])), rfl, h⟩
        rintro s ⟨x173, x174, rfl, h⟩
        unfold F18_j1 at h
        refine rR T_ok [5, 6, 7] [0, 1] ⟨[(5, .lf (.hd 0 0 none)), (6, .lf (.hd 1 0 none)), (7, I (IntKind.i64.wrap (x129 + (1 : Int))))], [ar 0 Y40 x173 .dp, ar 0 (.int .i64) x174 .dp]⟩ (tn 3) ?_
        exact aro [.ren [5, 6, 7] [0, 1]] ⟨x173, x174, (IntKind.i64.wrap (x129 + (1 : Int))), rfl, h⟩
      refine VW.exit ?_
      exact arv [.ren [5, 6] [0, 1]] ⟨x127, x128, rfl, h⟩
  rintro s ⟨x95, x96, rfl, h⟩
  unfold F18_j0 at h
  refine sR T_ok [2, 3, 4] [0, 1] ⟨[(2, .lf (.hd 0 0 none)), (3, .lf (.hd 1 0 none)), (4, B true)], [ar 0 Y40 x95 .dp, ar 0 (.int .i64) x96 .dp]⟩ (tn 5) ?_
  refine VW.ret ?_
  replace h := Option.some.inj h
  subst h
  exact rt [some 0, some 1]

/- loop.example/g00844/impl.hasSlot$1 -/
def F61 (N : Nat) (a0 : (Int × (ByteArray × (Int × (Int × (Int × (Bool × (List Int)))))))) : Option (Bool) :=
  some a0.2.2.2.2.2.1
theorem ok61 (N : Nat) (a0 : (Int × (ByteArray × (Int × (Int × (Int × (Bool × (List Int)))))))) {r : Bool} (h : F61 N a0 = some r) : Con Go.Proofs.Try.prog 61 [.agg [.v (.int .i64) a0.1, .v .str a0.2.1, .v (.int .i64) a0.2.2.1, .v (.int .i64) a0.2.2.2.1, .v (.int .i64) a0.2.2.2.2.1, .v .bool a0.2.2.2.2.2.1, .v (.sl (.int .i64)) a0.2.2.2.2.2.2]] [.lf (.v .bool r)] := by
  refine ctr [.lf (.v .bool)] T_ok Go.Proofs.Try.func61 rfl fun w0 E0 => ?_
  unfold F61 at h
  show VW _ _ _ _ _ (retQ _ _ _ _) _
  refine sR T_ok [1] [0] ⟨[(1, .lf (.ptr 0 0 0 0))], [bx [.v (.int .i64) a0.1, .v .str a0.2.1, .v (.int .i64) a0.2.2.1, .v (.int .i64) a0.2.2.2.1, .v (.int .i64) a0.2.2.2.2.1, .v .bool a0.2.2.2.2.2.1, .v (.sl (.int .i64)) a0.2.2.2.2.2.2] 44]⟩ (tn 2) ?_
  refine sR T_ok [2] [] ⟨[(2, B a0.2.2.2.2.2.1)], []⟩ (tn 3) ?_
  refine VW.ret ?_
  replace h := Option.some.inj h
  subst h
  exact rt []

/- loop.example/g00844/impl.hasSlot -/
def F47 (N : Nat) (a0 : (List (Int × (ByteArray × (Int × (Int × (Int × (Bool × (List Int))))))))) : Option (Bool) :=
  andO (F41 N a0 (fun z0 => F61 N z0)) fun y1 => some y1
theorem ok47 (N : Nat) (a0 : (List (Int × (ByteArray × (Int × (Int × (Int × (Bool × (List Int))))))))) {r : Bool} (h : F47 N a0 = some r) : Con Go.Proofs.Try.prog 47 [.lf (.v (.sl Y40) a0)] [.lf (.v .bool r)] := by
  refine ctr [.lf (.v .bool)] T_ok Go.Proofs.Try.func47 rfl fun w0 E0 => ?_
  unfold F47 at h
  show VW _ _ _ _ _ (retQ _ _ _ _) _
  refine sR T_ok [0] [] ⟨[(0, .lf (.v (.sl Y40) a0))], []⟩ (tn 1) ?_
  refine VW.seq ?_
  refine VW.region ?_
  refine sG T_ok 1 [3] [] ⟨[(3, .lf (.v (.sl Y40) a0))], []⟩ (tn 1) ?_
  obtain ⟨y1, hy, h⟩ := andO_some h
  refine cal false [.t (.sl Y40), .clo []] [] (some 4) T_ok (ok41 N _ 61  (fun z0 => F61 N z0 ) (fun z0 _ hz => ok61 N z0 hz) hy) ?_
  refine sN T_ok [2] [] ⟨[(2, B y1)], []⟩ (tn 1) ?_
  refine VW.ret ?_
  replace h := Option.some.inj h
  subst h
  exact rt []

/- loop.example/g00844/impl.Closed -/
def F33 (N : Nat) (a0 : (List (Int × (ByteArray × (Int × (Int × (Int × (Bool × (List Int))))))))) : Option (Bool) :=
  andO (F25 N a0) fun y1 => cond y1 (andO (F47 N a0) fun y2 => some (!y2)) (some false)
theorem ok33 (N : Nat) (a0 : (List (Int × (ByteArray × (Int × (Int × (Int × (Bool × (List Int))))))))) {r : Bool} (h : F33 N a0 = some r) : Con Go.Proofs.Try.prog 33 [.lf (.v (.sl Y40) a0)] [.lf (.v .bool r)] := by
  refine ctr [.lf (.v .bool)] T_ok Go.Proofs.Try.func33 rfl fun w0 E0 => ?_
  unfold F33 at h
  show VW _ _ _ _ _ (retQ _ _ _ _) _
  refine sR T_ok [0] [] ⟨[(0, .lf (.v (.sl Y40) a0))], []⟩ (tn 1) ?_
  refine VW.seq ?_
  refine VW.region ?_
  refine sG T_ok 1 [0, 3] [] ⟨[(0, .lf (.v (.sl Y40) a0)), (3, .lf (.v (.sl Y40) a0))], []⟩ (tn 1) ?_
  obtain ⟨y1, hy, h⟩ := andO_some h
  refine cal false [.t (.sl Y40)] [] (some 4) T_ok (ok25 N _ hy) ?_
  refine sG T_ok 1 [0, 5] [] ⟨[(0, .lf (.v (.sl Y40) a0)), (5, B y1)], []⟩ (tn 1) ?_
  refine spB 5 h (fun h => ?_) (fun h => ?_)
  · refine sG T_ok 1 [5, 6] [] ⟨[(5, B true), (6, .lf (.v (.sl Y40) a0))], []⟩ (tn 1) ?_
    refine VO.on (j := 2) (want := true) (d := 5) (b := true) rfl rfl rfl (by kernel_rfl) rfl ?_
    obtain ⟨y2, hy, h⟩ := andO_some h
    refine cal false [.t (.sl Y40)] [] (some 7) T_ok (ok47 N _ hy) ?_
    refine sN T_ok [2] [] ⟨[(2, B (!y2))], []⟩ (tn 3) ?_
    refine VW.ret ?_
    replace h := Option.some.inj h
    subst h
    exact rt []
  refine sN T_ok [2] [] ⟨[(2, B false)], []⟩ (tn 5) ?_
  refine VW.ret ?_
  replace h := Option.some.inj h
  subst h
  exact rt []

/- (loop.example/g00844/impl.Node).isLiteral -/
def F34 (N : Nat) (a0 : (Int × (ByteArray × (Int × (Int × (Int × (Bool × (List Int)))))))) : Option (Bool) :=
  cond (a0.1 == (1 : Int)) (cond (a0.2.2.2.1 != (3 : Int)) (some true) (some (a0.1 == (6 : Int)))) (some (a0.1 == (6 : Int)))
theorem ok34 (N : Nat) (a0 : (Int × (ByteArray × (Int × (Int × (Int × (Bool × (List Int)))))))) {r : Bool} (h : F34 N a0 = some r) : Con Go.Proofs.Try.prog 34 [.agg [.v (.int .i64) a0.1, .v .str a0.2.1, .v (.int .i64) a0.2.2.1, .v (.int .i64) a0.2.2.2.1, .v (.int .i64) a0.2.2.2.2.1, .v .bool a0.2.2.2.2.2.1, .v (.sl (.int .i64)) a0.2.2.2.2.2.2]] [.lf (.v .bool r)] := by
  refine ctr [.lf (.v .bool)] T_ok Go.Proofs.Try.func34 rfl fun w0 E0 => ?_
  unfold F34 at h
  show VW _ _ _ _ _ (retQ _ _ _ _) _
  refine sR T_ok [1] [0] ⟨[(1, .lf (.ptr 0 0 0 0))], [bx [.v (.int .i64) a0.1, .v .str a0.2.1, .v (.int .i64) a0.2.2.1, .v (.int .i64) a0.2.2.2.1, .v (.int .i64) a0.2.2.2.2.1, .v .bool a0.2.2.2.2.2.1, .v (.sl (.int .i64)) a0.2.2.2.2.2.2] 44]⟩ (tn 2) ?_
  refine VW.seq ?_
  refine VW.region ?_
  refine sG T_ok 4 [1, 6] [0] ⟨[(1, .lf (.ptr 0 0 0 0)), (6, B (a0.1 == (1 : Int)))], [bx [.v (.int .i64) a0.1, .v .str a0.2.1, .v (.int .i64) a0.2.2.1, .v (.int .i64) a0.2.2.2.1, .v (.int .i64) a0.2.2.2.2.1, .v .bool a0.2.2.2.2.2.1, .v (.sl (.int .i64)) a0.2.2.2.2.2.2] 44]⟩ (tn 4) ?_
  refine spB 6 h (fun h => ?_) (fun h => ?_)
  · refine sG T_ok 5 [1, 11] [0] ⟨[(1, .lf (.ptr 0 0 0 0)), (11, B (a0.2.2.2.1 != (3 : Int)))], [bx [.v (.int .i64) a0.1, .v .str a0.2.1, .v (.int .i64) a0.2.2.1, .v (.int .i64) a0.2.2.2.1, .v (.int .i64) a0.2.2.2.2.1, .v .bool a0.2.2.2.2.2.1, .v (.sl (.int .i64)) a0.2.2.2.2.2.2] 44]⟩ (tn 5) ?_
    refine spB 11 h (fun h => ?_) (fun h => ?_)
    · refine sN T_ok [2] [] ⟨[(2, B true)], []⟩ (tn 5) ?_
      refine VW.ret ?_
      replace h := Option.some.inj h
      subst h
      exact rt []
    refine sN T_ok [2] [] ⟨[(2, B (a0.1 == (6 : Int)))], []⟩ (tn 5) ?_
    refine VW.ret ?_
    replace h := Option.some.inj h
    subst h
    exact rt []
  refine sN T_ok [2] [] ⟨[(2, B (a0.1 == (6 : Int)))], []⟩ (tn 10) ?_
  refine VW.ret ?_
  replace h := Option.some.inj h
  subst h
  exact rt []

/- loop.example/g00844/impl.Lift -/
def F19_j0 (N : Nat) (x61 : (List (Int × (ByteArray × (Int × (Int × (Int × (Bool × (List Int))))))))) (x62 : (List Int)) : Option ((List (Int × (ByteArray × (Int × (Int × (Int × (Bool × (List Int)))))))) × (List Int) × Bool) :=
  some (x61, x62, true)
def F19_j1 (N : Nat) (nx103 : (List (Int × (ByteArray × (Int × (Int × (Int × (Bool × (List Int)))))))) → (List Int) → Int → Int → Option ((List (Int × (ByteArray × (Int × (Int × (Int × (Bool × (List Int)))))))) × (List Int) × Bool)) (x84 : Int) (x85 : Int) (x111 : (List (Int × (ByteArray × (Int × (Int × (Int × (Bool × (List Int))))))))) (x112 : (List Int)) : Option ((List (Int × (ByteArray × (Int × (Int × (Int × (Bool × (List Int)))))))) × (List Int) × Bool) :=
  nx103 x111 x112 x84 (IntKind.i64.wrap (x85 + (1 : Int)))
def F19_l0_b (N : Nat) (nx103 : (List (Int × (ByteArray × (Int × (Int × (Int × (Bool × (List Int)))))))) → (List Int) → Int → Int → Option ((List (Int × (ByteArray × (Int × (Int × (Int × (Bool × (List Int)))))))) × (List Int) × Bool)) (x82 : (List (Int × (ByteArray × (Int × (Int × (Int × (Bool × (List Int))))))))) (x83 : (List Int)) (x84 : Int) (x85 : Int) : Option ((List (Int × (ByteArray × (Int × (Int × (Int × (Bool × (List Int)))))))) × (List Int) × Bool) :=
  cond (decide (x85 < x84)) (gd (InR x85 x82.length) (gd (x85.toNat < x82.length) (andO (F34 N (x82.getD x85.toNat (Ty.dflt Y40))) fun y115 => cond y115 (gd (x85.toNat < x82.length) (gd (x83.length + ([(x82.getD x85.toNat (Ty.dflt Y40)).2.2.2.2.1]).length ≤ lim (.int .i64)) (gd (x85.toNat < x82.length) (gd (x85.toNat < (x82.set x85.toNat ((x82.getD x85.toNat (Ty.dflt Y40)).1, ((x82.getD x85.toNat (Ty.dflt Y40)).2.1, ((x82.getD x85.toNat (Ty.dflt Y40)).2.2.1, ((x82.getD x85.toNat (Ty.dflt Y40)).2.2.2.1, ((IntKind.i64.wrap (((x83 ++ ([(x82.getD x85.toNat (Ty.dflt Y40)).2.2.2.2.1])).length : Int) - (1 : Int))), ((x82.getD x85.toNat (Ty.dflt Y40)).2.2.2.2.2.1, (x82.getD x85.toNat (Ty.dflt Y40)).2.2.2.2.2.2))))))).length) (F19_j1 N nx103 x84 x85 (x82.set x85.toNat ((x82.getD x85.toNat (Ty.dflt Y40)).1, ((x82.getD x85.toNat (Ty.dflt Y40)).2.1, ((x82.getD x85.toNat (Ty.dflt Y40)).2.2.1, ((x82.getD x85.toNat (Ty.dflt Y40)).2.2.2.1, ((IntKind.i64.wrap (((x83 ++ ([(x82.getD x85.toNat (Ty.dflt Y40)).2.2.2.2.1])).length : Int) - (1 : Int))), (true, (x82.getD x85.toNat (Ty.dflt Y40)).2.2.2.2.2.2))))))) (x83 ++ ([(x82.getD x85.toNat (Ty.dflt Y40)).2.2.2.2.1]))))))) (F19_j1 N nx103 x84 x85 x82 x83)))) (F19_j0 N x82 x83)
def F19_l0 (N : Nat) : Nat → (List (Int × (ByteArray × (Int × (Int × (Int × (Bool × (List Int)))))))) → (List Int) → Int → Int → Option ((List (Int × (ByteArray × (Int × (Int × (Int × (Bool × (List Int)))))))) × (List Int) × Bool) := loopF (F19_l0_b N) (fun _ _ _ _ => none)
theorem F19_l0_s (N : Nat) {k : Nat} (hk : 0 < k) (x82 : (List (Int × (ByteArray × (Int × (Int × (Int × (Bool × (List Int))))))))) (x83 : (List Int)) (x84 : Int) (x85 : Int) : F19_l0 N k x82 x83 x84 x85 = F19_l0_b N (F19_l0 N (k - 1)) x82 x83 x84 x85 := by
  cases k with
  | zero => exact absurd hk (Nat.lt_irrefl 0)
  | succ m => rfl
def F19 (N : Nat) (a0 : (List (Int × (ByteArray × (Int × (Int × (Int × (Bool × (List Int))))))))) : Option ((List (Int × (ByteArray × (Int × (Int × (Int × (Bool × (List Int)))))))) × (List Int) × Bool) :=
  andO (F33 N a0) fun y2 => cond (!y2) (some ([], [], false)) (andO (F26 N a0) fun y3 => F19_l0 N N y3 ([]) (y3.length : Int) (0 : Int))
theorem ok19 (N : Nat) (a0 : (List (Int × (ByteArray × (Int × (Int × (Int × (Bool × (List Int))))))))) {r : (List (Int × (ByteArray × (Int × (Int × (Int × (Bool × (List Int)))))))) × (List Int) × Bool} (h : F19 N a0 = some r) : Con Go.Proofs.Try.prog 19 [.lf (.v (.sl Y40) a0)] [.lf (.own Y40 r.1 .dp), .lf (.own (.int .i64) r.2.1 .dp), .lf (.v .bool r.2.2)] := by
  refine ctr [.lf (.own Y40 .dp), .lf (.own (.int .i64) .dp), .lf (.v .bool)] T_ok Go.Proofs.Try.func19 rfl fun w0 E0 => ?_
  unfold F19 at h
  show VW _ _ _ _ _ (retQ _ _ _ _) _
  refine sR T_ok [0] [] ⟨[(0, .lf (.v (.sl Y40) a0))], []⟩ (tn 3) ?_
  refine VW.seq ?_
  refine VW.seq ?_
  refine VW.region ?_
  refine sG T_ok 1 [0, 9] [] ⟨[(0, .lf (.v (.sl Y40) a0)), (9, .lf (.v (.sl Y40) a0))], []⟩ (tn 1) ?_
  obtain ⟨y2, hy, h⟩ := andO_some h
  refine cal false [.t (.sl Y40)] [] (some 10) T_ok (ok33 N _ hy) ?_
  refine sN T_ok [0, 11] [] ⟨[(0, .lf (.v (.sl Y40) a0)), (11, B (!y2))], []⟩ (tn 1) ?_
  refine cnd h (fun h => ?_) (fun h => ?_)
  · refine sR T_ok [2, 3, 4] [] ⟨[(2, .lf (.nil)), (3, .lf (.nil)), (4, B false)], []⟩ (tn 3) ?_
    refine VW.ret ?_
    replace h := Option.some.inj h
    subst h
    exact rt [none, none]
  refine VW.skip ?_
  refine VW.seq ?_
  refine VW.region ?_
  refine sG T_ok 1 [12] [] ⟨[(12, .lf (.v (.sl Y40) a0))], []⟩ (tn 1) ?_
  obtain ⟨y3, hy, h⟩ := andO_some h
  refine cal false [.t (.sl Y40)] [] (some 13) T_ok (ok26 N _ hy) ?_
  refine sN T_ok [5] [0] ⟨[(5, .lf (.hd 0 0 none))], [ar 0 Y40 y3 .dp]⟩ (tn 1) ?_
  refine sR T_ok [5, 6] [0] ⟨[(5, .lf (.hd 0 0 none)), (6, .lf (.nil))], [ar 0 Y40 y3 .dp]⟩ (tn 1) ?_
  refine VW.join (fun s => ∃ (x61 : (List (Int × (ByteArray × (Int × (Int × (Int × (Bool × (List Int))))))))) (x62 : (List Int)), s = ⟨[(5, .lf (.hd 0 0 none)), (6, .lf (.hd 1 0 none))], [ar 0 Y40 x61 .dp, ar 0 (.int .i64) x62 .dp]⟩ ∧ F19_j0 N x61 x62 = some r) ?_ ?_
  · refine sR T_ok [5, 6, 15, 16] [0] ⟨[(5, .lf (.hd 0 0 none)), (6, .lf (.nil)), (15, I (y3.length : Int)), (16, I (0 : Int))], [ar 0 Y40 y3 .dp]⟩ (tn 3) ?_
    refine VW.block ?_
    refine lop (fun k s => ∃ (x82 : (List (Int × (ByteArray × (Int × (Int × (Int × (Bool × (List Int))))))))) (x83 : (List Int)) (x84 : Int) (x85 : Int), s = ⟨[(5, .lf (.hd 0 0 none)), (6, .lf (.hd 1 0 none)), (15, I x84), (16, I x85)], [ar 0 Y40 x82 .dp, ar 0 (.int .i64) x83 .dp]⟩ ∧ F19_l0 N k x82 x83 x84 x85 = some r) N [.nilS 6 (.int .i64) .dp, .ren [5, 6, 15, 16] [0, 1]] ⟨y3, [], (y3.length : Int), (0 : Int), rfl, h⟩ ?_
    rintro k103 s ⟨x82, x83, x84, x85, rfl, h⟩
    cases k103 with
    | zero => cases show none = some r from h
    | succ k103 =>
      replace h : F19_l0_b N (F19_l0 N k103) x82 x83 x84 x85 = some r := h
      unfold F19_l0_b at h
      refine sR T_ok [5, 6, 15, 16, 17] [0, 1] ⟨[(5, .lf (.hd 0 0 none)), (6, .lf (.hd 1 0 none)), (15, I x84), (16, I x85), (17, B (decide (x85 < x84)))], [ar 0 Y40 x82 .dp, ar 0 (.int .i64) x83 .dp]⟩ (tn 1) ?_
      refine VW.seq ?_
      refine cnd h (fun h => ?_) (fun h => ?_)
      · refine VW.skip ?_
        refine VW.join (fun s => ∃ (x111 : (List (Int × (ByteArray × (Int × (Int × (Int × (Bool × (List Int))))))))) (x112 : (List Int)), s = ⟨[(5, .lf (.hd 0 0 none)), (6, .lf (.hd 1 0 none)), (15, I x84), (16, I x85)], [ar 0 Y40 x111 .dp, ar 0 (.int .i64) x112 .dp]⟩ ∧ F19_j1 N (F19_l0 N k103) x84 x85 x111 x112 = some r) ?_ ?_
        · refine VW.block ?_
          refine sR T_ok [5, 6, 7, 15, 16] [0, 1] ⟨[(5, .lf (.hd 0 0 none)), (6, .lf (.hd 1 0 none)), (7, I x85), (15, I x84), (16, I x85)], [ar 0 Y40 x82 .dp, ar 0 (.int .i64) x83 .dp]⟩ (tn 2) ?_
          obtain ⟨g114, h⟩ := gd_some h
          refine sR T_ok [5, 6, 8, 15, 16] [0, 1] ⟨[(5, .lf (.hd 0 0 none)), (6, .lf (.hd 1 0 none)), (8, .lf (.ptr 0 0 x85.toNat 0)), (15, I x84), (16, I x85)], [ar 0 Y40 x82 .dp, ar 0 (.int .i64) x83 .dp]⟩ (pu 2 (an g114 (tn 1))) ?_
          refine VW.seq ?_
          refine VW.region ?_
          refine sG T_ok 2 [5, 6, 8, 15, 16, 23] [0, 1] ⟨[(5, .lf (.hd 0 0 none)), (6, .lf (.hd 1 0 none)), (8, .lf (.ptr 0 0 x85.toNat 0)), (15, I x84), (16, I x85), (23, .lf (.ptr 0 0 x85.toNat 0))], [ar 0 Y40 x82 .dp, ar 0 (.int .i64) x83 .dp]⟩ (tn 2) ?_
          obtain ⟨g116, h⟩ := gd_some h
          obtain ⟨y115, hy, h⟩ := andO_some h
          refine VO.peek (t := 44) (d1 := 24) (d2 := 25) (id := 0) (cur := 0) (i := x85.toNat) (f := 34) (l := []) (e := Y40) (xs := x82) T_ok (by kernel_rfl) (by kernel_rfl) (by kernel_rfl) (by kernel_rfl) g116 (by kernel_rfl) (ok34 N _ hy) rfl ?_
          refine sN T_ok [5, 6, 8, 15, 16, 25] [0, 1] ⟨[(5, .lf (.hd 0 0 none)), (6, .lf (.hd 1 0 none)), (8, .lf (.ptr 0 0 x85.toNat 0)), (15, I x84), (16, I x85), (25, B y115)], [ar 0 Y40 x82 .dp, ar 0 (.int .i64) x83 .dp]⟩ (tn 0) ?_
          refine cnd h (fun h => ?_) (fun h => ?_)
          · obtain ⟨g117, h⟩ := gd_some h
            obtain ⟨g118, h⟩ := gd_some h
            refine sR T_ok [5, 6, 8, 15, 16] [0, 1] ⟨[(5, .lf (.hd 0 0 none)), (6, .lf (.hd 1 0 none)), (8, .lf (.ptr 0 0 x85.toNat 0)), (15, I x84), (16, I x85)], [ar 0 Y40 x82 .dp, ar 0 (.int .i64) (x83 ++ ([(x82.getD x85.toNat (Ty.dflt Y40)).2.2.2.2.1])) .dp]⟩ (pu 4 (an g117 (pu 1 (an g118 (tn 1))))) ?_
            obtain ⟨g119, h⟩ := gd_some h
            refine sR T_ok [5, 6, 8, 15, 16] [0, 1] ⟨[(5, .lf (.hd 0 0 none)), (6, .lf (.hd 1 0 none)), (8, .lf (.ptr 0 0 x85.toNat 0)), (15, I x84), (16, I x85)], [ar 0 Y40 (x82.set x85.toNat ((x82.getD x85.toNat (Ty.dflt Y40)).1, ((x82.getD x85.toNat (Ty.dflt Y40)).2.1, ((x82.getD x85.toNat (Ty.dflt Y40)).2.2.1, ((x82.getD x85.toNat (Ty.dflt Y40)).2.2.2.1, ((IntKind.i64.wrap (((x83 ++ ([(x82.getD x85.toNat (Ty.dflt Y40)).2.2.2.2.1])).length : Int) - (1 : Int))), ((x82.getD x85.toNat (Ty.dflt Y40)).2.2.2.2.2.1, (x82.getD x85.toNat (Ty.dflt Y40)).2.2.2.2.2.2))))))) .dp, ar 0 (.int .i64) (x83 ++ ([(x82.getD x85.toNat (Ty.dflt Y40)).2.2.2.2.1])) .dp]⟩ (pu 6 (an g119 (tn 0))) ?_
            refine VW.region ?_
            obtain ⟨g120, h⟩ := gd_some h
            refine sG T_ok 4 [5, 6, 15, 16] [0, 1] ⟨[(5, .lf (.hd 0 0 none)), (6, .lf (.hd 1 0 none)), (15, I x84), (16, I x85)], [ar 0 Y40 ((x82.set x85.toNat ((x82.getD x85.toNat (Ty.dflt Y40)).1, ((x82.getD x85.toNat (Ty.dflt Y40)).2.1, ((x82.getD x85.toNat (Ty.dflt Y40)).2.2.1, ((x82.getD x85.toNat (Ty.dflt Y40)).2.2.2.1, ((IntKind.i64.wrap (((x83 ++ ([(x82.getD x85.toNat (Ty.dflt Y40)).2.2.2.2.1])).length : Int) - (1 : Int))), ((x82.getD x85.toNat (Ty.dflt Y40)).2.2.2.2.2.1, (x82.getD x85.toNat (Ty.dflt Y40)).2.2.2.2.2.2))))))).set x85.toNat (((x82.set x85.toNat ((x82.getD x85.toNat (Ty.dflt Y40)).1, ((x82.getD x85.toNat (Ty.dflt Y40)).2.1, ((x82.getD x85.toNat (Ty.dflt Y40)).2.2.1, ((x82.getD x85.toNat (Ty.dflt Y40)).2.2.2.1, ((IntKind.i64.wrap (((x83 ++ ([(x82.getD x85.toNat (Ty.dflt Y40)).2.2.2.2.1])).length : Int) - (1 : Int))), ((x82.getD x85.toNat (Ty.dflt Y40)).2.2.2.2.2.1, (x82.getD x85.toNat (Ty.dflt Y40)).2.2.2.2.2.2))))))).getD x85.toNat (Ty.dflt Y40)).1, (((x82.set x85.toNat ((x82.getD x85.toNat (Ty.dflt Y40)).1, ((x82.getD x85.toNat (Ty.dflt Y40)).2.1, ((x82.getD x85.toNat (Ty.dflt Y40)).2.2.1, ((x82.getD x85.toNat (Ty.dflt Y40)).2.2.2.1, ((IntKind.i64.wrap (((x83 ++ ([(x82.getD x85.toNat (Ty.dflt Y40)).2.2.2.2.1])).length : Int) - (1 : Int))), ((x82.getD x85.toNat (Ty.dflt Y40)).2.2.2.2.2.1, (x82.getD x85.toNat (Ty.dflt Y40)).2.2.2.2.2.2))))))).getD x85.toNat (Ty.dflt Y40)).2.1, (((x82.set x85.toNat ((x82.getD x85.toNat (Ty.dflt Y40)).1, ((x82.getD x85.toNat (Ty.dflt Y40)).2.1, ((x82.getD x85.toNat (Ty.dflt Y40)).2.2.1, ((x82.getD x85.toNat (Ty.dflt Y40)).2.2.2.1, ((IntKind.i64.wrap (((x83 ++ ([(x82.getD x85.toNat (Ty.dflt Y40)).2.2.2.2.1])).length : Int) - (1 : Int))), ((x82.getD x85.toNat (Ty.dflt Y40)).2.2.2.2.2.1, (x82.getD x85.toNat (Ty.dflt Y40)).2.2.2.2.2.2))))))).getD x85.toNat (Ty.dflt Y40)).2.2.1, (((x82.set x85.toNat ((x82.getD x85.toNat (Ty.dflt Y40)).1, ((x82.getD x85.toNat (Ty.dflt Y40)).2.1, ((x82.getD x85.toNat (Ty.dflt Y40)).2.2.1, ((x82.getD x85.toNat (Ty.dflt Y40)).2.2.2.1, ((IntKind.i64.wrap (((x83 ++ ([(x82.getD x85.toNat (Ty.dflt Y40)).2.2.2.2.1])).length : Int) - (1 : Int))), ((x82.getD x85.toNat (Ty.dflt Y40)).2.2.2.2.2.1, (x82.getD x85.toNat (Ty.dflt Y40)).2.2.2.2.2.2))))))).getD x85.toNat (Ty.dflt Y40)).2.2.2.1, (((x82.set x85.toNat ((x82.getD x85.toNat (Ty.dflt Y40)).1, ((x82.getD x85.toNat (Ty.dflt Y40)).2.1, ((x82.getD x85.toNat (Ty.dflt Y40)).2.2.1, ((x82.getD x85.toNat (Ty.dflt Y40)).2.2.2.1, ((IntKind.i64.wrap (((x83 ++ ([(x82.getD x85.toNat (Ty.dflt Y40)).2.2.2.2.1])).length : Int) - (1 : Int))), ((x82.getD x85.toNat (Ty.dflt Y40)).2.2.2.2.2.1, (x82.getD x85.toNat (Ty.dflt Y40)).2.2.2.2.2.2))))))).getD x85.toNat (Ty.dflt Y40)).2.2.2.2.1, (true, ((x82.set x85.toNat ((x82.getD x85.toNat (Ty.dflt Y40)).1, ((x82.getD x85.toNat (Ty.dflt Y40)).2.1, ((x82.getD x85.toNat (Ty.dflt Y40)).2.2.1, ((x82.getD x85.toNat (Ty.dflt Y40)).2.2.2.1, ((IntKind.i64.wrap (((x83 ++ ([(x82.getD x85.toNat (Ty.dflt Y40)).2.2.2.2.1])).length : Int) - (1 : Int))), ((x82.getD x85.toNat (Ty.dflt Y40)).2.2.2.2.2.1, (x82.getD x85.toNat (Ty.dflt Y40)).2.2.2.2.2.2))))))).getD x85.toNat (Ty.dflt Y40)).2.2.2.2.2.2))))))) .dp, ar 0 (.int .i64) (x83 ++ ([(x82.getD x85.toNat (Ty.dflt Y40)).2.2.2.2.1])) .dp]⟩ (pu 3 (an g120 (tn 0))) ?_
            rw [show ((x82.set x85.toNat ((x82.getD x85.toNat (Ty.dflt Y40)).1, ((x82.getD x85.toNat (Ty.dflt Y40)).2.1, ((x82.getD x85.toNat (Ty.dflt Y40)).2.2.1, ((x82.getD x85.toNat (Ty.dflt Y40)).2.2.2.1, ((IntKind.i64.wrap (((x83 ++ ([(x82.getD x85.toNat (Ty.dflt Y40)).2.2.2.2.1])).length : Int) - (1 : Int))), ((x82.getD x85.toNat (Ty.dflt Y40)).2.2.2.2.2.1, (x82.getD x85.toNat (Ty.dflt Y40)).2.2.2.2.2.2))))))).set x85.toNat (((x82.set x85.toNat ((x82.getD x85.toNat (Ty.dflt Y40)).1, ((x82.getD x85.toNat (Ty.dflt Y40)).2.1, ((x82.getD x85.toNat (Ty.dflt Y40)).2.2.1, ((x82.getD x85.toNat (Ty.dflt Y40)).2.2.2.1, ((IntKind.i64.wrap (((x83 ++ ([(x82.getD x85.toNat (Ty.dflt Y40)).2.2.2.2.1])).length : Int) - (1 : Int))), ((x82.getD x85.toNat (Ty.dflt Y40)).2.2.2.2.2.1, (x82.getD x85.toNat (Ty.dflt Y40)).2.2.2.2.2.2))))))).getD x85.toNat (Ty.dflt Y40)).1, (((x82.set x85.toNat ((x82.getD x85.toNat (Ty.dflt Y40)).1, ((x82.getD x85.toNat (Ty.dflt Y40)).2.1, ((x82.getD x85.toNat (Ty.dflt Y40)).2.2.1, ((x82.getD x85.toNat (Ty.dflt Y40)).2.2.2.1, ((IntKind.i64.wrap (((x83 ++ ([(x82.getD x85.toNat (Ty.dflt Y40)).2.2.2.2.1])).length : Int) - (1 : Int))), ((x82.getD x85.toNat (Ty.dflt Y40)).2.2.2.2.2.1, (x82.getD x85.toNat (Ty.dflt Y40)).2.2.2.2.2.2))))))).getD x85.toNat (Ty.dflt Y40)).2.1, (((x82.set x85.toNat ((x82.getD x85.toNat (Ty.dflt Y40)).1, ((x82.getD x85.toNat (Ty.dflt Y40)).2.1, ((x82.getD x85.toNat (Ty.dflt Y40)).2.2.1, ((x82.getD x85.toNat (Ty.dflt Y40)).2.2.2.1, ((IntKind.i64.wrap (((x83 ++ ([(x82.getD x85.toNat (Ty.dflt Y40)).2.2.2.2.1])).length : Int) - (1 : Int))), ((x82.getD x85.toNat (Ty.dflt Y40)).2.2.2.2.2.1, (x82.getD x85.toNat (Ty.dflt Y40)).2.2.2.2.2.2))))))).getD x85.toNat (Ty.dflt Y40)).2.2.1, (((x82.set x85.toNat ((x82.getD x85.toNat (Ty.dflt Y40)).1, ((x82.getD x85.toNat (Ty.dflt Y40)).2.1, ((x82.getD x85.toNat (Ty.dflt Y40)).2.2.1, ((x82.getD x85.toNat (Ty.dflt Y40)).2.2.2.1, ((IntKind.i64.wrap (((x83 ++ ([(x82.getD x85.toNat (Ty.dflt Y40)).2.2.2.2.1])).length : Int) - (1 : Int))), ((x82.getD x85.toNat (Ty.dflt Y40)).2.2.2.2.2.1, (x82.getD x85.toNat (Ty.dflt Y40)).2.2.2.2.2.2))))))).getD x85.toNat (Ty.dflt Y40)).2.2.2.1, (((x82.set x85.toNat ((x82.getD x85.toNat (Ty.dflt Y40)).1, ((x82.getD x85.toNat (Ty.dflt Y40)).2.1, ((x82.getD x85.toNat (Ty.dflt Y40)).2.2.1, ((x82.getD x85.toNat (Ty.dflt Y40)).2.2.2.1, ((IntKind.i64.wrap (((x83 ++ ([(x82.getD x85.toNat (Ty.dflt Y40)).2.2.2.2.1])).length : Int) - (1 : Int))), ((x82.getD x85.toNat (Ty.dflt Y40)).2.2.2.2.2.1, (x82.getD x85.toNat (Ty.dflt Y40)).2.2.2.2.2.2))))))).getD x85.toNat (Ty.dflt Y40)).2.2.2.2.1, (true, ((x82.set x85.toNat ((x82.getD x85.toNat (Ty.dflt Y40)).1, ((x82.getD x85.toNat (Ty.dflt Y40)).2.1, ((x82.getD x85.toNat (Ty.dflt Y40)).2.2.1, ((x82.getD x85.toNat (Ty.dflt Y40)).2.2.2.1, ((IntKind.i64.wrap (((x83 ++ ([(x82.getD x85.toNat (Ty.dflt Y40)).2.2.2.2.1])).length : Int) - (1 : Int))), ((x82.getD x85.toNat (Ty.dflt Y40)).2.2.2.2.2.1, (x82.getD x85.toNat (Ty.dflt Y40)).2.2.2.2.2.2))))))).getD x85.toNat (Ty.dflt Y40)).2.2.2.2.2.2))))))) = (x82.set x85.toNat ((x82.getD x85.toNat (Ty.dflt Y40)).1, ((x82.getD x85.toNat (Ty.dflt Y40)).2.1, ((x82.getD x85.toNat (Ty.dflt Y40)).2.2.1, ((x82.getD x85.toNat (Ty.dflt Y40)).2.2.2.1, ((IntKind.i64.wrap (((x83 ++ ([(x82.getD x85.toNat (Ty.dflt Y40)).2.2.2.2.1])).length : Int) - (1 : Int))), (true, (x82.getD x85.toNat (Ty.dflt Y40)).2.2.2.2.2.2))))))) from set_upd x82 x85.toNat ((x82.getD x85.toNat (Ty.dflt Y40)).1, ((x82.getD x85.toNat (Ty.dflt Y40)).2.1, ((x82.getD x85.toNat (Ty.dflt Y40)).2.2.1, ((x82.getD x85.toNat (Ty.dflt Y40)).2.2.2.1, ((IntKind.i64.wrap (((x83 ++ ([(x82.getD x85.toNat (Ty.dflt Y40)).2.2.2.2.1])).length : Int) - (1 : Int))), ((x82.getD x85.toNat (Ty.dflt Y40)).2.2.2.2.2.1, (x82.getD x85.toNat (Ty.dflt Y40)).2.2.2.2.2.2)))))) (Ty.dflt Y40) (fun z => (z.1, (z.2.1, (z.2.2.1, (z.2.2.2.1, (z.2.2.2.2.1, (true, z.2.2.2.2.2.2))))))) (by simpa using g120)]
            refine sN T_ok [5, 6, 15, 16] [0, 1] ⟨[(5, .lf (.hd 0 0 none)), (6, .lf (.hd 1 0 none)), (15, I x84), (16, I x85)], [ar 0 Y40 (x82.set x85.toNat ((x82.getD x85.toNat (Ty.dflt Y40)).1, ((x82.getD x85.toNat (Ty.dflt Y40)).2.1, ((x82.getD x85.toNat (Ty.dflt Y40)).2.2.1, ((x82.getD x85.toNat (Ty.dflt Y40)).2.2.2.1, ((IntKind.i64.wrap (((x83 ++ ([(x82.getD x85.toNat (Ty.dflt Y40)).2.2.2.2.1])).length : Int) - (1 : Int))), (true, (x82.getD x85.toNat (Ty.dflt Y40)).2.2.2.2.2.2))))))) .dp, ar 0 (.int .i64) (x83 ++ ([(x82.getD x85.toNat (Ty.dflt Y40)).2.2.2.2.1])) .dp]⟩ (tn 0) ?_
            exact arv [.ren [5, 6, 15, 16] [0, 1]] ⟨(x82.set x85.toNat ((x82.getD x85.toNat (Ty.dflt Y40)).1, ((x82.getD x85.toNat (Ty.dflt Y40)).2.1, ((x82.getD x85.toNat (Ty.dflt Y40)).2.2.1, ((x82.getD x85.toNat (Ty.dflt Y40)).2.2.2.1, ((IntKind.i64.wrap (((x83 ++ ([(x82.getD x85.toNat (Ty.dflt Y40)).2.2.2.2.1])).length : Int) - (1 : Int))), (true, (x82.getD x85.toNat (Ty.dflt Y40)).2.2.2.2.2.2))))))), (x83 ++ ([(x82.getD x85.toNat (Ty.dflt Y40)).2.2.2.2.1])), rfl, h⟩
          refine VW.skip ?_
          exact arv [.ren [5, 6, 15, 16] [0, 1]] ⟨x82, x83, rfl, h⟩
        rintro s ⟨x111, x112, rfl, h⟩
        unfold F19_j1 at h
        refine rR T_ok [5, 6, 15, 16] [0, 1] ⟨[(5, .lf (.hd 0 0 none)), (6, .lf (.hd 1 0 none)), (15, I x84), (16, I (IntKind.i64.wrap (x85 + (1 : Int))))], [ar 0 Y40 x111 .dp, ar 0 (.int .i64) x112 .dp]⟩ (tn 2) ?_
        exact aro [.ren [5, 6, 15, 16] [0, 1]] ⟨x111, x112, x84, (IntKind.i64.wrap (x85 + (1 : Int))), rfl, h⟩
      refine VW.exit ?_
      exact arv [.ren [5, 6] [0, 1]] ⟨x82, x83, rfl, h⟩
  rintro s ⟨x61, x62, rfl, h⟩
  unfold F19_j0 at h
  refine sR T_ok [2, 3, 4] [0, 1] ⟨[(2, .lf (.hd 0 0 none)), (3, .lf (.hd 1 0 none)), (4, B true)], [ar 0 Y40 x61 .dp, ar 0 (.int .i64) x62 .dp]⟩ (tn 5) ?_
  refine VW.ret ?_
  replace h := Option.some.inj h
  subst h
  exact rt [some 0, some 1]

/- loop.example/g00844/laws.FnExactLift -/
def F5 (N : Nat) (a0 : (List (Int × (ByteArray × (Int × (Int × (Int × (Bool × (List Int))))))))) : Option (Bool) :=
  andO (F6 N a0 (1048576 : Int)) fun y1 => cond (decide (y1 < (0 : Int))) (some true) (andO (F8 N a0) fun y2 => andO (F18 N y2) fun y3 => andO (F8 N a0) fun y4 => andO (F19 N y4) fun y5 => andO (F11 N y5.1 y3.1) fun y8 => cond (!y8) (some false) (andO (F12 N y5.2.1 y3.2.1) fun y9 => cond (!y9) (some false) (cond (!(y5.2.2 == y3.2.2)) (some false) (andO (F8 N a0) fun y12 => andO (F11 N y4 y12) fun y13 => cond (!y13) (some false) (andO (F13 N y4 (1 : Int)) fun y14 => cond (decide (y14.2 < (0 : Int))) (some false) (andO (F11 N y5.1 y3.1) fun y17 => cond (!y17) (some false) (andO (F12 N y5.2.1 y3.2.1) fun y18 => cond (!y18) (some false) (cond (!(y5.2.2 == y3.2.2)) (some false) (andO (F13 N y5.1 (1 : Int)) fun y19 => andO (F14 N y5.2.1 y19.2) fun y20 => andO (F15 N y19.1 (1 : Int)) fun y21 => cond (decide (y21 < (0 : Int))) (some false) (andO (F20 N y20.1 y21) fun y22 => cond (decide (y22 < (0 : Int))) (some false) (cond (y22 != y20.2) (some false) (andO (F8 N a0) fun y23 => andO (F19 N y23) fun y24 => andO (F11 N y24.1 y3.1) fun y27 => cond (!y27) (some false) (andO (F12 N y24.2.1 y3.2.1) fun y28 => cond (!y28) (some false) (cond (!(y24.2.2 == y3.2.2)) (some false) (andO (F15 N y19.1 (1 : Int)) fun y29 => cond (decide (y29 < (0 : Int))) (some false) (andO (F20 N y20.1 y29) fun y30 => cond (decide (y30 < (0 : Int))) (some false) (cond (y30 != y20.2) (some false) (some true))))))))))))))))))
theorem ok5 (N : Nat) (a0 : (List (Int × (ByteArray × (Int × (Int × (Int × (Bool × (List Int))))))))) {r : Bool} (h : F5 N a0 = some r) : Con Go.Proofs.Try.prog 5 [.lf (.v (.sl Y40) a0)] [.lf (.v .bool r)] := by
  refine ctr [.lf (.v .bool)] T_ok Go.Proofs.Try.func5 rfl fun w0 E0 => ?_
  unfold F5 at h
  show VW _ _ _ _ _ (retQ _ _ _ _) _
  refine sR T_ok [0] [] ⟨[(0, .lf (.v (.sl Y40) a0))], []⟩ (tn 1) ?_
  refine sR T_ok [0, 3] [] ⟨[(0, .lf (.v (.sl Y40) a0)), (3, I (1048576 : Int))], []⟩ (tn 1) ?_
  refine VW.seq ?_
  refine VW.region ?_
  refine sG T_ok 2 [0, 17, 18] [] ⟨[(0, .lf (.v (.sl Y40) a0)), (17, .lf (.v (.sl Y40) a0)), (18, I (1048576 : Int))], []⟩ (tn 2) ?_
  obtain ⟨y1, hy, h⟩ := andO_some h
  refine cal false [.t (.sl Y40), .t (.int .i64)] [] (some 19) T_ok (ok6 N _ _ hy) ?_
  refine sN T_ok [0, 3] [] ⟨[(0, .lf (.v (.sl Y40) a0)), (3, I y1)], []⟩ (tn 1) ?_
  refine VW.seq ?_
  refine sR T_ok [0, 21] [] ⟨[(0, .lf (.v (.sl Y40) a0)), (21, B (decide (y1 < (0 : Int))))], []⟩ (tn 2) ?_
  refine cnd h (fun h => ?_) (fun h => ?_)
  · refine sR T_ok [2] [] ⟨[(2, B true)], []⟩ (tn 1) ?_
    refine VW.ret ?_
    replace h := Option.some.inj h
    subst h
    exact rt []
  refine VW.skip ?_
  refine VW.seq ?_
  refine VW.region ?_
  refine sG T_ok 1 [0, 23] [] ⟨[(0, .lf (.v (.sl Y40) a0)), (23, .lf (.v (.sl Y40) a0))], []⟩ (tn 1) ?_
  obtain ⟨y2, hy, h⟩ := andO_some h
  refine cal false [.t (.sl Y40)] [] (some 24) T_ok (ok8 N _ hy) ?_
  obtain ⟨y3, hy, h⟩ := andO_some h
  refine cal true [.t (.sl Y40)] [] (some 25) T_ok (ok18 N _ hy) ?_
  refine sN T_ok [0, 4, 5, 6] [1, 2] ⟨[(0, .lf (.v (.sl Y40) a0)), (4, .lf (.hd 0 0 none)), (5, .lf (.hd 1 0 none)), (6, B y3.2.2)], [ar 0 Y40 y3.1 .dp, ar 0 (.int .i64) y3.2.1 .dp]⟩ (tn 7) ?_
  refine VW.seq ?_
  refine VW.region ?_
  refine sG T_ok 1 [0, 4, 5, 6, 29] [0, 1] ⟨[(0, .lf (.v (.sl Y40) a0)), (4, .lf (.hd 0 0 none)), (5, .lf (.hd 1 0 none)), (6, B y3.2.2), (29, .lf (.v (.sl Y40) a0))], [ar 0 Y40 y3.1 .dp, ar 0 (.int .i64) y3.2.1 .dp]⟩ (tn 1) ?_
  obtain ⟨y4, hy, h⟩ := andO_some h
  refine cal false [.t (.sl Y40)] [] (some 30) T_ok (ok8 N _ hy) ?_
  refine sN T_ok [0, 4, 5, 6, 7] [0, 1, 2] ⟨[(0, .lf (.v (.sl Y40) a0)), (4, .lf (.hd 0 0 none)), (5, .lf (.hd 1 0 none)), (6, B y3.2.2), (7, .lf (.hd 2 0 none))], [ar 0 Y40 y3.1 .dp, ar 0 (.int .i64) y3.2.1 .dp, ar 0 Y40 y4 .dp]⟩ (tn 1) ?_
  refine VW.seq ?_
  refine VW.region ?_
  refine sG T_ok 1 [0, 4, 5, 6, 7, 32] [0, 1, 2] ⟨[(0, .lf (.v (.sl Y40) a0)), (4, .lf (.hd 0 0 none)), (5, .lf (.hd 1 0 none)), (6, B y3.2.2), (7, .lf (.hd 2 0 none)), (32, .lf (.hd 2 0 none))], [ar 0 Y40 y3.1 .dp, ar 0 (.int .i64) y3.2.1 .dp, ar 0 Y40 y4 .dp]⟩ (tn 1) ?_
  obtain ⟨y5, hy, h⟩ := andO_some h
  refine cal true [.t (.sl Y40)] [] (some 33) T_ok (ok19 N _ hy) ?_
  refine sN T_ok [0, 4, 5, 6, 7, 8, 9, 10] [0, 1, 2, 3, 4] ⟨[(0, .lf (.v (.sl Y40) a0)), (4, .lf (.hd 0 0 none)), (5, .lf (.hd 1 0 none)), (6, B y3.2.2), (7, .lf (.hd 2 0 none)), (8, .lf (.hd 3 0 none)), (9, .lf (.hd 4 0 none)), (10, B y5.2.2)], [ar 0 Y40 y3.1 .dp, ar 0 (.int .i64) y3.2.1 .dp, ar 0 Y40 y4 .dp, ar 0 Y40 y5.1 .dp, ar 0 (.int .i64) y5.2.1 .dp]⟩ (tn 7) ?_
  refine VW.seq ?_
  refine VW.seq ?_
  refine VW.region ?_
  refine sG T_ok 2 [0, 4, 5, 6, 7, 8, 9, 10, 37, 38] [0, 1, 2, 3, 4] ⟨[(0, .lf (.v (.sl Y40) a0)), (4, .lf (.hd 0 0 none)), (5, .lf (.hd 1 0 none)), (6, B y3.2.2), (7, .lf (.hd 2 0 none)), (8, .lf (.hd 3 0 none)), (9, .lf (.hd 4 0 none)), (10, B y5.2.2), (37, .lf (.hd 3 0 none)), (38, .lf (.hd 0 0 none))], [ar 0 Y40 y3.1 .dp, ar 0 (.int .i64) y3.2.1 .dp, ar 0 Y40 y4 .dp, ar 0 Y40 y5.1 .dp, ar 0 (.int .i64) y5.2.1 .dp]⟩ (tn 2) ?_
  obtain ⟨y8, hy, h⟩ := andO_some h
  refine cal true [.t (.sl Y40), .t (.sl Y40)] [] (some 39) T_ok (ok11 N _ _ hy) ?_
  refine sG T_ok 2 [0, 4, 5, 6, 7, 8, 9, 10, 41] [0, 1, 2, 3, 4] ⟨[(0, .lf (.v (.sl Y40) a0)), (4, .lf (.hd 0 0 none)), (5, .lf (.hd 1 0 none)), (6, B y3.2.2), (7, .lf (.hd 2 0 none)), (8, .lf (.hd 3 0 none)), (9, .lf (.hd 4 0 none)), (10, B y5.2.2), (41, B (!y8))], [ar 0 Y40 y3.1 .dp, ar 0 (.int .i64) y3.2.1 .dp, ar 0 Y40 y4 .dp, ar 0 Y40 y5.1 .dp, ar 0 (.int .i64) y5.2.1 .dp]⟩ (tn 2) ?_
  refine spB 41 h (fun h => ?_) (fun h => ?_)
  · refine sN T_ok [0, 4, 5, 6, 7, 8, 9, 10, 51] [0, 1, 2, 3, 4] ⟨[(0, .lf (.v (.sl Y40) a0)), (4, .lf (.hd 0 0 none)), (5, .lf (.hd 1 0 none)), (6, B y3.2.2), (7, .lf (.hd 2 0 none)), (8, .lf (.hd 3 0 none)), (9, .lf (.hd 4 0 none)), (10, B y5.2.2), (51, B true)], [ar 0 Y40 y3.1 .dp, ar 0 (.int .i64) y3.2.1 .dp, ar 0 Y40 y4 .dp, ar 0 Y40 y5.1 .dp, ar 0 (.int .i64) y5.2.1 .dp]⟩ (tn 10) ?_
    refine VW.cond (b := true) (by kernel_rfl) (fun _ => ?_) (fun h' => nomatch h')
    refine sR T_ok [2] [] ⟨[(2, B false)], []⟩ (tn 1) ?_
    refine VW.ret ?_
    replace h := Option.some.inj h
    subst h
    exact rt []
  refine sG T_ok 2 [0, 4, 5, 6, 7, 8, 9, 10, 41, 42, 43] [0, 1, 2, 3, 4] ⟨[(0, .lf (.v (.sl Y40) a0)), (4, .lf (.hd 0 0 none)), (5, .lf (.hd 1 0 none)), (6, B y3.2.2), (7, .lf (.hd 2 0 none)), (8, .lf (.hd 3 0 none)), (9, .lf (.hd 4 0 none)), (10, B y5.2.2), (41, B false), (42, .lf (.hd 4 0 none)), (43, .lf (.hd 1 0 none))], [ar 0 Y40 y3.1 .dp, ar 0 (.int .i64) y3.2.1 .dp, ar 0 Y40 y4 .dp, ar 0 Y40 y5.1 .dp, ar 0 (.int .i64) y5.2.1 .dp]⟩ (tn 2) ?_
  refine VO.on (j := 4) (want := false) (d := 41) (b := false) rfl rfl rfl (by kernel_rfl) rfl ?_
  obtain ⟨y9, hy, h⟩ := andO_some h
  refine cal true [.t (.sl (.int .i64)), .t (.sl (.int .i64))] [] (some 44) T_ok (ok12 N _ _ hy) ?_
  refine sG T_ok 3 [0, 4, 5, 6, 7, 8, 9, 10, 47] [0, 1, 2, 3, 4] ⟨[(0, .lf (.v (.sl Y40) a0)), (4, .lf (.hd 0 0 none)), (5, .lf (.hd 1 0 none)), (6, B y3.2.2), (7, .lf (.hd 2 0 none)), (8, .lf (.hd 3 0 none)), (9, .lf (.hd 4 0 none)), (10, B y5.2.2), (47, B (!y9))], [ar 0 Y40 y3.1 .dp, ar 0 (.int .i64) y3.2.1 .dp, ar 0 Y40 y4 .dp, ar 0 Y40 y5.1 .dp, ar 0 (.int .i64) y5.2.1 .dp]⟩ (tn 3) ?_
  refine spB 47 h (fun h => ?_) (fun h => ?_)
  · refine sN T_ok [0, 4, 5, 6, 7, 8, 9, 10, 51] [0, 1, 2, 3, 4] ⟨[(0, .lf (.v (.sl Y40) a0)), (4, .lf (.hd 0 0 none)), (5, .lf (.hd 1 0 none)), (6, B y3.2.2), (7, .lf (.hd 2 0 none)), (8, .lf (.hd 3 0 none)), (9, .lf (.hd 4 0 none)), (10, B y5.2.2), (51, B true)], [ar 0 Y40 y3.1 .dp, ar 0 (.int .i64) y3.2.1 .dp, ar 0 Y40 y4 .dp, ar 0 Y40 y5.1 .dp, ar 0 (.int .i64) y5.2.1 .dp]⟩ (tn 4) ?_
    refine VW.cond (b := true) (by kernel_rfl) (fun _ => ?_) (fun h' => nomatch h')
    refine sR T_ok [2] [] ⟨[(2, B false)], []⟩ (tn 1) ?_
    refine VW.ret ?_
    replace h := Option.some.inj h
    subst h
    exact rt []
  refine sN T_ok [0, 4, 5, 6, 7, 8, 9, 10, 51] [0, 1, 2, 3, 4] ⟨[(0, .lf (.v (.sl Y40) a0)), (4, .lf (.hd 0 0 none)), (5, .lf (.hd 1 0 none)), (6, B y3.2.2), (7, .lf (.hd 2 0 none)), (8, .lf (.hd 3 0 none)), (9, .lf (.hd 4 0 none)), (10, B y5.2.2), (51, B (!(y5.2.2 == y3.2.2)))], [ar 0 Y40 y3.1 .dp, ar 0 (.int .i64) y3.2.1 .dp, ar 0 Y40 y4 .dp, ar 0 Y40 y5.1 .dp, ar 0 (.int .i64) y5.2.1 .dp]⟩ (tn 4) ?_
  refine cnd h (fun h => ?_) (fun h => ?_)
  · refine sR T_ok [2] [] ⟨[(2, B false)], []⟩ (tn 1) ?_
    refine VW.ret ?_
    replace h := Option.some.inj h
    subst h
    exact rt []
  refine VW.skip ?_
  refine VW.seq ?_
  refine VW.seq ?_
  refine VW.region ?_
  refine sG T_ok 2 [0, 4, 5, 6, 7, 8, 9, 10, 52, 53] [0, 1, 2, 3, 4] ⟨[(0, .lf (.v (.sl Y40) a0)), (4, .lf (.hd 0 0 none)), (5, .lf (.hd 1 0 none)), (6, B y3.2.2), (7, .lf (.hd 2 0 none)), (8, .lf (.hd 3 0 none)), (9, .lf (.hd 4 0 none)), (10, B y5.2.2), (52, .lf (.hd 2 0 none)), (53, .lf (.v (.sl Y40) a0))], [ar 0 Y40 y3.1 .dp, ar 0 (.int .i64) y3.2.1 .dp, ar 0 Y40 y4 .dp, ar 0 Y40 y5.1 .dp, ar 0 (.int .i64) y5.2.1 .dp]⟩ (tn 2) ?_
  obtain ⟨y12, hy, h⟩ := andO_some h
  refine cal false [.t (.sl Y40)] [] (some 54) T_ok (ok8 N _ hy) ?_
  obtain ⟨y13, hy, h⟩ := andO_some h
  refine cal true [.t (.sl Y40), .t (.sl Y40)] [] (some 55) T_ok (ok11 N _ _ hy) ?_
  refine sN T_ok [0, 4, 5, 6, 7, 8, 9, 10, 56] [0, 1, 2, 3, 4] ⟨[(0, .lf (.v (.sl Y40) a0)), (4, .lf (.hd 0 0 none)), (5, .lf (.hd 1 0 none)), (6, B y3.2.2), (7, .lf (.hd 2 0 none)), (8, .lf (.hd 3 0 none)), (9, .lf (.hd 4 0 none)), (10, B y5.2.2), (56, B (!y13))], [ar 0 Y40 y3.1 .dp, ar 0 (.int .i64) y3.2.1 .dp, ar 0 Y40 y4 .dp, ar 0 Y40 y5.1 .dp, ar 0 (.int .i64) y5.2.1 .dp]⟩ (tn 1) ?_
  refine cnd h (fun h => ?_) (fun h => ?_)
  · refine sR T_ok [2] [] ⟨[(2, B false)], []⟩ (tn 1) ?_
    refine VW.ret ?_
    replace h := Option.some.inj h
    subst h
    exact rt []
  refine VW.skip ?_
  refine sR T_ok [0, 4, 5, 6, 7, 8, 9, 10, 11] [0, 1, 2, 3, 4] ⟨[(0, .lf (.v (.sl Y40) a0)), (4, .lf (.hd 0 0 none)), (5, .lf (.hd 1 0 none)), (6, B y3.2.2), (7, .lf (.hd 2 0 none)), (8, .lf (.hd 3 0 none)), (9, .lf (.hd 4 0 none)), (10, B y5.2.2), (11, I (1 : Int))], [ar 0 Y40 y3.1 .dp, ar 0 (.int .i64) y3.2.1 .dp, ar 0 Y40 y4 .dp, ar 0 Y40 y5.1 .dp, ar 0 (.int .i64) y5.2.1 .dp]⟩ (tn 1) ?_
  refine VW.seq ?_
  refine VW.region ?_
  refine sG T_ok 2 [0, 4, 5, 6, 8, 9, 10, 57, 58] [0, 1, 3, 4, 2] ⟨[(0, .lf (.v (.sl Y40) a0)), (4, .lf (.hd 0 0 none)), (5, .lf (.hd 1 0 none)), (6, B y3.2.2), (8, .lf (.hd 2 0 none)), (9, .lf (.hd 3 0 none)), (10, B y5.2.2), (57, .lf (.hd 4 0 none)), (58, I (1 : Int))], [ar 0 Y40 y3.1 .dp, ar 0 (.int .i64) y3.2.1 .dp, ar 0 Y40 y5.1 .dp, ar 0 (.int .i64) y5.2.1 .dp, ar 0 Y40 y4 .dp]⟩ (tn 2) ?_
  obtain ⟨y14, hy, h⟩ := andO_some h
  refine VO.callM [4] [.t (.sl Y40), .t (.int .i64)] (d := some 59) (by kernel_rfl) (by kernel_rfl) (ok13 N _ _ hy) (by kernel_rfl) ?_
  refine sN T_ok [0, 4, 5, 6, 8, 9, 10, 11] [0, 1, 2, 3] ⟨[(0, .lf (.v (.sl Y40) a0)), (4, .lf (.hd 0 0 none)), (5, .lf (.hd 1 0 none)), (6, B y3.2.2), (8, .lf (.hd 2 0 none)), (9, .lf (.hd 3 0 none)), (10, B y5.2.2), (11, I y14.2)], [ar 0 Y40 y3.1 .dp, ar 0 (.int .i64) y3.2.1 .dp, ar 0 Y40 y5.1 .dp, ar 0 (.int .i64) y5.2.1 .dp]⟩ (tn 1) ?_
  refine VW.seq ?_
  refine VW.seq ?_
  refine VW.region ?_
  refine sG T_ok 3 [0, 4, 5, 6, 8, 9, 10, 62] [0, 1, 2, 3] ⟨[(0, .lf (.v (.sl Y40) a0)), (4, .lf (.hd 0 0 none)), (5, .lf (.hd 1 0 none)), (6, B y3.2.2), (8, .lf (.hd 2 0 none)), (9, .lf (.hd 3 0 none)), (10, B y5.2.2), (62, B (decide (y14.2 < (0 : Int))))], [ar 0 Y40 y3.1 .dp, ar 0 (.int .i64) y3.2.1 .dp, ar 0 Y40 y5.1 .dp, ar 0 (.int .i64) y5.2.1 .dp]⟩ (tn 3) ?_
  refine spB 62 h (fun h => ?_) (fun h => ?_)
  · refine sN T_ok [0, 4, 5, 6, 8, 9, 78] [0, 1, 2, 3] ⟨[(0, .lf (.v (.sl Y40) a0)), (4, .lf (.hd 0 0 none)), (5, .lf (.hd 1 0 none)), (6, B y3.2.2), (8, .lf (.hd 2 0 none)), (9, .lf (.hd 3 0 none)), (78, B true)], [ar 0 Y40 y3.1 .dp, ar 0 (.int .i64) y3.2.1 .dp, ar 0 Y40 y5.1 .dp, ar 0 (.int .i64) y5.2.1 .dp]⟩ (tn 16) ?_
    refine VW.cond (b := true) (by kernel_rfl) (fun _ => ?_) (fun h' => nomatch h')
    refine sR T_ok [2] [] ⟨[(2, B false)], []⟩ (tn 1) ?_
    refine VW.ret ?_
    replace h := Option.some.inj h
    subst h
    exact rt []
  refine sG T_ok 2 [0, 4, 5, 6, 8, 9, 10, 62, 63, 64] [0, 1, 2, 3] ⟨[(0, .lf (.v (.sl Y40) a0)), (4, .lf (.hd 0 0 none)), (5, .lf (.hd 1 0 none)), (6, B y3.2.2), (8, .lf (.hd 2 0 none)), (9, .lf (.hd 3 0 none)), (10, B y5.2.2), (62, B false), (63, .lf (.hd 2 0 none)), (64, .lf (.hd 0 0 none))], [ar 0 Y40 y3.1 .dp, ar 0 (.int .i64) y3.2.1 .dp, ar 0 Y40 y5.1 .dp, ar 0 (.int .i64) y5.2.1 .dp]⟩ (tn 2) ?_
  refine VO.on (j := 2) (want := false) (d := 62) (b := false) rfl rfl rfl (by kernel_rfl) rfl ?_
  obtain ⟨y17, hy, h⟩ := andO_some h
  refine cal true [.t (.sl Y40), .t (.sl Y40)] [] (some 65) T_ok (ok11 N _ _ hy) ?_
  refine sG T_ok 3 [0, 4, 5, 6, 8, 9, 10, 68] [0, 1, 2, 3] ⟨[(0, .lf (.v (.sl Y40) a0)), (4, .lf (.hd 0 0 none)), (5, .lf (.hd 1 0 none)), (6, B y3.2.2), (8, .lf (.hd 2 0 none)), (9, .lf (.hd 3 0 none)), (10, B y5.2.2), (68, B (!y17))], [ar 0 Y40 y3.1 .dp, ar 0 (.int .i64) y3.2.1 .dp, ar 0 Y40 y5.1 .dp, ar 0 (.int .i64) y5.2.1 .dp]⟩ (tn 3) ?_
  refine spB 68 h (fun h => ?_) (fun h => ?_)
  · refine sN T_ok [0, 4, 5, 6, 8, 9, 78] [0, 1, 2, 3] ⟨[(0, .lf (.v (.sl Y40) a0)), (4, .lf (.hd 0 0 none)), (5, .lf (.hd 1 0 none)), (6, B y3.2.2), (8, .lf (.hd 2 0 none)), (9, .lf (.hd 3 0 none)), (78, B true)], [ar 0 Y40 y3.1 .dp, ar 0 (.int .i64) y3.2.1 .dp, ar 0 Y40 y5.1 .dp, ar 0 (.int .i64) y5.2.1 .dp]⟩ (tn 10) ?_
    refine VW.cond (b := true) (by kernel_rfl) (fun _ => ?_) (fun h' => nomatch h')
    refine sR T_ok [2] [] ⟨[(2, B false)], []⟩ (tn 1) ?_
    refine VW.ret ?_
    replace h := Option.some.inj h
    subst h
    exact rt []
  refine sG T_ok 2 [0, 4, 5, 6, 8, 9, 10, 68, 69, 70] [0, 1, 2, 3] ⟨[(0, .lf (.v (.sl Y40) a0)), (4, .lf (.hd 0 0 none)), (5, .lf (.hd 1 0 none)), (6, B y3.2.2), (8, .lf (.hd 2 0 none)), (9, .lf (.hd 3 0 none)), (10, B y5.2.2), (68, B false), (69, .lf (.hd 3 0 none)), (70, .lf (.hd 1 0 none))], [ar 0 Y40 y3.1 .dp, ar 0 (.int .i64) y3.2.1 .dp, ar 0 Y40 y5.1 .dp, ar 0 (.int .i64) y5.2.1 .dp]⟩ (tn 2) ?_
  refine VO.on (j := 8) (want := false) (d := 68) (b := false) rfl rfl rfl (by kernel_rfl) rfl ?_
  obtain ⟨y18, hy, h⟩ := andO_some h
  refine cal true [.t (.sl (.int .i64)), .t (.sl (.int .i64))] [] (some 71) T_ok (ok12 N _ _ hy) ?_
  refine sG T_ok 3 [0, 4, 5, 6, 8, 9, 10, 74] [0, 1, 2, 3] ⟨[(0, .lf (.v (.sl Y40) a0)), (4, .lf (.hd 0 0 none)), (5, .lf (.hd 1 0 none)), (6, B y3.2.2), (8, .lf (.hd 2 0 none)), (9, .lf (.hd 3 0 none)), (10, B y5.2.2), (74, B (!y18))], [ar 0 Y40 y3.1 .dp, ar 0 (.int .i64) y3.2.1 .dp, ar 0 Y40 y5.1 .dp, ar 0 (.int .i64) y5.2.1 .dp]⟩ (tn 3) ?_
  refine spB 74 h (fun h => ?_) (fun h => ?_)
  · refine sN T_ok [0, 4, 5, 6, 8, 9, 78] [0, 1, 2, 3] ⟨[(0, .lf (.v (.sl Y40) a0)), (4, .lf (.hd 0 0 none)), (5, .lf (.hd 1 0 none)), (6, B y3.2.2), (8, .lf (.hd 2 0 none)), (9, .lf (.hd 3 0 none)), (78, B true)], [ar 0 Y40 y3.1 .dp, ar 0 (.int .i64) y3.2.1 .dp, ar 0 Y40 y5.1 .dp, ar 0 (.int .i64) y5.2.1 .dp]⟩ (tn 4) ?_
    refine VW.cond (b := true) (by kernel_rfl) (fun _ => ?_) (fun h' => nomatch h')
    refine sR T_ok [2] [] ⟨[(2, B false)], []⟩ (tn 1) ?_
    refine VW.ret ?_
    replace h := Option.some.inj h
    subst h
    exact rt []
  refine sN T_ok [0, 4, 5, 6, 8, 9, 78] [0, 1, 2, 3] ⟨[(0, .lf (.v (.sl Y40) a0)), (4, .lf (.hd 0 0 none)), (5, .lf (.hd 1 0 none)), (6, B y3.2.2), (8, .lf (.hd 2 0 none)), (9, .lf (.hd 3 0 none)), (78, B (!(y5.2.2 == y3.2.2)))], [ar 0 Y40 y3.1 .dp, ar 0 (.int .i64) y3.2.1 .dp, ar 0 Y40 y5.1 .dp, ar 0 (.int .i64) y5.2.1 .dp]⟩ (tn 4) ?_
  refine cnd h (fun h => ?_) (fun h => ?_)
  · refine sR T_ok [2] [] ⟨[(2, B false)], []⟩ (tn 1) ?_
    refine VW.ret ?_
    replace h := Option.some.inj h
    subst h
    exact rt []
  refine VW.skip ?_
  refine sR T_ok [0, 4, 5, 6, 8, 9, 12] [0, 1, 2, 3] ⟨[(0, .lf (.v (.sl Y40) a0)), (4, .lf (.hd 0 0 none)), (5, .lf (.hd 1 0 none)), (6, B y3.2.2), (8, .lf (.hd 2 0 none)), (9, .lf (.hd 3 0 none)), (12, I (1 : Int))], [ar 0 Y40 y3.1 .dp, ar 0 (.int .i64) y3.2.1 .dp, ar 0 Y40 y5.1 .dp, ar 0 (.int .i64) y5.2.1 .dp]⟩ (tn 1) ?_
  refine VW.seq ?_
  refine VW.region ?_
  refine sG T_ok 2 [0, 4, 5, 6, 8, 9, 79, 80] [0, 1, 2, 3] ⟨[(0, .lf (.v (.sl Y40) a0)), (4, .lf (.hd 0 0 none)), (5, .lf (.hd 1 0 none)), (6, B y3.2.2), (8, .lf (.hd 2 0 none)), (9, .lf (.hd 3 0 none)), (79, .lf (.hd 2 0 none)), (80, I (1 : Int))], [ar 0 Y40 y3.1 .dp, ar 0 (.int .i64) y3.2.1 .dp, ar 0 Y40 y5.1 .dp, ar 0 (.int .i64) y5.2.1 .dp]⟩ (tn 2) ?_
  obtain ⟨y19, hy, h⟩ := andO_some h
  refine VO.callM [2] [.t (.sl Y40), .t (.int .i64)] (d := some 81) (by kernel_rfl) (by kernel_rfl) (ok13 N _ _ hy) (by kernel_rfl) ?_
  refine sN T_ok [0, 4, 5, 6, 8, 9, 12] [0, 1, 2, 3] ⟨[(0, .lf (.v (.sl Y40) a0)), (4, .lf (.hd 0 0 none)), (5, .lf (.hd 1 0 none)), (6, B y3.2.2), (8, .lf (.hd 2 0 none)), (9, .lf (.hd 3 0 none)), (12, I y19.2)], [ar 0 Y40 y3.1 .dp, ar 0 (.int .i64) y3.2.1 .dp, ar 0 Y40 y19.1 .dp, ar 0 (.int .i64) y5.2.1 .dp]⟩ (tn 1) ?_
  refine VW.seq ?_
  refine VW.region ?_
  refine sG T_ok 2 [0, 4, 5, 6, 8, 9, 82, 83] [0, 1, 2, 3] ⟨[(0, .lf (.v (.sl Y40) a0)), (4, .lf (.hd 0 0 none)), (5, .lf (.hd 1 0 none)), (6, B y3.2.2), (8, .lf (.hd 2 0 none)), (9, .lf (.hd 3 0 none)), (82, .lf (.hd 3 0 none)), (83, I y19.2)], [ar 0 Y40 y3.1 .dp, ar 0 (.int .i64) y3.2.1 .dp, ar 0 Y40 y19.1 .dp, ar 0 (.int .i64) y5.2.1 .dp]⟩ (tn 2) ?_
  obtain ⟨y20, hy, h⟩ := andO_some h
  refine VO.callM [3] [.t (.sl (.int .i64)), .t (.int .i64)] (d := some 84) (by kernel_rfl) (by kernel_rfl) (ok14 N _ _ hy) (by kernel_rfl) ?_
  refine sN T_ok [0, 4, 5, 6, 8, 9, 12] [0, 1, 2, 3] ⟨[(0, .lf (.v (.sl Y40) a0)), (4, .lf (.hd 0 0 none)), (5, .lf (.hd 1 0 none)), (6, B y3.2.2), (8, .lf (.hd 2 0 none)), (9, .lf (.hd 3 0 none)), (12, I y20.2)], [ar 0 Y40 y3.1 .dp, ar 0 (.int .i64) y3.2.1 .dp, ar 0 Y40 y19.1 .dp, ar 0 (.int .i64) y20.1 .dp]⟩ (tn 1) ?_
  refine sR T_ok [0, 4, 5, 6, 8, 9, 12, 13] [0, 1, 2, 3] ⟨[(0, .lf (.v (.sl Y40) a0)), (4, .lf (.hd 0 0 none)), (5, .lf (.hd 1 0 none)), (6, B y3.2.2), (8, .lf (.hd 2 0 none)), (9, .lf (.hd 3 0 none)), (12, I y20.2), (13, I (1 : Int))], [ar 0 Y40 y3.1 .dp, ar 0 (.int .i64) y3.2.1 .dp, ar 0 Y40 y19.1 .dp, ar 0 (.int .i64) y20.1 .dp]⟩ (tn 1) ?_
  refine VW.seq ?_
  refine VW.region ?_
  refine sG T_ok 2 [0, 4, 5, 6, 8, 9, 12, 85, 86] [0, 1, 2, 3] ⟨[(0, .lf (.v (.sl Y40) a0)), (4, .lf (.hd 0 0 none)), (5, .lf (.hd 1 0 none)), (6, B y3.2.2), (8, .lf (.hd 2 0 none)), (9, .lf (.hd 3 0 none)), (12, I y20.2), (85, .lf (.hd 2 0 none)), (86, I (1 : Int))], [ar 0 Y40 y3.1 .dp, ar 0 (.int .i64) y3.2.1 .dp, ar 0 Y40 y19.1 .dp, ar 0 (.int .i64) y20.1 .dp]⟩ (tn 2) ?_
  obtain ⟨y21, hy, h⟩ := andO_some h
  refine cal true [.t (.sl Y40), .t (.int .i64)] [] (some 87) T_ok (ok15 N _ _ hy) ?_
  refine sN T_ok [0, 4, 5, 6, 8, 9, 12, 13] [0, 1, 2, 3] ⟨[(0, .lf (.v (.sl Y40) a0)), (4, .lf (.hd 0 0 none)), (5, .lf (.hd 1 0 none)), (6, B y3.2.2), (8, .lf (.hd 2 0 none)), (9, .lf (.hd 3 0 none)), (12, I y20.2), (13, I y21)], [ar 0 Y40 y3.1 .dp, ar 0 (.int .i64) y3.2.1 .dp, ar 0 Y40 y19.1 .dp, ar 0 (.int .i64) y20.1 .dp]⟩ (tn 1) ?_
  refine VW.seq ?_
  refine sR T_ok [0, 4, 5, 6, 8, 9, 12, 13, 89] [0, 1, 2, 3] ⟨[(0, .lf (.v (.sl Y40) a0)), (4, .lf (.hd 0 0 none)), (5, .lf (.hd 1 0 none)), (6, B y3.2.2), (8, .lf (.hd 2 0 none)), (9, .lf (.hd 3 0 none)), (12, I y20.2), (13, I y21), (89, B (decide (y21 < (0 : Int))))], [ar 0 Y40 y3.1 .dp, ar 0 (.int .i64) y3.2.1 .dp, ar 0 Y40 y19.1 .dp, ar 0 (.int .i64) y20.1 .dp]⟩ (tn 2) ?_
  refine cnd h (fun h => ?_) (fun h => ?_)
  · refine sR T_ok [2] [] ⟨[(2, B false)], []⟩ (tn 1) ?_
    refine VW.ret ?_
    replace h := Option.some.inj h
    subst h
    exact rt []
  refine VW.skip ?_
  refine VW.seq ?_
  refine VW.region ?_
  refine sG T_ok 2 [0, 4, 5, 6, 8, 9, 12, 90, 91] [0, 1, 2, 3] ⟨[(0, .lf (.v (.sl Y40) a0)), (4, .lf (.hd 0 0 none)), (5, .lf (.hd 1 0 none)), (6, B y3.2.2), (8, .lf (.hd 2 0 none)), (9, .lf (.hd 3 0 none)), (12, I y20.2), (90, .lf (.hd 3 0 none)), (91, I y21)], [ar 0 Y40 y3.1 .dp, ar 0 (.int .i64) y3.2.1 .dp, ar 0 Y40 y19.1 .dp, ar 0 (.int .i64) y20.1 .dp]⟩ (tn 2) ?_
  obtain ⟨y22, hy, h⟩ := andO_some h
  refine cal true [.t (.sl (.int .i64)), .t (.int .i64)] [] (some 92) T_ok (ok20 N _ _ hy) ?_
  refine sN T_ok [0, 4, 5, 6, 8, 9, 12, 13] [0, 1, 2, 3] ⟨[(0, .lf (.v (.sl Y40) a0)), (4, .lf (.hd 0 0 none)), (5, .lf (.hd 1 0 none)), (6, B y3.2.2), (8, .lf (.hd 2 0 none)), (9, .lf (.hd 3 0 none)), (12, I y20.2), (13, I y22)], [ar 0 Y40 y3.1 .dp, ar 0 (.int .i64) y3.2.1 .dp, ar 0 Y40 y19.1 .dp, ar 0 (.int .i64) y20.1 .dp]⟩ (tn 1) ?_
  refine VW.seq ?_
  refine sR T_ok [0, 4, 5, 6, 8, 9, 12, 13, 94] [0, 1, 2, 3] ⟨[(0, .lf (.v (.sl Y40) a0)), (4, .lf (.hd 0 0 none)), (5, .lf (.hd 1 0 none)), (6, B y3.2.2), (8, .lf (.hd 2 0 none)), (9, .lf (.hd 3 0 none)), (12, I y20.2), (13, I y22), (94, B (decide (y22 < (0 : Int))))], [ar 0 Y40 y3.1 .dp, ar 0 (.int .i64) y3.2.1 .dp, ar 0 Y40 y19.1 .dp, ar 0 (.int .i64) y20.1 .dp]⟩ (tn 2) ?_
  refine cnd h (fun h => ?_) (fun h => ?_)
  · refine sR T_ok [2] [] ⟨[(2, B false)], []⟩ (tn 1) ?_
    refine VW.ret ?_
    replace h := Option.some.inj h
    subst h
    exact rt []
  refine VW.skip ?_
  refine VW.seq ?_
  refine sR T_ok [0, 4, 5, 6, 8, 9, 12, 97] [0, 1, 2, 3] ⟨[(0, .lf (.v (.sl Y40) a0)), (4, .lf (.hd 0 0 none)), (5, .lf (.hd 1 0 none)), (6, B y3.2.2), (8, .lf (.hd 2 0 none)), (9, .lf (.hd 3 0 none)), (12, I y20.2), (97, B (y22 != y20.2))], [ar 0 Y40 y3.1 .dp, ar 0 (.int .i64) y3.2.1 .dp, ar 0 Y40 y19.1 .dp, ar 0 (.int .i64) y20.1 .dp]⟩ (tn 3) ?_
  refine cnd h (fun h => ?_) (fun h => ?_)
  · refine sR T_ok [2] [] ⟨[(2, B false)], []⟩ (tn 1) ?_
    refine VW.ret ?_
    replace h := Option.some.inj h
    subst h
    exact rt []
  refine VW.skip ?_
  refine VW.seq ?_
  refine VW.region ?_
  refine sG T_ok 1 [4, 5, 6, 8, 9, 12, 99] [0, 1, 2, 3] ⟨[(4, .lf (.hd 0 0 none)), (5, .lf (.hd 1 0 none)), (6, B y3.2.2), (8, .lf (.hd 2 0 none)), (9, .lf (.hd 3 0 none)), (12, I y20.2), (99, .lf (.v (.sl Y40) a0))], [ar 0 Y40 y3.1 .dp, ar 0 (.int .i64) y3.2.1 .dp, ar 0 Y40 y19.1 .dp, ar 0 (.int .i64) y20.1 .dp]⟩ (tn 1) ?_
  obtain ⟨y23, hy, h⟩ := andO_some h
  refine cal false [.t (.sl Y40)] [] (some 100) T_ok (ok8 N _ hy) ?_
  obtain ⟨y24, hy, h⟩ := andO_some h
  refine cal true [.t (.sl Y40)] [] (some 101) T_ok (ok19 N _ hy) ?_
  refine sN T_ok [4, 5, 6, 8, 9, 12, 14, 15, 16] [0, 1, 2, 3, 5, 6] ⟨[(4, .lf (.hd 0 0 none)), (5, .lf (.hd 1 0 none)), (6, B y3.2.2), (8, .lf (.hd 2 0 none)), (9, .lf (.hd 3 0 none)), (12, I y20.2), (14, .lf (.hd 4 0 none)), (15, .lf (.hd 5 0 none)), (16, B y24.2.2)], [ar 0 Y40 y3.1 .dp, ar 0 (.int .i64) y3.2.1 .dp, ar 0 Y40 y19.1 .dp, ar 0 (.int .i64) y20.1 .dp, ar 0 Y40 y24.1 .dp, ar 0 (.int .i64) y24.2.1 .dp]⟩ (tn 7) ?_
  refine VW.seq ?_
  refine VW.seq ?_
  refine VW.region ?_
  refine sG T_ok 2 [5, 6, 8, 9, 12, 15, 16, 105, 106] [1, 2, 3, 5, 4, 0] ⟨[(5, .lf (.hd 0 0 none)), (6, B y3.2.2), (8, .lf (.hd 1 0 none)), (9, .lf (.hd 2 0 none)), (12, I y20.2), (15, .lf (.hd 3 0 none)), (16, B y24.2.2), (105, .lf (.hd 4 0 none)), (106, .lf (.hd 5 0 none))], [ar 0 (.int .i64) y3.2.1 .dp, ar 0 Y40 y19.1 .dp, ar 0 (.int .i64) y20.1 .dp, ar 0 (.int .i64) y24.2.1 .dp, ar 0 Y40 y24.1 .dp, ar 0 Y40 y3.1 .dp]⟩ (tn 2) ?_
  obtain ⟨y27, hy, h⟩ := andO_some h
  refine cal true [.t (.sl Y40), .t (.sl Y40)] [] (some 107) T_ok (ok11 N _ _ hy) ?_
  refine sG T_ok 2 [5, 6, 8, 9, 12, 15, 16, 109] [0, 1, 2, 3] ⟨[(5, .lf (.hd 0 0 none)), (6, B y3.2.2), (8, .lf (.hd 1 0 none)), (9, .lf (.hd 2 0 none)), (12, I y20.2), (15, .lf (.hd 3 0 none)), (16, B y24.2.2), (109, B (!y27))], [ar 0 (.int .i64) y3.2.1 .dp, ar 0 Y40 y19.1 .dp, ar 0 (.int .i64) y20.1 .dp, ar 0 (.int .i64) y24.2.1 .dp]⟩ (tn 2) ?_
  refine spB 109 h (fun h => ?_) (fun h => ?_)
  · refine sN T_ok [8, 9, 12, 119] [1, 2] ⟨[(8, .lf (.hd 0 0 none)), (9, .lf (.hd 1 0 none)), (12, I y20.2), (119, B true)], [ar 0 Y40 y19.1 .dp, ar 0 (.int .i64) y20.1 .dp]⟩ (tn 10) ?_
    refine VW.cond (b := true) (by kernel_rfl) (fun _ => ?_) (fun h' => nomatch h')
    refine sR T_ok [2] [] ⟨[(2, B false)], []⟩ (tn 1) ?_
    refine VW.ret ?_
    replace h := Option.some.inj h
    subst h
    exact rt []
  refine sG T_ok 2 [6, 8, 9, 12, 16, 109, 110, 111] [1, 2, 3, 0] ⟨[(6, B y3.2.2), (8, .lf (.hd 0 0 none)), (9, .lf (.hd 1 0 none)), (12, I y20.2), (16, B y24.2.2), (109, B false), (110, .lf (.hd 2 0 none)), (111, .lf (.hd 3 0 none))], [ar 0 Y40 y19.1 .dp, ar 0 (.int .i64) y20.1 .dp, ar 0 (.int .i64) y24.2.1 .dp, ar 0 (.int .i64) y3.2.1 .dp]⟩ (tn 2) ?_
  refine VO.on (j := 4) (want := false) (d := 109) (b := false) rfl rfl rfl (by kernel_rfl) rfl ?_
  obtain ⟨y28, hy, h⟩ := andO_some h
  refine cal true [.t (.sl (.int .i64)), .t (.sl (.int .i64))] [] (some 112) T_ok (ok12 N _ _ hy) ?_
  refine sG T_ok 3 [6, 8, 9, 12, 16, 115] [0, 1] ⟨[(6, B y3.2.2), (8, .lf (.hd 0 0 none)), (9, .lf (.hd 1 0 none)), (12, I y20.2), (16, B y24.2.2), (115, B (!y28))], [ar 0 Y40 y19.1 .dp, ar 0 (.int .i64) y20.1 .dp]⟩ (tn 3) ?_
  refine spB 115 h (fun h => ?_) (fun h => ?_)
  · refine sN T_ok [8, 9, 12, 119] [0, 1] ⟨[(8, .lf (.hd 0 0 none)), (9, .lf (.hd 1 0 none)), (12, I y20.2), (119, B true)], [ar 0 Y40 y19.1 .dp, ar 0 (.int .i64) y20.1 .dp]⟩ (tn 4) ?_
    refine VW.cond (b := true) (by kernel_rfl) (fun _ => ?_) (fun h' => nomatch h')
    refine sR T_ok [2] [] ⟨[(2, B false)], []⟩ (tn 1) ?_
    refine VW.ret ?_
    replace h := Option.some.inj h
    subst h
    exact rt []
  refine sN T_ok [8, 9, 12, 119] [0, 1] ⟨[(8, .lf (.hd 0 0 none)), (9, .lf (.hd 1 0 none)), (12, I y20.2), (119, B (!(y24.2.2 == y3.2.2)))], [ar 0 Y40 y19.1 .dp, ar 0 (.int .i64) y20.1 .dp]⟩ (tn 4) ?_
  refine cnd h (fun h => ?_) (fun h => ?_)
  · refine sR T_ok [2] [] ⟨[(2, B false)], []⟩ (tn 1) ?_
    refine VW.ret ?_
    replace h := Option.some.inj h
    subst h
    exact rt []
  refine VW.skip ?_
  refine sR T_ok [8, 9, 12, 13] [0, 1] ⟨[(8, .lf (.hd 0 0 none)), (9, .lf (.hd 1 0 none)), (12, I y20.2), (13, I (1 : Int))], [ar 0 Y40 y19.1 .dp, ar 0 (.int .i64) y20.1 .dp]⟩ (tn 1) ?_
  refine VW.seq ?_
  refine VW.region ?_
  refine sG T_ok 2 [9, 12, 120, 121] [1, 0] ⟨[(9, .lf (.hd 0 0 none)), (12, I y20.2), (120, .lf (.hd 1 0 none)), (121, I (1 : Int))], [ar 0 (.int .i64) y20.1 .dp, ar 0 Y40 y19.1 .dp]⟩ (tn 2) ?_
  obtain ⟨y29, hy, h⟩ := andO_some h
  refine cal true [.t (.sl Y40), .t (.int .i64)] [] (some 122) T_ok (ok15 N _ _ hy) ?_
  refine sN T_ok [9, 12, 13] [0] ⟨[(9, .lf (.hd 0 0 none)), (12, I y20.2), (13, I y29)], [ar 0 (.int .i64) y20.1 .dp]⟩ (tn 1) ?_
  refine VW.seq ?_
  refine sR T_ok [9, 12, 13, 124] [0] ⟨[(9, .lf (.hd 0 0 none)), (12, I y20.2), (13, I y29), (124, B (decide (y29 < (0 : Int))))], [ar 0 (.int .i64) y20.1 .dp]⟩ (tn 2) ?_
  refine cnd h (fun h => ?_) (fun h => ?_)
  · refine sR T_ok [2] [] ⟨[(2, B false)], []⟩ (tn 1) ?_
    refine VW.ret ?_
    replace h := Option.some.inj h
    subst h
    exact rt []
  refine VW.skip ?_
  refine VW.seq ?_
  refine VW.region ?_
  refine sG T_ok 2 [12, 125, 126] [0] ⟨[(12, I y20.2), (125, .lf (.hd 0 0 none)), (126, I y29)], [ar 0 (.int .i64) y20.1 .dp]⟩ (tn 2) ?_
  obtain ⟨y30, hy, h⟩ := andO_some h
  refine cal true [.t (.sl (.int .i64)), .t (.int .i64)] [] (some 127) T_ok (ok20 N _ _ hy) ?_
  refine sN T_ok [12, 13] [] ⟨[(12, I y20.2), (13, I y30)], []⟩ (tn 1) ?_
  refine VW.seq ?_
  refine sR T_ok [12, 13, 129] [] ⟨[(12, I y20.2), (13, I y30), (129, B (decide (y30 < (0 : Int))))], []⟩ (tn 2) ?_
  refine cnd h (fun h => ?_) (fun h => ?_)
  · refine sR T_ok [2] [] ⟨[(2, B false)], []⟩ (tn 1) ?_
    refine VW.ret ?_
    replace h := Option.some.inj h
    subst h
    exact rt []
  refine VW.skip ?_
  refine VW.seq ?_
  refine sR T_ok [132] [] ⟨[(132, B (y30 != y20.2))], []⟩ (tn 3) ?_
  refine cnd h (fun h => ?_) (fun h => ?_)
  · refine sR T_ok [2] [] ⟨[(2, B false)], []⟩ (tn 1) ?_
    refine VW.ret ?_
    replace h := Option.some.inj h
    subst h
    exact rt []
  refine VW.skip ?_
  refine sR T_ok [2] [] ⟨[(2, B true)], []⟩ (tn 1) ?_
  refine VW.ret ?_
  replace h := Option.some.inj h
  subst h
  exact rt []

end Go.Proofs.Ytckcbjaldmlomaa.Vc
