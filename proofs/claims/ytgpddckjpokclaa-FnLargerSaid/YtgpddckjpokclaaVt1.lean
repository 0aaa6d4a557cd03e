/- What functions of the program compute, and that they do. -/
import Derived.Test.YtgpddckjpokclaaVt0
namespace Go.Proofs.Ytgpddckjpokclaa.Vc
open Go Go.RowKit
set_option linter.unusedVariables false
set_option maxRecDepth 100000
set_option maxHeartbeats 4000000
/- loop.example/g00844/spec.PutKey -/
def F100 (N : Nat) (a0 : (Int × ((List Int) × (List Int)))) (a1 : Int) (a2 : Int) : Option ((Int × ((List Int) × (List Int))) × Int × Bool) :=
  andO (F105 N a0) fun y7 => cond (!y7) (andO (F104 N a0) fun y8 => some (y8, (1000001 : Int), false)) (andO (F156 N a1) fun y9 => cond (!y9) (andO (F104 N a0) fun y10 => some (y10, (1000001 : Int), false)) (andO (F156 N a2) fun y11 => cond (!y11) (andO (F104 N a0) fun y12 => some (y12, (1000001 : Int), false)) (andO (F155 N a0 a1 a2) fun y13 => cond (decide ((y13.2.1.length : Int) ≤ a0.1)) (some (y13, (1000001 : Int), true)) (andO (F157 N y13 (IntKind.i64.wrap ((y13.2.1.length : Int) - (1 : Int)))) fun y14 => gd (InR (IntKind.i64.wrap ((y13.2.1.length : Int) - (1 : Int))) y13.2.1.length) (gd ((IntKind.i64.wrap ((y13.2.1.length : Int) - (1 : Int))).toNat < y13.2.1.length) (some (y14, (y13.2.1.getD ((IntKind.i64.wrap ((y13.2.1.length : Int) - (1 : Int))).toNat) (Ty.dflt (.int .i64))), true)))))))
theorem ok100 (N : Nat) (a0 : (Int × ((List Int) × (List Int)))) (a1 : Int) (a2 : Int) {r : (Int × ((List Int) × (List Int))) × Int × Bool} (h : F100 N a0 a1 a2 = some r) : Con Go.Proofs.Try.prog 100 [.agg [.v (.int .i64) a0.1, .v (.sl (.int .i64)) a0.2.1, .v (.sl (.int .i64)) a0.2.2], I a1, I a2] [.agg [.v (.int .i64) r.1.1, .own (.int .i64) r.1.2.1 .dp, .own (.int .i64) r.1.2.2 .dp], .lf (.v (.int .i64) r.2.1), .lf (.v .bool r.2.2)] := by
  refine ctr [.agg [.v (.int .i64), .own (.int .i64) .dp, .own (.int .i64) .dp], .lf (.v (.int .i64)), .lf (.v .bool)] T_ok Go.Proofs.Try.func100 rfl fun w0 E0 ht => ?_
  unfold F100 at h
  show VW _ _ _ _ _ (retQ _ _ _ _) _
  refine sR T_ok [1, 2, 3, 6] [0, 1] ⟨[(1, I a1), (2, I a2), (3, .lf (.ptr 0 0 0 0)), (6, .lf (.ptr 1 0 0 0))], [bx [.v (.int .i64) a0.1, .v (.sl (.int .i64)) a0.2.1, .v (.sl (.int .i64)) a0.2.2] 59, bx [.v (.int .i64) (0 : Int), .nil, .nil] 59]⟩ (tn 4) ?_
  refine VW.seq ?_
  refine VW.seq ?_
  refine VW.region ?_
  refine sG T_ok 1 [1, 2, 3, 6, 11] [0, 1] ⟨[(1, I a1), (2, I a2), (3, .lf (.ptr 0 0 0 0)), (6, .lf (.ptr 1 0 0 0)), (11, .agg [.v (.int .i64) a0.1, .v (.sl (.int .i64)) a0.2.1, .v (.sl (.int .i64)) a0.2.2])], [bx [.v (.int .i64) a0.1, .v (.sl (.int .i64)) a0.2.1, .v (.sl (.int .i64)) a0.2.2] 59, bx [.v (.int .i64) (0 : Int), .nil, .nil] 59]⟩ (tn 1) ?_
  obtain ⟨y7, hy, h⟩ := andO_some h
  refine cal false [.t Y58] [] (some 12) T_ok (ok105 N _ hy) ?_
  refine sG T_ok 2 [1, 2, 3, 6, 14] [0, 1] ⟨[(1, I a1), (2, I a2), (3, .lf (.ptr 0 0 0 0)), (6, .lf (.ptr 1 0 0 0)), (14, B (!y7))], [bx [.v (.int .i64) a0.1, .v (.sl (.int .i64)) a0.2.1, .v (.sl (.int .i64)) a0.2.2] 59, bx [.v (.int .i64) (0 : Int), .nil, .nil] 59]⟩ (tn 2) ?_
  refine spB 14 h (fun h => ?_) (fun h => ?_)
  · refine sN T_ok [1, 2, 3, 6, 23] [0, 1] ⟨[(1, I a1), (2, I a2), (3, .lf (.ptr 0 0 0 0)), (6, .lf (.ptr 1 0 0 0)), (23, B true)], [bx [.v (.int .i64) a0.1, .v (.sl (.int .i64)) a0.2.1, .v (.sl (.int .i64)) a0.2.2] 59, bx [.v (.int .i64) (0 : Int), .nil, .nil] 59]⟩ (tn 9) ?_
    refine VW.cond (b := true) (by kernel_rfl) (fun _ => ?_) (fun h' => nomatch h')
    refine VW.seq ?_
    refine VW.region ?_
    refine sG T_ok 1 [6, 24] [1] ⟨[(6, .lf (.ptr 0 0 0 0)), (24, .agg [.v (.int .i64) a0.1, .v (.sl (.int .i64)) a0.2.1, .v (.sl (.int .i64)) a0.2.2])], [bx [.v (.int .i64) (0 : Int), .nil, .nil] 59]⟩ (tn 1) ?_
    obtain ⟨y8, hy, h⟩ := andO_some h
    refine cal false [.t Y58] [] (some 25) T_ok (ok104 N _ hy) ?_
    refine sN T_ok [6, 7, 8] [0, 1, 2] ⟨[(6, .lf (.ptr 0 0 0 0)), (7, I (1000001 : Int)), (8, B false)], [bx [.v (.int .i64) y8.1, .hd 1 0 none, .hd 2 0 none] 59, ar 0 (.int .i64) y8.2.1 .dp, ar 0 (.int .i64) y8.2.2 .dp]⟩ (tn 3) ?_
    refine VW.ret ?_
    replace h := Option.some.inj h
    subst h
    exact rt [some 1, some 2]
  refine sG T_ok 1 [1, 2, 3, 6, 14, 15] [0, 1] ⟨[(1, I a1), (2, I a2), (3, .lf (.ptr 0 0 0 0)), (6, .lf (.ptr 1 0 0 0)), (14, B false), (15, I a1)], [bx [.v (.int .i64) a0.1, .v (.sl (.int .i64)) a0.2.1, .v (.sl (.int .i64)) a0.2.2] 59, bx [.v (.int .i64) (0 : Int), .nil, .nil] 59]⟩ (tn 1) ?_
  refine VO.on (j := 3) (want := false) (d := 14) (b := false) rfl rfl rfl (by kernel_rfl) rfl ?_
  obtain ⟨y9, hy, h⟩ := andO_some h
  refine cal false [.t (.int .i64)] [] (some 16) T_ok (ok156 N _ hy) ?_
  refine sG T_ok 3 [1, 2, 3, 6, 19] [0, 1] ⟨[(1, I a1), (2, I a2), (3, .lf (.ptr 0 0 0 0)), (6, .lf (.ptr 1 0 0 0)), (19, B (!y9))], [bx [.v (.int .i64) a0.1, .v (.sl (.int .i64)) a0.2.1, .v (.sl (.int .i64)) a0.2.2] 59, bx [.v (.int .i64) (0 : Int), .nil, .nil] 59]⟩ (tn 3) ?_
  refine spB 19 h (fun h => ?_) (fun h => ?_)
  · refine sN T_ok [1, 2, 3, 6, 23] [0, 1] ⟨[(1, I a1), (2, I a2), (3, .lf (.ptr 0 0 0 0)), (6, .lf (.ptr 1 0 0 0)), (23, B true)], [bx [.v (.int .i64) a0.1, .v (.sl (.int .i64)) a0.2.1, .v (.sl (.int .i64)) a0.2.2] 59, bx [.v (.int .i64) (0 : Int), .nil, .nil] 59]⟩ (tn 4) ?_
    refine VW.cond (b := true) (by kernel_rfl) (fun _ => ?_) (fun h' => nomatch h')
    refine VW.seq ?_
    refine VW.region ?_
    refine sG T_ok 1 [6, 24] [1] ⟨[(6, .lf (.ptr 0 0 0 0)), (24, .agg [.v (.int .i64) a0.1, .v (.sl (.int .i64)) a0.2.1, .v (.sl (.int .i64)) a0.2.2])], [bx [.v (.int .i64) (0 : Int), .nil, .nil] 59]⟩ (tn 1) ?_
    obtain ⟨y10, hy, h⟩ := andO_some h
    refine cal false [.t Y58] [] (some 25) T_ok (ok104 N _ hy) ?_
    refine sN T_ok [6, 7, 8] [0, 1, 2] ⟨[(6, .lf (.ptr 0 0 0 0)), (7, I (1000001 : Int)), (8, B false)], [bx [.v (.int .i64) y10.1, .hd 1 0 none, .hd 2 0 none] 59, ar 0 (.int .i64) y10.2.1 .dp, ar 0 (.int .i64) y10.2.2 .dp]⟩ (tn 3) ?_
    refine VW.ret ?_
    replace h := Option.some.inj h
    subst h
    exact rt [some 1, some 2]
  refine sG T_ok 1 [1, 2, 3, 6, 19, 20] [0, 1] ⟨[(1, I a1), (2, I a2), (3, .lf (.ptr 0 0 0 0)), (6, .lf (.ptr 1 0 0 0)), (19, B false), (20, I a2)], [bx [.v (.int .i64) a0.1, .v (.sl (.int .i64)) a0.2.1, .v (.sl (.int .i64)) a0.2.2] 59, bx [.v (.int .i64) (0 : Int), .nil, .nil] 59]⟩ (tn 1) ?_
  refine VO.on (j := 8) (want := false) (d := 19) (b := false) rfl rfl rfl (by kernel_rfl) rfl ?_
  obtain ⟨y11, hy, h⟩ := andO_some h
  refine cal false [.t (.int .i64)] [] (some 21) T_ok (ok156 N _ hy) ?_
  refine sN T_ok [1, 2, 3, 6, 23] [0, 1] ⟨[(1, I a1), (2, I a2), (3, .lf (.ptr 0 0 0 0)), (6, .lf (.ptr 1 0 0 0)), (23, B (!y11))], [bx [.v (.int .i64) a0.1, .v (.sl (.int .i64)) a0.2.1, .v (.sl (.int .i64)) a0.2.2] 59, bx [.v (.int .i64) (0 : Int), .nil, .nil] 59]⟩ (tn 2) ?_
  refine cnd h (fun h => ?_) (fun h => ?_)
  · refine VW.seq ?_
    refine VW.region ?_
    refine sG T_ok 1 [6, 24] [1] ⟨[(6, .lf (.ptr 0 0 0 0)), (24, .agg [.v (.int .i64) a0.1, .v (.sl (.int .i64)) a0.2.1, .v (.sl (.int .i64)) a0.2.2])], [bx [.v (.int .i64) (0 : Int), .nil, .nil] 59]⟩ (tn 1) ?_
    obtain ⟨y12, hy, h⟩ := andO_some h
    refine cal false [.t Y58] [] (some 25) T_ok (ok104 N _ hy) ?_
    refine sN T_ok [6, 7, 8] [0, 1, 2] ⟨[(6, .lf (.ptr 0 0 0 0)), (7, I (1000001 : Int)), (8, B false)], [bx [.v (.int .i64) y12.1, .hd 1 0 none, .hd 2 0 none] 59, ar 0 (.int .i64) y12.2.1 .dp, ar 0 (.int .i64) y12.2.2 .dp]⟩ (tn 3) ?_
    refine VW.ret ?_
    replace h := Option.some.inj h
    subst h
    exact rt [some 1, some 2]
  refine VW.skip ?_
  refine VW.seq ?_
  refine VW.region ?_
  refine sG T_ok 3 [3, 6, 26, 27, 28] [0, 1] ⟨[(3, .lf (.ptr 0 0 0 0)), (6, .lf (.ptr 1 0 0 0)), (26, .agg [.v (.int .i64) a0.1, .v (.sl (.int .i64)) a0.2.1, .v (.sl (.int .i64)) a0.2.2]), (27, I a1), (28, I a2)], [bx [.v (.int .i64) a0.1, .v (.sl (.int .i64)) a0.2.1, .v (.sl (.int .i64)) a0.2.2] 59, bx [.v (.int .i64) (0 : Int), .nil, .nil] 59]⟩ (tn 3) ?_
  obtain ⟨y13, hy, h⟩ := andO_some h
  refine cal false [.t Y58, .t (.int .i64), .t (.int .i64)] [] (some 29) T_ok (ok155 N _ _ _ hy) ?_
  refine sN T_ok [3, 6, 9] [0, 1, 4, 2, 3] ⟨[(3, .lf (.ptr 0 0 0 0)), (6, .lf (.ptr 1 0 0 0)), (9, .lf (.ptr 2 0 0 0))], [bx [.v (.int .i64) a0.1, .v (.sl (.int .i64)) a0.2.1, .v (.sl (.int .i64)) a0.2.2] 59, bx [.v (.int .i64) (0 : Int), .nil, .nil] 59, bx [.v (.int .i64) y13.1, .hd 3 0 none, .hd 4 0 none] 59, ar 0 (.int .i64) y13.2.1 .dp, ar 0 (.int .i64) y13.2.2 .dp]⟩ (tn 2) ?_
  refine sR T_ok [3, 6, 9, 10] [0, 1, 2, 3, 4] ⟨[(3, .lf (.ptr 0 0 0 0)), (6, .lf (.ptr 1 0 0 0)), (9, .lf (.ptr 2 0 0 0)), (10, I (y13.2.1.length : Int))], [bx [.v (.int .i64) a0.1, .v (.sl (.int .i64)) a0.2.1, .v (.sl (.int .i64)) a0.2.2] 59, bx [.v (.int .i64) (0 : Int), .nil, .nil] 59, bx [.v (.int .i64) y13.1, .hd 3 0 none, .hd 4 0 none] 59, ar 0 (.int .i64) y13.2.1 .dp, ar 0 (.int .i64) y13.2.2 .dp]⟩ (tn 4) ?_
  refine VW.seq ?_
  refine sR T_ok [6, 9, 10, 36] [1, 2, 3, 4] ⟨[(6, .lf (.ptr 0 0 0 0)), (9, .lf (.ptr 1 0 0 0)), (10, I (y13.2.1.length : Int)), (36, B (decide ((y13.2.1.length : Int) ≤ a0.1)))], [bx [.v (.int .i64) (0 : Int), .nil, .nil] 59, bx [.v (.int .i64) y13.1, .hd 2 0 none, .hd 3 0 none] 59, ar 0 (.int .i64) y13.2.1 .dp, ar 0 (.int .i64) y13.2.2 .dp]⟩ (tn 4) ?_
  refine cnd h (fun h => ?_) (fun h => ?_)
  · refine sR T_ok [6, 7, 8] [0, 2, 3] ⟨[(6, .lf (.ptr 0 0 0 0)), (7, I (1000001 : Int)), (8, B true)], [bx [.v (.int .i64) y13.1, .hd 1 0 none, .hd 2 0 none] 59, ar 0 (.int .i64) y13.2.1 .dp, ar 0 (.int .i64) y13.2.2 .dp]⟩ (tn 4) ?_
    refine VW.ret ?_
    replace h := Option.some.inj h
    subst h
    exact rt [some 1, some 2]
  refine VW.skip ?_
  refine VW.seq ?_
  obtain ⟨y14, hy14, h⟩ := andO_some h
  obtain ⟨g15, h⟩ := gd_some h
  obtain ⟨g16, h⟩ := gd_some h
  refine VW.drawn (by kernel_rfl) [some (38, .agg [.v (.int .i64) y13.1, .hd 2 0 none, .hd 3 0 none]), some (39, I (y13.2.1.length : Int)), some (40, I (IntKind.i64.wrap ((y13.2.1.length : Int) - (1 : Int)))), some (41, .agg [.v (.int .i64) y14.1, .hd 4 0 none, .hd 5 0 none]), some (42, .lf (.ptr 1 0 0 1)), some (43, .lf (.hd 2 0 none)), some (44, I (y13.2.1.length : Int)), some (45, I (IntKind.i64.wrap ((y13.2.1.length : Int) - (1 : Int)))), some (46, .lf (.ptr 2 0 ((IntKind.i64.wrap ((y13.2.1.length : Int) - (1 : Int))).toNat) 0)), some (47, I (y13.2.1.getD ((IntKind.i64.wrap ((y13.2.1.length : Int) - (1 : Int))).toNat) (Ty.dflt (.int .i64)))), none, some (7, I (y13.2.1.getD ((IntKind.i64.wrap ((y13.2.1.length : Int) - (1 : Int))).toNat) (Ty.dflt (.int .i64)))), some (8, B true)] [3, 10] [[bx [.v (.int .i64) (0 : Int), .nil, .nil] 59, bx [.v (.int .i64) y13.1, .hd 2 0 none, .hd 3 0 none] 59, ar 0 (.int .i64) y13.2.1 .dp, ar 0 (.int .i64) y13.2.2 .dp], [bx [.v (.int .i64) (0 : Int), .nil, .nil] 59, bx [.v (.int .i64) y13.1, .hd 2 0 none, .hd 3 0 none] 59, ar 0 (.int .i64) y13.2.1 .dp, ar 0 (.int .i64) y13.2.2 .dp, ar 0 (.int .i64) y14.2.1 .dp, ar 0 (.int .i64) y14.2.2 .dp], [bx [.v (.int .i64) y14.1, .hd 4 0 none, .hd 5 0 none] 59, bx [.v (.int .i64) y13.1, .hd 2 0 none, .hd 3 0 none] 59, ar 0 (.int .i64) y13.2.1 .dp, ar 0 (.int .i64) y13.2.2 .dp, ar 0 (.int .i64) y14.2.1 .dp, ar 0 (.int .i64) y14.2.2 .dp]] [(0, 0), (1, 0), (1, 1), (2, 0), (3, 0), (4, 0), (4, 1), (4, 2), (5, 0), (5, 1), (5, 2), (6, 0), (6, 1), (6, 2), (7, 0), (7, 1), (7, 2), (8, 0), (8, 1), (8, 2), (9, 0), (9, 1), (9, 2), (10, 1), (11, 2), (12, 2)] [6, 7, 8] [0, 4, 5] (s' := ⟨[(6, .lf (.ptr 0 0 0 0)), (7, I (y13.2.1.getD ((IntKind.i64.wrap ((y13.2.1.length : Int) - (1 : Int))).toNat) (Ty.dflt (.int .i64)))), (8, B true)], [bx [.v (.int .i64) y14.1, .hd 1 0 none, .hd 2 0 none] 59, ar 0 (.int .i64) y14.2.1 .dp, ar 0 (.int .i64) y14.2.2 .dp]⟩) (by kernel_rfl) (by kernel_rfl) ⟨⟨_, rfl, Stp.ev T_ok (m := .dp) (φ := True) (by kernel_rfl) trivial⟩,
    ⟨_, rfl, Stp.ev T_ok (m := .dp) (φ := True) (by kernel_rfl) trivial⟩,
    ⟨_, rfl, Stp.ev T_ok (m := .dp) (φ := True) (by kernel_rfl) trivial⟩,
    ⟨_, rfl, Stp.ev T_ok (m := .dp) (φ := True) (by kernel_rfl) trivial⟩,
    ⟨_, rfl, Stp.eq (Stp.call true [.t Y58, .t (.int .i64)] [] T_ok (d := some 41) (by kernel_rfl) (ok157 N _ _ hy14) rfl) (by kernel_rfl) (by kernel_rfl)⟩,
    ⟨_, rfl, Stp.ev T_ok (m := .dp) (φ := True) (by kernel_rfl) trivial⟩,
    ⟨_, rfl, Stp.ev T_ok (m := .dp) (φ := True) (by kernel_rfl) trivial⟩,
    ⟨_, rfl, Stp.ev T_ok (m := .dp) (φ := True) (by kernel_rfl) trivial⟩,
    ⟨_, rfl, Stp.ev T_ok (m := .dp) (φ := True) (by kernel_rfl) trivial⟩,
    ⟨_, rfl, Stp.ev T_ok (m := .dp) (φ := True) (by kernel_rfl) trivial⟩,
    ⟨_, rfl, Stp.ev T_ok (m := .dp) (φ := True) (by kernel_rfl) trivial⟩,
    ⟨_, rfl, Stp.ev T_ok (m := .dp) (φ := True) (by kernel_rfl) trivial⟩,
    ⟨_, rfl, Stp.ev T_ok (m := .dp) (φ := True) (by kernel_rfl) trivial⟩,
    ⟨_, rfl, Stp.ev T_ok (m := .dp) (φ := True) (by kernel_rfl) trivial⟩,
    ⟨_, rfl, Stp.ev T_ok (m := .dp) (φ := True) (by kernel_rfl) trivial⟩,
    ⟨_, rfl, Stp.ev T_ok (m := .dp) (φ := True) (by kernel_rfl) trivial⟩,
    ⟨_, rfl, Stp.ev T_ok (m := .dp) (φ := True) (by kernel_rfl) trivial⟩,
    ⟨_, rfl, Stp.ev T_ok (m := .dp) (φ := InR (IntKind.i64.wrap ((y13.2.1.length : Int) - (1 : Int))) y13.2.1.length) (by kernel_rfl) g15⟩,
    ⟨_, rfl, Stp.ev T_ok (m := .dp) (φ := InR (IntKind.i64.wrap ((y13.2.1.length : Int) - (1 : Int))) y13.2.1.length) (by kernel_rfl) g15⟩,
    ⟨_, rfl, Stp.ev T_ok (m := .dp) (φ := InR (IntKind.i64.wrap ((y13.2.1.length : Int) - (1 : Int))) y13.2.1.length) (by kernel_rfl) g15⟩,
    ⟨_, rfl, Stp.ev T_ok (m := .dp) (φ := (IntKind.i64.wrap ((y13.2.1.length : Int) - (1 : Int))).toNat < y13.2.1.length) (by kernel_rfl) g16⟩,
    ⟨_, rfl, Stp.ev T_ok (m := .dp) (φ := (IntKind.i64.wrap ((y13.2.1.length : Int) - (1 : Int))).toNat < y13.2.1.length) (by kernel_rfl) g16⟩,
    ⟨_, rfl, Stp.ev T_ok (m := .dp) (φ := (IntKind.i64.wrap ((y13.2.1.length : Int) - (1 : Int))).toNat < y13.2.1.length) (by kernel_rfl) g16⟩,
    ⟨_, rfl, Stp.ev T_ok (m := .dp) (φ := True) (by kernel_rfl) trivial⟩,
    ⟨_, rfl, Stp.ev T_ok (m := .dp) (φ := True) (by kernel_rfl) trivial⟩,
    ⟨_, rfl, Stp.ev T_ok (m := .dp) (φ := True) (by kernel_rfl) trivial⟩, trivial⟩ (by kernel_rfl) ?_
  refine VW.ret ?_
  replace h := Option.some.inj h
  subst h
  exact rt [some 1, some 2]

/- loop.example/g00844/spec.HitsIn -/
def F39_j0 (N : Nat) (x77 : Int) : Option (Int) :=
  some x77
def F39_j1 (N : Nat) (nx131 : Int → (List Int) → (List Int) → Int → Int → Option (Int)) (x108 : Int) (x147 : Int) (x148 : Int) (x149 : (List Int)) (x150 : (List Int)) : Option (Int) :=
  nx131 x148 x149 x150 x147 (IntKind.i64.wrap (x108 + (1 : Int)))
def F39_l0_b (N : Nat) (a1 : (List Int)) (nx131 : Int → (List Int) → (List Int) → Int → Int → Option (Int)) (x104 : Int) (x105 : (List Int)) (x106 : (List Int)) (x107 : Int) (x108 : Int) : Option (Int) :=
  cond (decide (x108 < (a1.length : Int))) (gd (InR x108 a1.length) (andO (F99 N (x104, (x105, x106)) (a1.getD x108.toNat (Ty.dflt (.int .i64)))) fun y144 => cond y144.2.2 (F39_j1 N nx131 x108 (IntKind.i64.wrap (x107 + (1 : Int))) y144.1.1 y144.1.2.1 y144.1.2.2) (gd (InR x108 a1.length) (andO (F100 N (x104, (x105, x106)) (a1.getD x108.toNat (Ty.dflt (.int .i64))) (0 : Int)) fun y153 => F39_j1 N nx131 x108 x107 y153.1.1 y153.1.2.1 y153.1.2.2)))) (F39_j0 N x107)
def F39_l0 (N : Nat) (a1 : (List Int)) : Nat → Int → (List Int) → (List Int) → Int → Int → Option (Int) := loopF (F39_l0_b N a1) (fun _ _ _ _ _ => none)
theorem F39_l0_s (N : Nat) (a1 : (List Int)) {k : Nat} (hk : 0 < k) (x104 : Int) (x105 : (List Int)) (x106 : (List Int)) (x107 : Int) (x108 : Int) : F39_l0 N a1 k x104 x105 x106 x107 x108 = F39_l0_b N a1 (F39_l0 N a1 (k - 1)) x104 x105 x106 x107 x108 := by
  cases k with
  | zero => exact absurd hk (Nat.lt_irrefl 0)
  | succ m => rfl
def F39 (N : Nat) (a0 : Int) (a1 : (List Int)) : Option (Int) :=
  andO (F98 N a0) fun y1 => cond (!y1.2) (some (-1 : Int)) (cond (decide ((a1.length : Int) > (300 : Int))) (some (-1 : Int)) (F39_l0 N a1 N y1.1.1 y1.1.2.1 y1.1.2.2 (0 : Int) (0 : Int)))
theorem ok39 (N : Nat) (a0 : Int) (a1 : (List Int)) {r : Int} (h : F39 N a0 a1 = some r) : Con Go.Proofs.Try.prog 39 [I a0, .lf (.v (.sl (.int .i64)) a1)] [.lf (.v (.int .i64) r)] := by
  refine ctr [.lf (.v (.int .i64))] T_ok Go.Proofs.Try.func39 rfl fun w0 E0 ht => ?_
  unfold F39 at h
  show VW _ _ _ _ _ (retQ _ _ _ _) _
  refine sR T_ok [0, 1] [] ⟨[(0, I a0), (1, .lf (.v (.sl (.int .i64)) a1))], []⟩ (tn 1) ?_
  refine VW.seq ?_
  refine VW.region ?_
  refine sG T_ok 1 [1, 13] [] ⟨[(1, .lf (.v (.sl (.int .i64)) a1)), (13, I a0)], []⟩ (tn 1) ?_
  obtain ⟨y1, hy, h⟩ := andO_some h
  refine cal false [.t (.int .i64)] [] (some 14) T_ok (ok98 N _ hy) ?_
  refine sN T_ok [1, 5, 6] [2, 0, 1] ⟨[(1, .lf (.v (.sl (.int .i64)) a1)), (5, .lf (.ptr 0 0 0 0)), (6, B y1.2)], [bx [.v (.int .i64) y1.1.1, .hd 1 0 none, .hd 2 0 none] 59, ar 0 (.int .i64) y1.1.2.1 .dp, ar 0 (.int .i64) y1.1.2.2 .dp]⟩ (tn 6) ?_
  refine VW.seq ?_
  refine VW.seq ?_
  refine VW.region ?_
  refine sG T_ok 3 [1, 5, 19] [0, 1, 2] ⟨[(1, .lf (.v (.sl (.int .i64)) a1)), (5, .lf (.ptr 0 0 0 0)), (19, B (!y1.2))], [bx [.v (.int .i64) y1.1.1, .hd 1 0 none, .hd 2 0 none] 59, ar 0 (.int .i64) y1.1.2.1 .dp, ar 0 (.int .i64) y1.1.2.2 .dp]⟩ (tn 3) ?_
  refine spB 19 h (fun h => ?_) (fun h => ?_)
  · refine sN T_ok [1, 5, 23] [0, 1, 2] ⟨[(1, .lf (.v (.sl (.int .i64)) a1)), (5, .lf (.ptr 0 0 0 0)), (23, B true)], [bx [.v (.int .i64) y1.1.1, .hd 1 0 none, .hd 2 0 none] 59, ar 0 (.int .i64) y1.1.2.1 .dp, ar 0 (.int .i64) y1.1.2.2 .dp]⟩ (tn 4) ?_
    refine VW.cond (b := true) (by kernel_rfl) (fun _ => ?_) (fun h' => nomatch h')
    refine sR T_ok [4] [] ⟨[(4, I (-1 : Int))], []⟩ (tn 1) ?_
    refine VW.ret ?_
    replace h := Option.some.inj h
    subst h
    exact rt []
  refine sN T_ok [1, 5, 23] [0, 1, 2] ⟨[(1, .lf (.v (.sl (.int .i64)) a1)), (5, .lf (.ptr 0 0 0 0)), (23, B (decide ((a1.length : Int) > (300 : Int))))], [bx [.v (.int .i64) y1.1.1, .hd 1 0 none, .hd 2 0 none] 59, ar 0 (.int .i64) y1.1.2.1 .dp, ar 0 (.int .i64) y1.1.2.2 .dp]⟩ (tn 4) ?_
  refine cnd h (fun h => ?_) (fun h => ?_)
  · refine sR T_ok [4] [] ⟨[(4, I (-1 : Int))], []⟩ (tn 1) ?_
    refine VW.ret ?_
    replace h := Option.some.inj h
    subst h
    exact rt []
  refine VW.skip ?_
  refine sR T_ok [1, 5, 7] [0, 1, 2] ⟨[(1, .lf (.v (.sl (.int .i64)) a1)), (5, .lf (.ptr 0 0 0 0)), (7, I (0 : Int))], [bx [.v (.int .i64) y1.1.1, .hd 1 0 none, .hd 2 0 none] 59, ar 0 (.int .i64) y1.1.2.1 .dp, ar 0 (.int .i64) y1.1.2.2 .dp]⟩ (tn 1) ?_
  refine VW.join (fun s => ∃ (x77 : Int), s = ⟨[(7, I x77)], []⟩ ∧ F39_j0 N x77 = some r) ?_ ?_
  · refine sR T_ok [1, 5, 7, 8] [0, 1, 2] ⟨[(1, .lf (.v (.sl (.int .i64)) a1)), (5, .lf (.ptr 0 0 0 0)), (7, I (0 : Int)), (8, I (0 : Int))], [bx [.v (.int .i64) y1.1.1, .hd 1 0 none, .hd 2 0 none] 59, ar 0 (.int .i64) y1.1.2.1 .dp, ar 0 (.int .i64) y1.1.2.2 .dp]⟩ (tn 1) ?_
    refine VW.block ?_
    refine lop (fun k s => ∃ (x104 : Int) (x105 : (List Int)) (x106 : (List Int)) (x107 : Int) (x108 : Int), s = ⟨[(1, .lf (.v (.sl (.int .i64)) a1)), (5, .lf (.ptr 0 0 0 0)), (7, I x107), (8, I x108)], [bx [.v (.int .i64) x104, .hd 1 0 none, .hd 2 0 none] 59, ar 0 (.int .i64) x105 .dp, ar 0 (.int .i64) x106 .dp]⟩ ∧ F39_l0 N a1 k x104 x105 x106 x107 x108 = some r) N [.ren [1, 5, 7, 8] [0, 1, 2]] ⟨y1.1.1, y1.1.2.1, y1.1.2.2, (0 : Int), (0 : Int), rfl, h⟩ ?_
    rintro k131 s ⟨x104, x105, x106, x107, x108, rfl, h⟩
    cases k131 with
    | zero => cases show none = some r from h
    | succ k131 =>
      replace h : F39_l0_b N a1 (F39_l0 N a1 k131) x104 x105 x106 x107 x108 = some r := h
      unfold F39_l0_b at h
      refine VW.seq ?_
      refine sR T_ok [1, 5, 7, 8, 27] [0, 1, 2] ⟨[(1, .lf (.v (.sl (.int .i64)) a1)), (5, .lf (.ptr 0 0 0 0)), (7, I x107), (8, I x108), (27, B (decide (x108 < (a1.length : Int))))], [bx [.v (.int .i64) x104, .hd 1 0 none, .hd 2 0 none] 59, ar 0 (.int .i64) x105 .dp, ar 0 (.int .i64) x106 .dp]⟩ (tn 4) ?_
      refine cnd h (fun h => ?_) (fun h => ?_)
      · refine VW.skip ?_
        refine VW.seq ?_
        refine VW.block ?_
        refine VW.seq ?_
        obtain ⟨g143, h⟩ := gd_some h
        obtain ⟨y144, hy144, h⟩ := andO_some h
        refine VW.ideal (by kernel_rfl) [[], [0], [1], [2], [10], [0, 1], [0, 2], [0, 10], [1, 2], [1, 10], [2, 10], [0, 1, 2], [0, 1, 10], [0, 2, 10], [1, 2, 3], [1, 2, 10], [0, 1, 2, 3], [0, 1, 2, 10], [1, 2, 3, 4], [1, 2, 3, 10], [0, 1, 2, 3, 4], [0, 1, 2, 3, 10], [1, 2, 3, 4, 10], [0, 1, 2, 3, 4, 5], [0, 1, 2, 3, 4, 10], [0, 1, 2, 3, 4, 5, 6], [0, 1, 2, 3, 4, 5, 10], [0, 1, 2, 3, 4, 5, 6, 7], [0, 1, 2, 3, 4, 5, 6, 8], [0, 1, 2, 3, 4, 5, 6, 9], [0, 1, 2, 3, 4, 5, 6, 10], [0, 1, 2, 3, 4, 5, 6, 7, 8], [0, 1, 2, 3, 4, 5, 6, 7, 9], [0, 1, 2, 3, 4, 5, 6, 7, 10], [0, 1, 2, 3, 4, 5, 6, 8, 9], [0, 1, 2, 3, 4, 5, 6, 8, 10], [0, 1, 2, 3, 4, 5, 6, 9, 10], [0, 1, 2, 3, 4, 5, 6, 7, 8, 9], [0, 1, 2, 3, 4, 5, 6, 7, 8, 10], [0, 1, 2, 3, 4, 5, 6, 7, 9, 10], [0, 1, 2, 3, 4, 5, 6, 7, 10, 11], [0, 1, 2, 3, 4, 5, 6, 8, 9, 10], [0, 1, 2, 3, 4, 5, 6, 7, 8, 9, 10], [0, 1, 2, 3, 4, 5, 6, 7, 8, 10, 11], [0, 1, 2, 3, 4, 5, 6, 7, 9, 10, 11], [0, 1, 2, 3, 4, 5, 6, 7, 8, 9, 10, 11], [0, 1, 2, 3, 4, 5, 6, 7, 8, 10, 11, 12], [0, 1, 2, 3, 4, 5, 6, 7, 8, 9, 10, 11, 12], [0, 1, 2, 3, 4, 5, 6, 7, 8, 9, 10, 11, 12, 13]] [⟨[(1, .lf (.v (.sl (.int .i64)) a1)), (5, .lf (.ptr 0 0 0 0)), (7, I x107), (8, I x108), (27, B (decide (x108 < (a1.length : Int))))], [bx [.v (.int .i64) x104, .hd 1 0 none, .hd 2 0 none] 59, ar 0 (.int .i64) x105 .dp, ar 0 (.int .i64) x106 .dp]⟩,
    ⟨[(1, .lf (.v (.sl (.int .i64)) a1)), (5, .lf (.ptr 0 0 0 0)), (7, I x107), (8, I x108), (31, .agg [.v (.int .i64) x104, .hd 1 0 none, .hd 2 0 none])], [bx [.v (.int .i64) x104, .hd 1 0 none, .hd 2 0 none] 59, ar 0 (.int .i64) x105 .dp, ar 0 (.int .i64) x106 .dp]⟩,
    ⟨[(1, .lf (.v (.sl (.int .i64)) a1)), (5, .lf (.ptr 0 0 0 0)), (7, I x107), (8, I x108), (32, .lf (.v (.sl (.int .i64)) a1))], [bx [.v (.int .i64) x104, .hd 1 0 none, .hd 2 0 none] 59, ar 0 (.int .i64) x105 .dp, ar 0 (.int .i64) x106 .dp]⟩,
    ⟨[(1, .lf (.v (.sl (.int .i64)) a1)), (5, .lf (.ptr 0 0 0 0)), (7, I x107), (8, I x108), (33, I x108)], [bx [.v (.int .i64) x104, .hd 1 0 none, .hd 2 0 none] 59, ar 0 (.int .i64) x105 .dp, ar 0 (.int .i64) x106 .dp]⟩,
    ⟨[(1, .lf (.v (.sl (.int .i64)) a1)), (5, .lf (.ptr 0 0 0 0)), (7, I x107), (8, I x108), (9, .lf (.ptr 3 0 0 0))], [bx [.v (.int .i64) x104, .hd 1 0 none, .hd 2 0 none] 59, ar 0 (.int .i64) x105 .dp, ar 0 (.int .i64) x106 .dp, bx [.v (.int .i64) (0 : Int), .nil, .nil] 59]⟩,
    ⟨[(1, .lf (.v (.sl (.int .i64)) a1)), (5, .lf (.ptr 0 0 0 0)), (7, I x107), (8, I x108), (31, .agg [.v (.int .i64) x104, .hd 1 0 none, .hd 2 0 none]), (32, .lf (.v (.sl (.int .i64)) a1))], [bx [.v (.int .i64) x104, .hd 1 0 none, .hd 2 0 none] 59, ar 0 (.int .i64) x105 .dp, ar 0 (.int .i64) x106 .dp]⟩,
    ⟨[(1, .lf (.v (.sl (.int .i64)) a1)), (5, .lf (.ptr 0 0 0 0)), (7, I x107), (8, I x108), (31, .agg [.v (.int .i64) x104, .hd 1 0 none, .hd 2 0 none]), (33, I x108)], [bx [.v (.int .i64) x104, .hd 1 0 none, .hd 2 0 none] 59, ar 0 (.int .i64) x105 .dp, ar 0 (.int .i64) x106 .dp]⟩,
    ⟨[(1, .lf (.v (.sl (.int .i64)) a1)), (5, .lf (.ptr 0 0 0 0)), (7, I x107), (8, I x108), (9, .lf (.ptr 3 0 0 0)), (31, .agg [.v (.int .i64) x104, .hd 1 0 none, .hd 2 0 none])], [bx [.v (.int .i64) x104, .hd 1 0 none, .hd 2 0 none] 59, ar 0 (.int .i64) x105 .dp, ar 0 (.int .i64) x106 .dp, bx [.v (.int .i64) (0 : Int), .nil, .nil] 59]⟩,
    ⟨[(1, .lf (.v (.sl (.int .i64)) a1)), (5, .lf (.ptr 0 0 0 0)), (7, I x107), (8, I x108), (32, .lf (.v (.sl (.int .i64)) a1)), (33, I x108)], [bx [.v (.int .i64) x104, .hd 1 0 none, .hd 2 0 none] 59, ar 0 (.int .i64) x105 .dp, ar 0 (.int .i64) x106 .dp]⟩,
    ⟨[(1, .lf (.v (.sl (.int .i64)) a1)), (5, .lf (.ptr 0 0 0 0)), (7, I x107), (8, I x108), (9, .lf (.ptr 3 0 0 0)), (32, .lf (.v (.sl (.int .i64)) a1))], [bx [.v (.int .i64) x104, .hd 1 0 none, .hd 2 0 none] 59, ar 0 (.int .i64) x105 .dp, ar 0 (.int .i64) x106 .dp, bx [.v (.int .i64) (0 : Int), .nil, .nil] 59]⟩,
    ⟨[(1, .lf (.v (.sl (.int .i64)) a1)), (5, .lf (.ptr 0 0 0 0)), (7, I x107), (8, I x108), (9, .lf (.ptr 3 0 0 0)), (33, I x108)], [bx [.v (.int .i64) x104, .hd 1 0 none, .hd 2 0 none] 59, ar 0 (.int .i64) x105 .dp, ar 0 (.int .i64) x106 .dp, bx [.v (.int .i64) (0 : Int), .nil, .nil] 59]⟩,
    ⟨[(1, .lf (.v (.sl (.int .i64)) a1)), (5, .lf (.ptr 0 0 0 0)), (7, I x107), (8, I x108), (31, .agg [.v (.int .i64) x104, .hd 1 0 none, .hd 2 0 none]), (32, .lf (.v (.sl (.int .i64)) a1)), (33, I x108)], [bx [.v (.int .i64) x104, .hd 1 0 none, .hd 2 0 none] 59, ar 0 (.int .i64) x105 .dp, ar 0 (.int .i64) x106 .dp]⟩,
    ⟨[(1, .lf (.v (.sl (.int .i64)) a1)), (5, .lf (.ptr 0 0 0 0)), (7, I x107), (8, I x108), (9, .lf (.ptr 3 0 0 0)), (31, .agg [.v (.int .i64) x104, .hd 1 0 none, .hd 2 0 none]), (32, .lf (.v (.sl (.int .i64)) a1))], [bx [.v (.int .i64) x104, .hd 1 0 none, .hd 2 0 none] 59, ar 0 (.int .i64) x105 .dp, ar 0 (.int .i64) x106 .dp, bx [.v (.int .i64) (0 : Int), .nil, .nil] 59]⟩,
    ⟨[(1, .lf (.v (.sl (.int .i64)) a1)), (5, .lf (.ptr 0 0 0 0)), (7, I x107), (8, I x108), (9, .lf (.ptr 3 0 0 0)), (31, .agg [.v (.int .i64) x104, .hd 1 0 none, .hd 2 0 none]), (33, I x108)], [bx [.v (.int .i64) x104, .hd 1 0 none, .hd 2 0 none] 59, ar 0 (.int .i64) x105 .dp, ar 0 (.int .i64) x106 .dp, bx [.v (.int .i64) (0 : Int), .nil, .nil] 59]⟩,
    ⟨[(1, .lf (.v (.sl (.int .i64)) a1)), (5, .lf (.ptr 0 0 0 0)), (7, I x107), (8, I x108), (34, .lf (.fp (.int .i64) (a1.getD x108.toNat (Ty.dflt (.int .i64))) 0))], [bx [.v (.int .i64) x104, .hd 1 0 none, .hd 2 0 none] 59, ar 0 (.int .i64) x105 .dp, ar 0 (.int .i64) x106 .dp]⟩,
    ⟨[(1, .lf (.v (.sl (.int .i64)) a1)), (5, .lf (.ptr 0 0 0 0)), (7, I x107), (8, I x108), (9, .lf (.ptr 3 0 0 0)), (32, .lf (.v (.sl (.int .i64)) a1)), (33, I x108)], [bx [.v (.int .i64) x104, .hd 1 0 none, .hd 2 0 none] 59, ar 0 (.int .i64) x105 .dp, ar 0 (.int .i64) x106 .dp, bx [.v (.int .i64) (0 : Int), .nil, .nil] 59]⟩,
    ⟨[(1, .lf (.v (.sl (.int .i64)) a1)), (5, .lf (.ptr 0 0 0 0)), (7, I x107), (8, I x108), (31, .agg [.v (.int .i64) x104, .hd 1 0 none, .hd 2 0 none]), (34, .lf (.fp (.int .i64) (a1.getD x108.toNat (Ty.dflt (.int .i64))) 0))], [bx [.v (.int .i64) x104, .hd 1 0 none, .hd 2 0 none] 59, ar 0 (.int .i64) x105 .dp, ar 0 (.int .i64) x106 .dp]⟩,
    ⟨[(1, .lf (.v (.sl (.int .i64)) a1)), (5, .lf (.ptr 0 0 0 0)), (7, I x107), (8, I x108), (9, .lf (.ptr 3 0 0 0)), (31, .agg [.v (.int .i64) x104, .hd 1 0 none, .hd 2 0 none]), (32, .lf (.v (.sl (.int .i64)) a1)), (33, I x108)], [bx [.v (.int .i64) x104, .hd 1 0 none, .hd 2 0 none] 59, ar 0 (.int .i64) x105 .dp, ar 0 (.int .i64) x106 .dp, bx [.v (.int .i64) (0 : Int), .nil, .nil] 59]⟩,
    ⟨[(1, .lf (.v (.sl (.int .i64)) a1)), (5, .lf (.ptr 0 0 0 0)), (7, I x107), (8, I x108), (35, I (a1.getD x108.toNat (Ty.dflt (.int .i64))))], [bx [.v (.int .i64) x104, .hd 1 0 none, .hd 2 0 none] 59, ar 0 (.int .i64) x105 .dp, ar 0 (.int .i64) x106 .dp]⟩,
    ⟨[(1, .lf (.v (.sl (.int .i64)) a1)), (5, .lf (.ptr 0 0 0 0)), (7, I x107), (8, I x108), (9, .lf (.ptr 3 0 0 0)), (34, .lf (.fp (.int .i64) (a1.getD x108.toNat (Ty.dflt (.int .i64))) 0))], [bx [.v (.int .i64) x104, .hd 1 0 none, .hd 2 0 none] 59, ar 0 (.int .i64) x105 .dp, ar 0 (.int .i64) x106 .dp, bx [.v (.int .i64) (0 : Int), .nil, .nil] 59]⟩,
    ⟨[(1, .lf (.v (.sl (.int .i64)) a1)), (5, .lf (.ptr 0 0 0 0)), (7, I x107), (8, I x108), (31, .agg [.v (.int .i64) x104, .hd 1 0 none, .hd 2 0 none]), (35, I (a1.getD x108.toNat (Ty.dflt (.int .i64))))], [bx [.v (.int .i64) x104, .hd 1 0 none, .hd 2 0 none] 59, ar 0 (.int .i64) x105 .dp, ar 0 (.int .i64) x106 .dp]⟩,
    ⟨[(1, .lf (.v (.sl (.int .i64)) a1)), (5, .lf (.ptr 0 0 0 0)), (7, I x107), (8, I x108), (9, .lf (.ptr 3 0 0 0)), (31, .agg [.v (.int .i64) x104, .hd 1 0 none, .hd 2 0 none]), (34, .lf (.fp (.int .i64) (a1.getD x108.toNat (Ty.dflt (.int .i64))) 0))], [bx [.v (.int .i64) x104, .hd 1 0 none, .hd 2 0 none] 59, ar 0 (.int .i64) x105 .dp, ar 0 (.int .i64) x106 .dp, bx [.v (.int .i64) (0 : Int), .nil, .nil] 59]⟩,
    ⟨[(1, .lf (.v (.sl (.int .i64)) a1)), (5, .lf (.ptr 0 0 0 0)), (7, I x107), (8, I x108), (9, .lf (.ptr 3 0 0 0)), (35, I (a1.getD x108.toNat (Ty.dflt (.int .i64))))], [bx [.v (.int .i64) x104, .hd 1 0 none, .hd 2 0 none] 59, ar 0 (.int .i64) x105 .dp, ar 0 (.int .i64) x106 .dp, bx [.v (.int .i64) (0 : Int), .nil, .nil] 59]⟩,
    ⟨[(1, .lf (.v (.sl (.int .i64)) a1)), (5, .lf (.ptr 0 0 0 0)), (7, I x107), (8, I x108), (36, .tup [.agg [.v (.int .i64) y144.1.1, .hd 3 0 none, .hd 4 0 none], .lf (.v (.int .i64) y144.2.1), .lf (.v .bool y144.2.2)])], [bx [.v (.int .i64) x104, .hd 1 0 none, .hd 2 0 none] 59, ar 0 (.int .i64) x105 .dp, ar 0 (.int .i64) x106 .dp, ar 0 (.int .i64) y144.1.2.1 .dp, ar 0 (.int .i64) y144.1.2.2 .dp]⟩,
    ⟨[(1, .lf (.v (.sl (.int .i64)) a1)), (5, .lf (.ptr 0 0 0 0)), (7, I x107), (8, I x108), (9, .lf (.ptr 3 0 0 0)), (31, .agg [.v (.int .i64) x104, .hd 1 0 none, .hd 2 0 none]), (35, I (a1.getD x108.toNat (Ty.dflt (.int .i64))))], [bx [.v (.int .i64) x104, .hd 1 0 none, .hd 2 0 none] 59, ar 0 (.int .i64) x105 .dp, ar 0 (.int .i64) x106 .dp, bx [.v (.int .i64) (0 : Int), .nil, .nil] 59]⟩,
    ⟨[(1, .lf (.v (.sl (.int .i64)) a1)), (5, .lf (.ptr 0 0 0 0)), (7, I x107), (8, I x108), (30, .tup [.agg [.v (.int .i64) y144.1.1, .hd 3 0 none, .hd 4 0 none], .lf (.v (.int .i64) y144.2.1), .lf (.v .bool y144.2.2)])], [bx [.v (.int .i64) x104, .hd 1 0 none, .hd 2 0 none] 59, ar 0 (.int .i64) x105 .dp, ar 0 (.int .i64) x106 .dp, ar 0 (.int .i64) y144.1.2.1 .dp, ar 0 (.int .i64) y144.1.2.2 .dp]⟩,
    ⟨[(1, .lf (.v (.sl (.int .i64)) a1)), (5, .lf (.ptr 0 0 0 0)), (7, I x107), (8, I x108), (9, .lf (.ptr 3 0 0 0)), (36, .tup [.agg [.v (.int .i64) y144.1.1, .hd 4 0 none, .hd 5 0 none], .lf (.v (.int .i64) y144.2.1), .lf (.v .bool y144.2.2)])], [bx [.v (.int .i64) x104, .hd 1 0 none, .hd 2 0 none] 59, ar 0 (.int .i64) x105 .dp, ar 0 (.int .i64) x106 .dp, bx [.v (.int .i64) (0 : Int), .nil, .nil] 59, ar 0 (.int .i64) y144.1.2.1 .dp, ar 0 (.int .i64) y144.1.2.2 .dp]⟩,
    ⟨[(1, .lf (.v (.sl (.int .i64)) a1)), (5, .lf (.ptr 0 0 0 0)), (7, I x107), (8, I x108), (30, .tup [.agg [.v (.int .i64) y144.1.1, .hd 3 0 none, .hd 4 0 none], .lf (.v (.int .i64) y144.2.1), .lf (.v .bool y144.2.2)]), (37, .agg [.v (.int .i64) y144.1.1, .hd 3 0 none, .hd 4 0 none])], [bx [.v (.int .i64) x104, .hd 1 0 none, .hd 2 0 none] 59, ar 0 (.int .i64) x105 .dp, ar 0 (.int .i64) x106 .dp, ar 0 (.int .i64) y144.1.2.1 .dp, ar 0 (.int .i64) y144.1.2.2 .dp]⟩,
    ⟨[(1, .lf (.v (.sl (.int .i64)) a1)), (5, .lf (.ptr 0 0 0 0)), (7, I x107), (8, I x108), (30, .tup [.agg [.v (.int .i64) y144.1.1, .hd 3 0 none, .hd 4 0 none], .lf (.v (.int .i64) y144.2.1), .lf (.v .bool y144.2.2)]), (38, I y144.2.1)], [bx [.v (.int .i64) x104, .hd 1 0 none, .hd 2 0 none] 59, ar 0 (.int .i64) x105 .dp, ar 0 (.int .i64) x106 .dp, ar 0 (.int .i64) y144.1.2.1 .dp, ar 0 (.int .i64) y144.1.2.2 .dp]⟩,
    ⟨[(1, .lf (.v (.sl (.int .i64)) a1)), (5, .lf (.ptr 0 0 0 0)), (7, I x107), (8, I x108), (30, .tup [.agg [.v (.int .i64) y144.1.1, .hd 3 0 none, .hd 4 0 none], .lf (.v (.int .i64) y144.2.1), .lf (.v .bool y144.2.2)]), (39, B y144.2.2)], [bx [.v (.int .i64) x104, .hd 1 0 none, .hd 2 0 none] 59, ar 0 (.int .i64) x105 .dp, ar 0 (.int .i64) x106 .dp, ar 0 (.int .i64) y144.1.2.1 .dp, ar 0 (.int .i64) y144.1.2.2 .dp]⟩,
    ⟨[(1, .lf (.v (.sl (.int .i64)) a1)), (5, .lf (.ptr 0 0 0 0)), (7, I x107), (8, I x108), (9, .lf (.ptr 3 0 0 0)), (30, .tup [.agg [.v (.int .i64) y144.1.1, .hd 4 0 none, .hd 5 0 none], .lf (.v (.int .i64) y144.2.1), .lf (.v .bool y144.2.2)])], [bx [.v (.int .i64) x104, .hd 1 0 none, .hd 2 0 none] 59, ar 0 (.int .i64) x105 .dp, ar 0 (.int .i64) x106 .dp, bx [.v (.int .i64) (0 : Int), .nil, .nil] 59, ar 0 (.int .i64) y144.1.2.1 .dp, ar 0 (.int .i64) y144.1.2.2 .dp]⟩,
    ⟨[(1, .lf (.v (.sl (.int .i64)) a1)), (5, .lf (.ptr 0 0 0 0)), (7, I x107), (8, I x108), (30, .tup [.agg [.v (.int .i64) y144.1.1, .hd 3 0 none, .hd 4 0 none], .lf (.v (.int .i64) y144.2.1), .lf (.v .bool y144.2.2)]), (37, .agg [.v (.int .i64) y144.1.1, .hd 3 0 none, .hd 4 0 none]), (38, I y144.2.1)], [bx [.v (.int .i64) x104, .hd 1 0 none, .hd 2 0 none] 59, ar 0 (.int .i64) x105 .dp, ar 0 (.int .i64) x106 .dp, ar 0 (.int .i64) y144.1.2.1 .dp, ar 0 (.int .i64) y144.1.2.2 .dp]⟩,
    ⟨[(1, .lf (.v (.sl (.int .i64)) a1)), (5, .lf (.ptr 0 0 0 0)), (7, I x107), (8, I x108), (30, .tup [.agg [.v (.int .i64) y144.1.1, .hd 3 0 none, .hd 4 0 none], .lf (.v (.int .i64) y144.2.1), .lf (.v .bool y144.2.2)]), (37, .agg [.v (.int .i64) y144.1.1, .hd 3 0 none, .hd 4 0 none]), (39, B y144.2.2)], [bx [.v (.int .i64) x104, .hd 1 0 none, .hd 2 0 none] 59, ar 0 (.int .i64) x105 .dp, ar 0 (.int .i64) x106 .dp, ar 0 (.int .i64) y144.1.2.1 .dp, ar 0 (.int .i64) y144.1.2.2 .dp]⟩,
    ⟨[(1, .lf (.v (.sl (.int .i64)) a1)), (5, .lf (.ptr 0 0 0 0)), (7, I x107), (8, I x108), (9, .lf (.ptr 3 0 0 0)), (30, .tup [.agg [.v (.int .i64) y144.1.1, .hd 4 0 none, .hd 5 0 none], .lf (.v (.int .i64) y144.2.1), .lf (.v .bool y144.2.2)]), (37, .agg [.v (.int .i64) y144.1.1, .hd 4 0 none, .hd 5 0 none])], [bx [.v (.int .i64) x104, .hd 1 0 none, .hd 2 0 none] 59, ar 0 (.int .i64) x105 .dp, ar 0 (.int .i64) x106 .dp, bx [.v (.int .i64) (0 : Int), .nil, .nil] 59, ar 0 (.int .i64) y144.1.2.1 .dp, ar 0 (.int .i64) y144.1.2.2 .dp]⟩,
    ⟨[(1, .lf (.v (.sl (.int .i64)) a1)), (5, .lf (.ptr 0 0 0 0)), (7, I x107), (8, I x108), (30, .tup [.agg [.v (.int .i64) y144.1.1, .hd 3 0 none, .hd 4 0 none], .lf (.v (.int .i64) y144.2.1), .lf (.v .bool y144.2.2)]), (38, I y144.2.1), (39, B y144.2.2)], [bx [.v (.int .i64) x104, .hd 1 0 none, .hd 2 0 none] 59, ar 0 (.int .i64) x105 .dp, ar 0 (.int .i64) x106 .dp, ar 0 (.int .i64) y144.1.2.1 .dp, ar 0 (.int .i64) y144.1.2.2 .dp]⟩,
    ⟨[(1, .lf (.v (.sl (.int .i64)) a1)), (5, .lf (.ptr 0 0 0 0)), (7, I x107), (8, I x108), (9, .lf (.ptr 3 0 0 0)), (30, .tup [.agg [.v (.int .i64) y144.1.1, .hd 4 0 none, .hd 5 0 none], .lf (.v (.int .i64) y144.2.1), .lf (.v .bool y144.2.2)]), (38, I y144.2.1)], [bx [.v (.int .i64) x104, .hd 1 0 none, .hd 2 0 none] 59, ar 0 (.int .i64) x105 .dp, ar 0 (.int .i64) x106 .dp, bx [.v (.int .i64) (0 : Int), .nil, .nil] 59, ar 0 (.int .i64) y144.1.2.1 .dp, ar 0 (.int .i64) y144.1.2.2 .dp]⟩,
    ⟨[(1, .lf (.v (.sl (.int .i64)) a1)), (5, .lf (.ptr 0 0 0 0)), (7, I x107), (8, I x108), (9, .lf (.ptr 3 0 0 0)), (30, .tup [.agg [.v (.int .i64) y144.1.1, .hd 4 0 none, .hd 5 0 none], .lf (.v (.int .i64) y144.2.1), .lf (.v .bool y144.2.2)]), (39, B y144.2.2)], [bx [.v (.int .i64) x104, .hd 1 0 none, .hd 2 0 none] 59, ar 0 (.int .i64) x105 .dp, ar 0 (.int .i64) x106 .dp, bx [.v (.int .i64) (0 : Int), .nil, .nil] 59, ar 0 (.int .i64) y144.1.2.1 .dp, ar 0 (.int .i64) y144.1.2.2 .dp]⟩,
    ⟨[(1, .lf (.v (.sl (.int .i64)) a1)), (5, .lf (.ptr 0 0 0 0)), (7, I x107), (8, I x108), (37, .agg [.v (.int .i64) y144.1.1, .hd 3 0 none, .hd 4 0 none]), (38, I y144.2.1), (39, B y144.2.2)], [bx [.v (.int .i64) x104, .hd 1 0 none, .hd 2 0 none] 59, ar 0 (.int .i64) x105 .dp, ar 0 (.int .i64) x106 .dp, ar 0 (.int .i64) y144.1.2.1 .dp, ar 0 (.int .i64) y144.1.2.2 .dp]⟩,
    ⟨[(1, .lf (.v (.sl (.int .i64)) a1)), (5, .lf (.ptr 0 0 0 0)), (7, I x107), (8, I x108), (9, .lf (.ptr 3 0 0 0)), (30, .tup [.agg [.v (.int .i64) y144.1.1, .hd 4 0 none, .hd 5 0 none], .lf (.v (.int .i64) y144.2.1), .lf (.v .bool y144.2.2)]), (37, .agg [.v (.int .i64) y144.1.1, .hd 4 0 none, .hd 5 0 none]), (38, I y144.2.1)], [bx [.v (.int .i64) x104, .hd 1 0 none, .hd 2 0 none] 59, ar 0 (.int .i64) x105 .dp, ar 0 (.int .i64) x106 .dp, bx [.v (.int .i64) (0 : Int), .nil, .nil] 59, ar 0 (.int .i64) y144.1.2.1 .dp, ar 0 (.int .i64) y144.1.2.2 .dp]⟩,
    ⟨[(1, .lf (.v (.sl (.int .i64)) a1)), (5, .lf (.ptr 0 0 0 0)), (7, I x107), (8, I x108), (9, .lf (.ptr 3 0 0 0)), (30, .tup [.agg [.v (.int .i64) y144.1.1, .hd 4 0 none, .hd 5 0 none], .lf (.v (.int .i64) y144.2.1), .lf (.v .bool y144.2.2)]), (37, .agg [.v (.int .i64) y144.1.1, .hd 4 0 none, .hd 5 0 none]), (39, B y144.2.2)], [bx [.v (.int .i64) x104, .hd 1 0 none, .hd 2 0 none] 59, ar 0 (.int .i64) x105 .dp, ar 0 (.int .i64) x106 .dp, bx [.v (.int .i64) (0 : Int), .nil, .nil] 59, ar 0 (.int .i64) y144.1.2.1 .dp, ar 0 (.int .i64) y144.1.2.2 .dp]⟩,
    ⟨[(1, .lf (.v (.sl (.int .i64)) a1)), (5, .lf (.ptr 0 0 0 0)), (7, I x107), (8, I x108), (9, .lf (.ptr 3 0 0 0)), (30, .tup [.agg [.v (.int .i64) y144.1.1, .hd 4 0 none, .hd 5 0 none], .lf (.v (.int .i64) y144.2.1), .lf (.v .bool y144.2.2)])], [bx [.v (.int .i64) x104, .hd 1 0 none, .hd 2 0 none] 59, ar 0 (.int .i64) x105 .dp, ar 0 (.int .i64) x106 .dp, bx [.v (.int .i64) y144.1.1, .hd 4 0 none, .hd 5 0 none] 59, ar 0 (.int .i64) y144.1.2.1 .dp, ar 0 (.int .i64) y144.1.2.2 .dp]⟩,
    ⟨[(1, .lf (.v (.sl (.int .i64)) a1)), (5, .lf (.ptr 0 0 0 0)), (7, I x107), (8, I x108), (9, .lf (.ptr 3 0 0 0)), (30, .tup [.agg [.v (.int .i64) y144.1.1, .hd 4 0 none, .hd 5 0 none], .lf (.v (.int .i64) y144.2.1), .lf (.v .bool y144.2.2)]), (38, I y144.2.1), (39, B y144.2.2)], [bx [.v (.int .i64) x104, .hd 1 0 none, .hd 2 0 none] 59, ar 0 (.int .i64) x105 .dp, ar 0 (.int .i64) x106 .dp, bx [.v (.int .i64) (0 : Int), .nil, .nil] 59, ar 0 (.int .i64) y144.1.2.1 .dp, ar 0 (.int .i64) y144.1.2.2 .dp]⟩,
    ⟨[(1, .lf (.v (.sl (.int .i64)) a1)), (5, .lf (.ptr 0 0 0 0)), (7, I x107), (8, I x108), (9, .lf (.ptr 3 0 0 0)), (37, .agg [.v (.int .i64) y144.1.1, .hd 4 0 none, .hd 5 0 none]), (38, I y144.2.1), (39, B y144.2.2)], [bx [.v (.int .i64) x104, .hd 1 0 none, .hd 2 0 none] 59, ar 0 (.int .i64) x105 .dp, ar 0 (.int .i64) x106 .dp, bx [.v (.int .i64) (0 : Int), .nil, .nil] 59, ar 0 (.int .i64) y144.1.2.1 .dp, ar 0 (.int .i64) y144.1.2.2 .dp]⟩,
    ⟨[(1, .lf (.v (.sl (.int .i64)) a1)), (5, .lf (.ptr 0 0 0 0)), (7, I x107), (8, I x108), (9, .lf (.ptr 3 0 0 0)), (30, .tup [.agg [.v (.int .i64) y144.1.1, .hd 4 0 none, .hd 5 0 none], .lf (.v (.int .i64) y144.2.1), .lf (.v .bool y144.2.2)]), (38, I y144.2.1)], [bx [.v (.int .i64) x104, .hd 1 0 none, .hd 2 0 none] 59, ar 0 (.int .i64) x105 .dp, ar 0 (.int .i64) x106 .dp, bx [.v (.int .i64) y144.1.1, .hd 4 0 none, .hd 5 0 none] 59, ar 0 (.int .i64) y144.1.2.1 .dp, ar 0 (.int .i64) y144.1.2.2 .dp]⟩,
    ⟨[(1, .lf (.v (.sl (.int .i64)) a1)), (5, .lf (.ptr 0 0 0 0)), (7, I x107), (8, I x108), (9, .lf (.ptr 3 0 0 0)), (30, .tup [.agg [.v (.int .i64) y144.1.1, .hd 4 0 none, .hd 5 0 none], .lf (.v (.int .i64) y144.2.1), .lf (.v .bool y144.2.2)]), (39, B y144.2.2)], [bx [.v (.int .i64) x104, .hd 1 0 none, .hd 2 0 none] 59, ar 0 (.int .i64) x105 .dp, ar 0 (.int .i64) x106 .dp, bx [.v (.int .i64) y144.1.1, .hd 4 0 none, .hd 5 0 none] 59, ar 0 (.int .i64) y144.1.2.1 .dp, ar 0 (.int .i64) y144.1.2.2 .dp]⟩,
    ⟨[(1, .lf (.v (.sl (.int .i64)) a1)), (5, .lf (.ptr 0 0 0 0)), (7, I x107), (8, I x108), (9, .lf (.ptr 3 0 0 0)), (38, I y144.2.1), (39, B y144.2.2)], [bx [.v (.int .i64) x104, .hd 1 0 none, .hd 2 0 none] 59, ar 0 (.int .i64) x105 .dp, ar 0 (.int .i64) x106 .dp, bx [.v (.int .i64) y144.1.1, .hd 4 0 none, .hd 5 0 none] 59, ar 0 (.int .i64) y144.1.2.1 .dp, ar 0 (.int .i64) y144.1.2.2 .dp]⟩,
    ⟨[(1, .lf (.v (.sl (.int .i64)) a1)), (5, .lf (.ptr 0 0 0 0)), (7, I x107), (8, I x108), (9, .lf (.ptr 3 0 0 0)), (30, .tup [.agg [.v (.int .i64) y144.1.1, .hd 4 0 none, .hd 5 0 none], .lf (.v (.int .i64) y144.2.1), .lf (.v .bool y144.2.2)])], [bx [.v (.int .i64) x104, .hd 1 0 none, .hd 2 0 none] 59, ar 0 (.int .i64) x105 .dp, ar 0 (.int .i64) x106 .dp, bx [.v (.int .i64) y144.1.1, .hd 4 0 none, .hd 5 0 none] 59, ar 0 (.int .i64) y144.1.2.1 .dp, ar 0 (.int .i64) y144.1.2.2 .dp]⟩,
    ⟨[(1, .lf (.v (.sl (.int .i64)) a1)), (5, .lf (.ptr 0 0 0 0)), (7, I x107), (8, I x108), (9, .lf (.ptr 3 0 0 0)), (39, B y144.2.2)], [bx [.v (.int .i64) x104, .hd 1 0 none, .hd 2 0 none] 59, ar 0 (.int .i64) x105 .dp, ar 0 (.int .i64) x106 .dp, bx [.v (.int .i64) y144.1.1, .hd 4 0 none, .hd 5 0 none] 59, ar 0 (.int .i64) y144.1.2.1 .dp, ar 0 (.int .i64) y144.1.2.2 .dp]⟩,
    ⟨[(1, .lf (.v (.sl (.int .i64)) a1)), (5, .lf (.ptr 0 0 0 0)), (7, I x107), (8, I x108), (9, .lf (.ptr 3 0 0 0)), (11, B y144.2.2)], [bx [.v (.int .i64) x104, .hd 1 0 none, .hd 2 0 none] 59, ar 0 (.int .i64) x105 .dp, ar 0 (.int .i64) x106 .dp, bx [.v (.int .i64) y144.1.1, .hd 4 0 none, .hd 5 0 none] 59, ar 0 (.int .i64) y144.1.2.1 .dp, ar 0 (.int .i64) y144.1.2.2 .dp]⟩] [(0, 0, 1), (0, 1, 2), (0, 2, 3), (0, 10, 4), (1, 1, 5), (1, 2, 6), (1, 10, 7), (2, 0, 5), (2, 2, 8), (2, 10, 9), (3, 0, 6), (3, 1, 8), (3, 10, 10), (4, 0, 7), (4, 1, 9), (4, 2, 10), (5, 2, 11), (5, 10, 12), (6, 1, 11), (6, 10, 13), (7, 1, 12), (7, 2, 13), (8, 0, 11), (8, 3, 14), (8, 10, 15), (9, 0, 12), (9, 2, 15), (10, 0, 13), (10, 1, 15), (11, 3, 16), (11, 10, 17), (12, 2, 17), (13, 1, 17), (14, 0, 16), (14, 4, 18), (14, 10, 19), (15, 0, 17), (15, 3, 19), (16, 4, 20), (16, 10, 21), (17, 3, 21), (18, 0, 20), (18, 10, 22), (19, 0, 21), (19, 4, 22), (20, 5, 23), (20, 10, 24), (21, 4, 24), (22, 0, 24), (23, 6, 25), (23, 10, 26), (24, 5, 26), (25, 7, 27), (25, 8, 28), (25, 9, 29), (25, 10, 30), (26, 6, 30), (27, 8, 31), (27, 9, 32), (27, 10, 33), (28, 7, 31), (28, 9, 34), (28, 10, 35), (29, 7, 32), (29, 8, 34), (29, 10, 36), (30, 7, 33), (30, 8, 35), (30, 9, 36), (31, 9, 37), (31, 10, 38), (32, 8, 37), (32, 10, 39), (33, 8, 38), (33, 9, 39), (33, 11, 40), (34, 7, 37), (34, 10, 41), (35, 7, 38), (35, 9, 41), (36, 7, 39), (36, 8, 41), (37, 10, 42), (38, 9, 42), (38, 11, 43), (39, 8, 42), (39, 11, 44), (40, 8, 43), (40, 9, 44), (41, 7, 42), (42, 11, 45), (43, 9, 45), (43, 12, 46), (44, 8, 45), (45, 12, 47), (46, 9, 47), (47, 13, 48)] 48 (s' := ⟨[(1, .lf (.v (.sl (.int .i64)) a1)), (5, .lf (.ptr 0 0 0 0)), (7, I x107), (8, I x108), (9, .lf (.ptr 3 0 0 0)), (11, B y144.2.2)], [bx [.v (.int .i64) x104, .hd 1 0 none, .hd 2 0 none] 59, ar 0 (.int .i64) x105 .dp, ar 0 (.int .i64) x106 .dp, bx [.v (.int .i64) y144.1.1, .hd 4 0 none, .hd 5 0 none] 59, ar 0 (.int .i64) y144.1.2.1 .dp, ar 0 (.int .i64) y144.1.2.2 .dp]⟩) (by kernel_rfl) rfl rfl ⟨⟨_, _, _, rfl, rfl, rfl, VO.seg T_ok .dp 1 [1, 5, 7, 8, 31] [0, 1, 2] (φ := True ∧ True) (by kernel_rfl) ⟨trivial, trivial⟩ (VI.fin rfl)⟩,
    ⟨_, _, _, rfl, rfl, rfl, VO.seg T_ok .dp 1 [1, 5, 7, 8, 32] [0, 1, 2] (φ := True ∧ True) (by kernel_rfl) ⟨trivial, trivial⟩ (VI.fin rfl)⟩,
    ⟨_, _, _, rfl, rfl, rfl, VO.seg T_ok .dp 1 [1, 5, 7, 8, 33] [0, 1, 2] (φ := True ∧ True) (by kernel_rfl) ⟨trivial, trivial⟩ (VI.fin rfl)⟩,
    ⟨_, _, _, rfl, rfl, rfl, VO.seg T_ok .dp 1 [1, 5, 7, 8, 9] [0, 1, 2, 3] (φ := True ∧ True) (by kernel_rfl) ⟨trivial, trivial⟩ (VI.fin rfl)⟩,
    ⟨_, _, _, rfl, rfl, rfl, VO.seg T_ok .dp 1 [1, 5, 7, 8, 31, 32] [0, 1, 2] (φ := True ∧ True) (by kernel_rfl) ⟨trivial, trivial⟩ (VI.fin rfl)⟩,
    ⟨_, _, _, rfl, rfl, rfl, VO.seg T_ok .dp 1 [1, 5, 7, 8, 31, 33] [0, 1, 2] (φ := True ∧ True) (by kernel_rfl) ⟨trivial, trivial⟩ (VI.fin rfl)⟩,
    ⟨_, _, _, rfl, rfl, rfl, VO.seg T_ok .dp 1 [1, 5, 7, 8, 9, 31] [0, 1, 2, 3] (φ := True ∧ True) (by kernel_rfl) ⟨trivial, trivial⟩ (VI.fin rfl)⟩,
    ⟨_, _, _, rfl, rfl, rfl, VO.seg T_ok .dp 1 [1, 5, 7, 8, 31, 32] [0, 1, 2] (φ := True ∧ True) (by kernel_rfl) ⟨trivial, trivial⟩ (VI.fin rfl)⟩,
    ⟨_, _, _, rfl, rfl, rfl, VO.seg T_ok .dp 1 [1, 5, 7, 8, 32, 33] [0, 1, 2] (φ := True ∧ True) (by kernel_rfl) ⟨trivial, trivial⟩ (VI.fin rfl)⟩,
    ⟨_, _, _, rfl, rfl, rfl, VO.seg T_ok .dp 1 [1, 5, 7, 8, 9, 32] [0, 1, 2, 3] (φ := True ∧ True) (by kernel_rfl) ⟨trivial, trivial⟩ (VI.fin rfl)⟩,
    ⟨_, _, _, rfl, rfl, rfl, VO.seg T_ok .dp 1 [1, 5, 7, 8, 31, 33] [0, 1, 2] (φ := True ∧ True) (by kernel_rfl) ⟨trivial, trivial⟩ (VI.fin rfl)⟩,
    ⟨_, _, _, rfl, rfl, rfl, VO.seg T_ok .dp 1 [1, 5, 7, 8, 32, 33] [0, 1, 2] (φ := True ∧ True) (by kernel_rfl) ⟨trivial, trivial⟩ (VI.fin rfl)⟩,
    ⟨_, _, _, rfl, rfl, rfl, VO.seg T_ok .dp 1 [1, 5, 7, 8, 9, 33] [0, 1, 2, 3] (φ := True ∧ True) (by kernel_rfl) ⟨trivial, trivial⟩ (VI.fin rfl)⟩,
    ⟨_, _, _, rfl, rfl, rfl, VO.seg T_ok .dp 1 [1, 5, 7, 8, 9, 31] [0, 1, 2, 3] (φ := True ∧ True) (by kernel_rfl) ⟨trivial, trivial⟩ (VI.fin rfl)⟩,
    ⟨_, _, _, rfl, rfl, rfl, VO.seg T_ok .dp 1 [1, 5, 7, 8, 9, 32] [0, 1, 2, 3] (φ := True ∧ True) (by kernel_rfl) ⟨trivial, trivial⟩ (VI.fin rfl)⟩,
    ⟨_, _, _, rfl, rfl, rfl, VO.seg T_ok .dp 1 [1, 5, 7, 8, 9, 33] [0, 1, 2, 3] (φ := True ∧ True) (by kernel_rfl) ⟨trivial, trivial⟩ (VI.fin rfl)⟩,
    ⟨_, _, _, rfl, rfl, rfl, VO.seg T_ok .dp 1 [1, 5, 7, 8, 31, 32, 33] [0, 1, 2] (φ := True ∧ True) (by kernel_rfl) ⟨trivial, trivial⟩ (VI.fin rfl)⟩,
    ⟨_, _, _, rfl, rfl, rfl, VO.seg T_ok .dp 1 [1, 5, 7, 8, 9, 31, 32] [0, 1, 2, 3] (φ := True ∧ True) (by kernel_rfl) ⟨trivial, trivial⟩ (VI.fin rfl)⟩,
    ⟨_, _, _, rfl, rfl, rfl, VO.seg T_ok .dp 1 [1, 5, 7, 8, 31, 32, 33] [0, 1, 2] (φ := True ∧ True) (by kernel_rfl) ⟨trivial, trivial⟩ (VI.fin rfl)⟩,
    ⟨_, _, _, rfl, rfl, rfl, VO.seg T_ok .dp 1 [1, 5, 7, 8, 9, 31, 33] [0, 1, 2, 3] (φ := True ∧ True) (by kernel_rfl) ⟨trivial, trivial⟩ (VI.fin rfl)⟩,
    ⟨_, _, _, rfl, rfl, rfl, VO.seg T_ok .dp 1 [1, 5, 7, 8, 9, 31, 32] [0, 1, 2, 3] (φ := True ∧ True) (by kernel_rfl) ⟨trivial, trivial⟩ (VI.fin rfl)⟩,
    ⟨_, _, _, rfl, rfl, rfl, VO.seg T_ok .dp 1 [1, 5, 7, 8, 9, 31, 33] [0, 1, 2, 3] (φ := True ∧ True) (by kernel_rfl) ⟨trivial, trivial⟩ (VI.fin rfl)⟩,
    ⟨_, _, _, rfl, rfl, rfl, VO.seg T_ok .dp 1 [1, 5, 7, 8, 31, 32, 33] [0, 1, 2] (φ := True ∧ True) (by kernel_rfl) ⟨trivial, trivial⟩ (VI.fin rfl)⟩,
    ⟨_, _, _, rfl, rfl, rfl, VO.seg T_ok .dp 1 [1, 5, 7, 8, 34] [0, 1, 2] (φ := (InR x108 a1.length) ∧ True) (by kernel_rfl) ⟨g143, trivial⟩ (VI.fin rfl)⟩,
    ⟨_, _, _, rfl, rfl, rfl, VO.seg T_ok .dp 1 [1, 5, 7, 8, 9, 32, 33] [0, 1, 2, 3] (φ := True ∧ True) (by kernel_rfl) ⟨trivial, trivial⟩ (VI.fin rfl)⟩,
    ⟨_, _, _, rfl, rfl, rfl, VO.seg T_ok .dp 1 [1, 5, 7, 8, 9, 31, 32] [0, 1, 2, 3] (φ := True ∧ True) (by kernel_rfl) ⟨trivial, trivial⟩ (VI.fin rfl)⟩,
    ⟨_, _, _, rfl, rfl, rfl, VO.seg T_ok .dp 1 [1, 5, 7, 8, 9, 32, 33] [0, 1, 2, 3] (φ := True ∧ True) (by kernel_rfl) ⟨trivial, trivial⟩ (VI.fin rfl)⟩,
    ⟨_, _, _, rfl, rfl, rfl, VO.seg T_ok .dp 1 [1, 5, 7, 8, 9, 31, 33] [0, 1, 2, 3] (φ := True ∧ True) (by kernel_rfl) ⟨trivial, trivial⟩ (VI.fin rfl)⟩,
    ⟨_, _, _, rfl, rfl, rfl, VO.seg T_ok .dp 1 [1, 5, 7, 8, 9, 32, 33] [0, 1, 2, 3] (φ := True ∧ True) (by kernel_rfl) ⟨trivial, trivial⟩ (VI.fin rfl)⟩,
    ⟨_, _, _, rfl, rfl, rfl, VO.seg T_ok .dp 1 [1, 5, 7, 8, 31, 34] [0, 1, 2] (φ := (InR x108 a1.length) ∧ True) (by kernel_rfl) ⟨g143, trivial⟩ (VI.fin rfl)⟩,
    ⟨_, _, _, rfl, rfl, rfl, VO.seg T_ok .dp 1 [1, 5, 7, 8, 9, 31, 32, 33] [0, 1, 2, 3] (φ := True ∧ True) (by kernel_rfl) ⟨trivial, trivial⟩ (VI.fin rfl)⟩,
    ⟨_, _, _, rfl, rfl, rfl, VO.seg T_ok .dp 1 [1, 5, 7, 8, 9, 31, 32, 33] [0, 1, 2, 3] (φ := True ∧ True) (by kernel_rfl) ⟨trivial, trivial⟩ (VI.fin rfl)⟩,
    ⟨_, _, _, rfl, rfl, rfl, VO.seg T_ok .dp 1 [1, 5, 7, 8, 9, 31, 32, 33] [0, 1, 2, 3] (φ := True ∧ True) (by kernel_rfl) ⟨trivial, trivial⟩ (VI.fin rfl)⟩,
    ⟨_, _, _, rfl, rfl, rfl, VO.seg T_ok .dp 1 [1, 5, 7, 8, 31, 34] [0, 1, 2] (φ := True ∧ True) (by kernel_rfl) ⟨trivial, trivial⟩ (VI.fin rfl)⟩,
    ⟨_, _, _, rfl, rfl, rfl, VO.seg T_ok .dp 1 [1, 5, 7, 8, 35] [0, 1, 2] (φ := True ∧ True) (by kernel_rfl) ⟨trivial, trivial⟩ (VI.fin rfl)⟩,
    ⟨_, _, _, rfl, rfl, rfl, VO.seg T_ok .dp 1 [1, 5, 7, 8, 9, 34] [0, 1, 2, 3] (φ := True ∧ True) (by kernel_rfl) ⟨trivial, trivial⟩ (VI.fin rfl)⟩,
    ⟨_, _, _, rfl, rfl, rfl, VO.seg T_ok .dp 1 [1, 5, 7, 8, 9, 31, 32, 33] [0, 1, 2, 3] (φ := True ∧ True) (by kernel_rfl) ⟨trivial, trivial⟩ (VI.fin rfl)⟩,
    ⟨_, _, _, rfl, rfl, rfl, VO.seg T_ok .dp 1 [1, 5, 7, 8, 9, 34] [0, 1, 2, 3] (φ := (InR x108 a1.length) ∧ True) (by kernel_rfl) ⟨g143, trivial⟩ (VI.fin rfl)⟩,
    ⟨_, _, _, rfl, rfl, rfl, VO.seg T_ok .dp 1 [1, 5, 7, 8, 31, 35] [0, 1, 2] (φ := True ∧ True) (by kernel_rfl) ⟨trivial, trivial⟩ (VI.fin rfl)⟩,
    ⟨_, _, _, rfl, rfl, rfl, VO.seg T_ok .dp 1 [1, 5, 7, 8, 9, 31, 34] [0, 1, 2, 3] (φ := True ∧ True) (by kernel_rfl) ⟨trivial, trivial⟩ (VI.fin rfl)⟩,
    ⟨_, _, _, rfl, rfl, rfl, VO.seg T_ok .dp 1 [1, 5, 7, 8, 9, 31, 34] [0, 1, 2, 3] (φ := (InR x108 a1.length) ∧ True) (by kernel_rfl) ⟨g143, trivial⟩ (VI.fin rfl)⟩,
    ⟨_, _, _, rfl, rfl, rfl, VO.seg T_ok .dp 1 [1, 5, 7, 8, 31, 35] [0, 1, 2] (φ := True ∧ True) (by kernel_rfl) ⟨trivial, trivial⟩ (VI.fin rfl)⟩,
    ⟨_, _, _, rfl, rfl, rfl, VO.seg T_ok .dp 1 [1, 5, 7, 8, 9, 35] [0, 1, 2, 3] (φ := True ∧ True) (by kernel_rfl) ⟨trivial, trivial⟩ (VI.fin rfl)⟩,
    ⟨_, _, _, rfl, rfl, rfl, VO.seg T_ok .dp 1 [1, 5, 7, 8, 9, 31, 34] [0, 1, 2, 3] (φ := True ∧ True) (by kernel_rfl) ⟨trivial, trivial⟩ (VI.fin rfl)⟩,
    ⟨_, _, _, rfl, rfl, rfl, VO.seg T_ok .dp 1 [1, 5, 7, 8, 9, 35] [0, 1, 2, 3] (φ := True ∧ True) (by kernel_rfl) ⟨trivial, trivial⟩ (VI.fin rfl)⟩,
    ⟨_, _, _, rfl, rfl, rfl, by
      refine VO.call true [.t Y58, .t (.int .i64)] [] T_ok (d := some 36) (by kernel_rfl) (ok99 N _ _ hy144) rfl ?_
      exact VO.ghl [.ren [1, 5, 7, 8, 36] [0, 1, 2, 3, 4]] (VI.fin (by kernel_rfl))⟩,
    ⟨_, _, _, rfl, rfl, rfl, VO.seg T_ok .dp 1 [1, 5, 7, 8, 9, 31, 35] [0, 1, 2, 3] (φ := True ∧ True) (by kernel_rfl) ⟨trivial, trivial⟩ (VI.fin rfl)⟩,
    ⟨_, _, _, rfl, rfl, rfl, VO.seg T_ok .dp 1 [1, 5, 7, 8, 9, 31, 35] [0, 1, 2, 3] (φ := True ∧ True) (by kernel_rfl) ⟨trivial, trivial⟩ (VI.fin rfl)⟩,
    ⟨_, _, _, rfl, rfl, rfl, VO.seg T_ok .dp 1 [1, 5, 7, 8, 9, 31, 35] [0, 1, 2, 3] (φ := True ∧ True) (by kernel_rfl) ⟨trivial, trivial⟩ (VI.fin rfl)⟩,
    ⟨_, _, _, rfl, rfl, rfl, VO.seg T_ok .dp 1 [1, 5, 7, 8, 30] [0, 1, 2, 3, 4] (φ := True ∧ True) (by kernel_rfl) ⟨trivial, trivial⟩ (VI.fin rfl)⟩,
    ⟨_, _, _, rfl, rfl, rfl, VO.seg T_ok .dp 1 [1, 5, 7, 8, 9, 36] [0, 1, 2, 5, 3, 4] (φ := True ∧ True) (by kernel_rfl) ⟨trivial, trivial⟩ (VI.fin rfl)⟩,
    ⟨_, _, _, rfl, rfl, rfl, by
      refine VO.call true [.t Y58, .t (.int .i64)] [] T_ok (d := some 36) (by kernel_rfl) (ok99 N _ _ hy144) rfl ?_
      exact VO.ghl [.ren [1, 5, 7, 8, 9, 36] [0, 1, 2, 3, 4, 5]] (VI.fin (by kernel_rfl))⟩,
    ⟨_, _, _, rfl, rfl, rfl, VO.seg T_ok .dp 1 [1, 5, 7, 8, 30, 37] [0, 1, 2, 3, 4] (φ := True ∧ True) (by kernel_rfl) ⟨trivial, trivial⟩ (VI.fin rfl)⟩,
    ⟨_, _, _, rfl, rfl, rfl, VO.seg T_ok .dp 1 [1, 5, 7, 8, 30, 38] [0, 1, 2, 3, 4] (φ := True ∧ True) (by kernel_rfl) ⟨trivial, trivial⟩ (VI.fin rfl)⟩,
    ⟨_, _, _, rfl, rfl, rfl, VO.seg T_ok .dp 1 [1, 5, 7, 8, 30, 39] [0, 1, 2, 3, 4] (φ := True ∧ True) (by kernel_rfl) ⟨trivial, trivial⟩ (VI.fin rfl)⟩,
    ⟨_, _, _, rfl, rfl, rfl, VO.seg T_ok .dp 1 [1, 5, 7, 8, 9, 30] [0, 1, 2, 5, 3, 4] (φ := True ∧ True) (by kernel_rfl) ⟨trivial, trivial⟩ (VI.fin rfl)⟩,
    ⟨_, _, _, rfl, rfl, rfl, VO.seg T_ok .dp 1 [1, 5, 7, 8, 9, 30] [0, 1, 2, 3, 4, 5] (φ := True ∧ True) (by kernel_rfl) ⟨trivial, trivial⟩ (VI.fin rfl)⟩,
    ⟨_, _, _, rfl, rfl, rfl, VO.seg T_ok .dp 1 [1, 5, 7, 8, 30, 37, 38] [0, 1, 2, 3, 4] (φ := True ∧ True) (by kernel_rfl) ⟨trivial, trivial⟩ (VI.fin rfl)⟩,
    ⟨_, _, _, rfl, rfl, rfl, VO.seg T_ok .dp 1 [1, 5, 7, 8, 30, 37, 39] [0, 1, 2, 3, 4] (φ := True ∧ True) (by kernel_rfl) ⟨trivial, trivial⟩ (VI.fin rfl)⟩,
    ⟨_, _, _, rfl, rfl, rfl, VO.seg T_ok .dp 1 [1, 5, 7, 8, 9, 30, 37] [0, 1, 2, 5, 3, 4] (φ := True ∧ True) (by kernel_rfl) ⟨trivial, trivial⟩ (VI.fin rfl)⟩,
    ⟨_, _, _, rfl, rfl, rfl, VO.seg T_ok .dp 1 [1, 5, 7, 8, 30, 37, 38] [0, 1, 2, 3, 4] (φ := True ∧ True) (by kernel_rfl) ⟨trivial, trivial⟩ (VI.fin rfl)⟩,
    ⟨_, _, _, rfl, rfl, rfl, VO.seg T_ok .dp 1 [1, 5, 7, 8, 30, 38, 39] [0, 1, 2, 3, 4] (φ := True ∧ True) (by kernel_rfl) ⟨trivial, trivial⟩ (VI.fin rfl)⟩,
    ⟨_, _, _, rfl, rfl, rfl, VO.seg T_ok .dp 1 [1, 5, 7, 8, 9, 30, 38] [0, 1, 2, 5, 3, 4] (φ := True ∧ True) (by kernel_rfl) ⟨trivial, trivial⟩ (VI.fin rfl)⟩,
    ⟨_, _, _, rfl, rfl, rfl, VO.seg T_ok .dp 1 [1, 5, 7, 8, 30, 37, 39] [0, 1, 2, 3, 4] (φ := True ∧ True) (by kernel_rfl) ⟨trivial, trivial⟩ (VI.fin rfl)⟩,
    ⟨_, _, _, rfl, rfl, rfl, VO.seg T_ok .dp 1 [1, 5, 7, 8, 30, 38, 39] [0, 1, 2, 3, 4] (φ := True ∧ True) (by kernel_rfl) ⟨trivial, trivial⟩ (VI.fin rfl)⟩,
    ⟨_, _, _, rfl, rfl, rfl, VO.seg T_ok .dp 1 [1, 5, 7, 8, 9, 30, 39] [0, 1, 2, 5, 3, 4] (φ := True ∧ True) (by kernel_rfl) ⟨trivial, trivial⟩ (VI.fin rfl)⟩,
    ⟨_, _, _, rfl, rfl, rfl, VO.seg T_ok .dp 1 [1, 5, 7, 8, 9, 30, 37] [0, 1, 2, 3, 4, 5] (φ := True ∧ True) (by kernel_rfl) ⟨trivial, trivial⟩ (VI.fin rfl)⟩,
    ⟨_, _, _, rfl, rfl, rfl, VO.seg T_ok .dp 1 [1, 5, 7, 8, 9, 30, 38] [0, 1, 2, 3, 4, 5] (φ := True ∧ True) (by kernel_rfl) ⟨trivial, trivial⟩ (VI.fin rfl)⟩,
    ⟨_, _, _, rfl, rfl, rfl, VO.seg T_ok .dp 1 [1, 5, 7, 8, 9, 30, 39] [0, 1, 2, 3, 4, 5] (φ := True ∧ True) (by kernel_rfl) ⟨trivial, trivial⟩ (VI.fin rfl)⟩,
    ⟨_, _, _, rfl, rfl, rfl, VO.seg T_ok .dp 1 [1, 5, 7, 8, 37, 38, 39] [0, 1, 2, 3, 4] (φ := True ∧ True) (by kernel_rfl) ⟨trivial, trivial⟩ (VI.fin rfl)⟩,
    ⟨_, _, _, rfl, rfl, rfl, VO.seg T_ok .dp 1 [1, 5, 7, 8, 9, 30, 37, 38] [0, 1, 2, 5, 3, 4] (φ := True ∧ True) (by kernel_rfl) ⟨trivial, trivial⟩ (VI.fin rfl)⟩,
    ⟨_, _, _, rfl, rfl, rfl, VO.seg T_ok .dp 1 [1, 5, 7, 8, 37, 38, 39] [0, 1, 2, 3, 4] (φ := True ∧ True) (by kernel_rfl) ⟨trivial, trivial⟩ (VI.fin rfl)⟩,
    ⟨_, _, _, rfl, rfl, rfl, VO.seg T_ok .dp 1 [1, 5, 7, 8, 9, 30, 37, 39] [0, 1, 2, 5, 3, 4] (φ := True ∧ True) (by kernel_rfl) ⟨trivial, trivial⟩ (VI.fin rfl)⟩,
    ⟨_, _, _, rfl, rfl, rfl, VO.seg T_ok .dp 1 [1, 5, 7, 8, 9, 30, 37, 38] [0, 1, 2, 3, 4, 5] (φ := True ∧ True) (by kernel_rfl) ⟨trivial, trivial⟩ (VI.fin rfl)⟩,
    ⟨_, _, _, rfl, rfl, rfl, VO.seg T_ok .dp 1 [1, 5, 7, 8, 9, 30, 37, 39] [0, 1, 2, 3, 4, 5] (φ := True ∧ True) (by kernel_rfl) ⟨trivial, trivial⟩ (VI.fin rfl)⟩,
    ⟨_, _, _, rfl, rfl, rfl, VO.seg T_ok .dp 1 [1, 5, 7, 8, 9, 30] [0, 1, 2, 3, 4, 5] (φ := True ∧ True) (by kernel_rfl) ⟨trivial, trivial⟩ (VI.fin rfl)⟩,
    ⟨_, _, _, rfl, rfl, rfl, VO.seg T_ok .dp 1 [1, 5, 7, 8, 37, 38, 39] [0, 1, 2, 3, 4] (φ := True ∧ True) (by kernel_rfl) ⟨trivial, trivial⟩ (VI.fin rfl)⟩,
    ⟨_, _, _, rfl, rfl, rfl, VO.seg T_ok .dp 1 [1, 5, 7, 8, 9, 30, 38, 39] [0, 1, 2, 5, 3, 4] (φ := True ∧ True) (by kernel_rfl) ⟨trivial, trivial⟩ (VI.fin rfl)⟩,
    ⟨_, _, _, rfl, rfl, rfl, VO.seg T_ok .dp 1 [1, 5, 7, 8, 9, 30, 37, 38] [0, 1, 2, 3, 4, 5] (φ := True ∧ True) (by kernel_rfl) ⟨trivial, trivial⟩ (VI.fin rfl)⟩,
    ⟨_, _, _, rfl, rfl, rfl, VO.seg T_ok .dp 1 [1, 5, 7, 8, 9, 30, 38, 39] [0, 1, 2, 3, 4, 5] (φ := True ∧ True) (by kernel_rfl) ⟨trivial, trivial⟩ (VI.fin rfl)⟩,
    ⟨_, _, _, rfl, rfl, rfl, VO.seg T_ok .dp 1 [1, 5, 7, 8, 9, 30, 37, 39] [0, 1, 2, 3, 4, 5] (φ := True ∧ True) (by kernel_rfl) ⟨trivial, trivial⟩ (VI.fin rfl)⟩,
    ⟨_, _, _, rfl, rfl, rfl, VO.seg T_ok .dp 1 [1, 5, 7, 8, 9, 30, 38, 39] [0, 1, 2, 3, 4, 5] (φ := True ∧ True) (by kernel_rfl) ⟨trivial, trivial⟩ (VI.fin rfl)⟩,
    ⟨_, _, _, rfl, rfl, rfl, VO.seg T_ok .dp 1 [1, 5, 7, 8, 9, 37, 38, 39] [0, 1, 2, 5, 3, 4] (φ := True ∧ True) (by kernel_rfl) ⟨trivial, trivial⟩ (VI.fin rfl)⟩,
    ⟨_, _, _, rfl, rfl, rfl, VO.seg T_ok .dp 1 [1, 5, 7, 8, 9, 37, 38, 39] [0, 1, 2, 3, 4, 5] (φ := True ∧ True) (by kernel_rfl) ⟨trivial, trivial⟩ (VI.fin rfl)⟩,
    ⟨_, _, _, rfl, rfl, rfl, VO.seg T_ok .dp 1 [1, 5, 7, 8, 9, 30, 38] [0, 1, 2, 3, 4, 5] (φ := True ∧ True) (by kernel_rfl) ⟨trivial, trivial⟩ (VI.fin rfl)⟩,
    ⟨_, _, _, rfl, rfl, rfl, VO.seg T_ok .dp 1 [1, 5, 7, 8, 9, 37, 38, 39] [0, 1, 2, 3, 4, 5] (φ := True ∧ True) (by kernel_rfl) ⟨trivial, trivial⟩ (VI.fin rfl)⟩,
    ⟨_, _, _, rfl, rfl, rfl, VO.seg T_ok .dp 1 [1, 5, 7, 8, 9, 30, 39] [0, 1, 2, 3, 4, 5] (φ := True ∧ True) (by kernel_rfl) ⟨trivial, trivial⟩ (VI.fin rfl)⟩,
    ⟨_, _, _, rfl, rfl, rfl, VO.seg T_ok .dp 1 [1, 5, 7, 8, 9, 30, 38] [0, 1, 2, 3, 4, 5] (φ := True ∧ True) (by kernel_rfl) ⟨trivial, trivial⟩ (VI.fin rfl)⟩,
    ⟨_, _, _, rfl, rfl, rfl, VO.seg T_ok .dp 1 [1, 5, 7, 8, 9, 30, 39] [0, 1, 2, 3, 4, 5] (φ := True ∧ True) (by kernel_rfl) ⟨trivial, trivial⟩ (VI.fin rfl)⟩,
    ⟨_, _, _, rfl, rfl, rfl, VO.seg T_ok .dp 1 [1, 5, 7, 8, 9, 37, 38, 39] [0, 1, 2, 3, 4, 5] (φ := True ∧ True) (by kernel_rfl) ⟨trivial, trivial⟩ (VI.fin rfl)⟩,
    ⟨_, _, _, rfl, rfl, rfl, VO.seg T_ok .dp 1 [1, 5, 7, 8, 9, 38, 39] [0, 1, 2, 3, 4, 5] (φ := True ∧ True) (by kernel_rfl) ⟨trivial, trivial⟩ (VI.fin rfl)⟩,
    ⟨_, _, _, rfl, rfl, rfl, VO.seg T_ok .dp 1 [1, 5, 7, 8, 9, 38, 39] [0, 1, 2, 3, 4, 5] (φ := True ∧ True) (by kernel_rfl) ⟨trivial, trivial⟩ (VI.fin rfl)⟩,
    ⟨_, _, _, rfl, rfl, rfl, VO.seg T_ok .dp 1 [1, 5, 7, 8, 9, 30] [0, 1, 2, 3, 4, 5] (φ := True ∧ True) (by kernel_rfl) ⟨trivial, trivial⟩ (VI.fin rfl)⟩,
    ⟨_, _, _, rfl, rfl, rfl, VO.seg T_ok .dp 1 [1, 5, 7, 8, 9, 38, 39] [0, 1, 2, 3, 4, 5] (φ := True ∧ True) (by kernel_rfl) ⟨trivial, trivial⟩ (VI.fin rfl)⟩,
    ⟨_, _, _, rfl, rfl, rfl, VO.seg T_ok .dp 1 [1, 5, 7, 8, 9, 39] [0, 1, 2, 3, 4, 5] (φ := True ∧ True) (by kernel_rfl) ⟨trivial, trivial⟩ (VI.fin rfl)⟩,
    ⟨_, _, _, rfl, rfl, rfl, VO.seg T_ok .dp 1 [1, 5, 7, 8, 9, 39] [0, 1, 2, 3, 4, 5] (φ := True ∧ True) (by kernel_rfl) ⟨trivial, trivial⟩ (VI.fin rfl)⟩,
    ⟨_, _, _, rfl, rfl, rfl, VO.seg T_ok .dp 1 [1, 5, 7, 8, 9, 11] [0, 1, 2, 3, 4, 5] (φ := True ∧ True) (by kernel_rfl) ⟨trivial, trivial⟩ (VI.fin rfl)⟩, trivial⟩ ?_
        refine VW.join (fun s => ∃ (x147 : Int) (x148 : Int) (x149 : (List Int)) (x150 : (List Int)), s = ⟨[(1, .lf (.v (.sl (.int .i64)) a1)), (5, .lf (.ptr 0 0 0 0)), (7, I x147), (8, I x108), (9, .lf (.ptr 3 0 0 0))], [bx [.v (.int .i64) x104, .hd 1 0 none, .hd 2 0 none] 59, ar 0 (.int .i64) x105 .dp, ar 0 (.int .i64) x106 .dp, bx [.v (.int .i64) x148, .hd 4 0 none, .hd 5 0 none] 59, ar 0 (.int .i64) x149 .dp, ar 0 (.int .i64) x150 .dp]⟩ ∧ F39_j1 N (F39_l0 N a1 k131) x108 x147 x148 x149 x150 = some r) ?_ ?_
        · refine sR T_ok [1, 5, 7, 8, 9, 40] [0, 1, 2, 3, 4, 5] ⟨[(1, .lf (.v (.sl (.int .i64)) a1)), (5, .lf (.ptr 0 0 0 0)), (7, I x107), (8, I x108), (9, .lf (.ptr 3 0 0 0)), (40, B y144.2.2)], [bx [.v (.int .i64) x104, .hd 1 0 none, .hd 2 0 none] 59, ar 0 (.int .i64) x105 .dp, ar 0 (.int .i64) x106 .dp, bx [.v (.int .i64) y144.1.1, .hd 4 0 none, .hd 5 0 none] 59, ar 0 (.int .i64) y144.1.2.1 .dp, ar 0 (.int .i64) y144.1.2.2 .dp]⟩ (tn 1) ?_
          refine cnd h (fun h => ?_) (fun h => ?_)
          · refine rR T_ok [1, 5, 7, 8, 9] [0, 1, 2, 3, 4, 5] ⟨[(1, .lf (.v (.sl (.int .i64)) a1)), (5, .lf (.ptr 0 0 0 0)), (7, I (IntKind.i64.wrap (x107 + (1 : Int)))), (8, I x108), (9, .lf (.ptr 3 0 0 0))], [bx [.v (.int .i64) x104, .hd 1 0 none, .hd 2 0 none] 59, ar 0 (.int .i64) x105 .dp, ar 0 (.int .i64) x106 .dp, bx [.v (.int .i64) y144.1.1, .hd 4 0 none, .hd 5 0 none] 59, ar 0 (.int .i64) y144.1.2.1 .dp, ar 0 (.int .i64) y144.1.2.2 .dp]⟩ (tn 3) ?_
            exact arv [.ren [1, 5, 7, 8, 9] [0, 1, 2, 3, 4, 5]] ⟨(IntKind.i64.wrap (x107 + (1 : Int))), y144.1.1, y144.1.2.1, y144.1.2.2, rfl, h⟩
          obtain ⟨g152, h⟩ := gd_some h
          obtain ⟨y153, hy153, h⟩ := andO_some h
          refine VW.drawn (by kernel_rfl) [some (44, .agg [.v (.int .i64) x104, .hd 1 0 none, .hd 2 0 none]), some (45, .lf (.v (.sl (.int .i64)) a1)), some (46, I x108), some (47, .lf (.fp (.int .i64) (a1.getD x108.toNat (Ty.dflt (.int .i64))) 0)), some (48, I (a1.getD x108.toNat (Ty.dflt (.int .i64)))), some (49, .tup [.agg [.v (.int .i64) y153.1.1, .hd 6 0 none, .hd 7 0 none], .lf (.v (.int .i64) y153.2.1), .lf (.v .bool y153.2.2)]), some (43, .tup [.agg [.v (.int .i64) y153.1.1, .hd 6 0 none, .hd 7 0 none], .lf (.v (.int .i64) y153.2.1), .lf (.v .bool y153.2.2)]), some (50, .agg [.v (.int .i64) y153.1.1, .hd 6 0 none, .hd 7 0 none]), some (51, I y153.2.1), some (52, B y153.2.2), none] [5, 10] [[bx [.v (.int .i64) x104, .hd 1 0 none, .hd 2 0 none] 59, ar 0 (.int .i64) x105 .dp, ar 0 (.int .i64) x106 .dp, bx [.v (.int .i64) y144.1.1, .hd 4 0 none, .hd 5 0 none] 59, ar 0 (.int .i64) y144.1.2.1 .dp, ar 0 (.int .i64) y144.1.2.2 .dp], [bx [.v (.int .i64) x104, .hd 1 0 none, .hd 2 0 none] 59, ar 0 (.int .i64) x105 .dp, ar 0 (.int .i64) x106 .dp, bx [.v (.int .i64) y144.1.1, .hd 4 0 none, .hd 5 0 none] 59, ar 0 (.int .i64) y144.1.2.1 .dp, ar 0 (.int .i64) y144.1.2.2 .dp, ar 0 (.int .i64) y153.1.2.1 .dp, ar 0 (.int .i64) y153.1.2.2 .dp], [bx [.v (.int .i64) x104, .hd 1 0 none, .hd 2 0 none] 59, ar 0 (.int .i64) x105 .dp, ar 0 (.int .i64) x106 .dp, bx [.v (.int .i64) y153.1.1, .hd 6 0 none, .hd 7 0 none] 59, ar 0 (.int .i64) y144.1.2.1 .dp, ar 0 (.int .i64) y144.1.2.2 .dp, ar 0 (.int .i64) y153.1.2.1 .dp, ar 0 (.int .i64) y153.1.2.2 .dp]] [(0, 0), (1, 0), (1, 1), (2, 0), (2, 1), (3, 0), (3, 1), (4, 0), (5, 0), (6, 1), (7, 0), (7, 1), (8, 0), (8, 1), (8, 2), (9, 0), (9, 1), (9, 2), (10, 1)] [1, 5, 7, 8, 9] [0, 1, 2, 3, 6, 7] (s' := ⟨[(1, .lf (.v (.sl (.int .i64)) a1)), (5, .lf (.ptr 0 0 0 0)), (7, I x107), (8, I x108), (9, .lf (.ptr 3 0 0 0))], [bx [.v (.int .i64) x104, .hd 1 0 none, .hd 2 0 none] 59, ar 0 (.int .i64) x105 .dp, ar 0 (.int .i64) x106 .dp, bx [.v (.int .i64) y153.1.1, .hd 4 0 none, .hd 5 0 none] 59, ar 0 (.int .i64) y153.1.2.1 .dp, ar 0 (.int .i64) y153.1.2.2 .dp]⟩) (by kernel_rfl) (by kernel_rfl) ⟨⟨_, rfl, Stp.ev T_ok (m := .dp) (φ := True) (by kernel_rfl) trivial⟩,
    ⟨_, rfl, Stp.ev T_ok (m := .dp) (φ := True) (by kernel_rfl) trivial⟩,
    ⟨_, rfl, Stp.ev T_ok (m := .dp) (φ := True) (by kernel_rfl) trivial⟩,
    ⟨_, rfl, Stp.ev T_ok (m := .dp) (φ := True) (by kernel_rfl) trivial⟩,
    ⟨_, rfl, Stp.ev T_ok (m := .dp) (φ := True) (by kernel_rfl) trivial⟩,
    ⟨_, rfl, Stp.ev T_ok (m := .dp) (φ := InR x108 a1.length) (by kernel_rfl) g152⟩,
    ⟨_, rfl, Stp.ev T_ok (m := .dp) (φ := InR x108 a1.length) (by kernel_rfl) g152⟩,
    ⟨_, rfl, Stp.ev T_ok (m := .dp) (φ := True) (by kernel_rfl) trivial⟩,
    ⟨_, rfl, Stp.eq (Stp.call true [.t Y58, .t (.int .i64), .t (.int .i64)] [] T_ok (d := some 49) (by kernel_rfl) (ok100 N _ _ _ hy153) rfl) (by kernel_rfl) (by kernel_rfl)⟩,
    ⟨_, rfl, Stp.ev T_ok (m := .dp) (φ := True) (by kernel_rfl) trivial⟩,
    ⟨_, rfl, Stp.ev T_ok (m := .dp) (φ := True) (by kernel_rfl) trivial⟩,
    ⟨_, rfl, Stp.ev T_ok (m := .dp) (φ := True) (by kernel_rfl) trivial⟩,
    ⟨_, rfl, Stp.ev T_ok (m := .dp) (φ := True) (by kernel_rfl) trivial⟩,
    ⟨_, rfl, Stp.ev T_ok (m := .dp) (φ := True) (by kernel_rfl) trivial⟩,
    ⟨_, rfl, Stp.ev T_ok (m := .dp) (φ := True) (by kernel_rfl) trivial⟩,
    ⟨_, rfl, Stp.ev T_ok (m := .dp) (φ := True) (by kernel_rfl) trivial⟩,
    ⟨_, rfl, Stp.ev T_ok (m := .dp) (φ := True) (by kernel_rfl) trivial⟩,
    ⟨_, rfl, Stp.ev T_ok (m := .dp) (φ := True) (by kernel_rfl) trivial⟩,
    ⟨_, rfl, Stp.ev T_ok (m := .dp) (φ := True) (by kernel_rfl) trivial⟩, trivial⟩ (by kernel_rfl) ?_
          exact arv [.ren [1, 5, 7, 8, 9] [0, 1, 2, 3, 4, 5]] ⟨x107, y153.1.1, y153.1.2.1, y153.1.2.2, rfl, h⟩
        rintro s ⟨x147, x148, x149, x150, rfl, h⟩
        unfold F39_j1 at h
        refine rR T_ok [1, 5, 7, 8] [0, 4, 5] ⟨[(1, .lf (.v (.sl (.int .i64)) a1)), (5, .lf (.ptr 0 0 0 0)), (7, I x147), (8, I x108)], [bx [.v (.int .i64) x148, .hd 1 0 none, .hd 2 0 none] 59, ar 0 (.int .i64) x149 .dp, ar 0 (.int .i64) x150 .dp]⟩ (tn 2) ?_
        refine rR T_ok [1, 5, 7, 8] [0, 1, 2] ⟨[(1, .lf (.v (.sl (.int .i64)) a1)), (5, .lf (.ptr 0 0 0 0)), (7, I x147), (8, I (IntKind.i64.wrap (x108 + (1 : Int))))], [bx [.v (.int .i64) x148, .hd 1 0 none, .hd 2 0 none] 59, ar 0 (.int .i64) x149 .dp, ar 0 (.int .i64) x150 .dp]⟩ (tn 3) ?_
        exact aro [.ren [1, 5, 7, 8] [0, 1, 2]] ⟨x148, x149, x150, x147, (IntKind.i64.wrap (x108 + (1 : Int))), rfl, h⟩
      refine VW.exit ?_
      exact arv [.ren [7] []] ⟨x107, rfl, h⟩
  rintro s ⟨x77, rfl, h⟩
  unfold F39_j0 at h
  refine sR T_ok [4] [] ⟨[(4, I x77)], []⟩ (tn 2) ?_
  refine VW.ret ?_
  replace h := Option.some.inj h
  subst h
  exact rt []

/- loop.example/g00844/spec.DropKey -/
def F158 (N : Nat) (a0 : (Int × ((List Int) × (List Int)))) (a1 : Int) : Option ((Int × ((List Int) × (List Int))) × Bool) :=
  andO (F154 N a0 a1) fun y1 => andO (F105 N a0) fun y5 => cond (!y5) (andO (F104 N a0) fun y6 => some (y6, false)) (cond (decide (y1 < (0 : Int))) (andO (F104 N a0) fun y7 => some (y7, false)) (andO (F157 N a0 y1) fun y8 => some (y8, true)))
theorem ok158 (N : Nat) (a0 : (Int × ((List Int) × (List Int)))) (a1 : Int) {r : (Int × ((List Int) × (List Int))) × Bool} (h : F158 N a0 a1 = some r) : Con Go.Proofs.Try.prog 158 [.agg [.v (.int .i64) a0.1, .v (.sl (.int .i64)) a0.2.1, .v (.sl (.int .i64)) a0.2.2], I a1] [.agg [.v (.int .i64) r.1.1, .own (.int .i64) r.1.2.1 .dp, .own (.int .i64) r.1.2.2 .dp], .lf (.v .bool r.2)] := by
  refine ctr [.agg [.v (.int .i64), .own (.int .i64) .dp, .own (.int .i64) .dp], .lf (.v .bool)] T_ok Go.Proofs.Try.func158 rfl fun w0 E0 ht => ?_
  unfold F158 at h
  show VW _ _ _ _ _ (retQ _ _ _ _) _
  refine sR T_ok [1, 2, 4] [0, 1] ⟨[(1, I a1), (2, .lf (.ptr 0 0 0 0)), (4, .lf (.ptr 1 0 0 0))], [bx [.v (.int .i64) a0.1, .v (.sl (.int .i64)) a0.2.1, .v (.sl (.int .i64)) a0.2.2] 59, bx [.v (.int .i64) (0 : Int), .nil, .nil] 59]⟩ (tn 3) ?_
  refine VW.seq ?_
  refine VW.region ?_
  refine sG T_ok 2 [2, 4, 7, 8] [0, 1] ⟨[(2, .lf (.ptr 0 0 0 0)), (4, .lf (.ptr 1 0 0 0)), (7, .agg [.v (.int .i64) a0.1, .v (.sl (.int .i64)) a0.2.1, .v (.sl (.int .i64)) a0.2.2]), (8, I a1)], [bx [.v (.int .i64) a0.1, .v (.sl (.int .i64)) a0.2.1, .v (.sl (.int .i64)) a0.2.2] 59, bx [.v (.int .i64) (0 : Int), .nil, .nil] 59]⟩ (tn 2) ?_
  obtain ⟨y1, hy, h⟩ := andO_some h
  refine cal false [.t Y58, .t (.int .i64)] [] (some 9) T_ok (ok154 N _ _ hy) ?_
  refine sN T_ok [2, 4, 6] [0, 1] ⟨[(2, .lf (.ptr 0 0 0 0)), (4, .lf (.ptr 1 0 0 0)), (6, I y1)], [bx [.v (.int .i64) a0.1, .v (.sl (.int .i64)) a0.2.1, .v (.sl (.int .i64)) a0.2.2] 59, bx [.v (.int .i64) (0 : Int), .nil, .nil] 59]⟩ (tn 1) ?_
  refine VW.seq ?_
  refine VW.seq ?_
  refine VW.region ?_
  refine sG T_ok 1 [2, 4, 6, 10] [0, 1] ⟨[(2, .lf (.ptr 0 0 0 0)), (4, .lf (.ptr 1 0 0 0)), (6, I y1), (10, .agg [.v (.int .i64) a0.1, .v (.sl (.int .i64)) a0.2.1, .v (.sl (.int .i64)) a0.2.2])], [bx [.v (.int .i64) a0.1, .v (.sl (.int .i64)) a0.2.1, .v (.sl (.int .i64)) a0.2.2] 59, bx [.v (.int .i64) (0 : Int), .nil, .nil] 59]⟩ (tn 1) ?_
  obtain ⟨y5, hy, h⟩ := andO_some h
  refine cal false [.t Y58] [] (some 11) T_ok (ok105 N _ hy) ?_
  refine sG T_ok 2 [2, 4, 6, 13] [0, 1] ⟨[(2, .lf (.ptr 0 0 0 0)), (4, .lf (.ptr 1 0 0 0)), (6, I y1), (13, B (!y5))], [bx [.v (.int .i64) a0.1, .v (.sl (.int .i64)) a0.2.1, .v (.sl (.int .i64)) a0.2.2] 59, bx [.v (.int .i64) (0 : Int), .nil, .nil] 59]⟩ (tn 2) ?_
  refine spB 13 h (fun h => ?_) (fun h => ?_)
  · refine sN T_ok [2, 4, 6, 16] [0, 1] ⟨[(2, .lf (.ptr 0 0 0 0)), (4, .lf (.ptr 1 0 0 0)), (6, I y1), (16, B true)], [bx [.v (.int .i64) a0.1, .v (.sl (.int .i64)) a0.2.1, .v (.sl (.int .i64)) a0.2.2] 59, bx [.v (.int .i64) (0 : Int), .nil, .nil] 59]⟩ (tn 3) ?_
    refine VW.cond (b := true) (by kernel_rfl) (fun _ => ?_) (fun h' => nomatch h')
    refine VW.seq ?_
    refine VW.region ?_
    refine sG T_ok 1 [4, 17] [1] ⟨[(4, .lf (.ptr 0 0 0 0)), (17, .agg [.v (.int .i64) a0.1, .v (.sl (.int .i64)) a0.2.1, .v (.sl (.int .i64)) a0.2.2])], [bx [.v (.int .i64) (0 : Int), .nil, .nil] 59]⟩ (tn 1) ?_
    obtain ⟨y6, hy, h⟩ := andO_some h
    refine cal false [.t Y58] [] (some 18) T_ok (ok104 N _ hy) ?_
    refine sN T_ok [4, 5] [0, 1, 2] ⟨[(4, .lf (.ptr 0 0 0 0)), (5, B false)], [bx [.v (.int .i64) y6.1, .hd 1 0 none, .hd 2 0 none] 59, ar 0 (.int .i64) y6.2.1 .dp, ar 0 (.int .i64) y6.2.2 .dp]⟩ (tn 2) ?_
    refine VW.ret ?_
    replace h := Option.some.inj h
    subst h
    exact rt [some 1, some 2]
  refine sN T_ok [2, 4, 6, 16] [0, 1] ⟨[(2, .lf (.ptr 0 0 0 0)), (4, .lf (.ptr 1 0 0 0)), (6, I y1), (16, B (decide (y1 < (0 : Int))))], [bx [.v (.int .i64) a0.1, .v (.sl (.int .i64)) a0.2.1, .v (.sl (.int .i64)) a0.2.2] 59, bx [.v (.int .i64) (0 : Int), .nil, .nil] 59]⟩ (tn 3) ?_
  refine cnd h (fun h => ?_) (fun h => ?_)
  · refine VW.seq ?_
    refine VW.region ?_
    refine sG T_ok 1 [4, 17] [1] ⟨[(4, .lf (.ptr 0 0 0 0)), (17, .agg [.v (.int .i64) a0.1, .v (.sl (.int .i64)) a0.2.1, .v (.sl (.int .i64)) a0.2.2])], [bx [.v (.int .i64) (0 : Int), .nil, .nil] 59]⟩ (tn 1) ?_
    obtain ⟨y7, hy, h⟩ := andO_some h
    refine cal false [.t Y58] [] (some 18) T_ok (ok104 N _ hy) ?_
    refine sN T_ok [4, 5] [0, 1, 2] ⟨[(4, .lf (.ptr 0 0 0 0)), (5, B false)], [bx [.v (.int .i64) y7.1, .hd 1 0 none, .hd 2 0 none] 59, ar 0 (.int .i64) y7.2.1 .dp, ar 0 (.int .i64) y7.2.2 .dp]⟩ (tn 2) ?_
    refine VW.ret ?_
    replace h := Option.some.inj h
    subst h
    exact rt [some 1, some 2]
  refine VW.skip ?_
  refine VW.seq ?_
  refine VW.region ?_
  refine sG T_ok 2 [4, 19, 20] [1] ⟨[(4, .lf (.ptr 0 0 0 0)), (19, .agg [.v (.int .i64) a0.1, .v (.sl (.int .i64)) a0.2.1, .v (.sl (.int .i64)) a0.2.2]), (20, I y1)], [bx [.v (.int .i64) (0 : Int), .nil, .nil] 59]⟩ (tn 2) ?_
  obtain ⟨y8, hy, h⟩ := andO_some h
  refine cal false [.t Y58, .t (.int .i64)] [] (some 21) T_ok (ok157 N _ _ hy) ?_
  refine sN T_ok [4, 5] [0, 1, 2] ⟨[(4, .lf (.ptr 0 0 0 0)), (5, B true)], [bx [.v (.int .i64) y8.1, .hd 1 0 none, .hd 2 0 none] 59, ar 0 (.int .i64) y8.2.1 .dp, ar 0 (.int .i64) y8.2.2 .dp]⟩ (tn 2) ?_
  refine VW.ret ?_
  replace h := Option.some.inj h
  subst h
  exact rt [some 1, some 2]

/- loop.example/g00844/spec.l09DrawCache -/
def F101_j0 (N : Nat) (x70 : Int) (x71 : (List Int)) (x72 : (List Int)) (x73 : (List Int)) (x74 : Int) (x75 : Int) : Option (((List Int) × (Int × Int)) × (Int × ((List Int) × (List Int)))) :=
  some ((x73, (x74, x75)), (x70, (x71, x72)))
def F101_j1 (N : Nat) (x58 : (List Int)) (x59 : Int) (x60 : Int) (x61 : Int) (x62 : (List Int)) (x63 : (List Int)) : Option (((List Int) × (Int × Int)) × (Int × ((List Int) × (List Int)))) :=
  andO (F94 N (x58, (x59, x60)) (10 : Int)) fun y77 => cond y77.2 (andO (F92 N y77.1 (4 : Int)) fun y78 => cond (y78.2 == (0 : Int)) (andO (F95 N y78.1 ([(0 : Int), (16 : Int), (17 : Int), (1 : Int)])) fun y79 => F101_j0 N y79.2 x62 x63 y79.1.1 y79.1.2.1 y79.1.2.2) (cond (y78.2 == (1 : Int)) (gd (x62.length + ([(3 : Int)]).length ≤ lim (.int .i64)) (F101_j0 N x61 (x62 ++ ([(3 : Int)])) x63 y78.1.1 y78.1.2.1 y78.1.2.2)) (cond (y78.2 == (2 : Int)) (gd (x63.length + ([(1000001 : Int)]).length ≤ lim (.int .i64)) (gd (x62.length + ([(77 : Int)]).length ≤ lim (.int .i64)) (F101_j0 N x61 (x62 ++ ([(77 : Int)])) (x63 ++ ([(1000001 : Int)])) y78.1.1 y78.1.2.1 y78.1.2.2))) (cond (y78.2 == (3 : Int)) (F101_j0 N x61 ([]) x63 y78.1.1 y78.1.2.1 y78.1.2.2) (F101_j0 N x61 x62 x63 y78.1.1 y78.1.2.1 y78.1.2.2))))) (F101_j0 N x61 x62 x63 y77.1.1 y77.1.2.1 y77.1.2.2)
def F101_j2 (N : Nat) (nx115 : (List Int) → Int → Int → Int → (List Int) → (List Int) → Int → Option (((List Int) × (Int × Int)) × (Int × ((List Int) × (List Int))))) (x91 : Int) (x124 : (List Int)) (x125 : Int) (x126 : Int) (x127 : Int) (x128 : (List Int)) (x129 : (List Int)) : Option (((List Int) × (Int × Int)) × (Int × ((List Int) × (List Int)))) :=
  nx115 x124 x125 x126 x127 x128 x129 (IntKind.i64.wrap (x91 - (1 : Int)))
def F101_l0_b (N : Nat) (nx115 : (List Int) → Int → Int → Int → (List Int) → (List Int) → Int → Option (((List Int) × (Int × Int)) × (Int × ((List Int) × (List Int))))) (x85 : (List Int)) (x86 : Int) (x87 : Int) (x88 : Int) (x89 : (List Int)) (x90 : (List Int)) (x91 : Int) : Option (((List Int) × (Int × Int)) × (Int × ((List Int) × (List Int)))) :=
  cond (decide (x91 > (0 : Int))) (andO (F92 N (x85, (x86, x87)) (4 : Int)) fun y131 => cond (y131.2 == (0 : Int)) (andO (F92 N y131.1 (8 : Int)) fun y132 => andO (F99 N (x88, (x89, x90)) y132.2) fun y133 => F101_j2 N nx115 x91 y132.1.1 y132.1.2.1 y132.1.2.2 y133.1.1 y133.1.2.1 y133.1.2.2) (cond (y131.2 == (1 : Int)) (andO (F92 N y131.1 (8 : Int)) fun y134 => andO (F158 N (x88, (x89, x90)) y134.2) fun y135 => F101_j2 N nx115 x91 y134.1.1 y134.1.2.1 y134.1.2.2 y135.1.1 y135.1.2.1 y135.1.2.2) (andO (F92 N y131.1 (8 : Int)) fun y136 => andO (F92 N y136.1 (50 : Int)) fun y137 => andO (F100 N (x88, (x89, x90)) y136.2 y137.2) fun y138 => F101_j2 N nx115 x91 y137.1.1 y137.1.2.1 y137.1.2.2 y138.1.1 y138.1.2.1 y138.1.2.2))) (F101_j1 N x85 x86 x87 x88 x89 x90)
def F101_l0 (N : Nat) : Nat → (List Int) → Int → Int → Int → (List Int) → (List Int) → Int → Option (((List Int) × (Int × Int)) × (Int × ((List Int) × (List Int)))) := loopF (F101_l0_b N) (fun _ _ _ _ _ _ _ => none)
theorem F101_l0_s (N : Nat) {k : Nat} (hk : 0 < k) (x85 : (List Int)) (x86 : Int) (x87 : Int) (x88 : Int) (x89 : (List Int)) (x90 : (List Int)) (x91 : Int) : F101_l0 N k x85 x86 x87 x88 x89 x90 x91 = F101_l0_b N (F101_l0 N (k - 1)) x85 x86 x87 x88 x89 x90 x91 := by
  cases k with
  | zero => exact absurd hk (Nat.lt_irrefl 0)
  | succ m => rfl
def F101 (N : Nat) (a0 : ((List Int) × (Int × Int))) : Option (((List Int) × (Int × Int)) × (Int × ((List Int) × (List Int)))) :=
  andO (F92 N a0 (5 : Int)) fun y1 => andO (F98 N (IntKind.i64.wrap ((1 : Int) + y1.2))) fun y2 => andO (F92 N y1.1 (12 : Int)) fun y84 => F101_l0 N N y84.1.1 y84.1.2.1 y84.1.2.2 y2.1.1 y2.1.2.1 y2.1.2.2 y84.2
theorem ok101 (N : Nat) (a0 : ((List Int) × (Int × Int))) {r : ((List Int) × (Int × Int)) × (Int × ((List Int) × (List Int)))} (h : F101 N a0 = some r) : ConM Go.Proofs.Try.prog 101 [bx [.v (.sl (.int .u8)) a0.1, .v (.int .i64) a0.2.1, .v (.int .i64) a0.2.2] 160] [.lf (.ptr 0 0 0 0)] [.agg [.v (.int .i64) r.2.1, .own (.int .i64) r.2.2.1 .dp, .own (.int .i64) r.2.2.2 .dp]] [bx [.v (.sl (.int .u8)) r.1.1, .v (.int .i64) r.1.2.1, .v (.int .i64) r.1.2.2] 160] := by
  refine ⟨enters_of Go.Proofs.Try.func101 rfl (by decide), HM.intro [.agg [.v (.int .i64), .own (.int .i64) .dp, .own (.int .i64) .dp]] T_ok Go.Proofs.Try.func101 rfl (Nat.le_of_ble_eq_true rfl) (Nat.le_of_ble_eq_true rfl) fun w0 E0 ht => ?_⟩
  unfold F101 at h
  show VW _ _ _ _ _ (retM _ _ _ _ _) _
  refine sR T_ok [0, 2, 65536] [0, 1] ⟨[(0, .lf (.ptr 0 0 0 0)), (2, .lf (.ptr 1 0 0 0)), (65536, .lf (.ptr 0 0 0 0))], [bx [.v (.sl (.int .u8)) a0.1, .v (.int .i64) a0.2.1, .v (.int .i64) a0.2.2] 160, bx [.v (.int .i64) (0 : Int), .nil, .nil] 59]⟩ (tn 1) ?_
  refine VW.seq ?_
  refine VW.region ?_
  refine sG T_ok 1 [0, 2, 7, 65536] [0, 1] ⟨[(0, .lf (.ptr 0 0 0 0)), (2, .lf (.ptr 1 0 0 0)), (7, .lf (.ptr 0 0 0 0)), (65536, .lf (.ptr 0 0 0 0))], [bx [.v (.sl (.int .u8)) a0.1, .v (.int .i64) a0.2.1, .v (.int .i64) a0.2.2] 160, bx [.v (.int .i64) (0 : Int), .nil, .nil] 59]⟩ (tn 1) ?_
  obtain ⟨y1, hy, h⟩ := andO_some h
  refine VO.callM [0] [.r, .t (.int .i64)] (d := some 8) (by kernel_rfl) (by kernel_rfl) (ok92 N _ _ hy) (by kernel_rfl) ?_
  refine sG T_ok 1 [0, 2, 9, 65536] [0, 1] ⟨[(0, .lf (.ptr 0 0 0 0)), (2, .lf (.ptr 1 0 0 0)), (9, I (IntKind.i64.wrap ((1 : Int) + y1.2))), (65536, .lf (.ptr 0 0 0 0))], [bx [.v (.sl (.int .u8)) y1.1.1, .v (.int .i64) y1.1.2.1, .v (.int .i64) y1.1.2.2] 160, bx [.v (.int .i64) (0 : Int), .nil, .nil] 59]⟩ (tn 1) ?_
  obtain ⟨y2, hy, h⟩ := andO_some h
  refine cal false [.t (.int .i64)] [] (some 10) T_ok (ok98 N _ hy) ?_
  refine sN T_ok [0, 2, 3, 65536] [0, 1, 4, 2, 3] ⟨[(0, .lf (.ptr 0 0 0 0)), (2, .lf (.ptr 1 0 0 0)), (3, .lf (.ptr 2 0 0 0)), (65536, .lf (.ptr 0 0 0 0))], [bx [.v (.sl (.int .u8)) y1.1.1, .v (.int .i64) y1.1.2.1, .v (.int .i64) y1.1.2.2] 160, bx [.v (.int .i64) (0 : Int), .nil, .nil] 59, bx [.v (.int .i64) y2.1.1, .hd 3 0 none, .hd 4 0 none] 59, ar 0 (.int .i64) y2.1.2.1 .dp, ar 0 (.int .i64) y2.1.2.2 .dp]⟩ (tn 6) ?_
  refine VW.join (fun s => ∃ (x58 : (List Int)) (x59 : Int) (x60 : Int) (x61 : Int) (x62 : (List Int)) (x63 : (List Int)), s = ⟨[(0, .lf (.ptr 0 0 0 0)), (2, .lf (.ptr 1 0 0 0)), (3, .lf (.ptr 2 0 0 0)), (65536, .lf (.ptr 0 0 0 0))], [bx [.v (.sl (.int .u8)) x58, .v (.int .i64) x59, .v (.int .i64) x60] 160, bx [.v (.int .i64) (0 : Int), .nil, .nil] 59, bx [.v (.int .i64) x61, .hd 3 0 none, .hd 4 0 none] 59, ar 0 (.int .i64) x62 .dp, ar 0 (.int .i64) x63 .dp]⟩ ∧ F101_j1 N x58 x59 x60 x61 x62 x63 = some r) ?_ ?_
  · refine VW.seq ?_
    refine VW.region ?_
    refine sG T_ok 1 [0, 2, 3, 13, 65536] [0, 1, 2, 3, 4] ⟨[(0, .lf (.ptr 0 0 0 0)), (2, .lf (.ptr 1 0 0 0)), (3, .lf (.ptr 2 0 0 0)), (13, .lf (.ptr 0 0 0 0)), (65536, .lf (.ptr 0 0 0 0))], [bx [.v (.sl (.int .u8)) y1.1.1, .v (.int .i64) y1.1.2.1, .v (.int .i64) y1.1.2.2] 160, bx [.v (.int .i64) (0 : Int), .nil, .nil] 59, bx [.v (.int .i64) y2.1.1, .hd 3 0 none, .hd 4 0 none] 59, ar 0 (.int .i64) y2.1.2.1 .dp, ar 0 (.int .i64) y2.1.2.2 .dp]⟩ (tn 1) ?_
    obtain ⟨y84, hy, h⟩ := andO_some h
    refine VO.callM [0] [.r, .t (.int .i64)] (d := some 14) (by kernel_rfl) (by kernel_rfl) (ok92 N _ _ hy) (by kernel_rfl) ?_
    refine sN T_ok [0, 2, 3, 5, 65536] [0, 1, 2, 3, 4] ⟨[(0, .lf (.ptr 0 0 0 0)), (2, .lf (.ptr 1 0 0 0)), (3, .lf (.ptr 2 0 0 0)), (5, I y84.2), (65536, .lf (.ptr 0 0 0 0))], [bx [.v (.sl (.int .u8)) y84.1.1, .v (.int .i64) y84.1.2.1, .v (.int .i64) y84.1.2.2] 160, bx [.v (.int .i64) (0 : Int), .nil, .nil] 59, bx [.v (.int .i64) y2.1.1, .hd 3 0 none, .hd 4 0 none] 59, ar 0 (.int .i64) y2.1.2.1 .dp, ar 0 (.int .i64) y2.1.2.2 .dp]⟩ (tn 1) ?_
    refine VW.block ?_
    refine lop (fun k s => ∃ (x85 : (List Int)) (x86 : Int) (x87 : Int) (x88 : Int) (x89 : (List Int)) (x90 : (List Int)) (x91 : Int), s = ⟨[(0, .lf (.ptr 0 0 0 0)), (2, .lf (.ptr 1 0 0 0)), (3, .lf (.ptr 2 0 0 0)), (5, I x91), (65536, .lf (.ptr 0 0 0 0))], [bx [.v (.sl (.int .u8)) x85, .v (.int .i64) x86, .v (.int .i64) x87] 160, bx [.v (.int .i64) (0 : Int), .nil, .nil] 59, bx [.v (.int .i64) x88, .hd 3 0 none, .hd 4 0 none] 59, ar 0 (.int .i64) x89 .dp, ar 0 (.int .i64) x90 .dp]⟩ ∧ F101_l0 N k x85 x86 x87 x88 x89 x90 x91 = some r) N [.ren [0, 2, 3, 5, 65536] [0, 1, 2, 3, 4]] ⟨y84.1.1, y84.1.2.1, y84.1.2.2, y2.1.1, y2.1.2.1, y2.1.2.2, y84.2, rfl, h⟩ ?_
    rintro k115 s ⟨x85, x86, x87, x88, x89, x90, x91, rfl, h⟩
    cases k115 with
    | zero => cases show none = some r from h
    | succ k115 =>
      replace h : F101_l0_b N (F101_l0 N k115) x85 x86 x87 x88 x89 x90 x91 = some r := h
      unfold F101_l0_b at h
      refine VW.seq ?_
      refine sR T_ok [0, 2, 3, 5, 16, 65536] [0, 1, 2, 3, 4] ⟨[(0, .lf (.ptr 0 0 0 0)), (2, .lf (.ptr 1 0 0 0)), (3, .lf (.ptr 2 0 0 0)), (5, I x91), (16, B (decide (x91 > (0 : Int)))), (65536, .lf (.ptr 0 0 0 0))], [bx [.v (.sl (.int .u8)) x85, .v (.int .i64) x86, .v (.int .i64) x87] 160, bx [.v (.int .i64) (0 : Int), .nil, .nil] 59, bx [.v (.int .i64) x88, .hd 3 0 none, .hd 4 0 none] 59, ar 0 (.int .i64) x89 .dp, ar 0 (.int .i64) x90 .dp]⟩ (tn 2) ?_
      refine cnd h (fun h => ?_) (fun h => ?_)
      · refine VW.skip ?_
        refine VW.join (fun s => ∃ (x124 : (List Int)) (x125 : Int) (x126 : Int) (x127 : Int) (x128 : (List Int)) (x129 : (List Int)), s = ⟨[(0, .lf (.ptr 0 0 0 0)), (2, .lf (.ptr 1 0 0 0)), (3, .lf (.ptr 2 0 0 0)), (5, I x91), (65536, .lf (.ptr 0 0 0 0))], [bx [.v (.sl (.int .u8)) x124, .v (.int .i64) x125, .v (.int .i64) x126] 160, bx [.v (.int .i64) (0 : Int), .nil, .nil] 59, bx [.v (.int .i64) x127, .hd 3 0 none, .hd 4 0 none] 59, ar 0 (.int .i64) x128 .dp, ar 0 (.int .i64) x129 .dp]⟩ ∧ F101_j2 N (F101_l0 N k115) x91 x124 x125 x126 x127 x128 x129 = some r) ?_ ?_
        · refine VW.block ?_
          refine VW.seq ?_
          refine VW.region ?_
          refine sG T_ok 1 [0, 2, 3, 5, 19, 65536] [0, 1, 2, 3, 4] ⟨[(0, .lf (.ptr 0 0 0 0)), (2, .lf (.ptr 1 0 0 0)), (3, .lf (.ptr 2 0 0 0)), (5, I x91), (19, .lf (.ptr 0 0 0 0)), (65536, .lf (.ptr 0 0 0 0))], [bx [.v (.sl (.int .u8)) x85, .v (.int .i64) x86, .v (.int .i64) x87] 160, bx [.v (.int .i64) (0 : Int), .nil, .nil] 59, bx [.v (.int .i64) x88, .hd 3 0 none, .hd 4 0 none] 59, ar 0 (.int .i64) x89 .dp, ar 0 (.int .i64) x90 .dp]⟩ (tn 1) ?_
          obtain ⟨y131, hy, h⟩ := andO_some h
          refine VO.callM [0] [.r, .t (.int .i64)] (d := some 20) (by kernel_rfl) (by kernel_rfl) (ok92 N _ _ hy) (by kernel_rfl) ?_
          refine sN T_ok [0, 2, 3, 5, 20, 65536] [0, 1, 2, 3, 4] ⟨[(0, .lf (.ptr 0 0 0 0)), (2, .lf (.ptr 1 0 0 0)), (3, .lf (.ptr 2 0 0 0)), (5, I x91), (20, I y131.2), (65536, .lf (.ptr 0 0 0 0))], [bx [.v (.sl (.int .u8)) y131.1.1, .v (.int .i64) y131.1.2.1, .v (.int .i64) y131.1.2.2] 160, bx [.v (.int .i64) (0 : Int), .nil, .nil] 59, bx [.v (.int .i64) x88, .hd 3 0 none, .hd 4 0 none] 59, ar 0 (.int .i64) x89 .dp, ar 0 (.int .i64) x90 .dp]⟩ (tn 0) ?_
          refine VW.block ?_
          refine sR T_ok [0, 2, 3, 5, 20, 31, 65536] [0, 1, 2, 3, 4] ⟨[(0, .lf (.ptr 0 0 0 0)), (2, .lf (.ptr 1 0 0 0)), (3, .lf (.ptr 2 0 0 0)), (5, I x91), (20, I y131.2), (31, B (y131.2 == (0 : Int))), (65536, .lf (.ptr 0 0 0 0))], [bx [.v (.sl (.int .u8)) y131.1.1, .v (.int .i64) y131.1.2.1, .v (.int .i64) y131.1.2.2] 160, bx [.v (.int .i64) (0 : Int), .nil, .nil] 59, bx [.v (.int .i64) x88, .hd 3 0 none, .hd 4 0 none] 59, ar 0 (.int .i64) x89 .dp, ar 0 (.int .i64) x90 .dp]⟩ (tn 2) ?_
          refine cnd h (fun h => ?_) (fun h => ?_)
          · obtain ⟨y132, hy132, h⟩ := andO_some h
            obtain ⟨y133, hy133, h⟩ := andO_some h
            refine VW.drawn (by kernel_rfl) [some (34, .agg [.v (.int .i64) x88, .hd 3 0 none, .hd 4 0 none]), some (35, .lf (.ptr 0 0 0 0)), some (36, I y132.2), some (37, .tup [.agg [.v (.int .i64) y133.1.1, .hd 5 0 none, .hd 6 0 none], .lf (.v (.int .i64) y133.2.1), .lf (.v .bool y133.2.2)]), some (33, .tup [.agg [.v (.int .i64) y133.1.1, .hd 5 0 none, .hd 6 0 none], .lf (.v (.int .i64) y133.2.1), .lf (.v .bool y133.2.2)]), some (38, .agg [.v (.int .i64) y133.1.1, .hd 5 0 none, .hd 6 0 none]), some (39, I y133.2.1), some (40, B y133.2.2), none] [2, 3, 8] [[bx [.v (.sl (.int .u8)) y131.1.1, .v (.int .i64) y131.1.2.1, .v (.int .i64) y131.1.2.2] 160, bx [.v (.int .i64) (0 : Int), .nil, .nil] 59, bx [.v (.int .i64) x88, .hd 3 0 none, .hd 4 0 none] 59, ar 0 (.int .i64) x89 .dp, ar 0 (.int .i64) x90 .dp], [bx [.v (.sl (.int .u8)) y132.1.1, .v (.int .i64) y132.1.2.1, .v (.int .i64) y132.1.2.2] 160, bx [.v (.int .i64) (0 : Int), .nil, .nil] 59, bx [.v (.int .i64) x88, .hd 3 0 none, .hd 4 0 none] 59, ar 0 (.int .i64) x89 .dp, ar 0 (.int .i64) x90 .dp], [bx [.v (.sl (.int .u8)) y132.1.1, .v (.int .i64) y132.1.2.1, .v (.int .i64) y132.1.2.2] 160, bx [.v (.int .i64) (0 : Int), .nil, .nil] 59, bx [.v (.int .i64) x88, .hd 3 0 none, .hd 4 0 none] 59, ar 0 (.int .i64) x89 .dp, ar 0 (.int .i64) x90 .dp, ar 0 (.int .i64) y133.1.2.1 .dp, ar 0 (.int .i64) y133.1.2.2 .dp], [bx [.v (.sl (.int .u8)) y132.1.1, .v (.int .i64) y132.1.2.1, .v (.int .i64) y132.1.2.2] 160, bx [.v (.int .i64) (0 : Int), .nil, .nil] 59, bx [.v (.int .i64) y133.1.1, .hd 5 0 none, .hd 6 0 none] 59, ar 0 (.int .i64) x89 .dp, ar 0 (.int .i64) x90 .dp, ar 0 (.int .i64) y133.1.2.1 .dp, ar 0 (.int .i64) y133.1.2.2 .dp]] [(0, 0), (0, 1), (1, 0), (2, 0), (3, 1), (4, 2), (5, 0), (5, 1), (5, 2), (6, 0), (6, 1), (6, 2), (6, 3), (7, 0), (7, 1), (7, 2), (7, 3), (8, 2)] [0, 2, 3, 5, 65536] [0, 1, 2, 5, 6] (s' := ⟨[(0, .lf (.ptr 0 0 0 0)), (2, .lf (.ptr 1 0 0 0)), (3, .lf (.ptr 2 0 0 0)), (5, I x91), (65536, .lf (.ptr 0 0 0 0))], [bx [.v (.sl (.int .u8)) y132.1.1, .v (.int .i64) y132.1.2.1, .v (.int .i64) y132.1.2.2] 160, bx [.v (.int .i64) (0 : Int), .nil, .nil] 59, bx [.v (.int .i64) y133.1.1, .hd 3 0 none, .hd 4 0 none] 59, ar 0 (.int .i64) y133.1.2.1 .dp, ar 0 (.int .i64) y133.1.2.2 .dp]⟩) (by kernel_rfl) (by kernel_rfl) ⟨⟨_, rfl, Stp.ev T_ok (m := .dp) (φ := True) (by kernel_rfl) trivial⟩,
    ⟨_, rfl, Stp.ev T_ok (m := .dp) (φ := True) (by kernel_rfl) trivial⟩,
    ⟨_, rfl, Stp.ev T_ok (m := .dp) (φ := True) (by kernel_rfl) trivial⟩,
    ⟨_, rfl, Stp.eq (Stp.callM [0] [.r, .t (.int .i64)] (d := some 36) (by kernel_rfl) (by kernel_rfl) (ok92 N _ _ hy132) (by kernel_rfl)) (by kernel_rfl) (by kernel_rfl)⟩,
    ⟨_, rfl, Stp.eq (Stp.call true [.t Y58, .t (.int .i64)] [] T_ok (d := some 37) (by kernel_rfl) (ok99 N _ _ hy133) rfl) (by kernel_rfl) (by kernel_rfl)⟩,
    ⟨_, rfl, Stp.ev T_ok (m := .dp) (φ := True) (by kernel_rfl) trivial⟩,
    ⟨_, rfl, Stp.ev T_ok (m := .dp) (φ := True) (by kernel_rfl) trivial⟩,
    ⟨_, rfl, Stp.ev T_ok (m := .dp) (φ := True) (by kernel_rfl) trivial⟩,
    ⟨_, rfl, Stp.ev T_ok (m := .dp) (φ := True) (by kernel_rfl) trivial⟩,
    ⟨_, rfl, Stp.ev T_ok (m := .dp) (φ := True) (by kernel_rfl) trivial⟩,
    ⟨_, rfl, Stp.ev T_ok (m := .dp) (φ := True) (by kernel_rfl) trivial⟩,
    ⟨_, rfl, Stp.ev T_ok (m := .dp) (φ := True) (by kernel_rfl) trivial⟩,
    ⟨_, rfl, Stp.ev T_ok (m := .dp) (φ := True) (by kernel_rfl) trivial⟩,
    ⟨_, rfl, Stp.ev T_ok (m := .dp) (φ := True) (by kernel_rfl) trivial⟩,
    ⟨_, rfl, Stp.ev T_ok (m := .dp) (φ := True) (by kernel_rfl) trivial⟩,
    ⟨_, rfl, Stp.ev T_ok (m := .dp) (φ := True) (by kernel_rfl) trivial⟩,
    ⟨_, rfl, Stp.ev T_ok (m := .dp) (φ := True) (by kernel_rfl) trivial⟩,
    ⟨_, rfl, Stp.ev T_ok (m := .dp) (φ := True) (by kernel_rfl) trivial⟩, trivial⟩ (by kernel_rfl) ?_
            exact arv [.ren [0, 2, 3, 5, 65536] [0, 1, 2, 3, 4]] ⟨y132.1.1, y132.1.2.1, y132.1.2.2, y133.1.1, y133.1.2.1, y133.1.2.2, rfl, h⟩
          refine sR T_ok [0, 2, 3, 5, 41, 65536] [0, 1, 2, 3, 4] ⟨[(0, .lf (.ptr 0 0 0 0)), (2, .lf (.ptr 1 0 0 0)), (3, .lf (.ptr 2 0 0 0)), (5, I x91), (41, B (y131.2 == (1 : Int))), (65536, .lf (.ptr 0 0 0 0))], [bx [.v (.sl (.int .u8)) y131.1.1, .v (.int .i64) y131.1.2.1, .v (.int .i64) y131.1.2.2] 160, bx [.v (.int .i64) (0 : Int), .nil, .nil] 59, bx [.v (.int .i64) x88, .hd 3 0 none, .hd 4 0 none] 59, ar 0 (.int .i64) x89 .dp, ar 0 (.int .i64) x90 .dp]⟩ (tn 2) ?_
          refine cnd h (fun h => ?_) (fun h => ?_)
          · obtain ⟨y134, hy134, h⟩ := andO_some h
            obtain ⟨y135, hy135, h⟩ := andO_some h
            refine VW.drawn (by kernel_rfl) [some (44, .agg [.v (.int .i64) x88, .hd 3 0 none, .hd 4 0 none]), some (45, .lf (.ptr 0 0 0 0)), some (46, I y134.2), some (47, .tup [.agg [.v (.int .i64) y135.1.1, .hd 5 0 none, .hd 6 0 none], .lf (.v .bool y135.2)]), some (43, .tup [.agg [.v (.int .i64) y135.1.1, .hd 5 0 none, .hd 6 0 none], .lf (.v .bool y135.2)]), some (48, .agg [.v (.int .i64) y135.1.1, .hd 5 0 none, .hd 6 0 none]), some (49, B y135.2), none] [2, 3, 7] [[bx [.v (.sl (.int .u8)) y131.1.1, .v (.int .i64) y131.1.2.1, .v (.int .i64) y131.1.2.2] 160, bx [.v (.int .i64) (0 : Int), .nil, .nil] 59, bx [.v (.int .i64) x88, .hd 3 0 none, .hd 4 0 none] 59, ar 0 (.int .i64) x89 .dp, ar 0 (.int .i64) x90 .dp], [bx [.v (.sl (.int .u8)) y134.1.1, .v (.int .i64) y134.1.2.1, .v (.int .i64) y134.1.2.2] 160, bx [.v (.int .i64) (0 : Int), .nil, .nil] 59, bx [.v (.int .i64) x88, .hd 3 0 none, .hd 4 0 none] 59, ar 0 (.int .i64) x89 .dp, ar 0 (.int .i64) x90 .dp], [bx [.v (.sl (.int .u8)) y134.1.1, .v (.int .i64) y134.1.2.1, .v (.int .i64) y134.1.2.2] 160, bx [.v (.int .i64) (0 : Int), .nil, .nil] 59, bx [.v (.int .i64) x88, .hd 3 0 none, .hd 4 0 none] 59, ar 0 (.int .i64) x89 .dp, ar 0 (.int .i64) x90 .dp, ar 0 (.int .i64) y135.1.2.1 .dp, ar 0 (.int .i64) y135.1.2.2 .dp], [bx [.v (.sl (.int .u8)) y134.1.1, .v (.int .i64) y134.1.2.1, .v (.int .i64) y134.1.2.2] 160, bx [.v (.int .i64) (0 : Int), .nil, .nil] 59, bx [.v (.int .i64) y135.1.1, .hd 5 0 none, .hd 6 0 none] 59, ar 0 (.int .i64) x89 .dp, ar 0 (.int .i64) x90 .dp, ar 0 (.int .i64) y135.1.2.1 .dp, ar 0 (.int .i64) y135.1.2.2 .dp]] [(0, 0), (0, 1), (1, 0), (2, 0), (3, 1), (4, 2), (5, 0), (5, 1), (5, 2), (6, 0), (6, 1), (6, 2), (6, 3), (7, 2)] [0, 2, 3, 5, 65536] [0, 1, 2, 5, 6] (s' := ⟨[(0, .lf (.ptr 0 0 0 0)), (2, .lf (.ptr 1 0 0 0)), (3, .lf (.ptr 2 0 0 0)), (5, I x91), (65536, .lf (.ptr 0 0 0 0))], [bx [.v (.sl (.int .u8)) y134.1.1, .v (.int .i64) y134.1.2.1, .v (.int .i64) y134.1.2.2] 160, bx [.v (.int .i64) (0 : Int), .nil, .nil] 59, bx [.v (.int .i64) y135.1.1, .hd 3 0 none, .hd 4 0 none] 59, ar 0 (.int .i64) y135.1.2.1 .dp, ar 0 (.int .i64) y135.1.2.2 .dp]⟩) (by kernel_rfl) (by kernel_rfl) ⟨⟨_, rfl, Stp.ev T_ok (m := .dp) (φ := True) (by kernel_rfl) trivial⟩,
    ⟨_, rfl, Stp.ev T_ok (m := .dp) (φ := True) (by kernel_rfl) trivial⟩,
    ⟨_, rfl, Stp.ev T_ok (m := .dp) (φ := True) (by kernel_rfl) trivial⟩,
    ⟨_, rfl, Stp.eq (Stp.callM [0] [.r, .t (.int .i64)] (d := some 46) (by kernel_rfl) (by kernel_rfl) (ok92 N _ _ hy134) (by kernel_rfl)) (by kernel_rfl) (by kernel_rfl)⟩,
    ⟨_, rfl, Stp.eq (Stp.call true [.t Y58, .t (.int .i64)] [] T_ok (d := some 47) (by kernel_rfl) (ok158 N _ _ hy135) rfl) (by kernel_rfl) (by kernel_rfl)⟩,
    ⟨_, rfl, Stp.ev T_ok (m := .dp) (φ := True) (by kernel_rfl) trivial⟩,
    ⟨_, rfl, Stp.ev T_ok (m := .dp) (φ := True) (by kernel_rfl) trivial⟩,
    ⟨_, rfl, Stp.ev T_ok (m := .dp) (φ := True) (by kernel_rfl) trivial⟩,
    ⟨_, rfl, Stp.ev T_ok (m := .dp) (φ := True) (by kernel_rfl) trivial⟩,
    ⟨_, rfl, Stp.ev T_ok (m := .dp) (φ := True) (by kernel_rfl) trivial⟩,
    ⟨_, rfl, Stp.ev T_ok (m := .dp) (φ := True) (by kernel_rfl) trivial⟩,
    ⟨_, rfl, Stp.ev T_ok (m := .dp) (φ := True) (by kernel_rfl) trivial⟩,
    ⟨_, rfl, Stp.ev T_ok (m := .dp) (φ := True) (by kernel_rfl) trivial⟩,
    ⟨_, rfl, Stp.ev T_ok (m := .dp) (φ := True) (by kernel_rfl) trivial⟩, trivial⟩ (by kernel_rfl) ?_
            exact arv [.ren [0, 2, 3, 5, 65536] [0, 1, 2, 3, 4]] ⟨y134.1.1, y134.1.2.1, y134.1.2.2, y135.1.1, y135.1.2.1, y135.1.2.2, rfl, h⟩
          obtain ⟨y136, hy136, h⟩ := andO_some h
          obtain ⟨y137, hy137, h⟩ := andO_some h
          obtain ⟨y138, hy138, h⟩ := andO_some h
          refine VW.drawn (by kernel_rfl) [some (22, .agg [.v (.int .i64) x88, .hd 3 0 none, .hd 4 0 none]), some (23, .lf (.ptr 0 0 0 0)), some (24, I y136.2), some (25, .lf (.ptr 0 0 0 0)), some (26, I y137.2), some (27, .tup [.agg [.v (.int .i64) y138.1.1, .hd 5 0 none, .hd 6 0 none], .lf (.v (.int .i64) y138.2.1), .lf (.v .bool y138.2.2)]), some (21, .tup [.agg [.v (.int .i64) y138.1.1, .hd 5 0 none, .hd 6 0 none], .lf (.v (.int .i64) y138.2.1), .lf (.v .bool y138.2.2)]), some (28, .agg [.v (.int .i64) y138.1.1, .hd 5 0 none, .hd 6 0 none]), some (29, I y138.2.1), some (30, B y138.2.2), none] [2, 4, 5, 10] [[bx [.v (.sl (.int .u8)) y131.1.1, .v (.int .i64) y131.1.2.1, .v (.int .i64) y131.1.2.2] 160, bx [.v (.int .i64) (0 : Int), .nil, .nil] 59, bx [.v (.int .i64) x88, .hd 3 0 none, .hd 4 0 none] 59, ar 0 (.int .i64) x89 .dp, ar 0 (.int .i64) x90 .dp], [bx [.v (.sl (.int .u8)) y136.1.1, .v (.int .i64) y136.1.2.1, .v (.int .i64) y136.1.2.2] 160, bx [.v (.int .i64) (0 : Int), .nil, .nil] 59, bx [.v (.int .i64) x88, .hd 3 0 none, .hd 4 0 none] 59, ar 0 (.int .i64) x89 .dp, ar 0 (.int .i64) x90 .dp], [bx [.v (.sl (.int .u8)) y137.1.1, .v (.int .i64) y137.1.2.1, .v (.int .i64) y137.1.2.2] 160, bx [.v (.int .i64) (0 : Int), .nil, .nil] 59, bx [.v (.int .i64) x88, .hd 3 0 none, .hd 4 0 none] 59, ar 0 (.int .i64) x89 .dp, ar 0 (.int .i64) x90 .dp], [bx [.v (.sl (.int .u8)) y137.1.1, .v (.int .i64) y137.1.2.1, .v (.int .i64) y137.1.2.2] 160, bx [.v (.int .i64) (0 : Int), .nil, .nil] 59, bx [.v (.int .i64) x88, .hd 3 0 none, .hd 4 0 none] 59, ar 0 (.int .i64) x89 .dp, ar 0 (.int .i64) x90 .dp, ar 0 (.int .i64) y138.1.2.1 .dp, ar 0 (.int .i64) y138.1.2.2 .dp], [bx [.v (.sl (.int .u8)) y137.1.1, .v (.int .i64) y137.1.2.1, .v (.int .i64) y137.1.2.2] 160, bx [.v (.int .i64) (0 : Int), .nil, .nil] 59, bx [.v (.int .i64) y138.1.1, .hd 5 0 none, .hd 6 0 none] 59, ar 0 (.int .i64) x89 .dp, ar 0 (.int .i64) x90 .dp, ar 0 (.int .i64) y138.1.2.1 .dp, ar 0 (.int .i64) y138.1.2.2 .dp]] [(0, 0), (0, 1), (0, 2), (1, 0), (2, 0), (3, 0), (3, 1), (4, 1), (5, 2), (6, 3), (7, 0), (7, 1), (7, 2), (7, 3), (8, 0), (8, 1), (8, 2), (8, 3), (8, 4), (9, 0), (9, 1), (9, 2), (9, 3), (9, 4), (10, 3)] [0, 2, 3, 5, 65536] [0, 1, 2, 5, 6] (s' := ⟨[(0, .lf (.ptr 0 0 0 0)), (2, .lf (.ptr 1 0 0 0)), (3, .lf (.ptr 2 0 0 0)), (5, I x91), (65536, .lf (.ptr 0 0 0 0))], [bx [.v (.sl (.int .u8)) y137.1.1, .v (.int .i64) y137.1.2.1, .v (.int .i64) y137.1.2.2] 160, bx [.v (.int .i64) (0 : Int), .nil, .nil] 59, bx [.v (.int .i64) y138.1.1, .hd 3 0 none, .hd 4 0 none] 59, ar 0 (.int .i64) y138.1.2.1 .dp, ar 0 (.int .i64) y138.1.2.2 .dp]⟩) (by kernel_rfl) (by kernel_rfl) ⟨⟨_, rfl, Stp.ev T_ok (m := .dp) (φ := True) (by kernel_rfl) trivial⟩,
    ⟨_, rfl, Stp.ev T_ok (m := .dp) (φ := True) (by kernel_rfl) trivial⟩,
    ⟨_, rfl, Stp.ev T_ok (m := .dp) (φ := True) (by kernel_rfl) trivial⟩,
    ⟨_, rfl, Stp.ev T_ok (m := .dp) (φ := True) (by kernel_rfl) trivial⟩,
    ⟨_, rfl, Stp.eq (Stp.callM [0] [.r, .t (.int .i64)] (d := some 24) (by kernel_rfl) (by kernel_rfl) (ok92 N _ _ hy136) (by kernel_rfl)) (by kernel_rfl) (by kernel_rfl)⟩,
    ⟨_, rfl, Stp.ev T_ok (m := .dp) (φ := True) (by kernel_rfl) trivial⟩,
    ⟨_, rfl, Stp.ev T_ok (m := .dp) (φ := True) (by kernel_rfl) trivial⟩,
    ⟨_, rfl, Stp.eq (Stp.callM [0] [.r, .t (.int .i64)] (d := some 26) (by kernel_rfl) (by kernel_rfl) (ok92 N _ _ hy137) (by kernel_rfl)) (by kernel_rfl) (by kernel_rfl)⟩,
    ⟨_, rfl, Stp.eq (Stp.call true [.t Y58, .t (.int .i64), .t (.int .i64)] [] T_ok (d := some 27) (by kernel_rfl) (ok100 N _ _ _ hy138) rfl) (by kernel_rfl) (by kernel_rfl)⟩,
    ⟨_, rfl, Stp.ev T_ok (m := .dp) (φ := True) (by kernel_rfl) trivial⟩,
    ⟨_, rfl, Stp.ev T_ok (m := .dp) (φ := True) (by kernel_rfl) trivial⟩,
    ⟨_, rfl, Stp.ev T_ok (m := .dp) (φ := True) (by kernel_rfl) trivial⟩,
    ⟨_, rfl, Stp.ev T_ok (m := .dp) (φ := True) (by kernel_rfl) trivial⟩,
    ⟨_, rfl, Stp.ev T_ok (m := .dp) (φ := True) (by kernel_rfl) trivial⟩,
    ⟨_, rfl, Stp.ev T_ok (m := .dp) (φ := True) (by kernel_rfl) trivial⟩,
    ⟨_, rfl, Stp.ev T_ok (m := .dp) (φ := True) (by kernel_rfl) trivial⟩,
    ⟨_, rfl, Stp.ev T_ok (m := .dp) (φ := True) (by kernel_rfl) trivial⟩,
    ⟨_, rfl, Stp.ev T_ok (m := .dp) (φ := True) (by kernel_rfl) trivial⟩,
    ⟨_, rfl, Stp.ev T_ok (m := .dp) (φ := True) (by kernel_rfl) trivial⟩,
    ⟨_, rfl, Stp.ev T_ok (m := .dp) (φ := True) (by kernel_rfl) trivial⟩,
    ⟨_, rfl, Stp.ev T_ok (m := .dp) (φ := True) (by kernel_rfl) trivial⟩,
    ⟨_, rfl, Stp.ev T_ok (m := .dp) (φ := True) (by kernel_rfl) trivial⟩,
    ⟨_, rfl, Stp.ev T_ok (m := .dp) (φ := True) (by kernel_rfl) trivial⟩,
    ⟨_, rfl, Stp.ev T_ok (m := .dp) (φ := True) (by kernel_rfl) trivial⟩,
    ⟨_, rfl, Stp.ev T_ok (m := .dp) (φ := True) (by kernel_rfl) trivial⟩, trivial⟩ (by kernel_rfl) ?_
          exact arv [.ren [0, 2, 3, 5, 65536] [0, 1, 2, 3, 4]] ⟨y137.1.1, y137.1.2.1, y137.1.2.2, y138.1.1, y138.1.2.1, y138.1.2.2, rfl, h⟩
        rintro s ⟨x124, x125, x126, x127, x128, x129, rfl, h⟩
        unfold F101_j2 at h
        refine rR T_ok [0, 2, 3, 5, 65536] [0, 1, 2, 3, 4] ⟨[(0, .lf (.ptr 0 0 0 0)), (2, .lf (.ptr 1 0 0 0)), (3, .lf (.ptr 2 0 0 0)), (5, I (IntKind.i64.wrap (x91 - (1 : Int)))), (65536, .lf (.ptr 0 0 0 0))], [bx [.v (.sl (.int .u8)) x124, .v (.int .i64) x125, .v (.int .i64) x126] 160, bx [.v (.int .i64) (0 : Int), .nil, .nil] 59, bx [.v (.int .i64) x127, .hd 3 0 none, .hd 4 0 none] 59, ar 0 (.int .i64) x128 .dp, ar 0 (.int .i64) x129 .dp]⟩ (tn 3) ?_
        exact aro [.ren [0, 2, 3, 5, 65536] [0, 1, 2, 3, 4]] ⟨x124, x125, x126, x127, x128, x129, (IntKind.i64.wrap (x91 - (1 : Int))), rfl, h⟩
      refine VW.exit ?_
      exact arv [.ren [0, 2, 3, 65536] [0, 1, 2, 3, 4]] ⟨x85, x86, x87, x88, x89, x90, rfl, h⟩
  rintro s ⟨x58, x59, x60, x61, x62, x63, rfl, h⟩
  unfold F101_j1 at h
  refine VW.join (fun s => ∃ (x70 : Int) (x71 : (List Int)) (x72 : (List Int)) (x73 : (List Int)) (x74 : Int) (x75 : Int), s = ⟨[(2, .lf (.ptr 0 0 0 0)), (3, .lf (.ptr 1 0 0 0)), (65536, .lf (.ptr 4 0 0 0))], [bx [.v (.int .i64) (0 : Int), .nil, .nil] 59, bx [.v (.int .i64) x70, .hd 2 0 none, .hd 3 0 none] 59, ar 0 (.int .i64) x71 .dp, ar 0 (.int .i64) x72 .dp, bx [.v (.sl (.int .u8)) x73, .v (.int .i64) x74, .v (.int .i64) x75] 160]⟩ ∧ F101_j0 N x70 x71 x72 x73 x74 x75 = some r) ?_ ?_
  · refine VW.seq ?_
    refine VW.region ?_
    refine sG T_ok 1 [0, 2, 3, 50, 65536] [0, 1, 2, 3, 4] ⟨[(0, .lf (.ptr 0 0 0 0)), (2, .lf (.ptr 1 0 0 0)), (3, .lf (.ptr 2 0 0 0)), (50, .lf (.ptr 0 0 0 0)), (65536, .lf (.ptr 0 0 0 0))], [bx [.v (.sl (.int .u8)) x58, .v (.int .i64) x59, .v (.int .i64) x60] 160, bx [.v (.int .i64) (0 : Int), .nil, .nil] 59, bx [.v (.int .i64) x61, .hd 3 0 none, .hd 4 0 none] 59, ar 0 (.int .i64) x62 .dp, ar 0 (.int .i64) x63 .dp]⟩ (tn 1) ?_
    obtain ⟨y77, hy, h⟩ := andO_some h
    refine VO.callM [0] [.r, .t (.int .i64)] (d := some 51) (by kernel_rfl) (by kernel_rfl) (ok94 N _ _ hy) (by kernel_rfl) ?_
    refine sN T_ok [0, 2, 3, 51, 65536] [0, 1, 2, 3, 4] ⟨[(0, .lf (.ptr 0 0 0 0)), (2, .lf (.ptr 1 0 0 0)), (3, .lf (.ptr 2 0 0 0)), (51, B y77.2), (65536, .lf (.ptr 0 0 0 0))], [bx [.v (.sl (.int .u8)) y77.1.1, .v (.int .i64) y77.1.2.1, .v (.int .i64) y77.1.2.2] 160, bx [.v (.int .i64) (0 : Int), .nil, .nil] 59, bx [.v (.int .i64) x61, .hd 3 0 none, .hd 4 0 none] 59, ar 0 (.int .i64) x62 .dp, ar 0 (.int .i64) x63 .dp]⟩ (tn 0) ?_
    refine cnd h (fun h => ?_) (fun h => ?_)
    · refine VW.seq ?_
      refine VW.region ?_
      refine sG T_ok 1 [0, 2, 3, 52, 65536] [0, 1, 2, 3, 4] ⟨[(0, .lf (.ptr 0 0 0 0)), (2, .lf (.ptr 1 0 0 0)), (3, .lf (.ptr 2 0 0 0)), (52, .lf (.ptr 0 0 0 0)), (65536, .lf (.ptr 0 0 0 0))], [bx [.v (.sl (.int .u8)) y77.1.1, .v (.int .i64) y77.1.2.1, .v (.int .i64) y77.1.2.2] 160, bx [.v (.int .i64) (0 : Int), .nil, .nil] 59, bx [.v (.int .i64) x61, .hd 3 0 none, .hd 4 0 none] 59, ar 0 (.int .i64) x62 .dp, ar 0 (.int .i64) x63 .dp]⟩ (tn 1) ?_
      obtain ⟨y78, hy, h⟩ := andO_some h
      refine VO.callM [0] [.r, .t (.int .i64)] (d := some 53) (by kernel_rfl) (by kernel_rfl) (ok92 N _ _ hy) (by kernel_rfl) ?_
      refine sN T_ok [0, 2, 3, 53, 65536] [0, 1, 2, 3, 4] ⟨[(0, .lf (.ptr 0 0 0 0)), (2, .lf (.ptr 1 0 0 0)), (3, .lf (.ptr 2 0 0 0)), (53, I y78.2), (65536, .lf (.ptr 0 0 0 0))], [bx [.v (.sl (.int .u8)) y78.1.1, .v (.int .i64) y78.1.2.1, .v (.int .i64) y78.1.2.2] 160, bx [.v (.int .i64) (0 : Int), .nil, .nil] 59, bx [.v (.int .i64) x61, .hd 3 0 none, .hd 4 0 none] 59, ar 0 (.int .i64) x62 .dp, ar 0 (.int .i64) x63 .dp]⟩ (tn 0) ?_
      refine VW.block ?_
      refine sR T_ok [0, 2, 3, 53, 54, 65536] [0, 1, 2, 3, 4] ⟨[(0, .lf (.ptr 0 0 0 0)), (2, .lf (.ptr 1 0 0 0)), (3, .lf (.ptr 2 0 0 0)), (53, I y78.2), (54, B (y78.2 == (0 : Int))), (65536, .lf (.ptr 0 0 0 0))], [bx [.v (.sl (.int .u8)) y78.1.1, .v (.int .i64) y78.1.2.1, .v (.int .i64) y78.1.2.2] 160, bx [.v (.int .i64) (0 : Int), .nil, .nil] 59, bx [.v (.int .i64) x61, .hd 3 0 none, .hd 4 0 none] 59, ar 0 (.int .i64) x62 .dp, ar 0 (.int .i64) x63 .dp]⟩ (tn 2) ?_
      refine cnd h (fun h => ?_) (fun h => ?_)
      · refine VW.region ?_
        refine sG T_ok 2 [2, 3, 56, 57, 65536] [1, 2, 3, 4, 0, 5] ⟨[(2, .lf (.ptr 0 0 0 0)), (3, .lf (.ptr 1 0 0 0)), (56, .lf (.ptr 4 0 0 0)), (57, .lf (.hd 5 0 none)), (65536, .lf (.ptr 4 0 0 0))], [bx [.v (.int .i64) (0 : Int), .nil, .nil] 59, bx [.v (.int .i64) x61, .hd 2 0 none, .hd 3 0 none] 59, ar 0 (.int .i64) x62 .dp, ar 0 (.int .i64) x63 .dp, bx [.v (.sl (.int .u8)) y78.1.1, .v (.int .i64) y78.1.2.1, .v (.int .i64) y78.1.2.2] 160, ar 0 (.int .i64) ([(0 : Int), (16 : Int), (17 : Int), (1 : Int)]) .dp]⟩ (tn 2) ?_
        obtain ⟨y79, hy, h⟩ := andO_some h
        refine VO.ghl [.frz 5] ?_
        refine VO.callM [4] [.r, .t (.sl (.int .i64))] (d := some 58) (by kernel_rfl) (by kernel_rfl) (ok95 N _ _ hy) (by kernel_rfl) ?_
        refine sN T_ok [2, 3, 65536] [0, 1, 2, 3, 4] ⟨[(2, .lf (.ptr 0 0 0 0)), (3, .lf (.ptr 1 0 0 0)), (65536, .lf (.ptr 4 0 0 0))], [bx [.v (.int .i64) (0 : Int), .nil, .nil] 59, bx [.v (.int .i64) y79.2, .hd 2 0 none, .hd 3 0 none] 59, ar 0 (.int .i64) x62 .dp, ar 0 (.int .i64) x63 .dp, bx [.v (.sl (.int .u8)) y79.1.1, .v (.int .i64) y79.1.2.1, .v (.int .i64) y79.1.2.2] 160]⟩ (tn 2) ?_
        exact arv [.ren [2, 3, 65536] [0, 1, 2, 3, 4]] ⟨y79.2, x62, x63, y79.1.1, y79.1.2.1, y79.1.2.2, rfl, h⟩
      refine sR T_ok [2, 3, 53, 60, 65536] [1, 2, 3, 4, 0] ⟨[(2, .lf (.ptr 0 0 0 0)), (3, .lf (.ptr 1 0 0 0)), (53, I y78.2), (60, B (y78.2 == (1 : Int))), (65536, .lf (.ptr 4 0 0 0))], [bx [.v (.int .i64) (0 : Int), .nil, .nil] 59, bx [.v (.int .i64) x61, .hd 2 0 none, .hd 3 0 none] 59, ar 0 (.int .i64) x62 .dp, ar 0 (.int .i64) x63 .dp, bx [.v (.sl (.int .u8)) y78.1.1, .v (.int .i64) y78.1.2.1, .v (.int .i64) y78.1.2.2] 160]⟩ (tn 2) ?_
      refine cnd h (fun h => ?_) (fun h => ?_)
      · obtain ⟨g80, h⟩ := gd_some h
        refine rR T_ok [2, 3, 65536] [0, 1, 2, 3, 4] ⟨[(2, .lf (.ptr 0 0 0 0)), (3, .lf (.ptr 1 0 0 0)), (65536, .lf (.ptr 4 0 0 0))], [bx [.v (.int .i64) (0 : Int), .nil, .nil] 59, bx [.v (.int .i64) x61, .hd 2 0 none, .hd 3 0 none] 59, ar 0 (.int .i64) (x62 ++ ([(3 : Int)])) .dp, ar 0 (.int .i64) x63 .dp, bx [.v (.sl (.int .u8)) y78.1.1, .v (.int .i64) y78.1.2.1, .v (.int .i64) y78.1.2.2] 160]⟩ (pu 3 (an g80 (tn 2))) ?_
        exact arv [.ren [2, 3, 65536] [0, 1, 2, 3, 4]] ⟨x61, (x62 ++ ([(3 : Int)])), x63, y78.1.1, y78.1.2.1, y78.1.2.2, rfl, h⟩
      refine sR T_ok [2, 3, 53, 67, 65536] [0, 1, 2, 3, 4] ⟨[(2, .lf (.ptr 0 0 0 0)), (3, .lf (.ptr 1 0 0 0)), (53, I y78.2), (67, B (y78.2 == (2 : Int))), (65536, .lf (.ptr 4 0 0 0))], [bx [.v (.int .i64) (0 : Int), .nil, .nil] 59, bx [.v (.int .i64) x61, .hd 2 0 none, .hd 3 0 none] 59, ar 0 (.int .i64) x62 .dp, ar 0 (.int .i64) x63 .dp, bx [.v (.sl (.int .u8)) y78.1.1, .v (.int .i64) y78.1.2.1, .v (.int .i64) y78.1.2.2] 160]⟩ (tn 2) ?_
      refine cnd h (fun h => ?_) (fun h => ?_)
      · obtain ⟨g81, h⟩ := gd_some h
        refine sR T_ok [2, 3, 65536] [0, 1, 2, 3, 4] ⟨[(2, .lf (.ptr 0 0 0 0)), (3, .lf (.ptr 1 0 0 0)), (65536, .lf (.ptr 4 0 0 0))], [bx [.v (.int .i64) (0 : Int), .nil, .nil] 59, bx [.v (.int .i64) x61, .hd 2 0 none, .hd 3 0 none] 59, ar 0 (.int .i64) x62 .dp, ar 0 (.int .i64) (x63 ++ ([(1000001 : Int)])) .dp, bx [.v (.sl (.int .u8)) y78.1.1, .v (.int .i64) y78.1.2.1, .v (.int .i64) y78.1.2.2] 160]⟩ (pu 3 (an g81 (tn 2))) ?_
        obtain ⟨g82, h⟩ := gd_some h
        refine rR T_ok [2, 3, 65536] [0, 1, 2, 3, 4] ⟨[(2, .lf (.ptr 0 0 0 0)), (3, .lf (.ptr 1 0 0 0)), (65536, .lf (.ptr 4 0 0 0))], [bx [.v (.int .i64) (0 : Int), .nil, .nil] 59, bx [.v (.int .i64) x61, .hd 2 0 none, .hd 3 0 none] 59, ar 0 (.int .i64) (x62 ++ ([(77 : Int)])) .dp, ar 0 (.int .i64) (x63 ++ ([(1000001 : Int)])) .dp, bx [.v (.sl (.int .u8)) y78.1.1, .v (.int .i64) y78.1.2.1, .v (.int .i64) y78.1.2.2] 160]⟩ (pu 3 (an g82 (tn 2))) ?_
        exact arv [.ren [2, 3, 65536] [0, 1, 2, 3, 4]] ⟨x61, (x62 ++ ([(77 : Int)])), (x63 ++ ([(1000001 : Int)])), y78.1.1, y78.1.2.1, y78.1.2.2, rfl, h⟩
      refine sR T_ok [2, 3, 79, 65536] [0, 1, 2, 3, 4] ⟨[(2, .lf (.ptr 0 0 0 0)), (3, .lf (.ptr 1 0 0 0)), (79, B (y78.2 == (3 : Int))), (65536, .lf (.ptr 4 0 0 0))], [bx [.v (.int .i64) (0 : Int), .nil, .nil] 59, bx [.v (.int .i64) x61, .hd 2 0 none, .hd 3 0 none] 59, ar 0 (.int .i64) x62 .dp, ar 0 (.int .i64) x63 .dp, bx [.v (.sl (.int .u8)) y78.1.1, .v (.int .i64) y78.1.2.1, .v (.int .i64) y78.1.2.2] 160]⟩ (tn 2) ?_
      refine cnd h (fun h => ?_) (fun h => ?_)
      · refine rR T_ok [2, 3, 65536] [0, 1, 3, 4] ⟨[(2, .lf (.ptr 0 0 0 0)), (3, .lf (.ptr 1 0 0 0)), (65536, .lf (.ptr 3 0 0 0))], [bx [.v (.int .i64) (0 : Int), .nil, .nil] 59, bx [.v (.int .i64) x61, .nil, .hd 2 0 none] 59, ar 0 (.int .i64) x63 .dp, bx [.v (.sl (.int .u8)) y78.1.1, .v (.int .i64) y78.1.2.1, .v (.int .i64) y78.1.2.2] 160]⟩ (tn 2) ?_
        exact arv [.nil 1 1 (.int .i64) .dp, .ren [2, 3, 65536] [0, 1, 4, 2, 3]] ⟨x61, [], x63, y78.1.1, y78.1.2.1, y78.1.2.2, rfl, h⟩
      refine VW.skip ?_
      exact arv [.ren [2, 3, 65536] [0, 1, 2, 3, 4]] ⟨x61, x62, x63, y78.1.1, y78.1.2.1, y78.1.2.2, rfl, h⟩
    refine VW.skip ?_
    exact arv [.ren [2, 3, 65536] [1, 2, 3, 4, 0]] ⟨x61, x62, x63, y77.1.1, y77.1.2.1, y77.1.2.2, rfl, h⟩
  rintro s ⟨x70, x71, x72, x73, x74, x75, rfl, h⟩
  unfold F101_j0 at h
  refine sR T_ok [2, 65536] [0, 2, 3, 4] ⟨[(2, .lf (.ptr 0 0 0 0)), (65536, .lf (.ptr 3 0 0 0))], [bx [.v (.int .i64) x70, .hd 1 0 none, .hd 2 0 none] 59, ar 0 (.int .i64) x71 .dp, ar 0 (.int .i64) x72 .dp, bx [.v (.sl (.int .u8)) x73, .v (.int .i64) x74, .v (.int .i64) x75] 160]⟩ (tn 2) ?_
  replace h := Option.some.inj h
  subst h
  refine VW.ghl [.ren [2, 65536] [3, 0, 1, 2]] (VW.ret ?_)
  exact ⟨[some 2, some 3], by kernel_rfl, by kernel_rfl, by kernel_rfl⟩

/- loop.example/g00844/spec.DrawResizeCache -/
def F40 (N : Nat) (a0 : (List Int)) : Option ((Int × ((List Int) × (List Int))) × Int) :=
  andO (F91 N a0) fun y1 => andO (F101 N y1) fun y2 => andO (F95 N y2.1 ([(1 : Int), (2 : Int), (3 : Int), (16 : Int), (17 : Int), (0 : Int)])) fun y3 => some (y2.2, y3.2)
theorem ok40 (N : Nat) (a0 : (List Int)) {r : (Int × ((List Int) × (List Int))) × Int} (h : F40 N a0 = some r) : Con Go.Proofs.Try.prog 40 [.lf (.v (.sl (.int .u8)) a0)] [.agg [.v (.int .i64) r.1.1, .own (.int .i64) r.1.2.1 .dp, .own (.int .i64) r.1.2.2 .dp], .lf (.v (.int .i64) r.2)] := by
  refine ctr [.agg [.v (.int .i64), .own (.int .i64) .dp, .own (.int .i64) .dp], .lf (.v (.int .i64))] T_ok Go.Proofs.Try.func40 rfl fun w0 E0 ht => ?_
  unfold F40 at h
  show VW _ _ _ _ _ (retQ _ _ _ _) _
  refine sR T_ok [0, 2] [0] ⟨[(0, .lf (.v (.sl (.int .u8)) a0)), (2, .lf (.ptr 0 0 0 0))], [bx [.v (.int .i64) (0 : Int), .nil, .nil] 59]⟩ (tn 2) ?_
  refine VW.seq ?_
  refine VW.region ?_
  refine sG T_ok 1 [2, 5] [0] ⟨[(2, .lf (.ptr 0 0 0 0)), (5, .lf (.v (.sl (.int .u8)) a0))], [bx [.v (.int .i64) (0 : Int), .nil, .nil] 59]⟩ (tn 1) ?_
  obtain ⟨y1, hy, h⟩ := andO_some h
  refine VO.callB [.t (.sl (.int .u8))] (d := 6) (by kernel_rfl) (ok91 N _ hy) ?_
  refine sN T_ok [2, 4] [0, 1] ⟨[(2, .lf (.ptr 0 0 0 0)), (4, .lf (.ptr 1 0 0 0))], [bx [.v (.int .i64) (0 : Int), .nil, .nil] 59, bx [.v (.sl (.int .u8)) y1.1, .v (.int .i64) y1.2.1, .v (.int .i64) y1.2.2] 160]⟩ (tn 1) ?_
  refine VW.seq ?_
  refine VW.region ?_
  refine sG T_ok 1 [2, 4, 7] [0, 1] ⟨[(2, .lf (.ptr 0 0 0 0)), (4, .lf (.ptr 1 0 0 0)), (7, .lf (.ptr 1 0 0 0))], [bx [.v (.int .i64) (0 : Int), .nil, .nil] 59, bx [.v (.sl (.int .u8)) y1.1, .v (.int .i64) y1.2.1, .v (.int .i64) y1.2.2] 160]⟩ (tn 1) ?_
  obtain ⟨y2, hy, h⟩ := andO_some h
  refine VO.callM [1] [.r] (d := some 8) (by kernel_rfl) (by kernel_rfl) (ok101 N _ hy) (by kernel_rfl) ?_
  refine sG T_ok 2 [2, 8, 9, 10] [0, 2, 3, 1, 4] ⟨[(2, .lf (.ptr 0 0 0 0)), (8, .agg [.v (.int .i64) y2.2.1, .hd 1 0 none, .hd 2 0 none]), (9, .lf (.ptr 3 0 0 0)), (10, .lf (.hd 4 0 none))], [bx [.v (.int .i64) (0 : Int), .nil, .nil] 59, ar 0 (.int .i64) y2.2.2.1 .dp, ar 0 (.int .i64) y2.2.2.2 .dp, bx [.v (.sl (.int .u8)) y2.1.1, .v (.int .i64) y2.1.2.1, .v (.int .i64) y2.1.2.2] 160, ar 0 (.int .i64) ([(1 : Int), (2 : Int), (3 : Int), (16 : Int), (17 : Int), (0 : Int)]) .dp]⟩ (tn 2) ?_
  obtain ⟨y3, hy, h⟩ := andO_some h
  refine VO.ghl [.frz 4] ?_
  refine VO.callM [3] [.r, .t (.sl (.int .i64))] (d := some 11) (by kernel_rfl) (by kernel_rfl) (ok95 N _ _ hy) (by kernel_rfl) ?_
  refine sN T_ok [2, 3] [0, 1, 2] ⟨[(2, .lf (.ptr 0 0 0 0)), (3, I y3.2)], [bx [.v (.int .i64) y2.2.1, .hd 1 0 none, .hd 2 0 none] 59, ar 0 (.int .i64) y2.2.2.1 .dp, ar 0 (.int .i64) y2.2.2.2 .dp]⟩ (tn 2) ?_
  refine VW.ret ?_
  replace h := Option.some.inj h
  subst h
  exact rt [some 1, some 2]

/- loop.example/g00844/laws.alt -/
def F41_j0 (N : Nat) (x17 : (List Int)) : Option ((List Int)) :=
  some x17
def F41_l0_b (N : Nat) (a0 : (List Int)) (nx30 : (List Int) → Int → Option ((List Int))) (x24 : (List Int)) (x25 : Int) : Option ((List Int)) :=
  cond (decide (x25 < (a0.length : Int))) (cond (decide (x25 < (3000 : Int))) (gd (InR x25 a0.length) (gd (x24.length + ([(a0.getD x25.toNat (Ty.dflt (.int .u8)))]).length ≤ lim (.int .u8)) (nx30 (x24 ++ ([(a0.getD x25.toNat (Ty.dflt (.int .u8)))])) (IntKind.i64.wrap (x25 + (1 : Int)))))) (F41_j0 N x24)) (F41_j0 N x24)
def F41_l0 (N : Nat) (a0 : (List Int)) : Nat → (List Int) → Int → Option ((List Int)) := loopF (F41_l0_b N a0) (fun _ _ => none)
theorem F41_l0_s (N : Nat) (a0 : (List Int)) {k : Nat} (hk : 0 < k) (x24 : (List Int)) (x25 : Int) : F41_l0 N a0 k x24 x25 = F41_l0_b N a0 (F41_l0 N a0 (k - 1)) x24 x25 := by
  cases k with
  | zero => exact absurd hk (Nat.lt_irrefl 0)
  | succ m => rfl
def F41 (N : Nat) (a0 : (List Int)) (a1 : Int) : Option ((List Int)) :=
  F41_l0 N a0 N ([(IntKind.u8.wrap a1)]) (0 : Int)
theorem ok41 (N : Nat) (a0 : (List Int)) (a1 : Int) {r : (List Int)} (h : F41 N a0 a1 = some r) : Con Go.Proofs.Try.prog 41 [.lf (.v (.sl (.int .u8)) a0), I a1] [.lf (.own (.int .u8) r .dp)] := by
  refine ctr [.lf (.own (.int .u8) .dp)] T_ok Go.Proofs.Try.func41 rfl fun w0 E0 ht => ?_
  unfold F41 at h
  show VW _ _ _ _ _ (retQ _ _ _ _) _
  refine sR T_ok [0, 1] [] ⟨[(0, .lf (.v (.sl (.int .u8)) a0)), (1, I a1)], []⟩ (tn 1) ?_
  refine sR T_ok [0, 5] [0] ⟨[(0, .lf (.v (.sl (.int .u8)) a0)), (5, .lf (.hd 0 0 none))], [ar 0 (.int .u8) ([(IntKind.u8.wrap a1)]) .dp]⟩ (tn 4) ?_
  refine VW.join (fun s => ∃ (x17 : (List Int)), s = ⟨[(5, .lf (.hd 0 0 none))], [ar 0 (.int .u8) x17 .dp]⟩ ∧ F41_j0 N x17 = some r) ?_ ?_
  · refine sR T_ok [0, 5, 6] [0] ⟨[(0, .lf (.v (.sl (.int .u8)) a0)), (5, .lf (.hd 0 0 none)), (6, I (0 : Int))], [ar 0 (.int .u8) ([(IntKind.u8.wrap a1)]) .dp]⟩ (tn 1) ?_
    refine VW.block ?_
    refine lop (fun k s => ∃ (x24 : (List Int)) (x25 : Int), s = ⟨[(0, .lf (.v (.sl (.int .u8)) a0)), (5, .lf (.hd 0 0 none)), (6, I x25)], [ar 0 (.int .u8) x24 .dp]⟩ ∧ F41_l0 N a0 k x24 x25 = some r) N [.ren [0, 5, 6] [0]] ⟨[(IntKind.u8.wrap a1)], (0 : Int), rfl, h⟩ ?_
    rintro k30 s ⟨x24, x25, rfl, h⟩
    cases k30 with
    | zero => cases show none = some r from h
    | succ k30 =>
      replace h : F41_l0_b N a0 (F41_l0 N a0 k30) x24 x25 = some r := h
      unfold F41_l0_b at h
      refine VW.seq ?_
      refine VW.seq ?_
      refine VW.region ?_
      refine sG T_ok 5 [0, 5, 6, 14] [0] ⟨[(0, .lf (.v (.sl (.int .u8)) a0)), (5, .lf (.hd 0 0 none)), (6, I x25), (14, B (decide (x25 < (a0.length : Int))))], [ar 0 (.int .u8) x24 .dp]⟩ (tn 5) ?_
      refine spB 14 h (fun h => ?_) (fun h => ?_)
      · refine sN T_ok [0, 5, 6, 17] [0] ⟨[(0, .lf (.v (.sl (.int .u8)) a0)), (5, .lf (.hd 0 0 none)), (6, I x25), (17, B (decide (x25 < (3000 : Int))))], [ar 0 (.int .u8) x24 .dp]⟩ (tn 3) ?_
        refine cnd h (fun h => ?_) (fun h => ?_)
        · refine VW.skip ?_
          refine VW.seq ?_
          refine VW.block ?_
          obtain ⟨g33, h⟩ := gd_some h
          obtain ⟨g34, h⟩ := gd_some h
          refine rR T_ok [0, 5, 6] [0] ⟨[(0, .lf (.v (.sl (.int .u8)) a0)), (5, .lf (.hd 0 0 none)), (6, I x25)], [ar 0 (.int .u8) (x24 ++ ([(a0.getD x25.toNat (Ty.dflt (.int .u8)))])) .dp]⟩ (pu 3 (an g33 (pu 2 (an g34 (tn 1))))) ?_
          refine rR T_ok [0, 5, 6] [0] ⟨[(0, .lf (.v (.sl (.int .u8)) a0)), (5, .lf (.hd 0 0 none)), (6, I (IntKind.i64.wrap (x25 + (1 : Int))))], [ar 0 (.int .u8) (x24 ++ ([(a0.getD x25.toNat (Ty.dflt (.int .u8)))])) .dp]⟩ (tn 3) ?_
          exact aro [.ren [0, 5, 6] [0]] ⟨(x24 ++ ([(a0.getD x25.toNat (Ty.dflt (.int .u8)))])), (IntKind.i64.wrap (x25 + (1 : Int))), rfl, h⟩
        refine VW.exit ?_
        exact arv [.ren [5] [0]] ⟨x24, rfl, h⟩
      refine sN T_ok [0, 5, 6, 17] [0] ⟨[(0, .lf (.v (.sl (.int .u8)) a0)), (5, .lf (.hd 0 0 none)), (6, I x25), (17, B false)], [ar 0 (.int .u8) x24 .dp]⟩ (tn 3) ?_
      refine VW.cond (b := false) (by kernel_rfl) (fun h' => nomatch h') (fun _ => ?_)
      refine VW.exit ?_
      exact arv [.ren [5] [0]] ⟨x24, rfl, h⟩
  rintro s ⟨x17, rfl, h⟩
  unfold F41_j0 at h
  refine sR T_ok [4] [0] ⟨[(4, .lf (.hd 0 0 none))], [ar 0 (.int .u8) x17 .dp]⟩ (tn 2) ?_
  refine VW.ret ?_
  replace h := Option.some.inj h
  subst h
  exact rt [some 0]

/- loop.example/g00844/impl.ResizeCache -/
def F42 (N : Nat) (a0 : (Int × ((List Int) × (List Int)))) (a1 : Int) : Option ((Int × ((List Int) × (List Int))) × Bool) :=
  andO (F102 N a0) fun y1 => andO (F103 N a0) fun y4 => cond (!y4) (some (y1, false)) (andO (F75 N a1) fun y5 => cond (!y5) (some (y1, false)) (gd (0 ≤ (if ((y1.2.1.length : Int) : Int) < a1 then (y1.2.1.length : Int) else a1) ∧ (if ((y1.2.1.length : Int) : Int) < a1 then (y1.2.1.length : Int) else a1) ≤ (y1.2.1.length : Int)) (gd (0 ≤ (if ((y1.2.1.length : Int) : Int) < a1 then (y1.2.1.length : Int) else a1) ∧ (if ((y1.2.1.length : Int) : Int) < a1 then (y1.2.1.length : Int) else a1) ≤ (y1.2.2.length : Int)) (some ((a1, ((y1.2.1.take ((if ((y1.2.1.length : Int) : Int) < a1 then (y1.2.1.length : Int) else a1).toNat)), (y1.2.2.take ((if ((y1.2.1.length : Int) : Int) < a1 then (y1.2.1.length : Int) else a1).toNat)))), true)))))
theorem ok42 (N : Nat) (a0 : (Int × ((List Int) × (List Int)))) (a1 : Int) {r : (Int × ((List Int) × (List Int))) × Bool} (h : F42 N a0 a1 = some r) : Con Go.Proofs.Try.prog 42 [.agg [.v (.int .i64) a0.1, .v (.sl (.int .i64)) a0.2.1, .v (.sl (.int .i64)) a0.2.2], I a1] [.agg [.v (.int .i64) r.1.1, .own (.int .i64) r.1.2.1 .dp, .own (.int .i64) r.1.2.2 .dp], .lf (.v .bool r.2)] := by
  refine ctr [.agg [.v (.int .i64), .own (.int .i64) .dp, .own (.int .i64) .dp], .lf (.v .bool)] T_ok Go.Proofs.Try.func42 rfl fun w0 E0 ht => ?_
  unfold F42 at h
  show VW _ _ _ _ _ (retQ _ _ _ _) _
  refine sR T_ok [1, 2, 4] [0, 1] ⟨[(1, I a1), (2, .lf (.ptr 0 0 0 0)), (4, .lf (.ptr 1 0 0 0))], [bx [.v (.int .i64) a0.1, .v (.sl (.int .i64)) a0.2.1, .v (.sl (.int .i64)) a0.2.2] 59, bx [.v (.int .i64) (0 : Int), .nil, .nil] 59]⟩ (tn 3) ?_
  refine VW.seq ?_
  refine VW.region ?_
  refine sG T_ok 1 [1, 2, 4, 8] [0, 1] ⟨[(1, I a1), (2, .lf (.ptr 0 0 0 0)), (4, .lf (.ptr 1 0 0 0)), (8, .agg [.v (.int .i64) a0.1, .v (.sl (.int .i64)) a0.2.1, .v (.sl (.int .i64)) a0.2.2])], [bx [.v (.int .i64) a0.1, .v (.sl (.int .i64)) a0.2.1, .v (.sl (.int .i64)) a0.2.2] 59, bx [.v (.int .i64) (0 : Int), .nil, .nil] 59]⟩ (tn 1) ?_
  obtain ⟨y1, hy, h⟩ := andO_some h
  refine cal false [.t Y58] [] (some 9) T_ok (ok102 N _ hy) ?_
  refine sN T_ok [1, 2, 4, 6] [0, 1, 4, 2, 3] ⟨[(1, I a1), (2, .lf (.ptr 0 0 0 0)), (4, .lf (.ptr 1 0 0 0)), (6, .lf (.ptr 2 0 0 0))], [bx [.v (.int .i64) a0.1, .v (.sl (.int .i64)) a0.2.1, .v (.sl (.int .i64)) a0.2.2] 59, bx [.v (.int .i64) (0 : Int), .nil, .nil] 59, bx [.v (.int .i64) y1.1, .hd 3 0 none, .hd 4 0 none] 59, ar 0 (.int .i64) y1.2.1 .dp, ar 0 (.int .i64) y1.2.2 .dp]⟩ (tn 2) ?_
  refine VW.seq ?_
  refine VW.seq ?_
  refine VW.region ?_
  refine sG T_ok 1 [1, 4, 6, 10] [1, 2, 3, 4] ⟨[(1, I a1), (4, .lf (.ptr 0 0 0 0)), (6, .lf (.ptr 1 0 0 0)), (10, .agg [.v (.int .i64) a0.1, .v (.sl (.int .i64)) a0.2.1, .v (.sl (.int .i64)) a0.2.2])], [bx [.v (.int .i64) (0 : Int), .nil, .nil] 59, bx [.v (.int .i64) y1.1, .hd 2 0 none, .hd 3 0 none] 59, ar 0 (.int .i64) y1.2.1 .dp, ar 0 (.int .i64) y1.2.2 .dp]⟩ (tn 1) ?_
  obtain ⟨y4, hy, h⟩ := andO_some h
  refine cal false [.t Y58] [] (some 11) T_ok (ok103 N _ hy) ?_
  refine sG T_ok 2 [1, 4, 6, 13] [0, 1, 2, 3] ⟨[(1, I a1), (4, .lf (.ptr 0 0 0 0)), (6, .lf (.ptr 1 0 0 0)), (13, B (!y4))], [bx [.v (.int .i64) (0 : Int), .nil, .nil] 59, bx [.v (.int .i64) y1.1, .hd 2 0 none, .hd 3 0 none] 59, ar 0 (.int .i64) y1.2.1 .dp, ar 0 (.int .i64) y1.2.2 .dp]⟩ (tn 2) ?_
  refine spB 13 h (fun h => ?_) (fun h => ?_)
  · refine sN T_ok [1, 4, 6, 17] [0, 1, 2, 3] ⟨[(1, I a1), (4, .lf (.ptr 0 0 0 0)), (6, .lf (.ptr 1 0 0 0)), (17, B true)], [bx [.v (.int .i64) (0 : Int), .nil, .nil] 59, bx [.v (.int .i64) y1.1, .hd 2 0 none, .hd 3 0 none] 59, ar 0 (.int .i64) y1.2.1 .dp, ar 0 (.int .i64) y1.2.2 .dp]⟩ (tn 4) ?_
    refine VW.cond (b := true) (by kernel_rfl) (fun _ => ?_) (fun h' => nomatch h')
    refine sR T_ok [4, 5] [0, 2, 3] ⟨[(4, .lf (.ptr 0 0 0 0)), (5, B false)], [bx [.v (.int .i64) y1.1, .hd 1 0 none, .hd 2 0 none] 59, ar 0 (.int .i64) y1.2.1 .dp, ar 0 (.int .i64) y1.2.2 .dp]⟩ (tn 3) ?_
    refine VW.ret ?_
    replace h := Option.some.inj h
    subst h
    exact rt [some 1, some 2]
  refine sG T_ok 1 [1, 4, 6, 13, 14] [0, 1, 2, 3] ⟨[(1, I a1), (4, .lf (.ptr 0 0 0 0)), (6, .lf (.ptr 1 0 0 0)), (13, B false), (14, I a1)], [bx [.v (.int .i64) (0 : Int), .nil, .nil] 59, bx [.v (.int .i64) y1.1, .hd 2 0 none, .hd 3 0 none] 59, ar 0 (.int .i64) y1.2.1 .dp, ar 0 (.int .i64) y1.2.2 .dp]⟩ (tn 1) ?_
  refine VO.on (j := 3) (want := false) (d := 13) (b := false) rfl rfl rfl (by kernel_rfl) rfl ?_
  obtain ⟨y5, hy, h⟩ := andO_some h
  refine cal false [.t (.int .i64)] [] (some 15) T_ok (ok75 N _ hy) ?_
  refine sN T_ok [1, 4, 6, 17] [0, 1, 2, 3] ⟨[(1, I a1), (4, .lf (.ptr 0 0 0 0)), (6, .lf (.ptr 1 0 0 0)), (17, B (!y5))], [bx [.v (.int .i64) (0 : Int), .nil, .nil] 59, bx [.v (.int .i64) y1.1, .hd 2 0 none, .hd 3 0 none] 59, ar 0 (.int .i64) y1.2.1 .dp, ar 0 (.int .i64) y1.2.2 .dp]⟩ (tn 2) ?_
  refine cnd h (fun h => ?_) (fun h => ?_)
  · refine sR T_ok [4, 5] [0, 2, 3] ⟨[(4, .lf (.ptr 0 0 0 0)), (5, B false)], [bx [.v (.int .i64) y1.1, .hd 1 0 none, .hd 2 0 none] 59, ar 0 (.int .i64) y1.2.1 .dp, ar 0 (.int .i64) y1.2.2 .dp]⟩ (tn 3) ?_
    refine VW.ret ?_
    replace h := Option.some.inj h
    subst h
    exact rt [some 1, some 2]
  refine VW.skip ?_
  refine sR T_ok [1, 4, 6] [0, 1, 2, 3] ⟨[(1, I a1), (4, .lf (.ptr 0 0 0 0)), (6, .lf (.ptr 1 0 0 0))], [bx [.v (.int .i64) (0 : Int), .nil, .nil] 59, bx [.v (.int .i64) a1, .hd 2 0 none, .hd 3 0 none] 59, ar 0 (.int .i64) y1.2.1 .dp, ar 0 (.int .i64) y1.2.2 .dp]⟩ (tn 3) ?_
  refine sR T_ok [4, 6, 7] [0, 1, 2, 3] ⟨[(4, .lf (.ptr 0 0 0 0)), (6, .lf (.ptr 1 0 0 0)), (7, I (if ((y1.2.1.length : Int) : Int) < a1 then (y1.2.1.length : Int) else a1))], [bx [.v (.int .i64) (0 : Int), .nil, .nil] 59, bx [.v (.int .i64) a1, .hd 2 0 none, .hd 3 0 none] 59, ar 0 (.int .i64) y1.2.1 .dp, ar 0 (.int .i64) y1.2.2 .dp]⟩ (tn 6) ?_
  obtain ⟨g6, h⟩ := gd_some h
  refine sR T_ok [4, 6, 7] [0, 1, 2, 3] ⟨[(4, .lf (.ptr 0 0 0 0)), (6, .lf (.ptr 1 0 0 0)), (7, I (if ((y1.2.1.length : Int) : Int) < a1 then (y1.2.1.length : Int) else a1))], [bx [.v (.int .i64) (0 : Int), .nil, .nil] 59, bx [.v (.int .i64) a1, .hd 2 0 (some (0, (if ((y1.2.1.length : Int) : Int) < a1 then (y1.2.1.length : Int) else a1).toNat)), .hd 3 0 none] 59, ar 0 (.int .i64) y1.2.1 .dp, ar 0 (.int .i64) y1.2.2 .dp]⟩ (pu 3 (an g6 (tn 2))) ?_
  obtain ⟨g7, h⟩ := gd_some h
  refine sR T_ok [4, 6] [0, 1, 2, 3] ⟨[(4, .lf (.ptr 0 0 0 0)), (6, .lf (.ptr 1 0 0 0))], [bx [.v (.int .i64) (0 : Int), .nil, .nil] 59, bx [.v (.int .i64) a1, .hd 2 0 (some (0, (if ((y1.2.1.length : Int) : Int) < a1 then (y1.2.1.length : Int) else a1).toNat)), .hd 3 0 (some (0, (if ((y1.2.1.length : Int) : Int) < a1 then (y1.2.1.length : Int) else a1).toNat))] 59, ar 0 (.int .i64) y1.2.1 .dp, ar 0 (.int .i64) y1.2.2 .dp]⟩ (pu 3 (an g7 (tn 2))) ?_
  refine sR T_ok [4, 5] [0, 2, 3] ⟨[(4, .lf (.ptr 0 0 0 0)), (5, B true)], [bx [.v (.int .i64) a1, .hd 1 0 (some (0, (if ((y1.2.1.length : Int) : Int) < a1 then (y1.2.1.length : Int) else a1).toNat)), .hd 2 0 (some (0, (if ((y1.2.1.length : Int) : Int) < a1 then (y1.2.1.length : Int) else a1).toNat))] 59, ar 0 (.int .i64) y1.2.1 .dp, ar 0 (.int .i64) y1.2.2 .dp]⟩ (tn 3) ?_
  replace h := Option.some.inj h
  subst h
  refine VW.ghl [.shrB 0 1, .shrB 0 2] (VW.ret ?_)
  exact rt [some 1, some 2]

/- loop.example/g00844/spec.ResizeCache -/
def F43_j0 (N : Nat) (a1 : Int) (x8 : (List Int)) (x9 : (List Int)) : Option ((Int × ((List Int) × (List Int))) × Bool) :=
  some ((a1, (x8, x9)), true)
def F43 (N : Nat) (a0 : (Int × ((List Int) × (List Int)))) (a1 : Int) : Option ((Int × ((List Int) × (List Int))) × Bool) :=
  andO (F104 N a0) fun y1 => andO (F105 N a0) fun y4 => cond (!y4) (some (y1, false)) (andO (F71 N a1 (1 : Int) (16 : Int)) fun y5 => cond (!y5) (some (y1, false)) (cond (decide ((y1.2.1.length : Int) > a1)) (gd (0 ≤ a1 ∧ a1 ≤ (y1.2.1.length : Int)) (gd (0 ≤ a1 ∧ a1 ≤ (y1.2.2.length : Int)) (F43_j0 N a1 (y1.2.1.take a1.toNat) (y1.2.2.take a1.toNat)))) (F43_j0 N a1 y1.2.1 y1.2.2)))
theorem ok43 (N : Nat) (a0 : (Int × ((List Int) × (List Int)))) (a1 : Int) {r : (Int × ((List Int) × (List Int))) × Bool} (h : F43 N a0 a1 = some r) : Con Go.Proofs.Try.prog 43 [.agg [.v (.int .i64) a0.1, .v (.sl (.int .i64)) a0.2.1, .v (.sl (.int .i64)) a0.2.2], I a1] [.agg [.v (.int .i64) r.1.1, .own (.int .i64) r.1.2.1 .dp, .own (.int .i64) r.1.2.2 .dp], .lf (.v .bool r.2)] := by
  refine ctr [.agg [.v (.int .i64), .own (.int .i64) .dp, .own (.int .i64) .dp], .lf (.v .bool)] T_ok Go.Proofs.Try.func43 rfl fun w0 E0 ht => ?_
  unfold F43 at h
  show VW _ _ _ _ _ (retQ _ _ _ _) _
  refine sR T_ok [1, 2, 4] [0, 1] ⟨[(1, I a1), (2, .lf (.ptr 0 0 0 0)), (4, .lf (.ptr 1 0 0 0))], [bx [.v (.int .i64) a0.1, .v (.sl (.int .i64)) a0.2.1, .v (.sl (.int .i64)) a0.2.2] 59, bx [.v (.int .i64) (0 : Int), .nil, .nil] 59]⟩ (tn 3) ?_
  refine VW.seq ?_
  refine VW.region ?_
  refine sG T_ok 1 [1, 2, 4, 7] [0, 1] ⟨[(1, I a1), (2, .lf (.ptr 0 0 0 0)), (4, .lf (.ptr 1 0 0 0)), (7, .agg [.v (.int .i64) a0.1, .v (.sl (.int .i64)) a0.2.1, .v (.sl (.int .i64)) a0.2.2])], [bx [.v (.int .i64) a0.1, .v (.sl (.int .i64)) a0.2.1, .v (.sl (.int .i64)) a0.2.2] 59, bx [.v (.int .i64) (0 : Int), .nil, .nil] 59]⟩ (tn 1) ?_
  obtain ⟨y1, hy, h⟩ := andO_some h
  refine cal false [.t Y58] [] (some 8) T_ok (ok104 N _ hy) ?_
  refine sN T_ok [1, 2, 4, 6] [0, 1, 4, 2, 3] ⟨[(1, I a1), (2, .lf (.ptr 0 0 0 0)), (4, .lf (.ptr 1 0 0 0)), (6, .lf (.ptr 2 0 0 0))], [bx [.v (.int .i64) a0.1, .v (.sl (.int .i64)) a0.2.1, .v (.sl (.int .i64)) a0.2.2] 59, bx [.v (.int .i64) (0 : Int), .nil, .nil] 59, bx [.v (.int .i64) y1.1, .hd 3 0 none, .hd 4 0 none] 59, ar 0 (.int .i64) y1.2.1 .dp, ar 0 (.int .i64) y1.2.2 .dp]⟩ (tn 2) ?_
  refine VW.seq ?_
  refine VW.seq ?_
  refine VW.region ?_
  refine sG T_ok 1 [1, 4, 6, 9] [1, 2, 3, 4] ⟨[(1, I a1), (4, .lf (.ptr 0 0 0 0)), (6, .lf (.ptr 1 0 0 0)), (9, .agg [.v (.int .i64) a0.1, .v (.sl (.int .i64)) a0.2.1, .v (.sl (.int .i64)) a0.2.2])], [bx [.v (.int .i64) (0 : Int), .nil, .nil] 59, bx [.v (.int .i64) y1.1, .hd 2 0 none, .hd 3 0 none] 59, ar 0 (.int .i64) y1.2.1 .dp, ar 0 (.int .i64) y1.2.2 .dp]⟩ (tn 1) ?_
  obtain ⟨y4, hy, h⟩ := andO_some h
  refine cal false [.t Y58] [] (some 10) T_ok (ok105 N _ hy) ?_
  refine sG T_ok 2 [1, 4, 6, 12] [0, 1, 2, 3] ⟨[(1, I a1), (4, .lf (.ptr 0 0 0 0)), (6, .lf (.ptr 1 0 0 0)), (12, B (!y4))], [bx [.v (.int .i64) (0 : Int), .nil, .nil] 59, bx [.v (.int .i64) y1.1, .hd 2 0 none, .hd 3 0 none] 59, ar 0 (.int .i64) y1.2.1 .dp, ar 0 (.int .i64) y1.2.2 .dp]⟩ (tn 2) ?_
  refine spB 12 h (fun h => ?_) (fun h => ?_)
  · refine sN T_ok [1, 4, 6, 16] [0, 1, 2, 3] ⟨[(1, I a1), (4, .lf (.ptr 0 0 0 0)), (6, .lf (.ptr 1 0 0 0)), (16, B true)], [bx [.v (.int .i64) (0 : Int), .nil, .nil] 59, bx [.v (.int .i64) y1.1, .hd 2 0 none, .hd 3 0 none] 59, ar 0 (.int .i64) y1.2.1 .dp, ar 0 (.int .i64) y1.2.2 .dp]⟩ (tn 4) ?_
    refine VW.cond (b := true) (by kernel_rfl) (fun _ => ?_) (fun h' => nomatch h')
    refine sR T_ok [4, 5] [0, 2, 3] ⟨[(4, .lf (.ptr 0 0 0 0)), (5, B false)], [bx [.v (.int .i64) y1.1, .hd 1 0 none, .hd 2 0 none] 59, ar 0 (.int .i64) y1.2.1 .dp, ar 0 (.int .i64) y1.2.2 .dp]⟩ (tn 3) ?_
    refine VW.ret ?_
    replace h := Option.some.inj h
    subst h
    exact rt [some 1, some 2]
  refine sG T_ok 1 [1, 4, 6, 12, 13] [0, 1, 2, 3] ⟨[(1, I a1), (4, .lf (.ptr 0 0 0 0)), (6, .lf (.ptr 1 0 0 0)), (12, B false), (13, I a1)], [bx [.v (.int .i64) (0 : Int), .nil, .nil] 59, bx [.v (.int .i64) y1.1, .hd 2 0 none, .hd 3 0 none] 59, ar 0 (.int .i64) y1.2.1 .dp, ar 0 (.int .i64) y1.2.2 .dp]⟩ (tn 1) ?_
  refine VO.on (j := 3) (want := false) (d := 12) (b := false) rfl rfl rfl (by kernel_rfl) rfl ?_
  obtain ⟨y5, hy, h⟩ := andO_some h
  refine cal false [.t (.int .i64), .t (.int .i64), .t (.int .i64)] [] (some 14) T_ok (ok71 N _ _ _ hy) ?_
  refine sN T_ok [1, 4, 6, 16] [0, 1, 2, 3] ⟨[(1, I a1), (4, .lf (.ptr 0 0 0 0)), (6, .lf (.ptr 1 0 0 0)), (16, B (!y5))], [bx [.v (.int .i64) (0 : Int), .nil, .nil] 59, bx [.v (.int .i64) y1.1, .hd 2 0 none, .hd 3 0 none] 59, ar 0 (.int .i64) y1.2.1 .dp, ar 0 (.int .i64) y1.2.2 .dp]⟩ (tn 2) ?_
  refine cnd h (fun h => ?_) (fun h => ?_)
  · refine sR T_ok [4, 5] [0, 2, 3] ⟨[(4, .lf (.ptr 0 0 0 0)), (5, B false)], [bx [.v (.int .i64) y1.1, .hd 1 0 none, .hd 2 0 none] 59, ar 0 (.int .i64) y1.2.1 .dp, ar 0 (.int .i64) y1.2.2 .dp]⟩ (tn 3) ?_
    refine VW.ret ?_
    replace h := Option.some.inj h
    subst h
    exact rt [some 1, some 2]
  refine VW.skip ?_
  refine sR T_ok [1, 4, 6] [0, 1, 2, 3] ⟨[(1, I a1), (4, .lf (.ptr 0 0 0 0)), (6, .lf (.ptr 1 0 0 0))], [bx [.v (.int .i64) (0 : Int), .nil, .nil] 59, bx [.v (.int .i64) a1, .hd 2 0 none, .hd 3 0 none] 59, ar 0 (.int .i64) y1.2.1 .dp, ar 0 (.int .i64) y1.2.2 .dp]⟩ (tn 3) ?_
  refine VW.join (fun s => ∃ (x8 : (List Int)) (x9 : (List Int)), s = ⟨[(4, .lf (.ptr 0 0 0 0)), (6, .lf (.ptr 1 0 0 0))], [bx [.v (.int .i64) (0 : Int), .nil, .nil] 59, bx [.v (.int .i64) a1, .hd 2 0 none, .hd 3 0 none] 59, ar 0 (.int .i64) x8 .dp, ar 0 (.int .i64) x9 .dp]⟩ ∧ F43_j0 N a1 x8 x9 = some r) ?_ ?_
  · refine sR T_ok [1, 4, 6, 24] [0, 1, 2, 3] ⟨[(1, I a1), (4, .lf (.ptr 0 0 0 0)), (6, .lf (.ptr 1 0 0 0)), (24, B (decide ((y1.2.1.length : Int) > a1)))], [bx [.v (.int .i64) (0 : Int), .nil, .nil] 59, bx [.v (.int .i64) a1, .hd 2 0 none, .hd 3 0 none] 59, ar 0 (.int .i64) y1.2.1 .dp, ar 0 (.int .i64) y1.2.2 .dp]⟩ (tn 5) ?_
    refine cnd h (fun h => ?_) (fun h => ?_)
    · obtain ⟨g11, h⟩ := gd_some h
      refine sR T_ok [1, 4, 6] [0, 1, 2, 3] ⟨[(1, I a1), (4, .lf (.ptr 0 0 0 0)), (6, .lf (.ptr 1 0 0 0))], [bx [.v (.int .i64) (0 : Int), .nil, .nil] 59, bx [.v (.int .i64) a1, .hd 2 0 (some (0, a1.toNat)), .hd 3 0 none] 59, ar 0 (.int .i64) y1.2.1 .dp, ar 0 (.int .i64) y1.2.2 .dp]⟩ (pu 3 (an g11 (tn 2))) ?_
      obtain ⟨g12, h⟩ := gd_some h
      refine rR T_ok [4, 6] [0, 1, 2, 3] ⟨[(4, .lf (.ptr 0 0 0 0)), (6, .lf (.ptr 1 0 0 0))], [bx [.v (.int .i64) (0 : Int), .nil, .nil] 59, bx [.v (.int .i64) a1, .hd 2 0 (some (0, a1.toNat)), .hd 3 0 (some (0, a1.toNat))] 59, ar 0 (.int .i64) y1.2.1 .dp, ar 0 (.int .i64) y1.2.2 .dp]⟩ (pu 3 (an g12 (tn 2))) ?_
      exact arv [.shrB 1 1, .shrB 1 2, .ren [4, 6] [0, 1, 2, 3]] ⟨(y1.2.1.take a1.toNat), (y1.2.2.take a1.toNat), rfl, h⟩
    refine VW.skip ?_
    exact arv [.ren [4, 6] [0, 1, 2, 3]] ⟨y1.2.1, y1.2.2, rfl, h⟩
  rintro s ⟨x8, x9, rfl, h⟩
  unfold F43_j0 at h
  refine sR T_ok [4, 5] [0, 2, 3] ⟨[(4, .lf (.ptr 0 0 0 0)), (5, B true)], [bx [.v (.int .i64) a1, .hd 1 0 none, .hd 2 0 none] 59, ar 0 (.int .i64) x8 .dp, ar 0 (.int .i64) x9 .dp]⟩ (tn 3) ?_
  refine VW.ret ?_
  replace h := Option.some.inj h
  subst h
  exact rt [some 1, some 2]

/- loop.example/g00844/laws.same -/
def F44_j0 (N : Nat) : Option (Bool) :=
  some true
def F44_l0_b (N : Nat) (a0 : (List Int)) (a1 : (List Int)) (nx25 : Int → Option (Bool)) (x20 : Int) : Option (Bool) :=
  cond (decide (x20 < (a0.length : Int))) (gd (InR x20 a0.length) (gd (InR x20 a1.length) (cond ((a0.getD x20.toNat (Ty.dflt (.int .i64))) != (a1.getD x20.toNat (Ty.dflt (.int .i64)))) (some false) (nx25 (IntKind.i64.wrap (x20 + (1 : Int))))))) (F44_j0 N)
def F44_l0 (N : Nat) (a0 : (List Int)) (a1 : (List Int)) : Nat → Int → Option (Bool) := loopF (F44_l0_b N a0 a1) (fun _ => none)
theorem F44_l0_s (N : Nat) (a0 : (List Int)) (a1 : (List Int)) {k : Nat} (hk : 0 < k) (x20 : Int) : F44_l0 N a0 a1 k x20 = F44_l0_b N a0 a1 (F44_l0 N a0 a1 (k - 1)) x20 := by
  cases k with
  | zero => exact absurd hk (Nat.lt_irrefl 0)
  | succ m => rfl
def F44 (N : Nat) (a0 : (List Int)) (a1 : (List Int)) : Option (Bool) :=
  cond ((a0.length : Int) != (a1.length : Int)) (some false) (F44_l0 N a0 a1 N (0 : Int))
theorem ok44 (N : Nat) (a0 : (List Int)) (a1 : (List Int)) {r : Bool} (h : F44 N a0 a1 = some r) : Con Go.Proofs.Try.prog 44 [.lf (.v (.sl (.int .i64)) a0), .lf (.v (.sl (.int .i64)) a1)] [.lf (.v .bool r)] := by
  refine ctr [.lf (.v .bool)] T_ok Go.Proofs.Try.func44 rfl fun w0 E0 ht => ?_
  unfold F44 at h
  show VW _ _ _ _ _ (retQ _ _ _ _) _
  refine sR T_ok [0, 1] [] ⟨[(0, .lf (.v (.sl (.int .i64)) a0)), (1, .lf (.v (.sl (.int .i64)) a1))], []⟩ (tn 1) ?_
  refine VW.seq ?_
  refine sR T_ok [0, 1, 10] [] ⟨[(0, .lf (.v (.sl (.int .i64)) a0)), (1, .lf (.v (.sl (.int .i64)) a1)), (10, B ((a0.length : Int) != (a1.length : Int)))], []⟩ (tn 5) ?_
  refine cnd h (fun h => ?_) (fun h => ?_)
  · refine sR T_ok [4] [] ⟨[(4, B false)], []⟩ (tn 1) ?_
    refine VW.ret ?_
    replace h := Option.some.inj h
    subst h
    exact rt []
  refine VW.skip ?_
  refine VW.join (fun s => s = ⟨[], []⟩ ∧ F44_j0 N = some r) ?_ ?_
  · refine sR T_ok [0, 1, 5] [] ⟨[(0, .lf (.v (.sl (.int .i64)) a0)), (1, .lf (.v (.sl (.int .i64)) a1)), (5, I (0 : Int))], []⟩ (tn 1) ?_
    refine VW.block ?_
    refine lop (fun k s => ∃ (x20 : Int), s = ⟨[(0, .lf (.v (.sl (.int .i64)) a0)), (1, .lf (.v (.sl (.int .i64)) a1)), (5, I x20)], []⟩ ∧ F44_l0 N a0 a1 k x20 = some r) N [.ren [0, 1, 5] []] ⟨(0 : Int), rfl, h⟩ ?_
    rintro k25 s ⟨x20, rfl, h⟩
    cases k25 with
    | zero => cases show none = some r from h
    | succ k25 =>
      replace h : F44_l0_b N a0 a1 (F44_l0 N a0 a1 k25) x20 = some r := h
      unfold F44_l0_b at h
      refine VW.seq ?_
      refine sR T_ok [0, 1, 5, 14] [] ⟨[(0, .lf (.v (.sl (.int .i64)) a0)), (1, .lf (.v (.sl (.int .i64)) a1)), (5, I x20), (14, B (decide (x20 < (a0.length : Int))))], []⟩ (tn 4) ?_
      refine cnd h (fun h => ?_) (fun h => ?_)
      · refine VW.skip ?_
        refine VW.seq ?_
        refine VW.block ?_
        refine VW.seq ?_
        obtain ⟨g28, h⟩ := gd_some h
        obtain ⟨g29, h⟩ := gd_some h
        refine VW.drawn (by kernel_rfl) [some (17, .lf (.v (.sl (.int .i64)) a0)), some (18, I x20), some (19, .lf (.fp (.int .i64) (a0.getD x20.toNat (Ty.dflt (.int .i64))) 0)), some (20, I (a0.getD x20.toNat (Ty.dflt (.int .i64)))), some (21, .lf (.v (.sl (.int .i64)) a1)), some (22, I x20), some (23, .lf (.fp (.int .i64) (a1.getD x20.toNat (Ty.dflt (.int .i64))) 0)), some (24, I (a1.getD x20.toNat (Ty.dflt (.int .i64)))), some (25, B ((a0.getD x20.toNat (Ty.dflt (.int .i64))) != (a1.getD x20.toNat (Ty.dflt (.int .i64)))))] [] [[]] [(0, 0), (1, 0), (2, 0), (3, 0), (4, 0), (5, 0), (6, 0), (7, 0), (8, 0)] [0, 1, 5, 25] [] (s' := ⟨[(0, .lf (.v (.sl (.int .i64)) a0)), (1, .lf (.v (.sl (.int .i64)) a1)), (5, I x20), (25, B ((a0.getD x20.toNat (Ty.dflt (.int .i64))) != (a1.getD x20.toNat (Ty.dflt (.int .i64)))))], []⟩) (by kernel_rfl) (by kernel_rfl) ⟨⟨_, rfl, Stp.ev T_ok (m := .dp) (φ := True) (by kernel_rfl) trivial⟩,
    ⟨_, rfl, Stp.ev T_ok (m := .dp) (φ := True) (by kernel_rfl) trivial⟩,
    ⟨_, rfl, Stp.ev T_ok (m := .dp) (φ := InR x20 a0.length) (by kernel_rfl) g28⟩,
    ⟨_, rfl, Stp.ev T_ok (m := .dp) (φ := True) (by kernel_rfl) trivial⟩,
    ⟨_, rfl, Stp.ev T_ok (m := .dp) (φ := True) (by kernel_rfl) trivial⟩,
    ⟨_, rfl, Stp.ev T_ok (m := .dp) (φ := True) (by kernel_rfl) trivial⟩,
    ⟨_, rfl, Stp.ev T_ok (m := .dp) (φ := InR x20 a1.length) (by kernel_rfl) g29⟩,
    ⟨_, rfl, Stp.ev T_ok (m := .dp) (φ := True) (by kernel_rfl) trivial⟩,
    ⟨_, rfl, Stp.ev T_ok (m := .dp) (φ := True) (by kernel_rfl) trivial⟩, trivial⟩ (by kernel_rfl) ?_
        refine cnd h (fun h => ?_) (fun h => ?_)
        · refine sR T_ok [4] [] ⟨[(4, B false)], []⟩ (tn 1) ?_
          refine VW.ret ?_
          replace h := Option.some.inj h
          subst h
          exact rt []
        refine VW.skip ?_
        refine rR T_ok [0, 1, 5] [] ⟨[(0, .lf (.v (.sl (.int .i64)) a0)), (1, .lf (.v (.sl (.int .i64)) a1)), (5, I (IntKind.i64.wrap (x20 + (1 : Int))))], []⟩ (tn 3) ?_
        exact aro [.ren [0, 1, 5] []] ⟨(IntKind.i64.wrap (x20 + (1 : Int))), rfl, h⟩
      refine VW.exit ?_
      exact arv [.ren [] []] ⟨rfl, h⟩
  rintro s ⟨rfl, h⟩
  unfold F44_j0 at h
  refine sR T_ok [4] [] ⟨[(4, B true)], []⟩ (tn 1) ?_
  refine VW.ret ?_
  replace h := Option.some.inj h
  subst h
  exact rt []

/- loop.example/g00844/impl.PeekKey -/
def F45 (N : Nat) (a0 : (Int × ((List Int) × (List Int)))) (a1 : Int) : Option (Int × Bool) :=
  andO (F106 N a0 a1) fun y1 => cond (decide (y1 < (0 : Int))) (some ((0 : Int), false)) (gd (InR y1 a0.2.2.length) (some ((a0.2.2.getD y1.toNat (Ty.dflt (.int .i64))), true)))
theorem ok45 (N : Nat) (a0 : (Int × ((List Int) × (List Int)))) (a1 : Int) {r : Int × Bool} (h : F45 N a0 a1 = some r) : Con Go.Proofs.Try.prog 45 [.agg [.v (.int .i64) a0.1, .v (.sl (.int .i64)) a0.2.1, .v (.sl (.int .i64)) a0.2.2], I a1] [.lf (.v (.int .i64) r.1), .lf (.v .bool r.2)] := by
  refine ctr [.lf (.v (.int .i64)), .lf (.v .bool)] T_ok Go.Proofs.Try.func45 rfl fun w0 E0 ht => ?_
  unfold F45 at h
  show VW _ _ _ _ _ (retQ _ _ _ _) _
  refine sR T_ok [1, 2] [0] ⟨[(1, I a1), (2, .lf (.ptr 0 0 0 0))], [bx [.v (.int .i64) a0.1, .v (.sl (.int .i64)) a0.2.1, .v (.sl (.int .i64)) a0.2.2] 59]⟩ (tn 3) ?_
  refine VW.seq ?_
  refine VW.region ?_
  refine sG T_ok 2 [2, 7, 8] [0] ⟨[(2, .lf (.ptr 0 0 0 0)), (7, .agg [.v (.int .i64) a0.1, .v (.sl (.int .i64)) a0.2.1, .v (.sl (.int .i64)) a0.2.2]), (8, I a1)], [bx [.v (.int .i64) a0.1, .v (.sl (.int .i64)) a0.2.1, .v (.sl (.int .i64)) a0.2.2] 59]⟩ (tn 2) ?_
  obtain ⟨y1, hy, h⟩ := andO_some h
  refine cal false [.t Y58, .t (.int .i64)] [] (some 9) T_ok (ok106 N _ _ hy) ?_
  refine sN T_ok [2, 6] [0] ⟨[(2, .lf (.ptr 0 0 0 0)), (6, I y1)], [bx [.v (.int .i64) a0.1, .v (.sl (.int .i64)) a0.2.1, .v (.sl (.int .i64)) a0.2.2] 59]⟩ (tn 1) ?_
  refine VW.seq ?_
  refine sR T_ok [2, 6, 11] [0] ⟨[(2, .lf (.ptr 0 0 0 0)), (6, I y1), (11, B (decide (y1 < (0 : Int))))], [bx [.v (.int .i64) a0.1, .v (.sl (.int .i64)) a0.2.1, .v (.sl (.int .i64)) a0.2.2] 59]⟩ (tn 2) ?_
  refine cnd h (fun h => ?_) (fun h => ?_)
  · refine sR T_ok [4, 5] [] ⟨[(4, I (0 : Int)), (5, B false)], []⟩ (tn 2) ?_
    refine VW.ret ?_
    replace h := Option.some.inj h
    subst h
    exact rt []
  refine VW.skip ?_
  obtain ⟨g2, h⟩ := gd_some h
  refine sR T_ok [4, 5] [] ⟨[(4, I (a0.2.2.getD y1.toNat (Ty.dflt (.int .i64)))), (5, B true)], []⟩ (pu 3 (an g2 (tn 3))) ?_
  refine VW.ret ?_
  replace h := Option.some.inj h
  subst h
  exact rt []

end Go.Proofs.Ytgpddckjpokclaa.Vc
