/- What functions of the program compute, and that they do. -/
import Derived.Test.YtgpddckjpokclaaDoorVt0
namespace Go.Proofs.YtgpddckjpokclaaDoor.Vc
open Go Go.RowKit
set_option linter.unusedVariables false
set_option maxRecDepth 100000
set_option maxHeartbeats 4000000
/- (loop.example/g00844/impl.Cache).without -/
def F62 (N : Nat) (a0 : (Int × ((List Int) × (List Int)))) (a1 : Int) : Option ((Int × ((List Int) × (List Int)))) :=
  andO (F61 N a0) fun y1 => andO (F70 N y1.2.1 a1 (IntKind.i64.wrap (a1 + (1 : Int)))) fun y2 => andO (F70 N y1.2.2 a1 (IntKind.i64.wrap (a1 + (1 : Int)))) fun y3 => some (y1.1, (y2, y3))
theorem ok62 (N : Nat) (a0 : (Int × ((List Int) × (List Int)))) (a1 : Int) {r : (Int × ((List Int) × (List Int)))} (h : F62 N a0 a1 = some r) : Con Go.Proofs.Tryd.prog 62 [.agg [.v (.int .i64) a0.1, .v (.sl (.int .i64)) a0.2.1, .v (.sl (.int .i64)) a0.2.2], I a1] [.agg [.v (.int .i64) r.1, .own (.int .i64) r.2.1 .dp, .own (.int .i64) r.2.2 .dp]] := by
  refine ctr [.agg [.v (.int .i64), .own (.int .i64) .dp, .own (.int .i64) .dp]] T_ok Go.Proofs.Tryd.func62 rfl fun w0 E0 ht => ?_
  unfold F62 at h
  show VW _ _ _ _ _ (retQ _ _ _ _) _
  refine sR T_ok [1, 2, 4] [0, 1] ⟨[(1, I a1), (2, .lf (.ptr 0 0 0 0)), (4, .lf (.ptr 1 0 0 0))], [bx [.v (.int .i64) a0.1, .v (.sl (.int .i64)) a0.2.1, .v (.sl (.int .i64)) a0.2.2] 28, bx [.v (.int .i64) (0 : Int), .nil, .nil] 28]⟩ (tn 2) ?_
  refine VW.seq ?_
  refine VW.region ?_
  refine sG T_ok 1 [1, 4, 6] [1] ⟨[(1, I a1), (4, .lf (.ptr 0 0 0 0)), (6, .agg [.v (.int .i64) a0.1, .v (.sl (.int .i64)) a0.2.1, .v (.sl (.int .i64)) a0.2.2])], [bx [.v (.int .i64) (0 : Int), .nil, .nil] 28]⟩ (tn 1) ?_
  obtain ⟨y1, hy, h⟩ := andO_some h
  refine cal false [.t Y27] [] (some 7) T_ok (ok61 N _ hy) ?_
  refine sN T_ok [1, 4, 5] [0, 3, 1, 2] ⟨[(1, I a1), (4, .lf (.ptr 0 0 0 0)), (5, .lf (.ptr 1 0 0 0))], [bx [.v (.int .i64) (0 : Int), .nil, .nil] 28, bx [.v (.int .i64) y1.1, .hd 2 0 none, .hd 3 0 none] 28, ar 0 (.int .i64) y1.2.1 .dp, ar 0 (.int .i64) y1.2.2 .dp]⟩ (tn 2) ?_
  refine VW.seq ?_
  refine VW.region ?_
  refine sG T_ok 5 [1, 4, 5, 9, 10, 12] [0, 1, 2, 3] ⟨[(1, I a1), (4, .lf (.ptr 0 0 0 0)), (5, .lf (.ptr 1 0 0 0)), (9, .lf (.hd 2 0 none)), (10, I a1), (12, I (IntKind.i64.wrap (a1 + (1 : Int))))], [bx [.v (.int .i64) (0 : Int), .nil, .nil] 28, bx [.v (.int .i64) y1.1, .hd 2 0 none, .hd 3 0 none] 28, ar 0 (.int .i64) y1.2.1 .dp, ar 0 (.int .i64) y1.2.2 .dp]⟩ (tn 5) ?_
  obtain ⟨y2, hy, h⟩ := andO_some h
  refine VO.callM [2] [.t (.sl (.int .i64)), .t (.int .i64), .t (.int .i64)] (d := some 13) (by kernel_rfl) (by kernel_rfl) (ok70 N _ _ _ hy) (by kernel_rfl) ?_
  refine sN T_ok [1, 4, 5] [0, 1, 4, 3] ⟨[(1, I a1), (4, .lf (.ptr 0 0 0 0)), (5, .lf (.ptr 1 0 0 0))], [bx [.v (.int .i64) (0 : Int), .nil, .nil] 28, bx [.v (.int .i64) y1.1, .hd 2 0 none, .hd 3 0 none] 28, ar 0 (.int .i64) y2 .dp, ar 0 (.int .i64) y1.2.2 .dp]⟩ (tn 2) ?_
  refine VW.seq ?_
  refine VW.region ?_
  refine sG T_ok 5 [4, 5, 16, 17, 19] [0, 1, 2, 3] ⟨[(4, .lf (.ptr 0 0 0 0)), (5, .lf (.ptr 1 0 0 0)), (16, .lf (.hd 3 0 none)), (17, I a1), (19, I (IntKind.i64.wrap (a1 + (1 : Int))))], [bx [.v (.int .i64) (0 : Int), .nil, .nil] 28, bx [.v (.int .i64) y1.1, .hd 2 0 none, .hd 3 0 none] 28, ar 0 (.int .i64) y2 .dp, ar 0 (.int .i64) y1.2.2 .dp]⟩ (tn 5) ?_
  obtain ⟨y3, hy, h⟩ := andO_some h
  refine VO.callM [3] [.t (.sl (.int .i64)), .t (.int .i64), .t (.int .i64)] (d := some 20) (by kernel_rfl) (by kernel_rfl) (ok70 N _ _ _ hy) (by kernel_rfl) ?_
  refine sN T_ok [4, 5] [0, 1, 2, 4] ⟨[(4, .lf (.ptr 0 0 0 0)), (5, .lf (.ptr 1 0 0 0))], [bx [.v (.int .i64) (0 : Int), .nil, .nil] 28, bx [.v (.int .i64) y1.1, .hd 2 0 none, .hd 3 0 none] 28, ar 0 (.int .i64) y2 .dp, ar 0 (.int .i64) y3 .dp]⟩ (tn 2) ?_
  refine sR T_ok [4] [0, 2, 3] ⟨[(4, .lf (.ptr 0 0 0 0))], [bx [.v (.int .i64) y1.1, .hd 1 0 none, .hd 2 0 none] 28, ar 0 (.int .i64) y2 .dp, ar 0 (.int .i64) y3 .dp]⟩ (tn 2) ?_
  refine VW.ret ?_
  replace h := Option.some.inj h
  subst h
  exact rt [some 1, some 2]

/- loop.example/g00844/impl.DropKey -/
def F38 (N : Nat) (a0 : (Int × ((List Int) × (List Int)))) (a1 : Int) : Option ((Int × ((List Int) × (List Int))) × Bool) :=
  andO (F60 N a0 a1) fun y1 => cond (decide (y1 < (0 : Int))) (andO (F61 N a0) fun y3 => some (y3, false)) (andO (F62 N a0 y1) fun y4 => some (y4, true))
theorem ok38 (N : Nat) (a0 : (Int × ((List Int) × (List Int)))) (a1 : Int) {r : (Int × ((List Int) × (List Int))) × Bool} (h : F38 N a0 a1 = some r) : Con Go.Proofs.Tryd.prog 38 [.agg [.v (.int .i64) a0.1, .v (.sl (.int .i64)) a0.2.1, .v (.sl (.int .i64)) a0.2.2], I a1] [.agg [.v (.int .i64) r.1.1, .own (.int .i64) r.1.2.1 .dp, .own (.int .i64) r.1.2.2 .dp], .lf (.v .bool r.2)] := by
  refine ctr [.agg [.v (.int .i64), .own (.int .i64) .dp, .own (.int .i64) .dp], .lf (.v .bool)] T_ok Go.Proofs.Tryd.func38 rfl fun w0 E0 ht => ?_
  unfold F38 at h
  show VW _ _ _ _ _ (retQ _ _ _ _) _
  refine sR T_ok [1, 2, 4] [0, 1] ⟨[(1, I a1), (2, .lf (.ptr 0 0 0 0)), (4, .lf (.ptr 1 0 0 0))], [bx [.v (.int .i64) a0.1, .v (.sl (.int .i64)) a0.2.1, .v (.sl (.int .i64)) a0.2.2] 28, bx [.v (.int .i64) (0 : Int), .nil, .nil] 28]⟩ (tn 3) ?_
  refine VW.seq ?_
  refine VW.region ?_
  refine sG T_ok 2 [2, 4, 7, 8] [0, 1] ⟨[(2, .lf (.ptr 0 0 0 0)), (4, .lf (.ptr 1 0 0 0)), (7, .agg [.v (.int .i64) a0.1, .v (.sl (.int .i64)) a0.2.1, .v (.sl (.int .i64)) a0.2.2]), (8, I a1)], [bx [.v (.int .i64) a0.1, .v (.sl (.int .i64)) a0.2.1, .v (.sl (.int .i64)) a0.2.2] 28, bx [.v (.int .i64) (0 : Int), .nil, .nil] 28]⟩ (tn 2) ?_
  obtain ⟨y1, hy, h⟩ := andO_some h
  refine cal false [.t Y27, .t (.int .i64)] [] (some 9) T_ok (ok60 N _ _ hy) ?_
  refine sN T_ok [2, 4, 6] [0, 1] ⟨[(2, .lf (.ptr 0 0 0 0)), (4, .lf (.ptr 1 0 0 0)), (6, I y1)], [bx [.v (.int .i64) a0.1, .v (.sl (.int .i64)) a0.2.1, .v (.sl (.int .i64)) a0.2.2] 28, bx [.v (.int .i64) (0 : Int), .nil, .nil] 28]⟩ (tn 1) ?_
  refine VW.seq ?_
  refine sR T_ok [2, 4, 6, 11] [0, 1] ⟨[(2, .lf (.ptr 0 0 0 0)), (4, .lf (.ptr 1 0 0 0)), (6, I y1), (11, B (decide (y1 < (0 : Int))))], [bx [.v (.int .i64) a0.1, .v (.sl (.int .i64)) a0.2.1, .v (.sl (.int .i64)) a0.2.2] 28, bx [.v (.int .i64) (0 : Int), .nil, .nil] 28]⟩ (tn 2) ?_
  refine cnd h (fun h => ?_) (fun h => ?_)
  · refine VW.seq ?_
    refine VW.region ?_
    refine sG T_ok 1 [4, 12] [1] ⟨[(4, .lf (.ptr 0 0 0 0)), (12, .agg [.v (.int .i64) a0.1, .v (.sl (.int .i64)) a0.2.1, .v (.sl (.int .i64)) a0.2.2])], [bx [.v (.int .i64) (0 : Int), .nil, .nil] 28]⟩ (tn 1) ?_
    obtain ⟨y3, hy, h⟩ := andO_some h
    refine cal false [.t Y27] [] (some 13) T_ok (ok61 N _ hy) ?_
    refine sN T_ok [4, 5] [0, 1, 2] ⟨[(4, .lf (.ptr 0 0 0 0)), (5, B false)], [bx [.v (.int .i64) y3.1, .hd 1 0 none, .hd 2 0 none] 28, ar 0 (.int .i64) y3.2.1 .dp, ar 0 (.int .i64) y3.2.2 .dp]⟩ (tn 2) ?_
    refine VW.ret ?_
    replace h := Option.some.inj h
    subst h
    exact rt [some 1, some 2]
  refine VW.skip ?_
  refine VW.seq ?_
  refine VW.region ?_
  refine sG T_ok 2 [4, 14, 15] [1] ⟨[(4, .lf (.ptr 0 0 0 0)), (14, .agg [.v (.int .i64) a0.1, .v (.sl (.int .i64)) a0.2.1, .v (.sl (.int .i64)) a0.2.2]), (15, I y1)], [bx [.v (.int .i64) (0 : Int), .nil, .nil] 28]⟩ (tn 2) ?_
  obtain ⟨y4, hy, h⟩ := andO_some h
  refine cal false [.t Y27, .t (.int .i64)] [] (some 16) T_ok (ok62 N _ _ hy) ?_
  refine sN T_ok [4, 5] [0, 1, 2] ⟨[(4, .lf (.ptr 0 0 0 0)), (5, B true)], [bx [.v (.int .i64) y4.1, .hd 1 0 none, .hd 2 0 none] 28, ar 0 (.int .i64) y4.2.1 .dp, ar 0 (.int .i64) y4.2.2 .dp]⟩ (tn 2) ?_
  refine VW.ret ?_
  replace h := Option.some.inj h
  subst h
  exact rt [some 1, some 2]

/- loop.example/g00844/impl.flag -/
def F39 (N : Nat) (a0 : Bool) : Option (Int) :=
  cond a0 (some (1 : Int)) (some (0 : Int))
theorem ok39 (N : Nat) (a0 : Bool) {r : Int} (h : F39 N a0 = some r) : Con Go.Proofs.Tryd.prog 39 [B a0] [.lf (.v (.int .i64) r)] := by
  refine ctr [.lf (.v (.int .i64))] T_ok Go.Proofs.Tryd.func39 rfl fun w0 E0 ht => ?_
  unfold F39 at h
  show VW _ _ _ _ _ (retQ _ _ _ _) _
  refine sR T_ok [0] [] ⟨[(0, B a0)], []⟩ (tn 1) ?_
  refine VW.seq ?_
  refine sR T_ok [3] [] ⟨[(3, B a0)], []⟩ (tn 1) ?_
  refine cnd h (fun h => ?_) (fun h => ?_)
  · refine sR T_ok [2] [] ⟨[(2, I (1 : Int))], []⟩ (tn 1) ?_
    refine VW.ret ?_
    replace h := Option.some.inj h
    subst h
    exact rt []
  refine VW.skip ?_
  refine sR T_ok [2] [] ⟨[(2, I (0 : Int))], []⟩ (tn 1) ?_
  refine VW.ret ?_
  replace h := Option.some.inj h
  subst h
  exact rt []

/- (loop.example/g00844/impl.Cache).ahead -/
def F63_j0 (N : Nat) (a1 : Int) (a2 : Int) (x3 : Int) (x4 : (List Int)) (x5 : (List Int)) : Option ((Int × ((List Int) × (List Int)))) :=
  gd (([a1]).length + x4.length ≤ lim (.int .i64)) (gd (([a2]).length + x5.length ≤ lim (.int .i64)) (some (x3, ((([a1]) ++ x4), (([a2]) ++ x5)))))
def F63 (N : Nat) (a0 : (Int × ((List Int) × (List Int)))) (a1 : Int) (a2 : Int) : Option ((Int × ((List Int) × (List Int)))) :=
  andO (F48 N a0.2.1 a1) fun y9 => cond (decide (y9 ≥ (0 : Int))) (andO (F62 N a0 y9) fun y10 => F63_j0 N a1 a2 y10.1 y10.2.1 y10.2.2) (F63_j0 N a1 a2 a0.1 a0.2.1 a0.2.2)
theorem ok63 (N : Nat) (a0 : (Int × ((List Int) × (List Int)))) (a1 : Int) (a2 : Int) {r : (Int × ((List Int) × (List Int)))} (h : F63 N a0 a1 a2 = some r) : Con Go.Proofs.Tryd.prog 63 [.agg [.v (.int .i64) a0.1, .v (.sl (.int .i64)) a0.2.1, .v (.sl (.int .i64)) a0.2.2], I a1, I a2] [.agg [.v (.int .i64) r.1, .own (.int .i64) r.2.1 .dp, .own (.int .i64) r.2.2 .dp]] := by
  refine ctr [.agg [.v (.int .i64), .own (.int .i64) .dp, .own (.int .i64) .dp]] T_ok Go.Proofs.Tryd.func63 rfl fun w0 E0 ht => ?_
  unfold F63 at h
  show VW _ _ _ _ _ (retQ _ _ _ _) _
  refine sR T_ok [1, 2, 3, 6] [0, 1] ⟨[(1, I a1), (2, I a2), (3, .lf (.ptr 0 0 0 0)), (6, .lf (.ptr 1 0 0 0))], [bx [.v (.int .i64) a0.1, .v (.sl (.int .i64)) a0.2.1, .v (.sl (.int .i64)) a0.2.2] 28, bx [.v (.int .i64) (0 : Int), .nil, .nil] 28]⟩ (tn 2) ?_
  refine VW.join (fun s => ∃ (x3 : Int) (x4 : (List Int)) (x5 : (List Int)), s = ⟨[(1, I a1), (2, I a2), (3, .lf (.ptr 0 0 0 0)), (6, .lf (.ptr 1 0 0 0))], [bx [.v (.int .i64) x3, .v (.sl (.int .i64)) x4, .v (.sl (.int .i64)) x5] 28, bx [.v (.int .i64) (0 : Int), .nil, .nil] 28]⟩ ∧ F63_j0 N a1 a2 x3 x4 x5 = some r) ?_ ?_
  · refine VW.seq ?_
    refine VW.region ?_
    refine sG T_ok 3 [1, 2, 3, 6, 9, 10] [0, 1] ⟨[(1, I a1), (2, I a2), (3, .lf (.ptr 0 0 0 0)), (6, .lf (.ptr 1 0 0 0)), (9, .lf (.v (.sl (.int .i64)) a0.2.1)), (10, I a1)], [bx [.v (.int .i64) a0.1, .v (.sl (.int .i64)) a0.2.1, .v (.sl (.int .i64)) a0.2.2] 28, bx [.v (.int .i64) (0 : Int), .nil, .nil] 28]⟩ (tn 3) ?_
    obtain ⟨y9, hy, h⟩ := andO_some h
    refine cal false [.t (.sl (.int .i64)), .t (.int .i64)] [] (some 11) T_ok (ok48 N _ _ hy) ?_
    refine sN T_ok [1, 2, 3, 6, 7] [0, 1] ⟨[(1, I a1), (2, I a2), (3, .lf (.ptr 0 0 0 0)), (6, .lf (.ptr 1 0 0 0)), (7, I y9)], [bx [.v (.int .i64) a0.1, .v (.sl (.int .i64)) a0.2.1, .v (.sl (.int .i64)) a0.2.2] 28, bx [.v (.int .i64) (0 : Int), .nil, .nil] 28]⟩ (tn 1) ?_
    refine sR T_ok [1, 2, 3, 6, 7, 13] [0, 1] ⟨[(1, I a1), (2, I a2), (3, .lf (.ptr 0 0 0 0)), (6, .lf (.ptr 1 0 0 0)), (7, I y9), (13, B (decide (y9 ≥ (0 : Int))))], [bx [.v (.int .i64) a0.1, .v (.sl (.int .i64)) a0.2.1, .v (.sl (.int .i64)) a0.2.2] 28, bx [.v (.int .i64) (0 : Int), .nil, .nil] 28]⟩ (tn 2) ?_
    refine cnd h (fun h => ?_) (fun h => ?_)
    · refine VW.region ?_
      refine sG T_ok 2 [1, 2, 3, 6, 14, 15] [0, 1] ⟨[(1, I a1), (2, I a2), (3, .lf (.ptr 0 0 0 0)), (6, .lf (.ptr 1 0 0 0)), (14, .agg [.v (.int .i64) a0.1, .v (.sl (.int .i64)) a0.2.1, .v (.sl (.int .i64)) a0.2.2]), (15, I y9)], [bx [.v (.int .i64) a0.1, .v (.sl (.int .i64)) a0.2.1, .v (.sl (.int .i64)) a0.2.2] 28, bx [.v (.int .i64) (0 : Int), .nil, .nil] 28]⟩ (tn 2) ?_
      obtain ⟨y10, hy, h⟩ := andO_some h
      refine cal false [.t Y27, .t (.int .i64)] [] (some 16) T_ok (ok62 N _ _ hy) ?_
      refine sN T_ok [1, 2, 3, 6] [0, 2, 3, 1] ⟨[(1, I a1), (2, I a2), (3, .lf (.ptr 0 0 0 0)), (6, .lf (.ptr 3 0 0 0))], [bx [.v (.int .i64) y10.1, .hd 1 0 none, .hd 2 0 none] 28, ar 0 (.int .i64) y10.2.1 .dp, ar 0 (.int .i64) y10.2.2 .dp, bx [.v (.int .i64) (0 : Int), .nil, .nil] 28]⟩ (tn 1) ?_
      exact arv [.frz 1, .frz 2, .ren [1, 2, 3, 6] [0, 3]] ⟨y10.1, y10.2.1, y10.2.2, rfl, h⟩
    refine VW.skip ?_
    exact arv [.ren [1, 2, 3, 6] [0, 1]] ⟨a0.1, a0.2.1, a0.2.2, rfl, h⟩
  rintro s ⟨x3, x4, x5, rfl, h⟩
  unfold F63_j0 at h
  obtain ⟨g6, h⟩ := gd_some h
  refine sR T_ok [2, 3, 6] [0, 2, 1] ⟨[(2, I a2), (3, .lf (.ptr 0 0 0 0)), (6, .lf (.ptr 2 0 0 0))], [bx [.v (.int .i64) x3, .hd 1 0 none, .v (.sl (.int .i64)) x5] 28, ar 0 (.int .i64) (([a1]) ++ x4) .dp, bx [.v (.int .i64) (0 : Int), .nil, .nil] 28]⟩ (pu 4 (an g6 (tn 2))) ?_
  obtain ⟨g7, h⟩ := gd_some h
  refine sR T_ok [3, 6] [0, 1, 3, 2] ⟨[(3, .lf (.ptr 0 0 0 0)), (6, .lf (.ptr 3 0 0 0))], [bx [.v (.int .i64) x3, .hd 1 0 none, .hd 2 0 none] 28, ar 0 (.int .i64) (([a1]) ++ x4) .dp, ar 0 (.int .i64) (([a2]) ++ x5) .dp, bx [.v (.int .i64) (0 : Int), .nil, .nil] 28]⟩ (pu 4 (an g7 (tn 2))) ?_
  refine sR T_ok [6] [3, 1, 2] ⟨[(6, .lf (.ptr 0 0 0 0))], [bx [.v (.int .i64) x3, .hd 1 0 none, .hd 2 0 none] 28, ar 0 (.int .i64) (([a1]) ++ x4) .dp, ar 0 (.int .i64) (([a2]) ++ x5) .dp]⟩ (tn 2) ?_
  refine VW.ret ?_
  replace h := Option.some.inj h
  subst h
  exact rt [some 1, some 2]

/- loop.example/g00844/impl.GetKey -/
def F40 (N : Nat) (a0 : (Int × ((List Int) × (List Int)))) (a1 : Int) : Option ((Int × ((List Int) × (List Int))) × Int × Bool) :=
  andO (F60 N a0 a1) fun y1 => cond (decide (y1 < (0 : Int))) (andO (F61 N a0) fun y3 => some (y3, (0 : Int), false)) (gd (InR y1 a0.2.2.length) (andO (F63 N a0 a1 (a0.2.2.getD y1.toNat (Ty.dflt (.int .i64)))) fun y5 => some (y5, (a0.2.2.getD y1.toNat (Ty.dflt (.int .i64))), true)))
theorem ok40 (N : Nat) (a0 : (Int × ((List Int) × (List Int)))) (a1 : Int) {r : (Int × ((List Int) × (List Int))) × Int × Bool} (h : F40 N a0 a1 = some r) : Con Go.Proofs.Tryd.prog 40 [.agg [.v (.int .i64) a0.1, .v (.sl (.int .i64)) a0.2.1, .v (.sl (.int .i64)) a0.2.2], I a1] [.agg [.v (.int .i64) r.1.1, .own (.int .i64) r.1.2.1 .dp, .own (.int .i64) r.1.2.2 .dp], .lf (.v (.int .i64) r.2.1), .lf (.v .bool r.2.2)] := by
  refine ctr [.agg [.v (.int .i64), .own (.int .i64) .dp, .own (.int .i64) .dp], .lf (.v (.int .i64)), .lf (.v .bool)] T_ok Go.Proofs.Tryd.func40 rfl fun w0 E0 ht => ?_
  unfold F40 at h
  show VW _ _ _ _ _ (retQ _ _ _ _) _
  refine sR T_ok [1, 2, 4] [0, 1] ⟨[(1, I a1), (2, .lf (.ptr 0 0 0 0)), (4, .lf (.ptr 1 0 0 0))], [bx [.v (.int .i64) a0.1, .v (.sl (.int .i64)) a0.2.1, .v (.sl (.int .i64)) a0.2.2] 28, bx [.v (.int .i64) (0 : Int), .nil, .nil] 28]⟩ (tn 4) ?_
  refine VW.seq ?_
  refine VW.region ?_
  refine sG T_ok 2 [1, 2, 4, 9, 10] [0, 1] ⟨[(1, I a1), (2, .lf (.ptr 0 0 0 0)), (4, .lf (.ptr 1 0 0 0)), (9, .agg [.v (.int .i64) a0.1, .v (.sl (.int .i64)) a0.2.1, .v (.sl (.int .i64)) a0.2.2]), (10, I a1)], [bx [.v (.int .i64) a0.1, .v (.sl (.int .i64)) a0.2.1, .v (.sl (.int .i64)) a0.2.2] 28, bx [.v (.int .i64) (0 : Int), .nil, .nil] 28]⟩ (tn 2) ?_
  obtain ⟨y1, hy, h⟩ := andO_some h
  refine cal false [.t Y27, .t (.int .i64)] [] (some 11) T_ok (ok60 N _ _ hy) ?_
  refine sN T_ok [1, 2, 4, 7] [0, 1] ⟨[(1, I a1), (2, .lf (.ptr 0 0 0 0)), (4, .lf (.ptr 1 0 0 0)), (7, I y1)], [bx [.v (.int .i64) a0.1, .v (.sl (.int .i64)) a0.2.1, .v (.sl (.int .i64)) a0.2.2] 28, bx [.v (.int .i64) (0 : Int), .nil, .nil] 28]⟩ (tn 1) ?_
  refine VW.seq ?_
  refine sR T_ok [1, 2, 4, 7, 13] [0, 1] ⟨[(1, I a1), (2, .lf (.ptr 0 0 0 0)), (4, .lf (.ptr 1 0 0 0)), (7, I y1), (13, B (decide (y1 < (0 : Int))))], [bx [.v (.int .i64) a0.1, .v (.sl (.int .i64)) a0.2.1, .v (.sl (.int .i64)) a0.2.2] 28, bx [.v (.int .i64) (0 : Int), .nil, .nil] 28]⟩ (tn 2) ?_
  refine cnd h (fun h => ?_) (fun h => ?_)
  · refine VW.seq ?_
    refine VW.region ?_
    refine sG T_ok 1 [4, 14] [1] ⟨[(4, .lf (.ptr 0 0 0 0)), (14, .agg [.v (.int .i64) a0.1, .v (.sl (.int .i64)) a0.2.1, .v (.sl (.int .i64)) a0.2.2])], [bx [.v (.int .i64) (0 : Int), .nil, .nil] 28]⟩ (tn 1) ?_
    obtain ⟨y3, hy, h⟩ := andO_some h
    refine cal false [.t Y27] [] (some 15) T_ok (ok61 N _ hy) ?_
    refine sN T_ok [4, 5, 6] [0, 1, 2] ⟨[(4, .lf (.ptr 0 0 0 0)), (5, I (0 : Int)), (6, B false)], [bx [.v (.int .i64) y3.1, .hd 1 0 none, .hd 2 0 none] 28, ar 0 (.int .i64) y3.2.1 .dp, ar 0 (.int .i64) y3.2.2 .dp]⟩ (tn 3) ?_
    refine VW.ret ?_
    replace h := Option.some.inj h
    subst h
    exact rt [some 1, some 2]
  refine VW.skip ?_
  obtain ⟨g4, h⟩ := gd_some h
  refine sR T_ok [1, 2, 4, 8] [0, 1] ⟨[(1, I a1), (2, .lf (.ptr 0 0 0 0)), (4, .lf (.ptr 1 0 0 0)), (8, I (a0.2.2.getD y1.toNat (Ty.dflt (.int .i64))))], [bx [.v (.int .i64) a0.1, .v (.sl (.int .i64)) a0.2.1, .v (.sl (.int .i64)) a0.2.2] 28, bx [.v (.int .i64) (0 : Int), .nil, .nil] 28]⟩ (pu 3 (an g4 (tn 2))) ?_
  refine VW.seq ?_
  refine VW.region ?_
  refine sG T_ok 3 [4, 8, 21, 22, 23] [1] ⟨[(4, .lf (.ptr 0 0 0 0)), (8, I (a0.2.2.getD y1.toNat (Ty.dflt (.int .i64)))), (21, .agg [.v (.int .i64) a0.1, .v (.sl (.int .i64)) a0.2.1, .v (.sl (.int .i64)) a0.2.2]), (22, I a1), (23, I (a0.2.2.getD y1.toNat (Ty.dflt (.int .i64))))], [bx [.v (.int .i64) (0 : Int), .nil, .nil] 28]⟩ (tn 3) ?_
  obtain ⟨y5, hy, h⟩ := andO_some h
  refine cal false [.t Y27, .t (.int .i64), .t (.int .i64)] [] (some 24) T_ok (ok63 N _ _ _ hy) ?_
  refine sN T_ok [4, 5, 6] [0, 1, 2] ⟨[(4, .lf (.ptr 0 0 0 0)), (5, I (a0.2.2.getD y1.toNat (Ty.dflt (.int .i64)))), (6, B true)], [bx [.v (.int .i64) y5.1, .hd 1 0 none, .hd 2 0 none] 28, ar 0 (.int .i64) y5.2.1 .dp, ar 0 (.int .i64) y5.2.2 .dp]⟩ (tn 4) ?_
  refine VW.ret ?_
  replace h := Option.some.inj h
  subst h
  exact rt [some 1, some 2]

/- loop.example/g00844/impl.PutKey -/
def F41 (N : Nat) (a0 : (Int × ((List Int) × (List Int)))) (a1 : Int) (a2 : Int) : Option ((Int × ((List Int) × (List Int))) × Int × Bool) :=
  andO (F15 N a0) fun y7 => cond (!y7) (andO (F61 N a0) fun y8 => some (y8, (1000001 : Int), false)) (andO (F47 N a1) fun y9 => cond (!y9) (andO (F61 N a0) fun y10 => some (y10, (1000001 : Int), false)) (andO (F47 N a2) fun y11 => cond (!y11) (andO (F61 N a0) fun y12 => some (y12, (1000001 : Int), false)) (andO (F63 N a0 a1 a2) fun y13 => cond (decide ((y13.2.1.length : Int) ≤ a0.1)) (some (y13, (1000001 : Int), true)) (gd (InR a0.1 y13.2.1.length) (gd (a0.1.toNat < y13.2.1.length) (andO (F62 N y13 a0.1) fun y16 => some (y16, (y13.2.1.getD a0.1.toNat (Ty.dflt (.int .i64))), true)))))))
theorem ok41 (N : Nat) (a0 : (Int × ((List Int) × (List Int)))) (a1 : Int) (a2 : Int) {r : (Int × ((List Int) × (List Int))) × Int × Bool} (h : F41 N a0 a1 a2 = some r) : Con Go.Proofs.Tryd.prog 41 [.agg [.v (.int .i64) a0.1, .v (.sl (.int .i64)) a0.2.1, .v (.sl (.int .i64)) a0.2.2], I a1, I a2] [.agg [.v (.int .i64) r.1.1, .own (.int .i64) r.1.2.1 .dp, .own (.int .i64) r.1.2.2 .dp], .lf (.v (.int .i64) r.2.1), .lf (.v .bool r.2.2)] := by
  refine ctr [.agg [.v (.int .i64), .own (.int .i64) .dp, .own (.int .i64) .dp], .lf (.v (.int .i64)), .lf (.v .bool)] T_ok Go.Proofs.Tryd.func41 rfl fun w0 E0 ht => ?_
  unfold F41 at h
  show VW _ _ _ _ _ (retQ _ _ _ _) _
  refine sR T_ok [1, 2, 3, 6] [0, 1] ⟨[(1, I a1), (2, I a2), (3, .lf (.ptr 0 0 0 0)), (6, .lf (.ptr 1 0 0 0))], [bx [.v (.int .i64) a0.1, .v (.sl (.int .i64)) a0.2.1, .v (.sl (.int .i64)) a0.2.2] 28, bx [.v (.int .i64) (0 : Int), .nil, .nil] 28]⟩ (tn 4) ?_
  refine VW.seq ?_
  refine VW.seq ?_
  refine VW.region ?_
  refine sG T_ok 1 [1, 2, 3, 6, 11] [0, 1] ⟨[(1, I a1), (2, I a2), (3, .lf (.ptr 0 0 0 0)), (6, .lf (.ptr 1 0 0 0)), (11, .agg [.v (.int .i64) a0.1, .v (.sl (.int .i64)) a0.2.1, .v (.sl (.int .i64)) a0.2.2])], [bx [.v (.int .i64) a0.1, .v (.sl (.int .i64)) a0.2.1, .v (.sl (.int .i64)) a0.2.2] 28, bx [.v (.int .i64) (0 : Int), .nil, .nil] 28]⟩ (tn 1) ?_
  obtain ⟨y7, hy, h⟩ := andO_some h
  refine cal false [.t Y27] [] (some 12) T_ok (ok15 N _ hy) ?_
  refine sG T_ok 2 [1, 2, 3, 6, 14] [0, 1] ⟨[(1, I a1), (2, I a2), (3, .lf (.ptr 0 0 0 0)), (6, .lf (.ptr 1 0 0 0)), (14, B (!y7))], [bx [.v (.int .i64) a0.1, .v (.sl (.int .i64)) a0.2.1, .v (.sl (.int .i64)) a0.2.2] 28, bx [.v (.int .i64) (0 : Int), .nil, .nil] 28]⟩ (tn 2) ?_
  refine spB 14 h (fun h => ?_) (fun h => ?_)
  · refine sN T_ok [1, 2, 3, 6, 23] [0, 1] ⟨[(1, I a1), (2, I a2), (3, .lf (.ptr 0 0 0 0)), (6, .lf (.ptr 1 0 0 0)), (23, B true)], [bx [.v (.int .i64) a0.1, .v (.sl (.int .i64)) a0.2.1, .v (.sl (.int .i64)) a0.2.2] 28, bx [.v (.int .i64) (0 : Int), .nil, .nil] 28]⟩ (tn 9) ?_
    refine VW.cond (b := true) (by kernel_rfl) (fun _ => ?_) (fun h' => nomatch h')
    refine VW.seq ?_
    refine VW.region ?_
    refine sG T_ok 1 [6, 24] [1] ⟨[(6, .lf (.ptr 0 0 0 0)), (24, .agg [.v (.int .i64) a0.1, .v (.sl (.int .i64)) a0.2.1, .v (.sl (.int .i64)) a0.2.2])], [bx [.v (.int .i64) (0 : Int), .nil, .nil] 28]⟩ (tn 1) ?_
    obtain ⟨y8, hy, h⟩ := andO_some h
    refine cal false [.t Y27] [] (some 25) T_ok (ok61 N _ hy) ?_
    refine sN T_ok [6, 7, 8] [0, 1, 2] ⟨[(6, .lf (.ptr 0 0 0 0)), (7, I (1000001 : Int)), (8, B false)], [bx [.v (.int .i64) y8.1, .hd 1 0 none, .hd 2 0 none] 28, ar 0 (.int .i64) y8.2.1 .dp, ar 0 (.int .i64) y8.2.2 .dp]⟩ (tn 3) ?_
    refine VW.ret ?_
    replace h := Option.some.inj h
    subst h
    exact rt [some 1, some 2]
  refine sG T_ok 1 [1, 2, 3, 6, 14, 15] [0, 1] ⟨[(1, I a1), (2, I a2), (3, .lf (.ptr 0 0 0 0)), (6, .lf (.ptr 1 0 0 0)), (14, B false), (15, I a1)], [bx [.v (.int .i64) a0.1, .v (.sl (.int .i64)) a0.2.1, .v (.sl (.int .i64)) a0.2.2] 28, bx [.v (.int .i64) (0 : Int), .nil, .nil] 28]⟩ (tn 1) ?_
  refine VO.on (j := 3) (want := false) (d := 14) (b := false) rfl rfl rfl (by kernel_rfl) rfl ?_
  obtain ⟨y9, hy, h⟩ := andO_some h
  refine cal false [.t (.int .i64)] [] (some 16) T_ok (ok47 N _ hy) ?_
  refine sG T_ok 3 [1, 2, 3, 6, 19] [0, 1] ⟨[(1, I a1), (2, I a2), (3, .lf (.ptr 0 0 0 0)), (6, .lf (.ptr 1 0 0 0)), (19, B (!y9))], [bx [.v (.int .i64) a0.1, .v (.sl (.int .i64)) a0.2.1, .v (.sl (.int .i64)) a0.2.2] 28, bx [.v (.int .i64) (0 : Int), .nil, .nil] 28]⟩ (tn 3) ?_
  refine spB 19 h (fun h => ?_) (fun h => ?_)
  · refine sN T_ok [1, 2, 3, 6, 23] [0, 1] ⟨[(1, I a1), (2, I a2), (3, .lf (.ptr 0 0 0 0)), (6, .lf (.ptr 1 0 0 0)), (23, B true)], [bx [.v (.int .i64) a0.1, .v (.sl (.int .i64)) a0.2.1, .v (.sl (.int .i64)) a0.2.2] 28, bx [.v (.int .i64) (0 : Int), .nil, .nil] 28]⟩ (tn 4) ?_
    refine VW.cond (b := true) (by kernel_rfl) (fun _ => ?_) (fun h' => nomatch h')
    refine VW.seq ?_
    refine VW.region ?_
    refine sG T_ok 1 [6, 24] [1] ⟨[(6, .lf (.ptr 0 0 0 0)), (24, .agg [.v (.int .i64) a0.1, .v (.sl (.int .i64)) a0.2.1, .v (.sl (.int .i64)) a0.2.2])], [bx [.v (.int .i64) (0 : Int), .nil, .nil] 28]⟩ (tn 1) ?_
    obtain ⟨y10, hy, h⟩ := andO_some h
    refine cal false [.t Y27] [] (some 25) T_ok (ok61 N _ hy) ?_
    refine sN T_ok [6, 7, 8] [0, 1, 2] ⟨[(6, .lf (.ptr 0 0 0 0)), (7, I (1000001 : Int)), (8, B false)], [bx [.v (.int .i64) y10.1, .hd 1 0 none, .hd 2 0 none] 28, ar 0 (.int .i64) y10.2.1 .dp, ar 0 (.int .i64) y10.2.2 .dp]⟩ (tn 3) ?_
    refine VW.ret ?_
    replace h := Option.some.inj h
    subst h
    exact rt [some 1, some 2]
  refine sG T_ok 1 [1, 2, 3, 6, 19, 20] [0, 1] ⟨[(1, I a1), (2, I a2), (3, .lf (.ptr 0 0 0 0)), (6, .lf (.ptr 1 0 0 0)), (19, B false), (20, I a2)], [bx [.v (.int .i64) a0.1, .v (.sl (.int .i64)) a0.2.1, .v (.sl (.int .i64)) a0.2.2] 28, bx [.v (.int .i64) (0 : Int), .nil, .nil] 28]⟩ (tn 1) ?_
  refine VO.on (j := 8) (want := false) (d := 19) (b := false) rfl rfl rfl (by kernel_rfl) rfl ?_
  obtain ⟨y11, hy, h⟩ := andO_some h
  refine cal false [.t (.int .i64)] [] (some 21) T_ok (ok47 N _ hy) ?_
  refine sN T_ok [1, 2, 3, 6, 23] [0, 1] ⟨[(1, I a1), (2, I a2), (3, .lf (.ptr 0 0 0 0)), (6, .lf (.ptr 1 0 0 0)), (23, B (!y11))], [bx [.v (.int .i64) a0.1, .v (.sl (.int .i64)) a0.2.1, .v (.sl (.int .i64)) a0.2.2] 28, bx [.v (.int .i64) (0 : Int), .nil, .nil] 28]⟩ (tn 2) ?_
  refine cnd h (fun h => ?_) (fun h => ?_)
  · refine VW.seq ?_
    refine VW.region ?_
    refine sG T_ok 1 [6, 24] [1] ⟨[(6, .lf (.ptr 0 0 0 0)), (24, .agg [.v (.int .i64) a0.1, .v (.sl (.int .i64)) a0.2.1, .v (.sl (.int .i64)) a0.2.2])], [bx [.v (.int .i64) (0 : Int), .nil, .nil] 28]⟩ (tn 1) ?_
    obtain ⟨y12, hy, h⟩ := andO_some h
    refine cal false [.t Y27] [] (some 25) T_ok (ok61 N _ hy) ?_
    refine sN T_ok [6, 7, 8] [0, 1, 2] ⟨[(6, .lf (.ptr 0 0 0 0)), (7, I (1000001 : Int)), (8, B false)], [bx [.v (.int .i64) y12.1, .hd 1 0 none, .hd 2 0 none] 28, ar 0 (.int .i64) y12.2.1 .dp, ar 0 (.int .i64) y12.2.2 .dp]⟩ (tn 3) ?_
    refine VW.ret ?_
    replace h := Option.some.inj h
    subst h
    exact rt [some 1, some 2]
  refine VW.skip ?_
  refine VW.seq ?_
  refine VW.region ?_
  refine sG T_ok 3 [3, 6, 26, 27, 28] [0, 1] ⟨[(3, .lf (.ptr 0 0 0 0)), (6, .lf (.ptr 1 0 0 0)), (26, .agg [.v (.int .i64) a0.1, .v (.sl (.int .i64)) a0.2.1, .v (.sl (.int .i64)) a0.2.2]), (27, I a1), (28, I a2)], [bx [.v (.int .i64) a0.1, .v (.sl (.int .i64)) a0.2.1, .v (.sl (.int .i64)) a0.2.2] 28, bx [.v (.int .i64) (0 : Int), .nil, .nil] 28]⟩ (tn 3) ?_
  obtain ⟨y13, hy, h⟩ := andO_some h
  refine cal false [.t Y27, .t (.int .i64), .t (.int .i64)] [] (some 29) T_ok (ok63 N _ _ _ hy) ?_
  refine sN T_ok [3, 6, 9] [0, 1, 4, 2, 3] ⟨[(3, .lf (.ptr 0 0 0 0)), (6, .lf (.ptr 1 0 0 0)), (9, .lf (.ptr 2 0 0 0))], [bx [.v (.int .i64) a0.1, .v (.sl (.int .i64)) a0.2.1, .v (.sl (.int .i64)) a0.2.2] 28, bx [.v (.int .i64) (0 : Int), .nil, .nil] 28, bx [.v (.int .i64) y13.1, .hd 3 0 none, .hd 4 0 none] 28, ar 0 (.int .i64) y13.2.1 .dp, ar 0 (.int .i64) y13.2.2 .dp]⟩ (tn 2) ?_
  refine VW.seq ?_
  refine sR T_ok [3, 6, 9, 35] [0, 1, 2, 3, 4] ⟨[(3, .lf (.ptr 0 0 0 0)), (6, .lf (.ptr 1 0 0 0)), (9, .lf (.ptr 2 0 0 0)), (35, B (decide ((y13.2.1.length : Int) ≤ a0.1)))], [bx [.v (.int .i64) a0.1, .v (.sl (.int .i64)) a0.2.1, .v (.sl (.int .i64)) a0.2.2] 28, bx [.v (.int .i64) (0 : Int), .nil, .nil] 28, bx [.v (.int .i64) y13.1, .hd 3 0 none, .hd 4 0 none] 28, ar 0 (.int .i64) y13.2.1 .dp, ar 0 (.int .i64) y13.2.2 .dp]⟩ (tn 6) ?_
  refine cnd h (fun h => ?_) (fun h => ?_)
  · refine sR T_ok [6, 7, 8] [1, 3, 4] ⟨[(6, .lf (.ptr 0 0 0 0)), (7, I (1000001 : Int)), (8, B true)], [bx [.v (.int .i64) y13.1, .hd 1 0 none, .hd 2 0 none] 28, ar 0 (.int .i64) y13.2.1 .dp, ar 0 (.int .i64) y13.2.2 .dp]⟩ (tn 4) ?_
    refine VW.ret ?_
    replace h := Option.some.inj h
    subst h
    exact rt [some 1, some 2]
  refine VW.skip ?_
  obtain ⟨g14, h⟩ := gd_some h
  obtain ⟨g15, h⟩ := gd_some h
  refine sR T_ok [3, 6, 9, 10] [0, 1, 2, 3, 4] ⟨[(3, .lf (.ptr 0 0 0 0)), (6, .lf (.ptr 1 0 0 0)), (9, .lf (.ptr 2 0 0 0)), (10, I (y13.2.1.getD a0.1.toNat (Ty.dflt (.int .i64))))], [bx [.v (.int .i64) a0.1, .v (.sl (.int .i64)) a0.2.1, .v (.sl (.int .i64)) a0.2.2] 28, bx [.v (.int .i64) (0 : Int), .nil, .nil] 28, bx [.v (.int .i64) y13.1, .hd 3 0 none, .hd 4 0 none] 28, ar 0 (.int .i64) y13.2.1 .dp, ar 0 (.int .i64) y13.2.2 .dp]⟩ (pu 4 (an g14 (an g15 (tn 1)))) ?_
  refine VW.seq ?_
  refine VW.region ?_
  refine sG T_ok 3 [6, 10, 43, 45] [1, 3, 4] ⟨[(6, .lf (.ptr 0 0 0 0)), (10, I (y13.2.1.getD a0.1.toNat (Ty.dflt (.int .i64)))), (43, .agg [.v (.int .i64) y13.1, .hd 1 0 none, .hd 2 0 none]), (45, I a0.1)], [bx [.v (.int .i64) (0 : Int), .nil, .nil] 28, ar 0 (.int .i64) y13.2.1 .dp, ar 0 (.int .i64) y13.2.2 .dp]⟩ (tn 3) ?_
  obtain ⟨y16, hy, h⟩ := andO_some h
  refine cal true [.t Y27, .t (.int .i64)] [] (some 46) T_ok (ok62 N _ _ hy) ?_
  refine sN T_ok [6, 7, 8] [0, 3, 4] ⟨[(6, .lf (.ptr 0 0 0 0)), (7, I (y13.2.1.getD a0.1.toNat (Ty.dflt (.int .i64)))), (8, B true)], [bx [.v (.int .i64) y16.1, .hd 1 0 none, .hd 2 0 none] 28, ar 0 (.int .i64) y16.2.1 .dp, ar 0 (.int .i64) y16.2.2 .dp]⟩ (tn 4) ?_
  refine VW.ret ?_
  replace h := Option.some.inj h
  subst h
  exact rt [some 1, some 2]

/- loop.example/g00844/impl.PlayCache -/
def F10_j0 (N : Nat) (x103 : Int) (x104 : (List Int)) (x105 : (List Int)) (x106 : (List Int)) : Option ((Int × ((List Int) × (List Int))) × (List Int)) :=
  some ((x103, (x104, x105)), x106)
def F10_j1 (N : Nat) (nx178 : Int → (List Int) → (List Int) → (List Int) → Int → Int → Option ((Int × ((List Int) × (List Int))) × (List Int))) (x145 : (List Int)) (x146 : Int) (x147 : Int) (x199 : Int) (x200 : (List Int)) (x201 : (List Int)) (x202 : Int) : Option ((Int × ((List Int) × (List Int))) × (List Int)) :=
  gd (x145.length + ([x202]).length ≤ lim (.int .i64)) (nx178 x199 x200 x201 (x145 ++ ([x202])) x146 (IntKind.i64.wrap (x147 + (1 : Int))))
def F10_l0_b (N : Nat) (a1 : (List Int)) (nx178 : Int → (List Int) → (List Int) → (List Int) → Int → Int → Option ((Int × ((List Int) × (List Int))) × (List Int))) (x142 : Int) (x143 : (List Int)) (x144 : (List Int)) (x145 : (List Int)) (x146 : Int) (x147 : Int) : Option ((Int × ((List Int) × (List Int))) × (List Int)) :=
  cond (decide (x147 < x146)) (gd (InR x147 a1.length) (cond (decide ((a1.getD x147.toNat (Ty.dflt (.int .i64))) < (0 : Int))) (andO (F38 N (x142, (x143, x144)) (IntKind.i64.wrap ((0 : Int) - (IntKind.i64.wrap ((a1.getD x147.toNat (Ty.dflt (.int .i64))) + (1 : Int)))))) fun y205 => andO (F39 N y205.2) fun y206 => F10_j1 N nx178 x145 x146 x147 y205.1.1 y205.1.2.1 y205.1.2.2 y206) (cond ((Int.tmod (a1.getD x147.toNat (Ty.dflt (.int .i64))) (2 : Int)) == (0 : Int)) (andO (F40 N (x142, (x143, x144)) (IntKind.i64.wrap (Int.tdiv (a1.getD x147.toNat (Ty.dflt (.int .i64))) (2 : Int)))) fun y207 => cond (!y207.2.2) (F10_j1 N nx178 x145 x146 x147 y207.1.1 y207.1.2.1 y207.1.2.2 (-1 : Int)) (F10_j1 N nx178 x145 x146 x147 y207.1.1 y207.1.2.1 y207.1.2.2 y207.2.1)) (andO (F41 N (x142, (x143, x144)) (IntKind.i64.wrap (Int.tdiv (a1.getD x147.toNat (Ty.dflt (.int .i64))) (2 : Int))) (a1.getD x147.toNat (Ty.dflt (.int .i64)))) fun y208 => cond (y208.2.1 == (1000001 : Int)) (F10_j1 N nx178 x145 x146 x147 y208.1.1 y208.1.2.1 y208.1.2.2 (-1 : Int)) (F10_j1 N nx178 x145 x146 x147 y208.1.1 y208.1.2.1 y208.1.2.2 y208.2.1))))) (F10_j0 N x142 x143 x144 x145)
def F10_l0 (N : Nat) (a1 : (List Int)) : Nat → Int → (List Int) → (List Int) → (List Int) → Int → Int → Option ((Int × ((List Int) × (List Int))) × (List Int)) := loopF (F10_l0_b N a1) (fun _ _ _ _ _ _ => none)
theorem F10_l0_s (N : Nat) (a1 : (List Int)) {k : Nat} (hk : 0 < k) (x142 : Int) (x143 : (List Int)) (x144 : (List Int)) (x145 : (List Int)) (x146 : Int) (x147 : Int) : F10_l0 N a1 k x142 x143 x144 x145 x146 x147 = F10_l0_b N a1 (F10_l0 N a1 (k - 1)) x142 x143 x144 x145 x146 x147 := by
  cases k with
  | zero => exact absurd hk (Nat.lt_irrefl 0)
  | succ m => rfl
def F10 (N : Nat) (a0 : Int) (a1 : (List Int)) : Option ((Int × ((List Int) × (List Int))) × (List Int)) :=
  andO (F37 N a0) fun y1 => cond (!y1.2) (some (((0 : Int), ([], [])), [])) (cond (decide ((a1.length : Int) > (300 : Int))) (some (((0 : Int), ([], [])), [])) (F10_l0 N a1 N y1.1.1 y1.1.2.1 y1.1.2.2 ([]) (a1.length : Int) (0 : Int)))
theorem ok10 (N : Nat) (a0 : Int) (a1 : (List Int)) {r : (Int × ((List Int) × (List Int))) × (List Int)} (h : F10 N a0 a1 = some r) : Con Go.Proofs.Tryd.prog 10 [I a0, .lf (.v (.sl (.int .i64)) a1)] [.agg [.v (.int .i64) r.1.1, .own (.int .i64) r.1.2.1 .dp, .own (.int .i64) r.1.2.2 .dp], .lf (.own (.int .i64) r.2 .dp)] := by
  refine ctr [.agg [.v (.int .i64), .own (.int .i64) .dp, .own (.int .i64) .dp], .lf (.own (.int .i64) .dp)] T_ok Go.Proofs.Tryd.func10 rfl fun w0 E0 ht => ?_
  unfold F10 at h
  show VW _ _ _ _ _ (retQ _ _ _ _) _
  refine sR T_ok [0, 1, 4] [0] ⟨[(0, I a0), (1, .lf (.v (.sl (.int .i64)) a1)), (4, .lf (.ptr 0 0 0 0))], [bx [.v (.int .i64) (0 : Int), .nil, .nil] 28]⟩ (tn 2) ?_
  refine VW.seq ?_
  refine VW.region ?_
  refine sG T_ok 1 [1, 4, 14] [0] ⟨[(1, .lf (.v (.sl (.int .i64)) a1)), (4, .lf (.ptr 0 0 0 0)), (14, I a0)], [bx [.v (.int .i64) (0 : Int), .nil, .nil] 28]⟩ (tn 1) ?_
  obtain ⟨y1, hy, h⟩ := andO_some h
  refine cal false [.t (.int .i64)] [] (some 15) T_ok (ok37 N _ hy) ?_
  refine sN T_ok [1, 4, 6, 7] [0, 3, 1, 2] ⟨[(1, .lf (.v (.sl (.int .i64)) a1)), (4, .lf (.ptr 0 0 0 0)), (6, .lf (.ptr 1 0 0 0)), (7, B y1.2)], [bx [.v (.int .i64) (0 : Int), .nil, .nil] 28, bx [.v (.int .i64) y1.1.1, .hd 2 0 none, .hd 3 0 none] 28, ar 0 (.int .i64) y1.1.2.1 .dp, ar 0 (.int .i64) y1.1.2.2 .dp]⟩ (tn 6) ?_
  refine VW.seq ?_
  refine VW.seq ?_
  refine VW.region ?_
  refine sG T_ok 3 [1, 4, 6, 20] [0, 1, 2, 3] ⟨[(1, .lf (.v (.sl (.int .i64)) a1)), (4, .lf (.ptr 0 0 0 0)), (6, .lf (.ptr 1 0 0 0)), (20, B (!y1.2))], [bx [.v (.int .i64) (0 : Int), .nil, .nil] 28, bx [.v (.int .i64) y1.1.1, .hd 2 0 none, .hd 3 0 none] 28, ar 0 (.int .i64) y1.1.2.1 .dp, ar 0 (.int .i64) y1.1.2.2 .dp]⟩ (tn 3) ?_
  refine spB 20 h (fun h => ?_) (fun h => ?_)
  · refine sN T_ok [1, 4, 6, 24] [0, 1, 2, 3] ⟨[(1, .lf (.v (.sl (.int .i64)) a1)), (4, .lf (.ptr 0 0 0 0)), (6, .lf (.ptr 1 0 0 0)), (24, B true)], [bx [.v (.int .i64) (0 : Int), .nil, .nil] 28, bx [.v (.int .i64) y1.1.1, .hd 2 0 none, .hd 3 0 none] 28, ar 0 (.int .i64) y1.1.2.1 .dp, ar 0 (.int .i64) y1.1.2.2 .dp]⟩ (tn 4) ?_
    refine VW.cond (b := true) (by kernel_rfl) (fun _ => ?_) (fun h' => nomatch h')
    refine sR T_ok [4, 5] [0] ⟨[(4, .lf (.ptr 0 0 0 0)), (5, .lf (.nil))], [bx [.v (.int .i64) (0 : Int), .nil, .nil] 28]⟩ (tn 3) ?_
    refine VW.ret ?_
    replace h := Option.some.inj h
    subst h
    exact rt [none, none, none]
  refine sN T_ok [1, 4, 6, 24] [0, 1, 2, 3] ⟨[(1, .lf (.v (.sl (.int .i64)) a1)), (4, .lf (.ptr 0 0 0 0)), (6, .lf (.ptr 1 0 0 0)), (24, B (decide ((a1.length : Int) > (300 : Int))))], [bx [.v (.int .i64) (0 : Int), .nil, .nil] 28, bx [.v (.int .i64) y1.1.1, .hd 2 0 none, .hd 3 0 none] 28, ar 0 (.int .i64) y1.1.2.1 .dp, ar 0 (.int .i64) y1.1.2.2 .dp]⟩ (tn 4) ?_
  refine cnd h (fun h => ?_) (fun h => ?_)
  · refine sR T_ok [4, 5] [0] ⟨[(4, .lf (.ptr 0 0 0 0)), (5, .lf (.nil))], [bx [.v (.int .i64) (0 : Int), .nil, .nil] 28]⟩ (tn 3) ?_
    refine VW.ret ?_
    replace h := Option.some.inj h
    subst h
    exact rt [none, none, none]
  refine VW.skip ?_
  refine sR T_ok [1, 4, 6, 8] [0, 1, 2, 3] ⟨[(1, .lf (.v (.sl (.int .i64)) a1)), (4, .lf (.ptr 0 0 0 0)), (6, .lf (.ptr 1 0 0 0)), (8, .lf (.nil))], [bx [.v (.int .i64) (0 : Int), .nil, .nil] 28, bx [.v (.int .i64) y1.1.1, .hd 2 0 none, .hd 3 0 none] 28, ar 0 (.int .i64) y1.1.2.1 .dp, ar 0 (.int .i64) y1.1.2.2 .dp]⟩ (tn 1) ?_
  refine VW.join (fun s => ∃ (x103 : Int) (x104 : (List Int)) (x105 : (List Int)) (x106 : (List Int)), s = ⟨[(4, .lf (.ptr 0 0 0 0)), (6, .lf (.ptr 1 0 0 0)), (8, .lf (.hd 4 0 none))], [bx [.v (.int .i64) (0 : Int), .nil, .nil] 28, bx [.v (.int .i64) x103, .hd 2 0 none, .hd 3 0 none] 28, ar 0 (.int .i64) x104 .dp, ar 0 (.int .i64) x105 .dp, ar 0 (.int .i64) x106 .dp]⟩ ∧ F10_j0 N x103 x104 x105 x106 = some r) ?_ ?_
  · refine sR T_ok [4, 6, 8, 26, 27, 28] [0, 1, 2, 3] ⟨[(4, .lf (.ptr 0 0 0 0)), (6, .lf (.ptr 1 0 0 0)), (8, .lf (.nil)), (26, .lf (.v (.sl (.int .i64)) a1)), (27, I (a1.length : Int)), (28, I (0 : Int))], [bx [.v (.int .i64) (0 : Int), .nil, .nil] 28, bx [.v (.int .i64) y1.1.1, .hd 2 0 none, .hd 3 0 none] 28, ar 0 (.int .i64) y1.1.2.1 .dp, ar 0 (.int .i64) y1.1.2.2 .dp]⟩ (tn 3) ?_
    refine VW.block ?_
    refine lop (fun k s => ∃ (x142 : Int) (x143 : (List Int)) (x144 : (List Int)) (x145 : (List Int)) (x146 : Int) (x147 : Int), s = ⟨[(4, .lf (.ptr 0 0 0 0)), (6, .lf (.ptr 1 0 0 0)), (8, .lf (.hd 4 0 none)), (26, .lf (.v (.sl (.int .i64)) a1)), (27, I x146), (28, I x147)], [bx [.v (.int .i64) (0 : Int), .nil, .nil] 28, bx [.v (.int .i64) x142, .hd 2 0 none, .hd 3 0 none] 28, ar 0 (.int .i64) x143 .dp, ar 0 (.int .i64) x144 .dp, ar 0 (.int .i64) x145 .dp]⟩ ∧ F10_l0 N a1 k x142 x143 x144 x145 x146 x147 = some r) N [.nilS 8 (.int .i64) .dp, .ren [4, 6, 8, 26, 27, 28] [0, 1, 2, 3, 4]] ⟨y1.1.1, y1.1.2.1, y1.1.2.2, [], (a1.length : Int), (0 : Int), rfl, h⟩ ?_
    rintro k178 s ⟨x142, x143, x144, x145, x146, x147, rfl, h⟩
    cases k178 with
    | zero => cases show none = some r from h
    | succ k178 =>
      replace h : F10_l0_b N a1 (F10_l0 N a1 k178) x142 x143 x144 x145 x146 x147 = some r := h
      unfold F10_l0_b at h
      refine sR T_ok [4, 6, 8, 26, 27, 28, 29] [0, 1, 2, 3, 4] ⟨[(4, .lf (.ptr 0 0 0 0)), (6, .lf (.ptr 1 0 0 0)), (8, .lf (.hd 4 0 none)), (26, .lf (.v (.sl (.int .i64)) a1)), (27, I x146), (28, I x147), (29, B (decide (x147 < x146)))], [bx [.v (.int .i64) (0 : Int), .nil, .nil] 28, bx [.v (.int .i64) x142, .hd 2 0 none, .hd 3 0 none] 28, ar 0 (.int .i64) x143 .dp, ar 0 (.int .i64) x144 .dp, ar 0 (.int .i64) x145 .dp]⟩ (tn 1) ?_
      refine VW.seq ?_
      refine cnd h (fun h => ?_) (fun h => ?_)
      · refine VW.skip ?_
        refine VW.seq ?_
        refine VW.block ?_
        obtain ⟨g194, h⟩ := gd_some h
        refine sR T_ok [4, 6, 8, 10, 26, 27, 28] [0, 1, 2, 3, 4] ⟨[(4, .lf (.ptr 0 0 0 0)), (6, .lf (.ptr 1 0 0 0)), (8, .lf (.hd 4 0 none)), (10, I (a1.getD x147.toNat (Ty.dflt (.int .i64)))), (26, .lf (.v (.sl (.int .i64)) a1)), (27, I x146), (28, I x147)], [bx [.v (.int .i64) (0 : Int), .nil, .nil] 28, bx [.v (.int .i64) x142, .hd 2 0 none, .hd 3 0 none] 28, ar 0 (.int .i64) x143 .dp, ar 0 (.int .i64) x144 .dp, ar 0 (.int .i64) x145 .dp]⟩ (an g194 (tn 2)) ?_
        refine sR T_ok [4, 6, 8, 10, 26, 27, 28] [0, 1, 2, 3, 4] ⟨[(4, .lf (.ptr 0 0 0 0)), (6, .lf (.ptr 1 0 0 0)), (8, .lf (.hd 4 0 none)), (10, I (a1.getD x147.toNat (Ty.dflt (.int .i64)))), (26, .lf (.v (.sl (.int .i64)) a1)), (27, I x146), (28, I x147)], [bx [.v (.int .i64) (0 : Int), .nil, .nil] 28, bx [.v (.int .i64) x142, .hd 2 0 none, .hd 3 0 none] 28, ar 0 (.int .i64) x143 .dp, ar 0 (.int .i64) x144 .dp, ar 0 (.int .i64) x145 .dp]⟩ (tn 2) ?_
        refine VW.join (fun s => ∃ (x199 : Int) (x200 : (List Int)) (x201 : (List Int)) (x202 : Int), s = ⟨[(4, .lf (.ptr 0 0 0 0)), (6, .lf (.ptr 1 0 0 0)), (8, .lf (.hd 4 0 none)), (11, I x202), (26, .lf (.v (.sl (.int .i64)) a1)), (27, I x146), (28, I x147)], [bx [.v (.int .i64) (0 : Int), .nil, .nil] 28, bx [.v (.int .i64) x199, .hd 2 0 none, .hd 3 0 none] 28, ar 0 (.int .i64) x200 .dp, ar 0 (.int .i64) x201 .dp, ar 0 (.int .i64) x145 .dp]⟩ ∧ F10_j1 N (F10_l0 N a1 k178) x145 x146 x147 x199 x200 x201 x202 = some r) ?_ ?_
        · refine VW.block ?_
          refine sR T_ok [4, 6, 8, 10, 26, 27, 28, 43] [0, 1, 2, 3, 4] ⟨[(4, .lf (.ptr 0 0 0 0)), (6, .lf (.ptr 1 0 0 0)), (8, .lf (.hd 4 0 none)), (10, I (a1.getD x147.toNat (Ty.dflt (.int .i64)))), (26, .lf (.v (.sl (.int .i64)) a1)), (27, I x146), (28, I x147), (43, B (decide ((a1.getD x147.toNat (Ty.dflt (.int .i64))) < (0 : Int))))], [bx [.v (.int .i64) (0 : Int), .nil, .nil] 28, bx [.v (.int .i64) x142, .hd 2 0 none, .hd 3 0 none] 28, ar 0 (.int .i64) x143 .dp, ar 0 (.int .i64) x144 .dp, ar 0 (.int .i64) x145 .dp]⟩ (tn 3) ?_
          refine cnd h (fun h => ?_) (fun h => ?_)
          · refine VW.seq ?_
            refine VW.region ?_
            refine sG T_ok 4 [4, 6, 8, 26, 27, 28, 47, 50] [0, 1, 2, 3, 4] ⟨[(4, .lf (.ptr 0 0 0 0)), (6, .lf (.ptr 1 0 0 0)), (8, .lf (.hd 4 0 none)), (26, .lf (.v (.sl (.int .i64)) a1)), (27, I x146), (28, I x147), (47, .agg [.v (.int .i64) x142, .hd 2 0 none, .hd 3 0 none]), (50, I (IntKind.i64.wrap ((0 : Int) - (IntKind.i64.wrap ((a1.getD x147.toNat (Ty.dflt (.int .i64))) + (1 : Int))))))], [bx [.v (.int .i64) (0 : Int), .nil, .nil] 28, bx [.v (.int .i64) x142, .hd 2 0 none, .hd 3 0 none] 28, ar 0 (.int .i64) x143 .dp, ar 0 (.int .i64) x144 .dp, ar 0 (.int .i64) x145 .dp]⟩ (tn 4) ?_
            obtain ⟨y205, hy, h⟩ := andO_some h
            refine cal true [.t Y27, .t (.int .i64)] [] (some 51) T_ok (ok38 N _ _ hy) ?_
            refine sN T_ok [4, 6, 8, 12, 26, 27, 28] [0, 1, 5, 6, 4] ⟨[(4, .lf (.ptr 0 0 0 0)), (6, .lf (.ptr 1 0 0 0)), (8, .lf (.hd 4 0 none)), (12, B y205.2), (26, .lf (.v (.sl (.int .i64)) a1)), (27, I x146), (28, I x147)], [bx [.v (.int .i64) (0 : Int), .nil, .nil] 28, bx [.v (.int .i64) y205.1.1, .hd 2 0 none, .hd 3 0 none] 28, ar 0 (.int .i64) y205.1.2.1 .dp, ar 0 (.int .i64) y205.1.2.2 .dp, ar 0 (.int .i64) x145 .dp]⟩ (tn 5) ?_
            refine VW.region ?_
            refine sG T_ok 1 [4, 6, 8, 26, 27, 28, 54] [0, 1, 2, 3, 4] ⟨[(4, .lf (.ptr 0 0 0 0)), (6, .lf (.ptr 1 0 0 0)), (8, .lf (.hd 4 0 none)), (26, .lf (.v (.sl (.int .i64)) a1)), (27, I x146), (28, I x147), (54, B y205.2)], [bx [.v (.int .i64) (0 : Int), .nil, .nil] 28, bx [.v (.int .i64) y205.1.1, .hd 2 0 none, .hd 3 0 none] 28, ar 0 (.int .i64) y205.1.2.1 .dp, ar 0 (.int .i64) y205.1.2.2 .dp, ar 0 (.int .i64) x145 .dp]⟩ (tn 1) ?_
            obtain ⟨y206, hy, h⟩ := andO_some h
            refine cal false [.t .bool] [] (some 55) T_ok (ok39 N _ hy) ?_
            refine sN T_ok [4, 6, 8, 11, 26, 27, 28] [0, 1, 2, 3, 4] ⟨[(4, .lf (.ptr 0 0 0 0)), (6, .lf (.ptr 1 0 0 0)), (8, .lf (.hd 4 0 none)), (11, I y206), (26, .lf (.v (.sl (.int .i64)) a1)), (27, I x146), (28, I x147)], [bx [.v (.int .i64) (0 : Int), .nil, .nil] 28, bx [.v (.int .i64) y205.1.1, .hd 2 0 none, .hd 3 0 none] 28, ar 0 (.int .i64) y205.1.2.1 .dp, ar 0 (.int .i64) y205.1.2.2 .dp, ar 0 (.int .i64) x145 .dp]⟩ (tn 1) ?_
            exact arv [.ren [4, 6, 8, 11, 26, 27, 28] [0, 1, 2, 3, 4]] ⟨y205.1.1, y205.1.2.1, y205.1.2.2, y206, rfl, h⟩
          refine sR T_ok [4, 6, 8, 10, 26, 27, 28, 56] [0, 1, 2, 3, 4] ⟨[(4, .lf (.ptr 0 0 0 0)), (6, .lf (.ptr 1 0 0 0)), (8, .lf (.hd 4 0 none)), (10, I (a1.getD x147.toNat (Ty.dflt (.int .i64)))), (26, .lf (.v (.sl (.int .i64)) a1)), (27, I x146), (28, I x147), (56, B ((Int.tmod (a1.getD x147.toNat (Ty.dflt (.int .i64))) (2 : Int)) == (0 : Int)))], [bx [.v (.int .i64) (0 : Int), .nil, .nil] 28, bx [.v (.int .i64) x142, .hd 2 0 none, .hd 3 0 none] 28, ar 0 (.int .i64) x143 .dp, ar 0 (.int .i64) x144 .dp, ar 0 (.int .i64) x145 .dp]⟩ (pu 1 (an (show ((2 : Int) ≠ 0) from by decide) (tn 2))) ?_
          refine cnd h (fun h => ?_) (fun h => ?_)
          · refine VW.seq ?_
            refine VW.region ?_
            refine sG T_ok 3 [4, 6, 8, 26, 27, 28, 61, 63] [0, 1, 2, 3, 4] ⟨[(4, .lf (.ptr 0 0 0 0)), (6, .lf (.ptr 1 0 0 0)), (8, .lf (.hd 4 0 none)), (26, .lf (.v (.sl (.int .i64)) a1)), (27, I x146), (28, I x147), (61, .agg [.v (.int .i64) x142, .hd 2 0 none, .hd 3 0 none]), (63, I (IntKind.i64.wrap (Int.tdiv (a1.getD x147.toNat (Ty.dflt (.int .i64))) (2 : Int))))], [bx [.v (.int .i64) (0 : Int), .nil, .nil] 28, bx [.v (.int .i64) x142, .hd 2 0 none, .hd 3 0 none] 28, ar 0 (.int .i64) x143 .dp, ar 0 (.int .i64) x144 .dp, ar 0 (.int .i64) x145 .dp]⟩ (pu 2 (an (show ((2 : Int) ≠ 0) from by decide) (tn 0))) ?_
            obtain ⟨y207, hy, h⟩ := andO_some h
            refine cal true [.t Y27, .t (.int .i64)] [] (some 64) T_ok (ok40 N _ _ hy) ?_
            refine sN T_ok [4, 6, 8, 11, 12, 26, 27, 28] [0, 1, 5, 6, 4] ⟨[(4, .lf (.ptr 0 0 0 0)), (6, .lf (.ptr 1 0 0 0)), (8, .lf (.hd 4 0 none)), (11, I y207.2.1), (12, B y207.2.2), (26, .lf (.v (.sl (.int .i64)) a1)), (27, I x146), (28, I x147)], [bx [.v (.int .i64) (0 : Int), .nil, .nil] 28, bx [.v (.int .i64) y207.1.1, .hd 2 0 none, .hd 3 0 none] 28, ar 0 (.int .i64) y207.1.2.1 .dp, ar 0 (.int .i64) y207.1.2.2 .dp, ar 0 (.int .i64) x145 .dp]⟩ (tn 7) ?_
            refine sR T_ok [4, 6, 8, 11, 26, 27, 28, 69] [0, 1, 2, 3, 4] ⟨[(4, .lf (.ptr 0 0 0 0)), (6, .lf (.ptr 1 0 0 0)), (8, .lf (.hd 4 0 none)), (11, I y207.2.1), (26, .lf (.v (.sl (.int .i64)) a1)), (27, I x146), (28, I x147), (69, B (!y207.2.2))], [bx [.v (.int .i64) (0 : Int), .nil, .nil] 28, bx [.v (.int .i64) y207.1.1, .hd 2 0 none, .hd 3 0 none] 28, ar 0 (.int .i64) y207.1.2.1 .dp, ar 0 (.int .i64) y207.1.2.2 .dp, ar 0 (.int .i64) x145 .dp]⟩ (tn 2) ?_
            refine cnd h (fun h => ?_) (fun h => ?_)
            · refine rR T_ok [4, 6, 8, 11, 26, 27, 28] [0, 1, 2, 3, 4] ⟨[(4, .lf (.ptr 0 0 0 0)), (6, .lf (.ptr 1 0 0 0)), (8, .lf (.hd 4 0 none)), (11, I (-1 : Int)), (26, .lf (.v (.sl (.int .i64)) a1)), (27, I x146), (28, I x147)], [bx [.v (.int .i64) (0 : Int), .nil, .nil] 28, bx [.v (.int .i64) y207.1.1, .hd 2 0 none, .hd 3 0 none] 28, ar 0 (.int .i64) y207.1.2.1 .dp, ar 0 (.int .i64) y207.1.2.2 .dp, ar 0 (.int .i64) x145 .dp]⟩ (tn 1) ?_
              exact arv [.ren [4, 6, 8, 11, 26, 27, 28] [0, 1, 2, 3, 4]] ⟨y207.1.1, y207.1.2.1, y207.1.2.2, (-1 : Int), rfl, h⟩
            refine VW.skip ?_
            exact arv [.ren [4, 6, 8, 11, 26, 27, 28] [0, 1, 2, 3, 4]] ⟨y207.1.1, y207.1.2.1, y207.1.2.2, y207.2.1, rfl, h⟩
          refine VW.seq ?_
          refine VW.region ?_
          refine sG T_ok 4 [4, 6, 8, 26, 27, 28, 33, 35, 36] [0, 1, 2, 3, 4] ⟨[(4, .lf (.ptr 0 0 0 0)), (6, .lf (.ptr 1 0 0 0)), (8, .lf (.hd 4 0 none)), (26, .lf (.v (.sl (.int .i64)) a1)), (27, I x146), (28, I x147), (33, .agg [.v (.int .i64) x142, .hd 2 0 none, .hd 3 0 none]), (35, I (IntKind.i64.wrap (Int.tdiv (a1.getD x147.toNat (Ty.dflt (.int .i64))) (2 : Int)))), (36, I (a1.getD x147.toNat (Ty.dflt (.int .i64))))], [bx [.v (.int .i64) (0 : Int), .nil, .nil] 28, bx [.v (.int .i64) x142, .hd 2 0 none, .hd 3 0 none] 28, ar 0 (.int .i64) x143 .dp, ar 0 (.int .i64) x144 .dp, ar 0 (.int .i64) x145 .dp]⟩ (pu 2 (an (show ((2 : Int) ≠ 0) from by decide) (tn 1))) ?_
          obtain ⟨y208, hy, h⟩ := andO_some h
          refine cal true [.t Y27, .t (.int .i64), .t (.int .i64)] [] (some 37) T_ok (ok41 N _ _ _ hy) ?_
          refine sN T_ok [4, 6, 8, 11, 26, 27, 28] [0, 1, 5, 6, 4] ⟨[(4, .lf (.ptr 0 0 0 0)), (6, .lf (.ptr 1 0 0 0)), (8, .lf (.hd 4 0 none)), (11, I y208.2.1), (26, .lf (.v (.sl (.int .i64)) a1)), (27, I x146), (28, I x147)], [bx [.v (.int .i64) (0 : Int), .nil, .nil] 28, bx [.v (.int .i64) y208.1.1, .hd 2 0 none, .hd 3 0 none] 28, ar 0 (.int .i64) y208.1.2.1 .dp, ar 0 (.int .i64) y208.1.2.2 .dp, ar 0 (.int .i64) x145 .dp]⟩ (tn 6) ?_
          refine sR T_ok [4, 6, 8, 11, 26, 27, 28, 42] [0, 1, 2, 3, 4] ⟨[(4, .lf (.ptr 0 0 0 0)), (6, .lf (.ptr 1 0 0 0)), (8, .lf (.hd 4 0 none)), (11, I y208.2.1), (26, .lf (.v (.sl (.int .i64)) a1)), (27, I x146), (28, I x147), (42, B (y208.2.1 == (1000001 : Int)))], [bx [.v (.int .i64) (0 : Int), .nil, .nil] 28, bx [.v (.int .i64) y208.1.1, .hd 2 0 none, .hd 3 0 none] 28, ar 0 (.int .i64) y208.1.2.1 .dp, ar 0 (.int .i64) y208.1.2.2 .dp, ar 0 (.int .i64) x145 .dp]⟩ (tn 2) ?_
          refine cnd h (fun h => ?_) (fun h => ?_)
          · refine rR T_ok [4, 6, 8, 11, 26, 27, 28] [0, 1, 2, 3, 4] ⟨[(4, .lf (.ptr 0 0 0 0)), (6, .lf (.ptr 1 0 0 0)), (8, .lf (.hd 4 0 none)), (11, I (-1 : Int)), (26, .lf (.v (.sl (.int .i64)) a1)), (27, I x146), (28, I x147)], [bx [.v (.int .i64) (0 : Int), .nil, .nil] 28, bx [.v (.int .i64) y208.1.1, .hd 2 0 none, .hd 3 0 none] 28, ar 0 (.int .i64) y208.1.2.1 .dp, ar 0 (.int .i64) y208.1.2.2 .dp, ar 0 (.int .i64) x145 .dp]⟩ (tn 1) ?_
            exact arv [.ren [4, 6, 8, 11, 26, 27, 28] [0, 1, 2, 3, 4]] ⟨y208.1.1, y208.1.2.1, y208.1.2.2, (-1 : Int), rfl, h⟩
          refine VW.skip ?_
          exact arv [.ren [4, 6, 8, 11, 26, 27, 28] [0, 1, 2, 3, 4]] ⟨y208.1.1, y208.1.2.1, y208.1.2.2, y208.2.1, rfl, h⟩
        rintro s ⟨x199, x200, x201, x202, rfl, h⟩
        unfold F10_j1 at h
        obtain ⟨g203, h⟩ := gd_some h
        refine rR T_ok [4, 6, 8, 26, 27, 28] [0, 1, 2, 3, 4] ⟨[(4, .lf (.ptr 0 0 0 0)), (6, .lf (.ptr 1 0 0 0)), (8, .lf (.hd 4 0 none)), (26, .lf (.v (.sl (.int .i64)) a1)), (27, I x146), (28, I x147)], [bx [.v (.int .i64) (0 : Int), .nil, .nil] 28, bx [.v (.int .i64) x199, .hd 2 0 none, .hd 3 0 none] 28, ar 0 (.int .i64) x200 .dp, ar 0 (.int .i64) x201 .dp, ar 0 (.int .i64) (x145 ++ ([x202])) .dp]⟩ (pu 3 (an g203 (tn 1))) ?_
        refine rR T_ok [4, 6, 8, 26, 27, 28] [0, 1, 2, 3, 4] ⟨[(4, .lf (.ptr 0 0 0 0)), (6, .lf (.ptr 1 0 0 0)), (8, .lf (.hd 4 0 none)), (26, .lf (.v (.sl (.int .i64)) a1)), (27, I x146), (28, I (IntKind.i64.wrap (x147 + (1 : Int))))], [bx [.v (.int .i64) (0 : Int), .nil, .nil] 28, bx [.v (.int .i64) x199, .hd 2 0 none, .hd 3 0 none] 28, ar 0 (.int .i64) x200 .dp, ar 0 (.int .i64) x201 .dp, ar 0 (.int .i64) (x145 ++ ([x202])) .dp]⟩ (tn 2) ?_
        exact aro [.ren [4, 6, 8, 26, 27, 28] [0, 1, 2, 3, 4]] ⟨x199, x200, x201, (x145 ++ ([x202])), x146, (IntKind.i64.wrap (x147 + (1 : Int))), rfl, h⟩
      refine VW.exit ?_
      exact arv [.ren [4, 6, 8] [0, 1, 2, 3, 4]] ⟨x142, x143, x144, x145, rfl, h⟩
  rintro s ⟨x103, x104, x105, x106, rfl, h⟩
  unfold F10_j0 at h
  refine sR T_ok [4, 5] [0, 2, 3, 4] ⟨[(4, .lf (.ptr 0 0 0 0)), (5, .lf (.hd 3 0 none))], [bx [.v (.int .i64) x103, .hd 1 0 none, .hd 2 0 none] 28, ar 0 (.int .i64) x104 .dp, ar 0 (.int .i64) x105 .dp, ar 0 (.int .i64) x106 .dp]⟩ (tn 4) ?_
  refine VW.ret ?_
  replace h := Option.some.inj h
  subst h
  exact rt [some 1, some 2, some 3]

/- loop.example/g00844/laws.same -/
def F11_j0 (N : Nat) : Option (Bool) :=
  some true
def F11_l0_b (N : Nat) (a0 : (List Int)) (a1 : (List Int)) (nx25 : Int → Option (Bool)) (x20 : Int) : Option (Bool) :=
  cond (decide (x20 < (a0.length : Int))) (gd (InR x20 a0.length) (gd (InR x20 a1.length) (cond ((a0.getD x20.toNat (Ty.dflt (.int .i64))) != (a1.getD x20.toNat (Ty.dflt (.int .i64)))) (some false) (nx25 (IntKind.i64.wrap (x20 + (1 : Int))))))) (F11_j0 N)
def F11_l0 (N : Nat) (a0 : (List Int)) (a1 : (List Int)) : Nat → Int → Option (Bool) := loopF (F11_l0_b N a0 a1) (fun _ => none)
theorem F11_l0_s (N : Nat) (a0 : (List Int)) (a1 : (List Int)) {k : Nat} (hk : 0 < k) (x20 : Int) : F11_l0 N a0 a1 k x20 = F11_l0_b N a0 a1 (F11_l0 N a0 a1 (k - 1)) x20 := by
  cases k with
  | zero => exact absurd hk (Nat.lt_irrefl 0)
  | succ m => rfl
def F11 (N : Nat) (a0 : (List Int)) (a1 : (List Int)) : Option (Bool) :=
  cond ((a0.length : Int) != (a1.length : Int)) (some false) (F11_l0 N a0 a1 N (0 : Int))
theorem ok11 (N : Nat) (a0 : (List Int)) (a1 : (List Int)) {r : Bool} (h : F11 N a0 a1 = some r) : Con Go.Proofs.Tryd.prog 11 [.lf (.v (.sl (.int .i64)) a0), .lf (.v (.sl (.int .i64)) a1)] [.lf (.v .bool r)] := by
  refine ctr [.lf (.v .bool)] T_ok Go.Proofs.Tryd.func11 rfl fun w0 E0 ht => ?_
  unfold F11 at h
  show VW _ _ _ _ _ (retQ _ _ _ _) _
  refine sR T_ok [0, 1] [] ⟨[(0, .lf (.v (.sl (.int .i64)) a0)), (1, .lf (.v (.sl (.int .i64)) a1))], []⟩ (tn 1) ?_
  refine VW.seq ?_
  refine sR T_ok [0, 1, 10] [] ⟨[(0, .lf (.v (.sl (.int .i64)) a0)), (1, .lf (.v (.sl (.int .i64)) a1)), (10, B ((a0.length : Int) != (a1.length : Int)))], []⟩ (tn 5) ?_
  refine cnd h (fun h => ?_) (fun h => ?_)
  · refine sR T_ok [4] [] ⟨[(4, B false)], []⟩ (tn 1) ?_
    refine VW.ret ?_
    replace h := Option.some.inj h
    subst h
    exact rt []
  refine VW.skip ?_
  refine VW.join (fun s => s = ⟨[], []⟩ ∧ F11_j0 N = some r) ?_ ?_
  · refine sR T_ok [0, 1, 5] [] ⟨[(0, .lf (.v (.sl (.int .i64)) a0)), (1, .lf (.v (.sl (.int .i64)) a1)), (5, I (0 : Int))], []⟩ (tn 1) ?_
    refine VW.block ?_
    refine lop (fun k s => ∃ (x20 : Int), s = ⟨[(0, .lf (.v (.sl (.int .i64)) a0)), (1, .lf (.v (.sl (.int .i64)) a1)), (5, I x20)], []⟩ ∧ F11_l0 N a0 a1 k x20 = some r) N [.ren [0, 1, 5] []] ⟨(0 : Int), rfl, h⟩ ?_
    rintro k25 s ⟨x20, rfl, h⟩
    cases k25 with
    | zero => cases show none = some r from h
    | succ k25 =>
      replace h : F11_l0_b N a0 a1 (F11_l0 N a0 a1 k25) x20 = some r := h
      unfold F11_l0_b at h
      refine VW.seq ?_
      refine sR T_ok [0, 1, 5, 14] [] ⟨[(0, .lf (.v (.sl (.int .i64)) a0)), (1, .lf (.v (.sl (.int .i64)) a1)), (5, I x20), (14, B (decide (x20 < (a0.length : Int))))], []⟩ (tn 4) ?_
      refine cnd h (fun h => ?_) (fun h => ?_)
      · refine VW.skip ?_
        refine VW.seq ?_
        refine VW.block ?_
        refine VW.seq ?_
        obtain ⟨g28, h⟩ := gd_some h
        obtain ⟨g29, h⟩ := gd_some h
        refine VW.drawn (by kernel_rfl) [some (17, .lf (.v (.sl (.int .i64)) a0)), some (18, I x20), some (19, .lf (.fp (.int .i64) (a0.getD x20.toNat (Ty.dflt (.int .i64))) 0)), some (20, I (a0.getD x20.toNat (Ty.dflt (.int .i64)))), some (21, .lf (.v (.sl (.int .i64)) a1)), some (22, I x20), some (23, .lf (.fp (.int .i64) (a1.getD x20.toNat (Ty.dflt (.int .i64))) 0)), some (24, I (a1.getD x20.toNat (Ty.dflt (.int .i64)))), some (25, B ((a0.getD x20.toNat (Ty.dflt (.int .i64))) != (a1.getD x20.toNat (Ty.dflt (.int .i64)))))] [] [[]] [(0, 0), (1, 0), (2, 0), (3, 0), (4, 0), (5, 0), (6, 0), (7, 0), (8, 0)] [0, 1, 5, 25] [] (s' := ⟨[(0, .lf (.v (.sl (.int .i64)) a0)), (1, .lf (.v (.sl (.int .i64)) a1)), (5, I x20), (25, B ((a0.getD x20.toNat (Ty.dflt (.int .i64))) != (a1.getD x20.toNat (Ty.dflt (.int .i64)))))], []⟩) (by kernel_rfl) (by kernel_rfl) ⟨⟨_, rfl, Stp.ev T_ok (m := .dp) (φ := True) (by kernel_rfl) trivial⟩,
    ⟨_, rfl, Stp.ev T_ok (m := .dp) (φ := True) (by kernel_rfl) trivial⟩,
    ⟨_, rfl, Stp.ev T_ok (m := .dp) (φ := InR x20 a0.length) (by kernel_rfl) g28⟩,
    ⟨_, rfl, Stp.ev T_ok (m := .dp) (φ := True) (by kernel_rfl) trivial⟩,
    ⟨_, rfl, Stp.ev T_ok (m := .dp) (φ := True) (by kernel_rfl) trivial⟩,
    ⟨_, rfl, Stp.ev T_ok (m := .dp) (φ := True) (by kernel_rfl) trivial⟩,
    ⟨_, rfl, Stp.ev T_ok (m := .dp) (φ := InR x20 a1.length) (by kernel_rfl) g29⟩,
    ⟨_, rfl, Stp.ev T_ok (m := .dp) (φ := True) (by kernel_rfl) trivial⟩,
    ⟨_, rfl, Stp.ev T_ok (m := .dp) (φ := True) (by kernel_rfl) trivial⟩, trivial⟩ (by kernel_rfl) ?_
        refine cnd h (fun h => ?_) (fun h => ?_)
        · refine sR T_ok [4] [] ⟨[(4, B false)], []⟩ (tn 1) ?_
          refine VW.ret ?_
          replace h := Option.some.inj h
          subst h
          exact rt []
        refine VW.skip ?_
        refine rR T_ok [0, 1, 5] [] ⟨[(0, .lf (.v (.sl (.int .i64)) a0)), (1, .lf (.v (.sl (.int .i64)) a1)), (5, I (IntKind.i64.wrap (x20 + (1 : Int))))], []⟩ (tn 3) ?_
        exact aro [.ren [0, 1, 5] []] ⟨(IntKind.i64.wrap (x20 + (1 : Int))), rfl, h⟩
      refine VW.exit ?_
      exact arv [.ren [] []] ⟨rfl, h⟩
  rintro s ⟨rfl, h⟩
  unfold F11_j0 at h
  refine sR T_ok [4] [] ⟨[(4, B true)], []⟩ (tn 1) ?_
  refine VW.ret ?_
  replace h := Option.some.inj h
  subst h
  exact rt []

/- strconv.Itoa: proved of any program that bears it -/
def F64 (N : Nat) (a0 : Int) : Option (ByteArray) :=
  gd (-9223372036854775808 ≤ a0 ∧ a0 ≤ 9223372036854775807) (some ⟨(Lib.itoa a0).toArray⟩)
theorem ok64 (N : Nat) (a0 : Int) {r : ByteArray} (h : F64 N a0 = some r) : Con Go.Proofs.Tryd.prog 64 [I a0] [.lf (.v .str r)] := by
  obtain ⟨g, h⟩ := gd_some h
  cases h
  exact con_itoa (g := 0) (by kernel_rfl) (enters_of Go.Proofs.Tryd.func64 rfl (by decide)) (fun w ht => Go.Proofs.Tryd.strconv_Itoa a0 g.1 g.2 w ht)

/- loop.example/g00844/impl.number -/
def F42 (N : Nat) (a0 : Int) : Option (ByteArray) :=
  andO (F64 N a0) fun y1 => some y1
theorem ok42 (N : Nat) (a0 : Int) {r : ByteArray} (h : F42 N a0 = some r) : Con Go.Proofs.Tryd.prog 42 [I a0] [.lf (.v .str r)] := by
  refine ctr [.lf (.v .str)] T_ok Go.Proofs.Tryd.func42 rfl fun w0 E0 ht => ?_
  unfold F42 at h
  show VW _ _ _ _ _ (retQ _ _ _ _) _
  refine sR T_ok [0] [] ⟨[(0, I a0)], []⟩ (tn 1) ?_
  refine VW.seq ?_
  refine VW.region ?_
  refine sG T_ok 1 [3] [] ⟨[(3, I a0)], []⟩ (tn 1) ?_
  obtain ⟨y1, hy, h⟩ := andO_some h
  refine cal false [.t (.int .i64)] [] (some 4) T_ok (ok64 N _ hy) ?_
  refine sN T_ok [2] [] ⟨[(2, S y1)], []⟩ (tn 1) ?_
  refine VW.ret ?_
  replace h := Option.some.inj h
  subst h
  exact rt []

/- strings.Join: proved of any program that bears it -/
def F65 (N : Nat) (a0 : (List ByteArray)) (a1 : ByteArray) : Option (ByteArray) :=
  gd (a0.length ≤ 140737488355328 ∧ (Lib.join (a0.map (·.data.toList)) a1.data.toList).length ≤ 140737488355328) (some ⟨(Lib.join (a0.map (·.data.toList)) a1.data.toList).toArray⟩)
theorem ok65 (N : Nat) (a0 : (List ByteArray)) (a1 : ByteArray) {r : ByteArray} (h : F65 N a0 a1 = some r) : Con Go.Proofs.Tryd.prog 65 [.lf (.v (.sl .str) a0), S a1] [.lf (.v .str r)] := by
  obtain ⟨g, h⟩ := gd_some h
  cases h
  exact con_join (enters_of Go.Proofs.Tryd.func65 rfl (by decide)) g.1 g.2 (fun a c w => Go.Proofs.Tryd.strings_Join_none a c a1 w) (fun bk o c w h1 h2 h3 => Go.Proofs.Tryd.strings_Join bk o c a0 a1 w h1 h2 g.1 h3 g.2)

/- loop.example/g00844/impl.spaced -/
def F43 (N : Nat) (a0 : (List ByteArray)) : Option (ByteArray) :=
  andO (F65 N a0 (⟨#[32]⟩ : ByteArray)) fun y1 => some y1
theorem ok43 (N : Nat) (a0 : (List ByteArray)) {r : ByteArray} (h : F43 N a0 = some r) : Con Go.Proofs.Tryd.prog 43 [.lf (.v (.sl .str) a0)] [.lf (.v .str r)] := by
  refine ctr [.lf (.v .str)] T_ok Go.Proofs.Tryd.func43 rfl fun w0 E0 ht => ?_
  unfold F43 at h
  show VW _ _ _ _ _ (retQ _ _ _ _) _
  refine sR T_ok [0] [] ⟨[(0, .lf (.v (.sl .str) a0))], []⟩ (tn 1) ?_
  refine VW.seq ?_
  refine VW.region ?_
  refine sG T_ok 1 [3] [] ⟨[(3, .lf (.v (.sl .str) a0))], []⟩ (tn 1) ?_
  obtain ⟨y1, hy, h⟩ := andO_some h
  refine cal false [.t (.sl .str), .t .str] [] (some 4) T_ok (ok65 N _ _ hy) ?_
  refine sN T_ok [2] [] ⟨[(2, S y1)], []⟩ (tn 1) ?_
  refine VW.ret ?_
  replace h := Option.some.inj h
  subst h
  exact rt []

/- loop.example/g00844/impl.CacheText -/
def F12_j0 (N : Nat) (x58 : (List ByteArray)) : Option (ByteArray) :=
  andO (F43 N x58) fun y59 => some y59
def F12_l0_b (N : Nat) (nx101 : Int → (List Int) → (List Int) → (List ByteArray) → (List Int) → Int → Int → Option (ByteArray)) (x80 : Int) (x81 : (List Int)) (x82 : (List Int)) (x83 : (List ByteArray)) (x84 : (List Int)) (x85 : Int) (x86 : Int) : Option (ByteArray) :=
  cond (decide (x86 < x85)) (gd (InR x86 x84.length) (andO (F42 N (x84.getD x86.toNat (Ty.dflt (.int .i64)))) fun y110 => gd (y110.size + (⟨#[61]⟩ : ByteArray).size ≤ 9223372036854775807) (gd (InR x86 x82.length) (andO (F42 N (x82.getD x86.toNat (Ty.dflt (.int .i64)))) fun y113 => gd ((y110 ++ (⟨#[61]⟩ : ByteArray)).size + y113.size ≤ 9223372036854775807) (gd (x83.length + ([((y110 ++ (⟨#[61]⟩ : ByteArray)) ++ y113)]).length ≤ lim .str) (nx101 x80 x81 x82 (x83 ++ ([((y110 ++ (⟨#[61]⟩ : ByteArray)) ++ y113)])) x84 x85 (IntKind.i64.wrap (x86 + (1 : Int))))))))) (F12_j0 N x83)
def F12_l0 (N : Nat) : Nat → Int → (List Int) → (List Int) → (List ByteArray) → (List Int) → Int → Int → Option (ByteArray) := loopF (F12_l0_b N) (fun _ _ _ _ _ _ _ => none)
theorem F12_l0_s (N : Nat) {k : Nat} (hk : 0 < k) (x80 : Int) (x81 : (List Int)) (x82 : (List Int)) (x83 : (List ByteArray)) (x84 : (List Int)) (x85 : Int) (x86 : Int) : F12_l0 N k x80 x81 x82 x83 x84 x85 x86 = F12_l0_b N (F12_l0 N (k - 1)) x80 x81 x82 x83 x84 x85 x86 := by
  cases k with
  | zero => exact absurd hk (Nat.lt_irrefl 0)
  | succ m => rfl
def F12 (N : Nat) (a0 : (Int × ((List Int) × (List Int)))) : Option (ByteArray) :=
  andO (F15 N a0) fun y2 => cond (!y2) (some ByteArray.empty) (cond ((a0.2.1.length : Int) == (0 : Int)) (some (⟨#[45]⟩ : ByteArray)) (F12_l0 N N a0.1 a0.2.1 a0.2.2 ([]) a0.2.1 (a0.2.1.length : Int) (0 : Int)))
theorem ok12 (N : Nat) (a0 : (Int × ((List Int) × (List Int)))) {r : ByteArray} (h : F12 N a0 = some r) : Con Go.Proofs.Tryd.prog 12 [.agg [.v (.int .i64) a0.1, .v (.sl (.int .i64)) a0.2.1, .v (.sl (.int .i64)) a0.2.2]] [.lf (.v .str r)] := by
  refine ctr [.lf (.v .str)] T_ok Go.Proofs.Tryd.func12 rfl fun w0 E0 ht => ?_
  unfold F12 at h
  show VW _ _ _ _ _ (retQ _ _ _ _) _
  refine sR T_ok [1] [0] ⟨[(1, .lf (.ptr 0 0 0 0))], [bx [.v (.int .i64) a0.1, .v (.sl (.int .i64)) a0.2.1, .v (.sl (.int .i64)) a0.2.2] 28]⟩ (tn 2) ?_
  refine VW.seq ?_
  refine VW.seq ?_
  refine VW.region ?_
  refine sG T_ok 1 [1, 6] [0] ⟨[(1, .lf (.ptr 0 0 0 0)), (6, .agg [.v (.int .i64) a0.1, .v (.sl (.int .i64)) a0.2.1, .v (.sl (.int .i64)) a0.2.2])], [bx [.v (.int .i64) a0.1, .v (.sl (.int .i64)) a0.2.1, .v (.sl (.int .i64)) a0.2.2] 28]⟩ (tn 1) ?_
  obtain ⟨y2, hy, h⟩ := andO_some h
  refine cal false [.t Y27] [] (some 7) T_ok (ok15 N _ hy) ?_
  refine sN T_ok [1, 8] [0] ⟨[(1, .lf (.ptr 0 0 0 0)), (8, B (!y2))], [bx [.v (.int .i64) a0.1, .v (.sl (.int .i64)) a0.2.1, .v (.sl (.int .i64)) a0.2.2] 28]⟩ (tn 1) ?_
  refine cnd h (fun h => ?_) (fun h => ?_)
  · refine sR T_ok [2] [] ⟨[(2, S ByteArray.empty)], []⟩ (tn 1) ?_
    refine VW.ret ?_
    replace h := Option.some.inj h
    subst h
    exact rt []
  refine VW.skip ?_
  refine VW.seq ?_
  refine sR T_ok [1, 12] [0] ⟨[(1, .lf (.ptr 0 0 0 0)), (12, B ((a0.2.1.length : Int) == (0 : Int)))], [bx [.v (.int .i64) a0.1, .v (.sl (.int .i64)) a0.2.1, .v (.sl (.int .i64)) a0.2.2] 28]⟩ (tn 4) ?_
  refine cnd h (fun h => ?_) (fun h => ?_)
  · refine sR T_ok [2] [] ⟨[(2, S (⟨#[45]⟩ : ByteArray))], []⟩ (tn 1) ?_
    refine VW.ret ?_
    replace h := Option.some.inj h
    subst h
    exact rt []
  refine VW.skip ?_
  refine sR T_ok [1, 3] [0] ⟨[(1, .lf (.ptr 0 0 0 0)), (3, .lf (.nil))], [bx [.v (.int .i64) a0.1, .v (.sl (.int .i64)) a0.2.1, .v (.sl (.int .i64)) a0.2.2] 28]⟩ (tn 1) ?_
  refine VW.join (fun s => ∃ (x58 : (List ByteArray)), s = ⟨[(3, .lf (.hd 0 0 none))], [ar 0 .str x58 .dp]⟩ ∧ F12_j0 N x58 = some r) ?_ ?_
  · refine sR T_ok [1, 3, 14, 15, 16] [0] ⟨[(1, .lf (.ptr 0 0 0 0)), (3, .lf (.nil)), (14, .lf (.v (.sl (.int .i64)) a0.2.1)), (15, I (a0.2.1.length : Int)), (16, I (0 : Int))], [bx [.v (.int .i64) a0.1, .v (.sl (.int .i64)) a0.2.1, .v (.sl (.int .i64)) a0.2.2] 28]⟩ (tn 4) ?_
    refine VW.block ?_
    refine lop (fun k s => ∃ (x80 : Int) (x81 : (List Int)) (x82 : (List Int)) (x83 : (List ByteArray)) (x84 : (List Int)) (x85 : Int) (x86 : Int), s = ⟨[(1, .lf (.ptr 0 0 0 0)), (3, .lf (.hd 1 0 none)), (14, .lf (.v (.sl (.int .i64)) x84)), (15, I x85), (16, I x86)], [bx [.v (.int .i64) x80, .v (.sl (.int .i64)) x81, .v (.sl (.int .i64)) x82] 28, ar 0 .str x83 .dp]⟩ ∧ F12_l0 N k x80 x81 x82 x83 x84 x85 x86 = some r) N [.nilS 3 .str .dp, .ren [1, 3, 14, 15, 16] [0, 1]] ⟨a0.1, a0.2.1, a0.2.2, [], a0.2.1, (a0.2.1.length : Int), (0 : Int), rfl, h⟩ ?_
    rintro k101 s ⟨x80, x81, x82, x83, x84, x85, x86, rfl, h⟩
    cases k101 with
    | zero => cases show none = some r from h
    | succ k101 =>
      replace h : F12_l0_b N (F12_l0 N k101) x80 x81 x82 x83 x84 x85 x86 = some r := h
      unfold F12_l0_b at h
      refine sR T_ok [1, 3, 14, 15, 16, 17] [0, 1] ⟨[(1, .lf (.ptr 0 0 0 0)), (3, .lf (.hd 1 0 none)), (14, .lf (.v (.sl (.int .i64)) x84)), (15, I x85), (16, I x86), (17, B (decide (x86 < x85)))], [bx [.v (.int .i64) x80, .v (.sl (.int .i64)) x81, .v (.sl (.int .i64)) x82] 28, ar 0 .str x83 .dp]⟩ (tn 1) ?_
      refine VW.seq ?_
      refine cnd h (fun h => ?_) (fun h => ?_)
      · refine VW.skip ?_
        refine VW.seq ?_
        refine VW.block ?_
        obtain ⟨g109, h⟩ := gd_some h
        refine sR T_ok [1, 3, 4, 5, 14, 15, 16] [0, 1] ⟨[(1, .lf (.ptr 0 0 0 0)), (3, .lf (.hd 1 0 none)), (4, I x86), (5, I (x84.getD x86.toNat (Ty.dflt (.int .i64)))), (14, .lf (.v (.sl (.int .i64)) x84)), (15, I x85), (16, I x86)], [bx [.v (.int .i64) x80, .v (.sl (.int .i64)) x81, .v (.sl (.int .i64)) x82] 28, ar 0 .str x83 .dp]⟩ (pu 1 (an g109 (tn 3))) ?_
        obtain ⟨y110, hy110, h⟩ := andO_some h
        obtain ⟨g111, h⟩ := gd_some h
        obtain ⟨g112, h⟩ := gd_some h
        obtain ⟨y113, hy113, h⟩ := andO_some h
        obtain ⟨g114, h⟩ := gd_some h
        obtain ⟨g115, h⟩ := gd_some h
        refine VW.drawn (by kernel_rfl) [some (21, .lf (.hd 1 0 none)), some (22, I (x84.getD x86.toNat (Ty.dflt (.int .i64)))), some (23, S y110), some (24, S (y110 ++ (⟨#[61]⟩ : ByteArray))), some (25, .lf (.ptr 0 0 0 2)), some (26, .lf (.v (.sl (.int .i64)) x82)), some (27, I x86), some (28, .lf (.fp (.int .i64) (x82.getD x86.toNat (Ty.dflt (.int .i64))) 0)), some (29, I (x82.getD x86.toNat (Ty.dflt (.int .i64)))), some (30, S y113), some (31, S ((y110 ++ (⟨#[61]⟩ : ByteArray)) ++ y113)), some (32, .lf (.hd 2 0 none)), some (33, .lf (.hd 1 1 none)), some (3, .lf (.hd 1 1 none))] [11, 12] [[bx [.v (.int .i64) x80, .v (.sl (.int .i64)) x81, .v (.sl (.int .i64)) x82] 28, ar 0 .str x83 .dp], [bx [.v (.int .i64) x80, .v (.sl (.int .i64)) x81, .v (.sl (.int .i64)) x82] 28, ar 0 .str x83 .dp, ar 0 .str ([((y110 ++ (⟨#[61]⟩ : ByteArray)) ++ y113)]) .dp], [bx [.v (.int .i64) x80, .v (.sl (.int .i64)) x81, .v (.sl (.int .i64)) x82] 28, ar 1 .str (x83 ++ ([((y110 ++ (⟨#[61]⟩ : ByteArray)) ++ y113)])) .dp, ar 0 .str ([((y110 ++ (⟨#[61]⟩ : ByteArray)) ++ y113)]) .dp]] [(0, 0), (0, 1), (1, 0), (1, 1), (1, 2), (2, 0), (2, 1), (2, 2), (3, 0), (3, 1), (3, 2), (4, 0), (4, 1), (4, 2), (5, 0), (5, 1), (5, 2), (6, 0), (6, 1), (6, 2), (7, 0), (7, 1), (7, 2), (8, 0), (8, 1), (8, 2), (9, 0), (9, 1), (10, 0), (11, 0), (12, 1), (13, 2)] [1, 3, 14, 15, 16] [0, 1] (s' := ⟨[(1, .lf (.ptr 0 0 0 0)), (3, .lf (.hd 1 0 none)), (14, .lf (.v (.sl (.int .i64)) x84)), (15, I x85), (16, I x86)], [bx [.v (.int .i64) x80, .v (.sl (.int .i64)) x81, .v (.sl (.int .i64)) x82] 28, ar 0 .str (x83 ++ ([((y110 ++ (⟨#[61]⟩ : ByteArray)) ++ y113)])) .dp]⟩) (by kernel_rfl) (by kernel_rfl) ⟨⟨_, rfl, Stp.ev T_ok (m := .dp) (φ := True) (by kernel_rfl) trivial⟩,
    ⟨_, rfl, Stp.ev T_ok (m := .dp) (φ := True) (by kernel_rfl) trivial⟩,
    ⟨_, rfl, Stp.ev T_ok (m := .dp) (φ := True) (by kernel_rfl) trivial⟩,
    ⟨_, rfl, Stp.ev T_ok (m := .dp) (φ := True) (by kernel_rfl) trivial⟩,
    ⟨_, rfl, Stp.ev T_ok (m := .dp) (φ := True) (by kernel_rfl) trivial⟩,
    ⟨_, rfl, Stp.eq (Stp.call false [.t (.int .i64)] [] T_ok (d := some 23) (by kernel_rfl) (ok42 N _ hy110) rfl) (by kernel_rfl) (by kernel_rfl)⟩,
    ⟨_, rfl, Stp.eq (Stp.call false [.t (.int .i64)] [] T_ok (d := some 23) (by kernel_rfl) (ok42 N _ hy110) rfl) (by kernel_rfl) (by kernel_rfl)⟩,
    ⟨_, rfl, Stp.eq (Stp.call false [.t (.int .i64)] [] T_ok (d := some 23) (by kernel_rfl) (ok42 N _ hy110) rfl) (by kernel_rfl) (by kernel_rfl)⟩,
    ⟨_, rfl, Stp.ev T_ok (m := .dp) (φ := y110.size + (⟨#[61]⟩ : ByteArray).size ≤ 9223372036854775807) (by kernel_rfl) g111⟩,
    ⟨_, rfl, Stp.ev T_ok (m := .dp) (φ := y110.size + (⟨#[61]⟩ : ByteArray).size ≤ 9223372036854775807) (by kernel_rfl) g111⟩,
    ⟨_, rfl, Stp.ev T_ok (m := .dp) (φ := y110.size + (⟨#[61]⟩ : ByteArray).size ≤ 9223372036854775807) (by kernel_rfl) g111⟩,
    ⟨_, rfl, Stp.ev T_ok (m := .dp) (φ := True) (by kernel_rfl) trivial⟩,
    ⟨_, rfl, Stp.ev T_ok (m := .dp) (φ := True) (by kernel_rfl) trivial⟩,
    ⟨_, rfl, Stp.ev T_ok (m := .dp) (φ := True) (by kernel_rfl) trivial⟩,
    ⟨_, rfl, Stp.ev T_ok (m := .dp) (φ := True) (by kernel_rfl) trivial⟩,
    ⟨_, rfl, Stp.ev T_ok (m := .dp) (φ := True) (by kernel_rfl) trivial⟩,
    ⟨_, rfl, Stp.ev T_ok (m := .dp) (φ := True) (by kernel_rfl) trivial⟩,
    ⟨_, rfl, Stp.ev T_ok (m := .dp) (φ := True) (by kernel_rfl) trivial⟩,
    ⟨_, rfl, Stp.ev T_ok (m := .dp) (φ := True) (by kernel_rfl) trivial⟩,
    ⟨_, rfl, Stp.ev T_ok (m := .dp) (φ := True) (by kernel_rfl) trivial⟩,
    ⟨_, rfl, Stp.ev T_ok (m := .dp) (φ := InR x86 x82.length) (by kernel_rfl) g112⟩,
    ⟨_, rfl, Stp.ev T_ok (m := .dp) (φ := InR x86 x82.length) (by kernel_rfl) g112⟩,
    ⟨_, rfl, Stp.ev T_ok (m := .dp) (φ := InR x86 x82.length) (by kernel_rfl) g112⟩,
    ⟨_, rfl, Stp.ev T_ok (m := .dp) (φ := True) (by kernel_rfl) trivial⟩,
    ⟨_, rfl, Stp.ev T_ok (m := .dp) (φ := True) (by kernel_rfl) trivial⟩,
    ⟨_, rfl, Stp.ev T_ok (m := .dp) (φ := True) (by kernel_rfl) trivial⟩,
    ⟨_, rfl, Stp.eq (Stp.call false [.t (.int .i64)] [] T_ok (d := some 30) (by kernel_rfl) (ok42 N _ hy113) rfl) (by kernel_rfl) (by kernel_rfl)⟩,
    ⟨_, rfl, Stp.eq (Stp.call false [.t (.int .i64)] [] T_ok (d := some 30) (by kernel_rfl) (ok42 N _ hy113) rfl) (by kernel_rfl) (by kernel_rfl)⟩,
    ⟨_, rfl, Stp.ev T_ok (m := .dp) (φ := (y110 ++ (⟨#[61]⟩ : ByteArray)).size + y113.size ≤ 9223372036854775807) (by kernel_rfl) g114⟩,
    ⟨_, rfl, Stp.ev T_ok (m := .dp) (φ := True) (by kernel_rfl) trivial⟩,
    ⟨_, rfl, Stp.ev T_ok (m := .dp) (φ := x83.length + ([((y110 ++ (⟨#[61]⟩ : ByteArray)) ++ y113)]).length ≤ lim .str) (by kernel_rfl) g115⟩,
    ⟨_, rfl, Stp.ev T_ok (m := .dp) (φ := True) (by kernel_rfl) trivial⟩, trivial⟩ (by kernel_rfl) ?_
        refine rR T_ok [1, 3, 14, 15, 16] [0, 1] ⟨[(1, .lf (.ptr 0 0 0 0)), (3, .lf (.hd 1 0 none)), (14, .lf (.v (.sl (.int .i64)) x84)), (15, I x85), (16, I (IntKind.i64.wrap (x86 + (1 : Int))))], [bx [.v (.int .i64) x80, .v (.sl (.int .i64)) x81, .v (.sl (.int .i64)) x82] 28, ar 0 .str (x83 ++ ([((y110 ++ (⟨#[61]⟩ : ByteArray)) ++ y113)])) .dp]⟩ (tn 2) ?_
        exact aro [.ren [1, 3, 14, 15, 16] [0, 1]] ⟨x80, x81, x82, (x83 ++ ([((y110 ++ (⟨#[61]⟩ : ByteArray)) ++ y113)])), x84, x85, (IntKind.i64.wrap (x86 + (1 : Int))), rfl, h⟩
      refine VW.exit ?_
      exact arv [.ren [3] [1]] ⟨x83, rfl, h⟩
  rintro s ⟨x58, rfl, h⟩
  unfold F12_j0 at h
  refine VW.seq ?_
  refine VW.region ?_
  refine sG T_ok 1 [35] [0] ⟨[(35, .lf (.hd 0 0 none))], [ar 0 .str x58 .dp]⟩ (tn 1) ?_
  obtain ⟨y59, hy, h⟩ := andO_some h
  refine cal true [.t (.sl .str)] [] (some 36) T_ok (ok43 N _ hy) ?_
  refine sN T_ok [2] [] ⟨[(2, S y59)], []⟩ (tn 1) ?_
  refine VW.ret ?_
  replace h := Option.some.inj h
  subst h
  exact rt []

/- loop.example/g00844/spec.l01Num -/
def F45_j0 (N : Nat) (x15 : ByteArray) (x16 : Bool) : Option (ByteArray) :=
  cond x16 (gd ((⟨#[45]⟩ : ByteArray).size + x15.size ≤ 9223372036854775807) (some ((⟨#[45]⟩ : ByteArray) ++ x15))) (some x15)
def F45_j1 (N : Nat) (nx30 : Int → ByteArray → Bool → Option (ByteArray)) (x24 : Int) (x25 : ByteArray) (x26 : Bool) (x31 : Int) : Option (ByteArray) :=
  gd ((strOfNums ([(IntKind.u8.wrap (IntKind.i64.wrap ((48 : Int) + x31)))])).size + x25.size ≤ 9223372036854775807) (nx30 (IntKind.i64.wrap (Int.tdiv x24 (10 : Int))) ((strOfNums ([(IntKind.u8.wrap (IntKind.i64.wrap ((48 : Int) + x31)))])) ++ x25) x26)
def F45_l0_b (N : Nat) (nx30 : Int → ByteArray → Bool → Option (ByteArray)) (x24 : Int) (x25 : ByteArray) (x26 : Bool) : Option (ByteArray) :=
  cond (x24 != (0 : Int)) (cond (decide ((Int.tmod x24 (10 : Int)) < (0 : Int))) (F45_j1 N nx30 x24 x25 x26 (IntKind.i64.wrap ((0 : Int) - (Int.tmod x24 (10 : Int))))) (F45_j1 N nx30 x24 x25 x26 (Int.tmod x24 (10 : Int)))) (F45_j0 N x25 x26)
def F45_l0 (N : Nat) : Nat → Int → ByteArray → Bool → Option (ByteArray) := loopF (F45_l0_b N) (fun _ _ _ => none)
theorem F45_l0_s (N : Nat) {k : Nat} (hk : 0 < k) (x24 : Int) (x25 : ByteArray) (x26 : Bool) : F45_l0 N k x24 x25 x26 = F45_l0_b N (F45_l0 N (k - 1)) x24 x25 x26 := by
  cases k with
  | zero => exact absurd hk (Nat.lt_irrefl 0)
  | succ m => rfl
def F45 (N : Nat) (a0 : Int) : Option (ByteArray) :=
  cond (a0 == (0 : Int)) (some (⟨#[48]⟩ : ByteArray)) (F45_l0 N N a0 ByteArray.empty (decide (a0 < (0 : Int))))
theorem ok45 (N : Nat) (a0 : Int) {r : ByteArray} (h : F45 N a0 = some r) : Con Go.Proofs.Tryd.prog 45 [I a0] [.lf (.v .str r)] := by
  refine ctr [.lf (.v .str)] T_ok Go.Proofs.Tryd.func45 rfl fun w0 E0 ht => ?_
  unfold F45 at h
  show VW _ _ _ _ _ (retQ _ _ _ _) _
  refine sR T_ok [0] [] ⟨[(0, I a0)], []⟩ (tn 1) ?_
  refine VW.seq ?_
  refine sR T_ok [0, 7] [] ⟨[(0, I a0), (7, B (a0 == (0 : Int)))], []⟩ (tn 2) ?_
  refine cnd h (fun h => ?_) (fun h => ?_)
  · refine sR T_ok [2] [] ⟨[(2, S (⟨#[48]⟩ : ByteArray))], []⟩ (tn 1) ?_
    refine VW.ret ?_
    replace h := Option.some.inj h
    subst h
    exact rt []
  refine VW.skip ?_
  refine sR T_ok [0, 3] [] ⟨[(0, I a0), (3, S ByteArray.empty)], []⟩ (tn 1) ?_
  refine sR T_ok [0, 3, 4] [] ⟨[(0, I a0), (3, S ByteArray.empty), (4, B (decide (a0 < (0 : Int))))], []⟩ (tn 3) ?_
  refine VW.join (fun s => ∃ (x15 : ByteArray) (x16 : Bool), s = ⟨[(3, S x15), (4, B x16)], []⟩ ∧ F45_j0 N x15 x16 = some r) ?_ ?_
  · refine VW.block ?_
    refine lop (fun k s => ∃ (x24 : Int) (x25 : ByteArray) (x26 : Bool), s = ⟨[(0, I x24), (3, S x25), (4, B x26)], []⟩ ∧ F45_l0 N k x24 x25 x26 = some r) N [.ren [0, 3, 4] []] ⟨a0, ByteArray.empty, (decide (a0 < (0 : Int))), rfl, h⟩ ?_
    rintro k30 s ⟨x24, x25, x26, rfl, h⟩
    cases k30 with
    | zero => cases show none = some r from h
    | succ k30 =>
      replace h : F45_l0_b N (F45_l0 N k30) x24 x25 x26 = some r := h
      unfold F45_l0_b at h
      refine VW.seq ?_
      refine sR T_ok [0, 3, 4, 11] [] ⟨[(0, I x24), (3, S x25), (4, B x26), (11, B (x24 != (0 : Int)))], []⟩ (tn 2) ?_
      refine cnd h (fun h => ?_) (fun h => ?_)
      · refine VW.skip ?_
        refine VW.block ?_
        refine sR T_ok [0, 3, 4, 5] [] ⟨[(0, I x24), (3, S x25), (4, B x26), (5, I (Int.tmod x24 (10 : Int)))], []⟩ (pu 1 (an (show ((10 : Int) ≠ 0) from by decide) (tn 1))) ?_
        refine VW.join (fun s => ∃ (x31 : Int), s = ⟨[(0, I x24), (3, S x25), (4, B x26), (5, I x31)], []⟩ ∧ F45_j1 N (F45_l0 N k30) x24 x25 x26 x31 = some r) ?_ ?_
        · refine sR T_ok [0, 3, 4, 5, 15] [] ⟨[(0, I x24), (3, S x25), (4, B x26), (5, I (Int.tmod x24 (10 : Int))), (15, B (decide ((Int.tmod x24 (10 : Int)) < (0 : Int))))], []⟩ (tn 2) ?_
          refine cnd h (fun h => ?_) (fun h => ?_)
          · refine rR T_ok [0, 3, 4, 5] [] ⟨[(0, I x24), (3, S x25), (4, B x26), (5, I (IntKind.i64.wrap ((0 : Int) - (Int.tmod x24 (10 : Int)))))], []⟩ (tn 3) ?_
            exact arv [.ren [0, 3, 4, 5] []] ⟨(IntKind.i64.wrap ((0 : Int) - (Int.tmod x24 (10 : Int)))), rfl, h⟩
          refine VW.skip ?_
          exact arv [.ren [0, 3, 4, 5] []] ⟨(Int.tmod x24 (10 : Int)), rfl, h⟩
        rintro s ⟨x31, rfl, h⟩
        unfold F45_j1 at h
        obtain ⟨g32, h⟩ := gd_some h
        refine sR T_ok [0, 3, 4] [] ⟨[(0, I x24), (3, S ((strOfNums ([(IntKind.u8.wrap (IntKind.i64.wrap ((48 : Int) + x31)))])) ++ x25)), (4, B x26)], []⟩ (pu 6 (an g32 (tn 1))) ?_
        refine rR T_ok [0, 3, 4] [] ⟨[(0, I (IntKind.i64.wrap (Int.tdiv x24 (10 : Int)))), (3, S ((strOfNums ([(IntKind.u8.wrap (IntKind.i64.wrap ((48 : Int) + x31)))])) ++ x25)), (4, B x26)], []⟩ (pu 1 (an (show ((10 : Int) ≠ 0) from by decide) (tn 1))) ?_
        exact aro [.ren [0, 3, 4] []] ⟨(IntKind.i64.wrap (Int.tdiv x24 (10 : Int))), ((strOfNums ([(IntKind.u8.wrap (IntKind.i64.wrap ((48 : Int) + x31)))])) ++ x25), x26, rfl, h⟩
      refine VW.exit ?_
      exact arv [.ren [3, 4] []] ⟨x25, x26, rfl, h⟩
  rintro s ⟨x15, x16, rfl, h⟩
  unfold F45_j0 at h
  refine VW.seq ?_
  refine sR T_ok [3, 27] [] ⟨[(3, S x15), (27, B x16)], []⟩ (tn 1) ?_
  refine cnd h (fun h => ?_) (fun h => ?_)
  · obtain ⟨g18, h⟩ := gd_some h
    refine sR T_ok [2] [] ⟨[(2, S ((⟨#[45]⟩ : ByteArray) ++ x15))], []⟩ (pu 1 (an g18 (tn 1))) ?_
    refine VW.ret ?_
    replace h := Option.some.inj h
    subst h
    exact rt []
  refine VW.skip ?_
  refine sR T_ok [2] [] ⟨[(2, S x15)], []⟩ (tn 2) ?_
  refine VW.ret ?_
  replace h := Option.some.inj h
  subst h
  exact rt []

/- loop.example/g00844/spec.CacheText -/
def F13_j0 (N : Nat) (x78 : ByteArray) : Option (ByteArray) :=
  some x78
def F13_j1 (N : Nat) (nx132 : Int → (List Int) → (List Int) → ByteArray → Int → Option (ByteArray)) (x105 : Int) (x106 : (List Int)) (x107 : (List Int)) (x109 : Int) (x145 : ByteArray) : Option (ByteArray) :=
  gd (InR x109 x106.length) (andO (F45 N (x106.getD x109.toNat (Ty.dflt (.int .i64)))) fun y147 => gd (x145.size + y147.size ≤ 9223372036854775807) (gd ((x145 ++ y147).size + (⟨#[61]⟩ : ByteArray).size ≤ 9223372036854775807) (gd (InR x109 x107.length) (andO (F45 N (x107.getD x109.toNat (Ty.dflt (.int .i64)))) fun y151 => gd (((x145 ++ y147) ++ (⟨#[61]⟩ : ByteArray)).size + y151.size ≤ 9223372036854775807) (nx132 x105 x106 x107 (((x145 ++ y147) ++ (⟨#[61]⟩ : ByteArray)) ++ y151) (IntKind.i64.wrap (x109 + (1 : Int))))))))
def F13_l0_b (N : Nat) (nx132 : Int → (List Int) → (List Int) → ByteArray → Int → Option (ByteArray)) (x105 : Int) (x106 : (List Int)) (x107 : (List Int)) (x108 : ByteArray) (x109 : Int) : Option (ByteArray) :=
  cond (decide (x109 < (x106.length : Int))) (cond (decide (x109 > (0 : Int))) (gd (x108.size + (⟨#[32]⟩ : ByteArray).size ≤ 9223372036854775807) (F13_j1 N nx132 x105 x106 x107 x109 (x108 ++ (⟨#[32]⟩ : ByteArray)))) (F13_j1 N nx132 x105 x106 x107 x109 x108)) (F13_j0 N x108)
def F13_l0 (N : Nat) : Nat → Int → (List Int) → (List Int) → ByteArray → Int → Option (ByteArray) := loopF (F13_l0_b N) (fun _ _ _ _ _ => none)
theorem F13_l0_s (N : Nat) {k : Nat} (hk : 0 < k) (x105 : Int) (x106 : (List Int)) (x107 : (List Int)) (x108 : ByteArray) (x109 : Int) : F13_l0 N k x105 x106 x107 x108 x109 = F13_l0_b N (F13_l0 N (k - 1)) x105 x106 x107 x108 x109 := by
  cases k with
  | zero => exact absurd hk (Nat.lt_irrefl 0)
  | succ m => rfl
def F13 (N : Nat) (a0 : (Int × ((List Int) × (List Int)))) : Option (ByteArray) :=
  andO (F44 N a0) fun y2 => cond (!y2) (some ByteArray.empty) (cond ((a0.2.1.length : Int) == (0 : Int)) (some (⟨#[45]⟩ : ByteArray)) (F13_l0 N N a0.1 a0.2.1 a0.2.2 ByteArray.empty (0 : Int)))
theorem ok13 (N : Nat) (a0 : (Int × ((List Int) × (List Int)))) {r : ByteArray} (h : F13 N a0 = some r) : Con Go.Proofs.Tryd.prog 13 [.agg [.v (.int .i64) a0.1, .v (.sl (.int .i64)) a0.2.1, .v (.sl (.int .i64)) a0.2.2]] [.lf (.v .str r)] := by
  refine ctr [.lf (.v .str)] T_ok Go.Proofs.Tryd.func13 rfl fun w0 E0 ht => ?_
  unfold F13 at h
  show VW _ _ _ _ _ (retQ _ _ _ _) _
  refine sR T_ok [1] [0] ⟨[(1, .lf (.ptr 0 0 0 0))], [bx [.v (.int .i64) a0.1, .v (.sl (.int .i64)) a0.2.1, .v (.sl (.int .i64)) a0.2.2] 28]⟩ (tn 2) ?_
  refine VW.seq ?_
  refine VW.seq ?_
  refine VW.region ?_
  refine sG T_ok 1 [1, 5] [0] ⟨[(1, .lf (.ptr 0 0 0 0)), (5, .agg [.v (.int .i64) a0.1, .v (.sl (.int .i64)) a0.2.1, .v (.sl (.int .i64)) a0.2.2])], [bx [.v (.int .i64) a0.1, .v (.sl (.int .i64)) a0.2.1, .v (.sl (.int .i64)) a0.2.2] 28]⟩ (tn 1) ?_
  obtain ⟨y2, hy, h⟩ := andO_some h
  refine cal false [.t Y27] [] (some 6) T_ok (ok44 N _ hy) ?_
  refine sN T_ok [1, 7] [0] ⟨[(1, .lf (.ptr 0 0 0 0)), (7, B (!y2))], [bx [.v (.int .i64) a0.1, .v (.sl (.int .i64)) a0.2.1, .v (.sl (.int .i64)) a0.2.2] 28]⟩ (tn 1) ?_
  refine cnd h (fun h => ?_) (fun h => ?_)
  · refine sR T_ok [2] [] ⟨[(2, S ByteArray.empty)], []⟩ (tn 1) ?_
    refine VW.ret ?_
    replace h := Option.some.inj h
    subst h
    exact rt []
  refine VW.skip ?_
  refine VW.seq ?_
  refine sR T_ok [1, 11] [0] ⟨[(1, .lf (.ptr 0 0 0 0)), (11, B ((a0.2.1.length : Int) == (0 : Int)))], [bx [.v (.int .i64) a0.1, .v (.sl (.int .i64)) a0.2.1, .v (.sl (.int .i64)) a0.2.2] 28]⟩ (tn 4) ?_
  refine cnd h (fun h => ?_) (fun h => ?_)
  · refine sR T_ok [2] [] ⟨[(2, S (⟨#[45]⟩ : ByteArray))], []⟩ (tn 1) ?_
    refine VW.ret ?_
    replace h := Option.some.inj h
    subst h
    exact rt []
  refine VW.skip ?_
  refine sR T_ok [1, 3] [0] ⟨[(1, .lf (.ptr 0 0 0 0)), (3, S ByteArray.empty)], [bx [.v (.int .i64) a0.1, .v (.sl (.int .i64)) a0.2.1, .v (.sl (.int .i64)) a0.2.2] 28]⟩ (tn 1) ?_
  refine VW.join (fun s => ∃ (x78 : ByteArray), s = ⟨[(3, S x78)], []⟩ ∧ F13_j0 N x78 = some r) ?_ ?_
  · refine sR T_ok [1, 3, 4] [0] ⟨[(1, .lf (.ptr 0 0 0 0)), (3, S ByteArray.empty), (4, I (0 : Int))], [bx [.v (.int .i64) a0.1, .v (.sl (.int .i64)) a0.2.1, .v (.sl (.int .i64)) a0.2.2] 28]⟩ (tn 1) ?_
    refine VW.block ?_
    refine lop (fun k s => ∃ (x105 : Int) (x106 : (List Int)) (x107 : (List Int)) (x108 : ByteArray) (x109 : Int), s = ⟨[(1, .lf (.ptr 0 0 0 0)), (3, S x108), (4, I x109)], [bx [.v (.int .i64) x105, .v (.sl (.int .i64)) x106, .v (.sl (.int .i64)) x107] 28]⟩ ∧ F13_l0 N k x105 x106 x107 x108 x109 = some r) N [.ren [1, 3, 4] [0]] ⟨a0.1, a0.2.1, a0.2.2, ByteArray.empty, (0 : Int), rfl, h⟩ ?_
    rintro k132 s ⟨x105, x106, x107, x108, x109, rfl, h⟩
    cases k132 with
    | zero => cases show none = some r from h
    | succ k132 =>
      replace h : F13_l0_b N (F13_l0 N k132) x105 x106 x107 x108 x109 = some r := h
      unfold F13_l0_b at h
      refine VW.seq ?_
      refine sR T_ok [1, 3, 4, 16] [0] ⟨[(1, .lf (.ptr 0 0 0 0)), (3, S x108), (4, I x109), (16, B (decide (x109 < (x106.length : Int))))], [bx [.v (.int .i64) x105, .v (.sl (.int .i64)) x106, .v (.sl (.int .i64)) x107] 28]⟩ (tn 5) ?_
      refine cnd h (fun h => ?_) (fun h => ?_)
      · refine VW.skip ?_
        refine VW.seq ?_
        refine VW.block ?_
        refine VW.join (fun s => ∃ (x145 : ByteArray), s = ⟨[(1, .lf (.ptr 0 0 0 0)), (3, S x145), (4, I x109)], [bx [.v (.int .i64) x105, .v (.sl (.int .i64)) x106, .v (.sl (.int .i64)) x107] 28]⟩ ∧ F13_j1 N (F13_l0 N k132) x105 x106 x107 x109 x145 = some r) ?_ ?_
        · refine sR T_ok [1, 3, 4, 20] [0] ⟨[(1, .lf (.ptr 0 0 0 0)), (3, S x108), (4, I x109), (20, B (decide (x109 > (0 : Int))))], [bx [.v (.int .i64) x105, .v (.sl (.int .i64)) x106, .v (.sl (.int .i64)) x107] 28]⟩ (tn 2) ?_
          refine cnd h (fun h => ?_) (fun h => ?_)
          · obtain ⟨g154, h⟩ := gd_some h
            refine rR T_ok [1, 3, 4] [0] ⟨[(1, .lf (.ptr 0 0 0 0)), (3, S (x108 ++ (⟨#[32]⟩ : ByteArray))), (4, I x109)], [bx [.v (.int .i64) x105, .v (.sl (.int .i64)) x106, .v (.sl (.int .i64)) x107] 28]⟩ (pu 1 (an g154 (tn 1))) ?_
            exact arv [.ren [1, 3, 4] [0]] ⟨(x108 ++ (⟨#[32]⟩ : ByteArray)), rfl, h⟩
          refine VW.skip ?_
          exact arv [.ren [1, 3, 4] [0]] ⟨x108, rfl, h⟩
        rintro s ⟨x145, rfl, h⟩
        unfold F13_j1 at h
        obtain ⟨g146, h⟩ := gd_some h
        obtain ⟨y147, hy147, h⟩ := andO_some h
        obtain ⟨g148, h⟩ := gd_some h
        obtain ⟨g149, h⟩ := gd_some h
        obtain ⟨g150, h⟩ := gd_some h
        obtain ⟨y151, hy151, h⟩ := andO_some h
        obtain ⟨g152, h⟩ := gd_some h
        refine VW.drawn (by kernel_rfl) [some (23, S x145), some (24, .lf (.ptr 0 0 0 1)), some (25, .lf (.v (.sl (.int .i64)) x106)), some (26, I x109), some (27, .lf (.fp (.int .i64) (x106.getD x109.toNat (Ty.dflt (.int .i64))) 0)), some (28, I (x106.getD x109.toNat (Ty.dflt (.int .i64)))), some (29, S y147), some (30, S (x145 ++ y147)), some (31, S ((x145 ++ y147) ++ (⟨#[61]⟩ : ByteArray))), some (32, .lf (.ptr 0 0 0 2)), some (33, .lf (.v (.sl (.int .i64)) x107)), some (34, I x109), some (35, .lf (.fp (.int .i64) (x107.getD x109.toNat (Ty.dflt (.int .i64))) 0)), some (36, I (x107.getD x109.toNat (Ty.dflt (.int .i64)))), some (37, S y151), some (38, S (((x145 ++ y147) ++ (⟨#[61]⟩ : ByteArray)) ++ y151)), some (3, S (((x145 ++ y147) ++ (⟨#[61]⟩ : ByteArray)) ++ y151))] [] [[bx [.v (.int .i64) x105, .v (.sl (.int .i64)) x106, .v (.sl (.int .i64)) x107] 28]] [(0, 0), (1, 0), (2, 0), (3, 0), (4, 0), (5, 0), (6, 0), (7, 0), (8, 0), (9, 0), (10, 0), (11, 0), (12, 0), (13, 0), (14, 0), (15, 0), (16, 0)] [1, 3, 4] [0] (s' := ⟨[(1, .lf (.ptr 0 0 0 0)), (3, S (((x145 ++ y147) ++ (⟨#[61]⟩ : ByteArray)) ++ y151)), (4, I x109)], [bx [.v (.int .i64) x105, .v (.sl (.int .i64)) x106, .v (.sl (.int .i64)) x107] 28]⟩) (by kernel_rfl) (by kernel_rfl) ⟨⟨_, rfl, Stp.ev T_ok (m := .dp) (φ := True) (by kernel_rfl) trivial⟩,
    ⟨_, rfl, Stp.ev T_ok (m := .dp) (φ := True) (by kernel_rfl) trivial⟩,
    ⟨_, rfl, Stp.ev T_ok (m := .dp) (φ := True) (by kernel_rfl) trivial⟩,
    ⟨_, rfl, Stp.ev T_ok (m := .dp) (φ := True) (by kernel_rfl) trivial⟩,
    ⟨_, rfl, Stp.ev T_ok (m := .dp) (φ := InR x109 x106.length) (by kernel_rfl) g146⟩,
    ⟨_, rfl, Stp.ev T_ok (m := .dp) (φ := True) (by kernel_rfl) trivial⟩,
    ⟨_, rfl, Stp.eq (Stp.call false [.t (.int .i64)] [] T_ok (d := some 29) (by kernel_rfl) (ok45 N _ hy147) rfl) (by kernel_rfl) (by kernel_rfl)⟩,
    ⟨_, rfl, Stp.ev T_ok (m := .dp) (φ := x145.size + y147.size ≤ 9223372036854775807) (by kernel_rfl) g148⟩,
    ⟨_, rfl, Stp.ev T_ok (m := .dp) (φ := (x145 ++ y147).size + (⟨#[61]⟩ : ByteArray).size ≤ 9223372036854775807) (by kernel_rfl) g149⟩,
    ⟨_, rfl, Stp.ev T_ok (m := .dp) (φ := True) (by kernel_rfl) trivial⟩,
    ⟨_, rfl, Stp.ev T_ok (m := .dp) (φ := True) (by kernel_rfl) trivial⟩,
    ⟨_, rfl, Stp.ev T_ok (m := .dp) (φ := True) (by kernel_rfl) trivial⟩,
    ⟨_, rfl, Stp.ev T_ok (m := .dp) (φ := InR x109 x107.length) (by kernel_rfl) g150⟩,
    ⟨_, rfl, Stp.ev T_ok (m := .dp) (φ := True) (by kernel_rfl) trivial⟩,
    ⟨_, rfl, Stp.eq (Stp.call false [.t (.int .i64)] [] T_ok (d := some 37) (by kernel_rfl) (ok45 N _ hy151) rfl) (by kernel_rfl) (by kernel_rfl)⟩,
    ⟨_, rfl, Stp.ev T_ok (m := .dp) (φ := ((x145 ++ y147) ++ (⟨#[61]⟩ : ByteArray)).size + y151.size ≤ 9223372036854775807) (by kernel_rfl) g152⟩,
    ⟨_, rfl, Stp.ev T_ok (m := .dp) (φ := True) (by kernel_rfl) trivial⟩, trivial⟩ (by kernel_rfl) ?_
        refine rR T_ok [1, 3, 4] [0] ⟨[(1, .lf (.ptr 0 0 0 0)), (3, S (((x145 ++ y147) ++ (⟨#[61]⟩ : ByteArray)) ++ y151)), (4, I (IntKind.i64.wrap (x109 + (1 : Int))))], [bx [.v (.int .i64) x105, .v (.sl (.int .i64)) x106, .v (.sl (.int .i64)) x107] 28]⟩ (tn 3) ?_
        exact aro [.ren [1, 3, 4] [0]] ⟨x105, x106, x107, (((x145 ++ y147) ++ (⟨#[61]⟩ : ByteArray)) ++ y151), (IntKind.i64.wrap (x109 + (1 : Int))), rfl, h⟩
      refine VW.exit ?_
      exact arv [.ren [3] []] ⟨x108, rfl, h⟩
  rintro s ⟨x78, rfl, h⟩
  unfold F13_j0 at h
  refine sR T_ok [2] [] ⟨[(2, S x78)], []⟩ (tn 2) ?_
  refine VW.ret ?_
  replace h := Option.some.inj h
  subst h
  exact rt []

/- loop.example/g00844/laws.within -/
def F14_j0 (N : Nat) : Option (Bool) :=
  some false
def F14_l0_b (N : Nat) (a0 : (List Int)) (a1 : Int) (nx15 : Int → Option (Bool)) (x12 : Int) : Option (Bool) :=
  cond (decide (x12 < (a0.length : Int))) (gd (InR x12 a0.length) (cond ((a0.getD x12.toNat (Ty.dflt (.int .i64))) == a1) (some true) (nx15 (IntKind.i64.wrap (x12 + (1 : Int)))))) (F14_j0 N)
def F14_l0 (N : Nat) (a0 : (List Int)) (a1 : Int) : Nat → Int → Option (Bool) := loopF (F14_l0_b N a0 a1) (fun _ => none)
theorem F14_l0_s (N : Nat) (a0 : (List Int)) (a1 : Int) {k : Nat} (hk : 0 < k) (x12 : Int) : F14_l0 N a0 a1 k x12 = F14_l0_b N a0 a1 (F14_l0 N a0 a1 (k - 1)) x12 := by
  cases k with
  | zero => exact absurd hk (Nat.lt_irrefl 0)
  | succ m => rfl
def F14 (N : Nat) (a0 : (List Int)) (a1 : Int) : Option (Bool) :=
  F14_l0 N a0 a1 N (0 : Int)
theorem ok14 (N : Nat) (a0 : (List Int)) (a1 : Int) {r : Bool} (h : F14 N a0 a1 = some r) : Con Go.Proofs.Tryd.prog 14 [.lf (.v (.sl (.int .i64)) a0), I a1] [.lf (.v .bool r)] := by
  refine ctr [.lf (.v .bool)] T_ok Go.Proofs.Tryd.func14 rfl fun w0 E0 ht => ?_
  unfold F14 at h
  show VW _ _ _ _ _ (retQ _ _ _ _) _
  refine sR T_ok [0, 1] [] ⟨[(0, .lf (.v (.sl (.int .i64)) a0)), (1, I a1)], []⟩ (tn 1) ?_
  refine VW.join (fun s => s = ⟨[], []⟩ ∧ F14_j0 N = some r) ?_ ?_
  · refine sR T_ok [0, 1, 5] [] ⟨[(0, .lf (.v (.sl (.int .i64)) a0)), (1, I a1), (5, I (0 : Int))], []⟩ (tn 1) ?_
    refine VW.block ?_
    refine lop (fun k s => ∃ (x12 : Int), s = ⟨[(0, .lf (.v (.sl (.int .i64)) a0)), (1, I a1), (5, I x12)], []⟩ ∧ F14_l0 N a0 a1 k x12 = some r) N [.ren [0, 1, 5] []] ⟨(0 : Int), rfl, h⟩ ?_
    rintro k15 s ⟨x12, rfl, h⟩
    cases k15 with
    | zero => cases show none = some r from h
    | succ k15 =>
      replace h : F14_l0_b N a0 a1 (F14_l0 N a0 a1 k15) x12 = some r := h
      unfold F14_l0_b at h
      refine VW.seq ?_
      refine sR T_ok [0, 1, 5, 9] [] ⟨[(0, .lf (.v (.sl (.int .i64)) a0)), (1, I a1), (5, I x12), (9, B (decide (x12 < (a0.length : Int))))], []⟩ (tn 4) ?_
      refine cnd h (fun h => ?_) (fun h => ?_)
      · refine VW.skip ?_
        refine VW.seq ?_
        refine VW.block ?_
        obtain ⟨g17, h⟩ := gd_some h
        refine sR T_ok [0, 1, 5, 17] [] ⟨[(0, .lf (.v (.sl (.int .i64)) a0)), (1, I a1), (5, I x12), (17, B ((a0.getD x12.toNat (Ty.dflt (.int .i64))) == a1))], []⟩ (pu 2 (an g17 (tn 3))) ?_
        refine cnd h (fun h => ?_) (fun h => ?_)
        · refine sR T_ok [4] [] ⟨[(4, B true)], []⟩ (tn 1) ?_
          refine VW.ret ?_
          replace h := Option.some.inj h
          subst h
          exact rt []
        refine VW.skip ?_
        refine rR T_ok [0, 1, 5] [] ⟨[(0, .lf (.v (.sl (.int .i64)) a0)), (1, I a1), (5, I (IntKind.i64.wrap (x12 + (1 : Int))))], []⟩ (tn 3) ?_
        exact aro [.ren [0, 1, 5] []] ⟨(IntKind.i64.wrap (x12 + (1 : Int))), rfl, h⟩
      refine VW.exit ?_
      exact arv [.ren [] []] ⟨rfl, h⟩
  rintro s ⟨rfl, h⟩
  unfold F14_j0 at h
  refine sR T_ok [4] [] ⟨[(4, B false)], []⟩ (tn 1) ?_
  refine VW.ret ?_
  replace h := Option.some.inj h
  subst h
  exact rt []

/- loop.example/g00844/impl.OldestKey -/
def F16 (N : Nat) (a0 : (Int × ((List Int) × (List Int)))) : Option (Int) :=
  andO (F15 N a0) fun y2 => cond (!y2) (some (1000001 : Int)) (cond ((a0.2.1.length : Int) == (0 : Int)) (some (1000001 : Int)) (gd (InR (IntKind.i64.wrap ((a0.2.1.length : Int) - (1 : Int))) a0.2.1.length) (some (a0.2.1.getD (IntKind.i64.wrap ((a0.2.1.length : Int) - (1 : Int))).toNat (Ty.dflt (.int .i64))))))
theorem ok16 (N : Nat) (a0 : (Int × ((List Int) × (List Int)))) {r : Int} (h : F16 N a0 = some r) : Con Go.Proofs.Tryd.prog 16 [.agg [.v (.int .i64) a0.1, .v (.sl (.int .i64)) a0.2.1, .v (.sl (.int .i64)) a0.2.2]] [.lf (.v (.int .i64) r)] := by
  refine ctr [.lf (.v (.int .i64))] T_ok Go.Proofs.Tryd.func16 rfl fun w0 E0 ht => ?_
  unfold F16 at h
  show VW _ _ _ _ _ (retQ _ _ _ _) _
  refine sR T_ok [1] [0] ⟨[(1, .lf (.ptr 0 0 0 0))], [bx [.v (.int .i64) a0.1, .v (.sl (.int .i64)) a0.2.1, .v (.sl (.int .i64)) a0.2.2] 28]⟩ (tn 2) ?_
  refine VW.seq ?_
  refine VW.seq ?_
  refine VW.region ?_
  refine sG T_ok 1 [1, 3] [0] ⟨[(1, .lf (.ptr 0 0 0 0)), (3, .agg [.v (.int .i64) a0.1, .v (.sl (.int .i64)) a0.2.1, .v (.sl (.int .i64)) a0.2.2])], [bx [.v (.int .i64) a0.1, .v (.sl (.int .i64)) a0.2.1, .v (.sl (.int .i64)) a0.2.2] 28]⟩ (tn 1) ?_
  obtain ⟨y2, hy, h⟩ := andO_some h
  refine cal false [.t Y27] [] (some 4) T_ok (ok15 N _ hy) ?_
  refine sG T_ok 2 [1, 6] [0] ⟨[(1, .lf (.ptr 0 0 0 0)), (6, B (!y2))], [bx [.v (.int .i64) a0.1, .v (.sl (.int .i64)) a0.2.1, .v (.sl (.int .i64)) a0.2.2] 28]⟩ (tn 2) ?_
  refine spB 6 h (fun h => ?_) (fun h => ?_)
  · refine sN T_ok [1, 11] [0] ⟨[(1, .lf (.ptr 0 0 0 0)), (11, B true)], [bx [.v (.int .i64) a0.1, .v (.sl (.int .i64)) a0.2.1, .v (.sl (.int .i64)) a0.2.2] 28]⟩ (tn 5) ?_
    refine VW.cond (b := true) (by kernel_rfl) (fun _ => ?_) (fun h' => nomatch h')
    refine sR T_ok [2] [] ⟨[(2, I (1000001 : Int))], []⟩ (tn 1) ?_
    refine VW.ret ?_
    replace h := Option.some.inj h
    subst h
    exact rt []
  refine sN T_ok [1, 11] [0] ⟨[(1, .lf (.ptr 0 0 0 0)), (11, B ((a0.2.1.length : Int) == (0 : Int)))], [bx [.v (.int .i64) a0.1, .v (.sl (.int .i64)) a0.2.1, .v (.sl (.int .i64)) a0.2.2] 28]⟩ (tn 5) ?_
  refine cnd h (fun h => ?_) (fun h => ?_)
  · refine sR T_ok [2] [] ⟨[(2, I (1000001 : Int))], []⟩ (tn 1) ?_
    refine VW.ret ?_
    replace h := Option.some.inj h
    subst h
    exact rt []
  refine VW.skip ?_
  obtain ⟨g3, h⟩ := gd_some h
  refine sR T_ok [2] [] ⟨[(2, I (a0.2.1.getD (IntKind.i64.wrap ((a0.2.1.length : Int) - (1 : Int))).toNat (Ty.dflt (.int .i64))))], []⟩ (pu 6 (an g3 (tn 2))) ?_
  refine VW.ret ?_
  replace h := Option.some.inj h
  subst h
  exact rt []

/- loop.example/g00844/laws.FnCaches -/
def F3_j0 (N : Nat) (x437 : Int) (x438 : (List Int)) (x439 : (List Int)) (x440 : (List Int)) (x443 : Int) : Option (Bool) :=
  andO (F11 N x438 x440) fun y444 => cond y444 (andO (F15 N (x437, (x438, x439))) fun y445 => cond y445 (andO (F16 N (x437, (x438, x439))) fun y446 => some (y446 == x443)) (some false)) (some false)
def F3_j1 (N : Nat) (x437 : Int) (x438 : (List Int)) (x439 : (List Int)) (x440 : (List Int)) : Option (Bool) :=
  cond (decide ((x440.length : Int) > (0 : Int))) (gd (InR (IntKind.i64.wrap ((x440.length : Int) - (1 : Int))) x440.length) (gd ((IntKind.i64.wrap ((x440.length : Int) - (1 : Int))).toNat < x440.length) (F3_j0 N x437 x438 x439 x440 (x440.getD ((IntKind.i64.wrap ((x440.length : Int) - (1 : Int))).toNat) (Ty.dflt (.int .i64)))))) (F3_j0 N x437 x438 x439 x440 (1000001 : Int))
def F3_j2 (N : Nat) (nx685 : Int → (List Int) → Int → (List Int) → (List Int) → (List Int) → Int → Option (Bool)) (x490 : Int) (x491 : (List Int)) (x492 : Int) (x493 : (List Int)) (x494 : (List Int)) (x496 : Int) (x779 : (List Int)) : Option (Bool) :=
  nx685 x490 x491 x492 x493 x494 x779 (IntKind.i64.wrap (x496 + (1 : Int)))
def F3_j3 (N : Nat) (nx685 : Int → (List Int) → Int → (List Int) → (List Int) → (List Int) → Int → Option (Bool)) (x490 : Int) (x491 : (List Int)) (x492 : Int) (x493 : (List Int)) (x494 : (List Int)) (x496 : Int) (x828 : (List Int)) : Option (Bool) :=
  cond (decide ((x828.length : Int) > x490)) (gd (0 ≤ x490 ∧ x490 ≤ (x828.length : Int)) (F3_j2 N nx685 x490 x491 x492 x493 x494 x496 (x828.take x490.toNat))) (F3_j2 N nx685 x490 x491 x492 x493 x494 x496 x828)
def F3_j4 (N : Nat) (nx685 : Int → (List Int) → Int → (List Int) → (List Int) → (List Int) → Int → Option (Bool)) (x490 : Int) (x491 : (List Int)) (x492 : Int) (x493 : (List Int)) (x494 : (List Int)) (x495 : (List Int)) (x496 : Int) (x783 : Int) (x784 : Int) (y785 : Bool) (x825 : (List Int)) : Option (Bool) :=
  cond (decide (x783 < (0 : Int))) (F3_j3 N nx685 x490 x491 x492 x493 x494 x496 x825) (cond ((Int.tmod x783 (2 : Int)) == (1 : Int)) (gd (([x784]).length + x825.length ≤ lim (.int .i64)) (F3_j3 N nx685 x490 x491 x492 x493 x494 x496 (([x784]) ++ x825))) (cond y785 (gd (([x784]).length + x825.length ≤ lim (.int .i64)) (F3_j3 N nx685 x490 x491 x492 x493 x494 x496 (([x784]) ++ x825))) (F3_j3 N nx685 x490 x491 x492 x493 x494 x496 x495)))
def F3_j5 (N : Nat) (nx860 : (List Int) → Int → Option (Bool)) (x847 : Int) (x866 : (List Int)) : Option (Bool) :=
  nx860 x866 (IntKind.i64.wrap (x847 + (1 : Int)))
def F3_l0_b (N : Nat) (nx685 : Int → (List Int) → Int → (List Int) → (List Int) → (List Int) → Int → Option (Bool)) (x490 : Int) (x491 : (List Int)) (x492 : Int) (x493 : (List Int)) (x494 : (List Int)) (x495 : (List Int)) (x496 : Int) (x783 : Int) (x784 : Int) (y785 : Bool) (nx860 : (List Int) → Int → Option (Bool)) (x846 : (List Int)) (x847 : Int) : Option (Bool) :=
  cond (decide (x847 < (x495.length : Int))) (gd (InR x847 x495.length) (gd (x847.toNat < x495.length) (cond ((x495.getD x847.toNat (Ty.dflt (.int .i64))) != x784) (gd (InR x847 x495.length) (gd (x847.toNat < x495.length) (gd (x846.length + ([(x495.getD x847.toNat (Ty.dflt (.int .i64)))]).length ≤ lim (.int .i64)) (F3_j5 N nx860 x847 (x846 ++ ([(x495.getD x847.toNat (Ty.dflt (.int .i64)))])))))) (F3_j5 N nx860 x847 x846)))) (F3_j4 N nx685 x490 x491 x492 x493 x494 x495 x496 x783 x784 y785 x846)
def F3_l0 (N : Nat) (nx685 : Int → (List Int) → Int → (List Int) → (List Int) → (List Int) → Int → Option (Bool)) (x490 : Int) (x491 : (List Int)) (x492 : Int) (x493 : (List Int)) (x494 : (List Int)) (x495 : (List Int)) (x496 : Int) (x783 : Int) (x784 : Int) (y785 : Bool) : Nat → (List Int) → Int → Option (Bool) := loopF (F3_l0_b N nx685 x490 x491 x492 x493 x494 x495 x496 x783 x784 y785) (fun _ _ => none)
theorem F3_l0_s (N : Nat) (nx685 : Int → (List Int) → Int → (List Int) → (List Int) → (List Int) → Int → Option (Bool)) (x490 : Int) (x491 : (List Int)) (x492 : Int) (x493 : (List Int)) (x494 : (List Int)) (x495 : (List Int)) (x496 : Int) (x783 : Int) (x784 : Int) (y785 : Bool) {k : Nat} (hk : 0 < k) (x846 : (List Int)) (x847 : Int) : F3_l0 N nx685 x490 x491 x492 x493 x494 x495 x496 x783 x784 y785 k x846 x847 = F3_l0_b N nx685 x490 x491 x492 x493 x494 x495 x496 x783 x784 y785 (F3_l0 N nx685 x490 x491 x492 x493 x494 x495 x496 x783 x784 y785 (k - 1)) x846 x847 := by
  cases k with
  | zero => exact absurd hk (Nat.lt_irrefl 0)
  | succ m => rfl
def F3_j6 (N : Nat) (nx685 : Int → (List Int) → Int → (List Int) → (List Int) → (List Int) → Int → Option (Bool)) (x490 : Int) (x491 : (List Int)) (x492 : Int) (x493 : (List Int)) (x494 : (List Int)) (x495 : (List Int)) (x496 : Int) (x783 : Int) (x784 : Int) : Option (Bool) :=
  andO (F14 N x495 x784) fun y785 => F3_l0 N nx685 x490 x491 x492 x493 x494 x495 x496 x783 x784 y785 N ([]) (0 : Int)
def F3_l1_b (N : Nat) (nx685 : Int → (List Int) → Int → (List Int) → (List Int) → (List Int) → Int → Option (Bool)) (x490 : Int) (x491 : (List Int)) (x492 : Int) (x493 : (List Int)) (x494 : (List Int)) (x495 : (List Int)) (x496 : Int) : Option (Bool) :=
  cond (decide (x496 < (x491.length : Int))) (gd (InR x496 x491.length) (gd (x496.toNat < x491.length) (cond (decide ((x491.getD x496.toNat (Ty.dflt (.int .i64))) < (0 : Int))) (F3_j6 N nx685 x490 x491 x492 x493 x494 x495 x496 (x491.getD x496.toNat (Ty.dflt (.int .i64))) (IntKind.i64.wrap ((IntKind.i64.wrap ((0 : Int) - (x491.getD x496.toNat (Ty.dflt (.int .i64))))) - (1 : Int)))) (F3_j6 N nx685 x490 x491 x492 x493 x494 x495 x496 (x491.getD x496.toNat (Ty.dflt (.int .i64))) (IntKind.i64.wrap (Int.tdiv (x491.getD x496.toNat (Ty.dflt (.int .i64))) (2 : Int))))))) (F3_j1 N x492 x493 x494 x495)
def F3_l1 (N : Nat) : Nat → Int → (List Int) → Int → (List Int) → (List Int) → (List Int) → Int → Option (Bool) := loopF (F3_l1_b N) (fun _ _ _ _ _ _ _ => none)
theorem F3_l1_s (N : Nat) {k : Nat} (hk : 0 < k) (x490 : Int) (x491 : (List Int)) (x492 : Int) (x493 : (List Int)) (x494 : (List Int)) (x495 : (List Int)) (x496 : Int) : F3_l1 N k x490 x491 x492 x493 x494 x495 x496 = F3_l1_b N (F3_l1 N (k - 1)) x490 x491 x492 x493 x494 x495 x496 := by
  cases k with
  | zero => exact absurd hk (Nat.lt_irrefl 0)
  | succ m => rfl
def F3 (N : Nat) (a0 : (List Int)) : Option (Bool) :=
  andO (F7 N a0) fun y2 => cond y2 (some true) (andO (F8 N a0) fun y3 => andO (F9 N y3.1 y3.2) fun y4 => andO (F10 N y3.1 y3.2) fun y5 => andO (F11 N y5.2 y4.2) fun y10 => cond (!y10) (some false) (andO (F12 N y5.1) fun y12 => andO (F13 N y4.1) fun y13 => cond (!(y12.toList == y13.toList)) (some false) (cond (decide (y3.1 < (1 : Int))) (some ((y5.1.2.1.length : Int) == (0 : Int))) (cond (decide (y3.1 > (16 : Int))) (some ((y5.1.2.1.length : Int) == (0 : Int))) (cond (decide ((y3.2.length : Int) > (300 : Int))) (some ((y5.1.2.1.length : Int) == (0 : Int))) (F3_l1 N N y3.1 y3.2 y5.1.1 y5.1.2.1 y5.1.2.2 ([]) (0 : Int)))))))
theorem ok3 (N : Nat) (a0 : (List Int)) {r : Bool} (h : F3 N a0 = some r) : Con Go.Proofs.Tryd.prog 3 [.lf (.v (.sl (.int .u8)) a0)] [.lf (.v .bool r)] := by
  refine ctr [.lf (.v .bool)] T_ok Go.Proofs.Tryd.func3 rfl fun w0 E0 ht => ?_
  unfold F3 at h
  show VW _ _ _ _ _ (retQ _ _ _ _) _
  refine sR T_ok [0] [] ⟨[(0, .lf (.v (.sl (.int .u8)) a0))], []⟩ (tn 1) ?_
  refine VW.seq ?_
  refine VW.seq ?_
  refine VW.region ?_
  refine sG T_ok 1 [0, 17] [] ⟨[(0, .lf (.v (.sl (.int .u8)) a0)), (17, .lf (.v (.sl (.int .u8)) a0))], []⟩ (tn 1) ?_
  obtain ⟨y2, hy, h⟩ := andO_some h
  refine cal false [.t (.sl (.int .u8))] [] (some 18) T_ok (ok7 N _ hy) ?_
  refine sN T_ok [0, 18] [] ⟨[(0, .lf (.v (.sl (.int .u8)) a0)), (18, B y2)], []⟩ (tn 0) ?_
  refine cnd h (fun h => ?_) (fun h => ?_)
  · refine sR T_ok [2] [] ⟨[(2, B true)], []⟩ (tn 1) ?_
    refine VW.ret ?_
    replace h := Option.some.inj h
    subst h
    exact rt []
  refine VW.skip ?_
  refine VW.seq ?_
  refine VW.region ?_
  refine sG T_ok 1 [20] [] ⟨[(20, .lf (.v (.sl (.int .u8)) a0))], []⟩ (tn 1) ?_
  obtain ⟨y3, hy, h⟩ := andO_some h
  refine cal false [.t (.sl (.int .u8))] [] (some 21) T_ok (ok8 N _ hy) ?_
  refine sN T_ok [3, 4] [0] ⟨[(3, I y3.1), (4, .lf (.hd 0 0 none))], [ar 0 (.int .i64) y3.2 .dp]⟩ (tn 5) ?_
  refine VW.seq ?_
  refine VW.region ?_
  refine sG T_ok 2 [3, 4, 25, 26] [0] ⟨[(3, I y3.1), (4, .lf (.hd 0 0 none)), (25, I y3.1), (26, .lf (.hd 0 0 none))], [ar 0 (.int .i64) y3.2 .dp]⟩ (tn 2) ?_
  obtain ⟨y4, hy, h⟩ := andO_some h
  refine cal true [.t (.int .i64), .t (.sl (.int .i64))] [] (some 27) T_ok (ok9 N _ _ hy) ?_
  refine sN T_ok [3, 4, 5, 6] [0, 4, 1, 2, 3] ⟨[(3, I y3.1), (4, .lf (.hd 0 0 none)), (5, .lf (.ptr 1 0 0 0)), (6, .lf (.hd 4 0 none))], [ar 0 (.int .i64) y3.2 .dp, bx [.v (.int .i64) y4.1.1, .hd 2 0 none, .hd 3 0 none] 28, ar 0 (.int .i64) y4.1.2.1 .dp, ar 0 (.int .i64) y4.1.2.2 .dp, ar 0 (.int .i64) y4.2 .dp]⟩ (tn 6) ?_
  refine VW.seq ?_
  refine VW.region ?_
  refine sG T_ok 2 [3, 4, 5, 6, 31, 32] [0, 1, 2, 3, 4] ⟨[(3, I y3.1), (4, .lf (.hd 0 0 none)), (5, .lf (.ptr 1 0 0 0)), (6, .lf (.hd 4 0 none)), (31, I y3.1), (32, .lf (.hd 0 0 none))], [ar 0 (.int .i64) y3.2 .dp, bx [.v (.int .i64) y4.1.1, .hd 2 0 none, .hd 3 0 none] 28, ar 0 (.int .i64) y4.1.2.1 .dp, ar 0 (.int .i64) y4.1.2.2 .dp, ar 0 (.int .i64) y4.2 .dp]⟩ (tn 2) ?_
  obtain ⟨y5, hy, h⟩ := andO_some h
  refine cal true [.t (.int .i64), .t (.sl (.int .i64))] [] (some 33) T_ok (ok10 N _ _ hy) ?_
  refine sN T_ok [3, 4, 5, 6, 7, 8] [0, 1, 2, 3, 4, 8, 5, 6, 7] ⟨[(3, I y3.1), (4, .lf (.hd 0 0 none)), (5, .lf (.ptr 1 0 0 0)), (6, .lf (.hd 4 0 none)), (7, .lf (.ptr 5 0 0 0)), (8, .lf (.hd 8 0 none))], [ar 0 (.int .i64) y3.2 .dp, bx [.v (.int .i64) y4.1.1, .hd 2 0 none, .hd 3 0 none] 28, ar 0 (.int .i64) y4.1.2.1 .dp, ar 0 (.int .i64) y4.1.2.2 .dp, ar 0 (.int .i64) y4.2 .dp, bx [.v (.int .i64) y5.1.1, .hd 6 0 none, .hd 7 0 none] 28, ar 0 (.int .i64) y5.1.2.1 .dp, ar 0 (.int .i64) y5.1.2.2 .dp, ar 0 (.int .i64) y5.2 .dp]⟩ (tn 6) ?_
  refine VW.seq ?_
  refine VW.seq ?_
  obtain ⟨y10, hy10, h⟩ := andO_some h
  rcases Bool.eq_false_or_eq_true (!y10) with hb11 | hb11
  · replace h := cond_t h hb11
    refine VW.drawn (by kernel_rfl) [some (36, .lf (.hd 8 0 none)), some (37, .lf (.hd 4 0 none)), some (38, B y10), some (39, B (!y10)), some (40, B true), some (41, .unk), some (42, .unk), some (43, .unk), some (44, .unk), some (45, .unk), some (46, B true)] [] [[ar 0 (.int .i64) y3.2 .dp, bx [.v (.int .i64) y4.1.1, .hd 2 0 none, .hd 3 0 none] 28, ar 0 (.int .i64) y4.1.2.1 .dp, ar 0 (.int .i64) y4.1.2.2 .dp, ar 0 (.int .i64) y4.2 .dp, bx [.v (.int .i64) y5.1.1, .hd 6 0 none, .hd 7 0 none] 28, ar 0 (.int .i64) y5.1.2.1 .dp, ar 0 (.int .i64) y5.1.2.2 .dp, ar 0 (.int .i64) y5.2 .dp]] [(0, 0), (1, 0), (2, 0), (3, 0), (4, 0), (5, 0), (6, 0), (7, 0), (8, 0), (9, 0), (10, 0)] [3, 4, 7, 46] [0, 5, 6, 7] (s' := ⟨[(3, I y3.1), (4, .lf (.hd 0 0 none)), (7, .lf (.ptr 1 0 0 0)), (46, B true)], [ar 0 (.int .i64) y3.2 .dp, bx [.v (.int .i64) y5.1.1, .hd 2 0 none, .hd 3 0 none] 28, ar 0 (.int .i64) y5.1.2.1 .dp, ar 0 (.int .i64) y5.1.2.2 .dp]⟩) (by kernel_rfl) (by kernel_rfl) ⟨⟨_, rfl, Stp.ev T_ok (m := .dp) (φ := True) (by kernel_rfl) trivial⟩,
    ⟨_, rfl, Stp.ev T_ok (m := .dp) (φ := True) (by kernel_rfl) trivial⟩,
    ⟨_, rfl, Stp.eq (Stp.call true [.t (.sl (.int .i64)), .t (.sl (.int .i64))] [] T_ok (d := some 38) (by kernel_rfl) (ok11 N _ _ hy10) rfl) (by kernel_rfl) (by kernel_rfl)⟩,
    ⟨_, rfl, Stp.ev T_ok (m := .dp) (φ := True) (by kernel_rfl) trivial⟩,
    ⟨_, rfl, Stp.lit (d := 40) (b := (!y10)) (c := true) (Stp.ev T_ok (m := .dp) (φ := True) (by kernel_rfl) trivial) hb11⟩,
    ⟨_, rfl, Stp.off (d := 40) (b := true) rfl rfl rfl (by kernel_rfl) (by decide) rfl (Nat.le_of_ble_eq_true rfl)⟩,
    ⟨_, rfl, Stp.off (d := 40) (b := true) rfl rfl rfl (by kernel_rfl) (by decide) rfl (Nat.le_of_ble_eq_true rfl)⟩,
    ⟨_, rfl, Stp.off (d := 40) (b := true) rfl rfl rfl (by kernel_rfl) (by decide) rfl (Nat.le_of_ble_eq_true rfl)⟩,
    ⟨_, rfl, Stp.off (d := 40) (b := true) rfl rfl rfl (by kernel_rfl) (by decide) rfl (Nat.le_of_ble_eq_true rfl)⟩,
    ⟨_, rfl, Stp.off (d := 40) (b := true) rfl rfl rfl (by kernel_rfl) (by decide) rfl (Nat.le_of_ble_eq_true rfl)⟩,
    ⟨_, rfl, Stp.ev T_ok (m := .dp) (φ := True) (by kernel_rfl) trivial⟩, trivial⟩ (by kernel_rfl) ?_
    refine VW.cond (b := true) (by kernel_rfl) (fun _ => ?_) (fun h' => nomatch h')
    refine sR T_ok [2] [] ⟨[(2, B false)], []⟩ (tn 1) ?_
    refine VW.ret ?_
    replace h := Option.some.inj h
    subst h
    exact rt []
  replace h := cond_f h hb11
  obtain ⟨y12, hy12, h⟩ := andO_some h
  obtain ⟨y13, hy13, h⟩ := andO_some h
  refine VW.drawn (by kernel_rfl) [some (36, .lf (.hd 8 0 none)), some (37, .lf (.hd 4 0 none)), some (38, B y10), some (39, B (!y10)), some (40, B false), some (41, .agg [.v (.int .i64) y5.1.1, .hd 6 0 none, .hd 7 0 none]), some (42, S y12), some (43, .agg [.v (.int .i64) y4.1.1, .hd 2 0 none, .hd 3 0 none]), some (44, S y13), some (45, B (!(y12.toList == y13.toList))), some (46, B (!(y12.toList == y13.toList)))] [] [[ar 0 (.int .i64) y3.2 .dp, bx [.v (.int .i64) y4.1.1, .hd 2 0 none, .hd 3 0 none] 28, ar 0 (.int .i64) y4.1.2.1 .dp, ar 0 (.int .i64) y4.1.2.2 .dp, ar 0 (.int .i64) y4.2 .dp, bx [.v (.int .i64) y5.1.1, .hd 6 0 none, .hd 7 0 none] 28, ar 0 (.int .i64) y5.1.2.1 .dp, ar 0 (.int .i64) y5.1.2.2 .dp, ar 0 (.int .i64) y5.2 .dp]] [(0, 0), (1, 0), (2, 0), (3, 0), (4, 0), (5, 0), (6, 0), (7, 0), (8, 0), (9, 0), (10, 0)] [3, 4, 7, 46] [0, 5, 6, 7] (s' := ⟨[(3, I y3.1), (4, .lf (.hd 0 0 none)), (7, .lf (.ptr 1 0 0 0)), (46, B (!(y12.toList == y13.toList)))], [ar 0 (.int .i64) y3.2 .dp, bx [.v (.int .i64) y5.1.1, .hd 2 0 none, .hd 3 0 none] 28, ar 0 (.int .i64) y5.1.2.1 .dp, ar 0 (.int .i64) y5.1.2.2 .dp]⟩) (by kernel_rfl) (by kernel_rfl) ⟨⟨_, rfl, Stp.ev T_ok (m := .dp) (φ := True) (by kernel_rfl) trivial⟩,
    ⟨_, rfl, Stp.ev T_ok (m := .dp) (φ := True) (by kernel_rfl) trivial⟩,
    ⟨_, rfl, Stp.eq (Stp.call true [.t (.sl (.int .i64)), .t (.sl (.int .i64))] [] T_ok (d := some 38) (by kernel_rfl) (ok11 N _ _ hy10) rfl) (by kernel_rfl) (by kernel_rfl)⟩,
    ⟨_, rfl, Stp.ev T_ok (m := .dp) (φ := True) (by kernel_rfl) trivial⟩,
    ⟨_, rfl, Stp.lit (d := 40) (b := (!y10)) (c := false) (Stp.ev T_ok (m := .dp) (φ := True) (by kernel_rfl) trivial) hb11⟩,
    ⟨_, rfl, Stp.on (d := 40) (b := false) rfl rfl rfl (by kernel_rfl) rfl (Stp.ev T_ok (m := .dp) (φ := True) (by kernel_rfl) trivial)⟩,
    ⟨_, rfl, Stp.eq (Stp.on (d := 40) (b := false) rfl rfl rfl (by kernel_rfl) rfl (Stp.call true [.t Y27] [] T_ok (d := some 42) (by kernel_rfl) (ok12 N _ hy12) rfl)) (by kernel_rfl) (by kernel_rfl)⟩,
    ⟨_, rfl, Stp.on (d := 40) (b := false) rfl rfl rfl (by kernel_rfl) rfl (Stp.ev T_ok (m := .dp) (φ := True) (by kernel_rfl) trivial)⟩,
    ⟨_, rfl, Stp.eq (Stp.on (d := 40) (b := false) rfl rfl rfl (by kernel_rfl) rfl (Stp.call true [.t Y27] [] T_ok (d := some 44) (by kernel_rfl) (ok13 N _ hy13) rfl)) (by kernel_rfl) (by kernel_rfl)⟩,
    ⟨_, rfl, Stp.on (d := 40) (b := false) rfl rfl rfl (by kernel_rfl) rfl (Stp.ev T_ok (m := .dp) (φ := True) (by kernel_rfl) trivial)⟩,
    ⟨_, rfl, Stp.ev T_ok (m := .dp) (φ := True) (by kernel_rfl) trivial⟩, trivial⟩ (by kernel_rfl) ?_
  refine cnd h (fun h => ?_) (fun h => ?_)
  · refine sR T_ok [2] [] ⟨[(2, B false)], []⟩ (tn 1) ?_
    refine VW.ret ?_
    replace h := Option.some.inj h
    subst h
    exact rt []
  refine VW.skip ?_
  refine VW.seq ?_
  refine VW.seq ?_
  refine VW.region ?_
  refine sG T_ok 3 [3, 4, 7, 49] [0, 1, 2, 3] ⟨[(3, I y3.1), (4, .lf (.hd 0 0 none)), (7, .lf (.ptr 1 0 0 0)), (49, B (decide (y3.1 < (1 : Int))))], [ar 0 (.int .i64) y3.2 .dp, bx [.v (.int .i64) y5.1.1, .hd 2 0 none, .hd 3 0 none] 28, ar 0 (.int .i64) y5.1.2.1 .dp, ar 0 (.int .i64) y5.1.2.2 .dp]⟩ (tn 3) ?_
  refine spB 49 h (fun h => ?_) (fun h => ?_)
  · refine sN T_ok [3, 4, 7, 57] [0, 1, 2, 3] ⟨[(3, I y3.1), (4, .lf (.hd 0 0 none)), (7, .lf (.ptr 1 0 0 0)), (57, B true)], [ar 0 (.int .i64) y3.2 .dp, bx [.v (.int .i64) y5.1.1, .hd 2 0 none, .hd 3 0 none] 28, ar 0 (.int .i64) y5.1.2.1 .dp, ar 0 (.int .i64) y5.1.2.2 .dp]⟩ (tn 8) ?_
    refine VW.cond (b := true) (by kernel_rfl) (fun _ => ?_) (fun h' => nomatch h')
    refine sR T_ok [2] [] ⟨[(2, B ((y5.1.2.1.length : Int) == (0 : Int)))], []⟩ (tn 5) ?_
    refine VW.ret ?_
    replace h := Option.some.inj h
    subst h
    exact rt []
  refine sG T_ok 4 [3, 4, 7, 53] [0, 1, 2, 3] ⟨[(3, I y3.1), (4, .lf (.hd 0 0 none)), (7, .lf (.ptr 1 0 0 0)), (53, B (decide (y3.1 > (16 : Int))))], [ar 0 (.int .i64) y3.2 .dp, bx [.v (.int .i64) y5.1.1, .hd 2 0 none, .hd 3 0 none] 28, ar 0 (.int .i64) y5.1.2.1 .dp, ar 0 (.int .i64) y5.1.2.2 .dp]⟩ (tn 4) ?_
  refine spB 53 h (fun h => ?_) (fun h => ?_)
  · refine sN T_ok [3, 4, 7, 57] [0, 1, 2, 3] ⟨[(3, I y3.1), (4, .lf (.hd 0 0 none)), (7, .lf (.ptr 1 0 0 0)), (57, B true)], [ar 0 (.int .i64) y3.2 .dp, bx [.v (.int .i64) y5.1.1, .hd 2 0 none, .hd 3 0 none] 28, ar 0 (.int .i64) y5.1.2.1 .dp, ar 0 (.int .i64) y5.1.2.2 .dp]⟩ (tn 4) ?_
    refine VW.cond (b := true) (by kernel_rfl) (fun _ => ?_) (fun h' => nomatch h')
    refine sR T_ok [2] [] ⟨[(2, B ((y5.1.2.1.length : Int) == (0 : Int)))], []⟩ (tn 5) ?_
    refine VW.ret ?_
    replace h := Option.some.inj h
    subst h
    exact rt []
  refine sN T_ok [3, 4, 7, 57] [0, 1, 2, 3] ⟨[(3, I y3.1), (4, .lf (.hd 0 0 none)), (7, .lf (.ptr 1 0 0 0)), (57, B (decide ((y3.2.length : Int) > (300 : Int))))], [ar 0 (.int .i64) y3.2 .dp, bx [.v (.int .i64) y5.1.1, .hd 2 0 none, .hd 3 0 none] 28, ar 0 (.int .i64) y5.1.2.1 .dp, ar 0 (.int .i64) y5.1.2.2 .dp]⟩ (tn 4) ?_
  refine cnd h (fun h => ?_) (fun h => ?_)
  · refine sR T_ok [2] [] ⟨[(2, B ((y5.1.2.1.length : Int) == (0 : Int)))], []⟩ (tn 5) ?_
    refine VW.ret ?_
    replace h := Option.some.inj h
    subst h
    exact rt []
  refine VW.skip ?_
  refine sR T_ok [3, 4, 7, 9] [0, 1, 2, 3] ⟨[(3, I y3.1), (4, .lf (.hd 0 0 none)), (7, .lf (.ptr 1 0 0 0)), (9, .lf (.nil))], [ar 0 (.int .i64) y3.2 .dp, bx [.v (.int .i64) y5.1.1, .hd 2 0 none, .hd 3 0 none] 28, ar 0 (.int .i64) y5.1.2.1 .dp, ar 0 (.int .i64) y5.1.2.2 .dp]⟩ (tn 2) ?_
  refine VW.join (fun s => ∃ (x437 : Int) (x438 : (List Int)) (x439 : (List Int)) (x440 : (List Int)), s = ⟨[(7, .lf (.ptr 0 0 0 0)), (9, .lf (.hd 3 0 none))], [bx [.v (.int .i64) x437, .hd 1 0 none, .hd 2 0 none] 28, ar 0 (.int .i64) x438 .dp, ar 0 (.int .i64) x439 .dp, ar 0 (.int .i64) x440 .dp]⟩ ∧ F3_j1 N x437 x438 x439 x440 = some r) ?_ ?_
  · refine sR T_ok [3, 4, 7, 9, 10] [0, 1, 2, 3] ⟨[(3, I y3.1), (4, .lf (.hd 0 0 none)), (7, .lf (.ptr 1 0 0 0)), (9, .lf (.nil)), (10, I (0 : Int))], [ar 0 (.int .i64) y3.2 .dp, bx [.v (.int .i64) y5.1.1, .hd 2 0 none, .hd 3 0 none] 28, ar 0 (.int .i64) y5.1.2.1 .dp, ar 0 (.int .i64) y5.1.2.2 .dp]⟩ (tn 1) ?_
    refine VW.block ?_
    refine lop (fun k s => ∃ (x490 : Int) (x491 : (List Int)) (x492 : Int) (x493 : (List Int)) (x494 : (List Int)) (x495 : (List Int)) (x496 : Int), s = ⟨[(3, I x490), (4, .lf (.hd 0 0 none)), (7, .lf (.ptr 1 0 0 0)), (9, .lf (.hd 4 0 none)), (10, I x496)], [ar 0 (.int .i64) x491 .dp, bx [.v (.int .i64) x492, .hd 2 0 none, .hd 3 0 none] 28, ar 0 (.int .i64) x493 .dp, ar 0 (.int .i64) x494 .dp, ar 0 (.int .i64) x495 .dp]⟩ ∧ F3_l1 N k x490 x491 x492 x493 x494 x495 x496 = some r) N [.nilS 9 (.int .i64) .dp, .ren [3, 4, 7, 9, 10] [0, 1, 2, 3, 4]] ⟨y3.1, y3.2, y5.1.1, y5.1.2.1, y5.1.2.2, [], (0 : Int), rfl, h⟩ ?_
    rintro k685 s ⟨x490, x491, x492, x493, x494, x495, x496, rfl, h⟩
    cases k685 with
    | zero => cases show none = some r from h
    | succ k685 =>
      replace h : F3_l1_b N (F3_l1 N k685) x490 x491 x492 x493 x494 x495 x496 = some r := h
      unfold F3_l1_b at h
      refine VW.seq ?_
      refine sR T_ok [3, 4, 7, 9, 10, 66] [0, 1, 2, 3, 4] ⟨[(3, I x490), (4, .lf (.hd 0 0 none)), (7, .lf (.ptr 1 0 0 0)), (9, .lf (.hd 4 0 none)), (10, I x496), (66, B (decide (x496 < (x491.length : Int))))], [ar 0 (.int .i64) x491 .dp, bx [.v (.int .i64) x492, .hd 2 0 none, .hd 3 0 none] 28, ar 0 (.int .i64) x493 .dp, ar 0 (.int .i64) x494 .dp, ar 0 (.int .i64) x495 .dp]⟩ (tn 4) ?_
      refine cnd h (fun h => ?_) (fun h => ?_)
      · refine VW.skip ?_
        refine VW.join (fun s => ∃ (x779 : (List Int)), s = ⟨[(3, I x490), (4, .lf (.hd 0 0 none)), (7, .lf (.ptr 1 0 0 0)), (9, .lf (.hd 4 0 none)), (10, I x496)], [ar 0 (.int .i64) x491 .dp, bx [.v (.int .i64) x492, .hd 2 0 none, .hd 3 0 none] 28, ar 0 (.int .i64) x493 .dp, ar 0 (.int .i64) x494 .dp, ar 0 (.int .i64) x779 .dp]⟩ ∧ F3_j2 N (F3_l1 N k685) x490 x491 x492 x493 x494 x496 x779 = some r) ?_ ?_
        · refine VW.block ?_
          obtain ⟨g781, h⟩ := gd_some h
          obtain ⟨g782, h⟩ := gd_some h
          refine sR T_ok [3, 4, 7, 9, 10, 11] [0, 1, 2, 3, 4] ⟨[(3, I x490), (4, .lf (.hd 0 0 none)), (7, .lf (.ptr 1 0 0 0)), (9, .lf (.hd 4 0 none)), (10, I x496), (11, I (x491.getD x496.toNat (Ty.dflt (.int .i64))))], [ar 0 (.int .i64) x491 .dp, bx [.v (.int .i64) x492, .hd 2 0 none, .hd 3 0 none] 28, ar 0 (.int .i64) x493 .dp, ar 0 (.int .i64) x494 .dp, ar 0 (.int .i64) x495 .dp]⟩ (pu 2 (an g781 (an g782 (tn 1)))) ?_
          refine sR T_ok [3, 4, 7, 9, 10, 11, 12] [0, 1, 2, 3, 4] ⟨[(3, I x490), (4, .lf (.hd 0 0 none)), (7, .lf (.ptr 1 0 0 0)), (9, .lf (.hd 4 0 none)), (10, I x496), (11, I (x491.getD x496.toNat (Ty.dflt (.int .i64)))), (12, I (IntKind.i64.wrap (Int.tdiv (x491.getD x496.toNat (Ty.dflt (.int .i64))) (2 : Int))))], [ar 0 (.int .i64) x491 .dp, bx [.v (.int .i64) x492, .hd 2 0 none, .hd 3 0 none] 28, ar 0 (.int .i64) x493 .dp, ar 0 (.int .i64) x494 .dp, ar 0 (.int .i64) x495 .dp]⟩ (pu 1 (an (show ((2 : Int) ≠ 0) from by decide) (tn 1))) ?_
          refine VW.join (fun s => ∃ (x783 : Int) (x784 : Int), s = ⟨[(3, I x490), (4, .lf (.hd 0 0 none)), (7, .lf (.ptr 1 0 0 0)), (9, .lf (.hd 4 0 none)), (10, I x496), (11, I x783), (12, I x784)], [ar 0 (.int .i64) x491 .dp, bx [.v (.int .i64) x492, .hd 2 0 none, .hd 3 0 none] 28, ar 0 (.int .i64) x493 .dp, ar 0 (.int .i64) x494 .dp, ar 0 (.int .i64) x495 .dp]⟩ ∧ F3_j6 N (F3_l1 N k685) x490 x491 x492 x493 x494 x495 x496 x783 x784 = some r) ?_ ?_
          · refine sR T_ok [3, 4, 7, 9, 10, 11, 12, 76] [0, 1, 2, 3, 4] ⟨[(3, I x490), (4, .lf (.hd 0 0 none)), (7, .lf (.ptr 1 0 0 0)), (9, .lf (.hd 4 0 none)), (10, I x496), (11, I (x491.getD x496.toNat (Ty.dflt (.int .i64)))), (12, I (IntKind.i64.wrap (Int.tdiv (x491.getD x496.toNat (Ty.dflt (.int .i64))) (2 : Int)))), (76, B (decide ((x491.getD x496.toNat (Ty.dflt (.int .i64))) < (0 : Int))))], [ar 0 (.int .i64) x491 .dp, bx [.v (.int .i64) x492, .hd 2 0 none, .hd 3 0 none] 28, ar 0 (.int .i64) x493 .dp, ar 0 (.int .i64) x494 .dp, ar 0 (.int .i64) x495 .dp]⟩ (tn 2) ?_
            refine cnd h (fun h => ?_) (fun h => ?_)
            · refine rR T_ok [3, 4, 7, 9, 10, 11, 12] [0, 1, 2, 3, 4] ⟨[(3, I x490), (4, .lf (.hd 0 0 none)), (7, .lf (.ptr 1 0 0 0)), (9, .lf (.hd 4 0 none)), (10, I x496), (11, I (x491.getD x496.toNat (Ty.dflt (.int .i64)))), (12, I (IntKind.i64.wrap ((IntKind.i64.wrap ((0 : Int) - (x491.getD x496.toNat (Ty.dflt (.int .i64))))) - (1 : Int))))], [ar 0 (.int .i64) x491 .dp, bx [.v (.int .i64) x492, .hd 2 0 none, .hd 3 0 none] 28, ar 0 (.int .i64) x493 .dp, ar 0 (.int .i64) x494 .dp, ar 0 (.int .i64) x495 .dp]⟩ (tn 4) ?_
              exact arv [.ren [3, 4, 7, 9, 10, 11, 12] [0, 1, 2, 3, 4]] ⟨(x491.getD x496.toNat (Ty.dflt (.int .i64))), (IntKind.i64.wrap ((IntKind.i64.wrap ((0 : Int) - (x491.getD x496.toNat (Ty.dflt (.int .i64))))) - (1 : Int))), rfl, h⟩
            refine VW.skip ?_
            exact arv [.ren [3, 4, 7, 9, 10, 11, 12] [0, 1, 2, 3, 4]] ⟨(x491.getD x496.toNat (Ty.dflt (.int .i64))), (IntKind.i64.wrap (Int.tdiv (x491.getD x496.toNat (Ty.dflt (.int .i64))) (2 : Int))), rfl, h⟩
          rintro s ⟨x783, x784, rfl, h⟩
          unfold F3_j6 at h
          refine VW.seq ?_
          refine VW.region ?_
          refine sG T_ok 2 [3, 4, 7, 9, 10, 11, 12, 80, 81] [0, 1, 2, 3, 4] ⟨[(3, I x490), (4, .lf (.hd 0 0 none)), (7, .lf (.ptr 1 0 0 0)), (9, .lf (.hd 4 0 none)), (10, I x496), (11, I x783), (12, I x784), (80, .lf (.hd 4 0 none)), (81, I x784)], [ar 0 (.int .i64) x491 .dp, bx [.v (.int .i64) x492, .hd 2 0 none, .hd 3 0 none] 28, ar 0 (.int .i64) x493 .dp, ar 0 (.int .i64) x494 .dp, ar 0 (.int .i64) x495 .dp]⟩ (tn 2) ?_
          obtain ⟨y785, hy, h⟩ := andO_some h
          refine cal true [.t (.sl (.int .i64)), .t (.int .i64)] [] (some 82) T_ok (ok14 N _ _ hy) ?_
          refine sN T_ok [3, 4, 7, 9, 10, 11, 12, 13] [0, 1, 2, 3, 4] ⟨[(3, I x490), (4, .lf (.hd 0 0 none)), (7, .lf (.ptr 1 0 0 0)), (9, .lf (.hd 4 0 none)), (10, I x496), (11, I x783), (12, I x784), (13, B y785)], [ar 0 (.int .i64) x491 .dp, bx [.v (.int .i64) x492, .hd 2 0 none, .hd 3 0 none] 28, ar 0 (.int .i64) x493 .dp, ar 0 (.int .i64) x494 .dp, ar 0 (.int .i64) x495 .dp]⟩ (tn 1) ?_
          refine sR T_ok [3, 4, 7, 9, 10, 11, 12, 13, 14] [0, 1, 2, 3, 4] ⟨[(3, I x490), (4, .lf (.hd 0 0 none)), (7, .lf (.ptr 1 0 0 0)), (9, .lf (.hd 4 0 none)), (10, I x496), (11, I x783), (12, I x784), (13, B y785), (14, .lf (.nil))], [ar 0 (.int .i64) x491 .dp, bx [.v (.int .i64) x492, .hd 2 0 none, .hd 3 0 none] 28, ar 0 (.int .i64) x493 .dp, ar 0 (.int .i64) x494 .dp, ar 0 (.int .i64) x495 .dp]⟩ (tn 2) ?_
          refine VW.join (fun s => ∃ (x825 : (List Int)), s = ⟨[(3, I x490), (4, .lf (.hd 0 0 none)), (7, .lf (.ptr 1 0 0 0)), (9, .lf (.hd 4 0 none)), (10, I x496), (11, I x783), (12, I x784), (13, B y785), (14, .lf (.hd 5 0 none))], [ar 0 (.int .i64) x491 .dp, bx [.v (.int .i64) x492, .hd 2 0 none, .hd 3 0 none] 28, ar 0 (.int .i64) x493 .dp, ar 0 (.int .i64) x494 .dp, ar 0 (.int .i64) x495 .dp, ar 0 (.int .i64) x825 .dp]⟩ ∧ F3_j4 N (F3_l1 N k685) x490 x491 x492 x493 x494 x495 x496 x783 x784 y785 x825 = some r) ?_ ?_
          · refine sR T_ok [3, 4, 7, 9, 10, 11, 12, 13, 14, 15] [0, 1, 2, 3, 4] ⟨[(3, I x490), (4, .lf (.hd 0 0 none)), (7, .lf (.ptr 1 0 0 0)), (9, .lf (.hd 4 0 none)), (10, I x496), (11, I x783), (12, I x784), (13, B y785), (14, .lf (.nil)), (15, I (0 : Int))], [ar 0 (.int .i64) x491 .dp, bx [.v (.int .i64) x492, .hd 2 0 none, .hd 3 0 none] 28, ar 0 (.int .i64) x493 .dp, ar 0 (.int .i64) x494 .dp, ar 0 (.int .i64) x495 .dp]⟩ (tn 1) ?_
            refine VW.block ?_
            refine lop (fun k s => ∃ (x846 : (List Int)) (x847 : Int), s = ⟨[(3, I x490), (4, .lf (.hd 0 0 none)), (7, .lf (.ptr 1 0 0 0)), (9, .lf (.hd 4 0 none)), (10, I x496), (11, I x783), (12, I x784), (13, B y785), (14, .lf (.hd 5 0 none)), (15, I x847)], [ar 0 (.int .i64) x491 .dp, bx [.v (.int .i64) x492, .hd 2 0 none, .hd 3 0 none] 28, ar 0 (.int .i64) x493 .dp, ar 0 (.int .i64) x494 .dp, ar 0 (.int .i64) x495 .dp, ar 0 (.int .i64) x846 .dp]⟩ ∧ F3_l0 N (F3_l1 N k685) x490 x491 x492 x493 x494 x495 x496 x783 x784 y785 k x846 x847 = some r) N [.nilS 14 (.int .i64) .dp, .ren [3, 4, 7, 9, 10, 11, 12, 13, 14, 15] [0, 1, 2, 3, 4, 5]] ⟨[], (0 : Int), rfl, h⟩ ?_
            rintro k860 s ⟨x846, x847, rfl, h⟩
            cases k860 with
            | zero => cases show none = some r from h
            | succ k860 =>
              replace h : F3_l0_b N (F3_l1 N k685) x490 x491 x492 x493 x494 x495 x496 x783 x784 y785 (F3_l0 N (F3_l1 N k685) x490 x491 x492 x493 x494 x495 x496 x783 x784 y785 k860) x846 x847 = some r := h
              unfold F3_l0_b at h
              refine VW.seq ?_
              refine sR T_ok [3, 4, 7, 9, 10, 11, 12, 13, 14, 15, 87] [0, 1, 2, 3, 4, 5] ⟨[(3, I x490), (4, .lf (.hd 0 0 none)), (7, .lf (.ptr 1 0 0 0)), (9, .lf (.hd 4 0 none)), (10, I x496), (11, I x783), (12, I x784), (13, B y785), (14, .lf (.hd 5 0 none)), (15, I x847), (87, B (decide (x847 < (x495.length : Int))))], [ar 0 (.int .i64) x491 .dp, bx [.v (.int .i64) x492, .hd 2 0 none, .hd 3 0 none] 28, ar 0 (.int .i64) x493 .dp, ar 0 (.int .i64) x494 .dp, ar 0 (.int .i64) x495 .dp, ar 0 (.int .i64) x846 .dp]⟩ (tn 4) ?_
              refine cnd h (fun h => ?_) (fun h => ?_)
              · refine VW.skip ?_
                refine VW.join (fun s => ∃ (x866 : (List Int)), s = ⟨[(3, I x490), (4, .lf (.hd 0 0 none)), (7, .lf (.ptr 1 0 0 0)), (9, .lf (.hd 4 0 none)), (10, I x496), (11, I x783), (12, I x784), (13, B y785), (14, .lf (.hd 5 0 none)), (15, I x847)], [ar 0 (.int .i64) x491 .dp, bx [.v (.int .i64) x492, .hd 2 0 none, .hd 3 0 none] 28, ar 0 (.int .i64) x493 .dp, ar 0 (.int .i64) x494 .dp, ar 0 (.int .i64) x495 .dp, ar 0 (.int .i64) x866 .dp]⟩ ∧ F3_j5 N (F3_l0 N (F3_l1 N k685) x490 x491 x492 x493 x494 x495 x496 x783 x784 y785 k860) x847 x866 = some r) ?_ ?_
                · refine VW.block ?_
                  obtain ⟨g868, h⟩ := gd_some h
                  obtain ⟨g869, h⟩ := gd_some h
                  refine sR T_ok [3, 4, 7, 9, 10, 11, 12, 13, 14, 15, 95] [0, 1, 2, 3, 4, 5] ⟨[(3, I x490), (4, .lf (.hd 0 0 none)), (7, .lf (.ptr 1 0 0 0)), (9, .lf (.hd 4 0 none)), (10, I x496), (11, I x783), (12, I x784), (13, B y785), (14, .lf (.hd 5 0 none)), (15, I x847), (95, B ((x495.getD x847.toNat (Ty.dflt (.int .i64))) != x784))], [ar 0 (.int .i64) x491 .dp, bx [.v (.int .i64) x492, .hd 2 0 none, .hd 3 0 none] 28, ar 0 (.int .i64) x493 .dp, ar 0 (.int .i64) x494 .dp, ar 0 (.int .i64) x495 .dp, ar 0 (.int .i64) x846 .dp]⟩ (pu 2 (an g868 (an g869 (tn 2)))) ?_
                  refine cnd h (fun h => ?_) (fun h => ?_)
                  · obtain ⟨g870, h⟩ := gd_some h
                    obtain ⟨g871, h⟩ := gd_some h
                    obtain ⟨g872, h⟩ := gd_some h
                    refine rR T_ok [3, 4, 7, 9, 10, 11, 12, 13, 14, 15] [0, 1, 2, 3, 4, 5] ⟨[(3, I x490), (4, .lf (.hd 0 0 none)), (7, .lf (.ptr 1 0 0 0)), (9, .lf (.hd 4 0 none)), (10, I x496), (11, I x783), (12, I x784), (13, B y785), (14, .lf (.hd 5 0 none)), (15, I x847)], [ar 0 (.int .i64) x491 .dp, bx [.v (.int .i64) x492, .hd 2 0 none, .hd 3 0 none] 28, ar 0 (.int .i64) x493 .dp, ar 0 (.int .i64) x494 .dp, ar 0 (.int .i64) x495 .dp, ar 0 (.int .i64) (x846 ++ ([(x495.getD x847.toNat (Ty.dflt (.int .i64)))])) .dp]⟩ (pu 3 (an g870 (an g871 (pu 1 (an g872 (tn 1)))))) ?_
                    exact arv [.ren [3, 4, 7, 9, 10, 11, 12, 13, 14, 15] [0, 1, 2, 3, 4, 5]] ⟨(x846 ++ ([(x495.getD x847.toNat (Ty.dflt (.int .i64)))])), rfl, h⟩
                  refine VW.skip ?_
                  exact arv [.ren [3, 4, 7, 9, 10, 11, 12, 13, 14, 15] [0, 1, 2, 3, 4, 5]] ⟨x846, rfl, h⟩
                rintro s ⟨x866, rfl, h⟩
                unfold F3_j5 at h
                refine rR T_ok [3, 4, 7, 9, 10, 11, 12, 13, 14, 15] [0, 1, 2, 3, 4, 5] ⟨[(3, I x490), (4, .lf (.hd 0 0 none)), (7, .lf (.ptr 1 0 0 0)), (9, .lf (.hd 4 0 none)), (10, I x496), (11, I x783), (12, I x784), (13, B y785), (14, .lf (.hd 5 0 none)), (15, I (IntKind.i64.wrap (x847 + (1 : Int))))], [ar 0 (.int .i64) x491 .dp, bx [.v (.int .i64) x492, .hd 2 0 none, .hd 3 0 none] 28, ar 0 (.int .i64) x493 .dp, ar 0 (.int .i64) x494 .dp, ar 0 (.int .i64) x495 .dp, ar 0 (.int .i64) x866 .dp]⟩ (tn 3) ?_
                exact aro [.ren [3, 4, 7, 9, 10, 11, 12, 13, 14, 15] [0, 1, 2, 3, 4, 5]] ⟨x866, (IntKind.i64.wrap (x847 + (1 : Int))), rfl, h⟩
              refine VW.exit ?_
              exact arv [.ren [3, 4, 7, 9, 10, 11, 12, 13, 14] [0, 1, 2, 3, 4, 5]] ⟨x846, rfl, h⟩
          rintro s ⟨x825, rfl, h⟩
          unfold F3_j4 at h
          refine VW.join (fun s => ∃ (x828 : (List Int)), s = ⟨[(3, I x490), (4, .lf (.hd 0 0 none)), (7, .lf (.ptr 1 0 0 0)), (9, .lf (.hd 4 0 none)), (10, I x496)], [ar 0 (.int .i64) x491 .dp, bx [.v (.int .i64) x492, .hd 2 0 none, .hd 3 0 none] 28, ar 0 (.int .i64) x493 .dp, ar 0 (.int .i64) x494 .dp, ar 0 (.int .i64) x828 .dp]⟩ ∧ F3_j3 N (F3_l1 N k685) x490 x491 x492 x493 x494 x496 x828 = some r) ?_ ?_
          · refine VW.block ?_
            refine sR T_ok [3, 4, 7, 9, 10, 11, 12, 13, 14, 103] [0, 1, 2, 3, 4, 5] ⟨[(3, I x490), (4, .lf (.hd 0 0 none)), (7, .lf (.ptr 1 0 0 0)), (9, .lf (.hd 4 0 none)), (10, I x496), (11, I x783), (12, I x784), (13, B y785), (14, .lf (.hd 5 0 none)), (103, B (decide (x783 < (0 : Int))))], [ar 0 (.int .i64) x491 .dp, bx [.v (.int .i64) x492, .hd 2 0 none, .hd 3 0 none] 28, ar 0 (.int .i64) x493 .dp, ar 0 (.int .i64) x494 .dp, ar 0 (.int .i64) x495 .dp, ar 0 (.int .i64) x825 .dp]⟩ (tn 3) ?_
            refine cnd h (fun h => ?_) (fun h => ?_)
            · refine rR T_ok [3, 4, 7, 9, 10] [0, 1, 2, 3, 5] ⟨[(3, I x490), (4, .lf (.hd 0 0 none)), (7, .lf (.ptr 1 0 0 0)), (9, .lf (.hd 4 0 none)), (10, I x496)], [ar 0 (.int .i64) x491 .dp, bx [.v (.int .i64) x492, .hd 2 0 none, .hd 3 0 none] 28, ar 0 (.int .i64) x493 .dp, ar 0 (.int .i64) x494 .dp, ar 0 (.int .i64) x825 .dp]⟩ (tn 2) ?_
              exact arv [.ren [3, 4, 7, 9, 10] [0, 1, 2, 3, 4]] ⟨x825, rfl, h⟩
            refine VW.seq ?_
            refine VW.region ?_
            refine sG T_ok 4 [3, 4, 7, 9, 10, 12, 13, 14, 111] [0, 1, 2, 3, 4, 5] ⟨[(3, I x490), (4, .lf (.hd 0 0 none)), (7, .lf (.ptr 1 0 0 0)), (9, .lf (.hd 4 0 none)), (10, I x496), (12, I x784), (13, B y785), (14, .lf (.hd 5 0 none)), (111, B ((Int.tmod x783 (2 : Int)) == (1 : Int)))], [ar 0 (.int .i64) x491 .dp, bx [.v (.int .i64) x492, .hd 2 0 none, .hd 3 0 none] 28, ar 0 (.int .i64) x493 .dp, ar 0 (.int .i64) x494 .dp, ar 0 (.int .i64) x495 .dp, ar 0 (.int .i64) x825 .dp]⟩ (pu 1 (an (show ((2 : Int) ≠ 0) from by decide) (tn 2))) ?_
            refine spB 111 h (fun h => ?_) (fun h => ?_)
            · refine sN T_ok [3, 4, 7, 9, 10, 12, 14, 107] [0, 1, 2, 3, 4, 5] ⟨[(3, I x490), (4, .lf (.hd 0 0 none)), (7, .lf (.ptr 1 0 0 0)), (9, .lf (.hd 4 0 none)), (10, I x496), (12, I x784), (14, .lf (.hd 5 0 none)), (107, B true)], [ar 0 (.int .i64) x491 .dp, bx [.v (.int .i64) x492, .hd 2 0 none, .hd 3 0 none] 28, ar 0 (.int .i64) x493 .dp, ar 0 (.int .i64) x494 .dp, ar 0 (.int .i64) x495 .dp, ar 0 (.int .i64) x825 .dp]⟩ (tn 3) ?_
              refine VW.cond (b := true) (by kernel_rfl) (fun _ => ?_) (fun h' => nomatch h')
              obtain ⟨g831, h⟩ := gd_some h
              refine rR T_ok [3, 4, 7, 9, 10] [0, 1, 2, 3, 6] ⟨[(3, I x490), (4, .lf (.hd 0 0 none)), (7, .lf (.ptr 1 0 0 0)), (9, .lf (.hd 4 0 none)), (10, I x496)], [ar 0 (.int .i64) x491 .dp, bx [.v (.int .i64) x492, .hd 2 0 none, .hd 3 0 none] 28, ar 0 (.int .i64) x493 .dp, ar 0 (.int .i64) x494 .dp, ar 0 (.int .i64) (([x784]) ++ x825) .dp]⟩ (pu 3 (an g831 (tn 1))) ?_
              exact arv [.ren [3, 4, 7, 9, 10] [0, 1, 2, 3, 4]] ⟨(([x784]) ++ x825), rfl, h⟩
            refine sN T_ok [3, 4, 7, 9, 10, 12, 14, 107] [0, 1, 2, 3, 4, 5] ⟨[(3, I x490), (4, .lf (.hd 0 0 none)), (7, .lf (.ptr 1 0 0 0)), (9, .lf (.hd 4 0 none)), (10, I x496), (12, I x784), (14, .lf (.hd 5 0 none)), (107, B y785)], [ar 0 (.int .i64) x491 .dp, bx [.v (.int .i64) x492, .hd 2 0 none, .hd 3 0 none] 28, ar 0 (.int .i64) x493 .dp, ar 0 (.int .i64) x494 .dp, ar 0 (.int .i64) x495 .dp, ar 0 (.int .i64) x825 .dp]⟩ (tn 3) ?_
            refine cnd h (fun h => ?_) (fun h => ?_)
            · obtain ⟨g832, h⟩ := gd_some h
              refine rR T_ok [3, 4, 7, 9, 10] [0, 1, 2, 3, 6] ⟨[(3, I x490), (4, .lf (.hd 0 0 none)), (7, .lf (.ptr 1 0 0 0)), (9, .lf (.hd 4 0 none)), (10, I x496)], [ar 0 (.int .i64) x491 .dp, bx [.v (.int .i64) x492, .hd 2 0 none, .hd 3 0 none] 28, ar 0 (.int .i64) x493 .dp, ar 0 (.int .i64) x494 .dp, ar 0 (.int .i64) (([x784]) ++ x825) .dp]⟩ (pu 3 (an g832 (tn 1))) ?_
              exact arv [.ren [3, 4, 7, 9, 10] [0, 1, 2, 3, 4]] ⟨(([x784]) ++ x825), rfl, h⟩
            refine VW.skip ?_
            exact arv [.ren [3, 4, 7, 9, 10] [0, 1, 2, 3, 4]] ⟨x495, rfl, h⟩
          rintro s ⟨x828, rfl, h⟩
          unfold F3_j3 at h
          refine sR T_ok [3, 4, 7, 9, 10, 121] [0, 1, 2, 3, 4] ⟨[(3, I x490), (4, .lf (.hd 0 0 none)), (7, .lf (.ptr 1 0 0 0)), (9, .lf (.hd 4 0 none)), (10, I x496), (121, B (decide ((x828.length : Int) > x490)))], [ar 0 (.int .i64) x491 .dp, bx [.v (.int .i64) x492, .hd 2 0 none, .hd 3 0 none] 28, ar 0 (.int .i64) x493 .dp, ar 0 (.int .i64) x494 .dp, ar 0 (.int .i64) x828 .dp]⟩ (tn 4) ?_
          refine cnd h (fun h => ?_) (fun h => ?_)
          · obtain ⟨g829, h⟩ := gd_some h
            refine rR T_ok [3, 4, 7, 9, 10] [0, 1, 2, 3, 4] ⟨[(3, I x490), (4, .lf (.hd 0 0 none)), (7, .lf (.ptr 1 0 0 0)), (9, .lf (.hd 4 0 (some (0, x490.toNat)))), (10, I x496)], [ar 0 (.int .i64) x491 .dp, bx [.v (.int .i64) x492, .hd 2 0 none, .hd 3 0 none] 28, ar 0 (.int .i64) x493 .dp, ar 0 (.int .i64) x494 .dp, ar 0 (.int .i64) x828 .dp]⟩ (pu 2 (an g829 (tn 1))) ?_
            exact arv [.shr 9, .ren [3, 4, 7, 9, 10] [0, 1, 2, 3, 4]] ⟨(x828.take x490.toNat), rfl, h⟩
          refine VW.skip ?_
          exact arv [.ren [3, 4, 7, 9, 10] [0, 1, 2, 3, 4]] ⟨x828, rfl, h⟩
        rintro s ⟨x779, rfl, h⟩
        unfold F3_j2 at h
        refine rR T_ok [3, 4, 7, 9, 10] [0, 1, 2, 3, 4] ⟨[(3, I x490), (4, .lf (.hd 0 0 none)), (7, .lf (.ptr 1 0 0 0)), (9, .lf (.hd 4 0 none)), (10, I (IntKind.i64.wrap (x496 + (1 : Int))))], [ar 0 (.int .i64) x491 .dp, bx [.v (.int .i64) x492, .hd 2 0 none, .hd 3 0 none] 28, ar 0 (.int .i64) x493 .dp, ar 0 (.int .i64) x494 .dp, ar 0 (.int .i64) x779 .dp]⟩ (tn 3) ?_
        exact aro [.ren [3, 4, 7, 9, 10] [0, 1, 2, 3, 4]] ⟨x490, x491, x492, x493, x494, x779, (IntKind.i64.wrap (x496 + (1 : Int))), rfl, h⟩
      refine VW.exit ?_
      exact arv [.ren [7, 9] [1, 2, 3, 4]] ⟨x492, x493, x494, x495, rfl, h⟩
  rintro s ⟨x437, x438, x439, x440, rfl, h⟩
  unfold F3_j1 at h
  refine sR T_ok [7, 9, 16] [0, 1, 2, 3] ⟨[(7, .lf (.ptr 0 0 0 0)), (9, .lf (.hd 3 0 none)), (16, I (1000001 : Int))], [bx [.v (.int .i64) x437, .hd 1 0 none, .hd 2 0 none] 28, ar 0 (.int .i64) x438 .dp, ar 0 (.int .i64) x439 .dp, ar 0 (.int .i64) x440 .dp]⟩ (tn 1) ?_
  refine VW.join (fun s => ∃ (x443 : Int), s = ⟨[(7, .lf (.ptr 0 0 0 0)), (9, .lf (.hd 3 0 none)), (16, I x443)], [bx [.v (.int .i64) x437, .hd 1 0 none, .hd 2 0 none] 28, ar 0 (.int .i64) x438 .dp, ar 0 (.int .i64) x439 .dp, ar 0 (.int .i64) x440 .dp]⟩ ∧ F3_j0 N x437 x438 x439 x440 x443 = some r) ?_ ?_
  · refine sR T_ok [7, 9, 16, 127] [0, 1, 2, 3] ⟨[(7, .lf (.ptr 0 0 0 0)), (9, .lf (.hd 3 0 none)), (16, I (1000001 : Int)), (127, B (decide ((x440.length : Int) > (0 : Int))))], [bx [.v (.int .i64) x437, .hd 1 0 none, .hd 2 0 none] 28, ar 0 (.int .i64) x438 .dp, ar 0 (.int .i64) x439 .dp, ar 0 (.int .i64) x440 .dp]⟩ (tn 3) ?_
    refine cnd h (fun h => ?_) (fun h => ?_)
    · obtain ⟨g448, h⟩ := gd_some h
      obtain ⟨g449, h⟩ := gd_some h
      refine rR T_ok [7, 9, 16] [0, 1, 2, 3] ⟨[(7, .lf (.ptr 0 0 0 0)), (9, .lf (.hd 3 0 none)), (16, I (x440.getD ((IntKind.i64.wrap ((x440.length : Int) - (1 : Int))).toNat) (Ty.dflt (.int .i64))))], [bx [.v (.int .i64) x437, .hd 1 0 none, .hd 2 0 none] 28, ar 0 (.int .i64) x438 .dp, ar 0 (.int .i64) x439 .dp, ar 0 (.int .i64) x440 .dp]⟩ (pu 4 (an g448 (an g449 (tn 1)))) ?_
      exact arv [.ren [7, 9, 16] [0, 1, 2, 3]] ⟨(x440.getD ((IntKind.i64.wrap ((x440.length : Int) - (1 : Int))).toNat) (Ty.dflt (.int .i64))), rfl, h⟩
    refine VW.skip ?_
    exact arv [.ren [7, 9, 16] [0, 1, 2, 3]] ⟨(1000001 : Int), rfl, h⟩
  rintro s ⟨x443, rfl, h⟩
  unfold F3_j0 at h
  refine VW.seq ?_
  refine VW.region ?_
  refine sG T_ok 3 [7, 16, 135, 136] [0, 1, 2, 3] ⟨[(7, .lf (.ptr 0 0 0 0)), (16, I x443), (135, .lf (.hd 1 0 none)), (136, .lf (.hd 3 0 none))], [bx [.v (.int .i64) x437, .hd 1 0 none, .hd 2 0 none] 28, ar 0 (.int .i64) x438 .dp, ar 0 (.int .i64) x439 .dp, ar 0 (.int .i64) x440 .dp]⟩ (tn 3) ?_
  obtain ⟨y444, hy, h⟩ := andO_some h
  refine cal true [.t (.sl (.int .i64)), .t (.sl (.int .i64))] [] (some 137) T_ok (ok11 N _ _ hy) ?_
  refine sG T_ok 1 [7, 16, 138] [0, 1, 2] ⟨[(7, .lf (.ptr 0 0 0 0)), (16, I x443), (138, B y444)], [bx [.v (.int .i64) x437, .hd 1 0 none, .hd 2 0 none] 28, ar 0 (.int .i64) x438 .dp, ar 0 (.int .i64) x439 .dp]⟩ (tn 1) ?_
  refine spB 138 h (fun h => ?_) (fun h => ?_)
  · refine sG T_ok 1 [7, 16, 138, 139] [0, 1, 2] ⟨[(7, .lf (.ptr 0 0 0 0)), (16, I x443), (138, B true), (139, .agg [.v (.int .i64) x437, .hd 1 0 none, .hd 2 0 none])], [bx [.v (.int .i64) x437, .hd 1 0 none, .hd 2 0 none] 28, ar 0 (.int .i64) x438 .dp, ar 0 (.int .i64) x439 .dp]⟩ (tn 1) ?_
    refine VO.on (j := 4) (want := true) (d := 138) (b := true) rfl rfl rfl (by kernel_rfl) rfl ?_
    obtain ⟨y445, hy, h⟩ := andO_some h
    refine cal true [.t Y27] [] (some 140) T_ok (ok15 N _ hy) ?_
    refine sG T_ok 2 [7, 16, 142] [0, 1, 2] ⟨[(7, .lf (.ptr 0 0 0 0)), (16, I x443), (142, B y445)], [bx [.v (.int .i64) x437, .hd 1 0 none, .hd 2 0 none] 28, ar 0 (.int .i64) x438 .dp, ar 0 (.int .i64) x439 .dp]⟩ (tn 2) ?_
    refine spB 142 h (fun h => ?_) (fun h => ?_)
    · refine sG T_ok 1 [16, 142, 143] [1, 2] ⟨[(16, I x443), (142, B true), (143, .agg [.v (.int .i64) x437, .hd 0 0 none, .hd 1 0 none])], [ar 0 (.int .i64) x438 .dp, ar 0 (.int .i64) x439 .dp]⟩ (tn 1) ?_
      refine VO.on (j := 8) (want := true) (d := 142) (b := true) rfl rfl rfl (by kernel_rfl) rfl ?_
      obtain ⟨y446, hy, h⟩ := andO_some h
      refine cal true [.t Y27] [] (some 144) T_ok (ok16 N _ hy) ?_
      refine sN T_ok [2] [] ⟨[(2, B (y446 == x443))], []⟩ (tn 4) ?_
      refine VW.ret ?_
      replace h := Option.some.inj h
      subst h
      exact rt []
    refine sN T_ok [2] [] ⟨[(2, B false)], []⟩ (tn 6) ?_
    refine VW.ret ?_
    replace h := Option.some.inj h
    subst h
    exact rt []
  refine sN T_ok [2] [] ⟨[(2, B false)], []⟩ (tn 10) ?_
  refine VW.ret ?_
  replace h := Option.some.inj h
  subst h
  exact rt []

end Go.Proofs.YtgpddckjpokclaaDoor.Vc
