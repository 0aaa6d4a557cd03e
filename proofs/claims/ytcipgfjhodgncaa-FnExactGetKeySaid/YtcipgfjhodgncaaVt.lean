/- What functions of the program compute, and that they do. -/
import Derived.Test.YtcipgfjhodgncaaVt0
namespace Go.Proofs.Ytcipgfjhodgncaa.Vc
open Go Go.RowKit
set_option linter.unusedVariables false
set_option maxRecDepth 100000
set_option maxHeartbeats 4000000
/- (loop.example/g00844/impl.Cache).ahead -/
def F62_j0 (N : Nat) (a1 : Int) (a2 : Int) (x3 : Int) (x4 : (List Int)) (x5 : (List Int)) : Option ((Int × ((List Int) × (List Int)))) :=
  gd (([a1]).length + x4.length ≤ lim (.int .i64)) (gd (([a2]).length + x5.length ≤ lim (.int .i64)) (some (x3, ((([a1]) ++ x4), (([a2]) ++ x5)))))
def F62 (N : Nat) (a0 : (Int × ((List Int) × (List Int)))) (a1 : Int) (a2 : Int) : Option ((Int × ((List Int) × (List Int)))) :=
  andO (F54 N a0.2.1 a1) fun y9 => cond (decide (y9 ≥ (0 : Int))) (andO (F60 N a0 y9) fun y10 => F62_j0 N a1 a2 y10.1 y10.2.1 y10.2.2) (F62_j0 N a1 a2 a0.1 a0.2.1 a0.2.2)
theorem ok62 (N : Nat) (a0 : (Int × ((List Int) × (List Int)))) (a1 : Int) (a2 : Int) {r : (Int × ((List Int) × (List Int)))} (h : F62 N a0 a1 a2 = some r) : Con Go.Proofs.Try.prog 62 [.agg [.v (.int .i64) a0.1, .v (.sl (.int .i64)) a0.2.1, .v (.sl (.int .i64)) a0.2.2], I a1, I a2] [.agg [.v (.int .i64) r.1, .own (.int .i64) r.2.1 .dp, .own (.int .i64) r.2.2 .dp]] := by
  refine ⟨enters_of Go.Proofs.Try.func62 rfl (by decide), HC.intro [.agg [.v (.int .i64), .own (.int .i64) .dp, .own (.int .i64) .dp]] T_ok Go.Proofs.Try.func62 rfl (Nat.le_of_ble_eq_true rfl) (Nat.le_of_ble_eq_true rfl) fun w0 E0 => ?_⟩
  unfold F62 at h
  show VW _ _ _ _ _ (retQ _ _ _ _) _
  refine VW.seq ?_
  refine VW.region ?_
  refine VO.seg T_ok .dp 2 [1, 2, 3, 6] [0, 1] (s' := ⟨[(1, I a1), (2, I a2), (3, .lf (.ptr 0 0 0 0)), (6, .lf (.ptr 1 0 0 0))], [bx [.v (.int .i64) a0.1, .v (.sl (.int .i64)) a0.2.1, .v (.sl (.int .i64)) a0.2.2] 24, bx [.v (.int .i64) (0 : Int), .nil, .nil] 24]⟩) (φ := True ∧ True ∧ True) (by kernel_rfl) ⟨trivial, trivial, trivial⟩ ?_
  refine VO.nil ?_
  show VW _ _ _ _ _ _ _
  refine VW.join (fun s => ∃ (x3 : Int) (x4 : (List Int)) (x5 : (List Int)), s = ⟨[(1, I a1), (2, I a2), (3, .lf (.ptr 0 0 0 0)), (6, .lf (.ptr 1 0 0 0))], [bx [.v (.int .i64) x3, .v (.sl (.int .i64)) x4, .v (.sl (.int .i64)) x5] 24, bx [.v (.int .i64) (0 : Int), .nil, .nil] 24]⟩ ∧ F62_j0 N a1 a2 x3 x4 x5 = some r) ?_ ?_
  · refine VW.seq ?_
    refine VW.region ?_
    refine VO.seg T_ok .dp 3 [1, 2, 3, 6, 9, 10] [0, 1] (s' := ⟨[(1, I a1), (2, I a2), (3, .lf (.ptr 0 0 0 0)), (6, .lf (.ptr 1 0 0 0)), (9, .lf (.v (.sl (.int .i64)) a0.2.1)), (10, I a1)], [bx [.v (.int .i64) a0.1, .v (.sl (.int .i64)) a0.2.1, .v (.sl (.int .i64)) a0.2.2] 24, bx [.v (.int .i64) (0 : Int), .nil, .nil] 24]⟩) (φ := True ∧ True ∧ True ∧ True) (by kernel_rfl) ⟨trivial, trivial, trivial, trivial⟩ ?_
    obtain ⟨y9, hy, h⟩ := andO_some h
    refine VO.call false [.t (.sl (.int .i64)), .t (.int .i64)] [] T_ok (d := some 11) (by kernel_rfl) (ok54 N _ _ hy) rfl ?_
    refine VO.seg T_ok .dp 1 [1, 2, 3, 6, 7] [0, 1] (s' := ⟨[(1, I a1), (2, I a2), (3, .lf (.ptr 0 0 0 0)), (6, .lf (.ptr 1 0 0 0)), (7, I y9)], [bx [.v (.int .i64) a0.1, .v (.sl (.int .i64)) a0.2.1, .v (.sl (.int .i64)) a0.2.2] 24, bx [.v (.int .i64) (0 : Int), .nil, .nil] 24]⟩) (φ := True ∧ True) (by kernel_rfl) ⟨trivial, trivial⟩ ?_
    refine VO.nil ?_
    show VW _ _ _ _ _ _ _
    refine VW.seq ?_
    refine VW.region ?_
    refine VO.seg T_ok .dp 2 [1, 2, 3, 6, 7, 13] [0, 1] (s' := ⟨[(1, I a1), (2, I a2), (3, .lf (.ptr 0 0 0 0)), (6, .lf (.ptr 1 0 0 0)), (7, I y9), (13, B (decide (y9 ≥ (0 : Int))))], [bx [.v (.int .i64) a0.1, .v (.sl (.int .i64)) a0.2.1, .v (.sl (.int .i64)) a0.2.2] 24, bx [.v (.int .i64) (0 : Int), .nil, .nil] 24]⟩) (φ := True ∧ True ∧ True) (by kernel_rfl) ⟨trivial, trivial, trivial⟩ ?_
    refine VO.nil ?_
    show VW _ _ _ _ _ _ _
    refine VW.cond (b := (decide (y9 ≥ (0 : Int)))) (by kernel_rfl) (fun hb => ?_) (fun hb => ?_)
    · replace h := cond_t h hb; clear hb
      refine VW.region ?_
      refine VO.seg T_ok .dp 2 [1, 2, 3, 6, 14, 15] [0, 1] (s' := ⟨[(1, I a1), (2, I a2), (3, .lf (.ptr 0 0 0 0)), (6, .lf (.ptr 1 0 0 0)), (14, .agg [.v (.int .i64) a0.1, .v (.sl (.int .i64)) a0.2.1, .v (.sl (.int .i64)) a0.2.2]), (15, I y9)], [bx [.v (.int .i64) a0.1, .v (.sl (.int .i64)) a0.2.1, .v (.sl (.int .i64)) a0.2.2] 24, bx [.v (.int .i64) (0 : Int), .nil, .nil] 24]⟩) (φ := True ∧ True ∧ True) (by kernel_rfl) ⟨trivial, trivial, trivial⟩ ?_
      obtain ⟨y10, hy, h⟩ := andO_some h
      refine VO.call false [.t Y23, .t (.int .i64)] [] T_ok (d := some 16) (by kernel_rfl) (ok60 N _ _ hy) rfl ?_
      refine VO.seg T_ok .dp 1 [1, 2, 3, 6] [0, 2, 3, 1] (s' := ⟨[(1, I a1), (2, I a2), (3, .lf (.ptr 0 0 0 0)), (6, .lf (.ptr 3 0 0 0))], [bx [.v (.int .i64) y10.1, .hd 1 0 none, .hd 2 0 none] 24, ar 0 (.int .i64) y10.2.1 .dp, ar 0 (.int .i64) y10.2.2 .dp, bx [.v (.int .i64) (0 : Int), .nil, .nil] 24]⟩) (φ := True ∧ True) (by kernel_rfl) ⟨trivial, trivial⟩ ?_
      refine VO.nil ?_
      exact arrive [.frz 1, .frz 2, .ren [1, 2, 3, 6] [0, 3]] (by kernel_rfl) ⟨y10.1, y10.2.1, y10.2.2, rfl, h⟩
    · replace h := cond_f h hb; clear hb
      refine VW.skip ?_
      exact arrive [.ren [1, 2, 3, 6] [0, 1]] (by kernel_rfl) ⟨a0.1, a0.2.1, a0.2.2, rfl, h⟩
  · rintro s ⟨x3, x4, x5, rfl, h⟩
    unfold F62_j0 at h
    refine VW.seq ?_
    refine VW.region ?_
    obtain ⟨g6, h⟩ := gd_some h
    refine VO.seg T_ok .dp 7 [2, 3, 6] [0, 2, 1] (s' := ⟨[(2, I a2), (3, .lf (.ptr 0 0 0 0)), (6, .lf (.ptr 2 0 0 0))], [bx [.v (.int .i64) x3, .hd 1 0 none, .v (.sl (.int .i64)) x5] 24, ar 0 (.int .i64) (([a1]) ++ x4) .dp, bx [.v (.int .i64) (0 : Int), .nil, .nil] 24]⟩) (φ := True ∧ True ∧ True ∧ True ∧ (([a1]).length + x4.length ≤ lim (.int .i64)) ∧ True ∧ True ∧ True) (by kernel_rfl) ⟨trivial, trivial, trivial, trivial, g6, trivial, trivial, trivial⟩ ?_
    refine VO.nil ?_
    show VW _ _ _ _ _ _ _
    refine VW.seq ?_
    refine VW.region ?_
    obtain ⟨g7, h⟩ := gd_some h
    refine VO.seg T_ok .dp 7 [3, 6] [0, 1, 3, 2] (s' := ⟨[(3, .lf (.ptr 0 0 0 0)), (6, .lf (.ptr 3 0 0 0))], [bx [.v (.int .i64) x3, .hd 1 0 none, .hd 2 0 none] 24, ar 0 (.int .i64) (([a1]) ++ x4) .dp, ar 0 (.int .i64) (([a2]) ++ x5) .dp, bx [.v (.int .i64) (0 : Int), .nil, .nil] 24]⟩) (φ := True ∧ True ∧ True ∧ True ∧ (([a2]).length + x5.length ≤ lim (.int .i64)) ∧ True ∧ True ∧ True) (by kernel_rfl) ⟨trivial, trivial, trivial, trivial, g7, trivial, trivial, trivial⟩ ?_
    refine VO.nil ?_
    show VW _ _ _ _ _ _ _
    refine VW.seq ?_
    refine VW.region ?_
    refine VO.seg T_ok .dp 2 [6] [3, 1, 2] (s' := ⟨[(6, .lf (.ptr 0 0 0 0))], [bx [.v (.int .i64) x3, .hd 1 0 none, .hd 2 0 none] 24, ar 0 (.int .i64) (([a1]) ++ x4) .dp, ar 0 (.int .i64) (([a2]) ++ x5) .dp]⟩) (φ := True ∧ True ∧ True) (by kernel_rfl) ⟨trivial, trivial, trivial⟩ ?_
    refine VO.nil ?_
    show VW _ _ _ _ _ _ _
    refine VW.ret ?_
    replace h := Option.some.inj h
    subst h
    exact retR [some 1, some 2] (by kernel_rfl) rfl

/- loop.example/g00844/impl.GetKey -/
def F36 (N : Nat) (a0 : (Int × ((List Int) × (List Int)))) (a1 : Int) : Option ((Int × ((List Int) × (List Int))) × Int × Bool) :=
  andO (F56 N a0 a1) fun y1 => cond (decide (y1 < (0 : Int))) (andO (F58 N a0) fun y3 => some (y3, (0 : Int), false)) (gd (InR y1 a0.2.2.length) (andO (F62 N a0 a1 (a0.2.2.getD y1.toNat (Ty.dflt (.int .i64)))) fun y5 => some (y5, (a0.2.2.getD y1.toNat (Ty.dflt (.int .i64))), true)))
theorem ok36 (N : Nat) (a0 : (Int × ((List Int) × (List Int)))) (a1 : Int) {r : (Int × ((List Int) × (List Int))) × Int × Bool} (h : F36 N a0 a1 = some r) : Con Go.Proofs.Try.prog 36 [.agg [.v (.int .i64) a0.1, .v (.sl (.int .i64)) a0.2.1, .v (.sl (.int .i64)) a0.2.2], I a1] [.agg [.v (.int .i64) r.1.1, .own (.int .i64) r.1.2.1 .dp, .own (.int .i64) r.1.2.2 .dp], .lf (.v (.int .i64) r.2.1), .lf (.v .bool r.2.2)] := by
  refine ⟨enters_of Go.Proofs.Try.func36 rfl (by decide), HC.intro [.agg [.v (.int .i64), .own (.int .i64) .dp, .own (.int .i64) .dp], .lf (.v (.int .i64)), .lf (.v .bool)] T_ok Go.Proofs.Try.func36 rfl (Nat.le_of_ble_eq_true rfl) (Nat.le_of_ble_eq_true rfl) fun w0 E0 => ?_⟩
  unfold F36 at h
  show VW _ _ _ _ _ (retQ _ _ _ _) _
  refine VW.seq ?_
  refine VW.region ?_
  refine VO.seg T_ok .dp 4 [1, 2, 4] [0, 1] (s' := ⟨[(1, I a1), (2, .lf (.ptr 0 0 0 0)), (4, .lf (.ptr 1 0 0 0))], [bx [.v (.int .i64) a0.1, .v (.sl (.int .i64)) a0.2.1, .v (.sl (.int .i64)) a0.2.2] 24, bx [.v (.int .i64) (0 : Int), .nil, .nil] 24]⟩) (φ := True ∧ True ∧ True ∧ True ∧ True) (by kernel_rfl) ⟨trivial, trivial, trivial, trivial, trivial⟩ ?_
  refine VO.nil ?_
  show VW _ _ _ _ _ _ _
  refine VW.seq ?_
  refine VW.region ?_
  refine VO.seg T_ok .dp 2 [1, 2, 4, 9, 10] [0, 1] (s' := ⟨[(1, I a1), (2, .lf (.ptr 0 0 0 0)), (4, .lf (.ptr 1 0 0 0)), (9, .agg [.v (.int .i64) a0.1, .v (.sl (.int .i64)) a0.2.1, .v (.sl (.int .i64)) a0.2.2]), (10, I a1)], [bx [.v (.int .i64) a0.1, .v (.sl (.int .i64)) a0.2.1, .v (.sl (.int .i64)) a0.2.2] 24, bx [.v (.int .i64) (0 : Int), .nil, .nil] 24]⟩) (φ := True ∧ True ∧ True) (by kernel_rfl) ⟨trivial, trivial, trivial⟩ ?_
  obtain ⟨y1, hy, h⟩ := andO_some h
  refine VO.call false [.t Y23, .t (.int .i64)] [] T_ok (d := some 11) (by kernel_rfl) (ok56 N _ _ hy) rfl ?_
  refine VO.seg T_ok .dp 1 [1, 2, 4, 7] [0, 1] (s' := ⟨[(1, I a1), (2, .lf (.ptr 0 0 0 0)), (4, .lf (.ptr 1 0 0 0)), (7, I y1)], [bx [.v (.int .i64) a0.1, .v (.sl (.int .i64)) a0.2.1, .v (.sl (.int .i64)) a0.2.2] 24, bx [.v (.int .i64) (0 : Int), .nil, .nil] 24]⟩) (φ := True ∧ True) (by kernel_rfl) ⟨trivial, trivial⟩ ?_
  refine VO.nil ?_
  show VW _ _ _ _ _ _ _
  refine VW.seq ?_
  refine VW.seq ?_
  refine VW.region ?_
  refine VO.seg T_ok .dp 2 [1, 2, 4, 7, 13] [0, 1] (s' := ⟨[(1, I a1), (2, .lf (.ptr 0 0 0 0)), (4, .lf (.ptr 1 0 0 0)), (7, I y1), (13, B (decide (y1 < (0 : Int))))], [bx [.v (.int .i64) a0.1, .v (.sl (.int .i64)) a0.2.1, .v (.sl (.int .i64)) a0.2.2] 24, bx [.v (.int .i64) (0 : Int), .nil, .nil] 24]⟩) (φ := True ∧ True ∧ True) (by kernel_rfl) ⟨trivial, trivial, trivial⟩ ?_
  refine VO.nil ?_
  show VW _ _ _ _ _ _ _
  refine VW.cond (b := (decide (y1 < (0 : Int)))) (by kernel_rfl) (fun hb => ?_) (fun hb => ?_)
  · replace h := cond_t h hb; clear hb
    refine VW.seq ?_
    refine VW.region ?_
    refine VO.seg T_ok .dp 1 [4, 14] [1] (s' := ⟨[(4, .lf (.ptr 0 0 0 0)), (14, .agg [.v (.int .i64) a0.1, .v (.sl (.int .i64)) a0.2.1, .v (.sl (.int .i64)) a0.2.2])], [bx [.v (.int .i64) (0 : Int), .nil, .nil] 24]⟩) (φ := True ∧ True) (by kernel_rfl) ⟨trivial, trivial⟩ ?_
    obtain ⟨y3, hy, h⟩ := andO_some h
    refine VO.call false [.t Y23] [] T_ok (d := some 15) (by kernel_rfl) (ok58 N _ hy) rfl ?_
    refine VO.seg T_ok .dp 3 [4, 5, 6] [0, 1, 2] (s' := ⟨[(4, .lf (.ptr 0 0 0 0)), (5, I (0 : Int)), (6, B false)], [bx [.v (.int .i64) y3.1, .hd 1 0 none, .hd 2 0 none] 24, ar 0 (.int .i64) y3.2.1 .dp, ar 0 (.int .i64) y3.2.2 .dp]⟩) (φ := True ∧ True ∧ True ∧ True) (by kernel_rfl) ⟨trivial, trivial, trivial, trivial⟩ ?_
    refine VO.nil ?_
    show VW _ _ _ _ _ _ _
    refine VW.ret ?_
    replace h := Option.some.inj h
    subst h
    exact retR [some 1, some 2] (by kernel_rfl) rfl
  · replace h := cond_f h hb; clear hb
    refine VW.skip ?_
    show VW _ _ _ _ _ _ _
    refine VW.seq ?_
    refine VW.region ?_
    obtain ⟨g4, h⟩ := gd_some h
    refine VO.seg T_ok .dp 6 [1, 2, 4, 8] [0, 1] (s' := ⟨[(1, I a1), (2, .lf (.ptr 0 0 0 0)), (4, .lf (.ptr 1 0 0 0)), (8, I (a0.2.2.getD y1.toNat (Ty.dflt (.int .i64))))], [bx [.v (.int .i64) a0.1, .v (.sl (.int .i64)) a0.2.1, .v (.sl (.int .i64)) a0.2.2] 24, bx [.v (.int .i64) (0 : Int), .nil, .nil] 24]⟩) (φ := True ∧ True ∧ True ∧ (InR y1 a0.2.2.length) ∧ True ∧ True ∧ True) (by kernel_rfl) ⟨trivial, trivial, trivial, g4, trivial, trivial, trivial⟩ ?_
    refine VO.nil ?_
    show VW _ _ _ _ _ _ _
    refine VW.seq ?_
    refine VW.region ?_
    refine VO.seg T_ok .dp 3 [4, 8, 21, 22, 23] [1] (s' := ⟨[(4, .lf (.ptr 0 0 0 0)), (8, I (a0.2.2.getD y1.toNat (Ty.dflt (.int .i64)))), (21, .agg [.v (.int .i64) a0.1, .v (.sl (.int .i64)) a0.2.1, .v (.sl (.int .i64)) a0.2.2]), (22, I a1), (23, I (a0.2.2.getD y1.toNat (Ty.dflt (.int .i64))))], [bx [.v (.int .i64) (0 : Int), .nil, .nil] 24]⟩) (φ := True ∧ True ∧ True ∧ True) (by kernel_rfl) ⟨trivial, trivial, trivial, trivial⟩ ?_
    obtain ⟨y5, hy, h⟩ := andO_some h
    refine VO.call false [.t Y23, .t (.int .i64), .t (.int .i64)] [] T_ok (d := some 24) (by kernel_rfl) (ok62 N _ _ _ hy) rfl ?_
    refine VO.seg T_ok .dp 4 [4, 5, 6] [0, 1, 2] (s' := ⟨[(4, .lf (.ptr 0 0 0 0)), (5, I (a0.2.2.getD y1.toNat (Ty.dflt (.int .i64)))), (6, B true)], [bx [.v (.int .i64) y5.1, .hd 1 0 none, .hd 2 0 none] 24, ar 0 (.int .i64) y5.2.1 .dp, ar 0 (.int .i64) y5.2.2 .dp]⟩) (φ := True ∧ True ∧ True ∧ True ∧ True) (by kernel_rfl) ⟨trivial, trivial, trivial, trivial, trivial⟩ ?_
    refine VO.nil ?_
    show VW _ _ _ _ _ _ _
    refine VW.ret ?_
    replace h := Option.some.inj h
    subst h
    exact retR [some 1, some 2] (by kernel_rfl) rfl

/- loop.example/g00844/laws.FnExactGetKey -/
def F10 (N : Nat) (a0 : (Int × ((List Int) × (List Int)))) (a1 : Int) : Option (Bool) :=
  andO (F19 N a0 (1048576 : Int)) fun y1 => cond (decide (y1 < (0 : Int))) (some true) (andO (F21 N a0) fun y2 => andO (F35 N y2 a1) fun y3 => andO (F21 N a0) fun y4 => andO (F36 N y4 a1) fun y5 => andO (F16 N y5.1 y3.1) fun y7 => cond (!y7) (some false) (cond (y5.2.1 != y3.2.1) (some false) (cond (!(y5.2.2 == y3.2.2)) (some false) (andO (F21 N a0) fun y10 => andO (F16 N y4 y10) fun y11 => cond (!y11) (some false) (andO (F17 N y4 (1 : Int)) fun y12 => cond (decide (y12.2.2 < (0 : Int))) (some false) (andO (F16 N y5.1 y3.1) fun y14 => cond (!y14) (some false) (cond (y5.2.1 != y3.2.1) (some false) (cond (!(y5.2.2 == y3.2.2)) (some false) (andO (F17 N y5.1 (1 : Int)) fun y15 => andO (F18 N (y5.1.1, (y15.1, y15.2.1)) (1 : Int)) fun y16 => cond (decide (y16 < (0 : Int))) (some false) (cond (y16 != y15.2.2) (some false) (andO (F21 N a0) fun y17 => andO (F36 N y17 a1) fun y18 => andO (F16 N y18.1 y3.1) fun y20 => cond (!y20) (some false) (cond (y18.2.1 != y3.2.1) (some false) (cond (!(y18.2.2 == y3.2.2)) (some false) (andO (F18 N (y5.1.1, (y15.1, y15.2.1)) (1 : Int)) fun y21 => cond (decide (y21 < (0 : Int))) (some false) (cond (y21 != y15.2.2) (some false) (some true))))))))))))))))
theorem ok10 (N : Nat) (a0 : (Int × ((List Int) × (List Int)))) (a1 : Int) {r : Bool} (h : F10 N a0 a1 = some r) : Con Go.Proofs.Try.prog 10 [.agg [.v (.int .i64) a0.1, .v (.sl (.int .i64)) a0.2.1, .v (.sl (.int .i64)) a0.2.2], I a1] [.lf (.v .bool r)] := by
  refine ⟨enters_of Go.Proofs.Try.func10 rfl (by decide), HC.intro [.lf (.v .bool)] T_ok Go.Proofs.Try.func10 rfl (Nat.le_of_ble_eq_true rfl) (Nat.le_of_ble_eq_true rfl) fun w0 E0 => ?_⟩
  unfold F10 at h
  show VW _ _ _ _ _ (retQ _ _ _ _) _
  refine VW.seq ?_
  refine VW.region ?_
  refine VO.seg T_ok .dp 2 [1, 2] [0] (s' := ⟨[(1, I a1), (2, .lf (.ptr 0 0 0 0))], [bx [.v (.int .i64) a0.1, .v (.sl (.int .i64)) a0.2.1, .v (.sl (.int .i64)) a0.2.2] 30]⟩) (φ := True ∧ True ∧ True) (by kernel_rfl) ⟨trivial, trivial, trivial⟩ ?_
  refine VO.nil ?_
  show VW _ _ _ _ _ _ _
  refine VW.seq ?_
  refine VW.region ?_
  refine VO.seg T_ok .dp 1 [1, 2, 5] [0] (s' := ⟨[(1, I a1), (2, .lf (.ptr 0 0 0 0)), (5, I (1048576 : Int))], [bx [.v (.int .i64) a0.1, .v (.sl (.int .i64)) a0.2.1, .v (.sl (.int .i64)) a0.2.2] 30]⟩) (φ := True ∧ True) (by kernel_rfl) ⟨trivial, trivial⟩ ?_
  refine VO.nil ?_
  show VW _ _ _ _ _ _ _
  refine VW.seq ?_
  refine VW.region ?_
  refine VO.seg T_ok .dp 2 [1, 2, 19, 20] [0] (s' := ⟨[(1, I a1), (2, .lf (.ptr 0 0 0 0)), (19, .agg [.v (.int .i64) a0.1, .v (.sl (.int .i64)) a0.2.1, .v (.sl (.int .i64)) a0.2.2]), (20, I (1048576 : Int))], [bx [.v (.int .i64) a0.1, .v (.sl (.int .i64)) a0.2.1, .v (.sl (.int .i64)) a0.2.2] 30]⟩) (φ := True ∧ True ∧ True) (by kernel_rfl) ⟨trivial, trivial, trivial⟩ ?_
  obtain ⟨y1, hy, h⟩ := andO_some h
  refine VO.call false [.t Y23, .t (.int .i64)] [] T_ok (d := some 21) (by kernel_rfl) (ok19 N _ _ hy) rfl ?_
  refine VO.seg T_ok .dp 1 [1, 2, 5] [0] (s' := ⟨[(1, I a1), (2, .lf (.ptr 0 0 0 0)), (5, I y1)], [bx [.v (.int .i64) a0.1, .v (.sl (.int .i64)) a0.2.1, .v (.sl (.int .i64)) a0.2.2] 30]⟩) (φ := True ∧ True) (by kernel_rfl) ⟨trivial, trivial⟩ ?_
  refine VO.nil ?_
  show VW _ _ _ _ _ _ _
  refine VW.seq ?_
  refine VW.seq ?_
  refine VW.region ?_
  refine VO.seg T_ok .dp 2 [1, 2, 23] [0] (s' := ⟨[(1, I a1), (2, .lf (.ptr 0 0 0 0)), (23, B (decide (y1 < (0 : Int))))], [bx [.v (.int .i64) a0.1, .v (.sl (.int .i64)) a0.2.1, .v (.sl (.int .i64)) a0.2.2] 30]⟩) (φ := True ∧ True ∧ True) (by kernel_rfl) ⟨trivial, trivial, trivial⟩ ?_
  refine VO.nil ?_
  show VW _ _ _ _ _ _ _
  refine VW.cond (b := (decide (y1 < (0 : Int)))) (by kernel_rfl) (fun hb => ?_) (fun hb => ?_)
  · replace h := cond_t h hb; clear hb
    refine VW.seq ?_
    refine VW.region ?_
    refine VO.seg T_ok .dp 1 [4] [] (s' := ⟨[(4, B true)], []⟩) (φ := True ∧ True) (by kernel_rfl) ⟨trivial, trivial⟩ ?_
    refine VO.nil ?_
    show VW _ _ _ _ _ _ _
    refine VW.ret ?_
    replace h := Option.some.inj h
    subst h
    exact retR [] (by kernel_rfl) rfl
  · replace h := cond_f h hb; clear hb
    refine VW.skip ?_
    show VW _ _ _ _ _ _ _
    refine VW.seq ?_
    refine VW.region ?_
    refine VO.seg T_ok .dp 1 [1, 2, 25] [0] (s' := ⟨[(1, I a1), (2, .lf (.ptr 0 0 0 0)), (25, .agg [.v (.int .i64) a0.1, .v (.sl (.int .i64)) a0.2.1, .v (.sl (.int .i64)) a0.2.2])], [bx [.v (.int .i64) a0.1, .v (.sl (.int .i64)) a0.2.1, .v (.sl (.int .i64)) a0.2.2] 30]⟩) (φ := True ∧ True) (by kernel_rfl) ⟨trivial, trivial⟩ ?_
    obtain ⟨y2, hy, h⟩ := andO_some h
    refine VO.call false [.t Y23] [] T_ok (d := some 26) (by kernel_rfl) (ok21 N _ hy) rfl ?_
    refine VO.seg T_ok .dp 1 [1, 2, 26, 27] [0, 1, 2] (s' := ⟨[(1, I a1), (2, .lf (.ptr 0 0 0 0)), (26, .agg [.v (.int .i64) y2.1, .hd 1 0 none, .hd 2 0 none]), (27, I a1)], [bx [.v (.int .i64) a0.1, .v (.sl (.int .i64)) a0.2.1, .v (.sl (.int .i64)) a0.2.2] 30, ar 0 (.int .i64) y2.2.1 .dp, ar 0 (.int .i64) y2.2.2 .dp]⟩) (φ := True ∧ True) (by kernel_rfl) ⟨trivial, trivial⟩ ?_
    obtain ⟨y3, hy, h⟩ := andO_some h
    refine VO.call true [.t Y23, .t (.int .i64)] [] T_ok (d := some 28) (by kernel_rfl) (ok35 N _ _ hy) rfl ?_
    refine VO.seg T_ok .dp 8 [1, 2, 6, 7, 8] [0, 5, 3, 4] (s' := ⟨[(1, I a1), (2, .lf (.ptr 0 0 0 0)), (6, .lf (.ptr 1 0 0 0)), (7, I y3.2.1), (8, B y3.2.2)], [bx [.v (.int .i64) a0.1, .v (.sl (.int .i64)) a0.2.1, .v (.sl (.int .i64)) a0.2.2] 30, bx [.v (.int .i64) y3.1.1, .hd 2 0 none, .hd 3 0 none] 24, ar 0 (.int .i64) y3.1.2.1 .dp, ar 0 (.int .i64) y3.1.2.2 .dp]⟩) (φ := True ∧ True ∧ True ∧ True ∧ True ∧ True ∧ True ∧ True ∧ True) (by kernel_rfl) ⟨trivial, trivial, trivial, trivial, trivial, trivial, trivial, trivial, trivial⟩ ?_
    refine VO.nil ?_
    show VW _ _ _ _ _ _ _
    refine VW.seq ?_
    refine VW.region ?_
    refine VO.seg T_ok .dp 1 [1, 2, 6, 7, 8, 32] [0, 1, 2, 3] (s' := ⟨[(1, I a1), (2, .lf (.ptr 0 0 0 0)), (6, .lf (.ptr 1 0 0 0)), (7, I y3.2.1), (8, B y3.2.2), (32, .agg [.v (.int .i64) a0.1, .v (.sl (.int .i64)) a0.2.1, .v (.sl (.int .i64)) a0.2.2])], [bx [.v (.int .i64) a0.1, .v (.sl (.int .i64)) a0.2.1, .v (.sl (.int .i64)) a0.2.2] 30, bx [.v (.int .i64) y3.1.1, .hd 2 0 none, .hd 3 0 none] 24, ar 0 (.int .i64) y3.1.2.1 .dp, ar 0 (.int .i64) y3.1.2.2 .dp]⟩) (φ := True ∧ True) (by kernel_rfl) ⟨trivial, trivial⟩ ?_
    obtain ⟨y4, hy, h⟩ := andO_some h
    refine VO.call false [.t Y23] [] T_ok (d := some 33) (by kernel_rfl) (ok21 N _ hy) rfl ?_
    refine VO.seg T_ok .dp 2 [1, 2, 6, 7, 8, 9] [0, 1, 2, 3, 6, 4, 5] (s' := ⟨[(1, I a1), (2, .lf (.ptr 0 0 0 0)), (6, .lf (.ptr 1 0 0 0)), (7, I y3.2.1), (8, B y3.2.2), (9, .lf (.ptr 4 0 0 0))], [bx [.v (.int .i64) a0.1, .v (.sl (.int .i64)) a0.2.1, .v (.sl (.int .i64)) a0.2.2] 30, bx [.v (.int .i64) y3.1.1, .hd 2 0 none, .hd 3 0 none] 24, ar 0 (.int .i64) y3.1.2.1 .dp, ar 0 (.int .i64) y3.1.2.2 .dp, bx [.v (.int .i64) y4.1, .hd 5 0 none, .hd 6 0 none] 24, ar 0 (.int .i64) y4.2.1 .dp, ar 0 (.int .i64) y4.2.2 .dp]⟩) (φ := True ∧ True ∧ True) (by kernel_rfl) ⟨trivial, trivial, trivial⟩ ?_
    refine VO.nil ?_
    show VW _ _ _ _ _ _ _
    refine VW.seq ?_
    refine VW.region ?_
    refine VO.seg T_ok .dp 2 [1, 2, 6, 7, 8, 9, 35, 36] [0, 1, 2, 3, 4, 5, 6] (s' := ⟨[(1, I a1), (2, .lf (.ptr 0 0 0 0)), (6, .lf (.ptr 1 0 0 0)), (7, I y3.2.1), (8, B y3.2.2), (9, .lf (.ptr 4 0 0 0)), (35, .agg [.v (.int .i64) y4.1, .hd 5 0 none, .hd 6 0 none]), (36, I a1)], [bx [.v (.int .i64) a0.1, .v (.sl (.int .i64)) a0.2.1, .v (.sl (.int .i64)) a0.2.2] 30, bx [.v (.int .i64) y3.1.1, .hd 2 0 none, .hd 3 0 none] 24, ar 0 (.int .i64) y3.1.2.1 .dp, ar 0 (.int .i64) y3.1.2.2 .dp, bx [.v (.int .i64) y4.1, .hd 5 0 none, .hd 6 0 none] 24, ar 0 (.int .i64) y4.2.1 .dp, ar 0 (.int .i64) y4.2.2 .dp]⟩) (φ := True ∧ True ∧ True) (by kernel_rfl) ⟨trivial, trivial, trivial⟩ ?_
    obtain ⟨y5, hy, h⟩ := andO_some h
    refine VO.call true [.t Y23, .t (.int .i64)] [] T_ok (d := some 37) (by kernel_rfl) (ok36 N _ _ hy) rfl ?_
    refine VO.seg T_ok .dp 8 [1, 2, 6, 7, 8, 9, 10, 11, 12] [0, 1, 2, 3, 4, 5, 6, 9, 7, 8] (s' := ⟨[(1, I a1), (2, .lf (.ptr 0 0 0 0)), (6, .lf (.ptr 1 0 0 0)), (7, I y3.2.1), (8, B y3.2.2), (9, .lf (.ptr 4 0 0 0)), (10, .lf (.ptr 7 0 0 0)), (11, I y5.2.1), (12, B y5.2.2)], [bx [.v (.int .i64) a0.1, .v (.sl (.int .i64)) a0.2.1, .v (.sl (.int .i64)) a0.2.2] 30, bx [.v (.int .i64) y3.1.1, .hd 2 0 none, .hd 3 0 none] 24, ar 0 (.int .i64) y3.1.2.1 .dp, ar 0 (.int .i64) y3.1.2.2 .dp, bx [.v (.int .i64) y4.1, .hd 5 0 none, .hd 6 0 none] 24, ar 0 (.int .i64) y4.2.1 .dp, ar 0 (.int .i64) y4.2.2 .dp, bx [.v (.int .i64) y5.1.1, .hd 8 0 none, .hd 9 0 none] 24, ar 0 (.int .i64) y5.1.2.1 .dp, ar 0 (.int .i64) y5.1.2.2 .dp]⟩) (φ := True ∧ True ∧ True ∧ True ∧ True ∧ True ∧ True ∧ True ∧ True) (by kernel_rfl) ⟨trivial, trivial, trivial, trivial, trivial, trivial, trivial, trivial, trivial⟩ ?_
    refine VO.nil ?_
    show VW _ _ _ _ _ _ _
    refine VW.seq ?_
    refine VW.seq ?_
    refine VW.region ?_
    refine VO.seg T_ok .dp 2 [1, 2, 6, 7, 8, 9, 10, 11, 12, 41, 42] [0, 1, 2, 3, 4, 5, 6, 7, 8, 9] (s' := ⟨[(1, I a1), (2, .lf (.ptr 0 0 0 0)), (6, .lf (.ptr 1 0 0 0)), (7, I y3.2.1), (8, B y3.2.2), (9, .lf (.ptr 4 0 0 0)), (10, .lf (.ptr 7 0 0 0)), (11, I y5.2.1), (12, B y5.2.2), (41, .agg [.v (.int .i64) y5.1.1, .hd 8 0 none, .hd 9 0 none]), (42, .agg [.v (.int .i64) y3.1.1, .hd 2 0 none, .hd 3 0 none])], [bx [.v (.int .i64) a0.1, .v (.sl (.int .i64)) a0.2.1, .v (.sl (.int .i64)) a0.2.2] 30, bx [.v (.int .i64) y3.1.1, .hd 2 0 none, .hd 3 0 none] 24, ar 0 (.int .i64) y3.1.2.1 .dp, ar 0 (.int .i64) y3.1.2.2 .dp, bx [.v (.int .i64) y4.1, .hd 5 0 none, .hd 6 0 none] 24, ar 0 (.int .i64) y4.2.1 .dp, ar 0 (.int .i64) y4.2.2 .dp, bx [.v (.int .i64) y5.1.1, .hd 8 0 none, .hd 9 0 none] 24, ar 0 (.int .i64) y5.1.2.1 .dp, ar 0 (.int .i64) y5.1.2.2 .dp]⟩) (φ := True ∧ True ∧ True) (by kernel_rfl) ⟨trivial, trivial, trivial⟩ ?_
    obtain ⟨y7, hy, h⟩ := andO_some h
    refine VO.call true [.t Y23, .t Y23] [] T_ok (d := some 43) (by kernel_rfl) (ok16 N _ _ hy) rfl ?_
    refine VO.seg T_ok .dp 2 [1, 2, 6, 7, 8, 9, 10, 11, 12, 45] [0, 1, 2, 3, 4, 5, 6, 7, 8, 9] (s' := ⟨[(1, I a1), (2, .lf (.ptr 0 0 0 0)), (6, .lf (.ptr 1 0 0 0)), (7, I y3.2.1), (8, B y3.2.2), (9, .lf (.ptr 4 0 0 0)), (10, .lf (.ptr 7 0 0 0)), (11, I y5.2.1), (12, B y5.2.2), (45, B (!y7))], [bx [.v (.int .i64) a0.1, .v (.sl (.int .i64)) a0.2.1, .v (.sl (.int .i64)) a0.2.2] 30, bx [.v (.int .i64) y3.1.1, .hd 2 0 none, .hd 3 0 none] 24, ar 0 (.int .i64) y3.1.2.1 .dp, ar 0 (.int .i64) y3.1.2.2 .dp, bx [.v (.int .i64) y4.1, .hd 5 0 none, .hd 6 0 none] 24, ar 0 (.int .i64) y4.2.1 .dp, ar 0 (.int .i64) y4.2.2 .dp, bx [.v (.int .i64) y5.1.1, .hd 8 0 none, .hd 9 0 none] 24, ar 0 (.int .i64) y5.1.2.1 .dp, ar 0 (.int .i64) y5.1.2.2 .dp]⟩) (φ := True ∧ True ∧ True) (by kernel_rfl) ⟨trivial, trivial, trivial⟩ ?_
    refine VO.splitB 45 (b := (!y7)) (by kernel_rfl) (fun hb => ?_) (fun hb => ?_)
    · replace h := cond_t h hb; clear hb
      refine VO.seg T_ok .dp 9 [1, 2, 6, 7, 8, 9, 10, 11, 12, 54] [0, 1, 2, 3, 4, 5, 6, 7, 8, 9] (s' := ⟨[(1, I a1), (2, .lf (.ptr 0 0 0 0)), (6, .lf (.ptr 1 0 0 0)), (7, I y3.2.1), (8, B y3.2.2), (9, .lf (.ptr 4 0 0 0)), (10, .lf (.ptr 7 0 0 0)), (11, I y5.2.1), (12, B y5.2.2), (54, B true)], [bx [.v (.int .i64) a0.1, .v (.sl (.int .i64)) a0.2.1, .v (.sl (.int .i64)) a0.2.2] 30, bx [.v (.int .i64) y3.1.1, .hd 2 0 none, .hd 3 0 none] 24, ar 0 (.int .i64) y3.1.2.1 .dp, ar 0 (.int .i64) y3.1.2.2 .dp, bx [.v (.int .i64) y4.1, .hd 5 0 none, .hd 6 0 none] 24, ar 0 (.int .i64) y4.2.1 .dp, ar 0 (.int .i64) y4.2.2 .dp, bx [.v (.int .i64) y5.1.1, .hd 8 0 none, .hd 9 0 none] 24, ar 0 (.int .i64) y5.1.2.1 .dp, ar 0 (.int .i64) y5.1.2.2 .dp]⟩) (φ := True ∧ True ∧ True ∧ True ∧ True ∧ True ∧ True ∧ True ∧ True ∧ True) (by kernel_rfl) ⟨trivial, trivial, trivial, trivial, trivial, trivial, trivial, trivial, trivial, trivial⟩ ?_
      refine VO.nil ?_
      show VW _ _ _ _ _ _ _
      refine VW.cond (b := true) (by kernel_rfl) (fun _ => ?_) (fun h' => nomatch h')
      refine VW.seq ?_
      refine VW.region ?_
      refine VO.seg T_ok .dp 1 [4] [] (s' := ⟨[(4, B false)], []⟩) (φ := True ∧ True) (by kernel_rfl) ⟨trivial, trivial⟩ ?_
      refine VO.nil ?_
      show VW _ _ _ _ _ _ _
      refine VW.ret ?_
      replace h := Option.some.inj h
      subst h
      exact retR [] (by kernel_rfl) rfl
    · replace h := cond_f h hb; clear hb
      refine VO.seg T_ok .dp 5 [1, 2, 6, 7, 8, 9, 10, 11, 12, 50] [0, 1, 2, 3, 4, 5, 6, 7, 8, 9] (s' := ⟨[(1, I a1), (2, .lf (.ptr 0 0 0 0)), (6, .lf (.ptr 1 0 0 0)), (7, I y3.2.1), (8, B y3.2.2), (9, .lf (.ptr 4 0 0 0)), (10, .lf (.ptr 7 0 0 0)), (11, I y5.2.1), (12, B y5.2.2), (50, B (y5.2.1 != y3.2.1))], [bx [.v (.int .i64) a0.1, .v (.sl (.int .i64)) a0.2.1, .v (.sl (.int .i64)) a0.2.2] 30, bx [.v (.int .i64) y3.1.1, .hd 2 0 none, .hd 3 0 none] 24, ar 0 (.int .i64) y3.1.2.1 .dp, ar 0 (.int .i64) y3.1.2.2 .dp, bx [.v (.int .i64) y4.1, .hd 5 0 none, .hd 6 0 none] 24, ar 0 (.int .i64) y4.2.1 .dp, ar 0 (.int .i64) y4.2.2 .dp, bx [.v (.int .i64) y5.1.1, .hd 8 0 none, .hd 9 0 none] 24, ar 0 (.int .i64) y5.1.2.1 .dp, ar 0 (.int .i64) y5.1.2.2 .dp]⟩) (φ := True ∧ True ∧ True ∧ True ∧ True ∧ True) (by kernel_rfl) ⟨trivial, trivial, trivial, trivial, trivial, trivial⟩ ?_
      refine VO.splitB 50 (b := (y5.2.1 != y3.2.1)) (by kernel_rfl) (fun hb => ?_) (fun hb => ?_)
      · replace h := cond_t h hb; clear hb
        refine VO.seg T_ok .dp 4 [1, 2, 6, 7, 8, 9, 10, 11, 12, 54] [0, 1, 2, 3, 4, 5, 6, 7, 8, 9] (s' := ⟨[(1, I a1), (2, .lf (.ptr 0 0 0 0)), (6, .lf (.ptr 1 0 0 0)), (7, I y3.2.1), (8, B y3.2.2), (9, .lf (.ptr 4 0 0 0)), (10, .lf (.ptr 7 0 0 0)), (11, I y5.2.1), (12, B y5.2.2), (54, B true)], [bx [.v (.int .i64) a0.1, .v (.sl (.int .i64)) a0.2.1, .v (.sl (.int .i64)) a0.2.2] 30, bx [.v (.int .i64) y3.1.1, .hd 2 0 none, .hd 3 0 none] 24, ar 0 (.int .i64) y3.1.2.1 .dp, ar 0 (.int .i64) y3.1.2.2 .dp, bx [.v (.int .i64) y4.1, .hd 5 0 none, .hd 6 0 none] 24, ar 0 (.int .i64) y4.2.1 .dp, ar 0 (.int .i64) y4.2.2 .dp, bx [.v (.int .i64) y5.1.1, .hd 8 0 none, .hd 9 0 none] 24, ar 0 (.int .i64) y5.1.2.1 .dp, ar 0 (.int .i64) y5.1.2.2 .dp]⟩) (φ := True ∧ True ∧ True ∧ True ∧ True) (by kernel_rfl) ⟨trivial, trivial, trivial, trivial, trivial⟩ ?_
        refine VO.nil ?_
        show VW _ _ _ _ _ _ _
        refine VW.cond (b := true) (by kernel_rfl) (fun _ => ?_) (fun h' => nomatch h')
        refine VW.seq ?_
        refine VW.region ?_
        refine VO.seg T_ok .dp 1 [4] [] (s' := ⟨[(4, B false)], []⟩) (φ := True ∧ True) (by kernel_rfl) ⟨trivial, trivial⟩ ?_
        refine VO.nil ?_
        show VW _ _ _ _ _ _ _
        refine VW.ret ?_
        replace h := Option.some.inj h
        subst h
        exact retR [] (by kernel_rfl) rfl
      · replace h := cond_f h hb; clear hb
        refine VO.seg T_ok .dp 4 [1, 2, 6, 7, 8, 9, 10, 11, 12, 54] [0, 1, 2, 3, 4, 5, 6, 7, 8, 9] (s' := ⟨[(1, I a1), (2, .lf (.ptr 0 0 0 0)), (6, .lf (.ptr 1 0 0 0)), (7, I y3.2.1), (8, B y3.2.2), (9, .lf (.ptr 4 0 0 0)), (10, .lf (.ptr 7 0 0 0)), (11, I y5.2.1), (12, B y5.2.2), (54, B (!(y5.2.2 == y3.2.2)))], [bx [.v (.int .i64) a0.1, .v (.sl (.int .i64)) a0.2.1, .v (.sl (.int .i64)) a0.2.2] 30, bx [.v (.int .i64) y3.1.1, .hd 2 0 none, .hd 3 0 none] 24, ar 0 (.int .i64) y3.1.2.1 .dp, ar 0 (.int .i64) y3.1.2.2 .dp, bx [.v (.int .i64) y4.1, .hd 5 0 none, .hd 6 0 none] 24, ar 0 (.int .i64) y4.2.1 .dp, ar 0 (.int .i64) y4.2.2 .dp, bx [.v (.int .i64) y5.1.1, .hd 8 0 none, .hd 9 0 none] 24, ar 0 (.int .i64) y5.1.2.1 .dp, ar 0 (.int .i64) y5.1.2.2 .dp]⟩) (φ := True ∧ True ∧ True ∧ True ∧ True) (by kernel_rfl) ⟨trivial, trivial, trivial, trivial, trivial⟩ ?_
        refine VO.nil ?_
        show VW _ _ _ _ _ _ _
        refine VW.cond (b := (!(y5.2.2 == y3.2.2))) (by kernel_rfl) (fun hb => ?_) (fun hb => ?_)
        · replace h := cond_t h hb; clear hb
          refine VW.seq ?_
          refine VW.region ?_
          refine VO.seg T_ok .dp 1 [4] [] (s' := ⟨[(4, B false)], []⟩) (φ := True ∧ True) (by kernel_rfl) ⟨trivial, trivial⟩ ?_
          refine VO.nil ?_
          show VW _ _ _ _ _ _ _
          refine VW.ret ?_
          replace h := Option.some.inj h
          subst h
          exact retR [] (by kernel_rfl) rfl
        · replace h := cond_f h hb; clear hb
          refine VW.skip ?_
          show VW _ _ _ _ _ _ _
          refine VW.seq ?_
          refine VW.seq ?_
          obtain ⟨y10, hy10, h⟩ := andO_some h
          obtain ⟨y11, hy11, h⟩ := andO_some h
          refine VW.drawn (by kernel_rfl) [some (55, .agg [.v (.int .i64) y4.1, .hd 5 0 none, .hd 6 0 none]), some (56, .agg [.v (.int .i64) a0.1, .v (.sl (.int .i64)) a0.2.1, .v (.sl (.int .i64)) a0.2.2]), some (57, .agg [.v (.int .i64) y10.1, .hd 10 0 none, .hd 11 0 none]), some (58, B y11), some (59, B (!y11))] [2] [[bx [.v (.int .i64) a0.1, .v (.sl (.int .i64)) a0.2.1, .v (.sl (.int .i64)) a0.2.2] 30, bx [.v (.int .i64) y3.1.1, .hd 2 0 none, .hd 3 0 none] 24, ar 0 (.int .i64) y3.1.2.1 .dp, ar 0 (.int .i64) y3.1.2.2 .dp, bx [.v (.int .i64) y4.1, .hd 5 0 none, .hd 6 0 none] 24, ar 0 (.int .i64) y4.2.1 .dp, ar 0 (.int .i64) y4.2.2 .dp, bx [.v (.int .i64) y5.1.1, .hd 8 0 none, .hd 9 0 none] 24, ar 0 (.int .i64) y5.1.2.1 .dp, ar 0 (.int .i64) y5.1.2.2 .dp], [bx [.v (.int .i64) a0.1, .v (.sl (.int .i64)) a0.2.1, .v (.sl (.int .i64)) a0.2.2] 30, bx [.v (.int .i64) y3.1.1, .hd 2 0 none, .hd 3 0 none] 24, ar 0 (.int .i64) y3.1.2.1 .dp, ar 0 (.int .i64) y3.1.2.2 .dp, bx [.v (.int .i64) y4.1, .hd 5 0 none, .hd 6 0 none] 24, ar 0 (.int .i64) y4.2.1 .dp, ar 0 (.int .i64) y4.2.2 .dp, bx [.v (.int .i64) y5.1.1, .hd 8 0 none, .hd 9 0 none] 24, ar 0 (.int .i64) y5.1.2.1 .dp, ar 0 (.int .i64) y5.1.2.2 .dp, ar 0 (.int .i64) y10.2.1 .dp, ar 0 (.int .i64) y10.2.2 .dp]] [(0, 0), (0, 1), (1, 0), (2, 0), (3, 1), (4, 0), (4, 1)] [1, 2, 6, 7, 8, 9, 10, 11, 12, 59] [0, 1, 2, 3, 4, 5, 6, 7, 8, 9] (s' := ⟨[(1, I a1), (2, .lf (.ptr 0 0 0 0)), (6, .lf (.ptr 1 0 0 0)), (7, I y3.2.1), (8, B y3.2.2), (9, .lf (.ptr 4 0 0 0)), (10, .lf (.ptr 7 0 0 0)), (11, I y5.2.1), (12, B y5.2.2), (59, B (!y11))], [bx [.v (.int .i64) a0.1, .v (.sl (.int .i64)) a0.2.1, .v (.sl (.int .i64)) a0.2.2] 30, bx [.v (.int .i64) y3.1.1, .hd 2 0 none, .hd 3 0 none] 24, ar 0 (.int .i64) y3.1.2.1 .dp, ar 0 (.int .i64) y3.1.2.2 .dp, bx [.v (.int .i64) y4.1, .hd 5 0 none, .hd 6 0 none] 24, ar 0 (.int .i64) y4.2.1 .dp, ar 0 (.int .i64) y4.2.2 .dp, bx [.v (.int .i64) y5.1.1, .hd 8 0 none, .hd 9 0 none] 24, ar 0 (.int .i64) y5.1.2.1 .dp, ar 0 (.int .i64) y5.1.2.2 .dp]⟩) (by kernel_rfl) (by kernel_rfl) ⟨⟨_, rfl, Stp.ev T_ok (m := .dp) (φ := True) (by kernel_rfl) trivial⟩,
    ⟨_, rfl, Stp.ev T_ok (m := .dp) (φ := True) (by kernel_rfl) trivial⟩,
    ⟨_, rfl, Stp.ev T_ok (m := .dp) (φ := True) (by kernel_rfl) trivial⟩,
    ⟨_, rfl, Stp.eq (Stp.call false [.t Y23] [] T_ok (d := some 57) (by kernel_rfl) (ok21 N _ hy10) rfl) (by kernel_rfl) (by kernel_rfl)⟩,
    ⟨_, rfl, Stp.eq (Stp.call true [.t Y23, .t Y23] [] T_ok (d := some 58) (by kernel_rfl) (ok16 N _ _ hy11) rfl) (by kernel_rfl) (by kernel_rfl)⟩,
    ⟨_, rfl, Stp.ev T_ok (m := .dp) (φ := True) (by kernel_rfl) trivial⟩,
    ⟨_, rfl, Stp.ev T_ok (m := .dp) (φ := True) (by kernel_rfl) trivial⟩, trivial⟩ (by kernel_rfl) ?_
          show VW _ _ _ _ _ _ _
          refine VW.cond (b := (!y11)) (by kernel_rfl) (fun hb => ?_) (fun hb => ?_)
          · replace h := cond_t h hb; clear hb
            refine VW.seq ?_
            refine VW.region ?_
            refine VO.seg T_ok .dp 1 [4] [] (s' := ⟨[(4, B false)], []⟩) (φ := True ∧ True) (by kernel_rfl) ⟨trivial, trivial⟩ ?_
            refine VO.nil ?_
            show VW _ _ _ _ _ _ _
            refine VW.ret ?_
            replace h := Option.some.inj h
            subst h
            exact retR [] (by kernel_rfl) rfl
          · replace h := cond_f h hb; clear hb
            refine VW.skip ?_
            show VW _ _ _ _ _ _ _
            refine VW.seq ?_
            refine VW.region ?_
            refine VO.seg T_ok .dp 1 [1, 2, 6, 7, 8, 9, 10, 11, 12, 13] [0, 1, 2, 3, 4, 5, 6, 7, 8, 9] (s' := ⟨[(1, I a1), (2, .lf (.ptr 0 0 0 0)), (6, .lf (.ptr 1 0 0 0)), (7, I y3.2.1), (8, B y3.2.2), (9, .lf (.ptr 4 0 0 0)), (10, .lf (.ptr 7 0 0 0)), (11, I y5.2.1), (12, B y5.2.2), (13, I (1 : Int))], [bx [.v (.int .i64) a0.1, .v (.sl (.int .i64)) a0.2.1, .v (.sl (.int .i64)) a0.2.2] 30, bx [.v (.int .i64) y3.1.1, .hd 2 0 none, .hd 3 0 none] 24, ar 0 (.int .i64) y3.1.2.1 .dp, ar 0 (.int .i64) y3.1.2.2 .dp, bx [.v (.int .i64) y4.1, .hd 5 0 none, .hd 6 0 none] 24, ar 0 (.int .i64) y4.2.1 .dp, ar 0 (.int .i64) y4.2.2 .dp, bx [.v (.int .i64) y5.1.1, .hd 8 0 none, .hd 9 0 none] 24, ar 0 (.int .i64) y5.1.2.1 .dp, ar 0 (.int .i64) y5.1.2.2 .dp]⟩) (φ := True ∧ True) (by kernel_rfl) ⟨trivial, trivial⟩ ?_
            refine VO.nil ?_
            show VW _ _ _ _ _ _ _
            refine VW.seq ?_
            refine VW.region ?_
            refine VO.seg T_ok .dp 2 [1, 2, 6, 7, 8, 10, 11, 12, 60, 61] [0, 1, 2, 3, 7, 8, 9, 5, 6] (s' := ⟨[(1, I a1), (2, .lf (.ptr 0 0 0 0)), (6, .lf (.ptr 1 0 0 0)), (7, I y3.2.1), (8, B y3.2.2), (10, .lf (.ptr 4 0 0 0)), (11, I y5.2.1), (12, B y5.2.2), (60, .agg [.v (.int .i64) y4.1, .hd 7 0 none, .hd 8 0 none]), (61, I (1 : Int))], [bx [.v (.int .i64) a0.1, .v (.sl (.int .i64)) a0.2.1, .v (.sl (.int .i64)) a0.2.2] 30, bx [.v (.int .i64) y3.1.1, .hd 2 0 none, .hd 3 0 none] 24, ar 0 (.int .i64) y3.1.2.1 .dp, ar 0 (.int .i64) y3.1.2.2 .dp, bx [.v (.int .i64) y5.1.1, .hd 5 0 none, .hd 6 0 none] 24, ar 0 (.int .i64) y5.1.2.1 .dp, ar 0 (.int .i64) y5.1.2.2 .dp, ar 0 (.int .i64) y4.2.1 .dp, ar 0 (.int .i64) y4.2.2 .dp]⟩) (φ := True ∧ True ∧ True) (by kernel_rfl) ⟨trivial, trivial, trivial⟩ ?_
            obtain ⟨y12, hy, h⟩ := andO_some h
            refine VO.callM [7, 8] [.t Y23, .t (.int .i64)] (d := some 62) (by kernel_rfl) (by kernel_rfl) (ok17 N _ _ hy) (by kernel_rfl) ?_
            refine VO.seg T_ok .dp 1 [1, 2, 6, 7, 8, 10, 11, 12, 13] [0, 1, 2, 3, 4, 5, 6] (s' := ⟨[(1, I a1), (2, .lf (.ptr 0 0 0 0)), (6, .lf (.ptr 1 0 0 0)), (7, I y3.2.1), (8, B y3.2.2), (10, .lf (.ptr 4 0 0 0)), (11, I y5.2.1), (12, B y5.2.2), (13, I y12.2.2)], [bx [.v (.int .i64) a0.1, .v (.sl (.int .i64)) a0.2.1, .v (.sl (.int .i64)) a0.2.2] 30, bx [.v (.int .i64) y3.1.1, .hd 2 0 none, .hd 3 0 none] 24, ar 0 (.int .i64) y3.1.2.1 .dp, ar 0 (.int .i64) y3.1.2.2 .dp, bx [.v (.int .i64) y5.1.1, .hd 5 0 none, .hd 6 0 none] 24, ar 0 (.int .i64) y5.1.2.1 .dp, ar 0 (.int .i64) y5.1.2.2 .dp]⟩) (φ := True ∧ True) (by kernel_rfl) ⟨trivial, trivial⟩ ?_
            refine VO.nil ?_
            show VW _ _ _ _ _ _ _
            refine VW.seq ?_
            refine VW.seq ?_
            refine VW.region ?_
            refine VO.seg T_ok .dp 3 [1, 2, 6, 7, 8, 10, 11, 12, 65] [0, 1, 2, 3, 4, 5, 6] (s' := ⟨[(1, I a1), (2, .lf (.ptr 0 0 0 0)), (6, .lf (.ptr 1 0 0 0)), (7, I y3.2.1), (8, B y3.2.2), (10, .lf (.ptr 4 0 0 0)), (11, I y5.2.1), (12, B y5.2.2), (65, B (decide (y12.2.2 < (0 : Int))))], [bx [.v (.int .i64) a0.1, .v (.sl (.int .i64)) a0.2.1, .v (.sl (.int .i64)) a0.2.2] 30, bx [.v (.int .i64) y3.1.1, .hd 2 0 none, .hd 3 0 none] 24, ar 0 (.int .i64) y3.1.2.1 .dp, ar 0 (.int .i64) y3.1.2.2 .dp, bx [.v (.int .i64) y5.1.1, .hd 5 0 none, .hd 6 0 none] 24, ar 0 (.int .i64) y5.1.2.1 .dp, ar 0 (.int .i64) y5.1.2.2 .dp]⟩) (φ := True ∧ True ∧ True ∧ True) (by kernel_rfl) ⟨trivial, trivial, trivial, trivial⟩ ?_
            refine VO.splitB 65 (b := (decide (y12.2.2 < (0 : Int)))) (by kernel_rfl) (fun hb => ?_) (fun hb => ?_)
            · replace h := cond_t h hb; clear hb
              refine VO.seg T_ok .dp 15 [1, 2, 6, 7, 8, 10, 80] [0, 1, 2, 3, 4, 5, 6] (s' := ⟨[(1, I a1), (2, .lf (.ptr 0 0 0 0)), (6, .lf (.ptr 1 0 0 0)), (7, I y3.2.1), (8, B y3.2.2), (10, .lf (.ptr 4 0 0 0)), (80, B true)], [bx [.v (.int .i64) a0.1, .v (.sl (.int .i64)) a0.2.1, .v (.sl (.int .i64)) a0.2.2] 30, bx [.v (.int .i64) y3.1.1, .hd 2 0 none, .hd 3 0 none] 24, ar 0 (.int .i64) y3.1.2.1 .dp, ar 0 (.int .i64) y3.1.2.2 .dp, bx [.v (.int .i64) y5.1.1, .hd 5 0 none, .hd 6 0 none] 24, ar 0 (.int .i64) y5.1.2.1 .dp, ar 0 (.int .i64) y5.1.2.2 .dp]⟩) (φ := True ∧ True ∧ True ∧ True ∧ True ∧ True ∧ True ∧ True ∧ True ∧ True ∧ True ∧ True ∧ True ∧ True ∧ True ∧ True) (by kernel_rfl) ⟨trivial, trivial, trivial, trivial, trivial, trivial, trivial, trivial, trivial, trivial, trivial, trivial, trivial, trivial, trivial, trivial⟩ ?_
              refine VO.nil ?_
              show VW _ _ _ _ _ _ _
              refine VW.cond (b := true) (by kernel_rfl) (fun _ => ?_) (fun h' => nomatch h')
              refine VW.seq ?_
              refine VW.region ?_
              refine VO.seg T_ok .dp 1 [4] [] (s' := ⟨[(4, B false)], []⟩) (φ := True ∧ True) (by kernel_rfl) ⟨trivial, trivial⟩ ?_
              refine VO.nil ?_
              show VW _ _ _ _ _ _ _
              refine VW.ret ?_
              replace h := Option.some.inj h
              subst h
              exact retR [] (by kernel_rfl) rfl
            · replace h := cond_f h hb; clear hb
              refine VO.seg T_ok .dp 2 [1, 2, 6, 7, 8, 10, 11, 12, 65, 66, 67] [0, 1, 2, 3, 4, 5, 6] (s' := ⟨[(1, I a1), (2, .lf (.ptr 0 0 0 0)), (6, .lf (.ptr 1 0 0 0)), (7, I y3.2.1), (8, B y3.2.2), (10, .lf (.ptr 4 0 0 0)), (11, I y5.2.1), (12, B y5.2.2), (65, B false), (66, .agg [.v (.int .i64) y5.1.1, .hd 5 0 none, .hd 6 0 none]), (67, .agg [.v (.int .i64) y3.1.1, .hd 2 0 none, .hd 3 0 none])], [bx [.v (.int .i64) a0.1, .v (.sl (.int .i64)) a0.2.1, .v (.sl (.int .i64)) a0.2.2] 30, bx [.v (.int .i64) y3.1.1, .hd 2 0 none, .hd 3 0 none] 24, ar 0 (.int .i64) y3.1.2.1 .dp, ar 0 (.int .i64) y3.1.2.2 .dp, bx [.v (.int .i64) y5.1.1, .hd 5 0 none, .hd 6 0 none] 24, ar 0 (.int .i64) y5.1.2.1 .dp, ar 0 (.int .i64) y5.1.2.2 .dp]⟩) (φ := True ∧ True ∧ True) (by kernel_rfl) ⟨trivial, trivial, trivial⟩ ?_
              refine VO.on (j := 2) (want := false) (d := 65) (b := false) rfl rfl rfl (by kernel_rfl) rfl ?_
              obtain ⟨y14, hy, h⟩ := andO_some h
              refine VO.call true [.t Y23, .t Y23] [] T_ok (d := some 68) (by kernel_rfl) (ok16 N _ _ hy) rfl ?_
              refine VO.seg T_ok .dp 3 [1, 2, 6, 7, 8, 10, 11, 12, 71] [0, 1, 2, 3, 4, 5, 6] (s' := ⟨[(1, I a1), (2, .lf (.ptr 0 0 0 0)), (6, .lf (.ptr 1 0 0 0)), (7, I y3.2.1), (8, B y3.2.2), (10, .lf (.ptr 4 0 0 0)), (11, I y5.2.1), (12, B y5.2.2), (71, B (!y14))], [bx [.v (.int .i64) a0.1, .v (.sl (.int .i64)) a0.2.1, .v (.sl (.int .i64)) a0.2.2] 30, bx [.v (.int .i64) y3.1.1, .hd 2 0 none, .hd 3 0 none] 24, ar 0 (.int .i64) y3.1.2.1 .dp, ar 0 (.int .i64) y3.1.2.2 .dp, bx [.v (.int .i64) y5.1.1, .hd 5 0 none, .hd 6 0 none] 24, ar 0 (.int .i64) y5.1.2.1 .dp, ar 0 (.int .i64) y5.1.2.2 .dp]⟩) (φ := True ∧ True ∧ True ∧ True) (by kernel_rfl) ⟨trivial, trivial, trivial, trivial⟩ ?_
              refine VO.splitB 71 (b := (!y14)) (by kernel_rfl) (fun hb => ?_) (fun hb => ?_)
              · replace h := cond_t h hb; clear hb
                refine VO.seg T_ok .dp 9 [1, 2, 6, 7, 8, 10, 80] [0, 1, 2, 3, 4, 5, 6] (s' := ⟨[(1, I a1), (2, .lf (.ptr 0 0 0 0)), (6, .lf (.ptr 1 0 0 0)), (7, I y3.2.1), (8, B y3.2.2), (10, .lf (.ptr 4 0 0 0)), (80, B true)], [bx [.v (.int .i64) a0.1, .v (.sl (.int .i64)) a0.2.1, .v (.sl (.int .i64)) a0.2.2] 30, bx [.v (.int .i64) y3.1.1, .hd 2 0 none, .hd 3 0 none] 24, ar 0 (.int .i64) y3.1.2.1 .dp, ar 0 (.int .i64) y3.1.2.2 .dp, bx [.v (.int .i64) y5.1.1, .hd 5 0 none, .hd 6 0 none] 24, ar 0 (.int .i64) y5.1.2.1 .dp, ar 0 (.int .i64) y5.1.2.2 .dp]⟩) (φ := True ∧ True ∧ True ∧ True ∧ True ∧ True ∧ True ∧ True ∧ True ∧ True) (by kernel_rfl) ⟨trivial, trivial, trivial, trivial, trivial, trivial, trivial, trivial, trivial, trivial⟩ ?_
                refine VO.nil ?_
                show VW _ _ _ _ _ _ _
                refine VW.cond (b := true) (by kernel_rfl) (fun _ => ?_) (fun h' => nomatch h')
                refine VW.seq ?_
                refine VW.region ?_
                refine VO.seg T_ok .dp 1 [4] [] (s' := ⟨[(4, B false)], []⟩) (φ := True ∧ True) (by kernel_rfl) ⟨trivial, trivial⟩ ?_
                refine VO.nil ?_
                show VW _ _ _ _ _ _ _
                refine VW.ret ?_
                replace h := Option.some.inj h
                subst h
                exact retR [] (by kernel_rfl) rfl
              · replace h := cond_f h hb; clear hb
                refine VO.seg T_ok .dp 5 [1, 2, 6, 7, 8, 10, 12, 76] [0, 1, 2, 3, 4, 5, 6] (s' := ⟨[(1, I a1), (2, .lf (.ptr 0 0 0 0)), (6, .lf (.ptr 1 0 0 0)), (7, I y3.2.1), (8, B y3.2.2), (10, .lf (.ptr 4 0 0 0)), (12, B y5.2.2), (76, B (y5.2.1 != y3.2.1))], [bx [.v (.int .i64) a0.1, .v (.sl (.int .i64)) a0.2.1, .v (.sl (.int .i64)) a0.2.2] 30, bx [.v (.int .i64) y3.1.1, .hd 2 0 none, .hd 3 0 none] 24, ar 0 (.int .i64) y3.1.2.1 .dp, ar 0 (.int .i64) y3.1.2.2 .dp, bx [.v (.int .i64) y5.1.1, .hd 5 0 none, .hd 6 0 none] 24, ar 0 (.int .i64) y5.1.2.1 .dp, ar 0 (.int .i64) y5.1.2.2 .dp]⟩) (φ := True ∧ True ∧ True ∧ True ∧ True ∧ True) (by kernel_rfl) ⟨trivial, trivial, trivial, trivial, trivial, trivial⟩ ?_
                refine VO.splitB 76 (b := (y5.2.1 != y3.2.1)) (by kernel_rfl) (fun hb => ?_) (fun hb => ?_)
                · replace h := cond_t h hb; clear hb
                  refine VO.seg T_ok .dp 4 [1, 2, 6, 7, 8, 10, 80] [0, 1, 2, 3, 4, 5, 6] (s' := ⟨[(1, I a1), (2, .lf (.ptr 0 0 0 0)), (6, .lf (.ptr 1 0 0 0)), (7, I y3.2.1), (8, B y3.2.2), (10, .lf (.ptr 4 0 0 0)), (80, B true)], [bx [.v (.int .i64) a0.1, .v (.sl (.int .i64)) a0.2.1, .v (.sl (.int .i64)) a0.2.2] 30, bx [.v (.int .i64) y3.1.1, .hd 2 0 none, .hd 3 0 none] 24, ar 0 (.int .i64) y3.1.2.1 .dp, ar 0 (.int .i64) y3.1.2.2 .dp, bx [.v (.int .i64) y5.1.1, .hd 5 0 none, .hd 6 0 none] 24, ar 0 (.int .i64) y5.1.2.1 .dp, ar 0 (.int .i64) y5.1.2.2 .dp]⟩) (φ := True ∧ True ∧ True ∧ True ∧ True) (by kernel_rfl) ⟨trivial, trivial, trivial, trivial, trivial⟩ ?_
                  refine VO.nil ?_
                  show VW _ _ _ _ _ _ _
                  refine VW.cond (b := true) (by kernel_rfl) (fun _ => ?_) (fun h' => nomatch h')
                  refine VW.seq ?_
                  refine VW.region ?_
                  refine VO.seg T_ok .dp 1 [4] [] (s' := ⟨[(4, B false)], []⟩) (φ := True ∧ True) (by kernel_rfl) ⟨trivial, trivial⟩ ?_
                  refine VO.nil ?_
                  show VW _ _ _ _ _ _ _
                  refine VW.ret ?_
                  replace h := Option.some.inj h
                  subst h
                  exact retR [] (by kernel_rfl) rfl
                · replace h := cond_f h hb; clear hb
                  refine VO.seg T_ok .dp 4 [1, 2, 6, 7, 8, 10, 80] [0, 1, 2, 3, 4, 5, 6] (s' := ⟨[(1, I a1), (2, .lf (.ptr 0 0 0 0)), (6, .lf (.ptr 1 0 0 0)), (7, I y3.2.1), (8, B y3.2.2), (10, .lf (.ptr 4 0 0 0)), (80, B (!(y5.2.2 == y3.2.2)))], [bx [.v (.int .i64) a0.1, .v (.sl (.int .i64)) a0.2.1, .v (.sl (.int .i64)) a0.2.2] 30, bx [.v (.int .i64) y3.1.1, .hd 2 0 none, .hd 3 0 none] 24, ar 0 (.int .i64) y3.1.2.1 .dp, ar 0 (.int .i64) y3.1.2.2 .dp, bx [.v (.int .i64) y5.1.1, .hd 5 0 none, .hd 6 0 none] 24, ar 0 (.int .i64) y5.1.2.1 .dp, ar 0 (.int .i64) y5.1.2.2 .dp]⟩) (φ := True ∧ True ∧ True ∧ True ∧ True) (by kernel_rfl) ⟨trivial, trivial, trivial, trivial, trivial⟩ ?_
                  refine VO.nil ?_
                  show VW _ _ _ _ _ _ _
                  refine VW.cond (b := (!(y5.2.2 == y3.2.2))) (by kernel_rfl) (fun hb => ?_) (fun hb => ?_)
                  · replace h := cond_t h hb; clear hb
                    refine VW.seq ?_
                    refine VW.region ?_
                    refine VO.seg T_ok .dp 1 [4] [] (s' := ⟨[(4, B false)], []⟩) (φ := True ∧ True) (by kernel_rfl) ⟨trivial, trivial⟩ ?_
                    refine VO.nil ?_
                    show VW _ _ _ _ _ _ _
                    refine VW.ret ?_
                    replace h := Option.some.inj h
                    subst h
                    exact retR [] (by kernel_rfl) rfl
                  · replace h := cond_f h hb; clear hb
                    refine VW.skip ?_
                    show VW _ _ _ _ _ _ _
                    refine VW.seq ?_
                    refine VW.region ?_
                    refine VO.seg T_ok .dp 1 [1, 2, 6, 7, 8, 10, 14] [0, 1, 2, 3, 4, 5, 6] (s' := ⟨[(1, I a1), (2, .lf (.ptr 0 0 0 0)), (6, .lf (.ptr 1 0 0 0)), (7, I y3.2.1), (8, B y3.2.2), (10, .lf (.ptr 4 0 0 0)), (14, I (1 : Int))], [bx [.v (.int .i64) a0.1, .v (.sl (.int .i64)) a0.2.1, .v (.sl (.int .i64)) a0.2.2] 30, bx [.v (.int .i64) y3.1.1, .hd 2 0 none, .hd 3 0 none] 24, ar 0 (.int .i64) y3.1.2.1 .dp, ar 0 (.int .i64) y3.1.2.2 .dp, bx [.v (.int .i64) y5.1.1, .hd 5 0 none, .hd 6 0 none] 24, ar 0 (.int .i64) y5.1.2.1 .dp, ar 0 (.int .i64) y5.1.2.2 .dp]⟩) (φ := True ∧ True) (by kernel_rfl) ⟨trivial, trivial⟩ ?_
                    refine VO.nil ?_
                    show VW _ _ _ _ _ _ _
                    refine VW.seq ?_
                    refine VW.region ?_
                    refine VO.seg T_ok .dp 2 [1, 2, 6, 7, 8, 10, 81, 82] [0, 1, 2, 3, 4, 5, 6] (s' := ⟨[(1, I a1), (2, .lf (.ptr 0 0 0 0)), (6, .lf (.ptr 1 0 0 0)), (7, I y3.2.1), (8, B y3.2.2), (10, .lf (.ptr 4 0 0 0)), (81, .agg [.v (.int .i64) y5.1.1, .hd 5 0 none, .hd 6 0 none]), (82, I (1 : Int))], [bx [.v (.int .i64) a0.1, .v (.sl (.int .i64)) a0.2.1, .v (.sl (.int .i64)) a0.2.2] 30, bx [.v (.int .i64) y3.1.1, .hd 2 0 none, .hd 3 0 none] 24, ar 0 (.int .i64) y3.1.2.1 .dp, ar 0 (.int .i64) y3.1.2.2 .dp, bx [.v (.int .i64) y5.1.1, .hd 5 0 none, .hd 6 0 none] 24, ar 0 (.int .i64) y5.1.2.1 .dp, ar 0 (.int .i64) y5.1.2.2 .dp]⟩) (φ := True ∧ True ∧ True) (by kernel_rfl) ⟨trivial, trivial, trivial⟩ ?_
                    obtain ⟨y15, hy, h⟩ := andO_some h
                    refine VO.callM [5, 6] [.t Y23, .t (.int .i64)] (d := some 83) (by kernel_rfl) (by kernel_rfl) (ok17 N _ _ hy) (by kernel_rfl) ?_
                    refine VO.seg T_ok .dp 1 [1, 2, 6, 7, 8, 10, 14] [0, 1, 2, 3, 4, 5, 6] (s' := ⟨[(1, I a1), (2, .lf (.ptr 0 0 0 0)), (6, .lf (.ptr 1 0 0 0)), (7, I y3.2.1), (8, B y3.2.2), (10, .lf (.ptr 4 0 0 0)), (14, I y15.2.2)], [bx [.v (.int .i64) a0.1, .v (.sl (.int .i64)) a0.2.1, .v (.sl (.int .i64)) a0.2.2] 30, bx [.v (.int .i64) y3.1.1, .hd 2 0 none, .hd 3 0 none] 24, ar 0 (.int .i64) y3.1.2.1 .dp, ar 0 (.int .i64) y3.1.2.2 .dp, bx [.v (.int .i64) y5.1.1, .hd 5 0 none, .hd 6 0 none] 24, ar 0 (.int .i64) y15.1 .dp, ar 0 (.int .i64) y15.2.1 .dp]⟩) (φ := True ∧ True) (by kernel_rfl) ⟨trivial, trivial⟩ ?_
                    refine VO.nil ?_
                    show VW _ _ _ _ _ _ _
                    refine VW.seq ?_
                    refine VW.region ?_
                    refine VO.seg T_ok .dp 1 [1, 2, 6, 7, 8, 10, 14, 15] [0, 1, 2, 3, 4, 5, 6] (s' := ⟨[(1, I a1), (2, .lf (.ptr 0 0 0 0)), (6, .lf (.ptr 1 0 0 0)), (7, I y3.2.1), (8, B y3.2.2), (10, .lf (.ptr 4 0 0 0)), (14, I y15.2.2), (15, I (1 : Int))], [bx [.v (.int .i64) a0.1, .v (.sl (.int .i64)) a0.2.1, .v (.sl (.int .i64)) a0.2.2] 30, bx [.v (.int .i64) y3.1.1, .hd 2 0 none, .hd 3 0 none] 24, ar 0 (.int .i64) y3.1.2.1 .dp, ar 0 (.int .i64) y3.1.2.2 .dp, bx [.v (.int .i64) y5.1.1, .hd 5 0 none, .hd 6 0 none] 24, ar 0 (.int .i64) y15.1 .dp, ar 0 (.int .i64) y15.2.1 .dp]⟩) (φ := True ∧ True) (by kernel_rfl) ⟨trivial, trivial⟩ ?_
                    refine VO.nil ?_
                    show VW _ _ _ _ _ _ _
                    refine VW.seq ?_
                    refine VW.region ?_
                    refine VO.seg T_ok .dp 2 [1, 2, 6, 7, 8, 10, 14, 84, 85] [0, 1, 2, 3, 4, 5, 6] (s' := ⟨[(1, I a1), (2, .lf (.ptr 0 0 0 0)), (6, .lf (.ptr 1 0 0 0)), (7, I y3.2.1), (8, B y3.2.2), (10, .lf (.ptr 4 0 0 0)), (14, I y15.2.2), (84, .agg [.v (.int .i64) y5.1.1, .hd 5 0 none, .hd 6 0 none]), (85, I (1 : Int))], [bx [.v (.int .i64) a0.1, .v (.sl (.int .i64)) a0.2.1, .v (.sl (.int .i64)) a0.2.2] 30, bx [.v (.int .i64) y3.1.1, .hd 2 0 none, .hd 3 0 none] 24, ar 0 (.int .i64) y3.1.2.1 .dp, ar 0 (.int .i64) y3.1.2.2 .dp, bx [.v (.int .i64) y5.1.1, .hd 5 0 none, .hd 6 0 none] 24, ar 0 (.int .i64) y15.1 .dp, ar 0 (.int .i64) y15.2.1 .dp]⟩) (φ := True ∧ True ∧ True) (by kernel_rfl) ⟨trivial, trivial, trivial⟩ ?_
                    obtain ⟨y16, hy, h⟩ := andO_some h
                    refine VO.call true [.t Y23, .t (.int .i64)] [] T_ok (d := some 86) (by kernel_rfl) (ok18 N _ _ hy) rfl ?_
                    refine VO.seg T_ok .dp 1 [1, 2, 6, 7, 8, 10, 14, 15] [0, 1, 2, 3, 4, 5, 6] (s' := ⟨[(1, I a1), (2, .lf (.ptr 0 0 0 0)), (6, .lf (.ptr 1 0 0 0)), (7, I y3.2.1), (8, B y3.2.2), (10, .lf (.ptr 4 0 0 0)), (14, I y15.2.2), (15, I y16)], [bx [.v (.int .i64) a0.1, .v (.sl (.int .i64)) a0.2.1, .v (.sl (.int .i64)) a0.2.2] 30, bx [.v (.int .i64) y3.1.1, .hd 2 0 none, .hd 3 0 none] 24, ar 0 (.int .i64) y3.1.2.1 .dp, ar 0 (.int .i64) y3.1.2.2 .dp, bx [.v (.int .i64) y5.1.1, .hd 5 0 none, .hd 6 0 none] 24, ar 0 (.int .i64) y15.1 .dp, ar 0 (.int .i64) y15.2.1 .dp]⟩) (φ := True ∧ True) (by kernel_rfl) ⟨trivial, trivial⟩ ?_
                    refine VO.nil ?_
                    show VW _ _ _ _ _ _ _
                    refine VW.seq ?_
                    refine VW.seq ?_
                    refine VW.region ?_
                    refine VO.seg T_ok .dp 2 [1, 2, 6, 7, 8, 10, 14, 15, 88] [0, 1, 2, 3, 4, 5, 6] (s' := ⟨[(1, I a1), (2, .lf (.ptr 0 0 0 0)), (6, .lf (.ptr 1 0 0 0)), (7, I y3.2.1), (8, B y3.2.2), (10, .lf (.ptr 4 0 0 0)), (14, I y15.2.2), (15, I y16), (88, B (decide (y16 < (0 : Int))))], [bx [.v (.int .i64) a0.1, .v (.sl (.int .i64)) a0.2.1, .v (.sl (.int .i64)) a0.2.2] 30, bx [.v (.int .i64) y3.1.1, .hd 2 0 none, .hd 3 0 none] 24, ar 0 (.int .i64) y3.1.2.1 .dp, ar 0 (.int .i64) y3.1.2.2 .dp, bx [.v (.int .i64) y5.1.1, .hd 5 0 none, .hd 6 0 none] 24, ar 0 (.int .i64) y15.1 .dp, ar 0 (.int .i64) y15.2.1 .dp]⟩) (φ := True ∧ True ∧ True) (by kernel_rfl) ⟨trivial, trivial, trivial⟩ ?_
                    refine VO.nil ?_
                    show VW _ _ _ _ _ _ _
                    refine VW.cond (b := (decide (y16 < (0 : Int)))) (by kernel_rfl) (fun hb => ?_) (fun hb => ?_)
                    · replace h := cond_t h hb; clear hb
                      refine VW.seq ?_
                      refine VW.region ?_
                      refine VO.seg T_ok .dp 1 [4] [] (s' := ⟨[(4, B false)], []⟩) (φ := True ∧ True) (by kernel_rfl) ⟨trivial, trivial⟩ ?_
                      refine VO.nil ?_
                      show VW _ _ _ _ _ _ _
                      refine VW.ret ?_
                      replace h := Option.some.inj h
                      subst h
                      exact retR [] (by kernel_rfl) rfl
                    · replace h := cond_f h hb; clear hb
                      refine VW.skip ?_
                      show VW _ _ _ _ _ _ _
                      refine VW.seq ?_
                      refine VW.seq ?_
                      refine VW.region ?_
                      refine VO.seg T_ok .dp 3 [1, 2, 6, 7, 8, 10, 14, 91] [0, 1, 2, 3, 4, 5, 6] (s' := ⟨[(1, I a1), (2, .lf (.ptr 0 0 0 0)), (6, .lf (.ptr 1 0 0 0)), (7, I y3.2.1), (8, B y3.2.2), (10, .lf (.ptr 4 0 0 0)), (14, I y15.2.2), (91, B (y16 != y15.2.2))], [bx [.v (.int .i64) a0.1, .v (.sl (.int .i64)) a0.2.1, .v (.sl (.int .i64)) a0.2.2] 30, bx [.v (.int .i64) y3.1.1, .hd 2 0 none, .hd 3 0 none] 24, ar 0 (.int .i64) y3.1.2.1 .dp, ar 0 (.int .i64) y3.1.2.2 .dp, bx [.v (.int .i64) y5.1.1, .hd 5 0 none, .hd 6 0 none] 24, ar 0 (.int .i64) y15.1 .dp, ar 0 (.int .i64) y15.2.1 .dp]⟩) (φ := True ∧ True ∧ True ∧ True) (by kernel_rfl) ⟨trivial, trivial, trivial, trivial⟩ ?_
                      refine VO.nil ?_
                      show VW _ _ _ _ _ _ _
                      refine VW.cond (b := (y16 != y15.2.2)) (by kernel_rfl) (fun hb => ?_) (fun hb => ?_)
                      · replace h := cond_t h hb; clear hb
                        refine VW.seq ?_
                        refine VW.region ?_
                        refine VO.seg T_ok .dp 1 [4] [] (s' := ⟨[(4, B false)], []⟩) (φ := True ∧ True) (by kernel_rfl) ⟨trivial, trivial⟩ ?_
                        refine VO.nil ?_
                        show VW _ _ _ _ _ _ _
                        refine VW.ret ?_
                        replace h := Option.some.inj h
                        subst h
                        exact retR [] (by kernel_rfl) rfl
                      · replace h := cond_f h hb; clear hb
                        refine VW.skip ?_
                        show VW _ _ _ _ _ _ _
                        refine VW.seq ?_
                        refine VW.region ?_
                        refine VO.seg T_ok .dp 1 [1, 6, 7, 8, 10, 14, 93] [1, 2, 3, 4, 5, 6] (s' := ⟨[(1, I a1), (6, .lf (.ptr 0 0 0 0)), (7, I y3.2.1), (8, B y3.2.2), (10, .lf (.ptr 3 0 0 0)), (14, I y15.2.2), (93, .agg [.v (.int .i64) a0.1, .v (.sl (.int .i64)) a0.2.1, .v (.sl (.int .i64)) a0.2.2])], [bx [.v (.int .i64) y3.1.1, .hd 1 0 none, .hd 2 0 none] 24, ar 0 (.int .i64) y3.1.2.1 .dp, ar 0 (.int .i64) y3.1.2.2 .dp, bx [.v (.int .i64) y5.1.1, .hd 4 0 none, .hd 5 0 none] 24, ar 0 (.int .i64) y15.1 .dp, ar 0 (.int .i64) y15.2.1 .dp]⟩) (φ := True ∧ True) (by kernel_rfl) ⟨trivial, trivial⟩ ?_
                        obtain ⟨y17, hy, h⟩ := andO_some h
                        refine VO.call false [.t Y23] [] T_ok (d := some 94) (by kernel_rfl) (ok21 N _ hy) rfl ?_
                        refine VO.seg T_ok .dp 1 [6, 7, 8, 10, 14, 94, 95] [0, 1, 2, 3, 4, 5, 6, 7] (s' := ⟨[(6, .lf (.ptr 0 0 0 0)), (7, I y3.2.1), (8, B y3.2.2), (10, .lf (.ptr 3 0 0 0)), (14, I y15.2.2), (94, .agg [.v (.int .i64) y17.1, .hd 6 0 none, .hd 7 0 none]), (95, I a1)], [bx [.v (.int .i64) y3.1.1, .hd 1 0 none, .hd 2 0 none] 24, ar 0 (.int .i64) y3.1.2.1 .dp, ar 0 (.int .i64) y3.1.2.2 .dp, bx [.v (.int .i64) y5.1.1, .hd 4 0 none, .hd 5 0 none] 24, ar 0 (.int .i64) y15.1 .dp, ar 0 (.int .i64) y15.2.1 .dp, ar 0 (.int .i64) y17.2.1 .dp, ar 0 (.int .i64) y17.2.2 .dp]⟩) (φ := True ∧ True) (by kernel_rfl) ⟨trivial, trivial⟩ ?_
                        obtain ⟨y18, hy, h⟩ := andO_some h
                        refine VO.call true [.t Y23, .t (.int .i64)] [] T_ok (d := some 96) (by kernel_rfl) (ok36 N _ _ hy) rfl ?_
                        refine VO.seg T_ok .dp 8 [6, 7, 8, 10, 14, 16, 17, 18] [0, 1, 2, 3, 4, 5, 10, 8, 9] (s' := ⟨[(6, .lf (.ptr 0 0 0 0)), (7, I y3.2.1), (8, B y3.2.2), (10, .lf (.ptr 3 0 0 0)), (14, I y15.2.2), (16, .lf (.ptr 6 0 0 0)), (17, I y18.2.1), (18, B y18.2.2)], [bx [.v (.int .i64) y3.1.1, .hd 1 0 none, .hd 2 0 none] 24, ar 0 (.int .i64) y3.1.2.1 .dp, ar 0 (.int .i64) y3.1.2.2 .dp, bx [.v (.int .i64) y5.1.1, .hd 4 0 none, .hd 5 0 none] 24, ar 0 (.int .i64) y15.1 .dp, ar 0 (.int .i64) y15.2.1 .dp, bx [.v (.int .i64) y18.1.1, .hd 7 0 none, .hd 8 0 none] 24, ar 0 (.int .i64) y18.1.2.1 .dp, ar 0 (.int .i64) y18.1.2.2 .dp]⟩) (φ := True ∧ True ∧ True ∧ True ∧ True ∧ True ∧ True ∧ True ∧ True) (by kernel_rfl) ⟨trivial, trivial, trivial, trivial, trivial, trivial, trivial, trivial, trivial⟩ ?_
                        refine VO.nil ?_
                        show VW _ _ _ _ _ _ _
                        refine VW.seq ?_
                        refine VW.seq ?_
                        refine VW.region ?_
                        refine VO.seg T_ok .dp 2 [7, 8, 10, 14, 17, 18, 100, 101] [3, 4, 5, 7, 8, 1, 2] (s' := ⟨[(7, I y3.2.1), (8, B y3.2.2), (10, .lf (.ptr 0 0 0 0)), (14, I y15.2.2), (17, I y18.2.1), (18, B y18.2.2), (100, .agg [.v (.int .i64) y18.1.1, .hd 3 0 none, .hd 4 0 none]), (101, .agg [.v (.int .i64) y3.1.1, .hd 5 0 none, .hd 6 0 none])], [bx [.v (.int .i64) y5.1.1, .hd 1 0 none, .hd 2 0 none] 24, ar 0 (.int .i64) y15.1 .dp, ar 0 (.int .i64) y15.2.1 .dp, ar 0 (.int .i64) y18.1.2.1 .dp, ar 0 (.int .i64) y18.1.2.2 .dp, ar 0 (.int .i64) y3.1.2.1 .dp, ar 0 (.int .i64) y3.1.2.2 .dp]⟩) (φ := True ∧ True ∧ True) (by kernel_rfl) ⟨trivial, trivial, trivial⟩ ?_
                        obtain ⟨y20, hy, h⟩ := andO_some h
                        refine VO.call true [.t Y23, .t Y23] [] T_ok (d := some 102) (by kernel_rfl) (ok16 N _ _ hy) rfl ?_
                        refine VO.seg T_ok .dp 2 [7, 8, 10, 14, 17, 18, 104] [0, 1, 2] (s' := ⟨[(7, I y3.2.1), (8, B y3.2.2), (10, .lf (.ptr 0 0 0 0)), (14, I y15.2.2), (17, I y18.2.1), (18, B y18.2.2), (104, B (!y20))], [bx [.v (.int .i64) y5.1.1, .hd 1 0 none, .hd 2 0 none] 24, ar 0 (.int .i64) y15.1 .dp, ar 0 (.int .i64) y15.2.1 .dp]⟩) (φ := True ∧ True ∧ True) (by kernel_rfl) ⟨trivial, trivial, trivial⟩ ?_
                        refine VO.splitB 104 (b := (!y20)) (by kernel_rfl) (fun hb => ?_) (fun hb => ?_)
                        · replace h := cond_t h hb; clear hb
                          refine VO.seg T_ok .dp 9 [10, 14, 113] [0, 1, 2] (s' := ⟨[(10, .lf (.ptr 0 0 0 0)), (14, I y15.2.2), (113, B true)], [bx [.v (.int .i64) y5.1.1, .hd 1 0 none, .hd 2 0 none] 24, ar 0 (.int .i64) y15.1 .dp, ar 0 (.int .i64) y15.2.1 .dp]⟩) (φ := True ∧ True ∧ True ∧ True ∧ True ∧ True ∧ True ∧ True ∧ True ∧ True) (by kernel_rfl) ⟨trivial, trivial, trivial, trivial, trivial, trivial, trivial, trivial, trivial, trivial⟩ ?_
                          refine VO.nil ?_
                          show VW _ _ _ _ _ _ _
                          refine VW.cond (b := true) (by kernel_rfl) (fun _ => ?_) (fun h' => nomatch h')
                          refine VW.seq ?_
                          refine VW.region ?_
                          refine VO.seg T_ok .dp 1 [4] [] (s' := ⟨[(4, B false)], []⟩) (φ := True ∧ True) (by kernel_rfl) ⟨trivial, trivial⟩ ?_
                          refine VO.nil ?_
                          show VW _ _ _ _ _ _ _
                          refine VW.ret ?_
                          replace h := Option.some.inj h
                          subst h
                          exact retR [] (by kernel_rfl) rfl
                        · replace h := cond_f h hb; clear hb
                          refine VO.seg T_ok .dp 5 [8, 10, 14, 18, 109] [0, 1, 2] (s' := ⟨[(8, B y3.2.2), (10, .lf (.ptr 0 0 0 0)), (14, I y15.2.2), (18, B y18.2.2), (109, B (y18.2.1 != y3.2.1))], [bx [.v (.int .i64) y5.1.1, .hd 1 0 none, .hd 2 0 none] 24, ar 0 (.int .i64) y15.1 .dp, ar 0 (.int .i64) y15.2.1 .dp]⟩) (φ := True ∧ True ∧ True ∧ True ∧ True ∧ True) (by kernel_rfl) ⟨trivial, trivial, trivial, trivial, trivial, trivial⟩ ?_
                          refine VO.splitB 109 (b := (y18.2.1 != y3.2.1)) (by kernel_rfl) (fun hb => ?_) (fun hb => ?_)
                          · replace h := cond_t h hb; clear hb
                            refine VO.seg T_ok .dp 4 [10, 14, 113] [0, 1, 2] (s' := ⟨[(10, .lf (.ptr 0 0 0 0)), (14, I y15.2.2), (113, B true)], [bx [.v (.int .i64) y5.1.1, .hd 1 0 none, .hd 2 0 none] 24, ar 0 (.int .i64) y15.1 .dp, ar 0 (.int .i64) y15.2.1 .dp]⟩) (φ := True ∧ True ∧ True ∧ True ∧ True) (by kernel_rfl) ⟨trivial, trivial, trivial, trivial, trivial⟩ ?_
                            refine VO.nil ?_
                            show VW _ _ _ _ _ _ _
                            refine VW.cond (b := true) (by kernel_rfl) (fun _ => ?_) (fun h' => nomatch h')
                            refine VW.seq ?_
                            refine VW.region ?_
                            refine VO.seg T_ok .dp 1 [4] [] (s' := ⟨[(4, B false)], []⟩) (φ := True ∧ True) (by kernel_rfl) ⟨trivial, trivial⟩ ?_
                            refine VO.nil ?_
                            show VW _ _ _ _ _ _ _
                            refine VW.ret ?_
                            replace h := Option.some.inj h
                            subst h
                            exact retR [] (by kernel_rfl) rfl
                          · replace h := cond_f h hb; clear hb
                            refine VO.seg T_ok .dp 4 [10, 14, 113] [0, 1, 2] (s' := ⟨[(10, .lf (.ptr 0 0 0 0)), (14, I y15.2.2), (113, B (!(y18.2.2 == y3.2.2)))], [bx [.v (.int .i64) y5.1.1, .hd 1 0 none, .hd 2 0 none] 24, ar 0 (.int .i64) y15.1 .dp, ar 0 (.int .i64) y15.2.1 .dp]⟩) (φ := True ∧ True ∧ True ∧ True ∧ True) (by kernel_rfl) ⟨trivial, trivial, trivial, trivial, trivial⟩ ?_
                            refine VO.nil ?_
                            show VW _ _ _ _ _ _ _
                            refine VW.cond (b := (!(y18.2.2 == y3.2.2))) (by kernel_rfl) (fun hb => ?_) (fun hb => ?_)
                            · replace h := cond_t h hb; clear hb
                              refine VW.seq ?_
                              refine VW.region ?_
                              refine VO.seg T_ok .dp 1 [4] [] (s' := ⟨[(4, B false)], []⟩) (φ := True ∧ True) (by kernel_rfl) ⟨trivial, trivial⟩ ?_
                              refine VO.nil ?_
                              show VW _ _ _ _ _ _ _
                              refine VW.ret ?_
                              replace h := Option.some.inj h
                              subst h
                              exact retR [] (by kernel_rfl) rfl
                            · replace h := cond_f h hb; clear hb
                              refine VW.skip ?_
                              show VW _ _ _ _ _ _ _
                              refine VW.seq ?_
                              refine VW.region ?_
                              refine VO.seg T_ok .dp 1 [10, 14, 15] [0, 1, 2] (s' := ⟨[(10, .lf (.ptr 0 0 0 0)), (14, I y15.2.2), (15, I (1 : Int))], [bx [.v (.int .i64) y5.1.1, .hd 1 0 none, .hd 2 0 none] 24, ar 0 (.int .i64) y15.1 .dp, ar 0 (.int .i64) y15.2.1 .dp]⟩) (φ := True ∧ True) (by kernel_rfl) ⟨trivial, trivial⟩ ?_
                              refine VO.nil ?_
                              show VW _ _ _ _ _ _ _
                              refine VW.seq ?_
                              refine VW.region ?_
                              refine VO.seg T_ok .dp 2 [14, 114, 115] [1, 2] (s' := ⟨[(14, I y15.2.2), (114, .agg [.v (.int .i64) y5.1.1, .hd 0 0 none, .hd 1 0 none]), (115, I (1 : Int))], [ar 0 (.int .i64) y15.1 .dp, ar 0 (.int .i64) y15.2.1 .dp]⟩) (φ := True ∧ True ∧ True) (by kernel_rfl) ⟨trivial, trivial, trivial⟩ ?_
                              obtain ⟨y21, hy, h⟩ := andO_some h
                              refine VO.call true [.t Y23, .t (.int .i64)] [] T_ok (d := some 116) (by kernel_rfl) (ok18 N _ _ hy) rfl ?_
                              refine VO.seg T_ok .dp 1 [14, 15] [] (s' := ⟨[(14, I y15.2.2), (15, I y21)], []⟩) (φ := True ∧ True) (by kernel_rfl) ⟨trivial, trivial⟩ ?_
                              refine VO.nil ?_
                              show VW _ _ _ _ _ _ _
                              refine VW.seq ?_
                              refine VW.seq ?_
                              refine VW.region ?_
                              refine VO.seg T_ok .dp 2 [14, 15, 118] [] (s' := ⟨[(14, I y15.2.2), (15, I y21), (118, B (decide (y21 < (0 : Int))))], []⟩) (φ := True ∧ True ∧ True) (by kernel_rfl) ⟨trivial, trivial, trivial⟩ ?_
                              refine VO.nil ?_
                              show VW _ _ _ _ _ _ _
                              refine VW.cond (b := (decide (y21 < (0 : Int)))) (by kernel_rfl) (fun hb => ?_) (fun hb => ?_)
                              · replace h := cond_t h hb; clear hb
                                refine VW.seq ?_
                                refine VW.region ?_
                                refine VO.seg T_ok .dp 1 [4] [] (s' := ⟨[(4, B false)], []⟩) (φ := True ∧ True) (by kernel_rfl) ⟨trivial, trivial⟩ ?_
                                refine VO.nil ?_
                                show VW _ _ _ _ _ _ _
                                refine VW.ret ?_
                                replace h := Option.some.inj h
                                subst h
                                exact retR [] (by kernel_rfl) rfl
                              · replace h := cond_f h hb; clear hb
                                refine VW.skip ?_
                                show VW _ _ _ _ _ _ _
                                refine VW.seq ?_
                                refine VW.seq ?_
                                refine VW.region ?_
                                refine VO.seg T_ok .dp 3 [121] [] (s' := ⟨[(121, B (y21 != y15.2.2))], []⟩) (φ := True ∧ True ∧ True ∧ True) (by kernel_rfl) ⟨trivial, trivial, trivial, trivial⟩ ?_
                                refine VO.nil ?_
                                show VW _ _ _ _ _ _ _
                                refine VW.cond (b := (y21 != y15.2.2)) (by kernel_rfl) (fun hb => ?_) (fun hb => ?_)
                                · replace h := cond_t h hb; clear hb
                                  refine VW.seq ?_
                                  refine VW.region ?_
                                  refine VO.seg T_ok .dp 1 [4] [] (s' := ⟨[(4, B false)], []⟩) (φ := True ∧ True) (by kernel_rfl) ⟨trivial, trivial⟩ ?_
                                  refine VO.nil ?_
                                  show VW _ _ _ _ _ _ _
                                  refine VW.ret ?_
                                  replace h := Option.some.inj h
                                  subst h
                                  exact retR [] (by kernel_rfl) rfl
                                · replace h := cond_f h hb; clear hb
                                  refine VW.skip ?_
                                  show VW _ _ _ _ _ _ _
                                  refine VW.seq ?_
                                  refine VW.region ?_
                                  refine VO.seg T_ok .dp 1 [4] [] (s' := ⟨[(4, B true)], []⟩) (φ := True ∧ True) (by kernel_rfl) ⟨trivial, trivial⟩ ?_
                                  refine VO.nil ?_
                                  show VW _ _ _ _ _ _ _
                                  refine VW.ret ?_
                                  replace h := Option.some.inj h
                                  subst h
                                  exact retR [] (by kernel_rfl) rfl

end Go.Proofs.Ytcipgfjhodgncaa.Vc
