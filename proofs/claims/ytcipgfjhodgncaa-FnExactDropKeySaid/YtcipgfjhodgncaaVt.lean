/- What functions of the program compute, and that they do. -/
import Derived.Test.YtcipgfjhodgncaaVt0
namespace Go.Proofs.Ytcipgfjhodgncaa.Vc
open Go Go.RowKit
set_option linter.unusedVariables false
set_option maxRecDepth 100000
set_option maxHeartbeats 4000000
/- loop.example/g00844/laws.FnExactDropKey -/
def F8 (N : Nat) (a0 : (Int × ((List Int) × (List Int)))) (a1 : Int) : Option (Bool) :=
  andO (F19 N a0 (1048576 : Int)) fun y1 => cond (decide (y1 < (0 : Int))) (some true) (andO (F21 N a0) fun y2 => andO (F29 N y2 a1) fun y3 => andO (F21 N a0) fun y4 => andO (F30 N y4 a1) fun y5 => andO (F16 N y5.1 y3.1) fun y7 => cond (!y7) (some false) (cond (!(y5.2 == y3.2)) (some false) (andO (F21 N a0) fun y10 => andO (F16 N y4 y10) fun y11 => cond (!y11) (some false) (andO (F17 N y4 (1 : Int)) fun y12 => cond (decide (y12.2.2 < (0 : Int))) (some false) (andO (F16 N y5.1 y3.1) fun y14 => cond (!y14) (some false) (cond (!(y5.2 == y3.2)) (some false) (andO (F17 N y5.1 (1 : Int)) fun y15 => andO (F18 N (y5.1.1, (y15.1, y15.2.1)) (1 : Int)) fun y16 => cond (decide (y16 < (0 : Int))) (some false) (cond (y16 != y15.2.2) (some false) (andO (F21 N a0) fun y17 => andO (F30 N y17 a1) fun y18 => andO (F16 N y18.1 y3.1) fun y20 => cond (!y20) (some false) (cond (!(y18.2 == y3.2)) (some false) (andO (F18 N (y5.1.1, (y15.1, y15.2.1)) (1 : Int)) fun y21 => cond (decide (y21 < (0 : Int))) (some false) (cond (y21 != y15.2.2) (some false) (some true)))))))))))))
theorem ok8 (N : Nat) (a0 : (Int × ((List Int) × (List Int)))) (a1 : Int) {r : Bool} (h : F8 N a0 a1 = some r) : Con Go.Proofs.Try.prog 8 [.agg [.v (.int .i64) a0.1, .v (.sl (.int .i64)) a0.2.1, .v (.sl (.int .i64)) a0.2.2], I a1] [.lf (.v .bool r)] := by
  refine ⟨enters_of Go.Proofs.Try.func8 rfl (by decide), HC.intro [.lf (.v .bool)] T_ok Go.Proofs.Try.func8 rfl (Nat.le_of_ble_eq_true rfl) (Nat.le_of_ble_eq_true rfl) fun w0 E0 => ?_⟩
  unfold F8 at h
  show VW _ _ _ _ _ (retQ _ _ _ _) _
  refine VW.seq ?_
  refine VW.region ?_
  refine VO.seg T_ok .dp 2 [1, 2] [0] (s' := ⟨[(1, I a1), (2, .lf (.ptr 0 0 0 0))], [bx [.v (.int .i64) a0.1, .v (.sl (.int .i64)) a0.2.1, .v (.sl (.int .i64)) a0.2.2] 30]⟩) (φ := True ∧ True ∧ True) (by kernel_rfl) ⟨trivial, trivial, trivial⟩ ?_
  refine VO.nil ?_
  show VW _ _ _ _ _ _ _
  refine VW.seq ?_
  refine VW.region ?_
  refine VO.seg T_ok .dp 1 [1, 2, 5] [0] (s' := ⟨[(1, I a1), (2, .lf (.ptr 0 0 0 0)), (5, I (1048576 : Int))], [bx [.v (.int .i64) a0.1, .v (.sl (.int .i64)) a0.2.1, .v (.sl (.int .i64)) a0.2.2] 30]⟩) (φ := True ∧ True) (by kernel_rfl) ⟨trivial, trivial⟩ ?_
  refine VO.nil ?_
  show VW _ _ _ _ _ _ _
  refine VW.seq ?_
  refine VW.region ?_
  refine VO.seg T_ok .dp 2 [1, 2, 16, 17] [0] (s' := ⟨[(1, I a1), (2, .lf (.ptr 0 0 0 0)), (16, .agg [.v (.int .i64) a0.1, .v (.sl (.int .i64)) a0.2.1, .v (.sl (.int .i64)) a0.2.2]), (17, I (1048576 : Int))], [bx [.v (.int .i64) a0.1, .v (.sl (.int .i64)) a0.2.1, .v (.sl (.int .i64)) a0.2.2] 30]⟩) (φ := True ∧ True ∧ True) (by kernel_rfl) ⟨trivial, trivial, trivial⟩ ?_
  obtain ⟨y1, hy, h⟩ := andO_some h
  refine VO.call false [.t Y23, .t (.int .i64)] [] T_ok (d := some 18) (by kernel_rfl) (ok19 N _ _ hy) rfl ?_
  refine VO.seg T_ok .dp 1 [1, 2, 5] [0] (s' := ⟨[(1, I a1), (2, .lf (.ptr 0 0 0 0)), (5, I y1)], [bx [.v (.int .i64) a0.1, .v (.sl (.int .i64)) a0.2.1, .v (.sl (.int .i64)) a0.2.2] 30]⟩) (φ := True ∧ True) (by kernel_rfl) ⟨trivial, trivial⟩ ?_
  refine VO.nil ?_
  show VW _ _ _ _ _ _ _
  refine VW.seq ?_
  refine VW.seq ?_
  refine VW.region ?_
  refine VO.seg T_ok .dp 2 [1, 2, 20] [0] (s' := ⟨[(1, I a1), (2, .lf (.ptr 0 0 0 0)), (20, B (decide (y1 < (0 : Int))))], [bx [.v (.int .i64) a0.1, .v (.sl (.int .i64)) a0.2.1, .v (.sl (.int .i64)) a0.2.2] 30]⟩) (φ := True ∧ True ∧ True) (by kernel_rfl) ⟨trivial, trivial, trivial⟩ ?_
  refine VO.nil ?_
  show VW _ _ _ _ _ _ _
  refine VW.cond (b := (decide (y1 < (0 : Int)))) (by kernel_rfl) (fun hb => ?_) (fun hb => ?_)
  · replace h := cond_t h hb; clear hb
    refine VW.seq ?_
    refine VW.region ?_
    refine VO.seg T_ok .dp 1 [4] [] (s' := ⟨[(4, B true)], []⟩) (φ := True ∧ True) (by kernel_rfl) ⟨trivial, trivial⟩ ?_
    refine VO.nil ?_
    show VW _ _ _ _ _ _ _
    refine VW.ret ?_
    replace h := Option.some.inj h
    subst h
    exact retR [] (by kernel_rfl) rfl
  · replace h := cond_f h hb; clear hb
    refine VW.skip ?_
    show VW _ _ _ _ _ _ _
    refine VW.seq ?_
    refine VW.region ?_
    refine VO.seg T_ok .dp 1 [1, 2, 22] [0] (s' := ⟨[(1, I a1), (2, .lf (.ptr 0 0 0 0)), (22, .agg [.v (.int .i64) a0.1, .v (.sl (.int .i64)) a0.2.1, .v (.sl (.int .i64)) a0.2.2])], [bx [.v (.int .i64) a0.1, .v (.sl (.int .i64)) a0.2.1, .v (.sl (.int .i64)) a0.2.2] 30]⟩) (φ := True ∧ True) (by kernel_rfl) ⟨trivial, trivial⟩ ?_
    obtain ⟨y2, hy, h⟩ := andO_some h
    refine VO.call false [.t Y23] [] T_ok (d := some 23) (by kernel_rfl) (ok21 N _ hy) rfl ?_
    refine VO.seg T_ok .dp 1 [1, 2, 23, 24] [0, 1, 2] (s' := ⟨[(1, I a1), (2, .lf (.ptr 0 0 0 0)), (23, .agg [.v (.int .i64) y2.1, .hd 1 0 none, .hd 2 0 none]), (24, I a1)], [bx [.v (.int .i64) a0.1, .v (.sl (.int .i64)) a0.2.1, .v (.sl (.int .i64)) a0.2.2] 30, ar 0 (.int .i64) y2.2.1 .dp, ar 0 (.int .i64) y2.2.2 .dp]⟩) (φ := True ∧ True) (by kernel_rfl) ⟨trivial, trivial⟩ ?_
    obtain ⟨y3, hy, h⟩ := andO_some h
    refine VO.call true [.t Y23, .t (.int .i64)] [] T_ok (d := some 25) (by kernel_rfl) (ok29 N _ _ hy) rfl ?_
    refine VO.seg T_ok .dp 6 [1, 2, 6, 7] [0, 5, 3, 4] (s' := ⟨[(1, I a1), (2, .lf (.ptr 0 0 0 0)), (6, .lf (.ptr 1 0 0 0)), (7, B y3.2)], [bx [.v (.int .i64) a0.1, .v (.sl (.int .i64)) a0.2.1, .v (.sl (.int .i64)) a0.2.2] 30, bx [.v (.int .i64) y3.1.1, .hd 2 0 none, .hd 3 0 none] 24, ar 0 (.int .i64) y3.1.2.1 .dp, ar 0 (.int .i64) y3.1.2.2 .dp]⟩) (φ := True ∧ True ∧ True ∧ True ∧ True ∧ True ∧ True) (by kernel_rfl) ⟨trivial, trivial, trivial, trivial, trivial, trivial, trivial⟩ ?_
    refine VO.nil ?_
    show VW _ _ _ _ _ _ _
    refine VW.seq ?_
    refine VW.region ?_
    refine VO.seg T_ok .dp 1 [1, 2, 6, 7, 28] [0, 1, 2, 3] (s' := ⟨[(1, I a1), (2, .lf (.ptr 0 0 0 0)), (6, .lf (.ptr 1 0 0 0)), (7, B y3.2), (28, .agg [.v (.int .i64) a0.1, .v (.sl (.int .i64)) a0.2.1, .v (.sl (.int .i64)) a0.2.2])], [bx [.v (.int .i64) a0.1, .v (.sl (.int .i64)) a0.2.1, .v (.sl (.int .i64)) a0.2.2] 30, bx [.v (.int .i64) y3.1.1, .hd 2 0 none, .hd 3 0 none] 24, ar 0 (.int .i64) y3.1.2.1 .dp, ar 0 (.int .i64) y3.1.2.2 .dp]⟩) (φ := True ∧ True) (by kernel_rfl) ⟨trivial, trivial⟩ ?_
    obtain ⟨y4, hy, h⟩ := andO_some h
    refine VO.call false [.t Y23] [] T_ok (d := some 29) (by kernel_rfl) (ok21 N _ hy) rfl ?_
    refine VO.seg T_ok .dp 2 [1, 2, 6, 7, 8] [0, 1, 2, 3, 6, 4, 5] (s' := ⟨[(1, I a1), (2, .lf (.ptr 0 0 0 0)), (6, .lf (.ptr 1 0 0 0)), (7, B y3.2), (8, .lf (.ptr 4 0 0 0))], [bx [.v (.int .i64) a0.1, .v (.sl (.int .i64)) a0.2.1, .v (.sl (.int .i64)) a0.2.2] 30, bx [.v (.int .i64) y3.1.1, .hd 2 0 none, .hd 3 0 none] 24, ar 0 (.int .i64) y3.1.2.1 .dp, ar 0 (.int .i64) y3.1.2.2 .dp, bx [.v (.int .i64) y4.1, .hd 5 0 none, .hd 6 0 none] 24, ar 0 (.int .i64) y4.2.1 .dp, ar 0 (.int .i64) y4.2.2 .dp]⟩) (φ := True ∧ True ∧ True) (by kernel_rfl) ⟨trivial, trivial, trivial⟩ ?_
    refine VO.nil ?_
    show VW _ _ _ _ _ _ _
    refine VW.seq ?_
    refine VW.region ?_
    refine VO.seg T_ok .dp 2 [1, 2, 6, 7, 8, 31, 32] [0, 1, 2, 3, 4, 5, 6] (s' := ⟨[(1, I a1), (2, .lf (.ptr 0 0 0 0)), (6, .lf (.ptr 1 0 0 0)), (7, B y3.2), (8, .lf (.ptr 4 0 0 0)), (31, .agg [.v (.int .i64) y4.1, .hd 5 0 none, .hd 6 0 none]), (32, I a1)], [bx [.v (.int .i64) a0.1, .v (.sl (.int .i64)) a0.2.1, .v (.sl (.int .i64)) a0.2.2] 30, bx [.v (.int .i64) y3.1.1, .hd 2 0 none, .hd 3 0 none] 24, ar 0 (.int .i64) y3.1.2.1 .dp, ar 0 (.int .i64) y3.1.2.2 .dp, bx [.v (.int .i64) y4.1, .hd 5 0 none, .hd 6 0 none] 24, ar 0 (.int .i64) y4.2.1 .dp, ar 0 (.int .i64) y4.2.2 .dp]⟩) (φ := True ∧ True ∧ True) (by kernel_rfl) ⟨trivial, trivial, trivial⟩ ?_
    obtain ⟨y5, hy, h⟩ := andO_some h
    refine VO.call true [.t Y23, .t (.int .i64)] [] T_ok (d := some 33) (by kernel_rfl) (ok30 N _ _ hy) rfl ?_
    refine VO.seg T_ok .dp 6 [1, 2, 6, 7, 8, 9, 10] [0, 1, 2, 3, 4, 5, 6, 9, 7, 8] (s' := ⟨[(1, I a1), (2, .lf (.ptr 0 0 0 0)), (6, .lf (.ptr 1 0 0 0)), (7, B y3.2), (8, .lf (.ptr 4 0 0 0)), (9, .lf (.ptr 7 0 0 0)), (10, B y5.2)], [bx [.v (.int .i64) a0.1, .v (.sl (.int .i64)) a0.2.1, .v (.sl (.int .i64)) a0.2.2] 30, bx [.v (.int .i64) y3.1.1, .hd 2 0 none, .hd 3 0 none] 24, ar 0 (.int .i64) y3.1.2.1 .dp, ar 0 (.int .i64) y3.1.2.2 .dp, bx [.v (.int .i64) y4.1, .hd 5 0 none, .hd 6 0 none] 24, ar 0 (.int .i64) y4.2.1 .dp, ar 0 (.int .i64) y4.2.2 .dp, bx [.v (.int .i64) y5.1.1, .hd 8 0 none, .hd 9 0 none] 24, ar 0 (.int .i64) y5.1.2.1 .dp, ar 0 (.int .i64) y5.1.2.2 .dp]⟩) (φ := True ∧ True ∧ True ∧ True ∧ True ∧ True ∧ True) (by kernel_rfl) ⟨trivial, trivial, trivial, trivial, trivial, trivial, trivial⟩ ?_
    refine VO.nil ?_
    show VW _ _ _ _ _ _ _
    refine VW.seq ?_
    refine VW.seq ?_
    refine VW.region ?_
    refine VO.seg T_ok .dp 2 [1, 2, 6, 7, 8, 9, 10, 36, 37] [0, 1, 2, 3, 4, 5, 6, 7, 8, 9] (s' := ⟨[(1, I a1), (2, .lf (.ptr 0 0 0 0)), (6, .lf (.ptr 1 0 0 0)), (7, B y3.2), (8, .lf (.ptr 4 0 0 0)), (9, .lf (.ptr 7 0 0 0)), (10, B y5.2), (36, .agg [.v (.int .i64) y5.1.1, .hd 8 0 none, .hd 9 0 none]), (37, .agg [.v (.int .i64) y3.1.1, .hd 2 0 none, .hd 3 0 none])], [bx [.v (.int .i64) a0.1, .v (.sl (.int .i64)) a0.2.1, .v (.sl (.int .i64)) a0.2.2] 30, bx [.v (.int .i64) y3.1.1, .hd 2 0 none, .hd 3 0 none] 24, ar 0 (.int .i64) y3.1.2.1 .dp, ar 0 (.int .i64) y3.1.2.2 .dp, bx [.v (.int .i64) y4.1, .hd 5 0 none, .hd 6 0 none] 24, ar 0 (.int .i64) y4.2.1 .dp, ar 0 (.int .i64) y4.2.2 .dp, bx [.v (.int .i64) y5.1.1, .hd 8 0 none, .hd 9 0 none] 24, ar 0 (.int .i64) y5.1.2.1 .dp, ar 0 (.int .i64) y5.1.2.2 .dp]⟩) (φ := True ∧ True ∧ True) (by kernel_rfl) ⟨trivial, trivial, trivial⟩ ?_
    obtain ⟨y7, hy, h⟩ := andO_some h
    refine VO.call true [.t Y23, .t Y23] [] T_ok (d := some 38) (by kernel_rfl) (ok16 N _ _ hy) rfl ?_
    refine VO.seg T_ok .dp 2 [1, 2, 6, 7, 8, 9, 10, 40] [0, 1, 2, 3, 4, 5, 6, 7, 8, 9] (s' := ⟨[(1, I a1), (2, .lf (.ptr 0 0 0 0)), (6, .lf (.ptr 1 0 0 0)), (7, B y3.2), (8, .lf (.ptr 4 0 0 0)), (9, .lf (.ptr 7 0 0 0)), (10, B y5.2), (40, B (!y7))], [bx [.v (.int .i64) a0.1, .v (.sl (.int .i64)) a0.2.1, .v (.sl (.int .i64)) a0.2.2] 30, bx [.v (.int .i64) y3.1.1, .hd 2 0 none, .hd 3 0 none] 24, ar 0 (.int .i64) y3.1.2.1 .dp, ar 0 (.int .i64) y3.1.2.2 .dp, bx [.v (.int .i64) y4.1, .hd 5 0 none, .hd 6 0 none] 24, ar 0 (.int .i64) y4.2.1 .dp, ar 0 (.int .i64) y4.2.2 .dp, bx [.v (.int .i64) y5.1.1, .hd 8 0 none, .hd 9 0 none] 24, ar 0 (.int .i64) y5.1.2.1 .dp, ar 0 (.int .i64) y5.1.2.2 .dp]⟩) (φ := True ∧ True ∧ True) (by kernel_rfl) ⟨trivial, trivial, trivial⟩ ?_
    refine VO.splitB 40 (b := (!y7)) (by kernel_rfl) (fun hb => ?_) (fun hb => ?_)
    · replace h := cond_t h hb; clear hb
      refine VO.seg T_ok .dp 4 [1, 2, 6, 7, 8, 9, 10, 44] [0, 1, 2, 3, 4, 5, 6, 7, 8, 9] (s' := ⟨[(1, I a1), (2, .lf (.ptr 0 0 0 0)), (6, .lf (.ptr 1 0 0 0)), (7, B y3.2), (8, .lf (.ptr 4 0 0 0)), (9, .lf (.ptr 7 0 0 0)), (10, B y5.2), (44, B true)], [bx [.v (.int .i64) a0.1, .v (.sl (.int .i64)) a0.2.1, .v (.sl (.int .i64)) a0.2.2] 30, bx [.v (.int .i64) y3.1.1, .hd 2 0 none, .hd 3 0 none] 24, ar 0 (.int .i64) y3.1.2.1 .dp, ar 0 (.int .i64) y3.1.2.2 .dp, bx [.v (.int .i64) y4.1, .hd 5 0 none, .hd 6 0 none] 24, ar 0 (.int .i64) y4.2.1 .dp, ar 0 (.int .i64) y4.2.2 .dp, bx [.v (.int .i64) y5.1.1, .hd 8 0 none, .hd 9 0 none] 24, ar 0 (.int .i64) y5.1.2.1 .dp, ar 0 (.int .i64) y5.1.2.2 .dp]⟩) (φ := True ∧ True ∧ True ∧ True ∧ True) (by kernel_rfl) ⟨trivial, trivial, trivial, trivial, trivial⟩ ?_
      refine VO.nil ?_
      show VW _ _ _ _ _ _ _
      refine VW.cond (b := true) (by kernel_rfl) (fun _ => ?_) (fun h' => nomatch h')
      refine VW.seq ?_
      refine VW.region ?_
      refine VO.seg T_ok .dp 1 [4] [] (s' := ⟨[(4, B false)], []⟩) (φ := True ∧ True) (by kernel_rfl) ⟨trivial, trivial⟩ ?_
      refine VO.nil ?_
      show VW _ _ _ _ _ _ _
      refine VW.ret ?_
      replace h := Option.some.inj h
      subst h
      exact retR [] (by kernel_rfl) rfl
    · replace h := cond_f h hb; clear hb
      refine VO.seg T_ok .dp 4 [1, 2, 6, 7, 8, 9, 10, 44] [0, 1, 2, 3, 4, 5, 6, 7, 8, 9] (s' := ⟨[(1, I a1), (2, .lf (.ptr 0 0 0 0)), (6, .lf (.ptr 1 0 0 0)), (7, B y3.2), (8, .lf (.ptr 4 0 0 0)), (9, .lf (.ptr 7 0 0 0)), (10, B y5.2), (44, B (!(y5.2 == y3.2)))], [bx [.v (.int .i64) a0.1, .v (.sl (.int .i64)) a0.2.1, .v (.sl (.int .i64)) a0.2.2] 30, bx [.v (.int .i64) y3.1.1, .hd 2 0 none, .hd 3 0 none] 24, ar 0 (.int .i64) y3.1.2.1 .dp, ar 0 (.int .i64) y3.1.2.2 .dp, bx [.v (.int .i64) y4.1, .hd 5 0 none, .hd 6 0 none] 24, ar 0 (.int .i64) y4.2.1 .dp, ar 0 (.int .i64) y4.2.2 .dp, bx [.v (.int .i64) y5.1.1, .hd 8 0 none, .hd 9 0 none] 24, ar 0 (.int .i64) y5.1.2.1 .dp, ar 0 (.int .i64) y5.1.2.2 .dp]⟩) (φ := True ∧ True ∧ True ∧ True ∧ True) (by kernel_rfl) ⟨trivial, trivial, trivial, trivial, trivial⟩ ?_
      refine VO.nil ?_
      show VW _ _ _ _ _ _ _
      refine VW.cond (b := (!(y5.2 == y3.2))) (by kernel_rfl) (fun hb => ?_) (fun hb => ?_)
      · replace h := cond_t h hb; clear hb
        refine VW.seq ?_
        refine VW.region ?_
        refine VO.seg T_ok .dp 1 [4] [] (s' := ⟨[(4, B false)], []⟩) (φ := True ∧ True) (by kernel_rfl) ⟨trivial, trivial⟩ ?_
        refine VO.nil ?_
        show VW _ _ _ _ _ _ _
        refine VW.ret ?_
        replace h := Option.some.inj h
        subst h
        exact retR [] (by kernel_rfl) rfl
      · replace h := cond_f h hb; clear hb
        refine VW.skip ?_
        show VW _ _ _ _ _ _ _
        refine VW.seq ?_
        refine VW.seq ?_
        obtain ⟨y10, hy10, h⟩ := andO_some h
        obtain ⟨y11, hy11, h⟩ := andO_some h
        refine VW.drawn (by kernel_rfl) [some (45, .agg [.v (.int .i64) y4.1, .hd 5 0 none, .hd 6 0 none]), some (46, .agg [.v (.int .i64) a0.1, .v (.sl (.int .i64)) a0.2.1, .v (.sl (.int .i64)) a0.2.2]), some (47, .agg [.v (.int .i64) y10.1, .hd 10 0 none, .hd 11 0 none]), some (48, B y11), some (49, B (!y11))] [2] [[bx [.v (.int .i64) a0.1, .v (.sl (.int .i64)) a0.2.1, .v (.sl (.int .i64)) a0.2.2] 30, bx [.v (.int .i64) y3.1.1, .hd 2 0 none, .hd 3 0 none] 24, ar 0 (.int .i64) y3.1.2.1 .dp, ar 0 (.int .i64) y3.1.2.2 .dp, bx [.v (.int .i64) y4.1, .hd 5 0 none, .hd 6 0 none] 24, ar 0 (.int .i64) y4.2.1 .dp, ar 0 (.int .i64) y4.2.2 .dp, bx [.v (.int .i64) y5.1.1, .hd 8 0 none, .hd 9 0 none] 24, ar 0 (.int .i64) y5.1.2.1 .dp, ar 0 (.int .i64) y5.1.2.2 .dp], [bx [.v (.int .i64) a0.1, .v (.sl (.int .i64)) a0.2.1, .v (.sl (.int .i64)) a0.2.2] 30, bx [.v (.int .i64) y3.1.1, .hd 2 0 none, .hd 3 0 none] 24, ar 0 (.int .i64) y3.1.2.1 .dp, ar 0 (.int .i64) y3.1.2.2 .dp, bx [.v (.int .i64) y4.1, .hd 5 0 none, .hd 6 0 none] 24, ar 0 (.int .i64) y4.2.1 .dp, ar 0 (.int .i64) y4.2.2 .dp, bx [.v (.int .i64) y5.1.1, .hd 8 0 none, .hd 9 0 none] 24, ar 0 (.int .i64) y5.1.2.1 .dp, ar 0 (.int .i64) y5.1.2.2 .dp, ar 0 (.int .i64) y10.2.1 .dp, ar 0 (.int .i64) y10.2.2 .dp]] [(0, 0), (0, 1), (1, 0), (2, 0), (3, 1), (4, 0), (4, 1)] [1, 2, 6, 7, 8, 9, 10, 49] [0, 1, 2, 3, 4, 5, 6, 7, 8, 9] (s' := ⟨[(1, I a1), (2, .lf (.ptr 0 0 0 0)), (6, .lf (.ptr 1 0 0 0)), (7, B y3.2), (8, .lf (.ptr 4 0 0 0)), (9, .lf (.ptr 7 0 0 0)), (10, B y5.2), (49, B (!y11))], [bx [.v (.int .i64) a0.1, .v (.sl (.int .i64)) a0.2.1, .v (.sl (.int .i64)) a0.2.2] 30, bx [.v (.int .i64) y3.1.1, .hd 2 0 none, .hd 3 0 none] 24, ar 0 (.int .i64) y3.1.2.1 .dp, ar 0 (.int .i64) y3.1.2.2 .dp, bx [.v (.int .i64) y4.1, .hd 5 0 none, .hd 6 0 none] 24, ar 0 (.int .i64) y4.2.1 .dp, ar 0 (.int .i64) y4.2.2 .dp, bx [.v (.int .i64) y5.1.1, .hd 8 0 none, .hd 9 0 none] 24, ar 0 (.int .i64) y5.1.2.1 .dp, ar 0 (.int .i64) y5.1.2.2 .dp]⟩) (by kernel_rfl) (by kernel_rfl) ⟨⟨_, rfl, Stp.ev T_ok (m := .dp) (φ := True) (by kernel_rfl) trivial⟩,
    ⟨_, rfl, Stp.ev T_ok (m := .dp) (φ := True) (by kernel_rfl) trivial⟩,
    ⟨_, rfl, Stp.ev T_ok (m := .dp) (φ := True) (by kernel_rfl) trivial⟩,
    ⟨_, rfl, Stp.eq (Stp.call false [.t Y23] [] T_ok (d := some 47) (by kernel_rfl) (ok21 N _ hy10) rfl) (by kernel_rfl) (by kernel_rfl)⟩,
    ⟨_, rfl, Stp.eq (Stp.call true [.t Y23, .t Y23] [] T_ok (d := some 48) (by kernel_rfl) (ok16 N _ _ hy11) rfl) (by kernel_rfl) (by kernel_rfl)⟩,
    ⟨_, rfl, Stp.ev T_ok (m := .dp) (φ := True) (by kernel_rfl) trivial⟩,
    ⟨_, rfl, Stp.ev T_ok (m := .dp) (φ := True) (by kernel_rfl) trivial⟩, trivial⟩ (by kernel_rfl) ?_
        show VW _ _ _ _ _ _ _
        refine VW.cond (b := (!y11)) (by kernel_rfl) (fun hb => ?_) (fun hb => ?_)
        · replace h := cond_t h hb; clear hb
          refine VW.seq ?_
          refine VW.region ?_
          refine VO.seg T_ok .dp 1 [4] [] (s' := ⟨[(4, B false)], []⟩) (φ := True ∧ True) (by kernel_rfl) ⟨trivial, trivial⟩ ?_
          refine VO.nil ?_
          show VW _ _ _ _ _ _ _
          refine VW.ret ?_
          replace h := Option.some.inj h
          subst h
          exact retR [] (by kernel_rfl) rfl
        · replace h := cond_f h hb; clear hb
          refine VW.skip ?_
          show VW _ _ _ _ _ _ _
          refine VW.seq ?_
          refine VW.region ?_
          refine VO.seg T_ok .dp 1 [1, 2, 6, 7, 8, 9, 10, 11] [0, 1, 2, 3, 4, 5, 6, 7, 8, 9] (s' := ⟨[(1, I a1), (2, .lf (.ptr 0 0 0 0)), (6, .lf (.ptr 1 0 0 0)), (7, B y3.2), (8, .lf (.ptr 4 0 0 0)), (9, .lf (.ptr 7 0 0 0)), (10, B y5.2), (11, I (1 : Int))], [bx [.v (.int .i64) a0.1, .v (.sl (.int .i64)) a0.2.1, .v (.sl (.int .i64)) a0.2.2] 30, bx [.v (.int .i64) y3.1.1, .hd 2 0 none, .hd 3 0 none] 24, ar 0 (.int .i64) y3.1.2.1 .dp, ar 0 (.int .i64) y3.1.2.2 .dp, bx [.v (.int .i64) y4.1, .hd 5 0 none, .hd 6 0 none] 24, ar 0 (.int .i64) y4.2.1 .dp, ar 0 (.int .i64) y4.2.2 .dp, bx [.v (.int .i64) y5.1.1, .hd 8 0 none, .hd 9 0 none] 24, ar 0 (.int .i64) y5.1.2.1 .dp, ar 0 (.int .i64) y5.1.2.2 .dp]⟩) (φ := True ∧ True) (by kernel_rfl) ⟨trivial, trivial⟩ ?_
          refine VO.nil ?_
          show VW _ _ _ _ _ _ _
          refine VW.seq ?_
          refine VW.region ?_
          refine VO.seg T_ok .dp 2 [1, 2, 6, 7, 9, 10, 50, 51] [0, 1, 2, 3, 7, 8, 9, 5, 6] (s' := ⟨[(1, I a1), (2, .lf (.ptr 0 0 0 0)), (6, .lf (.ptr 1 0 0 0)), (7, B y3.2), (9, .lf (.ptr 4 0 0 0)), (10, B y5.2), (50, .agg [.v (.int .i64) y4.1, .hd 7 0 none, .hd 8 0 none]), (51, I (1 : Int))], [bx [.v (.int .i64) a0.1, .v (.sl (.int .i64)) a0.2.1, .v (.sl (.int .i64)) a0.2.2] 30, bx [.v (.int .i64) y3.1.1, .hd 2 0 none, .hd 3 0 none] 24, ar 0 (.int .i64) y3.1.2.1 .dp, ar 0 (.int .i64) y3.1.2.2 .dp, bx [.v (.int .i64) y5.1.1, .hd 5 0 none, .hd 6 0 none] 24, ar 0 (.int .i64) y5.1.2.1 .dp, ar 0 (.int .i64) y5.1.2.2 .dp, ar 0 (.int .i64) y4.2.1 .dp, ar 0 (.int .i64) y4.2.2 .dp]⟩) (φ := True ∧ True ∧ True) (by kernel_rfl) ⟨trivial, trivial, trivial⟩ ?_
          obtain ⟨y12, hy, h⟩ := andO_some h
          refine VO.callM [7, 8] [.t Y23, .t (.int .i64)] (d := some 52) (by kernel_rfl) (by kernel_rfl) (ok17 N _ _ hy) (by kernel_rfl) ?_
          refine VO.seg T_ok .dp 1 [1, 2, 6, 7, 9, 10, 11] [0, 1, 2, 3, 4, 5, 6] (s' := ⟨[(1, I a1), (2, .lf (.ptr 0 0 0 0)), (6, .lf (.ptr 1 0 0 0)), (7, B y3.2), (9, .lf (.ptr 4 0 0 0)), (10, B y5.2), (11, I y12.2.2)], [bx [.v (.int .i64) a0.1, .v (.sl (.int .i64)) a0.2.1, .v (.sl (.int .i64)) a0.2.2] 30, bx [.v (.int .i64) y3.1.1, .hd 2 0 none, .hd 3 0 none] 24, ar 0 (.int .i64) y3.1.2.1 .dp, ar 0 (.int .i64) y3.1.2.2 .dp, bx [.v (.int .i64) y5.1.1, .hd 5 0 none, .hd 6 0 none] 24, ar 0 (.int .i64) y5.1.2.1 .dp, ar 0 (.int .i64) y5.1.2.2 .dp]⟩) (φ := True ∧ True) (by kernel_rfl) ⟨trivial, trivial⟩ ?_
          refine VO.nil ?_
          show VW _ _ _ _ _ _ _
          refine VW.seq ?_
          refine VW.seq ?_
          refine VW.region ?_
          refine VO.seg T_ok .dp 3 [1, 2, 6, 7, 9, 10, 55] [0, 1, 2, 3, 4, 5, 6] (s' := ⟨[(1, I a1), (2, .lf (.ptr 0 0 0 0)), (6, .lf (.ptr 1 0 0 0)), (7, B y3.2), (9, .lf (.ptr 4 0 0 0)), (10, B y5.2), (55, B (decide (y12.2.2 < (0 : Int))))], [bx [.v (.int .i64) a0.1, .v (.sl (.int .i64)) a0.2.1, .v (.sl (.int .i64)) a0.2.2] 30, bx [.v (.int .i64) y3.1.1, .hd 2 0 none, .hd 3 0 none] 24, ar 0 (.int .i64) y3.1.2.1 .dp, ar 0 (.int .i64) y3.1.2.2 .dp, bx [.v (.int .i64) y5.1.1, .hd 5 0 none, .hd 6 0 none] 24, ar 0 (.int .i64) y5.1.2.1 .dp, ar 0 (.int .i64) y5.1.2.2 .dp]⟩) (φ := True ∧ True ∧ True ∧ True) (by kernel_rfl) ⟨trivial, trivial, trivial, trivial⟩ ?_
          refine VO.splitB 55 (b := (decide (y12.2.2 < (0 : Int)))) (by kernel_rfl) (fun hb => ?_) (fun hb => ?_)
          · replace h := cond_t h hb; clear hb
            refine VO.seg T_ok .dp 10 [1, 2, 6, 7, 9, 65] [0, 1, 2, 3, 4, 5, 6] (s' := ⟨[(1, I a1), (2, .lf (.ptr 0 0 0 0)), (6, .lf (.ptr 1 0 0 0)), (7, B y3.2), (9, .lf (.ptr 4 0 0 0)), (65, B true)], [bx [.v (.int .i64) a0.1, .v (.sl (.int .i64)) a0.2.1, .v (.sl (.int .i64)) a0.2.2] 30, bx [.v (.int .i64) y3.1.1, .hd 2 0 none, .hd 3 0 none] 24, ar 0 (.int .i64) y3.1.2.1 .dp, ar 0 (.int .i64) y3.1.2.2 .dp, bx [.v (.int .i64) y5.1.1, .hd 5 0 none, .hd 6 0 none] 24, ar 0 (.int .i64) y5.1.2.1 .dp, ar 0 (.int .i64) y5.1.2.2 .dp]⟩) (φ := True ∧ True ∧ True ∧ True ∧ True ∧ True ∧ True ∧ True ∧ True ∧ True ∧ True) (by kernel_rfl) ⟨trivial, trivial, trivial, trivial, trivial, trivial, trivial, trivial, trivial, trivial, trivial⟩ ?_
            refine VO.nil ?_
            show VW _ _ _ _ _ _ _
            refine VW.cond (b := true) (by kernel_rfl) (fun _ => ?_) (fun h' => nomatch h')
            refine VW.seq ?_
            refine VW.region ?_
            refine VO.seg T_ok .dp 1 [4] [] (s' := ⟨[(4, B false)], []⟩) (φ := True ∧ True) (by kernel_rfl) ⟨trivial, trivial⟩ ?_
            refine VO.nil ?_
            show VW _ _ _ _ _ _ _
            refine VW.ret ?_
            replace h := Option.some.inj h
            subst h
            exact retR [] (by kernel_rfl) rfl
          · replace h := cond_f h hb; clear hb
            refine VO.seg T_ok .dp 2 [1, 2, 6, 7, 9, 10, 55, 56, 57] [0, 1, 2, 3, 4, 5, 6] (s' := ⟨[(1, I a1), (2, .lf (.ptr 0 0 0 0)), (6, .lf (.ptr 1 0 0 0)), (7, B y3.2), (9, .lf (.ptr 4 0 0 0)), (10, B y5.2), (55, B false), (56, .agg [.v (.int .i64) y5.1.1, .hd 5 0 none, .hd 6 0 none]), (57, .agg [.v (.int .i64) y3.1.1, .hd 2 0 none, .hd 3 0 none])], [bx [.v (.int .i64) a0.1, .v (.sl (.int .i64)) a0.2.1, .v (.sl (.int .i64)) a0.2.2] 30, bx [.v (.int .i64) y3.1.1, .hd 2 0 none, .hd 3 0 none] 24, ar 0 (.int .i64) y3.1.2.1 .dp, ar 0 (.int .i64) y3.1.2.2 .dp, bx [.v (.int .i64) y5.1.1, .hd 5 0 none, .hd 6 0 none] 24, ar 0 (.int .i64) y5.1.2.1 .dp, ar 0 (.int .i64) y5.1.2.2 .dp]⟩) (φ := True ∧ True ∧ True) (by kernel_rfl) ⟨trivial, trivial, trivial⟩ ?_
            refine VO.on (j := 2) (want := false) (d := 55) (b := false) rfl rfl rfl (by kernel_rfl) rfl ?_
            obtain ⟨y14, hy, h⟩ := andO_some h
            refine VO.call true [.t Y23, .t Y23] [] T_ok (d := some 58) (by kernel_rfl) (ok16 N _ _ hy) rfl ?_
            refine VO.seg T_ok .dp 3 [1, 2, 6, 7, 9, 10, 61] [0, 1, 2, 3, 4, 5, 6] (s' := ⟨[(1, I a1), (2, .lf (.ptr 0 0 0 0)), (6, .lf (.ptr 1 0 0 0)), (7, B y3.2), (9, .lf (.ptr 4 0 0 0)), (10, B y5.2), (61, B (!y14))], [bx [.v (.int .i64) a0.1, .v (.sl (.int .i64)) a0.2.1, .v (.sl (.int .i64)) a0.2.2] 30, bx [.v (.int .i64) y3.1.1, .hd 2 0 none, .hd 3 0 none] 24, ar 0 (.int .i64) y3.1.2.1 .dp, ar 0 (.int .i64) y3.1.2.2 .dp, bx [.v (.int .i64) y5.1.1, .hd 5 0 none, .hd 6 0 none] 24, ar 0 (.int .i64) y5.1.2.1 .dp, ar 0 (.int .i64) y5.1.2.2 .dp]⟩) (φ := True ∧ True ∧ True ∧ True) (by kernel_rfl) ⟨trivial, trivial, trivial, trivial⟩ ?_
            refine VO.splitB 61 (b := (!y14)) (by kernel_rfl) (fun hb => ?_) (fun hb => ?_)
            · replace h := cond_t h hb; clear hb
              refine VO.seg T_ok .dp 4 [1, 2, 6, 7, 9, 65] [0, 1, 2, 3, 4, 5, 6] (s' := ⟨[(1, I a1), (2, .lf (.ptr 0 0 0 0)), (6, .lf (.ptr 1 0 0 0)), (7, B y3.2), (9, .lf (.ptr 4 0 0 0)), (65, B true)], [bx [.v (.int .i64) a0.1, .v (.sl (.int .i64)) a0.2.1, .v (.sl (.int .i64)) a0.2.2] 30, bx [.v (.int .i64) y3.1.1, .hd 2 0 none, .hd 3 0 none] 24, ar 0 (.int .i64) y3.1.2.1 .dp, ar 0 (.int .i64) y3.1.2.2 .dp, bx [.v (.int .i64) y5.1.1, .hd 5 0 none, .hd 6 0 none] 24, ar 0 (.int .i64) y5.1.2.1 .dp, ar 0 (.int .i64) y5.1.2.2 .dp]⟩) (φ := True ∧ True ∧ True ∧ True ∧ True) (by kernel_rfl) ⟨trivial, trivial, trivial, trivial, trivial⟩ ?_
              refine VO.nil ?_
              show VW _ _ _ _ _ _ _
              refine VW.cond (b := true) (by kernel_rfl) (fun _ => ?_) (fun h' => nomatch h')
              refine VW.seq ?_
              refine VW.region ?_
              refine VO.seg T_ok .dp 1 [4] [] (s' := ⟨[(4, B false)], []⟩) (φ := True ∧ True) (by kernel_rfl) ⟨trivial, trivial⟩ ?_
              refine VO.nil ?_
              show VW _ _ _ _ _ _ _
              refine VW.ret ?_
              replace h := Option.some.inj h
              subst h
              exact retR [] (by kernel_rfl) rfl
            · replace h := cond_f h hb; clear hb
              refine VO.seg T_ok .dp 4 [1, 2, 6, 7, 9, 65] [0, 1, 2, 3, 4, 5, 6] (s' := ⟨[(1, I a1), (2, .lf (.ptr 0 0 0 0)), (6, .lf (.ptr 1 0 0 0)), (7, B y3.2), (9, .lf (.ptr 4 0 0 0)), (65, B (!(y5.2 == y3.2)))], [bx [.v (.int .i64) a0.1, .v (.sl (.int .i64)) a0.2.1, .v (.sl (.int .i64)) a0.2.2] 30, bx [.v (.int .i64) y3.1.1, .hd 2 0 none, .hd 3 0 none] 24, ar 0 (.int .i64) y3.1.2.1 .dp, ar 0 (.int .i64) y3.1.2.2 .dp, bx [.v (.int .i64) y5.1.1, .hd 5 0 none, .hd 6 0 none] 24, ar 0 (.int .i64) y5.1.2.1 .dp, ar 0 (.int .i64) y5.1.2.2 .dp]⟩) (φ := True ∧ True ∧ True ∧ True ∧ True) (by kernel_rfl) ⟨trivial, trivial, trivial, trivial, trivial⟩ ?_
              refine VO.nil ?_
              show VW _ _ _ _ _ _ _
              refine VW.cond (b := (!(y5.2 == y3.2))) (by kernel_rfl) (fun hb => ?_) (fun hb => ?_)
              · replace h := cond_t h hb; clear hb
                refine VW.seq ?_
                refine VW.region ?_
                refine VO.seg T_ok .dp 1 [4] [] (s' := ⟨[(4, B false)], []⟩) (φ := True ∧ True) (by kernel_rfl) ⟨trivial, trivial⟩ ?_
                refine VO.nil ?_
                show VW _ _ _ _ _ _ _
                refine VW.ret ?_
                replace h := Option.some.inj h
                subst h
                exact retR [] (by kernel_rfl) rfl
              · replace h := cond_f h hb; clear hb
                refine VW.skip ?_
                show VW _ _ _ _ _ _ _
                refine VW.seq ?_
                refine VW.region ?_
                refine VO.seg T_ok .dp 1 [1, 2, 6, 7, 9, 12] [0, 1, 2, 3, 4, 5, 6] (s' := ⟨[(1, I a1), (2, .lf (.ptr 0 0 0 0)), (6, .lf (.ptr 1 0 0 0)), (7, B y3.2), (9, .lf (.ptr 4 0 0 0)), (12, I (1 : Int))], [bx [.v (.int .i64) a0.1, .v (.sl (.int .i64)) a0.2.1, .v (.sl (.int .i64)) a0.2.2] 30, bx [.v (.int .i64) y3.1.1, .hd 2 0 none, .hd 3 0 none] 24, ar 0 (.int .i64) y3.1.2.1 .dp, ar 0 (.int .i64) y3.1.2.2 .dp, bx [.v (.int .i64) y5.1.1, .hd 5 0 none, .hd 6 0 none] 24, ar 0 (.int .i64) y5.1.2.1 .dp, ar 0 (.int .i64) y5.1.2.2 .dp]⟩) (φ := True ∧ True) (by kernel_rfl) ⟨trivial, trivial⟩ ?_
                refine VO.nil ?_
                show VW _ _ _ _ _ _ _
                refine VW.seq ?_
                refine VW.region ?_
                refine VO.seg T_ok .dp 2 [1, 2, 6, 7, 9, 66, 67] [0, 1, 2, 3, 4, 5, 6] (s' := ⟨[(1, I a1), (2, .lf (.ptr 0 0 0 0)), (6, .lf (.ptr 1 0 0 0)), (7, B y3.2), (9, .lf (.ptr 4 0 0 0)), (66, .agg [.v (.int .i64) y5.1.1, .hd 5 0 none, .hd 6 0 none]), (67, I (1 : Int))], [bx [.v (.int .i64) a0.1, .v (.sl (.int .i64)) a0.2.1, .v (.sl (.int .i64)) a0.2.2] 30, bx [.v (.int .i64) y3.1.1, .hd 2 0 none, .hd 3 0 none] 24, ar 0 (.int .i64) y3.1.2.1 .dp, ar 0 (.int .i64) y3.1.2.2 .dp, bx [.v (.int .i64) y5.1.1, .hd 5 0 none, .hd 6 0 none] 24, ar 0 (.int .i64) y5.1.2.1 .dp, ar 0 (.int .i64) y5.1.2.2 .dp]⟩) (φ := True ∧ True ∧ True) (by kernel_rfl) ⟨trivial, trivial, trivial⟩ ?_
                obtain ⟨y15, hy, h⟩ := andO_some h
                refine VO.callM [5, 6] [.t Y23, .t (.int .i64)] (d := some 68) (by kernel_rfl) (by kernel_rfl) (ok17 N _ _ hy) (by kernel_rfl) ?_
                refine VO.seg T_ok .dp 1 [1, 2, 6, 7, 9, 12] [0, 1, 2, 3, 4, 5, 6] (s' := ⟨[(1, I a1), (2, .lf (.ptr 0 0 0 0)), (6, .lf (.ptr 1 0 0 0)), (7, B y3.2), (9, .lf (.ptr 4 0 0 0)), (12, I y15.2.2)], [bx [.v (.int .i64) a0.1, .v (.sl (.int .i64)) a0.2.1, .v (.sl (.int .i64)) a0.2.2] 30, bx [.v (.int .i64) y3.1.1, .hd 2 0 none, .hd 3 0 none] 24, ar 0 (.int .i64) y3.1.2.1 .dp, ar 0 (.int .i64) y3.1.2.2 .dp, bx [.v (.int .i64) y5.1.1, .hd 5 0 none, .hd 6 0 none] 24, ar 0 (.int .i64) y15.1 .dp, ar 0 (.int .i64) y15.2.1 .dp]⟩) (φ := True ∧ True) (by kernel_rfl) ⟨trivial, trivial⟩ ?_
                refine VO.nil ?_
                show VW _ _ _ _ _ _ _
                refine VW.seq ?_
                refine VW.region ?_
                refine VO.seg T_ok .dp 1 [1, 2, 6, 7, 9, 12, 13] [0, 1, 2, 3, 4, 5, 6] (s' := ⟨[(1, I a1), (2, .lf (.ptr 0 0 0 0)), (6, .lf (.ptr 1 0 0 0)), (7, B y3.2), (9, .lf (.ptr 4 0 0 0)), (12, I y15.2.2), (13, I (1 : Int))], [bx [.v (.int .i64) a0.1, .v (.sl (.int .i64)) a0.2.1, .v (.sl (.int .i64)) a0.2.2] 30, bx [.v (.int .i64) y3.1.1, .hd 2 0 none, .hd 3 0 none] 24, ar 0 (.int .i64) y3.1.2.1 .dp, ar 0 (.int .i64) y3.1.2.2 .dp, bx [.v (.int .i64) y5.1.1, .hd 5 0 none, .hd 6 0 none] 24, ar 0 (.int .i64) y15.1 .dp, ar 0 (.int .i64) y15.2.1 .dp]⟩) (φ := True ∧ True) (by kernel_rfl) ⟨trivial, trivial⟩ ?_
                refine VO.nil ?_
                show VW _ _ _ _ _ _ _
                refine VW.seq ?_
                refine VW.region ?_
                refine VO.seg T_ok .dp 2 [1, 2, 6, 7, 9, 12, 69, 70] [0, 1, 2, 3, 4, 5, 6] (s' := ⟨[(1, I a1), (2, .lf (.ptr 0 0 0 0)), (6, .lf (.ptr 1 0 0 0)), (7, B y3.2), (9, .lf (.ptr 4 0 0 0)), (12, I y15.2.2), (69, .agg [.v (.int .i64) y5.1.1, .hd 5 0 none, .hd 6 0 none]), (70, I (1 : Int))], [bx [.v (.int .i64) a0.1, .v (.sl (.int .i64)) a0.2.1, .v (.sl (.int .i64)) a0.2.2] 30, bx [.v (.int .i64) y3.1.1, .hd 2 0 none, .hd 3 0 none] 24, ar 0 (.int .i64) y3.1.2.1 .dp, ar 0 (.int .i64) y3.1.2.2 .dp, bx [.v (.int .i64) y5.1.1, .hd 5 0 none, .hd 6 0 none] 24, ar 0 (.int .i64) y15.1 .dp, ar 0 (.int .i64) y15.2.1 .dp]⟩) (φ := True ∧ True ∧ True) (by kernel_rfl) ⟨trivial, trivial, trivial⟩ ?_
                obtain ⟨y16, hy, h⟩ := andO_some h
                refine VO.call true [.t Y23, .t (.int .i64)] [] T_ok (d := some 71) (by kernel_rfl) (ok18 N _ _ hy) rfl ?_
                refine VO.seg T_ok .dp 1 [1, 2, 6, 7, 9, 12, 13] [0, 1, 2, 3, 4, 5, 6] (s' := ⟨[(1, I a1), (2, .lf (.ptr 0 0 0 0)), (6, .lf (.ptr 1 0 0 0)), (7, B y3.2), (9, .lf (.ptr 4 0 0 0)), (12, I y15.2.2), (13, I y16)], [bx [.v (.int .i64) a0.1, .v (.sl (.int .i64)) a0.2.1, .v (.sl (.int .i64)) a0.2.2] 30, bx [.v (.int .i64) y3.1.1, .hd 2 0 none, .hd 3 0 none] 24, ar 0 (.int .i64) y3.1.2.1 .dp, ar 0 (.int .i64) y3.1.2.2 .dp, bx [.v (.int .i64) y5.1.1, .hd 5 0 none, .hd 6 0 none] 24, ar 0 (.int .i64) y15.1 .dp, ar 0 (.int .i64) y15.2.1 .dp]⟩) (φ := True ∧ True) (by kernel_rfl) ⟨trivial, trivial⟩ ?_
                refine VO.nil ?_
                show VW _ _ _ _ _ _ _
                refine VW.seq ?_
                refine VW.seq ?_
                refine VW.region ?_
                refine VO.seg T_ok .dp 2 [1, 2, 6, 7, 9, 12, 13, 73] [0, 1, 2, 3, 4, 5, 6] (s' := ⟨[(1, I a1), (2, .lf (.ptr 0 0 0 0)), (6, .lf (.ptr 1 0 0 0)), (7, B y3.2), (9, .lf (.ptr 4 0 0 0)), (12, I y15.2.2), (13, I y16), (73, B (decide (y16 < (0 : Int))))], [bx [.v (.int .i64) a0.1, .v (.sl (.int .i64)) a0.2.1, .v (.sl (.int .i64)) a0.2.2] 30, bx [.v (.int .i64) y3.1.1, .hd 2 0 none, .hd 3 0 none] 24, ar 0 (.int .i64) y3.1.2.1 .dp, ar 0 (.int .i64) y3.1.2.2 .dp, bx [.v (.int .i64) y5.1.1, .hd 5 0 none, .hd 6 0 none] 24, ar 0 (.int .i64) y15.1 .dp, ar 0 (.int .i64) y15.2.1 .dp]⟩) (φ := True ∧ True ∧ True) (by kernel_rfl) ⟨trivial, trivial, trivial⟩ ?_
                refine VO.nil ?_
                show VW _ _ _ _ _ _ _
                refine VW.cond (b := (decide (y16 < (0 : Int)))) (by kernel_rfl) (fun hb => ?_) (fun hb => ?_)
                · replace h := cond_t h hb; clear hb
                  refine VW.seq ?_
                  refine VW.region ?_
                  refine VO.seg T_ok .dp 1 [4] [] (s' := ⟨[(4, B false)], []⟩) (φ := True ∧ True) (by kernel_rfl) ⟨trivial, trivial⟩ ?_
                  refine VO.nil ?_
                  show VW _ _ _ _ _ _ _
                  refine VW.ret ?_
                  replace h := Option.some.inj h
                  subst h
                  exact retR [] (by kernel_rfl) rfl
                · replace h := cond_f h hb; clear hb
                  refine VW.skip ?_
                  show VW _ _ _ _ _ _ _
                  refine VW.seq ?_
                  refine VW.seq ?_
                  refine VW.region ?_
                  refine VO.seg T_ok .dp 3 [1, 2, 6, 7, 9, 12, 76] [0, 1, 2, 3, 4, 5, 6] (s' := ⟨[(1, I a1), (2, .lf (.ptr 0 0 0 0)), (6, .lf (.ptr 1 0 0 0)), (7, B y3.2), (9, .lf (.ptr 4 0 0 0)), (12, I y15.2.2), (76, B (y16 != y15.2.2))], [bx [.v (.int .i64) a0.1, .v (.sl (.int .i64)) a0.2.1, .v (.sl (.int .i64)) a0.2.2] 30, bx [.v (.int .i64) y3.1.1, .hd 2 0 none, .hd 3 0 none] 24, ar 0 (.int .i64) y3.1.2.1 .dp, ar 0 (.int .i64) y3.1.2.2 .dp, bx [.v (.int .i64) y5.1.1, .hd 5 0 none, .hd 6 0 none] 24, ar 0 (.int .i64) y15.1 .dp, ar 0 (.int .i64) y15.2.1 .dp]⟩) (φ := True ∧ True ∧ True ∧ True) (by kernel_rfl) ⟨trivial, trivial, trivial, trivial⟩ ?_
                  refine VO.nil ?_
                  show VW _ _ _ _ _ _ _
                  refine VW.cond (b := (y16 != y15.2.2)) (by kernel_rfl) (fun hb => ?_) (fun hb => ?_)
                  · replace h := cond_t h hb; clear hb
                    refine VW.seq ?_
                    refine VW.region ?_
                    refine VO.seg T_ok .dp 1 [4] [] (s' := ⟨[(4, B false)], []⟩) (φ := True ∧ True) (by kernel_rfl) ⟨trivial, trivial⟩ ?_
                    refine VO.nil ?_
                    show VW _ _ _ _ _ _ _
                    refine VW.ret ?_
                    replace h := Option.some.inj h
                    subst h
                    exact retR [] (by kernel_rfl) rfl
                  · replace h := cond_f h hb; clear hb
                    refine VW.skip ?_
                    show VW _ _ _ _ _ _ _
                    refine VW.seq ?_
                    refine VW.region ?_
                    refine VO.seg T_ok .dp 1 [1, 6, 7, 9, 12, 78] [1, 2, 3, 4, 5, 6] (s' := ⟨[(1, I a1), (6, .lf (.ptr 0 0 0 0)), (7, B y3.2), (9, .lf (.ptr 3 0 0 0)), (12, I y15.2.2), (78, .agg [.v (.int .i64) a0.1, .v (.sl (.int .i64)) a0.2.1, .v (.sl (.int .i64)) a0.2.2])], [bx [.v (.int .i64) y3.1.1, .hd 1 0 none, .hd 2 0 none] 24, ar 0 (.int .i64) y3.1.2.1 .dp, ar 0 (.int .i64) y3.1.2.2 .dp, bx [.v (.int .i64) y5.1.1, .hd 4 0 none, .hd 5 0 none] 24, ar 0 (.int .i64) y15.1 .dp, ar 0 (.int .i64) y15.2.1 .dp]⟩) (φ := True ∧ True) (by kernel_rfl) ⟨trivial, trivial⟩ ?_
                    obtain ⟨y17, hy, h⟩ := andO_some h
                    refine VO.call false [.t Y23] [] T_ok (d := some 79) (by kernel_rfl) (ok21 N _ hy) rfl ?_
                    refine VO.seg T_ok .dp 1 [6, 7, 9, 12, 79, 80] [0, 1, 2, 3, 4, 5, 6, 7] (s' := ⟨[(6, .lf (.ptr 0 0 0 0)), (7, B y3.2), (9, .lf (.ptr 3 0 0 0)), (12, I y15.2.2), (79, .agg [.v (.int .i64) y17.1, .hd 6 0 none, .hd 7 0 none]), (80, I a1)], [bx [.v (.int .i64) y3.1.1, .hd 1 0 none, .hd 2 0 none] 24, ar 0 (.int .i64) y3.1.2.1 .dp, ar 0 (.int .i64) y3.1.2.2 .dp, bx [.v (.int .i64) y5.1.1, .hd 4 0 none, .hd 5 0 none] 24, ar 0 (.int .i64) y15.1 .dp, ar 0 (.int .i64) y15.2.1 .dp, ar 0 (.int .i64) y17.2.1 .dp, ar 0 (.int .i64) y17.2.2 .dp]⟩) (φ := True ∧ True) (by kernel_rfl) ⟨trivial, trivial⟩ ?_
                    obtain ⟨y18, hy, h⟩ := andO_some h
                    refine VO.call true [.t Y23, .t (.int .i64)] [] T_ok (d := some 81) (by kernel_rfl) (ok30 N _ _ hy) rfl ?_
                    refine VO.seg T_ok .dp 6 [6, 7, 9, 12, 14, 15] [0, 1, 2, 3, 4, 5, 10, 8, 9] (s' := ⟨[(6, .lf (.ptr 0 0 0 0)), (7, B y3.2), (9, .lf (.ptr 3 0 0 0)), (12, I y15.2.2), (14, .lf (.ptr 6 0 0 0)), (15, B y18.2)], [bx [.v (.int .i64) y3.1.1, .hd 1 0 none, .hd 2 0 none] 24, ar 0 (.int .i64) y3.1.2.1 .dp, ar 0 (.int .i64) y3.1.2.2 .dp, bx [.v (.int .i64) y5.1.1, .hd 4 0 none, .hd 5 0 none] 24, ar 0 (.int .i64) y15.1 .dp, ar 0 (.int .i64) y15.2.1 .dp, bx [.v (.int .i64) y18.1.1, .hd 7 0 none, .hd 8 0 none] 24, ar 0 (.int .i64) y18.1.2.1 .dp, ar 0 (.int .i64) y18.1.2.2 .dp]⟩) (φ := True ∧ True ∧ True ∧ True ∧ True ∧ True ∧ True) (by kernel_rfl) ⟨trivial, trivial, trivial, trivial, trivial, trivial, trivial⟩ ?_
                    refine VO.nil ?_
                    show VW _ _ _ _ _ _ _
                    refine VW.seq ?_
                    refine VW.seq ?_
                    refine VW.region ?_
                    refine VO.seg T_ok .dp 2 [7, 9, 12, 15, 84, 85] [3, 4, 5, 7, 8, 1, 2] (s' := ⟨[(7, B y3.2), (9, .lf (.ptr 0 0 0 0)), (12, I y15.2.2), (15, B y18.2), (84, .agg [.v (.int .i64) y18.1.1, .hd 3 0 none, .hd 4 0 none]), (85, .agg [.v (.int .i64) y3.1.1, .hd 5 0 none, .hd 6 0 none])], [bx [.v (.int .i64) y5.1.1, .hd 1 0 none, .hd 2 0 none] 24, ar 0 (.int .i64) y15.1 .dp, ar 0 (.int .i64) y15.2.1 .dp, ar 0 (.int .i64) y18.1.2.1 .dp, ar 0 (.int .i64) y18.1.2.2 .dp, ar 0 (.int .i64) y3.1.2.1 .dp, ar 0 (.int .i64) y3.1.2.2 .dp]⟩) (φ := True ∧ True ∧ True) (by kernel_rfl) ⟨trivial, trivial, trivial⟩ ?_
                    obtain ⟨y20, hy, h⟩ := andO_some h
                    refine VO.call true [.t Y23, .t Y23] [] T_ok (d := some 86) (by kernel_rfl) (ok16 N _ _ hy) rfl ?_
                    refine VO.seg T_ok .dp 2 [7, 9, 12, 15, 88] [0, 1, 2] (s' := ⟨[(7, B y3.2), (9, .lf (.ptr 0 0 0 0)), (12, I y15.2.2), (15, B y18.2), (88, B (!y20))], [bx [.v (.int .i64) y5.1.1, .hd 1 0 none, .hd 2 0 none] 24, ar 0 (.int .i64) y15.1 .dp, ar 0 (.int .i64) y15.2.1 .dp]⟩) (φ := True ∧ True ∧ True) (by kernel_rfl) ⟨trivial, trivial, trivial⟩ ?_
                    refine VO.splitB 88 (b := (!y20)) (by kernel_rfl) (fun hb => ?_) (fun hb => ?_)
                    · replace h := cond_t h hb; clear hb
                      refine VO.seg T_ok .dp 4 [9, 12, 92] [0, 1, 2] (s' := ⟨[(9, .lf (.ptr 0 0 0 0)), (12, I y15.2.2), (92, B true)], [bx [.v (.int .i64) y5.1.1, .hd 1 0 none, .hd 2 0 none] 24, ar 0 (.int .i64) y15.1 .dp, ar 0 (.int .i64) y15.2.1 .dp]⟩) (φ := True ∧ True ∧ True ∧ True ∧ True) (by kernel_rfl) ⟨trivial, trivial, trivial, trivial, trivial⟩ ?_
                      refine VO.nil ?_
                      show VW _ _ _ _ _ _ _
                      refine VW.cond (b := true) (by kernel_rfl) (fun _ => ?_) (fun h' => nomatch h')
                      refine VW.seq ?_
                      refine VW.region ?_
                      refine VO.seg T_ok .dp 1 [4] [] (s' := ⟨[(4, B false)], []⟩) (φ := True ∧ True) (by kernel_rfl) ⟨trivial, trivial⟩ ?_
                      refine VO.nil ?_
                      show VW _ _ _ _ _ _ _
                      refine VW.ret ?_
                      replace h := Option.some.inj h
                      subst h
                      exact retR [] (by kernel_rfl) rfl
                    · replace h := cond_f h hb; clear hb
                      refine VO.seg T_ok .dp 4 [9, 12, 92] [0, 1, 2] (s' := ⟨[(9, .lf (.ptr 0 0 0 0)), (12, I y15.2.2), (92, B (!(y18.2 == y3.2)))], [bx [.v (.int .i64) y5.1.1, .hd 1 0 none, .hd 2 0 none] 24, ar 0 (.int .i64) y15.1 .dp, ar 0 (.int .i64) y15.2.1 .dp]⟩) (φ := True ∧ True ∧ True ∧ True ∧ True) (by kernel_rfl) ⟨trivial, trivial, trivial, trivial, trivial⟩ ?_
                      refine VO.nil ?_
                      show VW _ _ _ _ _ _ _
                      refine VW.cond (b := (!(y18.2 == y3.2))) (by kernel_rfl) (fun hb => ?_) (fun hb => ?_)
                      · replace h := cond_t h hb; clear hb
                        refine VW.seq ?_
                        refine VW.region ?_
                        refine VO.seg T_ok .dp 1 [4] [] (s' := ⟨[(4, B false)], []⟩) (φ := True ∧ True) (by kernel_rfl) ⟨trivial, trivial⟩ ?_
                        refine VO.nil ?_
                        show VW _ _ _ _ _ _ _
                        refine VW.ret ?_
                        replace h := Option.some.inj h
                        subst h
                        exact retR [] (by kernel_rfl) rfl
                      · replace h := cond_f h hb; clear hb
                        refine VW.skip ?_
                        show VW _ _ _ _ _ _ _
                        refine VW.seq ?_
                        refine VW.region ?_
                        refine VO.seg T_ok .dp 1 [9, 12, 13] [0, 1, 2] (s' := ⟨[(9, .lf (.ptr 0 0 0 0)), (12, I y15.2.2), (13, I (1 : Int))], [bx [.v (.int .i64) y5.1.1, .hd 1 0 none, .hd 2 0 none] 24, ar 0 (.int .i64) y15.1 .dp, ar 0 (.int .i64) y15.2.1 .dp]⟩) (φ := True ∧ True) (by kernel_rfl) ⟨trivial, trivial⟩ ?_
                        refine VO.nil ?_
                        show VW _ _ _ _ _ _ _
                        refine VW.seq ?_
                        refine VW.region ?_
                        refine VO.seg T_ok .dp 2 [12, 93, 94] [1, 2] (s' := ⟨[(12, I y15.2.2), (93, .agg [.v (.int .i64) y5.1.1, .hd 0 0 none, .hd 1 0 none]), (94, I (1 : Int))], [ar 0 (.int .i64) y15.1 .dp, ar 0 (.int .i64) y15.2.1 .dp]⟩) (φ := True ∧ True ∧ True) (by kernel_rfl) ⟨trivial, trivial, trivial⟩ ?_
                        obtain ⟨y21, hy, h⟩ := andO_some h
                        refine VO.call true [.t Y23, .t (.int .i64)] [] T_ok (d := some 95) (by kernel_rfl) (ok18 N _ _ hy) rfl ?_
                        refine VO.seg T_ok .dp 1 [12, 13] [] (s' := ⟨[(12, I y15.2.2), (13, I y21)], []⟩) (φ := True ∧ True) (by kernel_rfl) ⟨trivial, trivial⟩ ?_
                        refine VO.nil ?_
                        show VW _ _ _ _ _ _ _
                        refine VW.seq ?_
                        refine VW.seq ?_
                        refine VW.region ?_
                        refine VO.seg T_ok .dp 2 [12, 13, 97] [] (s' := ⟨[(12, I y15.2.2), (13, I y21), (97, B (decide (y21 < (0 : Int))))], []⟩) (φ := True ∧ True ∧ True) (by kernel_rfl) ⟨trivial, trivial, trivial⟩ ?_
                        refine VO.nil ?_
                        show VW _ _ _ _ _ _ _
                        refine VW.cond (b := (decide (y21 < (0 : Int)))) (by kernel_rfl) (fun hb => ?_) (fun hb => ?_)
                        · replace h := cond_t h hb; clear hb
                          refine VW.seq ?_
                          refine VW.region ?_
                          refine VO.seg T_ok .dp 1 [4] [] (s' := ⟨[(4, B false)], []⟩) (φ := True ∧ True) (by kernel_rfl) ⟨trivial, trivial⟩ ?_
                          refine VO.nil ?_
                          show VW _ _ _ _ _ _ _
                          refine VW.ret ?_
                          replace h := Option.some.inj h
                          subst h
                          exact retR [] (by kernel_rfl) rfl
                        · replace h := cond_f h hb; clear hb
                          refine VW.skip ?_
                          show VW _ _ _ _ _ _ _
                          refine VW.seq ?_
                          refine VW.seq ?_
                          refine VW.region ?_
                          refine VO.seg T_ok .dp 3 [100] [] (s' := ⟨[(100, B (y21 != y15.2.2))], []⟩) (φ := True ∧ True ∧ True ∧ True) (by kernel_rfl) ⟨trivial, trivial, trivial, trivial⟩ ?_
                          refine VO.nil ?_
                          show VW _ _ _ _ _ _ _
                          refine VW.cond (b := (y21 != y15.2.2)) (by kernel_rfl) (fun hb => ?_) (fun hb => ?_)
                          · replace h := cond_t h hb; clear hb
                            refine VW.seq ?_
                            refine VW.region ?_
                            refine VO.seg T_ok .dp 1 [4] [] (s' := ⟨[(4, B false)], []⟩) (φ := True ∧ True) (by kernel_rfl) ⟨trivial, trivial⟩ ?_
                            refine VO.nil ?_
                            show VW _ _ _ _ _ _ _
                            refine VW.ret ?_
                            replace h := Option.some.inj h
                            subst h
                            exact retR [] (by kernel_rfl) rfl
                          · replace h := cond_f h hb; clear hb
                            refine VW.skip ?_
                            show VW _ _ _ _ _ _ _
                            refine VW.seq ?_
                            refine VW.region ?_
                            refine VO.seg T_ok .dp 1 [4] [] (s' := ⟨[(4, B true)], []⟩) (φ := True ∧ True) (by kernel_rfl) ⟨trivial, trivial⟩ ?_
                            refine VO.nil ?_
                            show VW _ _ _ _ _ _ _
                            refine VW.ret ?_
                            replace h := Option.some.inj h
                            subst h
                            exact retR [] (by kernel_rfl) rfl

end Go.Proofs.Ytcipgfjhodgncaa.Vc
