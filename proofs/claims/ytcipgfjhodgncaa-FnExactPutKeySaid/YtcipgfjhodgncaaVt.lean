/- What functions of the program compute, and that they do. -/
import Derived.Test.YtcipgfjhodgncaaVt0
namespace Go.Proofs.Ytcipgfjhodgncaa.Vc
open Go Go.RowKit
set_option linter.unusedVariables false
set_option maxRecDepth 100000
set_option maxHeartbeats 4000000
/- (loop.example/g00844/impl.Cache).ahead -/
def F62_j0 (N : Nat) (a1 : Int) (a2 : Int) (x3 : Int) (x4 : (List Int)) (x5 : (List Int)) : Option ((Int × ((List Int) × (List Int)))) :=
  gd (([a1]).length + x4.length ≤ lim (.int .i64)) (gd (([a2]).length + x5.length ≤ lim (.int .i64)) (some (x3, ((([a1]) ++ x4), (([a2]) ++ x5)))))
def F62 (N : Nat) (a0 : (Int × ((List Int) × (List Int)))) (a1 : Int) (a2 : Int) : Option ((Int × ((List Int) × (List Int)))) :=
  andO (F54 N a0.2.1 a1) fun y9 => cond (decide (y9 ≥ (0 : Int))) (andO (F60 N a0 y9) fun y10 => F62_j0 N a1 a2 y10.1 y10.2.1 y10.2.2) (F62_j0 N a1 a2 a0.1 a0.2.1 a0.2.2)
theorem ok62 (N : Nat) (a0 : (Int × ((List Int) × (List Int)))) (a1 : Int) (a2 : Int) {r : (Int × ((List Int) × (List Int)))} (h : F62 N a0 a1 a2 = some r) : Con Go.Proofs.Try.prog 62 [.agg [.v (.int .i64) a0.1, .v (.sl (.int .i64)) a0.2.1, .v (.sl (.int .i64)) a0.2.2], I a1, I a2] [.agg [.v (.int .i64) r.1, .own (.int .i64) r.2.1 .dp, .own (.int .i64) r.2.2 .dp]] := by
  refine ⟨enters_of Go.Proofs.Try.func62 rfl (by decide), HC.intro [.agg [.v (.int .i64), .own (.int .i64) .dp, .own (.int .i64) .dp]] T_ok Go.Proofs.Try.func62 rfl (Nat.le_of_ble_eq_true rfl) (Nat.le_of_ble_eq_true rfl) fun w0 E0 => ?_⟩
  unfold F62 at h
  show VW _ _ _ _ _ (retQ _ _ _ _) _
  refine VW.seq ?_
  refine VW.region ?_
  refine VO.seg T_ok .dp 2 [1, 2, 3, 6] [0, 1] (s' := ⟨[(1, I a1), (2, I a2), (3, .lf (.ptr 0 0 0 0)), (6, .lf (.ptr 1 0 0 0))], [bx [.v (.int .i64) a0.1, .v (.sl (.int .i64)) a0.2.1, .v (.sl (.int .i64)) a0.2.2] 24, bx [.v (.int .i64) (0 : Int), .nil, .nil] 24]⟩) (φ := True ∧ True ∧ True) (by kernel_rfl) ⟨trivial, trivial, trivial⟩ ?_
  refine VO.nil ?_
  show VW _ _ _ _ _ _ _
  refine VW.join (fun s => ∃ (x3 : Int) (x4 : (List Int)) (x5 : (List Int)), s = ⟨[(1, I a1), (2, I a2), (3, .lf (.ptr 0 0 0 0)), (6, .lf (.ptr 1 0 0 0))], [bx [.v (.int .i64) x3, .v (.sl (.int .i64)) x4, .v (.sl (.int .i64)) x5] 24, bx [.v (.int .i64) (0 : Int), .nil, .nil] 24]⟩ ∧ F62_j0 N a1 a2 x3 x4 x5 = some r) ?_ ?_
  · refine VW.seq ?_
    refine VW.region ?_
    refine VO.seg T_ok .dp 3 [1, 2, 3, 6, 9, 10] [0, 1] (s' := ⟨[(1, I a1), (2, I a2), (3, .lf (.ptr 0 0 0 0)), (6, .lf (.ptr 1 0 0 0)), (9, .lf (.v (.sl (.int .i64)) a0.2.1)), (10, I a1)], [bx [.v (.int .i64) a0.1, .v (.sl (.int .i64)) a0.2.1, .v (.sl (.int .i64)) a0.2.2] 24, bx [.v (.int .i64) (0 : Int), .nil, .nil] 24]⟩) (φ := True ∧ True ∧ True ∧ True) (by kernel_rfl) ⟨trivial, trivial, trivial, trivial⟩ ?_
    obtain ⟨y9, hy, h⟩ := andO_some h
    refine VO.call false [.t (.sl (.int .i64)), .t (.int .i64)] [] T_ok (d := some 11) (by kernel_rfl) (ok54 N _ _ hy) rfl ?_
    refine VO.seg T_ok .dp 1 [1, 2, 3, 6, 7] [0, 1] (s' := ⟨[(1, I a1), (2, I a2), (3, .lf (.ptr 0 0 0 0)), (6, .lf (.ptr 1 0 0 0)), (7, I y9)], [bx [.v (.int .i64) a0.1, .v (.sl (.int .i64)) a0.2.1, .v (.sl (.int .i64)) a0.2.2] 24, bx [.v (.int .i64) (0 : Int), .nil, .nil] 24]⟩) (φ := True ∧ True) (by kernel_rfl) ⟨trivial, trivial⟩ ?_
    refine VO.nil ?_
    show VW _ _ _ _ _ _ _
    refine VW.seq ?_
    refine VW.region ?_
    refine VO.seg T_ok .dp 2 [1, 2, 3, 6, 7, 13] [0, 1] (s' := ⟨[(1, I a1), (2, I a2), (3, .lf (.ptr 0 0 0 0)), (6, .lf (.ptr 1 0 0 0)), (7, I y9), (13, B (decide (y9 ≥ (0 : Int))))], [bx [.v (.int .i64) a0.1, .v (.sl (.int .i64)) a0.2.1, .v (.sl (.int .i64)) a0.2.2] 24, bx [.v (.int .i64) (0 : Int), .nil, .nil] 24]⟩) (φ := True ∧ True ∧ True) (by kernel_rfl) ⟨trivial, trivial, trivial⟩ ?_
    refine VO.nil ?_
    show VW _ _ _ _ _ _ _
    refine VW.cond (b := (decide (y9 ≥ (0 : Int)))) (by kernel_rfl) (fun hb => ?_) (fun hb => ?_)
    · replace h := cond_t h hb; clear hb
      refine VW.region ?_
      refine VO.seg T_ok .dp 2 [1, 2, 3, 6, 14, 15] [0, 1] (s' := ⟨[(1, I a1), (2, I a2), (3, .lf (.ptr 0 0 0 0)), (6, .lf (.ptr 1 0 0 0)), (14, .agg [.v (.int .i64) a0.1, .v (.sl (.int .i64)) a0.2.1, .v (.sl (.int .i64)) a0.2.2]), (15, I y9)], [bx [.v (.int .i64) a0.1, .v (.sl (.int .i64)) a0.2.1, .v (.sl (.int .i64)) a0.2.2] 24, bx [.v (.int .i64) (0 : Int), .nil, .nil] 24]⟩) (φ := True ∧ True ∧ True) (by kernel_rfl) ⟨trivial, trivial, trivial⟩ ?_
      obtain ⟨y10, hy, h⟩ := andO_some h
      refine VO.call false [.t Y23, .t (.int .i64)] [] T_ok (d := some 16) (by kernel_rfl) (ok60 N _ _ hy) rfl ?_
      refine VO.seg T_ok .dp 1 [1, 2, 3, 6] [0, 2, 3, 1] (s' := ⟨[(1, I a1), (2, I a2), (3, .lf (.ptr 0 0 0 0)), (6, .lf (.ptr 3 0 0 0))], [bx [.v (.int .i64) y10.1, .hd 1 0 none, .hd 2 0 none] 24, ar 0 (.int .i64) y10.2.1 .dp, ar 0 (.int .i64) y10.2.2 .dp, bx [.v (.int .i64) (0 : Int), .nil, .nil] 24]⟩) (φ := True ∧ True) (by kernel_rfl) ⟨trivial, trivial⟩ ?_
      refine VO.nil ?_
      exact arrive [.frz 1, .frz 2, .ren [1, 2, 3, 6] [0, 3]] (by kernel_rfl) ⟨y10.1, y10.2.1, y10.2.2, rfl, h⟩
    · replace h := cond_f h hb; clear hb
      refine VW.skip ?_
      exact arrive [.ren [1, 2, 3, 6] [0, 1]] (by kernel_rfl) ⟨a0.1, a0.2.1, a0.2.2, rfl, h⟩
  · rintro s ⟨x3, x4, x5, rfl, h⟩
    unfold F62_j0 at h
    refine VW.seq ?_
    refine VW.region ?_
    obtain ⟨g6, h⟩ := gd_some h
    refine VO.seg T_ok .dp 7 [2, 3, 6] [0, 2, 1] (s' := ⟨[(2, I a2), (3, .lf (.ptr 0 0 0 0)), (6, .lf (.ptr 2 0 0 0))], [bx [.v (.int .i64) x3, .hd 1 0 none, .v (.sl (.int .i64)) x5] 24, ar 0 (.int .i64) (([a1]) ++ x4) .dp, bx [.v (.int .i64) (0 : Int), .nil, .nil] 24]⟩) (φ := True ∧ True ∧ True ∧ True ∧ (([a1]).length + x4.length ≤ lim (.int .i64)) ∧ True ∧ True ∧ True) (by kernel_rfl) ⟨trivial, trivial, trivial, trivial, g6, trivial, trivial, trivial⟩ ?_
    refine VO.nil ?_
    show VW _ _ _ _ _ _ _
    refine VW.seq ?_
    refine VW.region ?_
    obtain ⟨g7, h⟩ := gd_some h
    refine VO.seg T_ok .dp 7 [3, 6] [0, 1, 3, 2] (s' := ⟨[(3, .lf (.ptr 0 0 0 0)), (6, .lf (.ptr 3 0 0 0))], [bx [.v (.int .i64) x3, .hd 1 0 none, .hd 2 0 none] 24, ar 0 (.int .i64) (([a1]) ++ x4) .dp, ar 0 (.int .i64) (([a2]) ++ x5) .dp, bx [.v (.int .i64) (0 : Int), .nil, .nil] 24]⟩) (φ := True ∧ True ∧ True ∧ True ∧ (([a2]).length + x5.length ≤ lim (.int .i64)) ∧ True ∧ True ∧ True) (by kernel_rfl) ⟨trivial, trivial, trivial, trivial, g7, trivial, trivial, trivial⟩ ?_
    refine VO.nil ?_
    show VW _ _ _ _ _ _ _
    refine VW.seq ?_
    refine VW.region ?_
    refine VO.seg T_ok .dp 2 [6] [3, 1, 2] (s' := ⟨[(6, .lf (.ptr 0 0 0 0))], [bx [.v (.int .i64) x3, .hd 1 0 none, .hd 2 0 none] 24, ar 0 (.int .i64) (([a1]) ++ x4) .dp, ar 0 (.int .i64) (([a2]) ++ x5) .dp]⟩) (φ := True ∧ True ∧ True) (by kernel_rfl) ⟨trivial, trivial, trivial⟩ ?_
    refine VO.nil ?_
    show VW _ _ _ _ _ _ _
    refine VW.ret ?_
    replace h := Option.some.inj h
    subst h
    exact retR [some 1, some 2] (by kernel_rfl) rfl

/- loop.example/g00844/impl.PutKey -/
def F38 (N : Nat) (a0 : (Int × ((List Int) × (List Int)))) (a1 : Int) (a2 : Int) : Option ((Int × ((List Int) × (List Int))) × Int × Bool) :=
  andO (F22 N a0) fun y7 => cond (!y7) (andO (F58 N a0) fun y8 => some (y8, (1000001 : Int), false)) (andO (F53 N a1) fun y9 => cond (!y9) (andO (F58 N a0) fun y10 => some (y10, (1000001 : Int), false)) (andO (F53 N a2) fun y11 => cond (!y11) (andO (F58 N a0) fun y12 => some (y12, (1000001 : Int), false)) (andO (F62 N a0 a1 a2) fun y13 => cond (decide ((y13.2.1.length : Int) ≤ a0.1)) (some (y13, (1000001 : Int), true)) (gd (InR a0.1 y13.2.1.length) (gd (a0.1.toNat < y13.2.1.length) (andO (F60 N y13 a0.1) fun y16 => some (y16, (y13.2.1.getD a0.1.toNat (Ty.dflt (.int .i64))), true)))))))
theorem ok38 (N : Nat) (a0 : (Int × ((List Int) × (List Int)))) (a1 : Int) (a2 : Int) {r : (Int × ((List Int) × (List Int))) × Int × Bool} (h : F38 N a0 a1 a2 = some r) : Con Go.Proofs.Try.prog 38 [.agg [.v (.int .i64) a0.1, .v (.sl (.int .i64)) a0.2.1, .v (.sl (.int .i64)) a0.2.2], I a1, I a2] [.agg [.v (.int .i64) r.1.1, .own (.int .i64) r.1.2.1 .dp, .own (.int .i64) r.1.2.2 .dp], .lf (.v (.int .i64) r.2.1), .lf (.v .bool r.2.2)] := by
  refine ⟨enters_of Go.Proofs.Try.func38 rfl (by decide), HC.intro [.agg [.v (.int .i64), .own (.int .i64) .dp, .own (.int .i64) .dp], .lf (.v (.int .i64)), .lf (.v .bool)] T_ok Go.Proofs.Try.func38 rfl (Nat.le_of_ble_eq_true rfl) (Nat.le_of_ble_eq_true rfl) fun w0 E0 => ?_⟩
  unfold F38 at h
  show VW _ _ _ _ _ (retQ _ _ _ _) _
  refine VW.seq ?_
  refine VW.region ?_
  refine VO.seg T_ok .dp 4 [1, 2, 3, 6] [0, 1] (s' := ⟨[(1, I a1), (2, I a2), (3, .lf (.ptr 0 0 0 0)), (6, .lf (.ptr 1 0 0 0))], [bx [.v (.int .i64) a0.1, .v (.sl (.int .i64)) a0.2.1, .v (.sl (.int .i64)) a0.2.2] 24, bx [.v (.int .i64) (0 : Int), .nil, .nil] 24]⟩) (φ := True ∧ True ∧ True ∧ True ∧ True) (by kernel_rfl) ⟨trivial, trivial, trivial, trivial, trivial⟩ ?_
  refine VO.nil ?_
  show VW _ _ _ _ _ _ _
  refine VW.seq ?_
  refine VW.seq ?_
  refine VW.region ?_
  refine VO.seg T_ok .dp 1 [1, 2, 3, 6, 11] [0, 1] (s' := ⟨[(1, I a1), (2, I a2), (3, .lf (.ptr 0 0 0 0)), (6, .lf (.ptr 1 0 0 0)), (11, .agg [.v (.int .i64) a0.1, .v (.sl (.int .i64)) a0.2.1, .v (.sl (.int .i64)) a0.2.2])], [bx [.v (.int .i64) a0.1, .v (.sl (.int .i64)) a0.2.1, .v (.sl (.int .i64)) a0.2.2] 24, bx [.v (.int .i64) (0 : Int), .nil, .nil] 24]⟩) (φ := True ∧ True) (by kernel_rfl) ⟨trivial, trivial⟩ ?_
  obtain ⟨y7, hy, h⟩ := andO_some h
  refine VO.call false [.t Y23] [] T_ok (d := some 12) (by kernel_rfl) (ok22 N _ hy) rfl ?_
  refine VO.seg T_ok .dp 2 [1, 2, 3, 6, 14] [0, 1] (s' := ⟨[(1, I a1), (2, I a2), (3, .lf (.ptr 0 0 0 0)), (6, .lf (.ptr 1 0 0 0)), (14, B (!y7))], [bx [.v (.int .i64) a0.1, .v (.sl (.int .i64)) a0.2.1, .v (.sl (.int .i64)) a0.2.2] 24, bx [.v (.int .i64) (0 : Int), .nil, .nil] 24]⟩) (φ := True ∧ True ∧ True) (by kernel_rfl) ⟨trivial, trivial, trivial⟩ ?_
  refine VO.splitB 14 (b := (!y7)) (by kernel_rfl) (fun hb => ?_) (fun hb => ?_)
  · replace h := cond_t h hb; clear hb
    refine VO.seg T_ok .dp 9 [1, 2, 3, 6, 23] [0, 1] (s' := ⟨[(1, I a1), (2, I a2), (3, .lf (.ptr 0 0 0 0)), (6, .lf (.ptr 1 0 0 0)), (23, B true)], [bx [.v (.int .i64) a0.1, .v (.sl (.int .i64)) a0.2.1, .v (.sl (.int .i64)) a0.2.2] 24, bx [.v (.int .i64) (0 : Int), .nil, .nil] 24]⟩) (φ := True ∧ True ∧ True ∧ True ∧ True ∧ True ∧ True ∧ True ∧ True ∧ True) (by kernel_rfl) ⟨trivial, trivial, trivial, trivial, trivial, trivial, trivial, trivial, trivial, trivial⟩ ?_
    refine VO.nil ?_
    show VW _ _ _ _ _ _ _
    refine VW.cond (b := true) (by kernel_rfl) (fun _ => ?_) (fun h' => nomatch h')
    refine VW.seq ?_
    refine VW.region ?_
    refine VO.seg T_ok .dp 1 [6, 24] [1] (s' := ⟨[(6, .lf (.ptr 0 0 0 0)), (24, .agg [.v (.int .i64) a0.1, .v (.sl (.int .i64)) a0.2.1, .v (.sl (.int .i64)) a0.2.2])], [bx [.v (.int .i64) (0 : Int), .nil, .nil] 24]⟩) (φ := True ∧ True) (by kernel_rfl) ⟨trivial, trivial⟩ ?_
    obtain ⟨y8, hy, h⟩ := andO_some h
    refine VO.call false [.t Y23] [] T_ok (d := some 25) (by kernel_rfl) (ok58 N _ hy) rfl ?_
    refine VO.seg T_ok .dp 3 [6, 7, 8] [0, 1, 2] (s' := ⟨[(6, .lf (.ptr 0 0 0 0)), (7, I (1000001 : Int)), (8, B false)], [bx [.v (.int .i64) y8.1, .hd 1 0 none, .hd 2 0 none] 24, ar 0 (.int .i64) y8.2.1 .dp, ar 0 (.int .i64) y8.2.2 .dp]⟩) (φ := True ∧ True ∧ True ∧ True) (by kernel_rfl) ⟨trivial, trivial, trivial, trivial⟩ ?_
    refine VO.nil ?_
    show VW _ _ _ _ _ _ _
    refine VW.ret ?_
    replace h := Option.some.inj h
    subst h
    exact retR [some 1, some 2] (by kernel_rfl) rfl
  · replace h := cond_f h hb; clear hb
    refine VO.seg T_ok .dp 1 [1, 2, 3, 6, 14, 15] [0, 1] (s' := ⟨[(1, I a1), (2, I a2), (3, .lf (.ptr 0 0 0 0)), (6, .lf (.ptr 1 0 0 0)), (14, B false), (15, I a1)], [bx [.v (.int .i64) a0.1, .v (.sl (.int .i64)) a0.2.1, .v (.sl (.int .i64)) a0.2.2] 24, bx [.v (.int .i64) (0 : Int), .nil, .nil] 24]⟩) (φ := True ∧ True) (by kernel_rfl) ⟨trivial, trivial⟩ ?_
    refine VO.on (j := 3) (want := false) (d := 14) (b := false) rfl rfl rfl (by kernel_rfl) rfl ?_
    obtain ⟨y9, hy, h⟩ := andO_some h
    refine VO.call false [.t (.int .i64)] [] T_ok (d := some 16) (by kernel_rfl) (ok53 N _ hy) rfl ?_
    refine VO.seg T_ok .dp 3 [1, 2, 3, 6, 19] [0, 1] (s' := ⟨[(1, I a1), (2, I a2), (3, .lf (.ptr 0 0 0 0)), (6, .lf (.ptr 1 0 0 0)), (19, B (!y9))], [bx [.v (.int .i64) a0.1, .v (.sl (.int .i64)) a0.2.1, .v (.sl (.int .i64)) a0.2.2] 24, bx [.v (.int .i64) (0 : Int), .nil, .nil] 24]⟩) (φ := True ∧ True ∧ True ∧ True) (by kernel_rfl) ⟨trivial, trivial, trivial, trivial⟩ ?_
    refine VO.splitB 19 (b := (!y9)) (by kernel_rfl) (fun hb => ?_) (fun hb => ?_)
    · replace h := cond_t h hb; clear hb
      refine VO.seg T_ok .dp 4 [1, 2, 3, 6, 23] [0, 1] (s' := ⟨[(1, I a1), (2, I a2), (3, .lf (.ptr 0 0 0 0)), (6, .lf (.ptr 1 0 0 0)), (23, B true)], [bx [.v (.int .i64) a0.1, .v (.sl (.int .i64)) a0.2.1, .v (.sl (.int .i64)) a0.2.2] 24, bx [.v (.int .i64) (0 : Int), .nil, .nil] 24]⟩) (φ := True ∧ True ∧ True ∧ True ∧ True) (by kernel_rfl) ⟨trivial, trivial, trivial, trivial, trivial⟩ ?_
      refine VO.nil ?_
      show VW _ _ _ _ _ _ _
      refine VW.cond (b := true) (by kernel_rfl) (fun _ => ?_) (fun h' => nomatch h')
      refine VW.seq ?_
      refine VW.region ?_
      refine VO.seg T_ok .dp 1 [6, 24] [1] (s' := ⟨[(6, .lf (.ptr 0 0 0 0)), (24, .agg [.v (.int .i64) a0.1, .v (.sl (.int .i64)) a0.2.1, .v (.sl (.int .i64)) a0.2.2])], [bx [.v (.int .i64) (0 : Int), .nil, .nil] 24]⟩) (φ := True ∧ True) (by kernel_rfl) ⟨trivial, trivial⟩ ?_
      obtain ⟨y10, hy, h⟩ := andO_some h
      refine VO.call false [.t Y23] [] T_ok (d := some 25) (by kernel_rfl) (ok58 N _ hy) rfl ?_
      refine VO.seg T_ok .dp 3 [6, 7, 8] [0, 1, 2] (s' := ⟨[(6, .lf (.ptr 0 0 0 0)), (7, I (1000001 : Int)), (8, B false)], [bx [.v (.int .i64) y10.1, .hd 1 0 none, .hd 2 0 none] 24, ar 0 (.int .i64) y10.2.1 .dp, ar 0 (.int .i64) y10.2.2 .dp]⟩) (φ := True ∧ True ∧ True ∧ True) (by kernel_rfl) ⟨trivial, trivial, trivial, trivial⟩ ?_
      refine VO.nil ?_
      show VW _ _ _ _ _ _ _
      refine VW.ret ?_
      replace h := Option.some.inj h
      subst h
      exact retR [some 1, some 2] (by kernel_rfl) rfl
    · replace h := cond_f h hb; clear hb
      refine VO.seg T_ok .dp 1 [1, 2, 3, 6, 19, 20] [0, 1] (s' := ⟨[(1, I a1), (2, I a2), (3, .lf (.ptr 0 0 0 0)), (6, .lf (.ptr 1 0 0 0)), (19, B false), (20, I a2)], [bx [.v (.int .i64) a0.1, .v (.sl (.int .i64)) a0.2.1, .v (.sl (.int .i64)) a0.2.2] 24, bx [.v (.int .i64) (0 : Int), .nil, .nil] 24]⟩) (φ := True ∧ True) (by kernel_rfl) ⟨trivial, trivial⟩ ?_
      refine VO.on (j := 8) (want := false) (d := 19) (b := false) rfl rfl rfl (by kernel_rfl) rfl ?_
      obtain ⟨y11, hy, h⟩ := andO_some h
      refine VO.call false [.t (.int .i64)] [] T_ok (d := some 21) (by kernel_rfl) (ok53 N _ hy) rfl ?_
      refine VO.seg T_ok .dp 2 [1, 2, 3, 6, 23] [0, 1] (s' := ⟨[(1, I a1), (2, I a2), (3, .lf (.ptr 0 0 0 0)), (6, .lf (.ptr 1 0 0 0)), (23, B (!y11))], [bx [.v (.int .i64) a0.1, .v (.sl (.int .i64)) a0.2.1, .v (.sl (.int .i64)) a0.2.2] 24, bx [.v (.int .i64) (0 : Int), .nil, .nil] 24]⟩) (φ := True ∧ True ∧ True) (by kernel_rfl) ⟨trivial, trivial, trivial⟩ ?_
      refine VO.nil ?_
      show VW _ _ _ _ _ _ _
      refine VW.cond (b := (!y11)) (by kernel_rfl) (fun hb => ?_) (fun hb => ?_)
      · replace h := cond_t h hb; clear hb
        refine VW.seq ?_
        refine VW.region ?_
        refine VO.seg T_ok .dp 1 [6, 24] [1] (s' := ⟨[(6, .lf (.ptr 0 0 0 0)), (24, .agg [.v (.int .i64) a0.1, .v (.sl (.int .i64)) a0.2.1, .v (.sl (.int .i64)) a0.2.2])], [bx [.v (.int .i64) (0 : Int), .nil, .nil] 24]⟩) (φ := True ∧ True) (by kernel_rfl) ⟨trivial, trivial⟩ ?_
        obtain ⟨y12, hy, h⟩ := andO_some h
        refine VO.call false [.t Y23] [] T_ok (d := some 25) (by kernel_rfl) (ok58 N _ hy) rfl ?_
        refine VO.seg T_ok .dp 3 [6, 7, 8] [0, 1, 2] (s' := ⟨[(6, .lf (.ptr 0 0 0 0)), (7, I (1000001 : Int)), (8, B false)], [bx [.v (.int .i64) y12.1, .hd 1 0 none, .hd 2 0 none] 24, ar 0 (.int .i64) y12.2.1 .dp, ar 0 (.int .i64) y12.2.2 .dp]⟩) (φ := True ∧ True ∧ True ∧ True) (by kernel_rfl) ⟨trivial, trivial, trivial, trivial⟩ ?_
        refine VO.nil ?_
        show VW _ _ _ _ _ _ _
        refine VW.ret ?_
        replace h := Option.some.inj h
        subst h
        exact retR [some 1, some 2] (by kernel_rfl) rfl
      · replace h := cond_f h hb; clear hb
        refine VW.skip ?_
        show VW _ _ _ _ _ _ _
        refine VW.seq ?_
        refine VW.region ?_
        refine VO.seg T_ok .dp 3 [3, 6, 26, 27, 28] [0, 1] (s' := ⟨[(3, .lf (.ptr 0 0 0 0)), (6, .lf (.ptr 1 0 0 0)), (26, .agg [.v (.int .i64) a0.1, .v (.sl (.int .i64)) a0.2.1, .v (.sl (.int .i64)) a0.2.2]), (27, I a1), (28, I a2)], [bx [.v (.int .i64) a0.1, .v (.sl (.int .i64)) a0.2.1, .v (.sl (.int .i64)) a0.2.2] 24, bx [.v (.int .i64) (0 : Int), .nil, .nil] 24]⟩) (φ := True ∧ True ∧ True ∧ True) (by kernel_rfl) ⟨trivial, trivial, trivial, trivial⟩ ?_
        obtain ⟨y13, hy, h⟩ := andO_some h
        refine VO.call false [.t Y23, .t (.int .i64), .t (.int .i64)] [] T_ok (d := some 29) (by kernel_rfl) (ok62 N _ _ _ hy) rfl ?_
        refine VO.seg T_ok .dp 2 [3, 6, 9] [0, 1, 4, 2, 3] (s' := ⟨[(3, .lf (.ptr 0 0 0 0)), (6, .lf (.ptr 1 0 0 0)), (9, .lf (.ptr 2 0 0 0))], [bx [.v (.int .i64) a0.1, .v (.sl (.int .i64)) a0.2.1, .v (.sl (.int .i64)) a0.2.2] 24, bx [.v (.int .i64) (0 : Int), .nil, .nil] 24, bx [.v (.int .i64) y13.1, .hd 3 0 none, .hd 4 0 none] 24, ar 0 (.int .i64) y13.2.1 .dp, ar 0 (.int .i64) y13.2.2 .dp]⟩) (φ := True ∧ True ∧ True) (by kernel_rfl) ⟨trivial, trivial, trivial⟩ ?_
        refine VO.nil ?_
        show VW _ _ _ _ _ _ _
        refine VW.seq ?_
        refine VW.seq ?_
        refine VW.region ?_
        refine VO.seg T_ok .dp 6 [3, 6, 9, 35] [0, 1, 2, 3, 4] (s' := ⟨[(3, .lf (.ptr 0 0 0 0)), (6, .lf (.ptr 1 0 0 0)), (9, .lf (.ptr 2 0 0 0)), (35, B (decide ((y13.2.1.length : Int) ≤ a0.1)))], [bx [.v (.int .i64) a0.1, .v (.sl (.int .i64)) a0.2.1, .v (.sl (.int .i64)) a0.2.2] 24, bx [.v (.int .i64) (0 : Int), .nil, .nil] 24, bx [.v (.int .i64) y13.1, .hd 3 0 none, .hd 4 0 none] 24, ar 0 (.int .i64) y13.2.1 .dp, ar 0 (.int .i64) y13.2.2 .dp]⟩) (φ := True ∧ True ∧ True ∧ True ∧ True ∧ True ∧ True) (by kernel_rfl) ⟨trivial, trivial, trivial, trivial, trivial, trivial, trivial⟩ ?_
        refine VO.nil ?_
        show VW _ _ _ _ _ _ _
        refine VW.cond (b := (decide ((y13.2.1.length : Int) ≤ a0.1))) (by kernel_rfl) (fun hb => ?_) (fun hb => ?_)
        · replace h := cond_t h hb; clear hb
          refine VW.seq ?_
          refine VW.region ?_
          refine VO.seg T_ok .dp 4 [6, 7, 8] [1, 3, 4] (s' := ⟨[(6, .lf (.ptr 0 0 0 0)), (7, I (1000001 : Int)), (8, B true)], [bx [.v (.int .i64) y13.1, .hd 1 0 none, .hd 2 0 none] 24, ar 0 (.int .i64) y13.2.1 .dp, ar 0 (.int .i64) y13.2.2 .dp]⟩) (φ := True ∧ True ∧ True ∧ True ∧ True) (by kernel_rfl) ⟨trivial, trivial, trivial, trivial, trivial⟩ ?_
          refine VO.nil ?_
          show VW _ _ _ _ _ _ _
          refine VW.ret ?_
          replace h := Option.some.inj h
          subst h
          exact retR [some 1, some 2] (by kernel_rfl) rfl
        · replace h := cond_f h hb; clear hb
          refine VW.skip ?_
          show VW _ _ _ _ _ _ _
          refine VW.seq ?_
          refine VW.region ?_
          obtain ⟨g14, h⟩ := gd_some h
          obtain ⟨g15, h⟩ := gd_some h
          refine VO.seg T_ok .dp 7 [3, 6, 9, 10] [0, 1, 2, 3, 4] (s' := ⟨[(3, .lf (.ptr 0 0 0 0)), (6, .lf (.ptr 1 0 0 0)), (9, .lf (.ptr 2 0 0 0)), (10, I (y13.2.1.getD a0.1.toNat (Ty.dflt (.int .i64))))], [bx [.v (.int .i64) a0.1, .v (.sl (.int .i64)) a0.2.1, .v (.sl (.int .i64)) a0.2.2] 24, bx [.v (.int .i64) (0 : Int), .nil, .nil] 24, bx [.v (.int .i64) y13.1, .hd 3 0 none, .hd 4 0 none] 24, ar 0 (.int .i64) y13.2.1 .dp, ar 0 (.int .i64) y13.2.2 .dp]⟩) (φ := True ∧ True ∧ True ∧ True ∧ (InR a0.1 y13.2.1.length) ∧ (a0.1.toNat < y13.2.1.length) ∧ True ∧ True) (by kernel_rfl) ⟨trivial, trivial, trivial, trivial, g14, g15, trivial, trivial⟩ ?_
          refine VO.nil ?_
          show VW _ _ _ _ _ _ _
          refine VW.seq ?_
          refine VW.region ?_
          refine VO.seg T_ok .dp 3 [6, 10, 43, 45] [1, 3, 4] (s' := ⟨[(6, .lf (.ptr 0 0 0 0)), (10, I (y13.2.1.getD a0.1.toNat (Ty.dflt (.int .i64)))), (43, .agg [.v (.int .i64) y13.1, .hd 1 0 none, .hd 2 0 none]), (45, I a0.1)], [bx [.v (.int .i64) (0 : Int), .nil, .nil] 24, ar 0 (.int .i64) y13.2.1 .dp, ar 0 (.int .i64) y13.2.2 .dp]⟩) (φ := True ∧ True ∧ True ∧ True) (by kernel_rfl) ⟨trivial, trivial, trivial, trivial⟩ ?_
          obtain ⟨y16, hy, h⟩ := andO_some h
          refine VO.call true [.t Y23, .t (.int .i64)] [] T_ok (d := some 46) (by kernel_rfl) (ok60 N _ _ hy) rfl ?_
          refine VO.seg T_ok .dp 4 [6, 7, 8] [0, 3, 4] (s' := ⟨[(6, .lf (.ptr 0 0 0 0)), (7, I (y13.2.1.getD a0.1.toNat (Ty.dflt (.int .i64)))), (8, B true)], [bx [.v (.int .i64) y16.1, .hd 1 0 none, .hd 2 0 none] 24, ar 0 (.int .i64) y16.2.1 .dp, ar 0 (.int .i64) y16.2.2 .dp]⟩) (φ := True ∧ True ∧ True ∧ True ∧ True) (by kernel_rfl) ⟨trivial, trivial, trivial, trivial, trivial⟩ ?_
          refine VO.nil ?_
          show VW _ _ _ _ _ _ _
          refine VW.ret ?_
          replace h := Option.some.inj h
          subst h
          exact retR [some 1, some 2] (by kernel_rfl) rfl

/- loop.example/g00844/laws.FnExactPutKey -/
def F11 (N : Nat) (a0 : (Int × ((List Int) × (List Int)))) (a1 : Int) (a2 : Int) : Option (Bool) :=
  andO (F19 N a0 (1048576 : Int)) fun y1 => cond (decide (y1 < (0 : Int))) (some true) (andO (F21 N a0) fun y2 => andO (F37 N y2 a1 a2) fun y3 => andO (F21 N a0) fun y4 => andO (F38 N y4 a1 a2) fun y5 => andO (F16 N y5.1 y3.1) fun y7 => cond (!y7) (some false) (cond (y5.2.1 != y3.2.1) (some false) (cond (!(y5.2.2 == y3.2.2)) (some false) (andO (F21 N a0) fun y10 => andO (F16 N y4 y10) fun y11 => cond (!y11) (some false) (andO (F17 N y4 (1 : Int)) fun y12 => cond (decide (y12.2.2 < (0 : Int))) (some false) (andO (F16 N y5.1 y3.1) fun y14 => cond (!y14) (some false) (cond (y5.2.1 != y3.2.1) (some false) (cond (!(y5.2.2 == y3.2.2)) (some false) (andO (F17 N y5.1 (1 : Int)) fun y15 => andO (F18 N (y5.1.1, (y15.1, y15.2.1)) (1 : Int)) fun y16 => cond (decide (y16 < (0 : Int))) (some false) (cond (y16 != y15.2.2) (some false) (andO (F21 N a0) fun y17 => andO (F38 N y17 a1 a2) fun y18 => andO (F16 N y18.1 y3.1) fun y20 => cond (!y20) (some false) (cond (y18.2.1 != y3.2.1) (some false) (cond (!(y18.2.2 == y3.2.2)) (some false) (andO (F18 N (y5.1.1, (y15.1, y15.2.1)) (1 : Int)) fun y21 => cond (decide (y21 < (0 : Int))) (some false) (cond (y21 != y15.2.2) (some false) (some true))))))))))))))))
theorem ok11 (N : Nat) (a0 : (Int × ((List Int) × (List Int)))) (a1 : Int) (a2 : Int) {r : Bool} (h : F11 N a0 a1 a2 = some r) : Con Go.Proofs.Try.prog 11 [.agg [.v (.int .i64) a0.1, .v (.sl (.int .i64)) a0.2.1, .v (.sl (.int .i64)) a0.2.2], I a1, I a2] [.lf (.v .bool r)] := by
  refine ⟨enters_of Go.Proofs.Try.func11 rfl (by decide), HC.intro [.lf (.v .bool)] T_ok Go.Proofs.Try.func11 rfl (Nat.le_of_ble_eq_true rfl) (Nat.le_of_ble_eq_true rfl) fun w0 E0 => ?_⟩
  unfold F11 at h
  show VW _ _ _ _ _ (retQ _ _ _ _) _
  refine VW.seq ?_
  refine VW.region ?_
  refine VO.seg T_ok .dp 2 [1, 2, 3] [0] (s' := ⟨[(1, I a1), (2, I a2), (3, .lf (.ptr 0 0 0 0))], [bx [.v (.int .i64) a0.1, .v (.sl (.int .i64)) a0.2.1, .v (.sl (.int .i64)) a0.2.2] 30]⟩) (φ := True ∧ True ∧ True) (by kernel_rfl) ⟨trivial, trivial, trivial⟩ ?_
  refine VO.nil ?_
  show VW _ _ _ _ _ _ _
  refine VW.seq ?_
  refine VW.region ?_
  refine VO.seg T_ok .dp 1 [1, 2, 3, 7] [0] (s' := ⟨[(1, I a1), (2, I a2), (3, .lf (.ptr 0 0 0 0)), (7, I (1048576 : Int))], [bx [.v (.int .i64) a0.1, .v (.sl (.int .i64)) a0.2.1, .v (.sl (.int .i64)) a0.2.2] 30]⟩) (φ := True ∧ True) (by kernel_rfl) ⟨trivial, trivial⟩ ?_
  refine VO.nil ?_
  show VW _ _ _ _ _ _ _
  refine VW.seq ?_
  refine VW.region ?_
  refine VO.seg T_ok .dp 2 [1, 2, 3, 21, 22] [0] (s' := ⟨[(1, I a1), (2, I a2), (3, .lf (.ptr 0 0 0 0)), (21, .agg [.v (.int .i64) a0.1, .v (.sl (.int .i64)) a0.2.1, .v (.sl (.int .i64)) a0.2.2]), (22, I (1048576 : Int))], [bx [.v (.int .i64) a0.1, .v (.sl (.int .i64)) a0.2.1, .v (.sl (.int .i64)) a0.2.2] 30]⟩) (φ := True ∧ True ∧ True) (by kernel_rfl) ⟨trivial, trivial, trivial⟩ ?_
  obtain ⟨y1, hy, h⟩ := andO_some h
  refine VO.call false [.t Y23, .t (.int .i64)] [] T_ok (d := some 23) (by kernel_rfl) (ok19 N _ _ hy) rfl ?_
  refine VO.seg T_ok .dp 1 [1, 2, 3, 7] [0] (s' := ⟨[(1, I a1), (2, I a2), (3, .lf (.ptr 0 0 0 0)), (7, I y1)], [bx [.v (.int .i64) a0.1, .v (.sl (.int .i64)) a0.2.1, .v (.sl (.int .i64)) a0.2.2] 30]⟩) (φ := True ∧ True) (by kernel_rfl) ⟨trivial, trivial⟩ ?_
  refine VO.nil ?_
  show VW _ _ _ _ _ _ _
  refine VW.seq ?_
  refine VW.seq ?_
  refine VW.region ?_
  refine VO.seg T_ok .dp 2 [1, 2, 3, 25] [0] (s' := ⟨[(1, I a1), (2, I a2), (3, .lf (.ptr 0 0 0 0)), (25, B (decide (y1 < (0 : Int))))], [bx [.v (.int .i64) a0.1, .v (.sl (.int .i64)) a0.2.1, .v (.sl (.int .i64)) a0.2.2] 30]⟩) (φ := True ∧ True ∧ True) (by kernel_rfl) ⟨trivial, trivial, trivial⟩ ?_
  refine VO.nil ?_
  show VW _ _ _ _ _ _ _
  refine VW.cond (b := (decide (y1 < (0 : Int)))) (by kernel_rfl) (fun hb => ?_) (fun hb => ?_)
  · replace h := cond_t h hb; clear hb
    refine VW.seq ?_
    refine VW.region ?_
    refine VO.seg T_ok .dp 1 [6] [] (s' := ⟨[(6, B true)], []⟩) (φ := True ∧ True) (by kernel_rfl) ⟨trivial, trivial⟩ ?_
    refine VO.nil ?_
    show VW _ _ _ _ _ _ _
    refine VW.ret ?_
    replace h := Option.some.inj h
    subst h
    exact retR [] (by kernel_rfl) rfl
  · replace h := cond_f h hb; clear hb
    refine VW.skip ?_
    show VW _ _ _ _ _ _ _
    refine VW.seq ?_
    refine VW.region ?_
    refine VO.seg T_ok .dp 1 [1, 2, 3, 27] [0] (s' := ⟨[(1, I a1), (2, I a2), (3, .lf (.ptr 0 0 0 0)), (27, .agg [.v (.int .i64) a0.1, .v (.sl (.int .i64)) a0.2.1, .v (.sl (.int .i64)) a0.2.2])], [bx [.v (.int .i64) a0.1, .v (.sl (.int .i64)) a0.2.1, .v (.sl (.int .i64)) a0.2.2] 30]⟩) (φ := True ∧ True) (by kernel_rfl) ⟨trivial, trivial⟩ ?_
    obtain ⟨y2, hy, h⟩ := andO_some h
    refine VO.call false [.t Y23] [] T_ok (d := some 28) (by kernel_rfl) (ok21 N _ hy) rfl ?_
    refine VO.seg T_ok .dp 2 [1, 2, 3, 28, 29, 30] [0, 1, 2] (s' := ⟨[(1, I a1), (2, I a2), (3, .lf (.ptr 0 0 0 0)), (28, .agg [.v (.int .i64) y2.1, .hd 1 0 none, .hd 2 0 none]), (29, I a1), (30, I a2)], [bx [.v (.int .i64) a0.1, .v (.sl (.int .i64)) a0.2.1, .v (.sl (.int .i64)) a0.2.2] 30, ar 0 (.int .i64) y2.2.1 .dp, ar 0 (.int .i64) y2.2.2 .dp]⟩) (φ := True ∧ True ∧ True) (by kernel_rfl) ⟨trivial, trivial, trivial⟩ ?_
    obtain ⟨y3, hy, h⟩ := andO_some h
    refine VO.call true [.t Y23, .t (.int .i64), .t (.int .i64)] [] T_ok (d := some 31) (by kernel_rfl) (ok37 N _ _ _ hy) rfl ?_
    refine VO.seg T_ok .dp 8 [1, 2, 3, 8, 9, 10] [0, 5, 3, 4] (s' := ⟨[(1, I a1), (2, I a2), (3, .lf (.ptr 0 0 0 0)), (8, .lf (.ptr 1 0 0 0)), (9, I y3.2.1), (10, B y3.2.2)], [bx [.v (.int .i64) a0.1, .v (.sl (.int .i64)) a0.2.1, .v (.sl (.int .i64)) a0.2.2] 30, bx [.v (.int .i64) y3.1.1, .hd 2 0 none, .hd 3 0 none] 24, ar 0 (.int .i64) y3.1.2.1 .dp, ar 0 (.int .i64) y3.1.2.2 .dp]⟩) (φ := True ∧ True ∧ True ∧ True ∧ True ∧ True ∧ True ∧ True ∧ True) (by kernel_rfl) ⟨trivial, trivial, trivial, trivial, trivial, trivial, trivial, trivial, trivial⟩ ?_
    refine VO.nil ?_
    show VW _ _ _ _ _ _ _
    refine VW.seq ?_
    refine VW.region ?_
    refine VO.seg T_ok .dp 1 [1, 2, 3, 8, 9, 10, 35] [0, 1, 2, 3] (s' := ⟨[(1, I a1), (2, I a2), (3, .lf (.ptr 0 0 0 0)), (8, .lf (.ptr 1 0 0 0)), (9, I y3.2.1), (10, B y3.2.2), (35, .agg [.v (.int .i64) a0.1, .v (.sl (.int .i64)) a0.2.1, .v (.sl (.int .i64)) a0.2.2])], [bx [.v (.int .i64) a0.1, .v (.sl (.int .i64)) a0.2.1, .v (.sl (.int .i64)) a0.2.2] 30, bx [.v (.int .i64) y3.1.1, .hd 2 0 none, .hd 3 0 none] 24, ar 0 (.int .i64) y3.1.2.1 .dp, ar 0 (.int .i64) y3.1.2.2 .dp]⟩) (φ := True ∧ True) (by kernel_rfl) ⟨trivial, trivial⟩ ?_
    obtain ⟨y4, hy, h⟩ := andO_some h
    refine VO.call false [.t Y23] [] T_ok (d := some 36) (by kernel_rfl) (ok21 N _ hy) rfl ?_
    refine VO.seg T_ok .dp 2 [1, 2, 3, 8, 9, 10, 11] [0, 1, 2, 3, 6, 4, 5] (s' := ⟨[(1, I a1), (2, I a2), (3, .lf (.ptr 0 0 0 0)), (8, .lf (.ptr 1 0 0 0)), (9, I y3.2.1), (10, B y3.2.2), (11, .lf (.ptr 4 0 0 0))], [bx [.v (.int .i64) a0.1, .v (.sl (.int .i64)) a0.2.1, .v (.sl (.int .i64)) a0.2.2] 30, bx [.v (.int .i64) y3.1.1, .hd 2 0 none, .hd 3 0 none] 24, ar 0 (.int .i64) y3.1.2.1 .dp, ar 0 (.int .i64) y3.1.2.2 .dp, bx [.v (.int .i64) y4.1, .hd 5 0 none, .hd 6 0 none] 24, ar 0 (.int .i64) y4.2.1 .dp, ar 0 (.int .i64) y4.2.2 .dp]⟩) (φ := True ∧ True ∧ True) (by kernel_rfl) ⟨trivial, trivial, trivial⟩ ?_
    refine VO.nil ?_
    show VW _ _ _ _ _ _ _
    refine VW.seq ?_
    refine VW.region ?_
    refine VO.seg T_ok .dp 3 [1, 2, 3, 8, 9, 10, 11, 38, 39, 40] [0, 1, 2, 3, 4, 5, 6] (s' := ⟨[(1, I a1), (2, I a2), (3, .lf (.ptr 0 0 0 0)), (8, .lf (.ptr 1 0 0 0)), (9, I y3.2.1), (10, B y3.2.2), (11, .lf (.ptr 4 0 0 0)), (38, .agg [.v (.int .i64) y4.1, .hd 5 0 none, .hd 6 0 none]), (39, I a1), (40, I a2)], [bx [.v (.int .i64) a0.1, .v (.sl (.int .i64)) a0.2.1, .v (.sl (.int .i64)) a0.2.2] 30, bx [.v (.int .i64) y3.1.1, .hd 2 0 none, .hd 3 0 none] 24, ar 0 (.int .i64) y3.1.2.1 .dp, ar 0 (.int .i64) y3.1.2.2 .dp, bx [.v (.int .i64) y4.1, .hd 5 0 none, .hd 6 0 none] 24, ar 0 (.int .i64) y4.2.1 .dp, ar 0 (.int .i64) y4.2.2 .dp]⟩) (φ := True ∧ True ∧ True ∧ True) (by kernel_rfl) ⟨trivial, trivial, trivial, trivial⟩ ?_
    obtain ⟨y5, hy, h⟩ := andO_some h
    refine VO.call true [.t Y23, .t (.int .i64), .t (.int .i64)] [] T_ok (d := some 41) (by kernel_rfl) (ok38 N _ _ _ hy) rfl ?_
    refine VO.seg T_ok .dp 8 [1, 2, 3, 8, 9, 10, 11, 12, 13, 14] [0, 1, 2, 3, 4, 5, 6, 9, 7, 8] (s' := ⟨[(1, I a1), (2, I a2), (3, .lf (.ptr 0 0 0 0)), (8, .lf (.ptr 1 0 0 0)), (9, I y3.2.1), (10, B y3.2.2), (11, .lf (.ptr 4 0 0 0)), (12, .lf (.ptr 7 0 0 0)), (13, I y5.2.1), (14, B y5.2.2)], [bx [.v (.int .i64) a0.1, .v (.sl (.int .i64)) a0.2.1, .v (.sl (.int .i64)) a0.2.2] 30, bx [.v (.int .i64) y3.1.1, .hd 2 0 none, .hd 3 0 none] 24, ar 0 (.int .i64) y3.1.2.1 .dp, ar 0 (.int .i64) y3.1.2.2 .dp, bx [.v (.int .i64) y4.1, .hd 5 0 none, .hd 6 0 none] 24, ar 0 (.int .i64) y4.2.1 .dp, ar 0 (.int .i64) y4.2.2 .dp, bx [.v (.int .i64) y5.1.1, .hd 8 0 none, .hd 9 0 none] 24, ar 0 (.int .i64) y5.1.2.1 .dp, ar 0 (.int .i64) y5.1.2.2 .dp]⟩) (φ := True ∧ True ∧ True ∧ True ∧ True ∧ True ∧ True ∧ True ∧ True) (by kernel_rfl) ⟨trivial, trivial, trivial, trivial, trivial, trivial, trivial, trivial, trivial⟩ ?_
    refine VO.nil ?_
    show VW _ _ _ _ _ _ _
    refine VW.seq ?_
    refine VW.seq ?_
    refine VW.region ?_
    refine VO.seg T_ok .dp 2 [1, 2, 3, 8, 9, 10, 11, 12, 13, 14, 45, 46] [0, 1, 2, 3, 4, 5, 6, 7, 8, 9] (s' := ⟨[(1, I a1), (2, I a2), (3, .lf (.ptr 0 0 0 0)), (8, .lf (.ptr 1 0 0 0)), (9, I y3.2.1), (10, B y3.2.2), (11, .lf (.ptr 4 0 0 0)), (12, .lf (.ptr 7 0 0 0)), (13, I y5.2.1), (14, B y5.2.2), (45, .agg [.v (.int .i64) y5.1.1, .hd 8 0 none, .hd 9 0 none]), (46, .agg [.v (.int .i64) y3.1.1, .hd 2 0 none, .hd 3 0 none])], [bx [.v (.int .i64) a0.1, .v (.sl (.int .i64)) a0.2.1, .v (.sl (.int .i64)) a0.2.2] 30, bx [.v (.int .i64) y3.1.1, .hd 2 0 none, .hd 3 0 none] 24, ar 0 (.int .i64) y3.1.2.1 .dp, ar 0 (.int .i64) y3.1.2.2 .dp, bx [.v (.int .i64) y4.1, .hd 5 0 none, .hd 6 0 none] 24, ar 0 (.int .i64) y4.2.1 .dp, ar 0 (.int .i64) y4.2.2 .dp, bx [.v (.int .i64) y5.1.1, .hd 8 0 none, .hd 9 0 none] 24, ar 0 (.int .i64) y5.1.2.1 .dp, ar 0 (.int .i64) y5.1.2.2 .dp]⟩) (φ := True ∧ True ∧ True) (by kernel_rfl) ⟨trivial, trivial, trivial⟩ ?_
    obtain ⟨y7, hy, h⟩ := andO_some h
    refine VO.call true [.t Y23, .t Y23] [] T_ok (d := some 47) (by kernel_rfl) (ok16 N _ _ hy) rfl ?_
    refine VO.seg T_ok .dp 2 [1, 2, 3, 8, 9, 10, 11, 12, 13, 14, 49] [0, 1, 2, 3, 4, 5, 6, 7, 8, 9] (s' := ⟨[(1, I a1), (2, I a2), (3, .lf (.ptr 0 0 0 0)), (8, .lf (.ptr 1 0 0 0)), (9, I y3.2.1), (10, B y3.2.2), (11, .lf (.ptr 4 0 0 0)), (12, .lf (.ptr 7 0 0 0)), (13, I y5.2.1), (14, B y5.2.2), (49, B (!y7))], [bx [.v (.int .i64) a0.1, .v (.sl (.int .i64)) a0.2.1, .v (.sl (.int .i64)) a0.2.2] 30, bx [.v (.int .i64) y3.1.1, .hd 2 0 none, .hd 3 0 none] 24, ar 0 (.int .i64) y3.1.2.1 .dp, ar 0 (.int .i64) y3.1.2.2 .dp, bx [.v (.int .i64) y4.1, .hd 5 0 none, .hd 6 0 none] 24, ar 0 (.int .i64) y4.2.1 .dp, ar 0 (.int .i64) y4.2.2 .dp, bx [.v (.int .i64) y5.1.1, .hd 8 0 none, .hd 9 0 none] 24, ar 0 (.int .i64) y5.1.2.1 .dp, ar 0 (.int .i64) y5.1.2.2 .dp]⟩) (φ := True ∧ True ∧ True) (by kernel_rfl) ⟨trivial, trivial, trivial⟩ ?_
    refine VO.splitB 49 (b := (!y7)) (by kernel_rfl) (fun hb => ?_) (fun hb => ?_)
    · replace h := cond_t h hb; clear hb
      refine VO.seg T_ok .dp 9 [1, 2, 3, 8, 9, 10, 11, 12, 13, 14, 58] [0, 1, 2, 3, 4, 5, 6, 7, 8, 9] (s' := ⟨[(1, I a1), (2, I a2), (3, .lf (.ptr 0 0 0 0)), (8, .lf (.ptr 1 0 0 0)), (9, I y3.2.1), (10, B y3.2.2), (11, .lf (.ptr 4 0 0 0)), (12, .lf (.ptr 7 0 0 0)), (13, I y5.2.1), (14, B y5.2.2), (58, B true)], [bx [.v (.int .i64) a0.1, .v (.sl (.int .i64)) a0.2.1, .v (.sl (.int .i64)) a0.2.2] 30, bx [.v (.int .i64) y3.1.1, .hd 2 0 none, .hd 3 0 none] 24, ar 0 (.int .i64) y3.1.2.1 .dp, ar 0 (.int .i64) y3.1.2.2 .dp, bx [.v (.int .i64) y4.1, .hd 5 0 none, .hd 6 0 none] 24, ar 0 (.int .i64) y4.2.1 .dp, ar 0 (.int .i64) y4.2.2 .dp, bx [.v (.int .i64) y5.1.1, .hd 8 0 none, .hd 9 0 none] 24, ar 0 (.int .i64) y5.1.2.1 .dp, ar 0 (.int .i64) y5.1.2.2 .dp]⟩) (φ := True ∧ True ∧ True ∧ True ∧ True ∧ True ∧ True ∧ True ∧ True ∧ True) (by kernel_rfl) ⟨trivial, trivial, trivial, trivial, trivial, trivial, trivial, trivial, trivial, trivial⟩ ?_
      refine VO.nil ?_
      show VW _ _ _ _ _ _ _
      refine VW.cond (b := true) (by kernel_rfl) (fun _ => ?_) (fun h' => nomatch h')
      refine VW.seq ?_
      refine VW.region ?_
      refine VO.seg T_ok .dp 1 [6] [] (s' := ⟨[(6, B false)], []⟩) (φ := True ∧ True) (by kernel_rfl) ⟨trivial, trivial⟩ ?_
      refine VO.nil ?_
      show VW _ _ _ _ _ _ _
      refine VW.ret ?_
      replace h := Option.some.inj h
      subst h
      exact retR [] (by kernel_rfl) rfl
    · replace h := cond_f h hb; clear hb
      refine VO.seg T_ok .dp 5 [1, 2, 3, 8, 9, 10, 11, 12, 13, 14, 54] [0, 1, 2, 3, 4, 5, 6, 7, 8, 9] (s' := ⟨[(1, I a1), (2, I a2), (3, .lf (.ptr 0 0 0 0)), (8, .lf (.ptr 1 0 0 0)), (9, I y3.2.1), (10, B y3.2.2), (11, .lf (.ptr 4 0 0 0)), (12, .lf (.ptr 7 0 0 0)), (13, I y5.2.1), (14, B y5.2.2), (54, B (y5.2.1 != y3.2.1))], [bx [.v (.int .i64) a0.1, .v (.sl (.int .i64)) a0.2.1, .v (.sl (.int .i64)) a0.2.2] 30, bx [.v (.int .i64) y3.1.1, .hd 2 0 none, .hd 3 0 none] 24, ar 0 (.int .i64) y3.1.2.1 .dp, ar 0 (.int .i64) y3.1.2.2 .dp, bx [.v (.int .i64) y4.1, .hd 5 0 none, .hd 6 0 none] 24, ar 0 (.int .i64) y4.2.1 .dp, ar 0 (.int .i64) y4.2.2 .dp, bx [.v (.int .i64) y5.1.1, .hd 8 0 none, .hd 9 0 none] 24, ar 0 (.int .i64) y5.1.2.1 .dp, ar 0 (.int .i64) y5.1.2.2 .dp]⟩) (φ := True ∧ True ∧ True ∧ True ∧ True ∧ True) (by kernel_rfl) ⟨trivial, trivial, trivial, trivial, trivial, trivial⟩ ?_
      refine VO.splitB 54 (b := (y5.2.1 != y3.2.1)) (by kernel_rfl) (fun hb => ?_) (fun hb => ?_)
      · replace h := cond_t h hb; clear hb
        refine VO.seg T_ok .dp 4 [1, 2, 3, 8, 9, 10, 11, 12, 13, 14, 58] [0, 1, 2, 3, 4, 5, 6, 7, 8, 9] (s' := ⟨[(1, I a1), (2, I a2), (3, .lf (.ptr 0 0 0 0)), (8, .lf (.ptr 1 0 0 0)), (9, I y3.2.1), (10, B y3.2.2), (11, .lf (.ptr 4 0 0 0)), (12, .lf (.ptr 7 0 0 0)), (13, I y5.2.1), (14, B y5.2.2), (58, B true)], [bx [.v (.int .i64) a0.1, .v (.sl (.int .i64)) a0.2.1, .v (.sl (.int .i64)) a0.2.2] 30, bx [.v (.int .i64) y3.1.1, .hd 2 0 none, .hd 3 0 none] 24, ar 0 (.int .i64) y3.1.2.1 .dp, ar 0 (.int .i64) y3.1.2.2 .dp, bx [.v (.int .i64) y4.1, .hd 5 0 none, .hd 6 0 none] 24, ar 0 (.int .i64) y4.2.1 .dp, ar 0 (.int .i64) y4.2.2 .dp, bx [.v (.int .i64) y5.1.1, .hd 8 0 none, .hd 9 0 none] 24, ar 0 (.int .i64) y5.1.2.1 .dp, ar 0 (.int .i64) y5.1.2.2 .dp]⟩) (φ := True ∧ True ∧ True ∧ True ∧ True) (by kernel_rfl) ⟨trivial, trivial, trivial, trivial, trivial⟩ ?_
        refine VO.nil ?_
        show VW _ _ _ _ _ _ _
        refine VW.cond (b := true) (by kernel_rfl) (fun _ => ?_) (fun h' => nomatch h')
        refine VW.seq ?_
        refine VW.region ?_
        refine VO.seg T_ok .dp 1 [6] [] (s' := ⟨[(6, B false)], []⟩) (φ := True ∧ True) (by kernel_rfl) ⟨trivial, trivial⟩ ?_
        refine VO.nil ?_
        show VW _ _ _ _ _ _ _
        refine VW.ret ?_
        replace h := Option.some.inj h
        subst h
        exact retR [] (by kernel_rfl) rfl
      · replace h := cond_f h hb; clear hb
        refine VO.seg T_ok .dp 4 [1, 2, 3, 8, 9, 10, 11, 12, 13, 14, 58] [0, 1, 2, 3, 4, 5, 6, 7, 8, 9] (s' := ⟨[(1, I a1), (2, I a2), (3, .lf (.ptr 0 0 0 0)), (8, .lf (.ptr 1 0 0 0)), (9, I y3.2.1), (10, B y3.2.2), (11, .lf (.ptr 4 0 0 0)), (12, .lf (.ptr 7 0 0 0)), (13, I y5.2.1), (14, B y5.2.2), (58, B (!(y5.2.2 == y3.2.2)))], [bx [.v (.int .i64) a0.1, .v (.sl (.int .i64)) a0.2.1, .v (.sl (.int .i64)) a0.2.2] 30, bx [.v (.int .i64) y3.1.1, .hd 2 0 none, .hd 3 0 none] 24, ar 0 (.int .i64) y3.1.2.1 .dp, ar 0 (.int .i64) y3.1.2.2 .dp, bx [.v (.int .i64) y4.1, .hd 5 0 none, .hd 6 0 none] 24, ar 0 (.int .i64) y4.2.1 .dp, ar 0 (.int .i64) y4.2.2 .dp, bx [.v (.int .i64) y5.1.1, .hd 8 0 none, .hd 9 0 none] 24, ar 0 (.int .i64) y5.1.2.1 .dp, ar 0 (.int .i64) y5.1.2.2 .dp]⟩) (φ := True ∧ True ∧ True ∧ True ∧ True) (by kernel_rfl) ⟨trivial, trivial, trivial, trivial, trivial⟩ ?_
        refine VO.nil ?_
        show VW _ _ _ _ _ _ _
        refine VW.cond (b := (!(y5.2.2 == y3.2.2))) (by kernel_rfl) (fun hb => ?_) (fun hb => ?_)
        · replace h := cond_t h hb; clear hb
          refine VW.seq ?_
          refine VW.region ?_
          refine VO.seg T_ok .dp 1 [6] [] (s' := ⟨[(6, B false)], []⟩) (φ := True ∧ True) (by kernel_rfl) ⟨trivial, trivial⟩ ?_
          refine VO.nil ?_
          show VW _ _ _ _ _ _ _
          refine VW.ret ?_
          replace h := Option.some.inj h
          subst h
          exact retR [] (by kernel_rfl) rfl
        · replace h := cond_f h hb; clear hb
          refine VW.skip ?_
          show VW _ _ _ _ _ _ _
          refine VW.seq ?_
          refine VW.seq ?_
          obtain ⟨y10, hy10, h⟩ := andO_some h
          obtain ⟨y11, hy11, h⟩ := andO_some h
          refine VW.drawn (by kernel_rfl) [some (59, .agg [.v (.int .i64) y4.1, .hd 5 0 none, .hd 6 0 none]), some (60, .agg [.v (.int .i64) a0.1, .v (.sl (.int .i64)) a0.2.1, .v (.sl (.int .i64)) a0.2.2]), some (61, .agg [.v (.int .i64) y10.1, .hd 10 0 none, .hd 11 0 none]), some (62, B y11), some (63, B (!y11))] [2] [[bx [.v (.int .i64) a0.1, .v (.sl (.int .i64)) a0.2.1, .v (.sl (.int .i64)) a0.2.2] 30, bx [.v (.int .i64) y3.1.1, .hd 2 0 none, .hd 3 0 none] 24, ar 0 (.int .i64) y3.1.2.1 .dp, ar 0 (.int .i64) y3.1.2.2 .dp, bx [.v (.int .i64) y4.1, .hd 5 0 none, .hd 6 0 none] 24, ar 0 (.int .i64) y4.2.1 .dp, ar 0 (.int .i64) y4.2.2 .dp, bx [.v (.int .i64) y5.1.1, .hd 8 0 none, .hd 9 0 none] 24, ar 0 (.int .i64) y5.1.2.1 .dp, ar 0 (.int .i64) y5.1.2.2 .dp], [bx [.v (.int .i64) a0.1, .v (.sl (.int .i64)) a0.2.1, .v (.sl (.int .i64)) a0.2.2] 30, bx [.v (.int .i64) y3.1.1, .hd 2 0 none, .hd 3 0 none] 24, ar 0 (.int .i64) y3.1.2.1 .dp, ar 0 (.int .i64) y3.1.2.2 .dp, bx [.v (.int .i64) y4.1, .hd 5 0 none, .hd 6 0 none] 24, ar 0 (.int .i64) y4.2.1 .dp, ar 0 (.int .i64) y4.2.2 .dp, bx [.v (.int .i64) y5.1.1, .hd 8 0 none, .hd 9 0 none] 24, ar 0 (.int .i64) y5.1.2.1 .dp, ar 0 (.int .i64) y5.1.2.2 .dp, ar 0 (.int .i64) y10.2.1 .dp, ar 0 (.int .i64) y10.2.2 .dp]] [(0, 0), (0, 1), (1, 0), (2, 0), (3, 1), (4, 0), (4, 1)] [1, 2, 3, 8, 9, 10, 11, 12, 13, 14, 63] [0, 1, 2, 3, 4, 5, 6, 7, 8, 9] (s' := ⟨[(1, I a1), (2, I a2), (3, .lf (.ptr 0 0 0 0)), (8, .lf (.ptr 1 0 0 0)), (9, I y3.2.1), (10, B y3.2.2), (11, .lf (.ptr 4 0 0 0)), (12, .lf (.ptr 7 0 0 0)), (13, I y5.2.1), (14, B y5.2.2), (63, B (!y11))], [bx [.v (.int .i64) a0.1, .v (.sl (.int .i64)) a0.2.1, .v (.sl (.int .i64)) a0.2.2] 30, bx [.v (.int .i64) y3.1.1, .hd 2 0 none, .hd 3 0 none] 24, ar 0 (.int .i64) y3.1.2.1 .dp, ar 0 (.int .i64) y3.1.2.2 .dp, bx [.v (.int .i64) y4.1, .hd 5 0 none, .hd 6 0 none] 24, ar 0 (.int .i64) y4.2.1 .dp, ar 0 (.int .i64) y4.2.2 .dp, bx [.v (.int .i64) y5.1.1, .hd 8 0 none, .hd 9 0 none] 24, ar 0 (.int .i64) y5.1.2.1 .dp, ar 0 (.int .i64) y5.1.2.2 .dp]⟩) (by kernel_rfl) (by kernel_rfl) ⟨⟨_, rfl, Stp.ev T_ok (m := .dp) (φ := True) (by kernel_rfl) trivial⟩,
    ⟨_, rfl, Stp.ev T_ok (m := .dp) (φ := True) (by kernel_rfl) trivial⟩,
    ⟨_, rfl, Stp.ev T_ok (m := .dp) (φ := True) (by kernel_rfl) trivial⟩,
    ⟨_, rfl, Stp.eq (Stp.call false [.t Y23] [] T_ok (d := some 61) (by kernel_rfl) (ok21 N _ hy10) rfl) (by kernel_rfl) (by kernel_rfl)⟩,
    ⟨_, rfl, Stp.eq (Stp.call true [.t Y23, .t Y23] [] T_ok (d := some 62) (by kernel_rfl) (ok16 N _ _ hy11) rfl) (by kernel_rfl) (by kernel_rfl)⟩,
    ⟨_, rfl, Stp.ev T_ok (m := .dp) (φ := True) (by kernel_rfl) trivial⟩,
    ⟨_, rfl, Stp.ev T_ok (m := .dp) (φ := True) (by kernel_rfl) trivial⟩, trivial⟩ (by kernel_rfl) ?_
          show VW _ _ _ _ _ _ _
          refine VW.cond (b := (!y11)) (by kernel_rfl) (fun hb => ?_) (fun hb => ?_)
          · replace h := cond_t h hb; clear hb
            refine VW.seq ?_
            refine VW.region ?_
            refine VO.seg T_ok .dp 1 [6] [] (s' := ⟨[(6, B false)], []⟩) (φ := True ∧ True) (by kernel_rfl) ⟨trivial, trivial⟩ ?_
            refine VO.nil ?_
            show VW _ _ _ _ _ _ _
            refine VW.ret ?_
            replace h := Option.some.inj h
            subst h
            exact retR [] (by kernel_rfl) rfl
          · replace h := cond_f h hb; clear hb
            refine VW.skip ?_
            show VW _ _ _ _ _ _ _
            refine VW.seq ?_
            refine VW.region ?_
            refine VO.seg T_ok .dp 1 [1, 2, 3, 8, 9, 10, 11, 12, 13, 14, 15] [0, 1, 2, 3, 4, 5, 6, 7, 8, 9] (s' := ⟨[(1, I a1), (2, I a2), (3, .lf (.ptr 0 0 0 0)), (8, .lf (.ptr 1 0 0 0)), (9, I y3.2.1), (10, B y3.2.2), (11, .lf (.ptr 4 0 0 0)), (12, .lf (.ptr 7 0 0 0)), (13, I y5.2.1), (14, B y5.2.2), (15, I (1 : Int))], [bx [.v (.int .i64) a0.1, .v (.sl (.int .i64)) a0.2.1, .v (.sl (.int .i64)) a0.2.2] 30, bx [.v (.int .i64) y3.1.1, .hd 2 0 none, .hd 3 0 none] 24, ar 0 (.int .i64) y3.1.2.1 .dp, ar 0 (.int .i64) y3.1.2.2 .dp, bx [.v (.int .i64) y4.1, .hd 5 0 none, .hd 6 0 none] 24, ar 0 (.int .i64) y4.2.1 .dp, ar 0 (.int .i64) y4.2.2 .dp, bx [.v (.int .i64) y5.1.1, .hd 8 0 none, .hd 9 0 none] 24, ar 0 (.int .i64) y5.1.2.1 .dp, ar 0 (.int .i64) y5.1.2.2 .dp]⟩) (φ := True ∧ True) (by kernel_rfl) ⟨trivial, trivial⟩ ?_
            refine VO.nil ?_
            show VW _ _ _ _ _ _ _
            refine VW.seq ?_
            refine VW.region ?_
            refine VO.seg T_ok .dp 2 [1, 2, 3, 8, 9, 10, 12, 13, 14, 64, 65] [0, 1, 2, 3, 7, 8, 9, 5, 6] (s' := ⟨[(1, I a1), (2, I a2), (3, .lf (.ptr 0 0 0 0)), (8, .lf (.ptr 1 0 0 0)), (9, I y3.2.1), (10, B y3.2.2), (12, .lf (.ptr 4 0 0 0)), (13, I y5.2.1), (14, B y5.2.2), (64, .agg [.v (.int .i64) y4.1, .hd 7 0 none, .hd 8 0 none]), (65, I (1 : Int))], [bx [.v (.int .i64) a0.1, .v (.sl (.int .i64)) a0.2.1, .v (.sl (.int .i64)) a0.2.2] 30, bx [.v (.int .i64) y3.1.1, .hd 2 0 none, .hd 3 0 none] 24, ar 0 (.int .i64) y3.1.2.1 .dp, ar 0 (.int .i64) y3.1.2.2 .dp, bx [.v (.int .i64) y5.1.1, .hd 5 0 none, .hd 6 0 none] 24, ar 0 (.int .i64) y5.1.2.1 .dp, ar 0 (.int .i64) y5.1.2.2 .dp, ar 0 (.int .i64) y4.2.1 .dp, ar 0 (.int .i64) y4.2.2 .dp]⟩) (φ := True ∧ True ∧ True) (by kernel_rfl) ⟨trivial, trivial, trivial⟩ ?_
            obtain ⟨y12, hy, h⟩ := andO_some h
            refine VO.callM [7, 8] [.t Y23, .t (.int .i64)] (d := some 66) (by kernel_rfl) (by kernel_rfl) (ok17 N _ _ hy) (by kernel_rfl) ?_
            refine VO.seg T_ok .dp 1 [1, 2, 3, 8, 9, 10, 12, 13, 14, 15] [0, 1, 2, 3, 4, 5, 6] (s' := ⟨[(1, I a1), (2, I a2), (3, .lf (.ptr 0 0 0 0)), (8, .lf (.ptr 1 0 0 0)), (9, I y3.2.1), (10, B y3.2.2), (12, .lf (.ptr 4 0 0 0)), (13, I y5.2.1), (14, B y5.2.2), (15, I y12.2.2)], [bx [.v (.int .i64) a0.1, .v (.sl (.int .i64)) a0.2.1, .v (.sl (.int .i64)) a0.2.2] 30, bx [.v (.int .i64) y3.1.1, .hd 2 0 none, .hd 3 0 none] 24, ar 0 (.int .i64) y3.1.2.1 .dp, ar 0 (.int .i64) y3.1.2.2 .dp, bx [.v (.int .i64) y5.1.1, .hd 5 0 none, .hd 6 0 none] 24, ar 0 (.int .i64) y5.1.2.1 .dp, ar 0 (.int .i64) y5.1.2.2 .dp]⟩) (φ := True ∧ True) (by kernel_rfl) ⟨trivial, trivial⟩ ?_
            refine VO.nil ?_
            show VW _ _ _ _ _ _ _
            refine VW.seq ?_
            refine VW.seq ?_
            refine VW.region ?_
            refine VO.seg T_ok .dp 3 [1, 2, 3, 8, 9, 10, 12, 13, 14, 69] [0, 1, 2, 3, 4, 5, 6] (s' := ⟨[(1, I a1), (2, I a2), (3, .lf (.ptr 0 0 0 0)), (8, .lf (.ptr 1 0 0 0)), (9, I y3.2.1), (10, B y3.2.2), (12, .lf (.ptr 4 0 0 0)), (13, I y5.2.1), (14, B y5.2.2), (69, B (decide (y12.2.2 < (0 : Int))))], [bx [.v (.int .i64) a0.1, .v (.sl (.int .i64)) a0.2.1, .v (.sl (.int .i64)) a0.2.2] 30, bx [.v (.int .i64) y3.1.1, .hd 2 0 none, .hd 3 0 none] 24, ar 0 (.int .i64) y3.1.2.1 .dp, ar 0 (.int .i64) y3.1.2.2 .dp, bx [.v (.int .i64) y5.1.1, .hd 5 0 none, .hd 6 0 none] 24, ar 0 (.int .i64) y5.1.2.1 .dp, ar 0 (.int .i64) y5.1.2.2 .dp]⟩) (φ := True ∧ True ∧ True ∧ True) (by kernel_rfl) ⟨trivial, trivial, trivial, trivial⟩ ?_
            refine VO.splitB 69 (b := (decide (y12.2.2 < (0 : Int)))) (by kernel_rfl) (fun hb => ?_) (fun hb => ?_)
            · replace h := cond_t h hb; clear hb
              refine VO.seg T_ok .dp 15 [1, 2, 3, 8, 9, 10, 12, 84] [0, 1, 2, 3, 4, 5, 6] (s' := ⟨[(1, I a1), (2, I a2), (3, .lf (.ptr 0 0 0 0)), (8, .lf (.ptr 1 0 0 0)), (9, I y3.2.1), (10, B y3.2.2), (12, .lf (.ptr 4 0 0 0)), (84, B true)], [bx [.v (.int .i64) a0.1, .v (.sl (.int .i64)) a0.2.1, .v (.sl (.int .i64)) a0.2.2] 30, bx [.v (.int .i64) y3.1.1, .hd 2 0 none, .hd 3 0 none] 24, ar 0 (.int .i64) y3.1.2.1 .dp, ar 0 (.int .i64) y3.1.2.2 .dp, bx [.v (.int .i64) y5.1.1, .hd 5 0 none, .hd 6 0 none] 24, ar 0 (.int .i64) y5.1.2.1 .dp, ar 0 (.int .i64) y5.1.2.2 .dp]⟩) (φ := True ∧ True ∧ True ∧ True ∧ True ∧ True ∧ True ∧ True ∧ True ∧ True ∧ True ∧ True ∧ True ∧ True ∧ True ∧ True) (by kernel_rfl) ⟨trivial, trivial, trivial, trivial, trivial, trivial, trivial, trivial, trivial, trivial, trivial, trivial, trivial, trivial, trivial, trivial⟩ ?_
              refine VO.nil ?_
              show VW _ _ _ _ _ _ _
              refine VW.cond (b := true) (by kernel_rfl) (fun _ => ?_) (fun h' => nomatch h')
              refine VW.seq ?_
              refine VW.region ?_
              refine VO.seg T_ok .dp 1 [6] [] (s' := ⟨[(6, B false)], []⟩) (φ := True ∧ True) (by kernel_rfl) ⟨trivial, trivial⟩ ?_
              refine VO.nil ?_
              show VW _ _ _ _ _ _ _
              refine VW.ret ?_
              replace h := Option.some.inj h
              subst h
              exact retR [] (by kernel_rfl) rfl
            · replace h := cond_f h hb; clear hb
              refine VO.seg T_ok .dp 2 [1, 2, 3, 8, 9, 10, 12, 13, 14, 69, 70, 71] [0, 1, 2, 3, 4, 5, 6] (s' := ⟨[(1, I a1), (2, I a2), (3, .lf (.ptr 0 0 0 0)), (8, .lf (.ptr 1 0 0 0)), (9, I y3.2.1), (10, B y3.2.2), (12, .lf (.ptr 4 0 0 0)), (13, I y5.2.1), (14, B y5.2.2), (69, B false), (70, .agg [.v (.int .i64) y5.1.1, .hd 5 0 none, .hd 6 0 none]), (71, .agg [.v (.int .i64) y3.1.1, .hd 2 0 none, .hd 3 0 none])], [bx [.v (.int .i64) a0.1, .v (.sl (.int .i64)) a0.2.1, .v (.sl (.int .i64)) a0.2.2] 30, bx [.v (.int .i64) y3.1.1, .hd 2 0 none, .hd 3 0 none] 24, ar 0 (.int .i64) y3.1.2.1 .dp, ar 0 (.int .i64) y3.1.2.2 .dp, bx [.v (.int .i64) y5.1.1, .hd 5 0 none, .hd 6 0 none] 24, ar 0 (.int .i64) y5.1.2.1 .dp, ar 0 (.int .i64) y5.1.2.2 .dp]⟩) (φ := True ∧ True ∧ True) (by kernel_rfl) ⟨trivial, trivial, trivial⟩ ?_
              refine VO.on (j := 2) (want := false) (d := 69) (b := false) rfl rfl rfl (by kernel_rfl) rfl ?_
              obtain ⟨y14, hy, h⟩ := andO_some h
              refine VO.call true [.t Y23, .t Y23] [] T_ok (d := some 72) (by kernel_rfl) (ok16 N _ _ hy) rfl ?_
              refine VO.seg T_ok .dp 3 [1, 2, 3, 8, 9, 10, 12, 13, 14, 75] [0, 1, 2, 3, 4, 5, 6] (s' := ⟨[(1, I a1), (2, I a2), (3, .lf (.ptr 0 0 0 0)), (8, .lf (.ptr 1 0 0 0)), (9, I y3.2.1), (10, B y3.2.2), (12, .lf (.ptr 4 0 0 0)), (13, I y5.2.1), (14, B y5.2.2), (75, B (!y14))], [bx [.v (.int .i64) a0.1, .v (.sl (.int .i64)) a0.2.1, .v (.sl (.int .i64)) a0.2.2] 30, bx [.v (.int .i64) y3.1.1, .hd 2 0 none, .hd 3 0 none] 24, ar 0 (.int .i64) y3.1.2.1 .dp, ar 0 (.int .i64) y3.1.2.2 .dp, bx [.v (.int .i64) y5.1.1, .hd 5 0 none, .hd 6 0 none] 24, ar 0 (.int .i64) y5.1.2.1 .dp, ar 0 (.int .i64) y5.1.2.2 .dp]⟩) (φ := True ∧ True ∧ True ∧ True) (by kernel_rfl) ⟨trivial, trivial, trivial, trivial⟩ ?_
              refine VO.splitB 75 (b := (!y14)) (by kernel_rfl) (fun hb => ?_) (fun hb => ?_)
              · replace h := cond_t h hb; clear hb
                refine VO.seg T_ok .dp 9 [1, 2, 3, 8, 9, 10, 12, 84] [0, 1, 2, 3, 4, 5, 6] (s' := ⟨[(1, I a1), (2, I a2), (3, .lf (.ptr 0 0 0 0)), (8, .lf (.ptr 1 0 0 0)), (9, I y3.2.1), (10, B y3.2.2), (12, .lf (.ptr 4 0 0 0)), (84, B true)], [bx [.v (.int .i64) a0.1, .v (.sl (.int .i64)) a0.2.1, .v (.sl (.int .i64)) a0.2.2] 30, bx [.v (.int .i64) y3.1.1, .hd 2 0 none, .hd 3 0 none] 24, ar 0 (.int .i64) y3.1.2.1 .dp, ar 0 (.int .i64) y3.1.2.2 .dp, bx [.v (.int .i64) y5.1.1, .hd 5 0 none, .hd 6 0 none] 24, ar 0 (.int .i64) y5.1.2.1 .dp, ar 0 (.int .i64) y5.1.2.2 .dp]⟩) (φ := True ∧ True ∧ True ∧ True ∧ True ∧ True ∧ True ∧ True ∧ True ∧ True) (by kernel_rfl) ⟨trivial, trivial, trivial, trivial, trivial, trivial, trivial, trivial, trivial, trivial⟩ ?_
                refine VO.nil ?_
                show VW _ _ _ _ _ _ _
                refine VW.cond (b := true) (by kernel_rfl) (fun _ => ?_) (fun h' => nomatch h')
                refine VW.seq ?_
                refine VW.region ?_
                refine VO.seg T_ok .dp 1 [6] [] (s' := ⟨[(6, B false)], []⟩) (φ := True ∧ True) (by kernel_rfl) ⟨trivial, trivial⟩ ?_
                refine VO.nil ?_
                show VW _ _ _ _ _ _ _
                refine VW.ret ?_
                replace h := Option.some.inj h
                subst h
                exact retR [] (by kernel_rfl) rfl
              · replace h := cond_f h hb; clear hb
                refine VO.seg T_ok .dp 5 [1, 2, 3, 8, 9, 10, 12, 14, 80] [0, 1, 2, 3, 4, 5, 6] (s' := ⟨[(1, I a1), (2, I a2), (3, .lf (.ptr 0 0 0 0)), (8, .lf (.ptr 1 0 0 0)), (9, I y3.2.1), (10, B y3.2.2), (12, .lf (.ptr 4 0 0 0)), (14, B y5.2.2), (80, B (y5.2.1 != y3.2.1))], [bx [.v (.int .i64) a0.1, .v (.sl (.int .i64)) a0.2.1, .v (.sl (.int .i64)) a0.2.2] 30, bx [.v (.int .i64) y3.1.1, .hd 2 0 none, .hd 3 0 none] 24, ar 0 (.int .i64) y3.1.2.1 .dp, ar 0 (.int .i64) y3.1.2.2 .dp, bx [.v (.int .i64) y5.1.1, .hd 5 0 none, .hd 6 0 none] 24, ar 0 (.int .i64) y5.1.2.1 .dp, ar 0 (.int .i64) y5.1.2.2 .dp]⟩) (φ := True ∧ True ∧ True ∧ True ∧ True ∧ True) (by kernel_rfl) ⟨trivial, trivial, trivial, trivial, trivial, trivial⟩ ?_
                refine VO.splitB 80 (b := (y5.2.1 != y3.2.1)) (by kernel_rfl) (fun hb => ?_) (fun hb => ?_)
                · replace h := cond_t h hb; clear hb
                  refine VO.seg T_ok .dp 4 [1, 2, 3, 8, 9, 10, 12, 84] [0, 1, 2, 3, 4, 5, 6] (s' := ⟨[(1, I a1), (2, I a2), (3, .lf (.ptr 0 0 0 0)), (8, .lf (.ptr 1 0 0 0)), (9, I y3.2.1), (10, B y3.2.2), (12, .lf (.ptr 4 0 0 0)), (84, B true)], [bx [.v (.int .i64) a0.1, .v (.sl (.int .i64)) a0.2.1, .v (.sl (.int .i64)) a0.2.2] 30, bx [.v (.int .i64) y3.1.1, .hd 2 0 none, .hd 3 0 none] 24, ar 0 (.int .i64) y3.1.2.1 .dp, ar 0 (.int .i64) y3.1.2.2 .dp, bx [.v (.int .i64) y5.1.1, .hd 5 0 none, .hd 6 0 none] 24, ar 0 (.int .i64) y5.1.2.1 .dp, ar 0 (.int .i64) y5.1.2.2 .dp]⟩) (φ := True ∧ True ∧ True ∧ True ∧ True) (by kernel_rfl) ⟨trivial, trivial, trivial, trivial, trivial⟩ ?_
                  refine VO.nil ?_
                  show VW _ _ _ _ _ _ _
                  refine VW.cond (b := true) (by kernel_rfl) (fun _ => ?_) (fun h' => nomatch h')
                  refine VW.seq ?_
                  refine VW.region ?_
                  refine VO.seg T_ok .dp 1 [6] [] (s' := ⟨[(6, B false)], []⟩) (φ := True ∧ True) (by kernel_rfl) ⟨trivial, trivial⟩ ?_
                  refine VO.nil ?_
                  show VW _ _ _ _ _ _ _
                  refine VW.ret ?_
                  replace h := Option.some.inj h
                  subst h
                  exact retR [] (by kernel_rfl) rfl
                · replace h := cond_f h hb; clear hb
                  refine VO.seg T_ok .dp 4 [1, 2, 3, 8, 9, 10, 12, 84] [0, 1, 2, 3, 4, 5, 6] (s' := ⟨[(1, I a1), (2, I a2), (3, .lf (.ptr 0 0 0 0)), (8, .lf (.ptr 1 0 0 0)), (9, I y3.2.1), (10, B y3.2.2), (12, .lf (.ptr 4 0 0 0)), (84, B (!(y5.2.2 == y3.2.2)))], [bx [.v (.int .i64) a0.1, .v (.sl (.int .i64)) a0.2.1, .v (.sl (.int .i64)) a0.2.2] 30, bx [.v (.int .i64) y3.1.1, .hd 2 0 none, .hd 3 0 none] 24, ar 0 (.int .i64) y3.1.2.1 .dp, ar 0 (.int .i64) y3.1.2.2 .dp, bx [.v (.int .i64) y5.1.1, .hd 5 0 none, .hd 6 0 none] 24, ar 0 (.int .i64) y5.1.2.1 .dp, ar 0 (.int .i64) y5.1.2.2 .dp]⟩) (φ := True ∧ True ∧ True ∧ True ∧ True) (by kernel_rfl) ⟨trivial, trivial, trivial, trivial, trivial⟩ ?_
                  refine VO.nil ?_
                  show VW _ _ _ _ _ _ _
                  refine VW.cond (b := (!(y5.2.2 == y3.2.2))) (by kernel_rfl) (fun hb => ?_) (fun hb => ?_)
                  · replace h := cond_t h hb; clear hb
                    refine VW.seq ?_
                    refine VW.region ?_
                    refine VO.seg T_ok .dp 1 [6] [] (s' := ⟨[(6, B false)], []⟩) (φ := True ∧ True) (by kernel_rfl) ⟨trivial, trivial⟩ ?_
                    refine VO.nil ?_
                    show VW _ _ _ _ _ _ _
                    refine VW.ret ?_
                    replace h := Option.some.inj h
                    subst h
                    exact retR [] (by kernel_rfl) rfl
                  · replace h := cond_f h hb; clear hb
                    refine VW.skip ?_
                    show VW _ _ _ _ _ _ _
                    refine VW.seq ?_
                    refine VW.region ?_
                    refine VO.seg T_ok .dp 1 [1, 2, 3, 8, 9, 10, 12, 16] [0, 1, 2, 3, 4, 5, 6] (s' := ⟨[(1, I a1), (2, I a2), (3, .lf (.ptr 0 0 0 0)), (8, .lf (.ptr 1 0 0 0)), (9, I y3.2.1), (10, B y3.2.2), (12, .lf (.ptr 4 0 0 0)), (16, I (1 : Int))], [bx [.v (.int .i64) a0.1, .v (.sl (.int .i64)) a0.2.1, .v (.sl (.int .i64)) a0.2.2] 30, bx [.v (.int .i64) y3.1.1, .hd 2 0 none, .hd 3 0 none] 24, ar 0 (.int .i64) y3.1.2.1 .dp, ar 0 (.int .i64) y3.1.2.2 .dp, bx [.v (.int .i64) y5.1.1, .hd 5 0 none, .hd 6 0 none] 24, ar 0 (.int .i64) y5.1.2.1 .dp, ar 0 (.int .i64) y5.1.2.2 .dp]⟩) (φ := True ∧ True) (by kernel_rfl) ⟨trivial, trivial⟩ ?_
                    refine VO.nil ?_
                    show VW _ _ _ _ _ _ _
                    refine VW.seq ?_
                    refine VW.region ?_
                    refine VO.seg T_ok .dp 2 [1, 2, 3, 8, 9, 10, 12, 85, 86] [0, 1, 2, 3, 4, 5, 6] (s' := ⟨[(1, I a1), (2, I a2), (3, .lf (.ptr 0 0 0 0)), (8, .lf (.ptr 1 0 0 0)), (9, I y3.2.1), (10, B y3.2.2), (12, .lf (.ptr 4 0 0 0)), (85, .agg [.v (.int .i64) y5.1.1, .hd 5 0 none, .hd 6 0 none]), (86, I (1 : Int))], [bx [.v (.int .i64) a0.1, .v (.sl (.int .i64)) a0.2.1, .v (.sl (.int .i64)) a0.2.2] 30, bx [.v (.int .i64) y3.1.1, .hd 2 0 none, .hd 3 0 none] 24, ar 0 (.int .i64) y3.1.2.1 .dp, ar 0 (.int .i64) y3.1.2.2 .dp, bx [.v (.int .i64) y5.1.1, .hd 5 0 none, .hd 6 0 none] 24, ar 0 (.int .i64) y5.1.2.1 .dp, ar 0 (.int .i64) y5.1.2.2 .dp]⟩) (φ := True ∧ True ∧ True) (by kernel_rfl) ⟨trivial, trivial, trivial⟩ ?_
                    obtain ⟨y15, hy, h⟩ := andO_some h
                    refine VO.callM [5, 6] [.t Y23, .t (.int .i64)] (d := some 87) (by kernel_rfl) (by kernel_rfl) (ok17 N _ _ hy) (by kernel_rfl) ?_
                    refine VO.seg T_ok .dp 1 [1, 2, 3, 8, 9, 10, 12, 16] [0, 1, 2, 3, 4, 5, 6] (s' := ⟨[(1, I a1), (2, I a2), (3, .lf (.ptr 0 0 0 0)), (8, .lf (.ptr 1 0 0 0)), (9, I y3.2.1), (10, B y3.2.2), (12, .lf (.ptr 4 0 0 0)), (16, I y15.2.2)], [bx [.v (.int .i64) a0.1, .v (.sl (.int .i64)) a0.2.1, .v (.sl (.int .i64)) a0.2.2] 30, bx [.v (.int .i64) y3.1.1, .hd 2 0 none, .hd 3 0 none] 24, ar 0 (.int .i64) y3.1.2.1 .dp, ar 0 (.int .i64) y3.1.2.2 .dp, bx [.v (.int .i64) y5.1.1, .hd 5 0 none, .hd 6 0 none] 24, ar 0 (.int .i64) y15.1 .dp, ar 0 (.int .i64) y15.2.1 .dp]⟩) (φ := True ∧ True) (by kernel_rfl) ⟨trivial, trivial⟩ ?_
                    refine VO.nil ?_
                    show VW _ _ _ _ _ _ _
                    refine VW.seq ?_
                    refine VW.region ?_
                    refine VO.seg T_ok .dp 1 [1, 2, 3, 8, 9, 10, 12, 16, 17] [0, 1, 2, 3, 4, 5, 6] (s' := ⟨[(1, I a1), (2, I a2), (3, .lf (.ptr 0 0 0 0)), (8, .lf (.ptr 1 0 0 0)), (9, I y3.2.1), (10, B y3.2.2), (12, .lf (.ptr 4 0 0 0)), (16, I y15.2.2), (17, I (1 : Int))], [bx [.v (.int .i64) a0.1, .v (.sl (.int .i64)) a0.2.1, .v (.sl (.int .i64)) a0.2.2] 30, bx [.v (.int .i64) y3.1.1, .hd 2 0 none, .hd 3 0 none] 24, ar 0 (.int .i64) y3.1.2.1 .dp, ar 0 (.int .i64) y3.1.2.2 .dp, bx [.v (.int .i64) y5.1.1, .hd 5 0 none, .hd 6 0 none] 24, ar 0 (.int .i64) y15.1 .dp, ar 0 (.int .i64) y15.2.1 .dp]⟩) (φ := True ∧ True) (by kernel_rfl) ⟨trivial, trivial⟩ ?_
                    refine VO.nil ?_
                    show VW _ _ _ _ _ _ _
                    refine VW.seq ?_
                    refine VW.region ?_
                    refine VO.seg T_ok .dp 2 [1, 2, 3, 8, 9, 10, 12, 16, 88, 89] [0, 1, 2, 3, 4, 5, 6] (s' := ⟨[(1, I a1), (2, I a2), (3, .lf (.ptr 0 0 0 0)), (8, .lf (.ptr 1 0 0 0)), (9, I y3.2.1), (10, B y3.2.2), (12, .lf (.ptr 4 0 0 0)), (16, I y15.2.2), (88, .agg [.v (.int .i64) y5.1.1, .hd 5 0 none, .hd 6 0 none]), (89, I (1 : Int))], [bx [.v (.int .i64) a0.1, .v (.sl (.int .i64)) a0.2.1, .v (.sl (.int .i64)) a0.2.2] 30, bx [.v (.int .i64) y3.1.1, .hd 2 0 none, .hd 3 0 none] 24, ar 0 (.int .i64) y3.1.2.1 .dp, ar 0 (.int .i64) y3.1.2.2 .dp, bx [.v (.int .i64) y5.1.1, .hd 5 0 none, .hd 6 0 none] 24, ar 0 (.int .i64) y15.1 .dp, ar 0 (.int .i64) y15.2.1 .dp]⟩) (φ := True ∧ True ∧ True) (by kernel_rfl) ⟨trivial, trivial, trivial⟩ ?_
                    obtain ⟨y16, hy, h⟩ := andO_some h
                    refine VO.call true [.t Y23, .t (.int .i64)] [] T_ok (d := some 90) (by kernel_rfl) (ok18 N _ _ hy) rfl ?_
                    refine VO.seg T_ok .dp 1 [1, 2, 3, 8, 9, 10, 12, 16, 17] [0, 1, 2, 3, 4, 5, 6] (s' := ⟨[(1, I a1), (2, I a2), (3, .lf (.ptr 0 0 0 0)), (8, .lf (.ptr 1 0 0 0)), (9, I y3.2.1), (10, B y3.2.2), (12, .lf (.ptr 4 0 0 0)), (16, I y15.2.2), (17, I y16)], [bx [.v (.int .i64) a0.1, .v (.sl (.int .i64)) a0.2.1, .v (.sl (.int .i64)) a0.2.2] 30, bx [.v (.int .i64) y3.1.1, .hd 2 0 none, .hd 3 0 none] 24, ar 0 (.int .i64) y3.1.2.1 .dp, ar 0 (.int .i64) y3.1.2.2 .dp, bx [.v (.int .i64) y5.1.1, .hd 5 0 none, .hd 6 0 none] 24, ar 0 (.int .i64) y15.1 .dp, ar 0 (.int .i64) y15.2.1 .dp]⟩) (φ := True ∧ True) (by kernel_rfl) ⟨trivial, trivial⟩ ?_
                    refine VO.nil ?_
                    show VW _ _ _ _ _ _ _
                    refine VW.seq ?_
                    refine VW.seq ?_
                    refine VW.region ?_
                    refine VO.seg T_ok .dp 2 [1, 2, 3, 8, 9, 10, 12, 16, 17, 92] [0, 1, 2, 3, 4, 5, 6] (s' := ⟨[(1, I a1), (2, I a2), (3, .lf (.ptr 0 0 0 0)), (8, .lf (.ptr 1 0 0 0)), (9, I y3.2.1), (10, B y3.2.2), (12, .lf (.ptr 4 0 0 0)), (16, I y15.2.2), (17, I y16), (92, B (decide (y16 < (0 : Int))))], [bx [.v (.int .i64) a0.1, .v (.sl (.int .i64)) a0.2.1, .v (.sl (.int .i64)) a0.2.2] 30, bx [.v (.int .i64) y3.1.1, .hd 2 0 none, .hd 3 0 none] 24, ar 0 (.int .i64) y3.1.2.1 .dp, ar 0 (.int .i64) y3.1.2.2 .dp, bx [.v (.int .i64) y5.1.1, .hd 5 0 none, .hd 6 0 none] 24, ar 0 (.int .i64) y15.1 .dp, ar 0 (.int .i64) y15.2.1 .dp]⟩) (φ := True ∧ True ∧ True) (by kernel_rfl) ⟨trivial, trivial, trivial⟩ ?_
                    refine VO.nil ?_
                    show VW _ _ _ _ _ _ _
                    refine VW.cond (b := (decide (y16 < (0 : Int)))) (by kernel_rfl) (fun hb => ?_) (fun hb => ?_)
                    · replace h := cond_t h hb; clear hb
                      refine VW.seq ?_
                      refine VW.region ?_
                      refine VO.seg T_ok .dp 1 [6] [] (s' := ⟨[(6, B false)], []⟩) (φ := True ∧ True) (by kernel_rfl) ⟨trivial, trivial⟩ ?_
                      refine VO.nil ?_
                      show VW _ _ _ _ _ _ _
                      refine VW.ret ?_
                      replace h := Option.some.inj h
                      subst h
                      exact retR [] (by kernel_rfl) rfl
                    · replace h := cond_f h hb; clear hb
                      refine VW.skip ?_
                      show VW _ _ _ _ _ _ _
                      refine VW.seq ?_
                      refine VW.seq ?_
                      refine VW.region ?_
                      refine VO.seg T_ok .dp 3 [1, 2, 3, 8, 9, 10, 12, 16, 95] [0, 1, 2, 3, 4, 5, 6] (s' := ⟨[(1, I a1), (2, I a2), (3, .lf (.ptr 0 0 0 0)), (8, .lf (.ptr 1 0 0 0)), (9, I y3.2.1), (10, B y3.2.2), (12, .lf (.ptr 4 0 0 0)), (16, I y15.2.2), (95, B (y16 != y15.2.2))], [bx [.v (.int .i64) a0.1, .v (.sl (.int .i64)) a0.2.1, .v (.sl (.int .i64)) a0.2.2] 30, bx [.v (.int .i64) y3.1.1, .hd 2 0 none, .hd 3 0 none] 24, ar 0 (.int .i64) y3.1.2.1 .dp, ar 0 (.int .i64) y3.1.2.2 .dp, bx [.v (.int .i64) y5.1.1, .hd 5 0 none, .hd 6 0 none] 24, ar 0 (.int .i64) y15.1 .dp, ar 0 (.int .i64) y15.2.1 .dp]⟩) (φ := True ∧ True ∧ True ∧ True) (by kernel_rfl) ⟨trivial, trivial, trivial, trivial⟩ ?_
                      refine VO.nil ?_
                      show VW _ _ _ _ _ _ _
                      refine VW.cond (b := (y16 != y15.2.2)) (by kernel_rfl) (fun hb => ?_) (fun hb => ?_)
                      · replace h := cond_t h hb; clear hb
                        refine VW.seq ?_
                        refine VW.region ?_
                        refine VO.seg T_ok .dp 1 [6] [] (s' := ⟨[(6, B false)], []⟩) (φ := True ∧ True) (by kernel_rfl) ⟨trivial, trivial⟩ ?_
                        refine VO.nil ?_
                        show VW _ _ _ _ _ _ _
                        refine VW.ret ?_
                        replace h := Option.some.inj h
                        subst h
                        exact retR [] (by kernel_rfl) rfl
                      · replace h := cond_f h hb; clear hb
                        refine VW.skip ?_
                        show VW _ _ _ _ _ _ _
                        refine VW.seq ?_
                        refine VW.region ?_
                        refine VO.seg T_ok .dp 1 [1, 2, 8, 9, 10, 12, 16, 97] [1, 2, 3, 4, 5, 6] (s' := ⟨[(1, I a1), (2, I a2), (8, .lf (.ptr 0 0 0 0)), (9, I y3.2.1), (10, B y3.2.2), (12, .lf (.ptr 3 0 0 0)), (16, I y15.2.2), (97, .agg [.v (.int .i64) a0.1, .v (.sl (.int .i64)) a0.2.1, .v (.sl (.int .i64)) a0.2.2])], [bx [.v (.int .i64) y3.1.1, .hd 1 0 none, .hd 2 0 none] 24, ar 0 (.int .i64) y3.1.2.1 .dp, ar 0 (.int .i64) y3.1.2.2 .dp, bx [.v (.int .i64) y5.1.1, .hd 4 0 none, .hd 5 0 none] 24, ar 0 (.int .i64) y15.1 .dp, ar 0 (.int .i64) y15.2.1 .dp]⟩) (φ := True ∧ True) (by kernel_rfl) ⟨trivial, trivial⟩ ?_
                        obtain ⟨y17, hy, h⟩ := andO_some h
                        refine VO.call false [.t Y23] [] T_ok (d := some 98) (by kernel_rfl) (ok21 N _ hy) rfl ?_
                        refine VO.seg T_ok .dp 2 [8, 9, 10, 12, 16, 98, 99, 100] [0, 1, 2, 3, 4, 5, 6, 7] (s' := ⟨[(8, .lf (.ptr 0 0 0 0)), (9, I y3.2.1), (10, B y3.2.2), (12, .lf (.ptr 3 0 0 0)), (16, I y15.2.2), (98, .agg [.v (.int .i64) y17.1, .hd 6 0 none, .hd 7 0 none]), (99, I a1), (100, I a2)], [bx [.v (.int .i64) y3.1.1, .hd 1 0 none, .hd 2 0 none] 24, ar 0 (.int .i64) y3.1.2.1 .dp, ar 0 (.int .i64) y3.1.2.2 .dp, bx [.v (.int .i64) y5.1.1, .hd 4 0 none, .hd 5 0 none] 24, ar 0 (.int .i64) y15.1 .dp, ar 0 (.int .i64) y15.2.1 .dp, ar 0 (.int .i64) y17.2.1 .dp, ar 0 (.int .i64) y17.2.2 .dp]⟩) (φ := True ∧ True ∧ True) (by kernel_rfl) ⟨trivial, trivial, trivial⟩ ?_
                        obtain ⟨y18, hy, h⟩ := andO_some h
                        refine VO.call true [.t Y23, .t (.int .i64), .t (.int .i64)] [] T_ok (d := some 101) (by kernel_rfl) (ok38 N _ _ _ hy) rfl ?_
                        refine VO.seg T_ok .dp 8 [8, 9, 10, 12, 16, 18, 19, 20] [0, 1, 2, 3, 4, 5, 10, 8, 9] (s' := ⟨[(8, .lf (.ptr 0 0 0 0)), (9, I y3.2.1), (10, B y3.2.2), (12, .lf (.ptr 3 0 0 0)), (16, I y15.2.2), (18, .lf (.ptr 6 0 0 0)), (19, I y18.2.1), (20, B y18.2.2)], [bx [.v (.int .i64) y3.1.1, .hd 1 0 none, .hd 2 0 none] 24, ar 0 (.int .i64) y3.1.2.1 .dp, ar 0 (.int .i64) y3.1.2.2 .dp, bx [.v (.int .i64) y5.1.1, .hd 4 0 none, .hd 5 0 none] 24, ar 0 (.int .i64) y15.1 .dp, ar 0 (.int .i64) y15.2.1 .dp, bx [.v (.int .i64) y18.1.1, .hd 7 0 none, .hd 8 0 none] 24, ar 0 (.int .i64) y18.1.2.1 .dp, ar 0 (.int .i64) y18.1.2.2 .dp]⟩) (φ := True ∧ True ∧ True ∧ True ∧ True ∧ True ∧ True ∧ True ∧ True) (by kernel_rfl) ⟨trivial, trivial, trivial, trivial, trivial, trivial, trivial, trivial, trivial⟩ ?_
                        refine VO.nil ?_
                        show VW _ _ _ _ _ _ _
                        refine VW.seq ?_
                        refine VW.seq ?_
                        refine VW.region ?_
                        refine VO.seg T_ok .dp 2 [9, 10, 12, 16, 19, 20, 105, 106] [3, 4, 5, 7, 8, 1, 2] (s' := ⟨[(9, I y3.2.1), (10, B y3.2.2), (12, .lf (.ptr 0 0 0 0)), (16, I y15.2.2), (19, I y18.2.1), (20, B y18.2.2), (105, .agg [.v (.int .i64) y18.1.1, .hd 3 0 none, .hd 4 0 none]), (106, .agg [.v (.int .i64) y3.1.1, .hd 5 0 none, .hd 6 0 none])], [bx [.v (.int .i64) y5.1.1, .hd 1 0 none, .hd 2 0 none] 24, ar 0 (.int .i64) y15.1 .dp, ar 0 (.int .i64) y15.2.1 .dp, ar 0 (.int .i64) y18.1.2.1 .dp, ar 0 (.int .i64) y18.1.2.2 .dp, ar 0 (.int .i64) y3.1.2.1 .dp, ar 0 (.int .i64) y3.1.2.2 .dp]⟩) (φ := True ∧ True ∧ True) (by kernel_rfl) ⟨trivial, trivial, trivial⟩ ?_
                        obtain ⟨y20, hy, h⟩ := andO_some h
                        refine VO.call true [.t Y23, .t Y23] [] T_ok (d := some 107) (by kernel_rfl) (ok16 N _ _ hy) rfl ?_
                        refine VO.seg T_ok .dp 2 [9, 10, 12, 16, 19, 20, 109] [0, 1, 2] (s' := ⟨[(9, I y3.2.1), (10, B y3.2.2), (12, .lf (.ptr 0 0 0 0)), (16, I y15.2.2), (19, I y18.2.1), (20, B y18.2.2), (109, B (!y20))], [bx [.v (.int .i64) y5.1.1, .hd 1 0 none, .hd 2 0 none] 24, ar 0 (.int .i64) y15.1 .dp, ar 0 (.int .i64) y15.2.1 .dp]⟩) (φ := True ∧ True ∧ True) (by kernel_rfl) ⟨trivial, trivial, trivial⟩ ?_
                        refine VO.splitB 109 (b := (!y20)) (by kernel_rfl) (fun hb => ?_) (fun hb => ?_)
                        · replace h := cond_t h hb; clear hb
                          refine VO.seg T_ok .dp 9 [12, 16, 118] [0, 1, 2] (s' := ⟨[(12, .lf (.ptr 0 0 0 0)), (16, I y15.2.2), (118, B true)], [bx [.v (.int .i64) y5.1.1, .hd 1 0 none, .hd 2 0 none] 24, ar 0 (.int .i64) y15.1 .dp, ar 0 (.int .i64) y15.2.1 .dp]⟩) (φ := True ∧ True ∧ True ∧ True ∧ True ∧ True ∧ True ∧ True ∧ True ∧ True) (by kernel_rfl) ⟨trivial, trivial, trivial, trivial, trivial, trivial, trivial, trivial, trivial, trivial⟩ ?_
                          refine VO.nil ?_
                          show VW _ _ _ _ _ _ _
                          refine VW.cond (b := true) (by kernel_rfl) (fun _ => ?_) (fun h' => nomatch h')
                          refine VW.seq ?_
                          refine VW.region ?_
                          refine VO.seg T_ok .dp 1 [6] [] (s' := ⟨[(6, B false)], []⟩) (φ := True ∧ True) (by kernel_rfl) ⟨trivial, trivial⟩ ?_
                          refine VO.nil ?_
                          show VW _ _ _ _ _ _ _
                          refine VW.ret ?_
                          replace h := Option.some.inj h
                          subst h
                          exact retR [] (by kernel_rfl) rfl
                        · replace h := cond_f h hb; clear hb
                          refine VO.seg T_ok .dp 5 [10, 12, 16, 20, 114] [0, 1, 2] (s' := ⟨[(10, B y3.2.2), (12, .lf (.ptr 0 0 0 0)), (16, I y15.2.2), (20, B y18.2.2), (114, B (y18.2.1 != y3.2.1))], [bx [.v (.int .i64) y5.1.1, .hd 1 0 none, .hd 2 0 none] 24, ar 0 (.int .i64) y15.1 .dp, ar 0 (.int .i64) y15.2.1 .dp]⟩) (φ := True ∧ True ∧ True ∧ True ∧ True ∧ True) (by kernel_rfl) ⟨trivial, trivial, trivial, trivial, trivial, trivial⟩ ?_
                          refine VO.splitB 114 (b := (y18.2.1 != y3.2.1)) (by kernel_rfl) (fun hb => ?_) (fun hb => ?_)
                          · replace h := cond_t h hb; clear hb
                            refine VO.seg T_ok .dp 4 [12, 16, 118] [0, 1, 2] (s' := ⟨[(12, .lf (.ptr 0 0 0 0)), (16, I y15.2.2), (118, B true)], [bx [.v (.int .i64) y5.1.1, .hd 1 0 none, .hd 2 0 none] 24, ar 0 (.int .i64) y15.1 .dp, ar 0 (.int .i64) y15.2.1 .dp]⟩) (φ := True ∧ True ∧ True ∧ True ∧ True) (by kernel_rfl) ⟨trivial, trivial, trivial, trivial, trivial⟩ ?_
                            refine VO.nil ?_
                            show VW _ _ _ _ _ _ _
                            refine VW.cond (b := true) (by kernel_rfl) (fun _ => ?_) (fun h' => nomatch h')
                            refine VW.seq ?_
                            refine VW.region ?_
                            refine VO.seg T_ok .dp 1 [6] [] (s' := ⟨[(6, B false)], []⟩) (φ := True ∧ True) (by kernel_rfl) ⟨trivial, trivial⟩ ?_
                            refine VO.nil ?_
                            show VW _ _ _ _ _ _ _
                            refine VW.ret ?_
                            replace h := Option.some.inj h
                            subst h
                            exact retR [] (by kernel_rfl) rfl
                          · replace h := cond_f h hb; clear hb
                            refine VO.seg T_ok .dp 4 [12, 16, 118] [0, 1, 2] (s' := ⟨[(12, .lf (.ptr 0 0 0 0)), (16, I y15.2.2), (118, B (!(y18.2.2 == y3.2.2)))], [bx [.v (.int .i64) y5.1.1, .hd 1 0 none, .hd 2 0 none] 24, ar 0 (.int .i64) y15.1 .dp, ar 0 (.int .i64) y15.2.1 .dp]⟩) (φ := True ∧ True ∧ True ∧ True ∧ True) (by kernel_rfl) ⟨trivial, trivial, trivial, trivial, trivial⟩ ?_
                            refine VO.nil ?_
                            show VW _ _ _ _ _ _ _
                            refine VW.cond (b := (!(y18.2.2 == y3.2.2))) (by kernel_rfl) (fun hb => ?_) (fun hb => ?_)
                            · replace h := cond_t h hb; clear hb
                              refine VW.seq ?_
                              refine VW.region ?_
                              refine VO.seg T_ok .dp 1 [6] [] (s' := ⟨[(6, B false)], []⟩) (φ := True ∧ True) (by kernel_rfl) ⟨trivial, trivial⟩ ?_
                              refine VO.nil ?_
                              show VW _ _ _ _ _ _ _
                              refine VW.ret ?_
                              replace h := Option.some.inj h
                              subst h
                              exact retR [] (by kernel_rfl) rfl
                            · replace h := cond_f h hb; clear hb
                              refine VW.skip ?_
                              show VW _ _ _ _ _ _ _
                              refine VW.seq ?_
                              refine VW.region ?_
                              refine VO.seg T_ok .dp 1 [12, 16, 17] [0, 1, 2] (s' := ⟨[(12, .lf (.ptr 0 0 0 0)), (16, I y15.2.2), (17, I (1 : Int))], [bx [.v (.int .i64) y5.1.1, .hd 1 0 none, .hd 2 0 none] 24, ar 0 (.int .i64) y15.1 .dp, ar 0 (.int .i64) y15.2.1 .dp]⟩) (φ := True ∧ True) (by kernel_rfl) ⟨trivial, trivial⟩ ?_
                              refine VO.nil ?_
                              show VW _ _ _ _ _ _ _
                              refine VW.seq ?_
                              refine VW.region ?_
                              refine VO.seg T_ok .dp 2 [16, 119, 120] [1, 2] (s' := ⟨[(16, I y15.2.2), (119, .agg [.v (.int .i64) y5.1.1, .hd 0 0 none, .hd 1 0 none]), (120, I (1 : Int))], [ar 0 (.int .i64) y15.1 .dp, ar 0 (.int .i64) y15.2.1 .dp]⟩) (φ := True ∧ True ∧ True) (by kernel_rfl) ⟨trivial, trivial, trivial⟩ ?_
                              obtain ⟨y21, hy, h⟩ := andO_some h
                              refine VO.call true [.t Y23, .t (.int .i64)] [] T_ok (d := some 121) (by kernel_rfl) (ok18 N _ _ hy) rfl ?_
                              refine VO.seg T_ok .dp 1 [16, 17] [] (s' := ⟨[(16, I y15.2.2), (17, I y21)], []⟩) (φ := True ∧ True) (by kernel_rfl) ⟨trivial, trivial⟩ ?_
                              refine VO.nil ?_
                              show VW _ _ _ _ _ _ _
                              refine VW.seq ?_
                              refine VW.seq ?_
                              refine VW.region ?_
                              refine VO.seg T_ok .dp 2 [16, 17, 123] [] (s' := ⟨[(16, I y15.2.2), (17, I y21), (123, B (decide (y21 < (0 : Int))))], []⟩) (φ := True ∧ True ∧ True) (by kernel_rfl) ⟨trivial, trivial, trivial⟩ ?_
                              refine VO.nil ?_
                              show VW _ _ _ _ _ _ _
                              refine VW.cond (b := (decide (y21 < (0 : Int)))) (by kernel_rfl) (fun hb => ?_) (fun hb => ?_)
                              · replace h := cond_t h hb; clear hb
                                refine VW.seq ?_
                                refine VW.region ?_
                                refine VO.seg T_ok .dp 1 [6] [] (s' := ⟨[(6, B false)], []⟩) (φ := True ∧ True) (by kernel_rfl) ⟨trivial, trivial⟩ ?_
                                refine VO.nil ?_
                                show VW _ _ _ _ _ _ _
                                refine VW.ret ?_
                                replace h := Option.some.inj h
                                subst h
                                exact retR [] (by kernel_rfl) rfl
                              · replace h := cond_f h hb; clear hb
                                refine VW.skip ?_
                                show VW _ _ _ _ _ _ _
                                refine VW.seq ?_
                                refine VW.seq ?_
                                refine VW.region ?_
                                refine VO.seg T_ok .dp 3 [126] [] (s' := ⟨[(126, B (y21 != y15.2.2))], []⟩) (φ := True ∧ True ∧ True ∧ True) (by kernel_rfl) ⟨trivial, trivial, trivial, trivial⟩ ?_
                                refine VO.nil ?_
                                show VW _ _ _ _ _ _ _
                                refine VW.cond (b := (y21 != y15.2.2)) (by kernel_rfl) (fun hb => ?_) (fun hb => ?_)
                                · replace h := cond_t h hb; clear hb
                                  refine VW.seq ?_
                                  refine VW.region ?_
                                  refine VO.seg T_ok .dp 1 [6] [] (s' := ⟨[(6, B false)], []⟩) (φ := True ∧ True) (by kernel_rfl) ⟨trivial, trivial⟩ ?_
                                  refine VO.nil ?_
                                  show VW _ _ _ _ _ _ _
                                  refine VW.ret ?_
                                  replace h := Option.some.inj h
                                  subst h
                                  exact retR [] (by kernel_rfl) rfl
                                · replace h := cond_f h hb; clear hb
                                  refine VW.skip ?_
                                  show VW _ _ _ _ _ _ _
                                  refine VW.seq ?_
                                  refine VW.region ?_
                                  refine VO.seg T_ok .dp 1 [6] [] (s' := ⟨[(6, B true)], []⟩) (φ := True ∧ True) (by kernel_rfl) ⟨trivial, trivial⟩ ?_
                                  refine VO.nil ?_
                                  show VW _ _ _ _ _ _ _
                                  refine VW.ret ?_
                                  replace h := Option.some.inj h
                                  subst h
                                  exact retR [] (by kernel_rfl) rfl

end Go.Proofs.Ytcipgfjhodgncaa.Vc
