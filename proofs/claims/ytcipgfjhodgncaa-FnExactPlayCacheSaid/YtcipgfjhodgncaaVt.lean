/- What functions of the program compute, and that they do. -/
import Derived.Test.YtcipgfjhodgncaaVt0
namespace Go.Proofs.Ytcipgfjhodgncaa.Vc
open Go Go.RowKit
set_option linter.unusedVariables false
set_option maxRecDepth 100000
set_option maxHeartbeats 4000000
/- loop.example/g00844/spec.PutKey -/
def F37 (N : Nat) (a0 : (Int × ((List Int) × (List Int)))) (a1 : Int) (a2 : Int) : Option ((Int × ((List Int) × (List Int))) × Int × Bool) :=
  andO (F20 N a0) fun y7 => cond (!y7) (andO (F57 N a0) fun y8 => some (y8, (1000001 : Int), false)) (andO (F51 N a1) fun y9 => cond (!y9) (andO (F57 N a0) fun y10 => some (y10, (1000001 : Int), false)) (andO (F51 N a2) fun y11 => cond (!y11) (andO (F57 N a0) fun y12 => some (y12, (1000001 : Int), false)) (andO (F61 N a0 a1 a2) fun y13 => cond (decide ((y13.2.1.length : Int) ≤ a0.1)) (some (y13, (1000001 : Int), true)) (andO (F59 N y13 (IntKind.i64.wrap ((y13.2.1.length : Int) - (1 : Int)))) fun y14 => gd (InR (IntKind.i64.wrap ((y13.2.1.length : Int) - (1 : Int))) y13.2.1.length) (gd ((IntKind.i64.wrap ((y13.2.1.length : Int) - (1 : Int))).toNat < y13.2.1.length) (some (y14, (y13.2.1.getD ((IntKind.i64.wrap ((y13.2.1.length : Int) - (1 : Int))).toNat) (Ty.dflt (.int .i64))), true)))))))
theorem ok37 (N : Nat) (a0 : (Int × ((List Int) × (List Int)))) (a1 : Int) (a2 : Int) {r : (Int × ((List Int) × (List Int))) × Int × Bool} (h : F37 N a0 a1 a2 = some r) : Con Go.Proofs.Try.prog 37 [.agg [.v (.int .i64) a0.1, .v (.sl (.int .i64)) a0.2.1, .v (.sl (.int .i64)) a0.2.2], I a1, I a2] [.agg [.v (.int .i64) r.1.1, .own (.int .i64) r.1.2.1 .dp, .own (.int .i64) r.1.2.2 .dp], .lf (.v (.int .i64) r.2.1), .lf (.v .bool r.2.2)] := by
  refine ⟨enters_of Go.Proofs.Try.func37 rfl (by decide), HC.intro [.agg [.v (.int .i64), .own (.int .i64) .dp, .own (.int .i64) .dp], .lf (.v (.int .i64)), .lf (.v .bool)] T_ok Go.Proofs.Try.func37 rfl (Nat.le_of_ble_eq_true rfl) (Nat.le_of_ble_eq_true rfl) fun w0 E0 => ?_⟩
  unfold F37 at h
  show VW _ _ _ _ _ (retQ _ _ _ _) _
  refine VW.seq ?_
  refine VW.region ?_
  refine VO.seg T_ok .dp 4 [1, 2, 3, 6] [0, 1] (s' := ⟨[(1, I a1), (2, I a2), (3, .lf (.ptr 0 0 0 0)), (6, .lf (.ptr 1 0 0 0))], [bx [.v (.int .i64) a0.1, .v (.sl (.int .i64)) a0.2.1, .v (.sl (.int .i64)) a0.2.2] 24, bx [.v (.int .i64) (0 : Int), .nil, .nil] 24]⟩) (φ := True ∧ True ∧ True ∧ True ∧ True) (by kernel_rfl) ⟨trivial, trivial, trivial, trivial, trivial⟩ ?_
  refine VO.nil ?_
  show VW _ _ _ _ _ _ _
  refine VW.seq ?_
  refine VW.seq ?_
  refine VW.region ?_
  refine VO.seg T_ok .dp 1 [1, 2, 3, 6, 11] [0, 1] (s' := ⟨[(1, I a1), (2, I a2), (3, .lf (.ptr 0 0 0 0)), (6, .lf (.ptr 1 0 0 0)), (11, .agg [.v (.int .i64) a0.1, .v (.sl (.int .i64)) a0.2.1, .v (.sl (.int .i64)) a0.2.2])], [bx [.v (.int .i64) a0.1, .v (.sl (.int .i64)) a0.2.1, .v (.sl (.int .i64)) a0.2.2] 24, bx [.v (.int .i64) (0 : Int), .nil, .nil] 24]⟩) (φ := True ∧ True) (by kernel_rfl) ⟨trivial, trivial⟩ ?_
  obtain ⟨y7, hy, h⟩ := andO_some h
  refine VO.call false [.t Y23] [] T_ok (d := some 12) (by kernel_rfl) (ok20 N _ hy) rfl ?_
  refine VO.seg T_ok .dp 2 [1, 2, 3, 6, 14] [0, 1] (s' := ⟨[(1, I a1), (2, I a2), (3, .lf (.ptr 0 0 0 0)), (6, .lf (.ptr 1 0 0 0)), (14, B (!y7))], [bx [.v (.int .i64) a0.1, .v (.sl (.int .i64)) a0.2.1, .v (.sl (.int .i64)) a0.2.2] 24, bx [.v (.int .i64) (0 : Int), .nil, .nil] 24]⟩) (φ := True ∧ True ∧ True) (by kernel_rfl) ⟨trivial, trivial, trivial⟩ ?_
  refine VO.splitB 14 (b := (!y7)) (by kernel_rfl) (fun hb => ?_) (fun hb => ?_)
  · replace h := cond_t h hb; clear hb
    refine VO.seg T_ok .dp 9 [1, 2, 3, 6, 23] [0, 1] (s' := ⟨[(1, I a1), (2, I a2), (3, .lf (.ptr 0 0 0 0)), (6, .lf (.ptr 1 0 0 0)), (23, B true)], [bx [.v (.int .i64) a0.1, .v (.sl (.int .i64)) a0.2.1, .v (.sl (.int .i64)) a0.2.2] 24, bx [.v (.int .i64) (0 : Int), .nil, .nil] 24]⟩) (φ := True ∧ True ∧ True ∧ True ∧ True ∧ True ∧ True ∧ True ∧ True ∧ True) (by kernel_rfl) ⟨trivial, trivial, trivial, trivial, trivial, trivial, trivial, trivial, trivial, trivial⟩ ?_
    refine VO.nil ?_
    show VW _ _ _ _ _ _ _
    refine VW.cond (b := true) (by kernel_rfl) (fun _ => ?_) (fun h' => nomatch h')
    refine VW.seq ?_
    refine VW.region ?_
    refine VO.seg T_ok .dp 1 [6, 24] [1] (s' := ⟨[(6, .lf (.ptr 0 0 0 0)), (24, .agg [.v (.int .i64) a0.1, .v (.sl (.int .i64)) a0.2.1, .v (.sl (.int .i64)) a0.2.2])], [bx [.v (.int .i64) (0 : Int), .nil, .nil] 24]⟩) (φ := True ∧ True) (by kernel_rfl) ⟨trivial, trivial⟩ ?_
    obtain ⟨y8, hy, h⟩ := andO_some h
    refine VO.call false [.t Y23] [] T_ok (d := some 25) (by kernel_rfl) (ok57 N _ hy) rfl ?_
    refine VO.seg T_ok .dp 3 [6, 7, 8] [0, 1, 2] (s' := ⟨[(6, .lf (.ptr 0 0 0 0)), (7, I (1000001 : Int)), (8, B false)], [bx [.v (.int .i64) y8.1, .hd 1 0 none, .hd 2 0 none] 24, ar 0 (.int .i64) y8.2.1 .dp, ar 0 (.int .i64) y8.2.2 .dp]⟩) (φ := True ∧ True ∧ True ∧ True) (by kernel_rfl) ⟨trivial, trivial, trivial, trivial⟩ ?_
    refine VO.nil ?_
    show VW _ _ _ _ _ _ _
    refine VW.ret ?_
    replace h := Option.some.inj h
    subst h
    exact retR [some 1, some 2] (by kernel_rfl) rfl
  · replace h := cond_f h hb; clear hb
    refine VO.seg T_ok .dp 1 [1, 2, 3, 6, 14, 15] [0, 1] (s' := ⟨[(1, I a1), (2, I a2), (3, .lf (.ptr 0 0 0 0)), (6, .lf (.ptr 1 0 0 0)), (14, B false), (15, I a1)], [bx [.v (.int .i64) a0.1, .v (.sl (.int .i64)) a0.2.1, .v (.sl (.int .i64)) a0.2.2] 24, bx [.v (.int .i64) (0 : Int), .nil, .nil] 24]⟩) (φ := True ∧ True) (by kernel_rfl) ⟨trivial, trivial⟩ ?_
    refine VO.on (j := 3) (want := false) (d := 14) (b := false) rfl rfl rfl (by kernel_rfl) rfl ?_
    obtain ⟨y9, hy, h⟩ := andO_some h
    refine VO.call false [.t (.int .i64)] [] T_ok (d := some 16) (by kernel_rfl) (ok51 N _ hy) rfl ?_
    refine VO.seg T_ok .dp 3 [1, 2, 3, 6, 19] [0, 1] (s' := ⟨[(1, I a1), (2, I a2), (3, .lf (.ptr 0 0 0 0)), (6, .lf (.ptr 1 0 0 0)), (19, B (!y9))], [bx [.v (.int .i64) a0.1, .v (.sl (.int .i64)) a0.2.1, .v (.sl (.int .i64)) a0.2.2] 24, bx [.v (.int .i64) (0 : Int), .nil, .nil] 24]⟩) (φ := True ∧ True ∧ True ∧ True) (by kernel_rfl) ⟨trivial, trivial, trivial, trivial⟩ ?_
    refine VO.splitB 19 (b := (!y9)) (by kernel_rfl) (fun hb => ?_) (fun hb => ?_)
    · replace h := cond_t h hb; clear hb
      refine VO.seg T_ok .dp 4 [1, 2, 3, 6, 23] [0, 1] (s' := ⟨[(1, I a1), (2, I a2), (3, .lf (.ptr 0 0 0 0)), (6, .lf (.ptr 1 0 0 0)), (23, B true)], [bx [.v (.int .i64) a0.1, .v (.sl (.int .i64)) a0.2.1, .v (.sl (.int .i64)) a0.2.2] 24, bx [.v (.int .i64) (0 : Int), .nil, .nil] 24]⟩) (φ := True ∧ True ∧ True ∧ True ∧ True) (by kernel_rfl) ⟨trivial, trivial, trivial, trivial, trivial⟩ ?_
      refine VO.nil ?_
      show VW _ _ _ _ _ _ _
      refine VW.cond (b := true) (by kernel_rfl) (fun _ => ?_) (fun h' => nomatch h')
      refine VW.seq ?_
      refine VW.region ?_
      refine VO.seg T_ok .dp 1 [6, 24] [1] (s' := ⟨[(6, .lf (.ptr 0 0 0 0)), (24, .agg [.v (.int .i64) a0.1, .v (.sl (.int .i64)) a0.2.1, .v (.sl (.int .i64)) a0.2.2])], [bx [.v (.int .i64) (0 : Int), .nil, .nil] 24]⟩) (φ := True ∧ True) (by kernel_rfl) ⟨trivial, trivial⟩ ?_
      obtain ⟨y10, hy, h⟩ := andO_some h
      refine VO.call false [.t Y23] [] T_ok (d := some 25) (by kernel_rfl) (ok57 N _ hy) rfl ?_
      refine VO.seg T_ok .dp 3 [6, 7, 8] [0, 1, 2] (s' := ⟨[(6, .lf (.ptr 0 0 0 0)), (7, I (1000001 : Int)), (8, B false)], [bx [.v (.int .i64) y10.1, .hd 1 0 none, .hd 2 0 none] 24, ar 0 (.int .i64) y10.2.1 .dp, ar 0 (.int .i64) y10.2.2 .dp]⟩) (φ := True ∧ True ∧ True ∧ True) (by kernel_rfl) ⟨trivial, trivial, trivial, trivial⟩ ?_
      refine VO.nil ?_
      show VW _ _ _ _ _ _ _
      refine VW.ret ?_
      replace h := Option.some.inj h
      subst h
      exact retR [some 1, some 2] (by kernel_rfl) rfl
    · replace h := cond_f h hb; clear hb
      refine VO.seg T_ok .dp 1 [1, 2, 3, 6, 19, 20] [0, 1] (s' := ⟨[(1, I a1), (2, I a2), (3, .lf (.ptr 0 0 0 0)), (6, .lf (.ptr 1 0 0 0)), (19, B false), (20, I a2)], [bx [.v (.int .i64) a0.1, .v (.sl (.int .i64)) a0.2.1, .v (.sl (.int .i64)) a0.2.2] 24, bx [.v (.int .i64) (0 : Int), .nil, .nil] 24]⟩) (φ := True ∧ True) (by kernel_rfl) ⟨trivial, trivial⟩ ?_
      refine VO.on (j := 8) (want := false) (d := 19) (b := false) rfl rfl rfl (by kernel_rfl) rfl ?_
      obtain ⟨y11, hy, h⟩ := andO_some h
      refine VO.call false [.t (.int .i64)] [] T_ok (d := some 21) (by kernel_rfl) (ok51 N _ hy) rfl ?_
      refine VO.seg T_ok .dp 2 [1, 2, 3, 6, 23] [0, 1] (s' := ⟨[(1, I a1), (2, I a2), (3, .lf (.ptr 0 0 0 0)), (6, .lf (.ptr 1 0 0 0)), (23, B (!y11))], [bx [.v (.int .i64) a0.1, .v (.sl (.int .i64)) a0.2.1, .v (.sl (.int .i64)) a0.2.2] 24, bx [.v (.int .i64) (0 : Int), .nil, .nil] 24]⟩) (φ := True ∧ True ∧ True) (by kernel_rfl) ⟨trivial, trivial, trivial⟩ ?_
      refine VO.nil ?_
      show VW _ _ _ _ _ _ _
      refine VW.cond (b := (!y11)) (by kernel_rfl) (fun hb => ?_) (fun hb => ?_)
      · replace h := cond_t h hb; clear hb
        refine VW.seq ?_
        refine VW.region ?_
        refine VO.seg T_ok .dp 1 [6, 24] [1] (s' := ⟨[(6, .lf (.ptr 0 0 0 0)), (24, .agg [.v (.int .i64) a0.1, .v (.sl (.int .i64)) a0.2.1, .v (.sl (.int .i64)) a0.2.2])], [bx [.v (.int .i64) (0 : Int), .nil, .nil] 24]⟩) (φ := True ∧ True) (by kernel_rfl) ⟨trivial, trivial⟩ ?_
        obtain ⟨y12, hy, h⟩ := andO_some h
        refine VO.call false [.t Y23] [] T_ok (d := some 25) (by kernel_rfl) (ok57 N _ hy) rfl ?_
        refine VO.seg T_ok .dp 3 [6, 7, 8] [0, 1, 2] (s' := ⟨[(6, .lf (.ptr 0 0 0 0)), (7, I (1000001 : Int)), (8, B false)], [bx [.v (.int .i64) y12.1, .hd 1 0 none, .hd 2 0 none] 24, ar 0 (.int .i64) y12.2.1 .dp, ar 0 (.int .i64) y12.2.2 .dp]⟩) (φ := True ∧ True ∧ True ∧ True) (by kernel_rfl) ⟨trivial, trivial, trivial, trivial⟩ ?_
        refine VO.nil ?_
        show VW _ _ _ _ _ _ _
        refine VW.ret ?_
        replace h := Option.some.inj h
        subst h
        exact retR [some 1, some 2] (by kernel_rfl) rfl
      · replace h := cond_f h hb; clear hb
        refine VW.skip ?_
        show VW _ _ _ _ _ _ _
        refine VW.seq ?_
        refine VW.region ?_
        refine VO.seg T_ok .dp 3 [3, 6, 26, 27, 28] [0, 1] (s' := ⟨[(3, .lf (.ptr 0 0 0 0)), (6, .lf (.ptr 1 0 0 0)), (26, .agg [.v (.int .i64) a0.1, .v (.sl (.int .i64)) a0.2.1, .v (.sl (.int .i64)) a0.2.2]), (27, I a1), (28, I a2)], [bx [.v (.int .i64) a0.1, .v (.sl (.int .i64)) a0.2.1, .v (.sl (.int .i64)) a0.2.2] 24, bx [.v (.int .i64) (0 : Int), .nil, .nil] 24]⟩) (φ := True ∧ True ∧ True ∧ True) (by kernel_rfl) ⟨trivial, trivial, trivial, trivial⟩ ?_
        obtain ⟨y13, hy, h⟩ := andO_some h
        refine VO.call false [.t Y23, .t (.int .i64), .t (.int .i64)] [] T_ok (d := some 29) (by kernel_rfl) (ok61 N _ _ _ hy) rfl ?_
        refine VO.seg T_ok .dp 2 [3, 6, 9] [0, 1, 4, 2, 3] (s' := ⟨[(3, .lf (.ptr 0 0 0 0)), (6, .lf (.ptr 1 0 0 0)), (9, .lf (.ptr 2 0 0 0))], [bx [.v (.int .i64) a0.1, .v (.sl (.int .i64)) a0.2.1, .v (.sl (.int .i64)) a0.2.2] 24, bx [.v (.int .i64) (0 : Int), .nil, .nil] 24, bx [.v (.int .i64) y13.1, .hd 3 0 none, .hd 4 0 none] 24, ar 0 (.int .i64) y13.2.1 .dp, ar 0 (.int .i64) y13.2.2 .dp]⟩) (φ := True ∧ True ∧ True) (by kernel_rfl) ⟨trivial, trivial, trivial⟩ ?_
        refine VO.nil ?_
        show VW _ _ _ _ _ _ _
        refine VW.seq ?_
        refine VW.region ?_
        refine VO.seg T_ok .dp 4 [3, 6, 9, 10] [0, 1, 2, 3, 4] (s' := ⟨[(3, .lf (.ptr 0 0 0 0)), (6, .lf (.ptr 1 0 0 0)), (9, .lf (.ptr 2 0 0 0)), (10, I (y13.2.1.length : Int))], [bx [.v (.int .i64) a0.1, .v (.sl (.int .i64)) a0.2.1, .v (.sl (.int .i64)) a0.2.2] 24, bx [.v (.int .i64) (0 : Int), .nil, .nil] 24, bx [.v (.int .i64) y13.1, .hd 3 0 none, .hd 4 0 none] 24, ar 0 (.int .i64) y13.2.1 .dp, ar 0 (.int .i64) y13.2.2 .dp]⟩) (φ := True ∧ True ∧ True ∧ True ∧ True) (by kernel_rfl) ⟨trivial, trivial, trivial, trivial, trivial⟩ ?_
        refine VO.nil ?_
        show VW _ _ _ _ _ _ _
        refine VW.seq ?_
        refine VW.seq ?_
        refine VW.region ?_
        refine VO.seg T_ok .dp 4 [6, 9, 10, 36] [1, 2, 3, 4] (s' := ⟨[(6, .lf (.ptr 0 0 0 0)), (9, .lf (.ptr 1 0 0 0)), (10, I (y13.2.1.length : Int)), (36, B (decide ((y13.2.1.length : Int) ≤ a0.1)))], [bx [.v (.int .i64) (0 : Int), .nil, .nil] 24, bx [.v (.int .i64) y13.1, .hd 2 0 none, .hd 3 0 none] 24, ar 0 (.int .i64) y13.2.1 .dp, ar 0 (.int .i64) y13.2.2 .dp]⟩) (φ := True ∧ True ∧ True ∧ True ∧ True) (by kernel_rfl) ⟨trivial, trivial, trivial, trivial, trivial⟩ ?_
        refine VO.nil ?_
        show VW _ _ _ _ _ _ _
        refine VW.cond (b := (decide ((y13.2.1.length : Int) ≤ a0.1))) (by kernel_rfl) (fun hb => ?_) (fun hb => ?_)
        · replace h := cond_t h hb; clear hb
          refine VW.seq ?_
          refine VW.region ?_
          refine VO.seg T_ok .dp 4 [6, 7, 8] [0, 2, 3] (s' := ⟨[(6, .lf (.ptr 0 0 0 0)), (7, I (1000001 : Int)), (8, B true)], [bx [.v (.int .i64) y13.1, .hd 1 0 none, .hd 2 0 none] 24, ar 0 (.int .i64) y13.2.1 .dp, ar 0 (.int .i64) y13.2.2 .dp]⟩) (φ := True ∧ True ∧ True ∧ True ∧ True) (by kernel_rfl) ⟨trivial, trivial, trivial, trivial, trivial⟩ ?_
          refine VO.nil ?_
          show VW _ _ _ _ _ _ _
          refine VW.ret ?_
          replace h := Option.some.inj h
          subst h
          exact retR [some 1, some 2] (by kernel_rfl) rfl
        · replace h := cond_f h hb; clear hb
          refine VW.skip ?_
          show VW _ _ _ _ _ _ _
          refine VW.seq ?_
          obtain ⟨y14, hy14, h⟩ := andO_some h
          obtain ⟨g15, h⟩ := gd_some h
          obtain ⟨g16, h⟩ := gd_some h
          refine VW.drawn (by kernel_rfl) [some (38, .agg [.v (.int .i64) y13.1, .hd 2 0 none, .hd 3 0 none]), some (39, I (y13.2.1.length : Int)), some (40, I (IntKind.i64.wrap ((y13.2.1.length : Int) - (1 : Int)))), some (41, .agg [.v (.int .i64) y14.1, .hd 4 0 none, .hd 5 0 none]), some (42, .lf (.ptr 1 0 0 1)), some (43, .lf (.hd 2 0 none)), some (44, I (y13.2.1.length : Int)), some (45, I (IntKind.i64.wrap ((y13.2.1.length : Int) - (1 : Int)))), some (46, .lf (.ptr 2 0 ((IntKind.i64.wrap ((y13.2.1.length : Int) - (1 : Int))).toNat) 0)), some (47, I (y13.2.1.getD ((IntKind.i64.wrap ((y13.2.1.length : Int) - (1 : Int))).toNat) (Ty.dflt (.int .i64)))), none, some (7, I (y13.2.1.getD ((IntKind.i64.wrap ((y13.2.1.length : Int) - (1 : Int))).toNat) (Ty.dflt (.int .i64)))), some (8, B true)] [3, 10] [[bx [.v (.int .i64) (0 : Int), .nil, .nil] 24, bx [.v (.int .i64) y13.1, .hd 2 0 none, .hd 3 0 none] 24, ar 0 (.int .i64) y13.2.1 .dp, ar 0 (.int .i64) y13.2.2 .dp], [bx [.v (.int .i64) (0 : Int), .nil, .nil] 24, bx [.v (.int .i64) y13.1, .hd 2 0 none, .hd 3 0 none] 24, ar 0 (.int .i64) y13.2.1 .dp, ar 0 (.int .i64) y13.2.2 .dp, ar 0 (.int .i64) y14.2.1 .dp, ar 0 (.int .i64) y14.2.2 .dp], [bx [.v (.int .i64) y14.1, .hd 4 0 none, .hd 5 0 none] 24, bx [.v (.int .i64) y13.1, .hd 2 0 none, .hd 3 0 none] 24, ar 0 (.int .i64) y13.2.1 .dp, ar 0 (.int .i64) y13.2.2 .dp, ar 0 (.int .i64) y14.2.1 .dp, ar 0 (.int .i64) y14.2.2 .dp]] [(0, 0), (1, 0), (1, 1), (2, 0), (3, 0), (4, 0), (4, 1), (4, 2), (5, 0), (5, 1), (5, 2), (6, 0), (6, 1), (6, 2), (7, 0), (7, 1), (7, 2), (8, 0), (8, 1), (8, 2), (9, 0), (9, 1), (9, 2), (10, 1), (11, 2), (12, 2)] [6, 7, 8] [0, 4, 5] (s' := ⟨[(6, .lf (.ptr 0 0 0 0)), (7, I (y13.2.1.getD ((IntKind.i64.wrap ((y13.2.1.length : Int) - (1 : Int))).toNat) (Ty.dflt (.int .i64)))), (8, B true)], [bx [.v (.int .i64) y14.1, .hd 1 0 none, .hd 2 0 none] 24, ar 0 (.int .i64) y14.2.1 .dp, ar 0 (.int .i64) y14.2.2 .dp]⟩) (by kernel_rfl) (by kernel_rfl) ⟨⟨_, rfl, Stp.ev T_ok (m := .dp) (φ := True) (by kernel_rfl) trivial⟩,
    ⟨_, rfl, Stp.ev T_ok (m := .dp) (φ := True) (by kernel_rfl) trivial⟩,
    ⟨_, rfl, Stp.ev T_ok (m := .dp) (φ := True) (by kernel_rfl) trivial⟩,
    ⟨_, rfl, Stp.ev T_ok (m := .dp) (φ := True) (by kernel_rfl) trivial⟩,
    ⟨_, rfl, Stp.eq (Stp.call true [.t Y23, .t (.int .i64)] [] T_ok (d := some 41) (by kernel_rfl) (ok59 N _ _ hy14) rfl) (by kernel_rfl) (by kernel_rfl)⟩,
    ⟨_, rfl, Stp.ev T_ok (m := .dp) (φ := True) (by kernel_rfl) trivial⟩,
    ⟨_, rfl, Stp.ev T_ok (m := .dp) (φ := True) (by kernel_rfl) trivial⟩,
    ⟨_, rfl, Stp.ev T_ok (m := .dp) (φ := True) (by kernel_rfl) trivial⟩,
    ⟨_, rfl, Stp.ev T_ok (m := .dp) (φ := True) (by kernel_rfl) trivial⟩,
    ⟨_, rfl, Stp.ev T_ok (m := .dp) (φ := True) (by kernel_rfl) trivial⟩,
    ⟨_, rfl, Stp.ev T_ok (m := .dp) (φ := True) (by kernel_rfl) trivial⟩,
    ⟨_, rfl, Stp.ev T_ok (m := .dp) (φ := True) (by kernel_rfl) trivial⟩,
    ⟨_, rfl, Stp.ev T_ok (m := .dp) (φ := True) (by kernel_rfl) trivial⟩,
    ⟨_, rfl, Stp.ev T_ok (m := .dp) (φ := True) (by kernel_rfl) trivial⟩,
    ⟨_, rfl, Stp.ev T_ok (m := .dp) (φ := True) (by kernel_rfl) trivial⟩,
    ⟨_, rfl, Stp.ev T_ok (m := .dp) (φ := True) (by kernel_rfl) trivial⟩,
    ⟨_, rfl, Stp.ev T_ok (m := .dp) (φ := True) (by kernel_rfl) trivial⟩,
    ⟨_, rfl, Stp.ev T_ok (m := .dp) (φ := InR (IntKind.i64.wrap ((y13.2.1.length : Int) - (1 : Int))) y13.2.1.length) (by kernel_rfl) g15⟩,
    ⟨_, rfl, Stp.ev T_ok (m := .dp) (φ := InR (IntKind.i64.wrap ((y13.2.1.length : Int) - (1 : Int))) y13.2.1.length) (by kernel_rfl) g15⟩,
    ⟨_, rfl, Stp.ev T_ok (m := .dp) (φ := InR (IntKind.i64.wrap ((y13.2.1.length : Int) - (1 : Int))) y13.2.1.length) (by kernel_rfl) g15⟩,
    ⟨_, rfl, Stp.ev T_ok (m := .dp) (φ := (IntKind.i64.wrap ((y13.2.1.length : Int) - (1 : Int))).toNat < y13.2.1.length) (by kernel_rfl) g16⟩,
    ⟨_, rfl, Stp.ev T_ok (m := .dp) (φ := (IntKind.i64.wrap ((y13.2.1.length : Int) - (1 : Int))).toNat < y13.2.1.length) (by kernel_rfl) g16⟩,
    ⟨_, rfl, Stp.ev T_ok (m := .dp) (φ := (IntKind.i64.wrap ((y13.2.1.length : Int) - (1 : Int))).toNat < y13.2.1.length) (by kernel_rfl) g16⟩,
    ⟨_, rfl, Stp.ev T_ok (m := .dp) (φ := True) (by kernel_rfl) trivial⟩,
    ⟨_, rfl, Stp.ev T_ok (m := .dp) (φ := True) (by kernel_rfl) trivial⟩,
    ⟨_, rfl, Stp.ev T_ok (m := .dp) (φ := True) (by kernel_rfl) trivial⟩, trivial⟩ (by kernel_rfl) ?_
          show VW _ _ _ _ _ _ _
          refine VW.ret ?_
          replace h := Option.some.inj h
          subst h
          exact retR [some 1, some 2] (by kernel_rfl) rfl

/- (loop.example/g00844/impl.Cache).ahead -/
def F62_j0 (N : Nat) (a1 : Int) (a2 : Int) (x3 : Int) (x4 : (List Int)) (x5 : (List Int)) : Option ((Int × ((List Int) × (List Int)))) :=
  gd (([a1]).length + x4.length ≤ lim (.int .i64)) (gd (([a2]).length + x5.length ≤ lim (.int .i64)) (some (x3, ((([a1]) ++ x4), (([a2]) ++ x5)))))
def F62 (N : Nat) (a0 : (Int × ((List Int) × (List Int)))) (a1 : Int) (a2 : Int) : Option ((Int × ((List Int) × (List Int)))) :=
  andO (F54 N a0.2.1 a1) fun y9 => cond (decide (y9 ≥ (0 : Int))) (andO (F60 N a0 y9) fun y10 => F62_j0 N a1 a2 y10.1 y10.2.1 y10.2.2) (F62_j0 N a1 a2 a0.1 a0.2.1 a0.2.2)
theorem ok62 (N : Nat) (a0 : (Int × ((List Int) × (List Int)))) (a1 : Int) (a2 : Int) {r : (Int × ((List Int) × (List Int)))} (h : F62 N a0 a1 a2 = some r) : Con Go.Proofs.Try.prog 62 [.agg [.v (.int .i64) a0.1, .v (.sl (.int .i64)) a0.2.1, .v (.sl (.int .i64)) a0.2.2], I a1, I a2] [.agg [.v (.int .i64) r.1, .own (.int .i64) r.2.1 .dp, .own (.int .i64) r.2.2 .dp]] := by
  refine ⟨enters_of Go.Proofs.Try.func62 rfl (by decide), HC.intro [.agg [.v (.int .i64), .own (.int .i64) .dp, .own (.int .i64) .dp]] T_ok Go.Proofs.Try.func62 rfl (Nat.le_of_ble_eq_true rfl) (Nat.le_of_ble_eq_true rfl) fun w0 E0 => ?_⟩
  unfold F62 at h
  show VW _ _ _ _ _ (retQ _ _ _ _) _
  refine VW.seq ?_
  refine VW.region ?_
  refine VO.seg T_ok .dp 2 [1, 2, 3, 6] [0, 1] (s' := ⟨[(1, I a1), (2, I a2), (3, .lf (.ptr 0 0 0 0)), (6, .lf (.ptr 1 0 0 0))], [bx [.v (.int .i64) a0.1, .v (.sl (.int .i64)) a0.2.1, .v (.sl (.int .i64)) a0.2.2] 24, bx [.v (.int .i64) (0 : Int), .nil, .nil] 24]⟩) (φ := True ∧ True ∧ True) (by kernel_rfl) ⟨trivial, trivial, trivial⟩ ?_
  refine VO.nil ?_
  show VW _ _ _ _ _ _ _
  refine VW.join (fun s => ∃ (x3 : Int) (x4 : (List Int)) (x5 : (List Int)), s = ⟨[(1, I a1), (2, I a2), (3, .lf (.ptr 0 0 0 0)), (6, .lf (.ptr 1 0 0 0))], [bx [.v (.int .i64) x3, .v (.sl (.int .i64)) x4, .v (.sl (.int .i64)) x5] 24, bx [.v (.int .i64) (0 : Int), .nil, .nil] 24]⟩ ∧ F62_j0 N a1 a2 x3 x4 x5 = some r) ?_ ?_
  · refine VW.seq ?_
    refine VW.region ?_
    refine VO.seg T_ok .dp 3 [1, 2, 3, 6, 9, 10] [0, 1] (s' := ⟨[(1, I a1), (2, I a2), (3, .lf (.ptr 0 0 0 0)), (6, .lf (.ptr 1 0 0 0)), (9, .lf (.v (.sl (.int .i64)) a0.2.1)), (10, I a1)], [bx [.v (.int .i64) a0.1, .v (.sl (.int .i64)) a0.2.1, .v (.sl (.int .i64)) a0.2.2] 24, bx [.v (.int .i64) (0 : Int), .nil, .nil] 24]⟩) (φ := True ∧ True ∧ True ∧ True) (by kernel_rfl) ⟨trivial, trivial, trivial, trivial⟩ ?_
    obtain ⟨y9, hy, h⟩ := andO_some h
    refine VO.call false [.t (.sl (.int .i64)), .t (.int .i64)] [] T_ok (d := some 11) (by kernel_rfl) (ok54 N _ _ hy) rfl ?_
    refine VO.seg T_ok .dp 1 [1, 2, 3, 6, 7] [0, 1] (s' := ⟨[(1, I a1), (2, I a2), (3, .lf (.ptr 0 0 0 0)), (6, .lf (.ptr 1 0 0 0)), (7, I y9)], [bx [.v (.int .i64) a0.1, .v (.sl (.int .i64)) a0.2.1, .v (.sl (.int .i64)) a0.2.2] 24, bx [.v (.int .i64) (0 : Int), .nil, .nil] 24]⟩) (φ := True ∧ True) (by kernel_rfl) ⟨trivial, trivial⟩ ?_
    refine VO.nil ?_
    show VW _ _ _ _ _ _ _
    refine VW.seq ?_
    refine VW.region ?_
    refine VO.seg T_ok .dp 2 [1, 2, 3, 6, 7, 13] [0, 1] (s' := ⟨[(1, I a1), (2, I a2), (3, .lf (.ptr 0 0 0 0)), (6, .lf (.ptr 1 0 0 0)), (7, I y9), (13, B (decide (y9 ≥ (0 : Int))))], [bx [.v (.int .i64) a0.1, .v (.sl (.int .i64)) a0.2.1, .v (.sl (.int .i64)) a0.2.2] 24, bx [.v (.int .i64) (0 : Int), .nil, .nil] 24]⟩) (φ := True ∧ True ∧ True) (by kernel_rfl) ⟨trivial, trivial, trivial⟩ ?_
    refine VO.nil ?_
    show VW _ _ _ _ _ _ _
    refine VW.cond (b := (decide (y9 ≥ (0 : Int)))) (by kernel_rfl) (fun hb => ?_) (fun hb => ?_)
    · replace h := cond_t h hb; clear hb
      refine VW.region ?_
      refine VO.seg T_ok .dp 2 [1, 2, 3, 6, 14, 15] [0, 1] (s' := ⟨[(1, I a1), (2, I a2), (3, .lf (.ptr 0 0 0 0)), (6, .lf (.ptr 1 0 0 0)), (14, .agg [.v (.int .i64) a0.1, .v (.sl (.int .i64)) a0.2.1, .v (.sl (.int .i64)) a0.2.2]), (15, I y9)], [bx [.v (.int .i64) a0.1, .v (.sl (.int .i64)) a0.2.1, .v (.sl (.int .i64)) a0.2.2] 24, bx [.v (.int .i64) (0 : Int), .nil, .nil] 24]⟩) (φ := True ∧ True ∧ True) (by kernel_rfl) ⟨trivial, trivial, trivial⟩ ?_
      obtain ⟨y10, hy, h⟩ := andO_some h
      refine VO.call false [.t Y23, .t (.int .i64)] [] T_ok (d := some 16) (by kernel_rfl) (ok60 N _ _ hy) rfl ?_
      refine VO.seg T_ok .dp 1 [1, 2, 3, 6] [0, 2, 3, 1] (s' := ⟨[(1, I a1), (2, I a2), (3, .lf (.ptr 0 0 0 0)), (6, .lf (.ptr 3 0 0 0))], [bx [.v (.int .i64) y10.1, .hd 1 0 none, .hd 2 0 none] 24, ar 0 (.int .i64) y10.2.1 .dp, ar 0 (.int .i64) y10.2.2 .dp, bx [.v (.int .i64) (0 : Int), .nil, .nil] 24]⟩) (φ := True ∧ True) (by kernel_rfl) ⟨trivial, trivial⟩ ?_
      refine VO.nil ?_
      exact arrive [.frz 1, .frz 2, .ren [1, 2, 3, 6] [0, 3]] (by kernel_rfl) ⟨y10.1, y10.2.1, y10.2.2, rfl, h⟩
    · replace h := cond_f h hb; clear hb
      refine VW.skip ?_
      exact arrive [.ren [1, 2, 3, 6] [0, 1]] (by kernel_rfl) ⟨a0.1, a0.2.1, a0.2.2, rfl, h⟩
  · rintro s ⟨x3, x4, x5, rfl, h⟩
    unfold F62_j0 at h
    refine VW.seq ?_
    refine VW.region ?_
    obtain ⟨g6, h⟩ := gd_some h
    refine VO.seg T_ok .dp 7 [2, 3, 6] [0, 2, 1] (s' := ⟨[(2, I a2), (3, .lf (.ptr 0 0 0 0)), (6, .lf (.ptr 2 0 0 0))], [bx [.v (.int .i64) x3, .hd 1 0 none, .v (.sl (.int .i64)) x5] 24, ar 0 (.int .i64) (([a1]) ++ x4) .dp, bx [.v (.int .i64) (0 : Int), .nil, .nil] 24]⟩) (φ := True ∧ True ∧ True ∧ True ∧ (([a1]).length + x4.length ≤ lim (.int .i64)) ∧ True ∧ True ∧ True) (by kernel_rfl) ⟨trivial, trivial, trivial, trivial, g6, trivial, trivial, trivial⟩ ?_
    refine VO.nil ?_
    show VW _ _ _ _ _ _ _
    refine VW.seq ?_
    refine VW.region ?_
    obtain ⟨g7, h⟩ := gd_some h
    refine VO.seg T_ok .dp 7 [3, 6] [0, 1, 3, 2] (s' := ⟨[(3, .lf (.ptr 0 0 0 0)), (6, .lf (.ptr 3 0 0 0))], [bx [.v (.int .i64) x3, .hd 1 0 none, .hd 2 0 none] 24, ar 0 (.int .i64) (([a1]) ++ x4) .dp, ar 0 (.int .i64) (([a2]) ++ x5) .dp, bx [.v (.int .i64) (0 : Int), .nil, .nil] 24]⟩) (φ := True ∧ True ∧ True ∧ True ∧ (([a2]).length + x5.length ≤ lim (.int .i64)) ∧ True ∧ True ∧ True) (by kernel_rfl) ⟨trivial, trivial, trivial, trivial, g7, trivial, trivial, trivial⟩ ?_
    refine VO.nil ?_
    show VW _ _ _ _ _ _ _
    refine VW.seq ?_
    refine VW.region ?_
    refine VO.seg T_ok .dp 2 [6] [3, 1, 2] (s' := ⟨[(6, .lf (.ptr 0 0 0 0))], [bx [.v (.int .i64) x3, .hd 1 0 none, .hd 2 0 none] 24, ar 0 (.int .i64) (([a1]) ++ x4) .dp, ar 0 (.int .i64) (([a2]) ++ x5) .dp]⟩) (φ := True ∧ True ∧ True) (by kernel_rfl) ⟨trivial, trivial, trivial⟩ ?_
    refine VO.nil ?_
    show VW _ _ _ _ _ _ _
    refine VW.ret ?_
    replace h := Option.some.inj h
    subst h
    exact retR [some 1, some 2] (by kernel_rfl) rfl

/- loop.example/g00844/impl.GetKey -/
def F36 (N : Nat) (a0 : (Int × ((List Int) × (List Int)))) (a1 : Int) : Option ((Int × ((List Int) × (List Int))) × Int × Bool) :=
  andO (F56 N a0 a1) fun y1 => cond (decide (y1 < (0 : Int))) (andO (F58 N a0) fun y3 => some (y3, (0 : Int), false)) (gd (InR y1 a0.2.2.length) (andO (F62 N a0 a1 (a0.2.2.getD y1.toNat (Ty.dflt (.int .i64)))) fun y5 => some (y5, (a0.2.2.getD y1.toNat (Ty.dflt (.int .i64))), true)))
theorem ok36 (N : Nat) (a0 : (Int × ((List Int) × (List Int)))) (a1 : Int) {r : (Int × ((List Int) × (List Int))) × Int × Bool} (h : F36 N a0 a1 = some r) : Con Go.Proofs.Try.prog 36 [.agg [.v (.int .i64) a0.1, .v (.sl (.int .i64)) a0.2.1, .v (.sl (.int .i64)) a0.2.2], I a1] [.agg [.v (.int .i64) r.1.1, .own (.int .i64) r.1.2.1 .dp, .own (.int .i64) r.1.2.2 .dp], .lf (.v (.int .i64) r.2.1), .lf (.v .bool r.2.2)] := by
  refine ⟨enters_of Go.Proofs.Try.func36 rfl (by decide), HC.intro [.agg [.v (.int .i64), .own (.int .i64) .dp, .own (.int .i64) .dp], .lf (.v (.int .i64)), .lf (.v .bool)] T_ok Go.Proofs.Try.func36 rfl (Nat.le_of_ble_eq_true rfl) (Nat.le_of_ble_eq_true rfl) fun w0 E0 => ?_⟩
  unfold F36 at h
  show VW _ _ _ _ _ (retQ _ _ _ _) _
  refine VW.seq ?_
  refine VW.region ?_
  refine VO.seg T_ok .dp 4 [1, 2, 4] [0, 1] (s' := ⟨[(1, I a1), (2, .lf (.ptr 0 0 0 0)), (4, .lf (.ptr 1 0 0 0))], [bx [.v (.int .i64) a0.1, .v (.sl (.int .i64)) a0.2.1, .v (.sl (.int .i64)) a0.2.2] 24, bx [.v (.int .i64) (0 : Int), .nil, .nil] 24]⟩) (φ := True ∧ True ∧ True ∧ True ∧ True) (by kernel_rfl) ⟨trivial, trivial, trivial, trivial, trivial⟩ ?_
  refine VO.nil ?_
  show VW _ _ _ _ _ _ _
  refine VW.seq ?_
  refine VW.region ?_
  refine VO.seg T_ok .dp 2 [1, 2, 4, 9, 10] [0, 1] (s' := ⟨[(1, I a1), (2, .lf (.ptr 0 0 0 0)), (4, .lf (.ptr 1 0 0 0)), (9, .agg [.v (.int .i64) a0.1, .v (.sl (.int .i64)) a0.2.1, .v (.sl (.int .i64)) a0.2.2]), (10, I a1)], [bx [.v (.int .i64) a0.1, .v (.sl (.int .i64)) a0.2.1, .v (.sl (.int .i64)) a0.2.2] 24, bx [.v (.int .i64) (0 : Int), .nil, .nil] 24]⟩) (φ := True ∧ True ∧ True) (by kernel_rfl) ⟨trivial, trivial, trivial⟩ ?_
  obtain ⟨y1, hy, h⟩ := andO_some h
  refine VO.call false [.t Y23, .t (.int .i64)] [] T_ok (d := some 11) (by kernel_rfl) (ok56 N _ _ hy) rfl ?_
  refine VO.seg T_ok .dp 1 [1, 2, 4, 7] [0, 1] (s' := ⟨[(1, I a1), (2, .lf (.ptr 0 0 0 0)), (4, .lf (.ptr 1 0 0 0)), (7, I y1)], [bx [.v (.int .i64) a0.1, .v (.sl (.int .i64)) a0.2.1, .v (.sl (.int .i64)) a0.2.2] 24, bx [.v (.int .i64) (0 : Int), .nil, .nil] 24]⟩) (φ := True ∧ True) (by kernel_rfl) ⟨trivial, trivial⟩ ?_
  refine VO.nil ?_
  show VW _ _ _ _ _ _ _
  refine VW.seq ?_
  refine VW.seq ?_
  refine VW.region ?_
  refine VO.seg T_ok .dp 2 [1, 2, 4, 7, 13] [0, 1] (s' := ⟨[(1, I a1), (2, .lf (.ptr 0 0 0 0)), (4, .lf (.ptr 1 0 0 0)), (7, I y1), (13, B (decide (y1 < (0 : Int))))], [bx [.v (.int .i64) a0.1, .v (.sl (.int .i64)) a0.2.1, .v (.sl (.int .i64)) a0.2.2] 24, bx [.v (.int .i64) (0 : Int), .nil, .nil] 24]⟩) (φ := True ∧ True ∧ True) (by kernel_rfl) ⟨trivial, trivial, trivial⟩ ?_
  refine VO.nil ?_
  show VW _ _ _ _ _ _ _
  refine VW.cond (b := (decide (y1 < (0 : Int)))) (by kernel_rfl) (fun hb => ?_) (fun hb => ?_)
  · replace h := cond_t h hb; clear hb
    refine VW.seq ?_
    refine VW.region ?_
    refine VO.seg T_ok .dp 1 [4, 14] [1] (s' := ⟨[(4, .lf (.ptr 0 0 0 0)), (14, .agg [.v (.int .i64) a0.1, .v (.sl (.int .i64)) a0.2.1, .v (.sl (.int .i64)) a0.2.2])], [bx [.v (.int .i64) (0 : Int), .nil, .nil] 24]⟩) (φ := True ∧ True) (by kernel_rfl) ⟨trivial, trivial⟩ ?_
    obtain ⟨y3, hy, h⟩ := andO_some h
    refine VO.call false [.t Y23] [] T_ok (d := some 15) (by kernel_rfl) (ok58 N _ hy) rfl ?_
    refine VO.seg T_ok .dp 3 [4, 5, 6] [0, 1, 2] (s' := ⟨[(4, .lf (.ptr 0 0 0 0)), (5, I (0 : Int)), (6, B false)], [bx [.v (.int .i64) y3.1, .hd 1 0 none, .hd 2 0 none] 24, ar 0 (.int .i64) y3.2.1 .dp, ar 0 (.int .i64) y3.2.2 .dp]⟩) (φ := True ∧ True ∧ True ∧ True) (by kernel_rfl) ⟨trivial, trivial, trivial, trivial⟩ ?_
    refine VO.nil ?_
    show VW _ _ _ _ _ _ _
    refine VW.ret ?_
    replace h := Option.some.inj h
    subst h
    exact retR [some 1, some 2] (by kernel_rfl) rfl
  · replace h := cond_f h hb; clear hb
    refine VW.skip ?_
    show VW _ _ _ _ _ _ _
    refine VW.seq ?_
    refine VW.region ?_
    obtain ⟨g4, h⟩ := gd_some h
    refine VO.seg T_ok .dp 6 [1, 2, 4, 8] [0, 1] (s' := ⟨[(1, I a1), (2, .lf (.ptr 0 0 0 0)), (4, .lf (.ptr 1 0 0 0)), (8, I (a0.2.2.getD y1.toNat (Ty.dflt (.int .i64))))], [bx [.v (.int .i64) a0.1, .v (.sl (.int .i64)) a0.2.1, .v (.sl (.int .i64)) a0.2.2] 24, bx [.v (.int .i64) (0 : Int), .nil, .nil] 24]⟩) (φ := True ∧ True ∧ True ∧ (InR y1 a0.2.2.length) ∧ True ∧ True ∧ True) (by kernel_rfl) ⟨trivial, trivial, trivial, g4, trivial, trivial, trivial⟩ ?_
    refine VO.nil ?_
    show VW _ _ _ _ _ _ _
    refine VW.seq ?_
    refine VW.region ?_
    refine VO.seg T_ok .dp 3 [4, 8, 21, 22, 23] [1] (s' := ⟨[(4, .lf (.ptr 0 0 0 0)), (8, I (a0.2.2.getD y1.toNat (Ty.dflt (.int .i64)))), (21, .agg [.v (.int .i64) a0.1, .v (.sl (.int .i64)) a0.2.1, .v (.sl (.int .i64)) a0.2.2]), (22, I a1), (23, I (a0.2.2.getD y1.toNat (Ty.dflt (.int .i64))))], [bx [.v (.int .i64) (0 : Int), .nil, .nil] 24]⟩) (φ := True ∧ True ∧ True ∧ True) (by kernel_rfl) ⟨trivial, trivial, trivial, trivial⟩ ?_
    obtain ⟨y5, hy, h⟩ := andO_some h
    refine VO.call false [.t Y23, .t (.int .i64), .t (.int .i64)] [] T_ok (d := some 24) (by kernel_rfl) (ok62 N _ _ _ hy) rfl ?_
    refine VO.seg T_ok .dp 4 [4, 5, 6] [0, 1, 2] (s' := ⟨[(4, .lf (.ptr 0 0 0 0)), (5, I (a0.2.2.getD y1.toNat (Ty.dflt (.int .i64)))), (6, B true)], [bx [.v (.int .i64) y5.1, .hd 1 0 none, .hd 2 0 none] 24, ar 0 (.int .i64) y5.2.1 .dp, ar 0 (.int .i64) y5.2.2 .dp]⟩) (φ := True ∧ True ∧ True ∧ True ∧ True) (by kernel_rfl) ⟨trivial, trivial, trivial, trivial, trivial⟩ ?_
    refine VO.nil ?_
    show VW _ _ _ _ _ _ _
    refine VW.ret ?_
    replace h := Option.some.inj h
    subst h
    exact retR [some 1, some 2] (by kernel_rfl) rfl

/- loop.example/g00844/impl.PutKey -/
def F38 (N : Nat) (a0 : (Int × ((List Int) × (List Int)))) (a1 : Int) (a2 : Int) : Option ((Int × ((List Int) × (List Int))) × Int × Bool) :=
  andO (F22 N a0) fun y7 => cond (!y7) (andO (F58 N a0) fun y8 => some (y8, (1000001 : Int), false)) (andO (F53 N a1) fun y9 => cond (!y9) (andO (F58 N a0) fun y10 => some (y10, (1000001 : Int), false)) (andO (F53 N a2) fun y11 => cond (!y11) (andO (F58 N a0) fun y12 => some (y12, (1000001 : Int), false)) (andO (F62 N a0 a1 a2) fun y13 => cond (decide ((y13.2.1.length : Int) ≤ a0.1)) (some (y13, (1000001 : Int), true)) (gd (InR a0.1 y13.2.1.length) (gd (a0.1.toNat < y13.2.1.length) (andO (F60 N y13 a0.1) fun y16 => some (y16, (y13.2.1.getD a0.1.toNat (Ty.dflt (.int .i64))), true)))))))
theorem ok38 (N : Nat) (a0 : (Int × ((List Int) × (List Int)))) (a1 : Int) (a2 : Int) {r : (Int × ((List Int) × (List Int))) × Int × Bool} (h : F38 N a0 a1 a2 = some r) : Con Go.Proofs.Try.prog 38 [.agg [.v (.int .i64) a0.1, .v (.sl (.int .i64)) a0.2.1, .v (.sl (.int .i64)) a0.2.2], I a1, I a2] [.agg [.v (.int .i64) r.1.1, .own (.int .i64) r.1.2.1 .dp, .own (.int .i64) r.1.2.2 .dp], .lf (.v (.int .i64) r.2.1), .lf (.v .bool r.2.2)] := by
  refine ⟨enters_of Go.Proofs.Try.func38 rfl (by decide), HC.intro [.agg [.v (.int .i64), .own (.int .i64) .dp, .own (.int .i64) .dp], .lf (.v (.int .i64)), .lf (.v .bool)] T_ok Go.Proofs.Try.func38 rfl (Nat.le_of_ble_eq_true rfl) (Nat.le_of_ble_eq_true rfl) fun w0 E0 => ?_⟩
  unfold F38 at h
  show VW _ _ _ _ _ (retQ _ _ _ _) _
  refine VW.seq ?_
  refine VW.region ?_
  refine VO.seg T_ok .dp 4 [1, 2, 3, 6] [0, 1] (s' := ⟨[(1, I a1), (2, I a2), (3, .lf (.ptr 0 0 0 0)), (6, .lf (.ptr 1 0 0 0))], [bx [.v (.int .i64) a0.1, .v (.sl (.int .i64)) a0.2.1, .v (.sl (.int .i64)) a0.2.2] 24, bx [.v (.int .i64) (0 : Int), .nil, .nil] 24]⟩) (φ := True ∧ True ∧ True ∧ True ∧ True) (by kernel_rfl) ⟨trivial, trivial, trivial, trivial, trivial⟩ ?_
  refine VO.nil ?_
  show VW _ _ _ _ _ _ _
  refine VW.seq ?_
  refine VW.seq ?_
  refine VW.region ?_
  refine VO.seg T_ok .dp 1 [1, 2, 3, 6, 11] [0, 1] (s' := ⟨[(1, I a1), (2, I a2), (3, .lf (.ptr 0 0 0 0)), (6, .lf (.ptr 1 0 0 0)), (11, .agg [.v (.int .i64) a0.1, .v (.sl (.int .i64)) a0.2.1, .v (.sl (.int .i64)) a0.2.2])], [bx [.v (.int .i64) a0.1, .v (.sl (.int .i64)) a0.2.1, .v (.sl (.int .i64)) a0.2.2] 24, bx [.v (.int .i64) (0 : Int), .nil, .nil] 24]⟩) (φ := True ∧ True) (by kernel_rfl) ⟨trivial, trivial⟩ ?_
  obtain ⟨y7, hy, h⟩ := andO_some h
  refine VO.call false [.t Y23] [] T_ok (d := some 12) (by kernel_rfl) (ok22 N _ hy) rfl ?_
  refine VO.seg T_ok .dp 2 [1, 2, 3, 6, 14] [0, 1] (s' := ⟨[(1, I a1), (2, I a2), (3, .lf (.ptr 0 0 0 0)), (6, .lf (.ptr 1 0 0 0)), (14, B (!y7))], [bx [.v (.int .i64) a0.1, .v (.sl (.int .i64)) a0.2.1, .v (.sl (.int .i64)) a0.2.2] 24, bx [.v (.int .i64) (0 : Int), .nil, .nil] 24]⟩) (φ := True ∧ True ∧ True) (by kernel_rfl) ⟨trivial, trivial, trivial⟩ ?_
  refine VO.splitB 14 (b := (!y7)) (by kernel_rfl) (fun hb => ?_) (fun hb => ?_)
  · replace h := cond_t h hb; clear hb
    refine VO.seg T_ok .dp 9 [1, 2, 3, 6, 23] [0, 1] (s' := ⟨[(1, I a1), (2, I a2), (3, .lf (.ptr 0 0 0 0)), (6, .lf (.ptr 1 0 0 0)), (23, B true)], [bx [.v (.int .i64) a0.1, .v (.sl (.int .i64)) a0.2.1, .v (.sl (.int .i64)) a0.2.2] 24, bx [.v (.int .i64) (0 : Int), .nil, .nil] 24]⟩) (φ := True ∧ True ∧ True ∧ True ∧ True ∧ True ∧ True ∧ True ∧ True ∧ True) (by kernel_rfl) ⟨trivial, trivial, trivial, trivial, trivial, trivial, trivial, trivial, trivial, trivial⟩ ?_
    refine VO.nil ?_
    show VW _ _ _ _ _ _ _
    refine VW.cond (b := true) (by kernel_rfl) (fun _ => ?_) (fun h' => nomatch h')
    refine VW.seq ?_
    refine VW.region ?_
    refine VO.seg T_ok .dp 1 [6, 24] [1] (s' := ⟨[(6, .lf (.ptr 0 0 0 0)), (24, .agg [.v (.int .i64) a0.1, .v (.sl (.int .i64)) a0.2.1, .v (.sl (.int .i64)) a0.2.2])], [bx [.v (.int .i64) (0 : Int), .nil, .nil] 24]⟩) (φ := True ∧ True) (by kernel_rfl) ⟨trivial, trivial⟩ ?_
    obtain ⟨y8, hy, h⟩ := andO_some h
    refine VO.call false [.t Y23] [] T_ok (d := some 25) (by kernel_rfl) (ok58 N _ hy) rfl ?_
    refine VO.seg T_ok .dp 3 [6, 7, 8] [0, 1, 2] (s' := ⟨[(6, .lf (.ptr 0 0 0 0)), (7, I (1000001 : Int)), (8, B false)], [bx [.v (.int .i64) y8.1, .hd 1 0 none, .hd 2 0 none] 24, ar 0 (.int .i64) y8.2.1 .dp, ar 0 (.int .i64) y8.2.2 .dp]⟩) (φ := True ∧ True ∧ True ∧ True) (by kernel_rfl) ⟨trivial, trivial, trivial, trivial⟩ ?_
    refine VO.nil ?_
    show VW _ _ _ _ _ _ _
    refine VW.ret ?_
    replace h := Option.some.inj h
    subst h
    exact retR [some 1, some 2] (by kernel_rfl) rfl
  · replace h := cond_f h hb; clear hb
    refine VO.seg T_ok .dp 1 [1, 2, 3, 6, 14, 15] [0, 1] (s' := ⟨[(1, I a1), (2, I a2), (3, .lf (.ptr 0 0 0 0)), (6, .lf (.ptr 1 0 0 0)), (14, B false), (15, I a1)], [bx [.v (.int .i64) a0.1, .v (.sl (.int .i64)) a0.2.1, .v (.sl (.int .i64)) a0.2.2] 24, bx [.v (.int .i64) (0 : Int), .nil, .nil] 24]⟩) (φ := True ∧ True) (by kernel_rfl) ⟨trivial, trivial⟩ ?_
    refine VO.on (j := 3) (want := false) (d := 14) (b := false) rfl rfl rfl (by kernel_rfl) rfl ?_
    obtain ⟨y9, hy, h⟩ := andO_some h
    refine VO.call false [.t (.int .i64)] [] T_ok (d := some 16) (by kernel_rfl) (ok53 N _ hy) rfl ?_
    refine VO.seg T_ok .dp 3 [1, 2, 3, 6, 19] [0, 1] (s' := ⟨[(1, I a1), (2, I a2), (3, .lf (.ptr 0 0 0 0)), (6, .lf (.ptr 1 0 0 0)), (19, B (!y9))], [bx [.v (.int .i64) a0.1, .v (.sl (.int .i64)) a0.2.1, .v (.sl (.int .i64)) a0.2.2] 24, bx [.v (.int .i64) (0 : Int), .nil, .nil] 24]⟩) (φ := True ∧ True ∧ True ∧ True) (by kernel_rfl) ⟨trivial, trivial, trivial, trivial⟩ ?_
    refine VO.splitB 19 (b := (!y9)) (by kernel_rfl) (fun hb => ?_) (fun hb => ?_)
    · replace h := cond_t h hb; clear hb
      refine VO.seg T_ok .dp 4 [1, 2, 3, 6, 23] [0, 1] (s' := ⟨[(1, I a1), (2, I a2), (3, .lf (.ptr 0 0 0 0)), (6, .lf (.ptr 1 0 0 0)), (23, B true)], [bx [.v (.int .i64) a0.1, .v (.sl (.int .i64)) a0.2.1, .v (.sl (.int .i64)) a0.2.2] 24, bx [.v (.int .i64) (0 : Int), .nil, .nil] 24]⟩) (φ := True ∧ True ∧ True ∧ True ∧ True) (by kernel_rfl) ⟨trivial, trivial, trivial, trivial, trivial⟩ ?_
      refine VO.nil ?_
      show VW _ _ _ _ _ _ _
      refine VW.cond (b := true) (by kernel_rfl) (fun _ => ?_) (fun h' => nomatch h')
      refine VW.seq ?_
      refine VW.region ?_
      refine VO.seg T_ok .dp 1 [6, 24] [1] (s' := ⟨[(6, .lf (.ptr 0 0 0 0)), (24, .agg [.v (.int .i64) a0.1, .v (.sl (.int .i64)) a0.2.1, .v (.sl (.int .i64)) a0.2.2])], [bx [.v (.int .i64) (0 : Int), .nil, .nil] 24]⟩) (φ := True ∧ True) (by kernel_rfl) ⟨trivial, trivial⟩ ?_
      obtain ⟨y10, hy, h⟩ := andO_some h
      refine VO.call false [.t Y23] [] T_ok (d := some 25) (by kernel_rfl) (ok58 N _ hy) rfl ?_
      refine VO.seg T_ok .dp 3 [6, 7, 8] [0, 1, 2] (s' := ⟨[(6, .lf (.ptr 0 0 0 0)), (7, I (1000001 : Int)), (8, B false)], [bx [.v (.int .i64) y10.1, .hd 1 0 none, .hd 2 0 none] 24, ar 0 (.int .i64) y10.2.1 .dp, ar 0 (.int .i64) y10.2.2 .dp]⟩) (φ := True ∧ True ∧ True ∧ True) (by kernel_rfl) ⟨trivial, trivial, trivial, trivial⟩ ?_
      refine VO.nil ?_
      show VW _ _ _ _ _ _ _
      refine VW.ret ?_
      replace h := Option.some.inj h
      subst h
      exact retR [some 1, some 2] (by kernel_rfl) rfl
    · replace h := cond_f h hb; clear hb
      refine VO.seg T_ok .dp 1 [1, 2, 3, 6, 19, 20] [0, 1] (s' := ⟨[(1, I a1), (2, I a2), (3, .lf (.ptr 0 0 0 0)), (6, .lf (.ptr 1 0 0 0)), (19, B false), (20, I a2)], [bx [.v (.int .i64) a0.1, .v (.sl (.int .i64)) a0.2.1, .v (.sl (.int .i64)) a0.2.2] 24, bx [.v (.int .i64) (0 : Int), .nil, .nil] 24]⟩) (φ := True ∧ True) (by kernel_rfl) ⟨trivial, trivial⟩ ?_
      refine VO.on (j := 8) (want := false) (d := 19) (b := false) rfl rfl rfl (by kernel_rfl) rfl ?_
      obtain ⟨y11, hy, h⟩ := andO_some h
      refine VO.call false [.t (.int .i64)] [] T_ok (d := some 21) (by kernel_rfl) (ok53 N _ hy) rfl ?_
      refine VO.seg T_ok .dp 2 [1, 2, 3, 6, 23] [0, 1] (s' := ⟨[(1, I a1), (2, I a2), (3, .lf (.ptr 0 0 0 0)), (6, .lf (.ptr 1 0 0 0)), (23, B (!y11))], [bx [.v (.int .i64) a0.1, .v (.sl (.int .i64)) a0.2.1, .v (.sl (.int .i64)) a0.2.2] 24, bx [.v (.int .i64) (0 : Int), .nil, .nil] 24]⟩) (φ := True ∧ True ∧ True) (by kernel_rfl) ⟨trivial, trivial, trivial⟩ ?_
      refine VO.nil ?_
      show VW _ _ _ _ _ _ _
      refine VW.cond (b := (!y11)) (by kernel_rfl) (fun hb => ?_) (fun hb => ?_)
      · replace h := cond_t h hb; clear hb
        refine VW.seq ?_
        refine VW.region ?_
        refine VO.seg T_ok .dp 1 [6, 24] [1] (s' := ⟨[(6, .lf (.ptr 0 0 0 0)), (24, .agg [.v (.int .i64) a0.1, .v (.sl (.int .i64)) a0.2.1, .v (.sl (.int .i64)) a0.2.2])], [bx [.v (.int .i64) (0 : Int), .nil, .nil] 24]⟩) (φ := True ∧ True) (by kernel_rfl) ⟨trivial, trivial⟩ ?_
        obtain ⟨y12, hy, h⟩ := andO_some h
        refine VO.call false [.t Y23] [] T_ok (d := some 25) (by kernel_rfl) (ok58 N _ hy) rfl ?_
        refine VO.seg T_ok .dp 3 [6, 7, 8] [0, 1, 2] (s' := ⟨[(6, .lf (.ptr 0 0 0 0)), (7, I (1000001 : Int)), (8, B false)], [bx [.v (.int .i64) y12.1, .hd 1 0 none, .hd 2 0 none] 24, ar 0 (.int .i64) y12.2.1 .dp, ar 0 (.int .i64) y12.2.2 .dp]⟩) (φ := True ∧ True ∧ True ∧ True) (by kernel_rfl) ⟨trivial, trivial, trivial, trivial⟩ ?_
        refine VO.nil ?_
        show VW _ _ _ _ _ _ _
        refine VW.ret ?_
        replace h := Option.some.inj h
        subst h
        exact retR [some 1, some 2] (by kernel_rfl) rfl
      · replace h := cond_f h hb; clear hb
        refine VW.skip ?_
        show VW _ _ _ _ _ _ _
        refine VW.seq ?_
        refine VW.region ?_
        refine VO.seg T_ok .dp 3 [3, 6, 26, 27, 28] [0, 1] (s' := ⟨[(3, .lf (.ptr 0 0 0 0)), (6, .lf (.ptr 1 0 0 0)), (26, .agg [.v (.int .i64) a0.1, .v (.sl (.int .i64)) a0.2.1, .v (.sl (.int .i64)) a0.2.2]), (27, I a1), (28, I a2)], [bx [.v (.int .i64) a0.1, .v (.sl (.int .i64)) a0.2.1, .v (.sl (.int .i64)) a0.2.2] 24, bx [.v (.int .i64) (0 : Int), .nil, .nil] 24]⟩) (φ := True ∧ True ∧ True ∧ True) (by kernel_rfl) ⟨trivial, trivial, trivial, trivial⟩ ?_
        obtain ⟨y13, hy, h⟩ := andO_some h
        refine VO.call false [.t Y23, .t (.int .i64), .t (.int .i64)] [] T_ok (d := some 29) (by kernel_rfl) (ok62 N _ _ _ hy) rfl ?_
        refine VO.seg T_ok .dp 2 [3, 6, 9] [0, 1, 4, 2, 3] (s' := ⟨[(3, .lf (.ptr 0 0 0 0)), (6, .lf (.ptr 1 0 0 0)), (9, .lf (.ptr 2 0 0 0))], [bx [.v (.int .i64) a0.1, .v (.sl (.int .i64)) a0.2.1, .v (.sl (.int .i64)) a0.2.2] 24, bx [.v (.int .i64) (0 : Int), .nil, .nil] 24, bx [.v (.int .i64) y13.1, .hd 3 0 none, .hd 4 0 none] 24, ar 0 (.int .i64) y13.2.1 .dp, ar 0 (.int .i64) y13.2.2 .dp]⟩) (φ := True ∧ True ∧ True) (by kernel_rfl) ⟨trivial, trivial, trivial⟩ ?_
        refine VO.nil ?_
        show VW _ _ _ _ _ _ _
        refine VW.seq ?_
        refine VW.seq ?_
        refine VW.region ?_
        refine VO.seg T_ok .dp 6 [3, 6, 9, 35] [0, 1, 2, 3, 4] (s' := ⟨[(3, .lf (.ptr 0 0 0 0)), (6, .lf (.ptr 1 0 0 0)), (9, .lf (.ptr 2 0 0 0)), (35, B (decide ((y13.2.1.length : Int) ≤ a0.1)))], [bx [.v (.int .i64) a0.1, .v (.sl (.int .i64)) a0.2.1, .v (.sl (.int .i64)) a0.2.2] 24, bx [.v (.int .i64) (0 : Int), .nil, .nil] 24, bx [.v (.int .i64) y13.1, .hd 3 0 none, .hd 4 0 none] 24, ar 0 (.int .i64) y13.2.1 .dp, ar 0 (.int .i64) y13.2.2 .dp]⟩) (φ := True ∧ True ∧ True ∧ True ∧ True ∧ True ∧ True) (by kernel_rfl) ⟨trivial, trivial, trivial, trivial, trivial, trivial, trivial⟩ ?_
        refine VO.nil ?_
        show VW _ _ _ _ _ _ _
        refine VW.cond (b := (decide ((y13.2.1.length : Int) ≤ a0.1))) (by kernel_rfl) (fun hb => ?_) (fun hb => ?_)
        · replace h := cond_t h hb; clear hb
          refine VW.seq ?_
          refine VW.region ?_
          refine VO.seg T_ok .dp 4 [6, 7, 8] [1, 3, 4] (s' := ⟨[(6, .lf (.ptr 0 0 0 0)), (7, I (1000001 : Int)), (8, B true)], [bx [.v (.int .i64) y13.1, .hd 1 0 none, .hd 2 0 none] 24, ar 0 (.int .i64) y13.2.1 .dp, ar 0 (.int .i64) y13.2.2 .dp]⟩) (φ := True ∧ True ∧ True ∧ True ∧ True) (by kernel_rfl) ⟨trivial, trivial, trivial, trivial, trivial⟩ ?_
          refine VO.nil ?_
          show VW _ _ _ _ _ _ _
          refine VW.ret ?_
          replace h := Option.some.inj h
          subst h
          exact retR [some 1, some 2] (by kernel_rfl) rfl
        · replace h := cond_f h hb; clear hb
          refine VW.skip ?_
          show VW _ _ _ _ _ _ _
          refine VW.seq ?_
          refine VW.region ?_
          obtain ⟨g14, h⟩ := gd_some h
          obtain ⟨g15, h⟩ := gd_some h
          refine VO.seg T_ok .dp 7 [3, 6, 9, 10] [0, 1, 2, 3, 4] (s' := ⟨[(3, .lf (.ptr 0 0 0 0)), (6, .lf (.ptr 1 0 0 0)), (9, .lf (.ptr 2 0 0 0)), (10, I (y13.2.1.getD a0.1.toNat (Ty.dflt (.int .i64))))], [bx [.v (.int .i64) a0.1, .v (.sl (.int .i64)) a0.2.1, .v (.sl (.int .i64)) a0.2.2] 24, bx [.v (.int .i64) (0 : Int), .nil, .nil] 24, bx [.v (.int .i64) y13.1, .hd 3 0 none, .hd 4 0 none] 24, ar 0 (.int .i64) y13.2.1 .dp, ar 0 (.int .i64) y13.2.2 .dp]⟩) (φ := True ∧ True ∧ True ∧ True ∧ (InR a0.1 y13.2.1.length) ∧ (a0.1.toNat < y13.2.1.length) ∧ True ∧ True) (by kernel_rfl) ⟨trivial, trivial, trivial, trivial, g14, g15, trivial, trivial⟩ ?_
          refine VO.nil ?_
          show VW _ _ _ _ _ _ _
          refine VW.seq ?_
          refine VW.region ?_
          refine VO.seg T_ok .dp 3 [6, 10, 43, 45] [1, 3, 4] (s' := ⟨[(6, .lf (.ptr 0 0 0 0)), (10, I (y13.2.1.getD a0.1.toNat (Ty.dflt (.int .i64)))), (43, .agg [.v (.int .i64) y13.1, .hd 1 0 none, .hd 2 0 none]), (45, I a0.1)], [bx [.v (.int .i64) (0 : Int), .nil, .nil] 24, ar 0 (.int .i64) y13.2.1 .dp, ar 0 (.int .i64) y13.2.2 .dp]⟩) (φ := True ∧ True ∧ True ∧ True) (by kernel_rfl) ⟨trivial, trivial, trivial, trivial⟩ ?_
          obtain ⟨y16, hy, h⟩ := andO_some h
          refine VO.call true [.t Y23, .t (.int .i64)] [] T_ok (d := some 46) (by kernel_rfl) (ok60 N _ _ hy) rfl ?_
          refine VO.seg T_ok .dp 4 [6, 7, 8] [0, 3, 4] (s' := ⟨[(6, .lf (.ptr 0 0 0 0)), (7, I (y13.2.1.getD a0.1.toNat (Ty.dflt (.int .i64)))), (8, B true)], [bx [.v (.int .i64) y16.1, .hd 1 0 none, .hd 2 0 none] 24, ar 0 (.int .i64) y16.2.1 .dp, ar 0 (.int .i64) y16.2.2 .dp]⟩) (φ := True ∧ True ∧ True ∧ True ∧ True) (by kernel_rfl) ⟨trivial, trivial, trivial, trivial, trivial⟩ ?_
          refine VO.nil ?_
          show VW _ _ _ _ _ _ _
          refine VW.ret ?_
          replace h := Option.some.inj h
          subst h
          exact retR [some 1, some 2] (by kernel_rfl) rfl

/- loop.example/g00844/spec.PlayCache -/
def F39_j0 (N : Nat) (x89 : Int) (x90 : (List Int)) (x91 : (List Int)) (x92 : (List Int)) : Option ((Int × ((List Int) × (List Int))) × (List Int)) :=
  some ((x89, (x90, x91)), x92)
def F39_j1 (N : Nat) (nx154 : Int → (List Int) → (List Int) → (List Int) → Int → Option ((Int × ((List Int) × (List Int))) × (List Int))) (x126 : (List Int)) (x127 : Int) (x172 : Int) (x173 : (List Int)) (x174 : (List Int)) (x175 : Int) : Option ((Int × ((List Int) × (List Int))) × (List Int)) :=
  gd (x126.length + ([x175]).length ≤ lim (.int .i64)) (nx154 x172 x173 x174 (x126 ++ ([x175])) (IntKind.i64.wrap (x127 + (1 : Int))))
def F39_l0_b (N : Nat) (a1 : (List Int)) (nx154 : Int → (List Int) → (List Int) → (List Int) → Int → Option ((Int × ((List Int) × (List Int))) × (List Int))) (x123 : Int) (x124 : (List Int)) (x125 : (List Int)) (x126 : (List Int)) (x127 : Int) : Option ((Int × ((List Int) × (List Int))) × (List Int)) :=
  cond (decide (x127 < (a1.length : Int))) (gd (InR x127 a1.length) (cond (decide ((a1.getD x127.toNat (Ty.dflt (.int .i64))) < (0 : Int))) (andO (F29 N (x123, (x124, x125)) (IntKind.i64.wrap ((IntKind.i64.wrap ((0 : Int) - (a1.getD x127.toNat (Ty.dflt (.int .i64))))) - (1 : Int)))) fun y178 => cond y178.2 (F39_j1 N nx154 x126 x127 y178.1.1 y178.1.2.1 y178.1.2.2 (1 : Int)) (F39_j1 N nx154 x126 x127 y178.1.1 y178.1.2.1 y178.1.2.2 (0 : Int))) (cond ((Int.tmod (a1.getD x127.toNat (Ty.dflt (.int .i64))) (2 : Int)) == (0 : Int)) (andO (F35 N (x123, (x124, x125)) (IntKind.i64.wrap (Int.tdiv (a1.getD x127.toNat (Ty.dflt (.int .i64))) (2 : Int)))) fun y179 => cond y179.2.2 (F39_j1 N nx154 x126 x127 y179.1.1 y179.1.2.1 y179.1.2.2 y179.2.1) (F39_j1 N nx154 x126 x127 y179.1.1 y179.1.2.1 y179.1.2.2 (-1 : Int))) (andO (F37 N (x123, (x124, x125)) (IntKind.i64.wrap (Int.tdiv (a1.getD x127.toNat (Ty.dflt (.int .i64))) (2 : Int))) (a1.getD x127.toNat (Ty.dflt (.int .i64)))) fun y180 => cond (decide (y180.2.1 ≤ (1000000 : Int))) (F39_j1 N nx154 x126 x127 y180.1.1 y180.1.2.1 y180.1.2.2 y180.2.1) (F39_j1 N nx154 x126 x127 y180.1.1 y180.1.2.1 y180.1.2.2 (-1 : Int)))))) (F39_j0 N x123 x124 x125 x126)
def F39_l0 (N : Nat) (a1 : (List Int)) : Nat → Int → (List Int) → (List Int) → (List Int) → Int → Option ((Int × ((List Int) × (List Int))) × (List Int)) := loopF (F39_l0_b N a1) (fun _ _ _ _ _ => none)
theorem F39_l0_s (N : Nat) (a1 : (List Int)) {k : Nat} (hk : 0 < k) (x123 : Int) (x124 : (List Int)) (x125 : (List Int)) (x126 : (List Int)) (x127 : Int) : F39_l0 N a1 k x123 x124 x125 x126 x127 = F39_l0_b N a1 (F39_l0 N a1 (k - 1)) x123 x124 x125 x126 x127 := by
  cases k with
  | zero => exact absurd hk (Nat.lt_irrefl 0)
  | succ m => rfl
def F39 (N : Nat) (a0 : Int) (a1 : (List Int)) : Option ((Int × ((List Int) × (List Int))) × (List Int)) :=
  andO (F14 N a0) fun y1 => cond (!y1.2) (some (((0 : Int), ([], [])), [])) (cond (decide ((a1.length : Int) > (300 : Int))) (some (((0 : Int), ([], [])), [])) (F39_l0 N a1 N y1.1.1 y1.1.2.1 y1.1.2.2 ([]) (0 : Int)))
theorem ok39 (N : Nat) (a0 : Int) (a1 : (List Int)) {r : (Int × ((List Int) × (List Int))) × (List Int)} (h : F39 N a0 a1 = some r) : Con Go.Proofs.Try.prog 39 [I a0, .lf (.v (.sl (.int .i64)) a1)] [.agg [.v (.int .i64) r.1.1, .own (.int .i64) r.1.2.1 .dp, .own (.int .i64) r.1.2.2 .dp], .lf (.own (.int .i64) r.2 .dp)] := by
  refine ⟨enters_of Go.Proofs.Try.func39 rfl (by decide), HC.intro [.agg [.v (.int .i64), .own (.int .i64) .dp, .own (.int .i64) .dp], .lf (.own (.int .i64) .dp)] T_ok Go.Proofs.Try.func39 rfl (Nat.le_of_ble_eq_true rfl) (Nat.le_of_ble_eq_true rfl) fun w0 E0 => ?_⟩
  unfold F39 at h
  show VW _ _ _ _ _ (retQ _ _ _ _) _
  refine VW.seq ?_
  refine VW.region ?_
  refine VO.seg T_ok .dp 2 [0, 1, 4] [0] (s' := ⟨[(0, I a0), (1, .lf (.v (.sl (.int .i64)) a1)), (4, .lf (.ptr 0 0 0 0))], [bx [.v (.int .i64) (0 : Int), .nil, .nil] 24]⟩) (φ := True ∧ True ∧ True) (by kernel_rfl) ⟨trivial, trivial, trivial⟩ ?_
  refine VO.nil ?_
  show VW _ _ _ _ _ _ _
  refine VW.seq ?_
  refine VW.region ?_
  refine VO.seg T_ok .dp 1 [1, 4, 21] [0] (s' := ⟨[(1, .lf (.v (.sl (.int .i64)) a1)), (4, .lf (.ptr 0 0 0 0)), (21, I a0)], [bx [.v (.int .i64) (0 : Int), .nil, .nil] 24]⟩) (φ := True ∧ True) (by kernel_rfl) ⟨trivial, trivial⟩ ?_
  obtain ⟨y1, hy, h⟩ := andO_some h
  refine VO.call false [.t (.int .i64)] [] T_ok (d := some 22) (by kernel_rfl) (ok14 N _ hy) rfl ?_
  refine VO.seg T_ok .dp 6 [1, 4, 6, 7] [0, 3, 1, 2] (s' := ⟨[(1, .lf (.v (.sl (.int .i64)) a1)), (4, .lf (.ptr 0 0 0 0)), (6, .lf (.ptr 1 0 0 0)), (7, B y1.2)], [bx [.v (.int .i64) (0 : Int), .nil, .nil] 24, bx [.v (.int .i64) y1.1.1, .hd 2 0 none, .hd 3 0 none] 24, ar 0 (.int .i64) y1.1.2.1 .dp, ar 0 (.int .i64) y1.1.2.2 .dp]⟩) (φ := True ∧ True ∧ True ∧ True ∧ True ∧ True ∧ True) (by kernel_rfl) ⟨trivial, trivial, trivial, trivial, trivial, trivial, trivial⟩ ?_
  refine VO.nil ?_
  show VW _ _ _ _ _ _ _
  refine VW.seq ?_
  refine VW.seq ?_
  refine VW.region ?_
  refine VO.seg T_ok .dp 3 [1, 4, 6, 27] [0, 1, 2, 3] (s' := ⟨[(1, .lf (.v (.sl (.int .i64)) a1)), (4, .lf (.ptr 0 0 0 0)), (6, .lf (.ptr 1 0 0 0)), (27, B (!y1.2))], [bx [.v (.int .i64) (0 : Int), .nil, .nil] 24, bx [.v (.int .i64) y1.1.1, .hd 2 0 none, .hd 3 0 none] 24, ar 0 (.int .i64) y1.1.2.1 .dp, ar 0 (.int .i64) y1.1.2.2 .dp]⟩) (φ := True ∧ True ∧ True ∧ True) (by kernel_rfl) ⟨trivial, trivial, trivial, trivial⟩ ?_
  refine VO.splitB 27 (b := (!y1.2)) (by kernel_rfl) (fun hb => ?_) (fun hb => ?_)
  · replace h := cond_t h hb; clear hb
    refine VO.seg T_ok .dp 4 [1, 4, 6, 31] [0, 1, 2, 3] (s' := ⟨[(1, .lf (.v (.sl (.int .i64)) a1)), (4, .lf (.ptr 0 0 0 0)), (6, .lf (.ptr 1 0 0 0)), (31, B true)], [bx [.v (.int .i64) (0 : Int), .nil, .nil] 24, bx [.v (.int .i64) y1.1.1, .hd 2 0 none, .hd 3 0 none] 24, ar 0 (.int .i64) y1.1.2.1 .dp, ar 0 (.int .i64) y1.1.2.2 .dp]⟩) (φ := True ∧ True ∧ True ∧ True ∧ True) (by kernel_rfl) ⟨trivial, trivial, trivial, trivial, trivial⟩ ?_
    refine VO.nil ?_
    show VW _ _ _ _ _ _ _
    refine VW.cond (b := true) (by kernel_rfl) (fun _ => ?_) (fun h' => nomatch h')
    refine VW.seq ?_
    refine VW.region ?_
    refine VO.seg T_ok .dp 3 [4, 5] [0] (s' := ⟨[(4, .lf (.ptr 0 0 0 0)), (5, .lf (.nil))], [bx [.v (.int .i64) (0 : Int), .nil, .nil] 24]⟩) (φ := True ∧ True ∧ True ∧ True) (by kernel_rfl) ⟨trivial, trivial, trivial, trivial⟩ ?_
    refine VO.nil ?_
    show VW _ _ _ _ _ _ _
    refine VW.ret ?_
    replace h := Option.some.inj h
    subst h
    exact retR [none, none, none] (by kernel_rfl) rfl
  · replace h := cond_f h hb; clear hb
    refine VO.seg T_ok .dp 4 [1, 4, 6, 31] [0, 1, 2, 3] (s' := ⟨[(1, .lf (.v (.sl (.int .i64)) a1)), (4, .lf (.ptr 0 0 0 0)), (6, .lf (.ptr 1 0 0 0)), (31, B (decide ((a1.length : Int) > (300 : Int))))], [bx [.v (.int .i64) (0 : Int), .nil, .nil] 24, bx [.v (.int .i64) y1.1.1, .hd 2 0 none, .hd 3 0 none] 24, ar 0 (.int .i64) y1.1.2.1 .dp, ar 0 (.int .i64) y1.1.2.2 .dp]⟩) (φ := True ∧ True ∧ True ∧ True ∧ True) (by kernel_rfl) ⟨trivial, trivial, trivial, trivial, trivial⟩ ?_
    refine VO.nil ?_
    show VW _ _ _ _ _ _ _
    refine VW.cond (b := (decide ((a1.length : Int) > (300 : Int)))) (by kernel_rfl) (fun hb => ?_) (fun hb => ?_)
    · replace h := cond_t h hb; clear hb
      refine VW.seq ?_
      refine VW.region ?_
      refine VO.seg T_ok .dp 3 [4, 5] [0] (s' := ⟨[(4, .lf (.ptr 0 0 0 0)), (5, .lf (.nil))], [bx [.v (.int .i64) (0 : Int), .nil, .nil] 24]⟩) (φ := True ∧ True ∧ True ∧ True) (by kernel_rfl) ⟨trivial, trivial, trivial, trivial⟩ ?_
      refine VO.nil ?_
      show VW _ _ _ _ _ _ _
      refine VW.ret ?_
      replace h := Option.some.inj h
      subst h
      exact retR [none, none, none] (by kernel_rfl) rfl
    · replace h := cond_f h hb; clear hb
      refine VW.skip ?_
      show VW _ _ _ _ _ _ _
      refine VW.seq ?_
      refine VW.region ?_
      refine VO.seg T_ok .dp 2 [1, 4, 6, 8] [0, 1, 2, 3] (s' := ⟨[(1, .lf (.v (.sl (.int .i64)) a1)), (4, .lf (.ptr 0 0 0 0)), (6, .lf (.ptr 1 0 0 0)), (8, .lf (.nil))], [bx [.v (.int .i64) (0 : Int), .nil, .nil] 24, bx [.v (.int .i64) y1.1.1, .hd 2 0 none, .hd 3 0 none] 24, ar 0 (.int .i64) y1.1.2.1 .dp, ar 0 (.int .i64) y1.1.2.2 .dp]⟩) (φ := True ∧ True ∧ True) (by kernel_rfl) ⟨trivial, trivial, trivial⟩ ?_
      refine VO.nil ?_
      show VW _ _ _ _ _ _ _
      refine VW.join (fun s => ∃ (x89 : Int) (x90 : (List Int)) (x91 : (List Int)) (x92 : (List Int)), s = ⟨[(4, .lf (.ptr 0 0 0 0)), (6, .lf (.ptr 1 0 0 0)), (8, .lf (.hd 4 0 none))], [bx [.v (.int .i64) (0 : Int), .nil, .nil] 24, bx [.v (.int .i64) x89, .hd 2 0 none, .hd 3 0 none] 24, ar 0 (.int .i64) x90 .dp, ar 0 (.int .i64) x91 .dp, ar 0 (.int .i64) x92 .dp]⟩ ∧ F39_j0 N x89 x90 x91 x92 = some r) ?_ ?_
      · refine VW.seq ?_
        refine VW.region ?_
        refine VO.seg T_ok .dp 1 [1, 4, 6, 8, 9] [0, 1, 2, 3] (s' := ⟨[(1, .lf (.v (.sl (.int .i64)) a1)), (4, .lf (.ptr 0 0 0 0)), (6, .lf (.ptr 1 0 0 0)), (8, .lf (.nil)), (9, I (0 : Int))], [bx [.v (.int .i64) (0 : Int), .nil, .nil] 24, bx [.v (.int .i64) y1.1.1, .hd 2 0 none, .hd 3 0 none] 24, ar 0 (.int .i64) y1.1.2.1 .dp, ar 0 (.int .i64) y1.1.2.2 .dp]⟩) (φ := True ∧ True) (by kernel_rfl) ⟨trivial, trivial⟩ ?_
        refine VO.nil ?_
        show VW _ _ _ _ _ _ _
        refine VW.block ?_
        refine VW.loopL (fun k s => ∃ (x123 : Int) (x124 : (List Int)) (x125 : (List Int)) (x126 : (List Int)) (x127 : Int), s = ⟨[(1, .lf (.v (.sl (.int .i64)) a1)), (4, .lf (.ptr 0 0 0 0)), (6, .lf (.ptr 1 0 0 0)), (8, .lf (.hd 4 0 none)), (9, I x127)], [bx [.v (.int .i64) (0 : Int), .nil, .nil] 24, bx [.v (.int .i64) x123, .hd 2 0 none, .hd 3 0 none] 24, ar 0 (.int .i64) x124 .dp, ar 0 (.int .i64) x125 .dp, ar 0 (.int .i64) x126 .dp]⟩ ∧ F39_l0 N a1 k x123 x124 x125 x126 x127 = some r) N [.nilS 8 (.int .i64) .dp, .ren [1, 4, 6, 8, 9] [0, 1, 2, 3, 4]] (by kernel_rfl) ⟨y1.1.1, y1.1.2.1, y1.1.2.2, [], (0 : Int), rfl, h⟩ ?_
        rintro k154 s ⟨x123, x124, x125, x126, x127, rfl, h⟩
        cases k154 with
        | zero => exact nomatch (show (none : Option ((Int × ((List Int) × (List Int))) × (List Int))) = some r from h)
        | succ k154 =>
          replace h : F39_l0_b N a1 (F39_l0 N a1 k154) x123 x124 x125 x126 x127 = some r := h
          unfold F39_l0_b at h
          refine VW.seq ?_
          refine VW.seq ?_
          refine VW.region ?_
          refine VO.seg T_ok .dp 4 [1, 4, 6, 8, 9, 37] [0, 1, 2, 3, 4] (s' := ⟨[(1, .lf (.v (.sl (.int .i64)) a1)), (4, .lf (.ptr 0 0 0 0)), (6, .lf (.ptr 1 0 0 0)), (8, .lf (.hd 4 0 none)), (9, I x127), (37, B (decide (x127 < (a1.length : Int))))], [bx [.v (.int .i64) (0 : Int), .nil, .nil] 24, bx [.v (.int .i64) x123, .hd 2 0 none, .hd 3 0 none] 24, ar 0 (.int .i64) x124 .dp, ar 0 (.int .i64) x125 .dp, ar 0 (.int .i64) x126 .dp]⟩) (φ := True ∧ True ∧ True ∧ True ∧ True) (by kernel_rfl) ⟨trivial, trivial, trivial, trivial, trivial⟩ ?_
          refine VO.nil ?_
          show VW _ _ _ _ _ _ _
          refine VW.cond (b := (decide (x127 < (a1.length : Int)))) (by kernel_rfl) (fun hb => ?_) (fun hb => ?_)
          · replace h := cond_t h hb; clear hb
            refine VW.skip ?_
            show VW _ _ _ _ _ _ _
            refine VW.seq ?_
            refine VW.block ?_
            refine VW.seq ?_
            refine VW.region ?_
            obtain ⟨g168, h⟩ := gd_some h
            refine VO.seg T_ok .dp 5 [1, 4, 6, 8, 9, 10] [0, 1, 2, 3, 4] (s' := ⟨[(1, .lf (.v (.sl (.int .i64)) a1)), (4, .lf (.ptr 0 0 0 0)), (6, .lf (.ptr 1 0 0 0)), (8, .lf (.hd 4 0 none)), (9, I x127), (10, I (a1.getD x127.toNat (Ty.dflt (.int .i64))))], [bx [.v (.int .i64) (0 : Int), .nil, .nil] 24, bx [.v (.int .i64) x123, .hd 2 0 none, .hd 3 0 none] 24, ar 0 (.int .i64) x124 .dp, ar 0 (.int .i64) x125 .dp, ar 0 (.int .i64) x126 .dp]⟩) (φ := True ∧ True ∧ (InR x127 a1.length) ∧ True ∧ True ∧ True) (by kernel_rfl) ⟨trivial, trivial, g168, trivial, trivial, trivial⟩ ?_
            refine VO.nil ?_
            show VW _ _ _ _ _ _ _
            refine VW.seq ?_
            refine VW.region ?_
            refine VO.seg T_ok .dp 1 [1, 4, 6, 8, 9, 10, 11] [0, 1, 2, 3, 4] (s' := ⟨[(1, .lf (.v (.sl (.int .i64)) a1)), (4, .lf (.ptr 0 0 0 0)), (6, .lf (.ptr 1 0 0 0)), (8, .lf (.hd 4 0 none)), (9, I x127), (10, I (a1.getD x127.toNat (Ty.dflt (.int .i64)))), (11, I (-1 : Int))], [bx [.v (.int .i64) (0 : Int), .nil, .nil] 24, bx [.v (.int .i64) x123, .hd 2 0 none, .hd 3 0 none] 24, ar 0 (.int .i64) x124 .dp, ar 0 (.int .i64) x125 .dp, ar 0 (.int .i64) x126 .dp]⟩) (φ := True ∧ True) (by kernel_rfl) ⟨trivial, trivial⟩ ?_
            refine VO.nil ?_
            show VW _ _ _ _ _ _ _
            refine VW.join (fun s => ∃ (x172 : Int) (x173 : (List Int)) (x174 : (List Int)) (x175 : Int), s = ⟨[(1, .lf (.v (.sl (.int .i64)) a1)), (4, .lf (.ptr 0 0 0 0)), (6, .lf (.ptr 1 0 0 0)), (8, .lf (.hd 4 0 none)), (9, I x127), (11, I x175)], [bx [.v (.int .i64) (0 : Int), .nil, .nil] 24, bx [.v (.int .i64) x172, .hd 2 0 none, .hd 3 0 none] 24, ar 0 (.int .i64) x173 .dp, ar 0 (.int .i64) x174 .dp, ar 0 (.int .i64) x126 .dp]⟩ ∧ F39_j1 N (F39_l0 N a1 k154) x126 x127 x172 x173 x174 x175 = some r) ?_ ?_
            · refine VW.block ?_
              refine VW.seq ?_
              refine VW.region ?_
              refine VO.seg T_ok .dp 3 [1, 4, 6, 8, 9, 10, 11, 57] [0, 1, 2, 3, 4] (s' := ⟨[(1, .lf (.v (.sl (.int .i64)) a1)), (4, .lf (.ptr 0 0 0 0)), (6, .lf (.ptr 1 0 0 0)), (8, .lf (.hd 4 0 none)), (9, I x127), (10, I (a1.getD x127.toNat (Ty.dflt (.int .i64)))), (11, I (-1 : Int)), (57, B (decide ((a1.getD x127.toNat (Ty.dflt (.int .i64))) < (0 : Int))))], [bx [.v (.int .i64) (0 : Int), .nil, .nil] 24, bx [.v (.int .i64) x123, .hd 2 0 none, .hd 3 0 none] 24, ar 0 (.int .i64) x124 .dp, ar 0 (.int .i64) x125 .dp, ar 0 (.int .i64) x126 .dp]⟩) (φ := True ∧ True ∧ True ∧ True) (by kernel_rfl) ⟨trivial, trivial, trivial, trivial⟩ ?_
              refine VO.nil ?_
              show VW _ _ _ _ _ _ _
              refine VW.cond (b := (decide ((a1.getD x127.toNat (Ty.dflt (.int .i64))) < (0 : Int)))) (by kernel_rfl) (fun hb => ?_) (fun hb => ?_)
              · replace h := cond_t h hb; clear hb
                refine VW.seq ?_
                refine VW.region ?_
                refine VO.seg T_ok .dp 4 [1, 4, 6, 8, 9, 61, 64] [0, 1, 2, 3, 4] (s' := ⟨[(1, .lf (.v (.sl (.int .i64)) a1)), (4, .lf (.ptr 0 0 0 0)), (6, .lf (.ptr 1 0 0 0)), (8, .lf (.hd 4 0 none)), (9, I x127), (61, .agg [.v (.int .i64) x123, .hd 2 0 none, .hd 3 0 none]), (64, I (IntKind.i64.wrap ((IntKind.i64.wrap ((0 : Int) - (a1.getD x127.toNat (Ty.dflt (.int .i64))))) - (1 : Int))))], [bx [.v (.int .i64) (0 : Int), .nil, .nil] 24, bx [.v (.int .i64) x123, .hd 2 0 none, .hd 3 0 none] 24, ar 0 (.int .i64) x124 .dp, ar 0 (.int .i64) x125 .dp, ar 0 (.int .i64) x126 .dp]⟩) (φ := True ∧ True ∧ True ∧ True ∧ True) (by kernel_rfl) ⟨trivial, trivial, trivial, trivial, trivial⟩ ?_
                obtain ⟨y178, hy, h⟩ := andO_some h
                refine VO.call true [.t Y23, .t (.int .i64)] [] T_ok (d := some 65) (by kernel_rfl) (ok29 N _ _ hy) rfl ?_
                refine VO.seg T_ok .dp 6 [1, 4, 6, 8, 9, 12, 13] [0, 1, 2, 3, 4, 7, 5, 6] (s' := ⟨[(1, .lf (.v (.sl (.int .i64)) a1)), (4, .lf (.ptr 0 0 0 0)), (6, .lf (.ptr 1 0 0 0)), (8, .lf (.hd 4 0 none)), (9, I x127), (12, .lf (.ptr 5 0 0 0)), (13, B y178.2)], [bx [.v (.int .i64) (0 : Int), .nil, .nil] 24, bx [.v (.int .i64) x123, .hd 2 0 none, .hd 3 0 none] 24, ar 0 (.int .i64) x124 .dp, ar 0 (.int .i64) x125 .dp, ar 0 (.int .i64) x126 .dp, bx [.v (.int .i64) y178.1.1, .hd 6 0 none, .hd 7 0 none] 24, ar 0 (.int .i64) y178.1.2.1 .dp, ar 0 (.int .i64) y178.1.2.2 .dp]⟩) (φ := True ∧ True ∧ True ∧ True ∧ True ∧ True ∧ True) (by kernel_rfl) ⟨trivial, trivial, trivial, trivial, trivial, trivial, trivial⟩ ?_
                refine VO.nil ?_
                show VW _ _ _ _ _ _ _
                refine VW.seq ?_
                refine VW.region ?_
                refine VO.seg T_ok .dp 2 [1, 4, 6, 8, 9, 13] [0, 1, 6, 7, 4] (s' := ⟨[(1, .lf (.v (.sl (.int .i64)) a1)), (4, .lf (.ptr 0 0 0 0)), (6, .lf (.ptr 1 0 0 0)), (8, .lf (.hd 4 0 none)), (9, I x127), (13, B y178.2)], [bx [.v (.int .i64) (0 : Int), .nil, .nil] 24, bx [.v (.int .i64) y178.1.1, .hd 2 0 none, .hd 3 0 none] 24, ar 0 (.int .i64) y178.1.2.1 .dp, ar 0 (.int .i64) y178.1.2.2 .dp, ar 0 (.int .i64) x126 .dp]⟩) (φ := True ∧ True ∧ True) (by kernel_rfl) ⟨trivial, trivial, trivial⟩ ?_
                refine VO.nil ?_
                show VW _ _ _ _ _ _ _
                refine VW.seq ?_
                refine VW.region ?_
                refine VO.seg T_ok .dp 1 [1, 4, 6, 8, 9, 11, 13] [0, 1, 2, 3, 4] (s' := ⟨[(1, .lf (.v (.sl (.int .i64)) a1)), (4, .lf (.ptr 0 0 0 0)), (6, .lf (.ptr 1 0 0 0)), (8, .lf (.hd 4 0 none)), (9, I x127), (11, I (0 : Int)), (13, B y178.2)], [bx [.v (.int .i64) (0 : Int), .nil, .nil] 24, bx [.v (.int .i64) y178.1.1, .hd 2 0 none, .hd 3 0 none] 24, ar 0 (.int .i64) y178.1.2.1 .dp, ar 0 (.int .i64) y178.1.2.2 .dp, ar 0 (.int .i64) x126 .dp]⟩) (φ := True ∧ True) (by kernel_rfl) ⟨trivial, trivial⟩ ?_
                refine VO.nil ?_
                show VW _ _ _ _ _ _ _
                refine VW.seq ?_
                refine VW.region ?_
                refine VO.seg T_ok .dp 1 [1, 4, 6, 8, 9, 11, 69] [0, 1, 2, 3, 4] (s' := ⟨[(1, .lf (.v (.sl (.int .i64)) a1)), (4, .lf (.ptr 0 0 0 0)), (6, .lf (.ptr 1 0 0 0)), (8, .lf (.hd 4 0 none)), (9, I x127), (11, I (0 : Int)), (69, B y178.2)], [bx [.v (.int .i64) (0 : Int), .nil, .nil] 24, bx [.v (.int .i64) y178.1.1, .hd 2 0 none, .hd 3 0 none] 24, ar 0 (.int .i64) y178.1.2.1 .dp, ar 0 (.int .i64) y178.1.2.2 .dp, ar 0 (.int .i64) x126 .dp]⟩) (φ := True ∧ True) (by kernel_rfl) ⟨trivial, trivial⟩ ?_
                refine VO.nil ?_
                show VW _ _ _ _ _ _ _
                refine VW.cond (b := y178.2) (by kernel_rfl) (fun hb => ?_) (fun hb => ?_)
                · replace h := cond_t h hb; clear hb
                  refine VW.region ?_
                  refine VO.seg T_ok .dp 1 [1, 4, 6, 8, 9, 11] [0, 1, 2, 3, 4] (s' := ⟨[(1, .lf (.v (.sl (.int .i64)) a1)), (4, .lf (.ptr 0 0 0 0)), (6, .lf (.ptr 1 0 0 0)), (8, .lf (.hd 4 0 none)), (9, I x127), (11, I (1 : Int))], [bx [.v (.int .i64) (0 : Int), .nil, .nil] 24, bx [.v (.int .i64) y178.1.1, .hd 2 0 none, .hd 3 0 none] 24, ar 0 (.int .i64) y178.1.2.1 .dp, ar 0 (.int .i64) y178.1.2.2 .dp, ar 0 (.int .i64) x126 .dp]⟩) (φ := True ∧ True) (by kernel_rfl) ⟨trivial, trivial⟩ ?_
                  refine VO.nil ?_
                  exact arrive [.ren [1, 4, 6, 8, 9, 11] [0, 1, 2, 3, 4]] (by kernel_rfl) ⟨y178.1.1, y178.1.2.1, y178.1.2.2, (1 : Int), rfl, h⟩
                · replace h := cond_f h hb; clear hb
                  refine VW.skip ?_
                  exact arrive [.ren [1, 4, 6, 8, 9, 11] [0, 1, 2, 3, 4]] (by kernel_rfl) ⟨y178.1.1, y178.1.2.1, y178.1.2.2, (0 : Int), rfl, h⟩
              · replace h := cond_f h hb; clear hb
                refine VW.seq ?_
                refine VW.region ?_
                refine VO.seg T_ok .dp 4 [1, 4, 6, 8, 9, 10, 11, 70] [0, 1, 2, 3, 4] (s' := ⟨[(1, .lf (.v (.sl (.int .i64)) a1)), (4, .lf (.ptr 0 0 0 0)), (6, .lf (.ptr 1 0 0 0)), (8, .lf (.hd 4 0 none)), (9, I x127), (10, I (a1.getD x127.toNat (Ty.dflt (.int .i64)))), (11, I (-1 : Int)), (70, B ((Int.tmod (a1.getD x127.toNat (Ty.dflt (.int .i64))) (2 : Int)) == (0 : Int)))], [bx [.v (.int .i64) (0 : Int), .nil, .nil] 24, bx [.v (.int .i64) x123, .hd 2 0 none, .hd 3 0 none] 24, ar 0 (.int .i64) x124 .dp, ar 0 (.int .i64) x125 .dp, ar 0 (.int .i64) x126 .dp]⟩) (φ := True ∧ ((2 : Int) ≠ 0) ∧ True ∧ True ∧ True) (by kernel_rfl) ⟨trivial, (by decide), trivial, trivial, trivial⟩ ?_
                refine VO.nil ?_
                show VW _ _ _ _ _ _ _
                refine VW.cond (b := ((Int.tmod (a1.getD x127.toNat (Ty.dflt (.int .i64))) (2 : Int)) == (0 : Int))) (by kernel_rfl) (fun hb => ?_) (fun hb => ?_)
                · replace h := cond_t h hb; clear hb
                  refine VW.seq ?_
                  refine VW.region ?_
                  refine VO.seg T_ok .dp 3 [1, 4, 6, 8, 9, 11, 75, 77] [0, 1, 2, 3, 4] (s' := ⟨[(1, .lf (.v (.sl (.int .i64)) a1)), (4, .lf (.ptr 0 0 0 0)), (6, .lf (.ptr 1 0 0 0)), (8, .lf (.hd 4 0 none)), (9, I x127), (11, I (-1 : Int)), (75, .agg [.v (.int .i64) x123, .hd 2 0 none, .hd 3 0 none]), (77, I (IntKind.i64.wrap (Int.tdiv (a1.getD x127.toNat (Ty.dflt (.int .i64))) (2 : Int))))], [bx [.v (.int .i64) (0 : Int), .nil, .nil] 24, bx [.v (.int .i64) x123, .hd 2 0 none, .hd 3 0 none] 24, ar 0 (.int .i64) x124 .dp, ar 0 (.int .i64) x125 .dp, ar 0 (.int .i64) x126 .dp]⟩) (φ := True ∧ True ∧ ((2 : Int) ≠ 0) ∧ True) (by kernel_rfl) ⟨trivial, trivial, (by decide), trivial⟩ ?_
                  obtain ⟨y179, hy, h⟩ := andO_some h
                  refine VO.call true [.t Y23, .t (.int .i64)] [] T_ok (d := some 78) (by kernel_rfl) (ok35 N _ _ hy) rfl ?_
                  refine VO.seg T_ok .dp 8 [1, 4, 6, 8, 9, 11, 14, 15, 16] [0, 1, 2, 3, 4, 7, 5, 6] (s' := ⟨[(1, .lf (.v (.sl (.int .i64)) a1)), (4, .lf (.ptr 0 0 0 0)), (6, .lf (.ptr 1 0 0 0)), (8, .lf (.hd 4 0 none)), (9, I x127), (11, I (-1 : Int)), (14, .lf (.ptr 5 0 0 0)), (15, I y179.2.1), (16, B y179.2.2)], [bx [.v (.int .i64) (0 : Int), .nil, .nil] 24, bx [.v (.int .i64) x123, .hd 2 0 none, .hd 3 0 none] 24, ar 0 (.int .i64) x124 .dp, ar 0 (.int .i64) x125 .dp, ar 0 (.int .i64) x126 .dp, bx [.v (.int .i64) y179.1.1, .hd 6 0 none, .hd 7 0 none] 24, ar 0 (.int .i64) y179.1.2.1 .dp, ar 0 (.int .i64) y179.1.2.2 .dp]⟩) (φ := True ∧ True ∧ True ∧ True ∧ True ∧ True ∧ True ∧ True ∧ True) (by kernel_rfl) ⟨trivial, trivial, trivial, trivial, trivial, trivial, trivial, trivial, trivial⟩ ?_
                  refine VO.nil ?_
                  show VW _ _ _ _ _ _ _
                  refine VW.seq ?_
                  refine VW.region ?_
                  refine VO.seg T_ok .dp 2 [1, 4, 6, 8, 9, 11, 15, 16] [0, 1, 6, 7, 4] (s' := ⟨[(1, .lf (.v (.sl (.int .i64)) a1)), (4, .lf (.ptr 0 0 0 0)), (6, .lf (.ptr 1 0 0 0)), (8, .lf (.hd 4 0 none)), (9, I x127), (11, I (-1 : Int)), (15, I y179.2.1), (16, B y179.2.2)], [bx [.v (.int .i64) (0 : Int), .nil, .nil] 24, bx [.v (.int .i64) y179.1.1, .hd 2 0 none, .hd 3 0 none] 24, ar 0 (.int .i64) y179.1.2.1 .dp, ar 0 (.int .i64) y179.1.2.2 .dp, ar 0 (.int .i64) x126 .dp]⟩) (φ := True ∧ True ∧ True) (by kernel_rfl) ⟨trivial, trivial, trivial⟩ ?_
                  refine VO.nil ?_
                  show VW _ _ _ _ _ _ _
                  refine VW.seq ?_
                  refine VW.region ?_
                  refine VO.seg T_ok .dp 1 [1, 4, 6, 8, 9, 11, 15, 83] [0, 1, 2, 3, 4] (s' := ⟨[(1, .lf (.v (.sl (.int .i64)) a1)), (4, .lf (.ptr 0 0 0 0)), (6, .lf (.ptr 1 0 0 0)), (8, .lf (.hd 4 0 none)), (9, I x127), (11, I (-1 : Int)), (15, I y179.2.1), (83, B y179.2.2)], [bx [.v (.int .i64) (0 : Int), .nil, .nil] 24, bx [.v (.int .i64) y179.1.1, .hd 2 0 none, .hd 3 0 none] 24, ar 0 (.int .i64) y179.1.2.1 .dp, ar 0 (.int .i64) y179.1.2.2 .dp, ar 0 (.int .i64) x126 .dp]⟩) (φ := True ∧ True) (by kernel_rfl) ⟨trivial, trivial⟩ ?_
                  refine VO.nil ?_
                  show VW _ _ _ _ _ _ _
                  refine VW.cond (b := y179.2.2) (by kernel_rfl) (fun hb => ?_) (fun hb => ?_)
                  · replace h := cond_t h hb; clear hb
                    refine VW.region ?_
                    refine VO.seg T_ok .dp 2 [1, 4, 6, 8, 9, 11] [0, 1, 2, 3, 4] (s' := ⟨[(1, .lf (.v (.sl (.int .i64)) a1)), (4, .lf (.ptr 0 0 0 0)), (6, .lf (.ptr 1 0 0 0)), (8, .lf (.hd 4 0 none)), (9, I x127), (11, I y179.2.1)], [bx [.v (.int .i64) (0 : Int), .nil, .nil] 24, bx [.v (.int .i64) y179.1.1, .hd 2 0 none, .hd 3 0 none] 24, ar 0 (.int .i64) y179.1.2.1 .dp, ar 0 (.int .i64) y179.1.2.2 .dp, ar 0 (.int .i64) x126 .dp]⟩) (φ := True ∧ True ∧ True) (by kernel_rfl) ⟨trivial, trivial, trivial⟩ ?_
                    refine VO.nil ?_
                    exact arrive [.ren [1, 4, 6, 8, 9, 11] [0, 1, 2, 3, 4]] (by kernel_rfl) ⟨y179.1.1, y179.1.2.1, y179.1.2.2, y179.2.1, rfl, h⟩
                  · replace h := cond_f h hb; clear hb
                    refine VW.skip ?_
                    exact arrive [.ren [1, 4, 6, 8, 9, 11] [0, 1, 2, 3, 4]] (by kernel_rfl) ⟨y179.1.1, y179.1.2.1, y179.1.2.2, (-1 : Int), rfl, h⟩
                · replace h := cond_f h hb; clear hb
                  refine VW.seq ?_
                  refine VW.region ?_
                  refine VO.seg T_ok .dp 4 [1, 4, 6, 8, 9, 11, 45, 47, 48] [0, 1, 2, 3, 4] (s' := ⟨[(1, .lf (.v (.sl (.int .i64)) a1)), (4, .lf (.ptr 0 0 0 0)), (6, .lf (.ptr 1 0 0 0)), (8, .lf (.hd 4 0 none)), (9, I x127), (11, I (-1 : Int)), (45, .agg [.v (.int .i64) x123, .hd 2 0 none, .hd 3 0 none]), (47, I (IntKind.i64.wrap (Int.tdiv (a1.getD x127.toNat (Ty.dflt (.int .i64))) (2 : Int)))), (48, I (a1.getD x127.toNat (Ty.dflt (.int .i64))))], [bx [.v (.int .i64) (0 : Int), .nil, .nil] 24, bx [.v (.int .i64) x123, .hd 2 0 none, .hd 3 0 none] 24, ar 0 (.int .i64) x124 .dp, ar 0 (.int .i64) x125 .dp, ar 0 (.int .i64) x126 .dp]⟩) (φ := True ∧ True ∧ ((2 : Int) ≠ 0) ∧ True ∧ True) (by kernel_rfl) ⟨trivial, trivial, (by decide), trivial, trivial⟩ ?_
                  obtain ⟨y180, hy, h⟩ := andO_some h
                  refine VO.call true [.t Y23, .t (.int .i64), .t (.int .i64)] [] T_ok (d := some 49) (by kernel_rfl) (ok37 N _ _ _ hy) rfl ?_
                  refine VO.seg T_ok .dp 8 [1, 4, 6, 8, 9, 11, 17, 18] [0, 1, 2, 3, 4, 7, 5, 6] (s' := ⟨[(1, .lf (.v (.sl (.int .i64)) a1)), (4, .lf (.ptr 0 0 0 0)), (6, .lf (.ptr 1 0 0 0)), (8, .lf (.hd 4 0 none)), (9, I x127), (11, I (-1 : Int)), (17, .lf (.ptr 5 0 0 0)), (18, I y180.2.1)], [bx [.v (.int .i64) (0 : Int), .nil, .nil] 24, bx [.v (.int .i64) x123, .hd 2 0 none, .hd 3 0 none] 24, ar 0 (.int .i64) x124 .dp, ar 0 (.int .i64) x125 .dp, ar 0 (.int .i64) x126 .dp, bx [.v (.int .i64) y180.1.1, .hd 6 0 none, .hd 7 0 none] 24, ar 0 (.int .i64) y180.1.2.1 .dp, ar 0 (.int .i64) y180.1.2.2 .dp]⟩) (φ := True ∧ True ∧ True ∧ True ∧ True ∧ True ∧ True ∧ True ∧ True) (by kernel_rfl) ⟨trivial, trivial, trivial, trivial, trivial, trivial, trivial, trivial, trivial⟩ ?_
                  refine VO.nil ?_
                  show VW _ _ _ _ _ _ _
                  refine VW.seq ?_
                  refine VW.region ?_
                  refine VO.seg T_ok .dp 2 [1, 4, 6, 8, 9, 11, 18] [0, 1, 6, 7, 4] (s' := ⟨[(1, .lf (.v (.sl (.int .i64)) a1)), (4, .lf (.ptr 0 0 0 0)), (6, .lf (.ptr 1 0 0 0)), (8, .lf (.hd 4 0 none)), (9, I x127), (11, I (-1 : Int)), (18, I y180.2.1)], [bx [.v (.int .i64) (0 : Int), .nil, .nil] 24, bx [.v (.int .i64) y180.1.1, .hd 2 0 none, .hd 3 0 none] 24, ar 0 (.int .i64) y180.1.2.1 .dp, ar 0 (.int .i64) y180.1.2.2 .dp, ar 0 (.int .i64) x126 .dp]⟩) (φ := True ∧ True ∧ True) (by kernel_rfl) ⟨trivial, trivial, trivial⟩ ?_
                  refine VO.nil ?_
                  show VW _ _ _ _ _ _ _
                  refine VW.seq ?_
                  refine VW.region ?_
                  refine VO.seg T_ok .dp 2 [1, 4, 6, 8, 9, 11, 18, 55] [0, 1, 2, 3, 4] (s' := ⟨[(1, .lf (.v (.sl (.int .i64)) a1)), (4, .lf (.ptr 0 0 0 0)), (6, .lf (.ptr 1 0 0 0)), (8, .lf (.hd 4 0 none)), (9, I x127), (11, I (-1 : Int)), (18, I y180.2.1), (55, B (decide (y180.2.1 ≤ (1000000 : Int))))], [bx [.v (.int .i64) (0 : Int), .nil, .nil] 24, bx [.v (.int .i64) y180.1.1, .hd 2 0 none, .hd 3 0 none] 24, ar 0 (.int .i64) y180.1.2.1 .dp, ar 0 (.int .i64) y180.1.2.2 .dp, ar 0 (.int .i64) x126 .dp]⟩) (φ := True ∧ True ∧ True) (by kernel_rfl) ⟨trivial, trivial, trivial⟩ ?_
                  refine VO.nil ?_
                  show VW _ _ _ _ _ _ _
                  refine VW.cond (b := (decide (y180.2.1 ≤ (1000000 : Int)))) (by kernel_rfl) (fun hb => ?_) (fun hb => ?_)
                  · replace h := cond_t h hb; clear hb
                    refine VW.region ?_
                    refine VO.seg T_ok .dp 2 [1, 4, 6, 8, 9, 11] [0, 1, 2, 3, 4] (s' := ⟨[(1, .lf (.v (.sl (.int .i64)) a1)), (4, .lf (.ptr 0 0 0 0)), (6, .lf (.ptr 1 0 0 0)), (8, .lf (.hd 4 0 none)), (9, I x127), (11, I y180.2.1)], [bx [.v (.int .i64) (0 : Int), .nil, .nil] 24, bx [.v (.int .i64) y180.1.1, .hd 2 0 none, .hd 3 0 none] 24, ar 0 (.int .i64) y180.1.2.1 .dp, ar 0 (.int .i64) y180.1.2.2 .dp, ar 0 (.int .i64) x126 .dp]⟩) (φ := True ∧ True ∧ True) (by kernel_rfl) ⟨trivial, trivial, trivial⟩ ?_
                    refine VO.nil ?_
                    exact arrive [.ren [1, 4, 6, 8, 9, 11] [0, 1, 2, 3, 4]] (by kernel_rfl) ⟨y180.1.1, y180.1.2.1, y180.1.2.2, y180.2.1, rfl, h⟩
                  · replace h := cond_f h hb; clear hb
                    refine VW.skip ?_
                    exact arrive [.ren [1, 4, 6, 8, 9, 11] [0, 1, 2, 3, 4]] (by kernel_rfl) ⟨y180.1.1, y180.1.2.1, y180.1.2.2, (-1 : Int), rfl, h⟩
            · rintro s ⟨x172, x173, x174, x175, rfl, h⟩
              unfold F39_j1 at h
              refine VW.region ?_
              obtain ⟨g176, h⟩ := gd_some h
              refine VO.seg T_ok .dp 5 [1, 4, 6, 8, 9] [0, 1, 2, 3, 4] (s' := ⟨[(1, .lf (.v (.sl (.int .i64)) a1)), (4, .lf (.ptr 0 0 0 0)), (6, .lf (.ptr 1 0 0 0)), (8, .lf (.hd 4 0 none)), (9, I x127)], [bx [.v (.int .i64) (0 : Int), .nil, .nil] 24, bx [.v (.int .i64) x172, .hd 2 0 none, .hd 3 0 none] 24, ar 0 (.int .i64) x173 .dp, ar 0 (.int .i64) x174 .dp, ar 0 (.int .i64) (x126 ++ ([x175])) .dp]⟩) (φ := True ∧ True ∧ True ∧ (x126.length + ([x175]).length ≤ lim (.int .i64)) ∧ True ∧ True) (by kernel_rfl) ⟨trivial, trivial, trivial, g176, trivial, trivial⟩ ?_
              refine VO.nil ?_
              show VW _ _ _ _ _ _ _
              refine VW.region ?_
              refine VO.seg T_ok .dp 3 [1, 4, 6, 8, 9] [0, 1, 2, 3, 4] (s' := ⟨[(1, .lf (.v (.sl (.int .i64)) a1)), (4, .lf (.ptr 0 0 0 0)), (6, .lf (.ptr 1 0 0 0)), (8, .lf (.hd 4 0 none)), (9, I (IntKind.i64.wrap (x127 + (1 : Int))))], [bx [.v (.int .i64) (0 : Int), .nil, .nil] 24, bx [.v (.int .i64) x172, .hd 2 0 none, .hd 3 0 none] 24, ar 0 (.int .i64) x173 .dp, ar 0 (.int .i64) x174 .dp, ar 0 (.int .i64) (x126 ++ ([x175])) .dp]⟩) (φ := True ∧ True ∧ True ∧ True) (by kernel_rfl) ⟨trivial, trivial, trivial, trivial⟩ ?_
              refine VO.nil ?_
              exact around [.ren [1, 4, 6, 8, 9] [0, 1, 2, 3, 4]] (by kernel_rfl) ⟨x172, x173, x174, (x126 ++ ([x175])), (IntKind.i64.wrap (x127 + (1 : Int))), rfl, h⟩
          · replace h := cond_f h hb; clear hb
            refine VW.exit ?_
            exact arrive [.ren [4, 6, 8] [0, 1, 2, 3, 4]] (by kernel_rfl) ⟨x123, x124, x125, x126, rfl, h⟩
      · rintro s ⟨x89, x90, x91, x92, rfl, h⟩
        unfold F39_j0 at h
        refine VW.seq ?_
        refine VW.region ?_
        refine VO.seg T_ok .dp 4 [4, 5] [0, 2, 3, 4] (s' := ⟨[(4, .lf (.ptr 0 0 0 0)), (5, .lf (.hd 3 0 none))], [bx [.v (.int .i64) x89, .hd 1 0 none, .hd 2 0 none] 24, ar 0 (.int .i64) x90 .dp, ar 0 (.int .i64) x91 .dp, ar 0 (.int .i64) x92 .dp]⟩) (φ := True ∧ True ∧ True ∧ True ∧ True) (by kernel_rfl) ⟨trivial, trivial, trivial, trivial, trivial⟩ ?_
        refine VO.nil ?_
        show VW _ _ _ _ _ _ _
        refine VW.ret ?_
        replace h := Option.some.inj h
        subst h
        exact retR [some 1, some 2, some 3] (by kernel_rfl) rfl

/- loop.example/g00844/impl.flag -/
def F63 (N : Nat) (a0 : Bool) : Option (Int) :=
  cond a0 (some (1 : Int)) (some (0 : Int))
theorem ok63 (N : Nat) (a0 : Bool) {r : Int} (h : F63 N a0 = some r) : Con Go.Proofs.Try.prog 63 [B a0] [.lf (.v (.int .i64) r)] := by
  refine ⟨enters_of Go.Proofs.Try.func63 rfl (by decide), HC.intro [.lf (.v (.int .i64))] T_ok Go.Proofs.Try.func63 rfl (Nat.le_of_ble_eq_true rfl) (Nat.le_of_ble_eq_true rfl) fun w0 E0 => ?_⟩
  unfold F63 at h
  show VW _ _ _ _ _ (retQ _ _ _ _) _
  refine VW.seq ?_
  refine VW.region ?_
  refine VO.seg T_ok .dp 1 [0] [] (s' := ⟨[(0, B a0)], []⟩) (φ := True ∧ True) (by kernel_rfl) ⟨trivial, trivial⟩ ?_
  refine VO.nil ?_
  show VW _ _ _ _ _ _ _
  refine VW.seq ?_
  refine VW.seq ?_
  refine VW.region ?_
  refine VO.seg T_ok .dp 1 [3] [] (s' := ⟨[(3, B a0)], []⟩) (φ := True ∧ True) (by kernel_rfl) ⟨trivial, trivial⟩ ?_
  refine VO.nil ?_
  show VW _ _ _ _ _ _ _
  refine VW.cond (b := a0) (by kernel_rfl) (fun hb => ?_) (fun hb => ?_)
  · replace h := cond_t h hb; clear hb
    refine VW.seq ?_
    refine VW.region ?_
    refine VO.seg T_ok .dp 1 [2] [] (s' := ⟨[(2, I (1 : Int))], []⟩) (φ := True ∧ True) (by kernel_rfl) ⟨trivial, trivial⟩ ?_
    refine VO.nil ?_
    show VW _ _ _ _ _ _ _
    refine VW.ret ?_
    replace h := Option.some.inj h
    subst h
    exact retR [] (by kernel_rfl) rfl
  · replace h := cond_f h hb; clear hb
    refine VW.skip ?_
    show VW _ _ _ _ _ _ _
    refine VW.seq ?_
    refine VW.region ?_
    refine VO.seg T_ok .dp 1 [2] [] (s' := ⟨[(2, I (0 : Int))], []⟩) (φ := True ∧ True) (by kernel_rfl) ⟨trivial, trivial⟩ ?_
    refine VO.nil ?_
    show VW _ _ _ _ _ _ _
    refine VW.ret ?_
    replace h := Option.some.inj h
    subst h
    exact retR [] (by kernel_rfl) rfl

/- loop.example/g00844/impl.PlayCache -/
def F40_j0 (N : Nat) (x103 : Int) (x104 : (List Int)) (x105 : (List Int)) (x106 : (List Int)) : Option ((Int × ((List Int) × (List Int))) × (List Int)) :=
  some ((x103, (x104, x105)), x106)
def F40_j1 (N : Nat) (nx178 : Int → (List Int) → (List Int) → (List Int) → Int → Int → Option ((Int × ((List Int) × (List Int))) × (List Int))) (x145 : (List Int)) (x146 : Int) (x147 : Int) (x199 : Int) (x200 : (List Int)) (x201 : (List Int)) (x202 : Int) : Option ((Int × ((List Int) × (List Int))) × (List Int)) :=
  gd (x145.length + ([x202]).length ≤ lim (.int .i64)) (nx178 x199 x200 x201 (x145 ++ ([x202])) x146 (IntKind.i64.wrap (x147 + (1 : Int))))
def F40_l0_b (N : Nat) (a1 : (List Int)) (nx178 : Int → (List Int) → (List Int) → (List Int) → Int → Int → Option ((Int × ((List Int) × (List Int))) × (List Int))) (x142 : Int) (x143 : (List Int)) (x144 : (List Int)) (x145 : (List Int)) (x146 : Int) (x147 : Int) : Option ((Int × ((List Int) × (List Int))) × (List Int)) :=
  cond (decide (x147 < x146)) (gd (InR x147 a1.length) (cond (decide ((a1.getD x147.toNat (Ty.dflt (.int .i64))) < (0 : Int))) (andO (F30 N (x142, (x143, x144)) (IntKind.i64.wrap ((0 : Int) - (IntKind.i64.wrap ((a1.getD x147.toNat (Ty.dflt (.int .i64))) + (1 : Int)))))) fun y205 => andO (F63 N y205.2) fun y206 => F40_j1 N nx178 x145 x146 x147 y205.1.1 y205.1.2.1 y205.1.2.2 y206) (cond ((Int.tmod (a1.getD x147.toNat (Ty.dflt (.int .i64))) (2 : Int)) == (0 : Int)) (andO (F36 N (x142, (x143, x144)) (IntKind.i64.wrap (Int.tdiv (a1.getD x147.toNat (Ty.dflt (.int .i64))) (2 : Int)))) fun y207 => cond (!y207.2.2) (F40_j1 N nx178 x145 x146 x147 y207.1.1 y207.1.2.1 y207.1.2.2 (-1 : Int)) (F40_j1 N nx178 x145 x146 x147 y207.1.1 y207.1.2.1 y207.1.2.2 y207.2.1)) (andO (F38 N (x142, (x143, x144)) (IntKind.i64.wrap (Int.tdiv (a1.getD x147.toNat (Ty.dflt (.int .i64))) (2 : Int))) (a1.getD x147.toNat (Ty.dflt (.int .i64)))) fun y208 => cond (y208.2.1 == (1000001 : Int)) (F40_j1 N nx178 x145 x146 x147 y208.1.1 y208.1.2.1 y208.1.2.2 (-1 : Int)) (F40_j1 N nx178 x145 x146 x147 y208.1.1 y208.1.2.1 y208.1.2.2 y208.2.1))))) (F40_j0 N x142 x143 x144 x145)
def F40_l0 (N : Nat) (a1 : (List Int)) : Nat → Int → (List Int) → (List Int) → (List Int) → Int → Int → Option ((Int × ((List Int) × (List Int))) × (List Int)) := loopF (F40_l0_b N a1) (fun _ _ _ _ _ _ => none)
theorem F40_l0_s (N : Nat) (a1 : (List Int)) {k : Nat} (hk : 0 < k) (x142 : Int) (x143 : (List Int)) (x144 : (List Int)) (x145 : (List Int)) (x146 : Int) (x147 : Int) : F40_l0 N a1 k x142 x143 x144 x145 x146 x147 = F40_l0_b N a1 (F40_l0 N a1 (k - 1)) x142 x143 x144 x145 x146 x147 := by
  cases k with
  | zero => exact absurd hk (Nat.lt_irrefl 0)
  | succ m => rfl
def F40 (N : Nat) (a0 : Int) (a1 : (List Int)) : Option ((Int × ((List Int) × (List Int))) × (List Int)) :=
  andO (F15 N a0) fun y1 => cond (!y1.2) (some (((0 : Int), ([], [])), [])) (cond (decide ((a1.length : Int) > (300 : Int))) (some (((0 : Int), ([], [])), [])) (F40_l0 N a1 N y1.1.1 y1.1.2.1 y1.1.2.2 ([]) (a1.length : Int) (0 : Int)))
theorem ok40 (N : Nat) (a0 : Int) (a1 : (List Int)) {r : (Int × ((List Int) × (List Int))) × (List Int)} (h : F40 N a0 a1 = some r) : Con Go.Proofs.Try.prog 40 [I a0, .lf (.v (.sl (.int .i64)) a1)] [.agg [.v (.int .i64) r.1.1, .own (.int .i64) r.1.2.1 .dp, .own (.int .i64) r.1.2.2 .dp], .lf (.own (.int .i64) r.2 .dp)] := by
  refine ⟨enters_of Go.Proofs.Try.func40 rfl (by decide), HC.intro [.agg [.v (.int .i64), .own (.int .i64) .dp, .own (.int .i64) .dp], .lf (.own (.int .i64) .dp)] T_ok Go.Proofs.Try.func40 rfl (Nat.le_of_ble_eq_true rfl) (Nat.le_of_ble_eq_true rfl) fun w0 E0 => ?_⟩
  unfold F40 at h
  show VW _ _ _ _ _ (retQ _ _ _ _) _
  refine VW.seq ?_
  refine VW.region ?_
  refine VO.seg T_ok .dp 2 [0, 1, 4] [0] (s' := ⟨[(0, I a0), (1, .lf (.v (.sl (.int .i64)) a1)), (4, .lf (.ptr 0 0 0 0))], [bx [.v (.int .i64) (0 : Int), .nil, .nil] 24]⟩) (φ := True ∧ True ∧ True) (by kernel_rfl) ⟨trivial, trivial, trivial⟩ ?_
  refine VO.nil ?_
  show VW _ _ _ _ _ _ _
  refine VW.seq ?_
  refine VW.region ?_
  refine VO.seg T_ok .dp 1 [1, 4, 14] [0] (s' := ⟨[(1, .lf (.v (.sl (.int .i64)) a1)), (4, .lf (.ptr 0 0 0 0)), (14, I a0)], [bx [.v (.int .i64) (0 : Int), .nil, .nil] 24]⟩) (φ := True ∧ True) (by kernel_rfl) ⟨trivial, trivial⟩ ?_
  obtain ⟨y1, hy, h⟩ := andO_some h
  refine VO.call false [.t (.int .i64)] [] T_ok (d := some 15) (by kernel_rfl) (ok15 N _ hy) rfl ?_
  refine VO.seg T_ok .dp 6 [1, 4, 6, 7] [0, 3, 1, 2] (s' := ⟨[(1, .lf (.v (.sl (.int .i64)) a1)), (4, .lf (.ptr 0 0 0 0)), (6, .lf (.ptr 1 0 0 0)), (7, B y1.2)], [bx [.v (.int .i64) (0 : Int), .nil, .nil] 24, bx [.v (.int .i64) y1.1.1, .hd 2 0 none, .hd 3 0 none] 24, ar 0 (.int .i64) y1.1.2.1 .dp, ar 0 (.int .i64) y1.1.2.2 .dp]⟩) (φ := True ∧ True ∧ True ∧ True ∧ True ∧ True ∧ True) (by kernel_rfl) ⟨trivial, trivial, trivial, trivial, trivial, trivial, trivial⟩ ?_
  refine VO.nil ?_
  show VW _ _ _ _ _ _ _
  refine VW.seq ?_
  refine VW.seq ?_
  refine VW.region ?_
  refine VO.seg T_ok .dp 3 [1, 4, 6, 20] [0, 1, 2, 3] (s' := ⟨[(1, .lf (.v (.sl (.int .i64)) a1)), (4, .lf (.ptr 0 0 0 0)), (6, .lf (.ptr 1 0 0 0)), (20, B (!y1.2))], [bx [.v (.int .i64) (0 : Int), .nil, .nil] 24, bx [.v (.int .i64) y1.1.1, .hd 2 0 none, .hd 3 0 none] 24, ar 0 (.int .i64) y1.1.2.1 .dp, ar 0 (.int .i64) y1.1.2.2 .dp]⟩) (φ := True ∧ True ∧ True ∧ True) (by kernel_rfl) ⟨trivial, trivial, trivial, trivial⟩ ?_
  refine VO.splitB 20 (b := (!y1.2)) (by kernel_rfl) (fun hb => ?_) (fun hb => ?_)
  · replace h := cond_t h hb; clear hb
    refine VO.seg T_ok .dp 4 [1, 4, 6, 24] [0, 1, 2, 3] (s' := ⟨[(1, .lf (.v (.sl (.int .i64)) a1)), (4, .lf (.ptr 0 0 0 0)), (6, .lf (.ptr 1 0 0 0)), (24, B true)], [bx [.v (.int .i64) (0 : Int), .nil, .nil] 24, bx [.v (.int .i64) y1.1.1, .hd 2 0 none, .hd 3 0 none] 24, ar 0 (.int .i64) y1.1.2.1 .dp, ar 0 (.int .i64) y1.1.2.2 .dp]⟩) (φ := True ∧ True ∧ True ∧ True ∧ True) (by kernel_rfl) ⟨trivial, trivial, trivial, trivial, trivial⟩ ?_
    refine VO.nil ?_
    show VW _ _ _ _ _ _ _
    refine VW.cond (b := true) (by kernel_rfl) (fun _ => ?_) (fun h' => nomatch h')
    refine VW.seq ?_
    refine VW.region ?_
    refine VO.seg T_ok .dp 3 [4, 5] [0] (s' := ⟨[(4, .lf (.ptr 0 0 0 0)), (5, .lf (.nil))], [bx [.v (.int .i64) (0 : Int), .nil, .nil] 24]⟩) (φ := True ∧ True ∧ True ∧ True) (by kernel_rfl) ⟨trivial, trivial, trivial, trivial⟩ ?_
    refine VO.nil ?_
    show VW _ _ _ _ _ _ _
    refine VW.ret ?_
    replace h := Option.some.inj h
    subst h
    exact retR [none, none, none] (by kernel_rfl) rfl
  · replace h := cond_f h hb; clear hb
    refine VO.seg T_ok .dp 4 [1, 4, 6, 24] [0, 1, 2, 3] (s' := ⟨[(1, .lf (.v (.sl (.int .i64)) a1)), (4, .lf (.ptr 0 0 0 0)), (6, .lf (.ptr 1 0 0 0)), (24, B (decide ((a1.length : Int) > (300 : Int))))], [bx [.v (.int .i64) (0 : Int), .nil, .nil] 24, bx [.v (.int .i64) y1.1.1, .hd 2 0 none, .hd 3 0 none] 24, ar 0 (.int .i64) y1.1.2.1 .dp, ar 0 (.int .i64) y1.1.2.2 .dp]⟩) (φ := True ∧ True ∧ True ∧ True ∧ True) (by kernel_rfl) ⟨trivial, trivial, trivial, trivial, trivial⟩ ?_
    refine VO.nil ?_
    show VW _ _ _ _ _ _ _
    refine VW.cond (b := (decide ((a1.length : Int) > (300 : Int)))) (by kernel_rfl) (fun hb => ?_) (fun hb => ?_)
    · replace h := cond_t h hb; clear hb
      refine VW.seq ?_
      refine VW.region ?_
      refine VO.seg T_ok .dp 3 [4, 5] [0] (s' := ⟨[(4, .lf (.ptr 0 0 0 0)), (5, .lf (.nil))], [bx [.v (.int .i64) (0 : Int), .nil, .nil] 24]⟩) (φ := True ∧ True ∧ True ∧ True) (by kernel_rfl) ⟨trivial, trivial, trivial, trivial⟩ ?_
      refine VO.nil ?_
      show VW _ _ _ _ _ _ _
      refine VW.ret ?_
      replace h := Option.some.inj h
      subst h
      exact retR [none, none, none] (by kernel_rfl) rfl
    · replace h := cond_f h hb; clear hb
      refine VW.skip ?_
      show VW _ _ _ _ _ _ _
      refine VW.seq ?_
      refine VW.region ?_
      refine VO.seg T_ok .dp 1 [1, 4, 6, 8] [0, 1, 2, 3] (s' := ⟨[(1, .lf (.v (.sl (.int .i64)) a1)), (4, .lf (.ptr 0 0 0 0)), (6, .lf (.ptr 1 0 0 0)), (8, .lf (.nil))], [bx [.v (.int .i64) (0 : Int), .nil, .nil] 24, bx [.v (.int .i64) y1.1.1, .hd 2 0 none, .hd 3 0 none] 24, ar 0 (.int .i64) y1.1.2.1 .dp, ar 0 (.int .i64) y1.1.2.2 .dp]⟩) (φ := True ∧ True) (by kernel_rfl) ⟨trivial, trivial⟩ ?_
      refine VO.nil ?_
      show VW _ _ _ _ _ _ _
      refine VW.join (fun s => ∃ (x103 : Int) (x104 : (List Int)) (x105 : (List Int)) (x106 : (List Int)), s = ⟨[(4, .lf (.ptr 0 0 0 0)), (6, .lf (.ptr 1 0 0 0)), (8, .lf (.hd 4 0 none))], [bx [.v (.int .i64) (0 : Int), .nil, .nil] 24, bx [.v (.int .i64) x103, .hd 2 0 none, .hd 3 0 none] 24, ar 0 (.int .i64) x104 .dp, ar 0 (.int .i64) x105 .dp, ar 0 (.int .i64) x106 .dp]⟩ ∧ F40_j0 N x103 x104 x105 x106 = some r) ?_ ?_
      · refine VW.seq ?_
        refine VW.region ?_
        refine VO.seg T_ok .dp 3 [4, 6, 8, 26, 27, 28] [0, 1, 2, 3] (s' := ⟨[(4, .lf (.ptr 0 0 0 0)), (6, .lf (.ptr 1 0 0 0)), (8, .lf (.nil)), (26, .lf (.v (.sl (.int .i64)) a1)), (27, I (a1.length : Int)), (28, I (0 : Int))], [bx [.v (.int .i64) (0 : Int), .nil, .nil] 24, bx [.v (.int .i64) y1.1.1, .hd 2 0 none, .hd 3 0 none] 24, ar 0 (.int .i64) y1.1.2.1 .dp, ar 0 (.int .i64) y1.1.2.2 .dp]⟩) (φ := True ∧ True ∧ True ∧ True) (by kernel_rfl) ⟨trivial, trivial, trivial, trivial⟩ ?_
        refine VO.nil ?_
        show VW _ _ _ _ _ _ _
        refine VW.block ?_
        refine VW.loopL (fun k s => ∃ (x142 : Int) (x143 : (List Int)) (x144 : (List Int)) (x145 : (List Int)) (x146 : Int) (x147 : Int), s = ⟨[(4, .lf (.ptr 0 0 0 0)), (6, .lf (.ptr 1 0 0 0)), (8, .lf (.hd 4 0 none)), (26, .lf (.v (.sl (.int .i64)) a1)), (27, I x146), (28, I x147)], [bx [.v (.int .i64) (0 : Int), .nil, .nil] 24, bx [.v (.int .i64) x142, .hd 2 0 none, .hd 3 0 none] 24, ar 0 (.int .i64) x143 .dp, ar 0 (.int .i64) x144 .dp, ar 0 (.int .i64) x145 .dp]⟩ ∧ F40_l0 N a1 k x142 x143 x144 x145 x146 x147 = some r) N [.nilS 8 (.int .i64) .dp, .ren [4, 6, 8, 26, 27, 28] [0, 1, 2, 3, 4]] (by kernel_rfl) ⟨y1.1.1, y1.1.2.1, y1.1.2.2, [], (a1.length : Int), (0 : Int), rfl, h⟩ ?_
        rintro k178 s ⟨x142, x143, x144, x145, x146, x147, rfl, h⟩
        cases k178 with
        | zero => exact nomatch (show (none : Option ((Int × ((List Int) × (List Int))) × (List Int))) = some r from h)
        | succ k178 =>
          replace h : F40_l0_b N a1 (F40_l0 N a1 k178) x142 x143 x144 x145 x146 x147 = some r := h
          unfold F40_l0_b at h
          refine VW.seq ?_
          refine VW.region ?_
          refine VO.seg T_ok .dp 1 [4, 6, 8, 26, 27, 28, 29] [0, 1, 2, 3, 4] (s' := ⟨[(4, .lf (.ptr 0 0 0 0)), (6, .lf (.ptr 1 0 0 0)), (8, .lf (.hd 4 0 none)), (26, .lf (.v (.sl (.int .i64)) a1)), (27, I x146), (28, I x147), (29, B (decide (x147 < x146)))], [bx [.v (.int .i64) (0 : Int), .nil, .nil] 24, bx [.v (.int .i64) x142, .hd 2 0 none, .hd 3 0 none] 24, ar 0 (.int .i64) x143 .dp, ar 0 (.int .i64) x144 .dp, ar 0 (.int .i64) x145 .dp]⟩) (φ := True ∧ True) (by kernel_rfl) ⟨trivial, trivial⟩ ?_
          refine VO.nil ?_
          show VW _ _ _ _ _ _ _
          refine VW.seq ?_
          refine VW.cond (b := (decide (x147 < x146))) (by kernel_rfl) (fun hb => ?_) (fun hb => ?_)
          · replace h := cond_t h hb; clear hb
            refine VW.skip ?_
            show VW _ _ _ _ _ _ _
            refine VW.seq ?_
            refine VW.block ?_
            refine VW.seq ?_
            refine VW.region ?_
            obtain ⟨g194, h⟩ := gd_some h
            refine VO.seg T_ok .dp 3 [4, 6, 8, 10, 26, 27, 28] [0, 1, 2, 3, 4] (s' := ⟨[(4, .lf (.ptr 0 0 0 0)), (6, .lf (.ptr 1 0 0 0)), (8, .lf (.hd 4 0 none)), (10, I (a1.getD x147.toNat (Ty.dflt (.int .i64)))), (26, .lf (.v (.sl (.int .i64)) a1)), (27, I x146), (28, I x147)], [bx [.v (.int .i64) (0 : Int), .nil, .nil] 24, bx [.v (.int .i64) x142, .hd 2 0 none, .hd 3 0 none] 24, ar 0 (.int .i64) x143 .dp, ar 0 (.int .i64) x144 .dp, ar 0 (.int .i64) x145 .dp]⟩) (φ := (InR x147 a1.length) ∧ True ∧ True ∧ True) (by kernel_rfl) ⟨g194, trivial, trivial, trivial⟩ ?_
            refine VO.nil ?_
            show VW _ _ _ _ _ _ _
            refine VW.seq ?_
            refine VW.region ?_
            refine VO.seg T_ok .dp 2 [4, 6, 8, 10, 26, 27, 28] [0, 1, 2, 3, 4] (s' := ⟨[(4, .lf (.ptr 0 0 0 0)), (6, .lf (.ptr 1 0 0 0)), (8, .lf (.hd 4 0 none)), (10, I (a1.getD x147.toNat (Ty.dflt (.int .i64)))), (26, .lf (.v (.sl (.int .i64)) a1)), (27, I x146), (28, I x147)], [bx [.v (.int .i64) (0 : Int), .nil, .nil] 24, bx [.v (.int .i64) x142, .hd 2 0 none, .hd 3 0 none] 24, ar 0 (.int .i64) x143 .dp, ar 0 (.int .i64) x144 .dp, ar 0 (.int .i64) x145 .dp]⟩) (φ := True ∧ True ∧ True) (by kernel_rfl) ⟨trivial, trivial, trivial⟩ ?_
            refine VO.nil ?_
            show VW _ _ _ _ _ _ _
            refine VW.join (fun s => ∃ (x199 : Int) (x200 : (List Int)) (x201 : (List Int)) (x202 : Int), s = ⟨[(4, .lf (.ptr 0 0 0 0)), (6, .lf (.ptr 1 0 0 0)), (8, .lf (.hd 4 0 none)), (11, I x202), (26, .lf (.v (.sl (.int .i64)) a1)), (27, I x146), (28, I x147)], [bx [.v (.int .i64) (0 : Int), .nil, .nil] 24, bx [.v (.int .i64) x199, .hd 2 0 none, .hd 3 0 none] 24, ar 0 (.int .i64) x200 .dp, ar 0 (.int .i64) x201 .dp, ar 0 (.int .i64) x145 .dp]⟩ ∧ F40_j1 N (F40_l0 N a1 k178) x145 x146 x147 x199 x200 x201 x202 = some r) ?_ ?_
            · refine VW.block ?_
              refine VW.seq ?_
              refine VW.region ?_
              refine VO.seg T_ok .dp 3 [4, 6, 8, 10, 26, 27, 28, 43] [0, 1, 2, 3, 4] (s' := ⟨[(4, .lf (.ptr 0 0 0 0)), (6, .lf (.ptr 1 0 0 0)), (8, .lf (.hd 4 0 none)), (10, I (a1.getD x147.toNat (Ty.dflt (.int .i64)))), (26, .lf (.v (.sl (.int .i64)) a1)), (27, I x146), (28, I x147), (43, B (decide ((a1.getD x147.toNat (Ty.dflt (.int .i64))) < (0 : Int))))], [bx [.v (.int .i64) (0 : Int), .nil, .nil] 24, bx [.v (.int .i64) x142, .hd 2 0 none, .hd 3 0 none] 24, ar 0 (.int .i64) x143 .dp, ar 0 (.int .i64) x144 .dp, ar 0 (.int .i64) x145 .dp]⟩) (φ := True ∧ True ∧ True ∧ True) (by kernel_rfl) ⟨trivial, trivial, trivial, trivial⟩ ?_
              refine VO.nil ?_
              show VW _ _ _ _ _ _ _
              refine VW.cond (b := (decide ((a1.getD x147.toNat (Ty.dflt (.int .i64))) < (0 : Int)))) (by kernel_rfl) (fun hb => ?_) (fun hb => ?_)
              · replace h := cond_t h hb; clear hb
                refine VW.seq ?_
                refine VW.region ?_
                refine VO.seg T_ok .dp 4 [4, 6, 8, 26, 27, 28, 47, 50] [0, 1, 2, 3, 4] (s' := ⟨[(4, .lf (.ptr 0 0 0 0)), (6, .lf (.ptr 1 0 0 0)), (8, .lf (.hd 4 0 none)), (26, .lf (.v (.sl (.int .i64)) a1)), (27, I x146), (28, I x147), (47, .agg [.v (.int .i64) x142, .hd 2 0 none, .hd 3 0 none]), (50, I (IntKind.i64.wrap ((0 : Int) - (IntKind.i64.wrap ((a1.getD x147.toNat (Ty.dflt (.int .i64))) + (1 : Int))))))], [bx [.v (.int .i64) (0 : Int), .nil, .nil] 24, bx [.v (.int .i64) x142, .hd 2 0 none, .hd 3 0 none] 24, ar 0 (.int .i64) x143 .dp, ar 0 (.int .i64) x144 .dp, ar 0 (.int .i64) x145 .dp]⟩) (φ := True ∧ True ∧ True ∧ True ∧ True) (by kernel_rfl) ⟨trivial, trivial, trivial, trivial, trivial⟩ ?_
                obtain ⟨y205, hy, h⟩ := andO_some h
                refine VO.call true [.t Y23, .t (.int .i64)] [] T_ok (d := some 51) (by kernel_rfl) (ok30 N _ _ hy) rfl ?_
                refine VO.seg T_ok .dp 5 [4, 6, 8, 12, 26, 27, 28] [0, 1, 5, 6, 4] (s' := ⟨[(4, .lf (.ptr 0 0 0 0)), (6, .lf (.ptr 1 0 0 0)), (8, .lf (.hd 4 0 none)), (12, B y205.2), (26, .lf (.v (.sl (.int .i64)) a1)), (27, I x146), (28, I x147)], [bx [.v (.int .i64) (0 : Int), .nil, .nil] 24, bx [.v (.int .i64) y205.1.1, .hd 2 0 none, .hd 3 0 none] 24, ar 0 (.int .i64) y205.1.2.1 .dp, ar 0 (.int .i64) y205.1.2.2 .dp, ar 0 (.int .i64) x145 .dp]⟩) (φ := True ∧ True ∧ True ∧ True ∧ True ∧ True) (by kernel_rfl) ⟨trivial, trivial, trivial, trivial, trivial, trivial⟩ ?_
                refine VO.nil ?_
                show VW _ _ _ _ _ _ _
                refine VW.region ?_
                refine VO.seg T_ok .dp 1 [4, 6, 8, 26, 27, 28, 54] [0, 1, 2, 3, 4] (s' := ⟨[(4, .lf (.ptr 0 0 0 0)), (6, .lf (.ptr 1 0 0 0)), (8, .lf (.hd 4 0 none)), (26, .lf (.v (.sl (.int .i64)) a1)), (27, I x146), (28, I x147), (54, B y205.2)], [bx [.v (.int .i64) (0 : Int), .nil, .nil] 24, bx [.v (.int .i64) y205.1.1, .hd 2 0 none, .hd 3 0 none] 24, ar 0 (.int .i64) y205.1.2.1 .dp, ar 0 (.int .i64) y205.1.2.2 .dp, ar 0 (.int .i64) x145 .dp]⟩) (φ := True ∧ True) (by kernel_rfl) ⟨trivial, trivial⟩ ?_
                obtain ⟨y206, hy, h⟩ := andO_some h
                refine VO.call false [.t .bool] [] T_ok (d := some 55) (by kernel_rfl) (ok63 N _ hy) rfl ?_
                refine VO.seg T_ok .dp 1 [4, 6, 8, 11, 26, 27, 28] [0, 1, 2, 3, 4] (s' := ⟨[(4, .lf (.ptr 0 0 0 0)), (6, .lf (.ptr 1 0 0 0)), (8, .lf (.hd 4 0 none)), (11, I y206), (26, .lf (.v (.sl (.int .i64)) a1)), (27, I x146), (28, I x147)], [bx [.v (.int .i64) (0 : Int), .nil, .nil] 24, bx [.v (.int .i64) y205.1.1, .hd 2 0 none, .hd 3 0 none] 24, ar 0 (.int .i64) y205.1.2.1 .dp, ar 0 (.int .i64) y205.1.2.2 .dp, ar 0 (.int .i64) x145 .dp]⟩) (φ := True ∧ True) (by kernel_rfl) ⟨trivial, trivial⟩ ?_
                refine VO.nil ?_
                exact arrive [.ren [4, 6, 8, 11, 26, 27, 28] [0, 1, 2, 3, 4]] (by kernel_rfl) ⟨y205.1.1, y205.1.2.1, y205.1.2.2, y206, rfl, h⟩
              · replace h := cond_f h hb; clear hb
                refine VW.seq ?_
                refine VW.region ?_
                refine VO.seg T_ok .dp 4 [4, 6, 8, 10, 26, 27, 28, 56] [0, 1, 2, 3, 4] (s' := ⟨[(4, .lf (.ptr 0 0 0 0)), (6, .lf (.ptr 1 0 0 0)), (8, .lf (.hd 4 0 none)), (10, I (a1.getD x147.toNat (Ty.dflt (.int .i64)))), (26, .lf (.v (.sl (.int .i64)) a1)), (27, I x146), (28, I x147), (56, B ((Int.tmod (a1.getD x147.toNat (Ty.dflt (.int .i64))) (2 : Int)) == (0 : Int)))], [bx [.v (.int .i64) (0 : Int), .nil, .nil] 24, bx [.v (.int .i64) x142, .hd 2 0 none, .hd 3 0 none] 24, ar 0 (.int .i64) x143 .dp, ar 0 (.int .i64) x144 .dp, ar 0 (.int .i64) x145 .dp]⟩) (φ := True ∧ ((2 : Int) ≠ 0) ∧ True ∧ True ∧ True) (by kernel_rfl) ⟨trivial, (by decide), trivial, trivial, trivial⟩ ?_
                refine VO.nil ?_
                show VW _ _ _ _ _ _ _
                refine VW.cond (b := ((Int.tmod (a1.getD x147.toNat (Ty.dflt (.int .i64))) (2 : Int)) == (0 : Int))) (by kernel_rfl) (fun hb => ?_) (fun hb => ?_)
                · replace h := cond_t h hb; clear hb
                  refine VW.seq ?_
                  refine VW.region ?_
                  refine VO.seg T_ok .dp 3 [4, 6, 8, 26, 27, 28, 61, 63] [0, 1, 2, 3, 4] (s' := ⟨[(4, .lf (.ptr 0 0 0 0)), (6, .lf (.ptr 1 0 0 0)), (8, .lf (.hd 4 0 none)), (26, .lf (.v (.sl (.int .i64)) a1)), (27, I x146), (28, I x147), (61, .agg [.v (.int .i64) x142, .hd 2 0 none, .hd 3 0 none]), (63, I (IntKind.i64.wrap (Int.tdiv (a1.getD x147.toNat (Ty.dflt (.int .i64))) (2 : Int))))], [bx [.v (.int .i64) (0 : Int), .nil, .nil] 24, bx [.v (.int .i64) x142, .hd 2 0 none, .hd 3 0 none] 24, ar 0 (.int .i64) x143 .dp, ar 0 (.int .i64) x144 .dp, ar 0 (.int .i64) x145 .dp]⟩) (φ := True ∧ True ∧ ((2 : Int) ≠ 0) ∧ True) (by kernel_rfl) ⟨trivial, trivial, (by decide), trivial⟩ ?_
                  obtain ⟨y207, hy, h⟩ := andO_some h
                  refine VO.call true [.t Y23, .t (.int .i64)] [] T_ok (d := some 64) (by kernel_rfl) (ok36 N _ _ hy) rfl ?_
                  refine VO.seg T_ok .dp 7 [4, 6, 8, 11, 12, 26, 27, 28] [0, 1, 5, 6, 4] (s' := ⟨[(4, .lf (.ptr 0 0 0 0)), (6, .lf (.ptr 1 0 0 0)), (8, .lf (.hd 4 0 none)), (11, I y207.2.1), (12, B y207.2.2), (26, .lf (.v (.sl (.int .i64)) a1)), (27, I x146), (28, I x147)], [bx [.v (.int .i64) (0 : Int), .nil, .nil] 24, bx [.v (.int .i64) y207.1.1, .hd 2 0 none, .hd 3 0 none] 24, ar 0 (.int .i64) y207.1.2.1 .dp, ar 0 (.int .i64) y207.1.2.2 .dp, ar 0 (.int .i64) x145 .dp]⟩) (φ := True ∧ True ∧ True ∧ True ∧ True ∧ True ∧ True ∧ True) (by kernel_rfl) ⟨trivial, trivial, trivial, trivial, trivial, trivial, trivial, trivial⟩ ?_
                  refine VO.nil ?_
                  show VW _ _ _ _ _ _ _
                  refine VW.seq ?_
                  refine VW.region ?_
                  refine VO.seg T_ok .dp 2 [4, 6, 8, 11, 26, 27, 28, 69] [0, 1, 2, 3, 4] (s' := ⟨[(4, .lf (.ptr 0 0 0 0)), (6, .lf (.ptr 1 0 0 0)), (8, .lf (.hd 4 0 none)), (11, I y207.2.1), (26, .lf (.v (.sl (.int .i64)) a1)), (27, I x146), (28, I x147), (69, B (!y207.2.2))], [bx [.v (.int .i64) (0 : Int), .nil, .nil] 24, bx [.v (.int .i64) y207.1.1, .hd 2 0 none, .hd 3 0 none] 24, ar 0 (.int .i64) y207.1.2.1 .dp, ar 0 (.int .i64) y207.1.2.2 .dp, ar 0 (.int .i64) x145 .dp]⟩) (φ := True ∧ True ∧ True) (by kernel_rfl) ⟨trivial, trivial, trivial⟩ ?_
                  refine VO.nil ?_
                  show VW _ _ _ _ _ _ _
                  refine VW.cond (b := (!y207.2.2)) (by kernel_rfl) (fun hb => ?_) (fun hb => ?_)
                  · replace h := cond_t h hb; clear hb
                    refine VW.region ?_
                    refine VO.seg T_ok .dp 1 [4, 6, 8, 11, 26, 27, 28] [0, 1, 2, 3, 4] (s' := ⟨[(4, .lf (.ptr 0 0 0 0)), (6, .lf (.ptr 1 0 0 0)), (8, .lf (.hd 4 0 none)), (11, I (-1 : Int)), (26, .lf (.v (.sl (.int .i64)) a1)), (27, I x146), (28, I x147)], [bx [.v (.int .i64) (0 : Int), .nil, .nil] 24, bx [.v (.int .i64) y207.1.1, .hd 2 0 none, .hd 3 0 none] 24, ar 0 (.int .i64) y207.1.2.1 .dp, ar 0 (.int .i64) y207.1.2.2 .dp, ar 0 (.int .i64) x145 .dp]⟩) (φ := True ∧ True) (by kernel_rfl) ⟨trivial, trivial⟩ ?_
                    refine VO.nil ?_
                    exact arrive [.ren [4, 6, 8, 11, 26, 27, 28] [0, 1, 2, 3, 4]] (by kernel_rfl) ⟨y207.1.1, y207.1.2.1, y207.1.2.2, (-1 : Int), rfl, h⟩
                  · replace h := cond_f h hb; clear hb
                    refine VW.skip ?_
                    exact arrive [.ren [4, 6, 8, 11, 26, 27, 28] [0, 1, 2, 3, 4]] (by kernel_rfl) ⟨y207.1.1, y207.1.2.1, y207.1.2.2, y207.2.1, rfl, h⟩
                · replace h := cond_f h hb; clear hb
                  refine VW.seq ?_
                  refine VW.region ?_
                  refine VO.seg T_ok .dp 4 [4, 6, 8, 26, 27, 28, 33, 35, 36] [0, 1, 2, 3, 4] (s' := ⟨[(4, .lf (.ptr 0 0 0 0)), (6, .lf (.ptr 1 0 0 0)), (8, .lf (.hd 4 0 none)), (26, .lf (.v (.sl (.int .i64)) a1)), (27, I x146), (28, I x147), (33, .agg [.v (.int .i64) x142, .hd 2 0 none, .hd 3 0 none]), (35, I (IntKind.i64.wrap (Int.tdiv (a1.getD x147.toNat (Ty.dflt (.int .i64))) (2 : Int)))), (36, I (a1.getD x147.toNat (Ty.dflt (.int .i64))))], [bx [.v (.int .i64) (0 : Int), .nil, .nil] 24, bx [.v (.int .i64) x142, .hd 2 0 none, .hd 3 0 none] 24, ar 0 (.int .i64) x143 .dp, ar 0 (.int .i64) x144 .dp, ar 0 (.int .i64) x145 .dp]⟩) (φ := True ∧ True ∧ ((2 : Int) ≠ 0) ∧ True ∧ True) (by kernel_rfl) ⟨trivial, trivial, (by decide), trivial, trivial⟩ ?_
                  obtain ⟨y208, hy, h⟩ := andO_some h
                  refine VO.call true [.t Y23, .t (.int .i64), .t (.int .i64)] [] T_ok (d := some 37) (by kernel_rfl) (ok38 N _ _ _ hy) rfl ?_
                  refine VO.seg T_ok .dp 6 [4, 6, 8, 11, 26, 27, 28] [0, 1, 5, 6, 4] (s' := ⟨[(4, .lf (.ptr 0 0 0 0)), (6, .lf (.ptr 1 0 0 0)), (8, .lf (.hd 4 0 none)), (11, I y208.2.1), (26, .lf (.v (.sl (.int .i64)) a1)), (27, I x146), (28, I x147)], [bx [.v (.int .i64) (0 : Int), .nil, .nil] 24, bx [.v (.int .i64) y208.1.1, .hd 2 0 none, .hd 3 0 none] 24, ar 0 (.int .i64) y208.1.2.1 .dp, ar 0 (.int .i64) y208.1.2.2 .dp, ar 0 (.int .i64) x145 .dp]⟩) (φ := True ∧ True ∧ True ∧ True ∧ True ∧ True ∧ True) (by kernel_rfl) ⟨trivial, trivial, trivial, trivial, trivial, trivial, trivial⟩ ?_
                  refine VO.nil ?_
                  show VW _ _ _ _ _ _ _
                  refine VW.seq ?_
                  refine VW.region ?_
                  refine VO.seg T_ok .dp 2 [4, 6, 8, 11, 26, 27, 28, 42] [0, 1, 2, 3, 4] (s' := ⟨[(4, .lf (.ptr 0 0 0 0)), (6, .lf (.ptr 1 0 0 0)), (8, .lf (.hd 4 0 none)), (11, I y208.2.1), (26, .lf (.v (.sl (.int .i64)) a1)), (27, I x146), (28, I x147), (42, B (y208.2.1 == (1000001 : Int)))], [bx [.v (.int .i64) (0 : Int), .nil, .nil] 24, bx [.v (.int .i64) y208.1.1, .hd 2 0 none, .hd 3 0 none] 24, ar 0 (.int .i64) y208.1.2.1 .dp, ar 0 (.int .i64) y208.1.2.2 .dp, ar 0 (.int .i64) x145 .dp]⟩) (φ := True ∧ True ∧ True) (by kernel_rfl) ⟨trivial, trivial, trivial⟩ ?_
                  refine VO.nil ?_
                  show VW _ _ _ _ _ _ _
                  refine VW.cond (b := (y208.2.1 == (1000001 : Int))) (by kernel_rfl) (fun hb => ?_) (fun hb => ?_)
                  · replace h := cond_t h hb; clear hb
                    refine VW.region ?_
                    refine VO.seg T_ok .dp 1 [4, 6, 8, 11, 26, 27, 28] [0, 1, 2, 3, 4] (s' := ⟨[(4, .lf (.ptr 0 0 0 0)), (6, .lf (.ptr 1 0 0 0)), (8, .lf (.hd 4 0 none)), (11, I (-1 : Int)), (26, .lf (.v (.sl (.int .i64)) a1)), (27, I x146), (28, I x147)], [bx [.v (.int .i64) (0 : Int), .nil, .nil] 24, bx [.v (.int .i64) y208.1.1, .hd 2 0 none, .hd 3 0 none] 24, ar 0 (.int .i64) y208.1.2.1 .dp, ar 0 (.int .i64) y208.1.2.2 .dp, ar 0 (.int .i64) x145 .dp]⟩) (φ := True ∧ True) (by kernel_rfl) ⟨trivial, trivial⟩ ?_
                    refine VO.nil ?_
                    exact arrive [.ren [4, 6, 8, 11, 26, 27, 28] [0, 1, 2, 3, 4]] (by kernel_rfl) ⟨y208.1.1, y208.1.2.1, y208.1.2.2, (-1 : Int), rfl, h⟩
                  · replace h := cond_f h hb; clear hb
                    refine VW.skip ?_
                    exact arrive [.ren [4, 6, 8, 11, 26, 27, 28] [0, 1, 2, 3, 4]] (by kernel_rfl) ⟨y208.1.1, y208.1.2.1, y208.1.2.2, y208.2.1, rfl, h⟩
            · rintro s ⟨x199, x200, x201, x202, rfl, h⟩
              unfold F40_j1 at h
              refine VW.region ?_
              obtain ⟨g203, h⟩ := gd_some h
              refine VO.seg T_ok .dp 5 [4, 6, 8, 26, 27, 28] [0, 1, 2, 3, 4] (s' := ⟨[(4, .lf (.ptr 0 0 0 0)), (6, .lf (.ptr 1 0 0 0)), (8, .lf (.hd 4 0 none)), (26, .lf (.v (.sl (.int .i64)) a1)), (27, I x146), (28, I x147)], [bx [.v (.int .i64) (0 : Int), .nil, .nil] 24, bx [.v (.int .i64) x199, .hd 2 0 none, .hd 3 0 none] 24, ar 0 (.int .i64) x200 .dp, ar 0 (.int .i64) x201 .dp, ar 0 (.int .i64) (x145 ++ ([x202])) .dp]⟩) (φ := True ∧ True ∧ True ∧ (x145.length + ([x202]).length ≤ lim (.int .i64)) ∧ True ∧ True) (by kernel_rfl) ⟨trivial, trivial, trivial, g203, trivial, trivial⟩ ?_
              refine VO.nil ?_
              show VW _ _ _ _ _ _ _
              refine VW.region ?_
              refine VO.seg T_ok .dp 2 [4, 6, 8, 26, 27, 28] [0, 1, 2, 3, 4] (s' := ⟨[(4, .lf (.ptr 0 0 0 0)), (6, .lf (.ptr 1 0 0 0)), (8, .lf (.hd 4 0 none)), (26, .lf (.v (.sl (.int .i64)) a1)), (27, I x146), (28, I (IntKind.i64.wrap (x147 + (1 : Int))))], [bx [.v (.int .i64) (0 : Int), .nil, .nil] 24, bx [.v (.int .i64) x199, .hd 2 0 none, .hd 3 0 none] 24, ar 0 (.int .i64) x200 .dp, ar 0 (.int .i64) x201 .dp, ar 0 (.int .i64) (x145 ++ ([x202])) .dp]⟩) (φ := True ∧ True ∧ True) (by kernel_rfl) ⟨trivial, trivial, trivial⟩ ?_
              refine VO.nil ?_
              exact around [.ren [4, 6, 8, 26, 27, 28] [0, 1, 2, 3, 4]] (by kernel_rfl) ⟨x199, x200, x201, (x145 ++ ([x202])), x146, (IntKind.i64.wrap (x147 + (1 : Int))), rfl, h⟩
          · replace h := cond_f h hb; clear hb
            refine VW.exit ?_
            exact arrive [.ren [4, 6, 8] [0, 1, 2, 3, 4]] (by kernel_rfl) ⟨x142, x143, x144, x145, rfl, h⟩
      · rintro s ⟨x103, x104, x105, x106, rfl, h⟩
        unfold F40_j0 at h
        refine VW.seq ?_
        refine VW.region ?_
        refine VO.seg T_ok .dp 4 [4, 5] [0, 2, 3, 4] (s' := ⟨[(4, .lf (.ptr 0 0 0 0)), (5, .lf (.hd 3 0 none))], [bx [.v (.int .i64) x103, .hd 1 0 none, .hd 2 0 none] 24, ar 0 (.int .i64) x104 .dp, ar 0 (.int .i64) x105 .dp, ar 0 (.int .i64) x106 .dp]⟩) (φ := True ∧ True ∧ True ∧ True ∧ True) (by kernel_rfl) ⟨trivial, trivial, trivial, trivial, trivial⟩ ?_
        refine VO.nil ?_
        show VW _ _ _ _ _ _ _
        refine VW.ret ?_
        replace h := Option.some.inj h
        subst h
        exact retR [some 1, some 2, some 3] (by kernel_rfl) rfl

/- loop.example/g00844/laws.FnExactPlayCache -/
def F12 (N : Nat) (a0 : Int) (a1 : (List Int)) : Option (Bool) :=
  cond (decide ((a1.length : Int) > (1048576 : Int))) (some true) (andO (F32 N a1) fun y1 => andO (F39 N a0 y1) fun y2 => andO (F32 N a1) fun y3 => andO (F40 N a0 y3) fun y4 => andO (F16 N y4.1 y2.1) fun y7 => cond (!y7) (some false) (andO (F34 N y4.2 y2.2) fun y8 => cond (!y8) (some false) (andO (F32 N a1) fun y11 => andO (F34 N y3 y11) fun y12 => cond (!y12) (some false) (andO (F41 N y3 (1 : Int)) fun y13 => cond (decide (y13.2 < (0 : Int))) (some false) (andO (F16 N y4.1 y2.1) fun y16 => cond (!y16) (some false) (andO (F34 N y4.2 y2.2) fun y17 => cond (!y17) (some false) (andO (F17 N y4.1 (1 : Int)) fun y18 => andO (F41 N y4.2 y18.2.2) fun y19 => andO (F18 N (y4.1.1, (y18.1, y18.2.1)) (1 : Int)) fun y20 => cond (decide (y20 < (0 : Int))) (some false) (andO (F42 N y19.1 y20) fun y21 => cond (decide (y21 < (0 : Int))) (some false) (cond (y21 != y19.2) (some false) (andO (F32 N a1) fun y22 => andO (F40 N a0 y22) fun y23 => andO (F16 N y23.1 y2.1) fun y26 => cond (!y26) (some false) (andO (F34 N y23.2 y2.2) fun y27 => cond (!y27) (some false) (andO (F18 N (y4.1.1, (y18.1, y18.2.1)) (1 : Int)) fun y28 => cond (decide (y28 < (0 : Int))) (some false) (andO (F42 N y19.1 y28) fun y29 => cond (decide (y29 < (0 : Int))) (some false) (cond (y29 != y19.2) (some false) (some true)))))))))))))))
theorem ok12 (N : Nat) (a0 : Int) (a1 : (List Int)) {r : Bool} (h : F12 N a0 a1 = some r) : Con Go.Proofs.Try.prog 12 [I a0, .lf (.v (.sl (.int .i64)) a1)] [.lf (.v .bool r)] := by
  refine ⟨enters_of Go.Proofs.Try.func12 rfl (by decide), HC.intro [.lf (.v .bool)] T_ok Go.Proofs.Try.func12 rfl (Nat.le_of_ble_eq_true rfl) (Nat.le_of_ble_eq_true rfl) fun w0 E0 => ?_⟩
  unfold F12 at h
  show VW _ _ _ _ _ (retQ _ _ _ _) _
  refine VW.seq ?_
  refine VW.region ?_
  refine VO.seg T_ok .dp 1 [0, 1] [] (s' := ⟨[(0, I a0), (1, .lf (.v (.sl (.int .i64)) a1))], []⟩) (φ := True ∧ True) (by kernel_rfl) ⟨trivial, trivial⟩ ?_
  refine VO.nil ?_
  show VW _ _ _ _ _ _ _
  refine VW.seq ?_
  refine VW.seq ?_
  refine VW.region ?_
  refine VO.seg T_ok .dp 3 [0, 1, 17] [] (s' := ⟨[(0, I a0), (1, .lf (.v (.sl (.int .i64)) a1)), (17, B (decide ((a1.length : Int) > (1048576 : Int))))], []⟩) (φ := True ∧ True ∧ True ∧ True) (by kernel_rfl) ⟨trivial, trivial, trivial, trivial⟩ ?_
  refine VO.nil ?_
  show VW _ _ _ _ _ _ _
  refine VW.cond (b := (decide ((a1.length : Int) > (1048576 : Int)))) (by kernel_rfl) (fun hb => ?_) (fun hb => ?_)
  · replace h := cond_t h hb; clear hb
    refine VW.seq ?_
    refine VW.region ?_
    refine VO.seg T_ok .dp 1 [4] [] (s' := ⟨[(4, B true)], []⟩) (φ := True ∧ True) (by kernel_rfl) ⟨trivial, trivial⟩ ?_
    refine VO.nil ?_
    show VW _ _ _ _ _ _ _
    refine VW.ret ?_
    replace h := Option.some.inj h
    subst h
    exact retR [] (by kernel_rfl) rfl
  · replace h := cond_f h hb; clear hb
    refine VW.skip ?_
    show VW _ _ _ _ _ _ _
    refine VW.seq ?_
    refine VW.region ?_
    refine VO.seg T_ok .dp 2 [0, 1, 19, 20] [] (s' := ⟨[(0, I a0), (1, .lf (.v (.sl (.int .i64)) a1)), (19, I a0), (20, .lf (.v (.sl (.int .i64)) a1))], []⟩) (φ := True ∧ True ∧ True) (by kernel_rfl) ⟨trivial, trivial, trivial⟩ ?_
    obtain ⟨y1, hy, h⟩ := andO_some h
    refine VO.call false [.t (.sl (.int .i64))] [] T_ok (d := some 21) (by kernel_rfl) (ok32 N _ hy) rfl ?_
    obtain ⟨y2, hy, h⟩ := andO_some h
    refine VO.call true [.t (.int .i64), .t (.sl (.int .i64))] [] T_ok (d := some 22) (by kernel_rfl) (ok39 N _ _ hy) rfl ?_
    refine VO.seg T_ok .dp 6 [0, 1, 5, 6] [4, 1, 2, 3] (s' := ⟨[(0, I a0), (1, .lf (.v (.sl (.int .i64)) a1)), (5, .lf (.ptr 0 0 0 0)), (6, .lf (.hd 3 0 none))], [bx [.v (.int .i64) y2.1.1, .hd 1 0 none, .hd 2 0 none] 24, ar 0 (.int .i64) y2.1.2.1 .dp, ar 0 (.int .i64) y2.1.2.2 .dp, ar 0 (.int .i64) y2.2 .dp]⟩) (φ := True ∧ True ∧ True ∧ True ∧ True ∧ True ∧ True) (by kernel_rfl) ⟨trivial, trivial, trivial, trivial, trivial, trivial, trivial⟩ ?_
    refine VO.nil ?_
    show VW _ _ _ _ _ _ _
    refine VW.seq ?_
    refine VW.region ?_
    refine VO.seg T_ok .dp 1 [0, 1, 5, 6, 25] [0, 1, 2, 3] (s' := ⟨[(0, I a0), (1, .lf (.v (.sl (.int .i64)) a1)), (5, .lf (.ptr 0 0 0 0)), (6, .lf (.hd 3 0 none)), (25, .lf (.v (.sl (.int .i64)) a1))], [bx [.v (.int .i64) y2.1.1, .hd 1 0 none, .hd 2 0 none] 24, ar 0 (.int .i64) y2.1.2.1 .dp, ar 0 (.int .i64) y2.1.2.2 .dp, ar 0 (.int .i64) y2.2 .dp]⟩) (φ := True ∧ True) (by kernel_rfl) ⟨trivial, trivial⟩ ?_
    obtain ⟨y3, hy, h⟩ := andO_some h
    refine VO.call false [.t (.sl (.int .i64))] [] T_ok (d := some 26) (by kernel_rfl) (ok32 N _ hy) rfl ?_
    refine VO.seg T_ok .dp 1 [0, 1, 5, 6, 7] [0, 1, 2, 3, 4] (s' := ⟨[(0, I a0), (1, .lf (.v (.sl (.int .i64)) a1)), (5, .lf (.ptr 0 0 0 0)), (6, .lf (.hd 3 0 none)), (7, .lf (.hd 4 0 none))], [bx [.v (.int .i64) y2.1.1, .hd 1 0 none, .hd 2 0 none] 24, ar 0 (.int .i64) y2.1.2.1 .dp, ar 0 (.int .i64) y2.1.2.2 .dp, ar 0 (.int .i64) y2.2 .dp, ar 0 (.int .i64) y3 .dp]⟩) (φ := True ∧ True) (by kernel_rfl) ⟨trivial, trivial⟩ ?_
    refine VO.nil ?_
    show VW _ _ _ _ _ _ _
    refine VW.seq ?_
    refine VW.region ?_
    refine VO.seg T_ok .dp 2 [0, 1, 5, 6, 7, 28, 29] [0, 1, 2, 3, 4] (s' := ⟨[(0, I a0), (1, .lf (.v (.sl (.int .i64)) a1)), (5, .lf (.ptr 0 0 0 0)), (6, .lf (.hd 3 0 none)), (7, .lf (.hd 4 0 none)), (28, I a0), (29, .lf (.hd 4 0 none))], [bx [.v (.int .i64) y2.1.1, .hd 1 0 none, .hd 2 0 none] 24, ar 0 (.int .i64) y2.1.2.1 .dp, ar 0 (.int .i64) y2.1.2.2 .dp, ar 0 (.int .i64) y2.2 .dp, ar 0 (.int .i64) y3 .dp]⟩) (φ := True ∧ True ∧ True) (by kernel_rfl) ⟨trivial, trivial, trivial⟩ ?_
    obtain ⟨y4, hy, h⟩ := andO_some h
    refine VO.call true [.t (.int .i64), .t (.sl (.int .i64))] [] T_ok (d := some 30) (by kernel_rfl) (ok40 N _ _ hy) rfl ?_
    refine VO.seg T_ok .dp 6 [0, 1, 5, 6, 7, 8, 9] [0, 1, 2, 3, 4, 8, 5, 6, 7] (s' := ⟨[(0, I a0), (1, .lf (.v (.sl (.int .i64)) a1)), (5, .lf (.ptr 0 0 0 0)), (6, .lf (.hd 3 0 none)), (7, .lf (.hd 4 0 none)), (8, .lf (.ptr 5 0 0 0)), (9, .lf (.hd 8 0 none))], [bx [.v (.int .i64) y2.1.1, .hd 1 0 none, .hd 2 0 none] 24, ar 0 (.int .i64) y2.1.2.1 .dp, ar 0 (.int .i64) y2.1.2.2 .dp, ar 0 (.int .i64) y2.2 .dp, ar 0 (.int .i64) y3 .dp, bx [.v (.int .i64) y4.1.1, .hd 6 0 none, .hd 7 0 none] 24, ar 0 (.int .i64) y4.1.2.1 .dp, ar 0 (.int .i64) y4.1.2.2 .dp, ar 0 (.int .i64) y4.2 .dp]⟩) (φ := True ∧ True ∧ True ∧ True ∧ True ∧ True ∧ True) (by kernel_rfl) ⟨trivial, trivial, trivial, trivial, trivial, trivial, trivial⟩ ?_
    refine VO.nil ?_
    show VW _ _ _ _ _ _ _
    refine VW.seq ?_
    refine VW.seq ?_
    refine VW.region ?_
    refine VO.seg T_ok .dp 2 [0, 1, 5, 6, 7, 8, 9, 33, 34] [0, 1, 2, 3, 4, 5, 6, 7, 8] (s' := ⟨[(0, I a0), (1, .lf (.v (.sl (.int .i64)) a1)), (5, .lf (.ptr 0 0 0 0)), (6, .lf (.hd 3 0 none)), (7, .lf (.hd 4 0 none)), (8, .lf (.ptr 5 0 0 0)), (9, .lf (.hd 8 0 none)), (33, .agg [.v (.int .i64) y4.1.1, .hd 6 0 none, .hd 7 0 none]), (34, .agg [.v (.int .i64) y2.1.1, .hd 1 0 none, .hd 2 0 none])], [bx [.v (.int .i64) y2.1.1, .hd 1 0 none, .hd 2 0 none] 24, ar 0 (.int .i64) y2.1.2.1 .dp, ar 0 (.int .i64) y2.1.2.2 .dp, ar 0 (.int .i64) y2.2 .dp, ar 0 (.int .i64) y3 .dp, bx [.v (.int .i64) y4.1.1, .hd 6 0 none, .hd 7 0 none] 24, ar 0 (.int .i64) y4.1.2.1 .dp, ar 0 (.int .i64) y4.1.2.2 .dp, ar 0 (.int .i64) y4.2 .dp]⟩) (φ := True ∧ True ∧ True) (by kernel_rfl) ⟨trivial, trivial, trivial⟩ ?_
    obtain ⟨y7, hy, h⟩ := andO_some h
    refine VO.call true [.t Y23, .t Y23] [] T_ok (d := some 35) (by kernel_rfl) (ok16 N _ _ hy) rfl ?_
    refine VO.seg T_ok .dp 2 [0, 1, 5, 6, 7, 8, 9, 37] [0, 1, 2, 3, 4, 5, 6, 7, 8] (s' := ⟨[(0, I a0), (1, .lf (.v (.sl (.int .i64)) a1)), (5, .lf (.ptr 0 0 0 0)), (6, .lf (.hd 3 0 none)), (7, .lf (.hd 4 0 none)), (8, .lf (.ptr 5 0 0 0)), (9, .lf (.hd 8 0 none)), (37, B (!y7))], [bx [.v (.int .i64) y2.1.1, .hd 1 0 none, .hd 2 0 none] 24, ar 0 (.int .i64) y2.1.2.1 .dp, ar 0 (.int .i64) y2.1.2.2 .dp, ar 0 (.int .i64) y2.2 .dp, ar 0 (.int .i64) y3 .dp, bx [.v (.int .i64) y4.1.1, .hd 6 0 none, .hd 7 0 none] 24, ar 0 (.int .i64) y4.1.2.1 .dp, ar 0 (.int .i64) y4.1.2.2 .dp, ar 0 (.int .i64) y4.2 .dp]⟩) (φ := True ∧ True ∧ True) (by kernel_rfl) ⟨trivial, trivial, trivial⟩ ?_
    refine VO.splitB 37 (b := (!y7)) (by kernel_rfl) (fun hb => ?_) (fun hb => ?_)
    · replace h := cond_t h hb; clear hb
      refine VO.seg T_ok .dp 5 [0, 1, 5, 6, 7, 8, 9, 42] [0, 1, 2, 3, 4, 5, 6, 7, 8] (s' := ⟨[(0, I a0), (1, .lf (.v (.sl (.int .i64)) a1)), (5, .lf (.ptr 0 0 0 0)), (6, .lf (.hd 3 0 none)), (7, .lf (.hd 4 0 none)), (8, .lf (.ptr 5 0 0 0)), (9, .lf (.hd 8 0 none)), (42, B true)], [bx [.v (.int .i64) y2.1.1, .hd 1 0 none, .hd 2 0 none] 24, ar 0 (.int .i64) y2.1.2.1 .dp, ar 0 (.int .i64) y2.1.2.2 .dp, ar 0 (.int .i64) y2.2 .dp, ar 0 (.int .i64) y3 .dp, bx [.v (.int .i64) y4.1.1, .hd 6 0 none, .hd 7 0 none] 24, ar 0 (.int .i64) y4.1.2.1 .dp, ar 0 (.int .i64) y4.1.2.2 .dp, ar 0 (.int .i64) y4.2 .dp]⟩) (φ := True ∧ True ∧ True ∧ True ∧ True ∧ True) (by kernel_rfl) ⟨trivial, trivial, trivial, trivial, trivial, trivial⟩ ?_
      refine VO.nil ?_
      show VW _ _ _ _ _ _ _
      refine VW.cond (b := true) (by kernel_rfl) (fun _ => ?_) (fun h' => nomatch h')
      refine VW.seq ?_
      refine VW.region ?_
      refine VO.seg T_ok .dp 1 [4] [] (s' := ⟨[(4, B false)], []⟩) (φ := True ∧ True) (by kernel_rfl) ⟨trivial, trivial⟩ ?_
      refine VO.nil ?_
      show VW _ _ _ _ _ _ _
      refine VW.ret ?_
      replace h := Option.some.inj h
      subst h
      exact retR [] (by kernel_rfl) rfl
    · replace h := cond_f h hb; clear hb
      refine VO.seg T_ok .dp 2 [0, 1, 5, 6, 7, 8, 9, 37, 38, 39] [0, 1, 2, 3, 4, 5, 6, 7, 8] (s' := ⟨[(0, I a0), (1, .lf (.v (.sl (.int .i64)) a1)), (5, .lf (.ptr 0 0 0 0)), (6, .lf (.hd 3 0 none)), (7, .lf (.hd 4 0 none)), (8, .lf (.ptr 5 0 0 0)), (9, .lf (.hd 8 0 none)), (37, B false), (38, .lf (.hd 8 0 none)), (39, .lf (.hd 3 0 none))], [bx [.v (.int .i64) y2.1.1, .hd 1 0 none, .hd 2 0 none] 24, ar 0 (.int .i64) y2.1.2.1 .dp, ar 0 (.int .i64) y2.1.2.2 .dp, ar 0 (.int .i64) y2.2 .dp, ar 0 (.int .i64) y3 .dp, bx [.v (.int .i64) y4.1.1, .hd 6 0 none, .hd 7 0 none] 24, ar 0 (.int .i64) y4.1.2.1 .dp, ar 0 (.int .i64) y4.1.2.2 .dp, ar 0 (.int .i64) y4.2 .dp]⟩) (φ := True ∧ True ∧ True) (by kernel_rfl) ⟨trivial, trivial, trivial⟩ ?_
      refine VO.on (j := 4) (want := false) (d := 37) (b := false) rfl rfl rfl (by kernel_rfl) rfl ?_
      obtain ⟨y8, hy, h⟩ := andO_some h
      refine VO.call true [.t (.sl (.int .i64)), .t (.sl (.int .i64))] [] T_ok (d := some 40) (by kernel_rfl) (ok34 N _ _ hy) rfl ?_
      refine VO.seg T_ok .dp 2 [0, 1, 5, 6, 7, 8, 9, 42] [0, 1, 2, 3, 4, 5, 6, 7, 8] (s' := ⟨[(0, I a0), (1, .lf (.v (.sl (.int .i64)) a1)), (5, .lf (.ptr 0 0 0 0)), (6, .lf (.hd 3 0 none)), (7, .lf (.hd 4 0 none)), (8, .lf (.ptr 5 0 0 0)), (9, .lf (.hd 8 0 none)), (42, B (!y8))], [bx [.v (.int .i64) y2.1.1, .hd 1 0 none, .hd 2 0 none] 24, ar 0 (.int .i64) y2.1.2.1 .dp, ar 0 (.int .i64) y2.1.2.2 .dp, ar 0 (.int .i64) y2.2 .dp, ar 0 (.int .i64) y3 .dp, bx [.v (.int .i64) y4.1.1, .hd 6 0 none, .hd 7 0 none] 24, ar 0 (.int .i64) y4.1.2.1 .dp, ar 0 (.int .i64) y4.1.2.2 .dp, ar 0 (.int .i64) y4.2 .dp]⟩) (φ := True ∧ True ∧ True) (by kernel_rfl) ⟨trivial, trivial, trivial⟩ ?_
      refine VO.nil ?_
      show VW _ _ _ _ _ _ _
      refine VW.cond (b := (!y8)) (by kernel_rfl) (fun hb => ?_) (fun hb => ?_)
      · replace h := cond_t h hb; clear hb
        refine VW.seq ?_
        refine VW.region ?_
        refine VO.seg T_ok .dp 1 [4] [] (s' := ⟨[(4, B false)], []⟩) (φ := True ∧ True) (by kernel_rfl) ⟨trivial, trivial⟩ ?_
        refine VO.nil ?_
        show VW _ _ _ _ _ _ _
        refine VW.ret ?_
        replace h := Option.some.inj h
        subst h
        exact retR [] (by kernel_rfl) rfl
      · replace h := cond_f h hb; clear hb
        refine VW.skip ?_
        show VW _ _ _ _ _ _ _
        refine VW.seq ?_
        refine VW.seq ?_
        refine VW.region ?_
        refine VO.seg T_ok .dp 2 [0, 1, 5, 6, 7, 8, 9, 43, 44] [0, 1, 2, 3, 4, 5, 6, 7, 8] (s' := ⟨[(0, I a0), (1, .lf (.v (.sl (.int .i64)) a1)), (5, .lf (.ptr 0 0 0 0)), (6, .lf (.hd 3 0 none)), (7, .lf (.hd 4 0 none)), (8, .lf (.ptr 5 0 0 0)), (9, .lf (.hd 8 0 none)), (43, .lf (.hd 4 0 none)), (44, .lf (.v (.sl (.int .i64)) a1))], [bx [.v (.int .i64) y2.1.1, .hd 1 0 none, .hd 2 0 none] 24, ar 0 (.int .i64) y2.1.2.1 .dp, ar 0 (.int .i64) y2.1.2.2 .dp, ar 0 (.int .i64) y2.2 .dp, ar 0 (.int .i64) y3 .dp, bx [.v (.int .i64) y4.1.1, .hd 6 0 none, .hd 7 0 none] 24, ar 0 (.int .i64) y4.1.2.1 .dp, ar 0 (.int .i64) y4.1.2.2 .dp, ar 0 (.int .i64) y4.2 .dp]⟩) (φ := True ∧ True ∧ True) (by kernel_rfl) ⟨trivial, trivial, trivial⟩ ?_
        obtain ⟨y11, hy, h⟩ := andO_some h
        refine VO.call false [.t (.sl (.int .i64))] [] T_ok (d := some 45) (by kernel_rfl) (ok32 N _ hy) rfl ?_
        obtain ⟨y12, hy, h⟩ := andO_some h
        refine VO.call true [.t (.sl (.int .i64)), .t (.sl (.int .i64))] [] T_ok (d := some 46) (by kernel_rfl) (ok34 N _ _ hy) rfl ?_
        refine VO.seg T_ok .dp 1 [0, 1, 5, 6, 7, 8, 9, 47] [0, 1, 2, 3, 4, 5, 6, 7, 8] (s' := ⟨[(0, I a0), (1, .lf (.v (.sl (.int .i64)) a1)), (5, .lf (.ptr 0 0 0 0)), (6, .lf (.hd 3 0 none)), (7, .lf (.hd 4 0 none)), (8, .lf (.ptr 5 0 0 0)), (9, .lf (.hd 8 0 none)), (47, B (!y12))], [bx [.v (.int .i64) y2.1.1, .hd 1 0 none, .hd 2 0 none] 24, ar 0 (.int .i64) y2.1.2.1 .dp, ar 0 (.int .i64) y2.1.2.2 .dp, ar 0 (.int .i64) y2.2 .dp, ar 0 (.int .i64) y3 .dp, bx [.v (.int .i64) y4.1.1, .hd 6 0 none, .hd 7 0 none] 24, ar 0 (.int .i64) y4.1.2.1 .dp, ar 0 (.int .i64) y4.1.2.2 .dp, ar 0 (.int .i64) y4.2 .dp]⟩) (φ := True ∧ True) (by kernel_rfl) ⟨trivial, trivial⟩ ?_
        refine VO.nil ?_
        show VW _ _ _ _ _ _ _
        refine VW.cond (b := (!y12)) (by kernel_rfl) (fun hb => ?_) (fun hb => ?_)
        · replace h := cond_t h hb; clear hb
          refine VW.seq ?_
          refine VW.region ?_
          refine VO.seg T_ok .dp 1 [4] [] (s' := ⟨[(4, B false)], []⟩) (φ := True ∧ True) (by kernel_rfl) ⟨trivial, trivial⟩ ?_
          refine VO.nil ?_
          show VW _ _ _ _ _ _ _
          refine VW.ret ?_
          replace h := Option.some.inj h
          subst h
          exact retR [] (by kernel_rfl) rfl
        · replace h := cond_f h hb; clear hb
          refine VW.skip ?_
          show VW _ _ _ _ _ _ _
          refine VW.seq ?_
          refine VW.region ?_
          refine VO.seg T_ok .dp 1 [0, 1, 5, 6, 7, 8, 9, 10] [0, 1, 2, 3, 4, 5, 6, 7, 8] (s' := ⟨[(0, I a0), (1, .lf (.v (.sl (.int .i64)) a1)), (5, .lf (.ptr 0 0 0 0)), (6, .lf (.hd 3 0 none)), (7, .lf (.hd 4 0 none)), (8, .lf (.ptr 5 0 0 0)), (9, .lf (.hd 8 0 none)), (10, I (1 : Int))], [bx [.v (.int .i64) y2.1.1, .hd 1 0 none, .hd 2 0 none] 24, ar 0 (.int .i64) y2.1.2.1 .dp, ar 0 (.int .i64) y2.1.2.2 .dp, ar 0 (.int .i64) y2.2 .dp, ar 0 (.int .i64) y3 .dp, bx [.v (.int .i64) y4.1.1, .hd 6 0 none, .hd 7 0 none] 24, ar 0 (.int .i64) y4.1.2.1 .dp, ar 0 (.int .i64) y4.1.2.2 .dp, ar 0 (.int .i64) y4.2 .dp]⟩) (φ := True ∧ True) (by kernel_rfl) ⟨trivial, trivial⟩ ?_
          refine VO.nil ?_
          show VW _ _ _ _ _ _ _
          refine VW.seq ?_
          refine VW.region ?_
          refine VO.seg T_ok .dp 2 [0, 1, 5, 6, 8, 9, 48, 49] [0, 1, 2, 3, 5, 6, 7, 8, 4] (s' := ⟨[(0, I a0), (1, .lf (.v (.sl (.int .i64)) a1)), (5, .lf (.ptr 0 0 0 0)), (6, .lf (.hd 3 0 none)), (8, .lf (.ptr 4 0 0 0)), (9, .lf (.hd 7 0 none)), (48, .lf (.hd 8 0 none)), (49, I (1 : Int))], [bx [.v (.int .i64) y2.1.1, .hd 1 0 none, .hd 2 0 none] 24, ar 0 (.int .i64) y2.1.2.1 .dp, ar 0 (.int .i64) y2.1.2.2 .dp, ar 0 (.int .i64) y2.2 .dp, bx [.v (.int .i64) y4.1.1, .hd 5 0 none, .hd 6 0 none] 24, ar 0 (.int .i64) y4.1.2.1 .dp, ar 0 (.int .i64) y4.1.2.2 .dp, ar 0 (.int .i64) y4.2 .dp, ar 0 (.int .i64) y3 .dp]⟩) (φ := True ∧ True ∧ True) (by kernel_rfl) ⟨trivial, trivial, trivial⟩ ?_
          obtain ⟨y13, hy, h⟩ := andO_some h
          refine VO.callM [8] [.t (.sl (.int .i64)), .t (.int .i64)] (d := some 50) (by kernel_rfl) (by kernel_rfl) (ok41 N _ _ hy) (by kernel_rfl) ?_
          refine VO.seg T_ok .dp 1 [0, 1, 5, 6, 8, 9, 10] [0, 1, 2, 3, 4, 5, 6, 7] (s' := ⟨[(0, I a0), (1, .lf (.v (.sl (.int .i64)) a1)), (5, .lf (.ptr 0 0 0 0)), (6, .lf (.hd 3 0 none)), (8, .lf (.ptr 4 0 0 0)), (9, .lf (.hd 7 0 none)), (10, I y13.2)], [bx [.v (.int .i64) y2.1.1, .hd 1 0 none, .hd 2 0 none] 24, ar 0 (.int .i64) y2.1.2.1 .dp, ar 0 (.int .i64) y2.1.2.2 .dp, ar 0 (.int .i64) y2.2 .dp, bx [.v (.int .i64) y4.1.1, .hd 5 0 none, .hd 6 0 none] 24, ar 0 (.int .i64) y4.1.2.1 .dp, ar 0 (.int .i64) y4.1.2.2 .dp, ar 0 (.int .i64) y4.2 .dp]⟩) (φ := True ∧ True) (by kernel_rfl) ⟨trivial, trivial⟩ ?_
          refine VO.nil ?_
          show VW _ _ _ _ _ _ _
          refine VW.seq ?_
          refine VW.seq ?_
          refine VW.region ?_
          refine VO.seg T_ok .dp 3 [0, 1, 5, 6, 8, 9, 53] [0, 1, 2, 3, 4, 5, 6, 7] (s' := ⟨[(0, I a0), (1, .lf (.v (.sl (.int .i64)) a1)), (5, .lf (.ptr 0 0 0 0)), (6, .lf (.hd 3 0 none)), (8, .lf (.ptr 4 0 0 0)), (9, .lf (.hd 7 0 none)), (53, B (decide (y13.2 < (0 : Int))))], [bx [.v (.int .i64) y2.1.1, .hd 1 0 none, .hd 2 0 none] 24, ar 0 (.int .i64) y2.1.2.1 .dp, ar 0 (.int .i64) y2.1.2.2 .dp, ar 0 (.int .i64) y2.2 .dp, bx [.v (.int .i64) y4.1.1, .hd 5 0 none, .hd 6 0 none] 24, ar 0 (.int .i64) y4.1.2.1 .dp, ar 0 (.int .i64) y4.1.2.2 .dp, ar 0 (.int .i64) y4.2 .dp]⟩) (φ := True ∧ True ∧ True ∧ True) (by kernel_rfl) ⟨trivial, trivial, trivial, trivial⟩ ?_
          refine VO.splitB 53 (b := (decide (y13.2 < (0 : Int)))) (by kernel_rfl) (fun hb => ?_) (fun hb => ?_)
          · replace h := cond_t h hb; clear hb
            refine VO.seg T_ok .dp 11 [0, 1, 5, 6, 8, 9, 64] [0, 1, 2, 3, 4, 5, 6, 7] (s' := ⟨[(0, I a0), (1, .lf (.v (.sl (.int .i64)) a1)), (5, .lf (.ptr 0 0 0 0)), (6, .lf (.hd 3 0 none)), (8, .lf (.ptr 4 0 0 0)), (9, .lf (.hd 7 0 none)), (64, B true)], [bx [.v (.int .i64) y2.1.1, .hd 1 0 none, .hd 2 0 none] 24, ar 0 (.int .i64) y2.1.2.1 .dp, ar 0 (.int .i64) y2.1.2.2 .dp, ar 0 (.int .i64) y2.2 .dp, bx [.v (.int .i64) y4.1.1, .hd 5 0 none, .hd 6 0 none] 24, ar 0 (.int .i64) y4.1.2.1 .dp, ar 0 (.int .i64) y4.1.2.2 .dp, ar 0 (.int .i64) y4.2 .dp]⟩) (φ := True ∧ True ∧ True ∧ True ∧ True ∧ True ∧ True ∧ True ∧ True ∧ True ∧ True ∧ True) (by kernel_rfl) ⟨trivial, trivial, trivial, trivial, trivial, trivial, trivial, trivial, trivial, trivial, trivial, trivial⟩ ?_
            refine VO.nil ?_
            show VW _ _ _ _ _ _ _
            refine VW.cond (b := true) (by kernel_rfl) (fun _ => ?_) (fun h' => nomatch h')
            refine VW.seq ?_
            refine VW.region ?_
            refine VO.seg T_ok .dp 1 [4] [] (s' := ⟨[(4, B false)], []⟩) (φ := True ∧ True) (by kernel_rfl) ⟨trivial, trivial⟩ ?_
            refine VO.nil ?_
            show VW _ _ _ _ _ _ _
            refine VW.ret ?_
            replace h := Option.some.inj h
            subst h
            exact retR [] (by kernel_rfl) rfl
          · replace h := cond_f h hb; clear hb
            refine VO.seg T_ok .dp 2 [0, 1, 5, 6, 8, 9, 53, 54, 55] [0, 1, 2, 3, 4, 5, 6, 7] (s' := ⟨[(0, I a0), (1, .lf (.v (.sl (.int .i64)) a1)), (5, .lf (.ptr 0 0 0 0)), (6, .lf (.hd 3 0 none)), (8, .lf (.ptr 4 0 0 0)), (9, .lf (.hd 7 0 none)), (53, B false), (54, .agg [.v (.int .i64) y4.1.1, .hd 5 0 none, .hd 6 0 none]), (55, .agg [.v (.int .i64) y2.1.1, .hd 1 0 none, .hd 2 0 none])], [bx [.v (.int .i64) y2.1.1, .hd 1 0 none, .hd 2 0 none] 24, ar 0 (.int .i64) y2.1.2.1 .dp, ar 0 (.int .i64) y2.1.2.2 .dp, ar 0 (.int .i64) y2.2 .dp, bx [.v (.int .i64) y4.1.1, .hd 5 0 none, .hd 6 0 none] 24, ar 0 (.int .i64) y4.1.2.1 .dp, ar 0 (.int .i64) y4.1.2.2 .dp, ar 0 (.int .i64) y4.2 .dp]⟩) (φ := True ∧ True ∧ True) (by kernel_rfl) ⟨trivial, trivial, trivial⟩ ?_
            refine VO.on (j := 2) (want := false) (d := 53) (b := false) rfl rfl rfl (by kernel_rfl) rfl ?_
            obtain ⟨y16, hy, h⟩ := andO_some h
            refine VO.call true [.t Y23, .t Y23] [] T_ok (d := some 56) (by kernel_rfl) (ok16 N _ _ hy) rfl ?_
            refine VO.seg T_ok .dp 3 [0, 1, 5, 6, 8, 9, 59] [0, 1, 2, 3, 4, 5, 6, 7] (s' := ⟨[(0, I a0), (1, .lf (.v (.sl (.int .i64)) a1)), (5, .lf (.ptr 0 0 0 0)), (6, .lf (.hd 3 0 none)), (8, .lf (.ptr 4 0 0 0)), (9, .lf (.hd 7 0 none)), (59, B (!y16))], [bx [.v (.int .i64) y2.1.1, .hd 1 0 none, .hd 2 0 none] 24, ar 0 (.int .i64) y2.1.2.1 .dp, ar 0 (.int .i64) y2.1.2.2 .dp, ar 0 (.int .i64) y2.2 .dp, bx [.v (.int .i64) y4.1.1, .hd 5 0 none, .hd 6 0 none] 24, ar 0 (.int .i64) y4.1.2.1 .dp, ar 0 (.int .i64) y4.1.2.2 .dp, ar 0 (.int .i64) y4.2 .dp]⟩) (φ := True ∧ True ∧ True ∧ True) (by kernel_rfl) ⟨trivial, trivial, trivial, trivial⟩ ?_
            refine VO.splitB 59 (b := (!y16)) (by kernel_rfl) (fun hb => ?_) (fun hb => ?_)
            · replace h := cond_t h hb; clear hb
              refine VO.seg T_ok .dp 5 [0, 1, 5, 6, 8, 9, 64] [0, 1, 2, 3, 4, 5, 6, 7] (s' := ⟨[(0, I a0), (1, .lf (.v (.sl (.int .i64)) a1)), (5, .lf (.ptr 0 0 0 0)), (6, .lf (.hd 3 0 none)), (8, .lf (.ptr 4 0 0 0)), (9, .lf (.hd 7 0 none)), (64, B true)], [bx [.v (.int .i64) y2.1.1, .hd 1 0 none, .hd 2 0 none] 24, ar 0 (.int .i64) y2.1.2.1 .dp, ar 0 (.int .i64) y2.1.2.2 .dp, ar 0 (.int .i64) y2.2 .dp, bx [.v (.int .i64) y4.1.1, .hd 5 0 none, .hd 6 0 none] 24, ar 0 (.int .i64) y4.1.2.1 .dp, ar 0 (.int .i64) y4.1.2.2 .dp, ar 0 (.int .i64) y4.2 .dp]⟩) (φ := True ∧ True ∧ True ∧ True ∧ True ∧ True) (by kernel_rfl) ⟨trivial, trivial, trivial, trivial, trivial, trivial⟩ ?_
              refine VO.nil ?_
              show VW _ _ _ _ _ _ _
              refine VW.cond (b := true) (by kernel_rfl) (fun _ => ?_) (fun h' => nomatch h')
              refine VW.seq ?_
              refine VW.region ?_
              refine VO.seg T_ok .dp 1 [4] [] (s' := ⟨[(4, B false)], []⟩) (φ := True ∧ True) (by kernel_rfl) ⟨trivial, trivial⟩ ?_
              refine VO.nil ?_
              show VW _ _ _ _ _ _ _
              refine VW.ret ?_
              replace h := Option.some.inj h
              subst h
              exact retR [] (by kernel_rfl) rfl
            · replace h := cond_f h hb; clear hb
              refine VO.seg T_ok .dp 2 [0, 1, 5, 6, 8, 9, 59, 60, 61] [0, 1, 2, 3, 4, 5, 6, 7] (s' := ⟨[(0, I a0), (1, .lf (.v (.sl (.int .i64)) a1)), (5, .lf (.ptr 0 0 0 0)), (6, .lf (.hd 3 0 none)), (8, .lf (.ptr 4 0 0 0)), (9, .lf (.hd 7 0 none)), (59, B false), (60, .lf (.hd 7 0 none)), (61, .lf (.hd 3 0 none))], [bx [.v (.int .i64) y2.1.1, .hd 1 0 none, .hd 2 0 none] 24, ar 0 (.int .i64) y2.1.2.1 .dp, ar 0 (.int .i64) y2.1.2.2 .dp, ar 0 (.int .i64) y2.2 .dp, bx [.v (.int .i64) y4.1.1, .hd 5 0 none, .hd 6 0 none] 24, ar 0 (.int .i64) y4.1.2.1 .dp, ar 0 (.int .i64) y4.1.2.2 .dp, ar 0 (.int .i64) y4.2 .dp]⟩) (φ := True ∧ True ∧ True) (by kernel_rfl) ⟨trivial, trivial, trivial⟩ ?_
              refine VO.on (j := 8) (want := false) (d := 59) (b := false) rfl rfl rfl (by kernel_rfl) rfl ?_
              obtain ⟨y17, hy, h⟩ := andO_some h
              refine VO.call true [.t (.sl (.int .i64)), .t (.sl (.int .i64))] [] T_ok (d := some 62) (by kernel_rfl) (ok34 N _ _ hy) rfl ?_
              refine VO.seg T_ok .dp 2 [0, 1, 5, 6, 8, 9, 64] [0, 1, 2, 3, 4, 5, 6, 7] (s' := ⟨[(0, I a0), (1, .lf (.v (.sl (.int .i64)) a1)), (5, .lf (.ptr 0 0 0 0)), (6, .lf (.hd 3 0 none)), (8, .lf (.ptr 4 0 0 0)), (9, .lf (.hd 7 0 none)), (64, B (!y17))], [bx [.v (.int .i64) y2.1.1, .hd 1 0 none, .hd 2 0 none] 24, ar 0 (.int .i64) y2.1.2.1 .dp, ar 0 (.int .i64) y2.1.2.2 .dp, ar 0 (.int .i64) y2.2 .dp, bx [.v (.int .i64) y4.1.1, .hd 5 0 none, .hd 6 0 none] 24, ar 0 (.int .i64) y4.1.2.1 .dp, ar 0 (.int .i64) y4.1.2.2 .dp, ar 0 (.int .i64) y4.2 .dp]⟩) (φ := True ∧ True ∧ True) (by kernel_rfl) ⟨trivial, trivial, trivial⟩ ?_
              refine VO.nil ?_
              show VW _ _ _ _ _ _ _
              refine VW.cond (b := (!y17)) (by kernel_rfl) (fun hb => ?_) (fun hb => ?_)
              · replace h := cond_t h hb; clear hb
                refine VW.seq ?_
                refine VW.region ?_
                refine VO.seg T_ok .dp 1 [4] [] (s' := ⟨[(4, B false)], []⟩) (φ := True ∧ True) (by kernel_rfl) ⟨trivial, trivial⟩ ?_
                refine VO.nil ?_
                show VW _ _ _ _ _ _ _
                refine VW.ret ?_
                replace h := Option.some.inj h
                subst h
                exact retR [] (by kernel_rfl) rfl
              · replace h := cond_f h hb; clear hb
                refine VW.skip ?_
                show VW _ _ _ _ _ _ _
                refine VW.seq ?_
                refine VW.region ?_
                refine VO.seg T_ok .dp 1 [0, 1, 5, 6, 8, 9, 11] [0, 1, 2, 3, 4, 5, 6, 7] (s' := ⟨[(0, I a0), (1, .lf (.v (.sl (.int .i64)) a1)), (5, .lf (.ptr 0 0 0 0)), (6, .lf (.hd 3 0 none)), (8, .lf (.ptr 4 0 0 0)), (9, .lf (.hd 7 0 none)), (11, I (1 : Int))], [bx [.v (.int .i64) y2.1.1, .hd 1 0 none, .hd 2 0 none] 24, ar 0 (.int .i64) y2.1.2.1 .dp, ar 0 (.int .i64) y2.1.2.2 .dp, ar 0 (.int .i64) y2.2 .dp, bx [.v (.int .i64) y4.1.1, .hd 5 0 none, .hd 6 0 none] 24, ar 0 (.int .i64) y4.1.2.1 .dp, ar 0 (.int .i64) y4.1.2.2 .dp, ar 0 (.int .i64) y4.2 .dp]⟩) (φ := True ∧ True) (by kernel_rfl) ⟨trivial, trivial⟩ ?_
                refine VO.nil ?_
                show VW _ _ _ _ _ _ _
                refine VW.seq ?_
                refine VW.region ?_
                refine VO.seg T_ok .dp 2 [0, 1, 5, 6, 8, 9, 65, 66] [0, 1, 2, 3, 4, 5, 6, 7] (s' := ⟨[(0, I a0), (1, .lf (.v (.sl (.int .i64)) a1)), (5, .lf (.ptr 0 0 0 0)), (6, .lf (.hd 3 0 none)), (8, .lf (.ptr 4 0 0 0)), (9, .lf (.hd 7 0 none)), (65, .agg [.v (.int .i64) y4.1.1, .hd 5 0 none, .hd 6 0 none]), (66, I (1 : Int))], [bx [.v (.int .i64) y2.1.1, .hd 1 0 none, .hd 2 0 none] 24, ar 0 (.int .i64) y2.1.2.1 .dp, ar 0 (.int .i64) y2.1.2.2 .dp, ar 0 (.int .i64) y2.2 .dp, bx [.v (.int .i64) y4.1.1, .hd 5 0 none, .hd 6 0 none] 24, ar 0 (.int .i64) y4.1.2.1 .dp, ar 0 (.int .i64) y4.1.2.2 .dp, ar 0 (.int .i64) y4.2 .dp]⟩) (φ := True ∧ True ∧ True) (by kernel_rfl) ⟨trivial, trivial, trivial⟩ ?_
                obtain ⟨y18, hy, h⟩ := andO_some h
                refine VO.callM [5, 6] [.t Y23, .t (.int .i64)] (d := some 67) (by kernel_rfl) (by kernel_rfl) (ok17 N _ _ hy) (by kernel_rfl) ?_
                refine VO.seg T_ok .dp 1 [0, 1, 5, 6, 8, 9, 11] [0, 1, 2, 3, 4, 5, 6, 7] (s' := ⟨[(0, I a0), (1, .lf (.v (.sl (.int .i64)) a1)), (5, .lf (.ptr 0 0 0 0)), (6, .lf (.hd 3 0 none)), (8, .lf (.ptr 4 0 0 0)), (9, .lf (.hd 7 0 none)), (11, I y18.2.2)], [bx [.v (.int .i64) y2.1.1, .hd 1 0 none, .hd 2 0 none] 24, ar 0 (.int .i64) y2.1.2.1 .dp, ar 0 (.int .i64) y2.1.2.2 .dp, ar 0 (.int .i64) y2.2 .dp, bx [.v (.int .i64) y4.1.1, .hd 5 0 none, .hd 6 0 none] 24, ar 0 (.int .i64) y18.1 .dp, ar 0 (.int .i64) y18.2.1 .dp, ar 0 (.int .i64) y4.2 .dp]⟩) (φ := True ∧ True) (by kernel_rfl) ⟨trivial, trivial⟩ ?_
                refine VO.nil ?_
                show VW _ _ _ _ _ _ _
                refine VW.seq ?_
                refine VW.region ?_
                refine VO.seg T_ok .dp 2 [0, 1, 5, 6, 8, 9, 68, 69] [0, 1, 2, 3, 4, 5, 6, 7] (s' := ⟨[(0, I a0), (1, .lf (.v (.sl (.int .i64)) a1)), (5, .lf (.ptr 0 0 0 0)), (6, .lf (.hd 3 0 none)), (8, .lf (.ptr 4 0 0 0)), (9, .lf (.hd 7 0 none)), (68, .lf (.hd 7 0 none)), (69, I y18.2.2)], [bx [.v (.int .i64) y2.1.1, .hd 1 0 none, .hd 2 0 none] 24, ar 0 (.int .i64) y2.1.2.1 .dp, ar 0 (.int .i64) y2.1.2.2 .dp, ar 0 (.int .i64) y2.2 .dp, bx [.v (.int .i64) y4.1.1, .hd 5 0 none, .hd 6 0 none] 24, ar 0 (.int .i64) y18.1 .dp, ar 0 (.int .i64) y18.2.1 .dp, ar 0 (.int .i64) y4.2 .dp]⟩) (φ := True ∧ True ∧ True) (by kernel_rfl) ⟨trivial, trivial, trivial⟩ ?_
                obtain ⟨y19, hy, h⟩ := andO_some h
                refine VO.callM [7] [.t (.sl (.int .i64)), .t (.int .i64)] (d := some 70) (by kernel_rfl) (by kernel_rfl) (ok41 N _ _ hy) (by kernel_rfl) ?_
                refine VO.seg T_ok .dp 1 [0, 1, 5, 6, 8, 9, 11] [0, 1, 2, 3, 4, 5, 6, 7] (s' := ⟨[(0, I a0), (1, .lf (.v (.sl (.int .i64)) a1)), (5, .lf (.ptr 0 0 0 0)), (6, .lf (.hd 3 0 none)), (8, .lf (.ptr 4 0 0 0)), (9, .lf (.hd 7 0 none)), (11, I y19.2)], [bx [.v (.int .i64) y2.1.1, .hd 1 0 none, .hd 2 0 none] 24, ar 0 (.int .i64) y2.1.2.1 .dp, ar 0 (.int .i64) y2.1.2.2 .dp, ar 0 (.int .i64) y2.2 .dp, bx [.v (.int .i64) y4.1.1, .hd 5 0 none, .hd 6 0 none] 24, ar 0 (.int .i64) y18.1 .dp, ar 0 (.int .i64) y18.2.1 .dp, ar 0 (.int .i64) y19.1 .dp]⟩) (φ := True ∧ True) (by kernel_rfl) ⟨trivial, trivial⟩ ?_
                refine VO.nil ?_
                show VW _ _ _ _ _ _ _
                refine VW.seq ?_
                refine VW.region ?_
                refine VO.seg T_ok .dp 1 [0, 1, 5, 6, 8, 9, 11, 12] [0, 1, 2, 3, 4, 5, 6, 7] (s' := ⟨[(0, I a0), (1, .lf (.v (.sl (.int .i64)) a1)), (5, .lf (.ptr 0 0 0 0)), (6, .lf (.hd 3 0 none)), (8, .lf (.ptr 4 0 0 0)), (9, .lf (.hd 7 0 none)), (11, I y19.2), (12, I (1 : Int))], [bx [.v (.int .i64) y2.1.1, .hd 1 0 none, .hd 2 0 none] 24, ar 0 (.int .i64) y2.1.2.1 .dp, ar 0 (.int .i64) y2.1.2.2 .dp, ar 0 (.int .i64) y2.2 .dp, bx [.v (.int .i64) y4.1.1, .hd 5 0 none, .hd 6 0 none] 24, ar 0 (.int .i64) y18.1 .dp, ar 0 (.int .i64) y18.2.1 .dp, ar 0 (.int .i64) y19.1 .dp]⟩) (φ := True ∧ True) (by kernel_rfl) ⟨trivial, trivial⟩ ?_
                refine VO.nil ?_
                show VW _ _ _ _ _ _ _
                refine VW.seq ?_
                refine VW.region ?_
                refine VO.seg T_ok .dp 2 [0, 1, 5, 6, 8, 9, 11, 71, 72] [0, 1, 2, 3, 4, 5, 6, 7] (s' := ⟨[(0, I a0), (1, .lf (.v (.sl (.int .i64)) a1)), (5, .lf (.ptr 0 0 0 0)), (6, .lf (.hd 3 0 none)), (8, .lf (.ptr 4 0 0 0)), (9, .lf (.hd 7 0 none)), (11, I y19.2), (71, .agg [.v (.int .i64) y4.1.1, .hd 5 0 none, .hd 6 0 none]), (72, I (1 : Int))], [bx [.v (.int .i64) y2.1.1, .hd 1 0 none, .hd 2 0 none] 24, ar 0 (.int .i64) y2.1.2.1 .dp, ar 0 (.int .i64) y2.1.2.2 .dp, ar 0 (.int .i64) y2.2 .dp, bx [.v (.int .i64) y4.1.1, .hd 5 0 none, .hd 6 0 none] 24, ar 0 (.int .i64) y18.1 .dp, ar 0 (.int .i64) y18.2.1 .dp, ar 0 (.int .i64) y19.1 .dp]⟩) (φ := True ∧ True ∧ True) (by kernel_rfl) ⟨trivial, trivial, trivial⟩ ?_
                obtain ⟨y20, hy, h⟩ := andO_some h
                refine VO.call true [.t Y23, .t (.int .i64)] [] T_ok (d := some 73) (by kernel_rfl) (ok18 N _ _ hy) rfl ?_
                refine VO.seg T_ok .dp 1 [0, 1, 5, 6, 8, 9, 11, 12] [0, 1, 2, 3, 4, 5, 6, 7] (s' := ⟨[(0, I a0), (1, .lf (.v (.sl (.int .i64)) a1)), (5, .lf (.ptr 0 0 0 0)), (6, .lf (.hd 3 0 none)), (8, .lf (.ptr 4 0 0 0)), (9, .lf (.hd 7 0 none)), (11, I y19.2), (12, I y20)], [bx [.v (.int .i64) y2.1.1, .hd 1 0 none, .hd 2 0 none] 24, ar 0 (.int .i64) y2.1.2.1 .dp, ar 0 (.int .i64) y2.1.2.2 .dp, ar 0 (.int .i64) y2.2 .dp, bx [.v (.int .i64) y4.1.1, .hd 5 0 none, .hd 6 0 none] 24, ar 0 (.int .i64) y18.1 .dp, ar 0 (.int .i64) y18.2.1 .dp, ar 0 (.int .i64) y19.1 .dp]⟩) (φ := True ∧ True) (by kernel_rfl) ⟨trivial, trivial⟩ ?_
                refine VO.nil ?_
                show VW _ _ _ _ _ _ _
                refine VW.seq ?_
                refine VW.seq ?_
                refine VW.region ?_
                refine VO.seg T_ok .dp 2 [0, 1, 5, 6, 8, 9, 11, 12, 75] [0, 1, 2, 3, 4, 5, 6, 7] (s' := ⟨[(0, I a0), (1, .lf (.v (.sl (.int .i64)) a1)), (5, .lf (.ptr 0 0 0 0)), (6, .lf (.hd 3 0 none)), (8, .lf (.ptr 4 0 0 0)), (9, .lf (.hd 7 0 none)), (11, I y19.2), (12, I y20), (75, B (decide (y20 < (0 : Int))))], [bx [.v (.int .i64) y2.1.1, .hd 1 0 none, .hd 2 0 none] 24, ar 0 (.int .i64) y2.1.2.1 .dp, ar 0 (.int .i64) y2.1.2.2 .dp, ar 0 (.int .i64) y2.2 .dp, bx [.v (.int .i64) y4.1.1, .hd 5 0 none, .hd 6 0 none] 24, ar 0 (.int .i64) y18.1 .dp, ar 0 (.int .i64) y18.2.1 .dp, ar 0 (.int .i64) y19.1 .dp]⟩) (φ := True ∧ True ∧ True) (by kernel_rfl) ⟨trivial, trivial, trivial⟩ ?_
                refine VO.nil ?_
                show VW _ _ _ _ _ _ _
                refine VW.cond (b := (decide (y20 < (0 : Int)))) (by kernel_rfl) (fun hb => ?_) (fun hb => ?_)
                · replace h := cond_t h hb; clear hb
                  refine VW.seq ?_
                  refine VW.region ?_
                  refine VO.seg T_ok .dp 1 [4] [] (s' := ⟨[(4, B false)], []⟩) (φ := True ∧ True) (by kernel_rfl) ⟨trivial, trivial⟩ ?_
                  refine VO.nil ?_
                  show VW _ _ _ _ _ _ _
                  refine VW.ret ?_
                  replace h := Option.some.inj h
                  subst h
                  exact retR [] (by kernel_rfl) rfl
                · replace h := cond_f h hb; clear hb
                  refine VW.skip ?_
                  show VW _ _ _ _ _ _ _
                  refine VW.seq ?_
                  refine VW.region ?_
                  refine VO.seg T_ok .dp 2 [0, 1, 5, 6, 8, 9, 11, 76, 77] [0, 1, 2, 3, 4, 5, 6, 7] (s' := ⟨[(0, I a0), (1, .lf (.v (.sl (.int .i64)) a1)), (5, .lf (.ptr 0 0 0 0)), (6, .lf (.hd 3 0 none)), (8, .lf (.ptr 4 0 0 0)), (9, .lf (.hd 7 0 none)), (11, I y19.2), (76, .lf (.hd 7 0 none)), (77, I y20)], [bx [.v (.int .i64) y2.1.1, .hd 1 0 none, .hd 2 0 none] 24, ar 0 (.int .i64) y2.1.2.1 .dp, ar 0 (.int .i64) y2.1.2.2 .dp, ar 0 (.int .i64) y2.2 .dp, bx [.v (.int .i64) y4.1.1, .hd 5 0 none, .hd 6 0 none] 24, ar 0 (.int .i64) y18.1 .dp, ar 0 (.int .i64) y18.2.1 .dp, ar 0 (.int .i64) y19.1 .dp]⟩) (φ := True ∧ True ∧ True) (by kernel_rfl) ⟨trivial, trivial, trivial⟩ ?_
                  obtain ⟨y21, hy, h⟩ := andO_some h
                  refine VO.call true [.t (.sl (.int .i64)), .t (.int .i64)] [] T_ok (d := some 78) (by kernel_rfl) (ok42 N _ _ hy) rfl ?_
                  refine VO.seg T_ok .dp 1 [0, 1, 5, 6, 8, 9, 11, 12] [0, 1, 2, 3, 4, 5, 6, 7] (s' := ⟨[(0, I a0), (1, .lf (.v (.sl (.int .i64)) a1)), (5, .lf (.ptr 0 0 0 0)), (6, .lf (.hd 3 0 none)), (8, .lf (.ptr 4 0 0 0)), (9, .lf (.hd 7 0 none)), (11, I y19.2), (12, I y21)], [bx [.v (.int .i64) y2.1.1, .hd 1 0 none, .hd 2 0 none] 24, ar 0 (.int .i64) y2.1.2.1 .dp, ar 0 (.int .i64) y2.1.2.2 .dp, ar 0 (.int .i64) y2.2 .dp, bx [.v (.int .i64) y4.1.1, .hd 5 0 none, .hd 6 0 none] 24, ar 0 (.int .i64) y18.1 .dp, ar 0 (.int .i64) y18.2.1 .dp, ar 0 (.int .i64) y19.1 .dp]⟩) (φ := True ∧ True) (by kernel_rfl) ⟨trivial, trivial⟩ ?_
                  refine VO.nil ?_
                  show VW _ _ _ _ _ _ _
                  refine VW.seq ?_
                  refine VW.seq ?_
                  refine VW.region ?_
                  refine VO.seg T_ok .dp 2 [0, 1, 5, 6, 8, 9, 11, 12, 80] [0, 1, 2, 3, 4, 5, 6, 7] (s' := ⟨[(0, I a0), (1, .lf (.v (.sl (.int .i64)) a1)), (5, .lf (.ptr 0 0 0 0)), (6, .lf (.hd 3 0 none)), (8, .lf (.ptr 4 0 0 0)), (9, .lf (.hd 7 0 none)), (11, I y19.2), (12, I y21), (80, B (decide (y21 < (0 : Int))))], [bx [.v (.int .i64) y2.1.1, .hd 1 0 none, .hd 2 0 none] 24, ar 0 (.int .i64) y2.1.2.1 .dp, ar 0 (.int .i64) y2.1.2.2 .dp, ar 0 (.int .i64) y2.2 .dp, bx [.v (.int .i64) y4.1.1, .hd 5 0 none, .hd 6 0 none] 24, ar 0 (.int .i64) y18.1 .dp, ar 0 (.int .i64) y18.2.1 .dp, ar 0 (.int .i64) y19.1 .dp]⟩) (φ := True ∧ True ∧ True) (by kernel_rfl) ⟨trivial, trivial, trivial⟩ ?_
                  refine VO.nil ?_
                  show VW _ _ _ _ _ _ _
                  refine VW.cond (b := (decide (y21 < (0 : Int)))) (by kernel_rfl) (fun hb => ?_) (fun hb => ?_)
                  · replace h := cond_t h hb; clear hb
                    refine VW.seq ?_
                    refine VW.region ?_
                    refine VO.seg T_ok .dp 1 [4] [] (s' := ⟨[(4, B false)], []⟩) (φ := True ∧ True) (by kernel_rfl) ⟨trivial, trivial⟩ ?_
                    refine VO.nil ?_
                    show VW _ _ _ _ _ _ _
                    refine VW.ret ?_
                    replace h := Option.some.inj h
                    subst h
                    exact retR [] (by kernel_rfl) rfl
                  · replace h := cond_f h hb; clear hb
                    refine VW.skip ?_
                    show VW _ _ _ _ _ _ _
                    refine VW.seq ?_
                    refine VW.seq ?_
                    refine VW.region ?_
                    refine VO.seg T_ok .dp 3 [0, 1, 5, 6, 8, 9, 11, 83] [0, 1, 2, 3, 4, 5, 6, 7] (s' := ⟨[(0, I a0), (1, .lf (.v (.sl (.int .i64)) a1)), (5, .lf (.ptr 0 0 0 0)), (6, .lf (.hd 3 0 none)), (8, .lf (.ptr 4 0 0 0)), (9, .lf (.hd 7 0 none)), (11, I y19.2), (83, B (y21 != y19.2))], [bx [.v (.int .i64) y2.1.1, .hd 1 0 none, .hd 2 0 none] 24, ar 0 (.int .i64) y2.1.2.1 .dp, ar 0 (.int .i64) y2.1.2.2 .dp, ar 0 (.int .i64) y2.2 .dp, bx [.v (.int .i64) y4.1.1, .hd 5 0 none, .hd 6 0 none] 24, ar 0 (.int .i64) y18.1 .dp, ar 0 (.int .i64) y18.2.1 .dp, ar 0 (.int .i64) y19.1 .dp]⟩) (φ := True ∧ True ∧ True ∧ True) (by kernel_rfl) ⟨trivial, trivial, trivial, trivial⟩ ?_
                    refine VO.nil ?_
                    show VW _ _ _ _ _ _ _
                    refine VW.cond (b := (y21 != y19.2)) (by kernel_rfl) (fun hb => ?_) (fun hb => ?_)
                    · replace h := cond_t h hb; clear hb
                      refine VW.seq ?_
                      refine VW.region ?_
                      refine VO.seg T_ok .dp 1 [4] [] (s' := ⟨[(4, B false)], []⟩) (φ := True ∧ True) (by kernel_rfl) ⟨trivial, trivial⟩ ?_
                      refine VO.nil ?_
                      show VW _ _ _ _ _ _ _
                      refine VW.ret ?_
                      replace h := Option.some.inj h
                      subst h
                      exact retR [] (by kernel_rfl) rfl
                    · replace h := cond_f h hb; clear hb
                      refine VW.skip ?_
                      show VW _ _ _ _ _ _ _
                      refine VW.seq ?_
                      refine VW.region ?_
                      refine VO.seg T_ok .dp 2 [5, 6, 8, 9, 11, 85, 86] [0, 1, 2, 3, 4, 5, 6, 7] (s' := ⟨[(5, .lf (.ptr 0 0 0 0)), (6, .lf (.hd 3 0 none)), (8, .lf (.ptr 4 0 0 0)), (9, .lf (.hd 7 0 none)), (11, I y19.2), (85, I a0), (86, .lf (.v (.sl (.int .i64)) a1))], [bx [.v (.int .i64) y2.1.1, .hd 1 0 none, .hd 2 0 none] 24, ar 0 (.int .i64) y2.1.2.1 .dp, ar 0 (.int .i64) y2.1.2.2 .dp, ar 0 (.int .i64) y2.2 .dp, bx [.v (.int .i64) y4.1.1, .hd 5 0 none, .hd 6 0 none] 24, ar 0 (.int .i64) y18.1 .dp, ar 0 (.int .i64) y18.2.1 .dp, ar 0 (.int .i64) y19.1 .dp]⟩) (φ := True ∧ True ∧ True) (by kernel_rfl) ⟨trivial, trivial, trivial⟩ ?_
                      obtain ⟨y22, hy, h⟩ := andO_some h
                      refine VO.call false [.t (.sl (.int .i64))] [] T_ok (d := some 87) (by kernel_rfl) (ok32 N _ hy) rfl ?_
                      obtain ⟨y23, hy, h⟩ := andO_some h
                      refine VO.call true [.t (.int .i64), .t (.sl (.int .i64))] [] T_ok (d := some 88) (by kernel_rfl) (ok40 N _ _ hy) rfl ?_
                      refine VO.seg T_ok .dp 6 [5, 6, 8, 9, 11, 13, 14] [0, 1, 2, 3, 4, 5, 6, 7, 12, 9, 10, 11] (s' := ⟨[(5, .lf (.ptr 0 0 0 0)), (6, .lf (.hd 3 0 none)), (8, .lf (.ptr 4 0 0 0)), (9, .lf (.hd 7 0 none)), (11, I y19.2), (13, .lf (.ptr 8 0 0 0)), (14, .lf (.hd 11 0 none))], [bx [.v (.int .i64) y2.1.1, .hd 1 0 none, .hd 2 0 none] 24, ar 0 (.int .i64) y2.1.2.1 .dp, ar 0 (.int .i64) y2.1.2.2 .dp, ar 0 (.int .i64) y2.2 .dp, bx [.v (.int .i64) y4.1.1, .hd 5 0 none, .hd 6 0 none] 24, ar 0 (.int .i64) y18.1 .dp, ar 0 (.int .i64) y18.2.1 .dp, ar 0 (.int .i64) y19.1 .dp, bx [.v (.int .i64) y23.1.1, .hd 9 0 none, .hd 10 0 none] 24, ar 0 (.int .i64) y23.1.2.1 .dp, ar 0 (.int .i64) y23.1.2.2 .dp, ar 0 (.int .i64) y23.2 .dp]⟩) (φ := True ∧ True ∧ True ∧ True ∧ True ∧ True ∧ True) (by kernel_rfl) ⟨trivial, trivial, trivial, trivial, trivial, trivial, trivial⟩ ?_
                      refine VO.nil ?_
                      show VW _ _ _ _ _ _ _
                      refine VW.seq ?_
                      refine VW.seq ?_
                      refine VW.region ?_
                      refine VO.seg T_ok .dp 2 [6, 8, 9, 11, 14, 91, 92] [3, 4, 5, 6, 7, 11, 9, 10, 1, 2] (s' := ⟨[(6, .lf (.hd 0 0 none)), (8, .lf (.ptr 1 0 0 0)), (9, .lf (.hd 4 0 none)), (11, I y19.2), (14, .lf (.hd 5 0 none)), (91, .agg [.v (.int .i64) y23.1.1, .hd 6 0 none, .hd 7 0 none]), (92, .agg [.v (.int .i64) y2.1.1, .hd 8 0 none, .hd 9 0 none])], [ar 0 (.int .i64) y2.2 .dp, bx [.v (.int .i64) y4.1.1, .hd 2 0 none, .hd 3 0 none] 24, ar 0 (.int .i64) y18.1 .dp, ar 0 (.int .i64) y18.2.1 .dp, ar 0 (.int .i64) y19.1 .dp, ar 0 (.int .i64) y23.2 .dp, ar 0 (.int .i64) y23.1.2.1 .dp, ar 0 (.int .i64) y23.1.2.2 .dp, ar 0 (.int .i64) y2.1.2.1 .dp, ar 0 (.int .i64) y2.1.2.2 .dp]⟩) (φ := True ∧ True ∧ True) (by kernel_rfl) ⟨trivial, trivial, trivial⟩ ?_
                      obtain ⟨y26, hy, h⟩ := andO_some h
                      refine VO.call true [.t Y23, .t Y23] [] T_ok (d := some 93) (by kernel_rfl) (ok16 N _ _ hy) rfl ?_
                      refine VO.seg T_ok .dp 2 [6, 8, 9, 11, 14, 95] [0, 1, 2, 3, 4, 5] (s' := ⟨[(6, .lf (.hd 0 0 none)), (8, .lf (.ptr 1 0 0 0)), (9, .lf (.hd 4 0 none)), (11, I y19.2), (14, .lf (.hd 5 0 none)), (95, B (!y26))], [ar 0 (.int .i64) y2.2 .dp, bx [.v (.int .i64) y4.1.1, .hd 2 0 none, .hd 3 0 none] 24, ar 0 (.int .i64) y18.1 .dp, ar 0 (.int .i64) y18.2.1 .dp, ar 0 (.int .i64) y19.1 .dp, ar 0 (.int .i64) y23.2 .dp]⟩) (φ := True ∧ True ∧ True) (by kernel_rfl) ⟨trivial, trivial, trivial⟩ ?_
                      refine VO.splitB 95 (b := (!y26)) (by kernel_rfl) (fun hb => ?_) (fun hb => ?_)
                      · replace h := cond_t h hb; clear hb
                        refine VO.seg T_ok .dp 5 [8, 9, 11, 100] [1, 2, 3, 4] (s' := ⟨[(8, .lf (.ptr 0 0 0 0)), (9, .lf (.hd 3 0 none)), (11, I y19.2), (100, B true)], [bx [.v (.int .i64) y4.1.1, .hd 1 0 none, .hd 2 0 none] 24, ar 0 (.int .i64) y18.1 .dp, ar 0 (.int .i64) y18.2.1 .dp, ar 0 (.int .i64) y19.1 .dp]⟩) (φ := True ∧ True ∧ True ∧ True ∧ True ∧ True) (by kernel_rfl) ⟨trivial, trivial, trivial, trivial, trivial, trivial⟩ ?_
                        refine VO.nil ?_
                        show VW _ _ _ _ _ _ _
                        refine VW.cond (b := true) (by kernel_rfl) (fun _ => ?_) (fun h' => nomatch h')
                        refine VW.seq ?_
                        refine VW.region ?_
                        refine VO.seg T_ok .dp 1 [4] [] (s' := ⟨[(4, B false)], []⟩) (φ := True ∧ True) (by kernel_rfl) ⟨trivial, trivial⟩ ?_
                        refine VO.nil ?_
                        show VW _ _ _ _ _ _ _
                        refine VW.ret ?_
                        replace h := Option.some.inj h
                        subst h
                        exact retR [] (by kernel_rfl) rfl
                      · replace h := cond_f h hb; clear hb
                        refine VO.seg T_ok .dp 2 [8, 9, 11, 95, 96, 97] [1, 2, 3, 4, 5, 0] (s' := ⟨[(8, .lf (.ptr 0 0 0 0)), (9, .lf (.hd 3 0 none)), (11, I y19.2), (95, B false), (96, .lf (.hd 4 0 none)), (97, .lf (.hd 5 0 none))], [bx [.v (.int .i64) y4.1.1, .hd 1 0 none, .hd 2 0 none] 24, ar 0 (.int .i64) y18.1 .dp, ar 0 (.int .i64) y18.2.1 .dp, ar 0 (.int .i64) y19.1 .dp, ar 0 (.int .i64) y23.2 .dp, ar 0 (.int .i64) y2.2 .dp]⟩) (φ := True ∧ True ∧ True) (by kernel_rfl) ⟨trivial, trivial, trivial⟩ ?_
                        refine VO.on (j := 4) (want := false) (d := 95) (b := false) rfl rfl rfl (by kernel_rfl) rfl ?_
                        obtain ⟨y27, hy, h⟩ := andO_some h
                        refine VO.call true [.t (.sl (.int .i64)), .t (.sl (.int .i64))] [] T_ok (d := some 98) (by kernel_rfl) (ok34 N _ _ hy) rfl ?_
                        refine VO.seg T_ok .dp 2 [8, 9, 11, 100] [0, 1, 2, 3] (s' := ⟨[(8, .lf (.ptr 0 0 0 0)), (9, .lf (.hd 3 0 none)), (11, I y19.2), (100, B (!y27))], [bx [.v (.int .i64) y4.1.1, .hd 1 0 none, .hd 2 0 none] 24, ar 0 (.int .i64) y18.1 .dp, ar 0 (.int .i64) y18.2.1 .dp, ar 0 (.int .i64) y19.1 .dp]⟩) (φ := True ∧ True ∧ True) (by kernel_rfl) ⟨trivial, trivial, trivial⟩ ?_
                        refine VO.nil ?_
                        show VW _ _ _ _ _ _ _
                        refine VW.cond (b := (!y27)) (by kernel_rfl) (fun hb => ?_) (fun hb => ?_)
                        · replace h := cond_t h hb; clear hb
                          refine VW.seq ?_
                          refine VW.region ?_
                          refine VO.seg T_ok .dp 1 [4] [] (s' := ⟨[(4, B false)], []⟩) (φ := True ∧ True) (by kernel_rfl) ⟨trivial, trivial⟩ ?_
                          refine VO.nil ?_
                          show VW _ _ _ _ _ _ _
                          refine VW.ret ?_
                          replace h := Option.some.inj h
                          subst h
                          exact retR [] (by kernel_rfl) rfl
                        · replace h := cond_f h hb; clear hb
                          refine VW.skip ?_
                          show VW _ _ _ _ _ _ _
                          refine VW.seq ?_
                          refine VW.region ?_
                          refine VO.seg T_ok .dp 1 [8, 9, 11, 12] [0, 1, 2, 3] (s' := ⟨[(8, .lf (.ptr 0 0 0 0)), (9, .lf (.hd 3 0 none)), (11, I y19.2), (12, I (1 : Int))], [bx [.v (.int .i64) y4.1.1, .hd 1 0 none, .hd 2 0 none] 24, ar 0 (.int .i64) y18.1 .dp, ar 0 (.int .i64) y18.2.1 .dp, ar 0 (.int .i64) y19.1 .dp]⟩) (φ := True ∧ True) (by kernel_rfl) ⟨trivial, trivial⟩ ?_
                          refine VO.nil ?_
                          show VW _ _ _ _ _ _ _
                          refine VW.seq ?_
                          refine VW.region ?_
                          refine VO.seg T_ok .dp 2 [9, 11, 101, 102] [3, 1, 2] (s' := ⟨[(9, .lf (.hd 0 0 none)), (11, I y19.2), (101, .agg [.v (.int .i64) y4.1.1, .hd 1 0 none, .hd 2 0 none]), (102, I (1 : Int))], [ar 0 (.int .i64) y19.1 .dp, ar 0 (.int .i64) y18.1 .dp, ar 0 (.int .i64) y18.2.1 .dp]⟩) (φ := True ∧ True ∧ True) (by kernel_rfl) ⟨trivial, trivial, trivial⟩ ?_
                          obtain ⟨y28, hy, h⟩ := andO_some h
                          refine VO.call true [.t Y23, .t (.int .i64)] [] T_ok (d := some 103) (by kernel_rfl) (ok18 N _ _ hy) rfl ?_
                          refine VO.seg T_ok .dp 1 [9, 11, 12] [0] (s' := ⟨[(9, .lf (.hd 0 0 none)), (11, I y19.2), (12, I y28)], [ar 0 (.int .i64) y19.1 .dp]⟩) (φ := True ∧ True) (by kernel_rfl) ⟨trivial, trivial⟩ ?_
                          refine VO.nil ?_
                          show VW _ _ _ _ _ _ _
                          refine VW.seq ?_
                          refine VW.seq ?_
                          refine VW.region ?_
                          refine VO.seg T_ok .dp 2 [9, 11, 12, 105] [0] (s' := ⟨[(9, .lf (.hd 0 0 none)), (11, I y19.2), (12, I y28), (105, B (decide (y28 < (0 : Int))))], [ar 0 (.int .i64) y19.1 .dp]⟩) (φ := True ∧ True ∧ True) (by kernel_rfl) ⟨trivial, trivial, trivial⟩ ?_
                          refine VO.nil ?_
                          show VW _ _ _ _ _ _ _
                          refine VW.cond (b := (decide (y28 < (0 : Int)))) (by kernel_rfl) (fun hb => ?_) (fun hb => ?_)
                          · replace h := cond_t h hb; clear hb
                            refine VW.seq ?_
                            refine VW.region ?_
                            refine VO.seg T_ok .dp 1 [4] [] (s' := ⟨[(4, B false)], []⟩) (φ := True ∧ True) (by kernel_rfl) ⟨trivial, trivial⟩ ?_
                            refine VO.nil ?_
                            show VW _ _ _ _ _ _ _
                            refine VW.ret ?_
                            replace h := Option.some.inj h
                            subst h
                            exact retR [] (by kernel_rfl) rfl
                          · replace h := cond_f h hb; clear hb
                            refine VW.skip ?_
                            show VW _ _ _ _ _ _ _
                            refine VW.seq ?_
                            refine VW.region ?_
                            refine VO.seg T_ok .dp 2 [11, 106, 107] [0] (s' := ⟨[(11, I y19.2), (106, .lf (.hd 0 0 none)), (107, I y28)], [ar 0 (.int .i64) y19.1 .dp]⟩) (φ := True ∧ True ∧ True) (by kernel_rfl) ⟨trivial, trivial, trivial⟩ ?_
                            obtain ⟨y29, hy, h⟩ := andO_some h
                            refine VO.call true [.t (.sl (.int .i64)), .t (.int .i64)] [] T_ok (d := some 108) (by kernel_rfl) (ok42 N _ _ hy) rfl ?_
                            refine VO.seg T_ok .dp 1 [11, 12] [] (s' := ⟨[(11, I y19.2), (12, I y29)], []⟩) (φ := True ∧ True) (by kernel_rfl) ⟨trivial, trivial⟩ ?_
                            refine VO.nil ?_
                            show VW _ _ _ _ _ _ _
                            refine VW.seq ?_
                            refine VW.seq ?_
                            refine VW.region ?_
                            refine VO.seg T_ok .dp 2 [11, 12, 110] [] (s' := ⟨[(11, I y19.2), (12, I y29), (110, B (decide (y29 < (0 : Int))))], []⟩) (φ := True ∧ True ∧ True) (by kernel_rfl) ⟨trivial, trivial, trivial⟩ ?_
                            refine VO.nil ?_
                            show VW _ _ _ _ _ _ _
                            refine VW.cond (b := (decide (y29 < (0 : Int)))) (by kernel_rfl) (fun hb => ?_) (fun hb => ?_)
                            · replace h := cond_t h hb; clear hb
                              refine VW.seq ?_
                              refine VW.region ?_
                              refine VO.seg T_ok .dp 1 [4] [] (s' := ⟨[(4, B false)], []⟩) (φ := True ∧ True) (by kernel_rfl) ⟨trivial, trivial⟩ ?_
                              refine VO.nil ?_
                              show VW _ _ _ _ _ _ _
                              refine VW.ret ?_
                              replace h := Option.some.inj h
                              subst h
                              exact retR [] (by kernel_rfl) rfl
                            · replace h := cond_f h hb; clear hb
                              refine VW.skip ?_
                              show VW _ _ _ _ _ _ _
                              refine VW.seq ?_
                              refine VW.seq ?_
                              refine VW.region ?_
                              refine VO.seg T_ok .dp 3 [113] [] (s' := ⟨[(113, B (y29 != y19.2))], []⟩) (φ := True ∧ True ∧ True ∧ True) (by kernel_rfl) ⟨trivial, trivial, trivial, trivial⟩ ?_
                              refine VO.nil ?_
                              show VW _ _ _ _ _ _ _
                              refine VW.cond (b := (y29 != y19.2)) (by kernel_rfl) (fun hb => ?_) (fun hb => ?_)
                              · replace h := cond_t h hb; clear hb
                                refine VW.seq ?_
                                refine VW.region ?_
                                refine VO.seg T_ok .dp 1 [4] [] (s' := ⟨[(4, B false)], []⟩) (φ := True ∧ True) (by kernel_rfl) ⟨trivial, trivial⟩ ?_
                                refine VO.nil ?_
                                show VW _ _ _ _ _ _ _
                                refine VW.ret ?_
                                replace h := Option.some.inj h
                                subst h
                                exact retR [] (by kernel_rfl) rfl
                              · replace h := cond_f h hb; clear hb
                                refine VW.skip ?_
                                show VW _ _ _ _ _ _ _
                                refine VW.seq ?_
                                refine VW.region ?_
                                refine VO.seg T_ok .dp 1 [4] [] (s' := ⟨[(4, B true)], []⟩) (φ := True ∧ True) (by kernel_rfl) ⟨trivial, trivial⟩ ?_
                                refine VO.nil ?_
                                show VW _ _ _ _ _ _ _
                                refine VW.ret ?_
                                replace h := Option.some.inj h
                                subst h
                                exact retR [] (by kernel_rfl) rfl

end Go.Proofs.Ytcipgfjhodgncaa.Vc
