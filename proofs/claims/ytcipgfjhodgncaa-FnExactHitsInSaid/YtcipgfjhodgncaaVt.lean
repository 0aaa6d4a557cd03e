/- What functions of the program compute, and that they do. -/
import Derived.Test.YtcipgfjhodgncaaVt0
namespace Go.Proofs.Ytcipgfjhodgncaa.Vc
open Go Go.RowKit
set_option linter.unusedVariables false
set_option maxRecDepth 100000
set_option maxHeartbeats 4000000
/- loop.example/g00844/spec.HitsIn -/
def F31_j0 (N : Nat) (x77 : Int) : Option (Int) :=
  some x77
def F31_j1 (N : Nat) (nx131 : Int → (List Int) → (List Int) → Int → Int → Option (Int)) (x108 : Int) (x147 : Int) (x148 : Int) (x149 : (List Int)) (x150 : (List Int)) : Option (Int) :=
  nx131 x148 x149 x150 x147 (IntKind.i64.wrap (x108 + (1 : Int)))
def F31_l0_b (N : Nat) (a1 : (List Int)) (nx131 : Int → (List Int) → (List Int) → Int → Int → Option (Int)) (x104 : Int) (x105 : (List Int)) (x106 : (List Int)) (x107 : Int) (x108 : Int) : Option (Int) :=
  cond (decide (x108 < (a1.length : Int))) (gd (InR x108 a1.length) (andO (F35 N (x104, (x105, x106)) (a1.getD x108.toNat (Ty.dflt (.int .i64)))) fun y144 => cond y144.2.2 (F31_j1 N nx131 x108 (IntKind.i64.wrap (x107 + (1 : Int))) y144.1.1 y144.1.2.1 y144.1.2.2) (gd (InR x108 a1.length) (andO (F37 N (x104, (x105, x106)) (a1.getD x108.toNat (Ty.dflt (.int .i64))) (0 : Int)) fun y153 => F31_j1 N nx131 x108 x107 y153.1.1 y153.1.2.1 y153.1.2.2)))) (F31_j0 N x107)
def F31_l0 (N : Nat) (a1 : (List Int)) : Nat → Int → (List Int) → (List Int) → Int → Int → Option (Int) := loopF (F31_l0_b N a1) (fun _ _ _ _ _ => none)
theorem F31_l0_s (N : Nat) (a1 : (List Int)) {k : Nat} (hk : 0 < k) (x104 : Int) (x105 : (List Int)) (x106 : (List Int)) (x107 : Int) (x108 : Int) : F31_l0 N a1 k x104 x105 x106 x107 x108 = F31_l0_b N a1 (F31_l0 N a1 (k - 1)) x104 x105 x106 x107 x108 := by
  cases k with
  | zero => exact absurd hk (Nat.lt_irrefl 0)
  | succ m => rfl
def F31 (N : Nat) (a0 : Int) (a1 : (List Int)) : Option (Int) :=
  andO (F14 N a0) fun y1 => cond (!y1.2) (some (-1 : Int)) (cond (decide ((a1.length : Int) > (300 : Int))) (some (-1 : Int)) (F31_l0 N a1 N y1.1.1 y1.1.2.1 y1.1.2.2 (0 : Int) (0 : Int)))
theorem ok31 (N : Nat) (a0 : Int) (a1 : (List Int)) {r : Int} (h : F31 N a0 a1 = some r) : Con Go.Proofs.Try.prog 31 [I a0, .lf (.v (.sl (.int .i64)) a1)] [.lf (.v (.int .i64) r)] := by
  refine ⟨enters_of Go.Proofs.Try.func31 rfl (by decide), HC.intro [.lf (.v (.int .i64))] T_ok Go.Proofs.Try.func31 rfl (Nat.le_of_ble_eq_true rfl) (Nat.le_of_ble_eq_true rfl) fun w0 E0 => ?_⟩
  unfold F31 at h
  show VW _ _ _ _ _ (retQ _ _ _ _) _
  refine VW.seq ?_
  refine VW.region ?_
  refine VO.seg T_ok .dp 1 [0, 1] [] (s' := ⟨[(0, I a0), (1, .lf (.v (.sl (.int .i64)) a1))], []⟩) (φ := True ∧ True) (by kernel_rfl) ⟨trivial, trivial⟩ ?_
  refine VO.nil ?_
  show VW _ _ _ _ _ _ _
  refine VW.seq ?_
  refine VW.region ?_
  refine VO.seg T_ok .dp 1 [1, 13] [] (s' := ⟨[(1, .lf (.v (.sl (.int .i64)) a1)), (13, I a0)], []⟩) (φ := True ∧ True) (by kernel_rfl) ⟨trivial, trivial⟩ ?_
  obtain ⟨y1, hy, h⟩ := andO_some h
  refine VO.call false [.t (.int .i64)] [] T_ok (d := some 14) (by kernel_rfl) (ok14 N _ hy) rfl ?_
  refine VO.seg T_ok .dp 6 [1, 5, 6] [2, 0, 1] (s' := ⟨[(1, .lf (.v (.sl (.int .i64)) a1)), (5, .lf (.ptr 0 0 0 0)), (6, B y1.2)], [bx [.v (.int .i64) y1.1.1, .hd 1 0 none, .hd 2 0 none] 24, ar 0 (.int .i64) y1.1.2.1 .dp, ar 0 (.int .i64) y1.1.2.2 .dp]⟩) (φ := True ∧ True ∧ True ∧ True ∧ True ∧ True ∧ True) (by kernel_rfl) ⟨trivial, trivial, trivial, trivial, trivial, trivial, trivial⟩ ?_
  refine VO.nil ?_
  show VW _ _ _ _ _ _ _
  refine VW.seq ?_
  refine VW.seq ?_
  refine VW.region ?_
  refine VO.seg T_ok .dp 3 [1, 5, 19] [0, 1, 2] (s' := ⟨[(1, .lf (.v (.sl (.int .i64)) a1)), (5, .lf (.ptr 0 0 0 0)), (19, B (!y1.2))], [bx [.v (.int .i64) y1.1.1, .hd 1 0 none, .hd 2 0 none] 24, ar 0 (.int .i64) y1.1.2.1 .dp, ar 0 (.int .i64) y1.1.2.2 .dp]⟩) (φ := True ∧ True ∧ True ∧ True) (by kernel_rfl) ⟨trivial, trivial, trivial, trivial⟩ ?_
  refine VO.splitB 19 (b := (!y1.2)) (by kernel_rfl) (fun hb => ?_) (fun hb => ?_)
  · replace h := cond_t h hb; clear hb
    refine VO.seg T_ok .dp 4 [1, 5, 23] [0, 1, 2] (s' := ⟨[(1, .lf (.v (.sl (.int .i64)) a1)), (5, .lf (.ptr 0 0 0 0)), (23, B true)], [bx [.v (.int .i64) y1.1.1, .hd 1 0 none, .hd 2 0 none] 24, ar 0 (.int .i64) y1.1.2.1 .dp, ar 0 (.int .i64) y1.1.2.2 .dp]⟩) (φ := True ∧ True ∧ True ∧ True ∧ True) (by kernel_rfl) ⟨trivial, trivial, trivial, trivial, trivial⟩ ?_
    refine VO.nil ?_
    show VW _ _ _ _ _ _ _
    refine VW.cond (b := true) (by kernel_rfl) (fun _ => ?_) (fun h' => nomatch h')
    refine VW.seq ?_
    refine VW.region ?_
    refine VO.seg T_ok .dp 1 [4] [] (s' := ⟨[(4, I (-1 : Int))], []⟩) (φ := True ∧ True) (by kernel_rfl) ⟨trivial, trivial⟩ ?_
    refine VO.nil ?_
    show VW _ _ _ _ _ _ _
    refine VW.ret ?_
    replace h := Option.some.inj h
    subst h
    exact retR [] (by kernel_rfl) rfl
  · replace h := cond_f h hb; clear hb
    refine VO.seg T_ok .dp 4 [1, 5, 23] [0, 1, 2] (s' := ⟨[(1, .lf (.v (.sl (.int .i64)) a1)), (5, .lf (.ptr 0 0 0 0)), (23, B (decide ((a1.length : Int) > (300 : Int))))], [bx [.v (.int .i64) y1.1.1, .hd 1 0 none, .hd 2 0 none] 24, ar 0 (.int .i64) y1.1.2.1 .dp, ar 0 (.int .i64) y1.1.2.2 .dp]⟩) (φ := True ∧ True ∧ True ∧ True ∧ True) (by kernel_rfl) ⟨trivial, trivial, trivial, trivial, trivial⟩ ?_
    refine VO.nil ?_
    show VW _ _ _ _ _ _ _
    refine VW.cond (b := (decide ((a1.length : Int) > (300 : Int)))) (by kernel_rfl) (fun hb => ?_) (fun hb => ?_)
    · replace h := cond_t h hb; clear hb
      refine VW.seq ?_
      refine VW.region ?_
      refine VO.seg T_ok .dp 1 [4] [] (s' := ⟨[(4, I (-1 : Int))], []⟩) (φ := True ∧ True) (by kernel_rfl) ⟨trivial, trivial⟩ ?_
      refine VO.nil ?_
      show VW _ _ _ _ _ _ _
      refine VW.ret ?_
      replace h := Option.some.inj h
      subst h
      exact retR [] (by kernel_rfl) rfl
    · replace h := cond_f h hb; clear hb
      refine VW.skip ?_
      show VW _ _ _ _ _ _ _
      refine VW.seq ?_
      refine VW.region ?_
      refine VO.seg T_ok .dp 1 [1, 5, 7] [0, 1, 2] (s' := ⟨[(1, .lf (.v (.sl (.int .i64)) a1)), (5, .lf (.ptr 0 0 0 0)), (7, I (0 : Int))], [bx [.v (.int .i64) y1.1.1, .hd 1 0 none, .hd 2 0 none] 24, ar 0 (.int .i64) y1.1.2.1 .dp, ar 0 (.int .i64) y1.1.2.2 .dp]⟩) (φ := True ∧ True) (by kernel_rfl) ⟨trivial, trivial⟩ ?_
      refine VO.nil ?_
      show VW _ _ _ _ _ _ _
      refine VW.join (fun s => ∃ (x77 : Int), s = ⟨[(7, I x77)], []⟩ ∧ F31_j0 N x77 = some r) ?_ ?_
      · refine VW.seq ?_
        refine VW.region ?_
        refine VO.seg T_ok .dp 1 [1, 5, 7, 8] [0, 1, 2] (s' := ⟨[(1, .lf (.v (.sl (.int .i64)) a1)), (5, .lf (.ptr 0 0 0 0)), (7, I (0 : Int)), (8, I (0 : Int))], [bx [.v (.int .i64) y1.1.1, .hd 1 0 none, .hd 2 0 none] 24, ar 0 (.int .i64) y1.1.2.1 .dp, ar 0 (.int .i64) y1.1.2.2 .dp]⟩) (φ := True ∧ True) (by kernel_rfl) ⟨trivial, trivial⟩ ?_
        refine VO.nil ?_
        show VW _ _ _ _ _ _ _
        refine VW.block ?_
        refine VW.loopL (fun k s => ∃ (x104 : Int) (x105 : (List Int)) (x106 : (List Int)) (x107 : Int) (x108 : Int), s = ⟨[(1, .lf (.v (.sl (.int .i64)) a1)), (5, .lf (.ptr 0 0 0 0)), (7, I x107), (8, I x108)], [bx [.v (.int .i64) x104, .hd 1 0 none, .hd 2 0 none] 24, ar 0 (.int .i64) x105 .dp, ar 0 (.int .i64) x106 .dp]⟩ ∧ F31_l0 N a1 k x104 x105 x106 x107 x108 = some r) N [.ren [1, 5, 7, 8] [0, 1, 2]] (by kernel_rfl) ⟨y1.1.1, y1.1.2.1, y1.1.2.2, (0 : Int), (0 : Int), rfl, h⟩ ?_
        rintro k131 s ⟨x104, x105, x106, x107, x108, rfl, h⟩
        cases k131 with
        | zero => exact nomatch (show (none : Option (Int)) = some r from h)
        | succ k131 =>
          replace h : F31_l0_b N a1 (F31_l0 N a1 k131) x104 x105 x106 x107 x108 = some r := h
          unfold F31_l0_b at h
          refine VW.seq ?_
          refine VW.seq ?_
          refine VW.region ?_
          refine VO.seg T_ok .dp 4 [1, 5, 7, 8, 27] [0, 1, 2] (s' := ⟨[(1, .lf (.v (.sl (.int .i64)) a1)), (5, .lf (.ptr 0 0 0 0)), (7, I x107), (8, I x108), (27, B (decide (x108 < (a1.length : Int))))], [bx [.v (.int .i64) x104, .hd 1 0 none, .hd 2 0 none] 24, ar 0 (.int .i64) x105 .dp, ar 0 (.int .i64) x106 .dp]⟩) (φ := True ∧ True ∧ True ∧ True ∧ True) (by kernel_rfl) ⟨trivial, trivial, trivial, trivial, trivial⟩ ?_
          refine VO.nil ?_
          show VW _ _ _ _ _ _ _
          refine VW.cond (b := (decide (x108 < (a1.length : Int)))) (by kernel_rfl) (fun hb => ?_) (fun hb => ?_)
          · replace h := cond_t h hb; clear hb
            refine VW.skip ?_
            show VW _ _ _ _ _ _ _
            refine VW.seq ?_
            refine VW.block ?_
            refine VW.seq ?_
            obtain ⟨g143, h⟩ := gd_some h
            obtain ⟨y144, hy144, h⟩ := andO_some h
            refine VW.ideal (by kernel_rfl) [[], [0], [1], [2], [10], [0, 1], [0, 2], [0, 10], [1, 2], [1, 10], [2, 10], [0, 1, 2], [0, 1, 10], [0, 2, 10], [1, 2, 3], [1, 2, 10], [0, 1, 2, 3], [0, 1, 2, 10], [1, 2, 3, 4], [1, 2, 3, 10], [0, 1, 2, 3, 4], [0, 1, 2, 3, 10], [1, 2, 3, 4, 10], [0, 1, 2, 3, 4, 5], [0, 1, 2, 3, 4, 10], [0, 1, 2, 3, 4, 5, 6], [0, 1, 2, 3, 4, 5, 10], [0, 1, 2, 3, 4, 5, 6, 7], [0, 1, 2, 3, 4, 5, 6, 8], [0, 1, 2, 3, 4, 5, 6, 9], [0, 1, 2, 3, 4, 5, 6, 10], [0, 1, 2, 3, 4, 5, 6, 7, 8], [0, 1, 2, 3, 4, 5, 6, 7, 9], [0, 1, 2, 3, 4, 5, 6, 7, 10], [0, 1, 2, 3, 4, 5, 6, 8, 9], [0, 1, 2, 3, 4, 5, 6, 8, 10], [0, 1, 2, 3, 4, 5, 6, 9, 10], [0, 1, 2, 3, 4, 5, 6, 7, 8, 9], [0, 1, 2, 3, 4, 5, 6, 7, 8, 10], [0, 1, 2, 3, 4, 5, 6, 7, 9, 10], [0, 1, 2, 3, 4, 5, 6, 7, 10, 11], [0, 1, 2, 3, 4, 5, 6, 8, 9, 10], [0, 1, 2, 3, 4, 5, 6, 7, 8, 9, 10], [0, 1, 2, 3, 4, 5, 6, 7, 8, 10, 11], [0, 1, 2, 3, 4, 5, 6, 7, 9, 10, 11], [0, 1, 2, 3, 4, 5, 6, 7, 8, 9, 10, 11], [0, 1, 2, 3, 4, 5, 6, 7, 8, 10, 11, 12], [0, 1, 2, 3, 4, 5, 6, 7, 8, 9, 10, 11, 12], [0, 1, 2, 3, 4, 5, 6, 7, 8, 9, 10, 11, 12, 13]] [⟨[(1, .lf (.v (.sl (.int .i64)) a1)), (5, .lf (.ptr 0 0 0 0)), (7, I x107), (8, I x108), (27, B (decide (x108 < (a1.length : Int))))], [bx [.v (.int .i64) x104, .hd 1 0 none, .hd 2 0 none] 24, ar 0 (.int .i64) x105 .dp, ar 0 (.int .i64) x106 .dp]⟩,
    ⟨[(1, .lf (.v (.sl (.int .i64)) a1)), (5, .lf (.ptr 0 0 0 0)), (7, I x107), (8, I x108), (31, .agg [.v (.int .i64) x104, .hd 1 0 none, .hd 2 0 none])], [bx [.v (.int .i64) x104, .hd 1 0 none, .hd 2 0 none] 24, ar 0 (.int .i64) x105 .dp, ar 0 (.int .i64) x106 .dp]⟩,
    ⟨[(1, .lf (.v (.sl (.int .i64)) a1)), (5, .lf (.ptr 0 0 0 0)), (7, I x107), (8, I x108), (32, .lf (.v (.sl (.int .i64)) a1))], [bx [.v (.int .i64) x104, .hd 1 0 none, .hd 2 0 none] 24, ar 0 (.int .i64) x105 .dp, ar 0 (.int .i64) x106 .dp]⟩,
    ⟨[(1, .lf (.v (.sl (.int .i64)) a1)), (5, .lf (.ptr 0 0 0 0)), (7, I x107), (8, I x108), (33, I x108)], [bx [.v (.int .i64) x104, .hd 1 0 none, .hd 2 0 none] 24, ar 0 (.int .i64) x105 .dp, ar 0 (.int .i64) x106 .dp]⟩,
    ⟨[(1, .lf (.v (.sl (.int .i64)) a1)), (5, .lf (.ptr 0 0 0 0)), (7, I x107), (8, I x108), (9, .lf (.ptr 3 0 0 0))], [bx [.v (.int .i64) x104, .hd 1 0 none, .hd 2 0 none] 24, ar 0 (.int .i64) x105 .dp, ar 0 (.int .i64) x106 .dp, bx [.v (.int .i64) (0 : Int), .nil, .nil] 24]⟩,
    ⟨[(1, .lf (.v (.sl (.int .i64)) a1)), (5, .lf (.ptr 0 0 0 0)), (7, I x107), (8, I x108), (31, .agg [.v (.int .i64) x104, .hd 1 0 none, .hd 2 0 none]), (32, .lf (.v (.sl (.int .i64)) a1))], [bx [.v (.int .i64) x104, .hd 1 0 none, .hd 2 0 none] 24, ar 0 (.int .i64) x105 .dp, ar 0 (.int .i64) x106 .dp]⟩,
    ⟨[(1, .lf (.v (.sl (.int .i64)) a1)), (5, .lf (.ptr 0 0 0 0)), (7, I x107), (8, I x108), (31, .agg [.v (.int .i64) x104, .hd 1 0 none, .hd 2 0 none]), (33, I x108)], [bx [.v (.int .i64) x104, .hd 1 0 none, .hd 2 0 none] 24, ar 0 (.int .i64) x105 .dp, ar 0 (.int .i64) x106 .dp]⟩,
    ⟨[(1, .lf (.v (.sl (.int .i64)) a1)), (5, .lf (.ptr 0 0 0 0)), (7, I x107), (8, I x108), (9, .lf (.ptr 3 0 0 0)), (31, .agg [.v (.int .i64) x104, .hd 1 0 none, .hd 2 0 none])], [bx [.v (.int .i64) x104, .hd 1 0 none, .hd 2 0 none] 24, ar 0 (.int .i64) x105 .dp, ar 0 (.int .i64) x106 .dp, bx [.v (.int .i64) (0 : Int), .nil, .nil] 24]⟩,
    ⟨[(1, .lf (.v (.sl (.int .i64)) a1)), (5, .lf (.ptr 0 0 0 0)), (7, I x107), (8, I x108), (32, .lf (.v (.sl (.int .i64)) a1)), (33, I x108)], [bx [.v (.int .i64) x104, .hd 1 0 none, .hd 2 0 none] 24, ar 0 (.int .i64) x105 .dp, ar 0 (.int .i64) x106 .dp]⟩,
    ⟨[(1, .lf (.v (.sl (.int .i64)) a1)), (5, .lf (.ptr 0 0 0 0)), (7, I x107), (8, I x108), (9, .lf (.ptr 3 0 0 0)), (32, .lf (.v (.sl (.int .i64)) a1))], [bx [.v (.int .i64) x104, .hd 1 0 none, .hd 2 0 none] 24, ar 0 (.int .i64) x105 .dp, ar 0 (.int .i64) x106 .dp, bx [.v (.int .i64) (0 : Int), .nil, .nil] 24]⟩,
    ⟨[(1, .lf (.v (.sl (.int .i64)) a1)), (5, .lf (.ptr 0 0 0 0)), (7, I x107), (8, I x108), (9, .lf (.ptr 3 0 0 0)), (33, I x108)], [bx [.v (.int .i64) x104, .hd 1 0 none, .hd 2 0 none] 24, ar 0 (.int .i64) x105 .dp, ar 0 (.int .i64) x106 .dp, bx [.v (.int .i64) (0 : Int), .nil, .nil] 24]⟩,
    ⟨[(1, .lf (.v (.sl (.int .i64)) a1)), (5, .lf (.ptr 0 0 0 0)), (7, I x107), (8, I x108), (31, .agg [.v (.int .i64) x104, .hd 1 0 none, .hd 2 0 none]), (32, .lf (.v (.sl (.int .i64)) a1)), (33, I x108)], [bx [.v (.int .i64) x104, .hd 1 0 none, .hd 2 0 none] 24, ar 0 (.int .i64) x105 .dp, ar 0 (.int .i64) x106 .dp]⟩,
    ⟨[(1, .lf (.v (.sl (.int .i64)) a1)), (5, .lf (.ptr 0 0 0 0)), (7, I x107), (8, I x108), (9, .lf (.ptr 3 0 0 0)), (31, .agg [.v (.int .i64) x104, .hd 1 0 none, .hd 2 0 none]), (32, .lf (.v (.sl (.int .i64)) a1))], [bx [.v (.int .i64) x104, .hd 1 0 none, .hd 2 0 none] 24, ar 0 (.int .i64) x105 .dp, ar 0 (.int .i64) x106 .dp, bx [.v (.int .i64) (0 : Int), .nil, .nil] 24]⟩,
    ⟨[(1, .lf (.v (.sl (.int .i64)) a1)), (5, .lf (.ptr 0 0 0 0)), (7, I x107), (8, I x108), (9, .lf (.ptr 3 0 0 0)), (31, .agg [.v (.int .i64) x104, .hd 1 0 none, .hd 2 0 none]), (33, I x108)], [bx [.v (.int .i64) x104, .hd 1 0 none, .hd 2 0 none] 24, ar 0 (.int .i64) x105 .dp, ar 0 (.int .i64) x106 .dp, bx [.v (.int .i64) (0 : Int), .nil, .nil] 24]⟩,
    ⟨[(1, .lf (.v (.sl (.int .i64)) a1)), (5, .lf (.ptr 0 0 0 0)), (7, I x107), (8, I x108), (34, .lf (.fp (.int .i64) (a1.getD x108.toNat (Ty.dflt (.int .i64))) 0))], [bx [.v (.int .i64) x104, .hd 1 0 none, .hd 2 0 none] 24, ar 0 (.int .i64) x105 .dp, ar 0 (.int .i64) x106 .dp]⟩,
    ⟨[(1, .lf (.v (.sl (.int .i64)) a1)), (5, .lf (.ptr 0 0 0 0)), (7, I x107), (8, I x108), (9, .lf (.ptr 3 0 0 0)), (32, .lf (.v (.sl (.int .i64)) a1)), (33, I x108)], [bx [.v (.int .i64) x104, .hd 1 0 none, .hd 2 0 none] 24, ar 0 (.int .i64) x105 .dp, ar 0 (.int .i64) x106 .dp, bx [.v (.int .i64) (0 : Int), .nil, .nil] 24]⟩,
    ⟨[(1, .lf (.v (.sl (.int .i64)) a1)), (5, .lf (.ptr 0 0 0 0)), (7, I x107), (8, I x108), (31, .agg [.v (.int .i64) x104, .hd 1 0 none, .hd 2 0 none]), (34, .lf (.fp (.int .i64) (a1.getD x108.toNat (Ty.dflt (.int .i64))) 0))], [bx [.v (.int .i64) x104, .hd 1 0 none, .hd 2 0 none] 24, ar 0 (.int .i64) x105 .dp, ar 0 (.int .i64) x106 .dp]⟩,
    ⟨[(1, .lf (.v (.sl (.int .i64)) a1)), (5, .lf (.ptr 0 0 0 0)), (7, I x107), (8, I x108), (9, .lf (.ptr 3 0 0 0)), (31, .agg [.v (.int .i64) x104, .hd 1 0 none, .hd 2 0 none]), (32, .lf (.v (.sl (.int .i64)) a1)), (33, I x108)], [bx [.v (.int .i64) x104, .hd 1 0 none, .hd 2 0 none] 24, ar 0 (.int .i64) x105 .dp, ar 0 (.int .i64) x106 .dp, bx [.v (.int .i64) (0 : Int), .nil, .nil] 24]⟩,
    ⟨[(1, .lf (.v (.sl (.int .i64)) a1)), (5, .lf (.ptr 0 0 0 0)), (7, I x107), (8, I x108), (35, I (a1.getD x108.toNat (Ty.dflt (.int .i64))))], [bx [.v (.int .i64) x104, .hd 1 0 none, .hd 2 0 none] 24, ar 0 (.int .i64) x105 .dp, ar 0 (.int .i64) x106 .dp]⟩,
    ⟨[(1, .lf (.v (.sl (.int .i64)) a1)), (5, .lf (.ptr 0 0 0 0)), (7, I x107), (8, I x108), (9, .lf (.ptr 3 0 0 0)), (34, .lf (.fp (.int .i64) (a1.getD x108.toNat (Ty.dflt (.int .i64))) 0))], [bx [.v (.int .i64) x104, .hd 1 0 none, .hd 2 0 none] 24, ar 0 (.int .i64) x105 .dp, ar 0 (.int .i64) x106 .dp, bx [.v (.int .i64) (0 : Int), .nil, .nil] 24]⟩,
    ⟨[(1, .lf (.v (.sl (.int .i64)) a1)), (5, .lf (.ptr 0 0 0 0)), (7, I x107), (8, I x108), (31, .agg [.v (.int .i64) x104, .hd 1 0 none, .hd 2 0 none]), (35, I (a1.getD x108.toNat (Ty.dflt (.int .i64))))], [bx [.v (.int .i64) x104, .hd 1 0 none, .hd 2 0 none] 24, ar 0 (.int .i64) x105 .dp, ar 0 (.int .i64) x106 .dp]⟩,
    ⟨[(1, .lf (.v (.sl (.int .i64)) a1)), (5, .lf (.ptr 0 0 0 0)), (7, I x107), (8, I x108), (9, .lf (.ptr 3 0 0 0)), (31, .agg [.v (.int .i64) x104, .hd 1 0 none, .hd 2 0 none]), (34, .lf (.fp (.int .i64) (a1.getD x108.toNat (Ty.dflt (.int .i64))) 0))], [bx [.v (.int .i64) x104, .hd 1 0 none, .hd 2 0 none] 24, ar 0 (.int .i64) x105 .dp, ar 0 (.int .i64) x106 .dp, bx [.v (.int .i64) (0 : Int), .nil, .nil] 24]⟩,
    ⟨[(1, .lf (.v (.sl (.int .i64)) a1)), (5, .lf (.ptr 0 0 0 0)), (7, I x107), (8, I x108), (9, .lf (.ptr 3 0 0 0)), (35, I (a1.getD x108.toNat (Ty.dflt (.int .i64))))], [bx [.v (.int .i64) x104, .hd 1 0 none, .hd 2 0 none] 24, ar 0 (.int .i64) x105 .dp, ar 0 (.int .i64) x106 .dp, bx [.v (.int .i64) (0 : Int), .nil, .nil] 24]⟩,
    ⟨[(1, .lf (.v (.sl (.int .i64)) a1)), (5, .lf (.ptr 0 0 0 0)), (7, I x107), (8, I x108), (36, .tup [.agg [.v (.int .i64) y144.1.1, .hd 3 0 none, .hd 4 0 none], .lf (.v (.int .i64) y144.2.1), .lf (.v .bool y144.2.2)])], [bx [.v (.int .i64) x104, .hd 1 0 none, .hd 2 0 none] 24, ar 0 (.int .i64) x105 .dp, ar 0 (.int .i64) x106 .dp, ar 0 (.int .i64) y144.1.2.1 .dp, ar 0 (.int .i64) y144.1.2.2 .dp]⟩,
    ⟨[(1, .lf (.v (.sl (.int .i64)) a1)), (5, .lf (.ptr 0 0 0 0)), (7, I x107), (8, I x108), (9, .lf (.ptr 3 0 0 0)), (31, .agg [.v (.int .i64) x104, .hd 1 0 none, .hd 2 0 none]), (35, I (a1.getD x108.toNat (Ty.dflt (.int .i64))))], [bx [.v (.int .i64) x104, .hd 1 0 none, .hd 2 0 none] 24, ar 0 (.int .i64) x105 .dp, ar 0 (.int .i64) x106 .dp, bx [.v (.int .i64) (0 : Int), .nil, .nil] 24]⟩,
    ⟨[(1, .lf (.v (.sl (.int .i64)) a1)), (5, .lf (.ptr 0 0 0 0)), (7, I x107), (8, I x108), (30, .tup [.agg [.v (.int .i64) y144.1.1, .hd 3 0 none, .hd 4 0 none], .lf (.v (.int .i64) y144.2.1), .lf (.v .bool y144.2.2)])], [bx [.v (.int .i64) x104, .hd 1 0 none, .hd 2 0 none] 24, ar 0 (.int .i64) x105 .dp, ar 0 (.int .i64) x106 .dp, ar 0 (.int .i64) y144.1.2.1 .dp, ar 0 (.int .i64) y144.1.2.2 .dp]⟩,
    ⟨[(1, .lf (.v (.sl (.int .i64)) a1)), (5, .lf (.ptr 0 0 0 0)), (7, I x107), (8, I x108), (9, .lf (.ptr 3 0 0 0)), (36, .tup [.agg [.v (.int .i64) y144.1.1, .hd 4 0 none, .hd 5 0 none], .lf (.v (.int .i64) y144.2.1), .lf (.v .bool y144.2.2)])], [bx [.v (.int .i64) x104, .hd 1 0 none, .hd 2 0 none] 24, ar 0 (.int .i64) x105 .dp, ar 0 (.int .i64) x106 .dp, bx [.v (.int .i64) (0 : Int), .nil, .nil] 24, ar 0 (.int .i64) y144.1.2.1 .dp, ar 0 (.int .i64) y144.1.2.2 .dp]⟩,
    ⟨[(1, .lf (.v (.sl (.int .i64)) a1)), (5, .lf (.ptr 0 0 0 0)), (7, I x107), (8, I x108), (30, .tup [.agg [.v (.int .i64) y144.1.1, .hd 3 0 none, .hd 4 0 none], .lf (.v (.int .i64) y144.2.1), .lf (.v .bool y144.2.2)]), (37, .agg [.v (.int .i64) y144.1.1, .hd 3 0 none, .hd 4 0 none])], [bx [.v (.int .i64) x104, .hd 1 0 none, .hd 2 0 none] 24, ar 0 (.int .i64) x105 .dp, ar 0 (.int .i64) x106 .dp, ar 0 (.int .i64) y144.1.2.1 .dp, ar 0 (.int .i64) y144.1.2.2 .dp]⟩,
    ⟨[(1, .lf (.v (.sl (.int .i64)) a1)), (5, .lf (.ptr 0 0 0 0)), (7, I x107), (8, I x108), (30, .tup [.agg [.v (.int .i64) y144.1.1, .hd 3 0 none, .hd 4 0 none], .lf (.v (.int .i64) y144.2.1), .lf (.v .bool y144.2.2)]), (38, I y144.2.1)], [bx [.v (.int .i64) x104, .hd 1 0 none, .hd 2 0 none] 24, ar 0 (.int .i64) x105 .dp, ar 0 (.int .i64) x106 .dp, ar 0 (.int .i64) y144.1.2.1 .dp, ar 0 (.int .i64) y144.1.2.2 .dp]⟩,
    ⟨[(1, .lf (.v (.sl (.int .i64)) a1)), (5, .lf (.ptr 0 0 0 0)), (7, I x107), (8, I x108), (30, .tup [.agg [.v (.int .i64) y144.1.1, .hd 3 0 none, .hd 4 0 none], .lf (.v (.int .i64) y144.2.1), .lf (.v .bool y144.2.2)]), (39, B y144.2.2)], [bx [.v (.int .i64) x104, .hd 1 0 none, .hd 2 0 none] 24, ar 0 (.int .i64) x105 .dp, ar 0 (.int .i64) x106 .dp, ar 0 (.int .i64) y144.1.2.1 .dp, ar 0 (.int .i64) y144.1.2.2 .dp]⟩,
    ⟨[(1, .lf (.v (.sl (.int .i64)) a1)), (5, .lf (.ptr 0 0 0 0)), (7, I x107), (8, I x108), (9, .lf (.ptr 3 0 0 0)), (30, .tup [.agg [.v (.int .i64) y144.1.1, .hd 4 0 none, .hd 5 0 none], .lf (.v (.int .i64) y144.2.1), .lf (.v .bool y144.2.2)])], [bx [.v (.int .i64) x104, .hd 1 0 none, .hd 2 0 none] 24, ar 0 (.int .i64) x105 .dp, ar 0 (.int .i64) x106 .dp, bx [.v (.int .i64) (0 : Int), .nil, .nil] 24, ar 0 (.int .i64) y144.1.2.1 .dp, ar 0 (.int .i64) y144.1.2.2 .dp]⟩,
    ⟨[(1, .lf (.v (.sl (.int .i64)) a1)), (5, .lf (.ptr 0 0 0 0)), (7, I x107), (8, I x108), (30, .tup [.agg [.v (.int .i64) y144.1.1, .hd 3 0 none, .hd 4 0 none], .lf (.v (.int .i64) y144.2.1), .lf (.v .bool y144.2.2)]), (37, .agg [.v (.int .i64) y144.1.1, .hd 3 0 none, .hd 4 0 none]), (38, I y144.2.1)], [bx [.v (.int .i64) x104, .hd 1 0 none, .hd 2 0 none] 24, ar 0 (.int .i64) x105 .dp, ar 0 (.int .i64) x106 .dp, ar 0 (.int .i64) y144.1.2.1 .dp, ar 0 (.int .i64) y144.1.2.2 .dp]⟩,
    ⟨[(1, .lf (.v (.sl (.int .i64)) a1)), (5, .lf (.ptr 0 0 0 0)), (7, I x107), (8, I x108), (30, .tup [.agg [.v (.int .i64) y144.1.1, .hd 3 0 none, .hd 4 0 none], .lf (.v (.int .i64) y144.2.1), .lf (.v .bool y144.2.2)]), (37, .agg [.v (.int .i64) y144.1.1, .hd 3 0 none, .hd 4 0 none]), (39, B y144.2.2)], [bx [.v (.int .i64) x104, .hd 1 0 none, .hd 2 0 none] 24, ar 0 (.int .i64) x105 .dp, ar 0 (.int .i64) x106 .dp, ar 0 (.int .i64) y144.1.2.1 .dp, ar 0 (.int .i64) y144.1.2.2 .dp]⟩,
    ⟨[(1, .lf (.v (.sl (.int .i64)) a1)), (5, .lf (.ptr 0 0 0 0)), (7, I x107), (8, I x108), (9, .lf (.ptr 3 0 0 0)), (30, .tup [.agg [.v (.int .i64) y144.1.1, .hd 4 0 none, .hd 5 0 none], .lf (.v (.int .i64) y144.2.1), .lf (.v .bool y144.2.2)]), (37, .agg [.v (.int .i64) y144.1.1, .hd 4 0 none, .hd 5 0 none])], [bx [.v (.int .i64) x104, .hd 1 0 none, .hd 2 0 none] 24, ar 0 (.int .i64) x105 .dp, ar 0 (.int .i64) x106 .dp, bx [.v (.int .i64) (0 : Int), .nil, .nil] 24, ar 0 (.int .i64) y144.1.2.1 .dp, ar 0 (.int .i64) y144.1.2.2 .dp]⟩,
    ⟨[(1, .lf (.v (.sl (.int .i64)) a1)), (5, .lf (.ptr 0 0 0 0)), (7, I x107), (8, I x108), (30, .tup [.agg [.v (.int .i64) y144.1.1, .hd 3 0 none, .hd 4 0 none], .lf (.v (.int .i64) y144.2.1), .lf (.v .bool y144.2.2)]), (38, I y144.2.1), (39, B y144.2.2)], [bx [.v (.int .i64) x104, .hd 1 0 none, .hd 2 0 none] 24, ar 0 (.int .i64) x105 .dp, ar 0 (.int .i64) x106 .dp, ar 0 (.int .i64) y144.1.2.1 .dp, ar 0 (.int .i64) y144.1.2.2 .dp]⟩,
    ⟨[(1, .lf (.v (.sl (.int .i64)) a1)), (5, .lf (.ptr 0 0 0 0)), (7, I x107), (8, I x108), (9, .lf (.ptr 3 0 0 0)), (30, .tup [.agg [.v (.int .i64) y144.1.1, .hd 4 0 none, .hd 5 0 none], .lf (.v (.int .i64) y144.2.1), .lf (.v .bool y144.2.2)]), (38, I y144.2.1)], [bx [.v (.int .i64) x104, .hd 1 0 none, .hd 2 0 none] 24, ar 0 (.int .i64) x105 .dp, ar 0 (.int .i64) x106 .dp, bx [.v (.int .i64) (0 : Int), .nil, .nil] 24, ar 0 (.int .i64) y144.1.2.1 .dp, ar 0 (.int .i64) y144.1.2.2 .dp]⟩,
    ⟨[(1, .lf (.v (.sl (.int .i64)) a1)), (5, .lf (.ptr 0 0 0 0)), (7, I x107), (8, I x108), (9, .lf (.ptr 3 0 0 0)), (30, .tup [.agg [.v (.int .i64) y144.1.1, .hd 4 0 none, .hd 5 0 none], .lf (.v (.int .i64) y144.2.1), .lf (.v .bool y144.2.2)]), (39, B y144.2.2)], [bx [.v (.int .i64) x104, .hd 1 0 none, .hd 2 0 none] 24, ar 0 (.int .i64) x105 .dp, ar 0 (.int .i64) x106 .dp, bx [.v (.int .i64) (0 : Int), .nil, .nil] 24, ar 0 (.int .i64) y144.1.2.1 .dp, ar 0 (.int .i64) y144.1.2.2 .dp]⟩,
    ⟨[(1, .lf (.v (.sl (.int .i64)) a1)), (5, .lf (.ptr 0 0 0 0)), (7, I x107), (8, I x108), (37, .agg [.v (.int .i64) y144.1.1, .hd 3 0 none, .hd 4 0 none]), (38, I y144.2.1), (39, B y144.2.2)], [bx [.v (.int .i64) x104, .hd 1 0 none, .hd 2 0 none] 24, ar 0 (.int .i64) x105 .dp, ar 0 (.int .i64) x106 .dp, ar 0 (.int .i64) y144.1.2.1 .dp, ar 0 (.int .i64) y144.1.2.2 .dp]⟩,
    ⟨[(1, .lf (.v (.sl (.int .i64)) a1)), (5, .lf (.ptr 0 0 0 0)), (7, I x107), (8, I x108), (9, .lf (.ptr 3 0 0 0)), (30, .tup [.agg [.v (.int .i64) y144.1.1, .hd 4 0 none, .hd 5 0 none], .lf (.v (.int .i64) y144.2.1), .lf (.v .bool y144.2.2)]), (37, .agg [.v (.int .i64) y144.1.1, .hd 4 0 none, .hd 5 0 none]), (38, I y144.2.1)], [bx [.v (.int .i64) x104, .hd 1 0 none, .hd 2 0 none] 24, ar 0 (.int .i64) x105 .dp, ar 0 (.int .i64) x106 .dp, bx [.v (.int .i64) (0 : Int), .nil, .nil] 24, ar 0 (.int .i64) y144.1.2.1 .dp, ar 0 (.int .i64) y144.1.2.2 .dp]⟩,
    ⟨[(1, .lf (.v (.sl (.int .i64)) a1)), (5, .lf (.ptr 0 0 0 0)), (7, I x107), (8, I x108), (9, .lf (.ptr 3 0 0 0)), (30, .tup [.agg [.v (.int .i64) y144.1.1, .hd 4 0 none, .hd 5 0 none], .lf (.v (.int .i64) y144.2.1), .lf (.v .bool y144.2.2)]), (37, .agg [.v (.int .i64) y144.1.1, .hd 4 0 none, .hd 5 0 none]), (39, B y144.2.2)], [bx [.v (.int .i64) x104, .hd 1 0 none, .hd 2 0 none] 24, ar 0 (.int .i64) x105 .dp, ar 0 (.int .i64) x106 .dp, bx [.v (.int .i64) (0 : Int), .nil, .nil] 24, ar 0 (.int .i64) y144.1.2.1 .dp, ar 0 (.int .i64) y144.1.2.2 .dp]⟩,
    ⟨[(1, .lf (.v (.sl (.int .i64)) a1)), (5, .lf (.ptr 0 0 0 0)), (7, I x107), (8, I x108), (9, .lf (.ptr 3 0 0 0)), (30, .tup [.agg [.v (.int .i64) y144.1.1, .hd 4 0 none, .hd 5 0 none], .lf (.v (.int .i64) y144.2.1), .lf (.v .bool y144.2.2)])], [bx [.v (.int .i64) x104, .hd 1 0 none, .hd 2 0 none] 24, ar 0 (.int .i64) x105 .dp, ar 0 (.int .i64) x106 .dp, bx [.v (.int .i64) y144.1.1, .hd 4 0 none, .hd 5 0 none] 24, ar 0 (.int .i64) y144.1.2.1 .dp, ar 0 (.int .i64) y144.1.2.2 .dp]⟩,
    ⟨[(1, .lf (.v (.sl (.int .i64)) a1)), (5, .lf (.ptr 0 0 0 0)), (7, I x107), (8, I x108), (9, .lf (.ptr 3 0 0 0)), (30, .tup [.agg [.v (.int .i64) y144.1.1, .hd 4 0 none, .hd 5 0 none], .lf (.v (.int .i64) y144.2.1), .lf (.v .bool y144.2.2)]), (38, I y144.2.1), (39, B y144.2.2)], [bx [.v (.int .i64) x104, .hd 1 0 none, .hd 2 0 none] 24, ar 0 (.int .i64) x105 .dp, ar 0 (.int .i64) x106 .dp, bx [.v (.int .i64) (0 : Int), .nil, .nil] 24, ar 0 (.int .i64) y144.1.2.1 .dp, ar 0 (.int .i64) y144.1.2.2 .dp]⟩,
    ⟨[(1, .lf (.v (.sl (.int .i64)) a1)), (5, .lf (.ptr 0 0 0 0)), (7, I x107), (8, I x108), (9, .lf (.ptr 3 0 0 0)), (37, .agg [.v (.int .i64) y144.1.1, .hd 4 0 none, .hd 5 0 none]), (38, I y144.2.1), (39, B y144.2.2)], [bx [.v (.int .i64) x104, .hd 1 0 none, .hd 2 0 none] 24, ar 0 (.int .i64) x105 .dp, ar 0 (.int .i64) x106 .dp, bx [.v (.int .i64) (0 : Int), .nil, .nil] 24, ar 0 (.int .i64) y144.1.2.1 .dp, ar 0 (.int .i64) y144.1.2.2 .dp]⟩,
    ⟨[(1, .lf (.v (.sl (.int .i64)) a1)), (5, .lf (.ptr 0 0 0 0)), (7, I x107), (8, I x108), (9, .lf (.ptr 3 0 0 0)), (30, .tup [.agg [.v (.int .i64) y144.1.1, .hd 4 0 none, .hd 5 0 none], .lf (.v (.int .i64) y144.2.1), .lf (.v .bool y144.2.2)]), (38, I y144.2.1)], [bx [.v (.int .i64) x104, .hd 1 0 none, .hd 2 0 none] 24, ar 0 (.int .i64) x105 .dp, ar 0 (.int .i64) x106 .dp, bx [.v (.int .i64) y144.1.1, .hd 4 0 none, .hd 5 0 none] 24, ar 0 (.int .i64) y144.1.2.1 .dp, ar 0 (.int .i64) y144.1.2.2 .dp]⟩,
    ⟨[(1, .lf (.v (.sl (.int .i64)) a1)), (5, .lf (.ptr 0 0 0 0)), (7, I x107), (8, I x108), (9, .lf (.ptr 3 0 0 0)), (30, .tup [.agg [.v (.int .i64) y144.1.1, .hd 4 0 none, .hd 5 0 none], .lf (.v (.int .i64) y144.2.1), .lf (.v .bool y144.2.2)]), (39, B y144.2.2)], [bx [.v (.int .i64) x104, .hd 1 0 none, .hd 2 0 none] 24, ar 0 (.int .i64) x105 .dp, ar 0 (.int .i64) x106 .dp, bx [.v (.int .i64) y144.1.1, .hd 4 0 none, .hd 5 0 none] 24, ar 0 (.int .i64) y144.1.2.1 .dp, ar 0 (.int .i64) y144.1.2.2 .dp]⟩,
    ⟨[(1, .lf (.v (.sl (.int .i64)) a1)), (5, .lf (.ptr 0 0 0 0)), (7, I x107), (8, I x108), (9, .lf (.ptr 3 0 0 0)), (38, I y144.2.1), (39, B y144.2.2)], [bx [.v (.int .i64) x104, .hd 1 0 none, .hd 2 0 none] 24, ar 0 (.int .i64) x105 .dp, ar 0 (.int .i64) x106 .dp, bx [.v (.int .i64) y144.1.1, .hd 4 0 none, .hd 5 0 none] 24, ar 0 (.int .i64) y144.1.2.1 .dp, ar 0 (.int .i64) y144.1.2.2 .dp]⟩,
    ⟨[(1, .lf (.v (.sl (.int .i64)) a1)), (5, .lf (.ptr 0 0 0 0)), (7, I x107), (8, I x108), (9, .lf (.ptr 3 0 0 0)), (30, .tup [.agg [.v (.int .i64) y144.1.1, .hd 4 0 none, .hd 5 0 none], .lf (.v (.int .i64) y144.2.1), .lf (.v .bool y144.2.2)])], [bx [.v (.int .i64) x104, .hd 1 0 none, .hd 2 0 none] 24, ar 0 (.int .i64) x105 .dp, ar 0 (.int .i64) x106 .dp, bx [.v (.int .i64) y144.1.1, .hd 4 0 none, .hd 5 0 none] 24, ar 0 (.int .i64) y144.1.2.1 .dp, ar 0 (.int .i64) y144.1.2.2 .dp]⟩,
    ⟨[(1, .lf (.v (.sl (.int .i64)) a1)), (5, .lf (.ptr 0 0 0 0)), (7, I x107), (8, I x108), (9, .lf (.ptr 3 0 0 0)), (39, B y144.2.2)], [bx [.v (.int .i64) x104, .hd 1 0 none, .hd 2 0 none] 24, ar 0 (.int .i64) x105 .dp, ar 0 (.int .i64) x106 .dp, bx [.v (.int .i64) y144.1.1, .hd 4 0 none, .hd 5 0 none] 24, ar 0 (.int .i64) y144.1.2.1 .dp, ar 0 (.int .i64) y144.1.2.2 .dp]⟩,
    ⟨[(1, .lf (.v (.sl (.int .i64)) a1)), (5, .lf (.ptr 0 0 0 0)), (7, I x107), (8, I x108), (9, .lf (.ptr 3 0 0 0)), (11, B y144.2.2)], [bx [.v (.int .i64) x104, .hd 1 0 none, .hd 2 0 none] 24, ar 0 (.int .i64) x105 .dp, ar 0 (.int .i64) x106 .dp, bx [.v (.int .i64) y144.1.1, .hd 4 0 none, .hd 5 0 none] 24, ar 0 (.int .i64) y144.1.2.1 .dp, ar 0 (.int .i64) y144.1.2.2 .dp]⟩] [(0, 0, 1), (0, 1, 2), (0, 2, 3), (0, 10, 4), (1, 1, 5), (1, 2, 6), (1, 10, 7), (2, 0, 5), (2, 2, 8), (2, 10, 9), (3, 0, 6), (3, 1, 8), (3, 10, 10), (4, 0, 7), (4, 1, 9), (4, 2, 10), (5, 2, 11), (5, 10, 12), (6, 1, 11), (6, 10, 13), (7, 1, 12), (7, 2, 13), (8, 0, 11), (8, 3, 14), (8, 10, 15), (9, 0, 12), (9, 2, 15), (10, 0, 13), (10, 1, 15), (11, 3, 16), (11, 10, 17), (12, 2, 17), (13, 1, 17), (14, 0, 16), (14, 4, 18), (14, 10, 19), (15, 0, 17), (15, 3, 19), (16, 4, 20), (16, 10, 21), (17, 3, 21), (18, 0, 20), (18, 10, 22), (19, 0, 21), (19, 4, 22), (20, 5, 23), (20, 10, 24), (21, 4, 24), (22, 0, 24), (23, 6, 25), (23, 10, 26), (24, 5, 26), (25, 7, 27), (25, 8, 28), (25, 9, 29), (25, 10, 30), (26, 6, 30), (27, 8, 31), (27, 9, 32), (27, 10, 33), (28, 7, 31), (28, 9, 34), (28, 10, 35), (29, 7, 32), (29, 8, 34), (29, 10, 36), (30, 7, 33), (30, 8, 35), (30, 9, 36), (31, 9, 37), (31, 10, 38), (32, 8, 37), (32, 10, 39), (33, 8, 38), (33, 9, 39), (33, 11, 40), (34, 7, 37), (34, 10, 41), (35, 7, 38), (35, 9, 41), (36, 7, 39), (36, 8, 41), (37, 10, 42), (38, 9, 42), (38, 11, 43), (39, 8, 42), (39, 11, 44), (40, 8, 43), (40, 9, 44), (41, 7, 42), (42, 11, 45), (43, 9, 45), (43, 12, 46), (44, 8, 45), (45, 12, 47), (46, 9, 47), (47, 13, 48)] 48 (s' := ⟨[(1, .lf (.v (.sl (.int .i64)) a1)), (5, .lf (.ptr 0 0 0 0)), (7, I x107), (8, I x108), (9, .lf (.ptr 3 0 0 0)), (11, B y144.2.2)], [bx [.v (.int .i64) x104, .hd 1 0 none, .hd 2 0 none] 24, ar 0 (.int .i64) x105 .dp, ar 0 (.int .i64) x106 .dp, bx [.v (.int .i64) y144.1.1, .hd 4 0 none, .hd 5 0 none] 24, ar 0 (.int .i64) y144.1.2.1 .dp, ar 0 (.int .i64) y144.1.2.2 .dp]⟩) (by kernel_rfl) rfl rfl ⟨⟨_, _, _, rfl, rfl, rfl, VO.seg T_ok .dp 1 [1, 5, 7, 8, 31] [0, 1, 2] (φ := True ∧ True) (by kernel_rfl) ⟨trivial, trivial⟩ (VI.fin rfl)⟩,
    ⟨_, _, _, rfl, rfl, rfl, VO.seg T_ok .dp 1 [1, 5, 7, 8, 32] [0, 1, 2] (φ := True ∧ True) (by kernel_rfl) ⟨trivial, trivial⟩ (VI.fin rfl)⟩,
    ⟨_, _, _, rfl, rfl, rfl, VO.seg T_ok .dp 1 [1, 5, 7, 8, 33] [0, 1, 2] (φ := True ∧ True) (by kernel_rfl) ⟨trivial, trivial⟩ (VI.fin rfl)⟩,
    ⟨_, _, _, rfl, rfl, rfl, VO.seg T_ok .dp 1 [1, 5, 7, 8, 9] [0, 1, 2, 3] (φ := True ∧ True) (by kernel_rfl) ⟨trivial, trivial⟩ (VI.fin rfl)⟩,
    ⟨_, _, _, rfl, rfl, rfl, VO.seg T_ok .dp 1 [1, 5, 7, 8, 31, 32] [0, 1, 2] (φ := True ∧ True) (by kernel_rfl) ⟨trivial, trivial⟩ (VI.fin rfl)⟩,
    ⟨_, _, _, rfl, rfl, rfl, VO.seg T_ok .dp 1 [1, 5, 7, 8, 31, 33] [0, 1, 2] (φ := True ∧ True) (by kernel_rfl) ⟨trivial, trivial⟩ (VI.fin rfl)⟩,
    ⟨_, _, _, rfl, rfl, rfl, VO.seg T_ok .dp 1 [1, 5, 7, 8, 9, 31] [0, 1, 2, 3] (φ := True ∧ True) (by kernel_rfl) ⟨trivial, trivial⟩ (VI.fin rfl)⟩,
    ⟨_, _, _, rfl, rfl, rfl, VO.seg T_ok .dp 1 [1, 5, 7, 8, 31, 32] [0, 1, 2] (φ := True ∧ True) (by kernel_rfl) ⟨trivial, trivial⟩ (VI.fin rfl)⟩,
    ⟨_, _, _, rfl, rfl, rfl, VO.seg T_ok .dp 1 [1, 5, 7, 8, 32, 33] [0, 1, 2] (φ := True ∧ True) (by kernel_rfl) ⟨trivial, trivial⟩ (VI.fin rfl)⟩,
    ⟨_, _, _, rfl, rfl, rfl, VO.seg T_ok .dp 1 [1, 5, 7, 8, 9, 32] [0, 1, 2, 3] (φ := True ∧ True) (by kernel_rfl) ⟨trivial, trivial⟩ (VI.fin rfl)⟩,
    ⟨_, _, _, rfl, rfl, rfl, VO.seg T_ok .dp 1 [1, 5, 7, 8, 31, 33] [0, 1, 2] (φ := True ∧ True) (by kernel_rfl) ⟨trivial, trivial⟩ (VI.fin rfl)⟩,
    ⟨_, _, _, rfl, rfl, rfl, VO.seg T_ok .dp 1 [1, 5, 7, 8, 32, 33] [0, 1, 2] (φ := True ∧ True) (by kernel_rfl) ⟨trivial, trivial⟩ (VI.fin rfl)⟩,
    ⟨_, _, _, rfl, rfl, rfl, VO.seg T_ok .dp 1 [1, 5, 7, 8, 9, 33] [0, 1, 2, 3] (φ := True ∧ True) (by kernel_rfl) ⟨trivial, trivial⟩ (VI.fin rfl)⟩,
    ⟨_, _, _, rfl, rfl, rfl, VO.seg T_ok .dp 1 [1, 5, 7, 8, 9, 31] [0, 1, 2, 3] (φ := True ∧ True) (by kernel_rfl) ⟨trivial, trivial⟩ (VI.fin rfl)⟩,
    ⟨_, _, _, rfl, rfl, rfl, VO.seg T_ok .dp 1 [1, 5, 7, 8, 9, 32] [0, 1, 2, 3] (φ := True ∧ True) (by kernel_rfl) ⟨trivial, trivial⟩ (VI.fin rfl)⟩,
    ⟨_, _, _, rfl, rfl, rfl, VO.seg T_ok .dp 1 [1, 5, 7, 8, 9, 33] [0, 1, 2, 3] (φ := True ∧ True) (by kernel_rfl) ⟨trivial, trivial⟩ (VI.fin rfl)⟩,
    ⟨_, _, _, rfl, rfl, rfl, VO.seg T_ok .dp 1 [1, 5, 7, 8, 31, 32, 33] [0, 1, 2] (φ := True ∧ True) (by kernel_rfl) ⟨trivial, trivial⟩ (VI.fin rfl)⟩,
    ⟨_, _, _, rfl, rfl, rfl, VO.seg T_ok .dp 1 [1, 5, 7, 8, 9, 31, 32] [0, 1, 2, 3] (φ := True ∧ True) (by kernel_rfl) ⟨trivial, trivial⟩ (VI.fin rfl)⟩,
    ⟨_, _, _, rfl, rfl, rfl, VO.seg T_ok .dp 1 [1, 5, 7, 8, 31, 32, 33] [0, 1, 2] (φ := True ∧ True) (by kernel_rfl) ⟨trivial, trivial⟩ (VI.fin rfl)⟩,
    ⟨_, _, _, rfl, rfl, rfl, VO.seg T_ok .dp 1 [1, 5, 7, 8, 9, 31, 33] [0, 1, 2, 3] (φ := True ∧ True) (by kernel_rfl) ⟨trivial, trivial⟩ (VI.fin rfl)⟩,
    ⟨_, _, _, rfl, rfl, rfl, VO.seg T_ok .dp 1 [1, 5, 7, 8, 9, 31, 32] [0, 1, 2, 3] (φ := True ∧ True) (by kernel_rfl) ⟨trivial, trivial⟩ (VI.fin rfl)⟩,
    ⟨_, _, _, rfl, rfl, rfl, VO.seg T_ok .dp 1 [1, 5, 7, 8, 9, 31, 33] [0, 1, 2, 3] (φ := True ∧ True) (by kernel_rfl) ⟨trivial, trivial⟩ (VI.fin rfl)⟩,
    ⟨_, _, _, rfl, rfl, rfl, VO.seg T_ok .dp 1 [1, 5, 7, 8, 31, 32, 33] [0, 1, 2] (φ := True ∧ True) (by kernel_rfl) ⟨trivial, trivial⟩ (VI.fin rfl)⟩,
    ⟨_, _, _, rfl, rfl, rfl, VO.seg T_ok .dp 1 [1, 5, 7, 8, 34] [0, 1, 2] (φ := (InR x108 a1.length) ∧ True) (by kernel_rfl) ⟨g143, trivial⟩ (VI.fin rfl)⟩,
    ⟨_, _, _, rfl, rfl, rfl, VO.seg T_ok .dp 1 [1, 5, 7, 8, 9, 32, 33] [0, 1, 2, 3] (φ := True ∧ True) (by kernel_rfl) ⟨trivial, trivial⟩ (VI.fin rfl)⟩,
    ⟨_, _, _, rfl, rfl, rfl, VO.seg T_ok .dp 1 [1, 5, 7, 8, 9, 31, 32] [0, 1, 2, 3] (φ := True ∧ True) (by kernel_rfl) ⟨trivial, trivial⟩ (VI.fin rfl)⟩,
    ⟨_, _, _, rfl, rfl, rfl, VO.seg T_ok .dp 1 [1, 5, 7, 8, 9, 32, 33] [0, 1, 2, 3] (φ := True ∧ True) (by kernel_rfl) ⟨trivial, trivial⟩ (VI.fin rfl)⟩,
    ⟨_, _, _, rfl, rfl, rfl, VO.seg T_ok .dp 1 [1, 5, 7, 8, 9, 31, 33] [0, 1, 2, 3] (φ := True ∧ True) (by kernel_rfl) ⟨trivial, trivial⟩ (VI.fin rfl)⟩,
    ⟨_, _, _, rfl, rfl, rfl, VO.seg T_ok .dp 1 [1, 5, 7, 8, 9, 32, 33] [0, 1, 2, 3] (φ := True ∧ True) (by kernel_rfl) ⟨trivial, trivial⟩ (VI.fin rfl)⟩,
    ⟨_, _, _, rfl, rfl, rfl, VO.seg T_ok .dp 1 [1, 5, 7, 8, 31, 34] [0, 1, 2] (φ := (InR x108 a1.length) ∧ True) (by kernel_rfl) ⟨g143, trivial⟩ (VI.fin rfl)⟩,
    ⟨_, _, _, rfl, rfl, rfl, VO.seg T_ok .dp 1 [1, 5, 7, 8, 9, 31, 32, 33] [0, 1, 2, 3] (φ := True ∧ True) (by kernel_rfl) ⟨trivial, trivial⟩ (VI.fin rfl)⟩,
    ⟨_, _, _, rfl, rfl, rfl, VO.seg T_ok .dp 1 [1, 5, 7, 8, 9, 31, 32, 33] [0, 1, 2, 3] (φ := True ∧ True) (by kernel_rfl) ⟨trivial, trivial⟩ (VI.fin rfl)⟩,
    ⟨_, _, _, rfl, rfl, rfl, VO.seg T_ok .dp 1 [1, 5, 7, 8, 9, 31, 32, 33] [0, 1, 2, 3] (φ := True ∧ True) (by kernel_rfl) ⟨trivial, trivial⟩ (VI.fin rfl)⟩,
    ⟨_, _, _, rfl, rfl, rfl, VO.seg T_ok .dp 1 [1, 5, 7, 8, 31, 34] [0, 1, 2] (φ := True ∧ True) (by kernel_rfl) ⟨trivial, trivial⟩ (VI.fin rfl)⟩,
    ⟨_, _, _, rfl, rfl, rfl, VO.seg T_ok .dp 1 [1, 5, 7, 8, 35] [0, 1, 2] (φ := True ∧ True) (by kernel_rfl) ⟨trivial, trivial⟩ (VI.fin rfl)⟩,
    ⟨_, _, _, rfl, rfl, rfl, VO.seg T_ok .dp 1 [1, 5, 7, 8, 9, 34] [0, 1, 2, 3] (φ := True ∧ True) (by kernel_rfl) ⟨trivial, trivial⟩ (VI.fin rfl)⟩,
    ⟨_, _, _, rfl, rfl, rfl, VO.seg T_ok .dp 1 [1, 5, 7, 8, 9, 31, 32, 33] [0, 1, 2, 3] (φ := True ∧ True) (by kernel_rfl) ⟨trivial, trivial⟩ (VI.fin rfl)⟩,
    ⟨_, _, _, rfl, rfl, rfl, VO.seg T_ok .dp 1 [1, 5, 7, 8, 9, 34] [0, 1, 2, 3] (φ := (InR x108 a1.length) ∧ True) (by kernel_rfl) ⟨g143, trivial⟩ (VI.fin rfl)⟩,
    ⟨_, _, _, rfl, rfl, rfl, VO.seg T_ok .dp 1 [1, 5, 7, 8, 31, 35] [0, 1, 2] (φ := True ∧ True) (by kernel_rfl) ⟨trivial, trivial⟩ (VI.fin rfl)⟩,
    ⟨_, _, _, rfl, rfl, rfl, VO.seg T_ok .dp 1 [1, 5, 7, 8, 9, 31, 34] [0, 1, 2, 3] (φ := True ∧ True) (by kernel_rfl) ⟨trivial, trivial⟩ (VI.fin rfl)⟩,
    ⟨_, _, _, rfl, rfl, rfl, VO.seg T_ok .dp 1 [1, 5, 7, 8, 9, 31, 34] [0, 1, 2, 3] (φ := (InR x108 a1.length) ∧ True) (by kernel_rfl) ⟨g143, trivial⟩ (VI.fin rfl)⟩,
    ⟨_, _, _, rfl, rfl, rfl, VO.seg T_ok .dp 1 [1, 5, 7, 8, 31, 35] [0, 1, 2] (φ := True ∧ True) (by kernel_rfl) ⟨trivial, trivial⟩ (VI.fin rfl)⟩,
    ⟨_, _, _, rfl, rfl, rfl, VO.seg T_ok .dp 1 [1, 5, 7, 8, 9, 35] [0, 1, 2, 3] (φ := True ∧ True) (by kernel_rfl) ⟨trivial, trivial⟩ (VI.fin rfl)⟩,
    ⟨_, _, _, rfl, rfl, rfl, VO.seg T_ok .dp 1 [1, 5, 7, 8, 9, 31, 34] [0, 1, 2, 3] (φ := True ∧ True) (by kernel_rfl) ⟨trivial, trivial⟩ (VI.fin rfl)⟩,
    ⟨_, _, _, rfl, rfl, rfl, VO.seg T_ok .dp 1 [1, 5, 7, 8, 9, 35] [0, 1, 2, 3] (φ := True ∧ True) (by kernel_rfl) ⟨trivial, trivial⟩ (VI.fin rfl)⟩,
    ⟨_, _, _, rfl, rfl, rfl, by
      refine VO.call true [.t Y23, .t (.int .i64)] [] T_ok (d := some 36) (by kernel_rfl) (ok35 N _ _ hy144) rfl ?_
      exact VO.ghl [.ren [1, 5, 7, 8, 36] [0, 1, 2, 3, 4]] (VI.fin (by kernel_rfl))⟩,
    ⟨_, _, _, rfl, rfl, rfl, VO.seg T_ok .dp 1 [1, 5, 7, 8, 9, 31, 35] [0, 1, 2, 3] (φ := True ∧ True) (by kernel_rfl) ⟨trivial, trivial⟩ (VI.fin rfl)⟩,
    ⟨_, _, _, rfl, rfl, rfl, VO.seg T_ok .dp 1 [1, 5, 7, 8, 9, 31, 35] [0, 1, 2, 3] (φ := True ∧ True) (by kernel_rfl) ⟨trivial, trivial⟩ (VI.fin rfl)⟩,
    ⟨_, _, _, rfl, rfl, rfl, VO.seg T_ok .dp 1 [1, 5, 7, 8, 9, 31, 35] [0, 1, 2, 3] (φ := True ∧ True) (by kernel_rfl) ⟨trivial, trivial⟩ (VI.fin rfl)⟩,
    ⟨_, _, _, rfl, rfl, rfl, VO.seg T_ok .dp 1 [1, 5, 7, 8, 30] [0, 1, 2, 3, 4] (φ := True ∧ True) (by kernel_rfl) ⟨trivial, trivial⟩ (VI.fin rfl)⟩,
    ⟨_, _, _, rfl, rfl, rfl, VO.seg T_ok .dp 1 [1, 5, 7, 8, 9, 36] [0, 1, 2, 5, 3, 4] (φ := True ∧ True) (by kernel_rfl) ⟨trivial, trivial⟩ (VI.fin rfl)⟩,
    ⟨_, _, _, rfl, rfl, rfl, by
      refine VO.call true [.t Y23, .t (.int .i64)] [] T_ok (d := some 36) (by kernel_rfl) (ok35 N _ _ hy144) rfl ?_
      exact VO.ghl [.ren [1, 5, 7, 8, 9, 36] [0, 1, 2, 3, 4, 5]] (VI.fin (by kernel_rfl))⟩,
    ⟨_, _, _, rfl, rfl, rfl, VO.seg T_ok .dp 1 [1, 5, 7, 8, 30, 37] [0, 1, 2, 3, 4] (φ := True ∧ True) (by kernel_rfl) ⟨trivial, trivial⟩ (VI.fin rfl)⟩,
    ⟨_, _, _, rfl, rfl, rfl, VO.seg T_ok .dp 1 [1, 5, 7, 8, 30, 38] [0, 1, 2, 3, 4] (φ := True ∧ True) (by kernel_rfl) ⟨trivial, trivial⟩ (VI.fin rfl)⟩,
    ⟨_, _, _, rfl, rfl, rfl, VO.seg T_ok .dp 1 [1, 5, 7, 8, 30, 39] [0, 1, 2, 3, 4] (φ := True ∧ True) (by kernel_rfl) ⟨trivial, trivial⟩ (VI.fin rfl)⟩,
    ⟨_, _, _, rfl, rfl, rfl, VO.seg T_ok .dp 1 [1, 5, 7, 8, 9, 30] [0, 1, 2, 5, 3, 4] (φ := True ∧ True) (by kernel_rfl) ⟨trivial, trivial⟩ (VI.fin rfl)⟩,
    ⟨_, _, _, rfl, rfl, rfl, VO.seg T_ok .dp 1 [1, 5, 7, 8, 9, 30] [0, 1, 2, 3, 4, 5] (φ := True ∧ True) (by kernel_rfl) ⟨trivial, trivial⟩ (VI.fin rfl)⟩,
    ⟨_, _, _, rfl, rfl, rfl, VO.seg T_ok .dp 1 [1, 5, 7, 8, 30, 37, 38] [0, 1, 2, 3, 4] (φ := True ∧ True) (by kernel_rfl) ⟨trivial, trivial⟩ (VI.fin rfl)⟩,
    ⟨_, _, _, rfl, rfl, rfl, VO.seg T_ok .dp 1 [1, 5, 7, 8, 30, 37, 39] [0, 1, 2, 3, 4] (φ := True ∧ True) (by kernel_rfl) ⟨trivial, trivial⟩ (VI.fin rfl)⟩,
    ⟨_, _, _, rfl, rfl, rfl, VO.seg T_ok .dp 1 [1, 5, 7, 8, 9, 30, 37] [0, 1, 2, 5, 3, 4] (φ := True ∧ True) (by kernel_rfl) ⟨trivial, trivial⟩ (VI.fin rfl)⟩,
    ⟨_, _, _, rfl, rfl, rfl, VO.seg T_ok .dp 1 [1, 5, 7, 8, 30, 37, 38] [0, 1, 2, 3, 4] (φ := True ∧ True) (by kernel_rfl) ⟨trivial, trivial⟩ (VI.fin rfl)⟩,
    ⟨_, _, _, rfl, rfl, rfl, VO.seg T_ok .dp 1 [1, 5, 7, 8, 30, 38, 39] [0, 1, 2, 3, 4] (φ := True ∧ True) (by kernel_rfl) ⟨trivial, trivial⟩ (VI.fin rfl)⟩,
    ⟨_, _, _, rfl, rfl, rfl, VO.seg T_ok .dp 1 [1, 5, 7, 8, 9, 30, 38] [0, 1, 2, 5, 3, 4] (φ := True ∧ True) (by kernel_rfl) ⟨trivial, trivial⟩ (VI.fin rfl)⟩,
    ⟨_, _, _, rfl, rfl, rfl, VO.seg T_ok .dp 1 [1, 5, 7, 8, 30, 37, 39] [0, 1, 2, 3, 4] (φ := True ∧ True) (by kernel_rfl) ⟨trivial, trivial⟩ (VI.fin rfl)⟩,
    ⟨_, _, _, rfl, rfl, rfl, VO.seg T_ok .dp 1 [1, 5, 7, 8, 30, 38, 39] [0, 1, 2, 3, 4] (φ := True ∧ True) (by kernel_rfl) ⟨trivial, trivial⟩ (VI.fin rfl)⟩,
    ⟨_, _, _, rfl, rfl, rfl, VO.seg T_ok .dp 1 [1, 5, 7, 8, 9, 30, 39] [0, 1, 2, 5, 3, 4] (φ := True ∧ True) (by kernel_rfl) ⟨trivial, trivial⟩ (VI.fin rfl)⟩,
    ⟨_, _, _, rfl, rfl, rfl, VO.seg T_ok .dp 1 [1, 5, 7, 8, 9, 30, 37] [0, 1, 2, 3, 4, 5] (φ := True ∧ True) (by kernel_rfl) ⟨trivial, trivial⟩ (VI.fin rfl)⟩,
    ⟨_, _, _, rfl, rfl, rfl, VO.seg T_ok .dp 1 [1, 5, 7, 8, 9, 30, 38] [0, 1, 2, 3, 4, 5] (φ := True ∧ True) (by kernel_rfl) ⟨trivial, trivial⟩ (VI.fin rfl)⟩,
    ⟨_, _, _, rfl, rfl, rfl, VO.seg T_ok .dp 1 [1, 5, 7, 8, 9, 30, 39] [0, 1, 2, 3, 4, 5] (φ := True ∧ True) (by kernel_rfl) ⟨trivial, trivial⟩ (VI.fin rfl)⟩,
    ⟨_, _, _, rfl, rfl, rfl, VO.seg T_ok .dp 1 [1, 5, 7, 8, 37, 38, 39] [0, 1, 2, 3, 4] (φ := True ∧ True) (by kernel_rfl) ⟨trivial, trivial⟩ (VI.fin rfl)⟩,
    ⟨_, _, _, rfl, rfl, rfl, VO.seg T_ok .dp 1 [1, 5, 7, 8, 9, 30, 37, 38] [0, 1, 2, 5, 3, 4] (φ := True ∧ True) (by kernel_rfl) ⟨trivial, trivial⟩ (VI.fin rfl)⟩,
    ⟨_, _, _, rfl, rfl, rfl, VO.seg T_ok .dp 1 [1, 5, 7, 8, 37, 38, 39] [0, 1, 2, 3, 4] (φ := True ∧ True) (by kernel_rfl) ⟨trivial, trivial⟩ (VI.fin rfl)⟩,
    ⟨_, _, _, rfl, rfl, rfl, VO.seg T_ok .dp 1 [1, 5, 7, 8, 9, 30, 37, 39] [0, 1, 2, 5, 3, 4] (φ := True ∧ True) (by kernel_rfl) ⟨trivial, trivial⟩ (VI.fin rfl)⟩,
    ⟨_, _, _, rfl, rfl, rfl, VO.seg T_ok .dp 1 [1, 5, 7, 8, 9, 30, 37, 38] [0, 1, 2, 3, 4, 5] (φ := True ∧ True) (by kernel_rfl) ⟨trivial, trivial⟩ (VI.fin rfl)⟩,
    ⟨_, _, _, rfl, rfl, rfl, VO.seg T_ok .dp 1 [1, 5, 7, 8, 9, 30, 37, 39] [0, 1, 2, 3, 4, 5] (φ := True ∧ True) (by kernel_rfl) ⟨trivial, trivial⟩ (VI.fin rfl)⟩,
    ⟨_, _, _, rfl, rfl, rfl, VO.seg T_ok .dp 1 [1, 5, 7, 8, 9, 30] [0, 1, 2, 3, 4, 5] (φ := True ∧ True) (by kernel_rfl) ⟨trivial, trivial⟩ (VI.fin rfl)⟩,
    ⟨_, _, _, rfl, rfl, rfl, VO.seg T_ok .dp 1 [1, 5, 7, 8, 37, 38, 39] [0, 1, 2, 3, 4] (φ := True ∧ True) (by kernel_rfl) ⟨trivial, trivial⟩ (VI.fin rfl)⟩,
    ⟨_, _, _, rfl, rfl, rfl, VO.seg T_ok .dp 1 [1, 5, 7, 8, 9, 30, 38, 39] [0, 1, 2, 5, 3, 4] (φ := True ∧ True) (by kernel_rfl) ⟨trivial, trivial⟩ (VI.fin rfl)⟩,
    ⟨_, _, _, rfl, rfl, rfl, VO.seg T_ok .dp 1 [1, 5, 7, 8, 9, 30, 37, 38] [0, 1, 2, 3, 4, 5] (φ := True ∧ True) (by kernel_rfl) ⟨trivial, trivial⟩ (VI.fin rfl)⟩,
    ⟨_, _, _, rfl, rfl, rfl, VO.seg T_ok .dp 1 [1, 5, 7, 8, 9, 30, 38, 39] [0, 1, 2, 3, 4, 5] (φ := True ∧ True) (by kernel_rfl) ⟨trivial, trivial⟩ (VI.fin rfl)⟩,
    ⟨_, _, _, rfl, rfl, rfl, VO.seg T_ok .dp 1 [1, 5, 7, 8, 9, 30, 37, 39] [0, 1, 2, 3, 4, 5] (φ := True ∧ True) (by kernel_rfl) ⟨trivial, trivial⟩ (VI.fin rfl)⟩,
    ⟨_, _, _, rfl, rfl, rfl, VO.seg T_ok .dp 1 [1, 5, 7, 8, 9, 30, 38, 39] [0, 1, 2, 3, 4, 5] (φ := True ∧ True) (by kernel_rfl) ⟨trivial, trivial⟩ (VI.fin rfl)⟩,
    ⟨_, _, _, rfl, rfl, rfl, VO.seg T_ok .dp 1 [1, 5, 7, 8, 9, 37, 38, 39] [0, 1, 2, 5, 3, 4] (φ := True ∧ True) (by kernel_rfl) ⟨trivial, trivial⟩ (VI.fin rfl)⟩,
    ⟨_, _, _, rfl, rfl, rfl, VO.seg T_ok .dp 1 [1, 5, 7, 8, 9, 37, 38, 39] [0, 1, 2, 3, 4, 5] (φ := True ∧ True) (by kernel_rfl) ⟨trivial, trivial⟩ (VI.fin rfl)⟩,
    ⟨_, _, _, rfl, rfl, rfl, VO.seg T_ok .dp 1 [1, 5, 7, 8, 9, 30, 38] [0, 1, 2, 3, 4, 5] (φ := True ∧ True) (by kernel_rfl) ⟨trivial, trivial⟩ (VI.fin rfl)⟩,
    ⟨_, _, _, rfl, rfl, rfl, VO.seg T_ok .dp 1 [1, 5, 7, 8, 9, 37, 38, 39] [0, 1, 2, 3, 4, 5] (φ := True ∧ True) (by kernel_rfl) ⟨trivial, trivial⟩ (VI.fin rfl)⟩,
    ⟨_, _, _, rfl, rfl, rfl, VO.seg T_ok .dp 1 [1, 5, 7, 8, 9, 30, 39] [0, 1, 2, 3, 4, 5] (φ := True ∧ True) (by kernel_rfl) ⟨trivial, trivial⟩ (VI.fin rfl)⟩,
    ⟨_, _, _, rfl, rfl, rfl, VO.seg T_ok .dp 1 [1, 5, 7, 8, 9, 30, 38] [0, 1, 2, 3, 4, 5] (φ := True ∧ True) (by kernel_rfl) ⟨trivial, trivial⟩ (VI.fin rfl)⟩,
    ⟨_, _, _, rfl, rfl, rfl, VO.seg T_ok .dp 1 [1, 5, 7, 8, 9, 30, 39] [0, 1, 2, 3, 4, 5] (φ := True ∧ True) (by kernel_rfl) ⟨trivial, trivial⟩ (VI.fin rfl)⟩,
    ⟨_, _, _, rfl, rfl, rfl, VO.seg T_ok .dp 1 [1, 5, 7, 8, 9, 37, 38, 39] [0, 1, 2, 3, 4, 5] (φ := True ∧ True) (by kernel_rfl) ⟨trivial, trivial⟩ (VI.fin rfl)⟩,
    ⟨_, _, _, rfl, rfl, rfl, VO.seg T_ok .dp 1 [1, 5, 7, 8, 9, 38, 39] [0, 1, 2, 3, 4, 5] (φ := True ∧ True) (by kernel_rfl) ⟨trivial, trivial⟩ (VI.fin rfl)⟩,
    ⟨_, _, _, rfl, rfl, rfl, VO.seg T_ok .dp 1 [1, 5, 7, 8, 9, 38, 39] [0, 1, 2, 3, 4, 5] (φ := True ∧ True) (by kernel_rfl) ⟨trivial, trivial⟩ (VI.fin rfl)⟩,
    ⟨_, _, _, rfl, rfl, rfl, VO.seg T_ok .dp 1 [1, 5, 7, 8, 9, 30] [0, 1, 2, 3, 4, 5] (φ := True ∧ True) (by kernel_rfl) ⟨trivial, trivial⟩ (VI.fin rfl)⟩,
    ⟨_, _, _, rfl, rfl, rfl, VO.seg T_ok .dp 1 [1, 5, 7, 8, 9, 38, 39] [0, 1, 2, 3, 4, 5] (φ := True ∧ True) (by kernel_rfl) ⟨trivial, trivial⟩ (VI.fin rfl)⟩,
    ⟨_, _, _, rfl, rfl, rfl, VO.seg T_ok .dp 1 [1, 5, 7, 8, 9, 39] [0, 1, 2, 3, 4, 5] (φ := True ∧ True) (by kernel_rfl) ⟨trivial, trivial⟩ (VI.fin rfl)⟩,
    ⟨_, _, _, rfl, rfl, rfl, VO.seg T_ok .dp 1 [1, 5, 7, 8, 9, 39] [0, 1, 2, 3, 4, 5] (φ := True ∧ True) (by kernel_rfl) ⟨trivial, trivial⟩ (VI.fin rfl)⟩,
    ⟨_, _, _, rfl, rfl, rfl, VO.seg T_ok .dp 1 [1, 5, 7, 8, 9, 11] [0, 1, 2, 3, 4, 5] (φ := True ∧ True) (by kernel_rfl) ⟨trivial, trivial⟩ (VI.fin rfl)⟩, trivial⟩ ?_
            show VW _ _ _ _ _ _ _
            refine VW.join (fun s => ∃ (x147 : Int) (x148 : Int) (x149 : (List Int)) (x150 : (List Int)), s = ⟨[(1, .lf (.v (.sl (.int .i64)) a1)), (5, .lf (.ptr 0 0 0 0)), (7, I x147), (8, I x108), (9, .lf (.ptr 3 0 0 0))], [bx [.v (.int .i64) x104, .hd 1 0 none, .hd 2 0 none] 24, ar 0 (.int .i64) x105 .dp, ar 0 (.int .i64) x106 .dp, bx [.v (.int .i64) x148, .hd 4 0 none, .hd 5 0 none] 24, ar 0 (.int .i64) x149 .dp, ar 0 (.int .i64) x150 .dp]⟩ ∧ F31_j1 N (F31_l0 N a1 k131) x108 x147 x148 x149 x150 = some r) ?_ ?_
            · refine VW.seq ?_
              refine VW.region ?_
              refine VO.seg T_ok .dp 1 [1, 5, 7, 8, 9, 40] [0, 1, 2, 3, 4, 5] (s' := ⟨[(1, .lf (.v (.sl (.int .i64)) a1)), (5, .lf (.ptr 0 0 0 0)), (7, I x107), (8, I x108), (9, .lf (.ptr 3 0 0 0)), (40, B y144.2.2)], [bx [.v (.int .i64) x104, .hd 1 0 none, .hd 2 0 none] 24, ar 0 (.int .i64) x105 .dp, ar 0 (.int .i64) x106 .dp, bx [.v (.int .i64) y144.1.1, .hd 4 0 none, .hd 5 0 none] 24, ar 0 (.int .i64) y144.1.2.1 .dp, ar 0 (.int .i64) y144.1.2.2 .dp]⟩) (φ := True ∧ True) (by kernel_rfl) ⟨trivial, trivial⟩ ?_
              refine VO.nil ?_
              show VW _ _ _ _ _ _ _
              refine VW.cond (b := y144.2.2) (by kernel_rfl) (fun hb => ?_) (fun hb => ?_)
              · replace h := cond_t h hb; clear hb
                refine VW.region ?_
                refine VO.seg T_ok .dp 3 [1, 5, 7, 8, 9] [0, 1, 2, 3, 4, 5] (s' := ⟨[(1, .lf (.v (.sl (.int .i64)) a1)), (5, .lf (.ptr 0 0 0 0)), (7, I (IntKind.i64.wrap (x107 + (1 : Int)))), (8, I x108), (9, .lf (.ptr 3 0 0 0))], [bx [.v (.int .i64) x104, .hd 1 0 none, .hd 2 0 none] 24, ar 0 (.int .i64) x105 .dp, ar 0 (.int .i64) x106 .dp, bx [.v (.int .i64) y144.1.1, .hd 4 0 none, .hd 5 0 none] 24, ar 0 (.int .i64) y144.1.2.1 .dp, ar 0 (.int .i64) y144.1.2.2 .dp]⟩) (φ := True ∧ True ∧ True ∧ True) (by kernel_rfl) ⟨trivial, trivial, trivial, trivial⟩ ?_
                refine VO.nil ?_
                exact arrive [.ren [1, 5, 7, 8, 9] [0, 1, 2, 3, 4, 5]] (by kernel_rfl) ⟨(IntKind.i64.wrap (x107 + (1 : Int))), y144.1.1, y144.1.2.1, y144.1.2.2, rfl, h⟩
              · replace h := cond_f h hb; clear hb
                obtain ⟨g152, h⟩ := gd_some h
                obtain ⟨y153, hy153, h⟩ := andO_some h
                refine VW.drawn (by kernel_rfl) [some (44, .agg [.v (.int .i64) x104, .hd 1 0 none, .hd 2 0 none]), some (45, .lf (.v (.sl (.int .i64)) a1)), some (46, I x108), some (47, .lf (.fp (.int .i64) (a1.getD x108.toNat (Ty.dflt (.int .i64))) 0)), some (48, I (a1.getD x108.toNat (Ty.dflt (.int .i64)))), some (49, .tup [.agg [.v (.int .i64) y153.1.1, .hd 6 0 none, .hd 7 0 none], .lf (.v (.int .i64) y153.2.1), .lf (.v .bool y153.2.2)]), some (43, .tup [.agg [.v (.int .i64) y153.1.1, .hd 6 0 none, .hd 7 0 none], .lf (.v (.int .i64) y153.2.1), .lf (.v .bool y153.2.2)]), some (50, .agg [.v (.int .i64) y153.1.1, .hd 6 0 none, .hd 7 0 none]), some (51, I y153.2.1), some (52, B y153.2.2), none] [5, 10] [[bx [.v (.int .i64) x104, .hd 1 0 none, .hd 2 0 none] 24, ar 0 (.int .i64) x105 .dp, ar 0 (.int .i64) x106 .dp, bx [.v (.int .i64) y144.1.1, .hd 4 0 none, .hd 5 0 none] 24, ar 0 (.int .i64) y144.1.2.1 .dp, ar 0 (.int .i64) y144.1.2.2 .dp], [bx [.v (.int .i64) x104, .hd 1 0 none, .hd 2 0 none] 24, ar 0 (.int .i64) x105 .dp, ar 0 (.int .i64) x106 .dp, bx [.v (.int .i64) y144.1.1, .hd 4 0 none, .hd 5 0 none] 24, ar 0 (.int .i64) y144.1.2.1 .dp, ar 0 (.int .i64) y144.1.2.2 .dp, ar 0 (.int .i64) y153.1.2.1 .dp, ar 0 (.int .i64) y153.1.2.2 .dp], [bx [.v (.int .i64) x104, .hd 1 0 none, .hd 2 0 none] 24, ar 0 (.int .i64) x105 .dp, ar 0 (.int .i64) x106 .dp, bx [.v (.int .i64) y153.1.1, .hd 6 0 none, .hd 7 0 none] 24, ar 0 (.int .i64) y144.1.2.1 .dp, ar 0 (.int .i64) y144.1.2.2 .dp, ar 0 (.int .i64) y153.1.2.1 .dp, ar 0 (.int .i64) y153.1.2.2 .dp]] [(0, 0), (1, 0), (1, 1), (2, 0), (2, 1), (3, 0), (3, 1), (4, 0), (5, 0), (6, 1), (7, 0), (7, 1), (8, 0), (8, 1), (8, 2), (9, 0), (9, 1), (9, 2), (10, 1)] [1, 5, 7, 8, 9] [0, 1, 2, 3, 6, 7] (s' := ⟨[(1, .lf (.v (.sl (.int .i64)) a1)), (5, .lf (.ptr 0 0 0 0)), (7, I x107), (8, I x108), (9, .lf (.ptr 3 0 0 0))], [bx [.v (.int .i64) x104, .hd 1 0 none, .hd 2 0 none] 24, ar 0 (.int .i64) x105 .dp, ar 0 (.int .i64) x106 .dp, bx [.v (.int .i64) y153.1.1, .hd 4 0 none, .hd 5 0 none] 24, ar 0 (.int .i64) y153.1.2.1 .dp, ar 0 (.int .i64) y153.1.2.2 .dp]⟩) (by kernel_rfl) (by kernel_rfl) ⟨⟨_, rfl, Stp.ev T_ok (m := .dp) (φ := True) (by kernel_rfl) trivial⟩,
    ⟨_, rfl, Stp.ev T_ok (m := .dp) (φ := True) (by kernel_rfl) trivial⟩,
    ⟨_, rfl, Stp.ev T_ok (m := .dp) (φ := True) (by kernel_rfl) trivial⟩,
    ⟨_, rfl, Stp.ev T_ok (m := .dp) (φ := True) (by kernel_rfl) trivial⟩,
    ⟨_, rfl, Stp.ev T_ok (m := .dp) (φ := True) (by kernel_rfl) trivial⟩,
    ⟨_, rfl, Stp.ev T_ok (m := .dp) (φ := InR x108 a1.length) (by kernel_rfl) g152⟩,
    ⟨_, rfl, Stp.ev T_ok (m := .dp) (φ := InR x108 a1.length) (by kernel_rfl) g152⟩,
    ⟨_, rfl, Stp.ev T_ok (m := .dp) (φ := True) (by kernel_rfl) trivial⟩,
    ⟨_, rfl, Stp.eq (Stp.call true [.t Y23, .t (.int .i64), .t (.int .i64)] [] T_ok (d := some 49) (by kernel_rfl) (ok37 N _ _ _ hy153) rfl) (by kernel_rfl) (by kernel_rfl)⟩,
    ⟨_, rfl, Stp.ev T_ok (m := .dp) (φ := True) (by kernel_rfl) trivial⟩,
    ⟨_, rfl, Stp.ev T_ok (m := .dp) (φ := True) (by kernel_rfl) trivial⟩,
    ⟨_, rfl, Stp.ev T_ok (m := .dp) (φ := True) (by kernel_rfl) trivial⟩,
    ⟨_, rfl, Stp.ev T_ok (m := .dp) (φ := True) (by kernel_rfl) trivial⟩,
    ⟨_, rfl, Stp.ev T_ok (m := .dp) (φ := True) (by kernel_rfl) trivial⟩,
    ⟨_, rfl, Stp.ev T_ok (m := .dp) (φ := True) (by kernel_rfl) trivial⟩,
    ⟨_, rfl, Stp.ev T_ok (m := .dp) (φ := True) (by kernel_rfl) trivial⟩,
    ⟨_, rfl, Stp.ev T_ok (m := .dp) (φ := True) (by kernel_rfl) trivial⟩,
    ⟨_, rfl, Stp.ev T_ok (m := .dp) (φ := True) (by kernel_rfl) trivial⟩,
    ⟨_, rfl, Stp.ev T_ok (m := .dp) (φ := True) (by kernel_rfl) trivial⟩, trivial⟩ (by kernel_rfl) ?_
                exact arrive [.ren [1, 5, 7, 8, 9] [0, 1, 2, 3, 4, 5]] (by kernel_rfl) ⟨x107, y153.1.1, y153.1.2.1, y153.1.2.2, rfl, h⟩
            · rintro s ⟨x147, x148, x149, x150, rfl, h⟩
              unfold F31_j1 at h
              refine VW.region ?_
              refine VO.seg T_ok .dp 2 [1, 5, 7, 8] [0, 4, 5] (s' := ⟨[(1, .lf (.v (.sl (.int .i64)) a1)), (5, .lf (.ptr 0 0 0 0)), (7, I x147), (8, I x108)], [bx [.v (.int .i64) x148, .hd 1 0 none, .hd 2 0 none] 24, ar 0 (.int .i64) x149 .dp, ar 0 (.int .i64) x150 .dp]⟩) (φ := True ∧ True ∧ True) (by kernel_rfl) ⟨trivial, trivial, trivial⟩ ?_
              refine VO.nil ?_
              show VW _ _ _ _ _ _ _
              refine VW.region ?_
              refine VO.seg T_ok .dp 3 [1, 5, 7, 8] [0, 1, 2] (s' := ⟨[(1, .lf (.v (.sl (.int .i64)) a1)), (5, .lf (.ptr 0 0 0 0)), (7, I x147), (8, I (IntKind.i64.wrap (x108 + (1 : Int))))], [bx [.v (.int .i64) x148, .hd 1 0 none, .hd 2 0 none] 24, ar 0 (.int .i64) x149 .dp, ar 0 (.int .i64) x150 .dp]⟩) (φ := True ∧ True ∧ True ∧ True) (by kernel_rfl) ⟨trivial, trivial, trivial, trivial⟩ ?_
              refine VO.nil ?_
              exact around [.ren [1, 5, 7, 8] [0, 1, 2]] (by kernel_rfl) ⟨x148, x149, x150, x147, (IntKind.i64.wrap (x108 + (1 : Int))), rfl, h⟩
          · replace h := cond_f h hb; clear hb
            refine VW.exit ?_
            exact arrive [.ren [7] []] (by kernel_rfl) ⟨x107, rfl, h⟩
      · rintro s ⟨x77, rfl, h⟩
        unfold F31_j0 at h
        refine VW.seq ?_
        refine VW.region ?_
        refine VO.seg T_ok .dp 2 [4] [] (s' := ⟨[(4, I x77)], []⟩) (φ := True ∧ True ∧ True) (by kernel_rfl) ⟨trivial, trivial, trivial⟩ ?_
        refine VO.nil ?_
        show VW _ _ _ _ _ _ _
        refine VW.ret ?_
        replace h := Option.some.inj h
        subst h
        exact retR [] (by kernel_rfl) rfl

/- (loop.example/g00844/impl.Cache).ahead -/
def F62_j0 (N : Nat) (a1 : Int) (a2 : Int) (x3 : Int) (x4 : (List Int)) (x5 : (List Int)) : Option ((Int × ((List Int) × (List Int)))) :=
  gd (([a1]).length + x4.length ≤ lim (.int .i64)) (gd (([a2]).length + x5.length ≤ lim (.int .i64)) (some (x3, ((([a1]) ++ x4), (([a2]) ++ x5)))))
def F62 (N : Nat) (a0 : (Int × ((List Int) × (List Int)))) (a1 : Int) (a2 : Int) : Option ((Int × ((List Int) × (List Int)))) :=
  andO (F54 N a0.2.1 a1) fun y9 => cond (decide (y9 ≥ (0 : Int))) (andO (F60 N a0 y9) fun y10 => F62_j0 N a1 a2 y10.1 y10.2.1 y10.2.2) (F62_j0 N a1 a2 a0.1 a0.2.1 a0.2.2)
theorem ok62 (N : Nat) (a0 : (Int × ((List Int) × (List Int)))) (a1 : Int) (a2 : Int) {r : (Int × ((List Int) × (List Int)))} (h : F62 N a0 a1 a2 = some r) : Con Go.Proofs.Try.prog 62 [.agg [.v (.int .i64) a0.1, .v (.sl (.int .i64)) a0.2.1, .v (.sl (.int .i64)) a0.2.2], I a1, I a2] [.agg [.v (.int .i64) r.1, .own (.int .i64) r.2.1 .dp, .own (.int .i64) r.2.2 .dp]] := by
  refine ⟨enters_of Go.Proofs.Try.func62 rfl (by decide), HC.intro [.agg [.v (.int .i64), .own (.int .i64) .dp, .own (.int .i64) .dp]] T_ok Go.Proofs.Try.func62 rfl (Nat.le_of_ble_eq_true rfl) (Nat.le_of_ble_eq_true rfl) fun w0 E0 => ?_⟩
  unfold F62 at h
  show VW _ _ _ _ _ (retQ _ _ _ _) _
  refine VW.seq ?_
  refine VW.region ?_
  refine VO.seg T_ok .dp 2 [1, 2, 3, 6] [0, 1] (s' := ⟨[(1, I a1), (2, I a2), (3, .lf (.ptr 0 0 0 0)), (6, .lf (.ptr 1 0 0 0))], [bx [.v (.int .i64) a0.1, .v (.sl (.int .i64)) a0.2.1, .v (.sl (.int .i64)) a0.2.2] 24, bx [.v (.int .i64) (0 : Int), .nil, .nil] 24]⟩) (φ := True ∧ True ∧ True) (by kernel_rfl) ⟨trivial, trivial, trivial⟩ ?_
  refine VO.nil ?_
  show VW _ _ _ _ _ _ _
  refine VW.join (fun s => ∃ (x3 : Int) (x4 : (List Int)) (x5 : (List Int)), s = ⟨[(1, I a1), (2, I a2), (3, .lf (.ptr 0 0 0 0)), (6, .lf (.ptr 1 0 0 0))], [bx [.v (.int .i64) x3, .v (.sl (.int .i64)) x4, .v (.sl (.int .i64)) x5] 24, bx [.v (.int .i64) (0 : Int), .nil, .nil] 24]⟩ ∧ F62_j0 N a1 a2 x3 x4 x5 = some r) ?_ ?_
  · refine VW.seq ?_
    refine VW.region ?_
    refine VO.seg T_ok .dp 3 [1, 2, 3, 6, 9, 10] [0, 1] (s' := ⟨[(1, I a1), (2, I a2), (3, .lf (.ptr 0 0 0 0)), (6, .lf (.ptr 1 0 0 0)), (9, .lf (.v (.sl (.int .i64)) a0.2.1)), (10, I a1)], [bx [.v (.int .i64) a0.1, .v (.sl (.int .i64)) a0.2.1, .v (.sl (.int .i64)) a0.2.2] 24, bx [.v (.int .i64) (0 : Int), .nil, .nil] 24]⟩) (φ := True ∧ True ∧ True ∧ True) (by kernel_rfl) ⟨trivial, trivial, trivial, trivial⟩ ?_
    obtain ⟨y9, hy, h⟩ := andO_some h
    refine VO.call false [.t (.sl (.int .i64)), .t (.int .i64)] [] T_ok (d := some 11) (by kernel_rfl) (ok54 N _ _ hy) rfl ?_
    refine VO.seg T_ok .dp 1 [1, 2, 3, 6, 7] [0, 1] (s' := ⟨[(1, I a1), (2, I a2), (3, .lf (.ptr 0 0 0 0)), (6, .lf (.ptr 1 0 0 0)), (7, I y9)], [bx [.v (.int .i64) a0.1, .v (.sl (.int .i64)) a0.2.1, .v (.sl (.int .i64)) a0.2.2] 24, bx [.v (.int .i64) (0 : Int), .nil, .nil] 24]⟩) (φ := True ∧ True) (by kernel_rfl) ⟨trivial, trivial⟩ ?_
    refine VO.nil ?_
    show VW _ _ _ _ _ _ _
    refine VW.seq ?_
    refine VW.region ?_
    refine VO.seg T_ok .dp 2 [1, 2, 3, 6, 7, 13] [0, 1] (s' := ⟨[(1, I a1), (2, I a2), (3, .lf (.ptr 0 0 0 0)), (6, .lf (.ptr 1 0 0 0)), (7, I y9), (13, B (decide (y9 ≥ (0 : Int))))], [bx [.v (.int .i64) a0.1, .v (.sl (.int .i64)) a0.2.1, .v (.sl (.int .i64)) a0.2.2] 24, bx [.v (.int .i64) (0 : Int), .nil, .nil] 24]⟩) (φ := True ∧ True ∧ True) (by kernel_rfl) ⟨trivial, trivial, trivial⟩ ?_
    refine VO.nil ?_
    show VW _ _ _ _ _ _ _
    refine VW.cond (b := (decide (y9 ≥ (0 : Int)))) (by kernel_rfl) (fun hb => ?_) (fun hb => ?_)
    · replace h := cond_t h hb; clear hb
      refine VW.region ?_
      refine VO.seg T_ok .dp 2 [1, 2, 3, 6, 14, 15] [0, 1] (s' := ⟨[(1, I a1), (2, I a2), (3, .lf (.ptr 0 0 0 0)), (6, .lf (.ptr 1 0 0 0)), (14, .agg [.v (.int .i64) a0.1, .v (.sl (.int .i64)) a0.2.1, .v (.sl (.int .i64)) a0.2.2]), (15, I y9)], [bx [.v (.int .i64) a0.1, .v (.sl (.int .i64)) a0.2.1, .v (.sl (.int .i64)) a0.2.2] 24, bx [.v (.int .i64) (0 : Int), .nil, .nil] 24]⟩) (φ := True ∧ True ∧ True) (by kernel_rfl) ⟨trivial, trivial, trivial⟩ ?_
      obtain ⟨y10, hy, h⟩ := andO_some h
      refine VO.call false [.t Y23, .t (.int .i64)] [] T_ok (d := some 16) (by kernel_rfl) (ok60 N _ _ hy) rfl ?_
      refine VO.seg T_ok .dp 1 [1, 2, 3, 6] [0, 2, 3, 1] (s' := ⟨[(1, I a1), (2, I a2), (3, .lf (.ptr 0 0 0 0)), (6, .lf (.ptr 3 0 0 0))], [bx [.v (.int .i64) y10.1, .hd 1 0 none, .hd 2 0 none] 24, ar 0 (.int .i64) y10.2.1 .dp, ar 0 (.int .i64) y10.2.2 .dp, bx [.v (.int .i64) (0 : Int), .nil, .nil] 24]⟩) (φ := True ∧ True) (by kernel_rfl) ⟨trivial, trivial⟩ ?_
      refine VO.nil ?_
      exact arrive [.frz 1, .frz 2, .ren [1, 2, 3, 6] [0, 3]] (by kernel_rfl) ⟨y10.1, y10.2.1, y10.2.2, rfl, h⟩
    · replace h := cond_f h hb; clear hb
      refine VW.skip ?_
      exact arrive [.ren [1, 2, 3, 6] [0, 1]] (by kernel_rfl) ⟨a0.1, a0.2.1, a0.2.2, rfl, h⟩
  · rintro s ⟨x3, x4, x5, rfl, h⟩
    unfold F62_j0 at h
    refine VW.seq ?_
    refine VW.region ?_
    obtain ⟨g6, h⟩ := gd_some h
    refine VO.seg T_ok .dp 7 [2, 3, 6] [0, 2, 1] (s' := ⟨[(2, I a2), (3, .lf (.ptr 0 0 0 0)), (6, .lf (.ptr 2 0 0 0))], [bx [.v (.int .i64) x3, .hd 1 0 none, .v (.sl (.int .i64)) x5] 24, ar 0 (.int .i64) (([a1]) ++ x4) .dp, bx [.v (.int .i64) (0 : Int), .nil, .nil] 24]⟩) (φ := True ∧ True ∧ True ∧ True ∧ (([a1]).length + x4.length ≤ lim (.int .i64)) ∧ True ∧ True ∧ True) (by kernel_rfl) ⟨trivial, trivial, trivial, trivial, g6, trivial, trivial, trivial⟩ ?_
    refine VO.nil ?_
    show VW _ _ _ _ _ _ _
    refine VW.seq ?_
    refine VW.region ?_
    obtain ⟨g7, h⟩ := gd_some h
    refine VO.seg T_ok .dp 7 [3, 6] [0, 1, 3, 2] (s' := ⟨[(3, .lf (.ptr 0 0 0 0)), (6, .lf (.ptr 3 0 0 0))], [bx [.v (.int .i64) x3, .hd 1 0 none, .hd 2 0 none] 24, ar 0 (.int .i64) (([a1]) ++ x4) .dp, ar 0 (.int .i64) (([a2]) ++ x5) .dp, bx [.v (.int .i64) (0 : Int), .nil, .nil] 24]⟩) (φ := True ∧ True ∧ True ∧ True ∧ (([a2]).length + x5.length ≤ lim (.int .i64)) ∧ True ∧ True ∧ True) (by kernel_rfl) ⟨trivial, trivial, trivial, trivial, g7, trivial, trivial, trivial⟩ ?_
    refine VO.nil ?_
    show VW _ _ _ _ _ _ _
    refine VW.seq ?_
    refine VW.region ?_
    refine VO.seg T_ok .dp 2 [6] [3, 1, 2] (s' := ⟨[(6, .lf (.ptr 0 0 0 0))], [bx [.v (.int .i64) x3, .hd 1 0 none, .hd 2 0 none] 24, ar 0 (.int .i64) (([a1]) ++ x4) .dp, ar 0 (.int .i64) (([a2]) ++ x5) .dp]⟩) (φ := True ∧ True ∧ True) (by kernel_rfl) ⟨trivial, trivial, trivial⟩ ?_
    refine VO.nil ?_
    show VW _ _ _ _ _ _ _
    refine VW.ret ?_
    replace h := Option.some.inj h
    subst h
    exact retR [some 1, some 2] (by kernel_rfl) rfl

/- loop.example/g00844/impl.GetKey -/
def F36 (N : Nat) (a0 : (Int × ((List Int) × (List Int)))) (a1 : Int) : Option ((Int × ((List Int) × (List Int))) × Int × Bool) :=
  andO (F56 N a0 a1) fun y1 => cond (decide (y1 < (0 : Int))) (andO (F58 N a0) fun y3 => some (y3, (0 : Int), false)) (gd (InR y1 a0.2.2.length) (andO (F62 N a0 a1 (a0.2.2.getD y1.toNat (Ty.dflt (.int .i64)))) fun y5 => some (y5, (a0.2.2.getD y1.toNat (Ty.dflt (.int .i64))), true)))
theorem ok36 (N : Nat) (a0 : (Int × ((List Int) × (List Int)))) (a1 : Int) {r : (Int × ((List Int) × (List Int))) × Int × Bool} (h : F36 N a0 a1 = some r) : Con Go.Proofs.Try.prog 36 [.agg [.v (.int .i64) a0.1, .v (.sl (.int .i64)) a0.2.1, .v (.sl (.int .i64)) a0.2.2], I a1] [.agg [.v (.int .i64) r.1.1, .own (.int .i64) r.1.2.1 .dp, .own (.int .i64) r.1.2.2 .dp], .lf (.v (.int .i64) r.2.1), .lf (.v .bool r.2.2)] := by
  refine ⟨enters_of Go.Proofs.Try.func36 rfl (by decide), HC.intro [.agg [.v (.int .i64), .own (.int .i64) .dp, .own (.int .i64) .dp], .lf (.v (.int .i64)), .lf (.v .bool)] T_ok Go.Proofs.Try.func36 rfl (Nat.le_of_ble_eq_true rfl) (Nat.le_of_ble_eq_true rfl) fun w0 E0 => ?_⟩
  unfold F36 at h
  show VW _ _ _ _ _ (retQ _ _ _ _) _
  refine VW.seq ?_
  refine VW.region ?_
  refine VO.seg T_ok .dp 4 [1, 2, 4] [0, 1] (s' := ⟨[(1, I a1), (2, .lf (.ptr 0 0 0 0)), (4, .lf (.ptr 1 0 0 0))], [bx [.v (.int .i64) a0.1, .v (.sl (.int .i64)) a0.2.1, .v (.sl (.int .i64)) a0.2.2] 24, bx [.v (.int .i64) (0 : Int), .nil, .nil] 24]⟩) (φ := True ∧ True ∧ True ∧ True ∧ True) (by kernel_rfl) ⟨trivial, trivial, trivial, trivial, trivial⟩ ?_
  refine VO.nil ?_
  show VW _ _ _ _ _ _ _
  refine VW.seq ?_
  refine VW.region ?_
  refine VO.seg T_ok .dp 2 [1, 2, 4, 9, 10] [0, 1] (s' := ⟨[(1, I a1), (2, .lf (.ptr 0 0 0 0)), (4, .lf (.ptr 1 0 0 0)), (9, .agg [.v (.int .i64) a0.1, .v (.sl (.int .i64)) a0.2.1, .v (.sl (.int .i64)) a0.2.2]), (10, I a1)], [bx [.v (.int .i64) a0.1, .v (.sl (.int .i64)) a0.2.1, .v (.sl (.int .i64)) a0.2.2] 24, bx [.v (.int .i64) (0 : Int), .nil, .nil] 24]⟩) (φ := True ∧ True ∧ True) (by kernel_rfl) ⟨trivial, trivial, trivial⟩ ?_
  obtain ⟨y1, hy, h⟩ := andO_some h
  refine VO.call false [.t Y23, .t (.int .i64)] [] T_ok (d := some 11) (by kernel_rfl) (ok56 N _ _ hy) rfl ?_
  refine VO.seg T_ok .dp 1 [1, 2, 4, 7] [0, 1] (s' := ⟨[(1, I a1), (2, .lf (.ptr 0 0 0 0)), (4, .lf (.ptr 1 0 0 0)), (7, I y1)], [bx [.v (.int .i64) a0.1, .v (.sl (.int .i64)) a0.2.1, .v (.sl (.int .i64)) a0.2.2] 24, bx [.v (.int .i64) (0 : Int), .nil, .nil] 24]⟩) (φ := True ∧ True) (by kernel_rfl) ⟨trivial, trivial⟩ ?_
  refine VO.nil ?_
  show VW _ _ _ _ _ _ _
  refine VW.seq ?_
  refine VW.seq ?_
  refine VW.region ?_
  refine VO.seg T_ok .dp 2 [1, 2, 4, 7, 13] [0, 1] (s' := ⟨[(1, I a1), (2, .lf (.ptr 0 0 0 0)), (4, .lf (.ptr 1 0 0 0)), (7, I y1), (13, B (decide (y1 < (0 : Int))))], [bx [.v (.int .i64) a0.1, .v (.sl (.int .i64)) a0.2.1, .v (.sl (.int .i64)) a0.2.2] 24, bx [.v (.int .i64) (0 : Int), .nil, .nil] 24]⟩) (φ := True ∧ True ∧ True) (by kernel_rfl) ⟨trivial, trivial, trivial⟩ ?_
  refine VO.nil ?_
  show VW _ _ _ _ _ _ _
  refine VW.cond (b := (decide (y1 < (0 : Int)))) (by kernel_rfl) (fun hb => ?_) (fun hb => ?_)
  · replace h := cond_t h hb; clear hb
    refine VW.seq ?_
    refine VW.region ?_
    refine VO.seg T_ok .dp 1 [4, 14] [1] (s' := ⟨[(4, .lf (.ptr 0 0 0 0)), (14, .agg [.v (.int .i64) a0.1, .v (.sl (.int .i64)) a0.2.1, .v (.sl (.int .i64)) a0.2.2])], [bx [.v (.int .i64) (0 : Int), .nil, .nil] 24]⟩) (φ := True ∧ True) (by kernel_rfl) ⟨trivial, trivial⟩ ?_
    obtain ⟨y3, hy, h⟩ := andO_some h
    refine VO.call false [.t Y23] [] T_ok (d := some 15) (by kernel_rfl) (ok58 N _ hy) rfl ?_
    refine VO.seg T_ok .dp 3 [4, 5, 6] [0, 1, 2] (s' := ⟨[(4, .lf (.ptr 0 0 0 0)), (5, I (0 : Int)), (6, B false)], [bx [.v (.int .i64) y3.1, .hd 1 0 none, .hd 2 0 none] 24, ar 0 (.int .i64) y3.2.1 .dp, ar 0 (.int .i64) y3.2.2 .dp]⟩) (φ := True ∧ True ∧ True ∧ True) (by kernel_rfl) ⟨trivial, trivial, trivial, trivial⟩ ?_
    refine VO.nil ?_
    show VW _ _ _ _ _ _ _
    refine VW.ret ?_
    replace h := Option.some.inj h
    subst h
    exact retR [some 1, some 2] (by kernel_rfl) rfl
  · replace h := cond_f h hb; clear hb
    refine VW.skip ?_
    show VW _ _ _ _ _ _ _
    refine VW.seq ?_
    refine VW.region ?_
    obtain ⟨g4, h⟩ := gd_some h
    refine VO.seg T_ok .dp 6 [1, 2, 4, 8] [0, 1] (s' := ⟨[(1, I a1), (2, .lf (.ptr 0 0 0 0)), (4, .lf (.ptr 1 0 0 0)), (8, I (a0.2.2.getD y1.toNat (Ty.dflt (.int .i64))))], [bx [.v (.int .i64) a0.1, .v (.sl (.int .i64)) a0.2.1, .v (.sl (.int .i64)) a0.2.2] 24, bx [.v (.int .i64) (0 : Int), .nil, .nil] 24]⟩) (φ := True ∧ True ∧ True ∧ (InR y1 a0.2.2.length) ∧ True ∧ True ∧ True) (by kernel_rfl) ⟨trivial, trivial, trivial, g4, trivial, trivial, trivial⟩ ?_
    refine VO.nil ?_
    show VW _ _ _ _ _ _ _
    refine VW.seq ?_
    refine VW.region ?_
    refine VO.seg T_ok .dp 3 [4, 8, 21, 22, 23] [1] (s' := ⟨[(4, .lf (.ptr 0 0 0 0)), (8, I (a0.2.2.getD y1.toNat (Ty.dflt (.int .i64)))), (21, .agg [.v (.int .i64) a0.1, .v (.sl (.int .i64)) a0.2.1, .v (.sl (.int .i64)) a0.2.2]), (22, I a1), (23, I (a0.2.2.getD y1.toNat (Ty.dflt (.int .i64))))], [bx [.v (.int .i64) (0 : Int), .nil, .nil] 24]⟩) (φ := True ∧ True ∧ True ∧ True) (by kernel_rfl) ⟨trivial, trivial, trivial, trivial⟩ ?_
    obtain ⟨y5, hy, h⟩ := andO_some h
    refine VO.call false [.t Y23, .t (.int .i64), .t (.int .i64)] [] T_ok (d := some 24) (by kernel_rfl) (ok62 N _ _ _ hy) rfl ?_
    refine VO.seg T_ok .dp 4 [4, 5, 6] [0, 1, 2] (s' := ⟨[(4, .lf (.ptr 0 0 0 0)), (5, I (a0.2.2.getD y1.toNat (Ty.dflt (.int .i64)))), (6, B true)], [bx [.v (.int .i64) y5.1, .hd 1 0 none, .hd 2 0 none] 24, ar 0 (.int .i64) y5.2.1 .dp, ar 0 (.int .i64) y5.2.2 .dp]⟩) (φ := True ∧ True ∧ True ∧ True ∧ True) (by kernel_rfl) ⟨trivial, trivial, trivial, trivial, trivial⟩ ?_
    refine VO.nil ?_
    show VW _ _ _ _ _ _ _
    refine VW.ret ?_
    replace h := Option.some.inj h
    subst h
    exact retR [some 1, some 2] (by kernel_rfl) rfl

/- loop.example/g00844/impl.PutKey -/
def F38 (N : Nat) (a0 : (Int × ((List Int) × (List Int)))) (a1 : Int) (a2 : Int) : Option ((Int × ((List Int) × (List Int))) × Int × Bool) :=
  andO (F22 N a0) fun y7 => cond (!y7) (andO (F58 N a0) fun y8 => some (y8, (1000001 : Int), false)) (andO (F53 N a1) fun y9 => cond (!y9) (andO (F58 N a0) fun y10 => some (y10, (1000001 : Int), false)) (andO (F53 N a2) fun y11 => cond (!y11) (andO (F58 N a0) fun y12 => some (y12, (1000001 : Int), false)) (andO (F62 N a0 a1 a2) fun y13 => cond (decide ((y13.2.1.length : Int) ≤ a0.1)) (some (y13, (1000001 : Int), true)) (gd (InR a0.1 y13.2.1.length) (gd (a0.1.toNat < y13.2.1.length) (andO (F60 N y13 a0.1) fun y16 => some (y16, (y13.2.1.getD a0.1.toNat (Ty.dflt (.int .i64))), true)))))))
theorem ok38 (N : Nat) (a0 : (Int × ((List Int) × (List Int)))) (a1 : Int) (a2 : Int) {r : (Int × ((List Int) × (List Int))) × Int × Bool} (h : F38 N a0 a1 a2 = some r) : Con Go.Proofs.Try.prog 38 [.agg [.v (.int .i64) a0.1, .v (.sl (.int .i64)) a0.2.1, .v (.sl (.int .i64)) a0.2.2], I a1, I a2] [.agg [.v (.int .i64) r.1.1, .own (.int .i64) r.1.2.1 .dp, .own (.int .i64) r.1.2.2 .dp], .lf (.v (.int .i64) r.2.1), .lf (.v .bool r.2.2)] := by
  refine ⟨enters_of Go.Proofs.Try.func38 rfl (by decide), HC.intro [.agg [.v (.int .i64), .own (.int .i64) .dp, .own (.int .i64) .dp], .lf (.v (.int .i64)), .lf (.v .bool)] T_ok Go.Proofs.Try.func38 rfl (Nat.le_of_ble_eq_true rfl) (Nat.le_of_ble_eq_true rfl) fun w0 E0 => ?_⟩
  unfold F38 at h
  show VW _ _ _ _ _ (retQ _ _ _ _) _
  refine VW.seq ?_
  refine VW.region ?_
  refine VO.seg T_ok .dp 4 [1, 2, 3, 6] [0, 1] (s' := ⟨[(1, I a1), (2, I a2), (3, .lf (.ptr 0 0 0 0)), (6, .lf (.ptr 1 0 0 0))], [bx [.v (.int .i64) a0.1, .v (.sl (.int .i64)) a0.2.1, .v (.sl (.int .i64)) a0.2.2] 24, bx [.v (.int .i64) (0 : Int), .nil, .nil] 24]⟩) (φ := True ∧ True ∧ True ∧ True ∧ True) (by kernel_rfl) ⟨trivial, trivial, trivial, trivial, trivial⟩ ?_
  refine VO.nil ?_
  show VW _ _ _ _ _ _ _
  refine VW.seq ?_
  refine VW.seq ?_
  refine VW.region ?_
  refine VO.seg T_ok .dp 1 [1, 2, 3, 6, 11] [0, 1] (s' := ⟨[(1, I a1), (2, I a2), (3, .lf (.ptr 0 0 0 0)), (6, .lf (.ptr 1 0 0 0)), (11, .agg [.v (.int .i64) a0.1, .v (.sl (.int .i64)) a0.2.1, .v (.sl (.int .i64)) a0.2.2])], [bx [.v (.int .i64) a0.1, .v (.sl (.int .i64)) a0.2.1, .v (.sl (.int .i64)) a0.2.2] 24, bx [.v (.int .i64) (0 : Int), .nil, .nil] 24]⟩) (φ := True ∧ True) (by kernel_rfl) ⟨trivial, trivial⟩ ?_
  obtain ⟨y7, hy, h⟩ := andO_some h
  refine VO.call false [.t Y23] [] T_ok (d := some 12) (by kernel_rfl) (ok22 N _ hy) rfl ?_
  refine VO.seg T_ok .dp 2 [1, 2, 3, 6, 14] [0, 1] (s' := ⟨[(1, I a1), (2, I a2), (3, .lf (.ptr 0 0 0 0)), (6, .lf (.ptr 1 0 0 0)), (14, B (!y7))], [bx [.v (.int .i64) a0.1, .v (.sl (.int .i64)) a0.2.1, .v (.sl (.int .i64)) a0.2.2] 24, bx [.v (.int .i64) (0 : Int), .nil, .nil] 24]⟩) (φ := True ∧ True ∧ True) (by kernel_rfl) ⟨trivial, trivial, trivial⟩ ?_
  refine VO.splitB 14 (b := (!y7)) (by kernel_rfl) (fun hb => ?_) (fun hb => ?_)
  · replace h := cond_t h hb; clear hb
    refine VO.seg T_ok .dp 9 [1, 2, 3, 6, 23] [0, 1] (s' := ⟨[(1, I a1), (2, I a2), (3, .lf (.ptr 0 0 0 0)), (6, .lf (.ptr 1 0 0 0)), (23, B true)], [bx [.v (.int .i64) a0.1, .v (.sl (.int .i64)) a0.2.1, .v (.sl (.int .i64)) a0.2.2] 24, bx [.v (.int .i64) (0 : Int), .nil, .nil] 24]⟩) (φ := True ∧ True ∧ True ∧ True ∧ True ∧ True ∧ True ∧ True ∧ True ∧ True) (by kernel_rfl) ⟨trivial, trivial, trivial, trivial, trivial, trivial, trivial, trivial, trivial, trivial⟩ ?_
    refine VO.nil ?_
    show VW _ _ _ _ _ _ _
    refine VW.cond (b := true) (by kernel_rfl) (fun _ => ?_) (fun h' => nomatch h')
    refine VW.seq ?_
    refine VW.region ?_
    refine VO.seg T_ok .dp 1 [6, 24] [1] (s' := ⟨[(6, .lf (.ptr 0 0 0 0)), (24, .agg [.v (.int .i64) a0.1, .v (.sl (.int .i64)) a0.2.1, .v (.sl (.int .i64)) a0.2.2])], [bx [.v (.int .i64) (0 : Int), .nil, .nil] 24]⟩) (φ := True ∧ True) (by kernel_rfl) ⟨trivial, trivial⟩ ?_
    obtain ⟨y8, hy, h⟩ := andO_some h
    refine VO.call false [.t Y23] [] T_ok (d := some 25) (by kernel_rfl) (ok58 N _ hy) rfl ?_
    refine VO.seg T_ok .dp 3 [6, 7, 8] [0, 1, 2] (s' := ⟨[(6, .lf (.ptr 0 0 0 0)), (7, I (1000001 : Int)), (8, B false)], [bx [.v (.int .i64) y8.1, .hd 1 0 none, .hd 2 0 none] 24, ar 0 (.int .i64) y8.2.1 .dp, ar 0 (.int .i64) y8.2.2 .dp]⟩) (φ := True ∧ True ∧ True ∧ True) (by kernel_rfl) ⟨trivial, trivial, trivial, trivial⟩ ?_
    refine VO.nil ?_
    show VW _ _ _ _ _ _ _
    refine VW.ret ?_
    replace h := Option.some.inj h
    subst h
    exact retR [some 1, some 2] (by kernel_rfl) rfl
  · replace h := cond_f h hb; clear hb
    refine VO.seg T_ok .dp 1 [1, 2, 3, 6, 14, 15] [0, 1] (s' := ⟨[(1, I a1), (2, I a2), (3, .lf (.ptr 0 0 0 0)), (6, .lf (.ptr 1 0 0 0)), (14, B false), (15, I a1)], [bx [.v (.int .i64) a0.1, .v (.sl (.int .i64)) a0.2.1, .v (.sl (.int .i64)) a0.2.2] 24, bx [.v (.int .i64) (0 : Int), .nil, .nil] 24]⟩) (φ := True ∧ True) (by kernel_rfl) ⟨trivial, trivial⟩ ?_
    refine VO.on (j := 3) (want := false) (d := 14) (b := false) rfl rfl rfl (by kernel_rfl) rfl ?_
    obtain ⟨y9, hy, h⟩ := andO_some h
    refine VO.call false [.t (.int .i64)] [] T_ok (d := some 16) (by kernel_rfl) (ok53 N _ hy) rfl ?_
    refine VO.seg T_ok .dp 3 [1, 2, 3, 6, 19] [0, 1] (s' := ⟨[(1, I a1), (2, I a2), (3, .lf (.ptr 0 0 0 0)), (6, .lf (.ptr 1 0 0 0)), (19, B (!y9))], [bx [.v (.int .i64) a0.1, .v (.sl (.int .i64)) a0.2.1, .v (.sl (.int .i64)) a0.2.2] 24, bx [.v (.int .i64) (0 : Int), .nil, .nil] 24]⟩) (φ := True ∧ True ∧ True ∧ True) (by kernel_rfl) ⟨trivial, trivial, trivial, trivial⟩ ?_
    refine VO.splitB 19 (b := (!y9)) (by kernel_rfl) (fun hb => ?_) (fun hb => ?_)
    · replace h := cond_t h hb; clear hb
      refine VO.seg T_ok .dp 4 [1, 2, 3, 6, 23] [0, 1] (s' := ⟨[(1, I a1), (2, I a2), (3, .lf (.ptr 0 0 0 0)), (6, .lf (.ptr 1 0 0 0)), (23, B true)], [bx [.v (.int .i64) a0.1, .v (.sl (.int .i64)) a0.2.1, .v (.sl (.int .i64)) a0.2.2] 24, bx [.v (.int .i64) (0 : Int), .nil, .nil] 24]⟩) (φ := True ∧ True ∧ True ∧ True ∧ True) (by kernel_rfl) ⟨trivial, trivial, trivial, trivial, trivial⟩ ?_
      refine VO.nil ?_
      show VW _ _ _ _ _ _ _
      refine VW.cond (b := true) (by kernel_rfl) (fun _ => ?_) (fun h' => nomatch h')
      refine VW.seq ?_
      refine VW.region ?_
      refine VO.seg T_ok .dp 1 [6, 24] [1] (s' := ⟨[(6, .lf (.ptr 0 0 0 0)), (24, .agg [.v (.int .i64) a0.1, .v (.sl (.int .i64)) a0.2.1, .v (.sl (.int .i64)) a0.2.2])], [bx [.v (.int .i64) (0 : Int), .nil, .nil] 24]⟩) (φ := True ∧ True) (by kernel_rfl) ⟨trivial, trivial⟩ ?_
      obtain ⟨y10, hy, h⟩ := andO_some h
      refine VO.call false [.t Y23] [] T_ok (d := some 25) (by kernel_rfl) (ok58 N _ hy) rfl ?_
      refine VO.seg T_ok .dp 3 [6, 7, 8] [0, 1, 2] (s' := ⟨[(6, .lf (.ptr 0 0 0 0)), (7, I (1000001 : Int)), (8, B false)], [bx [.v (.int .i64) y10.1, .hd 1 0 none, .hd 2 0 none] 24, ar 0 (.int .i64) y10.2.1 .dp, ar 0 (.int .i64) y10.2.2 .dp]⟩) (φ := True ∧ True ∧ True ∧ True) (by kernel_rfl) ⟨trivial, trivial, trivial, trivial⟩ ?_
      refine VO.nil ?_
      show VW _ _ _ _ _ _ _
      refine VW.ret ?_
      replace h := Option.some.inj h
      subst h
      exact retR [some 1, some 2] (by kernel_rfl) rfl
    · replace h := cond_f h hb; clear hb
      refine VO.seg T_ok .dp 1 [1, 2, 3, 6, 19, 20] [0, 1] (s' := ⟨[(1, I a1), (2, I a2), (3, .lf (.ptr 0 0 0 0)), (6, .lf (.ptr 1 0 0 0)), (19, B false), (20, I a2)], [bx [.v (.int .i64) a0.1, .v (.sl (.int .i64)) a0.2.1, .v (.sl (.int .i64)) a0.2.2] 24, bx [.v (.int .i64) (0 : Int), .nil, .nil] 24]⟩) (φ := True ∧ True) (by kernel_rfl) ⟨trivial, trivial⟩ ?_
      refine VO.on (j := 8) (want := false) (d := 19) (b := false) rfl rfl rfl (by kernel_rfl) rfl ?_
      obtain ⟨y11, hy, h⟩ := andO_some h
      refine VO.call false [.t (.int .i64)] [] T_ok (d := some 21) (by kernel_rfl) (ok53 N _ hy) rfl ?_
      refine VO.seg T_ok .dp 2 [1, 2, 3, 6, 23] [0, 1] (s' := ⟨[(1, I a1), (2, I a2), (3, .lf (.ptr 0 0 0 0)), (6, .lf (.ptr 1 0 0 0)), (23, B (!y11))], [bx [.v (.int .i64) a0.1, .v (.sl (.int .i64)) a0.2.1, .v (.sl (.int .i64)) a0.2.2] 24, bx [.v (.int .i64) (0 : Int), .nil, .nil] 24]⟩) (φ := True ∧ True ∧ True) (by kernel_rfl) ⟨trivial, trivial, trivial⟩ ?_
      refine VO.nil ?_
      show VW _ _ _ _ _ _ _
      refine VW.cond (b := (!y11)) (by kernel_rfl) (fun hb => ?_) (fun hb => ?_)
      · replace h := cond_t h hb; clear hb
        refine VW.seq ?_
        refine VW.region ?_
        refine VO.seg T_ok .dp 1 [6, 24] [1] (s' := ⟨[(6, .lf (.ptr 0 0 0 0)), (24, .agg [.v (.int .i64) a0.1, .v (.sl (.int .i64)) a0.2.1, .v (.sl (.int .i64)) a0.2.2])], [bx [.v (.int .i64) (0 : Int), .nil, .nil] 24]⟩) (φ := True ∧ True) (by kernel_rfl) ⟨trivial, trivial⟩ ?_
        obtain ⟨y12, hy, h⟩ := andO_some h
        refine VO.call false [.t Y23] [] T_ok (d := some 25) (by kernel_rfl) (ok58 N _ hy) rfl ?_
        refine VO.seg T_ok .dp 3 [6, 7, 8] [0, 1, 2] (s' := ⟨[(6, .lf (.ptr 0 0 0 0)), (7, I (1000001 : Int)), (8, B false)], [bx [.v (.int .i64) y12.1, .hd 1 0 none, .hd 2 0 none] 24, ar 0 (.int .i64) y12.2.1 .dp, ar 0 (.int .i64) y12.2.2 .dp]⟩) (φ := True ∧ True ∧ True ∧ True) (by kernel_rfl) ⟨trivial, trivial, trivial, trivial⟩ ?_
        refine VO.nil ?_
        show VW _ _ _ _ _ _ _
        refine VW.ret ?_
        replace h := Option.some.inj h
        subst h
        exact retR [some 1, some 2] (by kernel_rfl) rfl
      · replace h := cond_f h hb; clear hb
        refine VW.skip ?_
        show VW _ _ _ _ _ _ _
        refine VW.seq ?_
        refine VW.region ?_
        refine VO.seg T_ok .dp 3 [3, 6, 26, 27, 28] [0, 1] (s' := ⟨[(3, .lf (.ptr 0 0 0 0)), (6, .lf (.ptr 1 0 0 0)), (26, .agg [.v (.int .i64) a0.1, .v (.sl (.int .i64)) a0.2.1, .v (.sl (.int .i64)) a0.2.2]), (27, I a1), (28, I a2)], [bx [.v (.int .i64) a0.1, .v (.sl (.int .i64)) a0.2.1, .v (.sl (.int .i64)) a0.2.2] 24, bx [.v (.int .i64) (0 : Int), .nil, .nil] 24]⟩) (φ := True ∧ True ∧ True ∧ True) (by kernel_rfl) ⟨trivial, trivial, trivial, trivial⟩ ?_
        obtain ⟨y13, hy, h⟩ := andO_some h
        refine VO.call false [.t Y23, .t (.int .i64), .t (.int .i64)] [] T_ok (d := some 29) (by kernel_rfl) (ok62 N _ _ _ hy) rfl ?_
        refine VO.seg T_ok .dp 2 [3, 6, 9] [0, 1, 4, 2, 3] (s' := ⟨[(3, .lf (.ptr 0 0 0 0)), (6, .lf (.ptr 1 0 0 0)), (9, .lf (.ptr 2 0 0 0))], [bx [.v (.int .i64) a0.1, .v (.sl (.int .i64)) a0.2.1, .v (.sl (.int .i64)) a0.2.2] 24, bx [.v (.int .i64) (0 : Int), .nil, .nil] 24, bx [.v (.int .i64) y13.1, .hd 3 0 none, .hd 4 0 none] 24, ar 0 (.int .i64) y13.2.1 .dp, ar 0 (.int .i64) y13.2.2 .dp]⟩) (φ := True ∧ True ∧ True) (by kernel_rfl) ⟨trivial, trivial, trivial⟩ ?_
        refine VO.nil ?_
        show VW _ _ _ _ _ _ _
        refine VW.seq ?_
        refine VW.seq ?_
        refine VW.region ?_
        refine VO.seg T_ok .dp 6 [3, 6, 9, 35] [0, 1, 2, 3, 4] (s' := ⟨[(3, .lf (.ptr 0 0 0 0)), (6, .lf (.ptr 1 0 0 0)), (9, .lf (.ptr 2 0 0 0)), (35, B (decide ((y13.2.1.length : Int) ≤ a0.1)))], [bx [.v (.int .i64) a0.1, .v (.sl (.int .i64)) a0.2.1, .v (.sl (.int .i64)) a0.2.2] 24, bx [.v (.int .i64) (0 : Int), .nil, .nil] 24, bx [.v (.int .i64) y13.1, .hd 3 0 none, .hd 4 0 none] 24, ar 0 (.int .i64) y13.2.1 .dp, ar 0 (.int .i64) y13.2.2 .dp]⟩) (φ := True ∧ True ∧ True ∧ True ∧ True ∧ True ∧ True) (by kernel_rfl) ⟨trivial, trivial, trivial, trivial, trivial, trivial, trivial⟩ ?_
        refine VO.nil ?_
        show VW _ _ _ _ _ _ _
        refine VW.cond (b := (decide ((y13.2.1.length : Int) ≤ a0.1))) (by kernel_rfl) (fun hb => ?_) (fun hb => ?_)
        · replace h := cond_t h hb; clear hb
          refine VW.seq ?_
          refine VW.region ?_
          refine VO.seg T_ok .dp 4 [6, 7, 8] [1, 3, 4] (s' := ⟨[(6, .lf (.ptr 0 0 0 0)), (7, I (1000001 : Int)), (8, B true)], [bx [.v (.int .i64) y13.1, .hd 1 0 none, .hd 2 0 none] 24, ar 0 (.int .i64) y13.2.1 .dp, ar 0 (.int .i64) y13.2.2 .dp]⟩) (φ := True ∧ True ∧ True ∧ True ∧ True) (by kernel_rfl) ⟨trivial, trivial, trivial, trivial, trivial⟩ ?_
          refine VO.nil ?_
          show VW _ _ _ _ _ _ _
          refine VW.ret ?_
          replace h := Option.some.inj h
          subst h
          exact retR [some 1, some 2] (by kernel_rfl) rfl
        · replace h := cond_f h hb; clear hb
          refine VW.skip ?_
          show VW _ _ _ _ _ _ _
          refine VW.seq ?_
          refine VW.region ?_
          obtain ⟨g14, h⟩ := gd_some h
          obtain ⟨g15, h⟩ := gd_some h
          refine VO.seg T_ok .dp 7 [3, 6, 9, 10] [0, 1, 2, 3, 4] (s' := ⟨[(3, .lf (.ptr 0 0 0 0)), (6, .lf (.ptr 1 0 0 0)), (9, .lf (.ptr 2 0 0 0)), (10, I (y13.2.1.getD a0.1.toNat (Ty.dflt (.int .i64))))], [bx [.v (.int .i64) a0.1, .v (.sl (.int .i64)) a0.2.1, .v (.sl (.int .i64)) a0.2.2] 24, bx [.v (.int .i64) (0 : Int), .nil, .nil] 24, bx [.v (.int .i64) y13.1, .hd 3 0 none, .hd 4 0 none] 24, ar 0 (.int .i64) y13.2.1 .dp, ar 0 (.int .i64) y13.2.2 .dp]⟩) (φ := True ∧ True ∧ True ∧ True ∧ (InR a0.1 y13.2.1.length) ∧ (a0.1.toNat < y13.2.1.length) ∧ True ∧ True) (by kernel_rfl) ⟨trivial, trivial, trivial, trivial, g14, g15, trivial, trivial⟩ ?_
          refine VO.nil ?_
          show VW _ _ _ _ _ _ _
          refine VW.seq ?_
          refine VW.region ?_
          refine VO.seg T_ok .dp 3 [6, 10, 43, 45] [1, 3, 4] (s' := ⟨[(6, .lf (.ptr 0 0 0 0)), (10, I (y13.2.1.getD a0.1.toNat (Ty.dflt (.int .i64)))), (43, .agg [.v (.int .i64) y13.1, .hd 1 0 none, .hd 2 0 none]), (45, I a0.1)], [bx [.v (.int .i64) (0 : Int), .nil, .nil] 24, ar 0 (.int .i64) y13.2.1 .dp, ar 0 (.int .i64) y13.2.2 .dp]⟩) (φ := True ∧ True ∧ True ∧ True) (by kernel_rfl) ⟨trivial, trivial, trivial, trivial⟩ ?_
          obtain ⟨y16, hy, h⟩ := andO_some h
          refine VO.call true [.t Y23, .t (.int .i64)] [] T_ok (d := some 46) (by kernel_rfl) (ok60 N _ _ hy) rfl ?_
          refine VO.seg T_ok .dp 4 [6, 7, 8] [0, 3, 4] (s' := ⟨[(6, .lf (.ptr 0 0 0 0)), (7, I (y13.2.1.getD a0.1.toNat (Ty.dflt (.int .i64)))), (8, B true)], [bx [.v (.int .i64) y16.1, .hd 1 0 none, .hd 2 0 none] 24, ar 0 (.int .i64) y16.2.1 .dp, ar 0 (.int .i64) y16.2.2 .dp]⟩) (φ := True ∧ True ∧ True ∧ True ∧ True) (by kernel_rfl) ⟨trivial, trivial, trivial, trivial, trivial⟩ ?_
          refine VO.nil ?_
          show VW _ _ _ _ _ _ _
          refine VW.ret ?_
          replace h := Option.some.inj h
          subst h
          exact retR [some 1, some 2] (by kernel_rfl) rfl

/- loop.example/g00844/impl.HitsIn -/
def F33_j0 (N : Nat) (x67 : Int) : Option (Int) :=
  some x67
def F33_j1 (N : Nat) (nx115 : Int → (List Int) → (List Int) → Int → Int → Int → Option (Int)) (x95 : Int) (x96 : Int) (x128 : Int) (x129 : Int) (x130 : (List Int)) (x131 : (List Int)) : Option (Int) :=
  nx115 x129 x130 x131 x128 x95 (IntKind.i64.wrap (x96 + (1 : Int)))
def F33_l0_b (N : Nat) (a1 : (List Int)) (nx115 : Int → (List Int) → (List Int) → Int → Int → Int → Option (Int)) (x91 : Int) (x92 : (List Int)) (x93 : (List Int)) (x94 : Int) (x95 : Int) (x96 : Int) : Option (Int) :=
  cond (decide (x96 < x95)) (gd (InR x96 a1.length) (andO (F36 N (x91, (x92, x93)) (a1.getD x96.toNat (Ty.dflt (.int .i64)))) fun y126 => cond y126.2.2 (F33_j1 N nx115 x95 x96 (IntKind.i64.wrap (x94 + (1 : Int))) y126.1.1 y126.1.2.1 y126.1.2.2) (andO (F38 N (x91, (x92, x93)) (a1.getD x96.toNat (Ty.dflt (.int .i64))) (0 : Int)) fun y133 => F33_j1 N nx115 x95 x96 x94 y133.1.1 y133.1.2.1 y133.1.2.2))) (F33_j0 N x94)
def F33_l0 (N : Nat) (a1 : (List Int)) : Nat → Int → (List Int) → (List Int) → Int → Int → Int → Option (Int) := loopF (F33_l0_b N a1) (fun _ _ _ _ _ _ => none)
theorem F33_l0_s (N : Nat) (a1 : (List Int)) {k : Nat} (hk : 0 < k) (x91 : Int) (x92 : (List Int)) (x93 : (List Int)) (x94 : Int) (x95 : Int) (x96 : Int) : F33_l0 N a1 k x91 x92 x93 x94 x95 x96 = F33_l0_b N a1 (F33_l0 N a1 (k - 1)) x91 x92 x93 x94 x95 x96 := by
  cases k with
  | zero => exact absurd hk (Nat.lt_irrefl 0)
  | succ m => rfl
def F33 (N : Nat) (a0 : Int) (a1 : (List Int)) : Option (Int) :=
  andO (F15 N a0) fun y1 => cond (!y1.2) (some (-1 : Int)) (cond (decide ((a1.length : Int) > (300 : Int))) (some (-1 : Int)) (F33_l0 N a1 N y1.1.1 y1.1.2.1 y1.1.2.2 (0 : Int) (a1.length : Int) (0 : Int)))
theorem ok33 (N : Nat) (a0 : Int) (a1 : (List Int)) {r : Int} (h : F33 N a0 a1 = some r) : Con Go.Proofs.Try.prog 33 [I a0, .lf (.v (.sl (.int .i64)) a1)] [.lf (.v (.int .i64) r)] := by
  refine ⟨enters_of Go.Proofs.Try.func33 rfl (by decide), HC.intro [.lf (.v (.int .i64))] T_ok Go.Proofs.Try.func33 rfl (Nat.le_of_ble_eq_true rfl) (Nat.le_of_ble_eq_true rfl) fun w0 E0 => ?_⟩
  unfold F33 at h
  show VW _ _ _ _ _ (retQ _ _ _ _) _
  refine VW.seq ?_
  refine VW.region ?_
  refine VO.seg T_ok .dp 1 [0, 1] [] (s' := ⟨[(0, I a0), (1, .lf (.v (.sl (.int .i64)) a1))], []⟩) (φ := True ∧ True) (by kernel_rfl) ⟨trivial, trivial⟩ ?_
  refine VO.nil ?_
  show VW _ _ _ _ _ _ _
  refine VW.seq ?_
  refine VW.region ?_
  refine VO.seg T_ok .dp 1 [1, 14] [] (s' := ⟨[(1, .lf (.v (.sl (.int .i64)) a1)), (14, I a0)], []⟩) (φ := True ∧ True) (by kernel_rfl) ⟨trivial, trivial⟩ ?_
  obtain ⟨y1, hy, h⟩ := andO_some h
  refine VO.call false [.t (.int .i64)] [] T_ok (d := some 15) (by kernel_rfl) (ok15 N _ hy) rfl ?_
  refine VO.seg T_ok .dp 6 [1, 5, 6] [2, 0, 1] (s' := ⟨[(1, .lf (.v (.sl (.int .i64)) a1)), (5, .lf (.ptr 0 0 0 0)), (6, B y1.2)], [bx [.v (.int .i64) y1.1.1, .hd 1 0 none, .hd 2 0 none] 24, ar 0 (.int .i64) y1.1.2.1 .dp, ar 0 (.int .i64) y1.1.2.2 .dp]⟩) (φ := True ∧ True ∧ True ∧ True ∧ True ∧ True ∧ True) (by kernel_rfl) ⟨trivial, trivial, trivial, trivial, trivial, trivial, trivial⟩ ?_
  refine VO.nil ?_
  show VW _ _ _ _ _ _ _
  refine VW.seq ?_
  refine VW.seq ?_
  refine VW.region ?_
  refine VO.seg T_ok .dp 3 [1, 5, 20] [0, 1, 2] (s' := ⟨[(1, .lf (.v (.sl (.int .i64)) a1)), (5, .lf (.ptr 0 0 0 0)), (20, B (!y1.2))], [bx [.v (.int .i64) y1.1.1, .hd 1 0 none, .hd 2 0 none] 24, ar 0 (.int .i64) y1.1.2.1 .dp, ar 0 (.int .i64) y1.1.2.2 .dp]⟩) (φ := True ∧ True ∧ True ∧ True) (by kernel_rfl) ⟨trivial, trivial, trivial, trivial⟩ ?_
  refine VO.splitB 20 (b := (!y1.2)) (by kernel_rfl) (fun hb => ?_) (fun hb => ?_)
  · replace h := cond_t h hb; clear hb
    refine VO.seg T_ok .dp 4 [1, 5, 24] [0, 1, 2] (s' := ⟨[(1, .lf (.v (.sl (.int .i64)) a1)), (5, .lf (.ptr 0 0 0 0)), (24, B true)], [bx [.v (.int .i64) y1.1.1, .hd 1 0 none, .hd 2 0 none] 24, ar 0 (.int .i64) y1.1.2.1 .dp, ar 0 (.int .i64) y1.1.2.2 .dp]⟩) (φ := True ∧ True ∧ True ∧ True ∧ True) (by kernel_rfl) ⟨trivial, trivial, trivial, trivial, trivial⟩ ?_
    refine VO.nil ?_
    show VW _ _ _ _ _ _ _
    refine VW.cond (b := true) (by kernel_rfl) (fun _ => ?_) (fun h' => nomatch h')
    refine VW.seq ?_
    refine VW.region ?_
    refine VO.seg T_ok .dp 1 [4] [] (s' := ⟨[(4, I (-1 : Int))], []⟩) (φ := True ∧ True) (by kernel_rfl) ⟨trivial, trivial⟩ ?_
    refine VO.nil ?_
    show VW _ _ _ _ _ _ _
    refine VW.ret ?_
    replace h := Option.some.inj h
    subst h
    exact retR [] (by kernel_rfl) rfl
  · replace h := cond_f h hb; clear hb
    refine VO.seg T_ok .dp 4 [1, 5, 24] [0, 1, 2] (s' := ⟨[(1, .lf (.v (.sl (.int .i64)) a1)), (5, .lf (.ptr 0 0 0 0)), (24, B (decide ((a1.length : Int) > (300 : Int))))], [bx [.v (.int .i64) y1.1.1, .hd 1 0 none, .hd 2 0 none] 24, ar 0 (.int .i64) y1.1.2.1 .dp, ar 0 (.int .i64) y1.1.2.2 .dp]⟩) (φ := True ∧ True ∧ True ∧ True ∧ True) (by kernel_rfl) ⟨trivial, trivial, trivial, trivial, trivial⟩ ?_
    refine VO.nil ?_
    show VW _ _ _ _ _ _ _
    refine VW.cond (b := (decide ((a1.length : Int) > (300 : Int)))) (by kernel_rfl) (fun hb => ?_) (fun hb => ?_)
    · replace h := cond_t h hb; clear hb
      refine VW.seq ?_
      refine VW.region ?_
      refine VO.seg T_ok .dp 1 [4] [] (s' := ⟨[(4, I (-1 : Int))], []⟩) (φ := True ∧ True) (by kernel_rfl) ⟨trivial, trivial⟩ ?_
      refine VO.nil ?_
      show VW _ _ _ _ _ _ _
      refine VW.ret ?_
      replace h := Option.some.inj h
      subst h
      exact retR [] (by kernel_rfl) rfl
    · replace h := cond_f h hb; clear hb
      refine VW.skip ?_
      show VW _ _ _ _ _ _ _
      refine VW.seq ?_
      refine VW.region ?_
      refine VO.seg T_ok .dp 1 [1, 5, 7] [0, 1, 2] (s' := ⟨[(1, .lf (.v (.sl (.int .i64)) a1)), (5, .lf (.ptr 0 0 0 0)), (7, I (0 : Int))], [bx [.v (.int .i64) y1.1.1, .hd 1 0 none, .hd 2 0 none] 24, ar 0 (.int .i64) y1.1.2.1 .dp, ar 0 (.int .i64) y1.1.2.2 .dp]⟩) (φ := True ∧ True) (by kernel_rfl) ⟨trivial, trivial⟩ ?_
      refine VO.nil ?_
      show VW _ _ _ _ _ _ _
      refine VW.join (fun s => ∃ (x67 : Int), s = ⟨[(7, I x67)], []⟩ ∧ F33_j0 N x67 = some r) ?_ ?_
      · refine VW.seq ?_
        refine VW.region ?_
        refine VO.seg T_ok .dp 3 [5, 7, 25, 26, 27] [0, 1, 2] (s' := ⟨[(5, .lf (.ptr 0 0 0 0)), (7, I (0 : Int)), (25, .lf (.v (.sl (.int .i64)) a1)), (26, I (a1.length : Int)), (27, I (0 : Int))], [bx [.v (.int .i64) y1.1.1, .hd 1 0 none, .hd 2 0 none] 24, ar 0 (.int .i64) y1.1.2.1 .dp, ar 0 (.int .i64) y1.1.2.2 .dp]⟩) (φ := True ∧ True ∧ True ∧ True) (by kernel_rfl) ⟨trivial, trivial, trivial, trivial⟩ ?_
        refine VO.nil ?_
        show VW _ _ _ _ _ _ _
        refine VW.block ?_
        refine VW.loopL (fun k s => ∃ (x91 : Int) (x92 : (List Int)) (x93 : (List Int)) (x94 : Int) (x95 : Int) (x96 : Int), s = ⟨[(5, .lf (.ptr 0 0 0 0)), (7, I x94), (25, .lf (.v (.sl (.int .i64)) a1)), (26, I x95), (27, I x96)], [bx [.v (.int .i64) x91, .hd 1 0 none, .hd 2 0 none] 24, ar 0 (.int .i64) x92 .dp, ar 0 (.int .i64) x93 .dp]⟩ ∧ F33_l0 N a1 k x91 x92 x93 x94 x95 x96 = some r) N [.ren [5, 7, 25, 26, 27] [0, 1, 2]] (by kernel_rfl) ⟨y1.1.1, y1.1.2.1, y1.1.2.2, (0 : Int), (a1.length : Int), (0 : Int), rfl, h⟩ ?_
        rintro k115 s ⟨x91, x92, x93, x94, x95, x96, rfl, h⟩
        cases k115 with
        | zero => exact nomatch (show (none : Option (Int)) = some r from h)
        | succ k115 =>
          replace h : F33_l0_b N a1 (F33_l0 N a1 k115) x91 x92 x93 x94 x95 x96 = some r := h
          unfold F33_l0_b at h
          refine VW.seq ?_
          refine VW.region ?_
          refine VO.seg T_ok .dp 1 [5, 7, 25, 26, 27, 28] [0, 1, 2] (s' := ⟨[(5, .lf (.ptr 0 0 0 0)), (7, I x94), (25, .lf (.v (.sl (.int .i64)) a1)), (26, I x95), (27, I x96), (28, B (decide (x96 < x95)))], [bx [.v (.int .i64) x91, .hd 1 0 none, .hd 2 0 none] 24, ar 0 (.int .i64) x92 .dp, ar 0 (.int .i64) x93 .dp]⟩) (φ := True ∧ True) (by kernel_rfl) ⟨trivial, trivial⟩ ?_
          refine VO.nil ?_
          show VW _ _ _ _ _ _ _
          refine VW.seq ?_
          refine VW.cond (b := (decide (x96 < x95))) (by kernel_rfl) (fun hb => ?_) (fun hb => ?_)
          · replace h := cond_t h hb; clear hb
            refine VW.skip ?_
            show VW _ _ _ _ _ _ _
            refine VW.seq ?_
            refine VW.block ?_
            refine VW.seq ?_
            refine VW.region ?_
            obtain ⟨g125, h⟩ := gd_some h
            refine VO.seg T_ok .dp 3 [5, 7, 9, 25, 26, 27] [0, 1, 2] (s' := ⟨[(5, .lf (.ptr 0 0 0 0)), (7, I x94), (9, I (a1.getD x96.toNat (Ty.dflt (.int .i64)))), (25, .lf (.v (.sl (.int .i64)) a1)), (26, I x95), (27, I x96)], [bx [.v (.int .i64) x91, .hd 1 0 none, .hd 2 0 none] 24, ar 0 (.int .i64) x92 .dp, ar 0 (.int .i64) x93 .dp]⟩) (φ := (InR x96 a1.length) ∧ True ∧ True ∧ True) (by kernel_rfl) ⟨g125, trivial, trivial, trivial⟩ ?_
            refine VO.nil ?_
            show VW _ _ _ _ _ _ _
            refine VW.seq ?_
            refine VW.region ?_
            refine VO.seg T_ok .dp 2 [5, 7, 9, 25, 26, 27, 32, 33] [0, 1, 2] (s' := ⟨[(5, .lf (.ptr 0 0 0 0)), (7, I x94), (9, I (a1.getD x96.toNat (Ty.dflt (.int .i64)))), (25, .lf (.v (.sl (.int .i64)) a1)), (26, I x95), (27, I x96), (32, .agg [.v (.int .i64) x91, .hd 1 0 none, .hd 2 0 none]), (33, I (a1.getD x96.toNat (Ty.dflt (.int .i64))))], [bx [.v (.int .i64) x91, .hd 1 0 none, .hd 2 0 none] 24, ar 0 (.int .i64) x92 .dp, ar 0 (.int .i64) x93 .dp]⟩) (φ := True ∧ True ∧ True) (by kernel_rfl) ⟨trivial, trivial, trivial⟩ ?_
            obtain ⟨y126, hy, h⟩ := andO_some h
            refine VO.call true [.t Y23, .t (.int .i64)] [] T_ok (d := some 34) (by kernel_rfl) (ok36 N _ _ hy) rfl ?_
            refine VO.seg T_ok .dp 8 [5, 7, 9, 10, 12, 25, 26, 27] [0, 1, 2, 5, 3, 4] (s' := ⟨[(5, .lf (.ptr 0 0 0 0)), (7, I x94), (9, I (a1.getD x96.toNat (Ty.dflt (.int .i64)))), (10, .lf (.ptr 3 0 0 0)), (12, B y126.2.2), (25, .lf (.v (.sl (.int .i64)) a1)), (26, I x95), (27, I x96)], [bx [.v (.int .i64) x91, .hd 1 0 none, .hd 2 0 none] 24, ar 0 (.int .i64) x92 .dp, ar 0 (.int .i64) x93 .dp, bx [.v (.int .i64) y126.1.1, .hd 4 0 none, .hd 5 0 none] 24, ar 0 (.int .i64) y126.1.2.1 .dp, ar 0 (.int .i64) y126.1.2.2 .dp]⟩) (φ := True ∧ True ∧ True ∧ True ∧ True ∧ True ∧ True ∧ True ∧ True) (by kernel_rfl) ⟨trivial, trivial, trivial, trivial, trivial, trivial, trivial, trivial, trivial⟩ ?_
            refine VO.nil ?_
            show VW _ _ _ _ _ _ _
            refine VW.join (fun s => ∃ (x128 : Int) (x129 : Int) (x130 : (List Int)) (x131 : (List Int)), s = ⟨[(5, .lf (.ptr 0 0 0 0)), (7, I x128), (10, .lf (.ptr 3 0 0 0)), (25, .lf (.v (.sl (.int .i64)) a1)), (26, I x95), (27, I x96)], [bx [.v (.int .i64) x91, .hd 1 0 none, .hd 2 0 none] 24, ar 0 (.int .i64) x92 .dp, ar 0 (.int .i64) x93 .dp, bx [.v (.int .i64) x129, .hd 4 0 none, .hd 5 0 none] 24, ar 0 (.int .i64) x130 .dp, ar 0 (.int .i64) x131 .dp]⟩ ∧ F33_j1 N (F33_l0 N a1 k115) x95 x96 x128 x129 x130 x131 = some r) ?_ ?_
            · refine VW.seq ?_
              refine VW.region ?_
              refine VO.seg T_ok .dp 1 [5, 7, 9, 10, 25, 26, 27, 38] [0, 1, 2, 3, 4, 5] (s' := ⟨[(5, .lf (.ptr 0 0 0 0)), (7, I x94), (9, I (a1.getD x96.toNat (Ty.dflt (.int .i64)))), (10, .lf (.ptr 3 0 0 0)), (25, .lf (.v (.sl (.int .i64)) a1)), (26, I x95), (27, I x96), (38, B y126.2.2)], [bx [.v (.int .i64) x91, .hd 1 0 none, .hd 2 0 none] 24, ar 0 (.int .i64) x92 .dp, ar 0 (.int .i64) x93 .dp, bx [.v (.int .i64) y126.1.1, .hd 4 0 none, .hd 5 0 none] 24, ar 0 (.int .i64) y126.1.2.1 .dp, ar 0 (.int .i64) y126.1.2.2 .dp]⟩) (φ := True ∧ True) (by kernel_rfl) ⟨trivial, trivial⟩ ?_
              refine VO.nil ?_
              show VW _ _ _ _ _ _ _
              refine VW.cond (b := y126.2.2) (by kernel_rfl) (fun hb => ?_) (fun hb => ?_)
              · replace h := cond_t h hb; clear hb
                refine VW.region ?_
                refine VO.seg T_ok .dp 3 [5, 7, 10, 25, 26, 27] [0, 1, 2, 3, 4, 5] (s' := ⟨[(5, .lf (.ptr 0 0 0 0)), (7, I (IntKind.i64.wrap (x94 + (1 : Int)))), (10, .lf (.ptr 3 0 0 0)), (25, .lf (.v (.sl (.int .i64)) a1)), (26, I x95), (27, I x96)], [bx [.v (.int .i64) x91, .hd 1 0 none, .hd 2 0 none] 24, ar 0 (.int .i64) x92 .dp, ar 0 (.int .i64) x93 .dp, bx [.v (.int .i64) y126.1.1, .hd 4 0 none, .hd 5 0 none] 24, ar 0 (.int .i64) y126.1.2.1 .dp, ar 0 (.int .i64) y126.1.2.2 .dp]⟩) (φ := True ∧ True ∧ True ∧ True) (by kernel_rfl) ⟨trivial, trivial, trivial, trivial⟩ ?_
                refine VO.nil ?_
                exact arrive [.ren [5, 7, 10, 25, 26, 27] [0, 1, 2, 3, 4, 5]] (by kernel_rfl) ⟨(IntKind.i64.wrap (x94 + (1 : Int))), y126.1.1, y126.1.2.1, y126.1.2.2, rfl, h⟩
              · replace h := cond_f h hb; clear hb
                refine VW.region ?_
                refine VO.seg T_ok .dp 2 [5, 7, 10, 25, 26, 27, 42, 43] [0, 1, 2, 3, 4, 5] (s' := ⟨[(5, .lf (.ptr 0 0 0 0)), (7, I x94), (10, .lf (.ptr 3 0 0 0)), (25, .lf (.v (.sl (.int .i64)) a1)), (26, I x95), (27, I x96), (42, .agg [.v (.int .i64) x91, .hd 1 0 none, .hd 2 0 none]), (43, I (a1.getD x96.toNat (Ty.dflt (.int .i64))))], [bx [.v (.int .i64) x91, .hd 1 0 none, .hd 2 0 none] 24, ar 0 (.int .i64) x92 .dp, ar 0 (.int .i64) x93 .dp, bx [.v (.int .i64) y126.1.1, .hd 4 0 none, .hd 5 0 none] 24, ar 0 (.int .i64) y126.1.2.1 .dp, ar 0 (.int .i64) y126.1.2.2 .dp]⟩) (φ := True ∧ True ∧ True) (by kernel_rfl) ⟨trivial, trivial, trivial⟩ ?_
                obtain ⟨y133, hy, h⟩ := andO_some h
                refine VO.call true [.t Y23, .t (.int .i64), .t (.int .i64)] [] T_ok (d := some 44) (by kernel_rfl) (ok38 N _ _ _ hy) rfl ?_
                refine VO.seg T_ok .dp 5 [5, 7, 10, 25, 26, 27] [0, 1, 2, 3, 6, 7] (s' := ⟨[(5, .lf (.ptr 0 0 0 0)), (7, I x94), (10, .lf (.ptr 3 0 0 0)), (25, .lf (.v (.sl (.int .i64)) a1)), (26, I x95), (27, I x96)], [bx [.v (.int .i64) x91, .hd 1 0 none, .hd 2 0 none] 24, ar 0 (.int .i64) x92 .dp, ar 0 (.int .i64) x93 .dp, bx [.v (.int .i64) y133.1.1, .hd 4 0 none, .hd 5 0 none] 24, ar 0 (.int .i64) y133.1.2.1 .dp, ar 0 (.int .i64) y133.1.2.2 .dp]⟩) (φ := True ∧ True ∧ True ∧ True ∧ True ∧ True) (by kernel_rfl) ⟨trivial, trivial, trivial, trivial, trivial, trivial⟩ ?_
                refine VO.nil ?_
                exact arrive [.ren [5, 7, 10, 25, 26, 27] [0, 1, 2, 3, 4, 5]] (by kernel_rfl) ⟨x94, y133.1.1, y133.1.2.1, y133.1.2.2, rfl, h⟩
            · rintro s ⟨x128, x129, x130, x131, rfl, h⟩
              unfold F33_j1 at h
              refine VW.region ?_
              refine VO.seg T_ok .dp 2 [5, 7, 25, 26, 27] [0, 4, 5] (s' := ⟨[(5, .lf (.ptr 0 0 0 0)), (7, I x128), (25, .lf (.v (.sl (.int .i64)) a1)), (26, I x95), (27, I x96)], [bx [.v (.int .i64) x129, .hd 1 0 none, .hd 2 0 none] 24, ar 0 (.int .i64) x130 .dp, ar 0 (.int .i64) x131 .dp]⟩) (φ := True ∧ True ∧ True) (by kernel_rfl) ⟨trivial, trivial, trivial⟩ ?_
              refine VO.nil ?_
              show VW _ _ _ _ _ _ _
              refine VW.region ?_
              refine VO.seg T_ok .dp 2 [5, 7, 25, 26, 27] [0, 1, 2] (s' := ⟨[(5, .lf (.ptr 0 0 0 0)), (7, I x128), (25, .lf (.v (.sl (.int .i64)) a1)), (26, I x95), (27, I (IntKind.i64.wrap (x96 + (1 : Int))))], [bx [.v (.int .i64) x129, .hd 1 0 none, .hd 2 0 none] 24, ar 0 (.int .i64) x130 .dp, ar 0 (.int .i64) x131 .dp]⟩) (φ := True ∧ True ∧ True) (by kernel_rfl) ⟨trivial, trivial, trivial⟩ ?_
              refine VO.nil ?_
              exact around [.ren [5, 7, 25, 26, 27] [0, 1, 2]] (by kernel_rfl) ⟨x129, x130, x131, x128, x95, (IntKind.i64.wrap (x96 + (1 : Int))), rfl, h⟩
          · replace h := cond_f h hb; clear hb
            refine VW.exit ?_
            exact arrive [.ren [7] []] (by kernel_rfl) ⟨x94, rfl, h⟩
      · rintro s ⟨x67, rfl, h⟩
        unfold F33_j0 at h
        refine VW.seq ?_
        refine VW.region ?_
        refine VO.seg T_ok .dp 2 [4] [] (s' := ⟨[(4, I x67)], []⟩) (φ := True ∧ True ∧ True) (by kernel_rfl) ⟨trivial, trivial, trivial⟩ ?_
        refine VO.nil ?_
        show VW _ _ _ _ _ _ _
        refine VW.ret ?_
        replace h := Option.some.inj h
        subst h
        exact retR [] (by kernel_rfl) rfl

/- loop.example/g00844/laws.FnExactHitsIn -/
def F9 (N : Nat) (a0 : Int) (a1 : (List Int)) : Option (Bool) :=
  cond (decide ((a1.length : Int) > (1048576 : Int))) (some true) (andO (F32 N a1) fun y1 => andO (F31 N a0 y1) fun y2 => andO (F32 N a1) fun y3 => andO (F33 N a0 y3) fun y4 => cond (y4 != y2) (some false) (andO (F32 N a1) fun y7 => andO (F34 N y3 y7) fun y8 => cond (!y8) (some false) (some true)))
theorem ok9 (N : Nat) (a0 : Int) (a1 : (List Int)) {r : Bool} (h : F9 N a0 a1 = some r) : Con Go.Proofs.Try.prog 9 [I a0, .lf (.v (.sl (.int .i64)) a1)] [.lf (.v .bool r)] := by
  refine ⟨enters_of Go.Proofs.Try.func9 rfl (by decide), HC.intro [.lf (.v .bool)] T_ok Go.Proofs.Try.func9 rfl (Nat.le_of_ble_eq_true rfl) (Nat.le_of_ble_eq_true rfl) fun w0 E0 => ?_⟩
  unfold F9 at h
  show VW _ _ _ _ _ (retQ _ _ _ _) _
  refine VW.seq ?_
  refine VW.region ?_
  refine VO.seg T_ok .dp 1 [0, 1] [] (s' := ⟨[(0, I a0), (1, .lf (.v (.sl (.int .i64)) a1))], []⟩) (φ := True ∧ True) (by kernel_rfl) ⟨trivial, trivial⟩ ?_
  refine VO.nil ?_
  show VW _ _ _ _ _ _ _
  refine VW.seq ?_
  refine VW.seq ?_
  refine VW.region ?_
  refine VO.seg T_ok .dp 3 [0, 1, 10] [] (s' := ⟨[(0, I a0), (1, .lf (.v (.sl (.int .i64)) a1)), (10, B (decide ((a1.length : Int) > (1048576 : Int))))], []⟩) (φ := True ∧ True ∧ True ∧ True) (by kernel_rfl) ⟨trivial, trivial, trivial, trivial⟩ ?_
  refine VO.nil ?_
  show VW _ _ _ _ _ _ _
  refine VW.cond (b := (decide ((a1.length : Int) > (1048576 : Int)))) (by kernel_rfl) (fun hb => ?_) (fun hb => ?_)
  · replace h := cond_t h hb; clear hb
    refine VW.seq ?_
    refine VW.region ?_
    refine VO.seg T_ok .dp 1 [4] [] (s' := ⟨[(4, B true)], []⟩) (φ := True ∧ True) (by kernel_rfl) ⟨trivial, trivial⟩ ?_
    refine VO.nil ?_
    show VW _ _ _ _ _ _ _
    refine VW.ret ?_
    replace h := Option.some.inj h
    subst h
    exact retR [] (by kernel_rfl) rfl
  · replace h := cond_f h hb; clear hb
    refine VW.skip ?_
    show VW _ _ _ _ _ _ _
    refine VW.seq ?_
    refine VW.region ?_
    refine VO.seg T_ok .dp 2 [0, 1, 11, 12] [] (s' := ⟨[(0, I a0), (1, .lf (.v (.sl (.int .i64)) a1)), (11, I a0), (12, .lf (.v (.sl (.int .i64)) a1))], []⟩) (φ := True ∧ True ∧ True) (by kernel_rfl) ⟨trivial, trivial, trivial⟩ ?_
    obtain ⟨y1, hy, h⟩ := andO_some h
    refine VO.call false [.t (.sl (.int .i64))] [] T_ok (d := some 13) (by kernel_rfl) (ok32 N _ hy) rfl ?_
    obtain ⟨y2, hy, h⟩ := andO_some h
    refine VO.call true [.t (.int .i64), .t (.sl (.int .i64))] [] T_ok (d := some 14) (by kernel_rfl) (ok31 N _ _ hy) rfl ?_
    refine VO.seg T_ok .dp 1 [0, 1, 5] [] (s' := ⟨[(0, I a0), (1, .lf (.v (.sl (.int .i64)) a1)), (5, I y2)], []⟩) (φ := True ∧ True) (by kernel_rfl) ⟨trivial, trivial⟩ ?_
    refine VO.nil ?_
    show VW _ _ _ _ _ _ _
    refine VW.seq ?_
    refine VW.region ?_
    refine VO.seg T_ok .dp 1 [0, 1, 5, 15] [] (s' := ⟨[(0, I a0), (1, .lf (.v (.sl (.int .i64)) a1)), (5, I y2), (15, .lf (.v (.sl (.int .i64)) a1))], []⟩) (φ := True ∧ True) (by kernel_rfl) ⟨trivial, trivial⟩ ?_
    obtain ⟨y3, hy, h⟩ := andO_some h
    refine VO.call false [.t (.sl (.int .i64))] [] T_ok (d := some 16) (by kernel_rfl) (ok32 N _ hy) rfl ?_
    refine VO.seg T_ok .dp 1 [0, 1, 5, 6] [0] (s' := ⟨[(0, I a0), (1, .lf (.v (.sl (.int .i64)) a1)), (5, I y2), (6, .lf (.hd 0 0 none))], [ar 0 (.int .i64) y3 .dp]⟩) (φ := True ∧ True) (by kernel_rfl) ⟨trivial, trivial⟩ ?_
    refine VO.nil ?_
    show VW _ _ _ _ _ _ _
    refine VW.seq ?_
    refine VW.region ?_
    refine VO.seg T_ok .dp 2 [1, 5, 6, 17, 18] [0] (s' := ⟨[(1, .lf (.v (.sl (.int .i64)) a1)), (5, I y2), (6, .lf (.hd 0 0 none)), (17, I a0), (18, .lf (.hd 0 0 none))], [ar 0 (.int .i64) y3 .dp]⟩) (φ := True ∧ True ∧ True) (by kernel_rfl) ⟨trivial, trivial, trivial⟩ ?_
    obtain ⟨y4, hy, h⟩ := andO_some h
    refine VO.call true [.t (.int .i64), .t (.sl (.int .i64))] [] T_ok (d := some 19) (by kernel_rfl) (ok33 N _ _ hy) rfl ?_
    refine VO.seg T_ok .dp 1 [1, 5, 6, 7] [0] (s' := ⟨[(1, .lf (.v (.sl (.int .i64)) a1)), (5, I y2), (6, .lf (.hd 0 0 none)), (7, I y4)], [ar 0 (.int .i64) y3 .dp]⟩) (φ := True ∧ True) (by kernel_rfl) ⟨trivial, trivial⟩ ?_
    refine VO.nil ?_
    show VW _ _ _ _ _ _ _
    refine VW.seq ?_
    refine VW.seq ?_
    refine VW.region ?_
    refine VO.seg T_ok .dp 3 [1, 6, 22] [0] (s' := ⟨[(1, .lf (.v (.sl (.int .i64)) a1)), (6, .lf (.hd 0 0 none)), (22, B (y4 != y2))], [ar 0 (.int .i64) y3 .dp]⟩) (φ := True ∧ True ∧ True ∧ True) (by kernel_rfl) ⟨trivial, trivial, trivial, trivial⟩ ?_
    refine VO.nil ?_
    show VW _ _ _ _ _ _ _
    refine VW.cond (b := (y4 != y2)) (by kernel_rfl) (fun hb => ?_) (fun hb => ?_)
    · replace h := cond_t h hb; clear hb
      refine VW.seq ?_
      refine VW.region ?_
      refine VO.seg T_ok .dp 1 [4] [] (s' := ⟨[(4, B false)], []⟩) (φ := True ∧ True) (by kernel_rfl) ⟨trivial, trivial⟩ ?_
      refine VO.nil ?_
      show VW _ _ _ _ _ _ _
      refine VW.ret ?_
      replace h := Option.some.inj h
      subst h
      exact retR [] (by kernel_rfl) rfl
    · replace h := cond_f h hb; clear hb
      refine VW.skip ?_
      show VW _ _ _ _ _ _ _
      refine VW.seq ?_
      refine VW.seq ?_
      refine VW.region ?_
      refine VO.seg T_ok .dp 2 [23, 24] [0] (s' := ⟨[(23, .lf (.hd 0 0 none)), (24, .lf (.v (.sl (.int .i64)) a1))], [ar 0 (.int .i64) y3 .dp]⟩) (φ := True ∧ True ∧ True) (by kernel_rfl) ⟨trivial, trivial, trivial⟩ ?_
      obtain ⟨y7, hy, h⟩ := andO_some h
      refine VO.call false [.t (.sl (.int .i64))] [] T_ok (d := some 25) (by kernel_rfl) (ok32 N _ hy) rfl ?_
      obtain ⟨y8, hy, h⟩ := andO_some h
      refine VO.call true [.t (.sl (.int .i64)), .t (.sl (.int .i64))] [] T_ok (d := some 26) (by kernel_rfl) (ok34 N _ _ hy) rfl ?_
      refine VO.seg T_ok .dp 1 [27] [] (s' := ⟨[(27, B (!y8))], []⟩) (φ := True ∧ True) (by kernel_rfl) ⟨trivial, trivial⟩ ?_
      refine VO.nil ?_
      show VW _ _ _ _ _ _ _
      refine VW.cond (b := (!y8)) (by kernel_rfl) (fun hb => ?_) (fun hb => ?_)
      · replace h := cond_t h hb; clear hb
        refine VW.seq ?_
        refine VW.region ?_
        refine VO.seg T_ok .dp 1 [4] [] (s' := ⟨[(4, B false)], []⟩) (φ := True ∧ True) (by kernel_rfl) ⟨trivial, trivial⟩ ?_
        refine VO.nil ?_
        show VW _ _ _ _ _ _ _
        refine VW.ret ?_
        replace h := Option.some.inj h
        subst h
        exact retR [] (by kernel_rfl) rfl
      · replace h := cond_f h hb; clear hb
        refine VW.skip ?_
        show VW _ _ _ _ _ _ _
        refine VW.seq ?_
        refine VW.region ?_
        refine VO.seg T_ok .dp 1 [4] [] (s' := ⟨[(4, B true)], []⟩) (φ := True ∧ True) (by kernel_rfl) ⟨trivial, trivial⟩ ?_
        refine VO.nil ?_
        show VW _ _ _ _ _ _ _
        refine VW.ret ?_
        replace h := Option.some.inj h
        subst h
        exact retR [] (by kernel_rfl) rfl

end Go.Proofs.Ytcipgfjhodgncaa.Vc
