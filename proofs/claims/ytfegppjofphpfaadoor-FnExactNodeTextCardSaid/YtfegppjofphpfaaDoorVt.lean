/- What functions of the program compute, and that they do. -/
import Derived.Test.YtfegppjofphpfaaDoorVt0
namespace Go.Proofs.YtfegppjofphpfaaDoor.Vc
open Go Go.RowKit
set_option linter.unusedVariables false
set_option maxRecDepth 100000
set_option maxHeartbeats 4000000
/- loop.example/g00844/impl.NodeText -/
def F10_j0 (N : Nat) (x49 : (List ByteArray)) : Option (ByteArray) :=
  andO (F36 N x49) fun y50 => some y50
def F10_l0_b (N : Nat) (nx81 : (List ByteArray) → (List Int) → Int → Int → Option (ByteArray)) (x71 : (List ByteArray)) (x72 : (List Int)) (x73 : Int) (x74 : Int) : Option (ByteArray) :=
  cond (decide (x74 < x73)) (gd (InR x74 x72.length) (andO (F33 N (x72.getD x74.toNat (Ty.dflt (.int .i64)))) fun y86 => gd (x71.length + ([y86]).length ≤ lim .str) (nx81 (x71 ++ ([y86])) x72 x73 (IntKind.i64.wrap (x74 + (1 : Int)))))) (F10_j0 N x71)
def F10_l0 (N : Nat) : Nat → (List ByteArray) → (List Int) → Int → Int → Option (ByteArray) := loopF (F10_l0_b N) (fun _ _ _ _ => none)
theorem F10_l0_s (N : Nat) {k : Nat} (hk : 0 < k) (x71 : (List ByteArray)) (x72 : (List Int)) (x73 : Int) (x74 : Int) : F10_l0 N k x71 x72 x73 x74 = F10_l0_b N (F10_l0 N (k - 1)) x71 x72 x73 x74 := by
  cases k with
  | zero => exact absurd hk (Nat.lt_irrefl 0)
  | succ m => rfl
def F10 (N : Nat) (a0 : (Int × (ByteArray × (Int × (Int × (Int × (Bool × (List Int)))))))) : Option (ByteArray) :=
  andO (F31 N a0) fun y2 => cond (!y2) (some ByteArray.empty) (andO (F32 N ) fun y3 => gd (InR a0.1 y3.length) (gd (a0.1.toNat < y3.length) (cond (a0.1 == (0 : Int)) (gd (([(y3.getD a0.1.toNat (Ty.dflt .str))]).length + ([a0.2.1]).length ≤ lim .str) (F10_j0 N (([(y3.getD a0.1.toNat (Ty.dflt .str))]) ++ ([a0.2.1])))) (cond (a0.1 == (1 : Int)) (andO (F33 N a0.2.2.1) fun y53 => andO (F34 N ) fun y54 => gd (InR a0.2.2.2.1 y54.length) (gd (a0.2.2.2.1.toNat < y54.length) (gd (([(y3.getD a0.1.toNat (Ty.dflt .str))]).length + ([y53, (y54.getD a0.2.2.2.1.toNat (Ty.dflt .str))]).length ≤ lim .str) (cond (a0.2.2.2.1 != (3 : Int)) (andO (F35 N a0) fun y58 => gd ((([(y3.getD a0.1.toNat (Ty.dflt .str))]) ++ ([y53, (y54.getD a0.2.2.2.1.toNat (Ty.dflt .str))])).length + ([y58]).length ≤ lim .str) (F10_j0 N ((([(y3.getD a0.1.toNat (Ty.dflt .str))]) ++ ([y53, (y54.getD a0.2.2.2.1.toNat (Ty.dflt .str))])) ++ ([y58])))) (F10_j0 N (([(y3.getD a0.1.toNat (Ty.dflt .str))]) ++ ([y53, (y54.getD a0.2.2.2.1.toNat (Ty.dflt .str))]))))))) (cond (a0.1 == (2 : Int)) (andO (F33 N (a0.2.2.2.2.2.2.length : Int)) fun y60 => gd (([(y3.getD a0.1.toNat (Ty.dflt .str))]).length + ([y60]).length ≤ lim .str) (F10_l0 N N (([(y3.getD a0.1.toNat (Ty.dflt .str))]) ++ ([y60])) a0.2.2.2.2.2.2 (a0.2.2.2.2.2.2.length : Int) (0 : Int))) (cond (a0.1 == (3 : Int)) (andO (F33 N a0.2.2.1) fun y88 => andO (F33 N a0.2.2.2.2.1) fun y89 => gd (([(y3.getD a0.1.toNat (Ty.dflt .str))]).length + ([y88, y89]).length ≤ lim .str) (F10_j0 N (([(y3.getD a0.1.toNat (Ty.dflt .str))]) ++ ([y88, y89])))) (cond (a0.1 == (5 : Int)) (andO (F33 N a0.2.2.1) fun y91 => gd (([(y3.getD a0.1.toNat (Ty.dflt .str))]).length + ([y91]).length ≤ lim .str) (F10_j0 N (([(y3.getD a0.1.toNat (Ty.dflt .str))]) ++ ([y91])))) (cond (a0.1 == (6 : Int)) (andO (F35 N a0) fun y93 => gd (([(y3.getD a0.1.toNat (Ty.dflt .str))]).length + ([y93]).length ≤ lim .str) (F10_j0 N (([(y3.getD a0.1.toNat (Ty.dflt .str))]) ++ ([y93])))) (F10_j0 N ([(y3.getD a0.1.toNat (Ty.dflt .str))]))))))))))
theorem ok10 (N : Nat) (a0 : (Int × (ByteArray × (Int × (Int × (Int × (Bool × (List Int)))))))) {r : ByteArray} (h : F10 N a0 = some r) : Con Go.Proofs.Tryd.prog 10 [.agg [.v (.int .i64) a0.1, .v .str a0.2.1, .v (.int .i64) a0.2.2.1, .v (.int .i64) a0.2.2.2.1, .v (.int .i64) a0.2.2.2.2.1, .v .bool a0.2.2.2.2.2.1, .v (.sl (.int .i64)) a0.2.2.2.2.2.2]] [.lf (.v .str r)] := by
  refine ctr [.lf (.v .str)] T_ok Go.Proofs.Tryd.func10 rfl fun w0 E0 ht => ?_
  unfold F10 at h
  show VW _ _ _ _ _ (retQ _ _ _ _) _
  refine sR T_ok [1] [0] ⟨[(1, .lf (.ptr 0 0 0 0))], [bx [.v (.int .i64) a0.1, .v .str a0.2.1, .v (.int .i64) a0.2.2.1, .v (.int .i64) a0.2.2.2.1, .v (.int .i64) a0.2.2.2.2.1, .v .bool a0.2.2.2.2.2.1, .v (.sl (.int .i64)) a0.2.2.2.2.2.2] 27]⟩ (tn 2) ?_
  refine VW.seq ?_
  refine VW.seq ?_
  refine VW.region ?_
  refine sG T_ok 1 [1, 6] [0] ⟨[(1, .lf (.ptr 0 0 0 0)), (6, .agg [.v (.int .i64) a0.1, .v .str a0.2.1, .v (.int .i64) a0.2.2.1, .v (.int .i64) a0.2.2.2.1, .v (.int .i64) a0.2.2.2.2.1, .v .bool a0.2.2.2.2.2.1, .v (.sl (.int .i64)) a0.2.2.2.2.2.2])], [bx [.v (.int .i64) a0.1, .v .str a0.2.1, .v (.int .i64) a0.2.2.1, .v (.int .i64) a0.2.2.2.1, .v (.int .i64) a0.2.2.2.2.1, .v .bool a0.2.2.2.2.2.1, .v (.sl (.int .i64)) a0.2.2.2.2.2.2] 27]⟩ (tn 1) ?_
  obtain ⟨y2, hy, h⟩ := andO_some h
  refine cal false [.t Y23] [] (some 7) T_ok (ok31 N _ hy) ?_
  refine sN T_ok [1, 8] [0] ⟨[(1, .lf (.ptr 0 0 0 0)), (8, B (!y2))], [bx [.v (.int .i64) a0.1, .v .str a0.2.1, .v (.int .i64) a0.2.2.1, .v (.int .i64) a0.2.2.2.1, .v (.int .i64) a0.2.2.2.2.1, .v .bool a0.2.2.2.2.2.1, .v (.sl (.int .i64)) a0.2.2.2.2.2.2] 27]⟩ (tn 1) ?_
  refine cnd h (fun h => ?_) (fun h => ?_)
  · refine sR T_ok [2] [] ⟨[(2, S ByteArray.empty)], []⟩ (tn 1) ?_
    refine VW.ret ?_
    replace h := Option.some.inj h
    subst h
    exact rt []
  refine VW.skip ?_
  refine VW.seq ?_
  obtain ⟨y3, hy3, h⟩ := andO_some h
  obtain ⟨g4, h⟩ := gd_some h
  obtain ⟨g5, h⟩ := gd_some h
  refine VW.ideal (by kernel_rfl) [[], [0], [1], [0, 1], [1, 2], [0, 1, 2], [0, 1, 2, 3], [0, 1, 2, 3, 4], [0, 1, 2, 3, 4, 5], [0, 1, 2, 3, 4, 5, 6]] [⟨[(1, .lf (.ptr 0 0 0 0)), (8, B (!y2))], [bx [.v (.int .i64) a0.1, .v .str a0.2.1, .v (.int .i64) a0.2.2.1, .v (.int .i64) a0.2.2.2.1, .v (.int .i64) a0.2.2.2.2.1, .v .bool a0.2.2.2.2.2.1, .v (.sl (.int .i64)) a0.2.2.2.2.2.2] 27]⟩,
    ⟨[(1, .lf (.ptr 0 0 0 0)), (9, .lf (.hd 1 0 none))], [bx [.v (.int .i64) a0.1, .v .str a0.2.1, .v (.int .i64) a0.2.2.1, .v (.int .i64) a0.2.2.2.1, .v (.int .i64) a0.2.2.2.2.1, .v .bool a0.2.2.2.2.2.1, .v (.sl (.int .i64)) a0.2.2.2.2.2.2] 27, ar 0 .str y3 .dp]⟩,
    ⟨[(1, .lf (.ptr 0 0 0 0)), (10, .lf (.ptr 0 0 0 0))], [bx [.v (.int .i64) a0.1, .v .str a0.2.1, .v (.int .i64) a0.2.2.1, .v (.int .i64) a0.2.2.2.1, .v (.int .i64) a0.2.2.2.2.1, .v .bool a0.2.2.2.2.2.1, .v (.sl (.int .i64)) a0.2.2.2.2.2.2] 27]⟩,
    ⟨[(1, .lf (.ptr 0 0 0 0)), (9, .lf (.hd 1 0 none)), (10, .lf (.ptr 0 0 0 0))], [bx [.v (.int .i64) a0.1, .v .str a0.2.1, .v (.int .i64) a0.2.2.1, .v (.int .i64) a0.2.2.2.1, .v (.int .i64) a0.2.2.2.2.1, .v .bool a0.2.2.2.2.2.1, .v (.sl (.int .i64)) a0.2.2.2.2.2.2] 27, ar 0 .str y3 .dp]⟩,
    ⟨[(1, .lf (.ptr 0 0 0 0)), (11, I a0.1)], [bx [.v (.int .i64) a0.1, .v .str a0.2.1, .v (.int .i64) a0.2.2.1, .v (.int .i64) a0.2.2.2.1, .v (.int .i64) a0.2.2.2.2.1, .v .bool a0.2.2.2.2.2.1, .v (.sl (.int .i64)) a0.2.2.2.2.2.2] 27]⟩,
    ⟨[(1, .lf (.ptr 0 0 0 0)), (9, .lf (.hd 1 0 none)), (11, I a0.1)], [bx [.v (.int .i64) a0.1, .v .str a0.2.1, .v (.int .i64) a0.2.2.1, .v (.int .i64) a0.2.2.2.1, .v (.int .i64) a0.2.2.2.2.1, .v .bool a0.2.2.2.2.2.1, .v (.sl (.int .i64)) a0.2.2.2.2.2.2] 27, ar 0 .str y3 .dp]⟩,
    ⟨[(1, .lf (.ptr 0 0 0 0)), (12, .lf (.ptr 1 0 a0.1.toNat 0))], [bx [.v (.int .i64) a0.1, .v .str a0.2.1, .v (.int .i64) a0.2.2.1, .v (.int .i64) a0.2.2.2.1, .v (.int .i64) a0.2.2.2.2.1, .v .bool a0.2.2.2.2.2.1, .v (.sl (.int .i64)) a0.2.2.2.2.2.2] 27, ar 0 .str y3 .dp]⟩,
    ⟨[(1, .lf (.ptr 0 0 0 0)), (13, S (y3.getD a0.1.toNat (Ty.dflt .str)))], [bx [.v (.int .i64) a0.1, .v .str a0.2.1, .v (.int .i64) a0.2.2.1, .v (.int .i64) a0.2.2.2.1, .v (.int .i64) a0.2.2.2.2.1, .v .bool a0.2.2.2.2.2.1, .v (.sl (.int .i64)) a0.2.2.2.2.2.2] 27]⟩,
    ⟨[(1, .lf (.ptr 0 0 0 0)), (14, .lf (.hd 1 0 none))], [bx [.v (.int .i64) a0.1, .v .str a0.2.1, .v (.int .i64) a0.2.2.1, .v (.int .i64) a0.2.2.2.1, .v (.int .i64) a0.2.2.2.2.1, .v .bool a0.2.2.2.2.2.1, .v (.sl (.int .i64)) a0.2.2.2.2.2.2] 27, ar 0 .str ([(y3.getD a0.1.toNat (Ty.dflt .str))]) .dp]⟩,
    ⟨[(1, .lf (.ptr 0 0 0 0)), (3, .lf (.hd 1 0 none))], [bx [.v (.int .i64) a0.1, .v .str a0.2.1, .v (.int .i64) a0.2.2.1, .v (.int .i64) a0.2.2.2.1, .v (.int .i64) a0.2.2.2.2.1, .v .bool a0.2.2.2.2.2.1, .v (.sl (.int .i64)) a0.2.2.2.2.2.2] 27, ar 0 .str ([(y3.getD a0.1.toNat (Ty.dflt .str))]) .dp]⟩] [(0, 0, 1), (0, 1, 2), (1, 1, 3), (2, 0, 3), (2, 2, 4), (3, 2, 5), (4, 0, 5), (5, 3, 6), (6, 4, 7), (7, 5, 8), (8, 6, 9)] 9 (s' := ⟨[(1, .lf (.ptr 0 0 0 0)), (3, .lf (.hd 1 0 none))], [bx [.v (.int .i64) a0.1, .v .str a0.2.1, .v (.int .i64) a0.2.2.1, .v (.int .i64) a0.2.2.2.1, .v (.int .i64) a0.2.2.2.2.1, .v .bool a0.2.2.2.2.2.1, .v (.sl (.int .i64)) a0.2.2.2.2.2.2] 27, ar 0 .str ([(y3.getD a0.1.toNat (Ty.dflt .str))]) .dp]⟩) (by kernel_rfl) rfl rfl ⟨⟨_, _, _, rfl, rfl, rfl, by
      refine VO.call false [] [] T_ok (d := some 9) (by kernel_rfl) (ok32 N  hy3) rfl ?_
      exact VO.ghl [.ren [1, 9] [0, 1]] (VI.fin (by kernel_rfl))⟩,
    ⟨_, _, _, rfl, rfl, rfl, VO.seg T_ok .dp 1 [1, 10] [0] (φ := True ∧ True) (by kernel_rfl) ⟨trivial, trivial⟩ (VI.fin rfl)⟩,
    ⟨_, _, _, rfl, rfl, rfl, VO.seg T_ok .dp 1 [1, 9, 10] [0, 1] (φ := True ∧ True) (by kernel_rfl) ⟨trivial, trivial⟩ (VI.fin rfl)⟩,
    ⟨_, _, _, rfl, rfl, rfl, by
      refine VO.call false [] [] T_ok (d := some 9) (by kernel_rfl) (ok32 N  hy3) rfl ?_
      exact VO.ghl [.ren [1, 9, 10] [0, 1]] (VI.fin (by kernel_rfl))⟩,
    ⟨_, _, _, rfl, rfl, rfl, VO.seg T_ok .dp 1 [1, 11] [0] (φ := True ∧ True) (by kernel_rfl) ⟨trivial, trivial⟩ (VI.fin rfl)⟩,
    ⟨_, _, _, rfl, rfl, rfl, VO.seg T_ok .dp 1 [1, 9, 11] [0, 1] (φ := True ∧ True) (by kernel_rfl) ⟨trivial, trivial⟩ (VI.fin rfl)⟩,
    ⟨_, _, _, rfl, rfl, rfl, by
      refine VO.call false [] [] T_ok (d := some 9) (by kernel_rfl) (ok32 N  hy3) rfl ?_
      exact VO.ghl [.ren [1, 9, 11] [0, 1]] (VI.fin (by kernel_rfl))⟩,
    ⟨_, _, _, rfl, rfl, rfl, VO.seg T_ok .dp 1 [1, 12] [0, 1] (φ := (InR a0.1 y3.length) ∧ True) (by kernel_rfl) ⟨g4, trivial⟩ (VI.fin rfl)⟩,
    ⟨_, _, _, rfl, rfl, rfl, VO.seg T_ok .dp 1 [1, 13] [0] (φ := (a0.1.toNat < y3.length) ∧ True) (by kernel_rfl) ⟨g5, trivial⟩ (VI.fin rfl)⟩,
    ⟨_, _, _, rfl, rfl, rfl, VO.seg T_ok .dp 1 [1, 14] [0, 1] (φ := True ∧ True) (by kernel_rfl) ⟨trivial, trivial⟩ (VI.fin rfl)⟩,
    ⟨_, _, _, rfl, rfl, rfl, VO.seg T_ok .dp 1 [1, 3] [0, 1] (φ := True ∧ True) (by kernel_rfl) ⟨trivial, trivial⟩ (VI.fin rfl)⟩, trivial⟩ ?_
  refine VW.join (fun s => ∃ (x49 : (List ByteArray)), s = ⟨[(3, .lf (.hd 0 0 none))], [ar 0 .str x49 .dp]⟩ ∧ F10_j0 N x49 = some r) ?_ ?_
  · refine sR T_ok [1, 3, 16] [0, 1] ⟨[(1, .lf (.ptr 0 0 0 0)), (3, .lf (.hd 1 0 none)), (16, I a0.1)], [bx [.v (.int .i64) a0.1, .v .str a0.2.1, .v (.int .i64) a0.2.2.1, .v (.int .i64) a0.2.2.2.1, .v (.int .i64) a0.2.2.2.2.1, .v .bool a0.2.2.2.2.2.1, .v (.sl (.int .i64)) a0.2.2.2.2.2.2] 27, ar 0 .str ([(y3.getD a0.1.toNat (Ty.dflt .str))]) .dp]⟩ (tn 2) ?_
    refine VW.block ?_
    refine sR T_ok [1, 3, 16, 17] [0, 1] ⟨[(1, .lf (.ptr 0 0 0 0)), (3, .lf (.hd 1 0 none)), (16, I a0.1), (17, B (a0.1 == (0 : Int)))], [bx [.v (.int .i64) a0.1, .v .str a0.2.1, .v (.int .i64) a0.2.2.1, .v (.int .i64) a0.2.2.2.1, .v (.int .i64) a0.2.2.2.2.1, .v .bool a0.2.2.2.2.2.1, .v (.sl (.int .i64)) a0.2.2.2.2.2.2] 27, ar 0 .str ([(y3.getD a0.1.toNat (Ty.dflt .str))]) .dp]⟩ (tn 2) ?_
    refine cnd h (fun h => ?_) (fun h => ?_)
    · obtain ⟨g52, h⟩ := gd_some h
      refine rR T_ok [3] [1] ⟨[(3, .lf (.hd 0 0 none))], [ar 0 .str (([(y3.getD a0.1.toNat (Ty.dflt .str))]) ++ ([a0.2.1])) .dp]⟩ (pu 4 (an g52 (tn 1))) ?_
      exact arv [.ren [3] [0]] ⟨(([(y3.getD a0.1.toNat (Ty.dflt .str))]) ++ ([a0.2.1])), rfl, h⟩
    refine sR T_ok [1, 3, 16, 24] [0, 1] ⟨[(1, .lf (.ptr 0 0 0 0)), (3, .lf (.hd 1 0 none)), (16, I a0.1), (24, B (a0.1 == (1 : Int)))], [bx [.v (.int .i64) a0.1, .v .str a0.2.1, .v (.int .i64) a0.2.2.1, .v (.int .i64) a0.2.2.2.1, .v (.int .i64) a0.2.2.2.2.1, .v .bool a0.2.2.2.2.2.1, .v (.sl (.int .i64)) a0.2.2.2.2.2.2] 27, ar 0 .str ([(y3.getD a0.1.toNat (Ty.dflt .str))]) .dp]⟩ (tn 2) ?_
    refine cnd h (fun h => ?_) (fun h => ?_)
    · refine VW.seq ?_
      obtain ⟨y53, hy53, h⟩ := andO_some h
      obtain ⟨y54, hy54, h⟩ := andO_some h
      obtain ⟨g55, h⟩ := gd_some h
      obtain ⟨g56, h⟩ := gd_some h
      obtain ⟨g57, h⟩ := gd_some h
      refine VW.ideal (by kernel_rfl) [[], [0], [1], [5], [0, 1], [0, 5], [1, 2], [1, 5], [5, 6], [0, 1, 2], [0, 1, 5], [0, 5, 6], [1, 2, 3], [1, 2, 5], [1, 5, 6], [0, 1, 2, 3], [0, 1, 2, 5], [0, 1, 5, 6], [1, 2, 3, 4], [1, 2, 3, 5], [1, 2, 5, 6], [0, 1, 2, 3, 4], [0, 1, 2, 3, 5], [0, 1, 2, 5, 6], [1, 2, 3, 4, 5], [1, 2, 3, 5, 6], [0, 1, 2, 3, 4, 5], [0, 1, 2, 3, 5, 6], [1, 2, 3, 4, 5, 6], [0, 1, 2, 3, 4, 5, 6], [1, 2, 3, 4, 5, 6, 7], [0, 1, 2, 3, 4, 5, 6, 7], [1, 2, 3, 4, 5, 6, 7, 8], [0, 1, 2, 3, 4, 5, 6, 7, 8], [1, 2, 3, 4, 5, 6, 7, 8, 9], [0, 1, 2, 3, 4, 5, 6, 7, 8, 9], [0, 1, 2, 3, 4, 5, 6, 7, 8, 9, 10], [0, 1, 2, 3, 4, 5, 6, 7, 8, 9, 10, 11]] [⟨[(1, .lf (.ptr 0 0 0 0)), (3, .lf (.hd 1 0 none)), (16, I a0.1), (24, B (a0.1 == (1 : Int)))], [bx [.v (.int .i64) a0.1, .v .str a0.2.1, .v (.int .i64) a0.2.2.1, .v (.int .i64) a0.2.2.2.1, .v (.int .i64) a0.2.2.2.2.1, .v .bool a0.2.2.2.2.2.1, .v (.sl (.int .i64)) a0.2.2.2.2.2.2] 27, ar 0 .str ([(y3.getD a0.1.toNat (Ty.dflt .str))]) .dp]⟩,
    ⟨[(1, .lf (.ptr 0 0 0 0)), (3, .lf (.hd 1 0 none)), (26, .lf (.hd 1 0 none))], [bx [.v (.int .i64) a0.1, .v .str a0.2.1, .v (.int .i64) a0.2.2.1, .v (.int .i64) a0.2.2.2.1, .v (.int .i64) a0.2.2.2.2.1, .v .bool a0.2.2.2.2.2.1, .v (.sl (.int .i64)) a0.2.2.2.2.2.2] 27, ar 0 .str ([(y3.getD a0.1.toNat (Ty.dflt .str))]) .dp]⟩,
    ⟨[(1, .lf (.ptr 0 0 0 0)), (3, .lf (.hd 1 0 none)), (27, .lf (.ptr 0 0 0 2))], [bx [.v (.int .i64) a0.1, .v .str a0.2.1, .v (.int .i64) a0.2.2.1, .v (.int .i64) a0.2.2.2.1, .v (.int .i64) a0.2.2.2.2.1, .v .bool a0.2.2.2.2.2.1, .v (.sl (.int .i64)) a0.2.2.2.2.2.2] 27, ar 0 .str ([(y3.getD a0.1.toNat (Ty.dflt .str))]) .dp]⟩,
    ⟨[(1, .lf (.ptr 0 0 0 0)), (3, .lf (.hd 1 0 none)), (31, .lf (.ptr 0 0 0 3))], [bx [.v (.int .i64) a0.1, .v .str a0.2.1, .v (.int .i64) a0.2.2.1, .v (.int .i64) a0.2.2.2.1, .v (.int .i64) a0.2.2.2.2.1, .v .bool a0.2.2.2.2.2.1, .v (.sl (.int .i64)) a0.2.2.2.2.2.2] 27, ar 0 .str ([(y3.getD a0.1.toNat (Ty.dflt .str))]) .dp]⟩,
    ⟨[(1, .lf (.ptr 0 0 0 0)), (3, .lf (.hd 1 0 none)), (26, .lf (.hd 1 0 none)), (27, .lf (.ptr 0 0 0 2))], [bx [.v (.int .i64) a0.1, .v .str a0.2.1, .v (.int .i64) a0.2.2.1, .v (.int .i64) a0.2.2.2.1, .v (.int .i64) a0.2.2.2.2.1, .v .bool a0.2.2.2.2.2.1, .v (.sl (.int .i64)) a0.2.2.2.2.2.2] 27, ar 0 .str ([(y3.getD a0.1.toNat (Ty.dflt .str))]) .dp]⟩,
    ⟨[(1, .lf (.ptr 0 0 0 0)), (3, .lf (.hd 1 0 none)), (26, .lf (.hd 1 0 none)), (31, .lf (.ptr 0 0 0 3))], [bx [.v (.int .i64) a0.1, .v .str a0.2.1, .v (.int .i64) a0.2.2.1, .v (.int .i64) a0.2.2.2.1, .v (.int .i64) a0.2.2.2.2.1, .v .bool a0.2.2.2.2.2.1, .v (.sl (.int .i64)) a0.2.2.2.2.2.2] 27, ar 0 .str ([(y3.getD a0.1.toNat (Ty.dflt .str))]) .dp]⟩,
    ⟨[(1, .lf (.ptr 0 0 0 0)), (3, .lf (.hd 1 0 none)), (28, I a0.2.2.1)], [bx [.v (.int .i64) a0.1, .v .str a0.2.1, .v (.int .i64) a0.2.2.1, .v (.int .i64) a0.2.2.2.1, .v (.int .i64) a0.2.2.2.2.1, .v .bool a0.2.2.2.2.2.1, .v (.sl (.int .i64)) a0.2.2.2.2.2.2] 27, ar 0 .str ([(y3.getD a0.1.toNat (Ty.dflt .str))]) .dp]⟩,
    ⟨[(1, .lf (.ptr 0 0 0 0)), (3, .lf (.hd 1 0 none)), (27, .lf (.ptr 0 0 0 2)), (31, .lf (.ptr 0 0 0 3))], [bx [.v (.int .i64) a0.1, .v .str a0.2.1, .v (.int .i64) a0.2.2.1, .v (.int .i64) a0.2.2.2.1, .v (.int .i64) a0.2.2.2.2.1, .v .bool a0.2.2.2.2.2.1, .v (.sl (.int .i64)) a0.2.2.2.2.2.2] 27, ar 0 .str ([(y3.getD a0.1.toNat (Ty.dflt .str))]) .dp]⟩,
    ⟨[(1, .lf (.ptr 0 0 0 0)), (3, .lf (.hd 1 0 none)), (32, I a0.2.2.2.1)], [bx [.v (.int .i64) a0.1, .v .str a0.2.1, .v (.int .i64) a0.2.2.1, .v (.int .i64) a0.2.2.2.1, .v (.int .i64) a0.2.2.2.2.1, .v .bool a0.2.2.2.2.2.1, .v (.sl (.int .i64)) a0.2.2.2.2.2.2] 27, ar 0 .str ([(y3.getD a0.1.toNat (Ty.dflt .str))]) .dp]⟩,
    ⟨[(1, .lf (.ptr 0 0 0 0)), (3, .lf (.hd 1 0 none)), (26, .lf (.hd 1 0 none)), (28, I a0.2.2.1)], [bx [.v (.int .i64) a0.1, .v .str a0.2.1, .v (.int .i64) a0.2.2.1, .v (.int .i64) a0.2.2.2.1, .v (.int .i64) a0.2.2.2.2.1, .v .bool a0.2.2.2.2.2.1, .v (.sl (.int .i64)) a0.2.2.2.2.2.2] 27, ar 0 .str ([(y3.getD a0.1.toNat (Ty.dflt .str))]) .dp]⟩,
    ⟨[(1, .lf (.ptr 0 0 0 0)), (3, .lf (.hd 1 0 none)), (26, .lf (.hd 1 0 none)), (27, .lf (.ptr 0 0 0 2)), (31, .lf (.ptr 0 0 0 3))], [bx [.v (.int .i64) a0.1, .v .str a0.2.1, .v (.int .i64) a0.2.2.1, .v (.int .i64) a0.2.2.2.1, .v (.int .i64) a0.2.2.2.2.1, .v .bool a0.2.2.2.2.2.1, .v (.sl (.int .i64)) a0.2.2.2.2.2.2] 27, ar 0 .str ([(y3.getD a0.1.toNat (Ty.dflt .str))]) .dp]⟩,
    ⟨[(1, .lf (.ptr 0 0 0 0)), (3, .lf (.hd 1 0 none)), (26, .lf (.hd 1 0 none)), (32, I a0.2.2.2.1)], [bx [.v (.int .i64) a0.1, .v .str a0.2.1, .v (.int .i64) a0.2.2.1, .v (.int .i64) a0.2.2.2.1, .v (.int .i64) a0.2.2.2.2.1, .v .bool a0.2.2.2.2.2.1, .v (.sl (.int .i64)) a0.2.2.2.2.2.2] 27, ar 0 .str ([(y3.getD a0.1.toNat (Ty.dflt .str))]) .dp]⟩,
    ⟨[(1, .lf (.ptr 0 0 0 0)), (3, .lf (.hd 1 0 none)), (29, S y53)], [bx [.v (.int .i64) a0.1, .v .str a0.2.1, .v (.int .i64) a0.2.2.1, .v (.int .i64) a0.2.2.2.1, .v (.int .i64) a0.2.2.2.2.1, .v .bool a0.2.2.2.2.2.1, .v (.sl (.int .i64)) a0.2.2.2.2.2.2] 27, ar 0 .str ([(y3.getD a0.1.toNat (Ty.dflt .str))]) .dp]⟩,
    ⟨[(1, .lf (.ptr 0 0 0 0)), (3, .lf (.hd 1 0 none)), (28, I a0.2.2.1), (31, .lf (.ptr 0 0 0 3))], [bx [.v (.int .i64) a0.1, .v .str a0.2.1, .v (.int .i64) a0.2.2.1, .v (.int .i64) a0.2.2.2.1, .v (.int .i64) a0.2.2.2.2.1, .v .bool a0.2.2.2.2.2.1, .v (.sl (.int .i64)) a0.2.2.2.2.2.2] 27, ar 0 .str ([(y3.getD a0.1.toNat (Ty.dflt .str))]) .dp]⟩,
    ⟨[(1, .lf (.ptr 0 0 0 0)), (3, .lf (.hd 1 0 none)), (27, .lf (.ptr 0 0 0 2)), (32, I a0.2.2.2.1)], [bx [.v (.int .i64) a0.1, .v .str a0.2.1, .v (.int .i64) a0.2.2.1, .v (.int .i64) a0.2.2.2.1, .v (.int .i64) a0.2.2.2.2.1, .v .bool a0.2.2.2.2.2.1, .v (.sl (.int .i64)) a0.2.2.2.2.2.2] 27, ar 0 .str ([(y3.getD a0.1.toNat (Ty.dflt .str))]) .dp]⟩,
    ⟨[(1, .lf (.ptr 0 0 0 0)), (3, .lf (.hd 1 0 none)), (26, .lf (.hd 1 0 none)), (29, S y53)], [bx [.v (.int .i64) a0.1, .v .str a0.2.1, .v (.int .i64) a0.2.2.1, .v (.int .i64) a0.2.2.2.1, .v (.int .i64) a0.2.2.2.2.1, .v .bool a0.2.2.2.2.2.1, .v (.sl (.int .i64)) a0.2.2.2.2.2.2] 27, ar 0 .str ([(y3.getD a0.1.toNat (Ty.dflt .str))]) .dp]⟩,
    ⟨[(1, .lf (.ptr 0 0 0 0)), (3, .lf (.hd 1 0 none)), (26, .lf (.hd 1 0 none)), (28, I a0.2.2.1), (31, .lf (.ptr 0 0 0 3))], [bx [.v (.int .i64) a0.1, .v .str a0.2.1, .v (.int .i64) a0.2.2.1, .v (.int .i64) a0.2.2.2.1, .v (.int .i64) a0.2.2.2.2.1, .v .bool a0.2.2.2.2.2.1, .v (.sl (.int .i64)) a0.2.2.2.2.2.2] 27, ar 0 .str ([(y3.getD a0.1.toNat (Ty.dflt .str))]) .dp]⟩,
    ⟨[(1, .lf (.ptr 0 0 0 0)), (3, .lf (.hd 1 0 none)), (26, .lf (.hd 1 0 none)), (27, .lf (.ptr 0 0 0 2)), (32, I a0.2.2.2.1)], [bx [.v (.int .i64) a0.1, .v .str a0.2.1, .v (.int .i64) a0.2.2.1, .v (.int .i64) a0.2.2.2.1, .v (.int .i64) a0.2.2.2.2.1, .v .bool a0.2.2.2.2.2.1, .v (.sl (.int .i64)) a0.2.2.2.2.2.2] 27, ar 0 .str ([(y3.getD a0.1.toNat (Ty.dflt .str))]) .dp]⟩,
    ⟨[(1, .lf (.ptr 0 0 0 0)), (3, .lf (.hd 1 0 none)), (29, S y53), (30, .lf (.hd 2 0 none))], [bx [.v (.int .i64) a0.1, .v .str a0.2.1, .v (.int .i64) a0.2.2.1, .v (.int .i64) a0.2.2.2.1, .v (.int .i64) a0.2.2.2.2.1, .v .bool a0.2.2.2.2.2.1, .v (.sl (.int .i64)) a0.2.2.2.2.2.2] 27, ar 0 .str ([(y3.getD a0.1.toNat (Ty.dflt .str))]) .dp, ar 0 .str y54 .dp]⟩,
    ⟨[(1, .lf (.ptr 0 0 0 0)), (3, .lf (.hd 1 0 none)), (29, S y53), (31, .lf (.ptr 0 0 0 3))], [bx [.v (.int .i64) a0.1, .v .str a0.2.1, .v (.int .i64) a0.2.2.1, .v (.int .i64) a0.2.2.2.1, .v (.int .i64) a0.2.2.2.2.1, .v .bool a0.2.2.2.2.2.1, .v (.sl (.int .i64)) a0.2.2.2.2.2.2] 27, ar 0 .str ([(y3.getD a0.1.toNat (Ty.dflt .str))]) .dp]⟩,
    ⟨[(1, .lf (.ptr 0 0 0 0)), (3, .lf (.hd 1 0 none)), (28, I a0.2.2.1), (32, I a0.2.2.2.1)], [bx [.v (.int .i64) a0.1, .v .str a0.2.1, .v (.int .i64) a0.2.2.1, .v (.int .i64) a0.2.2.2.1, .v (.int .i64) a0.2.2.2.2.1, .v .bool a0.2.2.2.2.2.1, .v (.sl (.int .i64)) a0.2.2.2.2.2.2] 27, ar 0 .str ([(y3.getD a0.1.toNat (Ty.dflt .str))]) .dp]⟩,
    ⟨[(1, .lf (.ptr 0 0 0 0)), (3, .lf (.hd 1 0 none)), (26, .lf (.hd 1 0 none)), (29, S y53), (30, .lf (.hd 2 0 none))], [bx [.v (.int .i64) a0.1, .v .str a0.2.1, .v (.int .i64) a0.2.2.1, .v (.int .i64) a0.2.2.2.1, .v (.int .i64) a0.2.2.2.2.1, .v .bool a0.2.2.2.2.2.1, .v (.sl (.int .i64)) a0.2.2.2.2.2.2] 27, ar 0 .str ([(y3.getD a0.1.toNat (Ty.dflt .str))]) .dp, ar 0 .str y54 .dp]⟩,
    ⟨[(1, .lf (.ptr 0 0 0 0)), (3, .lf (.hd 1 0 none)), (26, .lf (.hd 1 0 none)), (29, S y53), (31, .lf (.ptr 0 0 0 3))], [bx [.v (.int .i64) a0.1, .v .str a0.2.1, .v (.int .i64) a0.2.2.1, .v (.int .i64) a0.2.2.2.1, .v (.int .i64) a0.2.2.2.2.1, .v .bool a0.2.2.2.2.2.1, .v (.sl (.int .i64)) a0.2.2.2.2.2.2] 27, ar 0 .str ([(y3.getD a0.1.toNat (Ty.dflt .str))]) .dp]⟩,
    ⟨[(1, .lf (.ptr 0 0 0 0)), (3, .lf (.hd 1 0 none)), (26, .lf (.hd 1 0 none)), (28, I a0.2.2.1), (32, I a0.2.2.2.1)], [bx [.v (.int .i64) a0.1, .v .str a0.2.1, .v (.int .i64) a0.2.2.1, .v (.int .i64) a0.2.2.2.1, .v (.int .i64) a0.2.2.2.2.1, .v .bool a0.2.2.2.2.2.1, .v (.sl (.int .i64)) a0.2.2.2.2.2.2] 27, ar 0 .str ([(y3.getD a0.1.toNat (Ty.dflt .str))]) .dp]⟩,
    ⟨[(1, .lf (.ptr 0 0 0 0)), (3, .lf (.hd 1 0 none)), (29, S y53), (30, .lf (.hd 2 0 none)), (31, .lf (.ptr 0 0 0 3))], [bx [.v (.int .i64) a0.1, .v .str a0.2.1, .v (.int .i64) a0.2.2.1, .v (.int .i64) a0.2.2.2.1, .v (.int .i64) a0.2.2.2.2.1, .v .bool a0.2.2.2.2.2.1, .v (.sl (.int .i64)) a0.2.2.2.2.2.2] 27, ar 0 .str ([(y3.getD a0.1.toNat (Ty.dflt .str))]) .dp, ar 0 .str y54 .dp]⟩,
    ⟨[(1, .lf (.ptr 0 0 0 0)), (3, .lf (.hd 1 0 none)), (29, S y53), (32, I a0.2.2.2.1)], [bx [.v (.int .i64) a0.1, .v .str a0.2.1, .v (.int .i64) a0.2.2.1, .v (.int .i64) a0.2.2.2.1, .v (.int .i64) a0.2.2.2.2.1, .v .bool a0.2.2.2.2.2.1, .v (.sl (.int .i64)) a0.2.2.2.2.2.2] 27, ar 0 .str ([(y3.getD a0.1.toNat (Ty.dflt .str))]) .dp]⟩,
    ⟨[(1, .lf (.ptr 0 0 0 0)), (3, .lf (.hd 1 0 none)), (26, .lf (.hd 1 0 none)), (29, S y53), (30, .lf (.hd 2 0 none)), (31, .lf (.ptr 0 0 0 3))], [bx [.v (.int .i64) a0.1, .v .str a0.2.1, .v (.int .i64) a0.2.2.1, .v (.int .i64) a0.2.2.2.1, .v (.int .i64) a0.2.2.2.2.1, .v .bool a0.2.2.2.2.2.1, .v (.sl (.int .i64)) a0.2.2.2.2.2.2] 27, ar 0 .str ([(y3.getD a0.1.toNat (Ty.dflt .str))]) .dp, ar 0 .str y54 .dp]⟩,
    ⟨[(1, .lf (.ptr 0 0 0 0)), (3, .lf (.hd 1 0 none)), (26, .lf (.hd 1 0 none)), (29, S y53), (32, I a0.2.2.2.1)], [bx [.v (.int .i64) a0.1, .v .str a0.2.1, .v (.int .i64) a0.2.2.1, .v (.int .i64) a0.2.2.2.1, .v (.int .i64) a0.2.2.2.2.1, .v .bool a0.2.2.2.2.2.1, .v (.sl (.int .i64)) a0.2.2.2.2.2.2] 27, ar 0 .str ([(y3.getD a0.1.toNat (Ty.dflt .str))]) .dp]⟩,
    ⟨[(1, .lf (.ptr 0 0 0 0)), (3, .lf (.hd 1 0 none)), (29, S y53), (30, .lf (.hd 2 0 none)), (32, I a0.2.2.2.1)], [bx [.v (.int .i64) a0.1, .v .str a0.2.1, .v (.int .i64) a0.2.2.1, .v (.int .i64) a0.2.2.2.1, .v (.int .i64) a0.2.2.2.2.1, .v .bool a0.2.2.2.2.2.1, .v (.sl (.int .i64)) a0.2.2.2.2.2.2] 27, ar 0 .str ([(y3.getD a0.1.toNat (Ty.dflt .str))]) .dp, ar 0 .str y54 .dp]⟩,
    ⟨[(1, .lf (.ptr 0 0 0 0)), (3, .lf (.hd 1 0 none)), (26, .lf (.hd 1 0 none)), (29, S y53), (30, .lf (.hd 2 0 none)), (32, I a0.2.2.2.1)], [bx [.v (.int .i64) a0.1, .v .str a0.2.1, .v (.int .i64) a0.2.2.1, .v (.int .i64) a0.2.2.2.1, .v (.int .i64) a0.2.2.2.2.1, .v .bool a0.2.2.2.2.2.1, .v (.sl (.int .i64)) a0.2.2.2.2.2.2] 27, ar 0 .str ([(y3.getD a0.1.toNat (Ty.dflt .str))]) .dp, ar 0 .str y54 .dp]⟩,
    ⟨[(1, .lf (.ptr 0 0 0 0)), (3, .lf (.hd 1 0 none)), (29, S y53), (33, .lf (.ptr 2 0 a0.2.2.2.1.toNat 0))], [bx [.v (.int .i64) a0.1, .v .str a0.2.1, .v (.int .i64) a0.2.2.1, .v (.int .i64) a0.2.2.2.1, .v (.int .i64) a0.2.2.2.2.1, .v .bool a0.2.2.2.2.2.1, .v (.sl (.int .i64)) a0.2.2.2.2.2.2] 27, ar 0 .str ([(y3.getD a0.1.toNat (Ty.dflt .str))]) .dp, ar 0 .str y54 .dp]⟩,
    ⟨[(1, .lf (.ptr 0 0 0 0)), (3, .lf (.hd 1 0 none)), (26, .lf (.hd 1 0 none)), (29, S y53), (33, .lf (.ptr 2 0 a0.2.2.2.1.toNat 0))], [bx [.v (.int .i64) a0.1, .v .str a0.2.1, .v (.int .i64) a0.2.2.1, .v (.int .i64) a0.2.2.2.1, .v (.int .i64) a0.2.2.2.2.1, .v .bool a0.2.2.2.2.2.1, .v (.sl (.int .i64)) a0.2.2.2.2.2.2] 27, ar 0 .str ([(y3.getD a0.1.toNat (Ty.dflt .str))]) .dp, ar 0 .str y54 .dp]⟩,
    ⟨[(1, .lf (.ptr 0 0 0 0)), (3, .lf (.hd 1 0 none)), (29, S y53), (34, S (y54.getD a0.2.2.2.1.toNat (Ty.dflt .str)))], [bx [.v (.int .i64) a0.1, .v .str a0.2.1, .v (.int .i64) a0.2.2.1, .v (.int .i64) a0.2.2.2.1, .v (.int .i64) a0.2.2.2.2.1, .v .bool a0.2.2.2.2.2.1, .v (.sl (.int .i64)) a0.2.2.2.2.2.2] 27, ar 0 .str ([(y3.getD a0.1.toNat (Ty.dflt .str))]) .dp]⟩,
    ⟨[(1, .lf (.ptr 0 0 0 0)), (3, .lf (.hd 1 0 none)), (26, .lf (.hd 1 0 none)), (29, S y53), (34, S (y54.getD a0.2.2.2.1.toNat (Ty.dflt .str)))], [bx [.v (.int .i64) a0.1, .v .str a0.2.1, .v (.int .i64) a0.2.2.1, .v (.int .i64) a0.2.2.2.1, .v (.int .i64) a0.2.2.2.2.1, .v .bool a0.2.2.2.2.2.1, .v (.sl (.int .i64)) a0.2.2.2.2.2.2] 27, ar 0 .str ([(y3.getD a0.1.toNat (Ty.dflt .str))]) .dp]⟩,
    ⟨[(1, .lf (.ptr 0 0 0 0)), (3, .lf (.hd 1 0 none)), (35, .lf (.hd 2 0 none))], [bx [.v (.int .i64) a0.1, .v .str a0.2.1, .v (.int .i64) a0.2.2.1, .v (.int .i64) a0.2.2.2.1, .v (.int .i64) a0.2.2.2.2.1, .v .bool a0.2.2.2.2.2.1, .v (.sl (.int .i64)) a0.2.2.2.2.2.2] 27, ar 0 .str ([(y3.getD a0.1.toNat (Ty.dflt .str))]) .dp, ar 0 .str ([y53, (y54.getD a0.2.2.2.1.toNat (Ty.dflt .str))]) .dp]⟩,
    ⟨[(1, .lf (.ptr 0 0 0 0)), (3, .lf (.hd 1 0 none)), (26, .lf (.hd 1 0 none)), (35, .lf (.hd 2 0 none))], [bx [.v (.int .i64) a0.1, .v .str a0.2.1, .v (.int .i64) a0.2.2.1, .v (.int .i64) a0.2.2.2.1, .v (.int .i64) a0.2.2.2.2.1, .v .bool a0.2.2.2.2.2.1, .v (.sl (.int .i64)) a0.2.2.2.2.2.2] 27, ar 0 .str ([(y3.getD a0.1.toNat (Ty.dflt .str))]) .dp, ar 0 .str ([y53, (y54.getD a0.2.2.2.1.toNat (Ty.dflt .str))]) .dp]⟩,
    ⟨[(1, .lf (.ptr 0 0 0 0)), (3, .lf (.any)), (36, .lf (.hd 1 0 none))], [bx [.v (.int .i64) a0.1, .v .str a0.2.1, .v (.int .i64) a0.2.2.1, .v (.int .i64) a0.2.2.2.1, .v (.int .i64) a0.2.2.2.2.1, .v .bool a0.2.2.2.2.2.1, .v (.sl (.int .i64)) a0.2.2.2.2.2.2] 27, ar 0 .str (([(y3.getD a0.1.toNat (Ty.dflt .str))]) ++ ([y53, (y54.getD a0.2.2.2.1.toNat (Ty.dflt .str))])) .dp]⟩,
    ⟨[(1, .lf (.ptr 0 0 0 0)), (3, .lf (.hd 1 0 none))], [bx [.v (.int .i64) a0.1, .v .str a0.2.1, .v (.int .i64) a0.2.2.1, .v (.int .i64) a0.2.2.2.1, .v (.int .i64) a0.2.2.2.2.1, .v .bool a0.2.2.2.2.2.1, .v (.sl (.int .i64)) a0.2.2.2.2.2.2] 27, ar 0 .str (([(y3.getD a0.1.toNat (Ty.dflt .str))]) ++ ([y53, (y54.getD a0.2.2.2.1.toNat (Ty.dflt .str))])) .dp]⟩] [(0, 0, 1), (0, 1, 2), (0, 5, 3), (1, 1, 4), (1, 5, 5), (2, 0, 4), (2, 2, 6), (2, 5, 7), (3, 0, 5), (3, 1, 7), (3, 6, 8), (4, 2, 9), (4, 5, 10), (5, 1, 10), (5, 6, 11), (6, 0, 9), (6, 3, 12), (6, 5, 13), (7, 0, 10), (7, 2, 13), (7, 6, 14), (8, 0, 11), (8, 1, 14), (9, 3, 15), (9, 5, 16), (10, 2, 16), (10, 6, 17), (11, 1, 17), (12, 0, 15), (12, 4, 18), (12, 5, 19), (13, 0, 16), (13, 3, 19), (13, 6, 20), (14, 0, 17), (14, 2, 20), (15, 4, 21), (15, 5, 22), (16, 3, 22), (16, 6, 23), (17, 2, 23), (18, 0, 21), (18, 5, 24), (19, 0, 22), (19, 4, 24), (19, 6, 25), (20, 0, 23), (20, 3, 25), (21, 5, 26), (22, 4, 26), (22, 6, 27), (23, 3, 27), (24, 0, 26), (24, 6, 28), (25, 0, 27), (25, 4, 28), (26, 6, 29), (27, 4, 29), (28, 0, 29), (28, 7, 30), (29, 7, 31), (30, 0, 31), (30, 8, 32), (31, 8, 33), (32, 0, 33), (32, 9, 34), (33, 9, 35), (34, 0, 35), (35, 10, 36), (36, 11, 37)] 37 (s' := ⟨[(1, .lf (.ptr 0 0 0 0)), (3, .lf (.hd 1 0 none))], [bx [.v (.int .i64) a0.1, .v .str a0.2.1, .v (.int .i64) a0.2.2.1, .v (.int .i64) a0.2.2.2.1, .v (.int .i64) a0.2.2.2.2.1, .v .bool a0.2.2.2.2.2.1, .v (.sl (.int .i64)) a0.2.2.2.2.2.2] 27, ar 0 .str (([(y3.getD a0.1.toNat (Ty.dflt .str))]) ++ ([y53, (y54.getD a0.2.2.2.1.toNat (Ty.dflt .str))])) .dp]⟩) (by kernel_rfl) rfl rfl ⟨⟨_, _, _, rfl, rfl, rfl, VO.seg T_ok .dp 1 [1, 3, 26] [0, 1] (φ := True ∧ True) (by kernel_rfl) ⟨trivial, trivial⟩ (VI.fin rfl)⟩,
    ⟨_, _, _, rfl, rfl, rfl, VO.seg T_ok .dp 1 [1, 3, 27] [0, 1] (φ := True ∧ True) (by kernel_rfl) ⟨trivial, trivial⟩ (VI.fin rfl)⟩,
    ⟨_, _, _, rfl, rfl, rfl, VO.seg T_ok .dp 1 [1, 3, 31] [0, 1] (φ := True ∧ True) (by kernel_rfl) ⟨trivial, trivial⟩ (VI.fin rfl)⟩,
    ⟨_, _, _, rfl, rfl, rfl, VO.seg T_ok .dp 1 [1, 3, 26, 27] [0, 1] (φ := True ∧ True) (by kernel_rfl) ⟨trivial, trivial⟩ (VI.fin rfl)⟩,
    ⟨_, _, _, rfl, rfl, rfl, VO.seg T_ok .dp 1 [1, 3, 26, 31] [0, 1] (φ := True ∧ True) (by kernel_rfl) ⟨trivial, trivial⟩ (VI.fin rfl)⟩,
    ⟨_, _, _, rfl, rfl, rfl, VO.seg T_ok .dp 1 [1, 3, 26, 27] [0, 1] (φ := True ∧ True) (by kernel_rfl) ⟨trivial, trivial⟩ (VI.fin rfl)⟩,
    ⟨_, _, _, rfl, rfl, rfl, VO.seg T_ok .dp 1 [1, 3, 28] [0, 1] (φ := True ∧ True) (by kernel_rfl) ⟨trivial, trivial⟩ (VI.fin rfl)⟩,
    ⟨_, _, _, rfl, rfl, rfl, VO.seg T_ok .dp 1 [1, 3, 27, 31] [0, 1] (φ := True ∧ True) (by kernel_rfl) ⟨trivial, trivial⟩ (VI.fin rfl)⟩,
    ⟨_, _, _, rfl, rfl, rfl, VO.seg T_ok .dp 1 [1, 3, 26, 31] [0, 1] (φ := True ∧ True) (by kernel_rfl) ⟨trivial, trivial⟩ (VI.fin rfl)⟩,
    ⟨_, _, _, rfl, rfl, rfl, VO.seg T_ok .dp 1 [1, 3, 27, 31] [0, 1] (φ := True ∧ True) (by kernel_rfl) ⟨trivial, trivial⟩ (VI.fin rfl)⟩,
    ⟨_, _, _, rfl, rfl, rfl, VO.seg T_ok .dp 1 [1, 3, 32] [0, 1] (φ := True ∧ True) (by kernel_rfl) ⟨trivial, trivial⟩ (VI.fin rfl)⟩,
    ⟨_, _, _, rfl, rfl, rfl, VO.seg T_ok .dp 1 [1, 3, 26, 28] [0, 1] (φ := True ∧ True) (by kernel_rfl) ⟨trivial, trivial⟩ (VI.fin rfl)⟩,
    ⟨_, _, _, rfl, rfl, rfl, VO.seg T_ok .dp 1 [1, 3, 26, 27, 31] [0, 1] (φ := True ∧ True) (by kernel_rfl) ⟨trivial, trivial⟩ (VI.fin rfl)⟩,
    ⟨_, _, _, rfl, rfl, rfl, VO.seg T_ok .dp 1 [1, 3, 26, 27, 31] [0, 1] (φ := True ∧ True) (by kernel_rfl) ⟨trivial, trivial⟩ (VI.fin rfl)⟩,
    ⟨_, _, _, rfl, rfl, rfl, VO.seg T_ok .dp 1 [1, 3, 26, 32] [0, 1] (φ := True ∧ True) (by kernel_rfl) ⟨trivial, trivial⟩ (VI.fin rfl)⟩,
    ⟨_, _, _, rfl, rfl, rfl, VO.seg T_ok .dp 1 [1, 3, 26, 28] [0, 1] (φ := True ∧ True) (by kernel_rfl) ⟨trivial, trivial⟩ (VI.fin rfl)⟩,
    ⟨_, _, _, rfl, rfl, rfl, by
      refine VO.call false [.t (.int .i64)] [] T_ok (d := some 29) (by kernel_rfl) (ok33 N _ hy53) rfl ?_
      exact VO.ghl [.ren [1, 3, 29] [0, 1]] (VI.fin (by kernel_rfl))⟩,
    ⟨_, _, _, rfl, rfl, rfl, VO.seg T_ok .dp 1 [1, 3, 28, 31] [0, 1] (φ := True ∧ True) (by kernel_rfl) ⟨trivial, trivial⟩ (VI.fin rfl)⟩,
    ⟨_, _, _, rfl, rfl, rfl, VO.seg T_ok .dp 1 [1, 3, 26, 27, 31] [0, 1] (φ := True ∧ True) (by kernel_rfl) ⟨trivial, trivial⟩ (VI.fin rfl)⟩,
    ⟨_, _, _, rfl, rfl, rfl, VO.seg T_ok .dp 1 [1, 3, 28, 31] [0, 1] (φ := True ∧ True) (by kernel_rfl) ⟨trivial, trivial⟩ (VI.fin rfl)⟩,
    ⟨_, _, _, rfl, rfl, rfl, VO.seg T_ok .dp 1 [1, 3, 27, 32] [0, 1] (φ := True ∧ True) (by kernel_rfl) ⟨trivial, trivial⟩ (VI.fin rfl)⟩,
    ⟨_, _, _, rfl, rfl, rfl, VO.seg T_ok .dp 1 [1, 3, 26, 32] [0, 1] (φ := True ∧ True) (by kernel_rfl) ⟨trivial, trivial⟩ (VI.fin rfl)⟩,
    ⟨_, _, _, rfl, rfl, rfl, VO.seg T_ok .dp 1 [1, 3, 27, 32] [0, 1] (φ := True ∧ True) (by kernel_rfl) ⟨trivial, trivial⟩ (VI.fin rfl)⟩,
    ⟨_, _, _, rfl, rfl, rfl, by
      refine VO.call false [.t (.int .i64)] [] T_ok (d := some 29) (by kernel_rfl) (ok33 N _ hy53) rfl ?_
      exact VO.ghl [.ren [1, 3, 26, 29] [0, 1]] (VI.fin (by kernel_rfl))⟩,
    ⟨_, _, _, rfl, rfl, rfl, VO.seg T_ok .dp 1 [1, 3, 26, 28, 31] [0, 1] (φ := True ∧ True) (by kernel_rfl) ⟨trivial, trivial⟩ (VI.fin rfl)⟩,
    ⟨_, _, _, rfl, rfl, rfl, VO.seg T_ok .dp 1 [1, 3, 26, 28, 31] [0, 1] (φ := True ∧ True) (by kernel_rfl) ⟨trivial, trivial⟩ (VI.fin rfl)⟩,
    ⟨_, _, _, rfl, rfl, rfl, VO.seg T_ok .dp 1 [1, 3, 26, 27, 32] [0, 1] (φ := True ∧ True) (by kernel_rfl) ⟨trivial, trivial⟩ (VI.fin rfl)⟩,
    ⟨_, _, _, rfl, rfl, rfl, VO.seg T_ok .dp 1 [1, 3, 26, 27, 32] [0, 1] (φ := True ∧ True) (by kernel_rfl) ⟨trivial, trivial⟩ (VI.fin rfl)⟩,
    ⟨_, _, _, rfl, rfl, rfl, VO.seg T_ok .dp 1 [1, 3, 26, 29] [0, 1] (φ := True ∧ True) (by kernel_rfl) ⟨trivial, trivial⟩ (VI.fin rfl)⟩,
    ⟨_, _, _, rfl, rfl, rfl, by
      refine VO.call false [] [] T_ok (d := some 30) (by kernel_rfl) (ok34 N  hy54) rfl ?_
      exact VO.ghl [.ren [1, 3, 29, 30] [0, 1, 2]] (VI.fin (by kernel_rfl))⟩,
    ⟨_, _, _, rfl, rfl, rfl, VO.seg T_ok .dp 1 [1, 3, 29, 31] [0, 1] (φ := True ∧ True) (by kernel_rfl) ⟨trivial, trivial⟩ (VI.fin rfl)⟩,
    ⟨_, _, _, rfl, rfl, rfl, VO.seg T_ok .dp 1 [1, 3, 26, 28, 31] [0, 1] (φ := True ∧ True) (by kernel_rfl) ⟨trivial, trivial⟩ (VI.fin rfl)⟩,
    ⟨_, _, _, rfl, rfl, rfl, by
      refine VO.call false [.t (.int .i64)] [] T_ok (d := some 29) (by kernel_rfl) (ok33 N _ hy53) rfl ?_
      exact VO.ghl [.ren [1, 3, 29, 31] [0, 1]] (VI.fin (by kernel_rfl))⟩,
    ⟨_, _, _, rfl, rfl, rfl, VO.seg T_ok .dp 1 [1, 3, 28, 32] [0, 1] (φ := True ∧ True) (by kernel_rfl) ⟨trivial, trivial⟩ (VI.fin rfl)⟩,
    ⟨_, _, _, rfl, rfl, rfl, VO.seg T_ok .dp 1 [1, 3, 26, 27, 32] [0, 1] (φ := True ∧ True) (by kernel_rfl) ⟨trivial, trivial⟩ (VI.fin rfl)⟩,
    ⟨_, _, _, rfl, rfl, rfl, VO.seg T_ok .dp 1 [1, 3, 28, 32] [0, 1] (φ := True ∧ True) (by kernel_rfl) ⟨trivial, trivial⟩ (VI.fin rfl)⟩,
    ⟨_, _, _, rfl, rfl, rfl, by
      refine VO.call false [] [] T_ok (d := some 30) (by kernel_rfl) (ok34 N  hy54) rfl ?_
      exact VO.ghl [.ren [1, 3, 26, 29, 30] [0, 1, 2]] (VI.fin (by kernel_rfl))⟩,
    ⟨_, _, _, rfl, rfl, rfl, VO.seg T_ok .dp 1 [1, 3, 26, 29, 31] [0, 1] (φ := True ∧ True) (by kernel_rfl) ⟨trivial, trivial⟩ (VI.fin rfl)⟩,
    ⟨_, _, _, rfl, rfl, rfl, by
      refine VO.call false [.t (.int .i64)] [] T_ok (d := some 29) (by kernel_rfl) (ok33 N _ hy53) rfl ?_
      exact VO.ghl [.ren [1, 3, 26, 29, 31] [0, 1]] (VI.fin (by kernel_rfl))⟩,
    ⟨_, _, _, rfl, rfl, rfl, VO.seg T_ok .dp 1 [1, 3, 26, 28, 32] [0, 1] (φ := True ∧ True) (by kernel_rfl) ⟨trivial, trivial⟩ (VI.fin rfl)⟩,
    ⟨_, _, _, rfl, rfl, rfl, VO.seg T_ok .dp 1 [1, 3, 26, 28, 32] [0, 1] (φ := True ∧ True) (by kernel_rfl) ⟨trivial, trivial⟩ (VI.fin rfl)⟩,
    ⟨_, _, _, rfl, rfl, rfl, VO.seg T_ok .dp 1 [1, 3, 26, 29, 30] [0, 1, 2] (φ := True ∧ True) (by kernel_rfl) ⟨trivial, trivial⟩ (VI.fin rfl)⟩,
    ⟨_, _, _, rfl, rfl, rfl, VO.seg T_ok .dp 1 [1, 3, 29, 30, 31] [0, 1, 2] (φ := True ∧ True) (by kernel_rfl) ⟨trivial, trivial⟩ (VI.fin rfl)⟩,
    ⟨_, _, _, rfl, rfl, rfl, VO.seg T_ok .dp 1 [1, 3, 26, 29, 31] [0, 1] (φ := True ∧ True) (by kernel_rfl) ⟨trivial, trivial⟩ (VI.fin rfl)⟩,
    ⟨_, _, _, rfl, rfl, rfl, by
      refine VO.call false [] [] T_ok (d := some 30) (by kernel_rfl) (ok34 N  hy54) rfl ?_
      exact VO.ghl [.ren [1, 3, 29, 30, 31] [0, 1, 2]] (VI.fin (by kernel_rfl))⟩,
    ⟨_, _, _, rfl, rfl, rfl, VO.seg T_ok .dp 1 [1, 3, 29, 32] [0, 1] (φ := True ∧ True) (by kernel_rfl) ⟨trivial, trivial⟩ (VI.fin rfl)⟩,
    ⟨_, _, _, rfl, rfl, rfl, VO.seg T_ok .dp 1 [1, 3, 26, 28, 32] [0, 1] (φ := True ∧ True) (by kernel_rfl) ⟨trivial, trivial⟩ (VI.fin rfl)⟩,
    ⟨_, _, _, rfl, rfl, rfl, by
      refine VO.call false [.t (.int .i64)] [] T_ok (d := some 29) (by kernel_rfl) (ok33 N _ hy53) rfl ?_
      exact VO.ghl [.ren [1, 3, 29, 32] [0, 1]] (VI.fin (by kernel_rfl))⟩,
    ⟨_, _, _, rfl, rfl, rfl, VO.seg T_ok .dp 1 [1, 3, 26, 29, 30, 31] [0, 1, 2] (φ := True ∧ True) (by kernel_rfl) ⟨trivial, trivial⟩ (VI.fin rfl)⟩,
    ⟨_, _, _, rfl, rfl, rfl, by
      refine VO.call false [] [] T_ok (d := some 30) (by kernel_rfl) (ok34 N  hy54) rfl ?_
      exact VO.ghl [.ren [1, 3, 26, 29, 30, 31] [0, 1, 2]] (VI.fin (by kernel_rfl))⟩,
    ⟨_, _, _, rfl, rfl, rfl, VO.seg T_ok .dp 1 [1, 3, 26, 29, 32] [0, 1] (φ := True ∧ True) (by kernel_rfl) ⟨trivial, trivial⟩ (VI.fin rfl)⟩,
    ⟨_, _, _, rfl, rfl, rfl, by
      refine VO.call false [.t (.int .i64)] [] T_ok (d := some 29) (by kernel_rfl) (ok33 N _ hy53) rfl ?_
      exact VO.ghl [.ren [1, 3, 26, 29, 32] [0, 1]] (VI.fin (by kernel_rfl))⟩,
    ⟨_, _, _, rfl, rfl, rfl, VO.seg T_ok .dp 1 [1, 3, 26, 29, 30, 31] [0, 1, 2] (φ := True ∧ True) (by kernel_rfl) ⟨trivial, trivial⟩ (VI.fin rfl)⟩,
    ⟨_, _, _, rfl, rfl, rfl, VO.seg T_ok .dp 1 [1, 3, 29, 30, 32] [0, 1, 2] (φ := True ∧ True) (by kernel_rfl) ⟨trivial, trivial⟩ (VI.fin rfl)⟩,
    ⟨_, _, _, rfl, rfl, rfl, VO.seg T_ok .dp 1 [1, 3, 26, 29, 32] [0, 1] (φ := True ∧ True) (by kernel_rfl) ⟨trivial, trivial⟩ (VI.fin rfl)⟩,
    ⟨_, _, _, rfl, rfl, rfl, by
      refine VO.call false [] [] T_ok (d := some 30) (by kernel_rfl) (ok34 N  hy54) rfl ?_
      exact VO.ghl [.ren [1, 3, 29, 30, 32] [0, 1, 2]] (VI.fin (by kernel_rfl))⟩,
    ⟨_, _, _, rfl, rfl, rfl, VO.seg T_ok .dp 1 [1, 3, 26, 29, 30, 32] [0, 1, 2] (φ := True ∧ True) (by kernel_rfl) ⟨trivial, trivial⟩ (VI.fin rfl)⟩,
    ⟨_, _, _, rfl, rfl, rfl, by
      refine VO.call false [] [] T_ok (d := some 30) (by kernel_rfl) (ok34 N  hy54) rfl ?_
      exact VO.ghl [.ren [1, 3, 26, 29, 30, 32] [0, 1, 2]] (VI.fin (by kernel_rfl))⟩,
    ⟨_, _, _, rfl, rfl, rfl, VO.seg T_ok .dp 1 [1, 3, 26, 29, 30, 32] [0, 1, 2] (φ := True ∧ True) (by kernel_rfl) ⟨trivial, trivial⟩ (VI.fin rfl)⟩,
    ⟨_, _, _, rfl, rfl, rfl, VO.seg T_ok .dp 1 [1, 3, 29, 33] [0, 1, 2] (φ := (InR a0.2.2.2.1 y54.length) ∧ True) (by kernel_rfl) ⟨g55, trivial⟩ (VI.fin rfl)⟩,
    ⟨_, _, _, rfl, rfl, rfl, VO.seg T_ok .dp 1 [1, 3, 26, 29, 33] [0, 1, 2] (φ := (InR a0.2.2.2.1 y54.length) ∧ True) (by kernel_rfl) ⟨g55, trivial⟩ (VI.fin rfl)⟩,
    ⟨_, _, _, rfl, rfl, rfl, VO.seg T_ok .dp 1 [1, 3, 26, 29, 33] [0, 1, 2] (φ := True ∧ True) (by kernel_rfl) ⟨trivial, trivial⟩ (VI.fin rfl)⟩,
    ⟨_, _, _, rfl, rfl, rfl, VO.seg T_ok .dp 1 [1, 3, 29, 34] [0, 1] (φ := (a0.2.2.2.1.toNat < y54.length) ∧ True) (by kernel_rfl) ⟨g56, trivial⟩ (VI.fin rfl)⟩,
    ⟨_, _, _, rfl, rfl, rfl, VO.seg T_ok .dp 1 [1, 3, 26, 29, 34] [0, 1] (φ := (a0.2.2.2.1.toNat < y54.length) ∧ True) (by kernel_rfl) ⟨g56, trivial⟩ (VI.fin rfl)⟩,
    ⟨_, _, _, rfl, rfl, rfl, VO.seg T_ok .dp 1 [1, 3, 26, 29, 34] [0, 1] (φ := True ∧ True) (by kernel_rfl) ⟨trivial, trivial⟩ (VI.fin rfl)⟩,
    ⟨_, _, _, rfl, rfl, rfl, VO.seg T_ok .dp 1 [1, 3, 35] [0, 1, 2] (φ := True ∧ True) (by kernel_rfl) ⟨trivial, trivial⟩ (VI.fin rfl)⟩,
    ⟨_, _, _, rfl, rfl, rfl, VO.seg T_ok .dp 1 [1, 3, 26, 35] [0, 1, 2] (φ := True ∧ True) (by kernel_rfl) ⟨trivial, trivial⟩ (VI.fin rfl)⟩,
    ⟨_, _, _, rfl, rfl, rfl, VO.seg T_ok .dp 1 [1, 3, 26, 35] [0, 1, 2] (φ := True ∧ True) (by kernel_rfl) ⟨trivial, trivial⟩ (VI.fin rfl)⟩,
    ⟨_, _, _, rfl, rfl, rfl, VO.seg T_ok .dp 1 [1, 3, 36] [0, 1] (φ := (([(y3.getD a0.1.toNat (Ty.dflt .str))]).length + ([y53, (y54.getD a0.2.2.2.1.toNat (Ty.dflt .str))]).length ≤ lim .str) ∧ True) (by kernel_rfl) ⟨g57, trivial⟩ (VI.fin rfl)⟩,
    ⟨_, _, _, rfl, rfl, rfl, VO.seg T_ok .dp 1 [1, 3] [0, 1] (φ := True ∧ True) (by kernel_rfl) ⟨trivial, trivial⟩ (VI.fin rfl)⟩, trivial⟩ ?_
      refine sR T_ok [1, 3, 39] [0, 1] ⟨[(1, .lf (.ptr 0 0 0 0)), (3, .lf (.hd 1 0 none)), (39, B (a0.2.2.2.1 != (3 : Int)))], [bx [.v (.int .i64) a0.1, .v .str a0.2.1, .v (.int .i64) a0.2.2.1, .v (.int .i64) a0.2.2.2.1, .v (.int .i64) a0.2.2.2.2.1, .v .bool a0.2.2.2.2.2.1, .v (.sl (.int .i64)) a0.2.2.2.2.2.2] 27, ar 0 .str (([(y3.getD a0.1.toNat (Ty.dflt .str))]) ++ ([y53, (y54.getD a0.2.2.2.1.toNat (Ty.dflt .str))])) .dp]⟩ (tn 3) ?_
      refine cnd h (fun h => ?_) (fun h => ?_)
      · refine VW.region ?_
        refine sG T_ok 2 [40, 41] [1] ⟨[(40, .lf (.hd 0 0 none)), (41, .agg [.v (.int .i64) a0.1, .v .str a0.2.1, .v (.int .i64) a0.2.2.1, .v (.int .i64) a0.2.2.2.1, .v (.int .i64) a0.2.2.2.2.1, .v .bool a0.2.2.2.2.2.1, .v (.sl (.int .i64)) a0.2.2.2.2.2.2])], [ar 0 .str (([(y3.getD a0.1.toNat (Ty.dflt .str))]) ++ ([y53, (y54.getD a0.2.2.2.1.toNat (Ty.dflt .str))])) .dp]⟩ (tn 2) ?_
        obtain ⟨y58, hy, h⟩ := andO_some h
        refine cal false [.t Y23] [] (some 42) T_ok (ok35 N _ hy) ?_
        obtain ⟨g59, h⟩ := gd_some h
        refine sN T_ok [3] [0] ⟨[(3, .lf (.hd 0 0 none))], [ar 0 .str ((([(y3.getD a0.1.toNat (Ty.dflt .str))]) ++ ([y53, (y54.getD a0.2.2.2.1.toNat (Ty.dflt .str))])) ++ ([y58])) .dp]⟩ (pu 1 (an g59 (tn 1))) ?_
        exact arv [.ren [3] [0]] ⟨((([(y3.getD a0.1.toNat (Ty.dflt .str))]) ++ ([y53, (y54.getD a0.2.2.2.1.toNat (Ty.dflt .str))])) ++ ([y58])), rfl, h⟩
      refine VW.skip ?_
      exact arv [.ren [3] [1]] ⟨(([(y3.getD a0.1.toNat (Ty.dflt .str))]) ++ ([y53, (y54.getD a0.2.2.2.1.toNat (Ty.dflt .str))])), rfl, h⟩
    refine sR T_ok [1, 3, 16, 45] [0, 1] ⟨[(1, .lf (.ptr 0 0 0 0)), (3, .lf (.hd 1 0 none)), (16, I a0.1), (45, B (a0.1 == (2 : Int)))], [bx [.v (.int .i64) a0.1, .v .str a0.2.1, .v (.int .i64) a0.2.2.1, .v (.int .i64) a0.2.2.2.1, .v (.int .i64) a0.2.2.2.2.1, .v .bool a0.2.2.2.2.2.1, .v (.sl (.int .i64)) a0.2.2.2.2.2.2] 27, ar 0 .str ([(y3.getD a0.1.toNat (Ty.dflt .str))]) .dp]⟩ (tn 2) ?_
    refine cnd h (fun h => ?_) (fun h => ?_)
    · refine VW.seq ?_
      refine VW.region ?_
      refine sG T_ok 4 [1, 47, 50] [0, 1] ⟨[(1, .lf (.ptr 0 0 0 0)), (47, .lf (.hd 1 0 none)), (50, I (a0.2.2.2.2.2.2.length : Int))], [bx [.v (.int .i64) a0.1, .v .str a0.2.1, .v (.int .i64) a0.2.2.1, .v (.int .i64) a0.2.2.2.1, .v (.int .i64) a0.2.2.2.2.1, .v .bool a0.2.2.2.2.2.1, .v (.sl (.int .i64)) a0.2.2.2.2.2.2] 27, ar 0 .str ([(y3.getD a0.1.toNat (Ty.dflt .str))]) .dp]⟩ (tn 4) ?_
      obtain ⟨y60, hy, h⟩ := andO_some h
      refine cal false [.t (.int .i64)] [] (some 51) T_ok (ok33 N _ hy) ?_
      obtain ⟨g61, h⟩ := gd_some h
      refine sN T_ok [1, 3] [0, 1] ⟨[(1, .lf (.ptr 0 0 0 0)), (3, .lf (.hd 1 0 none))], [bx [.v (.int .i64) a0.1, .v .str a0.2.1, .v (.int .i64) a0.2.2.1, .v (.int .i64) a0.2.2.2.1, .v (.int .i64) a0.2.2.2.2.1, .v .bool a0.2.2.2.2.2.1, .v (.sl (.int .i64)) a0.2.2.2.2.2.2] 27, ar 0 .str (([(y3.getD a0.1.toNat (Ty.dflt .str))]) ++ ([y60])) .dp]⟩ (pu 1 (an g61 (tn 1))) ?_
      refine sR T_ok [3, 55, 56, 57] [1] ⟨[(3, .lf (.hd 0 0 none)), (55, .lf (.v (.sl (.int .i64)) a0.2.2.2.2.2.2)), (56, I (a0.2.2.2.2.2.2.length : Int)), (57, I (0 : Int))], [ar 0 .str (([(y3.getD a0.1.toNat (Ty.dflt .str))]) ++ ([y60])) .dp]⟩ (tn 4) ?_
      refine VW.block ?_
      refine lop (fun k s => ∃ (x71 : (List ByteArray)) (x72 : (List Int)) (x73 : Int) (x74 : Int), s = ⟨[(3, .lf (.hd 0 0 none)), (55, .lf (.v (.sl (.int .i64)) x72)), (56, I x73), (57, I x74)], [ar 0 .str x71 .dp]⟩ ∧ F10_l0 N k x71 x72 x73 x74 = some r) N [.ren [3, 55, 56, 57] [0]] ⟨(([(y3.getD a0.1.toNat (Ty.dflt .str))]) ++ ([y60])), a0.2.2.2.2.2.2, (a0.2.2.2.2.2.2.length : Int), (0 : Int), rfl, h⟩ ?_
      rintro k81 s ⟨x71, x72, x73, x74, rfl, h⟩
      cases k81 with
      | zero => cases show none = some r from h
      | succ k81 =>
        replace h : F10_l0_b N (F10_l0 N k81) x71 x72 x73 x74 = some r := h
        unfold F10_l0_b at h
        refine sR T_ok [3, 55, 56, 57, 58] [0] ⟨[(3, .lf (.hd 0 0 none)), (55, .lf (.v (.sl (.int .i64)) x72)), (56, I x73), (57, I x74), (58, B (decide (x74 < x73)))], [ar 0 .str x71 .dp]⟩ (tn 1) ?_
        refine VW.seq ?_
        refine cnd h (fun h => ?_) (fun h => ?_)
        · refine VW.skip ?_
          refine VW.seq ?_
          refine VW.block ?_
          obtain ⟨g85, h⟩ := gd_some h
          refine sR T_ok [3, 5, 55, 56, 57] [0] ⟨[(3, .lf (.hd 0 0 none)), (5, I (x72.getD x74.toNat (Ty.dflt (.int .i64)))), (55, .lf (.v (.sl (.int .i64)) x72)), (56, I x73), (57, I x74)], [ar 0 .str x71 .dp]⟩ (an g85 (tn 2)) ?_
          refine VW.region ?_
          refine sG T_ok 2 [55, 56, 57, 61, 62] [0] ⟨[(55, .lf (.v (.sl (.int .i64)) x72)), (56, I x73), (57, I x74), (61, .lf (.hd 0 0 none)), (62, I (x72.getD x74.toNat (Ty.dflt (.int .i64))))], [ar 0 .str x71 .dp]⟩ (tn 2) ?_
          obtain ⟨y86, hy, h⟩ := andO_some h
          refine cal false [.t (.int .i64)] [] (some 63) T_ok (ok33 N _ hy) ?_
          obtain ⟨g87, h⟩ := gd_some h
          refine sN T_ok [3, 55, 56, 57] [0] ⟨[(3, .lf (.hd 0 0 none)), (55, .lf (.v (.sl (.int .i64)) x72)), (56, I x73), (57, I x74)], [ar 0 .str (x71 ++ ([y86])) .dp]⟩ (pu 1 (an g87 (tn 1))) ?_
          refine rR T_ok [3, 55, 56, 57] [0] ⟨[(3, .lf (.hd 0 0 none)), (55, .lf (.v (.sl (.int .i64)) x72)), (56, I x73), (57, I (IntKind.i64.wrap (x74 + (1 : Int))))], [ar 0 .str (x71 ++ ([y86])) .dp]⟩ (tn 2) ?_
          exact aro [.ren [3, 55, 56, 57] [0]] ⟨(x71 ++ ([y86])), x72, x73, (IntKind.i64.wrap (x74 + (1 : Int))), rfl, h⟩
        refine VW.exit ?_
        exact arv [.ren [3] [0]] ⟨x71, rfl, h⟩
    refine sR T_ok [1, 3, 16, 67] [0, 1] ⟨[(1, .lf (.ptr 0 0 0 0)), (3, .lf (.hd 1 0 none)), (16, I a0.1), (67, B (a0.1 == (3 : Int)))], [bx [.v (.int .i64) a0.1, .v .str a0.2.1, .v (.int .i64) a0.2.2.1, .v (.int .i64) a0.2.2.2.1, .v (.int .i64) a0.2.2.2.2.1, .v .bool a0.2.2.2.2.2.1, .v (.sl (.int .i64)) a0.2.2.2.2.2.2] 27, ar 0 .str ([(y3.getD a0.1.toNat (Ty.dflt .str))]) .dp]⟩ (tn 2) ?_
    refine cnd h (fun h => ?_) (fun h => ?_)
    · obtain ⟨y88, hy88, h⟩ := andO_some h
      obtain ⟨y89, hy89, h⟩ := andO_some h
      obtain ⟨g90, h⟩ := gd_some h
      refine VW.drawn (by kernel_rfl) [some (69, .lf (.hd 1 0 none)), some (70, .lf (.ptr 0 0 0 2)), some (71, I a0.2.2.1), some (72, S y88), some (73, .lf (.ptr 0 0 0 4)), some (74, I a0.2.2.2.2.1), some (75, S y89), some (76, .lf (.hd 2 0 none)), some (77, .lf (.hd 1 1 none)), some (3, .lf (.hd 1 1 none))] [7, 8] [[bx [.v (.int .i64) a0.1, .v .str a0.2.1, .v (.int .i64) a0.2.2.1, .v (.int .i64) a0.2.2.2.1, .v (.int .i64) a0.2.2.2.2.1, .v .bool a0.2.2.2.2.2.1, .v (.sl (.int .i64)) a0.2.2.2.2.2.2] 27, ar 0 .str ([(y3.getD a0.1.toNat (Ty.dflt .str))]) .dp], [bx [.v (.int .i64) a0.1, .v .str a0.2.1, .v (.int .i64) a0.2.2.1, .v (.int .i64) a0.2.2.2.1, .v (.int .i64) a0.2.2.2.2.1, .v .bool a0.2.2.2.2.2.1, .v (.sl (.int .i64)) a0.2.2.2.2.2.2] 27, ar 0 .str ([(y3.getD a0.1.toNat (Ty.dflt .str))]) .dp, ar 0 .str ([y88, y89]) .dp], [bx [.v (.int .i64) a0.1, .v .str a0.2.1, .v (.int .i64) a0.2.2.1, .v (.int .i64) a0.2.2.2.1, .v (.int .i64) a0.2.2.2.2.1, .v .bool a0.2.2.2.2.2.1, .v (.sl (.int .i64)) a0.2.2.2.2.2.2] 27, ar 1 .str (([(y3.getD a0.1.toNat (Ty.dflt .str))]) ++ ([y88, y89])) .dp, ar 0 .str ([y88, y89]) .dp]] [(0, 0), (0, 1), (1, 0), (1, 1), (1, 2), (2, 0), (2, 1), (2, 2), (3, 0), (4, 0), (4, 1), (4, 2), (5, 0), (5, 1), (5, 2), (6, 0), (7, 0), (8, 1), (9, 2)] [3] [1] (s' := ⟨[(3, .lf (.hd 0 0 none))], [ar 0 .str (([(y3.getD a0.1.toNat (Ty.dflt .str))]) ++ ([y88, y89])) .dp]⟩) (by kernel_rfl) (by kernel_rfl) ⟨⟨_, rfl, Stp.ev T_ok (m := .dp) (φ := True) (by kernel_rfl) trivial⟩,
    ⟨_, rfl, Stp.ev T_ok (m := .dp) (φ := True) (by kernel_rfl) trivial⟩,
    ⟨_, rfl, Stp.ev T_ok (m := .dp) (φ := True) (by kernel_rfl) trivial⟩,
    ⟨_, rfl, Stp.ev T_ok (m := .dp) (φ := True) (by kernel_rfl) trivial⟩,
    ⟨_, rfl, Stp.ev T_ok (m := .dp) (φ := True) (by kernel_rfl) trivial⟩,
    ⟨_, rfl, Stp.ev T_ok (m := .dp) (φ := True) (by kernel_rfl) trivial⟩,
    ⟨_, rfl, Stp.ev T_ok (m := .dp) (φ := True) (by kernel_rfl) trivial⟩,
    ⟨_, rfl, Stp.ev T_ok (m := .dp) (φ := True) (by kernel_rfl) trivial⟩,
    ⟨_, rfl, Stp.eq (Stp.call false [.t (.int .i64)] [] T_ok (d := some 72) (by kernel_rfl) (ok33 N _ hy88) rfl) (by kernel_rfl) (by kernel_rfl)⟩,
    ⟨_, rfl, Stp.ev T_ok (m := .dp) (φ := True) (by kernel_rfl) trivial⟩,
    ⟨_, rfl, Stp.ev T_ok (m := .dp) (φ := True) (by kernel_rfl) trivial⟩,
    ⟨_, rfl, Stp.ev T_ok (m := .dp) (φ := True) (by kernel_rfl) trivial⟩,
    ⟨_, rfl, Stp.ev T_ok (m := .dp) (φ := True) (by kernel_rfl) trivial⟩,
    ⟨_, rfl, Stp.ev T_ok (m := .dp) (φ := True) (by kernel_rfl) trivial⟩,
    ⟨_, rfl, Stp.ev T_ok (m := .dp) (φ := True) (by kernel_rfl) trivial⟩,
    ⟨_, rfl, Stp.eq (Stp.call false [.t (.int .i64)] [] T_ok (d := some 75) (by kernel_rfl) (ok33 N _ hy89) rfl) (by kernel_rfl) (by kernel_rfl)⟩,
    ⟨_, rfl, Stp.ev T_ok (m := .dp) (φ := True) (by kernel_rfl) trivial⟩,
    ⟨_, rfl, Stp.ev T_ok (m := .dp) (φ := ([(y3.getD a0.1.toNat (Ty.dflt .str))]).length + ([y88, y89]).length ≤ lim .str) (by kernel_rfl) g90⟩,
    ⟨_, rfl, Stp.ev T_ok (m := .dp) (φ := True) (by kernel_rfl) trivial⟩, trivial⟩ (by kernel_rfl) ?_
      exact arv [.ren [3] [0]] ⟨(([(y3.getD a0.1.toNat (Ty.dflt .str))]) ++ ([y88, y89])), rfl, h⟩
    refine sR T_ok [1, 3, 16, 78] [0, 1] ⟨[(1, .lf (.ptr 0 0 0 0)), (3, .lf (.hd 1 0 none)), (16, I a0.1), (78, B (a0.1 == (5 : Int)))], [bx [.v (.int .i64) a0.1, .v .str a0.2.1, .v (.int .i64) a0.2.2.1, .v (.int .i64) a0.2.2.2.1, .v (.int .i64) a0.2.2.2.2.1, .v .bool a0.2.2.2.2.2.1, .v (.sl (.int .i64)) a0.2.2.2.2.2.2] 27, ar 0 .str ([(y3.getD a0.1.toNat (Ty.dflt .str))]) .dp]⟩ (tn 2) ?_
    refine cnd h (fun h => ?_) (fun h => ?_)
    · refine VW.region ?_
      refine sG T_ok 3 [80, 82] [1] ⟨[(80, .lf (.hd 0 0 none)), (82, I a0.2.2.1)], [ar 0 .str ([(y3.getD a0.1.toNat (Ty.dflt .str))]) .dp]⟩ (tn 3) ?_
      obtain ⟨y91, hy, h⟩ := andO_some h
      refine cal false [.t (.int .i64)] [] (some 83) T_ok (ok33 N _ hy) ?_
      obtain ⟨g92, h⟩ := gd_some h
      refine sN T_ok [3] [0] ⟨[(3, .lf (.hd 0 0 none))], [ar 0 .str (([(y3.getD a0.1.toNat (Ty.dflt .str))]) ++ ([y91])) .dp]⟩ (pu 1 (an g92 (tn 1))) ?_
      exact arv [.ren [3] [0]] ⟨(([(y3.getD a0.1.toNat (Ty.dflt .str))]) ++ ([y91])), rfl, h⟩
    refine sR T_ok [1, 3, 86] [0, 1] ⟨[(1, .lf (.ptr 0 0 0 0)), (3, .lf (.hd 1 0 none)), (86, B (a0.1 == (6 : Int)))], [bx [.v (.int .i64) a0.1, .v .str a0.2.1, .v (.int .i64) a0.2.2.1, .v (.int .i64) a0.2.2.2.1, .v (.int .i64) a0.2.2.2.2.1, .v .bool a0.2.2.2.2.2.1, .v (.sl (.int .i64)) a0.2.2.2.2.2.2] 27, ar 0 .str ([(y3.getD a0.1.toNat (Ty.dflt .str))]) .dp]⟩ (tn 2) ?_
    refine cnd h (fun h => ?_) (fun h => ?_)
    · refine VW.region ?_
      refine sG T_ok 2 [88, 89] [1] ⟨[(88, .lf (.hd 0 0 none)), (89, .agg [.v (.int .i64) a0.1, .v .str a0.2.1, .v (.int .i64) a0.2.2.1, .v (.int .i64) a0.2.2.2.1, .v (.int .i64) a0.2.2.2.2.1, .v .bool a0.2.2.2.2.2.1, .v (.sl (.int .i64)) a0.2.2.2.2.2.2])], [ar 0 .str ([(y3.getD a0.1.toNat (Ty.dflt .str))]) .dp]⟩ (tn 2) ?_
      obtain ⟨y93, hy, h⟩ := andO_some h
      refine cal false [.t Y23] [] (some 90) T_ok (ok35 N _ hy) ?_
      obtain ⟨g94, h⟩ := gd_some h
      refine sN T_ok [3] [0] ⟨[(3, .lf (.hd 0 0 none))], [ar 0 .str (([(y3.getD a0.1.toNat (Ty.dflt .str))]) ++ ([y93])) .dp]⟩ (pu 1 (an g94 (tn 1))) ?_
      exact arv [.ren [3] [0]] ⟨(([(y3.getD a0.1.toNat (Ty.dflt .str))]) ++ ([y93])), rfl, h⟩
    refine VW.skip ?_
    exact arv [.ren [3] [1]] ⟨[(y3.getD a0.1.toNat (Ty.dflt .str))], rfl, h⟩
  rintro s ⟨x49, rfl, h⟩
  unfold F10_j0 at h
  refine VW.seq ?_
  refine VW.region ?_
  refine sG T_ok 1 [93] [0] ⟨[(93, .lf (.hd 0 0 none))], [ar 0 .str x49 .dp]⟩ (tn 1) ?_
  obtain ⟨y50, hy, h⟩ := andO_some h
  refine cal true [.t (.sl .str)] [] (some 94) T_ok (ok36 N _ hy) ?_
  refine sN T_ok [2] [] ⟨[(2, S y50)], []⟩ (tn 1) ?_
  refine VW.ret ?_
  replace h := Option.some.inj h
  subst h
  exact rt []

/- loop.example/g00844/laws.eqIntS -/
def F37_j0 (N : Nat) : Option (Bool) :=
  some true
def F37_l0_b (N : Nat) (a0 : (List Int)) (a1 : (List Int)) (nx25 : Int → Option (Bool)) (x20 : Int) : Option (Bool) :=
  cond (decide (x20 < (a0.length : Int))) (gd (InR x20 a0.length) (gd (InR x20 a1.length) (cond ((a0.getD x20.toNat (Ty.dflt (.int .i64))) != (a1.getD x20.toNat (Ty.dflt (.int .i64)))) (some false) (nx25 (IntKind.i64.wrap (x20 + (1 : Int))))))) (F37_j0 N)
def F37_l0 (N : Nat) (a0 : (List Int)) (a1 : (List Int)) : Nat → Int → Option (Bool) := loopF (F37_l0_b N a0 a1) (fun _ => none)
theorem F37_l0_s (N : Nat) (a0 : (List Int)) (a1 : (List Int)) {k : Nat} (hk : 0 < k) (x20 : Int) : F37_l0 N a0 a1 k x20 = F37_l0_b N a0 a1 (F37_l0 N a0 a1 (k - 1)) x20 := by
  cases k with
  | zero => exact absurd hk (Nat.lt_irrefl 0)
  | succ m => rfl
def F37 (N : Nat) (a0 : (List Int)) (a1 : (List Int)) : Option (Bool) :=
  cond ((a0.length : Int) != (a1.length : Int)) (some false) (F37_l0 N a0 a1 N (0 : Int))
theorem ok37 (N : Nat) (a0 : (List Int)) (a1 : (List Int)) {r : Bool} (h : F37 N a0 a1 = some r) : Con Go.Proofs.Tryd.prog 37 [.lf (.v (.sl (.int .i64)) a0), .lf (.v (.sl (.int .i64)) a1)] [.lf (.v .bool r)] := by
  refine ctr [.lf (.v .bool)] T_ok Go.Proofs.Tryd.func37 rfl fun w0 E0 ht => ?_
  unfold F37 at h
  show VW _ _ _ _ _ (retQ _ _ _ _) _
  refine sR T_ok [0, 1] [] ⟨[(0, .lf (.v (.sl (.int .i64)) a0)), (1, .lf (.v (.sl (.int .i64)) a1))], []⟩ (tn 1) ?_
  refine VW.seq ?_
  refine sR T_ok [0, 1, 10] [] ⟨[(0, .lf (.v (.sl (.int .i64)) a0)), (1, .lf (.v (.sl (.int .i64)) a1)), (10, B ((a0.length : Int) != (a1.length : Int)))], []⟩ (tn 5) ?_
  refine cnd h (fun h => ?_) (fun h => ?_)
  · refine sR T_ok [4] [] ⟨[(4, B false)], []⟩ (tn 1) ?_
    refine VW.ret ?_
    replace h := Option.some.inj h
    subst h
    exact rt []
  refine VW.skip ?_
  refine VW.join (fun s => s = ⟨[], []⟩ ∧ F37_j0 N = some r) ?_ ?_
  · refine sR T_ok [0, 1, 5] [] ⟨[(0, .lf (.v (.sl (.int .i64)) a0)), (1, .lf (.v (.sl (.int .i64)) a1)), (5, I (0 : Int))], []⟩ (tn 1) ?_
    refine VW.block ?_
    refine lop (fun k s => ∃ (x20 : Int), s = ⟨[(0, .lf (.v (.sl (.int .i64)) a0)), (1, .lf (.v (.sl (.int .i64)) a1)), (5, I x20)], []⟩ ∧ F37_l0 N a0 a1 k x20 = some r) N [.ren [0, 1, 5] []] ⟨(0 : Int), rfl, h⟩ ?_
    rintro k25 s ⟨x20, rfl, h⟩
    cases k25 with
    | zero => cases show none = some r from h
    | succ k25 =>
      replace h : F37_l0_b N a0 a1 (F37_l0 N a0 a1 k25) x20 = some r := h
      unfold F37_l0_b at h
      refine VW.seq ?_
      refine sR T_ok [0, 1, 5, 14] [] ⟨[(0, .lf (.v (.sl (.int .i64)) a0)), (1, .lf (.v (.sl (.int .i64)) a1)), (5, I x20), (14, B (decide (x20 < (a0.length : Int))))], []⟩ (tn 4) ?_
      refine cnd h (fun h => ?_) (fun h => ?_)
      · refine VW.skip ?_
        refine VW.seq ?_
        refine VW.block ?_
        refine VW.seq ?_
        obtain ⟨g28, h⟩ := gd_some h
        obtain ⟨g29, h⟩ := gd_some h
        refine VW.drawn (by kernel_rfl) [some (17, .lf (.v (.sl (.int .i64)) a0)), some (18, I x20), some (19, .lf (.fp (.int .i64) (a0.getD x20.toNat (Ty.dflt (.int .i64))) 0)), some (20, I (a0.getD x20.toNat (Ty.dflt (.int .i64)))), some (21, .lf (.v (.sl (.int .i64)) a1)), some (22, I x20), some (23, .lf (.fp (.int .i64) (a1.getD x20.toNat (Ty.dflt (.int .i64))) 0)), some (24, I (a1.getD x20.toNat (Ty.dflt (.int .i64)))), some (25, B ((a0.getD x20.toNat (Ty.dflt (.int .i64))) != (a1.getD x20.toNat (Ty.dflt (.int .i64)))))] [] [[]] [(0, 0), (1, 0), (2, 0), (3, 0), (4, 0), (5, 0), (6, 0), (7, 0), (8, 0)] [0, 1, 5, 25] [] (s' := ⟨[(0, .lf (.v (.sl (.int .i64)) a0)), (1, .lf (.v (.sl (.int .i64)) a1)), (5, I x20), (25, B ((a0.getD x20.toNat (Ty.dflt (.int .i64))) != (a1.getD x20.toNat (Ty.dflt (.int .i64)))))], []⟩) (by kernel_rfl) (by kernel_rfl) ⟨⟨_, rfl, Stp.ev T_ok (m := .dp) (φ := True) (by kernel_rfl) trivial⟩,
    ⟨_, rfl, Stp.ev T_ok (m := .dp) (φ := True) (by kernel_rfl) trivial⟩,
    ⟨_, rfl, Stp.ev T_ok (m := .dp) (φ := InR x20 a0.length) (by kernel_rfl) g28⟩,
    ⟨_, rfl, Stp.ev T_ok (m := .dp) (φ := True) (by kernel_rfl) trivial⟩,
    ⟨_, rfl, Stp.ev T_ok (m := .dp) (φ := True) (by kernel_rfl) trivial⟩,
    ⟨_, rfl, Stp.ev T_ok (m := .dp) (φ := True) (by kernel_rfl) trivial⟩,
    ⟨_, rfl, Stp.ev T_ok (m := .dp) (φ := InR x20 a1.length) (by kernel_rfl) g29⟩,
    ⟨_, rfl, Stp.ev T_ok (m := .dp) (φ := True) (by kernel_rfl) trivial⟩,
    ⟨_, rfl, Stp.ev T_ok (m := .dp) (φ := True) (by kernel_rfl) trivial⟩, trivial⟩ (by kernel_rfl) ?_
        refine cnd h (fun h => ?_) (fun h => ?_)
        · refine sR T_ok [4] [] ⟨[(4, B false)], []⟩ (tn 1) ?_
          refine VW.ret ?_
          replace h := Option.some.inj h
          subst h
          exact rt []
        refine VW.skip ?_
        refine rR T_ok [0, 1, 5] [] ⟨[(0, .lf (.v (.sl (.int .i64)) a0)), (1, .lf (.v (.sl (.int .i64)) a1)), (5, I (IntKind.i64.wrap (x20 + (1 : Int))))], []⟩ (tn 3) ?_
        exact aro [.ren [0, 1, 5] []] ⟨(IntKind.i64.wrap (x20 + (1 : Int))), rfl, h⟩
      refine VW.exit ?_
      exact arv [.ren [] []] ⟨rfl, h⟩
  rintro s ⟨rfl, h⟩
  unfold F37_j0 at h
  refine sR T_ok [4] [] ⟨[(4, B true)], []⟩ (tn 1) ?_
  refine VW.ret ?_
  replace h := Option.some.inj h
  subst h
  exact rt []

/- loop.example/g00844/laws.eqNode -/
def F11 (N : Nat) (a0 : (Int × (ByteArray × (Int × (Int × (Int × (Bool × (List Int)))))))) (a1 : (Int × (ByteArray × (Int × (Int × (Int × (Bool × (List Int)))))))) : Option (Bool) :=
  cond (a0.1 != a1.1) (some false) (cond (!(a0.2.1.toList == a1.2.1.toList)) (some false) (cond (a0.2.2.1 != a1.2.2.1) (some false) (cond (a0.2.2.2.1 != a1.2.2.2.1) (some false) (cond (a0.2.2.2.2.1 != a1.2.2.2.2.1) (some false) (cond (!(a0.2.2.2.2.2.1 == a1.2.2.2.2.2.1)) (some false) (andO (F37 N a0.2.2.2.2.2.2 a1.2.2.2.2.2.2) fun y2 => cond (!y2) (some false) (some true)))))))
theorem ok11 (N : Nat) (a0 : (Int × (ByteArray × (Int × (Int × (Int × (Bool × (List Int)))))))) (a1 : (Int × (ByteArray × (Int × (Int × (Int × (Bool × (List Int)))))))) {r : Bool} (h : F11 N a0 a1 = some r) : Con Go.Proofs.Tryd.prog 11 [.agg [.v (.int .i64) a0.1, .v .str a0.2.1, .v (.int .i64) a0.2.2.1, .v (.int .i64) a0.2.2.2.1, .v (.int .i64) a0.2.2.2.2.1, .v .bool a0.2.2.2.2.2.1, .v (.sl (.int .i64)) a0.2.2.2.2.2.2], .agg [.v (.int .i64) a1.1, .v .str a1.2.1, .v (.int .i64) a1.2.2.1, .v (.int .i64) a1.2.2.2.1, .v (.int .i64) a1.2.2.2.2.1, .v .bool a1.2.2.2.2.2.1, .v (.sl (.int .i64)) a1.2.2.2.2.2.2]] [.lf (.v .bool r)] := by
  refine ctr [.lf (.v .bool)] T_ok Go.Proofs.Tryd.func11 rfl fun w0 E0 ht => ?_
  unfold F11 at h
  show VW _ _ _ _ _ (retQ _ _ _ _) _
  refine sR T_ok [2, 3] [0, 1] ⟨[(2, .lf (.ptr 0 0 0 0)), (3, .lf (.ptr 1 0 0 0))], [bx [.v (.int .i64) a0.1, .v .str a0.2.1, .v (.int .i64) a0.2.2.1, .v (.int .i64) a0.2.2.2.1, .v (.int .i64) a0.2.2.2.2.1, .v .bool a0.2.2.2.2.2.1, .v (.sl (.int .i64)) a0.2.2.2.2.2.2] 27, bx [.v (.int .i64) a1.1, .v .str a1.2.1, .v (.int .i64) a1.2.2.1, .v (.int .i64) a1.2.2.2.1, .v (.int .i64) a1.2.2.2.2.1, .v .bool a1.2.2.2.2.2.1, .v (.sl (.int .i64)) a1.2.2.2.2.2.2] 27]⟩ (tn 3) ?_
  refine VW.seq ?_
  refine sR T_ok [2, 3, 9] [0, 1] ⟨[(2, .lf (.ptr 0 0 0 0)), (3, .lf (.ptr 1 0 0 0)), (9, B (a0.1 != a1.1))], [bx [.v (.int .i64) a0.1, .v .str a0.2.1, .v (.int .i64) a0.2.2.1, .v (.int .i64) a0.2.2.2.1, .v (.int .i64) a0.2.2.2.2.1, .v .bool a0.2.2.2.2.2.1, .v (.sl (.int .i64)) a0.2.2.2.2.2.2] 27, bx [.v (.int .i64) a1.1, .v .str a1.2.1, .v (.int .i64) a1.2.2.1, .v (.int .i64) a1.2.2.2.1, .v (.int .i64) a1.2.2.2.2.1, .v .bool a1.2.2.2.2.2.1, .v (.sl (.int .i64)) a1.2.2.2.2.2.2] 27]⟩ (tn 5) ?_
  refine cnd h (fun h => ?_) (fun h => ?_)
  · refine sR T_ok [4] [] ⟨[(4, B false)], []⟩ (tn 1) ?_
    refine VW.ret ?_
    replace h := Option.some.inj h
    subst h
    exact rt []
  refine VW.skip ?_
  refine VW.seq ?_
  refine sR T_ok [2, 3, 14] [0, 1] ⟨[(2, .lf (.ptr 0 0 0 0)), (3, .lf (.ptr 1 0 0 0)), (14, B (!(a0.2.1.toList == a1.2.1.toList)))], [bx [.v (.int .i64) a0.1, .v .str a0.2.1, .v (.int .i64) a0.2.2.1, .v (.int .i64) a0.2.2.2.1, .v (.int .i64) a0.2.2.2.2.1, .v .bool a0.2.2.2.2.2.1, .v (.sl (.int .i64)) a0.2.2.2.2.2.2] 27, bx [.v (.int .i64) a1.1, .v .str a1.2.1, .v (.int .i64) a1.2.2.1, .v (.int .i64) a1.2.2.2.1, .v (.int .i64) a1.2.2.2.2.1, .v .bool a1.2.2.2.2.2.1, .v (.sl (.int .i64)) a1.2.2.2.2.2.2] 27]⟩ (tn 5) ?_
  refine cnd h (fun h => ?_) (fun h => ?_)
  · refine sR T_ok [4] [] ⟨[(4, B false)], []⟩ (tn 1) ?_
    refine VW.ret ?_
    replace h := Option.some.inj h
    subst h
    exact rt []
  refine VW.skip ?_
  refine VW.seq ?_
  refine sR T_ok [2, 3, 19] [0, 1] ⟨[(2, .lf (.ptr 0 0 0 0)), (3, .lf (.ptr 1 0 0 0)), (19, B (a0.2.2.1 != a1.2.2.1))], [bx [.v (.int .i64) a0.1, .v .str a0.2.1, .v (.int .i64) a0.2.2.1, .v (.int .i64) a0.2.2.2.1, .v (.int .i64) a0.2.2.2.2.1, .v .bool a0.2.2.2.2.2.1, .v (.sl (.int .i64)) a0.2.2.2.2.2.2] 27, bx [.v (.int .i64) a1.1, .v .str a1.2.1, .v (.int .i64) a1.2.2.1, .v (.int .i64) a1.2.2.2.1, .v (.int .i64) a1.2.2.2.2.1, .v .bool a1.2.2.2.2.2.1, .v (.sl (.int .i64)) a1.2.2.2.2.2.2] 27]⟩ (tn 5) ?_
  refine cnd h (fun h => ?_) (fun h => ?_)
  · refine sR T_ok [4] [] ⟨[(4, B false)], []⟩ (tn 1) ?_
    refine VW.ret ?_
    replace h := Option.some.inj h
    subst h
    exact rt []
  refine VW.skip ?_
  refine VW.seq ?_
  refine sR T_ok [2, 3, 24] [0, 1] ⟨[(2, .lf (.ptr 0 0 0 0)), (3, .lf (.ptr 1 0 0 0)), (24, B (a0.2.2.2.1 != a1.2.2.2.1))], [bx [.v (.int .i64) a0.1, .v .str a0.2.1, .v (.int .i64) a0.2.2.1, .v (.int .i64) a0.2.2.2.1, .v (.int .i64) a0.2.2.2.2.1, .v .bool a0.2.2.2.2.2.1, .v (.sl (.int .i64)) a0.2.2.2.2.2.2] 27, bx [.v (.int .i64) a1.1, .v .str a1.2.1, .v (.int .i64) a1.2.2.1, .v (.int .i64) a1.2.2.2.1, .v (.int .i64) a1.2.2.2.2.1, .v .bool a1.2.2.2.2.2.1, .v (.sl (.int .i64)) a1.2.2.2.2.2.2] 27]⟩ (tn 5) ?_
  refine cnd h (fun h => ?_) (fun h => ?_)
  · refine sR T_ok [4] [] ⟨[(4, B false)], []⟩ (tn 1) ?_
    refine VW.ret ?_
    replace h := Option.some.inj h
    subst h
    exact rt []
  refine VW.skip ?_
  refine VW.seq ?_
  refine sR T_ok [2, 3, 29] [0, 1] ⟨[(2, .lf (.ptr 0 0 0 0)), (3, .lf (.ptr 1 0 0 0)), (29, B (a0.2.2.2.2.1 != a1.2.2.2.2.1))], [bx [.v (.int .i64) a0.1, .v .str a0.2.1, .v (.int .i64) a0.2.2.1, .v (.int .i64) a0.2.2.2.1, .v (.int .i64) a0.2.2.2.2.1, .v .bool a0.2.2.2.2.2.1, .v (.sl (.int .i64)) a0.2.2.2.2.2.2] 27, bx [.v (.int .i64) a1.1, .v .str a1.2.1, .v (.int .i64) a1.2.2.1, .v (.int .i64) a1.2.2.2.1, .v (.int .i64) a1.2.2.2.2.1, .v .bool a1.2.2.2.2.2.1, .v (.sl (.int .i64)) a1.2.2.2.2.2.2] 27]⟩ (tn 5) ?_
  refine cnd h (fun h => ?_) (fun h => ?_)
  · refine sR T_ok [4] [] ⟨[(4, B false)], []⟩ (tn 1) ?_
    refine VW.ret ?_
    replace h := Option.some.inj h
    subst h
    exact rt []
  refine VW.skip ?_
  refine VW.seq ?_
  refine sR T_ok [2, 3, 34] [0, 1] ⟨[(2, .lf (.ptr 0 0 0 0)), (3, .lf (.ptr 1 0 0 0)), (34, B (!(a0.2.2.2.2.2.1 == a1.2.2.2.2.2.1)))], [bx [.v (.int .i64) a0.1, .v .str a0.2.1, .v (.int .i64) a0.2.2.1, .v (.int .i64) a0.2.2.2.1, .v (.int .i64) a0.2.2.2.2.1, .v .bool a0.2.2.2.2.2.1, .v (.sl (.int .i64)) a0.2.2.2.2.2.2] 27, bx [.v (.int .i64) a1.1, .v .str a1.2.1, .v (.int .i64) a1.2.2.1, .v (.int .i64) a1.2.2.2.1, .v (.int .i64) a1.2.2.2.2.1, .v .bool a1.2.2.2.2.2.1, .v (.sl (.int .i64)) a1.2.2.2.2.2.2] 27]⟩ (tn 5) ?_
  refine cnd h (fun h => ?_) (fun h => ?_)
  · refine sR T_ok [4] [] ⟨[(4, B false)], []⟩ (tn 1) ?_
    refine VW.ret ?_
    replace h := Option.some.inj h
    subst h
    exact rt []
  refine VW.skip ?_
  refine VW.seq ?_
  refine VW.seq ?_
  refine VW.region ?_
  refine sG T_ok 4 [36, 38] [] ⟨[(36, .lf (.v (.sl (.int .i64)) a0.2.2.2.2.2.2)), (38, .lf (.v (.sl (.int .i64)) a1.2.2.2.2.2.2))], []⟩ (tn 4) ?_
  obtain ⟨y2, hy, h⟩ := andO_some h
  refine cal false [.t (.sl (.int .i64)), .t (.sl (.int .i64))] [] (some 39) T_ok (ok37 N _ _ hy) ?_
  refine sN T_ok [40] [] ⟨[(40, B (!y2))], []⟩ (tn 1) ?_
  refine cnd h (fun h => ?_) (fun h => ?_)
  · refine sR T_ok [4] [] ⟨[(4, B false)], []⟩ (tn 1) ?_
    refine VW.ret ?_
    replace h := Option.some.inj h
    subst h
    exact rt []
  refine VW.skip ?_
  refine sR T_ok [4] [] ⟨[(4, B true)], []⟩ (tn 1) ?_
  refine VW.ret ?_
  replace h := Option.some.inj h
  subst h
  exact rt []

/- loop.example/g00844/laws.FnExactNodeText -/
def F3 (N : Nat) (a0 : (Int × (ByteArray × (Int × (Int × (Int × (Bool × (List Int)))))))) : Option (Bool) :=
  andO (F7 N a0 (1048576 : Int)) fun y1 => cond (decide (y1 < (0 : Int))) (some true) (andO (F9 N a0) fun y2 => andO (F8 N y2) fun y3 => andO (F9 N a0) fun y4 => andO (F10 N y4) fun y5 => cond (!(y5.toList == y3.toList)) (some false) (andO (F9 N a0) fun y8 => andO (F11 N y4 y8) fun y9 => cond (!y9) (some false) (some true)))
theorem ok3 (N : Nat) (a0 : (Int × (ByteArray × (Int × (Int × (Int × (Bool × (List Int)))))))) {r : Bool} (h : F3 N a0 = some r) : Con Go.Proofs.Tryd.prog 3 [.agg [.v (.int .i64) a0.1, .v .str a0.2.1, .v (.int .i64) a0.2.2.1, .v (.int .i64) a0.2.2.2.1, .v (.int .i64) a0.2.2.2.2.1, .v .bool a0.2.2.2.2.2.1, .v (.sl (.int .i64)) a0.2.2.2.2.2.2]] [.lf (.v .bool r)] := by
  refine ctr [.lf (.v .bool)] T_ok Go.Proofs.Tryd.func3 rfl fun w0 E0 ht => ?_
  unfold F3 at h
  show VW _ _ _ _ _ (retQ _ _ _ _) _
  refine sR T_ok [1] [0] ⟨[(1, .lf (.ptr 0 0 0 0))], [bx [.v (.int .i64) a0.1, .v .str a0.2.1, .v (.int .i64) a0.2.2.1, .v (.int .i64) a0.2.2.2.1, .v (.int .i64) a0.2.2.2.2.1, .v .bool a0.2.2.2.2.2.1, .v (.sl (.int .i64)) a0.2.2.2.2.2.2] 24]⟩ (tn 2) ?_
  refine sR T_ok [1, 3] [0] ⟨[(1, .lf (.ptr 0 0 0 0)), (3, I (1048576 : Int))], [bx [.v (.int .i64) a0.1, .v .str a0.2.1, .v (.int .i64) a0.2.2.1, .v (.int .i64) a0.2.2.2.1, .v (.int .i64) a0.2.2.2.2.1, .v .bool a0.2.2.2.2.2.1, .v (.sl (.int .i64)) a0.2.2.2.2.2.2] 24]⟩ (tn 1) ?_
  refine VW.seq ?_
  refine VW.region ?_
  refine sG T_ok 2 [1, 7, 8] [0] ⟨[(1, .lf (.ptr 0 0 0 0)), (7, .agg [.v (.int .i64) a0.1, .v .str a0.2.1, .v (.int .i64) a0.2.2.1, .v (.int .i64) a0.2.2.2.1, .v (.int .i64) a0.2.2.2.2.1, .v .bool a0.2.2.2.2.2.1, .v (.sl (.int .i64)) a0.2.2.2.2.2.2]), (8, I (1048576 : Int))], [bx [.v (.int .i64) a0.1, .v .str a0.2.1, .v (.int .i64) a0.2.2.1, .v (.int .i64) a0.2.2.2.1, .v (.int .i64) a0.2.2.2.2.1, .v .bool a0.2.2.2.2.2.1, .v (.sl (.int .i64)) a0.2.2.2.2.2.2] 24]⟩ (tn 2) ?_
  obtain ⟨y1, hy, h⟩ := andO_some h
  refine cal false [.t Y23, .t (.int .i64)] [] (some 9) T_ok (ok7 N _ _ hy) ?_
  refine sN T_ok [1, 3] [0] ⟨[(1, .lf (.ptr 0 0 0 0)), (3, I y1)], [bx [.v (.int .i64) a0.1, .v .str a0.2.1, .v (.int .i64) a0.2.2.1, .v (.int .i64) a0.2.2.2.1, .v (.int .i64) a0.2.2.2.2.1, .v .bool a0.2.2.2.2.2.1, .v (.sl (.int .i64)) a0.2.2.2.2.2.2] 24]⟩ (tn 1) ?_
  refine VW.seq ?_
  refine sR T_ok [1, 11] [0] ⟨[(1, .lf (.ptr 0 0 0 0)), (11, B (decide (y1 < (0 : Int))))], [bx [.v (.int .i64) a0.1, .v .str a0.2.1, .v (.int .i64) a0.2.2.1, .v (.int .i64) a0.2.2.2.1, .v (.int .i64) a0.2.2.2.2.1, .v .bool a0.2.2.2.2.2.1, .v (.sl (.int .i64)) a0.2.2.2.2.2.2] 24]⟩ (tn 2) ?_
  refine cnd h (fun h => ?_) (fun h => ?_)
  · refine sR T_ok [2] [] ⟨[(2, B true)], []⟩ (tn 1) ?_
    refine VW.ret ?_
    replace h := Option.some.inj h
    subst h
    exact rt []
  refine VW.skip ?_
  refine VW.seq ?_
  refine VW.region ?_
  refine sG T_ok 1 [1, 12] [0] ⟨[(1, .lf (.ptr 0 0 0 0)), (12, .agg [.v (.int .i64) a0.1, .v .str a0.2.1, .v (.int .i64) a0.2.2.1, .v (.int .i64) a0.2.2.2.1, .v (.int .i64) a0.2.2.2.2.1, .v .bool a0.2.2.2.2.2.1, .v (.sl (.int .i64)) a0.2.2.2.2.2.2])], [bx [.v (.int .i64) a0.1, .v .str a0.2.1, .v (.int .i64) a0.2.2.1, .v (.int .i64) a0.2.2.2.1, .v (.int .i64) a0.2.2.2.2.1, .v .bool a0.2.2.2.2.2.1, .v (.sl (.int .i64)) a0.2.2.2.2.2.2] 24]⟩ (tn 1) ?_
  obtain ⟨y2, hy, h⟩ := andO_some h
  refine cal false [.t Y23] [] (some 13) T_ok (ok9 N _ hy) ?_
  obtain ⟨y3, hy, h⟩ := andO_some h
  refine cal true [.t Y23] [] (some 14) T_ok (ok8 N _ hy) ?_
  refine sN T_ok [1, 4] [0] ⟨[(1, .lf (.ptr 0 0 0 0)), (4, S y3)], [bx [.v (.int .i64) a0.1, .v .str a0.2.1, .v (.int .i64) a0.2.2.1, .v (.int .i64) a0.2.2.2.1, .v (.int .i64) a0.2.2.2.2.1, .v .bool a0.2.2.2.2.2.1, .v (.sl (.int .i64)) a0.2.2.2.2.2.2] 24]⟩ (tn 1) ?_
  refine VW.seq ?_
  refine VW.region ?_
  refine sG T_ok 1 [1, 4, 15] [0] ⟨[(1, .lf (.ptr 0 0 0 0)), (4, S y3), (15, .agg [.v (.int .i64) a0.1, .v .str a0.2.1, .v (.int .i64) a0.2.2.1, .v (.int .i64) a0.2.2.2.1, .v (.int .i64) a0.2.2.2.2.1, .v .bool a0.2.2.2.2.2.1, .v (.sl (.int .i64)) a0.2.2.2.2.2.2])], [bx [.v (.int .i64) a0.1, .v .str a0.2.1, .v (.int .i64) a0.2.2.1, .v (.int .i64) a0.2.2.2.1, .v (.int .i64) a0.2.2.2.2.1, .v .bool a0.2.2.2.2.2.1, .v (.sl (.int .i64)) a0.2.2.2.2.2.2] 24]⟩ (tn 1) ?_
  obtain ⟨y4, hy, h⟩ := andO_some h
  refine cal false [.t Y23] [] (some 16) T_ok (ok9 N _ hy) ?_
  refine sN T_ok [1, 4, 5] [0, 2, 1] ⟨[(1, .lf (.ptr 0 0 0 0)), (4, S y3), (5, .lf (.ptr 1 0 0 0))], [bx [.v (.int .i64) a0.1, .v .str a0.2.1, .v (.int .i64) a0.2.2.1, .v (.int .i64) a0.2.2.2.1, .v (.int .i64) a0.2.2.2.2.1, .v .bool a0.2.2.2.2.2.1, .v (.sl (.int .i64)) a0.2.2.2.2.2.2] 24, bx [.v (.int .i64) y4.1, .v .str y4.2.1, .v (.int .i64) y4.2.2.1, .v (.int .i64) y4.2.2.2.1, .v (.int .i64) y4.2.2.2.2.1, .v .bool y4.2.2.2.2.2.1, .hd 2 0 none] 27, ar 0 (.int .i64) y4.2.2.2.2.2.2 .dp]⟩ (tn 2) ?_
  refine VW.seq ?_
  refine VW.region ?_
  refine sG T_ok 1 [1, 4, 5, 17] [0, 1, 2] ⟨[(1, .lf (.ptr 0 0 0 0)), (4, S y3), (5, .lf (.ptr 1 0 0 0)), (17, .agg [.v (.int .i64) y4.1, .v .str y4.2.1, .v (.int .i64) y4.2.2.1, .v (.int .i64) y4.2.2.2.1, .v (.int .i64) y4.2.2.2.2.1, .v .bool y4.2.2.2.2.2.1, .hd 2 0 none])], [bx [.v (.int .i64) a0.1, .v .str a0.2.1, .v (.int .i64) a0.2.2.1, .v (.int .i64) a0.2.2.2.1, .v (.int .i64) a0.2.2.2.2.1, .v .bool a0.2.2.2.2.2.1, .v (.sl (.int .i64)) a0.2.2.2.2.2.2] 24, bx [.v (.int .i64) y4.1, .v .str y4.2.1, .v (.int .i64) y4.2.2.1, .v (.int .i64) y4.2.2.2.1, .v (.int .i64) y4.2.2.2.2.1, .v .bool y4.2.2.2.2.2.1, .hd 2 0 none] 27, ar 0 (.int .i64) y4.2.2.2.2.2.2 .dp]⟩ (tn 1) ?_
  obtain ⟨y5, hy, h⟩ := andO_some h
  refine cal true [.t Y23] [] (some 18) T_ok (ok10 N _ hy) ?_
  refine sN T_ok [1, 4, 5, 6] [0, 1, 2] ⟨[(1, .lf (.ptr 0 0 0 0)), (4, S y3), (5, .lf (.ptr 1 0 0 0)), (6, S y5)], [bx [.v (.int .i64) a0.1, .v .str a0.2.1, .v (.int .i64) a0.2.2.1, .v (.int .i64) a0.2.2.2.1, .v (.int .i64) a0.2.2.2.2.1, .v .bool a0.2.2.2.2.2.1, .v (.sl (.int .i64)) a0.2.2.2.2.2.2] 24, bx [.v (.int .i64) y4.1, .v .str y4.2.1, .v (.int .i64) y4.2.2.1, .v (.int .i64) y4.2.2.2.1, .v (.int .i64) y4.2.2.2.2.1, .v .bool y4.2.2.2.2.2.1, .hd 2 0 none] 27, ar 0 (.int .i64) y4.2.2.2.2.2.2 .dp]⟩ (tn 1) ?_
  refine VW.seq ?_
  refine sR T_ok [1, 5, 21] [0, 1, 2] ⟨[(1, .lf (.ptr 0 0 0 0)), (5, .lf (.ptr 1 0 0 0)), (21, B (!(y5.toList == y3.toList)))], [bx [.v (.int .i64) a0.1, .v .str a0.2.1, .v (.int .i64) a0.2.2.1, .v (.int .i64) a0.2.2.2.1, .v (.int .i64) a0.2.2.2.2.1, .v .bool a0.2.2.2.2.2.1, .v (.sl (.int .i64)) a0.2.2.2.2.2.2] 24, bx [.v (.int .i64) y4.1, .v .str y4.2.1, .v (.int .i64) y4.2.2.1, .v (.int .i64) y4.2.2.2.1, .v (.int .i64) y4.2.2.2.2.1, .v .bool y4.2.2.2.2.2.1, .hd 2 0 none] 27, ar 0 (.int .i64) y4.2.2.2.2.2.2 .dp]⟩ (tn 3) ?_
  refine cnd h (fun h => ?_) (fun h => ?_)
  · refine sR T_ok [2] [] ⟨[(2, B false)], []⟩ (tn 1) ?_
    refine VW.ret ?_
    replace h := Option.some.inj h
    subst h
    exact rt []
  refine VW.skip ?_
  refine VW.seq ?_
  refine VW.seq ?_
  obtain ⟨y8, hy8, h⟩ := andO_some h
  obtain ⟨y9, hy9, h⟩ := andO_some h
  refine VW.drawn (by kernel_rfl) [some (22, .agg [.v (.int .i64) y4.1, .v .str y4.2.1, .v (.int .i64) y4.2.2.1, .v (.int .i64) y4.2.2.2.1, .v (.int .i64) y4.2.2.2.2.1, .v .bool y4.2.2.2.2.2.1, .hd 2 0 none]), some (23, .agg [.v (.int .i64) a0.1, .v .str a0.2.1, .v (.int .i64) a0.2.2.1, .v (.int .i64) a0.2.2.2.1, .v (.int .i64) a0.2.2.2.2.1, .v .bool a0.2.2.2.2.2.1, .v (.sl (.int .i64)) a0.2.2.2.2.2.2]), some (24, .agg [.v (.int .i64) y8.1, .v .str y8.2.1, .v (.int .i64) y8.2.2.1, .v (.int .i64) y8.2.2.2.1, .v (.int .i64) y8.2.2.2.2.1, .v .bool y8.2.2.2.2.2.1, .hd 3 0 none]), some (25, B y9), some (26, B (!y9))] [2] [[bx [.v (.int .i64) a0.1, .v .str a0.2.1, .v (.int .i64) a0.2.2.1, .v (.int .i64) a0.2.2.2.1, .v (.int .i64) a0.2.2.2.2.1, .v .bool a0.2.2.2.2.2.1, .v (.sl (.int .i64)) a0.2.2.2.2.2.2] 24, bx [.v (.int .i64) y4.1, .v .str y4.2.1, .v (.int .i64) y4.2.2.1, .v (.int .i64) y4.2.2.2.1, .v (.int .i64) y4.2.2.2.2.1, .v .bool y4.2.2.2.2.2.1, .hd 2 0 none] 27, ar 0 (.int .i64) y4.2.2.2.2.2.2 .dp], [bx [.v (.int .i64) a0.1, .v .str a0.2.1, .v (.int .i64) a0.2.2.1, .v (.int .i64) a0.2.2.2.1, .v (.int .i64) a0.2.2.2.2.1, .v .bool a0.2.2.2.2.2.1, .v (.sl (.int .i64)) a0.2.2.2.2.2.2] 24, bx [.v (.int .i64) y4.1, .v .str y4.2.1, .v (.int .i64) y4.2.2.1, .v (.int .i64) y4.2.2.2.1, .v (.int .i64) y4.2.2.2.2.1, .v .bool y4.2.2.2.2.2.1, .hd 2 0 none] 27, ar 0 (.int .i64) y4.2.2.2.2.2.2 .dp, ar 0 (.int .i64) y8.2.2.2.2.2.2 .dp]] [(0, 0), (0, 1), (1, 0), (2, 0), (3, 1), (4, 0), (4, 1)] [26] [] (s' := ⟨[(26, B (!y9))], []⟩) (by kernel_rfl) (by kernel_rfl) ⟨⟨_, rfl, Stp.ev T_ok (m := .dp) (φ := True) (by kernel_rfl) trivial⟩,
    ⟨_, rfl, Stp.ev T_ok (m := .dp) (φ := True) (by kernel_rfl) trivial⟩,
    ⟨_, rfl, Stp.ev T_ok (m := .dp) (φ := True) (by kernel_rfl) trivial⟩,
    ⟨_, rfl, Stp.eq (Stp.call false [.t Y23] [] T_ok (d := some 24) (by kernel_rfl) (ok9 N _ hy8) rfl) (by kernel_rfl) (by kernel_rfl)⟩,
    ⟨_, rfl, Stp.eq (Stp.call true [.t Y23, .t Y23] [] T_ok (d := some 25) (by kernel_rfl) (ok11 N _ _ hy9) rfl) (by kernel_rfl) (by kernel_rfl)⟩,
    ⟨_, rfl, Stp.ev T_ok (m := .dp) (φ := True) (by kernel_rfl) trivial⟩,
    ⟨_, rfl, Stp.ev T_ok (m := .dp) (φ := True) (by kernel_rfl) trivial⟩, trivial⟩ (by kernel_rfl) ?_
  refine cnd h (fun h => ?_) (fun h => ?_)
  · refine sR T_ok [2] [] ⟨[(2, B false)], []⟩ (tn 1) ?_
    refine VW.ret ?_
    replace h := Option.some.inj h
    subst h
    exact rt []
  refine VW.skip ?_
  refine sR T_ok [2] [] ⟨[(2, B true)], []⟩ (tn 1) ?_
  refine VW.ret ?_
  replace h := Option.some.inj h
  subst h
  exact rt []

end Go.Proofs.YtfegppjofphpfaaDoor.Vc
