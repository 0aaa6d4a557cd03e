/- What functions of the program compute, and that they do. -/
import Derived.Test.YtfegppjofphpfaaDoorVt0
namespace Go.Proofs.YtfegppjofphpfaaDoor.Vc
open Go Go.RowKit
set_option linter.unusedVariables false
set_option maxRecDepth 100000
set_option maxHeartbeats 4000000
/- loop.example/g00844/impl.NodeText -/
def F10_j0 (N : Nat) (x49 : (List ByteArray)) : Option (ByteArray) :=
  andO (F36 N x49) fun y50 => some y50
def F10_l0_b (N : Nat) (nx81 : (List ByteArray) → (List Int) → Int → Int → Option (ByteArray)) (x71 : (List ByteArray)) (x72 : (List Int)) (x73 : Int) (x74 : Int) : Option (ByteArray) :=
  cond (decide (x74 < x73)) (gd (InR x74 x72.length) (andO (F33 N (x72.getD x74.toNat (Ty.dflt (.int .i64)))) fun y86 => gd (x71.length + ([y86]).length ≤ lim .str) (nx81 (x71 ++ ([y86])) x72 x73 (IntKind.i64.wrap (x74 + (1 : Int)))))) (F10_j0 N x71)
def F10_l0 (N : Nat) : Nat → (List ByteArray) → (List Int) → Int → Int → Option (ByteArray) := loopF (F10_l0_b N) (fun _ _ _ _ => none)
theorem F10_l0_s (N : Nat) {k : Nat} (hk : 0 < k) (x71 : (List ByteArray)) (x72 : (List Int)) (x73 : Int) (x74 : Int) : F10_l0 N k x71 x72 x73 x74 = F10_l0_b N (F10_l0 N (k - 1)) x71 x72 x73 x74 := by
  cases k with
  | zero => exact absurd hk (Nat.lt_irrefl 0)
  | succ m => rfl
def F10 (N : Nat) (a0 : (Int × (ByteArray × (Int × (Int × (Int × (Bool × (List Int)))))))) : Option (ByteArray) :=
  andO (F31 N a0) fun y2 => cond (!y2) (some ByteArray.empty) (andO (F32 N ) fun y3 => gd (InR a0.1 y3.length) (gd (a0.1.toNat < y3.length) (cond (a0.1 == (0 : Int)) (gd (([(y3.getD a0.1.toNat (Ty.dflt .str))]).length + ([a0.2.1]).length ≤ lim .str) (F10_j0 N (([(y3.getD a0.1.toNat (Ty.dflt .str))]) ++ ([a0.2.1])))) (cond (a0.1 == (1 : Int)) (andO (F33 N a0.2.2.1) fun y53 => andO (F34 N ) fun y54 => gd (InR a0.2.2.2.1 y54.length) (gd (a0.2.2.2.1.toNat < y54.length) (gd (([(y3.getD a0.1.toNat (Ty.dflt .str))]).length + ([y53, (y54.getD a0.2.2.2.1.toNat (Ty.dflt .str))]).length ≤ lim .str) (cond (a0.2.2.2.1 != (3 : Int)) (andO (F35 N a0) fun y58 => gd ((([(y3.getD a0.1.toNat (Ty.dflt .str))]) ++ ([y53, (y54.getD a0.2.2.2.1.toNat (Ty.dflt .str))])).length + ([y58]).length ≤ lim .str) (F10_j0 N ((([(y3.getD a0.1.toNat (Ty.dflt .str))]) ++ ([y53, (y54.getD a0.2.2.2.1.toNat (Ty.dflt .str))])) ++ ([y58])))) (F10_j0 N (([(y3.getD a0.1.toNat (Ty.dflt .str))]) ++ ([y53, (y54.getD a0.2.2.2.1.toNat (Ty.dflt .str))]))))))) (cond (a0.1 == (2 : Int)) (andO (F33 N (a0.2.2.2.2.2.2.length : Int)) fun y60 => gd (([(y3.getD a0.1.toNat (Ty.dflt .str))]).length + ([y60]).length ≤ lim .str) (F10_l0 N N (([(y3.getD a0.1.toNat (Ty.dflt .str))]) ++ ([y60])) a0.2.2.2.2.2.2 (a0.2.2.2.2.2.2.length : Int) (0 : Int))) (cond (a0.1 == (3 : Int)) (andO (F33 N a0.2.2.1) fun y88 => andO (F33 N a0.2.2.2.2.1) fun y89 => gd (([(y3.getD a0.1.toNat (Ty.dflt .str))]).length + ([y88, y89]).length ≤ lim .str) (F10_j0 N (([(y3.getD a0.1.toNat (Ty.dflt .str))]) ++ ([y88, y89])))) (cond (a0.1 == (5 : Int)) (andO (F33 N a0.2.2.1) fun y91 => gd (([(y3.getD a0.1.toNat (Ty.dflt .str))]).length + ([y91]).length ≤ lim .str) (F10_j0 N (([(y3.getD a0.1.toNat (Ty.dflt .str))]) ++ ([y91])))) (cond (a0.1 == (6 : Int)) (andO (F35 N a0) fun y93 => gd (([(y3.getD a0.1.toNat (Ty.dflt .str))]).length + ([y93]).length ≤ lim .str) (F10_j0 N (([(y3.getD a0.1.toNat (Ty.dflt .str))]) ++ ([y93])))) (F10_j0 N ([(y3.getD a0.1.toNat (Ty.dflt .str))]))))))))))
theorem ok10 (N : Nat) (a0 : (Int × (ByteArray × (Int × (Int × (Int × (Bool × (List Int)))))))) {r : ByteArray} (h : F10 N a0 = some r) : Con Go.Proofs.Tryd.prog 10 [.agg [.v (.int .i64) a0.1, .v .str a0.2.1, .v (.int .i64) a0.2.2.1, .v (.int .i64) a0.2.2.2.1, .v (.int .i64) a0.2.2.2.2.1, .v .bool a0.2.2.2.2.2.1, .v (.sl (.int .i64)) a0.2.2.2.2.2.2]] [.lf (.v .str r)] := by
  refine ctr [.lf (.v .str)] T_ok Go.Proofs.Tryd.func10 rfl fun w0 E0 ht => ?_
  unfold F10 at h
  show VW _ _ _ _ _ (retQ _ _ _ _) _
  refine sR T_ok [1] [0] ⟨[(1, .lf (.ptr 0 0 0 0))], [bx [.v (.int .i64) a0.1, .v .str a0.2.1, .v (.int .i64) a0.2.2.1, .v (.int .i64) a0.2.2.2.1, .v (.int .i64) a0.2.2.2.2.1, .v .bool a0.2.2.2.2.2.1, .v (.sl (.int .i64)) a0.2.2.2.2.2.2] 27]⟩ (tn 2) ?_
  refine VW.seq ?_
  refine VW.seq ?_
  refine VW.region ?_
  refine sG T_ok 1 [1, 6] [0] ⟨[(1, .lf (.ptr 0 0 0 0)), (6, .agg [.v (.int .i64) a0.1, .v .str a0.2.1, .v (.int .i64) a0.2.2.1, .v (.int .i64) a0.2.2.2.1, .v (.int .i64) a0.2.2.2.2.1, .v .bool a0.2.2.2.2.2.1, .v (.sl (.int .i64)) a0.2.2.2.2.2.2])], [bx [.v (.int .i64) a0.1, .v .str a0.2.1, .v (.int .i64) a0.2.2.1, .v (.int .i64) a0.2.2.2.1, .v (.int .i64) a0.2.2.2.2.1, .v .bool a0.2.2.2.2.2.1, .v (.sl (.int .i64)) a0.2.2.2.2.2.2] 27]⟩ (tn 1) ?_
  obtain ⟨y2, hy, h⟩ := andO_some h
  refine cal false [.t Y23] [] (some 7) T_ok (ok31 N _ hy) ?_
  refine sN T_ok [1, 8] [0] ⟨[(1, .lf (.ptr 0 0 0 0)), (8, B (!y2))], [bx [.v (.int .i64) a0.1, .v .str a0.2.1, .v (.int .i64) a0.2.2.1, .v (.int .i64) a0.2.2.2.1, .v (.int .i64) a0.2.2.2.2.1, .v .bool a0.2.2.2.2.2.1, .v (.sl (.int .i64)) a0.2.2.2.2.2.2] 27]⟩ (tn 1) ?_
  refine cnd h (fun h => ?_) (fun h => ?_)
  · refine sR T_ok [2] [] ⟨[(2, S ByteArray.empty)], []⟩ (tn 1) ?_
    refine VW.ret ?_
    replace h := Option.some.inj h
    subst h
    exact rt []
  refine VW.skip ?_
  refine VW.seq ?_
  obtain ⟨y3, hy3, h⟩ := andO_some h
  obtain ⟨g4, h⟩ := gd_some h
  obtain ⟨g5, h⟩ := gd_some h
  refine VW.ideal (by kernel_rfl) [[], [0], [1], [0, 1], [1, 2], [0, 1, 2], [0, 1, 2, 3], [0, 1, 2, 3, 4], [0, 1, 2, 3, 4, 5], [0, 1, 2, 3, 4, 5, 6]] [⟨[(1, .lf (.ptr 0 0 0 0)), (8, B (!y2))], [bx [.v (.int .i64) a0.1, .v .str a0.2.1, .v (.int .i64) a0.2.2.1, .v (.int .i64) a0.2.2.2.1, .v (.int .i64) a0.2.2.2.2.1, .v .bool a0.2.2.2.2.2.1, .v (.sl (.int .i64)) a0.2.2.2.2.2.2] 27]⟩,
    ⟨[(1, .lf (.ptr 0 0 0 0)), (9, .lf (.hd 1 0 none))], [bx [.v (.int .i64) a0.1, .v .str a0.2.1, .v (.int .i64) a0.2.2.1, .v (.int .i64) a0.2.2.2.1, .v (.int .i64) a0.2.2.2.2.1, .v .bool a0.2.2.2.2.2.1, .v (.sl (.int .i64)) a0.2.2.2.2.2.2] 27, ar 0 .str y3 .dp]⟩,
    ⟨[(1, .lf (.ptr 0 0 0 0)), (10, .lf (.ptr 0 0 0 0))], [bx [.v (.int .i64) a0.1, .v .str a0.2.1, .v (.int .i64) a0.2.2.1, .v (.int .i64) a0.2.2.2.1, .v (.int .i64) a0.2.2.2.2.1, .v .bool a0.2.2.2.2.2.1, .v (.sl (.int .i64)) a0.2.2.2.2.2.2] 27]⟩,
    ⟨[(1, .lf (.ptr 0 0 0 0)), (9, .lf (.hd 1 0 none)), (10, .lf (.ptr 0 0 0 0))], [bx [.v (.int .i64) a0.1, .v .str a0.2.1, .v (.int .i64) a0.2.2.1, .v (.int .i64) a0.2.2.2.1, .v (.int .i64) a0.2.2.2.2.1, .v .bool a0.2.2.2.2.2.1, .v (.sl (.int .i64)) a0.2.2.2.2.2.2] 27, ar 0 .str y3 .dp]⟩,
    ⟨[(1, .lf (.ptr 0 0 0 0)), (11, I a0.1)], [bx [.v (.int .i64) a0.1, .v .str a0.2.1, .v (.int .i64) a0.2.2.1, .v (.int .i64) a0.2.2.2.1, .v (.int .i64) a0.2.2.2.2.1, .v .bool a0.2.2.2.2.2.1, .v (.sl (.int .i64)) a0.2.2.2.2.2.2] 27]⟩,
    ⟨[(1, .lf (.ptr 0 0 0 0)), (9, .lf (.hd 1 0 none)), (11, I a0.1)], [bx [.v (.int .i64) a0.1, .v .str a0.2.1, .v (.int .i64) a0.2.2.1, .v (.int .i64) a0.2.2.2.1, .v (.int .i64) a0.2.2.2.2.1, .v .bool a0.2.2.2.2.2.1, .v (.sl (.int .i64)) a0.2.2.2.2.2.2] 27, ar 0 .str y3 .dp]⟩,
    ⟨[(1, .lf (.ptr 0 0 0 0)), (12, .lf (.ptr 1 0 a0.1.toNat 0))], [bx [.v (.int .i64) a0.1, .v .str a0.2.1, .v (.int .i64) a0.2.2.1, .v (.int .i64) a0.2.2.2.1, .v (.int .i64) a0.2.2.2.2.1, .v .bool a0.2.2.2.2.2.1, .v (.sl (.int .i64)) a0.2.2.2.2.2.2] 27, ar 0 .str y3 .dp]⟩,
    ⟨[(1, .lf (.ptr 0 0 0 0)), (13, S (y3.getD a0.1.toNat (Ty.dflt .str)))], [bx [.v (.int .i64) a0.1, .v .str a0.2.1, .v (.int .i64) a0.2.2.1, .v (.int .i64) a0.2.2.2.1, .v (.int .i64) a0.2.2.2.2.1, .v .bool a0.2.2.2.2.2.1, .v (.sl (.int .i64)) a0.2.2.2.2.2.2] 27]⟩,
    ⟨[(1, .lf (.ptr 0 0 0 0)), (14, .lf (.hd 1 0 none))], [bx [.v (.int .i64) a0.1, .v .str a0.2.1, .v (.int .i64) a0.2.2.1, .v (.int .i64) a0.2.2.2.1, .v (.int .i64) a0.2.2.2.2.1, .v .bool a0.2.2.2.2.2.1, .v (.sl (.int .i64)) a0.2.2.2.2.2.2] 27, ar 0 .str ([(y3.getD a0.1.toNat (Ty.dflt .str))]) .dp]⟩,
    ⟨[(1, .lf (.ptr 0 0 0 0)), (3, .lf (.hd 1 0 none))], [bx [.v (.int .i64) a0.1, .v .str a0.2.1, .v (.int .i64) a0.2.2.1, .v (.int .i64) a0.2.2.2.1, .v (.int .i64) a0.2.2.2.2.1, .v .bool a0.2.2.2.2.2.1, .v (.sl (.int .i64)) a0.2.2.2.2.2.2] 27, ar 0 .str ([(y3.getD a0.1.toNat (Ty.dflt .str))]) .dp]⟩] [(0, 0, 1), (0, 1, 2), (1, 1, 3), (2, 0, 3), (2, 2, 4), (3, 2, 5), (4, 0, 5), (5, 3, 6), (6, 4, 7), (7, 5, 8), (8, 6, 9)] 9 (s' := ⟨[(1, .lf (.ptr 0 0 0 0)), (3, .lf (.hd 1 0 none))], [bx [.v (.int .i64) a0.1, .v .str a0.2.1, .v (.int .i64) a0.2.2.1, .v (.int .i64) a0.2.2.2.1, .v (.int .i64) a0.2.2.2.2.1, .v .bool a0.2.2.2.2.2.1, .v (.sl (.int .i64)) a0.2.2.2.2.2.2] 27, ar 0 .str ([(y3.getD a0.1.toNat (Ty.dflt .str))]) .dp]⟩) (by kernel_rfl) rfl rfl ⟨⟨_, _, _, rfl, rfl, rfl, by
      refine VO.call false [] [] T_ok (d := some 9) (by kernel_rfl) (ok32 N  hy3) rfl ?_
      exact VO.ghl [.ren [1, 9] [0, 1]] (VI.fin (by kernel_rfl))⟩,
    ⟨_, _, _, rfl, rfl, rfl, VO.seg T_ok .dp 1 [1, 10] [0] (φ := True ∧ True) (by kernel_rfl) ⟨trivial, trivial⟩ (VI.fin rfl)⟩,
    ⟨_, _, _, rfl, rfl, rfl, VO.seg T_ok .dp 1 [1, 9, 10] [0, 1] (φ := True ∧ True) (by kernel_rfl) ⟨trivial, trivial⟩ (VI.fin rfl)⟩,
    ⟨_, _, _, rfl, rfl, rfl, by
      refine VO.call false [] [] T_ok (d := some 9) (by kernel_rfl) (ok32 N  hy3) rfl ?_
      exact VO.ghl [.ren [1, 9, 10] [0, 1]] (VI.fin (by kernel_rfl))⟩,
    ⟨_, _, _, rfl, rfl, rfl, VO.seg T_ok .dp 1 [1, 11] [0] (φ := True ∧ True) (by kernel_rfl) ⟨trivial, trivial⟩ (VI.fin rfl)⟩,
    ⟨_, _, _, rfl, rfl, rfl, VO.seg T_ok .dp 1 [1, 9, 11] [0, 1] (φ := True ∧ True) (by kernel_rfl) ⟨trivial, trivial⟩ (VI.fin rfl)⟩,
    ⟨_, _, _, rfl, rfl, rfl, by
      refine VO.call false [] [] T_ok (d := some 9) (by kernel_rfl) (ok32 N  hy3) rfl ?_
      exact VO.ghl [.ren [1, 9, 11] [0, 1]] (VI.fin (by kernel_rfl))⟩,
    ⟨_, _, _, rfl, rfl, rfl, VO.seg T_ok .dp 1 [1, 12] [0, 1] (φ := (InR a0.1 y3.length) ∧ True) (by kernel_rfl) ⟨g4, trivial⟩ (VI.fin rfl)⟩,
    ⟨_, _, _, rfl, rfl, rfl, VO.seg T_ok .dp 1 [1, 13] [0] (φ := (a0.1.toNat < y3.length) ∧ True) (by kernel_rfl) ⟨g5, trivial⟩ (VI.fin rfl)⟩,
    ⟨_, _, _, rfl, rfl, rfl, VO.seg T_ok .dp 1 [1, 14] [0, 1] (φ := True ∧ True) (by kernel_rfl) ⟨trivial, trivial⟩ (VI.fin rfl)⟩,
    ⟨_, _, _, rfl, rfl, rfl, VO.seg T_ok .dp 1 [1, 3] [0, 1] (φ := True ∧ True) (by kernel_rfl) ⟨trivial, trivial⟩ (VI.fin rfl)⟩, trivial⟩ ?_
  refine VW.join (fun s => ∃ (x49 : (List ByteArray)), s = ⟨[(3, .lf (.hd 0 0 none))], [ar 0 .str x49 .dp]⟩ ∧ F10_j0 N x49 = some r) ?_ ?_
  · refine sR T_ok [1, 3, 16] [0, 1] ⟨[(1, .lf (.ptr 0 0 0 0)), (3, .lf (.hd 1 0 none)), (16, I a0.1)], [bx [.v (.int .i64) a0.1, .v .str a0.2.1, .v (.int .i64) a0.2.2.1, .v (.int .i64) a0.2.2.2.1, .v (.int .i64) a0.2.2.2.2.1, .v .bool a0.2.2.2.2.2.1, .v (.sl (.int .i64)) a0.2.2.2.2.2.2] 27, ar 0 .str ([(y3.getD a0.1.toNat (Ty.dflt .str))]) .dp]⟩ (tn 2) ?_
    refine VW.block ?_
    refine sR T_ok [1, 3, 16, 17] [0, 1] ⟨[(1, .lf (.ptr 0 0 0 0)), (3, .lf (.hd 1 0 none)), (16, I a0.1), (17, B (a0.1 == (0 : Int)))], [bx [.v (.int .i64) a0.1, .v .str a0.2.1, .v (.int .i64) a0.2.2.1, .v (.int .i64) a0.2.2.2.1, .v (.int .i64) a0.2.2.2.2.1, .v .bool a0.2.2.2.2.2.1, .v (.sl (.int .i64)) a0.2.2.2.2.2.2] 27, ar 0 .str ([(y3.getD a0.1.toNat (Ty.dflt .str))]) .dp]⟩ (tn 2) ?_
    refine cnd h (fun h => ?_) (fun h => ?_)
    · obtain ⟨g52, h⟩ := gd_some h
      refine rR T_ok [3] [1] ⟨[(3, .lf (.hd 0 0 none))], [ar 0 .str (([(y3.getD a0.1.toNat (Ty.dflt .str))]) ++ ([a0.2.1])) .dp]⟩ (pu 4 (an g52 (tn 1))) ?_
      exact arv [.ren [3] [0]] ⟨(([(y3.getD a0.1.toNat (Ty.dflt .str))]) ++ ([a0.2.1])), rfl, h⟩
    refine sR T_ok [1, 3, 16, 24] [0, 1] ⟨[(1, .lf (.ptr 0 0 0 0)), (3, .lf (.hd 1 0 none)), (16, I a0.1), (24, B (a0.1 == (1 : Int)))], [bx [.v (.int .i64) a0.1, .v .str a0.2.1, .v (.int .i64) a0.2.2.1, .v (.int .i64) a0.2.2.2.1, .v (.int .i64) a0.2.2.2.2.1, .v .bool a0.2.2.2.2.2.1, .v (.sl (.int .i64)) a0.2.2.2.2.2.2] 27, ar 0 .str ([(y3.getD a0.1.toNat (Ty.dflt .str))]) .dp]⟩ (tn 2) ?_
    refine cnd h (fun h => ?_) (fun h => ?_)
    · refine VW.seq ?_
      obtain ⟨y53, hy53, h⟩ := andO_some h
      obtain ⟨y54, hy54, h⟩ := andO_some h
      obtain ⟨g55, h⟩ := gd_some h
      obtain ⟨g56, h⟩ := gd_some h
      obtain ⟨g57, h⟩ := gd_some h
      refine VW.ideal (by kernel_rfl) [[], [0], [1], [5], [0, 1], [0, 5], [1, 2], [1, 5], [5, 6], [0, 1, 2], [0, 1, 5], [0, 5, 6], [1, 2, 3], [1, 2, 5], [1, 5, 6], [0, 1, 2, 3], [0, 1, 2, 5], [0, 1, 5, 6], [1, 2, 3, 4], [1, 2, 3, 5], [1, 2, 5, 6], [0, 1, 2, 3, 4], [0, 1, 2, 3, 5], [0, 1, 2, 5, 6], [1, 2, 3, 4, 5], [1, 2, 3, 5, 6], [0, 1, 2, 3, 4, 5], [0, 1, 2, 3, 5, 6], [1, 2, 3, 4, 5, 6], [0, 1, 2, 3, 4, 5, 6], [1, 2, 3, 4, 5, 6, 7], [0, 1, 2, 3, 4, 5, 6, 7], [1, 2, 3, 4, 5, 6, 7, 8], [0, 1, 2, 3, 4, 5, 6, 7, 8], [1, 2, 3, 4, 5, 6, 7, 8, 9], [0, 1, 2, 3, 4, 5, 6, 7, 8, 9], [0, 1, 2, 3, 4, 5, 6, 7, 8, 9, 10], [0, 1, 2, 3, 4, 5, 6, 7, 8, 9, 10, 11]] [⟨[(1, .lf (.ptr 0 0 0 0)), (3, .lf (.hd 1 0 none)), (16, I a0.1), (24, B (a0.1 == (1 : Int)))], [bx [.v (.int .i64) a0.1, .v .str a0.2.1, .v (.int .i64) a0.2.2.1, .v (.int .i64) a0.2.2.2.1, .v (.int .i64) a0.2.2.2.2.1, .v .bool a0.2.2.2.2.2.1, .v (.sl (.int .i64)) a0.2.2.2.2.2.2] 27, ar 0 .str ([(y3.getD a0.1.toNat (Ty.dflt .str))]) .dp]⟩,
    ⟨[(1, .lf (.ptr 0 0 0 0)), (3, .lf (.hd 1 0 none)), (26, .lf (.hd 1 0 none))], [bx [.v (.int .i64) a0.1, .v .str a0.2.1, .v (.int .i64) a0.2.2.1, .v (.int .i64) a0.2.2.2.1, .v (.int .i64) a0.2.2.2.2.1, .v .bool a0.2.2.2.2.2.1, .v (.sl (.int .i64)) a0.2.2.2.2.2.2] 27, ar 0 .str ([(y3.getD a0.1.toNat (Ty.dflt .str))]) .dp]⟩,
    ⟨[(1, .lf (.ptr 0 0 0 0)), (3, .lf (.hd 1 0 none)), (27, .lf (.ptr 0 0 0 2))], [bx [.v (.int .i64) a0.1, .v .str a0.2.1, .v (.int .i64) a0.2.2.1, .v (.int .i64) a0.2.2.2.1, .v (.int .i64) a0.2.2.2.2.1, .v .bool a0.2.2.2.2.2.1, .v (.sl (.int .i64)) a0.2.2.2.2.2.2] 27, ar 0 .str ([(y3.getD a0.1.toNat (Ty.dflt .str))]) .dp]⟩,
    ⟨[(1, .lf (.ptr 0 0 0 0)), (3, .lf (.hd 1 0 none)), (31, .lf (.ptr 0 0 0 3))], [bx [.v (.int .i64) a0.1, .v .str a0.2.1, .v (.int .i64) a0.2.2.1, .v (.int .i64) a0.2.2.2.1, .v (.int .i64) a0.2.2.2.2.1, .v .bool a0.2.2.2.2.2.1, .v (.sl (.int .i64)) a0.2.2.2.2.2.2] 27, ar 0 .str ([(y3.getD a0.1.toNat (Ty.dflt .str))]) .dp]⟩,
    ⟨[(1, .lf (.ptr 0 0 0 0)), (3, .lf (.hd 1 0 none)), (26, .lf (.hd 1 0 none)), (27, .lf (.ptr 0 0 0 2))], [bx [.v (.int .i64) a0.1, .v .str a0.2.1, .v (.int .i64) a0.2.2.1, .v (.int .i64) a0.2.2.2.1, .v (.int .i64) a0.2.2.2.2.1, .v .bool a0.2.2.2.2.2.1, .v (.sl (.int .i64)) a0.2.2.2.2.2.2] 27, ar 0 .str ([(y3.getD a0.1.toNat (Ty.dflt .str))]) .dp]⟩,
    ⟨[(1, .lf (.ptr 0 0 0 0)), (3, .lf (.hd 1 0 none)), (26, .lf (.hd 1 0 none)), (31, .lf (.ptr 0 0 0 3))], [bx [.v (.int .i64) a0.1, .v .str a0.2.1, .v (.int .i64) a0.2.2.1, .v (.int .i64) a0.2.2.2.1, .v (.int .i64) a0.2.2.2.2.1, .v .bool a0.2.2.2.2.2.1, .v (.sl (.int .i64)) a0.2.2.2.2.2.2] 27, ar 0 .str ([(y3.getD a0.1.toNat (Ty.dflt .str))]) .dp]⟩,
    ⟨[(1, .lf (.ptr 0 0 0 0)), (3, .lf (.hd 1 0 none)), (28, I a0.2.2.1)], [bx [.v (.int .i64) a0.1, .v .str a0.2.1, .v (.int .i64) a0.2.2.1, .v (.int .i64) a0.2.2.2.1, .v (.int .i64) a0.2.2.2.2.1, .v .bool a0.2.2.2.2.2.1, .v (.sl (.int .i64)) a0.2.2.2.2.2.2] 27, ar 0 .str ([(y3.getD a0.1.toNat (Ty.dflt .str))]) .dp]⟩,
    ⟨[(1, .lf (.ptr 0 0 0 0)), (3, .lf (.hd 1 0 none)), (27, .lf (.ptr 0 0 0 2)), (31, .lf (.ptr 0 0 0 3))], [bx [.v (.int .i64) a0.1, .v .str a0.2.1, .v (.int .i64) a0.2.2.1, .v (.int .i64) a0.2.2.2.1, .v (.int .i64) a0.2.2.2.2.1, .v .bool a0.2.2.2.2.2.1, .v (.sl (.int .i64)) a0.2.2.2.2.2.2] 27, ar 0 .str ([(y3.getD a0.1.toNat (Ty.dflt .str))]) .dp]⟩,
    ⟨[(1, .lf (.ptr 0 0 0 0)), (3, .lf (.hd 1 0 none)), (32, I a0.2.2.2.1)], [bx [.v (.int .i64) a0.1, .v .str a0.2.1, .v (.int .i64) a0.2.2.1, .v (.int .i64) a0.2.2.2.1, .v (.int .i64) a0.2.2.2.2.1, .v .bool a0.2.2.2.2.2.1, .v (.sl (.int .i64)) a0.2.2.2.2.2.2] 27, ar 0 .str ([(y3.getD a0.1.toNat (Ty.dflt .str))]) .dp]⟩,
    ⟨[(1, .lf (.ptr 0 0 0 0)), (3, .lf (.hd 1 0 none)), (26, .lf (.hd 1 0 none)), (28, I a0.2.2.1)], [bx [.v (.int .i64) a0.1, .v .str a0.2.1, .v (.int .i64) a0.2.2.1, .v (.int .i64) a0.2.2.2.1, .v (.int .i64) a0.2.2.2.2.1, .v .bool a0.2.2.2.2.2.1, .v (.sl (.int .i64)) a0.2.2.2.2.2.2] 27, ar 0 .str ([(y3.getD a0.1.toNat (Ty.dflt .str))]) .dp]⟩,
    ⟨[(1, .lf (.ptr 0 0 0 0)), (3, .lf (.hd 1 0 none)), (26, .lf (.hd 1 0 none)), (27, .lf (.ptr 0 0 0 2)), (31, .lf (.ptr 0 0 0 3))], [bx [.v (.int .i64) a0.1, .v .str a0.2.1, .v (.int .i64) a0.2.2.1, .v (.int .i64) a0.2.2.2.1, .v (.int .i64) a0.2.2.2.2.1, .v .bool a0.2.2.2.2.2.1, .v (.sl (.int .i64)) a0.2.2.2.2.2.2] 27, ar 0 .str ([(y3.getD a0.1.toNat (Ty.dflt .str))]) .dp]⟩,
    ⟨[(1, .lf (.ptr 0 0 0 0)), (3, .lf (.hd 1 0 none)), (26, .lf (.hd 1 0 none)), (32, I a0.2.2.2.1)], [bx [.v (.int .i64) a0.1, .v .str a0.2.1, .v (.int .i64) a0.2.2.1, .v (.int .i64) a0.2.2.2.1, .v (.int .i64) a0.2.2.2.2.1, .v .bool a0.2.2.2.2.2.1, .v (.sl (.int .i64)) a0.2.2.2.2.2.2] 27, ar 0 .str ([(y3.getD a0.1.toNat (Ty.dflt .str))]) .dp]⟩,
    ⟨[(1, .lf (.ptr 0 0 0 0)), (3, .lf (.hd 1 0 none)), (29, S y53)], [bx [.v (.int .i64) a0.1, .v .str a0.2.1, .v (.int .i64) a0.2.2.1, .v (.int .i64) a0.2.2.2.1, .v (.int .i64) a0.2.2.2.2.1, .v .bool a0.2.2.2.2.2.1, .v (.sl (.int .i64)) a0.2.2.2.2.2.2] 27, ar 0 .str ([(y3.getD a0.1.toNat (Ty.dflt .str))]) .dp]⟩,
    ⟨[(1, .lf (.ptr 0 0 0 0)), (3, .lf (.hd 1 0 none)), (28, I a0.2.2.1), (31, .lf (.ptr 0 0 0 3))], [bx [.v (.int .i64) a0.1, .v .str a0.2.1, .v (.int .i64) a0.2.2.1, .v (.int .i64) a0.2.2.2.1, .v (.int .i64) a0.2.2.2.2.1, .v .bool a0.2.2.2.2.2.1, .v (.sl (.int .i64)) a0.2.2.2.2.2.2] 27, ar 0 .str ([(y3.getD a0.1.toNat (Ty.dflt .str))]) .dp]⟩,
    ⟨[(1, .lf (.ptr 0 0 0 0)), (3, .lf (.hd 1 0 none)), (27, .lf (.ptr 0 0 0 2)), (32, I a0.2.2.2.1)], [bx [.v (.int .i64) a0.1, .v .str a0.2.1, .v (.int .i64) a0.2.2.1, .v (.int .i64) a0.2.2.2.1, .v (.int .i64) a0.2.2.2.2.1, .v .bool a0.2.2.2.2.2.1, .v (.sl (.int .i64)) a0.2.2.2.2.2.2] 27, ar 0 .str ([(y3.getD a0.1.toNat (Ty.dflt .str))]) .dp]⟩,
    ⟨[(1, .lf (.ptr 0 0 0 0)), (3, .lf (.hd 1 0 none)), (26, .lf (.hd 1 0 none)), (29, S y53)], [bx [.v (.int .i64) a0.1, .v .str a0.2.1, .v (.int .i64) a0.2.2.1, .v (.int .i64) a0.2.2.2.1, .v (.int .i64) a0.2.2.2.2.1, .v .bool a0.2.2.2.2.2.1, .v (.sl (.int .i64)) a0.2.2.2.2.2.2] 27, ar 0 .str ([(y3.getD a0.1.toNat (Ty.dflt .str))]) .dp]⟩,
    ⟨[(1, .lf (.ptr 0 0 0 0)), (3, .lf (.hd 1 0 none)), (26, .lf (.hd 1 0 none)), (28, I a0.2.2.1), (31, .lf (.ptr 0 0 0 3))], [bx [.v (.int .i64) a0.1, .v .str a0.2.1, .v (.int .i64) a0.2.2.1, .v (.int .i64) a0.2.2.2.1, .v (.int .i64) a0.2.2.2.2.1, .v .bool a0.2.2.2.2.2.1, .v (.sl (.int .i64)) a0.2.2.2.2.2.2] 27, ar 0 .str ([(y3.getD a0.1.toNat (Ty.dflt .str))]) .dp]⟩,
    ⟨[(1, .lf (.ptr 0 0 0 0)), (3, .lf (.hd 1 0 none)), (26, .lf (.hd 1 0 none)), (27, .lf (.ptr 0 0 0 2)), (32, I a0.2.2.2.1)], [bx [.v (.int .i64) a0.1, .v .str a0.2.1, .v (.int .i64) a0.2.2.1, .v (.int .i64) a0.2.2.2.1, .v (.int .i64) a0.2.2.2.2.1, .v .bool a0.2.2.2.2.2.1, .v (.sl (.int .i64)) a0.2.2.2.2.2.2] 27, ar 0 .str ([(y3.getD a0.1.toNat (Ty.dflt .str))]) .dp]⟩,
    ⟨[(1, .lf (.ptr 0 0 0 0)), (3, .lf (.hd 1 0 none)), (29, S y53), (30, .lf (.hd 2 0 none))], [bx [.v (.int .i64) a0.1, .v .str a0.2.1, .v (.int .i64) a0.2.2.1, .v (.int .i64) a0.2.2.2.1, .v (.int .i64) a0.2.2.2.2.1, .v .bool a0.2.2.2.2.2.1, .v (.sl (.int .i64)) a0.2.2.2.2.2.2] 27, ar 0 .str ([(y3.getD a0.1.toNat (Ty.dflt .str))]) .dp, ar 0 .str y54 .dp]⟩,
    ⟨[(1, .lf (.ptr 0 0 0 0)), (3, .lf (.hd 1 0 none)), (29, S y53), (31, .lf (.ptr 0 0 0 3))], [bx [.v (.int .i64) a0.1, .v .str a0.2.1, .v (.int .i64) a0.2.2.1, .v (.int .i64) a0.2.2.2.1, .v (.int .i64) a0.2.2.2.2.1, .v .bool a0.2.2.2.2.2.1, .v (.sl (.int .i64)) a0.2.2.2.2.2.2] 27, ar 0 .str ([(y3.getD a0.1.toNat (Ty.dflt .str))]) .dp]⟩,
    ⟨[(1, .lf (.ptr 0 0 0 0)), (3, .lf (.hd 1 0 none)), (28, I a0.2.2.1), (32, I a0.2.2.2.1)], [bx [.v (.int .i64) a0.1, .v .str a0.2.1, .v (.int .i64) a0.2.2.1, .v (.int .i64) a0.2.2.2.1, .v (.int .i64) a0.2.2.2.2.1, .v .bool a0.2.2.2.2.2.1, .v (.sl (.int .i64)) a0.2.2.2.2.2.2] 27, ar 0 .str ([(y3.getD a0.1.toNat (Ty.dflt .str))]) .dp]⟩,
    ⟨[(1, .lf (.ptr 0 0 0 0)), (3, .lf (.hd 1 0 none)), (26, .lf (.hd 1 0 none)), (29, S y53), (30, .lf (.hd 2 0 none))], [bx [.v (.int .i64) a0.1, .v .str a0.2.1, .v (.int .i64) a0.2.2.1, .v (.int .i64) a0.2.2.2.1, .v (.int .i64) a0.2.2.2.2.1, .v .bool a0.2.2.2.2.2.1, .v (.sl (.int .i64)) a0.2.2.2.2.2.2] 27, ar 0 .str ([(y3.getD a0.1.toNat (Ty.dflt .str))]) .dp, ar 0 .str y54 .dp]⟩,
    ⟨[(1, .lf (.ptr 0 0 0 0)), (3, .lf (.hd 1 0 none)), (26, .lf (.hd 1 0 none)), (29, S y53), (31, .lf (.ptr 0 0 0 3))], [bx [.v (.int .i64) a0.1, .v .str a0.2.1, .v (.int .i64) a0.2.2.1, .v (.int .i64) a0.2.2.2.1, .v (.int .i64) a0.2.2.2.2.1, .v .bool a0.2.2.2.2.2.1, .v (.sl (.int .i64)) a0.2.2.2.2.2.2] 27, ar 0 .str ([(y3.getD a0.1.toNat (Ty.dflt .str))]) .dp]⟩,
    ⟨[(1, .lf (.ptr 0 0 0 0)), (3, .lf (.hd 1 0 none)), (26, .lf (.hd 1 0 none)), (28, I a0.2.2.1), (32, I a0.2.2.2.1)], [bx [.v (.int .i64) a0.1, .v .str a0.2.1, .v (.int .i64) a0.2.2.1, .v (.int .i64) a0.2.2.2.1, .v (.int .i64) a0.2.2.2.2.1, .v .bool a0.2.2.2.2.2.1, .v (.sl (.int .i64)) a0.2.2.2.2.2.2] 27, ar 0 .str ([(y3.getD a0.1.toNat (Ty.dflt .str))]) .dp]⟩,
    ⟨[(1, .lf (.ptr 0 0 0 0)), (3, .lf (.hd 1 0 none)), (29, S y53), (30, .lf (.hd 2 0 none)), (31, .lf (.ptr 0 0 0 3))], [bx [.v (.int .i64) a0.1, .v .str a0.2.1, .v (.int .i64) a0.2.2.1, .v (.int .i64) a0.2.2.2.1, .v (.int .i64) a0.2.2.2.2.1, .v .bool a0.2.2.2.2.2.1, .v (.sl (.int .i64)) a0.2.2.2.2.2.2] 27, ar 0 .str ([(y3.getD a0.1.toNat (Ty.dflt .str))]) .dp, ar 0 .str y54 .dp]⟩,
    ⟨[(1, .lf (.ptr 0 0 0 0)), (3, .lf (.hd 1 0 none)), (29, S y53), (32, I a0.2.2.2.1)], [bx [.v (.int .i64) a0.1, .v .str a0.2.1, .v (.int .i64) a0.2.2.1, .v (.int .i64) a0.2.2.2.1, .v (.int .i64) a0.2.2.2.2.1, .v .bool a0.2.2.2.2.2.1, .v (.sl (.int .i64)) a0.2.2.2.2.2.2] 27, ar 0 .str ([(y3.getD a0.1.toNat (Ty.dflt .str))]) .dp]⟩,
    ⟨[(1, .lf (.ptr 0 0 0 0)), (3, .lf (.hd 1 0 none)), (26, .lf (.hd 1 0 none)), (29, S y53), (30, .lf (.hd 2 0 none)), (31, .lf (.ptr 0 0 0 3))], [bx [.v (.int .i64) a0.1, .v .str a0.2.1, .v (.int .i64) a0.2.2.1, .v (.int .i64) a0.2.2.2.1, .v (.int .i64) a0.2.2.2.2.1, .v .bool a0.2.2.2.2.2.1, .v (.sl (.int .i64)) a0.2.2.2.2.2.2] 27, ar 0 .str ([(y3.getD a0.1.toNat (Ty.dflt .str))]) .dp, ar 0 .str y54 .dp]⟩,
    ⟨[(1, .lf (.ptr 0 0 0 0)), (3, .lf (.hd 1 0 none)), (26, .lf (.hd 1 0 none)), (29, S y53), (32, I a0.2.2.2.1)], [bx [.v (.int .i64) a0.1, .v .str a0.2.1, .v (.int .i64) a0.2.2.1, .v (.int .i64) a0.2.2.2.1, .v (.int .i64) a0.2.2.2.2.1, .v .bool a0.2.2.2.2.2.1, .v (.sl (.int .i64)) a0.2.2.2.2.2.2] 27, ar 0 .str ([(y3.getD a0.1.toNat (Ty.dflt .str))]) .dp]⟩,
    ⟨[(1, .lf (.ptr 0 0 0 0)), (3, .lf (.hd 1 0 none)), (29, S y53), (30, .lf (.hd 2 0 none)), (32, I a0.2.2.2.1)], [bx [.v (.int .i64) a0.1, .v .str a0.2.1, .v (.int .i64) a0.2.2.1, .v (.int .i64) a0.2.2.2.1, .v (.int .i64) a0.2.2.2.2.1, .v .bool a0.2.2.2.2.2.1, .v (.sl (.int .i64)) a0.2.2.2.2.2.2] 27, ar 0 .str ([(y3.getD a0.1.toNat (Ty.dflt .str))]) .dp, ar 0 .str y54 .dp]⟩,
    ⟨[(1, .lf (.ptr 0 0 0 0)), (3, .lf (.hd 1 0 none)), (26, .lf (.hd 1 0 none)), (29, S y53), (30, .lf (.hd 2 0 none)), (32, I a0.2.2.2.1)], [bx [.v (.int .i64) a0.1, .v .str a0.2.1, .v (.int .i64) a0.2.2.1, .v (.int .i64) a0.2.2.2.1, .v (.int .i64) a0.2.2.2.2.1, .v .bool a0.2.2.2.2.2.1, .v (.sl (.int .i64)) a0.2.2.2.2.2.2] 27, ar 0 .str ([(y3.getD a0.1.toNat (Ty.dflt .str))]) .dp, ar 0 .str y54 .dp]⟩,
    ⟨[(1, .lf (.ptr 0 0 0 0)), (3, .lf (.hd 1 0 none)), (29, S y53), (33, .lf (.ptr 2 0 a0.2.2.2.1.toNat 0))], [bx [.v (.int .i64) a0.1, .v .str a0.2.1, .v (.int .i64) a0.2.2.1, .v (.int .i64) a0.2.2.2.1, .v (.int .i64) a0.2.2.2.2.1, .v .bool a0.2.2.2.2.2.1, .v (.sl (.int .i64)) a0.2.2.2.2.2.2] 27, ar 0 .str ([(y3.getD a0.1.toNat (Ty.dflt .str))]) .dp, ar 0 .str y54 .dp]⟩,
    ⟨[(1, .lf (.ptr 0 0 0 0)), (3, .lf (.hd 1 0 none)), (26, .lf (.hd 1 0 none)), (29, S y53), (33, .lf (.ptr 2 0 a0.2.2.2.1.toNat 0))], [bx [.v (.int .i64) a0.1, .v .str a0.2.1, .v (.int .i64) a0.2.2.1, .v (.int .i64) a0.2.2.2.1, .v (.int .i64) a0.2.2.2.2.1, .v .bool a0.2.2.2.2.2.1, .v (.sl (.int .i64)) a0.2.2.2.2.2.2] 27, ar 0 .str ([(y3.getD a0.1.toNat (Ty.dflt .str))]) .dp, ar 0 .str y54 .dp]⟩,
    ⟨[(1, .lf (.ptr 0 0 0 0)), (3, .lf (.hd 1 0 none)), (29, S y53), (34, S (y54.getD a0.2.2.2.1.toNat (Ty.dflt .str)))], [bx [.v (.int .i64) a0.1, .v .str a0.2.1, .v (.int .i64) a0.2.2.1, .v (.int .i64) a0.2.2.2.1, .v (.int .i64) a0.2.2.2.2.1, .v .bool a0.2.2.2.2.2.1, .v (.sl (.int .i64)) a0.2.2.2.2.2.2] 27, ar 0 .str ([(y3.getD a0.1.toNat (Ty.dflt .str))]) .dp]⟩,
    ⟨[(1, .lf (.ptr 0 0 0 0)), (3, .lf (.hd 1 0 none)), (26, .lf (.hd 1 0 none)), (29, S y53), (34, S (y54.getD a0.2.2.2.1.toNat (Ty.dflt .str)))], [bx [.v (.int .i64) a0.1, .v .str a0.2.1, .v (.int .i64) a0.2.2.1, .v (.int .i64) a0.2.2.2.1, .v (.int .i64) a0.2.2.2.2.1, .v .bool a0.2.2.2.2.2.1, .v (.sl (.int .i64)) a0.2.2.2.2.2.2] 27, ar 0 .str ([(y3.getD a0.1.toNat (Ty.dflt .str))]) .dp]⟩,
    ⟨[(1, .lf (.ptr 0 0 0 0)), (3, .lf (.hd 1 0 none)), (35, .lf (.hd 2 0 none))], [bx [.v (.int .i64) a0.1, .v .str a0.2.1, .v (.int .i64) a0.2.2.1, .v (.int .i64) a0.2.2.2.1, .v (.int .i64) a0.2.2.2.2.1, .v .bool a0.2.2.2.2.2.1, .v (.sl (.int .i64)) a0.2.2.2.2.2.2] 27, ar 0 .str ([(y3.getD a0.1.toNat (Ty.dflt .str))]) .dp, ar 0 .str ([y53, (y54.getD a0.2.2.2.1.toNat (Ty.dflt .str))]) .dp]⟩,
    ⟨[(1, .lf (.ptr 0 0 0 0)), (3, .lf (.hd 1 0 none)), (26, .lf (.hd 1 0 none)), (35, .lf (.hd 2 0 none))], [bx [.v (.int .i64) a0.1, .v .str a0.2.1, .v (.int .i64) a0.2.2.1, .v (.int .i64) a0.2.2.2.1, .v (.int .i64) a0.2.2.2.2.1, .v .bool a0.2.2.2.2.2.1, .v (.sl (.int .i64)) a0.2.2.2.2.2.2] 27, ar 0 .str ([(y3.getD a0.1.toNat (Ty.dflt .str))]) .dp, ar 0 .str ([y53, (y54.getD a0.2.2.2.1.toNat (Ty.dflt .str))]) .dp]⟩,
    ⟨[(1, .lf (.ptr 0 0 0 0)), (3, .lf (.any)), (36, .lf (.hd 1 0 none))], [bx [.v (.int .i64) a0.1, .v .str a0.2.1, .v (.int .i64) a0.2.2.1, .v (.int .i64) a0.2.2.2.1, .v (.int .i64) a0.2.2.2.2.1, .v .bool a0.2.2.2.2.2.1, .v (.sl (.int .i64)) a0.2.2.2.2.2.2] 27, ar 0 .str (([(y3.getD a0.1.toNat (Ty.dflt .str))]) ++ ([y53, (y54.getD a0.2.2.2.1.toNat (Ty.dflt .str))])) .dp]⟩,
    ⟨[(1, .lf (.ptr 0 0 0 0)), (3, .lf (.hd 1 0 none))], [bx [.v (.int .i64) a0.1, .v .str a0.2.1, .v (.int .i64) a0.2.2.1, .v (.int .i64) a0.2.2.2.1, .v (.int .i64) a0.2.2.2.2.1, .v .bool a0.2.2.2.2.2.1, .v (.sl (.int .i64)) a0.2.2.2.2.2.2] 27, ar 0 .str (([(y3.getD a0.1.toNat (Ty.dflt .str))]) ++ ([y53, (y54.getD a0.2.2.2.1.toNat (Ty.dflt .str))])) .dp]⟩] [(0, 0, 1), (0, 1, 2), (0, 5, 3), (1, 1, 4), (1, 5, 5), (2, 0, 4), (2, 2, 6), (2, 5, 7), (3, 0, 5), (3, 1, 7), (3, 6, 8), (4, 2, 9), (4, 5, 10), (5, 1, 10), (5, 6, 11), (6, 0, 9), (6, 3, 12), (6, 5, 13), (7, 0, 10), (7, 2, 13), (7, 6, 14), (8, 0, 11), (8, 1, 14), (9, 3, 15), (9, 5, 16), (10, 2, 16), (10, 6, 17), (11, 1, 17), (12, 0, 15), (12, 4, 18), (12, 5, 19), (13, 0, 16), (13, 3, 19), (13, 6, 20), (14, 0, 17), (14, 2, 20), (15, 4, 21), (15, 5, 22), (16, 3, 22), (16, 6, 23), (17, 2, 23), (18, 0, 21), (18, 5, 24), (19, 0, 22), (19, 4, 24), (19, 6, 25), (20, 0, 23), (20, 3, 25), (21, 5, 26), (22, 4, 26), (22, 6, 27), (23, 3, 27), (24, 0, 26), (24, 6, 28), (25, 0, 27), (25, 4, 28), (26, 6, 29), (27, 4, 29), (28, 0, 29), (28, 7, 30), (29, 7, 31), (30, 0, 31), (30, 8, 32), (31, 8, 33), (32, 0, 33), (32, 9, 34), (33, 9, 35), (34, 0, 35), (35, 10, 36), (36, 11, 37)] 37 (s' := ⟨[(1, .lf (.ptr 0 0 0 0)), (3, .lf (.hd 1 0 none))], [bx [.v (.int .i64) a0.1, .v .str a0.2.1, .v (.int .i64) a0.2.2.1, .v (.int .i64) a0.2.2.2.1, .v (.int .i64) a0.2.2.2.2.1, .v .bool a0.2.2.2.2.2.1, .v (.sl (.int .i64)) a0.2.2.2.2.2.2] 27, ar 0 .str (([(y3.getD a0.1.toNat (Ty.dflt .str))]) ++ ([y53, (y54.getD a0.2.2.2.1.toNat (Ty.dflt .str))])) .dp]⟩) (by kernel_rfl) rfl rfl ⟨⟨_, _, _, rfl, rfl, rfl, VO.seg T_ok .dp 1 [1, 3, 26] [0, 1] (φ := True ∧ True) (by kernel_rfl) ⟨trivial, trivial⟩ (VI.fin rfl)⟩,
    ⟨_, _, _, rfl, rfl, rfl, VO.seg T_ok .dp 1 [1, 3, 27] [0, 1] (φ := True ∧ True) (by kernel_rfl) ⟨trivial, trivial⟩ (VI.fin rfl)⟩,
    ⟨_, _, _, rfl, rfl, rfl, VO.seg T_ok .dp 1 [1, 3, 31] [0, 1] (φ := True ∧ True) (by kernel_rfl) ⟨trivial, trivial⟩ (VI.fin rfl)⟩,
    ⟨_, _, _, rfl, rfl, rfl, VO.seg T_ok .dp 1 [1, 3, 26, 27] [0, 1] (φ := True ∧ True) (by kernel_rfl) ⟨trivial, trivial⟩ (VI.fin rfl)⟩,
    ⟨_, _, _, rfl, rfl, rfl, VO.seg T_ok .dp 1 [1, 3, 26, 31] [0, 1] (φ := True ∧ True) (by kernel_rfl) ⟨trivial, trivial⟩ (VI.fin rfl)⟩,
    ⟨_, _, _, rfl, rfl, rfl, VO.seg T_ok .dp 1 [1, 3, 26, 27] [0, 1] (φ := True ∧ True) (by kernel_rfl) ⟨trivial, trivial⟩ (VI.fin rfl)⟩,
    ⟨_, _, _, rfl, rfl, rfl, VO.seg T_ok .dp 1 [1, 3, 28] [0, 1] (φ := True ∧ True) (by kernel_rfl) ⟨trivial, trivial⟩ (VI.fin rfl)⟩,
    ⟨_, _, _, rfl, rfl, rfl, VO.seg T_ok .dp 1 [1, 3, 27, 31] [0, 1] (φ := True ∧ True) (by kernel_rfl) ⟨trivial, trivial⟩ (VI.fin rfl)⟩,
    ⟨_, _, _, rfl, rfl, rfl, VO.seg T_ok .dp 1 [1, 3, 26, 31] [0, 1] (φ := True ∧ True) (by kernel_rfl) ⟨trivial, trivial⟩ (VI.fin rfl)⟩,
    ⟨_, _, _, rfl, rfl, rfl, VO.seg T_ok .dp 1 [1, 3, 27, 31] [0, 1] (φ := True ∧ True) (by kernel_rfl) ⟨trivial, trivial⟩ (VI.fin rfl)⟩,
    ⟨_, _, _, rfl, rfl, rfl, VO.seg T_ok .dp 1 [1, 3, 32] [0, 1] (φ := True ∧ True) (by kernel_rfl) ⟨trivial, trivial⟩ (VI.fin rfl)⟩,
    ⟨_, _, _, rfl, rfl, rfl, VO.seg T_ok .dp 1 [1, 3, 26, 28] [0, 1] (φ := True ∧ True) (by kernel_rfl) ⟨trivial, trivial⟩ (VI.fin rfl)⟩,
    ⟨_, _, _, rfl, rfl, rfl, VO.seg T_ok .dp 1 [1, 3, 26, 27, 31] [0, 1] (φ := True ∧ True) (by kernel_rfl) ⟨trivial, trivial⟩ (VI.fin rfl)⟩,
    ⟨_, _, _, rfl, rfl, rfl, VO.seg T_ok .dp 1 [1, 3, 26, 27, 31] [0, 1] (φ := True ∧ True) (by kernel_rfl) ⟨trivial, trivial⟩ (VI.fin rfl)⟩,
    ⟨_, _, _, rfl, rfl, rfl, VO.seg T_ok .dp 1 [1, 3, 26, 32] [0, 1] (φ := True ∧ True) (by kernel_rfl) ⟨trivial, trivial⟩ (VI.fin rfl)⟩,
    ⟨_, _, _, rfl, rfl, rfl, VO.seg T_ok .dp 1 [1, 3, 26, 28] [0, 1] (φ := True ∧ True) (by kernel_rfl) ⟨trivial, trivial⟩ (VI.fin rfl)⟩,
    ⟨_, _, _, rfl, rfl, rfl, by
      refine VO.call false [.t (.int .i64)] [] T_ok (d := some 29) (by kernel_rfl) (ok33 N _ hy53) rfl ?_
      exact VO.ghl [.ren [1, 3, 29] [0, 1]] (VI.fin (by kernel_rfl))⟩,
    ⟨_, _, _, rfl, rfl, rfl, VO.seg T_ok .dp 1 [1, 3, 28, 31] [0, 1] (φ := True ∧ True) (by kernel_rfl) ⟨trivial, trivial⟩ (VI.fin rfl)⟩,
    ⟨_, _, _, rfl, rfl, rfl, VO.seg T_ok .dp 1 [1, 3, 26, 27, 31] [0, 1] (φ := True ∧ True) (by kernel_rfl) ⟨trivial, trivial⟩ (VI.fin rfl)⟩,
    ⟨_, _, _, rfl, rfl, rfl, VO.seg T_ok .dp 1 [1, 3, 28, 31] [0, 1] (φ := True ∧ True) (by kernel_rfl) ⟨trivial, trivial⟩ (VI.fin rfl)⟩,
    ⟨_, _, _, rfl, rfl, rfl, VO.seg T_ok .dp 1 [1, 3, 27, 32] [0, 1] (φ := True ∧ True) (by kernel_rfl) ⟨trivial, trivial⟩ (VI.fin rfl)⟩,
    ⟨_, _, _, rfl, rfl, rfl, VO.seg T_ok .dp 1 [1, 3, 26, 32] [0, 1] (φ := True ∧ True) (by kernel_rfl) ⟨trivial, trivial⟩ (VI.fin rfl)⟩,
    ⟨_, _, _, rfl, rfl, rfl, VO.seg T_ok .dp 1 [1, 3, 27, 32] [0, 1] (φ := True ∧ True) (by kernel_rfl) ⟨trivial, trivial⟩ (VI.fin rfl)⟩,
    ⟨_, _, _, rfl, rfl, rfl, by
      refine VO.call false [.t (.int .i64)] [] T_ok (d := some 29) (by kernel_rfl) (ok33 N _ hy53) rfl ?_
      exact VO.ghl [.ren [1, 3, 26, 29] [0, 1]] (VI.fin (by kernel_rfl))⟩,
    ⟨_, _, _, rfl, rfl, rfl, VO.seg T_ok .dp 1 [1, 3, 26, 28, 31] [0, 1] (φ := True ∧ True) (by kernel_rfl) ⟨trivial, trivial⟩ (VI.fin rfl)⟩,
    ⟨_, _, _, rfl, rfl, rfl, VO.seg T_ok .dp 1 [1, 3, 26, 28, 31] [0, 1] (φ := True ∧ True) (by kernel_rfl) ⟨trivial, trivial⟩ (VI.fin rfl)⟩,
    ⟨_, _, _, rfl, rfl, rfl, VO.seg T_ok .dp 1 [1, 3, 26, 27, 32] [0, 1] (φ := True ∧ True) (by kernel_rfl) ⟨trivial, trivial⟩ (VI.fin rfl)⟩,
    ⟨_, _, _, rfl, rfl, rfl, VO.seg T_ok .dp 1 [1, 3, 26, 27, 32] [0, 1] (φ := True ∧ True) (by kernel_rfl) ⟨trivial, trivial⟩ (VI.fin rfl)⟩,
    ⟨_, _, _, rfl, rfl, rfl, VO.seg T_ok .dp 1 [1, 3, 26, 29] [0, 1] (φ := True ∧ True) (by kernel_rfl) ⟨trivial, trivial⟩ (VI.fin rfl)⟩,
    ⟨_, _, _, rfl, rfl, rfl, by
      refine VO.call false [] [] T_ok (d := some 30) (by kernel_rfl) (ok34 N  hy54) rfl ?_
      exact VO.ghl [.ren [1, 3, 29, 30] [0, 1, 2]] (VI.fin (by kernel_rfl))⟩,
    ⟨_, _, _, rfl, rfl, rfl, VO.seg T_ok .dp 1 [1, 3, 29, 31] [0, 1] (φ := True ∧ True) (by kernel_rfl) ⟨trivial, trivial⟩ (VI.fin rfl)⟩,
    ⟨_, _, _, rfl, rfl, rfl, VO.seg T_ok .dp 1 [1, 3, 26, 28, 31] [0, 1] (φ := True ∧ True) (by kernel_rfl) ⟨trivial, trivial⟩ (VI.fin rfl)⟩,
    ⟨_, _, _, rfl, rfl, rfl, by
      refine VO.call false [.t (.int .i64)] [] T_ok (d := some 29) (by kernel_rfl) (ok33 N _ hy53) rfl ?_
      exact VO.ghl [.ren [1, 3, 29, 31] [0, 1]] (VI.fin (by kernel_rfl))⟩,
    ⟨_, _, _, rfl, rfl, rfl, VO.seg T_ok .dp 1 [1, 3, 28, 32] [0, 1] (φ := True ∧ True) (by kernel_rfl) ⟨trivial, trivial⟩ (VI.fin rfl)⟩,
    ⟨_, _, _, rfl, rfl, rfl, VO.seg T_ok .dp 1 [1, 3, 26, 27, 32] [0, 1] (φ := True ∧ True) (by kernel_rfl) ⟨trivial, trivial⟩ (VI.fin rfl)⟩,
    ⟨_, _, _, rfl, rfl, rfl, VO.seg T_ok .dp 1 [1, 3, 28, 32] [0, 1] (φ := True ∧ True) (by kernel_rfl) ⟨trivial, trivial⟩ (VI.fin rfl)⟩,
    ⟨_, _, _, rfl, rfl, rfl, by
      refine VO.call false [] [] T_ok (d := some 30) (by kernel_rfl) (ok34 N  hy54) rfl ?_
      exact VO.ghl [.ren [1, 3, 26, 29, 30] [0, 1, 2]] (VI.fin (by kernel_rfl))⟩,
    ⟨_, _, _, rfl, rfl, rfl, VO.seg T_ok .dp 1 [1, 3, 26, 29, 31] [0, 1] (φ := True ∧ True) (by kernel_rfl) ⟨trivial, trivial⟩ (VI.fin rfl)⟩,
    ⟨_, _, _, rfl, rfl, rfl, by
      refine VO.call false [.t (.int .i64)] [] T_ok (d := some 29) (by kernel_rfl) (ok33 N _ hy53) rfl ?_
      exact VO.ghl [.ren [1, 3, 26, 29, 31] [0, 1]] (VI.fin (by kernel_rfl))⟩,
    ⟨_, _, _, rfl, rfl, rfl, VO.seg T_ok .dp 1 [1, 3, 26, 28, 32] [0, 1] (φ := True ∧ True) (by kernel_rfl) ⟨trivial, trivial⟩ (VI.fin rfl)⟩,
    ⟨_, _, _, rfl, rfl, rfl, VO.seg T_ok .dp 1 [1, 3, 26, 28, 32] [0, 1] (φ := True ∧ True) (by kernel_rfl) ⟨trivial, trivial⟩ (VI.fin rfl)⟩,
    ⟨_, _, _, rfl, rfl, rfl, VO.seg T_ok .dp 1 [1, 3, 26, 29, 30] [0, 1, 2] (φ := True ∧ True) (by kernel_rfl) ⟨trivial, trivial⟩ (VI.fin rfl)⟩,
    ⟨_, _, _, rfl, rfl, rfl, VO.seg T_ok .dp 1 [1, 3, 29, 30, 31] [0, 1, 2] (φ := True ∧ True) (by kernel_rfl) ⟨trivial, trivial⟩ (VI.fin rfl)⟩,
    ⟨_, _, _, rfl, rfl, rfl, VO.seg T_ok .dp 1 [1, 3, 26, 29, 31] [0, 1] (φ := True ∧ True) (by kernel_rfl) ⟨trivial, trivial⟩ (VI.fin rfl)⟩,
    ⟨_, _, _, rfl, rfl, rfl, by
      refine VO.call false [] [] T_ok (d := some 30) (by kernel_rfl) (ok34 N  hy54) rfl ?_
      exact VO.ghl [.ren [1, 3, 29, 30, 31] [0, 1, 2]] (VI.fin (by kernel_rfl))⟩,
    ⟨_, _, _, rfl, rfl, rfl, VO.seg T_ok .dp 1 [1, 3, 29, 32] [0, 1] (φ := True ∧ True) (by kernel_rfl) ⟨trivial, trivial⟩ (VI.fin rfl)⟩,
    ⟨_, _, _, rfl, rfl, rfl, VO.seg T_ok .dp 1 [1, 3, 26, 28, 32] [0, 1] (φ := True ∧ True) (by kernel_rfl) ⟨trivial, trivial⟩ (VI.fin rfl)⟩,
    ⟨_, _, _, rfl, rfl, rfl, by
      refine VO.call false [.t (.int .i64)] [] T_ok (d := some 29) (by kernel_rfl) (ok33 N _ hy53) rfl ?_
      exact VO.ghl [.ren [1, 3, 29, 32] [0, 1]] (VI.fin (by kernel_rfl))⟩,
    ⟨_, _, _, rfl, rfl, rfl, VO.seg T_ok .dp 1 [1, 3, 26, 29, 30, 31] [0, 1, 2] (φ := True ∧ True) (by kernel_rfl) ⟨trivial, trivial⟩ (VI.fin rfl)⟩,
    ⟨_, _, _, rfl, rfl, rfl, by
      refine VO.call false [] [] T_ok (d := some 30) (by kernel_rfl) (ok34 N  hy54) rfl ?_
      exact VO.ghl [.ren [1, 3, 26, 29, 30, 31] [0, 1, 2]] (VI.fin (by kernel_rfl))⟩,
    ⟨_, _, _, rfl, rfl, rfl, VO.seg T_ok .dp 1 [1, 3, 26, 29, 32] [0, 1] (φ := True ∧ True) (by kernel_rfl) ⟨trivial, trivial⟩ (VI.fin rfl)⟩,
    ⟨_, _, _, rfl, rfl, rfl, by
      refine VO.call false [.t (.int .i64)] [] T_ok (d := some 29) (by kernel_rfl) (ok33 N _ hy53) rfl ?_
      exact VO.ghl [.ren [1, 3, 26, 29, 32] [0, 1]] (VI.fin (by kernel_rfl))⟩,
    ⟨_, _, _, rfl, rfl, rfl, VO.seg T_ok .dp 1 [1, 3, 26, 29, 30, 31] [0, 1, 2] (φ := True ∧ True) (by kernel_rfl) ⟨trivial, trivial⟩ (VI.fin rfl)⟩,
    ⟨_, _, _, rfl, rfl, rfl, VO.seg T_ok .dp 1 [1, 3, 29, 30, 32] [0, 1, 2] (φ := True ∧ True) (by kernel_rfl) ⟨trivial, trivial⟩ (VI.fin rfl)⟩,
    ⟨_, _, _, rfl, rfl, rfl, VO.seg T_ok .dp 1 [1, 3, 26, 29, 32] [0, 1] (φ := True ∧ True) (by kernel_rfl) ⟨trivial, trivial⟩ (VI.fin rfl)⟩,
    ⟨_, _, _, rfl, rfl, rfl, by
      refine VO.call false [] [] T_ok (d := some 30) (by kernel_rfl) (ok34 N  hy54) rfl ?_
      exact VO.ghl [.ren [1, 3, 29, 30, 32] [0, 1, 2]] (VI.fin (by kernel_rfl))⟩,
    ⟨_, _, _, rfl, rfl, rfl, VO.seg T_ok .dp 1 [1, 3, 26, 29, 30, 32] [0, 1, 2] (φ := True ∧ True) (by kernel_rfl) ⟨trivial, trivial⟩ (VI.fin rfl)⟩,
    ⟨_, _, _, rfl, rfl, rfl, by
      refine VO.call false [] [] T_ok (d := some 30) (by kernel_rfl) (ok34 N  hy54) rfl ?_
      exact VO.ghl [.ren [1, 3, 26, 29, 30, 32] [0, 1, 2]] (VI.fin (by kernel_rfl))⟩,
    ⟨_, _, _, rfl, rfl, rfl, VO.seg T_ok .dp 1 [1, 3, 26, 29, 30, 32] [0, 1, 2] (φ := True ∧ True) (by kernel_rfl) ⟨trivial, trivial⟩ (VI.fin rfl)⟩,
    ⟨_, _, _, rfl, rfl, rfl, VO.seg T_ok .dp 1 [1, 3, 29, 33] [0, 1, 2] (φ := (InR a0.2.2.2.1 y54.length) ∧ True) (by kernel_rfl) ⟨g55, trivial⟩ (VI.fin rfl)⟩,
    ⟨_, _, _, rfl, rfl, rfl, VO.seg T_ok .dp 1 [1, 3, 26, 29, 33] [0, 1, 2] (φ := (InR a0.2.2.2.1 y54.length) ∧ True) (by kernel_rfl) ⟨g55, trivial⟩ (VI.fin rfl)⟩,
    ⟨_, _, _, rfl, rfl, rfl, VO.seg T_ok .dp 1 [1, 3, 26, 29, 33] [0, 1, 2] (φ := True ∧ True) (by kernel_rfl) ⟨trivial, trivial⟩ (VI.fin rfl)⟩,
    ⟨_, _, _, rfl, rfl, rfl, VO.seg T_ok .dp 1 [1, 3, 29, 34] [0, 1] (φ := (a0.2.2.2.1.toNat < y54.length) ∧ True) (by kernel_rfl) ⟨g56, trivial⟩ (VI.fin rfl)⟩,
    ⟨_, _, _, rfl, rfl, rfl, VO.seg T_ok .dp 1 [1, 3, 26, 29, 34] [0, 1] (φ := (a0.2.2.2.1.toNat < y54.length) ∧ True) (by kernel_rfl) ⟨g56, trivial⟩ (VI.fin rfl)⟩,
    ⟨_, _, _, rfl, rfl, rfl, VO.seg T_ok .dp 1 [1, 3, 26, 29, 34] [0, 1] (φ := True ∧ True) (by kernel_rfl) ⟨trivial, trivial⟩ (VI.fin rfl)⟩,
    ⟨_, _, _, rfl, rfl, rfl, VO.seg T_ok .dp 1 [1, 3, 35] [0, 1, 2] (φ := True ∧ True) (by kernel_rfl) ⟨trivial, trivial⟩ (VI.fin rfl)⟩,
    ⟨_, _, _, rfl, rfl, rfl, VO.seg T_ok .dp 1 [1, 3, 26, 35] [0, 1, 2] (φ := True ∧ True) (by kernel_rfl) ⟨trivial, trivial⟩ (VI.fin rfl)⟩,
    ⟨_, _, _, rfl, rfl, rfl, VO.seg T_ok .dp 1 [1, 3, 26, 35] [0, 1, 2] (φ := True ∧ True) (by kernel_rfl) ⟨trivial, trivial⟩ (VI.fin rfl)⟩,
    ⟨_, _, _, rfl, rfl, rfl, VO.seg T_ok .dp 1 [1, 3, 36] [0, 1] (φ := (([(y3.getD a0.1.toNat (Ty.dflt .str))]).length + ([y53, (y54.getD a0.2.2.2.1.toNat (Ty.dflt .str))]).length ≤ lim .str) ∧ True) (by kernel_rfl) ⟨g57, trivial⟩ (VI.fin rfl)⟩,
    ⟨_, _, _, rfl, rfl, rfl, VO.seg T_ok .dp 1 [1, 3] [0, 1] (φ := True ∧ True) (by kernel_rfl) ⟨trivial, trivial⟩ (VI.fin rfl)⟩, trivial⟩ ?_
      refine sR T_ok [1, 3, 39] [0, 1] ⟨[(1, .lf (.ptr 0 0 0 0)), (3, .lf (.hd 1 0 none)), (39, B (a0.2.2.2.1 != (3 : Int)))], [bx [.v (.int .i64) a0.1, .v .str a0.2.1, .v (.int .i64) a0.2.2.1, .v (.int .i64) a0.2.2.2.1, .v (.int .i64) a0.2.2.2.2.1, .v .bool a0.2.2.2.2.2.1, .v (.sl (.int .i64)) a0.2.2.2.2.2.2] 27, ar 0 .str (([(y3.getD a0.1.toNat (Ty.dflt .str))]) ++ ([y53, (y54.getD a0.2.2.2.1.toNat (Ty.dflt .str))])) .dp]⟩ (tn 3) ?_
      refine cnd h (fun h => ?_) (fun h => ?_)
      · refine VW.region ?_
        refine sG T_ok 2 [40, 41] [1] ⟨[(40, .lf (.hd 0 0 none)), (41, .agg [.v (.int .i64) a0.1, .v .str a0.2.1, .v (.int .i64) a0.2.2.1, .v (.int .i64) a0.2.2.2.1, .v (.int .i64) a0.2.2.2.2.1, .v .bool a0.2.2.2.2.2.1, .v (.sl (.int .i64)) a0.2.2.2.2.2.2])], [ar 0 .str (([(y3.getD a0.1.toNat (Ty.dflt .str))]) ++ ([y53, (y54.getD a0.2.2.2.1.toNat (Ty.dflt .str))])) .dp]⟩ (tn 2) ?_
        obtain ⟨y58, hy, h⟩ := andO_some h
        refine cal false [.t Y23] [] (some 42) T_ok (ok35 N _ hy) ?_
        obtain ⟨g59, h⟩ := gd_some h
        refine sN T_ok [3] [0] ⟨[(3, .lf (.hd 0 0 none))], [ar 0 .str ((([(y3.getD a0.1.toNat (Ty.dflt .str))]) ++ ([y53, (y54.getD a0.2.2.2.1.toNat (Ty.dflt .str))])) ++ ([y58])) .dp]⟩ (pu 1 (an g59 (tn 1))) ?_
        exact arv [.ren [3] [0]] ⟨((([(y3.getD a0.1.toNat (Ty.dflt .str))]) ++ ([y53, (y54.getD a0.2.2.2.1.toNat (Ty.dflt .str))])) ++ ([y58])), rfl, h⟩
      refine VW.skip ?_
      exact arv [.ren [3] [1]] ⟨(([(y3.getD a0.1.toNat (Ty.dflt .str))]) ++ ([y53, (y54.getD a0.2.2.2.1.toNat (Ty.dflt .str))])), rfl, h⟩
    refine sR T_ok [1, 3, 16, 45] [0, 1] ⟨[(1, .lf (.ptr 0 0 0 0)), (3, .lf (.hd 1 0 none)), (16, I a0.1), (45, B (a0.1 == (2 : Int)))], [bx [.v (.int .i64) a0.1, .v .str a0.2.1, .v (.int .i64) a0.2.2.1, .v (.int .i64) a0.2.2.2.1, .v (.int .i64) a0.2.2.2.2.1, .v .bool a0.2.2.2.2.2.1, .v (.sl (.int .i64)) a0.2.2.2.2.2.2] 27, ar 0 .str ([(y3.getD a0.1.toNat (Ty.dflt .str))]) .dp]⟩ (tn 2) ?_
    refine cnd h (fun h => ?_) (fun h => ?_)
    · refine VW.seq ?_
      refine VW.region ?_
      refine sG T_ok 4 [1, 47, 50] [0, 1] ⟨[(1, .lf (.ptr 0 0 0 0)), (47, .lf (.hd 1 0 none)), (50, I (a0.2.2.2.2.2.2.length : Int))], [bx [.v (.int .i64) a0.1, .v .str a0.2.1, .v (.int .i64) a0.2.2.1, .v (.int .i64) a0.2.2.2.1, .v (.int .i64) a0.2.2.2.2.1, .v .bool a0.2.2.2.2.2.1, .v (.sl (.int .i64)) a0.2.2.2.2.2.2] 27, ar 0 .str ([(y3.getD a0.1.toNat (Ty.dflt .str))]) .dp]⟩ (tn 4) ?_
      obtain ⟨y60, hy, h⟩ := andO_some h
      refine cal false [.t (.int .i64)] [] (some 51) T_ok (ok33 N _ hy) ?_
      obtain ⟨g61, h⟩ := gd_some h
      refine sN T_ok [1, 3] [0, 1] ⟨[(1, .lf (.ptr 0 0 0 0)), (3, .lf (.hd 1 0 none))], [bx [.v (.int .i64) a0.1, .v .str a0.2.1, .v (.int .i64) a0.2.2.1, .v (.int .i64) a0.2.2.2.1, .v (.int .i64) a0.2.2.2.2.1, .v .bool a0.2.2.2.2.2.1, .v (.sl (.int .i64)) a0.2.2.2.2.2.2] 27, ar 0 .str (([(y3.getD a0.1.toNat (Ty.dflt .str))]) ++ ([y60])) .dp]⟩ (pu 1 (an g61 (tn 1))) ?_
      refine sR T_ok [3, 55, 56, 57] [1] ⟨[(3, .lf (.hd 0 0 none)), (55, .lf (.v (.sl (.int .i64)) a0.2.2.2.2.2.2)), (56, I (a0.2.2.2.2.2.2.length : Int)), (57, I (0 : Int))], [ar 0 .str (([(y3.getD a0.1.toNat (Ty.dflt .str))]) ++ ([y60])) .dp]⟩ (tn 4) ?_
      refine VW.block ?_
      refine lop (fun k s => ∃ (x71 : (List ByteArray)) (x72 : (List Int)) (x73 : Int) (x74 : Int), s = ⟨[(3, .lf (.hd 0 0 none)), (55, .lf (.v (.sl (.int .i64)) x72)), (56, I x73), (57, I x74)], [ar 0 .str x71 .dp]⟩ ∧ F10_l0 N k x71 x72 x73 x74 = some r) N [.ren [3, 55, 56, 57] [0]] ⟨(([(y3.getD a0.1.toNat (Ty.dflt .str))]) ++ ([y60])), a0.2.2.2.2.2.2, (a0.2.2.2.2.2.2.length : Int), (0 : Int), rfl, h⟩ ?_
      rintro k81 s ⟨x71, x72, x73, x74, rfl, h⟩
      cases k81 with
      | zero => cases show none = some r from h
      | succ k81 =>
        replace h : F10_l0_b N (F10_l0 N k81) x71 x72 x73 x74 = some r := h
        unfold F10_l0_b at h
        refine sR T_ok [3, 55, 56, 57, 58] [0] ⟨[(3, .lf (.hd 0 0 none)), (55, .lf (.v (.sl (.int .i64)) x72)), (56, I x73), (57, I x74), (58, B (decide (x74 < x73)))], [ar 0 .str x71 .dp]⟩ (tn 1) ?_
        refine VW.seq ?_
        refine cnd h (fun h => ?_) (fun h => ?_)
        · refine VW.skip ?_
          refine VW.seq ?_
          refine VW.block ?_
          obtain ⟨g85, h⟩ := gd_some h
          refine sR T_ok [3, 5, 55, 56, 57] [0] ⟨[(3, .lf (.hd 0 0 none)), (5, I (x72.getD x74.toNat (Ty.dflt (.int .i64)))), (55, .lf (.v (.sl (.int .i64)) x72)), (56, I x73), (57, I x74)], [ar 0 .str x71 .dp]⟩ (an g85 (tn 2)) ?_
          refine VW.region ?_
          refine sG T_ok 2 [55, 56, 57, 61, 62] [0] ⟨[(55, .lf (.v (.sl (.int .i64)) x72)), (56, I x73), (57, I x74), (61, .lf (.hd 0 0 none)), (62, I (x72.getD x74.toNat (Ty.dflt (.int .i64))))], [ar 0 .str x71 .dp]⟩ (tn 2) ?_
          obtain ⟨y86, hy, h⟩ := andO_some h
          refine cal false [.t (.int .i64)] [] (some 63) T_ok (ok33 N _ hy) ?_
          obtain ⟨g87, h⟩ := gd_some h
          refine sN T_ok [3, 55, 56, 57] [0] ⟨[(3, .lf (.hd 0 0 none)), (55, .lf (.v (.sl (.int .i64)) x72)), (56, I x73), (57, I x74)], [ar 0 .str (x71 ++ ([y86])) .dp]⟩ (pu 1 (an g87 (tn 1))) ?_
          refine rR T_ok [3, 55, 56, 57] [0] ⟨[(3, .lf (.hd 0 0 none)), (55, .lf (.v (.sl (.int .i64)) x72)), (56, I x73), (57, I (IntKind.i64.wrap (x74 + (1 : Int))))], [ar 0 .str (x71 ++ ([y86])) .dp]⟩ (tn 2) ?_
          exact aro [.ren [3, 55, 56, 57] [0]] ⟨(x71 ++ ([y86])), x72, x73, (IntKind.i64.wrap (x74 + (1 : Int))), rfl, h⟩
        refine VW.exit ?_
        exact arv [.ren [3] [0]] ⟨x71, rfl, h⟩
    refine sR T_ok [1, 3, 16, 67] [0, 1] ⟨[(1, .lf (.ptr 0 0 0 0)), (3, .lf (.hd 1 0 none)), (16, I a0.1), (67, B (a0.1 == (3 : Int)))], [bx [.v (.int .i64) a0.1, .v .str a0.2.1, .v (.int .i64) a0.2.2.1, .v (.int .i64) a0.2.2.2.1, .v (.int .i64) a0.2.2.2.2.1, .v .bool a0.2.2.2.2.2.1, .v (.sl (.int .i64)) a0.2.2.2.2.2.2] 27, ar 0 .str ([(y3.getD a0.1.toNat (Ty.dflt .str))]) .dp]⟩ (tn 2) ?_
    refine cnd h (fun h => ?_) (fun h => ?_)
    · obtain ⟨y88, hy88, h⟩ := andO_some h
      obtain ⟨y89, hy89, h⟩ := andO_some h
      obtain ⟨g90, h⟩ := gd_some h
      refine VW.drawn (by kernel_rfl) [some (69, .lf (.hd 1 0 none)), some (70, .lf (.ptr 0 0 0 2)), some (71, I a0.2.2.1), some (72, S y88), some (73, .lf (.ptr 0 0 0 4)), some (74, I a0.2.2.2.2.1), some (75, S y89), some (76, .lf (.hd 2 0 none)), some (77, .lf (.hd 1 1 none)), some (3, .lf (.hd 1 1 none))] [7, 8] [[bx [.v (.int .i64) a0.1, .v .str a0.2.1, .v (.int .i64) a0.2.2.1, .v (.int .i64) a0.2.2.2.1, .v (.int .i64) a0.2.2.2.2.1, .v .bool a0.2.2.2.2.2.1, .v (.sl (.int .i64)) a0.2.2.2.2.2.2] 27, ar 0 .str ([(y3.getD a0.1.toNat (Ty.dflt .str))]) .dp], [bx [.v (.int .i64) a0.1, .v .str a0.2.1, .v (.int .i64) a0.2.2.1, .v (.int .i64) a0.2.2.2.1, .v (.int .i64) a0.2.2.2.2.1, .v .bool a0.2.2.2.2.2.1, .v (.sl (.int .i64)) a0.2.2.2.2.2.2] 27, ar 0 .str ([(y3.getD a0.1.toNat (Ty.dflt .str))]) .dp, ar 0 .str ([y88, y89]) .dp], [bx [.v (.int .i64) a0.1, .v .str a0.2.1, .v (.int .i64) a0.2.2.1, .v (.int .i64) a0.2.2.2.1, .v (.int .i64) a0.2.2.2.2.1, .v .bool a0.2.2.2.2.2.1, .v (.sl (.int .i64)) a0.2.2.2.2.2.2] 27, ar 1 .str (([(y3.getD a0.1.toNat (Ty.dflt .str))]) ++ ([y88, y89])) .dp, ar 0 .str ([y88, y89]) .dp]] [(0, 0), (0, 1), (1, 0), (1, 1), (1, 2), (2, 0), (2, 1), (2, 2), (3, 0), (4, 0), (4, 1), (4, 2), (5, 0), (5, 1), (5, 2), (6, 0), (7, 0), (8, 1), (9, 2)] [3] [1] (s' := ⟨[(3, .lf (.hd 0 0 none))], [ar 0 .str (([(y3.getD a0.1.toNat (Ty.dflt .str))]) ++ ([y88, y89])) .dp]⟩) (by kernel_rfl) (by kernel_rfl) ⟨⟨_, rfl, Stp.ev T_ok (m := .dp) (φ := True) (by kernel_rfl) trivial⟩,
    ⟨_, rfl, Stp.ev T_ok (m := .dp) (φ := True) (by kernel_rfl) trivial⟩,
    ⟨_, rfl, Stp.ev T_ok (m := .dp) (φ := True) (by kernel_rfl) trivial⟩,
    ⟨_, rfl, Stp.ev T_ok (m := .dp) (φ := True) (by kernel_rfl) trivial⟩,
    ⟨_, rfl, Stp.ev T_ok (m := .dp) (φ := True) (by kernel_rfl) trivial⟩,
    ⟨_, rfl, Stp.ev T_ok (m := .dp) (φ := True) (by kernel_rfl) trivial⟩,
    ⟨_, rfl, Stp.ev T_ok (m := .dp) (φ := True) (by kernel_rfl) trivial⟩,
    ⟨_, rfl, Stp.ev T_ok (m := .dp) (φ := True) (by kernel_rfl) trivial⟩,
    ⟨_, rfl, Stp.eq (Stp.call false [.t (.int .i64)] [] T_ok (d := some 72) (by kernel_rfl) (ok33 N _ hy88) rfl) (by kernel_rfl) (by kernel_rfl)⟩,
    ⟨_, rfl, Stp.ev T_ok (m := .dp) (φ := True) (by kernel_rfl) trivial⟩,
    ⟨_, rfl, Stp.ev T_ok (m := .dp) (φ := True) (by kernel_rfl) trivial⟩,
    ⟨_, rfl, Stp.ev T_ok (m := .dp) (φ := True) (by kernel_rfl) trivial⟩,
    ⟨_, rfl, Stp.ev T_ok (m := .dp) (φ := True) (by kernel_rfl) trivial⟩,
    ⟨_, rfl, Stp.ev T_ok (m := .dp) (φ := True) (by kernel_rfl) trivial⟩,
    ⟨_, rfl, Stp.ev T_ok (m := .dp) (φ := True) (by kernel_rfl) trivial⟩,
    ⟨_, rfl, Stp.eq (Stp.call false [.t (.int .i64)] [] T_ok (d := some 75) (by kernel_rfl) (ok33 N _ hy89) rfl) (by kernel_rfl) (by kernel_rfl)⟩,
    ⟨_, rfl, Stp.ev T_ok (m := .dp) (φ := True) (by kernel_rfl) trivial⟩,
    ⟨_, rfl, Stp.ev T_ok (m := .dp) (φ := ([(y3.getD a0.1.toNat (Ty.dflt .str))]).length + ([y88, y89]).length ≤ lim .str) (by kernel_rfl) g90⟩,
    ⟨_, rfl, Stp.ev T_ok (m := .dp) (φ := True) (by kernel_rfl) trivial⟩, trivial⟩ (by kernel_rfl) ?_
      exact arv [.ren [3] [0]] ⟨(([(y3.getD a0.1.toNat (Ty.dflt .str))]) ++ ([y88, y89])), rfl, h⟩
    refine sR T_ok [1, 3, 16, 78] [0, 1] ⟨[(1, .lf (.ptr 0 0 0 0)), (3, .lf (.hd 1 0 none)), (16, I a0.1), (78, B (a0.1 == (5 : Int)))], [bx [.v (.int .i64) a0.1, .v .str a0.2.1, .v (.int .i64) a0.2.2.1, .v (.int .i64) a0.2.2.2.1, .v (.int .i64) a0.2.2.2.2.1, .v .bool a0.2.2.2.2.2.1, .v (.sl (.int .i64)) a0.2.2.2.2.2.2] 27, ar 0 .str ([(y3.getD a0.1.toNat (Ty.dflt .str))]) .dp]⟩ (tn 2) ?_
    refine cnd h (fun h => ?_) (fun h => ?_)
    · refine VW.region ?_
      refine sG T_ok 3 [80, 82] [1] ⟨[(80, .lf (.hd 0 0 none)), (82, I a0.2.2.1)], [ar 0 .str ([(y3.getD a0.1.toNat (Ty.dflt .str))]) .dp]⟩ (tn 3) ?_
      obtain ⟨y91, hy, h⟩ := andO_some h
      refine cal false [.t (.int .i64)] [] (some 83) T_ok (ok33 N _ hy) ?_
      obtain ⟨g92, h⟩ := gd_some h
      refine sN T_ok [3] [0] ⟨[(3, .lf (.hd 0 0 none))], [ar 0 .str (([(y3.getD a0.1.toNat (Ty.dflt .str))]) ++ ([y91])) .dp]⟩ (pu 1 (an g92 (tn 1))) ?_
      exact arv [.ren [3] [0]] ⟨(([(y3.getD a0.1.toNat (Ty.dflt .str))]) ++ ([y91])), rfl, h⟩
    refine sR T_ok [1, 3, 86] [0, 1] ⟨[(1, .lf (.ptr 0 0 0 0)), (3, .lf (.hd 1 0 none)), (86, B (a0.1 == (6 : Int)))], [bx [.v (.int .i64) a0.1, .v .str a0.2.1, .v (.int .i64) a0.2.2.1, .v (.int .i64) a0.2.2.2.1, .v (.int .i64) a0.2.2.2.2.1, .v .bool a0.2.2.2.2.2.1, .v (.sl (.int .i64)) a0.2.2.2.2.2.2] 27, ar 0 .str ([(y3.getD a0.1.toNat (Ty.dflt .str))]) .dp]⟩ (tn 2) ?_
    refine cnd h (fun h => ?_) (fun h => ?_)
    · refine VW.region ?_
      refine sG T_ok 2 [88, 89] [1] ⟨[(88, .lf (.hd 0 0 none)), (89, .agg [.v (.int .i64) a0.1, .v .str a0.2.1, .v (.int .i64) a0.2.2.1, .v (.int .i64) a0.2.2.2.1, .v (.int .i64) a0.2.2.2.2.1, .v .bool a0.2.2.2.2.2.1, .v (.sl (.int .i64)) a0.2.2.2.2.2.2])], [ar 0 .str ([(y3.getD a0.1.toNat (Ty.dflt .str))]) .dp]⟩ (tn 2) ?_
      obtain ⟨y93, hy, h⟩ := andO_some h
      refine cal false [.t Y23] [] (some 90) T_ok (ok35 N _ hy) ?_
      obtain ⟨g94, h⟩ := gd_some h
      refine sN T_ok [3] [0] ⟨[(3, .lf (.hd 0 0 none))], [ar 0 .str (([(y3.getD a0.1.toNat (Ty.dflt .str))]) ++ ([y93])) .dp]⟩ (pu 1 (an g94 (tn 1))) ?_
      exact arv [.ren [3] [0]] ⟨(([(y3.getD a0.1.toNat (Ty.dflt .str))]) ++ ([y93])), rfl, h⟩
    refine VW.skip ?_
    exact arv [.ren [3] [1]] ⟨[(y3.getD a0.1.toNat (Ty.dflt .str))], rfl, h⟩
  rintro s ⟨x49, rfl, h⟩
  unfold F10_j0 at h
  refine VW.seq ?_
  refine VW.region ?_
  refine sG T_ok 1 [93] [0] ⟨[(93, .lf (.hd 0 0 none))], [ar 0 .str x49 .dp]⟩ (tn 1) ?_
  obtain ⟨y50, hy, h⟩ := andO_some h
  refine cal true [.t (.sl .str)] [] (some 94) T_ok (ok36 N _ hy) ?_
  refine sN T_ok [2] [] ⟨[(2, S y50)], []⟩ (tn 1) ?_
  refine VW.ret ?_
  replace h := Option.some.inj h
  subst h
  exact rt []

/- loop.example/g00844/laws.eqIntS -/
def F37_j0 (N : Nat) : Option (Bool) :=
  some true
def F37_l0_b (N : Nat) (a0 : (List Int)) (a1 : (List Int)) (nx25 : Int → Option (Bool)) (x20 : Int) : Option (Bool) :=
  cond (decide (x20 < (a0.length : Int))) (gd (InR x20 a0.length) (gd (InR x20 a1.length) (cond ((a0.getD x20.toNat (Ty.dflt (.int .i64))) != (a1.getD x20.toNat (Ty.dflt (.int .i64)))) (some false) (nx25 (IntKind.i64.wrap (x20 + (1 : Int))))))) (F37_j0 N)
def F37_l0 (N : Nat) (a0 : (List Int)) (a1 : (List Int)) : Nat → Int → Option (Bool) := loopF (F37_l0_b N a0 a1) (fun _ => none)
theorem F37_l0_s (N : Nat) (a0 : (List Int)) (a1 : (List Int)) {k : Nat} (hk : 0 < k) (x20 : Int) : F37_l0 N a0 a1 k x20 = F37_l0_b N a0 a1 (F37_l0 N a0 a1 (k - 1)) x20 := by
  cases k with
  | zero => exact absurd hk (Nat.lt_irrefl 0)
  | succ m => rfl
def F37 (N : Nat) (a0 : (List Int)) (a1 : (List Int)) : Option (Bool) :=
  cond ((a0.length : Int) != (a1.length : Int)) (some false) (F37_l0 N a0 a1 N (0 : Int))
theorem ok37 (N : Nat) (a0 : (List Int)) (a1 : (List Int)) {r : Bool} (h : F37 N a0 a1 = some r) : Con Go.Proofs.Tryd.prog 37 [.lf (.v (.sl (.int .i64)) a0), .lf (.v (.sl (.int .i64)) a1)] [.lf (.v .bool r)] := by
  refine ctr [.lf (.v .bool)] T_ok Go.Proofs.Tryd.func37 rfl fun w0 E0 ht => ?_
  unfold F37 at h
  show VW _ _ _ _ _ (retQ _ _ _ _) _
  refine sR T_ok [0, 1] [] ⟨[(0, .lf (.v (.sl (.int .i64)) a0)), (1, .lf (.v (.sl (.int .i64)) a1))], []⟩ (tn 1) ?_
  refine VW.seq ?_
  refine sR T_ok [0, 1, 10] [] ⟨[(0, .lf (.v (.sl (.int .i64)) a0)), (1, .lf (.v (.sl (.int .i64)) a1)), (10, B ((a0.length : Int) != (a1.length : Int)))], []⟩ (tn 5) ?_
  refine cnd h (fun h => ?_) (fun h => ?_)
  · refine sR T_ok [4] [] ⟨[(4, B false)], []⟩ (tn 1) ?_
    refine VW.ret ?_
    replace h := Option.some.inj h
    subst h
    exact rt []
  refine VW.skip ?_
  refine VW.join (fun s => s = ⟨[], []⟩ ∧ F37_j0 N = some r) ?_ ?_
  · refine sR T_ok [0, 1, 5] [] ⟨[(0, .lf (.v (.sl (.int .i64)) a0)), (1, .lf (.v (.sl (.int .i64)) a1)), (5, I (0 : Int))], []⟩ (tn 1) ?_
    refine VW.block ?_
    refine lop (fun k s => ∃ (x20 : Int), s = ⟨[(0, .lf (.v (.sl (.int .i64)) a0)), (1, .lf (.v (.sl (.int .i64)) a1)), (5, I x20)], []⟩ ∧ F37_l0 N a0 a1 k x20 = some r) N [.ren [0, 1, 5] []] ⟨(0 : Int), rfl, h⟩ ?_
    rintro k25 s ⟨x20, rfl, h⟩
    cases k25 with
    | zero => cases show none = some r from h
    | succ k25 =>
      replace h : F37_l0_b N a0 a1 (F37_l0 N a0 a1 k25) x20 = some r := h
      unfold F37_l0_b at h
      refine VW.seq ?_
      refine sR T_ok [0, 1, 5, 14] [] ⟨[(0, .lf (.v (.sl (.int .i64)) a0)), (1, .lf (.v (.sl (.int .i64)) a1)), (5, I x20), (14, B (decide (x20 < (a0.length : Int))))], []⟩ (tn 4) ?_
      refine cnd h (fun h => ?_) (fun h => ?_)
      · refine VW.skip ?_
        refine VW.seq ?_
        refine VW.block ?_
        refine VW.seq ?_
        obtain ⟨g28, h⟩ := gd_some h
        obtain ⟨g29, h⟩ := gd_some h
        refine VW.drawn (by kernel_rfl) [some (17, .lf (.v (.sl (.int .i64)) a0)), some (18, I x20), some (19, .lf (.fp (.int .i64) (a0.getD x20.toNat (Ty.dflt (.int .i64))) 0)), some (20, I (a0.getD x20.toNat (Ty.dflt (.int .i64)))), some (21, .lf (.v (.sl (.int .i64)) a1)), some (22, I x20), some (23, .lf (.fp (.int .i64) (a1.getD x20.toNat (Ty.dflt (.int .i64))) 0)), some (24, I (a1.getD x20.toNat (Ty.dflt (.int .i64)))), some (25, B ((a0.getD x20.toNat (Ty.dflt (.int .i64))) != (a1.getD x20.toNat (Ty.dflt (.int .i64)))))] [] [[]] [(0, 0), (1, 0), (2, 0), (3, 0), (4, 0), (5, 0), (6, 0), (7, 0), (8, 0)] [0, 1, 5, 25] [] (s' := ⟨[(0, .lf (.v (.sl (.int .i64)) a0)), (1, .lf (.v (.sl (.int .i64)) a1)), (5, I x20), (25, B ((a0.getD x20.toNat (Ty.dflt (.int .i64))) != (a1.getD x20.toNat (Ty.dflt (.int .i64)))))], []⟩) (by kernel_rfl) (by kernel_rfl) ⟨⟨_, rfl, Stp.ev T_ok (m := .dp) (φ := True) (by kernel_rfl) trivial⟩,
    ⟨_, rfl, Stp.ev T_ok (m := .dp) (φ := True) (by kernel_rfl) trivial⟩,
    ⟨_, rfl, Stp.ev T_ok (m := .dp) (φ := InR x20 a0.length) (by kernel_rfl) g28⟩,
    ⟨_, rfl, Stp.ev T_ok (m := .dp) (φ := True) (by kernel_rfl) trivial⟩,
    ⟨_, rfl, Stp.ev T_ok (m := .dp) (φ := True) (by kernel_rfl) trivial⟩,
    ⟨_, rfl, Stp.ev T_ok (m := .dp) (φ := True) (by kernel_rfl) trivial⟩,
    ⟨_, rfl, Stp.ev T_ok (m := .dp) (φ := InR x20 a1.length) (by kernel_rfl) g29⟩,
    ⟨_, rfl, Stp.ev T_ok (m := .dp) (φ := True) (by kernel_rfl) trivial⟩,
    ⟨_, rfl, Stp.ev T_ok (m := .dp) (φ := True) (by kernel_rfl) trivial⟩, trivial⟩ (by kernel_rfl) ?_
        refine cnd h (fun h => ?_) (fun h => ?_)
        · refine sR T_ok [4] [] ⟨[(4, B false)], []⟩ (tn 1) ?_
          refine VW.ret ?_
          replace h := Option.some.inj h
          subst h
          exact rt []
        refine VW.skip ?_
        refine rR T_ok [0, 1, 5] [] ⟨[(0, .lf (.v (.sl (.int .i64)) a0)), (1, .lf (.v (.sl (.int .i64)) a1)), (5, I (IntKind.i64.wrap (x20 + (1 : Int))))], []⟩ (tn 3) ?_
        exact aro [.ren [0, 1, 5] []] ⟨(IntKind.i64.wrap (x20 + (1 : Int))), rfl, h⟩
      refine VW.exit ?_
      exact arv [.ren [] []] ⟨rfl, h⟩
  rintro s ⟨rfl, h⟩
  unfold F37_j0 at h
  refine sR T_ok [4] [] ⟨[(4, B true)], []⟩ (tn 1) ?_
  refine VW.ret ?_
  replace h := Option.some.inj h
  subst h
  exact rt []

/- loop.example/g00844/laws.eqNode -/
def F11 (N : Nat) (a0 : (Int × (ByteArray × (Int × (Int × (Int × (Bool × (List Int)))))))) (a1 : (Int × (ByteArray × (Int × (Int × (Int × (Bool × (List Int)))))))) : Option (Bool) :=
  cond (a0.1 != a1.1) (some false) (cond (!(a0.2.1.toList == a1.2.1.toList)) (some false) (cond (a0.2.2.1 != a1.2.2.1) (some false) (cond (a0.2.2.2.1 != a1.2.2.2.1) (some false) (cond (a0.2.2.2.2.1 != a1.2.2.2.2.1) (some false) (cond (!(a0.2.2.2.2.2.1 == a1.2.2.2.2.2.1)) (some false) (andO (F37 N a0.2.2.2.2.2.2 a1.2.2.2.2.2.2) fun y2 => cond (!y2) (some false) (some true)))))))
theorem ok11 (N : Nat) (a0 : (Int × (ByteArray × (Int × (Int × (Int × (Bool × (List Int)))))))) (a1 : (Int × (ByteArray × (Int × (Int × (Int × (Bool × (List Int)))))))) {r : Bool} (h : F11 N a0 a1 = some r) : Con Go.Proofs.Tryd.prog 11 [.agg [.v (.int .i64) a0.1, .v .str a0.2.1, .v (.int .i64) a0.2.2.1, .v (.int .i64) a0.2.2.2.1, .v (.int .i64) a0.2.2.2.2.1, .v .bool a0.2.2.2.2.2.1, .v (.sl (.int .i64)) a0.2.2.2.2.2.2], .agg [.v (.int .i64) a1.1, .v .str a1.2.1, .v (.int .i64) a1.2.2.1, .v (.int .i64) a1.2.2.2.1, .v (.int .i64) a1.2.2.2.2.1, .v .bool a1.2.2.2.2.2.1, .v (.sl (.int .i64)) a1.2.2.2.2.2.2]] [.lf (.v .bool r)] := by
  refine ctr [.lf (.v .bool)] T_ok Go.Proofs.Tryd.func11 rfl fun w0 E0 ht => ?_
  unfold F11 at h
  show VW _ _ _ _ _ (retQ _ _ _ _) _
  refine sR T_ok [2, 3] [0, 1] ⟨[(2, .lf (.ptr 0 0 0 0)), (3, .lf (.ptr 1 0 0 0))], [bx [.v (.int .i64) a0.1, .v .str a0.2.1, .v (.int .i64) a0.2.2.1, .v (.int .i64) a0.2.2.2.1, .v (.int .i64) a0.2.2.2.2.1, .v .bool a0.2.2.2.2.2.1, .v (.sl (.int .i64)) a0.2.2.2.2.2.2] 27, bx [.v (.int .i64) a1.1, .v .str a1.2.1, .v (.int .i64) a1.2.2.1, .v (.int .i64) a1.2.2.2.1, .v (.int .i64) a1.2.2.2.2.1, .v .bool a1.2.2.2.2.2.1, .v (.sl (.int .i64)) a1.2.2.2.2.2.2] 27]⟩ (tn 3) ?_
  refine VW.seq ?_
  refine sR T_ok [2, 3, 9] [0, 1] ⟨[(2, .lf (.ptr 0 0 0 0)), (3, .lf (.ptr 1 0 0 0)), (9, B (a0.1 != a1.1))], [bx [.v (.int .i64) a0.1, .v .str a0.2.1, .v (.int .i64) a0.2.2.1, .v (.int .i64) a0.2.2.2.1, .v (.int .i64) a0.2.2.2.2.1, .v .bool a0.2.2.2.2.2.1, .v (.sl (.int .i64)) a0.2.2.2.2.2.2] 27, bx [.v (.int .i64) a1.1, .v .str a1.2.1, .v (.int .i64) a1.2.2.1, .v (.int .i64) a1.2.2.2.1, .v (.int .i64) a1.2.2.2.2.1, .v .bool a1.2.2.2.2.2.1, .v (.sl (.int .i64)) a1.2.2.2.2.2.2] 27]⟩ (tn 5) ?_
  refine cnd h (fun h => ?_) (fun h => ?_)
  · refine sR T_ok [4] [] ⟨[(4, B false)], []⟩ (tn 1) ?_
    refine VW.ret ?_
    replace h := Option.some.inj h
    subst h
    exact rt []
  refine VW.skip ?_
  refine VW.seq ?_
  refine sR T_ok [2, 3, 14] [0, 1] ⟨[(2, .lf (.ptr 0 0 0 0)), (3, .lf (.ptr 1 0 0 0)), (14, B (!(a0.2.1.toList == a1.2.1.toList)))], [bx [.v (.int .i64) a0.1, .v .str a0.2.1, .v (.int .i64) a0.2.2.1, .v (.int .i64) a0.2.2.2.1, .v (.int .i64) a0.2.2.2.2.1, .v .bool a0.2.2.2.2.2.1, .v (.sl (.int .i64)) a0.2.2.2.2.2.2] 27, bx [.v (.int .i64) a1.1, .v .str a1.2.1, .v (.int .i64) a1.2.2.1, .v (.int .i64) a1.2.2.2.1, .v (.int .i64) a1.2.2.2.2.1, .v .bool a1.2.2.2.2.2.1, .v (.sl (.int .i64)) a1.2.2.2.2.2.2] 27]⟩ (tn 5) ?_
  refine cnd h (fun h => ?_) (fun h => ?_)
  · refine sR T_ok [4] [] ⟨[(4, B false)], []⟩ (tn 1) ?_
    refine VW.ret ?_
    replace h := Option.some.inj h
    subst h
    exact rt []
  refine VW.skip ?_
  refine VW.seq ?_
  refine sR T_ok [2, 3, 19] [0, 1] ⟨[(2, .lf (.ptr 0 0 0 0)), (3, .lf (.ptr 1 0 0 0)), (19, B (a0.2.2.1 != a1.2.2.1))], [bx [.v (.int .i64) a0.1, .v .str a0.2.1, .v (.int .i64) a0.2.2.1, .v (.int .i64) a0.2.2.2.1, .v (.int .i64) a0.2.2.2.2.1, .v .bool a0.2.2.2.2.2.1, .v (.sl (.int .i64)) a0.2.2.2.2.2.2] 27, bx [.v (.int .i64) a1.1, .v .str a1.2.1, .v (.int .i64) a1.2.2.1, .v (.int .i64) a1.2.2.2.1, .v (.int .i64) a1.2.2.2.2.1, .v .bool a1.2.2.2.2.2.1, .v (.sl (.int .i64)) a1.2.2.2.2.2.2] 27]⟩ (tn 5) ?_
  refine cnd h (fun h => ?_) (fun h => ?_)
  · refine sR T_ok [4] [] ⟨[(4, B false)], []⟩ (tn 1) ?_
    refine VW.ret ?_
    replace h := Option.some.inj h
    subst h
    exact rt []
  refine VW.skip ?_
  refine VW.seq ?_
  refine sR T_ok [2, 3, 24] [0, 1] ⟨[(2, .lf (.ptr 0 0 0 0)), (3, .lf (.ptr 1 0 0 0)), (24, B (a0.2.2.2.1 != a1.2.2.2.1))], [bx [.v (.int .i64) a0.1, .v .str a0.2.1, .v (.int .i64) a0.2.2.1, .v (.int .i64) a0.2.2.2.1, .v (.int .i64) a0.2.2.2.2.1, .v .bool a0.2.2.2.2.2.1, .v (.sl (.int .i64)) a0.2.2.2.2.2.2] 27, bx [.v (.int .i64) a1.1, .v .str a1.2.1, .v (.int .i64) a1.2.2.1, .v (.int .i64) a1.2.2.2.1, .v (.int .i64) a1.2.2.2.2.1, .v .bool a1.2.2.2.2.2.1, .v (.sl (.int .i64)) a1.2.2.2.2.2.2] 27]⟩ (tn 5) ?_
  refine cnd h (fun h => ?_) (fun h => ?_)
  · refine sR T_ok [4] [] ⟨[(4, B false)], []⟩ (tn 1) ?_
    refine VW.ret ?_
    replace h := Option.some.inj h
    subst h
    exact rt []
  refine VW.skip ?_
  refine VW.seq ?_
  refine sR T_ok [2, 3, 29] [0, 1] ⟨[(2, .lf (.ptr 0 0 0 0)), (3, .lf (.ptr 1 0 0 0)), (29, B (a0.2.2.2.2.1 != a1.2.2.2.2.1))], [bx [.v (.int .i64) a0.1, .v .str a0.2.1, .v (.int .i64) a0.2.2.1, .v (.int .i64) a0.2.2.2.1, .v (.int .i64) a0.2.2.2.2.1, .v .bool a0.2.2.2.2.2.1, .v (.sl (.int .i64)) a0.2.2.2.2.2.2] 27, bx [.v (.int .i64) a1.1, .v .str a1.2.1, .v (.int .i64) a1.2.2.1, .v (.int .i64) a1.2.2.2.1, .v (.int .i64) a1.2.2.2.2.1, .v .bool a1.2.2.2.2.2.1, .v (.sl (.int .i64)) a1.2.2.2.2.2.2] 27]⟩ (tn 5) ?_
  refine cnd h (fun h => ?_) (fun h => ?_)
  · refine sR T_ok [4] [] ⟨[(4, B false)], []⟩ (tn 1) ?_
    refine VW.ret ?_
    replace h := Option.some.inj h
    subst h
    exact rt []
  refine VW.skip ?_
  refine VW.seq ?_
  refine sR T_ok [2, 3, 34] [0, 1] ⟨[(2, .lf (.ptr 0 0 0 0)), (3, .lf (.ptr 1 0 0 0)), (34, B (!(a0.2.2.2.2.2.1 == a1.2.2.2.2.2.1)))], [bx [.v (.int .i64) a0.1, .v .str a0.2.1, .v (.int .i64) a0.2.2.1, .v (.int .i64) a0.2.2.2.1, .v (.int .i64) a0.2.2.2.2.1, .v .bool a0.2.2.2.2.2.1, .v (.sl (.int .i64)) a0.2.2.2.2.2.2] 27, bx [.v (.int .i64) a1.1, .v .str a1.2.1, .v (.int .i64) a1.2.2.1, .v (.int .i64) a1.2.2.2.1, .v (.int .i64) a1.2.2.2.2.1, .v .bool a1.2.2.2.2.2.1, .v (.sl (.int .i64)) a1.2.2.2.2.2.2] 27]⟩ (tn 5) ?_
  refine cnd h (fun h => ?_) (fun h => ?_)
  · refine sR T_ok [4] [] ⟨[(4, B false)], []⟩ (tn 1) ?_
    refine VW.ret ?_
    replace h := Option.some.inj h
    subst h
    exact rt []
  refine VW.skip ?_
  refine VW.seq ?_
  refine VW.seq ?_
  refine VW.region ?_
  refine sG T_ok 4 [36, 38] [] ⟨[(36, .lf (.v (.sl (.int .i64)) a0.2.2.2.2.2.2)), (38, .lf (.v (.sl (.int .i64)) a1.2.2.2.2.2.2))], []⟩ (tn 4) ?_
  obtain ⟨y2, hy, h⟩ := andO_some h
  refine cal false [.t (.sl (.int .i64)), .t (.sl (.int .i64))] [] (some 39) T_ok (ok37 N _ _ hy) ?_
  refine sN T_ok [40] [] ⟨[(40, B (!y2))], []⟩ (tn 1) ?_
  refine cnd h (fun h => ?_) (fun h => ?_)
  · refine sR T_ok [4] [] ⟨[(4, B false)], []⟩ (tn 1) ?_
    refine VW.ret ?_
    replace h := Option.some.inj h
    subst h
    exact rt []
  refine VW.skip ?_
  refine sR T_ok [4] [] ⟨[(4, B true)], []⟩ (tn 1) ?_
  refine VW.ret ?_
  replace h := Option.some.inj h
  subst h
  exact rt []

/- loop.example/g00844/laws.szNodeS -/
def F12_j0 (N : Nat) (x17 : Int) : Option (Int) :=
  some x17
def F12_l0_b (N : Nat) (a0 : (List (Int × (ByteArray × (Int × (Int × (Int × (Bool × (List Int))))))))) (nx30 : Int → Int → Option (Int)) (x24 : Int) (x25 : Int) : Option (Int) :=
  cond (decide (x25 < (a0.length : Int))) (gd (InR x25 a0.length) (andO (F7 N (a0.getD x25.toNat (Ty.dflt Y23)) x24) fun y34 => cond (decide (y34 < (0 : Int))) (some (-1 : Int)) (nx30 y34 (IntKind.i64.wrap (x25 + (1 : Int)))))) (F12_j0 N x24)
def F12_l0 (N : Nat) (a0 : (List (Int × (ByteArray × (Int × (Int × (Int × (Bool × (List Int))))))))) : Nat → Int → Int → Option (Int) := loopF (F12_l0_b N a0) (fun _ _ => none)
theorem F12_l0_s (N : Nat) (a0 : (List (Int × (ByteArray × (Int × (Int × (Int × (Bool × (List Int))))))))) {k : Nat} (hk : 0 < k) (x24 : Int) (x25 : Int) : F12_l0 N a0 k x24 x25 = F12_l0_b N a0 (F12_l0 N a0 (k - 1)) x24 x25 := by
  cases k with
  | zero => exact absurd hk (Nat.lt_irrefl 0)
  | succ m => rfl
def F12 (N : Nat) (a0 : (List (Int × (ByteArray × (Int × (Int × (Int × (Bool × (List Int))))))))) (a1 : Int) : Option (Int) :=
  cond (decide ((IntKind.i64.wrap (a1 - (a0.length : Int))) < (0 : Int))) (some (-1 : Int)) (F12_l0 N a0 N (IntKind.i64.wrap (a1 - (a0.length : Int))) (0 : Int))
theorem ok12 (N : Nat) (a0 : (List (Int × (ByteArray × (Int × (Int × (Int × (Bool × (List Int))))))))) (a1 : Int) {r : Int} (h : F12 N a0 a1 = some r) : Con Go.Proofs.Tryd.prog 12 [.lf (.v (.sl Y23) a0), I a1] [.lf (.v (.int .i64) r)] := by
  refine ctr [.lf (.v (.int .i64))] T_ok Go.Proofs.Tryd.func12 rfl fun w0 E0 ht => ?_
  unfold F12 at h
  show VW _ _ _ _ _ (retQ _ _ _ _) _
  refine sR T_ok [0, 1] [] ⟨[(0, .lf (.v (.sl Y23) a0)), (1, I a1)], []⟩ (tn 1) ?_
  refine sR T_ok [0, 1] [] ⟨[(0, .lf (.v (.sl Y23) a0)), (1, I (IntKind.i64.wrap (a1 - (a0.length : Int))))], []⟩ (tn 5) ?_
  refine VW.seq ?_
  refine sR T_ok [0, 1, 11] [] ⟨[(0, .lf (.v (.sl Y23) a0)), (1, I (IntKind.i64.wrap (a1 - (a0.length : Int)))), (11, B (decide ((IntKind.i64.wrap (a1 - (a0.length : Int))) < (0 : Int))))], []⟩ (tn 2) ?_
  refine cnd h (fun h => ?_) (fun h => ?_)
  · refine sR T_ok [4] [] ⟨[(4, I (-1 : Int))], []⟩ (tn 1) ?_
    refine VW.ret ?_
    replace h := Option.some.inj h
    subst h
    exact rt []
  refine VW.skip ?_
  refine VW.join (fun s => ∃ (x17 : Int), s = ⟨[(1, I x17)], []⟩ ∧ F12_j0 N x17 = some r) ?_ ?_
  · refine sR T_ok [0, 1, 5] [] ⟨[(0, .lf (.v (.sl Y23) a0)), (1, I (IntKind.i64.wrap (a1 - (a0.length : Int)))), (5, I (0 : Int))], []⟩ (tn 1) ?_
    refine VW.block ?_
    refine lop (fun k s => ∃ (x24 : Int) (x25 : Int), s = ⟨[(0, .lf (.v (.sl Y23) a0)), (1, I x24), (5, I x25)], []⟩ ∧ F12_l0 N a0 k x24 x25 = some r) N [.ren [0, 1, 5] []] ⟨(IntKind.i64.wrap (a1 - (a0.length : Int))), (0 : Int), rfl, h⟩ ?_
    rintro k30 s ⟨x24, x25, rfl, h⟩
    cases k30 with
    | zero => cases show none = some r from h
    | succ k30 =>
      replace h : F12_l0_b N a0 (F12_l0 N a0 k30) x24 x25 = some r := h
      unfold F12_l0_b at h
      refine VW.seq ?_
      refine sR T_ok [0, 1, 5, 15] [] ⟨[(0, .lf (.v (.sl Y23) a0)), (1, I x24), (5, I x25), (15, B (decide (x25 < (a0.length : Int))))], []⟩ (tn 4) ?_
      refine cnd h (fun h => ?_) (fun h => ?_)
      · refine VW.skip ?_
        refine VW.seq ?_
        refine VW.block ?_
        refine VW.seq ?_
        refine VW.region ?_
        obtain ⟨g33, h⟩ := gd_some h
        refine sG T_ok 5 [0, 5, 21, 22] [] ⟨[(0, .lf (.v (.sl Y23) a0)), (5, I x25), (21, .agg [.v (.int .i64) ((a0.getD x25.toNat (Ty.dflt Y23)).1), .v .str ((a0.getD x25.toNat (Ty.dflt Y23)).2.1), .v (.int .i64) ((a0.getD x25.toNat (Ty.dflt Y23)).2.2.1), .v (.int .i64) ((a0.getD x25.toNat (Ty.dflt Y23)).2.2.2.1), .v (.int .i64) ((a0.getD x25.toNat (Ty.dflt Y23)).2.2.2.2.1), .v .bool ((a0.getD x25.toNat (Ty.dflt Y23)).2.2.2.2.2.1), .v (.sl (.int .i64)) ((a0.getD x25.toNat (Ty.dflt Y23)).2.2.2.2.2.2)]), (22, I x24)], []⟩ (pu 2 (an g33 (tn 2))) ?_
        obtain ⟨y34, hy, h⟩ := andO_some h
        refine cal false [.t Y23, .t (.int .i64)] [] (some 23) T_ok (ok7 N _ _ hy) ?_
        refine sN T_ok [0, 1, 5] [] ⟨[(0, .lf (.v (.sl Y23) a0)), (1, I y34), (5, I x25)], []⟩ (tn 1) ?_
        refine sR T_ok [0, 1, 5, 25] [] ⟨[(0, .lf (.v (.sl Y23) a0)), (1, I y34), (5, I x25), (25, B (decide (y34 < (0 : Int))))], []⟩ (tn 2) ?_
        refine cnd h (fun h => ?_) (fun h => ?_)
        · refine sR T_ok [4] [] ⟨[(4, I (-1 : Int))], []⟩ (tn 1) ?_
          refine VW.ret ?_
          replace h := Option.some.inj h
          subst h
          exact rt []
        refine VW.skip ?_
        refine rR T_ok [0, 1, 5] [] ⟨[(0, .lf (.v (.sl Y23) a0)), (1, I y34), (5, I (IntKind.i64.wrap (x25 + (1 : Int))))], []⟩ (tn 3) ?_
        exact aro [.ren [0, 1, 5] []] ⟨y34, (IntKind.i64.wrap (x25 + (1 : Int))), rfl, h⟩
      refine VW.exit ?_
      exact arv [.ren [1] []] ⟨x24, rfl, h⟩
  rintro s ⟨x17, rfl, h⟩
  unfold F12_j0 at h
  refine sR T_ok [4] [] ⟨[(4, I x17)], []⟩ (tn 2) ?_
  refine VW.ret ?_
  replace h := Option.some.inj h
  subst h
  exact rt []

/- loop.example/g00844/spec.ArityOf -/
def F77_j0 (N : Nat) (x6 : Bool) : Option (Int) :=
  cond x6 (some (1 : Int)) (some (-1 : Int))
def F77_j1 (N : Nat) (a0 : Int) (x5 : Bool) : Option (Int) :=
  cond x5 (some (2 : Int)) (cond (a0 == (1 : Int)) (F77_j0 N (a0 == (1 : Int))) (cond (a0 == (2 : Int)) (F77_j0 N (a0 == (2 : Int))) (cond (a0 == (5 : Int)) (F77_j0 N (a0 == (5 : Int))) (cond (a0 == (6 : Int)) (F77_j0 N (a0 == (6 : Int))) (F77_j0 N (a0 == (7 : Int)))))))
def F77 (N : Nat) (a0 : Int) : Option (Int) :=
  cond (a0 == (0 : Int)) (some (0 : Int)) (cond (a0 == (3 : Int)) (F77_j1 N a0 (a0 == (3 : Int))) (F77_j1 N a0 (a0 == (4 : Int))))
theorem ok77 (N : Nat) (a0 : Int) {r : Int} (h : F77 N a0 = some r) : Con Go.Proofs.Tryd.prog 77 [I a0] [.lf (.v (.int .i64) r)] := by
  refine ctr [.lf (.v (.int .i64))] T_ok Go.Proofs.Tryd.func77 rfl fun w0 E0 ht => ?_
  unfold F77 at h
  show VW _ _ _ _ _ (retQ _ _ _ _) _
  refine sR T_ok [0] [] ⟨[(0, I a0)], []⟩ (tn 1) ?_
  refine VW.seq ?_
  refine sR T_ok [3] [] ⟨[(3, I a0)], []⟩ (tn 1) ?_
  refine VW.block ?_
  refine sR T_ok [3, 4] [] ⟨[(3, I a0), (4, B (a0 == (0 : Int)))], []⟩ (tn 2) ?_
  refine cnd h (fun h => ?_) (fun h => ?_)
  · refine sR T_ok [2] [] ⟨[(2, I (0 : Int))], []⟩ (tn 1) ?_
    refine VW.ret ?_
    replace h := Option.some.inj h
    subst h
    exact rt []
  refine VW.join (fun s => ∃ (x5 : Bool), s = ⟨[(3, I a0), (6, B x5)], []⟩ ∧ F77_j1 N a0 x5 = some r) ?_ ?_
  · refine sR T_ok [3, 6] [] ⟨[(3, I a0), (6, B (a0 == (3 : Int)))], []⟩ (tn 2) ?_
    refine cnd h (fun h => ?_) (fun h => ?_)
    · refine VW.skip ?_
      exact arv [.ren [3, 6] []] ⟨(a0 == (3 : Int)), rfl, h⟩
    refine rR T_ok [3, 6] [] ⟨[(3, I a0), (6, B (a0 == (4 : Int)))], []⟩ (tn 2) ?_
    exact arv [.ren [3, 6] []] ⟨(a0 == (4 : Int)), rfl, h⟩
  rintro s ⟨x5, rfl, h⟩
  unfold F77_j1 at h
  refine cnd h (fun h => ?_) (fun h => ?_)
  · refine sR T_ok [2] [] ⟨[(2, I (2 : Int))], []⟩ (tn 1) ?_
    refine VW.ret ?_
    replace h := Option.some.inj h
    subst h
    exact rt []
  refine VW.join (fun s => ∃ (x6 : Bool), s = ⟨[(9, B x6)], []⟩ ∧ F77_j0 N x6 = some r) ?_ ?_
  · refine sR T_ok [3, 9] [] ⟨[(3, I a0), (9, B (a0 == (1 : Int)))], []⟩ (tn 2) ?_
    refine cnd h (fun h => ?_) (fun h => ?_)
    · refine VW.skip ?_
      exact arv [.ren [9] []] ⟨(a0 == (1 : Int)), rfl, h⟩
    refine sR T_ok [3, 9] [] ⟨[(3, I a0), (9, B (a0 == (2 : Int)))], []⟩ (tn 2) ?_
    refine cnd h (fun h => ?_) (fun h => ?_)
    · refine VW.skip ?_
      exact arv [.ren [9] []] ⟨(a0 == (2 : Int)), rfl, h⟩
    refine sR T_ok [3, 9] [] ⟨[(3, I a0), (9, B (a0 == (5 : Int)))], []⟩ (tn 2) ?_
    refine cnd h (fun h => ?_) (fun h => ?_)
    · refine VW.skip ?_
      exact arv [.ren [9] []] ⟨(a0 == (5 : Int)), rfl, h⟩
    refine sR T_ok [3, 9] [] ⟨[(3, I a0), (9, B (a0 == (6 : Int)))], []⟩ (tn 2) ?_
    refine cnd h (fun h => ?_) (fun h => ?_)
    · refine VW.skip ?_
      exact arv [.ren [9] []] ⟨(a0 == (6 : Int)), rfl, h⟩
    refine rR T_ok [9] [] ⟨[(9, B (a0 == (7 : Int)))], []⟩ (tn 2) ?_
    exact arv [.ren [9] []] ⟨(a0 == (7 : Int)), rfl, h⟩
  rintro s ⟨x6, rfl, h⟩
  unfold F77_j0 at h
  refine cnd h (fun h => ?_) (fun h => ?_)
  · refine sR T_ok [2] [] ⟨[(2, I (1 : Int))], []⟩ (tn 1) ?_
    refine VW.ret ?_
    replace h := Option.some.inj h
    subst h
    exact rt []
  refine VW.skip ?_
  refine sR T_ok [2] [] ⟨[(2, I (-1 : Int))], []⟩ (tn 1) ?_
  refine VW.ret ?_
  replace h := Option.some.inj h
  subst h
  exact rt []

/- loop.example/g00844/spec.l02End -/
def F62_j0 (N : Nat) (x33 : Int) (x34 : Int) : Option (Int × Int) :=
  some (x33, (IntKind.i64.wrap (x34 + (1 : Int))))
def F62_j1 (N : Nat) (nx58 : Int → Int → Int → Option (Int × Int)) (x48 : Int) (x64 : Int) (x65 : Int) : Option (Int × Int) :=
  nx58 x64 x65 (IntKind.i64.wrap (x48 + (1 : Int)))
def F62_l0_b (N : Nat) (a0 : (List (Int × (ByteArray × (Int × (Int × (Int × (Bool × (List Int))))))))) (a1 : Int) (a2 : Int) (self : (List (Int × (ByteArray × (Int × (Int × (Int × (Bool × (List Int)))))))) → Int → Int → Option (Int × Int)) (nx58 : Int → Int → Int → Option (Int × Int)) (x46 : Int) (x47 : Int) (x48 : Int) : Option (Int × Int) :=
  gd (InR a1 a0.length) (andO (F77 N ((a0.getD a1.toNat (Ty.dflt Y23)).1)) fun y62 => cond (decide (x48 < y62)) (andO (self a0 x46 (IntKind.i64.wrap (a2 - (1 : Int)))) fun y67 => cond (decide (y67.1 < (0 : Int))) (some ((-1 : Int), (0 : Int))) (cond (decide (y67.2 > x47)) (F62_j1 N nx58 x48 y67.1 y67.2) (F62_j1 N nx58 x48 y67.1 x47))) (F62_j0 N x46 x47))
def F62_l0 (N : Nat) (a0 : (List (Int × (ByteArray × (Int × (Int × (Int × (Bool × (List Int))))))))) (a1 : Int) (a2 : Int) (self : (List (Int × (ByteArray × (Int × (Int × (Int × (Bool × (List Int)))))))) → Int → Int → Option (Int × Int)) : Nat → Int → Int → Int → Option (Int × Int) := loopF (F62_l0_b N a0 a1 a2 self) (fun _ _ _ => none)
theorem F62_l0_s (N : Nat) (a0 : (List (Int × (ByteArray × (Int × (Int × (Int × (Bool × (List Int))))))))) (a1 : Int) (a2 : Int) (self : (List (Int × (ByteArray × (Int × (Int × (Int × (Bool × (List Int)))))))) → Int → Int → Option (Int × Int)) {k : Nat} (hk : 0 < k) (x46 : Int) (x47 : Int) (x48 : Int) : F62_l0 N a0 a1 a2 self k x46 x47 x48 = F62_l0_b N a0 a1 a2 self (F62_l0 N a0 a1 a2 self (k - 1)) x46 x47 x48 := by
  cases k with
  | zero => exact absurd hk (Nat.lt_irrefl 0)
  | succ m => rfl
def F62_b (N : Nat) (self : (List (Int × (ByteArray × (Int × (Int × (Int × (Bool × (List Int)))))))) → Int → Int → Option (Int × Int)) (a0 : (List (Int × (ByteArray × (Int × (Int × (Int × (Bool × (List Int))))))))) (a1 : Int) (a2 : Int) : Option (Int × Int) :=
  cond (decide (a1 ≥ (a0.length : Int))) (some ((-1 : Int), (0 : Int))) (cond (a2 == (0 : Int)) (some ((-1 : Int), (0 : Int))) (F62_l0 N a0 a1 a2 self N (IntKind.i64.wrap (a1 + (1 : Int))) (0 : Int) (0 : Int)))
theorem ok62_b (N : Nat) (self : (List (Int × (ByteArray × (Int × (Int × (Int × (Bool × (List Int)))))))) → Int → Int → Option (Int × Int)) (ih : ∀ (a0 : (List (Int × (ByteArray × (Int × (Int × (Int × (Bool × (List Int))))))))) (a1 : Int) (a2 : Int) (r : Int × Int), self a0 a1 a2 = some r → Con Go.Proofs.Tryd.prog 62 [.lf (.v (.sl Y23) a0), I a1, I a2] [.lf (.v (.int .i64) r.1), .lf (.v (.int .i64) r.2)]) (a0 : (List (Int × (ByteArray × (Int × (Int × (Int × (Bool × (List Int))))))))) (a1 : Int) (a2 : Int) {r : Int × Int} (h : F62_b N self a0 a1 a2 = some r) : Con Go.Proofs.Tryd.prog 62 [.lf (.v (.sl Y23) a0), I a1, I a2] [.lf (.v (.int .i64) r.1), .lf (.v (.int .i64) r.2)] := by
  refine ctr [.lf (.v (.int .i64)), .lf (.v (.int .i64))] T_ok Go.Proofs.Tryd.func62 rfl fun w0 E0 ht => ?_
  unfold F62_b at h
  show VW _ _ _ _ _ (retQ _ _ _ _) _
  refine sR T_ok [0, 1, 2] [] ⟨[(0, .lf (.v (.sl Y23) a0)), (1, I a1), (2, I a2)], []⟩ (tn 2) ?_
  refine VW.seq ?_
  refine VW.seq ?_
  refine VW.region ?_
  refine sG T_ok 5 [0, 1, 2, 17] [] ⟨[(0, .lf (.v (.sl Y23) a0)), (1, I a1), (2, I a2), (17, B (decide (a1 ≥ (a0.length : Int))))], []⟩ (tn 5) ?_
  refine spB 17 h (fun h => ?_) (fun h => ?_)
  · refine sN T_ok [0, 1, 2, 20] [] ⟨[(0, .lf (.v (.sl Y23) a0)), (1, I a1), (2, I a2), (20, B true)], []⟩ (tn 3) ?_
    refine VW.cond (b := true) (by kernel_rfl) (fun _ => ?_) (fun h' => nomatch h')
    refine sR T_ok [6, 7] [] ⟨[(6, I (-1 : Int)), (7, I (0 : Int))], []⟩ (tn 2) ?_
    refine VW.ret ?_
    replace h := Option.some.inj h
    subst h
    exact rt []
  refine sN T_ok [0, 1, 2, 20] [] ⟨[(0, .lf (.v (.sl Y23) a0)), (1, I a1), (2, I a2), (20, B (a2 == (0 : Int)))], []⟩ (tn 3) ?_
  refine cnd h (fun h => ?_) (fun h => ?_)
  · refine sR T_ok [6, 7] [] ⟨[(6, I (-1 : Int)), (7, I (0 : Int))], []⟩ (tn 2) ?_
    refine VW.ret ?_
    replace h := Option.some.inj h
    subst h
    exact rt []
  refine VW.skip ?_
  refine sR T_ok [0, 1, 2, 8] [] ⟨[(0, .lf (.v (.sl Y23) a0)), (1, I a1), (2, I a2), (8, I (IntKind.i64.wrap (a1 + (1 : Int))))], []⟩ (tn 3) ?_
  refine sR T_ok [0, 1, 2, 8, 9] [] ⟨[(0, .lf (.v (.sl Y23) a0)), (1, I a1), (2, I a2), (8, I (IntKind.i64.wrap (a1 + (1 : Int)))), (9, I (0 : Int))], []⟩ (tn 1) ?_
  refine VW.join (fun s => ∃ (x33 : Int) (x34 : Int), s = ⟨[(8, I x33), (9, I x34)], []⟩ ∧ F62_j0 N x33 x34 = some r) ?_ ?_
  · refine sR T_ok [0, 1, 2, 8, 9, 10] [] ⟨[(0, .lf (.v (.sl Y23) a0)), (1, I a1), (2, I a2), (8, I (IntKind.i64.wrap (a1 + (1 : Int)))), (9, I (0 : Int)), (10, I (0 : Int))], []⟩ (tn 1) ?_
    refine VW.block ?_
    refine lop (fun k s => ∃ (x46 : Int) (x47 : Int) (x48 : Int), s = ⟨[(0, .lf (.v (.sl Y23) a0)), (1, I a1), (2, I a2), (8, I x46), (9, I x47), (10, I x48)], []⟩ ∧ F62_l0 N a0 a1 a2 self k x46 x47 x48 = some r) N [.ren [0, 1, 2, 8, 9, 10] []] ⟨(IntKind.i64.wrap (a1 + (1 : Int))), (0 : Int), (0 : Int), rfl, h⟩ ?_
    rintro k58 s ⟨x46, x47, x48, rfl, h⟩
    cases k58 with
    | zero => cases show none = some r from h
    | succ k58 =>
      replace h : F62_l0_b N a0 a1 a2 self (F62_l0 N a0 a1 a2 self k58) x46 x47 x48 = some r := h
      unfold F62_l0_b at h
      refine VW.seq ?_
      refine VW.seq ?_
      refine VW.region ?_
      obtain ⟨g61, h⟩ := gd_some h
      refine sG T_ok 6 [0, 1, 2, 8, 9, 10, 23, 28] [] ⟨[(0, .lf (.v (.sl Y23) a0)), (1, I a1), (2, I a2), (8, I x46), (9, I x47), (10, I x48), (23, I x48), (28, I ((a0.getD a1.toNat (Ty.dflt Y23)).1))], []⟩ (pu 3 (an g61 (tn 2))) ?_
      obtain ⟨y62, hy, h⟩ := andO_some h
      refine cal false [.t (.int .i64)] [] (some 29) T_ok (ok77 N _ hy) ?_
      refine sN T_ok [0, 1, 2, 8, 9, 10, 30] [] ⟨[(0, .lf (.v (.sl Y23) a0)), (1, I a1), (2, I a2), (8, I x46), (9, I x47), (10, I x48), (30, B (decide (x48 < y62)))], []⟩ (tn 1) ?_
      refine cnd h (fun h => ?_) (fun h => ?_)
      · refine VW.skip ?_
        refine VW.join (fun s => ∃ (x64 : Int) (x65 : Int), s = ⟨[(0, .lf (.v (.sl Y23) a0)), (1, I a1), (2, I a2), (8, I x64), (9, I x65), (10, I x48)], []⟩ ∧ F62_j1 N (F62_l0 N a0 a1 a2 self k58) x48 x64 x65 = some r) ?_ ?_
        · refine VW.block ?_
          refine VW.seq ?_
          refine VW.region ?_
          refine sG T_ok 4 [0, 1, 2, 9, 10, 34, 35, 37] [] ⟨[(0, .lf (.v (.sl Y23) a0)), (1, I a1), (2, I a2), (9, I x47), (10, I x48), (34, .lf (.v (.sl Y23) a0)), (35, I x46), (37, I (IntKind.i64.wrap (a2 - (1 : Int))))], []⟩ (tn 4) ?_
          obtain ⟨y67, hy, h⟩ := andO_some h
          refine cal false [.t (.sl Y23), .t (.int .i64), .t (.int .i64)] [] (some 38) T_ok (ih _ _ _ _ hy) ?_
          refine sN T_ok [0, 1, 2, 9, 10, 11, 12] [] ⟨[(0, .lf (.v (.sl Y23) a0)), (1, I a1), (2, I a2), (9, I x47), (10, I x48), (11, I y67.1), (12, I y67.2)], []⟩ (tn 5) ?_
          refine VW.seq ?_
          refine sR T_ok [0, 1, 2, 9, 10, 11, 12, 42] [] ⟨[(0, .lf (.v (.sl Y23) a0)), (1, I a1), (2, I a2), (9, I x47), (10, I x48), (11, I y67.1), (12, I y67.2), (42, B (decide (y67.1 < (0 : Int))))], []⟩ (tn 2) ?_
          refine cnd h (fun h => ?_) (fun h => ?_)
          · refine sR T_ok [6, 7] [] ⟨[(6, I (-1 : Int)), (7, I (0 : Int))], []⟩ (tn 2) ?_
            refine VW.ret ?_
            replace h := Option.some.inj h
            subst h
            exact rt []
          refine VW.skip ?_
          refine sR T_ok [0, 1, 2, 8, 9, 10, 12] [] ⟨[(0, .lf (.v (.sl Y23) a0)), (1, I a1), (2, I a2), (8, I y67.1), (9, I x47), (10, I x48), (12, I y67.2)], []⟩ (tn 2) ?_
          refine sR T_ok [0, 1, 2, 8, 9, 10, 12, 46] [] ⟨[(0, .lf (.v (.sl Y23) a0)), (1, I a1), (2, I a2), (8, I y67.1), (9, I x47), (10, I x48), (12, I y67.2), (46, B (decide (y67.2 > x47)))], []⟩ (tn 3) ?_
          refine cnd h (fun h => ?_) (fun h => ?_)
          · refine rR T_ok [0, 1, 2, 8, 9, 10] [] ⟨[(0, .lf (.v (.sl Y23) a0)), (1, I a1), (2, I a2), (8, I y67.1), (9, I y67.2), (10, I x48)], []⟩ (tn 2) ?_
            exact arv [.ren [0, 1, 2, 8, 9, 10] []] ⟨y67.1, y67.2, rfl, h⟩
          refine VW.skip ?_
          exact arv [.ren [0, 1, 2, 8, 9, 10] []] ⟨y67.1, x47, rfl, h⟩
        rintro s ⟨x64, x65, rfl, h⟩
        unfold F62_j1 at h
        refine rR T_ok [0, 1, 2, 8, 9, 10] [] ⟨[(0, .lf (.v (.sl Y23) a0)), (1, I a1), (2, I a2), (8, I x64), (9, I x65), (10, I (IntKind.i64.wrap (x48 + (1 : Int))))], []⟩ (tn 3) ?_
        exact aro [.ren [0, 1, 2, 8, 9, 10] []] ⟨x64, x65, (IntKind.i64.wrap (x48 + (1 : Int))), rfl, h⟩
      refine VW.exit ?_
      exact arv [.ren [8, 9] []] ⟨x46, x47, rfl, h⟩
  rintro s ⟨x33, x34, rfl, h⟩
  unfold F62_j0 at h
  refine sR T_ok [6, 7] [] ⟨[(6, I x33), (7, I (IntKind.i64.wrap (x34 + (1 : Int))))], []⟩ (tn 5) ?_
  refine VW.ret ?_
  replace h := Option.some.inj h
  subst h
  exact rt []
def F62_r (N : Nat) : Nat → (List (Int × (ByteArray × (Int × (Int × (Int × (Bool × (List Int)))))))) → Int → Int → Option (Int × Int) := loopF (F62_b N) (fun _ _ _ => none)
theorem F62_s (N : Nat) {k : Nat} (hk : 0 < k) (a0 : (List (Int × (ByteArray × (Int × (Int × (Int × (Bool × (List Int))))))))) (a1 : Int) (a2 : Int) : F62_r N k a0 a1 a2 = F62_b N (F62_r N (k - 1)) a0 a1 a2 := by
  cases k with
  | zero => exact absurd hk (Nat.lt_irrefl 0)
  | succ m => rfl
def F62 (N : Nat) : (List (Int × (ByteArray × (Int × (Int × (Int × (Bool × (List Int)))))))) → Int → Int → Option (Int × Int) := F62_r N N
theorem ok62_k (N : Nat) : ∀ (k : Nat) (a0 : (List (Int × (ByteArray × (Int × (Int × (Int × (Bool × (List Int))))))))) (a1 : Int) (a2 : Int) (r : Int × Int), loopF (F62_b N) (fun _ _ _ => none) k a0 a1 a2 = some r → Con Go.Proofs.Tryd.prog 62 [.lf (.v (.sl Y23) a0), I a1, I a2] [.lf (.v (.int .i64) r.1), .lf (.v (.int .i64) r.2)]
  | 0, a0, a1, a2, r, h => nomatch (show (none : Option (Int × Int)) = some r from h)
  | k + 1, a0, a1, a2, r, h => ok62_b N _ (ok62_k N k) a0 a1 a2 h
theorem ok62 (N : Nat) (a0 : (List (Int × (ByteArray × (Int × (Int × (Int × (Bool × (List Int))))))))) (a1 : Int) (a2 : Int) {r : Int × Int} (h : F62 N a0 a1 a2 = some r) : Con Go.Proofs.Tryd.prog 62 [.lf (.v (.sl Y23) a0), I a1, I a2] [.lf (.v (.int .i64) r.1), .lf (.v (.int .i64) r.2)] := ok62_k N N a0 a1 a2 r h

/- loop.example/g00844/spec.PlanOk -/
def F38_j0 (N : Nat) (a0 : (List (Int × (ByteArray × (Int × (Int × (Int × (Bool × (List Int))))))))) : Option (Bool) :=
  andO (F62 N a0 (0 : Int) (10 : Int)) fun y17 => some (y17.1 == (a0.length : Int))
def F38_l0_b (N : Nat) (a0 : (List (Int × (ByteArray × (Int × (Int × (Int × (Bool × (List Int))))))))) (nx28 : Int → Option (Bool)) (x23 : Int) : Option (Bool) :=
  cond (decide (x23 < (a0.length : Int))) (gd (InR x23 a0.length) (andO (F25 N (a0.getD x23.toNat (Ty.dflt Y23))) fun y32 => cond (!y32) (some false) (nx28 (IntKind.i64.wrap (x23 + (1 : Int)))))) (F38_j0 N a0)
def F38_l0 (N : Nat) (a0 : (List (Int × (ByteArray × (Int × (Int × (Int × (Bool × (List Int))))))))) : Nat → Int → Option (Bool) := loopF (F38_l0_b N a0) (fun _ => none)
theorem F38_l0_s (N : Nat) (a0 : (List (Int × (ByteArray × (Int × (Int × (Int × (Bool × (List Int))))))))) {k : Nat} (hk : 0 < k) (x23 : Int) : F38_l0 N a0 k x23 = F38_l0_b N a0 (F38_l0 N a0 (k - 1)) x23 := by
  cases k with
  | zero => exact absurd hk (Nat.lt_irrefl 0)
  | succ m => rfl
def F38 (N : Nat) (a0 : (List (Int × (ByteArray × (Int × (Int × (Int × (Bool × (List Int))))))))) : Option (Bool) :=
  andO (F48 N (a0.length : Int) (1 : Int) (40 : Int)) fun y2 => cond (!y2) (some false) (F38_l0 N a0 N (0 : Int))
theorem ok38 (N : Nat) (a0 : (List (Int × (ByteArray × (Int × (Int × (Int × (Bool × (List Int))))))))) {r : Bool} (h : F38 N a0 = some r) : Con Go.Proofs.Tryd.prog 38 [.lf (.v (.sl Y23) a0)] [.lf (.v .bool r)] := by
  refine ctr [.lf (.v .bool)] T_ok Go.Proofs.Tryd.func38 rfl fun w0 E0 ht => ?_
  unfold F38 at h
  show VW _ _ _ _ _ (retQ _ _ _ _) _
  refine sR T_ok [0] [] ⟨[(0, .lf (.v (.sl Y23) a0))], []⟩ (tn 1) ?_
  refine VW.seq ?_
  refine VW.seq ?_
  refine VW.region ?_
  refine sG T_ok 2 [0, 7] [] ⟨[(0, .lf (.v (.sl Y23) a0)), (7, I (a0.length : Int))], []⟩ (tn 2) ?_
  obtain ⟨y2, hy, h⟩ := andO_some h
  refine cal false [.t (.int .i64), .t (.int .i64), .t (.int .i64)] [] (some 8) T_ok (ok48 N _ _ _ hy) ?_
  refine sN T_ok [0, 9] [] ⟨[(0, .lf (.v (.sl Y23) a0)), (9, B (!y2))], []⟩ (tn 1) ?_
  refine cnd h (fun h => ?_) (fun h => ?_)
  · refine sR T_ok [2] [] ⟨[(2, B false)], []⟩ (tn 1) ?_
    refine VW.ret ?_
    replace h := Option.some.inj h
    subst h
    exact rt []
  refine VW.skip ?_
  refine VW.join (fun s => s = ⟨[(0, .lf (.v (.sl Y23) a0))], []⟩ ∧ F38_j0 N a0 = some r) ?_ ?_
  · refine sR T_ok [0, 3] [] ⟨[(0, .lf (.v (.sl Y23) a0)), (3, I (0 : Int))], []⟩ (tn 1) ?_
    refine VW.block ?_
    refine lop (fun k s => ∃ (x23 : Int), s = ⟨[(0, .lf (.v (.sl Y23) a0)), (3, I x23)], []⟩ ∧ F38_l0 N a0 k x23 = some r) N [.ren [0, 3] []] ⟨(0 : Int), rfl, h⟩ ?_
    rintro k28 s ⟨x23, rfl, h⟩
    cases k28 with
    | zero => cases show none = some r from h
    | succ k28 =>
      replace h : F38_l0_b N a0 (F38_l0 N a0 k28) x23 = some r := h
      unfold F38_l0_b at h
      refine VW.seq ?_
      refine sR T_ok [0, 3, 13] [] ⟨[(0, .lf (.v (.sl Y23) a0)), (3, I x23), (13, B (decide (x23 < (a0.length : Int))))], []⟩ (tn 4) ?_
      refine cnd h (fun h => ?_) (fun h => ?_)
      · refine VW.skip ?_
        refine VW.seq ?_
        refine VW.block ?_
        refine VW.seq ?_
        refine VW.region ?_
        obtain ⟨g31, h⟩ := gd_some h
        refine sG T_ok 4 [0, 3, 19] [] ⟨[(0, .lf (.v (.sl Y23) a0)), (3, I x23), (19, .agg [.v (.int .i64) ((a0.getD x23.toNat (Ty.dflt Y23)).1), .v .str ((a0.getD x23.toNat (Ty.dflt Y23)).2.1), .v (.int .i64) ((a0.getD x23.toNat (Ty.dflt Y23)).2.2.1), .v (.int .i64) ((a0.getD x23.toNat (Ty.dflt Y23)).2.2.2.1), .v (.int .i64) ((a0.getD x23.toNat (Ty.dflt Y23)).2.2.2.2.1), .v .bool ((a0.getD x23.toNat (Ty.dflt Y23)).2.2.2.2.2.1), .v (.sl (.int .i64)) ((a0.getD x23.toNat (Ty.dflt Y23)).2.2.2.2.2.2)])], []⟩ (pu 2 (an g31 (tn 1))) ?_
        obtain ⟨y32, hy, h⟩ := andO_some h
        refine cal false [.t Y23] [] (some 20) T_ok (ok25 N _ hy) ?_
        refine sN T_ok [0, 3, 21] [] ⟨[(0, .lf (.v (.sl Y23) a0)), (3, I x23), (21, B (!y32))], []⟩ (tn 1) ?_
        refine cnd h (fun h => ?_) (fun h => ?_)
        · refine sR T_ok [2] [] ⟨[(2, B false)], []⟩ (tn 1) ?_
          refine VW.ret ?_
          replace h := Option.some.inj h
          subst h
          exact rt []
        refine VW.skip ?_
        refine rR T_ok [0, 3] [] ⟨[(0, .lf (.v (.sl Y23) a0)), (3, I (IntKind.i64.wrap (x23 + (1 : Int))))], []⟩ (tn 3) ?_
        exact aro [.ren [0, 3] []] ⟨(IntKind.i64.wrap (x23 + (1 : Int))), rfl, h⟩
      refine VW.exit ?_
      exact arv [.ren [0] []] ⟨rfl, h⟩
  rintro s ⟨rfl, h⟩
  unfold F38_j0 at h
  refine VW.seq ?_
  refine VW.region ?_
  refine sG T_ok 1 [0, 23] [] ⟨[(0, .lf (.v (.sl Y23) a0)), (23, .lf (.v (.sl Y23) a0))], []⟩ (tn 1) ?_
  obtain ⟨y17, hy, h⟩ := andO_some h
  refine cal false [.t (.sl Y23), .t (.int .i64), .t (.int .i64)] [] (some 24) T_ok (ok62 N _ _ _ hy) ?_
  refine sN T_ok [0, 4] [] ⟨[(0, .lf (.v (.sl Y23) a0)), (4, I y17.1)], []⟩ (tn 5) ?_
  refine sR T_ok [2] [] ⟨[(2, B (y17.1 == (a0.length : Int)))], []⟩ (tn 5) ?_
  refine VW.ret ?_
  replace h := Option.some.inj h
  subst h
  exact rt []

/- loop.example/g00844/spec.PrintPlan -/
def F13_j0 (N : Nat) (x48 : ByteArray) : Option (ByteArray) :=
  some x48
def F13_j1 (N : Nat) (a0 : (List (Int × (ByteArray × (Int × (Int × (Int × (Bool × (List Int))))))))) (nx80 : ByteArray → Int → Option (ByteArray)) (x65 : Int) (x89 : ByteArray) : Option (ByteArray) :=
  gd (InR x65 a0.length) (andO (F8 N (a0.getD x65.toNat (Ty.dflt Y23))) fun y91 => gd (x89.size + y91.size ≤ 9223372036854775807) (nx80 (x89 ++ y91) (IntKind.i64.wrap (x65 + (1 : Int)))))
def F13_l0_b (N : Nat) (a0 : (List (Int × (ByteArray × (Int × (Int × (Int × (Bool × (List Int))))))))) (nx80 : ByteArray → Int → Option (ByteArray)) (x64 : ByteArray) (x65 : Int) : Option (ByteArray) :=
  cond (decide (x65 < (a0.length : Int))) (cond (decide (x65 > (0 : Int))) (gd (x64.size + (⟨#[32]⟩ : ByteArray).size ≤ 9223372036854775807) (F13_j1 N a0 nx80 x65 (x64 ++ (⟨#[32]⟩ : ByteArray)))) (F13_j1 N a0 nx80 x65 x64)) (F13_j0 N x64)
def F13_l0 (N : Nat) (a0 : (List (Int × (ByteArray × (Int × (Int × (Int × (Bool × (List Int))))))))) : Nat → ByteArray → Int → Option (ByteArray) := loopF (F13_l0_b N a0) (fun _ _ => none)
theorem F13_l0_s (N : Nat) (a0 : (List (Int × (ByteArray × (Int × (Int × (Int × (Bool × (List Int))))))))) {k : Nat} (hk : 0 < k) (x64 : ByteArray) (x65 : Int) : F13_l0 N a0 k x64 x65 = F13_l0_b N a0 (F13_l0 N a0 (k - 1)) x64 x65 := by
  cases k with
  | zero => exact absurd hk (Nat.lt_irrefl 0)
  | succ m => rfl
def F13 (N : Nat) (a0 : (List (Int × (ByteArray × (Int × (Int × (Int × (Bool × (List Int))))))))) : Option (ByteArray) :=
  andO (F38 N a0) fun y2 => cond (!y2) (some ByteArray.empty) (F13_l0 N a0 N ByteArray.empty (0 : Int))
theorem ok13 (N : Nat) (a0 : (List (Int × (ByteArray × (Int × (Int × (Int × (Bool × (List Int))))))))) {r : ByteArray} (h : F13 N a0 = some r) : Con Go.Proofs.Tryd.prog 13 [.lf (.v (.sl Y23) a0)] [.lf (.v .str r)] := by
  refine ctr [.lf (.v .str)] T_ok Go.Proofs.Tryd.func13 rfl fun w0 E0 ht => ?_
  unfold F13 at h
  show VW _ _ _ _ _ (retQ _ _ _ _) _
  refine sR T_ok [0] [] ⟨[(0, .lf (.v (.sl Y23) a0))], []⟩ (tn 1) ?_
  refine VW.seq ?_
  refine VW.seq ?_
  refine VW.region ?_
  refine sG T_ok 1 [0, 5] [] ⟨[(0, .lf (.v (.sl Y23) a0)), (5, .lf (.v (.sl Y23) a0))], []⟩ (tn 1) ?_
  obtain ⟨y2, hy, h⟩ := andO_some h
  refine cal false [.t (.sl Y23)] [] (some 6) T_ok (ok38 N _ hy) ?_
  refine sN T_ok [0, 7] [] ⟨[(0, .lf (.v (.sl Y23) a0)), (7, B (!y2))], []⟩ (tn 1) ?_
  refine cnd h (fun h => ?_) (fun h => ?_)
  · refine sR T_ok [2] [] ⟨[(2, S ByteArray.empty)], []⟩ (tn 1) ?_
    refine VW.ret ?_
    replace h := Option.some.inj h
    subst h
    exact rt []
  refine VW.skip ?_
  refine sR T_ok [0, 3] [] ⟨[(0, .lf (.v (.sl Y23) a0)), (3, S ByteArray.empty)], []⟩ (tn 1) ?_
  refine VW.join (fun s => ∃ (x48 : ByteArray), s = ⟨[(3, S x48)], []⟩ ∧ F13_j0 N x48 = some r) ?_ ?_
  · refine sR T_ok [0, 3, 4] [] ⟨[(0, .lf (.v (.sl Y23) a0)), (3, S ByteArray.empty), (4, I (0 : Int))], []⟩ (tn 1) ?_
    refine VW.block ?_
    refine lop (fun k s => ∃ (x64 : ByteArray) (x65 : Int), s = ⟨[(0, .lf (.v (.sl Y23) a0)), (3, S x64), (4, I x65)], []⟩ ∧ F13_l0 N a0 k x64 x65 = some r) N [.ren [0, 3, 4] []] ⟨ByteArray.empty, (0 : Int), rfl, h⟩ ?_
    rintro k80 s ⟨x64, x65, rfl, h⟩
    cases k80 with
    | zero => cases show none = some r from h
    | succ k80 =>
      replace h : F13_l0_b N a0 (F13_l0 N a0 k80) x64 x65 = some r := h
      unfold F13_l0_b at h
      refine VW.seq ?_
      refine sR T_ok [0, 3, 4, 11] [] ⟨[(0, .lf (.v (.sl Y23) a0)), (3, S x64), (4, I x65), (11, B (decide (x65 < (a0.length : Int))))], []⟩ (tn 4) ?_
      refine cnd h (fun h => ?_) (fun h => ?_)
      · refine VW.skip ?_
        refine VW.seq ?_
        refine VW.block ?_
        refine VW.join (fun s => ∃ (x89 : ByteArray), s = ⟨[(0, .lf (.v (.sl Y23) a0)), (3, S x89), (4, I x65)], []⟩ ∧ F13_j1 N a0 (F13_l0 N a0 k80) x65 x89 = some r) ?_ ?_
        · refine sR T_ok [0, 3, 4, 15] [] ⟨[(0, .lf (.v (.sl Y23) a0)), (3, S x64), (4, I x65), (15, B (decide (x65 > (0 : Int))))], []⟩ (tn 2) ?_
          refine cnd h (fun h => ?_) (fun h => ?_)
          · obtain ⟨g94, h⟩ := gd_some h
            refine rR T_ok [0, 3, 4] [] ⟨[(0, .lf (.v (.sl Y23) a0)), (3, S (x64 ++ (⟨#[32]⟩ : ByteArray))), (4, I x65)], []⟩ (pu 1 (an g94 (tn 1))) ?_
            exact arv [.ren [0, 3, 4] []] ⟨(x64 ++ (⟨#[32]⟩ : ByteArray)), rfl, h⟩
          refine VW.skip ?_
          exact arv [.ren [0, 3, 4] []] ⟨x64, rfl, h⟩
        rintro s ⟨x89, rfl, h⟩
        unfold F13_j1 at h
        refine VW.region ?_
        obtain ⟨g90, h⟩ := gd_some h
        refine sG T_ok 5 [0, 4, 18, 22] [] ⟨[(0, .lf (.v (.sl Y23) a0)), (4, I x65), (18, S x89), (22, .agg [.v (.int .i64) ((a0.getD x65.toNat (Ty.dflt Y23)).1), .v .str ((a0.getD x65.toNat (Ty.dflt Y23)).2.1), .v (.int .i64) ((a0.getD x65.toNat (Ty.dflt Y23)).2.2.1), .v (.int .i64) ((a0.getD x65.toNat (Ty.dflt Y23)).2.2.2.1), .v (.int .i64) ((a0.getD x65.toNat (Ty.dflt Y23)).2.2.2.2.1), .v .bool ((a0.getD x65.toNat (Ty.dflt Y23)).2.2.2.2.2.1), .v (.sl (.int .i64)) ((a0.getD x65.toNat (Ty.dflt Y23)).2.2.2.2.2.2)])], []⟩ (pu 3 (an g90 (tn 1))) ?_
        obtain ⟨y91, hy, h⟩ := andO_some h
        refine cal false [.t Y23] [] (some 23) T_ok (ok8 N _ hy) ?_
        obtain ⟨g92, h⟩ := gd_some h
        refine sN T_ok [0, 3, 4] [] ⟨[(0, .lf (.v (.sl Y23) a0)), (3, S (x89 ++ y91)), (4, I x65)], []⟩ (an g92 (tn 1)) ?_
        refine rR T_ok [0, 3, 4] [] ⟨[(0, .lf (.v (.sl Y23) a0)), (3, S (x89 ++ y91)), (4, I (IntKind.i64.wrap (x65 + (1 : Int))))], []⟩ (tn 3) ?_
        exact aro [.ren [0, 3, 4] []] ⟨(x89 ++ y91), (IntKind.i64.wrap (x65 + (1 : Int))), rfl, h⟩
      refine VW.exit ?_
      exact arv [.ren [3] []] ⟨x64, rfl, h⟩
  rintro s ⟨x48, rfl, h⟩
  unfold F13_j0 at h
  refine sR T_ok [2] [] ⟨[(2, S x48)], []⟩ (tn 2) ?_
  refine VW.ret ?_
  replace h := Option.some.inj h
  subst h
  exact rt []

/- loop.example/g00844/laws.toNodeS -/
def F14_j0 (N : Nat) (x30 : (List (Int × (ByteArray × (Int × (Int × (Int × (Bool × (List Int))))))))) : Option ((List (Int × (ByteArray × (Int × (Int × (Int × (Bool × (List Int))))))))) :=
  some x30
def F14_l0_b (N : Nat) (a0 : (List (Int × (ByteArray × (Int × (Int × (Int × (Bool × (List Int))))))))) (nx51 : (List (Int × (ByteArray × (Int × (Int × (Int × (Bool × (List Int)))))))) → Int → Option ((List (Int × (ByteArray × (Int × (Int × (Int × (Bool × (List Int)))))))))) (x41 : (List (Int × (ByteArray × (Int × (Int × (Int × (Bool × (List Int))))))))) (x42 : Int) : Option ((List (Int × (ByteArray × (Int × (Int × (Int × (Bool × (List Int))))))))) :=
  cond (decide (x42 < (a0.length : Int))) (gd (InR x42 a0.length) (andO (F9 N (a0.getD x42.toNat (Ty.dflt Y23))) fun y57 => gd (InR x42 x41.length) (gd (x42.toNat < x41.length) (nx51 (x41.set x42.toNat y57) (IntKind.i64.wrap (x42 + (1 : Int))))))) (F14_j0 N x41)
def F14_l0 (N : Nat) (a0 : (List (Int × (ByteArray × (Int × (Int × (Int × (Bool × (List Int))))))))) : Nat → (List (Int × (ByteArray × (Int × (Int × (Int × (Bool × (List Int)))))))) → Int → Option ((List (Int × (ByteArray × (Int × (Int × (Int × (Bool × (List Int))))))))) := loopF (F14_l0_b N a0) (fun _ _ => none)
theorem F14_l0_s (N : Nat) (a0 : (List (Int × (ByteArray × (Int × (Int × (Int × (Bool × (List Int))))))))) {k : Nat} (hk : 0 < k) (x41 : (List (Int × (ByteArray × (Int × (Int × (Int × (Bool × (List Int))))))))) (x42 : Int) : F14_l0 N a0 k x41 x42 = F14_l0_b N a0 (F14_l0 N a0 (k - 1)) x41 x42 := by
  cases k with
  | zero => exact absurd hk (Nat.lt_irrefl 0)
  | succ m => rfl
def F14 (N : Nat) (a0 : (List (Int × (ByteArray × (Int × (Int × (Int × (Bool × (List Int))))))))) : Option ((List (Int × (ByteArray × (Int × (Int × (Int × (Bool × (List Int))))))))) :=
  gd (0 ≤ (a0.length : Int) ∧ (a0.length : Int) ≤ (lim Y23 : Int) ∧ (a0.length : Int) = (a0.length : Int)) (F14_l0 N a0 N (List.replicate (a0.length : Int).toNat (Ty.dflt Y23)) (0 : Int))
theorem ok14 (N : Nat) (a0 : (List (Int × (ByteArray × (Int × (Int × (Int × (Bool × (List Int))))))))) {r : (List (Int × (ByteArray × (Int × (Int × (Int × (Bool × (List Int))))))))} (h : F14 N a0 = some r) : Con Go.Proofs.Tryd.prog 14 [.lf (.v (.sl Y23) a0)] [.lf (.own Y23 r .dp)] := by
  refine ctr [.lf (.own Y23 .dp)] T_ok Go.Proofs.Tryd.func14 rfl fun w0 E0 ht => ?_
  unfold F14 at h
  show VW _ _ _ _ _ (retQ _ _ _ _) _
  refine sR T_ok [0] [] ⟨[(0, .lf (.v (.sl Y23) a0))], []⟩ (tn 1) ?_
  obtain ⟨g1, h⟩ := gd_some h
  refine sR T_ok [0, 3] [0] ⟨[(0, .lf (.v (.sl Y23) a0)), (3, .lf (.hd 0 0 none))], [ar 0 Y23 (List.replicate (a0.length : Int).toNat (Ty.dflt Y23)) .dp]⟩ (pu 2 (an g1 (tn 1))) ?_
  refine VW.join (fun s => ∃ (x30 : (List (Int × (ByteArray × (Int × (Int × (Int × (Bool × (List Int))))))))), s = ⟨[(3, .lf (.hd 0 0 none))], [ar 0 Y23 x30 .dp]⟩ ∧ F14_j0 N x30 = some r) ?_ ?_
  · refine sR T_ok [0, 3, 4] [0] ⟨[(0, .lf (.v (.sl Y23) a0)), (3, .lf (.hd 0 0 none)), (4, I (0 : Int))], [ar 0 Y23 (List.replicate (a0.length : Int).toNat (Ty.dflt Y23)) .dp]⟩ (tn 1) ?_
    refine VW.block ?_
    refine lop (fun k s => ∃ (x41 : (List (Int × (ByteArray × (Int × (Int × (Int × (Bool × (List Int))))))))) (x42 : Int), s = ⟨[(0, .lf (.v (.sl Y23) a0)), (3, .lf (.hd 0 0 none)), (4, I x42)], [ar 0 Y23 x41 .dp]⟩ ∧ F14_l0 N a0 k x41 x42 = some r) N [.ren [0, 3, 4] [0]] ⟨(List.replicate (a0.length : Int).toNat (Ty.dflt Y23)), (0 : Int), rfl, h⟩ ?_
    rintro k51 s ⟨x41, x42, rfl, h⟩
    cases k51 with
    | zero => cases show none = some r from h
    | succ k51 =>
      replace h : F14_l0_b N a0 (F14_l0 N a0 k51) x41 x42 = some r := h
      unfold F14_l0_b at h
      refine VW.seq ?_
      refine sR T_ok [0, 3, 4, 11] [0] ⟨[(0, .lf (.v (.sl Y23) a0)), (3, .lf (.hd 0 0 none)), (4, I x42), (11, B (decide (x42 < (a0.length : Int))))], [ar 0 Y23 x41 .dp]⟩ (tn 4) ?_
      refine cnd h (fun h => ?_) (fun h => ?_)
      · refine VW.skip ?_
        refine VW.seq ?_
        refine VW.block ?_
        refine VW.region ?_
        obtain ⟨g56, h⟩ := gd_some h
        refine sG T_ok 6 [0, 3, 4, 14, 15, 19] [0] ⟨[(0, .lf (.v (.sl Y23) a0)), (3, .lf (.hd 0 0 none)), (4, I x42), (14, .lf (.hd 0 0 none)), (15, I x42), (19, .agg [.v (.int .i64) ((a0.getD x42.toNat (Ty.dflt Y23)).1), .v .str ((a0.getD x42.toNat (Ty.dflt Y23)).2.1), .v (.int .i64) ((a0.getD x42.toNat (Ty.dflt Y23)).2.2.1), .v (.int .i64) ((a0.getD x42.toNat (Ty.dflt Y23)).2.2.2.1), .v (.int .i64) ((a0.getD x42.toNat (Ty.dflt Y23)).2.2.2.2.1), .v .bool ((a0.getD x42.toNat (Ty.dflt Y23)).2.2.2.2.2.1), .v (.sl (.int .i64)) ((a0.getD x42.toNat (Ty.dflt Y23)).2.2.2.2.2.2)])], [ar 0 Y23 x41 .dp]⟩ (pu 4 (an g56 (tn 1))) ?_
        obtain ⟨y57, hy, h⟩ := andO_some h
        refine cal false [.t Y23] [] (some 20) T_ok (ok9 N _ hy) ?_
        obtain ⟨g58, h⟩ := gd_some h
        refine sG T_ok 1 [0, 3, 4, 20, 21] [0, 1] ⟨[(0, .lf (.v (.sl Y23) a0)), (3, .lf (.hd 0 0 none)), (4, I x42), (20, .agg [.v (.int .i64) y57.1, .v .str y57.2.1, .v (.int .i64) y57.2.2.1, .v (.int .i64) y57.2.2.2.1, .v (.int .i64) y57.2.2.2.2.1, .v .bool y57.2.2.2.2.2.1, .hd 1 0 none]), (21, .lf (.ptr 0 0 x42.toNat 0))], [ar 0 Y23 x41 .dp, ar 0 (.int .i64) y57.2.2.2.2.2.2 .dp]⟩ (an g58 (tn 0)) ?_
        obtain ⟨g59, h⟩ := gd_some h
        refine VO.storeA (φ := x42.toNat < x41.length) (H' := [ar 0 Y23 (x41.set x42.toNat y57) .dp, none]) T_ok (by kernel_rfl) g59 ?_
        refine sN T_ok [0, 3, 4] [0] ⟨[(0, .lf (.v (.sl Y23) a0)), (3, .lf (.hd 0 0 none)), (4, I x42)], [ar 0 Y23 (x41.set x42.toNat y57) .dp]⟩ (tn 0) ?_
        refine rR T_ok [0, 3, 4] [0] ⟨[(0, .lf (.v (.sl Y23) a0)), (3, .lf (.hd 0 0 none)), (4, I (IntKind.i64.wrap (x42 + (1 : Int))))], [ar 0 Y23 (x41.set x42.toNat y57) .dp]⟩ (tn 3) ?_
        exact aro [.ren [0, 3, 4] [0]] ⟨(x41.set x42.toNat y57), (IntKind.i64.wrap (x42 + (1 : Int))), rfl, h⟩
      refine VW.exit ?_
      exact arv [.ren [3] [0]] ⟨x41, rfl, h⟩
  rintro s ⟨x30, rfl, h⟩
  unfold F14_j0 at h
  refine sR T_ok [2] [0] ⟨[(2, .lf (.hd 0 0 none))], [ar 0 Y23 x30 .dp]⟩ (tn 2) ?_
  refine VW.ret ?_
  replace h := Option.some.inj h
  subst h
  exact rt [some 0]

/- slices.IndexFunc[[]loop.example/g00844/impl.Node,loop.example/g00844/impl.Node] -/
def F78_j0 (N : Nat) : Option (Int) :=
  some (-1 : Int)
def F78_l0_b (N : Nat) (a0 : (List (Int × (ByteArray × (Int × (Int × (Int × (Bool × (List Int))))))))) (p1 : (Int × (ByteArray × (Int × (Int × (Int × (Bool × (List Int))))))) → Option (Bool)) (nx29 : Int → Int → Option (Int)) (x23 : Int) (x24 : Int) : Option (Int) :=
  cond (decide (x24 < x23)) (gd (InR x24 a0.length) (andO (p1 (a0.getD x24.toNat (Ty.dflt Y23))) fun y33 => cond y33 (some x24) (nx29 x23 (IntKind.i64.wrap (x24 + (1 : Int)))))) (F78_j0 N)
def F78_l0 (N : Nat) (a0 : (List (Int × (ByteArray × (Int × (Int × (Int × (Bool × (List Int))))))))) (p1 : (Int × (ByteArray × (Int × (Int × (Int × (Bool × (List Int))))))) → Option (Bool)) : Nat → Int → Int → Option (Int) := loopF (F78_l0_b N a0 p1) (fun _ _ => none)
theorem F78_l0_s (N : Nat) (a0 : (List (Int × (ByteArray × (Int × (Int × (Int × (Bool × (List Int))))))))) (p1 : (Int × (ByteArray × (Int × (Int × (Int × (Bool × (List Int))))))) → Option (Bool)) {k : Nat} (hk : 0 < k) (x23 : Int) (x24 : Int) : F78_l0 N a0 p1 k x23 x24 = F78_l0_b N a0 p1 (F78_l0 N a0 p1 (k - 1)) x23 x24 := by
  cases k with
  | zero => exact absurd hk (Nat.lt_irrefl 0)
  | succ m => rfl
def F78 (N : Nat) (a0 : (List (Int × (ByteArray × (Int × (Int × (Int × (Bool × (List Int))))))))) (p1 : (Int × (ByteArray × (Int × (Int × (Int × (Bool × (List Int))))))) → Option (Bool)) : Option (Int) :=
  F78_l0 N a0 p1 N (a0.length : Int) (0 : Int)
theorem ok78 (N : Nat) (a0 : (List (Int × (ByteArray × (Int × (Int × (Int × (Bool × (List Int))))))))) (g1 : FuncId) (p1 : (Int × (ByteArray × (Int × (Int × (Int × (Bool × (List Int))))))) → Option (Bool)) (hp1 : ∀ (z0 : (Int × (ByteArray × (Int × (Int × (Int × (Bool × (List Int)))))))) (r : Bool), p1 z0 = some r → Con Go.Proofs.Tryd.prog g1 [.agg [.v (.int .i64) z0.1, .v .str z0.2.1, .v (.int .i64) z0.2.2.1, .v (.int .i64) z0.2.2.2.1, .v (.int .i64) z0.2.2.2.2.1, .v .bool z0.2.2.2.2.2.1, .v (.sl (.int .i64)) z0.2.2.2.2.2.2]] [.lf (.v .bool r)]) {r : Int} (h : F78 N a0 p1 = some r) : Con Go.Proofs.Tryd.prog 78 [.lf (.v (.sl Y23) a0), .clo g1 []] [.lf (.v (.int .i64) r)] := by
  refine ctr [.lf (.v (.int .i64))] T_ok Go.Proofs.Tryd.func78 rfl fun w0 E0 ht => ?_
  unfold F78 at h
  show VW _ _ _ _ _ (retQ _ _ _ _) _
  refine sR T_ok [0, 1] [] ⟨[(0, .lf (.v (.sl Y23) a0)), (1, .clo g1 [])], []⟩ (tn 1) ?_
  refine VW.join (fun s => s = ⟨[], []⟩ ∧ F78_j0 N = some r) ?_ ?_
  · refine sR T_ok [0, 1, 7, 8] [] ⟨[(0, .lf (.v (.sl Y23) a0)), (1, .clo g1 []), (7, I (a0.length : Int)), (8, I (0 : Int))], []⟩ (tn 3) ?_
    refine VW.block ?_
    refine lop (fun k s => ∃ (x23 : Int) (x24 : Int), s = ⟨[(0, .lf (.v (.sl Y23) a0)), (1, .clo g1 []), (7, I x23), (8, I x24)], []⟩ ∧ F78_l0 N a0 p1 k x23 x24 = some r) N [.ren [0, 1, 7, 8] []] ⟨(a0.length : Int), (0 : Int), rfl, h⟩ ?_
    rintro k29 s ⟨x23, x24, rfl, h⟩
    cases k29 with
    | zero => cases show none = some r from h
    | succ k29 =>
      replace h : F78_l0_b N a0 p1 (F78_l0 N a0 p1 k29) x23 x24 = some r := h
      unfold F78_l0_b at h
      refine sR T_ok [0, 1, 7, 8, 9] [] ⟨[(0, .lf (.v (.sl Y23) a0)), (1, .clo g1 []), (7, I x23), (8, I x24), (9, B (decide (x24 < x23)))], []⟩ (tn 1) ?_
      refine VW.seq ?_
      refine cnd h (fun h => ?_) (fun h => ?_)
      · refine VW.skip ?_
        refine VW.seq ?_
        refine VW.block ?_
        refine sR T_ok [0, 1, 5, 7, 8] [] ⟨[(0, .lf (.v (.sl Y23) a0)), (1, .clo g1 []), (5, I x24), (7, I x23), (8, I x24)], []⟩ (tn 2) ?_
        refine VW.seq ?_
        refine VW.region ?_
        obtain ⟨g32, h⟩ := gd_some h
        refine sG T_ok 5 [0, 1, 5, 7, 8, 11, 15] [] ⟨[(0, .lf (.v (.sl Y23) a0)), (1, .clo g1 []), (5, I x24), (7, I x23), (8, I x24), (11, .clo g1 []), (15, .agg [.v (.int .i64) ((a0.getD x24.toNat (Ty.dflt Y23)).1), .v .str ((a0.getD x24.toNat (Ty.dflt Y23)).2.1), .v (.int .i64) ((a0.getD x24.toNat (Ty.dflt Y23)).2.2.1), .v (.int .i64) ((a0.getD x24.toNat (Ty.dflt Y23)).2.2.2.1), .v (.int .i64) ((a0.getD x24.toNat (Ty.dflt Y23)).2.2.2.2.1), .v .bool ((a0.getD x24.toNat (Ty.dflt Y23)).2.2.2.2.2.1), .v (.sl (.int .i64)) ((a0.getD x24.toNat (Ty.dflt Y23)).2.2.2.2.2.2)])], []⟩ (pu 3 (an g32 (tn 1))) ?_
        obtain ⟨y33, hy, h⟩ := andO_some h
        refine cal false [.t Y23] [] (some 16) T_ok (hp1 _ _ hy) ?_
        refine sN T_ok [0, 1, 5, 7, 8, 16] [] ⟨[(0, .lf (.v (.sl Y23) a0)), (1, .clo g1 []), (5, I x24), (7, I x23), (8, I x24), (16, B y33)], []⟩ (tn 0) ?_
        refine cnd h (fun h => ?_) (fun h => ?_)
        · refine sR T_ok [4] [] ⟨[(4, I x24)], []⟩ (tn 2) ?_
          refine VW.ret ?_
          replace h := Option.some.inj h
          subst h
          exact rt []
        refine VW.skip ?_
        refine rR T_ok [0, 1, 7, 8] [] ⟨[(0, .lf (.v (.sl Y23) a0)), (1, .clo g1 []), (7, I x23), (8, I (IntKind.i64.wrap (x24 + (1 : Int))))], []⟩ (tn 2) ?_
        exact aro [.ren [0, 1, 7, 8] []] ⟨x23, (IntKind.i64.wrap (x24 + (1 : Int))), rfl, h⟩
      refine VW.exit ?_
      exact arv [.ren [] []] ⟨rfl, h⟩
  rintro s ⟨rfl, h⟩
  unfold F78_j0 at h
  refine sR T_ok [4] [] ⟨[(4, I (-1 : Int))], []⟩ (tn 1) ?_
  refine VW.ret ?_
  replace h := Option.some.inj h
  subst h
  exact rt []

/- slices.ContainsFunc[[]loop.example/g00844/impl.Node,loop.example/g00844/impl.Node] -/
def F63 (N : Nat) (a0 : (List (Int × (ByteArray × (Int × (Int × (Int × (Bool × (List Int))))))))) (p1 : (Int × (ByteArray × (Int × (Int × (Int × (Bool × (List Int))))))) → Option (Bool)) : Option (Bool) :=
  andO (F78 N a0 p1) fun y1 => some (decide (y1 ≥ (0 : Int)))
theorem ok63 (N : Nat) (a0 : (List (Int × (ByteArray × (Int × (Int × (Int × (Bool × (List Int))))))))) (g1 : FuncId) (p1 : (Int × (ByteArray × (Int × (Int × (Int × (Bool × (List Int))))))) → Option (Bool)) (hp1 : ∀ (z0 : (Int × (ByteArray × (Int × (Int × (Int × (Bool × (List Int)))))))) (r : Bool), p1 z0 = some r → Con Go.Proofs.Tryd.prog g1 [.agg [.v (.int .i64) z0.1, .v .str z0.2.1, .v (.int .i64) z0.2.2.1, .v (.int .i64) z0.2.2.2.1, .v (.int .i64) z0.2.2.2.2.1, .v .bool z0.2.2.2.2.2.1, .v (.sl (.int .i64)) z0.2.2.2.2.2.2]] [.lf (.v .bool r)]) {r : Bool} (h : F63 N a0 p1 = some r) : Con Go.Proofs.Tryd.prog 63 [.lf (.v (.sl Y23) a0), .clo g1 []] [.lf (.v .bool r)] := by
  refine ctr [.lf (.v .bool)] T_ok Go.Proofs.Tryd.func63 rfl fun w0 E0 ht => ?_
  unfold F63 at h
  show VW _ _ _ _ _ (retQ _ _ _ _) _
  refine sR T_ok [0, 1] [] ⟨[(0, .lf (.v (.sl Y23) a0)), (1, .clo g1 [])], []⟩ (tn 1) ?_
  refine VW.seq ?_
  refine VW.region ?_
  refine sG T_ok 2 [5, 6] [] ⟨[(5, .lf (.v (.sl Y23) a0)), (6, .clo g1 [])], []⟩ (tn 2) ?_
  obtain ⟨y1, hy, h⟩ := andO_some h
  refine cal false [.t (.sl Y23), .clo []] [] (some 7) T_ok (ok78 N _ g1  p1 hp1 hy) ?_
  refine sN T_ok [4] [] ⟨[(4, B (decide (y1 ≥ (0 : Int))))], []⟩ (tn 2) ?_
  refine VW.ret ?_
  replace h := Option.some.inj h
  subst h
  exact rt []

/- loop.example/g00844/impl.PlanOk$1 -/
def F64 (N : Nat) (a0 : (Int × (ByteArray × (Int × (Int × (Int × (Bool × (List Int)))))))) : Option (Bool) :=
  andO (F31 N a0) fun y1 => some (!y1)
theorem ok64 (N : Nat) (a0 : (Int × (ByteArray × (Int × (Int × (Int × (Bool × (List Int)))))))) {r : Bool} (h : F64 N a0 = some r) : Con Go.Proofs.Tryd.prog 64 [.agg [.v (.int .i64) a0.1, .v .str a0.2.1, .v (.int .i64) a0.2.2.1, .v (.int .i64) a0.2.2.2.1, .v (.int .i64) a0.2.2.2.2.1, .v .bool a0.2.2.2.2.2.1, .v (.sl (.int .i64)) a0.2.2.2.2.2.2]] [.lf (.v .bool r)] := by
  refine ctr [.lf (.v .bool)] T_ok Go.Proofs.Tryd.func64 rfl fun w0 E0 ht => ?_
  unfold F64 at h
  show VW _ _ _ _ _ (retQ _ _ _ _) _
  refine sR T_ok [1] [0] ⟨[(1, .lf (.ptr 0 0 0 0))], [bx [.v (.int .i64) a0.1, .v .str a0.2.1, .v (.int .i64) a0.2.2.1, .v (.int .i64) a0.2.2.2.1, .v (.int .i64) a0.2.2.2.2.1, .v .bool a0.2.2.2.2.2.1, .v (.sl (.int .i64)) a0.2.2.2.2.2.2] 27]⟩ (tn 2) ?_
  refine VW.seq ?_
  refine VW.region ?_
  refine sG T_ok 1 [3] [] ⟨[(3, .agg [.v (.int .i64) a0.1, .v .str a0.2.1, .v (.int .i64) a0.2.2.1, .v (.int .i64) a0.2.2.2.1, .v (.int .i64) a0.2.2.2.2.1, .v .bool a0.2.2.2.2.2.1, .v (.sl (.int .i64)) a0.2.2.2.2.2.2])], []⟩ (tn 1) ?_
  obtain ⟨y1, hy, h⟩ := andO_some h
  refine cal false [.t Y23] [] (some 4) T_ok (ok31 N _ hy) ?_
  refine sN T_ok [2] [] ⟨[(2, B (!y1))], []⟩ (tn 2) ?_
  refine VW.ret ?_
  replace h := Option.some.inj h
  subst h
  exact rt []

/- loop.example/g00844/impl.ArityOf -/
def F79_j0 (N : Nat) (x6 : Bool) : Option (Int) :=
  cond x6 (some (1 : Int)) (some (-1 : Int))
def F79_j1 (N : Nat) (a0 : Int) (x5 : Bool) : Option (Int) :=
  cond x5 (some (2 : Int)) (cond (a0 == (1 : Int)) (F79_j0 N (a0 == (1 : Int))) (cond (a0 == (2 : Int)) (F79_j0 N (a0 == (2 : Int))) (cond (a0 == (5 : Int)) (F79_j0 N (a0 == (5 : Int))) (cond (a0 == (6 : Int)) (F79_j0 N (a0 == (6 : Int))) (F79_j0 N (a0 == (7 : Int)))))))
def F79 (N : Nat) (a0 : Int) : Option (Int) :=
  cond (a0 == (0 : Int)) (some (0 : Int)) (cond (a0 == (3 : Int)) (F79_j1 N a0 (a0 == (3 : Int))) (F79_j1 N a0 (a0 == (4 : Int))))
theorem ok79 (N : Nat) (a0 : Int) {r : Int} (h : F79 N a0 = some r) : Con Go.Proofs.Tryd.prog 79 [I a0] [.lf (.v (.int .i64) r)] := by
  refine ctr [.lf (.v (.int .i64))] T_ok Go.Proofs.Tryd.func79 rfl fun w0 E0 ht => ?_
  unfold F79 at h
  show VW _ _ _ _ _ (retQ _ _ _ _) _
  refine sR T_ok [0] [] ⟨[(0, I a0)], []⟩ (tn 1) ?_
  refine VW.seq ?_
  refine sR T_ok [3] [] ⟨[(3, I a0)], []⟩ (tn 1) ?_
  refine VW.block ?_
  refine sR T_ok [3, 4] [] ⟨[(3, I a0), (4, B (a0 == (0 : Int)))], []⟩ (tn 2) ?_
  refine cnd h (fun h => ?_) (fun h => ?_)
  · refine sR T_ok [2] [] ⟨[(2, I (0 : Int))], []⟩ (tn 1) ?_
    refine VW.ret ?_
    replace h := Option.some.inj h
    subst h
    exact rt []
  refine VW.join (fun s => ∃ (x5 : Bool), s = ⟨[(3, I a0), (6, B x5)], []⟩ ∧ F79_j1 N a0 x5 = some r) ?_ ?_
  · refine sR T_ok [3, 6] [] ⟨[(3, I a0), (6, B (a0 == (3 : Int)))], []⟩ (tn 2) ?_
    refine cnd h (fun h => ?_) (fun h => ?_)
    · refine VW.skip ?_
      exact arv [.ren [3, 6] []] ⟨(a0 == (3 : Int)), rfl, h⟩
    refine rR T_ok [3, 6] [] ⟨[(3, I a0), (6, B (a0 == (4 : Int)))], []⟩ (tn 2) ?_
    exact arv [.ren [3, 6] []] ⟨(a0 == (4 : Int)), rfl, h⟩
  rintro s ⟨x5, rfl, h⟩
  unfold F79_j1 at h
  refine cnd h (fun h => ?_) (fun h => ?_)
  · refine sR T_ok [2] [] ⟨[(2, I (2 : Int))], []⟩ (tn 1) ?_
    refine VW.ret ?_
    replace h := Option.some.inj h
    subst h
    exact rt []
  refine VW.join (fun s => ∃ (x6 : Bool), s = ⟨[(9, B x6)], []⟩ ∧ F79_j0 N x6 = some r) ?_ ?_
  · refine sR T_ok [3, 9] [] ⟨[(3, I a0), (9, B (a0 == (1 : Int)))], []⟩ (tn 2) ?_
    refine cnd h (fun h => ?_) (fun h => ?_)
    · refine VW.skip ?_
      exact arv [.ren [9] []] ⟨(a0 == (1 : Int)), rfl, h⟩
    refine sR T_ok [3, 9] [] ⟨[(3, I a0), (9, B (a0 == (2 : Int)))], []⟩ (tn 2) ?_
    refine cnd h (fun h => ?_) (fun h => ?_)
    · refine VW.skip ?_
      exact arv [.ren [9] []] ⟨(a0 == (2 : Int)), rfl, h⟩
    refine sR T_ok [3, 9] [] ⟨[(3, I a0), (9, B (a0 == (5 : Int)))], []⟩ (tn 2) ?_
    refine cnd h (fun h => ?_) (fun h => ?_)
    · refine VW.skip ?_
      exact arv [.ren [9] []] ⟨(a0 == (5 : Int)), rfl, h⟩
    refine sR T_ok [3, 9] [] ⟨[(3, I a0), (9, B (a0 == (6 : Int)))], []⟩ (tn 2) ?_
    refine cnd h (fun h => ?_) (fun h => ?_)
    · refine VW.skip ?_
      exact arv [.ren [9] []] ⟨(a0 == (6 : Int)), rfl, h⟩
    refine rR T_ok [9] [] ⟨[(9, B (a0 == (7 : Int)))], []⟩ (tn 2) ?_
    exact arv [.ren [9] []] ⟨(a0 == (7 : Int)), rfl, h⟩
  rintro s ⟨x6, rfl, h⟩
  unfold F79_j0 at h
  refine cnd h (fun h => ?_) (fun h => ?_)
  · refine sR T_ok [2] [] ⟨[(2, I (1 : Int))], []⟩ (tn 1) ?_
    refine VW.ret ?_
    replace h := Option.some.inj h
    subst h
    exact rt []
  refine VW.skip ?_
  refine sR T_ok [2] [] ⟨[(2, I (-1 : Int))], []⟩ (tn 1) ?_
  refine VW.ret ?_
  replace h := Option.some.inj h
  subst h
  exact rt []

/- loop.example/g00844/impl.end -/
def F65_j0 (N : Nat) (x13 : Int) : Option (Int) :=
  some x13
def F65_l0_b (N : Nat) (a0 : (List (Int × (ByteArray × (Int × (Int × (Int × (Bool × (List Int))))))))) (a2 : Int) (self : (List (Int × (ByteArray × (Int × (Int × (Int × (Bool × (List Int)))))))) → Int → Int → Option (Int)) (y16 : Int) (nx24 : Int → Int → Option (Int)) (x20 : Int) (x21 : Int) : Option (Int) :=
  cond (decide (x21 < y16)) (andO (self a0 x20 (IntKind.i64.wrap (a2 + (1 : Int)))) fun y26 => cond (decide (y26 < (0 : Int))) (some (-1 : Int)) (nx24 y26 (IntKind.i64.wrap (x21 + (1 : Int))))) (F65_j0 N x20)
def F65_l0 (N : Nat) (a0 : (List (Int × (ByteArray × (Int × (Int × (Int × (Bool × (List Int))))))))) (a2 : Int) (self : (List (Int × (ByteArray × (Int × (Int × (Int × (Bool × (List Int)))))))) → Int → Int → Option (Int)) (y16 : Int) : Nat → Int → Int → Option (Int) := loopF (F65_l0_b N a0 a2 self y16) (fun _ _ => none)
theorem F65_l0_s (N : Nat) (a0 : (List (Int × (ByteArray × (Int × (Int × (Int × (Bool × (List Int))))))))) (a2 : Int) (self : (List (Int × (ByteArray × (Int × (Int × (Int × (Bool × (List Int)))))))) → Int → Int → Option (Int)) (y16 : Int) {k : Nat} (hk : 0 < k) (x20 : Int) (x21 : Int) : F65_l0 N a0 a2 self y16 k x20 x21 = F65_l0_b N a0 a2 self y16 (F65_l0 N a0 a2 self y16 (k - 1)) x20 x21 := by
  cases k with
  | zero => exact absurd hk (Nat.lt_irrefl 0)
  | succ m => rfl
def F65_b (N : Nat) (self : (List (Int × (ByteArray × (Int × (Int × (Int × (Bool × (List Int)))))))) → Int → Int → Option (Int)) (a0 : (List (Int × (ByteArray × (Int × (Int × (Int × (Bool × (List Int))))))))) (a1 : Int) (a2 : Int) : Option (Int) :=
  cond (decide (a1 ≥ (a0.length : Int))) (some (-1 : Int)) (cond (decide (a2 > (10 : Int))) (some (-1 : Int)) (gd (InR a1 a0.length) (andO (F79 N ((a0.getD a1.toNat (Ty.dflt Y23)).1)) fun y16 => F65_l0 N a0 a2 self y16 N (IntKind.i64.wrap (a1 + (1 : Int))) (0 : Int))))
theorem ok65_b (N : Nat) (self : (List (Int × (ByteArray × (Int × (Int × (Int × (Bool × (List Int)))))))) → Int → Int → Option (Int)) (ih : ∀ (a0 : (List (Int × (ByteArray × (Int × (Int × (Int × (Bool × (List Int))))))))) (a1 : Int) (a2 : Int) (r : Int), self a0 a1 a2 = some r → Con Go.Proofs.Tryd.prog 65 [.lf (.v (.sl Y23) a0), I a1, I a2] [.lf (.v (.int .i64) r)]) (a0 : (List (Int × (ByteArray × (Int × (Int × (Int × (Bool × (List Int))))))))) (a1 : Int) (a2 : Int) {r : Int} (h : F65_b N self a0 a1 a2 = some r) : Con Go.Proofs.Tryd.prog 65 [.lf (.v (.sl Y23) a0), I a1, I a2] [.lf (.v (.int .i64) r)] := by
  refine ctr [.lf (.v (.int .i64))] T_ok Go.Proofs.Tryd.func65 rfl fun w0 E0 ht => ?_
  unfold F65_b at h
  show VW _ _ _ _ _ (retQ _ _ _ _) _
  refine sR T_ok [0, 1, 2] [] ⟨[(0, .lf (.v (.sl Y23) a0)), (1, I a1), (2, I a2)], []⟩ (tn 1) ?_
  refine VW.seq ?_
  refine VW.seq ?_
  refine VW.region ?_
  refine sG T_ok 5 [0, 1, 2, 12] [] ⟨[(0, .lf (.v (.sl Y23) a0)), (1, I a1), (2, I a2), (12, B (decide (a1 ≥ (a0.length : Int))))], []⟩ (tn 5) ?_
  refine spB 12 h (fun h => ?_) (fun h => ?_)
  · refine sN T_ok [0, 1, 2, 15] [] ⟨[(0, .lf (.v (.sl Y23) a0)), (1, I a1), (2, I a2), (15, B true)], []⟩ (tn 3) ?_
    refine VW.cond (b := true) (by kernel_rfl) (fun _ => ?_) (fun h' => nomatch h')
    refine sR T_ok [6] [] ⟨[(6, I (-1 : Int))], []⟩ (tn 1) ?_
    refine VW.ret ?_
    replace h := Option.some.inj h
    subst h
    exact rt []
  refine sN T_ok [0, 1, 2, 15] [] ⟨[(0, .lf (.v (.sl Y23) a0)), (1, I a1), (2, I a2), (15, B (decide (a2 > (10 : Int))))], []⟩ (tn 3) ?_
  refine cnd h (fun h => ?_) (fun h => ?_)
  · refine sR T_ok [6] [] ⟨[(6, I (-1 : Int))], []⟩ (tn 1) ?_
    refine VW.ret ?_
    replace h := Option.some.inj h
    subst h
    exact rt []
  refine VW.skip ?_
  refine sR T_ok [0, 1, 2, 7] [] ⟨[(0, .lf (.v (.sl Y23) a0)), (1, I a1), (2, I a2), (7, I (IntKind.i64.wrap (a1 + (1 : Int))))], []⟩ (tn 3) ?_
  refine VW.join (fun s => ∃ (x13 : Int), s = ⟨[(7, I x13)], []⟩ ∧ F65_j0 N x13 = some r) ?_ ?_
  · refine VW.seq ?_
    refine VW.region ?_
    obtain ⟨g15, h⟩ := gd_some h
    refine sG T_ok 5 [0, 2, 7, 22] [] ⟨[(0, .lf (.v (.sl Y23) a0)), (2, I a2), (7, I (IntKind.i64.wrap (a1 + (1 : Int)))), (22, I ((a0.getD a1.toNat (Ty.dflt Y23)).1))], []⟩ (pu 2 (an g15 (tn 2))) ?_
    obtain ⟨y16, hy, h⟩ := andO_some h
    refine cal false [.t (.int .i64)] [] (some 23) T_ok (ok79 N _ hy) ?_
    refine sN T_ok [0, 2, 7, 23, 24] [] ⟨[(0, .lf (.v (.sl Y23) a0)), (2, I a2), (7, I (IntKind.i64.wrap (a1 + (1 : Int)))), (23, I y16), (24, I (0 : Int))], []⟩ (tn 1) ?_
    refine VW.block ?_
    refine lop (fun k s => ∃ (x20 : Int) (x21 : Int), s = ⟨[(0, .lf (.v (.sl Y23) a0)), (2, I a2), (7, I x20), (23, I y16), (24, I x21)], []⟩ ∧ F65_l0 N a0 a2 self y16 k x20 x21 = some r) N [.ren [0, 2, 7, 23, 24] []] ⟨(IntKind.i64.wrap (a1 + (1 : Int))), (0 : Int), rfl, h⟩ ?_
    rintro k24 s ⟨x20, x21, rfl, h⟩
    cases k24 with
    | zero => cases show none = some r from h
    | succ k24 =>
      replace h : F65_l0_b N a0 a2 self y16 (F65_l0 N a0 a2 self y16 k24) x20 x21 = some r := h
      unfold F65_l0_b at h
      refine sR T_ok [0, 2, 7, 23, 24, 25] [] ⟨[(0, .lf (.v (.sl Y23) a0)), (2, I a2), (7, I x20), (23, I y16), (24, I x21), (25, B (decide (x21 < y16)))], []⟩ (tn 1) ?_
      refine VW.seq ?_
      refine cnd h (fun h => ?_) (fun h => ?_)
      · refine VW.skip ?_
        refine VW.seq ?_
        refine VW.block ?_
        refine VW.seq ?_
        refine VW.region ?_
        refine sG T_ok 4 [0, 2, 23, 24, 26, 27, 29] [] ⟨[(0, .lf (.v (.sl Y23) a0)), (2, I a2), (23, I y16), (24, I x21), (26, .lf (.v (.sl Y23) a0)), (27, I x20), (29, I (IntKind.i64.wrap (a2 + (1 : Int))))], []⟩ (tn 4) ?_
        obtain ⟨y26, hy, h⟩ := andO_some h
        refine cal false [.t (.sl Y23), .t (.int .i64), .t (.int .i64)] [] (some 30) T_ok (ih _ _ _ _ hy) ?_
        refine sN T_ok [0, 2, 7, 23, 24] [] ⟨[(0, .lf (.v (.sl Y23) a0)), (2, I a2), (7, I y26), (23, I y16), (24, I x21)], []⟩ (tn 1) ?_
        refine sR T_ok [0, 2, 7, 23, 24, 32] [] ⟨[(0, .lf (.v (.sl Y23) a0)), (2, I a2), (7, I y26), (23, I y16), (24, I x21), (32, B (decide (y26 < (0 : Int))))], []⟩ (tn 2) ?_
        refine cnd h (fun h => ?_) (fun h => ?_)
        · refine sR T_ok [6] [] ⟨[(6, I (-1 : Int))], []⟩ (tn 1) ?_
          refine VW.ret ?_
          replace h := Option.some.inj h
          subst h
          exact rt []
        refine VW.skip ?_
        refine rR T_ok [0, 2, 7, 23, 24] [] ⟨[(0, .lf (.v (.sl Y23) a0)), (2, I a2), (7, I y26), (23, I y16), (24, I (IntKind.i64.wrap (x21 + (1 : Int))))], []⟩ (tn 2) ?_
        exact aro [.ren [0, 2, 7, 23, 24] []] ⟨y26, (IntKind.i64.wrap (x21 + (1 : Int))), rfl, h⟩
      refine VW.exit ?_
      exact arv [.ren [7] []] ⟨x20, rfl, h⟩
  rintro s ⟨x13, rfl, h⟩
  unfold F65_j0 at h
  refine sR T_ok [6] [] ⟨[(6, I x13)], []⟩ (tn 2) ?_
  refine VW.ret ?_
  replace h := Option.some.inj h
  subst h
  exact rt []
def F65_r (N : Nat) : Nat → (List (Int × (ByteArray × (Int × (Int × (Int × (Bool × (List Int)))))))) → Int → Int → Option (Int) := loopF (F65_b N) (fun _ _ _ => none)
theorem F65_s (N : Nat) {k : Nat} (hk : 0 < k) (a0 : (List (Int × (ByteArray × (Int × (Int × (Int × (Bool × (List Int))))))))) (a1 : Int) (a2 : Int) : F65_r N k a0 a1 a2 = F65_b N (F65_r N (k - 1)) a0 a1 a2 := by
  cases k with
  | zero => exact absurd hk (Nat.lt_irrefl 0)
  | succ m => rfl
def F65 (N : Nat) : (List (Int × (ByteArray × (Int × (Int × (Int × (Bool × (List Int)))))))) → Int → Int → Option (Int) := F65_r N N
theorem ok65_k (N : Nat) : ∀ (k : Nat) (a0 : (List (Int × (ByteArray × (Int × (Int × (Int × (Bool × (List Int))))))))) (a1 : Int) (a2 : Int) (r : Int), loopF (F65_b N) (fun _ _ _ => none) k a0 a1 a2 = some r → Con Go.Proofs.Tryd.prog 65 [.lf (.v (.sl Y23) a0), I a1, I a2] [.lf (.v (.int .i64) r)]
  | 0, a0, a1, a2, r, h => nomatch (show (none : Option (Int)) = some r from h)
  | k + 1, a0, a1, a2, r, h => ok65_b N _ (ok65_k N k) a0 a1 a2 h
theorem ok65 (N : Nat) (a0 : (List (Int × (ByteArray × (Int × (Int × (Int × (Bool × (List Int))))))))) (a1 : Int) (a2 : Int) {r : Int} (h : F65 N a0 a1 a2 = some r) : Con Go.Proofs.Tryd.prog 65 [.lf (.v (.sl Y23) a0), I a1, I a2] [.lf (.v (.int .i64) r)] := ok65_k N N a0 a1 a2 r h

/- loop.example/g00844/impl.PlanOk -/
def F39 (N : Nat) (a0 : (List (Int × (ByteArray × (Int × (Int × (Int × (Bool × (List Int))))))))) : Option (Bool) :=
  andO (F54 N (a0.length : Int) (1 : Int) (40 : Int)) fun y3 => cond (!y3) (some false) (andO (F63 N a0 (fun z0 => F64 N z0)) fun y4 => cond y4 (some false) (andO (F65 N a0 (0 : Int) (1 : Int)) fun y5 => some (y5 == (a0.length : Int))))
theorem ok39 (N : Nat) (a0 : (List (Int × (ByteArray × (Int × (Int × (Int × (Bool × (List Int))))))))) {r : Bool} (h : F39 N a0 = some r) : Con Go.Proofs.Tryd.prog 39 [.lf (.v (.sl Y23) a0)] [.lf (.v .bool r)] := by
  refine ctr [.lf (.v .bool)] T_ok Go.Proofs.Tryd.func39 rfl fun w0 E0 ht => ?_
  unfold F39 at h
  show VW _ _ _ _ _ (retQ _ _ _ _) _
  refine sR T_ok [0] [] ⟨[(0, .lf (.v (.sl Y23) a0))], []⟩ (tn 1) ?_
  refine VW.seq ?_
  refine VW.seq ?_
  refine VW.region ?_
  refine sG T_ok 2 [0, 4] [] ⟨[(0, .lf (.v (.sl Y23) a0)), (4, I (a0.length : Int))], []⟩ (tn 2) ?_
  obtain ⟨y3, hy, h⟩ := andO_some h
  refine cal false [.t (.int .i64), .t (.int .i64), .t (.int .i64)] [] (some 5) T_ok (ok54 N _ _ _ hy) ?_
  refine sG T_ok 2 [0, 7] [] ⟨[(0, .lf (.v (.sl Y23) a0)), (7, B (!y3))], []⟩ (tn 2) ?_
  refine spB 7 h (fun h => ?_) (fun h => ?_)
  · refine sN T_ok [0, 10] [] ⟨[(0, .lf (.v (.sl Y23) a0)), (10, B true)], []⟩ (tn 3) ?_
    refine VW.cond (b := true) (by kernel_rfl) (fun _ => ?_) (fun h' => nomatch h')
    refine sR T_ok [2] [] ⟨[(2, B false)], []⟩ (tn 1) ?_
    refine VW.ret ?_
    replace h := Option.some.inj h
    subst h
    exact rt []
  refine sG T_ok 1 [0, 7, 8] [] ⟨[(0, .lf (.v (.sl Y23) a0)), (7, B false), (8, .lf (.v (.sl Y23) a0))], []⟩ (tn 1) ?_
  refine VO.on (j := 4) (want := false) (d := 7) (b := false) rfl rfl rfl (by kernel_rfl) rfl ?_
  obtain ⟨y4, hy, h⟩ := andO_some h
  refine cal false [.t (.sl Y23), .clo []] [] (some 9) T_ok (ok63 N _ 64  (fun z0 => F64 N z0 ) (fun z0 _ hz => ok64 N z0 hz) hy) ?_
  refine sN T_ok [0, 10] [] ⟨[(0, .lf (.v (.sl Y23) a0)), (10, B y4)], []⟩ (tn 1) ?_
  refine cnd h (fun h => ?_) (fun h => ?_)
  · refine sR T_ok [2] [] ⟨[(2, B false)], []⟩ (tn 1) ?_
    refine VW.ret ?_
    replace h := Option.some.inj h
    subst h
    exact rt []
  refine VW.skip ?_
  refine VW.seq ?_
  refine VW.region ?_
  refine sG T_ok 1 [0, 11] [] ⟨[(0, .lf (.v (.sl Y23) a0)), (11, .lf (.v (.sl Y23) a0))], []⟩ (tn 1) ?_
  obtain ⟨y5, hy, h⟩ := andO_some h
  refine cal false [.t (.sl Y23), .t (.int .i64), .t (.int .i64)] [] (some 12) T_ok (ok65 N _ _ _ hy) ?_
  refine sN T_ok [2] [] ⟨[(2, B (y5 == (a0.length : Int)))], []⟩ (tn 4) ?_
  refine VW.ret ?_
  replace h := Option.some.inj h
  subst h
  exact rt []

/- loop.example/g00844/impl.PrintPlan -/
def F15_j0 (N : Nat) (x26 : (List ByteArray)) : Option (ByteArray) :=
  andO (F36 N x26) fun y27 => some y27
def F15_l0_b (N : Nat) (a0 : (List (Int × (ByteArray × (Int × (Int × (Int × (Bool × (List Int))))))))) (nx45 : (List ByteArray) → Int → Int → Option (ByteArray)) (x36 : (List ByteArray)) (x37 : Int) (x38 : Int) : Option (ByteArray) :=
  cond (decide (x38 < x37)) (gd (InR x38 a0.length) (andO (F10 N (a0.getD x38.toNat (Ty.dflt Y23))) fun y50 => gd (x36.length + ([y50]).length ≤ lim .str) (nx45 (x36 ++ ([y50])) x37 (IntKind.i64.wrap (x38 + (1 : Int)))))) (F15_j0 N x36)
def F15_l0 (N : Nat) (a0 : (List (Int × (ByteArray × (Int × (Int × (Int × (Bool × (List Int))))))))) : Nat → (List ByteArray) → Int → Int → Option (ByteArray) := loopF (F15_l0_b N a0) (fun _ _ _ => none)
theorem F15_l0_s (N : Nat) (a0 : (List (Int × (ByteArray × (Int × (Int × (Int × (Bool × (List Int))))))))) {k : Nat} (hk : 0 < k) (x36 : (List ByteArray)) (x37 : Int) (x38 : Int) : F15_l0 N a0 k x36 x37 x38 = F15_l0_b N a0 (F15_l0 N a0 (k - 1)) x36 x37 x38 := by
  cases k with
  | zero => exact absurd hk (Nat.lt_irrefl 0)
  | succ m => rfl
def F15 (N : Nat) (a0 : (List (Int × (ByteArray × (Int × (Int × (Int × (Bool × (List Int))))))))) : Option (ByteArray) :=
  andO (F39 N a0) fun y2 => cond (!y2) (some ByteArray.empty) (F15_l0 N a0 N ([]) (a0.length : Int) (0 : Int))
theorem ok15 (N : Nat) (a0 : (List (Int × (ByteArray × (Int × (Int × (Int × (Bool × (List Int))))))))) {r : ByteArray} (h : F15 N a0 = some r) : Con Go.Proofs.Tryd.prog 15 [.lf (.v (.sl Y23) a0)] [.lf (.v .str r)] := by
  refine ctr [.lf (.v .str)] T_ok Go.Proofs.Tryd.func15 rfl fun w0 E0 ht => ?_
  unfold F15 at h
  show VW _ _ _ _ _ (retQ _ _ _ _) _
  refine sR T_ok [0] [] ⟨[(0, .lf (.v (.sl Y23) a0))], []⟩ (tn 1) ?_
  refine VW.seq ?_
  refine VW.seq ?_
  refine VW.region ?_
  refine sG T_ok 1 [0, 6] [] ⟨[(0, .lf (.v (.sl Y23) a0)), (6, .lf (.v (.sl Y23) a0))], []⟩ (tn 1) ?_
  obtain ⟨y2, hy, h⟩ := andO_some h
  refine cal false [.t (.sl Y23)] [] (some 7) T_ok (ok39 N _ hy) ?_
  refine sN T_ok [0, 8] [] ⟨[(0, .lf (.v (.sl Y23) a0)), (8, B (!y2))], []⟩ (tn 1) ?_
  refine cnd h (fun h => ?_) (fun h => ?_)
  · refine sR T_ok [2] [] ⟨[(2, S ByteArray.empty)], []⟩ (tn 1) ?_
    refine VW.ret ?_
    replace h := Option.some.inj h
    subst h
    exact rt []
  refine VW.skip ?_
  refine sR T_ok [0, 3] [] ⟨[(0, .lf (.v (.sl Y23) a0)), (3, .lf (.nil))], []⟩ (tn 1) ?_
  refine VW.join (fun s => ∃ (x26 : (List ByteArray)), s = ⟨[(3, .lf (.hd 0 0 none))], [ar 0 .str x26 .dp]⟩ ∧ F15_j0 N x26 = some r) ?_ ?_
  · refine sR T_ok [3, 9, 10, 11] [] ⟨[(3, .lf (.nil)), (9, .lf (.v (.sl Y23) a0)), (10, I (a0.length : Int)), (11, I (0 : Int))], []⟩ (tn 3) ?_
    refine VW.block ?_
    refine lop (fun k s => ∃ (x36 : (List ByteArray)) (x37 : Int) (x38 : Int), s = ⟨[(3, .lf (.hd 0 0 none)), (9, .lf (.v (.sl Y23) a0)), (10, I x37), (11, I x38)], [ar 0 .str x36 .dp]⟩ ∧ F15_l0 N a0 k x36 x37 x38 = some r) N [.nilS 3 .str .dp, .ren [3, 9, 10, 11] [0]] ⟨[], (a0.length : Int), (0 : Int), rfl, h⟩ ?_
    rintro k45 s ⟨x36, x37, x38, rfl, h⟩
    cases k45 with
    | zero => cases show none = some r from h
    | succ k45 =>
      replace h : F15_l0_b N a0 (F15_l0 N a0 k45) x36 x37 x38 = some r := h
      unfold F15_l0_b at h
      refine sR T_ok [3, 9, 10, 11, 12] [0] ⟨[(3, .lf (.hd 0 0 none)), (9, .lf (.v (.sl Y23) a0)), (10, I x37), (11, I x38), (12, B (decide (x38 < x37)))], [ar 0 .str x36 .dp]⟩ (tn 1) ?_
      refine VW.seq ?_
      refine cnd h (fun h => ?_) (fun h => ?_)
      · refine VW.skip ?_
        refine VW.seq ?_
        refine VW.block ?_
        obtain ⟨g49, h⟩ := gd_some h
        refine sR T_ok [3, 5, 9, 10, 11] [0, 1] ⟨[(3, .lf (.hd 0 0 none)), (5, .lf (.ptr 1 0 0 0)), (9, .lf (.v (.sl Y23) a0)), (10, I x37), (11, I x38)], [ar 0 .str x36 .dp, bx [.v (.int .i64) ((a0.getD x38.toNat (Ty.dflt Y23)).1), .v .str ((a0.getD x38.toNat (Ty.dflt Y23)).2.1), .v (.int .i64) ((a0.getD x38.toNat (Ty.dflt Y23)).2.2.1), .v (.int .i64) ((a0.getD x38.toNat (Ty.dflt Y23)).2.2.2.1), .v (.int .i64) ((a0.getD x38.toNat (Ty.dflt Y23)).2.2.2.2.1), .v .bool ((a0.getD x38.toNat (Ty.dflt Y23)).2.2.2.2.2.1), .v (.sl (.int .i64)) ((a0.getD x38.toNat (Ty.dflt Y23)).2.2.2.2.2.2)] 27]⟩ (an g49 (tn 3)) ?_
        refine VW.region ?_
        refine sG T_ok 2 [9, 10, 11, 15, 16] [0] ⟨[(9, .lf (.v (.sl Y23) a0)), (10, I x37), (11, I x38), (15, .lf (.hd 0 0 none)), (16, .agg [.v (.int .i64) ((a0.getD x38.toNat (Ty.dflt Y23)).1), .v .str ((a0.getD x38.toNat (Ty.dflt Y23)).2.1), .v (.int .i64) ((a0.getD x38.toNat (Ty.dflt Y23)).2.2.1), .v (.int .i64) ((a0.getD x38.toNat (Ty.dflt Y23)).2.2.2.1), .v (.int .i64) ((a0.getD x38.toNat (Ty.dflt Y23)).2.2.2.2.1), .v .bool ((a0.getD x38.toNat (Ty.dflt Y23)).2.2.2.2.2.1), .v (.sl (.int .i64)) ((a0.getD x38.toNat (Ty.dflt Y23)).2.2.2.2.2.2)])], [ar 0 .str x36 .dp]⟩ (tn 2) ?_
        obtain ⟨y50, hy, h⟩ := andO_some h
        refine cal false [.t Y23] [] (some 17) T_ok (ok10 N _ hy) ?_
        obtain ⟨g51, h⟩ := gd_some h
        refine sN T_ok [3, 9, 10, 11] [0] ⟨[(3, .lf (.hd 0 0 none)), (9, .lf (.v (.sl Y23) a0)), (10, I x37), (11, I x38)], [ar 0 .str (x36 ++ ([y50])) .dp]⟩ (pu 1 (an g51 (tn 1))) ?_
        refine rR T_ok [3, 9, 10, 11] [0] ⟨[(3, .lf (.hd 0 0 none)), (9, .lf (.v (.sl Y23) a0)), (10, I x37), (11, I (IntKind.i64.wrap (x38 + (1 : Int))))], [ar 0 .str (x36 ++ ([y50])) .dp]⟩ (tn 2) ?_
        exact aro [.ren [3, 9, 10, 11] [0]] ⟨(x36 ++ ([y50])), x37, (IntKind.i64.wrap (x38 + (1 : Int))), rfl, h⟩
      refine VW.exit ?_
      exact arv [.ren [3] [0]] ⟨x36, rfl, h⟩
  rintro s ⟨x26, rfl, h⟩
  unfold F15_j0 at h
  refine VW.seq ?_
  refine VW.region ?_
  refine sG T_ok 1 [21] [0] ⟨[(21, .lf (.hd 0 0 none))], [ar 0 .str x26 .dp]⟩ (tn 1) ?_
  obtain ⟨y27, hy, h⟩ := andO_some h
  refine cal true [.t (.sl .str)] [] (some 22) T_ok (ok36 N _ hy) ?_
  refine sN T_ok [2] [] ⟨[(2, S y27)], []⟩ (tn 1) ?_
  refine VW.ret ?_
  replace h := Option.some.inj h
  subst h
  exact rt []

/- loop.example/g00844/laws.eqNodeS -/
def F16_j0 (N : Nat) : Option (Bool) :=
  some true
def F16_l0_b (N : Nat) (a0 : (List (Int × (ByteArray × (Int × (Int × (Int × (Bool × (List Int))))))))) (a1 : (List (Int × (ByteArray × (Int × (Int × (Int × (Bool × (List Int))))))))) (nx35 : Int → Option (Bool)) (x28 : Int) : Option (Bool) :=
  cond (decide (x28 < (a0.length : Int))) (gd (InR x28 a0.length) (gd (InR x28 a1.length) (andO (F11 N (a0.getD x28.toNat (Ty.dflt Y23)) (a1.getD x28.toNat (Ty.dflt Y23))) fun y41 => cond (!y41) (some false) (nx35 (IntKind.i64.wrap (x28 + (1 : Int))))))) (F16_j0 N)
def F16_l0 (N : Nat) (a0 : (List (Int × (ByteArray × (Int × (Int × (Int × (Bool × (List Int))))))))) (a1 : (List (Int × (ByteArray × (Int × (Int × (Int × (Bool × (List Int))))))))) : Nat → Int → Option (Bool) := loopF (F16_l0_b N a0 a1) (fun _ => none)
theorem F16_l0_s (N : Nat) (a0 : (List (Int × (ByteArray × (Int × (Int × (Int × (Bool × (List Int))))))))) (a1 : (List (Int × (ByteArray × (Int × (Int × (Int × (Bool × (List Int))))))))) {k : Nat} (hk : 0 < k) (x28 : Int) : F16_l0 N a0 a1 k x28 = F16_l0_b N a0 a1 (F16_l0 N a0 a1 (k - 1)) x28 := by
  cases k with
  | zero => exact absurd hk (Nat.lt_irrefl 0)
  | succ m => rfl
def F16 (N : Nat) (a0 : (List (Int × (ByteArray × (Int × (Int × (Int × (Bool × (List Int))))))))) (a1 : (List (Int × (ByteArray × (Int × (Int × (Int × (Bool × (List Int))))))))) : Option (Bool) :=
  cond ((a0.length : Int) != (a1.length : Int)) (some false) (F16_l0 N a0 a1 N (0 : Int))
theorem ok16 (N : Nat) (a0 : (List (Int × (ByteArray × (Int × (Int × (Int × (Bool × (List Int))))))))) (a1 : (List (Int × (ByteArray × (Int × (Int × (Int × (Bool × (List Int))))))))) {r : Bool} (h : F16 N a0 a1 = some r) : Con Go.Proofs.Tryd.prog 16 [.lf (.v (.sl Y23) a0), .lf (.v (.sl Y23) a1)] [.lf (.v .bool r)] := by
  refine ctr [.lf (.v .bool)] T_ok Go.Proofs.Tryd.func16 rfl fun w0 E0 ht => ?_
  unfold F16 at h
  show VW _ _ _ _ _ (retQ _ _ _ _) _
  refine sR T_ok [0, 1] [] ⟨[(0, .lf (.v (.sl Y23) a0)), (1, .lf (.v (.sl Y23) a1))], []⟩ (tn 1) ?_
  refine VW.seq ?_
  refine sR T_ok [0, 1, 10] [] ⟨[(0, .lf (.v (.sl Y23) a0)), (1, .lf (.v (.sl Y23) a1)), (10, B ((a0.length : Int) != (a1.length : Int)))], []⟩ (tn 5) ?_
  refine cnd h (fun h => ?_) (fun h => ?_)
  · refine sR T_ok [4] [] ⟨[(4, B false)], []⟩ (tn 1) ?_
    refine VW.ret ?_
    replace h := Option.some.inj h
    subst h
    exact rt []
  refine VW.skip ?_
  refine VW.join (fun s => s = ⟨[], []⟩ ∧ F16_j0 N = some r) ?_ ?_
  · refine sR T_ok [0, 1, 5] [] ⟨[(0, .lf (.v (.sl Y23) a0)), (1, .lf (.v (.sl Y23) a1)), (5, I (0 : Int))], []⟩ (tn 1) ?_
    refine VW.block ?_
    refine lop (fun k s => ∃ (x28 : Int), s = ⟨[(0, .lf (.v (.sl Y23) a0)), (1, .lf (.v (.sl Y23) a1)), (5, I x28)], []⟩ ∧ F16_l0 N a0 a1 k x28 = some r) N [.ren [0, 1, 5] []] ⟨(0 : Int), rfl, h⟩ ?_
    rintro k35 s ⟨x28, rfl, h⟩
    cases k35 with
    | zero => cases show none = some r from h
    | succ k35 =>
      replace h : F16_l0_b N a0 a1 (F16_l0 N a0 a1 k35) x28 = some r := h
      unfold F16_l0_b at h
      refine VW.seq ?_
      refine sR T_ok [0, 1, 5, 14] [] ⟨[(0, .lf (.v (.sl Y23) a0)), (1, .lf (.v (.sl Y23) a1)), (5, I x28), (14, B (decide (x28 < (a0.length : Int))))], []⟩ (tn 4) ?_
      refine cnd h (fun h => ?_) (fun h => ?_)
      · refine VW.skip ?_
        refine VW.seq ?_
        refine VW.block ?_
        refine VW.seq ?_
        obtain ⟨g39, h⟩ := gd_some h
        obtain ⟨g40, h⟩ := gd_some h
        obtain ⟨y41, hy41, h⟩ := andO_some h
        refine VW.drawn (by kernel_rfl) [some (17, .lf (.v (.sl Y23) a0)), some (18, I x28), some (19, .lf (.fp Y23 (a0.getD x28.toNat (Ty.dflt Y23)) 0)), some (20, .agg [.v (.int .i64) ((a0.getD x28.toNat (Ty.dflt Y23)).1), .v .str ((a0.getD x28.toNat (Ty.dflt Y23)).2.1), .v (.int .i64) ((a0.getD x28.toNat (Ty.dflt Y23)).2.2.1), .v (.int .i64) ((a0.getD x28.toNat (Ty.dflt Y23)).2.2.2.1), .v (.int .i64) ((a0.getD x28.toNat (Ty.dflt Y23)).2.2.2.2.1), .v .bool ((a0.getD x28.toNat (Ty.dflt Y23)).2.2.2.2.2.1), .v (.sl (.int .i64)) ((a0.getD x28.toNat (Ty.dflt Y23)).2.2.2.2.2.2)]), some (21, .lf (.v (.sl Y23) a1)), some (22, I x28), some (23, .lf (.fp Y23 (a1.getD x28.toNat (Ty.dflt Y23)) 0)), some (24, .agg [.v (.int .i64) ((a1.getD x28.toNat (Ty.dflt Y23)).1), .v .str ((a1.getD x28.toNat (Ty.dflt Y23)).2.1), .v (.int .i64) ((a1.getD x28.toNat (Ty.dflt Y23)).2.2.1), .v (.int .i64) ((a1.getD x28.toNat (Ty.dflt Y23)).2.2.2.1), .v (.int .i64) ((a1.getD x28.toNat (Ty.dflt Y23)).2.2.2.2.1), .v .bool ((a1.getD x28.toNat (Ty.dflt Y23)).2.2.2.2.2.1), .v (.sl (.int .i64)) ((a1.getD x28.toNat (Ty.dflt Y23)).2.2.2.2.2.2)]), some (25, B y41), some (26, B (!y41))] [] [[]] [(0, 0), (1, 0), (2, 0), (3, 0), (4, 0), (5, 0), (6, 0), (7, 0), (8, 0), (9, 0)] [0, 1, 5, 26] [] (s' := ⟨[(0, .lf (.v (.sl Y23) a0)), (1, .lf (.v (.sl Y23) a1)), (5, I x28), (26, B (!y41))], []⟩) (by kernel_rfl) (by kernel_rfl) ⟨⟨_, rfl, Stp.ev T_ok (m := .dp) (φ := True) (by kernel_rfl) trivial⟩,
    ⟨_, rfl, Stp.ev T_ok (m := .dp) (φ := True) (by kernel_rfl) trivial⟩,
    ⟨_, rfl, Stp.ev T_ok (m := .dp) (φ := InR x28 a0.length) (by kernel_rfl) g39⟩,
    ⟨_, rfl, Stp.ev T_ok (m := .dp) (φ := True) (by kernel_rfl) trivial⟩,
    ⟨_, rfl, Stp.ev T_ok (m := .dp) (φ := True) (by kernel_rfl) trivial⟩,
    ⟨_, rfl, Stp.ev T_ok (m := .dp) (φ := True) (by kernel_rfl) trivial⟩,
    ⟨_, rfl, Stp.ev T_ok (m := .dp) (φ := InR x28 a1.length) (by kernel_rfl) g40⟩,
    ⟨_, rfl, Stp.ev T_ok (m := .dp) (φ := True) (by kernel_rfl) trivial⟩,
    ⟨_, rfl, Stp.eq (Stp.call false [.t Y23, .t Y23] [] T_ok (d := some 25) (by kernel_rfl) (ok11 N _ _ hy41) rfl) (by kernel_rfl) (by kernel_rfl)⟩,
    ⟨_, rfl, Stp.ev T_ok (m := .dp) (φ := True) (by kernel_rfl) trivial⟩, trivial⟩ (by kernel_rfl) ?_
        refine cnd h (fun h => ?_) (fun h => ?_)
        · refine sR T_ok [4] [] ⟨[(4, B false)], []⟩ (tn 1) ?_
          refine VW.ret ?_
          replace h := Option.some.inj h
          subst h
          exact rt []
        refine VW.skip ?_
        refine rR T_ok [0, 1, 5] [] ⟨[(0, .lf (.v (.sl Y23) a0)), (1, .lf (.v (.sl Y23) a1)), (5, I (IntKind.i64.wrap (x28 + (1 : Int))))], []⟩ (tn 3) ?_
        exact aro [.ren [0, 1, 5] []] ⟨(IntKind.i64.wrap (x28 + (1 : Int))), rfl, h⟩
      refine VW.exit ?_
      exact arv [.ren [] []] ⟨rfl, h⟩
  rintro s ⟨rfl, h⟩
  unfold F16_j0 at h
  refine sR T_ok [4] [] ⟨[(4, B true)], []⟩ (tn 1) ?_
  refine VW.ret ?_
  replace h := Option.some.inj h
  subst h
  exact rt []

/- loop.example/g00844/laws.FnExactPrintPlan -/
def F4 (N : Nat) (a0 : (List (Int × (ByteArray × (Int × (Int × (Int × (Bool × (List Int))))))))) : Option (Bool) :=
  andO (F12 N a0 (1048576 : Int)) fun y1 => cond (decide (y1 < (0 : Int))) (some true) (andO (F14 N a0) fun y2 => andO (F13 N y2) fun y3 => andO (F14 N a0) fun y4 => andO (F15 N y4) fun y5 => cond (!(y5.toList == y3.toList)) (some false) (andO (F14 N a0) fun y8 => andO (F16 N y4 y8) fun y9 => cond (!y9) (some false) (some true)))
theorem ok4 (N : Nat) (a0 : (List (Int × (ByteArray × (Int × (Int × (Int × (Bool × (List Int))))))))) {r : Bool} (h : F4 N a0 = some r) : Con Go.Proofs.Tryd.prog 4 [.lf (.v (.sl Y23) a0)] [.lf (.v .bool r)] := by
  refine ctr [.lf (.v .bool)] T_ok Go.Proofs.Tryd.func4 rfl fun w0 E0 ht => ?_
  unfold F4 at h
  show VW _ _ _ _ _ (retQ _ _ _ _) _
  refine sR T_ok [0] [] ⟨[(0, .lf (.v (.sl Y23) a0))], []⟩ (tn 1) ?_
  refine sR T_ok [0, 3] [] ⟨[(0, .lf (.v (.sl Y23) a0)), (3, I (1048576 : Int))], []⟩ (tn 1) ?_
  refine VW.seq ?_
  refine VW.region ?_
  refine sG T_ok 2 [0, 7, 8] [] ⟨[(0, .lf (.v (.sl Y23) a0)), (7, .lf (.v (.sl Y23) a0)), (8, I (1048576 : Int))], []⟩ (tn 2) ?_
  obtain ⟨y1, hy, h⟩ := andO_some h
  refine cal false [.t (.sl Y23), .t (.int .i64)] [] (some 9) T_ok (ok12 N _ _ hy) ?_
  refine sN T_ok [0, 3] [] ⟨[(0, .lf (.v (.sl Y23) a0)), (3, I y1)], []⟩ (tn 1) ?_
  refine VW.seq ?_
  refine sR T_ok [0, 11] [] ⟨[(0, .lf (.v (.sl Y23) a0)), (11, B (decide (y1 < (0 : Int))))], []⟩ (tn 2) ?_
  refine cnd h (fun h => ?_) (fun h => ?_)
  · refine sR T_ok [2] [] ⟨[(2, B true)], []⟩ (tn 1) ?_
    refine VW.ret ?_
    replace h := Option.some.inj h
    subst h
    exact rt []
  refine VW.skip ?_
  refine VW.seq ?_
  refine VW.region ?_
  refine sG T_ok 1 [0, 12] [] ⟨[(0, .lf (.v (.sl Y23) a0)), (12, .lf (.v (.sl Y23) a0))], []⟩ (tn 1) ?_
  obtain ⟨y2, hy, h⟩ := andO_some h
  refine cal false [.t (.sl Y23)] [] (some 13) T_ok (ok14 N _ hy) ?_
  obtain ⟨y3, hy, h⟩ := andO_some h
  refine cal true [.t (.sl Y23)] [] (some 14) T_ok (ok13 N _ hy) ?_
  refine sN T_ok [0, 4] [] ⟨[(0, .lf (.v (.sl Y23) a0)), (4, S y3)], []⟩ (tn 1) ?_
  refine VW.seq ?_
  refine VW.region ?_
  refine sG T_ok 1 [0, 4, 15] [] ⟨[(0, .lf (.v (.sl Y23) a0)), (4, S y3), (15, .lf (.v (.sl Y23) a0))], []⟩ (tn 1) ?_
  obtain ⟨y4, hy, h⟩ := andO_some h
  refine cal false [.t (.sl Y23)] [] (some 16) T_ok (ok14 N _ hy) ?_
  refine sN T_ok [0, 4, 5] [0] ⟨[(0, .lf (.v (.sl Y23) a0)), (4, S y3), (5, .lf (.hd 0 0 none))], [ar 0 Y23 y4 .dp]⟩ (tn 1) ?_
  refine VW.seq ?_
  refine VW.region ?_
  refine sG T_ok 1 [0, 4, 5, 17] [0] ⟨[(0, .lf (.v (.sl Y23) a0)), (4, S y3), (5, .lf (.hd 0 0 none)), (17, .lf (.hd 0 0 none))], [ar 0 Y23 y4 .dp]⟩ (tn 1) ?_
  obtain ⟨y5, hy, h⟩ := andO_some h
  refine cal true [.t (.sl Y23)] [] (some 18) T_ok (ok15 N _ hy) ?_
  refine sN T_ok [0, 4, 5, 6] [0] ⟨[(0, .lf (.v (.sl Y23) a0)), (4, S y3), (5, .lf (.hd 0 0 none)), (6, S y5)], [ar 0 Y23 y4 .dp]⟩ (tn 1) ?_
  refine VW.seq ?_
  refine sR T_ok [0, 5, 21] [0] ⟨[(0, .lf (.v (.sl Y23) a0)), (5, .lf (.hd 0 0 none)), (21, B (!(y5.toList == y3.toList)))], [ar 0 Y23 y4 .dp]⟩ (tn 3) ?_
  refine cnd h (fun h => ?_) (fun h => ?_)
  · refine sR T_ok [2] [] ⟨[(2, B false)], []⟩ (tn 1) ?_
    refine VW.ret ?_
    replace h := Option.some.inj h
    subst h
    exact rt []
  refine VW.skip ?_
  refine VW.seq ?_
  refine VW.seq ?_
  refine VW.region ?_
  refine sG T_ok 2 [22, 23] [0] ⟨[(22, .lf (.hd 0 0 none)), (23, .lf (.v (.sl Y23) a0))], [ar 0 Y23 y4 .dp]⟩ (tn 2) ?_
  obtain ⟨y8, hy, h⟩ := andO_some h
  refine cal false [.t (.sl Y23)] [] (some 24) T_ok (ok14 N _ hy) ?_
  obtain ⟨y9, hy, h⟩ := andO_some h
  refine cal true [.t (.sl Y23), .t (.sl Y23)] [] (some 25) T_ok (ok16 N _ _ hy) ?_
  refine sN T_ok [26] [] ⟨[(26, B (!y9))], []⟩ (tn 1) ?_
  refine cnd h (fun h => ?_) (fun h => ?_)
  · refine sR T_ok [2] [] ⟨[(2, B false)], []⟩ (tn 1) ?_
    refine VW.ret ?_
    replace h := Option.some.inj h
    subst h
    exact rt []
  refine VW.skip ?_
  refine sR T_ok [2] [] ⟨[(2, B true)], []⟩ (tn 1) ?_
  refine VW.ret ?_
  replace h := Option.some.inj h
  subst h
  exact rt []

end Go.Proofs.YtfegppjofphpfaaDoor.Vc
