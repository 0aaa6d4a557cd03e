/- What functions of the program compute, and that they do. -/
import Derived.Test.YtmckanbamdgcfaaVt1
namespace Go.Proofs.Ytmckanbamdgcfaa.Vc
open Go Go.RowKit
set_option linter.unusedVariables false
set_option maxRecDepth 100000
set_option maxHeartbeats 4000000
/- loop.example/g00844/spec.l02SameInts -/
def F84_j0 (N : Nat) : Option (Bool) :=
  some true
def F84_l0_b (N : Nat) (a0 : (List Int)) (a1 : (List Int)) (nx25 : Int → Option (Bool)) (x20 : Int) : Option (Bool) :=
  cond (decide (x20 < (a0.length : Int))) (gd (InR x20 a0.length) (gd (InR x20 a1.length) (cond ((a0.getD x20.toNat (Ty.dflt (.int .i64))) != (a1.getD x20.toNat (Ty.dflt (.int .i64)))) (some false) (nx25 (IntKind.i64.wrap (x20 + (1 : Int))))))) (F84_j0 N)
def F84_l0 (N : Nat) (a0 : (List Int)) (a1 : (List Int)) : Nat → Int → Option (Bool) := loopF (F84_l0_b N a0 a1) (fun _ => none)
theorem F84_l0_s (N : Nat) (a0 : (List Int)) (a1 : (List Int)) {k : Nat} (hk : 0 < k) (x20 : Int) : F84_l0 N a0 a1 k x20 = F84_l0_b N a0 a1 (F84_l0 N a0 a1 (k - 1)) x20 := by
  cases k with
  | zero => exact absurd hk (Nat.lt_irrefl 0)
  | succ m => rfl
def F84 (N : Nat) (a0 : (List Int)) (a1 : (List Int)) : Option (Bool) :=
  cond ((a0.length : Int) != (a1.length : Int)) (some false) (F84_l0 N a0 a1 N (0 : Int))
theorem ok84 (N : Nat) (a0 : (List Int)) (a1 : (List Int)) {r : Bool} (h : F84 N a0 a1 = some r) : Con Go.Proofs.Try.prog 84 [.lf (.v (.sl (.int .i64)) a0), .lf (.v (.sl (.int .i64)) a1)] [.lf (.v .bool r)] := by
  refine ⟨enters_of Go.Proofs.Try.func84 rfl (by decide), HC.intro [.lf (.v .bool)] T_ok Go.Proofs.Try.func84 rfl (Nat.le_of_ble_eq_true rfl) (Nat.le_of_ble_eq_true rfl) fun w0 E0 => ?_⟩
  unfold F84 at h
  show VW _ _ _ _ _ (retQ _ _ _ _) _
  refine VW.seq ?_
  refine VW.region ?_
  refine VO.seg T_ok .dp 1 [0, 1] [] (s' := ⟨[(0, .lf (.v (.sl (.int .i64)) a0)), (1, .lf (.v (.sl (.int .i64)) a1))], []⟩) (φ := True ∧ True) (by kernel_rfl) ⟨trivial, trivial⟩ ?_
  refine VO.nil ?_
  show VW _ _ _ _ _ _ _
  refine VW.seq ?_
  refine VW.seq ?_
  refine VW.region ?_
  refine VO.seg T_ok .dp 5 [0, 1, 10] [] (s' := ⟨[(0, .lf (.v (.sl (.int .i64)) a0)), (1, .lf (.v (.sl (.int .i64)) a1)), (10, B ((a0.length : Int) != (a1.length : Int)))], []⟩) (φ := True ∧ True ∧ True ∧ True ∧ True ∧ True) (by kernel_rfl) ⟨trivial, trivial, trivial, trivial, trivial, trivial⟩ ?_
  refine VO.nil ?_
  show VW _ _ _ _ _ _ _
  refine VW.cond (b := ((a0.length : Int) != (a1.length : Int))) (by kernel_rfl) (fun hb => ?_) (fun hb => ?_)
  · replace h := cond_t h hb; clear hb
    refine VW.seq ?_
    refine VW.region ?_
    refine VO.seg T_ok .dp 1 [4] [] (s' := ⟨[(4, B false)], []⟩) (φ := True ∧ True) (by kernel_rfl) ⟨trivial, trivial⟩ ?_
    refine VO.nil ?_
    show VW _ _ _ _ _ _ _
    refine VW.ret ?_
    replace h := Option.some.inj h
    subst h
    exact retR [] (by kernel_rfl) rfl
  · replace h := cond_f h hb; clear hb
    refine VW.skip ?_
    show VW _ _ _ _ _ _ _
    refine VW.join (fun s => s = ⟨[], []⟩ ∧ F84_j0 N = some r) ?_ ?_
    · refine VW.seq ?_
      refine VW.region ?_
      refine VO.seg T_ok .dp 1 [0, 1, 5] [] (s' := ⟨[(0, .lf (.v (.sl (.int .i64)) a0)), (1, .lf (.v (.sl (.int .i64)) a1)), (5, I (0 : Int))], []⟩) (φ := True ∧ True) (by kernel_rfl) ⟨trivial, trivial⟩ ?_
      refine VO.nil ?_
      show VW _ _ _ _ _ _ _
      refine VW.block ?_
      refine VW.loopL (fun k s => ∃ (x20 : Int), s = ⟨[(0, .lf (.v (.sl (.int .i64)) a0)), (1, .lf (.v (.sl (.int .i64)) a1)), (5, I x20)], []⟩ ∧ F84_l0 N a0 a1 k x20 = some r) N [.ren [0, 1, 5] []] (by kernel_rfl) ⟨(0 : Int), rfl, h⟩ ?_
      rintro k25 s ⟨x20, rfl, h⟩
      cases k25 with
      | zero => exact nomatch (show (none : Option (Bool)) = some r from h)
      | succ k25 =>
        replace h : F84_l0_b N a0 a1 (F84_l0 N a0 a1 k25) x20 = some r := h
        unfold F84_l0_b at h
        refine VW.seq ?_
        refine VW.seq ?_
        refine VW.region ?_
        refine VO.seg T_ok .dp 4 [0, 1, 5, 14] [] (s' := ⟨[(0, .lf (.v (.sl (.int .i64)) a0)), (1, .lf (.v (.sl (.int .i64)) a1)), (5, I x20), (14, B (decide (x20 < (a0.length : Int))))], []⟩) (φ := True ∧ True ∧ True ∧ True ∧ True) (by kernel_rfl) ⟨trivial, trivial, trivial, trivial, trivial⟩ ?_
        refine VO.nil ?_
        show VW _ _ _ _ _ _ _
        refine VW.cond (b := (decide (x20 < (a0.length : Int)))) (by kernel_rfl) (fun hb => ?_) (fun hb => ?_)
        · replace h := cond_t h hb; clear hb
          refine VW.skip ?_
          show VW _ _ _ _ _ _ _
          refine VW.seq ?_
          refine VW.block ?_
          refine VW.seq ?_
          obtain ⟨g28, h⟩ := gd_some h
          obtain ⟨g29, h⟩ := gd_some h
          refine VW.drawn (by kernel_rfl) [some (17, .lf (.v (.sl (.int .i64)) a0)), some (18, I x20), some (19, .lf (.fp (.int .i64) (a0.getD x20.toNat (Ty.dflt (.int .i64))) 0)), some (20, I (a0.getD x20.toNat (Ty.dflt (.int .i64)))), some (21, .lf (.v (.sl (.int .i64)) a1)), some (22, I x20), some (23, .lf (.fp (.int .i64) (a1.getD x20.toNat (Ty.dflt (.int .i64))) 0)), some (24, I (a1.getD x20.toNat (Ty.dflt (.int .i64)))), some (25, B ((a0.getD x20.toNat (Ty.dflt (.int .i64))) != (a1.getD x20.toNat (Ty.dflt (.int .i64)))))] [] [[]] [(0, 0), (1, 0), (2, 0), (3, 0), (4, 0), (5, 0), (6, 0), (7, 0), (8, 0)] [0, 1, 5, 25] [] (s' := ⟨[(0, .lf (.v (.sl (.int .i64)) a0)), (1, .lf (.v (.sl (.int .i64)) a1)), (5, I x20), (25, B ((a0.getD x20.toNat (Ty.dflt (.int .i64))) != (a1.getD x20.toNat (Ty.dflt (.int .i64)))))], []⟩) (by kernel_rfl) (by kernel_rfl) ⟨⟨_, rfl, Stp.ev T_ok (m := .dp) (φ := True) (by kernel_rfl) trivial⟩,
    ⟨_, rfl, Stp.ev T_ok (m := .dp) (φ := True) (by kernel_rfl) trivial⟩,
    ⟨_, rfl, Stp.ev T_ok (m := .dp) (φ := InR x20 a0.length) (by kernel_rfl) g28⟩,
    ⟨_, rfl, Stp.ev T_ok (m := .dp) (φ := True) (by kernel_rfl) trivial⟩,
    ⟨_, rfl, Stp.ev T_ok (m := .dp) (φ := True) (by kernel_rfl) trivial⟩,
    ⟨_, rfl, Stp.ev T_ok (m := .dp) (φ := True) (by kernel_rfl) trivial⟩,
    ⟨_, rfl, Stp.ev T_ok (m := .dp) (φ := InR x20 a1.length) (by kernel_rfl) g29⟩,
    ⟨_, rfl, Stp.ev T_ok (m := .dp) (φ := True) (by kernel_rfl) trivial⟩,
    ⟨_, rfl, Stp.ev T_ok (m := .dp) (φ := True) (by kernel_rfl) trivial⟩, trivial⟩ (by kernel_rfl) ?_
          show VW _ _ _ _ _ _ _
          refine VW.cond (b := ((a0.getD x20.toNat (Ty.dflt (.int .i64))) != (a1.getD x20.toNat (Ty.dflt (.int .i64))))) (by kernel_rfl) (fun hb => ?_) (fun hb => ?_)
          · replace h := cond_t h hb; clear hb
            refine VW.seq ?_
            refine VW.region ?_
            refine VO.seg T_ok .dp 1 [4] [] (s' := ⟨[(4, B false)], []⟩) (φ := True ∧ True) (by kernel_rfl) ⟨trivial, trivial⟩ ?_
            refine VO.nil ?_
            show VW _ _ _ _ _ _ _
            refine VW.ret ?_
            replace h := Option.some.inj h
            subst h
            exact retR [] (by kernel_rfl) rfl
          · replace h := cond_f h hb; clear hb
            refine VW.skip ?_
            show VW _ _ _ _ _ _ _
            refine VW.region ?_
            refine VO.seg T_ok .dp 3 [0, 1, 5] [] (s' := ⟨[(0, .lf (.v (.sl (.int .i64)) a0)), (1, .lf (.v (.sl (.int .i64)) a1)), (5, I (IntKind.i64.wrap (x20 + (1 : Int))))], []⟩) (φ := True ∧ True ∧ True ∧ True) (by kernel_rfl) ⟨trivial, trivial, trivial, trivial⟩ ?_
            refine VO.nil ?_
            exact around [.ren [0, 1, 5] []] (by kernel_rfl) ⟨(IntKind.i64.wrap (x20 + (1 : Int))), rfl, h⟩
        · replace h := cond_f h hb; clear hb
          refine VW.exit ?_
          exact arrive [.ren [] []] (by kernel_rfl) ⟨rfl, h⟩
    · rintro s ⟨rfl, h⟩
      unfold F84_j0 at h
      refine VW.seq ?_
      refine VW.region ?_
      refine VO.seg T_ok .dp 1 [4] [] (s' := ⟨[(4, B true)], []⟩) (φ := True ∧ True) (by kernel_rfl) ⟨trivial, trivial⟩ ?_
      refine VO.nil ?_
      show VW _ _ _ _ _ _ _
      refine VW.ret ?_
      replace h := Option.some.inj h
      subst h
      exact retR [] (by kernel_rfl) rfl

/- loop.example/g00844/spec.l02SameNode -/
def F55 (N : Nat) (a0 : (Int × (ByteArray × (Int × (Int × (Int × (Bool × (List Int)))))))) (a1 : (Int × (ByteArray × (Int × (Int × (Int × (Bool × (List Int)))))))) : Option (Bool) :=
  cond (a0.1 == a1.1) (cond (a0.2.1.toList == a1.2.1.toList) (cond (a0.2.2.1 == a1.2.2.1) (cond (a0.2.2.2.1 == a1.2.2.2.1) (cond (a0.2.2.2.2.1 == a1.2.2.2.2.1) (cond (a0.2.2.2.2.2.1 == a1.2.2.2.2.2.1) (andO (F84 N a0.2.2.2.2.2.2 a1.2.2.2.2.2.2) fun y1 => some y1) (some false)) (some false)) (some false)) (some false)) (some false)) (some false)
theorem ok55 (N : Nat) (a0 : (Int × (ByteArray × (Int × (Int × (Int × (Bool × (List Int)))))))) (a1 : (Int × (ByteArray × (Int × (Int × (Int × (Bool × (List Int)))))))) {r : Bool} (h : F55 N a0 a1 = some r) : Con Go.Proofs.Try.prog 55 [.agg [.v (.int .i64) a0.1, .v .str a0.2.1, .v (.int .i64) a0.2.2.1, .v (.int .i64) a0.2.2.2.1, .v (.int .i64) a0.2.2.2.2.1, .v .bool a0.2.2.2.2.2.1, .v (.sl (.int .i64)) a0.2.2.2.2.2.2], .agg [.v (.int .i64) a1.1, .v .str a1.2.1, .v (.int .i64) a1.2.2.1, .v (.int .i64) a1.2.2.2.1, .v (.int .i64) a1.2.2.2.2.1, .v .bool a1.2.2.2.2.2.1, .v (.sl (.int .i64)) a1.2.2.2.2.2.2]] [.lf (.v .bool r)] := by
  refine ⟨enters_of Go.Proofs.Try.func55 rfl (by decide), HC.intro [.lf (.v .bool)] T_ok Go.Proofs.Try.func55 rfl (Nat.le_of_ble_eq_true rfl) (Nat.le_of_ble_eq_true rfl) fun w0 E0 => ?_⟩
  unfold F55 at h
  show VW _ _ _ _ _ (retQ _ _ _ _) _
  refine VW.seq ?_
  refine VW.region ?_
  refine VO.seg T_ok .dp 3 [2, 3] [0, 1] (s' := ⟨[(2, .lf (.ptr 0 0 0 0)), (3, .lf (.ptr 1 0 0 0))], [bx [.v (.int .i64) a0.1, .v .str a0.2.1, .v (.int .i64) a0.2.2.1, .v (.int .i64) a0.2.2.2.1, .v (.int .i64) a0.2.2.2.2.1, .v .bool a0.2.2.2.2.2.1, .v (.sl (.int .i64)) a0.2.2.2.2.2.2] 37, bx [.v (.int .i64) a1.1, .v .str a1.2.1, .v (.int .i64) a1.2.2.1, .v (.int .i64) a1.2.2.2.1, .v (.int .i64) a1.2.2.2.2.1, .v .bool a1.2.2.2.2.2.1, .v (.sl (.int .i64)) a1.2.2.2.2.2.2] 37]⟩) (φ := True ∧ True ∧ True ∧ True) (by kernel_rfl) ⟨trivial, trivial, trivial, trivial⟩ ?_
  refine VO.nil ?_
  show VW _ _ _ _ _ _ _
  refine VW.seq ?_
  refine VW.region ?_
  refine VO.seg T_ok .dp 6 [2, 3, 10] [0, 1] (s' := ⟨[(2, .lf (.ptr 0 0 0 0)), (3, .lf (.ptr 1 0 0 0)), (10, B (a0.1 == a1.1))], [bx [.v (.int .i64) a0.1, .v .str a0.2.1, .v (.int .i64) a0.2.2.1, .v (.int .i64) a0.2.2.2.1, .v (.int .i64) a0.2.2.2.2.1, .v .bool a0.2.2.2.2.2.1, .v (.sl (.int .i64)) a0.2.2.2.2.2.2] 37, bx [.v (.int .i64) a1.1, .v .str a1.2.1, .v (.int .i64) a1.2.2.1, .v (.int .i64) a1.2.2.2.1, .v (.int .i64) a1.2.2.2.2.1, .v .bool a1.2.2.2.2.2.1, .v (.sl (.int .i64)) a1.2.2.2.2.2.2] 37]⟩) (φ := True ∧ True ∧ True ∧ True ∧ True ∧ True ∧ True) (by kernel_rfl) ⟨trivial, trivial, trivial, trivial, trivial, trivial, trivial⟩ ?_
  refine VO.splitB 10 (b := (a0.1 == a1.1)) (by kernel_rfl) (fun hb => ?_) (fun hb => ?_)
  · replace h := cond_t h hb; clear hb
    refine VO.seg T_ok .dp 7 [2, 3, 17] [0, 1] (s' := ⟨[(2, .lf (.ptr 0 0 0 0)), (3, .lf (.ptr 1 0 0 0)), (17, B (a0.2.1.toList == a1.2.1.toList))], [bx [.v (.int .i64) a0.1, .v .str a0.2.1, .v (.int .i64) a0.2.2.1, .v (.int .i64) a0.2.2.2.1, .v (.int .i64) a0.2.2.2.2.1, .v .bool a0.2.2.2.2.2.1, .v (.sl (.int .i64)) a0.2.2.2.2.2.2] 37, bx [.v (.int .i64) a1.1, .v .str a1.2.1, .v (.int .i64) a1.2.2.1, .v (.int .i64) a1.2.2.2.1, .v (.int .i64) a1.2.2.2.2.1, .v .bool a1.2.2.2.2.2.1, .v (.sl (.int .i64)) a1.2.2.2.2.2.2] 37]⟩) (φ := True ∧ True ∧ True ∧ True ∧ True ∧ True ∧ True ∧ True) (by kernel_rfl) ⟨trivial, trivial, trivial, trivial, trivial, trivial, trivial, trivial⟩ ?_
    refine VO.splitB 17 (b := (a0.2.1.toList == a1.2.1.toList)) (by kernel_rfl) (fun hb => ?_) (fun hb => ?_)
    · replace h := cond_t h hb; clear hb
      refine VO.seg T_ok .dp 7 [2, 3, 24] [0, 1] (s' := ⟨[(2, .lf (.ptr 0 0 0 0)), (3, .lf (.ptr 1 0 0 0)), (24, B (a0.2.2.1 == a1.2.2.1))], [bx [.v (.int .i64) a0.1, .v .str a0.2.1, .v (.int .i64) a0.2.2.1, .v (.int .i64) a0.2.2.2.1, .v (.int .i64) a0.2.2.2.2.1, .v .bool a0.2.2.2.2.2.1, .v (.sl (.int .i64)) a0.2.2.2.2.2.2] 37, bx [.v (.int .i64) a1.1, .v .str a1.2.1, .v (.int .i64) a1.2.2.1, .v (.int .i64) a1.2.2.2.1, .v (.int .i64) a1.2.2.2.2.1, .v .bool a1.2.2.2.2.2.1, .v (.sl (.int .i64)) a1.2.2.2.2.2.2] 37]⟩) (φ := True ∧ True ∧ True ∧ True ∧ True ∧ True ∧ True ∧ True) (by kernel_rfl) ⟨trivial, trivial, trivial, trivial, trivial, trivial, trivial, trivial⟩ ?_
      refine VO.splitB 24 (b := (a0.2.2.1 == a1.2.2.1)) (by kernel_rfl) (fun hb => ?_) (fun hb => ?_)
      · replace h := cond_t h hb; clear hb
        refine VO.seg T_ok .dp 7 [2, 3, 31] [0, 1] (s' := ⟨[(2, .lf (.ptr 0 0 0 0)), (3, .lf (.ptr 1 0 0 0)), (31, B (a0.2.2.2.1 == a1.2.2.2.1))], [bx [.v (.int .i64) a0.1, .v .str a0.2.1, .v (.int .i64) a0.2.2.1, .v (.int .i64) a0.2.2.2.1, .v (.int .i64) a0.2.2.2.2.1, .v .bool a0.2.2.2.2.2.1, .v (.sl (.int .i64)) a0.2.2.2.2.2.2] 37, bx [.v (.int .i64) a1.1, .v .str a1.2.1, .v (.int .i64) a1.2.2.1, .v (.int .i64) a1.2.2.2.1, .v (.int .i64) a1.2.2.2.2.1, .v .bool a1.2.2.2.2.2.1, .v (.sl (.int .i64)) a1.2.2.2.2.2.2] 37]⟩) (φ := True ∧ True ∧ True ∧ True ∧ True ∧ True ∧ True ∧ True) (by kernel_rfl) ⟨trivial, trivial, trivial, trivial, trivial, trivial, trivial, trivial⟩ ?_
        refine VO.splitB 31 (b := (a0.2.2.2.1 == a1.2.2.2.1)) (by kernel_rfl) (fun hb => ?_) (fun hb => ?_)
        · replace h := cond_t h hb; clear hb
          refine VO.seg T_ok .dp 7 [2, 3, 38] [0, 1] (s' := ⟨[(2, .lf (.ptr 0 0 0 0)), (3, .lf (.ptr 1 0 0 0)), (38, B (a0.2.2.2.2.1 == a1.2.2.2.2.1))], [bx [.v (.int .i64) a0.1, .v .str a0.2.1, .v (.int .i64) a0.2.2.1, .v (.int .i64) a0.2.2.2.1, .v (.int .i64) a0.2.2.2.2.1, .v .bool a0.2.2.2.2.2.1, .v (.sl (.int .i64)) a0.2.2.2.2.2.2] 37, bx [.v (.int .i64) a1.1, .v .str a1.2.1, .v (.int .i64) a1.2.2.1, .v (.int .i64) a1.2.2.2.1, .v (.int .i64) a1.2.2.2.2.1, .v .bool a1.2.2.2.2.2.1, .v (.sl (.int .i64)) a1.2.2.2.2.2.2] 37]⟩) (φ := True ∧ True ∧ True ∧ True ∧ True ∧ True ∧ True ∧ True) (by kernel_rfl) ⟨trivial, trivial, trivial, trivial, trivial, trivial, trivial, trivial⟩ ?_
          refine VO.splitB 38 (b := (a0.2.2.2.2.1 == a1.2.2.2.2.1)) (by kernel_rfl) (fun hb => ?_) (fun hb => ?_)
          · replace h := cond_t h hb; clear hb
            refine VO.seg T_ok .dp 7 [2, 3, 45] [0, 1] (s' := ⟨[(2, .lf (.ptr 0 0 0 0)), (3, .lf (.ptr 1 0 0 0)), (45, B (a0.2.2.2.2.2.1 == a1.2.2.2.2.2.1))], [bx [.v (.int .i64) a0.1, .v .str a0.2.1, .v (.int .i64) a0.2.2.1, .v (.int .i64) a0.2.2.2.1, .v (.int .i64) a0.2.2.2.2.1, .v .bool a0.2.2.2.2.2.1, .v (.sl (.int .i64)) a0.2.2.2.2.2.2] 37, bx [.v (.int .i64) a1.1, .v .str a1.2.1, .v (.int .i64) a1.2.2.1, .v (.int .i64) a1.2.2.2.1, .v (.int .i64) a1.2.2.2.2.1, .v .bool a1.2.2.2.2.2.1, .v (.sl (.int .i64)) a1.2.2.2.2.2.2] 37]⟩) (φ := True ∧ True ∧ True ∧ True ∧ True ∧ True ∧ True ∧ True) (by kernel_rfl) ⟨trivial, trivial, trivial, trivial, trivial, trivial, trivial, trivial⟩ ?_
            refine VO.splitB 45 (b := (a0.2.2.2.2.2.1 == a1.2.2.2.2.2.1)) (by kernel_rfl) (fun hb => ?_) (fun hb => ?_)
            · replace h := cond_t h hb; clear hb
              refine VO.seg T_ok .dp 4 [45, 47, 49] [] (s' := ⟨[(45, B true), (47, .lf (.v (.sl (.int .i64)) a0.2.2.2.2.2.2)), (49, .lf (.v (.sl (.int .i64)) a1.2.2.2.2.2.2))], []⟩) (φ := True ∧ True ∧ True ∧ True ∧ True) (by kernel_rfl) ⟨trivial, trivial, trivial, trivial, trivial⟩ ?_
              refine VO.on (j := 40) (want := true) (d := 45) (b := true) rfl rfl rfl (by kernel_rfl) rfl ?_
              obtain ⟨y1, hy, h⟩ := andO_some h
              refine VO.call false [.t (.sl (.int .i64)), .t (.sl (.int .i64))] [] T_ok (d := some 50) (by kernel_rfl) (ok84 N _ _ hy) rfl ?_
              refine VO.seg T_ok .dp 2 [4] [] (s' := ⟨[(4, B y1)], []⟩) (φ := True ∧ True ∧ True) (by kernel_rfl) ⟨trivial, trivial, trivial⟩ ?_
              refine VO.nil ?_
              show VW _ _ _ _ _ _ _
              refine VW.ret ?_
              replace h := Option.some.inj h
              subst h
              exact retR [] (by kernel_rfl) rfl
            · replace h := cond_f h hb; clear hb
              refine VO.seg T_ok .dp 7 [4] [] (s' := ⟨[(4, B false)], []⟩) (φ := True ∧ True ∧ True ∧ True ∧ True ∧ True ∧ True ∧ True) (by kernel_rfl) ⟨trivial, trivial, trivial, trivial, trivial, trivial, trivial, trivial⟩ ?_
              refine VO.nil ?_
              show VW _ _ _ _ _ _ _
              refine VW.ret ?_
              replace h := Option.some.inj h
              subst h
              exact retR [] (by kernel_rfl) rfl
          · replace h := cond_f h hb; clear hb
            refine VO.seg T_ok .dp 14 [4] [] (s' := ⟨[(4, B false)], []⟩) (φ := True ∧ True ∧ True ∧ True ∧ True ∧ True ∧ True ∧ True ∧ True ∧ True ∧ True ∧ True ∧ True ∧ True ∧ True) (by kernel_rfl) ⟨trivial, trivial, trivial, trivial, trivial, trivial, trivial, trivial, trivial, trivial, trivial, trivial, trivial, trivial, trivial⟩ ?_
            refine VO.nil ?_
            show VW _ _ _ _ _ _ _
            refine VW.ret ?_
            replace h := Option.some.inj h
            subst h
            exact retR [] (by kernel_rfl) rfl
        · replace h := cond_f h hb; clear hb
          refine VO.seg T_ok .dp 21 [4] [] (s' := ⟨[(4, B false)], []⟩) (φ := True ∧ True ∧ True ∧ True ∧ True ∧ True ∧ True ∧ True ∧ True ∧ True ∧ True ∧ True ∧ True ∧ True ∧ True ∧ True ∧ True ∧ True ∧ True ∧ True ∧ True ∧ True) (by kernel_rfl) ⟨trivial, trivial, trivial, trivial, trivial, trivial, trivial, trivial, trivial, trivial, trivial, trivial, trivial, trivial, trivial, trivial, trivial, trivial, trivial, trivial, trivial, trivial⟩ ?_
          refine VO.nil ?_
          show VW _ _ _ _ _ _ _
          refine VW.ret ?_
          replace h := Option.some.inj h
          subst h
          exact retR [] (by kernel_rfl) rfl
      · replace h := cond_f h hb; clear hb
        refine VO.seg T_ok .dp 28 [4] [] (s' := ⟨[(4, B false)], []⟩) (φ := True ∧ True ∧ True ∧ True ∧ True ∧ True ∧ True ∧ True ∧ True ∧ True ∧ True ∧ True ∧ True ∧ True ∧ True ∧ True ∧ True ∧ True ∧ True ∧ True ∧ True ∧ True ∧ True ∧ True ∧ True ∧ True ∧ True ∧ True ∧ True) (by kernel_rfl) ⟨trivial, trivial, trivial, trivial, trivial, trivial, trivial, trivial, trivial, trivial, trivial, trivial, trivial, trivial, trivial, trivial, trivial, trivial, trivial, trivial, trivial, trivial, trivial, trivial, trivial, trivial, trivial, trivial, trivial⟩ ?_
        refine VO.nil ?_
        show VW _ _ _ _ _ _ _
        refine VW.ret ?_
        replace h := Option.some.inj h
        subst h
        exact retR [] (by kernel_rfl) rfl
    · replace h := cond_f h hb; clear hb
      refine VO.seg T_ok .dp 35 [4] [] (s' := ⟨[(4, B false)], []⟩) (φ := True ∧ True ∧ True ∧ True ∧ True ∧ True ∧ True ∧ True ∧ True ∧ True ∧ True ∧ True ∧ True ∧ True ∧ True ∧ True ∧ True ∧ True ∧ True ∧ True ∧ True ∧ True ∧ True ∧ True ∧ True ∧ True ∧ True ∧ True ∧ True ∧ True ∧ True ∧ True ∧ True ∧ True ∧ True ∧ True) (by kernel_rfl) ⟨trivial, trivial, trivial, trivial, trivial, trivial, trivial, trivial, trivial, trivial, trivial, trivial, trivial, trivial, trivial, trivial, trivial, trivial, trivial, trivial, trivial, trivial, trivial, trivial, trivial, trivial, trivial, trivial, trivial, trivial, trivial, trivial, trivial, trivial, trivial, trivial⟩ ?_
      refine VO.nil ?_
      show VW _ _ _ _ _ _ _
      refine VW.ret ?_
      replace h := Option.some.inj h
      subst h
      exact retR [] (by kernel_rfl) rfl
  · replace h := cond_f h hb; clear hb
    refine VO.seg T_ok .dp 42 [4] [] (s' := ⟨[(4, B false)], []⟩) (φ := True ∧ True ∧ True ∧ True ∧ True ∧ True ∧ True ∧ True ∧ True ∧ True ∧ True ∧ True ∧ True ∧ True ∧ True ∧ True ∧ True ∧ True ∧ True ∧ True ∧ True ∧ True ∧ True ∧ True ∧ True ∧ True ∧ True ∧ True ∧ True ∧ True ∧ True ∧ True ∧ True ∧ True ∧ True ∧ True ∧ True ∧ True ∧ True ∧ True ∧ True ∧ True ∧ True) (by kernel_rfl) ⟨trivial, trivial, trivial, trivial, trivial, trivial, trivial, trivial, trivial, trivial, trivial, trivial, trivial, trivial, trivial, trivial, trivial, trivial, trivial, trivial, trivial, trivial, trivial, trivial, trivial, trivial, trivial, trivial, trivial, trivial, trivial, trivial, trivial, trivial, trivial, trivial, trivial, trivial, trivial, trivial, trivial, trivial, trivial⟩ ?_
    refine VO.nil ?_
    show VW _ _ _ _ _ _ _
    refine VW.ret ?_
    replace h := Option.some.inj h
    subst h
    exact retR [] (by kernel_rfl) rfl

/- loop.example/g00844/spec.SamePlan -/
def F30_j0 (N : Nat) : Option (Bool) :=
  some true
def F30_l0_b (N : Nat) (a0 : (List (Int × (ByteArray × (Int × (Int × (Int × (Bool × (List Int))))))))) (a1 : (List (Int × (ByteArray × (Int × (Int × (Int × (Bool × (List Int))))))))) (nx35 : Int → Option (Bool)) (x28 : Int) : Option (Bool) :=
  cond (decide (x28 < (a0.length : Int))) (gd (InR x28 a0.length) (gd (InR x28 a1.length) (andO (F55 N (a0.getD x28.toNat (Ty.dflt Y35)) (a1.getD x28.toNat (Ty.dflt Y35))) fun y41 => cond (!y41) (some false) (nx35 (IntKind.i64.wrap (x28 + (1 : Int))))))) (F30_j0 N)
def F30_l0 (N : Nat) (a0 : (List (Int × (ByteArray × (Int × (Int × (Int × (Bool × (List Int))))))))) (a1 : (List (Int × (ByteArray × (Int × (Int × (Int × (Bool × (List Int))))))))) : Nat → Int → Option (Bool) := loopF (F30_l0_b N a0 a1) (fun _ => none)
theorem F30_l0_s (N : Nat) (a0 : (List (Int × (ByteArray × (Int × (Int × (Int × (Bool × (List Int))))))))) (a1 : (List (Int × (ByteArray × (Int × (Int × (Int × (Bool × (List Int))))))))) {k : Nat} (hk : 0 < k) (x28 : Int) : F30_l0 N a0 a1 k x28 = F30_l0_b N a0 a1 (F30_l0 N a0 a1 (k - 1)) x28 := by
  cases k with
  | zero => exact absurd hk (Nat.lt_irrefl 0)
  | succ m => rfl
def F30 (N : Nat) (a0 : (List (Int × (ByteArray × (Int × (Int × (Int × (Bool × (List Int))))))))) (a1 : (List (Int × (ByteArray × (Int × (Int × (Int × (Bool × (List Int))))))))) : Option (Bool) :=
  cond ((a0.length : Int) != (a1.length : Int)) (some false) (F30_l0 N a0 a1 N (0 : Int))
theorem ok30 (N : Nat) (a0 : (List (Int × (ByteArray × (Int × (Int × (Int × (Bool × (List Int))))))))) (a1 : (List (Int × (ByteArray × (Int × (Int × (Int × (Bool × (List Int))))))))) {r : Bool} (h : F30 N a0 a1 = some r) : Con Go.Proofs.Try.prog 30 [.lf (.v (.sl Y35) a0), .lf (.v (.sl Y35) a1)] [.lf (.v .bool r)] := by
  refine ⟨enters_of Go.Proofs.Try.func30 rfl (by decide), HC.intro [.lf (.v .bool)] T_ok Go.Proofs.Try.func30 rfl (Nat.le_of_ble_eq_true rfl) (Nat.le_of_ble_eq_true rfl) fun w0 E0 => ?_⟩
  unfold F30 at h
  show VW _ _ _ _ _ (retQ _ _ _ _) _
  refine VW.seq ?_
  refine VW.region ?_
  refine VO.seg T_ok .dp 1 [0, 1] [] (s' := ⟨[(0, .lf (.v (.sl Y35) a0)), (1, .lf (.v (.sl Y35) a1))], []⟩) (φ := True ∧ True) (by kernel_rfl) ⟨trivial, trivial⟩ ?_
  refine VO.nil ?_
  show VW _ _ _ _ _ _ _
  refine VW.seq ?_
  refine VW.seq ?_
  refine VW.region ?_
  refine VO.seg T_ok .dp 5 [0, 1, 10] [] (s' := ⟨[(0, .lf (.v (.sl Y35) a0)), (1, .lf (.v (.sl Y35) a1)), (10, B ((a0.length : Int) != (a1.length : Int)))], []⟩) (φ := True ∧ True ∧ True ∧ True ∧ True ∧ True) (by kernel_rfl) ⟨trivial, trivial, trivial, trivial, trivial, trivial⟩ ?_
  refine VO.nil ?_
  show VW _ _ _ _ _ _ _
  refine VW.cond (b := ((a0.length : Int) != (a1.length : Int))) (by kernel_rfl) (fun hb => ?_) (fun hb => ?_)
  · replace h := cond_t h hb; clear hb
    refine VW.seq ?_
    refine VW.region ?_
    refine VO.seg T_ok .dp 1 [4] [] (s' := ⟨[(4, B false)], []⟩) (φ := True ∧ True) (by kernel_rfl) ⟨trivial, trivial⟩ ?_
    refine VO.nil ?_
    show VW _ _ _ _ _ _ _
    refine VW.ret ?_
    replace h := Option.some.inj h
    subst h
    exact retR [] (by kernel_rfl) rfl
  · replace h := cond_f h hb; clear hb
    refine VW.skip ?_
    show VW _ _ _ _ _ _ _
    refine VW.join (fun s => s = ⟨[], []⟩ ∧ F30_j0 N = some r) ?_ ?_
    · refine VW.seq ?_
      refine VW.region ?_
      refine VO.seg T_ok .dp 1 [0, 1, 5] [] (s' := ⟨[(0, .lf (.v (.sl Y35) a0)), (1, .lf (.v (.sl Y35) a1)), (5, I (0 : Int))], []⟩) (φ := True ∧ True) (by kernel_rfl) ⟨trivial, trivial⟩ ?_
      refine VO.nil ?_
      show VW _ _ _ _ _ _ _
      refine VW.block ?_
      refine VW.loopL (fun k s => ∃ (x28 : Int), s = ⟨[(0, .lf (.v (.sl Y35) a0)), (1, .lf (.v (.sl Y35) a1)), (5, I x28)], []⟩ ∧ F30_l0 N a0 a1 k x28 = some r) N [.ren [0, 1, 5] []] (by kernel_rfl) ⟨(0 : Int), rfl, h⟩ ?_
      rintro k35 s ⟨x28, rfl, h⟩
      cases k35 with
      | zero => exact nomatch (show (none : Option (Bool)) = some r from h)
      | succ k35 =>
        replace h : F30_l0_b N a0 a1 (F30_l0 N a0 a1 k35) x28 = some r := h
        unfold F30_l0_b at h
        refine VW.seq ?_
        refine VW.seq ?_
        refine VW.region ?_
        refine VO.seg T_ok .dp 4 [0, 1, 5, 14] [] (s' := ⟨[(0, .lf (.v (.sl Y35) a0)), (1, .lf (.v (.sl Y35) a1)), (5, I x28), (14, B (decide (x28 < (a0.length : Int))))], []⟩) (φ := True ∧ True ∧ True ∧ True ∧ True) (by kernel_rfl) ⟨trivial, trivial, trivial, trivial, trivial⟩ ?_
        refine VO.nil ?_
        show VW _ _ _ _ _ _ _
        refine VW.cond (b := (decide (x28 < (a0.length : Int)))) (by kernel_rfl) (fun hb => ?_) (fun hb => ?_)
        · replace h := cond_t h hb; clear hb
          refine VW.skip ?_
          show VW _ _ _ _ _ _ _
          refine VW.seq ?_
          refine VW.block ?_
          refine VW.seq ?_
          obtain ⟨g39, h⟩ := gd_some h
          obtain ⟨g40, h⟩ := gd_some h
          obtain ⟨y41, hy41, h⟩ := andO_some h
          refine VW.drawn (by kernel_rfl) [some (17, .lf (.v (.sl Y35) a0)), some (18, I x28), some (19, .lf (.fp Y35 (a0.getD x28.toNat (Ty.dflt Y35)) 0)), some (20, .agg [.v (.int .i64) ((a0.getD x28.toNat (Ty.dflt Y35)).1), .v .str ((a0.getD x28.toNat (Ty.dflt Y35)).2.1), .v (.int .i64) ((a0.getD x28.toNat (Ty.dflt Y35)).2.2.1), .v (.int .i64) ((a0.getD x28.toNat (Ty.dflt Y35)).2.2.2.1), .v (.int .i64) ((a0.getD x28.toNat (Ty.dflt Y35)).2.2.2.2.1), .v .bool ((a0.getD x28.toNat (Ty.dflt Y35)).2.2.2.2.2.1), .v (.sl (.int .i64)) ((a0.getD x28.toNat (Ty.dflt Y35)).2.2.2.2.2.2)]), some (21, .lf (.v (.sl Y35) a1)), some (22, I x28), some (23, .lf (.fp Y35 (a1.getD x28.toNat (Ty.dflt Y35)) 0)), some (24, .agg [.v (.int .i64) ((a1.getD x28.toNat (Ty.dflt Y35)).1), .v .str ((a1.getD x28.toNat (Ty.dflt Y35)).2.1), .v (.int .i64) ((a1.getD x28.toNat (Ty.dflt Y35)).2.2.1), .v (.int .i64) ((a1.getD x28.toNat (Ty.dflt Y35)).2.2.2.1), .v (.int .i64) ((a1.getD x28.toNat (Ty.dflt Y35)).2.2.2.2.1), .v .bool ((a1.getD x28.toNat (Ty.dflt Y35)).2.2.2.2.2.1), .v (.sl (.int .i64)) ((a1.getD x28.toNat (Ty.dflt Y35)).2.2.2.2.2.2)]), some (25, B y41), some (26, B (!y41))] [] [[]] [(0, 0), (1, 0), (2, 0), (3, 0), (4, 0), (5, 0), (6, 0), (7, 0), (8, 0), (9, 0)] [0, 1, 5, 26] [] (s' := ⟨[(0, .lf (.v (.sl Y35) a0)), (1, .lf (.v (.sl Y35) a1)), (5, I x28), (26, B (!y41))], []⟩) (by kernel_rfl) (by kernel_rfl) ⟨⟨_, rfl, Stp.ev T_ok (m := .dp) (φ := True) (by kernel_rfl) trivial⟩,
    ⟨_, rfl, Stp.ev T_ok (m := .dp) (φ := True) (by kernel_rfl) trivial⟩,
    ⟨_, rfl, Stp.ev T_ok (m := .dp) (φ := InR x28 a0.length) (by kernel_rfl) g39⟩,
    ⟨_, rfl, Stp.ev T_ok (m := .dp) (φ := True) (by kernel_rfl) trivial⟩,
    ⟨_, rfl, Stp.ev T_ok (m := .dp) (φ := True) (by kernel_rfl) trivial⟩,
    ⟨_, rfl, Stp.ev T_ok (m := .dp) (φ := True) (by kernel_rfl) trivial⟩,
    ⟨_, rfl, Stp.ev T_ok (m := .dp) (φ := InR x28 a1.length) (by kernel_rfl) g40⟩,
    ⟨_, rfl, Stp.ev T_ok (m := .dp) (φ := True) (by kernel_rfl) trivial⟩,
    ⟨_, rfl, Stp.eq (Stp.call false [.t Y35, .t Y35] [] T_ok (d := some 25) (by kernel_rfl) (ok55 N _ _ hy41) rfl) (by kernel_rfl) (by kernel_rfl)⟩,
    ⟨_, rfl, Stp.ev T_ok (m := .dp) (φ := True) (by kernel_rfl) trivial⟩, trivial⟩ (by kernel_rfl) ?_
          show VW _ _ _ _ _ _ _
          refine VW.cond (b := (!y41)) (by kernel_rfl) (fun hb => ?_) (fun hb => ?_)
          · replace h := cond_t h hb; clear hb
            refine VW.seq ?_
            refine VW.region ?_
            refine VO.seg T_ok .dp 1 [4] [] (s' := ⟨[(4, B false)], []⟩) (φ := True ∧ True) (by kernel_rfl) ⟨trivial, trivial⟩ ?_
            refine VO.nil ?_
            show VW _ _ _ _ _ _ _
            refine VW.ret ?_
            replace h := Option.some.inj h
            subst h
            exact retR [] (by kernel_rfl) rfl
          · replace h := cond_f h hb; clear hb
            refine VW.skip ?_
            show VW _ _ _ _ _ _ _
            refine VW.region ?_
            refine VO.seg T_ok .dp 3 [0, 1, 5] [] (s' := ⟨[(0, .lf (.v (.sl Y35) a0)), (1, .lf (.v (.sl Y35) a1)), (5, I (IntKind.i64.wrap (x28 + (1 : Int))))], []⟩) (φ := True ∧ True ∧ True ∧ True) (by kernel_rfl) ⟨trivial, trivial, trivial, trivial⟩ ?_
            refine VO.nil ?_
            exact around [.ren [0, 1, 5] []] (by kernel_rfl) ⟨(IntKind.i64.wrap (x28 + (1 : Int))), rfl, h⟩
        · replace h := cond_f h hb; clear hb
          refine VW.exit ?_
          exact arrive [.ren [] []] (by kernel_rfl) ⟨rfl, h⟩
    · rintro s ⟨rfl, h⟩
      unfold F30_j0 at h
      refine VW.seq ?_
      refine VW.region ?_
      refine VO.seg T_ok .dp 1 [4] [] (s' := ⟨[(4, B true)], []⟩) (φ := True ∧ True) (by kernel_rfl) ⟨trivial, trivial⟩ ?_
      refine VO.nil ?_
      show VW _ _ _ _ _ _ _
      refine VW.ret ?_
      replace h := Option.some.inj h
      subst h
      exact retR [] (by kernel_rfl) rfl

/- loop.example/g00844/spec.SameTemplate -/
def F16 (N : Nat) (a0 : (List (Int × (ByteArray × (Int × (Int × (Int × (Bool × (List Int))))))))) (a1 : (List (Int × (ByteArray × (Int × (Int × (Int × (Bool × (List Int))))))))) : Option (Bool) :=
  andO (F29 N a0) fun y1 => andO (F29 N a1) fun y2 => cond y1.2.2 (cond y2.2.2 (andO (F30 N y1.1 y2.1) fun y3 => some y3) (some false)) (some false)
theorem ok16 (N : Nat) (a0 : (List (Int × (ByteArray × (Int × (Int × (Int × (Bool × (List Int))))))))) (a1 : (List (Int × (ByteArray × (Int × (Int × (Int × (Bool × (List Int))))))))) {r : Bool} (h : F16 N a0 a1 = some r) : Con Go.Proofs.Try.prog 16 [.lf (.v (.sl Y35) a0), .lf (.v (.sl Y35) a1)] [.lf (.v .bool r)] := by
  refine ⟨enters_of Go.Proofs.Try.func16 rfl (by decide), HC.intro [.lf (.v .bool)] T_ok Go.Proofs.Try.func16 rfl (Nat.le_of_ble_eq_true rfl) (Nat.le_of_ble_eq_true rfl) fun w0 E0 => ?_⟩
  unfold F16 at h
  show VW _ _ _ _ _ (retQ _ _ _ _) _
  refine VW.seq ?_
  refine VW.region ?_
  refine VO.seg T_ok .dp 1 [0, 1] [] (s' := ⟨[(0, .lf (.v (.sl Y35) a0)), (1, .lf (.v (.sl Y35) a1))], []⟩) (φ := True ∧ True) (by kernel_rfl) ⟨trivial, trivial⟩ ?_
  refine VO.nil ?_
  show VW _ _ _ _ _ _ _
  refine VW.seq ?_
  refine VW.region ?_
  refine VO.seg T_ok .dp 1 [1, 12] [] (s' := ⟨[(1, .lf (.v (.sl Y35) a1)), (12, .lf (.v (.sl Y35) a0))], []⟩) (φ := True ∧ True) (by kernel_rfl) ⟨trivial, trivial⟩ ?_
  obtain ⟨y1, hy, h⟩ := andO_some h
  refine VO.call false [.t (.sl Y35)] [] T_ok (d := some 13) (by kernel_rfl) (ok29 N _ hy) rfl ?_
  refine VO.seg T_ok .dp 7 [1, 5, 7] [0] (s' := ⟨[(1, .lf (.v (.sl Y35) a1)), (5, .lf (.hd 0 0 none)), (7, B y1.2.2)], [ar 0 Y35 y1.1 .tp]⟩) (φ := True ∧ True ∧ True ∧ True ∧ True ∧ True ∧ True ∧ True) (by kernel_rfl) ⟨trivial, trivial, trivial, trivial, trivial, trivial, trivial, trivial⟩ ?_
  refine VO.nil ?_
  show VW _ _ _ _ _ _ _
  refine VW.seq ?_
  refine VW.region ?_
  refine VO.seg T_ok .dp 1 [5, 7, 18] [0] (s' := ⟨[(5, .lf (.hd 0 0 none)), (7, B y1.2.2), (18, .lf (.v (.sl Y35) a1))], [ar 0 Y35 y1.1 .tp]⟩) (φ := True ∧ True) (by kernel_rfl) ⟨trivial, trivial⟩ ?_
  obtain ⟨y2, hy, h⟩ := andO_some h
  refine VO.call false [.t (.sl Y35)] [] T_ok (d := some 19) (by kernel_rfl) (ok29 N _ hy) rfl ?_
  refine VO.seg T_ok .dp 7 [5, 7, 8, 10] [0, 1] (s' := ⟨[(5, .lf (.hd 0 0 none)), (7, B y1.2.2), (8, .lf (.hd 1 0 none)), (10, B y2.2.2)], [ar 0 Y35 y1.1 .tp, ar 0 Y35 y2.1 .tp]⟩) (φ := True ∧ True ∧ True ∧ True ∧ True ∧ True ∧ True ∧ True) (by kernel_rfl) ⟨trivial, trivial, trivial, trivial, trivial, trivial, trivial, trivial⟩ ?_
  refine VO.nil ?_
  show VW _ _ _ _ _ _ _
  refine VW.seq ?_
  refine VW.region ?_
  refine VO.seg T_ok .dp 2 [5, 8, 10, 24] [0, 1] (s' := ⟨[(5, .lf (.hd 0 0 none)), (8, .lf (.hd 1 0 none)), (10, B y2.2.2), (24, B y1.2.2)], [ar 0 Y35 y1.1 .tp, ar 0 Y35 y2.1 .tp]⟩) (φ := True ∧ True ∧ True) (by kernel_rfl) ⟨trivial, trivial, trivial⟩ ?_
  refine VO.splitB 24 (b := y1.2.2) (by kernel_rfl) (fun hb => ?_) (fun hb => ?_)
  · replace h := cond_t h hb; clear hb
    refine VO.seg T_ok .dp 3 [5, 8, 27] [0, 1] (s' := ⟨[(5, .lf (.hd 0 0 none)), (8, .lf (.hd 1 0 none)), (27, B y2.2.2)], [ar 0 Y35 y1.1 .tp, ar 0 Y35 y2.1 .tp]⟩) (φ := True ∧ True ∧ True ∧ True) (by kernel_rfl) ⟨trivial, trivial, trivial, trivial⟩ ?_
    refine VO.splitB 27 (b := y2.2.2) (by kernel_rfl) (fun hb => ?_) (fun hb => ?_)
    · replace h := cond_t h hb; clear hb
      refine VO.seg T_ok .dp 2 [27, 28, 29] [0, 1] (s' := ⟨[(27, B true), (28, .lf (.hd 0 0 none)), (29, .lf (.hd 1 0 none))], [ar 0 Y35 y1.1 .tp, ar 0 Y35 y2.1 .tp]⟩) (φ := True ∧ True ∧ True) (by kernel_rfl) ⟨trivial, trivial, trivial⟩ ?_
      refine VO.on (j := 4) (want := true) (d := 27) (b := true) rfl rfl rfl (by kernel_rfl) rfl ?_
      obtain ⟨y3, hy, h⟩ := andO_some h
      refine VO.call true [.t (.sl Y35), .t (.sl Y35)] [] T_ok (d := some 30) (by kernel_rfl) (ok30 N _ _ hy) rfl ?_
      refine VO.seg T_ok .dp 2 [4] [] (s' := ⟨[(4, B y3)], []⟩) (φ := True ∧ True ∧ True) (by kernel_rfl) ⟨trivial, trivial, trivial⟩ ?_
      refine VO.nil ?_
      show VW _ _ _ _ _ _ _
      refine VW.ret ?_
      replace h := Option.some.inj h
      subst h
      exact retR [] (by kernel_rfl) rfl
    · replace h := cond_f h hb; clear hb
      refine VO.seg T_ok .dp 5 [4] [] (s' := ⟨[(4, B false)], []⟩) (φ := True ∧ True ∧ True ∧ True ∧ True ∧ True) (by kernel_rfl) ⟨trivial, trivial, trivial, trivial, trivial, trivial⟩ ?_
      refine VO.nil ?_
      show VW _ _ _ _ _ _ _
      refine VW.ret ?_
      replace h := Option.some.inj h
      subst h
      exact retR [] (by kernel_rfl) rfl
  · replace h := cond_f h hb; clear hb
    refine VO.seg T_ok .dp 8 [4] [] (s' := ⟨[(4, B false)], []⟩) (φ := True ∧ True ∧ True ∧ True ∧ True ∧ True ∧ True ∧ True ∧ True) (by kernel_rfl) ⟨trivial, trivial, trivial, trivial, trivial, trivial, trivial, trivial, trivial⟩ ?_
    refine VO.nil ?_
    show VW _ _ _ _ _ _ _
    refine VW.ret ?_
    replace h := Option.some.inj h
    subst h
    exact retR [] (by kernel_rfl) rfl

/- slices.Clone[[]int,int] -/
def F85 (N : Nat) (a0 : (List Int)) : Option ((List Int)) :=
  gd (a0.length ≤ lim (.int .i64)) (some a0)
theorem ok85 (N : Nat) (a0 : (List Int)) {r : (List Int)} (h : F85 N a0 = some r) : Con Go.Proofs.Try.prog 85 [.lf (.v (.sl (.int .i64)) a0)] [.lf (.own (.int .i64) r .dp)] := by
  refine ⟨enters_of Go.Proofs.Try.func85 rfl (by decide), HC.intro [.lf (.own (.int .i64) .dp)] T_ok Go.Proofs.Try.func85 rfl (Nat.le_of_ble_eq_true rfl) (Nat.le_of_ble_eq_true rfl) fun w0 E0 => ?_⟩
  unfold F85 at h
  show VW _ _ _ _ _ (retQ _ _ _ _) _
  refine VW.seq ?_
  refine VW.region ?_
  refine VO.seg T_ok .dp 1 [0] [] (s' := ⟨[(0, .lf (.v (.sl (.int .i64)) a0))], []⟩) (φ := True ∧ True) (by kernel_rfl) ⟨trivial, trivial⟩ ?_
  refine VO.nil ?_
  show VW _ _ _ _ _ _ _
  refine VW.seq ?_
  refine VW.seq ?_
  refine VW.region ?_
  refine VO.seg T_ok .dp 1 [0, 3] [] (s' := ⟨[(0, .lf (.v (.sl (.int .i64)) a0)), (3, .lf (.v (.sl (.int .i64)) a0))], []⟩) (φ := True ∧ True) (by kernel_rfl) ⟨trivial, trivial⟩ ?_
  refine VO.isNil (d := 4) (e := (.int .i64)) (xs := a0) T_ok rfl rfl rfl rfl (by kernel_rfl) (by kernel_rfl) (fun hx => ?_) ?_
  · replace h : some ([]) = some r := by
      subst hx; first | exact h | exact (gd_some h).2
    refine VO.seg T_ok .dp 0 [0, 4] [] (s' := ⟨[(0, .lf (.v (.sl (.int .i64)) a0)), (4, B true)], []⟩) (φ := True) (by kernel_rfl) trivial ?_
    refine VO.nil ?_
    show VW _ _ _ _ _ _ _
    refine VW.cond (b := true) (by kernel_rfl) (fun _ => ?_) (fun h' => nomatch h')
    refine VW.seq ?_
    refine VW.region ?_
    refine VO.seg T_ok .dp 1 [2] [] (s' := ⟨[(2, .lf (.nil))], []⟩) (φ := True ∧ True) (by kernel_rfl) ⟨trivial, trivial⟩ ?_
    refine VO.nil ?_
    show VW _ _ _ _ _ _ _
    refine VW.ret ?_
    replace h := Option.some.inj h
    subst h
    exact retR [none] (by kernel_rfl) rfl
  · refine VO.seg T_ok .dp 0 [0, 4] [] (s' := ⟨[(0, .lf (.v (.sl (.int .i64)) a0)), (4, B false)], []⟩) (φ := True) (by kernel_rfl) trivial ?_
    refine VO.nil ?_
    show VW _ _ _ _ _ _ _
    refine VW.cond (b := false) (by kernel_rfl) (fun h' => nomatch h') (fun _ => ?_)
    refine VW.skip ?_
    show VW _ _ _ _ _ _ _
    refine VW.seq ?_
    refine VW.region ?_
    obtain ⟨g1, h⟩ := gd_some h
    refine VO.seg T_ok .dp 4 [2] [0] (s' := ⟨[(2, .lf (.hd 0 0 none))], [ar 0 (.int .i64) a0 .dp]⟩) (φ := True ∧ True ∧ (a0.length ≤ lim (.int .i64)) ∧ True ∧ True) (by kernel_rfl) ⟨trivial, trivial, g1, trivial, trivial⟩ ?_
    refine VO.nil ?_
    show VW _ _ _ _ _ _ _
    refine VW.ret ?_
    replace h := Option.some.inj h
    subst h
    exact retR [some 0] (by kernel_rfl) rfl

/- loop.example/g00844/impl.own -/
def F56_j0 (N : Nat) (x24 : (List (Int × (ByteArray × (Int × (Int × (Int × (Bool × (List Int))))))))) : Option ((List (Int × (ByteArray × (Int × (Int × (Int × (Bool × (List Int))))))))) :=
  some x24
def F56_l0_b (N : Nat) (a0 : (List (Int × (ByteArray × (Int × (Int × (Int × (Bool × (List Int))))))))) (nx42 : (List (Int × (ByteArray × (Int × (Int × (Int × (Bool × (List Int)))))))) → Int → Int → Option ((List (Int × (ByteArray × (Int × (Int × (Int × (Bool × (List Int)))))))))) (x33 : (List (Int × (ByteArray × (Int × (Int × (Int × (Bool × (List Int))))))))) (x34 : Int) (x35 : Int) : Option ((List (Int × (ByteArray × (Int × (Int × (Int × (Bool × (List Int))))))))) :=
  cond (decide (x35 < x34)) (gd (InR x35 a0.length) (andO (F85 N ((a0.getD x35.toNat (Ty.dflt Y35)).2.2.2.2.2.2)) fun y47 => gd (x33.length + ([((a0.getD x35.toNat (Ty.dflt Y35)).1, ((a0.getD x35.toNat (Ty.dflt Y35)).2.1, ((a0.getD x35.toNat (Ty.dflt Y35)).2.2.1, ((a0.getD x35.toNat (Ty.dflt Y35)).2.2.2.1, ((a0.getD x35.toNat (Ty.dflt Y35)).2.2.2.2.1, ((a0.getD x35.toNat (Ty.dflt Y35)).2.2.2.2.2.1, y47))))))]).length ≤ lim Y35) (nx42 (x33 ++ ([((a0.getD x35.toNat (Ty.dflt Y35)).1, ((a0.getD x35.toNat (Ty.dflt Y35)).2.1, ((a0.getD x35.toNat (Ty.dflt Y35)).2.2.1, ((a0.getD x35.toNat (Ty.dflt Y35)).2.2.2.1, ((a0.getD x35.toNat (Ty.dflt Y35)).2.2.2.2.1, ((a0.getD x35.toNat (Ty.dflt Y35)).2.2.2.2.2.1, y47))))))])) x34 (IntKind.i64.wrap (x35 + (1 : Int)))))) (F56_j0 N x33)
def F56_l0 (N : Nat) (a0 : (List (Int × (ByteArray × (Int × (Int × (Int × (Bool × (List Int))))))))) : Nat → (List (Int × (ByteArray × (Int × (Int × (Int × (Bool × (List Int)))))))) → Int → Int → Option ((List (Int × (ByteArray × (Int × (Int × (Int × (Bool × (List Int))))))))) := loopF (F56_l0_b N a0) (fun _ _ _ => none)
theorem F56_l0_s (N : Nat) (a0 : (List (Int × (ByteArray × (Int × (Int × (Int × (Bool × (List Int))))))))) {k : Nat} (hk : 0 < k) (x33 : (List (Int × (ByteArray × (Int × (Int × (Int × (Bool × (List Int))))))))) (x34 : Int) (x35 : Int) : F56_l0 N a0 k x33 x34 x35 = F56_l0_b N a0 (F56_l0 N a0 (k - 1)) x33 x34 x35 := by
  cases k with
  | zero => exact absurd hk (Nat.lt_irrefl 0)
  | succ m => rfl
def F56 (N : Nat) (a0 : (List (Int × (ByteArray × (Int × (Int × (Int × (Bool × (List Int))))))))) : Option ((List (Int × (ByteArray × (Int × (Int × (Int × (Bool × (List Int))))))))) :=
  F56_l0 N a0 N ([]) (a0.length : Int) (0 : Int)
theorem ok56 (N : Nat) (a0 : (List (Int × (ByteArray × (Int × (Int × (Int × (Bool × (List Int))))))))) {r : (List (Int × (ByteArray × (Int × (Int × (Int × (Bool × (List Int))))))))} (h : F56 N a0 = some r) : Con Go.Proofs.Try.prog 56 [.lf (.v (.sl Y35) a0)] [.lf (.own Y35 r .tp)] := by
  refine ⟨enters_of Go.Proofs.Try.func56 rfl (by decide), HC.intro [.lf (.own Y35 .tp)] T_ok Go.Proofs.Try.func56 rfl (Nat.le_of_ble_eq_true rfl) (Nat.le_of_ble_eq_true rfl) fun w0 E0 => ?_⟩
  unfold F56 at h
  show VW _ _ _ _ _ (retQ _ _ _ _) _
  refine VW.seq ?_
  refine VW.region ?_
  refine VO.seg T_ok .dp 1 [0] [] (s' := ⟨[(0, .lf (.v (.sl Y35) a0))], []⟩) (φ := True ∧ True) (by kernel_rfl) ⟨trivial, trivial⟩ ?_
  refine VO.nil ?_
  show VW _ _ _ _ _ _ _
  refine VW.seq ?_
  refine VW.region ?_
  refine VO.seg T_ok .dp 1 [0, 3] [] (s' := ⟨[(0, .lf (.v (.sl Y35) a0)), (3, .lf (.nil))], []⟩) (φ := True ∧ True) (by kernel_rfl) ⟨trivial, trivial⟩ ?_
  refine VO.nil ?_
  show VW _ _ _ _ _ _ _
  refine VW.join (fun s => ∃ (x24 : (List (Int × (ByteArray × (Int × (Int × (Int × (Bool × (List Int))))))))), s = ⟨[(3, .lf (.hd 0 0 none))], [ar 0 Y35 x24 .tp]⟩ ∧ F56_j0 N x24 = some r) ?_ ?_
  · refine VW.seq ?_
    refine VW.region ?_
    refine VO.seg T_ok .dp 3 [3, 6, 7, 8] [] (s' := ⟨[(3, .lf (.nil)), (6, .lf (.v (.sl Y35) a0)), (7, I (a0.length : Int)), (8, I (0 : Int))], []⟩) (φ := True ∧ True ∧ True ∧ True) (by kernel_rfl) ⟨trivial, trivial, trivial, trivial⟩ ?_
    refine VO.nil ?_
    show VW _ _ _ _ _ _ _
    refine VW.block ?_
    refine VW.loopL (fun k s => ∃ (x33 : (List (Int × (ByteArray × (Int × (Int × (Int × (Bool × (List Int))))))))) (x34 : Int) (x35 : Int), s = ⟨[(3, .lf (.hd 0 0 none)), (6, .lf (.v (.sl Y35) a0)), (7, I x34), (8, I x35)], [ar 0 Y35 x33 .tp]⟩ ∧ F56_l0 N a0 k x33 x34 x35 = some r) N [.nilS 3 Y35 .tp, .ren [3, 6, 7, 8] [0]] (by kernel_rfl) ⟨[], (a0.length : Int), (0 : Int), rfl, h⟩ ?_
    rintro k42 s ⟨x33, x34, x35, rfl, h⟩
    cases k42 with
    | zero => exact nomatch (show (none : Option ((List (Int × (ByteArray × (Int × (Int × (Int × (Bool × (List Int)))))))))) = some r from h)
    | succ k42 =>
      replace h : F56_l0_b N a0 (F56_l0 N a0 k42) x33 x34 x35 = some r := h
      unfold F56_l0_b at h
      refine VW.seq ?_
      refine VW.region ?_
      refine VO.seg T_ok .dp 1 [3, 6, 7, 8, 9] [0] (s' := ⟨[(3, .lf (.hd 0 0 none)), (6, .lf (.v (.sl Y35) a0)), (7, I x34), (8, I x35), (9, B (decide (x35 < x34)))], [ar 0 Y35 x33 .tp]⟩) (φ := True ∧ True) (by kernel_rfl) ⟨trivial, trivial⟩ ?_
      refine VO.nil ?_
      show VW _ _ _ _ _ _ _
      refine VW.seq ?_
      refine VW.cond (b := (decide (x35 < x34))) (by kernel_rfl) (fun hb => ?_) (fun hb => ?_)
      · replace h := cond_t h hb; clear hb
        refine VW.skip ?_
        show VW _ _ _ _ _ _ _
        refine VW.seq ?_
        refine VW.block ?_
        refine VW.seq ?_
        refine VW.region ?_
        obtain ⟨g46, h⟩ := gd_some h
        refine VO.seg T_ok .dp 4 [3, 5, 6, 7, 8] [0, 1] (s' := ⟨[(3, .lf (.hd 0 0 none)), (5, .lf (.ptr 1 0 0 0)), (6, .lf (.v (.sl Y35) a0)), (7, I x34), (8, I x35)], [ar 0 Y35 x33 .tp, bx [.v (.int .i64) ((a0.getD x35.toNat (Ty.dflt Y35)).1), .v .str ((a0.getD x35.toNat (Ty.dflt Y35)).2.1), .v (.int .i64) ((a0.getD x35.toNat (Ty.dflt Y35)).2.2.1), .v (.int .i64) ((a0.getD x35.toNat (Ty.dflt Y35)).2.2.2.1), .v (.int .i64) ((a0.getD x35.toNat (Ty.dflt Y35)).2.2.2.2.1), .v .bool ((a0.getD x35.toNat (Ty.dflt Y35)).2.2.2.2.2.1), .v (.sl (.int .i64)) ((a0.getD x35.toNat (Ty.dflt Y35)).2.2.2.2.2.2)] 37]⟩) (φ := (InR x35 a0.length) ∧ True ∧ True ∧ True ∧ True) (by kernel_rfl) ⟨g46, trivial, trivial, trivial, trivial⟩ ?_
        refine VO.nil ?_
        show VW _ _ _ _ _ _ _
        refine VW.seq ?_
        refine VW.region ?_
        refine VO.seg T_ok .dp 2 [3, 5, 6, 7, 8, 13] [0, 1] (s' := ⟨[(3, .lf (.hd 0 0 none)), (5, .lf (.ptr 1 0 0 0)), (6, .lf (.v (.sl Y35) a0)), (7, I x34), (8, I x35), (13, .lf (.v (.sl (.int .i64)) ((a0.getD x35.toNat (Ty.dflt Y35)).2.2.2.2.2.2)))], [ar 0 Y35 x33 .tp, bx [.v (.int .i64) ((a0.getD x35.toNat (Ty.dflt Y35)).1), .v .str ((a0.getD x35.toNat (Ty.dflt Y35)).2.1), .v (.int .i64) ((a0.getD x35.toNat (Ty.dflt Y35)).2.2.1), .v (.int .i64) ((a0.getD x35.toNat (Ty.dflt Y35)).2.2.2.1), .v (.int .i64) ((a0.getD x35.toNat (Ty.dflt Y35)).2.2.2.2.1), .v .bool ((a0.getD x35.toNat (Ty.dflt Y35)).2.2.2.2.2.1), .v (.sl (.int .i64)) ((a0.getD x35.toNat (Ty.dflt Y35)).2.2.2.2.2.2)] 37]⟩) (φ := True ∧ True ∧ True) (by kernel_rfl) ⟨trivial, trivial, trivial⟩ ?_
        obtain ⟨y47, hy, h⟩ := andO_some h
        refine VO.call false [.t (.sl (.int .i64))] [] T_ok (d := some 14) (by kernel_rfl) (ok85 N _ hy) rfl ?_
        refine VO.seg T_ok .dp 2 [3, 5, 6, 7, 8] [0, 1, 2] (s' := ⟨[(3, .lf (.hd 0 0 none)), (5, .lf (.ptr 1 0 0 0)), (6, .lf (.v (.sl Y35) a0)), (7, I x34), (8, I x35)], [ar 0 Y35 x33 .tp, bx [.v (.int .i64) ((a0.getD x35.toNat (Ty.dflt Y35)).1), .v .str ((a0.getD x35.toNat (Ty.dflt Y35)).2.1), .v (.int .i64) ((a0.getD x35.toNat (Ty.dflt Y35)).2.2.1), .v (.int .i64) ((a0.getD x35.toNat (Ty.dflt Y35)).2.2.2.1), .v (.int .i64) ((a0.getD x35.toNat (Ty.dflt Y35)).2.2.2.2.1), .v .bool ((a0.getD x35.toNat (Ty.dflt Y35)).2.2.2.2.2.1), .hd 2 0 none] 37, ar 0 (.int .i64) y47 .dp]⟩) (φ := True ∧ True ∧ True) (by kernel_rfl) ⟨trivial, trivial, trivial⟩ ?_
        refine VO.nil ?_
        show VW _ _ _ _ _ _ _
        refine VW.region ?_
        refine VO.seg T_ok .dp 2 [6, 7, 8, 16, 17] [0, 2] (s' := ⟨[(6, .lf (.v (.sl Y35) a0)), (7, I x34), (8, I x35), (16, .lf (.hd 0 0 none)), (17, .agg [.v (.int .i64) ((a0.getD x35.toNat (Ty.dflt Y35)).1), .v .str ((a0.getD x35.toNat (Ty.dflt Y35)).2.1), .v (.int .i64) ((a0.getD x35.toNat (Ty.dflt Y35)).2.2.1), .v (.int .i64) ((a0.getD x35.toNat (Ty.dflt Y35)).2.2.2.1), .v (.int .i64) ((a0.getD x35.toNat (Ty.dflt Y35)).2.2.2.2.1), .v .bool ((a0.getD x35.toNat (Ty.dflt Y35)).2.2.2.2.2.1), .hd 1 0 none])], [ar 0 Y35 x33 .tp, ar 0 (.int .i64) y47 .dp]⟩) (φ := True ∧ True ∧ True) (by kernel_rfl) ⟨trivial, trivial, trivial⟩ ?_
        refine VO.ghl [.frz 1] ?_
        obtain ⟨g48, h⟩ := gd_some h
        refine VO.seg T_ok .dp 3 [3, 6, 7, 8] [0] (s' := ⟨[(3, .lf (.hd 0 0 none)), (6, .lf (.v (.sl Y35) a0)), (7, I x34), (8, I x35)], [ar 0 Y35 (x33 ++ ([((a0.getD x35.toNat (Ty.dflt Y35)).1, ((a0.getD x35.toNat (Ty.dflt Y35)).2.1, ((a0.getD x35.toNat (Ty.dflt Y35)).2.2.1, ((a0.getD x35.toNat (Ty.dflt Y35)).2.2.2.1, ((a0.getD x35.toNat (Ty.dflt Y35)).2.2.2.2.1, ((a0.getD x35.toNat (Ty.dflt Y35)).2.2.2.2.2.1, y47))))))])) .tp]⟩) (φ := True ∧ (x33.length + ([((a0.getD x35.toNat (Ty.dflt Y35)).1, ((a0.getD x35.toNat (Ty.dflt Y35)).2.1, ((a0.getD x35.toNat (Ty.dflt Y35)).2.2.1, ((a0.getD x35.toNat (Ty.dflt Y35)).2.2.2.1, ((a0.getD x35.toNat (Ty.dflt Y35)).2.2.2.2.1, ((a0.getD x35.toNat (Ty.dflt Y35)).2.2.2.2.2.1, y47))))))]).length ≤ lim Y35) ∧ True ∧ True) (by kernel_rfl) ⟨trivial, g48, trivial, trivial⟩ ?_
        refine VO.nil ?_
        show VW _ _ _ _ _ _ _
        refine VW.region ?_
        refine VO.seg T_ok .dp 2 [3, 6, 7, 8] [0] (s' := ⟨[(3, .lf (.hd 0 0 none)), (6, .lf (.v (.sl Y35) a0)), (7, I x34), (8, I (IntKind.i64.wrap (x35 + (1 : Int))))], [ar 0 Y35 (x33 ++ ([((a0.getD x35.toNat (Ty.dflt Y35)).1, ((a0.getD x35.toNat (Ty.dflt Y35)).2.1, ((a0.getD x35.toNat (Ty.dflt Y35)).2.2.1, ((a0.getD x35.toNat (Ty.dflt Y35)).2.2.2.1, ((a0.getD x35.toNat (Ty.dflt Y35)).2.2.2.2.1, ((a0.getD x35.toNat (Ty.dflt Y35)).2.2.2.2.2.1, y47))))))])) .tp]⟩) (φ := True ∧ True ∧ True) (by kernel_rfl) ⟨trivial, trivial, trivial⟩ ?_
        refine VO.nil ?_
        exact around [.ren [3, 6, 7, 8] [0]] (by kernel_rfl) ⟨(x33 ++ ([((a0.getD x35.toNat (Ty.dflt Y35)).1, ((a0.getD x35.toNat (Ty.dflt Y35)).2.1, ((a0.getD x35.toNat (Ty.dflt Y35)).2.2.1, ((a0.getD x35.toNat (Ty.dflt Y35)).2.2.2.1, ((a0.getD x35.toNat (Ty.dflt Y35)).2.2.2.2.1, ((a0.getD x35.toNat (Ty.dflt Y35)).2.2.2.2.2.1, y47))))))])), x34, (IntKind.i64.wrap (x35 + (1 : Int))), rfl, h⟩
      · replace h := cond_f h hb; clear hb
        refine VW.exit ?_
        exact arrive [.ren [3] [0]] (by kernel_rfl) ⟨x33, rfl, h⟩
  · rintro s ⟨x24, rfl, h⟩
    unfold F56_j0 at h
    refine VW.seq ?_
    refine VW.region ?_
    refine VO.seg T_ok .dp 2 [2] [0] (s' := ⟨[(2, .lf (.hd 0 0 none))], [ar 0 Y35 x24 .tp]⟩) (φ := True ∧ True ∧ True) (by kernel_rfl) ⟨trivial, trivial, trivial⟩ ?_
    refine VO.nil ?_
    show VW _ _ _ _ _ _ _
    refine VW.ret ?_
    replace h := Option.some.inj h
    subst h
    exact retR [some 0] (by kernel_rfl) rfl

/- (loop.example/g00844/impl.Node).isLiteral -/
def F57 (N : Nat) (a0 : (Int × (ByteArray × (Int × (Int × (Int × (Bool × (List Int)))))))) : Option (Bool) :=
  cond (a0.1 == (1 : Int)) (cond (a0.2.2.2.1 != (3 : Int)) (some true) (some (a0.1 == (6 : Int)))) (some (a0.1 == (6 : Int)))
theorem ok57 (N : Nat) (a0 : (Int × (ByteArray × (Int × (Int × (Int × (Bool × (List Int)))))))) {r : Bool} (h : F57 N a0 = some r) : Con Go.Proofs.Try.prog 57 [.agg [.v (.int .i64) a0.1, .v .str a0.2.1, .v (.int .i64) a0.2.2.1, .v (.int .i64) a0.2.2.2.1, .v (.int .i64) a0.2.2.2.2.1, .v .bool a0.2.2.2.2.2.1, .v (.sl (.int .i64)) a0.2.2.2.2.2.2]] [.lf (.v .bool r)] := by
  refine ⟨enters_of Go.Proofs.Try.func57 rfl (by decide), HC.intro [.lf (.v .bool)] T_ok Go.Proofs.Try.func57 rfl (Nat.le_of_ble_eq_true rfl) (Nat.le_of_ble_eq_true rfl) fun w0 E0 => ?_⟩
  unfold F57 at h
  show VW _ _ _ _ _ (retQ _ _ _ _) _
  refine VW.seq ?_
  refine VW.region ?_
  refine VO.seg T_ok .dp 2 [1] [0] (s' := ⟨[(1, .lf (.ptr 0 0 0 0))], [bx [.v (.int .i64) a0.1, .v .str a0.2.1, .v (.int .i64) a0.2.2.1, .v (.int .i64) a0.2.2.2.1, .v (.int .i64) a0.2.2.2.2.1, .v .bool a0.2.2.2.2.2.1, .v (.sl (.int .i64)) a0.2.2.2.2.2.2] 37]⟩) (φ := True ∧ True ∧ True) (by kernel_rfl) ⟨trivial, trivial, trivial⟩ ?_
  refine VO.nil ?_
  show VW _ _ _ _ _ _ _
  refine VW.seq ?_
  refine VW.region ?_
  refine VO.seg T_ok .dp 4 [1, 6] [0] (s' := ⟨[(1, .lf (.ptr 0 0 0 0)), (6, B (a0.1 == (1 : Int)))], [bx [.v (.int .i64) a0.1, .v .str a0.2.1, .v (.int .i64) a0.2.2.1, .v (.int .i64) a0.2.2.2.1, .v (.int .i64) a0.2.2.2.2.1, .v .bool a0.2.2.2.2.2.1, .v (.sl (.int .i64)) a0.2.2.2.2.2.2] 37]⟩) (φ := True ∧ True ∧ True ∧ True ∧ True) (by kernel_rfl) ⟨trivial, trivial, trivial, trivial, trivial⟩ ?_
  refine VO.splitB 6 (b := (a0.1 == (1 : Int))) (by kernel_rfl) (fun hb => ?_) (fun hb => ?_)
  · replace h := cond_t h hb; clear hb
    refine VO.seg T_ok .dp 5 [1, 11] [0] (s' := ⟨[(1, .lf (.ptr 0 0 0 0)), (11, B (a0.2.2.2.1 != (3 : Int)))], [bx [.v (.int .i64) a0.1, .v .str a0.2.1, .v (.int .i64) a0.2.2.1, .v (.int .i64) a0.2.2.2.1, .v (.int .i64) a0.2.2.2.2.1, .v .bool a0.2.2.2.2.2.1, .v (.sl (.int .i64)) a0.2.2.2.2.2.2] 37]⟩) (φ := True ∧ True ∧ True ∧ True ∧ True ∧ True) (by kernel_rfl) ⟨trivial, trivial, trivial, trivial, trivial, trivial⟩ ?_
    refine VO.splitB 11 (b := (a0.2.2.2.1 != (3 : Int))) (by kernel_rfl) (fun hb => ?_) (fun hb => ?_)
    · replace h := cond_t h hb; clear hb
      refine VO.seg T_ok .dp 5 [2] [] (s' := ⟨[(2, B true)], []⟩) (φ := True ∧ True ∧ True ∧ True ∧ True ∧ True) (by kernel_rfl) ⟨trivial, trivial, trivial, trivial, trivial, trivial⟩ ?_
      refine VO.nil ?_
      show VW _ _ _ _ _ _ _
      refine VW.ret ?_
      replace h := Option.some.inj h
      subst h
      exact retR [] (by kernel_rfl) rfl
    · replace h := cond_f h hb; clear hb
      refine VO.seg T_ok .dp 5 [2] [] (s' := ⟨[(2, B (a0.1 == (6 : Int)))], []⟩) (φ := True ∧ True ∧ True ∧ True ∧ True ∧ True) (by kernel_rfl) ⟨trivial, trivial, trivial, trivial, trivial, trivial⟩ ?_
      refine VO.nil ?_
      show VW _ _ _ _ _ _ _
      refine VW.ret ?_
      replace h := Option.some.inj h
      subst h
      exact retR [] (by kernel_rfl) rfl
  · replace h := cond_f h hb; clear hb
    refine VO.seg T_ok .dp 10 [2] [] (s' := ⟨[(2, B (a0.1 == (6 : Int)))], []⟩) (φ := True ∧ True ∧ True ∧ True ∧ True ∧ True ∧ True ∧ True ∧ True ∧ True ∧ True) (by kernel_rfl) ⟨trivial, trivial, trivial, trivial, trivial, trivial, trivial, trivial, trivial, trivial, trivial⟩ ?_
    refine VO.nil ?_
    show VW _ _ _ _ _ _ _
    refine VW.ret ?_
    replace h := Option.some.inj h
    subst h
    exact retR [] (by kernel_rfl) rfl

/- loop.example/g00844/impl.Lift -/
def F31_j0 (N : Nat) (x61 : (List (Int × (ByteArray × (Int × (Int × (Int × (Bool × (List Int))))))))) (x62 : (List Int)) : Option ((List (Int × (ByteArray × (Int × (Int × (Int × (Bool × (List Int)))))))) × (List Int) × Bool) :=
  some (x61, x62, true)
def F31_j1 (N : Nat) (nx103 : (List (Int × (ByteArray × (Int × (Int × (Int × (Bool × (List Int)))))))) → (List Int) → Int → Int → Option ((List (Int × (ByteArray × (Int × (Int × (Int × (Bool × (List Int)))))))) × (List Int) × Bool)) (x84 : Int) (x85 : Int) (x111 : (List (Int × (ByteArray × (Int × (Int × (Int × (Bool × (List Int))))))))) (x112 : (List Int)) : Option ((List (Int × (ByteArray × (Int × (Int × (Int × (Bool × (List Int)))))))) × (List Int) × Bool) :=
  nx103 x111 x112 x84 (IntKind.i64.wrap (x85 + (1 : Int)))
def F31_l0_b (N : Nat) (nx103 : (List (Int × (ByteArray × (Int × (Int × (Int × (Bool × (List Int)))))))) → (List Int) → Int → Int → Option ((List (Int × (ByteArray × (Int × (Int × (Int × (Bool × (List Int)))))))) × (List Int) × Bool)) (x82 : (List (Int × (ByteArray × (Int × (Int × (Int × (Bool × (List Int))))))))) (x83 : (List Int)) (x84 : Int) (x85 : Int) : Option ((List (Int × (ByteArray × (Int × (Int × (Int × (Bool × (List Int)))))))) × (List Int) × Bool) :=
  cond (decide (x85 < x84)) (gd (InR x85 x82.length) (gd (x85.toNat < x82.length) (andO (F57 N (x82.getD x85.toNat (Ty.dflt Y35))) fun y116 => cond y116 (gd (x85.toNat < x82.length) (gd (x83.length + ([(x82.getD x85.toNat (Ty.dflt Y35)).2.2.2.2.1]).length ≤ lim (.int .i64)) (gd (x85.toNat < x82.length) (gd (x85.toNat < (x82.set x85.toNat ((x82.getD x85.toNat (Ty.dflt Y35)).1, ((x82.getD x85.toNat (Ty.dflt Y35)).2.1, ((x82.getD x85.toNat (Ty.dflt Y35)).2.2.1, ((x82.getD x85.toNat (Ty.dflt Y35)).2.2.2.1, ((IntKind.i64.wrap (((x83 ++ ([(x82.getD x85.toNat (Ty.dflt Y35)).2.2.2.2.1])).length : Int) - (1 : Int))), ((x82.getD x85.toNat (Ty.dflt Y35)).2.2.2.2.2.1, (x82.getD x85.toNat (Ty.dflt Y35)).2.2.2.2.2.2))))))).length) (F31_j1 N nx103 x84 x85 ((x82.set x85.toNat ((x82.getD x85.toNat (Ty.dflt Y35)).1, ((x82.getD x85.toNat (Ty.dflt Y35)).2.1, ((x82.getD x85.toNat (Ty.dflt Y35)).2.2.1, ((x82.getD x85.toNat (Ty.dflt Y35)).2.2.2.1, ((IntKind.i64.wrap (((x83 ++ ([(x82.getD x85.toNat (Ty.dflt Y35)).2.2.2.2.1])).length : Int) - (1 : Int))), ((x82.getD x85.toNat (Ty.dflt Y35)).2.2.2.2.2.1, (x82.getD x85.toNat (Ty.dflt Y35)).2.2.2.2.2.2))))))).set x85.toNat (((x82.set x85.toNat ((x82.getD x85.toNat (Ty.dflt Y35)).1, ((x82.getD x85.toNat (Ty.dflt Y35)).2.1, ((x82.getD x85.toNat (Ty.dflt Y35)).2.2.1, ((x82.getD x85.toNat (Ty.dflt Y35)).2.2.2.1, ((IntKind.i64.wrap (((x83 ++ ([(x82.getD x85.toNat (Ty.dflt Y35)).2.2.2.2.1])).length : Int) - (1 : Int))), ((x82.getD x85.toNat (Ty.dflt Y35)).2.2.2.2.2.1, (x82.getD x85.toNat (Ty.dflt Y35)).2.2.2.2.2.2))))))).getD x85.toNat (Ty.dflt Y35)).1, (((x82.set x85.toNat ((x82.getD x85.toNat (Ty.dflt Y35)).1, ((x82.getD x85.toNat (Ty.dflt Y35)).2.1, ((x82.getD x85.toNat (Ty.dflt Y35)).2.2.1, ((x82.getD x85.toNat (Ty.dflt Y35)).2.2.2.1, ((IntKind.i64.wrap (((x83 ++ ([(x82.getD x85.toNat (Ty.dflt Y35)).2.2.2.2.1])).length : Int) - (1 : Int))), ((x82.getD x85.toNat (Ty.dflt Y35)).2.2.2.2.2.1, (x82.getD x85.toNat (Ty.dflt Y35)).2.2.2.2.2.2))))))).getD x85.toNat (Ty.dflt Y35)).2.1, (((x82.set x85.toNat ((x82.getD x85.toNat (Ty.dflt Y35)).1, ((x82.getD x85.toNat (Ty.dflt Y35)).2.1, ((x82.getD x85.toNat (Ty.dflt Y35)).2.2.1, ((x82.getD x85.toNat (Ty.dflt Y35)).2.2.2.1, ((IntKind.i64.wrap (((x83 ++ ([(x82.getD x85.toNat (Ty.dflt Y35)).2.2.2.2.1])).length : Int) - (1 : Int))), ((x82.getD x85.toNat (Ty.dflt Y35)).2.2.2.2.2.1, (x82.getD x85.toNat (Ty.dflt Y35)).2.2.2.2.2.2))))))).getD x85.toNat (Ty.dflt Y35)).2.2.1, (((x82.set x85.toNat ((x82.getD x85.toNat (Ty.dflt Y35)).1, ((x82.getD x85.toNat (Ty.dflt Y35)).2.1, ((x82.getD x85.toNat (Ty.dflt Y35)).2.2.1, ((x82.getD x85.toNat (Ty.dflt Y35)).2.2.2.1, ((IntKind.i64.wrap (((x83 ++ ([(x82.getD x85.toNat (Ty.dflt Y35)).2.2.2.2.1])).length : Int) - (1 : Int))), ((x82.getD x85.toNat (Ty.dflt Y35)).2.2.2.2.2.1, (x82.getD x85.toNat (Ty.dflt Y35)).2.2.2.2.2.2))))))).getD x85.toNat (Ty.dflt Y35)).2.2.2.1, (((x82.set x85.toNat ((x82.getD x85.toNat (Ty.dflt Y35)).1, ((x82.getD x85.toNat (Ty.dflt Y35)).2.1, ((x82.getD x85.toNat (Ty.dflt Y35)).2.2.1, ((x82.getD x85.toNat (Ty.dflt Y35)).2.2.2.1, ((IntKind.i64.wrap (((x83 ++ ([(x82.getD x85.toNat (Ty.dflt Y35)).2.2.2.2.1])).length : Int) - (1 : Int))), ((x82.getD x85.toNat (Ty.dflt Y35)).2.2.2.2.2.1, (x82.getD x85.toNat (Ty.dflt Y35)).2.2.2.2.2.2))))))).getD x85.toNat (Ty.dflt Y35)).2.2.2.2.1, (true, ((x82.set x85.toNat ((x82.getD x85.toNat (Ty.dflt Y35)).1, ((x82.getD x85.toNat (Ty.dflt Y35)).2.1, ((x82.getD x85.toNat (Ty.dflt Y35)).2.2.1, ((x82.getD x85.toNat (Ty.dflt Y35)).2.2.2.1, ((IntKind.i64.wrap (((x83 ++ ([(x82.getD x85.toNat (Ty.dflt Y35)).2.2.2.2.1])).length : Int) - (1 : Int))), ((x82.getD x85.toNat (Ty.dflt Y35)).2.2.2.2.2.1, (x82.getD x85.toNat (Ty.dflt Y35)).2.2.2.2.2.2))))))).getD x85.toNat (Ty.dflt Y35)).2.2.2.2.2.2))))))) (x83 ++ ([(x82.getD x85.toNat (Ty.dflt Y35)).2.2.2.2.1]))))))) (F31_j1 N nx103 x84 x85 x82 x83)))) (F31_j0 N x82 x83)
def F31_l0 (N : Nat) : Nat → (List (Int × (ByteArray × (Int × (Int × (Int × (Bool × (List Int)))))))) → (List Int) → Int → Int → Option ((List (Int × (ByteArray × (Int × (Int × (Int × (Bool × (List Int)))))))) × (List Int) × Bool) := loopF (F31_l0_b N) (fun _ _ _ _ => none)
theorem F31_l0_s (N : Nat) {k : Nat} (hk : 0 < k) (x82 : (List (Int × (ByteArray × (Int × (Int × (Int × (Bool × (List Int))))))))) (x83 : (List Int)) (x84 : Int) (x85 : Int) : F31_l0 N k x82 x83 x84 x85 = F31_l0_b N (F31_l0 N (k - 1)) x82 x83 x84 x85 := by
  cases k with
  | zero => exact absurd hk (Nat.lt_irrefl 0)
  | succ m => rfl
def F31 (N : Nat) (a0 : (List (Int × (ByteArray × (Int × (Int × (Int × (Bool × (List Int))))))))) : Option ((List (Int × (ByteArray × (Int × (Int × (Int × (Bool × (List Int)))))))) × (List Int) × Bool) :=
  andO (F13 N a0) fun y2 => cond (!y2) (some ([], [], false)) (andO (F56 N a0) fun y3 => F31_l0 N N y3 ([]) (y3.length : Int) (0 : Int))
theorem ok31 (N : Nat) (a0 : (List (Int × (ByteArray × (Int × (Int × (Int × (Bool × (List Int))))))))) {r : (List (Int × (ByteArray × (Int × (Int × (Int × (Bool × (List Int)))))))) × (List Int) × Bool} (h : F31 N a0 = some r) : Con Go.Proofs.Try.prog 31 [.lf (.v (.sl Y35) a0)] [.lf (.own Y35 r.1 .tp), .lf (.own (.int .i64) r.2.1 .dp), .lf (.v .bool r.2.2)] := by
  refine ⟨enters_of Go.Proofs.Try.func31 rfl (by decide), HC.intro [.lf (.own Y35 .tp), .lf (.own (.int .i64) .dp), .lf (.v .bool)] T_ok Go.Proofs.Try.func31 rfl (Nat.le_of_ble_eq_true rfl) (Nat.le_of_ble_eq_true rfl) fun w0 E0 => ?_⟩
  unfold F31 at h
  show VW _ _ _ _ _ (retQ _ _ _ _) _
  refine VW.seq ?_
  refine VW.region ?_
  refine VO.seg T_ok .dp 3 [0] [] (s' := ⟨[(0, .lf (.v (.sl Y35) a0))], []⟩) (φ := True ∧ True ∧ True ∧ True) (by kernel_rfl) ⟨trivial, trivial, trivial, trivial⟩ ?_
  refine VO.nil ?_
  show VW _ _ _ _ _ _ _
  refine VW.seq ?_
  refine VW.seq ?_
  refine VW.region ?_
  refine VO.seg T_ok .dp 1 [0, 9] [] (s' := ⟨[(0, .lf (.v (.sl Y35) a0)), (9, .lf (.v (.sl Y35) a0))], []⟩) (φ := True ∧ True) (by kernel_rfl) ⟨trivial, trivial⟩ ?_
  obtain ⟨y2, hy, h⟩ := andO_some h
  refine VO.call false [.t (.sl Y35)] [] T_ok (d := some 10) (by kernel_rfl) (ok13 N _ hy) rfl ?_
  refine VO.seg T_ok .dp 1 [0, 11] [] (s' := ⟨[(0, .lf (.v (.sl Y35) a0)), (11, B (!y2))], []⟩) (φ := True ∧ True) (by kernel_rfl) ⟨trivial, trivial⟩ ?_
  refine VO.nil ?_
  show VW _ _ _ _ _ _ _
  refine VW.cond (b := (!y2)) (by kernel_rfl) (fun hb => ?_) (fun hb => ?_)
  · replace h := cond_t h hb; clear hb
    refine VW.seq ?_
    refine VW.region ?_
    refine VO.seg T_ok .dp 3 [2, 3, 4] [] (s' := ⟨[(2, .lf (.nil)), (3, .lf (.nil)), (4, B false)], []⟩) (φ := True ∧ True ∧ True ∧ True) (by kernel_rfl) ⟨trivial, trivial, trivial, trivial⟩ ?_
    refine VO.nil ?_
    show VW _ _ _ _ _ _ _
    refine VW.ret ?_
    replace h := Option.some.inj h
    subst h
    exact retR [none, none] (by kernel_rfl) rfl
  · replace h := cond_f h hb; clear hb
    refine VW.skip ?_
    show VW _ _ _ _ _ _ _
    refine VW.seq ?_
    refine VW.region ?_
    refine VO.seg T_ok .dp 1 [12] [] (s' := ⟨[(12, .lf (.v (.sl Y35) a0))], []⟩) (φ := True ∧ True) (by kernel_rfl) ⟨trivial, trivial⟩ ?_
    obtain ⟨y3, hy, h⟩ := andO_some h
    refine VO.call false [.t (.sl Y35)] [] T_ok (d := some 13) (by kernel_rfl) (ok56 N _ hy) rfl ?_
    refine VO.seg T_ok .dp 1 [5] [0] (s' := ⟨[(5, .lf (.hd 0 0 none))], [ar 0 Y35 y3 .tp]⟩) (φ := True ∧ True) (by kernel_rfl) ⟨trivial, trivial⟩ ?_
    refine VO.nil ?_
    show VW _ _ _ _ _ _ _
    refine VW.seq ?_
    refine VW.region ?_
    refine VO.seg T_ok .dp 1 [5, 6] [0] (s' := ⟨[(5, .lf (.hd 0 0 none)), (6, .lf (.nil))], [ar 0 Y35 y3 .tp]⟩) (φ := True ∧ True) (by kernel_rfl) ⟨trivial, trivial⟩ ?_
    refine VO.nil ?_
    show VW _ _ _ _ _ _ _
    refine VW.join (fun s => ∃ (x61 : (List (Int × (ByteArray × (Int × (Int × (Int × (Bool × (List Int))))))))) (x62 : (List Int)), s = ⟨[(5, .lf (.hd 0 0 none)), (6, .lf (.hd 1 0 none))], [ar 0 Y35 x61 .tp, ar 0 (.int .i64) x62 .dp]⟩ ∧ F31_j0 N x61 x62 = some r) ?_ ?_
    · refine VW.seq ?_
      refine VW.region ?_
      refine VO.seg T_ok .dp 3 [5, 6, 15, 16] [0] (s' := ⟨[(5, .lf (.hd 0 0 none)), (6, .lf (.nil)), (15, I (y3.length : Int)), (16, I (0 : Int))], [ar 0 Y35 y3 .tp]⟩) (φ := True ∧ True ∧ True ∧ True) (by kernel_rfl) ⟨trivial, trivial, trivial, trivial⟩ ?_
      refine VO.nil ?_
      show VW _ _ _ _ _ _ _
      refine VW.block ?_
      refine VW.loopL (fun k s => ∃ (x82 : (List (Int × (ByteArray × (Int × (Int × (Int × (Bool × (List Int))))))))) (x83 : (List Int)) (x84 : Int) (x85 : Int), s = ⟨[(5, .lf (.hd 0 0 none)), (6, .lf (.hd 1 0 none)), (15, I x84), (16, I x85)], [ar 0 Y35 x82 .tp, ar 0 (.int .i64) x83 .dp]⟩ ∧ F31_l0 N k x82 x83 x84 x85 = some r) N [.nilS 6 (.int .i64) .dp, .ren [5, 6, 15, 16] [0, 1]] (by kernel_rfl) ⟨y3, [], (y3.length : Int), (0 : Int), rfl, h⟩ ?_
      rintro k103 s ⟨x82, x83, x84, x85, rfl, h⟩
      cases k103 with
      | zero => exact nomatch (show (none : Option ((List (Int × (ByteArray × (Int × (Int × (Int × (Bool × (List Int)))))))) × (List Int) × Bool)) = some r from h)
      | succ k103 =>
        replace h : F31_l0_b N (F31_l0 N k103) x82 x83 x84 x85 = some r := h
        unfold F31_l0_b at h
        refine VW.seq ?_
        refine VW.region ?_
        refine VO.seg T_ok .dp 1 [5, 6, 15, 16, 17] [0, 1] (s' := ⟨[(5, .lf (.hd 0 0 none)), (6, .lf (.hd 1 0 none)), (15, I x84), (16, I x85), (17, B (decide (x85 < x84)))], [ar 0 Y35 x82 .tp, ar 0 (.int .i64) x83 .dp]⟩) (φ := True ∧ True) (by kernel_rfl) ⟨trivial, trivial⟩ ?_
        refine VO.nil ?_
        show VW _ _ _ _ _ _ _
        refine VW.seq ?_
        refine VW.cond (b := (decide (x85 < x84))) (by kernel_rfl) (fun hb => ?_) (fun hb => ?_)
        · replace h := cond_t h hb; clear hb
          refine VW.skip ?_
          show VW _ _ _ _ _ _ _
          refine VW.join (fun s => ∃ (x111 : (List (Int × (ByteArray × (Int × (Int × (Int × (Bool × (List Int))))))))) (x112 : (List Int)), s = ⟨[(5, .lf (.hd 0 0 none)), (6, .lf (.hd 1 0 none)), (15, I x84), (16, I x85)], [ar 0 Y35 x111 .tp, ar 0 (.int .i64) x112 .dp]⟩ ∧ F31_j1 N (F31_l0 N k103) x84 x85 x111 x112 = some r) ?_ ?_
          · refine VW.block ?_
            refine VW.seq ?_
            refine VW.region ?_
            refine VO.seg T_ok .dp 2 [5, 6, 7, 15, 16] [0, 1] (s' := ⟨[(5, .lf (.hd 0 0 none)), (6, .lf (.hd 1 0 none)), (7, I x85), (15, I x84), (16, I x85)], [ar 0 Y35 x82 .tp, ar 0 (.int .i64) x83 .dp]⟩) (φ := True ∧ True ∧ True) (by kernel_rfl) ⟨trivial, trivial, trivial⟩ ?_
            refine VO.nil ?_
            show VW _ _ _ _ _ _ _
            refine VW.seq ?_
            refine VW.region ?_
            obtain ⟨g114, h⟩ := gd_some h
            refine VO.seg T_ok .dp 4 [5, 6, 8, 15, 16] [0, 1] (s' := ⟨[(5, .lf (.hd 0 0 none)), (6, .lf (.hd 1 0 none)), (8, .lf (.ptr 0 0 x85.toNat 0)), (15, I x84), (16, I x85)], [ar 0 Y35 x82 .tp, ar 0 (.int .i64) x83 .dp]⟩) (φ := True ∧ True ∧ (InR x85 x82.length) ∧ True ∧ True) (by kernel_rfl) ⟨trivial, trivial, g114, trivial, trivial⟩ ?_
            refine VO.nil ?_
            show VW _ _ _ _ _ _ _
            refine VW.seq ?_
            refine VW.region ?_
            obtain ⟨g115, h⟩ := gd_some h
            refine VO.seg T_ok .dp 3 [5, 6, 8, 15, 16, 24] [0, 1] (s' := ⟨[(5, .lf (.hd 0 0 none)), (6, .lf (.hd 1 0 none)), (8, .lf (.ptr 0 0 x85.toNat 0)), (15, I x84), (16, I x85), (24, .agg [.v (.int .i64) ((x82.getD x85.toNat (Ty.dflt Y35)).1), .v .str ((x82.getD x85.toNat (Ty.dflt Y35)).2.1), .v (.int .i64) ((x82.getD x85.toNat (Ty.dflt Y35)).2.2.1), .v (.int .i64) ((x82.getD x85.toNat (Ty.dflt Y35)).2.2.2.1), .v (.int .i64) ((x82.getD x85.toNat (Ty.dflt Y35)).2.2.2.2.1), .v .bool ((x82.getD x85.toNat (Ty.dflt Y35)).2.2.2.2.2.1), .v (.sl (.int .i64)) ((x82.getD x85.toNat (Ty.dflt Y35)).2.2.2.2.2.2)])], [ar 0 Y35 x82 .tp, ar 0 (.int .i64) x83 .dp]⟩) (φ := True ∧ True ∧ (x85.toNat < x82.length) ∧ True) (by kernel_rfl) ⟨trivial, trivial, g115, trivial⟩ ?_
            obtain ⟨y116, hy, h⟩ := andO_some h
            refine VO.call false [.t Y35] [] T_ok (d := some 25) (by kernel_rfl) (ok57 N _ hy) rfl ?_
            refine VO.seg T_ok .dp 0 [5, 6, 8, 15, 16, 25] [0, 1] (s' := ⟨[(5, .lf (.hd 0 0 none)), (6, .lf (.hd 1 0 none)), (8, .lf (.ptr 0 0 x85.toNat 0)), (15, I x84), (16, I x85), (25, B y116)], [ar 0 Y35 x82 .tp, ar 0 (.int .i64) x83 .dp]⟩) (φ := True) (by kernel_rfl) trivial ?_
            refine VO.nil ?_
            show VW _ _ _ _ _ _ _
            refine VW.cond (b := y116) (by kernel_rfl) (fun hb => ?_) (fun hb => ?_)
            · replace h := cond_t h hb; clear hb
              refine VW.seq ?_
              refine VW.region ?_
              obtain ⟨g117, h⟩ := gd_some h
              obtain ⟨g118, h⟩ := gd_some h
              refine VO.seg T_ok .dp 8 [5, 6, 8, 15, 16] [0, 1] (s' := ⟨[(5, .lf (.hd 0 0 none)), (6, .lf (.hd 1 0 none)), (8, .lf (.ptr 0 0 x85.toNat 0)), (15, I x84), (16, I x85)], [ar 0 Y35 x82 .tp, ar 0 (.int .i64) (x83 ++ ([(x82.getD x85.toNat (Ty.dflt Y35)).2.2.2.2.1])) .dp]⟩) (φ := True ∧ True ∧ True ∧ True ∧ (x85.toNat < x82.length) ∧ True ∧ (x83.length + ([(x82.getD x85.toNat (Ty.dflt Y35)).2.2.2.2.1]).length ≤ lim (.int .i64)) ∧ True ∧ True) (by kernel_rfl) ⟨trivial, trivial, trivial, trivial, g117, trivial, g118, trivial, trivial⟩ ?_
              refine VO.nil ?_
              show VW _ _ _ _ _ _ _
              refine VW.seq ?_
              refine VW.region ?_
              obtain ⟨g119, h⟩ := gd_some h
              refine VO.seg T_ok .dp 7 [5, 6, 8, 15, 16] [0, 1] (s' := ⟨[(5, .lf (.hd 0 0 none)), (6, .lf (.hd 1 0 none)), (8, .lf (.ptr 0 0 x85.toNat 0)), (15, I x84), (16, I x85)], [ar 0 Y35 (x82.set x85.toNat ((x82.getD x85.toNat (Ty.dflt Y35)).1, ((x82.getD x85.toNat (Ty.dflt Y35)).2.1, ((x82.getD x85.toNat (Ty.dflt Y35)).2.2.1, ((x82.getD x85.toNat (Ty.dflt Y35)).2.2.2.1, ((IntKind.i64.wrap (((x83 ++ ([(x82.getD x85.toNat (Ty.dflt Y35)).2.2.2.2.1])).length : Int) - (1 : Int))), ((x82.getD x85.toNat (Ty.dflt Y35)).2.2.2.2.2.1, (x82.getD x85.toNat (Ty.dflt Y35)).2.2.2.2.2.2))))))) .tp, ar 0 (.int .i64) (x83 ++ ([(x82.getD x85.toNat (Ty.dflt Y35)).2.2.2.2.1])) .dp]⟩) (φ := True ∧ True ∧ True ∧ True ∧ True ∧ True ∧ (x85.toNat < x82.length) ∧ True) (by kernel_rfl) ⟨trivial, trivial, trivial, trivial, trivial, trivial, g119, trivial⟩ ?_
              refine VO.nil ?_
              show VW _ _ _ _ _ _ _
              refine VW.region ?_
              obtain ⟨g120, h⟩ := gd_some h
              refine VO.seg T_ok .dp 4 [5, 6, 15, 16] [0, 1] (s' := ⟨[(5, .lf (.hd 0 0 none)), (6, .lf (.hd 1 0 none)), (15, I x84), (16, I x85)], [ar 0 Y35 ((x82.set x85.toNat ((x82.getD x85.toNat (Ty.dflt Y35)).1, ((x82.getD x85.toNat (Ty.dflt Y35)).2.1, ((x82.getD x85.toNat (Ty.dflt Y35)).2.2.1, ((x82.getD x85.toNat (Ty.dflt Y35)).2.2.2.1, ((IntKind.i64.wrap (((x83 ++ ([(x82.getD x85.toNat (Ty.dflt Y35)).2.2.2.2.1])).length : Int) - (1 : Int))), ((x82.getD x85.toNat (Ty.dflt Y35)).2.2.2.2.2.1, (x82.getD x85.toNat (Ty.dflt Y35)).2.2.2.2.2.2))))))).set x85.toNat (((x82.set x85.toNat ((x82.getD x85.toNat (Ty.dflt Y35)).1, ((x82.getD x85.toNat (Ty.dflt Y35)).2.1, ((x82.getD x85.toNat (Ty.dflt Y35)).2.2.1, ((x82.getD x85.toNat (Ty.dflt Y35)).2.2.2.1, ((IntKind.i64.wrap (((x83 ++ ([(x82.getD x85.toNat (Ty.dflt Y35)).2.2.2.2.1])).length : Int) - (1 : Int))), ((x82.getD x85.toNat (Ty.dflt Y35)).2.2.2.2.2.1, (x82.getD x85.toNat (Ty.dflt Y35)).2.2.2.2.2.2))))))).getD x85.toNat (Ty.dflt Y35)).1, (((x82.set x85.toNat ((x82.getD x85.toNat (Ty.dflt Y35)).1, ((x82.getD x85.toNat (Ty.dflt Y35)).2.1, ((x82.getD x85.toNat (Ty.dflt Y35)).2.2.1, ((x82.getD x85.toNat (Ty.dflt Y35)).2.2.2.1, ((IntKind.i64.wrap (((x83 ++ ([(x82.getD x85.toNat (Ty.dflt Y35)).2.2.2.2.1])).length : Int) - (1 : Int))), ((x82.getD x85.toNat (Ty.dflt Y35)).2.2.2.2.2.1, (x82.getD x85.toNat (Ty.dflt Y35)).2.2.2.2.2.2))))))).getD x85.toNat (Ty.dflt Y35)).2.1, (((x82.set x85.toNat ((x82.getD x85.toNat (Ty.dflt Y35)).1, ((x82.getD x85.toNat (Ty.dflt Y35)).2.1, ((x82.getD x85.toNat (Ty.dflt Y35)).2.2.1, ((x82.getD x85.toNat (Ty.dflt Y35)).2.2.2.1, ((IntKind.i64.wrap (((x83 ++ ([(x82.getD x85.toNat (Ty.dflt Y35)).2.2.2.2.1])).length : Int) - (1 : Int))), ((x82.getD x85.toNat (Ty.dflt Y35)).2.2.2.2.2.1, (x82.getD x85.toNat (Ty.dflt Y35)).2.2.2.2.2.2))))))).getD x85.toNat (Ty.dflt Y35)).2.2.1, (((x82.set x85.toNat ((x82.getD x85.toNat (Ty.dflt Y35)).1, ((x82.getD x85.toNat (Ty.dflt Y35)).2.1, ((x82.getD x85.toNat (Ty.dflt Y35)).2.2.1, ((x82.getD x85.toNat (Ty.dflt Y35)).2.2.2.1, ((IntKind.i64.wrap (((x83 ++ ([(x82.getD x85.toNat (Ty.dflt Y35)).2.2.2.2.1])).length : Int) - (1 : Int))), ((x82.getD x85.toNat (Ty.dflt Y35)).2.2.2.2.2.1, (x82.getD x85.toNat (Ty.dflt Y35)).2.2.2.2.2.2))))))).getD x85.toNat (Ty.dflt Y35)).2.2.2.1, (((x82.set x85.toNat ((x82.getD x85.toNat (Ty.dflt Y35)).1, ((x82.getD x85.toNat (Ty.dflt Y35)).2.1, ((x82.getD x85.toNat (Ty.dflt Y35)).2.2.1, ((x82.getD x85.toNat (Ty.dflt Y35)).2.2.2.1, ((IntKind.i64.wrap (((x83 ++ ([(x82.getD x85.toNat (Ty.dflt Y35)).2.2.2.2.1])).length : Int) - (1 : Int))), ((x82.getD x85.toNat (Ty.dflt Y35)).2.2.2.2.2.1, (x82.getD x85.toNat (Ty.dflt Y35)).2.2.2.2.2.2))))))).getD x85.toNat (Ty.dflt Y35)).2.2.2.2.1, (true, ((x82.set x85.toNat ((x82.getD x85.toNat (Ty.dflt Y35)).1, ((x82.getD x85.toNat (Ty.dflt Y35)).2.1, ((x82.getD x85.toNat (Ty.dflt Y35)).2.2.1, ((x82.getD x85.toNat (Ty.dflt Y35)).2.2.2.1, ((IntKind.i64.wrap (((x83 ++ ([(x82.getD x85.toNat (Ty.dflt Y35)).2.2.2.2.1])).length : Int) - (1 : Int))), ((x82.getD x85.toNat (Ty.dflt Y35)).2.2.2.2.2.1, (x82.getD x85.toNat (Ty.dflt Y35)).2.2.2.2.2.2))))))).getD x85.toNat (Ty.dflt Y35)).2.2.2.2.2.2))))))) .tp, ar 0 (.int .i64) (x83 ++ ([(x82.getD x85.toNat (Ty.dflt Y35)).2.2.2.2.1])) .dp]⟩) (φ := True ∧ True ∧ True ∧ (x85.toNat < (x82.set x85.toNat ((x82.getD x85.toNat (Ty.dflt Y35)).1, ((x82.getD x85.toNat (Ty.dflt Y35)).2.1, ((x82.getD x85.toNat (Ty.dflt Y35)).2.2.1, ((x82.getD x85.toNat (Ty.dflt Y35)).2.2.2.1, ((IntKind.i64.wrap (((x83 ++ ([(x82.getD x85.toNat (Ty.dflt Y35)).2.2.2.2.1])).length : Int) - (1 : Int))), ((x82.getD x85.toNat (Ty.dflt Y35)).2.2.2.2.2.1, (x82.getD x85.toNat (Ty.dflt Y35)).2.2.2.2.2.2))))))).length) ∧ True) (by kernel_rfl) ⟨trivial, trivial, trivial, g120, trivial⟩ ?_
              refine VO.nil ?_
              exact arrive [.ren [5, 6, 15, 16] [0, 1]] (by kernel_rfl) ⟨((x82.set x85.toNat ((x82.getD x85.toNat (Ty.dflt Y35)).1, ((x82.getD x85.toNat (Ty.dflt Y35)).2.1, ((x82.getD x85.toNat (Ty.dflt Y35)).2.2.1, ((x82.getD x85.toNat (Ty.dflt Y35)).2.2.2.1, ((IntKind.i64.wrap (((x83 ++ ([(x82.getD x85.toNat (Ty.dflt Y35)).2.2.2.2.1])).length : Int) - (1 : Int))), ((x82.getD x85.toNat (Ty.dflt Y35)).2.2.2.2.2.1, (x82.getD x85.toNat (Ty.dflt Y35)).2.2.2.2.2.2))))))).set x85.toNat (((x82.set x85.toNat ((x82.getD x85.toNat (Ty.dflt Y35)).1, ((x82.getD x85.toNat (Ty.dflt Y35)).2.1, ((x82.getD x85.toNat (Ty.dflt Y35)).2.2.1, ((x82.getD x85.toNat (Ty.dflt Y35)).2.2.2.1, ((IntKind.i64.wrap (((x83 ++ ([(x82.getD x85.toNat (Ty.dflt Y35)).2.2.2.2.1])).length : Int) - (1 : Int))), ((x82.getD x85.toNat (Ty.dflt Y35)).2.2.2.2.2.1, (x82.getD x85.toNat (Ty.dflt Y35)).2.2.2.2.2.2))))))).getD x85.toNat (Ty.dflt Y35)).1, (((x82.set x85.toNat ((x82.getD x85.toNat (Ty.dflt Y35)).1, ((x82.getD x85.toNat (Ty.dflt Y35)).2.1, ((x82.getD x85.toNat (Ty.dflt Y35)).2.2.1, ((x82.getD x85.toNat (Ty.dflt Y35)).2.2.2.1, ((IntKind.i64.wrap (((x83 ++ ([(x82.getD x85.toNat (Ty.dflt Y35)).2.2.2.2.1])).length : Int) - (1 : Int))), ((x82.getD x85.toNat (Ty.dflt Y35)).2.2.2.2.2.1, (x82.getD x85.toNat (Ty.dflt Y35)).2.2.2.2.2.2))))))).getD x85.toNat (Ty.dflt Y35)).2.1, (((x82.set x85.toNat ((x82.getD x85.toNat (Ty.dflt Y35)).1, ((x82.getD x85.toNat (Ty.dflt Y35)).2.1, ((x82.getD x85.toNat (Ty.dflt Y35)).2.2.1, ((x82.getD x85.toNat (Ty.dflt Y35)).2.2.2.1, ((IntKind.i64.wrap (((x83 ++ ([(x82.getD x85.toNat (Ty.dflt Y35)).2.2.2.2.1])).length : Int) - (1 : Int))), ((x82.getD x85.toNat (Ty.dflt Y35)).2.2.2.2.2.1, (x82.getD x85.toNat (Ty.dflt Y35)).2.2.2.2.2.2))))))).getD x85.toNat (Ty.dflt Y35)).2.2.1, (((x82.set x85.toNat ((x82.getD x85.toNat (Ty.dflt Y35)).1, ((x82.getD x85.toNat (Ty.dflt Y35)).2.1, ((x82.getD x85.toNat (Ty.dflt Y35)).2.2.1, ((x82.getD x85.toNat (Ty.dflt Y35)).2.2.2.1, ((IntKind.i64.wrap (((x83 ++ ([(x82.getD x85.toNat (Ty.dflt Y35)).2.2.2.2.1])).length : Int) - (1 : Int))), ((x82.getD x85.toNat (Ty.dflt Y35)).2.2.2.2.2.1, (x82.getD x85.toNat (Ty.dflt Y35)).2.2.2.2.2.2))))))).getD x85.toNat (Ty.dflt Y35)).2.2.2.1, (((x82.set x85.toNat ((x82.getD x85.toNat (Ty.dflt Y35)).1, ((x82.getD x85.toNat (Ty.dflt Y35)).2.1, ((x82.getD x85.toNat (Ty.dflt Y35)).2.2.1, ((x82.getD x85.toNat (Ty.dflt Y35)).2.2.2.1, ((IntKind.i64.wrap (((x83 ++ ([(x82.getD x85.toNat (Ty.dflt Y35)).2.2.2.2.1])).length : Int) - (1 : Int))), ((x82.getD x85.toNat (Ty.dflt Y35)).2.2.2.2.2.1, (x82.getD x85.toNat (Ty.dflt Y35)).2.2.2.2.2.2))))))).getD x85.toNat (Ty.dflt Y35)).2.2.2.2.1, (true, ((x82.set x85.toNat ((x82.getD x85.toNat (Ty.dflt Y35)).1, ((x82.getD x85.toNat (Ty.dflt Y35)).2.1, ((x82.getD x85.toNat (Ty.dflt Y35)).2.2.1, ((x82.getD x85.toNat (Ty.dflt Y35)).2.2.2.1, ((IntKind.i64.wrap (((x83 ++ ([(x82.getD x85.toNat (Ty.dflt Y35)).2.2.2.2.1])).length : Int) - (1 : Int))), ((x82.getD x85.toNat (Ty.dflt Y35)).2.2.2.2.2.1, (x82.getD x85.toNat (Ty.dflt Y35)).2.2.2.2.2.2))))))).getD x85.toNat (Ty.dflt Y35)).2.2.2.2.2.2))))))), (x83 ++ ([(x82.getD x85.toNat (Ty.dflt Y35)).2.2.2.2.1])), rfl, h⟩
            · replace h := cond_f h hb; clear hb
              refine VW.skip ?_
              exact arrive [.ren [5, 6, 15, 16] [0, 1]] (by kernel_rfl) ⟨x82, x83, rfl, h⟩
          · rintro s ⟨x111, x112, rfl, h⟩
            unfold F31_j1 at h
            refine VW.region ?_
            refine VO.seg T_ok .dp 2 [5, 6, 15, 16] [0, 1] (s' := ⟨[(5, .lf (.hd 0 0 none)), (6, .lf (.hd 1 0 none)), (15, I x84), (16, I (IntKind.i64.wrap (x85 + (1 : Int))))], [ar 0 Y35 x111 .tp, ar 0 (.int .i64) x112 .dp]⟩) (φ := True ∧ True ∧ True) (by kernel_rfl) ⟨trivial, trivial, trivial⟩ ?_
            refine VO.nil ?_
            exact around [.ren [5, 6, 15, 16] [0, 1]] (by kernel_rfl) ⟨x111, x112, x84, (IntKind.i64.wrap (x85 + (1 : Int))), rfl, h⟩
        · replace h := cond_f h hb; clear hb
          refine VW.exit ?_
          exact arrive [.ren [5, 6] [0, 1]] (by kernel_rfl) ⟨x82, x83, rfl, h⟩
    · rintro s ⟨x61, x62, rfl, h⟩
      unfold F31_j0 at h
      refine VW.seq ?_
      refine VW.region ?_
      refine VO.seg T_ok .dp 5 [2, 3, 4] [0, 1] (s' := ⟨[(2, .lf (.hd 0 0 none)), (3, .lf (.hd 1 0 none)), (4, B true)], [ar 0 Y35 x61 .tp, ar 0 (.int .i64) x62 .dp]⟩) (φ := True ∧ True ∧ True ∧ True ∧ True ∧ True) (by kernel_rfl) ⟨trivial, trivial, trivial, trivial, trivial, trivial⟩ ?_
      refine VO.nil ?_
      show VW _ _ _ _ _ _ _
      refine VW.ret ?_
      replace h := Option.some.inj h
      subst h
      exact retR [some 0, some 1] (by kernel_rfl) rfl

/- slices.EqualFunc[[]loop.example/g00844/impl.Node,[]loop.example/g00844/impl.Node,loop.example/g00844/impl.Node,loop.example/g00844/impl.Node] -/
def F58_j0 (N : Nat) : Option (Bool) :=
  some true
def F58_l0_b (N : Nat) (a0 : (List (Int × (ByteArray × (Int × (Int × (Int × (Bool × (List Int))))))))) (a1 : (List (Int × (ByteArray × (Int × (Int × (Int × (Bool × (List Int))))))))) (p2 : (Int × (ByteArray × (Int × (Int × (Int × (Bool × (List Int))))))) → (Int × (ByteArray × (Int × (Int × (Int × (Bool × (List Int))))))) → Option (Bool)) (nx39 : Int → Int → Option (Bool)) (x31 : Int) (x32 : Int) : Option (Bool) :=
  cond (decide (x32 < x31)) (gd (InR x32 a0.length) (gd (InR x32 a1.length) (andO (p2 (a0.getD x32.toNat (Ty.dflt Y35)) (a1.getD x32.toNat (Ty.dflt Y35))) fun y45 => cond (!y45) (some false) (nx39 x31 (IntKind.i64.wrap (x32 + (1 : Int))))))) (F58_j0 N)
def F58_l0 (N : Nat) (a0 : (List (Int × (ByteArray × (Int × (Int × (Int × (Bool × (List Int))))))))) (a1 : (List (Int × (ByteArray × (Int × (Int × (Int × (Bool × (List Int))))))))) (p2 : (Int × (ByteArray × (Int × (Int × (Int × (Bool × (List Int))))))) → (Int × (ByteArray × (Int × (Int × (Int × (Bool × (List Int))))))) → Option (Bool)) : Nat → Int → Int → Option (Bool) := loopF (F58_l0_b N a0 a1 p2) (fun _ _ => none)
theorem F58_l0_s (N : Nat) (a0 : (List (Int × (ByteArray × (Int × (Int × (Int × (Bool × (List Int))))))))) (a1 : (List (Int × (ByteArray × (Int × (Int × (Int × (Bool × (List Int))))))))) (p2 : (Int × (ByteArray × (Int × (Int × (Int × (Bool × (List Int))))))) → (Int × (ByteArray × (Int × (Int × (Int × (Bool × (List Int))))))) → Option (Bool)) {k : Nat} (hk : 0 < k) (x31 : Int) (x32 : Int) : F58_l0 N a0 a1 p2 k x31 x32 = F58_l0_b N a0 a1 p2 (F58_l0 N a0 a1 p2 (k - 1)) x31 x32 := by
  cases k with
  | zero => exact absurd hk (Nat.lt_irrefl 0)
  | succ m => rfl
def F58 (N : Nat) (a0 : (List (Int × (ByteArray × (Int × (Int × (Int × (Bool × (List Int))))))))) (a1 : (List (Int × (ByteArray × (Int × (Int × (Int × (Bool × (List Int))))))))) (p2 : (Int × (ByteArray × (Int × (Int × (Int × (Bool × (List Int))))))) → (Int × (ByteArray × (Int × (Int × (Int × (Bool × (List Int))))))) → Option (Bool)) : Option (Bool) :=
  cond ((a0.length : Int) != (a1.length : Int)) (some false) (F58_l0 N a0 a1 p2 N (a0.length : Int) (0 : Int))
theorem ok58 (N : Nat) (a0 : (List (Int × (ByteArray × (Int × (Int × (Int × (Bool × (List Int))))))))) (a1 : (List (Int × (ByteArray × (Int × (Int × (Int × (Bool × (List Int))))))))) (g2 : FuncId) (p2 : (Int × (ByteArray × (Int × (Int × (Int × (Bool × (List Int))))))) → (Int × (ByteArray × (Int × (Int × (Int × (Bool × (List Int))))))) → Option (Bool)) (hp2 : ∀ (z0 : (Int × (ByteArray × (Int × (Int × (Int × (Bool × (List Int)))))))) (z1 : (Int × (ByteArray × (Int × (Int × (Int × (Bool × (List Int)))))))) (r : Bool), p2 z0 z1 = some r → Con Go.Proofs.Try.prog g2 [.agg [.v (.int .i64) z0.1, .v .str z0.2.1, .v (.int .i64) z0.2.2.1, .v (.int .i64) z0.2.2.2.1, .v (.int .i64) z0.2.2.2.2.1, .v .bool z0.2.2.2.2.2.1, .v (.sl (.int .i64)) z0.2.2.2.2.2.2], .agg [.v (.int .i64) z1.1, .v .str z1.2.1, .v (.int .i64) z1.2.2.1, .v (.int .i64) z1.2.2.2.1, .v (.int .i64) z1.2.2.2.2.1, .v .bool z1.2.2.2.2.2.1, .v (.sl (.int .i64)) z1.2.2.2.2.2.2]] [.lf (.v .bool r)]) {r : Bool} (h : F58 N a0 a1 p2 = some r) : Con Go.Proofs.Try.prog 58 [.lf (.v (.sl Y35) a0), .lf (.v (.sl Y35) a1), .clo g2 []] [.lf (.v .bool r)] := by
  refine ⟨enters_of Go.Proofs.Try.func58 rfl (by decide), HC.intro [.lf (.v .bool)] T_ok Go.Proofs.Try.func58 rfl (Nat.le_of_ble_eq_true rfl) (Nat.le_of_ble_eq_true rfl) fun w0 E0 => ?_⟩
  unfold F58 at h
  show VW _ _ _ _ _ (retQ _ _ _ _) _
  refine VW.seq ?_
  refine VW.region ?_
  refine VO.seg T_ok .dp 1 [0, 1, 2] [] (s' := ⟨[(0, .lf (.v (.sl Y35) a0)), (1, .lf (.v (.sl Y35) a1)), (2, .clo g2 [])], []⟩) (φ := True ∧ True) (by kernel_rfl) ⟨trivial, trivial⟩ ?_
  refine VO.nil ?_
  show VW _ _ _ _ _ _ _
  refine VW.seq ?_
  refine VW.seq ?_
  refine VW.region ?_
  refine VO.seg T_ok .dp 5 [0, 1, 2, 14] [] (s' := ⟨[(0, .lf (.v (.sl Y35) a0)), (1, .lf (.v (.sl Y35) a1)), (2, .clo g2 []), (14, B ((a0.length : Int) != (a1.length : Int)))], []⟩) (φ := True ∧ True ∧ True ∧ True ∧ True ∧ True) (by kernel_rfl) ⟨trivial, trivial, trivial, trivial, trivial, trivial⟩ ?_
  refine VO.nil ?_
  show VW _ _ _ _ _ _ _
  refine VW.cond (b := ((a0.length : Int) != (a1.length : Int))) (by kernel_rfl) (fun hb => ?_) (fun hb => ?_)
  · replace h := cond_t h hb; clear hb
    refine VW.seq ?_
    refine VW.region ?_
    refine VO.seg T_ok .dp 1 [6] [] (s' := ⟨[(6, B false)], []⟩) (φ := True ∧ True) (by kernel_rfl) ⟨trivial, trivial⟩ ?_
    refine VO.nil ?_
    show VW _ _ _ _ _ _ _
    refine VW.ret ?_
    replace h := Option.some.inj h
    subst h
    exact retR [] (by kernel_rfl) rfl
  · replace h := cond_f h hb; clear hb
    refine VW.skip ?_
    show VW _ _ _ _ _ _ _
    refine VW.join (fun s => s = ⟨[], []⟩ ∧ F58_j0 N = some r) ?_ ?_
    · refine VW.seq ?_
      refine VW.region ?_
      refine VO.seg T_ok .dp 3 [1, 2, 15, 16, 17] [] (s' := ⟨[(1, .lf (.v (.sl Y35) a1)), (2, .clo g2 []), (15, .lf (.v (.sl Y35) a0)), (16, I (a0.length : Int)), (17, I (0 : Int))], []⟩) (φ := True ∧ True ∧ True ∧ True) (by kernel_rfl) ⟨trivial, trivial, trivial, trivial⟩ ?_
      refine VO.nil ?_
      show VW _ _ _ _ _ _ _
      refine VW.block ?_
      refine VW.loopL (fun k s => ∃ (x31 : Int) (x32 : Int), s = ⟨[(1, .lf (.v (.sl Y35) a1)), (2, .clo g2 []), (15, .lf (.v (.sl Y35) a0)), (16, I x31), (17, I x32)], []⟩ ∧ F58_l0 N a0 a1 p2 k x31 x32 = some r) N [.ren [1, 2, 15, 16, 17] []] (by kernel_rfl) ⟨(a0.length : Int), (0 : Int), rfl, h⟩ ?_
      rintro k39 s ⟨x31, x32, rfl, h⟩
      cases k39 with
      | zero => exact nomatch (show (none : Option (Bool)) = some r from h)
      | succ k39 =>
        replace h : F58_l0_b N a0 a1 p2 (F58_l0 N a0 a1 p2 k39) x31 x32 = some r := h
        unfold F58_l0_b at h
        refine VW.seq ?_
        refine VW.region ?_
        refine VO.seg T_ok .dp 1 [1, 2, 15, 16, 17, 18] [] (s' := ⟨[(1, .lf (.v (.sl Y35) a1)), (2, .clo g2 []), (15, .lf (.v (.sl Y35) a0)), (16, I x31), (17, I x32), (18, B (decide (x32 < x31)))], []⟩) (φ := True ∧ True) (by kernel_rfl) ⟨trivial, trivial⟩ ?_
        refine VO.nil ?_
        show VW _ _ _ _ _ _ _
        refine VW.seq ?_
        refine VW.cond (b := (decide (x32 < x31))) (by kernel_rfl) (fun hb => ?_) (fun hb => ?_)
        · replace h := cond_t h hb; clear hb
          refine VW.skip ?_
          show VW _ _ _ _ _ _ _
          refine VW.seq ?_
          refine VW.block ?_
          refine VW.seq ?_
          refine VW.region ?_
          obtain ⟨g43, h⟩ := gd_some h
          refine VO.seg T_ok .dp 6 [1, 2, 7, 8, 15, 16, 17] [0] (s' := ⟨[(1, .lf (.v (.sl Y35) a1)), (2, .clo g2 []), (7, I x32), (8, .lf (.ptr 0 0 0 0)), (15, .lf (.v (.sl Y35) a0)), (16, I x31), (17, I x32)], [bx [.v (.int .i64) ((a0.getD x32.toNat (Ty.dflt Y35)).1), .v .str ((a0.getD x32.toNat (Ty.dflt Y35)).2.1), .v (.int .i64) ((a0.getD x32.toNat (Ty.dflt Y35)).2.2.1), .v (.int .i64) ((a0.getD x32.toNat (Ty.dflt Y35)).2.2.2.1), .v (.int .i64) ((a0.getD x32.toNat (Ty.dflt Y35)).2.2.2.2.1), .v .bool ((a0.getD x32.toNat (Ty.dflt Y35)).2.2.2.2.2.1), .v (.sl (.int .i64)) ((a0.getD x32.toNat (Ty.dflt Y35)).2.2.2.2.2.2)] 37]⟩) (φ := True ∧ (InR x32 a0.length) ∧ True ∧ True ∧ True ∧ True ∧ True) (by kernel_rfl) ⟨trivial, g43, trivial, trivial, trivial, trivial, trivial⟩ ?_
          refine VO.nil ?_
          show VW _ _ _ _ _ _ _
          refine VW.seq ?_
          refine VW.region ?_
          obtain ⟨g44, h⟩ := gd_some h
          refine VO.seg T_ok .dp 6 [1, 2, 8, 9, 15, 16, 17] [0, 1] (s' := ⟨[(1, .lf (.v (.sl Y35) a1)), (2, .clo g2 []), (8, .lf (.ptr 0 0 0 0)), (9, .lf (.ptr 1 0 0 0)), (15, .lf (.v (.sl Y35) a0)), (16, I x31), (17, I x32)], [bx [.v (.int .i64) ((a0.getD x32.toNat (Ty.dflt Y35)).1), .v .str ((a0.getD x32.toNat (Ty.dflt Y35)).2.1), .v (.int .i64) ((a0.getD x32.toNat (Ty.dflt Y35)).2.2.1), .v (.int .i64) ((a0.getD x32.toNat (Ty.dflt Y35)).2.2.2.1), .v (.int .i64) ((a0.getD x32.toNat (Ty.dflt Y35)).2.2.2.2.1), .v .bool ((a0.getD x32.toNat (Ty.dflt Y35)).2.2.2.2.2.1), .v (.sl (.int .i64)) ((a0.getD x32.toNat (Ty.dflt Y35)).2.2.2.2.2.2)] 37, bx [.v (.int .i64) ((a1.getD x32.toNat (Ty.dflt Y35)).1), .v .str ((a1.getD x32.toNat (Ty.dflt Y35)).2.1), .v (.int .i64) ((a1.getD x32.toNat (Ty.dflt Y35)).2.2.1), .v (.int .i64) ((a1.getD x32.toNat (Ty.dflt Y35)).2.2.2.1), .v (.int .i64) ((a1.getD x32.toNat (Ty.dflt Y35)).2.2.2.2.1), .v .bool ((a1.getD x32.toNat (Ty.dflt Y35)).2.2.2.2.2.1), .v (.sl (.int .i64)) ((a1.getD x32.toNat (Ty.dflt Y35)).2.2.2.2.2.2)] 37]⟩) (φ := True ∧ True ∧ (InR x32 a1.length) ∧ True ∧ True ∧ True ∧ True) (by kernel_rfl) ⟨trivial, trivial, g44, trivial, trivial, trivial, trivial⟩ ?_
          refine VO.nil ?_
          show VW _ _ _ _ _ _ _
          refine VW.seq ?_
          refine VW.region ?_
          refine VO.seg T_ok .dp 3 [1, 2, 15, 16, 17, 26, 27, 28] [] (s' := ⟨[(1, .lf (.v (.sl Y35) a1)), (2, .clo g2 []), (15, .lf (.v (.sl Y35) a0)), (16, I x31), (17, I x32), (26, .clo g2 []), (27, .agg [.v (.int .i64) ((a0.getD x32.toNat (Ty.dflt Y35)).1), .v .str ((a0.getD x32.toNat (Ty.dflt Y35)).2.1), .v (.int .i64) ((a0.getD x32.toNat (Ty.dflt Y35)).2.2.1), .v (.int .i64) ((a0.getD x32.toNat (Ty.dflt Y35)).2.2.2.1), .v (.int .i64) ((a0.getD x32.toNat (Ty.dflt Y35)).2.2.2.2.1), .v .bool ((a0.getD x32.toNat (Ty.dflt Y35)).2.2.2.2.2.1), .v (.sl (.int .i64)) ((a0.getD x32.toNat (Ty.dflt Y35)).2.2.2.2.2.2)]), (28, .agg [.v (.int .i64) ((a1.getD x32.toNat (Ty.dflt Y35)).1), .v .str ((a1.getD x32.toNat (Ty.dflt Y35)).2.1), .v (.int .i64) ((a1.getD x32.toNat (Ty.dflt Y35)).2.2.1), .v (.int .i64) ((a1.getD x32.toNat (Ty.dflt Y35)).2.2.2.1), .v (.int .i64) ((a1.getD x32.toNat (Ty.dflt Y35)).2.2.2.2.1), .v .bool ((a1.getD x32.toNat (Ty.dflt Y35)).2.2.2.2.2.1), .v (.sl (.int .i64)) ((a1.getD x32.toNat (Ty.dflt Y35)).2.2.2.2.2.2)])], []⟩) (φ := True ∧ True ∧ True ∧ True) (by kernel_rfl) ⟨trivial, trivial, trivial, trivial⟩ ?_
          obtain ⟨y45, hy, h⟩ := andO_some h
          refine VO.call false [.t Y35, .t Y35] [] T_ok (d := some 29) (by kernel_rfl) (hp2 _ _ _ hy) rfl ?_
          refine VO.seg T_ok .dp 1 [1, 2, 15, 16, 17, 30] [] (s' := ⟨[(1, .lf (.v (.sl Y35) a1)), (2, .clo g2 []), (15, .lf (.v (.sl Y35) a0)), (16, I x31), (17, I x32), (30, B (!y45))], []⟩) (φ := True ∧ True) (by kernel_rfl) ⟨trivial, trivial⟩ ?_
          refine VO.nil ?_
          show VW _ _ _ _ _ _ _
          refine VW.cond (b := (!y45)) (by kernel_rfl) (fun hb => ?_) (fun hb => ?_)
          · replace h := cond_t h hb; clear hb
            refine VW.seq ?_
            refine VW.region ?_
            refine VO.seg T_ok .dp 1 [6] [] (s' := ⟨[(6, B false)], []⟩) (φ := True ∧ True) (by kernel_rfl) ⟨trivial, trivial⟩ ?_
            refine VO.nil ?_
            show VW _ _ _ _ _ _ _
            refine VW.ret ?_
            replace h := Option.some.inj h
            subst h
            exact retR [] (by kernel_rfl) rfl
          · replace h := cond_f h hb; clear hb
            refine VW.skip ?_
            show VW _ _ _ _ _ _ _
            refine VW.region ?_
            refine VO.seg T_ok .dp 2 [1, 2, 15, 16, 17] [] (s' := ⟨[(1, .lf (.v (.sl Y35) a1)), (2, .clo g2 []), (15, .lf (.v (.sl Y35) a0)), (16, I x31), (17, I (IntKind.i64.wrap (x32 + (1 : Int))))], []⟩) (φ := True ∧ True ∧ True) (by kernel_rfl) ⟨trivial, trivial, trivial⟩ ?_
            refine VO.nil ?_
            exact around [.ren [1, 2, 15, 16, 17] []] (by kernel_rfl) ⟨x31, (IntKind.i64.wrap (x32 + (1 : Int))), rfl, h⟩
        · replace h := cond_f h hb; clear hb
          refine VW.exit ?_
          exact arrive [.ren [] []] (by kernel_rfl) ⟨rfl, h⟩
    · rintro s ⟨rfl, h⟩
      unfold F58_j0 at h
      refine VW.seq ?_
      refine VW.region ?_
      refine VO.seg T_ok .dp 1 [6] [] (s' := ⟨[(6, B true)], []⟩) (φ := True ∧ True) (by kernel_rfl) ⟨trivial, trivial⟩ ?_
      refine VO.nil ?_
      show VW _ _ _ _ _ _ _
      refine VW.ret ?_
      replace h := Option.some.inj h
      subst h
      exact retR [] (by kernel_rfl) rfl

/- loop.example/g00844/impl.SamePlan -/
def F32 (N : Nat) (a0 : (List (Int × (ByteArray × (Int × (Int × (Int × (Bool × (List Int))))))))) (a1 : (List (Int × (ByteArray × (Int × (Int × (Int × (Bool × (List Int))))))))) : Option (Bool) :=
  andO (F58 N a0 a1 (fun z0 z1 => F59 N z0 z1)) fun y1 => some y1
theorem ok32 (N : Nat) (a0 : (List (Int × (ByteArray × (Int × (Int × (Int × (Bool × (List Int))))))))) (a1 : (List (Int × (ByteArray × (Int × (Int × (Int × (Bool × (List Int))))))))) {r : Bool} (h : F32 N a0 a1 = some r) : Con Go.Proofs.Try.prog 32 [.lf (.v (.sl Y35) a0), .lf (.v (.sl Y35) a1)] [.lf (.v .bool r)] := by
  refine ⟨enters_of Go.Proofs.Try.func32 rfl (by decide), HC.intro [.lf (.v .bool)] T_ok Go.Proofs.Try.func32 rfl (Nat.le_of_ble_eq_true rfl) (Nat.le_of_ble_eq_true rfl) fun w0 E0 => ?_⟩
  unfold F32 at h
  show VW _ _ _ _ _ (retQ _ _ _ _) _
  refine VW.seq ?_
  refine VW.region ?_
  refine VO.seg T_ok .dp 1 [0, 1] [] (s' := ⟨[(0, .lf (.v (.sl Y35) a0)), (1, .lf (.v (.sl Y35) a1))], []⟩) (φ := True ∧ True) (by kernel_rfl) ⟨trivial, trivial⟩ ?_
  refine VO.nil ?_
  show VW _ _ _ _ _ _ _
  refine VW.seq ?_
  refine VW.region ?_
  refine VO.seg T_ok .dp 2 [5, 6] [] (s' := ⟨[(5, .lf (.v (.sl Y35) a0)), (6, .lf (.v (.sl Y35) a1))], []⟩) (φ := True ∧ True ∧ True) (by kernel_rfl) ⟨trivial, trivial, trivial⟩ ?_
  obtain ⟨y1, hy, h⟩ := andO_some h
  refine VO.call false [.t (.sl Y35), .t (.sl Y35), .clo []] [] T_ok (d := some 7) (by kernel_rfl) (ok58 N _ _ 59  (fun z0 z1 => F59 N z0 z1 ) (fun z0 z1 _ hz => ok59 N z0 z1 hz) hy) rfl ?_
  refine VO.seg T_ok .dp 1 [4] [] (s' := ⟨[(4, B y1)], []⟩) (φ := True ∧ True) (by kernel_rfl) ⟨trivial, trivial⟩ ?_
  refine VO.nil ?_
  show VW _ _ _ _ _ _ _
  refine VW.ret ?_
  replace h := Option.some.inj h
  subst h
  exact retR [] (by kernel_rfl) rfl

/- loop.example/g00844/impl.SameTemplate -/
def F17 (N : Nat) (a0 : (List (Int × (ByteArray × (Int × (Int × (Int × (Bool × (List Int))))))))) (a1 : (List (Int × (ByteArray × (Int × (Int × (Int × (Bool × (List Int))))))))) : Option (Bool) :=
  andO (F31 N a0) fun y1 => andO (F31 N a1) fun y2 => cond y1.2.2 (cond y2.2.2 (andO (F32 N y1.1 y2.1) fun y3 => some y3) (some false)) (some false)
theorem ok17 (N : Nat) (a0 : (List (Int × (ByteArray × (Int × (Int × (Int × (Bool × (List Int))))))))) (a1 : (List (Int × (ByteArray × (Int × (Int × (Int × (Bool × (List Int))))))))) {r : Bool} (h : F17 N a0 a1 = some r) : Con Go.Proofs.Try.prog 17 [.lf (.v (.sl Y35) a0), .lf (.v (.sl Y35) a1)] [.lf (.v .bool r)] := by
  refine ⟨enters_of Go.Proofs.Try.func17 rfl (by decide), HC.intro [.lf (.v .bool)] T_ok Go.Proofs.Try.func17 rfl (Nat.le_of_ble_eq_true rfl) (Nat.le_of_ble_eq_true rfl) fun w0 E0 => ?_⟩
  unfold F17 at h
  show VW _ _ _ _ _ (retQ _ _ _ _) _
  refine VW.seq ?_
  refine VW.region ?_
  refine VO.seg T_ok .dp 1 [0, 1] [] (s' := ⟨[(0, .lf (.v (.sl Y35) a0)), (1, .lf (.v (.sl Y35) a1))], []⟩) (φ := True ∧ True) (by kernel_rfl) ⟨trivial, trivial⟩ ?_
  refine VO.nil ?_
  show VW _ _ _ _ _ _ _
  refine VW.seq ?_
  refine VW.region ?_
  refine VO.seg T_ok .dp 1 [1, 12] [] (s' := ⟨[(1, .lf (.v (.sl Y35) a1)), (12, .lf (.v (.sl Y35) a0))], []⟩) (φ := True ∧ True) (by kernel_rfl) ⟨trivial, trivial⟩ ?_
  obtain ⟨y1, hy, h⟩ := andO_some h
  refine VO.call false [.t (.sl Y35)] [] T_ok (d := some 13) (by kernel_rfl) (ok31 N _ hy) rfl ?_
  refine VO.seg T_ok .dp 7 [1, 5, 7] [0] (s' := ⟨[(1, .lf (.v (.sl Y35) a1)), (5, .lf (.hd 0 0 none)), (7, B y1.2.2)], [ar 0 Y35 y1.1 .tp]⟩) (φ := True ∧ True ∧ True ∧ True ∧ True ∧ True ∧ True ∧ True) (by kernel_rfl) ⟨trivial, trivial, trivial, trivial, trivial, trivial, trivial, trivial⟩ ?_
  refine VO.nil ?_
  show VW _ _ _ _ _ _ _
  refine VW.seq ?_
  refine VW.region ?_
  refine VO.seg T_ok .dp 1 [5, 7, 18] [0] (s' := ⟨[(5, .lf (.hd 0 0 none)), (7, B y1.2.2), (18, .lf (.v (.sl Y35) a1))], [ar 0 Y35 y1.1 .tp]⟩) (φ := True ∧ True) (by kernel_rfl) ⟨trivial, trivial⟩ ?_
  obtain ⟨y2, hy, h⟩ := andO_some h
  refine VO.call false [.t (.sl Y35)] [] T_ok (d := some 19) (by kernel_rfl) (ok31 N _ hy) rfl ?_
  refine VO.seg T_ok .dp 7 [5, 7, 8, 10] [0, 1] (s' := ⟨[(5, .lf (.hd 0 0 none)), (7, B y1.2.2), (8, .lf (.hd 1 0 none)), (10, B y2.2.2)], [ar 0 Y35 y1.1 .tp, ar 0 Y35 y2.1 .tp]⟩) (φ := True ∧ True ∧ True ∧ True ∧ True ∧ True ∧ True ∧ True) (by kernel_rfl) ⟨trivial, trivial, trivial, trivial, trivial, trivial, trivial, trivial⟩ ?_
  refine VO.nil ?_
  show VW _ _ _ _ _ _ _
  refine VW.seq ?_
  refine VW.region ?_
  refine VO.seg T_ok .dp 2 [5, 8, 10, 24] [0, 1] (s' := ⟨[(5, .lf (.hd 0 0 none)), (8, .lf (.hd 1 0 none)), (10, B y2.2.2), (24, B y1.2.2)], [ar 0 Y35 y1.1 .tp, ar 0 Y35 y2.1 .tp]⟩) (φ := True ∧ True ∧ True) (by kernel_rfl) ⟨trivial, trivial, trivial⟩ ?_
  refine VO.splitB 24 (b := y1.2.2) (by kernel_rfl) (fun hb => ?_) (fun hb => ?_)
  · replace h := cond_t h hb; clear hb
    refine VO.seg T_ok .dp 3 [5, 8, 27] [0, 1] (s' := ⟨[(5, .lf (.hd 0 0 none)), (8, .lf (.hd 1 0 none)), (27, B y2.2.2)], [ar 0 Y35 y1.1 .tp, ar 0 Y35 y2.1 .tp]⟩) (φ := True ∧ True ∧ True ∧ True) (by kernel_rfl) ⟨trivial, trivial, trivial, trivial⟩ ?_
    refine VO.splitB 27 (b := y2.2.2) (by kernel_rfl) (fun hb => ?_) (fun hb => ?_)
    · replace h := cond_t h hb; clear hb
      refine VO.seg T_ok .dp 2 [27, 28, 29] [0, 1] (s' := ⟨[(27, B true), (28, .lf (.hd 0 0 none)), (29, .lf (.hd 1 0 none))], [ar 0 Y35 y1.1 .tp, ar 0 Y35 y2.1 .tp]⟩) (φ := True ∧ True ∧ True) (by kernel_rfl) ⟨trivial, trivial, trivial⟩ ?_
      refine VO.on (j := 4) (want := true) (d := 27) (b := true) rfl rfl rfl (by kernel_rfl) rfl ?_
      obtain ⟨y3, hy, h⟩ := andO_some h
      refine VO.call true [.t (.sl Y35), .t (.sl Y35)] [] T_ok (d := some 30) (by kernel_rfl) (ok32 N _ _ hy) rfl ?_
      refine VO.seg T_ok .dp 2 [4] [] (s' := ⟨[(4, B y3)], []⟩) (φ := True ∧ True ∧ True) (by kernel_rfl) ⟨trivial, trivial, trivial⟩ ?_
      refine VO.nil ?_
      show VW _ _ _ _ _ _ _
      refine VW.ret ?_
      replace h := Option.some.inj h
      subst h
      exact retR [] (by kernel_rfl) rfl
    · replace h := cond_f h hb; clear hb
      refine VO.seg T_ok .dp 5 [4] [] (s' := ⟨[(4, B false)], []⟩) (φ := True ∧ True ∧ True ∧ True ∧ True ∧ True) (by kernel_rfl) ⟨trivial, trivial, trivial, trivial, trivial, trivial⟩ ?_
      refine VO.nil ?_
      show VW _ _ _ _ _ _ _
      refine VW.ret ?_
      replace h := Option.some.inj h
      subst h
      exact retR [] (by kernel_rfl) rfl
  · replace h := cond_f h hb; clear hb
    refine VO.seg T_ok .dp 8 [4] [] (s' := ⟨[(4, B false)], []⟩) (φ := True ∧ True ∧ True ∧ True ∧ True ∧ True ∧ True ∧ True ∧ True) (by kernel_rfl) ⟨trivial, trivial, trivial, trivial, trivial, trivial, trivial, trivial, trivial⟩ ?_
    refine VO.nil ?_
    show VW _ _ _ _ _ _ _
    refine VW.ret ?_
    replace h := Option.some.inj h
    subst h
    exact retR [] (by kernel_rfl) rfl

/- loop.example/g00844/laws.FnExactSameTemplate -/
def F6 (N : Nat) (a0 : (List (Int × (ByteArray × (Int × (Int × (Int × (Bool × (List Int))))))))) (a1 : (List (Int × (ByteArray × (Int × (Int × (Int × (Bool × (List Int))))))))) : Option (Bool) :=
  andO (F7 N a0 (1048576 : Int)) fun y1 => cond (decide (y1 < (0 : Int))) (some true) (andO (F7 N a1 y1) fun y2 => cond (decide (y2 < (0 : Int))) (some true) (andO (F9 N a0) fun y3 => andO (F9 N a1) fun y4 => andO (F16 N y3 y4) fun y5 => andO (F9 N a0) fun y6 => andO (F9 N a1) fun y7 => andO (F17 N y6 y7) fun y8 => cond (!(y8 == y5)) (some false) (andO (F9 N a0) fun y11 => andO (F11 N y6 y11) fun y12 => cond (!y12) (some false) (andO (F9 N a1) fun y15 => andO (F11 N y7 y15) fun y16 => cond (!y16) (some false) (some true)))))
theorem ok6 (N : Nat) (a0 : (List (Int × (ByteArray × (Int × (Int × (Int × (Bool × (List Int))))))))) (a1 : (List (Int × (ByteArray × (Int × (Int × (Int × (Bool × (List Int))))))))) {r : Bool} (h : F6 N a0 a1 = some r) : Con Go.Proofs.Try.prog 6 [.lf (.v (.sl Y35) a0), .lf (.v (.sl Y35) a1)] [.lf (.v .bool r)] := by
  refine ⟨enters_of Go.Proofs.Try.func6 rfl (by decide), HC.intro [.lf (.v .bool)] T_ok Go.Proofs.Try.func6 rfl (Nat.le_of_ble_eq_true rfl) (Nat.le_of_ble_eq_true rfl) fun w0 E0 => ?_⟩
  unfold F6 at h
  show VW _ _ _ _ _ (retQ _ _ _ _) _
  refine VW.seq ?_
  refine VW.region ?_
  refine VO.seg T_ok .dp 1 [0, 1] [] (s' := ⟨[(0, .lf (.v (.sl Y35) a0)), (1, .lf (.v (.sl Y35) a1))], []⟩) (φ := True ∧ True) (by kernel_rfl) ⟨trivial, trivial⟩ ?_
  refine VO.nil ?_
  show VW _ _ _ _ _ _ _
  refine VW.seq ?_
  refine VW.region ?_
  refine VO.seg T_ok .dp 1 [0, 1, 5] [] (s' := ⟨[(0, .lf (.v (.sl Y35) a0)), (1, .lf (.v (.sl Y35) a1)), (5, I (1048576 : Int))], []⟩) (φ := True ∧ True) (by kernel_rfl) ⟨trivial, trivial⟩ ?_
  refine VO.nil ?_
  show VW _ _ _ _ _ _ _
  refine VW.seq ?_
  refine VW.region ?_
  refine VO.seg T_ok .dp 2 [0, 1, 10, 11] [] (s' := ⟨[(0, .lf (.v (.sl Y35) a0)), (1, .lf (.v (.sl Y35) a1)), (10, .lf (.v (.sl Y35) a0)), (11, I (1048576 : Int))], []⟩) (φ := True ∧ True ∧ True) (by kernel_rfl) ⟨trivial, trivial, trivial⟩ ?_
  obtain ⟨y1, hy, h⟩ := andO_some h
  refine VO.call false [.t (.sl Y35), .t (.int .i64)] [] T_ok (d := some 12) (by kernel_rfl) (ok7 N _ _ hy) rfl ?_
  refine VO.seg T_ok .dp 1 [0, 1, 5] [] (s' := ⟨[(0, .lf (.v (.sl Y35) a0)), (1, .lf (.v (.sl Y35) a1)), (5, I y1)], []⟩) (φ := True ∧ True) (by kernel_rfl) ⟨trivial, trivial⟩ ?_
  refine VO.nil ?_
  show VW _ _ _ _ _ _ _
  refine VW.seq ?_
  refine VW.seq ?_
  refine VW.region ?_
  refine VO.seg T_ok .dp 2 [0, 1, 5, 14] [] (s' := ⟨[(0, .lf (.v (.sl Y35) a0)), (1, .lf (.v (.sl Y35) a1)), (5, I y1), (14, B (decide (y1 < (0 : Int))))], []⟩) (φ := True ∧ True ∧ True) (by kernel_rfl) ⟨trivial, trivial, trivial⟩ ?_
  refine VO.nil ?_
  show VW _ _ _ _ _ _ _
  refine VW.cond (b := (decide (y1 < (0 : Int)))) (by kernel_rfl) (fun hb => ?_) (fun hb => ?_)
  · replace h := cond_t h hb; clear hb
    refine VW.seq ?_
    refine VW.region ?_
    refine VO.seg T_ok .dp 1 [4] [] (s' := ⟨[(4, B true)], []⟩) (φ := True ∧ True) (by kernel_rfl) ⟨trivial, trivial⟩ ?_
    refine VO.nil ?_
    show VW _ _ _ _ _ _ _
    refine VW.ret ?_
    replace h := Option.some.inj h
    subst h
    exact retR [] (by kernel_rfl) rfl
  · replace h := cond_f h hb; clear hb
    refine VW.skip ?_
    show VW _ _ _ _ _ _ _
    refine VW.seq ?_
    refine VW.region ?_
    refine VO.seg T_ok .dp 2 [0, 1, 15, 16] [] (s' := ⟨[(0, .lf (.v (.sl Y35) a0)), (1, .lf (.v (.sl Y35) a1)), (15, .lf (.v (.sl Y35) a1)), (16, I y1)], []⟩) (φ := True ∧ True ∧ True) (by kernel_rfl) ⟨trivial, trivial, trivial⟩ ?_
    obtain ⟨y2, hy, h⟩ := andO_some h
    refine VO.call false [.t (.sl Y35), .t (.int .i64)] [] T_ok (d := some 17) (by kernel_rfl) (ok7 N _ _ hy) rfl ?_
    refine VO.seg T_ok .dp 1 [0, 1, 5] [] (s' := ⟨[(0, .lf (.v (.sl Y35) a0)), (1, .lf (.v (.sl Y35) a1)), (5, I y2)], []⟩) (φ := True ∧ True) (by kernel_rfl) ⟨trivial, trivial⟩ ?_
    refine VO.nil ?_
    show VW _ _ _ _ _ _ _
    refine VW.seq ?_
    refine VW.seq ?_
    refine VW.region ?_
    refine VO.seg T_ok .dp 2 [0, 1, 19] [] (s' := ⟨[(0, .lf (.v (.sl Y35) a0)), (1, .lf (.v (.sl Y35) a1)), (19, B (decide (y2 < (0 : Int))))], []⟩) (φ := True ∧ True ∧ True) (by kernel_rfl) ⟨trivial, trivial, trivial⟩ ?_
    refine VO.nil ?_
    show VW _ _ _ _ _ _ _
    refine VW.cond (b := (decide (y2 < (0 : Int)))) (by kernel_rfl) (fun hb => ?_) (fun hb => ?_)
    · replace h := cond_t h hb; clear hb
      refine VW.seq ?_
      refine VW.region ?_
      refine VO.seg T_ok .dp 1 [4] [] (s' := ⟨[(4, B true)], []⟩) (φ := True ∧ True) (by kernel_rfl) ⟨trivial, trivial⟩ ?_
      refine VO.nil ?_
      show VW _ _ _ _ _ _ _
      refine VW.ret ?_
      replace h := Option.some.inj h
      subst h
      exact retR [] (by kernel_rfl) rfl
    · replace h := cond_f h hb; clear hb
      refine VW.skip ?_
      show VW _ _ _ _ _ _ _
      refine VW.seq ?_
      refine VW.region ?_
      refine VO.seg T_ok .dp 1 [0, 1, 20] [] (s' := ⟨[(0, .lf (.v (.sl Y35) a0)), (1, .lf (.v (.sl Y35) a1)), (20, .lf (.v (.sl Y35) a0))], []⟩) (φ := True ∧ True) (by kernel_rfl) ⟨trivial, trivial⟩ ?_
      obtain ⟨y3, hy, h⟩ := andO_some h
      refine VO.call false [.t (.sl Y35)] [] T_ok (d := some 21) (by kernel_rfl) (ok9 N _ hy) rfl ?_
      refine VO.seg T_ok .dp 1 [0, 1, 21, 22] [0] (s' := ⟨[(0, .lf (.v (.sl Y35) a0)), (1, .lf (.v (.sl Y35) a1)), (21, .lf (.hd 0 0 none)), (22, .lf (.v (.sl Y35) a1))], [ar 0 Y35 y3 .tp]⟩) (φ := True ∧ True) (by kernel_rfl) ⟨trivial, trivial⟩ ?_
      obtain ⟨y4, hy, h⟩ := andO_some h
      refine VO.call false [.t (.sl Y35)] [] T_ok (d := some 23) (by kernel_rfl) (ok9 N _ hy) rfl ?_
      obtain ⟨y5, hy, h⟩ := andO_some h
      refine VO.call true [.t (.sl Y35), .t (.sl Y35)] [] T_ok (d := some 24) (by kernel_rfl) (ok16 N _ _ hy) rfl ?_
      refine VO.seg T_ok .dp 1 [0, 1, 6] [] (s' := ⟨[(0, .lf (.v (.sl Y35) a0)), (1, .lf (.v (.sl Y35) a1)), (6, B y5)], []⟩) (φ := True ∧ True) (by kernel_rfl) ⟨trivial, trivial⟩ ?_
      refine VO.nil ?_
      show VW _ _ _ _ _ _ _
      refine VW.seq ?_
      refine VW.region ?_
      refine VO.seg T_ok .dp 1 [0, 1, 6, 25] [] (s' := ⟨[(0, .lf (.v (.sl Y35) a0)), (1, .lf (.v (.sl Y35) a1)), (6, B y5), (25, .lf (.v (.sl Y35) a0))], []⟩) (φ := True ∧ True) (by kernel_rfl) ⟨trivial, trivial⟩ ?_
      obtain ⟨y6, hy, h⟩ := andO_some h
      refine VO.call false [.t (.sl Y35)] [] T_ok (d := some 26) (by kernel_rfl) (ok9 N _ hy) rfl ?_
      refine VO.seg T_ok .dp 1 [0, 1, 6, 7] [0] (s' := ⟨[(0, .lf (.v (.sl Y35) a0)), (1, .lf (.v (.sl Y35) a1)), (6, B y5), (7, .lf (.hd 0 0 none))], [ar 0 Y35 y6 .tp]⟩) (φ := True ∧ True) (by kernel_rfl) ⟨trivial, trivial⟩ ?_
      refine VO.nil ?_
      show VW _ _ _ _ _ _ _
      refine VW.seq ?_
      refine VW.region ?_
      refine VO.seg T_ok .dp 1 [0, 1, 6, 7, 27] [0] (s' := ⟨[(0, .lf (.v (.sl Y35) a0)), (1, .lf (.v (.sl Y35) a1)), (6, B y5), (7, .lf (.hd 0 0 none)), (27, .lf (.v (.sl Y35) a1))], [ar 0 Y35 y6 .tp]⟩) (φ := True ∧ True) (by kernel_rfl) ⟨trivial, trivial⟩ ?_
      obtain ⟨y7, hy, h⟩ := andO_some h
      refine VO.call false [.t (.sl Y35)] [] T_ok (d := some 28) (by kernel_rfl) (ok9 N _ hy) rfl ?_
      refine VO.seg T_ok .dp 1 [0, 1, 6, 7, 8] [0, 1] (s' := ⟨[(0, .lf (.v (.sl Y35) a0)), (1, .lf (.v (.sl Y35) a1)), (6, B y5), (7, .lf (.hd 0 0 none)), (8, .lf (.hd 1 0 none))], [ar 0 Y35 y6 .tp, ar 0 Y35 y7 .tp]⟩) (φ := True ∧ True) (by kernel_rfl) ⟨trivial, trivial⟩ ?_
      refine VO.nil ?_
      show VW _ _ _ _ _ _ _
      refine VW.seq ?_
      refine VW.region ?_
      refine VO.seg T_ok .dp 2 [0, 1, 6, 7, 8, 29, 30] [0, 1] (s' := ⟨[(0, .lf (.v (.sl Y35) a0)), (1, .lf (.v (.sl Y35) a1)), (6, B y5), (7, .lf (.hd 0 0 none)), (8, .lf (.hd 1 0 none)), (29, .lf (.hd 0 0 none)), (30, .lf (.hd 1 0 none))], [ar 0 Y35 y6 .tp, ar 0 Y35 y7 .tp]⟩) (φ := True ∧ True ∧ True) (by kernel_rfl) ⟨trivial, trivial, trivial⟩ ?_
      obtain ⟨y8, hy, h⟩ := andO_some h
      refine VO.call true [.t (.sl Y35), .t (.sl Y35)] [] T_ok (d := some 31) (by kernel_rfl) (ok17 N _ _ hy) rfl ?_
      refine VO.seg T_ok .dp 1 [0, 1, 6, 7, 8, 9] [0, 1] (s' := ⟨[(0, .lf (.v (.sl Y35) a0)), (1, .lf (.v (.sl Y35) a1)), (6, B y5), (7, .lf (.hd 0 0 none)), (8, .lf (.hd 1 0 none)), (9, B y8)], [ar 0 Y35 y6 .tp, ar 0 Y35 y7 .tp]⟩) (φ := True ∧ True) (by kernel_rfl) ⟨trivial, trivial⟩ ?_
      refine VO.nil ?_
      show VW _ _ _ _ _ _ _
      refine VW.seq ?_
      refine VW.seq ?_
      refine VW.region ?_
      refine VO.seg T_ok .dp 3 [0, 1, 7, 8, 34] [0, 1] (s' := ⟨[(0, .lf (.v (.sl Y35) a0)), (1, .lf (.v (.sl Y35) a1)), (7, .lf (.hd 0 0 none)), (8, .lf (.hd 1 0 none)), (34, B (!(y8 == y5)))], [ar 0 Y35 y6 .tp, ar 0 Y35 y7 .tp]⟩) (φ := True ∧ True ∧ True ∧ True) (by kernel_rfl) ⟨trivial, trivial, trivial, trivial⟩ ?_
      refine VO.nil ?_
      show VW _ _ _ _ _ _ _
      refine VW.cond (b := (!(y8 == y5))) (by kernel_rfl) (fun hb => ?_) (fun hb => ?_)
      · replace h := cond_t h hb; clear hb
        refine VW.seq ?_
        refine VW.region ?_
        refine VO.seg T_ok .dp 1 [4] [] (s' := ⟨[(4, B false)], []⟩) (φ := True ∧ True) (by kernel_rfl) ⟨trivial, trivial⟩ ?_
        refine VO.nil ?_
        show VW _ _ _ _ _ _ _
        refine VW.ret ?_
        replace h := Option.some.inj h
        subst h
        exact retR [] (by kernel_rfl) rfl
      · replace h := cond_f h hb; clear hb
        refine VW.skip ?_
        show VW _ _ _ _ _ _ _
        refine VW.seq ?_
        refine VW.seq ?_
        refine VW.region ?_
        refine VO.seg T_ok .dp 2 [1, 8, 35, 36] [1, 0] (s' := ⟨[(1, .lf (.v (.sl Y35) a1)), (8, .lf (.hd 0 0 none)), (35, .lf (.hd 1 0 none)), (36, .lf (.v (.sl Y35) a0))], [ar 0 Y35 y7 .tp, ar 0 Y35 y6 .tp]⟩) (φ := True ∧ True ∧ True) (by kernel_rfl) ⟨trivial, trivial, trivial⟩ ?_
        obtain ⟨y11, hy, h⟩ := andO_some h
        refine VO.call false [.t (.sl Y35)] [] T_ok (d := some 37) (by kernel_rfl) (ok9 N _ hy) rfl ?_
        obtain ⟨y12, hy, h⟩ := andO_some h
        refine VO.call true [.t (.sl Y35), .t (.sl Y35)] [] T_ok (d := some 38) (by kernel_rfl) (ok11 N _ _ hy) rfl ?_
        refine VO.seg T_ok .dp 1 [1, 8, 39] [0] (s' := ⟨[(1, .lf (.v (.sl Y35) a1)), (8, .lf (.hd 0 0 none)), (39, B (!y12))], [ar 0 Y35 y7 .tp]⟩) (φ := True ∧ True) (by kernel_rfl) ⟨trivial, trivial⟩ ?_
        refine VO.nil ?_
        show VW _ _ _ _ _ _ _
        refine VW.cond (b := (!y12)) (by kernel_rfl) (fun hb => ?_) (fun hb => ?_)
        · replace h := cond_t h hb; clear hb
          refine VW.seq ?_
          refine VW.region ?_
          refine VO.seg T_ok .dp 1 [4] [] (s' := ⟨[(4, B false)], []⟩) (φ := True ∧ True) (by kernel_rfl) ⟨trivial, trivial⟩ ?_
          refine VO.nil ?_
          show VW _ _ _ _ _ _ _
          refine VW.ret ?_
          replace h := Option.some.inj h
          subst h
          exact retR [] (by kernel_rfl) rfl
        · replace h := cond_f h hb; clear hb
          refine VW.skip ?_
          show VW _ _ _ _ _ _ _
          refine VW.seq ?_
          refine VW.seq ?_
          refine VW.region ?_
          refine VO.seg T_ok .dp 2 [40, 41] [0] (s' := ⟨[(40, .lf (.hd 0 0 none)), (41, .lf (.v (.sl Y35) a1))], [ar 0 Y35 y7 .tp]⟩) (φ := True ∧ True ∧ True) (by kernel_rfl) ⟨trivial, trivial, trivial⟩ ?_
          obtain ⟨y15, hy, h⟩ := andO_some h
          refine VO.call false [.t (.sl Y35)] [] T_ok (d := some 42) (by kernel_rfl) (ok9 N _ hy) rfl ?_
          obtain ⟨y16, hy, h⟩ := andO_some h
          refine VO.call true [.t (.sl Y35), .t (.sl Y35)] [] T_ok (d := some 43) (by kernel_rfl) (ok11 N _ _ hy) rfl ?_
          refine VO.seg T_ok .dp 1 [44] [] (s' := ⟨[(44, B (!y16))], []⟩) (φ := True ∧ True) (by kernel_rfl) ⟨trivial, trivial⟩ ?_
          refine VO.nil ?_
          show VW _ _ _ _ _ _ _
          refine VW.cond (b := (!y16)) (by kernel_rfl) (fun hb => ?_) (fun hb => ?_)
          · replace h := cond_t h hb; clear hb
            refine VW.seq ?_
            refine VW.region ?_
            refine VO.seg T_ok .dp 1 [4] [] (s' := ⟨[(4, B false)], []⟩) (φ := True ∧ True) (by kernel_rfl) ⟨trivial, trivial⟩ ?_
            refine VO.nil ?_
            show VW _ _ _ _ _ _ _
            refine VW.ret ?_
            replace h := Option.some.inj h
            subst h
            exact retR [] (by kernel_rfl) rfl
          · replace h := cond_f h hb; clear hb
            refine VW.skip ?_
            show VW _ _ _ _ _ _ _
            refine VW.seq ?_
            refine VW.region ?_
            refine VO.seg T_ok .dp 1 [4] [] (s' := ⟨[(4, B true)], []⟩) (φ := True ∧ True) (by kernel_rfl) ⟨trivial, trivial⟩ ?_
            refine VO.nil ?_
            show VW _ _ _ _ _ _ _
            refine VW.ret ?_
            replace h := Option.some.inj h
            subst h
            exact retR [] (by kernel_rfl) rfl

end Go.Proofs.Ytmckanbamdgcfaa.Vc
