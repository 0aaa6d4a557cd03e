/- What functions of the program compute, and that they do. -/
import Derived.Test.YtdihadbgbjhebaaVt0
namespace Go.Proofs.Ytdihadbgbjhebaa.Vc
open Go Go.RowKit
set_option linter.unusedVariables false
set_option maxRecDepth 100000
set_option maxHeartbeats 4000000
/- loop.example/g00844/impl.isSlot -/
def F146 (N : Nat) (a0 : Int) : Option (Bool) :=
  andO (F54 N a0 (0 : Int) (39 : Int)) fun y1 => some y1
theorem ok146 (N : Nat) (a0 : Int) {r : Bool} (h : F146 N a0 = some r) : Con Go.Proofs.Try.prog 146 [I a0] [.lf (.v .bool r)] := by
  refine ⟨enters_of Go.Proofs.Try.func146 rfl (by decide), HC.intro [.lf (.v .bool)] T_ok Go.Proofs.Try.func146 rfl (Nat.le_of_ble_eq_true rfl) (Nat.le_of_ble_eq_true rfl) fun w0 E0 => ?_⟩
  unfold F146 at h
  show VW _ _ _ _ _ (retQ _ _ _ _) _
  refine VW.seq ?_
  refine VW.region ?_
  refine VO.seg T_ok .dp 1 [0] [] (s' := ⟨[(0, I a0)], []⟩) (φ := True ∧ True) (by kernel_rfl) ⟨trivial, trivial⟩ ?_
  refine VO.nil ?_
  show VW _ _ _ _ _ _ _
  refine VW.seq ?_
  refine VW.region ?_
  refine VO.seg T_ok .dp 1 [3] [] (s' := ⟨[(3, I a0)], []⟩) (φ := True ∧ True) (by kernel_rfl) ⟨trivial, trivial⟩ ?_
  obtain ⟨y1, hy, h⟩ := andO_some h
  refine VO.call false [.t (.int .i64), .t (.int .i64), .t (.int .i64)] [] T_ok (d := some 4) (by kernel_rfl) (ok54 N _ _ _ hy) rfl ?_
  refine VO.seg T_ok .dp 1 [2] [] (s' := ⟨[(2, B y1)], []⟩) (φ := True ∧ True) (by kernel_rfl) ⟨trivial, trivial⟩ ?_
  refine VO.nil ?_
  show VW _ _ _ _ _ _ _
  refine VW.ret ?_
  replace h := Option.some.inj h
  subst h
  exact retR [] (by kernel_rfl) rfl

/- slices.IndexFunc[[]int,int] -/
def F153_j0 (N : Nat) : Option (Int) :=
  some (-1 : Int)
def F153_l0_b (N : Nat) (a0 : (List Int)) (p1 : Int → Option (Bool)) (nx29 : Int → Int → Option (Int)) (x23 : Int) (x24 : Int) : Option (Int) :=
  cond (decide (x24 < x23)) (gd (InR x24 a0.length) (andO (p1 (a0.getD x24.toNat (Ty.dflt (.int .i64)))) fun y33 => cond y33 (some x24) (nx29 x23 (IntKind.i64.wrap (x24 + (1 : Int)))))) (F153_j0 N)
def F153_l0 (N : Nat) (a0 : (List Int)) (p1 : Int → Option (Bool)) : Nat → Int → Int → Option (Int) := loopF (F153_l0_b N a0 p1) (fun _ _ => none)
theorem F153_l0_s (N : Nat) (a0 : (List Int)) (p1 : Int → Option (Bool)) {k : Nat} (hk : 0 < k) (x23 : Int) (x24 : Int) : F153_l0 N a0 p1 k x23 x24 = F153_l0_b N a0 p1 (F153_l0 N a0 p1 (k - 1)) x23 x24 := by
  cases k with
  | zero => exact absurd hk (Nat.lt_irrefl 0)
  | succ m => rfl
def F153 (N : Nat) (a0 : (List Int)) (p1 : Int → Option (Bool)) : Option (Int) :=
  F153_l0 N a0 p1 N (a0.length : Int) (0 : Int)
theorem ok153 (N : Nat) (a0 : (List Int)) (g1 : FuncId) (p1 : Int → Option (Bool)) (hp1 : ∀ (z0 : Int) (r : Bool), p1 z0 = some r → Con Go.Proofs.Try.prog g1 [I z0] [.lf (.v .bool r)]) {r : Int} (h : F153 N a0 p1 = some r) : Con Go.Proofs.Try.prog 153 [.lf (.v (.sl (.int .i64)) a0), .clo g1 []] [.lf (.v (.int .i64) r)] := by
  refine ⟨enters_of Go.Proofs.Try.func153 rfl (by decide), HC.intro [.lf (.v (.int .i64))] T_ok Go.Proofs.Try.func153 rfl (Nat.le_of_ble_eq_true rfl) (Nat.le_of_ble_eq_true rfl) fun w0 E0 => ?_⟩
  unfold F153 at h
  show VW _ _ _ _ _ (retQ _ _ _ _) _
  refine VW.seq ?_
  refine VW.region ?_
  refine VO.seg T_ok .dp 1 [0, 1] [] (s' := ⟨[(0, .lf (.v (.sl (.int .i64)) a0)), (1, .clo g1 [])], []⟩) (φ := True ∧ True) (by kernel_rfl) ⟨trivial, trivial⟩ ?_
  refine VO.nil ?_
  show VW _ _ _ _ _ _ _
  refine VW.join (fun s => s = ⟨[], []⟩ ∧ F153_j0 N = some r) ?_ ?_
  · refine VW.seq ?_
    refine VW.region ?_
    refine VO.seg T_ok .dp 3 [0, 1, 7, 8] [] (s' := ⟨[(0, .lf (.v (.sl (.int .i64)) a0)), (1, .clo g1 []), (7, I (a0.length : Int)), (8, I (0 : Int))], []⟩) (φ := True ∧ True ∧ True ∧ True) (by kernel_rfl) ⟨trivial, trivial, trivial, trivial⟩ ?_
    refine VO.nil ?_
    show VW _ _ _ _ _ _ _
    refine VW.block ?_
    refine VW.loopL (fun k s => ∃ (x23 : Int) (x24 : Int), s = ⟨[(0, .lf (.v (.sl (.int .i64)) a0)), (1, .clo g1 []), (7, I x23), (8, I x24)], []⟩ ∧ F153_l0 N a0 p1 k x23 x24 = some r) N [.ren [0, 1, 7, 8] []] (by kernel_rfl) ⟨(a0.length : Int), (0 : Int), rfl, h⟩ ?_
    rintro k29 s ⟨x23, x24, rfl, h⟩
    cases k29 with
    | zero => exact nomatch (show (none : Option (Int)) = some r from h)
    | succ k29 =>
      replace h : F153_l0_b N a0 p1 (F153_l0 N a0 p1 k29) x23 x24 = some r := h
      unfold F153_l0_b at h
      refine VW.seq ?_
      refine VW.region ?_
      refine VO.seg T_ok .dp 1 [0, 1, 7, 8, 9] [] (s' := ⟨[(0, .lf (.v (.sl (.int .i64)) a0)), (1, .clo g1 []), (7, I x23), (8, I x24), (9, B (decide (x24 < x23)))], []⟩) (φ := True ∧ True) (by kernel_rfl) ⟨trivial, trivial⟩ ?_
      refine VO.nil ?_
      show VW _ _ _ _ _ _ _
      refine VW.seq ?_
      refine VW.cond (b := (decide (x24 < x23))) (by kernel_rfl) (fun hb => ?_) (fun hb => ?_)
      · replace h := cond_t h hb; clear hb
        refine VW.skip ?_
        show VW _ _ _ _ _ _ _
        refine VW.seq ?_
        refine VW.block ?_
        refine VW.seq ?_
        refine VW.region ?_
        refine VO.seg T_ok .dp 2 [0, 1, 5, 7, 8] [] (s' := ⟨[(0, .lf (.v (.sl (.int .i64)) a0)), (1, .clo g1 []), (5, I x24), (7, I x23), (8, I x24)], []⟩) (φ := True ∧ True ∧ True) (by kernel_rfl) ⟨trivial, trivial, trivial⟩ ?_
        refine VO.nil ?_
        show VW _ _ _ _ _ _ _
        refine VW.seq ?_
        refine VW.region ?_
        obtain ⟨g32, h⟩ := gd_some h
        refine VO.seg T_ok .dp 5 [0, 1, 5, 7, 8, 11, 15] [] (s' := ⟨[(0, .lf (.v (.sl (.int .i64)) a0)), (1, .clo g1 []), (5, I x24), (7, I x23), (8, I x24), (11, .clo g1 []), (15, I (a0.getD x24.toNat (Ty.dflt (.int .i64))))], []⟩) (φ := True ∧ True ∧ True ∧ (InR x24 a0.length) ∧ True ∧ True) (by kernel_rfl) ⟨trivial, trivial, trivial, g32, trivial, trivial⟩ ?_
        obtain ⟨y33, hy, h⟩ := andO_some h
        refine VO.call false [.t (.int .i64)] [] T_ok (d := some 16) (by kernel_rfl) (hp1 _ _ hy) rfl ?_
        refine VO.seg T_ok .dp 0 [0, 1, 5, 7, 8, 16] [] (s' := ⟨[(0, .lf (.v (.sl (.int .i64)) a0)), (1, .clo g1 []), (5, I x24), (7, I x23), (8, I x24), (16, B y33)], []⟩) (φ := True) (by kernel_rfl) trivial ?_
        refine VO.nil ?_
        show VW _ _ _ _ _ _ _
        refine VW.cond (b := y33) (by kernel_rfl) (fun hb => ?_) (fun hb => ?_)
        · replace h := cond_t h hb; clear hb
          refine VW.seq ?_
          refine VW.region ?_
          refine VO.seg T_ok .dp 2 [4] [] (s' := ⟨[(4, I x24)], []⟩) (φ := True ∧ True ∧ True) (by kernel_rfl) ⟨trivial, trivial, trivial⟩ ?_
          refine VO.nil ?_
          show VW _ _ _ _ _ _ _
          refine VW.ret ?_
          replace h := Option.some.inj h
          subst h
          exact retR [] (by kernel_rfl) rfl
        · replace h := cond_f h hb; clear hb
          refine VW.skip ?_
          show VW _ _ _ _ _ _ _
          refine VW.region ?_
          refine VO.seg T_ok .dp 2 [0, 1, 7, 8] [] (s' := ⟨[(0, .lf (.v (.sl (.int .i64)) a0)), (1, .clo g1 []), (7, I x23), (8, I (IntKind.i64.wrap (x24 + (1 : Int))))], []⟩) (φ := True ∧ True ∧ True) (by kernel_rfl) ⟨trivial, trivial, trivial⟩ ?_
          refine VO.nil ?_
          exact around [.ren [0, 1, 7, 8] []] (by kernel_rfl) ⟨x23, (IntKind.i64.wrap (x24 + (1 : Int))), rfl, h⟩
      · replace h := cond_f h hb; clear hb
        refine VW.exit ?_
        exact arrive [.ren [] []] (by kernel_rfl) ⟨rfl, h⟩
  · rintro s ⟨rfl, h⟩
    unfold F153_j0 at h
    refine VW.seq ?_
    refine VW.region ?_
    refine VO.seg T_ok .dp 1 [4] [] (s' := ⟨[(4, I (-1 : Int))], []⟩) (φ := True ∧ True) (by kernel_rfl) ⟨trivial, trivial⟩ ?_
    refine VO.nil ?_
    show VW _ _ _ _ _ _ _
    refine VW.ret ?_
    replace h := Option.some.inj h
    subst h
    exact retR [] (by kernel_rfl) rfl

/- slices.ContainsFunc[[]int,int] -/
def F147 (N : Nat) (a0 : (List Int)) (p1 : Int → Option (Bool)) : Option (Bool) :=
  andO (F153 N a0 p1) fun y1 => some (decide (y1 ≥ (0 : Int)))
theorem ok147 (N : Nat) (a0 : (List Int)) (g1 : FuncId) (p1 : Int → Option (Bool)) (hp1 : ∀ (z0 : Int) (r : Bool), p1 z0 = some r → Con Go.Proofs.Try.prog g1 [I z0] [.lf (.v .bool r)]) {r : Bool} (h : F147 N a0 p1 = some r) : Con Go.Proofs.Try.prog 147 [.lf (.v (.sl (.int .i64)) a0), .clo g1 []] [.lf (.v .bool r)] := by
  refine ⟨enters_of Go.Proofs.Try.func147 rfl (by decide), HC.intro [.lf (.v .bool)] T_ok Go.Proofs.Try.func147 rfl (Nat.le_of_ble_eq_true rfl) (Nat.le_of_ble_eq_true rfl) fun w0 E0 => ?_⟩
  unfold F147 at h
  show VW _ _ _ _ _ (retQ _ _ _ _) _
  refine VW.seq ?_
  refine VW.region ?_
  refine VO.seg T_ok .dp 1 [0, 1] [] (s' := ⟨[(0, .lf (.v (.sl (.int .i64)) a0)), (1, .clo g1 [])], []⟩) (φ := True ∧ True) (by kernel_rfl) ⟨trivial, trivial⟩ ?_
  refine VO.nil ?_
  show VW _ _ _ _ _ _ _
  refine VW.seq ?_
  refine VW.region ?_
  refine VO.seg T_ok .dp 2 [5, 6] [] (s' := ⟨[(5, .lf (.v (.sl (.int .i64)) a0)), (6, .clo g1 [])], []⟩) (φ := True ∧ True ∧ True) (by kernel_rfl) ⟨trivial, trivial, trivial⟩ ?_
  obtain ⟨y1, hy, h⟩ := andO_some h
  refine VO.call false [.t (.sl (.int .i64)), .clo []] [] T_ok (d := some 7) (by kernel_rfl) (ok153 N _ g1  p1 hp1 hy) rfl ?_
  refine VO.seg T_ok .dp 2 [4] [] (s' := ⟨[(4, B (decide (y1 ≥ (0 : Int))))], []⟩) (φ := True ∧ True ∧ True) (by kernel_rfl) ⟨trivial, trivial, trivial⟩ ?_
  refine VO.nil ?_
  show VW _ _ _ _ _ _ _
  refine VW.ret ?_
  replace h := Option.some.inj h
  subst h
  exact retR [] (by kernel_rfl) rfl

/- loop.example/g00844/impl.NodeOk$1 -/
def F148 (N : Nat) (a0 : Int) : Option (Bool) :=
  andO (F145 N a0) fun y1 => some (!y1)
theorem ok148 (N : Nat) (a0 : Int) {r : Bool} (h : F148 N a0 = some r) : Con Go.Proofs.Try.prog 148 [I a0] [.lf (.v .bool r)] := by
  refine ⟨enters_of Go.Proofs.Try.func148 rfl (by decide), HC.intro [.lf (.v .bool)] T_ok Go.Proofs.Try.func148 rfl (Nat.le_of_ble_eq_true rfl) (Nat.le_of_ble_eq_true rfl) fun w0 E0 => ?_⟩
  unfold F148 at h
  show VW _ _ _ _ _ (retQ _ _ _ _) _
  refine VW.seq ?_
  refine VW.region ?_
  refine VO.seg T_ok .dp 1 [0] [] (s' := ⟨[(0, I a0)], []⟩) (φ := True ∧ True) (by kernel_rfl) ⟨trivial, trivial⟩ ?_
  refine VO.nil ?_
  show VW _ _ _ _ _ _ _
  refine VW.seq ?_
  refine VW.region ?_
  refine VO.seg T_ok .dp 1 [3] [] (s' := ⟨[(3, I a0)], []⟩) (φ := True ∧ True) (by kernel_rfl) ⟨trivial, trivial⟩ ?_
  obtain ⟨y1, hy, h⟩ := andO_some h
  refine VO.call false [.t (.int .i64)] [] T_ok (d := some 4) (by kernel_rfl) (ok145 N _ hy) rfl ?_
  refine VO.seg T_ok .dp 2 [2] [] (s' := ⟨[(2, B (!y1))], []⟩) (φ := True ∧ True ∧ True) (by kernel_rfl) ⟨trivial, trivial, trivial⟩ ?_
  refine VO.nil ?_
  show VW _ _ _ _ _ _ _
  refine VW.ret ?_
  replace h := Option.some.inj h
  subst h
  exact retR [] (by kernel_rfl) rfl

/- loop.example/g00844/impl.NodeOk -/
def F112_j0 (N : Nat) (x38 : ByteArray) (x39 : Int) (x40 : Int) (x41 : Int) (x42 : Bool) (x43 : (List Int)) (x44 : Bool) : Option (Bool) :=
  cond x44 (andO (F77 N ((0 : Int), (x38, (x39, (x40, (x41, (x42, x43)))))) ((0 : Int), (ByteArray.empty, ((0 : Int), ((0 : Int), ((0 : Int), (false, []))))))) fun y45 => some y45) (some false)
def F112_j1 (N : Nat) (x52 : ByteArray) (x53 : Int) (x54 : Int) (x55 : Int) (x56 : Bool) (x57 : (List Int)) (x58 : Bool) : Option (Bool) :=
  F112_j0 N x52 (0 : Int) (0 : Int) (0 : Int) false x57 x58
def F112_j2 (N : Nat) (x62 : ByteArray) (x63 : Int) (x64 : Int) (x65 : Int) (x66 : Bool) (x67 : (List Int)) : Option (Bool) :=
  F112_j0 N x62 (0 : Int) (0 : Int) (0 : Int) false x67 false
def F112_j3 (N : Nat) (x76 : ByteArray) (x77 : Int) (x78 : Int) (x79 : Int) (x80 : Bool) (x81 : (List Int)) (x82 : Bool) : Option (Bool) :=
  cond x82 (F112_j0 N x76 x77 x78 x79 x80 x81 true) (F112_j0 N x76 x77 x78 x79 x80 x81 false)
def F112 (N : Nat) (a0 : (Int × (ByteArray × (Int × (Int × (Int × (Bool × (List Int)))))))) : Option (Bool) :=
  cond (a0.1 == (0 : Int)) (andO (F136 N a0.2.1) fun y47 => F112_j0 N ByteArray.empty a0.2.2.1 a0.2.2.2.1 a0.2.2.2.2.1 a0.2.2.2.2.2.1 a0.2.2.2.2.2.2 y47) (cond (a0.1 == (1 : Int)) (andO (F145 N a0.2.2.1) fun y48 => cond y48 (andO (F54 N a0.2.2.2.1 (0 : Int) (3 : Int)) fun y49 => cond (a0.2.2.2.1 == (3 : Int)) (cond y49 (cond (a0.2.2.2.2.1 == (0 : Int)) (F112_j1 N a0.2.1 a0.2.2.1 a0.2.2.2.1 a0.2.2.2.2.1 a0.2.2.2.2.2.1 a0.2.2.2.2.2.2 (!a0.2.2.2.2.2.1)) (F112_j1 N a0.2.1 a0.2.2.1 a0.2.2.2.1 a0.2.2.2.2.1 a0.2.2.2.2.2.1 a0.2.2.2.2.2.2 false)) (F112_j1 N a0.2.1 a0.2.2.1 a0.2.2.2.1 a0.2.2.2.2.1 a0.2.2.2.2.2.1 a0.2.2.2.2.2.2 false)) (cond a0.2.2.2.2.2.1 (cond y49 (andO (F146 N a0.2.2.2.2.1) fun y60 => F112_j1 N a0.2.1 a0.2.2.1 a0.2.2.2.1 a0.2.2.2.2.1 a0.2.2.2.2.2.1 a0.2.2.2.2.2.2 y60) (F112_j1 N a0.2.1 a0.2.2.1 a0.2.2.2.1 a0.2.2.2.2.1 a0.2.2.2.2.2.1 a0.2.2.2.2.2.2 false)) (cond y49 (andO (F114 N a0.2.2.2.2.1) fun y61 => F112_j1 N a0.2.1 a0.2.2.1 a0.2.2.2.1 a0.2.2.2.2.1 a0.2.2.2.2.2.1 a0.2.2.2.2.2.2 y61) (F112_j1 N a0.2.1 a0.2.2.1 a0.2.2.2.1 a0.2.2.2.2.1 a0.2.2.2.2.2.1 a0.2.2.2.2.2.2 false)))) (cond (a0.2.2.2.1 == (3 : Int)) (F112_j2 N a0.2.1 a0.2.2.1 a0.2.2.2.1 a0.2.2.2.2.1 a0.2.2.2.2.2.1 a0.2.2.2.2.2.2) (cond a0.2.2.2.2.2.1 (F112_j2 N a0.2.1 a0.2.2.1 a0.2.2.2.1 a0.2.2.2.2.1 a0.2.2.2.2.2.1 a0.2.2.2.2.2.2) (F112_j2 N a0.2.1 a0.2.2.1 a0.2.2.2.1 a0.2.2.2.2.1 a0.2.2.2.2.2.1 a0.2.2.2.2.2.2)))) (cond (a0.1 == (2 : Int)) (andO (F54 N (a0.2.2.2.2.2.2.length : Int) (1 : Int) (6 : Int)) fun y69 => cond y69 (andO (F147 N a0.2.2.2.2.2.2 (fun z0 => F148 N z0)) fun y70 => F112_j0 N a0.2.1 a0.2.2.1 a0.2.2.2.1 a0.2.2.2.2.1 a0.2.2.2.2.2.1 ([]) (!y70)) (F112_j0 N a0.2.1 a0.2.2.1 a0.2.2.2.1 a0.2.2.2.2.1 a0.2.2.2.2.2.1 ([]) false)) (cond (a0.1 == (3 : Int)) (andO (F145 N a0.2.2.1) fun y71 => cond y71 (andO (F145 N a0.2.2.2.2.1) fun y72 => F112_j0 N a0.2.1 (0 : Int) a0.2.2.2.1 (0 : Int) a0.2.2.2.2.2.1 a0.2.2.2.2.2.2 y72) (F112_j0 N a0.2.1 (0 : Int) a0.2.2.2.1 (0 : Int) a0.2.2.2.2.2.1 a0.2.2.2.2.2.2 false)) (cond (a0.1 == (5 : Int)) (andO (F145 N a0.2.2.1) fun y73 => F112_j0 N a0.2.1 (0 : Int) a0.2.2.2.1 a0.2.2.2.2.1 a0.2.2.2.2.2.1 a0.2.2.2.2.2.2 y73) (cond (a0.1 == (6 : Int)) (andO (F54 N a0.2.2.2.2.1 (0 : Int) (1000000 : Int)) fun y74 => cond y74 (cond (!a0.2.2.2.2.2.1) (F112_j0 N a0.2.1 a0.2.2.1 a0.2.2.2.1 (0 : Int) false a0.2.2.2.2.2.2 true) (andO (F146 N a0.2.2.2.2.1) fun y75 => F112_j0 N a0.2.1 a0.2.2.1 a0.2.2.2.1 (0 : Int) false a0.2.2.2.2.2.2 y75)) (F112_j0 N a0.2.1 a0.2.2.1 a0.2.2.2.1 (0 : Int) false a0.2.2.2.2.2.2 false)) (cond (a0.1 == (4 : Int)) (F112_j3 N a0.2.1 a0.2.2.1 a0.2.2.2.1 a0.2.2.2.2.1 a0.2.2.2.2.2.1 a0.2.2.2.2.2.2 (a0.1 == (4 : Int))) (F112_j3 N a0.2.1 a0.2.2.1 a0.2.2.2.1 a0.2.2.2.2.1 a0.2.2.2.2.2.1 a0.2.2.2.2.2.2 (a0.1 == (7 : Int)))))))))
theorem ok112 (N : Nat) (a0 : (Int × (ByteArray × (Int × (Int × (Int × (Bool × (List Int)))))))) {r : Bool} (h : F112 N a0 = some r) : Con Go.Proofs.Try.prog 112 [.agg [.v (.int .i64) a0.1, .v .str a0.2.1, .v (.int .i64) a0.2.2.1, .v (.int .i64) a0.2.2.2.1, .v (.int .i64) a0.2.2.2.2.1, .v .bool a0.2.2.2.2.2.1, .v (.sl (.int .i64)) a0.2.2.2.2.2.2]] [.lf (.v .bool r)] := by
  refine ⟨enters_of Go.Proofs.Try.func112 rfl (by decide), HC.intro [.lf (.v .bool)] T_ok Go.Proofs.Try.func112 rfl (Nat.le_of_ble_eq_true rfl) (Nat.le_of_ble_eq_true rfl) fun w0 E0 => ?_⟩
  unfold F112 at h
  show VW _ _ _ _ _ (retQ _ _ _ _) _
  refine VW.seq ?_
  refine VW.region ?_
  refine VO.seg T_ok .dp 2 [1] [0] (s' := ⟨[(1, .lf (.ptr 0 0 0 0))], [bx [.v (.int .i64) a0.1, .v .str a0.2.1, .v (.int .i64) a0.2.2.1, .v (.int .i64) a0.2.2.2.1, .v (.int .i64) a0.2.2.2.2.1, .v .bool a0.2.2.2.2.2.1, .v (.sl (.int .i64)) a0.2.2.2.2.2.2] 90]⟩) (φ := True ∧ True ∧ True) (by kernel_rfl) ⟨trivial, trivial, trivial⟩ ?_
  refine VO.nil ?_
  show VW _ _ _ _ _ _ _
  refine VW.seq ?_
  refine VW.region ?_
  refine VO.seg T_ok .dp 3 [1, 3] [0, 1] (s' := ⟨[(1, .lf (.ptr 0 0 0 0)), (3, .lf (.ptr 1 0 0 0))], [bx [.v (.int .i64) a0.1, .v .str a0.2.1, .v (.int .i64) a0.2.2.1, .v (.int .i64) a0.2.2.2.1, .v (.int .i64) a0.2.2.2.2.1, .v .bool a0.2.2.2.2.2.1, .v (.sl (.int .i64)) a0.2.2.2.2.2.2] 90, bx [.v (.int .i64) a0.1, .v .str a0.2.1, .v (.int .i64) a0.2.2.1, .v (.int .i64) a0.2.2.2.1, .v (.int .i64) a0.2.2.2.2.1, .v .bool a0.2.2.2.2.2.1, .v (.sl (.int .i64)) a0.2.2.2.2.2.2] 90]⟩) (φ := True ∧ True ∧ True ∧ True) (by kernel_rfl) ⟨trivial, trivial, trivial, trivial⟩ ?_
  refine VO.nil ?_
  show VW _ _ _ _ _ _ _
  refine VW.seq ?_
  refine VW.region ?_
  refine VO.seg T_ok .dp 2 [1, 3] [0, 1] (s' := ⟨[(1, .lf (.ptr 0 0 0 0)), (3, .lf (.ptr 1 0 0 0))], [bx [.v (.int .i64) a0.1, .v .str a0.2.1, .v (.int .i64) a0.2.2.1, .v (.int .i64) a0.2.2.2.1, .v (.int .i64) a0.2.2.2.2.1, .v .bool a0.2.2.2.2.2.1, .v (.sl (.int .i64)) a0.2.2.2.2.2.2] 90, bx [.v (.int .i64) (0 : Int), .v .str a0.2.1, .v (.int .i64) a0.2.2.1, .v (.int .i64) a0.2.2.2.1, .v (.int .i64) a0.2.2.2.2.1, .v .bool a0.2.2.2.2.2.1, .v (.sl (.int .i64)) a0.2.2.2.2.2.2] 90]⟩) (φ := True ∧ True ∧ True) (by kernel_rfl) ⟨trivial, trivial, trivial⟩ ?_
  refine VO.nil ?_
  show VW _ _ _ _ _ _ _
  refine VW.seq ?_
  refine VW.region ?_
  refine VO.seg T_ok .dp 1 [1, 3, 4] [0, 1] (s' := ⟨[(1, .lf (.ptr 0 0 0 0)), (3, .lf (.ptr 1 0 0 0)), (4, B false)], [bx [.v (.int .i64) a0.1, .v .str a0.2.1, .v (.int .i64) a0.2.2.1, .v (.int .i64) a0.2.2.2.1, .v (.int .i64) a0.2.2.2.2.1, .v .bool a0.2.2.2.2.2.1, .v (.sl (.int .i64)) a0.2.2.2.2.2.2] 90, bx [.v (.int .i64) (0 : Int), .v .str a0.2.1, .v (.int .i64) a0.2.2.1, .v (.int .i64) a0.2.2.2.1, .v (.int .i64) a0.2.2.2.2.1, .v .bool a0.2.2.2.2.2.1, .v (.sl (.int .i64)) a0.2.2.2.2.2.2] 90]⟩) (φ := True ∧ True) (by kernel_rfl) ⟨trivial, trivial⟩ ?_
  refine VO.nil ?_
  show VW _ _ _ _ _ _ _
  refine VW.join (fun s => ∃ (x38 : ByteArray) (x39 : Int) (x40 : Int) (x41 : Int) (x42 : Bool) (x43 : (List Int)) (x44 : Bool), s = ⟨[(3, .lf (.ptr 0 0 0 0)), (4, B x44)], [bx [.v (.int .i64) (0 : Int), .v .str x38, .v (.int .i64) x39, .v (.int .i64) x40, .v (.int .i64) x41, .v .bool x42, .v (.sl (.int .i64)) x43] 90]⟩ ∧ F112_j0 N x38 x39 x40 x41 x42 x43 x44 = some r) ?_ ?_
  · refine VW.seq ?_
    refine VW.region ?_
    refine VO.seg T_ok .dp 2 [1, 3, 4, 8] [0, 1] (s' := ⟨[(1, .lf (.ptr 0 0 0 0)), (3, .lf (.ptr 1 0 0 0)), (4, B false), (8, I a0.1)], [bx [.v (.int .i64) a0.1, .v .str a0.2.1, .v (.int .i64) a0.2.2.1, .v (.int .i64) a0.2.2.2.1, .v (.int .i64) a0.2.2.2.2.1, .v .bool a0.2.2.2.2.2.1, .v (.sl (.int .i64)) a0.2.2.2.2.2.2] 90, bx [.v (.int .i64) (0 : Int), .v .str a0.2.1, .v (.int .i64) a0.2.2.1, .v (.int .i64) a0.2.2.2.1, .v (.int .i64) a0.2.2.2.2.1, .v .bool a0.2.2.2.2.2.1, .v (.sl (.int .i64)) a0.2.2.2.2.2.2] 90]⟩) (φ := True ∧ True ∧ True) (by kernel_rfl) ⟨trivial, trivial, trivial⟩ ?_
    refine VO.nil ?_
    show VW _ _ _ _ _ _ _
    refine VW.block ?_
    refine VW.seq ?_
    refine VW.region ?_
    refine VO.seg T_ok .dp 2 [1, 3, 4, 8, 9] [0, 1] (s' := ⟨[(1, .lf (.ptr 0 0 0 0)), (3, .lf (.ptr 1 0 0 0)), (4, B false), (8, I a0.1), (9, B (a0.1 == (0 : Int)))], [bx [.v (.int .i64) a0.1, .v .str a0.2.1, .v (.int .i64) a0.2.2.1, .v (.int .i64) a0.2.2.2.1, .v (.int .i64) a0.2.2.2.2.1, .v .bool a0.2.2.2.2.2.1, .v (.sl (.int .i64)) a0.2.2.2.2.2.2] 90, bx [.v (.int .i64) (0 : Int), .v .str a0.2.1, .v (.int .i64) a0.2.2.1, .v (.int .i64) a0.2.2.2.1, .v (.int .i64) a0.2.2.2.2.1, .v .bool a0.2.2.2.2.2.1, .v (.sl (.int .i64)) a0.2.2.2.2.2.2] 90]⟩) (φ := True ∧ True ∧ True) (by kernel_rfl) ⟨trivial, trivial, trivial⟩ ?_
    refine VO.nil ?_
    show VW _ _ _ _ _ _ _
    refine VW.cond (b := (a0.1 == (0 : Int))) (by kernel_rfl) (fun hb => ?_) (fun hb => ?_)
    · replace h := cond_t h hb; clear hb
      refine VW.seq ?_
      refine VW.region ?_
      refine VO.seg T_ok .dp 2 [3, 12] [1] (s' := ⟨[(3, .lf (.ptr 0 0 0 0)), (12, S a0.2.1)], [bx [.v (.int .i64) (0 : Int), .v .str a0.2.1, .v (.int .i64) a0.2.2.1, .v (.int .i64) a0.2.2.2.1, .v (.int .i64) a0.2.2.2.2.1, .v .bool a0.2.2.2.2.2.1, .v (.sl (.int .i64)) a0.2.2.2.2.2.2] 90]⟩) (φ := True ∧ True ∧ True) (by kernel_rfl) ⟨trivial, trivial, trivial⟩ ?_
      obtain ⟨y47, hy, h⟩ := andO_some h
      refine VO.call false [.t .str] [] T_ok (d := some 13) (by kernel_rfl) (ok136 N _ hy) rfl ?_
      refine VO.seg T_ok .dp 1 [3, 4] [0] (s' := ⟨[(3, .lf (.ptr 0 0 0 0)), (4, B y47)], [bx [.v (.int .i64) (0 : Int), .v .str a0.2.1, .v (.int .i64) a0.2.2.1, .v (.int .i64) a0.2.2.2.1, .v (.int .i64) a0.2.2.2.2.1, .v .bool a0.2.2.2.2.2.1, .v (.sl (.int .i64)) a0.2.2.2.2.2.2] 90]⟩) (φ := True ∧ True) (by kernel_rfl) ⟨trivial, trivial⟩ ?_
      refine VO.nil ?_
      show VW _ _ _ _ _ _ _
      refine VW.region ?_
      refine VO.seg T_ok .dp 2 [3, 4] [0] (s' := ⟨[(3, .lf (.ptr 0 0 0 0)), (4, B y47)], [bx [.v (.int .i64) (0 : Int), .v .str ByteArray.empty, .v (.int .i64) a0.2.2.1, .v (.int .i64) a0.2.2.2.1, .v (.int .i64) a0.2.2.2.2.1, .v .bool a0.2.2.2.2.2.1, .v (.sl (.int .i64)) a0.2.2.2.2.2.2] 90]⟩) (φ := True ∧ True ∧ True) (by kernel_rfl) ⟨trivial, trivial, trivial⟩ ?_
      refine VO.nil ?_
      exact arrive [.ren [3, 4] [0]] (by kernel_rfl) ⟨ByteArray.empty, a0.2.2.1, a0.2.2.2.1, a0.2.2.2.2.1, a0.2.2.2.2.2.1, a0.2.2.2.2.2.2, y47, rfl, h⟩
    · replace h := cond_f h hb; clear hb
      refine VW.seq ?_
      refine VW.region ?_
      refine VO.seg T_ok .dp 2 [1, 3, 4, 8, 15] [0, 1] (s' := ⟨[(1, .lf (.ptr 0 0 0 0)), (3, .lf (.ptr 1 0 0 0)), (4, B false), (8, I a0.1), (15, B (a0.1 == (1 : Int)))], [bx [.v (.int .i64) a0.1, .v .str a0.2.1, .v (.int .i64) a0.2.2.1, .v (.int .i64) a0.2.2.2.1, .v (.int .i64) a0.2.2.2.2.1, .v .bool a0.2.2.2.2.2.1, .v (.sl (.int .i64)) a0.2.2.2.2.2.2] 90, bx [.v (.int .i64) (0 : Int), .v .str a0.2.1, .v (.int .i64) a0.2.2.1, .v (.int .i64) a0.2.2.2.1, .v (.int .i64) a0.2.2.2.2.1, .v .bool a0.2.2.2.2.2.1, .v (.sl (.int .i64)) a0.2.2.2.2.2.2] 90]⟩) (φ := True ∧ True ∧ True) (by kernel_rfl) ⟨trivial, trivial, trivial⟩ ?_
      refine VO.nil ?_
      show VW _ _ _ _ _ _ _
      refine VW.cond (b := (a0.1 == (1 : Int))) (by kernel_rfl) (fun hb => ?_) (fun hb => ?_)
      · replace h := cond_t h hb; clear hb
        refine VW.seq ?_
        refine VW.region ?_
        refine VO.seg T_ok .dp 2 [1, 3, 18] [0, 1] (s' := ⟨[(1, .lf (.ptr 0 0 0 0)), (3, .lf (.ptr 1 0 0 0)), (18, I a0.2.2.1)], [bx [.v (.int .i64) a0.1, .v .str a0.2.1, .v (.int .i64) a0.2.2.1, .v (.int .i64) a0.2.2.2.1, .v (.int .i64) a0.2.2.2.2.1, .v .bool a0.2.2.2.2.2.1, .v (.sl (.int .i64)) a0.2.2.2.2.2.2] 90, bx [.v (.int .i64) (0 : Int), .v .str a0.2.1, .v (.int .i64) a0.2.2.1, .v (.int .i64) a0.2.2.2.1, .v (.int .i64) a0.2.2.2.2.1, .v .bool a0.2.2.2.2.2.1, .v (.sl (.int .i64)) a0.2.2.2.2.2.2] 90]⟩) (φ := True ∧ True ∧ True) (by kernel_rfl) ⟨trivial, trivial, trivial⟩ ?_
        obtain ⟨y48, hy, h⟩ := andO_some h
        refine VO.call false [.t (.int .i64)] [] T_ok (d := some 19) (by kernel_rfl) (ok145 N _ hy) rfl ?_
        refine VO.seg T_ok .dp 1 [1, 3, 20] [0, 1] (s' := ⟨[(1, .lf (.ptr 0 0 0 0)), (3, .lf (.ptr 1 0 0 0)), (20, B y48)], [bx [.v (.int .i64) a0.1, .v .str a0.2.1, .v (.int .i64) a0.2.2.1, .v (.int .i64) a0.2.2.2.1, .v (.int .i64) a0.2.2.2.2.1, .v .bool a0.2.2.2.2.2.1, .v (.sl (.int .i64)) a0.2.2.2.2.2.2] 90, bx [.v (.int .i64) (0 : Int), .v .str a0.2.1, .v (.int .i64) a0.2.2.1, .v (.int .i64) a0.2.2.2.1, .v (.int .i64) a0.2.2.2.2.1, .v .bool a0.2.2.2.2.2.1, .v (.sl (.int .i64)) a0.2.2.2.2.2.2] 90]⟩) (φ := True ∧ True) (by kernel_rfl) ⟨trivial, trivial⟩ ?_
        refine VO.splitB 20 (b := y48) (by kernel_rfl) (fun hb => ?_) (fun hb => ?_)
        · replace h := cond_t h hb; clear hb
          refine VO.seg T_ok .dp 2 [1, 3, 20, 22] [0, 1] (s' := ⟨[(1, .lf (.ptr 0 0 0 0)), (3, .lf (.ptr 1 0 0 0)), (20, B true), (22, I a0.2.2.2.1)], [bx [.v (.int .i64) a0.1, .v .str a0.2.1, .v (.int .i64) a0.2.2.1, .v (.int .i64) a0.2.2.2.1, .v (.int .i64) a0.2.2.2.2.1, .v .bool a0.2.2.2.2.2.1, .v (.sl (.int .i64)) a0.2.2.2.2.2.2] 90, bx [.v (.int .i64) (0 : Int), .v .str a0.2.1, .v (.int .i64) a0.2.2.1, .v (.int .i64) a0.2.2.2.1, .v (.int .i64) a0.2.2.2.2.1, .v .bool a0.2.2.2.2.2.1, .v (.sl (.int .i64)) a0.2.2.2.2.2.2] 90]⟩) (φ := True ∧ True ∧ True) (by kernel_rfl) ⟨trivial, trivial, trivial⟩ ?_
          refine VO.on (j := 3) (want := true) (d := 20) (b := true) rfl rfl rfl (by kernel_rfl) rfl ?_
          obtain ⟨y49, hy, h⟩ := andO_some h
          refine VO.call false [.t (.int .i64), .t (.int .i64), .t (.int .i64)] [] T_ok (d := some 23) (by kernel_rfl) (ok54 N _ _ _ hy) rfl ?_
          refine VO.seg T_ok .dp 2 [1, 3, 4] [0, 1] (s' := ⟨[(1, .lf (.ptr 0 0 0 0)), (3, .lf (.ptr 1 0 0 0)), (4, B y49)], [bx [.v (.int .i64) a0.1, .v .str a0.2.1, .v (.int .i64) a0.2.2.1, .v (.int .i64) a0.2.2.2.1, .v (.int .i64) a0.2.2.2.2.1, .v .bool a0.2.2.2.2.2.1, .v (.sl (.int .i64)) a0.2.2.2.2.2.2] 90, bx [.v (.int .i64) (0 : Int), .v .str a0.2.1, .v (.int .i64) a0.2.2.1, .v (.int .i64) a0.2.2.2.1, .v (.int .i64) a0.2.2.2.2.1, .v .bool a0.2.2.2.2.2.1, .v (.sl (.int .i64)) a0.2.2.2.2.2.2] 90]⟩) (φ := True ∧ True ∧ True) (by kernel_rfl) ⟨trivial, trivial, trivial⟩ ?_
          refine VO.nil ?_
          show VW _ _ _ _ _ _ _
          refine VW.join (fun s => ∃ (x52 : ByteArray) (x53 : Int) (x54 : Int) (x55 : Int) (x56 : Bool) (x57 : (List Int)) (x58 : Bool), s = ⟨[(3, .lf (.ptr 0 0 0 0)), (4, B x58)], [bx [.v (.int .i64) (0 : Int), .v .str x52, .v (.int .i64) x53, .v (.int .i64) x54, .v (.int .i64) x55, .v .bool x56, .v (.sl (.int .i64)) x57] 90]⟩ ∧ F112_j1 N x52 x53 x54 x55 x56 x57 x58 = some r) ?_ ?_
          · refine VW.block ?_
            refine VW.seq ?_
            refine VW.region ?_
            refine VO.seg T_ok .dp 4 [1, 3, 4, 31] [0, 1] (s' := ⟨[(1, .lf (.ptr 0 0 0 0)), (3, .lf (.ptr 1 0 0 0)), (4, B y49), (31, B (a0.2.2.2.1 == (3 : Int)))], [bx [.v (.int .i64) a0.1, .v .str a0.2.1, .v (.int .i64) a0.2.2.1, .v (.int .i64) a0.2.2.2.1, .v (.int .i64) a0.2.2.2.2.1, .v .bool a0.2.2.2.2.2.1, .v (.sl (.int .i64)) a0.2.2.2.2.2.2] 90, bx [.v (.int .i64) (0 : Int), .v .str a0.2.1, .v (.int .i64) a0.2.2.1, .v (.int .i64) a0.2.2.2.1, .v (.int .i64) a0.2.2.2.2.1, .v .bool a0.2.2.2.2.2.1, .v (.sl (.int .i64)) a0.2.2.2.2.2.2] 90]⟩) (φ := True ∧ True ∧ True ∧ True ∧ True) (by kernel_rfl) ⟨trivial, trivial, trivial, trivial, trivial⟩ ?_
            refine VO.nil ?_
            show VW _ _ _ _ _ _ _
            refine VW.cond (b := (a0.2.2.2.1 == (3 : Int))) (by kernel_rfl) (fun hb => ?_) (fun hb => ?_)
            · replace h := cond_t h hb; clear hb
              refine VW.region ?_
              refine VO.seg T_ok .dp 2 [1, 3, 36] [0, 1] (s' := ⟨[(1, .lf (.ptr 0 0 0 0)), (3, .lf (.ptr 1 0 0 0)), (36, B y49)], [bx [.v (.int .i64) a0.1, .v .str a0.2.1, .v (.int .i64) a0.2.2.1, .v (.int .i64) a0.2.2.2.1, .v (.int .i64) a0.2.2.2.2.1, .v .bool a0.2.2.2.2.2.1, .v (.sl (.int .i64)) a0.2.2.2.2.2.2] 90, bx [.v (.int .i64) (0 : Int), .v .str a0.2.1, .v (.int .i64) a0.2.2.1, .v (.int .i64) a0.2.2.2.1, .v (.int .i64) a0.2.2.2.2.1, .v .bool a0.2.2.2.2.2.1, .v (.sl (.int .i64)) a0.2.2.2.2.2.2] 90]⟩) (φ := True ∧ True ∧ True) (by kernel_rfl) ⟨trivial, trivial, trivial⟩ ?_
              refine VO.splitB 36 (b := y49) (by kernel_rfl) (fun hb => ?_) (fun hb => ?_)
              · replace h := cond_t h hb; clear hb
                refine VO.seg T_ok .dp 5 [1, 3, 41] [0, 1] (s' := ⟨[(1, .lf (.ptr 0 0 0 0)), (3, .lf (.ptr 1 0 0 0)), (41, B (a0.2.2.2.2.1 == (0 : Int)))], [bx [.v (.int .i64) a0.1, .v .str a0.2.1, .v (.int .i64) a0.2.2.1, .v (.int .i64) a0.2.2.2.1, .v (.int .i64) a0.2.2.2.2.1, .v .bool a0.2.2.2.2.2.1, .v (.sl (.int .i64)) a0.2.2.2.2.2.2] 90, bx [.v (.int .i64) (0 : Int), .v .str a0.2.1, .v (.int .i64) a0.2.2.1, .v (.int .i64) a0.2.2.2.1, .v (.int .i64) a0.2.2.2.2.1, .v .bool a0.2.2.2.2.2.1, .v (.sl (.int .i64)) a0.2.2.2.2.2.2] 90]⟩) (φ := True ∧ True ∧ True ∧ True ∧ True ∧ True) (by kernel_rfl) ⟨trivial, trivial, trivial, trivial, trivial, trivial⟩ ?_
                refine VO.splitB 41 (b := (a0.2.2.2.2.1 == (0 : Int))) (by kernel_rfl) (fun hb => ?_) (fun hb => ?_)
                · replace h := cond_t h hb; clear hb
                  refine VO.seg T_ok .dp 5 [3, 4] [1] (s' := ⟨[(3, .lf (.ptr 0 0 0 0)), (4, B (!a0.2.2.2.2.2.1))], [bx [.v (.int .i64) (0 : Int), .v .str a0.2.1, .v (.int .i64) a0.2.2.1, .v (.int .i64) a0.2.2.2.1, .v (.int .i64) a0.2.2.2.2.1, .v .bool a0.2.2.2.2.2.1, .v (.sl (.int .i64)) a0.2.2.2.2.2.2] 90]⟩) (φ := True ∧ True ∧ True ∧ True ∧ True ∧ True) (by kernel_rfl) ⟨trivial, trivial, trivial, trivial, trivial, trivial⟩ ?_
                  refine VO.nil ?_
                  exact arrive [.ren [3, 4] [0]] (by kernel_rfl) ⟨a0.2.1, a0.2.2.1, a0.2.2.2.1, a0.2.2.2.2.1, a0.2.2.2.2.2.1, a0.2.2.2.2.2.2, (!a0.2.2.2.2.2.1), rfl, h⟩
                · replace h := cond_f h hb; clear hb
                  refine VO.seg T_ok .dp 5 [3, 4] [1] (s' := ⟨[(3, .lf (.ptr 0 0 0 0)), (4, B false)], [bx [.v (.int .i64) (0 : Int), .v .str a0.2.1, .v (.int .i64) a0.2.2.1, .v (.int .i64) a0.2.2.2.1, .v (.int .i64) a0.2.2.2.2.1, .v .bool a0.2.2.2.2.2.1, .v (.sl (.int .i64)) a0.2.2.2.2.2.2] 90]⟩) (φ := True ∧ True ∧ True ∧ True ∧ True ∧ True) (by kernel_rfl) ⟨trivial, trivial, trivial, trivial, trivial, trivial⟩ ?_
                  refine VO.nil ?_
                  exact arrive [.ren [3, 4] [0]] (by kernel_rfl) ⟨a0.2.1, a0.2.2.1, a0.2.2.2.1, a0.2.2.2.2.1, a0.2.2.2.2.2.1, a0.2.2.2.2.2.2, false, rfl, h⟩
              · replace h := cond_f h hb; clear hb
                refine VO.seg T_ok .dp 10 [3, 4] [1] (s' := ⟨[(3, .lf (.ptr 0 0 0 0)), (4, B false)], [bx [.v (.int .i64) (0 : Int), .v .str a0.2.1, .v (.int .i64) a0.2.2.1, .v (.int .i64) a0.2.2.2.1, .v (.int .i64) a0.2.2.2.2.1, .v .bool a0.2.2.2.2.2.1, .v (.sl (.int .i64)) a0.2.2.2.2.2.2] 90]⟩) (φ := True ∧ True ∧ True ∧ True ∧ True ∧ True ∧ True ∧ True ∧ True ∧ True ∧ True) (by kernel_rfl) ⟨trivial, trivial, trivial, trivial, trivial, trivial, trivial, trivial, trivial, trivial, trivial⟩ ?_
                refine VO.nil ?_
                exact arrive [.ren [3, 4] [0]] (by kernel_rfl) ⟨a0.2.1, a0.2.2.1, a0.2.2.2.1, a0.2.2.2.2.1, a0.2.2.2.2.2.1, a0.2.2.2.2.2.2, false, rfl, h⟩
            · replace h := cond_f h hb; clear hb
              refine VW.seq ?_
              refine VW.region ?_
              refine VO.seg T_ok .dp 3 [1, 3, 4, 46] [0, 1] (s' := ⟨[(1, .lf (.ptr 0 0 0 0)), (3, .lf (.ptr 1 0 0 0)), (4, B y49), (46, B a0.2.2.2.2.2.1)], [bx [.v (.int .i64) a0.1, .v .str a0.2.1, .v (.int .i64) a0.2.2.1, .v (.int .i64) a0.2.2.2.1, .v (.int .i64) a0.2.2.2.2.1, .v .bool a0.2.2.2.2.2.1, .v (.sl (.int .i64)) a0.2.2.2.2.2.2] 90, bx [.v (.int .i64) (0 : Int), .v .str a0.2.1, .v (.int .i64) a0.2.2.1, .v (.int .i64) a0.2.2.2.1, .v (.int .i64) a0.2.2.2.2.1, .v .bool a0.2.2.2.2.2.1, .v (.sl (.int .i64)) a0.2.2.2.2.2.2] 90]⟩) (φ := True ∧ True ∧ True ∧ True) (by kernel_rfl) ⟨trivial, trivial, trivial, trivial⟩ ?_
              refine VO.nil ?_
              show VW _ _ _ _ _ _ _
              refine VW.cond (b := a0.2.2.2.2.2.1) (by kernel_rfl) (fun hb => ?_) (fun hb => ?_)
              · replace h := cond_t h hb; clear hb
                refine VW.region ?_
                refine VO.seg T_ok .dp 2 [1, 3, 50] [0, 1] (s' := ⟨[(1, .lf (.ptr 0 0 0 0)), (3, .lf (.ptr 1 0 0 0)), (50, B y49)], [bx [.v (.int .i64) a0.1, .v .str a0.2.1, .v (.int .i64) a0.2.2.1, .v (.int .i64) a0.2.2.2.1, .v (.int .i64) a0.2.2.2.2.1, .v .bool a0.2.2.2.2.2.1, .v (.sl (.int .i64)) a0.2.2.2.2.2.2] 90, bx [.v (.int .i64) (0 : Int), .v .str a0.2.1, .v (.int .i64) a0.2.2.1, .v (.int .i64) a0.2.2.2.1, .v (.int .i64) a0.2.2.2.2.1, .v .bool a0.2.2.2.2.2.1, .v (.sl (.int .i64)) a0.2.2.2.2.2.2] 90]⟩) (φ := True ∧ True ∧ True) (by kernel_rfl) ⟨trivial, trivial, trivial⟩ ?_
                refine VO.splitB 50 (b := y49) (by kernel_rfl) (fun hb => ?_) (fun hb => ?_)
                · replace h := cond_t h hb; clear hb
                  refine VO.seg T_ok .dp 2 [3, 50, 52] [1] (s' := ⟨[(3, .lf (.ptr 0 0 0 0)), (50, B true), (52, I a0.2.2.2.2.1)], [bx [.v (.int .i64) (0 : Int), .v .str a0.2.1, .v (.int .i64) a0.2.2.1, .v (.int .i64) a0.2.2.2.1, .v (.int .i64) a0.2.2.2.2.1, .v .bool a0.2.2.2.2.2.1, .v (.sl (.int .i64)) a0.2.2.2.2.2.2] 90]⟩) (φ := True ∧ True ∧ True) (by kernel_rfl) ⟨trivial, trivial, trivial⟩ ?_
                  refine VO.on (j := 1) (want := true) (d := 50) (b := true) rfl rfl rfl (by kernel_rfl) rfl ?_
                  obtain ⟨y60, hy, h⟩ := andO_some h
                  refine VO.call false [.t (.int .i64)] [] T_ok (d := some 53) (by kernel_rfl) (ok146 N _ hy) rfl ?_
                  refine VO.seg T_ok .dp 2 [3, 4] [0] (s' := ⟨[(3, .lf (.ptr 0 0 0 0)), (4, B y60)], [bx [.v (.int .i64) (0 : Int), .v .str a0.2.1, .v (.int .i64) a0.2.2.1, .v (.int .i64) a0.2.2.2.1, .v (.int .i64) a0.2.2.2.2.1, .v .bool a0.2.2.2.2.2.1, .v (.sl (.int .i64)) a0.2.2.2.2.2.2] 90]⟩) (φ := True ∧ True ∧ True) (by kernel_rfl) ⟨trivial, trivial, trivial⟩ ?_
                  refine VO.nil ?_
                  exact arrive [.ren [3, 4] [0]] (by kernel_rfl) ⟨a0.2.1, a0.2.2.1, a0.2.2.2.1, a0.2.2.2.2.1, a0.2.2.2.2.2.1, a0.2.2.2.2.2.2, y60, rfl, h⟩
                · replace h := cond_f h hb; clear hb
                  refine VO.seg T_ok .dp 5 [3, 4] [1] (s' := ⟨[(3, .lf (.ptr 0 0 0 0)), (4, B false)], [bx [.v (.int .i64) (0 : Int), .v .str a0.2.1, .v (.int .i64) a0.2.2.1, .v (.int .i64) a0.2.2.2.1, .v (.int .i64) a0.2.2.2.2.1, .v .bool a0.2.2.2.2.2.1, .v (.sl (.int .i64)) a0.2.2.2.2.2.2] 90]⟩) (φ := True ∧ True ∧ True ∧ True ∧ True ∧ True) (by kernel_rfl) ⟨trivial, trivial, trivial, trivial, trivial, trivial⟩ ?_
                  refine VO.nil ?_
                  exact arrive [.ren [3, 4] [0]] (by kernel_rfl) ⟨a0.2.1, a0.2.2.1, a0.2.2.2.1, a0.2.2.2.2.1, a0.2.2.2.2.2.1, a0.2.2.2.2.2.2, false, rfl, h⟩
              · replace h := cond_f h hb; clear hb
                refine VW.region ?_
                refine VO.seg T_ok .dp 2 [1, 3, 26] [0, 1] (s' := ⟨[(1, .lf (.ptr 0 0 0 0)), (3, .lf (.ptr 1 0 0 0)), (26, B y49)], [bx [.v (.int .i64) a0.1, .v .str a0.2.1, .v (.int .i64) a0.2.2.1, .v (.int .i64) a0.2.2.2.1, .v (.int .i64) a0.2.2.2.2.1, .v .bool a0.2.2.2.2.2.1, .v (.sl (.int .i64)) a0.2.2.2.2.2.2] 90, bx [.v (.int .i64) (0 : Int), .v .str a0.2.1, .v (.int .i64) a0.2.2.1, .v (.int .i64) a0.2.2.2.1, .v (.int .i64) a0.2.2.2.2.1, .v .bool a0.2.2.2.2.2.1, .v (.sl (.int .i64)) a0.2.2.2.2.2.2] 90]⟩) (φ := True ∧ True ∧ True) (by kernel_rfl) ⟨trivial, trivial, trivial⟩ ?_
                refine VO.splitB 26 (b := y49) (by kernel_rfl) (fun hb => ?_) (fun hb => ?_)
                · replace h := cond_t h hb; clear hb
                  refine VO.seg T_ok .dp 2 [3, 26, 28] [1] (s' := ⟨[(3, .lf (.ptr 0 0 0 0)), (26, B true), (28, I a0.2.2.2.2.1)], [bx [.v (.int .i64) (0 : Int), .v .str a0.2.1, .v (.int .i64) a0.2.2.1, .v (.int .i64) a0.2.2.2.1, .v (.int .i64) a0.2.2.2.2.1, .v .bool a0.2.2.2.2.2.1, .v (.sl (.int .i64)) a0.2.2.2.2.2.2] 90]⟩) (φ := True ∧ True ∧ True) (by kernel_rfl) ⟨trivial, trivial, trivial⟩ ?_
                  refine VO.on (j := 1) (want := true) (d := 26) (b := true) rfl rfl rfl (by kernel_rfl) rfl ?_
                  obtain ⟨y61, hy, h⟩ := andO_some h
                  refine VO.call false [.t (.int .i64)] [] T_ok (d := some 29) (by kernel_rfl) (ok114 N _ hy) rfl ?_
                  refine VO.seg T_ok .dp 2 [3, 4] [0] (s' := ⟨[(3, .lf (.ptr 0 0 0 0)), (4, B y61)], [bx [.v (.int .i64) (0 : Int), .v .str a0.2.1, .v (.int .i64) a0.2.2.1, .v (.int .i64) a0.2.2.2.1, .v (.int .i64) a0.2.2.2.2.1, .v .bool a0.2.2.2.2.2.1, .v (.sl (.int .i64)) a0.2.2.2.2.2.2] 90]⟩) (φ := True ∧ True ∧ True) (by kernel_rfl) ⟨trivial, trivial, trivial⟩ ?_
                  refine VO.nil ?_
                  exact arrive [.ren [3, 4] [0]] (by kernel_rfl) ⟨a0.2.1, a0.2.2.1, a0.2.2.2.1, a0.2.2.2.2.1, a0.2.2.2.2.2.1, a0.2.2.2.2.2.2, y61, rfl, h⟩
                · replace h := cond_f h hb; clear hb
                  refine VO.seg T_ok .dp 5 [3, 4] [1] (s' := ⟨[(3, .lf (.ptr 0 0 0 0)), (4, B false)], [bx [.v (.int .i64) (0 : Int), .v .str a0.2.1, .v (.int .i64) a0.2.2.1, .v (.int .i64) a0.2.2.2.1, .v (.int .i64) a0.2.2.2.2.1, .v .bool a0.2.2.2.2.2.1, .v (.sl (.int .i64)) a0.2.2.2.2.2.2] 90]⟩) (φ := True ∧ True ∧ True ∧ True ∧ True ∧ True) (by kernel_rfl) ⟨trivial, trivial, trivial, trivial, trivial, trivial⟩ ?_
                  refine VO.nil ?_
                  exact arrive [.ren [3, 4] [0]] (by kernel_rfl) ⟨a0.2.1, a0.2.2.1, a0.2.2.2.1, a0.2.2.2.2.1, a0.2.2.2.2.2.1, a0.2.2.2.2.2.2, false, rfl, h⟩
          · rintro s ⟨x52, x53, x54, x55, x56, x57, x58, rfl, h⟩
            unfold F112_j1 at h
            refine VW.region ?_
            refine VO.seg T_ok .dp 8 [3, 4] [0] (s' := ⟨[(3, .lf (.ptr 0 0 0 0)), (4, B x58)], [bx [.v (.int .i64) (0 : Int), .v .str x52, .v (.int .i64) (0 : Int), .v (.int .i64) (0 : Int), .v (.int .i64) (0 : Int), .v .bool false, .v (.sl (.int .i64)) x57] 90]⟩) (φ := True ∧ True ∧ True ∧ True ∧ True ∧ True ∧ True ∧ True ∧ True) (by kernel_rfl) ⟨trivial, trivial, trivial, trivial, trivial, trivial, trivial, trivial, trivial⟩ ?_
            refine VO.nil ?_
            exact arrive [.ren [3, 4] [0]] (by kernel_rfl) ⟨x52, (0 : Int), (0 : Int), (0 : Int), false, x57, x58, rfl, h⟩
        · replace h := cond_f h hb; clear hb
          refine VO.seg T_ok .dp 5 [1, 3, 4] [0, 1] (s' := ⟨[(1, .lf (.ptr 0 0 0 0)), (3, .lf (.ptr 1 0 0 0)), (4, B false)], [bx [.v (.int .i64) a0.1, .v .str a0.2.1, .v (.int .i64) a0.2.2.1, .v (.int .i64) a0.2.2.2.1, .v (.int .i64) a0.2.2.2.2.1, .v .bool a0.2.2.2.2.2.1, .v (.sl (.int .i64)) a0.2.2.2.2.2.2] 90, bx [.v (.int .i64) (0 : Int), .v .str a0.2.1, .v (.int .i64) a0.2.2.1, .v (.int .i64) a0.2.2.2.1, .v (.int .i64) a0.2.2.2.2.1, .v .bool a0.2.2.2.2.2.1, .v (.sl (.int .i64)) a0.2.2.2.2.2.2] 90]⟩) (φ := True ∧ True ∧ True ∧ True ∧ True ∧ True) (by kernel_rfl) ⟨trivial, trivial, trivial, trivial, trivial, trivial⟩ ?_
          refine VO.nil ?_
          show VW _ _ _ _ _ _ _
          refine VW.join (fun s => ∃ (x62 : ByteArray) (x63 : Int) (x64 : Int) (x65 : Int) (x66 : Bool) (x67 : (List Int)), s = ⟨[(3, .lf (.ptr 0 0 0 0)), (4, B false)], [bx [.v (.int .i64) (0 : Int), .v .str x62, .v (.int .i64) x63, .v (.int .i64) x64, .v (.int .i64) x65, .v .bool x66, .v (.sl (.int .i64)) x67] 90]⟩ ∧ F112_j2 N x62 x63 x64 x65 x66 x67 = some r) ?_ ?_
          · refine VW.block ?_
            refine VW.seq ?_
            refine VW.region ?_
            refine VO.seg T_ok .dp 4 [1, 3, 4, 31] [0, 1] (s' := ⟨[(1, .lf (.ptr 0 0 0 0)), (3, .lf (.ptr 1 0 0 0)), (4, B false), (31, B (a0.2.2.2.1 == (3 : Int)))], [bx [.v (.int .i64) a0.1, .v .str a0.2.1, .v (.int .i64) a0.2.2.1, .v (.int .i64) a0.2.2.2.1, .v (.int .i64) a0.2.2.2.2.1, .v .bool a0.2.2.2.2.2.1, .v (.sl (.int .i64)) a0.2.2.2.2.2.2] 90, bx [.v (.int .i64) (0 : Int), .v .str a0.2.1, .v (.int .i64) a0.2.2.1, .v (.int .i64) a0.2.2.2.1, .v (.int .i64) a0.2.2.2.2.1, .v .bool a0.2.2.2.2.2.1, .v (.sl (.int .i64)) a0.2.2.2.2.2.2] 90]⟩) (φ := True ∧ True ∧ True ∧ True ∧ True) (by kernel_rfl) ⟨trivial, trivial, trivial, trivial, trivial⟩ ?_
            refine VO.nil ?_
            show VW _ _ _ _ _ _ _
            refine VW.cond (b := (a0.2.2.2.1 == (3 : Int))) (by kernel_rfl) (fun hb => ?_) (fun hb => ?_)
            · replace h := cond_t h hb; clear hb
              refine VW.region ?_
              refine VO.seg T_ok .dp 12 [3, 4] [1] (s' := ⟨[(3, .lf (.ptr 0 0 0 0)), (4, B false)], [bx [.v (.int .i64) (0 : Int), .v .str a0.2.1, .v (.int .i64) a0.2.2.1, .v (.int .i64) a0.2.2.2.1, .v (.int .i64) a0.2.2.2.2.1, .v .bool a0.2.2.2.2.2.1, .v (.sl (.int .i64)) a0.2.2.2.2.2.2] 90]⟩) (φ := True ∧ True ∧ True ∧ True ∧ True ∧ True ∧ True ∧ True ∧ True ∧ True ∧ True ∧ True ∧ True) (by kernel_rfl) ⟨trivial, trivial, trivial, trivial, trivial, trivial, trivial, trivial, trivial, trivial, trivial, trivial, trivial⟩ ?_
              refine VO.nil ?_
              exact arrive [.ren [3, 4] [0]] (by kernel_rfl) ⟨a0.2.1, a0.2.2.1, a0.2.2.2.1, a0.2.2.2.2.1, a0.2.2.2.2.2.1, a0.2.2.2.2.2.2, rfl, h⟩
            · replace h := cond_f h hb; clear hb
              refine VW.seq ?_
              refine VW.region ?_
              refine VO.seg T_ok .dp 3 [1, 3, 4, 46] [0, 1] (s' := ⟨[(1, .lf (.ptr 0 0 0 0)), (3, .lf (.ptr 1 0 0 0)), (4, B false), (46, B a0.2.2.2.2.2.1)], [bx [.v (.int .i64) a0.1, .v .str a0.2.1, .v (.int .i64) a0.2.2.1, .v (.int .i64) a0.2.2.2.1, .v (.int .i64) a0.2.2.2.2.1, .v .bool a0.2.2.2.2.2.1, .v (.sl (.int .i64)) a0.2.2.2.2.2.2] 90, bx [.v (.int .i64) (0 : Int), .v .str a0.2.1, .v (.int .i64) a0.2.2.1, .v (.int .i64) a0.2.2.2.1, .v (.int .i64) a0.2.2.2.2.1, .v .bool a0.2.2.2.2.2.1, .v (.sl (.int .i64)) a0.2.2.2.2.2.2] 90]⟩) (φ := True ∧ True ∧ True ∧ True) (by kernel_rfl) ⟨trivial, trivial, trivial, trivial⟩ ?_
              refine VO.nil ?_
              show VW _ _ _ _ _ _ _
              refine VW.cond (b := a0.2.2.2.2.2.1) (by kernel_rfl) (fun hb => ?_) (fun hb => ?_)
              · replace h := cond_t h hb; clear hb
                refine VW.region ?_
                refine VO.seg T_ok .dp 7 [3, 4] [1] (s' := ⟨[(3, .lf (.ptr 0 0 0 0)), (4, B false)], [bx [.v (.int .i64) (0 : Int), .v .str a0.2.1, .v (.int .i64) a0.2.2.1, .v (.int .i64) a0.2.2.2.1, .v (.int .i64) a0.2.2.2.2.1, .v .bool a0.2.2.2.2.2.1, .v (.sl (.int .i64)) a0.2.2.2.2.2.2] 90]⟩) (φ := True ∧ True ∧ True ∧ True ∧ True ∧ True ∧ True ∧ True) (by kernel_rfl) ⟨trivial, trivial, trivial, trivial, trivial, trivial, trivial, trivial⟩ ?_
                refine VO.nil ?_
                exact arrive [.ren [3, 4] [0]] (by kernel_rfl) ⟨a0.2.1, a0.2.2.1, a0.2.2.2.1, a0.2.2.2.2.1, a0.2.2.2.2.2.1, a0.2.2.2.2.2.2, rfl, h⟩
              · replace h := cond_f h hb; clear hb
                refine VW.region ?_
                refine VO.seg T_ok .dp 7 [3, 4] [1] (s' := ⟨[(3, .lf (.ptr 0 0 0 0)), (4, B false)], [bx [.v (.int .i64) (0 : Int), .v .str a0.2.1, .v (.int .i64) a0.2.2.1, .v (.int .i64) a0.2.2.2.1, .v (.int .i64) a0.2.2.2.2.1, .v .bool a0.2.2.2.2.2.1, .v (.sl (.int .i64)) a0.2.2.2.2.2.2] 90]⟩) (φ := True ∧ True ∧ True ∧ True ∧ True ∧ True ∧ True ∧ True) (by kernel_rfl) ⟨trivial, trivial, trivial, trivial, trivial, trivial, trivial, trivial⟩ ?_
                refine VO.nil ?_
                exact arrive [.ren [3, 4] [0]] (by kernel_rfl) ⟨a0.2.1, a0.2.2.1, a0.2.2.2.1, a0.2.2.2.2.1, a0.2.2.2.2.2.1, a0.2.2.2.2.2.2, rfl, h⟩
          · rintro s ⟨x62, x63, x64, x65, x66, x67, rfl, h⟩
            unfold F112_j2 at h
            refine VW.region ?_
            refine VO.seg T_ok .dp 8 [3, 4] [0] (s' := ⟨[(3, .lf (.ptr 0 0 0 0)), (4, B false)], [bx [.v (.int .i64) (0 : Int), .v .str x62, .v (.int .i64) (0 : Int), .v (.int .i64) (0 : Int), .v (.int .i64) (0 : Int), .v .bool false, .v (.sl (.int .i64)) x67] 90]⟩) (φ := True ∧ True ∧ True ∧ True ∧ True ∧ True ∧ True ∧ True ∧ True) (by kernel_rfl) ⟨trivial, trivial, trivial, trivial, trivial, trivial, trivial, trivial, trivial⟩ ?_
            refine VO.nil ?_
            exact arrive [.ren [3, 4] [0]] (by kernel_rfl) ⟨x62, (0 : Int), (0 : Int), (0 : Int), false, x67, false, rfl, h⟩
      · replace h := cond_f h hb; clear hb
        refine VW.seq ?_
        refine VW.region ?_
        refine VO.seg T_ok .dp 2 [1, 3, 4, 8, 59] [0, 1] (s' := ⟨[(1, .lf (.ptr 0 0 0 0)), (3, .lf (.ptr 1 0 0 0)), (4, B false), (8, I a0.1), (59, B (a0.1 == (2 : Int)))], [bx [.v (.int .i64) a0.1, .v .str a0.2.1, .v (.int .i64) a0.2.2.1, .v (.int .i64) a0.2.2.2.1, .v (.int .i64) a0.2.2.2.2.1, .v .bool a0.2.2.2.2.2.1, .v (.sl (.int .i64)) a0.2.2.2.2.2.2] 90, bx [.v (.int .i64) (0 : Int), .v .str a0.2.1, .v (.int .i64) a0.2.2.1, .v (.int .i64) a0.2.2.2.1, .v (.int .i64) a0.2.2.2.2.1, .v .bool a0.2.2.2.2.2.1, .v (.sl (.int .i64)) a0.2.2.2.2.2.2] 90]⟩) (φ := True ∧ True ∧ True) (by kernel_rfl) ⟨trivial, trivial, trivial⟩ ?_
        refine VO.nil ?_
        show VW _ _ _ _ _ _ _
        refine VW.cond (b := (a0.1 == (2 : Int))) (by kernel_rfl) (fun hb => ?_) (fun hb => ?_)
        · replace h := cond_t h hb; clear hb
          refine VW.seq ?_
          refine VW.region ?_
          refine VO.seg T_ok .dp 3 [1, 3, 63] [0, 1] (s' := ⟨[(1, .lf (.ptr 0 0 0 0)), (3, .lf (.ptr 1 0 0 0)), (63, I (a0.2.2.2.2.2.2.length : Int))], [bx [.v (.int .i64) a0.1, .v .str a0.2.1, .v (.int .i64) a0.2.2.1, .v (.int .i64) a0.2.2.2.1, .v (.int .i64) a0.2.2.2.2.1, .v .bool a0.2.2.2.2.2.1, .v (.sl (.int .i64)) a0.2.2.2.2.2.2] 90, bx [.v (.int .i64) (0 : Int), .v .str a0.2.1, .v (.int .i64) a0.2.2.1, .v (.int .i64) a0.2.2.2.1, .v (.int .i64) a0.2.2.2.2.1, .v .bool a0.2.2.2.2.2.1, .v (.sl (.int .i64)) a0.2.2.2.2.2.2] 90]⟩) (φ := True ∧ True ∧ True ∧ True) (by kernel_rfl) ⟨trivial, trivial, trivial, trivial⟩ ?_
          obtain ⟨y69, hy, h⟩ := andO_some h
          refine VO.call false [.t (.int .i64), .t (.int .i64), .t (.int .i64)] [] T_ok (d := some 64) (by kernel_rfl) (ok54 N _ _ _ hy) rfl ?_
          refine VO.seg T_ok .dp 1 [1, 3, 65] [0, 1] (s' := ⟨[(1, .lf (.ptr 0 0 0 0)), (3, .lf (.ptr 1 0 0 0)), (65, B y69)], [bx [.v (.int .i64) a0.1, .v .str a0.2.1, .v (.int .i64) a0.2.2.1, .v (.int .i64) a0.2.2.2.1, .v (.int .i64) a0.2.2.2.2.1, .v .bool a0.2.2.2.2.2.1, .v (.sl (.int .i64)) a0.2.2.2.2.2.2] 90, bx [.v (.int .i64) (0 : Int), .v .str a0.2.1, .v (.int .i64) a0.2.2.1, .v (.int .i64) a0.2.2.2.1, .v (.int .i64) a0.2.2.2.2.1, .v .bool a0.2.2.2.2.2.1, .v (.sl (.int .i64)) a0.2.2.2.2.2.2] 90]⟩) (φ := True ∧ True) (by kernel_rfl) ⟨trivial, trivial⟩ ?_
          refine VO.splitB 65 (b := y69) (by kernel_rfl) (fun hb => ?_) (fun hb => ?_)
          · replace h := cond_t h hb; clear hb
            refine VO.seg T_ok .dp 2 [3, 65, 67] [1] (s' := ⟨[(3, .lf (.ptr 0 0 0 0)), (65, B true), (67, .lf (.v (.sl (.int .i64)) a0.2.2.2.2.2.2))], [bx [.v (.int .i64) (0 : Int), .v .str a0.2.1, .v (.int .i64) a0.2.2.1, .v (.int .i64) a0.2.2.2.1, .v (.int .i64) a0.2.2.2.2.1, .v .bool a0.2.2.2.2.2.1, .v (.sl (.int .i64)) a0.2.2.2.2.2.2] 90]⟩) (φ := True ∧ True ∧ True) (by kernel_rfl) ⟨trivial, trivial, trivial⟩ ?_
            refine VO.on (j := 4) (want := true) (d := 65) (b := true) rfl rfl rfl (by kernel_rfl) rfl ?_
            obtain ⟨y70, hy, h⟩ := andO_some h
            refine VO.call false [.t (.sl (.int .i64)), .clo []] [] T_ok (d := some 68) (by kernel_rfl) (ok147 N _ 148  (fun z0 => F148 N z0 ) (fun z0 _ hz => ok148 N z0 hz) hy) rfl ?_
            refine VO.seg T_ok .dp 3 [3, 4] [0] (s' := ⟨[(3, .lf (.ptr 0 0 0 0)), (4, B (!y70))], [bx [.v (.int .i64) (0 : Int), .v .str a0.2.1, .v (.int .i64) a0.2.2.1, .v (.int .i64) a0.2.2.2.1, .v (.int .i64) a0.2.2.2.2.1, .v .bool a0.2.2.2.2.2.1, .v (.sl (.int .i64)) a0.2.2.2.2.2.2] 90]⟩) (φ := True ∧ True ∧ True ∧ True) (by kernel_rfl) ⟨trivial, trivial, trivial, trivial⟩ ?_
            refine VO.nil ?_
            show VW _ _ _ _ _ _ _
            refine VW.region ?_
            refine VO.seg T_ok .dp 2 [3, 4] [0] (s' := ⟨[(3, .lf (.ptr 0 0 0 0)), (4, B (!y70))], [bx [.v (.int .i64) (0 : Int), .v .str a0.2.1, .v (.int .i64) a0.2.2.1, .v (.int .i64) a0.2.2.2.1, .v (.int .i64) a0.2.2.2.2.1, .v .bool a0.2.2.2.2.2.1, .nil] 90]⟩) (φ := True ∧ True ∧ True) (by kernel_rfl) ⟨trivial, trivial, trivial⟩ ?_
            refine VO.nil ?_
            exact arrive [.nilB 0 6 (.int .i64), .ren [3, 4] [0]] (by kernel_rfl) ⟨a0.2.1, a0.2.2.1, a0.2.2.2.1, a0.2.2.2.2.1, a0.2.2.2.2.2.1, [], (!y70), rfl, h⟩
          · replace h := cond_f h hb; clear hb
            refine VO.seg T_ok .dp 6 [3, 4] [1] (s' := ⟨[(3, .lf (.ptr 0 0 0 0)), (4, B false)], [bx [.v (.int .i64) (0 : Int), .v .str a0.2.1, .v (.int .i64) a0.2.2.1, .v (.int .i64) a0.2.2.2.1, .v (.int .i64) a0.2.2.2.2.1, .v .bool a0.2.2.2.2.2.1, .v (.sl (.int .i64)) a0.2.2.2.2.2.2] 90]⟩) (φ := True ∧ True ∧ True ∧ True ∧ True ∧ True ∧ True) (by kernel_rfl) ⟨trivial, trivial, trivial, trivial, trivial, trivial, trivial⟩ ?_
            refine VO.nil ?_
            show VW _ _ _ _ _ _ _
            refine VW.region ?_
            refine VO.seg T_ok .dp 2 [3, 4] [0] (s' := ⟨[(3, .lf (.ptr 0 0 0 0)), (4, B false)], [bx [.v (.int .i64) (0 : Int), .v .str a0.2.1, .v (.int .i64) a0.2.2.1, .v (.int .i64) a0.2.2.2.1, .v (.int .i64) a0.2.2.2.2.1, .v .bool a0.2.2.2.2.2.1, .nil] 90]⟩) (φ := True ∧ True ∧ True) (by kernel_rfl) ⟨trivial, trivial, trivial⟩ ?_
            refine VO.nil ?_
            exact arrive [.nilB 0 6 (.int .i64), .ren [3, 4] [0]] (by kernel_rfl) ⟨a0.2.1, a0.2.2.1, a0.2.2.2.1, a0.2.2.2.2.1, a0.2.2.2.2.2.1, [], false, rfl, h⟩
        · replace h := cond_f h hb; clear hb
          refine VW.seq ?_
          refine VW.region ?_
          refine VO.seg T_ok .dp 2 [1, 3, 4, 8, 72] [0, 1] (s' := ⟨[(1, .lf (.ptr 0 0 0 0)), (3, .lf (.ptr 1 0 0 0)), (4, B false), (8, I a0.1), (72, B (a0.1 == (3 : Int)))], [bx [.v (.int .i64) a0.1, .v .str a0.2.1, .v (.int .i64) a0.2.2.1, .v (.int .i64) a0.2.2.2.1, .v (.int .i64) a0.2.2.2.2.1, .v .bool a0.2.2.2.2.2.1, .v (.sl (.int .i64)) a0.2.2.2.2.2.2] 90, bx [.v (.int .i64) (0 : Int), .v .str a0.2.1, .v (.int .i64) a0.2.2.1, .v (.int .i64) a0.2.2.2.1, .v (.int .i64) a0.2.2.2.2.1, .v .bool a0.2.2.2.2.2.1, .v (.sl (.int .i64)) a0.2.2.2.2.2.2] 90]⟩) (φ := True ∧ True ∧ True) (by kernel_rfl) ⟨trivial, trivial, trivial⟩ ?_
          refine VO.nil ?_
          show VW _ _ _ _ _ _ _
          refine VW.cond (b := (a0.1 == (3 : Int))) (by kernel_rfl) (fun hb => ?_) (fun hb => ?_)
          · replace h := cond_t h hb; clear hb
            refine VW.seq ?_
            refine VW.region ?_
            refine VO.seg T_ok .dp 2 [1, 3, 75] [0, 1] (s' := ⟨[(1, .lf (.ptr 0 0 0 0)), (3, .lf (.ptr 1 0 0 0)), (75, I a0.2.2.1)], [bx [.v (.int .i64) a0.1, .v .str a0.2.1, .v (.int .i64) a0.2.2.1, .v (.int .i64) a0.2.2.2.1, .v (.int .i64) a0.2.2.2.2.1, .v .bool a0.2.2.2.2.2.1, .v (.sl (.int .i64)) a0.2.2.2.2.2.2] 90, bx [.v (.int .i64) (0 : Int), .v .str a0.2.1, .v (.int .i64) a0.2.2.1, .v (.int .i64) a0.2.2.2.1, .v (.int .i64) a0.2.2.2.2.1, .v .bool a0.2.2.2.2.2.1, .v (.sl (.int .i64)) a0.2.2.2.2.2.2] 90]⟩) (φ := True ∧ True ∧ True) (by kernel_rfl) ⟨trivial, trivial, trivial⟩ ?_
            obtain ⟨y71, hy, h⟩ := andO_some h
            refine VO.call false [.t (.int .i64)] [] T_ok (d := some 76) (by kernel_rfl) (ok145 N _ hy) rfl ?_
            refine VO.seg T_ok .dp 1 [1, 3, 77] [0, 1] (s' := ⟨[(1, .lf (.ptr 0 0 0 0)), (3, .lf (.ptr 1 0 0 0)), (77, B y71)], [bx [.v (.int .i64) a0.1, .v .str a0.2.1, .v (.int .i64) a0.2.2.1, .v (.int .i64) a0.2.2.2.1, .v (.int .i64) a0.2.2.2.2.1, .v .bool a0.2.2.2.2.2.1, .v (.sl (.int .i64)) a0.2.2.2.2.2.2] 90, bx [.v (.int .i64) (0 : Int), .v .str a0.2.1, .v (.int .i64) a0.2.2.1, .v (.int .i64) a0.2.2.2.1, .v (.int .i64) a0.2.2.2.2.1, .v .bool a0.2.2.2.2.2.1, .v (.sl (.int .i64)) a0.2.2.2.2.2.2] 90]⟩) (φ := True ∧ True) (by kernel_rfl) ⟨trivial, trivial⟩ ?_
            refine VO.splitB 77 (b := y71) (by kernel_rfl) (fun hb => ?_) (fun hb => ?_)
            · replace h := cond_t h hb; clear hb
              refine VO.seg T_ok .dp 2 [3, 77, 79] [1] (s' := ⟨[(3, .lf (.ptr 0 0 0 0)), (77, B true), (79, I a0.2.2.2.2.1)], [bx [.v (.int .i64) (0 : Int), .v .str a0.2.1, .v (.int .i64) a0.2.2.1, .v (.int .i64) a0.2.2.2.1, .v (.int .i64) a0.2.2.2.2.1, .v .bool a0.2.2.2.2.2.1, .v (.sl (.int .i64)) a0.2.2.2.2.2.2] 90]⟩) (φ := True ∧ True ∧ True) (by kernel_rfl) ⟨trivial, trivial, trivial⟩ ?_
              refine VO.on (j := 3) (want := true) (d := 77) (b := true) rfl rfl rfl (by kernel_rfl) rfl ?_
              obtain ⟨y72, hy, h⟩ := andO_some h
              refine VO.call false [.t (.int .i64)] [] T_ok (d := some 80) (by kernel_rfl) (ok145 N _ hy) rfl ?_
              refine VO.seg T_ok .dp 2 [3, 4] [0] (s' := ⟨[(3, .lf (.ptr 0 0 0 0)), (4, B y72)], [bx [.v (.int .i64) (0 : Int), .v .str a0.2.1, .v (.int .i64) a0.2.2.1, .v (.int .i64) a0.2.2.2.1, .v (.int .i64) a0.2.2.2.2.1, .v .bool a0.2.2.2.2.2.1, .v (.sl (.int .i64)) a0.2.2.2.2.2.2] 90]⟩) (φ := True ∧ True ∧ True) (by kernel_rfl) ⟨trivial, trivial, trivial⟩ ?_
              refine VO.nil ?_
              show VW _ _ _ _ _ _ _
              refine VW.region ?_
              refine VO.seg T_ok .dp 4 [3, 4] [0] (s' := ⟨[(3, .lf (.ptr 0 0 0 0)), (4, B y72)], [bx [.v (.int .i64) (0 : Int), .v .str a0.2.1, .v (.int .i64) (0 : Int), .v (.int .i64) a0.2.2.2.1, .v (.int .i64) (0 : Int), .v .bool a0.2.2.2.2.2.1, .v (.sl (.int .i64)) a0.2.2.2.2.2.2] 90]⟩) (φ := True ∧ True ∧ True ∧ True ∧ True) (by kernel_rfl) ⟨trivial, trivial, trivial, trivial, trivial⟩ ?_
              refine VO.nil ?_
              exact arrive [.ren [3, 4] [0]] (by kernel_rfl) ⟨a0.2.1, (0 : Int), a0.2.2.2.1, (0 : Int), a0.2.2.2.2.2.1, a0.2.2.2.2.2.2, y72, rfl, h⟩
            · replace h := cond_f h hb; clear hb
              refine VO.seg T_ok .dp 5 [3, 4] [1] (s' := ⟨[(3, .lf (.ptr 0 0 0 0)), (4, B false)], [bx [.v (.int .i64) (0 : Int), .v .str a0.2.1, .v (.int .i64) a0.2.2.1, .v (.int .i64) a0.2.2.2.1, .v (.int .i64) a0.2.2.2.2.1, .v .bool a0.2.2.2.2.2.1, .v (.sl (.int .i64)) a0.2.2.2.2.2.2] 90]⟩) (φ := True ∧ True ∧ True ∧ True ∧ True ∧ True) (by kernel_rfl) ⟨trivial, trivial, trivial, trivial, trivial, trivial⟩ ?_
              refine VO.nil ?_
              show VW _ _ _ _ _ _ _
              refine VW.region ?_
              refine VO.seg T_ok .dp 4 [3, 4] [0] (s' := ⟨[(3, .lf (.ptr 0 0 0 0)), (4, B false)], [bx [.v (.int .i64) (0 : Int), .v .str a0.2.1, .v (.int .i64) (0 : Int), .v (.int .i64) a0.2.2.2.1, .v (.int .i64) (0 : Int), .v .bool a0.2.2.2.2.2.1, .v (.sl (.int .i64)) a0.2.2.2.2.2.2] 90]⟩) (φ := True ∧ True ∧ True ∧ True ∧ True) (by kernel_rfl) ⟨trivial, trivial, trivial, trivial, trivial⟩ ?_
              refine VO.nil ?_
              exact arrive [.ren [3, 4] [0]] (by kernel_rfl) ⟨a0.2.1, (0 : Int), a0.2.2.2.1, (0 : Int), a0.2.2.2.2.2.1, a0.2.2.2.2.2.2, false, rfl, h⟩
          · replace h := cond_f h hb; clear hb
            refine VW.seq ?_
            refine VW.region ?_
            refine VO.seg T_ok .dp 2 [1, 3, 4, 8, 84] [0, 1] (s' := ⟨[(1, .lf (.ptr 0 0 0 0)), (3, .lf (.ptr 1 0 0 0)), (4, B false), (8, I a0.1), (84, B (a0.1 == (5 : Int)))], [bx [.v (.int .i64) a0.1, .v .str a0.2.1, .v (.int .i64) a0.2.2.1, .v (.int .i64) a0.2.2.2.1, .v (.int .i64) a0.2.2.2.2.1, .v .bool a0.2.2.2.2.2.1, .v (.sl (.int .i64)) a0.2.2.2.2.2.2] 90, bx [.v (.int .i64) (0 : Int), .v .str a0.2.1, .v (.int .i64) a0.2.2.1, .v (.int .i64) a0.2.2.2.1, .v (.int .i64) a0.2.2.2.2.1, .v .bool a0.2.2.2.2.2.1, .v (.sl (.int .i64)) a0.2.2.2.2.2.2] 90]⟩) (φ := True ∧ True ∧ True) (by kernel_rfl) ⟨trivial, trivial, trivial⟩ ?_
            refine VO.nil ?_
            show VW _ _ _ _ _ _ _
            refine VW.cond (b := (a0.1 == (5 : Int))) (by kernel_rfl) (fun hb => ?_) (fun hb => ?_)
            · replace h := cond_t h hb; clear hb
              refine VW.seq ?_
              refine VW.region ?_
              refine VO.seg T_ok .dp 2 [3, 87] [1] (s' := ⟨[(3, .lf (.ptr 0 0 0 0)), (87, I a0.2.2.1)], [bx [.v (.int .i64) (0 : Int), .v .str a0.2.1, .v (.int .i64) a0.2.2.1, .v (.int .i64) a0.2.2.2.1, .v (.int .i64) a0.2.2.2.2.1, .v .bool a0.2.2.2.2.2.1, .v (.sl (.int .i64)) a0.2.2.2.2.2.2] 90]⟩) (φ := True ∧ True ∧ True) (by kernel_rfl) ⟨trivial, trivial, trivial⟩ ?_
              obtain ⟨y73, hy, h⟩ := andO_some h
              refine VO.call false [.t (.int .i64)] [] T_ok (d := some 88) (by kernel_rfl) (ok145 N _ hy) rfl ?_
              refine VO.seg T_ok .dp 1 [3, 4] [0] (s' := ⟨[(3, .lf (.ptr 0 0 0 0)), (4, B y73)], [bx [.v (.int .i64) (0 : Int), .v .str a0.2.1, .v (.int .i64) a0.2.2.1, .v (.int .i64) a0.2.2.2.1, .v (.int .i64) a0.2.2.2.2.1, .v .bool a0.2.2.2.2.2.1, .v (.sl (.int .i64)) a0.2.2.2.2.2.2] 90]⟩) (φ := True ∧ True) (by kernel_rfl) ⟨trivial, trivial⟩ ?_
              refine VO.nil ?_
              show VW _ _ _ _ _ _ _
              refine VW.region ?_
              refine VO.seg T_ok .dp 2 [3, 4] [0] (s' := ⟨[(3, .lf (.ptr 0 0 0 0)), (4, B y73)], [bx [.v (.int .i64) (0 : Int), .v .str a0.2.1, .v (.int .i64) (0 : Int), .v (.int .i64) a0.2.2.2.1, .v (.int .i64) a0.2.2.2.2.1, .v .bool a0.2.2.2.2.2.1, .v (.sl (.int .i64)) a0.2.2.2.2.2.2] 90]⟩) (φ := True ∧ True ∧ True) (by kernel_rfl) ⟨trivial, trivial, trivial⟩ ?_
              refine VO.nil ?_
              exact arrive [.ren [3, 4] [0]] (by kernel_rfl) ⟨a0.2.1, (0 : Int), a0.2.2.2.1, a0.2.2.2.2.1, a0.2.2.2.2.2.1, a0.2.2.2.2.2.2, y73, rfl, h⟩
            · replace h := cond_f h hb; clear hb
              refine VW.seq ?_
              refine VW.region ?_
              refine VO.seg T_ok .dp 2 [1, 3, 4, 8, 90] [0, 1] (s' := ⟨[(1, .lf (.ptr 0 0 0 0)), (3, .lf (.ptr 1 0 0 0)), (4, B false), (8, I a0.1), (90, B (a0.1 == (6 : Int)))], [bx [.v (.int .i64) a0.1, .v .str a0.2.1, .v (.int .i64) a0.2.2.1, .v (.int .i64) a0.2.2.2.1, .v (.int .i64) a0.2.2.2.2.1, .v .bool a0.2.2.2.2.2.1, .v (.sl (.int .i64)) a0.2.2.2.2.2.2] 90, bx [.v (.int .i64) (0 : Int), .v .str a0.2.1, .v (.int .i64) a0.2.2.1, .v (.int .i64) a0.2.2.2.1, .v (.int .i64) a0.2.2.2.2.1, .v .bool a0.2.2.2.2.2.1, .v (.sl (.int .i64)) a0.2.2.2.2.2.2] 90]⟩) (φ := True ∧ True ∧ True) (by kernel_rfl) ⟨trivial, trivial, trivial⟩ ?_
              refine VO.nil ?_
              show VW _ _ _ _ _ _ _
              refine VW.cond (b := (a0.1 == (6 : Int))) (by kernel_rfl) (fun hb => ?_) (fun hb => ?_)
              · replace h := cond_t h hb; clear hb
                refine VW.seq ?_
                refine VW.region ?_
                refine VO.seg T_ok .dp 2 [1, 3, 93] [0, 1] (s' := ⟨[(1, .lf (.ptr 0 0 0 0)), (3, .lf (.ptr 1 0 0 0)), (93, I a0.2.2.2.2.1)], [bx [.v (.int .i64) a0.1, .v .str a0.2.1, .v (.int .i64) a0.2.2.1, .v (.int .i64) a0.2.2.2.1, .v (.int .i64) a0.2.2.2.2.1, .v .bool a0.2.2.2.2.2.1, .v (.sl (.int .i64)) a0.2.2.2.2.2.2] 90, bx [.v (.int .i64) (0 : Int), .v .str a0.2.1, .v (.int .i64) a0.2.2.1, .v (.int .i64) a0.2.2.2.1, .v (.int .i64) a0.2.2.2.2.1, .v .bool a0.2.2.2.2.2.1, .v (.sl (.int .i64)) a0.2.2.2.2.2.2] 90]⟩) (φ := True ∧ True ∧ True) (by kernel_rfl) ⟨trivial, trivial, trivial⟩ ?_
                obtain ⟨y74, hy, h⟩ := andO_some h
                refine VO.call false [.t (.int .i64), .t (.int .i64), .t (.int .i64)] [] T_ok (d := some 94) (by kernel_rfl) (ok54 N _ _ _ hy) rfl ?_
                refine VO.seg T_ok .dp 1 [1, 3, 95] [0, 1] (s' := ⟨[(1, .lf (.ptr 0 0 0 0)), (3, .lf (.ptr 1 0 0 0)), (95, B y74)], [bx [.v (.int .i64) a0.1, .v .str a0.2.1, .v (.int .i64) a0.2.2.1, .v (.int .i64) a0.2.2.2.1, .v (.int .i64) a0.2.2.2.2.1, .v .bool a0.2.2.2.2.2.1, .v (.sl (.int .i64)) a0.2.2.2.2.2.2] 90, bx [.v (.int .i64) (0 : Int), .v .str a0.2.1, .v (.int .i64) a0.2.2.1, .v (.int .i64) a0.2.2.2.1, .v (.int .i64) a0.2.2.2.2.1, .v .bool a0.2.2.2.2.2.1, .v (.sl (.int .i64)) a0.2.2.2.2.2.2] 90]⟩) (φ := True ∧ True) (by kernel_rfl) ⟨trivial, trivial⟩ ?_
                refine VO.splitB 95 (b := y74) (by kernel_rfl) (fun hb => ?_) (fun hb => ?_)
                · replace h := cond_t h hb; clear hb
                  refine VO.seg T_ok .dp 4 [1, 3, 95, 99] [0, 1] (s' := ⟨[(1, .lf (.ptr 0 0 0 0)), (3, .lf (.ptr 1 0 0 0)), (95, B true), (99, B (!a0.2.2.2.2.2.1))], [bx [.v (.int .i64) a0.1, .v .str a0.2.1, .v (.int .i64) a0.2.2.1, .v (.int .i64) a0.2.2.2.1, .v (.int .i64) a0.2.2.2.2.1, .v .bool a0.2.2.2.2.2.1, .v (.sl (.int .i64)) a0.2.2.2.2.2.2] 90, bx [.v (.int .i64) (0 : Int), .v .str a0.2.1, .v (.int .i64) a0.2.2.1, .v (.int .i64) a0.2.2.2.1, .v (.int .i64) a0.2.2.2.2.1, .v .bool a0.2.2.2.2.2.1, .v (.sl (.int .i64)) a0.2.2.2.2.2.2] 90]⟩) (φ := True ∧ True ∧ True ∧ True ∧ True) (by kernel_rfl) ⟨trivial, trivial, trivial, trivial, trivial⟩ ?_
                  refine VO.splitB 99 (b := (!a0.2.2.2.2.2.1)) (by kernel_rfl) (fun hb => ?_) (fun hb => ?_)
                  · replace h := cond_t h hb; clear hb
                    refine VO.seg T_ok .dp 6 [3, 4] [1] (s' := ⟨[(3, .lf (.ptr 0 0 0 0)), (4, B true)], [bx [.v (.int .i64) (0 : Int), .v .str a0.2.1, .v (.int .i64) a0.2.2.1, .v (.int .i64) a0.2.2.2.1, .v (.int .i64) a0.2.2.2.2.1, .v .bool a0.2.2.2.2.2.1, .v (.sl (.int .i64)) a0.2.2.2.2.2.2] 90]⟩) (φ := True ∧ True ∧ True ∧ True ∧ True ∧ True ∧ True) (by kernel_rfl) ⟨trivial, trivial, trivial, trivial, trivial, trivial, trivial⟩ ?_
                    refine VO.nil ?_
                    show VW _ _ _ _ _ _ _
                    refine VW.region ?_
                    refine VO.seg T_ok .dp 4 [3, 4] [0] (s' := ⟨[(3, .lf (.ptr 0 0 0 0)), (4, B true)], [bx [.v (.int .i64) (0 : Int), .v .str a0.2.1, .v (.int .i64) a0.2.2.1, .v (.int .i64) a0.2.2.2.1, .v (.int .i64) (0 : Int), .v .bool false, .v (.sl (.int .i64)) a0.2.2.2.2.2.2] 90]⟩) (φ := True ∧ True ∧ True ∧ True ∧ True) (by kernel_rfl) ⟨trivial, trivial, trivial, trivial, trivial⟩ ?_
                    refine VO.nil ?_
                    exact arrive [.ren [3, 4] [0]] (by kernel_rfl) ⟨a0.2.1, a0.2.2.1, a0.2.2.2.1, (0 : Int), false, a0.2.2.2.2.2.2, true, rfl, h⟩
                  · replace h := cond_f h hb; clear hb
                    refine VO.seg T_ok .dp 2 [3, 95, 99, 101] [1] (s' := ⟨[(3, .lf (.ptr 0 0 0 0)), (95, B true), (99, B false), (101, I a0.2.2.2.2.1)], [bx [.v (.int .i64) (0 : Int), .v .str a0.2.1, .v (.int .i64) a0.2.2.1, .v (.int .i64) a0.2.2.2.1, .v (.int .i64) a0.2.2.2.2.1, .v .bool a0.2.2.2.2.2.1, .v (.sl (.int .i64)) a0.2.2.2.2.2.2] 90]⟩) (φ := True ∧ True ∧ True) (by kernel_rfl) ⟨trivial, trivial, trivial⟩ ?_
                    refine VO.on (j := 7) (want := false) (d := 99) (b := false) rfl rfl rfl (by kernel_rfl) rfl ?_
                    obtain ⟨y75, hy, h⟩ := andO_some h
                    refine VO.call false [.t (.int .i64)] [] T_ok (d := some 102) (by kernel_rfl) (ok146 N _ hy) rfl ?_
                    refine VO.seg T_ok .dp 3 [3, 4] [0] (s' := ⟨[(3, .lf (.ptr 0 0 0 0)), (4, B y75)], [bx [.v (.int .i64) (0 : Int), .v .str a0.2.1, .v (.int .i64) a0.2.2.1, .v (.int .i64) a0.2.2.2.1, .v (.int .i64) a0.2.2.2.2.1, .v .bool a0.2.2.2.2.2.1, .v (.sl (.int .i64)) a0.2.2.2.2.2.2] 90]⟩) (φ := True ∧ True ∧ True ∧ True) (by kernel_rfl) ⟨trivial, trivial, trivial, trivial⟩ ?_
                    refine VO.nil ?_
                    show VW _ _ _ _ _ _ _
                    refine VW.region ?_
                    refine VO.seg T_ok .dp 4 [3, 4] [0] (s' := ⟨[(3, .lf (.ptr 0 0 0 0)), (4, B y75)], [bx [.v (.int .i64) (0 : Int), .v .str a0.2.1, .v (.int .i64) a0.2.2.1, .v (.int .i64) a0.2.2.2.1, .v (.int .i64) (0 : Int), .v .bool false, .v (.sl (.int .i64)) a0.2.2.2.2.2.2] 90]⟩) (φ := True ∧ True ∧ True ∧ True ∧ True) (by kernel_rfl) ⟨trivial, trivial, trivial, trivial, trivial⟩ ?_
                    refine VO.nil ?_
                    exact arrive [.ren [3, 4] [0]] (by kernel_rfl) ⟨a0.2.1, a0.2.2.1, a0.2.2.2.1, (0 : Int), false, a0.2.2.2.2.2.2, y75, rfl, h⟩
                · replace h := cond_f h hb; clear hb
                  refine VO.seg T_ok .dp 10 [3, 4] [1] (s' := ⟨[(3, .lf (.ptr 0 0 0 0)), (4, B false)], [bx [.v (.int .i64) (0 : Int), .v .str a0.2.1, .v (.int .i64) a0.2.2.1, .v (.int .i64) a0.2.2.2.1, .v (.int .i64) a0.2.2.2.2.1, .v .bool a0.2.2.2.2.2.1, .v (.sl (.int .i64)) a0.2.2.2.2.2.2] 90]⟩) (φ := True ∧ True ∧ True ∧ True ∧ True ∧ True ∧ True ∧ True ∧ True ∧ True ∧ True) (by kernel_rfl) ⟨trivial, trivial, trivial, trivial, trivial, trivial, trivial, trivial, trivial, trivial, trivial⟩ ?_
                  refine VO.nil ?_
                  show VW _ _ _ _ _ _ _
                  refine VW.region ?_
                  refine VO.seg T_ok .dp 4 [3, 4] [0] (s' := ⟨[(3, .lf (.ptr 0 0 0 0)), (4, B false)], [bx [.v (.int .i64) (0 : Int), .v .str a0.2.1, .v (.int .i64) a0.2.2.1, .v (.int .i64) a0.2.2.2.1, .v (.int .i64) (0 : Int), .v .bool false, .v (.sl (.int .i64)) a0.2.2.2.2.2.2] 90]⟩) (φ := True ∧ True ∧ True ∧ True ∧ True) (by kernel_rfl) ⟨trivial, trivial, trivial, trivial, trivial⟩ ?_
                  refine VO.nil ?_
                  exact arrive [.ren [3, 4] [0]] (by kernel_rfl) ⟨a0.2.1, a0.2.2.1, a0.2.2.2.1, (0 : Int), false, a0.2.2.2.2.2.2, false, rfl, h⟩
              · replace h := cond_f h hb; clear hb
                refine VW.join (fun s => ∃ (x76 : ByteArray) (x77 : Int) (x78 : Int) (x79 : Int) (x80 : Bool) (x81 : (List Int)) (x82 : Bool), s = ⟨[(3, .lf (.ptr 0 0 0 0)), (4, B false), (107, B x82)], [bx [.v (.int .i64) (0 : Int), .v .str x76, .v (.int .i64) x77, .v (.int .i64) x78, .v (.int .i64) x79, .v .bool x80, .v (.sl (.int .i64)) x81] 90]⟩ ∧ F112_j3 N x76 x77 x78 x79 x80 x81 x82 = some r) ?_ ?_
                · refine VW.seq ?_
                  refine VW.region ?_
                  refine VO.seg T_ok .dp 2 [3, 4, 8, 107] [1] (s' := ⟨[(3, .lf (.ptr 0 0 0 0)), (4, B false), (8, I a0.1), (107, B (a0.1 == (4 : Int)))], [bx [.v (.int .i64) (0 : Int), .v .str a0.2.1, .v (.int .i64) a0.2.2.1, .v (.int .i64) a0.2.2.2.1, .v (.int .i64) a0.2.2.2.2.1, .v .bool a0.2.2.2.2.2.1, .v (.sl (.int .i64)) a0.2.2.2.2.2.2] 90]⟩) (φ := True ∧ True ∧ True) (by kernel_rfl) ⟨trivial, trivial, trivial⟩ ?_
                  refine VO.nil ?_
                  show VW _ _ _ _ _ _ _
                  refine VW.cond (b := (a0.1 == (4 : Int))) (by kernel_rfl) (fun hb => ?_) (fun hb => ?_)
                  · replace h := cond_t h hb; clear hb
                    refine VW.skip ?_
                    exact arrive [.ren [3, 4, 107] [0]] (by kernel_rfl) ⟨a0.2.1, a0.2.2.1, a0.2.2.2.1, a0.2.2.2.2.1, a0.2.2.2.2.2.1, a0.2.2.2.2.2.2, (a0.1 == (4 : Int)), rfl, h⟩
                  · replace h := cond_f h hb; clear hb
                    refine VW.region ?_
                    refine VO.seg T_ok .dp 2 [3, 4, 107] [0] (s' := ⟨[(3, .lf (.ptr 0 0 0 0)), (4, B false), (107, B (a0.1 == (7 : Int)))], [bx [.v (.int .i64) (0 : Int), .v .str a0.2.1, .v (.int .i64) a0.2.2.1, .v (.int .i64) a0.2.2.2.1, .v (.int .i64) a0.2.2.2.2.1, .v .bool a0.2.2.2.2.2.1, .v (.sl (.int .i64)) a0.2.2.2.2.2.2] 90]⟩) (φ := True ∧ True ∧ True) (by kernel_rfl) ⟨trivial, trivial, trivial⟩ ?_
                    refine VO.nil ?_
                    exact arrive [.ren [3, 4, 107] [0]] (by kernel_rfl) ⟨a0.2.1, a0.2.2.1, a0.2.2.2.1, a0.2.2.2.2.1, a0.2.2.2.2.2.1, a0.2.2.2.2.2.2, (a0.1 == (7 : Int)), rfl, h⟩
                · rintro s ⟨x76, x77, x78, x79, x80, x81, x82, rfl, h⟩
                  unfold F112_j3 at h
                  refine VW.cond (b := x82) (by kernel_rfl) (fun hb => ?_) (fun hb => ?_)
                  · replace h := cond_t h hb; clear hb
                    refine VW.region ?_
                    refine VO.seg T_ok .dp 1 [3, 4] [0] (s' := ⟨[(3, .lf (.ptr 0 0 0 0)), (4, B true)], [bx [.v (.int .i64) (0 : Int), .v .str x76, .v (.int .i64) x77, .v (.int .i64) x78, .v (.int .i64) x79, .v .bool x80, .v (.sl (.int .i64)) x81] 90]⟩) (φ := True ∧ True) (by kernel_rfl) ⟨trivial, trivial⟩ ?_
                    refine VO.nil ?_
                    exact arrive [.ren [3, 4] [0]] (by kernel_rfl) ⟨x76, x77, x78, x79, x80, x81, true, rfl, h⟩
                  · replace h := cond_f h hb; clear hb
                    refine VW.skip ?_
                    exact arrive [.ren [3, 4] [0]] (by kernel_rfl) ⟨x76, x77, x78, x79, x80, x81, false, rfl, h⟩
  · rintro s ⟨x38, x39, x40, x41, x42, x43, x44, rfl, h⟩
    unfold F112_j0 at h
    refine VW.seq ?_
    refine VW.region ?_
    refine VO.seg T_ok .dp 2 [3, 111] [0] (s' := ⟨[(3, .lf (.ptr 0 0 0 0)), (111, B x44)], [bx [.v (.int .i64) (0 : Int), .v .str x38, .v (.int .i64) x39, .v (.int .i64) x40, .v (.int .i64) x41, .v .bool x42, .v (.sl (.int .i64)) x43] 90]⟩) (φ := True ∧ True ∧ True) (by kernel_rfl) ⟨trivial, trivial, trivial⟩ ?_
    refine VO.splitB 111 (b := x44) (by kernel_rfl) (fun hb => ?_) (fun hb => ?_)
    · replace h := cond_t h hb; clear hb
      refine VO.seg T_ok .dp 2 [111, 112, 113] [] (s' := ⟨[(111, B true), (112, .agg [.v (.int .i64) (0 : Int), .v .str x38, .v (.int .i64) x39, .v (.int .i64) x40, .v (.int .i64) x41, .v .bool x42, .v (.sl (.int .i64)) x43]), (113, .agg [.v (.int .i64) (0 : Int), .v .str ByteArray.empty, .v (.int .i64) (0 : Int), .v (.int .i64) (0 : Int), .v (.int .i64) (0 : Int), .v .bool false, .nil])], []⟩) (φ := True ∧ True ∧ True) (by kernel_rfl) ⟨trivial, trivial, trivial⟩ ?_
      refine VO.on (j := 1) (want := true) (d := 111) (b := true) rfl rfl rfl (by kernel_rfl) rfl ?_
      obtain ⟨y45, hy, h⟩ := andO_some h
      refine VO.call false [.t Y89, .t Y89] [] T_ok (d := some 114) (by kernel_rfl) (ok77 N _ _ hy) rfl ?_
      refine VO.seg T_ok .dp 2 [2] [] (s' := ⟨[(2, B y45)], []⟩) (φ := True ∧ True ∧ True) (by kernel_rfl) ⟨trivial, trivial, trivial⟩ ?_
      refine VO.nil ?_
      show VW _ _ _ _ _ _ _
      refine VW.ret ?_
      replace h := Option.some.inj h
      subst h
      exact retR [] (by kernel_rfl) rfl
    · replace h := cond_f h hb; clear hb
      refine VO.seg T_ok .dp 5 [2] [] (s' := ⟨[(2, B false)], []⟩) (φ := True ∧ True ∧ True ∧ True ∧ True ∧ True) (by kernel_rfl) ⟨trivial, trivial, trivial, trivial, trivial, trivial⟩ ?_
      refine VO.nil ?_
      show VW _ _ _ _ _ _ _
      refine VW.ret ?_
      replace h := Option.some.inj h
      subst h
      exact retR [] (by kernel_rfl) rfl

/- loop.example/g00844/impl.PlanOk$1 -/
def F111 (N : Nat) (a0 : (Int × (ByteArray × (Int × (Int × (Int × (Bool × (List Int)))))))) : Option (Bool) :=
  andO (F112 N a0) fun y1 => some (!y1)
theorem ok111 (N : Nat) (a0 : (Int × (ByteArray × (Int × (Int × (Int × (Bool × (List Int)))))))) {r : Bool} (h : F111 N a0 = some r) : Con Go.Proofs.Try.prog 111 [.agg [.v (.int .i64) a0.1, .v .str a0.2.1, .v (.int .i64) a0.2.2.1, .v (.int .i64) a0.2.2.2.1, .v (.int .i64) a0.2.2.2.2.1, .v .bool a0.2.2.2.2.2.1, .v (.sl (.int .i64)) a0.2.2.2.2.2.2]] [.lf (.v .bool r)] := by
  refine ⟨enters_of Go.Proofs.Try.func111 rfl (by decide), HC.intro [.lf (.v .bool)] T_ok Go.Proofs.Try.func111 rfl (Nat.le_of_ble_eq_true rfl) (Nat.le_of_ble_eq_true rfl) fun w0 E0 => ?_⟩
  unfold F111 at h
  show VW _ _ _ _ _ (retQ _ _ _ _) _
  refine VW.seq ?_
  refine VW.region ?_
  refine VO.seg T_ok .dp 2 [1] [0] (s' := ⟨[(1, .lf (.ptr 0 0 0 0))], [bx [.v (.int .i64) a0.1, .v .str a0.2.1, .v (.int .i64) a0.2.2.1, .v (.int .i64) a0.2.2.2.1, .v (.int .i64) a0.2.2.2.2.1, .v .bool a0.2.2.2.2.2.1, .v (.sl (.int .i64)) a0.2.2.2.2.2.2] 90]⟩) (φ := True ∧ True ∧ True) (by kernel_rfl) ⟨trivial, trivial, trivial⟩ ?_
  refine VO.nil ?_
  show VW _ _ _ _ _ _ _
  refine VW.seq ?_
  refine VW.region ?_
  refine VO.seg T_ok .dp 1 [3] [] (s' := ⟨[(3, .agg [.v (.int .i64) a0.1, .v .str a0.2.1, .v (.int .i64) a0.2.2.1, .v (.int .i64) a0.2.2.2.1, .v (.int .i64) a0.2.2.2.2.1, .v .bool a0.2.2.2.2.2.1, .v (.sl (.int .i64)) a0.2.2.2.2.2.2])], []⟩) (φ := True ∧ True) (by kernel_rfl) ⟨trivial, trivial⟩ ?_
  obtain ⟨y1, hy, h⟩ := andO_some h
  refine VO.call false [.t Y89] [] T_ok (d := some 4) (by kernel_rfl) (ok112 N _ hy) rfl ?_
  refine VO.seg T_ok .dp 2 [2] [] (s' := ⟨[(2, B (!y1))], []⟩) (φ := True ∧ True ∧ True) (by kernel_rfl) ⟨trivial, trivial, trivial⟩ ?_
  refine VO.nil ?_
  show VW _ _ _ _ _ _ _
  refine VW.ret ?_
  replace h := Option.some.inj h
  subst h
  exact retR [] (by kernel_rfl) rfl

/- loop.example/g00844/impl.ArityOf -/
def F149_j0 (N : Nat) (x6 : Bool) : Option (Int) :=
  cond x6 (some (1 : Int)) (some (-1 : Int))
def F149_j1 (N : Nat) (a0 : Int) (x5 : Bool) : Option (Int) :=
  cond x5 (some (2 : Int)) (cond (a0 == (1 : Int)) (F149_j0 N (a0 == (1 : Int))) (cond (a0 == (2 : Int)) (F149_j0 N (a0 == (2 : Int))) (cond (a0 == (5 : Int)) (F149_j0 N (a0 == (5 : Int))) (cond (a0 == (6 : Int)) (F149_j0 N (a0 == (6 : Int))) (F149_j0 N (a0 == (7 : Int)))))))
def F149 (N : Nat) (a0 : Int) : Option (Int) :=
  cond (a0 == (0 : Int)) (some (0 : Int)) (cond (a0 == (3 : Int)) (F149_j1 N a0 (a0 == (3 : Int))) (F149_j1 N a0 (a0 == (4 : Int))))
theorem ok149 (N : Nat) (a0 : Int) {r : Int} (h : F149 N a0 = some r) : Con Go.Proofs.Try.prog 149 [I a0] [.lf (.v (.int .i64) r)] := by
  refine ⟨enters_of Go.Proofs.Try.func149 rfl (by decide), HC.intro [.lf (.v (.int .i64))] T_ok Go.Proofs.Try.func149 rfl (Nat.le_of_ble_eq_true rfl) (Nat.le_of_ble_eq_true rfl) fun w0 E0 => ?_⟩
  unfold F149 at h
  show VW _ _ _ _ _ (retQ _ _ _ _) _
  refine VW.seq ?_
  refine VW.region ?_
  refine VO.seg T_ok .dp 1 [0] [] (s' := ⟨[(0, I a0)], []⟩) (φ := True ∧ True) (by kernel_rfl) ⟨trivial, trivial⟩ ?_
  refine VO.nil ?_
  show VW _ _ _ _ _ _ _
  refine VW.seq ?_
  refine VW.seq ?_
  refine VW.region ?_
  refine VO.seg T_ok .dp 1 [3] [] (s' := ⟨[(3, I a0)], []⟩) (φ := True ∧ True) (by kernel_rfl) ⟨trivial, trivial⟩ ?_
  refine VO.nil ?_
  show VW _ _ _ _ _ _ _
  refine VW.block ?_
  refine VW.seq ?_
  refine VW.region ?_
  refine VO.seg T_ok .dp 2 [3, 4] [] (s' := ⟨[(3, I a0), (4, B (a0 == (0 : Int)))], []⟩) (φ := True ∧ True ∧ True) (by kernel_rfl) ⟨trivial, trivial, trivial⟩ ?_
  refine VO.nil ?_
  show VW _ _ _ _ _ _ _
  refine VW.cond (b := (a0 == (0 : Int))) (by kernel_rfl) (fun hb => ?_) (fun hb => ?_)
  · replace h := cond_t h hb; clear hb
    refine VW.seq ?_
    refine VW.region ?_
    refine VO.seg T_ok .dp 1 [2] [] (s' := ⟨[(2, I (0 : Int))], []⟩) (φ := True ∧ True) (by kernel_rfl) ⟨trivial, trivial⟩ ?_
    refine VO.nil ?_
    show VW _ _ _ _ _ _ _
    refine VW.ret ?_
    replace h := Option.some.inj h
    subst h
    exact retR [] (by kernel_rfl) rfl
  · replace h := cond_f h hb; clear hb
    refine VW.join (fun s => ∃ (x5 : Bool), s = ⟨[(3, I a0), (6, B x5)], []⟩ ∧ F149_j1 N a0 x5 = some r) ?_ ?_
    · refine VW.seq ?_
      refine VW.region ?_
      refine VO.seg T_ok .dp 2 [3, 6] [] (s' := ⟨[(3, I a0), (6, B (a0 == (3 : Int)))], []⟩) (φ := True ∧ True ∧ True) (by kernel_rfl) ⟨trivial, trivial, trivial⟩ ?_
      refine VO.nil ?_
      show VW _ _ _ _ _ _ _
      refine VW.cond (b := (a0 == (3 : Int))) (by kernel_rfl) (fun hb => ?_) (fun hb => ?_)
      · replace h := cond_t h hb; clear hb
        refine VW.skip ?_
        exact arrive [.ren [3, 6] []] (by kernel_rfl) ⟨(a0 == (3 : Int)), rfl, h⟩
      · replace h := cond_f h hb; clear hb
        refine VW.region ?_
        refine VO.seg T_ok .dp 2 [3, 6] [] (s' := ⟨[(3, I a0), (6, B (a0 == (4 : Int)))], []⟩) (φ := True ∧ True ∧ True) (by kernel_rfl) ⟨trivial, trivial, trivial⟩ ?_
        refine VO.nil ?_
        exact arrive [.ren [3, 6] []] (by kernel_rfl) ⟨(a0 == (4 : Int)), rfl, h⟩
    · rintro s ⟨x5, rfl, h⟩
      unfold F149_j1 at h
      refine VW.cond (b := x5) (by kernel_rfl) (fun hb => ?_) (fun hb => ?_)
      · replace h := cond_t h hb; clear hb
        refine VW.seq ?_
        refine VW.region ?_
        refine VO.seg T_ok .dp 1 [2] [] (s' := ⟨[(2, I (2 : Int))], []⟩) (φ := True ∧ True) (by kernel_rfl) ⟨trivial, trivial⟩ ?_
        refine VO.nil ?_
        show VW _ _ _ _ _ _ _
        refine VW.ret ?_
        replace h := Option.some.inj h
        subst h
        exact retR [] (by kernel_rfl) rfl
      · replace h := cond_f h hb; clear hb
        refine VW.join (fun s => ∃ (x6 : Bool), s = ⟨[(9, B x6)], []⟩ ∧ F149_j0 N x6 = some r) ?_ ?_
        · refine VW.seq ?_
          refine VW.region ?_
          refine VO.seg T_ok .dp 2 [3, 9] [] (s' := ⟨[(3, I a0), (9, B (a0 == (1 : Int)))], []⟩) (φ := True ∧ True ∧ True) (by kernel_rfl) ⟨trivial, trivial, trivial⟩ ?_
          refine VO.nil ?_
          show VW _ _ _ _ _ _ _
          refine VW.cond (b := (a0 == (1 : Int))) (by kernel_rfl) (fun hb => ?_) (fun hb => ?_)
          · replace h := cond_t h hb; clear hb
            refine VW.skip ?_
            exact arrive [.ren [9] []] (by kernel_rfl) ⟨(a0 == (1 : Int)), rfl, h⟩
          · replace h := cond_f h hb; clear hb
            refine VW.seq ?_
            refine VW.region ?_
            refine VO.seg T_ok .dp 2 [3, 9] [] (s' := ⟨[(3, I a0), (9, B (a0 == (2 : Int)))], []⟩) (φ := True ∧ True ∧ True) (by kernel_rfl) ⟨trivial, trivial, trivial⟩ ?_
            refine VO.nil ?_
            show VW _ _ _ _ _ _ _
            refine VW.cond (b := (a0 == (2 : Int))) (by kernel_rfl) (fun hb => ?_) (fun hb => ?_)
            · replace h := cond_t h hb; clear hb
              refine VW.skip ?_
              exact arrive [.ren [9] []] (by kernel_rfl) ⟨(a0 == (2 : Int)), rfl, h⟩
            · replace h := cond_f h hb; clear hb
              refine VW.seq ?_
              refine VW.region ?_
              refine VO.seg T_ok .dp 2 [3, 9] [] (s' := ⟨[(3, I a0), (9, B (a0 == (5 : Int)))], []⟩) (φ := True ∧ True ∧ True) (by kernel_rfl) ⟨trivial, trivial, trivial⟩ ?_
              refine VO.nil ?_
              show VW _ _ _ _ _ _ _
              refine VW.cond (b := (a0 == (5 : Int))) (by kernel_rfl) (fun hb => ?_) (fun hb => ?_)
              · replace h := cond_t h hb; clear hb
                refine VW.skip ?_
                exact arrive [.ren [9] []] (by kernel_rfl) ⟨(a0 == (5 : Int)), rfl, h⟩
              · replace h := cond_f h hb; clear hb
                refine VW.seq ?_
                refine VW.region ?_
                refine VO.seg T_ok .dp 2 [3, 9] [] (s' := ⟨[(3, I a0), (9, B (a0 == (6 : Int)))], []⟩) (φ := True ∧ True ∧ True) (by kernel_rfl) ⟨trivial, trivial, trivial⟩ ?_
                refine VO.nil ?_
                show VW _ _ _ _ _ _ _
                refine VW.cond (b := (a0 == (6 : Int))) (by kernel_rfl) (fun hb => ?_) (fun hb => ?_)
                · replace h := cond_t h hb; clear hb
                  refine VW.skip ?_
                  exact arrive [.ren [9] []] (by kernel_rfl) ⟨(a0 == (6 : Int)), rfl, h⟩
                · replace h := cond_f h hb; clear hb
                  refine VW.region ?_
                  refine VO.seg T_ok .dp 2 [9] [] (s' := ⟨[(9, B (a0 == (7 : Int)))], []⟩) (φ := True ∧ True ∧ True) (by kernel_rfl) ⟨trivial, trivial, trivial⟩ ?_
                  refine VO.nil ?_
                  exact arrive [.ren [9] []] (by kernel_rfl) ⟨(a0 == (7 : Int)), rfl, h⟩
        · rintro s ⟨x6, rfl, h⟩
          unfold F149_j0 at h
          refine VW.cond (b := x6) (by kernel_rfl) (fun hb => ?_) (fun hb => ?_)
          · replace h := cond_t h hb; clear hb
            refine VW.seq ?_
            refine VW.region ?_
            refine VO.seg T_ok .dp 1 [2] [] (s' := ⟨[(2, I (1 : Int))], []⟩) (φ := True ∧ True) (by kernel_rfl) ⟨trivial, trivial⟩ ?_
            refine VO.nil ?_
            show VW _ _ _ _ _ _ _
            refine VW.ret ?_
            replace h := Option.some.inj h
            subst h
            exact retR [] (by kernel_rfl) rfl
          · replace h := cond_f h hb; clear hb
            refine VW.skip ?_
            show VW _ _ _ _ _ _ _
            refine VW.seq ?_
            refine VW.region ?_
            refine VO.seg T_ok .dp 1 [2] [] (s' := ⟨[(2, I (-1 : Int))], []⟩) (φ := True ∧ True) (by kernel_rfl) ⟨trivial, trivial⟩ ?_
            refine VO.nil ?_
            show VW _ _ _ _ _ _ _
            refine VW.ret ?_
            replace h := Option.some.inj h
            subst h
            exact retR [] (by kernel_rfl) rfl

/- loop.example/g00844/impl.end -/
def F113_j0 (N : Nat) (x13 : Int) : Option (Int) :=
  some x13
def F113_l0_b (N : Nat) (a0 : (List (Int × (ByteArray × (Int × (Int × (Int × (Bool × (List Int))))))))) (a2 : Int) (self : (List (Int × (ByteArray × (Int × (Int × (Int × (Bool × (List Int)))))))) → Int → Int → Option (Int)) (y16 : Int) (nx24 : Int → Int → Option (Int)) (x20 : Int) (x21 : Int) : Option (Int) :=
  cond (decide (x21 < y16)) (andO (self a0 x20 (IntKind.i64.wrap (a2 + (1 : Int)))) fun y26 => cond (decide (y26 < (0 : Int))) (some (-1 : Int)) (nx24 y26 (IntKind.i64.wrap (x21 + (1 : Int))))) (F113_j0 N x20)
def F113_l0 (N : Nat) (a0 : (List (Int × (ByteArray × (Int × (Int × (Int × (Bool × (List Int))))))))) (a2 : Int) (self : (List (Int × (ByteArray × (Int × (Int × (Int × (Bool × (List Int)))))))) → Int → Int → Option (Int)) (y16 : Int) : Nat → Int → Int → Option (Int) := loopF (F113_l0_b N a0 a2 self y16) (fun _ _ => none)
theorem F113_l0_s (N : Nat) (a0 : (List (Int × (ByteArray × (Int × (Int × (Int × (Bool × (List Int))))))))) (a2 : Int) (self : (List (Int × (ByteArray × (Int × (Int × (Int × (Bool × (List Int)))))))) → Int → Int → Option (Int)) (y16 : Int) {k : Nat} (hk : 0 < k) (x20 : Int) (x21 : Int) : F113_l0 N a0 a2 self y16 k x20 x21 = F113_l0_b N a0 a2 self y16 (F113_l0 N a0 a2 self y16 (k - 1)) x20 x21 := by
  cases k with
  | zero => exact absurd hk (Nat.lt_irrefl 0)
  | succ m => rfl
def F113_b (N : Nat) (self : (List (Int × (ByteArray × (Int × (Int × (Int × (Bool × (List Int)))))))) → Int → Int → Option (Int)) (a0 : (List (Int × (ByteArray × (Int × (Int × (Int × (Bool × (List Int))))))))) (a1 : Int) (a2 : Int) : Option (Int) :=
  cond (decide (a1 ≥ (a0.length : Int))) (some (-1 : Int)) (cond (decide (a2 > (10 : Int))) (some (-1 : Int)) (gd (InR a1 a0.length) (andO (F149 N ((a0.getD a1.toNat (Ty.dflt Y89)).1)) fun y16 => F113_l0 N a0 a2 self y16 N (IntKind.i64.wrap (a1 + (1 : Int))) (0 : Int))))
theorem ok113_b (N : Nat) (self : (List (Int × (ByteArray × (Int × (Int × (Int × (Bool × (List Int)))))))) → Int → Int → Option (Int)) (ih : ∀ (a0 : (List (Int × (ByteArray × (Int × (Int × (Int × (Bool × (List Int))))))))) (a1 : Int) (a2 : Int) (r : Int), self a0 a1 a2 = some r → Con Go.Proofs.Try.prog 113 [.lf (.v (.sl Y89) a0), I a1, I a2] [.lf (.v (.int .i64) r)]) (a0 : (List (Int × (ByteArray × (Int × (Int × (Int × (Bool × (List Int))))))))) (a1 : Int) (a2 : Int) {r : Int} (h : F113_b N self a0 a1 a2 = some r) : Con Go.Proofs.Try.prog 113 [.lf (.v (.sl Y89) a0), I a1, I a2] [.lf (.v (.int .i64) r)] := by
  refine ⟨enters_of Go.Proofs.Try.func113 rfl (by decide), HC.intro [.lf (.v (.int .i64))] T_ok Go.Proofs.Try.func113 rfl (Nat.le_of_ble_eq_true rfl) (Nat.le_of_ble_eq_true rfl) fun w0 E0 => ?_⟩
  unfold F113_b at h
  show VW _ _ _ _ _ (retQ _ _ _ _) _
  refine VW.seq ?_
  refine VW.region ?_
  refine VO.seg T_ok .dp 1 [0, 1, 2] [] (s' := ⟨[(0, .lf (.v (.sl Y89) a0)), (1, I a1), (2, I a2)], []⟩) (φ := True ∧ True) (by kernel_rfl) ⟨trivial, trivial⟩ ?_
  refine VO.nil ?_
  show VW _ _ _ _ _ _ _
  refine VW.seq ?_
  refine VW.seq ?_
  refine VW.region ?_
  refine VO.seg T_ok .dp 5 [0, 1, 2, 12] [] (s' := ⟨[(0, .lf (.v (.sl Y89) a0)), (1, I a1), (2, I a2), (12, B (decide (a1 ≥ (a0.length : Int))))], []⟩) (φ := True ∧ True ∧ True ∧ True ∧ True ∧ True) (by kernel_rfl) ⟨trivial, trivial, trivial, trivial, trivial, trivial⟩ ?_
  refine VO.splitB 12 (b := (decide (a1 ≥ (a0.length : Int)))) (by kernel_rfl) (fun hb => ?_) (fun hb => ?_)
  · replace h := cond_t h hb; clear hb
    refine VO.seg T_ok .dp 3 [0, 1, 2, 15] [] (s' := ⟨[(0, .lf (.v (.sl Y89) a0)), (1, I a1), (2, I a2), (15, B true)], []⟩) (φ := True ∧ True ∧ True ∧ True) (by kernel_rfl) ⟨trivial, trivial, trivial, trivial⟩ ?_
    refine VO.nil ?_
    show VW _ _ _ _ _ _ _
    refine VW.cond (b := true) (by kernel_rfl) (fun _ => ?_) (fun h' => nomatch h')
    refine VW.seq ?_
    refine VW.region ?_
    refine VO.seg T_ok .dp 1 [6] [] (s' := ⟨[(6, I (-1 : Int))], []⟩) (φ := True ∧ True) (by kernel_rfl) ⟨trivial, trivial⟩ ?_
    refine VO.nil ?_
    show VW _ _ _ _ _ _ _
    refine VW.ret ?_
    replace h := Option.some.inj h
    subst h
    exact retR [] (by kernel_rfl) rfl
  · replace h := cond_f h hb; clear hb
    refine VO.seg T_ok .dp 3 [0, 1, 2, 15] [] (s' := ⟨[(0, .lf (.v (.sl Y89) a0)), (1, I a1), (2, I a2), (15, B (decide (a2 > (10 : Int))))], []⟩) (φ := True ∧ True ∧ True ∧ True) (by kernel_rfl) ⟨trivial, trivial, trivial, trivial⟩ ?_
    refine VO.nil ?_
    show VW _ _ _ _ _ _ _
    refine VW.cond (b := (decide (a2 > (10 : Int)))) (by kernel_rfl) (fun hb => ?_) (fun hb => ?_)
    · replace h := cond_t h hb; clear hb
      refine VW.seq ?_
      refine VW.region ?_
      refine VO.seg T_ok .dp 1 [6] [] (s' := ⟨[(6, I (-1 : Int))], []⟩) (φ := True ∧ True) (by kernel_rfl) ⟨trivial, trivial⟩ ?_
      refine VO.nil ?_
      show VW _ _ _ _ _ _ _
      refine VW.ret ?_
      replace h := Option.some.inj h
      subst h
      exact retR [] (by kernel_rfl) rfl
    · replace h := cond_f h hb; clear hb
      refine VW.skip ?_
      show VW _ _ _ _ _ _ _
      refine VW.seq ?_
      refine VW.region ?_
      refine VO.seg T_ok .dp 3 [0, 1, 2, 7] [] (s' := ⟨[(0, .lf (.v (.sl Y89) a0)), (1, I a1), (2, I a2), (7, I (IntKind.i64.wrap (a1 + (1 : Int))))], []⟩) (φ := True ∧ True ∧ True ∧ True) (by kernel_rfl) ⟨trivial, trivial, trivial, trivial⟩ ?_
      refine VO.nil ?_
      show VW _ _ _ _ _ _ _
      refine VW.join (fun s => ∃ (x13 : Int), s = ⟨[(7, I x13)], []⟩ ∧ F113_j0 N x13 = some r) ?_ ?_
      · refine VW.seq ?_
        refine VW.region ?_
        obtain ⟨g15, h⟩ := gd_some h
        refine VO.seg T_ok .dp 5 [0, 2, 7, 22] [] (s' := ⟨[(0, .lf (.v (.sl Y89) a0)), (2, I a2), (7, I (IntKind.i64.wrap (a1 + (1 : Int)))), (22, I ((a0.getD a1.toNat (Ty.dflt Y89)).1))], []⟩) (φ := True ∧ True ∧ (InR a1 a0.length) ∧ True ∧ True ∧ True) (by kernel_rfl) ⟨trivial, trivial, g15, trivial, trivial, trivial⟩ ?_
        obtain ⟨y16, hy, h⟩ := andO_some h
        refine VO.call false [.t (.int .i64)] [] T_ok (d := some 23) (by kernel_rfl) (ok149 N _ hy) rfl ?_
        refine VO.seg T_ok .dp 1 [0, 2, 7, 23, 24] [] (s' := ⟨[(0, .lf (.v (.sl Y89) a0)), (2, I a2), (7, I (IntKind.i64.wrap (a1 + (1 : Int)))), (23, I y16), (24, I (0 : Int))], []⟩) (φ := True ∧ True) (by kernel_rfl) ⟨trivial, trivial⟩ ?_
        refine VO.nil ?_
        show VW _ _ _ _ _ _ _
        refine VW.block ?_
        refine VW.loopL (fun k s => ∃ (x20 : Int) (x21 : Int), s = ⟨[(0, .lf (.v (.sl Y89) a0)), (2, I a2), (7, I x20), (23, I y16), (24, I x21)], []⟩ ∧ F113_l0 N a0 a2 self y16 k x20 x21 = some r) N [.ren [0, 2, 7, 23, 24] []] (by kernel_rfl) ⟨(IntKind.i64.wrap (a1 + (1 : Int))), (0 : Int), rfl, h⟩ ?_
        rintro k24 s ⟨x20, x21, rfl, h⟩
        cases k24 with
        | zero => exact nomatch (show (none : Option (Int)) = some r from h)
        | succ k24 =>
          replace h : F113_l0_b N a0 a2 self y16 (F113_l0 N a0 a2 self y16 k24) x20 x21 = some r := h
          unfold F113_l0_b at h
          refine VW.seq ?_
          refine VW.region ?_
          refine VO.seg T_ok .dp 1 [0, 2, 7, 23, 24, 25] [] (s' := ⟨[(0, .lf (.v (.sl Y89) a0)), (2, I a2), (7, I x20), (23, I y16), (24, I x21), (25, B (decide (x21 < y16)))], []⟩) (φ := True ∧ True) (by kernel_rfl) ⟨trivial, trivial⟩ ?_
          refine VO.nil ?_
          show VW _ _ _ _ _ _ _
          refine VW.seq ?_
          refine VW.cond (b := (decide (x21 < y16))) (by kernel_rfl) (fun hb => ?_) (fun hb => ?_)
          · replace h := cond_t h hb; clear hb
            refine VW.skip ?_
            show VW _ _ _ _ _ _ _
            refine VW.seq ?_
            refine VW.block ?_
            refine VW.seq ?_
            refine VW.region ?_
            refine VO.seg T_ok .dp 4 [0, 2, 23, 24, 26, 27, 29] [] (s' := ⟨[(0, .lf (.v (.sl Y89) a0)), (2, I a2), (23, I y16), (24, I x21), (26, .lf (.v (.sl Y89) a0)), (27, I x20), (29, I (IntKind.i64.wrap (a2 + (1 : Int))))], []⟩) (φ := True ∧ True ∧ True ∧ True ∧ True) (by kernel_rfl) ⟨trivial, trivial, trivial, trivial, trivial⟩ ?_
            obtain ⟨y26, hy, h⟩ := andO_some h
            refine VO.call false [.t (.sl Y89), .t (.int .i64), .t (.int .i64)] [] T_ok (d := some 30) (by kernel_rfl) (ih _ _ _ _ hy) rfl ?_
            refine VO.seg T_ok .dp 1 [0, 2, 7, 23, 24] [] (s' := ⟨[(0, .lf (.v (.sl Y89) a0)), (2, I a2), (7, I y26), (23, I y16), (24, I x21)], []⟩) (φ := True ∧ True) (by kernel_rfl) ⟨trivial, trivial⟩ ?_
            refine VO.nil ?_
            show VW _ _ _ _ _ _ _
            refine VW.seq ?_
            refine VW.region ?_
            refine VO.seg T_ok .dp 2 [0, 2, 7, 23, 24, 32] [] (s' := ⟨[(0, .lf (.v (.sl Y89) a0)), (2, I a2), (7, I y26), (23, I y16), (24, I x21), (32, B (decide (y26 < (0 : Int))))], []⟩) (φ := True ∧ True ∧ True) (by kernel_rfl) ⟨trivial, trivial, trivial⟩ ?_
            refine VO.nil ?_
            show VW _ _ _ _ _ _ _
            refine VW.cond (b := (decide (y26 < (0 : Int)))) (by kernel_rfl) (fun hb => ?_) (fun hb => ?_)
            · replace h := cond_t h hb; clear hb
              refine VW.seq ?_
              refine VW.region ?_
              refine VO.seg T_ok .dp 1 [6] [] (s' := ⟨[(6, I (-1 : Int))], []⟩) (φ := True ∧ True) (by kernel_rfl) ⟨trivial, trivial⟩ ?_
              refine VO.nil ?_
              show VW _ _ _ _ _ _ _
              refine VW.ret ?_
              replace h := Option.some.inj h
              subst h
              exact retR [] (by kernel_rfl) rfl
            · replace h := cond_f h hb; clear hb
              refine VW.skip ?_
              show VW _ _ _ _ _ _ _
              refine VW.region ?_
              refine VO.seg T_ok .dp 2 [0, 2, 7, 23, 24] [] (s' := ⟨[(0, .lf (.v (.sl Y89) a0)), (2, I a2), (7, I y26), (23, I y16), (24, I (IntKind.i64.wrap (x21 + (1 : Int))))], []⟩) (φ := True ∧ True ∧ True) (by kernel_rfl) ⟨trivial, trivial, trivial⟩ ?_
              refine VO.nil ?_
              exact around [.ren [0, 2, 7, 23, 24] []] (by kernel_rfl) ⟨y26, (IntKind.i64.wrap (x21 + (1 : Int))), rfl, h⟩
          · replace h := cond_f h hb; clear hb
            refine VW.exit ?_
            exact arrive [.ren [7] []] (by kernel_rfl) ⟨x20, rfl, h⟩
      · rintro s ⟨x13, rfl, h⟩
        unfold F113_j0 at h
        refine VW.seq ?_
        refine VW.region ?_
        refine VO.seg T_ok .dp 2 [6] [] (s' := ⟨[(6, I x13)], []⟩) (φ := True ∧ True ∧ True) (by kernel_rfl) ⟨trivial, trivial, trivial⟩ ?_
        refine VO.nil ?_
        show VW _ _ _ _ _ _ _
        refine VW.ret ?_
        replace h := Option.some.inj h
        subst h
        exact retR [] (by kernel_rfl) rfl
def F113_r (N : Nat) : Nat → (List (Int × (ByteArray × (Int × (Int × (Int × (Bool × (List Int)))))))) → Int → Int → Option (Int) := loopF (F113_b N) (fun _ _ _ => none)
theorem F113_s (N : Nat) {k : Nat} (hk : 0 < k) (a0 : (List (Int × (ByteArray × (Int × (Int × (Int × (Bool × (List Int))))))))) (a1 : Int) (a2 : Int) : F113_r N k a0 a1 a2 = F113_b N (F113_r N (k - 1)) a0 a1 a2 := by
  cases k with
  | zero => exact absurd hk (Nat.lt_irrefl 0)
  | succ m => rfl
def F113 (N : Nat) : (List (Int × (ByteArray × (Int × (Int × (Int × (Bool × (List Int)))))))) → Int → Int → Option (Int) := F113_r N N
theorem ok113_k (N : Nat) : ∀ (k : Nat) (a0 : (List (Int × (ByteArray × (Int × (Int × (Int × (Bool × (List Int))))))))) (a1 : Int) (a2 : Int) (r : Int), loopF (F113_b N) (fun _ _ _ => none) k a0 a1 a2 = some r → Con Go.Proofs.Try.prog 113 [.lf (.v (.sl Y89) a0), I a1, I a2] [.lf (.v (.int .i64) r)]
  | 0, a0, a1, a2, r, h => nomatch (show (none : Option (Int)) = some r from h)
  | k + 1, a0, a1, a2, r, h => ok113_b N _ (ok113_k N k) a0 a1 a2 h
theorem ok113 (N : Nat) (a0 : (List (Int × (ByteArray × (Int × (Int × (Int × (Bool × (List Int))))))))) (a1 : Int) (a2 : Int) {r : Int} (h : F113 N a0 a1 a2 = some r) : Con Go.Proofs.Try.prog 113 [.lf (.v (.sl Y89) a0), I a1, I a2] [.lf (.v (.int .i64) r)] := ok113_k N N a0 a1 a2 r h

/- loop.example/g00844/impl.PlanOk -/
def F67 (N : Nat) (a0 : (List (Int × (ByteArray × (Int × (Int × (Int × (Bool × (List Int))))))))) : Option (Bool) :=
  andO (F54 N (a0.length : Int) (1 : Int) (40 : Int)) fun y3 => cond (!y3) (some false) (andO (F110 N a0 (fun z0 => F111 N z0)) fun y4 => cond y4 (some false) (andO (F113 N a0 (0 : Int) (1 : Int)) fun y5 => some (y5 == (a0.length : Int))))
theorem ok67 (N : Nat) (a0 : (List (Int × (ByteArray × (Int × (Int × (Int × (Bool × (List Int))))))))) {r : Bool} (h : F67 N a0 = some r) : Con Go.Proofs.Try.prog 67 [.lf (.v (.sl Y89) a0)] [.lf (.v .bool r)] := by
  refine ⟨enters_of Go.Proofs.Try.func67 rfl (by decide), HC.intro [.lf (.v .bool)] T_ok Go.Proofs.Try.func67 rfl (Nat.le_of_ble_eq_true rfl) (Nat.le_of_ble_eq_true rfl) fun w0 E0 => ?_⟩
  unfold F67 at h
  show VW _ _ _ _ _ (retQ _ _ _ _) _
  refine VW.seq ?_
  refine VW.region ?_
  refine VO.seg T_ok .dp 1 [0] [] (s' := ⟨[(0, .lf (.v (.sl Y89) a0))], []⟩) (φ := True ∧ True) (by kernel_rfl) ⟨trivial, trivial⟩ ?_
  refine VO.nil ?_
  show VW _ _ _ _ _ _ _
  refine VW.seq ?_
  refine VW.seq ?_
  refine VW.region ?_
  refine VO.seg T_ok .dp 2 [0, 4] [] (s' := ⟨[(0, .lf (.v (.sl Y89) a0)), (4, I (a0.length : Int))], []⟩) (φ := True ∧ True ∧ True) (by kernel_rfl) ⟨trivial, trivial, trivial⟩ ?_
  obtain ⟨y3, hy, h⟩ := andO_some h
  refine VO.call false [.t (.int .i64), .t (.int .i64), .t (.int .i64)] [] T_ok (d := some 5) (by kernel_rfl) (ok54 N _ _ _ hy) rfl ?_
  refine VO.seg T_ok .dp 2 [0, 7] [] (s' := ⟨[(0, .lf (.v (.sl Y89) a0)), (7, B (!y3))], []⟩) (φ := True ∧ True ∧ True) (by kernel_rfl) ⟨trivial, trivial, trivial⟩ ?_
  refine VO.splitB 7 (b := (!y3)) (by kernel_rfl) (fun hb => ?_) (fun hb => ?_)
  · replace h := cond_t h hb; clear hb
    refine VO.seg T_ok .dp 3 [0, 10] [] (s' := ⟨[(0, .lf (.v (.sl Y89) a0)), (10, B true)], []⟩) (φ := True ∧ True ∧ True ∧ True) (by kernel_rfl) ⟨trivial, trivial, trivial, trivial⟩ ?_
    refine VO.nil ?_
    show VW _ _ _ _ _ _ _
    refine VW.cond (b := true) (by kernel_rfl) (fun _ => ?_) (fun h' => nomatch h')
    refine VW.seq ?_
    refine VW.region ?_
    refine VO.seg T_ok .dp 1 [2] [] (s' := ⟨[(2, B false)], []⟩) (φ := True ∧ True) (by kernel_rfl) ⟨trivial, trivial⟩ ?_
    refine VO.nil ?_
    show VW _ _ _ _ _ _ _
    refine VW.ret ?_
    replace h := Option.some.inj h
    subst h
    exact retR [] (by kernel_rfl) rfl
  · replace h := cond_f h hb; clear hb
    refine VO.seg T_ok .dp 1 [0, 7, 8] [] (s' := ⟨[(0, .lf (.v (.sl Y89) a0)), (7, B false), (8, .lf (.v (.sl Y89) a0))], []⟩) (φ := True ∧ True) (by kernel_rfl) ⟨trivial, trivial⟩ ?_
    refine VO.on (j := 4) (want := false) (d := 7) (b := false) rfl rfl rfl (by kernel_rfl) rfl ?_
    obtain ⟨y4, hy, h⟩ := andO_some h
    refine VO.call false [.t (.sl Y89), .clo []] [] T_ok (d := some 9) (by kernel_rfl) (ok110 N _ 111  (fun z0 => F111 N z0 ) (fun z0 _ hz => ok111 N z0 hz) hy) rfl ?_
    refine VO.seg T_ok .dp 1 [0, 10] [] (s' := ⟨[(0, .lf (.v (.sl Y89) a0)), (10, B y4)], []⟩) (φ := True ∧ True) (by kernel_rfl) ⟨trivial, trivial⟩ ?_
    refine VO.nil ?_
    show VW _ _ _ _ _ _ _
    refine VW.cond (b := y4) (by kernel_rfl) (fun hb => ?_) (fun hb => ?_)
    · replace h := cond_t h hb; clear hb
      refine VW.seq ?_
      refine VW.region ?_
      refine VO.seg T_ok .dp 1 [2] [] (s' := ⟨[(2, B false)], []⟩) (φ := True ∧ True) (by kernel_rfl) ⟨trivial, trivial⟩ ?_
      refine VO.nil ?_
      show VW _ _ _ _ _ _ _
      refine VW.ret ?_
      replace h := Option.some.inj h
      subst h
      exact retR [] (by kernel_rfl) rfl
    · replace h := cond_f h hb; clear hb
      refine VW.skip ?_
      show VW _ _ _ _ _ _ _
      refine VW.seq ?_
      refine VW.region ?_
      refine VO.seg T_ok .dp 1 [0, 11] [] (s' := ⟨[(0, .lf (.v (.sl Y89) a0)), (11, .lf (.v (.sl Y89) a0))], []⟩) (φ := True ∧ True) (by kernel_rfl) ⟨trivial, trivial⟩ ?_
      obtain ⟨y5, hy, h⟩ := andO_some h
      refine VO.call false [.t (.sl Y89), .t (.int .i64), .t (.int .i64)] [] T_ok (d := some 12) (by kernel_rfl) (ok113 N _ _ _ hy) rfl ?_
      refine VO.seg T_ok .dp 4 [2] [] (s' := ⟨[(2, B (y5 == (a0.length : Int)))], []⟩) (φ := True ∧ True ∧ True ∧ True ∧ True) (by kernel_rfl) ⟨trivial, trivial, trivial, trivial, trivial⟩ ?_
      refine VO.nil ?_
      show VW _ _ _ _ _ _ _
      refine VW.ret ?_
      replace h := Option.some.inj h
      subst h
      exact retR [] (by kernel_rfl) rfl

/- loop.example/g00844/laws.szIntS -/
def F132 (N : Nat) (a0 : (List Int)) (a1 : Int) : Option (Int) :=
  cond (decide ((IntKind.i64.wrap (a1 - (a0.length : Int))) < (0 : Int))) (some (-1 : Int)) (some (IntKind.i64.wrap (a1 - (a0.length : Int))))
theorem ok132 (N : Nat) (a0 : (List Int)) (a1 : Int) {r : Int} (h : F132 N a0 a1 = some r) : Con Go.Proofs.Try.prog 132 [.lf (.v (.sl (.int .i64)) a0), I a1] [.lf (.v (.int .i64) r)] := by
  refine ⟨enters_of Go.Proofs.Try.func132 rfl (by decide), HC.intro [.lf (.v (.int .i64))] T_ok Go.Proofs.Try.func132 rfl (Nat.le_of_ble_eq_true rfl) (Nat.le_of_ble_eq_true rfl) fun w0 E0 => ?_⟩
  unfold F132 at h
  show VW _ _ _ _ _ (retQ _ _ _ _) _
  refine VW.seq ?_
  refine VW.region ?_
  refine VO.seg T_ok .dp 1 [0, 1] [] (s' := ⟨[(0, .lf (.v (.sl (.int .i64)) a0)), (1, I a1)], []⟩) (φ := True ∧ True) (by kernel_rfl) ⟨trivial, trivial⟩ ?_
  refine VO.nil ?_
  show VW _ _ _ _ _ _ _
  refine VW.seq ?_
  refine VW.region ?_
  refine VO.seg T_ok .dp 5 [1] [] (s' := ⟨[(1, I (IntKind.i64.wrap (a1 - (a0.length : Int))))], []⟩) (φ := True ∧ True ∧ True ∧ True ∧ True ∧ True) (by kernel_rfl) ⟨trivial, trivial, trivial, trivial, trivial, trivial⟩ ?_
  refine VO.nil ?_
  show VW _ _ _ _ _ _ _
  refine VW.seq ?_
  refine VW.seq ?_
  refine VW.region ?_
  refine VO.seg T_ok .dp 2 [1, 10] [] (s' := ⟨[(1, I (IntKind.i64.wrap (a1 - (a0.length : Int)))), (10, B (decide ((IntKind.i64.wrap (a1 - (a0.length : Int))) < (0 : Int))))], []⟩) (φ := True ∧ True ∧ True) (by kernel_rfl) ⟨trivial, trivial, trivial⟩ ?_
  refine VO.nil ?_
  show VW _ _ _ _ _ _ _
  refine VW.cond (b := (decide ((IntKind.i64.wrap (a1 - (a0.length : Int))) < (0 : Int)))) (by kernel_rfl) (fun hb => ?_) (fun hb => ?_)
  · replace h := cond_t h hb; clear hb
    refine VW.seq ?_
    refine VW.region ?_
    refine VO.seg T_ok .dp 1 [4] [] (s' := ⟨[(4, I (-1 : Int))], []⟩) (φ := True ∧ True) (by kernel_rfl) ⟨trivial, trivial⟩ ?_
    refine VO.nil ?_
    show VW _ _ _ _ _ _ _
    refine VW.ret ?_
    replace h := Option.some.inj h
    subst h
    exact retR [] (by kernel_rfl) rfl
  · replace h := cond_f h hb; clear hb
    refine VW.skip ?_
    show VW _ _ _ _ _ _ _
    refine VW.seq ?_
    refine VW.region ?_
    refine VO.seg T_ok .dp 2 [4] [] (s' := ⟨[(4, I (IntKind.i64.wrap (a1 - (a0.length : Int))))], []⟩) (φ := True ∧ True ∧ True) (by kernel_rfl) ⟨trivial, trivial, trivial⟩ ?_
    refine VO.nil ?_
    show VW _ _ _ _ _ _ _
    refine VW.ret ?_
    replace h := Option.some.inj h
    subst h
    exact retR [] (by kernel_rfl) rfl

/- loop.example/g00844/laws.szNode -/
def F83 (N : Nat) (a0 : (Int × (ByteArray × (Int × (Int × (Int × (Bool × (List Int)))))))) (a1 : Int) : Option (Int) :=
  cond (decide ((IntKind.i64.wrap (a1 - (a0.2.1.size : Int))) < (0 : Int))) (some (-1 : Int)) (andO (F132 N a0.2.2.2.2.2.2 (IntKind.i64.wrap (a1 - (a0.2.1.size : Int)))) fun y1 => cond (decide (y1 < (0 : Int))) (some (-1 : Int)) (some y1))
theorem ok83 (N : Nat) (a0 : (Int × (ByteArray × (Int × (Int × (Int × (Bool × (List Int)))))))) (a1 : Int) {r : Int} (h : F83 N a0 a1 = some r) : Con Go.Proofs.Try.prog 83 [.agg [.v (.int .i64) a0.1, .v .str a0.2.1, .v (.int .i64) a0.2.2.1, .v (.int .i64) a0.2.2.2.1, .v (.int .i64) a0.2.2.2.2.1, .v .bool a0.2.2.2.2.2.1, .v (.sl (.int .i64)) a0.2.2.2.2.2.2], I a1] [.lf (.v (.int .i64) r)] := by
  refine ⟨enters_of Go.Proofs.Try.func83 rfl (by decide), HC.intro [.lf (.v (.int .i64))] T_ok Go.Proofs.Try.func83 rfl (Nat.le_of_ble_eq_true rfl) (Nat.le_of_ble_eq_true rfl) fun w0 E0 => ?_⟩
  unfold F83 at h
  show VW _ _ _ _ _ (retQ _ _ _ _) _
  refine VW.seq ?_
  refine VW.region ?_
  refine VO.seg T_ok .dp 2 [1, 2] [0] (s' := ⟨[(1, I a1), (2, .lf (.ptr 0 0 0 0))], [bx [.v (.int .i64) a0.1, .v .str a0.2.1, .v (.int .i64) a0.2.2.1, .v (.int .i64) a0.2.2.2.1, .v (.int .i64) a0.2.2.2.2.1, .v .bool a0.2.2.2.2.2.1, .v (.sl (.int .i64)) a0.2.2.2.2.2.2] 102]⟩) (φ := True ∧ True ∧ True) (by kernel_rfl) ⟨trivial, trivial, trivial⟩ ?_
  refine VO.nil ?_
  show VW _ _ _ _ _ _ _
  refine VW.seq ?_
  refine VW.region ?_
  refine VO.seg T_ok .dp 6 [1, 2] [0] (s' := ⟨[(1, I (IntKind.i64.wrap (a1 - (a0.2.1.size : Int)))), (2, .lf (.ptr 0 0 0 0))], [bx [.v (.int .i64) a0.1, .v .str a0.2.1, .v (.int .i64) a0.2.2.1, .v (.int .i64) a0.2.2.2.1, .v (.int .i64) a0.2.2.2.2.1, .v .bool a0.2.2.2.2.2.1, .v (.sl (.int .i64)) a0.2.2.2.2.2.2] 102]⟩) (φ := True ∧ True ∧ True ∧ True ∧ True ∧ True ∧ True) (by kernel_rfl) ⟨trivial, trivial, trivial, trivial, trivial, trivial, trivial⟩ ?_
  refine VO.nil ?_
  show VW _ _ _ _ _ _ _
  refine VW.seq ?_
  refine VW.seq ?_
  refine VW.region ?_
  refine VO.seg T_ok .dp 2 [1, 2, 11] [0] (s' := ⟨[(1, I (IntKind.i64.wrap (a1 - (a0.2.1.size : Int)))), (2, .lf (.ptr 0 0 0 0)), (11, B (decide ((IntKind.i64.wrap (a1 - (a0.2.1.size : Int))) < (0 : Int))))], [bx [.v (.int .i64) a0.1, .v .str a0.2.1, .v (.int .i64) a0.2.2.1, .v (.int .i64) a0.2.2.2.1, .v (.int .i64) a0.2.2.2.2.1, .v .bool a0.2.2.2.2.2.1, .v (.sl (.int .i64)) a0.2.2.2.2.2.2] 102]⟩) (φ := True ∧ True ∧ True) (by kernel_rfl) ⟨trivial, trivial, trivial⟩ ?_
  refine VO.nil ?_
  show VW _ _ _ _ _ _ _
  refine VW.cond (b := (decide ((IntKind.i64.wrap (a1 - (a0.2.1.size : Int))) < (0 : Int)))) (by kernel_rfl) (fun hb => ?_) (fun hb => ?_)
  · replace h := cond_t h hb; clear hb
    refine VW.seq ?_
    refine VW.region ?_
    refine VO.seg T_ok .dp 1 [4] [] (s' := ⟨[(4, I (-1 : Int))], []⟩) (φ := True ∧ True) (by kernel_rfl) ⟨trivial, trivial⟩ ?_
    refine VO.nil ?_
    show VW _ _ _ _ _ _ _
    refine VW.ret ?_
    replace h := Option.some.inj h
    subst h
    exact retR [] (by kernel_rfl) rfl
  · replace h := cond_f h hb; clear hb
    refine VW.skip ?_
    show VW _ _ _ _ _ _ _
    refine VW.seq ?_
    refine VW.region ?_
    refine VO.seg T_ok .dp 3 [13, 14] [] (s' := ⟨[(13, .lf (.v (.sl (.int .i64)) a0.2.2.2.2.2.2)), (14, I (IntKind.i64.wrap (a1 - (a0.2.1.size : Int))))], []⟩) (φ := True ∧ True ∧ True ∧ True) (by kernel_rfl) ⟨trivial, trivial, trivial, trivial⟩ ?_
    obtain ⟨y1, hy, h⟩ := andO_some h
    refine VO.call false [.t (.sl (.int .i64)), .t (.int .i64)] [] T_ok (d := some 15) (by kernel_rfl) (ok132 N _ _ hy) rfl ?_
    refine VO.seg T_ok .dp 1 [1] [] (s' := ⟨[(1, I y1)], []⟩) (φ := True ∧ True) (by kernel_rfl) ⟨trivial, trivial⟩ ?_
    refine VO.nil ?_
    show VW _ _ _ _ _ _ _
    refine VW.seq ?_
    refine VW.seq ?_
    refine VW.region ?_
    refine VO.seg T_ok .dp 2 [1, 17] [] (s' := ⟨[(1, I y1), (17, B (decide (y1 < (0 : Int))))], []⟩) (φ := True ∧ True ∧ True) (by kernel_rfl) ⟨trivial, trivial, trivial⟩ ?_
    refine VO.nil ?_
    show VW _ _ _ _ _ _ _
    refine VW.cond (b := (decide (y1 < (0 : Int)))) (by kernel_rfl) (fun hb => ?_) (fun hb => ?_)
    · replace h := cond_t h hb; clear hb
      refine VW.seq ?_
      refine VW.region ?_
      refine VO.seg T_ok .dp 1 [4] [] (s' := ⟨[(4, I (-1 : Int))], []⟩) (φ := True ∧ True) (by kernel_rfl) ⟨trivial, trivial⟩ ?_
      refine VO.nil ?_
      show VW _ _ _ _ _ _ _
      refine VW.ret ?_
      replace h := Option.some.inj h
      subst h
      exact retR [] (by kernel_rfl) rfl
    · replace h := cond_f h hb; clear hb
      refine VW.skip ?_
      show VW _ _ _ _ _ _ _
      refine VW.seq ?_
      refine VW.region ?_
      refine VO.seg T_ok .dp 2 [4] [] (s' := ⟨[(4, I y1)], []⟩) (φ := True ∧ True ∧ True) (by kernel_rfl) ⟨trivial, trivial, trivial⟩ ?_
      refine VO.nil ?_
      show VW _ _ _ _ _ _ _
      refine VW.ret ?_
      replace h := Option.some.inj h
      subst h
      exact retR [] (by kernel_rfl) rfl

/- loop.example/g00844/laws.szNodeS -/
def F38_j0 (N : Nat) (x17 : Int) : Option (Int) :=
  some x17
def F38_l0_b (N : Nat) (a0 : (List (Int × (ByteArray × (Int × (Int × (Int × (Bool × (List Int))))))))) (nx30 : Int → Int → Option (Int)) (x24 : Int) (x25 : Int) : Option (Int) :=
  cond (decide (x25 < (a0.length : Int))) (gd (InR x25 a0.length) (andO (F83 N (a0.getD x25.toNat (Ty.dflt Y89)) x24) fun y34 => cond (decide (y34 < (0 : Int))) (some (-1 : Int)) (nx30 y34 (IntKind.i64.wrap (x25 + (1 : Int)))))) (F38_j0 N x24)
def F38_l0 (N : Nat) (a0 : (List (Int × (ByteArray × (Int × (Int × (Int × (Bool × (List Int))))))))) : Nat → Int → Int → Option (Int) := loopF (F38_l0_b N a0) (fun _ _ => none)
theorem F38_l0_s (N : Nat) (a0 : (List (Int × (ByteArray × (Int × (Int × (Int × (Bool × (List Int))))))))) {k : Nat} (hk : 0 < k) (x24 : Int) (x25 : Int) : F38_l0 N a0 k x24 x25 = F38_l0_b N a0 (F38_l0 N a0 (k - 1)) x24 x25 := by
  cases k with
  | zero => exact absurd hk (Nat.lt_irrefl 0)
  | succ m => rfl
def F38 (N : Nat) (a0 : (List (Int × (ByteArray × (Int × (Int × (Int × (Bool × (List Int))))))))) (a1 : Int) : Option (Int) :=
  cond (decide ((IntKind.i64.wrap (a1 - (a0.length : Int))) < (0 : Int))) (some (-1 : Int)) (F38_l0 N a0 N (IntKind.i64.wrap (a1 - (a0.length : Int))) (0 : Int))
theorem ok38 (N : Nat) (a0 : (List (Int × (ByteArray × (Int × (Int × (Int × (Bool × (List Int))))))))) (a1 : Int) {r : Int} (h : F38 N a0 a1 = some r) : Con Go.Proofs.Try.prog 38 [.lf (.v (.sl Y89) a0), I a1] [.lf (.v (.int .i64) r)] := by
  refine ⟨enters_of Go.Proofs.Try.func38 rfl (by decide), HC.intro [.lf (.v (.int .i64))] T_ok Go.Proofs.Try.func38 rfl (Nat.le_of_ble_eq_true rfl) (Nat.le_of_ble_eq_true rfl) fun w0 E0 => ?_⟩
  unfold F38 at h
  show VW _ _ _ _ _ (retQ _ _ _ _) _
  refine VW.seq ?_
  refine VW.region ?_
  refine VO.seg T_ok .dp 1 [0, 1] [] (s' := ⟨[(0, .lf (.v (.sl Y89) a0)), (1, I a1)], []⟩) (φ := True ∧ True) (by kernel_rfl) ⟨trivial, trivial⟩ ?_
  refine VO.nil ?_
  show VW _ _ _ _ _ _ _
  refine VW.seq ?_
  refine VW.region ?_
  refine VO.seg T_ok .dp 5 [0, 1] [] (s' := ⟨[(0, .lf (.v (.sl Y89) a0)), (1, I (IntKind.i64.wrap (a1 - (a0.length : Int))))], []⟩) (φ := True ∧ True ∧ True ∧ True ∧ True ∧ True) (by kernel_rfl) ⟨trivial, trivial, trivial, trivial, trivial, trivial⟩ ?_
  refine VO.nil ?_
  show VW _ _ _ _ _ _ _
  refine VW.seq ?_
  refine VW.seq ?_
  refine VW.region ?_
  refine VO.seg T_ok .dp 2 [0, 1, 11] [] (s' := ⟨[(0, .lf (.v (.sl Y89) a0)), (1, I (IntKind.i64.wrap (a1 - (a0.length : Int)))), (11, B (decide ((IntKind.i64.wrap (a1 - (a0.length : Int))) < (0 : Int))))], []⟩) (φ := True ∧ True ∧ True) (by kernel_rfl) ⟨trivial, trivial, trivial⟩ ?_
  refine VO.nil ?_
  show VW _ _ _ _ _ _ _
  refine VW.cond (b := (decide ((IntKind.i64.wrap (a1 - (a0.length : Int))) < (0 : Int)))) (by kernel_rfl) (fun hb => ?_) (fun hb => ?_)
  · replace h := cond_t h hb; clear hb
    refine VW.seq ?_
    refine VW.region ?_
    refine VO.seg T_ok .dp 1 [4] [] (s' := ⟨[(4, I (-1 : Int))], []⟩) (φ := True ∧ True) (by kernel_rfl) ⟨trivial, trivial⟩ ?_
    refine VO.nil ?_
    show VW _ _ _ _ _ _ _
    refine VW.ret ?_
    replace h := Option.some.inj h
    subst h
    exact retR [] (by kernel_rfl) rfl
  · replace h := cond_f h hb; clear hb
    refine VW.skip ?_
    show VW _ _ _ _ _ _ _
    refine VW.join (fun s => ∃ (x17 : Int), s = ⟨[(1, I x17)], []⟩ ∧ F38_j0 N x17 = some r) ?_ ?_
    · refine VW.seq ?_
      refine VW.region ?_
      refine VO.seg T_ok .dp 1 [0, 1, 5] [] (s' := ⟨[(0, .lf (.v (.sl Y89) a0)), (1, I (IntKind.i64.wrap (a1 - (a0.length : Int)))), (5, I (0 : Int))], []⟩) (φ := True ∧ True) (by kernel_rfl) ⟨trivial, trivial⟩ ?_
      refine VO.nil ?_
      show VW _ _ _ _ _ _ _
      refine VW.block ?_
      refine VW.loopL (fun k s => ∃ (x24 : Int) (x25 : Int), s = ⟨[(0, .lf (.v (.sl Y89) a0)), (1, I x24), (5, I x25)], []⟩ ∧ F38_l0 N a0 k x24 x25 = some r) N [.ren [0, 1, 5] []] (by kernel_rfl) ⟨(IntKind.i64.wrap (a1 - (a0.length : Int))), (0 : Int), rfl, h⟩ ?_
      rintro k30 s ⟨x24, x25, rfl, h⟩
      cases k30 with
      | zero => exact nomatch (show (none : Option (Int)) = some r from h)
      | succ k30 =>
        replace h : F38_l0_b N a0 (F38_l0 N a0 k30) x24 x25 = some r := h
        unfold F38_l0_b at h
        refine VW.seq ?_
        refine VW.seq ?_
        refine VW.region ?_
        refine VO.seg T_ok .dp 4 [0, 1, 5, 15] [] (s' := ⟨[(0, .lf (.v (.sl Y89) a0)), (1, I x24), (5, I x25), (15, B (decide (x25 < (a0.length : Int))))], []⟩) (φ := True ∧ True ∧ True ∧ True ∧ True) (by kernel_rfl) ⟨trivial, trivial, trivial, trivial, trivial⟩ ?_
        refine VO.nil ?_
        show VW _ _ _ _ _ _ _
        refine VW.cond (b := (decide (x25 < (a0.length : Int)))) (by kernel_rfl) (fun hb => ?_) (fun hb => ?_)
        · replace h := cond_t h hb; clear hb
          refine VW.skip ?_
          show VW _ _ _ _ _ _ _
          refine VW.seq ?_
          refine VW.block ?_
          refine VW.seq ?_
          refine VW.region ?_
          obtain ⟨g33, h⟩ := gd_some h
          refine VO.seg T_ok .dp 5 [0, 5, 21, 22] [] (s' := ⟨[(0, .lf (.v (.sl Y89) a0)), (5, I x25), (21, .agg [.v (.int .i64) ((a0.getD x25.toNat (Ty.dflt Y89)).1), .v .str ((a0.getD x25.toNat (Ty.dflt Y89)).2.1), .v (.int .i64) ((a0.getD x25.toNat (Ty.dflt Y89)).2.2.1), .v (.int .i64) ((a0.getD x25.toNat (Ty.dflt Y89)).2.2.2.1), .v (.int .i64) ((a0.getD x25.toNat (Ty.dflt Y89)).2.2.2.2.1), .v .bool ((a0.getD x25.toNat (Ty.dflt Y89)).2.2.2.2.2.1), .v (.sl (.int .i64)) ((a0.getD x25.toNat (Ty.dflt Y89)).2.2.2.2.2.2)]), (22, I x24)], []⟩) (φ := True ∧ True ∧ (InR x25 a0.length) ∧ True ∧ True ∧ True) (by kernel_rfl) ⟨trivial, trivial, g33, trivial, trivial, trivial⟩ ?_
          obtain ⟨y34, hy, h⟩ := andO_some h
          refine VO.call false [.t Y89, .t (.int .i64)] [] T_ok (d := some 23) (by kernel_rfl) (ok83 N _ _ hy) rfl ?_
          refine VO.seg T_ok .dp 1 [0, 1, 5] [] (s' := ⟨[(0, .lf (.v (.sl Y89) a0)), (1, I y34), (5, I x25)], []⟩) (φ := True ∧ True) (by kernel_rfl) ⟨trivial, trivial⟩ ?_
          refine VO.nil ?_
          show VW _ _ _ _ _ _ _
          refine VW.seq ?_
          refine VW.region ?_
          refine VO.seg T_ok .dp 2 [0, 1, 5, 25] [] (s' := ⟨[(0, .lf (.v (.sl Y89) a0)), (1, I y34), (5, I x25), (25, B (decide (y34 < (0 : Int))))], []⟩) (φ := True ∧ True ∧ True) (by kernel_rfl) ⟨trivial, trivial, trivial⟩ ?_
          refine VO.nil ?_
          show VW _ _ _ _ _ _ _
          refine VW.cond (b := (decide (y34 < (0 : Int)))) (by kernel_rfl) (fun hb => ?_) (fun hb => ?_)
          · replace h := cond_t h hb; clear hb
            refine VW.seq ?_
            refine VW.region ?_
            refine VO.seg T_ok .dp 1 [4] [] (s' := ⟨[(4, I (-1 : Int))], []⟩) (φ := True ∧ True) (by kernel_rfl) ⟨trivial, trivial⟩ ?_
            refine VO.nil ?_
            show VW _ _ _ _ _ _ _
            refine VW.ret ?_
            replace h := Option.some.inj h
            subst h
            exact retR [] (by kernel_rfl) rfl
          · replace h := cond_f h hb; clear hb
            refine VW.skip ?_
            show VW _ _ _ _ _ _ _
            refine VW.region ?_
            refine VO.seg T_ok .dp 3 [0, 1, 5] [] (s' := ⟨[(0, .lf (.v (.sl Y89) a0)), (1, I y34), (5, I (IntKind.i64.wrap (x25 + (1 : Int))))], []⟩) (φ := True ∧ True ∧ True ∧ True) (by kernel_rfl) ⟨trivial, trivial, trivial, trivial⟩ ?_
            refine VO.nil ?_
            exact around [.ren [0, 1, 5] []] (by kernel_rfl) ⟨y34, (IntKind.i64.wrap (x25 + (1 : Int))), rfl, h⟩
        · replace h := cond_f h hb; clear hb
          refine VW.exit ?_
          exact arrive [.ren [1] []] (by kernel_rfl) ⟨x24, rfl, h⟩
    · rintro s ⟨x17, rfl, h⟩
      unfold F38_j0 at h
      refine VW.seq ?_
      refine VW.region ?_
      refine VO.seg T_ok .dp 2 [4] [] (s' := ⟨[(4, I x17)], []⟩) (φ := True ∧ True ∧ True) (by kernel_rfl) ⟨trivial, trivial, trivial⟩ ?_
      refine VO.nil ?_
      show VW _ _ _ _ _ _ _
      refine VW.ret ?_
      replace h := Option.some.inj h
      subst h
      exact retR [] (by kernel_rfl) rfl

/- loop.example/g00844/spec.l07Literal -/
def F84 (N : Nat) (a0 : (Int × (ByteArray × (Int × (Int × (Int × (Bool × (List Int)))))))) : Option (Bool) :=
  cond (a0.1 == (1 : Int)) (cond (a0.2.2.2.1 != (3 : Int)) (some true) (some (a0.1 == (6 : Int)))) (some (a0.1 == (6 : Int)))
theorem ok84 (N : Nat) (a0 : (Int × (ByteArray × (Int × (Int × (Int × (Bool × (List Int)))))))) {r : Bool} (h : F84 N a0 = some r) : Con Go.Proofs.Try.prog 84 [.agg [.v (.int .i64) a0.1, .v .str a0.2.1, .v (.int .i64) a0.2.2.1, .v (.int .i64) a0.2.2.2.1, .v (.int .i64) a0.2.2.2.2.1, .v .bool a0.2.2.2.2.2.1, .v (.sl (.int .i64)) a0.2.2.2.2.2.2]] [.lf (.v .bool r)] := by
  refine ⟨enters_of Go.Proofs.Try.func84 rfl (by decide), HC.intro [.lf (.v .bool)] T_ok Go.Proofs.Try.func84 rfl (Nat.le_of_ble_eq_true rfl) (Nat.le_of_ble_eq_true rfl) fun w0 E0 => ?_⟩
  unfold F84 at h
  show VW _ _ _ _ _ (retQ _ _ _ _) _
  refine VW.seq ?_
  refine VW.region ?_
  refine VO.seg T_ok .dp 2 [1] [0] (s' := ⟨[(1, .lf (.ptr 0 0 0 0))], [bx [.v (.int .i64) a0.1, .v .str a0.2.1, .v (.int .i64) a0.2.2.1, .v (.int .i64) a0.2.2.2.1, .v (.int .i64) a0.2.2.2.2.1, .v .bool a0.2.2.2.2.2.1, .v (.sl (.int .i64)) a0.2.2.2.2.2.2] 90]⟩) (φ := True ∧ True ∧ True) (by kernel_rfl) ⟨trivial, trivial, trivial⟩ ?_
  refine VO.nil ?_
  show VW _ _ _ _ _ _ _
  refine VW.seq ?_
  refine VW.region ?_
  refine VO.seg T_ok .dp 4 [1, 6] [0] (s' := ⟨[(1, .lf (.ptr 0 0 0 0)), (6, B (a0.1 == (1 : Int)))], [bx [.v (.int .i64) a0.1, .v .str a0.2.1, .v (.int .i64) a0.2.2.1, .v (.int .i64) a0.2.2.2.1, .v (.int .i64) a0.2.2.2.2.1, .v .bool a0.2.2.2.2.2.1, .v (.sl (.int .i64)) a0.2.2.2.2.2.2] 90]⟩) (φ := True ∧ True ∧ True ∧ True ∧ True) (by kernel_rfl) ⟨trivial, trivial, trivial, trivial, trivial⟩ ?_
  refine VO.splitB 6 (b := (a0.1 == (1 : Int))) (by kernel_rfl) (fun hb => ?_) (fun hb => ?_)
  · replace h := cond_t h hb; clear hb
    refine VO.seg T_ok .dp 5 [1, 11] [0] (s' := ⟨[(1, .lf (.ptr 0 0 0 0)), (11, B (a0.2.2.2.1 != (3 : Int)))], [bx [.v (.int .i64) a0.1, .v .str a0.2.1, .v (.int .i64) a0.2.2.1, .v (.int .i64) a0.2.2.2.1, .v (.int .i64) a0.2.2.2.2.1, .v .bool a0.2.2.2.2.2.1, .v (.sl (.int .i64)) a0.2.2.2.2.2.2] 90]⟩) (φ := True ∧ True ∧ True ∧ True ∧ True ∧ True) (by kernel_rfl) ⟨trivial, trivial, trivial, trivial, trivial, trivial⟩ ?_
    refine VO.splitB 11 (b := (a0.2.2.2.1 != (3 : Int))) (by kernel_rfl) (fun hb => ?_) (fun hb => ?_)
    · replace h := cond_t h hb; clear hb
      refine VO.seg T_ok .dp 5 [2] [] (s' := ⟨[(2, B true)], []⟩) (φ := True ∧ True ∧ True ∧ True ∧ True ∧ True) (by kernel_rfl) ⟨trivial, trivial, trivial, trivial, trivial, trivial⟩ ?_
      refine VO.nil ?_
      show VW _ _ _ _ _ _ _
      refine VW.ret ?_
      replace h := Option.some.inj h
      subst h
      exact retR [] (by kernel_rfl) rfl
    · replace h := cond_f h hb; clear hb
      refine VO.seg T_ok .dp 5 [2] [] (s' := ⟨[(2, B (a0.1 == (6 : Int)))], []⟩) (φ := True ∧ True ∧ True ∧ True ∧ True ∧ True) (by kernel_rfl) ⟨trivial, trivial, trivial, trivial, trivial, trivial⟩ ?_
      refine VO.nil ?_
      show VW _ _ _ _ _ _ _
      refine VW.ret ?_
      replace h := Option.some.inj h
      subst h
      exact retR [] (by kernel_rfl) rfl
  · replace h := cond_f h hb; clear hb
    refine VO.seg T_ok .dp 10 [2] [] (s' := ⟨[(2, B (a0.1 == (6 : Int)))], []⟩) (φ := True ∧ True ∧ True ∧ True ∧ True ∧ True ∧ True ∧ True ∧ True ∧ True ∧ True) (by kernel_rfl) ⟨trivial, trivial, trivial, trivial, trivial, trivial, trivial, trivial, trivial, trivial, trivial⟩ ?_
    refine VO.nil ?_
    show VW _ _ _ _ _ _ _
    refine VW.ret ?_
    replace h := Option.some.inj h
    subst h
    exact retR [] (by kernel_rfl) rfl

/- loop.example/g00844/spec.LiteralsOf -/
def F39_j0 (N : Nat) (x42 : (List Int)) : Option ((List Int)) :=
  some x42
def F39_j1 (N : Nat) (nx70 : (List Int) → Int → Option ((List Int))) (x57 : Int) (x76 : (List Int)) : Option ((List Int)) :=
  nx70 x76 (IntKind.i64.wrap (x57 + (1 : Int)))
def F39_l0_b (N : Nat) (a0 : (List (Int × (ByteArray × (Int × (Int × (Int × (Bool × (List Int))))))))) (nx70 : (List Int) → Int → Option ((List Int))) (x56 : (List Int)) (x57 : Int) : Option ((List Int)) :=
  cond (decide (x57 < (a0.length : Int))) (gd (InR x57 a0.length) (andO (F84 N (a0.getD x57.toNat (Ty.dflt Y89))) fun y79 => cond y79 (gd (InR x57 a0.length) (cond (!((a0.getD x57.toNat (Ty.dflt Y89)).2.2.2.2.2.1)) (gd (InR x57 a0.length) (gd (x56.length + ([(a0.getD x57.toNat (Ty.dflt Y89)).2.2.2.2.1]).length ≤ lim (.int .i64)) (F39_j1 N nx70 x57 (x56 ++ ([(a0.getD x57.toNat (Ty.dflt Y89)).2.2.2.2.1]))))) (F39_j1 N nx70 x57 x56))) (F39_j1 N nx70 x57 x56))) (F39_j0 N x56)
def F39_l0 (N : Nat) (a0 : (List (Int × (ByteArray × (Int × (Int × (Int × (Bool × (List Int))))))))) : Nat → (List Int) → Int → Option ((List Int)) := loopF (F39_l0_b N a0) (fun _ _ => none)
theorem F39_l0_s (N : Nat) (a0 : (List (Int × (ByteArray × (Int × (Int × (Int × (Bool × (List Int))))))))) {k : Nat} (hk : 0 < k) (x56 : (List Int)) (x57 : Int) : F39_l0 N a0 k x56 x57 = F39_l0_b N a0 (F39_l0 N a0 (k - 1)) x56 x57 := by
  cases k with
  | zero => exact absurd hk (Nat.lt_irrefl 0)
  | succ m => rfl
def F39 (N : Nat) (a0 : (List (Int × (ByteArray × (Int × (Int × (Int × (Bool × (List Int))))))))) : Option ((List Int)) :=
  andO (F62 N a0) fun y2 => cond (!y2) (some ([])) (F39_l0 N a0 N ([]) (0 : Int))
theorem ok39 (N : Nat) (a0 : (List (Int × (ByteArray × (Int × (Int × (Int × (Bool × (List Int))))))))) {r : (List Int)} (h : F39 N a0 = some r) : Con Go.Proofs.Try.prog 39 [.lf (.v (.sl Y89) a0)] [.lf (.own (.int .i64) r .dp)] := by
  refine ⟨enters_of Go.Proofs.Try.func39 rfl (by decide), HC.intro [.lf (.own (.int .i64) .dp)] T_ok Go.Proofs.Try.func39 rfl (Nat.le_of_ble_eq_true rfl) (Nat.le_of_ble_eq_true rfl) fun w0 E0 => ?_⟩
  unfold F39 at h
  show VW _ _ _ _ _ (retQ _ _ _ _) _
  refine VW.seq ?_
  refine VW.region ?_
  refine VO.seg T_ok .dp 1 [0] [] (s' := ⟨[(0, .lf (.v (.sl Y89) a0))], []⟩) (φ := True ∧ True) (by kernel_rfl) ⟨trivial, trivial⟩ ?_
  refine VO.nil ?_
  show VW _ _ _ _ _ _ _
  refine VW.seq ?_
  refine VW.region ?_
  refine VO.seg T_ok .dp 2 [0, 3] [] (s' := ⟨[(0, .lf (.v (.sl Y89) a0)), (3, .lf (.nil))], []⟩) (φ := True ∧ True ∧ True) (by kernel_rfl) ⟨trivial, trivial, trivial⟩ ?_
  refine VO.nil ?_
  show VW _ _ _ _ _ _ _
  refine VW.seq ?_
  refine VW.seq ?_
  refine VW.region ?_
  refine VO.seg T_ok .dp 1 [0, 3, 6] [] (s' := ⟨[(0, .lf (.v (.sl Y89) a0)), (3, .lf (.nil)), (6, .lf (.v (.sl Y89) a0))], []⟩) (φ := True ∧ True) (by kernel_rfl) ⟨trivial, trivial⟩ ?_
  obtain ⟨y2, hy, h⟩ := andO_some h
  refine VO.call false [.t (.sl Y89)] [] T_ok (d := some 7) (by kernel_rfl) (ok62 N _ hy) rfl ?_
  refine VO.seg T_ok .dp 1 [0, 3, 8] [] (s' := ⟨[(0, .lf (.v (.sl Y89) a0)), (3, .lf (.nil)), (8, B (!y2))], []⟩) (φ := True ∧ True) (by kernel_rfl) ⟨trivial, trivial⟩ ?_
  refine VO.nil ?_
  show VW _ _ _ _ _ _ _
  refine VW.cond (b := (!y2)) (by kernel_rfl) (fun hb => ?_) (fun hb => ?_)
  · replace h := cond_t h hb; clear hb
    refine VW.seq ?_
    refine VW.region ?_
    refine VO.seg T_ok .dp 1 [2] [] (s' := ⟨[(2, .lf (.nil))], []⟩) (φ := True ∧ True) (by kernel_rfl) ⟨trivial, trivial⟩ ?_
    refine VO.nil ?_
    show VW _ _ _ _ _ _ _
    refine VW.ret ?_
    replace h := Option.some.inj h
    subst h
    exact retR [none] (by kernel_rfl) rfl
  · replace h := cond_f h hb; clear hb
    refine VW.skip ?_
    show VW _ _ _ _ _ _ _
    refine VW.join (fun s => ∃ (x42 : (List Int)), s = ⟨[(3, .lf (.hd 0 0 none))], [ar 0 (.int .i64) x42 .dp]⟩ ∧ F39_j0 N x42 = some r) ?_ ?_
    · refine VW.seq ?_
      refine VW.region ?_
      refine VO.seg T_ok .dp 1 [0, 3, 4] [] (s' := ⟨[(0, .lf (.v (.sl Y89) a0)), (3, .lf (.nil)), (4, I (0 : Int))], []⟩) (φ := True ∧ True) (by kernel_rfl) ⟨trivial, trivial⟩ ?_
      refine VO.nil ?_
      show VW _ _ _ _ _ _ _
      refine VW.block ?_
      refine VW.loopL (fun k s => ∃ (x56 : (List Int)) (x57 : Int), s = ⟨[(0, .lf (.v (.sl Y89) a0)), (3, .lf (.hd 0 0 none)), (4, I x57)], [ar 0 (.int .i64) x56 .dp]⟩ ∧ F39_l0 N a0 k x56 x57 = some r) N [.nilS 3 (.int .i64) .dp, .ren [0, 3, 4] [0]] (by kernel_rfl) ⟨[], (0 : Int), rfl, h⟩ ?_
      rintro k70 s ⟨x56, x57, rfl, h⟩
      cases k70 with
      | zero => exact nomatch (show (none : Option ((List Int))) = some r from h)
      | succ k70 =>
        replace h : F39_l0_b N a0 (F39_l0 N a0 k70) x56 x57 = some r := h
        unfold F39_l0_b at h
        refine VW.seq ?_
        refine VW.seq ?_
        refine VW.region ?_
        refine VO.seg T_ok .dp 4 [0, 3, 4, 12] [0] (s' := ⟨[(0, .lf (.v (.sl Y89) a0)), (3, .lf (.hd 0 0 none)), (4, I x57), (12, B (decide (x57 < (a0.length : Int))))], [ar 0 (.int .i64) x56 .dp]⟩) (φ := True ∧ True ∧ True ∧ True ∧ True) (by kernel_rfl) ⟨trivial, trivial, trivial, trivial, trivial⟩ ?_
        refine VO.nil ?_
        show VW _ _ _ _ _ _ _
        refine VW.cond (b := (decide (x57 < (a0.length : Int)))) (by kernel_rfl) (fun hb => ?_) (fun hb => ?_)
        · replace h := cond_t h hb; clear hb
          refine VW.skip ?_
          show VW _ _ _ _ _ _ _
          refine VW.join (fun s => ∃ (x76 : (List Int)), s = ⟨[(0, .lf (.v (.sl Y89) a0)), (3, .lf (.hd 0 0 none)), (4, I x57)], [ar 0 (.int .i64) x76 .dp]⟩ ∧ F39_j1 N (F39_l0 N a0 k70) x57 x76 = some r) ?_ ?_
          · refine VW.block ?_
            refine VW.seq ?_
            refine VW.region ?_
            obtain ⟨g78, h⟩ := gd_some h
            refine VO.seg T_ok .dp 4 [0, 3, 4, 18] [0] (s' := ⟨[(0, .lf (.v (.sl Y89) a0)), (3, .lf (.hd 0 0 none)), (4, I x57), (18, .agg [.v (.int .i64) ((a0.getD x57.toNat (Ty.dflt Y89)).1), .v .str ((a0.getD x57.toNat (Ty.dflt Y89)).2.1), .v (.int .i64) ((a0.getD x57.toNat (Ty.dflt Y89)).2.2.1), .v (.int .i64) ((a0.getD x57.toNat (Ty.dflt Y89)).2.2.2.1), .v (.int .i64) ((a0.getD x57.toNat (Ty.dflt Y89)).2.2.2.2.1), .v .bool ((a0.getD x57.toNat (Ty.dflt Y89)).2.2.2.2.2.1), .v (.sl (.int .i64)) ((a0.getD x57.toNat (Ty.dflt Y89)).2.2.2.2.2.2)])], [ar 0 (.int .i64) x56 .dp]⟩) (φ := True ∧ True ∧ (InR x57 a0.length) ∧ True ∧ True) (by kernel_rfl) ⟨trivial, trivial, g78, trivial, trivial⟩ ?_
            obtain ⟨y79, hy, h⟩ := andO_some h
            refine VO.call false [.t Y89] [] T_ok (d := some 19) (by kernel_rfl) (ok84 N _ hy) rfl ?_
            refine VO.seg T_ok .dp 1 [0, 3, 4, 20] [0] (s' := ⟨[(0, .lf (.v (.sl Y89) a0)), (3, .lf (.hd 0 0 none)), (4, I x57), (20, B y79)], [ar 0 (.int .i64) x56 .dp]⟩) (φ := True ∧ True) (by kernel_rfl) ⟨trivial, trivial⟩ ?_
            refine VO.splitB 20 (b := y79) (by kernel_rfl) (fun hb => ?_) (fun hb => ?_)
            · replace h := cond_t h hb; clear hb
              obtain ⟨g80, h⟩ := gd_some h
              refine VO.seg T_ok .dp 7 [0, 3, 4, 27] [0] (s' := ⟨[(0, .lf (.v (.sl Y89) a0)), (3, .lf (.hd 0 0 none)), (4, I x57), (27, B (!((a0.getD x57.toNat (Ty.dflt Y89)).2.2.2.2.2.1)))], [ar 0 (.int .i64) x56 .dp]⟩) (φ := True ∧ True ∧ (InR x57 a0.length) ∧ True ∧ True ∧ True ∧ True ∧ True) (by kernel_rfl) ⟨trivial, trivial, g80, trivial, trivial, trivial, trivial, trivial⟩ ?_
              refine VO.nil ?_
              show VW _ _ _ _ _ _ _
              refine VW.cond (b := (!((a0.getD x57.toNat (Ty.dflt Y89)).2.2.2.2.2.1))) (by kernel_rfl) (fun hb => ?_) (fun hb => ?_)
              · replace h := cond_t h hb; clear hb
                refine VW.region ?_
                obtain ⟨g81, h⟩ := gd_some h
                obtain ⟨g82, h⟩ := gd_some h
                refine VO.seg T_ok .dp 9 [0, 3, 4] [0] (s' := ⟨[(0, .lf (.v (.sl Y89) a0)), (3, .lf (.hd 0 0 none)), (4, I x57)], [ar 0 (.int .i64) (x56 ++ ([(a0.getD x57.toNat (Ty.dflt Y89)).2.2.2.2.1])) .dp]⟩) (φ := True ∧ True ∧ True ∧ (InR x57 a0.length) ∧ True ∧ True ∧ True ∧ (x56.length + ([(a0.getD x57.toNat (Ty.dflt Y89)).2.2.2.2.1]).length ≤ lim (.int .i64)) ∧ True ∧ True) (by kernel_rfl) ⟨trivial, trivial, trivial, g81, trivial, trivial, trivial, g82, trivial, trivial⟩ ?_
                refine VO.nil ?_
                exact arrive [.ren [0, 3, 4] [0]] (by kernel_rfl) ⟨(x56 ++ ([(a0.getD x57.toNat (Ty.dflt Y89)).2.2.2.2.1])), rfl, h⟩
              · replace h := cond_f h hb; clear hb
                refine VW.skip ?_
                exact arrive [.ren [0, 3, 4] [0]] (by kernel_rfl) ⟨x56, rfl, h⟩
            · replace h := cond_f h hb; clear hb
              refine VO.seg T_ok .dp 7 [0, 3, 4, 27] [0] (s' := ⟨[(0, .lf (.v (.sl Y89) a0)), (3, .lf (.hd 0 0 none)), (4, I x57), (27, B false)], [ar 0 (.int .i64) x56 .dp]⟩) (φ := True ∧ True ∧ True ∧ True ∧ True ∧ True ∧ True ∧ True) (by kernel_rfl) ⟨trivial, trivial, trivial, trivial, trivial, trivial, trivial, trivial⟩ ?_
              refine VO.nil ?_
              show VW _ _ _ _ _ _ _
              refine VW.cond (b := false) (by kernel_rfl) (fun h' => nomatch h') (fun _ => ?_)
              refine VW.skip ?_
              exact arrive [.ren [0, 3, 4] [0]] (by kernel_rfl) ⟨x56, rfl, h⟩
          · rintro s ⟨x76, rfl, h⟩
            unfold F39_j1 at h
            refine VW.region ?_
            refine VO.seg T_ok .dp 3 [0, 3, 4] [0] (s' := ⟨[(0, .lf (.v (.sl Y89) a0)), (3, .lf (.hd 0 0 none)), (4, I (IntKind.i64.wrap (x57 + (1 : Int))))], [ar 0 (.int .i64) x76 .dp]⟩) (φ := True ∧ True ∧ True ∧ True) (by kernel_rfl) ⟨trivial, trivial, trivial, trivial⟩ ?_
            refine VO.nil ?_
            exact around [.ren [0, 3, 4] [0]] (by kernel_rfl) ⟨x76, (IntKind.i64.wrap (x57 + (1 : Int))), rfl, h⟩
        · replace h := cond_f h hb; clear hb
          refine VW.exit ?_
          exact arrive [.ren [3] [0]] (by kernel_rfl) ⟨x56, rfl, h⟩
    · rintro s ⟨x42, rfl, h⟩
      unfold F39_j0 at h
      refine VW.seq ?_
      refine VW.region ?_
      refine VO.seg T_ok .dp 2 [2] [0] (s' := ⟨[(2, .lf (.hd 0 0 none))], [ar 0 (.int .i64) x42 .dp]⟩) (φ := True ∧ True ∧ True) (by kernel_rfl) ⟨trivial, trivial, trivial⟩ ?_
      refine VO.nil ?_
      show VW _ _ _ _ _ _ _
      refine VW.ret ?_
      replace h := Option.some.inj h
      subst h
      exact retR [some 0] (by kernel_rfl) rfl

/- loop.example/g00844/laws.toIntS -/
def F133_j0 (N : Nat) (x24 : (List Int)) : Option ((List Int)) :=
  some x24
def F133_l0_b (N : Nat) (a0 : (List Int)) (nx41 : (List Int) → Int → Option ((List Int))) (x33 : (List Int)) (x34 : Int) : Option ((List Int)) :=
  cond (decide (x34 < (a0.length : Int))) (gd (InR x34 a0.length) (gd (InR x34 x33.length) (gd (x34.toNat < x33.length) (nx41 (x33.set x34.toNat (a0.getD x34.toNat (Ty.dflt (.int .i64)))) (IntKind.i64.wrap (x34 + (1 : Int))))))) (F133_j0 N x33)
def F133_l0 (N : Nat) (a0 : (List Int)) : Nat → (List Int) → Int → Option ((List Int)) := loopF (F133_l0_b N a0) (fun _ _ => none)
theorem F133_l0_s (N : Nat) (a0 : (List Int)) {k : Nat} (hk : 0 < k) (x33 : (List Int)) (x34 : Int) : F133_l0 N a0 k x33 x34 = F133_l0_b N a0 (F133_l0 N a0 (k - 1)) x33 x34 := by
  cases k with
  | zero => exact absurd hk (Nat.lt_irrefl 0)
  | succ m => rfl
def F133 (N : Nat) (a0 : (List Int)) : Option ((List Int)) :=
  gd (0 ≤ (a0.length : Int) ∧ (a0.length : Int) ≤ (lim (.int .i64) : Int) ∧ (a0.length : Int) = (a0.length : Int)) (F133_l0 N a0 N (List.replicate (a0.length : Int).toNat (Ty.dflt (.int .i64))) (0 : Int))
theorem ok133 (N : Nat) (a0 : (List Int)) {r : (List Int)} (h : F133 N a0 = some r) : Con Go.Proofs.Try.prog 133 [.lf (.v (.sl (.int .i64)) a0)] [.lf (.own (.int .i64) r .dp)] := by
  refine ⟨enters_of Go.Proofs.Try.func133 rfl (by decide), HC.intro [.lf (.own (.int .i64) .dp)] T_ok Go.Proofs.Try.func133 rfl (Nat.le_of_ble_eq_true rfl) (Nat.le_of_ble_eq_true rfl) fun w0 E0 => ?_⟩
  unfold F133 at h
  show VW _ _ _ _ _ (retQ _ _ _ _) _
  refine VW.seq ?_
  refine VW.region ?_
  refine VO.seg T_ok .dp 1 [0] [] (s' := ⟨[(0, .lf (.v (.sl (.int .i64)) a0))], []⟩) (φ := True ∧ True) (by kernel_rfl) ⟨trivial, trivial⟩ ?_
  refine VO.nil ?_
  show VW _ _ _ _ _ _ _
  refine VW.seq ?_
  refine VW.region ?_
  obtain ⟨g1, h⟩ := gd_some h
  refine VO.seg T_ok .dp 4 [0, 3] [0] (s' := ⟨[(0, .lf (.v (.sl (.int .i64)) a0)), (3, .lf (.hd 0 0 none))], [ar 0 (.int .i64) (List.replicate (a0.length : Int).toNat (Ty.dflt (.int .i64))) .dp]⟩) (φ := True ∧ True ∧ (0 ≤ (a0.length : Int) ∧ (a0.length : Int) ≤ (lim (.int .i64) : Int) ∧ (a0.length : Int) = (a0.length : Int)) ∧ True ∧ True) (by kernel_rfl) ⟨trivial, trivial, g1, trivial, trivial⟩ ?_
  refine VO.nil ?_
  show VW _ _ _ _ _ _ _
  refine VW.join (fun s => ∃ (x24 : (List Int)), s = ⟨[(3, .lf (.hd 0 0 none))], [ar 0 (.int .i64) x24 .dp]⟩ ∧ F133_j0 N x24 = some r) ?_ ?_
  · refine VW.seq ?_
    refine VW.region ?_
    refine VO.seg T_ok .dp 1 [0, 3, 4] [0] (s' := ⟨[(0, .lf (.v (.sl (.int .i64)) a0)), (3, .lf (.hd 0 0 none)), (4, I (0 : Int))], [ar 0 (.int .i64) (List.replicate (a0.length : Int).toNat (Ty.dflt (.int .i64))) .dp]⟩) (φ := True ∧ True) (by kernel_rfl) ⟨trivial, trivial⟩ ?_
    refine VO.nil ?_
    show VW _ _ _ _ _ _ _
    refine VW.block ?_
    refine VW.loopL (fun k s => ∃ (x33 : (List Int)) (x34 : Int), s = ⟨[(0, .lf (.v (.sl (.int .i64)) a0)), (3, .lf (.hd 0 0 none)), (4, I x34)], [ar 0 (.int .i64) x33 .dp]⟩ ∧ F133_l0 N a0 k x33 x34 = some r) N [.ren [0, 3, 4] [0]] (by kernel_rfl) ⟨(List.replicate (a0.length : Int).toNat (Ty.dflt (.int .i64))), (0 : Int), rfl, h⟩ ?_
    rintro k41 s ⟨x33, x34, rfl, h⟩
    cases k41 with
    | zero => exact nomatch (show (none : Option ((List Int))) = some r from h)
    | succ k41 =>
      replace h : F133_l0_b N a0 (F133_l0 N a0 k41) x33 x34 = some r := h
      unfold F133_l0_b at h
      refine VW.seq ?_
      refine VW.seq ?_
      refine VW.region ?_
      refine VO.seg T_ok .dp 4 [0, 3, 4, 11] [0] (s' := ⟨[(0, .lf (.v (.sl (.int .i64)) a0)), (3, .lf (.hd 0 0 none)), (4, I x34), (11, B (decide (x34 < (a0.length : Int))))], [ar 0 (.int .i64) x33 .dp]⟩) (φ := True ∧ True ∧ True ∧ True ∧ True) (by kernel_rfl) ⟨trivial, trivial, trivial, trivial, trivial⟩ ?_
      refine VO.nil ?_
      show VW _ _ _ _ _ _ _
      refine VW.cond (b := (decide (x34 < (a0.length : Int)))) (by kernel_rfl) (fun hb => ?_) (fun hb => ?_)
      · replace h := cond_t h hb; clear hb
        refine VW.skip ?_
        show VW _ _ _ _ _ _ _
        refine VW.seq ?_
        refine VW.block ?_
        refine VW.region ?_
        obtain ⟨g45, h⟩ := gd_some h
        obtain ⟨g46, h⟩ := gd_some h
        obtain ⟨g47, h⟩ := gd_some h
        refine VO.seg T_ok .dp 8 [0, 3, 4] [0] (s' := ⟨[(0, .lf (.v (.sl (.int .i64)) a0)), (3, .lf (.hd 0 0 none)), (4, I x34)], [ar 0 (.int .i64) (x33.set x34.toNat (a0.getD x34.toNat (Ty.dflt (.int .i64)))) .dp]⟩) (φ := True ∧ True ∧ True ∧ True ∧ (InR x34 a0.length) ∧ True ∧ (InR x34 x33.length) ∧ (x34.toNat < x33.length) ∧ True) (by kernel_rfl) ⟨trivial, trivial, trivial, trivial, g45, trivial, g46, g47, trivial⟩ ?_
        refine VO.nil ?_
        show VW _ _ _ _ _ _ _
        refine VW.region ?_
        refine VO.seg T_ok .dp 3 [0, 3, 4] [0] (s' := ⟨[(0, .lf (.v (.sl (.int .i64)) a0)), (3, .lf (.hd 0 0 none)), (4, I (IntKind.i64.wrap (x34 + (1 : Int))))], [ar 0 (.int .i64) (x33.set x34.toNat (a0.getD x34.toNat (Ty.dflt (.int .i64)))) .dp]⟩) (φ := True ∧ True ∧ True ∧ True) (by kernel_rfl) ⟨trivial, trivial, trivial, trivial⟩ ?_
        refine VO.nil ?_
        exact around [.ren [0, 3, 4] [0]] (by kernel_rfl) ⟨(x33.set x34.toNat (a0.getD x34.toNat (Ty.dflt (.int .i64)))), (IntKind.i64.wrap (x34 + (1 : Int))), rfl, h⟩
      · replace h := cond_f h hb; clear hb
        refine VW.exit ?_
        exact arrive [.ren [3] [0]] (by kernel_rfl) ⟨x33, rfl, h⟩
  · rintro s ⟨x24, rfl, h⟩
    unfold F133_j0 at h
    refine VW.seq ?_
    refine VW.region ?_
    refine VO.seg T_ok .dp 2 [2] [0] (s' := ⟨[(2, .lf (.hd 0 0 none))], [ar 0 (.int .i64) x24 .dp]⟩) (φ := True ∧ True ∧ True) (by kernel_rfl) ⟨trivial, trivial, trivial⟩ ?_
    refine VO.nil ?_
    show VW _ _ _ _ _ _ _
    refine VW.ret ?_
    replace h := Option.some.inj h
    subst h
    exact retR [some 0] (by kernel_rfl) rfl

/- loop.example/g00844/laws.toNode -/
def F85 (N : Nat) (a0 : (Int × (ByteArray × (Int × (Int × (Int × (Bool × (List Int)))))))) : Option ((Int × (ByteArray × (Int × (Int × (Int × (Bool × (List Int)))))))) :=
  andO (F133 N a0.2.2.2.2.2.2) fun y1 => some (a0.1, (a0.2.1, (a0.2.2.1, (a0.2.2.2.1, (a0.2.2.2.2.1, (a0.2.2.2.2.2.1, y1))))))
theorem ok85 (N : Nat) (a0 : (Int × (ByteArray × (Int × (Int × (Int × (Bool × (List Int)))))))) {r : (Int × (ByteArray × (Int × (Int × (Int × (Bool × (List Int)))))))} (h : F85 N a0 = some r) : Con Go.Proofs.Try.prog 85 [.agg [.v (.int .i64) a0.1, .v .str a0.2.1, .v (.int .i64) a0.2.2.1, .v (.int .i64) a0.2.2.2.1, .v (.int .i64) a0.2.2.2.2.1, .v .bool a0.2.2.2.2.2.1, .v (.sl (.int .i64)) a0.2.2.2.2.2.2]] [.agg [.v (.int .i64) r.1, .v .str r.2.1, .v (.int .i64) r.2.2.1, .v (.int .i64) r.2.2.2.1, .v (.int .i64) r.2.2.2.2.1, .v .bool r.2.2.2.2.2.1, .own (.int .i64) r.2.2.2.2.2.2 .dp]] := by
  refine ⟨enters_of Go.Proofs.Try.func85 rfl (by decide), HC.intro [.agg [.v (.int .i64), .v .str, .v (.int .i64), .v (.int .i64), .v (.int .i64), .v .bool, .own (.int .i64) .dp]] T_ok Go.Proofs.Try.func85 rfl (Nat.le_of_ble_eq_true rfl) (Nat.le_of_ble_eq_true rfl) fun w0 E0 => ?_⟩
  unfold F85 at h
  show VW _ _ _ _ _ (retQ _ _ _ _) _
  refine VW.seq ?_
  refine VW.region ?_
  refine VO.seg T_ok .dp 2 [1, 2] [0, 1] (s' := ⟨[(1, .lf (.ptr 0 0 0 0)), (2, .lf (.ptr 1 0 0 0))], [bx [.v (.int .i64) a0.1, .v .str a0.2.1, .v (.int .i64) a0.2.2.1, .v (.int .i64) a0.2.2.2.1, .v (.int .i64) a0.2.2.2.2.1, .v .bool a0.2.2.2.2.2.1, .v (.sl (.int .i64)) a0.2.2.2.2.2.2] 102, bx [.v (.int .i64) (0 : Int), .v .str ByteArray.empty, .v (.int .i64) (0 : Int), .v (.int .i64) (0 : Int), .v (.int .i64) (0 : Int), .v .bool false, .nil] 90]⟩) (φ := True ∧ True ∧ True) (by kernel_rfl) ⟨trivial, trivial, trivial⟩ ?_
  refine VO.nil ?_
  show VW _ _ _ _ _ _ _
  refine VW.seq ?_
  refine VW.region ?_
  refine VO.seg T_ok .dp 1 [1, 2, 3] [0, 1, 2] (s' := ⟨[(1, .lf (.ptr 0 0 0 0)), (2, .lf (.ptr 1 0 0 0)), (3, .lf (.ptr 2 0 0 0))], [bx [.v (.int .i64) a0.1, .v .str a0.2.1, .v (.int .i64) a0.2.2.1, .v (.int .i64) a0.2.2.2.1, .v (.int .i64) a0.2.2.2.2.1, .v .bool a0.2.2.2.2.2.1, .v (.sl (.int .i64)) a0.2.2.2.2.2.2] 102, bx [.v (.int .i64) (0 : Int), .v .str ByteArray.empty, .v (.int .i64) (0 : Int), .v (.int .i64) (0 : Int), .v (.int .i64) (0 : Int), .v .bool false, .nil] 90, bx [.v (.int .i64) (0 : Int), .v .str ByteArray.empty, .v (.int .i64) (0 : Int), .v (.int .i64) (0 : Int), .v (.int .i64) (0 : Int), .v .bool false, .nil] 90]⟩) (φ := True ∧ True) (by kernel_rfl) ⟨trivial, trivial⟩ ?_
  refine VO.nil ?_
  show VW _ _ _ _ _ _ _
  refine VW.seq ?_
  refine VW.region ?_
  refine VO.seg T_ok .dp 4 [1, 2, 3] [0, 1, 2] (s' := ⟨[(1, .lf (.ptr 0 0 0 0)), (2, .lf (.ptr 1 0 0 0)), (3, .lf (.ptr 2 0 0 0))], [bx [.v (.int .i64) a0.1, .v .str a0.2.1, .v (.int .i64) a0.2.2.1, .v (.int .i64) a0.2.2.2.1, .v (.int .i64) a0.2.2.2.2.1, .v .bool a0.2.2.2.2.2.1, .v (.sl (.int .i64)) a0.2.2.2.2.2.2] 102, bx [.v (.int .i64) (0 : Int), .v .str ByteArray.empty, .v (.int .i64) (0 : Int), .v (.int .i64) (0 : Int), .v (.int .i64) (0 : Int), .v .bool false, .nil] 90, bx [.v (.int .i64) a0.1, .v .str ByteArray.empty, .v (.int .i64) (0 : Int), .v (.int .i64) (0 : Int), .v (.int .i64) (0 : Int), .v .bool false, .nil] 90]⟩) (φ := True ∧ True ∧ True ∧ True ∧ True) (by kernel_rfl) ⟨trivial, trivial, trivial, trivial, trivial⟩ ?_
  refine VO.nil ?_
  show VW _ _ _ _ _ _ _
  refine VW.seq ?_
  refine VW.region ?_
  refine VO.seg T_ok .dp 4 [1, 2, 3] [0, 1, 2] (s' := ⟨[(1, .lf (.ptr 0 0 0 0)), (2, .lf (.ptr 1 0 0 0)), (3, .lf (.ptr 2 0 0 0))], [bx [.v (.int .i64) a0.1, .v .str a0.2.1, .v (.int .i64) a0.2.2.1, .v (.int .i64) a0.2.2.2.1, .v (.int .i64) a0.2.2.2.2.1, .v .bool a0.2.2.2.2.2.1, .v (.sl (.int .i64)) a0.2.2.2.2.2.2] 102, bx [.v (.int .i64) (0 : Int), .v .str ByteArray.empty, .v (.int .i64) (0 : Int), .v (.int .i64) (0 : Int), .v (.int .i64) (0 : Int), .v .bool false, .nil] 90, bx [.v (.int .i64) a0.1, .v .str a0.2.1, .v (.int .i64) (0 : Int), .v (.int .i64) (0 : Int), .v (.int .i64) (0 : Int), .v .bool false, .nil] 90]⟩) (φ := True ∧ True ∧ True ∧ True ∧ True) (by kernel_rfl) ⟨trivial, trivial, trivial, trivial, trivial⟩ ?_
  refine VO.nil ?_
  show VW _ _ _ _ _ _ _
  refine VW.seq ?_
  refine VW.region ?_
  refine VO.seg T_ok .dp 4 [1, 2, 3] [0, 1, 2] (s' := ⟨[(1, .lf (.ptr 0 0 0 0)), (2, .lf (.ptr 1 0 0 0)), (3, .lf (.ptr 2 0 0 0))], [bx [.v (.int .i64) a0.1, .v .str a0.2.1, .v (.int .i64) a0.2.2.1, .v (.int .i64) a0.2.2.2.1, .v (.int .i64) a0.2.2.2.2.1, .v .bool a0.2.2.2.2.2.1, .v (.sl (.int .i64)) a0.2.2.2.2.2.2] 102, bx [.v (.int .i64) (0 : Int), .v .str ByteArray.empty, .v (.int .i64) (0 : Int), .v (.int .i64) (0 : Int), .v (.int .i64) (0 : Int), .v .bool false, .nil] 90, bx [.v (.int .i64) a0.1, .v .str a0.2.1, .v (.int .i64) a0.2.2.1, .v (.int .i64) (0 : Int), .v (.int .i64) (0 : Int), .v .bool false, .nil] 90]⟩) (φ := True ∧ True ∧ True ∧ True ∧ True) (by kernel_rfl) ⟨trivial, trivial, trivial, trivial, trivial⟩ ?_
  refine VO.nil ?_
  show VW _ _ _ _ _ _ _
  refine VW.seq ?_
  refine VW.region ?_
  refine VO.seg T_ok .dp 4 [1, 2, 3] [0, 1, 2] (s' := ⟨[(1, .lf (.ptr 0 0 0 0)), (2, .lf (.ptr 1 0 0 0)), (3, .lf (.ptr 2 0 0 0))], [bx [.v (.int .i64) a0.1, .v .str a0.2.1, .v (.int .i64) a0.2.2.1, .v (.int .i64) a0.2.2.2.1, .v (.int .i64) a0.2.2.2.2.1, .v .bool a0.2.2.2.2.2.1, .v (.sl (.int .i64)) a0.2.2.2.2.2.2] 102, bx [.v (.int .i64) (0 : Int), .v .str ByteArray.empty, .v (.int .i64) (0 : Int), .v (.int .i64) (0 : Int), .v (.int .i64) (0 : Int), .v .bool false, .nil] 90, bx [.v (.int .i64) a0.1, .v .str a0.2.1, .v (.int .i64) a0.2.2.1, .v (.int .i64) a0.2.2.2.1, .v (.int .i64) (0 : Int), .v .bool false, .nil] 90]⟩) (φ := True ∧ True ∧ True ∧ True ∧ True) (by kernel_rfl) ⟨trivial, trivial, trivial, trivial, trivial⟩ ?_
  refine VO.nil ?_
  show VW _ _ _ _ _ _ _
  refine VW.seq ?_
  refine VW.region ?_
  refine VO.seg T_ok .dp 4 [1, 2, 3] [0, 1, 2] (s' := ⟨[(1, .lf (.ptr 0 0 0 0)), (2, .lf (.ptr 1 0 0 0)), (3, .lf (.ptr 2 0 0 0))], [bx [.v (.int .i64) a0.1, .v .str a0.2.1, .v (.int .i64) a0.2.2.1, .v (.int .i64) a0.2.2.2.1, .v (.int .i64) a0.2.2.2.2.1, .v .bool a0.2.2.2.2.2.1, .v (.sl (.int .i64)) a0.2.2.2.2.2.2] 102, bx [.v (.int .i64) (0 : Int), .v .str ByteArray.empty, .v (.int .i64) (0 : Int), .v (.int .i64) (0 : Int), .v (.int .i64) (0 : Int), .v .bool false, .nil] 90, bx [.v (.int .i64) a0.1, .v .str a0.2.1, .v (.int .i64) a0.2.2.1, .v (.int .i64) a0.2.2.2.1, .v (.int .i64) a0.2.2.2.2.1, .v .bool false, .nil] 90]⟩) (φ := True ∧ True ∧ True ∧ True ∧ True) (by kernel_rfl) ⟨trivial, trivial, trivial, trivial, trivial⟩ ?_
  refine VO.nil ?_
  show VW _ _ _ _ _ _ _
  refine VW.seq ?_
  refine VW.region ?_
  refine VO.seg T_ok .dp 4 [1, 2, 3] [0, 1, 2] (s' := ⟨[(1, .lf (.ptr 0 0 0 0)), (2, .lf (.ptr 1 0 0 0)), (3, .lf (.ptr 2 0 0 0))], [bx [.v (.int .i64) a0.1, .v .str a0.2.1, .v (.int .i64) a0.2.2.1, .v (.int .i64) a0.2.2.2.1, .v (.int .i64) a0.2.2.2.2.1, .v .bool a0.2.2.2.2.2.1, .v (.sl (.int .i64)) a0.2.2.2.2.2.2] 102, bx [.v (.int .i64) (0 : Int), .v .str ByteArray.empty, .v (.int .i64) (0 : Int), .v (.int .i64) (0 : Int), .v (.int .i64) (0 : Int), .v .bool false, .nil] 90, bx [.v (.int .i64) a0.1, .v .str a0.2.1, .v (.int .i64) a0.2.2.1, .v (.int .i64) a0.2.2.2.1, .v (.int .i64) a0.2.2.2.2.1, .v .bool a0.2.2.2.2.2.1, .nil] 90]⟩) (φ := True ∧ True ∧ True ∧ True ∧ True) (by kernel_rfl) ⟨trivial, trivial, trivial, trivial, trivial⟩ ?_
  refine VO.nil ?_
  show VW _ _ _ _ _ _ _
  refine VW.seq ?_
  refine VW.region ?_
  refine VO.seg T_ok .dp 2 [2, 3, 23] [1, 2] (s' := ⟨[(2, .lf (.ptr 0 0 0 0)), (3, .lf (.ptr 1 0 0 0)), (23, .lf (.v (.sl (.int .i64)) a0.2.2.2.2.2.2))], [bx [.v (.int .i64) (0 : Int), .v .str ByteArray.empty, .v (.int .i64) (0 : Int), .v (.int .i64) (0 : Int), .v (.int .i64) (0 : Int), .v .bool false, .nil] 90, bx [.v (.int .i64) a0.1, .v .str a0.2.1, .v (.int .i64) a0.2.2.1, .v (.int .i64) a0.2.2.2.1, .v (.int .i64) a0.2.2.2.2.1, .v .bool a0.2.2.2.2.2.1, .nil] 90]⟩) (φ := True ∧ True ∧ True) (by kernel_rfl) ⟨trivial, trivial, trivial⟩ ?_
  obtain ⟨y1, hy, h⟩ := andO_some h
  refine VO.call false [.t (.sl (.int .i64))] [] T_ok (d := some 24) (by kernel_rfl) (ok133 N _ hy) rfl ?_
  refine VO.seg T_ok .dp 2 [2, 3] [0, 1, 2] (s' := ⟨[(2, .lf (.ptr 0 0 0 0)), (3, .lf (.ptr 1 0 0 0))], [bx [.v (.int .i64) (0 : Int), .v .str ByteArray.empty, .v (.int .i64) (0 : Int), .v (.int .i64) (0 : Int), .v (.int .i64) (0 : Int), .v .bool false, .nil] 90, bx [.v (.int .i64) a0.1, .v .str a0.2.1, .v (.int .i64) a0.2.2.1, .v (.int .i64) a0.2.2.2.1, .v (.int .i64) a0.2.2.2.2.1, .v .bool a0.2.2.2.2.2.1, .hd 2 0 none] 90, ar 0 (.int .i64) y1 .dp]⟩) (φ := True ∧ True ∧ True) (by kernel_rfl) ⟨trivial, trivial, trivial⟩ ?_
  refine VO.nil ?_
  show VW _ _ _ _ _ _ _
  refine VW.seq ?_
  refine VW.region ?_
  refine VO.seg T_ok .dp 2 [2] [0, 2] (s' := ⟨[(2, .lf (.ptr 0 0 0 0))], [bx [.v (.int .i64) a0.1, .v .str a0.2.1, .v (.int .i64) a0.2.2.1, .v (.int .i64) a0.2.2.2.1, .v (.int .i64) a0.2.2.2.2.1, .v .bool a0.2.2.2.2.2.1, .hd 1 0 none] 90, ar 0 (.int .i64) y1 .dp]⟩) (φ := True ∧ True ∧ True) (by kernel_rfl) ⟨trivial, trivial, trivial⟩ ?_
  refine VO.nil ?_
  show VW _ _ _ _ _ _ _
  refine VW.ret ?_
  replace h := Option.some.inj h
  subst h
  exact retR [some 1] (by kernel_rfl) rfl

/- loop.example/g00844/laws.toNodeS -/
def F40_j0 (N : Nat) (x30 : (List (Int × (ByteArray × (Int × (Int × (Int × (Bool × (List Int))))))))) : Option ((List (Int × (ByteArray × (Int × (Int × (Int × (Bool × (List Int))))))))) :=
  some x30
def F40_l0_b (N : Nat) (a0 : (List (Int × (ByteArray × (Int × (Int × (Int × (Bool × (List Int))))))))) (nx51 : (List (Int × (ByteArray × (Int × (Int × (Int × (Bool × (List Int)))))))) → Int → Option ((List (Int × (ByteArray × (Int × (Int × (Int × (Bool × (List Int)))))))))) (x41 : (List (Int × (ByteArray × (Int × (Int × (Int × (Bool × (List Int))))))))) (x42 : Int) : Option ((List (Int × (ByteArray × (Int × (Int × (Int × (Bool × (List Int))))))))) :=
  cond (decide (x42 < (a0.length : Int))) (gd (InR x42 a0.length) (andO (F85 N (a0.getD x42.toNat (Ty.dflt Y89))) fun y57 => gd (InR x42 x41.length) (gd (x42.toNat < x41.length) (nx51 (x41.set x42.toNat y57) (IntKind.i64.wrap (x42 + (1 : Int))))))) (F40_j0 N x41)
def F40_l0 (N : Nat) (a0 : (List (Int × (ByteArray × (Int × (Int × (Int × (Bool × (List Int))))))))) : Nat → (List (Int × (ByteArray × (Int × (Int × (Int × (Bool × (List Int)))))))) → Int → Option ((List (Int × (ByteArray × (Int × (Int × (Int × (Bool × (List Int))))))))) := loopF (F40_l0_b N a0) (fun _ _ => none)
theorem F40_l0_s (N : Nat) (a0 : (List (Int × (ByteArray × (Int × (Int × (Int × (Bool × (List Int))))))))) {k : Nat} (hk : 0 < k) (x41 : (List (Int × (ByteArray × (Int × (Int × (Int × (Bool × (List Int))))))))) (x42 : Int) : F40_l0 N a0 k x41 x42 = F40_l0_b N a0 (F40_l0 N a0 (k - 1)) x41 x42 := by
  cases k with
  | zero => exact absurd hk (Nat.lt_irrefl 0)
  | succ m => rfl
def F40 (N : Nat) (a0 : (List (Int × (ByteArray × (Int × (Int × (Int × (Bool × (List Int))))))))) : Option ((List (Int × (ByteArray × (Int × (Int × (Int × (Bool × (List Int))))))))) :=
  gd (0 ≤ (a0.length : Int) ∧ (a0.length : Int) ≤ (lim Y89 : Int) ∧ (a0.length : Int) = (a0.length : Int)) (F40_l0 N a0 N (List.replicate (a0.length : Int).toNat (Ty.dflt Y89)) (0 : Int))
theorem ok40 (N : Nat) (a0 : (List (Int × (ByteArray × (Int × (Int × (Int × (Bool × (List Int))))))))) {r : (List (Int × (ByteArray × (Int × (Int × (Int × (Bool × (List Int))))))))} (h : F40 N a0 = some r) : Con Go.Proofs.Try.prog 40 [.lf (.v (.sl Y89) a0)] [.lf (.own Y89 r .dp)] := by
  refine ⟨enters_of Go.Proofs.Try.func40 rfl (by decide), HC.intro [.lf (.own Y89 .dp)] T_ok Go.Proofs.Try.func40 rfl (Nat.le_of_ble_eq_true rfl) (Nat.le_of_ble_eq_true rfl) fun w0 E0 => ?_⟩
  unfold F40 at h
  show VW _ _ _ _ _ (retQ _ _ _ _) _
  refine VW.seq ?_
  refine VW.region ?_
  refine VO.seg T_ok .dp 1 [0] [] (s' := ⟨[(0, .lf (.v (.sl Y89) a0))], []⟩) (φ := True ∧ True) (by kernel_rfl) ⟨trivial, trivial⟩ ?_
  refine VO.nil ?_
  show VW _ _ _ _ _ _ _
  refine VW.seq ?_
  refine VW.region ?_
  obtain ⟨g1, h⟩ := gd_some h
  refine VO.seg T_ok .dp 4 [0, 3] [0] (s' := ⟨[(0, .lf (.v (.sl Y89) a0)), (3, .lf (.hd 0 0 none))], [ar 0 Y89 (List.replicate (a0.length : Int).toNat (Ty.dflt Y89)) .dp]⟩) (φ := True ∧ True ∧ (0 ≤ (a0.length : Int) ∧ (a0.length : Int) ≤ (lim Y89 : Int) ∧ (a0.length : Int) = (a0.length : Int)) ∧ True ∧ True) (by kernel_rfl) ⟨trivial, trivial, g1, trivial, trivial⟩ ?_
  refine VO.nil ?_
  show VW _ _ _ _ _ _ _
  refine VW.join (fun s => ∃ (x30 : (List (Int × (ByteArray × (Int × (Int × (Int × (Bool × (List Int))))))))), s = ⟨[(3, .lf (.hd 0 0 none))], [ar 0 Y89 x30 .dp]⟩ ∧ F40_j0 N x30 = some r) ?_ ?_
  · refine VW.seq ?_
    refine VW.region ?_
    refine VO.seg T_ok .dp 1 [0, 3, 4] [0] (s' := ⟨[(0, .lf (.v (.sl Y89) a0)), (3, .lf (.hd 0 0 none)), (4, I (0 : Int))], [ar 0 Y89 (List.replicate (a0.length : Int).toNat (Ty.dflt Y89)) .dp]⟩) (φ := True ∧ True) (by kernel_rfl) ⟨trivial, trivial⟩ ?_
    refine VO.nil ?_
    show VW _ _ _ _ _ _ _
    refine VW.block ?_
    refine VW.loopL (fun k s => ∃ (x41 : (List (Int × (ByteArray × (Int × (Int × (Int × (Bool × (List Int))))))))) (x42 : Int), s = ⟨[(0, .lf (.v (.sl Y89) a0)), (3, .lf (.hd 0 0 none)), (4, I x42)], [ar 0 Y89 x41 .dp]⟩ ∧ F40_l0 N a0 k x41 x42 = some r) N [.ren [0, 3, 4] [0]] (by kernel_rfl) ⟨(List.replicate (a0.length : Int).toNat (Ty.dflt Y89)), (0 : Int), rfl, h⟩ ?_
    rintro k51 s ⟨x41, x42, rfl, h⟩
    cases k51 with
    | zero => exact nomatch (show (none : Option ((List (Int × (ByteArray × (Int × (Int × (Int × (Bool × (List Int)))))))))) = some r from h)
    | succ k51 =>
      replace h : F40_l0_b N a0 (F40_l0 N a0 k51) x41 x42 = some r := h
      unfold F40_l0_b at h
      refine VW.seq ?_
      refine VW.seq ?_
      refine VW.region ?_
      refine VO.seg T_ok .dp 4 [0, 3, 4, 11] [0] (s' := ⟨[(0, .lf (.v (.sl Y89) a0)), (3, .lf (.hd 0 0 none)), (4, I x42), (11, B (decide (x42 < (a0.length : Int))))], [ar 0 Y89 x41 .dp]⟩) (φ := True ∧ True ∧ True ∧ True ∧ True) (by kernel_rfl) ⟨trivial, trivial, trivial, trivial, trivial⟩ ?_
      refine VO.nil ?_
      show VW _ _ _ _ _ _ _
      refine VW.cond (b := (decide (x42 < (a0.length : Int)))) (by kernel_rfl) (fun hb => ?_) (fun hb => ?_)
      · replace h := cond_t h hb; clear hb
        refine VW.skip ?_
        show VW _ _ _ _ _ _ _
        refine VW.seq ?_
        refine VW.block ?_
        refine VW.region ?_
        obtain ⟨g56, h⟩ := gd_some h
        refine VO.seg T_ok .dp 6 [0, 3, 4, 14, 15, 19] [0] (s' := ⟨[(0, .lf (.v (.sl Y89) a0)), (3, .lf (.hd 0 0 none)), (4, I x42), (14, .lf (.hd 0 0 none)), (15, I x42), (19, .agg [.v (.int .i64) ((a0.getD x42.toNat (Ty.dflt Y89)).1), .v .str ((a0.getD x42.toNat (Ty.dflt Y89)).2.1), .v (.int .i64) ((a0.getD x42.toNat (Ty.dflt Y89)).2.2.1), .v (.int .i64) ((a0.getD x42.toNat (Ty.dflt Y89)).2.2.2.1), .v (.int .i64) ((a0.getD x42.toNat (Ty.dflt Y89)).2.2.2.2.1), .v .bool ((a0.getD x42.toNat (Ty.dflt Y89)).2.2.2.2.2.1), .v (.sl (.int .i64)) ((a0.getD x42.toNat (Ty.dflt Y89)).2.2.2.2.2.2)])], [ar 0 Y89 x41 .dp]⟩) (φ := True ∧ True ∧ True ∧ True ∧ (InR x42 a0.length) ∧ True ∧ True) (by kernel_rfl) ⟨trivial, trivial, trivial, trivial, g56, trivial, trivial⟩ ?_
        obtain ⟨y57, hy, h⟩ := andO_some h
        refine VO.call false [.t Y89] [] T_ok (d := some 20) (by kernel_rfl) (ok85 N _ hy) rfl ?_
        obtain ⟨g58, h⟩ := gd_some h
        refine VO.seg T_ok .dp 1 [0, 3, 4, 20, 21] [0, 1] (s' := ⟨[(0, .lf (.v (.sl Y89) a0)), (3, .lf (.hd 0 0 none)), (4, I x42), (20, .agg [.v (.int .i64) y57.1, .v .str y57.2.1, .v (.int .i64) y57.2.2.1, .v (.int .i64) y57.2.2.2.1, .v (.int .i64) y57.2.2.2.2.1, .v .bool y57.2.2.2.2.2.1, .hd 1 0 none]), (21, .lf (.ptr 0 0 x42.toNat 0))], [ar 0 Y89 x41 .dp, ar 0 (.int .i64) y57.2.2.2.2.2.2 .dp]⟩) (φ := (InR x42 x41.length) ∧ True) (by kernel_rfl) ⟨g58, trivial⟩ ?_
        obtain ⟨g59, h⟩ := gd_some h
        refine VO.storeA (φ := x42.toNat < x41.length) (H' := [ar 0 Y89 (x41.set x42.toNat y57) .dp, none]) T_ok (by kernel_rfl) g59 ?_
        refine VO.seg T_ok .dp 0 [0, 3, 4] [0] (s' := ⟨[(0, .lf (.v (.sl Y89) a0)), (3, .lf (.hd 0 0 none)), (4, I x42)], [ar 0 Y89 (x41.set x42.toNat y57) .dp]⟩) (φ := True) (by kernel_rfl) trivial ?_
        refine VO.nil ?_
        show VW _ _ _ _ _ _ _
        refine VW.region ?_
        refine VO.seg T_ok .dp 3 [0, 3, 4] [0] (s' := ⟨[(0, .lf (.v (.sl Y89) a0)), (3, .lf (.hd 0 0 none)), (4, I (IntKind.i64.wrap (x42 + (1 : Int))))], [ar 0 Y89 (x41.set x42.toNat y57) .dp]⟩) (φ := True ∧ True ∧ True ∧ True) (by kernel_rfl) ⟨trivial, trivial, trivial, trivial⟩ ?_
        refine VO.nil ?_
        exact around [.ren [0, 3, 4] [0]] (by kernel_rfl) ⟨(x41.set x42.toNat y57), (IntKind.i64.wrap (x42 + (1 : Int))), rfl, h⟩
      · replace h := cond_f h hb; clear hb
        refine VW.exit ?_
        exact arrive [.ren [3] [0]] (by kernel_rfl) ⟨x41, rfl, h⟩
  · rintro s ⟨x30, rfl, h⟩
    unfold F40_j0 at h
    refine VW.seq ?_
    refine VW.region ?_
    refine VO.seg T_ok .dp 2 [2] [0] (s' := ⟨[(2, .lf (.hd 0 0 none))], [ar 0 Y89 x30 .dp]⟩) (φ := True ∧ True ∧ True) (by kernel_rfl) ⟨trivial, trivial, trivial⟩ ?_
    refine VO.nil ?_
    show VW _ _ _ _ _ _ _
    refine VW.ret ?_
    replace h := Option.some.inj h
    subst h
    exact retR [some 0] (by kernel_rfl) rfl

/- (loop.example/g00844/impl.Node).isLiteral -/
def F86 (N : Nat) (a0 : (Int × (ByteArray × (Int × (Int × (Int × (Bool × (List Int)))))))) : Option (Bool) :=
  cond (a0.1 == (1 : Int)) (cond (a0.2.2.2.1 != (3 : Int)) (some true) (some (a0.1 == (6 : Int)))) (some (a0.1 == (6 : Int)))
theorem ok86 (N : Nat) (a0 : (Int × (ByteArray × (Int × (Int × (Int × (Bool × (List Int)))))))) {r : Bool} (h : F86 N a0 = some r) : Con Go.Proofs.Try.prog 86 [.agg [.v (.int .i64) a0.1, .v .str a0.2.1, .v (.int .i64) a0.2.2.1, .v (.int .i64) a0.2.2.2.1, .v (.int .i64) a0.2.2.2.2.1, .v .bool a0.2.2.2.2.2.1, .v (.sl (.int .i64)) a0.2.2.2.2.2.2]] [.lf (.v .bool r)] := by
  refine ⟨enters_of Go.Proofs.Try.func86 rfl (by decide), HC.intro [.lf (.v .bool)] T_ok Go.Proofs.Try.func86 rfl (Nat.le_of_ble_eq_true rfl) (Nat.le_of_ble_eq_true rfl) fun w0 E0 => ?_⟩
  unfold F86 at h
  show VW _ _ _ _ _ (retQ _ _ _ _) _
  refine VW.seq ?_
  refine VW.region ?_
  refine VO.seg T_ok .dp 2 [1] [0] (s' := ⟨[(1, .lf (.ptr 0 0 0 0))], [bx [.v (.int .i64) a0.1, .v .str a0.2.1, .v (.int .i64) a0.2.2.1, .v (.int .i64) a0.2.2.2.1, .v (.int .i64) a0.2.2.2.2.1, .v .bool a0.2.2.2.2.2.1, .v (.sl (.int .i64)) a0.2.2.2.2.2.2] 90]⟩) (φ := True ∧ True ∧ True) (by kernel_rfl) ⟨trivial, trivial, trivial⟩ ?_
  refine VO.nil ?_
  show VW _ _ _ _ _ _ _
  refine VW.seq ?_
  refine VW.region ?_
  refine VO.seg T_ok .dp 4 [1, 6] [0] (s' := ⟨[(1, .lf (.ptr 0 0 0 0)), (6, B (a0.1 == (1 : Int)))], [bx [.v (.int .i64) a0.1, .v .str a0.2.1, .v (.int .i64) a0.2.2.1, .v (.int .i64) a0.2.2.2.1, .v (.int .i64) a0.2.2.2.2.1, .v .bool a0.2.2.2.2.2.1, .v (.sl (.int .i64)) a0.2.2.2.2.2.2] 90]⟩) (φ := True ∧ True ∧ True ∧ True ∧ True) (by kernel_rfl) ⟨trivial, trivial, trivial, trivial, trivial⟩ ?_
  refine VO.splitB 6 (b := (a0.1 == (1 : Int))) (by kernel_rfl) (fun hb => ?_) (fun hb => ?_)
  · replace h := cond_t h hb; clear hb
    refine VO.seg T_ok .dp 5 [1, 11] [0] (s' := ⟨[(1, .lf (.ptr 0 0 0 0)), (11, B (a0.2.2.2.1 != (3 : Int)))], [bx [.v (.int .i64) a0.1, .v .str a0.2.1, .v (.int .i64) a0.2.2.1, .v (.int .i64) a0.2.2.2.1, .v (.int .i64) a0.2.2.2.2.1, .v .bool a0.2.2.2.2.2.1, .v (.sl (.int .i64)) a0.2.2.2.2.2.2] 90]⟩) (φ := True ∧ True ∧ True ∧ True ∧ True ∧ True) (by kernel_rfl) ⟨trivial, trivial, trivial, trivial, trivial, trivial⟩ ?_
    refine VO.splitB 11 (b := (a0.2.2.2.1 != (3 : Int))) (by kernel_rfl) (fun hb => ?_) (fun hb => ?_)
    · replace h := cond_t h hb; clear hb
      refine VO.seg T_ok .dp 5 [2] [] (s' := ⟨[(2, B true)], []⟩) (φ := True ∧ True ∧ True ∧ True ∧ True ∧ True) (by kernel_rfl) ⟨trivial, trivial, trivial, trivial, trivial, trivial⟩ ?_
      refine VO.nil ?_
      show VW _ _ _ _ _ _ _
      refine VW.ret ?_
      replace h := Option.some.inj h
      subst h
      exact retR [] (by kernel_rfl) rfl
    · replace h := cond_f h hb; clear hb
      refine VO.seg T_ok .dp 5 [2] [] (s' := ⟨[(2, B (a0.1 == (6 : Int)))], []⟩) (φ := True ∧ True ∧ True ∧ True ∧ True ∧ True) (by kernel_rfl) ⟨trivial, trivial, trivial, trivial, trivial, trivial⟩ ?_
      refine VO.nil ?_
      show VW _ _ _ _ _ _ _
      refine VW.ret ?_
      replace h := Option.some.inj h
      subst h
      exact retR [] (by kernel_rfl) rfl
  · replace h := cond_f h hb; clear hb
    refine VO.seg T_ok .dp 10 [2] [] (s' := ⟨[(2, B (a0.1 == (6 : Int)))], []⟩) (φ := True ∧ True ∧ True ∧ True ∧ True ∧ True ∧ True ∧ True ∧ True ∧ True ∧ True) (by kernel_rfl) ⟨trivial, trivial, trivial, trivial, trivial, trivial, trivial, trivial, trivial, trivial, trivial⟩ ?_
    refine VO.nil ?_
    show VW _ _ _ _ _ _ _
    refine VW.ret ?_
    replace h := Option.some.inj h
    subst h
    exact retR [] (by kernel_rfl) rfl

/- loop.example/g00844/impl.LiteralsOf -/
def F41_j0 (N : Nat) (x32 : (List Int)) : Option ((List Int)) :=
  some x32
def F41_j1 (N : Nat) (nx54 : (List Int) → Int → Int → Option ((List Int))) (x44 : Int) (x45 : Int) (x58 : (List Int)) : Option ((List Int)) :=
  nx54 x58 x44 (IntKind.i64.wrap (x45 + (1 : Int)))
def F41_l0_b (N : Nat) (a0 : (List (Int × (ByteArray × (Int × (Int × (Int × (Bool × (List Int))))))))) (nx54 : (List Int) → Int → Int → Option ((List Int))) (x43 : (List Int)) (x44 : Int) (x45 : Int) : Option ((List Int)) :=
  cond (decide (x45 < x44)) (gd (InR x45 a0.length) (andO (F86 N (a0.getD x45.toNat (Ty.dflt Y89))) fun y61 => cond y61 (cond (!((a0.getD x45.toNat (Ty.dflt Y89)).2.2.2.2.2.1)) (gd (x43.length + ([(a0.getD x45.toNat (Ty.dflt Y89)).2.2.2.2.1]).length ≤ lim (.int .i64)) (F41_j1 N nx54 x44 x45 (x43 ++ ([(a0.getD x45.toNat (Ty.dflt Y89)).2.2.2.2.1])))) (F41_j1 N nx54 x44 x45 x43)) (F41_j1 N nx54 x44 x45 x43))) (F41_j0 N x43)
def F41_l0 (N : Nat) (a0 : (List (Int × (ByteArray × (Int × (Int × (Int × (Bool × (List Int))))))))) : Nat → (List Int) → Int → Int → Option ((List Int)) := loopF (F41_l0_b N a0) (fun _ _ _ => none)
theorem F41_l0_s (N : Nat) (a0 : (List (Int × (ByteArray × (Int × (Int × (Int × (Bool × (List Int))))))))) {k : Nat} (hk : 0 < k) (x43 : (List Int)) (x44 : Int) (x45 : Int) : F41_l0 N a0 k x43 x44 x45 = F41_l0_b N a0 (F41_l0 N a0 (k - 1)) x43 x44 x45 := by
  cases k with
  | zero => exact absurd hk (Nat.lt_irrefl 0)
  | succ m => rfl
def F41 (N : Nat) (a0 : (List (Int × (ByteArray × (Int × (Int × (Int × (Bool × (List Int))))))))) : Option ((List Int)) :=
  andO (F67 N a0) fun y2 => cond (!y2) (some ([])) (F41_l0 N a0 N ([]) (a0.length : Int) (0 : Int))
theorem ok41 (N : Nat) (a0 : (List (Int × (ByteArray × (Int × (Int × (Int × (Bool × (List Int))))))))) {r : (List Int)} (h : F41 N a0 = some r) : Con Go.Proofs.Try.prog 41 [.lf (.v (.sl Y89) a0)] [.lf (.own (.int .i64) r .dp)] := by
  refine ⟨enters_of Go.Proofs.Try.func41 rfl (by decide), HC.intro [.lf (.own (.int .i64) .dp)] T_ok Go.Proofs.Try.func41 rfl (Nat.le_of_ble_eq_true rfl) (Nat.le_of_ble_eq_true rfl) fun w0 E0 => ?_⟩
  unfold F41 at h
  show VW _ _ _ _ _ (retQ _ _ _ _) _
  refine VW.seq ?_
  refine VW.region ?_
  refine VO.seg T_ok .dp 1 [0] [] (s' := ⟨[(0, .lf (.v (.sl Y89) a0))], []⟩) (φ := True ∧ True) (by kernel_rfl) ⟨trivial, trivial⟩ ?_
  refine VO.nil ?_
  show VW _ _ _ _ _ _ _
  refine VW.seq ?_
  refine VW.seq ?_
  refine VW.region ?_
  refine VO.seg T_ok .dp 1 [0, 6] [] (s' := ⟨[(0, .lf (.v (.sl Y89) a0)), (6, .lf (.v (.sl Y89) a0))], []⟩) (φ := True ∧ True) (by kernel_rfl) ⟨trivial, trivial⟩ ?_
  obtain ⟨y2, hy, h⟩ := andO_some h
  refine VO.call false [.t (.sl Y89)] [] T_ok (d := some 7) (by kernel_rfl) (ok67 N _ hy) rfl ?_
  refine VO.seg T_ok .dp 1 [0, 8] [] (s' := ⟨[(0, .lf (.v (.sl Y89) a0)), (8, B (!y2))], []⟩) (φ := True ∧ True) (by kernel_rfl) ⟨trivial, trivial⟩ ?_
  refine VO.nil ?_
  show VW _ _ _ _ _ _ _
  refine VW.cond (b := (!y2)) (by kernel_rfl) (fun hb => ?_) (fun hb => ?_)
  · replace h := cond_t h hb; clear hb
    refine VW.seq ?_
    refine VW.region ?_
    refine VO.seg T_ok .dp 1 [2] [] (s' := ⟨[(2, .lf (.nil))], []⟩) (φ := True ∧ True) (by kernel_rfl) ⟨trivial, trivial⟩ ?_
    refine VO.nil ?_
    show VW _ _ _ _ _ _ _
    refine VW.ret ?_
    replace h := Option.some.inj h
    subst h
    exact retR [none] (by kernel_rfl) rfl
  · replace h := cond_f h hb; clear hb
    refine VW.skip ?_
    show VW _ _ _ _ _ _ _
    refine VW.seq ?_
    refine VW.region ?_
    refine VO.seg T_ok .dp 1 [0, 3] [] (s' := ⟨[(0, .lf (.v (.sl Y89) a0)), (3, .lf (.nil))], []⟩) (φ := True ∧ True) (by kernel_rfl) ⟨trivial, trivial⟩ ?_
    refine VO.nil ?_
    show VW _ _ _ _ _ _ _
    refine VW.join (fun s => ∃ (x32 : (List Int)), s = ⟨[(3, .lf (.hd 0 0 none))], [ar 0 (.int .i64) x32 .dp]⟩ ∧ F41_j0 N x32 = some r) ?_ ?_
    · refine VW.seq ?_
      refine VW.region ?_
      refine VO.seg T_ok .dp 3 [3, 9, 10, 11] [] (s' := ⟨[(3, .lf (.nil)), (9, .lf (.v (.sl Y89) a0)), (10, I (a0.length : Int)), (11, I (0 : Int))], []⟩) (φ := True ∧ True ∧ True ∧ True) (by kernel_rfl) ⟨trivial, trivial, trivial, trivial⟩ ?_
      refine VO.nil ?_
      show VW _ _ _ _ _ _ _
      refine VW.block ?_
      refine VW.loopL (fun k s => ∃ (x43 : (List Int)) (x44 : Int) (x45 : Int), s = ⟨[(3, .lf (.hd 0 0 none)), (9, .lf (.v (.sl Y89) a0)), (10, I x44), (11, I x45)], [ar 0 (.int .i64) x43 .dp]⟩ ∧ F41_l0 N a0 k x43 x44 x45 = some r) N [.nilS 3 (.int .i64) .dp, .ren [3, 9, 10, 11] [0]] (by kernel_rfl) ⟨[], (a0.length : Int), (0 : Int), rfl, h⟩ ?_
      rintro k54 s ⟨x43, x44, x45, rfl, h⟩
      cases k54 with
      | zero => exact nomatch (show (none : Option ((List Int))) = some r from h)
      | succ k54 =>
        replace h : F41_l0_b N a0 (F41_l0 N a0 k54) x43 x44 x45 = some r := h
        unfold F41_l0_b at h
        refine VW.seq ?_
        refine VW.region ?_
        refine VO.seg T_ok .dp 1 [3, 9, 10, 11, 12] [0] (s' := ⟨[(3, .lf (.hd 0 0 none)), (9, .lf (.v (.sl Y89) a0)), (10, I x44), (11, I x45), (12, B (decide (x45 < x44)))], [ar 0 (.int .i64) x43 .dp]⟩) (φ := True ∧ True) (by kernel_rfl) ⟨trivial, trivial⟩ ?_
        refine VO.nil ?_
        show VW _ _ _ _ _ _ _
        refine VW.seq ?_
        refine VW.cond (b := (decide (x45 < x44))) (by kernel_rfl) (fun hb => ?_) (fun hb => ?_)
        · replace h := cond_t h hb; clear hb
          refine VW.skip ?_
          show VW _ _ _ _ _ _ _
          refine VW.join (fun s => ∃ (x58 : (List Int)), s = ⟨[(3, .lf (.hd 0 0 none)), (9, .lf (.v (.sl Y89) a0)), (10, I x44), (11, I x45)], [ar 0 (.int .i64) x58 .dp]⟩ ∧ F41_j1 N (F41_l0 N a0 k54) x44 x45 x58 = some r) ?_ ?_
          · refine VW.block ?_
            refine VW.seq ?_
            refine VW.region ?_
            obtain ⟨g60, h⟩ := gd_some h
            refine VO.seg T_ok .dp 4 [3, 5, 9, 10, 11] [0, 1] (s' := ⟨[(3, .lf (.hd 0 0 none)), (5, .lf (.ptr 1 0 0 0)), (9, .lf (.v (.sl Y89) a0)), (10, I x44), (11, I x45)], [ar 0 (.int .i64) x43 .dp, bx [.v (.int .i64) ((a0.getD x45.toNat (Ty.dflt Y89)).1), .v .str ((a0.getD x45.toNat (Ty.dflt Y89)).2.1), .v (.int .i64) ((a0.getD x45.toNat (Ty.dflt Y89)).2.2.1), .v (.int .i64) ((a0.getD x45.toNat (Ty.dflt Y89)).2.2.2.1), .v (.int .i64) ((a0.getD x45.toNat (Ty.dflt Y89)).2.2.2.2.1), .v .bool ((a0.getD x45.toNat (Ty.dflt Y89)).2.2.2.2.2.1), .v (.sl (.int .i64)) ((a0.getD x45.toNat (Ty.dflt Y89)).2.2.2.2.2.2)] 90]⟩) (φ := (InR x45 a0.length) ∧ True ∧ True ∧ True ∧ True) (by kernel_rfl) ⟨g60, trivial, trivial, trivial, trivial⟩ ?_
            refine VO.nil ?_
            show VW _ _ _ _ _ _ _
            refine VW.seq ?_
            refine VW.region ?_
            refine VO.seg T_ok .dp 1 [3, 5, 9, 10, 11, 15] [0, 1] (s' := ⟨[(3, .lf (.hd 0 0 none)), (5, .lf (.ptr 1 0 0 0)), (9, .lf (.v (.sl Y89) a0)), (10, I x44), (11, I x45), (15, .agg [.v (.int .i64) ((a0.getD x45.toNat (Ty.dflt Y89)).1), .v .str ((a0.getD x45.toNat (Ty.dflt Y89)).2.1), .v (.int .i64) ((a0.getD x45.toNat (Ty.dflt Y89)).2.2.1), .v (.int .i64) ((a0.getD x45.toNat (Ty.dflt Y89)).2.2.2.1), .v (.int .i64) ((a0.getD x45.toNat (Ty.dflt Y89)).2.2.2.2.1), .v .bool ((a0.getD x45.toNat (Ty.dflt Y89)).2.2.2.2.2.1), .v (.sl (.int .i64)) ((a0.getD x45.toNat (Ty.dflt Y89)).2.2.2.2.2.2)])], [ar 0 (.int .i64) x43 .dp, bx [.v (.int .i64) ((a0.getD x45.toNat (Ty.dflt Y89)).1), .v .str ((a0.getD x45.toNat (Ty.dflt Y89)).2.1), .v (.int .i64) ((a0.getD x45.toNat (Ty.dflt Y89)).2.2.1), .v (.int .i64) ((a0.getD x45.toNat (Ty.dflt Y89)).2.2.2.1), .v (.int .i64) ((a0.getD x45.toNat (Ty.dflt Y89)).2.2.2.2.1), .v .bool ((a0.getD x45.toNat (Ty.dflt Y89)).2.2.2.2.2.1), .v (.sl (.int .i64)) ((a0.getD x45.toNat (Ty.dflt Y89)).2.2.2.2.2.2)] 90]⟩) (φ := True ∧ True) (by kernel_rfl) ⟨trivial, trivial⟩ ?_
            obtain ⟨y61, hy, h⟩ := andO_some h
            refine VO.call false [.t Y89] [] T_ok (d := some 16) (by kernel_rfl) (ok86 N _ hy) rfl ?_
            refine VO.seg T_ok .dp 1 [3, 5, 9, 10, 11, 17] [0, 1] (s' := ⟨[(3, .lf (.hd 0 0 none)), (5, .lf (.ptr 1 0 0 0)), (9, .lf (.v (.sl Y89) a0)), (10, I x44), (11, I x45), (17, B y61)], [ar 0 (.int .i64) x43 .dp, bx [.v (.int .i64) ((a0.getD x45.toNat (Ty.dflt Y89)).1), .v .str ((a0.getD x45.toNat (Ty.dflt Y89)).2.1), .v (.int .i64) ((a0.getD x45.toNat (Ty.dflt Y89)).2.2.1), .v (.int .i64) ((a0.getD x45.toNat (Ty.dflt Y89)).2.2.2.1), .v (.int .i64) ((a0.getD x45.toNat (Ty.dflt Y89)).2.2.2.2.1), .v .bool ((a0.getD x45.toNat (Ty.dflt Y89)).2.2.2.2.2.1), .v (.sl (.int .i64)) ((a0.getD x45.toNat (Ty.dflt Y89)).2.2.2.2.2.2)] 90]⟩) (φ := True ∧ True) (by kernel_rfl) ⟨trivial, trivial⟩ ?_
            refine VO.splitB 17 (b := y61) (by kernel_rfl) (fun hb => ?_) (fun hb => ?_)
            · replace h := cond_t h hb; clear hb
              refine VO.seg T_ok .dp 4 [3, 5, 9, 10, 11, 21] [0, 1] (s' := ⟨[(3, .lf (.hd 0 0 none)), (5, .lf (.ptr 1 0 0 0)), (9, .lf (.v (.sl Y89) a0)), (10, I x44), (11, I x45), (21, B (!((a0.getD x45.toNat (Ty.dflt Y89)).2.2.2.2.2.1)))], [ar 0 (.int .i64) x43 .dp, bx [.v (.int .i64) ((a0.getD x45.toNat (Ty.dflt Y89)).1), .v .str ((a0.getD x45.toNat (Ty.dflt Y89)).2.1), .v (.int .i64) ((a0.getD x45.toNat (Ty.dflt Y89)).2.2.1), .v (.int .i64) ((a0.getD x45.toNat (Ty.dflt Y89)).2.2.2.1), .v (.int .i64) ((a0.getD x45.toNat (Ty.dflt Y89)).2.2.2.2.1), .v .bool ((a0.getD x45.toNat (Ty.dflt Y89)).2.2.2.2.2.1), .v (.sl (.int .i64)) ((a0.getD x45.toNat (Ty.dflt Y89)).2.2.2.2.2.2)] 90]⟩) (φ := True ∧ True ∧ True ∧ True ∧ True) (by kernel_rfl) ⟨trivial, trivial, trivial, trivial, trivial⟩ ?_
              refine VO.nil ?_
              show VW _ _ _ _ _ _ _
              refine VW.cond (b := (!((a0.getD x45.toNat (Ty.dflt Y89)).2.2.2.2.2.1))) (by kernel_rfl) (fun hb => ?_) (fun hb => ?_)
              · replace h := cond_t h hb; clear hb
                refine VW.region ?_
                obtain ⟨g62, h⟩ := gd_some h
                refine VO.seg T_ok .dp 6 [3, 9, 10, 11] [0] (s' := ⟨[(3, .lf (.hd 0 0 none)), (9, .lf (.v (.sl Y89) a0)), (10, I x44), (11, I x45)], [ar 0 (.int .i64) (x43 ++ ([(a0.getD x45.toNat (Ty.dflt Y89)).2.2.2.2.1])) .dp]⟩) (φ := True ∧ True ∧ True ∧ True ∧ (x43.length + ([(a0.getD x45.toNat (Ty.dflt Y89)).2.2.2.2.1]).length ≤ lim (.int .i64)) ∧ True ∧ True) (by kernel_rfl) ⟨trivial, trivial, trivial, trivial, g62, trivial, trivial⟩ ?_
                refine VO.nil ?_
                exact arrive [.ren [3, 9, 10, 11] [0]] (by kernel_rfl) ⟨(x43 ++ ([(a0.getD x45.toNat (Ty.dflt Y89)).2.2.2.2.1])), rfl, h⟩
              · replace h := cond_f h hb; clear hb
                refine VW.skip ?_
                exact arrive [.ren [3, 9, 10, 11] [0]] (by kernel_rfl) ⟨x43, rfl, h⟩
            · replace h := cond_f h hb; clear hb
              refine VO.seg T_ok .dp 4 [3, 5, 9, 10, 11, 21] [0, 1] (s' := ⟨[(3, .lf (.hd 0 0 none)), (5, .lf (.ptr 1 0 0 0)), (9, .lf (.v (.sl Y89) a0)), (10, I x44), (11, I x45), (21, B false)], [ar 0 (.int .i64) x43 .dp, bx [.v (.int .i64) ((a0.getD x45.toNat (Ty.dflt Y89)).1), .v .str ((a0.getD x45.toNat (Ty.dflt Y89)).2.1), .v (.int .i64) ((a0.getD x45.toNat (Ty.dflt Y89)).2.2.1), .v (.int .i64) ((a0.getD x45.toNat (Ty.dflt Y89)).2.2.2.1), .v (.int .i64) ((a0.getD x45.toNat (Ty.dflt Y89)).2.2.2.2.1), .v .bool ((a0.getD x45.toNat (Ty.dflt Y89)).2.2.2.2.2.1), .v (.sl (.int .i64)) ((a0.getD x45.toNat (Ty.dflt Y89)).2.2.2.2.2.2)] 90]⟩) (φ := True ∧ True ∧ True ∧ True ∧ True) (by kernel_rfl) ⟨trivial, trivial, trivial, trivial, trivial⟩ ?_
              refine VO.nil ?_
              show VW _ _ _ _ _ _ _
              refine VW.cond (b := false) (by kernel_rfl) (fun h' => nomatch h') (fun _ => ?_)
              refine VW.skip ?_
              exact arrive [.ren [3, 9, 10, 11] [0]] (by kernel_rfl) ⟨x43, rfl, h⟩
          · rintro s ⟨x58, rfl, h⟩
            unfold F41_j1 at h
            refine VW.region ?_
            refine VO.seg T_ok .dp 2 [3, 9, 10, 11] [0] (s' := ⟨[(3, .lf (.hd 0 0 none)), (9, .lf (.v (.sl Y89) a0)), (10, I x44), (11, I (IntKind.i64.wrap (x45 + (1 : Int))))], [ar 0 (.int .i64) x58 .dp]⟩) (φ := True ∧ True ∧ True) (by kernel_rfl) ⟨trivial, trivial, trivial⟩ ?_
            refine VO.nil ?_
            exact around [.ren [3, 9, 10, 11] [0]] (by kernel_rfl) ⟨x58, x44, (IntKind.i64.wrap (x45 + (1 : Int))), rfl, h⟩
        · replace h := cond_f h hb; clear hb
          refine VW.exit ?_
          exact arrive [.ren [3] [0]] (by kernel_rfl) ⟨x43, rfl, h⟩
    · rintro s ⟨x32, rfl, h⟩
      unfold F41_j0 at h
      refine VW.seq ?_
      refine VW.region ?_
      refine VO.seg T_ok .dp 2 [2] [0] (s' := ⟨[(2, .lf (.hd 0 0 none))], [ar 0 (.int .i64) x32 .dp]⟩) (φ := True ∧ True ∧ True) (by kernel_rfl) ⟨trivial, trivial, trivial⟩ ?_
      refine VO.nil ?_
      show VW _ _ _ _ _ _ _
      refine VW.ret ?_
      replace h := Option.some.inj h
      subst h
      exact retR [some 0] (by kernel_rfl) rfl

/- loop.example/g00844/laws.eqNode -/
def F87 (N : Nat) (a0 : (Int × (ByteArray × (Int × (Int × (Int × (Bool × (List Int)))))))) (a1 : (Int × (ByteArray × (Int × (Int × (Int × (Bool × (List Int)))))))) : Option (Bool) :=
  cond (a0.1 != a1.1) (some false) (cond (!(a0.2.1.toList == a1.2.1.toList)) (some false) (cond (a0.2.2.1 != a1.2.2.1) (some false) (cond (a0.2.2.2.1 != a1.2.2.2.1) (some false) (cond (a0.2.2.2.2.1 != a1.2.2.2.2.1) (some false) (cond (!(a0.2.2.2.2.2.1 == a1.2.2.2.2.2.1)) (some false) (andO (F15 N a0.2.2.2.2.2.2 a1.2.2.2.2.2.2) fun y2 => cond (!y2) (some false) (some true)))))))
theorem ok87 (N : Nat) (a0 : (Int × (ByteArray × (Int × (Int × (Int × (Bool × (List Int)))))))) (a1 : (Int × (ByteArray × (Int × (Int × (Int × (Bool × (List Int)))))))) {r : Bool} (h : F87 N a0 a1 = some r) : Con Go.Proofs.Try.prog 87 [.agg [.v (.int .i64) a0.1, .v .str a0.2.1, .v (.int .i64) a0.2.2.1, .v (.int .i64) a0.2.2.2.1, .v (.int .i64) a0.2.2.2.2.1, .v .bool a0.2.2.2.2.2.1, .v (.sl (.int .i64)) a0.2.2.2.2.2.2], .agg [.v (.int .i64) a1.1, .v .str a1.2.1, .v (.int .i64) a1.2.2.1, .v (.int .i64) a1.2.2.2.1, .v (.int .i64) a1.2.2.2.2.1, .v .bool a1.2.2.2.2.2.1, .v (.sl (.int .i64)) a1.2.2.2.2.2.2]] [.lf (.v .bool r)] := by
  refine ⟨enters_of Go.Proofs.Try.func87 rfl (by decide), HC.intro [.lf (.v .bool)] T_ok Go.Proofs.Try.func87 rfl (Nat.le_of_ble_eq_true rfl) (Nat.le_of_ble_eq_true rfl) fun w0 E0 => ?_⟩
  unfold F87 at h
  show VW _ _ _ _ _ (retQ _ _ _ _) _
  refine VW.seq ?_
  refine VW.region ?_
  refine VO.seg T_ok .dp 3 [2, 3] [0, 1] (s' := ⟨[(2, .lf (.ptr 0 0 0 0)), (3, .lf (.ptr 1 0 0 0))], [bx [.v (.int .i64) a0.1, .v .str a0.2.1, .v (.int .i64) a0.2.2.1, .v (.int .i64) a0.2.2.2.1, .v (.int .i64) a0.2.2.2.2.1, .v .bool a0.2.2.2.2.2.1, .v (.sl (.int .i64)) a0.2.2.2.2.2.2] 90, bx [.v (.int .i64) a1.1, .v .str a1.2.1, .v (.int .i64) a1.2.2.1, .v (.int .i64) a1.2.2.2.1, .v (.int .i64) a1.2.2.2.2.1, .v .bool a1.2.2.2.2.2.1, .v (.sl (.int .i64)) a1.2.2.2.2.2.2] 90]⟩) (φ := True ∧ True ∧ True ∧ True) (by kernel_rfl) ⟨trivial, trivial, trivial, trivial⟩ ?_
  refine VO.nil ?_
  show VW _ _ _ _ _ _ _
  refine VW.seq ?_
  refine VW.seq ?_
  refine VW.region ?_
  refine VO.seg T_ok .dp 5 [2, 3, 9] [0, 1] (s' := ⟨[(2, .lf (.ptr 0 0 0 0)), (3, .lf (.ptr 1 0 0 0)), (9, B (a0.1 != a1.1))], [bx [.v (.int .i64) a0.1, .v .str a0.2.1, .v (.int .i64) a0.2.2.1, .v (.int .i64) a0.2.2.2.1, .v (.int .i64) a0.2.2.2.2.1, .v .bool a0.2.2.2.2.2.1, .v (.sl (.int .i64)) a0.2.2.2.2.2.2] 90, bx [.v (.int .i64) a1.1, .v .str a1.2.1, .v (.int .i64) a1.2.2.1, .v (.int .i64) a1.2.2.2.1, .v (.int .i64) a1.2.2.2.2.1, .v .bool a1.2.2.2.2.2.1, .v (.sl (.int .i64)) a1.2.2.2.2.2.2] 90]⟩) (φ := True ∧ True ∧ True ∧ True ∧ True ∧ True) (by kernel_rfl) ⟨trivial, trivial, trivial, trivial, trivial, trivial⟩ ?_
  refine VO.nil ?_
  show VW _ _ _ _ _ _ _
  refine VW.cond (b := (a0.1 != a1.1)) (by kernel_rfl) (fun hb => ?_) (fun hb => ?_)
  · replace h := cond_t h hb; clear hb
    refine VW.seq ?_
    refine VW.region ?_
    refine VO.seg T_ok .dp 1 [4] [] (s' := ⟨[(4, B false)], []⟩) (φ := True ∧ True) (by kernel_rfl) ⟨trivial, trivial⟩ ?_
    refine VO.nil ?_
    show VW _ _ _ _ _ _ _
    refine VW.ret ?_
    replace h := Option.some.inj h
    subst h
    exact retR [] (by kernel_rfl) rfl
  · replace h := cond_f h hb; clear hb
    refine VW.skip ?_
    show VW _ _ _ _ _ _ _
    refine VW.seq ?_
    refine VW.seq ?_
    refine VW.region ?_
    refine VO.seg T_ok .dp 5 [2, 3, 14] [0, 1] (s' := ⟨[(2, .lf (.ptr 0 0 0 0)), (3, .lf (.ptr 1 0 0 0)), (14, B (!(a0.2.1.toList == a1.2.1.toList)))], [bx [.v (.int .i64) a0.1, .v .str a0.2.1, .v (.int .i64) a0.2.2.1, .v (.int .i64) a0.2.2.2.1, .v (.int .i64) a0.2.2.2.2.1, .v .bool a0.2.2.2.2.2.1, .v (.sl (.int .i64)) a0.2.2.2.2.2.2] 90, bx [.v (.int .i64) a1.1, .v .str a1.2.1, .v (.int .i64) a1.2.2.1, .v (.int .i64) a1.2.2.2.1, .v (.int .i64) a1.2.2.2.2.1, .v .bool a1.2.2.2.2.2.1, .v (.sl (.int .i64)) a1.2.2.2.2.2.2] 90]⟩) (φ := True ∧ True ∧ True ∧ True ∧ True ∧ True) (by kernel_rfl) ⟨trivial, trivial, trivial, trivial, trivial, trivial⟩ ?_
    refine VO.nil ?_
    show VW _ _ _ _ _ _ _
    refine VW.cond (b := (!(a0.2.1.toList == a1.2.1.toList))) (by kernel_rfl) (fun hb => ?_) (fun hb => ?_)
    · replace h := cond_t h hb; clear hb
      refine VW.seq ?_
      refine VW.region ?_
      refine VO.seg T_ok .dp 1 [4] [] (s' := ⟨[(4, B false)], []⟩) (φ := True ∧ True) (by kernel_rfl) ⟨trivial, trivial⟩ ?_
      refine VO.nil ?_
      show VW _ _ _ _ _ _ _
      refine VW.ret ?_
      replace h := Option.some.inj h
      subst h
      exact retR [] (by kernel_rfl) rfl
    · replace h := cond_f h hb; clear hb
      refine VW.skip ?_
      show VW _ _ _ _ _ _ _
      refine VW.seq ?_
      refine VW.seq ?_
      refine VW.region ?_
      refine VO.seg T_ok .dp 5 [2, 3, 19] [0, 1] (s' := ⟨[(2, .lf (.ptr 0 0 0 0)), (3, .lf (.ptr 1 0 0 0)), (19, B (a0.2.2.1 != a1.2.2.1))], [bx [.v (.int .i64) a0.1, .v .str a0.2.1, .v (.int .i64) a0.2.2.1, .v (.int .i64) a0.2.2.2.1, .v (.int .i64) a0.2.2.2.2.1, .v .bool a0.2.2.2.2.2.1, .v (.sl (.int .i64)) a0.2.2.2.2.2.2] 90, bx [.v (.int .i64) a1.1, .v .str a1.2.1, .v (.int .i64) a1.2.2.1, .v (.int .i64) a1.2.2.2.1, .v (.int .i64) a1.2.2.2.2.1, .v .bool a1.2.2.2.2.2.1, .v (.sl (.int .i64)) a1.2.2.2.2.2.2] 90]⟩) (φ := True ∧ True ∧ True ∧ True ∧ True ∧ True) (by kernel_rfl) ⟨trivial, trivial, trivial, trivial, trivial, trivial⟩ ?_
      refine VO.nil ?_
      show VW _ _ _ _ _ _ _
      refine VW.cond (b := (a0.2.2.1 != a1.2.2.1)) (by kernel_rfl) (fun hb => ?_) (fun hb => ?_)
      · replace h := cond_t h hb; clear hb
        refine VW.seq ?_
        refine VW.region ?_
        refine VO.seg T_ok .dp 1 [4] [] (s' := ⟨[(4, B false)], []⟩) (φ := True ∧ True) (by kernel_rfl) ⟨trivial, trivial⟩ ?_
        refine VO.nil ?_
        show VW _ _ _ _ _ _ _
        refine VW.ret ?_
        replace h := Option.some.inj h
        subst h
        exact retR [] (by kernel_rfl) rfl
      · replace h := cond_f h hb; clear hb
        refine VW.skip ?_
        show VW _ _ _ _ _ _ _
        refine VW.seq ?_
        refine VW.seq ?_
        refine VW.region ?_
        refine VO.seg T_ok .dp 5 [2, 3, 24] [0, 1] (s' := ⟨[(2, .lf (.ptr 0 0 0 0)), (3, .lf (.ptr 1 0 0 0)), (24, B (a0.2.2.2.1 != a1.2.2.2.1))], [bx [.v (.int .i64) a0.1, .v .str a0.2.1, .v (.int .i64) a0.2.2.1, .v (.int .i64) a0.2.2.2.1, .v (.int .i64) a0.2.2.2.2.1, .v .bool a0.2.2.2.2.2.1, .v (.sl (.int .i64)) a0.2.2.2.2.2.2] 90, bx [.v (.int .i64) a1.1, .v .str a1.2.1, .v (.int .i64) a1.2.2.1, .v (.int .i64) a1.2.2.2.1, .v (.int .i64) a1.2.2.2.2.1, .v .bool a1.2.2.2.2.2.1, .v (.sl (.int .i64)) a1.2.2.2.2.2.2] 90]⟩) (φ := True ∧ True ∧ True ∧ True ∧ True ∧ True) (by kernel_rfl) ⟨trivial, trivial, trivial, trivial, trivial, trivial⟩ ?_
        refine VO.nil ?_
        show VW _ _ _ _ _ _ _
        refine VW.cond (b := (a0.2.2.2.1 != a1.2.2.2.1)) (by kernel_rfl) (fun hb => ?_) (fun hb => ?_)
        · replace h := cond_t h hb; clear hb
          refine VW.seq ?_
          refine VW.region ?_
          refine VO.seg T_ok .dp 1 [4] [] (s' := ⟨[(4, B false)], []⟩) (φ := True ∧ True) (by kernel_rfl) ⟨trivial, trivial⟩ ?_
          refine VO.nil ?_
          show VW _ _ _ _ _ _ _
          refine VW.ret ?_
          replace h := Option.some.inj h
          subst h
          exact retR [] (by kernel_rfl) rfl
        · replace h := cond_f h hb; clear hb
          refine VW.skip ?_
          show VW _ _ _ _ _ _ _
          refine VW.seq ?_
          refine VW.seq ?_
          refine VW.region ?_
          refine VO.seg T_ok .dp 5 [2, 3, 29] [0, 1] (s' := ⟨[(2, .lf (.ptr 0 0 0 0)), (3, .lf (.ptr 1 0 0 0)), (29, B (a0.2.2.2.2.1 != a1.2.2.2.2.1))], [bx [.v (.int .i64) a0.1, .v .str a0.2.1, .v (.int .i64) a0.2.2.1, .v (.int .i64) a0.2.2.2.1, .v (.int .i64) a0.2.2.2.2.1, .v .bool a0.2.2.2.2.2.1, .v (.sl (.int .i64)) a0.2.2.2.2.2.2] 90, bx [.v (.int .i64) a1.1, .v .str a1.2.1, .v (.int .i64) a1.2.2.1, .v (.int .i64) a1.2.2.2.1, .v (.int .i64) a1.2.2.2.2.1, .v .bool a1.2.2.2.2.2.1, .v (.sl (.int .i64)) a1.2.2.2.2.2.2] 90]⟩) (φ := True ∧ True ∧ True ∧ True ∧ True ∧ True) (by kernel_rfl) ⟨trivial, trivial, trivial, trivial, trivial, trivial⟩ ?_
          refine VO.nil ?_
          show VW _ _ _ _ _ _ _
          refine VW.cond (b := (a0.2.2.2.2.1 != a1.2.2.2.2.1)) (by kernel_rfl) (fun hb => ?_) (fun hb => ?_)
          · replace h := cond_t h hb; clear hb
            refine VW.seq ?_
            refine VW.region ?_
            refine VO.seg T_ok .dp 1 [4] [] (s' := ⟨[(4, B false)], []⟩) (φ := True ∧ True) (by kernel_rfl) ⟨trivial, trivial⟩ ?_
            refine VO.nil ?_
            show VW _ _ _ _ _ _ _
            refine VW.ret ?_
            replace h := Option.some.inj h
            subst h
            exact retR [] (by kernel_rfl) rfl
          · replace h := cond_f h hb; clear hb
            refine VW.skip ?_
            show VW _ _ _ _ _ _ _
            refine VW.seq ?_
            refine VW.seq ?_
            refine VW.region ?_
            refine VO.seg T_ok .dp 5 [2, 3, 34] [0, 1] (s' := ⟨[(2, .lf (.ptr 0 0 0 0)), (3, .lf (.ptr 1 0 0 0)), (34, B (!(a0.2.2.2.2.2.1 == a1.2.2.2.2.2.1)))], [bx [.v (.int .i64) a0.1, .v .str a0.2.1, .v (.int .i64) a0.2.2.1, .v (.int .i64) a0.2.2.2.1, .v (.int .i64) a0.2.2.2.2.1, .v .bool a0.2.2.2.2.2.1, .v (.sl (.int .i64)) a0.2.2.2.2.2.2] 90, bx [.v (.int .i64) a1.1, .v .str a1.2.1, .v (.int .i64) a1.2.2.1, .v (.int .i64) a1.2.2.2.1, .v (.int .i64) a1.2.2.2.2.1, .v .bool a1.2.2.2.2.2.1, .v (.sl (.int .i64)) a1.2.2.2.2.2.2] 90]⟩) (φ := True ∧ True ∧ True ∧ True ∧ True ∧ True) (by kernel_rfl) ⟨trivial, trivial, trivial, trivial, trivial, trivial⟩ ?_
            refine VO.nil ?_
            show VW _ _ _ _ _ _ _
            refine VW.cond (b := (!(a0.2.2.2.2.2.1 == a1.2.2.2.2.2.1))) (by kernel_rfl) (fun hb => ?_) (fun hb => ?_)
            · replace h := cond_t h hb; clear hb
              refine VW.seq ?_
              refine VW.region ?_
              refine VO.seg T_ok .dp 1 [4] [] (s' := ⟨[(4, B false)], []⟩) (φ := True ∧ True) (by kernel_rfl) ⟨trivial, trivial⟩ ?_
              refine VO.nil ?_
              show VW _ _ _ _ _ _ _
              refine VW.ret ?_
              replace h := Option.some.inj h
              subst h
              exact retR [] (by kernel_rfl) rfl
            · replace h := cond_f h hb; clear hb
              refine VW.skip ?_
              show VW _ _ _ _ _ _ _
              refine VW.seq ?_
              refine VW.seq ?_
              refine VW.region ?_
              refine VO.seg T_ok .dp 4 [36, 38] [] (s' := ⟨[(36, .lf (.v (.sl (.int .i64)) a0.2.2.2.2.2.2)), (38, .lf (.v (.sl (.int .i64)) a1.2.2.2.2.2.2))], []⟩) (φ := True ∧ True ∧ True ∧ True ∧ True) (by kernel_rfl) ⟨trivial, trivial, trivial, trivial, trivial⟩ ?_
              obtain ⟨y2, hy, h⟩ := andO_some h
              refine VO.call false [.t (.sl (.int .i64)), .t (.sl (.int .i64))] [] T_ok (d := some 39) (by kernel_rfl) (ok15 N _ _ hy) rfl ?_
              refine VO.seg T_ok .dp 1 [40] [] (s' := ⟨[(40, B (!y2))], []⟩) (φ := True ∧ True) (by kernel_rfl) ⟨trivial, trivial⟩ ?_
              refine VO.nil ?_
              show VW _ _ _ _ _ _ _
              refine VW.cond (b := (!y2)) (by kernel_rfl) (fun hb => ?_) (fun hb => ?_)
              · replace h := cond_t h hb; clear hb
                refine VW.seq ?_
                refine VW.region ?_
                refine VO.seg T_ok .dp 1 [4] [] (s' := ⟨[(4, B false)], []⟩) (φ := True ∧ True) (by kernel_rfl) ⟨trivial, trivial⟩ ?_
                refine VO.nil ?_
                show VW _ _ _ _ _ _ _
                refine VW.ret ?_
                replace h := Option.some.inj h
                subst h
                exact retR [] (by kernel_rfl) rfl
              · replace h := cond_f h hb; clear hb
                refine VW.skip ?_
                show VW _ _ _ _ _ _ _
                refine VW.seq ?_
                refine VW.region ?_
                refine VO.seg T_ok .dp 1 [4] [] (s' := ⟨[(4, B true)], []⟩) (φ := True ∧ True) (by kernel_rfl) ⟨trivial, trivial⟩ ?_
                refine VO.nil ?_
                show VW _ _ _ _ _ _ _
                refine VW.ret ?_
                replace h := Option.some.inj h
                subst h
                exact retR [] (by kernel_rfl) rfl

/- loop.example/g00844/laws.eqNodeS -/
def F42_j0 (N : Nat) : Option (Bool) :=
  some true
def F42_l0_b (N : Nat) (a0 : (List (Int × (ByteArray × (Int × (Int × (Int × (Bool × (List Int))))))))) (a1 : (List (Int × (ByteArray × (Int × (Int × (Int × (Bool × (List Int))))))))) (nx35 : Int → Option (Bool)) (x28 : Int) : Option (Bool) :=
  cond (decide (x28 < (a0.length : Int))) (gd (InR x28 a0.length) (gd (InR x28 a1.length) (andO (F87 N (a0.getD x28.toNat (Ty.dflt Y89)) (a1.getD x28.toNat (Ty.dflt Y89))) fun y41 => cond (!y41) (some false) (nx35 (IntKind.i64.wrap (x28 + (1 : Int))))))) (F42_j0 N)
def F42_l0 (N : Nat) (a0 : (List (Int × (ByteArray × (Int × (Int × (Int × (Bool × (List Int))))))))) (a1 : (List (Int × (ByteArray × (Int × (Int × (Int × (Bool × (List Int))))))))) : Nat → Int → Option (Bool) := loopF (F42_l0_b N a0 a1) (fun _ => none)
theorem F42_l0_s (N : Nat) (a0 : (List (Int × (ByteArray × (Int × (Int × (Int × (Bool × (List Int))))))))) (a1 : (List (Int × (ByteArray × (Int × (Int × (Int × (Bool × (List Int))))))))) {k : Nat} (hk : 0 < k) (x28 : Int) : F42_l0 N a0 a1 k x28 = F42_l0_b N a0 a1 (F42_l0 N a0 a1 (k - 1)) x28 := by
  cases k with
  | zero => exact absurd hk (Nat.lt_irrefl 0)
  | succ m => rfl
def F42 (N : Nat) (a0 : (List (Int × (ByteArray × (Int × (Int × (Int × (Bool × (List Int))))))))) (a1 : (List (Int × (ByteArray × (Int × (Int × (Int × (Bool × (List Int))))))))) : Option (Bool) :=
  cond ((a0.length : Int) != (a1.length : Int)) (some false) (F42_l0 N a0 a1 N (0 : Int))
theorem ok42 (N : Nat) (a0 : (List (Int × (ByteArray × (Int × (Int × (Int × (Bool × (List Int))))))))) (a1 : (List (Int × (ByteArray × (Int × (Int × (Int × (Bool × (List Int))))))))) {r : Bool} (h : F42 N a0 a1 = some r) : Con Go.Proofs.Try.prog 42 [.lf (.v (.sl Y89) a0), .lf (.v (.sl Y89) a1)] [.lf (.v .bool r)] := by
  refine ⟨enters_of Go.Proofs.Try.func42 rfl (by decide), HC.intro [.lf (.v .bool)] T_ok Go.Proofs.Try.func42 rfl (Nat.le_of_ble_eq_true rfl) (Nat.le_of_ble_eq_true rfl) fun w0 E0 => ?_⟩
  unfold F42 at h
  show VW _ _ _ _ _ (retQ _ _ _ _) _
  refine VW.seq ?_
  refine VW.region ?_
  refine VO.seg T_ok .dp 1 [0, 1] [] (s' := ⟨[(0, .lf (.v (.sl Y89) a0)), (1, .lf (.v (.sl Y89) a1))], []⟩) (φ := True ∧ True) (by kernel_rfl) ⟨trivial, trivial⟩ ?_
  refine VO.nil ?_
  show VW _ _ _ _ _ _ _
  refine VW.seq ?_
  refine VW.seq ?_
  refine VW.region ?_
  refine VO.seg T_ok .dp 5 [0, 1, 10] [] (s' := ⟨[(0, .lf (.v (.sl Y89) a0)), (1, .lf (.v (.sl Y89) a1)), (10, B ((a0.length : Int) != (a1.length : Int)))], []⟩) (φ := True ∧ True ∧ True ∧ True ∧ True ∧ True) (by kernel_rfl) ⟨trivial, trivial, trivial, trivial, trivial, trivial⟩ ?_
  refine VO.nil ?_
  show VW _ _ _ _ _ _ _
  refine VW.cond (b := ((a0.length : Int) != (a1.length : Int))) (by kernel_rfl) (fun hb => ?_) (fun hb => ?_)
  · replace h := cond_t h hb; clear hb
    refine VW.seq ?_
    refine VW.region ?_
    refine VO.seg T_ok .dp 1 [4] [] (s' := ⟨[(4, B false)], []⟩) (φ := True ∧ True) (by kernel_rfl) ⟨trivial, trivial⟩ ?_
    refine VO.nil ?_
    show VW _ _ _ _ _ _ _
    refine VW.ret ?_
    replace h := Option.some.inj h
    subst h
    exact retR [] (by kernel_rfl) rfl
  · replace h := cond_f h hb; clear hb
    refine VW.skip ?_
    show VW _ _ _ _ _ _ _
    refine VW.join (fun s => s = ⟨[], []⟩ ∧ F42_j0 N = some r) ?_ ?_
    · refine VW.seq ?_
      refine VW.region ?_
      refine VO.seg T_ok .dp 1 [0, 1, 5] [] (s' := ⟨[(0, .lf (.v (.sl Y89) a0)), (1, .lf (.v (.sl Y89) a1)), (5, I (0 : Int))], []⟩) (φ := True ∧ True) (by kernel_rfl) ⟨trivial, trivial⟩ ?_
      refine VO.nil ?_
      show VW _ _ _ _ _ _ _
      refine VW.block ?_
      refine VW.loopL (fun k s => ∃ (x28 : Int), s = ⟨[(0, .lf (.v (.sl Y89) a0)), (1, .lf (.v (.sl Y89) a1)), (5, I x28)], []⟩ ∧ F42_l0 N a0 a1 k x28 = some r) N [.ren [0, 1, 5] []] (by kernel_rfl) ⟨(0 : Int), rfl, h⟩ ?_
      rintro k35 s ⟨x28, rfl, h⟩
      cases k35 with
      | zero => exact nomatch (show (none : Option (Bool)) = some r from h)
      | succ k35 =>
        replace h : F42_l0_b N a0 a1 (F42_l0 N a0 a1 k35) x28 = some r := h
        unfold F42_l0_b at h
        refine VW.seq ?_
        refine VW.seq ?_
        refine VW.region ?_
        refine VO.seg T_ok .dp 4 [0, 1, 5, 14] [] (s' := ⟨[(0, .lf (.v (.sl Y89) a0)), (1, .lf (.v (.sl Y89) a1)), (5, I x28), (14, B (decide (x28 < (a0.length : Int))))], []⟩) (φ := True ∧ True ∧ True ∧ True ∧ True) (by kernel_rfl) ⟨trivial, trivial, trivial, trivial, trivial⟩ ?_
        refine VO.nil ?_
        show VW _ _ _ _ _ _ _
        refine VW.cond (b := (decide (x28 < (a0.length : Int)))) (by kernel_rfl) (fun hb => ?_) (fun hb => ?_)
        · replace h := cond_t h hb; clear hb
          refine VW.skip ?_
          show VW _ _ _ _ _ _ _
          refine VW.seq ?_
          refine VW.block ?_
          refine VW.seq ?_
          obtain ⟨g39, h⟩ := gd_some h
          obtain ⟨g40, h⟩ := gd_some h
          obtain ⟨y41, hy41, h⟩ := andO_some h
          refine VW.drawn (by kernel_rfl) [some (17, .lf (.v (.sl Y89) a0)), some (18, I x28), some (19, .lf (.fp Y89 (a0.getD x28.toNat (Ty.dflt Y89)) 0)), some (20, .agg [.v (.int .i64) ((a0.getD x28.toNat (Ty.dflt Y89)).1), .v .str ((a0.getD x28.toNat (Ty.dflt Y89)).2.1), .v (.int .i64) ((a0.getD x28.toNat (Ty.dflt Y89)).2.2.1), .v (.int .i64) ((a0.getD x28.toNat (Ty.dflt Y89)).2.2.2.1), .v (.int .i64) ((a0.getD x28.toNat (Ty.dflt Y89)).2.2.2.2.1), .v .bool ((a0.getD x28.toNat (Ty.dflt Y89)).2.2.2.2.2.1), .v (.sl (.int .i64)) ((a0.getD x28.toNat (Ty.dflt Y89)).2.2.2.2.2.2)]), some (21, .lf (.v (.sl Y89) a1)), some (22, I x28), some (23, .lf (.fp Y89 (a1.getD x28.toNat (Ty.dflt Y89)) 0)), some (24, .agg [.v (.int .i64) ((a1.getD x28.toNat (Ty.dflt Y89)).1), .v .str ((a1.getD x28.toNat (Ty.dflt Y89)).2.1), .v (.int .i64) ((a1.getD x28.toNat (Ty.dflt Y89)).2.2.1), .v (.int .i64) ((a1.getD x28.toNat (Ty.dflt Y89)).2.2.2.1), .v (.int .i64) ((a1.getD x28.toNat (Ty.dflt Y89)).2.2.2.2.1), .v .bool ((a1.getD x28.toNat (Ty.dflt Y89)).2.2.2.2.2.1), .v (.sl (.int .i64)) ((a1.getD x28.toNat (Ty.dflt Y89)).2.2.2.2.2.2)]), some (25, B y41), some (26, B (!y41))] [] [[]] [(0, 0), (1, 0), (2, 0), (3, 0), (4, 0), (5, 0), (6, 0), (7, 0), (8, 0), (9, 0)] [0, 1, 5, 26] [] (s' := ⟨[(0, .lf (.v (.sl Y89) a0)), (1, .lf (.v (.sl Y89) a1)), (5, I x28), (26, B (!y41))], []⟩) (by kernel_rfl) (by kernel_rfl) ⟨⟨_, rfl, Stp.ev T_ok (m := .dp) (φ := True) (by kernel_rfl) trivial⟩,
    ⟨_, rfl, Stp.ev T_ok (m := .dp) (φ := True) (by kernel_rfl) trivial⟩,
    ⟨_, rfl, Stp.ev T_ok (m := .dp) (φ := InR x28 a0.length) (by kernel_rfl) g39⟩,
    ⟨_, rfl, Stp.ev T_ok (m := .dp) (φ := True) (by kernel_rfl) trivial⟩,
    ⟨_, rfl, Stp.ev T_ok (m := .dp) (φ := True) (by kernel_rfl) trivial⟩,
    ⟨_, rfl, Stp.ev T_ok (m := .dp) (φ := True) (by kernel_rfl) trivial⟩,
    ⟨_, rfl, Stp.ev T_ok (m := .dp) (φ := InR x28 a1.length) (by kernel_rfl) g40⟩,
    ⟨_, rfl, Stp.ev T_ok (m := .dp) (φ := True) (by kernel_rfl) trivial⟩,
    ⟨_, rfl, Stp.eq (Stp.call false [.t Y89, .t Y89] [] T_ok (d := some 25) (by kernel_rfl) (ok87 N _ _ hy41) rfl) (by kernel_rfl) (by kernel_rfl)⟩,
    ⟨_, rfl, Stp.ev T_ok (m := .dp) (φ := True) (by kernel_rfl) trivial⟩, trivial⟩ (by kernel_rfl) ?_
          show VW _ _ _ _ _ _ _
          refine VW.cond (b := (!y41)) (by kernel_rfl) (fun hb => ?_) (fun hb => ?_)
          · replace h := cond_t h hb; clear hb
            refine VW.seq ?_
            refine VW.region ?_
            refine VO.seg T_ok .dp 1 [4] [] (s' := ⟨[(4, B false)], []⟩) (φ := True ∧ True) (by kernel_rfl) ⟨trivial, trivial⟩ ?_
            refine VO.nil ?_
            show VW _ _ _ _ _ _ _
            refine VW.ret ?_
            replace h := Option.some.inj h
            subst h
            exact retR [] (by kernel_rfl) rfl
          · replace h := cond_f h hb; clear hb
            refine VW.skip ?_
            show VW _ _ _ _ _ _ _
            refine VW.region ?_
            refine VO.seg T_ok .dp 3 [0, 1, 5] [] (s' := ⟨[(0, .lf (.v (.sl Y89) a0)), (1, .lf (.v (.sl Y89) a1)), (5, I (IntKind.i64.wrap (x28 + (1 : Int))))], []⟩) (φ := True ∧ True ∧ True ∧ True) (by kernel_rfl) ⟨trivial, trivial, trivial, trivial⟩ ?_
            refine VO.nil ?_
            exact around [.ren [0, 1, 5] []] (by kernel_rfl) ⟨(IntKind.i64.wrap (x28 + (1 : Int))), rfl, h⟩
        · replace h := cond_f h hb; clear hb
          refine VW.exit ?_
          exact arrive [.ren [] []] (by kernel_rfl) ⟨rfl, h⟩
    · rintro s ⟨rfl, h⟩
      unfold F42_j0 at h
      refine VW.seq ?_
      refine VW.region ?_
      refine VO.seg T_ok .dp 1 [4] [] (s' := ⟨[(4, B true)], []⟩) (φ := True ∧ True) (by kernel_rfl) ⟨trivial, trivial⟩ ?_
      refine VO.nil ?_
      show VW _ _ _ _ _ _ _
      refine VW.ret ?_
      replace h := Option.some.inj h
      subst h
      exact retR [] (by kernel_rfl) rfl

end Go.Proofs.Ytdihadbgbjhebaa.Vc
