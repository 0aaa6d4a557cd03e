/- What functions of the program compute, and that they do. -/
import Derived.Test.YtckcbjaldmlomaaVt1
namespace Go.Proofs.Ytckcbjaldmlomaa.Vc
open Go Go.RowKit
set_option linter.unusedVariables false
set_option maxRecDepth 100000
set_option maxHeartbeats 4000000
/- loop.example/g00844/laws.markNodeS -/
def F13_j0 (N : Nat) (x101 : Int) (x102 : (List (Int × (ByteArray × (Int × (Int × (Int × (Bool × (List Int))))))))) : Option ((List (Int × (ByteArray × (Int × (Int × (Int × (Bool × (List Int)))))))) × Int) :=
  some (x102, x101)
def F13_l0_b (N : Nat) (nx171 : (List (Int × (ByteArray × (Int × (Int × (Int × (Bool × (List Int)))))))) → Int → Int → Option ((List (Int × (ByteArray × (Int × (Int × (Int × (Bool × (List Int)))))))) × Int)) (x136 : (List (Int × (ByteArray × (Int × (Int × (Int × (Bool × (List Int))))))))) (x137 : Int) (x138 : Int) : Option ((List (Int × (ByteArray × (Int × (Int × (Int × (Bool × (List Int)))))))) × Int) :=
  cond (decide (x138 < (x136.length : Int))) (gd (InR x138 x136.length) (gd (x138.toNat < x136.length) (andO (F28 N (IntKind.i64.wrap (x137 + (1 : Int)))) fun y190 => gd (InR x138 (x136.set x138.toNat (x137, ((x136.getD x138.toNat (Ty.dflt Y40)).2.1, ((x136.getD x138.toNat (Ty.dflt Y40)).2.2.1, ((x136.getD x138.toNat (Ty.dflt Y40)).2.2.2.1, ((x136.getD x138.toNat (Ty.dflt Y40)).2.2.2.2.1, ((x136.getD x138.toNat (Ty.dflt Y40)).2.2.2.2.2.1, (x136.getD x138.toNat (Ty.dflt Y40)).2.2.2.2.2.2))))))).length) (gd (x138.toNat < (x136.set x138.toNat (x137, ((x136.getD x138.toNat (Ty.dflt Y40)).2.1, ((x136.getD x138.toNat (Ty.dflt Y40)).2.2.1, ((x136.getD x138.toNat (Ty.dflt Y40)).2.2.2.1, ((x136.getD x138.toNat (Ty.dflt Y40)).2.2.2.2.1, ((x136.getD x138.toNat (Ty.dflt Y40)).2.2.2.2.2.1, (x136.getD x138.toNat (Ty.dflt Y40)).2.2.2.2.2.2))))))).length) (gd (InR x138 (x136.set x138.toNat (x137, (y190, ((x136.getD x138.toNat (Ty.dflt Y40)).2.2.1, ((x136.getD x138.toNat (Ty.dflt Y40)).2.2.2.1, ((x136.getD x138.toNat (Ty.dflt Y40)).2.2.2.2.1, ((x136.getD x138.toNat (Ty.dflt Y40)).2.2.2.2.2.1, (x136.getD x138.toNat (Ty.dflt Y40)).2.2.2.2.2.2))))))).length) (gd (x138.toNat < (x136.set x138.toNat (x137, (y190, ((x136.getD x138.toNat (Ty.dflt Y40)).2.2.1, ((x136.getD x138.toNat (Ty.dflt Y40)).2.2.2.1, ((x136.getD x138.toNat (Ty.dflt Y40)).2.2.2.2.1, ((x136.getD x138.toNat (Ty.dflt Y40)).2.2.2.2.2.1, (x136.getD x138.toNat (Ty.dflt Y40)).2.2.2.2.2.2))))))).length) (gd (InR x138 (x136.set x138.toNat (x137, (y190, ((IntKind.i64.wrap ((IntKind.i64.wrap (x137 + (1 : Int))) + (1 : Int))), ((x136.getD x138.toNat (Ty.dflt Y40)).2.2.2.1, ((x136.getD x138.toNat (Ty.dflt Y40)).2.2.2.2.1, ((x136.getD x138.toNat (Ty.dflt Y40)).2.2.2.2.2.1, (x136.getD x138.toNat (Ty.dflt Y40)).2.2.2.2.2.2))))))).length) (gd (x138.toNat < (x136.set x138.toNat (x137, (y190, ((IntKind.i64.wrap ((IntKind.i64.wrap (x137 + (1 : Int))) + (1 : Int))), ((x136.getD x138.toNat (Ty.dflt Y40)).2.2.2.1, ((x136.getD x138.toNat (Ty.dflt Y40)).2.2.2.2.1, ((x136.getD x138.toNat (Ty.dflt Y40)).2.2.2.2.2.1, (x136.getD x138.toNat (Ty.dflt Y40)).2.2.2.2.2.2))))))).length) (gd (InR x138 (x136.set x138.toNat (x137, (y190, ((IntKind.i64.wrap ((IntKind.i64.wrap (x137 + (1 : Int))) + (1 : Int))), ((IntKind.i64.wrap ((IntKind.i64.wrap ((IntKind.i64.wrap (x137 + (1 : Int))) + (1 : Int))) + (1 : Int))), ((x136.getD x138.toNat (Ty.dflt Y40)).2.2.2.2.1, ((x136.getD x138.toNat (Ty.dflt Y40)).2.2.2.2.2.1, (x136.getD x138.toNat (Ty.dflt Y40)).2.2.2.2.2.2))))))).length) (gd (x138.toNat < (x136.set x138.toNat (x137, (y190, ((IntKind.i64.wrap ((IntKind.i64.wrap (x137 + (1 : Int))) + (1 : Int))), ((IntKind.i64.wrap ((IntKind.i64.wrap ((IntKind.i64.wrap (x137 + (1 : Int))) + (1 : Int))) + (1 : Int))), ((x136.getD x138.toNat (Ty.dflt Y40)).2.2.2.2.1, ((x136.getD x138.toNat (Ty.dflt Y40)).2.2.2.2.2.1, (x136.getD x138.toNat (Ty.dflt Y40)).2.2.2.2.2.2))))))).length) (gd (InR x138 (x136.set x138.toNat (x137, (y190, ((IntKind.i64.wrap ((IntKind.i64.wrap (x137 + (1 : Int))) + (1 : Int))), ((IntKind.i64.wrap ((IntKind.i64.wrap ((IntKind.i64.wrap (x137 + (1 : Int))) + (1 : Int))) + (1 : Int))), ((IntKind.i64.wrap ((IntKind.i64.wrap ((IntKind.i64.wrap ((IntKind.i64.wrap (x137 + (1 : Int))) + (1 : Int))) + (1 : Int))) + (1 : Int))), ((x136.getD x138.toNat (Ty.dflt Y40)).2.2.2.2.2.1, (x136.getD x138.toNat (Ty.dflt Y40)).2.2.2.2.2.2))))))).length) (gd (x138.toNat < (x136.set x138.toNat (x137, (y190, ((IntKind.i64.wrap ((IntKind.i64.wrap (x137 + (1 : Int))) + (1 : Int))), ((IntKind.i64.wrap ((IntKind.i64.wrap ((IntKind.i64.wrap (x137 + (1 : Int))) + (1 : Int))) + (1 : Int))), ((IntKind.i64.wrap ((IntKind.i64.wrap ((IntKind.i64.wrap ((IntKind.i64.wrap (x137 + (1 : Int))) + (1 : Int))) + (1 : Int))) + (1 : Int))), ((x136.getD x138.toNat (Ty.dflt Y40)).2.2.2.2.2.1, (x136.getD x138.toNat (Ty.dflt Y40)).2.2.2.2.2.2))))))).length) (gd (InR x138 (x136.set x138.toNat (x137, (y190, ((IntKind.i64.wrap ((IntKind.i64.wrap (x137 + (1 : Int))) + (1 : Int))), ((IntKind.i64.wrap ((IntKind.i64.wrap ((IntKind.i64.wrap (x137 + (1 : Int))) + (1 : Int))) + (1 : Int))), ((IntKind.i64.wrap ((IntKind.i64.wrap ((IntKind.i64.wrap ((IntKind.i64.wrap (x137 + (1 : Int))) + (1 : Int))) + (1 : Int))) + (1 : Int))), (((Int.tmod (IntKind.i64.wrap ((IntKind.i64.wrap ((IntKind.i64.wrap ((IntKind.i64.wrap ((IntKind.i64.wrap (x137 + (1 : Int))) + (1 : Int))) + (1 : Int))) + (1 : Int))) + (1 : Int))) (3 : Int)) == (0 : Int)), (x136.getD x138.toNat (Ty.dflt Y40)).2.2.2.2.2.2))))))).length) (gd (x138.toNat < (x136.set x138.toNat (x137, (y190, ((IntKind.i64.wrap ((IntKind.i64.wrap (x137 + (1 : Int))) + (1 : Int))), ((IntKind.i64.wrap ((IntKind.i64.wrap ((IntKind.i64.wrap (x137 + (1 : Int))) + (1 : Int))) + (1 : Int))), ((IntKind.i64.wrap ((IntKind.i64.wrap ((IntKind.i64.wrap ((IntKind.i64.wrap (x137 + (1 : Int))) + (1 : Int))) + (1 : Int))) + (1 : Int))), (((Int.tmod (IntKind.i64.wrap ((IntKind.i64.wrap ((IntKind.i64.wrap ((IntKind.i64.wrap ((IntKind.i64.wrap (x137 + (1 : Int))) + (1 : Int))) + (1 : Int))) + (1 : Int))) + (1 : Int))) (3 : Int)) == (0 : Int)), (x136.getD x138.toNat (Ty.dflt Y40)).2.2.2.2.2.2))))))).length) (andO (F14 N (((x136.set x138.toNat (x137, (y190, ((IntKind.i64.wrap ((IntKind.i64.wrap (x137 + (1 : Int))) + (1 : Int))), ((IntKind.i64.wrap ((IntKind.i64.wrap ((IntKind.i64.wrap (x137 + (1 : Int))) + (1 : Int))) + (1 : Int))), ((IntKind.i64.wrap ((IntKind.i64.wrap ((IntKind.i64.wrap ((IntKind.i64.wrap (x137 + (1 : Int))) + (1 : Int))) + (1 : Int))) + (1 : Int))), (((Int.tmod (IntKind.i64.wrap ((IntKind.i64.wrap ((IntKind.i64.wrap ((IntKind.i64.wrap ((IntKind.i64.wrap (x137 + (1 : Int))) + (1 : Int))) + (1 : Int))) + (1 : Int))) + (1 : Int))) (3 : Int)) == (0 : Int)), (x136.getD x138.toNat (Ty.dflt Y40)).2.2.2.2.2.2))))))).getD x138.toNat (Ty.dflt Y40)).2.2.2.2.2.2) (IntKind.i64.wrap ((IntKind.i64.wrap ((IntKind.i64.wrap ((IntKind.i64.wrap ((IntKind.i64.wrap ((IntKind.i64.wrap (x137 + (1 : Int))) + (1 : Int))) + (1 : Int))) + (1 : Int))) + (1 : Int))) + (1 : Int)))) fun y202 => nx171 ((x136.set x138.toNat (x137, (y190, ((IntKind.i64.wrap ((IntKind.i64.wrap (x137 + (1 : Int))) + (1 : Int))), ((IntKind.i64.wrap ((IntKind.i64.wrap ((IntKind.i64.wrap (x137 + (1 : Int))) + (1 : Int))) + (1 : Int))), ((IntKind.i64.wrap ((IntKind.i64.wrap ((IntKind.i64.wrap ((IntKind.i64.wrap (x137 + (1 : Int))) + (1 : Int))) + (1 : Int))) + (1 : Int))), (((Int.tmod (IntKind.i64.wrap ((IntKind.i64.wrap ((IntKind.i64.wrap ((IntKind.i64.wrap ((IntKind.i64.wrap (x137 + (1 : Int))) + (1 : Int))) + (1 : Int))) + (1 : Int))) + (1 : Int))) (3 : Int)) == (0 : Int)), (x136.getD x138.toNat (Ty.dflt Y40)).2.2.2.2.2.2))))))).set x138.toNat (((x136.set x138.toNat (x137, (y190, ((IntKind.i64.wrap ((IntKind.i64.wrap (x137 + (1 : Int))) + (1 : Int))), ((IntKind.i64.wrap ((IntKind.i64.wrap ((IntKind.i64.wrap (x137 + (1 : Int))) + (1 : Int))) + (1 : Int))), ((IntKind.i64.wrap ((IntKind.i64.wrap ((IntKind.i64.wrap ((IntKind.i64.wrap (x137 + (1 : Int))) + (1 : Int))) + (1 : Int))) + (1 : Int))), (((Int.tmod (IntKind.i64.wrap ((IntKind.i64.wrap ((IntKind.i64.wrap ((IntKind.i64.wrap ((IntKind.i64.wrap (x137 + (1 : Int))) + (1 : Int))) + (1 : Int))) + (1 : Int))) + (1 : Int))) (3 : Int)) == (0 : Int)), (x136.getD x138.toNat (Ty.dflt Y40)).2.2.2.2.2.2))))))).getD x138.toNat (Ty.dflt Y40)).1, (((x136.set x138.toNat (x137, (y190, ((IntKind.i64.wrap ((IntKind.i64.wrap (x137 + (1 : Int))) + (1 : Int))), ((IntKind.i64.wrap ((IntKind.i64.wrap ((IntKind.i64.wrap (x137 + (1 : Int))) + (1 : Int))) + (1 : Int))), ((IntKind.i64.wrap ((IntKind.i64.wrap ((IntKind.i64.wrap ((IntKind.i64.wrap (x137 + (1 : Int))) + (1 : Int))) + (1 : Int))) + (1 : Int))), (((Int.tmod (IntKind.i64.wrap ((IntKind.i64.wrap ((IntKind.i64.wrap ((IntKind.i64.wrap ((IntKind.i64.wrap (x137 + (1 : Int))) + (1 : Int))) + (1 : Int))) + (1 : Int))) + (1 : Int))) (3 : Int)) == (0 : Int)), (x136.getD x138.toNat (Ty.dflt Y40)).2.2.2.2.2.2))))))).getD x138.toNat (Ty.dflt Y40)).2.1, (((x136.set x138.toNat (x137, (y190, ((IntKind.i64.wrap ((IntKind.i64.wrap (x137 + (1 : Int))) + (1 : Int))), ((IntKind.i64.wrap ((IntKind.i64.wrap ((IntKind.i64.wrap (x137 + (1 : Int))) + (1 : Int))) + (1 : Int))), ((IntKind.i64.wrap ((IntKind.i64.wrap ((IntKind.i64.wrap ((IntKind.i64.wrap (x137 + (1 : Int))) + (1 : Int))) + (1 : Int))) + (1 : Int))), (((Int.tmod (IntKind.i64.wrap ((IntKind.i64.wrap ((IntKind.i64.wrap ((IntKind.i64.wrap ((IntKind.i64.wrap (x137 + (1 : Int))) + (1 : Int))) + (1 : Int))) + (1 : Int))) + (1 : Int))) (3 : Int)) == (0 : Int)), (x136.getD x138.toNat (Ty.dflt Y40)).2.2.2.2.2.2))))))).getD x138.toNat (Ty.dflt Y40)).2.2.1, (((x136.set x138.toNat (x137, (y190, ((IntKind.i64.wrap ((IntKind.i64.wrap (x137 + (1 : Int))) + (1 : Int))), ((IntKind.i64.wrap ((IntKind.i64.wrap ((IntKind.i64.wrap (x137 + (1 : Int))) + (1 : Int))) + (1 : Int))), ((IntKind.i64.wrap ((IntKind.i64.wrap ((IntKind.i64.wrap ((IntKind.i64.wrap (x137 + (1 : Int))) + (1 : Int))) + (1 : Int))) + (1 : Int))), (((Int.tmod (IntKind.i64.wrap ((IntKind.i64.wrap ((IntKind.i64.wrap ((IntKind.i64.wrap ((IntKind.i64.wrap (x137 + (1 : Int))) + (1 : Int))) + (1 : Int))) + (1 : Int))) + (1 : Int))) (3 : Int)) == (0 : Int)), (x136.getD x138.toNat (Ty.dflt Y40)).2.2.2.2.2.2))))))).getD x138.toNat (Ty.dflt Y40)).2.2.2.1, (((x136.set x138.toNat (x137, (y190, ((IntKind.i64.wrap ((IntKind.i64.wrap (x137 + (1 : Int))) + (1 : Int))), ((IntKind.i64.wrap ((IntKind.i64.wrap ((IntKind.i64.wrap (x137 + (1 : Int))) + (1 : Int))) + (1 : Int))), ((IntKind.i64.wrap ((IntKind.i64.wrap ((IntKind.i64.wrap ((IntKind.i64.wrap (x137 + (1 : Int))) + (1 : Int))) + (1 : Int))) + (1 : Int))), (((Int.tmod (IntKind.i64.wrap ((IntKind.i64.wrap ((IntKind.i64.wrap ((IntKind.i64.wrap ((IntKind.i64.wrap (x137 + (1 : Int))) + (1 : Int))) + (1 : Int))) + (1 : Int))) + (1 : Int))) (3 : Int)) == (0 : Int)), (x136.getD x138.toNat (Ty.dflt Y40)).2.2.2.2.2.2))))))).getD x138.toNat (Ty.dflt Y40)).2.2.2.2.1, (((x136.set x138.toNat (x137, (y190, ((IntKind.i64.wrap ((IntKind.i64.wrap (x137 + (1 : Int))) + (1 : Int))), ((IntKind.i64.wrap ((IntKind.i64.wrap ((IntKind.i64.wrap (x137 + (1 : Int))) + (1 : Int))) + (1 : Int))), ((IntKind.i64.wrap ((IntKind.i64.wrap ((IntKind.i64.wrap ((IntKind.i64.wrap (x137 + (1 : Int))) + (1 : Int))) + (1 : Int))) + (1 : Int))), (((Int.tmod (IntKind.i64.wrap ((IntKind.i64.wrap ((IntKind.i64.wrap ((IntKind.i64.wrap ((IntKind.i64.wrap (x137 + (1 : Int))) + (1 : Int))) + (1 : Int))) + (1 : Int))) + (1 : Int))) (3 : Int)) == (0 : Int)), (x136.getD x138.toNat (Ty.dflt Y40)).2.2.2.2.2.2))))))).getD x138.toNat (Ty.dflt Y40)).2.2.2.2.2.1, y202.1))))))) y202.2 (IntKind.i64.wrap (x138 + (1 : Int)))))))))))))))))) (F13_j0 N x137 x136)
def F13_l0 (N : Nat) : Nat → (List (Int × (ByteArray × (Int × (Int × (Int × (Bool × (List Int)))))))) → Int → Int → Option ((List (Int × (ByteArray × (Int × (Int × (Int × (Bool × (List Int)))))))) × Int) := loopF (F13_l0_b N) (fun _ _ _ => none)
theorem F13_l0_s (N : Nat) {k : Nat} (hk : 0 < k) (x136 : (List (Int × (ByteArray × (Int × (Int × (Int × (Bool × (List Int))))))))) (x137 : Int) (x138 : Int) : F13_l0 N k x136 x137 x138 = F13_l0_b N (F13_l0 N (k - 1)) x136 x137 x138 := by
  cases k with
  | zero => exact absurd hk (Nat.lt_irrefl 0)
  | succ m => rfl
def F13 (N : Nat) (a0 : (List (Int × (ByteArray × (Int × (Int × (Int × (Bool × (List Int))))))))) (a1 : Int) : Option ((List (Int × (ByteArray × (Int × (Int × (Int × (Bool × (List Int)))))))) × Int) :=
  F13_l0 N N a0 a1 (0 : Int)
theorem ok13 (N : Nat) (a0 : (List (Int × (ByteArray × (Int × (Int × (Int × (Bool × (List Int))))))))) (a1 : Int) {r : (List (Int × (ByteArray × (Int × (Int × (Int × (Bool × (List Int)))))))) × Int} (h : F13 N a0 a1 = some r) : ConM Go.Proofs.Try.prog 13 [ar 0 Y40 a0 .dp] [.lf (.hd 0 0 none), I a1] [.lf (.v (.int .i64) r.2)] [ar 0 Y40 r.1 .dp] := by
  refine ⟨enters_of Go.Proofs.Try.func13 rfl (by decide), HM.intro [.lf (.v (.int .i64))] T_ok Go.Proofs.Try.func13 rfl (Nat.le_of_ble_eq_true rfl) (Nat.le_of_ble_eq_true rfl) fun w0 E0 => ?_⟩
  unfold F13 at h
  show VW _ _ _ _ _ (retM _ _ _ _ _) _
  refine VW.seq ?_
  refine VW.region ?_
  refine VO.seg T_ok .dp 1 [0, 1, 65536] [0] (s' := ⟨[(0, .lf (.hd 0 0 none)), (1, I a1), (65536, .lf (.hd 0 0 none))], [ar 0 Y40 a0 .dp]⟩) (φ := True ∧ True) (by kernel_rfl) ⟨trivial, trivial⟩ ?_
  refine VO.nil ?_
  show VW _ _ _ _ _ _ _
  refine VW.join (fun s => ∃ (x101 : Int) (x102 : (List (Int × (ByteArray × (Int × (Int × (Int × (Bool × (List Int))))))))), s = ⟨[(1, I x101), (65536, .lf (.hd 0 0 none))], [ar 0 Y40 x102 .dp]⟩ ∧ F13_j0 N x101 x102 = some r) ?_ ?_
  · refine VW.seq ?_
    refine VW.region ?_
    refine VO.seg T_ok .dp 1 [0, 1, 5, 65536] [0] (s' := ⟨[(0, .lf (.hd 0 0 none)), (1, I a1), (5, I (0 : Int)), (65536, .lf (.hd 0 0 none))], [ar 0 Y40 a0 .dp]⟩) (φ := True ∧ True) (by kernel_rfl) ⟨trivial, trivial⟩ ?_
    refine VO.nil ?_
    show VW _ _ _ _ _ _ _
    refine VW.block ?_
    refine VW.loopL (fun k s => ∃ (x136 : (List (Int × (ByteArray × (Int × (Int × (Int × (Bool × (List Int))))))))) (x137 : Int) (x138 : Int), s = ⟨[(0, .lf (.hd 0 0 none)), (1, I x137), (5, I x138), (65536, .lf (.hd 0 0 none))], [ar 0 Y40 x136 .dp]⟩ ∧ F13_l0 N k x136 x137 x138 = some r) N [.ren [0, 1, 5, 65536] [0]] (by kernel_rfl) ⟨a0, a1, (0 : Int), rfl, h⟩ ?_
    rintro k171 s ⟨x136, x137, x138, rfl, h⟩
    cases k171 with
    | zero => exact nomatch (show (none : Option ((List (Int × (ByteArray × (Int × (Int × (Int × (Bool × (List Int)))))))) × Int)) = some r from h)
    | succ k171 =>
      replace h : F13_l0_b N (F13_l0 N k171) x136 x137 x138 = some r := h
      unfold F13_l0_b at h
      refine VW.seq ?_
      refine VW.seq ?_
      refine VW.region ?_
      refine VO.seg T_ok .dp 4 [0, 1, 5, 9, 65536] [0] (s' := ⟨[(0, .lf (.hd 0 0 none)), (1, I x137), (5, I x138), (9, B (decide (x138 < (x136.length : Int)))), (65536, .lf (.hd 0 0 none))], [ar 0 Y40 x136 .dp]⟩) (φ := True ∧ True ∧ True ∧ True ∧ True) (by kernel_rfl) ⟨trivial, trivial, trivial, trivial, trivial⟩ ?_
      refine VO.nil ?_
      show VW _ _ _ _ _ _ _
      refine VW.cond (b := (decide (x138 < (x136.length : Int)))) (by kernel_rfl) (fun hb => ?_) (fun hb => ?_)
      · replace h := cond_t h hb; clear hb
        refine VW.skip ?_
        show VW _ _ _ _ _ _ _
        refine VW.seq ?_
        refine VW.block ?_
        refine VW.seq ?_
        refine VW.region ?_
        obtain ⟨g188, h⟩ := gd_some h
        obtain ⟨g189, h⟩ := gd_some h
        refine VO.seg T_ok .dp 6 [0, 1, 5, 65536] [0] (s' := ⟨[(0, .lf (.hd 0 0 none)), (1, I x137), (5, I x138), (65536, .lf (.hd 0 0 none))], [ar 0 Y40 (x136.set x138.toNat (x137, ((x136.getD x138.toNat (Ty.dflt Y40)).2.1, ((x136.getD x138.toNat (Ty.dflt Y40)).2.2.1, ((x136.getD x138.toNat (Ty.dflt Y40)).2.2.2.1, ((x136.getD x138.toNat (Ty.dflt Y40)).2.2.2.2.1, ((x136.getD x138.toNat (Ty.dflt Y40)).2.2.2.2.2.1, (x136.getD x138.toNat (Ty.dflt Y40)).2.2.2.2.2.2))))))) .dp]⟩) (φ := True ∧ True ∧ True ∧ (InR x138 x136.length) ∧ True ∧ (x138.toNat < x136.length) ∧ True) (by kernel_rfl) ⟨trivial, trivial, trivial, g188, trivial, g189, trivial⟩ ?_
        refine VO.nil ?_
        show VW _ _ _ _ _ _ _
        refine VW.seq ?_
        refine VW.region ?_
        refine VO.seg T_ok .dp 3 [0, 1, 5, 65536] [0] (s' := ⟨[(0, .lf (.hd 0 0 none)), (1, I (IntKind.i64.wrap (x137 + (1 : Int)))), (5, I x138), (65536, .lf (.hd 0 0 none))], [ar 0 Y40 (x136.set x138.toNat (x137, ((x136.getD x138.toNat (Ty.dflt Y40)).2.1, ((x136.getD x138.toNat (Ty.dflt Y40)).2.2.1, ((x136.getD x138.toNat (Ty.dflt Y40)).2.2.2.1, ((x136.getD x138.toNat (Ty.dflt Y40)).2.2.2.2.1, ((x136.getD x138.toNat (Ty.dflt Y40)).2.2.2.2.2.1, (x136.getD x138.toNat (Ty.dflt Y40)).2.2.2.2.2.2))))))) .dp]⟩) (φ := True ∧ True ∧ True ∧ True) (by kernel_rfl) ⟨trivial, trivial, trivial, trivial⟩ ?_
        refine VO.nil ?_
        show VW _ _ _ _ _ _ _
        refine VW.seq ?_
        refine VW.region ?_
        refine VO.seg T_ok .dp 3 [0, 1, 5, 19, 20, 21, 65536] [0] (s' := ⟨[(0, .lf (.hd 0 0 none)), (1, I (IntKind.i64.wrap (x137 + (1 : Int)))), (5, I x138), (19, .lf (.hd 0 0 none)), (20, I x138), (21, I (IntKind.i64.wrap (x137 + (1 : Int)))), (65536, .lf (.hd 0 0 none))], [ar 0 Y40 (x136.set x138.toNat (x137, ((x136.getD x138.toNat (Ty.dflt Y40)).2.1, ((x136.getD x138.toNat (Ty.dflt Y40)).2.2.1, ((x136.getD x138.toNat (Ty.dflt Y40)).2.2.2.1, ((x136.getD x138.toNat (Ty.dflt Y40)).2.2.2.2.1, ((x136.getD x138.toNat (Ty.dflt Y40)).2.2.2.2.2.1, (x136.getD x138.toNat (Ty.dflt Y40)).2.2.2.2.2.2))))))) .dp]⟩) (φ := True ∧ True ∧ True ∧ True) (by kernel_rfl) ⟨trivial, trivial, trivial, trivial⟩ ?_
        obtain ⟨y190, hy, h⟩ := andO_some h
        refine VO.call false [.t (.int .i64)] [] T_ok (d := some 22) (by kernel_rfl) (ok28 N _ hy) rfl ?_
        obtain ⟨g191, h⟩ := gd_some h
        obtain ⟨g192, h⟩ := gd_some h
        refine VO.seg T_ok .dp 3 [0, 1, 5, 65536] [0] (s' := ⟨[(0, .lf (.hd 0 0 none)), (1, I (IntKind.i64.wrap (x137 + (1 : Int)))), (5, I x138), (65536, .lf (.hd 0 0 none))], [ar 0 Y40 ((x136.set x138.toNat (x137, ((x136.getD x138.toNat (Ty.dflt Y40)).2.1, ((x136.getD x138.toNat (Ty.dflt Y40)).2.2.1, ((x136.getD x138.toNat (Ty.dflt Y40)).2.2.2.1, ((x136.getD x138.toNat (Ty.dflt Y40)).2.2.2.2.1, ((x136.getD x138.toNat (Ty.dflt Y40)).2.2.2.2.2.1, (x136.getD x138.toNat (Ty.dflt Y40)).2.2.2.2.2.2))))))).set x138.toNat (((x136.set x138.toNat (x137, ((x136.getD x138.toNat (Ty.dflt Y40)).2.1, ((x136.getD x138.toNat (Ty.dflt Y40)).2.2.1, ((x136.getD x138.toNat (Ty.dflt Y40)).2.2.2.1, ((x136.getD x138.toNat (Ty.dflt Y40)).2.2.2.2.1, ((x136.getD x138.toNat (Ty.dflt Y40)).2.2.2.2.2.1, (x136.getD x138.toNat (Ty.dflt Y40)).2.2.2.2.2.2))))))).getD x138.toNat (Ty.dflt Y40)).1, (y190, (((x136.set x138.toNat (x137, ((x136.getD x138.toNat (Ty.dflt Y40)).2.1, ((x136.getD x138.toNat (Ty.dflt Y40)).2.2.1, ((x136.getD x138.toNat (Ty.dflt Y40)).2.2.2.1, ((x136.getD x138.toNat (Ty.dflt Y40)).2.2.2.2.1, ((x136.getD x138.toNat (Ty.dflt Y40)).2.2.2.2.2.1, (x136.getD x138.toNat (Ty.dflt Y40)).2.2.2.2.2.2))))))).getD x138.toNat (Ty.dflt Y40)).2.2.1, (((x136.set x138.toNat (x137, ((x136.getD x138.toNat (Ty.dflt Y40)).2.1, ((x136.getD x138.toNat (Ty.dflt Y40)).2.2.1, ((x136.getD x138.toNat (Ty.dflt Y40)).2.2.2.1, ((x136.getD x138.toNat (Ty.dflt Y40)).2.2.2.2.1, ((x136.getD x138.toNat (Ty.dflt Y40)).2.2.2.2.2.1, (x136.getD x138.toNat (Ty.dflt Y40)).2.2.2.2.2.2))))))).getD x138.toNat (Ty.dflt Y40)).2.2.2.1, (((x136.set x138.toNat (x137, ((x136.getD x138.toNat (Ty.dflt Y40)).2.1, ((x136.getD x138.toNat (Ty.dflt Y40)).2.2.1, ((x136.getD x138.toNat (Ty.dflt Y40)).2.2.2.1, ((x136.getD x138.toNat (Ty.dflt Y40)).2.2.2.2.1, ((x136.getD x138.toNat (Ty.dflt Y40)).2.2.2.2.2.1, (x136.getD x138.toNat (Ty.dflt Y40)).2.2.2.2.2.2))))))).getD x138.toNat (Ty.dflt Y40)).2.2.2.2.1, (((x136.set x138.toNat (x137, ((x136.getD x138.toNat (Ty.dflt Y40)).2.1, ((x136.getD x138.toNat (Ty.dflt Y40)).2.2.1, ((x136.getD x138.toNat (Ty.dflt Y40)).2.2.2.1, ((x136.getD x138.toNat (Ty.dflt Y40)).2.2.2.2.1, ((x136.getD x138.toNat (Ty.dflt Y40)).2.2.2.2.2.1, (x136.getD x138.toNat (Ty.dflt Y40)).2.2.2.2.2.2))))))).getD x138.toNat (Ty.dflt Y40)).2.2.2.2.2.1, ((x136.set x138.toNat (x137, ((x136.getD x138.toNat (Ty.dflt Y40)).2.1, ((x136.getD x138.toNat (Ty.dflt Y40)).2.2.1, ((x136.getD x138.toNat (Ty.dflt Y40)).2.2.2.1, ((x136.getD x138.toNat (Ty.dflt Y40)).2.2.2.2.1, ((x136.getD x138.toNat (Ty.dflt Y40)).2.2.2.2.2.1, (x136.getD x138.toNat (Ty.dflt Y40)).2.2.2.2.2.2))))))).getD x138.toNat (Ty.dflt Y40)).2.2.2.2.2.2))))))) .dp]⟩) (φ := (InR x138 (x136.set x138.toNat (x137, ((x136.getD x138.toNat (Ty.dflt Y40)).2.1, ((x136.getD x138.toNat (Ty.dflt Y40)).2.2.1, ((x136.getD x138.toNat (Ty.dflt Y40)).2.2.2.1, ((x136.getD x138.toNat (Ty.dflt Y40)).2.2.2.2.1, ((x136.getD x138.toNat (Ty.dflt Y40)).2.2.2.2.2.1, (x136.getD x138.toNat (Ty.dflt Y40)).2.2.2.2.2.2))))))).length) ∧ True ∧ (x138.toNat < (x136.set x138.toNat (x137, ((x136.getD x138.toNat (Ty.dflt Y40)).2.1, ((x136.getD x138.toNat (Ty.dflt Y40)).2.2.1, ((x136.getD x138.toNat (Ty.dflt Y40)).2.2.2.1, ((x136.getD x138.toNat (Ty.dflt Y40)).2.2.2.2.1, ((x136.getD x138.toNat (Ty.dflt Y40)).2.2.2.2.2.1, (x136.getD x138.toNat (Ty.dflt Y40)).2.2.2.2.2.2))))))).length) ∧ True) (by kernel_rfl) ⟨g191, trivial, g192, trivial⟩ ?_
        rw [show ((x136.set x138.toNat (x137, ((x136.getD x138.toNat (Ty.dflt Y40)).2.1, ((x136.getD x138.toNat (Ty.dflt Y40)).2.2.1, ((x136.getD x138.toNat (Ty.dflt Y40)).2.2.2.1, ((x136.getD x138.toNat (Ty.dflt Y40)).2.2.2.2.1, ((x136.getD x138.toNat (Ty.dflt Y40)).2.2.2.2.2.1, (x136.getD x138.toNat (Ty.dflt Y40)).2.2.2.2.2.2))))))).set x138.toNat (((x136.set x138.toNat (x137, ((x136.getD x138.toNat (Ty.dflt Y40)).2.1, ((x136.getD x138.toNat (Ty.dflt Y40)).2.2.1, ((x136.getD x138.toNat (Ty.dflt Y40)).2.2.2.1, ((x136.getD x138.toNat (Ty.dflt Y40)).2.2.2.2.1, ((x136.getD x138.toNat (Ty.dflt Y40)).2.2.2.2.2.1, (x136.getD x138.toNat (Ty.dflt Y40)).2.2.2.2.2.2))))))).getD x138.toNat (Ty.dflt Y40)).1, (y190, (((x136.set x138.toNat (x137, ((x136.getD x138.toNat (Ty.dflt Y40)).2.1, ((x136.getD x138.toNat (Ty.dflt Y40)).2.2.1, ((x136.getD x138.toNat (Ty.dflt Y40)).2.2.2.1, ((x136.getD x138.toNat (Ty.dflt Y40)).2.2.2.2.1, ((x136.getD x138.toNat (Ty.dflt Y40)).2.2.2.2.2.1, (x136.getD x138.toNat (Ty.dflt Y40)).2.2.2.2.2.2))))))).getD x138.toNat (Ty.dflt Y40)).2.2.1, (((x136.set x138.toNat (x137, ((x136.getD x138.toNat (Ty.dflt Y40)).2.1, ((x136.getD x138.toNat (Ty.dflt Y40)).2.2.1, ((x136.getD x138.toNat (Ty.dflt Y40)).2.2.2.1, ((x136.getD x138.toNat (Ty.dflt Y40)).2.2.2.2.1, ((x136.getD x138.toNat (Ty.dflt Y40)).2.2.2.2.2.1, (x136.getD x138.toNat (Ty.dflt Y40)).2.2.2.2.2.2))))))).getD x138.toNat (Ty.dflt Y40)).2.2.2.1, (((x136.set x138.toNat (x137, ((x136.getD x138.toNat (Ty.dflt Y40)).2.1, ((x136.getD x138.toNat (Ty.dflt Y40)).2.2.1, ((x136.getD x138.toNat (Ty.dflt Y40)).2.2.2.1, ((x136.getD x138.toNat (Ty.dflt Y40)).2.2.2.2.1, ((x136.getD x138.toNat (Ty.dflt Y40)).2.2.2.2.2.1, (x136.getD x138.toNat (Ty.dflt Y40)).2.2.2.2.2.2))))))).getD x138.toNat (Ty.dflt Y40)).2.2.2.2.1, (((x136.set x138.toNat (x137, ((x136.getD x138.toNat (Ty.dflt Y40)).2.1, ((x136.getD x138.toNat (Ty.dflt Y40)).2.2.1, ((x136.getD x138.toNat (Ty.dflt Y40)).2.2.2.1, ((x136.getD x138.toNat (Ty.dflt Y40)).2.2.2.2.1, ((x136.getD x138.toNat (Ty.dflt Y40)).2.2.2.2.2.1, (x136.getD x138.toNat (Ty.dflt Y40)).2.2.2.2.2.2))))))).getD x138.toNat (Ty.dflt Y40)).2.2.2.2.2.1, ((x136.set x138.toNat (x137, ((x136.getD x138.toNat (Ty.dflt Y40)).2.1, ((x136.getD x138.toNat (Ty.dflt Y40)).2.2.1, ((x136.getD x138.toNat (Ty.dflt Y40)).2.2.2.1, ((x136.getD x138.toNat (Ty.dflt Y40)).2.2.2.2.1, ((x136.getD x138.toNat (Ty.dflt Y40)).2.2.2.2.2.1, (x136.getD x138.toNat (Ty.dflt Y40)).2.2.2.2.2.2))))))).getD x138.toNat (Ty.dflt Y40)).2.2.2.2.2.2))))))) = (x136.set x138.toNat (x137, (y190, ((x136.getD x138.toNat (Ty.dflt Y40)).2.2.1, ((x136.getD x138.toNat (Ty.dflt Y40)).2.2.2.1, ((x136.getD x138.toNat (Ty.dflt Y40)).2.2.2.2.1, ((x136.getD x138.toNat (Ty.dflt Y40)).2.2.2.2.2.1, (x136.getD x138.toNat (Ty.dflt Y40)).2.2.2.2.2.2))))))) from set_upd x136 x138.toNat (x137, ((x136.getD x138.toNat (Ty.dflt Y40)).2.1, ((x136.getD x138.toNat (Ty.dflt Y40)).2.2.1, ((x136.getD x138.toNat (Ty.dflt Y40)).2.2.2.1, ((x136.getD x138.toNat (Ty.dflt Y40)).2.2.2.2.1, ((x136.getD x138.toNat (Ty.dflt Y40)).2.2.2.2.2.1, (x136.getD x138.toNat (Ty.dflt Y40)).2.2.2.2.2.2)))))) (Ty.dflt Y40) (fun z => (z.1, (y190, (z.2.2.1, (z.2.2.2.1, (z.2.2.2.2.1, (z.2.2.2.2.2.1, z.2.2.2.2.2.2))))))) (by simpa using g192)]
        refine VO.seg T_ok .dp 0 [0, 1, 5, 65536] [0] (s' := ⟨[(0, .lf (.hd 0 0 none)), (1, I (IntKind.i64.wrap (x137 + (1 : Int)))), (5, I x138), (65536, .lf (.hd 0 0 none))], [ar 0 Y40 (x136.set x138.toNat (x137, (y190, ((x136.getD x138.toNat (Ty.dflt Y40)).2.2.1, ((x136.getD x138.toNat (Ty.dflt Y40)).2.2.2.1, ((x136.getD x138.toNat (Ty.dflt Y40)).2.2.2.2.1, ((x136.getD x138.toNat (Ty.dflt Y40)).2.2.2.2.2.1, (x136.getD x138.toNat (Ty.dflt Y40)).2.2.2.2.2.2))))))) .dp]⟩) (φ := True) (by kernel_rfl) trivial ?_
        refine VO.nil ?_
        show VW _ _ _ _ _ _ _
        refine VW.seq ?_
        refine VW.region ?_
        refine VO.seg T_ok .dp 3 [0, 1, 5, 65536] [0] (s' := ⟨[(0, .lf (.hd 0 0 none)), (1, I (IntKind.i64.wrap ((IntKind.i64.wrap (x137 + (1 : Int))) + (1 : Int)))), (5, I x138), (65536, .lf (.hd 0 0 none))], [ar 0 Y40 (x136.set x138.toNat (x137, (y190, ((x136.getD x138.toNat (Ty.dflt Y40)).2.2.1, ((x136.getD x138.toNat (Ty.dflt Y40)).2.2.2.1, ((x136.getD x138.toNat (Ty.dflt Y40)).2.2.2.2.1, ((x136.getD x138.toNat (Ty.dflt Y40)).2.2.2.2.2.1, (x136.getD x138.toNat (Ty.dflt Y40)).2.2.2.2.2.2))))))) .dp]⟩) (φ := True ∧ True ∧ True ∧ True) (by kernel_rfl) ⟨trivial, trivial, trivial, trivial⟩ ?_
        refine VO.nil ?_
        show VW _ _ _ _ _ _ _
        refine VW.seq ?_
        refine VW.region ?_
        obtain ⟨g193, h⟩ := gd_some h
        obtain ⟨g194, h⟩ := gd_some h
        refine VO.seg T_ok .dp 6 [0, 1, 5, 65536] [0] (s' := ⟨[(0, .lf (.hd 0 0 none)), (1, I (IntKind.i64.wrap ((IntKind.i64.wrap (x137 + (1 : Int))) + (1 : Int)))), (5, I x138), (65536, .lf (.hd 0 0 none))], [ar 0 Y40 ((x136.set x138.toNat (x137, (y190, ((x136.getD x138.toNat (Ty.dflt Y40)).2.2.1, ((x136.getD x138.toNat (Ty.dflt Y40)).2.2.2.1, ((x136.getD x138.toNat (Ty.dflt Y40)).2.2.2.2.1, ((x136.getD x138.toNat (Ty.dflt Y40)).2.2.2.2.2.1, (x136.getD x138.toNat (Ty.dflt Y40)).2.2.2.2.2.2))))))).set x138.toNat (((x136.set x138.toNat (x137, (y190, ((x136.getD x138.toNat (Ty.dflt Y40)).2.2.1, ((x136.getD x138.toNat (Ty.dflt Y40)).2.2.2.1, ((x136.getD x138.toNat (Ty.dflt Y40)).2.2.2.2.1, ((x136.getD x138.toNat (Ty.dflt Y40)).2.2.2.2.2.1, (x136.getD x138.toNat (Ty.dflt Y40)).2.2.2.2.2.2))))))).getD x138.toNat (Ty.dflt Y40)).1, (((x136.set x138.toNat (x137, (y190, ((x136.getD x138.toNat (Ty.dflt Y40)).2.2.1, ((x136.getD x138.toNat (Ty.dflt Y40)).2.2.2.1, ((x136.getD x138.toNat (Ty.dflt Y40)).2.2.2.2.1, ((x136.getD x138.toNat (Ty.dflt Y40)).2.2.2.2.2.1, (x136.getD x138.toNat (Ty.dflt Y40)).2.2.2.2.2.2))))))).getD x138.toNat (Ty.dflt Y40)).2.1, ((IntKind.i64.wrap ((IntKind.i64.wrap (x137 + (1 : Int))) + (1 : Int))), (((x136.set x138.toNat (x137, (y190, ((x136.getD x138.toNat (Ty.dflt Y40)).2.2.1, ((x136.getD x138.toNat (Ty.dflt Y40)).2.2.2.1, ((x136.getD x138.toNat (Ty.dflt Y40)).2.2.2.2.1, ((x136.getD x138.toNat (Ty.dflt Y40)).2.2.2.2.2.1, (x136.getD x138.toNat (Ty.dflt Y40)).2.2.2.2.2.2))))))).getD x138.toNat (Ty.dflt Y40)).2.2.2.1, (((x136.set x138.toNat (x137, (y190, ((x136.getD x138.toNat (Ty.dflt Y40)).2.2.1, ((x136.getD x138.toNat (Ty.dflt Y40)).2.2.2.1, ((x136.getD x138.toNat (Ty.dflt Y40)).2.2.2.2.1, ((x136.getD x138.toNat (Ty.dflt Y40)).2.2.2.2.2.1, (x136.getD x138.toNat (Ty.dflt Y40)).2.2.2.2.2.2))))))).getD x138.toNat (Ty.dflt Y40)).2.2.2.2.1, (((x136.set x138.toNat (x137, (y190, ((x136.getD x138.toNat (Ty.dflt Y40)).2.2.1, ((x136.getD x138.toNat (Ty.dflt Y40)).2.2.2.1, ((x136.getD x138.toNat (Ty.dflt Y40)).2.2.2.2.1, ((x136.getD x138.toNat (Ty.dflt Y40)).2.2.2.2.2.1, (x136.getD x138.toNat (Ty.dflt Y40)).2.2.2.2.2.2))))))).getD x138.toNat (Ty.dflt Y40)).2.2.2.2.2.1, ((x136.set x138.toNat (x137, (y190, ((x136.getD x138.toNat (Ty.dflt Y40)).2.2.1, ((x136.getD x138.toNat (Ty.dflt Y40)).2.2.2.1, ((x136.getD x138.toNat (Ty.dflt Y40)).2.2.2.2.1, ((x136.getD x138.toNat (Ty.dflt Y40)).2.2.2.2.2.1, (x136.getD x138.toNat (Ty.dflt Y40)).2.2.2.2.2.2))))))).getD x138.toNat (Ty.dflt Y40)).2.2.2.2.2.2))))))) .dp]⟩) (φ := True ∧ True ∧ True ∧ (InR x138 (x136.set x138.toNat (x137, (y190, ((x136.getD x138.toNat (Ty.dflt Y40)).2.2.1, ((x136.getD x138.toNat (Ty.dflt Y40)).2.2.2.1, ((x136.getD x138.toNat (Ty.dflt Y40)).2.2.2.2.1, ((x136.getD x138.toNat (Ty.dflt Y40)).2.2.2.2.2.1, (x136.getD x138.toNat (Ty.dflt Y40)).2.2.2.2.2.2))))))).length) ∧ True ∧ (x138.toNat < (x136.set x138.toNat (x137, (y190, ((x136.getD x138.toNat (Ty.dflt Y40)).2.2.1, ((x136.getD x138.toNat (Ty.dflt Y40)).2.2.2.1, ((x136.getD x138.toNat (Ty.dflt Y40)).2.2.2.2.1, ((x136.getD x138.toNat (Ty.dflt Y40)).2.2.2.2.2.1, (x136.getD x138.toNat (Ty.dflt Y40)).2.2.2.2.2.2))))))).length) ∧ True) (by kernel_rfl) ⟨trivial, trivial, trivial, g193, trivial, g194, trivial⟩ ?_
        rw [show ((x136.set x138.toNat (x137, (y190, ((x136.getD x138.toNat (Ty.dflt Y40)).2.2.1, ((x136.getD x138.toNat (Ty.dflt Y40)).2.2.2.1, ((x136.getD x138.toNat (Ty.dflt Y40)).2.2.2.2.1, ((x136.getD x138.toNat (Ty.dflt Y40)).2.2.2.2.2.1, (x136.getD x138.toNat (Ty.dflt Y40)).2.2.2.2.2.2))))))).set x138.toNat (((x136.set x138.toNat (x137, (y190, ((x136.getD x138.toNat (Ty.dflt Y40)).2.2.1, ((x136.getD x138.toNat (Ty.dflt Y40)).2.2.2.1, ((x136.getD x138.toNat (Ty.dflt Y40)).2.2.2.2.1, ((x136.getD x138.toNat (Ty.dflt Y40)).2.2.2.2.2.1, (x136.getD x138.toNat (Ty.dflt Y40)).2.2.2.2.2.2))))))).getD x138.toNat (Ty.dflt Y40)).1, (((x136.set x138.toNat (x137, (y190, ((x136.getD x138.toNat (Ty.dflt Y40)).2.2.1, ((x136.getD x138.toNat (Ty.dflt Y40)).2.2.2.1, ((x136.getD x138.toNat (Ty.dflt Y40)).2.2.2.2.1, ((x136.getD x138.toNat (Ty.dflt Y40)).2.2.2.2.2.1, (x136.getD x138.toNat (Ty.dflt Y40)).2.2.2.2.2.2))))))).getD x138.toNat (Ty.dflt Y40)).2.1, ((IntKind.i64.wrap ((IntKind.i64.wrap (x137 + (1 : Int))) + (1 : Int))), (((x136.set x138.toNat (x137, (y190, ((x136.getD x138.toNat (Ty.dflt Y40)).2.2.1, ((x136.getD x138.toNat (Ty.dflt Y40)).2.2.2.1, ((x136.getD x138.toNat (Ty.dflt Y40)).2.2.2.2.1, ((x136.getD x138.toNat (Ty.dflt Y40)).2.2.2.2.2.1, (x136.getD x138.toNat (Ty.dflt Y40)).2.2.2.2.2.2))))))).getD x138.toNat (Ty.dflt Y40)).2.2.2.1, (((x136.set x138.toNat (x137, (y190, ((x136.getD x138.toNat (Ty.dflt Y40)).2.2.1, ((x136.getD x138.toNat (Ty.dflt Y40)).2.2.2.1, ((x136.getD x138.toNat (Ty.dflt Y40)).2.2.2.2.1, ((x136.getD x138.toNat (Ty.dflt Y40)).2.2.2.2.2.1, (x136.getD x138.toNat (Ty.dflt Y40)).2.2.2.2.2.2))))))).getD x138.toNat (Ty.dflt Y40)).2.2.2.2.1, (((x136.set x138.toNat (x137, (y190, ((x136.getD x138.toNat (Ty.dflt Y40)).2.2.1, ((x136.getD x138.toNat (Ty.dflt Y40)).2.2.2.1, ((x136.getD x138.toNat (Ty.dflt Y40)).2.2.2.2.1, ((x136.getD x138.toNat (Ty.dflt Y40)).2.2.2.2.2.1, (x136.getD x138.toNat (Ty.dflt Y40)).2.2.2.2.2.2))))))).getD x138.toNat (Ty.dflt Y40)).2.2.2.2.2.1, ((x136.set x138.toNat (x137, (y190, ((x136.getD x138.toNat (Ty.dflt Y40)).2.2.1, ((x136.getD x138.toNat (Ty.dflt Y40)).2.2.2.1, ((x136.getD x138.toNat (Ty.dflt Y40)).2.2.2.2.1, ((x136.getD x138.toNat (Ty.dflt Y40)).2.2.2.2.2.1, (x136.getD x138.toNat (Ty.dflt Y40)).2.2.2.2.2.2))))))).getD x138.toNat (Ty.dflt Y40)).2.2.2.2.2.2))))))) = (x136.set x138.toNat (x137, (y190, ((IntKind.i64.wrap ((IntKind.i64.wrap (x137 + (1 : Int))) + (1 : Int))), ((x136.getD x138.toNat (Ty.dflt Y40)).2.2.2.1, ((x136.getD x138.toNat (Ty.dflt Y40)).2.2.2.2.1, ((x136.getD x138.toNat (Ty.dflt Y40)).2.2.2.2.2.1, (x136.getD x138.toNat (Ty.dflt Y40)).2.2.2.2.2.2))))))) from set_upd x136 x138.toNat (x137, (y190, ((x136.getD x138.toNat (Ty.dflt Y40)).2.2.1, ((x136.getD x138.toNat (Ty.dflt Y40)).2.2.2.1, ((x136.getD x138.toNat (Ty.dflt Y40)).2.2.2.2.1, ((x136.getD x138.toNat (Ty.dflt Y40)).2.2.2.2.2.1, (x136.getD x138.toNat (Ty.dflt Y40)).2.2.2.2.2.2)))))) (Ty.dflt Y40) (fun z => (z.1, (z.2.1, ((IntKind.i64.wrap ((IntKind.i64.wrap (x137 + (1 : Int))) + (1 : Int))), (z.2.2.2.1, (z.2.2.2.2.1, (z.2.2.2.2.2.1, z.2.2.2.2.2.2))))))) (by simpa using g194)]
        refine VO.seg T_ok .dp 0 [0, 1, 5, 65536] [0] (s' := ⟨[(0, .lf (.hd 0 0 none)), (1, I (IntKind.i64.wrap ((IntKind.i64.wrap (x137 + (1 : Int))) + (1 : Int)))), (5, I x138), (65536, .lf (.hd 0 0 none))], [ar 0 Y40 (x136.set x138.toNat (x137, (y190, ((IntKind.i64.wrap ((IntKind.i64.wrap (x137 + (1 : Int))) + (1 : Int))), ((x136.getD x138.toNat (Ty.dflt Y40)).2.2.2.1, ((x136.getD x138.toNat (Ty.dflt Y40)).2.2.2.2.1, ((x136.getD x138.toNat (Ty.dflt Y40)).2.2.2.2.2.1, (x136.getD x138.toNat (Ty.dflt Y40)).2.2.2.2.2.2))))))) .dp]⟩) (φ := True) (by kernel_rfl) trivial ?_
        refine VO.nil ?_
        show VW _ _ _ _ _ _ _
        refine VW.seq ?_
        refine VW.region ?_
        refine VO.seg T_ok .dp 3 [0, 1, 5, 65536] [0] (s' := ⟨[(0, .lf (.hd 0 0 none)), (1, I (IntKind.i64.wrap ((IntKind.i64.wrap ((IntKind.i64.wrap (x137 + (1 : Int))) + (1 : Int))) + (1 : Int)))), (5, I x138), (65536, .lf (.hd 0 0 none))], [ar 0 Y40 (x136.set x138.toNat (x137, (y190, ((IntKind.i64.wrap ((IntKind.i64.wrap (x137 + (1 : Int))) + (1 : Int))), ((x136.getD x138.toNat (Ty.dflt Y40)).2.2.2.1, ((x136.getD x138.toNat (Ty.dflt Y40)).2.2.2.2.1, ((x136.getD x138.toNat (Ty.dflt Y40)).2.2.2.2.2.1, (x136.getD x138.toNat (Ty.dflt Y40)).2.2.2.2.2.2))))))) .dp]⟩) (φ := True ∧ True ∧ True ∧ True) (by kernel_rfl) ⟨trivial, trivial, trivial, trivial⟩ ?_
        refine VO.nil ?_
        show VW _ _ _ _ _ _ _
        refine VW.seq ?_
        refine VW.region ?_
        obtain ⟨g195, h⟩ := gd_some h
        obtain ⟨g196, h⟩ := gd_some h
        refine VO.seg T_ok .dp 6 [0, 1, 5, 65536] [0] (s' := ⟨[(0, .lf (.hd 0 0 none)), (1, I (IntKind.i64.wrap ((IntKind.i64.wrap ((IntKind.i64.wrap (x137 + (1 : Int))) + (1 : Int))) + (1 : Int)))), (5, I x138), (65536, .lf (.hd 0 0 none))], [ar 0 Y40 ((x136.set x138.toNat (x137, (y190, ((IntKind.i64.wrap ((IntKind.i64.wrap (x137 + (1 : Int))) + (1 : Int))), ((x136.getD x138.toNat (Ty.dflt Y40)).2.2.2.1, ((x136.getD x138.toNat (Ty.dflt Y40)).2.2.2.2.1, ((x136.getD x138.toNat (Ty.dflt Y40)).2.2.2.2.2.1, (x136.getD x138.toNat (Ty.dflt Y40)).2.2.2.2.2.2))))))).set x138.toNat (((x136.set x138.toNat (x137, (y190, ((IntKind.i64.wrap ((IntKind.i64.wrap (x137 + (1 : Int))) + (1 : Int))), ((x136.getD x138.toNat (Ty.dflt Y40)).2.2.2.1, ((x136.getD x138.toNat (Ty.dflt Y40)).2.2.2.2.1, ((x136.getD x138.toNat (Ty.dflt Y40)).2.2.2.2.2.1, (x136.getD x138.toNat (Ty.dflt Y40)).2.2.2.2.2.2))))))).getD x138.toNat (Ty.dflt Y40)).1, (((x136.set x138.toNat (x137, (y190, ((IntKind.i64.wrap ((IntKind.i64.wrap (x137 + (1 : Int))) + (1 : Int))), ((x136.getD x138.toNat (Ty.dflt Y40)).2.2.2.1, ((x136.getD x138.toNat (Ty.dflt Y40)).2.2.2.2.1, ((x136.getD x138.toNat (Ty.dflt Y40)).2.2.2.2.2.1, (x136.getD x138.toNat (Ty.dflt Y40)).2.2.2.2.2.2))))))).getD x138.toNat (Ty.dflt Y40)).2.1, (((x136.set x138.toNat (x137, (y190, ((IntKind.i64.wrap ((IntKind.i64.wrap (x137 + (1 : Int))) + (1 : Int))), ((x136.getD x138.toNat (Ty.dflt Y40)).2.2.2.1, ((x136.getD x138.toNat (Ty.dflt Y40)).2.2.2.2.1, ((x136.getD x138.toNat (Ty.dflt Y40)).2.2.2.2.2.1, (x136.getD x138.toNat (Ty.dflt Y40)).2.2.2.2.2.2))))))).getD x138.toNat (Ty.dflt Y40)).2.2.1, ((IntKind.i64.wrap ((IntKind.i64.wrap ((IntKind.i64.wrap (x137 + (1 : Int))) + (1 : Int))) + (1 : Int))), (((x136.set x138.toNat (x137, (y190, ((IntKind.i64.wrap ((IntKind.i64.wrap (x137 + (1 : Int))) + (1 : Int))), ((x136.getD x138.toNat (Ty.dflt Y40)).2.2.2.1, ((x136.getD x138.toNat (Ty.dflt Y40)).2.2.2.2.1, ((x136.getD x138.toNat (Ty.dflt Y40)).2.2.2.2.2.1, (x136.getD x138.toNat (Ty.dflt Y40)).2.2.2.2.2.2))))))).getD x138.toNat (Ty.dflt Y40)).2.2.2.2.1, (((x136.set x138.toNat (x137, (y190, ((IntKind.i64.wrap ((IntKind.i64.wrap (x137 + (1 : Int))) + (1 : Int))), ((x136.getD x138.toNat (Ty.dflt Y40)).2.2.2.1, ((x136.getD x138.toNat (Ty.dflt Y40)).2.2.2.2.1, ((x136.getD x138.toNat (Ty.dflt Y40)).2.2.2.2.2.1, (x136.getD x138.toNat (Ty.dflt Y40)).2.2.2.2.2.2))))))).getD x138.toNat (Ty.dflt Y40)).2.2.2.2.2.1, ((x136.set x138.toNat (x137, (y190, ((IntKind.i64.wrap ((IntKind.i64.wrap (x137 + (1 : Int))) + (1 : Int))), ((x136.getD x138.toNat (Ty.dflt Y40)).2.2.2.1, ((x136.getD x138.toNat (Ty.dflt Y40)).2.2.2.2.1, ((x136.getD x138.toNat (Ty.dflt Y40)).2.2.2.2.2.1, (x136.getD x138.toNat (Ty.dflt Y40)).2.2.2.2.2.2))))))).getD x138.toNat (Ty.dflt Y40)).2.2.2.2.2.2))))))) .dp]⟩) (φ := True ∧ True ∧ True ∧ (InR x138 (x136.set x138.toNat (x137, (y190, ((IntKind.i64.wrap ((IntKind.i64.wrap (x137 + (1 : Int))) + (1 : Int))), ((x136.getD x138.toNat (Ty.dflt Y40)).2.2.2.1, ((x136.getD x138.toNat (Ty.dflt Y40)).2.2.2.2.1, ((x136.getD x138.toNat (Ty.dflt Y40)).2.2.2.2.2.1, (x136.getD x138.toNat (Ty.dflt Y40)).2.2.2.2.2.2))))))).length) ∧ True ∧ (x138.toNat < (x136.set x138.toNat (x137, (y190, ((IntKind.i64.wrap ((IntKind.i64.wrap (x137 + (1 : Int))) + (1 : Int))), ((x136.getD x138.toNat (Ty.dflt Y40)).2.2.2.1, ((x136.getD x138.toNat (Ty.dflt Y40)).2.2.2.2.1, ((x136.getD x138.toNat (Ty.dflt Y40)).2.2.2.2.2.1, (x136.getD x138.toNat (Ty.dflt Y40)).2.2.2.2.2.2))))))).length) ∧ True) (by kernel_rfl) ⟨trivial, trivial, trivial, g195, trivial, g196, trivial⟩ ?_
        rw [show ((x136.set x138.toNat (x137, (y190, ((IntKind.i64.wrap ((IntKind.i64.wrap (x137 + (1 : Int))) + (1 : Int))), ((x136.getD x138.toNat (Ty.dflt Y40)).2.2.2.1, ((x136.getD x138.toNat (Ty.dflt Y40)).2.2.2.2.1, ((x136.getD x138.toNat (Ty.dflt Y40)).2.2.2.2.2.1, (x136.getD x138.toNat (Ty.dflt Y40)).2.2.2.2.2.2))))))).set x138.toNat (((x136.set x138.toNat (x137, (y190, ((IntKind.i64.wrap ((IntKind.i64.wrap (x137 + (1 : Int))) + (1 : Int))), ((x136.getD x138.toNat (Ty.dflt Y40)).2.2.2.1, ((x136.getD x138.toNat (Ty.dflt Y40)).2.2.2.2.1, ((x136.getD x138.toNat (Ty.dflt Y40)).2.2.2.2.2.1, (x136.getD x138.toNat (Ty.dflt Y40)).2.2.2.2.2.2))))))).getD x138.toNat (Ty.dflt Y40)).1, (((x136.set x138.toNat (x137, (y190, ((IntKind.i64.wrap ((IntKind.i64.wrap (x137 + (1 : Int))) + (1 : Int))), ((x136.getD x138.toNat (Ty.dflt Y40)).2.2.2.1, ((x136.getD x138.toNat (Ty.dflt Y40)).2.2.2.2.1, ((x136.getD x138.toNat (Ty.dflt Y40)).2.2.2.2.2.1, (x136.getD x138.toNat (Ty.dflt Y40)).2.2.2.2.2.2))))))).getD x138.toNat (Ty.dflt Y40)).2.1, (((x136.set x138.toNat (x137, (y190, ((IntKind.i64.wrap ((IntKind.i64.wrap (x137 + (1 : Int))) + (1 : Int))), ((x136.getD x138.toNat (Ty.dflt Y40)).2.2.2.1, ((x136.getD x138.toNat (Ty.dflt Y40)).2.2.2.2.1, ((x136.getD x138.toNat (Ty.dflt Y40)).2.2.2.2.2.1, (x136.getD x138.toNat (Ty.dflt Y40)).2.2.2.2.2.2))))))).getD x138.toNat (Ty.dflt Y40)).2.2.1, ((IntKind.i64.wrap ((IntKind.i64.wrap ((IntKind.i64.wrap (x137 + (1 : Int))) + (1 : Int))) + (1 : Int))), (((x136.set x138.toNat (x137, (y190, ((IntKind.i64.wrap ((IntKind.i64.wrap (x137 + (1 : Int))) + (1 : Int))), ((x136.getD x138.toNat (Ty.dflt Y40)).2.2.2.1, ((x136.getD x138.toNat (Ty.dflt Y40)).2.2.2.2.1, ((x136.getD x138.toNat (Ty.dflt Y40)).2.2.2.2.2.1, (x136.getD x138.toNat (Ty.dflt Y40)).2.2.2.2.2.2))))))).getD x138.toNat (Ty.dflt Y40)).2.2.2.2.1, (((x136.set x138.toNat (x137, (y190, ((IntKind.i64.wrap ((IntKind.i64.wrap (x137 + (1 : Int))) + (1 : Int))), ((x136.getD x138.toNat (Ty.dflt Y40)).2.2.2.1, ((x136.getD x138.toNat (Ty.dflt Y40)).2.2.2.2.1, ((x136.getD x138.toNat (Ty.dflt Y40)).2.2.2.2.2.1, (x136.getD x138.toNat (Ty.dflt Y40)).2.2.2.2.2.2))))))).getD x138.toNat (Ty.dflt Y40)).2.2.2.2.2.1, ((x136.set x138.toNat (x137, (y190, ((IntKind.i64.wrap ((IntKind.i64.wrap (x137 + (1 : Int))) + (1 : Int))), ((x136.getD x138.toNat (Ty.dflt Y40)).2.2.2.1, ((x136.getD x138.toNat (Ty.dflt Y40)).2.2.2.2.1, ((x136.getD x138.toNat (Ty.dflt Y40)).2.2.2.2.2.1, (x136.getD x138.toNat (Ty.dflt Y40)).2.2.2.2.2.2))))))).getD x138.toNat (Ty.dflt Y40)).2.2.2.2.2.2))))))) = (x136.set x138.toNat (x137, (y190, ((IntKind.i64.wrap ((IntKind.i64.wrap (x137 + (1 : Int))) + (1 : Int))), ((IntKind.i64.wrap ((IntKind.i64.wrap ((IntKind.i64.wrap (x137 + (1 : Int))) + (1 : Int))) + (1 : Int))), ((x136.getD x138.toNat (Ty.dflt Y40)).2.2.2.2.1, ((x136.getD x138.toNat (Ty.dflt Y40)).2.2.2.2.2.1, (x136.getD x138.toNat (Ty.dflt Y40)).2.2.2.2.2.2))))))) from set_upd x136 x138.toNat (x137, (y190, ((IntKind.i64.wrap ((IntKind.i64.wrap (x137 + (1 : Int))) + (1 : Int))), ((x136.getD x138.toNat (Ty.dflt Y40)).2.2.2.1, ((x136.getD x138.toNat (Ty.dflt Y40)).2.2.2.2.1, ((x136.getD x138.toNat (Ty.dflt Y40)).2.2.2.2.2.1, (x136.getD x138.toNat (Ty.dflt Y40)).2.2.2.2.2.2)))))) (Ty.dflt Y40) (fun z => (z.1, (z.2.1, (z.2.2.1, ((IntKind.i64.wrap ((IntKind.i64.wrap ((IntKind.i64.wrap (x137 + (1 : Int))) + (1 : Int))) + (1 : Int))), (z.2.2.2.2.1, (z.2.2.2.2.2.1, z.2.2.2.2.2.2))))))) (by simpa using g196)]
        refine VO.seg T_ok .dp 0 [0, 1, 5, 65536] [0] (s' := ⟨[(0, .lf (.hd 0 0 none)), (1, I (IntKind.i64.wrap ((IntKind.i64.wrap ((IntKind.i64.wrap (x137 + (1 : Int))) + (1 : Int))) + (1 : Int)))), (5, I x138), (65536, .lf (.hd 0 0 none))], [ar 0 Y40 (x136.set x138.toNat (x137, (y190, ((IntKind.i64.wrap ((IntKind.i64.wrap (x137 + (1 : Int))) + (1 : Int))), ((IntKind.i64.wrap ((IntKind.i64.wrap ((IntKind.i64.wrap (x137 + (1 : Int))) + (1 : Int))) + (1 : Int))), ((x136.getD x138.toNat (Ty.dflt Y40)).2.2.2.2.1, ((x136.getD x138.toNat (Ty.dflt Y40)).2.2.2.2.2.1, (x136.getD x138.toNat (Ty.dflt Y40)).2.2.2.2.2.2))))))) .dp]⟩) (φ := True) (by kernel_rfl) trivial ?_
        refine VO.nil ?_
        show VW _ _ _ _ _ _ _
        refine VW.seq ?_
        refine VW.region ?_
        refine VO.seg T_ok .dp 3 [0, 1, 5, 65536] [0] (s' := ⟨[(0, .lf (.hd 0 0 none)), (1, I (IntKind.i64.wrap ((IntKind.i64.wrap ((IntKind.i64.wrap ((IntKind.i64.wrap (x137 + (1 : Int))) + (1 : Int))) + (1 : Int))) + (1 : Int)))), (5, I x138), (65536, .lf (.hd 0 0 none))], [ar 0 Y40 (x136.set x138.toNat (x137, (y190, ((IntKind.i64.wrap ((IntKind.i64.wrap (x137 + (1 : Int))) + (1 : Int))), ((IntKind.i64.wrap ((IntKind.i64.wrap ((IntKind.i64.wrap (x137 + (1 : Int))) + (1 : Int))) + (1 : Int))), ((x136.getD x138.toNat (Ty.dflt Y40)).2.2.2.2.1, ((x136.getD x138.toNat (Ty.dflt Y40)).2.2.2.2.2.1, (x136.getD x138.toNat (Ty.dflt Y40)).2.2.2.2.2.2))))))) .dp]⟩) (φ := True ∧ True ∧ True ∧ True) (by kernel_rfl) ⟨trivial, trivial, trivial, trivial⟩ ?_
        refine VO.nil ?_
        show VW _ _ _ _ _ _ _
        refine VW.seq ?_
        refine VW.region ?_
        obtain ⟨g197, h⟩ := gd_some h
        obtain ⟨g198, h⟩ := gd_some h
        refine VO.seg T_ok .dp 6 [0, 1, 5, 65536] [0] (s' := ⟨[(0, .lf (.hd 0 0 none)), (1, I (IntKind.i64.wrap ((IntKind.i64.wrap ((IntKind.i64.wrap ((IntKind.i64.wrap (x137 + (1 : Int))) + (1 : Int))) + (1 : Int))) + (1 : Int)))), (5, I x138), (65536, .lf (.hd 0 0 none))], [ar 0 Y40 ((x136.set x138.toNat (x137, (y190, ((IntKind.i64.wrap ((IntKind.i64.wrap (x137 + (1 : Int))) + (1 : Int))), ((IntKind.i64.wrap ((IntKind.i64.wrap ((IntKind.i64.wrap (x137 + (1 : Int))) + (1 : Int))) + (1 : Int))), ((x136.getD x138.toNat (Ty.dflt Y40)).2.2.2.2.1, ((x136.getD x138.toNat (Ty.dflt Y40)).2.2.2.2.2.1, (x136.getD x138.toNat (Ty.dflt Y40)).2.2.2.2.2.2))))))).set x138.toNat (((x136.set x138.toNat (x137, (y190, ((IntKind.i64.wrap ((IntKind.i64.wrap (x137 + (1 : Int))) + (1 : Int))), ((IntKind.i64.wrap ((IntKind.i64.wrap ((IntKind.i64.wrap (x137 + (1 : Int))) + (1 : Int))) + (1 : Int))), ((x136.getD x138.toNat (Ty.dflt Y40)).2.2.2.2.1, ((x136.getD x138.toNat (Ty.dflt Y40)).2.2.2.2.2.1, (x136.getD x138.toNat (Ty.dflt Y40)).2.2.2.2.2.2))))))).getD x138.toNat (Ty.dflt Y40)).1, (((x136.set x138.toNat (x137, (y190, ((IntKind.i64.wrap ((IntKind.i64.wrap (x137 + (1 : Int))) + (1 : Int))), ((IntKind.i64.wrap ((IntKind.i64.wrap ((IntKind.i64.wrap (x137 + (1 : Int))) + (1 : Int))) + (1 : Int))), ((x136.getD x138.toNat (Ty.dflt Y40)).2.2.2.2.1, ((x136.getD x138.toNat (Ty.dflt Y40)).2.2.2.2.2.1, (x136.getD x138.toNat (Ty.dflt Y40)).2.2.2.2.2.2))))))).getD x138.toNat (Ty.dflt Y40)).2.1, (((x136.set x138.toNat (x137, (y190, ((IntKind.i64.wrap ((IntKind.i64.wrap (x137 + (1 : Int))) + (1 : Int))), ((IntKind.i64.wrap ((IntKind.i64.wrap ((IntKind.i64.wrap (x137 + (1 : Int))) + (1 : Int))) + (1 : Int))), ((x136.getD x138.toNat (Ty.dflt Y40)).2.2.2.2.1, ((x136.getD x138.toNat (Ty.dflt Y40)).2.2.2.2.2.1, (x136.getD x138.toNat (Ty.dflt Y40)).2.2.2.2.2.2))))))).getD x138.toNat (Ty.dflt Y40)).2.2.1, (((x136.set x138.toNat (x137, (y190, ((IntKind.i64.wrap ((IntKind.i64.wrap (x137 + (1 : Int))) + (1 : Int))), ((IntKind.i64.wrap ((IntKind.i64.wrap ((IntKind.i64.wrap (x137 + (1 : Int))) + (1 : Int))) + (1 : Int))), ((x136.getD x138.toNat (Ty.dflt Y40)).2.2.2.2.1, ((x136.getD x138.toNat (Ty.dflt Y40)).2.2.2.2.2.1, (x136.getD x138.toNat (Ty.dflt Y40)).2.2.2.2.2.2))))))).getD x138.toNat (Ty.dflt Y40)).2.2.2.1, ((IntKind.i64.wrap ((IntKind.i64.wrap ((IntKind.i64.wrap ((IntKind.i64.wrap (x137 + (1 : Int))) + (1 : Int))) + (1 : Int))) + (1 : Int))), (((x136.set x138.toNat (x137, (y190, ((IntKind.i64.wrap ((IntKind.i64.wrap (x137 + (1 : Int))) + (1 : Int))), ((IntKind.i64.wrap ((IntKind.i64.wrap ((IntKind.i64.wrap (x137 + (1 : Int))) + (1 : Int))) + (1 : Int))), ((x136.getD x138.toNat (Ty.dflt Y40)).2.2.2.2.1, ((x136.getD x138.toNat (Ty.dflt Y40)).2.2.2.2.2.1, (x136.getD x138.toNat (Ty.dflt Y40)).2.2.2.2.2.2))))))).getD x138.toNat (Ty.dflt Y40)).2.2.2.2.2.1, ((x136.set x138.toNat (x137, (y190, ((IntKind.i64.wrap ((IntKind.i64.wrap (x137 + (1 : Int))) + (1 : Int))), ((IntKind.i64.wrap ((IntKind.i64.wrap ((IntKind.i64.wrap (x137 + (1 : Int))) + (1 : Int))) + (1 : Int))), ((x136.getD x138.toNat (Ty.dflt Y40)).2.2.2.2.1, ((x136.getD x138.toNat (Ty.dflt Y40)).2.2.2.2.2.1, (x136.getD x138.toNat (Ty.dflt Y40)).2.2.2.2.2.2))))))).getD x138.toNat (Ty.dflt Y40)).2.2.2.2.2.2))))))) .dp]⟩) (φ := True ∧ True ∧ True ∧ (InR x138 (x136.set x138.toNat (x137, (y190, ((IntKind.i64.wrap ((IntKind.i64.wrap (x137 + (1 : Int))) + (1 : Int))), ((IntKind.i64.wrap ((IntKind.i64.wrap ((IntKind.i64.wrap (x137 + (1 : Int))) + (1 : Int))) + (1 : Int))), ((x136.getD x138.toNat (Ty.dflt Y40)).2.2.2.2.1, ((x136.getD x138.toNat (Ty.dflt Y40)).2.2.2.2.2.1, (x136.getD x138.toNat (Ty.dflt Y40)).2.2.2.2.2.2))))))).length) ∧ True ∧ (x138.toNat < (x136.set x138.toNat (x137, (y190, ((IntKind.i64.wrap ((IntKind.i64.wrap (x137 + (1 : Int))) + (1 : Int))), ((IntKind.i64.wrap ((IntKind.i64.wrap ((IntKind.i64.wrap (x137 + (1 : Int))) + (1 : Int))) + (1 : Int))), ((x136.getD x138.toNat (Ty.dflt Y40)).2.2.2.2.1, ((x136.getD x138.toNat (Ty.dflt Y40)).2.2.2.2.2.1, (x136.getD x138.toNat (Ty.dflt Y40)).2.2.2.2.2.2))))))).length) ∧ True) (by kernel_rfl) ⟨trivial, trivial, trivial, g197, trivial, g198, trivial⟩ ?_
        rw [show ((x136.set x138.toNat (x137, (y190, ((IntKind.i64.wrap ((IntKind.i64.wrap (x137 + (1 : Int))) + (1 : Int))), ((IntKind.i64.wrap ((IntKind.i64.wrap ((IntKind.i64.wrap (x137 + (1 : Int))) + (1 : Int))) + (1 : Int))), ((x136.getD x138.toNat (Ty.dflt Y40)).2.2.2.2.1, ((x136.getD x138.toNat (Ty.dflt Y40)).2.2.2.2.2.1, (x136.getD x138.toNat (Ty.dflt Y40)).2.2.2.2.2.2))))))).set x138.toNat (((x136.set x138.toNat (x137, (y190, ((IntKind.i64.wrap ((IntKind.i64.wrap (x137 + (1 : Int))) + (1 : Int))), ((IntKind.i64.wrap ((IntKind.i64.wrap ((IntKind.i64.wrap (x137 + (1 : Int))) + (1 : Int))) + (1 : Int))), ((x136.getD x138.toNat (Ty.dflt Y40)).2.2.2.2.1, ((x136.getD x138.toNat (Ty.dflt Y40)).2.2.2.2.2.1, (x136.getD x138.toNat (Ty.dflt Y40)).2.2.2.2.2.2))))))).getD x138.toNat (Ty.dflt Y40)).1, (((x136.set x138.toNat (x137, (y190, ((IntKind.i64.wrap ((IntKind.i64.wrap (x137 + (1 : Int))) + (1 : Int))), ((IntKind.i64.wrap ((IntKind.i64.wrap ((IntKind.i64.wrap (x137 + (1 : Int))) + (1 : Int))) + (1 : Int))), ((x136.getD x138.toNat (Ty.dflt Y40)).2.2.2.2.1, ((x136.getD x138.toNat (Ty.dflt Y40)).2.2.2.2.2.1, (x136.getD x138.toNat (Ty.dflt Y40)).2.2.2.2.2.2))))))).getD x138.toNat (Ty.dflt Y40)).2.1, (((x136.set x138.toNat (x137, (y190, ((IntKind.i64.wrap ((IntKind.i64.wrap (x137 + (1 : Int))) + (1 : Int))), ((IntKind.i64.wrap ((IntKind.i64.wrap ((IntKind.i64.wrap (x137 + (1 : Int))) + (1 : Int))) + (1 : Int))), ((x136.getD x138.toNat (Ty.dflt Y40)).2.2.2.2.1, ((x136.getD x138.toNat (Ty.dflt Y40)).2.2.2.2.2.1, (x136.getD x138.toNat (Ty.dflt Y40)).2.2.2.2.2.2))))))).getD x138.toNat (Ty.dflt Y40)).2.2.1, (((x136.set x138.toNat (x137, (y190, ((IntKind.i64.wrap ((IntKind.i64.wrap (x137 + (1 : Int))) + (1 : Int))), ((IntKind.i64.wrap ((IntKind.i64.wrap ((IntKind.i64.wrap (x137 + (1 : Int))) + (1 : Int))) + (1 : Int))), ((x136.getD x138.toNat (Ty.dflt Y40)).2.2.2.2.1, ((x136.getD x138.toNat (Ty.dflt Y40)).2.2.2.2.2.1, (x136.getD x138.toNat (Ty.dflt Y40)).2.2.2.2.2.2))))))).getD x138.toNat (Ty.dflt Y40)).2.2.2.1, ((IntKind.i64.wrap ((IntKind.i64.wrap ((IntKind.i64.wrap ((IntKind.i64.wrap (x137 + (1 : Int))) + (1 : Int))) + (1 : Int))) + (1 : Int))), (((x136.set x138.toNat (x137, (y190, ((IntKind.i64.wrap ((IntKind.i64.wrap (x137 + (1 : Int))) + (1 : Int))), ((IntKind.i64.wrap ((IntKind.i64.wrap ((IntKind.i64.wrap (x137 + (1 : Int))) + (1 : Int))) + (1 : Int))), ((x136.getD x138.toNat (Ty.dflt Y40)).2.2.2.2.1, ((x136.getD x138.toNat (Ty.dflt Y40)).2.2.2.2.2.1, (x136.getD x138.toNat (Ty.dflt Y40)).2.2.2.2.2.2))))))).getD x138.toNat (Ty.dflt Y40)).2.2.2.2.2.1, ((x136.set x138.toNat (x137, (y190, ((IntKind.i64.wrap ((IntKind.i64.wrap (x137 + (1 : Int))) + (1 : Int))), ((IntKind.i64.wrap ((IntKind.i64.wrap ((IntKind.i64.wrap (x137 + (1 : Int))) + (1 : Int))) + (1 : Int))), ((x136.getD x138.toNat (Ty.dflt Y40)).2.2.2.2.1, ((x136.getD x138.toNat (Ty.dflt Y40)).2.2.2.2.2.1, (x136.getD x138.toNat (Ty.dflt Y40)).2.2.2.2.2.2))))))).getD x138.toNat (Ty.dflt Y40)).2.2.2.2.2.2))))))) = (x136.set x138.toNat (x137, (y190, ((IntKind.i64.wrap ((IntKind.i64.wrap (x137 + (1 : Int))) + (1 : Int))), ((IntKind.i64.wrap ((IntKind.i64.wrap ((IntKind.i64.wrap (x137 + (1 : Int))) + (1 : Int))) + (1 : Int))), ((IntKind.i64.wrap ((IntKind.i64.wrap ((IntKind.i64.wrap ((IntKind.i64.wrap (x137 + (1 : Int))) + (1 : Int))) + (1 : Int))) + (1 : Int))), ((x136.getD x138.toNat (Ty.dflt Y40)).2.2.2.2.2.1, (x136.getD x138.toNat (Ty.dflt Y40)).2.2.2.2.2.2))))))) from set_upd x136 x138.toNat (x137, (y190, ((IntKind.i64.wrap ((IntKind.i64.wrap (x137 + (1 : Int))) + (1 : Int))), ((IntKind.i64.wrap ((IntKind.i64.wrap ((IntKind.i64.wrap (x137 + (1 : Int))) + (1 : Int))) + (1 : Int))), ((x136.getD x138.toNat (Ty.dflt Y40)).2.2.2.2.1, ((x136.getD x138.toNat (Ty.dflt Y40)).2.2.2.2.2.1, (x136.getD x138.toNat (Ty.dflt Y40)).2.2.2.2.2.2)))))) (Ty.dflt Y40) (fun z => (z.1, (z.2.1, (z.2.2.1, (z.2.2.2.1, ((IntKind.i64.wrap ((IntKind.i64.wrap ((IntKind.i64.wrap ((IntKind.i64.wrap (x137 + (1 : Int))) + (1 : Int))) + (1 : Int))) + (1 : Int))), (z.2.2.2.2.2.1, z.2.2.2.2.2.2))))))) (by simpa using g198)]
        refine VO.seg T_ok .dp 0 [0, 1, 5, 65536] [0] (s' := ⟨[(0, .lf (.hd 0 0 none)), (1, I (IntKind.i64.wrap ((IntKind.i64.wrap ((IntKind.i64.wrap ((IntKind.i64.wrap (x137 + (1 : Int))) + (1 : Int))) + (1 : Int))) + (1 : Int)))), (5, I x138), (65536, .lf (.hd 0 0 none))], [ar 0 Y40 (x136.set x138.toNat (x137, (y190, ((IntKind.i64.wrap ((IntKind.i64.wrap (x137 + (1 : Int))) + (1 : Int))), ((IntKind.i64.wrap ((IntKind.i64.wrap ((IntKind.i64.wrap (x137 + (1 : Int))) + (1 : Int))) + (1 : Int))), ((IntKind.i64.wrap ((IntKind.i64.wrap ((IntKind.i64.wrap ((IntKind.i64.wrap (x137 + (1 : Int))) + (1 : Int))) + (1 : Int))) + (1 : Int))), ((x136.getD x138.toNat (Ty.dflt Y40)).2.2.2.2.2.1, (x136.getD x138.toNat (Ty.dflt Y40)).2.2.2.2.2.2))))))) .dp]⟩) (φ := True) (by kernel_rfl) trivial ?_
        refine VO.nil ?_
        show VW _ _ _ _ _ _ _
        refine VW.seq ?_
        refine VW.region ?_
        refine VO.seg T_ok .dp 3 [0, 1, 5, 65536] [0] (s' := ⟨[(0, .lf (.hd 0 0 none)), (1, I (IntKind.i64.wrap ((IntKind.i64.wrap ((IntKind.i64.wrap ((IntKind.i64.wrap ((IntKind.i64.wrap (x137 + (1 : Int))) + (1 : Int))) + (1 : Int))) + (1 : Int))) + (1 : Int)))), (5, I x138), (65536, .lf (.hd 0 0 none))], [ar 0 Y40 (x136.set x138.toNat (x137, (y190, ((IntKind.i64.wrap ((IntKind.i64.wrap (x137 + (1 : Int))) + (1 : Int))), ((IntKind.i64.wrap ((IntKind.i64.wrap ((IntKind.i64.wrap (x137 + (1 : Int))) + (1 : Int))) + (1 : Int))), ((IntKind.i64.wrap ((IntKind.i64.wrap ((IntKind.i64.wrap ((IntKind.i64.wrap (x137 + (1 : Int))) + (1 : Int))) + (1 : Int))) + (1 : Int))), ((x136.getD x138.toNat (Ty.dflt Y40)).2.2.2.2.2.1, (x136.getD x138.toNat (Ty.dflt Y40)).2.2.2.2.2.2))))))) .dp]⟩) (φ := True ∧ True ∧ True ∧ True) (by kernel_rfl) ⟨trivial, trivial, trivial, trivial⟩ ?_
        refine VO.nil ?_
        show VW _ _ _ _ _ _ _
        refine VW.seq ?_
        refine VW.region ?_
        obtain ⟨g199, h⟩ := gd_some h
        obtain ⟨g200, h⟩ := gd_some h
        refine VO.seg T_ok .dp 8 [0, 1, 5, 65536] [0] (s' := ⟨[(0, .lf (.hd 0 0 none)), (1, I (IntKind.i64.wrap ((IntKind.i64.wrap ((IntKind.i64.wrap ((IntKind.i64.wrap ((IntKind.i64.wrap (x137 + (1 : Int))) + (1 : Int))) + (1 : Int))) + (1 : Int))) + (1 : Int)))), (5, I x138), (65536, .lf (.hd 0 0 none))], [ar 0 Y40 ((x136.set x138.toNat (x137, (y190, ((IntKind.i64.wrap ((IntKind.i64.wrap (x137 + (1 : Int))) + (1 : Int))), ((IntKind.i64.wrap ((IntKind.i64.wrap ((IntKind.i64.wrap (x137 + (1 : Int))) + (1 : Int))) + (1 : Int))), ((IntKind.i64.wrap ((IntKind.i64.wrap ((IntKind.i64.wrap ((IntKind.i64.wrap (x137 + (1 : Int))) + (1 : Int))) + (1 : Int))) + (1 : Int))), ((x136.getD x138.toNat (Ty.dflt Y40)).2.2.2.2.2.1, (x136.getD x138.toNat (Ty.dflt Y40)).2.2.2.2.2.2))))))).set x138.toNat (((x136.set x138.toNat (x137, (y190, ((IntKind.i64.wrap ((IntKind.i64.wrap (x137 + (1 : Int))) + (1 : Int))), ((IntKind.i64.wrap ((IntKind.i64.wrap ((IntKind.i64.wrap (x137 + (1 : Int))) + (1 : Int))) + (1 : Int))), ((IntKind.i64.wrap ((IntKind.i64.wrap ((IntKind.i64.wrap ((IntKind.i64.wrap (x137 + (1 : Int))) + (1 : Int))) + (1 : Int))) + (1 : Int))), ((x136.getD x138.toNat (Ty.dflt Y40)).2.2.2.2.2.1, (x136.getD x138.toNat (Ty.dflt Y40)).2.2.2.2.2.2))))))).getD x138.toNat (Ty.dflt Y40)).1, (((x136.set x138.toNat (x137, (y190, ((IntKind.i64.wrap ((IntKind.i64.wrap (x137 + (1 : Int))) + (1 : Int))), ((IntKind.i64.wrap ((IntKind.i64.wrap ((IntKind.i64.wrap (x137 + (1 : Int))) + (1 : Int))) + (1 : Int))), ((IntKind.i64.wrap ((IntKind.i64.wrap ((IntKind.i64.wrap ((IntKind.i64.wrap (x137 + (1 : Int))) + (1 : Int))) + (1 : Int))) + (1 : Int))), ((x136.getD x138.toNat (Ty.dflt Y40)).2.2.2.2.2.1, (x136.getD x138.toNat (Ty.dflt Y40)).2.2.2.2.2.2))))))).getD x138.toNat (Ty.dflt Y40)).2.1, (((x136.set x138.toNat (x137, (y190, ((IntKind.i64.wrap ((IntKind.i64.wrap (x137 + (1 : Int))) + (1 : Int))), ((IntKind.i64.wrap ((IntKind.i64.wrap ((IntKind.i64.wrap (x137 + (1 : Int))) + (1 : Int))) + (1 : Int))), ((IntKind.i64.wrap ((IntKind.i64.wrap ((IntKind.i64.wrap ((IntKind.i64.wrap (x137 + (1 : Int))) + (1 : Int))) + (1 : Int))) + (1 : Int))), ((x136.getD x138.toNat (Ty.dflt Y40)).2.2.2.2.2.1, (x136.getD x138.toNat (Ty.dflt Y40)).2.2.2.2.2.2))))))).getD x138.toNat (Ty.dflt Y40)).2.2.1, (((x136.set x138.toNat (x137, (y190, ((IntKind.i64.wrap ((IntKind.i64.wrap (x137 + (1 : Int))) + (1 : Int))), ((IntKind.i64.wrap ((IntKind.i64.wrap ((IntKind.i64.wrap (x137 + (1 : Int))) + (1 : Int))) + (1 : Int))), ((IntKind.i64.wrap ((IntKind.i64.wrap ((IntKind.i64.wrap ((IntKind.i64.wrap (x137 + (1 : Int))) + (1 : Int))) + (1 : Int))) + (1 : Int))), ((x136.getD x138.toNat (Ty.dflt Y40)).2.2.2.2.2.1, (x136.getD x138.toNat (Ty.dflt Y40)).2.2.2.2.2.2))))))).getD x138.toNat (Ty.dflt Y40)).2.2.2.1, (((x136.set x138.toNat (x137, (y190, ((IntKind.i64.wrap ((IntKind.i64.wrap (x137 + (1 : Int))) + (1 : Int))), ((IntKind.i64.wrap ((IntKind.i64.wrap ((IntKind.i64.wrap (x137 + (1 : Int))) + (1 : Int))) + (1 : Int))), ((IntKind.i64.wrap ((IntKind.i64.wrap ((IntKind.i64.wrap ((IntKind.i64.wrap (x137 + (1 : Int))) + (1 : Int))) + (1 : Int))) + (1 : Int))), ((x136.getD x138.toNat (Ty.dflt Y40)).2.2.2.2.2.1, (x136.getD x138.toNat (Ty.dflt Y40)).2.2.2.2.2.2))))))).getD x138.toNat (Ty.dflt Y40)).2.2.2.2.1, (((Int.tmod (IntKind.i64.wrap ((IntKind.i64.wrap ((IntKind.i64.wrap ((IntKind.i64.wrap ((IntKind.i64.wrap (x137 + (1 : Int))) + (1 : Int))) + (1 : Int))) + (1 : Int))) + (1 : Int))) (3 : Int)) == (0 : Int)), ((x136.set x138.toNat (x137, (y190, ((IntKind.i64.wrap ((IntKind.i64.wrap (x137 + (1 : Int))) + (1 : Int))), ((IntKind.i64.wrap ((IntKind.i64.wrap ((IntKind.i64.wrap (x137 + (1 : Int))) + (1 : Int))) + (1 : Int))), ((IntKind.i64.wrap ((IntKind.i64.wrap ((IntKind.i64.wrap ((IntKind.i64.wrap (x137 + (1 : Int))) + (1 : Int))) + (1 : Int))) + (1 : Int))), ((x136.getD x138.toNat (Ty.dflt Y40)).2.2.2.2.2.1, (x136.getD x138.toNat (Ty.dflt Y40)).2.2.2.2.2.2))))))).getD x138.toNat (Ty.dflt Y40)).2.2.2.2.2.2))))))) .dp]⟩) (φ := True ∧ True ∧ True ∧ ((3 : Int) ≠ 0) ∧ True ∧ (InR x138 (x136.set x138.toNat (x137, (y190, ((IntKind.i64.wrap ((IntKind.i64.wrap (x137 + (1 : Int))) + (1 : Int))), ((IntKind.i64.wrap ((IntKind.i64.wrap ((IntKind.i64.wrap (x137 + (1 : Int))) + (1 : Int))) + (1 : Int))), ((IntKind.i64.wrap ((IntKind.i64.wrap ((IntKind.i64.wrap ((IntKind.i64.wrap (x137 + (1 : Int))) + (1 : Int))) + (1 : Int))) + (1 : Int))), ((x136.getD x138.toNat (Ty.dflt Y40)).2.2.2.2.2.1, (x136.getD x138.toNat (Ty.dflt Y40)).2.2.2.2.2.2))))))).length) ∧ True ∧ (x138.toNat < (x136.set x138.toNat (x137, (y190, ((IntKind.i64.wrap ((IntKind.i64.wrap (x137 + (1 : Int))) + (1 : Int))), ((IntKind.i64.wrap ((IntKind.i64.wrap ((IntKind.i64.wrap (x137 + (1 : Int))) + (1 : Int))) + (1 : Int))), ((IntKind.i64.wrap ((IntKind.i64.wrap ((IntKind.i64.wrap ((IntKind.i64.wrap (x137 + (1 : Int))) + (1 : Int))) + (1 : Int))) + (1 : Int))), ((x136.getD x138.toNat (Ty.dflt Y40)).2.2.2.2.2.1, (x136.getD x138.toNat (Ty.dflt Y40)).2.2.2.2.2.2))))))).length) ∧ True) (by kernel_rfl) ⟨trivial, trivial, trivial, (by decide), trivial, g199, trivial, g200, trivial⟩ ?_
        rw [show ((x136.set x138.toNat (x137, (y190, ((IntKind.i64.wrap ((IntKind.i64.wrap (x137 + (1 : Int))) + (1 : Int))), ((IntKind.i64.wrap ((IntKind.i64.wrap ((IntKind.i64.wrap (x137 + (1 : Int))) + (1 : Int))) + (1 : Int))), ((IntKind.i64.wrap ((IntKind.i64.wrap ((IntKind.i64.wrap ((IntKind.i64.wrap (x137 + (1 : Int))) + (1 : Int))) + (1 : Int))) + (1 : Int))), ((x136.getD x138.toNat (Ty.dflt Y40)).2.2.2.2.2.1, (x136.getD x138.toNat (Ty.dflt Y40)).2.2.2.2.2.2))))))).set x138.toNat (((x136.set x138.toNat (x137, (y190, ((IntKind.i64.wrap ((IntKind.i64.wrap (x137 + (1 : Int))) + (1 : Int))), ((IntKind.i64.wrap ((IntKind.i64.wrap ((IntKind.i64.wrap (x137 + (1 : Int))) + (1 : Int))) + (1 : Int))), ((IntKind.i64.wrap ((IntKind.i64.wrap ((IntKind.i64.wrap ((IntKind.i64.wrap (x137 + (1 : Int))) + (1 : Int))) + (1 : Int))) + (1 : Int))), ((x136.getD x138.toNat (Ty.dflt Y40)).2.2.2.2.2.1, (x136.getD x138.toNat (Ty.dflt Y40)).2.2.2.2.2.2))))))).getD x138.toNat (Ty.dflt Y40)).1, (((x136.set x138.toNat (x137, (y190, ((IntKind.i64.wrap ((IntKind.i64.wrap (x137 + (1 : Int))) + (1 : Int))), ((IntKind.i64.wrap ((IntKind.i64.wrap ((IntKind.i64.wrap (x137 + (1 : Int))) + (1 : Int))) + (1 : Int))), ((IntKind.i64.wrap ((IntKind.i64.wrap ((IntKind.i64.wrap ((IntKind.i64.wrap (x137 + (1 : Int))) + (1 : Int))) + (1 : Int))) + (1 : Int))), ((x136.getD x138.toNat (Ty.dflt Y40)).2.2.2.2.2.1, (x136.getD x138.toNat (Ty.dflt Y40)).2.2.2.2.2.2))))))).getD x138.toNat (Ty.dflt Y40)).2.1, (((x136.set x138.toNat (x137, (y190, ((IntKind.i64.wrap ((IntKind.i64.wrap (x137 + (1 : Int))) + (1 : Int))), ((IntKind.i64.wrap ((IntKind.i64.wrap ((IntKind.i64.wrap (x137 + (1 : Int))) + (1 : Int))) + (1 : Int))), ((IntKind.i64.wrap ((IntKind.i64.wrap ((IntKind.i64.wrap ((IntKind.i64.wrap (x137 + (1 : Int))) + (1 : Int))) + (1 : Int))) + (1 : Int))), ((x136.getD x138.toNat (Ty.dflt Y40)).2.2.2.2.2.1, (x136.getD x138.toNat (Ty.dflt Y40)).2.2.2.2.2.2))))))).getD x138.toNat (Ty.dflt Y40)).2.2.1, (((x136.set x138.toNat (x137, (y190, ((IntKind.i64.wrap ((IntKind.i64.wrap (x137 + (1 : Int))) + (1 : Int))), ((IntKind.i64.wrap ((IntKind.i64.wrap ((IntKind.i64.wrap (x137 + (1 : Int))) + (1 : Int))) + (1 : Int))), ((IntKind.i64.wrap ((IntKind.i64.wrap ((IntKind.i64.wrap ((IntKind.i64.wrap (x137 + (1 : Int))) + (1 : Int))) + (1 : Int))) + (1 : Int))), ((x136.getD x138.toNat (Ty.dflt Y40)).2.2.2.2.2.1, (x136.getD x138.toNat (Ty.dflt Y40)).2.2.2.2.2.2))))))).getD x138.toNat (Ty.dflt Y40)).2.2.2.1, (((x136.set x138.toNat (x137, (y190, ((IntKind.i64.wrap ((IntKind.i64.wrap (x137 + (1 : Int))) + (1 : Int))), ((IntKind.i64.wrap ((IntKind.i64.wrap ((IntKind.i64.wrap (x137 + (1 : Int))) + (1 : Int))) + (1 : Int))), ((IntKind.i64.wrap ((IntKind.i64.wrap ((IntKind.i64.wrap ((IntKind.i64.wrap (x137 + (1 : Int))) + (1 : Int))) + (1 : Int))) + (1 : Int))), ((x136.getD x138.toNat (Ty.dflt Y40)).2.2.2.2.2.1, (x136.getD x138.toNat (Ty.dflt Y40)).2.2.2.2.2.2))))))).getD x138.toNat (Ty.dflt Y40)).2.2.2.2.1, (((Int.tmod (IntKind.i64.wrap ((IntKind.i64.wrap ((IntKind.i64.wrap ((IntKind.i64.wrap ((IntKind.i64.wrap (x137 + (1 : Int))) + (1 : Int))) + (1 : Int))) + (1 : Int))) + (1 : Int))) (3 : Int)) == (0 : Int)), ((x136.set x138.toNat (x137, (y190, ((IntKind.i64.wrap ((IntKind.i64.wrap (x137 + (1 : Int))) + (1 : Int))), ((IntKind.i64.wrap ((IntKind.i64.wrap ((IntKind.i64.wrap (x137 + (1 : Int))) + (1 : Int))) + (1 : Int))), ((IntKind.i64.wrap ((IntKind.i64.wrap ((IntKind.i64.wrap ((IntKind.i64.wrap (x137 + (1 : Int))) + (1 : Int))) + (1 : Int))) + (1 : Int))), ((x136.getD x138.toNat (Ty.dflt Y40)).2.2.2.2.2.1, (x136.getD x138.toNat (Ty.dflt Y40)).2.2.2.2.2.2))))))).getD x138.toNat (Ty.dflt Y40)).2.2.2.2.2.2))))))) = (x136.set x138.toNat (x137, (y190, ((IntKind.i64.wrap ((IntKind.i64.wrap (x137 + (1 : Int))) + (1 : Int))), ((IntKind.i64.wrap ((IntKind.i64.wrap ((IntKind.i64.wrap (x137 + (1 : Int))) + (1 : Int))) + (1 : Int))), ((IntKind.i64.wrap ((IntKind.i64.wrap ((IntKind.i64.wrap ((IntKind.i64.wrap (x137 + (1 : Int))) + (1 : Int))) + (1 : Int))) + (1 : Int))), (((Int.tmod (IntKind.i64.wrap ((IntKind.i64.wrap ((IntKind.i64.wrap ((IntKind.i64.wrap ((IntKind.i64.wrap (x137 + (1 : Int))) + (1 : Int))) + (1 : Int))) + (1 : Int))) + (1 : Int))) (3 : Int)) == (0 : Int)), (x136.getD x138.toNat (Ty.dflt Y40)).2.2.2.2.2.2))))))) from set_upd x136 x138.toNat (x137, (y190, ((IntKind.i64.wrap ((IntKind.i64.wrap (x137 + (1 : Int))) + (1 : Int))), ((IntKind.i64.wrap ((IntKind.i64.wrap ((IntKind.i64.wrap (x137 + (1 : Int))) + (1 : Int))) + (1 : Int))), ((IntKind.i64.wrap ((IntKind.i64.wrap ((IntKind.i64.wrap ((IntKind.i64.wrap (x137 + (1 : Int))) + (1 : Int))) + (1 : Int))) + (1 : Int))), ((x136.getD x138.toNat (Ty.dflt Y40)).2.2.2.2.2.1, (x136.getD x138.toNat (Ty.dflt Y40)).2.2.2.2.2.2)))))) (Ty.dflt Y40) (fun z => (z.1, (z.2.1, (z.2.2.1, (z.2.2.2.1, (z.2.2.2.2.1, (((Int.tmod (IntKind.i64.wrap ((IntKind.i64.wrap ((IntKind.i64.wrap ((IntKind.i64.wrap ((IntKind.i64.wrap (x137 + (1 : Int))) + (1 : Int))) + (1 : Int))) + (1 : Int))) + (1 : Int))) (3 : Int)) == (0 : Int)), z.2.2.2.2.2.2))))))) (by simpa using g200)]
        refine VO.seg T_ok .dp 0 [0, 1, 5, 65536] [0] (s' := ⟨[(0, .lf (.hd 0 0 none)), (1, I (IntKind.i64.wrap ((IntKind.i64.wrap ((IntKind.i64.wrap ((IntKind.i64.wrap ((IntKind.i64.wrap (x137 + (1 : Int))) + (1 : Int))) + (1 : Int))) + (1 : Int))) + (1 : Int)))), (5, I x138), (65536, .lf (.hd 0 0 none))], [ar 0 Y40 (x136.set x138.toNat (x137, (y190, ((IntKind.i64.wrap ((IntKind.i64.wrap (x137 + (1 : Int))) + (1 : Int))), ((IntKind.i64.wrap ((IntKind.i64.wrap ((IntKind.i64.wrap (x137 + (1 : Int))) + (1 : Int))) + (1 : Int))), ((IntKind.i64.wrap ((IntKind.i64.wrap ((IntKind.i64.wrap ((IntKind.i64.wrap (x137 + (1 : Int))) + (1 : Int))) + (1 : Int))) + (1 : Int))), (((Int.tmod (IntKind.i64.wrap ((IntKind.i64.wrap ((IntKind.i64.wrap ((IntKind.i64.wrap ((IntKind.i64.wrap (x137 + (1 : Int))) + (1 : Int))) + (1 : Int))) + (1 : Int))) + (1 : Int))) (3 : Int)) == (0 : Int)), (x136.getD x138.toNat (Ty.dflt Y40)).2.2.2.2.2.2))))))) .dp]⟩) (φ := True) (by kernel_rfl) trivial ?_
        refine VO.nil ?_
        show VW _ _ _ _ _ _ _
        refine VW.seq ?_
        refine VW.region ?_
        refine VO.seg T_ok .dp 3 [0, 1, 5, 65536] [0] (s' := ⟨[(0, .lf (.hd 0 0 none)), (1, I (IntKind.i64.wrap ((IntKind.i64.wrap ((IntKind.i64.wrap ((IntKind.i64.wrap ((IntKind.i64.wrap ((IntKind.i64.wrap (x137 + (1 : Int))) + (1 : Int))) + (1 : Int))) + (1 : Int))) + (1 : Int))) + (1 : Int)))), (5, I x138), (65536, .lf (.hd 0 0 none))], [ar 0 Y40 (x136.set x138.toNat (x137, (y190, ((IntKind.i64.wrap ((IntKind.i64.wrap (x137 + (1 : Int))) + (1 : Int))), ((IntKind.i64.wrap ((IntKind.i64.wrap ((IntKind.i64.wrap (x137 + (1 : Int))) + (1 : Int))) + (1 : Int))), ((IntKind.i64.wrap ((IntKind.i64.wrap ((IntKind.i64.wrap ((IntKind.i64.wrap (x137 + (1 : Int))) + (1 : Int))) + (1 : Int))) + (1 : Int))), (((Int.tmod (IntKind.i64.wrap ((IntKind.i64.wrap ((IntKind.i64.wrap ((IntKind.i64.wrap ((IntKind.i64.wrap (x137 + (1 : Int))) + (1 : Int))) + (1 : Int))) + (1 : Int))) + (1 : Int))) (3 : Int)) == (0 : Int)), (x136.getD x138.toNat (Ty.dflt Y40)).2.2.2.2.2.2))))))) .dp]⟩) (φ := True ∧ True ∧ True ∧ True) (by kernel_rfl) ⟨trivial, trivial, trivial, trivial⟩ ?_
        refine VO.nil ?_
        show VW _ _ _ _ _ _ _
        refine VW.region ?_
        obtain ⟨g201, h⟩ := gd_some h
        refine VO.seg T_ok .dp 4 [0, 1, 5, 60, 65536] [0] (s' := ⟨[(0, .lf (.hd 0 0 none)), (1, I (IntKind.i64.wrap ((IntKind.i64.wrap ((IntKind.i64.wrap ((IntKind.i64.wrap ((IntKind.i64.wrap ((IntKind.i64.wrap (x137 + (1 : Int))) + (1 : Int))) + (1 : Int))) + (1 : Int))) + (1 : Int))) + (1 : Int)))), (5, I x138), (60, .lf (.ptr 0 0 x138.toNat 6)), (65536, .lf (.hd 0 0 none))], [ar 0 Y40 (x136.set x138.toNat (x137, (y190, ((IntKind.i64.wrap ((IntKind.i64.wrap (x137 + (1 : Int))) + (1 : Int))), ((IntKind.i64.wrap ((IntKind.i64.wrap ((IntKind.i64.wrap (x137 + (1 : Int))) + (1 : Int))) + (1 : Int))), ((IntKind.i64.wrap ((IntKind.i64.wrap ((IntKind.i64.wrap ((IntKind.i64.wrap (x137 + (1 : Int))) + (1 : Int))) + (1 : Int))) + (1 : Int))), (((Int.tmod (IntKind.i64.wrap ((IntKind.i64.wrap ((IntKind.i64.wrap ((IntKind.i64.wrap ((IntKind.i64.wrap (x137 + (1 : Int))) + (1 : Int))) + (1 : Int))) + (1 : Int))) + (1 : Int))) (3 : Int)) == (0 : Int)), (x136.getD x138.toNat (Ty.dflt Y40)).2.2.2.2.2.2))))))) .dp]⟩) (φ := True ∧ True ∧ (InR x138 (x136.set x138.toNat (x137, (y190, ((IntKind.i64.wrap ((IntKind.i64.wrap (x137 + (1 : Int))) + (1 : Int))), ((IntKind.i64.wrap ((IntKind.i64.wrap ((IntKind.i64.wrap (x137 + (1 : Int))) + (1 : Int))) + (1 : Int))), ((IntKind.i64.wrap ((IntKind.i64.wrap ((IntKind.i64.wrap ((IntKind.i64.wrap (x137 + (1 : Int))) + (1 : Int))) + (1 : Int))) + (1 : Int))), (((Int.tmod (IntKind.i64.wrap ((IntKind.i64.wrap ((IntKind.i64.wrap ((IntKind.i64.wrap ((IntKind.i64.wrap (x137 + (1 : Int))) + (1 : Int))) + (1 : Int))) + (1 : Int))) + (1 : Int))) (3 : Int)) == (0 : Int)), (x136.getD x138.toNat (Ty.dflt Y40)).2.2.2.2.2.2))))))).length) ∧ True ∧ True) (by kernel_rfl) ⟨trivial, trivial, g201, trivial, trivial⟩ ?_
        obtain ⟨g203, h⟩ := gd_some h
        obtain ⟨y202, hy, h⟩ := andO_some h
        refine VO.lendIn (t := 23) (d1 := 61) (d2 := 62) (d3 := 63) (id := 0) (cur := 0) (i := x138.toNat) (j := 6) (v2 := I (IntKind.i64.wrap ((IntKind.i64.wrap ((IntKind.i64.wrap ((IntKind.i64.wrap ((IntKind.i64.wrap ((IntKind.i64.wrap (x137 + (1 : Int))) + (1 : Int))) + (1 : Int))) + (1 : Int))) + (1 : Int))) + (1 : Int)))) (f := 14) (l := [I (IntKind.i64.wrap ((IntKind.i64.wrap ((IntKind.i64.wrap ((IntKind.i64.wrap ((IntKind.i64.wrap ((IntKind.i64.wrap (x137 + (1 : Int))) + (1 : Int))) + (1 : Int))) + (1 : Int))) + (1 : Int))) + (1 : Int)))]) (e := Y40) (t' := (.int .i64)) (xs := (x136.set x138.toNat (x137, (y190, ((IntKind.i64.wrap ((IntKind.i64.wrap (x137 + (1 : Int))) + (1 : Int))), ((IntKind.i64.wrap ((IntKind.i64.wrap ((IntKind.i64.wrap (x137 + (1 : Int))) + (1 : Int))) + (1 : Int))), ((IntKind.i64.wrap ((IntKind.i64.wrap ((IntKind.i64.wrap ((IntKind.i64.wrap (x137 + (1 : Int))) + (1 : Int))) + (1 : Int))) + (1 : Int))), (((Int.tmod (IntKind.i64.wrap ((IntKind.i64.wrap ((IntKind.i64.wrap ((IntKind.i64.wrap ((IntKind.i64.wrap (x137 + (1 : Int))) + (1 : Int))) + (1 : Int))) + (1 : Int))) + (1 : Int))) (3 : Int)) == (0 : Int)), (x136.getD x138.toNat (Ty.dflt Y40)).2.2.2.2.2.2)))))))) (ys := (((x136.set x138.toNat (x137, (y190, ((IntKind.i64.wrap ((IntKind.i64.wrap (x137 + (1 : Int))) + (1 : Int))), ((IntKind.i64.wrap ((IntKind.i64.wrap ((IntKind.i64.wrap (x137 + (1 : Int))) + (1 : Int))) + (1 : Int))), ((IntKind.i64.wrap ((IntKind.i64.wrap ((IntKind.i64.wrap ((IntKind.i64.wrap (x137 + (1 : Int))) + (1 : Int))) + (1 : Int))) + (1 : Int))), (((Int.tmod (IntKind.i64.wrap ((IntKind.i64.wrap ((IntKind.i64.wrap ((IntKind.i64.wrap ((IntKind.i64.wrap (x137 + (1 : Int))) + (1 : Int))) + (1 : Int))) + (1 : Int))) + (1 : Int))) (3 : Int)) == (0 : Int)), (x136.getD x138.toNat (Ty.dflt Y40)).2.2.2.2.2.2))))))).getD x138.toNat (Ty.dflt Y40)).2.2.2.2.2.2)) (ys' := y202.1) (x' := (((x136.set x138.toNat (x137, (y190, ((IntKind.i64.wrap ((IntKind.i64.wrap (x137 + (1 : Int))) + (1 : Int))), ((IntKind.i64.wrap ((IntKind.i64.wrap ((IntKind.i64.wrap (x137 + (1 : Int))) + (1 : Int))) + (1 : Int))), ((IntKind.i64.wrap ((IntKind.i64.wrap ((IntKind.i64.wrap ((IntKind.i64.wrap (x137 + (1 : Int))) + (1 : Int))) + (1 : Int))) + (1 : Int))), (((Int.tmod (IntKind.i64.wrap ((IntKind.i64.wrap ((IntKind.i64.wrap ((IntKind.i64.wrap ((IntKind.i64.wrap (x137 + (1 : Int))) + (1 : Int))) + (1 : Int))) + (1 : Int))) + (1 : Int))) (3 : Int)) == (0 : Int)), (x136.getD x138.toNat (Ty.dflt Y40)).2.2.2.2.2.2))))))).getD x138.toNat (Ty.dflt Y40)).1, (((x136.set x138.toNat (x137, (y190, ((IntKind.i64.wrap ((IntKind.i64.wrap (x137 + (1 : Int))) + (1 : Int))), ((IntKind.i64.wrap ((IntKind.i64.wrap ((IntKind.i64.wrap (x137 + (1 : Int))) + (1 : Int))) + (1 : Int))), ((IntKind.i64.wrap ((IntKind.i64.wrap ((IntKind.i64.wrap ((IntKind.i64.wrap (x137 + (1 : Int))) + (1 : Int))) + (1 : Int))) + (1 : Int))), (((Int.tmod (IntKind.i64.wrap ((IntKind.i64.wrap ((IntKind.i64.wrap ((IntKind.i64.wrap ((IntKind.i64.wrap (x137 + (1 : Int))) + (1 : Int))) + (1 : Int))) + (1 : Int))) + (1 : Int))) (3 : Int)) == (0 : Int)), (x136.getD x138.toNat (Ty.dflt Y40)).2.2.2.2.2.2))))))).getD x138.toNat (Ty.dflt Y40)).2.1, (((x136.set x138.toNat (x137, (y190, ((IntKind.i64.wrap ((IntKind.i64.wrap (x137 + (1 : Int))) + (1 : Int))), ((IntKind.i64.wrap ((IntKind.i64.wrap ((IntKind.i64.wrap (x137 + (1 : Int))) + (1 : Int))) + (1 : Int))), ((IntKind.i64.wrap ((IntKind.i64.wrap ((IntKind.i64.wrap ((IntKind.i64.wrap (x137 + (1 : Int))) + (1 : Int))) + (1 : Int))) + (1 : Int))), (((Int.tmod (IntKind.i64.wrap ((IntKind.i64.wrap ((IntKind.i64.wrap ((IntKind.i64.wrap ((IntKind.i64.wrap (x137 + (1 : Int))) + (1 : Int))) + (1 : Int))) + (1 : Int))) + (1 : Int))) (3 : Int)) == (0 : Int)), (x136.getD x138.toNat (Ty.dflt Y40)).2.2.2.2.2.2))))))).getD x138.toNat (Ty.dflt Y40)).2.2.1, (((x136.set x138.toNat (x137, (y190, ((IntKind.i64.wrap ((IntKind.i64.wrap (x137 + (1 : Int))) + (1 : Int))), ((IntKind.i64.wrap ((IntKind.i64.wrap ((IntKind.i64.wrap (x137 + (1 : Int))) + (1 : Int))) + (1 : Int))), ((IntKind.i64.wrap ((IntKind.i64.wrap ((IntKind.i64.wrap ((IntKind.i64.wrap (x137 + (1 : Int))) + (1 : Int))) + (1 : Int))) + (1 : Int))), (((Int.tmod (IntKind.i64.wrap ((IntKind.i64.wrap ((IntKind.i64.wrap ((IntKind.i64.wrap ((IntKind.i64.wrap (x137 + (1 : Int))) + (1 : Int))) + (1 : Int))) + (1 : Int))) + (1 : Int))) (3 : Int)) == (0 : Int)), (x136.getD x138.toNat (Ty.dflt Y40)).2.2.2.2.2.2))))))).getD x138.toNat (Ty.dflt Y40)).2.2.2.1, (((x136.set x138.toNat (x137, (y190, ((IntKind.i64.wrap ((IntKind.i64.wrap (x137 + (1 : Int))) + (1 : Int))), ((IntKind.i64.wrap ((IntKind.i64.wrap ((IntKind.i64.wrap (x137 + (1 : Int))) + (1 : Int))) + (1 : Int))), ((IntKind.i64.wrap ((IntKind.i64.wrap ((IntKind.i64.wrap ((IntKind.i64.wrap (x137 + (1 : Int))) + (1 : Int))) + (1 : Int))) + (1 : Int))), (((Int.tmod (IntKind.i64.wrap ((IntKind.i64.wrap ((IntKind.i64.wrap ((IntKind.i64.wrap ((IntKind.i64.wrap (x137 + (1 : Int))) + (1 : Int))) + (1 : Int))) + (1 : Int))) + (1 : Int))) (3 : Int)) == (0 : Int)), (x136.getD x138.toNat (Ty.dflt Y40)).2.2.2.2.2.2))))))).getD x138.toNat (Ty.dflt Y40)).2.2.2.2.1, (((x136.set x138.toNat (x137, (y190, ((IntKind.i64.wrap ((IntKind.i64.wrap (x137 + (1 : Int))) + (1 : Int))), ((IntKind.i64.wrap ((IntKind.i64.wrap ((IntKind.i64.wrap (x137 + (1 : Int))) + (1 : Int))) + (1 : Int))), ((IntKind.i64.wrap ((IntKind.i64.wrap ((IntKind.i64.wrap ((IntKind.i64.wrap (x137 + (1 : Int))) + (1 : Int))) + (1 : Int))) + (1 : Int))), (((Int.tmod (IntKind.i64.wrap ((IntKind.i64.wrap ((IntKind.i64.wrap ((IntKind.i64.wrap ((IntKind.i64.wrap (x137 + (1 : Int))) + (1 : Int))) + (1 : Int))) + (1 : Int))) + (1 : Int))) (3 : Int)) == (0 : Int)), (x136.getD x138.toNat (Ty.dflt Y40)).2.2.2.2.2.2))))))).getD x138.toNat (Ty.dflt Y40)).2.2.2.2.2.1, y202.1))))))) (rs := [.lf (.v (.int .i64) y202.2)]) (v1 := 0) T_ok (by kernel_rfl) (by kernel_rfl) (by kernel_rfl) (by kernel_rfl) (by kernel_rfl) g203 (ok14 N _ _ hy) rfl ?_
        refine VO.seg T_ok .dp 1 [0, 1, 5, 65536] [0] (s' := ⟨[(0, .lf (.hd 0 0 none)), (1, I y202.2), (5, I x138), (65536, .lf (.hd 0 0 none))], [ar 0 Y40 ((x136.set x138.toNat (x137, (y190, ((IntKind.i64.wrap ((IntKind.i64.wrap (x137 + (1 : Int))) + (1 : Int))), ((IntKind.i64.wrap ((IntKind.i64.wrap ((IntKind.i64.wrap (x137 + (1 : Int))) + (1 : Int))) + (1 : Int))), ((IntKind.i64.wrap ((IntKind.i64.wrap ((IntKind.i64.wrap ((IntKind.i64.wrap (x137 + (1 : Int))) + (1 : Int))) + (1 : Int))) + (1 : Int))), (((Int.tmod (IntKind.i64.wrap ((IntKind.i64.wrap ((IntKind.i64.wrap ((IntKind.i64.wrap ((IntKind.i64.wrap (x137 + (1 : Int))) + (1 : Int))) + (1 : Int))) + (1 : Int))) + (1 : Int))) (3 : Int)) == (0 : Int)), (x136.getD x138.toNat (Ty.dflt Y40)).2.2.2.2.2.2))))))).set x138.toNat (((x136.set x138.toNat (x137, (y190, ((IntKind.i64.wrap ((IntKind.i64.wrap (x137 + (1 : Int))) + (1 : Int))), ((IntKind.i64.wrap ((IntKind.i64.wrap ((IntKind.i64.wrap (x137 + (1 : Int))) + (1 : Int))) + (1 : Int))), ((IntKind.i64.wrap ((IntKind.i64.wrap ((IntKind.i64.wrap ((IntKind.i64.wrap (x137 + (1 : Int))) + (1 : Int))) + (1 : Int))) + (1 : Int))), (((Int.tmod (IntKind.i64.wrap ((IntKind.i64.wrap ((IntKind.i64.wrap ((IntKind.i64.wrap ((IntKind.i64.wrap (x137 + (1 : Int))) + (1 : Int))) + (1 : Int))) + (1 : Int))) + (1 : Int))) (3 : Int)) == (0 : Int)), (x136.getD x138.toNat (Ty.dflt Y40)).2.2.2.2.2.2))))))).getD x138.toNat (Ty.dflt Y40)).1, (((x136.set x138.toNat (x137, (y190, ((IntKind.i64.wrap ((IntKind.i64.wrap (x137 + (1 : Int))) + (1 : Int))), ((IntKind.i64.wrap ((IntKind.i64.wrap ((IntKind.i64.wrap (x137 + (1 : Int))) + (1 : Int))) + (1 : Int))), ((IntKind.i64.wrap ((IntKind.i64.wrap ((IntKind.i64.wrap ((IntKind.i64.wrap (x137 + (1 : Int))) + (1 : Int))) + (1 : Int))) + (1 : Int))), (((Int.tmod (IntKind.i64.wrap ((IntKind.i64.wrap ((IntKind.i64.wrap ((IntKind.i64.wrap ((IntKind.i64.wrap (x137 + (1 : Int))) + (1 : Int))) + (1 : Int))) + (1 : Int))) + (1 : Int))) (3 : Int)) == (0 : Int)), (x136.getD x138.toNat (Ty.dflt Y40)).2.2.2.2.2.2))))))).getD x138.toNat (Ty.dflt Y40)).2.1, (((x136.set x138.toNat (x137, (y190, ((IntKind.i64.wrap ((IntKind.i64.wrap (x137 + (1 : Int))) + (1 : Int))), ((IntKind.i64.wrap ((IntKind.i64.wrap ((IntKind.i64.wrap (x137 + (1 : Int))) + (1 : Int))) + (1 : Int))), ((IntKind.i64.wrap ((IntKind.i64.wrap ((IntKind.i64.wrap ((IntKind.i64.wrap (x137 + (1 : Int))) + (1 : Int))) + (1 : Int))) + (1 : Int))), (((Int.tmod (IntKind.i64.wrap ((IntKind.i64.wrap ((IntKind.i64.wrap ((IntKind.i64.wrap ((IntKind.i64.wrap (x137 + (1 : Int))) + (1 : Int))) + (1 : Int))) + (1 : Int))) + (1 : Int))) (3 : Int)) == (0 : Int)), (x136.getD x138.toNat (Ty.dflt Y40)).2.2.2.2.2.2))))))).getD x138.toNat (Ty.dflt Y40)).2.2.1, (((x136.set x138.toNat (x137, (y190, ((IntKind.i64.wrap ((IntKind.i64.wrap (x137 + (1 : Int))) + (1 : Int))), ((IntKind.i64.wrap ((IntKind.i64.wrap ((IntKind.i64.wrap (x137 + (1 : Int))) + (1 : Int))) + (1 : Int))), ((IntKind.i64.wrap ((IntKind.i64.wrap ((IntKind.i64.wrap ((IntKind.i64.wrap (x137 + (1 : Int))) + (1 : Int))) + (1 : Int))) + (1 : Int))), (((Int.tmod (IntKind.i64.wrap ((IntKind.i64.wrap ((IntKind.i64.wrap ((IntKind.i64.wrap ((IntKind.i64.wrap (x137 + (1 : Int))) + (1 : Int))) + (1 : Int))) + (1 : Int))) + (1 : Int))) (3 : Int)) == (0 : Int)), (x136.getD x138.toNat (Ty.dflt Y40)).2.2.2.2.2.2))))))).getD x138.toNat (Ty.dflt Y40)).2.2.2.1, (((x136.set x138.toNat (x137, (y190, ((IntKind.i64.wrap ((IntKind.i64.wrap (x137 + (1 : Int))) + (1 : Int))), ((IntKind.i64.wrap ((IntKind.i64.wrap ((IntKind.i64.wrap (x137 + (1 : Int))) + (1 : Int))) + (1 : Int))), ((IntKind.i64.wrap ((IntKind.i64.wrap ((IntKind.i64.wrap ((IntKind.i64.wrap (x137 + (1 : Int))) + (1 : Int))) + (1 : Int))) + (1 : Int))), (((Int.tmod (IntKind.i64.wrap ((IntKind.i64.wrap ((IntKind.i64.wrap ((IntKind.i64.wrap ((IntKind.i64.wrap (x137 + (1 : Int))) + (1 : Int))) + (1 : Int))) + (1 : Int))) + (1 : Int))) (3 : Int)) == (0 : Int)), (x136.getD x138.toNat (Ty.dflt Y40)).2.2.2.2.2.2))))))).getD x138.toNat (Ty.dflt Y40)).2.2.2.2.1, (((x136.set x138.toNat (x137, (y190, ((IntKind.i64.wrap ((IntKind.i64.wrap (x137 + (1 : Int))) + (1 : Int))), ((IntKind.i64.wrap ((IntKind.i64.wrap ((IntKind.i64.wrap (x137 + (1 : Int))) + (1 : Int))) + (1 : Int))), ((IntKind.i64.wrap ((IntKind.i64.wrap ((IntKind.i64.wrap ((IntKind.i64.wrap (x137 + (1 : Int))) + (1 : Int))) + (1 : Int))) + (1 : Int))), (((Int.tmod (IntKind.i64.wrap ((IntKind.i64.wrap ((IntKind.i64.wrap ((IntKind.i64.wrap ((IntKind.i64.wrap (x137 + (1 : Int))) + (1 : Int))) + (1 : Int))) + (1 : Int))) + (1 : Int))) (3 : Int)) == (0 : Int)), (x136.getD x138.toNat (Ty.dflt Y40)).2.2.2.2.2.2))))))).getD x138.toNat (Ty.dflt Y40)).2.2.2.2.2.1, y202.1))))))) .dp]⟩) (φ := True ∧ True) (by kernel_rfl) ⟨trivial, trivial⟩ ?_
        refine VO.nil ?_
        show VW _ _ _ _ _ _ _
        refine VW.region ?_
        refine VO.seg T_ok .dp 3 [0, 1, 5, 65536] [0] (s' := ⟨[(0, .lf (.hd 0 0 none)), (1, I y202.2), (5, I (IntKind.i64.wrap (x138 + (1 : Int)))), (65536, .lf (.hd 0 0 none))], [ar 0 Y40 ((x136.set x138.toNat (x137, (y190, ((IntKind.i64.wrap ((IntKind.i64.wrap (x137 + (1 : Int))) + (1 : Int))), ((IntKind.i64.wrap ((IntKind.i64.wrap ((IntKind.i64.wrap (x137 + (1 : Int))) + (1 : Int))) + (1 : Int))), ((IntKind.i64.wrap ((IntKind.i64.wrap ((IntKind.i64.wrap ((IntKind.i64.wrap (x137 + (1 : Int))) + (1 : Int))) + (1 : Int))) + (1 : Int))), (((Int.tmod (IntKind.i64.wrap ((IntKind.i64.wrap ((IntKind.i64.wrap ((IntKind.i64.wrap ((IntKind.i64.wrap (x137 + (1 : Int))) + (1 : Int))) + (1 : Int))) + (1 : Int))) + (1 : Int))) (3 : Int)) == (0 : Int)), (x136.getD x138.toNat (Ty.dflt Y40)).2.2.2.2.2.2))))))).set x138.toNat (((x136.set x138.toNat (x137, (y190, ((IntKind.i64.wrap ((IntKind.i64.wrap (x137 + (1 : Int))) + (1 : Int))), ((IntKind.i64.wrap ((IntKind.i64.wrap ((IntKind.i64.wrap (x137 + (1 : Int))) + (1 : Int))) + (1 : Int))), ((IntKind.i64.wrap ((IntKind.i64.wrap ((IntKind.i64.wrap ((IntKind.i64.wrap (x137 + (1 : Int))) + (1 : Int))) + (1 : Int))) + (1 : Int))), (((Int.tmod (IntKind.i64.wrap ((IntKind.i64.wrap ((IntKind.i64.wrap ((IntKind.i64.wrap ((IntKind.i64.wrap (x137 + (1 : Int))) + (1 : Int))) + (1 : Int))) + (1 : Int))) + (1 : Int))) (3 : Int)) == (0 : Int)), (x136.getD x138.toNat (Ty.dflt Y40)).2.2.2.2.2.2))))))).getD x138.toNat (Ty.dflt Y40)).1, (((x136.set x138.toNat (x137, (y190, ((IntKind.i64.wrap ((IntKind.i64.wrap (x137 + (1 : Int))) + (1 : Int))), ((IntKind.i64.wrap ((IntKind.i64.wrap ((IntKind.i64.wrap (x137 + (1 : Int))) + (1 : Int))) + (1 : Int))), ((IntKind.i64.wrap ((IntKind.i64.wrap ((IntKind.i64.wrap ((IntKind.i64.wrap (x137 + (1 : Int))) + (1 : Int))) + (1 : Int))) + (1 : Int))), (((Int.tmod (IntKind.i64.wrap ((IntKind.i64.wrap ((IntKind.i64.wrap ((IntKind.i64.wrap ((IntKind.i64.wrap (x137 + (1 : Int))) + (1 : Int))) + (1 : Int))) + (1 : Int))) + (1 : Int))) (3 : Int)) == (0 : Int)), (x136.getD x138.toNat (Ty.dflt Y40)).2.2.2.2.2.2))))))).getD x138.toNat (Ty.dflt Y40)).2.1, (((x136.set x138.toNat (x137, (y190, ((IntKind.i64.wrap ((IntKind.i64.wrap (x137 + (1 : Int))) + (1 : Int))), ((IntKind.i64.wrap ((IntKind.i64.wrap ((IntKind.i64.wrap (x137 + (1 : Int))) + (1 : Int))) + (1 : Int))), ((IntKind.i64.wrap ((IntKind.i64.wrap ((IntKind.i64.wrap ((IntKind.i64.wrap (x137 + (1 : Int))) + (1 : Int))) + (1 : Int))) + (1 : Int))), (((Int.tmod (IntKind.i64.wrap ((IntKind.i64.wrap ((IntKind.i64.wrap ((IntKind.i64.wrap ((IntKind.i64.wrap (x137 + (1 : Int))) + (1 : Int))) + (1 : Int))) + (1 : Int))) + (1 : Int))) (3 : Int)) == (0 : Int)), (x136.getD x138.toNat (Ty.dflt Y40)).2.2.2.2.2.2))))))).getD x138.toNat (Ty.dflt Y40)).2.2.1, (((x136.set x138.toNat (x137, (y190, ((IntKind.i64.wrap ((IntKind.i64.wrap (x137 + (1 : Int))) + (1 : Int))), ((IntKind.i64.wrap ((IntKind.i64.wrap ((IntKind.i64.wrap (x137 + (1 : Int))) + (1 : Int))) + (1 : Int))), ((IntKind.i64.wrap ((IntKind.i64.wrap ((IntKind.i64.wrap ((IntKind.i64.wrap (x137 + (1 : Int))) + (1 : Int))) + (1 : Int))) + (1 : Int))), (((Int.tmod (IntKind.i64.wrap ((IntKind.i64.wrap ((IntKind.i64.wrap ((IntKind.i64.wrap ((IntKind.i64.wrap (x137 + (1 : Int))) + (1 : Int))) + (1 : Int))) + (1 : Int))) + (1 : Int))) (3 : Int)) == (0 : Int)), (x136.getD x138.toNat (Ty.dflt Y40)).2.2.2.2.2.2))))))).getD x138.toNat (Ty.dflt Y40)).2.2.2.1, (((x136.set x138.toNat (x137, (y190, ((IntKind.i64.wrap ((IntKind.i64.wrap (x137 + (1 : Int))) + (1 : Int))), ((IntKind.i64.wrap ((IntKind.i64.wrap ((IntKind.i64.wrap (x137 + (1 : Int))) + (1 : Int))) + (1 : Int))), ((IntKind.i64.wrap ((IntKind.i64.wrap ((IntKind.i64.wrap ((IntKind.i64.wrap (x137 + (1 : Int))) + (1 : Int))) + (1 : Int))) + (1 : Int))), (((Int.tmod (IntKind.i64.wrap ((IntKind.i64.wrap ((IntKind.i64.wrap ((IntKind.i64.wrap ((IntKind.i64.wrap (x137 + (1 : Int))) + (1 : Int))) + (1 : Int))) + (1 : Int))) + (1 : Int))) (3 : Int)) == (0 : Int)), (x136.getD x138.toNat (Ty.dflt Y40)).2.2.2.2.2.2))))))).getD x138.toNat (Ty.dflt Y40)).2.2.2.2.1, (((x136.set x138.toNat (x137, (y190, ((IntKind.i64.wrap ((IntKind.i64.wrap (x137 + (1 : Int))) + (1 : Int))), ((IntKind.i64.wrap ((IntKind.i64.wrap ((IntKind.i64.wrap (x137 + (1 : Int))) + (1 : Int))) + (1 : Int))), ((IntKind.i64.wrap ((IntKind.i64.wrap ((IntKind.i64.wrap ((IntKind.i64.wrap (x137 + (1 : Int))) + (1 : Int))) + (1 : Int))) + (1 : Int))), (((Int.tmod (IntKind.i64.wrap ((IntKind.i64.wrap ((IntKind.i64.wrap ((IntKind.i64.wrap ((IntKind.i64.wrap (x137 + (1 : Int))) + (1 : Int))) + (1 : Int))) + (1 : Int))) + (1 : Int))) (3 : Int)) == (0 : Int)), (x136.getD x138.toNat (Ty.dflt Y40)).2.2.2.2.2.2))))))).getD x138.toNat (Ty.dflt Y40)).2.2.2.2.2.1, y202.1))))))) .dp]⟩) (φ := True ∧ True ∧ True ∧ True) (by kernel_rfl) ⟨trivial, trivial, trivial, trivial⟩ ?_
        refine VO.nil ?_
        exact around [.ren [0, 1, 5, 65536] [0]] (by kernel_rfl) ⟨((x136.set x138.toNat (x137, (y190, ((IntKind.i64.wrap ((IntKind.i64.wrap (x137 + (1 : Int))) + (1 : Int))), ((IntKind.i64.wrap ((IntKind.i64.wrap ((IntKind.i64.wrap (x137 + (1 : Int))) + (1 : Int))) + (1 : Int))), ((IntKind.i64.wrap ((IntKind.i64.wrap ((IntKind.i64.wrap ((IntKind.i64.wrap (x137 + (1 : Int))) + (1 : Int))) + (1 : Int))) + (1 : Int))), (((Int.tmod (IntKind.i64.wrap ((IntKind.i64.wrap ((IntKind.i64.wrap ((IntKind.i64.wrap ((IntKind.i64.wrap (x137 + (1 : Int))) + (1 : Int))) + (1 : Int))) + (1 : Int))) + (1 : Int))) (3 : Int)) == (0 : Int)), (x136.getD x138.toNat (Ty.dflt Y40)).2.2.2.2.2.2))))))).set x138.toNat (((x136.set x138.toNat (x137, (y190, ((IntKind.i64.wrap ((IntKind.i64.wrap (x137 + (1 : Int))) + (1 : Int))), ((IntKind.i64.wrap ((IntKind.i64.wrap ((IntKind.i64.wrap (x137 + (1 : Int))) + (1 : Int))) + (1 : Int))), ((IntKind.i64.wrap ((IntKind.i64.wrap ((IntKind.i64.wrap ((IntKind.i64.wrap (x137 + (1 : Int))) + (1 : Int))) + (1 : Int))) + (1 : Int))), (((Int.tmod (IntKind.i64.wrap ((IntKind.i64.wrap ((IntKind.i64.wrap ((IntKind.i64.wrap ((IntKind.i64.wrap (x137 + (1 : Int))) + (1 : Int))) + (1 : Int))) + (1 : Int))) + (1 : Int))) (3 : Int)) == (0 : Int)), (x136.getD x138.toNat (Ty.dflt Y40)).2.2.2.2.2.2))))))).getD x138.toNat (Ty.dflt Y40)).1, (((x136.set x138.toNat (x137, (y190, ((IntKind.i64.wrap ((IntKind.i64.wrap (x137 + (1 : Int))) + (1 : Int))), ((IntKind.i64.wrap ((IntKind.i64.wrap ((IntKind.i64.wrap (x137 + (1 : Int))) + (1 : Int))) + (1 : Int))), ((IntKind.i64.wrap ((IntKind.i64.wrap ((IntKind.i64.wrap ((IntKind.i64.wrap (x137 + (1 : Int))) + (1 : Int))) + (1 : Int))) + (1 : Int))), (((Int.tmod (IntKind.i64.wrap ((IntKind.i64.wrap ((IntKind.i64.wrap ((IntKind.i64.wrap ((IntKind.i64.wrap (x137 + (1 : Int))) + (1 : Int))) + (1 : Int))) + (1 : Int))) + (1 : Int))) (3 : Int)) == (0 : Int)), (x136.getD x138.toNat (Ty.dflt Y40)).2.2.2.2.2.2))))))).getD x138.toNat (Ty.dflt Y40)).2.1, (((x136.set x138.toNat (x137, (y190, ((IntKind.i64.wrap ((IntKind.i64.wrap (x137 + (1 : Int))) + (1 : Int))), ((IntKind.i64.wrap ((IntKind.i64.wrap ((IntKind.i64.wrap (x137 + (1 : Int))) + (1 : Int))) + (1 : Int))), ((IntKind.i64.wrap ((IntKind.i64.wrap ((IntKind.i64.wrap ((IntKind.i64.wrap (x137 + (1 : Int))) + (1 : Int))) + (1 : Int))) + (1 : Int))), (((Int.tmod (IntKind.i64.wrap ((IntKind.i64.wrap ((IntKind.i64.wrap ((IntKind.i64.wrap ((IntKind.i64.wrap (x137 + (1 : Int))) + (1 : Int))) + (1 : Int))) + (1 : Int))) + (1 : Int))) (3 : Int)) == (0 : Int)), (x136.getD x138.toNat (Ty.dflt Y40)).2.2.2.2.2.2))))))).getD x138.toNat (Ty.dflt Y40)).2.2.1, (((x136.set x138.toNat (x137, (y190, ((IntKind.i64.wrap ((IntKind.i64.wrap (x137 + (1 : Int))) + (1 : Int))), ((IntKind.i64.wrap ((IntKind.i64.wrap ((IntKind.i64.wrap (x137 + (1 : Int))) + (1 : Int))) + (1 : Int))), ((IntKind.i64.wrap ((IntKind.i64.wrap ((IntKind.i64.wrap ((IntKind.i64.wrap (x137 + (1 : Int))) + (1 : Int))) + (1 : Int))) + (1 : Int))), (((Int.tmod (IntKind.i64.wrap ((IntKind.i64.wrap ((IntKind.i64.wrap ((IntKind.i64.wrap ((IntKind.i64.wrap (x137 + (1 : Int))) + (1 : Int))) + (1 : Int))) + (1 : Int))) + (1 : Int))) (3 : Int)) == (0 : Int)), (x136.getD x138.toNat (Ty.dflt Y40)).2.2.2.2.2.2))))))).getD x138.toNat (Ty.dflt Y40)).2.2.2.1, (((x136.set x138.toNat (x137, (y190, ((IntKind.i64.wrap ((IntKind.i64.wrap (x137 + (1 : Int))) + (1 : Int))), ((IntKind.i64.wrap ((IntKind.i64.wrap ((IntKind.i64.wrap (x137 + (1 : Int))) + (1 : Int))) + (1 : Int))), ((IntKind.i64.wrap ((IntKind.i64.wrap ((IntKind.i64.wrap ((IntKind.i64.wrap (x137 + (1 : Int))) + (1 : Int))) + (1 : Int))) + (1 : Int))), (((Int.tmod (IntKind.i64.wrap ((IntKind.i64.wrap ((IntKind.i64.wrap ((IntKind.i64.wrap ((IntKind.i64.wrap (x137 + (1 : Int))) + (1 : Int))) + (1 : Int))) + (1 : Int))) + (1 : Int))) (3 : Int)) == (0 : Int)), (x136.getD x138.toNat (Ty.dflt Y40)).2.2.2.2.2.2))))))).getD x138.toNat (Ty.dflt Y40)).2.2.2.2.1, (((x136.set x138.toNat (x137, (y190, ((IntKind.i64.wrap ((IntKind.i64.wrap (x137 + (1 : Int))) + (1 : Int))), ((IntKind.i64.wrap ((IntKind.i64.wrap ((IntKind.i64.wrap (x137 + (1 : Int))) + (1 : Int))) + (1 : Int))), ((IntKind.i64.wrap ((IntKind.i64.wrap ((IntKind.i64.wrap ((IntKind.i64.wrap (x137 + (1 : Int))) + (1 : Int))) + (1 : Int))) + (1 : Int))), (((Int.tmod (IntKind.i64.wrap ((IntKind.i64.wrap ((IntKind.i64.wrap ((IntKind.i64.wrap ((IntKind.i64.wrap (x137 + (1 : Int))) + (1 : Int))) + (1 : Int))) + (1 : Int))) + (1 : Int))) (3 : Int)) == (0 : Int)), (x136.getD x138.toNat (Ty.dflt Y40)).2.2.2.2.2.2))))))).getD x138.toNat (Ty.dflt Y40)).2.2.2.2.2.1, y202.1))))))), y202.2, (IntKind.i64.wrap (x138 + (1 : Int))), rfl, h⟩
      · replace h := cond_f h hb; clear hb
        refine VW.exit ?_
        exact arrive [.ren [1, 65536] [0]] (by kernel_rfl) ⟨x137, x136, rfl, h⟩
  · rintro s ⟨x101, x102, rfl, h⟩
    unfold F13_j0 at h
    refine VW.seq ?_
    refine VW.region ?_
    refine VO.seg T_ok .dp 2 [4, 65536] [0] (s' := ⟨[(4, I x101), (65536, .lf (.hd 0 0 none))], [ar 0 Y40 x102 .dp]⟩) (φ := True ∧ True ∧ True) (by kernel_rfl) ⟨trivial, trivial, trivial⟩ ?_
    refine VO.nil ?_
    show VW _ _ _ _ _ _ _
    replace h := Option.some.inj h
    subst h
    refine VW.ghl [.ren [4, 65536] [0]] (VW.ret ?_)
    exact ⟨[], by kernel_rfl, by kernel_rfl, by kernel_rfl⟩

/- loop.example/g00844/laws.heldIntS -/
def F20_j0 (N : Nat) (x16 : Int) : Option (Int) :=
  some x16
def F20_l0_b (N : Nat) (a0 : (List Int)) (nx28 : Int → Int → Option (Int)) (x22 : Int) (x23 : Int) : Option (Int) :=
  cond (decide (x23 < (a0.length : Int))) (gd (InR x23 a0.length) (cond ((a0.getD x23.toNat (Ty.dflt (.int .i64))) != x22) (some (-1 : Int)) (nx28 (IntKind.i64.wrap (x22 + (1 : Int))) (IntKind.i64.wrap (x23 + (1 : Int)))))) (F20_j0 N x22)
def F20_l0 (N : Nat) (a0 : (List Int)) : Nat → Int → Int → Option (Int) := loopF (F20_l0_b N a0) (fun _ _ => none)
theorem F20_l0_s (N : Nat) (a0 : (List Int)) {k : Nat} (hk : 0 < k) (x22 : Int) (x23 : Int) : F20_l0 N a0 k x22 x23 = F20_l0_b N a0 (F20_l0 N a0 (k - 1)) x22 x23 := by
  cases k with
  | zero => exact absurd hk (Nat.lt_irrefl 0)
  | succ m => rfl
def F20 (N : Nat) (a0 : (List Int)) (a1 : Int) : Option (Int) :=
  F20_l0 N a0 N a1 (0 : Int)
theorem ok20 (N : Nat) (a0 : (List Int)) (a1 : Int) {r : Int} (h : F20 N a0 a1 = some r) : Con Go.Proofs.Try.prog 20 [.lf (.v (.sl (.int .i64)) a0), I a1] [.lf (.v (.int .i64) r)] := by
  refine ⟨enters_of Go.Proofs.Try.func20 rfl (by decide), HC.intro [.lf (.v (.int .i64))] T_ok Go.Proofs.Try.func20 rfl (Nat.le_of_ble_eq_true rfl) (Nat.le_of_ble_eq_true rfl) fun w0 E0 => ?_⟩
  unfold F20 at h
  show VW _ _ _ _ _ (retQ _ _ _ _) _
  refine VW.seq ?_
  refine VW.region ?_
  refine VO.seg T_ok .dp 1 [0, 1] [] (s' := ⟨[(0, .lf (.v (.sl (.int .i64)) a0)), (1, I a1)], []⟩) (φ := True ∧ True) (by kernel_rfl) ⟨trivial, trivial⟩ ?_
  refine VO.nil ?_
  show VW _ _ _ _ _ _ _
  refine VW.join (fun s => ∃ (x16 : Int), s = ⟨[(1, I x16)], []⟩ ∧ F20_j0 N x16 = some r) ?_ ?_
  · refine VW.seq ?_
    refine VW.region ?_
    refine VO.seg T_ok .dp 1 [0, 1, 5] [] (s' := ⟨[(0, .lf (.v (.sl (.int .i64)) a0)), (1, I a1), (5, I (0 : Int))], []⟩) (φ := True ∧ True) (by kernel_rfl) ⟨trivial, trivial⟩ ?_
    refine VO.nil ?_
    show VW _ _ _ _ _ _ _
    refine VW.block ?_
    refine VW.loopL (fun k s => ∃ (x22 : Int) (x23 : Int), s = ⟨[(0, .lf (.v (.sl (.int .i64)) a0)), (1, I x22), (5, I x23)], []⟩ ∧ F20_l0 N a0 k x22 x23 = some r) N [.ren [0, 1, 5] []] (by kernel_rfl) ⟨a1, (0 : Int), rfl, h⟩ ?_
    rintro k28 s ⟨x22, x23, rfl, h⟩
    cases k28 with
    | zero => exact nomatch (show (none : Option (Int)) = some r from h)
    | succ k28 =>
      replace h : F20_l0_b N a0 (F20_l0 N a0 k28) x22 x23 = some r := h
      unfold F20_l0_b at h
      refine VW.seq ?_
      refine VW.seq ?_
      refine VW.region ?_
      refine VO.seg T_ok .dp 4 [0, 1, 5, 9] [] (s' := ⟨[(0, .lf (.v (.sl (.int .i64)) a0)), (1, I x22), (5, I x23), (9, B (decide (x23 < (a0.length : Int))))], []⟩) (φ := True ∧ True ∧ True ∧ True ∧ True) (by kernel_rfl) ⟨trivial, trivial, trivial, trivial, trivial⟩ ?_
      refine VO.nil ?_
      show VW _ _ _ _ _ _ _
      refine VW.cond (b := (decide (x23 < (a0.length : Int)))) (by kernel_rfl) (fun hb => ?_) (fun hb => ?_)
      · replace h := cond_t h hb; clear hb
        refine VW.skip ?_
        show VW _ _ _ _ _ _ _
        refine VW.seq ?_
        refine VW.block ?_
        refine VW.seq ?_
        refine VW.seq ?_
        refine VW.region ?_
        obtain ⟨g32, h⟩ := gd_some h
        refine VO.seg T_ok .dp 6 [0, 1, 5, 17] [] (s' := ⟨[(0, .lf (.v (.sl (.int .i64)) a0)), (1, I x22), (5, I x23), (17, B ((a0.getD x23.toNat (Ty.dflt (.int .i64))) != x22))], []⟩) (φ := True ∧ True ∧ (InR x23 a0.length) ∧ True ∧ True ∧ True ∧ True) (by kernel_rfl) ⟨trivial, trivial, g32, trivial, trivial, trivial, trivial⟩ ?_
        refine VO.nil ?_
        show VW _ _ _ _ _ _ _
        refine VW.cond (b := ((a0.getD x23.toNat (Ty.dflt (.int .i64))) != x22)) (by kernel_rfl) (fun hb => ?_) (fun hb => ?_)
        · replace h := cond_t h hb; clear hb
          refine VW.seq ?_
          refine VW.region ?_
          refine VO.seg T_ok .dp 1 [4] [] (s' := ⟨[(4, I (-1 : Int))], []⟩) (φ := True ∧ True) (by kernel_rfl) ⟨trivial, trivial⟩ ?_
          refine VO.nil ?_
          show VW _ _ _ _ _ _ _
          refine VW.ret ?_
          replace h := Option.some.inj h
          subst h
          exact retR [] (by kernel_rfl) rfl
        · replace h := cond_f h hb; clear hb
          refine VW.skip ?_
          show VW _ _ _ _ _ _ _
          refine VW.region ?_
          refine VO.seg T_ok .dp 3 [0, 1, 5] [] (s' := ⟨[(0, .lf (.v (.sl (.int .i64)) a0)), (1, I (IntKind.i64.wrap (x22 + (1 : Int)))), (5, I x23)], []⟩) (φ := True ∧ True ∧ True ∧ True) (by kernel_rfl) ⟨trivial, trivial, trivial, trivial⟩ ?_
          refine VO.nil ?_
          show VW _ _ _ _ _ _ _
          refine VW.region ?_
          refine VO.seg T_ok .dp 3 [0, 1, 5] [] (s' := ⟨[(0, .lf (.v (.sl (.int .i64)) a0)), (1, I (IntKind.i64.wrap (x22 + (1 : Int)))), (5, I (IntKind.i64.wrap (x23 + (1 : Int))))], []⟩) (φ := True ∧ True ∧ True ∧ True) (by kernel_rfl) ⟨trivial, trivial, trivial, trivial⟩ ?_
          refine VO.nil ?_
          exact around [.ren [0, 1, 5] []] (by kernel_rfl) ⟨(IntKind.i64.wrap (x22 + (1 : Int))), (IntKind.i64.wrap (x23 + (1 : Int))), rfl, h⟩
      · replace h := cond_f h hb; clear hb
        refine VW.exit ?_
        exact arrive [.ren [1] []] (by kernel_rfl) ⟨x22, rfl, h⟩
  · rintro s ⟨x16, rfl, h⟩
    unfold F20_j0 at h
    refine VW.seq ?_
    refine VW.region ?_
    refine VO.seg T_ok .dp 2 [4] [] (s' := ⟨[(4, I x16)], []⟩) (φ := True ∧ True ∧ True) (by kernel_rfl) ⟨trivial, trivial, trivial⟩ ?_
    refine VO.nil ?_
    show VW _ _ _ _ _ _ _
    refine VW.ret ?_
    replace h := Option.some.inj h
    subst h
    exact retR [] (by kernel_rfl) rfl

/- loop.example/g00844/laws.heldNodeS -/
def F15_j0 (N : Nat) (x100 : Int) : Option (Int) :=
  some x100
def F15_l0_b (N : Nat) (a0 : (List (Int × (ByteArray × (Int × (Int × (Int × (Bool × (List Int))))))))) (nx168 : Int → Int → Option (Int)) (x134 : Int) (x135 : Int) : Option (Int) :=
  cond (decide (x135 < (a0.length : Int))) (gd (InR x135 a0.length) (cond (((a0.getD x135.toNat (Ty.dflt Y40)).1) != x134) (some (-1 : Int)) (gd (InR x135 a0.length) (andO (F28 N (IntKind.i64.wrap (x134 + (1 : Int)))) fun y190 => cond (!(((a0.getD x135.toNat (Ty.dflt Y40)).2.1).toList == y190.toList)) (some (-1 : Int)) (gd (InR x135 a0.length) (cond (((a0.getD x135.toNat (Ty.dflt Y40)).2.2.1) != (IntKind.i64.wrap ((IntKind.i64.wrap (x134 + (1 : Int))) + (1 : Int)))) (some (-1 : Int)) (gd (InR x135 a0.length) (cond (((a0.getD x135.toNat (Ty.dflt Y40)).2.2.2.1) != (IntKind.i64.wrap ((IntKind.i64.wrap ((IntKind.i64.wrap (x134 + (1 : Int))) + (1 : Int))) + (1 : Int)))) (some (-1 : Int)) (gd (InR x135 a0.length) (cond (((a0.getD x135.toNat (Ty.dflt Y40)).2.2.2.2.1) != (IntKind.i64.wrap ((IntKind.i64.wrap ((IntKind.i64.wrap ((IntKind.i64.wrap (x134 + (1 : Int))) + (1 : Int))) + (1 : Int))) + (1 : Int)))) (some (-1 : Int)) (gd (InR x135 a0.length) (cond (!(((a0.getD x135.toNat (Ty.dflt Y40)).2.2.2.2.2.1) == ((Int.tmod (IntKind.i64.wrap ((IntKind.i64.wrap ((IntKind.i64.wrap ((IntKind.i64.wrap ((IntKind.i64.wrap (x134 + (1 : Int))) + (1 : Int))) + (1 : Int))) + (1 : Int))) + (1 : Int))) (3 : Int)) == (0 : Int)))) (some (-1 : Int)) (gd (InR x135 a0.length) (andO (F20 N ((a0.getD x135.toNat (Ty.dflt Y40)).2.2.2.2.2.2) (IntKind.i64.wrap ((IntKind.i64.wrap ((IntKind.i64.wrap ((IntKind.i64.wrap ((IntKind.i64.wrap ((IntKind.i64.wrap (x134 + (1 : Int))) + (1 : Int))) + (1 : Int))) + (1 : Int))) + (1 : Int))) + (1 : Int)))) fun y200 => cond (decide (y200 < (0 : Int))) (some (-1 : Int)) (nx168 y200 (IntKind.i64.wrap (x135 + (1 : Int)))))))))))))))))) (F15_j0 N x134)
def F15_l0 (N : Nat) (a0 : (List (Int × (ByteArray × (Int × (Int × (Int × (Bool × (List Int))))))))) : Nat → Int → Int → Option (Int) := loopF (F15_l0_b N a0) (fun _ _ => none)
theorem F15_l0_s (N : Nat) (a0 : (List (Int × (ByteArray × (Int × (Int × (Int × (Bool × (List Int))))))))) {k : Nat} (hk : 0 < k) (x134 : Int) (x135 : Int) : F15_l0 N a0 k x134 x135 = F15_l0_b N a0 (F15_l0 N a0 (k - 1)) x134 x135 := by
  cases k with
  | zero => exact absurd hk (Nat.lt_irrefl 0)
  | succ m => rfl
def F15 (N : Nat) (a0 : (List (Int × (ByteArray × (Int × (Int × (Int × (Bool × (List Int))))))))) (a1 : Int) : Option (Int) :=
  F15_l0 N a0 N a1 (0 : Int)
theorem ok15 (N : Nat) (a0 : (List (Int × (ByteArray × (Int × (Int × (Int × (Bool × (List Int))))))))) (a1 : Int) {r : Int} (h : F15 N a0 a1 = some r) : Con Go.Proofs.Try.prog 15 [.lf (.v (.sl Y40) a0), I a1] [.lf (.v (.int .i64) r)] := by
  refine ⟨enters_of Go.Proofs.Try.func15 rfl (by decide), HC.intro [.lf (.v (.int .i64))] T_ok Go.Proofs.Try.func15 rfl (Nat.le_of_ble_eq_true rfl) (Nat.le_of_ble_eq_true rfl) fun w0 E0 => ?_⟩
  unfold F15 at h
  show VW _ _ _ _ _ (retQ _ _ _ _) _
  refine VW.seq ?_
  refine VW.region ?_
  refine VO.seg T_ok .dp 1 [0, 1] [] (s' := ⟨[(0, .lf (.v (.sl Y40) a0)), (1, I a1)], []⟩) (φ := True ∧ True) (by kernel_rfl) ⟨trivial, trivial⟩ ?_
  refine VO.nil ?_
  show VW _ _ _ _ _ _ _
  refine VW.join (fun s => ∃ (x100 : Int), s = ⟨[(1, I x100)], []⟩ ∧ F15_j0 N x100 = some r) ?_ ?_
  · refine VW.seq ?_
    refine VW.region ?_
    refine VO.seg T_ok .dp 1 [0, 1, 5] [] (s' := ⟨[(0, .lf (.v (.sl Y40) a0)), (1, I a1), (5, I (0 : Int))], []⟩) (φ := True ∧ True) (by kernel_rfl) ⟨trivial, trivial⟩ ?_
    refine VO.nil ?_
    show VW _ _ _ _ _ _ _
    refine VW.block ?_
    refine VW.loopL (fun k s => ∃ (x134 : Int) (x135 : Int), s = ⟨[(0, .lf (.v (.sl Y40) a0)), (1, I x134), (5, I x135)], []⟩ ∧ F15_l0 N a0 k x134 x135 = some r) N [.ren [0, 1, 5] []] (by kernel_rfl) ⟨a1, (0 : Int), rfl, h⟩ ?_
    rintro k168 s ⟨x134, x135, rfl, h⟩
    cases k168 with
    | zero => exact nomatch (show (none : Option (Int)) = some r from h)
    | succ k168 =>
      replace h : F15_l0_b N a0 (F15_l0 N a0 k168) x134 x135 = some r := h
      unfold F15_l0_b at h
      refine VW.seq ?_
      refine VW.seq ?_
      refine VW.region ?_
      refine VO.seg T_ok .dp 4 [0, 1, 5, 9] [] (s' := ⟨[(0, .lf (.v (.sl Y40) a0)), (1, I x134), (5, I x135), (9, B (decide (x135 < (a0.length : Int))))], []⟩) (φ := True ∧ True ∧ True ∧ True ∧ True) (by kernel_rfl) ⟨trivial, trivial, trivial, trivial, trivial⟩ ?_
      refine VO.nil ?_
      show VW _ _ _ _ _ _ _
      refine VW.cond (b := (decide (x135 < (a0.length : Int)))) (by kernel_rfl) (fun hb => ?_) (fun hb => ?_)
      · replace h := cond_t h hb; clear hb
        refine VW.skip ?_
        show VW _ _ _ _ _ _ _
        refine VW.seq ?_
        refine VW.block ?_
        refine VW.seq ?_
        refine VW.seq ?_
        refine VW.region ?_
        obtain ⟨g186, h⟩ := gd_some h
        refine VO.seg T_ok .dp 7 [0, 1, 5, 18] [] (s' := ⟨[(0, .lf (.v (.sl Y40) a0)), (1, I x134), (5, I x135), (18, B (((a0.getD x135.toNat (Ty.dflt Y40)).1) != x134))], []⟩) (φ := True ∧ True ∧ (InR x135 a0.length) ∧ True ∧ True ∧ True ∧ True ∧ True) (by kernel_rfl) ⟨trivial, trivial, g186, trivial, trivial, trivial, trivial, trivial⟩ ?_
        refine VO.nil ?_
        show VW _ _ _ _ _ _ _
        refine VW.cond (b := (((a0.getD x135.toNat (Ty.dflt Y40)).1) != x134)) (by kernel_rfl) (fun hb => ?_) (fun hb => ?_)
        · replace h := cond_t h hb; clear hb
          refine VW.seq ?_
          refine VW.region ?_
          refine VO.seg T_ok .dp 1 [4] [] (s' := ⟨[(4, I (-1 : Int))], []⟩) (φ := True ∧ True) (by kernel_rfl) ⟨trivial, trivial⟩ ?_
          refine VO.nil ?_
          show VW _ _ _ _ _ _ _
          refine VW.ret ?_
          replace h := Option.some.inj h
          subst h
          exact retR [] (by kernel_rfl) rfl
        · replace h := cond_f h hb; clear hb
          refine VW.skip ?_
          show VW _ _ _ _ _ _ _
          refine VW.seq ?_
          refine VW.region ?_
          refine VO.seg T_ok .dp 3 [0, 1, 5] [] (s' := ⟨[(0, .lf (.v (.sl Y40) a0)), (1, I (IntKind.i64.wrap (x134 + (1 : Int)))), (5, I x135)], []⟩) (φ := True ∧ True ∧ True ∧ True) (by kernel_rfl) ⟨trivial, trivial, trivial, trivial⟩ ?_
          refine VO.nil ?_
          show VW _ _ _ _ _ _ _
          refine VW.seq ?_
          refine VW.seq ?_
          obtain ⟨g189, h⟩ := gd_some h
          obtain ⟨y190, hy190, h⟩ := andO_some h
          refine VW.drawn (by kernel_rfl) [some (21, .lf (.v (.sl Y40) a0)), some (22, I x135), some (23, .lf (.fp Y40 (a0.getD x135.toNat (Ty.dflt Y40)) 0)), some (24, .lf (.fp Y40 (a0.getD x135.toNat (Ty.dflt Y40)) 1)), some (25, S ((a0.getD x135.toNat (Ty.dflt Y40)).2.1)), some (26, I (IntKind.i64.wrap (x134 + (1 : Int)))), some (27, S y190), some (28, B (!(((a0.getD x135.toNat (Ty.dflt Y40)).2.1).toList == y190.toList)))] [] [[]] [(0, 0), (1, 0), (2, 0), (3, 0), (4, 0), (5, 0), (6, 0), (7, 0)] [0, 1, 5, 28] [] (s' := ⟨[(0, .lf (.v (.sl Y40) a0)), (1, I (IntKind.i64.wrap (x134 + (1 : Int)))), (5, I x135), (28, B (!(((a0.getD x135.toNat (Ty.dflt Y40)).2.1).toList == y190.toList)))], []⟩) (by kernel_rfl) (by kernel_rfl) ⟨⟨_, rfl, Stp.ev T_ok (m := .dp) (φ := True) (by kernel_rfl) trivial⟩,
    ⟨_, rfl, Stp.ev T_ok (m := .dp) (φ := True) (by kernel_rfl) trivial⟩,
    ⟨_, rfl, Stp.ev T_ok (m := .dp) (φ := InR x135 a0.length) (by kernel_rfl) g189⟩,
    ⟨_, rfl, Stp.ev T_ok (m := .dp) (φ := True) (by kernel_rfl) trivial⟩,
    ⟨_, rfl, Stp.ev T_ok (m := .dp) (φ := True) (by kernel_rfl) trivial⟩,
    ⟨_, rfl, Stp.ev T_ok (m := .dp) (φ := True) (by kernel_rfl) trivial⟩,
    ⟨_, rfl, Stp.eq (Stp.call false [.t (.int .i64)] [] T_ok (d := some 27) (by kernel_rfl) (ok28 N _ hy190) rfl) (by kernel_rfl) (by kernel_rfl)⟩,
    ⟨_, rfl, Stp.ev T_ok (m := .dp) (φ := True) (by kernel_rfl) trivial⟩, trivial⟩ (by kernel_rfl) ?_
          show VW _ _ _ _ _ _ _
          refine VW.cond (b := (!(((a0.getD x135.toNat (Ty.dflt Y40)).2.1).toList == y190.toList))) (by kernel_rfl) (fun hb => ?_) (fun hb => ?_)
          · replace h := cond_t h hb; clear hb
            refine VW.seq ?_
            refine VW.region ?_
            refine VO.seg T_ok .dp 1 [4] [] (s' := ⟨[(4, I (-1 : Int))], []⟩) (φ := True ∧ True) (by kernel_rfl) ⟨trivial, trivial⟩ ?_
            refine VO.nil ?_
            show VW _ _ _ _ _ _ _
            refine VW.ret ?_
            replace h := Option.some.inj h
            subst h
            exact retR [] (by kernel_rfl) rfl
          · replace h := cond_f h hb; clear hb
            refine VW.skip ?_
            show VW _ _ _ _ _ _ _
            refine VW.seq ?_
            refine VW.region ?_
            refine VO.seg T_ok .dp 3 [0, 1, 5] [] (s' := ⟨[(0, .lf (.v (.sl Y40) a0)), (1, I (IntKind.i64.wrap ((IntKind.i64.wrap (x134 + (1 : Int))) + (1 : Int)))), (5, I x135)], []⟩) (φ := True ∧ True ∧ True ∧ True) (by kernel_rfl) ⟨trivial, trivial, trivial, trivial⟩ ?_
            refine VO.nil ?_
            show VW _ _ _ _ _ _ _
            refine VW.seq ?_
            refine VW.seq ?_
            refine VW.region ?_
            obtain ⟨g192, h⟩ := gd_some h
            refine VO.seg T_ok .dp 7 [0, 1, 5, 37] [] (s' := ⟨[(0, .lf (.v (.sl Y40) a0)), (1, I (IntKind.i64.wrap ((IntKind.i64.wrap (x134 + (1 : Int))) + (1 : Int)))), (5, I x135), (37, B (((a0.getD x135.toNat (Ty.dflt Y40)).2.2.1) != (IntKind.i64.wrap ((IntKind.i64.wrap (x134 + (1 : Int))) + (1 : Int)))))], []⟩) (φ := True ∧ True ∧ (InR x135 a0.length) ∧ True ∧ True ∧ True ∧ True ∧ True) (by kernel_rfl) ⟨trivial, trivial, g192, trivial, trivial, trivial, trivial, trivial⟩ ?_
            refine VO.nil ?_
            show VW _ _ _ _ _ _ _
            refine VW.cond (b := (((a0.getD x135.toNat (Ty.dflt Y40)).2.2.1) != (IntKind.i64.wrap ((IntKind.i64.wrap (x134 + (1 : Int))) + (1 : Int))))) (by kernel_rfl) (fun hb => ?_) (fun hb => ?_)
            · replace h := cond_t h hb; clear hb
              refine VW.seq ?_
              refine VW.region ?_
              refine VO.seg T_ok .dp 1 [4] [] (s' := ⟨[(4, I (-1 : Int))], []⟩) (φ := True ∧ True) (by kernel_rfl) ⟨trivial, trivial⟩ ?_
              refine VO.nil ?_
              show VW _ _ _ _ _ _ _
              refine VW.ret ?_
              replace h := Option.some.inj h
              subst h
              exact retR [] (by kernel_rfl) rfl
            · replace h := cond_f h hb; clear hb
              refine VW.skip ?_
              show VW _ _ _ _ _ _ _
              refine VW.seq ?_
              refine VW.region ?_
              refine VO.seg T_ok .dp 3 [0, 1, 5] [] (s' := ⟨[(0, .lf (.v (.sl Y40) a0)), (1, I (IntKind.i64.wrap ((IntKind.i64.wrap ((IntKind.i64.wrap (x134 + (1 : Int))) + (1 : Int))) + (1 : Int)))), (5, I x135)], []⟩) (φ := True ∧ True ∧ True ∧ True) (by kernel_rfl) ⟨trivial, trivial, trivial, trivial⟩ ?_
              refine VO.nil ?_
              show VW _ _ _ _ _ _ _
              refine VW.seq ?_
              refine VW.seq ?_
              refine VW.region ?_
              obtain ⟨g194, h⟩ := gd_some h
              refine VO.seg T_ok .dp 7 [0, 1, 5, 46] [] (s' := ⟨[(0, .lf (.v (.sl Y40) a0)), (1, I (IntKind.i64.wrap ((IntKind.i64.wrap ((IntKind.i64.wrap (x134 + (1 : Int))) + (1 : Int))) + (1 : Int)))), (5, I x135), (46, B (((a0.getD x135.toNat (Ty.dflt Y40)).2.2.2.1) != (IntKind.i64.wrap ((IntKind.i64.wrap ((IntKind.i64.wrap (x134 + (1 : Int))) + (1 : Int))) + (1 : Int)))))], []⟩) (φ := True ∧ True ∧ (InR x135 a0.length) ∧ True ∧ True ∧ True ∧ True ∧ True) (by kernel_rfl) ⟨trivial, trivial, g194, trivial, trivial, trivial, trivial, trivial⟩ ?_
              refine VO.nil ?_
              show VW _ _ _ _ _ _ _
              refine VW.cond (b := (((a0.getD x135.toNat (Ty.dflt Y40)).2.2.2.1) != (IntKind.i64.wrap ((IntKind.i64.wrap ((IntKind.i64.wrap (x134 + (1 : Int))) + (1 : Int))) + (1 : Int))))) (by kernel_rfl) (fun hb => ?_) (fun hb => ?_)
              · replace h := cond_t h hb; clear hb
                refine VW.seq ?_
                refine VW.region ?_
                refine VO.seg T_ok .dp 1 [4] [] (s' := ⟨[(4, I (-1 : Int))], []⟩) (φ := True ∧ True) (by kernel_rfl) ⟨trivial, trivial⟩ ?_
                refine VO.nil ?_
                show VW _ _ _ _ _ _ _
                refine VW.ret ?_
                replace h := Option.some.inj h
                subst h
                exact retR [] (by kernel_rfl) rfl
              · replace h := cond_f h hb; clear hb
                refine VW.skip ?_
                show VW _ _ _ _ _ _ _
                refine VW.seq ?_
                refine VW.region ?_
                refine VO.seg T_ok .dp 3 [0, 1, 5] [] (s' := ⟨[(0, .lf (.v (.sl Y40) a0)), (1, I (IntKind.i64.wrap ((IntKind.i64.wrap ((IntKind.i64.wrap ((IntKind.i64.wrap (x134 + (1 : Int))) + (1 : Int))) + (1 : Int))) + (1 : Int)))), (5, I x135)], []⟩) (φ := True ∧ True ∧ True ∧ True) (by kernel_rfl) ⟨trivial, trivial, trivial, trivial⟩ ?_
                refine VO.nil ?_
                show VW _ _ _ _ _ _ _
                refine VW.seq ?_
                refine VW.seq ?_
                refine VW.region ?_
                obtain ⟨g196, h⟩ := gd_some h
                refine VO.seg T_ok .dp 7 [0, 1, 5, 55] [] (s' := ⟨[(0, .lf (.v (.sl Y40) a0)), (1, I (IntKind.i64.wrap ((IntKind.i64.wrap ((IntKind.i64.wrap ((IntKind.i64.wrap (x134 + (1 : Int))) + (1 : Int))) + (1 : Int))) + (1 : Int)))), (5, I x135), (55, B (((a0.getD x135.toNat (Ty.dflt Y40)).2.2.2.2.1) != (IntKind.i64.wrap ((IntKind.i64.wrap ((IntKind.i64.wrap ((IntKind.i64.wrap (x134 + (1 : Int))) + (1 : Int))) + (1 : Int))) + (1 : Int)))))], []⟩) (φ := True ∧ True ∧ (InR x135 a0.length) ∧ True ∧ True ∧ True ∧ True ∧ True) (by kernel_rfl) ⟨trivial, trivial, g196, trivial, trivial, trivial, trivial, trivial⟩ ?_
                refine VO.nil ?_
                show VW _ _ _ _ _ _ _
                refine VW.cond (b := (((a0.getD x135.toNat (Ty.dflt Y40)).2.2.2.2.1) != (IntKind.i64.wrap ((IntKind.i64.wrap ((IntKind.i64.wrap ((IntKind.i64.wrap (x134 + (1 : Int))) + (1 : Int))) + (1 : Int))) + (1 : Int))))) (by kernel_rfl) (fun hb => ?_) (fun hb => ?_)
                · replace h := cond_t h hb; clear hb
                  refine VW.seq ?_
                  refine VW.region ?_
                  refine VO.seg T_ok .dp 1 [4] [] (s' := ⟨[(4, I (-1 : Int))], []⟩) (φ := True ∧ True) (by kernel_rfl) ⟨trivial, trivial⟩ ?_
                  refine VO.nil ?_
                  show VW _ _ _ _ _ _ _
                  refine VW.ret ?_
                  replace h := Option.some.inj h
                  subst h
                  exact retR [] (by kernel_rfl) rfl
                · replace h := cond_f h hb; clear hb
                  refine VW.skip ?_
                  show VW _ _ _ _ _ _ _
                  refine VW.seq ?_
                  refine VW.region ?_
                  refine VO.seg T_ok .dp 3 [0, 1, 5] [] (s' := ⟨[(0, .lf (.v (.sl Y40) a0)), (1, I (IntKind.i64.wrap ((IntKind.i64.wrap ((IntKind.i64.wrap ((IntKind.i64.wrap ((IntKind.i64.wrap (x134 + (1 : Int))) + (1 : Int))) + (1 : Int))) + (1 : Int))) + (1 : Int)))), (5, I x135)], []⟩) (φ := True ∧ True ∧ True ∧ True) (by kernel_rfl) ⟨trivial, trivial, trivial, trivial⟩ ?_
                  refine VO.nil ?_
                  show VW _ _ _ _ _ _ _
                  refine VW.seq ?_
                  refine VW.seq ?_
                  refine VW.region ?_
                  obtain ⟨g198, h⟩ := gd_some h
                  refine VO.seg T_ok .dp 9 [0, 1, 5, 66] [] (s' := ⟨[(0, .lf (.v (.sl Y40) a0)), (1, I (IntKind.i64.wrap ((IntKind.i64.wrap ((IntKind.i64.wrap ((IntKind.i64.wrap ((IntKind.i64.wrap (x134 + (1 : Int))) + (1 : Int))) + (1 : Int))) + (1 : Int))) + (1 : Int)))), (5, I x135), (66, B (!(((a0.getD x135.toNat (Ty.dflt Y40)).2.2.2.2.2.1) == ((Int.tmod (IntKind.i64.wrap ((IntKind.i64.wrap ((IntKind.i64.wrap ((IntKind.i64.wrap ((IntKind.i64.wrap (x134 + (1 : Int))) + (1 : Int))) + (1 : Int))) + (1 : Int))) + (1 : Int))) (3 : Int)) == (0 : Int)))))], []⟩) (φ := True ∧ True ∧ (InR x135 a0.length) ∧ True ∧ True ∧ True ∧ ((3 : Int) ≠ 0) ∧ True ∧ True ∧ True) (by kernel_rfl) ⟨trivial, trivial, g198, trivial, trivial, trivial, (by decide), trivial, trivial, trivial⟩ ?_
                  refine VO.nil ?_
                  show VW _ _ _ _ _ _ _
                  refine VW.cond (b := (!(((a0.getD x135.toNat (Ty.dflt Y40)).2.2.2.2.2.1) == ((Int.tmod (IntKind.i64.wrap ((IntKind.i64.wrap ((IntKind.i64.wrap ((IntKind.i64.wrap ((IntKind.i64.wrap (x134 + (1 : Int))) + (1 : Int))) + (1 : Int))) + (1 : Int))) + (1 : Int))) (3 : Int)) == (0 : Int))))) (by kernel_rfl) (fun hb => ?_) (fun hb => ?_)
                  · replace h := cond_t h hb; clear hb
                    refine VW.seq ?_
                    refine VW.region ?_
                    refine VO.seg T_ok .dp 1 [4] [] (s' := ⟨[(4, I (-1 : Int))], []⟩) (φ := True ∧ True) (by kernel_rfl) ⟨trivial, trivial⟩ ?_
                    refine VO.nil ?_
                    show VW _ _ _ _ _ _ _
                    refine VW.ret ?_
                    replace h := Option.some.inj h
                    subst h
                    exact retR [] (by kernel_rfl) rfl
                  · replace h := cond_f h hb; clear hb
                    refine VW.skip ?_
                    show VW _ _ _ _ _ _ _
                    refine VW.seq ?_
                    refine VW.region ?_
                    refine VO.seg T_ok .dp 3 [0, 1, 5] [] (s' := ⟨[(0, .lf (.v (.sl Y40) a0)), (1, I (IntKind.i64.wrap ((IntKind.i64.wrap ((IntKind.i64.wrap ((IntKind.i64.wrap ((IntKind.i64.wrap ((IntKind.i64.wrap (x134 + (1 : Int))) + (1 : Int))) + (1 : Int))) + (1 : Int))) + (1 : Int))) + (1 : Int)))), (5, I x135)], []⟩) (φ := True ∧ True ∧ True ∧ True) (by kernel_rfl) ⟨trivial, trivial, trivial, trivial⟩ ?_
                    refine VO.nil ?_
                    show VW _ _ _ _ _ _ _
                    refine VW.seq ?_
                    refine VW.region ?_
                    obtain ⟨g199, h⟩ := gd_some h
                    refine VO.seg T_ok .dp 6 [0, 5, 73, 74] [] (s' := ⟨[(0, .lf (.v (.sl Y40) a0)), (5, I x135), (73, .lf (.v (.sl (.int .i64)) ((a0.getD x135.toNat (Ty.dflt Y40)).2.2.2.2.2.2))), (74, I (IntKind.i64.wrap ((IntKind.i64.wrap ((IntKind.i64.wrap ((IntKind.i64.wrap ((IntKind.i64.wrap ((IntKind.i64.wrap (x134 + (1 : Int))) + (1 : Int))) + (1 : Int))) + (1 : Int))) + (1 : Int))) + (1 : Int))))], []⟩) (φ := True ∧ True ∧ (InR x135 a0.length) ∧ True ∧ True ∧ True ∧ True) (by kernel_rfl) ⟨trivial, trivial, g199, trivial, trivial, trivial, trivial⟩ ?_
                    obtain ⟨y200, hy, h⟩ := andO_some h
                    refine VO.call false [.t (.sl (.int .i64)), .t (.int .i64)] [] T_ok (d := some 75) (by kernel_rfl) (ok20 N _ _ hy) rfl ?_
                    refine VO.seg T_ok .dp 1 [0, 1, 5] [] (s' := ⟨[(0, .lf (.v (.sl Y40) a0)), (1, I y200), (5, I x135)], []⟩) (φ := True ∧ True) (by kernel_rfl) ⟨trivial, trivial⟩ ?_
                    refine VO.nil ?_
                    show VW _ _ _ _ _ _ _
                    refine VW.seq ?_
                    refine VW.region ?_
                    refine VO.seg T_ok .dp 2 [0, 1, 5, 77] [] (s' := ⟨[(0, .lf (.v (.sl Y40) a0)), (1, I y200), (5, I x135), (77, B (decide (y200 < (0 : Int))))], []⟩) (φ := True ∧ True ∧ True) (by kernel_rfl) ⟨trivial, trivial, trivial⟩ ?_
                    refine VO.nil ?_
                    show VW _ _ _ _ _ _ _
                    refine VW.cond (b := (decide (y200 < (0 : Int)))) (by kernel_rfl) (fun hb => ?_) (fun hb => ?_)
                    · replace h := cond_t h hb; clear hb
                      refine VW.seq ?_
                      refine VW.region ?_
                      refine VO.seg T_ok .dp 1 [4] [] (s' := ⟨[(4, I (-1 : Int))], []⟩) (φ := True ∧ True) (by kernel_rfl) ⟨trivial, trivial⟩ ?_
                      refine VO.nil ?_
                      show VW _ _ _ _ _ _ _
                      refine VW.ret ?_
                      replace h := Option.some.inj h
                      subst h
                      exact retR [] (by kernel_rfl) rfl
                    · replace h := cond_f h hb; clear hb
                      refine VW.skip ?_
                      show VW _ _ _ _ _ _ _
                      refine VW.region ?_
                      refine VO.seg T_ok .dp 3 [0, 1, 5] [] (s' := ⟨[(0, .lf (.v (.sl Y40) a0)), (1, I y200), (5, I (IntKind.i64.wrap (x135 + (1 : Int))))], []⟩) (φ := True ∧ True ∧ True ∧ True) (by kernel_rfl) ⟨trivial, trivial, trivial, trivial⟩ ?_
                      refine VO.nil ?_
                      exact around [.ren [0, 1, 5] []] (by kernel_rfl) ⟨y200, (IntKind.i64.wrap (x135 + (1 : Int))), rfl, h⟩
      · replace h := cond_f h hb; clear hb
        refine VW.exit ?_
        exact arrive [.ren [1] []] (by kernel_rfl) ⟨x134, rfl, h⟩
  · rintro s ⟨x100, rfl, h⟩
    unfold F15_j0 at h
    refine VW.seq ?_
    refine VW.region ?_
    refine VO.seg T_ok .dp 2 [4] [] (s' := ⟨[(4, I x100)], []⟩) (φ := True ∧ True ∧ True) (by kernel_rfl) ⟨trivial, trivial, trivial⟩ ?_
    refine VO.nil ?_
    show VW _ _ _ _ _ _ _
    refine VW.ret ?_
    replace h := Option.some.inj h
    subst h
    exact retR [] (by kernel_rfl) rfl

/- loop.example/g00844/spec.l01Has -/
def F29_j0 (N : Nat) : Option (Bool) :=
  some false
def F29_l0_b (N : Nat) (a0 : (List Int)) (a1 : Int) (nx15 : Int → Option (Bool)) (x12 : Int) : Option (Bool) :=
  cond (decide (x12 < (a0.length : Int))) (gd (InR x12 a0.length) (cond ((a0.getD x12.toNat (Ty.dflt (.int .i64))) == a1) (some true) (nx15 (IntKind.i64.wrap (x12 + (1 : Int)))))) (F29_j0 N)
def F29_l0 (N : Nat) (a0 : (List Int)) (a1 : Int) : Nat → Int → Option (Bool) := loopF (F29_l0_b N a0 a1) (fun _ => none)
theorem F29_l0_s (N : Nat) (a0 : (List Int)) (a1 : Int) {k : Nat} (hk : 0 < k) (x12 : Int) : F29_l0 N a0 a1 k x12 = F29_l0_b N a0 a1 (F29_l0 N a0 a1 (k - 1)) x12 := by
  cases k with
  | zero => exact absurd hk (Nat.lt_irrefl 0)
  | succ m => rfl
def F29 (N : Nat) (a0 : (List Int)) (a1 : Int) : Option (Bool) :=
  F29_l0 N a0 a1 N (0 : Int)
theorem ok29 (N : Nat) (a0 : (List Int)) (a1 : Int) {r : Bool} (h : F29 N a0 a1 = some r) : Con Go.Proofs.Try.prog 29 [.lf (.v (.sl (.int .i64)) a0), I a1] [.lf (.v .bool r)] := by
  refine ⟨enters_of Go.Proofs.Try.func29 rfl (by decide), HC.intro [.lf (.v .bool)] T_ok Go.Proofs.Try.func29 rfl (Nat.le_of_ble_eq_true rfl) (Nat.le_of_ble_eq_true rfl) fun w0 E0 => ?_⟩
  unfold F29 at h
  show VW _ _ _ _ _ (retQ _ _ _ _) _
  refine VW.seq ?_
  refine VW.region ?_
  refine VO.seg T_ok .dp 1 [0, 1] [] (s' := ⟨[(0, .lf (.v (.sl (.int .i64)) a0)), (1, I a1)], []⟩) (φ := True ∧ True) (by kernel_rfl) ⟨trivial, trivial⟩ ?_
  refine VO.nil ?_
  show VW _ _ _ _ _ _ _
  refine VW.join (fun s => s = ⟨[], []⟩ ∧ F29_j0 N = some r) ?_ ?_
  · refine VW.seq ?_
    refine VW.region ?_
    refine VO.seg T_ok .dp 1 [0, 1, 5] [] (s' := ⟨[(0, .lf (.v (.sl (.int .i64)) a0)), (1, I a1), (5, I (0 : Int))], []⟩) (φ := True ∧ True) (by kernel_rfl) ⟨trivial, trivial⟩ ?_
    refine VO.nil ?_
    show VW _ _ _ _ _ _ _
    refine VW.block ?_
    refine VW.loopL (fun k s => ∃ (x12 : Int), s = ⟨[(0, .lf (.v (.sl (.int .i64)) a0)), (1, I a1), (5, I x12)], []⟩ ∧ F29_l0 N a0 a1 k x12 = some r) N [.ren [0, 1, 5] []] (by kernel_rfl) ⟨(0 : Int), rfl, h⟩ ?_
    rintro k15 s ⟨x12, rfl, h⟩
    cases k15 with
    | zero => exact nomatch (show (none : Option (Bool)) = some r from h)
    | succ k15 =>
      replace h : F29_l0_b N a0 a1 (F29_l0 N a0 a1 k15) x12 = some r := h
      unfold F29_l0_b at h
      refine VW.seq ?_
      refine VW.seq ?_
      refine VW.region ?_
      refine VO.seg T_ok .dp 4 [0, 1, 5, 9] [] (s' := ⟨[(0, .lf (.v (.sl (.int .i64)) a0)), (1, I a1), (5, I x12), (9, B (decide (x12 < (a0.length : Int))))], []⟩) (φ := True ∧ True ∧ True ∧ True ∧ True) (by kernel_rfl) ⟨trivial, trivial, trivial, trivial, trivial⟩ ?_
      refine VO.nil ?_
      show VW _ _ _ _ _ _ _
      refine VW.cond (b := (decide (x12 < (a0.length : Int)))) (by kernel_rfl) (fun hb => ?_) (fun hb => ?_)
      · replace h := cond_t h hb; clear hb
        refine VW.skip ?_
        show VW _ _ _ _ _ _ _
        refine VW.seq ?_
        refine VW.block ?_
        refine VW.seq ?_
        refine VW.region ?_
        obtain ⟨g17, h⟩ := gd_some h
        refine VO.seg T_ok .dp 6 [0, 1, 5, 17] [] (s' := ⟨[(0, .lf (.v (.sl (.int .i64)) a0)), (1, I a1), (5, I x12), (17, B ((a0.getD x12.toNat (Ty.dflt (.int .i64))) == a1))], []⟩) (φ := True ∧ True ∧ (InR x12 a0.length) ∧ True ∧ True ∧ True ∧ True) (by kernel_rfl) ⟨trivial, trivial, g17, trivial, trivial, trivial, trivial⟩ ?_
        refine VO.nil ?_
        show VW _ _ _ _ _ _ _
        refine VW.cond (b := ((a0.getD x12.toNat (Ty.dflt (.int .i64))) == a1)) (by kernel_rfl) (fun hb => ?_) (fun hb => ?_)
        · replace h := cond_t h hb; clear hb
          refine VW.seq ?_
          refine VW.region ?_
          refine VO.seg T_ok .dp 1 [4] [] (s' := ⟨[(4, B true)], []⟩) (φ := True ∧ True) (by kernel_rfl) ⟨trivial, trivial⟩ ?_
          refine VO.nil ?_
          show VW _ _ _ _ _ _ _
          refine VW.ret ?_
          replace h := Option.some.inj h
          subst h
          exact retR [] (by kernel_rfl) rfl
        · replace h := cond_f h hb; clear hb
          refine VW.skip ?_
          show VW _ _ _ _ _ _ _
          refine VW.region ?_
          refine VO.seg T_ok .dp 3 [0, 1, 5] [] (s' := ⟨[(0, .lf (.v (.sl (.int .i64)) a0)), (1, I a1), (5, I (IntKind.i64.wrap (x12 + (1 : Int))))], []⟩) (φ := True ∧ True ∧ True ∧ True) (by kernel_rfl) ⟨trivial, trivial, trivial, trivial⟩ ?_
          refine VO.nil ?_
          exact around [.ren [0, 1, 5] []] (by kernel_rfl) ⟨(IntKind.i64.wrap (x12 + (1 : Int))), rfl, h⟩
      · replace h := cond_f h hb; clear hb
        refine VW.exit ?_
        exact arrive [.ren [] []] (by kernel_rfl) ⟨rfl, h⟩
  · rintro s ⟨rfl, h⟩
    unfold F29_j0 at h
    refine VW.seq ?_
    refine VW.region ?_
    refine VO.seg T_ok .dp 1 [4] [] (s' := ⟨[(4, B false)], []⟩) (φ := True ∧ True) (by kernel_rfl) ⟨trivial, trivial⟩ ?_
    refine VO.nil ?_
    show VW _ _ _ _ _ _ _
    refine VW.ret ?_
    replace h := Option.some.inj h
    subst h
    exact retR [] (by kernel_rfl) rfl

/- loop.example/g00844/spec.Renumber -/
def F16_j0 (N : Nat) (x335 : (List (Int × (ByteArray × (Int × (Int × (Int × (Bool × (List Int))))))))) : Option ((List (Int × (ByteArray × (Int × (Int × (Int × (Bool × (List Int)))))))) × Bool) :=
  some (x335, true)
def F16_j1 (N : Nat) (nx558 : (List (Int × (ByteArray × (Int × (Int × (Int × (Bool × (List Int)))))))) → (List Int) → Int → Option ((List (Int × (ByteArray × (Int × (Int × (Int × (Bool × (List Int)))))))) × Bool)) (x448 : Int) (x612 : (List (Int × (ByteArray × (Int × (Int × (Int × (Bool × (List Int))))))))) (x613 : (List Int)) : Option ((List (Int × (ByteArray × (Int × (Int × (Int × (Bool × (List Int)))))))) × Bool) :=
  nx558 x612 x613 (IntKind.i64.wrap (x448 + (1 : Int)))
def F16_j2 (N : Nat) (nx650 : (List (Int × (ByteArray × (Int × (Int × (Int × (Bool × (List Int)))))))) → Int → Option ((List (Int × (ByteArray × (Int × (Int × (Int × (Bool × (List Int)))))))) × Bool)) (x637 : Int) (x656 : (List (Int × (ByteArray × (Int × (Int × (Int × (Bool × (List Int))))))))) : Option ((List (Int × (ByteArray × (Int × (Int × (Int × (Bool × (List Int)))))))) × Bool) :=
  nx650 x656 (IntKind.i64.wrap (x637 + (1 : Int)))
def F16_l0_b (N : Nat) (a0 : (List (Int × (ByteArray × (Int × (Int × (Int × (Bool × (List Int))))))))) (nx558 : (List (Int × (ByteArray × (Int × (Int × (Int × (Bool × (List Int)))))))) → (List Int) → Int → Option ((List (Int × (ByteArray × (Int × (Int × (Int × (Bool × (List Int)))))))) × Bool)) (x448 : Int) (x623 : (List Int)) (nx650 : (List (Int × (ByteArray × (Int × (Int × (Int × (Bool × (List Int)))))))) → Int → Option ((List (Int × (ByteArray × (Int × (Int × (Int × (Bool × (List Int)))))))) × Bool)) (x636 : (List (Int × (ByteArray × (Int × (Int × (Int × (Bool × (List Int))))))))) (x637 : Int) : Option ((List (Int × (ByteArray × (Int × (Int × (Int × (Bool × (List Int)))))))) × Bool) :=
  cond (decide (x637 < (x623.length : Int))) (gd (InR x637 x623.length) (gd (x637.toNat < x623.length) (gd (InR x448 a0.length) (cond ((x623.getD x637.toNat (Ty.dflt (.int .i64))) == ((a0.getD x448.toNat (Ty.dflt Y40)).2.2.2.2.1)) (gd (InR x448 x636.length) (gd (x448.toNat < x636.length) (F16_j2 N nx650 x637 (x636.set x448.toNat ((x636.getD x448.toNat (Ty.dflt Y40)).1, ((x636.getD x448.toNat (Ty.dflt Y40)).2.1, ((x636.getD x448.toNat (Ty.dflt Y40)).2.2.1, ((x636.getD x448.toNat (Ty.dflt Y40)).2.2.2.1, (x637, ((x636.getD x448.toNat (Ty.dflt Y40)).2.2.2.2.2.1, (x636.getD x448.toNat (Ty.dflt Y40)).2.2.2.2.2.2)))))))))) (F16_j2 N nx650 x637 x636))))) (F16_j1 N nx558 x448 x636 x623)
def F16_l0 (N : Nat) (a0 : (List (Int × (ByteArray × (Int × (Int × (Int × (Bool × (List Int))))))))) (nx558 : (List (Int × (ByteArray × (Int × (Int × (Int × (Bool × (List Int)))))))) → (List Int) → Int → Option ((List (Int × (ByteArray × (Int × (Int × (Int × (Bool × (List Int)))))))) × Bool)) (x448 : Int) (x623 : (List Int)) : Nat → (List (Int × (ByteArray × (Int × (Int × (Int × (Bool × (List Int)))))))) → Int → Option ((List (Int × (ByteArray × (Int × (Int × (Int × (Bool × (List Int)))))))) × Bool) := loopF (F16_l0_b N a0 nx558 x448 x623) (fun _ _ => none)
theorem F16_l0_s (N : Nat) (a0 : (List (Int × (ByteArray × (Int × (Int × (Int × (Bool × (List Int))))))))) (nx558 : (List (Int × (ByteArray × (Int × (Int × (Int × (Bool × (List Int)))))))) → (List Int) → Int → Option ((List (Int × (ByteArray × (Int × (Int × (Int × (Bool × (List Int)))))))) × Bool)) (x448 : Int) (x623 : (List Int)) {k : Nat} (hk : 0 < k) (x636 : (List (Int × (ByteArray × (Int × (Int × (Int × (Bool × (List Int))))))))) (x637 : Int) : F16_l0 N a0 nx558 x448 x623 k x636 x637 = F16_l0_b N a0 nx558 x448 x623 (F16_l0 N a0 nx558 x448 x623 (k - 1)) x636 x637 := by
  cases k with
  | zero => exact absurd hk (Nat.lt_irrefl 0)
  | succ m => rfl
def F16_j3 (N : Nat) (a0 : (List (Int × (ByteArray × (Int × (Int × (Int × (Bool × (List Int))))))))) (nx558 : (List (Int × (ByteArray × (Int × (Int × (Int × (Bool × (List Int)))))))) → (List Int) → Int → Option ((List (Int × (ByteArray × (Int × (Int × (Int × (Bool × (List Int)))))))) × Bool)) (x446 : (List (Int × (ByteArray × (Int × (Int × (Int × (Bool × (List Int))))))))) (x448 : Int) (x623 : (List Int)) : Option ((List (Int × (ByteArray × (Int × (Int × (Int × (Bool × (List Int)))))))) × Bool) :=
  F16_l0 N a0 nx558 x448 x623 N x446 (0 : Int)
def F16_l1_b (N : Nat) (a0 : (List (Int × (ByteArray × (Int × (Int × (Int × (Bool × (List Int))))))))) (nx558 : (List (Int × (ByteArray × (Int × (Int × (Int × (Bool × (List Int)))))))) → (List Int) → Int → Option ((List (Int × (ByteArray × (Int × (Int × (Int × (Bool × (List Int)))))))) × Bool)) (x446 : (List (Int × (ByteArray × (Int × (Int × (Int × (Bool × (List Int))))))))) (x447 : (List Int)) (x448 : Int) : Option ((List (Int × (ByteArray × (Int × (Int × (Int × (Bool × (List Int)))))))) × Bool) :=
  cond (decide (x448 < (x446.length : Int))) (gd (InR x448 x446.length) (gd (x448.toNat < x446.length) (cond (!((x446.getD x448.toNat (Ty.dflt Y40)).2.2.2.2.2.1)) (F16_j1 N nx558 x448 x446 x447) (gd (InR x448 a0.length) (andO (F29 N x447 ((a0.getD x448.toNat (Ty.dflt Y40)).2.2.2.2.1)) fun y665 => cond (!y665) (gd (InR x448 a0.length) (gd (x447.length + ([(a0.getD x448.toNat (Ty.dflt Y40)).2.2.2.2.1]).length ≤ lim (.int .i64)) (F16_j3 N a0 nx558 x446 x448 (x447 ++ ([(a0.getD x448.toNat (Ty.dflt Y40)).2.2.2.2.1]))))) (F16_j3 N a0 nx558 x446 x448 x447)))))) (F16_j0 N x446)
def F16_l1 (N : Nat) (a0 : (List (Int × (ByteArray × (Int × (Int × (Int × (Bool × (List Int))))))))) : Nat → (List (Int × (ByteArray × (Int × (Int × (Int × (Bool × (List Int)))))))) → (List Int) → Int → Option ((List (Int × (ByteArray × (Int × (Int × (Int × (Bool × (List Int)))))))) × Bool) := loopF (F16_l1_b N a0) (fun _ _ _ => none)
theorem F16_l1_s (N : Nat) (a0 : (List (Int × (ByteArray × (Int × (Int × (Int × (Bool × (List Int))))))))) {k : Nat} (hk : 0 < k) (x446 : (List (Int × (ByteArray × (Int × (Int × (Int × (Bool × (List Int))))))))) (x447 : (List Int)) (x448 : Int) : F16_l1 N a0 k x446 x447 x448 = F16_l1_b N a0 (F16_l1 N a0 (k - 1)) x446 x447 x448 := by
  cases k with
  | zero => exact absurd hk (Nat.lt_irrefl 0)
  | succ m => rfl
def F16 (N : Nat) (a0 : (List (Int × (ByteArray × (Int × (Int × (Int × (Bool × (List Int))))))))) : Option ((List (Int × (ByteArray × (Int × (Int × (Int × (Bool × (List Int)))))))) × Bool) :=
  andO (F22 N a0) fun y2 => cond (!y2) (some ([], false)) (andO (F23 N a0) fun y3 => F16_l1 N a0 N y3 ([]) (0 : Int))
theorem ok16 (N : Nat) (a0 : (List (Int × (ByteArray × (Int × (Int × (Int × (Bool × (List Int))))))))) {r : (List (Int × (ByteArray × (Int × (Int × (Int × (Bool × (List Int)))))))) × Bool} (h : F16 N a0 = some r) : Con Go.Proofs.Try.prog 16 [.lf (.v (.sl Y40) a0)] [.lf (.own Y40 r.1 .dp), .lf (.v .bool r.2)] := by
  refine ⟨enters_of Go.Proofs.Try.func16 rfl (by decide), HC.intro [.lf (.own Y40 .dp), .lf (.v .bool)] T_ok Go.Proofs.Try.func16 rfl (Nat.le_of_ble_eq_true rfl) (Nat.le_of_ble_eq_true rfl) fun w0 E0 => ?_⟩
  unfold F16 at h
  show VW _ _ _ _ _ (retQ _ _ _ _) _
  refine VW.seq ?_
  refine VW.region ?_
  refine VO.seg T_ok .dp 2 [0] [] (s' := ⟨[(0, .lf (.v (.sl Y40) a0))], []⟩) (φ := True ∧ True ∧ True) (by kernel_rfl) ⟨trivial, trivial, trivial⟩ ?_
  refine VO.nil ?_
  show VW _ _ _ _ _ _ _
  refine VW.seq ?_
  refine VW.seq ?_
  refine VW.region ?_
  refine VO.seg T_ok .dp 1 [0, 8] [] (s' := ⟨[(0, .lf (.v (.sl Y40) a0)), (8, .lf (.v (.sl Y40) a0))], []⟩) (φ := True ∧ True) (by kernel_rfl) ⟨trivial, trivial⟩ ?_
  obtain ⟨y2, hy, h⟩ := andO_some h
  refine VO.call false [.t (.sl Y40)] [] T_ok (d := some 9) (by kernel_rfl) (ok22 N _ hy) rfl ?_
  refine VO.seg T_ok .dp 1 [0, 10] [] (s' := ⟨[(0, .lf (.v (.sl Y40) a0)), (10, B (!y2))], []⟩) (φ := True ∧ True) (by kernel_rfl) ⟨trivial, trivial⟩ ?_
  refine VO.nil ?_
  show VW _ _ _ _ _ _ _
  refine VW.cond (b := (!y2)) (by kernel_rfl) (fun hb => ?_) (fun hb => ?_)
  · replace h := cond_t h hb; clear hb
    refine VW.seq ?_
    refine VW.region ?_
    refine VO.seg T_ok .dp 2 [2, 3] [] (s' := ⟨[(2, .lf (.nil)), (3, B false)], []⟩) (φ := True ∧ True ∧ True) (by kernel_rfl) ⟨trivial, trivial, trivial⟩ ?_
    refine VO.nil ?_
    show VW _ _ _ _ _ _ _
    refine VW.ret ?_
    replace h := Option.some.inj h
    subst h
    exact retR [none] (by kernel_rfl) rfl
  · replace h := cond_f h hb; clear hb
    refine VW.skip ?_
    show VW _ _ _ _ _ _ _
    refine VW.seq ?_
    refine VW.region ?_
    refine VO.seg T_ok .dp 1 [0, 11] [] (s' := ⟨[(0, .lf (.v (.sl Y40) a0)), (11, .lf (.v (.sl Y40) a0))], []⟩) (φ := True ∧ True) (by kernel_rfl) ⟨trivial, trivial⟩ ?_
    obtain ⟨y3, hy, h⟩ := andO_some h
    refine VO.call false [.t (.sl Y40)] [] T_ok (d := some 12) (by kernel_rfl) (ok23 N _ hy) rfl ?_
    refine VO.seg T_ok .dp 1 [0, 4] [0] (s' := ⟨[(0, .lf (.v (.sl Y40) a0)), (4, .lf (.hd 0 0 none))], [ar 0 Y40 y3 .dp]⟩) (φ := True ∧ True) (by kernel_rfl) ⟨trivial, trivial⟩ ?_
    refine VO.nil ?_
    show VW _ _ _ _ _ _ _
    refine VW.seq ?_
    refine VW.region ?_
    refine VO.seg T_ok .dp 2 [0, 4, 5] [0] (s' := ⟨[(0, .lf (.v (.sl Y40) a0)), (4, .lf (.hd 0 0 none)), (5, .lf (.nil))], [ar 0 Y40 y3 .dp]⟩) (φ := True ∧ True ∧ True) (by kernel_rfl) ⟨trivial, trivial, trivial⟩ ?_
    refine VO.nil ?_
    show VW _ _ _ _ _ _ _
    refine VW.join (fun s => ∃ (x335 : (List (Int × (ByteArray × (Int × (Int × (Int × (Bool × (List Int))))))))), s = ⟨[(4, .lf (.hd 0 0 none))], [ar 0 Y40 x335 .dp]⟩ ∧ F16_j0 N x335 = some r) ?_ ?_
    · refine VW.seq ?_
      refine VW.region ?_
      refine VO.seg T_ok .dp 1 [0, 4, 5, 6] [0] (s' := ⟨[(0, .lf (.v (.sl Y40) a0)), (4, .lf (.hd 0 0 none)), (5, .lf (.nil)), (6, I (0 : Int))], [ar 0 Y40 y3 .dp]⟩) (φ := True ∧ True) (by kernel_rfl) ⟨trivial, trivial⟩ ?_
      refine VO.nil ?_
      show VW _ _ _ _ _ _ _
      refine VW.block ?_
      refine VW.loopL (fun k s => ∃ (x446 : (List (Int × (ByteArray × (Int × (Int × (Int × (Bool × (List Int))))))))) (x447 : (List Int)) (x448 : Int), s = ⟨[(0, .lf (.v (.sl Y40) a0)), (4, .lf (.hd 0 0 none)), (5, .lf (.hd 1 0 none)), (6, I x448)], [ar 0 Y40 x446 .dp, ar 0 (.int .i64) x447 .dp]⟩ ∧ F16_l1 N a0 k x446 x447 x448 = some r) N [.nilS 5 (.int .i64) .dp, .ren [0, 4, 5, 6] [0, 1]] (by kernel_rfl) ⟨y3, [], (0 : Int), rfl, h⟩ ?_
      rintro k558 s ⟨x446, x447, x448, rfl, h⟩
      cases k558 with
      | zero => exact nomatch (show (none : Option ((List (Int × (ByteArray × (Int × (Int × (Int × (Bool × (List Int)))))))) × Bool)) = some r from h)
      | succ k558 =>
        replace h : F16_l1_b N a0 (F16_l1 N a0 k558) x446 x447 x448 = some r := h
        unfold F16_l1_b at h
        refine VW.seq ?_
        refine VW.seq ?_
        refine VW.region ?_
        refine VO.seg T_ok .dp 4 [0, 4, 5, 6, 17] [0, 1] (s' := ⟨[(0, .lf (.v (.sl Y40) a0)), (4, .lf (.hd 0 0 none)), (5, .lf (.hd 1 0 none)), (6, I x448), (17, B (decide (x448 < (x446.length : Int))))], [ar 0 Y40 x446 .dp, ar 0 (.int .i64) x447 .dp]⟩) (φ := True ∧ True ∧ True ∧ True ∧ True) (by kernel_rfl) ⟨trivial, trivial, trivial, trivial, trivial⟩ ?_
        refine VO.nil ?_
        show VW _ _ _ _ _ _ _
        refine VW.cond (b := (decide (x448 < (x446.length : Int)))) (by kernel_rfl) (fun hb => ?_) (fun hb => ?_)
        · replace h := cond_t h hb; clear hb
          refine VW.skip ?_
          show VW _ _ _ _ _ _ _
          refine VW.join (fun s => ∃ (x612 : (List (Int × (ByteArray × (Int × (Int × (Int × (Bool × (List Int))))))))) (x613 : (List Int)), s = ⟨[(0, .lf (.v (.sl Y40) a0)), (4, .lf (.hd 0 0 none)), (5, .lf (.hd 1 0 none)), (6, I x448)], [ar 0 Y40 x612 .dp, ar 0 (.int .i64) x613 .dp]⟩ ∧ F16_j1 N (F16_l1 N a0 k558) x448 x612 x613 = some r) ?_ ?_
          · refine VW.block ?_
            refine VW.seq ?_
            refine VW.seq ?_
            refine VW.region ?_
            obtain ⟨g617, h⟩ := gd_some h
            obtain ⟨g618, h⟩ := gd_some h
            refine VO.seg T_ok .dp 6 [0, 4, 5, 6, 25] [0, 1] (s' := ⟨[(0, .lf (.v (.sl Y40) a0)), (4, .lf (.hd 0 0 none)), (5, .lf (.hd 1 0 none)), (6, I x448), (25, B (!((x446.getD x448.toNat (Ty.dflt Y40)).2.2.2.2.2.1)))], [ar 0 Y40 x446 .dp, ar 0 (.int .i64) x447 .dp]⟩) (φ := True ∧ True ∧ (InR x448 x446.length) ∧ True ∧ (x448.toNat < x446.length) ∧ True ∧ True) (by kernel_rfl) ⟨trivial, trivial, g617, trivial, g618, trivial, trivial⟩ ?_
            refine VO.nil ?_
            show VW _ _ _ _ _ _ _
            refine VW.cond (b := (!((x446.getD x448.toNat (Ty.dflt Y40)).2.2.2.2.2.1))) (by kernel_rfl) (fun hb => ?_) (fun hb => ?_)
            · replace h := cond_t h hb; clear hb
              refine VW.exit ?_
              exact arrive [.ren [0, 4, 5, 6] [0, 1]] (by kernel_rfl) ⟨x446, x447, rfl, h⟩
            · replace h := cond_f h hb; clear hb
              refine VW.skip ?_
              show VW _ _ _ _ _ _ _
              refine VW.join (fun s => ∃ (x623 : (List Int)), s = ⟨[(0, .lf (.v (.sl Y40) a0)), (4, .lf (.hd 0 0 none)), (5, .lf (.hd 1 0 none)), (6, I x448)], [ar 0 Y40 x446 .dp, ar 0 (.int .i64) x623 .dp]⟩ ∧ F16_j3 N a0 (F16_l1 N a0 k558) x446 x448 x623 = some r) ?_ ?_
              · refine VW.seq ?_
                refine VW.region ?_
                obtain ⟨g664, h⟩ := gd_some h
                refine VO.seg T_ok .dp 6 [0, 4, 5, 6, 26, 31] [0, 1] (s' := ⟨[(0, .lf (.v (.sl Y40) a0)), (4, .lf (.hd 0 0 none)), (5, .lf (.hd 1 0 none)), (6, I x448), (26, .lf (.hd 1 0 none)), (31, I ((a0.getD x448.toNat (Ty.dflt Y40)).2.2.2.2.1))], [ar 0 Y40 x446 .dp, ar 0 (.int .i64) x447 .dp]⟩) (φ := True ∧ True ∧ True ∧ (InR x448 a0.length) ∧ True ∧ True ∧ True) (by kernel_rfl) ⟨trivial, trivial, trivial, g664, trivial, trivial, trivial⟩ ?_
                obtain ⟨y665, hy, h⟩ := andO_some h
                refine VO.call true [.t (.sl (.int .i64)), .t (.int .i64)] [] T_ok (d := some 32) (by kernel_rfl) (ok29 N _ _ hy) rfl ?_
                refine VO.seg T_ok .dp 1 [0, 4, 5, 6, 33] [0, 1] (s' := ⟨[(0, .lf (.v (.sl Y40) a0)), (4, .lf (.hd 0 0 none)), (5, .lf (.hd 1 0 none)), (6, I x448), (33, B (!y665))], [ar 0 Y40 x446 .dp, ar 0 (.int .i64) x447 .dp]⟩) (φ := True ∧ True) (by kernel_rfl) ⟨trivial, trivial⟩ ?_
                refine VO.nil ?_
                show VW _ _ _ _ _ _ _
                refine VW.cond (b := (!y665)) (by kernel_rfl) (fun hb => ?_) (fun hb => ?_)
                · replace h := cond_t h hb; clear hb
                  refine VW.region ?_
                  obtain ⟨g666, h⟩ := gd_some h
                  obtain ⟨g667, h⟩ := gd_some h
                  refine VO.seg T_ok .dp 9 [0, 4, 5, 6] [0, 1] (s' := ⟨[(0, .lf (.v (.sl Y40) a0)), (4, .lf (.hd 0 0 none)), (5, .lf (.hd 1 0 none)), (6, I x448)], [ar 0 Y40 x446 .dp, ar 0 (.int .i64) (x447 ++ ([(a0.getD x448.toNat (Ty.dflt Y40)).2.2.2.2.1])) .dp]⟩) (φ := True ∧ True ∧ True ∧ (InR x448 a0.length) ∧ True ∧ True ∧ True ∧ (x447.length + ([(a0.getD x448.toNat (Ty.dflt Y40)).2.2.2.2.1]).length ≤ lim (.int .i64)) ∧ True ∧ True) (by kernel_rfl) ⟨trivial, trivial, trivial, g666, trivial, trivial, trivial, g667, trivial, trivial⟩ ?_
                  refine VO.nil ?_
                  exact arrive [.ren [0, 4, 5, 6] [0, 1]] (by kernel_rfl) ⟨(x447 ++ ([(a0.getD x448.toNat (Ty.dflt Y40)).2.2.2.2.1])), rfl, h⟩
                · replace h := cond_f h hb; clear hb
                  refine VW.skip ?_
                  exact arrive [.ren [0, 4, 5, 6] [0, 1]] (by kernel_rfl) ⟨x447, rfl, h⟩
              · rintro s ⟨x623, rfl, h⟩
                unfold F16_j3 at h
                refine VW.seq ?_
                refine VW.region ?_
                refine VO.seg T_ok .dp 1 [0, 4, 5, 6, 7] [0, 1] (s' := ⟨[(0, .lf (.v (.sl Y40) a0)), (4, .lf (.hd 0 0 none)), (5, .lf (.hd 1 0 none)), (6, I x448), (7, I (0 : Int))], [ar 0 Y40 x446 .dp, ar 0 (.int .i64) x623 .dp]⟩) (φ := True ∧ True) (by kernel_rfl) ⟨trivial, trivial⟩ ?_
                refine VO.nil ?_
                show VW _ _ _ _ _ _ _
                refine VW.block ?_
                refine VW.loopL (fun k s => ∃ (x636 : (List (Int × (ByteArray × (Int × (Int × (Int × (Bool × (List Int))))))))) (x637 : Int), s = ⟨[(0, .lf (.v (.sl Y40) a0)), (4, .lf (.hd 0 0 none)), (5, .lf (.hd 1 0 none)), (6, I x448), (7, I x637)], [ar 0 Y40 x636 .dp, ar 0 (.int .i64) x623 .dp]⟩ ∧ F16_l0 N a0 (F16_l1 N a0 k558) x448 x623 k x636 x637 = some r) N [.ren [0, 4, 5, 6, 7] [0, 1]] (by kernel_rfl) ⟨x446, (0 : Int), rfl, h⟩ ?_
                rintro k650 s ⟨x636, x637, rfl, h⟩
                cases k650 with
                | zero => exact nomatch (show (none : Option ((List (Int × (ByteArray × (Int × (Int × (Int × (Bool × (List Int)))))))) × Bool)) = some r from h)
                | succ k650 =>
                  replace h : F16_l0_b N a0 (F16_l1 N a0 k558) x448 x623 (F16_l0 N a0 (F16_l1 N a0 k558) x448 x623 k650) x636 x637 = some r := h
                  unfold F16_l0_b at h
                  refine VW.seq ?_
                  refine VW.seq ?_
                  refine VW.region ?_
                  refine VO.seg T_ok .dp 4 [0, 4, 5, 6, 7, 45] [0, 1] (s' := ⟨[(0, .lf (.v (.sl Y40) a0)), (4, .lf (.hd 0 0 none)), (5, .lf (.hd 1 0 none)), (6, I x448), (7, I x637), (45, B (decide (x637 < (x623.length : Int))))], [ar 0 Y40 x636 .dp, ar 0 (.int .i64) x623 .dp]⟩) (φ := True ∧ True ∧ True ∧ True ∧ True) (by kernel_rfl) ⟨trivial, trivial, trivial, trivial, trivial⟩ ?_
                  refine VO.nil ?_
                  show VW _ _ _ _ _ _ _
                  refine VW.cond (b := (decide (x637 < (x623.length : Int)))) (by kernel_rfl) (fun hb => ?_) (fun hb => ?_)
                  · replace h := cond_t h hb; clear hb
                    refine VW.skip ?_
                    show VW _ _ _ _ _ _ _
                    refine VW.join (fun s => ∃ (x656 : (List (Int × (ByteArray × (Int × (Int × (Int × (Bool × (List Int))))))))), s = ⟨[(0, .lf (.v (.sl Y40) a0)), (4, .lf (.hd 0 0 none)), (5, .lf (.hd 1 0 none)), (6, I x448), (7, I x637)], [ar 0 Y40 x656 .dp, ar 0 (.int .i64) x623 .dp]⟩ ∧ F16_j2 N (F16_l0 N a0 (F16_l1 N a0 k558) x448 x623 k650) x637 x656 = some r) ?_ ?_
                    · refine VW.block ?_
                      refine VW.seq ?_
                      obtain ⟨g658, h⟩ := gd_some h
                      obtain ⟨g659, h⟩ := gd_some h
                      obtain ⟨g660, h⟩ := gd_some h
                      refine VW.drawn (by kernel_rfl) [some (48, .lf (.hd 1 0 none)), some (49, I x637), some (50, .lf (.ptr 1 0 x637.toNat 0)), some (51, I (x623.getD x637.toNat (Ty.dflt (.int .i64)))), some (52, .lf (.v (.sl Y40) a0)), some (53, I x448), some (54, .lf (.fp Y40 (a0.getD x448.toNat (Ty.dflt Y40)) 0)), some (55, .lf (.fp Y40 (a0.getD x448.toNat (Ty.dflt Y40)) 4)), some (56, I ((a0.getD x448.toNat (Ty.dflt Y40)).2.2.2.2.1)), some (57, B ((x623.getD x637.toNat (Ty.dflt (.int .i64))) == ((a0.getD x448.toNat (Ty.dflt Y40)).2.2.2.2.1)))] [] [[ar 0 Y40 x636 .dp, ar 0 (.int .i64) x623 .dp]] [(0, 0), (1, 0), (2, 0), (3, 0), (4, 0), (5, 0), (6, 0), (7, 0), (8, 0), (9, 0)] [0, 4, 5, 6, 7, 57] [0, 1] (s' := ⟨[(0, .lf (.v (.sl Y40) a0)), (4, .lf (.hd 0 0 none)), (5, .lf (.hd 1 0 none)), (6, I x448), (7, I x637), (57, B ((x623.getD x637.toNat (Ty.dflt (.int .i64))) == ((a0.getD x448.toNat (Ty.dflt Y40)).2.2.2.2.1)))], [ar 0 Y40 x636 .dp, ar 0 (.int .i64) x623 .dp]⟩) (by kernel_rfl) (by kernel_rfl) ⟨⟨_, rfl, Stp.ev T_ok (m := .dp) (φ := True) (by kernel_rfl) trivial⟩,
    ⟨_, rfl, Stp.ev T_ok (m := .dp) (φ := True) (by kernel_rfl) trivial⟩,
    ⟨_, rfl, Stp.ev T_ok (m := .dp) (φ := InR x637 x623.length) (by kernel_rfl) g658⟩,
    ⟨_, rfl, Stp.ev T_ok (m := .dp) (φ := x637.toNat < x623.length) (by kernel_rfl) g659⟩,
    ⟨_, rfl, Stp.ev T_ok (m := .dp) (φ := True) (by kernel_rfl) trivial⟩,
    ⟨_, rfl, Stp.ev T_ok (m := .dp) (φ := True) (by kernel_rfl) trivial⟩,
    ⟨_, rfl, Stp.ev T_ok (m := .dp) (φ := InR x448 a0.length) (by kernel_rfl) g660⟩,
    ⟨_, rfl, Stp.ev T_ok (m := .dp) (φ := True) (by kernel_rfl) trivial⟩,
    ⟨_, rfl, Stp.ev T_ok (m := .dp) (φ := True) (by kernel_rfl) trivial⟩,
    ⟨_, rfl, Stp.ev T_ok (m := .dp) (φ := True) (by kernel_rfl) trivial⟩, trivial⟩ (by kernel_rfl) ?_
                      show VW _ _ _ _ _ _ _
                      refine VW.cond (b := ((x623.getD x637.toNat (Ty.dflt (.int .i64))) == ((a0.getD x448.toNat (Ty.dflt Y40)).2.2.2.2.1))) (by kernel_rfl) (fun hb => ?_) (fun hb => ?_)
                      · replace h := cond_t h hb; clear hb
                        refine VW.region ?_
                        obtain ⟨g661, h⟩ := gd_some h
                        obtain ⟨g662, h⟩ := gd_some h
                        refine VO.seg T_ok .dp 6 [0, 4, 5, 6, 7] [0, 1] (s' := ⟨[(0, .lf (.v (.sl Y40) a0)), (4, .lf (.hd 0 0 none)), (5, .lf (.hd 1 0 none)), (6, I x448), (7, I x637)], [ar 0 Y40 (x636.set x448.toNat ((x636.getD x448.toNat (Ty.dflt Y40)).1, ((x636.getD x448.toNat (Ty.dflt Y40)).2.1, ((x636.getD x448.toNat (Ty.dflt Y40)).2.2.1, ((x636.getD x448.toNat (Ty.dflt Y40)).2.2.2.1, (x637, ((x636.getD x448.toNat (Ty.dflt Y40)).2.2.2.2.2.1, (x636.getD x448.toNat (Ty.dflt Y40)).2.2.2.2.2.2))))))) .dp, ar 0 (.int .i64) x623 .dp]⟩) (φ := True ∧ True ∧ True ∧ (InR x448 x636.length) ∧ True ∧ (x448.toNat < x636.length) ∧ True) (by kernel_rfl) ⟨trivial, trivial, trivial, g661, trivial, g662, trivial⟩ ?_
                        refine VO.nil ?_
                        exact arrive [.ren [0, 4, 5, 6, 7] [0, 1]] (by kernel_rfl) ⟨(x636.set x448.toNat ((x636.getD x448.toNat (Ty.dflt Y40)).1, ((x636.getD x448.toNat (Ty.dflt Y40)).2.1, ((x636.getD x448.toNat (Ty.dflt Y40)).2.2.1, ((x636.getD x448.toNat (Ty.dflt Y40)).2.2.2.1, (x637, ((x636.getD x448.toNat (Ty.dflt Y40)).2.2.2.2.2.1, (x636.getD x448.toNat (Ty.dflt Y40)).2.2.2.2.2.2))))))), rfl, h⟩
                      · replace h := cond_f h hb; clear hb
                        refine VW.skip ?_
                        exact arrive [.ren [0, 4, 5, 6, 7] [0, 1]] (by kernel_rfl) ⟨x636, rfl, h⟩
                    · rintro s ⟨x656, rfl, h⟩
                      unfold F16_j2 at h
                      refine VW.region ?_
                      refine VO.seg T_ok .dp 3 [0, 4, 5, 6, 7] [0, 1] (s' := ⟨[(0, .lf (.v (.sl Y40) a0)), (4, .lf (.hd 0 0 none)), (5, .lf (.hd 1 0 none)), (6, I x448), (7, I (IntKind.i64.wrap (x637 + (1 : Int))))], [ar 0 Y40 x656 .dp, ar 0 (.int .i64) x623 .dp]⟩) (φ := True ∧ True ∧ True ∧ True) (by kernel_rfl) ⟨trivial, trivial, trivial, trivial⟩ ?_
                      refine VO.nil ?_
                      exact around [.ren [0, 4, 5, 6, 7] [0, 1]] (by kernel_rfl) ⟨x656, (IntKind.i64.wrap (x637 + (1 : Int))), rfl, h⟩
                  · replace h := cond_f h hb; clear hb
                    refine VW.exit ?_
                    exact arrive [.ren [0, 4, 5, 6] [0, 1]] (by kernel_rfl) ⟨x636, x623, rfl, h⟩
          · rintro s ⟨x612, x613, rfl, h⟩
            unfold F16_j1 at h
            refine VW.region ?_
            refine VO.seg T_ok .dp 3 [0, 4, 5, 6] [0, 1] (s' := ⟨[(0, .lf (.v (.sl Y40) a0)), (4, .lf (.hd 0 0 none)), (5, .lf (.hd 1 0 none)), (6, I (IntKind.i64.wrap (x448 + (1 : Int))))], [ar 0 Y40 x612 .dp, ar 0 (.int .i64) x613 .dp]⟩) (φ := True ∧ True ∧ True ∧ True) (by kernel_rfl) ⟨trivial, trivial, trivial, trivial⟩ ?_
            refine VO.nil ?_
            exact around [.ren [0, 4, 5, 6] [0, 1]] (by kernel_rfl) ⟨x612, x613, (IntKind.i64.wrap (x448 + (1 : Int))), rfl, h⟩
        · replace h := cond_f h hb; clear hb
          refine VW.exit ?_
          exact arrive [.ren [4] [0]] (by kernel_rfl) ⟨x446, rfl, h⟩
    · rintro s ⟨x335, rfl, h⟩
      unfold F16_j0 at h
      refine VW.seq ?_
      refine VW.region ?_
      refine VO.seg T_ok .dp 3 [2, 3] [0] (s' := ⟨[(2, .lf (.hd 0 0 none)), (3, B true)], [ar 0 Y40 x335 .dp]⟩) (φ := True ∧ True ∧ True ∧ True) (by kernel_rfl) ⟨trivial, trivial, trivial, trivial⟩ ?_
      refine VO.nil ?_
      show VW _ _ _ _ _ _ _
      refine VW.ret ?_
      replace h := Option.some.inj h
      subst h
      exact retR [some 0] (by kernel_rfl) rfl

/- slices.Index[[]int,int] -/
def F30_j0 (N : Nat) : Option (Int) :=
  some (-1 : Int)
def F30_l0_b (N : Nat) (a0 : (List Int)) (a1 : Int) (nx19 : Int → Int → Option (Int)) (x15 : Int) (x16 : Int) : Option (Int) :=
  cond (decide (x16 < x15)) (gd (InR x16 a0.length) (cond (a1 == (a0.getD x16.toNat (Ty.dflt (.int .i64)))) (some x16) (nx19 x15 (IntKind.i64.wrap (x16 + (1 : Int)))))) (F30_j0 N)
def F30_l0 (N : Nat) (a0 : (List Int)) (a1 : Int) : Nat → Int → Int → Option (Int) := loopF (F30_l0_b N a0 a1) (fun _ _ => none)
theorem F30_l0_s (N : Nat) (a0 : (List Int)) (a1 : Int) {k : Nat} (hk : 0 < k) (x15 : Int) (x16 : Int) : F30_l0 N a0 a1 k x15 x16 = F30_l0_b N a0 a1 (F30_l0 N a0 a1 (k - 1)) x15 x16 := by
  cases k with
  | zero => exact absurd hk (Nat.lt_irrefl 0)
  | succ m => rfl
def F30 (N : Nat) (a0 : (List Int)) (a1 : Int) : Option (Int) :=
  F30_l0 N a0 a1 N (a0.length : Int) (0 : Int)
theorem ok30 (N : Nat) (a0 : (List Int)) (a1 : Int) {r : Int} (h : F30 N a0 a1 = some r) : Con Go.Proofs.Try.prog 30 [.lf (.v (.sl (.int .i64)) a0), I a1] [.lf (.v (.int .i64) r)] := by
  refine ⟨enters_of Go.Proofs.Try.func30 rfl (by decide), HC.intro [.lf (.v (.int .i64))] T_ok Go.Proofs.Try.func30 rfl (Nat.le_of_ble_eq_true rfl) (Nat.le_of_ble_eq_true rfl) fun w0 E0 => ?_⟩
  unfold F30 at h
  show VW _ _ _ _ _ (retQ _ _ _ _) _
  refine VW.seq ?_
  refine VW.region ?_
  refine VO.seg T_ok .dp 1 [0, 1] [] (s' := ⟨[(0, .lf (.v (.sl (.int .i64)) a0)), (1, I a1)], []⟩) (φ := True ∧ True) (by kernel_rfl) ⟨trivial, trivial⟩ ?_
  refine VO.nil ?_
  show VW _ _ _ _ _ _ _
  refine VW.join (fun s => s = ⟨[], []⟩ ∧ F30_j0 N = some r) ?_ ?_
  · refine VW.seq ?_
    refine VW.region ?_
    refine VO.seg T_ok .dp 3 [0, 1, 7, 8] [] (s' := ⟨[(0, .lf (.v (.sl (.int .i64)) a0)), (1, I a1), (7, I (a0.length : Int)), (8, I (0 : Int))], []⟩) (φ := True ∧ True ∧ True ∧ True) (by kernel_rfl) ⟨trivial, trivial, trivial, trivial⟩ ?_
    refine VO.nil ?_
    show VW _ _ _ _ _ _ _
    refine VW.block ?_
    refine VW.loopL (fun k s => ∃ (x15 : Int) (x16 : Int), s = ⟨[(0, .lf (.v (.sl (.int .i64)) a0)), (1, I a1), (7, I x15), (8, I x16)], []⟩ ∧ F30_l0 N a0 a1 k x15 x16 = some r) N [.ren [0, 1, 7, 8] []] (by kernel_rfl) ⟨(a0.length : Int), (0 : Int), rfl, h⟩ ?_
    rintro k19 s ⟨x15, x16, rfl, h⟩
    cases k19 with
    | zero => exact nomatch (show (none : Option (Int)) = some r from h)
    | succ k19 =>
      replace h : F30_l0_b N a0 a1 (F30_l0 N a0 a1 k19) x15 x16 = some r := h
      unfold F30_l0_b at h
      refine VW.seq ?_
      refine VW.region ?_
      refine VO.seg T_ok .dp 1 [0, 1, 7, 8, 9] [] (s' := ⟨[(0, .lf (.v (.sl (.int .i64)) a0)), (1, I a1), (7, I x15), (8, I x16), (9, B (decide (x16 < x15)))], []⟩) (φ := True ∧ True) (by kernel_rfl) ⟨trivial, trivial⟩ ?_
      refine VO.nil ?_
      show VW _ _ _ _ _ _ _
      refine VW.seq ?_
      refine VW.cond (b := (decide (x16 < x15))) (by kernel_rfl) (fun hb => ?_) (fun hb => ?_)
      · replace h := cond_t h hb; clear hb
        refine VW.skip ?_
        show VW _ _ _ _ _ _ _
        refine VW.seq ?_
        refine VW.block ?_
        refine VW.seq ?_
        refine VW.region ?_
        refine VO.seg T_ok .dp 2 [0, 1, 5, 7, 8] [] (s' := ⟨[(0, .lf (.v (.sl (.int .i64)) a0)), (1, I a1), (5, I x16), (7, I x15), (8, I x16)], []⟩) (φ := True ∧ True ∧ True) (by kernel_rfl) ⟨trivial, trivial, trivial⟩ ?_
        refine VO.nil ?_
        show VW _ _ _ _ _ _ _
        refine VW.seq ?_
        refine VW.region ?_
        obtain ⟨g21, h⟩ := gd_some h
        refine VO.seg T_ok .dp 6 [0, 1, 5, 7, 8, 16] [] (s' := ⟨[(0, .lf (.v (.sl (.int .i64)) a0)), (1, I a1), (5, I x16), (7, I x15), (8, I x16), (16, B (a1 == (a0.getD x16.toNat (Ty.dflt (.int .i64)))))], []⟩) (φ := True ∧ True ∧ True ∧ (InR x16 a0.length) ∧ True ∧ True ∧ True) (by kernel_rfl) ⟨trivial, trivial, trivial, g21, trivial, trivial, trivial⟩ ?_
        refine VO.nil ?_
        show VW _ _ _ _ _ _ _
        refine VW.cond (b := (a1 == (a0.getD x16.toNat (Ty.dflt (.int .i64))))) (by kernel_rfl) (fun hb => ?_) (fun hb => ?_)
        · replace h := cond_t h hb; clear hb
          refine VW.seq ?_
          refine VW.region ?_
          refine VO.seg T_ok .dp 2 [4] [] (s' := ⟨[(4, I x16)], []⟩) (φ := True ∧ True ∧ True) (by kernel_rfl) ⟨trivial, trivial, trivial⟩ ?_
          refine VO.nil ?_
          show VW _ _ _ _ _ _ _
          refine VW.ret ?_
          replace h := Option.some.inj h
          subst h
          exact retR [] (by kernel_rfl) rfl
        · replace h := cond_f h hb; clear hb
          refine VW.skip ?_
          show VW _ _ _ _ _ _ _
          refine VW.region ?_
          refine VO.seg T_ok .dp 2 [0, 1, 7, 8] [] (s' := ⟨[(0, .lf (.v (.sl (.int .i64)) a0)), (1, I a1), (7, I x15), (8, I (IntKind.i64.wrap (x16 + (1 : Int))))], []⟩) (φ := True ∧ True ∧ True) (by kernel_rfl) ⟨trivial, trivial, trivial⟩ ?_
          refine VO.nil ?_
          exact around [.ren [0, 1, 7, 8] []] (by kernel_rfl) ⟨x15, (IntKind.i64.wrap (x16 + (1 : Int))), rfl, h⟩
      · replace h := cond_f h hb; clear hb
        refine VW.exit ?_
        exact arrive [.ren [] []] (by kernel_rfl) ⟨rfl, h⟩
  · rintro s ⟨rfl, h⟩
    unfold F30_j0 at h
    refine VW.seq ?_
    refine VW.region ?_
    refine VO.seg T_ok .dp 1 [4] [] (s' := ⟨[(4, I (-1 : Int))], []⟩) (φ := True ∧ True) (by kernel_rfl) ⟨trivial, trivial⟩ ?_
    refine VO.nil ?_
    show VW _ _ _ _ _ _ _
    refine VW.ret ?_
    replace h := Option.some.inj h
    subst h
    exact retR [] (by kernel_rfl) rfl

/- loop.example/g00844/impl.Renumber -/
def F17_j0 (N : Nat) (x97 : (List (Int × (ByteArray × (Int × (Int × (Int × (Bool × (List Int))))))))) : Option ((List (Int × (ByteArray × (Int × (Int × (Int × (Bool × (List Int)))))))) × Bool) :=
  some (x97, true)
def F17_j1 (N : Nat) (nx162 : (List (Int × (ByteArray × (Int × (Int × (Int × (Bool × (List Int)))))))) → (List Int) → Int → Int → Option ((List (Int × (ByteArray × (Int × (Int × (Int × (Bool × (List Int)))))))) × Bool)) (x131 : Int) (x132 : Int) (x176 : (List (Int × (ByteArray × (Int × (Int × (Int × (Bool × (List Int))))))))) (x177 : (List Int)) : Option ((List (Int × (ByteArray × (Int × (Int × (Int × (Bool × (List Int)))))))) × Bool) :=
  nx162 x176 x177 x131 (IntKind.i64.wrap (x132 + (1 : Int)))
def F17_j2 (N : Nat) (nx162 : (List (Int × (ByteArray × (Int × (Int × (Int × (Bool × (List Int)))))))) → (List Int) → Int → Int → Option ((List (Int × (ByteArray × (Int × (Int × (Int × (Bool × (List Int)))))))) × Bool)) (x129 : (List (Int × (ByteArray × (Int × (Int × (Int × (Bool × (List Int))))))))) (x131 : Int) (x132 : Int) (x186 : (List Int)) (x187 : Int) : Option ((List (Int × (ByteArray × (Int × (Int × (Int × (Bool × (List Int)))))))) × Bool) :=
  gd (x132.toNat < x129.length) (F17_j1 N nx162 x131 x132 (x129.set x132.toNat ((x129.getD x132.toNat (Ty.dflt Y40)).1, ((x129.getD x132.toNat (Ty.dflt Y40)).2.1, ((x129.getD x132.toNat (Ty.dflt Y40)).2.2.1, ((x129.getD x132.toNat (Ty.dflt Y40)).2.2.2.1, (x187, ((x129.getD x132.toNat (Ty.dflt Y40)).2.2.2.2.2.1, (x129.getD x132.toNat (Ty.dflt Y40)).2.2.2.2.2.2))))))) x186)
def F17_l0_b (N : Nat) (nx162 : (List (Int × (ByteArray × (Int × (Int × (Int × (Bool × (List Int)))))))) → (List Int) → Int → Int → Option ((List (Int × (ByteArray × (Int × (Int × (Int × (Bool × (List Int)))))))) × Bool)) (x129 : (List (Int × (ByteArray × (Int × (Int × (Int × (Bool × (List Int))))))))) (x130 : (List Int)) (x131 : Int) (x132 : Int) : Option ((List (Int × (ByteArray × (Int × (Int × (Int × (Bool × (List Int)))))))) × Bool) :=
  cond (decide (x132 < x131)) (gd (InR x132 x129.length) (gd (x132.toNat < x129.length) (cond (!((x129.getD x132.toNat (Ty.dflt Y40)).2.2.2.2.2.1)) (F17_j1 N nx162 x131 x132 x129 x130) (gd (x132.toNat < x129.length) (andO (F30 N x130 ((x129.getD x132.toNat (Ty.dflt Y40)).2.2.2.2.1)) fun y183 => cond (decide (y183 < (0 : Int))) (gd (x132.toNat < x129.length) (gd (x130.length + ([(x129.getD x132.toNat (Ty.dflt Y40)).2.2.2.2.1]).length ≤ lim (.int .i64)) (F17_j2 N nx162 x129 x131 x132 (x130 ++ ([(x129.getD x132.toNat (Ty.dflt Y40)).2.2.2.2.1])) (x130.length : Int)))) (F17_j2 N nx162 x129 x131 x132 x130 y183)))))) (F17_j0 N x129)
def F17_l0 (N : Nat) : Nat → (List (Int × (ByteArray × (Int × (Int × (Int × (Bool × (List Int)))))))) → (List Int) → Int → Int → Option ((List (Int × (ByteArray × (Int × (Int × (Int × (Bool × (List Int)))))))) × Bool) := loopF (F17_l0_b N) (fun _ _ _ _ => none)
theorem F17_l0_s (N : Nat) {k : Nat} (hk : 0 < k) (x129 : (List (Int × (ByteArray × (Int × (Int × (Int × (Bool × (List Int))))))))) (x130 : (List Int)) (x131 : Int) (x132 : Int) : F17_l0 N k x129 x130 x131 x132 = F17_l0_b N (F17_l0 N (k - 1)) x129 x130 x131 x132 := by
  cases k with
  | zero => exact absurd hk (Nat.lt_irrefl 0)
  | succ m => rfl
def F17 (N : Nat) (a0 : (List (Int × (ByteArray × (Int × (Int × (Int × (Bool × (List Int))))))))) : Option ((List (Int × (ByteArray × (Int × (Int × (Int × (Bool × (List Int)))))))) × Bool) :=
  andO (F25 N a0) fun y2 => cond (!y2) (some ([], false)) (andO (F26 N a0) fun y3 => F17_l0 N N y3 ([]) (y3.length : Int) (0 : Int))
theorem ok17 (N : Nat) (a0 : (List (Int × (ByteArray × (Int × (Int × (Int × (Bool × (List Int))))))))) {r : (List (Int × (ByteArray × (Int × (Int × (Int × (Bool × (List Int)))))))) × Bool} (h : F17 N a0 = some r) : Con Go.Proofs.Try.prog 17 [.lf (.v (.sl Y40) a0)] [.lf (.own Y40 r.1 .dp), .lf (.v .bool r.2)] := by
  refine ⟨enters_of Go.Proofs.Try.func17 rfl (by decide), HC.intro [.lf (.own Y40 .dp), .lf (.v .bool)] T_ok Go.Proofs.Try.func17 rfl (Nat.le_of_ble_eq_true rfl) (Nat.le_of_ble_eq_true rfl) fun w0 E0 => ?_⟩
  unfold F17 at h
  show VW _ _ _ _ _ (retQ _ _ _ _) _
  refine VW.seq ?_
  refine VW.region ?_
  refine VO.seg T_ok .dp 2 [0] [] (s' := ⟨[(0, .lf (.v (.sl Y40) a0))], []⟩) (φ := True ∧ True ∧ True) (by kernel_rfl) ⟨trivial, trivial, trivial⟩ ?_
  refine VO.nil ?_
  show VW _ _ _ _ _ _ _
  refine VW.seq ?_
  refine VW.seq ?_
  refine VW.region ?_
  refine VO.seg T_ok .dp 1 [0, 9] [] (s' := ⟨[(0, .lf (.v (.sl Y40) a0)), (9, .lf (.v (.sl Y40) a0))], []⟩) (φ := True ∧ True) (by kernel_rfl) ⟨trivial, trivial⟩ ?_
  obtain ⟨y2, hy, h⟩ := andO_some h
  refine VO.call false [.t (.sl Y40)] [] T_ok (d := some 10) (by kernel_rfl) (ok25 N _ hy) rfl ?_
  refine VO.seg T_ok .dp 1 [0, 11] [] (s' := ⟨[(0, .lf (.v (.sl Y40) a0)), (11, B (!y2))], []⟩) (φ := True ∧ True) (by kernel_rfl) ⟨trivial, trivial⟩ ?_
  refine VO.nil ?_
  show VW _ _ _ _ _ _ _
  refine VW.cond (b := (!y2)) (by kernel_rfl) (fun hb => ?_) (fun hb => ?_)
  · replace h := cond_t h hb; clear hb
    refine VW.seq ?_
    refine VW.region ?_
    refine VO.seg T_ok .dp 2 [2, 3] [] (s' := ⟨[(2, .lf (.nil)), (3, B false)], []⟩) (φ := True ∧ True ∧ True) (by kernel_rfl) ⟨trivial, trivial, trivial⟩ ?_
    refine VO.nil ?_
    show VW _ _ _ _ _ _ _
    refine VW.ret ?_
    replace h := Option.some.inj h
    subst h
    exact retR [none] (by kernel_rfl) rfl
  · replace h := cond_f h hb; clear hb
    refine VW.skip ?_
    show VW _ _ _ _ _ _ _
    refine VW.seq ?_
    refine VW.region ?_
    refine VO.seg T_ok .dp 1 [12] [] (s' := ⟨[(12, .lf (.v (.sl Y40) a0))], []⟩) (φ := True ∧ True) (by kernel_rfl) ⟨trivial, trivial⟩ ?_
    obtain ⟨y3, hy, h⟩ := andO_some h
    refine VO.call false [.t (.sl Y40)] [] T_ok (d := some 13) (by kernel_rfl) (ok26 N _ hy) rfl ?_
    refine VO.seg T_ok .dp 1 [4] [0] (s' := ⟨[(4, .lf (.hd 0 0 none))], [ar 0 Y40 y3 .dp]⟩) (φ := True ∧ True) (by kernel_rfl) ⟨trivial, trivial⟩ ?_
    refine VO.nil ?_
    show VW _ _ _ _ _ _ _
    refine VW.seq ?_
    refine VW.region ?_
    refine VO.seg T_ok .dp 1 [4, 5] [0] (s' := ⟨[(4, .lf (.hd 0 0 none)), (5, .lf (.nil))], [ar 0 Y40 y3 .dp]⟩) (φ := True ∧ True) (by kernel_rfl) ⟨trivial, trivial⟩ ?_
    refine VO.nil ?_
    show VW _ _ _ _ _ _ _
    refine VW.join (fun s => ∃ (x97 : (List (Int × (ByteArray × (Int × (Int × (Int × (Bool × (List Int))))))))), s = ⟨[(4, .lf (.hd 0 0 none))], [ar 0 Y40 x97 .dp]⟩ ∧ F17_j0 N x97 = some r) ?_ ?_
    · refine VW.seq ?_
      refine VW.region ?_
      refine VO.seg T_ok .dp 3 [4, 5, 15, 16] [0] (s' := ⟨[(4, .lf (.hd 0 0 none)), (5, .lf (.nil)), (15, I (y3.length : Int)), (16, I (0 : Int))], [ar 0 Y40 y3 .dp]⟩) (φ := True ∧ True ∧ True ∧ True) (by kernel_rfl) ⟨trivial, trivial, trivial, trivial⟩ ?_
      refine VO.nil ?_
      show VW _ _ _ _ _ _ _
      refine VW.block ?_
      refine VW.loopL (fun k s => ∃ (x129 : (List (Int × (ByteArray × (Int × (Int × (Int × (Bool × (List Int))))))))) (x130 : (List Int)) (x131 : Int) (x132 : Int), s = ⟨[(4, .lf (.hd 0 0 none)), (5, .lf (.hd 1 0 none)), (15, I x131), (16, I x132)], [ar 0 Y40 x129 .dp, ar 0 (.int .i64) x130 .dp]⟩ ∧ F17_l0 N k x129 x130 x131 x132 = some r) N [.nilS 5 (.int .i64) .dp, .ren [4, 5, 15, 16] [0, 1]] (by kernel_rfl) ⟨y3, [], (y3.length : Int), (0 : Int), rfl, h⟩ ?_
      rintro k162 s ⟨x129, x130, x131, x132, rfl, h⟩
      cases k162 with
      | zero => exact nomatch (show (none : Option ((List (Int × (ByteArray × (Int × (Int × (Int × (Bool × (List Int)))))))) × Bool)) = some r from h)
      | succ k162 =>
        replace h : F17_l0_b N (F17_l0 N k162) x129 x130 x131 x132 = some r := h
        unfold F17_l0_b at h
        refine VW.seq ?_
        refine VW.region ?_
        refine VO.seg T_ok .dp 1 [4, 5, 15, 16, 17] [0, 1] (s' := ⟨[(4, .lf (.hd 0 0 none)), (5, .lf (.hd 1 0 none)), (15, I x131), (16, I x132), (17, B (decide (x132 < x131)))], [ar 0 Y40 x129 .dp, ar 0 (.int .i64) x130 .dp]⟩) (φ := True ∧ True) (by kernel_rfl) ⟨trivial, trivial⟩ ?_
        refine VO.nil ?_
        show VW _ _ _ _ _ _ _
        refine VW.seq ?_
        refine VW.cond (b := (decide (x132 < x131))) (by kernel_rfl) (fun hb => ?_) (fun hb => ?_)
        · replace h := cond_t h hb; clear hb
          refine VW.skip ?_
          show VW _ _ _ _ _ _ _
          refine VW.join (fun s => ∃ (x176 : (List (Int × (ByteArray × (Int × (Int × (Int × (Bool × (List Int))))))))) (x177 : (List Int)), s = ⟨[(4, .lf (.hd 0 0 none)), (5, .lf (.hd 1 0 none)), (15, I x131), (16, I x132)], [ar 0 Y40 x176 .dp, ar 0 (.int .i64) x177 .dp]⟩ ∧ F17_j1 N (F17_l0 N k162) x131 x132 x176 x177 = some r) ?_ ?_
          · refine VW.block ?_
            refine VW.seq ?_
            refine VW.region ?_
            refine VO.seg T_ok .dp 2 [4, 5, 6, 15, 16] [0, 1] (s' := ⟨[(4, .lf (.hd 0 0 none)), (5, .lf (.hd 1 0 none)), (6, I x132), (15, I x131), (16, I x132)], [ar 0 Y40 x129 .dp, ar 0 (.int .i64) x130 .dp]⟩) (φ := True ∧ True ∧ True) (by kernel_rfl) ⟨trivial, trivial, trivial⟩ ?_
            refine VO.nil ?_
            show VW _ _ _ _ _ _ _
            refine VW.seq ?_
            refine VW.region ?_
            obtain ⟨g179, h⟩ := gd_some h
            refine VO.seg T_ok .dp 4 [4, 5, 7, 15, 16] [0, 1] (s' := ⟨[(4, .lf (.hd 0 0 none)), (5, .lf (.hd 1 0 none)), (7, .lf (.ptr 0 0 x132.toNat 0)), (15, I x131), (16, I x132)], [ar 0 Y40 x129 .dp, ar 0 (.int .i64) x130 .dp]⟩) (φ := True ∧ True ∧ (InR x132 x129.length) ∧ True ∧ True) (by kernel_rfl) ⟨trivial, trivial, g179, trivial, trivial⟩ ?_
            refine VO.nil ?_
            show VW _ _ _ _ _ _ _
            refine VW.seq ?_
            refine VW.seq ?_
            refine VW.region ?_
            obtain ⟨g181, h⟩ := gd_some h
            refine VO.seg T_ok .dp 5 [4, 5, 7, 15, 16, 26] [0, 1] (s' := ⟨[(4, .lf (.hd 0 0 none)), (5, .lf (.hd 1 0 none)), (7, .lf (.ptr 0 0 x132.toNat 0)), (15, I x131), (16, I x132), (26, B (!((x129.getD x132.toNat (Ty.dflt Y40)).2.2.2.2.2.1)))], [ar 0 Y40 x129 .dp, ar 0 (.int .i64) x130 .dp]⟩) (φ := True ∧ True ∧ True ∧ (x132.toNat < x129.length) ∧ True ∧ True) (by kernel_rfl) ⟨trivial, trivial, trivial, g181, trivial, trivial⟩ ?_
            refine VO.nil ?_
            show VW _ _ _ _ _ _ _
            refine VW.cond (b := (!((x129.getD x132.toNat (Ty.dflt Y40)).2.2.2.2.2.1))) (by kernel_rfl) (fun hb => ?_) (fun hb => ?_)
            · replace h := cond_t h hb; clear hb
              refine VW.exit ?_
              exact arrive [.ren [4, 5, 15, 16] [0, 1]] (by kernel_rfl) ⟨x129, x130, rfl, h⟩
            · replace h := cond_f h hb; clear hb
              refine VW.skip ?_
              show VW _ _ _ _ _ _ _
              refine VW.seq ?_
              refine VW.region ?_
              obtain ⟨g182, h⟩ := gd_some h
              refine VO.seg T_ok .dp 5 [4, 5, 7, 15, 16, 27, 31] [0, 1] (s' := ⟨[(4, .lf (.hd 0 0 none)), (5, .lf (.hd 1 0 none)), (7, .lf (.ptr 0 0 x132.toNat 0)), (15, I x131), (16, I x132), (27, .lf (.hd 1 0 none)), (31, I ((x129.getD x132.toNat (Ty.dflt Y40)).2.2.2.2.1))], [ar 0 Y40 x129 .dp, ar 0 (.int .i64) x130 .dp]⟩) (φ := True ∧ True ∧ True ∧ True ∧ (x132.toNat < x129.length) ∧ True) (by kernel_rfl) ⟨trivial, trivial, trivial, trivial, g182, trivial⟩ ?_
              obtain ⟨y183, hy, h⟩ := andO_some h
              refine VO.call true [.t (.sl (.int .i64)), .t (.int .i64)] [] T_ok (d := some 32) (by kernel_rfl) (ok30 N _ _ hy) rfl ?_
              refine VO.seg T_ok .dp 1 [4, 5, 7, 8, 15, 16] [0, 1] (s' := ⟨[(4, .lf (.hd 0 0 none)), (5, .lf (.hd 1 0 none)), (7, .lf (.ptr 0 0 x132.toNat 0)), (8, I y183), (15, I x131), (16, I x132)], [ar 0 Y40 x129 .dp, ar 0 (.int .i64) x130 .dp]⟩) (φ := True ∧ True) (by kernel_rfl) ⟨trivial, trivial⟩ ?_
              refine VO.nil ?_
              show VW _ _ _ _ _ _ _
              refine VW.join (fun s => ∃ (x186 : (List Int)) (x187 : Int), s = ⟨[(4, .lf (.hd 0 0 none)), (5, .lf (.hd 1 0 none)), (7, .lf (.ptr 0 0 x132.toNat 0)), (8, I x187), (15, I x131), (16, I x132)], [ar 0 Y40 x129 .dp, ar 0 (.int .i64) x186 .dp]⟩ ∧ F17_j2 N (F17_l0 N k162) x129 x131 x132 x186 x187 = some r) ?_ ?_
              · refine VW.seq ?_
                refine VW.region ?_
                refine VO.seg T_ok .dp 2 [4, 5, 7, 8, 15, 16, 34] [0, 1] (s' := ⟨[(4, .lf (.hd 0 0 none)), (5, .lf (.hd 1 0 none)), (7, .lf (.ptr 0 0 x132.toNat 0)), (8, I y183), (15, I x131), (16, I x132), (34, B (decide (y183 < (0 : Int))))], [ar 0 Y40 x129 .dp, ar 0 (.int .i64) x130 .dp]⟩) (φ := True ∧ True ∧ True) (by kernel_rfl) ⟨trivial, trivial, trivial⟩ ?_
                refine VO.nil ?_
                show VW _ _ _ _ _ _ _
                refine VW.cond (b := (decide (y183 < (0 : Int)))) (by kernel_rfl) (fun hb => ?_) (fun hb => ?_)
                · replace h := cond_t h hb; clear hb
                  refine VW.seq ?_
                  refine VW.region ?_
                  refine VO.seg T_ok .dp 3 [4, 5, 7, 8, 15, 16] [0, 1] (s' := ⟨[(4, .lf (.hd 0 0 none)), (5, .lf (.hd 1 0 none)), (7, .lf (.ptr 0 0 x132.toNat 0)), (8, I (x130.length : Int)), (15, I x131), (16, I x132)], [ar 0 Y40 x129 .dp, ar 0 (.int .i64) x130 .dp]⟩) (φ := True ∧ True ∧ True ∧ True) (by kernel_rfl) ⟨trivial, trivial, trivial, trivial⟩ ?_
                  refine VO.nil ?_
                  show VW _ _ _ _ _ _ _
                  refine VW.region ?_
                  obtain ⟨g190, h⟩ := gd_some h
                  obtain ⟨g191, h⟩ := gd_some h
                  refine VO.seg T_ok .dp 8 [4, 5, 7, 8, 15, 16] [0, 1] (s' := ⟨[(4, .lf (.hd 0 0 none)), (5, .lf (.hd 1 0 none)), (7, .lf (.ptr 0 0 x132.toNat 0)), (8, I (x130.length : Int)), (15, I x131), (16, I x132)], [ar 0 Y40 x129 .dp, ar 0 (.int .i64) (x130 ++ ([(x129.getD x132.toNat (Ty.dflt Y40)).2.2.2.2.1])) .dp]⟩) (φ := True ∧ True ∧ True ∧ True ∧ (x132.toNat < x129.length) ∧ True ∧ (x130.length + ([(x129.getD x132.toNat (Ty.dflt Y40)).2.2.2.2.1]).length ≤ lim (.int .i64)) ∧ True ∧ True) (by kernel_rfl) ⟨trivial, trivial, trivial, trivial, g190, trivial, g191, trivial, trivial⟩ ?_
                  refine VO.nil ?_
                  exact arrive [.ren [4, 5, 7, 8, 15, 16] [0, 1]] (by kernel_rfl) ⟨(x130 ++ ([(x129.getD x132.toNat (Ty.dflt Y40)).2.2.2.2.1])), (x130.length : Int), rfl, h⟩
                · replace h := cond_f h hb; clear hb
                  refine VW.skip ?_
                  exact arrive [.ren [4, 5, 7, 8, 15, 16] [0, 1]] (by kernel_rfl) ⟨x130, y183, rfl, h⟩
              · rintro s ⟨x186, x187, rfl, h⟩
                unfold F17_j2 at h
                refine VW.region ?_
                obtain ⟨g188, h⟩ := gd_some h
                refine VO.seg T_ok .dp 5 [4, 5, 15, 16] [0, 1] (s' := ⟨[(4, .lf (.hd 0 0 none)), (5, .lf (.hd 1 0 none)), (15, I x131), (16, I x132)], [ar 0 Y40 (x129.set x132.toNat ((x129.getD x132.toNat (Ty.dflt Y40)).1, ((x129.getD x132.toNat (Ty.dflt Y40)).2.1, ((x129.getD x132.toNat (Ty.dflt Y40)).2.2.1, ((x129.getD x132.toNat (Ty.dflt Y40)).2.2.2.1, (x187, ((x129.getD x132.toNat (Ty.dflt Y40)).2.2.2.2.2.1, (x129.getD x132.toNat (Ty.dflt Y40)).2.2.2.2.2.2))))))) .dp, ar 0 (.int .i64) x186 .dp]⟩) (φ := True ∧ True ∧ True ∧ True ∧ (x132.toNat < x129.length) ∧ True) (by kernel_rfl) ⟨trivial, trivial, trivial, trivial, g188, trivial⟩ ?_
                refine VO.nil ?_
                exact arrive [.ren [4, 5, 15, 16] [0, 1]] (by kernel_rfl) ⟨(x129.set x132.toNat ((x129.getD x132.toNat (Ty.dflt Y40)).1, ((x129.getD x132.toNat (Ty.dflt Y40)).2.1, ((x129.getD x132.toNat (Ty.dflt Y40)).2.2.1, ((x129.getD x132.toNat (Ty.dflt Y40)).2.2.2.1, (x187, ((x129.getD x132.toNat (Ty.dflt Y40)).2.2.2.2.2.1, (x129.getD x132.toNat (Ty.dflt Y40)).2.2.2.2.2.2))))))), x186, rfl, h⟩
          · rintro s ⟨x176, x177, rfl, h⟩
            unfold F17_j1 at h
            refine VW.region ?_
            refine VO.seg T_ok .dp 2 [4, 5, 15, 16] [0, 1] (s' := ⟨[(4, .lf (.hd 0 0 none)), (5, .lf (.hd 1 0 none)), (15, I x131), (16, I (IntKind.i64.wrap (x132 + (1 : Int))))], [ar 0 Y40 x176 .dp, ar 0 (.int .i64) x177 .dp]⟩) (φ := True ∧ True ∧ True) (by kernel_rfl) ⟨trivial, trivial, trivial⟩ ?_
            refine VO.nil ?_
            exact around [.ren [4, 5, 15, 16] [0, 1]] (by kernel_rfl) ⟨x176, x177, x131, (IntKind.i64.wrap (x132 + (1 : Int))), rfl, h⟩
        · replace h := cond_f h hb; clear hb
          refine VW.exit ?_
          exact arrive [.ren [4] [0]] (by kernel_rfl) ⟨x129, rfl, h⟩
    · rintro s ⟨x97, rfl, h⟩
      unfold F17_j0 at h
      refine VW.seq ?_
      refine VW.region ?_
      refine VO.seg T_ok .dp 3 [2, 3] [0] (s' := ⟨[(2, .lf (.hd 0 0 none)), (3, B true)], [ar 0 Y40 x97 .dp]⟩) (φ := True ∧ True ∧ True ∧ True) (by kernel_rfl) ⟨trivial, trivial, trivial, trivial⟩ ?_
      refine VO.nil ?_
      show VW _ _ _ _ _ _ _
      refine VW.ret ?_
      replace h := Option.some.inj h
      subst h
      exact retR [some 0] (by kernel_rfl) rfl

/- loop.example/g00844/laws.FnExactRenumber -/
def F4 (N : Nat) (a0 : (List (Int × (ByteArray × (Int × (Int × (Int × (Bool × (List Int))))))))) : Option (Bool) :=
  andO (F6 N a0 (1048576 : Int)) fun y1 => cond (decide (y1 < (0 : Int))) (some true) (andO (F8 N a0) fun y2 => andO (F16 N y2) fun y3 => andO (F8 N a0) fun y4 => andO (F17 N y4) fun y5 => andO (F11 N y5.1 y3.1) fun y7 => cond (!y7) (some false) (cond (!(y5.2 == y3.2)) (some false) (andO (F8 N a0) fun y10 => andO (F11 N y4 y10) fun y11 => cond (!y11) (some false) (andO (F13 N y4 (1 : Int)) fun y12 => cond (decide (y12.2 < (0 : Int))) (some false) (andO (F11 N y5.1 y3.1) fun y14 => cond (!y14) (some false) (cond (!(y5.2 == y3.2)) (some false) (andO (F13 N y5.1 (1 : Int)) fun y15 => andO (F15 N y15.1 (1 : Int)) fun y16 => cond (decide (y16 < (0 : Int))) (some false) (cond (y16 != y15.2) (some false) (andO (F8 N a0) fun y17 => andO (F17 N y17) fun y18 => andO (F11 N y18.1 y3.1) fun y20 => cond (!y20) (some false) (cond (!(y18.2 == y3.2)) (some false) (andO (F15 N y15.1 (1 : Int)) fun y21 => cond (decide (y21 < (0 : Int))) (some false) (cond (y21 != y15.2) (some false) (some true)))))))))))))
theorem ok4 (N : Nat) (a0 : (List (Int × (ByteArray × (Int × (Int × (Int × (Bool × (List Int))))))))) {r : Bool} (h : F4 N a0 = some r) : Con Go.Proofs.Try.prog 4 [.lf (.v (.sl Y40) a0)] [.lf (.v .bool r)] := by
  refine ⟨enters_of Go.Proofs.Try.func4 rfl (by decide), HC.intro [.lf (.v .bool)] T_ok Go.Proofs.Try.func4 rfl (Nat.le_of_ble_eq_true rfl) (Nat.le_of_ble_eq_true rfl) fun w0 E0 => ?_⟩
  unfold F4 at h
  show VW _ _ _ _ _ (retQ _ _ _ _) _
  refine VW.seq ?_
  refine VW.region ?_
  refine VO.seg T_ok .dp 1 [0] [] (s' := ⟨[(0, .lf (.v (.sl Y40) a0))], []⟩) (φ := True ∧ True) (by kernel_rfl) ⟨trivial, trivial⟩ ?_
  refine VO.nil ?_
  show VW _ _ _ _ _ _ _
  refine VW.seq ?_
  refine VW.region ?_
  refine VO.seg T_ok .dp 1 [0, 3] [] (s' := ⟨[(0, .lf (.v (.sl Y40) a0)), (3, I (1048576 : Int))], []⟩) (φ := True ∧ True) (by kernel_rfl) ⟨trivial, trivial⟩ ?_
  refine VO.nil ?_
  show VW _ _ _ _ _ _ _
  refine VW.seq ?_
  refine VW.region ?_
  refine VO.seg T_ok .dp 2 [0, 14, 15] [] (s' := ⟨[(0, .lf (.v (.sl Y40) a0)), (14, .lf (.v (.sl Y40) a0)), (15, I (1048576 : Int))], []⟩) (φ := True ∧ True ∧ True) (by kernel_rfl) ⟨trivial, trivial, trivial⟩ ?_
  obtain ⟨y1, hy, h⟩ := andO_some h
  refine VO.call false [.t (.sl Y40), .t (.int .i64)] [] T_ok (d := some 16) (by kernel_rfl) (ok6 N _ _ hy) rfl ?_
  refine VO.seg T_ok .dp 1 [0, 3] [] (s' := ⟨[(0, .lf (.v (.sl Y40) a0)), (3, I y1)], []⟩) (φ := True ∧ True) (by kernel_rfl) ⟨trivial, trivial⟩ ?_
  refine VO.nil ?_
  show VW _ _ _ _ _ _ _
  refine VW.seq ?_
  refine VW.seq ?_
  refine VW.region ?_
  refine VO.seg T_ok .dp 2 [0, 18] [] (s' := ⟨[(0, .lf (.v (.sl Y40) a0)), (18, B (decide (y1 < (0 : Int))))], []⟩) (φ := True ∧ True ∧ True) (by kernel_rfl) ⟨trivial, trivial, trivial⟩ ?_
  refine VO.nil ?_
  show VW _ _ _ _ _ _ _
  refine VW.cond (b := (decide (y1 < (0 : Int)))) (by kernel_rfl) (fun hb => ?_) (fun hb => ?_)
  · replace h := cond_t h hb; clear hb
    refine VW.seq ?_
    refine VW.region ?_
    refine VO.seg T_ok .dp 1 [2] [] (s' := ⟨[(2, B true)], []⟩) (φ := True ∧ True) (by kernel_rfl) ⟨trivial, trivial⟩ ?_
    refine VO.nil ?_
    show VW _ _ _ _ _ _ _
    refine VW.ret ?_
    replace h := Option.some.inj h
    subst h
    exact retR [] (by kernel_rfl) rfl
  · replace h := cond_f h hb; clear hb
    refine VW.skip ?_
    show VW _ _ _ _ _ _ _
    refine VW.seq ?_
    refine VW.region ?_
    refine VO.seg T_ok .dp 1 [0, 20] [] (s' := ⟨[(0, .lf (.v (.sl Y40) a0)), (20, .lf (.v (.sl Y40) a0))], []⟩) (φ := True ∧ True) (by kernel_rfl) ⟨trivial, trivial⟩ ?_
    obtain ⟨y2, hy, h⟩ := andO_some h
    refine VO.call false [.t (.sl Y40)] [] T_ok (d := some 21) (by kernel_rfl) (ok8 N _ hy) rfl ?_
    obtain ⟨y3, hy, h⟩ := andO_some h
    refine VO.call true [.t (.sl Y40)] [] T_ok (d := some 22) (by kernel_rfl) (ok16 N _ hy) rfl ?_
    refine VO.seg T_ok .dp 5 [0, 4, 5] [1] (s' := ⟨[(0, .lf (.v (.sl Y40) a0)), (4, .lf (.hd 0 0 none)), (5, B y3.2)], [ar 0 Y40 y3.1 .dp]⟩) (φ := True ∧ True ∧ True ∧ True ∧ True ∧ True) (by kernel_rfl) ⟨trivial, trivial, trivial, trivial, trivial, trivial⟩ ?_
    refine VO.nil ?_
    show VW _ _ _ _ _ _ _
    refine VW.seq ?_
    refine VW.region ?_
    refine VO.seg T_ok .dp 1 [0, 4, 5, 25] [0] (s' := ⟨[(0, .lf (.v (.sl Y40) a0)), (4, .lf (.hd 0 0 none)), (5, B y3.2), (25, .lf (.v (.sl Y40) a0))], [ar 0 Y40 y3.1 .dp]⟩) (φ := True ∧ True) (by kernel_rfl) ⟨trivial, trivial⟩ ?_
    obtain ⟨y4, hy, h⟩ := andO_some h
    refine VO.call false [.t (.sl Y40)] [] T_ok (d := some 26) (by kernel_rfl) (ok8 N _ hy) rfl ?_
    refine VO.seg T_ok .dp 1 [0, 4, 5, 6] [0, 1] (s' := ⟨[(0, .lf (.v (.sl Y40) a0)), (4, .lf (.hd 0 0 none)), (5, B y3.2), (6, .lf (.hd 1 0 none))], [ar 0 Y40 y3.1 .dp, ar 0 Y40 y4 .dp]⟩) (φ := True ∧ True) (by kernel_rfl) ⟨trivial, trivial⟩ ?_
    refine VO.nil ?_
    show VW _ _ _ _ _ _ _
    refine VW.seq ?_
    refine VW.region ?_
    refine VO.seg T_ok .dp 1 [0, 4, 5, 6, 28] [0, 1] (s' := ⟨[(0, .lf (.v (.sl Y40) a0)), (4, .lf (.hd 0 0 none)), (5, B y3.2), (6, .lf (.hd 1 0 none)), (28, .lf (.hd 1 0 none))], [ar 0 Y40 y3.1 .dp, ar 0 Y40 y4 .dp]⟩) (φ := True ∧ True) (by kernel_rfl) ⟨trivial, trivial⟩ ?_
    obtain ⟨y5, hy, h⟩ := andO_some h
    refine VO.call true [.t (.sl Y40)] [] T_ok (d := some 29) (by kernel_rfl) (ok17 N _ hy) rfl ?_
    refine VO.seg T_ok .dp 5 [0, 4, 5, 6, 7, 8] [0, 1, 2] (s' := ⟨[(0, .lf (.v (.sl Y40) a0)), (4, .lf (.hd 0 0 none)), (5, B y3.2), (6, .lf (.hd 1 0 none)), (7, .lf (.hd 2 0 none)), (8, B y5.2)], [ar 0 Y40 y3.1 .dp, ar 0 Y40 y4 .dp, ar 0 Y40 y5.1 .dp]⟩) (φ := True ∧ True ∧ True ∧ True ∧ True ∧ True) (by kernel_rfl) ⟨trivial, trivial, trivial, trivial, trivial, trivial⟩ ?_
    refine VO.nil ?_
    show VW _ _ _ _ _ _ _
    refine VW.seq ?_
    refine VW.seq ?_
    refine VW.region ?_
    refine VO.seg T_ok .dp 2 [0, 4, 5, 6, 7, 8, 32, 33] [0, 1, 2] (s' := ⟨[(0, .lf (.v (.sl Y40) a0)), (4, .lf (.hd 0 0 none)), (5, B y3.2), (6, .lf (.hd 1 0 none)), (7, .lf (.hd 2 0 none)), (8, B y5.2), (32, .lf (.hd 2 0 none)), (33, .lf (.hd 0 0 none))], [ar 0 Y40 y3.1 .dp, ar 0 Y40 y4 .dp, ar 0 Y40 y5.1 .dp]⟩) (φ := True ∧ True ∧ True) (by kernel_rfl) ⟨trivial, trivial, trivial⟩ ?_
    obtain ⟨y7, hy, h⟩ := andO_some h
    refine VO.call true [.t (.sl Y40), .t (.sl Y40)] [] T_ok (d := some 34) (by kernel_rfl) (ok11 N _ _ hy) rfl ?_
    refine VO.seg T_ok .dp 2 [0, 4, 5, 6, 7, 8, 36] [0, 1, 2] (s' := ⟨[(0, .lf (.v (.sl Y40) a0)), (4, .lf (.hd 0 0 none)), (5, B y3.2), (6, .lf (.hd 1 0 none)), (7, .lf (.hd 2 0 none)), (8, B y5.2), (36, B (!y7))], [ar 0 Y40 y3.1 .dp, ar 0 Y40 y4 .dp, ar 0 Y40 y5.1 .dp]⟩) (φ := True ∧ True ∧ True) (by kernel_rfl) ⟨trivial, trivial, trivial⟩ ?_
    refine VO.splitB 36 (b := (!y7)) (by kernel_rfl) (fun hb => ?_) (fun hb => ?_)
    · replace h := cond_t h hb; clear hb
      refine VO.seg T_ok .dp 4 [0, 4, 5, 6, 7, 8, 40] [0, 1, 2] (s' := ⟨[(0, .lf (.v (.sl Y40) a0)), (4, .lf (.hd 0 0 none)), (5, B y3.2), (6, .lf (.hd 1 0 none)), (7, .lf (.hd 2 0 none)), (8, B y5.2), (40, B true)], [ar 0 Y40 y3.1 .dp, ar 0 Y40 y4 .dp, ar 0 Y40 y5.1 .dp]⟩) (φ := True ∧ True ∧ True ∧ True ∧ True) (by kernel_rfl) ⟨trivial, trivial, trivial, trivial, trivial⟩ ?_
      refine VO.nil ?_
      show VW _ _ _ _ _ _ _
      refine VW.cond (b := true) (by kernel_rfl) (fun _ => ?_) (fun h' => nomatch h')
      refine VW.seq ?_
      refine VW.region ?_
      refine VO.seg T_ok .dp 1 [2] [] (s' := ⟨[(2, B false)], []⟩) (φ := True ∧ True) (by kernel_rfl) ⟨trivial, trivial⟩ ?_
      refine VO.nil ?_
      show VW _ _ _ _ _ _ _
      refine VW.ret ?_
      replace h := Option.some.inj h
      subst h
      exact retR [] (by kernel_rfl) rfl
    · replace h := cond_f h hb; clear hb
      refine VO.seg T_ok .dp 4 [0, 4, 5, 6, 7, 8, 40] [0, 1, 2] (s' := ⟨[(0, .lf (.v (.sl Y40) a0)), (4, .lf (.hd 0 0 none)), (5, B y3.2), (6, .lf (.hd 1 0 none)), (7, .lf (.hd 2 0 none)), (8, B y5.2), (40, B (!(y5.2 == y3.2)))], [ar 0 Y40 y3.1 .dp, ar 0 Y40 y4 .dp, ar 0 Y40 y5.1 .dp]⟩) (φ := True ∧ True ∧ True ∧ True ∧ True) (by kernel_rfl) ⟨trivial, trivial, trivial, trivial, trivial⟩ ?_
      refine VO.nil ?_
      show VW _ _ _ _ _ _ _
      refine VW.cond (b := (!(y5.2 == y3.2))) (by kernel_rfl) (fun hb => ?_) (fun hb => ?_)
      · replace h := cond_t h hb; clear hb
        refine VW.seq ?_
        refine VW.region ?_
        refine VO.seg T_ok .dp 1 [2] [] (s' := ⟨[(2, B false)], []⟩) (φ := True ∧ True) (by kernel_rfl) ⟨trivial, trivial⟩ ?_
        refine VO.nil ?_
        show VW _ _ _ _ _ _ _
        refine VW.ret ?_
        replace h := Option.some.inj h
        subst h
        exact retR [] (by kernel_rfl) rfl
      · replace h := cond_f h hb; clear hb
        refine VW.skip ?_
        show VW _ _ _ _ _ _ _
        refine VW.seq ?_
        refine VW.seq ?_
        refine VW.region ?_
        refine VO.seg T_ok .dp 2 [0, 4, 5, 6, 7, 8, 41, 42] [0, 1, 2] (s' := ⟨[(0, .lf (.v (.sl Y40) a0)), (4, .lf (.hd 0 0 none)), (5, B y3.2), (6, .lf (.hd 1 0 none)), (7, .lf (.hd 2 0 none)), (8, B y5.2), (41, .lf (.hd 1 0 none)), (42, .lf (.v (.sl Y40) a0))], [ar 0 Y40 y3.1 .dp, ar 0 Y40 y4 .dp, ar 0 Y40 y5.1 .dp]⟩) (φ := True ∧ True ∧ True) (by kernel_rfl) ⟨trivial, trivial, trivial⟩ ?_
        obtain ⟨y10, hy, h⟩ := andO_some h
        refine VO.call false [.t (.sl Y40)] [] T_ok (d := some 43) (by kernel_rfl) (ok8 N _ hy) rfl ?_
        obtain ⟨y11, hy, h⟩ := andO_some h
        refine VO.call true [.t (.sl Y40), .t (.sl Y40)] [] T_ok (d := some 44) (by kernel_rfl) (ok11 N _ _ hy) rfl ?_
        refine VO.seg T_ok .dp 1 [0, 4, 5, 6, 7, 8, 45] [0, 1, 2] (s' := ⟨[(0, .lf (.v (.sl Y40) a0)), (4, .lf (.hd 0 0 none)), (5, B y3.2), (6, .lf (.hd 1 0 none)), (7, .lf (.hd 2 0 none)), (8, B y5.2), (45, B (!y11))], [ar 0 Y40 y3.1 .dp, ar 0 Y40 y4 .dp, ar 0 Y40 y5.1 .dp]⟩) (φ := True ∧ True) (by kernel_rfl) ⟨trivial, trivial⟩ ?_
        refine VO.nil ?_
        show VW _ _ _ _ _ _ _
        refine VW.cond (b := (!y11)) (by kernel_rfl) (fun hb => ?_) (fun hb => ?_)
        · replace h := cond_t h hb; clear hb
          refine VW.seq ?_
          refine VW.region ?_
          refine VO.seg T_ok .dp 1 [2] [] (s' := ⟨[(2, B false)], []⟩) (φ := True ∧ True) (by kernel_rfl) ⟨trivial, trivial⟩ ?_
          refine VO.nil ?_
          show VW _ _ _ _ _ _ _
          refine VW.ret ?_
          replace h := Option.some.inj h
          subst h
          exact retR [] (by kernel_rfl) rfl
        · replace h := cond_f h hb; clear hb
          refine VW.skip ?_
          show VW _ _ _ _ _ _ _
          refine VW.seq ?_
          refine VW.region ?_
          refine VO.seg T_ok .dp 1 [0, 4, 5, 6, 7, 8, 9] [0, 1, 2] (s' := ⟨[(0, .lf (.v (.sl Y40) a0)), (4, .lf (.hd 0 0 none)), (5, B y3.2), (6, .lf (.hd 1 0 none)), (7, .lf (.hd 2 0 none)), (8, B y5.2), (9, I (1 : Int))], [ar 0 Y40 y3.1 .dp, ar 0 Y40 y4 .dp, ar 0 Y40 y5.1 .dp]⟩) (φ := True ∧ True) (by kernel_rfl) ⟨trivial, trivial⟩ ?_
          refine VO.nil ?_
          show VW _ _ _ _ _ _ _
          refine VW.seq ?_
          refine VW.region ?_
          refine VO.seg T_ok .dp 2 [0, 4, 5, 7, 8, 46, 47] [0, 2, 1] (s' := ⟨[(0, .lf (.v (.sl Y40) a0)), (4, .lf (.hd 0 0 none)), (5, B y3.2), (7, .lf (.hd 1 0 none)), (8, B y5.2), (46, .lf (.hd 2 0 none)), (47, I (1 : Int))], [ar 0 Y40 y3.1 .dp, ar 0 Y40 y5.1 .dp, ar 0 Y40 y4 .dp]⟩) (φ := True ∧ True ∧ True) (by kernel_rfl) ⟨trivial, trivial, trivial⟩ ?_
          obtain ⟨y12, hy, h⟩ := andO_some h
          refine VO.callM [2] [.t (.sl Y40), .t (.int .i64)] (d := some 48) (by kernel_rfl) (by kernel_rfl) (ok13 N _ _ hy) (by kernel_rfl) ?_
          refine VO.seg T_ok .dp 1 [0, 4, 5, 7, 8, 9] [0, 1] (s' := ⟨[(0, .lf (.v (.sl Y40) a0)), (4, .lf (.hd 0 0 none)), (5, B y3.2), (7, .lf (.hd 1 0 none)), (8, B y5.2), (9, I y12.2)], [ar 0 Y40 y3.1 .dp, ar 0 Y40 y5.1 .dp]⟩) (φ := True ∧ True) (by kernel_rfl) ⟨trivial, trivial⟩ ?_
          refine VO.nil ?_
          show VW _ _ _ _ _ _ _
          refine VW.seq ?_
          refine VW.seq ?_
          refine VW.region ?_
          refine VO.seg T_ok .dp 3 [0, 4, 5, 7, 8, 51] [0, 1] (s' := ⟨[(0, .lf (.v (.sl Y40) a0)), (4, .lf (.hd 0 0 none)), (5, B y3.2), (7, .lf (.hd 1 0 none)), (8, B y5.2), (51, B (decide (y12.2 < (0 : Int))))], [ar 0 Y40 y3.1 .dp, ar 0 Y40 y5.1 .dp]⟩) (φ := True ∧ True ∧ True ∧ True) (by kernel_rfl) ⟨trivial, trivial, trivial, trivial⟩ ?_
          refine VO.splitB 51 (b := (decide (y12.2 < (0 : Int)))) (by kernel_rfl) (fun hb => ?_) (fun hb => ?_)
          · replace h := cond_t h hb; clear hb
            refine VO.seg T_ok .dp 10 [0, 4, 5, 7, 61] [0, 1] (s' := ⟨[(0, .lf (.v (.sl Y40) a0)), (4, .lf (.hd 0 0 none)), (5, B y3.2), (7, .lf (.hd 1 0 none)), (61, B true)], [ar 0 Y40 y3.1 .dp, ar 0 Y40 y5.1 .dp]⟩) (φ := True ∧ True ∧ True ∧ True ∧ True ∧ True ∧ True ∧ True ∧ True ∧ True ∧ True) (by kernel_rfl) ⟨trivial, trivial, trivial, trivial, trivial, trivial, trivial, trivial, trivial, trivial, trivial⟩ ?_
            refine VO.nil ?_
            show VW _ _ _ _ _ _ _
            refine VW.cond (b := true) (by kernel_rfl) (fun _ => ?_) (fun h' => nomatch h')
            refine VW.seq ?_
            refine VW.region ?_
            refine VO.seg T_ok .dp 1 [2] [] (s' := ⟨[(2, B false)], []⟩) (φ := True ∧ True) (by kernel_rfl) ⟨trivial, trivial⟩ ?_
            refine VO.nil ?_
            show VW _ _ _ _ _ _ _
            refine VW.ret ?_
            replace h := Option.some.inj h
            subst h
            exact retR [] (by kernel_rfl) rfl
          · replace h := cond_f h hb; clear hb
            refine VO.seg T_ok .dp 2 [0, 4, 5, 7, 8, 51, 52, 53] [0, 1] (s' := ⟨[(0, .lf (.v (.sl Y40) a0)), (4, .lf (.hd 0 0 none)), (5, B y3.2), (7, .lf (.hd 1 0 none)), (8, B y5.2), (51, B false), (52, .lf (.hd 1 0 none)), (53, .lf (.hd 0 0 none))], [ar 0 Y40 y3.1 .dp, ar 0 Y40 y5.1 .dp]⟩) (φ := True ∧ True ∧ True) (by kernel_rfl) ⟨trivial, trivial, trivial⟩ ?_
            refine VO.on (j := 2) (want := false) (d := 51) (b := false) rfl rfl rfl (by kernel_rfl) rfl ?_
            obtain ⟨y14, hy, h⟩ := andO_some h
            refine VO.call true [.t (.sl Y40), .t (.sl Y40)] [] T_ok (d := some 54) (by kernel_rfl) (ok11 N _ _ hy) rfl ?_
            refine VO.seg T_ok .dp 3 [0, 4, 5, 7, 8, 57] [0, 1] (s' := ⟨[(0, .lf (.v (.sl Y40) a0)), (4, .lf (.hd 0 0 none)), (5, B y3.2), (7, .lf (.hd 1 0 none)), (8, B y5.2), (57, B (!y14))], [ar 0 Y40 y3.1 .dp, ar 0 Y40 y5.1 .dp]⟩) (φ := True ∧ True ∧ True ∧ True) (by kernel_rfl) ⟨trivial, trivial, trivial, trivial⟩ ?_
            refine VO.splitB 57 (b := (!y14)) (by kernel_rfl) (fun hb => ?_) (fun hb => ?_)
            · replace h := cond_t h hb; clear hb
              refine VO.seg T_ok .dp 4 [0, 4, 5, 7, 61] [0, 1] (s' := ⟨[(0, .lf (.v (.sl Y40) a0)), (4, .lf (.hd 0 0 none)), (5, B y3.2), (7, .lf (.hd 1 0 none)), (61, B true)], [ar 0 Y40 y3.1 .dp, ar 0 Y40 y5.1 .dp]⟩) (φ := True ∧ True ∧ True ∧ True ∧ True) (by kernel_rfl) ⟨trivial, trivial, trivial, trivial, trivial⟩ ?_
              refine VO.nil ?_
              show VW _ _ _ _ _ _ _
              refine VW.cond (b := true) (by kernel_rfl) (fun _ => ?_) (fun h' => nomatch h')
              refine VW.seq ?_
              refine VW.region ?_
              refine VO.seg T_ok .dp 1 [2] [] (s' := ⟨[(2, B false)], []⟩) (φ := True ∧ True) (by kernel_rfl) ⟨trivial, trivial⟩ ?_
              refine VO.nil ?_
              show VW _ _ _ _ _ _ _
              refine VW.ret ?_
              replace h := Option.some.inj h
              subst h
              exact retR [] (by kernel_rfl) rfl
            · replace h := cond_f h hb; clear hb
              refine VO.seg T_ok .dp 4 [0, 4, 5, 7, 61] [0, 1] (s' := ⟨[(0, .lf (.v (.sl Y40) a0)), (4, .lf (.hd 0 0 none)), (5, B y3.2), (7, .lf (.hd 1 0 none)), (61, B (!(y5.2 == y3.2)))], [ar 0 Y40 y3.1 .dp, ar 0 Y40 y5.1 .dp]⟩) (φ := True ∧ True ∧ True ∧ True ∧ True) (by kernel_rfl) ⟨trivial, trivial, trivial, trivial, trivial⟩ ?_
              refine VO.nil ?_
              show VW _ _ _ _ _ _ _
              refine VW.cond (b := (!(y5.2 == y3.2))) (by kernel_rfl) (fun hb => ?_) (fun hb => ?_)
              · replace h := cond_t h hb; clear hb
                refine VW.seq ?_
                refine VW.region ?_
                refine VO.seg T_ok .dp 1 [2] [] (s' := ⟨[(2, B false)], []⟩) (φ := True ∧ True) (by kernel_rfl) ⟨trivial, trivial⟩ ?_
                refine VO.nil ?_
                show VW _ _ _ _ _ _ _
                refine VW.ret ?_
                replace h := Option.some.inj h
                subst h
                exact retR [] (by kernel_rfl) rfl
              · replace h := cond_f h hb; clear hb
                refine VW.skip ?_
                show VW _ _ _ _ _ _ _
                refine VW.seq ?_
                refine VW.region ?_
                refine VO.seg T_ok .dp 1 [0, 4, 5, 7, 10] [0, 1] (s' := ⟨[(0, .lf (.v (.sl Y40) a0)), (4, .lf (.hd 0 0 none)), (5, B y3.2), (7, .lf (.hd 1 0 none)), (10, I (1 : Int))], [ar 0 Y40 y3.1 .dp, ar 0 Y40 y5.1 .dp]⟩) (φ := True ∧ True) (by kernel_rfl) ⟨trivial, trivial⟩ ?_
                refine VO.nil ?_
                show VW _ _ _ _ _ _ _
                refine VW.seq ?_
                refine VW.region ?_
                refine VO.seg T_ok .dp 2 [0, 4, 5, 7, 62, 63] [0, 1] (s' := ⟨[(0, .lf (.v (.sl Y40) a0)), (4, .lf (.hd 0 0 none)), (5, B y3.2), (7, .lf (.hd 1 0 none)), (62, .lf (.hd 1 0 none)), (63, I (1 : Int))], [ar 0 Y40 y3.1 .dp, ar 0 Y40 y5.1 .dp]⟩) (φ := True ∧ True ∧ True) (by kernel_rfl) ⟨trivial, trivial, trivial⟩ ?_
                obtain ⟨y15, hy, h⟩ := andO_some h
                refine VO.callM [1] [.t (.sl Y40), .t (.int .i64)] (d := some 64) (by kernel_rfl) (by kernel_rfl) (ok13 N _ _ hy) (by kernel_rfl) ?_
                refine VO.seg T_ok .dp 1 [0, 4, 5, 7, 10] [0, 1] (s' := ⟨[(0, .lf (.v (.sl Y40) a0)), (4, .lf (.hd 0 0 none)), (5, B y3.2), (7, .lf (.hd 1 0 none)), (10, I y15.2)], [ar 0 Y40 y3.1 .dp, ar 0 Y40 y15.1 .dp]⟩) (φ := True ∧ True) (by kernel_rfl) ⟨trivial, trivial⟩ ?_
                refine VO.nil ?_
                show VW _ _ _ _ _ _ _
                refine VW.seq ?_
                refine VW.region ?_
                refine VO.seg T_ok .dp 1 [0, 4, 5, 7, 10, 11] [0, 1] (s' := ⟨[(0, .lf (.v (.sl Y40) a0)), (4, .lf (.hd 0 0 none)), (5, B y3.2), (7, .lf (.hd 1 0 none)), (10, I y15.2), (11, I (1 : Int))], [ar 0 Y40 y3.1 .dp, ar 0 Y40 y15.1 .dp]⟩) (φ := True ∧ True) (by kernel_rfl) ⟨trivial, trivial⟩ ?_
                refine VO.nil ?_
                show VW _ _ _ _ _ _ _
                refine VW.seq ?_
                refine VW.region ?_
                refine VO.seg T_ok .dp 2 [0, 4, 5, 7, 10, 65, 66] [0, 1] (s' := ⟨[(0, .lf (.v (.sl Y40) a0)), (4, .lf (.hd 0 0 none)), (5, B y3.2), (7, .lf (.hd 1 0 none)), (10, I y15.2), (65, .lf (.hd 1 0 none)), (66, I (1 : Int))], [ar 0 Y40 y3.1 .dp, ar 0 Y40 y15.1 .dp]⟩) (φ := True ∧ True ∧ True) (by kernel_rfl) ⟨trivial, trivial, trivial⟩ ?_
                obtain ⟨y16, hy, h⟩ := andO_some h
                refine VO.call true [.t (.sl Y40), .t (.int .i64)] [] T_ok (d := some 67) (by kernel_rfl) (ok15 N _ _ hy) rfl ?_
                refine VO.seg T_ok .dp 1 [0, 4, 5, 7, 10, 11] [0, 1] (s' := ⟨[(0, .lf (.v (.sl Y40) a0)), (4, .lf (.hd 0 0 none)), (5, B y3.2), (7, .lf (.hd 1 0 none)), (10, I y15.2), (11, I y16)], [ar 0 Y40 y3.1 .dp, ar 0 Y40 y15.1 .dp]⟩) (φ := True ∧ True) (by kernel_rfl) ⟨trivial, trivial⟩ ?_
                refine VO.nil ?_
                show VW _ _ _ _ _ _ _
                refine VW.seq ?_
                refine VW.seq ?_
                refine VW.region ?_
                refine VO.seg T_ok .dp 2 [0, 4, 5, 7, 10, 11, 69] [0, 1] (s' := ⟨[(0, .lf (.v (.sl Y40) a0)), (4, .lf (.hd 0 0 none)), (5, B y3.2), (7, .lf (.hd 1 0 none)), (10, I y15.2), (11, I y16), (69, B (decide (y16 < (0 : Int))))], [ar 0 Y40 y3.1 .dp, ar 0 Y40 y15.1 .dp]⟩) (φ := True ∧ True ∧ True) (by kernel_rfl) ⟨trivial, trivial, trivial⟩ ?_
                refine VO.nil ?_
                show VW _ _ _ _ _ _ _
                refine VW.cond (b := (decide (y16 < (0 : Int)))) (by kernel_rfl) (fun hb => ?_) (fun hb => ?_)
                · replace h := cond_t h hb; clear hb
                  refine VW.seq ?_
                  refine VW.region ?_
                  refine VO.seg T_ok .dp 1 [2] [] (s' := ⟨[(2, B false)], []⟩) (φ := True ∧ True) (by kernel_rfl) ⟨trivial, trivial⟩ ?_
                  refine VO.nil ?_
                  show VW _ _ _ _ _ _ _
                  refine VW.ret ?_
                  replace h := Option.some.inj h
                  subst h
                  exact retR [] (by kernel_rfl) rfl
                · replace h := cond_f h hb; clear hb
                  refine VW.skip ?_
                  show VW _ _ _ _ _ _ _
                  refine VW.seq ?_
                  refine VW.seq ?_
                  refine VW.region ?_
                  refine VO.seg T_ok .dp 3 [0, 4, 5, 7, 10, 72] [0, 1] (s' := ⟨[(0, .lf (.v (.sl Y40) a0)), (4, .lf (.hd 0 0 none)), (5, B y3.2), (7, .lf (.hd 1 0 none)), (10, I y15.2), (72, B (y16 != y15.2))], [ar 0 Y40 y3.1 .dp, ar 0 Y40 y15.1 .dp]⟩) (φ := True ∧ True ∧ True ∧ True) (by kernel_rfl) ⟨trivial, trivial, trivial, trivial⟩ ?_
                  refine VO.nil ?_
                  show VW _ _ _ _ _ _ _
                  refine VW.cond (b := (y16 != y15.2)) (by kernel_rfl) (fun hb => ?_) (fun hb => ?_)
                  · replace h := cond_t h hb; clear hb
                    refine VW.seq ?_
                    refine VW.region ?_
                    refine VO.seg T_ok .dp 1 [2] [] (s' := ⟨[(2, B false)], []⟩) (φ := True ∧ True) (by kernel_rfl) ⟨trivial, trivial⟩ ?_
                    refine VO.nil ?_
                    show VW _ _ _ _ _ _ _
                    refine VW.ret ?_
                    replace h := Option.some.inj h
                    subst h
                    exact retR [] (by kernel_rfl) rfl
                  · replace h := cond_f h hb; clear hb
                    refine VW.skip ?_
                    show VW _ _ _ _ _ _ _
                    refine VW.seq ?_
                    refine VW.region ?_
                    refine VO.seg T_ok .dp 1 [4, 5, 7, 10, 74] [0, 1] (s' := ⟨[(4, .lf (.hd 0 0 none)), (5, B y3.2), (7, .lf (.hd 1 0 none)), (10, I y15.2), (74, .lf (.v (.sl Y40) a0))], [ar 0 Y40 y3.1 .dp, ar 0 Y40 y15.1 .dp]⟩) (φ := True ∧ True) (by kernel_rfl) ⟨trivial, trivial⟩ ?_
                    obtain ⟨y17, hy, h⟩ := andO_some h
                    refine VO.call false [.t (.sl Y40)] [] T_ok (d := some 75) (by kernel_rfl) (ok8 N _ hy) rfl ?_
                    obtain ⟨y18, hy, h⟩ := andO_some h
                    refine VO.call true [.t (.sl Y40)] [] T_ok (d := some 76) (by kernel_rfl) (ok17 N _ hy) rfl ?_
                    refine VO.seg T_ok .dp 5 [4, 5, 7, 10, 12, 13] [0, 1, 3] (s' := ⟨[(4, .lf (.hd 0 0 none)), (5, B y3.2), (7, .lf (.hd 1 0 none)), (10, I y15.2), (12, .lf (.hd 2 0 none)), (13, B y18.2)], [ar 0 Y40 y3.1 .dp, ar 0 Y40 y15.1 .dp, ar 0 Y40 y18.1 .dp]⟩) (φ := True ∧ True ∧ True ∧ True ∧ True ∧ True) (by kernel_rfl) ⟨trivial, trivial, trivial, trivial, trivial, trivial⟩ ?_
                    refine VO.nil ?_
                    show VW _ _ _ _ _ _ _
                    refine VW.seq ?_
                    refine VW.seq ?_
                    refine VW.region ?_
                    refine VO.seg T_ok .dp 2 [5, 7, 10, 13, 79, 80] [1, 2, 0] (s' := ⟨[(5, B y3.2), (7, .lf (.hd 0 0 none)), (10, I y15.2), (13, B y18.2), (79, .lf (.hd 1 0 none)), (80, .lf (.hd 2 0 none))], [ar 0 Y40 y15.1 .dp, ar 0 Y40 y18.1 .dp, ar 0 Y40 y3.1 .dp]⟩) (φ := True ∧ True ∧ True) (by kernel_rfl) ⟨trivial, trivial, trivial⟩ ?_
                    obtain ⟨y20, hy, h⟩ := andO_some h
                    refine VO.call true [.t (.sl Y40), .t (.sl Y40)] [] T_ok (d := some 81) (by kernel_rfl) (ok11 N _ _ hy) rfl ?_
                    refine VO.seg T_ok .dp 2 [5, 7, 10, 13, 83] [0] (s' := ⟨[(5, B y3.2), (7, .lf (.hd 0 0 none)), (10, I y15.2), (13, B y18.2), (83, B (!y20))], [ar 0 Y40 y15.1 .dp]⟩) (φ := True ∧ True ∧ True) (by kernel_rfl) ⟨trivial, trivial, trivial⟩ ?_
                    refine VO.splitB 83 (b := (!y20)) (by kernel_rfl) (fun hb => ?_) (fun hb => ?_)
                    · replace h := cond_t h hb; clear hb
                      refine VO.seg T_ok .dp 4 [7, 10, 87] [0] (s' := ⟨[(7, .lf (.hd 0 0 none)), (10, I y15.2), (87, B true)], [ar 0 Y40 y15.1 .dp]⟩) (φ := True ∧ True ∧ True ∧ True ∧ True) (by kernel_rfl) ⟨trivial, trivial, trivial, trivial, trivial⟩ ?_
                      refine VO.nil ?_
                      show VW _ _ _ _ _ _ _
                      refine VW.cond (b := true) (by kernel_rfl) (fun _ => ?_) (fun h' => nomatch h')
                      refine VW.seq ?_
                      refine VW.region ?_
                      refine VO.seg T_ok .dp 1 [2] [] (s' := ⟨[(2, B false)], []⟩) (φ := True ∧ True) (by kernel_rfl) ⟨trivial, trivial⟩ ?_
                      refine VO.nil ?_
                      show VW _ _ _ _ _ _ _
                      refine VW.ret ?_
                      replace h := Option.some.inj h
                      subst h
                      exact retR [] (by kernel_rfl) rfl
                    · replace h := cond_f h hb; clear hb
                      refine VO.seg T_ok .dp 4 [7, 10, 87] [0] (s' := ⟨[(7, .lf (.hd 0 0 none)), (10, I y15.2), (87, B (!(y18.2 == y3.2)))], [ar 0 Y40 y15.1 .dp]⟩) (φ := True ∧ True ∧ True ∧ True ∧ True) (by kernel_rfl) ⟨trivial, trivial, trivial, trivial, trivial⟩ ?_
                      refine VO.nil ?_
                      show VW _ _ _ _ _ _ _
                      refine VW.cond (b := (!(y18.2 == y3.2))) (by kernel_rfl) (fun hb => ?_) (fun hb => ?_)
                      · replace h := cond_t h hb; clear hb
                        refine VW.seq ?_
                        refine VW.region ?_
                        refine VO.seg T_ok .dp 1 [2] [] (s' := ⟨[(2, B false)], []⟩) (φ := True ∧ True) (by kernel_rfl) ⟨trivial, trivial⟩ ?_
                        refine VO.nil ?_
                        show VW _ _ _ _ _ _ _
                        refine VW.ret ?_
                        replace h := Option.some.inj h
                        subst h
                        exact retR [] (by kernel_rfl) rfl
                      · replace h := cond_f h hb; clear hb
                        refine VW.skip ?_
                        show VW _ _ _ _ _ _ _
                        refine VW.seq ?_
                        refine VW.region ?_
                        refine VO.seg T_ok .dp 1 [7, 10, 11] [0] (s' := ⟨[(7, .lf (.hd 0 0 none)), (10, I y15.2), (11, I (1 : Int))], [ar 0 Y40 y15.1 .dp]⟩) (φ := True ∧ True) (by kernel_rfl) ⟨trivial, trivial⟩ ?_
                        refine VO.nil ?_
                        show VW _ _ _ _ _ _ _
                        refine VW.seq ?_
                        refine VW.region ?_
                        refine VO.seg T_ok .dp 2 [10, 88, 89] [0] (s' := ⟨[(10, I y15.2), (88, .lf (.hd 0 0 none)), (89, I (1 : Int))], [ar 0 Y40 y15.1 .dp]⟩) (φ := True ∧ True ∧ True) (by kernel_rfl) ⟨trivial, trivial, trivial⟩ ?_
                        obtain ⟨y21, hy, h⟩ := andO_some h
                        refine VO.call true [.t (.sl Y40), .t (.int .i64)] [] T_ok (d := some 90) (by kernel_rfl) (ok15 N _ _ hy) rfl ?_
                        refine VO.seg T_ok .dp 1 [10, 11] [] (s' := ⟨[(10, I y15.2), (11, I y21)], []⟩) (φ := True ∧ True) (by kernel_rfl) ⟨trivial, trivial⟩ ?_
                        refine VO.nil ?_
                        show VW _ _ _ _ _ _ _
                        refine VW.seq ?_
                        refine VW.seq ?_
                        refine VW.region ?_
                        refine VO.seg T_ok .dp 2 [10, 11, 92] [] (s' := ⟨[(10, I y15.2), (11, I y21), (92, B (decide (y21 < (0 : Int))))], []⟩) (φ := True ∧ True ∧ True) (by kernel_rfl) ⟨trivial, trivial, trivial⟩ ?_
                        refine VO.nil ?_
                        show VW _ _ _ _ _ _ _
                        refine VW.cond (b := (decide (y21 < (0 : Int)))) (by kernel_rfl) (fun hb => ?_) (fun hb => ?_)
                        · replace h := cond_t h hb; clear hb
                          refine VW.seq ?_
                          refine VW.region ?_
                          refine VO.seg T_ok .dp 1 [2] [] (s' := ⟨[(2, B false)], []⟩) (φ := True ∧ True) (by kernel_rfl) ⟨trivial, trivial⟩ ?_
                          refine VO.nil ?_
                          show VW _ _ _ _ _ _ _
                          refine VW.ret ?_
                          replace h := Option.some.inj h
                          subst h
                          exact retR [] (by kernel_rfl) rfl
                        · replace h := cond_f h hb; clear hb
                          refine VW.skip ?_
                          show VW _ _ _ _ _ _ _
                          refine VW.seq ?_
                          refine VW.seq ?_
                          refine VW.region ?_
                          refine VO.seg T_ok .dp 3 [95] [] (s' := ⟨[(95, B (y21 != y15.2))], []⟩) (φ := True ∧ True ∧ True ∧ True) (by kernel_rfl) ⟨trivial, trivial, trivial, trivial⟩ ?_
                          refine VO.nil ?_
                          show VW _ _ _ _ _ _ _
                          refine VW.cond (b := (y21 != y15.2)) (by kernel_rfl) (fun hb => ?_) (fun hb => ?_)
                          · replace h := cond_t h hb; clear hb
                            refine VW.seq ?_
                            refine VW.region ?_
                            refine VO.seg T_ok .dp 1 [2] [] (s' := ⟨[(2, B false)], []⟩) (φ := True ∧ True) (by kernel_rfl) ⟨trivial, trivial⟩ ?_
                            refine VO.nil ?_
                            show VW _ _ _ _ _ _ _
                            refine VW.ret ?_
                            replace h := Option.some.inj h
                            subst h
                            exact retR [] (by kernel_rfl) rfl
                          · replace h := cond_f h hb; clear hb
                            refine VW.skip ?_
                            show VW _ _ _ _ _ _ _
                            refine VW.seq ?_
                            refine VW.region ?_
                            refine VO.seg T_ok .dp 1 [2] [] (s' := ⟨[(2, B true)], []⟩) (φ := True ∧ True) (by kernel_rfl) ⟨trivial, trivial⟩ ?_
                            refine VO.nil ?_
                            show VW _ _ _ _ _ _ _
                            refine VW.ret ?_
                            replace h := Option.some.inj h
                            subst h
                            exact retR [] (by kernel_rfl) rfl

end Go.Proofs.Ytckcbjaldmlomaa.Vc
