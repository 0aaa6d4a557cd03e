/- What functions of the program compute, and that they do. -/
import Derived.Test.YtgpddckjpokclaaVt0
namespace Go.Proofs.Ytgpddckjpokclaa.Vc
open Go Go.RowKit
set_option linter.unusedVariables false
set_option maxRecDepth 100000
set_option maxHeartbeats 4000000
/- loop.example/g00844/laws.markNodeS -/
def F33_j0 (N : Nat) (x101 : Int) (x102 : (List (Int × (ByteArray × (Int × (Int × (Int × (Bool × (List Int))))))))) : Option ((List (Int × (ByteArray × (Int × (Int × (Int × (Bool × (List Int)))))))) × Int) :=
  some (x102, x101)
def F33_l0_b (N : Nat) (nx171 : (List (Int × (ByteArray × (Int × (Int × (Int × (Bool × (List Int)))))))) → Int → Int → Option ((List (Int × (ByteArray × (Int × (Int × (Int × (Bool × (List Int)))))))) × Int)) (x136 : (List (Int × (ByteArray × (Int × (Int × (Int × (Bool × (List Int))))))))) (x137 : Int) (x138 : Int) : Option ((List (Int × (ByteArray × (Int × (Int × (Int × (Bool × (List Int)))))))) × Int) :=
  cond (decide (x138 < (x136.length : Int))) (gd (InR x138 x136.length) (gd (x138.toNat < x136.length) (andO (F69 N (IntKind.i64.wrap (x137 + (1 : Int)))) fun y190 => gd (InR x138 (x136.set x138.toNat (x137, ((x136.getD x138.toNat (Ty.dflt Y105)).2.1, ((x136.getD x138.toNat (Ty.dflt Y105)).2.2.1, ((x136.getD x138.toNat (Ty.dflt Y105)).2.2.2.1, ((x136.getD x138.toNat (Ty.dflt Y105)).2.2.2.2.1, ((x136.getD x138.toNat (Ty.dflt Y105)).2.2.2.2.2.1, (x136.getD x138.toNat (Ty.dflt Y105)).2.2.2.2.2.2))))))).length) (gd (x138.toNat < (x136.set x138.toNat (x137, ((x136.getD x138.toNat (Ty.dflt Y105)).2.1, ((x136.getD x138.toNat (Ty.dflt Y105)).2.2.1, ((x136.getD x138.toNat (Ty.dflt Y105)).2.2.2.1, ((x136.getD x138.toNat (Ty.dflt Y105)).2.2.2.2.1, ((x136.getD x138.toNat (Ty.dflt Y105)).2.2.2.2.2.1, (x136.getD x138.toNat (Ty.dflt Y105)).2.2.2.2.2.2))))))).length) (gd (InR x138 (x136.set x138.toNat (x137, (y190, ((x136.getD x138.toNat (Ty.dflt Y105)).2.2.1, ((x136.getD x138.toNat (Ty.dflt Y105)).2.2.2.1, ((x136.getD x138.toNat (Ty.dflt Y105)).2.2.2.2.1, ((x136.getD x138.toNat (Ty.dflt Y105)).2.2.2.2.2.1, (x136.getD x138.toNat (Ty.dflt Y105)).2.2.2.2.2.2))))))).length) (gd (x138.toNat < (x136.set x138.toNat (x137, (y190, ((x136.getD x138.toNat (Ty.dflt Y105)).2.2.1, ((x136.getD x138.toNat (Ty.dflt Y105)).2.2.2.1, ((x136.getD x138.toNat (Ty.dflt Y105)).2.2.2.2.1, ((x136.getD x138.toNat (Ty.dflt Y105)).2.2.2.2.2.1, (x136.getD x138.toNat (Ty.dflt Y105)).2.2.2.2.2.2))))))).length) (gd (InR x138 (x136.set x138.toNat (x137, (y190, ((IntKind.i64.wrap ((IntKind.i64.wrap (x137 + (1 : Int))) + (1 : Int))), ((x136.getD x138.toNat (Ty.dflt Y105)).2.2.2.1, ((x136.getD x138.toNat (Ty.dflt Y105)).2.2.2.2.1, ((x136.getD x138.toNat (Ty.dflt Y105)).2.2.2.2.2.1, (x136.getD x138.toNat (Ty.dflt Y105)).2.2.2.2.2.2))))))).length) (gd (x138.toNat < (x136.set x138.toNat (x137, (y190, ((IntKind.i64.wrap ((IntKind.i64.wrap (x137 + (1 : Int))) + (1 : Int))), ((x136.getD x138.toNat (Ty.dflt Y105)).2.2.2.1, ((x136.getD x138.toNat (Ty.dflt Y105)).2.2.2.2.1, ((x136.getD x138.toNat (Ty.dflt Y105)).2.2.2.2.2.1, (x136.getD x138.toNat (Ty.dflt Y105)).2.2.2.2.2.2))))))).length) (gd (InR x138 (x136.set x138.toNat (x137, (y190, ((IntKind.i64.wrap ((IntKind.i64.wrap (x137 + (1 : Int))) + (1 : Int))), ((IntKind.i64.wrap ((IntKind.i64.wrap ((IntKind.i64.wrap (x137 + (1 : Int))) + (1 : Int))) + (1 : Int))), ((x136.getD x138.toNat (Ty.dflt Y105)).2.2.2.2.1, ((x136.getD x138.toNat (Ty.dflt Y105)).2.2.2.2.2.1, (x136.getD x138.toNat (Ty.dflt Y105)).2.2.2.2.2.2))))))).length) (gd (x138.toNat < (x136.set x138.toNat (x137, (y190, ((IntKind.i64.wrap ((IntKind.i64.wrap (x137 + (1 : Int))) + (1 : Int))), ((IntKind.i64.wrap ((IntKind.i64.wrap ((IntKind.i64.wrap (x137 + (1 : Int))) + (1 : Int))) + (1 : Int))), ((x136.getD x138.toNat (Ty.dflt Y105)).2.2.2.2.1, ((x136.getD x138.toNat (Ty.dflt Y105)).2.2.2.2.2.1, (x136.getD x138.toNat (Ty.dflt Y105)).2.2.2.2.2.2))))))).length) (gd (InR x138 (x136.set x138.toNat (x137, (y190, ((IntKind.i64.wrap ((IntKind.i64.wrap (x137 + (1 : Int))) + (1 : Int))), ((IntKind.i64.wrap ((IntKind.i64.wrap ((IntKind.i64.wrap (x137 + (1 : Int))) + (1 : Int))) + (1 : Int))), ((IntKind.i64.wrap ((IntKind.i64.wrap ((IntKind.i64.wrap ((IntKind.i64.wrap (x137 + (1 : Int))) + (1 : Int))) + (1 : Int))) + (1 : Int))), ((x136.getD x138.toNat (Ty.dflt Y105)).2.2.2.2.2.1, (x136.getD x138.toNat (Ty.dflt Y105)).2.2.2.2.2.2))))))).length) (gd (x138.toNat < (x136.set x138.toNat (x137, (y190, ((IntKind.i64.wrap ((IntKind.i64.wrap (x137 + (1 : Int))) + (1 : Int))), ((IntKind.i64.wrap ((IntKind.i64.wrap ((IntKind.i64.wrap (x137 + (1 : Int))) + (1 : Int))) + (1 : Int))), ((IntKind.i64.wrap ((IntKind.i64.wrap ((IntKind.i64.wrap ((IntKind.i64.wrap (x137 + (1 : Int))) + (1 : Int))) + (1 : Int))) + (1 : Int))), ((x136.getD x138.toNat (Ty.dflt Y105)).2.2.2.2.2.1, (x136.getD x138.toNat (Ty.dflt Y105)).2.2.2.2.2.2))))))).length) (gd (InR x138 (x136.set x138.toNat (x137, (y190, ((IntKind.i64.wrap ((IntKind.i64.wrap (x137 + (1 : Int))) + (1 : Int))), ((IntKind.i64.wrap ((IntKind.i64.wrap ((IntKind.i64.wrap (x137 + (1 : Int))) + (1 : Int))) + (1 : Int))), ((IntKind.i64.wrap ((IntKind.i64.wrap ((IntKind.i64.wrap ((IntKind.i64.wrap (x137 + (1 : Int))) + (1 : Int))) + (1 : Int))) + (1 : Int))), (((Int.tmod (IntKind.i64.wrap ((IntKind.i64.wrap ((IntKind.i64.wrap ((IntKind.i64.wrap ((IntKind.i64.wrap (x137 + (1 : Int))) + (1 : Int))) + (1 : Int))) + (1 : Int))) + (1 : Int))) (3 : Int)) == (0 : Int)), (x136.getD x138.toNat (Ty.dflt Y105)).2.2.2.2.2.2))))))).length) (gd (x138.toNat < x136.length) (andO (F34 N ((x136.getD x138.toNat (Ty.dflt Y105)).2.2.2.2.2.2) (IntKind.i64.wrap ((IntKind.i64.wrap ((IntKind.i64.wrap ((IntKind.i64.wrap ((IntKind.i64.wrap ((IntKind.i64.wrap (x137 + (1 : Int))) + (1 : Int))) + (1 : Int))) + (1 : Int))) + (1 : Int))) + (1 : Int)))) fun y202 => nx171 (x136.set x138.toNat (x137, (y190, ((IntKind.i64.wrap ((IntKind.i64.wrap (x137 + (1 : Int))) + (1 : Int))), ((IntKind.i64.wrap ((IntKind.i64.wrap ((IntKind.i64.wrap (x137 + (1 : Int))) + (1 : Int))) + (1 : Int))), ((IntKind.i64.wrap ((IntKind.i64.wrap ((IntKind.i64.wrap ((IntKind.i64.wrap (x137 + (1 : Int))) + (1 : Int))) + (1 : Int))) + (1 : Int))), (((Int.tmod (IntKind.i64.wrap ((IntKind.i64.wrap ((IntKind.i64.wrap ((IntKind.i64.wrap ((IntKind.i64.wrap (x137 + (1 : Int))) + (1 : Int))) + (1 : Int))) + (1 : Int))) + (1 : Int))) (3 : Int)) == (0 : Int)), y202.1))))))) y202.2 (IntKind.i64.wrap (x138 + (1 : Int)))))))))))))))))) (F33_j0 N x137 x136)
def F33_l0 (N : Nat) : Nat → (List (Int × (ByteArray × (Int × (Int × (Int × (Bool × (List Int)))))))) → Int → Int → Option ((List (Int × (ByteArray × (Int × (Int × (Int × (Bool × (List Int)))))))) × Int) := loopF (F33_l0_b N) (fun _ _ _ => none)
theorem F33_l0_s (N : Nat) {k : Nat} (hk : 0 < k) (x136 : (List (Int × (ByteArray × (Int × (Int × (Int × (Bool × (List Int))))))))) (x137 : Int) (x138 : Int) : F33_l0 N k x136 x137 x138 = F33_l0_b N (F33_l0 N (k - 1)) x136 x137 x138 := by
  cases k with
  | zero => exact absurd hk (Nat.lt_irrefl 0)
  | succ m => rfl
def F33 (N : Nat) (a0 : (List (Int × (ByteArray × (Int × (Int × (Int × (Bool × (List Int))))))))) (a1 : Int) : Option ((List (Int × (ByteArray × (Int × (Int × (Int × (Bool × (List Int)))))))) × Int) :=
  F33_l0 N N a0 a1 (0 : Int)
theorem ok33 (N : Nat) (a0 : (List (Int × (ByteArray × (Int × (Int × (Int × (Bool × (List Int))))))))) (a1 : Int) {r : (List (Int × (ByteArray × (Int × (Int × (Int × (Bool × (List Int)))))))) × Int} (h : F33 N a0 a1 = some r) : ConM Go.Proofs.Try.prog 33 [ar 0 Y105 a0 .dp] [.lf (.hd 0 0 none), I a1] [.lf (.v (.int .i64) r.2)] [ar 0 Y105 r.1 .dp] := by
  refine ⟨enters_of Go.Proofs.Try.func33 rfl (by decide), HM.intro [.lf (.v (.int .i64))] T_ok Go.Proofs.Try.func33 rfl (Nat.le_of_ble_eq_true rfl) (Nat.le_of_ble_eq_true rfl) fun w0 E0 => ?_⟩
  unfold F33 at h
  show VW _ _ _ _ _ (retM _ _ _ _ _) _
  refine sR T_ok [0, 1, 65536] [0] ⟨[(0, .lf (.hd 0 0 none)), (1, I a1), (65536, .lf (.hd 0 0 none))], [ar 0 Y105 a0 .dp]⟩ (tn 1) ?_
  refine VW.join (fun s => ∃ (x101 : Int) (x102 : (List (Int × (ByteArray × (Int × (Int × (Int × (Bool × (List Int))))))))), s = ⟨[(1, I x101), (65536, .lf (.hd 0 0 none))], [ar 0 Y105 x102 .dp]⟩ ∧ F33_j0 N x101 x102 = some r) ?_ ?_
  · refine sR T_ok [0, 1, 5, 65536] [0] ⟨[(0, .lf (.hd 0 0 none)), (1, I a1), (5, I (0 : Int)), (65536, .lf (.hd 0 0 none))], [ar 0 Y105 a0 .dp]⟩ (tn 1) ?_
    refine VW.block ?_
    refine lop (fun k s => ∃ (x136 : (List (Int × (ByteArray × (Int × (Int × (Int × (Bool × (List Int))))))))) (x137 : Int) (x138 : Int), s = ⟨[(0, .lf (.hd 0 0 none)), (1, I x137), (5, I x138), (65536, .lf (.hd 0 0 none))], [ar 0 Y105 x136 .dp]⟩ ∧ F33_l0 N k x136 x137 x138 = some r) N [.ren [0, 1, 5, 65536] [0]] ⟨a0, a1, (0 : Int), rfl, h⟩ ?_
    rintro k171 s ⟨x136, x137, x138, rfl, h⟩
    cases k171 with
    | zero => cases show none = some r from h
    | succ k171 =>
      replace h : F33_l0_b N (F33_l0 N k171) x136 x137 x138 = some r := h
      unfold F33_l0_b at h
      refine VW.seq ?_
      refine sR T_ok [0, 1, 5, 9, 65536] [0] ⟨[(0, .lf (.hd 0 0 none)), (1, I x137), (5, I x138), (9, B (decide (x138 < (x136.length : Int)))), (65536, .lf (.hd 0 0 none))], [ar 0 Y105 x136 .dp]⟩ (tn 4) ?_
      refine cnd h (fun h => ?_) (fun h => ?_)
      · refine VW.skip ?_
        refine VW.seq ?_
        refine VW.block ?_
        obtain ⟨g188, h⟩ := gd_some h
        obtain ⟨g189, h⟩ := gd_some h
        refine sR T_ok [0, 1, 5, 65536] [0] ⟨[(0, .lf (.hd 0 0 none)), (1, I x137), (5, I x138), (65536, .lf (.hd 0 0 none))], [ar 0 Y105 (x136.set x138.toNat (x137, ((x136.getD x138.toNat (Ty.dflt Y105)).2.1, ((x136.getD x138.toNat (Ty.dflt Y105)).2.2.1, ((x136.getD x138.toNat (Ty.dflt Y105)).2.2.2.1, ((x136.getD x138.toNat (Ty.dflt Y105)).2.2.2.2.1, ((x136.getD x138.toNat (Ty.dflt Y105)).2.2.2.2.2.1, (x136.getD x138.toNat (Ty.dflt Y105)).2.2.2.2.2.2))))))) .dp]⟩ (pu 3 (an g188 (pu 1 (an g189 (tn 0))))) ?_
        refine sR T_ok [0, 1, 5, 65536] [0] ⟨[(0, .lf (.hd 0 0 none)), (1, I (IntKind.i64.wrap (x137 + (1 : Int)))), (5, I x138), (65536, .lf (.hd 0 0 none))], [ar 0 Y105 (x136.set x138.toNat (x137, ((x136.getD x138.toNat (Ty.dflt Y105)).2.1, ((x136.getD x138.toNat (Ty.dflt Y105)).2.2.1, ((x136.getD x138.toNat (Ty.dflt Y105)).2.2.2.1, ((x136.getD x138.toNat (Ty.dflt Y105)).2.2.2.2.1, ((x136.getD x138.toNat (Ty.dflt Y105)).2.2.2.2.2.1, (x136.getD x138.toNat (Ty.dflt Y105)).2.2.2.2.2.2))))))) .dp]⟩ (tn 3) ?_
        refine VW.seq ?_
        refine VW.region ?_
        refine sG T_ok 3 [0, 1, 5, 19, 20, 21, 65536] [0] ⟨[(0, .lf (.hd 0 0 none)), (1, I (IntKind.i64.wrap (x137 + (1 : Int)))), (5, I x138), (19, .lf (.hd 0 0 none)), (20, I x138), (21, I (IntKind.i64.wrap (x137 + (1 : Int)))), (65536, .lf (.hd 0 0 none))], [ar 0 Y105 (x136.set x138.toNat (x137, ((x136.getD x138.toNat (Ty.dflt Y105)).2.1, ((x136.getD x138.toNat (Ty.dflt Y105)).2.2.1, ((x136.getD x138.toNat (Ty.dflt Y105)).2.2.2.1, ((x136.getD x138.toNat (Ty.dflt Y105)).2.2.2.2.1, ((x136.getD x138.toNat (Ty.dflt Y105)).2.2.2.2.2.1, (x136.getD x138.toNat (Ty.dflt Y105)).2.2.2.2.2.2))))))) .dp]⟩ (tn 3) ?_
        obtain ⟨y190, hy, h⟩ := andO_some h
        refine cal false [.t (.int .i64)] [] (some 22) T_ok (ok69 N _ hy) ?_
        obtain ⟨g191, h⟩ := gd_some h
        obtain ⟨g192, h⟩ := gd_some h
        refine sG T_ok 3 [0, 1, 5, 65536] [0] ⟨[(0, .lf (.hd 0 0 none)), (1, I (IntKind.i64.wrap (x137 + (1 : Int)))), (5, I x138), (65536, .lf (.hd 0 0 none))], [ar 0 Y105 ((x136.set x138.toNat (x137, ((x136.getD x138.toNat (Ty.dflt Y105)).2.1, ((x136.getD x138.toNat (Ty.dflt Y105)).2.2.1, ((x136.getD x138.toNat (Ty.dflt Y105)).2.2.2.1, ((x136.getD x138.toNat (Ty.dflt Y105)).2.2.2.2.1, ((x136.getD x138.toNat (Ty.dflt Y105)).2.2.2.2.2.1, (x136.getD x138.toNat (Ty.dflt Y105)).2.2.2.2.2.2))))))).set x138.toNat (((x136.set x138.toNat (x137, ((x136.getD x138.toNat (Ty.dflt Y105)).2.1, ((x136.getD x138.toNat (Ty.dflt Y105)).2.2.1, ((x136.getD x138.toNat (Ty.dflt Y105)).2.2.2.1, ((x136.getD x138.toNat (Ty.dflt Y105)).2.2.2.2.1, ((x136.getD x138.toNat (Ty.dflt Y105)).2.2.2.2.2.1, (x136.getD x138.toNat (Ty.dflt Y105)).2.2.2.2.2.2))))))).getD x138.toNat (Ty.dflt Y105)).1, (y190, (((x136.set x138.toNat (x137, ((x136.getD x138.toNat (Ty.dflt Y105)).2.1, ((x136.getD x138.toNat (Ty.dflt Y105)).2.2.1, ((x136.getD x138.toNat (Ty.dflt Y105)).2.2.2.1, ((x136.getD x138.toNat (Ty.dflt Y105)).2.2.2.2.1, ((x136.getD x138.toNat (Ty.dflt Y105)).2.2.2.2.2.1, (x136.getD x138.toNat (Ty.dflt Y105)).2.2.2.2.2.2))))))).getD x138.toNat (Ty.dflt Y105)).2.2.1, (((x136.set x138.toNat (x137, ((x136.getD x138.toNat (Ty.dflt Y105)).2.1, ((x136.getD x138.toNat (Ty.dflt Y105)).2.2.1, ((x136.getD x138.toNat (Ty.dflt Y105)).2.2.2.1, ((x136.getD x138.toNat (Ty.dflt Y105)).2.2.2.2.1, ((x136.getD x138.toNat (Ty.dflt Y105)).2.2.2.2.2.1, (x136.getD x138.toNat (Ty.dflt Y105)).2.2.2.2.2.2))))))).getD x138.toNat (Ty.dflt Y105)).2.2.2.1, (((x136.set x138.toNat (x137, ((x136.getD x138.toNat (Ty.dflt Y105)).2.1, ((x136.getD x138.toNat (Ty.dflt Y105)).2.2.1, ((x136.getD x138.toNat (Ty.dflt Y105)).2.2.2.1, ((x136.getD x138.toNat (Ty.dflt Y105)).2.2.2.2.1, ((x136.getD x138.toNat (Ty.dflt Y105)).2.2.2.2.2.1, (x136.getD x138.toNat (Ty.dflt Y105)).2.2.2.2.2.2))))))).getD x138.toNat (Ty.dflt Y105)).2.2.2.2.1, (((x136.set x138.toNat (x137, ((x136.getD x138.toNat (Ty.dflt Y105)).2.1, ((x136.getD x138.toNat (Ty.dflt Y105)).2.2.1, ((x136.getD x138.toNat (Ty.dflt Y105)).2.2.2.1, ((x136.getD x138.toNat (Ty.dflt Y105)).2.2.2.2.1, ((x136.getD x138.toNat (Ty.dflt Y105)).2.2.2.2.2.1, (x136.getD x138.toNat (Ty.dflt Y105)).2.2.2.2.2.2))))))).getD x138.toNat (Ty.dflt Y105)).2.2.2.2.2.1, ((x136.set x138.toNat (x137, ((x136.getD x138.toNat (Ty.dflt Y105)).2.1, ((x136.getD x138.toNat (Ty.dflt Y105)).2.2.1, ((x136.getD x138.toNat (Ty.dflt Y105)).2.2.2.1, ((x136.getD x138.toNat (Ty.dflt Y105)).2.2.2.2.1, ((x136.getD x138.toNat (Ty.dflt Y105)).2.2.2.2.2.1, (x136.getD x138.toNat (Ty.dflt Y105)).2.2.2.2.2.2))))))).getD x138.toNat (Ty.dflt Y105)).2.2.2.2.2.2))))))) .dp]⟩ (an g191 (pu 1 (an g192 (tn 0)))) ?_
        rw [show ((x136.set x138.toNat (x137, ((x136.getD x138.toNat (Ty.dflt Y105)).2.1, ((x136.getD x138.toNat (Ty.dflt Y105)).2.2.1, ((x136.getD x138.toNat (Ty.dflt Y105)).2.2.2.1, ((x136.getD x138.toNat (Ty.dflt Y105)).2.2.2.2.1, ((x136.getD x138.toNat (Ty.dflt Y105)).2.2.2.2.2.1, (x136.getD x138.toNat (Ty.dflt Y105)).2.2.2.2.2.2))))))).set x138.toNat (((x136.set x138.toNat (x137, ((x136.getD x138.toNat (Ty.dflt Y105)).2.1, ((x136.getD x138.toNat (Ty.dflt Y105)).2.2.1, ((x136.getD x138.toNat (Ty.dflt Y105)).2.2.2.1, ((x136.getD x138.toNat (Ty.dflt Y105)).2.2.2.2.1, ((x136.getD x138.toNat (Ty.dflt Y105)).2.2.2.2.2.1, (x136.getD x138.toNat (Ty.dflt Y105)).2.2.2.2.2.2))))))).getD x138.toNat (Ty.dflt Y105)).1, (y190, (((x136.set x138.toNat (x137, ((x136.getD x138.toNat (Ty.dflt Y105)).2.1, ((x136.getD x138.toNat (Ty.dflt Y105)).2.2.1, ((x136.getD x138.toNat (Ty.dflt Y105)).2.2.2.1, ((x136.getD x138.toNat (Ty.dflt Y105)).2.2.2.2.1, ((x136.getD x138.toNat (Ty.dflt Y105)).2.2.2.2.2.1, (x136.getD x138.toNat (Ty.dflt Y105)).2.2.2.2.2.2))))))).getD x138.toNat (Ty.dflt Y105)).2.2.1, (((x136.set x138.toNat (x137, ((x136.getD x138.toNat (Ty.dflt Y105)).2.1, ((x136.getD x138.toNat (Ty.dflt Y105)).2.2.1, ((x136.getD x138.toNat (Ty.dflt Y105)).2.2.2.1, ((x136.getD x138.toNat (Ty.dflt Y105)).2.2.2.2.1, ((x136.getD x138.toNat (Ty.dflt Y105)).2.2.2.2.2.1, (x136.getD x138.toNat (Ty.dflt Y105)).2.2.2.2.2.2))))))).getD x138.toNat (Ty.dflt Y105)).2.2.2.1, (((x136.set x138.toNat (x137, ((x136.getD x138.toNat (Ty.dflt Y105)).2.1, ((x136.getD x138.toNat (Ty.dflt Y105)).2.2.1, ((x136.getD x138.toNat (Ty.dflt Y105)).2.2.2.1, ((x136.getD x138.toNat (Ty.dflt Y105)).2.2.2.2.1, ((x136.getD x138.toNat (Ty.dflt Y105)).2.2.2.2.2.1, (x136.getD x138.toNat (Ty.dflt Y105)).2.2.2.2.2.2))))))).getD x138.toNat (Ty.dflt Y105)).2.2.2.2.1, (((x136.set x138.toNat (x137, ((x136.getD x138.toNat (Ty.dflt Y105)).2.1, ((x136.getD x138.toNat (Ty.dflt Y105)).2.2.1, ((x136.getD x138.toNat (Ty.dflt Y105)).2.2.2.1, ((x136.getD x138.toNat (Ty.dflt Y105)).2.2.2.2.1, ((x136.getD x138.toNat (Ty.dflt Y105)).2.2.2.2.2.1, (x136.getD x138.toNat (Ty.dflt Y105)).2.2.2.2.2.2))))))).getD x138.toNat (Ty.dflt Y105)).2.2.2.2.2.1, ((x136.set x138.toNat (x137, ((x136.getD x138.toNat (Ty.dflt Y105)).2.1, ((x136.getD x138.toNat (Ty.dflt Y105)).2.2.1, ((x136.getD x138.toNat (Ty.dflt Y105)).2.2.2.1, ((x136.getD x138.toNat (Ty.dflt Y105)).2.2.2.2.1, ((x136.getD x138.toNat (Ty.dflt Y105)).2.2.2.2.2.1, (x136.getD x138.toNat (Ty.dflt Y105)).2.2.2.2.2.2))))))).getD x138.toNat (Ty.dflt Y105)).2.2.2.2.2.2))))))) = (x136.set x138.toNat (x137, (y190, ((x136.getD x138.toNat (Ty.dflt Y105)).2.2.1, ((x136.getD x138.toNat (Ty.dflt Y105)).2.2.2.1, ((x136.getD x138.toNat (Ty.dflt Y105)).2.2.2.2.1, ((x136.getD x138.toNat (Ty.dflt Y105)).2.2.2.2.2.1, (x136.getD x138.toNat (Ty.dflt Y105)).2.2.2.2.2.2))))))) from set_upd x136 x138.toNat (x137, ((x136.getD x138.toNat (Ty.dflt Y105)).2.1, ((x136.getD x138.toNat (Ty.dflt Y105)).2.2.1, ((x136.getD x138.toNat (Ty.dflt Y105)).2.2.2.1, ((x136.getD x138.toNat (Ty.dflt Y105)).2.2.2.2.1, ((x136.getD x138.toNat (Ty.dflt Y105)).2.2.2.2.2.1, (x136.getD x138.toNat (Ty.dflt Y105)).2.2.2.2.2.2)))))) (Ty.dflt Y105) (fun z => (z.1, (y190, (z.2.2.1, (z.2.2.2.1, (z.2.2.2.2.1, (z.2.2.2.2.2.1, z.2.2.2.2.2.2))))))) (by simpa using g192)]
        refine sN T_ok [0, 1, 5, 65536] [0] ⟨[(0, .lf (.hd 0 0 none)), (1, I (IntKind.i64.wrap (x137 + (1 : Int)))), (5, I x138), (65536, .lf (.hd 0 0 none))], [ar 0 Y105 (x136.set x138.toNat (x137, (y190, ((x136.getD x138.toNat (Ty.dflt Y105)).2.2.1, ((x136.getD x138.toNat (Ty.dflt Y105)).2.2.2.1, ((x136.getD x138.toNat (Ty.dflt Y105)).2.2.2.2.1, ((x136.getD x138.toNat (Ty.dflt Y105)).2.2.2.2.2.1, (x136.getD x138.toNat (Ty.dflt Y105)).2.2.2.2.2.2))))))) .dp]⟩ (tn 0) ?_
        refine sR T_ok [0, 1, 5, 65536] [0] ⟨[(0, .lf (.hd 0 0 none)), (1, I (IntKind.i64.wrap ((IntKind.i64.wrap (x137 + (1 : Int))) + (1 : Int)))), (5, I x138), (65536, .lf (.hd 0 0 none))], [ar 0 Y105 (x136.set x138.toNat (x137, (y190, ((x136.getD x138.toNat (Ty.dflt Y105)).2.2.1, ((x136.getD x138.toNat (Ty.dflt Y105)).2.2.2.1, ((x136.getD x138.toNat (Ty.dflt Y105)).2.2.2.2.1, ((x136.getD x138.toNat (Ty.dflt Y105)).2.2.2.2.2.1, (x136.getD x138.toNat (Ty.dflt Y105)).2.2.2.2.2.2))))))) .dp]⟩ (tn 3) ?_
        refine VW.seq ?_
        refine VW.region ?_
        obtain ⟨g193, h⟩ := gd_some h
        obtain ⟨g194, h⟩ := gd_some h
        refine sG T_ok 6 [0, 1, 5, 65536] [0] ⟨[(0, .lf (.hd 0 0 none)), (1, I (IntKind.i64.wrap ((IntKind.i64.wrap (x137 + (1 : Int))) + (1 : Int)))), (5, I x138), (65536, .lf (.hd 0 0 none))], [ar 0 Y105 ((x136.set x138.toNat (x137, (y190, ((x136.getD x138.toNat (Ty.dflt Y105)).2.2.1, ((x136.getD x138.toNat (Ty.dflt Y105)).2.2.2.1, ((x136.getD x138.toNat (Ty.dflt Y105)).2.2.2.2.1, ((x136.getD x138.toNat (Ty.dflt Y105)).2.2.2.2.2.1, (x136.getD x138.toNat (Ty.dflt Y105)).2.2.2.2.2.2))))))).set x138.toNat (((x136.set x138.toNat (x137, (y190, ((x136.getD x138.toNat (Ty.dflt Y105)).2.2.1, ((x136.getD x138.toNat (Ty.dflt Y105)).2.2.2.1, ((x136.getD x138.toNat (Ty.dflt Y105)).2.2.2.2.1, ((x136.getD x138.toNat (Ty.dflt Y105)).2.2.2.2.2.1, (x136.getD x138.toNat (Ty.dflt Y105)).2.2.2.2.2.2))))))).getD x138.toNat (Ty.dflt Y105)).1, (((x136.set x138.toNat (x137, (y190, ((x136.getD x138.toNat (Ty.dflt Y105)).2.2.1, ((x136.getD x138.toNat (Ty.dflt Y105)).2.2.2.1, ((x136.getD x138.toNat (Ty.dflt Y105)).2.2.2.2.1, ((x136.getD x138.toNat (Ty.dflt Y105)).2.2.2.2.2.1, (x136.getD x138.toNat (Ty.dflt Y105)).2.2.2.2.2.2))))))).getD x138.toNat (Ty.dflt Y105)).2.1, ((IntKind.i64.wrap ((IntKind.i64.wrap (x137 + (1 : Int))) + (1 : Int))), (((x136.set x138.toNat (x137, (y190, ((x136.getD x138.toNat (Ty.dflt Y105)).2.2.1, ((x136.getD x138.toNat (Ty.dflt Y105)).2.2.2.1, ((x136.getD x138.toNat (Ty.dflt Y105)).2.2.2.2.1, ((x136.getD x138.toNat (Ty.dflt Y105)).2.2.2.2.2.1, (x136.getD x138.toNat (Ty.dflt Y105)).2.2.2.2.2.2))))))).getD x138.toNat (Ty.dflt Y105)).2.2.2.1, (((x136.set x138.toNat (x137, (y190, ((x136.getD x138.toNat (Ty.dflt Y105)).2.2.1, ((x136.getD x138.toNat (Ty.dflt Y105)).2.2.2.1, ((x136.getD x138.toNat (Ty.dflt Y105)).2.2.2.2.1, ((x136.getD x138.toNat (Ty.dflt Y105)).2.2.2.2.2.1, (x136.getD x138.toNat (Ty.dflt Y105)).2.2.2.2.2.2))))))).getD x138.toNat (Ty.dflt Y105)).2.2.2.2.1, (((x136.set x138.toNat (x137, (y190, ((x136.getD x138.toNat (Ty.dflt Y105)).2.2.1, ((x136.getD x138.toNat (Ty.dflt Y105)).2.2.2.1, ((x136.getD x138.toNat (Ty.dflt Y105)).2.2.2.2.1, ((x136.getD x138.toNat (Ty.dflt Y105)).2.2.2.2.2.1, (x136.getD x138.toNat (Ty.dflt Y105)).2.2.2.2.2.2))))))).getD x138.toNat (Ty.dflt Y105)).2.2.2.2.2.1, ((x136.set x138.toNat (x137, (y190, ((x136.getD x138.toNat (Ty.dflt Y105)).2.2.1, ((x136.getD x138.toNat (Ty.dflt Y105)).2.2.2.1, ((x136.getD x138.toNat (Ty.dflt Y105)).2.2.2.2.1, ((x136.getD x138.toNat (Ty.dflt Y105)).2.2.2.2.2.1, (x136.getD x138.toNat (Ty.dflt Y105)).2.2.2.2.2.2))))))).getD x138.toNat (Ty.dflt Y105)).2.2.2.2.2.2))))))) .dp]⟩ (pu 3 (an g193 (pu 1 (an g194 (tn 0))))) ?_
        rw [show ((x136.set x138.toNat (x137, (y190, ((x136.getD x138.toNat (Ty.dflt Y105)).2.2.1, ((x136.getD x138.toNat (Ty.dflt Y105)).2.2.2.1, ((x136.getD x138.toNat (Ty.dflt Y105)).2.2.2.2.1, ((x136.getD x138.toNat (Ty.dflt Y105)).2.2.2.2.2.1, (x136.getD x138.toNat (Ty.dflt Y105)).2.2.2.2.2.2))))))).set x138.toNat (((x136.set x138.toNat (x137, (y190, ((x136.getD x138.toNat (Ty.dflt Y105)).2.2.1, ((x136.getD x138.toNat (Ty.dflt Y105)).2.2.2.1, ((x136.getD x138.toNat (Ty.dflt Y105)).2.2.2.2.1, ((x136.getD x138.toNat (Ty.dflt Y105)).2.2.2.2.2.1, (x136.getD x138.toNat (Ty.dflt Y105)).2.2.2.2.2.2))))))).getD x138.toNat (Ty.dflt Y105)).1, (((x136.set x138.toNat (x137, (y190, ((x136.getD x138.toNat (Ty.dflt Y105)).2.2.1, ((x136.getD x138.toNat (Ty.dflt Y105)).2.2.2.1, ((x136.getD x138.toNat (Ty.dflt Y105)).2.2.2.2.1, ((x136.getD x138.toNat (Ty.dflt Y105)).2.2.2.2.2.1, (x136.getD x138.toNat (Ty.dflt Y105)).2.2.2.2.2.2))))))).getD x138.toNat (Ty.dflt Y105)).2.1, ((IntKind.i64.wrap ((IntKind.i64.wrap (x137 + (1 : Int))) + (1 : Int))), (((x136.set x138.toNat (x137, (y190, ((x136.getD x138.toNat (Ty.dflt Y105)).2.2.1, ((x136.getD x138.toNat (Ty.dflt Y105)).2.2.2.1, ((x136.getD x138.toNat (Ty.dflt Y105)).2.2.2.2.1, ((x136.getD x138.toNat (Ty.dflt Y105)).2.2.2.2.2.1, (x136.getD x138.toNat (Ty.dflt Y105)).2.2.2.2.2.2))))))).getD x138.toNat (Ty.dflt Y105)).2.2.2.1, (((x136.set x138.toNat (x137, (y190, ((x136.getD x138.toNat (Ty.dflt Y105)).2.2.1, ((x136.getD x138.toNat (Ty.dflt Y105)).2.2.2.1, ((x136.getD x138.toNat (Ty.dflt Y105)).2.2.2.2.1, ((x136.getD x138.toNat (Ty.dflt Y105)).2.2.2.2.2.1, (x136.getD x138.toNat (Ty.dflt Y105)).2.2.2.2.2.2))))))).getD x138.toNat (Ty.dflt Y105)).2.2.2.2.1, (((x136.set x138.toNat (x137, (y190, ((x136.getD x138.toNat (Ty.dflt Y105)).2.2.1, ((x136.getD x138.toNat (Ty.dflt Y105)).2.2.2.1, ((x136.getD x138.toNat (Ty.dflt Y105)).2.2.2.2.1, ((x136.getD x138.toNat (Ty.dflt Y105)).2.2.2.2.2.1, (x136.getD x138.toNat (Ty.dflt Y105)).2.2.2.2.2.2))))))).getD x138.toNat (Ty.dflt Y105)).2.2.2.2.2.1, ((x136.set x138.toNat (x137, (y190, ((x136.getD x138.toNat (Ty.dflt Y105)).2.2.1, ((x136.getD x138.toNat (Ty.dflt Y105)).2.2.2.1, ((x136.getD x138.toNat (Ty.dflt Y105)).2.2.2.2.1, ((x136.getD x138.toNat (Ty.dflt Y105)).2.2.2.2.2.1, (x136.getD x138.toNat (Ty.dflt Y105)).2.2.2.2.2.2))))))).getD x138.toNat (Ty.dflt Y105)).2.2.2.2.2.2))))))) = (x136.set x138.toNat (x137, (y190, ((IntKind.i64.wrap ((IntKind.i64.wrap (x137 + (1 : Int))) + (1 : Int))), ((x136.getD x138.toNat (Ty.dflt Y105)).2.2.2.1, ((x136.getD x138.toNat (Ty.dflt Y105)).2.2.2.2.1, ((x136.getD x138.toNat (Ty.dflt Y105)).2.2.2.2.2.1, (x136.getD x138.toNat (Ty.dflt Y105)).2.2.2.2.2.2))))))) from set_upd x136 x138.toNat (x137, (y190, ((x136.getD x138.toNat (Ty.dflt Y105)).2.2.1, ((x136.getD x138.toNat (Ty.dflt Y105)).2.2.2.1, ((x136.getD x138.toNat (Ty.dflt Y105)).2.2.2.2.1, ((x136.getD x138.toNat (Ty.dflt Y105)).2.2.2.2.2.1, (x136.getD x138.toNat (Ty.dflt Y105)).2.2.2.2.2.2)))))) (Ty.dflt Y105) (fun z => (z.1, (z.2.1, ((IntKind.i64.wrap ((IntKind.i64.wrap (x137 + (1 : Int))) + (1 : Int))), (z.2.2.2.1, (z.2.2.2.2.1, (z.2.2.2.2.2.1, z.2.2.2.2.2.2))))))) (by simpa using g194)]
        refine sN T_ok [0, 1, 5, 65536] [0] ⟨[(0, .lf (.hd 0 0 none)), (1, I (IntKind.i64.wrap ((IntKind.i64.wrap (x137 + (1 : Int))) + (1 : Int)))), (5, I x138), (65536, .lf (.hd 0 0 none))], [ar 0 Y105 (x136.set x138.toNat (x137, (y190, ((IntKind.i64.wrap ((IntKind.i64.wrap (x137 + (1 : Int))) + (1 : Int))), ((x136.getD x138.toNat (Ty.dflt Y105)).2.2.2.1, ((x136.getD x138.toNat (Ty.dflt Y105)).2.2.2.2.1, ((x136.getD x138.toNat (Ty.dflt Y105)).2.2.2.2.2.1, (x136.getD x138.toNat (Ty.dflt Y105)).2.2.2.2.2.2))))))) .dp]⟩ (tn 0) ?_
        refine sR T_ok [0, 1, 5, 65536] [0] ⟨[(0, .lf (.hd 0 0 none)), (1, I (IntKind.i64.wrap ((IntKind.i64.wrap ((IntKind.i64.wrap (x137 + (1 : Int))) + (1 : Int))) + (1 : Int)))), (5, I x138), (65536, .lf (.hd 0 0 none))], [ar 0 Y105 (x136.set x138.toNat (x137, (y190, ((IntKind.i64.wrap ((IntKind.i64.wrap (x137 + (1 : Int))) + (1 : Int))), ((x136.getD x138.toNat (Ty.dflt Y105)).2.2.2.1, ((x136.getD x138.toNat (Ty.dflt Y105)).2.2.2.2.1, ((x136.getD x138.toNat (Ty.dflt Y105)).2.2.2.2.2.1, (x136.getD x138.toNat (Ty.dflt Y105)).2.2.2.2.2.2))))))) .dp]⟩ (tn 3) ?_
        refine VW.seq ?_
        refine VW.region ?_
        obtain ⟨g195, h⟩ := gd_some h
        obtain ⟨g196, h⟩ := gd_some h
        refine sG T_ok 6 [0, 1, 5, 65536] [0] ⟨[(0, .lf (.hd 0 0 none)), (1, I (IntKind.i64.wrap ((IntKind.i64.wrap ((IntKind.i64.wrap (x137 + (1 : Int))) + (1 : Int))) + (1 : Int)))), (5, I x138), (65536, .lf (.hd 0 0 none))], [ar 0 Y105 ((x136.set x138.toNat (x137, (y190, ((IntKind.i64.wrap ((IntKind.i64.wrap (x137 + (1 : Int))) + (1 : Int))), ((x136.getD x138.toNat (Ty.dflt Y105)).2.2.2.1, ((x136.getD x138.toNat (Ty.dflt Y105)).2.2.2.2.1, ((x136.getD x138.toNat (Ty.dflt Y105)).2.2.2.2.2.1, (x136.getD x138.toNat (Ty.dflt Y105)).2.2.2.2.2.2))))))).set x138.toNat (((x136.set x138.toNat (x137, (y190, ((IntKind.i64.wrap ((IntKind.i64.wrap (x137 + (1 : Int))) + (1 : Int))), ((x136.getD x138.toNat (Ty.dflt Y105)).2.2.2.1, ((x136.getD x138.toNat (Ty.dflt Y105)).2.2.2.2.1, ((x136.getD x138.toNat (Ty.dflt Y105)).2.2.2.2.2.1, (x136.getD x138.toNat (Ty.dflt Y105)).2.2.2.2.2.2))))))).getD x138.toNat (Ty.dflt Y105)).1, (((x136.set x138.toNat (x137, (y190, ((IntKind.i64.wrap ((IntKind.i64.wrap (x137 + (1 : Int))) + (1 : Int))), ((x136.getD x138.toNat (Ty.dflt Y105)).2.2.2.1, ((x136.getD x138.toNat (Ty.dflt Y105)).2.2.2.2.1, ((x136.getD x138.toNat (Ty.dflt Y105)).2.2.2.2.2.1, (x136.getD x138.toNat (Ty.dflt Y105)).2.2.2.2.2.2))))))).getD x138.toNat (Ty.dflt Y105)).2.1, (((x136.set x138.toNat (x137, (y190, ((IntKind.i64.wrap ((IntKind.i64.wrap (x137 + (1 : Int))) + (1 : Int))), ((x136.getD x138.toNat (Ty.dflt Y105)).2.2.2.1, ((x136.getD x138.toNat (Ty.dflt Y105)).2.2.2.2.1, ((x136.getD x138.toNat (Ty.dflt Y105)).2.2.2.2.2.1, (x136.getD x138.toNat (Ty.dflt Y105)).2.2.2.2.2.2))))))).getD x138.toNat (Ty.dflt Y105)).2.2.1, ((IntKind.i64.wrap ((IntKind.i64.wrap ((IntKind.i64.wrap (x137 + (1 : Int))) + (1 : Int))) + (1 : Int))), (((x136.set x138.toNat (x137, (y190, ((IntKind.i64.wrap ((IntKind.i64.wrap (x137 + (1 : Int))) + (1 : Int))), ((x136.getD x138.toNat (Ty.dflt Y105)).2.2.2.1, ((x136.getD x138.toNat (Ty.dflt Y105)).2.2.2.2.1, ((x136.getD x138.toNat (Ty.dflt Y105)).2.2.2.2.2.1, (x136.getD x138.toNat (Ty.dflt Y105)).2.2.2.2.2.2))))))).getD x138.toNat (Ty.dflt Y105)).2.2.2.2.1, (((x136.set x138.toNat (x137, (y190, ((IntKind.i64.wrap ((IntKind.i64.wrap (x137 + (1 : Int))) + (1 : Int))), ((x136.getD x138.toNat (Ty.dflt Y105)).2.2.2.1, ((x136.getD x138.toNat (Ty.dflt Y105)).2.2.2.2.1, ((x136.getD x138.toNat (Ty.dflt Y105)).2.2.2.2.2.1, (x136.getD x138.toNat (Ty.dflt Y105)).2.2.2.2.2.2))))))).getD x138.toNat (Ty.dflt Y105)).2.2.2.2.2.1, ((x136.set x138.toNat (x137, (y190, ((IntKind.i64.wrap ((IntKind.i64.wrap (x137 + (1 : Int))) + (1 : Int))), ((x136.getD x138.toNat (Ty.dflt Y105)).2.2.2.1, ((x136.getD x138.toNat (Ty.dflt Y105)).2.2.2.2.1, ((x136.getD x138.toNat (Ty.dflt Y105)).2.2.2.2.2.1, (x136.getD x138.toNat (Ty.dflt Y105)).2.2.2.2.2.2))))))).getD x138.toNat (Ty.dflt Y105)).2.2.2.2.2.2))))))) .dp]⟩ (pu 3 (an g195 (pu 1 (an g196 (tn 0))))) ?_
        rw [show ((x136.set x138.toNat (x137, (y190, ((IntKind.i64.wrap ((IntKind.i64.wrap (x137 + (1 : Int))) + (1 : Int))), ((x136.getD x138.toNat (Ty.dflt Y105)).2.2.2.1, ((x136.getD x138.toNat (Ty.dflt Y105)).2.2.2.2.1, ((x136.getD x138.toNat (Ty.dflt Y105)).2.2.2.2.2.1, (x136.getD x138.toNat (Ty.dflt Y105)).2.2.2.2.2.2))))))).set x138.toNat (((x136.set x138.toNat (x137, (y190, ((IntKind.i64.wrap ((IntKind.i64.wrap (x137 + (1 : Int))) + (1 : Int))), ((x136.getD x138.toNat (Ty.dflt Y105)).2.2.2.1, ((x136.getD x138.toNat (Ty.dflt Y105)).2.2.2.2.1, ((x136.getD x138.toNat (Ty.dflt Y105)).2.2.2.2.2.1, (x136.getD x138.toNat (Ty.dflt Y105)).2.2.2.2.2.2))))))).getD x138.toNat (Ty.dflt Y105)).1, (((x136.set x138.toNat (x137, (y190, ((IntKind.i64.wrap ((IntKind.i64.wrap (x137 + (1 : Int))) + (1 : Int))), ((x136.getD x138.toNat (Ty.dflt Y105)).2.2.2.1, ((x136.getD x138.toNat (Ty.dflt Y105)).2.2.2.2.1, ((x136.getD x138.toNat (Ty.dflt Y105)).2.2.2.2.2.1, (x136.getD x138.toNat (Ty.dflt Y105)).2.2.2.2.2.2))))))).getD x138.toNat (Ty.dflt Y105)).2.1, (((x136.set x138.toNat (x137, (y190, ((IntKind.i64.wrap ((IntKind.i64.wrap (x137 + (1 : Int))) + (1 : Int))), ((x136.getD x138.toNat (Ty.dflt Y105)).2.2.2.1, ((x136.getD x138.toNat (Ty.dflt Y105)).2.2.2.2.1, ((x136.getD x138.toNat (Ty.dflt Y105)).2.2.2.2.2.1, (x136.getD x138.toNat (Ty.dflt Y105)).2.2.2.2.2.2))))))).getD x138.toNat (Ty.dflt Y105)).2.2.1, ((IntKind.i64.wrap ((IntKind.i64.wrap ((IntKind.i64.wrap (x137 + (1 : Int))) + (1 : Int))) + (1 : Int))), (((x136.set x138.toNat (x137, (y190, ((IntKind.i64.wrap ((IntKind.i64.wrap (x137 + (1 : Int))) + (1 : Int))), ((x136.getD x138.toNat (Ty.dflt Y105)).2.2.2.1, ((x136.getD x138.toNat (Ty.dflt Y105)).2.2.2.2.1, ((x136.getD x138.toNat (Ty.dflt Y105)).2.2.2.2.2.1, (x136.getD x138.toNat (Ty.dflt Y105)).2.2.2.2.2.2))))))).getD x138.toNat (Ty.dflt Y105)).2.2.2.2.1, (((x136.set x138.toNat (x137, (y190, ((IntKind.i64.wrap ((IntKind.i64.wrap (x137 + (1 : Int))) + (1 : Int))), ((x136.getD x138.toNat (Ty.dflt Y105)).2.2.2.1, ((x136.getD x138.toNat (Ty.dflt Y105)).2.2.2.2.1, ((x136.getD x138.toNat (Ty.dflt Y105)).2.2.2.2.2.1, (x136.getD x138.toNat (Ty.dflt Y105)).2.2.2.2.2.2))))))).getD x138.toNat (Ty.dflt Y105)).2.2.2.2.2.1, ((x136.set x138.toNat (x137, (y190, ((IntKind.i64.wrap ((IntKind.i64.wrap (x137 + (1 : Int))) + (1 : Int))), ((x136.getD x138.toNat (Ty.dflt Y105)).2.2.2.1, ((x136.getD x138.toNat (Ty.dflt Y105)).2.2.2.2.1, ((x136.getD x138.toNat (Ty.dflt Y105)).2.2.2.2.2.1, (x136.getD x138.toNat (Ty.dflt Y105)).2.2.2.2.2.2))))))).getD x138.toNat (Ty.dflt Y105)).2.2.2.2.2.2))))))) = (x136.set x138.toNat (x137, (y190, ((IntKind.i64.wrap ((IntKind.i64.wrap (x137 + (1 : Int))) + (1 : Int))), ((IntKind.i64.wrap ((IntKind.i64.wrap ((IntKind.i64.wrap (x137 + (1 : Int))) + (1 : Int))) + (1 : Int))), ((x136.getD x138.toNat (Ty.dflt Y105)).2.2.2.2.1, ((x136.getD x138.toNat (Ty.dflt Y105)).2.2.2.2.2.1, (x136.getD x138.toNat (Ty.dflt Y105)).2.2.2.2.2.2))))))) from set_upd x136 x138.toNat (x137, (y190, ((IntKind.i64.wrap ((IntKind.i64.wrap (x137 + (1 : Int))) + (1 : Int))), ((x136.getD x138.toNat (Ty.dflt Y105)).2.2.2.1, ((x136.getD x138.toNat (Ty.dflt Y105)).2.2.2.2.1, ((x136.getD x138.toNat (Ty.dflt Y105)).2.2.2.2.2.1, (x136.getD x138.toNat (Ty.dflt Y105)).2.2.2.2.2.2)))))) (Ty.dflt Y105) (fun z => (z.1, (z.2.1, (z.2.2.1, ((IntKind.i64.wrap ((IntKind.i64.wrap ((IntKind.i64.wrap (x137 + (1 : Int))) + (1 : Int))) + (1 : Int))), (z.2.2.2.2.1, (z.2.2.2.2.2.1, z.2.2.2.2.2.2))))))) (by simpa using g196)]
        refine sN T_ok [0, 1, 5, 65536] [0] ⟨[(0, .lf (.hd 0 0 none)), (1, I (IntKind.i64.wrap ((IntKind.i64.wrap ((IntKind.i64.wrap (x137 + (1 : Int))) + (1 : Int))) + (1 : Int)))), (5, I x138), (65536, .lf (.hd 0 0 none))], [ar 0 Y105 (x136.set x138.toNat (x137, (y190, ((IntKind.i64.wrap ((IntKind.i64.wrap (x137 + (1 : Int))) + (1 : Int))), ((IntKind.i64.wrap ((IntKind.i64.wrap ((IntKind.i64.wrap (x137 + (1 : Int))) + (1 : Int))) + (1 : Int))), ((x136.getD x138.toNat (Ty.dflt Y105)).2.2.2.2.1, ((x136.getD x138.toNat (Ty.dflt Y105)).2.2.2.2.2.1, (x136.getD x138.toNat (Ty.dflt Y105)).2.2.2.2.2.2))))))) .dp]⟩ (tn 0) ?_
        refine sR T_ok [0, 1, 5, 65536] [0] ⟨[(0, .lf (.hd 0 0 none)), (1, I (IntKind.i64.wrap ((IntKind.i64.wrap ((IntKind.i64.wrap ((IntKind.i64.wrap (x137 + (1 : Int))) + (1 : Int))) + (1 : Int))) + (1 : Int)))), (5, I x138), (65536, .lf (.hd 0 0 none))], [ar 0 Y105 (x136.set x138.toNat (x137, (y190, ((IntKind.i64.wrap ((IntKind.i64.wrap (x137 + (1 : Int))) + (1 : Int))), ((IntKind.i64.wrap ((IntKind.i64.wrap ((IntKind.i64.wrap (x137 + (1 : Int))) + (1 : Int))) + (1 : Int))), ((x136.getD x138.toNat (Ty.dflt Y105)).2.2.2.2.1, ((x136.getD x138.toNat (Ty.dflt Y105)).2.2.2.2.2.1, (x136.getD x138.toNat (Ty.dflt Y105)).2.2.2.2.2.2))))))) .dp]⟩ (tn 3) ?_
        refine VW.seq ?_
        refine VW.region ?_
        obtain ⟨g197, h⟩ := gd_some h
        obtain ⟨g198, h⟩ := gd_some h
        refine sG T_ok 6 [0, 1, 5, 65536] [0] ⟨[(0, .lf (.hd 0 0 none)), (1, I (IntKind.i64.wrap ((IntKind.i64.wrap ((IntKind.i64.wrap ((IntKind.i64.wrap (x137 + (1 : Int))) + (1 : Int))) + (1 : Int))) + (1 : Int)))), (5, I x138), (65536, .lf (.hd 0 0 none))], [ar 0 Y105 ((x136.set x138.toNat (x137, (y190, ((IntKind.i64.wrap ((IntKind.i64.wrap (x137 + (1 : Int))) + (1 : Int))), ((IntKind.i64.wrap ((IntKind.i64.wrap ((IntKind.i64.wrap (x137 + (1 : Int))) + (1 : Int))) + (1 : Int))), ((x136.getD x138.toNat (Ty.dflt Y105)).2.2.2.2.1, ((x136.getD x138.toNat (Ty.dflt Y105)).2.2.2.2.2.1, (x136.getD x138.toNat (Ty.dflt Y105)).2.2.2.2.2.2))))))).set x138.toNat (((x136.set x138.toNat (x137, (y190, ((IntKind.i64.wrap ((IntKind.i64.wrap (x137 + (1 : Int))) + (1 : Int))), ((IntKind.i64.wrap ((IntKind.i64.wrap ((IntKind.i64.wrap (x137 + (1 : Int))) + (1 : Int))) + (1 : Int))), ((x136.getD x138.toNat (Ty.dflt Y105)).2.2.2.2.1, ((x136.getD x138.toNat (Ty.dflt Y105)).2.2.2.2.2.1, (x136.getD x138.toNat (Ty.dflt Y105)).2.2.2.2.2.2))))))).getD x138.toNat (Ty.dflt Y105)).1, (((x136.set x138.toNat (x137, (y190, ((IntKind.i64.wrap ((IntKind.i64.wrap (x137 + (1 : Int))) + (1 : Int))), ((IntKind.i64.wrap ((IntKind.i64.wrap ((IntKind.i64.wrap (x137 + (1 : Int))) + (1 : Int))) + (1 : Int))), ((x136.getD x138.toNat (Ty.dflt Y105)).2.2.2.2.1, ((x136.getD x138.toNat (Ty.dflt Y105)).2.2.2.2.2.1, (x136.getD x138.toNat (Ty.dflt Y105)).2.2.2.2.2.2))))))).getD x138.toNat (Ty.dflt Y105)).2.1, (((x136.set x138.toNat (x137, (y190, ((IntKind.i64.wrap ((IntKind.i64.wrap (x137 + (1 : Int))) + (1 : Int))), ((IntKind.i64.wrap ((IntKind.i64.wrap ((IntKind.i64.wrap (x137 + (1 : Int))) + (1 : Int))) + (1 : Int))), ((x136.getD x138.toNat (Ty.dflt Y105)).2.2.2.2.1, ((x136.getD x138.toNat (Ty.dflt Y105)).2.2.2.2.2.1, (x136.getD x138.toNat (Ty.dflt Y105)).2.2.2.2.2.2))))))).getD x138.toNat (Ty.dflt Y105)).2.2.1, (((x136.set x138.toNat (x137, (y190, ((IntKind.i64.wrap ((IntKind.i64.wrap (x137 + (1 : Int))) + (1 : Int))), ((IntKind.i64.wrap ((IntKind.i64.wrap ((IntKind.i64.wrap (x137 + (1 : Int))) + (1 : Int))) + (1 : Int))), ((x136.getD x138.toNat (Ty.dflt Y105)).2.2.2.2.1, ((x136.getD x138.toNat (Ty.dflt Y105)).2.2.2.2.2.1, (x136.getD x138.toNat (Ty.dflt Y105)).2.2.2.2.2.2))))))).getD x138.toNat (Ty.dflt Y105)).2.2.2.1, ((IntKind.i64.wrap ((IntKind.i64.wrap ((IntKind.i64.wrap ((IntKind.i64.wrap (x137 + (1 : Int))) + (1 : Int))) + (1 : Int))) + (1 : Int))), (((x136.set x138.toNat (x137, (y190, ((IntKind.i64.wrap ((IntKind.i64.wrap (x137 + (1 : Int))) + (1 : Int))), ((IntKind.i64.wrap ((IntKind.i64.wrap ((IntKind.i64.wrap (x137 + (1 : Int))) + (1 : Int))) + (1 : Int))), ((x136.getD x138.toNat (Ty.dflt Y105)).2.2.2.2.1, ((x136.getD x138.toNat (Ty.dflt Y105)).2.2.2.2.2.1, (x136.getD x138.toNat (Ty.dflt Y105)).2.2.2.2.2.2))))))).getD x138.toNat (Ty.dflt Y105)).2.2.2.2.2.1, ((x136.set x138.toNat (x137, (y190, ((IntKind.i64.wrap ((IntKind.i64.wrap (x137 + (1 : Int))) + (1 : Int))), ((IntKind.i64.wrap ((IntKind.i64.wrap ((IntKind.i64.wrap (x137 + (1 : Int))) + (1 : Int))) + (1 : Int))), ((x136.getD x138.toNat (Ty.dflt Y105)).2.2.2.2.1, ((x136.getD x138.toNat (Ty.dflt Y105)).2.2.2.2.2.1, (x136.getD x138.toNat (Ty.dflt Y105)).2.2.2.2.2.2))))))).getD x138.toNat (Ty.dflt Y105)).2.2.2.2.2.2))))))) .dp]⟩ (pu 3 (an g197 (pu 1 (an g198 (tn 0))))) ?_
        rw [show ((x136.set x138.toNat (x137, (y190, ((IntKind.i64.wrap ((IntKind.i64.wrap (x137 + (1 : Int))) + (1 : Int))), ((IntKind.i64.wrap ((IntKind.i64.wrap ((IntKind.i64.wrap (x137 + (1 : Int))) + (1 : Int))) + (1 : Int))), ((x136.getD x138.toNat (Ty.dflt Y105)).2.2.2.2.1, ((x136.getD x138.toNat (Ty.dflt Y105)).2.2.2.2.2.1, (x136.getD x138.toNat (Ty.dflt Y105)).2.2.2.2.2.2))))))).set x138.toNat (((x136.set x138.toNat (x137, (y190, ((IntKind.i64.wrap ((IntKind.i64.wrap (x137 + (1 : Int))) + (1 : Int))), ((IntKind.i64.wrap ((IntKind.i64.wrap ((IntKind.i64.wrap (x137 + (1 : Int))) + (1 : Int))) + (1 : Int))), ((x136.getD x138.toNat (Ty.dflt Y105)).2.2.2.2.1, ((x136.getD x138.toNat (Ty.dflt Y105)).2.2.2.2.2.1, (x136.getD x138.toNat (Ty.dflt Y105)).2.2.2.2.2.2))))))).getD x138.toNat (Ty.dflt Y105)).1, (((x136.set x138.toNat (x137, (y190, ((IntKind.i64.wrap ((IntKind.i64.wrap (x137 + (1 : Int))) + (1 : Int))), ((IntKind.i64.wrap ((IntKind.i64.wrap ((IntKind.i64.wrap (x137 + (1 : Int))) + (1 : Int))) + (1 : Int))), ((x136.getD x138.toNat (Ty.dflt Y105)).2.2.2.2.1, ((x136.getD x138.toNat (Ty.dflt Y105)).2.2.2.2.2.1, (x136.getD x138.toNat (Ty.dflt Y105)).2.2.2.2.2.2))))))).getD x138.toNat (Ty.dflt Y105)).2.1, (((x136.set x138.toNat (x137, (y190, ((IntKind.i64.wrap ((IntKind.i64.wrap (x137 + (1 : Int))) + (1 : Int))), ((IntKind.i64.wrap ((IntKind.i64.wrap ((IntKind.i64.wrap (x137 + (1 : Int))) + (1 : Int))) + (1 : Int))), ((x136.getD x138.toNat (Ty.dflt Y105)).2.2.2.2.1, ((x136.getD x138.toNat (Ty.dflt Y105)).2.2.2.2.2.1, (x136.getD x138.toNat (Ty.dflt Y105)).2.2.2.2.2.2))))))).getD x138.toNat (Ty.dflt Y105)).2.2.1, (((x136.set x138.toNat (x137, (y190, ((IntKind.i64.wrap ((IntKind.i64.wrap (x137 + (1 : Int))) + (1 : Int))), ((IntKind.i64.wrap ((IntKind.i64.wrap ((IntKind.i64.wrap (x137 + (1 : Int))) + (1 : Int))) + (1 : Int))), ((x136.getD x138.toNat (Ty.dflt Y105)).2.2.2.2.1, ((x136.getD x138.toNat (Ty.dflt Y105)).2.2.2.2.2.1, (x136.getD x138.toNat (Ty.dflt Y105)).2.2.2.2.2.2))))))).getD x138.toNat (Ty.dflt Y105)).2.2.2.1, ((IntKind.i64.wrap ((IntKind.i64.wrap ((IntKind.i64.wrap ((IntKind.i64.wrap (x137 + (1 : Int))) + (1 : Int))) + (1 : Int))) + (1 : Int))), (((x136.set x138.toNat (x137, (y190, ((IntKind.i64.wrap ((IntKind.i64.wrap (x137 + (1 : Int))) + (1 : Int))), ((IntKind.i64.wrap ((IntKind.i64.wrap ((IntKind.i64.wrap (x137 + (1 : Int))) + (1 : Int))) + (1 : Int))), ((x136.getD x138.toNat (Ty.dflt Y105)).2.2.2.2.1, ((x136.getD x138.toNat (Ty.dflt Y105)).2.2.2.2.2.1, (x136.getD x138.toNat (Ty.dflt Y105)).2.2.2.2.2.2))))))).getD x138.toNat (Ty.dflt Y105)).2.2.2.2.2.1, ((x136.set x138.toNat (x137, (y190, ((IntKind.i64.wrap ((IntKind.i64.wrap (x137 + (1 : Int))) + (1 : Int))), ((IntKind.i64.wrap ((IntKind.i64.wrap ((IntKind.i64.wrap (x137 + (1 : Int))) + (1 : Int))) + (1 : Int))), ((x136.getD x138.toNat (Ty.dflt Y105)).2.2.2.2.1, ((x136.getD x138.toNat (Ty.dflt Y105)).2.2.2.2.2.1, (x136.getD x138.toNat (Ty.dflt Y105)).2.2.2.2.2.2))))))).getD x138.toNat (Ty.dflt Y105)).2.2.2.2.2.2))))))) = (x136.set x138.toNat (x137, (y190, ((IntKind.i64.wrap ((IntKind.i64.wrap (x137 + (1 : Int))) + (1 : Int))), ((IntKind.i64.wrap ((IntKind.i64.wrap ((IntKind.i64.wrap (x137 + (1 : Int))) + (1 : Int))) + (1 : Int))), ((IntKind.i64.wrap ((IntKind.i64.wrap ((IntKind.i64.wrap ((IntKind.i64.wrap (x137 + (1 : Int))) + (1 : Int))) + (1 : Int))) + (1 : Int))), ((x136.getD x138.toNat (Ty.dflt Y105)).2.2.2.2.2.1, (x136.getD x138.toNat (Ty.dflt Y105)).2.2.2.2.2.2))))))) from set_upd x136 x138.toNat (x137, (y190, ((IntKind.i64.wrap ((IntKind.i64.wrap (x137 + (1 : Int))) + (1 : Int))), ((IntKind.i64.wrap ((IntKind.i64.wrap ((IntKind.i64.wrap (x137 + (1 : Int))) + (1 : Int))) + (1 : Int))), ((x136.getD x138.toNat (Ty.dflt Y105)).2.2.2.2.1, ((x136.getD x138.toNat (Ty.dflt Y105)).2.2.2.2.2.1, (x136.getD x138.toNat (Ty.dflt Y105)).2.2.2.2.2.2)))))) (Ty.dflt Y105) (fun z => (z.1, (z.2.1, (z.2.2.1, (z.2.2.2.1, ((IntKind.i64.wrap ((IntKind.i64.wrap ((IntKind.i64.wrap ((IntKind.i64.wrap (x137 + (1 : Int))) + (1 : Int))) + (1 : Int))) + (1 : Int))), (z.2.2.2.2.2.1, z.2.2.2.2.2.2))))))) (by simpa using g198)]
        refine sN T_ok [0, 1, 5, 65536] [0] ⟨[(0, .lf (.hd 0 0 none)), (1, I (IntKind.i64.wrap ((IntKind.i64.wrap ((IntKind.i64.wrap ((IntKind.i64.wrap (x137 + (1 : Int))) + (1 : Int))) + (1 : Int))) + (1 : Int)))), (5, I x138), (65536, .lf (.hd 0 0 none))], [ar 0 Y105 (x136.set x138.toNat (x137, (y190, ((IntKind.i64.wrap ((IntKind.i64.wrap (x137 + (1 : Int))) + (1 : Int))), ((IntKind.i64.wrap ((IntKind.i64.wrap ((IntKind.i64.wrap (x137 + (1 : Int))) + (1 : Int))) + (1 : Int))), ((IntKind.i64.wrap ((IntKind.i64.wrap ((IntKind.i64.wrap ((IntKind.i64.wrap (x137 + (1 : Int))) + (1 : Int))) + (1 : Int))) + (1 : Int))), ((x136.getD x138.toNat (Ty.dflt Y105)).2.2.2.2.2.1, (x136.getD x138.toNat (Ty.dflt Y105)).2.2.2.2.2.2))))))) .dp]⟩ (tn 0) ?_
        refine sR T_ok [0, 1, 5, 65536] [0] ⟨[(0, .lf (.hd 0 0 none)), (1, I (IntKind.i64.wrap ((IntKind.i64.wrap ((IntKind.i64.wrap ((IntKind.i64.wrap ((IntKind.i64.wrap (x137 + (1 : Int))) + (1 : Int))) + (1 : Int))) + (1 : Int))) + (1 : Int)))), (5, I x138), (65536, .lf (.hd 0 0 none))], [ar 0 Y105 (x136.set x138.toNat (x137, (y190, ((IntKind.i64.wrap ((IntKind.i64.wrap (x137 + (1 : Int))) + (1 : Int))), ((IntKind.i64.wrap ((IntKind.i64.wrap ((IntKind.i64.wrap (x137 + (1 : Int))) + (1 : Int))) + (1 : Int))), ((IntKind.i64.wrap ((IntKind.i64.wrap ((IntKind.i64.wrap ((IntKind.i64.wrap (x137 + (1 : Int))) + (1 : Int))) + (1 : Int))) + (1 : Int))), ((x136.getD x138.toNat (Ty.dflt Y105)).2.2.2.2.2.1, (x136.getD x138.toNat (Ty.dflt Y105)).2.2.2.2.2.2))))))) .dp]⟩ (tn 3) ?_
        refine VW.seq ?_
        refine VW.region ?_
        obtain ⟨g199, h⟩ := gd_some h
        obtain ⟨g200, h⟩ := gd_some h
        refine sG T_ok 8 [0, 1, 5, 65536] [0] ⟨[(0, .lf (.hd 0 0 none)), (1, I (IntKind.i64.wrap ((IntKind.i64.wrap ((IntKind.i64.wrap ((IntKind.i64.wrap ((IntKind.i64.wrap (x137 + (1 : Int))) + (1 : Int))) + (1 : Int))) + (1 : Int))) + (1 : Int)))), (5, I x138), (65536, .lf (.hd 0 0 none))], [ar 0 Y105 ((x136.set x138.toNat (x137, (y190, ((IntKind.i64.wrap ((IntKind.i64.wrap (x137 + (1 : Int))) + (1 : Int))), ((IntKind.i64.wrap ((IntKind.i64.wrap ((IntKind.i64.wrap (x137 + (1 : Int))) + (1 : Int))) + (1 : Int))), ((IntKind.i64.wrap ((IntKind.i64.wrap ((IntKind.i64.wrap ((IntKind.i64.wrap (x137 + (1 : Int))) + (1 : Int))) + (1 : Int))) + (1 : Int))), ((x136.getD x138.toNat (Ty.dflt Y105)).2.2.2.2.2.1, (x136.getD x138.toNat (Ty.dflt Y105)).2.2.2.2.2.2))))))).set x138.toNat (((x136.set x138.toNat (x137, (y190, ((IntKind.i64.wrap ((IntKind.i64.wrap (x137 + (1 : Int))) + (1 : Int))), ((IntKind.i64.wrap ((IntKind.i64.wrap ((IntKind.i64.wrap (x137 + (1 : Int))) + (1 : Int))) + (1 : Int))), ((IntKind.i64.wrap ((IntKind.i64.wrap ((IntKind.i64.wrap ((IntKind.i64.wrap (x137 + (1 : Int))) + (1 : Int))) + (1 : Int))) + (1 : Int))), ((x136.getD x138.toNat (Ty.dflt Y105)).2.2.2.2.2.1, (x136.getD x138.toNat (Ty.dflt Y105)).2.2.2.2.2.2))))))).getD x138.toNat (Ty.dflt Y105)).1, (((x136.set x138.toNat (x137, (y190, ((IntKind.i64.wrap ((IntKind.i64.wrap (x137 + (1 : Int))) + (1 : Int))), ((IntKind.i64.wrap ((IntKind.i64.wrap ((IntKind.i64.wrap (x137 + (1 : Int))) + (1 : Int))) + (1 : Int))), ((IntKind.i64.wrap ((IntKind.i64.wrap ((IntKind.i64.wrap ((IntKind.i64.wrap (x137 + (1 : Int))) + (1 : Int))) + (1 : Int))) + (1 : Int))), ((x136.getD x138.toNat (Ty.dflt Y105)).2.2.2.2.2.1, (x136.getD x138.toNat (Ty.dflt Y105)).2.2.2.2.2.2))))))).getD x138.toNat (Ty.dflt Y105)).2.1, (((x136.set x138.toNat (x137, (y190, ((IntKind.i64.wrap ((IntKind.i64.wrap (x137 + (1 : Int))) + (1 : Int))), ((IntKind.i64.wrap ((IntKind.i64.wrap ((IntKind.i64.wrap (x137 + (1 : Int))) + (1 : Int))) + (1 : Int))), ((IntKind.i64.wrap ((IntKind.i64.wrap ((IntKind.i64.wrap ((IntKind.i64.wrap (x137 + (1 : Int))) + (1 : Int))) + (1 : Int))) + (1 : Int))), ((x136.getD x138.toNat (Ty.dflt Y105)).2.2.2.2.2.1, (x136.getD x138.toNat (Ty.dflt Y105)).2.2.2.2.2.2))))))).getD x138.toNat (Ty.dflt Y105)).2.2.1, (((x136.set x138.toNat (x137, (y190, ((IntKind.i64.wrap ((IntKind.i64.wrap (x137 + (1 : Int))) + (1 : Int))), ((IntKind.i64.wrap ((IntKind.i64.wrap ((IntKind.i64.wrap (x137 + (1 : Int))) + (1 : Int))) + (1 : Int))), ((IntKind.i64.wrap ((IntKind.i64.wrap ((IntKind.i64.wrap ((IntKind.i64.wrap (x137 + (1 : Int))) + (1 : Int))) + (1 : Int))) + (1 : Int))), ((x136.getD x138.toNat (Ty.dflt Y105)).2.2.2.2.2.1, (x136.getD x138.toNat (Ty.dflt Y105)).2.2.2.2.2.2))))))).getD x138.toNat (Ty.dflt Y105)).2.2.2.1, (((x136.set x138.toNat (x137, (y190, ((IntKind.i64.wrap ((IntKind.i64.wrap (x137 + (1 : Int))) + (1 : Int))), ((IntKind.i64.wrap ((IntKind.i64.wrap ((IntKind.i64.wrap (x137 + (1 : Int))) + (1 : Int))) + (1 : Int))), ((IntKind.i64.wrap ((IntKind.i64.wrap ((IntKind.i64.wrap ((IntKind.i64.wrap (x137 + (1 : Int))) + (1 : Int))) + (1 : Int))) + (1 : Int))), ((x136.getD x138.toNat (Ty.dflt Y105)).2.2.2.2.2.1, (x136.getD x138.toNat (Ty.dflt Y105)).2.2.2.2.2.2))))))).getD x138.toNat (Ty.dflt Y105)).2.2.2.2.1, (((Int.tmod (IntKind.i64.wrap ((IntKind.i64.wrap ((IntKind.i64.wrap ((IntKind.i64.wrap ((IntKind.i64.wrap (x137 + (1 : Int))) + (1 : Int))) + (1 : Int))) + (1 : Int))) + (1 : Int))) (3 : Int)) == (0 : Int)), ((x136.set x138.toNat (x137, (y190, ((IntKind.i64.wrap ((IntKind.i64.wrap (x137 + (1 : Int))) + (1 : Int))), ((IntKind.i64.wrap ((IntKind.i64.wrap ((IntKind.i64.wrap (x137 + (1 : Int))) + (1 : Int))) + (1 : Int))), ((IntKind.i64.wrap ((IntKind.i64.wrap ((IntKind.i64.wrap ((IntKind.i64.wrap (x137 + (1 : Int))) + (1 : Int))) + (1 : Int))) + (1 : Int))), ((x136.getD x138.toNat (Ty.dflt Y105)).2.2.2.2.2.1, (x136.getD x138.toNat (Ty.dflt Y105)).2.2.2.2.2.2))))))).getD x138.toNat (Ty.dflt Y105)).2.2.2.2.2.2))))))) .dp]⟩ (pu 3 (an (show ((3 : Int) ≠ 0) from by decide) (pu 1 (an g199 (pu 1 (an g200 (tn 0))))))) ?_
        rw [show ((x136.set x138.toNat (x137, (y190, ((IntKind.i64.wrap ((IntKind.i64.wrap (x137 + (1 : Int))) + (1 : Int))), ((IntKind.i64.wrap ((IntKind.i64.wrap ((IntKind.i64.wrap (x137 + (1 : Int))) + (1 : Int))) + (1 : Int))), ((IntKind.i64.wrap ((IntKind.i64.wrap ((IntKind.i64.wrap ((IntKind.i64.wrap (x137 + (1 : Int))) + (1 : Int))) + (1 : Int))) + (1 : Int))), ((x136.getD x138.toNat (Ty.dflt Y105)).2.2.2.2.2.1, (x136.getD x138.toNat (Ty.dflt Y105)).2.2.2.2.2.2))))))).set x138.toNat (((x136.set x138.toNat (x137, (y190, ((IntKind.i64.wrap ((IntKind.i64.wrap (x137 + (1 : Int))) + (1 : Int))), ((IntKind.i64.wrap ((IntKind.i64.wrap ((IntKind.i64.wrap (x137 + (1 : Int))) + (1 : Int))) + (1 : Int))), ((IntKind.i64.wrap ((IntKind.i64.wrap ((IntKind.i64.wrap ((IntKind.i64.wrap (x137 + (1 : Int))) + (1 : Int))) + (1 : Int))) + (1 : Int))), ((x136.getD x138.toNat (Ty.dflt Y105)).2.2.2.2.2.1, (x136.getD x138.toNat (Ty.dflt Y105)).2.2.2.2.2.2))))))).getD x138.toNat (Ty.dflt Y105)).1, (((x136.set x138.toNat (x137, (y190, ((IntKind.i64.wrap ((IntKind.i64.wrap (x137 + (1 : Int))) + (1 : Int))), ((IntKind.i64.wrap ((IntKind.i64.wrap ((IntKind.i64.wrap (x137 + (1 : Int))) + (1 : Int))) + (1 : Int))), ((IntKind.i64.wrap ((IntKind.i64.wrap ((IntKind.i64.wrap ((IntKind.i64.wrap (x137 + (1 : Int))) + (1 : Int))) + (1 : Int))) + (1 : Int))), ((x136.getD x138.toNat (Ty.dflt Y105)).2.2.2.2.2.1, (x136.getD x138.toNat (Ty.dflt Y105)).2.2.2.2.2.2))))))).getD x138.toNat (Ty.dflt Y105)).2.1, (((x136.set x138.toNat (x137, (y190, ((IntKind.i64.wrap ((IntKind.i64.wrap (x137 + (1 : Int))) + (1 : Int))), ((IntKind.i64.wrap ((IntKind.i64.wrap ((IntKind.i64.wrap (x137 + (1 : Int))) + (1 : Int))) + (1 : Int))), ((IntKind.i64.wrap ((IntKind.i64.wrap ((IntKind.i64.wrap ((IntKind.i64.wrap (x137 + (1 : Int))) + (1 : Int))) + (1 : Int))) + (1 : Int))), ((x136.getD x138.toNat (Ty.dflt Y105)).2.2.2.2.2.1, (x136.getD x138.toNat (Ty.dflt Y105)).2.2.2.2.2.2))))))).getD x138.toNat (Ty.dflt Y105)).2.2.1, (((x136.set x138.toNat (x137, (y190, ((IntKind.i64.wrap ((IntKind.i64.wrap (x137 + (1 : Int))) + (1 : Int))), ((IntKind.i64.wrap ((IntKind.i64.wrap ((IntKind.i64.wrap (x137 + (1 : Int))) + (1 : Int))) + (1 : Int))), ((IntKind.i64.wrap ((IntKind.i64.wrap ((IntKind.i64.wrap ((IntKind.i64.wrap (x137 + (1 : Int))) + (1 : Int))) + (1 : Int))) + (1 : Int))), ((x136.getD x138.toNat (Ty.dflt Y105)).2.2.2.2.2.1, (x136.getD x138.toNat (Ty.dflt Y105)).2.2.2.2.2.2))))))).getD x138.toNat (Ty.dflt Y105)).2.2.2.1, (((x136.set x138.toNat (x137, (y190, ((IntKind.i64.wrap ((IntKind.i64.wrap (x137 + (1 : Int))) + (1 : Int))), ((IntKind.i64.wrap ((IntKind.i64.wrap ((IntKind.i64.wrap (x137 + (1 : Int))) + (1 : Int))) + (1 : Int))), ((IntKind.i64.wrap ((IntKind.i64.wrap ((IntKind.i64.wrap ((IntKind.i64.wrap (x137 + (1 : Int))) + (1 : Int))) + (1 : Int))) + (1 : Int))), ((x136.getD x138.toNat (Ty.dflt Y105)).2.2.2.2.2.1, (x136.getD x138.toNat (Ty.dflt Y105)).2.2.2.2.2.2))))))).getD x138.toNat (Ty.dflt Y105)).2.2.2.2.1, (((Int.tmod (IntKind.i64.wrap ((IntKind.i64.wrap ((IntKind.i64.wrap ((IntKind.i64.wrap ((IntKind.i64.wrap (x137 + (1 : Int))) + (1 : Int))) + (1 : Int))) + (1 : Int))) + (1 : Int))) (3 : Int)) == (0 : Int)), ((x136.set x138.toNat (x137, (y190, ((IntKind.i64.wrap ((IntKind.i64.wrap (x137 + (1 : Int))) + (1 : Int))), ((IntKind.i64.wrap ((IntKind.i64.wrap ((IntKind.i64.wrap (x137 + (1 : Int))) + (1 : Int))) + (1 : Int))), ((IntKind.i64.wrap ((IntKind.i64.wrap ((IntKind.i64.wrap ((IntKind.i64.wrap (x137 + (1 : Int))) + (1 : Int))) + (1 : Int))) + (1 : Int))), ((x136.getD x138.toNat (Ty.dflt Y105)).2.2.2.2.2.1, (x136.getD x138.toNat (Ty.dflt Y105)).2.2.2.2.2.2))))))).getD x138.toNat (Ty.dflt Y105)).2.2.2.2.2.2))))))) = (x136.set x138.toNat (x137, (y190, ((IntKind.i64.wrap ((IntKind.i64.wrap (x137 + (1 : Int))) + (1 : Int))), ((IntKind.i64.wrap ((IntKind.i64.wrap ((IntKind.i64.wrap (x137 + (1 : Int))) + (1 : Int))) + (1 : Int))), ((IntKind.i64.wrap ((IntKind.i64.wrap ((IntKind.i64.wrap ((IntKind.i64.wrap (x137 + (1 : Int))) + (1 : Int))) + (1 : Int))) + (1 : Int))), (((Int.tmod (IntKind.i64.wrap ((IntKind.i64.wrap ((IntKind.i64.wrap ((IntKind.i64.wrap ((IntKind.i64.wrap (x137 + (1 : Int))) + (1 : Int))) + (1 : Int))) + (1 : Int))) + (1 : Int))) (3 : Int)) == (0 : Int)), (x136.getD x138.toNat (Ty.dflt Y105)).2.2.2.2.2.2))))))) from set_upd x136 x138.toNat (x137, (y190, ((IntKind.i64.wrap ((IntKind.i64.wrap (x137 + (1 : Int))) + (1 : Int))), ((IntKind.i64.wrap ((IntKind.i64.wrap ((IntKind.i64.wrap (x137 + (1 : Int))) + (1 : Int))) + (1 : Int))), ((IntKind.i64.wrap ((IntKind.i64.wrap ((IntKind.i64.wrap ((IntKind.i64.wrap (x137 + (1 : Int))) + (1 : Int))) + (1 : Int))) + (1 : Int))), ((x136.getD x138.toNat (Ty.dflt Y105)).2.2.2.2.2.1, (x136.getD x138.toNat (Ty.dflt Y105)).2.2.2.2.2.2)))))) (Ty.dflt Y105) (fun z => (z.1, (z.2.1, (z.2.2.1, (z.2.2.2.1, (z.2.2.2.2.1, (((Int.tmod (IntKind.i64.wrap ((IntKind.i64.wrap ((IntKind.i64.wrap ((IntKind.i64.wrap ((IntKind.i64.wrap (x137 + (1 : Int))) + (1 : Int))) + (1 : Int))) + (1 : Int))) + (1 : Int))) (3 : Int)) == (0 : Int)), z.2.2.2.2.2.2))))))) (by simpa using g200)]
        refine sN T_ok [0, 1, 5, 65536] [0] ⟨[(0, .lf (.hd 0 0 none)), (1, I (IntKind.i64.wrap ((IntKind.i64.wrap ((IntKind.i64.wrap ((IntKind.i64.wrap ((IntKind.i64.wrap (x137 + (1 : Int))) + (1 : Int))) + (1 : Int))) + (1 : Int))) + (1 : Int)))), (5, I x138), (65536, .lf (.hd 0 0 none))], [ar 0 Y105 (x136.set x138.toNat (x137, (y190, ((IntKind.i64.wrap ((IntKind.i64.wrap (x137 + (1 : Int))) + (1 : Int))), ((IntKind.i64.wrap ((IntKind.i64.wrap ((IntKind.i64.wrap (x137 + (1 : Int))) + (1 : Int))) + (1 : Int))), ((IntKind.i64.wrap ((IntKind.i64.wrap ((IntKind.i64.wrap ((IntKind.i64.wrap (x137 + (1 : Int))) + (1 : Int))) + (1 : Int))) + (1 : Int))), (((Int.tmod (IntKind.i64.wrap ((IntKind.i64.wrap ((IntKind.i64.wrap ((IntKind.i64.wrap ((IntKind.i64.wrap (x137 + (1 : Int))) + (1 : Int))) + (1 : Int))) + (1 : Int))) + (1 : Int))) (3 : Int)) == (0 : Int)), (x136.getD x138.toNat (Ty.dflt Y105)).2.2.2.2.2.2))))))) .dp]⟩ (tn 0) ?_
        refine sR T_ok [0, 1, 5, 65536] [0] ⟨[(0, .lf (.hd 0 0 none)), (1, I (IntKind.i64.wrap ((IntKind.i64.wrap ((IntKind.i64.wrap ((IntKind.i64.wrap ((IntKind.i64.wrap ((IntKind.i64.wrap (x137 + (1 : Int))) + (1 : Int))) + (1 : Int))) + (1 : Int))) + (1 : Int))) + (1 : Int)))), (5, I x138), (65536, .lf (.hd 0 0 none))], [ar 0 Y105 (x136.set x138.toNat (x137, (y190, ((IntKind.i64.wrap ((IntKind.i64.wrap (x137 + (1 : Int))) + (1 : Int))), ((IntKind.i64.wrap ((IntKind.i64.wrap ((IntKind.i64.wrap (x137 + (1 : Int))) + (1 : Int))) + (1 : Int))), ((IntKind.i64.wrap ((IntKind.i64.wrap ((IntKind.i64.wrap ((IntKind.i64.wrap (x137 + (1 : Int))) + (1 : Int))) + (1 : Int))) + (1 : Int))), (((Int.tmod (IntKind.i64.wrap ((IntKind.i64.wrap ((IntKind.i64.wrap ((IntKind.i64.wrap ((IntKind.i64.wrap (x137 + (1 : Int))) + (1 : Int))) + (1 : Int))) + (1 : Int))) + (1 : Int))) (3 : Int)) == (0 : Int)), (x136.getD x138.toNat (Ty.dflt Y105)).2.2.2.2.2.2))))))) .dp]⟩ (tn 3) ?_
        refine VW.region ?_
        obtain ⟨g201, h⟩ := gd_some h
        refine sG T_ok 4 [0, 1, 5, 60, 65536] [0] ⟨[(0, .lf (.hd 0 0 none)), (1, I (IntKind.i64.wrap ((IntKind.i64.wrap ((IntKind.i64.wrap ((IntKind.i64.wrap ((IntKind.i64.wrap ((IntKind.i64.wrap (x137 + (1 : Int))) + (1 : Int))) + (1 : Int))) + (1 : Int))) + (1 : Int))) + (1 : Int)))), (5, I x138), (60, .lf (.ptr 0 0 x138.toNat 6)), (65536, .lf (.hd 0 0 none))], [ar 0 Y105 (x136.set x138.toNat (x137, (y190, ((IntKind.i64.wrap ((IntKind.i64.wrap (x137 + (1 : Int))) + (1 : Int))), ((IntKind.i64.wrap ((IntKind.i64.wrap ((IntKind.i64.wrap (x137 + (1 : Int))) + (1 : Int))) + (1 : Int))), ((IntKind.i64.wrap ((IntKind.i64.wrap ((IntKind.i64.wrap ((IntKind.i64.wrap (x137 + (1 : Int))) + (1 : Int))) + (1 : Int))) + (1 : Int))), (((Int.tmod (IntKind.i64.wrap ((IntKind.i64.wrap ((IntKind.i64.wrap ((IntKind.i64.wrap ((IntKind.i64.wrap (x137 + (1 : Int))) + (1 : Int))) + (1 : Int))) + (1 : Int))) + (1 : Int))) (3 : Int)) == (0 : Int)), (x136.getD x138.toNat (Ty.dflt Y105)).2.2.2.2.2.2))))))) .dp]⟩ (pu 2 (an g201 (tn 1))) ?_
        obtain ⟨g203, h⟩ := gd_some h
        obtain ⟨y202, hy, h⟩ := andO_some h
        refine VO.lendInS (t := 48) (d1 := 61) (d2 := 62) (d3 := 63) (id := 0) (cur := 0) (i := x138.toNat) (j := 6) (v2 := I (IntKind.i64.wrap ((IntKind.i64.wrap ((IntKind.i64.wrap ((IntKind.i64.wrap ((IntKind.i64.wrap ((IntKind.i64.wrap (x137 + (1 : Int))) + (1 : Int))) + (1 : Int))) + (1 : Int))) + (1 : Int))) + (1 : Int)))) (f := 34) (l := [I (IntKind.i64.wrap ((IntKind.i64.wrap ((IntKind.i64.wrap ((IntKind.i64.wrap ((IntKind.i64.wrap ((IntKind.i64.wrap (x137 + (1 : Int))) + (1 : Int))) + (1 : Int))) + (1 : Int))) + (1 : Int))) + (1 : Int)))]) (e := Y105) (t' := (.int .i64)) (X := x136) (c := (x137, (y190, ((IntKind.i64.wrap ((IntKind.i64.wrap (x137 + (1 : Int))) + (1 : Int))), ((IntKind.i64.wrap ((IntKind.i64.wrap ((IntKind.i64.wrap (x137 + (1 : Int))) + (1 : Int))) + (1 : Int))), ((IntKind.i64.wrap ((IntKind.i64.wrap ((IntKind.i64.wrap ((IntKind.i64.wrap (x137 + (1 : Int))) + (1 : Int))) + (1 : Int))) + (1 : Int))), (((Int.tmod (IntKind.i64.wrap ((IntKind.i64.wrap ((IntKind.i64.wrap ((IntKind.i64.wrap ((IntKind.i64.wrap (x137 + (1 : Int))) + (1 : Int))) + (1 : Int))) + (1 : Int))) + (1 : Int))) (3 : Int)) == (0 : Int)), (x136.getD x138.toNat (Ty.dflt Y105)).2.2.2.2.2.2))))))) (ys := ((x136.getD x138.toNat (Ty.dflt Y105)).2.2.2.2.2.2)) (ys' := y202.1) (x' := (x137, (y190, ((IntKind.i64.wrap ((IntKind.i64.wrap (x137 + (1 : Int))) + (1 : Int))), ((IntKind.i64.wrap ((IntKind.i64.wrap ((IntKind.i64.wrap (x137 + (1 : Int))) + (1 : Int))) + (1 : Int))), ((IntKind.i64.wrap ((IntKind.i64.wrap ((IntKind.i64.wrap ((IntKind.i64.wrap (x137 + (1 : Int))) + (1 : Int))) + (1 : Int))) + (1 : Int))), (((Int.tmod (IntKind.i64.wrap ((IntKind.i64.wrap ((IntKind.i64.wrap ((IntKind.i64.wrap ((IntKind.i64.wrap (x137 + (1 : Int))) + (1 : Int))) + (1 : Int))) + (1 : Int))) + (1 : Int))) (3 : Int)) == (0 : Int)), y202.1))))))) (rs := [.lf (.v (.int .i64) y202.2)]) (v1 := 0) T_ok (by kernel_rfl) (by kernel_rfl) (by kernel_rfl) (by kernel_rfl) (by kernel_rfl) g203 (ok34 N _ _ hy) rfl ?_
        refine sN T_ok [0, 1, 5, 65536] [0] ⟨[(0, .lf (.hd 0 0 none)), (1, I y202.2), (5, I x138), (65536, .lf (.hd 0 0 none))], [ar 0 Y105 (x136.set x138.toNat (x137, (y190, ((IntKind.i64.wrap ((IntKind.i64.wrap (x137 + (1 : Int))) + (1 : Int))), ((IntKind.i64.wrap ((IntKind.i64.wrap ((IntKind.i64.wrap (x137 + (1 : Int))) + (1 : Int))) + (1 : Int))), ((IntKind.i64.wrap ((IntKind.i64.wrap ((IntKind.i64.wrap ((IntKind.i64.wrap (x137 + (1 : Int))) + (1 : Int))) + (1 : Int))) + (1 : Int))), (((Int.tmod (IntKind.i64.wrap ((IntKind.i64.wrap ((IntKind.i64.wrap ((IntKind.i64.wrap ((IntKind.i64.wrap (x137 + (1 : Int))) + (1 : Int))) + (1 : Int))) + (1 : Int))) + (1 : Int))) (3 : Int)) == (0 : Int)), y202.1))))))) .dp]⟩ (tn 1) ?_
        refine rR T_ok [0, 1, 5, 65536] [0] ⟨[(0, .lf (.hd 0 0 none)), (1, I y202.2), (5, I (IntKind.i64.wrap (x138 + (1 : Int)))), (65536, .lf (.hd 0 0 none))], [ar 0 Y105 (x136.set x138.toNat (x137, (y190, ((IntKind.i64.wrap ((IntKind.i64.wrap (x137 + (1 : Int))) + (1 : Int))), ((IntKind.i64.wrap ((IntKind.i64.wrap ((IntKind.i64.wrap (x137 + (1 : Int))) + (1 : Int))) + (1 : Int))), ((IntKind.i64.wrap ((IntKind.i64.wrap ((IntKind.i64.wrap ((IntKind.i64.wrap (x137 + (1 : Int))) + (1 : Int))) + (1 : Int))) + (1 : Int))), (((Int.tmod (IntKind.i64.wrap ((IntKind.i64.wrap ((IntKind.i64.wrap ((IntKind.i64.wrap ((IntKind.i64.wrap (x137 + (1 : Int))) + (1 : Int))) + (1 : Int))) + (1 : Int))) + (1 : Int))) (3 : Int)) == (0 : Int)), y202.1))))))) .dp]⟩ (tn 3) ?_
        exact aro [.ren [0, 1, 5, 65536] [0]] ⟨(x136.set x138.toNat (x137, (y190, ((IntKind.i64.wrap ((IntKind.i64.wrap (x137 + (1 : Int))) + (1 : Int))), ((IntKind.i64.wrap ((IntKind.i64.wrap ((IntKind.i64.wrap (x137 + (1 : Int))) + (1 : Int))) + (1 : Int))), ((IntKind.i64.wrap ((IntKind.i64.wrap ((IntKind.i64.wrap ((IntKind.i64.wrap (x137 + (1 : Int))) + (1 : Int))) + (1 : Int))) + (1 : Int))), (((Int.tmod (IntKind.i64.wrap ((IntKind.i64.wrap ((IntKind.i64.wrap ((IntKind.i64.wrap ((IntKind.i64.wrap (x137 + (1 : Int))) + (1 : Int))) + (1 : Int))) + (1 : Int))) + (1 : Int))) (3 : Int)) == (0 : Int)), y202.1))))))), y202.2, (IntKind.i64.wrap (x138 + (1 : Int))), rfl, h⟩
      refine VW.exit ?_
      exact arv [.ren [1, 65536] [0]] ⟨x137, x136, rfl, h⟩
  rintro s ⟨x101, x102, rfl, h⟩
  unfold F33_j0 at h
  refine sR T_ok [4, 65536] [0] ⟨[(4, I x101), (65536, .lf (.hd 0 0 none))], [ar 0 Y105 x102 .dp]⟩ (tn 2) ?_
  replace h := Option.some.inj h
  subst h
  refine VW.ghl [.ren [4, 65536] [0]] (VW.ret ?_)
  exact ⟨[], by kernel_rfl, by kernel_rfl, by kernel_rfl⟩

/- loop.example/g00844/laws.markEntryS -/
def F80_j0 (N : Nat) (x77 : Int) (x78 : (List (Int × ((List (Int × (ByteArray × (Int × (Int × (Int × (Bool × (List Int)))))))) × ((List (Int × (ByteArray × (Int × (Int × (Int × (Bool × (List Int)))))))) × (Int × Int)))))) : Option ((List (Int × ((List (Int × (ByteArray × (Int × (Int × (Int × (Bool × (List Int)))))))) × ((List (Int × (ByteArray × (Int × (Int × (Int × (Bool × (List Int)))))))) × (Int × Int))))) × Int) :=
  some (x78, x77)
def F80_l0_b (N : Nat) (nx131 : (List (Int × ((List (Int × (ByteArray × (Int × (Int × (Int × (Bool × (List Int)))))))) × ((List (Int × (ByteArray × (Int × (Int × (Int × (Bool × (List Int)))))))) × (Int × Int))))) → Int → Int → Option ((List (Int × ((List (Int × (ByteArray × (Int × (Int × (Int × (Bool × (List Int)))))))) × ((List (Int × (ByteArray × (Int × (Int × (Int × (Bool × (List Int)))))))) × (Int × Int))))) × Int)) (x104 : (List (Int × ((List (Int × (ByteArray × (Int × (Int × (Int × (Bool × (List Int)))))))) × ((List (Int × (ByteArray × (Int × (Int × (Int × (Bool × (List Int)))))))) × (Int × Int)))))) (x105 : Int) (x106 : Int) : Option ((List (Int × ((List (Int × (ByteArray × (Int × (Int × (Int × (Bool × (List Int)))))))) × ((List (Int × (ByteArray × (Int × (Int × (Int × (Bool × (List Int)))))))) × (Int × Int))))) × Int) :=
  cond (decide (x106 < (x104.length : Int))) (gd (InR x106 x104.length) (gd (x106.toNat < x104.length) (gd (InR x106 (x104.set x106.toNat (x105, ((x104.getD x106.toNat (Ty.dflt Y151)).2.1, ((x104.getD x106.toNat (Ty.dflt Y151)).2.2.1, ((x104.getD x106.toNat (Ty.dflt Y151)).2.2.2.1, (x104.getD x106.toNat (Ty.dflt Y151)).2.2.2.2))))).length) (gd (x106.toNat < x104.length) (andO (F33 N ((x104.getD x106.toNat (Ty.dflt Y151)).2.1) (IntKind.i64.wrap (x105 + (1 : Int)))) fun y147 => gd (InR x106 (x104.set x106.toNat (x105, (y147.1, ((x104.getD x106.toNat (Ty.dflt Y151)).2.2.1, ((x104.getD x106.toNat (Ty.dflt Y151)).2.2.2.1, (x104.getD x106.toNat (Ty.dflt Y151)).2.2.2.2))))).length) (gd (x106.toNat < x104.length) (andO (F33 N ((x104.getD x106.toNat (Ty.dflt Y151)).2.2.1) y147.2) fun y150 => gd (InR x106 (x104.set x106.toNat (x105, (y147.1, (y150.1, ((x104.getD x106.toNat (Ty.dflt Y151)).2.2.2.1, (x104.getD x106.toNat (Ty.dflt Y151)).2.2.2.2))))).length) (gd (x106.toNat < (x104.set x106.toNat (x105, (y147.1, (y150.1, ((x104.getD x106.toNat (Ty.dflt Y151)).2.2.2.1, (x104.getD x106.toNat (Ty.dflt Y151)).2.2.2.2))))).length) (gd (InR x106 (x104.set x106.toNat (x105, (y147.1, (y150.1, (y150.2, (x104.getD x106.toNat (Ty.dflt Y151)).2.2.2.2))))).length) (gd (x106.toNat < (x104.set x106.toNat (x105, (y147.1, (y150.1, (y150.2, (x104.getD x106.toNat (Ty.dflt Y151)).2.2.2.2))))).length) (nx131 (x104.set x106.toNat (x105, (y147.1, (y150.1, (y150.2, (IntKind.i64.wrap (y150.2 + (1 : Int)))))))) (IntKind.i64.wrap ((IntKind.i64.wrap (y150.2 + (1 : Int))) + (1 : Int))) (IntKind.i64.wrap (x106 + (1 : Int)))))))))))))) (F80_j0 N x105 x104)
def F80_l0 (N : Nat) : Nat → (List (Int × ((List (Int × (ByteArray × (Int × (Int × (Int × (Bool × (List Int)))))))) × ((List (Int × (ByteArray × (Int × (Int × (Int × (Bool × (List Int)))))))) × (Int × Int))))) → Int → Int → Option ((List (Int × ((List (Int × (ByteArray × (Int × (Int × (Int × (Bool × (List Int)))))))) × ((List (Int × (ByteArray × (Int × (Int × (Int × (Bool × (List Int)))))))) × (Int × Int))))) × Int) := loopF (F80_l0_b N) (fun _ _ _ => none)
theorem F80_l0_s (N : Nat) {k : Nat} (hk : 0 < k) (x104 : (List (Int × ((List (Int × (ByteArray × (Int × (Int × (Int × (Bool × (List Int)))))))) × ((List (Int × (ByteArray × (Int × (Int × (Int × (Bool × (List Int)))))))) × (Int × Int)))))) (x105 : Int) (x106 : Int) : F80_l0 N k x104 x105 x106 = F80_l0_b N (F80_l0 N (k - 1)) x104 x105 x106 := by
  cases k with
  | zero => exact absurd hk (Nat.lt_irrefl 0)
  | succ m => rfl
def F80 (N : Nat) (a0 : (List (Int × ((List (Int × (ByteArray × (Int × (Int × (Int × (Bool × (List Int)))))))) × ((List (Int × (ByteArray × (Int × (Int × (Int × (Bool × (List Int)))))))) × (Int × Int)))))) (a1 : Int) : Option ((List (Int × ((List (Int × (ByteArray × (Int × (Int × (Int × (Bool × (List Int)))))))) × ((List (Int × (ByteArray × (Int × (Int × (Int × (Bool × (List Int)))))))) × (Int × Int))))) × Int) :=
  F80_l0 N N a0 a1 (0 : Int)
theorem ok80 (N : Nat) (a0 : (List (Int × ((List (Int × (ByteArray × (Int × (Int × (Int × (Bool × (List Int)))))))) × ((List (Int × (ByteArray × (Int × (Int × (Int × (Bool × (List Int)))))))) × (Int × Int)))))) (a1 : Int) {r : (List (Int × ((List (Int × (ByteArray × (Int × (Int × (Int × (Bool × (List Int)))))))) × ((List (Int × (ByteArray × (Int × (Int × (Int × (Bool × (List Int)))))))) × (Int × Int))))) × Int} (h : F80 N a0 a1 = some r) : ConM Go.Proofs.Try.prog 80 [ar 0 Y151 a0 .dp] [.lf (.hd 0 0 none), I a1] [.lf (.v (.int .i64) r.2)] [ar 0 Y151 r.1 .dp] := by
  refine ⟨enters_of Go.Proofs.Try.func80 rfl (by decide), HM.intro [.lf (.v (.int .i64))] T_ok Go.Proofs.Try.func80 rfl (Nat.le_of_ble_eq_true rfl) (Nat.le_of_ble_eq_true rfl) fun w0 E0 => ?_⟩
  unfold F80 at h
  show VW _ _ _ _ _ (retM _ _ _ _ _) _
  refine sR T_ok [0, 1, 65536] [0] ⟨[(0, .lf (.hd 0 0 none)), (1, I a1), (65536, .lf (.hd 0 0 none))], [ar 0 Y151 a0 .dp]⟩ (tn 1) ?_
  refine VW.join (fun s => ∃ (x77 : Int) (x78 : (List (Int × ((List (Int × (ByteArray × (Int × (Int × (Int × (Bool × (List Int)))))))) × ((List (Int × (ByteArray × (Int × (Int × (Int × (Bool × (List Int)))))))) × (Int × Int)))))), s = ⟨[(1, I x77), (65536, .lf (.hd 0 0 none))], [ar 0 Y151 x78 .dp]⟩ ∧ F80_j0 N x77 x78 = some r) ?_ ?_
  · refine sR T_ok [0, 1, 5, 65536] [0] ⟨[(0, .lf (.hd 0 0 none)), (1, I a1), (5, I (0 : Int)), (65536, .lf (.hd 0 0 none))], [ar 0 Y151 a0 .dp]⟩ (tn 1) ?_
    refine VW.block ?_
    refine lop (fun k s => ∃ (x104 : (List (Int × ((List (Int × (ByteArray × (Int × (Int × (Int × (Bool × (List Int)))))))) × ((List (Int × (ByteArray × (Int × (Int × (Int × (Bool × (List Int)))))))) × (Int × Int)))))) (x105 : Int) (x106 : Int), s = ⟨[(0, .lf (.hd 0 0 none)), (1, I x105), (5, I x106), (65536, .lf (.hd 0 0 none))], [ar 0 Y151 x104 .dp]⟩ ∧ F80_l0 N k x104 x105 x106 = some r) N [.ren [0, 1, 5, 65536] [0]] ⟨a0, a1, (0 : Int), rfl, h⟩ ?_
    rintro k131 s ⟨x104, x105, x106, rfl, h⟩
    cases k131 with
    | zero => cases show none = some r from h
    | succ k131 =>
      replace h : F80_l0_b N (F80_l0 N k131) x104 x105 x106 = some r := h
      unfold F80_l0_b at h
      refine VW.seq ?_
      refine sR T_ok [0, 1, 5, 9, 65536] [0] ⟨[(0, .lf (.hd 0 0 none)), (1, I x105), (5, I x106), (9, B (decide (x106 < (x104.length : Int)))), (65536, .lf (.hd 0 0 none))], [ar 0 Y151 x104 .dp]⟩ (tn 4) ?_
      refine cnd h (fun h => ?_) (fun h => ?_)
      · refine VW.skip ?_
        refine VW.seq ?_
        refine VW.block ?_
        obtain ⟨g144, h⟩ := gd_some h
        obtain ⟨g145, h⟩ := gd_some h
        refine sR T_ok [0, 1, 5, 65536] [0] ⟨[(0, .lf (.hd 0 0 none)), (1, I x105), (5, I x106), (65536, .lf (.hd 0 0 none))], [ar 0 Y151 (x104.set x106.toNat (x105, ((x104.getD x106.toNat (Ty.dflt Y151)).2.1, ((x104.getD x106.toNat (Ty.dflt Y151)).2.2.1, ((x104.getD x106.toNat (Ty.dflt Y151)).2.2.2.1, (x104.getD x106.toNat (Ty.dflt Y151)).2.2.2.2))))) .dp]⟩ (pu 3 (an g144 (pu 1 (an g145 (tn 0))))) ?_
        refine sR T_ok [0, 1, 5, 65536] [0] ⟨[(0, .lf (.hd 0 0 none)), (1, I (IntKind.i64.wrap (x105 + (1 : Int)))), (5, I x106), (65536, .lf (.hd 0 0 none))], [ar 0 Y151 (x104.set x106.toNat (x105, ((x104.getD x106.toNat (Ty.dflt Y151)).2.1, ((x104.getD x106.toNat (Ty.dflt Y151)).2.2.1, ((x104.getD x106.toNat (Ty.dflt Y151)).2.2.2.1, (x104.getD x106.toNat (Ty.dflt Y151)).2.2.2.2))))) .dp]⟩ (tn 3) ?_
        refine VW.seq ?_
        refine VW.region ?_
        obtain ⟨g146, h⟩ := gd_some h
        refine sG T_ok 4 [0, 1, 5, 22, 65536] [0] ⟨[(0, .lf (.hd 0 0 none)), (1, I (IntKind.i64.wrap (x105 + (1 : Int)))), (5, I x106), (22, .lf (.ptr 0 0 x106.toNat 1)), (65536, .lf (.hd 0 0 none))], [ar 0 Y151 (x104.set x106.toNat (x105, ((x104.getD x106.toNat (Ty.dflt Y151)).2.1, ((x104.getD x106.toNat (Ty.dflt Y151)).2.2.1, ((x104.getD x106.toNat (Ty.dflt Y151)).2.2.2.1, (x104.getD x106.toNat (Ty.dflt Y151)).2.2.2.2))))) .dp]⟩ (pu 2 (an g146 (tn 1))) ?_
        obtain ⟨g148, h⟩ := gd_some h
        obtain ⟨y147, hy, h⟩ := andO_some h
        refine VO.lendInS (t := 44) (d1 := 23) (d2 := 24) (d3 := 25) (id := 0) (cur := 0) (i := x106.toNat) (j := 1) (v2 := I (IntKind.i64.wrap (x105 + (1 : Int)))) (f := 33) (l := [I (IntKind.i64.wrap (x105 + (1 : Int)))]) (e := Y151) (t' := Y105) (X := x104) (c := (x105, ((x104.getD x106.toNat (Ty.dflt Y151)).2.1, ((x104.getD x106.toNat (Ty.dflt Y151)).2.2.1, ((x104.getD x106.toNat (Ty.dflt Y151)).2.2.2.1, (x104.getD x106.toNat (Ty.dflt Y151)).2.2.2.2))))) (ys := ((x104.getD x106.toNat (Ty.dflt Y151)).2.1)) (ys' := y147.1) (x' := (x105, (y147.1, ((x104.getD x106.toNat (Ty.dflt Y151)).2.2.1, ((x104.getD x106.toNat (Ty.dflt Y151)).2.2.2.1, (x104.getD x106.toNat (Ty.dflt Y151)).2.2.2.2))))) (rs := [.lf (.v (.int .i64) y147.2)]) (v1 := 0) T_ok (by kernel_rfl) (by kernel_rfl) (by kernel_rfl) (by kernel_rfl) (by kernel_rfl) g148 (ok33 N _ _ hy) rfl ?_
        refine sN T_ok [0, 1, 5, 65536] [0] ⟨[(0, .lf (.hd 0 0 none)), (1, I y147.2), (5, I x106), (65536, .lf (.hd 0 0 none))], [ar 0 Y151 (x104.set x106.toNat (x105, (y147.1, ((x104.getD x106.toNat (Ty.dflt Y151)).2.2.1, ((x104.getD x106.toNat (Ty.dflt Y151)).2.2.2.1, (x104.getD x106.toNat (Ty.dflt Y151)).2.2.2.2))))) .dp]⟩ (tn 1) ?_
        refine VW.seq ?_
        refine VW.region ?_
        obtain ⟨g149, h⟩ := gd_some h
        refine sG T_ok 4 [0, 1, 5, 29, 65536] [0] ⟨[(0, .lf (.hd 0 0 none)), (1, I y147.2), (5, I x106), (29, .lf (.ptr 0 0 x106.toNat 2)), (65536, .lf (.hd 0 0 none))], [ar 0 Y151 (x104.set x106.toNat (x105, (y147.1, ((x104.getD x106.toNat (Ty.dflt Y151)).2.2.1, ((x104.getD x106.toNat (Ty.dflt Y151)).2.2.2.1, (x104.getD x106.toNat (Ty.dflt Y151)).2.2.2.2))))) .dp]⟩ (pu 2 (an g149 (tn 1))) ?_
        obtain ⟨g151, h⟩ := gd_some h
        obtain ⟨y150, hy, h⟩ := andO_some h
        refine VO.lendInS (t := 44) (d1 := 30) (d2 := 31) (d3 := 32) (id := 0) (cur := 0) (i := x106.toNat) (j := 2) (v2 := I y147.2) (f := 33) (l := [I y147.2]) (e := Y151) (t' := Y105) (X := x104) (c := (x105, (y147.1, ((x104.getD x106.toNat (Ty.dflt Y151)).2.2.1, ((x104.getD x106.toNat (Ty.dflt Y151)).2.2.2.1, (x104.getD x106.toNat (Ty.dflt Y151)).2.2.2.2))))) (ys := ((x104.getD x106.toNat (Ty.dflt Y151)).2.2.1)) (ys' := y150.1) (x' := (x105, (y147.1, (y150.1, ((x104.getD x106.toNat (Ty.dflt Y151)).2.2.2.1, (x104.getD x106.toNat (Ty.dflt Y151)).2.2.2.2))))) (rs := [.lf (.v (.int .i64) y150.2)]) (v1 := 0) T_ok (by kernel_rfl) (by kernel_rfl) (by kernel_rfl) (by kernel_rfl) (by kernel_rfl) g151 (ok33 N _ _ hy) rfl ?_
        refine sN T_ok [0, 1, 5, 65536] [0] ⟨[(0, .lf (.hd 0 0 none)), (1, I y150.2), (5, I x106), (65536, .lf (.hd 0 0 none))], [ar 0 Y151 (x104.set x106.toNat (x105, (y147.1, (y150.1, ((x104.getD x106.toNat (Ty.dflt Y151)).2.2.2.1, (x104.getD x106.toNat (Ty.dflt Y151)).2.2.2.2))))) .dp]⟩ (tn 1) ?_
        refine VW.seq ?_
        refine VW.region ?_
        obtain ⟨g152, h⟩ := gd_some h
        obtain ⟨g153, h⟩ := gd_some h
        refine sG T_ok 6 [0, 1, 5, 65536] [0] ⟨[(0, .lf (.hd 0 0 none)), (1, I y150.2), (5, I x106), (65536, .lf (.hd 0 0 none))], [ar 0 Y151 ((x104.set x106.toNat (x105, (y147.1, (y150.1, ((x104.getD x106.toNat (Ty.dflt Y151)).2.2.2.1, (x104.getD x106.toNat (Ty.dflt Y151)).2.2.2.2))))).set x106.toNat (((x104.set x106.toNat (x105, (y147.1, (y150.1, ((x104.getD x106.toNat (Ty.dflt Y151)).2.2.2.1, (x104.getD x106.toNat (Ty.dflt Y151)).2.2.2.2))))).getD x106.toNat (Ty.dflt Y151)).1, (((x104.set x106.toNat (x105, (y147.1, (y150.1, ((x104.getD x106.toNat (Ty.dflt Y151)).2.2.2.1, (x104.getD x106.toNat (Ty.dflt Y151)).2.2.2.2))))).getD x106.toNat (Ty.dflt Y151)).2.1, (((x104.set x106.toNat (x105, (y147.1, (y150.1, ((x104.getD x106.toNat (Ty.dflt Y151)).2.2.2.1, (x104.getD x106.toNat (Ty.dflt Y151)).2.2.2.2))))).getD x106.toNat (Ty.dflt Y151)).2.2.1, (y150.2, ((x104.set x106.toNat (x105, (y147.1, (y150.1, ((x104.getD x106.toNat (Ty.dflt Y151)).2.2.2.1, (x104.getD x106.toNat (Ty.dflt Y151)).2.2.2.2))))).getD x106.toNat (Ty.dflt Y151)).2.2.2.2))))) .dp]⟩ (pu 3 (an g152 (pu 1 (an g153 (tn 0))))) ?_
        rw [show ((x104.set x106.toNat (x105, (y147.1, (y150.1, ((x104.getD x106.toNat (Ty.dflt Y151)).2.2.2.1, (x104.getD x106.toNat (Ty.dflt Y151)).2.2.2.2))))).set x106.toNat (((x104.set x106.toNat (x105, (y147.1, (y150.1, ((x104.getD x106.toNat (Ty.dflt Y151)).2.2.2.1, (x104.getD x106.toNat (Ty.dflt Y151)).2.2.2.2))))).getD x106.toNat (Ty.dflt Y151)).1, (((x104.set x106.toNat (x105, (y147.1, (y150.1, ((x104.getD x106.toNat (Ty.dflt Y151)).2.2.2.1, (x104.getD x106.toNat (Ty.dflt Y151)).2.2.2.2))))).getD x106.toNat (Ty.dflt Y151)).2.1, (((x104.set x106.toNat (x105, (y147.1, (y150.1, ((x104.getD x106.toNat (Ty.dflt Y151)).2.2.2.1, (x104.getD x106.toNat (Ty.dflt Y151)).2.2.2.2))))).getD x106.toNat (Ty.dflt Y151)).2.2.1, (y150.2, ((x104.set x106.toNat (x105, (y147.1, (y150.1, ((x104.getD x106.toNat (Ty.dflt Y151)).2.2.2.1, (x104.getD x106.toNat (Ty.dflt Y151)).2.2.2.2))))).getD x106.toNat (Ty.dflt Y151)).2.2.2.2))))) = (x104.set x106.toNat (x105, (y147.1, (y150.1, (y150.2, (x104.getD x106.toNat (Ty.dflt Y151)).2.2.2.2))))) from set_upd x104 x106.toNat (x105, (y147.1, (y150.1, ((x104.getD x106.toNat (Ty.dflt Y151)).2.2.2.1, (x104.getD x106.toNat (Ty.dflt Y151)).2.2.2.2)))) (Ty.dflt Y151) (fun z => (z.1, (z.2.1, (z.2.2.1, (y150.2, z.2.2.2.2))))) (by simpa using g153)]
        refine sN T_ok [0, 1, 5, 65536] [0] ⟨[(0, .lf (.hd 0 0 none)), (1, I y150.2), (5, I x106), (65536, .lf (.hd 0 0 none))], [ar 0 Y151 (x104.set x106.toNat (x105, (y147.1, (y150.1, (y150.2, (x104.getD x106.toNat (Ty.dflt Y151)).2.2.2.2))))) .dp]⟩ (tn 0) ?_
        refine sR T_ok [0, 1, 5, 65536] [0] ⟨[(0, .lf (.hd 0 0 none)), (1, I (IntKind.i64.wrap (y150.2 + (1 : Int)))), (5, I x106), (65536, .lf (.hd 0 0 none))], [ar 0 Y151 (x104.set x106.toNat (x105, (y147.1, (y150.1, (y150.2, (x104.getD x106.toNat (Ty.dflt Y151)).2.2.2.2))))) .dp]⟩ (tn 3) ?_
        refine VW.seq ?_
        refine VW.region ?_
        obtain ⟨g154, h⟩ := gd_some h
        obtain ⟨g155, h⟩ := gd_some h
        refine sG T_ok 6 [0, 1, 5, 65536] [0] ⟨[(0, .lf (.hd 0 0 none)), (1, I (IntKind.i64.wrap (y150.2 + (1 : Int)))), (5, I x106), (65536, .lf (.hd 0 0 none))], [ar 0 Y151 ((x104.set x106.toNat (x105, (y147.1, (y150.1, (y150.2, (x104.getD x106.toNat (Ty.dflt Y151)).2.2.2.2))))).set x106.toNat (((x104.set x106.toNat (x105, (y147.1, (y150.1, (y150.2, (x104.getD x106.toNat (Ty.dflt Y151)).2.2.2.2))))).getD x106.toNat (Ty.dflt Y151)).1, (((x104.set x106.toNat (x105, (y147.1, (y150.1, (y150.2, (x104.getD x106.toNat (Ty.dflt Y151)).2.2.2.2))))).getD x106.toNat (Ty.dflt Y151)).2.1, (((x104.set x106.toNat (x105, (y147.1, (y150.1, (y150.2, (x104.getD x106.toNat (Ty.dflt Y151)).2.2.2.2))))).getD x106.toNat (Ty.dflt Y151)).2.2.1, (((x104.set x106.toNat (x105, (y147.1, (y150.1, (y150.2, (x104.getD x106.toNat (Ty.dflt Y151)).2.2.2.2))))).getD x106.toNat (Ty.dflt Y151)).2.2.2.1, (IntKind.i64.wrap (y150.2 + (1 : Int)))))))) .dp]⟩ (pu 3 (an g154 (pu 1 (an g155 (tn 0))))) ?_
        rw [show ((x104.set x106.toNat (x105, (y147.1, (y150.1, (y150.2, (x104.getD x106.toNat (Ty.dflt Y151)).2.2.2.2))))).set x106.toNat (((x104.set x106.toNat (x105, (y147.1, (y150.1, (y150.2, (x104.getD x106.toNat (Ty.dflt Y151)).2.2.2.2))))).getD x106.toNat (Ty.dflt Y151)).1, (((x104.set x106.toNat (x105, (y147.1, (y150.1, (y150.2, (x104.getD x106.toNat (Ty.dflt Y151)).2.2.2.2))))).getD x106.toNat (Ty.dflt Y151)).2.1, (((x104.set x106.toNat (x105, (y147.1, (y150.1, (y150.2, (x104.getD x106.toNat (Ty.dflt Y151)).2.2.2.2))))).getD x106.toNat (Ty.dflt Y151)).2.2.1, (((x104.set x106.toNat (x105, (y147.1, (y150.1, (y150.2, (x104.getD x106.toNat (Ty.dflt Y151)).2.2.2.2))))).getD x106.toNat (Ty.dflt Y151)).2.2.2.1, (IntKind.i64.wrap (y150.2 + (1 : Int)))))))) = (x104.set x106.toNat (x105, (y147.1, (y150.1, (y150.2, (IntKind.i64.wrap (y150.2 + (1 : Int)))))))) from set_upd x104 x106.toNat (x105, (y147.1, (y150.1, (y150.2, (x104.getD x106.toNat (Ty.dflt Y151)).2.2.2.2)))) (Ty.dflt Y151) (fun z => (z.1, (z.2.1, (z.2.2.1, (z.2.2.2.1, (IntKind.i64.wrap (y150.2 + (1 : Int)))))))) (by simpa using g155)]
        refine sN T_ok [0, 1, 5, 65536] [0] ⟨[(0, .lf (.hd 0 0 none)), (1, I (IntKind.i64.wrap (y150.2 + (1 : Int)))), (5, I x106), (65536, .lf (.hd 0 0 none))], [ar 0 Y151 (x104.set x106.toNat (x105, (y147.1, (y150.1, (y150.2, (IntKind.i64.wrap (y150.2 + (1 : Int)))))))) .dp]⟩ (tn 0) ?_
        refine rR T_ok [0, 1, 5, 65536] [0] ⟨[(0, .lf (.hd 0 0 none)), (1, I (IntKind.i64.wrap ((IntKind.i64.wrap (y150.2 + (1 : Int))) + (1 : Int)))), (5, I x106), (65536, .lf (.hd 0 0 none))], [ar 0 Y151 (x104.set x106.toNat (x105, (y147.1, (y150.1, (y150.2, (IntKind.i64.wrap (y150.2 + (1 : Int)))))))) .dp]⟩ (tn 3) ?_
        refine rR T_ok [0, 1, 5, 65536] [0] ⟨[(0, .lf (.hd 0 0 none)), (1, I (IntKind.i64.wrap ((IntKind.i64.wrap (y150.2 + (1 : Int))) + (1 : Int)))), (5, I (IntKind.i64.wrap (x106 + (1 : Int)))), (65536, .lf (.hd 0 0 none))], [ar 0 Y151 (x104.set x106.toNat (x105, (y147.1, (y150.1, (y150.2, (IntKind.i64.wrap (y150.2 + (1 : Int)))))))) .dp]⟩ (tn 3) ?_
        exact aro [.ren [0, 1, 5, 65536] [0]] ⟨(x104.set x106.toNat (x105, (y147.1, (y150.1, (y150.2, (IntKind.i64.wrap (y150.2 + (1 : Int)))))))), (IntKind.i64.wrap ((IntKind.i64.wrap (y150.2 + (1 : Int))) + (1 : Int))), (IntKind.i64.wrap (x106 + (1 : Int))), rfl, h⟩
      refine VW.exit ?_
      exact arv [.ren [1, 65536] [0]] ⟨x105, x104, rfl, h⟩
  rintro s ⟨x77, x78, rfl, h⟩
  unfold F80_j0 at h
  refine sR T_ok [4, 65536] [0] ⟨[(4, I x77), (65536, .lf (.hd 0 0 none))], [ar 0 Y151 x78 .dp]⟩ (tn 2) ?_
  replace h := Option.some.inj h
  subst h
  refine VW.ghl [.ren [4, 65536] [0]] (VW.ret ?_)
  exact ⟨[], by kernel_rfl, by kernel_rfl, by kernel_rfl⟩

/- loop.example/g00844/laws.markShelf -/
def F23 (N : Nat) (a0 : (Int × ((List (ByteArray × Int)) × ((List (Int × ((List (Int × (ByteArray × (Int × (Int × (Int × (Bool × (List Int)))))))) × ((List (Int × (ByteArray × (Int × (Int × (Int × (Bool × (List Int)))))))) × (Int × Int))))) × (Int × (Int × (Int × (Int × (Int × Int))))))))) (a1 : Int) : Option ((List (ByteArray × Int)) × (List (Int × ((List (Int × (ByteArray × (Int × (Int × (Int × (Bool × (List Int)))))))) × ((List (Int × (ByteArray × (Int × (Int × (Int × (Bool × (List Int)))))))) × (Int × Int))))) × Int) :=
  andO (F22 N a0.2.1 a1) fun y1 => andO (F80 N a0.2.2.1 y1.2) fun y2 => some (y1.1, y2.1, y2.2)
theorem ok23 (N : Nat) (a0 : (Int × ((List (ByteArray × Int)) × ((List (Int × ((List (Int × (ByteArray × (Int × (Int × (Int × (Bool × (List Int)))))))) × ((List (Int × (ByteArray × (Int × (Int × (Int × (Bool × (List Int)))))))) × (Int × Int))))) × (Int × (Int × (Int × (Int × (Int × Int))))))))) (a1 : Int) {r : (List (ByteArray × Int)) × (List (Int × ((List (Int × (ByteArray × (Int × (Int × (Int × (Bool × (List Int)))))))) × ((List (Int × (ByteArray × (Int × (Int × (Int × (Bool × (List Int)))))))) × (Int × Int))))) × Int} (h : F23 N a0 a1 = some r) : ConM Go.Proofs.Try.prog 23 [ar 0 Y93 a0.2.1 .dp, ar 0 Y151 a0.2.2.1 .dp] [.agg [.v (.int .i64) a0.1, .hd 0 0 none, .hd 1 0 none, .v (.int .i64) a0.2.2.2.1, .v (.int .i64) a0.2.2.2.2.1, .v (.int .i64) a0.2.2.2.2.2.1, .v (.int .i64) a0.2.2.2.2.2.2.1, .v (.int .i64) a0.2.2.2.2.2.2.2.1, .v (.int .i64) a0.2.2.2.2.2.2.2.2], I a1] [.lf (.v (.int .i64) r.2.2)] [ar 0 Y93 r.1 .dp, ar 0 Y151 r.2.1 .dp] := by
  refine ⟨enters_of Go.Proofs.Try.func23 rfl (by decide), HM.intro [.lf (.v (.int .i64))] T_ok Go.Proofs.Try.func23 rfl (Nat.le_of_ble_eq_true rfl) (Nat.le_of_ble_eq_true rfl) fun w0 E0 => ?_⟩
  unfold F23 at h
  show VW _ _ _ _ _ (retM _ _ _ _ _) _
  refine sR T_ok [1, 2, 65536, 65537] [2, 0, 1] ⟨[(1, I a1), (2, .lf (.ptr 0 0 0 0)), (65536, .lf (.hd 1 0 none)), (65537, .lf (.hd 2 0 none))], [bx [.v (.int .i64) a0.1, .hd 1 0 none, .hd 2 0 none, .v (.int .i64) a0.2.2.2.1, .v (.int .i64) a0.2.2.2.2.1, .v (.int .i64) a0.2.2.2.2.2.1, .v (.int .i64) a0.2.2.2.2.2.2.1, .v (.int .i64) a0.2.2.2.2.2.2.2.1, .v (.int .i64) a0.2.2.2.2.2.2.2.2] 32, ar 0 Y93 a0.2.1 .dp, ar 0 Y151 a0.2.2.1 .dp]⟩ (tn 2) ?_
  refine VW.seq ?_
  refine VW.region ?_
  refine sG T_ok 3 [2, 6, 7, 65536, 65537] [0, 1, 2] ⟨[(2, .lf (.ptr 0 0 0 0)), (6, .lf (.hd 1 0 none)), (7, I a1), (65536, .lf (.hd 1 0 none)), (65537, .lf (.hd 2 0 none))], [bx [.v (.int .i64) a0.1, .hd 1 0 none, .hd 2 0 none, .v (.int .i64) a0.2.2.2.1, .v (.int .i64) a0.2.2.2.2.1, .v (.int .i64) a0.2.2.2.2.2.1, .v (.int .i64) a0.2.2.2.2.2.2.1, .v (.int .i64) a0.2.2.2.2.2.2.2.1, .v (.int .i64) a0.2.2.2.2.2.2.2.2] 32, ar 0 Y93 a0.2.1 .dp, ar 0 Y151 a0.2.2.1 .dp]⟩ (tn 3) ?_
  obtain ⟨y1, hy, h⟩ := andO_some h
  refine VO.callM [1] [.t (.sl Y93), .t (.int .i64)] (d := some 8) (by kernel_rfl) (by kernel_rfl) (ok22 N _ _ hy) (by kernel_rfl) ?_
  refine sN T_ok [1, 2, 65536, 65537] [0, 1, 2] ⟨[(1, I y1.2), (2, .lf (.ptr 0 0 0 0)), (65536, .lf (.hd 1 0 none)), (65537, .lf (.hd 2 0 none))], [bx [.v (.int .i64) a0.1, .hd 1 0 none, .hd 2 0 none, .v (.int .i64) a0.2.2.2.1, .v (.int .i64) a0.2.2.2.2.1, .v (.int .i64) a0.2.2.2.2.2.1, .v (.int .i64) a0.2.2.2.2.2.2.1, .v (.int .i64) a0.2.2.2.2.2.2.2.1, .v (.int .i64) a0.2.2.2.2.2.2.2.2] 32, ar 0 Y93 y1.1 .dp, ar 0 Y151 a0.2.2.1 .dp]⟩ (tn 1) ?_
  refine VW.seq ?_
  refine VW.region ?_
  refine sG T_ok 3 [10, 11, 65536, 65537] [2, 1] ⟨[(10, .lf (.hd 0 0 none)), (11, I y1.2), (65536, .lf (.hd 1 0 none)), (65537, .lf (.hd 0 0 none))], [ar 0 Y151 a0.2.2.1 .dp, ar 0 Y93 y1.1 .dp]⟩ (tn 3) ?_
  obtain ⟨y2, hy, h⟩ := andO_some h
  refine VO.callM [0] [.t (.sl Y151), .t (.int .i64)] (d := some 12) (by kernel_rfl) (by kernel_rfl) (ok80 N _ _ hy) (by kernel_rfl) ?_
  refine sN T_ok [1, 65536, 65537] [1, 0] ⟨[(1, I y2.2), (65536, .lf (.hd 0 0 none)), (65537, .lf (.hd 1 0 none))], [ar 0 Y93 y1.1 .dp, ar 0 Y151 y2.1 .dp]⟩ (tn 1) ?_
  refine sR T_ok [4, 65536, 65537] [0, 1] ⟨[(4, I y2.2), (65536, .lf (.hd 0 0 none)), (65537, .lf (.hd 1 0 none))], [ar 0 Y93 y1.1 .dp, ar 0 Y151 y2.1 .dp]⟩ (tn 2) ?_
  replace h := Option.some.inj h
  subst h
  refine VW.ghl [.ren [4, 65536, 65537] [0, 1]] (VW.ret ?_)
  exact ⟨[], by kernel_rfl, by kernel_rfl, by kernel_rfl⟩

/- loop.example/g00844/laws.heldTableS -/
def F81_j0 (N : Nat) (x40 : Int) : Option (Int) :=
  some x40
def F81_l0_b (N : Nat) (a0 : (List (ByteArray × Int))) (nx68 : Int → Int → Option (Int)) (x54 : Int) (x55 : Int) : Option (Int) :=
  cond (decide (x55 < (a0.length : Int))) (gd (InR x55 a0.length) (andO (F69 N x54) fun y78 => cond (!(((a0.getD x55.toNat (Ty.dflt Y93)).1).toList == y78.toList)) (some (-1 : Int)) (gd (InR x55 a0.length) (cond (((a0.getD x55.toNat (Ty.dflt Y93)).2) != (IntKind.i64.wrap (x54 + (1 : Int)))) (some (-1 : Int)) (nx68 (IntKind.i64.wrap ((IntKind.i64.wrap (x54 + (1 : Int))) + (1 : Int))) (IntKind.i64.wrap (x55 + (1 : Int)))))))) (F81_j0 N x54)
def F81_l0 (N : Nat) (a0 : (List (ByteArray × Int))) : Nat → Int → Int → Option (Int) := loopF (F81_l0_b N a0) (fun _ _ => none)
theorem F81_l0_s (N : Nat) (a0 : (List (ByteArray × Int))) {k : Nat} (hk : 0 < k) (x54 : Int) (x55 : Int) : F81_l0 N a0 k x54 x55 = F81_l0_b N a0 (F81_l0 N a0 (k - 1)) x54 x55 := by
  cases k with
  | zero => exact absurd hk (Nat.lt_irrefl 0)
  | succ m => rfl
def F81 (N : Nat) (a0 : (List (ByteArray × Int))) (a1 : Int) : Option (Int) :=
  F81_l0 N a0 N a1 (0 : Int)
theorem ok81 (N : Nat) (a0 : (List (ByteArray × Int))) (a1 : Int) {r : Int} (h : F81 N a0 a1 = some r) : Con Go.Proofs.Try.prog 81 [.lf (.v (.sl Y93) a0), I a1] [.lf (.v (.int .i64) r)] := by
  refine ctr [.lf (.v (.int .i64))] T_ok Go.Proofs.Try.func81 rfl fun w0 E0 => ?_
  unfold F81 at h
  show VW _ _ _ _ _ (retQ _ _ _ _) _
  refine sR T_ok [0, 1] [] ⟨[(0, .lf (.v (.sl Y93) a0)), (1, I a1)], []⟩ (tn 1) ?_
  refine VW.join (fun s => ∃ (x40 : Int), s = ⟨[(1, I x40)], []⟩ ∧ F81_j0 N x40 = some r) ?_ ?_
  · refine sR T_ok [0, 1, 5] [] ⟨[(0, .lf (.v (.sl Y93) a0)), (1, I a1), (5, I (0 : Int))], []⟩ (tn 1) ?_
    refine VW.block ?_
    refine lop (fun k s => ∃ (x54 : Int) (x55 : Int), s = ⟨[(0, .lf (.v (.sl Y93) a0)), (1, I x54), (5, I x55)], []⟩ ∧ F81_l0 N a0 k x54 x55 = some r) N [.ren [0, 1, 5] []] ⟨a1, (0 : Int), rfl, h⟩ ?_
    rintro k68 s ⟨x54, x55, rfl, h⟩
    cases k68 with
    | zero => cases show none = some r from h
    | succ k68 =>
      replace h : F81_l0_b N a0 (F81_l0 N a0 k68) x54 x55 = some r := h
      unfold F81_l0_b at h
      refine VW.seq ?_
      refine sR T_ok [0, 1, 5, 9] [] ⟨[(0, .lf (.v (.sl Y93) a0)), (1, I x54), (5, I x55), (9, B (decide (x55 < (a0.length : Int))))], []⟩ (tn 4) ?_
      refine cnd h (fun h => ?_) (fun h => ?_)
      · refine VW.skip ?_
        refine VW.seq ?_
        refine VW.block ?_
        refine VW.seq ?_
        refine VW.seq ?_
        obtain ⟨g77, h⟩ := gd_some h
        obtain ⟨y78, hy78, h⟩ := andO_some h
        refine VW.drawn (by kernel_rfl) [some (12, .lf (.v (.sl Y93) a0)), some (13, I x55), some (14, .lf (.fp Y93 (a0.getD x55.toNat (Ty.dflt Y93)) 0)), some (15, .lf (.fp Y93 (a0.getD x55.toNat (Ty.dflt Y93)) 0)), some (16, S ((a0.getD x55.toNat (Ty.dflt Y93)).1)), some (17, I x54), some (18, S y78), some (19, B (!(((a0.getD x55.toNat (Ty.dflt Y93)).1).toList == y78.toList)))] [] [[]] [(0, 0), (1, 0), (2, 0), (3, 0), (4, 0), (5, 0), (6, 0), (7, 0)] [0, 1, 5, 19] [] (s' := ⟨[(0, .lf (.v (.sl Y93) a0)), (1, I x54), (5, I x55), (19, B (!(((a0.getD x55.toNat (Ty.dflt Y93)).1).toList == y78.toList)))], []⟩) (by kernel_rfl) (by kernel_rfl) ⟨⟨_, rfl, Stp.ev T_ok (m := .dp) (φ := True) (by kernel_rfl) trivial⟩,
    ⟨_, rfl, Stp.ev T_ok (m := .dp) (φ := True) (by kernel_rfl) trivial⟩,
    ⟨_, rfl, Stp.ev T_ok (m := .dp) (φ := InR x55 a0.length) (by kernel_rfl) g77⟩,
    ⟨_, rfl, Stp.ev T_ok (m := .dp) (φ := True) (by kernel_rfl) trivial⟩,
    ⟨_, rfl, Stp.ev T_ok (m := .dp) (φ := True) (by kernel_rfl) trivial⟩,
    ⟨_, rfl, Stp.ev T_ok (m := .dp) (φ := True) (by kernel_rfl) trivial⟩,
    ⟨_, rfl, Stp.eq (Stp.call false [.t (.int .i64)] [] T_ok (d := some 18) (by kernel_rfl) (ok69 N _ hy78) rfl) (by kernel_rfl) (by kernel_rfl)⟩,
    ⟨_, rfl, Stp.ev T_ok (m := .dp) (φ := True) (by kernel_rfl) trivial⟩, trivial⟩ (by kernel_rfl) ?_
        refine cnd h (fun h => ?_) (fun h => ?_)
        · refine sR T_ok [4] [] ⟨[(4, I (-1 : Int))], []⟩ (tn 1) ?_
          refine VW.ret ?_
          replace h := Option.some.inj h
          subst h
          exact rt []
        refine VW.skip ?_
        refine sR T_ok [0, 1, 5] [] ⟨[(0, .lf (.v (.sl Y93) a0)), (1, I (IntKind.i64.wrap (x54 + (1 : Int)))), (5, I x55)], []⟩ (tn 3) ?_
        refine VW.seq ?_
        obtain ⟨g80, h⟩ := gd_some h
        refine sR T_ok [0, 1, 5, 28] [] ⟨[(0, .lf (.v (.sl Y93) a0)), (1, I (IntKind.i64.wrap (x54 + (1 : Int)))), (5, I x55), (28, B (((a0.getD x55.toNat (Ty.dflt Y93)).2) != (IntKind.i64.wrap (x54 + (1 : Int)))))], []⟩ (pu 2 (an g80 (tn 4))) ?_
        refine cnd h (fun h => ?_) (fun h => ?_)
        · refine sR T_ok [4] [] ⟨[(4, I (-1 : Int))], []⟩ (tn 1) ?_
          refine VW.ret ?_
          replace h := Option.some.inj h
          subst h
          exact rt []
        refine VW.skip ?_
        refine rR T_ok [0, 1, 5] [] ⟨[(0, .lf (.v (.sl Y93) a0)), (1, I (IntKind.i64.wrap ((IntKind.i64.wrap (x54 + (1 : Int))) + (1 : Int)))), (5, I x55)], []⟩ (tn 3) ?_
        refine rR T_ok [0, 1, 5] [] ⟨[(0, .lf (.v (.sl Y93) a0)), (1, I (IntKind.i64.wrap ((IntKind.i64.wrap (x54 + (1 : Int))) + (1 : Int)))), (5, I (IntKind.i64.wrap (x55 + (1 : Int))))], []⟩ (tn 3) ?_
        exact aro [.ren [0, 1, 5] []] ⟨(IntKind.i64.wrap ((IntKind.i64.wrap (x54 + (1 : Int))) + (1 : Int))), (IntKind.i64.wrap (x55 + (1 : Int))), rfl, h⟩
      refine VW.exit ?_
      exact arv [.ren [1] []] ⟨x54, rfl, h⟩
  rintro s ⟨x40, rfl, h⟩
  unfold F81_j0 at h
  refine sR T_ok [4] [] ⟨[(4, I x40)], []⟩ (tn 2) ?_
  refine VW.ret ?_
  replace h := Option.some.inj h
  subst h
  exact rt []

/- loop.example/g00844/laws.heldIntS -/
def F35_j0 (N : Nat) (x16 : Int) : Option (Int) :=
  some x16
def F35_l0_b (N : Nat) (a0 : (List Int)) (nx28 : Int → Int → Option (Int)) (x22 : Int) (x23 : Int) : Option (Int) :=
  cond (decide (x23 < (a0.length : Int))) (gd (InR x23 a0.length) (cond ((a0.getD x23.toNat (Ty.dflt (.int .i64))) != x22) (some (-1 : Int)) (nx28 (IntKind.i64.wrap (x22 + (1 : Int))) (IntKind.i64.wrap (x23 + (1 : Int)))))) (F35_j0 N x22)
def F35_l0 (N : Nat) (a0 : (List Int)) : Nat → Int → Int → Option (Int) := loopF (F35_l0_b N a0) (fun _ _ => none)
theorem F35_l0_s (N : Nat) (a0 : (List Int)) {k : Nat} (hk : 0 < k) (x22 : Int) (x23 : Int) : F35_l0 N a0 k x22 x23 = F35_l0_b N a0 (F35_l0 N a0 (k - 1)) x22 x23 := by
  cases k with
  | zero => exact absurd hk (Nat.lt_irrefl 0)
  | succ m => rfl
def F35 (N : Nat) (a0 : (List Int)) (a1 : Int) : Option (Int) :=
  F35_l0 N a0 N a1 (0 : Int)
theorem ok35 (N : Nat) (a0 : (List Int)) (a1 : Int) {r : Int} (h : F35 N a0 a1 = some r) : Con Go.Proofs.Try.prog 35 [.lf (.v (.sl (.int .i64)) a0), I a1] [.lf (.v (.int .i64) r)] := by
  refine ctr [.lf (.v (.int .i64))] T_ok Go.Proofs.Try.func35 rfl fun w0 E0 => ?_
  unfold F35 at h
  show VW _ _ _ _ _ (retQ _ _ _ _) _
  refine sR T_ok [0, 1] [] ⟨[(0, .lf (.v (.sl (.int .i64)) a0)), (1, I a1)], []⟩ (tn 1) ?_
  refine VW.join (fun s => ∃ (x16 : Int), s = ⟨[(1, I x16)], []⟩ ∧ F35_j0 N x16 = some r) ?_ ?_
  · refine sR T_ok [0, 1, 5] [] ⟨[(0, .lf (.v (.sl (.int .i64)) a0)), (1, I a1), (5, I (0 : Int))], []⟩ (tn 1) ?_
    refine VW.block ?_
    refine lop (fun k s => ∃ (x22 : Int) (x23 : Int), s = ⟨[(0, .lf (.v (.sl (.int .i64)) a0)), (1, I x22), (5, I x23)], []⟩ ∧ F35_l0 N a0 k x22 x23 = some r) N [.ren [0, 1, 5] []] ⟨a1, (0 : Int), rfl, h⟩ ?_
    rintro k28 s ⟨x22, x23, rfl, h⟩
    cases k28 with
    | zero => cases show none = some r from h
    | succ k28 =>
      replace h : F35_l0_b N a0 (F35_l0 N a0 k28) x22 x23 = some r := h
      unfold F35_l0_b at h
      refine VW.seq ?_
      refine sR T_ok [0, 1, 5, 9] [] ⟨[(0, .lf (.v (.sl (.int .i64)) a0)), (1, I x22), (5, I x23), (9, B (decide (x23 < (a0.length : Int))))], []⟩ (tn 4) ?_
      refine cnd h (fun h => ?_) (fun h => ?_)
      · refine VW.skip ?_
        refine VW.seq ?_
        refine VW.block ?_
        refine VW.seq ?_
        obtain ⟨g32, h⟩ := gd_some h
        refine sR T_ok [0, 1, 5, 17] [] ⟨[(0, .lf (.v (.sl (.int .i64)) a0)), (1, I x22), (5, I x23), (17, B ((a0.getD x23.toNat (Ty.dflt (.int .i64))) != x22))], []⟩ (pu 2 (an g32 (tn 3))) ?_
        refine cnd h (fun h => ?_) (fun h => ?_)
        · refine sR T_ok [4] [] ⟨[(4, I (-1 : Int))], []⟩ (tn 1) ?_
          refine VW.ret ?_
          replace h := Option.some.inj h
          subst h
          exact rt []
        refine VW.skip ?_
        refine rR T_ok [0, 1, 5] [] ⟨[(0, .lf (.v (.sl (.int .i64)) a0)), (1, I (IntKind.i64.wrap (x22 + (1 : Int)))), (5, I x23)], []⟩ (tn 3) ?_
        refine rR T_ok [0, 1, 5] [] ⟨[(0, .lf (.v (.sl (.int .i64)) a0)), (1, I (IntKind.i64.wrap (x22 + (1 : Int)))), (5, I (IntKind.i64.wrap (x23 + (1 : Int))))], []⟩ (tn 3) ?_
        exact aro [.ren [0, 1, 5] []] ⟨(IntKind.i64.wrap (x22 + (1 : Int))), (IntKind.i64.wrap (x23 + (1 : Int))), rfl, h⟩
      refine VW.exit ?_
      exact arv [.ren [1] []] ⟨x22, rfl, h⟩
  rintro s ⟨x16, rfl, h⟩
  unfold F35_j0 at h
  refine sR T_ok [4] [] ⟨[(4, I x16)], []⟩ (tn 2) ?_
  refine VW.ret ?_
  replace h := Option.some.inj h
  subst h
  exact rt []

/- loop.example/g00844/laws.heldNodeS -/
def F50_j0 (N : Nat) (x100 : Int) : Option (Int) :=
  some x100
def F50_l0_b (N : Nat) (a0 : (List (Int × (ByteArray × (Int × (Int × (Int × (Bool × (List Int))))))))) (nx168 : Int → Int → Option (Int)) (x134 : Int) (x135 : Int) : Option (Int) :=
  cond (decide (x135 < (a0.length : Int))) (gd (InR x135 a0.length) (cond (((a0.getD x135.toNat (Ty.dflt Y105)).1) != x134) (some (-1 : Int)) (gd (InR x135 a0.length) (andO (F69 N (IntKind.i64.wrap (x134 + (1 : Int)))) fun y190 => cond (!(((a0.getD x135.toNat (Ty.dflt Y105)).2.1).toList == y190.toList)) (some (-1 : Int)) (gd (InR x135 a0.length) (cond (((a0.getD x135.toNat (Ty.dflt Y105)).2.2.1) != (IntKind.i64.wrap ((IntKind.i64.wrap (x134 + (1 : Int))) + (1 : Int)))) (some (-1 : Int)) (gd (InR x135 a0.length) (cond (((a0.getD x135.toNat (Ty.dflt Y105)).2.2.2.1) != (IntKind.i64.wrap ((IntKind.i64.wrap ((IntKind.i64.wrap (x134 + (1 : Int))) + (1 : Int))) + (1 : Int)))) (some (-1 : Int)) (gd (InR x135 a0.length) (cond (((a0.getD x135.toNat (Ty.dflt Y105)).2.2.2.2.1) != (IntKind.i64.wrap ((IntKind.i64.wrap ((IntKind.i64.wrap ((IntKind.i64.wrap (x134 + (1 : Int))) + (1 : Int))) + (1 : Int))) + (1 : Int)))) (some (-1 : Int)) (gd (InR x135 a0.length) (cond (!(((a0.getD x135.toNat (Ty.dflt Y105)).2.2.2.2.2.1) == ((Int.tmod (IntKind.i64.wrap ((IntKind.i64.wrap ((IntKind.i64.wrap ((IntKind.i64.wrap ((IntKind.i64.wrap (x134 + (1 : Int))) + (1 : Int))) + (1 : Int))) + (1 : Int))) + (1 : Int))) (3 : Int)) == (0 : Int)))) (some (-1 : Int)) (gd (InR x135 a0.length) (andO (F35 N ((a0.getD x135.toNat (Ty.dflt Y105)).2.2.2.2.2.2) (IntKind.i64.wrap ((IntKind.i64.wrap ((IntKind.i64.wrap ((IntKind.i64.wrap ((IntKind.i64.wrap ((IntKind.i64.wrap (x134 + (1 : Int))) + (1 : Int))) + (1 : Int))) + (1 : Int))) + (1 : Int))) + (1 : Int)))) fun y200 => cond (decide (y200 < (0 : Int))) (some (-1 : Int)) (nx168 y200 (IntKind.i64.wrap (x135 + (1 : Int)))))))))))))))))) (F50_j0 N x134)
def F50_l0 (N : Nat) (a0 : (List (Int × (ByteArray × (Int × (Int × (Int × (Bool × (List Int))))))))) : Nat → Int → Int → Option (Int) := loopF (F50_l0_b N a0) (fun _ _ => none)
theorem F50_l0_s (N : Nat) (a0 : (List (Int × (ByteArray × (Int × (Int × (Int × (Bool × (List Int))))))))) {k : Nat} (hk : 0 < k) (x134 : Int) (x135 : Int) : F50_l0 N a0 k x134 x135 = F50_l0_b N a0 (F50_l0 N a0 (k - 1)) x134 x135 := by
  cases k with
  | zero => exact absurd hk (Nat.lt_irrefl 0)
  | succ m => rfl
def F50 (N : Nat) (a0 : (List (Int × (ByteArray × (Int × (Int × (Int × (Bool × (List Int))))))))) (a1 : Int) : Option (Int) :=
  F50_l0 N a0 N a1 (0 : Int)
theorem ok50 (N : Nat) (a0 : (List (Int × (ByteArray × (Int × (Int × (Int × (Bool × (List Int))))))))) (a1 : Int) {r : Int} (h : F50 N a0 a1 = some r) : Con Go.Proofs.Try.prog 50 [.lf (.v (.sl Y105) a0), I a1] [.lf (.v (.int .i64) r)] := by
  refine ctr [.lf (.v (.int .i64))] T_ok Go.Proofs.Try.func50 rfl fun w0 E0 => ?_
  unfold F50 at h
  show VW _ _ _ _ _ (retQ _ _ _ _) _
  refine sR T_ok [0, 1] [] ⟨[(0, .lf (.v (.sl Y105) a0)), (1, I a1)], []⟩ (tn 1) ?_
  refine VW.join (fun s => ∃ (x100 : Int), s = ⟨[(1, I x100)], []⟩ ∧ F50_j0 N x100 = some r) ?_ ?_
  · refine sR T_ok [0, 1, 5] [] ⟨[(0, .lf (.v (.sl Y105) a0)), (1, I a1), (5, I (0 : Int))], []⟩ (tn 1) ?_
    refine VW.block ?_
    refine lop (fun k s => ∃ (x134 : Int) (x135 : Int), s = ⟨[(0, .lf (.v (.sl Y105) a0)), (1, I x134), (5, I x135)], []⟩ ∧ F50_l0 N a0 k x134 x135 = some r) N [.ren [0, 1, 5] []] ⟨a1, (0 : Int), rfl, h⟩ ?_
    rintro k168 s ⟨x134, x135, rfl, h⟩
    cases k168 with
    | zero => cases show none = some r from h
    | succ k168 =>
      replace h : F50_l0_b N a0 (F50_l0 N a0 k168) x134 x135 = some r := h
      unfold F50_l0_b at h
      refine VW.seq ?_
      refine sR T_ok [0, 1, 5, 9] [] ⟨[(0, .lf (.v (.sl Y105) a0)), (1, I x134), (5, I x135), (9, B (decide (x135 < (a0.length : Int))))], []⟩ (tn 4) ?_
      refine cnd h (fun h => ?_) (fun h => ?_)
      · refine VW.skip ?_
        refine VW.seq ?_
        refine VW.block ?_
        refine VW.seq ?_
        obtain ⟨g186, h⟩ := gd_some h
        refine sR T_ok [0, 1, 5, 18] [] ⟨[(0, .lf (.v (.sl Y105) a0)), (1, I x134), (5, I x135), (18, B (((a0.getD x135.toNat (Ty.dflt Y105)).1) != x134))], []⟩ (pu 2 (an g186 (tn 4))) ?_
        refine cnd h (fun h => ?_) (fun h => ?_)
        · refine sR T_ok [4] [] ⟨[(4, I (-1 : Int))], []⟩ (tn 1) ?_
          refine VW.ret ?_
          replace h := Option.some.inj h
          subst h
          exact rt []
        refine VW.skip ?_
        refine sR T_ok [0, 1, 5] [] ⟨[(0, .lf (.v (.sl Y105) a0)), (1, I (IntKind.i64.wrap (x134 + (1 : Int)))), (5, I x135)], []⟩ (tn 3) ?_
        refine VW.seq ?_
        refine VW.seq ?_
        obtain ⟨g189, h⟩ := gd_some h
        obtain ⟨y190, hy190, h⟩ := andO_some h
        refine VW.drawn (by kernel_rfl) [some (21, .lf (.v (.sl Y105) a0)), some (22, I x135), some (23, .lf (.fp Y105 (a0.getD x135.toNat (Ty.dflt Y105)) 0)), some (24, .lf (.fp Y105 (a0.getD x135.toNat (Ty.dflt Y105)) 1)), some (25, S ((a0.getD x135.toNat (Ty.dflt Y105)).2.1)), some (26, I (IntKind.i64.wrap (x134 + (1 : Int)))), some (27, S y190), some (28, B (!(((a0.getD x135.toNat (Ty.dflt Y105)).2.1).toList == y190.toList)))] [] [[]] [(0, 0), (1, 0), (2, 0), (3, 0), (4, 0), (5, 0), (6, 0), (7, 0)] [0, 1, 5, 28] [] (s' := ⟨[(0, .lf (.v (.sl Y105) a0)), (1, I (IntKind.i64.wrap (x134 + (1 : Int)))), (5, I x135), (28, B (!(((a0.getD x135.toNat (Ty.dflt Y105)).2.1).toList == y190.toList)))], []⟩) (by kernel_rfl) (by kernel_rfl) ⟨⟨_, rfl, Stp.ev T_ok (m := .dp) (φ := True) (by kernel_rfl) trivial⟩,
    ⟨_, rfl, Stp.ev T_ok (m := .dp) (φ := True) (by kernel_rfl) trivial⟩,
    ⟨_, rfl, Stp.ev T_ok (m := .dp) (φ := InR x135 a0.length) (by kernel_rfl) g189⟩,
    ⟨_, rfl, Stp.ev T_ok (m := .dp) (φ := True) (by kernel_rfl) trivial⟩,
    ⟨_, rfl, Stp.ev T_ok (m := .dp) (φ := True) (by kernel_rfl) trivial⟩,
    ⟨_, rfl, Stp.ev T_ok (m := .dp) (φ := True) (by kernel_rfl) trivial⟩,
    ⟨_, rfl, Stp.eq (Stp.call false [.t (.int .i64)] [] T_ok (d := some 27) (by kernel_rfl) (ok69 N _ hy190) rfl) (by kernel_rfl) (by kernel_rfl)⟩,
    ⟨_, rfl, Stp.ev T_ok (m := .dp) (φ := True) (by kernel_rfl) trivial⟩, trivial⟩ (by kernel_rfl) ?_
        refine cnd h (fun h => ?_) (fun h => ?_)
        · refine sR T_ok [4] [] ⟨[(4, I (-1 : Int))], []⟩ (tn 1) ?_
          refine VW.ret ?_
          replace h := Option.some.inj h
          subst h
          exact rt []
        refine VW.skip ?_
        refine sR T_ok [0, 1, 5] [] ⟨[(0, .lf (.v (.sl Y105) a0)), (1, I (IntKind.i64.wrap ((IntKind.i64.wrap (x134 + (1 : Int))) + (1 : Int)))), (5, I x135)], []⟩ (tn 3) ?_
        refine VW.seq ?_
        obtain ⟨g192, h⟩ := gd_some h
        refine sR T_ok [0, 1, 5, 37] [] ⟨[(0, .lf (.v (.sl Y105) a0)), (1, I (IntKind.i64.wrap ((IntKind.i64.wrap (x134 + (1 : Int))) + (1 : Int)))), (5, I x135), (37, B (((a0.getD x135.toNat (Ty.dflt Y105)).2.2.1) != (IntKind.i64.wrap ((IntKind.i64.wrap (x134 + (1 : Int))) + (1 : Int)))))], []⟩ (pu 2 (an g192 (tn 4))) ?_
        refine cnd h (fun h => ?_) (fun h => ?_)
        · refine sR T_ok [4] [] ⟨[(4, I (-1 : Int))], []⟩ (tn 1) ?_
          refine VW.ret ?_
          replace h := Option.some.inj h
          subst h
          exact rt []
        refine VW.skip ?_
        refine sR T_ok [0, 1, 5] [] ⟨[(0, .lf (.v (.sl Y105) a0)), (1, I (IntKind.i64.wrap ((IntKind.i64.wrap ((IntKind.i64.wrap (x134 + (1 : Int))) + (1 : Int))) + (1 : Int)))), (5, I x135)], []⟩ (tn 3) ?_
        refine VW.seq ?_
        obtain ⟨g194, h⟩ := gd_some h
        refine sR T_ok [0, 1, 5, 46] [] ⟨[(0, .lf (.v (.sl Y105) a0)), (1, I (IntKind.i64.wrap ((IntKind.i64.wrap ((IntKind.i64.wrap (x134 + (1 : Int))) + (1 : Int))) + (1 : Int)))), (5, I x135), (46, B (((a0.getD x135.toNat (Ty.dflt Y105)).2.2.2.1) != (IntKind.i64.wrap ((IntKind.i64.wrap ((IntKind.i64.wrap (x134 + (1 : Int))) + (1 : Int))) + (1 : Int)))))], []⟩ (pu 2 (an g194 (tn 4))) ?_
        refine cnd h (fun h => ?_) (fun h => ?_)
        · refine sR T_ok [4] [] ⟨[(4, I (-1 : Int))], []⟩ (tn 1) ?_
          refine VW.ret ?_
          replace h := Option.some.inj h
          subst h
          exact rt []
        refine VW.skip ?_
        refine sR T_ok [0, 1, 5] [] ⟨[(0, .lf (.v (.sl Y105) a0)), (1, I (IntKind.i64.wrap ((IntKind.i64.wrap ((IntKind.i64.wrap ((IntKind.i64.wrap (x134 + (1 : Int))) + (1 : Int))) + (1 : Int))) + (1 : Int)))), (5, I x135)], []⟩ (tn 3) ?_
        refine VW.seq ?_
        obtain ⟨g196, h⟩ := gd_some h
        refine sR T_ok [0, 1, 5, 55] [] ⟨[(0, .lf (.v (.sl Y105) a0)), (1, I (IntKind.i64.wrap ((IntKind.i64.wrap ((IntKind.i64.wrap ((IntKind.i64.wrap (x134 + (1 : Int))) + (1 : Int))) + (1 : Int))) + (1 : Int)))), (5, I x135), (55, B (((a0.getD x135.toNat (Ty.dflt Y105)).2.2.2.2.1) != (IntKind.i64.wrap ((IntKind.i64.wrap ((IntKind.i64.wrap ((IntKind.i64.wrap (x134 + (1 : Int))) + (1 : Int))) + (1 : Int))) + (1 : Int)))))], []⟩ (pu 2 (an g196 (tn 4))) ?_
        refine cnd h (fun h => ?_) (fun h => ?_)
        · refine sR T_ok [4] [] ⟨[(4, I (-1 : Int))], []⟩ (tn 1) ?_
          refine VW.ret ?_
          replace h := Option.some.inj h
          subst h
          exact rt []
        refine VW.skip ?_
        refine sR T_ok [0, 1, 5] [] ⟨[(0, .lf (.v (.sl Y105) a0)), (1, I (IntKind.i64.wrap ((IntKind.i64.wrap ((IntKind.i64.wrap ((IntKind.i64.wrap ((IntKind.i64.wrap (x134 + (1 : Int))) + (1 : Int))) + (1 : Int))) + (1 : Int))) + (1 : Int)))), (5, I x135)], []⟩ (tn 3) ?_
        refine VW.seq ?_
        obtain ⟨g198, h⟩ := gd_some h
        refine sR T_ok [0, 1, 5, 66] [] ⟨[(0, .lf (.v (.sl Y105) a0)), (1, I (IntKind.i64.wrap ((IntKind.i64.wrap ((IntKind.i64.wrap ((IntKind.i64.wrap ((IntKind.i64.wrap (x134 + (1 : Int))) + (1 : Int))) + (1 : Int))) + (1 : Int))) + (1 : Int)))), (5, I x135), (66, B (!(((a0.getD x135.toNat (Ty.dflt Y105)).2.2.2.2.2.1) == ((Int.tmod (IntKind.i64.wrap ((IntKind.i64.wrap ((IntKind.i64.wrap ((IntKind.i64.wrap ((IntKind.i64.wrap (x134 + (1 : Int))) + (1 : Int))) + (1 : Int))) + (1 : Int))) + (1 : Int))) (3 : Int)) == (0 : Int)))))], []⟩ (pu 2 (an g198 (pu 3 (an (show ((3 : Int) ≠ 0) from by decide) (tn 2))))) ?_
        refine cnd h (fun h => ?_) (fun h => ?_)
        · refine sR T_ok [4] [] ⟨[(4, I (-1 : Int))], []⟩ (tn 1) ?_
          refine VW.ret ?_
          replace h := Option.some.inj h
          subst h
          exact rt []
        refine VW.skip ?_
        refine sR T_ok [0, 1, 5] [] ⟨[(0, .lf (.v (.sl Y105) a0)), (1, I (IntKind.i64.wrap ((IntKind.i64.wrap ((IntKind.i64.wrap ((IntKind.i64.wrap ((IntKind.i64.wrap ((IntKind.i64.wrap (x134 + (1 : Int))) + (1 : Int))) + (1 : Int))) + (1 : Int))) + (1 : Int))) + (1 : Int)))), (5, I x135)], []⟩ (tn 3) ?_
        refine VW.seq ?_
        refine VW.region ?_
        obtain ⟨g199, h⟩ := gd_some h
        refine sG T_ok 6 [0, 5, 73, 74] [] ⟨[(0, .lf (.v (.sl Y105) a0)), (5, I x135), (73, .lf (.v (.sl (.int .i64)) ((a0.getD x135.toNat (Ty.dflt Y105)).2.2.2.2.2.2))), (74, I (IntKind.i64.wrap ((IntKind.i64.wrap ((IntKind.i64.wrap ((IntKind.i64.wrap ((IntKind.i64.wrap ((IntKind.i64.wrap (x134 + (1 : Int))) + (1 : Int))) + (1 : Int))) + (1 : Int))) + (1 : Int))) + (1 : Int))))], []⟩ (pu 2 (an g199 (tn 3))) ?_
        obtain ⟨y200, hy, h⟩ := andO_some h
        refine cal false [.t (.sl (.int .i64)), .t (.int .i64)] [] (some 75) T_ok (ok35 N _ _ hy) ?_
        refine sN T_ok [0, 1, 5] [] ⟨[(0, .lf (.v (.sl Y105) a0)), (1, I y200), (5, I x135)], []⟩ (tn 1) ?_
        refine sR T_ok [0, 1, 5, 77] [] ⟨[(0, .lf (.v (.sl Y105) a0)), (1, I y200), (5, I x135), (77, B (decide (y200 < (0 : Int))))], []⟩ (tn 2) ?_
        refine cnd h (fun h => ?_) (fun h => ?_)
        · refine sR T_ok [4] [] ⟨[(4, I (-1 : Int))], []⟩ (tn 1) ?_
          refine VW.ret ?_
          replace h := Option.some.inj h
          subst h
          exact rt []
        refine VW.skip ?_
        refine rR T_ok [0, 1, 5] [] ⟨[(0, .lf (.v (.sl Y105) a0)), (1, I y200), (5, I (IntKind.i64.wrap (x135 + (1 : Int))))], []⟩ (tn 3) ?_
        exact aro [.ren [0, 1, 5] []] ⟨y200, (IntKind.i64.wrap (x135 + (1 : Int))), rfl, h⟩
      refine VW.exit ?_
      exact arv [.ren [1] []] ⟨x134, rfl, h⟩
  rintro s ⟨x100, rfl, h⟩
  unfold F50_j0 at h
  refine sR T_ok [4] [] ⟨[(4, I x100)], []⟩ (tn 2) ?_
  refine VW.ret ?_
  replace h := Option.some.inj h
  subst h
  exact rt []

/- loop.example/g00844/laws.heldEntryS -/
def F82_j0 (N : Nat) (x64 : Int) : Option (Int) :=
  some x64
def F82_l0_b (N : Nat) (a0 : (List (Int × ((List (Int × (ByteArray × (Int × (Int × (Int × (Bool × (List Int)))))))) × ((List (Int × (ByteArray × (Int × (Int × (Int × (Bool × (List Int)))))))) × (Int × Int)))))) (nx108 : Int → Int → Option (Int)) (x86 : Int) (x87 : Int) : Option (Int) :=
  cond (decide (x87 < (a0.length : Int))) (gd (InR x87 a0.length) (cond (((a0.getD x87.toNat (Ty.dflt Y151)).1) != x86) (some (-1 : Int)) (gd (InR x87 a0.length) (andO (F50 N ((a0.getD x87.toNat (Ty.dflt Y151)).2.1) (IntKind.i64.wrap (x86 + (1 : Int)))) fun y122 => cond (decide (y122 < (0 : Int))) (some (-1 : Int)) (gd (InR x87 a0.length) (andO (F50 N ((a0.getD x87.toNat (Ty.dflt Y151)).2.2.1) y122) fun y124 => cond (decide (y124 < (0 : Int))) (some (-1 : Int)) (gd (InR x87 a0.length) (cond (((a0.getD x87.toNat (Ty.dflt Y151)).2.2.2.1) != y124) (some (-1 : Int)) (gd (InR x87 a0.length) (cond (((a0.getD x87.toNat (Ty.dflt Y151)).2.2.2.2) != (IntKind.i64.wrap (y124 + (1 : Int)))) (some (-1 : Int)) (nx108 (IntKind.i64.wrap ((IntKind.i64.wrap (y124 + (1 : Int))) + (1 : Int))) (IntKind.i64.wrap (x87 + (1 : Int)))))))))))))) (F82_j0 N x86)
def F82_l0 (N : Nat) (a0 : (List (Int × ((List (Int × (ByteArray × (Int × (Int × (Int × (Bool × (List Int)))))))) × ((List (Int × (ByteArray × (Int × (Int × (Int × (Bool × (List Int)))))))) × (Int × Int)))))) : Nat → Int → Int → Option (Int) := loopF (F82_l0_b N a0) (fun _ _ => none)
theorem F82_l0_s (N : Nat) (a0 : (List (Int × ((List (Int × (ByteArray × (Int × (Int × (Int × (Bool × (List Int)))))))) × ((List (Int × (ByteArray × (Int × (Int × (Int × (Bool × (List Int)))))))) × (Int × Int)))))) {k : Nat} (hk : 0 < k) (x86 : Int) (x87 : Int) : F82_l0 N a0 k x86 x87 = F82_l0_b N a0 (F82_l0 N a0 (k - 1)) x86 x87 := by
  cases k with
  | zero => exact absurd hk (Nat.lt_irrefl 0)
  | succ m => rfl
def F82 (N : Nat) (a0 : (List (Int × ((List (Int × (ByteArray × (Int × (Int × (Int × (Bool × (List Int)))))))) × ((List (Int × (ByteArray × (Int × (Int × (Int × (Bool × (List Int)))))))) × (Int × Int)))))) (a1 : Int) : Option (Int) :=
  F82_l0 N a0 N a1 (0 : Int)
theorem ok82 (N : Nat) (a0 : (List (Int × ((List (Int × (ByteArray × (Int × (Int × (Int × (Bool × (List Int)))))))) × ((List (Int × (ByteArray × (Int × (Int × (Int × (Bool × (List Int)))))))) × (Int × Int)))))) (a1 : Int) {r : Int} (h : F82 N a0 a1 = some r) : Con Go.Proofs.Try.prog 82 [.lf (.v (.sl Y151) a0), I a1] [.lf (.v (.int .i64) r)] := by
  refine ctr [.lf (.v (.int .i64))] T_ok Go.Proofs.Try.func82 rfl fun w0 E0 => ?_
  unfold F82 at h
  show VW _ _ _ _ _ (retQ _ _ _ _) _
  refine sR T_ok [0, 1] [] ⟨[(0, .lf (.v (.sl Y151) a0)), (1, I a1)], []⟩ (tn 1) ?_
  refine VW.join (fun s => ∃ (x64 : Int), s = ⟨[(1, I x64)], []⟩ ∧ F82_j0 N x64 = some r) ?_ ?_
  · refine sR T_ok [0, 1, 5] [] ⟨[(0, .lf (.v (.sl Y151) a0)), (1, I a1), (5, I (0 : Int))], []⟩ (tn 1) ?_
    refine VW.block ?_
    refine lop (fun k s => ∃ (x86 : Int) (x87 : Int), s = ⟨[(0, .lf (.v (.sl Y151) a0)), (1, I x86), (5, I x87)], []⟩ ∧ F82_l0 N a0 k x86 x87 = some r) N [.ren [0, 1, 5] []] ⟨a1, (0 : Int), rfl, h⟩ ?_
    rintro k108 s ⟨x86, x87, rfl, h⟩
    cases k108 with
    | zero => cases show none = some r from h
    | succ k108 =>
      replace h : F82_l0_b N a0 (F82_l0 N a0 k108) x86 x87 = some r := h
      unfold F82_l0_b at h
      refine VW.seq ?_
      refine sR T_ok [0, 1, 5, 9] [] ⟨[(0, .lf (.v (.sl Y151) a0)), (1, I x86), (5, I x87), (9, B (decide (x87 < (a0.length : Int))))], []⟩ (tn 4) ?_
      refine cnd h (fun h => ?_) (fun h => ?_)
      · refine VW.skip ?_
        refine VW.seq ?_
        refine VW.block ?_
        refine VW.seq ?_
        obtain ⟨g120, h⟩ := gd_some h
        refine sR T_ok [0, 1, 5, 18] [] ⟨[(0, .lf (.v (.sl Y151) a0)), (1, I x86), (5, I x87), (18, B (((a0.getD x87.toNat (Ty.dflt Y151)).1) != x86))], []⟩ (pu 2 (an g120 (tn 4))) ?_
        refine cnd h (fun h => ?_) (fun h => ?_)
        · refine sR T_ok [4] [] ⟨[(4, I (-1 : Int))], []⟩ (tn 1) ?_
          refine VW.ret ?_
          replace h := Option.some.inj h
          subst h
          exact rt []
        refine VW.skip ?_
        refine sR T_ok [0, 1, 5] [] ⟨[(0, .lf (.v (.sl Y151) a0)), (1, I (IntKind.i64.wrap (x86 + (1 : Int)))), (5, I x87)], []⟩ (tn 3) ?_
        refine VW.seq ?_
        refine VW.region ?_
        obtain ⟨g121, h⟩ := gd_some h
        refine sG T_ok 6 [0, 5, 25, 26] [] ⟨[(0, .lf (.v (.sl Y151) a0)), (5, I x87), (25, .lf (.v (.sl Y105) ((a0.getD x87.toNat (Ty.dflt Y151)).2.1))), (26, I (IntKind.i64.wrap (x86 + (1 : Int))))], []⟩ (pu 2 (an g121 (tn 3))) ?_
        obtain ⟨y122, hy, h⟩ := andO_some h
        refine cal false [.t (.sl Y105), .t (.int .i64)] [] (some 27) T_ok (ok50 N _ _ hy) ?_
        refine sN T_ok [0, 1, 5] [] ⟨[(0, .lf (.v (.sl Y151) a0)), (1, I y122), (5, I x87)], []⟩ (tn 1) ?_
        refine VW.seq ?_
        refine sR T_ok [0, 1, 5, 29] [] ⟨[(0, .lf (.v (.sl Y151) a0)), (1, I y122), (5, I x87), (29, B (decide (y122 < (0 : Int))))], []⟩ (tn 2) ?_
        refine cnd h (fun h => ?_) (fun h => ?_)
        · refine sR T_ok [4] [] ⟨[(4, I (-1 : Int))], []⟩ (tn 1) ?_
          refine VW.ret ?_
          replace h := Option.some.inj h
          subst h
          exact rt []
        refine VW.skip ?_
        refine VW.seq ?_
        refine VW.region ?_
        obtain ⟨g123, h⟩ := gd_some h
        refine sG T_ok 6 [0, 5, 34, 35] [] ⟨[(0, .lf (.v (.sl Y151) a0)), (5, I x87), (34, .lf (.v (.sl Y105) ((a0.getD x87.toNat (Ty.dflt Y151)).2.2.1))), (35, I y122)], []⟩ (pu 2 (an g123 (tn 3))) ?_
        obtain ⟨y124, hy, h⟩ := andO_some h
        refine cal false [.t (.sl Y105), .t (.int .i64)] [] (some 36) T_ok (ok50 N _ _ hy) ?_
        refine sN T_ok [0, 1, 5] [] ⟨[(0, .lf (.v (.sl Y151) a0)), (1, I y124), (5, I x87)], []⟩ (tn 1) ?_
        refine VW.seq ?_
        refine sR T_ok [0, 1, 5, 38] [] ⟨[(0, .lf (.v (.sl Y151) a0)), (1, I y124), (5, I x87), (38, B (decide (y124 < (0 : Int))))], []⟩ (tn 2) ?_
        refine cnd h (fun h => ?_) (fun h => ?_)
        · refine sR T_ok [4] [] ⟨[(4, I (-1 : Int))], []⟩ (tn 1) ?_
          refine VW.ret ?_
          replace h := Option.some.inj h
          subst h
          exact rt []
        refine VW.skip ?_
        refine VW.seq ?_
        obtain ⟨g126, h⟩ := gd_some h
        refine sR T_ok [0, 1, 5, 45] [] ⟨[(0, .lf (.v (.sl Y151) a0)), (1, I y124), (5, I x87), (45, B (((a0.getD x87.toNat (Ty.dflt Y151)).2.2.2.1) != y124))], []⟩ (pu 2 (an g126 (tn 4))) ?_
        refine cnd h (fun h => ?_) (fun h => ?_)
        · refine sR T_ok [4] [] ⟨[(4, I (-1 : Int))], []⟩ (tn 1) ?_
          refine VW.ret ?_
          replace h := Option.some.inj h
          subst h
          exact rt []
        refine VW.skip ?_
        refine sR T_ok [0, 1, 5] [] ⟨[(0, .lf (.v (.sl Y151) a0)), (1, I (IntKind.i64.wrap (y124 + (1 : Int)))), (5, I x87)], []⟩ (tn 3) ?_
        refine VW.seq ?_
        obtain ⟨g128, h⟩ := gd_some h
        refine sR T_ok [0, 1, 5, 54] [] ⟨[(0, .lf (.v (.sl Y151) a0)), (1, I (IntKind.i64.wrap (y124 + (1 : Int)))), (5, I x87), (54, B (((a0.getD x87.toNat (Ty.dflt Y151)).2.2.2.2) != (IntKind.i64.wrap (y124 + (1 : Int)))))], []⟩ (pu 2 (an g128 (tn 4))) ?_
        refine cnd h (fun h => ?_) (fun h => ?_)
        · refine sR T_ok [4] [] ⟨[(4, I (-1 : Int))], []⟩ (tn 1) ?_
          refine VW.ret ?_
          replace h := Option.some.inj h
          subst h
          exact rt []
        refine VW.skip ?_
        refine rR T_ok [0, 1, 5] [] ⟨[(0, .lf (.v (.sl Y151) a0)), (1, I (IntKind.i64.wrap ((IntKind.i64.wrap (y124 + (1 : Int))) + (1 : Int)))), (5, I x87)], []⟩ (tn 3) ?_
        refine rR T_ok [0, 1, 5] [] ⟨[(0, .lf (.v (.sl Y151) a0)), (1, I (IntKind.i64.wrap ((IntKind.i64.wrap (y124 + (1 : Int))) + (1 : Int)))), (5, I (IntKind.i64.wrap (x87 + (1 : Int))))], []⟩ (tn 3) ?_
        exact aro [.ren [0, 1, 5] []] ⟨(IntKind.i64.wrap ((IntKind.i64.wrap (y124 + (1 : Int))) + (1 : Int))), (IntKind.i64.wrap (x87 + (1 : Int))), rfl, h⟩
      refine VW.exit ?_
      exact arv [.ren [1] []] ⟨x86, rfl, h⟩
  rintro s ⟨x64, rfl, h⟩
  unfold F82_j0 at h
  refine sR T_ok [4] [] ⟨[(4, I x64)], []⟩ (tn 2) ?_
  refine VW.ret ?_
  replace h := Option.some.inj h
  subst h
  exact rt []

/- loop.example/g00844/laws.heldShelf -/
def F24 (N : Nat) (a0 : (Int × ((List (ByteArray × Int)) × ((List (Int × ((List (Int × (ByteArray × (Int × (Int × (Int × (Bool × (List Int)))))))) × ((List (Int × (ByteArray × (Int × (Int × (Int × (Bool × (List Int)))))))) × (Int × Int))))) × (Int × (Int × (Int × (Int × (Int × Int))))))))) (a1 : Int) : Option (Int) :=
  andO (F81 N a0.2.1 a1) fun y1 => cond (decide (y1 < (0 : Int))) (some (-1 : Int)) (andO (F82 N a0.2.2.1 y1) fun y2 => cond (decide (y2 < (0 : Int))) (some (-1 : Int)) (some y2))
theorem ok24 (N : Nat) (a0 : (Int × ((List (ByteArray × Int)) × ((List (Int × ((List (Int × (ByteArray × (Int × (Int × (Int × (Bool × (List Int)))))))) × ((List (Int × (ByteArray × (Int × (Int × (Int × (Bool × (List Int)))))))) × (Int × Int))))) × (Int × (Int × (Int × (Int × (Int × Int))))))))) (a1 : Int) {r : Int} (h : F24 N a0 a1 = some r) : Con Go.Proofs.Try.prog 24 [.agg [.v (.int .i64) a0.1, .v (.sl Y93) a0.2.1, .v (.sl Y151) a0.2.2.1, .v (.int .i64) a0.2.2.2.1, .v (.int .i64) a0.2.2.2.2.1, .v (.int .i64) a0.2.2.2.2.2.1, .v (.int .i64) a0.2.2.2.2.2.2.1, .v (.int .i64) a0.2.2.2.2.2.2.2.1, .v (.int .i64) a0.2.2.2.2.2.2.2.2], I a1] [.lf (.v (.int .i64) r)] := by
  refine ctr [.lf (.v (.int .i64))] T_ok Go.Proofs.Try.func24 rfl fun w0 E0 => ?_
  unfold F24 at h
  show VW _ _ _ _ _ (retQ _ _ _ _) _
  refine sR T_ok [1, 2] [0] ⟨[(1, I a1), (2, .lf (.ptr 0 0 0 0))], [bx [.v (.int .i64) a0.1, .v (.sl Y93) a0.2.1, .v (.sl Y151) a0.2.2.1, .v (.int .i64) a0.2.2.2.1, .v (.int .i64) a0.2.2.2.2.1, .v (.int .i64) a0.2.2.2.2.2.1, .v (.int .i64) a0.2.2.2.2.2.2.1, .v (.int .i64) a0.2.2.2.2.2.2.2.1, .v (.int .i64) a0.2.2.2.2.2.2.2.2] 32]⟩ (tn 2) ?_
  refine VW.seq ?_
  refine VW.region ?_
  refine sG T_ok 3 [2, 6, 7] [0] ⟨[(2, .lf (.ptr 0 0 0 0)), (6, .lf (.v (.sl Y93) a0.2.1)), (7, I a1)], [bx [.v (.int .i64) a0.1, .v (.sl Y93) a0.2.1, .v (.sl Y151) a0.2.2.1, .v (.int .i64) a0.2.2.2.1, .v (.int .i64) a0.2.2.2.2.1, .v (.int .i64) a0.2.2.2.2.2.1, .v (.int .i64) a0.2.2.2.2.2.2.1, .v (.int .i64) a0.2.2.2.2.2.2.2.1, .v (.int .i64) a0.2.2.2.2.2.2.2.2] 32]⟩ (tn 3) ?_
  obtain ⟨y1, hy, h⟩ := andO_some h
  refine cal false [.t (.sl Y93), .t (.int .i64)] [] (some 8) T_ok (ok81 N _ _ hy) ?_
  refine sN T_ok [1, 2] [0] ⟨[(1, I y1), (2, .lf (.ptr 0 0 0 0))], [bx [.v (.int .i64) a0.1, .v (.sl Y93) a0.2.1, .v (.sl Y151) a0.2.2.1, .v (.int .i64) a0.2.2.2.1, .v (.int .i64) a0.2.2.2.2.1, .v (.int .i64) a0.2.2.2.2.2.1, .v (.int .i64) a0.2.2.2.2.2.2.1, .v (.int .i64) a0.2.2.2.2.2.2.2.1, .v (.int .i64) a0.2.2.2.2.2.2.2.2] 32]⟩ (tn 1) ?_
  refine VW.seq ?_
  refine sR T_ok [1, 2, 10] [0] ⟨[(1, I y1), (2, .lf (.ptr 0 0 0 0)), (10, B (decide (y1 < (0 : Int))))], [bx [.v (.int .i64) a0.1, .v (.sl Y93) a0.2.1, .v (.sl Y151) a0.2.2.1, .v (.int .i64) a0.2.2.2.1, .v (.int .i64) a0.2.2.2.2.1, .v (.int .i64) a0.2.2.2.2.2.1, .v (.int .i64) a0.2.2.2.2.2.2.1, .v (.int .i64) a0.2.2.2.2.2.2.2.1, .v (.int .i64) a0.2.2.2.2.2.2.2.2] 32]⟩ (tn 2) ?_
  refine cnd h (fun h => ?_) (fun h => ?_)
  · refine sR T_ok [4] [] ⟨[(4, I (-1 : Int))], []⟩ (tn 1) ?_
    refine VW.ret ?_
    replace h := Option.some.inj h
    subst h
    exact rt []
  refine VW.skip ?_
  refine VW.seq ?_
  refine VW.region ?_
  refine sG T_ok 3 [12, 13] [] ⟨[(12, .lf (.v (.sl Y151) a0.2.2.1)), (13, I y1)], []⟩ (tn 3) ?_
  obtain ⟨y2, hy, h⟩ := andO_some h
  refine cal false [.t (.sl Y151), .t (.int .i64)] [] (some 14) T_ok (ok82 N _ _ hy) ?_
  refine sN T_ok [1] [] ⟨[(1, I y2)], []⟩ (tn 1) ?_
  refine VW.seq ?_
  refine sR T_ok [1, 16] [] ⟨[(1, I y2), (16, B (decide (y2 < (0 : Int))))], []⟩ (tn 2) ?_
  refine cnd h (fun h => ?_) (fun h => ?_)
  · refine sR T_ok [4] [] ⟨[(4, I (-1 : Int))], []⟩ (tn 1) ?_
    refine VW.ret ?_
    replace h := Option.some.inj h
    subst h
    exact rt []
  refine VW.skip ?_
  refine sR T_ok [4] [] ⟨[(4, I y2)], []⟩ (tn 2) ?_
  refine VW.ret ?_
  replace h := Option.some.inj h
  subst h
  exact rt []

/- loop.example/g00844/laws.FnExactNewShelf -/
def F4 (N : Nat) (a0 : Int) (a1 : (List (ByteArray × Int))) : Option (Bool) :=
  andO (F16 N a1 (1048576 : Int)) fun y1 => cond (decide (y1 < (0 : Int))) (some true) (andO (F18 N a1) fun y2 => andO (F17 N a0 y2) fun y3 => andO (F18 N a1) fun y4 => andO (F19 N a0 y4) fun y5 => andO (F20 N y5.1 y3.1) fun y7 => cond (!y7) (some false) (cond (!(y5.2 == y3.2)) (some false) (andO (F18 N a1) fun y10 => andO (F21 N y4 y10) fun y11 => cond (!y11) (some false) (andO (F22 N y4 (1 : Int)) fun y12 => cond (decide (y12.2 < (0 : Int))) (some false) (andO (F20 N y5.1 y3.1) fun y14 => cond (!y14) (some false) (cond (!(y5.2 == y3.2)) (some false) (andO (F23 N y5.1 (1 : Int)) fun y15 => andO (F24 N (y5.1.1, (y15.1, (y15.2.1, (y5.1.2.2.2.1, (y5.1.2.2.2.2.1, (y5.1.2.2.2.2.2.1, (y5.1.2.2.2.2.2.2.1, (y5.1.2.2.2.2.2.2.2.1, y5.1.2.2.2.2.2.2.2.2)))))))) (1 : Int)) fun y16 => cond (decide (y16 < (0 : Int))) (some false) (cond (y16 != y15.2.2) (some false) (andO (F18 N a1) fun y17 => andO (F19 N a0 y17) fun y18 => andO (F20 N y18.1 y3.1) fun y20 => cond (!y20) (some false) (cond (!(y18.2 == y3.2)) (some false) (andO (F24 N (y5.1.1, (y15.1, (y15.2.1, (y5.1.2.2.2.1, (y5.1.2.2.2.2.1, (y5.1.2.2.2.2.2.1, (y5.1.2.2.2.2.2.2.1, (y5.1.2.2.2.2.2.2.2.1, y5.1.2.2.2.2.2.2.2.2)))))))) (1 : Int)) fun y21 => cond (decide (y21 < (0 : Int))) (some false) (cond (y21 != y15.2.2) (some false) (some true)))))))))))))
theorem ok4 (N : Nat) (a0 : Int) (a1 : (List (ByteArray × Int))) {r : Bool} (h : F4 N a0 a1 = some r) : Con Go.Proofs.Try.prog 4 [I a0, .lf (.v (.sl Y93) a1)] [.lf (.v .bool r)] := by
  refine ctr [.lf (.v .bool)] T_ok Go.Proofs.Try.func4 rfl fun w0 E0 => ?_
  unfold F4 at h
  show VW _ _ _ _ _ (retQ _ _ _ _) _
  refine sR T_ok [0, 1] [] ⟨[(0, I a0), (1, .lf (.v (.sl Y93) a1))], []⟩ (tn 1) ?_
  refine sR T_ok [0, 1, 5] [] ⟨[(0, I a0), (1, .lf (.v (.sl Y93) a1)), (5, I (1048576 : Int))], []⟩ (tn 1) ?_
  refine VW.seq ?_
  refine VW.region ?_
  refine sG T_ok 2 [0, 1, 16, 17] [] ⟨[(0, I a0), (1, .lf (.v (.sl Y93) a1)), (16, .lf (.v (.sl Y93) a1)), (17, I (1048576 : Int))], []⟩ (tn 2) ?_
  obtain ⟨y1, hy, h⟩ := andO_some h
  refine cal false [.t (.sl Y93), .t (.int .i64)] [] (some 18) T_ok (ok16 N _ _ hy) ?_
  refine sN T_ok [0, 1, 5] [] ⟨[(0, I a0), (1, .lf (.v (.sl Y93) a1)), (5, I y1)], []⟩ (tn 1) ?_
  refine VW.seq ?_
  refine sR T_ok [0, 1, 20] [] ⟨[(0, I a0), (1, .lf (.v (.sl Y93) a1)), (20, B (decide (y1 < (0 : Int))))], []⟩ (tn 2) ?_
  refine cnd h (fun h => ?_) (fun h => ?_)
  · refine sR T_ok [4] [] ⟨[(4, B true)], []⟩ (tn 1) ?_
    refine VW.ret ?_
    replace h := Option.some.inj h
    subst h
    exact rt []
  refine VW.skip ?_
  refine VW.seq ?_
  refine VW.region ?_
  refine sG T_ok 2 [0, 1, 22, 23] [] ⟨[(0, I a0), (1, .lf (.v (.sl Y93) a1)), (22, I a0), (23, .lf (.v (.sl Y93) a1))], []⟩ (tn 2) ?_
  obtain ⟨y2, hy, h⟩ := andO_some h
  refine cal false [.t (.sl Y93)] [] (some 24) T_ok (ok18 N _ hy) ?_
  obtain ⟨y3, hy, h⟩ := andO_some h
  refine cal true [.t (.int .i64), .t (.sl Y93)] [] (some 25) T_ok (ok17 N _ _ hy) ?_
  refine sN T_ok [0, 1, 6, 7] [3, 1, 2] ⟨[(0, I a0), (1, .lf (.v (.sl Y93) a1)), (6, .lf (.ptr 0 0 0 0)), (7, B y3.2)], [bx [.v (.int .i64) y3.1.1, .hd 1 0 none, .hd 2 0 none, .v (.int .i64) y3.1.2.2.2.1, .v (.int .i64) y3.1.2.2.2.2.1, .v (.int .i64) y3.1.2.2.2.2.2.1, .v (.int .i64) y3.1.2.2.2.2.2.2.1, .v (.int .i64) y3.1.2.2.2.2.2.2.2.1, .v (.int .i64) y3.1.2.2.2.2.2.2.2.2] 32, ar 0 Y93 y3.1.2.1 .dp, ar 0 Y151 y3.1.2.2.1 .dp]⟩ (tn 6) ?_
  refine VW.seq ?_
  refine VW.region ?_
  refine sG T_ok 1 [0, 1, 6, 7, 28] [0, 1, 2] ⟨[(0, I a0), (1, .lf (.v (.sl Y93) a1)), (6, .lf (.ptr 0 0 0 0)), (7, B y3.2), (28, .lf (.v (.sl Y93) a1))], [bx [.v (.int .i64) y3.1.1, .hd 1 0 none, .hd 2 0 none, .v (.int .i64) y3.1.2.2.2.1, .v (.int .i64) y3.1.2.2.2.2.1, .v (.int .i64) y3.1.2.2.2.2.2.1, .v (.int .i64) y3.1.2.2.2.2.2.2.1, .v (.int .i64) y3.1.2.2.2.2.2.2.2.1, .v (.int .i64) y3.1.2.2.2.2.2.2.2.2] 32, ar 0 Y93 y3.1.2.1 .dp, ar 0 Y151 y3.1.2.2.1 .dp]⟩ (tn 1) ?_
  obtain ⟨y4, hy, h⟩ := andO_some h
  refine cal false [.t (.sl Y93)] [] (some 29) T_ok (ok18 N _ hy) ?_
  refine sN T_ok [0, 1, 6, 7, 8] [0, 1, 2, 3] ⟨[(0, I a0), (1, .lf (.v (.sl Y93) a1)), (6, .lf (.ptr 0 0 0 0)), (7, B y3.2), (8, .lf (.hd 3 0 none))], [bx [.v (.int .i64) y3.1.1, .hd 1 0 none, .hd 2 0 none, .v (.int .i64) y3.1.2.2.2.1, .v (.int .i64) y3.1.2.2.2.2.1, .v (.int .i64) y3.1.2.2.2.2.2.1, .v (.int .i64) y3.1.2.2.2.2.2.2.1, .v (.int .i64) y3.1.2.2.2.2.2.2.2.1, .v (.int .i64) y3.1.2.2.2.2.2.2.2.2] 32, ar 0 Y93 y3.1.2.1 .dp, ar 0 Y151 y3.1.2.2.1 .dp, ar 0 Y93 y4 .dp]⟩ (tn 1) ?_
  refine VW.seq ?_
  refine VW.region ?_
  refine sG T_ok 2 [0, 1, 6, 7, 8, 31, 32] [0, 1, 2, 3] ⟨[(0, I a0), (1, .lf (.v (.sl Y93) a1)), (6, .lf (.ptr 0 0 0 0)), (7, B y3.2), (8, .lf (.hd 3 0 none)), (31, I a0), (32, .lf (.hd 3 0 none))], [bx [.v (.int .i64) y3.1.1, .hd 1 0 none, .hd 2 0 none, .v (.int .i64) y3.1.2.2.2.1, .v (.int .i64) y3.1.2.2.2.2.1, .v (.int .i64) y3.1.2.2.2.2.2.1, .v (.int .i64) y3.1.2.2.2.2.2.2.1, .v (.int .i64) y3.1.2.2.2.2.2.2.2.1, .v (.int .i64) y3.1.2.2.2.2.2.2.2.2] 32, ar 0 Y93 y3.1.2.1 .dp, ar 0 Y151 y3.1.2.2.1 .dp, ar 0 Y93 y4 .dp]⟩ (tn 2) ?_
  obtain ⟨y5, hy, h⟩ := andO_some h
  refine cal true [.t (.int .i64), .t (.sl Y93)] [] (some 33) T_ok (ok19 N _ _ hy) ?_
  refine sN T_ok [0, 1, 6, 7, 8, 9, 10] [0, 1, 2, 3, 6, 4, 5] ⟨[(0, I a0), (1, .lf (.v (.sl Y93) a1)), (6, .lf (.ptr 0 0 0 0)), (7, B y3.2), (8, .lf (.hd 3 0 none)), (9, .lf (.ptr 4 0 0 0)), (10, B y5.2)], [bx [.v (.int .i64) y3.1.1, .hd 1 0 none, .hd 2 0 none, .v (.int .i64) y3.1.2.2.2.1, .v (.int .i64) y3.1.2.2.2.2.1, .v (.int .i64) y3.1.2.2.2.2.2.1, .v (.int .i64) y3.1.2.2.2.2.2.2.1, .v (.int .i64) y3.1.2.2.2.2.2.2.2.1, .v (.int .i64) y3.1.2.2.2.2.2.2.2.2] 32, ar 0 Y93 y3.1.2.1 .dp, ar 0 Y151 y3.1.2.2.1 .dp, ar 0 Y93 y4 .dp, bx [.v (.int .i64) y5.1.1, .hd 5 0 none, .hd 6 0 none, .v (.int .i64) y5.1.2.2.2.1, .v (.int .i64) y5.1.2.2.2.2.1, .v (.int .i64) y5.1.2.2.2.2.2.1, .v (.int .i64) y5.1.2.2.2.2.2.2.1, .v (.int .i64) y5.1.2.2.2.2.2.2.2.1, .v (.int .i64) y5.1.2.2.2.2.2.2.2.2] 32, ar 0 Y93 y5.1.2.1 .dp, ar 0 Y151 y5.1.2.2.1 .dp]⟩ (tn 6) ?_
  refine VW.seq ?_
  refine VW.seq ?_
  refine VW.region ?_
  refine sG T_ok 2 [0, 1, 6, 7, 8, 9, 10, 36, 37] [0, 1, 2, 3, 4, 5, 6] ⟨[(0, I a0), (1, .lf (.v (.sl Y93) a1)), (6, .lf (.ptr 0 0 0 0)), (7, B y3.2), (8, .lf (.hd 3 0 none)), (9, .lf (.ptr 4 0 0 0)), (10, B y5.2), (36, .agg [.v (.int .i64) y5.1.1, .hd 5 0 none, .hd 6 0 none, .v (.int .i64) y5.1.2.2.2.1, .v (.int .i64) y5.1.2.2.2.2.1, .v (.int .i64) y5.1.2.2.2.2.2.1, .v (.int .i64) y5.1.2.2.2.2.2.2.1, .v (.int .i64) y5.1.2.2.2.2.2.2.2.1, .v (.int .i64) y5.1.2.2.2.2.2.2.2.2]), (37, .agg [.v (.int .i64) y3.1.1, .hd 1 0 none, .hd 2 0 none, .v (.int .i64) y3.1.2.2.2.1, .v (.int .i64) y3.1.2.2.2.2.1, .v (.int .i64) y3.1.2.2.2.2.2.1, .v (.int .i64) y3.1.2.2.2.2.2.2.1, .v (.int .i64) y3.1.2.2.2.2.2.2.2.1, .v (.int .i64) y3.1.2.2.2.2.2.2.2.2])], [bx [.v (.int .i64) y3.1.1, .hd 1 0 none, .hd 2 0 none, .v (.int .i64) y3.1.2.2.2.1, .v (.int .i64) y3.1.2.2.2.2.1, .v (.int .i64) y3.1.2.2.2.2.2.1, .v (.int .i64) y3.1.2.2.2.2.2.2.1, .v (.int .i64) y3.1.2.2.2.2.2.2.2.1, .v (.int .i64) y3.1.2.2.2.2.2.2.2.2] 32, ar 0 Y93 y3.1.2.1 .dp, ar 0 Y151 y3.1.2.2.1 .dp, ar 0 Y93 y4 .dp, bx [.v (.int .i64) y5.1.1, .hd 5 0 none, .hd 6 0 none, .v (.int .i64) y5.1.2.2.2.1, .v (.int .i64) y5.1.2.2.2.2.1, .v (.int .i64) y5.1.2.2.2.2.2.1, .v (.int .i64) y5.1.2.2.2.2.2.2.1, .v (.int .i64) y5.1.2.2.2.2.2.2.2.1, .v (.int .i64) y5.1.2.2.2.2.2.2.2.2] 32, ar 0 Y93 y5.1.2.1 .dp, ar 0 Y151 y5.1.2.2.1 .dp]⟩ (tn 2) ?_
  obtain ⟨y7, hy, h⟩ := andO_some h
  refine cal true [.t Y31, .t Y31] [] (some 38) T_ok (ok20 N _ _ hy) ?_
  refine sG T_ok 2 [0, 1, 6, 7, 8, 9, 10, 40] [0, 1, 2, 3, 4, 5, 6] ⟨[(0, I a0), (1, .lf (.v (.sl Y93) a1)), (6, .lf (.ptr 0 0 0 0)), (7, B y3.2), (8, .lf (.hd 3 0 none)), (9, .lf (.ptr 4 0 0 0)), (10, B y5.2), (40, B (!y7))], [bx [.v (.int .i64) y3.1.1, .hd 1 0 none, .hd 2 0 none, .v (.int .i64) y3.1.2.2.2.1, .v (.int .i64) y3.1.2.2.2.2.1, .v (.int .i64) y3.1.2.2.2.2.2.1, .v (.int .i64) y3.1.2.2.2.2.2.2.1, .v (.int .i64) y3.1.2.2.2.2.2.2.2.1, .v (.int .i64) y3.1.2.2.2.2.2.2.2.2] 32, ar 0 Y93 y3.1.2.1 .dp, ar 0 Y151 y3.1.2.2.1 .dp, ar 0 Y93 y4 .dp, bx [.v (.int .i64) y5.1.1, .hd 5 0 none, .hd 6 0 none, .v (.int .i64) y5.1.2.2.2.1, .v (.int .i64) y5.1.2.2.2.2.1, .v (.int .i64) y5.1.2.2.2.2.2.1, .v (.int .i64) y5.1.2.2.2.2.2.2.1, .v (.int .i64) y5.1.2.2.2.2.2.2.2.1, .v (.int .i64) y5.1.2.2.2.2.2.2.2.2] 32, ar 0 Y93 y5.1.2.1 .dp, ar 0 Y151 y5.1.2.2.1 .dp]⟩ (tn 2) ?_
  refine spB 40 h (fun h => ?_) (fun h => ?_)
  · refine sN T_ok [0, 1, 6, 7, 8, 9, 10, 44] [0, 1, 2, 3, 4, 5, 6] ⟨[(0, I a0), (1, .lf (.v (.sl Y93) a1)), (6, .lf (.ptr 0 0 0 0)), (7, B y3.2), (8, .lf (.hd 3 0 none)), (9, .lf (.ptr 4 0 0 0)), (10, B y5.2), (44, B true)], [bx [.v (.int .i64) y3.1.1, .hd 1 0 none, .hd 2 0 none, .v (.int .i64) y3.1.2.2.2.1, .v (.int .i64) y3.1.2.2.2.2.1, .v (.int .i64) y3.1.2.2.2.2.2.1, .v (.int .i64) y3.1.2.2.2.2.2.2.1, .v (.int .i64) y3.1.2.2.2.2.2.2.2.1, .v (.int .i64) y3.1.2.2.2.2.2.2.2.2] 32, ar 0 Y93 y3.1.2.1 .dp, ar 0 Y151 y3.1.2.2.1 .dp, ar 0 Y93 y4 .dp, bx [.v (.int .i64) y5.1.1, .hd 5 0 none, .hd 6 0 none, .v (.int .i64) y5.1.2.2.2.1, .v (.int .i64) y5.1.2.2.2.2.1, .v (.int .i64) y5.1.2.2.2.2.2.1, .v (.int .i64) y5.1.2.2.2.2.2.2.1, .v (.int .i64) y5.1.2.2.2.2.2.2.2.1, .v (.int .i64) y5.1.2.2.2.2.2.2.2.2] 32, ar 0 Y93 y5.1.2.1 .dp, ar 0 Y151 y5.1.2.2.1 .dp]⟩ (tn 4) ?_
    refine VW.cond (b := true) (by kernel_rfl) (fun _ => ?_) (fun h' => nomatch h')
    refine sR T_ok [4] [] ⟨[(4, B false)], []⟩ (tn 1) ?_
    refine VW.ret ?_
    replace h := Option.some.inj h
    subst h
    exact rt []
  refine sN T_ok [0, 1, 6, 7, 8, 9, 10, 44] [0, 1, 2, 3, 4, 5, 6] ⟨[(0, I a0), (1, .lf (.v (.sl Y93) a1)), (6, .lf (.ptr 0 0 0 0)), (7, B y3.2), (8, .lf (.hd 3 0 none)), (9, .lf (.ptr 4 0 0 0)), (10, B y5.2), (44, B (!(y5.2 == y3.2)))], [bx [.v (.int .i64) y3.1.1, .hd 1 0 none, .hd 2 0 none, .v (.int .i64) y3.1.2.2.2.1, .v (.int .i64) y3.1.2.2.2.2.1, .v (.int .i64) y3.1.2.2.2.2.2.1, .v (.int .i64) y3.1.2.2.2.2.2.2.1, .v (.int .i64) y3.1.2.2.2.2.2.2.2.1, .v (.int .i64) y3.1.2.2.2.2.2.2.2.2] 32, ar 0 Y93 y3.1.2.1 .dp, ar 0 Y151 y3.1.2.2.1 .dp, ar 0 Y93 y4 .dp, bx [.v (.int .i64) y5.1.1, .hd 5 0 none, .hd 6 0 none, .v (.int .i64) y5.1.2.2.2.1, .v (.int .i64) y5.1.2.2.2.2.1, .v (.int .i64) y5.1.2.2.2.2.2.1, .v (.int .i64) y5.1.2.2.2.2.2.2.1, .v (.int .i64) y5.1.2.2.2.2.2.2.2.1, .v (.int .i64) y5.1.2.2.2.2.2.2.2.2] 32, ar 0 Y93 y5.1.2.1 .dp, ar 0 Y151 y5.1.2.2.1 .dp]⟩ (tn 4) ?_
  refine cnd h (fun h => ?_) (fun h => ?_)
  · refine sR T_ok [4] [] ⟨[(4, B false)], []⟩ (tn 1) ?_
    refine VW.ret ?_
    replace h := Option.some.inj h
    subst h
    exact rt []
  refine VW.skip ?_
  refine VW.seq ?_
  refine VW.seq ?_
  refine VW.region ?_
  refine sG T_ok 2 [0, 1, 6, 7, 8, 9, 10, 45, 46] [0, 1, 2, 3, 4, 5, 6] ⟨[(0, I a0), (1, .lf (.v (.sl Y93) a1)), (6, .lf (.ptr 0 0 0 0)), (7, B y3.2), (8, .lf (.hd 3 0 none)), (9, .lf (.ptr 4 0 0 0)), (10, B y5.2), (45, .lf (.hd 3 0 none)), (46, .lf (.v (.sl Y93) a1))], [bx [.v (.int .i64) y3.1.1, .hd 1 0 none, .hd 2 0 none, .v (.int .i64) y3.1.2.2.2.1, .v (.int .i64) y3.1.2.2.2.2.1, .v (.int .i64) y3.1.2.2.2.2.2.1, .v (.int .i64) y3.1.2.2.2.2.2.2.1, .v (.int .i64) y3.1.2.2.2.2.2.2.2.1, .v (.int .i64) y3.1.2.2.2.2.2.2.2.2] 32, ar 0 Y93 y3.1.2.1 .dp, ar 0 Y151 y3.1.2.2.1 .dp, ar 0 Y93 y4 .dp, bx [.v (.int .i64) y5.1.1, .hd 5 0 none, .hd 6 0 none, .v (.int .i64) y5.1.2.2.2.1, .v (.int .i64) y5.1.2.2.2.2.1, .v (.int .i64) y5.1.2.2.2.2.2.1, .v (.int .i64) y5.1.2.2.2.2.2.2.1, .v (.int .i64) y5.1.2.2.2.2.2.2.2.1, .v (.int .i64) y5.1.2.2.2.2.2.2.2.2] 32, ar 0 Y93 y5.1.2.1 .dp, ar 0 Y151 y5.1.2.2.1 .dp]⟩ (tn 2) ?_
  obtain ⟨y10, hy, h⟩ := andO_some h
  refine cal false [.t (.sl Y93)] [] (some 47) T_ok (ok18 N _ hy) ?_
  obtain ⟨y11, hy, h⟩ := andO_some h
  refine cal true [.t (.sl Y93), .t (.sl Y93)] [] (some 48) T_ok (ok21 N _ _ hy) ?_
  refine sN T_ok [0, 1, 6, 7, 8, 9, 10, 49] [0, 1, 2, 3, 4, 5, 6] ⟨[(0, I a0), (1, .lf (.v (.sl Y93) a1)), (6, .lf (.ptr 0 0 0 0)), (7, B y3.2), (8, .lf (.hd 3 0 none)), (9, .lf (.ptr 4 0 0 0)), (10, B y5.2), (49, B (!y11))], [bx [.v (.int .i64) y3.1.1, .hd 1 0 none, .hd 2 0 none, .v (.int .i64) y3.1.2.2.2.1, .v (.int .i64) y3.1.2.2.2.2.1, .v (.int .i64) y3.1.2.2.2.2.2.1, .v (.int .i64) y3.1.2.2.2.2.2.2.1, .v (.int .i64) y3.1.2.2.2.2.2.2.2.1, .v (.int .i64) y3.1.2.2.2.2.2.2.2.2] 32, ar 0 Y93 y3.1.2.1 .dp, ar 0 Y151 y3.1.2.2.1 .dp, ar 0 Y93 y4 .dp, bx [.v (.int .i64) y5.1.1, .hd 5 0 none, .hd 6 0 none, .v (.int .i64) y5.1.2.2.2.1, .v (.int .i64) y5.1.2.2.2.2.1, .v (.int .i64) y5.1.2.2.2.2.2.1, .v (.int .i64) y5.1.2.2.2.2.2.2.1, .v (.int .i64) y5.1.2.2.2.2.2.2.2.1, .v (.int .i64) y5.1.2.2.2.2.2.2.2.2] 32, ar 0 Y93 y5.1.2.1 .dp, ar 0 Y151 y5.1.2.2.1 .dp]⟩ (tn 1) ?_
  refine cnd h (fun h => ?_) (fun h => ?_)
  · refine sR T_ok [4] [] ⟨[(4, B false)], []⟩ (tn 1) ?_
    refine VW.ret ?_
    replace h := Option.some.inj h
    subst h
    exact rt []
  refine VW.skip ?_
  refine sR T_ok [0, 1, 6, 7, 8, 9, 10, 11] [0, 1, 2, 3, 4, 5, 6] ⟨[(0, I a0), (1, .lf (.v (.sl Y93) a1)), (6, .lf (.ptr 0 0 0 0)), (7, B y3.2), (8, .lf (.hd 3 0 none)), (9, .lf (.ptr 4 0 0 0)), (10, B y5.2), (11, I (1 : Int))], [bx [.v (.int .i64) y3.1.1, .hd 1 0 none, .hd 2 0 none, .v (.int .i64) y3.1.2.2.2.1, .v (.int .i64) y3.1.2.2.2.2.1, .v (.int .i64) y3.1.2.2.2.2.2.1, .v (.int .i64) y3.1.2.2.2.2.2.2.1, .v (.int .i64) y3.1.2.2.2.2.2.2.2.1, .v (.int .i64) y3.1.2.2.2.2.2.2.2.2] 32, ar 0 Y93 y3.1.2.1 .dp, ar 0 Y151 y3.1.2.2.1 .dp, ar 0 Y93 y4 .dp, bx [.v (.int .i64) y5.1.1, .hd 5 0 none, .hd 6 0 none, .v (.int .i64) y5.1.2.2.2.1, .v (.int .i64) y5.1.2.2.2.2.1, .v (.int .i64) y5.1.2.2.2.2.2.1, .v (.int .i64) y5.1.2.2.2.2.2.2.1, .v (.int .i64) y5.1.2.2.2.2.2.2.2.1, .v (.int .i64) y5.1.2.2.2.2.2.2.2.2] 32, ar 0 Y93 y5.1.2.1 .dp, ar 0 Y151 y5.1.2.2.1 .dp]⟩ (tn 1) ?_
  refine VW.seq ?_
  refine VW.region ?_
  refine sG T_ok 2 [0, 1, 6, 7, 9, 10, 50, 51] [0, 1, 2, 4, 5, 6, 3] ⟨[(0, I a0), (1, .lf (.v (.sl Y93) a1)), (6, .lf (.ptr 0 0 0 0)), (7, B y3.2), (9, .lf (.ptr 3 0 0 0)), (10, B y5.2), (50, .lf (.hd 6 0 none)), (51, I (1 : Int))], [bx [.v (.int .i64) y3.1.1, .hd 1 0 none, .hd 2 0 none, .v (.int .i64) y3.1.2.2.2.1, .v (.int .i64) y3.1.2.2.2.2.1, .v (.int .i64) y3.1.2.2.2.2.2.1, .v (.int .i64) y3.1.2.2.2.2.2.2.1, .v (.int .i64) y3.1.2.2.2.2.2.2.2.1, .v (.int .i64) y3.1.2.2.2.2.2.2.2.2] 32, ar 0 Y93 y3.1.2.1 .dp, ar 0 Y151 y3.1.2.2.1 .dp, bx [.v (.int .i64) y5.1.1, .hd 4 0 none, .hd 5 0 none, .v (.int .i64) y5.1.2.2.2.1, .v (.int .i64) y5.1.2.2.2.2.1, .v (.int .i64) y5.1.2.2.2.2.2.1, .v (.int .i64) y5.1.2.2.2.2.2.2.1, .v (.int .i64) y5.1.2.2.2.2.2.2.2.1, .v (.int .i64) y5.1.2.2.2.2.2.2.2.2] 32, ar 0 Y93 y5.1.2.1 .dp, ar 0 Y151 y5.1.2.2.1 .dp, ar 0 Y93 y4 .dp]⟩ (tn 2) ?_
  obtain ⟨y12, hy, h⟩ := andO_some h
  refine VO.callM [6] [.t (.sl Y93), .t (.int .i64)] (d := some 52) (by kernel_rfl) (by kernel_rfl) (ok22 N _ _ hy) (by kernel_rfl) ?_
  refine sN T_ok [0, 1, 6, 7, 9, 10, 11] [0, 1, 2, 3, 4, 5] ⟨[(0, I a0), (1, .lf (.v (.sl Y93) a1)), (6, .lf (.ptr 0 0 0 0)), (7, B y3.2), (9, .lf (.ptr 3 0 0 0)), (10, B y5.2), (11, I y12.2)], [bx [.v (.int .i64) y3.1.1, .hd 1 0 none, .hd 2 0 none, .v (.int .i64) y3.1.2.2.2.1, .v (.int .i64) y3.1.2.2.2.2.1, .v (.int .i64) y3.1.2.2.2.2.2.1, .v (.int .i64) y3.1.2.2.2.2.2.2.1, .v (.int .i64) y3.1.2.2.2.2.2.2.2.1, .v (.int .i64) y3.1.2.2.2.2.2.2.2.2] 32, ar 0 Y93 y3.1.2.1 .dp, ar 0 Y151 y3.1.2.2.1 .dp, bx [.v (.int .i64) y5.1.1, .hd 4 0 none, .hd 5 0 none, .v (.int .i64) y5.1.2.2.2.1, .v (.int .i64) y5.1.2.2.2.2.1, .v (.int .i64) y5.1.2.2.2.2.2.1, .v (.int .i64) y5.1.2.2.2.2.2.2.1, .v (.int .i64) y5.1.2.2.2.2.2.2.2.1, .v (.int .i64) y5.1.2.2.2.2.2.2.2.2] 32, ar 0 Y93 y5.1.2.1 .dp, ar 0 Y151 y5.1.2.2.1 .dp]⟩ (tn 1) ?_
  refine VW.seq ?_
  refine VW.seq ?_
  refine VW.region ?_
  refine sG T_ok 3 [0, 1, 6, 7, 9, 10, 55] [0, 1, 2, 3, 4, 5] ⟨[(0, I a0), (1, .lf (.v (.sl Y93) a1)), (6, .lf (.ptr 0 0 0 0)), (7, B y3.2), (9, .lf (.ptr 3 0 0 0)), (10, B y5.2), (55, B (decide (y12.2 < (0 : Int))))], [bx [.v (.int .i64) y3.1.1, .hd 1 0 none, .hd 2 0 none, .v (.int .i64) y3.1.2.2.2.1, .v (.int .i64) y3.1.2.2.2.2.1, .v (.int .i64) y3.1.2.2.2.2.2.1, .v (.int .i64) y3.1.2.2.2.2.2.2.1, .v (.int .i64) y3.1.2.2.2.2.2.2.2.1, .v (.int .i64) y3.1.2.2.2.2.2.2.2.2] 32, ar 0 Y93 y3.1.2.1 .dp, ar 0 Y151 y3.1.2.2.1 .dp, bx [.v (.int .i64) y5.1.1, .hd 4 0 none, .hd 5 0 none, .v (.int .i64) y5.1.2.2.2.1, .v (.int .i64) y5.1.2.2.2.2.1, .v (.int .i64) y5.1.2.2.2.2.2.1, .v (.int .i64) y5.1.2.2.2.2.2.2.1, .v (.int .i64) y5.1.2.2.2.2.2.2.2.1, .v (.int .i64) y5.1.2.2.2.2.2.2.2.2] 32, ar 0 Y93 y5.1.2.1 .dp, ar 0 Y151 y5.1.2.2.1 .dp]⟩ (tn 3) ?_
  refine spB 55 h (fun h => ?_) (fun h => ?_)
  · refine sN T_ok [0, 1, 6, 7, 9, 65] [0, 1, 2, 3, 4, 5] ⟨[(0, I a0), (1, .lf (.v (.sl Y93) a1)), (6, .lf (.ptr 0 0 0 0)), (7, B y3.2), (9, .lf (.ptr 3 0 0 0)), (65, B true)], [bx [.v (.int .i64) y3.1.1, .hd 1 0 none, .hd 2 0 none, .v (.int .i64) y3.1.2.2.2.1, .v (.int .i64) y3.1.2.2.2.2.1, .v (.int .i64) y3.1.2.2.2.2.2.1, .v (.int .i64) y3.1.2.2.2.2.2.2.1, .v (.int .i64) y3.1.2.2.2.2.2.2.2.1, .v (.int .i64) y3.1.2.2.2.2.2.2.2.2] 32, ar 0 Y93 y3.1.2.1 .dp, ar 0 Y151 y3.1.2.2.1 .dp, bx [.v (.int .i64) y5.1.1, .hd 4 0 none, .hd 5 0 none, .v (.int .i64) y5.1.2.2.2.1, .v (.int .i64) y5.1.2.2.2.2.1, .v (.int .i64) y5.1.2.2.2.2.2.1, .v (.int .i64) y5.1.2.2.2.2.2.2.1, .v (.int .i64) y5.1.2.2.2.2.2.2.2.1, .v (.int .i64) y5.1.2.2.2.2.2.2.2.2] 32, ar 0 Y93 y5.1.2.1 .dp, ar 0 Y151 y5.1.2.2.1 .dp]⟩ (tn 10) ?_
    refine VW.cond (b := true) (by kernel_rfl) (fun _ => ?_) (fun h' => nomatch h')
    refine sR T_ok [4] [] ⟨[(4, B false)], []⟩ (tn 1) ?_
    refine VW.ret ?_
    replace h := Option.some.inj h
    subst h
    exact rt []
  refine sG T_ok 2 [0, 1, 6, 7, 9, 10, 55, 56, 57] [0, 1, 2, 3, 4, 5] ⟨[(0, I a0), (1, .lf (.v (.sl Y93) a1)), (6, .lf (.ptr 0 0 0 0)), (7, B y3.2), (9, .lf (.ptr 3 0 0 0)), (10, B y5.2), (55, B false), (56, .agg [.v (.int .i64) y5.1.1, .hd 4 0 none, .hd 5 0 none, .v (.int .i64) y5.1.2.2.2.1, .v (.int .i64) y5.1.2.2.2.2.1, .v (.int .i64) y5.1.2.2.2.2.2.1, .v (.int .i64) y5.1.2.2.2.2.2.2.1, .v (.int .i64) y5.1.2.2.2.2.2.2.2.1, .v (.int .i64) y5.1.2.2.2.2.2.2.2.2]), (57, .agg [.v (.int .i64) y3.1.1, .hd 1 0 none, .hd 2 0 none, .v (.int .i64) y3.1.2.2.2.1, .v (.int .i64) y3.1.2.2.2.2.1, .v (.int .i64) y3.1.2.2.2.2.2.1, .v (.int .i64) y3.1.2.2.2.2.2.2.1, .v (.int .i64) y3.1.2.2.2.2.2.2.2.1, .v (.int .i64) y3.1.2.2.2.2.2.2.2.2])], [bx [.v (.int .i64) y3.1.1, .hd 1 0 none, .hd 2 0 none, .v (.int .i64) y3.1.2.2.2.1, .v (.int .i64) y3.1.2.2.2.2.1, .v (.int .i64) y3.1.2.2.2.2.2.1, .v (.int .i64) y3.1.2.2.2.2.2.2.1, .v (.int .i64) y3.1.2.2.2.2.2.2.2.1, .v (.int .i64) y3.1.2.2.2.2.2.2.2.2] 32, ar 0 Y93 y3.1.2.1 .dp, ar 0 Y151 y3.1.2.2.1 .dp, bx [.v (.int .i64) y5.1.1, .hd 4 0 none, .hd 5 0 none, .v (.int .i64) y5.1.2.2.2.1, .v (.int .i64) y5.1.2.2.2.2.1, .v (.int .i64) y5.1.2.2.2.2.2.1, .v (.int .i64) y5.1.2.2.2.2.2.2.1, .v (.int .i64) y5.1.2.2.2.2.2.2.2.1, .v (.int .i64) y5.1.2.2.2.2.2.2.2.2] 32, ar 0 Y93 y5.1.2.1 .dp, ar 0 Y151 y5.1.2.2.1 .dp]⟩ (tn 2) ?_
  refine VO.on (j := 2) (want := false) (d := 55) (b := false) rfl rfl rfl (by kernel_rfl) rfl ?_
  obtain ⟨y14, hy, h⟩ := andO_some h
  refine cal true [.t Y31, .t Y31] [] (some 58) T_ok (ok20 N _ _ hy) ?_
  refine sG T_ok 3 [0, 1, 6, 7, 9, 10, 61] [0, 1, 2, 3, 4, 5] ⟨[(0, I a0), (1, .lf (.v (.sl Y93) a1)), (6, .lf (.ptr 0 0 0 0)), (7, B y3.2), (9, .lf (.ptr 3 0 0 0)), (10, B y5.2), (61, B (!y14))], [bx [.v (.int .i64) y3.1.1, .hd 1 0 none, .hd 2 0 none, .v (.int .i64) y3.1.2.2.2.1, .v (.int .i64) y3.1.2.2.2.2.1, .v (.int .i64) y3.1.2.2.2.2.2.1, .v (.int .i64) y3.1.2.2.2.2.2.2.1, .v (.int .i64) y3.1.2.2.2.2.2.2.2.1, .v (.int .i64) y3.1.2.2.2.2.2.2.2.2] 32, ar 0 Y93 y3.1.2.1 .dp, ar 0 Y151 y3.1.2.2.1 .dp, bx [.v (.int .i64) y5.1.1, .hd 4 0 none, .hd 5 0 none, .v (.int .i64) y5.1.2.2.2.1, .v (.int .i64) y5.1.2.2.2.2.1, .v (.int .i64) y5.1.2.2.2.2.2.1, .v (.int .i64) y5.1.2.2.2.2.2.2.1, .v (.int .i64) y5.1.2.2.2.2.2.2.2.1, .v (.int .i64) y5.1.2.2.2.2.2.2.2.2] 32, ar 0 Y93 y5.1.2.1 .dp, ar 0 Y151 y5.1.2.2.1 .dp]⟩ (tn 3) ?_
  refine spB 61 h (fun h => ?_) (fun h => ?_)
  · refine sN T_ok [0, 1, 6, 7, 9, 65] [0, 1, 2, 3, 4, 5] ⟨[(0, I a0), (1, .lf (.v (.sl Y93) a1)), (6, .lf (.ptr 0 0 0 0)), (7, B y3.2), (9, .lf (.ptr 3 0 0 0)), (65, B true)], [bx [.v (.int .i64) y3.1.1, .hd 1 0 none, .hd 2 0 none, .v (.int .i64) y3.1.2.2.2.1, .v (.int .i64) y3.1.2.2.2.2.1, .v (.int .i64) y3.1.2.2.2.2.2.1, .v (.int .i64) y3.1.2.2.2.2.2.2.1, .v (.int .i64) y3.1.2.2.2.2.2.2.2.1, .v (.int .i64) y3.1.2.2.2.2.2.2.2.2] 32, ar 0 Y93 y3.1.2.1 .dp, ar 0 Y151 y3.1.2.2.1 .dp, bx [.v (.int .i64) y5.1.1, .hd 4 0 none, .hd 5 0 none, .v (.int .i64) y5.1.2.2.2.1, .v (.int .i64) y5.1.2.2.2.2.1, .v (.int .i64) y5.1.2.2.2.2.2.1, .v (.int .i64) y5.1.2.2.2.2.2.2.1, .v (.int .i64) y5.1.2.2.2.2.2.2.2.1, .v (.int .i64) y5.1.2.2.2.2.2.2.2.2] 32, ar 0 Y93 y5.1.2.1 .dp, ar 0 Y151 y5.1.2.2.1 .dp]⟩ (tn 4) ?_
    refine VW.cond (b := true) (by kernel_rfl) (fun _ => ?_) (fun h' => nomatch h')
    refine sR T_ok [4] [] ⟨[(4, B false)], []⟩ (tn 1) ?_
    refine VW.ret ?_
    replace h := Option.some.inj h
    subst h
    exact rt []
  refine sN T_ok [0, 1, 6, 7, 9, 65] [0, 1, 2, 3, 4, 5] ⟨[(0, I a0), (1, .lf (.v (.sl Y93) a1)), (6, .lf (.ptr 0 0 0 0)), (7, B y3.2), (9, .lf (.ptr 3 0 0 0)), (65, B (!(y5.2 == y3.2)))], [bx [.v (.int .i64) y3.1.1, .hd 1 0 none, .hd 2 0 none, .v (.int .i64) y3.1.2.2.2.1, .v (.int .i64) y3.1.2.2.2.2.1, .v (.int .i64) y3.1.2.2.2.2.2.1, .v (.int .i64) y3.1.2.2.2.2.2.2.1, .v (.int .i64) y3.1.2.2.2.2.2.2.2.1, .v (.int .i64) y3.1.2.2.2.2.2.2.2.2] 32, ar 0 Y93 y3.1.2.1 .dp, ar 0 Y151 y3.1.2.2.1 .dp, bx [.v (.int .i64) y5.1.1, .hd 4 0 none, .hd 5 0 none, .v (.int .i64) y5.1.2.2.2.1, .v (.int .i64) y5.1.2.2.2.2.1, .v (.int .i64) y5.1.2.2.2.2.2.1, .v (.int .i64) y5.1.2.2.2.2.2.2.1, .v (.int .i64) y5.1.2.2.2.2.2.2.2.1, .v (.int .i64) y5.1.2.2.2.2.2.2.2.2] 32, ar 0 Y93 y5.1.2.1 .dp, ar 0 Y151 y5.1.2.2.1 .dp]⟩ (tn 4) ?_
  refine cnd h (fun h => ?_) (fun h => ?_)
  · refine sR T_ok [4] [] ⟨[(4, B false)], []⟩ (tn 1) ?_
    refine VW.ret ?_
    replace h := Option.some.inj h
    subst h
    exact rt []
  refine VW.skip ?_
  refine sR T_ok [0, 1, 6, 7, 9, 12] [0, 1, 2, 3, 4, 5] ⟨[(0, I a0), (1, .lf (.v (.sl Y93) a1)), (6, .lf (.ptr 0 0 0 0)), (7, B y3.2), (9, .lf (.ptr 3 0 0 0)), (12, I (1 : Int))], [bx [.v (.int .i64) y3.1.1, .hd 1 0 none, .hd 2 0 none, .v (.int .i64) y3.1.2.2.2.1, .v (.int .i64) y3.1.2.2.2.2.1, .v (.int .i64) y3.1.2.2.2.2.2.1, .v (.int .i64) y3.1.2.2.2.2.2.2.1, .v (.int .i64) y3.1.2.2.2.2.2.2.2.1, .v (.int .i64) y3.1.2.2.2.2.2.2.2.2] 32, ar 0 Y93 y3.1.2.1 .dp, ar 0 Y151 y3.1.2.2.1 .dp, bx [.v (.int .i64) y5.1.1, .hd 4 0 none, .hd 5 0 none, .v (.int .i64) y5.1.2.2.2.1, .v (.int .i64) y5.1.2.2.2.2.1, .v (.int .i64) y5.1.2.2.2.2.2.1, .v (.int .i64) y5.1.2.2.2.2.2.2.1, .v (.int .i64) y5.1.2.2.2.2.2.2.2.1, .v (.int .i64) y5.1.2.2.2.2.2.2.2.2] 32, ar 0 Y93 y5.1.2.1 .dp, ar 0 Y151 y5.1.2.2.1 .dp]⟩ (tn 1) ?_
  refine VW.seq ?_
  refine VW.region ?_
  refine sG T_ok 2 [0, 1, 6, 7, 9, 66, 67] [0, 1, 2, 3, 4, 5] ⟨[(0, I a0), (1, .lf (.v (.sl Y93) a1)), (6, .lf (.ptr 0 0 0 0)), (7, B y3.2), (9, .lf (.ptr 3 0 0 0)), (66, .agg [.v (.int .i64) y5.1.1, .hd 4 0 none, .hd 5 0 none, .v (.int .i64) y5.1.2.2.2.1, .v (.int .i64) y5.1.2.2.2.2.1, .v (.int .i64) y5.1.2.2.2.2.2.1, .v (.int .i64) y5.1.2.2.2.2.2.2.1, .v (.int .i64) y5.1.2.2.2.2.2.2.2.1, .v (.int .i64) y5.1.2.2.2.2.2.2.2.2]), (67, I (1 : Int))], [bx [.v (.int .i64) y3.1.1, .hd 1 0 none, .hd 2 0 none, .v (.int .i64) y3.1.2.2.2.1, .v (.int .i64) y3.1.2.2.2.2.1, .v (.int .i64) y3.1.2.2.2.2.2.1, .v (.int .i64) y3.1.2.2.2.2.2.2.1, .v (.int .i64) y3.1.2.2.2.2.2.2.2.1, .v (.int .i64) y3.1.2.2.2.2.2.2.2.2] 32, ar 0 Y93 y3.1.2.1 .dp, ar 0 Y151 y3.1.2.2.1 .dp, bx [.v (.int .i64) y5.1.1, .hd 4 0 none, .hd 5 0 none, .v (.int .i64) y5.1.2.2.2.1, .v (.int .i64) y5.1.2.2.2.2.1, .v (.int .i64) y5.1.2.2.2.2.2.1, .v (.int .i64) y5.1.2.2.2.2.2.2.1, .v (.int .i64) y5.1.2.2.2.2.2.2.2.1, .v (.int .i64) y5.1.2.2.2.2.2.2.2.2] 32, ar 0 Y93 y5.1.2.1 .dp, ar 0 Y151 y5.1.2.2.1 .dp]⟩ (tn 2) ?_
  obtain ⟨y15, hy, h⟩ := andO_some h
  refine VO.callM [4, 5] [.t Y31, .t (.int .i64)] (d := some 68) (by kernel_rfl) (by kernel_rfl) (ok23 N _ _ hy) (by kernel_rfl) ?_
  refine sN T_ok [0, 1, 6, 7, 9, 12] [0, 1, 2, 3, 4, 5] ⟨[(0, I a0), (1, .lf (.v (.sl Y93) a1)), (6, .lf (.ptr 0 0 0 0)), (7, B y3.2), (9, .lf (.ptr 3 0 0 0)), (12, I y15.2.2)], [bx [.v (.int .i64) y3.1.1, .hd 1 0 none, .hd 2 0 none, .v (.int .i64) y3.1.2.2.2.1, .v (.int .i64) y3.1.2.2.2.2.1, .v (.int .i64) y3.1.2.2.2.2.2.1, .v (.int .i64) y3.1.2.2.2.2.2.2.1, .v (.int .i64) y3.1.2.2.2.2.2.2.2.1, .v (.int .i64) y3.1.2.2.2.2.2.2.2.2] 32, ar 0 Y93 y3.1.2.1 .dp, ar 0 Y151 y3.1.2.2.1 .dp, bx [.v (.int .i64) y5.1.1, .hd 4 0 none, .hd 5 0 none, .v (.int .i64) y5.1.2.2.2.1, .v (.int .i64) y5.1.2.2.2.2.1, .v (.int .i64) y5.1.2.2.2.2.2.1, .v (.int .i64) y5.1.2.2.2.2.2.2.1, .v (.int .i64) y5.1.2.2.2.2.2.2.2.1, .v (.int .i64) y5.1.2.2.2.2.2.2.2.2] 32, ar 0 Y93 y15.1 .dp, ar 0 Y151 y15.2.1 .dp]⟩ (tn 1) ?_
  refine sR T_ok [0, 1, 6, 7, 9, 12, 13] [0, 1, 2, 3, 4, 5] ⟨[(0, I a0), (1, .lf (.v (.sl Y93) a1)), (6, .lf (.ptr 0 0 0 0)), (7, B y3.2), (9, .lf (.ptr 3 0 0 0)), (12, I y15.2.2), (13, I (1 : Int))], [bx [.v (.int .i64) y3.1.1, .hd 1 0 none, .hd 2 0 none, .v (.int .i64) y3.1.2.2.2.1, .v (.int .i64) y3.1.2.2.2.2.1, .v (.int .i64) y3.1.2.2.2.2.2.1, .v (.int .i64) y3.1.2.2.2.2.2.2.1, .v (.int .i64) y3.1.2.2.2.2.2.2.2.1, .v (.int .i64) y3.1.2.2.2.2.2.2.2.2] 32, ar 0 Y93 y3.1.2.1 .dp, ar 0 Y151 y3.1.2.2.1 .dp, bx [.v (.int .i64) y5.1.1, .hd 4 0 none, .hd 5 0 none, .v (.int .i64) y5.1.2.2.2.1, .v (.int .i64) y5.1.2.2.2.2.1, .v (.int .i64) y5.1.2.2.2.2.2.1, .v (.int .i64) y5.1.2.2.2.2.2.2.1, .v (.int .i64) y5.1.2.2.2.2.2.2.2.1, .v (.int .i64) y5.1.2.2.2.2.2.2.2.2] 32, ar 0 Y93 y15.1 .dp, ar 0 Y151 y15.2.1 .dp]⟩ (tn 1) ?_
  refine VW.seq ?_
  refine VW.region ?_
  refine sG T_ok 2 [0, 1, 6, 7, 9, 12, 69, 70] [0, 1, 2, 3, 4, 5] ⟨[(0, I a0), (1, .lf (.v (.sl Y93) a1)), (6, .lf (.ptr 0 0 0 0)), (7, B y3.2), (9, .lf (.ptr 3 0 0 0)), (12, I y15.2.2), (69, .agg [.v (.int .i64) y5.1.1, .hd 4 0 none, .hd 5 0 none, .v (.int .i64) y5.1.2.2.2.1, .v (.int .i64) y5.1.2.2.2.2.1, .v (.int .i64) y5.1.2.2.2.2.2.1, .v (.int .i64) y5.1.2.2.2.2.2.2.1, .v (.int .i64) y5.1.2.2.2.2.2.2.2.1, .v (.int .i64) y5.1.2.2.2.2.2.2.2.2]), (70, I (1 : Int))], [bx [.v (.int .i64) y3.1.1, .hd 1 0 none, .hd 2 0 none, .v (.int .i64) y3.1.2.2.2.1, .v (.int .i64) y3.1.2.2.2.2.1, .v (.int .i64) y3.1.2.2.2.2.2.1, .v (.int .i64) y3.1.2.2.2.2.2.2.1, .v (.int .i64) y3.1.2.2.2.2.2.2.2.1, .v (.int .i64) y3.1.2.2.2.2.2.2.2.2] 32, ar 0 Y93 y3.1.2.1 .dp, ar 0 Y151 y3.1.2.2.1 .dp, bx [.v (.int .i64) y5.1.1, .hd 4 0 none, .hd 5 0 none, .v (.int .i64) y5.1.2.2.2.1, .v (.int .i64) y5.1.2.2.2.2.1, .v (.int .i64) y5.1.2.2.2.2.2.1, .v (.int .i64) y5.1.2.2.2.2.2.2.1, .v (.int .i64) y5.1.2.2.2.2.2.2.2.1, .v (.int .i64) y5.1.2.2.2.2.2.2.2.2] 32, ar 0 Y93 y15.1 .dp, ar 0 Y151 y15.2.1 .dp]⟩ (tn 2) ?_
  obtain ⟨y16, hy, h⟩ := andO_some h
  refine cal true [.t Y31, .t (.int .i64)] [] (some 71) T_ok (ok24 N _ _ hy) ?_
  refine sN T_ok [0, 1, 6, 7, 9, 12, 13] [0, 1, 2, 3, 4, 5] ⟨[(0, I a0), (1, .lf (.v (.sl Y93) a1)), (6, .lf (.ptr 0 0 0 0)), (7, B y3.2), (9, .lf (.ptr 3 0 0 0)), (12, I y15.2.2), (13, I y16)], [bx [.v (.int .i64) y3.1.1, .hd 1 0 none, .hd 2 0 none, .v (.int .i64) y3.1.2.2.2.1, .v (.int .i64) y3.1.2.2.2.2.1, .v (.int .i64) y3.1.2.2.2.2.2.1, .v (.int .i64) y3.1.2.2.2.2.2.2.1, .v (.int .i64) y3.1.2.2.2.2.2.2.2.1, .v (.int .i64) y3.1.2.2.2.2.2.2.2.2] 32, ar 0 Y93 y3.1.2.1 .dp, ar 0 Y151 y3.1.2.2.1 .dp, bx [.v (.int .i64) y5.1.1, .hd 4 0 none, .hd 5 0 none, .v (.int .i64) y5.1.2.2.2.1, .v (.int .i64) y5.1.2.2.2.2.1, .v (.int .i64) y5.1.2.2.2.2.2.1, .v (.int .i64) y5.1.2.2.2.2.2.2.1, .v (.int .i64) y5.1.2.2.2.2.2.2.2.1, .v (.int .i64) y5.1.2.2.2.2.2.2.2.2] 32, ar 0 Y93 y15.1 .dp, ar 0 Y151 y15.2.1 .dp]⟩ (tn 1) ?_
  refine VW.seq ?_
  refine sR T_ok [0, 1, 6, 7, 9, 12, 13, 73] [0, 1, 2, 3, 4, 5] ⟨[(0, I a0), (1, .lf (.v (.sl Y93) a1)), (6, .lf (.ptr 0 0 0 0)), (7, B y3.2), (9, .lf (.ptr 3 0 0 0)), (12, I y15.2.2), (13, I y16), (73, B (decide (y16 < (0 : Int))))], [bx [.v (.int .i64) y3.1.1, .hd 1 0 none, .hd 2 0 none, .v (.int .i64) y3.1.2.2.2.1, .v (.int .i64) y3.1.2.2.2.2.1, .v (.int .i64) y3.1.2.2.2.2.2.1, .v (.int .i64) y3.1.2.2.2.2.2.2.1, .v (.int .i64) y3.1.2.2.2.2.2.2.2.1, .v (.int .i64) y3.1.2.2.2.2.2.2.2.2] 32, ar 0 Y93 y3.1.2.1 .dp, ar 0 Y151 y3.1.2.2.1 .dp, bx [.v (.int .i64) y5.1.1, .hd 4 0 none, .hd 5 0 none, .v (.int .i64) y5.1.2.2.2.1, .v (.int .i64) y5.1.2.2.2.2.1, .v (.int .i64) y5.1.2.2.2.2.2.1, .v (.int .i64) y5.1.2.2.2.2.2.2.1, .v (.int .i64) y5.1.2.2.2.2.2.2.2.1, .v (.int .i64) y5.1.2.2.2.2.2.2.2.2] 32, ar 0 Y93 y15.1 .dp, ar 0 Y151 y15.2.1 .dp]⟩ (tn 2) ?_
  refine cnd h (fun h => ?_) (fun h => ?_)
  · refine sR T_ok [4] [] ⟨[(4, B false)], []⟩ (tn 1) ?_
    refine VW.ret ?_
    replace h := Option.some.inj h
    subst h
    exact rt []
  refine VW.skip ?_
  refine VW.seq ?_
  refine sR T_ok [0, 1, 6, 7, 9, 12, 76] [0, 1, 2, 3, 4, 5] ⟨[(0, I a0), (1, .lf (.v (.sl Y93) a1)), (6, .lf (.ptr 0 0 0 0)), (7, B y3.2), (9, .lf (.ptr 3 0 0 0)), (12, I y15.2.2), (76, B (y16 != y15.2.2))], [bx [.v (.int .i64) y3.1.1, .hd 1 0 none, .hd 2 0 none, .v (.int .i64) y3.1.2.2.2.1, .v (.int .i64) y3.1.2.2.2.2.1, .v (.int .i64) y3.1.2.2.2.2.2.1, .v (.int .i64) y3.1.2.2.2.2.2.2.1, .v (.int .i64) y3.1.2.2.2.2.2.2.2.1, .v (.int .i64) y3.1.2.2.2.2.2.2.2.2] 32, ar 0 Y93 y3.1.2.1 .dp, ar 0 Y151 y3.1.2.2.1 .dp, bx [.v (.int .i64) y5.1.1, .hd 4 0 none, .hd 5 0 none, .v (.int .i64) y5.1.2.2.2.1, .v (.int .i64) y5.1.2.2.2.2.1, .v (.int .i64) y5.1.2.2.2.2.2.1, .v (.int .i64) y5.1.2.2.2.2.2.2.1, .v (.int .i64) y5.1.2.2.2.2.2.2.2.1, .v (.int .i64) y5.1.2.2.2.2.2.2.2.2] 32, ar 0 Y93 y15.1 .dp, ar 0 Y151 y15.2.1 .dp]⟩ (tn 3) ?_
  refine cnd h (fun h => ?_) (fun h => ?_)
  · refine sR T_ok [4] [] ⟨[(4, B false)], []⟩ (tn 1) ?_
    refine VW.ret ?_
    replace h := Option.some.inj h
    subst h
    exact rt []
  refine VW.skip ?_
  refine VW.seq ?_
  refine VW.region ?_
  refine sG T_ok 2 [6, 7, 9, 12, 78, 79] [0, 1, 2, 3, 4, 5] ⟨[(6, .lf (.ptr 0 0 0 0)), (7, B y3.2), (9, .lf (.ptr 3 0 0 0)), (12, I y15.2.2), (78, I a0), (79, .lf (.v (.sl Y93) a1))], [bx [.v (.int .i64) y3.1.1, .hd 1 0 none, .hd 2 0 none, .v (.int .i64) y3.1.2.2.2.1, .v (.int .i64) y3.1.2.2.2.2.1, .v (.int .i64) y3.1.2.2.2.2.2.1, .v (.int .i64) y3.1.2.2.2.2.2.2.1, .v (.int .i64) y3.1.2.2.2.2.2.2.2.1, .v (.int .i64) y3.1.2.2.2.2.2.2.2.2] 32, ar 0 Y93 y3.1.2.1 .dp, ar 0 Y151 y3.1.2.2.1 .dp, bx [.v (.int .i64) y5.1.1, .hd 4 0 none, .hd 5 0 none, .v (.int .i64) y5.1.2.2.2.1, .v (.int .i64) y5.1.2.2.2.2.1, .v (.int .i64) y5.1.2.2.2.2.2.1, .v (.int .i64) y5.1.2.2.2.2.2.2.1, .v (.int .i64) y5.1.2.2.2.2.2.2.2.1, .v (.int .i64) y5.1.2.2.2.2.2.2.2.2] 32, ar 0 Y93 y15.1 .dp, ar 0 Y151 y15.2.1 .dp]⟩ (tn 2) ?_
  obtain ⟨y17, hy, h⟩ := andO_some h
  refine cal false [.t (.sl Y93)] [] (some 80) T_ok (ok18 N _ hy) ?_
  obtain ⟨y18, hy, h⟩ := andO_some h
  refine cal true [.t (.int .i64), .t (.sl Y93)] [] (some 81) T_ok (ok19 N _ _ hy) ?_
  refine sN T_ok [6, 7, 9, 12, 14, 15] [0, 1, 2, 3, 4, 5, 9, 7, 8] ⟨[(6, .lf (.ptr 0 0 0 0)), (7, B y3.2), (9, .lf (.ptr 3 0 0 0)), (12, I y15.2.2), (14, .lf (.ptr 6 0 0 0)), (15, B y18.2)], [bx [.v (.int .i64) y3.1.1, .hd 1 0 none, .hd 2 0 none, .v (.int .i64) y3.1.2.2.2.1, .v (.int .i64) y3.1.2.2.2.2.1, .v (.int .i64) y3.1.2.2.2.2.2.1, .v (.int .i64) y3.1.2.2.2.2.2.2.1, .v (.int .i64) y3.1.2.2.2.2.2.2.2.1, .v (.int .i64) y3.1.2.2.2.2.2.2.2.2] 32, ar 0 Y93 y3.1.2.1 .dp, ar 0 Y151 y3.1.2.2.1 .dp, bx [.v (.int .i64) y5.1.1, .hd 4 0 none, .hd 5 0 none, .v (.int .i64) y5.1.2.2.2.1, .v (.int .i64) y5.1.2.2.2.2.1, .v (.int .i64) y5.1.2.2.2.2.2.1, .v (.int .i64) y5.1.2.2.2.2.2.2.1, .v (.int .i64) y5.1.2.2.2.2.2.2.2.1, .v (.int .i64) y5.1.2.2.2.2.2.2.2.2] 32, ar 0 Y93 y15.1 .dp, ar 0 Y151 y15.2.1 .dp, bx [.v (.int .i64) y18.1.1, .hd 7 0 none, .hd 8 0 none, .v (.int .i64) y18.1.2.2.2.1, .v (.int .i64) y18.1.2.2.2.2.1, .v (.int .i64) y18.1.2.2.2.2.2.1, .v (.int .i64) y18.1.2.2.2.2.2.2.1, .v (.int .i64) y18.1.2.2.2.2.2.2.2.1, .v (.int .i64) y18.1.2.2.2.2.2.2.2.2] 32, ar 0 Y93 y18.1.2.1 .dp, ar 0 Y151 y18.1.2.2.1 .dp]⟩ (tn 6) ?_
  refine VW.seq ?_
  refine VW.seq ?_
  refine VW.region ?_
  refine sG T_ok 2 [7, 9, 12, 15, 84, 85] [3, 4, 5, 7, 8, 1, 2] ⟨[(7, B y3.2), (9, .lf (.ptr 0 0 0 0)), (12, I y15.2.2), (15, B y18.2), (84, .agg [.v (.int .i64) y18.1.1, .hd 3 0 none, .hd 4 0 none, .v (.int .i64) y18.1.2.2.2.1, .v (.int .i64) y18.1.2.2.2.2.1, .v (.int .i64) y18.1.2.2.2.2.2.1, .v (.int .i64) y18.1.2.2.2.2.2.2.1, .v (.int .i64) y18.1.2.2.2.2.2.2.2.1, .v (.int .i64) y18.1.2.2.2.2.2.2.2.2]), (85, .agg [.v (.int .i64) y3.1.1, .hd 5 0 none, .hd 6 0 none, .v (.int .i64) y3.1.2.2.2.1, .v (.int .i64) y3.1.2.2.2.2.1, .v (.int .i64) y3.1.2.2.2.2.2.1, .v (.int .i64) y3.1.2.2.2.2.2.2.1, .v (.int .i64) y3.1.2.2.2.2.2.2.2.1, .v (.int .i64) y3.1.2.2.2.2.2.2.2.2])], [bx [.v (.int .i64) y5.1.1, .hd 1 0 none, .hd 2 0 none, .v (.int .i64) y5.1.2.2.2.1, .v (.int .i64) y5.1.2.2.2.2.1, .v (.int .i64) y5.1.2.2.2.2.2.1, .v (.int .i64) y5.1.2.2.2.2.2.2.1, .v (.int .i64) y5.1.2.2.2.2.2.2.2.1, .v (.int .i64) y5.1.2.2.2.2.2.2.2.2] 32, ar 0 Y93 y15.1 .dp, ar 0 Y151 y15.2.1 .dp, ar 0 Y93 y18.1.2.1 .dp, ar 0 Y151 y18.1.2.2.1 .dp, ar 0 Y93 y3.1.2.1 .dp, ar 0 Y151 y3.1.2.2.1 .dp]⟩ (tn 2) ?_
  obtain ⟨y20, hy, h⟩ := andO_some h
  refine cal true [.t Y31, .t Y31] [] (some 86) T_ok (ok20 N _ _ hy) ?_
  refine sG T_ok 2 [7, 9, 12, 15, 88] [0, 1, 2] ⟨[(7, B y3.2), (9, .lf (.ptr 0 0 0 0)), (12, I y15.2.2), (15, B y18.2), (88, B (!y20))], [bx [.v (.int .i64) y5.1.1, .hd 1 0 none, .hd 2 0 none, .v (.int .i64) y5.1.2.2.2.1, .v (.int .i64) y5.1.2.2.2.2.1, .v (.int .i64) y5.1.2.2.2.2.2.1, .v (.int .i64) y5.1.2.2.2.2.2.2.1, .v (.int .i64) y5.1.2.2.2.2.2.2.2.1, .v (.int .i64) y5.1.2.2.2.2.2.2.2.2] 32, ar 0 Y93 y15.1 .dp, ar 0 Y151 y15.2.1 .dp]⟩ (tn 2) ?_
  refine spB 88 h (fun h => ?_) (fun h => ?_)
  · refine sN T_ok [9, 12, 92] [0, 1, 2] ⟨[(9, .lf (.ptr 0 0 0 0)), (12, I y15.2.2), (92, B true)], [bx [.v (.int .i64) y5.1.1, .hd 1 0 none, .hd 2 0 none, .v (.int .i64) y5.1.2.2.2.1, .v (.int .i64) y5.1.2.2.2.2.1, .v (.int .i64) y5.1.2.2.2.2.2.1, .v (.int .i64) y5.1.2.2.2.2.2.2.1, .v (.int .i64) y5.1.2.2.2.2.2.2.2.1, .v (.int .i64) y5.1.2.2.2.2.2.2.2.2] 32, ar 0 Y93 y15.1 .dp, ar 0 Y151 y15.2.1 .dp]⟩ (tn 4) ?_
    refine VW.cond (b := true) (by kernel_rfl) (fun _ => ?_) (fun h' => nomatch h')
    refine sR T_ok [4] [] ⟨[(4, B false)], []⟩ (tn 1) ?_
    refine VW.ret ?_
    replace h := Option.some.inj h
    subst h
    exact rt []
  refine sN T_ok [9, 12, 92] [0, 1, 2] ⟨[(9, .lf (.ptr 0 0 0 0)), (12, I y15.2.2), (92, B (!(y18.2 == y3.2)))], [bx [.v (.int .i64) y5.1.1, .hd 1 0 none, .hd 2 0 none, .v (.int .i64) y5.1.2.2.2.1, .v (.int .i64) y5.1.2.2.2.2.1, .v (.int .i64) y5.1.2.2.2.2.2.1, .v (.int .i64) y5.1.2.2.2.2.2.2.1, .v (.int .i64) y5.1.2.2.2.2.2.2.2.1, .v (.int .i64) y5.1.2.2.2.2.2.2.2.2] 32, ar 0 Y93 y15.1 .dp, ar 0 Y151 y15.2.1 .dp]⟩ (tn 4) ?_
  refine cnd h (fun h => ?_) (fun h => ?_)
  · refine sR T_ok [4] [] ⟨[(4, B false)], []⟩ (tn 1) ?_
    refine VW.ret ?_
    replace h := Option.some.inj h
    subst h
    exact rt []
  refine VW.skip ?_
  refine sR T_ok [9, 12, 13] [0, 1, 2] ⟨[(9, .lf (.ptr 0 0 0 0)), (12, I y15.2.2), (13, I (1 : Int))], [bx [.v (.int .i64) y5.1.1, .hd 1 0 none, .hd 2 0 none, .v (.int .i64) y5.1.2.2.2.1, .v (.int .i64) y5.1.2.2.2.2.1, .v (.int .i64) y5.1.2.2.2.2.2.1, .v (.int .i64) y5.1.2.2.2.2.2.2.1, .v (.int .i64) y5.1.2.2.2.2.2.2.2.1, .v (.int .i64) y5.1.2.2.2.2.2.2.2.2] 32, ar 0 Y93 y15.1 .dp, ar 0 Y151 y15.2.1 .dp]⟩ (tn 1) ?_
  refine VW.seq ?_
  refine VW.region ?_
  refine sG T_ok 2 [12, 93, 94] [1, 2] ⟨[(12, I y15.2.2), (93, .agg [.v (.int .i64) y5.1.1, .hd 0 0 none, .hd 1 0 none, .v (.int .i64) y5.1.2.2.2.1, .v (.int .i64) y5.1.2.2.2.2.1, .v (.int .i64) y5.1.2.2.2.2.2.1, .v (.int .i64) y5.1.2.2.2.2.2.2.1, .v (.int .i64) y5.1.2.2.2.2.2.2.2.1, .v (.int .i64) y5.1.2.2.2.2.2.2.2.2]), (94, I (1 : Int))], [ar 0 Y93 y15.1 .dp, ar 0 Y151 y15.2.1 .dp]⟩ (tn 2) ?_
  obtain ⟨y21, hy, h⟩ := andO_some h
  refine cal true [.t Y31, .t (.int .i64)] [] (some 95) T_ok (ok24 N _ _ hy) ?_
  refine sN T_ok [12, 13] [] ⟨[(12, I y15.2.2), (13, I y21)], []⟩ (tn 1) ?_
  refine VW.seq ?_
  refine sR T_ok [12, 13, 97] [] ⟨[(12, I y15.2.2), (13, I y21), (97, B (decide (y21 < (0 : Int))))], []⟩ (tn 2) ?_
  refine cnd h (fun h => ?_) (fun h => ?_)
  · refine sR T_ok [4] [] ⟨[(4, B false)], []⟩ (tn 1) ?_
    refine VW.ret ?_
    replace h := Option.some.inj h
    subst h
    exact rt []
  refine VW.skip ?_
  refine VW.seq ?_
  refine sR T_ok [100] [] ⟨[(100, B (y21 != y15.2.2))], []⟩ (tn 3) ?_
  refine cnd h (fun h => ?_) (fun h => ?_)
  · refine sR T_ok [4] [] ⟨[(4, B false)], []⟩ (tn 1) ?_
    refine VW.ret ?_
    replace h := Option.some.inj h
    subst h
    exact rt []
  refine VW.skip ?_
  refine sR T_ok [4] [] ⟨[(4, B true)], []⟩ (tn 1) ?_
  refine VW.ret ?_
  replace h := Option.some.inj h
  subst h
  exact rt []

end Go.Proofs.Ytgpddckjpokclaa.Vc
