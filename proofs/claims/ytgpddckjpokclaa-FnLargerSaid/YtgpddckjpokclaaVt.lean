/- What functions of the program compute, and that they do. -/
import Derived.Test.YtgpddckjpokclaaVt1
namespace Go.Proofs.Ytgpddckjpokclaa.Vc
open Go Go.RowKit
set_option linter.unusedVariables false
set_option maxRecDepth 100000
set_option maxHeartbeats 4000000
/- loop.example/g00844/laws.FnLarger -/
def F7_j0 (N : Nat) : Option (Bool) :=
  some true
def F7_l0_b (N : Nat) (nx248 : Int → (List Int) → (List Int) → Int → (List Int) → (List Int) → Bool → Int → Option (Bool)) (x200 : Int) (x201 : (List Int)) (x202 : (List Int)) (x203 : Int) (x204 : (List Int)) (x205 : (List Int)) (x206 : Bool) (x207 : Int) : Option (Bool) :=
  cond x206 (cond (decide (x207 < (x204.length : Int))) (gd (InR x207 x204.length) (gd (x207.toNat < x204.length) (andO (F45 N (x203, (x204, x205)) (x204.getD x207.toNat (Ty.dflt (.int .i64)))) fun y271 => gd (InR x207 x204.length) (gd (x207.toNat < x204.length) (andO (F46 N (x203, (x204, x205)) (x204.getD x207.toNat (Ty.dflt (.int .i64)))) fun y274 => cond (!y271.2) (some false) (cond (!y274.2.2) (some false) (cond (y271.1 != y274.2.1) (some false) (cond (decide (x207 ≥ (x201.length : Int))) (some false) (gd (InR x207 x204.length) (gd (x207.toNat < x204.length) (gd (InR x207 x201.length) (gd (x207.toNat < x201.length) (cond ((x204.getD x207.toNat (Ty.dflt (.int .i64))) != (x201.getD x207.toNat (Ty.dflt (.int .i64)))) (some false) (cond ((y274.1.2.1.length : Int) == (0 : Int)) (some false) (gd (InR (0 : Int) y274.1.2.1.length) (gd ((0 : Int).toNat < y274.1.2.1.length) (gd (InR x207 x204.length) (gd (x207.toNat < x204.length) (cond ((y274.1.2.1.getD ((0 : Int).toNat) (Ty.dflt (.int .i64))) != (x204.getD x207.toNat (Ty.dflt (.int .i64)))) (some false) (nx248 x200 x201 x202 x203 x204 x205 x206 (IntKind.i64.wrap (x207 + (1 : Int))))))))))))))))))))))) (F7_j0 N)) (F7_j0 N)
def F7_l0 (N : Nat) : Nat → Int → (List Int) → (List Int) → Int → (List Int) → (List Int) → Bool → Int → Option (Bool) := loopF (F7_l0_b N) (fun _ _ _ _ _ _ _ _ => none)
theorem F7_l0_s (N : Nat) {k : Nat} (hk : 0 < k) (x200 : Int) (x201 : (List Int)) (x202 : (List Int)) (x203 : Int) (x204 : (List Int)) (x205 : (List Int)) (x206 : Bool) (x207 : Int) : F7_l0 N k x200 x201 x202 x203 x204 x205 x206 x207 = F7_l0_b N (F7_l0 N (k - 1)) x200 x201 x202 x203 x204 x205 x206 x207 := by
  cases k with
  | zero => exact absurd hk (Nat.lt_irrefl 0)
  | succ m => rfl
def F7_j1 (N : Nat) (a0 : (List Int)) : Option (Bool) :=
  andO (F41 N a0 (1 : Int)) fun y8 => andO (F40 N y8) fun y9 => andO (F42 N y9.1 y9.2) fun y10 => andO (F43 N y9.1 y9.2) fun y11 => cond (!(y10.2 == y11.2)) (some false) (andO (F44 N y10.1.2.1 y11.1.2.1) fun y14 => cond (!y14) (some false) (andO (F44 N y10.1.2.2 y11.1.2.2) fun y15 => cond (!y15) (some false) (F7_l0 N N y9.1.1 y9.1.2.1 y9.1.2.2 y10.1.1 y10.1.2.1 y10.1.2.2 y11.2 (0 : Int))))
def F7 (N : Nat) (a0 : (List Int)) : Option (Bool) :=
  andO (F36 N a0) fun y2 => cond y2 (some true) (andO (F37 N a0) fun y3 => andO (F38 N y3.1 y3.2) fun y4 => andO (F39 N y3.1 y3.2) fun y6 => cond (y4 != y6) (some false) (cond (decide (y4 ≥ (0 : Int))) (cond (decide (y3.1 < (16 : Int))) (andO (F38 N (IntKind.i64.wrap (y3.1 + (1 : Int))) y3.2) fun y290 => cond (decide (y290 < y4)) (some false) (F7_j1 N a0)) (F7_j1 N a0)) (F7_j1 N a0)))
theorem ok7 (N : Nat) (a0 : (List Int)) {r : Bool} (h : F7 N a0 = some r) : Con Go.Proofs.Try.prog 7 [.lf (.v (.sl (.int .u8)) a0)] [.lf (.v .bool r)] := by
  refine ctr [.lf (.v .bool)] T_ok Go.Proofs.Try.func7 rfl fun w0 E0 ht => ?_
  unfold F7 at h
  show VW _ _ _ _ _ (retQ _ _ _ _) _
  refine sR T_ok [0] [] ⟨[(0, .lf (.v (.sl (.int .u8)) a0))], []⟩ (tn 1) ?_
  refine VW.seq ?_
  refine VW.seq ?_
  refine VW.region ?_
  refine sG T_ok 1 [0, 18] [] ⟨[(0, .lf (.v (.sl (.int .u8)) a0)), (18, .lf (.v (.sl (.int .u8)) a0))], []⟩ (tn 1) ?_
  obtain ⟨y2, hy, h⟩ := andO_some h
  refine cal false [.t (.sl (.int .u8))] [] (some 19) T_ok (ok36 N _ hy) ?_
  refine sN T_ok [0, 19] [] ⟨[(0, .lf (.v (.sl (.int .u8)) a0)), (19, B y2)], []⟩ (tn 0) ?_
  refine cnd h (fun h => ?_) (fun h => ?_)
  · refine sR T_ok [2] [] ⟨[(2, B true)], []⟩ (tn 1) ?_
    refine VW.ret ?_
    replace h := Option.some.inj h
    subst h
    exact rt []
  refine VW.skip ?_
  refine VW.seq ?_
  refine VW.region ?_
  refine sG T_ok 1 [0, 21] [] ⟨[(0, .lf (.v (.sl (.int .u8)) a0)), (21, .lf (.v (.sl (.int .u8)) a0))], []⟩ (tn 1) ?_
  obtain ⟨y3, hy, h⟩ := andO_some h
  refine cal false [.t (.sl (.int .u8))] [] (some 22) T_ok (ok37 N _ hy) ?_
  refine sN T_ok [0, 3, 4] [0] ⟨[(0, .lf (.v (.sl (.int .u8)) a0)), (3, I y3.1), (4, .lf (.hd 0 0 none))], [ar 0 (.int .i64) y3.2 .dp]⟩ (tn 5) ?_
  refine VW.seq ?_
  refine VW.region ?_
  refine sG T_ok 2 [0, 3, 4, 25, 26] [0] ⟨[(0, .lf (.v (.sl (.int .u8)) a0)), (3, I y3.1), (4, .lf (.hd 0 0 none)), (25, I y3.1), (26, .lf (.hd 0 0 none))], [ar 0 (.int .i64) y3.2 .dp]⟩ (tn 2) ?_
  obtain ⟨y4, hy, h⟩ := andO_some h
  refine cal true [.t (.int .i64), .t (.sl (.int .i64))] [] (some 27) T_ok (ok38 N _ _ hy) ?_
  refine sN T_ok [0, 3, 4, 5] [0] ⟨[(0, .lf (.v (.sl (.int .u8)) a0)), (3, I y3.1), (4, .lf (.hd 0 0 none)), (5, I y4)], [ar 0 (.int .i64) y3.2 .dp]⟩ (tn 1) ?_
  refine VW.seq ?_
  refine VW.seq ?_
  refine VW.region ?_
  refine sG T_ok 3 [0, 3, 4, 5, 28, 29, 30] [0] ⟨[(0, .lf (.v (.sl (.int .u8)) a0)), (3, I y3.1), (4, .lf (.hd 0 0 none)), (5, I y4), (28, I y4), (29, I y3.1), (30, .lf (.hd 0 0 none))], [ar 0 (.int .i64) y3.2 .dp]⟩ (tn 3) ?_
  obtain ⟨y6, hy, h⟩ := andO_some h
  refine cal true [.t (.int .i64), .t (.sl (.int .i64))] [] (some 31) T_ok (ok39 N _ _ hy) ?_
  refine sN T_ok [0, 3, 4, 5, 32] [0] ⟨[(0, .lf (.v (.sl (.int .u8)) a0)), (3, I y3.1), (4, .lf (.hd 0 0 none)), (5, I y4), (32, B (y4 != y6))], [ar 0 (.int .i64) y3.2 .dp]⟩ (tn 1) ?_
  refine cnd h (fun h => ?_) (fun h => ?_)
  · refine sR T_ok [2] [] ⟨[(2, B false)], []⟩ (tn 1) ?_
    refine VW.ret ?_
    replace h := Option.some.inj h
    subst h
    exact rt []
  refine VW.skip ?_
  refine VW.join (fun s => s = ⟨[(0, .lf (.v (.sl (.int .u8)) a0))], []⟩ ∧ F7_j1 N a0 = some r) ?_ ?_
  · refine VW.seq ?_
    refine VW.region ?_
    refine sG T_ok 3 [0, 3, 4, 5, 35] [0] ⟨[(0, .lf (.v (.sl (.int .u8)) a0)), (3, I y3.1), (4, .lf (.hd 0 0 none)), (5, I y4), (35, B (decide (y4 ≥ (0 : Int))))], [ar 0 (.int .i64) y3.2 .dp]⟩ (tn 3) ?_
    refine spB 35 h (fun h => ?_) (fun h => ?_)
    · refine sG T_ok 4 [0, 3, 4, 5, 39] [0] ⟨[(0, .lf (.v (.sl (.int .u8)) a0)), (3, I y3.1), (4, .lf (.hd 0 0 none)), (5, I y4), (39, B (decide (y3.1 < (16 : Int))))], [ar 0 (.int .i64) y3.2 .dp]⟩ (tn 4) ?_
      refine spB 39 h (fun h => ?_) (fun h => ?_)
      · refine sG T_ok 3 [0, 5, 39, 41, 42] [0] ⟨[(0, .lf (.v (.sl (.int .u8)) a0)), (5, I y4), (39, B true), (41, I (IntKind.i64.wrap (y3.1 + (1 : Int)))), (42, .lf (.hd 0 0 none))], [ar 0 (.int .i64) y3.2 .dp]⟩ (tn 3) ?_
        refine VO.on (j := 6) (want := true) (d := 39) (b := true) rfl rfl rfl (by kernel_rfl) rfl ?_
        obtain ⟨y290, hy, h⟩ := andO_some h
        refine cal true [.t (.int .i64), .t (.sl (.int .i64))] [] (some 43) T_ok (ok38 N _ _ hy) ?_
        refine sN T_ok [0, 46] [] ⟨[(0, .lf (.v (.sl (.int .u8)) a0)), (46, B (decide (y290 < y4)))], []⟩ (tn 3) ?_
        refine cnd h (fun h => ?_) (fun h => ?_)
        · refine sR T_ok [2] [] ⟨[(2, B false)], []⟩ (tn 1) ?_
          refine VW.ret ?_
          replace h := Option.some.inj h
          subst h
          exact rt []
        refine VW.skip ?_
        exact arv [.ren [0] []] ⟨rfl, h⟩
      refine sN T_ok [0, 46] [] ⟨[(0, .lf (.v (.sl (.int .u8)) a0)), (46, B false)], []⟩ (tn 7) ?_
      refine VW.cond (b := false) (by kernel_rfl) (fun h' => nomatch h') (fun _ => ?_)
      refine VW.skip ?_
      exact arv [.ren [0] []] ⟨rfl, h⟩
    refine sN T_ok [0, 46] [] ⟨[(0, .lf (.v (.sl (.int .u8)) a0)), (46, B false)], []⟩ (tn 11) ?_
    refine VW.cond (b := false) (by kernel_rfl) (fun h' => nomatch h') (fun _ => ?_)
    refine VW.skip ?_
    exact arv [.ren [0] []] ⟨rfl, h⟩
  rintro s ⟨rfl, h⟩
  unfold F7_j1 at h
  refine VW.seq ?_
  refine VW.region ?_
  refine sG T_ok 1 [48] [] ⟨[(48, .lf (.v (.sl (.int .u8)) a0))], []⟩ (tn 1) ?_
  obtain ⟨y8, hy, h⟩ := andO_some h
  refine cal false [.t (.sl (.int .u8)), .t (.int .i64)] [] (some 49) T_ok (ok41 N _ _ hy) ?_
  obtain ⟨y9, hy, h⟩ := andO_some h
  refine cal true [.t (.sl (.int .u8))] [] (some 50) T_ok (ok40 N _ hy) ?_
  refine sN T_ok [6, 7] [3, 1, 2] ⟨[(6, .lf (.ptr 0 0 0 0)), (7, I y9.2)], [bx [.v (.int .i64) y9.1.1, .hd 1 0 none, .hd 2 0 none] 59, ar 0 (.int .i64) y9.1.2.1 .dp, ar 0 (.int .i64) y9.1.2.2 .dp]⟩ (tn 6) ?_
  refine VW.seq ?_
  refine VW.region ?_
  refine sG T_ok 2 [6, 7, 54, 55] [0, 1, 2] ⟨[(6, .lf (.ptr 0 0 0 0)), (7, I y9.2), (54, .agg [.v (.int .i64) y9.1.1, .hd 1 0 none, .hd 2 0 none]), (55, I y9.2)], [bx [.v (.int .i64) y9.1.1, .hd 1 0 none, .hd 2 0 none] 59, ar 0 (.int .i64) y9.1.2.1 .dp, ar 0 (.int .i64) y9.1.2.2 .dp]⟩ (tn 2) ?_
  obtain ⟨y10, hy, h⟩ := andO_some h
  refine cal true [.t Y58, .t (.int .i64)] [] (some 56) T_ok (ok42 N _ _ hy) ?_
  refine sN T_ok [6, 7, 8, 9] [0, 1, 2, 5, 3, 4] ⟨[(6, .lf (.ptr 0 0 0 0)), (7, I y9.2), (8, .lf (.ptr 3 0 0 0)), (9, B y10.2)], [bx [.v (.int .i64) y9.1.1, .hd 1 0 none, .hd 2 0 none] 59, ar 0 (.int .i64) y9.1.2.1 .dp, ar 0 (.int .i64) y9.1.2.2 .dp, bx [.v (.int .i64) y10.1.1, .hd 4 0 none, .hd 5 0 none] 59, ar 0 (.int .i64) y10.1.2.1 .dp, ar 0 (.int .i64) y10.1.2.2 .dp]⟩ (tn 6) ?_
  refine VW.seq ?_
  refine VW.region ?_
  refine sG T_ok 2 [6, 8, 9, 60, 61] [0, 1, 2, 3, 4, 5] ⟨[(6, .lf (.ptr 0 0 0 0)), (8, .lf (.ptr 3 0 0 0)), (9, B y10.2), (60, .agg [.v (.int .i64) y9.1.1, .hd 1 0 none, .hd 2 0 none]), (61, I y9.2)], [bx [.v (.int .i64) y9.1.1, .hd 1 0 none, .hd 2 0 none] 59, ar 0 (.int .i64) y9.1.2.1 .dp, ar 0 (.int .i64) y9.1.2.2 .dp, bx [.v (.int .i64) y10.1.1, .hd 4 0 none, .hd 5 0 none] 59, ar 0 (.int .i64) y10.1.2.1 .dp, ar 0 (.int .i64) y10.1.2.2 .dp]⟩ (tn 2) ?_
  obtain ⟨y11, hy, h⟩ := andO_some h
  refine cal true [.t Y58, .t (.int .i64)] [] (some 62) T_ok (ok43 N _ _ hy) ?_
  refine sN T_ok [6, 8, 9, 10, 11] [0, 1, 2, 3, 4, 5, 8, 6, 7] ⟨[(6, .lf (.ptr 0 0 0 0)), (8, .lf (.ptr 3 0 0 0)), (9, B y10.2), (10, .lf (.ptr 6 0 0 0)), (11, B y11.2)], [bx [.v (.int .i64) y9.1.1, .hd 1 0 none, .hd 2 0 none] 59, ar 0 (.int .i64) y9.1.2.1 .dp, ar 0 (.int .i64) y9.1.2.2 .dp, bx [.v (.int .i64) y10.1.1, .hd 4 0 none, .hd 5 0 none] 59, ar 0 (.int .i64) y10.1.2.1 .dp, ar 0 (.int .i64) y10.1.2.2 .dp, bx [.v (.int .i64) y11.1.1, .hd 7 0 none, .hd 8 0 none] 59, ar 0 (.int .i64) y11.1.2.1 .dp, ar 0 (.int .i64) y11.1.2.2 .dp]⟩ (tn 6) ?_
  refine VW.seq ?_
  refine VW.seq ?_
  refine VW.region ?_
  refine sG T_ok 4 [6, 8, 10, 11, 68] [0, 1, 2, 3, 4, 5, 6, 7, 8] ⟨[(6, .lf (.ptr 0 0 0 0)), (8, .lf (.ptr 3 0 0 0)), (10, .lf (.ptr 6 0 0 0)), (11, B y11.2), (68, B (!(y10.2 == y11.2)))], [bx [.v (.int .i64) y9.1.1, .hd 1 0 none, .hd 2 0 none] 59, ar 0 (.int .i64) y9.1.2.1 .dp, ar 0 (.int .i64) y9.1.2.2 .dp, bx [.v (.int .i64) y10.1.1, .hd 4 0 none, .hd 5 0 none] 59, ar 0 (.int .i64) y10.1.2.1 .dp, ar 0 (.int .i64) y10.1.2.2 .dp, bx [.v (.int .i64) y11.1.1, .hd 7 0 none, .hd 8 0 none] 59, ar 0 (.int .i64) y11.1.2.1 .dp, ar 0 (.int .i64) y11.1.2.2 .dp]⟩ (tn 4) ?_
  refine spB 68 h (fun h => ?_) (fun h => ?_)
  · refine sN T_ok [6, 8, 11, 83] [0, 1, 2, 3, 4, 5] ⟨[(6, .lf (.ptr 0 0 0 0)), (8, .lf (.ptr 3 0 0 0)), (11, B y11.2), (83, B true)], [bx [.v (.int .i64) y9.1.1, .hd 1 0 none, .hd 2 0 none] 59, ar 0 (.int .i64) y9.1.2.1 .dp, ar 0 (.int .i64) y9.1.2.2 .dp, bx [.v (.int .i64) y10.1.1, .hd 4 0 none, .hd 5 0 none] 59, ar 0 (.int .i64) y10.1.2.1 .dp, ar 0 (.int .i64) y10.1.2.2 .dp]⟩ (tn 15) ?_
    refine VW.cond (b := true) (by kernel_rfl) (fun _ => ?_) (fun h' => nomatch h')
    refine sR T_ok [2] [] ⟨[(2, B false)], []⟩ (tn 1) ?_
    refine VW.ret ?_
    replace h := Option.some.inj h
    subst h
    exact rt []
  refine sG T_ok 4 [6, 8, 10, 11, 68, 70, 72] [0, 1, 2, 3, 4, 5, 6, 7, 8] ⟨[(6, .lf (.ptr 0 0 0 0)), (8, .lf (.ptr 3 0 0 0)), (10, .lf (.ptr 6 0 0 0)), (11, B y11.2), (68, B false), (70, .lf (.hd 4 0 none)), (72, .lf (.hd 7 0 none))], [bx [.v (.int .i64) y9.1.1, .hd 1 0 none, .hd 2 0 none] 59, ar 0 (.int .i64) y9.1.2.1 .dp, ar 0 (.int .i64) y9.1.2.2 .dp, bx [.v (.int .i64) y10.1.1, .hd 4 0 none, .hd 5 0 none] 59, ar 0 (.int .i64) y10.1.2.1 .dp, ar 0 (.int .i64) y10.1.2.2 .dp, bx [.v (.int .i64) y11.1.1, .hd 7 0 none, .hd 8 0 none] 59, ar 0 (.int .i64) y11.1.2.1 .dp, ar 0 (.int .i64) y11.1.2.2 .dp]⟩ (tn 4) ?_
  refine VO.on (j := 3) (want := false) (d := 68) (b := false) rfl rfl rfl (by kernel_rfl) rfl ?_
  obtain ⟨y14, hy, h⟩ := andO_some h
  refine cal true [.t (.sl (.int .i64)), .t (.sl (.int .i64))] [] (some 73) T_ok (ok44 N _ _ hy) ?_
  refine sG T_ok 3 [6, 8, 10, 11, 76] [0, 1, 2, 3, 4, 5, 6, 7, 8] ⟨[(6, .lf (.ptr 0 0 0 0)), (8, .lf (.ptr 3 0 0 0)), (10, .lf (.ptr 6 0 0 0)), (11, B y11.2), (76, B (!y14))], [bx [.v (.int .i64) y9.1.1, .hd 1 0 none, .hd 2 0 none] 59, ar 0 (.int .i64) y9.1.2.1 .dp, ar 0 (.int .i64) y9.1.2.2 .dp, bx [.v (.int .i64) y10.1.1, .hd 4 0 none, .hd 5 0 none] 59, ar 0 (.int .i64) y10.1.2.1 .dp, ar 0 (.int .i64) y10.1.2.2 .dp, bx [.v (.int .i64) y11.1.1, .hd 7 0 none, .hd 8 0 none] 59, ar 0 (.int .i64) y11.1.2.1 .dp, ar 0 (.int .i64) y11.1.2.2 .dp]⟩ (tn 3) ?_
  refine spB 76 h (fun h => ?_) (fun h => ?_)
  · refine sN T_ok [6, 8, 11, 83] [0, 1, 2, 3, 4, 5] ⟨[(6, .lf (.ptr 0 0 0 0)), (8, .lf (.ptr 3 0 0 0)), (11, B y11.2), (83, B true)], [bx [.v (.int .i64) y9.1.1, .hd 1 0 none, .hd 2 0 none] 59, ar 0 (.int .i64) y9.1.2.1 .dp, ar 0 (.int .i64) y9.1.2.2 .dp, bx [.v (.int .i64) y10.1.1, .hd 4 0 none, .hd 5 0 none] 59, ar 0 (.int .i64) y10.1.2.1 .dp, ar 0 (.int .i64) y10.1.2.2 .dp]⟩ (tn 7) ?_
    refine VW.cond (b := true) (by kernel_rfl) (fun _ => ?_) (fun h' => nomatch h')
    refine sR T_ok [2] [] ⟨[(2, B false)], []⟩ (tn 1) ?_
    refine VW.ret ?_
    replace h := Option.some.inj h
    subst h
    exact rt []
  refine sG T_ok 4 [6, 8, 11, 76, 78, 80] [0, 1, 2, 3, 4, 5, 8] ⟨[(6, .lf (.ptr 0 0 0 0)), (8, .lf (.ptr 3 0 0 0)), (11, B y11.2), (76, B false), (78, .lf (.hd 5 0 none)), (80, .lf (.hd 6 0 none))], [bx [.v (.int .i64) y9.1.1, .hd 1 0 none, .hd 2 0 none] 59, ar 0 (.int .i64) y9.1.2.1 .dp, ar 0 (.int .i64) y9.1.2.2 .dp, bx [.v (.int .i64) y10.1.1, .hd 4 0 none, .hd 5 0 none] 59, ar 0 (.int .i64) y10.1.2.1 .dp, ar 0 (.int .i64) y10.1.2.2 .dp, ar 0 (.int .i64) y11.1.2.2 .dp]⟩ (tn 4) ?_
  refine VO.on (j := 11) (want := false) (d := 76) (b := false) rfl rfl rfl (by kernel_rfl) rfl ?_
  obtain ⟨y15, hy, h⟩ := andO_some h
  refine cal true [.t (.sl (.int .i64)), .t (.sl (.int .i64))] [] (some 81) T_ok (ok44 N _ _ hy) ?_
  refine sN T_ok [6, 8, 11, 83] [0, 1, 2, 3, 4, 5] ⟨[(6, .lf (.ptr 0 0 0 0)), (8, .lf (.ptr 3 0 0 0)), (11, B y11.2), (83, B (!y15))], [bx [.v (.int .i64) y9.1.1, .hd 1 0 none, .hd 2 0 none] 59, ar 0 (.int .i64) y9.1.2.1 .dp, ar 0 (.int .i64) y9.1.2.2 .dp, bx [.v (.int .i64) y10.1.1, .hd 4 0 none, .hd 5 0 none] 59, ar 0 (.int .i64) y10.1.2.1 .dp, ar 0 (.int .i64) y10.1.2.2 .dp]⟩ (tn 2) ?_
  refine cnd h (fun h => ?_) (fun h => ?_)
  · refine sR T_ok [2] [] ⟨[(2, B false)], []⟩ (tn 1) ?_
    refine VW.ret ?_
    replace h := Option.some.inj h
    subst h
    exact rt []
  refine VW.skip ?_
  refine VW.join (fun s => s = ⟨[], []⟩ ∧ F7_j0 N = some r) ?_ ?_
  · refine sR T_ok [6, 8, 11, 12] [0, 1, 2, 3, 4, 5] ⟨[(6, .lf (.ptr 0 0 0 0)), (8, .lf (.ptr 3 0 0 0)), (11, B y11.2), (12, I (0 : Int))], [bx [.v (.int .i64) y9.1.1, .hd 1 0 none, .hd 2 0 none] 59, ar 0 (.int .i64) y9.1.2.1 .dp, ar 0 (.int .i64) y9.1.2.2 .dp, bx [.v (.int .i64) y10.1.1, .hd 4 0 none, .hd 5 0 none] 59, ar 0 (.int .i64) y10.1.2.1 .dp, ar 0 (.int .i64) y10.1.2.2 .dp]⟩ (tn 1) ?_
    refine VW.block ?_
    refine lop (fun k s => ∃ (x200 : Int) (x201 : (List Int)) (x202 : (List Int)) (x203 : Int) (x204 : (List Int)) (x205 : (List Int)) (x206 : Bool) (x207 : Int), s = ⟨[(6, .lf (.ptr 0 0 0 0)), (8, .lf (.ptr 3 0 0 0)), (11, B x206), (12, I x207)], [bx [.v (.int .i64) x200, .hd 1 0 none, .hd 2 0 none] 59, ar 0 (.int .i64) x201 .dp, ar 0 (.int .i64) x202 .dp, bx [.v (.int .i64) x203, .hd 4 0 none, .hd 5 0 none] 59, ar 0 (.int .i64) x204 .dp, ar 0 (.int .i64) x205 .dp]⟩ ∧ F7_l0 N k x200 x201 x202 x203 x204 x205 x206 x207 = some r) N [.ren [6, 8, 11, 12] [0, 1, 2, 3, 4, 5]] ⟨y9.1.1, y9.1.2.1, y9.1.2.2, y10.1.1, y10.1.2.1, y10.1.2.2, y11.2, (0 : Int), rfl, h⟩ ?_
    rintro k248 s ⟨x200, x201, x202, x203, x204, x205, x206, x207, rfl, h⟩
    cases k248 with
    | zero => cases show none = some r from h
    | succ k248 =>
      replace h : F7_l0_b N (F7_l0 N k248) x200 x201 x202 x203 x204 x205 x206 x207 = some r := h
      unfold F7_l0_b at h
      refine VW.seq ?_
      refine VW.seq ?_
      refine VW.region ?_
      refine sG T_ok 2 [6, 8, 11, 12, 85] [0, 1, 2, 3, 4, 5] ⟨[(6, .lf (.ptr 0 0 0 0)), (8, .lf (.ptr 3 0 0 0)), (11, B x206), (12, I x207), (85, B x206)], [bx [.v (.int .i64) x200, .hd 1 0 none, .hd 2 0 none] 59, ar 0 (.int .i64) x201 .dp, ar 0 (.int .i64) x202 .dp, bx [.v (.int .i64) x203, .hd 4 0 none, .hd 5 0 none] 59, ar 0 (.int .i64) x204 .dp, ar 0 (.int .i64) x205 .dp]⟩ (tn 2) ?_
      refine spB 85 h (fun h => ?_) (fun h => ?_)
      · refine sN T_ok [6, 8, 11, 12, 91] [0, 1, 2, 3, 4, 5] ⟨[(6, .lf (.ptr 0 0 0 0)), (8, .lf (.ptr 3 0 0 0)), (11, B x206), (12, I x207), (91, B (decide (x207 < (x204.length : Int))))], [bx [.v (.int .i64) x200, .hd 1 0 none, .hd 2 0 none] 59, ar 0 (.int .i64) x201 .dp, ar 0 (.int .i64) x202 .dp, bx [.v (.int .i64) x203, .hd 4 0 none, .hd 5 0 none] 59, ar 0 (.int .i64) x204 .dp, ar 0 (.int .i64) x205 .dp]⟩ (tn 6) ?_
        refine cnd h (fun h => ?_) (fun h => ?_)
        · refine VW.skip ?_
          refine VW.seq ?_
          refine VW.block ?_
          refine VW.seq ?_
          obtain ⟨g269, h⟩ := gd_some h
          obtain ⟨g270, h⟩ := gd_some h
          obtain ⟨y271, hy271, h⟩ := andO_some h
          refine VW.drawn (by kernel_rfl) [some (95, .agg [.v (.int .i64) x203, .hd 4 0 none, .hd 5 0 none]), some (96, .lf (.ptr 3 0 0 1)), some (97, .lf (.hd 4 0 none)), some (98, I x207), some (99, .lf (.ptr 4 0 x207.toNat 0)), some (100, I (x204.getD x207.toNat (Ty.dflt (.int .i64)))), some (101, .tup [.lf (.v (.int .i64) y271.1), .lf (.v .bool y271.2)]), some (94, .tup [.lf (.v (.int .i64) y271.1), .lf (.v .bool y271.2)]), some (102, I y271.1), some (103, B y271.2), some (13, I y271.1), some (14, B y271.2)] [] [[bx [.v (.int .i64) x200, .hd 1 0 none, .hd 2 0 none] 59, ar 0 (.int .i64) x201 .dp, ar 0 (.int .i64) x202 .dp, bx [.v (.int .i64) x203, .hd 4 0 none, .hd 5 0 none] 59, ar 0 (.int .i64) x204 .dp, ar 0 (.int .i64) x205 .dp]] [(0, 0), (1, 0), (2, 0), (3, 0), (4, 0), (5, 0), (6, 0), (7, 0), (8, 0), (9, 0), (10, 0), (11, 0)] [6, 8, 11, 12, 13, 14] [0, 1, 2, 3, 4, 5] (s' := ⟨[(6, .lf (.ptr 0 0 0 0)), (8, .lf (.ptr 3 0 0 0)), (11, B x206), (12, I x207), (13, I y271.1), (14, B y271.2)], [bx [.v (.int .i64) x200, .hd 1 0 none, .hd 2 0 none] 59, ar 0 (.int .i64) x201 .dp, ar 0 (.int .i64) x202 .dp, bx [.v (.int .i64) x203, .hd 4 0 none, .hd 5 0 none] 59, ar 0 (.int .i64) x204 .dp, ar 0 (.int .i64) x205 .dp]⟩) (by kernel_rfl) (by kernel_rfl) ⟨⟨_, rfl, Stp.ev T_ok (m := .dp) (φ := True) (by kernel_rfl) trivial⟩,
    ⟨_, rfl, Stp.ev T_ok (m := .dp) (φ := True) (by kernel_rfl) trivial⟩,
    ⟨_, rfl, Stp.ev T_ok (m := .dp) (φ := True) (by kernel_rfl) trivial⟩,
    ⟨_, rfl, Stp.ev T_ok (m := .dp) (φ := True) (by kernel_rfl) trivial⟩,
    ⟨_, rfl, Stp.ev T_ok (m := .dp) (φ := InR x207 x204.length) (by kernel_rfl) g269⟩,
    ⟨_, rfl, Stp.ev T_ok (m := .dp) (φ := x207.toNat < x204.length) (by kernel_rfl) g270⟩,
    ⟨_, rfl, Stp.eq (Stp.call true [.t Y58, .t (.int .i64)] [] T_ok (d := some 101) (by kernel_rfl) (ok45 N _ _ hy271) rfl) (by kernel_rfl) (by kernel_rfl)⟩,
    ⟨_, rfl, Stp.ev T_ok (m := .dp) (φ := True) (by kernel_rfl) trivial⟩,
    ⟨_, rfl, Stp.ev T_ok (m := .dp) (φ := True) (by kernel_rfl) trivial⟩,
    ⟨_, rfl, Stp.ev T_ok (m := .dp) (φ := True) (by kernel_rfl) trivial⟩,
    ⟨_, rfl, Stp.ev T_ok (m := .dp) (φ := True) (by kernel_rfl) trivial⟩,
    ⟨_, rfl, Stp.ev T_ok (m := .dp) (φ := True) (by kernel_rfl) trivial⟩, trivial⟩ (by kernel_rfl) ?_
          refine VW.seq ?_
          obtain ⟨g272, h⟩ := gd_some h
          obtain ⟨g273, h⟩ := gd_some h
          obtain ⟨y274, hy274, h⟩ := andO_some h
          refine VW.ideal (by kernel_rfl) [[], [0], [1], [3], [11], [0, 1], [0, 3], [0, 11], [1, 2], [1, 3], [1, 11], [3, 11], [0, 1, 2], [0, 1, 3], [0, 1, 11], [0, 3, 11], [1, 2, 3], [1, 2, 11], [1, 3, 11], [0, 1, 2, 3], [0, 1, 2, 11], [0, 1, 3, 11], [1, 2, 3, 4], [1, 2, 3, 11], [0, 1, 2, 3, 4], [0, 1, 2, 3, 11], [1, 2, 3, 4, 5], [1, 2, 3, 4, 11], [0, 1, 2, 3, 4, 5], [0, 1, 2, 3, 4, 11], [1, 2, 3, 4, 5, 11], [0, 1, 2, 3, 4, 5, 6], [0, 1, 2, 3, 4, 5, 11], [0, 1, 2, 3, 4, 5, 6, 7], [0, 1, 2, 3, 4, 5, 6, 11], [0, 1, 2, 3, 4, 5, 6, 7, 8], [0, 1, 2, 3, 4, 5, 6, 7, 9], [0, 1, 2, 3, 4, 5, 6, 7, 10], [0, 1, 2, 3, 4, 5, 6, 7, 11], [0, 1, 2, 3, 4, 5, 6, 7, 8, 9], [0, 1, 2, 3, 4, 5, 6, 7, 8, 10], [0, 1, 2, 3, 4, 5, 6, 7, 8, 11], [0, 1, 2, 3, 4, 5, 6, 7, 9, 10], [0, 1, 2, 3, 4, 5, 6, 7, 9, 11], [0, 1, 2, 3, 4, 5, 6, 7, 10, 11], [0, 1, 2, 3, 4, 5, 6, 7, 8, 9, 10], [0, 1, 2, 3, 4, 5, 6, 7, 8, 9, 11], [0, 1, 2, 3, 4, 5, 6, 7, 8, 10, 11], [0, 1, 2, 3, 4, 5, 6, 7, 8, 11, 12], [0, 1, 2, 3, 4, 5, 6, 7, 9, 10, 11], [0, 1, 2, 3, 4, 5, 6, 7, 8, 9, 10, 11], [0, 1, 2, 3, 4, 5, 6, 7, 8, 9, 11, 12], [0, 1, 2, 3, 4, 5, 6, 7, 8, 10, 11, 12], [0, 1, 2, 3, 4, 5, 6, 7, 8, 9, 10, 11, 12], [0, 1, 2, 3, 4, 5, 6, 7, 8, 9, 11, 12, 13], [0, 1, 2, 3, 4, 5, 6, 7, 8, 9, 10, 11, 12, 13], [0, 1, 2, 3, 4, 5, 6, 7, 8, 9, 10, 11, 12, 13, 14]] [⟨[(6, .lf (.ptr 0 0 0 0)), (8, .lf (.ptr 3 0 0 0)), (11, B x206), (12, I x207), (13, I y271.1), (14, B y271.2)], [bx [.v (.int .i64) x200, .hd 1 0 none, .hd 2 0 none] 59, ar 0 (.int .i64) x201 .dp, ar 0 (.int .i64) x202 .dp, bx [.v (.int .i64) x203, .hd 4 0 none, .hd 5 0 none] 59, ar 0 (.int .i64) x204 .dp, ar 0 (.int .i64) x205 .dp]⟩,
    ⟨[(6, .lf (.ptr 0 0 0 0)), (8, .lf (.ptr 3 0 0 0)), (11, B x206), (12, I x207), (13, I y271.1), (14, B y271.2), (105, .agg [.v (.int .i64) x203, .hd 4 0 none, .hd 5 0 none])], [bx [.v (.int .i64) x200, .hd 1 0 none, .hd 2 0 none] 59, ar 0 (.int .i64) x201 .dp, ar 0 (.int .i64) x202 .dp, bx [.v (.int .i64) x203, .hd 4 0 none, .hd 5 0 none] 59, ar 0 (.int .i64) x204 .dp, ar 0 (.int .i64) x205 .dp]⟩,
    ⟨[(6, .lf (.ptr 0 0 0 0)), (8, .lf (.ptr 3 0 0 0)), (11, B x206), (12, I x207), (13, I y271.1), (14, B y271.2), (106, .lf (.ptr 3 0 0 1))], [bx [.v (.int .i64) x200, .hd 1 0 none, .hd 2 0 none] 59, ar 0 (.int .i64) x201 .dp, ar 0 (.int .i64) x202 .dp, bx [.v (.int .i64) x203, .hd 4 0 none, .hd 5 0 none] 59, ar 0 (.int .i64) x204 .dp, ar 0 (.int .i64) x205 .dp]⟩,
    ⟨[(6, .lf (.ptr 0 0 0 0)), (8, .lf (.ptr 3 0 0 0)), (11, B x206), (12, I x207), (13, I y271.1), (14, B y271.2), (108, I x207)], [bx [.v (.int .i64) x200, .hd 1 0 none, .hd 2 0 none] 59, ar 0 (.int .i64) x201 .dp, ar 0 (.int .i64) x202 .dp, bx [.v (.int .i64) x203, .hd 4 0 none, .hd 5 0 none] 59, ar 0 (.int .i64) x204 .dp, ar 0 (.int .i64) x205 .dp]⟩,
    ⟨[(6, .lf (.ptr 0 0 0 0)), (8, .lf (.ptr 3 0 0 0)), (11, B x206), (12, I x207), (13, I y271.1), (14, B y271.2), (15, .lf (.ptr 6 0 0 0))], [bx [.v (.int .i64) x200, .hd 1 0 none, .hd 2 0 none] 59, ar 0 (.int .i64) x201 .dp, ar 0 (.int .i64) x202 .dp, bx [.v (.int .i64) x203, .hd 4 0 none, .hd 5 0 none] 59, ar 0 (.int .i64) x204 .dp, ar 0 (.int .i64) x205 .dp, bx [.v (.int .i64) (0 : Int), .nil, .nil] 59]⟩,
    ⟨[(6, .lf (.ptr 0 0 0 0)), (8, .lf (.ptr 3 0 0 0)), (11, B x206), (12, I x207), (13, I y271.1), (14, B y271.2), (105, .agg [.v (.int .i64) x203, .hd 4 0 none, .hd 5 0 none]), (106, .lf (.ptr 3 0 0 1))], [bx [.v (.int .i64) x200, .hd 1 0 none, .hd 2 0 none] 59, ar 0 (.int .i64) x201 .dp, ar 0 (.int .i64) x202 .dp, bx [.v (.int .i64) x203, .hd 4 0 none, .hd 5 0 none] 59, ar 0 (.int .i64) x204 .dp, ar 0 (.int .i64) x205 .dp]⟩,
    ⟨[(6, .lf (.ptr 0 0 0 0)), (8, .lf (.ptr 3 0 0 0)), (11, B x206), (12, I x207), (13, I y271.1), (14, B y271.2), (105, .agg [.v (.int .i64) x203, .hd 4 0 none, .hd 5 0 none]), (108, I x207)], [bx [.v (.int .i64) x200, .hd 1 0 none, .hd 2 0 none] 59, ar 0 (.int .i64) x201 .dp, ar 0 (.int .i64) x202 .dp, bx [.v (.int .i64) x203, .hd 4 0 none, .hd 5 0 none] 59, ar 0 (.int .i64) x204 .dp, ar 0 (.int .i64) x205 .dp]⟩,
    ⟨[(6, .lf (.ptr 0 0 0 0)), (8, .lf (.ptr 3 0 0 0)), (11, B x206), (12, I x207), (13, I y271.1), (14, B y271.2), (15, .lf (.ptr 6 0 0 0)), (105, .agg [.v (.int .i64) x203, .hd 4 0 none, .hd 5 0 none])], [bx [.v (.int .i64) x200, .hd 1 0 none, .hd 2 0 none] 59, ar 0 (.int .i64) x201 .dp, ar 0 (.int .i64) x202 .dp, bx [.v (.int .i64) x203, .hd 4 0 none, .hd 5 0 none] 59, ar 0 (.int .i64) x204 .dp, ar 0 (.int .i64) x205 .dp, bx [.v (.int .i64) (0 : Int), .nil, .nil] 59]⟩,
    ⟨[(6, .lf (.ptr 0 0 0 0)), (8, .lf (.ptr 3 0 0 0)), (11, B x206), (12, I x207), (13, I y271.1), (14, B y271.2), (107, .lf (.hd 4 0 none))], [bx [.v (.int .i64) x200, .hd 1 0 none, .hd 2 0 none] 59, ar 0 (.int .i64) x201 .dp, ar 0 (.int .i64) x202 .dp, bx [.v (.int .i64) x203, .hd 4 0 none, .hd 5 0 none] 59, ar 0 (.int .i64) x204 .dp, ar 0 (.int .i64) x205 .dp]⟩,
    ⟨[(6, .lf (.ptr 0 0 0 0)), (8, .lf (.ptr 3 0 0 0)), (11, B x206), (12, I x207), (13, I y271.1), (14, B y271.2), (106, .lf (.ptr 3 0 0 1)), (108, I x207)], [bx [.v (.int .i64) x200, .hd 1 0 none, .hd 2 0 none] 59, ar 0 (.int .i64) x201 .dp, ar 0 (.int .i64) x202 .dp, bx [.v (.int .i64) x203, .hd 4 0 none, .hd 5 0 none] 59, ar 0 (.int .i64) x204 .dp, ar 0 (.int .i64) x205 .dp]⟩,
    ⟨[(6, .lf (.ptr 0 0 0 0)), (8, .lf (.ptr 3 0 0 0)), (11, B x206), (12, I x207), (13, I y271.1), (14, B y271.2), (15, .lf (.ptr 6 0 0 0)), (106, .lf (.ptr 3 0 0 1))], [bx [.v (.int .i64) x200, .hd 1 0 none, .hd 2 0 none] 59, ar 0 (.int .i64) x201 .dp, ar 0 (.int .i64) x202 .dp, bx [.v (.int .i64) x203, .hd 4 0 none, .hd 5 0 none] 59, ar 0 (.int .i64) x204 .dp, ar 0 (.int .i64) x205 .dp, bx [.v (.int .i64) (0 : Int), .nil, .nil] 59]⟩,
    ⟨[(6, .lf (.ptr 0 0 0 0)), (8, .lf (.ptr 3 0 0 0)), (11, B x206), (12, I x207), (13, I y271.1), (14, B y271.2), (15, .lf (.ptr 6 0 0 0)), (108, I x207)], [bx [.v (.int .i64) x200, .hd 1 0 none, .hd 2 0 none] 59, ar 0 (.int .i64) x201 .dp, ar 0 (.int .i64) x202 .dp, bx [.v (.int .i64) x203, .hd 4 0 none, .hd 5 0 none] 59, ar 0 (.int .i64) x204 .dp, ar 0 (.int .i64) x205 .dp, bx [.v (.int .i64) (0 : Int), .nil, .nil] 59]⟩,
    ⟨[(6, .lf (.ptr 0 0 0 0)), (8, .lf (.ptr 3 0 0 0)), (11, B x206), (12, I x207), (13, I y271.1), (14, B y271.2), (105, .agg [.v (.int .i64) x203, .hd 4 0 none, .hd 5 0 none]), (107, .lf (.hd 4 0 none))], [bx [.v (.int .i64) x200, .hd 1 0 none, .hd 2 0 none] 59, ar 0 (.int .i64) x201 .dp, ar 0 (.int .i64) x202 .dp, bx [.v (.int .i64) x203, .hd 4 0 none, .hd 5 0 none] 59, ar 0 (.int .i64) x204 .dp, ar 0 (.int .i64) x205 .dp]⟩,
    ⟨[(6, .lf (.ptr 0 0 0 0)), (8, .lf (.ptr 3 0 0 0)), (11, B x206), (12, I x207), (13, I y271.1), (14, B y271.2), (105, .agg [.v (.int .i64) x203, .hd 4 0 none, .hd 5 0 none]), (106, .lf (.ptr 3 0 0 1)), (108, I x207)], [bx [.v (.int .i64) x200, .hd 1 0 none, .hd 2 0 none] 59, ar 0 (.int .i64) x201 .dp, ar 0 (.int .i64) x202 .dp, bx [.v (.int .i64) x203, .hd 4 0 none, .hd 5 0 none] 59, ar 0 (.int .i64) x204 .dp, ar 0 (.int .i64) x205 .dp]⟩,
    ⟨[(6, .lf (.ptr 0 0 0 0)), (8, .lf (.ptr 3 0 0 0)), (11, B x206), (12, I x207), (13, I y271.1), (14, B y271.2), (15, .lf (.ptr 6 0 0 0)), (105, .agg [.v (.int .i64) x203, .hd 4 0 none, .hd 5 0 none]), (106, .lf (.ptr 3 0 0 1))], [bx [.v (.int .i64) x200, .hd 1 0 none, .hd 2 0 none] 59, ar 0 (.int .i64) x201 .dp, ar 0 (.int .i64) x202 .dp, bx [.v (.int .i64) x203, .hd 4 0 none, .hd 5 0 none] 59, ar 0 (.int .i64) x204 .dp, ar 0 (.int .i64) x205 .dp, bx [.v (.int .i64) (0 : Int), .nil, .nil] 59]⟩,
    ⟨[(6, .lf (.ptr 0 0 0 0)), (8, .lf (.ptr 3 0 0 0)), (11, B x206), (12, I x207), (13, I y271.1), (14, B y271.2), (15, .lf (.ptr 6 0 0 0)), (105, .agg [.v (.int .i64) x203, .hd 4 0 none, .hd 5 0 none]), (108, I x207)], [bx [.v (.int .i64) x200, .hd 1 0 none, .hd 2 0 none] 59, ar 0 (.int .i64) x201 .dp, ar 0 (.int .i64) x202 .dp, bx [.v (.int .i64) x203, .hd 4 0 none, .hd 5 0 none] 59, ar 0 (.int .i64) x204 .dp, ar 0 (.int .i64) x205 .dp, bx [.v (.int .i64) (0 : Int), .nil, .nil] 59]⟩,
    ⟨[(6, .lf (.ptr 0 0 0 0)), (8, .lf (.ptr 3 0 0 0)), (11, B x206), (12, I x207), (13, I y271.1), (14, B y271.2), (107, .lf (.hd 4 0 none)), (108, I x207)], [bx [.v (.int .i64) x200, .hd 1 0 none, .hd 2 0 none] 59, ar 0 (.int .i64) x201 .dp, ar 0 (.int .i64) x202 .dp, bx [.v (.int .i64) x203, .hd 4 0 none, .hd 5 0 none] 59, ar 0 (.int .i64) x204 .dp, ar 0 (.int .i64) x205 .dp]⟩,
    ⟨[(6, .lf (.ptr 0 0 0 0)), (8, .lf (.ptr 3 0 0 0)), (11, B x206), (12, I x207), (13, I y271.1), (14, B y271.2), (15, .lf (.ptr 6 0 0 0)), (107, .lf (.hd 4 0 none))], [bx [.v (.int .i64) x200, .hd 1 0 none, .hd 2 0 none] 59, ar 0 (.int .i64) x201 .dp, ar 0 (.int .i64) x202 .dp, bx [.v (.int .i64) x203, .hd 4 0 none, .hd 5 0 none] 59, ar 0 (.int .i64) x204 .dp, ar 0 (.int .i64) x205 .dp, bx [.v (.int .i64) (0 : Int), .nil, .nil] 59]⟩,
    ⟨[(6, .lf (.ptr 0 0 0 0)), (8, .lf (.ptr 3 0 0 0)), (11, B x206), (12, I x207), (13, I y271.1), (14, B y271.2), (15, .lf (.ptr 6 0 0 0)), (106, .lf (.ptr 3 0 0 1)), (108, I x207)], [bx [.v (.int .i64) x200, .hd 1 0 none, .hd 2 0 none] 59, ar 0 (.int .i64) x201 .dp, ar 0 (.int .i64) x202 .dp, bx [.v (.int .i64) x203, .hd 4 0 none, .hd 5 0 none] 59, ar 0 (.int .i64) x204 .dp, ar 0 (.int .i64) x205 .dp, bx [.v (.int .i64) (0 : Int), .nil, .nil] 59]⟩,
    ⟨[(6, .lf (.ptr 0 0 0 0)), (8, .lf (.ptr 3 0 0 0)), (11, B x206), (12, I x207), (13, I y271.1), (14, B y271.2), (105, .agg [.v (.int .i64) x203, .hd 4 0 none, .hd 5 0 none]), (107, .lf (.hd 4 0 none)), (108, I x207)], [bx [.v (.int .i64) x200, .hd 1 0 none, .hd 2 0 none] 59, ar 0 (.int .i64) x201 .dp, ar 0 (.int .i64) x202 .dp, bx [.v (.int .i64) x203, .hd 4 0 none, .hd 5 0 none] 59, ar 0 (.int .i64) x204 .dp, ar 0 (.int .i64) x205 .dp]⟩,
    ⟨[(6, .lf (.ptr 0 0 0 0)), (8, .lf (.ptr 3 0 0 0)), (11, B x206), (12, I x207), (13, I y271.1), (14, B y271.2), (15, .lf (.ptr 6 0 0 0)), (105, .agg [.v (.int .i64) x203, .hd 4 0 none, .hd 5 0 none]), (107, .lf (.hd 4 0 none))], [bx [.v (.int .i64) x200, .hd 1 0 none, .hd 2 0 none] 59, ar 0 (.int .i64) x201 .dp, ar 0 (.int .i64) x202 .dp, bx [.v (.int .i64) x203, .hd 4 0 none, .hd 5 0 none] 59, ar 0 (.int .i64) x204 .dp, ar 0 (.int .i64) x205 .dp, bx [.v (.int .i64) (0 : Int), .nil, .nil] 59]⟩,
    ⟨[(6, .lf (.ptr 0 0 0 0)), (8, .lf (.ptr 3 0 0 0)), (11, B x206), (12, I x207), (13, I y271.1), (14, B y271.2), (15, .lf (.ptr 6 0 0 0)), (105, .agg [.v (.int .i64) x203, .hd 4 0 none, .hd 5 0 none]), (106, .lf (.ptr 3 0 0 1)), (108, I x207)], [bx [.v (.int .i64) x200, .hd 1 0 none, .hd 2 0 none] 59, ar 0 (.int .i64) x201 .dp, ar 0 (.int .i64) x202 .dp, bx [.v (.int .i64) x203, .hd 4 0 none, .hd 5 0 none] 59, ar 0 (.int .i64) x204 .dp, ar 0 (.int .i64) x205 .dp, bx [.v (.int .i64) (0 : Int), .nil, .nil] 59]⟩,
    ⟨[(6, .lf (.ptr 0 0 0 0)), (8, .lf (.ptr 3 0 0 0)), (11, B x206), (12, I x207), (13, I y271.1), (14, B y271.2), (109, .lf (.ptr 4 0 x207.toNat 0))], [bx [.v (.int .i64) x200, .hd 1 0 none, .hd 2 0 none] 59, ar 0 (.int .i64) x201 .dp, ar 0 (.int .i64) x202 .dp, bx [.v (.int .i64) x203, .hd 4 0 none, .hd 5 0 none] 59, ar 0 (.int .i64) x204 .dp, ar 0 (.int .i64) x205 .dp]⟩,
    ⟨[(6, .lf (.ptr 0 0 0 0)), (8, .lf (.ptr 3 0 0 0)), (11, B x206), (12, I x207), (13, I y271.1), (14, B y271.2), (15, .lf (.ptr 6 0 0 0)), (107, .lf (.hd 4 0 none)), (108, I x207)], [bx [.v (.int .i64) x200, .hd 1 0 none, .hd 2 0 none] 59, ar 0 (.int .i64) x201 .dp, ar 0 (.int .i64) x202 .dp, bx [.v (.int .i64) x203, .hd 4 0 none, .hd 5 0 none] 59, ar 0 (.int .i64) x204 .dp, ar 0 (.int .i64) x205 .dp, bx [.v (.int .i64) (0 : Int), .nil, .nil] 59]⟩,
    ⟨[(6, .lf (.ptr 0 0 0 0)), (8, .lf (.ptr 3 0 0 0)), (11, B x206), (12, I x207), (13, I y271.1), (14, B y271.2), (105, .agg [.v (.int .i64) x203, .hd 4 0 none, .hd 5 0 none]), (109, .lf (.ptr 4 0 x207.toNat 0))], [bx [.v (.int .i64) x200, .hd 1 0 none, .hd 2 0 none] 59, ar 0 (.int .i64) x201 .dp, ar 0 (.int .i64) x202 .dp, bx [.v (.int .i64) x203, .hd 4 0 none, .hd 5 0 none] 59, ar 0 (.int .i64) x204 .dp, ar 0 (.int .i64) x205 .dp]⟩,
    ⟨[(6, .lf (.ptr 0 0 0 0)), (8, .lf (.ptr 3 0 0 0)), (11, B x206), (12, I x207), (13, I y271.1), (14, B y271.2), (15, .lf (.ptr 6 0 0 0)), (105, .agg [.v (.int .i64) x203, .hd 4 0 none, .hd 5 0 none]), (107, .lf (.hd 4 0 none)), (108, I x207)], [bx [.v (.int .i64) x200, .hd 1 0 none, .hd 2 0 none] 59, ar 0 (.int .i64) x201 .dp, ar 0 (.int .i64) x202 .dp, bx [.v (.int .i64) x203, .hd 4 0 none, .hd 5 0 none] 59, ar 0 (.int .i64) x204 .dp, ar 0 (.int .i64) x205 .dp, bx [.v (.int .i64) (0 : Int), .nil, .nil] 59]⟩,
    ⟨[(6, .lf (.ptr 0 0 0 0)), (8, .lf (.ptr 3 0 0 0)), (11, B x206), (12, I x207), (13, I y271.1), (14, B y271.2), (110, I (x204.getD x207.toNat (Ty.dflt (.int .i64))))], [bx [.v (.int .i64) x200, .hd 1 0 none, .hd 2 0 none] 59, ar 0 (.int .i64) x201 .dp, ar 0 (.int .i64) x202 .dp, bx [.v (.int .i64) x203, .hd 4 0 none, .hd 5 0 none] 59, ar 0 (.int .i64) x204 .dp, ar 0 (.int .i64) x205 .dp]⟩,
    ⟨[(6, .lf (.ptr 0 0 0 0)), (8, .lf (.ptr 3 0 0 0)), (11, B x206), (12, I x207), (13, I y271.1), (14, B y271.2), (15, .lf (.ptr 6 0 0 0)), (109, .lf (.ptr 4 0 x207.toNat 0))], [bx [.v (.int .i64) x200, .hd 1 0 none, .hd 2 0 none] 59, ar 0 (.int .i64) x201 .dp, ar 0 (.int .i64) x202 .dp, bx [.v (.int .i64) x203, .hd 4 0 none, .hd 5 0 none] 59, ar 0 (.int .i64) x204 .dp, ar 0 (.int .i64) x205 .dp, bx [.v (.int .i64) (0 : Int), .nil, .nil] 59]⟩,
    ⟨[(6, .lf (.ptr 0 0 0 0)), (8, .lf (.ptr 3 0 0 0)), (11, B x206), (12, I x207), (13, I y271.1), (14, B y271.2), (105, .agg [.v (.int .i64) x203, .hd 4 0 none, .hd 5 0 none]), (110, I (x204.getD x207.toNat (Ty.dflt (.int .i64))))], [bx [.v (.int .i64) x200, .hd 1 0 none, .hd 2 0 none] 59, ar 0 (.int .i64) x201 .dp, ar 0 (.int .i64) x202 .dp, bx [.v (.int .i64) x203, .hd 4 0 none, .hd 5 0 none] 59, ar 0 (.int .i64) x204 .dp, ar 0 (.int .i64) x205 .dp]⟩,
    ⟨[(6, .lf (.ptr 0 0 0 0)), (8, .lf (.ptr 3 0 0 0)), (11, B x206), (12, I x207), (13, I y271.1), (14, B y271.2), (15, .lf (.ptr 6 0 0 0)), (105, .agg [.v (.int .i64) x203, .hd 4 0 none, .hd 5 0 none]), (109, .lf (.ptr 4 0 x207.toNat 0))], [bx [.v (.int .i64) x200, .hd 1 0 none, .hd 2 0 none] 59, ar 0 (.int .i64) x201 .dp, ar 0 (.int .i64) x202 .dp, bx [.v (.int .i64) x203, .hd 4 0 none, .hd 5 0 none] 59, ar 0 (.int .i64) x204 .dp, ar 0 (.int .i64) x205 .dp, bx [.v (.int .i64) (0 : Int), .nil, .nil] 59]⟩,
    ⟨[(6, .lf (.ptr 0 0 0 0)), (8, .lf (.ptr 3 0 0 0)), (11, B x206), (12, I x207), (13, I y271.1), (14, B y271.2), (15, .lf (.ptr 6 0 0 0)), (110, I (x204.getD x207.toNat (Ty.dflt (.int .i64))))], [bx [.v (.int .i64) x200, .hd 1 0 none, .hd 2 0 none] 59, ar 0 (.int .i64) x201 .dp, ar 0 (.int .i64) x202 .dp, bx [.v (.int .i64) x203, .hd 4 0 none, .hd 5 0 none] 59, ar 0 (.int .i64) x204 .dp, ar 0 (.int .i64) x205 .dp, bx [.v (.int .i64) (0 : Int), .nil, .nil] 59]⟩,
    ⟨[(6, .lf (.ptr 0 0 0 0)), (8, .lf (.ptr 3 0 0 0)), (11, B x206), (12, I x207), (13, I y271.1), (14, B y271.2), (111, .tup [.agg [.v (.int .i64) y274.1.1, .hd 6 0 none, .hd 7 0 none], .lf (.v (.int .i64) y274.2.1), .lf (.v .bool y274.2.2)])], [bx [.v (.int .i64) x200, .hd 1 0 none, .hd 2 0 none] 59, ar 0 (.int .i64) x201 .dp, ar 0 (.int .i64) x202 .dp, bx [.v (.int .i64) x203, .hd 4 0 none, .hd 5 0 none] 59, ar 0 (.int .i64) x204 .dp, ar 0 (.int .i64) x205 .dp, ar 0 (.int .i64) y274.1.2.1 .dp, ar 0 (.int .i64) y274.1.2.2 .dp]⟩,
    ⟨[(6, .lf (.ptr 0 0 0 0)), (8, .lf (.ptr 3 0 0 0)), (11, B x206), (12, I x207), (13, I y271.1), (14, B y271.2), (15, .lf (.ptr 6 0 0 0)), (105, .agg [.v (.int .i64) x203, .hd 4 0 none, .hd 5 0 none]), (110, I (x204.getD x207.toNat (Ty.dflt (.int .i64))))], [bx [.v (.int .i64) x200, .hd 1 0 none, .hd 2 0 none] 59, ar 0 (.int .i64) x201 .dp, ar 0 (.int .i64) x202 .dp, bx [.v (.int .i64) x203, .hd 4 0 none, .hd 5 0 none] 59, ar 0 (.int .i64) x204 .dp, ar 0 (.int .i64) x205 .dp, bx [.v (.int .i64) (0 : Int), .nil, .nil] 59]⟩,
    ⟨[(6, .lf (.ptr 0 0 0 0)), (8, .lf (.ptr 3 0 0 0)), (11, B x206), (12, I x207), (13, I y271.1), (14, B y271.2), (104, .tup [.agg [.v (.int .i64) y274.1.1, .hd 6 0 none, .hd 7 0 none], .lf (.v (.int .i64) y274.2.1), .lf (.v .bool y274.2.2)])], [bx [.v (.int .i64) x200, .hd 1 0 none, .hd 2 0 none] 59, ar 0 (.int .i64) x201 .dp, ar 0 (.int .i64) x202 .dp, bx [.v (.int .i64) x203, .hd 4 0 none, .hd 5 0 none] 59, ar 0 (.int .i64) x204 .dp, ar 0 (.int .i64) x205 .dp, ar 0 (.int .i64) y274.1.2.1 .dp, ar 0 (.int .i64) y274.1.2.2 .dp]⟩,
    ⟨[(6, .lf (.ptr 0 0 0 0)), (8, .lf (.ptr 3 0 0 0)), (11, B x206), (12, I x207), (13, I y271.1), (14, B y271.2), (15, .lf (.ptr 6 0 0 0)), (111, .tup [.agg [.v (.int .i64) y274.1.1, .hd 7 0 none, .hd 8 0 none], .lf (.v (.int .i64) y274.2.1), .lf (.v .bool y274.2.2)])], [bx [.v (.int .i64) x200, .hd 1 0 none, .hd 2 0 none] 59, ar 0 (.int .i64) x201 .dp, ar 0 (.int .i64) x202 .dp, bx [.v (.int .i64) x203, .hd 4 0 none, .hd 5 0 none] 59, ar 0 (.int .i64) x204 .dp, ar 0 (.int .i64) x205 .dp, bx [.v (.int .i64) (0 : Int), .nil, .nil] 59, ar 0 (.int .i64) y274.1.2.1 .dp, ar 0 (.int .i64) y274.1.2.2 .dp]⟩,
    ⟨[(6, .lf (.ptr 0 0 0 0)), (8, .lf (.ptr 3 0 0 0)), (11, B x206), (12, I x207), (13, I y271.1), (14, B y271.2), (104, .tup [.agg [.v (.int .i64) y274.1.1, .hd 6 0 none, .hd 7 0 none], .lf (.v (.int .i64) y274.2.1), .lf (.v .bool y274.2.2)]), (112, .agg [.v (.int .i64) y274.1.1, .hd 6 0 none, .hd 7 0 none])], [bx [.v (.int .i64) x200, .hd 1 0 none, .hd 2 0 none] 59, ar 0 (.int .i64) x201 .dp, ar 0 (.int .i64) x202 .dp, bx [.v (.int .i64) x203, .hd 4 0 none, .hd 5 0 none] 59, ar 0 (.int .i64) x204 .dp, ar 0 (.int .i64) x205 .dp, ar 0 (.int .i64) y274.1.2.1 .dp, ar 0 (.int .i64) y274.1.2.2 .dp]⟩,
    ⟨[(6, .lf (.ptr 0 0 0 0)), (8, .lf (.ptr 3 0 0 0)), (11, B x206), (12, I x207), (13, I y271.1), (14, B y271.2), (104, .tup [.agg [.v (.int .i64) y274.1.1, .hd 6 0 none, .hd 7 0 none], .lf (.v (.int .i64) y274.2.1), .lf (.v .bool y274.2.2)]), (113, I y274.2.1)], [bx [.v (.int .i64) x200, .hd 1 0 none, .hd 2 0 none] 59, ar 0 (.int .i64) x201 .dp, ar 0 (.int .i64) x202 .dp, bx [.v (.int .i64) x203, .hd 4 0 none, .hd 5 0 none] 59, ar 0 (.int .i64) x204 .dp, ar 0 (.int .i64) x205 .dp, ar 0 (.int .i64) y274.1.2.1 .dp, ar 0 (.int .i64) y274.1.2.2 .dp]⟩,
    ⟨[(6, .lf (.ptr 0 0 0 0)), (8, .lf (.ptr 3 0 0 0)), (11, B x206), (12, I x207), (13, I y271.1), (14, B y271.2), (104, .tup [.agg [.v (.int .i64) y274.1.1, .hd 6 0 none, .hd 7 0 none], .lf (.v (.int .i64) y274.2.1), .lf (.v .bool y274.2.2)]), (114, B y274.2.2)], [bx [.v (.int .i64) x200, .hd 1 0 none, .hd 2 0 none] 59, ar 0 (.int .i64) x201 .dp, ar 0 (.int .i64) x202 .dp, bx [.v (.int .i64) x203, .hd 4 0 none, .hd 5 0 none] 59, ar 0 (.int .i64) x204 .dp, ar 0 (.int .i64) x205 .dp, ar 0 (.int .i64) y274.1.2.1 .dp, ar 0 (.int .i64) y274.1.2.2 .dp]⟩,
    ⟨[(6, .lf (.ptr 0 0 0 0)), (8, .lf (.ptr 3 0 0 0)), (11, B x206), (12, I x207), (13, I y271.1), (14, B y271.2), (15, .lf (.ptr 6 0 0 0)), (104, .tup [.agg [.v (.int .i64) y274.1.1, .hd 7 0 none, .hd 8 0 none], .lf (.v (.int .i64) y274.2.1), .lf (.v .bool y274.2.2)])], [bx [.v (.int .i64) x200, .hd 1 0 none, .hd 2 0 none] 59, ar 0 (.int .i64) x201 .dp, ar 0 (.int .i64) x202 .dp, bx [.v (.int .i64) x203, .hd 4 0 none, .hd 5 0 none] 59, ar 0 (.int .i64) x204 .dp, ar 0 (.int .i64) x205 .dp, bx [.v (.int .i64) (0 : Int), .nil, .nil] 59, ar 0 (.int .i64) y274.1.2.1 .dp, ar 0 (.int .i64) y274.1.2.2 .dp]⟩,
    ⟨[(6, .lf (.ptr 0 0 0 0)), (8, .lf (.ptr 3 0 0 0)), (11, B x206), (12, I x207), (13, I y271.1), (14, B y271.2), (104, .tup [.agg [.v (.int .i64) y274.1.1, .hd 6 0 none, .hd 7 0 none], .lf (.v (.int .i64) y274.2.1), .lf (.v .bool y274.2.2)]), (112, .agg [.v (.int .i64) y274.1.1, .hd 6 0 none, .hd 7 0 none]), (113, I y274.2.1)], [bx [.v (.int .i64) x200, .hd 1 0 none, .hd 2 0 none] 59, ar 0 (.int .i64) x201 .dp, ar 0 (.int .i64) x202 .dp, bx [.v (.int .i64) x203, .hd 4 0 none, .hd 5 0 none] 59, ar 0 (.int .i64) x204 .dp, ar 0 (.int .i64) x205 .dp, ar 0 (.int .i64) y274.1.2.1 .dp, ar 0 (.int .i64) y274.1.2.2 .dp]⟩,
    ⟨[(6, .lf (.ptr 0 0 0 0)), (8, .lf (.ptr 3 0 0 0)), (11, B x206), (12, I x207), (13, I y271.1), (14, B y271.2), (104, .tup [.agg [.v (.int .i64) y274.1.1, .hd 6 0 none, .hd 7 0 none], .lf (.v (.int .i64) y274.2.1), .lf (.v .bool y274.2.2)]), (112, .agg [.v (.int .i64) y274.1.1, .hd 6 0 none, .hd 7 0 none]), (114, B y274.2.2)], [bx [.v (.int .i64) x200, .hd 1 0 none, .hd 2 0 none] 59, ar 0 (.int .i64) x201 .dp, ar 0 (.int .i64) x202 .dp, bx [.v (.int .i64) x203, .hd 4 0 none, .hd 5 0 none] 59, ar 0 (.int .i64) x204 .dp, ar 0 (.int .i64) x205 .dp, ar 0 (.int .i64) y274.1.2.1 .dp, ar 0 (.int .i64) y274.1.2.2 .dp]⟩,
    ⟨[(6, .lf (.ptr 0 0 0 0)), (8, .lf (.ptr 3 0 0 0)), (11, B x206), (12, I x207), (13, I y271.1), (14, B y271.2), (15, .lf (.ptr 6 0 0 0)), (104, .tup [.agg [.v (.int .i64) y274.1.1, .hd 7 0 none, .hd 8 0 none], .lf (.v (.int .i64) y274.2.1), .lf (.v .bool y274.2.2)]), (112, .agg [.v (.int .i64) y274.1.1, .hd 7 0 none, .hd 8 0 none])], [bx [.v (.int .i64) x200, .hd 1 0 none, .hd 2 0 none] 59, ar 0 (.int .i64) x201 .dp, ar 0 (.int .i64) x202 .dp, bx [.v (.int .i64) x203, .hd 4 0 none, .hd 5 0 none] 59, ar 0 (.int .i64) x204 .dp, ar 0 (.int .i64) x205 .dp, bx [.v (.int .i64) (0 : Int), .nil, .nil] 59, ar 0 (.int .i64) y274.1.2.1 .dp, ar 0 (.int .i64) y274.1.2.2 .dp]⟩,
    ⟨[(6, .lf (.ptr 0 0 0 0)), (8, .lf (.ptr 3 0 0 0)), (11, B x206), (12, I x207), (13, I y271.1), (14, B y271.2), (104, .tup [.agg [.v (.int .i64) y274.1.1, .hd 6 0 none, .hd 7 0 none], .lf (.v (.int .i64) y274.2.1), .lf (.v .bool y274.2.2)]), (113, I y274.2.1), (114, B y274.2.2)], [bx [.v (.int .i64) x200, .hd 1 0 none, .hd 2 0 none] 59, ar 0 (.int .i64) x201 .dp, ar 0 (.int .i64) x202 .dp, bx [.v (.int .i64) x203, .hd 4 0 none, .hd 5 0 none] 59, ar 0 (.int .i64) x204 .dp, ar 0 (.int .i64) x205 .dp, ar 0 (.int .i64) y274.1.2.1 .dp, ar 0 (.int .i64) y274.1.2.2 .dp]⟩,
    ⟨[(6, .lf (.ptr 0 0 0 0)), (8, .lf (.ptr 3 0 0 0)), (11, B x206), (12, I x207), (13, I y271.1), (14, B y271.2), (15, .lf (.ptr 6 0 0 0)), (104, .tup [.agg [.v (.int .i64) y274.1.1, .hd 7 0 none, .hd 8 0 none], .lf (.v (.int .i64) y274.2.1), .lf (.v .bool y274.2.2)]), (113, I y274.2.1)], [bx [.v (.int .i64) x200, .hd 1 0 none, .hd 2 0 none] 59, ar 0 (.int .i64) x201 .dp, ar 0 (.int .i64) x202 .dp, bx [.v (.int .i64) x203, .hd 4 0 none, .hd 5 0 none] 59, ar 0 (.int .i64) x204 .dp, ar 0 (.int .i64) x205 .dp, bx [.v (.int .i64) (0 : Int), .nil, .nil] 59, ar 0 (.int .i64) y274.1.2.1 .dp, ar 0 (.int .i64) y274.1.2.2 .dp]⟩,
    ⟨[(6, .lf (.ptr 0 0 0 0)), (8, .lf (.ptr 3 0 0 0)), (11, B x206), (12, I x207), (13, I y271.1), (14, B y271.2), (15, .lf (.ptr 6 0 0 0)), (104, .tup [.agg [.v (.int .i64) y274.1.1, .hd 7 0 none, .hd 8 0 none], .lf (.v (.int .i64) y274.2.1), .lf (.v .bool y274.2.2)]), (114, B y274.2.2)], [bx [.v (.int .i64) x200, .hd 1 0 none, .hd 2 0 none] 59, ar 0 (.int .i64) x201 .dp, ar 0 (.int .i64) x202 .dp, bx [.v (.int .i64) x203, .hd 4 0 none, .hd 5 0 none] 59, ar 0 (.int .i64) x204 .dp, ar 0 (.int .i64) x205 .dp, bx [.v (.int .i64) (0 : Int), .nil, .nil] 59, ar 0 (.int .i64) y274.1.2.1 .dp, ar 0 (.int .i64) y274.1.2.2 .dp]⟩,
    ⟨[(6, .lf (.ptr 0 0 0 0)), (8, .lf (.ptr 3 0 0 0)), (11, B x206), (12, I x207), (13, I y271.1), (14, B y271.2), (112, .agg [.v (.int .i64) y274.1.1, .hd 6 0 none, .hd 7 0 none]), (113, I y274.2.1), (114, B y274.2.2)], [bx [.v (.int .i64) x200, .hd 1 0 none, .hd 2 0 none] 59, ar 0 (.int .i64) x201 .dp, ar 0 (.int .i64) x202 .dp, bx [.v (.int .i64) x203, .hd 4 0 none, .hd 5 0 none] 59, ar 0 (.int .i64) x204 .dp, ar 0 (.int .i64) x205 .dp, ar 0 (.int .i64) y274.1.2.1 .dp, ar 0 (.int .i64) y274.1.2.2 .dp]⟩,
    ⟨[(6, .lf (.ptr 0 0 0 0)), (8, .lf (.ptr 3 0 0 0)), (11, B x206), (12, I x207), (13, I y271.1), (14, B y271.2), (15, .lf (.ptr 6 0 0 0)), (104, .tup [.agg [.v (.int .i64) y274.1.1, .hd 7 0 none, .hd 8 0 none], .lf (.v (.int .i64) y274.2.1), .lf (.v .bool y274.2.2)]), (112, .agg [.v (.int .i64) y274.1.1, .hd 7 0 none, .hd 8 0 none]), (113, I y274.2.1)], [bx [.v (.int .i64) x200, .hd 1 0 none, .hd 2 0 none] 59, ar 0 (.int .i64) x201 .dp, ar 0 (.int .i64) x202 .dp, bx [.v (.int .i64) x203, .hd 4 0 none, .hd 5 0 none] 59, ar 0 (.int .i64) x204 .dp, ar 0 (.int .i64) x205 .dp, bx [.v (.int .i64) (0 : Int), .nil, .nil] 59, ar 0 (.int .i64) y274.1.2.1 .dp, ar 0 (.int .i64) y274.1.2.2 .dp]⟩,
    ⟨[(6, .lf (.ptr 0 0 0 0)), (8, .lf (.ptr 3 0 0 0)), (11, B x206), (12, I x207), (13, I y271.1), (14, B y271.2), (15, .lf (.ptr 6 0 0 0)), (104, .tup [.agg [.v (.int .i64) y274.1.1, .hd 7 0 none, .hd 8 0 none], .lf (.v (.int .i64) y274.2.1), .lf (.v .bool y274.2.2)]), (112, .agg [.v (.int .i64) y274.1.1, .hd 7 0 none, .hd 8 0 none]), (114, B y274.2.2)], [bx [.v (.int .i64) x200, .hd 1 0 none, .hd 2 0 none] 59, ar 0 (.int .i64) x201 .dp, ar 0 (.int .i64) x202 .dp, bx [.v (.int .i64) x203, .hd 4 0 none, .hd 5 0 none] 59, ar 0 (.int .i64) x204 .dp, ar 0 (.int .i64) x205 .dp, bx [.v (.int .i64) (0 : Int), .nil, .nil] 59, ar 0 (.int .i64) y274.1.2.1 .dp, ar 0 (.int .i64) y274.1.2.2 .dp]⟩,
    ⟨[(6, .lf (.ptr 0 0 0 0)), (8, .lf (.ptr 3 0 0 0)), (11, B x206), (12, I x207), (13, I y271.1), (14, B y271.2), (15, .lf (.ptr 6 0 0 0)), (104, .tup [.agg [.v (.int .i64) y274.1.1, .hd 7 0 none, .hd 8 0 none], .lf (.v (.int .i64) y274.2.1), .lf (.v .bool y274.2.2)])], [bx [.v (.int .i64) x200, .hd 1 0 none, .hd 2 0 none] 59, ar 0 (.int .i64) x201 .dp, ar 0 (.int .i64) x202 .dp, bx [.v (.int .i64) x203, .hd 4 0 none, .hd 5 0 none] 59, ar 0 (.int .i64) x204 .dp, ar 0 (.int .i64) x205 .dp, bx [.v (.int .i64) y274.1.1, .hd 7 0 none, .hd 8 0 none] 59, ar 0 (.int .i64) y274.1.2.1 .dp, ar 0 (.int .i64) y274.1.2.2 .dp]⟩,
    ⟨[(6, .lf (.ptr 0 0 0 0)), (8, .lf (.ptr 3 0 0 0)), (11, B x206), (12, I x207), (13, I y271.1), (14, B y271.2), (15, .lf (.ptr 6 0 0 0)), (104, .tup [.agg [.v (.int .i64) y274.1.1, .hd 7 0 none, .hd 8 0 none], .lf (.v (.int .i64) y274.2.1), .lf (.v .bool y274.2.2)]), (113, I y274.2.1), (114, B y274.2.2)], [bx [.v (.int .i64) x200, .hd 1 0 none, .hd 2 0 none] 59, ar 0 (.int .i64) x201 .dp, ar 0 (.int .i64) x202 .dp, bx [.v (.int .i64) x203, .hd 4 0 none, .hd 5 0 none] 59, ar 0 (.int .i64) x204 .dp, ar 0 (.int .i64) x205 .dp, bx [.v (.int .i64) (0 : Int), .nil, .nil] 59, ar 0 (.int .i64) y274.1.2.1 .dp, ar 0 (.int .i64) y274.1.2.2 .dp]⟩,
    ⟨[(6, .lf (.ptr 0 0 0 0)), (8, .lf (.ptr 3 0 0 0)), (11, B x206), (12, I x207), (13, I y271.1), (14, B y271.2), (15, .lf (.ptr 6 0 0 0)), (112, .agg [.v (.int .i64) y274.1.1, .hd 7 0 none, .hd 8 0 none]), (113, I y274.2.1), (114, B y274.2.2)], [bx [.v (.int .i64) x200, .hd 1 0 none, .hd 2 0 none] 59, ar 0 (.int .i64) x201 .dp, ar 0 (.int .i64) x202 .dp, bx [.v (.int .i64) x203, .hd 4 0 none, .hd 5 0 none] 59, ar 0 (.int .i64) x204 .dp, ar 0 (.int .i64) x205 .dp, bx [.v (.int .i64) (0 : Int), .nil, .nil] 59, ar 0 (.int .i64) y274.1.2.1 .dp, ar 0 (.int .i64) y274.1.2.2 .dp]⟩,
    ⟨[(6, .lf (.ptr 0 0 0 0)), (8, .lf (.ptr 3 0 0 0)), (11, B x206), (12, I x207), (13, I y271.1), (14, B y271.2), (15, .lf (.ptr 6 0 0 0)), (104, .tup [.agg [.v (.int .i64) y274.1.1, .hd 7 0 none, .hd 8 0 none], .lf (.v (.int .i64) y274.2.1), .lf (.v .bool y274.2.2)]), (113, I y274.2.1)], [bx [.v (.int .i64) x200, .hd 1 0 none, .hd 2 0 none] 59, ar 0 (.int .i64) x201 .dp, ar 0 (.int .i64) x202 .dp, bx [.v (.int .i64) x203, .hd 4 0 none, .hd 5 0 none] 59, ar 0 (.int .i64) x204 .dp, ar 0 (.int .i64) x205 .dp, bx [.v (.int .i64) y274.1.1, .hd 7 0 none, .hd 8 0 none] 59, ar 0 (.int .i64) y274.1.2.1 .dp, ar 0 (.int .i64) y274.1.2.2 .dp]⟩,
    ⟨[(6, .lf (.ptr 0 0 0 0)), (8, .lf (.ptr 3 0 0 0)), (11, B x206), (12, I x207), (13, I y271.1), (14, B y271.2), (15, .lf (.ptr 6 0 0 0)), (104, .tup [.agg [.v (.int .i64) y274.1.1, .hd 7 0 none, .hd 8 0 none], .lf (.v (.int .i64) y274.2.1), .lf (.v .bool y274.2.2)]), (114, B y274.2.2)], [bx [.v (.int .i64) x200, .hd 1 0 none, .hd 2 0 none] 59, ar 0 (.int .i64) x201 .dp, ar 0 (.int .i64) x202 .dp, bx [.v (.int .i64) x203, .hd 4 0 none, .hd 5 0 none] 59, ar 0 (.int .i64) x204 .dp, ar 0 (.int .i64) x205 .dp, bx [.v (.int .i64) y274.1.1, .hd 7 0 none, .hd 8 0 none] 59, ar 0 (.int .i64) y274.1.2.1 .dp, ar 0 (.int .i64) y274.1.2.2 .dp]⟩,
    ⟨[(6, .lf (.ptr 0 0 0 0)), (8, .lf (.ptr 3 0 0 0)), (11, B x206), (12, I x207), (13, I y271.1), (14, B y271.2), (15, .lf (.ptr 6 0 0 0)), (113, I y274.2.1), (114, B y274.2.2)], [bx [.v (.int .i64) x200, .hd 1 0 none, .hd 2 0 none] 59, ar 0 (.int .i64) x201 .dp, ar 0 (.int .i64) x202 .dp, bx [.v (.int .i64) x203, .hd 4 0 none, .hd 5 0 none] 59, ar 0 (.int .i64) x204 .dp, ar 0 (.int .i64) x205 .dp, bx [.v (.int .i64) y274.1.1, .hd 7 0 none, .hd 8 0 none] 59, ar 0 (.int .i64) y274.1.2.1 .dp, ar 0 (.int .i64) y274.1.2.2 .dp]⟩,
    ⟨[(6, .lf (.ptr 0 0 0 0)), (8, .lf (.ptr 3 0 0 0)), (11, B x206), (12, I x207), (13, I y271.1), (14, B y271.2), (15, .lf (.ptr 6 0 0 0)), (16, I y274.2.1), (104, .tup [.agg [.v (.int .i64) y274.1.1, .hd 7 0 none, .hd 8 0 none], .lf (.v (.int .i64) y274.2.1), .lf (.v .bool y274.2.2)])], [bx [.v (.int .i64) x200, .hd 1 0 none, .hd 2 0 none] 59, ar 0 (.int .i64) x201 .dp, ar 0 (.int .i64) x202 .dp, bx [.v (.int .i64) x203, .hd 4 0 none, .hd 5 0 none] 59, ar 0 (.int .i64) x204 .dp, ar 0 (.int .i64) x205 .dp, bx [.v (.int .i64) y274.1.1, .hd 7 0 none, .hd 8 0 none] 59, ar 0 (.int .i64) y274.1.2.1 .dp, ar 0 (.int .i64) y274.1.2.2 .dp]⟩,
    ⟨[(6, .lf (.ptr 0 0 0 0)), (8, .lf (.ptr 3 0 0 0)), (11, B x206), (12, I x207), (13, I y271.1), (14, B y271.2), (15, .lf (.ptr 6 0 0 0)), (16, I y274.2.1), (114, B y274.2.2)], [bx [.v (.int .i64) x200, .hd 1 0 none, .hd 2 0 none] 59, ar 0 (.int .i64) x201 .dp, ar 0 (.int .i64) x202 .dp, bx [.v (.int .i64) x203, .hd 4 0 none, .hd 5 0 none] 59, ar 0 (.int .i64) x204 .dp, ar 0 (.int .i64) x205 .dp, bx [.v (.int .i64) y274.1.1, .hd 7 0 none, .hd 8 0 none] 59, ar 0 (.int .i64) y274.1.2.1 .dp, ar 0 (.int .i64) y274.1.2.2 .dp]⟩,
    ⟨[(6, .lf (.ptr 0 0 0 0)), (8, .lf (.ptr 3 0 0 0)), (11, B x206), (12, I x207), (13, I y271.1), (14, B y271.2), (15, .lf (.ptr 6 0 0 0)), (16, I y274.2.1), (17, B y274.2.2)], [bx [.v (.int .i64) x200, .hd 1 0 none, .hd 2 0 none] 59, ar 0 (.int .i64) x201 .dp, ar 0 (.int .i64) x202 .dp, bx [.v (.int .i64) x203, .hd 4 0 none, .hd 5 0 none] 59, ar 0 (.int .i64) x204 .dp, ar 0 (.int .i64) x205 .dp, bx [.v (.int .i64) y274.1.1, .hd 7 0 none, .hd 8 0 none] 59, ar 0 (.int .i64) y274.1.2.1 .dp, ar 0 (.int .i64) y274.1.2.2 .dp]⟩] [(0, 0, 1), (0, 1, 2), (0, 3, 3), (0, 11, 4), (1, 1, 5), (1, 3, 6), (1, 11, 7), (2, 0, 5), (2, 2, 8), (2, 3, 9), (2, 11, 10), (3, 0, 6), (3, 1, 9), (3, 11, 11), (4, 0, 7), (4, 1, 10), (4, 3, 11), (5, 2, 12), (5, 3, 13), (5, 11, 14), (6, 1, 13), (6, 11, 15), (7, 1, 14), (7, 3, 15), (8, 0, 12), (8, 3, 16), (8, 11, 17), (9, 0, 13), (9, 2, 16), (9, 11, 18), (10, 0, 14), (10, 2, 17), (10, 3, 18), (11, 0, 15), (11, 1, 18), (12, 3, 19), (12, 11, 20), (13, 2, 19), (13, 11, 21), (14, 2, 20), (14, 3, 21), (15, 1, 21), (16, 0, 19), (16, 4, 22), (16, 11, 23), (17, 0, 20), (17, 3, 23), (18, 0, 21), (18, 2, 23), (19, 4, 24), (19, 11, 25), (20, 3, 25), (21, 2, 25), (22, 0, 24), (22, 5, 26), (22, 11, 27), (23, 0, 25), (23, 4, 27), (24, 5, 28), (24, 11, 29), (25, 4, 29), (26, 0, 28), (26, 11, 30), (27, 0, 29), (27, 5, 30), (28, 6, 31), (28, 11, 32), (29, 5, 32), (30, 0, 32), (31, 7, 33), (31, 11, 34), (32, 6, 34), (33, 8, 35), (33, 9, 36), (33, 10, 37), (33, 11, 38), (34, 7, 38), (35, 9, 39), (35, 10, 40), (35, 11, 41), (36, 8, 39), (36, 10, 42), (36, 11, 43), (37, 8, 40), (37, 9, 42), (37, 11, 44), (38, 8, 41), (38, 9, 43), (38, 10, 44), (39, 10, 45), (39, 11, 46), (40, 9, 45), (40, 11, 47), (41, 9, 46), (41, 10, 47), (41, 12, 48), (42, 8, 45), (42, 11, 49), (43, 8, 46), (43, 10, 49), (44, 8, 47), (44, 9, 49), (45, 11, 50), (46, 10, 50), (46, 12, 51), (47, 9, 50), (47, 12, 52), (48, 9, 51), (48, 10, 52), (49, 8, 50), (50, 12, 53), (51, 10, 53), (51, 13, 54), (52, 9, 53), (53, 13, 55), (54, 10, 55), (55, 14, 56)] 56 (s' := ⟨[(6, .lf (.ptr 0 0 0 0)), (8, .lf (.ptr 3 0 0 0)), (11, B x206), (12, I x207), (13, I y271.1), (14, B y271.2), (15, .lf (.ptr 6 0 0 0)), (16, I y274.2.1), (17, B y274.2.2)], [bx [.v (.int .i64) x200, .hd 1 0 none, .hd 2 0 none] 59, ar 0 (.int .i64) x201 .dp, ar 0 (.int .i64) x202 .dp, bx [.v (.int .i64) x203, .hd 4 0 none, .hd 5 0 none] 59, ar 0 (.int .i64) x204 .dp, ar 0 (.int .i64) x205 .dp, bx [.v (.int .i64) y274.1.1, .hd 7 0 none, .hd 8 0 none] 59, ar 0 (.int .i64) y274.1.2.1 .dp, ar 0 (.int .i64) y274.1.2.2 .dp]⟩) (by kernel_rfl) rfl rfl ⟨⟨_, _, _, rfl, rfl, rfl, VO.seg T_ok .dp 1 [6, 8, 11, 12, 13, 14, 105] [0, 1, 2, 3, 4, 5] (φ := True ∧ True) (by kernel_rfl) ⟨trivial, trivial⟩ (VI.fin rfl)⟩,
    ⟨_, _, _, rfl, rfl, rfl, VO.seg T_ok .dp 1 [6, 8, 11, 12, 13, 14, 106] [0, 1, 2, 3, 4, 5] (φ := True ∧ True) (by kernel_rfl) ⟨trivial, trivial⟩ (VI.fin rfl)⟩,
    ⟨_, _, _, rfl, rfl, rfl, VO.seg T_ok .dp 1 [6, 8, 11, 12, 13, 14, 108] [0, 1, 2, 3, 4, 5] (φ := True ∧ True) (by kernel_rfl) ⟨trivial, trivial⟩ (VI.fin rfl)⟩,
    ⟨_, _, _, rfl, rfl, rfl, VO.seg T_ok .dp 1 [6, 8, 11, 12, 13, 14, 15] [0, 1, 2, 3, 4, 5, 6] (φ := True ∧ True) (by kernel_rfl) ⟨trivial, trivial⟩ (VI.fin rfl)⟩,
    ⟨_, _, _, rfl, rfl, rfl, VO.seg T_ok .dp 1 [6, 8, 11, 12, 13, 14, 105, 106] [0, 1, 2, 3, 4, 5] (φ := True ∧ True) (by kernel_rfl) ⟨trivial, trivial⟩ (VI.fin rfl)⟩,
    ⟨_, _, _, rfl, rfl, rfl, VO.seg T_ok .dp 1 [6, 8, 11, 12, 13, 14, 105, 108] [0, 1, 2, 3, 4, 5] (φ := True ∧ True) (by kernel_rfl) ⟨trivial, trivial⟩ (VI.fin rfl)⟩,
    ⟨_, _, _, rfl, rfl, rfl, VO.seg T_ok .dp 1 [6, 8, 11, 12, 13, 14, 15, 105] [0, 1, 2, 3, 4, 5, 6] (φ := True ∧ True) (by kernel_rfl) ⟨trivial, trivial⟩ (VI.fin rfl)⟩,
    ⟨_, _, _, rfl, rfl, rfl, VO.seg T_ok .dp 1 [6, 8, 11, 12, 13, 14, 105, 106] [0, 1, 2, 3, 4, 5] (φ := True ∧ True) (by kernel_rfl) ⟨trivial, trivial⟩ (VI.fin rfl)⟩,
    ⟨_, _, _, rfl, rfl, rfl, VO.seg T_ok .dp 1 [6, 8, 11, 12, 13, 14, 107] [0, 1, 2, 3, 4, 5] (φ := True ∧ True) (by kernel_rfl) ⟨trivial, trivial⟩ (VI.fin rfl)⟩,
    ⟨_, _, _, rfl, rfl, rfl, VO.seg T_ok .dp 1 [6, 8, 11, 12, 13, 14, 106, 108] [0, 1, 2, 3, 4, 5] (φ := True ∧ True) (by kernel_rfl) ⟨trivial, trivial⟩ (VI.fin rfl)⟩,
    ⟨_, _, _, rfl, rfl, rfl, VO.seg T_ok .dp 1 [6, 8, 11, 12, 13, 14, 15, 106] [0, 1, 2, 3, 4, 5, 6] (φ := True ∧ True) (by kernel_rfl) ⟨trivial, trivial⟩ (VI.fin rfl)⟩,
    ⟨_, _, _, rfl, rfl, rfl, VO.seg T_ok .dp 1 [6, 8, 11, 12, 13, 14, 105, 108] [0, 1, 2, 3, 4, 5] (φ := True ∧ True) (by kernel_rfl) ⟨trivial, trivial⟩ (VI.fin rfl)⟩,
    ⟨_, _, _, rfl, rfl, rfl, VO.seg T_ok .dp 1 [6, 8, 11, 12, 13, 14, 106, 108] [0, 1, 2, 3, 4, 5] (φ := True ∧ True) (by kernel_rfl) ⟨trivial, trivial⟩ (VI.fin rfl)⟩,
    ⟨_, _, _, rfl, rfl, rfl, VO.seg T_ok .dp 1 [6, 8, 11, 12, 13, 14, 15, 108] [0, 1, 2, 3, 4, 5, 6] (φ := True ∧ True) (by kernel_rfl) ⟨trivial, trivial⟩ (VI.fin rfl)⟩,
    ⟨_, _, _, rfl, rfl, rfl, VO.seg T_ok .dp 1 [6, 8, 11, 12, 13, 14, 15, 105] [0, 1, 2, 3, 4, 5, 6] (φ := True ∧ True) (by kernel_rfl) ⟨trivial, trivial⟩ (VI.fin rfl)⟩,
    ⟨_, _, _, rfl, rfl, rfl, VO.seg T_ok .dp 1 [6, 8, 11, 12, 13, 14, 15, 106] [0, 1, 2, 3, 4, 5, 6] (φ := True ∧ True) (by kernel_rfl) ⟨trivial, trivial⟩ (VI.fin rfl)⟩,
    ⟨_, _, _, rfl, rfl, rfl, VO.seg T_ok .dp 1 [6, 8, 11, 12, 13, 14, 15, 108] [0, 1, 2, 3, 4, 5, 6] (φ := True ∧ True) (by kernel_rfl) ⟨trivial, trivial⟩ (VI.fin rfl)⟩,
    ⟨_, _, _, rfl, rfl, rfl, VO.seg T_ok .dp 1 [6, 8, 11, 12, 13, 14, 105, 107] [0, 1, 2, 3, 4, 5] (φ := True ∧ True) (by kernel_rfl) ⟨trivial, trivial⟩ (VI.fin rfl)⟩,
    ⟨_, _, _, rfl, rfl, rfl, VO.seg T_ok .dp 1 [6, 8, 11, 12, 13, 14, 105, 106, 108] [0, 1, 2, 3, 4, 5] (φ := True ∧ True) (by kernel_rfl) ⟨trivial, trivial⟩ (VI.fin rfl)⟩,
    ⟨_, _, _, rfl, rfl, rfl, VO.seg T_ok .dp 1 [6, 8, 11, 12, 13, 14, 15, 105, 106] [0, 1, 2, 3, 4, 5, 6] (φ := True ∧ True) (by kernel_rfl) ⟨trivial, trivial⟩ (VI.fin rfl)⟩,
    ⟨_, _, _, rfl, rfl, rfl, VO.seg T_ok .dp 1 [6, 8, 11, 12, 13, 14, 105, 106, 108] [0, 1, 2, 3, 4, 5] (φ := True ∧ True) (by kernel_rfl) ⟨trivial, trivial⟩ (VI.fin rfl)⟩,
    ⟨_, _, _, rfl, rfl, rfl, VO.seg T_ok .dp 1 [6, 8, 11, 12, 13, 14, 15, 105, 108] [0, 1, 2, 3, 4, 5, 6] (φ := True ∧ True) (by kernel_rfl) ⟨trivial, trivial⟩ (VI.fin rfl)⟩,
    ⟨_, _, _, rfl, rfl, rfl, VO.seg T_ok .dp 1 [6, 8, 11, 12, 13, 14, 15, 105, 106] [0, 1, 2, 3, 4, 5, 6] (φ := True ∧ True) (by kernel_rfl) ⟨trivial, trivial⟩ (VI.fin rfl)⟩,
    ⟨_, _, _, rfl, rfl, rfl, VO.seg T_ok .dp 1 [6, 8, 11, 12, 13, 14, 15, 105, 108] [0, 1, 2, 3, 4, 5, 6] (φ := True ∧ True) (by kernel_rfl) ⟨trivial, trivial⟩ (VI.fin rfl)⟩,
    ⟨_, _, _, rfl, rfl, rfl, VO.seg T_ok .dp 1 [6, 8, 11, 12, 13, 14, 105, 107] [0, 1, 2, 3, 4, 5] (φ := True ∧ True) (by kernel_rfl) ⟨trivial, trivial⟩ (VI.fin rfl)⟩,
    ⟨_, _, _, rfl, rfl, rfl, VO.seg T_ok .dp 1 [6, 8, 11, 12, 13, 14, 107, 108] [0, 1, 2, 3, 4, 5] (φ := True ∧ True) (by kernel_rfl) ⟨trivial, trivial⟩ (VI.fin rfl)⟩,
    ⟨_, _, _, rfl, rfl, rfl, VO.seg T_ok .dp 1 [6, 8, 11, 12, 13, 14, 15, 107] [0, 1, 2, 3, 4, 5, 6] (φ := True ∧ True) (by kernel_rfl) ⟨trivial, trivial⟩ (VI.fin rfl)⟩,
    ⟨_, _, _, rfl, rfl, rfl, VO.seg T_ok .dp 1 [6, 8, 11, 12, 13, 14, 105, 106, 108] [0, 1, 2, 3, 4, 5] (φ := True ∧ True) (by kernel_rfl) ⟨trivial, trivial⟩ (VI.fin rfl)⟩,
    ⟨_, _, _, rfl, rfl, rfl, VO.seg T_ok .dp 1 [6, 8, 11, 12, 13, 14, 107, 108] [0, 1, 2, 3, 4, 5] (φ := True ∧ True) (by kernel_rfl) ⟨trivial, trivial⟩ (VI.fin rfl)⟩,
    ⟨_, _, _, rfl, rfl, rfl, VO.seg T_ok .dp 1 [6, 8, 11, 12, 13, 14, 15, 106, 108] [0, 1, 2, 3, 4, 5, 6] (φ := True ∧ True) (by kernel_rfl) ⟨trivial, trivial⟩ (VI.fin rfl)⟩,
    ⟨_, _, _, rfl, rfl, rfl, VO.seg T_ok .dp 1 [6, 8, 11, 12, 13, 14, 15, 105, 106] [0, 1, 2, 3, 4, 5, 6] (φ := True ∧ True) (by kernel_rfl) ⟨trivial, trivial⟩ (VI.fin rfl)⟩,
    ⟨_, _, _, rfl, rfl, rfl, VO.seg T_ok .dp 1 [6, 8, 11, 12, 13, 14, 15, 107] [0, 1, 2, 3, 4, 5, 6] (φ := True ∧ True) (by kernel_rfl) ⟨trivial, trivial⟩ (VI.fin rfl)⟩,
    ⟨_, _, _, rfl, rfl, rfl, VO.seg T_ok .dp 1 [6, 8, 11, 12, 13, 14, 15, 106, 108] [0, 1, 2, 3, 4, 5, 6] (φ := True ∧ True) (by kernel_rfl) ⟨trivial, trivial⟩ (VI.fin rfl)⟩,
    ⟨_, _, _, rfl, rfl, rfl, VO.seg T_ok .dp 1 [6, 8, 11, 12, 13, 14, 15, 105, 108] [0, 1, 2, 3, 4, 5, 6] (φ := True ∧ True) (by kernel_rfl) ⟨trivial, trivial⟩ (VI.fin rfl)⟩,
    ⟨_, _, _, rfl, rfl, rfl, VO.seg T_ok .dp 1 [6, 8, 11, 12, 13, 14, 15, 106, 108] [0, 1, 2, 3, 4, 5, 6] (φ := True ∧ True) (by kernel_rfl) ⟨trivial, trivial⟩ (VI.fin rfl)⟩,
    ⟨_, _, _, rfl, rfl, rfl, VO.seg T_ok .dp 1 [6, 8, 11, 12, 13, 14, 105, 107, 108] [0, 1, 2, 3, 4, 5] (φ := True ∧ True) (by kernel_rfl) ⟨trivial, trivial⟩ (VI.fin rfl)⟩,
    ⟨_, _, _, rfl, rfl, rfl, VO.seg T_ok .dp 1 [6, 8, 11, 12, 13, 14, 15, 105, 107] [0, 1, 2, 3, 4, 5, 6] (φ := True ∧ True) (by kernel_rfl) ⟨trivial, trivial⟩ (VI.fin rfl)⟩,
    ⟨_, _, _, rfl, rfl, rfl, VO.seg T_ok .dp 1 [6, 8, 11, 12, 13, 14, 105, 107, 108] [0, 1, 2, 3, 4, 5] (φ := True ∧ True) (by kernel_rfl) ⟨trivial, trivial⟩ (VI.fin rfl)⟩,
    ⟨_, _, _, rfl, rfl, rfl, VO.seg T_ok .dp 1 [6, 8, 11, 12, 13, 14, 15, 105, 106, 108] [0, 1, 2, 3, 4, 5, 6] (φ := True ∧ True) (by kernel_rfl) ⟨trivial, trivial⟩ (VI.fin rfl)⟩,
    ⟨_, _, _, rfl, rfl, rfl, VO.seg T_ok .dp 1 [6, 8, 11, 12, 13, 14, 15, 105, 107] [0, 1, 2, 3, 4, 5, 6] (φ := True ∧ True) (by kernel_rfl) ⟨trivial, trivial⟩ (VI.fin rfl)⟩,
    ⟨_, _, _, rfl, rfl, rfl, VO.seg T_ok .dp 1 [6, 8, 11, 12, 13, 14, 15, 105, 106, 108] [0, 1, 2, 3, 4, 5, 6] (φ := True ∧ True) (by kernel_rfl) ⟨trivial, trivial⟩ (VI.fin rfl)⟩,
    ⟨_, _, _, rfl, rfl, rfl, VO.seg T_ok .dp 1 [6, 8, 11, 12, 13, 14, 15, 105, 106, 108] [0, 1, 2, 3, 4, 5, 6] (φ := True ∧ True) (by kernel_rfl) ⟨trivial, trivial⟩ (VI.fin rfl)⟩,
    ⟨_, _, _, rfl, rfl, rfl, VO.seg T_ok .dp 1 [6, 8, 11, 12, 13, 14, 105, 107, 108] [0, 1, 2, 3, 4, 5] (φ := True ∧ True) (by kernel_rfl) ⟨trivial, trivial⟩ (VI.fin rfl)⟩,
    ⟨_, _, _, rfl, rfl, rfl, VO.seg T_ok .dp 1 [6, 8, 11, 12, 13, 14, 109] [0, 1, 2, 3, 4, 5] (φ := (InR x207 x204.length) ∧ True) (by kernel_rfl) ⟨g272, trivial⟩ (VI.fin rfl)⟩,
    ⟨_, _, _, rfl, rfl, rfl, VO.seg T_ok .dp 1 [6, 8, 11, 12, 13, 14, 15, 107, 108] [0, 1, 2, 3, 4, 5, 6] (φ := True ∧ True) (by kernel_rfl) ⟨trivial, trivial⟩ (VI.fin rfl)⟩,
    ⟨_, _, _, rfl, rfl, rfl, VO.seg T_ok .dp 1 [6, 8, 11, 12, 13, 14, 15, 105, 107] [0, 1, 2, 3, 4, 5, 6] (φ := True ∧ True) (by kernel_rfl) ⟨trivial, trivial⟩ (VI.fin rfl)⟩,
    ⟨_, _, _, rfl, rfl, rfl, VO.seg T_ok .dp 1 [6, 8, 11, 12, 13, 14, 15, 107, 108] [0, 1, 2, 3, 4, 5, 6] (φ := True ∧ True) (by kernel_rfl) ⟨trivial, trivial⟩ (VI.fin rfl)⟩,
    ⟨_, _, _, rfl, rfl, rfl, VO.seg T_ok .dp 1 [6, 8, 11, 12, 13, 14, 15, 105, 106, 108] [0, 1, 2, 3, 4, 5, 6] (φ := True ∧ True) (by kernel_rfl) ⟨trivial, trivial⟩ (VI.fin rfl)⟩,
    ⟨_, _, _, rfl, rfl, rfl, VO.seg T_ok .dp 1 [6, 8, 11, 12, 13, 14, 15, 107, 108] [0, 1, 2, 3, 4, 5, 6] (φ := True ∧ True) (by kernel_rfl) ⟨trivial, trivial⟩ (VI.fin rfl)⟩,
    ⟨_, _, _, rfl, rfl, rfl, VO.seg T_ok .dp 1 [6, 8, 11, 12, 13, 14, 105, 109] [0, 1, 2, 3, 4, 5] (φ := (InR x207 x204.length) ∧ True) (by kernel_rfl) ⟨g272, trivial⟩ (VI.fin rfl)⟩,
    ⟨_, _, _, rfl, rfl, rfl, VO.seg T_ok .dp 1 [6, 8, 11, 12, 13, 14, 15, 105, 107, 108] [0, 1, 2, 3, 4, 5, 6] (φ := True ∧ True) (by kernel_rfl) ⟨trivial, trivial⟩ (VI.fin rfl)⟩,
    ⟨_, _, _, rfl, rfl, rfl, VO.seg T_ok .dp 1 [6, 8, 11, 12, 13, 14, 15, 105, 107, 108] [0, 1, 2, 3, 4, 5, 6] (φ := True ∧ True) (by kernel_rfl) ⟨trivial, trivial⟩ (VI.fin rfl)⟩,
    ⟨_, _, _, rfl, rfl, rfl, VO.seg T_ok .dp 1 [6, 8, 11, 12, 13, 14, 15, 105, 107, 108] [0, 1, 2, 3, 4, 5, 6] (φ := True ∧ True) (by kernel_rfl) ⟨trivial, trivial⟩ (VI.fin rfl)⟩,
    ⟨_, _, _, rfl, rfl, rfl, VO.seg T_ok .dp 1 [6, 8, 11, 12, 13, 14, 105, 109] [0, 1, 2, 3, 4, 5] (φ := True ∧ True) (by kernel_rfl) ⟨trivial, trivial⟩ (VI.fin rfl)⟩,
    ⟨_, _, _, rfl, rfl, rfl, VO.seg T_ok .dp 1 [6, 8, 11, 12, 13, 14, 110] [0, 1, 2, 3, 4, 5] (φ := (x207.toNat < x204.length) ∧ True) (by kernel_rfl) ⟨g273, trivial⟩ (VI.fin rfl)⟩,
    ⟨_, _, _, rfl, rfl, rfl, VO.seg T_ok .dp 1 [6, 8, 11, 12, 13, 14, 15, 109] [0, 1, 2, 3, 4, 5, 6] (φ := True ∧ True) (by kernel_rfl) ⟨trivial, trivial⟩ (VI.fin rfl)⟩,
    ⟨_, _, _, rfl, rfl, rfl, VO.seg T_ok .dp 1 [6, 8, 11, 12, 13, 14, 15, 105, 107, 108] [0, 1, 2, 3, 4, 5, 6] (φ := True ∧ True) (by kernel_rfl) ⟨trivial, trivial⟩ (VI.fin rfl)⟩,
    ⟨_, _, _, rfl, rfl, rfl, VO.seg T_ok .dp 1 [6, 8, 11, 12, 13, 14, 15, 109] [0, 1, 2, 3, 4, 5, 6] (φ := (InR x207 x204.length) ∧ True) (by kernel_rfl) ⟨g272, trivial⟩ (VI.fin rfl)⟩,
    ⟨_, _, _, rfl, rfl, rfl, VO.seg T_ok .dp 1 [6, 8, 11, 12, 13, 14, 105, 110] [0, 1, 2, 3, 4, 5] (φ := (x207.toNat < x204.length) ∧ True) (by kernel_rfl) ⟨g273, trivial⟩ (VI.fin rfl)⟩,
    ⟨_, _, _, rfl, rfl, rfl, VO.seg T_ok .dp 1 [6, 8, 11, 12, 13, 14, 15, 105, 109] [0, 1, 2, 3, 4, 5, 6] (φ := True ∧ True) (by kernel_rfl) ⟨trivial, trivial⟩ (VI.fin rfl)⟩,
    ⟨_, _, _, rfl, rfl, rfl, VO.seg T_ok .dp 1 [6, 8, 11, 12, 13, 14, 15, 105, 109] [0, 1, 2, 3, 4, 5, 6] (φ := (InR x207 x204.length) ∧ True) (by kernel_rfl) ⟨g272, trivial⟩ (VI.fin rfl)⟩,
    ⟨_, _, _, rfl, rfl, rfl, VO.seg T_ok .dp 1 [6, 8, 11, 12, 13, 14, 105, 110] [0, 1, 2, 3, 4, 5] (φ := True ∧ True) (by kernel_rfl) ⟨trivial, trivial⟩ (VI.fin rfl)⟩,
    ⟨_, _, _, rfl, rfl, rfl, VO.seg T_ok .dp 1 [6, 8, 11, 12, 13, 14, 15, 110] [0, 1, 2, 3, 4, 5, 6] (φ := True ∧ True) (by kernel_rfl) ⟨trivial, trivial⟩ (VI.fin rfl)⟩,
    ⟨_, _, _, rfl, rfl, rfl, VO.seg T_ok .dp 1 [6, 8, 11, 12, 13, 14, 15, 105, 109] [0, 1, 2, 3, 4, 5, 6] (φ := True ∧ True) (by kernel_rfl) ⟨trivial, trivial⟩ (VI.fin rfl)⟩,
    ⟨_, _, _, rfl, rfl, rfl, VO.seg T_ok .dp 1 [6, 8, 11, 12, 13, 14, 15, 110] [0, 1, 2, 3, 4, 5, 6] (φ := (x207.toNat < x204.length) ∧ True) (by kernel_rfl) ⟨g273, trivial⟩ (VI.fin rfl)⟩,
    ⟨_, _, _, rfl, rfl, rfl, by
      refine VO.call true [.t Y58, .t (.int .i64)] [] T_ok (d := some 111) (by kernel_rfl) (ok46 N _ _ hy274) rfl ?_
      exact VO.ghl [.ren [6, 8, 11, 12, 13, 14, 111] [0, 1, 2, 3, 4, 5, 6, 7]] (VI.fin (by kernel_rfl))⟩,
    ⟨_, _, _, rfl, rfl, rfl, VO.seg T_ok .dp 1 [6, 8, 11, 12, 13, 14, 15, 105, 110] [0, 1, 2, 3, 4, 5, 6] (φ := True ∧ True) (by kernel_rfl) ⟨trivial, trivial⟩ (VI.fin rfl)⟩,
    ⟨_, _, _, rfl, rfl, rfl, VO.seg T_ok .dp 1 [6, 8, 11, 12, 13, 14, 15, 105, 110] [0, 1, 2, 3, 4, 5, 6] (φ := (x207.toNat < x204.length) ∧ True) (by kernel_rfl) ⟨g273, trivial⟩ (VI.fin rfl)⟩,
    ⟨_, _, _, rfl, rfl, rfl, VO.seg T_ok .dp 1 [6, 8, 11, 12, 13, 14, 15, 105, 110] [0, 1, 2, 3, 4, 5, 6] (φ := True ∧ True) (by kernel_rfl) ⟨trivial, trivial⟩ (VI.fin rfl)⟩,
    ⟨_, _, _, rfl, rfl, rfl, VO.seg T_ok .dp 1 [6, 8, 11, 12, 13, 14, 104] [0, 1, 2, 3, 4, 5, 6, 7] (φ := True ∧ True) (by kernel_rfl) ⟨trivial, trivial⟩ (VI.fin rfl)⟩,
    ⟨_, _, _, rfl, rfl, rfl, VO.seg T_ok .dp 1 [6, 8, 11, 12, 13, 14, 15, 111] [0, 1, 2, 3, 4, 5, 8, 6, 7] (φ := True ∧ True) (by kernel_rfl) ⟨trivial, trivial⟩ (VI.fin rfl)⟩,
    ⟨_, _, _, rfl, rfl, rfl, by
      refine VO.call true [.t Y58, .t (.int .i64)] [] T_ok (d := some 111) (by kernel_rfl) (ok46 N _ _ hy274) rfl ?_
      exact VO.ghl [.ren [6, 8, 11, 12, 13, 14, 15, 111] [0, 1, 2, 3, 4, 5, 6, 7, 8]] (VI.fin (by kernel_rfl))⟩,
    ⟨_, _, _, rfl, rfl, rfl, VO.seg T_ok .dp 1 [6, 8, 11, 12, 13, 14, 104, 112] [0, 1, 2, 3, 4, 5, 6, 7] (φ := True ∧ True) (by kernel_rfl) ⟨trivial, trivial⟩ (VI.fin rfl)⟩,
    ⟨_, _, _, rfl, rfl, rfl, VO.seg T_ok .dp 1 [6, 8, 11, 12, 13, 14, 104, 113] [0, 1, 2, 3, 4, 5, 6, 7] (φ := True ∧ True) (by kernel_rfl) ⟨trivial, trivial⟩ (VI.fin rfl)⟩,
    ⟨_, _, _, rfl, rfl, rfl, VO.seg T_ok .dp 1 [6, 8, 11, 12, 13, 14, 104, 114] [0, 1, 2, 3, 4, 5, 6, 7] (φ := True ∧ True) (by kernel_rfl) ⟨trivial, trivial⟩ (VI.fin rfl)⟩,
    ⟨_, _, _, rfl, rfl, rfl, VO.seg T_ok .dp 1 [6, 8, 11, 12, 13, 14, 15, 104] [0, 1, 2, 3, 4, 5, 8, 6, 7] (φ := True ∧ True) (by kernel_rfl) ⟨trivial, trivial⟩ (VI.fin rfl)⟩,
    ⟨_, _, _, rfl, rfl, rfl, VO.seg T_ok .dp 1 [6, 8, 11, 12, 13, 14, 15, 104] [0, 1, 2, 3, 4, 5, 6, 7, 8] (φ := True ∧ True) (by kernel_rfl) ⟨trivial, trivial⟩ (VI.fin rfl)⟩,
    ⟨_, _, _, rfl, rfl, rfl, VO.seg T_ok .dp 1 [6, 8, 11, 12, 13, 14, 104, 112, 113] [0, 1, 2, 3, 4, 5, 6, 7] (φ := True ∧ True) (by kernel_rfl) ⟨trivial, trivial⟩ (VI.fin rfl)⟩,
    ⟨_, _, _, rfl, rfl, rfl, VO.seg T_ok .dp 1 [6, 8, 11, 12, 13, 14, 104, 112, 114] [0, 1, 2, 3, 4, 5, 6, 7] (φ := True ∧ True) (by kernel_rfl) ⟨trivial, trivial⟩ (VI.fin rfl)⟩,
    ⟨_, _, _, rfl, rfl, rfl, VO.seg T_ok .dp 1 [6, 8, 11, 12, 13, 14, 15, 104, 112] [0, 1, 2, 3, 4, 5, 8, 6, 7] (φ := True ∧ True) (by kernel_rfl) ⟨trivial, trivial⟩ (VI.fin rfl)⟩,
    ⟨_, _, _, rfl, rfl, rfl, VO.seg T_ok .dp 1 [6, 8, 11, 12, 13, 14, 104, 112, 113] [0, 1, 2, 3, 4, 5, 6, 7] (φ := True ∧ True) (by kernel_rfl) ⟨trivial, trivial⟩ (VI.fin rfl)⟩,
    ⟨_, _, _, rfl, rfl, rfl, VO.seg T_ok .dp 1 [6, 8, 11, 12, 13, 14, 104, 113, 114] [0, 1, 2, 3, 4, 5, 6, 7] (φ := True ∧ True) (by kernel_rfl) ⟨trivial, trivial⟩ (VI.fin rfl)⟩,
    ⟨_, _, _, rfl, rfl, rfl, VO.seg T_ok .dp 1 [6, 8, 11, 12, 13, 14, 15, 104, 113] [0, 1, 2, 3, 4, 5, 8, 6, 7] (φ := True ∧ True) (by kernel_rfl) ⟨trivial, trivial⟩ (VI.fin rfl)⟩,
    ⟨_, _, _, rfl, rfl, rfl, VO.seg T_ok .dp 1 [6, 8, 11, 12, 13, 14, 104, 112, 114] [0, 1, 2, 3, 4, 5, 6, 7] (φ := True ∧ True) (by kernel_rfl) ⟨trivial, trivial⟩ (VI.fin rfl)⟩,
    ⟨_, _, _, rfl, rfl, rfl, VO.seg T_ok .dp 1 [6, 8, 11, 12, 13, 14, 104, 113, 114] [0, 1, 2, 3, 4, 5, 6, 7] (φ := True ∧ True) (by kernel_rfl) ⟨trivial, trivial⟩ (VI.fin rfl)⟩,
    ⟨_, _, _, rfl, rfl, rfl, VO.seg T_ok .dp 1 [6, 8, 11, 12, 13, 14, 15, 104, 114] [0, 1, 2, 3, 4, 5, 8, 6, 7] (φ := True ∧ True) (by kernel_rfl) ⟨trivial, trivial⟩ (VI.fin rfl)⟩,
    ⟨_, _, _, rfl, rfl, rfl, VO.seg T_ok .dp 1 [6, 8, 11, 12, 13, 14, 15, 104, 112] [0, 1, 2, 3, 4, 5, 6, 7, 8] (φ := True ∧ True) (by kernel_rfl) ⟨trivial, trivial⟩ (VI.fin rfl)⟩,
    ⟨_, _, _, rfl, rfl, rfl, VO.seg T_ok .dp 1 [6, 8, 11, 12, 13, 14, 15, 104, 113] [0, 1, 2, 3, 4, 5, 6, 7, 8] (φ := True ∧ True) (by kernel_rfl) ⟨trivial, trivial⟩ (VI.fin rfl)⟩,
    ⟨_, _, _, rfl, rfl, rfl, VO.seg T_ok .dp 1 [6, 8, 11, 12, 13, 14, 15, 104, 114] [0, 1, 2, 3, 4, 5, 6, 7, 8] (φ := True ∧ True) (by kernel_rfl) ⟨trivial, trivial⟩ (VI.fin rfl)⟩,
    ⟨_, _, _, rfl, rfl, rfl, VO.seg T_ok .dp 1 [6, 8, 11, 12, 13, 14, 112, 113, 114] [0, 1, 2, 3, 4, 5, 6, 7] (φ := True ∧ True) (by kernel_rfl) ⟨trivial, trivial⟩ (VI.fin rfl)⟩,
    ⟨_, _, _, rfl, rfl, rfl, VO.seg T_ok .dp 1 [6, 8, 11, 12, 13, 14, 15, 104, 112, 113] [0, 1, 2, 3, 4, 5, 8, 6, 7] (φ := True ∧ True) (by kernel_rfl) ⟨trivial, trivial⟩ (VI.fin rfl)⟩,
    ⟨_, _, _, rfl, rfl, rfl, VO.seg T_ok .dp 1 [6, 8, 11, 12, 13, 14, 112, 113, 114] [0, 1, 2, 3, 4, 5, 6, 7] (φ := True ∧ True) (by kernel_rfl) ⟨trivial, trivial⟩ (VI.fin rfl)⟩,
    ⟨_, _, _, rfl, rfl, rfl, VO.seg T_ok .dp 1 [6, 8, 11, 12, 13, 14, 15, 104, 112, 114] [0, 1, 2, 3, 4, 5, 8, 6, 7] (φ := True ∧ True) (by kernel_rfl) ⟨trivial, trivial⟩ (VI.fin rfl)⟩,
    ⟨_, _, _, rfl, rfl, rfl, VO.seg T_ok .dp 1 [6, 8, 11, 12, 13, 14, 15, 104, 112, 113] [0, 1, 2, 3, 4, 5, 6, 7, 8] (φ := True ∧ True) (by kernel_rfl) ⟨trivial, trivial⟩ (VI.fin rfl)⟩,
    ⟨_, _, _, rfl, rfl, rfl, VO.seg T_ok .dp 1 [6, 8, 11, 12, 13, 14, 15, 104, 112, 114] [0, 1, 2, 3, 4, 5, 6, 7, 8] (φ := True ∧ True) (by kernel_rfl) ⟨trivial, trivial⟩ (VI.fin rfl)⟩,
    ⟨_, _, _, rfl, rfl, rfl, VO.seg T_ok .dp 1 [6, 8, 11, 12, 13, 14, 15, 104] [0, 1, 2, 3, 4, 5, 6, 7, 8] (φ := True ∧ True) (by kernel_rfl) ⟨trivial, trivial⟩ (VI.fin rfl)⟩,
    ⟨_, _, _, rfl, rfl, rfl, VO.seg T_ok .dp 1 [6, 8, 11, 12, 13, 14, 112, 113, 114] [0, 1, 2, 3, 4, 5, 6, 7] (φ := True ∧ True) (by kernel_rfl) ⟨trivial, trivial⟩ (VI.fin rfl)⟩,
    ⟨_, _, _, rfl, rfl, rfl, VO.seg T_ok .dp 1 [6, 8, 11, 12, 13, 14, 15, 104, 113, 114] [0, 1, 2, 3, 4, 5, 8, 6, 7] (φ := True ∧ True) (by kernel_rfl) ⟨trivial, trivial⟩ (VI.fin rfl)⟩,
    ⟨_, _, _, rfl, rfl, rfl, VO.seg T_ok .dp 1 [6, 8, 11, 12, 13, 14, 15, 104, 112, 113] [0, 1, 2, 3, 4, 5, 6, 7, 8] (φ := True ∧ True) (by kernel_rfl) ⟨trivial, trivial⟩ (VI.fin rfl)⟩,
    ⟨_, _, _, rfl, rfl, rfl, VO.seg T_ok .dp 1 [6, 8, 11, 12, 13, 14, 15, 104, 113, 114] [0, 1, 2, 3, 4, 5, 6, 7, 8] (φ := True ∧ True) (by kernel_rfl) ⟨trivial, trivial⟩ (VI.fin rfl)⟩,
    ⟨_, _, _, rfl, rfl, rfl, VO.seg T_ok .dp 1 [6, 8, 11, 12, 13, 14, 15, 104, 112, 114] [0, 1, 2, 3, 4, 5, 6, 7, 8] (φ := True ∧ True) (by kernel_rfl) ⟨trivial, trivial⟩ (VI.fin rfl)⟩,
    ⟨_, _, _, rfl, rfl, rfl, VO.seg T_ok .dp 1 [6, 8, 11, 12, 13, 14, 15, 104, 113, 114] [0, 1, 2, 3, 4, 5, 6, 7, 8] (φ := True ∧ True) (by kernel_rfl) ⟨trivial, trivial⟩ (VI.fin rfl)⟩,
    ⟨_, _, _, rfl, rfl, rfl, VO.seg T_ok .dp 1 [6, 8, 11, 12, 13, 14, 15, 112, 113, 114] [0, 1, 2, 3, 4, 5, 8, 6, 7] (φ := True ∧ True) (by kernel_rfl) ⟨trivial, trivial⟩ (VI.fin rfl)⟩,
    ⟨_, _, _, rfl, rfl, rfl, VO.seg T_ok .dp 1 [6, 8, 11, 12, 13, 14, 15, 112, 113, 114] [0, 1, 2, 3, 4, 5, 6, 7, 8] (φ := True ∧ True) (by kernel_rfl) ⟨trivial, trivial⟩ (VI.fin rfl)⟩,
    ⟨_, _, _, rfl, rfl, rfl, VO.seg T_ok .dp 1 [6, 8, 11, 12, 13, 14, 15, 104, 113] [0, 1, 2, 3, 4, 5, 6, 7, 8] (φ := True ∧ True) (by kernel_rfl) ⟨trivial, trivial⟩ (VI.fin rfl)⟩,
    ⟨_, _, _, rfl, rfl, rfl, VO.seg T_ok .dp 1 [6, 8, 11, 12, 13, 14, 15, 112, 113, 114] [0, 1, 2, 3, 4, 5, 6, 7, 8] (φ := True ∧ True) (by kernel_rfl) ⟨trivial, trivial⟩ (VI.fin rfl)⟩,
    ⟨_, _, _, rfl, rfl, rfl, VO.seg T_ok .dp 1 [6, 8, 11, 12, 13, 14, 15, 104, 114] [0, 1, 2, 3, 4, 5, 6, 7, 8] (φ := True ∧ True) (by kernel_rfl) ⟨trivial, trivial⟩ (VI.fin rfl)⟩,
    ⟨_, _, _, rfl, rfl, rfl, VO.seg T_ok .dp 1 [6, 8, 11, 12, 13, 14, 15, 104, 113] [0, 1, 2, 3, 4, 5, 6, 7, 8] (φ := True ∧ True) (by kernel_rfl) ⟨trivial, trivial⟩ (VI.fin rfl)⟩,
    ⟨_, _, _, rfl, rfl, rfl, VO.seg T_ok .dp 1 [6, 8, 11, 12, 13, 14, 15, 104, 114] [0, 1, 2, 3, 4, 5, 6, 7, 8] (φ := True ∧ True) (by kernel_rfl) ⟨trivial, trivial⟩ (VI.fin rfl)⟩,
    ⟨_, _, _, rfl, rfl, rfl, VO.seg T_ok .dp 1 [6, 8, 11, 12, 13, 14, 15, 112, 113, 114] [0, 1, 2, 3, 4, 5, 6, 7, 8] (φ := True ∧ True) (by kernel_rfl) ⟨trivial, trivial⟩ (VI.fin rfl)⟩,
    ⟨_, _, _, rfl, rfl, rfl, VO.seg T_ok .dp 1 [6, 8, 11, 12, 13, 14, 15, 113, 114] [0, 1, 2, 3, 4, 5, 6, 7, 8] (φ := True ∧ True) (by kernel_rfl) ⟨trivial, trivial⟩ (VI.fin rfl)⟩,
    ⟨_, _, _, rfl, rfl, rfl, VO.seg T_ok .dp 1 [6, 8, 11, 12, 13, 14, 15, 113, 114] [0, 1, 2, 3, 4, 5, 6, 7, 8] (φ := True ∧ True) (by kernel_rfl) ⟨trivial, trivial⟩ (VI.fin rfl)⟩,
    ⟨_, _, _, rfl, rfl, rfl, VO.seg T_ok .dp 1 [6, 8, 11, 12, 13, 14, 15, 16, 104] [0, 1, 2, 3, 4, 5, 6, 7, 8] (φ := True ∧ True) (by kernel_rfl) ⟨trivial, trivial⟩ (VI.fin rfl)⟩,
    ⟨_, _, _, rfl, rfl, rfl, VO.seg T_ok .dp 1 [6, 8, 11, 12, 13, 14, 15, 113, 114] [0, 1, 2, 3, 4, 5, 6, 7, 8] (φ := True ∧ True) (by kernel_rfl) ⟨trivial, trivial⟩ (VI.fin rfl)⟩,
    ⟨_, _, _, rfl, rfl, rfl, VO.seg T_ok .dp 1 [6, 8, 11, 12, 13, 14, 15, 16, 114] [0, 1, 2, 3, 4, 5, 6, 7, 8] (φ := True ∧ True) (by kernel_rfl) ⟨trivial, trivial⟩ (VI.fin rfl)⟩,
    ⟨_, _, _, rfl, rfl, rfl, VO.seg T_ok .dp 1 [6, 8, 11, 12, 13, 14, 15, 16, 114] [0, 1, 2, 3, 4, 5, 6, 7, 8] (φ := True ∧ True) (by kernel_rfl) ⟨trivial, trivial⟩ (VI.fin rfl)⟩,
    ⟨_, _, _, rfl, rfl, rfl, VO.seg T_ok .dp 1 [6, 8, 11, 12, 13, 14, 15, 16, 17] [0, 1, 2, 3, 4, 5, 6, 7, 8] (φ := True ∧ True) (by kernel_rfl) ⟨trivial, trivial⟩ (VI.fin rfl)⟩, trivial⟩ ?_
          refine VW.seq ?_
          rcases Bool.eq_false_or_eq_true (!y271.2) with hb275 | hb275
          · replace h := cond_t h hb275
            refine VW.drawn (by kernel_rfl) [some (115, B y271.2), some (116, B (!y271.2)), some (117, B true), some (118, .unk), some (119, .unk), some (120, B true), some (121, B true), some (122, .unk), some (123, .unk), some (124, .unk), some (125, B true), some (126, B true), some (127, .unk), some (128, .unk), some (129, .unk), some (130, .unk), some (131, .unk), some (132, B true), some (133, B true), some (134, .unk), some (135, .unk), some (136, .unk), some (137, .unk), some (138, .unk), some (139, .unk), some (140, .unk), some (141, .unk), some (142, .unk), some (143, .unk), some (144, .unk), some (145, B true), some (146, B true), some (147, .unk), some (148, .unk), some (149, .unk), some (150, .unk), some (151, B true), some (152, B true), some (153, .unk), some (154, .unk), some (155, .unk), some (156, .unk), some (157, .unk), some (158, .unk), some (159, .unk), some (160, .unk), some (161, .unk), some (162, .unk), some (163, B true)] [] [[bx [.v (.int .i64) x200, .hd 1 0 none, .hd 2 0 none] 59, ar 0 (.int .i64) x201 .dp, ar 0 (.int .i64) x202 .dp, bx [.v (.int .i64) x203, .hd 4 0 none, .hd 5 0 none] 59, ar 0 (.int .i64) x204 .dp, ar 0 (.int .i64) x205 .dp, bx [.v (.int .i64) y274.1.1, .hd 7 0 none, .hd 8 0 none] 59, ar 0 (.int .i64) y274.1.2.1 .dp, ar 0 (.int .i64) y274.1.2.2 .dp]] [(0, 0), (1, 0), (2, 0), (3, 0), (4, 0), (5, 0), (6, 0), (7, 0), (8, 0), (9, 0), (10, 0), (11, 0), (12, 0), (13, 0), (14, 0), (15, 0), (16, 0), (17, 0), (18, 0), (19, 0), (20, 0), (21, 0), (22, 0), (23, 0), (24, 0), (25, 0), (26, 0), (27, 0), (28, 0), (29, 0), (30, 0), (31, 0), (32, 0), (33, 0), (34, 0), (35, 0), (36, 0), (37, 0), (38, 0), (39, 0), (40, 0), (41, 0), (42, 0), (43, 0), (44, 0), (45, 0), (46, 0), (47, 0), (48, 0)] [6, 8, 11, 12, 163] [0, 1, 2, 3, 4, 5] (s' := ⟨[(6, .lf (.ptr 0 0 0 0)), (8, .lf (.ptr 3 0 0 0)), (11, B x206), (12, I x207), (163, B true)], [bx [.v (.int .i64) x200, .hd 1 0 none, .hd 2 0 none] 59, ar 0 (.int .i64) x201 .dp, ar 0 (.int .i64) x202 .dp, bx [.v (.int .i64) x203, .hd 4 0 none, .hd 5 0 none] 59, ar 0 (.int .i64) x204 .dp, ar 0 (.int .i64) x205 .dp]⟩) (by kernel_rfl) (by kernel_rfl) ⟨⟨_, rfl, Stp.ev T_ok (m := .dp) (φ := True) (by kernel_rfl) trivial⟩,
    ⟨_, rfl, Stp.ev T_ok (m := .dp) (φ := True) (by kernel_rfl) trivial⟩,
    ⟨_, rfl, Stp.lit (d := 117) (b := (!y271.2)) (c := true) (Stp.ev T_ok (m := .dp) (φ := True) (by kernel_rfl) trivial) hb275⟩,
    ⟨_, rfl, Stp.off (d := 117) (b := true) rfl rfl rfl (by kernel_rfl) (by decide) rfl (Nat.le_of_ble_eq_true rfl)⟩,
    ⟨_, rfl, Stp.off (d := 117) (b := true) rfl rfl rfl (by kernel_rfl) (by decide) rfl (Nat.le_of_ble_eq_true rfl)⟩,
    ⟨_, rfl, Stp.ev T_ok (m := .dp) (φ := True) (by kernel_rfl) trivial⟩,
    ⟨_, rfl, Stp.ev T_ok (m := .dp) (φ := True) (by kernel_rfl) trivial⟩,
    ⟨_, rfl, Stp.off (d := 121) (b := true) rfl rfl rfl (by kernel_rfl) (by decide) rfl (Nat.le_of_ble_eq_true rfl)⟩,
    ⟨_, rfl, Stp.off (d := 121) (b := true) rfl rfl rfl (by kernel_rfl) (by decide) rfl (Nat.le_of_ble_eq_true rfl)⟩,
    ⟨_, rfl, Stp.off (d := 121) (b := true) rfl rfl rfl (by kernel_rfl) (by decide) rfl (Nat.le_of_ble_eq_true rfl)⟩,
    ⟨_, rfl, Stp.ev T_ok (m := .dp) (φ := True) (by kernel_rfl) trivial⟩,
    ⟨_, rfl, Stp.ev T_ok (m := .dp) (φ := True) (by kernel_rfl) trivial⟩,
    ⟨_, rfl, Stp.off (d := 126) (b := true) rfl rfl rfl (by kernel_rfl) (by decide) rfl (Nat.le_of_ble_eq_true rfl)⟩,
    ⟨_, rfl, Stp.off (d := 126) (b := true) rfl rfl rfl (by kernel_rfl) (by decide) rfl (Nat.le_of_ble_eq_true rfl)⟩,
    ⟨_, rfl, Stp.off (d := 126) (b := true) rfl rfl rfl (by kernel_rfl) (by decide) rfl (Nat.le_of_ble_eq_true rfl)⟩,
    ⟨_, rfl, Stp.off (d := 126) (b := true) rfl rfl rfl (by kernel_rfl) (by decide) rfl (Nat.le_of_ble_eq_true rfl)⟩,
    ⟨_, rfl, Stp.off (d := 126) (b := true) rfl rfl rfl (by kernel_rfl) (by decide) rfl (Nat.le_of_ble_eq_true rfl)⟩,
    ⟨_, rfl, Stp.ev T_ok (m := .dp) (φ := True) (by kernel_rfl) trivial⟩,
    ⟨_, rfl, Stp.ev T_ok (m := .dp) (φ := True) (by kernel_rfl) trivial⟩,
    ⟨_, rfl, Stp.off (d := 133) (b := true) rfl rfl rfl (by kernel_rfl) (by decide) rfl (Nat.le_of_ble_eq_true rfl)⟩,
    ⟨_, rfl, Stp.off (d := 133) (b := true) rfl rfl rfl (by kernel_rfl) (by decide) rfl (Nat.le_of_ble_eq_true rfl)⟩,
    ⟨_, rfl, Stp.off (d := 133) (b := true) rfl rfl rfl (by kernel_rfl) (by decide) rfl (Nat.le_of_ble_eq_true rfl)⟩,
    ⟨_, rfl, Stp.off (d := 133) (b := true) rfl rfl rfl (by kernel_rfl) (by decide) rfl (Nat.le_of_ble_eq_true rfl)⟩,
    ⟨_, rfl, Stp.off (d := 133) (b := true) rfl rfl rfl (by kernel_rfl) (by decide) rfl (Nat.le_of_ble_eq_true rfl)⟩,
    ⟨_, rfl, Stp.off (d := 133) (b := true) rfl rfl rfl (by kernel_rfl) (by decide) rfl (Nat.le_of_ble_eq_true rfl)⟩,
    ⟨_, rfl, Stp.off (d := 133) (b := true) rfl rfl rfl (by kernel_rfl) (by decide) rfl (Nat.le_of_ble_eq_true rfl)⟩,
    ⟨_, rfl, Stp.off (d := 133) (b := true) rfl rfl rfl (by kernel_rfl) (by decide) rfl (Nat.le_of_ble_eq_true rfl)⟩,
    ⟨_, rfl, Stp.off (d := 133) (b := true) rfl rfl rfl (by kernel_rfl) (by decide) rfl (Nat.le_of_ble_eq_true rfl)⟩,
    ⟨_, rfl, Stp.off (d := 133) (b := true) rfl rfl rfl (by kernel_rfl) (by decide) rfl (Nat.le_of_ble_eq_true rfl)⟩,
    ⟨_, rfl, Stp.off (d := 133) (b := true) rfl rfl rfl (by kernel_rfl) (by decide) rfl (Nat.le_of_ble_eq_true rfl)⟩,
    ⟨_, rfl, Stp.ev T_ok (m := .dp) (φ := True) (by kernel_rfl) trivial⟩,
    ⟨_, rfl, Stp.ev T_ok (m := .dp) (φ := True) (by kernel_rfl) trivial⟩,
    ⟨_, rfl, Stp.off (d := 146) (b := true) rfl rfl rfl (by kernel_rfl) (by decide) rfl (Nat.le_of_ble_eq_true rfl)⟩,
    ⟨_, rfl, Stp.off (d := 146) (b := true) rfl rfl rfl (by kernel_rfl) (by decide) rfl (Nat.le_of_ble_eq_true rfl)⟩,
    ⟨_, rfl, Stp.off (d := 146) (b := true) rfl rfl rfl (by kernel_rfl) (by decide) rfl (Nat.le_of_ble_eq_true rfl)⟩,
    ⟨_, rfl, Stp.off (d := 146) (b := true) rfl rfl rfl (by kernel_rfl) (by decide) rfl (Nat.le_of_ble_eq_true rfl)⟩,
    ⟨_, rfl, Stp.ev T_ok (m := .dp) (φ := True) (by kernel_rfl) trivial⟩,
    ⟨_, rfl, Stp.ev T_ok (m := .dp) (φ := True) (by kernel_rfl) trivial⟩,
    ⟨_, rfl, Stp.off (d := 152) (b := true) rfl rfl rfl (by kernel_rfl) (by decide) rfl (Nat.le_of_ble_eq_true rfl)⟩,
    ⟨_, rfl, Stp.off (d := 152) (b := true) rfl rfl rfl (by kernel_rfl) (by decide) rfl (Nat.le_of_ble_eq_true rfl)⟩,
    ⟨_, rfl, Stp.off (d := 152) (b := true) rfl rfl rfl (by kernel_rfl) (by decide) rfl (Nat.le_of_ble_eq_true rfl)⟩,
    ⟨_, rfl, Stp.off (d := 152) (b := true) rfl rfl rfl (by kernel_rfl) (by decide) rfl (Nat.le_of_ble_eq_true rfl)⟩,
    ⟨_, rfl, Stp.off (d := 152) (b := true) rfl rfl rfl (by kernel_rfl) (by decide) rfl (Nat.le_of_ble_eq_true rfl)⟩,
    ⟨_, rfl, Stp.off (d := 152) (b := true) rfl rfl rfl (by kernel_rfl) (by decide) rfl (Nat.le_of_ble_eq_true rfl)⟩,
    ⟨_, rfl, Stp.off (d := 152) (b := true) rfl rfl rfl (by kernel_rfl) (by decide) rfl (Nat.le_of_ble_eq_true rfl)⟩,
    ⟨_, rfl, Stp.off (d := 152) (b := true) rfl rfl rfl (by kernel_rfl) (by decide) rfl (Nat.le_of_ble_eq_true rfl)⟩,
    ⟨_, rfl, Stp.off (d := 152) (b := true) rfl rfl rfl (by kernel_rfl) (by decide) rfl (Nat.le_of_ble_eq_true rfl)⟩,
    ⟨_, rfl, Stp.off (d := 152) (b := true) rfl rfl rfl (by kernel_rfl) (by decide) rfl (Nat.le_of_ble_eq_true rfl)⟩,
    ⟨_, rfl, Stp.ev T_ok (m := .dp) (φ := True) (by kernel_rfl) trivial⟩, trivial⟩ (by kernel_rfl) ?_
            refine VW.cond (b := true) (by kernel_rfl) (fun _ => ?_) (fun h' => nomatch h')
            refine sR T_ok [2] [] ⟨[(2, B false)], []⟩ (tn 1) ?_
            refine VW.ret ?_
            replace h := Option.some.inj h
            subst h
            exact rt []
          replace h := cond_f h hb275
          rcases Bool.eq_false_or_eq_true (!y274.2.2) with hb276 | hb276
          · replace h := cond_t h hb276
            refine VW.drawn (by kernel_rfl) [some (115, B y271.2), some (116, B (!y271.2)), some (117, B false), some (118, B y274.2.2), some (119, B (!y274.2.2)), some (120, B (!y274.2.2)), some (121, B true), some (122, .unk), some (123, .unk), some (124, .unk), some (125, B true), some (126, B true), some (127, .unk), some (128, .unk), some (129, .unk), some (130, .unk), some (131, .unk), some (132, B true), some (133, B true), some (134, .unk), some (135, .unk), some (136, .unk), some (137, .unk), some (138, .unk), some (139, .unk), some (140, .unk), some (141, .unk), some (142, .unk), some (143, .unk), some (144, .unk), some (145, B true), some (146, B true), some (147, .unk), some (148, .unk), some (149, .unk), some (150, .unk), some (151, B true), some (152, B true), some (153, .unk), some (154, .unk), some (155, .unk), some (156, .unk), some (157, .unk), some (158, .unk), some (159, .unk), some (160, .unk), some (161, .unk), some (162, .unk), some (163, B true)] [] [[bx [.v (.int .i64) x200, .hd 1 0 none, .hd 2 0 none] 59, ar 0 (.int .i64) x201 .dp, ar 0 (.int .i64) x202 .dp, bx [.v (.int .i64) x203, .hd 4 0 none, .hd 5 0 none] 59, ar 0 (.int .i64) x204 .dp, ar 0 (.int .i64) x205 .dp, bx [.v (.int .i64) y274.1.1, .hd 7 0 none, .hd 8 0 none] 59, ar 0 (.int .i64) y274.1.2.1 .dp, ar 0 (.int .i64) y274.1.2.2 .dp]] [(0, 0), (1, 0), (2, 0), (3, 0), (4, 0), (5, 0), (6, 0), (7, 0), (8, 0), (9, 0), (10, 0), (11, 0), (12, 0), (13, 0), (14, 0), (15, 0), (16, 0), (17, 0), (18, 0), (19, 0), (20, 0), (21, 0), (22, 0), (23, 0), (24, 0), (25, 0), (26, 0), (27, 0), (28, 0), (29, 0), (30, 0), (31, 0), (32, 0), (33, 0), (34, 0), (35, 0), (36, 0), (37, 0), (38, 0), (39, 0), (40, 0), (41, 0), (42, 0), (43, 0), (44, 0), (45, 0), (46, 0), (47, 0), (48, 0)] [6, 8, 11, 12, 163] [0, 1, 2, 3, 4, 5] (s' := ⟨[(6, .lf (.ptr 0 0 0 0)), (8, .lf (.ptr 3 0 0 0)), (11, B x206), (12, I x207), (163, B true)], [bx [.v (.int .i64) x200, .hd 1 0 none, .hd 2 0 none] 59, ar 0 (.int .i64) x201 .dp, ar 0 (.int .i64) x202 .dp, bx [.v (.int .i64) x203, .hd 4 0 none, .hd 5 0 none] 59, ar 0 (.int .i64) x204 .dp, ar 0 (.int .i64) x205 .dp]⟩) (by kernel_rfl) (by kernel_rfl) ⟨⟨_, rfl, Stp.ev T_ok (m := .dp) (φ := True) (by kernel_rfl) trivial⟩,
    ⟨_, rfl, Stp.ev T_ok (m := .dp) (φ := True) (by kernel_rfl) trivial⟩,
    ⟨_, rfl, Stp.lit (d := 117) (b := (!y271.2)) (c := false) (Stp.ev T_ok (m := .dp) (φ := True) (by kernel_rfl) trivial) hb275⟩,
    ⟨_, rfl, Stp.on (d := 117) (b := false) rfl rfl rfl (by kernel_rfl) rfl (Stp.ev T_ok (m := .dp) (φ := True) (by kernel_rfl) trivial)⟩,
    ⟨_, rfl, Stp.on (d := 117) (b := false) rfl rfl rfl (by kernel_rfl) rfl (Stp.ev T_ok (m := .dp) (φ := True) (by kernel_rfl) trivial)⟩,
    ⟨_, rfl, Stp.ev T_ok (m := .dp) (φ := True) (by kernel_rfl) trivial⟩,
    ⟨_, rfl, Stp.lit (d := 121) (b := (!y274.2.2)) (c := true) (Stp.ev T_ok (m := .dp) (φ := True) (by kernel_rfl) trivial) hb276⟩,
    ⟨_, rfl, Stp.off (d := 121) (b := true) rfl rfl rfl (by kernel_rfl) (by decide) rfl (Nat.le_of_ble_eq_true rfl)⟩,
    ⟨_, rfl, Stp.off (d := 121) (b := true) rfl rfl rfl (by kernel_rfl) (by decide) rfl (Nat.le_of_ble_eq_true rfl)⟩,
    ⟨_, rfl, Stp.off (d := 121) (b := true) rfl rfl rfl (by kernel_rfl) (by decide) rfl (Nat.le_of_ble_eq_true rfl)⟩,
    ⟨_, rfl, Stp.ev T_ok (m := .dp) (φ := True) (by kernel_rfl) trivial⟩,
    ⟨_, rfl, Stp.ev T_ok (m := .dp) (φ := True) (by kernel_rfl) trivial⟩,
    ⟨_, rfl, Stp.off (d := 126) (b := true) rfl rfl rfl (by kernel_rfl) (by decide) rfl (Nat.le_of_ble_eq_true rfl)⟩,
    ⟨_, rfl, Stp.off (d := 126) (b := true) rfl rfl rfl (by kernel_rfl) (by decide) rfl (Nat.le_of_ble_eq_true rfl)⟩,
    ⟨_, rfl, Stp.off (d := 126) (b := true) rfl rfl rfl (by kernel_rfl) (by decide) rfl (Nat.le_of_ble_eq_true rfl)⟩,
    ⟨_, rfl, Stp.off (d := 126) (b := true) rfl rfl rfl (by kernel_rfl) (by decide) rfl (Nat.le_of_ble_eq_true rfl)⟩,
    ⟨_, rfl, Stp.off (d := 126) (b := true) rfl rfl rfl (by kernel_rfl) (by decide) rfl (Nat.le_of_ble_eq_true rfl)⟩,
    ⟨_, rfl, Stp.ev T_ok (m := .dp) (φ := True) (by kernel_rfl) trivial⟩,
    ⟨_, rfl, Stp.ev T_ok (m := .dp) (φ := True) (by kernel_rfl) trivial⟩,
    ⟨_, rfl, Stp.off (d := 133) (b := true) rfl rfl rfl (by kernel_rfl) (by decide) rfl (Nat.le_of_ble_eq_true rfl)⟩,
    ⟨_, rfl, Stp.off (d := 133) (b := true) rfl rfl rfl (by kernel_rfl) (by decide) rfl (Nat.le_of_ble_eq_true rfl)⟩,
    ⟨_, rfl, Stp.off (d := 133) (b := true) rfl rfl rfl (by kernel_rfl) (by decide) rfl (Nat.le_of_ble_eq_true rfl)⟩,
    ⟨_, rfl, Stp.off (d := 133) (b := true) rfl rfl rfl (by kernel_rfl) (by decide) rfl (Nat.le_of_ble_eq_true rfl)⟩,
    ⟨_, rfl, Stp.off (d := 133) (b := true) rfl rfl rfl (by kernel_rfl) (by decide) rfl (Nat.le_of_ble_eq_true rfl)⟩,
    ⟨_, rfl, Stp.off (d := 133) (b := true) rfl rfl rfl (by kernel_rfl) (by decide) rfl (Nat.le_of_ble_eq_true rfl)⟩,
    ⟨_, rfl, Stp.off (d := 133) (b := true) rfl rfl rfl (by kernel_rfl) (by decide) rfl (Nat.le_of_ble_eq_true rfl)⟩,
    ⟨_, rfl, Stp.off (d := 133) (b := true) rfl rfl rfl (by kernel_rfl) (by decide) rfl (Nat.le_of_ble_eq_true rfl)⟩,
    ⟨_, rfl, Stp.off (d := 133) (b := true) rfl rfl rfl (by kernel_rfl) (by decide) rfl (Nat.le_of_ble_eq_true rfl)⟩,
    ⟨_, rfl, Stp.off (d := 133) (b := true) rfl rfl rfl (by kernel_rfl) (by decide) rfl (Nat.le_of_ble_eq_true rfl)⟩,
    ⟨_, rfl, Stp.off (d := 133) (b := true) rfl rfl rfl (by kernel_rfl) (by decide) rfl (Nat.le_of_ble_eq_true rfl)⟩,
    ⟨_, rfl, Stp.ev T_ok (m := .dp) (φ := True) (by kernel_rfl) trivial⟩,
    ⟨_, rfl, Stp.ev T_ok (m := .dp) (φ := True) (by kernel_rfl) trivial⟩,
    ⟨_, rfl, Stp.off (d := 146) (b := true) rfl rfl rfl (by kernel_rfl) (by decide) rfl (Nat.le_of_ble_eq_true rfl)⟩,
    ⟨_, rfl, Stp.off (d := 146) (b := true) rfl rfl rfl (by kernel_rfl) (by decide) rfl (Nat.le_of_ble_eq_true rfl)⟩,
    ⟨_, rfl, Stp.off (d := 146) (b := true) rfl rfl rfl (by kernel_rfl) (by decide) rfl (Nat.le_of_ble_eq_true rfl)⟩,
    ⟨_, rfl, Stp.off (d := 146) (b := true) rfl rfl rfl (by kernel_rfl) (by decide) rfl (Nat.le_of_ble_eq_true rfl)⟩,
    ⟨_, rfl, Stp.ev T_ok (m := .dp) (φ := True) (by kernel_rfl) trivial⟩,
    ⟨_, rfl, Stp.ev T_ok (m := .dp) (φ := True) (by kernel_rfl) trivial⟩,
    ⟨_, rfl, Stp.off (d := 152) (b := true) rfl rfl rfl (by kernel_rfl) (by decide) rfl (Nat.le_of_ble_eq_true rfl)⟩,
    ⟨_, rfl, Stp.off (d := 152) (b := true) rfl rfl rfl (by kernel_rfl) (by decide) rfl (Nat.le_of_ble_eq_true rfl)⟩,
    ⟨_, rfl, Stp.off (d := 152) (b := true) rfl rfl rfl (by kernel_rfl) (by decide) rfl (Nat.le_of_ble_eq_true rfl)⟩,
    ⟨_, rfl, Stp.off (d := 152) (b := true) rfl rfl rfl (by kernel_rfl) (by decide) rfl (Nat.le_of_ble_eq_true rfl)⟩,
    ⟨_, rfl, Stp.off (d := 152) (b := true) rfl rfl rfl (by kernel_rfl) (by decide) rfl (Nat.le_of_ble_eq_true rfl)⟩,
    ⟨_, rfl, Stp.off (d := 152) (b := true) rfl rfl rfl (by kernel_rfl) (by decide) rfl (Nat.le_of_ble_eq_true rfl)⟩,
    ⟨_, rfl, Stp.off (d := 152) (b := true) rfl rfl rfl (by kernel_rfl) (by decide) rfl (Nat.le_of_ble_eq_true rfl)⟩,
    ⟨_, rfl, Stp.off (d := 152) (b := true) rfl rfl rfl (by kernel_rfl) (by decide) rfl (Nat.le_of_ble_eq_true rfl)⟩,
    ⟨_, rfl, Stp.off (d := 152) (b := true) rfl rfl rfl (by kernel_rfl) (by decide) rfl (Nat.le_of_ble_eq_true rfl)⟩,
    ⟨_, rfl, Stp.off (d := 152) (b := true) rfl rfl rfl (by kernel_rfl) (by decide) rfl (Nat.le_of_ble_eq_true rfl)⟩,
    ⟨_, rfl, Stp.ev T_ok (m := .dp) (φ := True) (by kernel_rfl) trivial⟩, trivial⟩ (by kernel_rfl) ?_
            refine VW.cond (b := true) (by kernel_rfl) (fun _ => ?_) (fun h' => nomatch h')
            refine sR T_ok [2] [] ⟨[(2, B false)], []⟩ (tn 1) ?_
            refine VW.ret ?_
            replace h := Option.some.inj h
            subst h
            exact rt []
          replace h := cond_f h hb276
          rcases Bool.eq_false_or_eq_true (y271.1 != y274.2.1) with hb277 | hb277
          · replace h := cond_t h hb277
            refine VW.drawn (by kernel_rfl) [some (115, B y271.2), some (116, B (!y271.2)), some (117, B false), some (118, B y274.2.2), some (119, B (!y274.2.2)), some (120, B (!y274.2.2)), some (121, B false), some (122, I y271.1), some (123, I y274.2.1), some (124, B (y271.1 != y274.2.1)), some (125, B (y271.1 != y274.2.1)), some (126, B true), some (127, .unk), some (128, .unk), some (129, .unk), some (130, .unk), some (131, .unk), some (132, B true), some (133, B true), some (134, .unk), some (135, .unk), some (136, .unk), some (137, .unk), some (138, .unk), some (139, .unk), some (140, .unk), some (141, .unk), some (142, .unk), some (143, .unk), some (144, .unk), some (145, B true), some (146, B true), some (147, .unk), some (148, .unk), some (149, .unk), some (150, .unk), some (151, B true), some (152, B true), some (153, .unk), some (154, .unk), some (155, .unk), some (156, .unk), some (157, .unk), some (158, .unk), some (159, .unk), some (160, .unk), some (161, .unk), some (162, .unk), some (163, B true)] [] [[bx [.v (.int .i64) x200, .hd 1 0 none, .hd 2 0 none] 59, ar 0 (.int .i64) x201 .dp, ar 0 (.int .i64) x202 .dp, bx [.v (.int .i64) x203, .hd 4 0 none, .hd 5 0 none] 59, ar 0 (.int .i64) x204 .dp, ar 0 (.int .i64) x205 .dp, bx [.v (.int .i64) y274.1.1, .hd 7 0 none, .hd 8 0 none] 59, ar 0 (.int .i64) y274.1.2.1 .dp, ar 0 (.int .i64) y274.1.2.2 .dp]] [(0, 0), (1, 0), (2, 0), (3, 0), (4, 0), (5, 0), (6, 0), (7, 0), (8, 0), (9, 0), (10, 0), (11, 0), (12, 0), (13, 0), (14, 0), (15, 0), (16, 0), (17, 0), (18, 0), (19, 0), (20, 0), (21, 0), (22, 0), (23, 0), (24, 0), (25, 0), (26, 0), (27, 0), (28, 0), (29, 0), (30, 0), (31, 0), (32, 0), (33, 0), (34, 0), (35, 0), (36, 0), (37, 0), (38, 0), (39, 0), (40, 0), (41, 0), (42, 0), (43, 0), (44, 0), (45, 0), (46, 0), (47, 0), (48, 0)] [6, 8, 11, 12, 163] [0, 1, 2, 3, 4, 5] (s' := ⟨[(6, .lf (.ptr 0 0 0 0)), (8, .lf (.ptr 3 0 0 0)), (11, B x206), (12, I x207), (163, B true)], [bx [.v (.int .i64) x200, .hd 1 0 none, .hd 2 0 none] 59, ar 0 (.int .i64) x201 .dp, ar 0 (.int .i64) x202 .dp, bx [.v (.int .i64) x203, .hd 4 0 none, .hd 5 0 none] 59, ar 0 (.int .i64) x204 .dp, ar 0 (.int .i64) x205 .dp]⟩) (by kernel_rfl) (by kernel_rfl) ⟨⟨_, rfl, Stp.ev T_ok (m := .dp) (φ := True) (by kernel_rfl) trivial⟩,
    ⟨_, rfl, Stp.ev T_ok (m := .dp) (φ := True) (by kernel_rfl) trivial⟩,
    ⟨_, rfl, Stp.lit (d := 117) (b := (!y271.2)) (c := false) (Stp.ev T_ok (m := .dp) (φ := True) (by kernel_rfl) trivial) hb275⟩,
    ⟨_, rfl, Stp.on (d := 117) (b := false) rfl rfl rfl (by kernel_rfl) rfl (Stp.ev T_ok (m := .dp) (φ := True) (by kernel_rfl) trivial)⟩,
    ⟨_, rfl, Stp.on (d := 117) (b := false) rfl rfl rfl (by kernel_rfl) rfl (Stp.ev T_ok (m := .dp) (φ := True) (by kernel_rfl) trivial)⟩,
    ⟨_, rfl, Stp.ev T_ok (m := .dp) (φ := True) (by kernel_rfl) trivial⟩,
    ⟨_, rfl, Stp.lit (d := 121) (b := (!y274.2.2)) (c := false) (Stp.ev T_ok (m := .dp) (φ := True) (by kernel_rfl) trivial) hb276⟩,
    ⟨_, rfl, Stp.on (d := 121) (b := false) rfl rfl rfl (by kernel_rfl) rfl (Stp.ev T_ok (m := .dp) (φ := True) (by kernel_rfl) trivial)⟩,
    ⟨_, rfl, Stp.on (d := 121) (b := false) rfl rfl rfl (by kernel_rfl) rfl (Stp.ev T_ok (m := .dp) (φ := True) (by kernel_rfl) trivial)⟩,
    ⟨_, rfl, Stp.on (d := 121) (b := false) rfl rfl rfl (by kernel_rfl) rfl (Stp.ev T_ok (m := .dp) (φ := True) (by kernel_rfl) trivial)⟩,
    ⟨_, rfl, Stp.ev T_ok (m := .dp) (φ := True) (by kernel_rfl) trivial⟩,
    ⟨_, rfl, Stp.lit (d := 126) (b := (y271.1 != y274.2.1)) (c := true) (Stp.ev T_ok (m := .dp) (φ := True) (by kernel_rfl) trivial) hb277⟩,
    ⟨_, rfl, Stp.off (d := 126) (b := true) rfl rfl rfl (by kernel_rfl) (by decide) rfl (Nat.le_of_ble_eq_true rfl)⟩,
    ⟨_, rfl, Stp.off (d := 126) (b := true) rfl rfl rfl (by kernel_rfl) (by decide) rfl (Nat.le_of_ble_eq_true rfl)⟩,
    ⟨_, rfl, Stp.off (d := 126) (b := true) rfl rfl rfl (by kernel_rfl) (by decide) rfl (Nat.le_of_ble_eq_true rfl)⟩,
    ⟨_, rfl, Stp.off (d := 126) (b := true) rfl rfl rfl (by kernel_rfl) (by decide) rfl (Nat.le_of_ble_eq_true rfl)⟩,
    ⟨_, rfl, Stp.off (d := 126) (b := true) rfl rfl rfl (by kernel_rfl) (by decide) rfl (Nat.le_of_ble_eq_true rfl)⟩,
    ⟨_, rfl, Stp.ev T_ok (m := .dp) (φ := True) (by kernel_rfl) trivial⟩,
    ⟨_, rfl, Stp.ev T_ok (m := .dp) (φ := True) (by kernel_rfl) trivial⟩,
    ⟨_, rfl, Stp.off (d := 133) (b := true) rfl rfl rfl (by kernel_rfl) (by decide) rfl (Nat.le_of_ble_eq_true rfl)⟩,
    ⟨_, rfl, Stp.off (d := 133) (b := true) rfl rfl rfl (by kernel_rfl) (by decide) rfl (Nat.le_of_ble_eq_true rfl)⟩,
    ⟨_, rfl, Stp.off (d := 133) (b := true) rfl rfl rfl (by kernel_rfl) (by decide) rfl (Nat.le_of_ble_eq_true rfl)⟩,
    ⟨_, rfl, Stp.off (d := 133) (b := true) rfl rfl rfl (by kernel_rfl) (by decide) rfl (Nat.le_of_ble_eq_true rfl)⟩,
    ⟨_, rfl, Stp.off (d := 133) (b := true) rfl rfl rfl (by kernel_rfl) (by decide) rfl (Nat.le_of_ble_eq_true rfl)⟩,
    ⟨_, rfl, Stp.off (d := 133) (b := true) rfl rfl rfl (by kernel_rfl) (by decide) rfl (Nat.le_of_ble_eq_true rfl)⟩,
    ⟨_, rfl, Stp.off (d := 133) (b := true) rfl rfl rfl (by kernel_rfl) (by decide) rfl (Nat.le_of_ble_eq_true rfl)⟩,
    ⟨_, rfl, Stp.off (d := 133) (b := true) rfl rfl rfl (by kernel_rfl) (by decide) rfl (Nat.le_of_ble_eq_true rfl)⟩,
    ⟨_, rfl, Stp.off (d := 133) (b := true) rfl rfl rfl (by kernel_rfl) (by decide) rfl (Nat.le_of_ble_eq_true rfl)⟩,
    ⟨_, rfl, Stp.off (d := 133) (b := true) rfl rfl rfl (by kernel_rfl) (by decide) rfl (Nat.le_of_ble_eq_true rfl)⟩,
    ⟨_, rfl, Stp.off (d := 133) (b := true) rfl rfl rfl (by kernel_rfl) (by decide) rfl (Nat.le_of_ble_eq_true rfl)⟩,
    ⟨_, rfl, Stp.ev T_ok (m := .dp) (φ := True) (by kernel_rfl) trivial⟩,
    ⟨_, rfl, Stp.ev T_ok (m := .dp) (φ := True) (by kernel_rfl) trivial⟩,
    ⟨_, rfl, Stp.off (d := 146) (b := true) rfl rfl rfl (by kernel_rfl) (by decide) rfl (Nat.le_of_ble_eq_true rfl)⟩,
    ⟨_, rfl, Stp.off (d := 146) (b := true) rfl rfl rfl (by kernel_rfl) (by decide) rfl (Nat.le_of_ble_eq_true rfl)⟩,
    ⟨_, rfl, Stp.off (d := 146) (b := true) rfl rfl rfl (by kernel_rfl) (by decide) rfl (Nat.le_of_ble_eq_true rfl)⟩,
    ⟨_, rfl, Stp.off (d := 146) (b := true) rfl rfl rfl (by kernel_rfl) (by decide) rfl (Nat.le_of_ble_eq_true rfl)⟩,
    ⟨_, rfl, Stp.ev T_ok (m := .dp) (φ := True) (by kernel_rfl) trivial⟩,
    ⟨_, rfl, Stp.ev T_ok (m := .dp) (φ := True) (by kernel_rfl) trivial⟩,
    ⟨_, rfl, Stp.off (d := 152) (b := true) rfl rfl rfl (by kernel_rfl) (by decide) rfl (Nat.le_of_ble_eq_true rfl)⟩,
    ⟨_, rfl, Stp.off (d := 152) (b := true) rfl rfl rfl (by kernel_rfl) (by decide) rfl (Nat.le_of_ble_eq_true rfl)⟩,
    ⟨_, rfl, Stp.off (d := 152) (b := true) rfl rfl rfl (by kernel_rfl) (by decide) rfl (Nat.le_of_ble_eq_true rfl)⟩,
    ⟨_, rfl, Stp.off (d := 152) (b := true) rfl rfl rfl (by kernel_rfl) (by decide) rfl (Nat.le_of_ble_eq_true rfl)⟩,
    ⟨_, rfl, Stp.off (d := 152) (b := true) rfl rfl rfl (by kernel_rfl) (by decide) rfl (Nat.le_of_ble_eq_true rfl)⟩,
    ⟨_, rfl, Stp.off (d := 152) (b := true) rfl rfl rfl (by kernel_rfl) (by decide) rfl (Nat.le_of_ble_eq_true rfl)⟩,
    ⟨_, rfl, Stp.off (d := 152) (b := true) rfl rfl rfl (by kernel_rfl) (by decide) rfl (Nat.le_of_ble_eq_true rfl)⟩,
    ⟨_, rfl, Stp.off (d := 152) (b := true) rfl rfl rfl (by kernel_rfl) (by decide) rfl (Nat.le_of_ble_eq_true rfl)⟩,
    ⟨_, rfl, Stp.off (d := 152) (b := true) rfl rfl rfl (by kernel_rfl) (by decide) rfl (Nat.le_of_ble_eq_true rfl)⟩,
    ⟨_, rfl, Stp.off (d := 152) (b := true) rfl rfl rfl (by kernel_rfl) (by decide) rfl (Nat.le_of_ble_eq_true rfl)⟩,
    ⟨_, rfl, Stp.ev T_ok (m := .dp) (φ := True) (by kernel_rfl) trivial⟩, trivial⟩ (by kernel_rfl) ?_
            refine VW.cond (b := true) (by kernel_rfl) (fun _ => ?_) (fun h' => nomatch h')
            refine sR T_ok [2] [] ⟨[(2, B false)], []⟩ (tn 1) ?_
            refine VW.ret ?_
            replace h := Option.some.inj h
            subst h
            exact rt []
          replace h := cond_f h hb277
          rcases Bool.eq_false_or_eq_true (decide (x207 ≥ (x201.length : Int))) with hb278 | hb278
          · replace h := cond_t h hb278
            refine VW.drawn (by kernel_rfl) [some (115, B y271.2), some (116, B (!y271.2)), some (117, B false), some (118, B y274.2.2), some (119, B (!y274.2.2)), some (120, B (!y274.2.2)), some (121, B false), some (122, I y271.1), some (123, I y274.2.1), some (124, B (y271.1 != y274.2.1)), some (125, B (y271.1 != y274.2.1)), some (126, B false), some (127, I x207), some (128, .lf (.ptr 0 0 0 1)), some (129, .lf (.hd 1 0 none)), some (130, I (x201.length : Int)), some (131, B (decide (x207 ≥ (x201.length : Int)))), some (132, B (decide (x207 ≥ (x201.length : Int)))), some (133, B true), some (134, .unk), some (135, .unk), some (136, .unk), some (137, .unk), some (138, .unk), some (139, .unk), some (140, .unk), some (141, .unk), some (142, .unk), some (143, .unk), some (144, .unk), some (145, B true), some (146, B true), some (147, .unk), some (148, .unk), some (149, .unk), some (150, .unk), some (151, B true), some (152, B true), some (153, .unk), some (154, .unk), some (155, .unk), some (156, .unk), some (157, .unk), some (158, .unk), some (159, .unk), some (160, .unk), some (161, .unk), some (162, .unk), some (163, B true)] [] [[bx [.v (.int .i64) x200, .hd 1 0 none, .hd 2 0 none] 59, ar 0 (.int .i64) x201 .dp, ar 0 (.int .i64) x202 .dp, bx [.v (.int .i64) x203, .hd 4 0 none, .hd 5 0 none] 59, ar 0 (.int .i64) x204 .dp, ar 0 (.int .i64) x205 .dp, bx [.v (.int .i64) y274.1.1, .hd 7 0 none, .hd 8 0 none] 59, ar 0 (.int .i64) y274.1.2.1 .dp, ar 0 (.int .i64) y274.1.2.2 .dp]] [(0, 0), (1, 0), (2, 0), (3, 0), (4, 0), (5, 0), (6, 0), (7, 0), (8, 0), (9, 0), (10, 0), (11, 0), (12, 0), (13, 0), (14, 0), (15, 0), (16, 0), (17, 0), (18, 0), (19, 0), (20, 0), (21, 0), (22, 0), (23, 0), (24, 0), (25, 0), (26, 0), (27, 0), (28, 0), (29, 0), (30, 0), (31, 0), (32, 0), (33, 0), (34, 0), (35, 0), (36, 0), (37, 0), (38, 0), (39, 0), (40, 0), (41, 0), (42, 0), (43, 0), (44, 0), (45, 0), (46, 0), (47, 0), (48, 0)] [6, 8, 11, 12, 163] [0, 1, 2, 3, 4, 5] (s' := ⟨[(6, .lf (.ptr 0 0 0 0)), (8, .lf (.ptr 3 0 0 0)), (11, B x206), (12, I x207), (163, B true)], [bx [.v (.int .i64) x200, .hd 1 0 none, .hd 2 0 none] 59, ar 0 (.int .i64) x201 .dp, ar 0 (.int .i64) x202 .dp, bx [.v (.int .i64) x203, .hd 4 0 none, .hd 5 0 none] 59, ar 0 (.int .i64) x204 .dp, ar 0 (.int .i64) x205 .dp]⟩) (by kernel_rfl) (by kernel_rfl) ⟨⟨_, rfl, Stp.ev T_ok (m := .dp) (φ := True) (by kernel_rfl) trivial⟩,
    ⟨_, rfl, Stp.ev T_ok (m := .dp) (φ := True) (by kernel_rfl) trivial⟩,
    ⟨_, rfl, Stp.lit (d := 117) (b := (!y271.2)) (c := false) (Stp.ev T_ok (m := .dp) (φ := True) (by kernel_rfl) trivial) hb275⟩,
    ⟨_, rfl, Stp.on (d := 117) (b := false) rfl rfl rfl (by kernel_rfl) rfl (Stp.ev T_ok (m := .dp) (φ := True) (by kernel_rfl) trivial)⟩,
    ⟨_, rfl, Stp.on (d := 117) (b := false) rfl rfl rfl (by kernel_rfl) rfl (Stp.ev T_ok (m := .dp) (φ := True) (by kernel_rfl) trivial)⟩,
    ⟨_, rfl, Stp.ev T_ok (m := .dp) (φ := True) (by kernel_rfl) trivial⟩,
    ⟨_, rfl, Stp.lit (d := 121) (b := (!y274.2.2)) (c := false) (Stp.ev T_ok (m := .dp) (φ := True) (by kernel_rfl) trivial) hb276⟩,
    ⟨_, rfl, Stp.on (d := 121) (b := false) rfl rfl rfl (by kernel_rfl) rfl (Stp.ev T_ok (m := .dp) (φ := True) (by kernel_rfl) trivial)⟩,
    ⟨_, rfl, Stp.on (d := 121) (b := false) rfl rfl rfl (by kernel_rfl) rfl (Stp.ev T_ok (m := .dp) (φ := True) (by kernel_rfl) trivial)⟩,
    ⟨_, rfl, Stp.on (d := 121) (b := false) rfl rfl rfl (by kernel_rfl) rfl (Stp.ev T_ok (m := .dp) (φ := True) (by kernel_rfl) trivial)⟩,
    ⟨_, rfl, Stp.ev T_ok (m := .dp) (φ := True) (by kernel_rfl) trivial⟩,
    ⟨_, rfl, Stp.lit (d := 126) (b := (y271.1 != y274.2.1)) (c := false) (Stp.ev T_ok (m := .dp) (φ := True) (by kernel_rfl) trivial) hb277⟩,
    ⟨_, rfl, Stp.on (d := 126) (b := false) rfl rfl rfl (by kernel_rfl) rfl (Stp.ev T_ok (m := .dp) (φ := True) (by kernel_rfl) trivial)⟩,
    ⟨_, rfl, Stp.on (d := 126) (b := false) rfl rfl rfl (by kernel_rfl) rfl (Stp.ev T_ok (m := .dp) (φ := True) (by kernel_rfl) trivial)⟩,
    ⟨_, rfl, Stp.on (d := 126) (b := false) rfl rfl rfl (by kernel_rfl) rfl (Stp.ev T_ok (m := .dp) (φ := True) (by kernel_rfl) trivial)⟩,
    ⟨_, rfl, Stp.on (d := 126) (b := false) rfl rfl rfl (by kernel_rfl) rfl (Stp.ev T_ok (m := .dp) (φ := True) (by kernel_rfl) trivial)⟩,
    ⟨_, rfl, Stp.on (d := 126) (b := false) rfl rfl rfl (by kernel_rfl) rfl (Stp.ev T_ok (m := .dp) (φ := True) (by kernel_rfl) trivial)⟩,
    ⟨_, rfl, Stp.ev T_ok (m := .dp) (φ := True) (by kernel_rfl) trivial⟩,
    ⟨_, rfl, Stp.lit (d := 133) (b := (decide (x207 ≥ (x201.length : Int)))) (c := true) (Stp.ev T_ok (m := .dp) (φ := True) (by kernel_rfl) trivial) hb278⟩,
    ⟨_, rfl, Stp.off (d := 133) (b := true) rfl rfl rfl (by kernel_rfl) (by decide) rfl (Nat.le_of_ble_eq_true rfl)⟩,
    ⟨_, rfl, Stp.off (d := 133) (b := true) rfl rfl rfl (by kernel_rfl) (by decide) rfl (Nat.le_of_ble_eq_true rfl)⟩,
    ⟨_, rfl, Stp.off (d := 133) (b := true) rfl rfl rfl (by kernel_rfl) (by decide) rfl (Nat.le_of_ble_eq_true rfl)⟩,
    ⟨_, rfl, Stp.off (d := 133) (b := true) rfl rfl rfl (by kernel_rfl) (by decide) rfl (Nat.le_of_ble_eq_true rfl)⟩,
    ⟨_, rfl, Stp.off (d := 133) (b := true) rfl rfl rfl (by kernel_rfl) (by decide) rfl (Nat.le_of_ble_eq_true rfl)⟩,
    ⟨_, rfl, Stp.off (d := 133) (b := true) rfl rfl rfl (by kernel_rfl) (by decide) rfl (Nat.le_of_ble_eq_true rfl)⟩,
    ⟨_, rfl, Stp.off (d := 133) (b := true) rfl rfl rfl (by kernel_rfl) (by decide) rfl (Nat.le_of_ble_eq_true rfl)⟩,
    ⟨_, rfl, Stp.off (d := 133) (b := true) rfl rfl rfl (by kernel_rfl) (by decide) rfl (Nat.le_of_ble_eq_true rfl)⟩,
    ⟨_, rfl, Stp.off (d := 133) (b := true) rfl rfl rfl (by kernel_rfl) (by decide) rfl (Nat.le_of_ble_eq_true rfl)⟩,
    ⟨_, rfl, Stp.off (d := 133) (b := true) rfl rfl rfl (by kernel_rfl) (by decide) rfl (Nat.le_of_ble_eq_true rfl)⟩,
    ⟨_, rfl, Stp.off (d := 133) (b := true) rfl rfl rfl (by kernel_rfl) (by decide) rfl (Nat.le_of_ble_eq_true rfl)⟩,
    ⟨_, rfl, Stp.ev T_ok (m := .dp) (φ := True) (by kernel_rfl) trivial⟩,
    ⟨_, rfl, Stp.ev T_ok (m := .dp) (φ := True) (by kernel_rfl) trivial⟩,
    ⟨_, rfl, Stp.off (d := 146) (b := true) rfl rfl rfl (by kernel_rfl) (by decide) rfl (Nat.le_of_ble_eq_true rfl)⟩,
    ⟨_, rfl, Stp.off (d := 146) (b := true) rfl rfl rfl (by kernel_rfl) (by decide) rfl (Nat.le_of_ble_eq_true rfl)⟩,
    ⟨_, rfl, Stp.off (d := 146) (b := true) rfl rfl rfl (by kernel_rfl) (by decide) rfl (Nat.le_of_ble_eq_true rfl)⟩,
    ⟨_, rfl, Stp.off (d := 146) (b := true) rfl rfl rfl (by kernel_rfl) (by decide) rfl (Nat.le_of_ble_eq_true rfl)⟩,
    ⟨_, rfl, Stp.ev T_ok (m := .dp) (φ := True) (by kernel_rfl) trivial⟩,
    ⟨_, rfl, Stp.ev T_ok (m := .dp) (φ := True) (by kernel_rfl) trivial⟩,
    ⟨_, rfl, Stp.off (d := 152) (b := true) rfl rfl rfl (by kernel_rfl) (by decide) rfl (Nat.le_of_ble_eq_true rfl)⟩,
    ⟨_, rfl, Stp.off (d := 152) (b := true) rfl rfl rfl (by kernel_rfl) (by decide) rfl (Nat.le_of_ble_eq_true rfl)⟩,
    ⟨_, rfl, Stp.off (d := 152) (b := true) rfl rfl rfl (by kernel_rfl) (by decide) rfl (Nat.le_of_ble_eq_true rfl)⟩,
    ⟨_, rfl, Stp.off (d := 152) (b := true) rfl rfl rfl (by kernel_rfl) (by decide) rfl (Nat.le_of_ble_eq_true rfl)⟩,
    ⟨_, rfl, Stp.off (d := 152) (b := true) rfl rfl rfl (by kernel_rfl) (by decide) rfl (Nat.le_of_ble_eq_true rfl)⟩,
    ⟨_, rfl, Stp.off (d := 152) (b := true) rfl rfl rfl (by kernel_rfl) (by decide) rfl (Nat.le_of_ble_eq_true rfl)⟩,
    ⟨_, rfl, Stp.off (d := 152) (b := true) rfl rfl rfl (by kernel_rfl) (by decide) rfl (Nat.le_of_ble_eq_true rfl)⟩,
    ⟨_, rfl, Stp.off (d := 152) (b := true) rfl rfl rfl (by kernel_rfl) (by decide) rfl (Nat.le_of_ble_eq_true rfl)⟩,
    ⟨_, rfl, Stp.off (d := 152) (b := true) rfl rfl rfl (by kernel_rfl) (by decide) rfl (Nat.le_of_ble_eq_true rfl)⟩,
    ⟨_, rfl, Stp.off (d := 152) (b := true) rfl rfl rfl (by kernel_rfl) (by decide) rfl (Nat.le_of_ble_eq_true rfl)⟩,
    ⟨_, rfl, Stp.ev T_ok (m := .dp) (φ := True) (by kernel_rfl) trivial⟩, trivial⟩ (by kernel_rfl) ?_
            refine VW.cond (b := true) (by kernel_rfl) (fun _ => ?_) (fun h' => nomatch h')
            refine sR T_ok [2] [] ⟨[(2, B false)], []⟩ (tn 1) ?_
            refine VW.ret ?_
            replace h := Option.some.inj h
            subst h
            exact rt []
          replace h := cond_f h hb278
          obtain ⟨g279, h⟩ := gd_some h
          obtain ⟨g280, h⟩ := gd_some h
          obtain ⟨g281, h⟩ := gd_some h
          obtain ⟨g282, h⟩ := gd_some h
          rcases Bool.eq_false_or_eq_true ((x204.getD x207.toNat (Ty.dflt (.int .i64))) != (x201.getD x207.toNat (Ty.dflt (.int .i64)))) with hb283 | hb283
          · replace h := cond_t h hb283
            refine VW.drawn (by kernel_rfl) [some (115, B y271.2), some (116, B (!y271.2)), some (117, B false), some (118, B y274.2.2), some (119, B (!y274.2.2)), some (120, B (!y274.2.2)), some (121, B false), some (122, I y271.1), some (123, I y274.2.1), some (124, B (y271.1 != y274.2.1)), some (125, B (y271.1 != y274.2.1)), some (126, B false), some (127, I x207), some (128, .lf (.ptr 0 0 0 1)), some (129, .lf (.hd 1 0 none)), some (130, I (x201.length : Int)), some (131, B (decide (x207 ≥ (x201.length : Int)))), some (132, B (decide (x207 ≥ (x201.length : Int)))), some (133, B false), some (134, .lf (.ptr 3 0 0 1)), some (135, .lf (.hd 4 0 none)), some (136, I x207), some (137, .lf (.ptr 4 0 x207.toNat 0)), some (138, I (x204.getD x207.toNat (Ty.dflt (.int .i64)))), some (139, .lf (.ptr 0 0 0 1)), some (140, .lf (.hd 1 0 none)), some (141, I x207), some (142, .lf (.ptr 1 0 x207.toNat 0)), some (143, I (x201.getD x207.toNat (Ty.dflt (.int .i64)))), some (144, B ((x204.getD x207.toNat (Ty.dflt (.int .i64))) != (x201.getD x207.toNat (Ty.dflt (.int .i64))))), some (145, B ((x204.getD x207.toNat (Ty.dflt (.int .i64))) != (x201.getD x207.toNat (Ty.dflt (.int .i64))))), some (146, B true), some (147, .unk), some (148, .unk), some (149, .unk), some (150, .unk), some (151, B true), some (152, B true), some (153, .unk), some (154, .unk), some (155, .unk), some (156, .unk), some (157, .unk), some (158, .unk), some (159, .unk), some (160, .unk), some (161, .unk), some (162, .unk), some (163, B true)] [] [[bx [.v (.int .i64) x200, .hd 1 0 none, .hd 2 0 none] 59, ar 0 (.int .i64) x201 .dp, ar 0 (.int .i64) x202 .dp, bx [.v (.int .i64) x203, .hd 4 0 none, .hd 5 0 none] 59, ar 0 (.int .i64) x204 .dp, ar 0 (.int .i64) x205 .dp, bx [.v (.int .i64) y274.1.1, .hd 7 0 none, .hd 8 0 none] 59, ar 0 (.int .i64) y274.1.2.1 .dp, ar 0 (.int .i64) y274.1.2.2 .dp]] [(0, 0), (1, 0), (2, 0), (3, 0), (4, 0), (5, 0), (6, 0), (7, 0), (8, 0), (9, 0), (10, 0), (11, 0), (12, 0), (13, 0), (14, 0), (15, 0), (16, 0), (17, 0), (18, 0), (19, 0), (20, 0), (21, 0), (22, 0), (23, 0), (24, 0), (25, 0), (26, 0), (27, 0), (28, 0), (29, 0), (30, 0), (31, 0), (32, 0), (33, 0), (34, 0), (35, 0), (36, 0), (37, 0), (38, 0), (39, 0), (40, 0), (41, 0), (42, 0), (43, 0), (44, 0), (45, 0), (46, 0), (47, 0), (48, 0)] [6, 8, 11, 12, 163] [0, 1, 2, 3, 4, 5] (s' := ⟨[(6, .lf (.ptr 0 0 0 0)), (8, .lf (.ptr 3 0 0 0)), (11, B x206), (12, I x207), (163, B true)], [bx [.v (.int .i64) x200, .hd 1 0 none, .hd 2 0 none] 59, ar 0 (.int .i64) x201 .dp, ar 0 (.int .i64) x202 .dp, bx [.v (.int .i64) x203, .hd 4 0 none, .hd 5 0 none] 59, ar 0 (.int .i64) x204 .dp, ar 0 (.int .i64) x205 .dp]⟩) (by kernel_rfl) (by kernel_rfl) ⟨⟨_, rfl, Stp.ev T_ok (m := .dp) (φ := True) (by kernel_rfl) trivial⟩,
    ⟨_, rfl, Stp.ev T_ok (m := .dp) (φ := True) (by kernel_rfl) trivial⟩,
    ⟨_, rfl, Stp.lit (d := 117) (b := (!y271.2)) (c := false) (Stp.ev T_ok (m := .dp) (φ := True) (by kernel_rfl) trivial) hb275⟩,
    ⟨_, rfl, Stp.on (d := 117) (b := false) rfl rfl rfl (by kernel_rfl) rfl (Stp.ev T_ok (m := .dp) (φ := True) (by kernel_rfl) trivial)⟩,
    ⟨_, rfl, Stp.on (d := 117) (b := false) rfl rfl rfl (by kernel_rfl) rfl (Stp.ev T_ok (m := .dp) (φ := True) (by kernel_rfl) trivial)⟩,
    ⟨_, rfl, Stp.ev T_ok (m := .dp) (φ := True) (by kernel_rfl) trivial⟩,
    ⟨_, rfl, Stp.lit (d := 121) (b := (!y274.2.2)) (c := false) (Stp.ev T_ok (m := .dp) (φ := True) (by kernel_rfl) trivial) hb276⟩,
    ⟨_, rfl, Stp.on (d := 121) (b := false) rfl rfl rfl (by kernel_rfl) rfl (Stp.ev T_ok (m := .dp) (φ := True) (by kernel_rfl) trivial)⟩,
    ⟨_, rfl, Stp.on (d := 121) (b := false) rfl rfl rfl (by kernel_rfl) rfl (Stp.ev T_ok (m := .dp) (φ := True) (by kernel_rfl) trivial)⟩,
    ⟨_, rfl, Stp.on (d := 121) (b := false) rfl rfl rfl (by kernel_rfl) rfl (Stp.ev T_ok (m := .dp) (φ := True) (by kernel_rfl) trivial)⟩,
    ⟨_, rfl, Stp.ev T_ok (m := .dp) (φ := True) (by kernel_rfl) trivial⟩,
    ⟨_, rfl, Stp.lit (d := 126) (b := (y271.1 != y274.2.1)) (c := false) (Stp.ev T_ok (m := .dp) (φ := True) (by kernel_rfl) trivial) hb277⟩,
    ⟨_, rfl, Stp.on (d := 126) (b := false) rfl rfl rfl (by kernel_rfl) rfl (Stp.ev T_ok (m := .dp) (φ := True) (by kernel_rfl) trivial)⟩,
    ⟨_, rfl, Stp.on (d := 126) (b := false) rfl rfl rfl (by kernel_rfl) rfl (Stp.ev T_ok (m := .dp) (φ := True) (by kernel_rfl) trivial)⟩,
    ⟨_, rfl, Stp.on (d := 126) (b := false) rfl rfl rfl (by kernel_rfl) rfl (Stp.ev T_ok (m := .dp) (φ := True) (by kernel_rfl) trivial)⟩,
    ⟨_, rfl, Stp.on (d := 126) (b := false) rfl rfl rfl (by kernel_rfl) rfl (Stp.ev T_ok (m := .dp) (φ := True) (by kernel_rfl) trivial)⟩,
    ⟨_, rfl, Stp.on (d := 126) (b := false) rfl rfl rfl (by kernel_rfl) rfl (Stp.ev T_ok (m := .dp) (φ := True) (by kernel_rfl) trivial)⟩,
    ⟨_, rfl, Stp.ev T_ok (m := .dp) (φ := True) (by kernel_rfl) trivial⟩,
    ⟨_, rfl, Stp.lit (d := 133) (b := (decide (x207 ≥ (x201.length : Int)))) (c := false) (Stp.ev T_ok (m := .dp) (φ := True) (by kernel_rfl) trivial) hb278⟩,
    ⟨_, rfl, Stp.on (d := 133) (b := false) rfl rfl rfl (by kernel_rfl) rfl (Stp.ev T_ok (m := .dp) (φ := True) (by kernel_rfl) trivial)⟩,
    ⟨_, rfl, Stp.on (d := 133) (b := false) rfl rfl rfl (by kernel_rfl) rfl (Stp.ev T_ok (m := .dp) (φ := True) (by kernel_rfl) trivial)⟩,
    ⟨_, rfl, Stp.on (d := 133) (b := false) rfl rfl rfl (by kernel_rfl) rfl (Stp.ev T_ok (m := .dp) (φ := True) (by kernel_rfl) trivial)⟩,
    ⟨_, rfl, Stp.on (d := 133) (b := false) rfl rfl rfl (by kernel_rfl) rfl (Stp.ev T_ok (m := .dp) (φ := InR x207 x204.length) (by kernel_rfl) g279)⟩,
    ⟨_, rfl, Stp.on (d := 133) (b := false) rfl rfl rfl (by kernel_rfl) rfl (Stp.ev T_ok (m := .dp) (φ := x207.toNat < x204.length) (by kernel_rfl) g280)⟩,
    ⟨_, rfl, Stp.on (d := 133) (b := false) rfl rfl rfl (by kernel_rfl) rfl (Stp.ev T_ok (m := .dp) (φ := True) (by kernel_rfl) trivial)⟩,
    ⟨_, rfl, Stp.on (d := 133) (b := false) rfl rfl rfl (by kernel_rfl) rfl (Stp.ev T_ok (m := .dp) (φ := True) (by kernel_rfl) trivial)⟩,
    ⟨_, rfl, Stp.on (d := 133) (b := false) rfl rfl rfl (by kernel_rfl) rfl (Stp.ev T_ok (m := .dp) (φ := True) (by kernel_rfl) trivial)⟩,
    ⟨_, rfl, Stp.on (d := 133) (b := false) rfl rfl rfl (by kernel_rfl) rfl (Stp.ev T_ok (m := .dp) (φ := InR x207 x201.length) (by kernel_rfl) g281)⟩,
    ⟨_, rfl, Stp.on (d := 133) (b := false) rfl rfl rfl (by kernel_rfl) rfl (Stp.ev T_ok (m := .dp) (φ := x207.toNat < x201.length) (by kernel_rfl) g282)⟩,
    ⟨_, rfl, Stp.on (d := 133) (b := false) rfl rfl rfl (by kernel_rfl) rfl (Stp.ev T_ok (m := .dp) (φ := True) (by kernel_rfl) trivial)⟩,
    ⟨_, rfl, Stp.ev T_ok (m := .dp) (φ := True) (by kernel_rfl) trivial⟩,
    ⟨_, rfl, Stp.lit (d := 146) (b := ((x204.getD x207.toNat (Ty.dflt (.int .i64))) != (x201.getD x207.toNat (Ty.dflt (.int .i64))))) (c := true) (Stp.ev T_ok (m := .dp) (φ := True) (by kernel_rfl) trivial) hb283⟩,
    ⟨_, rfl, Stp.off (d := 146) (b := true) rfl rfl rfl (by kernel_rfl) (by decide) rfl (Nat.le_of_ble_eq_true rfl)⟩,
    ⟨_, rfl, Stp.off (d := 146) (b := true) rfl rfl rfl (by kernel_rfl) (by decide) rfl (Nat.le_of_ble_eq_true rfl)⟩,
    ⟨_, rfl, Stp.off (d := 146) (b := true) rfl rfl rfl (by kernel_rfl) (by decide) rfl (Nat.le_of_ble_eq_true rfl)⟩,
    ⟨_, rfl, Stp.off (d := 146) (b := true) rfl rfl rfl (by kernel_rfl) (by decide) rfl (Nat.le_of_ble_eq_true rfl)⟩,
    ⟨_, rfl, Stp.ev T_ok (m := .dp) (φ := True) (by kernel_rfl) trivial⟩,
    ⟨_, rfl, Stp.ev T_ok (m := .dp) (φ := True) (by kernel_rfl) trivial⟩,
    ⟨_, rfl, Stp.off (d := 152) (b := true) rfl rfl rfl (by kernel_rfl) (by decide) rfl (Nat.le_of_ble_eq_true rfl)⟩,
    ⟨_, rfl, Stp.off (d := 152) (b := true) rfl rfl rfl (by kernel_rfl) (by decide) rfl (Nat.le_of_ble_eq_true rfl)⟩,
    ⟨_, rfl, Stp.off (d := 152) (b := true) rfl rfl rfl (by kernel_rfl) (by decide) rfl (Nat.le_of_ble_eq_true rfl)⟩,
    ⟨_, rfl, Stp.off (d := 152) (b := true) rfl rfl rfl (by kernel_rfl) (by decide) rfl (Nat.le_of_ble_eq_true rfl)⟩,
    ⟨_, rfl, Stp.off (d := 152) (b := true) rfl rfl rfl (by kernel_rfl) (by decide) rfl (Nat.le_of_ble_eq_true rfl)⟩,
    ⟨_, rfl, Stp.off (d := 152) (b := true) rfl rfl rfl (by kernel_rfl) (by decide) rfl (Nat.le_of_ble_eq_true rfl)⟩,
    ⟨_, rfl, Stp.off (d := 152) (b := true) rfl rfl rfl (by kernel_rfl) (by decide) rfl (Nat.le_of_ble_eq_true rfl)⟩,
    ⟨_, rfl, Stp.off (d := 152) (b := true) rfl rfl rfl (by kernel_rfl) (by decide) rfl (Nat.le_of_ble_eq_true rfl)⟩,
    ⟨_, rfl, Stp.off (d := 152) (b := true) rfl rfl rfl (by kernel_rfl) (by decide) rfl (Nat.le_of_ble_eq_true rfl)⟩,
    ⟨_, rfl, Stp.off (d := 152) (b := true) rfl rfl rfl (by kernel_rfl) (by decide) rfl (Nat.le_of_ble_eq_true rfl)⟩,
    ⟨_, rfl, Stp.ev T_ok (m := .dp) (φ := True) (by kernel_rfl) trivial⟩, trivial⟩ (by kernel_rfl) ?_
            refine VW.cond (b := true) (by kernel_rfl) (fun _ => ?_) (fun h' => nomatch h')
            refine sR T_ok [2] [] ⟨[(2, B false)], []⟩ (tn 1) ?_
            refine VW.ret ?_
            replace h := Option.some.inj h
            subst h
            exact rt []
          replace h := cond_f h hb283
          rcases Bool.eq_false_or_eq_true ((y274.1.2.1.length : Int) == (0 : Int)) with hb284 | hb284
          · replace h := cond_t h hb284
            refine VW.drawn (by kernel_rfl) [some (115, B y271.2), some (116, B (!y271.2)), some (117, B false), some (118, B y274.2.2), some (119, B (!y274.2.2)), some (120, B (!y274.2.2)), some (121, B false), some (122, I y271.1), some (123, I y274.2.1), some (124, B (y271.1 != y274.2.1)), some (125, B (y271.1 != y274.2.1)), some (126, B false), some (127, I x207), some (128, .lf (.ptr 0 0 0 1)), some (129, .lf (.hd 1 0 none)), some (130, I (x201.length : Int)), some (131, B (decide (x207 ≥ (x201.length : Int)))), some (132, B (decide (x207 ≥ (x201.length : Int)))), some (133, B false), some (134, .lf (.ptr 3 0 0 1)), some (135, .lf (.hd 4 0 none)), some (136, I x207), some (137, .lf (.ptr 4 0 x207.toNat 0)), some (138, I (x204.getD x207.toNat (Ty.dflt (.int .i64)))), some (139, .lf (.ptr 0 0 0 1)), some (140, .lf (.hd 1 0 none)), some (141, I x207), some (142, .lf (.ptr 1 0 x207.toNat 0)), some (143, I (x201.getD x207.toNat (Ty.dflt (.int .i64)))), some (144, B ((x204.getD x207.toNat (Ty.dflt (.int .i64))) != (x201.getD x207.toNat (Ty.dflt (.int .i64))))), some (145, B ((x204.getD x207.toNat (Ty.dflt (.int .i64))) != (x201.getD x207.toNat (Ty.dflt (.int .i64))))), some (146, B false), some (147, .lf (.ptr 6 0 0 1)), some (148, .lf (.hd 7 0 none)), some (149, I (y274.1.2.1.length : Int)), some (150, B ((y274.1.2.1.length : Int) == (0 : Int))), some (151, B ((y274.1.2.1.length : Int) == (0 : Int))), some (152, B true), some (153, .unk), some (154, .unk), some (155, .unk), some (156, .unk), some (157, .unk), some (158, .unk), some (159, .unk), some (160, .unk), some (161, .unk), some (162, .unk), some (163, B true)] [] [[bx [.v (.int .i64) x200, .hd 1 0 none, .hd 2 0 none] 59, ar 0 (.int .i64) x201 .dp, ar 0 (.int .i64) x202 .dp, bx [.v (.int .i64) x203, .hd 4 0 none, .hd 5 0 none] 59, ar 0 (.int .i64) x204 .dp, ar 0 (.int .i64) x205 .dp, bx [.v (.int .i64) y274.1.1, .hd 7 0 none, .hd 8 0 none] 59, ar 0 (.int .i64) y274.1.2.1 .dp, ar 0 (.int .i64) y274.1.2.2 .dp]] [(0, 0), (1, 0), (2, 0), (3, 0), (4, 0), (5, 0), (6, 0), (7, 0), (8, 0), (9, 0), (10, 0), (11, 0), (12, 0), (13, 0), (14, 0), (15, 0), (16, 0), (17, 0), (18, 0), (19, 0), (20, 0), (21, 0), (22, 0), (23, 0), (24, 0), (25, 0), (26, 0), (27, 0), (28, 0), (29, 0), (30, 0), (31, 0), (32, 0), (33, 0), (34, 0), (35, 0), (36, 0), (37, 0), (38, 0), (39, 0), (40, 0), (41, 0), (42, 0), (43, 0), (44, 0), (45, 0), (46, 0), (47, 0), (48, 0)] [6, 8, 11, 12, 163] [0, 1, 2, 3, 4, 5] (s' := ⟨[(6, .lf (.ptr 0 0 0 0)), (8, .lf (.ptr 3 0 0 0)), (11, B x206), (12, I x207), (163, B true)], [bx [.v (.int .i64) x200, .hd 1 0 none, .hd 2 0 none] 59, ar 0 (.int .i64) x201 .dp, ar 0 (.int .i64) x202 .dp, bx [.v (.int .i64) x203, .hd 4 0 none, .hd 5 0 none] 59, ar 0 (.int .i64) x204 .dp, ar 0 (.int .i64) x205 .dp]⟩) (by kernel_rfl) (by kernel_rfl) ⟨⟨_, rfl, Stp.ev T_ok (m := .dp) (φ := True) (by kernel_rfl) trivial⟩,
    ⟨_, rfl, Stp.ev T_ok (m := .dp) (φ := True) (by kernel_rfl) trivial⟩,
    ⟨_, rfl, Stp.lit (d := 117) (b := (!y271.2)) (c := false) (Stp.ev T_ok (m := .dp) (φ := True) (by kernel_rfl) trivial) hb275⟩,
    ⟨_, rfl, Stp.on (d := 117) (b := false) rfl rfl rfl (by kernel_rfl) rfl (Stp.ev T_ok (m := .dp) (φ := True) (by kernel_rfl) trivial)⟩,
    ⟨_, rfl, Stp.on (d := 117) (b := false) rfl rfl rfl (by kernel_rfl) rfl (Stp.ev T_ok (m := .dp) (φ := True) (by kernel_rfl) trivial)⟩,
    ⟨_, rfl, Stp.ev T_ok (m := .dp) (φ := True) (by kernel_rfl) trivial⟩,
    ⟨_, rfl, Stp.lit (d := 121) (b := (!y274.2.2)) (c := false) (Stp.ev T_ok (m := .dp) (φ := True) (by kernel_rfl) trivial) hb276⟩,
    ⟨_, rfl, Stp.on (d := 121) (b := false) rfl rfl rfl (by kernel_rfl) rfl (Stp.ev T_ok (m := .dp) (φ := True) (by kernel_rfl) trivial)⟩,
    ⟨_, rfl, Stp.on (d := 121) (b := false) rfl rfl rfl (by kernel_rfl) rfl (Stp.ev T_ok (m := .dp) (φ := True) (by kernel_rfl) trivial)⟩,
    ⟨_, rfl, Stp.on (d := 121) (b := false) rfl rfl rfl (by kernel_rfl) rfl (Stp.ev T_ok (m := .dp) (φ := True) (by kernel_rfl) trivial)⟩,
    ⟨_, rfl, Stp.ev T_ok (m := .dp) (φ := True) (by kernel_rfl) trivial⟩,
    ⟨_, rfl, Stp.lit (d := 126) (b := (y271.1 != y274.2.1)) (c := false) (Stp.ev T_ok (m := .dp) (φ := True) (by kernel_rfl) trivial) hb277⟩,
    ⟨_, rfl, Stp.on (d := 126) (b := false) rfl rfl rfl (by kernel_rfl) rfl (Stp.ev T_ok (m := .dp) (φ := True) (by kernel_rfl) trivial)⟩,
    ⟨_, rfl, Stp.on (d := 126) (b := false) rfl rfl rfl (by kernel_rfl) rfl (Stp.ev T_ok (m := .dp) (φ := True) (by kernel_rfl) trivial)⟩,
    ⟨_, rfl, Stp.on (d := 126) (b := false) rfl rfl rfl (by kernel_rfl) rfl (Stp.ev T_ok (m := .dp) (φ := True) (by kernel_rfl) trivial)⟩,
    ⟨_, rfl, Stp.on (d := 126) (b := false) rfl rfl rfl (by kernel_rfl) rfl (Stp.ev T_ok (m := .dp) (φ := True) (by kernel_rfl) trivial)⟩,
    ⟨_, rfl, Stp.on (d := 126) (b := false) rfl rfl rfl (by kernel_rfl) rfl (Stp.ev T_ok (m := .dp) (φ := True) (by kernel_rfl) trivial)⟩,
    ⟨_, rfl, Stp.ev T_ok (m := .dp) (φ := True) (by kernel_rfl) trivial⟩,
    ⟨_, rfl, Stp.lit (d := 133) (b := (decide (x207 ≥ (x201.length : Int)))) (c := false) (Stp.ev T_ok (m := .dp) (φ := True) (by kernel_rfl) trivial) hb278⟩,
    ⟨_, rfl, Stp.on (d := 133) (b := false) rfl rfl rfl (by kernel_rfl) rfl (Stp.ev T_ok (m := .dp) (φ := True) (by kernel_rfl) trivial)⟩,
    ⟨_, rfl, Stp.on (d := 133) (b := false) rfl rfl rfl (by kernel_rfl) rfl (Stp.ev T_ok (m := .dp) (φ := True) (by kernel_rfl) trivial)⟩,
    ⟨_, rfl, Stp.on (d := 133) (b := false) rfl rfl rfl (by kernel_rfl) rfl (Stp.ev T_ok (m := .dp) (φ := True) (by kernel_rfl) trivial)⟩,
    ⟨_, rfl, Stp.on (d := 133) (b := false) rfl rfl rfl (by kernel_rfl) rfl (Stp.ev T_ok (m := .dp) (φ := InR x207 x204.length) (by kernel_rfl) g279)⟩,
    ⟨_, rfl, Stp.on (d := 133) (b := false) rfl rfl rfl (by kernel_rfl) rfl (Stp.ev T_ok (m := .dp) (φ := x207.toNat < x204.length) (by kernel_rfl) g280)⟩,
    ⟨_, rfl, Stp.on (d := 133) (b := false) rfl rfl rfl (by kernel_rfl) rfl (Stp.ev T_ok (m := .dp) (φ := True) (by kernel_rfl) trivial)⟩,
    ⟨_, rfl, Stp.on (d := 133) (b := false) rfl rfl rfl (by kernel_rfl) rfl (Stp.ev T_ok (m := .dp) (φ := True) (by kernel_rfl) trivial)⟩,
    ⟨_, rfl, Stp.on (d := 133) (b := false) rfl rfl rfl (by kernel_rfl) rfl (Stp.ev T_ok (m := .dp) (φ := True) (by kernel_rfl) trivial)⟩,
    ⟨_, rfl, Stp.on (d := 133) (b := false) rfl rfl rfl (by kernel_rfl) rfl (Stp.ev T_ok (m := .dp) (φ := InR x207 x201.length) (by kernel_rfl) g281)⟩,
    ⟨_, rfl, Stp.on (d := 133) (b := false) rfl rfl rfl (by kernel_rfl) rfl (Stp.ev T_ok (m := .dp) (φ := x207.toNat < x201.length) (by kernel_rfl) g282)⟩,
    ⟨_, rfl, Stp.on (d := 133) (b := false) rfl rfl rfl (by kernel_rfl) rfl (Stp.ev T_ok (m := .dp) (φ := True) (by kernel_rfl) trivial)⟩,
    ⟨_, rfl, Stp.ev T_ok (m := .dp) (φ := True) (by kernel_rfl) trivial⟩,
    ⟨_, rfl, Stp.lit (d := 146) (b := ((x204.getD x207.toNat (Ty.dflt (.int .i64))) != (x201.getD x207.toNat (Ty.dflt (.int .i64))))) (c := false) (Stp.ev T_ok (m := .dp) (φ := True) (by kernel_rfl) trivial) hb283⟩,
    ⟨_, rfl, Stp.on (d := 146) (b := false) rfl rfl rfl (by kernel_rfl) rfl (Stp.ev T_ok (m := .dp) (φ := True) (by kernel_rfl) trivial)⟩,
    ⟨_, rfl, Stp.on (d := 146) (b := false) rfl rfl rfl (by kernel_rfl) rfl (Stp.ev T_ok (m := .dp) (φ := True) (by kernel_rfl) trivial)⟩,
    ⟨_, rfl, Stp.on (d := 146) (b := false) rfl rfl rfl (by kernel_rfl) rfl (Stp.ev T_ok (m := .dp) (φ := True) (by kernel_rfl) trivial)⟩,
    ⟨_, rfl, Stp.on (d := 146) (b := false) rfl rfl rfl (by kernel_rfl) rfl (Stp.ev T_ok (m := .dp) (φ := True) (by kernel_rfl) trivial)⟩,
    ⟨_, rfl, Stp.ev T_ok (m := .dp) (φ := True) (by kernel_rfl) trivial⟩,
    ⟨_, rfl, Stp.lit (d := 152) (b := ((y274.1.2.1.length : Int) == (0 : Int))) (c := true) (Stp.ev T_ok (m := .dp) (φ := True) (by kernel_rfl) trivial) hb284⟩,
    ⟨_, rfl, Stp.off (d := 152) (b := true) rfl rfl rfl (by kernel_rfl) (by decide) rfl (Nat.le_of_ble_eq_true rfl)⟩,
    ⟨_, rfl, Stp.off (d := 152) (b := true) rfl rfl rfl (by kernel_rfl) (by decide) rfl (Nat.le_of_ble_eq_true rfl)⟩,
    ⟨_, rfl, Stp.off (d := 152) (b := true) rfl rfl rfl (by kernel_rfl) (by decide) rfl (Nat.le_of_ble_eq_true rfl)⟩,
    ⟨_, rfl, Stp.off (d := 152) (b := true) rfl rfl rfl (by kernel_rfl) (by decide) rfl (Nat.le_of_ble_eq_true rfl)⟩,
    ⟨_, rfl, Stp.off (d := 152) (b := true) rfl rfl rfl (by kernel_rfl) (by decide) rfl (Nat.le_of_ble_eq_true rfl)⟩,
    ⟨_, rfl, Stp.off (d := 152) (b := true) rfl rfl rfl (by kernel_rfl) (by decide) rfl (Nat.le_of_ble_eq_true rfl)⟩,
    ⟨_, rfl, Stp.off (d := 152) (b := true) rfl rfl rfl (by kernel_rfl) (by decide) rfl (Nat.le_of_ble_eq_true rfl)⟩,
    ⟨_, rfl, Stp.off (d := 152) (b := true) rfl rfl rfl (by kernel_rfl) (by decide) rfl (Nat.le_of_ble_eq_true rfl)⟩,
    ⟨_, rfl, Stp.off (d := 152) (b := true) rfl rfl rfl (by kernel_rfl) (by decide) rfl (Nat.le_of_ble_eq_true rfl)⟩,
    ⟨_, rfl, Stp.off (d := 152) (b := true) rfl rfl rfl (by kernel_rfl) (by decide) rfl (Nat.le_of_ble_eq_true rfl)⟩,
    ⟨_, rfl, Stp.ev T_ok (m := .dp) (φ := True) (by kernel_rfl) trivial⟩, trivial⟩ (by kernel_rfl) ?_
            refine VW.cond (b := true) (by kernel_rfl) (fun _ => ?_) (fun h' => nomatch h')
            refine sR T_ok [2] [] ⟨[(2, B false)], []⟩ (tn 1) ?_
            refine VW.ret ?_
            replace h := Option.some.inj h
            subst h
            exact rt []
          replace h := cond_f h hb284
          obtain ⟨g285, h⟩ := gd_some h
          obtain ⟨g286, h⟩ := gd_some h
          obtain ⟨g287, h⟩ := gd_some h
          obtain ⟨g288, h⟩ := gd_some h
          refine VW.drawn (by kernel_rfl) [some (115, B y271.2), some (116, B (!y271.2)), some (117, B false), some (118, B y274.2.2), some (119, B (!y274.2.2)), some (120, B (!y274.2.2)), some (121, B false), some (122, I y271.1), some (123, I y274.2.1), some (124, B (y271.1 != y274.2.1)), some (125, B (y271.1 != y274.2.1)), some (126, B false), some (127, I x207), some (128, .lf (.ptr 0 0 0 1)), some (129, .lf (.hd 1 0 none)), some (130, I (x201.length : Int)), some (131, B (decide (x207 ≥ (x201.length : Int)))), some (132, B (decide (x207 ≥ (x201.length : Int)))), some (133, B false), some (134, .lf (.ptr 3 0 0 1)), some (135, .lf (.hd 4 0 none)), some (136, I x207), some (137, .lf (.ptr 4 0 x207.toNat 0)), some (138, I (x204.getD x207.toNat (Ty.dflt (.int .i64)))), some (139, .lf (.ptr 0 0 0 1)), some (140, .lf (.hd 1 0 none)), some (141, I x207), some (142, .lf (.ptr 1 0 x207.toNat 0)), some (143, I (x201.getD x207.toNat (Ty.dflt (.int .i64)))), some (144, B ((x204.getD x207.toNat (Ty.dflt (.int .i64))) != (x201.getD x207.toNat (Ty.dflt (.int .i64))))), some (145, B ((x204.getD x207.toNat (Ty.dflt (.int .i64))) != (x201.getD x207.toNat (Ty.dflt (.int .i64))))), some (146, B false), some (147, .lf (.ptr 6 0 0 1)), some (148, .lf (.hd 7 0 none)), some (149, I (y274.1.2.1.length : Int)), some (150, B ((y274.1.2.1.length : Int) == (0 : Int))), some (151, B ((y274.1.2.1.length : Int) == (0 : Int))), some (152, B false), some (153, .lf (.ptr 6 0 0 1)), some (154, .lf (.hd 7 0 none)), some (155, .lf (.ptr 7 0 ((0 : Int).toNat) 0)), some (156, I (y274.1.2.1.getD ((0 : Int).toNat) (Ty.dflt (.int .i64)))), some (157, .lf (.ptr 3 0 0 1)), some (158, .lf (.hd 4 0 none)), some (159, I x207), some (160, .lf (.ptr 4 0 x207.toNat 0)), some (161, I (x204.getD x207.toNat (Ty.dflt (.int .i64)))), some (162, B ((y274.1.2.1.getD ((0 : Int).toNat) (Ty.dflt (.int .i64))) != (x204.getD x207.toNat (Ty.dflt (.int .i64))))), some (163, B ((y274.1.2.1.getD ((0 : Int).toNat) (Ty.dflt (.int .i64))) != (x204.getD x207.toNat (Ty.dflt (.int .i64)))))] [] [[bx [.v (.int .i64) x200, .hd 1 0 none, .hd 2 0 none] 59, ar 0 (.int .i64) x201 .dp, ar 0 (.int .i64) x202 .dp, bx [.v (.int .i64) x203, .hd 4 0 none, .hd 5 0 none] 59, ar 0 (.int .i64) x204 .dp, ar 0 (.int .i64) x205 .dp, bx [.v (.int .i64) y274.1.1, .hd 7 0 none, .hd 8 0 none] 59, ar 0 (.int .i64) y274.1.2.1 .dp, ar 0 (.int .i64) y274.1.2.2 .dp]] [(0, 0), (1, 0), (2, 0), (3, 0), (4, 0), (5, 0), (6, 0), (7, 0), (8, 0), (9, 0), (10, 0), (11, 0), (12, 0), (13, 0), (14, 0), (15, 0), (16, 0), (17, 0), (18, 0), (19, 0), (20, 0), (21, 0), (22, 0), (23, 0), (24, 0), (25, 0), (26, 0), (27, 0), (28, 0), (29, 0), (30, 0), (31, 0), (32, 0), (33, 0), (34, 0), (35, 0), (36, 0), (37, 0), (38, 0), (39, 0), (40, 0), (41, 0), (42, 0), (43, 0), (44, 0), (45, 0), (46, 0), (47, 0), (48, 0)] [6, 8, 11, 12, 163] [0, 1, 2, 3, 4, 5] (s' := ⟨[(6, .lf (.ptr 0 0 0 0)), (8, .lf (.ptr 3 0 0 0)), (11, B x206), (12, I x207), (163, B ((y274.1.2.1.getD ((0 : Int).toNat) (Ty.dflt (.int .i64))) != (x204.getD x207.toNat (Ty.dflt (.int .i64)))))], [bx [.v (.int .i64) x200, .hd 1 0 none, .hd 2 0 none] 59, ar 0 (.int .i64) x201 .dp, ar 0 (.int .i64) x202 .dp, bx [.v (.int .i64) x203, .hd 4 0 none, .hd 5 0 none] 59, ar 0 (.int .i64) x204 .dp, ar 0 (.int .i64) x205 .dp]⟩) (by kernel_rfl) (by kernel_rfl) ⟨⟨_, rfl, Stp.ev T_ok (m := .dp) (φ := True) (by kernel_rfl) trivial⟩,
    ⟨_, rfl, Stp.ev T_ok (m := .dp) (φ := True) (by kernel_rfl) trivial⟩,
    ⟨_, rfl, Stp.lit (d := 117) (b := (!y271.2)) (c := false) (Stp.ev T_ok (m := .dp) (φ := True) (by kernel_rfl) trivial) hb275⟩,
    ⟨_, rfl, Stp.on (d := 117) (b := false) rfl rfl rfl (by kernel_rfl) rfl (Stp.ev T_ok (m := .dp) (φ := True) (by kernel_rfl) trivial)⟩,
    ⟨_, rfl, Stp.on (d := 117) (b := false) rfl rfl rfl (by kernel_rfl) rfl (Stp.ev T_ok (m := .dp) (φ := True) (by kernel_rfl) trivial)⟩,
    ⟨_, rfl, Stp.ev T_ok (m := .dp) (φ := True) (by kernel_rfl) trivial⟩,
    ⟨_, rfl, Stp.lit (d := 121) (b := (!y274.2.2)) (c := false) (Stp.ev T_ok (m := .dp) (φ := True) (by kernel_rfl) trivial) hb276⟩,
    ⟨_, rfl, Stp.on (d := 121) (b := false) rfl rfl rfl (by kernel_rfl) rfl (Stp.ev T_ok (m := .dp) (φ := True) (by kernel_rfl) trivial)⟩,
    ⟨_, rfl, Stp.on (d := 121) (b := false) rfl rfl rfl (by kernel_rfl) rfl (Stp.ev T_ok (m := .dp) (φ := True) (by kernel_rfl) trivial)⟩,
    ⟨_, rfl, Stp.on (d := 121) (b := false) rfl rfl rfl (by kernel_rfl) rfl (Stp.ev T_ok (m := .dp) (φ := True) (by kernel_rfl) trivial)⟩,
    ⟨_, rfl, Stp.ev T_ok (m := .dp) (φ := True) (by kernel_rfl) trivial⟩,
    ⟨_, rfl, Stp.lit (d := 126) (b := (y271.1 != y274.2.1)) (c := false) (Stp.ev T_ok (m := .dp) (φ := True) (by kernel_rfl) trivial) hb277⟩,
    ⟨_, rfl, Stp.on (d := 126) (b := false) rfl rfl rfl (by kernel_rfl) rfl (Stp.ev T_ok (m := .dp) (φ := True) (by kernel_rfl) trivial)⟩,
    ⟨_, rfl, Stp.on (d := 126) (b := false) rfl rfl rfl (by kernel_rfl) rfl (Stp.ev T_ok (m := .dp) (φ := True) (by kernel_rfl) trivial)⟩,
    ⟨_, rfl, Stp.on (d := 126) (b := false) rfl rfl rfl (by kernel_rfl) rfl (Stp.ev T_ok (m := .dp) (φ := True) (by kernel_rfl) trivial)⟩,
    ⟨_, rfl, Stp.on (d := 126) (b := false) rfl rfl rfl (by kernel_rfl) rfl (Stp.ev T_ok (m := .dp) (φ := True) (by kernel_rfl) trivial)⟩,
    ⟨_, rfl, Stp.on (d := 126) (b := false) rfl rfl rfl (by kernel_rfl) rfl (Stp.ev T_ok (m := .dp) (φ := True) (by kernel_rfl) trivial)⟩,
    ⟨_, rfl, Stp.ev T_ok (m := .dp) (φ := True) (by kernel_rfl) trivial⟩,
    ⟨_, rfl, Stp.lit (d := 133) (b := (decide (x207 ≥ (x201.length : Int)))) (c := false) (Stp.ev T_ok (m := .dp) (φ := True) (by kernel_rfl) trivial) hb278⟩,
    ⟨_, rfl, Stp.on (d := 133) (b := false) rfl rfl rfl (by kernel_rfl) rfl (Stp.ev T_ok (m := .dp) (φ := True) (by kernel_rfl) trivial)⟩,
    ⟨_, rfl, Stp.on (d := 133) (b := false) rfl rfl rfl (by kernel_rfl) rfl (Stp.ev T_ok (m := .dp) (φ := True) (by kernel_rfl) trivial)⟩,
    ⟨_, rfl, Stp.on (d := 133) (b := false) rfl rfl rfl (by kernel_rfl) rfl (Stp.ev T_ok (m := .dp) (φ := True) (by kernel_rfl) trivial)⟩,
    ⟨_, rfl, Stp.on (d := 133) (b := false) rfl rfl rfl (by kernel_rfl) rfl (Stp.ev T_ok (m := .dp) (φ := InR x207 x204.length) (by kernel_rfl) g279)⟩,
    ⟨_, rfl, Stp.on (d := 133) (b := false) rfl rfl rfl (by kernel_rfl) rfl (Stp.ev T_ok (m := .dp) (φ := x207.toNat < x204.length) (by kernel_rfl) g280)⟩,
    ⟨_, rfl, Stp.on (d := 133) (b := false) rfl rfl rfl (by kernel_rfl) rfl (Stp.ev T_ok (m := .dp) (φ := True) (by kernel_rfl) trivial)⟩,
    ⟨_, rfl, Stp.on (d := 133) (b := false) rfl rfl rfl (by kernel_rfl) rfl (Stp.ev T_ok (m := .dp) (φ := True) (by kernel_rfl) trivial)⟩,
    ⟨_, rfl, Stp.on (d := 133) (b := false) rfl rfl rfl (by kernel_rfl) rfl (Stp.ev T_ok (m := .dp) (φ := True) (by kernel_rfl) trivial)⟩,
    ⟨_, rfl, Stp.on (d := 133) (b := false) rfl rfl rfl (by kernel_rfl) rfl (Stp.ev T_ok (m := .dp) (φ := InR x207 x201.length) (by kernel_rfl) g281)⟩,
    ⟨_, rfl, Stp.on (d := 133) (b := false) rfl rfl rfl (by kernel_rfl) rfl (Stp.ev T_ok (m := .dp) (φ := x207.toNat < x201.length) (by kernel_rfl) g282)⟩,
    ⟨_, rfl, Stp.on (d := 133) (b := false) rfl rfl rfl (by kernel_rfl) rfl (Stp.ev T_ok (m := .dp) (φ := True) (by kernel_rfl) trivial)⟩,
    ⟨_, rfl, Stp.ev T_ok (m := .dp) (φ := True) (by kernel_rfl) trivial⟩,
    ⟨_, rfl, Stp.lit (d := 146) (b := ((x204.getD x207.toNat (Ty.dflt (.int .i64))) != (x201.getD x207.toNat (Ty.dflt (.int .i64))))) (c := false) (Stp.ev T_ok (m := .dp) (φ := True) (by kernel_rfl) trivial) hb283⟩,
    ⟨_, rfl, Stp.on (d := 146) (b := false) rfl rfl rfl (by kernel_rfl) rfl (Stp.ev T_ok (m := .dp) (φ := True) (by kernel_rfl) trivial)⟩,
    ⟨_, rfl, Stp.on (d := 146) (b := false) rfl rfl rfl (by kernel_rfl) rfl (Stp.ev T_ok (m := .dp) (φ := True) (by kernel_rfl) trivial)⟩,
    ⟨_, rfl, Stp.on (d := 146) (b := false) rfl rfl rfl (by kernel_rfl) rfl (Stp.ev T_ok (m := .dp) (φ := True) (by kernel_rfl) trivial)⟩,
    ⟨_, rfl, Stp.on (d := 146) (b := false) rfl rfl rfl (by kernel_rfl) rfl (Stp.ev T_ok (m := .dp) (φ := True) (by kernel_rfl) trivial)⟩,
    ⟨_, rfl, Stp.ev T_ok (m := .dp) (φ := True) (by kernel_rfl) trivial⟩,
    ⟨_, rfl, Stp.lit (d := 152) (b := ((y274.1.2.1.length : Int) == (0 : Int))) (c := false) (Stp.ev T_ok (m := .dp) (φ := True) (by kernel_rfl) trivial) hb284⟩,
    ⟨_, rfl, Stp.on (d := 152) (b := false) rfl rfl rfl (by kernel_rfl) rfl (Stp.ev T_ok (m := .dp) (φ := True) (by kernel_rfl) trivial)⟩,
    ⟨_, rfl, Stp.on (d := 152) (b := false) rfl rfl rfl (by kernel_rfl) rfl (Stp.ev T_ok (m := .dp) (φ := True) (by kernel_rfl) trivial)⟩,
    ⟨_, rfl, Stp.on (d := 152) (b := false) rfl rfl rfl (by kernel_rfl) rfl (Stp.ev T_ok (m := .dp) (φ := InR (0 : Int) y274.1.2.1.length) (by kernel_rfl) g285)⟩,
    ⟨_, rfl, Stp.on (d := 152) (b := false) rfl rfl rfl (by kernel_rfl) rfl (Stp.ev T_ok (m := .dp) (φ := (0 : Int).toNat < y274.1.2.1.length) (by kernel_rfl) g286)⟩,
    ⟨_, rfl, Stp.on (d := 152) (b := false) rfl rfl rfl (by kernel_rfl) rfl (Stp.ev T_ok (m := .dp) (φ := True) (by kernel_rfl) trivial)⟩,
    ⟨_, rfl, Stp.on (d := 152) (b := false) rfl rfl rfl (by kernel_rfl) rfl (Stp.ev T_ok (m := .dp) (φ := True) (by kernel_rfl) trivial)⟩,
    ⟨_, rfl, Stp.on (d := 152) (b := false) rfl rfl rfl (by kernel_rfl) rfl (Stp.ev T_ok (m := .dp) (φ := True) (by kernel_rfl) trivial)⟩,
    ⟨_, rfl, Stp.on (d := 152) (b := false) rfl rfl rfl (by kernel_rfl) rfl (Stp.ev T_ok (m := .dp) (φ := InR x207 x204.length) (by kernel_rfl) g287)⟩,
    ⟨_, rfl, Stp.on (d := 152) (b := false) rfl rfl rfl (by kernel_rfl) rfl (Stp.ev T_ok (m := .dp) (φ := x207.toNat < x204.length) (by kernel_rfl) g288)⟩,
    ⟨_, rfl, Stp.on (d := 152) (b := false) rfl rfl rfl (by kernel_rfl) rfl (Stp.ev T_ok (m := .dp) (φ := True) (by kernel_rfl) trivial)⟩,
    ⟨_, rfl, Stp.ev T_ok (m := .dp) (φ := True) (by kernel_rfl) trivial⟩, trivial⟩ (by kernel_rfl) ?_
          refine cnd h (fun h => ?_) (fun h => ?_)
          · refine sR T_ok [2] [] ⟨[(2, B false)], []⟩ (tn 1) ?_
            refine VW.ret ?_
            replace h := Option.some.inj h
            subst h
            exact rt []
          refine VW.skip ?_
          refine rR T_ok [6, 8, 11, 12] [0, 1, 2, 3, 4, 5] ⟨[(6, .lf (.ptr 0 0 0 0)), (8, .lf (.ptr 3 0 0 0)), (11, B x206), (12, I (IntKind.i64.wrap (x207 + (1 : Int))))], [bx [.v (.int .i64) x200, .hd 1 0 none, .hd 2 0 none] 59, ar 0 (.int .i64) x201 .dp, ar 0 (.int .i64) x202 .dp, bx [.v (.int .i64) x203, .hd 4 0 none, .hd 5 0 none] 59, ar 0 (.int .i64) x204 .dp, ar 0 (.int .i64) x205 .dp]⟩ (tn 3) ?_
          exact aro [.ren [6, 8, 11, 12] [0, 1, 2, 3, 4, 5]] ⟨x200, x201, x202, x203, x204, x205, x206, (IntKind.i64.wrap (x207 + (1 : Int))), rfl, h⟩
        refine VW.exit ?_
        exact arv [.ren [] []] ⟨rfl, h⟩
      refine sN T_ok [6, 8, 11, 12, 91] [0, 1, 2, 3, 4, 5] ⟨[(6, .lf (.ptr 0 0 0 0)), (8, .lf (.ptr 3 0 0 0)), (11, B x206), (12, I x207), (91, B false)], [bx [.v (.int .i64) x200, .hd 1 0 none, .hd 2 0 none] 59, ar 0 (.int .i64) x201 .dp, ar 0 (.int .i64) x202 .dp, bx [.v (.int .i64) x203, .hd 4 0 none, .hd 5 0 none] 59, ar 0 (.int .i64) x204 .dp, ar 0 (.int .i64) x205 .dp]⟩ (tn 6) ?_
      refine VW.cond (b := false) (by kernel_rfl) (fun h' => nomatch h') (fun _ => ?_)
      refine VW.exit ?_
      exact arv [.ren [] []] ⟨rfl, h⟩
  rintro s ⟨rfl, h⟩
  unfold F7_j0 at h
  refine sR T_ok [2] [] ⟨[(2, B true)], []⟩ (tn 1) ?_
  refine VW.ret ?_
  replace h := Option.some.inj h
  subst h
  exact rt []

end Go.Proofs.Ytgpddckjpokclaa.Vc
