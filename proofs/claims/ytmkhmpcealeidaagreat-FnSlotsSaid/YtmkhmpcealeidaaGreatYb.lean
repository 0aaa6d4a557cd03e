/- What functions of the program compute, and that they do. -/
import Derived.Test.YtmkhmpcealeidaaGreatYa
namespace Go.Proofs.YtmkhmpcealeidaaGreat.Vc
open Go Go.RowKit Go.Proofs.Tryz
set_option linter.unusedVariables false
set_option maxRecDepth 100000
set_option maxHeartbeats 4000000
def F10_j0 (N : Nat) : Option (Bool) :=
  some true
def F10_l0_b (N : Nat) (a0 : (List Int)) (a1 : (List Int)) (nx25 : Int → Option (Bool)) (x20 : Int) : Option (Bool) :=
  cond (decide (x20 < (a0.length : Int))) (gd (InR x20 a0.length) (gd (InR x20 a1.length) (cond ((a0.getD x20.toNat (Ty.dflt (.int .i64))) != (a1.getD x20.toNat (Ty.dflt (.int .i64)))) (some false) (nx25 (IntKind.i64.wrap (x20 + (1 : Int))))))) (F10_j0 N)
def F10_l0 (N : Nat) (a0 : (List Int)) (a1 : (List Int)) := loopF (F10_l0_b N a0 a1) (fun _ => none)
theorem F10_l0_s N a0 a1 {k} (hk : 0 < k) x20 : F10_l0 N a0 a1 k x20 = F10_l0_b N a0 a1 (F10_l0 N a0 a1 (k - 1)) x20 := by cases k;cases hk;rfl
def F10 (N : Nat) (a0 : (List Int)) (a1 : (List Int)) : Option (Bool) :=
  cond ((a0.length : Int) != (a1.length : Int)) (some false) (F10_l0 N a0 a1 N (0 : Int))
theorem ok10 N a0 a1 {r} (h : F10 N a0 a1 = some r) : Con prog 10 [Vv (.sl (.int .i64)) a0, Vv (.sl (.int .i64)) a1] [.lf (.v .bool r)] := by
 refine ctr [.lf (.v .bool)] K func10 rfl fun w0 E0 ht => ?_
 unfold F10 at h
 show VW _ _ _ _ _ (retQ _ _ _ _) _
 refine nR K (tn 1) <| sq <| nR K (tn 5) ?_
 refine cnd h ?_ ?_<;>intro h
 ·refine nR K (tn 1) ?_
  cases h; exact VW.ret (rt [])
 refine VW.skip ?_
 refine VW.join (fun s => s = ⟨[], []⟩ ∧ F10_j0 N = some r) ?_ ?_
 ·refine nR K (tn 1) <| VW.block <| lop (fun k s => ∃ x20, s = ⟨[(0, Vv (.sl (.int .i64)) a0), (1, Vv (.sl (.int .i64)) a1), (5, I x20)], []⟩ ∧ F10_l0 N a0 a1 k x20 = some r) N [.ren [0, 1, 5] []] ⟨(0 : Int), rfl, h⟩ ?_
  rintro k25 s ⟨x20, rfl, h⟩
  cases k25 with
  | zero => cases show none = some r from h
  | succ k25 =>
   replace h : F10_l0_b N a0 a1 (F10_l0 N a0 a1 k25) x20 = some r := h
   unfold F10_l0_b at h
   refine sq <| nR K (tn 4) ?_
   refine cnd h ?_ ?_<;>intro h
   ·refine VW.skip <| sq <| VW.block <| sq ?_
    obtain⟨g28,h⟩:=gS h
    obtain⟨g29,h⟩:=gS h
    refine dr K [] [] [] [0, 1, 5, 25] [] (pu 2 (an g28 (pu 3 (an g29 (tn 2))))) trivial ?_
    refine cnd h ?_ ?_<;>intro h
    ·refine nR K (tn 1) ?_
     cases h; exact VW.ret (rt [])
    refine VW.skip <| nE K (tn 3) ?_
    exact aro [.ren [0, 1, 5] []] ⟨(wr (x20 + (1 : Int))), rfl, h⟩
   refine VW.exit ?_
   exact arv [.ren [] []] ⟨rfl, h⟩
 rintro s ⟨rfl, h⟩
 unfold F10_j0 at h
 refine nR K (tn 1) ?_
 cases h; exact VW.ret (rt [])
def F12_j0 (N : Nat) (x69 : (List Z50)) : Option ((List Z50) × Bool) :=
  andO (F44 N x69) fun y71 => cond (!y71) (some ([], false)) (some (x69, true))
def F12_j1 (N : Nat) (nx117 : (List Z50) → Int → Int → Option ((List Z50) × Bool)) (x95 : Int) (x96 : Int) (x127 : (List Z50)) : Option ((List Z50) × Bool) :=
  nx117 x127 x95 (IntKind.i64.wrap (x96 + (1 : Int)))
def F12_l0_b (N : Nat) (a1 : (List Int)) (nx117 : (List Z50) → Int → Int → Option ((List Z50) × Bool)) (x94 : (List Z50)) (x95 : Int) (x96 : Int) : Option ((List Z50) × Bool) :=
  cond (decide (x96 < x95)) (gd (InR x96 x94.length) (gd (x96.toNat < x94.length) (cond (!((x94.getD x96.toNat (Ty.dflt Y50)).2.2.2.2.2.1)) (F12_j1 N nx117 x95 x96 x94) (gd (x96.toNat < x94.length) (cond (decide (((x94.getD x96.toNat (Ty.dflt Y50)).2.2.2.2.1) ≥ (a1.length : Int))) (some ([], false)) (gd (x96.toNat < x94.length) (gd (InR ((x94.getD x96.toNat (Ty.dflt Y50)).2.2.2.2.1) a1.length) (gd (x96.toNat < x94.length) (gd (x96.toNat < (x94.set x96.toNat ((x94.getD x96.toNat (Ty.dflt Y50)).1, ((x94.getD x96.toNat (Ty.dflt Y50)).2.1, ((x94.getD x96.toNat (Ty.dflt Y50)).2.2.1, ((x94.getD x96.toNat (Ty.dflt Y50)).2.2.2.1, ((a1.getD ((x94.getD x96.toNat (Ty.dflt Y50)).2.2.2.2.1).toNat (Ty.dflt (.int .i64))), ((x94.getD x96.toNat (Ty.dflt Y50)).2.2.2.2.2.1, (x94.getD x96.toNat (Ty.dflt Y50)).2.2.2.2.2.2))))))).length) (F12_j1 N nx117 x95 x96 (x94.set x96.toNat ((x94.getD x96.toNat (Ty.dflt Y50)).1, ((x94.getD x96.toNat (Ty.dflt Y50)).2.1, ((x94.getD x96.toNat (Ty.dflt Y50)).2.2.1, ((x94.getD x96.toNat (Ty.dflt Y50)).2.2.2.1, ((a1.getD ((x94.getD x96.toNat (Ty.dflt Y50)).2.2.2.2.1).toNat (Ty.dflt (.int .i64))), (false, (x94.getD x96.toNat (Ty.dflt Y50)).2.2.2.2.2.2))))))))))))))))) (F12_j0 N x94)
def F12_l0 (N : Nat) (a1 : (List Int)) := loopF (F12_l0_b N a1) (fun _ _ _ => none)
theorem F12_l0_s N a1 {k} (hk : 0 < k) x94 x95 x96 : F12_l0 N a1 k x94 x95 x96 = F12_l0_b N a1 (F12_l0 N a1 (k - 1)) x94 x95 x96 := by cases k;cases hk;rfl
def F12 (N : Nat) (a0 : (List Z50)) (a1 : (List Int)) : Option ((List Z50) × Bool) :=
  andO (F44 N a0) fun y2 => cond (!y2) (some ([], false)) (andO (F40 N a0) fun y3 => F12_l0 N a1 N y3 (y3.length : Int) (0 : Int))
theorem ok12 N a0 a1 {r} (h : F12 N a0 a1 = some r) : Con prog 12 [Vv (.sl Y50) a0, Vv (.sl (.int .i64)) a1] [.lf (.own Y50 r.1 .dp), .lf (.v .bool r.2)] := by
 refine ctr [.lf (.own Y50 .dp), .lf (.v .bool)] K func12 rfl fun w0 E0 ht => ?_
 unfold F12 at h
 show VW _ _ _ _ _ (retQ _ _ _ _) _
 refine nR K (tn 2) <| sq <| sq <| VW.region <| nG K 1 (tn 1) ?_
 obtain⟨y2,hy,h⟩:=aS h
 refine clc false [.t (.sl Y50)] [] (some 10) K (ok44 N _ hy) <| nN K (tn 1) ?_
 refine cnd h ?_ ?_<;>intro h
 ·refine nR K (tn 2) ?_
  cases h; exact VW.ret (rt [none])
 refine VW.skip <| sq <| VW.region <| nG K 1 (tn 1) ?_
 obtain⟨y3,hy,h⟩:=aS h
 refine clc false [.t (.sl Y50)] [] (some 13) K (ok40 N _ hy) <| nN K (tn 1) ?_
 refine VW.join (fun s => ∃ x69, s = ⟨[(6, hh 0)], [ar 0 Y50 x69 .dp]⟩ ∧ F12_j0 N x69 = some r) ?_ ?_
 ·refine nR K (tn 3) <| VW.block <| lop (fun k s => ∃ x94 x95 x96, s = ⟨[(1, Vv (.sl (.int .i64)) a1), (6, hh 0), (15, I x95), (16, I x96)], [ar 0 Y50 x94 .dp]⟩ ∧ F12_l0 N a1 k x94 x95 x96 = some r) N [.ren [1, 6, 15, 16] [0]] ⟨y3, (y3.length : Int), (0 : Int), rfl, h⟩ ?_
  rintro k117 s ⟨x94, x95, x96, rfl, h⟩
  cases k117 with
  | zero => cases show none = some r from h
  | succ k117 =>
   replace h : F12_l0_b N a1 (F12_l0 N a1 k117) x94 x95 x96 = some r := h
   unfold F12_l0_b at h
   refine nR K (tn 1) <| sq ?_
   refine cnd h ?_ ?_<;>intro h
   ·refine VW.skip ?_
    refine VW.join (fun s => ∃ x127, s = ⟨[(1, Vv (.sl (.int .i64)) a1), (6, hh 0), (15, I x95), (16, I x96)], [ar 0 Y50 x127 .dp]⟩ ∧ F12_j1 N (F12_l0 N a1 k117) x95 x96 x127 = some r) ?_ ?_
    ·refine VW.block <| nR K (tn 2) ?_
     obtain⟨g129,h⟩:=gS h
     refine nR K (pu 2 (an g129 (tn 1))) <| sq ?_
     obtain⟨g131,h⟩:=gS h
     refine nR K (pu 3 (an g131 (tn 1))) ?_
     refine cnd h ?_ ?_<;>intro h
     ·refine VW.exit ?_
      exact arv [.ren [1, 6, 15, 16] [0]] ⟨x94, rfl, h⟩
     refine VW.skip <| sq ?_
     obtain⟨g133,h⟩:=gS h
     refine nR K (pu 3 (an g133 (tn 3))) ?_
     refine cnd h ?_ ?_<;>intro h
     ·refine nR K (tn 2) ?_
      cases h; exact VW.ret (rt [none])
     refine VW.skip ?_
     obtain⟨g134,h⟩:=gS h
     obtain⟨g135,h⟩:=gS h
     obtain⟨g136,h⟩:=gS h
     refine nR K (pu 5 (an g134 (an g135 (pu 3 (an g136 (tn 0)))))) <| VW.region ?_
     obtain⟨g137,h⟩:=gS h
     refine sG K 4 [1, 6, 15, 16] [0] ⟨[(1, Vv (.sl (.int .i64)) a1), (6, hh 0), (15, I x95), (16, I x96)], [ar 0 Y50 ((x94.set x96.toNat ((x94.getD x96.toNat D50).1, ((x94.getD x96.toNat D50).2.1, ((x94.getD x96.toNat D50).2.2.1, ((x94.getD x96.toNat D50).2.2.2.1, ((a1.getD ((x94.getD x96.toNat D50).2.2.2.2.1).toNat (Ty.dflt (.int .i64))), ((x94.getD x96.toNat D50).2.2.2.2.2.1, (x94.getD x96.toNat D50).2.2.2.2.2.2))))))).set x96.toNat (((x94.set x96.toNat ((x94.getD x96.toNat D50).1, ((x94.getD x96.toNat D50).2.1, ((x94.getD x96.toNat D50).2.2.1, ((x94.getD x96.toNat D50).2.2.2.1, ((a1.getD ((x94.getD x96.toNat D50).2.2.2.2.1).toNat (Ty.dflt (.int .i64))), ((x94.getD x96.toNat D50).2.2.2.2.2.1, (x94.getD x96.toNat D50).2.2.2.2.2.2))))))).getD x96.toNat D50).1, (((x94.set x96.toNat ((x94.getD x96.toNat D50).1, ((x94.getD x96.toNat D50).2.1, ((x94.getD x96.toNat D50).2.2.1, ((x94.getD x96.toNat D50).2.2.2.1, ((a1.getD ((x94.getD x96.toNat D50).2.2.2.2.1).toNat (Ty.dflt (.int .i64))), ((x94.getD x96.toNat D50).2.2.2.2.2.1, (x94.getD x96.toNat D50).2.2.2.2.2.2))))))).getD x96.toNat D50).2.1, (((x94.set x96.toNat ((x94.getD x96.toNat D50).1, ((x94.getD x96.toNat D50).2.1, ((x94.getD x96.toNat D50).2.2.1, ((x94.getD x96.toNat D50).2.2.2.1, ((a1.getD ((x94.getD x96.toNat D50).2.2.2.2.1).toNat (Ty.dflt (.int .i64))), ((x94.getD x96.toNat D50).2.2.2.2.2.1, (x94.getD x96.toNat D50).2.2.2.2.2.2))))))).getD x96.toNat D50).2.2.1, (((x94.set x96.toNat ((x94.getD x96.toNat D50).1, ((x94.getD x96.toNat D50).2.1, ((x94.getD x96.toNat D50).2.2.1, ((x94.getD x96.toNat D50).2.2.2.1, ((a1.getD ((x94.getD x96.toNat D50).2.2.2.2.1).toNat (Ty.dflt (.int .i64))), ((x94.getD x96.toNat D50).2.2.2.2.2.1, (x94.getD x96.toNat D50).2.2.2.2.2.2))))))).getD x96.toNat D50).2.2.2.1, (((x94.set x96.toNat ((x94.getD x96.toNat D50).1, ((x94.getD x96.toNat D50).2.1, ((x94.getD x96.toNat D50).2.2.1, ((x94.getD x96.toNat D50).2.2.2.1, ((a1.getD ((x94.getD x96.toNat D50).2.2.2.2.1).toNat (Ty.dflt (.int .i64))), ((x94.getD x96.toNat D50).2.2.2.2.2.1, (x94.getD x96.toNat D50).2.2.2.2.2.2))))))).getD x96.toNat D50).2.2.2.2.1, (false, ((x94.set x96.toNat ((x94.getD x96.toNat D50).1, ((x94.getD x96.toNat D50).2.1, ((x94.getD x96.toNat D50).2.2.1, ((x94.getD x96.toNat D50).2.2.2.1, ((a1.getD ((x94.getD x96.toNat D50).2.2.2.2.1).toNat (Ty.dflt (.int .i64))), ((x94.getD x96.toNat D50).2.2.2.2.2.1, (x94.getD x96.toNat D50).2.2.2.2.2.2))))))).getD x96.toNat D50).2.2.2.2.2.2))))))) .dp]⟩ (pu 3 (an g137 (tn 0))) ?_
     rw [show ((x94.set x96.toNat ((x94.getD x96.toNat D50).1, ((x94.getD x96.toNat D50).2.1, ((x94.getD x96.toNat D50).2.2.1, ((x94.getD x96.toNat D50).2.2.2.1, ((a1.getD ((x94.getD x96.toNat D50).2.2.2.2.1).toNat (Ty.dflt (.int .i64))), ((x94.getD x96.toNat D50).2.2.2.2.2.1, (x94.getD x96.toNat D50).2.2.2.2.2.2))))))).set x96.toNat (((x94.set x96.toNat ((x94.getD x96.toNat D50).1, ((x94.getD x96.toNat D50).2.1, ((x94.getD x96.toNat D50).2.2.1, ((x94.getD x96.toNat D50).2.2.2.1, ((a1.getD ((x94.getD x96.toNat D50).2.2.2.2.1).toNat (Ty.dflt (.int .i64))), ((x94.getD x96.toNat D50).2.2.2.2.2.1, (x94.getD x96.toNat D50).2.2.2.2.2.2))))))).getD x96.toNat D50).1, (((x94.set x96.toNat ((x94.getD x96.toNat D50).1, ((x94.getD x96.toNat D50).2.1, ((x94.getD x96.toNat D50).2.2.1, ((x94.getD x96.toNat D50).2.2.2.1, ((a1.getD ((x94.getD x96.toNat D50).2.2.2.2.1).toNat (Ty.dflt (.int .i64))), ((x94.getD x96.toNat D50).2.2.2.2.2.1, (x94.getD x96.toNat D50).2.2.2.2.2.2))))))).getD x96.toNat D50).2.1, (((x94.set x96.toNat ((x94.getD x96.toNat D50).1, ((x94.getD x96.toNat D50).2.1, ((x94.getD x96.toNat D50).2.2.1, ((x94.getD x96.toNat D50).2.2.2.1, ((a1.getD ((x94.getD x96.toNat D50).2.2.2.2.1).toNat (Ty.dflt (.int .i64))), ((x94.getD x96.toNat D50).2.2.2.2.2.1, (x94.getD x96.toNat D50).2.2.2.2.2.2))))))).getD x96.toNat D50).2.2.1, (((x94.set x96.toNat ((x94.getD x96.toNat D50).1, ((x94.getD x96.toNat D50).2.1, ((x94.getD x96.toNat D50).2.2.1, ((x94.getD x96.toNat D50).2.2.2.1, ((a1.getD ((x94.getD x96.toNat D50).2.2.2.2.1).toNat (Ty.dflt (.int .i64))), ((x94.getD x96.toNat D50).2.2.2.2.2.1, (x94.getD x96.toNat D50).2.2.2.2.2.2))))))).getD x96.toNat D50).2.2.2.1, (((x94.set x96.toNat ((x94.getD x96.toNat D50).1, ((x94.getD x96.toNat D50).2.1, ((x94.getD x96.toNat D50).2.2.1, ((x94.getD x96.toNat D50).2.2.2.1, ((a1.getD ((x94.getD x96.toNat D50).2.2.2.2.1).toNat (Ty.dflt (.int .i64))), ((x94.getD x96.toNat D50).2.2.2.2.2.1, (x94.getD x96.toNat D50).2.2.2.2.2.2))))))).getD x96.toNat D50).2.2.2.2.1, (false, ((x94.set x96.toNat ((x94.getD x96.toNat D50).1, ((x94.getD x96.toNat D50).2.1, ((x94.getD x96.toNat D50).2.2.1, ((x94.getD x96.toNat D50).2.2.2.1, ((a1.getD ((x94.getD x96.toNat D50).2.2.2.2.1).toNat (Ty.dflt (.int .i64))), ((x94.getD x96.toNat D50).2.2.2.2.2.1, (x94.getD x96.toNat D50).2.2.2.2.2.2))))))).getD x96.toNat D50).2.2.2.2.2.2))))))) = (x94.set x96.toNat ((x94.getD x96.toNat D50).1, ((x94.getD x96.toNat D50).2.1, ((x94.getD x96.toNat D50).2.2.1, ((x94.getD x96.toNat D50).2.2.2.1, ((a1.getD ((x94.getD x96.toNat D50).2.2.2.2.1).toNat (Ty.dflt (.int .i64))), (false, (x94.getD x96.toNat D50).2.2.2.2.2.2))))))) from set_upd x94 x96.toNat ((x94.getD x96.toNat D50).1, ((x94.getD x96.toNat D50).2.1, ((x94.getD x96.toNat D50).2.2.1, ((x94.getD x96.toNat D50).2.2.2.1, ((a1.getD ((x94.getD x96.toNat D50).2.2.2.2.1).toNat (Ty.dflt (.int .i64))), ((x94.getD x96.toNat D50).2.2.2.2.2.1, (x94.getD x96.toNat D50).2.2.2.2.2.2)))))) D50 (fun z => (z.1, (z.2.1, (z.2.2.1, (z.2.2.2.1, (z.2.2.2.2.1, (false, z.2.2.2.2.2.2))))))) (by first | (simp; done) | simpa using g137)]
     refine sN K [1, 6, 15, 16] [0] ⟨[(1, Vv (.sl (.int .i64)) a1), (6, hh 0), (15, I x95), (16, I x96)], [ar 0 Y50 (x94.set x96.toNat ((x94.getD x96.toNat D50).1, ((x94.getD x96.toNat D50).2.1, ((x94.getD x96.toNat D50).2.2.1, ((x94.getD x96.toNat D50).2.2.2.1, ((a1.getD ((x94.getD x96.toNat D50).2.2.2.2.1).toNat (Ty.dflt (.int .i64))), (false, (x94.getD x96.toNat D50).2.2.2.2.2.2))))))) .dp]⟩ (tn 0) ?_
     exact arv [.ren [1, 6, 15, 16] [0]] ⟨(x94.set x96.toNat ((x94.getD x96.toNat D50).1, ((x94.getD x96.toNat D50).2.1, ((x94.getD x96.toNat D50).2.2.1, ((x94.getD x96.toNat D50).2.2.2.1, ((a1.getD ((x94.getD x96.toNat D50).2.2.2.2.1).toNat (Ty.dflt (.int .i64))), (false, (x94.getD x96.toNat D50).2.2.2.2.2.2))))))), rfl, h⟩
    rintro s ⟨x127, rfl, h⟩
    unfold F12_j1 at h
    refine nE K (tn 2) ?_
    exact aro [.ren [1, 6, 15, 16] [0]] ⟨x127, x95, (wr (x96 + (1 : Int))), rfl, h⟩
   refine VW.exit ?_
   exact arv [.ren [6] [0]] ⟨x94, rfl, h⟩
 rintro s ⟨x69, rfl, h⟩
 unfold F12_j0 at h
 refine sq <| sq <| VW.region <| nG K 1 (tn 1) ?_
 obtain⟨y71,hy,h⟩:=aS h
 refine clc true [.t (.sl Y50)] [] (some 49) K (ok44 N _ hy) <| nN K (tn 1) ?_
 refine cnd h ?_ ?_<;>intro h
 ·refine nR K (tn 2) ?_
  cases h; exact VW.ret (rt [none])
 refine VW.skip <| nR K (tn 3) ?_
 cases h; exact VW.ret (rt [some 0])
def F46 (N : Nat) (a0 : (List Int)) : Option ((List Int)) :=
  gd (a0.length < 4611686018427387904) (some (a0.mergeSort fun x y => decide (x ≤ y)))
theorem ok46 N a0 {r} (h : F46 N a0 = some r) : ConM prog 46 [some (.arr 0 (.int .i64) a0 .dp)] [.lf (.hd 0 0 none)] [] [some (.arr 0 (.int .i64) r .dp)] := by
 obtain ⟨g, h⟩ := gd_some h
 cases h
 exact con_sort (enters_of func46 rfl (by decide)) g (fun p c w => Go.Proofs.Tryz.slices_Sort_int_none p c w) (fun b c w h1 h2 => Go.Proofs.Tryz.slices_Sort_int b 0 c a0 w h1 h2 g)
def F47 (N : Nat) (a0 : (List Int)) : Option ((List Int)) :=
  gd (a0.length ≤ 9223372036854775807) (some (Lib.compact a0))
theorem ok47 N a0 {r} (h : F47 N a0 = some r) : ConM prog 47 [some (.arr 0 (.int .i64) a0 .dp)] [.lf (.hd 0 0 none)] [.lf (.own (.int .i64) r .dp)] [none] := by
 obtain ⟨g, h⟩ := gd_some h
 cases h
 exact con_compact (enters_of func47 rfl (by decide)) g (fun p c w => Go.Proofs.Tryz.slices_Compact_int_empty p c w) (fun b c w h1 h2 => Go.Proofs.Tryz.slices_Compact_int b 0 c a0 w h1 g h2)
def F13_j0 (N : Nat) (x26 : (List Int)) : Option ((List Int)) :=
  andO (F46 N x26) fun y27 => andO (F47 N y27) fun y28 => some y28
def F13_j1 (N : Nat) (nx46 : (List Int) → Int → Int → Option ((List Int))) (x38 : Int) (x39 : Int) (x49 : (List Int)) : Option ((List Int)) :=
  nx46 x49 x38 (IntKind.i64.wrap (x39 + (1 : Int)))
def F13_l0_b (N : Nat) (a0 : (List Z50)) (nx46 : (List Int) → Int → Int → Option ((List Int))) (x37 : (List Int)) (x38 : Int) (x39 : Int) : Option ((List Int)) :=
  cond (decide (x39 < x38)) (gd (InR x39 a0.length) (cond ((a0.getD x39.toNat (Ty.dflt Y50)).2.2.2.2.2.1) (gd (x37.length + ([(a0.getD x39.toNat (Ty.dflt Y50)).2.2.2.2.1]).length ≤ lim (.int .i64)) (F13_j1 N nx46 x38 x39 (x37 ++ ([(a0.getD x39.toNat (Ty.dflt Y50)).2.2.2.2.1])))) (F13_j1 N nx46 x38 x39 x37))) (F13_j0 N x37)
def F13_l0 (N : Nat) (a0 : (List Z50)) := loopF (F13_l0_b N a0) (fun _ _ _ => none)
theorem F13_l0_s N a0 {k} (hk : 0 < k) x37 x38 x39 : F13_l0 N a0 k x37 x38 x39 = F13_l0_b N a0 (F13_l0 N a0 (k - 1)) x37 x38 x39 := by cases k;cases hk;rfl
def F13 (N : Nat) (a0 : (List Z50)) : Option ((List Int)) :=
  andO (F44 N a0) fun y2 => cond (!y2) (some ([])) (F13_l0 N a0 N ([]) (a0.length : Int) (0 : Int))
theorem ok13 N a0 {r} (h : F13 N a0 = some r) : Con prog 13 [Vv (.sl Y50) a0] [.lf (.own (.int .i64) r .dp)] := by
 refine ctr [.lf (.own (.int .i64) .dp)] K func13 rfl fun w0 E0 ht => ?_
 unfold F13 at h
 show VW _ _ _ _ _ (retQ _ _ _ _) _
 refine nR K (tn 1) <| sq <| sq <| VW.region <| nG K 1 (tn 1) ?_
 obtain⟨y2,hy,h⟩:=aS h
 refine clc false [.t (.sl Y50)] [] (some 7) K (ok44 N _ hy) <| nN K (tn 1) ?_
 refine cnd h ?_ ?_<;>intro h
 ·refine nR K (tn 1) ?_
  cases h; exact VW.ret (rt [none])
 refine VW.skip <| nR K (tn 1) ?_
 refine VW.join (fun s => ∃ x26, s = ⟨[(3, hh 0)], [ar 0 (.int .i64) x26 .dp]⟩ ∧ F13_j0 N x26 = some r) ?_ ?_
 ·refine nR K (tn 3) <| VW.block <| lop (fun k s => ∃ x37 x38 x39, s = ⟨[(3, hh 0), (9, Vv (.sl Y50) a0), (10, I x38), (11, I x39)], [ar 0 (.int .i64) x37 .dp]⟩ ∧ F13_l0 N a0 k x37 x38 x39 = some r) N [.nilS 3 (.int .i64) .dp, .ren [3, 9, 10, 11] [0]] ⟨[], (a0.length : Int), (0 : Int), rfl, h⟩ ?_
  rintro k46 s ⟨x37, x38, x39, rfl, h⟩
  cases k46 with
  | zero => cases show none = some r from h
  | succ k46 =>
   replace h : F13_l0_b N a0 (F13_l0 N a0 k46) x37 x38 x39 = some r := h
   unfold F13_l0_b at h
   refine nR K (tn 1) <| sq ?_
   refine cnd h ?_ ?_<;>intro h
   ·refine VW.skip ?_
    refine VW.join (fun s => ∃ x49, s = ⟨[(3, hh 0), (9, Vv (.sl Y50) a0), (10, I x38), (11, I x39)], [ar 0 (.int .i64) x49 .dp]⟩ ∧ F13_j1 N (F13_l0 N a0 k46) x38 x39 x49 = some r) ?_ ?_
    ·refine VW.block ?_
     obtain⟨g51,h⟩:=gS h
     refine nR K (an g51 (tn 3)) <| nR K (tn 2) ?_
     refine cnd h ?_ ?_<;>intro h
     ·obtain⟨g52,h⟩:=gS h
      refine nE K (pu 4 (an g52 (tn 1))) ?_
      exact arv [.ren [3, 9, 10, 11] [0]] ⟨(x37 ++ ([(a0.getD x39.toNat D50).2.2.2.2.1])), rfl, h⟩
     refine VW.skip ?_
     exact arv [.ren [3, 9, 10, 11] [0]] ⟨x37, rfl, h⟩
    rintro s ⟨x49, rfl, h⟩
    unfold F13_j1 at h
    refine nE K (tn 2) ?_
    exact aro [.ren [3, 9, 10, 11] [0]] ⟨x49, x38, (wr (x39 + (1 : Int))), rfl, h⟩
   refine VW.exit ?_
   exact arv [.ren [3] [0]] ⟨x37, rfl, h⟩
 rintro s ⟨x26, rfl, h⟩
 unfold F13_j0 at h
 refine sq <| VW.region <| nG K 1 (tn 1) ?_
 obtain⟨y27,hy,h⟩:=aS h
 refine VO.callM [0] [.t (.sl (.int .i64))] (d := some 24) (by kernel_rfl) (by kernel_rfl) (ok46 N _ hy) (by kernel_rfl) <| nN K (tn 0) <| sq <| VW.region <| nG K 1 (tn 1) ?_
 obtain⟨y28,hy,h⟩:=aS h
 refine VO.callM [0] [.t (.sl (.int .i64))] (d := some 26) (by kernel_rfl) (by kernel_rfl) (ok47 N _ hy) (by kernel_rfl) <| nN K (tn 1) ?_
 cases h; exact VW.ret (rt [some 1])
def F14_j0 (N : Nat) (x32 : (List Int)) : Option ((List Int)) :=
  some x32
def F14_j1 (N : Nat) (nx54 : (List Int) → Int → Int → Option ((List Int))) (x44 : Int) (x45 : Int) (x58 : (List Int)) : Option ((List Int)) :=
  nx54 x58 x44 (IntKind.i64.wrap (x45 + (1 : Int)))
def F14_l0_b (N : Nat) (a0 : (List Z50)) (nx54 : (List Int) → Int → Int → Option ((List Int))) (x43 : (List Int)) (x44 : Int) (x45 : Int) : Option ((List Int)) :=
  cond (decide (x45 < x44)) (gd (InR x45 a0.length) (andO (F41 N (a0.getD x45.toNat (Ty.dflt Y50))) fun y61 => cond y61 (cond (!((a0.getD x45.toNat (Ty.dflt Y50)).2.2.2.2.2.1)) (gd (x43.length + ([(a0.getD x45.toNat (Ty.dflt Y50)).2.2.2.2.1]).length ≤ lim (.int .i64)) (F14_j1 N nx54 x44 x45 (x43 ++ ([(a0.getD x45.toNat (Ty.dflt Y50)).2.2.2.2.1])))) (F14_j1 N nx54 x44 x45 x43)) (F14_j1 N nx54 x44 x45 x43))) (F14_j0 N x43)
def F14_l0 (N : Nat) (a0 : (List Z50)) := loopF (F14_l0_b N a0) (fun _ _ _ => none)
theorem F14_l0_s N a0 {k} (hk : 0 < k) x43 x44 x45 : F14_l0 N a0 k x43 x44 x45 = F14_l0_b N a0 (F14_l0 N a0 (k - 1)) x43 x44 x45 := by cases k;cases hk;rfl
def F14 (N : Nat) (a0 : (List Z50)) : Option ((List Int)) :=
  andO (F44 N a0) fun y2 => cond (!y2) (some ([])) (F14_l0 N a0 N ([]) (a0.length : Int) (0 : Int))
theorem ok14 N a0 {r} (h : F14 N a0 = some r) : Con prog 14 [Vv (.sl Y50) a0] [.lf (.own (.int .i64) r .dp)] := by
 refine ctr [.lf (.own (.int .i64) .dp)] K func14 rfl fun w0 E0 ht => ?_
 unfold F14 at h
 show VW _ _ _ _ _ (retQ _ _ _ _) _
 refine nR K (tn 1) <| sq <| sq <| VW.region <| nG K 1 (tn 1) ?_
 obtain⟨y2,hy,h⟩:=aS h
 refine clc false [.t (.sl Y50)] [] (some 7) K (ok44 N _ hy) <| nN K (tn 1) ?_
 refine cnd h ?_ ?_<;>intro h
 ·refine nR K (tn 1) ?_
  cases h; exact VW.ret (rt [none])
 refine VW.skip <| nR K (tn 1) ?_
 refine VW.join (fun s => ∃ x32, s = ⟨[(3, hh 0)], [ar 0 (.int .i64) x32 .dp]⟩ ∧ F14_j0 N x32 = some r) ?_ ?_
 ·refine nR K (tn 3) <| VW.block <| lop (fun k s => ∃ x43 x44 x45, s = ⟨[(3, hh 0), (9, Vv (.sl Y50) a0), (10, I x44), (11, I x45)], [ar 0 (.int .i64) x43 .dp]⟩ ∧ F14_l0 N a0 k x43 x44 x45 = some r) N [.nilS 3 (.int .i64) .dp, .ren [3, 9, 10, 11] [0]] ⟨[], (a0.length : Int), (0 : Int), rfl, h⟩ ?_
  rintro k54 s ⟨x43, x44, x45, rfl, h⟩
  cases k54 with
  | zero => cases show none = some r from h
  | succ k54 =>
   replace h : F14_l0_b N a0 (F14_l0 N a0 k54) x43 x44 x45 = some r := h
   unfold F14_l0_b at h
   refine nR K (tn 1) <| sq ?_
   refine cnd h ?_ ?_<;>intro h
   ·refine VW.skip ?_
    refine VW.join (fun s => ∃ x58, s = ⟨[(3, hh 0), (9, Vv (.sl Y50) a0), (10, I x44), (11, I x45)], [ar 0 (.int .i64) x58 .dp]⟩ ∧ F14_j1 N (F14_l0 N a0 k54) x44 x45 x58 = some r) ?_ ?_
    ·refine VW.block ?_
     obtain⟨g60,h⟩:=gS h
     refine nR K (an g60 (tn 3)) <| sq <| VW.region <| nG K 1 (tn 1) ?_
     obtain⟨y61,hy,h⟩:=aS h
     refine clc false [.t Y50] [] (some 16) K (ok41 N _ hy) <| nG K 1 (tn 1) ?_
     refine spC 17 h ?_ ?_<;>intro h
     ·refine nN K (tn 4) ?_
      refine cnd h ?_ ?_<;>intro h
      ·obtain⟨g62,h⟩:=gS h
       refine nE K (pu 4 (an g62 (tn 1))) ?_
       exact arv [.ren [3, 9, 10, 11] [0]] ⟨(x43 ++ ([(a0.getD x45.toNat D50).2.2.2.2.1])), rfl, h⟩
      refine VW.skip ?_
      exact arv [.ren [3, 9, 10, 11] [0]] ⟨x43, rfl, h⟩
     refine nN K (tn 4) ?_
     refine VW.cond (b := false) (by kernel_rfl) (fun h' => nomatch h') (fun _ => ?_)
     refine VW.skip ?_
     exact arv [.ren [3, 9, 10, 11] [0]] ⟨x43, rfl, h⟩
    rintro s ⟨x58, rfl, h⟩
    unfold F14_j1 at h
    refine nE K (tn 2) ?_
    exact aro [.ren [3, 9, 10, 11] [0]] ⟨x58, x44, (wr (x45 + (1 : Int))), rfl, h⟩
   refine VW.exit ?_
   exact arv [.ren [3] [0]] ⟨x43, rfl, h⟩
 rintro s ⟨x32, rfl, h⟩
 unfold F14_j0 at h
 refine nR K (tn 2) ?_
 cases h; exact VW.ret (rt [some 0])
theorem ok87_c1 N a0 (g1 : FuncId) e1_0 (p1 : Z50 → Option (Bool)) (hp1 : ∀ (z0 : Z50) (r : Bool), p1 z0 = some r → Con prog g1 [.agg (lv Y50 z0), .lf (.fp (.int .i64) e1_0 0)] [.lf (.v .bool r)]) {r} (h : F87 N a0 p1 = some r) : Con prog 87 [Vv (.sl Y50) a0, .clo g1 [.lf (.fp (.int .i64) e1_0 0)]] [.lf (.v (.int .i64) r)] := by
 refine ctr [.lf (.v (.int .i64))] K func87 rfl fun w0 E0 ht => ?_
 unfold F87 at h
 show VW _ _ _ _ _ (retQ _ _ _ _) _
 refine nR K (tn 1) ?_
 refine VW.join (fun s => s = ⟨[], []⟩ ∧ F87_j0 N = some r) ?_ ?_
 ·refine nR K (tn 3) <| VW.block <| lop (fun k s => ∃ x23 x24, s = ⟨[(0, Vv (.sl Y50) a0), (1, .clo g1 [.lf (.fp (.int .i64) e1_0 0)]), (7, I x23), (8, I x24)], []⟩ ∧ F87_l0 N a0 p1 k x23 x24 = some r) N [.ren [0, 1, 7, 8] []] ⟨(a0.length : Int), (0 : Int), rfl, h⟩ ?_
  rintro k29 s ⟨x23, x24, rfl, h⟩
  cases k29 with
  | zero => cases show none = some r from h
  | succ k29 =>
   replace h : F87_l0_b N a0 p1 (F87_l0 N a0 p1 k29) x23 x24 = some r := h
   unfold F87_l0_b at h
   refine nR K (tn 1) <| sq ?_
   refine cnd h ?_ ?_<;>intro h
   ·refine VW.skip <| sq <| VW.block <| nR K (tn 2) <| sq <| VW.region ?_
    obtain⟨g32,h⟩:=gS h
    refine nG K 5 (pu 3 (an g32 (tn 1))) ?_
    obtain⟨y33,hy,h⟩:=aS h
    refine clc false [.t Y50] [.k] (some 16) K (hp1 _ _ hy) <| nN K (tn 0) ?_
    refine cnd h ?_ ?_<;>intro h
    ·refine nR K (tn 2) ?_
     cases h; exact VW.ret (rt [])
    refine VW.skip <| nE K (tn 2) ?_
    exact aro [.ren [0, 1, 7, 8] []] ⟨x23, (wr (x24 + (1 : Int))), rfl, h⟩
   refine VW.exit ?_
   exact arv [.ren [] []] ⟨rfl, h⟩
 rintro s ⟨rfl, h⟩
 unfold F87_j0 at h
 refine nR K (tn 1) ?_
 cases h; exact VW.ret (rt [])
theorem ok48_c1 N a0 (g1 : FuncId) e1_0 (p1 : Z50 → Option (Bool)) (hp1 : ∀ (z0 : Z50) (r : Bool), p1 z0 = some r → Con prog g1 [.agg (lv Y50 z0), .lf (.fp (.int .i64) e1_0 0)] [.lf (.v .bool r)]) {r} (h : F48 N a0 p1 = some r) : Con prog 48 [Vv (.sl Y50) a0, .clo g1 [.lf (.fp (.int .i64) e1_0 0)]] [.lf (.v .bool r)] := by
 refine ctr [.lf (.v .bool)] K func48 rfl fun w0 E0 ht => ?_
 unfold F48 at h
 show VW _ _ _ _ _ (retQ _ _ _ _) _
 refine nR K (tn 1) <| sq <| VW.region <| nG K 2 (tn 2) ?_
 obtain⟨y1,hy,h⟩:=aS h
 refine clc false [.t (.sl Y50), .clo [.k]] [] (some 7) K (ok87_c1 N _ g1 e1_0 p1 hp1 hy) <| nN K (tn 2) ?_
 cases h; exact VW.ret (rt [])
def F49 (N : Nat) (a0 : Z50) (c0 : Int) : Option (Bool) :=
  cond a0.2.2.2.2.2.1 (some (decide (a0.2.2.2.2.1 ≥ c0))) (some false)
theorem ok49 N a0 c0 {r} (h : F49 N a0 c0 = some r) : Con prog 49 [.agg (lv Y50 a0), .lf (.fp (.int .i64) c0 0)] [.lf (.v .bool r)] := by
 refine ctr [.lf (.v .bool)] K func49 rfl fun w0 E0 ht => ?_
 unfold F49 at h
 show VW _ _ _ _ _ (retQ _ _ _ _) _
 refine nR K (tn 2) <| sq <| VW.region <| nG K 3 (tn 3) ?_
 refine spC 6 h ?_ ?_<;>intro h
 ·refine nN K (tn 6) ?_
  cases h; exact VW.ret (rt [])
 refine nN K (tn 6) ?_
 cases h; exact VW.ret (rt [])
def F15 (N : Nat) (a0 : (List Z50)) (a1 : Int) : Option (Bool) :=
  andO (F44 N a0) fun y1 => cond y1 (andO (F48 N a0 (fun z0 => F49 N z0 a1)) fun y2 => some (!y2)) (some false)
theorem ok15 N a0 a1 {r} (h : F15 N a0 a1 = some r) : Con prog 15 [Vv (.sl Y50) a0, I a1] [.lf (.v .bool r)] := by
 refine ctr [.lf (.v .bool)] K func15 rfl fun w0 E0 ht => ?_
 unfold F15 at h
 show VW _ _ _ _ _ (retQ _ _ _ _) _
 refine nR K (tn 2) <| sq <| VW.region <| nG K 1 (tn 1) ?_
 obtain⟨y1,hy,h⟩:=aS h
 refine clc false [.t (.sl Y50)] [] (some 6) K (ok44 N _ hy) <| nG K 1 (tn 1) ?_
 refine spC 7 h ?_ ?_<;>intro h
 ·refine nG K 2 (tn 2) <| VO.on (j := 2) (want := true) (d := 7) (b := true) rfl rfl rfl (by kernel_rfl) rfl ?_
  obtain⟨y2,hy,h⟩:=aS h
  refine VO.ghl [.frzB 0 (.int .i64)] <| clc false [.t (.sl Y50), .clo [.k]] [] (some 10) K (ok48_c1 N _ 49 a1 (fun z0 => F49 N z0 a1) (fun z0 _ hz => ok49 N z0 _ hz) hy) <| nN K (tn 3) ?_
  cases h; exact VW.ret (rt [])
 refine nN K (tn 6) ?_
 cases h; exact VW.ret (rt [])
def F16 (N : Nat) (a0 : (List Z50)) (a1 : (List Z50)) : Option (Bool) :=
  andO (F8 N a0) fun y1 => andO (F8 N a1) fun y2 => cond y1.2.2 (cond y2.2.2 (andO (F9 N y1.1 y2.1) fun y3 => some y3) (some false)) (some false)
theorem ok16 N a0 a1 {r} (h : F16 N a0 a1 = some r) : Con prog 16 [Vv (.sl Y50) a0, Vv (.sl Y50) a1] [.lf (.v .bool r)] := by
 refine ctr [.lf (.v .bool)] K func16 rfl fun w0 E0 ht => ?_
 unfold F16 at h
 show VW _ _ _ _ _ (retQ _ _ _ _) _
 refine nR K (tn 1) <| sq <| VW.region <| nG K 1 (tn 1) ?_
 obtain⟨y1,hy,h⟩:=aS h
 refine clc false [.t (.sl Y50)] [] (some 13) K (ok8 N _ hy) <| nN K (tn 7) <| sq <| VW.region <| nG K 1 (tn 1) ?_
 obtain⟨y2,hy,h⟩:=aS h
 refine clc false [.t (.sl Y50)] [] (some 19) K (ok8 N _ hy) <| nN K (tn 7) <| sq <| VW.region <| nG K 2 (tn 2) ?_
 refine spC 24 h ?_ ?_<;>intro h
 ·refine nG K 3 (tn 3) ?_
  refine spC 27 h ?_ ?_<;>intro h
  ·refine nG K 2 (tn 2) <| VO.on (j := 4) (want := true) (d := 27) (b := true) rfl rfl rfl (by kernel_rfl) rfl ?_
   obtain⟨y3,hy,h⟩:=aS h
   refine clc true [.t (.sl Y50), .t (.sl Y50)] [] (some 30) K (ok9 N _ _ hy) <| nN K (tn 2) ?_
   cases h; exact VW.ret (rt [])
  refine nN K (tn 5) ?_
  cases h; exact VW.ret (rt [])
 refine nN K (tn 8) ?_
 cases h; exact VW.ret (rt [])
def F88_j0 (N : Nat) (x10 : Int) (x11 : (List Int)) : Option ((List Int)) :=
  gd (x11.length + ([(IntKind.u8.wrap x10)]).length ≤ lim (.int .u8)) (some (x11 ++ ([(IntKind.u8.wrap x10)])))
def F88_l0_b (N : Nat) (nx18 : Int → (List Int) → Option ((List Int))) (x15 : Int) (x16 : (List Int)) : Option ((List Int)) :=
  cond (decide (x15 ≥ (128 : Int))) (gd (x16.length + ([(IntKind.u8.wrap (IntKind.i64.wrap ((Int.tmod x15 (128 : Int)) + (128 : Int))))]).length ≤ lim (.int .u8)) (nx18 (IntKind.i64.wrap (Int.tdiv x15 (128 : Int))) (x16 ++ ([(IntKind.u8.wrap (IntKind.i64.wrap ((Int.tmod x15 (128 : Int)) + (128 : Int))))])))) (F88_j0 N x15 x16)
def F88_l0 (N : Nat) := loopF (F88_l0_b N) (fun _ _ => none)
theorem F88_l0_s N {k} (hk : 0 < k) x15 x16 : F88_l0 N k x15 x16 = F88_l0_b N (F88_l0 N (k - 1)) x15 x16 := by cases k;cases hk;rfl
def F88_j1 (N : Nat) (x3 : Int) : Option ((List Int)) :=
  F88_l0 N N x3 ([])
def F88 (N : Nat) (a0 : Int) : Option ((List Int)) :=
  andO (F133 N a0) fun y2 => cond (!y2) (some ([])) (cond (decide (a0 < (0 : Int))) (F88_j1 N (IntKind.i64.wrap ((IntKind.i64.wrap ((-2 : Int) * a0)) - (1 : Int)))) (F88_j1 N (IntKind.i64.wrap ((2 : Int) * a0))))
theorem ok88 N a0 {r} (h : F88 N a0 = some r) : Con prog 88 [I a0] [.lf (.own (.int .u8) r .dp)] := by
 refine ctr [.lf (.own (.int .u8) .dp)] K func88 rfl fun w0 E0 ht => ?_
 unfold F88 at h
 show VW _ _ _ _ _ (retQ _ _ _ _) _
 refine nR K (tn 1) <| sq <| sq <| VW.region <| nG K 1 (tn 1) ?_
 obtain⟨y2,hy,h⟩:=aS h
 refine clc false [.t (.int .i64)] [] (some 6) K (ok133 N _ hy) <| nN K (tn 1) ?_
 refine cnd h ?_ ?_<;>intro h
 ·refine nR K (tn 1) ?_
  cases h; exact VW.ret (rt [none])
 refine VW.skip <| nR K (tn 3) ?_
 refine VW.join (fun s => ∃ x3, s = ⟨[(3, I x3)], []⟩ ∧ F88_j1 N x3 = some r) ?_ ?_
 ·refine nR K (tn 2) ?_
  refine cnd h ?_ ?_<;>intro h
  ·refine nE K (tn 4) ?_
   exact arv [.ren [3] []] ⟨(wr ((wr ((-2 : Int) * a0)) - (1 : Int))), rfl, h⟩
  refine VW.skip ?_
  exact arv [.ren [3] []] ⟨(wr ((2 : Int) * a0)), rfl, h⟩
 rintro s ⟨x3, rfl, h⟩
 unfold F88_j1 at h
 refine nR K (tn 1) ?_
 refine VW.join (fun s => ∃ x10 x11, s = ⟨[(3, I x10), (4, hh 0)], [ar 0 (.int .u8) x11 .dp]⟩ ∧ F88_j0 N x10 x11 = some r) ?_ ?_
 ·refine VW.block <| lop (fun k s => ∃ x15 x16, s = ⟨[(3, I x15), (4, hh 0)], [ar 0 (.int .u8) x16 .dp]⟩ ∧ F88_l0 N k x15 x16 = some r) N [.nilS 4 (.int .u8) .dp, .ren [3, 4] [0]] ⟨x3, [], rfl, h⟩ ?_
  rintro k18 s ⟨x15, x16, rfl, h⟩
  cases k18 with
  | zero => cases show none = some r from h
  | succ k18 =>
   replace h : F88_l0_b N (F88_l0 N k18) x15 x16 = some r := h
   unfold F88_l0_b at h
   refine sq <| nR K (tn 2) ?_
   refine cnd h ?_ ?_<;>intro h
   ·refine VW.skip <| VW.block ?_
    obtain⟨g19,h⟩:=gS h
    refine nR K (pu 2 (an (show ((128 : Int) ≠ 0) from by decide) (pu 3 (an g19 (tn 1))))) <| nE K (pu 1 (an (show ((128 : Int) ≠ 0) from by decide) (tn 1))) ?_
    exact aro [.ren [3, 4] [0]] ⟨(wr (Int.tdiv x15 (128 : Int))), (x16 ++ ([(IntKind.u8.wrap (wr ((Int.tmod x15 (128 : Int)) + (128 : Int))))])), rfl, h⟩
   refine VW.exit ?_
   exact arv [.ren [3, 4] [0]] ⟨x15, x16, rfl, h⟩
 rintro s ⟨x10, x11, rfl, h⟩
 unfold F88_j0 at h
 obtain⟨g12,h⟩:=gS h
 refine nR K (pu 4 (an g12 (tn 1))) ?_
 cases h; exact VW.ret (rt [some 0])
def F147 (N : Nat) (a0 : ByteArray) : Option ((List Int)) :=
  andO (F127 N a0) fun y2 => cond (!y2) (some ([])) (andO (F88 N (a0.size : Int)) fun y3 => gd (y3.length + a0.size ≤ lim (.int .u8)) (some (y3 ++ (bytesOf a0))))
theorem ok147 N a0 {r} (h : F147 N a0 = some r) : Con prog 147 [S a0] [.lf (.own (.int .u8) r .dp)] := by
 refine ctr [.lf (.own (.int .u8) .dp)] K func147 rfl fun w0 E0 ht => ?_
 unfold F147 at h
 show VW _ _ _ _ _ (retQ _ _ _ _) _
 refine nR K (tn 1) <| sq <| sq <| VW.region <| nG K 1 (tn 1) ?_
 obtain⟨y2,hy,h⟩:=aS h
 refine clc false [.t .str] [] (some 4) K (ok127 N _ hy) <| nN K (tn 1) ?_
 refine cnd h ?_ ?_<;>intro h
 ·refine nR K (tn 1) ?_
  cases h; exact VW.ret (rt [none])
 refine VW.skip <| sq <| VW.region <| nG K 2 (tn 2) ?_
 obtain⟨y3,hy,h⟩:=aS h
 refine clc false [.t (.int .i64)] [] (some 8) K (ok88 N _ hy) <| nG K 1 (tn 1) ?_
 obtain⟨g4,h⟩:=gS h
 refine VO.appS (d := 10) (φ := y3.length + a0.size ≤ lim (.int .u8)) (v := .lf (.hd 0 1 none)) (H' := [ar 1 (.int .u8) (y3 ++ (bytesOf a0)) .dp]) K (by kernel_rfl) g4 <| nN K (tn 1) ?_
 cases h; exact VW.ret (rt [some 0])
def F148_j0 (N : Nat) (x24 : (List Int)) : Option ((List Int)) :=
  some x24
def F148_l0_b (N : Nat) (a0 : (List Int)) (nx42 : (List Int) → Int → Int → Option ((List Int))) (x33 : (List Int)) (x34 : Int) (x35 : Int) : Option ((List Int)) :=
  cond (decide (x35 < x34)) (gd (InR x35 a0.length) (andO (F88 N (a0.getD x35.toNat (Ty.dflt (.int .i64)))) fun y47 => gd (x33.length + y47.length ≤ lim (.int .u8)) (nx42 (x33 ++ y47) x34 (IntKind.i64.wrap (x35 + (1 : Int)))))) (F148_j0 N x33)
def F148_l0 (N : Nat) (a0 : (List Int)) := loopF (F148_l0_b N a0) (fun _ _ _ => none)
theorem F148_l0_s N a0 {k} (hk : 0 < k) x33 x34 x35 : F148_l0 N a0 k x33 x34 x35 = F148_l0_b N a0 (F148_l0 N a0 (k - 1)) x33 x34 x35 := by cases k;cases hk;rfl
def F148 (N : Nat) (a0 : (List Int)) : Option ((List Int)) :=
  F148_l0 N a0 N ([]) (a0.length : Int) (0 : Int)
theorem ok148 N a0 {r} (h : F148 N a0 = some r) : Con prog 148 [Vv (.sl (.int .i64)) a0] [.lf (.own (.int .u8) r .dp)] := by
 refine ctr [.lf (.own (.int .u8) .dp)] K func148 rfl fun w0 E0 ht => ?_
 unfold F148 at h
 show VW _ _ _ _ _ (retQ _ _ _ _) _
 refine nR K (tn 1) <| nR K (tn 1) ?_
 refine VW.join (fun s => ∃ x24, s = ⟨[(3, hh 0)], [ar 0 (.int .u8) x24 .dp]⟩ ∧ F148_j0 N x24 = some r) ?_ ?_
 ·refine nR K (tn 3) <| VW.block <| lop (fun k s => ∃ x33 x34 x35, s = ⟨[(3, hh 0), (6, Vv (.sl (.int .i64)) a0), (7, I x34), (8, I x35)], [ar 0 (.int .u8) x33 .dp]⟩ ∧ F148_l0 N a0 k x33 x34 x35 = some r) N [.nilS 3 (.int .u8) .dp, .ren [3, 6, 7, 8] [0]] ⟨[], (a0.length : Int), (0 : Int), rfl, h⟩ ?_
  rintro k42 s ⟨x33, x34, x35, rfl, h⟩
  cases k42 with
  | zero => cases show none = some r from h
  | succ k42 =>
   replace h : F148_l0_b N a0 (F148_l0 N a0 k42) x33 x34 x35 = some r := h
   unfold F148_l0_b at h
   refine nR K (tn 1) <| sq ?_
   refine cnd h ?_ ?_<;>intro h
   ·refine VW.skip <| sq <| VW.block ?_
    obtain⟨g46,h⟩:=gS h
    refine nR K (an g46 (tn 2)) <| VW.region <| nG K 2 (tn 2) ?_
    obtain⟨y47,hy,h⟩:=aS h
    refine clc false [.t (.int .i64)] [] (some 14) K (ok88 N _ hy) ?_
    obtain⟨g48,h⟩:=gS h
    refine nN K (an g48 (tn 1)) <| nE K (tn 2) ?_
    exact aro [.ren [3, 6, 7, 8] [0]] ⟨(x33 ++ y47), x34, (wr (x35 + (1 : Int))), rfl, h⟩
   refine VW.exit ?_
   exact arv [.ren [3] [0]] ⟨x33, rfl, h⟩
 rintro s ⟨x24, rfl, h⟩
 unfold F148_j0 at h
 refine nR K (tn 2) ?_
 cases h; exact VW.ret (rt [some 0])
def F149 (N : Nat) (a0 : Bool) : Option (Int) :=
  cond a0 (some (1 : Int)) (some (0 : Int))
theorem ok149 N a0 {r} (h : F149 N a0 = some r) : Con prog 149 [B a0] [.lf (.v (.int .i64) r)] := by
 refine ctr [.lf (.v (.int .i64))] K func149 rfl fun w0 E0 ht => ?_
 unfold F149 at h
 show VW _ _ _ _ _ (retQ _ _ _ _) _
 refine nR K (tn 1) <| sq <| nR K (tn 1) ?_
 refine cnd h ?_ ?_<;>intro h
 ·refine nR K (tn 1) ?_
  cases h; exact VW.ret (rt [])
 refine VW.skip <| nR K (tn 1) ?_
 cases h; exact VW.ret (rt [])
def F150_j0 (N : Nat) (x37 : (List Int)) : Option ((List Int)) :=
  some x37
def F150_l0_b (N : Nat) (a0 : (List Int)) (nx63 : (List Int) → Int → Int → Option ((List Int))) (x50 : (List Int)) (x51 : Int) (x52 : Int) : Option ((List Int)) :=
  cond (decide (x52 < x51)) (gd (InR x52 a0.length) (andO (F133 N (a0.getD x52.toNat (Ty.dflt (.int .i64)))) fun y71 => cond (!y71) (some ([])) (andO (F88 N (a0.getD x52.toNat (Ty.dflt (.int .i64)))) fun y72 => gd (x50.length + y72.length ≤ lim (.int .u8)) (nx63 (x50 ++ y72) x51 (IntKind.i64.wrap (x52 + (1 : Int))))))) (F150_j0 N x50)
def F150_l0 (N : Nat) (a0 : (List Int)) := loopF (F150_l0_b N a0) (fun _ _ _ => none)
theorem F150_l0_s N a0 {k} (hk : 0 < k) x50 x51 x52 : F150_l0 N a0 k x50 x51 x52 = F150_l0_b N a0 (F150_l0 N a0 (k - 1)) x50 x51 x52 := by cases k;cases hk;rfl
def F150 (N : Nat) (a0 : (List Int)) : Option ((List Int)) :=
  cond (decide ((a0.length : Int) > (300 : Int))) (some ([])) (andO (F88 N (a0.length : Int)) fun y1 => F150_l0 N a0 N y1 (a0.length : Int) (0 : Int))
theorem ok150 N a0 {r} (h : F150 N a0 = some r) : Con prog 150 [Vv (.sl (.int .i64)) a0] [.lf (.own (.int .u8) r .dp)] := by
 refine ctr [.lf (.own (.int .u8) .dp)] K func150 rfl fun w0 E0 ht => ?_
 unfold F150 at h
 show VW _ _ _ _ _ (retQ _ _ _ _) _
 refine nR K (tn 1) <| sq <| nR K (tn 3) ?_
 refine cnd h ?_ ?_<;>intro h
 ·refine nR K (tn 1) ?_
  cases h; exact VW.ret (rt [none])
 refine VW.skip <| sq <| VW.region <| nG K 2 (tn 2) ?_
 obtain⟨y1,hy,h⟩:=aS h
 refine clc false [.t (.int .i64)] [] (some 11) K (ok88 N _ hy) <| nN K (tn 1) ?_
 refine VW.join (fun s => ∃ x37, s = ⟨[(3, hh 0)], [ar 0 (.int .u8) x37 .dp]⟩ ∧ F150_j0 N x37 = some r) ?_ ?_
 ·refine nR K (tn 3) <| VW.block <| lop (fun k s => ∃ x50 x51 x52, s = ⟨[(3, hh 0), (12, Vv (.sl (.int .i64)) a0), (13, I x51), (14, I x52)], [ar 0 (.int .u8) x50 .dp]⟩ ∧ F150_l0 N a0 k x50 x51 x52 = some r) N [.ren [3, 12, 13, 14] [0]] ⟨y1, (a0.length : Int), (0 : Int), rfl, h⟩ ?_
  rintro k63 s ⟨x50, x51, x52, rfl, h⟩
  cases k63 with
  | zero => cases show none = some r from h
  | succ k63 =>
   replace h : F150_l0_b N a0 (F150_l0 N a0 k63) x50 x51 x52 = some r := h
   unfold F150_l0_b at h
   refine nR K (tn 1) <| sq ?_
   refine cnd h ?_ ?_<;>intro h
   ·refine VW.skip <| sq <| VW.block ?_
    obtain⟨g69,h⟩:=gS h
    refine nR K (an g69 (tn 2)) <| sq <| sq <| VW.region <| nG K 1 (tn 1) ?_
    obtain⟨y71,hy,h⟩:=aS h
    refine clc false [.t (.int .i64)] [] (some 19) K (ok133 N _ hy) <| nN K (tn 1) ?_
    refine cnd h ?_ ?_<;>intro h
    ·refine nR K (tn 1) ?_
     cases h; exact VW.ret (rt [none])
    refine VW.skip <| VW.region <| nG K 2 (tn 2) ?_
    obtain⟨y72,hy,h⟩:=aS h
    refine clc false [.t (.int .i64)] [] (some 23) K (ok88 N _ hy) ?_
    obtain⟨g73,h⟩:=gS h
    refine nN K (an g73 (tn 1)) <| nE K (tn 2) ?_
    exact aro [.ren [3, 12, 13, 14] [0]] ⟨(x50 ++ y72), x51, (wr (x52 + (1 : Int))), rfl, h⟩
   refine VW.exit ?_
   exact arv [.ren [3] [0]] ⟨x50, rfl, h⟩
 rintro s ⟨x37, rfl, h⟩
 unfold F150_j0 at h
 refine nR K (tn 2) ?_
 cases h; exact VW.ret (rt [some 0])
def F89 (N : Nat) (a0 : Z50) : Option ((List Int)) :=
  andO (F82 N a0) fun y2 => cond (!y2) (some ([])) (andO (F88 N a0.1) fun y3 => cond (a0.1 == (0 : Int)) (andO (F147 N a0.2.1) fun y18 => gd (y3.length + y18.length ≤ lim (.int .u8)) (some (y3 ++ y18))) (cond (a0.1 == (1 : Int)) (andO (F149 N a0.2.2.2.2.2.1) fun y20 => andO (F148 N ([a0.2.2.1, a0.2.2.2.1, y20, a0.2.2.2.2.1])) fun y21 => gd (y3.length + y21.length ≤ lim (.int .u8)) (some (y3 ++ y21))) (cond (a0.1 == (2 : Int)) (andO (F150 N a0.2.2.2.2.2.2) fun y23 => gd (y3.length + y23.length ≤ lim (.int .u8)) (some (y3 ++ y23))) (cond (a0.1 == (3 : Int)) (andO (F148 N ([a0.2.2.1, a0.2.2.2.2.1])) fun y25 => gd (y3.length + y25.length ≤ lim (.int .u8)) (some (y3 ++ y25))) (cond (a0.1 == (5 : Int)) (andO (F148 N ([a0.2.2.1])) fun y27 => gd (y3.length + y27.length ≤ lim (.int .u8)) (some (y3 ++ y27))) (cond (a0.1 == (6 : Int)) (andO (F149 N a0.2.2.2.2.2.1) fun y29 => andO (F148 N ([y29, a0.2.2.2.2.1])) fun y30 => gd (y3.length + y30.length ≤ lim (.int .u8)) (some (y3 ++ y30))) (some y3)))))))
theorem ok89 N a0 {r} (h : F89 N a0 = some r) : Con prog 89 [.agg (lv Y50 a0)] [.lf (.own (.int .u8) r .dp)] := by
 refine ctr [.lf (.own (.int .u8) .dp)] K func89 rfl fun w0 E0 ht => ?_
 unfold F89 at h
 show VW _ _ _ _ _ (retQ _ _ _ _) _
 refine nR K (tn 2) <| sq <| sq <| VW.region <| nG K 1 (tn 1) ?_
 obtain⟨y2,hy,h⟩:=aS h
 refine clc false [.t Y50] [] (some 5) K (ok82 N _ hy) <| nN K (tn 1) ?_
 refine cnd h ?_ ?_<;>intro h
 ·refine nR K (tn 1) ?_
  cases h; exact VW.ret (rt [none])
 refine VW.skip <| sq <| VW.region <| nG K 2 (tn 2) ?_
 obtain⟨y3,hy,h⟩:=aS h
 refine clc false [.t (.int .i64)] [] (some 9) K (ok88 N _ hy) <| nN K (tn 1) <| sq <| nR K (tn 2) <| VW.block <| nR K (tn 2) ?_
 refine cnd h ?_ ?_<;>intro h
 ·refine sq <| VW.region <| nG K 3 (tn 3) ?_
  obtain⟨y18,hy,h⟩:=aS h
  refine clc false [.t .str] [] (some 17) K (ok147 N _ hy) ?_
  obtain⟨g19,h⟩:=gS h
  refine nN K (an g19 (tn 1)) ?_
  cases h; exact VW.ret (rt [some 1])
 refine nR K (tn 2) ?_
 refine cnd h ?_ ?_<;>intro h
 ·refine sq ?_
  obtain⟨y20,hy20,h⟩:=aS h
  obtain⟨y21,hy21,h⟩:=aS h
  obtain⟨g22,h⟩:=gS h
  refine dr K [(7, .cl [] (some 28) [.lf (.v (.int .i64) y20)]), (11, .cl [] (some 32) [.lf (.own (.int .u8) y21 .dp)])] [(7, 0), (11, 1)] [10, 11, 12] [2] [1] (pu 12 (an g22 (tn 1))) ⟨qC false [.t .bool] [] [] (some 28) K (ok149 N _ hy20), qC true [.t (.sl (.int .i64))] [] [] (some 32) K (ok148 N _ hy21), trivial⟩ ?_
  cases h; exact VW.ret (rt [some 0])
 refine nR K (tn 2) ?_
 refine cnd h ?_ ?_<;>intro h
 ·refine sq <| VW.region <| nG K 3 (tn 3) ?_
  obtain⟨y23,hy,h⟩:=aS h
  refine clc false [.t (.sl (.int .i64))] [] (some 39) K (ok150 N _ hy) ?_
  obtain⟨g24,h⟩:=gS h
  refine nN K (an g24 (tn 1)) ?_
  cases h; exact VW.ret (rt [some 1])
 refine nR K (tn 2) ?_
 refine cnd h ?_ ?_<;>intro h
 ·refine sq <| VW.region <| nG K 6 (tn 6) ?_
  obtain⟨y25,hy,h⟩:=aS h
  refine clc true [.t (.sl (.int .i64))] [] (some 49) K (ok148 N _ hy) ?_
  obtain⟨g26,h⟩:=gS h
  refine nN K (an g26 (tn 1)) ?_
  cases h; exact VW.ret (rt [some 1])
 refine nR K (tn 2) ?_
 refine cnd h ?_ ?_<;>intro h
 ·refine sq <| VW.region <| nG K 4 (tn 4) ?_
  obtain⟨y27,hy,h⟩:=aS h
  refine clc true [.t (.sl (.int .i64))] [] (some 57) K (ok148 N _ hy) ?_
  obtain⟨g28,h⟩:=gS h
  refine sN K [2] [1] ⟨[(2, hh 0)], [ar 0 (.int .u8) (y3 ++ y27) .dp]⟩ (an g28 (tn 1)) ?_
  cases h; exact VW.ret (rt [some 0])
 refine nR K (tn 2) ?_
 refine cnd h ?_ ?_<;>intro h
 ·refine sq ?_
  obtain⟨y29,hy29,h⟩:=aS h
  obtain⟨y30,hy30,h⟩:=aS h
  obtain⟨g31,h⟩:=gS h
  refine dr K [(3, .cl [] (some 64) [.lf (.v (.int .i64) y29)]), (7, .cl [] (some 68) [.lf (.own (.int .u8) y30 .dp)])] [(3, 0), (7, 1)] [6, 7, 8] [2] [1] (pu 8 (an g31 (tn 1))) ⟨qC false [.t .bool] [] [] (some 64) K (ok149 N _ hy29), qC true [.t (.sl (.int .i64))] [] [] (some 68) K (ok148 N _ hy30), trivial⟩ ?_
  cases h; exact VW.ret (rt [some 0])
 refine VW.skip <| sR K [2] [1] ⟨[(2, hh 0)], [ar 0 (.int .u8) y3 .dp]⟩ (tn 2) ?_
 cases h; exact VW.ret (rt [some 0])
def F187_j0 (N : Nat) (x4 : (List Int)) : Option ((List Int)) :=
  some x4
def F187 (N : Nat) (a0 : (List Int)) (a1 : Int) : Option ((List Int)) :=
  cond (decide (a1 < (0 : Int))) (none) (cond (decide ((IntKind.i64.wrap (a1 - (IntKind.i64.wrap ((0 : Int) - (0 : Int))))) > (0 : Int))) (gd ((0 : Int) = (0 : Int)) (gd (0 ≤ (IntKind.i64.wrap (a1 - (IntKind.i64.wrap ((0 : Int) - (0 : Int))))) ∧ (IntKind.i64.wrap (a1 - (IntKind.i64.wrap ((0 : Int) - (0 : Int))))) ≤ (lim (.int .u8) : Int)) (gd (0 ≤ (0 : Int) ∧ (0 : Int) ≤ ((List.replicate (IntKind.i64.wrap (a1 - (IntKind.i64.wrap ((0 : Int) - (0 : Int))))).toNat (Ty.dflt (.int .u8))).length : Int)) (F187_j0 N ((List.replicate (IntKind.i64.wrap (a1 - (IntKind.i64.wrap ((0 : Int) - (0 : Int))))).toNat (Ty.dflt (.int .u8))).take ((0 : Int).toNat)))))) (F187_j0 N ([])))
theorem ok187 N a0 a1 {r} (h : F187 N a0 a1 = some r) : Con prog 187 [.lf (.nil), I a1] [.lf (.own (.int .u8) r .dp)] := by
 refine ctr [.lf (.own (.int .u8) .dp)] K func187 rfl fun w0 E0 ht => ?_
 unfold F187 at h
 show VW _ _ _ _ _ (retQ _ _ _ _) _
 refine nR K (tn 1) <| sq <| nR K (tn 2) ?_
 refine cnd h ?_ ?_<;>intro h
 ·exact nomatch h
 refine VW.skip ?_
 refine VW.join (fun s => ∃ x4, s = ⟨[(0, hh 0)], [ar 0 (.int .u8) x4 .dp]⟩ ∧ F187_j0 N x4 = some r) ?_ ?_
 ·refine sq <| VW.region <| nG K 2 (tn 2) <| VO.capN (d := 10) (v := I (0 : Int)) K (by kernel_rfl) <| nN K (tn 5) <| nR K (tn 2) ?_
  refine cnd h ?_ ?_<;>intro h
  ·refine VW.region <| nG K 2 (tn 2) <| VO.capN (d := 19) (v := I (0 : Int)) K (by kernel_rfl) ?_
   obtain⟨g6,h⟩:=gS h
   refine VO.cutN (d := 20) (φ := (0 : Int) = (0 : Int)) (v := .lf .nil) K (by kernel_rfl) g6 <| nG K 1 (tn 1) ?_
   obtain⟨g7,h⟩:=gS h
   refine VO.appZ (d := 22) (φ := 0 ≤ (wr (a1 - (wr ((0 : Int) - (0 : Int))))) ∧ (wr (a1 - (wr ((0 : Int) - (0 : Int))))) ≤ (lim (.int .u8) : Int)) (v := hh 0) (H' := [ar 0 (.int .u8) (List.replicate (wr (a1 - (wr ((0 : Int) - (0 : Int))))).toNat (Ty.dflt (.int .u8))) .dp]) K (by kernel_rfl) g7 ?_
   obtain⟨g8,h⟩:=gS h
   refine nN K (pu 2 (an g8 (tn 1))) ?_
   exact arv [.shr 0, .ren [0] [0]] ⟨((List.replicate (wr (a1 - (wr ((0 : Int) - (0 : Int))))).toNat (Ty.dflt (.int .u8))).take ((0 : Int).toNat)), rfl, h⟩
  refine VW.skip ?_
  exact arv [.nilS 0 (.int .u8) .dp, .ren [0] [0]] ⟨[], rfl, h⟩
 rintro s ⟨x4, rfl, h⟩
 unfold F187_j0 at h
 refine nR K (tn 2) ?_
 cases h; exact VW.ret (rt [some 0])
def F151_j0 (N : Nat) (x31 : (List Int)) : Option ((List Int)) :=
  some x31
def F151_l0_b (N : Nat) (a0 : (List (List Int))) (nx45 : (List Int) → Int → Int → Option ((List Int))) (x38 : (List Int)) (x39 : Int) (x40 : Int) : Option ((List Int)) :=
  cond (decide (x40 < x39)) (gd (InR x40 a0.length) (gd (x38.length + (a0.getD x40.toNat (Ty.dflt (.sl (.int .u8)))).length ≤ lim (.int .u8)) (nx45 (x38 ++ (a0.getD x40.toNat (Ty.dflt (.sl (.int .u8))))) x39 (IntKind.i64.wrap (x40 + (1 : Int)))))) (F151_j0 N x38)
def F151_l0 (N : Nat) (a0 : (List (List Int))) := loopF (F151_l0_b N a0) (fun _ _ _ => none)
theorem F151_l0_s N a0 {k} (hk : 0 < k) x38 x39 x40 : F151_l0 N a0 k x38 x39 x40 = F151_l0_b N a0 (F151_l0 N a0 (k - 1)) x38 x39 x40 := by cases k;cases hk;rfl
def F151_j1 (N : Nat) (a0 : (List (List Int))) (x12 : Int) : Option ((List Int)) :=
  andO (F187 N ([]) x12) fun y13 => F151_l0 N a0 N y13 (a0.length : Int) (0 : Int)
def F151_l1_b (N : Nat) (a0 : (List (List Int))) (nx59 : Int → Int → Int → Option ((List Int))) (x54 : Int) (x55 : Int) (x56 : Int) : Option ((List Int)) :=
  cond (decide (x56 < x55)) (gd (InR x56 a0.length) (cond (decide ((IntKind.i64.wrap (x54 + ((a0.getD x56.toNat (Ty.dflt (.sl (.int .u8)))).length : Int))) < (0 : Int))) (none) (nx59 (IntKind.i64.wrap (x54 + ((a0.getD x56.toNat (Ty.dflt (.sl (.int .u8)))).length : Int))) x55 (IntKind.i64.wrap (x56 + (1 : Int)))))) (F151_j1 N a0 x54)
def F151_l1 (N : Nat) (a0 : (List (List Int))) := loopF (F151_l1_b N a0) (fun _ _ _ => none)
theorem F151_l1_s N a0 {k} (hk : 0 < k) x54 x55 x56 : F151_l1 N a0 k x54 x55 x56 = F151_l1_b N a0 (F151_l1 N a0 (k - 1)) x54 x55 x56 := by cases k;cases hk;rfl
def F151 (N : Nat) (a0 : (List (List Int))) : Option ((List Int)) :=
  F151_l1 N a0 N (0 : Int) (a0.length : Int) (0 : Int)
theorem ok151 N a0 {r} (h : F151 N a0 = some r) : Con prog 151 [Vv (.sl (.sl (.int .u8))) a0] [.lf (.own (.int .u8) r .dp)] := by
 refine ctr [.lf (.own (.int .u8) .dp)] K func151 rfl fun w0 E0 ht => ?_
 unfold F151 at h
 show VW _ _ _ _ _ (retQ _ _ _ _) _
 refine nR K (tn 1) <| nR K (tn 1) ?_
 refine VW.join (fun s => ∃ x12, s = ⟨[(0, Vv (.sl (.sl (.int .u8))) a0), (3, I x12)], []⟩ ∧ F151_j1 N a0 x12 = some r) ?_ ?_
 ·refine nR K (tn 3) <| VW.block <| lop (fun k s => ∃ x54 x55 x56, s = ⟨[(0, Vv (.sl (.sl (.int .u8))) a0), (3, I x54), (9, Vv (.sl (.sl (.int .u8))) a0), (10, I x55), (11, I x56)], []⟩ ∧ F151_l1 N a0 k x54 x55 x56 = some r) N [.ren [0, 3, 9, 10, 11] []] ⟨(0 : Int), (a0.length : Int), (0 : Int), rfl, h⟩ ?_
  rintro k59 s ⟨x54, x55, x56, rfl, h⟩
  cases k59 with
  | zero => cases show none = some r from h
  | succ k59 =>
   replace h : F151_l1_b N a0 (F151_l1 N a0 k59) x54 x55 x56 = some r := h
   unfold F151_l1_b at h
   refine nR K (tn 1) <| sq ?_
   refine cnd h ?_ ?_<;>intro h
   ·refine VW.skip <| sq <| VW.block ?_
    obtain⟨g61,h⟩:=gS h
    refine nR K (an g61 (tn 2)) <| nR K (tn 5) <| nR K (tn 2) ?_
    refine cnd h ?_ ?_<;>intro h
    ·exact nomatch h
    refine VW.skip <| nE K (tn 2) ?_
    exact aro [.ren [0, 3, 9, 10, 11] []] ⟨(wr (x54 + ((a0.getD x56.toNat (Ty.dflt (.sl (.int .u8)))).length : Int))), x55, (wr (x56 + (1 : Int))), rfl, h⟩
   refine VW.exit ?_
   exact arv [.ren [0, 3] []] ⟨x54, rfl, h⟩
 rintro s ⟨x12, rfl, h⟩
 unfold F151_j1 at h
 refine sq <| VW.region <| nG K 1 (tn 1) ?_
 obtain⟨y13,hy,h⟩:=aS h
 refine clc false [.k, .t (.int .i64)] [] (some 24) K (ok187 N _ _ hy) <| nN K (tn 1) ?_
 refine VW.join (fun s => ∃ x31, s = ⟨[(6, hh 0)], [ar 0 (.int .u8) x31 .dp]⟩ ∧ F151_j0 N x31 = some r) ?_ ?_
 ·refine nR K (tn 3) <| VW.block <| lop (fun k s => ∃ x38 x39 x40, s = ⟨[(6, hh 0), (25, Vv (.sl (.sl (.int .u8))) a0), (26, I x39), (27, I x40)], [ar 0 (.int .u8) x38 .dp]⟩ ∧ F151_l0 N a0 k x38 x39 x40 = some r) N [.ren [6, 25, 26, 27] [0]] ⟨y13, (a0.length : Int), (0 : Int), rfl, h⟩ ?_
  rintro k45 s ⟨x38, x39, x40, rfl, h⟩
  cases k45 with
  | zero => cases show none = some r from h
  | succ k45 =>
   replace h : F151_l0_b N a0 (F151_l0 N a0 k45) x38 x39 x40 = some r := h
   unfold F151_l0_b at h
   refine nR K (tn 1) <| sq ?_
   refine cnd h ?_ ?_<;>intro h
   ·refine VW.skip <| sq <| VW.block ?_
    obtain⟨g48,h⟩:=gS h
    refine nR K (an g48 (tn 2)) ?_
    obtain⟨g49,h⟩:=gS h
    refine nE K (pu 2 (an g49 (tn 1))) <| nE K (tn 2) ?_
    exact aro [.ren [6, 25, 26, 27] [0]] ⟨(x38 ++ (a0.getD x40.toNat (Ty.dflt (.sl (.int .u8))))), x39, (wr (x40 + (1 : Int))), rfl, h⟩
   refine VW.exit ?_
   exact arv [.ren [6] [0]] ⟨x38, rfl, h⟩
 rintro s ⟨x31, rfl, h⟩
 unfold F151_j0 at h
 refine nR K (tn 2) ?_
 cases h; exact VW.ret (rt [some 0])
def F152_j0 (N : Nat) (x12 : Int) : Option (Int) :=
  some x12
def F152_l0_b (N : Nat) (a0 : (List Int)) (nx22 : Int → Int → Int → Option (Int)) (x17 : Int) (x18 : Int) (x19 : Int) : Option (Int) :=
  cond (decide (x19 < x18)) (gd (InR x19 a0.length) (nx22 (Int.tmod (IntKind.i64.wrap ((IntKind.i64.wrap ((269 : Int) * x17)) + (IntKind.i64.wrap (a0.getD x19.toNat (Ty.dflt (.int .u8)))))) (999983 : Int)) x18 (IntKind.i64.wrap (x19 + (1 : Int))))) (F152_j0 N x17)
def F152_l0 (N : Nat) (a0 : (List Int)) := loopF (F152_l0_b N a0) (fun _ _ _ => none)
theorem F152_l0_s N a0 {k} (hk : 0 < k) x17 x18 x19 : F152_l0 N a0 k x17 x18 x19 = F152_l0_b N a0 (F152_l0 N a0 (k - 1)) x17 x18 x19 := by cases k;cases hk;rfl
def F152 (N : Nat) (a0 : (List Int)) : Option (Int) :=
  F152_l0 N a0 N (5 : Int) (a0.length : Int) (0 : Int)
theorem ok152 N a0 {r} (h : F152 N a0 = some r) : Con prog 152 [Vv (.sl (.int .u8)) a0] [.lf (.v (.int .i64) r)] := by
 refine ctr [.lf (.v (.int .i64))] K func152 rfl fun w0 E0 ht => ?_
 unfold F152 at h
 show VW _ _ _ _ _ (retQ _ _ _ _) _
 refine nR K (tn 1) <| nR K (tn 1) ?_
 refine VW.join (fun s => ∃ x12, s = ⟨[(3, I x12)], []⟩ ∧ F152_j0 N x12 = some r) ?_ ?_
 ·refine nR K (tn 3) <| VW.block <| lop (fun k s => ∃ x17 x18 x19, s = ⟨[(3, I x17), (6, Vv (.sl (.int .u8)) a0), (7, I x18), (8, I x19)], []⟩ ∧ F152_l0 N a0 k x17 x18 x19 = some r) N [.ren [3, 6, 7, 8] []] ⟨(5 : Int), (a0.length : Int), (0 : Int), rfl, h⟩ ?_
  rintro k22 s ⟨x17, x18, x19, rfl, h⟩
  cases k22 with
  | zero => cases show none = some r from h
  | succ k22 =>
   replace h : F152_l0_b N a0 (F152_l0 N a0 k22) x17 x18 x19 = some r := h
   unfold F152_l0_b at h
   refine nR K (tn 1) <| sq ?_
   refine cnd h ?_ ?_<;>intro h
   ·refine VW.skip <| sq <| VW.block ?_
    obtain⟨g24,h⟩:=gS h
    refine nR K (an g24 (tn 2)) <| nE K (pu 5 (an (show ((999983 : Int) ≠ 0) from by decide) (tn 1))) <| nE K (tn 2) ?_
    exact aro [.ren [3, 6, 7, 8] []] ⟨(Int.tmod (wr ((wr ((269 : Int) * x17)) + (wr (a0.getD x19.toNat (Ty.dflt (.int .u8)))))) (999983 : Int)), x18, (wr (x19 + (1 : Int))), rfl, h⟩
   refine VW.exit ?_
   exact arv [.ren [3] []] ⟨x17, rfl, h⟩
 rintro s ⟨x12, rfl, h⟩
 unfold F152_j0 at h
 refine nR K (tn 2) ?_
 cases h; exact VW.ret (rt [])
def F90 (N : Nat) (a0 : (List Int)) : Option ((List Int) × Bool) :=
  cond (decide ((a0.length : Int) > (4000 : Int))) (some ([], false)) (gd (0 < ([(80 : Int), (83 : Int)]).length) (andO (F88 N (a0.length : Int)) fun y2 => andO (F152 N a0) fun y3 => andO (F88 N y3) fun y4 => andO (F151 N ([[(80 : Int), (83 : Int)], y2, a0, y4])) fun y5 => some (y5, true)))
theorem ok90 N a0 {r} (h : F90 N a0 = some r) : Con prog 90 [Vv (.sl (.int .u8)) a0] [.lf (.own (.int .u8) r.1 .dp), .lf (.v .bool r.2)] := by
 refine ctr [.lf (.own (.int .u8) .dp), .lf (.v .bool)] K func90 rfl fun w0 E0 ht => ?_
 unfold F90 at h
 show VW _ _ _ _ _ (retQ _ _ _ _) _
 refine nR K (tn 2) <| sq <| nR K (tn 3) ?_
 refine cnd h ?_ ?_<;>intro h
 ·refine nR K (tn 2) ?_
  cases h; exact VW.ret (rt [none])
 refine VW.skip <| sq <| VW.region <| nG K 1 (tn 1) ?_
 obtain⟨g1,h⟩:=gS h
 refine VO.mark (d := 8) (φ := 0 < ([(80 : Int), (83 : Int)]).length) (v := Vv (.sl (.int .u8)) ([(80 : Int), (83 : Int)])) (H' := [none]) K (by kernel_rfl) g1 <| nG K 2 (tn 2) ?_
 obtain⟨y2,hy,h⟩:=aS h
 refine clc false [.t (.int .i64)] [] (some 11) K (ok88 N _ hy) <| nG K 2 (tn 2) ?_
 obtain⟨y3,hy,h⟩:=aS h
 refine clc false [.t (.sl (.int .u8))] [] (some 14) K (ok152 N _ hy) ?_
 obtain⟨y4,hy,h⟩:=aS h
 refine clc false [.t (.int .i64)] [] (some 15) K (ok88 N _ hy) <| VO.ghl [.frz 1, .frz 2] <| nG K 1 (tn 1) ?_
 obtain⟨y5,hy,h⟩:=aS h
 refine clc true [.t (.sl (.sl (.int .u8)))] [] (some 17) K (ok151 N _ hy) <| nN K (tn 2) ?_
 cases h; exact VW.ret (rt [some 4])
def F50_j0 (N : Nat) (x27 : (List Int)) : Option ((List Int) × Bool) :=
  andO (F90 N x27) fun y28 => some (y28.1, y28.2)
def F50_l0_b (N : Nat) (a0 : (List Z50)) (nx46 : (List Int) → Int → Int → Option ((List Int) × Bool)) (x37 : (List Int)) (x38 : Int) (x39 : Int) : Option ((List Int) × Bool) :=
  cond (decide (x39 < x38)) (gd (InR x39 a0.length) (andO (F89 N (a0.getD x39.toNat (Ty.dflt Y50))) fun y51 => gd (x37.length + y51.length ≤ lim (.int .u8)) (nx46 (x37 ++ y51) x38 (IntKind.i64.wrap (x39 + (1 : Int)))))) (F50_j0 N x37)
def F50_l0 (N : Nat) (a0 : (List Z50)) := loopF (F50_l0_b N a0) (fun _ _ _ => none)
theorem F50_l0_s N a0 {k} (hk : 0 < k) x37 x38 x39 : F50_l0 N a0 k x37 x38 x39 = F50_l0_b N a0 (F50_l0 N a0 (k - 1)) x37 x38 x39 := by cases k;cases hk;rfl
def F50 (N : Nat) (a0 : (List Z50)) : Option ((List Int) × Bool) :=
  andO (F44 N a0) fun y2 => cond (!y2) (some ([], false)) (andO (F88 N (a0.length : Int)) fun y3 => F50_l0 N a0 N y3 (a0.length : Int) (0 : Int))
theorem ok50 N a0 {r} (h : F50 N a0 = some r) : Con prog 50 [Vv (.sl Y50) a0] [.lf (.own (.int .u8) r.1 .dp), .lf (.v .bool r.2)] := by
 refine ctr [.lf (.own (.int .u8) .dp), .lf (.v .bool)] K func50 rfl fun w0 E0 ht => ?_
 unfold F50 at h
 show VW _ _ _ _ _ (retQ _ _ _ _) _
 refine nR K (tn 2) <| sq <| sq <| VW.region <| nG K 1 (tn 1) ?_
 obtain⟨y2,hy,h⟩:=aS h
 refine clc false [.t (.sl Y50)] [] (some 8) K (ok44 N _ hy) <| nN K (tn 1) ?_
 refine cnd h ?_ ?_<;>intro h
 ·refine nR K (tn 2) ?_
  cases h; exact VW.ret (rt [none])
 refine VW.skip <| sq <| VW.region <| nG K 2 (tn 2) ?_
 obtain⟨y3,hy,h⟩:=aS h
 refine clc false [.t (.int .i64)] [] (some 12) K (ok88 N _ hy) <| nN K (tn 1) ?_
 refine VW.join (fun s => ∃ x27, s = ⟨[(4, hh 0)], [ar 0 (.int .u8) x27 .dp]⟩ ∧ F50_j0 N x27 = some r) ?_ ?_
 ·refine nR K (tn 3) <| VW.block <| lop (fun k s => ∃ x37 x38 x39, s = ⟨[(4, hh 0), (13, Vv (.sl Y50) a0), (14, I x38), (15, I x39)], [ar 0 (.int .u8) x37 .dp]⟩ ∧ F50_l0 N a0 k x37 x38 x39 = some r) N [.ren [4, 13, 14, 15] [0]] ⟨y3, (a0.length : Int), (0 : Int), rfl, h⟩ ?_
  rintro k46 s ⟨x37, x38, x39, rfl, h⟩
  cases k46 with
  | zero => cases show none = some r from h
  | succ k46 =>
   replace h : F50_l0_b N a0 (F50_l0 N a0 k46) x37 x38 x39 = some r := h
   unfold F50_l0_b at h
   refine nR K (tn 1) <| sq ?_
   refine cnd h ?_ ?_<;>intro h
   ·refine VW.skip <| sq <| VW.block ?_
    obtain⟨g50,h⟩:=gS h
    refine nR K (an g50 (tn 3)) <| VW.region <| nG K 2 (tn 2) ?_
    obtain⟨y51,hy,h⟩:=aS h
    refine clc false [.t Y50] [] (some 21) K (ok89 N _ hy) ?_
    obtain⟨g52,h⟩:=gS h
    refine nN K (an g52 (tn 1)) <| nE K (tn 2) ?_
    exact aro [.ren [4, 13, 14, 15] [0]] ⟨(x37 ++ y51), x38, (wr (x39 + (1 : Int))), rfl, h⟩
   refine VW.exit ?_
   exact arv [.ren [4] [0]] ⟨x37, rfl, h⟩
 rintro s ⟨x27, rfl, h⟩
 unfold F50_j0 at h
 refine sq <| VW.region <| nG K 1 (tn 1) ?_
 obtain⟨y28,hy,h⟩:=aS h
 refine clc true [.t (.sl (.int .u8))] [] (some 25) K (ok90 N _ hy) <| nN K (tn 4) ?_
 cases h; exact VW.ret (rt [some 1])
def F17_j0 (N : Nat) (x21 : Int) : Option (Int) :=
  some x21
def F17_l0_b (N : Nat) (nx37 : Int → (List Int) → Int → Int → Option (Int)) (x29 : Int) (x30 : (List Int)) (x31 : Int) (x32 : Int) : Option (Int) :=
  cond (decide (x32 < x31)) (gd (InR x32 x30.length) (gd (x32.toNat < x30.length) (nx37 (Int.tmod (IntKind.i64.wrap ((IntKind.i64.wrap ((31 : Int) * x29)) + (IntKind.i64.wrap (x30.getD x32.toNat (Ty.dflt (.int .u8)))))) (251 : Int)) x30 x31 (IntKind.i64.wrap (x32 + (1 : Int)))))) (F17_j0 N x29)
def F17_l0 (N : Nat) := loopF (F17_l0_b N) (fun _ _ _ _ => none)
theorem F17_l0_s N {k} (hk : 0 < k) x29 x30 x31 x32 : F17_l0 N k x29 x30 x31 x32 = F17_l0_b N (F17_l0 N (k - 1)) x29 x30 x31 x32 := by cases k;cases hk;rfl
def F17 (N : Nat) (a0 : (List Z50)) : Option (Int) :=
  andO (F50 N a0) fun y1 => cond (!y1.2) (some (-1 : Int)) (F17_l0 N N (97 : Int) y1.1 (y1.1.length : Int) (0 : Int))
theorem ok17 N a0 {r} (h : F17 N a0 = some r) : Con prog 17 [Vv (.sl Y50) a0] [.lf (.v (.int .i64) r)] := by
 refine ctr [.lf (.v (.int .i64))] K func17 rfl fun w0 E0 ht => ?_
 unfold F17 at h
 show VW _ _ _ _ _ (retQ _ _ _ _) _
 refine nR K (tn 1) <| sq <| VW.region <| nG K 1 (tn 1) ?_
 obtain⟨y1,hy,h⟩:=aS h
 refine clc false [.t (.sl Y50)] [] (some 10) K (ok50 N _ hy) <| nN K (tn 5) <| sq <| nR K (tn 2) ?_
 refine cnd h ?_ ?_<;>intro h
 ·refine nR K (tn 1) ?_
  cases h; exact VW.ret (rt [])
 refine VW.skip <| nR K (tn 1) ?_
 refine VW.join (fun s => ∃ x21, s = ⟨[(5, I x21)], []⟩ ∧ F17_j0 N x21 = some r) ?_ ?_
 ·refine nR K (tn 3) <| VW.block <| lop (fun k s => ∃ x29 x30 x31 x32, s = ⟨[(5, I x29), (15, hh 0), (16, I x31), (17, I x32)], [ar 0 (.int .u8) x30 .dp]⟩ ∧ F17_l0 N k x29 x30 x31 x32 = some r) N [.ren [5, 15, 16, 17] [0]] ⟨(97 : Int), y1.1, (y1.1.length : Int), (0 : Int), rfl, h⟩ ?_
  rintro k37 s ⟨x29, x30, x31, x32, rfl, h⟩
  cases k37 with
  | zero => cases show none = some r from h
  | succ k37 =>
   replace h : F17_l0_b N (F17_l0 N k37) x29 x30 x31 x32 = some r := h
   unfold F17_l0_b at h
   refine nR K (tn 1) <| sq ?_
   refine cnd h ?_ ?_<;>intro h
   ·refine VW.skip <| sq <| VW.block ?_
    obtain⟨g40,h⟩:=gS h
    obtain⟨g41,h⟩:=gS h
    refine nR K (an g40 (an g41 (tn 1))) <| nE K (pu 5 (an (show ((251 : Int) ≠ 0) from by decide) (tn 1))) <| nE K (tn 2) ?_
    exact aro [.ren [5, 15, 16, 17] [0]] ⟨(Int.tmod (wr ((wr ((31 : Int) * x29)) + (wr (x30.getD x32.toNat (Ty.dflt (.int .u8)))))) (251 : Int)), x30, x31, (wr (x32 + (1 : Int))), rfl, h⟩
   refine VW.exit ?_
   exact arv [.ren [5] []] ⟨x29, rfl, h⟩
 rintro s ⟨x21, rfl, h⟩
 unfold F17_j0 at h
 refine nR K (tn 2) ?_
 cases h; exact VW.ret (rt [])
def F91_j0 (N : Nat) (x10 : (List Int)) (x11 : Int) : Option ((List Int)) :=
  gd (x10.length + ([(IntKind.u8.wrap x11)]).length ≤ lim (.int .u8)) (some (x10 ++ ([(IntKind.u8.wrap x11)])))
def F91_l0_b (N : Nat) (nx18 : (List Int) → Int → Option ((List Int))) (x15 : (List Int)) (x16 : Int) : Option ((List Int)) :=
  cond (decide (x16 ≥ (128 : Int))) (gd (x15.length + ([(IntKind.u8.wrap (IntKind.i64.wrap ((128 : Int) + (Int.tmod x16 (128 : Int)))))]).length ≤ lim (.int .u8)) (nx18 (x15 ++ ([(IntKind.u8.wrap (IntKind.i64.wrap ((128 : Int) + (Int.tmod x16 (128 : Int)))))])) (IntKind.i64.wrap (Int.tdiv x16 (128 : Int))))) (F91_j0 N x15 x16)
def F91_l0 (N : Nat) := loopF (F91_l0_b N) (fun _ _ => none)
theorem F91_l0_s N {k} (hk : 0 < k) x15 x16 : F91_l0 N k x15 x16 = F91_l0_b N (F91_l0 N (k - 1)) x15 x16 := by cases k;cases hk;rfl
def F91_j1 (N : Nat) (x3 : Int) : Option ((List Int)) :=
  F91_l0 N N ([]) x3
def F91 (N : Nat) (a0 : Int) : Option ((List Int)) :=
  andO (F153 N a0) fun y2 => cond (!y2) (some ([])) (cond (decide (a0 < (0 : Int))) (F91_j1 N (IntKind.i64.wrap ((IntKind.i64.wrap ((-2 : Int) * a0)) - (1 : Int)))) (F91_j1 N (IntKind.i64.wrap ((2 : Int) * a0))))
theorem ok91 N a0 {r} (h : F91 N a0 = some r) : Con prog 91 [I a0] [.lf (.own (.int .u8) r .dp)] := by
 refine ctr [.lf (.own (.int .u8) .dp)] K func91 rfl fun w0 E0 ht => ?_
 unfold F91 at h
 show VW _ _ _ _ _ (retQ _ _ _ _) _
 refine nR K (tn 1) <| nR K (tn 2) <| sq <| sq <| VW.region <| nG K 1 (tn 1) ?_
 obtain⟨y2,hy,h⟩:=aS h
 refine clc false [.t (.int .i64)] [] (some 7) K (ok153 N _ hy) <| nN K (tn 1) ?_
 refine cnd h ?_ ?_<;>intro h
 ·refine nR K (tn 1) ?_
  cases h; exact VW.ret (rt [none])
 refine VW.skip <| nR K (tn 3) ?_
 refine VW.join (fun s => ∃ x3, s = ⟨[(3, .lf (.nil)), (4, I x3)], []⟩ ∧ F91_j1 N x3 = some r) ?_ ?_
 ·refine nR K (tn 2) ?_
  refine cnd h ?_ ?_<;>intro h
  ·refine nE K (tn 4) ?_
   exact arv [.ren [3, 4] []] ⟨(wr ((wr ((-2 : Int) * a0)) - (1 : Int))), rfl, h⟩
  refine VW.skip ?_
  exact arv [.ren [3, 4] []] ⟨(wr ((2 : Int) * a0)), rfl, h⟩
 rintro s ⟨x3, rfl, h⟩
 unfold F91_j1 at h
 refine VW.join (fun s => ∃ x10 x11, s = ⟨[(3, hh 0), (4, I x11)], [ar 0 (.int .u8) x10 .dp]⟩ ∧ F91_j0 N x10 x11 = some r) ?_ ?_
 ·refine VW.block <| lop (fun k s => ∃ x15 x16, s = ⟨[(3, hh 0), (4, I x16)], [ar 0 (.int .u8) x15 .dp]⟩ ∧ F91_l0 N k x15 x16 = some r) N [.nilS 3 (.int .u8) .dp, .ren [3, 4] [0]] ⟨[], x3, rfl, h⟩ ?_
  rintro k18 s ⟨x15, x16, rfl, h⟩
  cases k18 with
  | zero => cases show none = some r from h
  | succ k18 =>
   replace h : F91_l0_b N (F91_l0 N k18) x15 x16 = some r := h
   unfold F91_l0_b at h
   refine sq <| nR K (tn 2) ?_
   refine cnd h ?_ ?_<;>intro h
   ·refine VW.skip <| VW.block ?_
    obtain⟨g19,h⟩:=gS h
    refine nR K (pu 2 (an (show ((128 : Int) ≠ 0) from by decide) (pu 3 (an g19 (tn 1))))) <| nE K (pu 1 (an (show ((128 : Int) ≠ 0) from by decide) (tn 1))) ?_
    exact aro [.ren [3, 4] [0]] ⟨(x15 ++ ([(IntKind.u8.wrap (wr ((128 : Int) + (Int.tmod x16 (128 : Int)))))])), (wr (Int.tdiv x16 (128 : Int))), rfl, h⟩
   refine VW.exit ?_
   exact arv [.ren [3, 4] [0]] ⟨x15, x16, rfl, h⟩
 rintro s ⟨x10, x11, rfl, h⟩
 unfold F91_j0 at h
 obtain⟨g12,h⟩:=gS h
 refine nR K (pu 4 (an g12 (tn 1))) ?_
 cases h; exact VW.ret (rt [some 0])
def F154_j0 (N : Nat) (x16 : (List Int)) : Option ((List Int)) :=
  some x16
def F154_l0_b (N : Nat) (a0 : (List Int)) (nx28 : (List Int) → Int → Option ((List Int))) (x22 : (List Int)) (x23 : Int) : Option ((List Int)) :=
  cond (decide (x23 < (a0.length : Int))) (gd (InR x23 a0.length) (gd (x22.length + ([(a0.getD x23.toNat (Ty.dflt (.int .u8)))]).length ≤ lim (.int .u8)) (nx28 (x22 ++ ([(a0.getD x23.toNat (Ty.dflt (.int .u8)))])) (IntKind.i64.wrap (x23 + (1 : Int)))))) (F154_j0 N x22)
def F154_l0 (N : Nat) (a0 : (List Int)) := loopF (F154_l0_b N a0) (fun _ _ => none)
theorem F154_l0_s N a0 {k} (hk : 0 < k) x22 x23 : F154_l0 N a0 k x22 x23 = F154_l0_b N a0 (F154_l0 N a0 (k - 1)) x22 x23 := by cases k;cases hk;rfl
def F154 (N : Nat) (a0 : (List Int)) : Option ((List Int)) :=
  F154_l0 N a0 N ([]) (0 : Int)
theorem ok154 N a0 {r} (h : F154 N a0 = some r) : Con prog 154 [Vv (.sl (.int .u8)) a0] [.lf (.own (.int .u8) r .dp)] := by
 refine ctr [.lf (.own (.int .u8) .dp)] K func154 rfl fun w0 E0 ht => ?_
 unfold F154 at h
 show VW _ _ _ _ _ (retQ _ _ _ _) _
 refine nR K (tn 1) <| nR K (tn 2) ?_
 refine VW.join (fun s => ∃ x16, s = ⟨[(3, hh 0)], [ar 0 (.int .u8) x16 .dp]⟩ ∧ F154_j0 N x16 = some r) ?_ ?_
 ·refine nR K (tn 1) <| VW.block <| lop (fun k s => ∃ x22 x23, s = ⟨[(0, Vv (.sl (.int .u8)) a0), (3, hh 0), (4, I x23)], [ar 0 (.int .u8) x22 .dp]⟩ ∧ F154_l0 N a0 k x22 x23 = some r) N [.nilS 3 (.int .u8) .dp, .ren [0, 3, 4] [0]] ⟨[], (0 : Int), rfl, h⟩ ?_
  rintro k28 s ⟨x22, x23, rfl, h⟩
  cases k28 with
  | zero => cases show none = some r from h
  | succ k28 =>
   replace h : F154_l0_b N a0 (F154_l0 N a0 k28) x22 x23 = some r := h
   unfold F154_l0_b at h
   refine sq <| nR K (tn 4) ?_
   refine cnd h ?_ ?_<;>intro h
   ·refine VW.skip <| sq <| VW.block ?_
    obtain⟨g31,h⟩:=gS h
    obtain⟨g32,h⟩:=gS h
    refine nE K (pu 3 (an g31 (pu 2 (an g32 (tn 1))))) <| nE K (tn 3) ?_
    exact aro [.ren [0, 3, 4] [0]] ⟨(x22 ++ ([(a0.getD x23.toNat (Ty.dflt (.int .u8)))])), (wr (x23 + (1 : Int))), rfl, h⟩
   refine VW.exit ?_
   exact arv [.ren [3] [0]] ⟨x22, rfl, h⟩
 rintro s ⟨x16, rfl, h⟩
 unfold F154_j0 at h
 refine nR K (tn 2) ?_
 cases h; exact VW.ret (rt [some 0])
def F92_j0 (N : Nat) (x17 : (List Int)) : Option ((List Int)) :=
  some x17
def F92_l0_b (N : Nat) (a1 : (List Int)) (nx29 : (List Int) → Int → Option ((List Int))) (x23 : (List Int)) (x24 : Int) : Option ((List Int)) :=
  cond (decide (x24 < (a1.length : Int))) (gd (InR x24 a1.length) (gd (x23.length + ([(a1.getD x24.toNat (Ty.dflt (.int .u8)))]).length ≤ lim (.int .u8)) (nx29 (x23 ++ ([(a1.getD x24.toNat (Ty.dflt (.int .u8)))])) (IntKind.i64.wrap (x24 + (1 : Int)))))) (F92_j0 N x23)
def F92_l0 (N : Nat) (a1 : (List Int)) := loopF (F92_l0_b N a1) (fun _ _ => none)
theorem F92_l0_s N a1 {k} (hk : 0 < k) x23 x24 : F92_l0 N a1 k x23 x24 = F92_l0_b N a1 (F92_l0 N a1 (k - 1)) x23 x24 := by cases k;cases hk;rfl
def F92 (N : Nat) (a0 : (List Int)) (a1 : (List Int)) : Option ((List Int)) :=
  andO (F154 N a0) fun y1 => F92_l0 N a1 N y1 (0 : Int)
theorem ok92 N a0 a1 {r} (h : F92 N a0 a1 = some r) : Con prog 92 [Vv (.sl (.int .u8)) a0, Vv (.sl (.int .u8)) a1] [.lf (.own (.int .u8) r .dp)] := by
 refine ctr [.lf (.own (.int .u8) .dp)] K func92 rfl fun w0 E0 ht => ?_
 unfold F92 at h
 show VW _ _ _ _ _ (retQ _ _ _ _) _
 refine nR K (tn 1) <| sq <| VW.region <| nG K 1 (tn 1) ?_
 obtain⟨y1,hy,h⟩:=aS h
 refine clc false [.t (.sl (.int .u8))] [] (some 8) K (ok154 N _ hy) <| nN K (tn 1) ?_
 refine VW.join (fun s => ∃ x17, s = ⟨[(5, hh 0)], [ar 0 (.int .u8) x17 .dp]⟩ ∧ F92_j0 N x17 = some r) ?_ ?_
 ·refine nR K (tn 1) <| VW.block <| lop (fun k s => ∃ x23 x24, s = ⟨[(1, Vv (.sl (.int .u8)) a1), (5, hh 0), (6, I x24)], [ar 0 (.int .u8) x23 .dp]⟩ ∧ F92_l0 N a1 k x23 x24 = some r) N [.ren [1, 5, 6] [0]] ⟨y1, (0 : Int), rfl, h⟩ ?_
  rintro k29 s ⟨x23, x24, rfl, h⟩
  cases k29 with
  | zero => cases show none = some r from h
  | succ k29 =>
   replace h : F92_l0_b N a1 (F92_l0 N a1 k29) x23 x24 = some r := h
   unfold F92_l0_b at h
   refine sq <| nR K (tn 4) ?_
   refine cnd h ?_ ?_<;>intro h
   ·refine VW.skip <| sq <| VW.block ?_
    obtain⟨g32,h⟩:=gS h
    obtain⟨g33,h⟩:=gS h
    refine nE K (pu 3 (an g32 (pu 2 (an g33 (tn 1))))) <| nE K (tn 3) ?_
    exact aro [.ren [1, 5, 6] [0]] ⟨(x23 ++ ([(a1.getD x24.toNat (Ty.dflt (.int .u8)))])), (wr (x24 + (1 : Int))), rfl, h⟩
   refine VW.exit ?_
   exact arv [.ren [5] [0]] ⟨x23, rfl, h⟩
 rintro s ⟨x17, rfl, h⟩
 unfold F92_j0 at h
 refine nR K (tn 2) ?_
 cases h; exact VW.ret (rt [some 0])
def F155 (N : Nat) (a0 : ByteArray) : Option ((List Int)) :=
  andO (F160 N a0) fun y2 => cond (!y2) (some ([])) (andO (F91 N (a0.size : Int)) fun y3 => andO (F92 N y3 (bytesOf a0)) fun y4 => some y4)
theorem ok155 N a0 {r} (h : F155 N a0 = some r) : Con prog 155 [S a0] [.lf (.own (.int .u8) r .dp)] := by
 refine ctr [.lf (.own (.int .u8) .dp)] K func155 rfl fun w0 E0 ht => ?_
 unfold F155 at h
 show VW _ _ _ _ _ (retQ _ _ _ _) _
 refine nR K (tn 1) <| sq <| sq <| VW.region <| nG K 1 (tn 1) ?_
 obtain⟨y2,hy,h⟩:=aS h
 refine clc false [.t .str] [] (some 4) K (ok160 N _ hy) <| nN K (tn 1) ?_
 refine cnd h ?_ ?_<;>intro h
 ·refine nR K (tn 1) ?_
  cases h; exact VW.ret (rt [none])
 refine VW.skip <| sq <| VW.region <| nG K 2 (tn 2) ?_
 obtain⟨y3,hy,h⟩:=aS h
 refine clc false [.t (.int .i64)] [] (some 8) K (ok91 N _ hy) <| nG K 2 (tn 2) ?_
 obtain⟨y4,hy,h⟩:=aS h
 refine clc true [.t (.sl (.int .u8)), .t (.sl (.int .u8))] [] (some 11) K (ok92 N _ _ hy) <| nN K (tn 1) ?_
 cases h; exact VW.ret (rt [some 1])
def F156_j0 (N : Nat) (x22 : (List Int)) : Option ((List Int)) :=
  some x22
def F156_l0_b (N : Nat) (a1 : (List Int)) (nx38 : (List Int) → Int → Option ((List Int))) (x30 : (List Int)) (x31 : Int) : Option ((List Int)) :=
  cond (decide (x31 < (a1.length : Int))) (gd (InR x31 a1.length) (andO (F91 N (a1.getD x31.toNat (Ty.dflt (.int .i64)))) fun y43 => andO (F92 N x30 y43) fun y44 => nx38 y44 (IntKind.i64.wrap (x31 + (1 : Int))))) (F156_j0 N x30)
def F156_l0 (N : Nat) (a1 : (List Int)) := loopF (F156_l0_b N a1) (fun _ _ => none)
theorem F156_l0_s N a1 {k} (hk : 0 < k) x30 x31 : F156_l0 N a1 k x30 x31 = F156_l0_b N a1 (F156_l0 N a1 (k - 1)) x30 x31 := by cases k;cases hk;rfl
def F156 (N : Nat) (a0 : (List Int)) (a1 : (List Int)) : Option ((List Int)) :=
  F156_l0 N a1 N a0 (0 : Int)
theorem ok156 N a0 a1 {r} (h : F156 N a0 a1 = some r) : Con prog 156 [Vv (.sl (.int .u8)) a0, Vv (.sl (.int .i64)) a1] [.lf (.v (.sl (.int .u8)) r)] := by
 refine ctr [.lf (.v (.sl (.int .u8)))] K func156 rfl fun w0 E0 ht => ?_
 unfold F156 at h
 show VW _ _ _ _ _ (retQ _ _ _ _) _
 refine nR K (tn 1) ?_
 refine VW.join (fun s => ∃ x22, s = ⟨[(0, Vv (.sl (.int .u8)) x22)], []⟩ ∧ F156_j0 N x22 = some r) ?_ ?_
 ·refine nR K (tn 1) <| VW.block <| lop (fun k s => ∃ x30 x31, s = ⟨[(0, Vv (.sl (.int .u8)) x30), (1, Vv (.sl (.int .i64)) a1), (5, I x31)], []⟩ ∧ F156_l0 N a1 k x30 x31 = some r) N [.ren [0, 1, 5] []] ⟨a0, (0 : Int), rfl, h⟩ ?_
  rintro k38 s ⟨x30, x31, rfl, h⟩
  cases k38 with
  | zero => cases show none = some r from h
  | succ k38 =>
   replace h : F156_l0_b N a1 (F156_l0 N a1 k38) x30 x31 = some r := h
   unfold F156_l0_b at h
   refine sq <| nR K (tn 4) ?_
   refine cnd h ?_ ?_<;>intro h
   ·refine VW.skip <| sq <| VW.block <| VW.region ?_
    obtain⟨g42,h⟩:=gS h
    refine nG K 5 (pu 3 (an g42 (tn 1))) ?_
    obtain⟨y43,hy,h⟩:=aS h
    refine clc false [.t (.int .i64)] [] (some 17) K (ok91 N _ hy) ?_
    obtain⟨y44,hy,h⟩:=aS h
    refine clc true [.t (.sl (.int .u8)), .t (.sl (.int .u8))] [] (some 18) K (ok92 N _ _ hy) <| nN K (tn 1) <| nE K (tn 3) ?_
    exact aro [.frz 1, .ren [0, 1, 5] []] ⟨y44, (wr (x31 + (1 : Int))), rfl, h⟩
   refine VW.exit ?_
   exact arv [.ren [0] []] ⟨x30, rfl, h⟩
 rintro s ⟨x22, rfl, h⟩
 unfold F156_j0 at h
 refine nR K (tn 2) ?_
 cases h; exact VW.ret (rt [])
def F157 (N : Nat) (a0 : Bool) : Option (Int) :=
  cond a0 (some (1 : Int)) (some (0 : Int))
theorem ok157 N a0 {r} (h : F157 N a0 = some r) : Con prog 157 [B a0] [.lf (.v (.int .i64) r)] := by
 refine ctr [.lf (.v (.int .i64))] K func157 rfl fun w0 E0 ht => ?_
 unfold F157 at h
 show VW _ _ _ _ _ (retQ _ _ _ _) _
 refine nR K (tn 1) <| sq <| nR K (tn 1) ?_
 refine cnd h ?_ ?_<;>intro h
 ·refine nR K (tn 1) ?_
  cases h; exact VW.ret (rt [])
 refine VW.skip <| nR K (tn 1) ?_
 cases h; exact VW.ret (rt [])
def F158_j0 (N : Nat) (x47 : (List Int)) : Option ((List Int)) :=
  some x47
def F158_l0_b (N : Nat) (a0 : (List Int)) (nx79 : (List Int) → Int → Option ((List Int))) (x63 : (List Int)) (x64 : Int) : Option ((List Int)) :=
  cond (decide (x64 < (a0.length : Int))) (gd (InR x64 a0.length) (andO (F153 N (a0.getD x64.toNat (Ty.dflt (.int .i64)))) fun y90 => cond (!y90) (some ([])) (gd (InR x64 a0.length) (andO (F91 N (a0.getD x64.toNat (Ty.dflt (.int .i64)))) fun y92 => andO (F92 N x63 y92) fun y93 => nx79 y93 (IntKind.i64.wrap (x64 + (1 : Int))))))) (F158_j0 N x63)
def F158_l0 (N : Nat) (a0 : (List Int)) := loopF (F158_l0_b N a0) (fun _ _ => none)
theorem F158_l0_s N a0 {k} (hk : 0 < k) x63 x64 : F158_l0 N a0 k x63 x64 = F158_l0_b N a0 (F158_l0 N a0 (k - 1)) x63 x64 := by cases k;cases hk;rfl
def F158 (N : Nat) (a0 : (List Int)) : Option ((List Int)) :=
  cond (decide ((a0.length : Int) > (300 : Int))) (some ([])) (andO (F91 N (a0.length : Int)) fun y1 => F158_l0 N a0 N y1 (0 : Int))
theorem ok158 N a0 {r} (h : F158 N a0 = some r) : Con prog 158 [Vv (.sl (.int .i64)) a0] [.lf (.own (.int .u8) r .dp)] := by
 refine ctr [.lf (.own (.int .u8) .dp)] K func158 rfl fun w0 E0 ht => ?_
 unfold F158 at h
 show VW _ _ _ _ _ (retQ _ _ _ _) _
 refine nR K (tn 1) <| sq <| nR K (tn 3) ?_
 refine cnd h ?_ ?_<;>intro h
 ·refine nR K (tn 1) ?_
  cases h; exact VW.ret (rt [none])
 refine VW.skip <| sq <| VW.region <| nG K 2 (tn 2) ?_
 obtain⟨y1,hy,h⟩:=aS h
 refine clc false [.t (.int .i64)] [] (some 10) K (ok91 N _ hy) <| nN K (tn 1) ?_
 refine VW.join (fun s => ∃ x47, s = ⟨[(3, hh 0)], [ar 0 (.int .u8) x47 .dp]⟩ ∧ F158_j0 N x47 = some r) ?_ ?_
 ·refine nR K (tn 1) <| VW.block <| lop (fun k s => ∃ x63 x64, s = ⟨[(0, Vv (.sl (.int .i64)) a0), (3, hh 0), (4, I x64)], [ar 0 (.int .u8) x63 .dp]⟩ ∧ F158_l0 N a0 k x63 x64 = some r) N [.ren [0, 3, 4] [0]] ⟨y1, (0 : Int), rfl, h⟩ ?_
  rintro k79 s ⟨x63, x64, rfl, h⟩
  cases k79 with
  | zero => cases show none = some r from h
  | succ k79 =>
   replace h : F158_l0_b N a0 (F158_l0 N a0 k79) x63 x64 = some r := h
   unfold F158_l0_b at h
   refine sq <| nR K (tn 4) ?_
   refine cnd h ?_ ?_<;>intro h
   ·refine VW.skip <| sq <| VW.block <| sq <| sq <| VW.region ?_
    obtain⟨g89,h⟩:=gS h
    refine nG K 4 (pu 2 (an g89 (tn 1))) ?_
    obtain⟨y90,hy,h⟩:=aS h
    refine clc false [.t (.int .i64)] [] (some 21) K (ok153 N _ hy) <| nN K (tn 1) ?_
    refine cnd h ?_ ?_<;>intro h
    ·refine nR K (tn 1) ?_
     cases h; exact VW.ret (rt [none])
    refine VW.skip <| VW.region ?_
    obtain⟨g91,h⟩:=gS h
    refine nG K 5 (pu 3 (an g91 (tn 1))) ?_
    obtain⟨y92,hy,h⟩:=aS h
    refine clc false [.t (.int .i64)] [] (some 28) K (ok91 N _ hy) ?_
    obtain⟨y93,hy,h⟩:=aS h
    refine clc true [.t (.sl (.int .u8)), .t (.sl (.int .u8))] [] (some 29) K (ok92 N _ _ hy) <| nN K (tn 1) <| nE K (tn 3) ?_
    exact aro [.ren [0, 3, 4] [2]] ⟨y93, (wr (x64 + (1 : Int))), rfl, h⟩
   refine VW.exit ?_
   exact arv [.ren [3] [0]] ⟨x63, rfl, h⟩
 rintro s ⟨x47, rfl, h⟩
 unfold F158_j0 at h
 refine nR K (tn 2) ?_
 cases h; exact VW.ret (rt [some 0])
def F93 (N : Nat) (a0 : Z50) : Option ((List Int)) :=
  andO (F97 N a0) fun y2 => cond (!y2) (some ([])) (andO (F91 N a0.1) fun y3 => cond (a0.1 == (0 : Int)) (andO (F155 N a0.2.1) fun y14 => andO (F92 N y3 y14) fun y15 => some y15) (cond (a0.1 == (1 : Int)) (andO (F157 N a0.2.2.2.2.2.1) fun y16 => andO (F156 N y3 ([a0.2.2.1, a0.2.2.2.1, y16, a0.2.2.2.2.1])) fun y17 => some y17) (cond (a0.1 == (2 : Int)) (andO (F158 N a0.2.2.2.2.2.2) fun y18 => andO (F92 N y3 y18) fun y19 => some y19) (cond (a0.1 == (3 : Int)) (andO (F156 N y3 ([a0.2.2.1, a0.2.2.2.2.1])) fun y20 => some y20) (cond (a0.1 == (5 : Int)) (andO (F156 N y3 ([a0.2.2.1])) fun y21 => some y21) (cond (a0.1 == (6 : Int)) (andO (F157 N a0.2.2.2.2.2.1) fun y22 => andO (F156 N y3 ([y22, a0.2.2.2.2.1])) fun y23 => some y23) (some y3)))))))
theorem ok93 N a0 {r} (h : F93 N a0 = some r) : Con prog 93 [.agg (lv Y50 a0)] [.lf (.v (.sl (.int .u8)) r)] := by
 refine ctr [.lf (.v (.sl (.int .u8)))] K func93 rfl fun w0 E0 ht => ?_
 unfold F93 at h
 show VW _ _ _ _ _ (retQ _ _ _ _) _
 refine nR K (tn 2) <| sq <| sq <| VW.region <| nG K 1 (tn 1) ?_
 obtain⟨y2,hy,h⟩:=aS h
 refine clc false [.t Y50] [] (some 5) K (ok97 N _ hy) <| nN K (tn 1) ?_
 refine cnd h ?_ ?_<;>intro h
 ·refine nR K (tn 1) ?_
  cases h; exact VW.ret (rt [])
 refine VW.skip <| sq <| VW.region <| nG K 2 (tn 2) ?_
 obtain⟨y3,hy,h⟩:=aS h
 refine clc false [.t (.int .i64)] [] (some 9) K (ok91 N _ hy) <| nN K (tn 1) <| sq <| nR K (tn 2) <| VW.block <| nR K (tn 2) ?_
 refine cnd h ?_ ?_<;>intro h
 ·refine sq <| VW.region <| nG K 3 (tn 3) ?_
  obtain⟨y14,hy,h⟩:=aS h
  refine clc false [.t .str] [] (some 17) K (ok155 N _ hy) ?_
  obtain⟨y15,hy,h⟩:=aS h
  refine clc true [.t (.sl (.int .u8)), .t (.sl (.int .u8))] [] (some 18) K (ok92 N _ _ hy) <| nN K (tn 1) ?_
  cases h; exact VW.ret (rt [])
 refine nR K (tn 2) ?_
 refine cnd h ?_ ?_<;>intro h
 ·refine sq ?_
  obtain⟨y16,hy16,h⟩:=aS h
  obtain⟨y17,hy17,h⟩:=aS h
  refine dr K [(7, .cl [] (some 28) [.lf (.v (.int .i64) y16)]), (11, .cl [1, 2] (some 32) [.lf (.v (.sl (.int .u8)) y17)])] [(7, 0), (11, 1)] [10, 11] [2] [] (tn 13) ⟨qC false [.t .bool] [] [] (some 28) K (ok157 N _ hy16), qC false [.t (.sl (.int .u8)), .t (.sl (.int .i64))] [] [1, 2] (some 32) K (ok156 N _ _ hy17), trivial⟩ ?_
  cases h; exact VW.ret (rt [])
 refine nR K (tn 2) ?_
 refine cnd h ?_ ?_<;>intro h
 ·refine sq <| VW.region <| nG K 3 (tn 3) ?_
  obtain⟨y18,hy,h⟩:=aS h
  refine clc false [.t (.sl (.int .i64))] [] (some 38) K (ok158 N _ hy) ?_
  obtain⟨y19,hy,h⟩:=aS h
  refine clc true [.t (.sl (.int .u8)), .t (.sl (.int .u8))] [] (some 39) K (ok92 N _ _ hy) <| nN K (tn 1) ?_
  cases h; exact VW.ret (rt [])
 refine nR K (tn 2) ?_
 refine cnd h ?_ ?_<;>intro h
 ·refine sq <| VW.region <| nG K 6 (tn 6) ?_
  obtain⟨y20,hy,h⟩:=aS h
  refine VO.ghl [.frz 1, .frz 2] <| clc false [.t (.sl (.int .u8)), .t (.sl (.int .i64))] [] (some 48) K (ok156 N _ _ hy) <| nN K (tn 1) ?_
  cases h; exact VW.ret (rt [])
 refine nR K (tn 2) ?_
 refine cnd h ?_ ?_<;>intro h
 ·refine sq <| VW.region <| nG K 4 (tn 4) ?_
  obtain⟨y21,hy,h⟩:=aS h
  refine VO.ghl [.frz 1, .frz 2] <| clc false [.t (.sl (.int .u8)), .t (.sl (.int .i64))] [] (some 55) K (ok156 N _ _ hy) <| sN K [2] [] ⟨[(2, Vv (.sl (.int .u8)) y21)], []⟩ (tn 1) ?_
  cases h; exact VW.ret (rt [])
 refine nR K (tn 2) ?_
 refine cnd h ?_ ?_<;>intro h
 ·refine sq ?_
  obtain⟨y22,hy22,h⟩:=aS h
  obtain⟨y23,hy23,h⟩:=aS h
  refine dr K [(3, .cl [] (some 61) [.lf (.v (.int .i64) y22)]), (7, .cl [1, 2] (some 65) [.lf (.v (.sl (.int .u8)) y23)])] [(3, 0), (7, 1)] [6, 7] [2] [] (tn 9) ⟨qC false [.t .bool] [] [] (some 61) K (ok157 N _ hy22), qC false [.t (.sl (.int .u8)), .t (.sl (.int .i64))] [] [1, 2] (some 65) K (ok156 N _ _ hy23), trivial⟩ ?_
  cases h; exact VW.ret (rt [])
 refine VW.skip <| sR K [2] [1] ⟨[(2, hh 0)], [ar 0 (.int .u8) y3 .dp]⟩ (tn 2) ?_
 cases h; exact VW.ret (rt [])
def F159_j0 (N : Nat) (x10 : Int) : Option (Int) :=
  some x10
def F159_l0_b (N : Nat) (a0 : (List Int)) (nx18 : Int → Int → Option (Int)) (x14 : Int) (x15 : Int) : Option (Int) :=
  cond (decide (x15 < (a0.length : Int))) (gd (InR x15 a0.length) (nx18 (Int.tmod (IntKind.i64.wrap ((IntKind.i64.wrap ((269 : Int) * x14)) + (IntKind.i64.wrap (a0.getD x15.toNat (Ty.dflt (.int .u8)))))) (999983 : Int)) (IntKind.i64.wrap (x15 + (1 : Int))))) (F159_j0 N x14)
def F159_l0 (N : Nat) (a0 : (List Int)) := loopF (F159_l0_b N a0) (fun _ _ => none)
theorem F159_l0_s N a0 {k} (hk : 0 < k) x14 x15 : F159_l0 N a0 k x14 x15 = F159_l0_b N a0 (F159_l0 N a0 (k - 1)) x14 x15 := by cases k;cases hk;rfl
def F159 (N : Nat) (a0 : (List Int)) : Option (Int) :=
  F159_l0 N a0 N (5 : Int) (0 : Int)
theorem ok159 N a0 {r} (h : F159 N a0 = some r) : Con prog 159 [Vv (.sl (.int .u8)) a0] [.lf (.v (.int .i64) r)] := by
 refine ctr [.lf (.v (.int .i64))] K func159 rfl fun w0 E0 ht => ?_
 unfold F159 at h
 show VW _ _ _ _ _ (retQ _ _ _ _) _
 refine nR K (tn 1) <| nR K (tn 1) ?_
 refine VW.join (fun s => ∃ x10, s = ⟨[(3, I x10)], []⟩ ∧ F159_j0 N x10 = some r) ?_ ?_
 ·refine nR K (tn 1) <| VW.block <| lop (fun k s => ∃ x14 x15, s = ⟨[(0, Vv (.sl (.int .u8)) a0), (3, I x14), (4, I x15)], []⟩ ∧ F159_l0 N a0 k x14 x15 = some r) N [.ren [0, 3, 4] []] ⟨(5 : Int), (0 : Int), rfl, h⟩ ?_
  rintro k18 s ⟨x14, x15, rfl, h⟩
  cases k18 with
  | zero => cases show none = some r from h
  | succ k18 =>
   replace h : F159_l0_b N a0 (F159_l0 N a0 k18) x14 x15 = some r := h
   unfold F159_l0_b at h
   refine sq <| nR K (tn 4) ?_
   refine cnd h ?_ ?_<;>intro h
   ·refine VW.skip <| sq <| VW.block ?_
    obtain⟨g20,h⟩:=gS h
    refine nE K (pu 4 (an g20 (pu 3 (an (show ((999983 : Int) ≠ 0) from by decide) (tn 1))))) <| nE K (tn 3) ?_
    exact aro [.ren [0, 3, 4] []] ⟨(Int.tmod (wr ((wr ((269 : Int) * x14)) + (wr (a0.getD x15.toNat (Ty.dflt (.int .u8)))))) (999983 : Int)), (wr (x15 + (1 : Int))), rfl, h⟩
   refine VW.exit ?_
   exact arv [.ren [3] []] ⟨x14, rfl, h⟩
 rintro s ⟨x10, rfl, h⟩
 unfold F159_j0 at h
 refine nR K (tn 2) ?_
 cases h; exact VW.ret (rt [])
def F94 (N : Nat) (a0 : (List Int)) : Option ((List Int) × Bool) :=
  cond (decide ((a0.length : Int) > (4000 : Int))) (some ([], false)) (gd (0 < ([(80 : Int), (83 : Int)]).length) (andO (F91 N (a0.length : Int)) fun y2 => andO (F92 N ([(80 : Int), (83 : Int)]) y2) fun y3 => andO (F92 N y3 a0) fun y4 => andO (F159 N a0) fun y5 => andO (F91 N y5) fun y6 => andO (F92 N y4 y6) fun y7 => some (y7, true)))
theorem ok94 N a0 {r} (h : F94 N a0 = some r) : Con prog 94 [Vv (.sl (.int .u8)) a0] [.lf (.own (.int .u8) r.1 .dp), .lf (.v .bool r.2)] := by
 refine ctr [.lf (.own (.int .u8) .dp), .lf (.v .bool)] K func94 rfl fun w0 E0 ht => ?_
 unfold F94 at h
 show VW _ _ _ _ _ (retQ _ _ _ _) _
 refine nR K (tn 2) <| sq <| nR K (tn 3) ?_
 refine cnd h ?_ ?_<;>intro h
 ·refine nR K (tn 2) ?_
  cases h; exact VW.ret (rt [none])
 refine VW.skip <| sq <| VW.region <| nG K 1 (tn 1) ?_
 obtain⟨g1,h⟩:=gS h
 refine VO.mark (d := 9) (φ := 0 < ([(80 : Int), (83 : Int)]).length) (v := Vv (.sl (.int .u8)) ([(80 : Int), (83 : Int)])) (H' := [none]) K (by kernel_rfl) g1 <| nG K 2 (tn 2) ?_
 obtain⟨y2,hy,h⟩:=aS h
 refine clc false [.t (.int .i64)] [] (some 12) K (ok91 N _ hy) ?_
 obtain⟨y3,hy,h⟩:=aS h
 refine clc true [.t (.sl (.int .u8)), .t (.sl (.int .u8))] [] (some 13) K (ok92 N _ _ hy) <| nN K (tn 1) <| sq <| VW.region <| nG K 2 (tn 2) ?_
 obtain⟨y4,hy,h⟩:=aS h
 refine clc true [.t (.sl (.int .u8)), .t (.sl (.int .u8))] [] (some 16) K (ok92 N _ _ hy) <| nG K 1 (tn 1) ?_
 obtain⟨y5,hy,h⟩:=aS h
 refine clc false [.t (.sl (.int .u8))] [] (some 18) K (ok159 N _ hy) ?_
 obtain⟨y6,hy,h⟩:=aS h
 refine clc false [.t (.int .i64)] [] (some 19) K (ok91 N _ hy) ?_
 obtain⟨y7,hy,h⟩:=aS h
 refine clc true [.t (.sl (.int .u8)), .t (.sl (.int .u8))] [] (some 20) K (ok92 N _ _ hy) <| nN K (tn 2) ?_
 cases h; exact VW.ret (rt [some 5])
def F51_j0 (N : Nat) (x25 : (List Int)) : Option ((List Int) × Bool) :=
  andO (F94 N x25) fun y26 => some (y26.1, y26.2)
def F51_l0_b (N : Nat) (a0 : (List Z50)) (nx42 : (List Int) → Int → Option ((List Int) × Bool)) (x34 : (List Int)) (x35 : Int) : Option ((List Int) × Bool) :=
  cond (decide (x35 < (a0.length : Int))) (gd (InR x35 a0.length) (andO (F93 N (a0.getD x35.toNat (Ty.dflt Y50))) fun y47 => andO (F92 N x34 y47) fun y48 => nx42 y48 (IntKind.i64.wrap (x35 + (1 : Int))))) (F51_j0 N x34)
def F51_l0 (N : Nat) (a0 : (List Z50)) := loopF (F51_l0_b N a0) (fun _ _ => none)
theorem F51_l0_s N a0 {k} (hk : 0 < k) x34 x35 : F51_l0 N a0 k x34 x35 = F51_l0_b N a0 (F51_l0 N a0 (k - 1)) x34 x35 := by cases k;cases hk;rfl
def F51 (N : Nat) (a0 : (List Z50)) : Option ((List Int) × Bool) :=
  andO (F54 N a0) fun y2 => cond (!y2) (some ([], false)) (andO (F91 N (a0.length : Int)) fun y3 => F51_l0 N a0 N y3 (0 : Int))
theorem ok51 N a0 {r} (h : F51 N a0 = some r) : Con prog 51 [Vv (.sl Y50) a0] [.lf (.own (.int .u8) r.1 .dp), .lf (.v .bool r.2)] := by
 refine ctr [.lf (.own (.int .u8) .dp), .lf (.v .bool)] K func51 rfl fun w0 E0 ht => ?_
 unfold F51 at h
 show VW _ _ _ _ _ (retQ _ _ _ _) _
 refine nR K (tn 2) <| sq <| sq <| VW.region <| nG K 1 (tn 1) ?_
 obtain⟨y2,hy,h⟩:=aS h
 refine clc false [.t (.sl Y50)] [] (some 7) K (ok54 N _ hy) <| nN K (tn 1) ?_
 refine cnd h ?_ ?_<;>intro h
 ·refine nR K (tn 2) ?_
  cases h; exact VW.ret (rt [none])
 refine VW.skip <| sq <| VW.region <| nG K 2 (tn 2) ?_
 obtain⟨y3,hy,h⟩:=aS h
 refine clc false [.t (.int .i64)] [] (some 11) K (ok91 N _ hy) <| nN K (tn 1) ?_
 refine VW.join (fun s => ∃ x25, s = ⟨[(4, hh 0)], [ar 0 (.int .u8) x25 .dp]⟩ ∧ F51_j0 N x25 = some r) ?_ ?_
 ·refine nR K (tn 1) <| VW.block <| lop (fun k s => ∃ x34 x35, s = ⟨[(0, Vv (.sl Y50) a0), (4, hh 0), (5, I x35)], [ar 0 (.int .u8) x34 .dp]⟩ ∧ F51_l0 N a0 k x34 x35 = some r) N [.ren [0, 4, 5] [0]] ⟨y3, (0 : Int), rfl, h⟩ ?_
  rintro k42 s ⟨x34, x35, rfl, h⟩
  cases k42 with
  | zero => cases show none = some r from h
  | succ k42 =>
   replace h : F51_l0_b N a0 (F51_l0 N a0 k42) x34 x35 = some r := h
   unfold F51_l0_b at h
   refine sq <| nR K (tn 4) ?_
   refine cnd h ?_ ?_<;>intro h
   ·refine VW.skip <| sq <| VW.block <| VW.region ?_
    obtain⟨g46,h⟩:=gS h
    refine nG K 5 (pu 3 (an g46 (tn 1))) ?_
    obtain⟨y47,hy,h⟩:=aS h
    refine clc false [.t Y50] [] (some 23) K (ok93 N _ hy) ?_
    obtain⟨y48,hy,h⟩:=aS h
    refine clc true [.t (.sl (.int .u8)), .t (.sl (.int .u8))] [] (some 24) K (ok92 N _ _ hy) <| nN K (tn 1) <| nE K (tn 3) ?_
    exact aro [.ren [0, 4, 5] [1]] ⟨y48, (wr (x35 + (1 : Int))), rfl, h⟩
   refine VW.exit ?_
   exact arv [.ren [4] [0]] ⟨x34, rfl, h⟩
 rintro s ⟨x25, rfl, h⟩
 unfold F51_j0 at h
 refine sq <| VW.region <| nG K 1 (tn 1) ?_
 obtain⟨y26,hy,h⟩:=aS h
 refine clc true [.t (.sl (.int .u8))] [] (some 26) K (ok94 N _ hy) <| nN K (tn 4) ?_
 cases h; exact VW.ret (rt [some 1])
def F18_j0 (N : Nat) (x19 : Int) : Option (Int) :=
  some x19
def F18_l0_b (N : Nat) (nx33 : (List Int) → Int → Int → Option (Int)) (x26 : (List Int)) (x27 : Int) (x28 : Int) : Option (Int) :=
  cond (decide (x28 < (x26.length : Int))) (gd (InR x28 x26.length) (gd (x28.toNat < x26.length) (nx33 x26 (Int.tmod (IntKind.i64.wrap ((IntKind.i64.wrap ((31 : Int) * x27)) + (IntKind.i64.wrap (x26.getD x28.toNat (Ty.dflt (.int .u8)))))) (251 : Int)) (IntKind.i64.wrap (x28 + (1 : Int)))))) (F18_j0 N x27)
def F18_l0 (N : Nat) := loopF (F18_l0_b N) (fun _ _ _ => none)
theorem F18_l0_s N {k} (hk : 0 < k) x26 x27 x28 : F18_l0 N k x26 x27 x28 = F18_l0_b N (F18_l0 N (k - 1)) x26 x27 x28 := by cases k;cases hk;rfl
def F18 (N : Nat) (a0 : (List Z50)) : Option (Int) :=
  andO (F51 N a0) fun y1 => cond (!y1.2) (some (-1 : Int)) (F18_l0 N N y1.1 (97 : Int) (0 : Int))
theorem ok18 N a0 {r} (h : F18 N a0 = some r) : Con prog 18 [Vv (.sl Y50) a0] [.lf (.v (.int .i64) r)] := by
 refine ctr [.lf (.v (.int .i64))] K func18 rfl fun w0 E0 ht => ?_
 unfold F18 at h
 show VW _ _ _ _ _ (retQ _ _ _ _) _
 refine nR K (tn 1) <| sq <| VW.region <| nG K 1 (tn 1) ?_
 obtain⟨y1,hy,h⟩:=aS h
 refine clc false [.t (.sl Y50)] [] (some 9) K (ok51 N _ hy) <| nN K (tn 5) <| sq <| nR K (tn 2) ?_
 refine cnd h ?_ ?_<;>intro h
 ·refine nR K (tn 1) ?_
  cases h; exact VW.ret (rt [])
 refine VW.skip <| nR K (tn 1) ?_
 refine VW.join (fun s => ∃ x19, s = ⟨[(5, I x19)], []⟩ ∧ F18_j0 N x19 = some r) ?_ ?_
 ·refine nR K (tn 1) <| VW.block <| lop (fun k s => ∃ x26 x27 x28, s = ⟨[(3, hh 0), (5, I x27), (6, I x28)], [ar 0 (.int .u8) x26 .dp]⟩ ∧ F18_l0 N k x26 x27 x28 = some r) N [.ren [3, 5, 6] [0]] ⟨y1.1, (97 : Int), (0 : Int), rfl, h⟩ ?_
  rintro k33 s ⟨x26, x27, x28, rfl, h⟩
  cases k33 with
  | zero => cases show none = some r from h
  | succ k33 =>
   replace h : F18_l0_b N (F18_l0 N k33) x26 x27 x28 = some r := h
   unfold F18_l0_b at h
   refine sq <| nR K (tn 4) ?_
   refine cnd h ?_ ?_<;>intro h
   ·refine VW.skip <| sq <| VW.block ?_
    obtain⟨g36,h⟩:=gS h
    obtain⟨g37,h⟩:=gS h
    refine nE K (pu 4 (an g36 (an g37 (pu 2 (an (show ((251 : Int) ≠ 0) from by decide) (tn 1)))))) <| nE K (tn 3) ?_
    exact aro [.ren [3, 5, 6] [0]] ⟨x26, (Int.tmod (wr ((wr ((31 : Int) * x27)) + (wr (x26.getD x28.toNat (Ty.dflt (.int .u8)))))) (251 : Int)), (wr (x28 + (1 : Int))), rfl, h⟩
   refine VW.exit ?_
   exact arv [.ren [5] []] ⟨x27, rfl, h⟩
 rintro s ⟨x19, rfl, h⟩
 unfold F18_j0 at h
 refine nR K (tn 2) ?_
 cases h; exact VW.ret (rt [])
def F19_j0 (N : Nat) (x64 : (List Z50)) : Option ((List Z50)) :=
  some x64
def F19_j1 (N : Nat) (nx109 : (List Int) → Int → Int → (List Z50) → Int → Option ((List Z50))) (x91 : Int) (x116 : (List Int)) (x117 : Int) (x118 : Int) (x119 : (List Z50)) : Option ((List Z50)) :=
  nx109 x116 x117 x118 x119 (IntKind.i64.wrap (x91 + (1 : Int)))
def F19_l0_b (N : Nat) (nx109 : (List Int) → Int → Int → (List Z50) → Int → Option ((List Z50))) (x87 : (List Int)) (x88 : Int) (x89 : Int) (x90 : (List Z50)) (x91 : Int) : Option ((List Z50)) :=
  cond (decide (x91 < (x90.length : Int))) (gd (InR x91 x90.length) (gd (x91.toNat < x90.length) (cond ((x90.getD x91.toNat (Ty.dflt Y50)).2.2.2.2.2.1) (andO (F34 N (x87, (x88, x89)) (2 : Int)) fun y123 => cond y123.2 (andO (F52 N y123.1 (6 : Int)) fun y124 => gd (InR x91 x90.length) (gd (x91.toNat < x90.length) (F19_j1 N nx109 x91 y124.1.1 y124.1.2.1 y124.1.2.2 (x90.set x91.toNat ((x90.getD x91.toNat (Ty.dflt Y50)).1, ((x90.getD x91.toNat (Ty.dflt Y50)).2.1, ((x90.getD x91.toNat (Ty.dflt Y50)).2.2.1, ((x90.getD x91.toNat (Ty.dflt Y50)).2.2.2.1, (y124.2, ((x90.getD x91.toNat (Ty.dflt Y50)).2.2.2.2.2.1, (x90.getD x91.toNat (Ty.dflt Y50)).2.2.2.2.2.2)))))))))) (F19_j1 N nx109 x91 y123.1.1 y123.1.2.1 y123.1.2.2 x90)) (F19_j1 N nx109 x91 x87 x88 x89 x90)))) (F19_j0 N x90)
def F19_l0 (N : Nat) := loopF (F19_l0_b N) (fun _ _ _ _ _ => none)
theorem F19_l0_s N {k} (hk : 0 < k) x87 x88 x89 x90 x91 : F19_l0 N k x87 x88 x89 x90 x91 = F19_l0_b N (F19_l0 N (k - 1)) x87 x88 x89 x90 x91 := by cases k;cases hk;rfl
def F19 (N : Nat) (a0 : (List Int)) : Option ((List Z50)) :=
  andO (F33 N a0) fun y1 => andO (F35 N y1 a0) fun y2 => F19_l0 N N y2.1.1 y2.1.2.1 y2.1.2.2 y2.2 (0 : Int)
theorem ok19 N a0 {r} (h : F19 N a0 = some r) : Con prog 19 [Vv (.sl (.int .u8)) a0] [.lf (.own Y50 r .tp)] := by
 refine ctr [.lf (.own Y50 .tp)] K func19 rfl fun w0 E0 ht => ?_
 unfold F19 at h
 show VW _ _ _ _ _ (retQ _ _ _ _) _
 refine nR K (tn 1) <| sq <| VW.region <| nG K 1 (tn 1) ?_
 obtain⟨y1,hy,h⟩:=aS h
 refine VO.callB [.t (.sl (.int .u8))] (d := 7) (by kernel_rfl) (ok33 N _ hy) <| nN K (tn 1) <| sq <| VW.region <| nG K 2 (tn 2) ?_
 obtain⟨y2,hy,h⟩:=aS h
 refine VO.callM [0] [.r, .t (.sl (.int .u8))] (d := some 10) (by kernel_rfl) (by kernel_rfl) (ok35 N _ _ hy) (by kernel_rfl) <| nN K (tn 1) ?_
 refine VW.join (fun s => ∃ x64, s = ⟨[(4, hh 0)], [ar 0 Y50 x64 .tp]⟩ ∧ F19_j0 N x64 = some r) ?_ ?_
 ·refine nR K (tn 1) <| VW.block <| lop (fun k s => ∃ x87 x88 x89 x90 x91, s = ⟨[(3, .lf (.ptr 0 0 0 0)), (4, hh 1), (5, I x91)], [bx [.v (.sl (.int .u8)) x87, zi x88, zi x89] 85, ar 0 Y50 x90 .tp]⟩ ∧ F19_l0 N k x87 x88 x89 x90 x91 = some r) N [.ren [3, 4, 5] [0, 1]] ⟨y2.1.1, y2.1.2.1, y2.1.2.2, y2.2, (0 : Int), rfl, h⟩ ?_
  rintro k109 s ⟨x87, x88, x89, x90, x91, rfl, h⟩
  cases k109 with
  | zero => cases show none = some r from h
  | succ k109 =>
   replace h : F19_l0_b N (F19_l0 N k109) x87 x88 x89 x90 x91 = some r := h
   unfold F19_l0_b at h
   refine sq <| nR K (tn 4) ?_
   refine cnd h ?_ ?_<;>intro h
   ·refine VW.skip ?_
    refine VW.join (fun s => ∃ x116 x117 x118 x119, s = ⟨[(3, .lf (.ptr 0 0 0 0)), (4, hh 1), (5, I x91)], [bx [.v (.sl (.int .u8)) x116, zi x117, zi x118] 85, ar 0 Y50 x119 .tp]⟩ ∧ F19_j1 N (F19_l0 N k109) x91 x116 x117 x118 x119 = some r) ?_ ?_
    ·refine VW.block <| sq <| VW.region ?_
     obtain⟨g121,h⟩:=gS h
     obtain⟨g122,h⟩:=gS h
     refine nG K 6 (pu 2 (an g121 (pu 1 (an g122 (tn 1))))) ?_
     refine spC 22 h ?_ ?_<;>intro h
     ·refine nG K 1 (tn 1) <| VO.on (j := 5) (want := true) (d := 22) (b := true) rfl rfl rfl (by kernel_rfl) rfl ?_
      obtain⟨y123,hy,h⟩:=aS h
      refine VO.callM [0] [.r, .t (.int .i64)] (d := some 24) (by kernel_rfl) (by kernel_rfl) (ok34 N _ _ hy) (by kernel_rfl) <| nN K (tn 1) ?_
      refine cnd h ?_ ?_<;>intro h
      ·refine VW.region <| nG K 3 (tn 3) ?_
       obtain⟨y124,hy,h⟩:=aS h
       refine VO.callM [0] [.r, .t (.int .i64)] (d := some 29) (by kernel_rfl) (by kernel_rfl) (ok52 N _ _ hy) (by kernel_rfl) ?_
       obtain⟨g125,h⟩:=gS h
       obtain⟨g126,h⟩:=gS h
       refine nN K (an g125 (pu 1 (an g126 (tn 0)))) ?_
       exact arv [.ren [3, 4, 5] [0, 1]] ⟨y124.1.1, y124.1.2.1, y124.1.2.2, (x90.set x91.toNat ((x90.getD x91.toNat D50).1, ((x90.getD x91.toNat D50).2.1, ((x90.getD x91.toNat D50).2.2.1, ((x90.getD x91.toNat D50).2.2.2.1, (y124.2, ((x90.getD x91.toNat D50).2.2.2.2.2.1, (x90.getD x91.toNat D50).2.2.2.2.2.2))))))), rfl, h⟩
      refine VW.skip ?_
      exact arv [.ren [3, 4, 5] [0, 1]] ⟨y123.1.1, y123.1.2.1, y123.1.2.2, x90, rfl, h⟩
     refine nN K (tn 3) ?_
     refine VW.cond (b := false) (by kernel_rfl) (fun h' => nomatch h') (fun _ => ?_)
     refine VW.skip ?_
     exact arv [.ren [3, 4, 5] [0, 1]] ⟨x87, x88, x89, x90, rfl, h⟩
    rintro s ⟨x116, x117, x118, x119, rfl, h⟩
    unfold F19_j1 at h
    refine nE K (tn 3) ?_
    exact aro [.ren [3, 4, 5] [0, 1]] ⟨x116, x117, x118, x119, (wr (x91 + (1 : Int))), rfl, h⟩
   refine VW.exit ?_
   exact arv [.ren [4] [1]] ⟨x90, rfl, h⟩
 rintro s ⟨x64, rfl, h⟩
 unfold F19_j0 at h
 refine nR K (tn 2) ?_
 cases h; exact VW.ret (rt [some 0])
def F20_j0 (N : Nat) (x17 : (List Int)) : Option ((List Int)) :=
  some x17
def F20_l0_b (N : Nat) (a0 : (List Int)) (nx30 : (List Int) → Int → Option ((List Int))) (x24 : (List Int)) (x25 : Int) : Option ((List Int)) :=
  cond (decide (x25 < (a0.length : Int))) (cond (decide (x25 < (3000 : Int))) (gd (InR x25 a0.length) (gd (x24.length + ([(a0.getD x25.toNat (Ty.dflt (.int .u8)))]).length ≤ lim (.int .u8)) (nx30 (x24 ++ ([(a0.getD x25.toNat (Ty.dflt (.int .u8)))])) (IntKind.i64.wrap (x25 + (1 : Int)))))) (F20_j0 N x24)) (F20_j0 N x24)
def F20_l0 (N : Nat) (a0 : (List Int)) := loopF (F20_l0_b N a0) (fun _ _ => none)
theorem F20_l0_s N a0 {k} (hk : 0 < k) x24 x25 : F20_l0 N a0 k x24 x25 = F20_l0_b N a0 (F20_l0 N a0 (k - 1)) x24 x25 := by cases k;cases hk;rfl
def F20 (N : Nat) (a0 : (List Int)) (a1 : Int) : Option ((List Int)) :=
  F20_l0 N a0 N ([(IntKind.u8.wrap a1)]) (0 : Int)
theorem ok20 N a0 a1 {r} (h : F20 N a0 a1 = some r) : Con prog 20 [Vv (.sl (.int .u8)) a0, I a1] [.lf (.own (.int .u8) r .dp)] := by
 refine ctr [.lf (.own (.int .u8) .dp)] K func20 rfl fun w0 E0 ht => ?_
 unfold F20 at h
 show VW _ _ _ _ _ (retQ _ _ _ _) _
 refine nR K (tn 1) <| nR K (tn 4) ?_
 refine VW.join (fun s => ∃ x17, s = ⟨[(5, hh 0)], [ar 0 (.int .u8) x17 .dp]⟩ ∧ F20_j0 N x17 = some r) ?_ ?_
 ·refine nR K (tn 1) <| VW.block <| lop (fun k s => ∃ x24 x25, s = ⟨[(0, Vv (.sl (.int .u8)) a0), (5, hh 0), (6, I x25)], [ar 0 (.int .u8) x24 .dp]⟩ ∧ F20_l0 N a0 k x24 x25 = some r) N [.ren [0, 5, 6] [0]] ⟨[(IntKind.u8.wrap a1)], (0 : Int), rfl, h⟩ ?_
  rintro k30 s ⟨x24, x25, rfl, h⟩
  cases k30 with
  | zero => cases show none = some r from h
  | succ k30 =>
   replace h : F20_l0_b N a0 (F20_l0 N a0 k30) x24 x25 = some r := h
   unfold F20_l0_b at h
   refine sq <| sq <| VW.region <| nG K 5 (tn 5) ?_
   refine spC 14 h ?_ ?_<;>intro h
   ·refine nN K (tn 3) ?_
    refine cnd h ?_ ?_<;>intro h
    ·refine VW.skip <| sq <| VW.block ?_
     obtain⟨g33,h⟩:=gS h
     obtain⟨g34,h⟩:=gS h
     refine nE K (pu 3 (an g33 (pu 2 (an g34 (tn 1))))) <| nE K (tn 3) ?_
     exact aro [.ren [0, 5, 6] [0]] ⟨(x24 ++ ([(a0.getD x25.toNat (Ty.dflt (.int .u8)))])), (wr (x25 + (1 : Int))), rfl, h⟩
    refine VW.exit ?_
    exact arv [.ren [5] [0]] ⟨x24, rfl, h⟩
   refine nN K (tn 3) ?_
   refine VW.cond (b := false) (by kernel_rfl) (fun h' => nomatch h') (fun _ => ?_)
   refine VW.exit ?_
   exact arv [.ren [5] [0]] ⟨x24, rfl, h⟩
 rintro s ⟨x17, rfl, h⟩
 unfold F20_j0 at h
 refine nR K (tn 2) ?_
 cases h; exact VW.ret (rt [some 0])
def F53_j0 (N : Nat) : Option (Int) :=
  some (-1 : Int)
def F53_l0_b (N : Nat) (a0 : (List Int)) (a1 : Int) (nx19 : Int → Int → Option (Int)) (x15 : Int) (x16 : Int) : Option (Int) :=
  cond (decide (x16 < x15)) (gd (InR x16 a0.length) (cond (a1 == (a0.getD x16.toNat (Ty.dflt (.int .i64)))) (some x16) (nx19 x15 (IntKind.i64.wrap (x16 + (1 : Int)))))) (F53_j0 N)
def F53_l0 (N : Nat) (a0 : (List Int)) (a1 : Int) := loopF (F53_l0_b N a0 a1) (fun _ _ => none)
theorem F53_l0_s N a0 a1 {k} (hk : 0 < k) x15 x16 : F53_l0 N a0 a1 k x15 x16 = F53_l0_b N a0 a1 (F53_l0 N a0 a1 (k - 1)) x15 x16 := by cases k;cases hk;rfl
def F53 (N : Nat) (a0 : (List Int)) (a1 : Int) : Option (Int) :=
  F53_l0 N a0 a1 N (a0.length : Int) (0 : Int)
theorem ok53 N a0 a1 {r} (h : F53 N a0 a1 = some r) : Con prog 53 [Vv (.sl (.int .i64)) a0, I a1] [.lf (.v (.int .i64) r)] := by
 refine ctr [.lf (.v (.int .i64))] K func53 rfl fun w0 E0 ht => ?_
 unfold F53 at h
 show VW _ _ _ _ _ (retQ _ _ _ _) _
 refine nR K (tn 1) ?_
 refine VW.join (fun s => s = ⟨[], []⟩ ∧ F53_j0 N = some r) ?_ ?_
 ·refine nR K (tn 3) <| VW.block <| lop (fun k s => ∃ x15 x16, s = ⟨[(0, Vv (.sl (.int .i64)) a0), (1, I a1), (7, I x15), (8, I x16)], []⟩ ∧ F53_l0 N a0 a1 k x15 x16 = some r) N [.ren [0, 1, 7, 8] []] ⟨(a0.length : Int), (0 : Int), rfl, h⟩ ?_
  rintro k19 s ⟨x15, x16, rfl, h⟩
  cases k19 with
  | zero => cases show none = some r from h
  | succ k19 =>
   replace h : F53_l0_b N a0 a1 (F53_l0 N a0 a1 k19) x15 x16 = some r := h
   unfold F53_l0_b at h
   refine nR K (tn 1) <| sq ?_
   refine cnd h ?_ ?_<;>intro h
   ·refine VW.skip <| sq <| VW.block <| nR K (tn 2) ?_
    obtain⟨g21,h⟩:=gS h
    refine nR K (pu 3 (an g21 (tn 2))) ?_
    refine cnd h ?_ ?_<;>intro h
    ·refine nR K (tn 2) ?_
     cases h; exact VW.ret (rt [])
    refine VW.skip <| nE K (tn 2) ?_
    exact aro [.ren [0, 1, 7, 8] []] ⟨x15, (wr (x16 + (1 : Int))), rfl, h⟩
   refine VW.exit ?_
   exact arv [.ren [] []] ⟨rfl, h⟩
 rintro s ⟨rfl, h⟩
 unfold F53_j0 at h
 refine nR K (tn 1) ?_
 cases h; exact VW.ret (rt [])
def F21_j0 (N : Nat) (x97 : (List Z50)) : Option ((List Z50) × Bool) :=
  some (x97, true)
def F21_j1 (N : Nat) (nx162 : (List Z50) → (List Int) → Int → Int → Option ((List Z50) × Bool)) (x131 : Int) (x132 : Int) (x176 : (List Z50)) (x177 : (List Int)) : Option ((List Z50) × Bool) :=
  nx162 x176 x177 x131 (IntKind.i64.wrap (x132 + (1 : Int)))
def F21_j2 (N : Nat) (nx162 : (List Z50) → (List Int) → Int → Int → Option ((List Z50) × Bool)) (x129 : (List Z50)) (x131 : Int) (x132 : Int) (x186 : (List Int)) (x187 : Int) : Option ((List Z50) × Bool) :=
  gd (x132.toNat < x129.length) (F21_j1 N nx162 x131 x132 (x129.set x132.toNat ((x129.getD x132.toNat (Ty.dflt Y50)).1, ((x129.getD x132.toNat (Ty.dflt Y50)).2.1, ((x129.getD x132.toNat (Ty.dflt Y50)).2.2.1, ((x129.getD x132.toNat (Ty.dflt Y50)).2.2.2.1, (x187, ((x129.getD x132.toNat (Ty.dflt Y50)).2.2.2.2.2.1, (x129.getD x132.toNat (Ty.dflt Y50)).2.2.2.2.2.2))))))) x186)
def F21_l0_b (N : Nat) (nx162 : (List Z50) → (List Int) → Int → Int → Option ((List Z50) × Bool)) (x129 : (List Z50)) (x130 : (List Int)) (x131 : Int) (x132 : Int) : Option ((List Z50) × Bool) :=
  cond (decide (x132 < x131)) (gd (InR x132 x129.length) (gd (x132.toNat < x129.length) (cond (!((x129.getD x132.toNat (Ty.dflt Y50)).2.2.2.2.2.1)) (F21_j1 N nx162 x131 x132 x129 x130) (gd (x132.toNat < x129.length) (andO (F53 N x130 ((x129.getD x132.toNat (Ty.dflt Y50)).2.2.2.2.1)) fun y183 => cond (decide (y183 < (0 : Int))) (gd (x132.toNat < x129.length) (gd (x130.length + ([(x129.getD x132.toNat (Ty.dflt Y50)).2.2.2.2.1]).length ≤ lim (.int .i64)) (F21_j2 N nx162 x129 x131 x132 (x130 ++ ([(x129.getD x132.toNat (Ty.dflt Y50)).2.2.2.2.1])) (x130.length : Int)))) (F21_j2 N nx162 x129 x131 x132 x130 y183)))))) (F21_j0 N x129)
def F21_l0 (N : Nat) := loopF (F21_l0_b N) (fun _ _ _ _ => none)
theorem F21_l0_s N {k} (hk : 0 < k) x129 x130 x131 x132 : F21_l0 N k x129 x130 x131 x132 = F21_l0_b N (F21_l0 N (k - 1)) x129 x130 x131 x132 := by cases k;cases hk;rfl
def F21 (N : Nat) (a0 : (List Z50)) : Option ((List Z50) × Bool) :=
  andO (F44 N a0) fun y2 => cond (!y2) (some ([], false)) (andO (F40 N a0) fun y3 => F21_l0 N N y3 ([]) (y3.length : Int) (0 : Int))
theorem ok21 N a0 {r} (h : F21 N a0 = some r) : Con prog 21 [Vv (.sl Y50) a0] [.lf (.own Y50 r.1 .dp), .lf (.v .bool r.2)] := by
 refine ctr [.lf (.own Y50 .dp), .lf (.v .bool)] K func21 rfl fun w0 E0 ht => ?_
 unfold F21 at h
 show VW _ _ _ _ _ (retQ _ _ _ _) _
 refine nR K (tn 2) <| sq <| sq <| VW.region <| nG K 1 (tn 1) ?_
 obtain⟨y2,hy,h⟩:=aS h
 refine clc false [.t (.sl Y50)] [] (some 10) K (ok44 N _ hy) <| nN K (tn 1) ?_
 refine cnd h ?_ ?_<;>intro h
 ·refine nR K (tn 2) ?_
  cases h; exact VW.ret (rt [none])
 refine VW.skip <| sq <| VW.region <| nG K 1 (tn 1) ?_
 obtain⟨y3,hy,h⟩:=aS h
 refine clc false [.t (.sl Y50)] [] (some 13) K (ok40 N _ hy) <| nN K (tn 1) <| nR K (tn 1) ?_
 refine VW.join (fun s => ∃ x97, s = ⟨[(4, hh 0)], [ar 0 Y50 x97 .dp]⟩ ∧ F21_j0 N x97 = some r) ?_ ?_
 ·refine nR K (tn 3) <| VW.block <| lop (fun k s => ∃ x129 x130 x131 x132, s = ⟨[(4, hh 0), (5, hh 1), (15, I x131), (16, I x132)], [ar 0 Y50 x129 .dp, ar 0 (.int .i64) x130 .dp]⟩ ∧ F21_l0 N k x129 x130 x131 x132 = some r) N [.nilS 5 (.int .i64) .dp, .ren [4, 5, 15, 16] [0, 1]] ⟨y3, [], (y3.length : Int), (0 : Int), rfl, h⟩ ?_
  rintro k162 s ⟨x129, x130, x131, x132, rfl, h⟩
  cases k162 with
  | zero => cases show none = some r from h
  | succ k162 =>
   replace h : F21_l0_b N (F21_l0 N k162) x129 x130 x131 x132 = some r := h
   unfold F21_l0_b at h
   refine nR K (tn 1) <| sq ?_
   refine cnd h ?_ ?_<;>intro h
   ·refine VW.skip ?_
    refine VW.join (fun s => ∃ x176 x177, s = ⟨[(4, hh 0), (5, hh 1), (15, I x131), (16, I x132)], [ar 0 Y50 x176 .dp, ar 0 (.int .i64) x177 .dp]⟩ ∧ F21_j1 N (F21_l0 N k162) x131 x132 x176 x177 = some r) ?_ ?_
    ·refine VW.block <| nR K (tn 2) ?_
     obtain⟨g179,h⟩:=gS h
     refine nR K (pu 2 (an g179 (tn 1))) <| sq ?_
     obtain⟨g181,h⟩:=gS h
     refine nR K (pu 3 (an g181 (tn 1))) ?_
     refine cnd h ?_ ?_<;>intro h
     ·refine VW.exit ?_
      exact arv [.ren [4, 5, 15, 16] [0, 1]] ⟨x129, x130, rfl, h⟩
     refine VW.skip <| sq <| VW.region ?_
     obtain⟨g182,h⟩:=gS h
     refine nG K 5 (pu 4 (an g182 (tn 0))) ?_
     obtain⟨y183,hy,h⟩:=aS h
     refine clc true [.t (.sl (.int .i64)), .t (.int .i64)] [] (some 32) K (ok53 N _ _ hy) <| nN K (tn 1) ?_
     refine VW.join (fun s => ∃ x186 x187, s = ⟨[(4, hh 0), (5, hh 1), (7, .lf (.ptr 0 0 x132.toNat 0)), (8, I x187), (15, I x131), (16, I x132)], [ar 0 Y50 x129 .dp, ar 0 (.int .i64) x186 .dp]⟩ ∧ F21_j2 N (F21_l0 N k162) x129 x131 x132 x186 x187 = some r) ?_ ?_
     ·refine nR K (tn 2) ?_
      refine cnd h ?_ ?_<;>intro h
      ·refine nR K (tn 3) ?_
       obtain⟨g190,h⟩:=gS h
       obtain⟨g191,h⟩:=gS h
       refine nE K (pu 4 (an g190 (pu 1 (an g191 (tn 1))))) ?_
       exact arv [.ren [4, 5, 7, 8, 15, 16] [0, 1]] ⟨(x130 ++ ([(x129.getD x132.toNat D50).2.2.2.2.1])), (x130.length : Int), rfl, h⟩
      refine VW.skip ?_
      exact arv [.ren [4, 5, 7, 8, 15, 16] [0, 1]] ⟨x130, y183, rfl, h⟩
     rintro s ⟨x186, x187, rfl, h⟩
     unfold F21_j2 at h
     obtain⟨g188,h⟩:=gS h
     refine nE K (pu 4 (an g188 (tn 0))) ?_
     exact arv [.ren [4, 5, 15, 16] [0, 1]] ⟨(x129.set x132.toNat ((x129.getD x132.toNat D50).1, ((x129.getD x132.toNat D50).2.1, ((x129.getD x132.toNat D50).2.2.1, ((x129.getD x132.toNat D50).2.2.2.1, (x187, ((x129.getD x132.toNat D50).2.2.2.2.2.1, (x129.getD x132.toNat D50).2.2.2.2.2.2))))))), x186, rfl, h⟩
    rintro s ⟨x176, x177, rfl, h⟩
    unfold F21_j1 at h
    refine nE K (tn 2) ?_
    exact aro [.ren [4, 5, 15, 16] [0, 1]] ⟨x176, x177, x131, (wr (x132 + (1 : Int))), rfl, h⟩
   refine VW.exit ?_
   exact arv [.ren [4] [0]] ⟨x129, rfl, h⟩
 rintro s ⟨x97, rfl, h⟩
 unfold F21_j0 at h
 refine nR K (tn 3) ?_
 cases h; exact VW.ret (rt [some 0])
def F22_j0 (N : Nat) (x335 : (List Z50)) : Option ((List Z50) × Bool) :=
  some (x335, true)
def F22_j1 (N : Nat) (nx558 : (List Z50) → (List Int) → Int → Option ((List Z50) × Bool)) (x448 : Int) (x612 : (List Z50)) (x613 : (List Int)) : Option ((List Z50) × Bool) :=
  nx558 x612 x613 (IntKind.i64.wrap (x448 + (1 : Int)))
def F22_j2 (N : Nat) (nx650 : (List Z50) → Int → Option ((List Z50) × Bool)) (x637 : Int) (x656 : (List Z50)) : Option ((List Z50) × Bool) :=
  nx650 x656 (IntKind.i64.wrap (x637 + (1 : Int)))
def F22_l0_b (N : Nat) (a0 : (List Z50)) (nx558 : (List Z50) → (List Int) → Int → Option ((List Z50) × Bool)) (x448 : Int) (x623 : (List Int)) (nx650 : (List Z50) → Int → Option ((List Z50) × Bool)) (x636 : (List Z50)) (x637 : Int) : Option ((List Z50) × Bool) :=
  cond (decide (x637 < (x623.length : Int))) (gd (InR x637 x623.length) (gd (x637.toNat < x623.length) (gd (InR x448 a0.length) (cond ((x623.getD x637.toNat (Ty.dflt (.int .i64))) == ((a0.getD x448.toNat (Ty.dflt Y50)).2.2.2.2.1)) (gd (InR x448 x636.length) (gd (x448.toNat < x636.length) (F22_j2 N nx650 x637 (x636.set x448.toNat ((x636.getD x448.toNat (Ty.dflt Y50)).1, ((x636.getD x448.toNat (Ty.dflt Y50)).2.1, ((x636.getD x448.toNat (Ty.dflt Y50)).2.2.1, ((x636.getD x448.toNat (Ty.dflt Y50)).2.2.2.1, (x637, ((x636.getD x448.toNat (Ty.dflt Y50)).2.2.2.2.2.1, (x636.getD x448.toNat (Ty.dflt Y50)).2.2.2.2.2.2)))))))))) (F22_j2 N nx650 x637 x636))))) (F22_j1 N nx558 x448 x636 x623)
def F22_l0 (N : Nat) (a0 : (List Z50)) (nx558 : (List Z50) → (List Int) → Int → Option ((List Z50) × Bool)) (x448 : Int) (x623 : (List Int)) := loopF (F22_l0_b N a0 nx558 x448 x623) (fun _ _ => none)
theorem F22_l0_s N a0 nx558 x448 x623 {k} (hk : 0 < k) x636 x637 : F22_l0 N a0 nx558 x448 x623 k x636 x637 = F22_l0_b N a0 nx558 x448 x623 (F22_l0 N a0 nx558 x448 x623 (k - 1)) x636 x637 := by cases k;cases hk;rfl
def F22_j3 (N : Nat) (a0 : (List Z50)) (nx558 : (List Z50) → (List Int) → Int → Option ((List Z50) × Bool)) (x446 : (List Z50)) (x448 : Int) (x623 : (List Int)) : Option ((List Z50) × Bool) :=
  F22_l0 N a0 nx558 x448 x623 N x446 (0 : Int)
def F22_l1_b (N : Nat) (a0 : (List Z50)) (nx558 : (List Z50) → (List Int) → Int → Option ((List Z50) × Bool)) (x446 : (List Z50)) (x447 : (List Int)) (x448 : Int) : Option ((List Z50) × Bool) :=
  cond (decide (x448 < (x446.length : Int))) (gd (InR x448 x446.length) (gd (x448.toNat < x446.length) (cond (!((x446.getD x448.toNat (Ty.dflt Y50)).2.2.2.2.2.1)) (F22_j1 N nx558 x448 x446 x447) (gd (InR x448 a0.length) (andO (F55 N x447 ((a0.getD x448.toNat (Ty.dflt Y50)).2.2.2.2.1)) fun y665 => cond (!y665) (gd (InR x448 a0.length) (gd (x447.length + ([(a0.getD x448.toNat (Ty.dflt Y50)).2.2.2.2.1]).length ≤ lim (.int .i64)) (F22_j3 N a0 nx558 x446 x448 (x447 ++ ([(a0.getD x448.toNat (Ty.dflt Y50)).2.2.2.2.1]))))) (F22_j3 N a0 nx558 x446 x448 x447)))))) (F22_j0 N x446)
def F22_l1 (N : Nat) (a0 : (List Z50)) := loopF (F22_l1_b N a0) (fun _ _ _ => none)
theorem F22_l1_s N a0 {k} (hk : 0 < k) x446 x447 x448 : F22_l1 N a0 k x446 x447 x448 = F22_l1_b N a0 (F22_l1 N a0 (k - 1)) x446 x447 x448 := by cases k;cases hk;rfl
def F22 (N : Nat) (a0 : (List Z50)) : Option ((List Z50) × Bool) :=
  andO (F54 N a0) fun y2 => cond (!y2) (some ([], false)) (andO (F38 N a0) fun y3 => F22_l1 N a0 N y3 ([]) (0 : Int))
theorem ok22 N a0 {r} (h : F22 N a0 = some r) : Con prog 22 [Vv (.sl Y50) a0] [.lf (.own Y50 r.1 .dp), .lf (.v .bool r.2)] := by
 refine ctr [.lf (.own Y50 .dp), .lf (.v .bool)] K func22 rfl fun w0 E0 ht => ?_
 unfold F22 at h
 show VW _ _ _ _ _ (retQ _ _ _ _) _
 refine nR K (tn 2) <| sq <| sq <| VW.region <| nG K 1 (tn 1) ?_
 obtain⟨y2,hy,h⟩:=aS h
 refine clc false [.t (.sl Y50)] [] (some 9) K (ok54 N _ hy) <| nN K (tn 1) ?_
 refine cnd h ?_ ?_<;>intro h
 ·refine nR K (tn 2) ?_
  cases h; exact VW.ret (rt [none])
 refine VW.skip <| sq <| VW.region <| nG K 1 (tn 1) ?_
 obtain⟨y3,hy,h⟩:=aS h
 refine clc false [.t (.sl Y50)] [] (some 12) K (ok38 N _ hy) <| nN K (tn 1) <| nR K (tn 2) ?_
 refine VW.join (fun s => ∃ x335, s = ⟨[(4, hh 0)], [ar 0 Y50 x335 .dp]⟩ ∧ F22_j0 N x335 = some r) ?_ ?_
 ·refine nR K (tn 1) <| VW.block <| lop (fun k s => ∃ x446 x447 x448, s = ⟨[(0, Vv (.sl Y50) a0), (4, hh 0), (5, hh 1), (6, I x448)], [ar 0 Y50 x446 .dp, ar 0 (.int .i64) x447 .dp]⟩ ∧ F22_l1 N a0 k x446 x447 x448 = some r) N [.nilS 5 (.int .i64) .dp, .ren [0, 4, 5, 6] [0, 1]] ⟨y3, [], (0 : Int), rfl, h⟩ ?_
  rintro k558 s ⟨x446, x447, x448, rfl, h⟩
  cases k558 with
  | zero => cases show none = some r from h
  | succ k558 =>
   replace h : F22_l1_b N a0 (F22_l1 N a0 k558) x446 x447 x448 = some r := h
   unfold F22_l1_b at h
   refine sq <| nR K (tn 4) ?_
   refine cnd h ?_ ?_<;>intro h
   ·refine VW.skip ?_
    refine VW.join (fun s => ∃ x612 x613, s = ⟨[(0, Vv (.sl Y50) a0), (4, hh 0), (5, hh 1), (6, I x448)], [ar 0 Y50 x612 .dp, ar 0 (.int .i64) x613 .dp]⟩ ∧ F22_j1 N (F22_l1 N a0 k558) x448 x612 x613 = some r) ?_ ?_
    ·refine VW.block <| sq ?_
     obtain⟨g617,h⟩:=gS h
     obtain⟨g618,h⟩:=gS h
     refine nR K (pu 2 (an g617 (pu 1 (an g618 (tn 1))))) ?_
     refine cnd h ?_ ?_<;>intro h
     ·refine VW.exit ?_
      exact arv [.ren [0, 4, 5, 6] [0, 1]] ⟨x446, x447, rfl, h⟩
     refine VW.skip ?_
     refine VW.join (fun s => ∃ x623, s = ⟨[(0, Vv (.sl Y50) a0), (4, hh 0), (5, hh 1), (6, I x448)], [ar 0 Y50 x446 .dp, ar 0 (.int .i64) x623 .dp]⟩ ∧ F22_j3 N a0 (F22_l1 N a0 k558) x446 x448 x623 = some r) ?_ ?_
     ·refine sq <| VW.region ?_
      obtain⟨g664,h⟩:=gS h
      refine nG K 6 (pu 3 (an g664 (tn 2))) ?_
      obtain⟨y665,hy,h⟩:=aS h
      refine clc true [.t (.sl (.int .i64)), .t (.int .i64)] [] (some 32) K (ok55 N _ _ hy) <| nN K (tn 1) ?_
      refine cnd h ?_ ?_<;>intro h
      ·obtain⟨g666,h⟩:=gS h
       obtain⟨g667,h⟩:=gS h
       refine nE K (pu 3 (an g666 (pu 3 (an g667 (tn 1))))) ?_
       exact arv [.ren [0, 4, 5, 6] [0, 1]] ⟨(x447 ++ ([(a0.getD x448.toNat D50).2.2.2.2.1])), rfl, h⟩
      refine VW.skip ?_
      exact arv [.ren [0, 4, 5, 6] [0, 1]] ⟨x447, rfl, h⟩
     rintro s ⟨x623, rfl, h⟩
     unfold F22_j3 at h
     refine nR K (tn 1) <| VW.block <| lop (fun k s => ∃ x636 x637, s = ⟨[(0, Vv (.sl Y50) a0), (4, hh 0), (5, hh 1), (6, I x448), (7, I x637)], [ar 0 Y50 x636 .dp, ar 0 (.int .i64) x623 .dp]⟩ ∧ F22_l0 N a0 (F22_l1 N a0 k558) x448 x623 k x636 x637 = some r) N [.ren [0, 4, 5, 6, 7] [0, 1]] ⟨x446, (0 : Int), rfl, h⟩ ?_
     rintro k650 s ⟨x636, x637, rfl, h⟩
     cases k650 with
     | zero => cases show none = some r from h
     | succ k650 =>
      replace h : F22_l0_b N a0 (F22_l1 N a0 k558) x448 x623 (F22_l0 N a0 (F22_l1 N a0 k558) x448 x623 k650) x636 x637 = some r := h
      unfold F22_l0_b at h
      refine sq <| nR K (tn 4) ?_
      refine cnd h ?_ ?_<;>intro h
      ·refine VW.skip ?_
       refine VW.join (fun s => ∃ x656, s = ⟨[(0, Vv (.sl Y50) a0), (4, hh 0), (5, hh 1), (6, I x448), (7, I x637)], [ar 0 Y50 x656 .dp, ar 0 (.int .i64) x623 .dp]⟩ ∧ F22_j2 N (F22_l0 N a0 (F22_l1 N a0 k558) x448 x623 k650) x637 x656 = some r) ?_ ?_
       ·refine VW.block <| sq ?_
        obtain⟨g658,h⟩:=gS h
        obtain⟨g659,h⟩:=gS h
        obtain⟨g660,h⟩:=gS h
        refine dr K [] [] [] [0, 4, 5, 6, 7, 57] [0, 1] (pu 2 (an g658 (an g659 (pu 2 (an g660 (tn 3)))))) trivial ?_
        refine cnd h ?_ ?_<;>intro h
        ·obtain⟨g661,h⟩:=gS h
         obtain⟨g662,h⟩:=gS h
         refine nE K (pu 3 (an g661 (pu 1 (an g662 (tn 0))))) ?_
         exact arv [.ren [0, 4, 5, 6, 7] [0, 1]] ⟨(x636.set x448.toNat ((x636.getD x448.toNat D50).1, ((x636.getD x448.toNat D50).2.1, ((x636.getD x448.toNat D50).2.2.1, ((x636.getD x448.toNat D50).2.2.2.1, (x637, ((x636.getD x448.toNat D50).2.2.2.2.2.1, (x636.getD x448.toNat D50).2.2.2.2.2.2))))))), rfl, h⟩
        refine VW.skip ?_
        exact arv [.ren [0, 4, 5, 6, 7] [0, 1]] ⟨x636, rfl, h⟩
       rintro s ⟨x656, rfl, h⟩
       unfold F22_j2 at h
       refine nE K (tn 3) ?_
       exact aro [.ren [0, 4, 5, 6, 7] [0, 1]] ⟨x656, (wr (x637 + (1 : Int))), rfl, h⟩
      refine VW.exit ?_
      exact arv [.ren [0, 4, 5, 6] [0, 1]] ⟨x636, x623, rfl, h⟩
    rintro s ⟨x612, x613, rfl, h⟩
    unfold F22_j1 at h
    refine nE K (tn 3) ?_
    exact aro [.ren [0, 4, 5, 6] [0, 1]] ⟨x612, x613, (wr (x448 + (1 : Int))), rfl, h⟩
   refine VW.exit ?_
   exact arv [.ren [4] [0]] ⟨x446, rfl, h⟩
 rintro s ⟨x335, rfl, h⟩
 unfold F22_j0 at h
 refine nR K (tn 3) ?_
 cases h; exact VW.ret (rt [some 0])
def F3_j0 (N : Nat) (y32 : (List Z50)) (y37 : (List Int)) : Option (Bool) :=
  andO (F13 N y32) fun y52 => some ((y37.length : Int) == (y52.length : Int))
def F3_l0_b (N : Nat) (y32 : (List Z50)) (y37 : (List Int)) (nx63 : Int → Option (Bool)) (x58 : Int) : Option (Bool) :=
  cond (decide (x58 < (y37.length : Int))) (gd (InR x58 y37.length) (gd (x58.toNat < y37.length) (cond ((y37.getD x58.toNat (Ty.dflt (.int .i64))) != x58) (some false) (nx63 (IntKind.i64.wrap (x58 + (1 : Int))))))) (F3_j0 N y32 y37)
def F3_l0 (N : Nat) (y32 : (List Z50)) (y37 : (List Int)) := loopF (F3_l0_b N y32 y37) (fun _ => none)
theorem F3_l0_s N y32 y37 {k} (hk : 0 < k) x58 : F3_l0 N y32 y37 k x58 = F3_l0_b N y32 y37 (F3_l0 N y32 y37 (k - 1)) x58 := by cases k;cases hk;rfl
def F3 (N : Nat) (a0 : (List Int)) : Option (Bool) :=
  andO (F5 N a0) fun y2 => cond y2 (some true) (andO (F6 N a0) fun y3 => andO (F7 N y3) fun y4 => andO (F8 N y3) fun y5 => cond (!(y5.2.2 == y4.2.2)) (some false) (andO (F9 N y5.1 y4.1) fun y9 => cond (!y9) (some false) (andO (F10 N y5.2.1 y4.2.1) fun y10 => cond (!y10) (some false) (andO (F11 N y3) fun y11 => cond (!(y11 == y4.2.2)) (some false) (cond (!y4.2.2) (some true) (andO (F12 N y5.1 y5.2.1) fun y12 => andO (F8 N y12.1) fun y13 => andO (F13 N y5.1) fun y14 => cond (!y12.2) (some false) (cond (!y13.2.2) (some false) (andO (F9 N y12.1 y3) fun y23 => cond (!y23) (some false) (andO (F9 N y13.1 y5.1) fun y24 => cond (!y24) (some false) (cond ((y14.length : Int) != (y5.2.1.length : Int)) (some false) (andO (F14 N y3) fun y25 => andO (F10 N y25 y5.2.1) fun y26 => cond (!y26) (some false) (andO (F15 N y5.1 (y5.2.1.length : Int)) fun y27 => cond (!y27) (some false) (andO (F16 N y3 y12.1) fun y28 => cond (!y28) (some false) (andO (F17 N y5.1) fun y29 => andO (F18 N y4.1) fun y30 => cond (y29 != y30) (some false) (andO (F20 N a0 (1 : Int)) fun y31 => andO (F19 N y31) fun y32 => andO (F21 N y32) fun y33 => andO (F22 N y32) fun y34 => cond (!(y33.2 == y34.2)) (some false) (andO (F9 N y33.1 y34.1) fun y36 => cond (!y36) (some false) (cond (!y34.2) (some true) (andO (F13 N y33.1) fun y37 => F3_l0 N y32 y37 N (0 : Int)))))))))))))))))))
theorem ok3 N a0 {r} (h : F3 N a0 = some r) : Con prog 3 [Vv (.sl (.int .u8)) a0] [.lf (.v .bool r)] := by
 refine ctr [.lf (.v .bool)] K func3 rfl fun w0 E0 ht => ?_
 unfold F3 at h
 show VW _ _ _ _ _ (retQ _ _ _ _) _
 refine nR K (tn 1) <| sq <| sq <| VW.region <| nG K 1 (tn 1) ?_
 obtain⟨y2,hy,h⟩:=aS h
 refine clc false [.t (.sl (.int .u8))] [] (some 24) K (ok5 N _ hy) <| nN K (tn 0) ?_
 refine cnd h ?_ ?_<;>intro h
 ·refine nR K (tn 1) ?_
  cases h; exact VW.ret (rt [])
 refine VW.skip <| sq <| VW.region <| nG K 1 (tn 1) ?_
 obtain⟨y3,hy,h⟩:=aS h
 refine clc false [.t (.sl (.int .u8))] [] (some 26) K (ok6 N _ hy) <| nN K (tn 1) <| sq <| VW.region <| nG K 1 (tn 1) ?_
 obtain⟨y4,hy,h⟩:=aS h
 refine clc true [.t (.sl Y50)] [] (some 29) K (ok7 N _ hy) <| nN K (tn 7) <| sq <| VW.region <| nG K 1 (tn 1) ?_
 obtain⟨y5,hy,h⟩:=aS h
 refine clc true [.t (.sl Y50)] [] (some 35) K (ok8 N _ hy) <| nN K (tn 7) <| sq <| sq <| VW.region <| nG K 4 (tn 4) ?_
 refine spC 42 h ?_ ?_<;>intro h
 ·refine nN K (tn 17) ?_
  refine VW.cond (b := true) (by kernel_rfl) (fun _ => ?_) (fun h' => nomatch h')
  refine nR K (tn 1) ?_
  cases h; exact VW.ret (rt [])
 refine nG K 2 (tn 2) <| VO.on (j := 3) (want := false) (d := 42) (b := false) rfl rfl rfl (by kernel_rfl) rfl ?_
 obtain⟨y9,hy,h⟩:=aS h
 refine clc true [.t (.sl Y50), .t (.sl Y50)] [] (some 45) K (ok9 N _ _ hy) <| nG K 3 (tn 3) ?_
 refine spC 48 h ?_ ?_<;>intro h
 ·refine nN K (tn 11) ?_
  refine VW.cond (b := true) (by kernel_rfl) (fun _ => ?_) (fun h' => nomatch h')
  refine sR K [2] [] ⟨[(2, B false)], []⟩ (tn 1) ?_
  cases h; exact VW.ret (rt [])
 refine nG K 2 (tn 2) <| VO.on (j := 9) (want := false) (d := 48) (b := false) rfl rfl rfl (by kernel_rfl) rfl ?_
 obtain⟨y10,hy,h⟩:=aS h
 refine clc true [.t (.sl (.int .i64)), .t (.sl (.int .i64))] [] (some 51) K (ok10 N _ _ hy) <| sG K 3 [0, 3, 4, 6, 7, 8, 54] [0, 1, 3, 4] ⟨[(0, Vv (.sl (.int .u8)) a0), (3, hh 0), (4, hh 1), (6, B y4.2.2), (7, hh 2), (8, hh 3), (54, B (!y10))], [ar 0 Y50 y3 .tp, ar 0 Y50 y4.1 .dp, ar 0 Y50 y5.1 .dp, ar 0 (.int .i64) y5.2.1 .dp]⟩ (tn 3) ?_
 refine spC 54 h ?_ ?_<;>intro h
 ·refine nN K (tn 5) ?_
  refine VW.cond (b := true) (by kernel_rfl) (fun _ => ?_) (fun h' => nomatch h')
  refine nR K (tn 1) ?_
  cases h; exact VW.ret (rt [])
 refine nG K 1 (tn 1) <| VO.on (j := 15) (want := false) (d := 54) (b := false) rfl rfl rfl (by kernel_rfl) rfl ?_
 obtain⟨y11,hy,h⟩:=aS h
 refine clc true [.t (.sl Y50)] [] (some 56) K (ok11 N _ hy) <| nN K (tn 3) ?_
 refine cnd h ?_ ?_<;>intro h
 ·refine nR K (tn 1) ?_
  cases h; exact VW.ret (rt [])
 refine VW.skip <| sq <| nR K (tn 2) ?_
 refine cnd h ?_ ?_<;>intro h
 ·refine nR K (tn 1) ?_
  cases h; exact VW.ret (rt [])
 refine VW.skip <| sq <| VW.region <| nG K 2 (tn 2) ?_
 obtain⟨y12,hy,h⟩:=aS h
 refine clc true [.t (.sl Y50), .t (.sl (.int .i64))] [] (some 65) K (ok12 N _ _ hy) <| nN K (tn 5) <| sq <| VW.region <| nG K 1 (tn 1) ?_
 obtain⟨y13,hy,h⟩:=aS h
 refine clc true [.t (.sl Y50)] [] (some 70) K (ok8 N _ hy) <| nN K (tn 7) <| sq <| VW.region <| nG K 1 (tn 1) ?_
 obtain⟨y14,hy,h⟩:=aS h
 refine clc true [.t (.sl Y50)] [] (some 75) K (ok13 N _ hy) <| nN K (tn 1) <| sq <| sq <| VW.region <| nG K 3 (tn 3) ?_
 refine spC 78 h ?_ ?_<;>intro h
 ·refine nN K (tn 49) ?_
  refine VW.cond (b := true) (by kernel_rfl) (fun _ => ?_) (fun h' => nomatch h')
  refine nR K (tn 1) ?_
  cases h; exact VW.ret (rt [])
 refine nG K 4 (tn 4) ?_
 refine spC 82 h ?_ ?_<;>intro h
 ·refine nN K (tn 45) ?_
  refine VW.cond (b := true) (by kernel_rfl) (fun _ => ?_) (fun h' => nomatch h')
  refine sR K [2] [] ⟨[(2, B false)], []⟩ (tn 1) ?_
  cases h; exact VW.ret (rt [])
 refine nG K 2 (tn 2) <| VO.on (j := 6) (want := false) (d := 82) (b := false) rfl rfl rfl (by kernel_rfl) rfl ?_
 obtain⟨y23,hy,h⟩:=aS h
 refine clc true [.t (.sl Y50), .t (.sl Y50)] [] (some 85) K (ok9 N _ _ hy) <| sG K 3 [0, 3, 4, 7, 8, 10, 12, 15, 88] [0, 1, 2, 3, 4, 5, 7] ⟨[(0, Vv (.sl (.int .u8)) a0), (3, hh 0), (4, hh 1), (7, hh 2), (8, hh 3), (10, hh 4), (12, hh 5), (15, hh 6), (88, B (!y23))], [ar 0 Y50 y3 .tp, ar 0 Y50 y4.1 .dp, ar 0 Y50 y5.1 .dp, ar 0 (.int .i64) y5.2.1 .dp, ar 0 Y50 y12.1 .dp, ar 0 Y50 y13.1 .dp, ar 0 (.int .i64) y14 .dp]⟩ (tn 3) ?_
 refine spC 88 h ?_ ?_<;>intro h
 ·refine nN K (tn 39) ?_
  refine VW.cond (b := true) (by kernel_rfl) (fun _ => ?_) (fun h' => nomatch h')
  refine nR K (tn 1) ?_
  cases h; exact VW.ret (rt [])
 refine nG K 2 (tn 2) <| VO.on (j := 12) (want := false) (d := 88) (b := false) rfl rfl rfl (by kernel_rfl) rfl ?_
 obtain⟨y24,hy,h⟩:=aS h
 refine clc true [.t (.sl Y50), .t (.sl Y50)] [] (some 91) K (ok9 N _ _ hy) <| nG K 3 (tn 3) ?_
 refine spC 94 h ?_ ?_<;>intro h
 ·refine nN K (tn 33) ?_
  refine VW.cond (b := true) (by kernel_rfl) (fun _ => ?_) (fun h' => nomatch h')
  refine nR K (tn 1) ?_
  cases h; exact VW.ret (rt [])
 refine nG K 7 (tn 7) ?_
 refine spC 101 h ?_ ?_<;>intro h
 ·refine nN K (tn 26) ?_
  refine VW.cond (b := true) (by kernel_rfl) (fun _ => ?_) (fun h' => nomatch h')
  refine nR K (tn 1) ?_
  cases h; exact VW.ret (rt [])
 refine nG K 1 (tn 1) <| VO.on (j := 25) (want := false) (d := 101) (b := false) rfl rfl rfl (by kernel_rfl) rfl ?_
 obtain⟨y25,hy,h⟩:=aS h
 refine clc true [.t (.sl Y50)] [] (some 103) K (ok14 N _ hy) <| nG K 1 (tn 1) <| VO.on (j := 25) (want := false) (d := 101) (b := false) rfl rfl rfl (by kernel_rfl) rfl ?_
 obtain⟨y26,hy,h⟩:=aS h
 refine clc true [.t (.sl (.int .i64)), .t (.sl (.int .i64))] [] (some 105) K (ok10 N _ _ hy) <| nG K 3 (tn 3) ?_
 refine spC 108 h ?_ ?_<;>intro h
 ·refine nN K (tn 19) ?_
  refine VW.cond (b := true) (by kernel_rfl) (fun _ => ?_) (fun h' => nomatch h')
  refine nR K (tn 1) ?_
  cases h; exact VW.ret (rt [])
 refine nG K 3 (tn 3) <| VO.on (j := 32) (want := false) (d := 108) (b := false) rfl rfl rfl (by kernel_rfl) rfl ?_
 obtain⟨y27,hy,h⟩:=aS h
 refine clc true [.t (.sl Y50), .t (.int .i64)] [] (some 112) K (ok15 N _ _ hy) <| nG K 3 (tn 3) ?_
 refine spC 115 h ?_ ?_<;>intro h
 ·refine nN K (tn 12) ?_
  refine VW.cond (b := true) (by kernel_rfl) (fun _ => ?_) (fun h' => nomatch h')
  refine nR K (tn 1) ?_
  cases h; exact VW.ret (rt [])
 refine nG K 2 (tn 2) <| VO.on (j := 39) (want := false) (d := 115) (b := false) rfl rfl rfl (by kernel_rfl) rfl ?_
 obtain⟨y28,hy,h⟩:=aS h
 refine clc true [.t (.sl Y50), .t (.sl Y50)] [] (some 118) K (ok16 N _ _ hy) <| nG K 3 (tn 3) ?_
 refine spC 121 h ?_ ?_<;>intro h
 ·refine nN K (tn 6) ?_
  refine VW.cond (b := true) (by kernel_rfl) (fun _ => ?_) (fun h' => nomatch h')
  refine nR K (tn 1) ?_
  cases h; exact VW.ret (rt [])
 refine nG K 1 (tn 1) <| VO.on (j := 45) (want := false) (d := 121) (b := false) rfl rfl rfl (by kernel_rfl) rfl ?_
 obtain⟨y29,hy,h⟩:=aS h
 refine clc true [.t (.sl Y50)] [] (some 123) K (ok17 N _ hy) <| nG K 1 (tn 1) <| VO.on (j := 45) (want := false) (d := 121) (b := false) rfl rfl rfl (by kernel_rfl) rfl ?_
 obtain⟨y30,hy,h⟩:=aS h
 refine clc true [.t (.sl Y50)] [] (some 125) K (ok18 N _ hy) <| sN K [0, 127] [] ⟨[(0, Vv (.sl (.int .u8)) a0), (127, B (y29 != y30))], []⟩ (tn 2) ?_
 refine cnd h ?_ ?_<;>intro h
 ·refine nR K (tn 1) ?_
  cases h; exact VW.ret (rt [])
 refine VW.skip <| sq <| VW.region <| nG K 1 (tn 1) ?_
 obtain⟨y31,hy,h⟩:=aS h
 refine clc false [.t (.sl (.int .u8)), .t (.int .i64)] [] (some 129) K (ok20 N _ _ hy) ?_
 obtain⟨y32,hy,h⟩:=aS h
 refine VO.ghl [.frz 0] <| clc false [.t (.sl (.int .u8))] [] (some 130) K (ok19 N _ hy) <| nN K (tn 1) <| sq <| VW.region <| nG K 1 (tn 1) ?_
 obtain⟨y33,hy,h⟩:=aS h
 refine clc true [.t (.sl Y50)] [] (some 133) K (ok21 N _ hy) <| nN K (tn 5) <| sq <| VW.region <| nG K 1 (tn 1) ?_
 obtain⟨y34,hy,h⟩:=aS h
 refine clc true [.t (.sl Y50)] [] (some 138) K (ok22 N _ hy) <| nN K (tn 5) <| sq <| sq <| VW.region <| nG K 4 (tn 4) ?_
 refine spC 144 h ?_ ?_<;>intro h
 ·refine nN K (tn 5) ?_
  refine VW.cond (b := true) (by kernel_rfl) (fun _ => ?_) (fun h' => nomatch h')
  refine nR K (tn 1) ?_
  cases h; exact VW.ret (rt [])
 refine nG K 2 (tn 2) <| VO.on (j := 3) (want := false) (d := 144) (b := false) rfl rfl rfl (by kernel_rfl) rfl ?_
 obtain⟨y36,hy,h⟩:=aS h
 refine clc true [.t (.sl Y50), .t (.sl Y50)] [] (some 147) K (ok9 N _ _ hy) <| nN K (tn 2) ?_
 refine cnd h ?_ ?_<;>intro h
 ·refine nR K (tn 1) ?_
  cases h; exact VW.ret (rt [])
 refine VW.skip <| sq <| nR K (tn 2) ?_
 refine cnd h ?_ ?_<;>intro h
 ·refine nR K (tn 1) ?_
  cases h; exact VW.ret (rt [])
 refine VW.skip <| sq <| VW.region <| nG K 1 (tn 1) ?_
 obtain⟨y37,hy,h⟩:=aS h
 refine clc true [.t (.sl Y50)] [] (some 153) K (ok13 N _ hy) <| nN K (tn 1) ?_
 refine VW.join (fun s => s = ⟨[(16, hh 0), (21, hh 1)], [ar 0 Y50 y32 .tp, ar 0 (.int .i64) y37 .dp]⟩ ∧ F3_j0 N y32 y37 = some r) ?_ ?_
 ·refine sR K [16, 21, 22] [1, 4] ⟨[(16, hh 0), (21, hh 1), (22, I (0 : Int))], [ar 0 Y50 y32 .tp, ar 0 (.int .i64) y37 .dp]⟩ (tn 1) <| VW.block <| lop (fun k s => ∃ x58, s = ⟨[(16, hh 0), (21, hh 1), (22, I x58)], [ar 0 Y50 y32 .tp, ar 0 (.int .i64) y37 .dp]⟩ ∧ F3_l0 N y32 y37 k x58 = some r) N [.ren [16, 21, 22] [0, 1]] ⟨(0 : Int), rfl, h⟩ ?_
  rintro k63 s ⟨x58, rfl, h⟩
  cases k63 with
  | zero => cases show none = some r from h
  | succ k63 =>
   replace h : F3_l0_b N y32 y37 (F3_l0 N y32 y37 k63) x58 = some r := h
   unfold F3_l0_b at h
   refine sq <| nR K (tn 4) ?_
   refine cnd h ?_ ?_<;>intro h
   ·refine VW.skip <| sq <| VW.block ?_
    obtain⟨g66,h⟩:=gS h
    obtain⟨g67,h⟩:=gS h
    refine nR K (pu 2 (an g66 (an g67 (tn 2)))) ?_
    refine cnd h ?_ ?_<;>intro h
    ·refine nR K (tn 1) ?_
     cases h; exact VW.ret (rt [])
    refine VW.skip <| nE K (tn 3) ?_
    exact aro [.ren [16, 21, 22] [0, 1]] ⟨(wr (x58 + (1 : Int))), rfl, h⟩
   refine VW.exit ?_
   exact arv [.ren [16, 21] [0, 1]] ⟨rfl, h⟩
 rintro s ⟨rfl, h⟩
 unfold F3_j0 at h
 refine sq <| VW.region <| nG K 3 (tn 3) ?_
 obtain⟨y52,hy,h⟩:=aS h
 refine clc true [.t (.sl Y50)] [] (some 169) K (ok13 N _ hy) <| nN K (tn 3) ?_
 cases h; exact VW.ret (rt [])
end Go.Proofs.YtmkhmpcealeidaaGreat.Vc
