/- What functions of the program compute, and that they do. -/
import Derived.Test.YtpdoaknenmgcoaaGreatDoorYa
namespace Go.Proofs.YtpdoaknenmgcoaaGreatDoor.Vc
open Go Go.RowKit Go.Proofs.Tryz
set_option linter.unusedVariables false
set_option maxRecDepth 100000
set_option maxHeartbeats 4000000
def F58 (N : Nat) (a0 : (List Z78)) : Option (Bool) :=
  andO (F36 N (a0.length : Int) (1 : Int) (40 : Int)) fun y3 => cond (!y3) (some false) (andO (F59 N a0 (fun z0 => F84 N z0)) fun y4 => cond y4 (some false) (andO (F86 N a0 (0 : Int) (1 : Int)) fun y5 => some (y5 == (a0.length : Int))))
theorem ok58 N a0 {r} (h : F58 N a0 = some r) : Con prog 58 [Vv (.sl Y78) a0] [.lf (.v .bool r)] := by
 refine ctr [.lf (.v .bool)] K func58 rfl fun w0 E0 ht => ?_
 unfold F58 at h
 show VW _ _ _ _ _ (retQ _ _ _ _) _
 refine nR K (tn 1) <| sq <| sq <| VW.region <| nG K 2 (tn 2) ?_
 obtain⟨y3,hy,h⟩:=aS h
 refine clc false [.t (.int .i64), .t (.int .i64), .t (.int .i64)] [] (some 5) K (ok36 N _ _ _ hy) <| nG K 2 (tn 2) ?_
 refine spC 7 h ?_ ?_<;>intro h
 ·refine nN K (tn 3) ?_
  refine VW.cond (b := true) (by kernel_rfl) (fun _ => ?_) (fun h' => nomatch h')
  refine nR K (tn 1) ?_
  cases h; exact VW.ret (rt [])
 refine nG K 1 (tn 1) <| VO.on (j := 4) (want := false) (d := 7) (b := false) rfl rfl rfl (by kernel_rfl) rfl ?_
 obtain⟨y4,hy,h⟩:=aS h
 refine clc false [.t (.sl Y78), .clo []] [] (some 9) K (ok59 N _ 84  (fun z0 => F84 N z0 ) (fun z0 _ hz => ok84 N z0 hz) hy) <| nN K (tn 1) ?_
 refine cnd h ?_ ?_<;>intro h
 ·refine nR K (tn 1) ?_
  cases h; exact VW.ret (rt [])
 refine VW.skip <| sq <| VW.region <| nG K 1 (tn 1) ?_
 obtain⟨y5,hy,h⟩:=aS h
 refine clc false [.t (.sl Y78), .t (.int .i64), .t (.int .i64)] [] (some 12) K (ok86 N _ _ _ hy) <| nN K (tn 4) ?_
 cases h; exact VW.ret (rt [])
def F108_j0 (N : Nat) (x20 : (List Int)) : Option ((List Int)) :=
  some x20
def F108_l0_b (N : Nat) (a0 : (List Z78)) (y23 : Int) (nx36 : (List Int) → Int → Int → Option ((List Int))) (x29 : (List Int)) (x30 : Int) (x31 : Int) : Option ((List Int)) :=
  cond (decide (x31 < y23)) (gd (x29.length + ([x30]).length ≤ lim (.int .i64)) (andO (F86 N a0 x30 (1 : Int)) fun y40 => nx36 (x29 ++ ([x30])) y40 (IntKind.i64.wrap (x31 + (1 : Int))))) (F108_j0 N x29)
def F108_l0 (N : Nat) (a0 : (List Z78)) (y23 : Int) := loopF (F108_l0_b N a0 y23) (fun _ _ _ => none)
theorem F108_l0_s N a0 y23 {k} (hk : 0 < k) x29 x30 x31 : F108_l0 N a0 y23 k x29 x30 x31 = F108_l0_b N a0 y23 (F108_l0 N a0 y23 (k - 1)) x29 x30 x31 := by cases k;cases hk;rfl
def F108 (N : Nat) (a0 : (List Z78)) (a1 : Int) : Option ((List Int)) :=
  gd (InR a1 a0.length) (andO (F122 N ((a0.getD a1.toNat (Ty.dflt Y78)).1)) fun y23 => F108_l0 N a0 y23 N ([]) (IntKind.i64.wrap (a1 + (1 : Int))) (0 : Int))
theorem ok108 N a0 a1 {r} (h : F108 N a0 a1 = some r) : Con prog 108 [Vv (.sl Y78) a0, I a1] [.lf (.own (.int .i64) r .dp)] := by
 refine ctr [.lf (.own (.int .i64) .dp)] K func108 rfl fun w0 E0 ht => ?_
 unfold F108 at h
 show VW _ _ _ _ _ (retQ _ _ _ _) _
 refine nR K (tn 1) <| nR K (tn 1) <| nR K (tn 3) ?_
 refine VW.join (fun s => ∃ x20, s = ⟨[(5, hh 0)], [ar 0 (.int .i64) x20 .dp]⟩ ∧ F108_j0 N x20 = some r) ?_ ?_
 ·refine sq <| VW.region ?_
  obtain⟨g22,h⟩:=gS h
  refine nG K 5 (pu 2 (an g22 (tn 2))) ?_
  obtain⟨y23,hy,h⟩:=aS h
  refine clc false [.t (.int .i64)] [] (some 14) K (ok122 N _ hy) <| nN K (tn 1) <| VW.block <| lop (fun k s => ∃ x29 x30 x31, s = ⟨[(0, Vv (.sl Y78) a0), (5, hh 0), (6, I x30), (14, I y23), (15, I x31)], [ar 0 (.int .i64) x29 .dp]⟩ ∧ F108_l0 N a0 y23 k x29 x30 x31 = some r) N [.nilS 5 (.int .i64) .dp, .ren [0, 5, 6, 14, 15] [0]] ⟨[], (wr (a1 + (1 : Int))), (0 : Int), rfl, h⟩ ?_
  rintro k36 s ⟨x29, x30, x31, rfl, h⟩
  cases k36 with
  | zero => cases show none = some r from h
  | succ k36 =>
   replace h : F108_l0_b N a0 y23 (F108_l0 N a0 y23 k36) x29 x30 x31 = some r := h
   unfold F108_l0_b at h
   refine nR K (tn 1) <| sq ?_
   refine cnd h ?_ ?_<;>intro h
   ·refine VW.skip <| sq <| VW.block ?_
    obtain⟨g39,h⟩:=gS h
    refine nR K (pu 3 (an g39 (tn 1))) <| VW.region <| nG K 2 (tn 2) ?_
    obtain⟨y40,hy,h⟩:=aS h
    refine clc false [.t (.sl Y78), .t (.int .i64), .t (.int .i64)] [] (some 23) K (ok86 N _ _ _ hy) <| nN K (tn 1) <| nE K (tn 2) ?_
    exact aro [.ren [0, 5, 6, 14, 15] [0]] ⟨(x29 ++ ([x30])), y40, (wr (x31 + (1 : Int))), rfl, h⟩
   refine VW.exit ?_
   exact arv [.ren [5] [0]] ⟨x29, rfl, h⟩
 rintro s ⟨x20, rfl, h⟩
 unfold F108_j0 at h
 refine nR K (tn 2) ?_
 cases h; exact VW.ret (rt [some 0])
def F141_j0 (N : Nat) : Option (Int) :=
  some (-1 : Int)
def F141_l0_b (N : Nat) (a0 : (List Z46)) (p1 : Z46 → Option (Bool)) (nx29 : Int → Int → Option (Int)) (x23 : Int) (x24 : Int) : Option (Int) :=
  cond (decide (x24 < x23)) (gd (InR x24 a0.length) (andO (p1 (a0.getD x24.toNat (Ty.dflt Y46))) fun y33 => cond y33 (some x24) (nx29 x23 (IntKind.i64.wrap (x24 + (1 : Int)))))) (F141_j0 N)
def F141_l0 (N : Nat) (a0 : (List Z46)) (p1 : Z46 → Option (Bool)) := loopF (F141_l0_b N a0 p1) (fun _ _ => none)
theorem F141_l0_s N a0 (p1 : Z46 → Option (Bool)) {k} (hk : 0 < k) x23 x24 : F141_l0 N a0 p1 k x23 x24 = F141_l0_b N a0 p1 (F141_l0 N a0 p1 (k - 1)) x23 x24 := by cases k;cases hk;rfl
def F141 (N : Nat) (a0 : (List Z46)) (p1 : Z46 → Option (Bool)) : Option (Int) :=
  F141_l0 N a0 p1 N (a0.length : Int) (0 : Int)
theorem ok141_c1 N a0 (g1 : FuncId) e1_0 (p1 : Z46 → Option (Bool)) (hp1 : ∀ (z0 : Z46) (r : Bool), p1 z0 = some r → Con prog g1 [.agg (lv Y46 z0), .lf (.fp .str e1_0 0)] [.lf (.v .bool r)]) {r} (h : F141 N a0 p1 = some r) : Con prog 141 [Vv (.sl Y46) a0, .clo g1 [.lf (.fp .str e1_0 0)]] [.lf (.v (.int .i64) r)] := by
 refine ctr [.lf (.v (.int .i64))] K func141 rfl fun w0 E0 ht => ?_
 unfold F141 at h
 show VW _ _ _ _ _ (retQ _ _ _ _) _
 refine nR K (tn 1) ?_
 refine VW.join (fun s => s = ⟨[], []⟩ ∧ F141_j0 N = some r) ?_ ?_
 ·refine nR K (tn 3) <| VW.block <| lop (fun k s => ∃ x23 x24, s = ⟨[(0, Vv (.sl Y46) a0), (1, .clo g1 [.lf (.fp .str e1_0 0)]), (7, I x23), (8, I x24)], []⟩ ∧ F141_l0 N a0 p1 k x23 x24 = some r) N [.ren [0, 1, 7, 8] []] ⟨(a0.length : Int), (0 : Int), rfl, h⟩ ?_
  rintro k29 s ⟨x23, x24, rfl, h⟩
  cases k29 with
  | zero => cases show none = some r from h
  | succ k29 =>
   replace h : F141_l0_b N a0 p1 (F141_l0 N a0 p1 k29) x23 x24 = some r := h
   unfold F141_l0_b at h
   refine nR K (tn 1) <| sq ?_
   refine cnd h ?_ ?_<;>intro h
   ·refine VW.skip <| sq <| VW.block <| nR K (tn 2) <| sq <| VW.region ?_
    obtain⟨g32,h⟩:=gS h
    refine nG K 5 (pu 3 (an g32 (tn 1))) ?_
    obtain⟨y33,hy,h⟩:=aS h
    refine clc false [.t Y46] [.k] (some 16) K (hp1 _ _ hy) <| nN K (tn 0) ?_
    refine cnd h ?_ ?_<;>intro h
    ·refine nR K (tn 2) ?_
     cases h; exact VW.ret (rt [])
    refine VW.skip <| nE K (tn 2) ?_
    exact aro [.ren [0, 1, 7, 8] []] ⟨x23, (wr (x24 + (1 : Int))), rfl, h⟩
   refine VW.exit ?_
   exact arv [.ren [] []] ⟨rfl, h⟩
 rintro s ⟨rfl, h⟩
 unfold F141_j0 at h
 refine nR K (tn 1) ?_
 cases h; exact VW.ret (rt [])
def F142 (N : Nat) (a0 : Z46) (c0 : ByteArray) : Option (Bool) :=
  some (a0.1.toList == c0.toList)
theorem ok142 N a0 c0 {r} (h : F142 N a0 c0 = some r) : Con prog 142 [.agg (lv Y46 a0), .lf (.fp .str c0 0)] [.lf (.v .bool r)] := by
 refine ctr [.lf (.v .bool)] K func142 rfl fun w0 E0 ht => ?_
 unfold F142 at h
 show VW _ _ _ _ _ (retQ _ _ _ _) _
 refine nR K (tn 2) <| nR K (tn 5) ?_
 cases h; exact VW.ret (rt [])
def F109 (N : Nat) (a0 : (List Z46)) (a1 : ByteArray) : Option (Int) :=
  andO (F141 N a0 (fun z0 => F142 N z0 a1)) fun y1 => some y1
theorem ok109 N a0 a1 {r} (h : F109 N a0 a1 = some r) : Con prog 109 [Vv (.sl Y46) a0, S a1] [.lf (.v (.int .i64) r)] := by
 refine ctr [.lf (.v (.int .i64))] K func109 rfl fun w0 E0 ht => ?_
 unfold F109 at h
 show VW _ _ _ _ _ (retQ _ _ _ _) _
 refine nR K (tn 2) <| sq <| VW.region <| nG K 2 (tn 2) ?_
 obtain⟨y1,hy,h⟩:=aS h
 refine VO.ghl [.frzB 0 .str] <| clc false [.t (.sl Y46), .clo [.k]] [] (some 7) K (ok141_c1 N _ 142 a1 (fun z0 => F142 N z0 a1) (fun z0 _ hz => ok142 N z0 _ hz) hy) <| nN K (tn 1) ?_
 cases h; exact VW.ret (rt [])
def F110_j0 (N : Nat) (x12 : Int) : Option (Int) :=
  some x12
def F110_l0_b (N : Nat) (a0 : (List Int)) (nx21 : Int → Int → Option (Int)) (x17 : Int) (x18 : Int) : Option (Int) :=
  cond (decide (x18 < (a0.length : Int))) (gd (InR x18 a0.length) (nx21 (if (x17 : Int) < (a0.getD x18.toNat (Ty.dflt (.int .i64))) then (a0.getD x18.toNat (Ty.dflt (.int .i64))) else x17) (IntKind.i64.wrap (x18 + (1 : Int))))) (F110_j0 N x17)
def F110_l0 (N : Nat) (a0 : (List Int)) := loopF (F110_l0_b N a0) (fun _ _ => none)
theorem F110_l0_s N a0 {k} (hk : 0 < k) x17 x18 : F110_l0 N a0 k x17 x18 = F110_l0_b N a0 (F110_l0 N a0 (k - 1)) x17 x18 := by cases k;cases hk;rfl
def F110 (N : Nat) (a0 : (List Int)) : Option (Int) :=
  cond (decide ((a0.length : Int) < (1 : Int))) (none) (gd (InR (0 : Int) a0.length) (F110_l0 N a0 N (a0.getD (0 : Int).toNat (Ty.dflt (.int .i64))) (1 : Int)))
theorem ok110 N a0 {r} (h : F110 N a0 = some r) : Con prog 110 [Vv (.sl (.int .i64)) a0] [.lf (.v (.int .i64) r)] := by
 refine ctr [.lf (.v (.int .i64))] K func110 rfl fun w0 E0 ht => ?_
 unfold F110 at h
 show VW _ _ _ _ _ (retQ _ _ _ _) _
 refine nR K (tn 1) <| sq <| nR K (tn 3) ?_
 refine cnd h ?_ ?_<;>intro h
 ·exact nomatch h
 refine VW.skip ?_
 obtain⟨g1,h⟩:=gS h
 refine nR K (pu 1 (an g1 (tn 2))) ?_
 refine VW.join (fun s => ∃ x12, s = ⟨[(3, I x12)], []⟩ ∧ F110_j0 N x12 = some r) ?_ ?_
 ·refine nR K (tn 1) <| VW.block <| lop (fun k s => ∃ x17 x18, s = ⟨[(0, Vv (.sl (.int .i64)) a0), (3, I x17), (4, I x18)], []⟩ ∧ F110_l0 N a0 k x17 x18 = some r) N [.ren [0, 3, 4] []] ⟨(a0.getD (0 : Int).toNat (Ty.dflt (.int .i64))), (1 : Int), rfl, h⟩ ?_
  rintro k21 s ⟨x17, x18, rfl, h⟩
  cases k21 with
  | zero => cases show none = some r from h
  | succ k21 =>
   replace h : F110_l0_b N a0 (F110_l0 N a0 k21) x17 x18 = some r := h
   unfold F110_l0_b at h
   refine sq <| nR K (tn 4) ?_
   refine cnd h ?_ ?_<;>intro h
   ·refine VW.skip <| sq <| VW.block ?_
    obtain⟨g23,h⟩:=gS h
    refine nE K (pu 3 (an g23 (tn 3))) <| nE K (tn 3) ?_
    exact aro [.ren [0, 3, 4] []] ⟨(if (x17 : Int) < (a0.getD x18.toNat (Ty.dflt (.int .i64))) then (a0.getD x18.toNat (Ty.dflt (.int .i64))) else x17), (wr (x18 + (1 : Int))), rfl, h⟩
   refine VW.exit ?_
   exact arv [.ren [3] []] ⟨x17, rfl, h⟩
 rintro s ⟨x12, rfl, h⟩
 unfold F110_j0 at h
 refine nR K (tn 2) ?_
 cases h; exact VW.ret (rt [])
def F80_j0 (N : Nat) (x31 : (List Int)) : Option (Int) :=
  gd (InR (0 : Int) x31.length) (gd ((0 : Int).toNat < x31.length) (some (x31.getD ((0 : Int).toNat) (Ty.dflt (.int .i64)))))
def F80_j1 (N : Nat) (x31 : (List Int)) (x86 : Int) (x87 : ByteArray) (x88 : Int) (x89 : Int) (x90 : Int) (x91 : Bool) (x92 : (List Int)) (x93 : Int) (x94 : Bool) : Option (Int) :=
  cond x94 (gd (InR (0 : Int) x31.length) (gd ((0 : Int).toNat < x31.length) (cond (decide (x88 ≥ (x31.getD ((0 : Int).toNat) (Ty.dflt (.int .i64))))) (some (-1 : Int)) (F80_j0 N x31)))) (cond (x93 == (2 : Int)) (andO (F110 N x92) fun y100 => gd (InR (0 : Int) x31.length) (gd ((0 : Int).toNat < x31.length) (cond (decide (y100 ≥ (x31.getD ((0 : Int).toNat) (Ty.dflt (.int .i64))))) (some (-1 : Int)) (some (x92.length : Int))))) (cond (x93 == (3 : Int)) (gd (InR (0 : Int) x31.length) (gd ((0 : Int).toNat < x31.length) (cond (decide (x88 ≥ (x31.getD ((0 : Int).toNat) (Ty.dflt (.int .i64))))) (some (-1 : Int)) (gd (InR (1 : Int) x31.length) (gd ((1 : Int).toNat < x31.length) (cond (decide (x90 ≥ (x31.getD ((1 : Int).toNat) (Ty.dflt (.int .i64))))) (some (-1 : Int)) (gd (InR (0 : Int) x31.length) (gd ((0 : Int).toNat < x31.length) (gd (InR (1 : Int) x31.length) (gd ((1 : Int).toNat < x31.length) (cond (decide ((IntKind.i64.wrap ((x31.getD ((0 : Int).toNat) (Ty.dflt (.int .i64))) + (x31.getD ((1 : Int).toNat) (Ty.dflt (.int .i64))))) > (64 : Int))) (some (-1 : Int)) (gd (InR (0 : Int) x31.length) (gd ((0 : Int).toNat < x31.length) (gd (InR (1 : Int) x31.length) (gd ((1 : Int).toNat < x31.length) (some (IntKind.i64.wrap ((x31.getD ((0 : Int).toNat) (Ty.dflt (.int .i64))) + (x31.getD ((1 : Int).toNat) (Ty.dflt (.int .i64))))))))))))))))))))) (cond (x93 == (4 : Int)) (gd (InR (0 : Int) x31.length) (gd ((0 : Int).toNat < x31.length) (gd (InR (1 : Int) x31.length) (gd ((1 : Int).toNat < x31.length) (cond ((x31.getD ((0 : Int).toNat) (Ty.dflt (.int .i64))) != (x31.getD ((1 : Int).toNat) (Ty.dflt (.int .i64)))) (some (-1 : Int)) (F80_j0 N x31)))))) (F80_j0 N x31))))
def F80_j2 (N : Nat) (a0 : (List Z46)) (a1 : (List Z78)) (a2 : Int) (x31 : (List Int)) : Option (Int) :=
  gd (InR a2 a1.length) (cond (((a1.getD a2.toNat (Ty.dflt Y78)).1) == (0 : Int)) (andO (F109 N a0 ((a1.getD a2.toNat (Ty.dflt Y78)).2.1)) fun y84 => cond (decide (y84 < (0 : Int))) (some (-1 : Int)) (gd (InR y84 a0.length) (some ((a0.getD y84.toNat (Ty.dflt Y46)).2)))) (cond (((a1.getD a2.toNat (Ty.dflt Y78)).1) == (1 : Int)) (F80_j1 N x31 ((a1.getD a2.toNat (Ty.dflt Y78)).1) ((a1.getD a2.toNat (Ty.dflt Y78)).2.1) ((a1.getD a2.toNat (Ty.dflt Y78)).2.2.1) ((a1.getD a2.toNat (Ty.dflt Y78)).2.2.2.1) ((a1.getD a2.toNat (Ty.dflt Y78)).2.2.2.2.1) ((a1.getD a2.toNat (Ty.dflt Y78)).2.2.2.2.2.1) ((a1.getD a2.toNat (Ty.dflt Y78)).2.2.2.2.2.2) ((a1.getD a2.toNat (Ty.dflt Y78)).1) (((a1.getD a2.toNat (Ty.dflt Y78)).1) == (1 : Int))) (F80_j1 N x31 ((a1.getD a2.toNat (Ty.dflt Y78)).1) ((a1.getD a2.toNat (Ty.dflt Y78)).2.1) ((a1.getD a2.toNat (Ty.dflt Y78)).2.2.1) ((a1.getD a2.toNat (Ty.dflt Y78)).2.2.2.1) ((a1.getD a2.toNat (Ty.dflt Y78)).2.2.2.2.1) ((a1.getD a2.toNat (Ty.dflt Y78)).2.2.2.2.2.1) ((a1.getD a2.toNat (Ty.dflt Y78)).2.2.2.2.2.2) ((a1.getD a2.toNat (Ty.dflt Y78)).1) (((a1.getD a2.toNat (Ty.dflt Y78)).1) == (5 : Int)))))
def F80_l0_b (N : Nat) (a0 : (List Z46)) (a1 : (List Z78)) (a2 : Int) (self : (List Z46) → (List Z78) → Int → Option (Int)) (y133 : (List Int)) (nx154 : (List Int) → Int → Int → Option (Int)) (x143 : (List Int)) (x144 : Int) (x145 : Int) : Option (Int) :=
  cond (decide (x145 < x144)) (gd (InR x145 y133.length) (gd (x145.toNat < y133.length) (andO (self a0 a1 (y133.getD x145.toNat (Ty.dflt (.int .i64)))) fun y161 => cond (decide (y161 < (0 : Int))) (some (-1 : Int)) (gd (x143.length + ([y161]).length ≤ lim (.int .i64)) (nx154 (x143 ++ ([y161])) x144 (IntKind.i64.wrap (x145 + (1 : Int)))))))) (F80_j2 N a0 a1 a2 x143)
def F80_l0 (N : Nat) (a0 : (List Z46)) (a1 : (List Z78)) (a2 : Int) (self : (List Z46) → (List Z78) → Int → Option (Int)) (y133 : (List Int)) := loopF (F80_l0_b N a0 a1 a2 self y133) (fun _ _ _ => none)
theorem F80_l0_s N a0 a1 a2 (self : (List Z46) → (List Z78) → Int → Option (Int)) y133 {k} (hk : 0 < k) x143 x144 x145 : F80_l0 N a0 a1 a2 self y133 k x143 x144 x145 = F80_l0_b N a0 a1 a2 self y133 (F80_l0 N a0 a1 a2 self y133 (k - 1)) x143 x144 x145 := by cases k;cases hk;rfl
def F80_b (N : Nat) (self : (List Z46) → (List Z78) → Int → Option (Int)) (a0 : (List Z46)) (a1 : (List Z78)) (a2 : Int) : Option (Int) :=
  andO (F108 N a1 a2) fun y133 => F80_l0 N a0 a1 a2 self y133 N ([]) (y133.length : Int) (0 : Int)
theorem ok80_b (N : Nat) (self : (List Z46) → (List Z78) → Int → Option (Int)) (ih : ∀ (a0 : (List Z46)) (a1 : (List Z78)) (a2 : Int) (r : Int), self a0 a1 a2 = some r → Con prog 80 [Vv (.sl Y46) a0, Vv (.sl Y78) a1, I a2] [.lf (.v (.int .i64) r)]) (a0 : (List Z46)) (a1 : (List Z78)) (a2 : Int) {r : Int} (h : F80_b N self a0 a1 a2 = some r) : Con prog 80 [Vv (.sl Y46) a0, Vv (.sl Y78) a1, I a2] [.lf (.v (.int .i64) r)] := by
 refine ctr [.lf (.v (.int .i64))] K func80 rfl fun w0 E0 ht => ?_
 unfold F80_b at h
 show VW _ _ _ _ _ (retQ _ _ _ _) _
 refine nR K (tn 1) <| nR K (tn 1) ?_
 refine VW.join (fun s => ∃ x31, s = ⟨[(0, Vv (.sl Y46) a0), (1, Vv (.sl Y78) a1), (2, I a2), (7, hh 0)], [ar 0 (.int .i64) x31 .dp]⟩ ∧ F80_j2 N a0 a1 a2 x31 = some r) ?_ ?_
 ·refine sq <| VW.region <| nG K 2 (tn 2) ?_
  obtain⟨y133,hy,h⟩:=aS h
  refine clc false [.t (.sl Y78), .t (.int .i64)] [] (some 15) K (ok108 N _ _ hy) <| nN K (tn 2) <| VW.block <| lop (fun k s => ∃ x143 x144 x145, s = ⟨[(0, Vv (.sl Y46) a0), (1, Vv (.sl Y78) a1), (2, I a2), (7, hh 0), (15, hh 1), (16, I x144), (17, I x145)], [ar 0 (.int .i64) x143 .dp, ar 0 (.int .i64) y133 .dp]⟩ ∧ F80_l0 N a0 a1 a2 self y133 k x143 x144 x145 = some r) N [.nilS 7 (.int .i64) .dp, .ren [0, 1, 2, 7, 15, 16, 17] [1, 0]] ⟨[], (y133.length : Int), (0 : Int), rfl, h⟩ ?_
  rintro k154 s ⟨x143, x144, x145, rfl, h⟩
  cases k154 with
  | zero => cases show none = some r from h
  | succ k154 =>
   replace h : F80_l0_b N a0 a1 a2 self y133 (F80_l0 N a0 a1 a2 self y133 k154) x143 x144 x145 = some r := h
   unfold F80_l0_b at h
   refine nR K (tn 1) <| sq ?_
   refine cnd h ?_ ?_<;>intro h
   ·refine VW.skip <| sq <| VW.block ?_
    obtain⟨g159,h⟩:=gS h
    obtain⟨g160,h⟩:=gS h
    refine nR K (an g159 (an g160 (tn 1))) <| sq <| VW.region <| nG K 3 (tn 3) ?_
    obtain⟨y161,hy,h⟩:=aS h
    refine clc false [.t (.sl Y46), .t (.sl Y78), .t (.int .i64)] [] (some 24) K (ih _ _ _ _ hy) <| nN K (tn 1) <| sq <| nR K (tn 2) ?_
    refine cnd h ?_ ?_<;>intro h
    ·refine nR K (tn 1) ?_
     cases h; exact VW.ret (rt [])
    refine VW.skip ?_
    obtain⟨g162,h⟩:=gS h
    refine nE K (pu 3 (an g162 (tn 1))) <| nE K (tn 2) ?_
    exact aro [.ren [0, 1, 2, 7, 15, 16, 17] [0, 1]] ⟨(x143 ++ ([y161])), x144, (wr (x145 + (1 : Int))), rfl, h⟩
   refine VW.exit ?_
   exact arv [.ren [0, 1, 2, 7] [0]] ⟨x143, rfl, h⟩
 rintro s ⟨x31, rfl, h⟩
 unfold F80_j2 at h
 obtain⟨g32,h⟩:=gS h
 refine nR K (pu 2 (an g32 (tn 3))) ?_
 refine VW.join (fun s => s = ⟨[(7, hh 0)], [ar 0 (.int .i64) x31 .dp]⟩ ∧ F80_j0 N x31 = some r) ?_ ?_
 ·refine nR K (tn 2) <| VW.block <| nR K (tn 2) ?_
  refine cnd h ?_ ?_<;>intro h
  ·refine sq <| VW.region <| nG K 3 (tn 3) ?_
   obtain⟨y84,hy,h⟩:=aS h
   refine clc false [.t (.sl Y46), .t .str] [] (some 43) K (ok109 N _ _ hy) <| nN K (tn 1) <| sq <| nR K (tn 2) ?_
   refine cnd h ?_ ?_<;>intro h
   ·refine nR K (tn 1) ?_
    cases h; exact VW.ret (rt [])
   refine VW.skip ?_
   obtain⟨g85,h⟩:=gS h
   refine nR K (pu 2 (an g85 (tn 3))) ?_
   cases h; exact VW.ret (rt [])
  refine VW.join (fun s => ∃ x86 x87 x88 x89 x90 x91 x92 x93 x94, s = ⟨[(7, hh 0), (11, .lf (.ptr 1 0 0 0)), (37, I x93), (51, B x94)], [ar 0 (.int .i64) x31 .dp, bx [zi x86, zs x87, zi x88, zi x89, zi x90, zb x91, .v (.sl (.int .i64)) x92] 79]⟩ ∧ F80_j1 N x31 x86 x87 x88 x89 x90 x91 x92 x93 x94 = some r) ?_ ?_
  ·refine nR K (tn 2) ?_
   refine cnd h ?_ ?_<;>intro h
   ·refine VW.skip ?_
    exact arv [.ren [7, 11, 37, 51] [0, 1]] ⟨(a1.getD a2.toNat D78).1, (a1.getD a2.toNat D78).2.1, (a1.getD a2.toNat D78).2.2.1, (a1.getD a2.toNat D78).2.2.2.1, (a1.getD a2.toNat D78).2.2.2.2.1, (a1.getD a2.toNat D78).2.2.2.2.2.1, (a1.getD a2.toNat D78).2.2.2.2.2.2, (a1.getD a2.toNat D78).1, (((a1.getD a2.toNat D78).1) == (1 : Int)), rfl, h⟩
   refine nE K (tn 2) ?_
   exact arv [.ren [7, 11, 37, 51] [0, 1]] ⟨(a1.getD a2.toNat D78).1, (a1.getD a2.toNat D78).2.1, (a1.getD a2.toNat D78).2.2.1, (a1.getD a2.toNat D78).2.2.2.1, (a1.getD a2.toNat D78).2.2.2.2.1, (a1.getD a2.toNat D78).2.2.2.2.2.1, (a1.getD a2.toNat D78).2.2.2.2.2.2, (a1.getD a2.toNat D78).1, (((a1.getD a2.toNat D78).1) == (5 : Int)), rfl, h⟩
  rintro s ⟨x86, x87, x88, x89, x90, x91, x92, x93, x94, rfl, h⟩
  unfold F80_j1 at h
  refine cnd h ?_ ?_<;>intro h
  ·refine sq ?_
   obtain⟨g95,h⟩:=gS h
   obtain⟨g96,h⟩:=gS h
   refine dr K [] [] [] [7, 59] [0] (pu 3 (an g95 (an g96 (tn 1)))) trivial ?_
   refine cnd h ?_ ?_<;>intro h
   ·refine nR K (tn 1) ?_
    cases h; exact VW.ret (rt [])
   refine VW.skip ?_
   exact arv [.ren [7] [0]] ⟨rfl, h⟩
  refine nR K (tn 2) ?_
  refine cnd h ?_ ?_<;>intro h
  ·refine sq <| sq ?_
   obtain⟨y100,hy100,h⟩:=aS h
   obtain⟨g101,h⟩:=gS h
   obtain⟨g102,h⟩:=gS h
   refine dr K [(2, .cl [] (some 64) [.lf (.v (.int .i64) y100)])] [(2, 0)] [] [11, 68] [1] (pu 4 (an g101 (an g102 (tn 1)))) ⟨qC false [.t (.sl (.int .i64))] [] [] (some 64) K (ok110 N _ hy100), trivial⟩ ?_
   refine cnd h ?_ ?_<;>intro h
   ·refine nR K (tn 1) ?_
    cases h; exact VW.ret (rt [])
   refine VW.skip <| nR K (tn 4) ?_
   cases h; exact VW.ret (rt [])
  refine nR K (tn 2) ?_
  refine cnd h ?_ ?_<;>intro h
  ·refine sq <| sq ?_
   obtain⟨g113,h⟩:=gS h
   obtain⟨g114,h⟩:=gS h
   rcases Bool.eq_false_or_eq_true (decide (x88 ≥ (x31.getD ((0 : Int).toNat) (Ty.dflt (.int .i64))))) with hb115 | hb115
   ·replace h := cond_t h hb115
    refine dr K [(6, .lit true)] [(6, 0)] [] [7, 97] [0] (pu 3 (an g113 (an g114 (tn 19)))) ⟨qB 80 hb115 K trivial, trivial⟩ ?_
    refine VW.cond (b := true) (by kernel_rfl) (fun _ => ?_) (fun h' => nomatch h')
    refine nR K (tn 1) ?_
    cases h; exact VW.ret (rt [])
   replace h := cond_f h hb115
   obtain⟨g116,h⟩:=gS h
   obtain⟨g117,h⟩:=gS h
   rcases Bool.eq_false_or_eq_true (decide (x90 ≥ (x31.getD ((1 : Int).toNat) (Ty.dflt (.int .i64))))) with hb118 | hb118
   ·replace h := cond_t h hb118
    refine dr K [(6, .lit false), (14, .lit true)] [(6, 0), (14, 0)] [] [7, 97] [0] (pu 3 (an g113 (an g114 (pu 5 (an g116 (an g117 (tn 12))))))) ⟨qB 80 hb115 K trivial, qB 88 hb118 K trivial, trivial⟩ ?_
    refine VW.cond (b := true) (by kernel_rfl) (fun _ => ?_) (fun h' => nomatch h')
    refine nR K (tn 1) ?_
    cases h; exact VW.ret (rt [])
   replace h := cond_f h hb118
   obtain⟨g119,h⟩:=gS h
   obtain⟨g120,h⟩:=gS h
   obtain⟨g121,h⟩:=gS h
   obtain⟨g122,h⟩:=gS h
   refine dr K [(6, .lit false), (14, .lit false)] [(6, 0), (14, 0)] [] [7, 97] [0] (pu 3 (an g113 (an g114 (pu 5 (an g116 (an g117 (pu 4 (an g119 (an g120 (pu 1 (an g121 (an g122 (tn 3))))))))))))) ⟨qB 80 hb115 K trivial, qB 88 hb118 K trivial, trivial⟩ ?_
   refine cnd h ?_ ?_<;>intro h
   ·refine nR K (tn 1) ?_
    cases h; exact VW.ret (rt [])
   refine VW.skip <| sq ?_
   obtain⟨g123,h⟩:=gS h
   obtain⟨g124,h⟩:=gS h
   obtain⟨g125,h⟩:=gS h
   obtain⟨g126,h⟩:=gS h
   refine dr K [] [] [] [6] [] (pu 1 (an g123 (an g124 (pu 1 (an g125 (an g126 (tn 2))))))) trivial ?_
   cases h; exact VW.ret (rt [])
  refine nR K (tn 2) ?_
  refine cnd h ?_ ?_<;>intro h
  ·refine sq ?_
   obtain⟨g127,h⟩:=gS h
   obtain⟨g128,h⟩:=gS h
   obtain⟨g129,h⟩:=gS h
   obtain⟨g130,h⟩:=gS h
   refine dr K [] [] [] [7, 113] [0] (pu 1 (an g127 (an g128 (pu 1 (an g129 (an g130 (tn 1))))))) trivial ?_
   refine cnd h ?_ ?_<;>intro h
   ·refine nR K (tn 1) ?_
    cases h; exact VW.ret (rt [])
   refine VW.skip ?_
   exact arv [.ren [7] [0]] ⟨rfl, h⟩
  refine VW.skip ?_
  exact arv [.ren [7] [0]] ⟨rfl, h⟩
 rintro s ⟨rfl, h⟩
 unfold F80_j0 at h
 obtain⟨g81,h⟩:=gS h
 obtain⟨g82,h⟩:=gS h
 refine nR K (pu 1 (an g81 (an g82 (tn 1)))) ?_
 cases h; exact VW.ret (rt [])
def F80_r (N : Nat) := loopF (F80_b N) (fun _ _ _ => none)
theorem F80_s N {k} (hk : 0 < k) a0 a1 a2 : F80_r N k a0 a1 a2 = F80_b N (F80_r N (k - 1)) a0 a1 a2 := by cases k;cases hk;rfl
def F80 (N : Nat) : (List Z46) → (List Z78) → Int → Option (Int) := F80_r N N
theorem ok80_k (N : Nat) : ∀ (k : Nat) (a0 : (List Z46)) (a1 : (List Z78)) (a2 : Int) (r : Int), loopF (F80_b N) (fun _ _ _ => none) k a0 a1 a2 = some r → Con prog 80 [Vv (.sl Y46) a0, Vv (.sl Y78) a1, I a2] [.lf (.v (.int .i64) r)]
 | 0, a0, a1, a2, r, h => nomatch (show (none : Option (Int)) = some r from h)
 | k + 1, a0, a1, a2, r, h => ok80_b N _ (ok80_k N k) a0 a1 a2 h
theorem ok80 N a0 a1 a2 {r} (h : F80 N a0 a1 a2 = some r) : Con prog 80 [Vv (.sl Y46) a0, Vv (.sl Y78) a1, I a2] [.lf (.v (.int .i64) r)] := ok80_k N N a0 a1 a2 r h
def F56 (N : Nat) (a0 : (List Z46)) (a1 : (List Z78)) : Option (Int) :=
  andO (F34 N a0) fun y3 => cond (!y3) (some (-1 : Int)) (andO (F58 N a1) fun y4 => cond (!y4) (some (-1 : Int)) (andO (F80 N a0 a1 (0 : Int)) fun y5 => some y5))
theorem ok56 N a0 a1 {r} (h : F56 N a0 a1 = some r) : Con prog 56 [Vv (.sl Y46) a0, Vv (.sl Y78) a1] [.lf (.v (.int .i64) r)] := by
 refine ctr [.lf (.v (.int .i64))] K func56 rfl fun w0 E0 ht => ?_
 unfold F56 at h
 show VW _ _ _ _ _ (retQ _ _ _ _) _
 refine nR K (tn 1) <| sq <| sq <| VW.region <| nG K 1 (tn 1) ?_
 obtain⟨y3,hy,h⟩:=aS h
 refine clc false [.t (.sl Y46)] [] (some 6) K (ok34 N _ hy) <| nG K 2 (tn 2) ?_
 refine spC 8 h ?_ ?_<;>intro h
 ·refine nN K (tn 4) ?_
  refine VW.cond (b := true) (by kernel_rfl) (fun _ => ?_) (fun h' => nomatch h')
  refine nR K (tn 1) ?_
  cases h; exact VW.ret (rt [])
 refine nG K 1 (tn 1) <| VO.on (j := 3) (want := false) (d := 8) (b := false) rfl rfl rfl (by kernel_rfl) rfl ?_
 obtain⟨y4,hy,h⟩:=aS h
 refine clc false [.t (.sl Y78)] [] (some 10) K (ok58 N _ hy) <| nN K (tn 2) ?_
 refine cnd h ?_ ?_<;>intro h
 ·refine nR K (tn 1) ?_
  cases h; exact VW.ret (rt [])
 refine VW.skip <| sq <| VW.region <| nG K 2 (tn 2) ?_
 obtain⟨y5,hy,h⟩:=aS h
 refine clc false [.t (.sl Y46), .t (.sl Y78), .t (.int .i64)] [] (some 15) K (ok80 N _ _ _ hy) <| nN K (tn 1) ?_
 cases h; exact VW.ret (rt [])
def F37 (N : Nat) (a0 : (List Z46)) (a1 : (List Z78)) : Option (Bool) :=
  andO (F56 N a0 a1) fun y1 => some (decide (y1 ≥ (0 : Int)))
theorem ok37 N a0 a1 {r} (h : F37 N a0 a1 = some r) : Con prog 37 [Vv (.sl Y46) a0, Vv (.sl Y78) a1] [.lf (.v .bool r)] := by
 refine ctr [.lf (.v .bool)] K func37 rfl fun w0 E0 ht => ?_
 unfold F37 at h
 show VW _ _ _ _ _ (retQ _ _ _ _) _
 refine nR K (tn 1) <| sq <| VW.region <| nG K 2 (tn 2) ?_
 obtain⟨y1,hy,h⟩:=aS h
 refine clc false [.t (.sl Y46), .t (.sl Y78)] [] (some 7) K (ok56 N _ _ hy) <| nN K (tn 2) ?_
 cases h; exact VW.ret (rt [])
def F81_j0 (N : Nat) (x10 : Int) (x11 : (List Int)) : Option ((List Int)) :=
  gd (x11.length + ([(IntKind.u8.wrap x10)]).length ≤ lim (.int .u8)) (some (x11 ++ ([(IntKind.u8.wrap x10)])))
def F81_l0_b (N : Nat) (nx18 : Int → (List Int) → Option ((List Int))) (x15 : Int) (x16 : (List Int)) : Option ((List Int)) :=
  cond (decide (x15 ≥ (128 : Int))) (gd (x16.length + ([(IntKind.u8.wrap (IntKind.i64.wrap ((Int.tmod x15 (128 : Int)) + (128 : Int))))]).length ≤ lim (.int .u8)) (nx18 (IntKind.i64.wrap (Int.tdiv x15 (128 : Int))) (x16 ++ ([(IntKind.u8.wrap (IntKind.i64.wrap ((Int.tmod x15 (128 : Int)) + (128 : Int))))])))) (F81_j0 N x15 x16)
def F81_l0 (N : Nat) := loopF (F81_l0_b N) (fun _ _ => none)
theorem F81_l0_s N {k} (hk : 0 < k) x15 x16 : F81_l0 N k x15 x16 = F81_l0_b N (F81_l0 N (k - 1)) x15 x16 := by cases k;cases hk;rfl
def F81_j1 (N : Nat) (x3 : Int) : Option ((List Int)) :=
  F81_l0 N N x3 ([])
def F81 (N : Nat) (a0 : Int) : Option ((List Int)) :=
  andO (F111 N a0) fun y2 => cond (!y2) (some ([])) (cond (decide (a0 < (0 : Int))) (F81_j1 N (IntKind.i64.wrap ((IntKind.i64.wrap ((-2 : Int) * a0)) - (1 : Int)))) (F81_j1 N (IntKind.i64.wrap ((2 : Int) * a0))))
theorem ok81 N a0 {r} (h : F81 N a0 = some r) : Con prog 81 [I a0] [.lf (.own (.int .u8) r .dp)] := by
 refine ctr [.lf (.own (.int .u8) .dp)] K func81 rfl fun w0 E0 ht => ?_
 unfold F81 at h
 show VW _ _ _ _ _ (retQ _ _ _ _) _
 refine nR K (tn 1) <| sq <| sq <| VW.region <| nG K 1 (tn 1) ?_
 obtain⟨y2,hy,h⟩:=aS h
 refine clc false [.t (.int .i64)] [] (some 6) K (ok111 N _ hy) <| nN K (tn 1) ?_
 refine cnd h ?_ ?_<;>intro h
 ·refine nR K (tn 1) ?_
  cases h; exact VW.ret (rt [none])
 refine VW.skip <| nR K (tn 3) ?_
 refine VW.join (fun s => ∃ x3, s = ⟨[(3, I x3)], []⟩ ∧ F81_j1 N x3 = some r) ?_ ?_
 ·refine nR K (tn 2) ?_
  refine cnd h ?_ ?_<;>intro h
  ·refine nE K (tn 4) ?_
   exact arv [.ren [3] []] ⟨(wr ((wr ((-2 : Int) * a0)) - (1 : Int))), rfl, h⟩
  refine VW.skip ?_
  exact arv [.ren [3] []] ⟨(wr ((2 : Int) * a0)), rfl, h⟩
 rintro s ⟨x3, rfl, h⟩
 unfold F81_j1 at h
 refine nR K (tn 1) ?_
 refine VW.join (fun s => ∃ x10 x11, s = ⟨[(3, I x10), (4, hh 0)], [ar 0 (.int .u8) x11 .dp]⟩ ∧ F81_j0 N x10 x11 = some r) ?_ ?_
 ·refine VW.block <| lop (fun k s => ∃ x15 x16, s = ⟨[(3, I x15), (4, hh 0)], [ar 0 (.int .u8) x16 .dp]⟩ ∧ F81_l0 N k x15 x16 = some r) N [.nilS 4 (.int .u8) .dp, .ren [3, 4] [0]] ⟨x3, [], rfl, h⟩ ?_
  rintro k18 s ⟨x15, x16, rfl, h⟩
  cases k18 with
  | zero => cases show none = some r from h
  | succ k18 =>
   replace h : F81_l0_b N (F81_l0 N k18) x15 x16 = some r := h
   unfold F81_l0_b at h
   refine sq <| nR K (tn 2) ?_
   refine cnd h ?_ ?_<;>intro h
   ·refine VW.skip <| VW.block ?_
    obtain⟨g19,h⟩:=gS h
    refine nR K (pu 2 (an (show ((128 : Int) ≠ 0) from by decide) (pu 3 (an g19 (tn 1))))) <| nE K (pu 1 (an (show ((128 : Int) ≠ 0) from by decide) (tn 1))) ?_
    exact aro [.ren [3, 4] [0]] ⟨(wr (Int.tdiv x15 (128 : Int))), (x16 ++ ([(IntKind.u8.wrap (wr ((Int.tmod x15 (128 : Int)) + (128 : Int))))])), rfl, h⟩
   refine VW.exit ?_
   exact arv [.ren [3, 4] [0]] ⟨x15, x16, rfl, h⟩
 rintro s ⟨x10, x11, rfl, h⟩
 unfold F81_j0 at h
 obtain⟨g12,h⟩:=gS h
 refine nR K (pu 4 (an g12 (tn 1))) ?_
 cases h; exact VW.ret (rt [some 0])
def F112 (N : Nat) (a0 : ByteArray) : Option ((List Int)) :=
  andO (F55 N a0) fun y2 => cond (!y2) (some ([])) (andO (F81 N (a0.size : Int)) fun y3 => gd (y3.length + a0.size ≤ lim (.int .u8)) (some (y3 ++ (bytesOf a0))))
theorem ok112 N a0 {r} (h : F112 N a0 = some r) : Con prog 112 [S a0] [.lf (.own (.int .u8) r .dp)] := by
 refine ctr [.lf (.own (.int .u8) .dp)] K func112 rfl fun w0 E0 ht => ?_
 unfold F112 at h
 show VW _ _ _ _ _ (retQ _ _ _ _) _
 refine nR K (tn 1) <| sq <| sq <| VW.region <| nG K 1 (tn 1) ?_
 obtain⟨y2,hy,h⟩:=aS h
 refine clc false [.t .str] [] (some 4) K (ok55 N _ hy) <| nN K (tn 1) ?_
 refine cnd h ?_ ?_<;>intro h
 ·refine nR K (tn 1) ?_
  cases h; exact VW.ret (rt [none])
 refine VW.skip <| sq <| VW.region <| nG K 2 (tn 2) ?_
 obtain⟨y3,hy,h⟩:=aS h
 refine clc false [.t (.int .i64)] [] (some 8) K (ok81 N _ hy) <| nG K 1 (tn 1) ?_
 obtain⟨g4,h⟩:=gS h
 refine VO.appS (d := 10) (φ := y3.length + a0.size ≤ lim (.int .u8)) (v := .lf (.hd 0 1 none)) (H' := [ar 1 (.int .u8) (y3 ++ (bytesOf a0)) .dp]) K (by kernel_rfl) g4 <| nN K (tn 1) ?_
 cases h; exact VW.ret (rt [some 0])
def F113_j0 (N : Nat) (x24 : (List Int)) : Option ((List Int)) :=
  some x24
def F113_l0_b (N : Nat) (a0 : (List Int)) (nx42 : (List Int) → Int → Int → Option ((List Int))) (x33 : (List Int)) (x34 : Int) (x35 : Int) : Option ((List Int)) :=
  cond (decide (x35 < x34)) (gd (InR x35 a0.length) (andO (F81 N (a0.getD x35.toNat (Ty.dflt (.int .i64)))) fun y47 => gd (x33.length + y47.length ≤ lim (.int .u8)) (nx42 (x33 ++ y47) x34 (IntKind.i64.wrap (x35 + (1 : Int)))))) (F113_j0 N x33)
def F113_l0 (N : Nat) (a0 : (List Int)) := loopF (F113_l0_b N a0) (fun _ _ _ => none)
theorem F113_l0_s N a0 {k} (hk : 0 < k) x33 x34 x35 : F113_l0 N a0 k x33 x34 x35 = F113_l0_b N a0 (F113_l0 N a0 (k - 1)) x33 x34 x35 := by cases k;cases hk;rfl
def F113 (N : Nat) (a0 : (List Int)) : Option ((List Int)) :=
  F113_l0 N a0 N ([]) (a0.length : Int) (0 : Int)
theorem ok113 N a0 {r} (h : F113 N a0 = some r) : Con prog 113 [Vv (.sl (.int .i64)) a0] [.lf (.own (.int .u8) r .dp)] := by
 refine ctr [.lf (.own (.int .u8) .dp)] K func113 rfl fun w0 E0 ht => ?_
 unfold F113 at h
 show VW _ _ _ _ _ (retQ _ _ _ _) _
 refine nR K (tn 1) <| nR K (tn 1) ?_
 refine VW.join (fun s => ∃ x24, s = ⟨[(3, hh 0)], [ar 0 (.int .u8) x24 .dp]⟩ ∧ F113_j0 N x24 = some r) ?_ ?_
 ·refine nR K (tn 3) <| VW.block <| lop (fun k s => ∃ x33 x34 x35, s = ⟨[(3, hh 0), (6, Vv (.sl (.int .i64)) a0), (7, I x34), (8, I x35)], [ar 0 (.int .u8) x33 .dp]⟩ ∧ F113_l0 N a0 k x33 x34 x35 = some r) N [.nilS 3 (.int .u8) .dp, .ren [3, 6, 7, 8] [0]] ⟨[], (a0.length : Int), (0 : Int), rfl, h⟩ ?_
  rintro k42 s ⟨x33, x34, x35, rfl, h⟩
  cases k42 with
  | zero => cases show none = some r from h
  | succ k42 =>
   replace h : F113_l0_b N a0 (F113_l0 N a0 k42) x33 x34 x35 = some r := h
   unfold F113_l0_b at h
   refine nR K (tn 1) <| sq ?_
   refine cnd h ?_ ?_<;>intro h
   ·refine VW.skip <| sq <| VW.block ?_
    obtain⟨g46,h⟩:=gS h
    refine nR K (an g46 (tn 2)) <| VW.region <| nG K 2 (tn 2) ?_
    obtain⟨y47,hy,h⟩:=aS h
    refine clc false [.t (.int .i64)] [] (some 14) K (ok81 N _ hy) ?_
    obtain⟨g48,h⟩:=gS h
    refine nN K (an g48 (tn 1)) <| nE K (tn 2) ?_
    exact aro [.ren [3, 6, 7, 8] [0]] ⟨(x33 ++ y47), x34, (wr (x35 + (1 : Int))), rfl, h⟩
   refine VW.exit ?_
   exact arv [.ren [3] [0]] ⟨x33, rfl, h⟩
 rintro s ⟨x24, rfl, h⟩
 unfold F113_j0 at h
 refine nR K (tn 2) ?_
 cases h; exact VW.ret (rt [some 0])
def F114 (N : Nat) (a0 : Bool) : Option (Int) :=
  cond a0 (some (1 : Int)) (some (0 : Int))
theorem ok114 N a0 {r} (h : F114 N a0 = some r) : Con prog 114 [B a0] [.lf (.v (.int .i64) r)] := by
 refine ctr [.lf (.v (.int .i64))] K func114 rfl fun w0 E0 ht => ?_
 unfold F114 at h
 show VW _ _ _ _ _ (retQ _ _ _ _) _
 refine nR K (tn 1) <| sq <| nR K (tn 1) ?_
 refine cnd h ?_ ?_<;>intro h
 ·refine nR K (tn 1) ?_
  cases h; exact VW.ret (rt [])
 refine VW.skip <| nR K (tn 1) ?_
 cases h; exact VW.ret (rt [])
def F115_j0 (N : Nat) (x37 : (List Int)) : Option ((List Int)) :=
  some x37
def F115_l0_b (N : Nat) (a0 : (List Int)) (nx63 : (List Int) → Int → Int → Option ((List Int))) (x50 : (List Int)) (x51 : Int) (x52 : Int) : Option ((List Int)) :=
  cond (decide (x52 < x51)) (gd (InR x52 a0.length) (andO (F111 N (a0.getD x52.toNat (Ty.dflt (.int .i64)))) fun y71 => cond (!y71) (some ([])) (andO (F81 N (a0.getD x52.toNat (Ty.dflt (.int .i64)))) fun y72 => gd (x50.length + y72.length ≤ lim (.int .u8)) (nx63 (x50 ++ y72) x51 (IntKind.i64.wrap (x52 + (1 : Int))))))) (F115_j0 N x50)
def F115_l0 (N : Nat) (a0 : (List Int)) := loopF (F115_l0_b N a0) (fun _ _ _ => none)
theorem F115_l0_s N a0 {k} (hk : 0 < k) x50 x51 x52 : F115_l0 N a0 k x50 x51 x52 = F115_l0_b N a0 (F115_l0 N a0 (k - 1)) x50 x51 x52 := by cases k;cases hk;rfl
def F115 (N : Nat) (a0 : (List Int)) : Option ((List Int)) :=
  cond (decide ((a0.length : Int) > (300 : Int))) (some ([])) (andO (F81 N (a0.length : Int)) fun y1 => F115_l0 N a0 N y1 (a0.length : Int) (0 : Int))
theorem ok115 N a0 {r} (h : F115 N a0 = some r) : Con prog 115 [Vv (.sl (.int .i64)) a0] [.lf (.own (.int .u8) r .dp)] := by
 refine ctr [.lf (.own (.int .u8) .dp)] K func115 rfl fun w0 E0 ht => ?_
 unfold F115 at h
 show VW _ _ _ _ _ (retQ _ _ _ _) _
 refine nR K (tn 1) <| sq <| nR K (tn 3) ?_
 refine cnd h ?_ ?_<;>intro h
 ·refine nR K (tn 1) ?_
  cases h; exact VW.ret (rt [none])
 refine VW.skip <| sq <| VW.region <| nG K 2 (tn 2) ?_
 obtain⟨y1,hy,h⟩:=aS h
 refine clc false [.t (.int .i64)] [] (some 11) K (ok81 N _ hy) <| nN K (tn 1) ?_
 refine VW.join (fun s => ∃ x37, s = ⟨[(3, hh 0)], [ar 0 (.int .u8) x37 .dp]⟩ ∧ F115_j0 N x37 = some r) ?_ ?_
 ·refine nR K (tn 3) <| VW.block <| lop (fun k s => ∃ x50 x51 x52, s = ⟨[(3, hh 0), (12, Vv (.sl (.int .i64)) a0), (13, I x51), (14, I x52)], [ar 0 (.int .u8) x50 .dp]⟩ ∧ F115_l0 N a0 k x50 x51 x52 = some r) N [.ren [3, 12, 13, 14] [0]] ⟨y1, (a0.length : Int), (0 : Int), rfl, h⟩ ?_
  rintro k63 s ⟨x50, x51, x52, rfl, h⟩
  cases k63 with
  | zero => cases show none = some r from h
  | succ k63 =>
   replace h : F115_l0_b N a0 (F115_l0 N a0 k63) x50 x51 x52 = some r := h
   unfold F115_l0_b at h
   refine nR K (tn 1) <| sq ?_
   refine cnd h ?_ ?_<;>intro h
   ·refine VW.skip <| sq <| VW.block ?_
    obtain⟨g69,h⟩:=gS h
    refine nR K (an g69 (tn 2)) <| sq <| sq <| VW.region <| nG K 1 (tn 1) ?_
    obtain⟨y71,hy,h⟩:=aS h
    refine clc false [.t (.int .i64)] [] (some 19) K (ok111 N _ hy) <| nN K (tn 1) ?_
    refine cnd h ?_ ?_<;>intro h
    ·refine nR K (tn 1) ?_
     cases h; exact VW.ret (rt [none])
    refine VW.skip <| VW.region <| nG K 2 (tn 2) ?_
    obtain⟨y72,hy,h⟩:=aS h
    refine clc false [.t (.int .i64)] [] (some 23) K (ok81 N _ hy) ?_
    obtain⟨g73,h⟩:=gS h
    refine nN K (an g73 (tn 1)) <| nE K (tn 2) ?_
    exact aro [.ren [3, 12, 13, 14] [0]] ⟨(x50 ++ y72), x51, (wr (x52 + (1 : Int))), rfl, h⟩
   refine VW.exit ?_
   exact arv [.ren [3] [0]] ⟨x50, rfl, h⟩
 rintro s ⟨x37, rfl, h⟩
 unfold F115_j0 at h
 refine nR K (tn 2) ?_
 cases h; exact VW.ret (rt [some 0])
def F82 (N : Nat) (a0 : Z78) : Option ((List Int)) :=
  andO (F85 N a0) fun y2 => cond (!y2) (some ([])) (andO (F81 N a0.1) fun y3 => cond (a0.1 == (0 : Int)) (andO (F112 N a0.2.1) fun y18 => gd (y3.length + y18.length ≤ lim (.int .u8)) (some (y3 ++ y18))) (cond (a0.1 == (1 : Int)) (andO (F114 N a0.2.2.2.2.2.1) fun y20 => andO (F113 N ([a0.2.2.1, a0.2.2.2.1, y20, a0.2.2.2.2.1])) fun y21 => gd (y3.length + y21.length ≤ lim (.int .u8)) (some (y3 ++ y21))) (cond (a0.1 == (2 : Int)) (andO (F115 N a0.2.2.2.2.2.2) fun y23 => gd (y3.length + y23.length ≤ lim (.int .u8)) (some (y3 ++ y23))) (cond (a0.1 == (3 : Int)) (andO (F113 N ([a0.2.2.1, a0.2.2.2.2.1])) fun y25 => gd (y3.length + y25.length ≤ lim (.int .u8)) (some (y3 ++ y25))) (cond (a0.1 == (5 : Int)) (andO (F113 N ([a0.2.2.1])) fun y27 => gd (y3.length + y27.length ≤ lim (.int .u8)) (some (y3 ++ y27))) (cond (a0.1 == (6 : Int)) (andO (F114 N a0.2.2.2.2.2.1) fun y29 => andO (F113 N ([y29, a0.2.2.2.2.1])) fun y30 => gd (y3.length + y30.length ≤ lim (.int .u8)) (some (y3 ++ y30))) (some y3)))))))
theorem ok82 N a0 {r} (h : F82 N a0 = some r) : Con prog 82 [.agg (lv Y78 a0)] [.lf (.own (.int .u8) r .dp)] := by
 refine ctr [.lf (.own (.int .u8) .dp)] K func82 rfl fun w0 E0 ht => ?_
 unfold F82 at h
 show VW _ _ _ _ _ (retQ _ _ _ _) _
 refine nR K (tn 2) <| sq <| sq <| VW.region <| nG K 1 (tn 1) ?_
 obtain⟨y2,hy,h⟩:=aS h
 refine clc false [.t Y78] [] (some 5) K (ok85 N _ hy) <| nN K (tn 1) ?_
 refine cnd h ?_ ?_<;>intro h
 ·refine nR K (tn 1) ?_
  cases h; exact VW.ret (rt [none])
 refine VW.skip <| sq <| VW.region <| nG K 2 (tn 2) ?_
 obtain⟨y3,hy,h⟩:=aS h
 refine clc false [.t (.int .i64)] [] (some 9) K (ok81 N _ hy) <| nN K (tn 1) <| sq <| nR K (tn 2) <| VW.block <| nR K (tn 2) ?_
 refine cnd h ?_ ?_<;>intro h
 ·refine sq <| VW.region <| nG K 3 (tn 3) ?_
  obtain⟨y18,hy,h⟩:=aS h
  refine clc false [.t .str] [] (some 17) K (ok112 N _ hy) ?_
  obtain⟨g19,h⟩:=gS h
  refine nN K (an g19 (tn 1)) ?_
  cases h; exact VW.ret (rt [some 1])
 refine nR K (tn 2) ?_
 refine cnd h ?_ ?_<;>intro h
 ·refine sq ?_
  obtain⟨y20,hy20,h⟩:=aS h
  obtain⟨y21,hy21,h⟩:=aS h
  obtain⟨g22,h⟩:=gS h
  refine dr K [(7, .cl [] (some 28) [.lf (.v (.int .i64) y20)]), (11, .cl [] (some 32) [.lf (.own (.int .u8) y21 .dp)])] [(7, 0), (11, 1)] [10, 11, 12] [2] [1] (pu 12 (an g22 (tn 1))) ⟨qC false [.t .bool] [] [] (some 28) K (ok114 N _ hy20), qC true [.t (.sl (.int .i64))] [] [] (some 32) K (ok113 N _ hy21), trivial⟩ ?_
  cases h; exact VW.ret (rt [some 0])
 refine nR K (tn 2) ?_
 refine cnd h ?_ ?_<;>intro h
 ·refine sq <| VW.region <| nG K 3 (tn 3) ?_
  obtain⟨y23,hy,h⟩:=aS h
  refine clc false [.t (.sl (.int .i64))] [] (some 39) K (ok115 N _ hy) ?_
  obtain⟨g24,h⟩:=gS h
  refine nN K (an g24 (tn 1)) ?_
  cases h; exact VW.ret (rt [some 1])
 refine nR K (tn 2) ?_
 refine cnd h ?_ ?_<;>intro h
 ·refine sq <| VW.region <| nG K 6 (tn 6) ?_
  obtain⟨y25,hy,h⟩:=aS h
  refine clc true [.t (.sl (.int .i64))] [] (some 49) K (ok113 N _ hy) ?_
  obtain⟨g26,h⟩:=gS h
  refine nN K (an g26 (tn 1)) ?_
  cases h; exact VW.ret (rt [some 1])
 refine nR K (tn 2) ?_
 refine cnd h ?_ ?_<;>intro h
 ·refine sq <| VW.region <| nG K 4 (tn 4) ?_
  obtain⟨y27,hy,h⟩:=aS h
  refine clc true [.t (.sl (.int .i64))] [] (some 57) K (ok113 N _ hy) ?_
  obtain⟨g28,h⟩:=gS h
  refine sN K [2] [1] ⟨[(2, hh 0)], [ar 0 (.int .u8) (y3 ++ y27) .dp]⟩ (an g28 (tn 1)) ?_
  cases h; exact VW.ret (rt [some 0])
 refine nR K (tn 2) ?_
 refine cnd h ?_ ?_<;>intro h
 ·refine sq ?_
  obtain⟨y29,hy29,h⟩:=aS h
  obtain⟨y30,hy30,h⟩:=aS h
  obtain⟨g31,h⟩:=gS h
  refine dr K [(3, .cl [] (some 64) [.lf (.v (.int .i64) y29)]), (7, .cl [] (some 68) [.lf (.own (.int .u8) y30 .dp)])] [(3, 0), (7, 1)] [6, 7, 8] [2] [1] (pu 8 (an g31 (tn 1))) ⟨qC false [.t .bool] [] [] (some 64) K (ok114 N _ hy29), qC true [.t (.sl (.int .i64))] [] [] (some 68) K (ok113 N _ hy30), trivial⟩ ?_
  cases h; exact VW.ret (rt [some 0])
 refine VW.skip <| sR K [2] [1] ⟨[(2, hh 0)], [ar 0 (.int .u8) y3 .dp]⟩ (tn 2) ?_
 cases h; exact VW.ret (rt [some 0])
def F143_j0 (N : Nat) (x4 : (List Int)) : Option ((List Int)) :=
  some x4
def F143 (N : Nat) (a0 : (List Int)) (a1 : Int) : Option ((List Int)) :=
  cond (decide (a1 < (0 : Int))) (none) (cond (decide ((IntKind.i64.wrap (a1 - (IntKind.i64.wrap ((0 : Int) - (0 : Int))))) > (0 : Int))) (gd ((0 : Int) = (0 : Int)) (gd (0 ≤ (IntKind.i64.wrap (a1 - (IntKind.i64.wrap ((0 : Int) - (0 : Int))))) ∧ (IntKind.i64.wrap (a1 - (IntKind.i64.wrap ((0 : Int) - (0 : Int))))) ≤ (lim (.int .u8) : Int)) (gd (0 ≤ (0 : Int) ∧ (0 : Int) ≤ ((List.replicate (IntKind.i64.wrap (a1 - (IntKind.i64.wrap ((0 : Int) - (0 : Int))))).toNat (Ty.dflt (.int .u8))).length : Int)) (F143_j0 N ((List.replicate (IntKind.i64.wrap (a1 - (IntKind.i64.wrap ((0 : Int) - (0 : Int))))).toNat (Ty.dflt (.int .u8))).take ((0 : Int).toNat)))))) (F143_j0 N ([])))
theorem ok143 N a0 a1 {r} (h : F143 N a0 a1 = some r) : Con prog 143 [.lf (.nil), I a1] [.lf (.own (.int .u8) r .dp)] := by
 refine ctr [.lf (.own (.int .u8) .dp)] K func143 rfl fun w0 E0 ht => ?_
 unfold F143 at h
 show VW _ _ _ _ _ (retQ _ _ _ _) _
 refine nR K (tn 1) <| sq <| nR K (tn 2) ?_
 refine cnd h ?_ ?_<;>intro h
 ·exact nomatch h
 refine VW.skip ?_
 refine VW.join (fun s => ∃ x4, s = ⟨[(0, hh 0)], [ar 0 (.int .u8) x4 .dp]⟩ ∧ F143_j0 N x4 = some r) ?_ ?_
 ·refine sq <| VW.region <| nG K 2 (tn 2) <| VO.capN (d := 10) (v := I (0 : Int)) K (by kernel_rfl) <| nN K (tn 5) <| nR K (tn 2) ?_
  refine cnd h ?_ ?_<;>intro h
  ·refine VW.region <| nG K 2 (tn 2) <| VO.capN (d := 19) (v := I (0 : Int)) K (by kernel_rfl) ?_
   obtain⟨g6,h⟩:=gS h
   refine VO.cutN (d := 20) (φ := (0 : Int) = (0 : Int)) (v := .lf .nil) K (by kernel_rfl) g6 <| nG K 1 (tn 1) ?_
   obtain⟨g7,h⟩:=gS h
   refine VO.appZ (d := 22) (φ := 0 ≤ (wr (a1 - (wr ((0 : Int) - (0 : Int))))) ∧ (wr (a1 - (wr ((0 : Int) - (0 : Int))))) ≤ (lim (.int .u8) : Int)) (v := hh 0) (H' := [ar 0 (.int .u8) (List.replicate (wr (a1 - (wr ((0 : Int) - (0 : Int))))).toNat (Ty.dflt (.int .u8))) .dp]) K (by kernel_rfl) g7 ?_
   obtain⟨g8,h⟩:=gS h
   refine nN K (pu 2 (an g8 (tn 1))) ?_
   exact arv [.shr 0, .ren [0] [0]] ⟨((List.replicate (wr (a1 - (wr ((0 : Int) - (0 : Int))))).toNat (Ty.dflt (.int .u8))).take ((0 : Int).toNat)), rfl, h⟩
  refine VW.skip ?_
  exact arv [.nilS 0 (.int .u8) .dp, .ren [0] [0]] ⟨[], rfl, h⟩
 rintro s ⟨x4, rfl, h⟩
 unfold F143_j0 at h
 refine nR K (tn 2) ?_
 cases h; exact VW.ret (rt [some 0])
def F116_j0 (N : Nat) (x31 : (List Int)) : Option ((List Int)) :=
  some x31
def F116_l0_b (N : Nat) (a0 : (List (List Int))) (nx45 : (List Int) → Int → Int → Option ((List Int))) (x38 : (List Int)) (x39 : Int) (x40 : Int) : Option ((List Int)) :=
  cond (decide (x40 < x39)) (gd (InR x40 a0.length) (gd (x38.length + (a0.getD x40.toNat (Ty.dflt (.sl (.int .u8)))).length ≤ lim (.int .u8)) (nx45 (x38 ++ (a0.getD x40.toNat (Ty.dflt (.sl (.int .u8))))) x39 (IntKind.i64.wrap (x40 + (1 : Int)))))) (F116_j0 N x38)
def F116_l0 (N : Nat) (a0 : (List (List Int))) := loopF (F116_l0_b N a0) (fun _ _ _ => none)
theorem F116_l0_s N a0 {k} (hk : 0 < k) x38 x39 x40 : F116_l0 N a0 k x38 x39 x40 = F116_l0_b N a0 (F116_l0 N a0 (k - 1)) x38 x39 x40 := by cases k;cases hk;rfl
def F116_j1 (N : Nat) (a0 : (List (List Int))) (x12 : Int) : Option ((List Int)) :=
  andO (F143 N ([]) x12) fun y13 => F116_l0 N a0 N y13 (a0.length : Int) (0 : Int)
def F116_l1_b (N : Nat) (a0 : (List (List Int))) (nx59 : Int → Int → Int → Option ((List Int))) (x54 : Int) (x55 : Int) (x56 : Int) : Option ((List Int)) :=
  cond (decide (x56 < x55)) (gd (InR x56 a0.length) (cond (decide ((IntKind.i64.wrap (x54 + ((a0.getD x56.toNat (Ty.dflt (.sl (.int .u8)))).length : Int))) < (0 : Int))) (none) (nx59 (IntKind.i64.wrap (x54 + ((a0.getD x56.toNat (Ty.dflt (.sl (.int .u8)))).length : Int))) x55 (IntKind.i64.wrap (x56 + (1 : Int)))))) (F116_j1 N a0 x54)
def F116_l1 (N : Nat) (a0 : (List (List Int))) := loopF (F116_l1_b N a0) (fun _ _ _ => none)
theorem F116_l1_s N a0 {k} (hk : 0 < k) x54 x55 x56 : F116_l1 N a0 k x54 x55 x56 = F116_l1_b N a0 (F116_l1 N a0 (k - 1)) x54 x55 x56 := by cases k;cases hk;rfl
def F116 (N : Nat) (a0 : (List (List Int))) : Option ((List Int)) :=
  F116_l1 N a0 N (0 : Int) (a0.length : Int) (0 : Int)
theorem ok116 N a0 {r} (h : F116 N a0 = some r) : Con prog 116 [Vv (.sl (.sl (.int .u8))) a0] [.lf (.own (.int .u8) r .dp)] := by
 refine ctr [.lf (.own (.int .u8) .dp)] K func116 rfl fun w0 E0 ht => ?_
 unfold F116 at h
 show VW _ _ _ _ _ (retQ _ _ _ _) _
 refine nR K (tn 1) <| nR K (tn 1) ?_
 refine VW.join (fun s => ∃ x12, s = ⟨[(0, Vv (.sl (.sl (.int .u8))) a0), (3, I x12)], []⟩ ∧ F116_j1 N a0 x12 = some r) ?_ ?_
 ·refine nR K (tn 3) <| VW.block <| lop (fun k s => ∃ x54 x55 x56, s = ⟨[(0, Vv (.sl (.sl (.int .u8))) a0), (3, I x54), (9, Vv (.sl (.sl (.int .u8))) a0), (10, I x55), (11, I x56)], []⟩ ∧ F116_l1 N a0 k x54 x55 x56 = some r) N [.ren [0, 3, 9, 10, 11] []] ⟨(0 : Int), (a0.length : Int), (0 : Int), rfl, h⟩ ?_
  rintro k59 s ⟨x54, x55, x56, rfl, h⟩
  cases k59 with
  | zero => cases show none = some r from h
  | succ k59 =>
   replace h : F116_l1_b N a0 (F116_l1 N a0 k59) x54 x55 x56 = some r := h
   unfold F116_l1_b at h
   refine nR K (tn 1) <| sq ?_
   refine cnd h ?_ ?_<;>intro h
   ·refine VW.skip <| sq <| VW.block ?_
    obtain⟨g61,h⟩:=gS h
    refine nR K (an g61 (tn 2)) <| nR K (tn 5) <| nR K (tn 2) ?_
    refine cnd h ?_ ?_<;>intro h
    ·exact nomatch h
    refine VW.skip <| nE K (tn 2) ?_
    exact aro [.ren [0, 3, 9, 10, 11] []] ⟨(wr (x54 + ((a0.getD x56.toNat (Ty.dflt (.sl (.int .u8)))).length : Int))), x55, (wr (x56 + (1 : Int))), rfl, h⟩
   refine VW.exit ?_
   exact arv [.ren [0, 3] []] ⟨x54, rfl, h⟩
 rintro s ⟨x12, rfl, h⟩
 unfold F116_j1 at h
 refine sq <| VW.region <| nG K 1 (tn 1) ?_
 obtain⟨y13,hy,h⟩:=aS h
 refine clc false [.k, .t (.int .i64)] [] (some 24) K (ok143 N _ _ hy) <| nN K (tn 1) ?_
 refine VW.join (fun s => ∃ x31, s = ⟨[(6, hh 0)], [ar 0 (.int .u8) x31 .dp]⟩ ∧ F116_j0 N x31 = some r) ?_ ?_
 ·refine nR K (tn 3) <| VW.block <| lop (fun k s => ∃ x38 x39 x40, s = ⟨[(6, hh 0), (25, Vv (.sl (.sl (.int .u8))) a0), (26, I x39), (27, I x40)], [ar 0 (.int .u8) x38 .dp]⟩ ∧ F116_l0 N a0 k x38 x39 x40 = some r) N [.ren [6, 25, 26, 27] [0]] ⟨y13, (a0.length : Int), (0 : Int), rfl, h⟩ ?_
  rintro k45 s ⟨x38, x39, x40, rfl, h⟩
  cases k45 with
  | zero => cases show none = some r from h
  | succ k45 =>
   replace h : F116_l0_b N a0 (F116_l0 N a0 k45) x38 x39 x40 = some r := h
   unfold F116_l0_b at h
   refine nR K (tn 1) <| sq ?_
   refine cnd h ?_ ?_<;>intro h
   ·refine VW.skip <| sq <| VW.block ?_
    obtain⟨g48,h⟩:=gS h
    refine nR K (an g48 (tn 2)) ?_
    obtain⟨g49,h⟩:=gS h
    refine nE K (pu 2 (an g49 (tn 1))) <| nE K (tn 2) ?_
    exact aro [.ren [6, 25, 26, 27] [0]] ⟨(x38 ++ (a0.getD x40.toNat (Ty.dflt (.sl (.int .u8))))), x39, (wr (x40 + (1 : Int))), rfl, h⟩
   refine VW.exit ?_
   exact arv [.ren [6] [0]] ⟨x38, rfl, h⟩
 rintro s ⟨x31, rfl, h⟩
 unfold F116_j0 at h
 refine nR K (tn 2) ?_
 cases h; exact VW.ret (rt [some 0])
def F117_j0 (N : Nat) (x12 : Int) : Option (Int) :=
  some x12
def F117_l0_b (N : Nat) (a0 : (List Int)) (nx22 : Int → Int → Int → Option (Int)) (x17 : Int) (x18 : Int) (x19 : Int) : Option (Int) :=
  cond (decide (x19 < x18)) (gd (InR x19 a0.length) (nx22 (Int.tmod (IntKind.i64.wrap ((IntKind.i64.wrap ((269 : Int) * x17)) + (IntKind.i64.wrap (a0.getD x19.toNat (Ty.dflt (.int .u8)))))) (999983 : Int)) x18 (IntKind.i64.wrap (x19 + (1 : Int))))) (F117_j0 N x17)
def F117_l0 (N : Nat) (a0 : (List Int)) := loopF (F117_l0_b N a0) (fun _ _ _ => none)
theorem F117_l0_s N a0 {k} (hk : 0 < k) x17 x18 x19 : F117_l0 N a0 k x17 x18 x19 = F117_l0_b N a0 (F117_l0 N a0 (k - 1)) x17 x18 x19 := by cases k;cases hk;rfl
def F117 (N : Nat) (a0 : (List Int)) : Option (Int) :=
  F117_l0 N a0 N (5 : Int) (a0.length : Int) (0 : Int)
theorem ok117 N a0 {r} (h : F117 N a0 = some r) : Con prog 117 [Vv (.sl (.int .u8)) a0] [.lf (.v (.int .i64) r)] := by
 refine ctr [.lf (.v (.int .i64))] K func117 rfl fun w0 E0 ht => ?_
 unfold F117 at h
 show VW _ _ _ _ _ (retQ _ _ _ _) _
 refine nR K (tn 1) <| nR K (tn 1) ?_
 refine VW.join (fun s => ∃ x12, s = ⟨[(3, I x12)], []⟩ ∧ F117_j0 N x12 = some r) ?_ ?_
 ·refine nR K (tn 3) <| VW.block <| lop (fun k s => ∃ x17 x18 x19, s = ⟨[(3, I x17), (6, Vv (.sl (.int .u8)) a0), (7, I x18), (8, I x19)], []⟩ ∧ F117_l0 N a0 k x17 x18 x19 = some r) N [.ren [3, 6, 7, 8] []] ⟨(5 : Int), (a0.length : Int), (0 : Int), rfl, h⟩ ?_
  rintro k22 s ⟨x17, x18, x19, rfl, h⟩
  cases k22 with
  | zero => cases show none = some r from h
  | succ k22 =>
   replace h : F117_l0_b N a0 (F117_l0 N a0 k22) x17 x18 x19 = some r := h
   unfold F117_l0_b at h
   refine nR K (tn 1) <| sq ?_
   refine cnd h ?_ ?_<;>intro h
   ·refine VW.skip <| sq <| VW.block ?_
    obtain⟨g24,h⟩:=gS h
    refine nR K (an g24 (tn 2)) <| nE K (pu 5 (an (show ((999983 : Int) ≠ 0) from by decide) (tn 1))) <| nE K (tn 2) ?_
    exact aro [.ren [3, 6, 7, 8] []] ⟨(Int.tmod (wr ((wr ((269 : Int) * x17)) + (wr (a0.getD x19.toNat (Ty.dflt (.int .u8)))))) (999983 : Int)), x18, (wr (x19 + (1 : Int))), rfl, h⟩
   refine VW.exit ?_
   exact arv [.ren [3] []] ⟨x17, rfl, h⟩
 rintro s ⟨x12, rfl, h⟩
 unfold F117_j0 at h
 refine nR K (tn 2) ?_
 cases h; exact VW.ret (rt [])
def F83 (N : Nat) (a0 : (List Int)) : Option ((List Int) × Bool) :=
  cond (decide ((a0.length : Int) > (4000 : Int))) (some ([], false)) (gd (0 < ([(80 : Int), (83 : Int)]).length) (andO (F81 N (a0.length : Int)) fun y2 => andO (F117 N a0) fun y3 => andO (F81 N y3) fun y4 => andO (F116 N ([[(80 : Int), (83 : Int)], y2, a0, y4])) fun y5 => some (y5, true)))
theorem ok83 N a0 {r} (h : F83 N a0 = some r) : Con prog 83 [Vv (.sl (.int .u8)) a0] [.lf (.own (.int .u8) r.1 .dp), .lf (.v .bool r.2)] := by
 refine ctr [.lf (.own (.int .u8) .dp), .lf (.v .bool)] K func83 rfl fun w0 E0 ht => ?_
 unfold F83 at h
 show VW _ _ _ _ _ (retQ _ _ _ _) _
 refine nR K (tn 2) <| sq <| nR K (tn 3) ?_
 refine cnd h ?_ ?_<;>intro h
 ·refine nR K (tn 2) ?_
  cases h; exact VW.ret (rt [none])
 refine VW.skip <| sq <| VW.region <| nG K 1 (tn 1) ?_
 obtain⟨g1,h⟩:=gS h
 refine VO.mark (d := 8) (φ := 0 < ([(80 : Int), (83 : Int)]).length) (v := Vv (.sl (.int .u8)) ([(80 : Int), (83 : Int)])) (H' := [none]) K (by kernel_rfl) g1 <| nG K 2 (tn 2) ?_
 obtain⟨y2,hy,h⟩:=aS h
 refine clc false [.t (.int .i64)] [] (some 11) K (ok81 N _ hy) <| nG K 2 (tn 2) ?_
 obtain⟨y3,hy,h⟩:=aS h
 refine clc false [.t (.sl (.int .u8))] [] (some 14) K (ok117 N _ hy) ?_
 obtain⟨y4,hy,h⟩:=aS h
 refine clc false [.t (.int .i64)] [] (some 15) K (ok81 N _ hy) <| VO.ghl [.frz 1, .frz 2] <| nG K 1 (tn 1) ?_
 obtain⟨y5,hy,h⟩:=aS h
 refine clc true [.t (.sl (.sl (.int .u8)))] [] (some 17) K (ok116 N _ hy) <| nN K (tn 2) ?_
 cases h; exact VW.ret (rt [some 4])
def F57_j0 (N : Nat) (x27 : (List Int)) : Option ((List Int) × Bool) :=
  andO (F83 N x27) fun y28 => some (y28.1, y28.2)
def F57_l0_b (N : Nat) (a0 : (List Z78)) (nx46 : (List Int) → Int → Int → Option ((List Int) × Bool)) (x37 : (List Int)) (x38 : Int) (x39 : Int) : Option ((List Int) × Bool) :=
  cond (decide (x39 < x38)) (gd (InR x39 a0.length) (andO (F82 N (a0.getD x39.toNat (Ty.dflt Y78))) fun y51 => gd (x37.length + y51.length ≤ lim (.int .u8)) (nx46 (x37 ++ y51) x38 (IntKind.i64.wrap (x39 + (1 : Int)))))) (F57_j0 N x37)
def F57_l0 (N : Nat) (a0 : (List Z78)) := loopF (F57_l0_b N a0) (fun _ _ _ => none)
theorem F57_l0_s N a0 {k} (hk : 0 < k) x37 x38 x39 : F57_l0 N a0 k x37 x38 x39 = F57_l0_b N a0 (F57_l0 N a0 (k - 1)) x37 x38 x39 := by cases k;cases hk;rfl
def F57 (N : Nat) (a0 : (List Z78)) : Option ((List Int) × Bool) :=
  andO (F58 N a0) fun y2 => cond (!y2) (some ([], false)) (andO (F81 N (a0.length : Int)) fun y3 => F57_l0 N a0 N y3 (a0.length : Int) (0 : Int))
theorem ok57 N a0 {r} (h : F57 N a0 = some r) : Con prog 57 [Vv (.sl Y78) a0] [.lf (.own (.int .u8) r.1 .dp), .lf (.v .bool r.2)] := by
 refine ctr [.lf (.own (.int .u8) .dp), .lf (.v .bool)] K func57 rfl fun w0 E0 ht => ?_
 unfold F57 at h
 show VW _ _ _ _ _ (retQ _ _ _ _) _
 refine nR K (tn 2) <| sq <| sq <| VW.region <| nG K 1 (tn 1) ?_
 obtain⟨y2,hy,h⟩:=aS h
 refine clc false [.t (.sl Y78)] [] (some 8) K (ok58 N _ hy) <| nN K (tn 1) ?_
 refine cnd h ?_ ?_<;>intro h
 ·refine nR K (tn 2) ?_
  cases h; exact VW.ret (rt [none])
 refine VW.skip <| sq <| VW.region <| nG K 2 (tn 2) ?_
 obtain⟨y3,hy,h⟩:=aS h
 refine clc false [.t (.int .i64)] [] (some 12) K (ok81 N _ hy) <| nN K (tn 1) ?_
 refine VW.join (fun s => ∃ x27, s = ⟨[(4, hh 0)], [ar 0 (.int .u8) x27 .dp]⟩ ∧ F57_j0 N x27 = some r) ?_ ?_
 ·refine nR K (tn 3) <| VW.block <| lop (fun k s => ∃ x37 x38 x39, s = ⟨[(4, hh 0), (13, Vv (.sl Y78) a0), (14, I x38), (15, I x39)], [ar 0 (.int .u8) x37 .dp]⟩ ∧ F57_l0 N a0 k x37 x38 x39 = some r) N [.ren [4, 13, 14, 15] [0]] ⟨y3, (a0.length : Int), (0 : Int), rfl, h⟩ ?_
  rintro k46 s ⟨x37, x38, x39, rfl, h⟩
  cases k46 with
  | zero => cases show none = some r from h
  | succ k46 =>
   replace h : F57_l0_b N a0 (F57_l0 N a0 k46) x37 x38 x39 = some r := h
   unfold F57_l0_b at h
   refine nR K (tn 1) <| sq ?_
   refine cnd h ?_ ?_<;>intro h
   ·refine VW.skip <| sq <| VW.block ?_
    obtain⟨g50,h⟩:=gS h
    refine nR K (an g50 (tn 3)) <| VW.region <| nG K 2 (tn 2) ?_
    obtain⟨y51,hy,h⟩:=aS h
    refine clc false [.t Y78] [] (some 21) K (ok82 N _ hy) ?_
    obtain⟨g52,h⟩:=gS h
    refine nN K (an g52 (tn 1)) <| nE K (tn 2) ?_
    exact aro [.ren [4, 13, 14, 15] [0]] ⟨(x37 ++ y51), x38, (wr (x39 + (1 : Int))), rfl, h⟩
   refine VW.exit ?_
   exact arv [.ren [4] [0]] ⟨x37, rfl, h⟩
 rintro s ⟨x27, rfl, h⟩
 unfold F57_j0 at h
 refine sq <| VW.region <| nG K 1 (tn 1) ?_
 obtain⟨y28,hy,h⟩:=aS h
 refine clc true [.t (.sl (.int .u8))] [] (some 25) K (ok83 N _ hy) <| nN K (tn 4) ?_
 cases h; exact VW.ret (rt [some 1])
def F38_j0 (N : Nat) (x21 : Int) : Option (Int) :=
  some x21
def F38_l0_b (N : Nat) (nx37 : Int → (List Int) → Int → Int → Option (Int)) (x29 : Int) (x30 : (List Int)) (x31 : Int) (x32 : Int) : Option (Int) :=
  cond (decide (x32 < x31)) (gd (InR x32 x30.length) (gd (x32.toNat < x30.length) (nx37 (Int.tmod (IntKind.i64.wrap ((IntKind.i64.wrap ((31 : Int) * x29)) + (IntKind.i64.wrap (x30.getD x32.toNat (Ty.dflt (.int .u8)))))) (251 : Int)) x30 x31 (IntKind.i64.wrap (x32 + (1 : Int)))))) (F38_j0 N x29)
def F38_l0 (N : Nat) := loopF (F38_l0_b N) (fun _ _ _ _ => none)
theorem F38_l0_s N {k} (hk : 0 < k) x29 x30 x31 x32 : F38_l0 N k x29 x30 x31 x32 = F38_l0_b N (F38_l0 N (k - 1)) x29 x30 x31 x32 := by cases k;cases hk;rfl
def F38 (N : Nat) (a0 : (List Z78)) : Option (Int) :=
  andO (F57 N a0) fun y1 => cond (!y1.2) (some (-1 : Int)) (F38_l0 N N (97 : Int) y1.1 (y1.1.length : Int) (0 : Int))
theorem ok38 N a0 {r} (h : F38 N a0 = some r) : Con prog 38 [Vv (.sl Y78) a0] [.lf (.v (.int .i64) r)] := by
 refine ctr [.lf (.v (.int .i64))] K func38 rfl fun w0 E0 ht => ?_
 unfold F38 at h
 show VW _ _ _ _ _ (retQ _ _ _ _) _
 refine nR K (tn 1) <| sq <| VW.region <| nG K 1 (tn 1) ?_
 obtain⟨y1,hy,h⟩:=aS h
 refine clc false [.t (.sl Y78)] [] (some 10) K (ok57 N _ hy) <| nN K (tn 5) <| sq <| nR K (tn 2) ?_
 refine cnd h ?_ ?_<;>intro h
 ·refine nR K (tn 1) ?_
  cases h; exact VW.ret (rt [])
 refine VW.skip <| nR K (tn 1) ?_
 refine VW.join (fun s => ∃ x21, s = ⟨[(5, I x21)], []⟩ ∧ F38_j0 N x21 = some r) ?_ ?_
 ·refine nR K (tn 3) <| VW.block <| lop (fun k s => ∃ x29 x30 x31 x32, s = ⟨[(5, I x29), (15, hh 0), (16, I x31), (17, I x32)], [ar 0 (.int .u8) x30 .dp]⟩ ∧ F38_l0 N k x29 x30 x31 x32 = some r) N [.ren [5, 15, 16, 17] [0]] ⟨(97 : Int), y1.1, (y1.1.length : Int), (0 : Int), rfl, h⟩ ?_
  rintro k37 s ⟨x29, x30, x31, x32, rfl, h⟩
  cases k37 with
  | zero => cases show none = some r from h
  | succ k37 =>
   replace h : F38_l0_b N (F38_l0 N k37) x29 x30 x31 x32 = some r := h
   unfold F38_l0_b at h
   refine nR K (tn 1) <| sq ?_
   refine cnd h ?_ ?_<;>intro h
   ·refine VW.skip <| sq <| VW.block ?_
    obtain⟨g40,h⟩:=gS h
    obtain⟨g41,h⟩:=gS h
    refine nR K (an g40 (an g41 (tn 1))) <| nE K (pu 5 (an (show ((251 : Int) ≠ 0) from by decide) (tn 1))) <| nE K (tn 2) ?_
    exact aro [.ren [5, 15, 16, 17] [0]] ⟨(Int.tmod (wr ((wr ((31 : Int) * x29)) + (wr (x30.getD x32.toNat (Ty.dflt (.int .u8)))))) (251 : Int)), x30, x31, (wr (x32 + (1 : Int))), rfl, h⟩
   refine VW.exit ?_
   exact arv [.ren [5] []] ⟨x29, rfl, h⟩
 rintro s ⟨x21, rfl, h⟩
 unfold F38_j0 at h
 refine nR K (tn 2) ?_
 cases h; exact VW.ret (rt [])
theorem ok87_c1 N a0 (g1 : FuncId) e1_0 (p1 : Z78 → Option (Bool)) (hp1 : ∀ (z0 : Z78) (r : Bool), p1 z0 = some r → Con prog g1 [.agg (lv Y78 z0), .lf (.fp (.int .i64) e1_0 0)] [.lf (.v .bool r)]) {r} (h : F87 N a0 p1 = some r) : Con prog 87 [Vv (.sl Y78) a0, .clo g1 [.lf (.fp (.int .i64) e1_0 0)]] [.lf (.v (.int .i64) r)] := by
 refine ctr [.lf (.v (.int .i64))] K func87 rfl fun w0 E0 ht => ?_
 unfold F87 at h
 show VW _ _ _ _ _ (retQ _ _ _ _) _
 refine nR K (tn 1) ?_
 refine VW.join (fun s => s = ⟨[], []⟩ ∧ F87_j0 N = some r) ?_ ?_
 ·refine nR K (tn 3) <| VW.block <| lop (fun k s => ∃ x23 x24, s = ⟨[(0, Vv (.sl Y78) a0), (1, .clo g1 [.lf (.fp (.int .i64) e1_0 0)]), (7, I x23), (8, I x24)], []⟩ ∧ F87_l0 N a0 p1 k x23 x24 = some r) N [.ren [0, 1, 7, 8] []] ⟨(a0.length : Int), (0 : Int), rfl, h⟩ ?_
  rintro k29 s ⟨x23, x24, rfl, h⟩
  cases k29 with
  | zero => cases show none = some r from h
  | succ k29 =>
   replace h : F87_l0_b N a0 p1 (F87_l0 N a0 p1 k29) x23 x24 = some r := h
   unfold F87_l0_b at h
   refine nR K (tn 1) <| sq ?_
   refine cnd h ?_ ?_<;>intro h
   ·refine VW.skip <| sq <| VW.block <| nR K (tn 2) <| sq <| VW.region ?_
    obtain⟨g32,h⟩:=gS h
    refine nG K 5 (pu 3 (an g32 (tn 1))) ?_
    obtain⟨y33,hy,h⟩:=aS h
    refine clc false [.t Y78] [.k] (some 16) K (hp1 _ _ hy) <| nN K (tn 0) ?_
    refine cnd h ?_ ?_<;>intro h
    ·refine nR K (tn 2) ?_
     cases h; exact VW.ret (rt [])
    refine VW.skip <| nE K (tn 2) ?_
    exact aro [.ren [0, 1, 7, 8] []] ⟨x23, (wr (x24 + (1 : Int))), rfl, h⟩
   refine VW.exit ?_
   exact arv [.ren [] []] ⟨rfl, h⟩
 rintro s ⟨rfl, h⟩
 unfold F87_j0 at h
 refine nR K (tn 1) ?_
 cases h; exact VW.ret (rt [])
theorem ok59_c1 N a0 (g1 : FuncId) e1_0 (p1 : Z78 → Option (Bool)) (hp1 : ∀ (z0 : Z78) (r : Bool), p1 z0 = some r → Con prog g1 [.agg (lv Y78 z0), .lf (.fp (.int .i64) e1_0 0)] [.lf (.v .bool r)]) {r} (h : F59 N a0 p1 = some r) : Con prog 59 [Vv (.sl Y78) a0, .clo g1 [.lf (.fp (.int .i64) e1_0 0)]] [.lf (.v .bool r)] := by
 refine ctr [.lf (.v .bool)] K func59 rfl fun w0 E0 ht => ?_
 unfold F59 at h
 show VW _ _ _ _ _ (retQ _ _ _ _) _
 refine nR K (tn 1) <| sq <| VW.region <| nG K 2 (tn 2) ?_
 obtain⟨y1,hy,h⟩:=aS h
 refine clc false [.t (.sl Y78), .clo [.k]] [] (some 7) K (ok87_c1 N _ g1 e1_0 p1 hp1 hy) <| nN K (tn 2) ?_
 cases h; exact VW.ret (rt [])
def F60 (N : Nat) (a0 : Z78) (c0 : Int) : Option (Bool) :=
  cond a0.2.2.2.2.2.1 (some (decide (a0.2.2.2.2.1 ≥ c0))) (some false)
theorem ok60 N a0 c0 {r} (h : F60 N a0 c0 = some r) : Con prog 60 [.agg (lv Y78 a0), .lf (.fp (.int .i64) c0 0)] [.lf (.v .bool r)] := by
 refine ctr [.lf (.v .bool)] K func60 rfl fun w0 E0 ht => ?_
 unfold F60 at h
 show VW _ _ _ _ _ (retQ _ _ _ _) _
 refine nR K (tn 2) <| sq <| VW.region <| nG K 3 (tn 3) ?_
 refine spC 6 h ?_ ?_<;>intro h
 ·refine nN K (tn 6) ?_
  cases h; exact VW.ret (rt [])
 refine nN K (tn 6) ?_
 cases h; exact VW.ret (rt [])
def F39 (N : Nat) (a0 : (List Z78)) (a1 : Int) : Option (Bool) :=
  andO (F58 N a0) fun y1 => cond y1 (andO (F59 N a0 (fun z0 => F60 N z0 a1)) fun y2 => some (!y2)) (some false)
theorem ok39 N a0 a1 {r} (h : F39 N a0 a1 = some r) : Con prog 39 [Vv (.sl Y78) a0, I a1] [.lf (.v .bool r)] := by
 refine ctr [.lf (.v .bool)] K func39 rfl fun w0 E0 ht => ?_
 unfold F39 at h
 show VW _ _ _ _ _ (retQ _ _ _ _) _
 refine nR K (tn 2) <| sq <| VW.region <| nG K 1 (tn 1) ?_
 obtain⟨y1,hy,h⟩:=aS h
 refine clc false [.t (.sl Y78)] [] (some 6) K (ok58 N _ hy) <| nG K 1 (tn 1) ?_
 refine spC 7 h ?_ ?_<;>intro h
 ·refine nG K 2 (tn 2) <| VO.on (j := 2) (want := true) (d := 7) (b := true) rfl rfl rfl (by kernel_rfl) rfl ?_
  obtain⟨y2,hy,h⟩:=aS h
  refine VO.ghl [.frzB 0 (.int .i64)] <| clc false [.t (.sl Y78), .clo [.k]] [] (some 10) K (ok59_c1 N _ 60 a1 (fun z0 => F60 N z0 a1) (fun z0 _ hz => ok60 N z0 _ hz) hy) <| nN K (tn 3) ?_
  cases h; exact VW.ret (rt [])
 refine nN K (tn 6) ?_
 cases h; exact VW.ret (rt [])
def F61 (N : Nat) (a0 : (List Int)) : Option ((List Int)) :=
  gd (a0.length < 4611686018427387904) (some (a0.mergeSort fun x y => decide (x ≤ y)))
theorem ok61 N a0 {r} (h : F61 N a0 = some r) : ConM prog 61 [some (.arr 0 (.int .i64) a0 .dp)] [.lf (.hd 0 0 none)] [] [some (.arr 0 (.int .i64) r .dp)] := by
 obtain ⟨g, h⟩ := gd_some h
 cases h
 exact con_sort (enters_of func61 rfl (by decide)) g (fun p c w => Go.Proofs.Tryz.slices_Sort_int_none p c w) (fun b c w h1 h2 => Go.Proofs.Tryz.slices_Sort_int b 0 c a0 w h1 h2 g)
def F62 (N : Nat) (a0 : (List Int)) : Option ((List Int)) :=
  gd (a0.length ≤ 9223372036854775807) (some (Lib.compact a0))
theorem ok62 N a0 {r} (h : F62 N a0 = some r) : ConM prog 62 [some (.arr 0 (.int .i64) a0 .dp)] [.lf (.hd 0 0 none)] [.lf (.own (.int .i64) r .dp)] [none] := by
 obtain ⟨g, h⟩ := gd_some h
 cases h
 exact con_compact (enters_of func62 rfl (by decide)) g (fun p c w => Go.Proofs.Tryz.slices_Compact_int_empty p c w) (fun b c w h1 h2 => Go.Proofs.Tryz.slices_Compact_int b 0 c a0 w h1 g h2)
def F40_j0 (N : Nat) (x26 : (List Int)) : Option ((List Int)) :=
  andO (F61 N x26) fun y27 => andO (F62 N y27) fun y28 => some y28
def F40_j1 (N : Nat) (nx46 : (List Int) → Int → Int → Option ((List Int))) (x38 : Int) (x39 : Int) (x49 : (List Int)) : Option ((List Int)) :=
  nx46 x49 x38 (IntKind.i64.wrap (x39 + (1 : Int)))
def F40_l0_b (N : Nat) (a0 : (List Z78)) (nx46 : (List Int) → Int → Int → Option ((List Int))) (x37 : (List Int)) (x38 : Int) (x39 : Int) : Option ((List Int)) :=
  cond (decide (x39 < x38)) (gd (InR x39 a0.length) (cond ((a0.getD x39.toNat (Ty.dflt Y78)).2.2.2.2.2.1) (gd (x37.length + ([(a0.getD x39.toNat (Ty.dflt Y78)).2.2.2.2.1]).length ≤ lim (.int .i64)) (F40_j1 N nx46 x38 x39 (x37 ++ ([(a0.getD x39.toNat (Ty.dflt Y78)).2.2.2.2.1])))) (F40_j1 N nx46 x38 x39 x37))) (F40_j0 N x37)
def F40_l0 (N : Nat) (a0 : (List Z78)) := loopF (F40_l0_b N a0) (fun _ _ _ => none)
theorem F40_l0_s N a0 {k} (hk : 0 < k) x37 x38 x39 : F40_l0 N a0 k x37 x38 x39 = F40_l0_b N a0 (F40_l0 N a0 (k - 1)) x37 x38 x39 := by cases k;cases hk;rfl
def F40 (N : Nat) (a0 : (List Z78)) : Option ((List Int)) :=
  andO (F58 N a0) fun y2 => cond (!y2) (some ([])) (F40_l0 N a0 N ([]) (a0.length : Int) (0 : Int))
theorem ok40 N a0 {r} (h : F40 N a0 = some r) : Con prog 40 [Vv (.sl Y78) a0] [.lf (.own (.int .i64) r .dp)] := by
 refine ctr [.lf (.own (.int .i64) .dp)] K func40 rfl fun w0 E0 ht => ?_
 unfold F40 at h
 show VW _ _ _ _ _ (retQ _ _ _ _) _
 refine nR K (tn 1) <| sq <| sq <| VW.region <| nG K 1 (tn 1) ?_
 obtain⟨y2,hy,h⟩:=aS h
 refine clc false [.t (.sl Y78)] [] (some 7) K (ok58 N _ hy) <| nN K (tn 1) ?_
 refine cnd h ?_ ?_<;>intro h
 ·refine nR K (tn 1) ?_
  cases h; exact VW.ret (rt [none])
 refine VW.skip <| nR K (tn 1) ?_
 refine VW.join (fun s => ∃ x26, s = ⟨[(3, hh 0)], [ar 0 (.int .i64) x26 .dp]⟩ ∧ F40_j0 N x26 = some r) ?_ ?_
 ·refine nR K (tn 3) <| VW.block <| lop (fun k s => ∃ x37 x38 x39, s = ⟨[(3, hh 0), (9, Vv (.sl Y78) a0), (10, I x38), (11, I x39)], [ar 0 (.int .i64) x37 .dp]⟩ ∧ F40_l0 N a0 k x37 x38 x39 = some r) N [.nilS 3 (.int .i64) .dp, .ren [3, 9, 10, 11] [0]] ⟨[], (a0.length : Int), (0 : Int), rfl, h⟩ ?_
  rintro k46 s ⟨x37, x38, x39, rfl, h⟩
  cases k46 with
  | zero => cases show none = some r from h
  | succ k46 =>
   replace h : F40_l0_b N a0 (F40_l0 N a0 k46) x37 x38 x39 = some r := h
   unfold F40_l0_b at h
   refine nR K (tn 1) <| sq ?_
   refine cnd h ?_ ?_<;>intro h
   ·refine VW.skip ?_
    refine VW.join (fun s => ∃ x49, s = ⟨[(3, hh 0), (9, Vv (.sl Y78) a0), (10, I x38), (11, I x39)], [ar 0 (.int .i64) x49 .dp]⟩ ∧ F40_j1 N (F40_l0 N a0 k46) x38 x39 x49 = some r) ?_ ?_
    ·refine VW.block ?_
     obtain⟨g51,h⟩:=gS h
     refine nR K (an g51 (tn 3)) <| nR K (tn 2) ?_
     refine cnd h ?_ ?_<;>intro h
     ·obtain⟨g52,h⟩:=gS h
      refine nE K (pu 4 (an g52 (tn 1))) ?_
      exact arv [.ren [3, 9, 10, 11] [0]] ⟨(x37 ++ ([(a0.getD x39.toNat D78).2.2.2.2.1])), rfl, h⟩
     refine VW.skip ?_
     exact arv [.ren [3, 9, 10, 11] [0]] ⟨x37, rfl, h⟩
    rintro s ⟨x49, rfl, h⟩
    unfold F40_j1 at h
    refine nE K (tn 2) ?_
    exact aro [.ren [3, 9, 10, 11] [0]] ⟨x49, x38, (wr (x39 + (1 : Int))), rfl, h⟩
   refine VW.exit ?_
   exact arv [.ren [3] [0]] ⟨x37, rfl, h⟩
 rintro s ⟨x26, rfl, h⟩
 unfold F40_j0 at h
 refine sq <| VW.region <| nG K 1 (tn 1) ?_
 obtain⟨y27,hy,h⟩:=aS h
 refine VO.callM [0] [.t (.sl (.int .i64))] (d := some 24) (by kernel_rfl) (by kernel_rfl) (ok61 N _ hy) (by kernel_rfl) <| nN K (tn 0) <| sq <| VW.region <| nG K 1 (tn 1) ?_
 obtain⟨y28,hy,h⟩:=aS h
 refine VO.callM [0] [.t (.sl (.int .i64))] (d := some 26) (by kernel_rfl) (by kernel_rfl) (ok62 N _ hy) (by kernel_rfl) <| nN K (tn 1) ?_
 cases h; exact VW.ret (rt [some 1])
def F63_j0 (N : Nat) : Option (Bool) :=
  some true
def F63_l0_b (N : Nat) (a0 : (List Z78)) (a1 : (List Z78)) (p2 : Z78 → Z78 → Option (Bool)) (nx39 : Int → Int → Option (Bool)) (x31 : Int) (x32 : Int) : Option (Bool) :=
  cond (decide (x32 < x31)) (gd (InR x32 a0.length) (gd (InR x32 a1.length) (andO (p2 (a0.getD x32.toNat (Ty.dflt Y78)) (a1.getD x32.toNat (Ty.dflt Y78))) fun y45 => cond (!y45) (some false) (nx39 x31 (IntKind.i64.wrap (x32 + (1 : Int))))))) (F63_j0 N)
def F63_l0 (N : Nat) (a0 : (List Z78)) (a1 : (List Z78)) (p2 : Z78 → Z78 → Option (Bool)) := loopF (F63_l0_b N a0 a1 p2) (fun _ _ => none)
theorem F63_l0_s N a0 a1 (p2 : Z78 → Z78 → Option (Bool)) {k} (hk : 0 < k) x31 x32 : F63_l0 N a0 a1 p2 k x31 x32 = F63_l0_b N a0 a1 p2 (F63_l0 N a0 a1 p2 (k - 1)) x31 x32 := by cases k;cases hk;rfl
def F63 (N : Nat) (a0 : (List Z78)) (a1 : (List Z78)) (p2 : Z78 → Z78 → Option (Bool)) : Option (Bool) :=
  cond ((a0.length : Int) != (a1.length : Int)) (some false) (F63_l0 N a0 a1 p2 N (a0.length : Int) (0 : Int))
theorem ok63 N a0 a1 (g2 : FuncId) (p2 : Z78 → Z78 → Option (Bool)) (hp2 : ∀ (z0 : Z78) (z1 : Z78) (r : Bool), p2 z0 z1 = some r → Con prog g2 [.agg (lv Y78 z0), .agg (lv Y78 z1)] [.lf (.v .bool r)]) {r} (h : F63 N a0 a1 p2 = some r) : Con prog 63 [Vv (.sl Y78) a0, Vv (.sl Y78) a1, .clo g2 []] [.lf (.v .bool r)] := by
 refine ctr [.lf (.v .bool)] K func63 rfl fun w0 E0 ht => ?_
 unfold F63 at h
 show VW _ _ _ _ _ (retQ _ _ _ _) _
 refine nR K (tn 1) <| sq <| nR K (tn 5) ?_
 refine cnd h ?_ ?_<;>intro h
 ·refine nR K (tn 1) ?_
  cases h; exact VW.ret (rt [])
 refine VW.skip ?_
 refine VW.join (fun s => s = ⟨[], []⟩ ∧ F63_j0 N = some r) ?_ ?_
 ·refine nR K (tn 3) <| VW.block <| lop (fun k s => ∃ x31 x32, s = ⟨[(1, Vv (.sl Y78) a1), (2, .clo g2 []), (15, Vv (.sl Y78) a0), (16, I x31), (17, I x32)], []⟩ ∧ F63_l0 N a0 a1 p2 k x31 x32 = some r) N [.ren [1, 2, 15, 16, 17] []] ⟨(a0.length : Int), (0 : Int), rfl, h⟩ ?_
  rintro k39 s ⟨x31, x32, rfl, h⟩
  cases k39 with
  | zero => cases show none = some r from h
  | succ k39 =>
   replace h : F63_l0_b N a0 a1 p2 (F63_l0 N a0 a1 p2 k39) x31 x32 = some r := h
   unfold F63_l0_b at h
   refine nR K (tn 1) <| sq ?_
   refine cnd h ?_ ?_<;>intro h
   ·refine VW.skip <| sq <| VW.block ?_
    obtain⟨g43,h⟩:=gS h
    refine nR K (pu 1 (an g43 (tn 4))) ?_
    obtain⟨g44,h⟩:=gS h
    refine nR K (pu 2 (an g44 (tn 3))) <| sq <| VW.region <| nG K 3 (tn 3) ?_
    obtain⟨y45,hy,h⟩:=aS h
    refine clc false [.t Y78, .t Y78] [] (some 29) K (hp2 _ _ _ hy) <| nN K (tn 1) ?_
    refine cnd h ?_ ?_<;>intro h
    ·refine nR K (tn 1) ?_
     cases h; exact VW.ret (rt [])
    refine VW.skip <| nE K (tn 2) ?_
    exact aro [.ren [1, 2, 15, 16, 17] []] ⟨x31, (wr (x32 + (1 : Int))), rfl, h⟩
   refine VW.exit ?_
   exact arv [.ren [] []] ⟨rfl, h⟩
 rintro s ⟨rfl, h⟩
 unfold F63_j0 at h
 refine nR K (tn 1) ?_
 cases h; exact VW.ret (rt [])
def F41 (N : Nat) (a0 : (List Z78)) (a1 : (List Z78)) : Option (Bool) :=
  andO (F63 N a0 a1 (fun z0 z1 => F64 N z0 z1)) fun y1 => some y1
theorem ok41 N a0 a1 {r} (h : F41 N a0 a1 = some r) : Con prog 41 [Vv (.sl Y78) a0, Vv (.sl Y78) a1] [.lf (.v .bool r)] := by
 refine ctr [.lf (.v .bool)] K func41 rfl fun w0 E0 ht => ?_
 unfold F41 at h
 show VW _ _ _ _ _ (retQ _ _ _ _) _
 refine nR K (tn 1) <| sq <| VW.region <| nG K 2 (tn 2) ?_
 obtain⟨y1,hy,h⟩:=aS h
 refine clc false [.t (.sl Y78), .t (.sl Y78), .clo []] [] (some 7) K (ok63 N _ _ 64  (fun z0 z1 => F64 N z0 z1 ) (fun z0 z1 _ hz => ok64 N z0 z1 hz) hy) <| nN K (tn 1) ?_
 cases h; exact VW.ret (rt [])
def F15_j0 (N : Nat) : Option (Bool) :=
  some true
def F15_j1 (N : Nat) (nx593 : Int → Int → Option (Bool)) (x486 : Int) (x487 : Int) : Option (Bool) :=
  nx593 x486 (IntKind.i64.wrap (x487 + (1 : Int)))
def F15_l0_b (N : Nat) (nx593 : Int → Int → Option (Bool)) (x486 : Int) (x487 : Int) (nx694 : Int → (List Z78) → (List Z78) → Int → Int → (List Z50) → Int → Int → Option (Bool)) (x682 : Int) (x683 : (List Z78)) (x684 : (List Z78)) (x685 : Int) (x686 : Int) (x687 : (List Z50)) (x688 : Int) (x689 : Int) : Option (Bool) :=
  cond (decide (x689 < x688)) (gd (InR x689 x687.length) (andO (F41 N x683 ((x687.getD x689.toNat (Ty.dflt Y50)).2.1)) fun y698 => cond y698 (some false) (nx694 x682 x683 x684 x685 x686 x687 x688 (IntKind.i64.wrap (x689 + (1 : Int)))))) (F15_j1 N nx593 x486 x487)
def F15_l0 (N : Nat) (nx593 : Int → Int → Option (Bool)) (x486 : Int) (x487 : Int) := loopF (F15_l0_b N nx593 x486 x487) (fun _ _ _ _ _ _ _ _ => none)
theorem F15_l0_s N nx593 x486 x487 {k} (hk : 0 < k) x682 x683 x684 x685 x686 x687 x688 x689 : F15_l0 N nx593 x486 x487 k x682 x683 x684 x685 x686 x687 x688 x689 = F15_l0_b N nx593 x486 x487 (F15_l0 N nx593 x486 x487 (k - 1)) x682 x683 x684 x685 x686 x687 x688 x689 := by cases k;cases hk;rfl
def F15_l1_b (N : Nat) (x52 : (List Z46)) (x53 : (List Z50)) (x54 : Int) (x55 : Int) (nx593 : Int → Int → Option (Bool)) (x486 : Int) (x487 : Int) : Option (Bool) :=
  cond (decide (x487 < x486)) (gd (InR x487 x53.length) (andO (F37 N x52 ((x53.getD x487.toNat (Ty.dflt Y50)).2.1)) fun y657 => cond (!y657) (some false) (andO (F37 N x52 ((x53.getD x487.toNat (Ty.dflt Y50)).2.2.1)) fun y659 => cond (!y659) (some false) (andO (F38 N ((x53.getD x487.toNat (Ty.dflt Y50)).2.1)) fun y661 => cond (((x53.getD x487.toNat (Ty.dflt Y50)).1) != y661) (some false) (andO (F36 N ((x53.getD x487.toNat (Ty.dflt Y50)).2.2.2.1) (0 : Int) x54) fun y663 => cond (!y663) (some false) (andO (F36 N ((x53.getD x487.toNat (Ty.dflt Y50)).2.2.2.2) (0 : Int) x55) fun y665 => cond (!y665) (some false) (andO (F40 N ((x53.getD x487.toNat (Ty.dflt Y50)).2.1)) fun y668 => andO (F39 N ((x53.getD x487.toNat (Ty.dflt Y50)).2.2.1) (y668.length : Int)) fun y669 => cond (!y669) (some false) (gd (0 ≤ x487 ∧ x487 ≤ (x53.length : Int)) (F15_l0 N nx593 x486 x487 N ((x53.getD x487.toNat (Ty.dflt Y50)).1) ((x53.getD x487.toNat (Ty.dflt Y50)).2.1) ((x53.getD x487.toNat (Ty.dflt Y50)).2.2.1) ((x53.getD x487.toNat (Ty.dflt Y50)).2.2.2.1) ((x53.getD x487.toNat (Ty.dflt Y50)).2.2.2.2) (x53.take x487.toNat) ((x53.take x487.toNat).length : Int) (0 : Int)))))))))) (F15_j0 N)
def F15_l1 (N : Nat) (x52 : (List Z46)) (x53 : (List Z50)) (x54 : Int) (x55 : Int) := loopF (F15_l1_b N x52 x53 x54 x55) (fun _ _ => none)
theorem F15_l1_s N x52 x53 x54 x55 {k} (hk : 0 < k) x486 x487 : F15_l1 N x52 x53 x54 x55 k x486 x487 = F15_l1_b N x52 x53 x54 x55 (F15_l1 N x52 x53 x54 x55 (k - 1)) x486 x487 := by cases k;cases hk;rfl
def F15_j2 (N : Nat) (x51 : Int) (x52 : (List Z46)) (x53 : (List Z50)) (x54 : Int) (x55 : Int) (x56 : Int) (x57 : Int) (x58 : Int) (x59 : Int) : Option (Bool) :=
  F15_l1 N x52 x53 x54 x55 N (x53.length : Int) (0 : Int)
def F15_l2_b (N : Nat) (nx735 : Int → (List Z46) → (List Z50) → Int → Int → Int → Int → Int → Int → (List Int) → Int → Int → Option (Bool)) (x717 : Int) (x718 : (List Z46)) (x719 : (List Z50)) (x720 : Int) (x721 : Int) (x722 : Int) (x723 : Int) (x724 : Int) (x725 : Int) (x726 : (List Int)) (x727 : Int) (x728 : Int) : Option (Bool) :=
  cond (decide (x728 < x727)) (gd (InR x728 x726.length) (gd (x728.toNat < x726.length) (andO (F36 N (x726.getD x728.toNat (Ty.dflt (.int .i64))) (0 : Int) (1000000 : Int)) fun y741 => cond (!y741) (some false) (nx735 x717 x718 x719 x720 x721 x722 x723 x724 x725 x726 x727 (IntKind.i64.wrap (x728 + (1 : Int))))))) (F15_j2 N x717 x718 x719 x720 x721 x722 x723 x724 x725)
def F15_l2 (N : Nat) := loopF (F15_l2_b N) (fun _ _ _ _ _ _ _ _ _ _ _ _ => none)
theorem F15_l2_s N {k} (hk : 0 < k) x717 x718 x719 x720 x721 x722 x723 x724 x725 x726 x727 x728 : F15_l2 N k x717 x718 x719 x720 x721 x722 x723 x724 x725 x726 x727 x728 = F15_l2_b N (F15_l2 N (k - 1)) x717 x718 x719 x720 x721 x722 x723 x724 x725 x726 x727 x728 := by cases k;cases hk;rfl
def F15 (N : Nat) (a0 : Z24) : Option (Bool) :=
  andO (F33 N a0.1) fun y5 => cond (!y5) (some false) (andO (F34 N a0.2.1) fun y6 => cond (!y6) (some false) (cond (decide ((a0.2.2.1.length : Int) > a0.1)) (some false) (andO (F35 N a0.2.2.2.1) fun y7 => cond (!y7) (some false) (andO (F35 N a0.2.2.2.2.1) fun y8 => cond (!y8) (some false) (F15_l2 N N a0.1 a0.2.1 a0.2.2.1 a0.2.2.2.1 a0.2.2.2.2.1 a0.2.2.2.2.2.1 a0.2.2.2.2.2.2.1 a0.2.2.2.2.2.2.2.1 a0.2.2.2.2.2.2.2.2 ([a0.2.2.2.2.2.1, a0.2.2.2.2.2.2.1, a0.2.2.2.2.2.2.2.1, a0.2.2.2.2.2.2.2.2]) (([a0.2.2.2.2.2.1, a0.2.2.2.2.2.2.1, a0.2.2.2.2.2.2.2.1, a0.2.2.2.2.2.2.2.2]).length : Int) (0 : Int))))))
theorem ok15 N a0 {r} (h : F15 N a0 = some r) : Con prog 15 [.agg (lv Y24 a0)] [.lf (.v .bool r)] := by
 refine ctr [.lf (.v .bool)] K func15 rfl fun w0 E0 ht => ?_
 unfold F15 at h
 show VW _ _ _ _ _ (retQ _ _ _ _) _
 refine nR K (tn 2) <| sq <| sq <| VW.region <| nG K 2 (tn 2) ?_
 obtain⟨y5,hy,h⟩:=aS h
 refine clc false [.t (.int .i64)] [] (some 11) K (ok33 N _ hy) <| nG K 2 (tn 2) ?_
 refine spC 13 h ?_ ?_<;>intro h
 ·refine nN K (tn 25) ?_
  refine VW.cond (b := true) (by kernel_rfl) (fun _ => ?_) (fun h' => nomatch h')
  refine nR K (tn 1) ?_
  cases h; exact VW.ret (rt [])
 refine nG K 2 (tn 2) <| VO.on (j := 4) (want := false) (d := 13) (b := false) rfl rfl rfl (by kernel_rfl) rfl ?_
 obtain⟨y6,hy,h⟩:=aS h
 refine clc false [.t (.sl Y46)] [] (some 16) K (ok34 N _ hy) <| nG K 3 (tn 3) ?_
 refine spC 19 h ?_ ?_<;>intro h
 ·refine nN K (tn 19) ?_
  refine VW.cond (b := true) (by kernel_rfl) (fun _ => ?_) (fun h' => nomatch h')
  refine nR K (tn 1) ?_
  cases h; exact VW.ret (rt [])
 refine nG K 8 (tn 8) ?_
 refine spC 27 h ?_ ?_<;>intro h
 ·refine nN K (tn 11) ?_
  refine VW.cond (b := true) (by kernel_rfl) (fun _ => ?_) (fun h' => nomatch h')
  refine nR K (tn 1) ?_
  cases h; exact VW.ret (rt [])
 refine nG K 2 (tn 2) <| VO.on (j := 18) (want := false) (d := 27) (b := false) rfl rfl rfl (by kernel_rfl) rfl ?_
 obtain⟨y7,hy,h⟩:=aS h
 refine clc false [.t (.int .i64)] [] (some 30) K (ok35 N _ hy) <| nG K 3 (tn 3) ?_
 refine spC 33 h ?_ ?_<;>intro h
 ·refine nN K (tn 5) ?_
  refine VW.cond (b := true) (by kernel_rfl) (fun _ => ?_) (fun h' => nomatch h')
  refine nR K (tn 1) ?_
  cases h; exact VW.ret (rt [])
 refine nG K 2 (tn 2) <| VO.on (j := 24) (want := false) (d := 33) (b := false) rfl rfl rfl (by kernel_rfl) rfl ?_
 obtain⟨y8,hy,h⟩:=aS h
 refine clc false [.t (.int .i64)] [] (some 36) K (ok35 N _ hy) <| nN K (tn 2) ?_
 refine cnd h ?_ ?_<;>intro h
 ·refine nR K (tn 1) ?_
  cases h; exact VW.ret (rt [])
 refine VW.skip ?_
 refine VW.join (fun s => ∃ x51 x52 x53 x54 x55 x56 x57 x58 x59, s = ⟨[(1, .lf (.ptr 0 0 0 0))], [bx [zi x51, .v (.sl Y46) x52, .v (.sl Y50) x53, zi x54, zi x55, zi x56, zi x57, zi x58, zi x59] 31]⟩ ∧ F15_j2 N x51 x52 x53 x54 x55 x56 x57 x58 x59 = some r) ?_ ?_
 ·refine nR K (tn 11) <| VW.block <| lop (fun k s => ∃ x717 x718 x719 x720 x721 x722 x723 x724 x725 x726 x727 x728, s = ⟨[(1, .lf (.ptr 0 0 0 0)), (47, hh 1), (48, I x727), (49, I x728)], [bx [zi x717, .v (.sl Y46) x718, .v (.sl Y50) x719, zi x720, zi x721, zi x722, zi x723, zi x724, zi x725] 31, ar 0 (.int .i64) x726 .dp]⟩ ∧ F15_l2 N k x717 x718 x719 x720 x721 x722 x723 x724 x725 x726 x727 x728 = some r) N [.ren [1, 47, 48, 49] [0, 1]] ⟨a0.1, a0.2.1, a0.2.2.1, a0.2.2.2.1, a0.2.2.2.2.1, a0.2.2.2.2.2.1, a0.2.2.2.2.2.2.1, a0.2.2.2.2.2.2.2.1, a0.2.2.2.2.2.2.2.2, [a0.2.2.2.2.2.1, a0.2.2.2.2.2.2.1, a0.2.2.2.2.2.2.2.1, a0.2.2.2.2.2.2.2.2], (([a0.2.2.2.2.2.1, a0.2.2.2.2.2.2.1, a0.2.2.2.2.2.2.2.1, a0.2.2.2.2.2.2.2.2]).length : Int), (0 : Int), rfl, h⟩ ?_
  rintro k735 s ⟨x717, x718, x719, x720, x721, x722, x723, x724, x725, x726, x727, x728, rfl, h⟩
  cases k735 with
  | zero => cases show none = some r from h
  | succ k735 =>
   replace h : F15_l2_b N (F15_l2 N k735) x717 x718 x719 x720 x721 x722 x723 x724 x725 x726 x727 x728 = some r := h
   unfold F15_l2_b at h
   refine nR K (tn 1) <| sq ?_
   refine cnd h ?_ ?_<;>intro h
   ·refine VW.skip <| sq <| VW.block ?_
    obtain⟨g739,h⟩:=gS h
    obtain⟨g740,h⟩:=gS h
    refine nR K (an g739 (an g740 (tn 1))) <| sq <| VW.region <| nG K 1 (tn 1) ?_
    obtain⟨y741,hy,h⟩:=aS h
    refine clc false [.t (.int .i64), .t (.int .i64), .t (.int .i64)] [] (some 54) K (ok36 N _ _ _ hy) <| nN K (tn 1) ?_
    refine cnd h ?_ ?_<;>intro h
    ·refine nR K (tn 1) ?_
     cases h; exact VW.ret (rt [])
    refine VW.skip <| nE K (tn 2) ?_
    exact aro [.ren [1, 47, 48, 49] [0, 1]] ⟨x717, x718, x719, x720, x721, x722, x723, x724, x725, x726, x727, (wr (x728 + (1 : Int))), rfl, h⟩
   refine VW.exit ?_
   exact arv [.ren [1] [0]] ⟨x717, x718, x719, x720, x721, x722, x723, x724, x725, rfl, h⟩
 rintro s ⟨x51, x52, x53, x54, x55, x56, x57, x58, x59, rfl, h⟩
 unfold F15_j2 at h
 refine VW.join (fun s => s = ⟨[], []⟩ ∧ F15_j0 N = some r) ?_ ?_
 ·refine nR K (tn 4) <| VW.block <| lop (fun k s => ∃ x486 x487, s = ⟨[(1, .lf (.ptr 0 0 0 0)), (58, Vv (.sl Y50) x53), (59, I x486), (60, I x487)], [bx [zi x51, .v (.sl Y46) x52, .v (.sl Y50) x53, zi x54, zi x55, zi x56, zi x57, zi x58, zi x59] 31]⟩ ∧ F15_l1 N x52 x53 x54 x55 k x486 x487 = some r) N [.ren [1, 58, 59, 60] [0]] ⟨(x53.length : Int), (0 : Int), rfl, h⟩ ?_
  rintro k593 s ⟨x486, x487, rfl, h⟩
  cases k593 with
  | zero => cases show none = some r from h
  | succ k593 =>
   replace h : F15_l1_b N x52 x53 x54 x55 (F15_l1 N x52 x53 x54 x55 k593) x486 x487 = some r := h
   unfold F15_l1_b at h
   refine nR K (tn 1) <| sq ?_
   refine cnd h ?_ ?_<;>intro h
   ·refine VW.skip ?_
    refine VW.join (fun s => s = ⟨[(1, .lf (.ptr 0 0 0 0)), (58, Vv (.sl Y50) x53), (59, I x486), (60, I x487)], [bx [zi x51, .v (.sl Y46) x52, .v (.sl Y50) x53, zi x54, zi x55, zi x56, zi x57, zi x58, zi x59] 31]⟩ ∧ F15_j1 N (F15_l1 N x52 x53 x54 x55 k593) x486 x487 = some r) ?_ ?_
    ·refine VW.block ?_
     obtain⟨g647,h⟩:=gS h
     refine nR K (pu 1 (an g647 (tn 4))) <| sq <| sq ?_
     obtain⟨y657,hy657,h⟩:=aS h
     rcases Bool.eq_false_or_eq_true (!y657) with hb658 | hb658
     ·replace h := cond_t h hb658
      refine dr K [(4, .cl [] (some 69) [.lf (.v .bool y657)]), (6, .lit true)] [(4, 0), (6, 0)] [] [1, 5, 6, 58, 59, 60, 102] [0, 1] (tn 38) ⟨qC false [.t (.sl Y46), .t (.sl Y78)] [] [] (some 69) K (ok37 N _ _ hy657), qB 71 hb658 K trivial, trivial⟩ ?_
      refine VW.cond (b := true) (by kernel_rfl) (fun _ => ?_) (fun h' => nomatch h')
      refine nR K (tn 1) ?_
      cases h; exact VW.ret (rt [])
     replace h := cond_f h hb658
     obtain⟨y659,hy659,h⟩:=aS h
     rcases Bool.eq_false_or_eq_true (!y659) with hb660 | hb660
     ·replace h := cond_t h hb660
      refine dr K [(4, .cl [] (some 69) [.lf (.v .bool y657)]), (6, .lit false), (11, .cl [] (some 76) [.lf (.v .bool y659)]), (14, .lit true)] [(4, 0), (6, 0), (11, 0), (14, 0)] [] [1, 5, 6, 58, 59, 60, 102] [0, 1] (tn 38) ⟨qC false [.t (.sl Y46), .t (.sl Y78)] [] [] (some 69) K (ok37 N _ _ hy657), qB 71 hb658 K trivial, qC false [.t (.sl Y46), .t (.sl Y78)] [] [] (some 76) K (ok37 N _ _ hy659), qB 79 hb660 K trivial, trivial⟩ ?_
      refine VW.cond (b := true) (by kernel_rfl) (fun _ => ?_) (fun h' => nomatch h')
      refine nR K (tn 1) ?_
      cases h; exact VW.ret (rt [])
     replace h := cond_f h hb660
     obtain⟨y661,hy661,h⟩:=aS h
     rcases Bool.eq_false_or_eq_true (((x53.getD x487.toNat D50).1) != y661) with hb662 | hb662
     ·replace h := cond_t h hb662
      refine dr K [(4, .cl [] (some 69) [.lf (.v .bool y657)]), (6, .lit false), (11, .cl [] (some 76) [.lf (.v .bool y659)]), (14, .lit false), (19, .cl [] (some 84) [.lf (.v (.int .i64) y661)]), (22, .lit true)] [(4, 0), (6, 0), (11, 0), (14, 0), (19, 0), (22, 0)] [] [1, 5, 6, 58, 59, 60, 102] [0, 1] (tn 38) ⟨qC false [.t (.sl Y46), .t (.sl Y78)] [] [] (some 69) K (ok37 N _ _ hy657), qB 71 hb658 K trivial, qC false [.t (.sl Y46), .t (.sl Y78)] [] [] (some 76) K (ok37 N _ _ hy659), qB 79 hb660 K trivial, qC false [.t (.sl Y78)] [] [] (some 84) K (ok38 N _ hy661), qB 87 hb662 K trivial, trivial⟩ ?_
      refine VW.cond (b := true) (by kernel_rfl) (fun _ => ?_) (fun h' => nomatch h')
      refine nR K (tn 1) ?_
      cases h; exact VW.ret (rt [])
     replace h := cond_f h hb662
     obtain⟨y663,hy663,h⟩:=aS h
     rcases Bool.eq_false_or_eq_true (!y663) with hb664 | hb664
     ·replace h := cond_t h hb664
      refine dr K [(4, .cl [] (some 69) [.lf (.v .bool y657)]), (6, .lit false), (11, .cl [] (some 76) [.lf (.v .bool y659)]), (14, .lit false), (19, .cl [] (some 84) [.lf (.v (.int .i64) y661)]), (22, .lit false), (27, .cl [] (some 92) [.lf (.v .bool y663)]), (30, .lit true)] [(4, 0), (6, 0), (11, 0), (14, 0), (19, 0), (22, 0), (27, 0), (30, 0)] [] [1, 5, 6, 58, 59, 60, 102] [0, 1] (tn 38) ⟨qC false [.t (.sl Y46), .t (.sl Y78)] [] [] (some 69) K (ok37 N _ _ hy657), qB 71 hb658 K trivial, qC false [.t (.sl Y46), .t (.sl Y78)] [] [] (some 76) K (ok37 N _ _ hy659), qB 79 hb660 K trivial, qC false [.t (.sl Y78)] [] [] (some 84) K (ok38 N _ hy661), qB 87 hb662 K trivial, qC false [.t (.int .i64), .t (.int .i64), .t (.int .i64)] [] [] (some 92) K (ok36 N _ _ _ hy663), qB 95 hb664 K trivial, trivial⟩ ?_
      refine VW.cond (b := true) (by kernel_rfl) (fun _ => ?_) (fun h' => nomatch h')
      refine nR K (tn 1) ?_
      cases h; exact VW.ret (rt [])
     replace h := cond_f h hb664
     obtain⟨y665,hy665,h⟩:=aS h
     refine dr K [(4, .cl [] (some 69) [.lf (.v .bool y657)]), (6, .lit false), (11, .cl [] (some 76) [.lf (.v .bool y659)]), (14, .lit false), (19, .cl [] (some 84) [.lf (.v (.int .i64) y661)]), (22, .lit false), (27, .cl [] (some 92) [.lf (.v .bool y663)]), (30, .lit false), (35, .cl [] (some 100) [.lf (.v .bool y665)])] [(4, 0), (6, 0), (11, 0), (14, 0), (19, 0), (22, 0), (27, 0), (30, 0), (35, 0)] [] [1, 5, 6, 58, 59, 60, 102] [0, 1] (tn 38) ⟨qC false [.t (.sl Y46), .t (.sl Y78)] [] [] (some 69) K (ok37 N _ _ hy657), qB 71 hb658 K trivial, qC false [.t (.sl Y46), .t (.sl Y78)] [] [] (some 76) K (ok37 N _ _ hy659), qB 79 hb660 K trivial, qC false [.t (.sl Y78)] [] [] (some 84) K (ok38 N _ hy661), qB 87 hb662 K trivial, qC false [.t (.int .i64), .t (.int .i64), .t (.int .i64)] [] [] (some 92) K (ok36 N _ _ _ hy663), qB 95 hb664 K trivial, qC false [.t (.int .i64), .t (.int .i64), .t (.int .i64)] [] [] (some 100) K (ok36 N _ _ _ hy665), trivial⟩ ?_
     refine cnd h ?_ ?_<;>intro h
     ·refine nR K (tn 1) ?_
      cases h; exact VW.ret (rt [])
     refine VW.skip <| sq <| sq ?_
     obtain⟨y668,hy668,h⟩:=aS h
     obtain⟨y669,hy669,h⟩:=aS h
     refine dr K [(4, .cl [] (some 107) [.lf (.own (.int .i64) y668 .dp)]), (6, .cl [] (some 109) [.lf (.v .bool y669)])] [(4, 0), (6, 1)] [4] [1, 5, 6, 58, 59, 60, 110] [0, 1] (tn 8) ⟨qC false [.t (.sl Y78)] [] [] (some 107) K (ok40 N _ hy668), qC false [.t (.sl Y78), .t (.int .i64)] [] [] (some 109) K (ok39 N _ _ hy669), trivial⟩ ?_
     refine cnd h ?_ ?_<;>intro h
     ·refine nR K (tn 1) ?_
      cases h; exact VW.ret (rt [])
     refine VW.skip ?_
     obtain⟨g670,h⟩:=gS h
     refine nR K (pu 3 (an g670 (tn 2))) <| VW.block <| lop (fun k s => ∃ x682 x683 x684 x685 x686 x687 x688 x689, s = ⟨[(1, .lf (.ptr 0 0 0 0)), (6, .lf (.ptr 1 0 0 0)), (58, Vv (.sl Y50) x53), (59, I x486), (60, I x487), (114, Vv (.sl Y50) x687), (115, I x688), (116, I x689)], [bx [zi x51, .v (.sl Y46) x52, .v (.sl Y50) x53, zi x54, zi x55, zi x56, zi x57, zi x58, zi x59] 31, bx [zi x682, .v (.sl Y78) x683, .v (.sl Y78) x684, zi x685, zi x686] 57]⟩ ∧ F15_l0 N (F15_l1 N x52 x53 x54 x55 k593) x486 x487 k x682 x683 x684 x685 x686 x687 x688 x689 = some r) N [.ren [1, 6, 58, 59, 60, 114, 115, 116] [0, 1]] ⟨(x53.getD x487.toNat D50).1, (x53.getD x487.toNat D50).2.1, (x53.getD x487.toNat D50).2.2.1, (x53.getD x487.toNat D50).2.2.2.1, (x53.getD x487.toNat D50).2.2.2.2, (x53.take x487.toNat), ((x53.take x487.toNat).length : Int), (0 : Int), rfl, h⟩ ?_
     rintro k694 s ⟨x682, x683, x684, x685, x686, x687, x688, x689, rfl, h⟩
     cases k694 with
     | zero => cases show none = some r from h
     | succ k694 =>
      replace h : F15_l0_b N (F15_l1 N x52 x53 x54 x55 k593) x486 x487 (F15_l0 N (F15_l1 N x52 x53 x54 x55 k593) x486 x487 k694) x682 x683 x684 x685 x686 x687 x688 x689 = some r := h
      unfold F15_l0_b at h
      refine nR K (tn 1) <| sq ?_
      refine cnd h ?_ ?_<;>intro h
      ·refine VW.skip <| sq <| VW.block ?_
       obtain⟨g697,h⟩:=gS h
       refine nR K (an g697 (tn 3)) <| sq <| VW.region <| nG K 4 (tn 4) ?_
       obtain⟨y698,hy,h⟩:=aS h
       refine clc false [.t (.sl Y78), .t (.sl Y78)] [] (some 124) K (ok41 N _ _ hy) <| nN K (tn 0) ?_
       refine cnd h ?_ ?_<;>intro h
       ·refine nR K (tn 1) ?_
        cases h; exact VW.ret (rt [])
       refine VW.skip <| nE K (tn 2) ?_
       exact aro [.ren [1, 6, 58, 59, 60, 114, 115, 116] [0, 1]] ⟨x682, x683, x684, x685, x686, x687, x688, (wr (x689 + (1 : Int))), rfl, h⟩
      refine VW.exit ?_
      exact arv [.ren [1, 58, 59, 60] [0]] ⟨rfl, h⟩
    rintro s ⟨rfl, h⟩
    unfold F15_j1 at h
    refine nE K (tn 2) ?_
    exact aro [.ren [1, 58, 59, 60] [0]] ⟨x486, (wr (x487 + (1 : Int))), rfl, h⟩
   refine VW.exit ?_
   exact arv [.ren [] []] ⟨rfl, h⟩
 rintro s ⟨rfl, h⟩
 unfold F15_j0 at h
 refine nR K (tn 1) ?_
 cases h; exact VW.ret (rt [])
def F42 (N : Nat) (a0 : (List ByteArray)) (a1 : ByteArray) : Option (ByteArray) :=
  gd (a0.length ≤ 140737488355328 ∧ (Lib.join (a0.map (·.data.toList)) a1.data.toList).length ≤ 140737488355328) (some ⟨(Lib.join (a0.map (·.data.toList)) a1.data.toList).toArray⟩)
theorem ok42 N a0 a1 {r} (h : F42 N a0 a1 = some r) : Con prog 42 [.lf (.v (.sl .str) a0), S a1] [.lf (.v .str r)] := by
 obtain ⟨g, h⟩ := gd_some h
 cases h
 exact con_join (enters_of func42 rfl (by decide)) g.1 g.2 (fun a c w => Go.Proofs.Tryz.strings_Join_none a c a1 w) (fun bk o c w h1 h2 h3 => Go.Proofs.Tryz.strings_Join bk o c a0 a1 w h1 h2 g.1 h3 g.2)
def F16 (N : Nat) (a0 : (List ByteArray)) : Option (ByteArray) :=
  andO (F42 N a0 (⟨#[32]⟩ : ByteArray)) fun y1 => some y1
theorem ok16 N a0 {r} (h : F16 N a0 = some r) : Con prog 16 [Vv (.sl .str) a0] [.lf (.v .str r)] := by
 refine ctr [.lf (.v .str)] K func16 rfl fun w0 E0 ht => ?_
 unfold F16 at h
 show VW _ _ _ _ _ (retQ _ _ _ _) _
 refine nR K (tn 1) <| sq <| VW.region <| nG K 1 (tn 1) ?_
 obtain⟨y1,hy,h⟩:=aS h
 refine clc false [.t (.sl .str), .t .str] [] (some 4) K (ok42 N _ _ hy) <| nN K (tn 1) ?_
 cases h; exact VW.ret (rt [])
def F43 (N : Nat) (a0 : Int) : Option (ByteArray) :=
  gd (-9223372036854775808 ≤ a0 ∧ a0 ≤ 9223372036854775807) (some ⟨(Lib.itoa a0).toArray⟩)
theorem ok43 N a0 {r} (h : F43 N a0 = some r) : Con prog 43 [I a0] [.lf (.v .str r)] := by
 obtain ⟨g, h⟩ := gd_some h
 cases h
 exact con_itoa (g := 1) (by kernel_rfl) (enters_of func43 rfl (by decide)) (fun w ht => Go.Proofs.Tryz.strconv_Itoa a0 g.1 g.2 w ht)
def F17 (N : Nat) (a0 : Int) : Option (ByteArray) :=
  andO (F43 N a0) fun y1 => some y1
theorem ok17 N a0 {r} (h : F17 N a0 = some r) : Con prog 17 [I a0] [.lf (.v .str r)] := by
 refine ctr [.lf (.v .str)] K func17 rfl fun w0 E0 ht => ?_
 unfold F17 at h
 show VW _ _ _ _ _ (retQ _ _ _ _) _
 refine nR K (tn 1) <| sq <| VW.region <| nG K 1 (tn 1) ?_
 obtain⟨y1,hy,h⟩:=aS h
 refine clc false [.t (.int .i64)] [] (some 4) K (ok43 N _ hy) <| nN K (tn 1) ?_
 cases h; exact VW.ret (rt [])
def F7 (N : Nat) (a0 : Z24) : Option (ByteArray) :=
  andO (F15 N a0) fun y2 => cond (!y2) (some ByteArray.empty) (andO (F17 N (a0.2.2.1.length : Int)) fun y3 => gd (y3.size + (⟨#[47]⟩ : ByteArray).size ≤ 9223372036854775807) (andO (F17 N a0.1) fun y5 => gd ((y3 ++ (⟨#[47]⟩ : ByteArray)).size + y5.size ≤ 9223372036854775807) (andO (F17 N a0.2.2.2.1) fun y7 => andO (F17 N a0.2.2.2.2.1) fun y8 => andO (F17 N a0.2.2.2.2.2.1) fun y9 => andO (F17 N a0.2.2.2.2.2.2.1) fun y10 => andO (F17 N a0.2.2.2.2.2.2.2.1) fun y11 => andO (F17 N a0.2.2.2.2.2.2.2.2) fun y12 => andO (F16 N ([((y3 ++ (⟨#[47]⟩ : ByteArray)) ++ y5), (⟨#[99, 97, 116]⟩ : ByteArray), y7, (⟨#[115, 116, 97, 116]⟩ : ByteArray), y8, (⟨#[104, 105, 116, 115]⟩ : ByteArray), y9, (⟨#[97, 100, 109, 105, 116, 115]⟩ : ByteArray), y10, (⟨#[114, 101, 106, 101, 99, 116, 115]⟩ : ByteArray), y11, (⟨#[103, 111, 110, 101]⟩ : ByteArray), y12])) fun y13 => some y13)))
theorem ok7 N a0 {r} (h : F7 N a0 = some r) : Con prog 7 [.agg (lv Y24 a0)] [.lf (.v .str r)] := by
 refine ctr [.lf (.v .str)] K func7 rfl fun w0 E0 ht => ?_
 unfold F7 at h
 show VW _ _ _ _ _ (retQ _ _ _ _) _
 refine nR K (tn 2) <| sq <| sq <| VW.region <| nG K 1 (tn 1) ?_
 obtain⟨y2,hy,h⟩:=aS h
 refine clc false [.t Y24] [] (some 4) K (ok15 N _ hy) <| nN K (tn 1) ?_
 refine cnd h ?_ ?_<;>intro h
 ·refine nR K (tn 1) ?_
  cases h; exact VW.ret (rt [])
 refine VW.skip <| sq ?_
 obtain⟨y3,hy3,h⟩:=aS h
 obtain⟨g4,h⟩:=gS h
 obtain⟨y5,hy5,h⟩:=aS h
 obtain⟨g6,h⟩:=gS h
 obtain⟨y7,hy7,h⟩:=aS h
 obtain⟨y8,hy8,h⟩:=aS h
 obtain⟨y9,hy9,h⟩:=aS h
 obtain⟨y10,hy10,h⟩:=aS h
 obtain⟨y11,hy11,h⟩:=aS h
 obtain⟨y12,hy12,h⟩:=aS h
 obtain⟨y13,hy13,h⟩:=aS h
 refine dr K [(3, .cl [] (some 9) [.lf (.v .str y3)]), (7, .cl [] (some 13) [.lf (.v .str y5)]), (11, .cl [] (some 17) [.lf (.v .str y7)]), (14, .cl [] (some 20) [.lf (.v .str y8)]), (17, .cl [] (some 23) [.lf (.v .str y9)]), (20, .cl [] (some 26) [.lf (.v .str y10)]), (23, .cl [] (some 29) [.lf (.v .str y11)]), (26, .cl [] (some 32) [.lf (.v .str y12)]), (28, .cl [] (some 34) [.lf (.v .str y13)])] [(3, 0), (3, 1), (7, 0), (7, 1), (11, 0), (14, 0), (17, 0), (20, 0), (23, 0), (26, 0), (28, 1)] [27] [2] [] (pu 4 (an g4 (pu 3 (an g6 (tn 21))))) ⟨qC false [.t (.int .i64)] [] [] (some 9) K (ok17 N _ hy3), qC false [.t (.int .i64)] [] [] (some 9) K (ok17 N _ hy3), qC false [.t (.int .i64)] [] [] (some 13) K (ok17 N _ hy5), qC false [.t (.int .i64)] [] [] (some 13) K (ok17 N _ hy5), qC false [.t (.int .i64)] [] [] (some 17) K (ok17 N _ hy7), qC false [.t (.int .i64)] [] [] (some 20) K (ok17 N _ hy8), qC false [.t (.int .i64)] [] [] (some 23) K (ok17 N _ hy9), qC false [.t (.int .i64)] [] [] (some 26) K (ok17 N _ hy10), qC false [.t (.int .i64)] [] [] (some 29) K (ok17 N _ hy11), qC false [.t (.int .i64)] [] [] (some 32) K (ok17 N _ hy12), qC true [.t (.sl .str)] [] [] (some 34) K (ok16 N _ hy13), trivial⟩ ?_
 cases h; exact VW.ret (rt [])
def F44 (N : Nat) (a0 : Z46) (a1 : Z46) : Option (Bool) :=
  cond (!(a0.1.toList == a1.1.toList)) (some false) (cond (a0.2 != a1.2) (some false) (some true))
theorem ok44 N a0 a1 {r} (h : F44 N a0 a1 = some r) : Con prog 44 [.agg (lv Y46 a0), .agg (lv Y46 a1)] [.lf (.v .bool r)] := by
 refine ctr [.lf (.v .bool)] K func44 rfl fun w0 E0 ht => ?_
 unfold F44 at h
 show VW _ _ _ _ _ (retQ _ _ _ _) _
 refine nR K (tn 3) <| sq <| nR K (tn 5) ?_
 refine cnd h ?_ ?_<;>intro h
 ·refine nR K (tn 1) ?_
  cases h; exact VW.ret (rt [])
 refine VW.skip <| sq <| nR K (tn 5) ?_
 refine cnd h ?_ ?_<;>intro h
 ·refine nR K (tn 1) ?_
  cases h; exact VW.ret (rt [])
 refine VW.skip <| nR K (tn 1) ?_
 cases h; exact VW.ret (rt [])
def F18_j0 (N : Nat) : Option (Bool) :=
  some true
def F18_l0_b (N : Nat) (a0 : (List Z46)) (a1 : (List Z46)) (nx35 : Int → Option (Bool)) (x28 : Int) : Option (Bool) :=
  cond (decide (x28 < (a0.length : Int))) (gd (InR x28 a0.length) (gd (InR x28 a1.length) (andO (F44 N (a0.getD x28.toNat (Ty.dflt Y46)) (a1.getD x28.toNat (Ty.dflt Y46))) fun y41 => cond (!y41) (some false) (nx35 (IntKind.i64.wrap (x28 + (1 : Int))))))) (F18_j0 N)
def F18_l0 (N : Nat) (a0 : (List Z46)) (a1 : (List Z46)) := loopF (F18_l0_b N a0 a1) (fun _ => none)
theorem F18_l0_s N a0 a1 {k} (hk : 0 < k) x28 : F18_l0 N a0 a1 k x28 = F18_l0_b N a0 a1 (F18_l0 N a0 a1 (k - 1)) x28 := by cases k;cases hk;rfl
def F18 (N : Nat) (a0 : (List Z46)) (a1 : (List Z46)) : Option (Bool) :=
  cond ((a0.length : Int) != (a1.length : Int)) (some false) (F18_l0 N a0 a1 N (0 : Int))
theorem ok18 N a0 a1 {r} (h : F18 N a0 a1 = some r) : Con prog 18 [Vv (.sl Y46) a0, Vv (.sl Y46) a1] [.lf (.v .bool r)] := by
 refine ctr [.lf (.v .bool)] K func18 rfl fun w0 E0 ht => ?_
 unfold F18 at h
 show VW _ _ _ _ _ (retQ _ _ _ _) _
 refine nR K (tn 1) <| sq <| nR K (tn 5) ?_
 refine cnd h ?_ ?_<;>intro h
 ·refine nR K (tn 1) ?_
  cases h; exact VW.ret (rt [])
 refine VW.skip ?_
 refine VW.join (fun s => s = ⟨[], []⟩ ∧ F18_j0 N = some r) ?_ ?_
 ·refine nR K (tn 1) <| VW.block <| lop (fun k s => ∃ x28, s = ⟨[(0, Vv (.sl Y46) a0), (1, Vv (.sl Y46) a1), (5, I x28)], []⟩ ∧ F18_l0 N a0 a1 k x28 = some r) N [.ren [0, 1, 5] []] ⟨(0 : Int), rfl, h⟩ ?_
  rintro k35 s ⟨x28, rfl, h⟩
  cases k35 with
  | zero => cases show none = some r from h
  | succ k35 =>
   replace h : F18_l0_b N a0 a1 (F18_l0 N a0 a1 k35) x28 = some r := h
   unfold F18_l0_b at h
   refine sq <| nR K (tn 4) ?_
   refine cnd h ?_ ?_<;>intro h
   ·refine VW.skip <| sq <| VW.block <| sq ?_
    obtain⟨g39,h⟩:=gS h
    obtain⟨g40,h⟩:=gS h
    obtain⟨y41,hy41,h⟩:=aS h
    refine dr K [(8, .cl [] (some 25) [.lf (.v .bool y41)])] [(8, 0)] [] [0, 1, 5, 26] [] (pu 2 (an g39 (pu 3 (an g40 (tn 3))))) ⟨qC false [.t Y46, .t Y46] [] [] (some 25) K (ok44 N _ _ hy41), trivial⟩ ?_
    refine cnd h ?_ ?_<;>intro h
    ·refine nR K (tn 1) ?_
     cases h; exact VW.ret (rt [])
    refine VW.skip <| nE K (tn 3) ?_
    exact aro [.ren [0, 1, 5] []] ⟨(wr (x28 + (1 : Int))), rfl, h⟩
   refine VW.exit ?_
   exact arv [.ren [] []] ⟨rfl, h⟩
 rintro s ⟨rfl, h⟩
 unfold F18_j0 at h
 refine nR K (tn 1) ?_
 cases h; exact VW.ret (rt [])
def F140_j0 (N : Nat) : Option (Bool) :=
  some true
def F140_l0_b (N : Nat) (a0 : (List Int)) (a1 : (List Int)) (nx25 : Int → Option (Bool)) (x20 : Int) : Option (Bool) :=
  cond (decide (x20 < (a0.length : Int))) (gd (InR x20 a0.length) (gd (InR x20 a1.length) (cond ((a0.getD x20.toNat (Ty.dflt (.int .i64))) != (a1.getD x20.toNat (Ty.dflt (.int .i64)))) (some false) (nx25 (IntKind.i64.wrap (x20 + (1 : Int))))))) (F140_j0 N)
def F140_l0 (N : Nat) (a0 : (List Int)) (a1 : (List Int)) := loopF (F140_l0_b N a0 a1) (fun _ => none)
theorem F140_l0_s N a0 a1 {k} (hk : 0 < k) x20 : F140_l0 N a0 a1 k x20 = F140_l0_b N a0 a1 (F140_l0 N a0 a1 (k - 1)) x20 := by cases k;cases hk;rfl
def F140 (N : Nat) (a0 : (List Int)) (a1 : (List Int)) : Option (Bool) :=
  cond ((a0.length : Int) != (a1.length : Int)) (some false) (F140_l0 N a0 a1 N (0 : Int))
theorem ok140 N a0 a1 {r} (h : F140 N a0 a1 = some r) : Con prog 140 [Vv (.sl (.int .i64)) a0, Vv (.sl (.int .i64)) a1] [.lf (.v .bool r)] := by
 refine ctr [.lf (.v .bool)] K func140 rfl fun w0 E0 ht => ?_
 unfold F140 at h
 show VW _ _ _ _ _ (retQ _ _ _ _) _
 refine nR K (tn 1) <| sq <| nR K (tn 5) ?_
 refine cnd h ?_ ?_<;>intro h
 ·refine nR K (tn 1) ?_
  cases h; exact VW.ret (rt [])
 refine VW.skip ?_
 refine VW.join (fun s => s = ⟨[], []⟩ ∧ F140_j0 N = some r) ?_ ?_
 ·refine nR K (tn 1) <| VW.block <| lop (fun k s => ∃ x20, s = ⟨[(0, Vv (.sl (.int .i64)) a0), (1, Vv (.sl (.int .i64)) a1), (5, I x20)], []⟩ ∧ F140_l0 N a0 a1 k x20 = some r) N [.ren [0, 1, 5] []] ⟨(0 : Int), rfl, h⟩ ?_
  rintro k25 s ⟨x20, rfl, h⟩
  cases k25 with
  | zero => cases show none = some r from h
  | succ k25 =>
   replace h : F140_l0_b N a0 a1 (F140_l0 N a0 a1 k25) x20 = some r := h
   unfold F140_l0_b at h
   refine sq <| nR K (tn 4) ?_
   refine cnd h ?_ ?_<;>intro h
   ·refine VW.skip <| sq <| VW.block <| sq ?_
    obtain⟨g28,h⟩:=gS h
    obtain⟨g29,h⟩:=gS h
    refine dr K [] [] [] [0, 1, 5, 25] [] (pu 2 (an g28 (pu 3 (an g29 (tn 2))))) trivial ?_
    refine cnd h ?_ ?_<;>intro h
    ·refine nR K (tn 1) ?_
     cases h; exact VW.ret (rt [])
    refine VW.skip <| nE K (tn 3) ?_
    exact aro [.ren [0, 1, 5] []] ⟨(wr (x20 + (1 : Int))), rfl, h⟩
   refine VW.exit ?_
   exact arv [.ren [] []] ⟨rfl, h⟩
 rintro s ⟨rfl, h⟩
 unfold F140_j0 at h
 refine nR K (tn 1) ?_
 cases h; exact VW.ret (rt [])
def F94 (N : Nat) (a0 : Z78) (a1 : Z78) : Option (Bool) :=
  cond (a0.1 != a1.1) (some false) (cond (!(a0.2.1.toList == a1.2.1.toList)) (some false) (cond (a0.2.2.1 != a1.2.2.1) (some false) (cond (a0.2.2.2.1 != a1.2.2.2.1) (some false) (cond (a0.2.2.2.2.1 != a1.2.2.2.2.1) (some false) (cond (!(a0.2.2.2.2.2.1 == a1.2.2.2.2.2.1)) (some false) (andO (F140 N a0.2.2.2.2.2.2 a1.2.2.2.2.2.2) fun y2 => cond (!y2) (some false) (some true)))))))
theorem ok94 N a0 a1 {r} (h : F94 N a0 a1 = some r) : Con prog 94 [.agg (lv Y78 a0), .agg (lv Y78 a1)] [.lf (.v .bool r)] := by
 refine ctr [.lf (.v .bool)] K func94 rfl fun w0 E0 ht => ?_
 unfold F94 at h
 show VW _ _ _ _ _ (retQ _ _ _ _) _
 refine nR K (tn 3) <| sq <| nR K (tn 5) ?_
 refine cnd h ?_ ?_<;>intro h
 ·refine nR K (tn 1) ?_
  cases h; exact VW.ret (rt [])
 refine VW.skip <| sq <| nR K (tn 5) ?_
 refine cnd h ?_ ?_<;>intro h
 ·refine nR K (tn 1) ?_
  cases h; exact VW.ret (rt [])
 refine VW.skip <| sq <| nR K (tn 5) ?_
 refine cnd h ?_ ?_<;>intro h
 ·refine nR K (tn 1) ?_
  cases h; exact VW.ret (rt [])
 refine VW.skip <| sq <| nR K (tn 5) ?_
 refine cnd h ?_ ?_<;>intro h
 ·refine nR K (tn 1) ?_
  cases h; exact VW.ret (rt [])
 refine VW.skip <| sq <| nR K (tn 5) ?_
 refine cnd h ?_ ?_<;>intro h
 ·refine nR K (tn 1) ?_
  cases h; exact VW.ret (rt [])
 refine VW.skip <| sq <| nR K (tn 5) ?_
 refine cnd h ?_ ?_<;>intro h
 ·refine nR K (tn 1) ?_
  cases h; exact VW.ret (rt [])
 refine VW.skip <| sq <| sq <| VW.region <| nG K 4 (tn 4) ?_
 obtain⟨y2,hy,h⟩:=aS h
 refine clc false [.t (.sl (.int .i64)), .t (.sl (.int .i64))] [] (some 39) K (ok140 N _ _ hy) <| nN K (tn 1) ?_
 refine cnd h ?_ ?_<;>intro h
 ·refine nR K (tn 1) ?_
  cases h; exact VW.ret (rt [])
 refine VW.skip <| nR K (tn 1) ?_
 cases h; exact VW.ret (rt [])
def F69_j0 (N : Nat) : Option (Bool) :=
  some true
def F69_l0_b (N : Nat) (a0 : (List Z78)) (a1 : (List Z78)) (nx35 : Int → Option (Bool)) (x28 : Int) : Option (Bool) :=
  cond (decide (x28 < (a0.length : Int))) (gd (InR x28 a0.length) (gd (InR x28 a1.length) (andO (F94 N (a0.getD x28.toNat (Ty.dflt Y78)) (a1.getD x28.toNat (Ty.dflt Y78))) fun y41 => cond (!y41) (some false) (nx35 (IntKind.i64.wrap (x28 + (1 : Int))))))) (F69_j0 N)
def F69_l0 (N : Nat) (a0 : (List Z78)) (a1 : (List Z78)) := loopF (F69_l0_b N a0 a1) (fun _ => none)
theorem F69_l0_s N a0 a1 {k} (hk : 0 < k) x28 : F69_l0 N a0 a1 k x28 = F69_l0_b N a0 a1 (F69_l0 N a0 a1 (k - 1)) x28 := by cases k;cases hk;rfl
def F69 (N : Nat) (a0 : (List Z78)) (a1 : (List Z78)) : Option (Bool) :=
  cond ((a0.length : Int) != (a1.length : Int)) (some false) (F69_l0 N a0 a1 N (0 : Int))
theorem ok69 N a0 a1 {r} (h : F69 N a0 a1 = some r) : Con prog 69 [Vv (.sl Y78) a0, Vv (.sl Y78) a1] [.lf (.v .bool r)] := by
 refine ctr [.lf (.v .bool)] K func69 rfl fun w0 E0 ht => ?_
 unfold F69 at h
 show VW _ _ _ _ _ (retQ _ _ _ _) _
 refine nR K (tn 1) <| sq <| nR K (tn 5) ?_
 refine cnd h ?_ ?_<;>intro h
 ·refine nR K (tn 1) ?_
  cases h; exact VW.ret (rt [])
 refine VW.skip ?_
 refine VW.join (fun s => s = ⟨[], []⟩ ∧ F69_j0 N = some r) ?_ ?_
 ·refine nR K (tn 1) <| VW.block <| lop (fun k s => ∃ x28, s = ⟨[(0, Vv (.sl Y78) a0), (1, Vv (.sl Y78) a1), (5, I x28)], []⟩ ∧ F69_l0 N a0 a1 k x28 = some r) N [.ren [0, 1, 5] []] ⟨(0 : Int), rfl, h⟩ ?_
  rintro k35 s ⟨x28, rfl, h⟩
  cases k35 with
  | zero => cases show none = some r from h
  | succ k35 =>
   replace h : F69_l0_b N a0 a1 (F69_l0 N a0 a1 k35) x28 = some r := h
   unfold F69_l0_b at h
   refine sq <| nR K (tn 4) ?_
   refine cnd h ?_ ?_<;>intro h
   ·refine VW.skip <| sq <| VW.block <| sq ?_
    obtain⟨g39,h⟩:=gS h
    obtain⟨g40,h⟩:=gS h
    obtain⟨y41,hy41,h⟩:=aS h
    refine dr K [(8, .cl [] (some 25) [.lf (.v .bool y41)])] [(8, 0)] [] [0, 1, 5, 26] [] (pu 2 (an g39 (pu 3 (an g40 (tn 3))))) ⟨qC false [.t Y78, .t Y78] [] [] (some 25) K (ok94 N _ _ hy41), trivial⟩ ?_
    refine cnd h ?_ ?_<;>intro h
    ·refine nR K (tn 1) ?_
     cases h; exact VW.ret (rt [])
    refine VW.skip <| nE K (tn 3) ?_
    exact aro [.ren [0, 1, 5] []] ⟨(wr (x28 + (1 : Int))), rfl, h⟩
   refine VW.exit ?_
   exact arv [.ren [] []] ⟨rfl, h⟩
 rintro s ⟨rfl, h⟩
 unfold F69_j0 at h
 refine nR K (tn 1) ?_
 cases h; exact VW.ret (rt [])
def F45 (N : Nat) (a0 : Z50) (a1 : Z50) : Option (Bool) :=
  cond (a0.1 != a1.1) (some false) (andO (F69 N a0.2.1 a1.2.1) fun y2 => cond (!y2) (some false) (andO (F69 N a0.2.2.1 a1.2.2.1) fun y4 => cond (!y4) (some false) (cond (a0.2.2.2.1 != a1.2.2.2.1) (some false) (cond (a0.2.2.2.2 != a1.2.2.2.2) (some false) (some true)))))
theorem ok45 N a0 a1 {r} (h : F45 N a0 a1 = some r) : Con prog 45 [.agg (lv Y50 a0), .agg (lv Y50 a1)] [.lf (.v .bool r)] := by
 refine ctr [.lf (.v .bool)] K func45 rfl fun w0 E0 ht => ?_
 unfold F45 at h
 show VW _ _ _ _ _ (retQ _ _ _ _) _
 refine nR K (tn 3) <| sq <| nR K (tn 5) ?_
 refine cnd h ?_ ?_<;>intro h
 ·refine nR K (tn 1) ?_
  cases h; exact VW.ret (rt [])
 refine VW.skip <| sq <| sq <| VW.region <| nG K 4 (tn 4) ?_
 obtain⟨y2,hy,h⟩:=aS h
 refine clc false [.t (.sl Y78), .t (.sl Y78)] [] (some 14) K (ok69 N _ _ hy) <| nN K (tn 1) ?_
 refine cnd h ?_ ?_<;>intro h
 ·refine nR K (tn 1) ?_
  cases h; exact VW.ret (rt [])
 refine VW.skip <| sq <| sq <| VW.region <| nG K 4 (tn 4) ?_
 obtain⟨y4,hy,h⟩:=aS h
 refine clc false [.t (.sl Y78), .t (.sl Y78)] [] (some 20) K (ok69 N _ _ hy) <| nN K (tn 1) ?_
 refine cnd h ?_ ?_<;>intro h
 ·refine nR K (tn 1) ?_
  cases h; exact VW.ret (rt [])
 refine VW.skip <| sq <| nR K (tn 5) ?_
 refine cnd h ?_ ?_<;>intro h
 ·refine nR K (tn 1) ?_
  cases h; exact VW.ret (rt [])
 refine VW.skip <| sq <| nR K (tn 5) ?_
 refine cnd h ?_ ?_<;>intro h
 ·refine nR K (tn 1) ?_
  cases h; exact VW.ret (rt [])
 refine VW.skip <| nR K (tn 1) ?_
 cases h; exact VW.ret (rt [])
def F19_j0 (N : Nat) : Option (Bool) :=
  some true
def F19_l0_b (N : Nat) (a0 : (List Z50)) (a1 : (List Z50)) (nx35 : Int → Option (Bool)) (x28 : Int) : Option (Bool) :=
  cond (decide (x28 < (a0.length : Int))) (gd (InR x28 a0.length) (gd (InR x28 a1.length) (andO (F45 N (a0.getD x28.toNat (Ty.dflt Y50)) (a1.getD x28.toNat (Ty.dflt Y50))) fun y41 => cond (!y41) (some false) (nx35 (IntKind.i64.wrap (x28 + (1 : Int))))))) (F19_j0 N)
def F19_l0 (N : Nat) (a0 : (List Z50)) (a1 : (List Z50)) := loopF (F19_l0_b N a0 a1) (fun _ => none)
theorem F19_l0_s N a0 a1 {k} (hk : 0 < k) x28 : F19_l0 N a0 a1 k x28 = F19_l0_b N a0 a1 (F19_l0 N a0 a1 (k - 1)) x28 := by cases k;cases hk;rfl
def F19 (N : Nat) (a0 : (List Z50)) (a1 : (List Z50)) : Option (Bool) :=
  cond ((a0.length : Int) != (a1.length : Int)) (some false) (F19_l0 N a0 a1 N (0 : Int))
theorem ok19 N a0 a1 {r} (h : F19 N a0 a1 = some r) : Con prog 19 [Vv (.sl Y50) a0, Vv (.sl Y50) a1] [.lf (.v .bool r)] := by
 refine ctr [.lf (.v .bool)] K func19 rfl fun w0 E0 ht => ?_
 unfold F19 at h
 show VW _ _ _ _ _ (retQ _ _ _ _) _
 refine nR K (tn 1) <| sq <| nR K (tn 5) ?_
 refine cnd h ?_ ?_<;>intro h
 ·refine nR K (tn 1) ?_
  cases h; exact VW.ret (rt [])
 refine VW.skip ?_
 refine VW.join (fun s => s = ⟨[], []⟩ ∧ F19_j0 N = some r) ?_ ?_
 ·refine nR K (tn 1) <| VW.block <| lop (fun k s => ∃ x28, s = ⟨[(0, Vv (.sl Y50) a0), (1, Vv (.sl Y50) a1), (5, I x28)], []⟩ ∧ F19_l0 N a0 a1 k x28 = some r) N [.ren [0, 1, 5] []] ⟨(0 : Int), rfl, h⟩ ?_
  rintro k35 s ⟨x28, rfl, h⟩
  cases k35 with
  | zero => cases show none = some r from h
  | succ k35 =>
   replace h : F19_l0_b N a0 a1 (F19_l0 N a0 a1 k35) x28 = some r := h
   unfold F19_l0_b at h
   refine sq <| nR K (tn 4) ?_
   refine cnd h ?_ ?_<;>intro h
   ·refine VW.skip <| sq <| VW.block <| sq ?_
    obtain⟨g39,h⟩:=gS h
    obtain⟨g40,h⟩:=gS h
    obtain⟨y41,hy41,h⟩:=aS h
    refine dr K [(8, .cl [] (some 25) [.lf (.v .bool y41)])] [(8, 0)] [] [0, 1, 5, 26] [] (pu 2 (an g39 (pu 3 (an g40 (tn 3))))) ⟨qC false [.t Y50, .t Y50] [] [] (some 25) K (ok45 N _ _ hy41), trivial⟩ ?_
    refine cnd h ?_ ?_<;>intro h
    ·refine nR K (tn 1) ?_
     cases h; exact VW.ret (rt [])
    refine VW.skip <| nE K (tn 3) ?_
    exact aro [.ren [0, 1, 5] []] ⟨(wr (x28 + (1 : Int))), rfl, h⟩
   refine VW.exit ?_
   exact arv [.ren [] []] ⟨rfl, h⟩
 rintro s ⟨rfl, h⟩
 unfold F19_j0 at h
 refine nR K (tn 1) ?_
 cases h; exact VW.ret (rt [])
def F8 (N : Nat) (a0 : Z24) (a1 : Z24) : Option (Bool) :=
  cond (a0.1 != a1.1) (some false) (andO (F18 N a0.2.1 a1.2.1) fun y2 => cond (!y2) (some false) (andO (F19 N a0.2.2.1 a1.2.2.1) fun y4 => cond (!y4) (some false) (cond (a0.2.2.2.1 != a1.2.2.2.1) (some false) (cond (a0.2.2.2.2.1 != a1.2.2.2.2.1) (some false) (cond (a0.2.2.2.2.2.1 != a1.2.2.2.2.2.1) (some false) (cond (a0.2.2.2.2.2.2.1 != a1.2.2.2.2.2.2.1) (some false) (cond (a0.2.2.2.2.2.2.2.1 != a1.2.2.2.2.2.2.2.1) (some false) (cond (a0.2.2.2.2.2.2.2.2 != a1.2.2.2.2.2.2.2.2) (some false) (some true)))))))))
theorem ok8 N a0 a1 {r} (h : F8 N a0 a1 = some r) : Con prog 8 [.agg (lv Y24 a0), .agg (lv Y24 a1)] [.lf (.v .bool r)] := by
 refine ctr [.lf (.v .bool)] K func8 rfl fun w0 E0 ht => ?_
 unfold F8 at h
 show VW _ _ _ _ _ (retQ _ _ _ _) _
 refine nR K (tn 3) <| sq <| nR K (tn 5) ?_
 refine cnd h ?_ ?_<;>intro h
 ·refine nR K (tn 1) ?_
  cases h; exact VW.ret (rt [])
 refine VW.skip <| sq <| sq <| VW.region <| nG K 4 (tn 4) ?_
 obtain⟨y2,hy,h⟩:=aS h
 refine clc false [.t (.sl Y46), .t (.sl Y46)] [] (some 14) K (ok18 N _ _ hy) <| nN K (tn 1) ?_
 refine cnd h ?_ ?_<;>intro h
 ·refine nR K (tn 1) ?_
  cases h; exact VW.ret (rt [])
 refine VW.skip <| sq <| sq <| VW.region <| nG K 4 (tn 4) ?_
 obtain⟨y4,hy,h⟩:=aS h
 refine clc false [.t (.sl Y50), .t (.sl Y50)] [] (some 20) K (ok19 N _ _ hy) <| nN K (tn 1) ?_
 refine cnd h ?_ ?_<;>intro h
 ·refine nR K (tn 1) ?_
  cases h; exact VW.ret (rt [])
 refine VW.skip <| sq <| nR K (tn 5) ?_
 refine cnd h ?_ ?_<;>intro h
 ·refine nR K (tn 1) ?_
  cases h; exact VW.ret (rt [])
 refine VW.skip <| sq <| nR K (tn 5) ?_
 refine cnd h ?_ ?_<;>intro h
 ·refine nR K (tn 1) ?_
  cases h; exact VW.ret (rt [])
 refine VW.skip <| sq <| nR K (tn 5) ?_
 refine cnd h ?_ ?_<;>intro h
 ·refine nR K (tn 1) ?_
  cases h; exact VW.ret (rt [])
 refine VW.skip <| sq <| nR K (tn 5) ?_
 refine cnd h ?_ ?_<;>intro h
 ·refine nR K (tn 1) ?_
  cases h; exact VW.ret (rt [])
 refine VW.skip <| sq <| nR K (tn 5) ?_
 refine cnd h ?_ ?_<;>intro h
 ·refine nR K (tn 1) ?_
  cases h; exact VW.ret (rt [])
 refine VW.skip <| sq <| nR K (tn 5) ?_
 refine cnd h ?_ ?_<;>intro h
 ·refine sR K [4] [] ⟨[(4, B false)], []⟩ (tn 1) ?_
  cases h; exact VW.ret (rt [])
 refine VW.skip <| sR K [4] [] ⟨[(4, B true)], []⟩ (tn 1) ?_
 cases h; exact VW.ret (rt [])
def F3 (N : Nat) (a0 : Z24) : Option (Bool) :=
  andO (F4 N a0 (1048576 : Int)) fun y1 => cond (decide (y1 < (0 : Int))) (some true) (andO (F6 N a0) fun y2 => andO (F5 N y2) fun y3 => andO (F6 N a0) fun y4 => andO (F7 N y4) fun y5 => cond (!(y5.toList == y3.toList)) (some false) (andO (F6 N a0) fun y8 => andO (F8 N y4 y8) fun y9 => cond (!y9) (some false) (some true)))
theorem ok3 N a0 {r} (h : F3 N a0 = some r) : Con prog 3 [.agg (lv Y24 a0)] [.lf (.v .bool r)] := by
 refine ctr [.lf (.v .bool)] K func3 rfl fun w0 E0 ht => ?_
 unfold F3 at h
 show VW _ _ _ _ _ (retQ _ _ _ _) _
 refine nR K (tn 2) <| nR K (tn 1) <| sq <| VW.region <| nG K 2 (tn 2) ?_
 obtain⟨y1,hy,h⟩:=aS h
 refine clc false [.t Y24, .t (.int .i64)] [] (some 9) K (ok4 N _ _ hy) <| nN K (tn 1) <| sq <| nR K (tn 2) ?_
 refine cnd h ?_ ?_<;>intro h
 ·refine nR K (tn 1) ?_
  cases h; exact VW.ret (rt [])
 refine VW.skip <| sq <| VW.region <| nG K 1 (tn 1) ?_
 obtain⟨y2,hy,h⟩:=aS h
 refine clc false [.t Y24] [] (some 13) K (ok6 N _ hy) ?_
 obtain⟨y3,hy,h⟩:=aS h
 refine clc true [.t Y24] [] (some 14) K (ok5 N _ hy) <| nN K (tn 1) <| sq <| VW.region <| nG K 1 (tn 1) ?_
 obtain⟨y4,hy,h⟩:=aS h
 refine clc false [.t Y24] [] (some 16) K (ok6 N _ hy) <| nN K (tn 2) <| sq <| VW.region <| nG K 1 (tn 1) ?_
 obtain⟨y5,hy,h⟩:=aS h
 refine clc true [.t Y24] [] (some 18) K (ok7 N _ hy) <| nN K (tn 1) <| sq <| nR K (tn 3) ?_
 refine cnd h ?_ ?_<;>intro h
 ·refine sR K [2] [] ⟨[(2, B false)], []⟩ (tn 1) ?_
  cases h; exact VW.ret (rt [])
 refine VW.skip <| sq <| sq ?_
 obtain⟨y8,hy8,h⟩:=aS h
 obtain⟨y9,hy9,h⟩:=aS h
 refine dr K [(2, .cl [] (some 24) [.agg [.v (.int .i64) y8.1, .own Y46 y8.2.1 .dp, .own Y50 y8.2.2.1 .dp, .v (.int .i64) y8.2.2.2.1, .v (.int .i64) y8.2.2.2.2.1, .v (.int .i64) y8.2.2.2.2.2.1, .v (.int .i64) y8.2.2.2.2.2.2.1, .v (.int .i64) y8.2.2.2.2.2.2.2.1, .v (.int .i64) y8.2.2.2.2.2.2.2.2]]), (3, .cl [] (some 25) [.lf (.v .bool y9)])] [(2, 0), (3, 1)] [2] [26] [] (tn 5) ⟨qC false [.t Y24] [] [] (some 24) K (ok6 N _ hy8), qC true [.t Y24, .t Y24] [] [] (some 25) K (ok8 N _ _ hy9), trivial⟩ ?_
 refine cnd h ?_ ?_<;>intro h
 ·refine sR K [2] [] ⟨[(2, B false)], []⟩ (tn 1) ?_
  cases h; exact VW.ret (rt [])
 refine VW.skip <| sR K [2] [] ⟨[(2, B true)], []⟩ (tn 1) ?_
 cases h; exact VW.ret (rt [])
end Go.Proofs.YtpdoaknenmgcoaaGreatDoor.Vc
