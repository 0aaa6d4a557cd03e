/- What functions of the program compute, and that they do. -/
import Derived.Test.YtnkgeljjjeeaaaaGreatDoorYa
namespace Go.Proofs.YtnkgeljjjeeaaaaGreatDoor.Vc
open Go Go.RowKit Go.Proofs.Tryz
set_option linter.unusedVariables false
set_option maxRecDepth 100000
set_option maxHeartbeats 4000000
def F10 (N : Nat) (a0 : (List Int)) : Option ((List Z73) × Int × (List Z73)) :=
  andO (F34 N a0) fun y1 => andO (F36 N y1 a0) fun y2 => andO (F42 N y2.1 (IntKind.i64.wrap ((y2.2.length : Int) + (2 : Int)))) fun y3 => andO (F42 N y3.1 (5 : Int)) fun y4 => andO (F43 N y4.1 (IntKind.i64.wrap ((1 : Int) + y4.2))) fun y5 => andO (F44 N y5.1 y5.2.1) fun y6 => some (y2.2, (IntKind.i64.wrap (y3.2 - (1 : Int))), y6.2)
theorem ok10 N a0 {r} (h : F10 N a0 = some r) : Con prog 10 [Vv (.sl (.int .u8)) a0] [.lf (.own Y73 r.1 .tp), .lf (.v (.int .i64) r.2.1), .lf (.own Y73 r.2.2 .tp)] := by
 refine ctr [.lf (.own Y73 .tp), .lf (.v (.int .i64)), .lf (.own Y73 .tp)] K func10 rfl fun w0 E0 ht => ?_
 unfold F10 at h
 show VW _ _ _ _ _ (retQ _ _ _ _) _
 refine nR K (tn 3) <| sq <| VW.region <| nG K 1 (tn 1) ?_
 obtain⟨y1,hy,h⟩:=aS h
 refine VO.callB [.t (.sl (.int .u8))] (d := 11) (by kernel_rfl) (ok34 N _ hy) <| nN K (tn 1) <| sq <| VW.region <| nG K 2 (tn 2) ?_
 obtain⟨y2,hy,h⟩:=aS h
 refine VO.callM [0] [.r, .t (.sl (.int .u8))] (d := some 14) (by kernel_rfl) (by kernel_rfl) (ok36 N _ _ hy) (by kernel_rfl) <| nN K (tn 1) <| sq <| VW.region <| nG K 4 (tn 4) ?_
 obtain⟨y3,hy,h⟩:=aS h
 refine VO.callM [0] [.r, .t (.int .i64)] (d := some 19) (by kernel_rfl) (by kernel_rfl) (ok42 N _ _ hy) (by kernel_rfl) <| nN K (tn 2) <| sq <| VW.region <| nG K 2 (tn 2) ?_
 obtain⟨y4,hy,h⟩:=aS h
 refine VO.callM [0] [.r, .t (.int .i64)] (d := some 24) (by kernel_rfl) (by kernel_rfl) (ok42 N _ _ hy) (by kernel_rfl) <| nG K 1 (tn 1) ?_
 obtain⟨y5,hy,h⟩:=aS h
 refine VO.callM [0] [.r, .t (.int .i64)] (d := some 26) (by kernel_rfl) (by kernel_rfl) (ok43 N _ _ hy) (by kernel_rfl) <| nN K (tn 5) <| sq <| VW.region <| nG K 4 (tn 4) ?_
 obtain⟨y6,hy,h⟩:=aS h
 refine VO.callM [0, 2] [.r, .t (.sl Y73)] (d := some 33) (by kernel_rfl) (by kernel_rfl) (ok44 N _ _ hy) (by kernel_rfl) <| nN K (tn 3) ?_
 cases h; exact VW.ret (rt [some 1, some 3])
def F11_j0 (N : Nat) (x17 : (List Int)) : Option ((List Int)) :=
  some x17
def F11_l0_b (N : Nat) (a0 : (List Int)) (nx30 : (List Int) → Int → Option ((List Int))) (x24 : (List Int)) (x25 : Int) : Option ((List Int)) :=
  cond (decide (x25 < (a0.length : Int))) (cond (decide (x25 < (3000 : Int))) (gd (InR x25 a0.length) (gd (x24.length + ([(a0.getD x25.toNat (Ty.dflt (.int .u8)))]).length ≤ lim (.int .u8)) (nx30 (x24 ++ ([(a0.getD x25.toNat (Ty.dflt (.int .u8)))])) (IntKind.i64.wrap (x25 + (1 : Int)))))) (F11_j0 N x24)) (F11_j0 N x24)
def F11_l0 (N : Nat) (a0 : (List Int)) := loopF (F11_l0_b N a0) (fun _ _ => none)
theorem F11_l0_s N a0 {k} (hk : 0 < k) x24 x25 : F11_l0 N a0 k x24 x25 = F11_l0_b N a0 (F11_l0 N a0 (k - 1)) x24 x25 := by cases k;cases hk;rfl
def F11 (N : Nat) (a0 : (List Int)) (a1 : Int) : Option ((List Int)) :=
  F11_l0 N a0 N ([(IntKind.u8.wrap a1)]) (0 : Int)
theorem ok11 N a0 a1 {r} (h : F11 N a0 a1 = some r) : Con prog 11 [Vv (.sl (.int .u8)) a0, I a1] [.lf (.own (.int .u8) r .dp)] := by
 refine ctr [.lf (.own (.int .u8) .dp)] K func11 rfl fun w0 E0 ht => ?_
 unfold F11 at h
 show VW _ _ _ _ _ (retQ _ _ _ _) _
 refine nR K (tn 1) <| nR K (tn 4) ?_
 refine VW.join (fun s => ∃ x17, s = ⟨[(5, hh 0)], [ar 0 (.int .u8) x17 .dp]⟩ ∧ F11_j0 N x17 = some r) ?_ ?_
 ·refine nR K (tn 1) <| VW.block <| lop (fun k s => ∃ x24 x25, s = ⟨[(0, Vv (.sl (.int .u8)) a0), (5, hh 0), (6, I x25)], [ar 0 (.int .u8) x24 .dp]⟩ ∧ F11_l0 N a0 k x24 x25 = some r) N [.ren [0, 5, 6] [0]] ⟨[(IntKind.u8.wrap a1)], (0 : Int), rfl, h⟩ ?_
  rintro k30 s ⟨x24, x25, rfl, h⟩
  cases k30 with
  | zero => cases show none = some r from h
  | succ k30 =>
   replace h : F11_l0_b N a0 (F11_l0 N a0 k30) x24 x25 = some r := h
   unfold F11_l0_b at h
   refine sq <| sq <| VW.region <| nG K 5 (tn 5) ?_
   refine spC 14 h ?_ ?_<;>intro h
   ·refine nN K (tn 3) ?_
    refine cnd h ?_ ?_<;>intro h
    ·refine VW.skip <| sq <| VW.block ?_
     obtain⟨g33,h⟩:=gS h
     obtain⟨g34,h⟩:=gS h
     refine nE K (pu 3 (an g33 (pu 2 (an g34 (tn 1))))) <| nE K (tn 3) ?_
     exact aro [.ren [0, 5, 6] [0]] ⟨(x24 ++ ([(a0.getD x25.toNat (Ty.dflt (.int .u8)))])), (wr (x25 + (1 : Int))), rfl, h⟩
    refine VW.exit ?_
    exact arv [.ren [5] [0]] ⟨x24, rfl, h⟩
   refine nN K (tn 3) ?_
   refine VW.cond (b := false) (by kernel_rfl) (fun h' => nomatch h') (fun _ => ?_)
   refine VW.exit ?_
   exact arv [.ren [5] [0]] ⟨x24, rfl, h⟩
 rintro s ⟨x17, rfl, h⟩
 unfold F11_j0 at h
 refine nR K (tn 2) ?_
 cases h; exact VW.ret (rt [some 0])
def F46 (N : Nat) (a0 : (List Z73)) (a1 : Int) : Option (Bool) :=
  andO (F61 N a1 (0 : Int) (IntKind.i64.wrap ((a0.length : Int) - (1 : Int)))) fun y1 => cond y1 (andO (F38 N a0) fun y2 => some y2) (some false)
theorem ok46 N a0 a1 {r} (h : F46 N a0 a1 = some r) : Con prog 46 [Vv (.sl Y73) a0, I a1] [.lf (.v .bool r)] := by
 refine ctr [.lf (.v .bool)] K func46 rfl fun w0 E0 ht => ?_
 unfold F46 at h
 show VW _ _ _ _ _ (retQ _ _ _ _) _
 refine nR K (tn 1) <| sq <| VW.region <| nG K 4 (tn 4) ?_
 obtain⟨y1,hy,h⟩:=aS h
 refine clc false [.t (.int .i64), .t (.int .i64), .t (.int .i64)] [] (some 9) K (ok61 N _ _ _ hy) <| nG K 1 (tn 1) ?_
 refine spC 10 h ?_ ?_<;>intro h
 ·refine nG K 1 (tn 1) <| VO.on (j := 5) (want := true) (d := 10) (b := true) rfl rfl rfl (by kernel_rfl) rfl ?_
  obtain⟨y2,hy,h⟩:=aS h
  refine clc false [.t (.sl Y73)] [] (some 12) K (ok38 N _ hy) <| nN K (tn 2) ?_
  cases h; exact VW.ret (rt [])
 refine nN K (tn 4) ?_
 cases h; exact VW.ret (rt [])
def F93 (N : Nat) (a0 : (List Int)) : Option ((List Int)) :=
  gd (a0.length ≤ lim (.int .i64)) (some a0)
theorem ok93 N a0 {r} (h : F93 N a0 = some r) : Con prog 93 [Vv (.sl (.int .i64)) a0] [.lf (.own (.int .i64) r .dp)] := by
 refine ctr [.lf (.own (.int .i64) .dp)] K func93 rfl fun w0 E0 ht => ?_
 unfold F93 at h
 show VW _ _ _ _ _ (retQ _ _ _ _) _
 refine nR K (tn 1) <| sq <| sq <| VW.region <| nG K 1 (tn 1) ?_
 refine VO.isNil (d := 4) (e := (.int .i64)) (xs := a0) K rfl rfl rfl rfl (by kernel_rfl) (by kernel_rfl) (fun hx => ?_) ?_
 ·replace h : some ([]) = some r := by
   subst hx; first | exact h | exact (gd_some h).2
  refine nN K (tn 0) ?_
  refine VW.cond (b := true) (by kernel_rfl) (fun _ => ?_) (fun h' => nomatch h')
  refine nR K (tn 1) ?_
  cases h; exact VW.ret (rt [none])
 refine nN K (tn 0) ?_
 refine VW.cond (b := false) (by kernel_rfl) (fun h' => nomatch h') (fun _ => ?_)
 refine VW.skip ?_
 obtain⟨g1,h⟩:=gS h
 refine nR K (pu 2 (an g1 (tn 1))) ?_
 cases h; exact VW.ret (rt [some 0])
def F47_j0 (N : Nat) (x24 : (List Z73)) : Option ((List Z73)) :=
  some x24
def F47_l0_b (N : Nat) (a0 : (List Z73)) (nx42 : (List Z73) → Int → Int → Option ((List Z73))) (x33 : (List Z73)) (x34 : Int) (x35 : Int) : Option ((List Z73)) :=
  cond (decide (x35 < x34)) (gd (InR x35 a0.length) (andO (F93 N ((a0.getD x35.toNat (Ty.dflt Y73)).2.2.2.2.2.2)) fun y47 => gd (x33.length + ([((a0.getD x35.toNat (Ty.dflt Y73)).1, ((a0.getD x35.toNat (Ty.dflt Y73)).2.1, ((a0.getD x35.toNat (Ty.dflt Y73)).2.2.1, ((a0.getD x35.toNat (Ty.dflt Y73)).2.2.2.1, ((a0.getD x35.toNat (Ty.dflt Y73)).2.2.2.2.1, ((a0.getD x35.toNat (Ty.dflt Y73)).2.2.2.2.2.1, y47))))))]).length ≤ lim Y73) (nx42 (x33 ++ ([((a0.getD x35.toNat (Ty.dflt Y73)).1, ((a0.getD x35.toNat (Ty.dflt Y73)).2.1, ((a0.getD x35.toNat (Ty.dflt Y73)).2.2.1, ((a0.getD x35.toNat (Ty.dflt Y73)).2.2.2.1, ((a0.getD x35.toNat (Ty.dflt Y73)).2.2.2.2.1, ((a0.getD x35.toNat (Ty.dflt Y73)).2.2.2.2.2.1, y47))))))])) x34 (IntKind.i64.wrap (x35 + (1 : Int)))))) (F47_j0 N x33)
def F47_l0 (N : Nat) (a0 : (List Z73)) := loopF (F47_l0_b N a0) (fun _ _ _ => none)
theorem F47_l0_s N a0 {k} (hk : 0 < k) x33 x34 x35 : F47_l0 N a0 k x33 x34 x35 = F47_l0_b N a0 (F47_l0 N a0 (k - 1)) x33 x34 x35 := by cases k;cases hk;rfl
def F47 (N : Nat) (a0 : (List Z73)) : Option ((List Z73)) :=
  F47_l0 N a0 N ([]) (a0.length : Int) (0 : Int)
theorem ok47 N a0 {r} (h : F47 N a0 = some r) : Con prog 47 [Vv (.sl Y73) a0] [.lf (.own Y73 r .dp)] := by
 refine ctr [.lf (.own Y73 .dp)] K func47 rfl fun w0 E0 ht => ?_
 unfold F47 at h
 show VW _ _ _ _ _ (retQ _ _ _ _) _
 refine nR K (tn 1) <| nR K (tn 1) ?_
 refine VW.join (fun s => ∃ x24, s = ⟨[(3, hh 0)], [ar 0 Y73 x24 .dp]⟩ ∧ F47_j0 N x24 = some r) ?_ ?_
 ·refine nR K (tn 3) <| VW.block <| lop (fun k s => ∃ x33 x34 x35, s = ⟨[(3, hh 0), (6, Vv (.sl Y73) a0), (7, I x34), (8, I x35)], [ar 0 Y73 x33 .dp]⟩ ∧ F47_l0 N a0 k x33 x34 x35 = some r) N [.nilS 3 Y73 .dp, .ren [3, 6, 7, 8] [0]] ⟨[], (a0.length : Int), (0 : Int), rfl, h⟩ ?_
  rintro k42 s ⟨x33, x34, x35, rfl, h⟩
  cases k42 with
  | zero => cases show none = some r from h
  | succ k42 =>
   replace h : F47_l0_b N a0 (F47_l0 N a0 k42) x33 x34 x35 = some r := h
   unfold F47_l0_b at h
   refine nR K (tn 1) <| sq ?_
   refine cnd h ?_ ?_<;>intro h
   ·refine VW.skip <| sq <| VW.block ?_
    obtain⟨g46,h⟩:=gS h
    refine nR K (an g46 (tn 3)) <| sq <| VW.region <| nG K 2 (tn 2) ?_
    obtain⟨y47,hy,h⟩:=aS h
    refine clc false [.t (.sl (.int .i64))] [] (some 14) K (ok93 N _ hy) <| nN K (tn 2) <| VW.region <| nG K 2 (tn 2) <| VO.litA (d := 18) (v := hh 3) (H' := [ar 0 Y73 x33 .dp, bx [zi ((a0.getD x35.toNat D73).1), zs ((a0.getD x35.toNat D73).2.1), zi ((a0.getD x35.toNat D73).2.2.1), zi ((a0.getD x35.toNat D73).2.2.2.1), zi ((a0.getD x35.toNat D73).2.2.2.2.1), zb ((a0.getD x35.toNat D73).2.2.2.2.2.1), .hd 2 0 none] 74, none, ar 0 Y73 ([((a0.getD x35.toNat D73).1, ((a0.getD x35.toNat D73).2.1, ((a0.getD x35.toNat D73).2.2.1, ((a0.getD x35.toNat D73).2.2.2.1, ((a0.getD x35.toNat D73).2.2.2.2.1, ((a0.getD x35.toNat D73).2.2.2.2.2.1, y47))))))]) .dp]) K (by kernel_rfl) ?_
    obtain⟨g48,h⟩:=gS h
    refine VO.appM (d := 19) (φ := x33.length + ([((a0.getD x35.toNat D73).1, ((a0.getD x35.toNat D73).2.1, ((a0.getD x35.toNat D73).2.2.1, ((a0.getD x35.toNat D73).2.2.2.1, ((a0.getD x35.toNat D73).2.2.2.2.1, ((a0.getD x35.toNat D73).2.2.2.2.2.1, y47))))))]).length ≤ lim Y73) (v := .lf (.hd 0 1 none)) (H' := [ar 1 Y73 (x33 ++ ([((a0.getD x35.toNat D73).1, ((a0.getD x35.toNat D73).2.1, ((a0.getD x35.toNat D73).2.2.1, ((a0.getD x35.toNat D73).2.2.2.1, ((a0.getD x35.toNat D73).2.2.2.2.1, ((a0.getD x35.toNat D73).2.2.2.2.2.1, y47))))))])) .dp, bx [zi ((a0.getD x35.toNat D73).1), zs ((a0.getD x35.toNat D73).2.1), zi ((a0.getD x35.toNat D73).2.2.1), zi ((a0.getD x35.toNat D73).2.2.2.1), zi ((a0.getD x35.toNat D73).2.2.2.2.1), zb ((a0.getD x35.toNat D73).2.2.2.2.2.1), .hd 2 0 none] 74, none, none]) K (by kernel_rfl) g48 ?_
    refine nN K (tn 1) <| nE K (tn 2) ?_
    exact aro [.ren [3, 6, 7, 8] [0]] ⟨(x33 ++ ([((a0.getD x35.toNat D73).1, ((a0.getD x35.toNat D73).2.1, ((a0.getD x35.toNat D73).2.2.1, ((a0.getD x35.toNat D73).2.2.2.1, ((a0.getD x35.toNat D73).2.2.2.2.1, ((a0.getD x35.toNat D73).2.2.2.2.2.1, y47))))))])), x34, (wr (x35 + (1 : Int))), rfl, h⟩
   refine VW.exit ?_
   exact arv [.ren [3] [0]] ⟨x33, rfl, h⟩
 rintro s ⟨x24, rfl, h⟩
 unfold F47_j0 at h
 refine nR K (tn 2) ?_
 cases h; exact VW.ret (rt [some 0])
def F45 (N : Nat) (a0 : (List Z73)) (a1 : Int) : Option ((List Z73)) :=
  andO (F46 N a0 a1) fun y2 => cond (!y2) (some ([])) (andO (F49 N a0 a1 (1 : Int)) fun y3 => gd (0 ≤ a1 ∧ a1 ≤ y3 ∧ y3 ≤ (a0.length : Int)) (andO (F47 N ((a0.take y3.toNat).drop a1.toNat)) fun y5 => some y5))
theorem ok45 N a0 a1 {r} (h : F45 N a0 a1 = some r) : Con prog 45 [Vv (.sl Y73) a0, I a1] [.lf (.own Y73 r .dp)] := by
 refine ctr [.lf (.own Y73 .dp)] K func45 rfl fun w0 E0 ht => ?_
 unfold F45 at h
 show VW _ _ _ _ _ (retQ _ _ _ _) _
 refine nR K (tn 1) <| sq <| sq <| VW.region <| nG K 2 (tn 2) ?_
 obtain⟨y2,hy,h⟩:=aS h
 refine clc false [.t (.sl Y73), .t (.int .i64)] [] (some 7) K (ok46 N _ _ hy) <| nN K (tn 1) ?_
 refine cnd h ?_ ?_<;>intro h
 ·refine nR K (tn 1) ?_
  cases h; exact VW.ret (rt [none])
 refine VW.skip <| sq <| VW.region <| nG K 4 (tn 4) ?_
 obtain⟨y3,hy,h⟩:=aS h
 refine clc false [.t (.sl Y73), .t (.int .i64), .t (.int .i64)] [] (some 13) K (ok49 N _ _ _ hy) ?_
 obtain⟨g4,h⟩:=gS h
 refine nG K 1 (an g4 (tn 0)) ?_
 obtain⟨y5,hy,h⟩:=aS h
 refine clc false [.t (.sl Y73)] [] (some 15) K (ok47 N _ hy) <| nN K (tn 1) ?_
 cases h; exact VW.ret (rt [some 0])
def F12 (N : Nat) (a0 : (List Z77)) (a1 : (List Z73)) (a2 : Int) : Option (Int) :=
  andO (F45 N a1 a2) fun y1 => andO (F7 N a0 y1) fun y2 => some y2
theorem ok12 N a0 a1 a2 {r} (h : F12 N a0 a1 a2 = some r) : Con prog 12 [Vv (.sl Y77) a0, Vv (.sl Y73) a1, I a2] [.lf (.v (.int .i64) r)] := by
 refine ctr [.lf (.v (.int .i64))] K func12 rfl fun w0 E0 ht => ?_
 unfold F12 at h
 show VW _ _ _ _ _ (retQ _ _ _ _) _
 refine nR K (tn 1) <| sq <| VW.region <| nG K 3 (tn 3) ?_
 obtain⟨y1,hy,h⟩:=aS h
 refine clc false [.t (.sl Y73), .t (.int .i64)] [] (some 10) K (ok45 N _ _ hy) ?_
 obtain⟨y2,hy,h⟩:=aS h
 refine clc true [.t (.sl Y77), .t (.sl Y73)] [] (some 11) K (ok7 N _ _ hy) <| nN K (tn 1) ?_
 cases h; exact VW.ret (rt [])
def F94_j0 (N : Nat) (x4 : (List Z73)) : Option ((List Z73)) :=
  some x4
def F94 (N : Nat) (a0 : (List Z73)) (a1 : Int) : Option ((List Z73)) :=
  cond (decide (a1 < (0 : Int))) (none) (cond (decide ((IntKind.i64.wrap (a1 - (IntKind.i64.wrap ((0 : Int) - (0 : Int))))) > (0 : Int))) (gd ((0 : Int) = (0 : Int)) (gd (0 ≤ (IntKind.i64.wrap (a1 - (IntKind.i64.wrap ((0 : Int) - (0 : Int))))) ∧ (IntKind.i64.wrap (a1 - (IntKind.i64.wrap ((0 : Int) - (0 : Int))))) ≤ (lim Y73 : Int)) (gd (0 ≤ (0 : Int) ∧ (0 : Int) ≤ ((List.replicate (IntKind.i64.wrap (a1 - (IntKind.i64.wrap ((0 : Int) - (0 : Int))))).toNat (Ty.dflt Y73)).length : Int)) (F94_j0 N ((List.replicate (IntKind.i64.wrap (a1 - (IntKind.i64.wrap ((0 : Int) - (0 : Int))))).toNat (Ty.dflt Y73)).take ((0 : Int).toNat)))))) (F94_j0 N ([])))
theorem ok94 N a0 a1 {r} (h : F94 N a0 a1 = some r) : Con prog 94 [.lf (.nil), I a1] [.lf (.own Y73 r .tp)] := by
 refine ctr [.lf (.own Y73 .tp)] K func94 rfl fun w0 E0 ht => ?_
 unfold F94 at h
 show VW _ _ _ _ _ (retQ _ _ _ _) _
 refine nR K (tn 1) <| sq <| nR K (tn 2) ?_
 refine cnd h ?_ ?_<;>intro h
 ·exact nomatch h
 refine VW.skip ?_
 refine VW.join (fun s => ∃ x4, s = ⟨[(0, hh 0)], [ar 0 Y73 x4 .tp]⟩ ∧ F94_j0 N x4 = some r) ?_ ?_
 ·refine sq <| VW.region <| nG K 2 (tn 2) <| VO.capN (d := 10) (v := I (0 : Int)) K (by kernel_rfl) <| nN K (tn 5) <| nR K (tn 2) ?_
  refine cnd h ?_ ?_<;>intro h
  ·refine VW.region <| nG K 2 (tn 2) <| VO.capN (d := 19) (v := I (0 : Int)) K (by kernel_rfl) ?_
   obtain⟨g6,h⟩:=gS h
   refine VO.cutN (d := 20) (φ := (0 : Int) = (0 : Int)) (v := .lf .nil) K (by kernel_rfl) g6 <| nG K 1 (tn 1) ?_
   obtain⟨g7,h⟩:=gS h
   refine VO.appZ (d := 22) (φ := 0 ≤ (wr (a1 - (wr ((0 : Int) - (0 : Int))))) ∧ (wr (a1 - (wr ((0 : Int) - (0 : Int))))) ≤ (lim Y73 : Int)) (v := hh 0) (H' := [ar 0 Y73 (List.replicate (wr (a1 - (wr ((0 : Int) - (0 : Int))))).toNat D73) .tp]) K (by kernel_rfl) g7 ?_
   obtain⟨g8,h⟩:=gS h
   refine nN K (pu 2 (an g8 (tn 1))) ?_
   exact arv [.shr 0, .ren [0] [0]] ⟨((List.replicate (wr (a1 - (wr ((0 : Int) - (0 : Int))))).toNat D73).take ((0 : Int).toNat)), rfl, h⟩
  refine VW.skip ?_
  exact arv [.nilS 0 Y73 .tp, .ren [0] [0]] ⟨[], rfl, h⟩
 rintro s ⟨x4, rfl, h⟩
 unfold F94_j0 at h
 refine nR K (tn 2) ?_
 cases h; exact VW.ret (rt [some 0])
def F48_j0 (N : Nat) (x31 : (List Z73)) : Option ((List Z73)) :=
  some x31
def F48_l0_b (N : Nat) (a0 : (List (List Z73))) (nx45 : (List Z73) → Int → Int → Option ((List Z73))) (x38 : (List Z73)) (x39 : Int) (x40 : Int) : Option ((List Z73)) :=
  cond (decide (x40 < x39)) (gd (InR x40 a0.length) (gd (x38.length + (a0.getD x40.toNat (Ty.dflt (.sl Y73))).length ≤ lim Y73) (nx45 (x38 ++ (a0.getD x40.toNat (Ty.dflt (.sl Y73)))) x39 (IntKind.i64.wrap (x40 + (1 : Int)))))) (F48_j0 N x38)
def F48_l0 (N : Nat) (a0 : (List (List Z73))) := loopF (F48_l0_b N a0) (fun _ _ _ => none)
theorem F48_l0_s N a0 {k} (hk : 0 < k) x38 x39 x40 : F48_l0 N a0 k x38 x39 x40 = F48_l0_b N a0 (F48_l0 N a0 (k - 1)) x38 x39 x40 := by cases k;cases hk;rfl
def F48_j1 (N : Nat) (a0 : (List (List Z73))) (x12 : Int) : Option ((List Z73)) :=
  andO (F94 N ([]) x12) fun y13 => F48_l0 N a0 N y13 (a0.length : Int) (0 : Int)
def F48_l1_b (N : Nat) (a0 : (List (List Z73))) (nx59 : Int → Int → Int → Option ((List Z73))) (x54 : Int) (x55 : Int) (x56 : Int) : Option ((List Z73)) :=
  cond (decide (x56 < x55)) (gd (InR x56 a0.length) (cond (decide ((IntKind.i64.wrap (x54 + ((a0.getD x56.toNat (Ty.dflt (.sl Y73))).length : Int))) < (0 : Int))) (none) (nx59 (IntKind.i64.wrap (x54 + ((a0.getD x56.toNat (Ty.dflt (.sl Y73))).length : Int))) x55 (IntKind.i64.wrap (x56 + (1 : Int)))))) (F48_j1 N a0 x54)
def F48_l1 (N : Nat) (a0 : (List (List Z73))) := loopF (F48_l1_b N a0) (fun _ _ _ => none)
theorem F48_l1_s N a0 {k} (hk : 0 < k) x54 x55 x56 : F48_l1 N a0 k x54 x55 x56 = F48_l1_b N a0 (F48_l1 N a0 (k - 1)) x54 x55 x56 := by cases k;cases hk;rfl
def F48 (N : Nat) (a0 : (List (List Z73))) : Option ((List Z73)) :=
  F48_l1 N a0 N (0 : Int) (a0.length : Int) (0 : Int)
theorem ok48 N a0 {r} (h : F48 N a0 = some r) : Con prog 48 [Vv (.sl (.sl Y73)) a0] [.lf (.own Y73 r .tp)] := by
 refine ctr [.lf (.own Y73 .tp)] K func48 rfl fun w0 E0 ht => ?_
 unfold F48 at h
 show VW _ _ _ _ _ (retQ _ _ _ _) _
 refine nR K (tn 1) <| nR K (tn 1) ?_
 refine VW.join (fun s => ∃ x12, s = ⟨[(0, Vv (.sl (.sl Y73)) a0), (3, I x12)], []⟩ ∧ F48_j1 N a0 x12 = some r) ?_ ?_
 ·refine nR K (tn 3) <| VW.block <| lop (fun k s => ∃ x54 x55 x56, s = ⟨[(0, Vv (.sl (.sl Y73)) a0), (3, I x54), (9, Vv (.sl (.sl Y73)) a0), (10, I x55), (11, I x56)], []⟩ ∧ F48_l1 N a0 k x54 x55 x56 = some r) N [.ren [0, 3, 9, 10, 11] []] ⟨(0 : Int), (a0.length : Int), (0 : Int), rfl, h⟩ ?_
  rintro k59 s ⟨x54, x55, x56, rfl, h⟩
  cases k59 with
  | zero => cases show none = some r from h
  | succ k59 =>
   replace h : F48_l1_b N a0 (F48_l1 N a0 k59) x54 x55 x56 = some r := h
   unfold F48_l1_b at h
   refine nR K (tn 1) <| sq ?_
   refine cnd h ?_ ?_<;>intro h
   ·refine VW.skip <| sq <| VW.block ?_
    obtain⟨g61,h⟩:=gS h
    refine nR K (an g61 (tn 2)) <| nR K (tn 5) <| nR K (tn 2) ?_
    refine cnd h ?_ ?_<;>intro h
    ·exact nomatch h
    refine VW.skip <| nE K (tn 2) ?_
    exact aro [.ren [0, 3, 9, 10, 11] []] ⟨(wr (x54 + ((a0.getD x56.toNat (Ty.dflt (.sl Y73))).length : Int))), x55, (wr (x56 + (1 : Int))), rfl, h⟩
   refine VW.exit ?_
   exact arv [.ren [0, 3] []] ⟨x54, rfl, h⟩
 rintro s ⟨x12, rfl, h⟩
 unfold F48_j1 at h
 refine sq <| VW.region <| nG K 1 (tn 1) ?_
 obtain⟨y13,hy,h⟩:=aS h
 refine clc false [.k, .t (.int .i64)] [] (some 24) K (ok94 N _ _ hy) <| nN K (tn 1) ?_
 refine VW.join (fun s => ∃ x31, s = ⟨[(6, hh 0)], [ar 0 Y73 x31 .tp]⟩ ∧ F48_j0 N x31 = some r) ?_ ?_
 ·refine nR K (tn 3) <| VW.block <| lop (fun k s => ∃ x38 x39 x40, s = ⟨[(6, hh 0), (25, Vv (.sl (.sl Y73)) a0), (26, I x39), (27, I x40)], [ar 0 Y73 x38 .tp]⟩ ∧ F48_l0 N a0 k x38 x39 x40 = some r) N [.ren [6, 25, 26, 27] [0]] ⟨y13, (a0.length : Int), (0 : Int), rfl, h⟩ ?_
  rintro k45 s ⟨x38, x39, x40, rfl, h⟩
  cases k45 with
  | zero => cases show none = some r from h
  | succ k45 =>
   replace h : F48_l0_b N a0 (F48_l0 N a0 k45) x38 x39 x40 = some r := h
   unfold F48_l0_b at h
   refine nR K (tn 1) <| sq ?_
   refine cnd h ?_ ?_<;>intro h
   ·refine VW.skip <| sq <| VW.block ?_
    obtain⟨g48,h⟩:=gS h
    refine nR K (an g48 (tn 2)) ?_
    obtain⟨g49,h⟩:=gS h
    refine nE K (pu 2 (an g49 (tn 1))) <| nE K (tn 2) ?_
    exact aro [.ren [6, 25, 26, 27] [0]] ⟨(x38 ++ (a0.getD x40.toNat (Ty.dflt (.sl Y73)))), x39, (wr (x40 + (1 : Int))), rfl, h⟩
   refine VW.exit ?_
   exact arv [.ren [6] [0]] ⟨x38, rfl, h⟩
 rintro s ⟨x31, rfl, h⟩
 unfold F48_j0 at h
 refine nR K (tn 2) ?_
 cases h; exact VW.ret (rt [some 0])
def F13 (N : Nat) (a0 : (List Z73)) (a1 : Int) (a2 : (List Z73)) : Option ((List Z73) × Bool) :=
  andO (F46 N a0 a1) fun y5 => cond (!y5) (andO (F47 N a0) fun y6 => some (y6, false)) (andO (F38 N a2) fun y7 => cond (!y7) (andO (F47 N a0) fun y8 => some (y8, false)) (gd (0 ≤ a1 ∧ a1 ≤ (a0.length : Int)) (andO (F49 N a0 a1 (1 : Int)) fun y10 => gd (0 ≤ y10 ∧ y10 ≤ (a0.length : Int)) (andO (F48 N ([(a0.take a1.toNat), a2, (a0.drop y10.toNat)])) fun y12 => andO (F47 N y12) fun y13 => andO (F38 N y13) fun y16 => cond (!y16) (andO (F47 N a0) fun y17 => some (y17, false)) (some (y13, true))))))
theorem ok13 N a0 a1 a2 {r} (h : F13 N a0 a1 a2 = some r) : Con prog 13 [Vv (.sl Y73) a0, I a1, Vv (.sl Y73) a2] [.lf (.own Y73 r.1 .dp), .lf (.v .bool r.2)] := by
 refine ctr [.lf (.own Y73 .dp), .lf (.v .bool)] K func13 rfl fun w0 E0 ht => ?_
 unfold F13 at h
 show VW _ _ _ _ _ (retQ _ _ _ _) _
 refine nR K (tn 2) <| sq <| sq <| VW.region <| nG K 2 (tn 2) ?_
 obtain⟨y5,hy,h⟩:=aS h
 refine clc false [.t (.sl Y73), .t (.int .i64)] [] (some 11) K (ok46 N _ _ hy) <| nG K 2 (tn 2) ?_
 refine spC 13 h ?_ ?_<;>intro h
 ·refine nN K (tn 4) ?_
  refine VW.cond (b := true) (by kernel_rfl) (fun _ => ?_) (fun h' => nomatch h')
  refine sq <| VW.region <| nG K 1 (tn 1) ?_
  obtain⟨y6,hy,h⟩:=aS h
  refine clc false [.t (.sl Y73)] [] (some 19) K (ok47 N _ hy) <| nN K (tn 2) ?_
  cases h; exact VW.ret (rt [some 0])
 refine nG K 1 (tn 1) <| VO.on (j := 4) (want := false) (d := 13) (b := false) rfl rfl rfl (by kernel_rfl) rfl ?_
 obtain⟨y7,hy,h⟩:=aS h
 refine clc false [.t (.sl Y73)] [] (some 15) K (ok38 N _ hy) <| nN K (tn 2) ?_
 refine cnd h ?_ ?_<;>intro h
 ·refine sq <| VW.region <| nG K 1 (tn 1) ?_
  obtain⟨y8,hy,h⟩:=aS h
  refine clc false [.t (.sl Y73)] [] (some 19) K (ok47 N _ hy) <| nN K (tn 2) ?_
  cases h; exact VW.ret (rt [some 0])
 refine VW.skip <| sq ?_
 obtain⟨g9,h⟩:=gS h
 obtain⟨y10,hy10,h⟩:=aS h
 obtain⟨g11,h⟩:=gS h
 obtain⟨y12,hy12,h⟩:=aS h
 obtain⟨y13,hy13,h⟩:=aS h
 refine dr K [(7, .cl [] (some 27) [.lf (.v (.int .i64) y10)]), (10, .cl [0] (some 30) [.lf (.own Y73 y12 .tp)]), (11, .cl [] (some 31) [.lf (.own Y73 y13 .dp)])] [(7, 0), (7, 1), (10, 1), (11, 2)] [9, 10, 11] [0, 8] [2] (pu 2 (an g9 (pu 5 (an g11 (tn 4))))) ⟨qC false [.t (.sl Y73), .t (.int .i64), .t (.int .i64)] [] [] (some 27) K (ok49 N _ _ _ hy10), qC false [.t (.sl Y73), .t (.int .i64), .t (.int .i64)] [] [] (some 27) K (ok49 N _ _ _ hy10), qC false [.t (.sl (.sl Y73))] [] [0] (some 30) K (ok48 N _ hy12), qC true [.t (.sl Y73)] [] [] (some 31) K (ok47 N _ hy13), trivial⟩ ?_
 refine sq <| sq <| VW.region <| nG K 1 (tn 1) ?_
 obtain⟨y16,hy,h⟩:=aS h
 refine clc true [.t (.sl Y73)] [] (some 33) K (ok38 N _ hy) <| nN K (tn 1) ?_
 refine cnd h ?_ ?_<;>intro h
 ·refine sq <| VW.region <| nG K 1 (tn 1) ?_
  obtain⟨y17,hy,h⟩:=aS h
  refine clc false [.t (.sl Y73)] [] (some 36) K (ok47 N _ hy) <| nN K (tn 2) ?_
  cases h; exact VW.ret (rt [some 1])
 refine VW.skip <| nR K (tn 3) ?_
 cases h; exact VW.ret (rt [some 0])
def F96 (N : Nat) (a0 : Int) : Option (ByteArray) :=
  gd (-9223372036854775808 ≤ a0 ∧ a0 ≤ 9223372036854775807) (some ⟨(Lib.itoa a0).toArray⟩)
theorem ok96 N a0 {r} (h : F96 N a0 = some r) : Con prog 96 [I a0] [.lf (.v .str r)] := by
 obtain ⟨g, h⟩ := gd_some h
 cases h
 exact con_itoa (g := 3) (by kernel_rfl) (enters_of func96 rfl (by decide)) (fun w ht => Go.Proofs.Tryz.strconv_Itoa a0 g.1 g.2 w ht)
def F50 (N : Nat) (a0 : Int) : Option (ByteArray) :=
  andO (F96 N a0) fun y1 => some y1
theorem ok50 N a0 {r} (h : F50 N a0 = some r) : Con prog 50 [I a0] [.lf (.v .str r)] := by
 refine ctr [.lf (.v .str)] K func50 rfl fun w0 E0 ht => ?_
 unfold F50 at h
 show VW _ _ _ _ _ (retQ _ _ _ _) _
 refine nR K (tn 1) <| sq <| VW.region <| nG K 1 (tn 1) ?_
 obtain⟨y1,hy,h⟩:=aS h
 refine clc false [.t (.int .i64)] [] (some 4) K (ok96 N _ hy) <| nN K (tn 1) ?_
 cases h; exact VW.ret (rt [])
def F97 (N : Nat) (a0 : (List ByteArray)) (a1 : ByteArray) : Option (ByteArray) :=
  gd (a0.length ≤ 140737488355328 ∧ (Lib.join (a0.map (·.data.toList)) a1.data.toList).length ≤ 140737488355328) (some ⟨(Lib.join (a0.map (·.data.toList)) a1.data.toList).toArray⟩)
theorem ok97 N a0 a1 {r} (h : F97 N a0 a1 = some r) : Con prog 97 [.lf (.v (.sl .str) a0), S a1] [.lf (.v .str r)] := by
 obtain ⟨g, h⟩ := gd_some h
 cases h
 exact con_join (enters_of func97 rfl (by decide)) g.1 g.2 (fun a c w => Go.Proofs.Tryz.strings_Join_none a c a1 w) (fun bk o c w h1 h2 h3 => Go.Proofs.Tryz.strings_Join bk o c a0 a1 w h1 h2 g.1 h3 g.2)
def F51 (N : Nat) (a0 : (List ByteArray)) : Option (ByteArray) :=
  andO (F97 N a0 (⟨#[32]⟩ : ByteArray)) fun y1 => some y1
theorem ok51 N a0 {r} (h : F51 N a0 = some r) : Con prog 51 [Vv (.sl .str) a0] [.lf (.v .str r)] := by
 refine ctr [.lf (.v .str)] K func51 rfl fun w0 E0 ht => ?_
 unfold F51 at h
 show VW _ _ _ _ _ (retQ _ _ _ _) _
 refine nR K (tn 1) <| sq <| VW.region <| nG K 1 (tn 1) ?_
 obtain⟨y1,hy,h⟩:=aS h
 refine clc false [.t (.sl .str), .t .str] [] (some 4) K (ok97 N _ _ hy) <| nN K (tn 1) ?_
 cases h; exact VW.ret (rt [])
def F14_j0 (N : Nat) (x38 : (List ByteArray)) : Option (ByteArray) :=
  andO (F51 N x38) fun y39 => some y39
def F14_l0_b (N : Nat) (a0 : (List Z77)) (nx65 : (List ByteArray) → Int → Int → Option (ByteArray)) (x52 : (List ByteArray)) (x53 : Int) (x54 : Int) : Option (ByteArray) :=
  cond (decide (x54 < x53)) (gd (InR x54 a0.length) (gd (((a0.getD x54.toNat (Ty.dflt Y77)).1).size + (⟨#[47]⟩ : ByteArray).size ≤ 9223372036854775807) (andO (F50 N ((a0.getD x54.toNat (Ty.dflt Y77)).2)) fun y73 => gd ((((a0.getD x54.toNat (Ty.dflt Y77)).1) ++ (⟨#[47]⟩ : ByteArray)).size + y73.size ≤ 9223372036854775807) (gd (x52.length + ([((((a0.getD x54.toNat (Ty.dflt Y77)).1) ++ (⟨#[47]⟩ : ByteArray)) ++ y73)]).length ≤ lim .str) (nx65 (x52 ++ ([((((a0.getD x54.toNat (Ty.dflt Y77)).1) ++ (⟨#[47]⟩ : ByteArray)) ++ y73)])) x53 (IntKind.i64.wrap (x54 + (1 : Int)))))))) (F14_j0 N x52)
def F14_l0 (N : Nat) (a0 : (List Z77)) := loopF (F14_l0_b N a0) (fun _ _ _ => none)
theorem F14_l0_s N a0 {k} (hk : 0 < k) x52 x53 x54 : F14_l0 N a0 k x52 x53 x54 = F14_l0_b N a0 (F14_l0 N a0 (k - 1)) x52 x53 x54 := by cases k;cases hk;rfl
def F14 (N : Nat) (a0 : (List Z77)) : Option (ByteArray) :=
  andO (F37 N a0) fun y2 => cond (!y2) (some ByteArray.empty) (F14_l0 N a0 N ([]) (a0.length : Int) (0 : Int))
theorem ok14 N a0 {r} (h : F14 N a0 = some r) : Con prog 14 [Vv (.sl Y77) a0] [.lf (.v .str r)] := by
 refine ctr [.lf (.v .str)] K func14 rfl fun w0 E0 ht => ?_
 unfold F14 at h
 show VW _ _ _ _ _ (retQ _ _ _ _) _
 refine nR K (tn 1) <| sq <| sq <| VW.region <| nG K 1 (tn 1) ?_
 obtain⟨y2,hy,h⟩:=aS h
 refine clc false [.t (.sl Y77)] [] (some 7) K (ok37 N _ hy) <| nN K (tn 1) ?_
 refine cnd h ?_ ?_<;>intro h
 ·refine nR K (tn 1) ?_
  cases h; exact VW.ret (rt [])
 refine VW.skip <| nR K (tn 1) ?_
 refine VW.join (fun s => ∃ x38, s = ⟨[(3, hh 0)], [ar 0 .str x38 .dp]⟩ ∧ F14_j0 N x38 = some r) ?_ ?_
 ·refine nR K (tn 3) <| VW.block <| lop (fun k s => ∃ x52 x53 x54, s = ⟨[(3, hh 0), (9, Vv (.sl Y77) a0), (10, I x53), (11, I x54)], [ar 0 .str x52 .dp]⟩ ∧ F14_l0 N a0 k x52 x53 x54 = some r) N [.nilS 3 .str .dp, .ren [3, 9, 10, 11] [0]] ⟨[], (a0.length : Int), (0 : Int), rfl, h⟩ ?_
  rintro k65 s ⟨x52, x53, x54, rfl, h⟩
  cases k65 with
  | zero => cases show none = some r from h
  | succ k65 =>
   replace h : F14_l0_b N a0 (F14_l0 N a0 k65) x52 x53 x54 = some r := h
   unfold F14_l0_b at h
   refine nR K (tn 1) <| sq ?_
   refine cnd h ?_ ?_<;>intro h
   ·refine VW.skip <| sq <| VW.block ?_
    obtain⟨g71,h⟩:=gS h
    refine nR K (an g71 (tn 3)) ?_
    obtain⟨g72,h⟩:=gS h
    obtain⟨y73,hy73,h⟩:=aS h
    obtain⟨g74,h⟩:=gS h
    obtain⟨g75,h⟩:=gS h
    refine dr K [(6, .cl [] (some 21) [.lf (.v .str y73)])] [(6, 0), (6, 1)] [8, 9] [3, 9, 10, 11] [0] (pu 3 (an g72 (pu 3 (an g74 (pu 1 (an g75 (tn 1))))))) ⟨qC false [.t (.int .i64)] [] [] (some 21) K (ok50 N _ hy73), qC false [.t (.int .i64)] [] [] (some 21) K (ok50 N _ hy73), trivial⟩ <| nE K (tn 2) ?_
    exact aro [.ren [3, 9, 10, 11] [0]] ⟨(x52 ++ ([((((a0.getD x54.toNat D77).1) ++ (⟨#[47]⟩ : ByteArray)) ++ y73)])), x53, (wr (x54 + (1 : Int))), rfl, h⟩
   refine VW.exit ?_
   exact arv [.ren [3] [0]] ⟨x52, rfl, h⟩
 rintro s ⟨x38, rfl, h⟩
 unfold F14_j0 at h
 refine sq <| VW.region <| nG K 1 (tn 1) ?_
 obtain⟨y39,hy,h⟩:=aS h
 refine clc true [.t (.sl .str)] [] (some 27) K (ok51 N _ hy) <| nN K (tn 1) ?_
 cases h; exact VW.ret (rt [])
def F52 (N : Nat) (a0 : ByteArray) (a1 : ByteArray) : Option (List ByteArray) :=
  gd (a0.size < 4294967281 ∧ 1 ≤ a1.size) (some (Lib.splitB a1 0 (Lib.countB a0 a1) a0))
theorem ok52 N a0 a1 {r} (h : F52 N a0 a1 = some r) : Con prog 52 [S a0, S a1] [.lf (.own .str r .dp)] := by
 obtain ⟨g, h⟩ := gd_some h
 cases h
 have hle := Lib.countB_le a1 g.2 a0.size a0 (Nat.le_refl _)
 exact con_split (gp := 3) (g := 0) (by kernel_rfl) (by kernel_rfl) (enters_of func52 rfl (by decide)) (Lib.splitB_all a1 g.2 0 _ a0 rfl) (by omega) (fun m w hm => Go.Proofs.Tryz.strings_Split a0 a1 m w g.1 hm g.2)
def F53 (N : Nat) (a0 : ByteArray) (a1 : ByteArray) : Option (ByteArray × ByteArray × Bool) :=
  gd (a0.size < 4294967281) (some (⟨(Lib.cut a0.data.toList a1.data.toList).1.toArray⟩, ⟨(Lib.cut a0.data.toList a1.data.toList).2.1.toArray⟩, (Lib.cut a0.data.toList a1.data.toList).2.2))
theorem ok53 N a0 a1 {r} (h : F53 N a0 a1 = some r) : Con prog 53 [S a0, S a1] [.lf (.v .str r.1), .lf (.v .str r.2.1), .lf (.v .bool r.2.2)] := by
 obtain ⟨g, h⟩ := gd_some h
 cases h
 exact con_cut (gp := 3) (g := 0) (by kernel_rfl) (by kernel_rfl) (enters_of func53 rfl (by decide)) (fun m w hm => Go.Proofs.Tryz.strings_Cut a0 a1 m w g hm)
theorem read_w (s : ByteArray) (w : World) (hs : s.size ≤ 281474976710656) (hT : Tabs prog w noE) : Calls prog 54 #[.string s] w fun e w' => e = .returned (.tuple #[.int .i64 (rdV s).1, .bool (rdV s).2]) ∧ Below w.heap.size w w' := by
 cases hA : Lib.atoiAll s.data.toList with
 | ok v =>
  have hr := atoi_range hA
  have cA := Go.Proofs.Tryz.strconv_Atoi_ok s (by omega) v hA w
  have cN : ∀ W, Below w.heap.size w W → Calls prog 50 #[.int .i64 v] W fun e w' => e = .returned (.string ⟨(Lib.itoa v).toArray⟩) ∧ Below W.heap.size W w' := fun W hB =>
   (ok50 0 v (r := ⟨(Lib.itoa v).toArray⟩) (by unfold F50 F96; rw [gd_true hr]; rfl)).plain_text (hT.below hB)
  have cI : ∀ W, Below w.heap.size w W → Calls prog 101 #[.int .i64 v] W fun e w' => e = .returned (.bool (decide (NumV v))) ∧ Below W.heap.size W w' := fun W hB =>
   (ok101 0 v (r := decide (NumV v)) (by
        unfold F101 F61 NumV
        by_cases h1 : -1000000 ≤ v <;> by_cases h2 : v ≤ 1000000 <;> simp [h1, h2, andO])).plain_bool (hT.below hB)
  have hB1 : ∀ W, (W = w ∨ ∃ t, W = Lib.bytesWorld w (Go.Proofs.Tryz.laysC172_ren.t 5) t) → Below w.heap.size w W := fun W h => by
   rcases h with rfl | ⟨t, rfl⟩
   ·exact Below.refl _ _
   exact Go.Joins.below_bytesWorld _ _ _ _ (Nat.le_refl _)
  unfold rdV
  rw [hA]
  obtain ⟨t, ht⟩ : ∃ t : ByteArray, (⟨(Lib.itoa v).toArray⟩ : ByteArray) = t := ⟨_, rfl⟩
  simp only [ht] at cN ⊢
  clear ht hA
  have fin : ∀ {W1 W2 : World}, Below w.heap.size w W1 → Below W1.heap.size W1 W2 → Below w.heap.size w W2 := fun h1 h2 => h1.trans (h2.mono h1.size)
  by_cases h1 : t = s
  ·by_cases h2 : NumV v
   ·rw [if_pos ⟨h1, h2⟩]
    rw [decide_eq_true h2] at cI
    subst h1
    go_enter func54, Go.Proofs.Tryz.ntmps54
    go_wp2_with (first
          | (go_at_call 100; refine cA.mono ?_; rintro e W1 ⟨rfl, hW⟩; have hb1 := hB1 _ hW)
          | (go_at_call 50; refine (cN _ hb1).mono ?_; rintro e W2 ⟨rfl, hb2⟩)
          | (go_at_call 101; refine (cI _ (fin hb1 hb2)).mono ?_; rintro e W3 ⟨rfl, hb3⟩))
    go_ret2
    exact ⟨rfl, fin (fin hb1 hb2) hb3⟩
   rw [if_neg (fun h => h2 h.2)]
   rw [decide_eq_false h2] at cI
   subst h1
   go_enter func54, Go.Proofs.Tryz.ntmps54
   go_wp2_with (first
          | (go_at_call 100; refine cA.mono ?_; rintro e W1 ⟨rfl, hW⟩; have hb1 := hB1 _ hW)
          | (go_at_call 50; refine (cN _ hb1).mono ?_; rintro e W2 ⟨rfl, hb2⟩)
          | (go_at_call 101; refine (cI _ (fin hb1 hb2)).mono ?_; rintro e W3 ⟨rfl, hb3⟩))
   go_ret2
   exact ⟨rfl, fin (fin hb1 hb2) hb3⟩
  rw [if_neg (fun h => h1 h.1)]
  have h3 : ¬ t.toList = s.toList := fun e => h1 (by
        rw [ByteArray.toList_eq, ByteArray.toList_eq] at e
        exact ByteArray.ext (Array.toList_inj.1 e))
  go_enter func54, Go.Proofs.Tryz.ntmps54
  go_wp2_with (first
        | (go_at_call 100; refine cA.mono ?_; rintro e W1 ⟨rfl, hW⟩; have hb1 := hB1 _ hW)
        | (go_at_call 50; refine (cN _ hb1).mono ?_; rintro e W2 ⟨rfl, hb2⟩)
        | fail)
  go_ret2
  exact ⟨rfl, fin hb1 hb2⟩
 | range =>
  obtain ⟨ev, hv, hev⟩ := hT.err2 (gp := 3) (g := 2) (by kernel_rfl) (by kernel_rfl)
  have cA := Go.Proofs.Tryz.strconv_Atoi_range s hs hA ev w hv hev
  generalize Lib.atoiSat s.data.toList = sat at cA
  unfold rdV
  rw [hA]
  clear hT hA
  go_enter func54, Go.Proofs.Tryz.ntmps54
  go_wp2_with (go_at_call 100; refine cA.mono ?_; rintro e W1 ⟨N, rfl, _, _, hb1⟩)
  go_ret2
  exact ⟨rfl, hb1⟩
 | _ =>
  obtain ⟨ev, hv, hev⟩ := hT.err1 (gp := 3) (g := 1) (by kernel_rfl) (by kernel_rfl)
  have cA := Go.Proofs.Tryz.strconv_Atoi_syntax s hs hA ev w hv hev
  unfold rdV
  rw [hA]
  clear hT hA
  go_enter func54, Go.Proofs.Tryz.ntmps54
  go_wp2_with (go_at_call 100; refine cA.mono ?_; rintro e W1 ⟨N, rfl, _, _, hb1⟩)
  go_ret2
  exact ⟨rfl, hb1⟩
def F54 (N : Nat) (a0 : ByteArray) : Option (Int × Bool) :=
  gd (a0.size ≤ 281474976710656) (some (rdV a0))
theorem ok54 N a0 {r} (h : F54 N a0 = some r) : Con prog 54 [S a0] [.lf (.v (.int .i64) r.1), .lf (.v .bool r.2)] := by
 obtain ⟨g, h⟩ := gd_some h
 cases h
 exact con_read (enters_of func54 rfl (by decide)) (fun w hT => read_w a0 w g hT)
def F15_j0 (N : Nat) (a0 : ByteArray) (x37 : (List Z77)) : Option ((List Z77) × Bool) :=
  andO (F37 N x37) fun y40 => cond (!y40) (some ([], false)) (andO (F14 N x37) fun y41 => cond (!(y41.toList == a0.toList)) (some ([], false)) (some (x37, true)))
def F15_l0_b (N : Nat) (a0 : ByteArray) (y43 : (List ByteArray)) (nx68 : (List Z77) → Int → Int → Option ((List Z77) × Bool)) (x55 : (List Z77)) (x56 : Int) (x57 : Int) : Option ((List Z77) × Bool) :=
  cond (decide (x57 < x56)) (gd (InR x57 y43.length) (gd (x57.toNat < y43.length) (andO (F53 N (y43.getD x57.toNat (Ty.dflt .str)) (⟨#[47]⟩ : ByteArray)) fun y76 => andO (F54 N y76.2.1) fun y77 => gd (x55.length + ([(y76.1, y77.1)]).length ≤ lim Y77) (nx68 (x55 ++ ([(y76.1, y77.1)])) x56 (IntKind.i64.wrap (x57 + (1 : Int))))))) (F15_j0 N a0 x55)
def F15_l0 (N : Nat) (a0 : ByteArray) (y43 : (List ByteArray)) := loopF (F15_l0_b N a0 y43) (fun _ _ _ => none)
theorem F15_l0_s N a0 y43 {k} (hk : 0 < k) x55 x56 x57 : F15_l0 N a0 y43 k x55 x56 x57 = F15_l0_b N a0 y43 (F15_l0 N a0 y43 (k - 1)) x55 x56 x57 := by cases k;cases hk;rfl
def F15 (N : Nat) (a0 : ByteArray) : Option ((List Z77) × Bool) :=
  cond (a0.toList == ByteArray.empty.toList) (some ([], true)) (andO (F52 N a0 (⟨#[32]⟩ : ByteArray)) fun y43 => F15_l0 N a0 y43 N ([]) (y43.length : Int) (0 : Int))
theorem ok15 N a0 {r} (h : F15 N a0 = some r) : Con prog 15 [S a0] [.lf (.own Y77 r.1 .dp), .lf (.v .bool r.2)] := by
 refine ctr [.lf (.own Y77 .dp), .lf (.v .bool)] K func15 rfl fun w0 E0 ht => ?_
 unfold F15 at h
 show VW _ _ _ _ _ (retQ _ _ _ _) _
 refine nR K (tn 2) <| sq <| nR K (tn 2) ?_
 refine cnd h ?_ ?_<;>intro h
 ·refine nR K (tn 2) ?_
  cases h; exact VW.ret (rt [none])
 refine VW.skip <| nR K (tn 1) ?_
 refine VW.join (fun s => ∃ x37, s = ⟨[(0, S a0), (4, hh 0)], [ar 0 Y77 x37 .dp]⟩ ∧ F15_j0 N a0 x37 = some r) ?_ ?_
 ·refine sq <| VW.region <| nG K 1 (tn 1) ?_
  obtain⟨y43,hy,h⟩:=aS h
  refine clc false [.t .str, .t .str] [] (some 15) K (ok52 N _ _ hy) <| nN K (tn 2) <| VW.block <| lop (fun k s => ∃ x55 x56 x57, s = ⟨[(0, S a0), (4, hh 0), (15, hh 1), (16, I x56), (17, I x57)], [ar 0 Y77 x55 .dp, ar 0 .str y43 .dp]⟩ ∧ F15_l0 N a0 y43 k x55 x56 x57 = some r) N [.nilS 4 Y77 .dp, .ren [0, 4, 15, 16, 17] [1, 0]] ⟨[], (y43.length : Int), (0 : Int), rfl, h⟩ ?_
  rintro k68 s ⟨x55, x56, x57, rfl, h⟩
  cases k68 with
  | zero => cases show none = some r from h
  | succ k68 =>
   replace h : F15_l0_b N a0 y43 (F15_l0 N a0 y43 k68) x55 x56 x57 = some r := h
   unfold F15_l0_b at h
   refine nR K (tn 1) <| sq ?_
   refine cnd h ?_ ?_<;>intro h
   ·refine VW.skip <| sq <| VW.block ?_
    obtain⟨g74,h⟩:=gS h
    obtain⟨g75,h⟩:=gS h
    refine nR K (an g74 (an g75 (tn 1))) <| sq <| VW.region <| nG K 1 (tn 1) ?_
    obtain⟨y76,hy,h⟩:=aS h
    refine clc false [.t .str, .t .str] [] (some 23) K (ok53 N _ _ hy) <| nN K (tn 7) <| sq <| VW.region <| nG K 1 (tn 1) ?_
    obtain⟨y77,hy,h⟩:=aS h
    refine clc false [.t .str] [] (some 29) K (ok54 N _ hy) <| nN K (tn 5) ?_
    obtain⟨g78,h⟩:=gS h
    refine nE K (pu 5 (an g78 (tn 1))) <| nE K (tn 2) ?_
    exact aro [.ren [0, 4, 15, 16, 17] [0, 1]] ⟨(x55 ++ ([(y76.1, y77.1)])), x56, (wr (x57 + (1 : Int))), rfl, h⟩
   refine VW.exit ?_
   exact arv [.ren [0, 4] [0]] ⟨x55, rfl, h⟩
 rintro s ⟨x37, rfl, h⟩
 unfold F15_j0 at h
 refine sq <| sq <| VW.region <| nG K 1 (tn 1) ?_
 obtain⟨y40,hy,h⟩:=aS h
 refine clc true [.t (.sl Y77)] [] (some 40) K (ok37 N _ hy) <| nG K 2 (tn 2) ?_
 refine spC 42 h ?_ ?_<;>intro h
 ·refine nN K (tn 5) ?_
  refine VW.cond (b := true) (by kernel_rfl) (fun _ => ?_) (fun h' => nomatch h')
  refine nR K (tn 2) ?_
  cases h; exact VW.ret (rt [none])
 refine nG K 1 (tn 1) <| VO.on (j := 3) (want := false) (d := 42) (b := false) rfl rfl rfl (by kernel_rfl) rfl ?_
 obtain⟨y41,hy,h⟩:=aS h
 refine clc true [.t (.sl Y77)] [] (some 44) K (ok14 N _ hy) <| nN K (tn 3) ?_
 refine cnd h ?_ ?_<;>intro h
 ·refine nR K (tn 2) ?_
  cases h; exact VW.ret (rt [none])
 refine VW.skip <| nR K (tn 3) ?_
 cases h; exact VW.ret (rt [some 0])
def F55_j0 (N : Nat) (x10 : Int) (x11 : (List Int)) : Option ((List Int)) :=
  gd (x11.length + ([(IntKind.u8.wrap x10)]).length ≤ lim (.int .u8)) (some (x11 ++ ([(IntKind.u8.wrap x10)])))
def F55_l0_b (N : Nat) (nx18 : Int → (List Int) → Option ((List Int))) (x15 : Int) (x16 : (List Int)) : Option ((List Int)) :=
  cond (decide (x15 ≥ (128 : Int))) (gd (x16.length + ([(IntKind.u8.wrap (IntKind.i64.wrap ((Int.tmod x15 (128 : Int)) + (128 : Int))))]).length ≤ lim (.int .u8)) (nx18 (IntKind.i64.wrap (Int.tdiv x15 (128 : Int))) (x16 ++ ([(IntKind.u8.wrap (IntKind.i64.wrap ((Int.tmod x15 (128 : Int)) + (128 : Int))))])))) (F55_j0 N x15 x16)
def F55_l0 (N : Nat) := loopF (F55_l0_b N) (fun _ _ => none)
theorem F55_l0_s N {k} (hk : 0 < k) x15 x16 : F55_l0 N k x15 x16 = F55_l0_b N (F55_l0 N (k - 1)) x15 x16 := by cases k;cases hk;rfl
def F55_j1 (N : Nat) (x3 : Int) : Option ((List Int)) :=
  F55_l0 N N x3 ([])
def F55 (N : Nat) (a0 : Int) : Option ((List Int)) :=
  andO (F101 N a0) fun y2 => cond (!y2) (some ([])) (cond (decide (a0 < (0 : Int))) (F55_j1 N (IntKind.i64.wrap ((IntKind.i64.wrap ((-2 : Int) * a0)) - (1 : Int)))) (F55_j1 N (IntKind.i64.wrap ((2 : Int) * a0))))
theorem ok55 N a0 {r} (h : F55 N a0 = some r) : Con prog 55 [I a0] [.lf (.own (.int .u8) r .dp)] := by
 refine ctr [.lf (.own (.int .u8) .dp)] K func55 rfl fun w0 E0 ht => ?_
 unfold F55 at h
 show VW _ _ _ _ _ (retQ _ _ _ _) _
 refine nR K (tn 1) <| sq <| sq <| VW.region <| nG K 1 (tn 1) ?_
 obtain⟨y2,hy,h⟩:=aS h
 refine clc false [.t (.int .i64)] [] (some 6) K (ok101 N _ hy) <| nN K (tn 1) ?_
 refine cnd h ?_ ?_<;>intro h
 ·refine nR K (tn 1) ?_
  cases h; exact VW.ret (rt [none])
 refine VW.skip <| nR K (tn 3) ?_
 refine VW.join (fun s => ∃ x3, s = ⟨[(3, I x3)], []⟩ ∧ F55_j1 N x3 = some r) ?_ ?_
 ·refine nR K (tn 2) ?_
  refine cnd h ?_ ?_<;>intro h
  ·refine nE K (tn 4) ?_
   exact arv [.ren [3] []] ⟨(wr ((wr ((-2 : Int) * a0)) - (1 : Int))), rfl, h⟩
  refine VW.skip ?_
  exact arv [.ren [3] []] ⟨(wr ((2 : Int) * a0)), rfl, h⟩
 rintro s ⟨x3, rfl, h⟩
 unfold F55_j1 at h
 refine nR K (tn 1) ?_
 refine VW.join (fun s => ∃ x10 x11, s = ⟨[(3, I x10), (4, hh 0)], [ar 0 (.int .u8) x11 .dp]⟩ ∧ F55_j0 N x10 x11 = some r) ?_ ?_
 ·refine VW.block <| lop (fun k s => ∃ x15 x16, s = ⟨[(3, I x15), (4, hh 0)], [ar 0 (.int .u8) x16 .dp]⟩ ∧ F55_l0 N k x15 x16 = some r) N [.nilS 4 (.int .u8) .dp, .ren [3, 4] [0]] ⟨x3, [], rfl, h⟩ ?_
  rintro k18 s ⟨x15, x16, rfl, h⟩
  cases k18 with
  | zero => cases show none = some r from h
  | succ k18 =>
   replace h : F55_l0_b N (F55_l0 N k18) x15 x16 = some r := h
   unfold F55_l0_b at h
   refine sq <| nR K (tn 2) ?_
   refine cnd h ?_ ?_<;>intro h
   ·refine VW.skip <| VW.block ?_
    obtain⟨g19,h⟩:=gS h
    refine nR K (pu 2 (an (show ((128 : Int) ≠ 0) from by decide) (pu 3 (an g19 (tn 1))))) <| nE K (pu 1 (an (show ((128 : Int) ≠ 0) from by decide) (tn 1))) ?_
    exact aro [.ren [3, 4] [0]] ⟨(wr (Int.tdiv x15 (128 : Int))), (x16 ++ ([(IntKind.u8.wrap (wr ((Int.tmod x15 (128 : Int)) + (128 : Int))))])), rfl, h⟩
   refine VW.exit ?_
   exact arv [.ren [3, 4] [0]] ⟨x15, x16, rfl, h⟩
 rintro s ⟨x10, x11, rfl, h⟩
 unfold F55_j0 at h
 obtain⟨g12,h⟩:=gS h
 refine nR K (pu 4 (an g12 (tn 1))) ?_
 cases h; exact VW.ret (rt [some 0])
def F102_j0 (N : Nat) (x4 : (List Int)) : Option ((List Int)) :=
  some x4
def F102 (N : Nat) (a0 : (List Int)) (a1 : Int) : Option ((List Int)) :=
  cond (decide (a1 < (0 : Int))) (none) (cond (decide ((IntKind.i64.wrap (a1 - (IntKind.i64.wrap ((0 : Int) - (0 : Int))))) > (0 : Int))) (gd ((0 : Int) = (0 : Int)) (gd (0 ≤ (IntKind.i64.wrap (a1 - (IntKind.i64.wrap ((0 : Int) - (0 : Int))))) ∧ (IntKind.i64.wrap (a1 - (IntKind.i64.wrap ((0 : Int) - (0 : Int))))) ≤ (lim (.int .u8) : Int)) (gd (0 ≤ (0 : Int) ∧ (0 : Int) ≤ ((List.replicate (IntKind.i64.wrap (a1 - (IntKind.i64.wrap ((0 : Int) - (0 : Int))))).toNat (Ty.dflt (.int .u8))).length : Int)) (F102_j0 N ((List.replicate (IntKind.i64.wrap (a1 - (IntKind.i64.wrap ((0 : Int) - (0 : Int))))).toNat (Ty.dflt (.int .u8))).take ((0 : Int).toNat)))))) (F102_j0 N ([])))
theorem ok102 N a0 a1 {r} (h : F102 N a0 a1 = some r) : Con prog 102 [.lf (.nil), I a1] [.lf (.own (.int .u8) r .dp)] := by
 refine ctr [.lf (.own (.int .u8) .dp)] K func102 rfl fun w0 E0 ht => ?_
 unfold F102 at h
 show VW _ _ _ _ _ (retQ _ _ _ _) _
 refine nR K (tn 1) <| sq <| nR K (tn 2) ?_
 refine cnd h ?_ ?_<;>intro h
 ·exact nomatch h
 refine VW.skip ?_
 refine VW.join (fun s => ∃ x4, s = ⟨[(0, hh 0)], [ar 0 (.int .u8) x4 .dp]⟩ ∧ F102_j0 N x4 = some r) ?_ ?_
 ·refine sq <| VW.region <| nG K 2 (tn 2) <| VO.capN (d := 10) (v := I (0 : Int)) K (by kernel_rfl) <| nN K (tn 5) <| nR K (tn 2) ?_
  refine cnd h ?_ ?_<;>intro h
  ·refine VW.region <| nG K 2 (tn 2) <| VO.capN (d := 19) (v := I (0 : Int)) K (by kernel_rfl) ?_
   obtain⟨g6,h⟩:=gS h
   refine VO.cutN (d := 20) (φ := (0 : Int) = (0 : Int)) (v := .lf .nil) K (by kernel_rfl) g6 <| nG K 1 (tn 1) ?_
   obtain⟨g7,h⟩:=gS h
   refine VO.appZ (d := 22) (φ := 0 ≤ (wr (a1 - (wr ((0 : Int) - (0 : Int))))) ∧ (wr (a1 - (wr ((0 : Int) - (0 : Int))))) ≤ (lim (.int .u8) : Int)) (v := hh 0) (H' := [ar 0 (.int .u8) (List.replicate (wr (a1 - (wr ((0 : Int) - (0 : Int))))).toNat (Ty.dflt (.int .u8))) .dp]) K (by kernel_rfl) g7 ?_
   obtain⟨g8,h⟩:=gS h
   refine nN K (pu 2 (an g8 (tn 1))) ?_
   exact arv [.shr 0, .ren [0] [0]] ⟨((List.replicate (wr (a1 - (wr ((0 : Int) - (0 : Int))))).toNat (Ty.dflt (.int .u8))).take ((0 : Int).toNat)), rfl, h⟩
  refine VW.skip ?_
  exact arv [.nilS 0 (.int .u8) .dp, .ren [0] [0]] ⟨[], rfl, h⟩
 rintro s ⟨x4, rfl, h⟩
 unfold F102_j0 at h
 refine nR K (tn 2) ?_
 cases h; exact VW.ret (rt [some 0])
def F56_j0 (N : Nat) (x31 : (List Int)) : Option ((List Int)) :=
  some x31
def F56_l0_b (N : Nat) (a0 : (List (List Int))) (nx45 : (List Int) → Int → Int → Option ((List Int))) (x38 : (List Int)) (x39 : Int) (x40 : Int) : Option ((List Int)) :=
  cond (decide (x40 < x39)) (gd (InR x40 a0.length) (gd (x38.length + (a0.getD x40.toNat (Ty.dflt (.sl (.int .u8)))).length ≤ lim (.int .u8)) (nx45 (x38 ++ (a0.getD x40.toNat (Ty.dflt (.sl (.int .u8))))) x39 (IntKind.i64.wrap (x40 + (1 : Int)))))) (F56_j0 N x38)
def F56_l0 (N : Nat) (a0 : (List (List Int))) := loopF (F56_l0_b N a0) (fun _ _ _ => none)
theorem F56_l0_s N a0 {k} (hk : 0 < k) x38 x39 x40 : F56_l0 N a0 k x38 x39 x40 = F56_l0_b N a0 (F56_l0 N a0 (k - 1)) x38 x39 x40 := by cases k;cases hk;rfl
def F56_j1 (N : Nat) (a0 : (List (List Int))) (x12 : Int) : Option ((List Int)) :=
  andO (F102 N ([]) x12) fun y13 => F56_l0 N a0 N y13 (a0.length : Int) (0 : Int)
def F56_l1_b (N : Nat) (a0 : (List (List Int))) (nx59 : Int → Int → Int → Option ((List Int))) (x54 : Int) (x55 : Int) (x56 : Int) : Option ((List Int)) :=
  cond (decide (x56 < x55)) (gd (InR x56 a0.length) (cond (decide ((IntKind.i64.wrap (x54 + ((a0.getD x56.toNat (Ty.dflt (.sl (.int .u8)))).length : Int))) < (0 : Int))) (none) (nx59 (IntKind.i64.wrap (x54 + ((a0.getD x56.toNat (Ty.dflt (.sl (.int .u8)))).length : Int))) x55 (IntKind.i64.wrap (x56 + (1 : Int)))))) (F56_j1 N a0 x54)
def F56_l1 (N : Nat) (a0 : (List (List Int))) := loopF (F56_l1_b N a0) (fun _ _ _ => none)
theorem F56_l1_s N a0 {k} (hk : 0 < k) x54 x55 x56 : F56_l1 N a0 k x54 x55 x56 = F56_l1_b N a0 (F56_l1 N a0 (k - 1)) x54 x55 x56 := by cases k;cases hk;rfl
def F56 (N : Nat) (a0 : (List (List Int))) : Option ((List Int)) :=
  F56_l1 N a0 N (0 : Int) (a0.length : Int) (0 : Int)
theorem ok56 N a0 {r} (h : F56 N a0 = some r) : Con prog 56 [Vv (.sl (.sl (.int .u8))) a0] [.lf (.own (.int .u8) r .dp)] := by
 refine ctr [.lf (.own (.int .u8) .dp)] K func56 rfl fun w0 E0 ht => ?_
 unfold F56 at h
 show VW _ _ _ _ _ (retQ _ _ _ _) _
 refine nR K (tn 1) <| nR K (tn 1) ?_
 refine VW.join (fun s => ∃ x12, s = ⟨[(0, Vv (.sl (.sl (.int .u8))) a0), (3, I x12)], []⟩ ∧ F56_j1 N a0 x12 = some r) ?_ ?_
 ·refine nR K (tn 3) <| VW.block <| lop (fun k s => ∃ x54 x55 x56, s = ⟨[(0, Vv (.sl (.sl (.int .u8))) a0), (3, I x54), (9, Vv (.sl (.sl (.int .u8))) a0), (10, I x55), (11, I x56)], []⟩ ∧ F56_l1 N a0 k x54 x55 x56 = some r) N [.ren [0, 3, 9, 10, 11] []] ⟨(0 : Int), (a0.length : Int), (0 : Int), rfl, h⟩ ?_
  rintro k59 s ⟨x54, x55, x56, rfl, h⟩
  cases k59 with
  | zero => cases show none = some r from h
  | succ k59 =>
   replace h : F56_l1_b N a0 (F56_l1 N a0 k59) x54 x55 x56 = some r := h
   unfold F56_l1_b at h
   refine nR K (tn 1) <| sq ?_
   refine cnd h ?_ ?_<;>intro h
   ·refine VW.skip <| sq <| VW.block ?_
    obtain⟨g61,h⟩:=gS h
    refine nR K (an g61 (tn 2)) <| nR K (tn 5) <| nR K (tn 2) ?_
    refine cnd h ?_ ?_<;>intro h
    ·exact nomatch h
    refine VW.skip <| nE K (tn 2) ?_
    exact aro [.ren [0, 3, 9, 10, 11] []] ⟨(wr (x54 + ((a0.getD x56.toNat (Ty.dflt (.sl (.int .u8)))).length : Int))), x55, (wr (x56 + (1 : Int))), rfl, h⟩
   refine VW.exit ?_
   exact arv [.ren [0, 3] []] ⟨x54, rfl, h⟩
 rintro s ⟨x12, rfl, h⟩
 unfold F56_j1 at h
 refine sq <| VW.region <| nG K 1 (tn 1) ?_
 obtain⟨y13,hy,h⟩:=aS h
 refine clc false [.k, .t (.int .i64)] [] (some 24) K (ok102 N _ _ hy) <| nN K (tn 1) ?_
 refine VW.join (fun s => ∃ x31, s = ⟨[(6, hh 0)], [ar 0 (.int .u8) x31 .dp]⟩ ∧ F56_j0 N x31 = some r) ?_ ?_
 ·refine nR K (tn 3) <| VW.block <| lop (fun k s => ∃ x38 x39 x40, s = ⟨[(6, hh 0), (25, Vv (.sl (.sl (.int .u8))) a0), (26, I x39), (27, I x40)], [ar 0 (.int .u8) x38 .dp]⟩ ∧ F56_l0 N a0 k x38 x39 x40 = some r) N [.ren [6, 25, 26, 27] [0]] ⟨y13, (a0.length : Int), (0 : Int), rfl, h⟩ ?_
  rintro k45 s ⟨x38, x39, x40, rfl, h⟩
  cases k45 with
  | zero => cases show none = some r from h
  | succ k45 =>
   replace h : F56_l0_b N a0 (F56_l0 N a0 k45) x38 x39 x40 = some r := h
   unfold F56_l0_b at h
   refine nR K (tn 1) <| sq ?_
   refine cnd h ?_ ?_<;>intro h
   ·refine VW.skip <| sq <| VW.block ?_
    obtain⟨g48,h⟩:=gS h
    refine nR K (an g48 (tn 2)) ?_
    obtain⟨g49,h⟩:=gS h
    refine nE K (pu 2 (an g49 (tn 1))) <| nE K (tn 2) ?_
    exact aro [.ren [6, 25, 26, 27] [0]] ⟨(x38 ++ (a0.getD x40.toNat (Ty.dflt (.sl (.int .u8))))), x39, (wr (x40 + (1 : Int))), rfl, h⟩
   refine VW.exit ?_
   exact arv [.ren [6] [0]] ⟨x38, rfl, h⟩
 rintro s ⟨x31, rfl, h⟩
 unfold F56_j0 at h
 refine nR K (tn 2) ?_
 cases h; exact VW.ret (rt [some 0])
def F57 (N : Nat) (a0 : ByteArray) : Option ((List Int)) :=
  andO (F80 N a0) fun y2 => cond (!y2) (some ([])) (andO (F55 N (a0.size : Int)) fun y3 => gd (y3.length + a0.size ≤ lim (.int .u8)) (some (y3 ++ (bytesOf a0))))
theorem ok57 N a0 {r} (h : F57 N a0 = some r) : Con prog 57 [S a0] [.lf (.own (.int .u8) r .dp)] := by
 refine ctr [.lf (.own (.int .u8) .dp)] K func57 rfl fun w0 E0 ht => ?_
 unfold F57 at h
 show VW _ _ _ _ _ (retQ _ _ _ _) _
 refine nR K (tn 1) <| sq <| sq <| VW.region <| nG K 1 (tn 1) ?_
 obtain⟨y2,hy,h⟩:=aS h
 refine clc false [.t .str] [] (some 4) K (ok80 N _ hy) <| nN K (tn 1) ?_
 refine cnd h ?_ ?_<;>intro h
 ·refine nR K (tn 1) ?_
  cases h; exact VW.ret (rt [none])
 refine VW.skip <| sq <| VW.region <| nG K 2 (tn 2) ?_
 obtain⟨y3,hy,h⟩:=aS h
 refine clc false [.t (.int .i64)] [] (some 8) K (ok55 N _ hy) <| nG K 1 (tn 1) ?_
 obtain⟨g4,h⟩:=gS h
 refine VO.appS (d := 10) (φ := y3.length + a0.size ≤ lim (.int .u8)) (v := .lf (.hd 0 1 none)) (H' := [ar 1 (.int .u8) (y3 ++ (bytesOf a0)) .dp]) K (by kernel_rfl) g4 <| nN K (tn 1) ?_
 cases h; exact VW.ret (rt [some 0])
def F103_j0 (N : Nat) (x12 : Int) : Option (Int) :=
  some x12
def F103_l0_b (N : Nat) (a0 : (List Int)) (nx22 : Int → Int → Int → Option (Int)) (x17 : Int) (x18 : Int) (x19 : Int) : Option (Int) :=
  cond (decide (x19 < x18)) (gd (InR x19 a0.length) (nx22 (Int.tmod (IntKind.i64.wrap ((IntKind.i64.wrap ((269 : Int) * x17)) + (IntKind.i64.wrap (a0.getD x19.toNat (Ty.dflt (.int .u8)))))) (999983 : Int)) x18 (IntKind.i64.wrap (x19 + (1 : Int))))) (F103_j0 N x17)
def F103_l0 (N : Nat) (a0 : (List Int)) := loopF (F103_l0_b N a0) (fun _ _ _ => none)
theorem F103_l0_s N a0 {k} (hk : 0 < k) x17 x18 x19 : F103_l0 N a0 k x17 x18 x19 = F103_l0_b N a0 (F103_l0 N a0 (k - 1)) x17 x18 x19 := by cases k;cases hk;rfl
def F103 (N : Nat) (a0 : (List Int)) : Option (Int) :=
  F103_l0 N a0 N (5 : Int) (a0.length : Int) (0 : Int)
theorem ok103 N a0 {r} (h : F103 N a0 = some r) : Con prog 103 [Vv (.sl (.int .u8)) a0] [.lf (.v (.int .i64) r)] := by
 refine ctr [.lf (.v (.int .i64))] K func103 rfl fun w0 E0 ht => ?_
 unfold F103 at h
 show VW _ _ _ _ _ (retQ _ _ _ _) _
 refine nR K (tn 1) <| nR K (tn 1) ?_
 refine VW.join (fun s => ∃ x12, s = ⟨[(3, I x12)], []⟩ ∧ F103_j0 N x12 = some r) ?_ ?_
 ·refine nR K (tn 3) <| VW.block <| lop (fun k s => ∃ x17 x18 x19, s = ⟨[(3, I x17), (6, Vv (.sl (.int .u8)) a0), (7, I x18), (8, I x19)], []⟩ ∧ F103_l0 N a0 k x17 x18 x19 = some r) N [.ren [3, 6, 7, 8] []] ⟨(5 : Int), (a0.length : Int), (0 : Int), rfl, h⟩ ?_
  rintro k22 s ⟨x17, x18, x19, rfl, h⟩
  cases k22 with
  | zero => cases show none = some r from h
  | succ k22 =>
   replace h : F103_l0_b N a0 (F103_l0 N a0 k22) x17 x18 x19 = some r := h
   unfold F103_l0_b at h
   refine nR K (tn 1) <| sq ?_
   refine cnd h ?_ ?_<;>intro h
   ·refine VW.skip <| sq <| VW.block ?_
    obtain⟨g24,h⟩:=gS h
    refine nR K (an g24 (tn 2)) <| nE K (pu 5 (an (show ((999983 : Int) ≠ 0) from by decide) (tn 1))) <| nE K (tn 2) ?_
    exact aro [.ren [3, 6, 7, 8] []] ⟨(Int.tmod (wr ((wr ((269 : Int) * x17)) + (wr (a0.getD x19.toNat (Ty.dflt (.int .u8)))))) (999983 : Int)), x18, (wr (x19 + (1 : Int))), rfl, h⟩
   refine VW.exit ?_
   exact arv [.ren [3] []] ⟨x17, rfl, h⟩
 rintro s ⟨x12, rfl, h⟩
 unfold F103_j0 at h
 refine nR K (tn 2) ?_
 cases h; exact VW.ret (rt [])
def F58 (N : Nat) (a0 : (List Int)) : Option ((List Int) × Bool) :=
  cond (decide ((a0.length : Int) > (4000 : Int))) (some ([], false)) (gd (0 < ([(80 : Int), (83 : Int)]).length) (andO (F55 N (a0.length : Int)) fun y2 => andO (F103 N a0) fun y3 => andO (F55 N y3) fun y4 => andO (F56 N ([[(80 : Int), (83 : Int)], y2, a0, y4])) fun y5 => some (y5, true)))
theorem ok58 N a0 {r} (h : F58 N a0 = some r) : Con prog 58 [Vv (.sl (.int .u8)) a0] [.lf (.own (.int .u8) r.1 .dp), .lf (.v .bool r.2)] := by
 refine ctr [.lf (.own (.int .u8) .dp), .lf (.v .bool)] K func58 rfl fun w0 E0 ht => ?_
 unfold F58 at h
 show VW _ _ _ _ _ (retQ _ _ _ _) _
 refine nR K (tn 2) <| sq <| nR K (tn 3) ?_
 refine cnd h ?_ ?_<;>intro h
 ·refine nR K (tn 2) ?_
  cases h; exact VW.ret (rt [none])
 refine VW.skip <| sq <| VW.region <| nG K 1 (tn 1) ?_
 obtain⟨g1,h⟩:=gS h
 refine VO.mark (d := 8) (φ := 0 < ([(80 : Int), (83 : Int)]).length) (v := Vv (.sl (.int .u8)) ([(80 : Int), (83 : Int)])) (H' := [none]) K (by kernel_rfl) g1 <| nG K 2 (tn 2) ?_
 obtain⟨y2,hy,h⟩:=aS h
 refine clc false [.t (.int .i64)] [] (some 11) K (ok55 N _ hy) <| nG K 2 (tn 2) ?_
 obtain⟨y3,hy,h⟩:=aS h
 refine clc false [.t (.sl (.int .u8))] [] (some 14) K (ok103 N _ hy) ?_
 obtain⟨y4,hy,h⟩:=aS h
 refine clc false [.t (.int .i64)] [] (some 15) K (ok55 N _ hy) <| VO.ghl [.frz 1, .frz 2] <| nG K 1 (tn 1) ?_
 obtain⟨y5,hy,h⟩:=aS h
 refine clc true [.t (.sl (.sl (.int .u8)))] [] (some 17) K (ok56 N _ hy) <| nN K (tn 2) ?_
 cases h; exact VW.ret (rt [some 4])
def F16_j0 (N : Nat) (x33 : (List Int)) : Option ((List Int) × Bool) :=
  andO (F58 N x33) fun y34 => some (y34.1, y34.2)
def F16_l0_b (N : Nat) (a0 : (List Z77)) (nx56 : (List Int) → Int → Int → Option ((List Int) × Bool)) (x45 : (List Int)) (x46 : Int) (x47 : Int) : Option ((List Int) × Bool) :=
  cond (decide (x47 < x46)) (gd (InR x47 a0.length) (andO (F57 N ((a0.getD x47.toNat (Ty.dflt Y77)).1)) fun y62 => andO (F55 N ((a0.getD x47.toNat (Ty.dflt Y77)).2)) fun y63 => andO (F56 N ([x45, y62, y63])) fun y64 => nx56 y64 x46 (IntKind.i64.wrap (x47 + (1 : Int))))) (F16_j0 N x45)
def F16_l0 (N : Nat) (a0 : (List Z77)) := loopF (F16_l0_b N a0) (fun _ _ _ => none)
theorem F16_l0_s N a0 {k} (hk : 0 < k) x45 x46 x47 : F16_l0 N a0 k x45 x46 x47 = F16_l0_b N a0 (F16_l0 N a0 (k - 1)) x45 x46 x47 := by cases k;cases hk;rfl
def F16 (N : Nat) (a0 : (List Z77)) : Option ((List Int) × Bool) :=
  andO (F37 N a0) fun y2 => cond (!y2) (some ([], false)) (andO (F55 N (a0.length : Int)) fun y3 => F16_l0 N a0 N y3 (a0.length : Int) (0 : Int))
theorem ok16 N a0 {r} (h : F16 N a0 = some r) : Con prog 16 [Vv (.sl Y77) a0] [.lf (.own (.int .u8) r.1 .dp), .lf (.v .bool r.2)] := by
 refine ctr [.lf (.own (.int .u8) .dp), .lf (.v .bool)] K func16 rfl fun w0 E0 ht => ?_
 unfold F16 at h
 show VW _ _ _ _ _ (retQ _ _ _ _) _
 refine nR K (tn 2) <| sq <| sq <| VW.region <| nG K 1 (tn 1) ?_
 obtain⟨y2,hy,h⟩:=aS h
 refine clc false [.t (.sl Y77)] [] (some 8) K (ok37 N _ hy) <| nN K (tn 1) ?_
 refine cnd h ?_ ?_<;>intro h
 ·refine nR K (tn 2) ?_
  cases h; exact VW.ret (rt [none])
 refine VW.skip <| sq <| VW.region <| nG K 2 (tn 2) ?_
 obtain⟨y3,hy,h⟩:=aS h
 refine clc false [.t (.int .i64)] [] (some 12) K (ok55 N _ hy) <| nN K (tn 1) ?_
 refine VW.join (fun s => ∃ x33, s = ⟨[(4, hh 0)], [ar 0 (.int .u8) x33 .dp]⟩ ∧ F16_j0 N x33 = some r) ?_ ?_
 ·refine nR K (tn 3) <| VW.block <| lop (fun k s => ∃ x45 x46 x47, s = ⟨[(4, hh 0), (13, Vv (.sl Y77) a0), (14, I x46), (15, I x47)], [ar 0 (.int .u8) x45 .dp]⟩ ∧ F16_l0 N a0 k x45 x46 x47 = some r) N [.ren [4, 13, 14, 15] [0]] ⟨y3, (a0.length : Int), (0 : Int), rfl, h⟩ ?_
  rintro k56 s ⟨x45, x46, x47, rfl, h⟩
  cases k56 with
  | zero => cases show none = some r from h
  | succ k56 =>
   replace h : F16_l0_b N a0 (F16_l0 N a0 k56) x45 x46 x47 = some r := h
   unfold F16_l0_b at h
   refine nR K (tn 1) <| sq ?_
   refine cnd h ?_ ?_<;>intro h
   ·refine VW.skip <| sq <| VW.block ?_
    obtain⟨g61,h⟩:=gS h
    refine nR K (an g61 (tn 3)) ?_
    obtain⟨y62,hy62,h⟩:=aS h
    obtain⟨y63,hy63,h⟩:=aS h
    obtain⟨y64,hy64,h⟩:=aS h
    refine dr K [(3, .cl [] (some 22) [.lf (.own (.int .u8) y62 .dp)]), (6, .cl [] (some 25) [.lf (.own (.int .u8) y63 .dp)]), (7, .ev [0, 2, 3]), (8, .cl [] (some 27) [.lf (.own (.int .u8) y64 .dp)])] [(3, 0), (6, 1), (7, 2), (8, 3)] [3, 6, 7, 8] [4, 13, 14, 15] [5] (tn 10) ⟨qC false [.t .str] [] [] (some 22) K (ok57 N _ hy62), qC false [.t (.int .i64)] [] [] (some 25) K (ok55 N _ hy63), qE [0, 2, 3] K trivial, qC true [.t (.sl (.sl (.int .u8)))] [] [] (some 27) K (ok56 N _ hy64), trivial⟩ ?_
    refine nE K (tn 2) ?_
    exact aro [.ren [4, 13, 14, 15] [0]] ⟨y64, x46, (wr (x47 + (1 : Int))), rfl, h⟩
   refine VW.exit ?_
   exact arv [.ren [4] [0]] ⟨x45, rfl, h⟩
 rintro s ⟨x33, rfl, h⟩
 unfold F16_j0 at h
 refine sq <| VW.region <| nG K 1 (tn 1) ?_
 obtain⟨y34,hy,h⟩:=aS h
 refine clc true [.t (.sl (.int .u8))] [] (some 30) K (ok58 N _ hy) <| nN K (tn 4) ?_
 cases h; exact VW.ret (rt [some 1])
def F60_j0 (N : Nat) : Option (Int × Int) :=
  some ((0 : Int), (-1 : Int))
def F60_j1 (N : Nat) (x88 : Int) (x123 : Int) : Option (Int × Int) :=
  some (x123, (IntKind.i64.wrap (x88 + (1 : Int))))
def F60_j2 (N : Nat) (a0 : (List Int)) (a1 : Int) (x88 : Int) (x123 : Int) : Option (Int × Int) :=
  andO (F101 N x123) fun y127 => cond (!y127) (some ((0 : Int), (-1 : Int))) (gd (InR x88 a0.length) (cond ((a0.getD x88.toNat (Ty.dflt (.int .u8))) == (0 : Int)) (cond (decide (x88 > a1)) (some ((0 : Int), (-1 : Int))) (F60_j1 N x88 x123)) (F60_j1 N x88 x123)))
def F60_l0_b (N : Nat) (a0 : (List Int)) (a1 : Int) (nx109 : Int → Int → Int → Option (Int × Int)) (x86 : Int) (x87 : Int) (x88 : Int) : Option (Int × Int) :=
  cond (decide (x88 < (a0.length : Int))) (cond (decide (x88 < (IntKind.i64.wrap (a1 + (3 : Int))))) (gd (InR x88 a0.length) (gd (InR x88 a0.length) (cond (decide ((a0.getD x88.toNat (Ty.dflt (.int .u8))) ≥ (128 : Int))) (nx109 (IntKind.i64.wrap (x86 + (IntKind.i64.wrap ((IntKind.i64.wrap (Int.tmod (a0.getD x88.toNat (Ty.dflt (.int .u8))) (128 : Int))) * x87)))) (IntKind.i64.wrap (x87 * (128 : Int))) (IntKind.i64.wrap (x88 + (1 : Int)))) (cond ((Int.tmod (IntKind.i64.wrap (x86 + (IntKind.i64.wrap ((IntKind.i64.wrap (Int.tmod (a0.getD x88.toNat (Ty.dflt (.int .u8))) (128 : Int))) * x87)))) (2 : Int)) == (1 : Int)) (F60_j2 N a0 a1 x88 (IntKind.i64.wrap (Int.tdiv (IntKind.i64.wrap ((0 : Int) - (IntKind.i64.wrap ((IntKind.i64.wrap (x86 + (IntKind.i64.wrap ((IntKind.i64.wrap (Int.tmod (a0.getD x88.toNat (Ty.dflt (.int .u8))) (128 : Int))) * x87)))) + (1 : Int))))) (2 : Int)))) (F60_j2 N a0 a1 x88 (IntKind.i64.wrap (Int.tdiv (IntKind.i64.wrap (x86 + (IntKind.i64.wrap ((IntKind.i64.wrap (Int.tmod (a0.getD x88.toNat (Ty.dflt (.int .u8))) (128 : Int))) * x87)))) (2 : Int)))))))) (F60_j0 N)) (F60_j0 N)
def F60_l0 (N : Nat) (a0 : (List Int)) (a1 : Int) := loopF (F60_l0_b N a0 a1) (fun _ _ _ => none)
theorem F60_l0_s N a0 a1 {k} (hk : 0 < k) x86 x87 x88 : F60_l0 N a0 a1 k x86 x87 x88 = F60_l0_b N a0 a1 (F60_l0 N a0 a1 (k - 1)) x86 x87 x88 := by cases k;cases hk;rfl
def F60 (N : Nat) (a0 : (List Int)) (a1 : Int) : Option (Int × Int) :=
  cond (decide (a1 < (0 : Int))) (some ((0 : Int), (-1 : Int))) (F60_l0 N a0 a1 N (0 : Int) (1 : Int) a1)
theorem ok60 N a0 a1 {r} (h : F60 N a0 a1 = some r) : Con prog 60 [Vv (.sl (.int .u8)) a0, I a1] [.lf (.v (.int .i64) r.1), .lf (.v (.int .i64) r.2)] := by
 refine ctr [.lf (.v (.int .i64)), .lf (.v (.int .i64))] K func60 rfl fun w0 E0 ht => ?_
 unfold F60 at h
 show VW _ _ _ _ _ (retQ _ _ _ _) _
 refine nR K (tn 2) <| sq <| nR K (tn 2) ?_
 refine cnd h ?_ ?_<;>intro h
 ·refine nR K (tn 2) ?_
  cases h; exact VW.ret (rt [])
 refine VW.skip <| nR K (tn 2) ?_
 refine VW.join (fun s => s = ⟨[], []⟩ ∧ F60_j0 N = some r) ?_ ?_
 ·refine nR K (tn 2) <| VW.block <| lop (fun k s => ∃ x86 x87 x88, s = ⟨[(0, Vv (.sl (.int .u8)) a0), (1, I a1), (6, I x86), (7, I x87), (8, I x88)], []⟩ ∧ F60_l0 N a0 a1 k x86 x87 x88 = some r) N [.ren [0, 1, 6, 7, 8] []] ⟨(0 : Int), (1 : Int), a1, rfl, h⟩ ?_
  rintro k109 s ⟨x86, x87, x88, rfl, h⟩
  cases k109 with
  | zero => cases show none = some r from h
  | succ k109 =>
   replace h : F60_l0_b N a0 a1 (F60_l0 N a0 a1 k109) x86 x87 x88 = some r := h
   unfold F60_l0_b at h
   refine sq <| sq <| VW.region <| nG K 5 (tn 5) ?_
   refine spC 17 h ?_ ?_<;>intro h
   ·refine nN K (tn 5) ?_
    refine cnd h ?_ ?_<;>intro h
    ·refine VW.skip <| sq <| VW.block ?_
     obtain⟨g120,h⟩:=gS h
     refine nR K (pu 3 (an g120 (pu 1 (an (show ((128 : Int) ≠ 0) from by decide) (tn 5))))) <| nR K (tn 3) <| sq ?_
     obtain⟨g122,h⟩:=gS h
     refine nR K (pu 2 (an g122 (tn 2))) ?_
     refine cnd h ?_ ?_<;>intro h
     ·refine VW.exit <| nE K (tn 3) ?_
      exact aro [.ren [0, 1, 6, 7, 8] []] ⟨(wr (x86 + (wr ((wr (Int.tmod (a0.getD x88.toNat (Ty.dflt (.int .u8))) (128 : Int))) * x87)))), (wr (x87 * (128 : Int))), (wr (x88 + (1 : Int))), rfl, h⟩
     refine VW.skip <| nR K (pu 1 (an (show ((2 : Int) ≠ 0) from by decide) (tn 1))) ?_
     refine VW.join (fun s => ∃ x123, s = ⟨[(0, Vv (.sl (.int .u8)) a0), (1, I a1), (8, I x88), (9, I x123)], []⟩ ∧ F60_j2 N a0 a1 x88 x123 = some r) ?_ ?_
     ·refine nR K (pu 1 (an (show ((2 : Int) ≠ 0) from by decide) (tn 1))) ?_
      refine cnd h ?_ ?_<;>intro h
      ·refine nE K (pu 3 (an (show ((2 : Int) ≠ 0) from by decide) (tn 1))) ?_
       exact arv [.ren [0, 1, 8, 9] []] ⟨(wr (Int.tdiv (wr ((0 : Int) - (wr ((wr (x86 + (wr ((wr (Int.tmod (a0.getD x88.toNat (Ty.dflt (.int .u8))) (128 : Int))) * x87)))) + (1 : Int))))) (2 : Int))), rfl, h⟩
      refine VW.skip ?_
      exact arv [.ren [0, 1, 8, 9] []] ⟨(wr (Int.tdiv (wr (x86 + (wr ((wr (Int.tmod (a0.getD x88.toNat (Ty.dflt (.int .u8))) (128 : Int))) * x87)))) (2 : Int))), rfl, h⟩
     rintro s ⟨x123, rfl, h⟩
     unfold F60_j2 at h
     refine VW.join (fun s => s = ⟨[(8, I x88), (9, I x123)], []⟩ ∧ F60_j1 N x88 x123 = some r) ?_ ?_
     ·refine sq <| VW.region <| nG K 1 (tn 1) ?_
      obtain⟨y127,hy,h⟩:=aS h
      refine clc false [.t (.int .i64)] [] (some 52) K (ok101 N _ hy) <| nG K 2 (tn 2) ?_
      refine spC 54 h ?_ ?_<;>intro h
      ·refine nN K (tn 11) ?_
       refine VW.cond (b := true) (by kernel_rfl) (fun _ => ?_) (fun h' => nomatch h')
       refine nR K (tn 2) ?_
       cases h; exact VW.ret (rt [])
      obtain⟨g128,h⟩:=gS h
      refine nG K 6 (pu 2 (an g128 (tn 3))) ?_
      refine spC 60 h ?_ ?_<;>intro h
      ·refine nN K (tn 5) ?_
       refine cnd h ?_ ?_<;>intro h
       ·refine nR K (tn 2) ?_
        cases h; exact VW.ret (rt [])
       refine VW.skip ?_
       exact arv [.ren [8, 9] []] ⟨rfl, h⟩
      refine nN K (tn 5) ?_
      refine VW.cond (b := false) (by kernel_rfl) (fun h' => nomatch h') (fun _ => ?_)
      refine VW.skip ?_
      exact arv [.ren [8, 9] []] ⟨rfl, h⟩
     rintro s ⟨rfl, h⟩
     unfold F60_j1 at h
     refine nR K (tn 5) ?_
     cases h; exact VW.ret (rt [])
    refine VW.exit ?_
    exact arv [.ren [] []] ⟨rfl, h⟩
   refine nN K (tn 5) ?_
   refine VW.cond (b := false) (by kernel_rfl) (fun h' => nomatch h') (fun _ => ?_)
   refine VW.exit ?_
   exact arv [.ren [] []] ⟨rfl, h⟩
 rintro s ⟨rfl, h⟩
 unfold F60_j0 at h
 refine nR K (tn 2) ?_
 cases h; exact VW.ret (rt [])
def F106 (N : Nat) (a0 : (List Int)) (a1 : (List Int)) : Option (Bool) :=
  some ((strOfNums a0).toList == (strOfNums a1).toList)
theorem ok106 N a0 a1 {r} (h : F106 N a0 a1 = some r) : Con prog 106 [Vv (.sl (.int .u8)) a0, Vv (.sl (.int .u8)) a1] [.lf (.v .bool r)] := by
 refine ctr [.lf (.v .bool)] K func106 rfl fun w0 E0 ht => ?_
 unfold F106 at h
 show VW _ _ _ _ _ (retQ _ _ _ _) _
 refine nR K (tn 1) <| nR K (tn 6) ?_
 cases h; exact VW.ret (rt [])
def F104 (N : Nat) (a0 : (List Int)) (a1 : (List Int)) : Option (Bool) :=
  cond (decide ((a0.length : Int) ≥ (a1.length : Int))) (gd (0 ≤ (a1.length : Int) ∧ (a1.length : Int) ≤ (a0.length : Int)) (andO (F106 N (a0.take (a1.length : Int).toNat) a1) fun y2 => some y2)) (some false)
theorem ok104 N a0 a1 {r} (h : F104 N a0 a1 = some r) : Con prog 104 [Vv (.sl (.int .u8)) a0, Vv (.sl (.int .u8)) a1] [.lf (.v .bool r)] := by
 refine ctr [.lf (.v .bool)] K func104 rfl fun w0 E0 ht => ?_
 unfold F104 at h
 show VW _ _ _ _ _ (retQ _ _ _ _) _
 refine nR K (tn 1) <| sq <| VW.region <| nG K 6 (tn 6) ?_
 refine spC 10 h ?_ ?_<;>intro h
 ·obtain⟨g1,h⟩:=gS h
  refine nG K 5 (pu 3 (an g1 (tn 1))) <| VO.on (j := 5) (want := true) (d := 10) (b := true) rfl rfl rfl (by kernel_rfl) rfl ?_
  obtain⟨y2,hy,h⟩:=aS h
  refine clc false [.t (.sl (.int .u8)), .t (.sl (.int .u8))] [] (some 16) K (ok106 N _ _ hy) <| nN K (tn 2) ?_
  cases h; exact VW.ret (rt [])
 refine nN K (tn 8) ?_
 cases h; exact VW.ret (rt [])
def F105 (N : Nat) (a0 : (List Int)) : Option ((List Int)) :=
  gd (a0.length ≤ lim (.int .u8)) (some a0)
theorem ok105 N a0 {r} (h : F105 N a0 = some r) : Con prog 105 [Vv (.sl (.int .u8)) a0] [.lf (.own (.int .u8) r .dp)] := by
 refine ctr [.lf (.own (.int .u8) .dp)] K func105 rfl fun w0 E0 ht => ?_
 unfold F105 at h
 show VW _ _ _ _ _ (retQ _ _ _ _) _
 refine nR K (tn 1) <| sq <| sq <| VW.region <| nG K 1 (tn 1) ?_
 refine VO.isNil (d := 4) (e := (.int .u8)) (xs := a0) K rfl rfl rfl rfl (by kernel_rfl) (by kernel_rfl) (fun hx => ?_) ?_
 ·replace h : some ([]) = some r := by
   subst hx; first | exact h | exact (gd_some h).2
  refine nN K (tn 0) ?_
  refine VW.cond (b := true) (by kernel_rfl) (fun _ => ?_) (fun h' => nomatch h')
  refine nR K (tn 1) ?_
  cases h; exact VW.ret (rt [none])
 refine nN K (tn 0) ?_
 refine VW.cond (b := false) (by kernel_rfl) (fun h' => nomatch h') (fun _ => ?_)
 refine VW.skip ?_
 obtain⟨g1,h⟩:=gS h
 refine nR K (pu 2 (an g1 (tn 1))) ?_
 cases h; exact VW.ret (rt [some 0])
def F59 (N : Nat) (a0 : (List Int)) : Option ((List Int) × Bool) :=
  gd (0 < ([(80 : Int), (83 : Int)]).length) (andO (F104 N a0 ([(80 : Int), (83 : Int)])) fun y4 => cond (!y4) (some ([], false)) (andO (F60 N a0 (2 : Int)) fun y5 => cond (decide (y5.2 < (0 : Int))) (some ([], false)) (andO (F61 N y5.1 (0 : Int) (IntKind.i64.wrap ((a0.length : Int) - y5.2))) fun y7 => cond (!y7) (some ([], false)) (gd (0 ≤ y5.2 ∧ y5.2 ≤ (IntKind.i64.wrap (y5.2 + y5.1)) ∧ (IntKind.i64.wrap (y5.2 + y5.1)) ≤ (a0.length : Int)) (andO (F105 N ((a0.take (IntKind.i64.wrap (y5.2 + y5.1)).toNat).drop y5.2.toNat)) fun y9 => andO (F58 N y9) fun y12 => cond (!y12.2) (some ([], false)) (andO (F106 N y12.1 a0) fun y13 => cond (!y13) (some ([], false)) (some (y9, true))))))))
theorem ok59 N a0 {r} (h : F59 N a0 = some r) : Con prog 59 [Vv (.sl (.int .u8)) a0] [.lf (.own (.int .u8) r.1 .dp), .lf (.v .bool r.2)] := by
 refine ctr [.lf (.own (.int .u8) .dp), .lf (.v .bool)] K func59 rfl fun w0 E0 ht => ?_
 unfold F59 at h
 show VW _ _ _ _ _ (retQ _ _ _ _) _
 refine nR K (tn 2) <| sq <| sq <| VW.region <| nG K 2 (tn 2) ?_
 obtain⟨g3,h⟩:=gS h
 refine VO.mark (d := 11) (φ := 0 < ([(80 : Int), (83 : Int)]).length) (v := Vv (.sl (.int .u8)) ([(80 : Int), (83 : Int)])) (H' := [none]) K (by kernel_rfl) g3 ?_
 obtain⟨y4,hy,h⟩:=aS h
 refine clc false [.t (.sl (.int .u8)), .t (.sl (.int .u8))] [] (some 12) K (ok104 N _ _ hy) <| nN K (tn 1) ?_
 refine cnd h ?_ ?_<;>intro h
 ·refine nR K (tn 2) ?_
  cases h; exact VW.ret (rt [none])
 refine VW.skip <| sq <| VW.region <| nG K 1 (tn 1) ?_
 obtain⟨y5,hy,h⟩:=aS h
 refine clc false [.t (.sl (.int .u8)), .t (.int .i64)] [] (some 16) K (ok60 N _ _ hy) <| nN K (tn 5) <| sq <| sq <| VW.region <| nG K 3 (tn 3) ?_
 refine spC 21 h ?_ ?_<;>intro h
 ·refine nN K (tn 8) ?_
  refine VW.cond (b := true) (by kernel_rfl) (fun _ => ?_) (fun h' => nomatch h')
  refine nR K (tn 2) ?_
  cases h; exact VW.ret (rt [none])
 refine nG K 5 (tn 5) <| VO.on (j := 2) (want := false) (d := 21) (b := false) rfl rfl rfl (by kernel_rfl) rfl ?_
 obtain⟨y7,hy,h⟩:=aS h
 refine clc false [.t (.int .i64), .t (.int .i64), .t (.int .i64)] [] (some 27) K (ok61 N _ _ _ hy) <| nN K (tn 2) ?_
 refine cnd h ?_ ?_<;>intro h
 ·refine nR K (tn 2) ?_
  cases h; exact VW.ret (rt [none])
 refine VW.skip <| sq <| VW.region ?_
 obtain⟨g8,h⟩:=gS h
 refine nG K 6 (pu 5 (an g8 (tn 0))) ?_
 obtain⟨y9,hy,h⟩:=aS h
 refine clc false [.t (.sl (.int .u8))] [] (some 36) K (ok105 N _ hy) <| nN K (tn 1) <| sq <| sq <| VW.region <| nG K 1 (tn 1) ?_
 obtain⟨y12,hy,h⟩:=aS h
 refine clc true [.t (.sl (.int .u8))] [] (some 39) K (ok58 N _ hy) <| nN K (tn 5) <| sq <| VW.region <| nG K 3 (tn 3) ?_
 refine spC 44 h ?_ ?_<;>intro h
 ·refine nN K (tn 5) ?_
  refine VW.cond (b := true) (by kernel_rfl) (fun _ => ?_) (fun h' => nomatch h')
  refine sR K [2, 3] [] ⟨[(2, .lf (.nil)), (3, B false)], []⟩ (tn 2) ?_
  cases h; exact VW.ret (rt [none])
 refine nG K 2 (tn 2) <| VO.on (j := 2) (want := false) (d := 44) (b := false) rfl rfl rfl (by kernel_rfl) rfl ?_
 obtain⟨y13,hy,h⟩:=aS h
 refine clc true [.t (.sl (.int .u8)), .t (.sl (.int .u8))] [] (some 47) K (ok106 N _ _ hy) <| sN K [6, 49] [1] ⟨[(6, hh 0), (49, B (!y13))], [ar 0 (.int .u8) y9 .dp]⟩ (tn 2) ?_
 refine cnd h ?_ ?_<;>intro h
 ·refine nR K (tn 2) ?_
  cases h; exact VW.ret (rt [none])
 refine VW.skip <| nR K (tn 3) ?_
 cases h; exact VW.ret (rt [some 0])
def F62 (N : Nat) (a0 : (List Int)) (a1 : Int) : Option (ByteArray × Int) :=
  andO (F60 N a0 a1) fun y1 => cond (decide (y1.2 < (0 : Int))) (some (ByteArray.empty, (-1 : Int))) (andO (F61 N y1.1 (1 : Int) (IntKind.i64.wrap ((a0.length : Int) - y1.2))) fun y5 => cond (!y5) (some (ByteArray.empty, (-1 : Int))) (gd (0 ≤ y1.2 ∧ y1.2 ≤ (IntKind.i64.wrap (y1.2 + y1.1)) ∧ (IntKind.i64.wrap (y1.2 + y1.1)) ≤ (a0.length : Int)) (andO (F80 N (strOfNums ((a0.take (IntKind.i64.wrap (y1.2 + y1.1)).toNat).drop y1.2.toNat))) fun y7 => cond (!y7) (some (ByteArray.empty, (-1 : Int))) (gd (0 ≤ y1.2 ∧ y1.2 ≤ (IntKind.i64.wrap (y1.2 + y1.1)) ∧ (IntKind.i64.wrap (y1.2 + y1.1)) ≤ (a0.length : Int)) (some ((strOfNums ((a0.take (IntKind.i64.wrap (y1.2 + y1.1)).toNat).drop y1.2.toNat)), (IntKind.i64.wrap (y1.2 + y1.1))))))))
theorem ok62 N a0 a1 {r} (h : F62 N a0 a1 = some r) : Con prog 62 [Vv (.sl (.int .u8)) a0, I a1] [.lf (.v .str r.1), .lf (.v (.int .i64) r.2)] := by
 refine ctr [.lf (.v .str), .lf (.v (.int .i64))] K func62 rfl fun w0 E0 ht => ?_
 unfold F62 at h
 show VW _ _ _ _ _ (retQ _ _ _ _) _
 refine nR K (tn 2) <| sq <| VW.region <| nG K 2 (tn 2) ?_
 obtain⟨y1,hy,h⟩:=aS h
 refine clc false [.t (.sl (.int .u8)), .t (.int .i64)] [] (some 11) K (ok60 N _ _ hy) <| nN K (tn 5) <| sq <| sq <| VW.region <| nG K 3 (tn 3) ?_
 refine spC 16 h ?_ ?_<;>intro h
 ·refine nN K (tn 19) ?_
  refine VW.cond (b := true) (by kernel_rfl) (fun _ => ?_) (fun h' => nomatch h')
  refine nR K (tn 2) ?_
  cases h; exact VW.ret (rt [])
 refine nG K 5 (tn 5) <| VO.on (j := 2) (want := false) (d := 16) (b := false) rfl rfl rfl (by kernel_rfl) rfl ?_
 obtain⟨y5,hy,h⟩:=aS h
 refine clc false [.t (.int .i64), .t (.int .i64), .t (.int .i64)] [] (some 22) K (ok61 N _ _ _ hy) <| nG K 3 (tn 3) ?_
 refine spC 25 h ?_ ?_<;>intro h
 ·refine nN K (tn 10) ?_
  refine VW.cond (b := true) (by kernel_rfl) (fun _ => ?_) (fun h' => nomatch h')
  refine nR K (tn 2) ?_
  cases h; exact VW.ret (rt [])
 obtain⟨g6,h⟩:=gS h
 refine nG K 7 (pu 5 (an g6 (tn 1))) <| VO.on (j := 11) (want := false) (d := 25) (b := false) rfl rfl rfl (by kernel_rfl) rfl ?_
 obtain⟨y7,hy,h⟩:=aS h
 refine clc false [.t .str] [] (some 33) K (ok80 N _ hy) <| nN K (tn 2) ?_
 refine cnd h ?_ ?_<;>intro h
 ·refine nR K (tn 2) ?_
  cases h; exact VW.ret (rt [])
 refine VW.skip ?_
 obtain⟨g8,h⟩:=gS h
 refine nR K (pu 5 (an g8 (tn 6))) ?_
 cases h; exact VW.ret (rt [])
def F17_j0 (N : Nat) (x32 : (List Int)) (x33 : Int) (x34 : (List Z77)) : Option ((List Z77) × Bool) :=
  cond (decide (x33 < (x32.length : Int))) (some ([], false)) (andO (F37 N x34) fun y36 => cond (!y36) (some ([], false)) (some (x34, true)))
def F17_l0_b (N : Nat) (nx58 : (List Int) → Int → (List Z77) → Int → Int → Option ((List Z77) × Bool)) (x47 : (List Int)) (x48 : Int) (x49 : (List Z77)) (x50 : Int) (x51 : Int) : Option ((List Z77) × Bool) :=
  cond (decide (x51 < x50)) (andO (F62 N x47 x48) fun y62 => cond (decide (y62.2 < (0 : Int))) (some ([], false)) (andO (F60 N x47 y62.2) fun y63 => cond (decide (y63.2 < (0 : Int))) (some ([], false)) (gd (x49.length + ([(y62.1, y63.1)]).length ≤ lim Y77) (nx58 x47 y63.2 (x49 ++ ([(y62.1, y63.1)])) x50 (IntKind.i64.wrap (x51 + (1 : Int))))))) (F17_j0 N x47 x48 x49)
def F17_l0 (N : Nat) := loopF (F17_l0_b N) (fun _ _ _ _ _ => none)
theorem F17_l0_s N {k} (hk : 0 < k) x47 x48 x49 x50 x51 : F17_l0 N k x47 x48 x49 x50 x51 = F17_l0_b N (F17_l0 N (k - 1)) x47 x48 x49 x50 x51 := by cases k;cases hk;rfl
def F17 (N : Nat) (a0 : (List Int)) : Option ((List Z77) × Bool) :=
  andO (F59 N a0) fun y1 => andO (F60 N y1.1 (0 : Int)) fun y2 => cond (!y1.2) (some ([], false)) (cond (decide (y2.2 < (0 : Int))) (some ([], false)) (andO (F61 N y2.1 (0 : Int) (8 : Int)) fun y4 => cond (!y4) (some ([], false)) (F17_l0 N N y1.1 y2.2 ([]) y2.1 (0 : Int))))
theorem ok17 N a0 {r} (h : F17 N a0 = some r) : Con prog 17 [Vv (.sl (.int .u8)) a0] [.lf (.own Y77 r.1 .dp), .lf (.v .bool r.2)] := by
 refine ctr [.lf (.own Y77 .dp), .lf (.v .bool)] K func17 rfl fun w0 E0 ht => ?_
 unfold F17 at h
 show VW _ _ _ _ _ (retQ _ _ _ _) _
 refine nR K (tn 2) <| sq <| VW.region <| nG K 1 (tn 1) ?_
 obtain⟨y1,hy,h⟩:=aS h
 refine clc false [.t (.sl (.int .u8))] [] (some 15) K (ok59 N _ hy) <| nN K (tn 5) <| sq <| VW.region <| nG K 1 (tn 1) ?_
 obtain⟨y2,hy,h⟩:=aS h
 refine clc true [.t (.sl (.int .u8)), .t (.int .i64)] [] (some 20) K (ok60 N _ _ hy) <| nN K (tn 5) <| sq <| sq <| VW.region <| nG K 3 (tn 3) ?_
 refine spC 25 h ?_ ?_<;>intro h
 ·refine nN K (tn 8) ?_
  refine VW.cond (b := true) (by kernel_rfl) (fun _ => ?_) (fun h' => nomatch h')
  refine nR K (tn 2) ?_
  cases h; exact VW.ret (rt [none])
 refine nG K 4 (tn 4) ?_
 refine spC 29 h ?_ ?_<;>intro h
 ·refine nN K (tn 4) ?_
  refine VW.cond (b := true) (by kernel_rfl) (fun _ => ?_) (fun h' => nomatch h')
  refine nR K (tn 2) ?_
  cases h; exact VW.ret (rt [none])
 refine nG K 1 (tn 1) <| VO.on (j := 6) (want := false) (d := 29) (b := false) rfl rfl rfl (by kernel_rfl) rfl ?_
 obtain⟨y4,hy,h⟩:=aS h
 refine clc false [.t (.int .i64), .t (.int .i64), .t (.int .i64)] [] (some 31) K (ok61 N _ _ _ hy) <| nN K (tn 2) ?_
 refine cnd h ?_ ?_<;>intro h
 ·refine nR K (tn 2) ?_
  cases h; exact VW.ret (rt [none])
 refine VW.skip <| nR K (tn 1) ?_
 refine VW.join (fun s => ∃ x32 x33 x34, s = ⟨[(4, hh 0), (7, I x33), (8, hh 1)], [ar 0 (.int .u8) x32 .dp, ar 0 Y77 x34 .dp]⟩ ∧ F17_j0 N x32 x33 x34 = some r) ?_ ?_
 ·refine nR K (tn 2) <| VW.block <| lop (fun k s => ∃ x47 x48 x49 x50 x51, s = ⟨[(4, hh 0), (7, I x48), (8, hh 1), (34, I x50), (35, I x51)], [ar 0 (.int .u8) x47 .dp, ar 0 Y77 x49 .dp]⟩ ∧ F17_l0 N k x47 x48 x49 x50 x51 = some r) N [.nilS 8 Y77 .dp, .ren [4, 7, 8, 34, 35] [0, 1]] ⟨y1.1, y2.2, [], y2.1, (0 : Int), rfl, h⟩ ?_
  rintro k58 s ⟨x47, x48, x49, x50, x51, rfl, h⟩
  cases k58 with
  | zero => cases show none = some r from h
  | succ k58 =>
   replace h : F17_l0_b N (F17_l0 N k58) x47 x48 x49 x50 x51 = some r := h
   unfold F17_l0_b at h
   refine nR K (tn 1) <| sq ?_
   refine cnd h ?_ ?_<;>intro h
   ·refine VW.skip <| sq <| VW.block <| sq <| VW.region <| nG K 2 (tn 2) ?_
    obtain⟨y62,hy,h⟩:=aS h
    refine clc true [.t (.sl (.int .u8)), .t (.int .i64)] [] (some 40) K (ok62 N _ _ hy) <| nN K (tn 5) <| sq <| nR K (tn 2) ?_
    refine cnd h ?_ ?_<;>intro h
    ·refine nR K (tn 2) ?_
     cases h; exact VW.ret (rt [none])
    refine VW.skip <| sq <| VW.region <| nG K 2 (tn 2) ?_
    obtain⟨y63,hy,h⟩:=aS h
    refine clc true [.t (.sl (.int .u8)), .t (.int .i64)] [] (some 48) K (ok60 N _ _ hy) <| nN K (tn 5) <| sq <| nR K (tn 2) ?_
    refine cnd h ?_ ?_<;>intro h
    ·refine nR K (tn 2) ?_
     cases h; exact VW.ret (rt [none])
    refine VW.skip ?_
    obtain⟨g64,h⟩:=gS h
    refine nR K (pu 5 (an g64 (tn 1))) <| nE K (tn 2) <| nE K (tn 2) ?_
    exact aro [.ren [4, 7, 8, 34, 35] [0, 1]] ⟨x47, y63.2, (x49 ++ ([(y62.1, y63.1)])), x50, (wr (x51 + (1 : Int))), rfl, h⟩
   refine VW.exit ?_
   exact arv [.ren [4, 7, 8] [0, 1]] ⟨x47, x48, x49, rfl, h⟩
 rintro s ⟨x32, x33, x34, rfl, h⟩
 unfold F17_j0 at h
 refine sq <| sq <| VW.region <| nG K 5 (tn 5) ?_
 refine spC 65 h ?_ ?_<;>intro h
 ·refine nN K (tn 4) ?_
  refine VW.cond (b := true) (by kernel_rfl) (fun _ => ?_) (fun h' => nomatch h')
  refine nR K (tn 2) ?_
  cases h; exact VW.ret (rt [none])
 refine nG K 1 (tn 1) <| VO.on (j := 4) (want := false) (d := 65) (b := false) rfl rfl rfl (by kernel_rfl) rfl ?_
 obtain⟨y36,hy,h⟩:=aS h
 refine clc true [.t (.sl Y77)] [] (some 67) K (ok37 N _ hy) <| nN K (tn 2) ?_
 refine cnd h ?_ ?_<;>intro h
 ·refine nR K (tn 2) ?_
  cases h; exact VW.ret (rt [none])
 refine VW.skip <| nR K (tn 3) ?_
 cases h; exact VW.ret (rt [some 1])
def F3_j0 (N : Nat) (x27 : (List Z77)) : Option (Bool) :=
  andO (F14 N x27) fun y37 => andO (F15 N y37) fun y38 => andO (F16 N x27) fun y39 => andO (F17 N y39.1) fun y40 => andO (F18 N x27) fun y42 => cond (!y42) (cond (y37.toList == ByteArray.empty.toList) (some (!y39.2)) (some false)) (cond y38.2 (cond y39.2 (cond y40.2 (andO (F14 N y38.1) fun y43 => cond (y43.toList == y37.toList) (andO (F14 N y40.1) fun y44 => some (y44.toList == y37.toList)) (some false)) (some false)) (some false)) (some false))
def F3_j1 (N : Nat) (y4 : Int) (x27 : (List Z77)) (x28 : (List Z73)) (x29 : Int) (x30 : (List Z73)) : Option (Bool) :=
  cond (decide (y4 ≥ (0 : Int))) (cond (decide (x29 ≥ (0 : Int))) (gd ((x28.length : Int) ≠ 0) (andO (F13 N x28 (Int.tmod x29 (x28.length : Int)) x30) fun y47 => cond y47.2 (andO (F7 N x27 x30) fun y48 => cond (decide (y48 ≥ (0 : Int))) (andO (F7 N x27 x30) fun y49 => andO (F12 N x27 x28 (Int.tmod x29 (x28.length : Int))) fun y50 => cond (y49 == y50) (andO (F7 N x27 y47.1) fun y51 => cond (y51 != y4) (some false) (F3_j0 N x27)) (F3_j0 N x27)) (F3_j0 N x27)) (F3_j0 N x27))) (F3_j0 N x27)) (F3_j0 N x27)
def F3_l0_b (N : Nat) (y4 : Int) (nx66 : (List Z77) → (List Z73) → Int → (List Z73) → Int → Option (Bool)) (x59 : (List Z77)) (x60 : (List Z73)) (x61 : Int) (x62 : (List Z73)) (x63 : Int) : Option (Bool) :=
  cond (decide (y4 ≥ (0 : Int))) (cond (decide (x63 < (x60.length : Int))) (andO (F12 N x59 x60 x63) fun y68 => cond (decide (y68 < (1 : Int))) (some false) (nx66 x59 x60 x61 x62 (IntKind.i64.wrap (x63 + (1 : Int))))) (F3_j1 N y4 x59 x60 x61 x62)) (F3_j1 N y4 x59 x60 x61 x62)
def F3_l0 (N : Nat) (y4 : Int) := loopF (F3_l0_b N y4) (fun _ _ _ _ _ => none)
theorem F3_l0_s N y4 {k} (hk : 0 < k) x59 x60 x61 x62 x63 : F3_l0 N y4 k x59 x60 x61 x62 x63 = F3_l0_b N y4 (F3_l0 N y4 (k - 1)) x59 x60 x61 x62 x63 := by cases k;cases hk;rfl
def F3 (N : Nat) (a0 : (List Int)) : Option (Bool) :=
  andO (F5 N a0) fun y2 => cond y2 (some true) (andO (F6 N a0) fun y3 => andO (F7 N y3.1 y3.2) fun y4 => andO (F8 N y3.1 y3.2) fun y7 => cond (y4 != y7) (some false) (andO (F9 N y3.1 y3.2) fun y8 => cond (!(y8 == (decide (y4 ≥ (0 : Int))))) (some false) (andO (F11 N a0 (1 : Int)) fun y9 => andO (F10 N y9) fun y10 => F3_l0 N y4 N y3.1 y3.2 y10.2.1 y10.2.2 (0 : Int))))
theorem ok3 N a0 {r} (h : F3 N a0 = some r) : Con prog 3 [Vv (.sl (.int .u8)) a0] [.lf (.v .bool r)] := by
 refine ctr [.lf (.v .bool)] K func3 rfl fun w0 E0 ht => ?_
 unfold F3 at h
 show VW _ _ _ _ _ (retQ _ _ _ _) _
 refine nR K (tn 1) <| sq <| sq <| VW.region <| nG K 1 (tn 1) ?_
 obtain⟨y2,hy,h⟩:=aS h
 refine clc false [.t (.sl (.int .u8))] [] (some 21) K (ok5 N _ hy) <| nN K (tn 0) ?_
 refine cnd h ?_ ?_<;>intro h
 ·refine nR K (tn 1) ?_
  cases h; exact VW.ret (rt [])
 refine VW.skip <| sq <| VW.region <| nG K 1 (tn 1) ?_
 obtain⟨y3,hy,h⟩:=aS h
 refine clc false [.t (.sl (.int .u8))] [] (some 24) K (ok6 N _ hy) <| nN K (tn 5) <| sq <| VW.region <| nG K 2 (tn 2) ?_
 obtain⟨y4,hy,h⟩:=aS h
 refine clc true [.t (.sl Y77), .t (.sl Y73)] [] (some 29) K (ok7 N _ _ hy) <| nN K (tn 1) <| sq <| sq <| VW.region <| nG K 3 (tn 3) ?_
 obtain⟨y7,hy,h⟩:=aS h
 refine clc true [.t (.sl Y77), .t (.sl Y73)] [] (some 33) K (ok8 N _ _ hy) <| nG K 2 (tn 2) ?_
 refine spC 35 h ?_ ?_<;>intro h
 ·refine nN K (tn 7) ?_
  refine VW.cond (b := true) (by kernel_rfl) (fun _ => ?_) (fun h' => nomatch h')
  refine nR K (tn 1) ?_
  cases h; exact VW.ret (rt [])
 refine nG K 2 (tn 2) <| VO.on (j := 5) (want := false) (d := 35) (b := false) rfl rfl rfl (by kernel_rfl) rfl ?_
 obtain⟨y8,hy,h⟩:=aS h
 refine clc true [.t (.sl Y77), .t (.sl Y73)] [] (some 38) K (ok9 N _ _ hy) <| nN K (tn 4) ?_
 refine cnd h ?_ ?_<;>intro h
 ·refine nR K (tn 1) ?_
  cases h; exact VW.ret (rt [])
 refine VW.skip <| sq <| VW.region <| nG K 1 (tn 1) ?_
 obtain⟨y9,hy,h⟩:=aS h
 refine clc false [.t (.sl (.int .u8)), .t (.int .i64)] [] (some 45) K (ok11 N _ _ hy) ?_
 obtain⟨y10,hy,h⟩:=aS h
 refine VO.ghl [.frz 2] <| clc false [.t (.sl (.int .u8))] [] (some 46) K (ok10 N _ hy) <| nN K (tn 7) ?_
 refine VW.join (fun s => ∃ x27 x28 x29 x30, s = ⟨[(3, hh 0), (4, hh 1), (5, I y4), (7, I x29), (8, hh 2)], [ar 0 Y77 x27 .dp, ar 0 Y73 x28 .tp, ar 0 Y73 x30 .tp]⟩ ∧ F3_j1 N y4 x27 x28 x29 x30 = some r) ?_ ?_
 ·refine sR K [3, 4, 5, 7, 8, 9] [0, 1, 4] ⟨[(3, hh 0), (4, hh 1), (5, I y4), (7, I y10.2.1), (8, hh 2), (9, I (0 : Int))], [ar 0 Y77 y3.1 .dp, ar 0 Y73 y3.2 .tp, ar 0 Y73 y10.2.2 .tp]⟩ (tn 1) <| VW.block <| lop (fun k s => ∃ x59 x60 x61 x62 x63, s = ⟨[(3, hh 0), (4, hh 1), (5, I y4), (7, I x61), (8, hh 2), (9, I x63)], [ar 0 Y77 x59 .dp, ar 0 Y73 x60 .tp, ar 0 Y73 x62 .tp]⟩ ∧ F3_l0 N y4 k x59 x60 x61 x62 x63 = some r) N [.ren [3, 4, 5, 7, 8, 9] [0, 1, 2]] ⟨y3.1, y3.2, y10.2.1, y10.2.2, (0 : Int), rfl, h⟩ ?_
  rintro k66 s ⟨x59, x60, x61, x62, x63, rfl, h⟩
  cases k66 with
  | zero => cases show none = some r from h
  | succ k66 =>
   replace h : F3_l0_b N y4 (F3_l0 N y4 k66) x59 x60 x61 x62 x63 = some r := h
   unfold F3_l0_b at h
   refine sq <| sq <| VW.region <| nG K 3 (tn 3) ?_
   refine spC 52 h ?_ ?_<;>intro h
   ·refine nN K (tn 5) ?_
    refine cnd h ?_ ?_<;>intro h
    ·refine VW.skip <| sq <| VW.block <| sq <| VW.region <| nG K 3 (tn 3) ?_
     obtain⟨y68,hy,h⟩:=aS h
     refine clc true [.t (.sl Y77), .t (.sl Y73), .t (.int .i64)] [] (some 63) K (ok12 N _ _ _ hy) <| nN K (tn 1) ?_
     refine cnd h ?_ ?_<;>intro h
     ·refine nR K (tn 1) ?_
      cases h; exact VW.ret (rt [])
     refine VW.skip <| nE K (tn 3) ?_
     exact aro [.ren [3, 4, 5, 7, 8, 9] [0, 1, 2]] ⟨x59, x60, x61, x62, (wr (x63 + (1 : Int))), rfl, h⟩
    refine VW.exit ?_
    exact arv [.ren [3, 4, 5, 7, 8] [0, 1, 2]] ⟨x59, x60, x61, x62, rfl, h⟩
   refine nN K (tn 5) ?_
   refine VW.cond (b := false) (by kernel_rfl) (fun h' => nomatch h') (fun _ => ?_)
   refine VW.exit ?_
   exact arv [.ren [3, 4, 5, 7, 8] [0, 1, 2]] ⟨x59, x60, x61, x62, rfl, h⟩
 rintro s ⟨x27, x28, x29, x30, rfl, h⟩
 unfold F3_j1 at h
 refine VW.join (fun s => s = ⟨[(3, hh 0)], [ar 0 Y77 x27 .dp]⟩ ∧ F3_j0 N x27 = some r) ?_ ?_
 ·refine sq <| VW.region <| nG K 3 (tn 3) ?_
  refine spC 67 h ?_ ?_<;>intro h
  ·refine nN K (tn 3) ?_
   refine cnd h ?_ ?_<;>intro h
   ·obtain⟨g46,h⟩:=gS h
    refine nR K (pu 3 (an g46 (tn 1))) <| sq <| VW.region <| nG K 3 (tn 3) ?_
    obtain⟨y47,hy,h⟩:=aS h
    refine clc true [.t (.sl Y73), .t (.int .i64), .t (.sl Y73)] [] (some 79) K (ok13 N _ _ _ hy) <| nN K (tn 5) <| sq <| VW.region <| nG K 2 (tn 2) ?_
    refine spC 83 h ?_ ?_<;>intro h
    ·refine nG K 2 (tn 2) <| VO.on (j := 1) (want := true) (d := 83) (b := true) rfl rfl rfl (by kernel_rfl) rfl ?_
     obtain⟨y48,hy,h⟩:=aS h
     refine clc true [.t (.sl Y77), .t (.sl Y73)] [] (some 86) K (ok7 N _ _ hy) <| nG K 3 (tn 3) ?_
     refine spC 89 h ?_ ?_<;>intro h
     ·refine nG K 2 (tn 2) <| VO.on (j := 7) (want := true) (d := 89) (b := true) rfl rfl rfl (by kernel_rfl) rfl ?_
      obtain⟨y49,hy,h⟩:=aS h
      refine clc true [.t (.sl Y77), .t (.sl Y73)] [] (some 92) K (ok7 N _ _ hy) <| nG K 3 (tn 3) <| VO.on (j := 7) (want := true) (d := 89) (b := true) rfl rfl rfl (by kernel_rfl) rfl ?_
      obtain⟨y50,hy,h⟩:=aS h
      refine clc true [.t (.sl Y77), .t (.sl Y73), .t (.int .i64)] [] (some 96) K (ok12 N _ _ _ hy) <| nG K 3 (tn 3) ?_
      refine spC 99 h ?_ ?_<;>intro h
      ·refine nG K 2 (tn 2) <| VO.on (j := 17) (want := true) (d := 99) (b := true) rfl rfl rfl (by kernel_rfl) rfl ?_
       obtain⟨y51,hy,h⟩:=aS h
       refine clc true [.t (.sl Y77), .t (.sl Y73)] [] (some 102) K (ok7 N _ _ hy) <| sN K [3, 105] [0] ⟨[(3, hh 0), (105, B (y51 != y4))], [ar 0 Y77 x27 .dp]⟩ (tn 3) ?_
       refine cnd h ?_ ?_<;>intro h
       ·refine nR K (tn 1) ?_
        cases h; exact VW.ret (rt [])
       refine VW.skip ?_
       exact arv [.ren [3] [0]] ⟨rfl, h⟩
      refine nN K (tn 6) ?_
      refine VW.cond (b := false) (by kernel_rfl) (fun h' => nomatch h') (fun _ => ?_)
      refine VW.skip ?_
      exact arv [.ren [3] [0]] ⟨rfl, h⟩
     refine nN K (tn 16) ?_
     refine VW.cond (b := false) (by kernel_rfl) (fun h' => nomatch h') (fun _ => ?_)
     refine VW.skip ?_
     exact arv [.ren [3] [0]] ⟨rfl, h⟩
    refine nN K (tn 22) ?_
    refine VW.cond (b := false) (by kernel_rfl) (fun h' => nomatch h') (fun _ => ?_)
    refine VW.skip ?_
    exact arv [.ren [3] [0]] ⟨rfl, h⟩
   refine VW.skip ?_
   exact arv [.ren [3] [0]] ⟨rfl, h⟩
  refine nN K (tn 3) ?_
  refine VW.cond (b := false) (by kernel_rfl) (fun h' => nomatch h') (fun _ => ?_)
  refine VW.skip ?_
  exact arv [.ren [3] [0]] ⟨rfl, h⟩
 rintro s ⟨rfl, h⟩
 unfold F3_j0 at h
 refine sq <| VW.region <| nG K 1 (tn 1) ?_
 obtain⟨y37,hy,h⟩:=aS h
 refine clc true [.t (.sl Y77)] [] (some 107) K (ok14 N _ hy) <| nN K (tn 1) <| sq <| VW.region <| nG K 1 (tn 1) ?_
 obtain⟨y38,hy,h⟩:=aS h
 refine clc false [.t .str] [] (some 110) K (ok15 N _ hy) <| nN K (tn 5) <| sq <| VW.region <| nG K 1 (tn 1) ?_
 obtain⟨y39,hy,h⟩:=aS h
 refine clc true [.t (.sl Y77)] [] (some 115) K (ok16 N _ hy) <| nN K (tn 5) <| sq <| VW.region <| nG K 1 (tn 1) ?_
 obtain⟨y40,hy,h⟩:=aS h
 refine clc true [.t (.sl (.int .u8))] [] (some 120) K (ok17 N _ hy) <| nN K (tn 5) <| sq <| sq <| VW.region <| nG K 1 (tn 1) ?_
 obtain⟨y42,hy,h⟩:=aS h
 refine clc true [.t (.sl Y77)] [] (some 124) K (ok18 N _ hy) <| nN K (tn 1) ?_
 refine cnd h ?_ ?_<;>intro h
 ·refine sq <| VW.region <| nG K 3 (tn 3) ?_
  refine spC 128 h ?_ ?_<;>intro h
  ·refine nN K (tn 4) ?_
   cases h; exact VW.ret (rt [])
  refine nN K (tn 4) ?_
  cases h; exact VW.ret (rt [])
 refine VW.skip <| sq <| VW.region <| nG K 2 (tn 2) ?_
 refine spC 133 h ?_ ?_<;>intro h
 ·refine nG K 3 (tn 3) ?_
  refine spC 136 h ?_ ?_<;>intro h
  ·refine sG K 3 [13, 14, 18, 139] [1, 3] ⟨[(13, S y37), (14, hh 0), (18, hh 1), (139, B y40.2)], [ar 0 Y77 y38.1 .dp, ar 0 Y77 y40.1 .dp]⟩ (tn 3) ?_
   refine spC 139 h ?_ ?_<;>intro h
   ·refine nG K 1 (tn 1) <| VO.on (j := 7) (want := true) (d := 139) (b := true) rfl rfl rfl (by kernel_rfl) rfl ?_
    obtain⟨y43,hy,h⟩:=aS h
    refine clc true [.t (.sl Y77)] [] (some 141) K (ok14 N _ hy) <| nG K 4 (tn 4) ?_
    refine spC 145 h ?_ ?_<;>intro h
    ·refine nG K 1 (tn 1) <| VO.on (j := 13) (want := true) (d := 145) (b := true) rfl rfl rfl (by kernel_rfl) rfl ?_
     obtain⟨y44,hy,h⟩:=aS h
     refine clc true [.t (.sl Y77)] [] (some 147) K (ok14 N _ hy) <| nN K (tn 4) ?_
     cases h; exact VW.ret (rt [])
    refine nN K (tn 6) ?_
    cases h; exact VW.ret (rt [])
   refine nN K (tn 12) ?_
   cases h; exact VW.ret (rt [])
  refine sN K [2] [] ⟨[(2, B false)], []⟩ (tn 15) ?_
  cases h; exact VW.ret (rt [])
 refine nN K (tn 18) ?_
 cases h; exact VW.ret (rt [])
end Go.Proofs.YtnkgeljjjeeaaaaGreatDoor.Vc
