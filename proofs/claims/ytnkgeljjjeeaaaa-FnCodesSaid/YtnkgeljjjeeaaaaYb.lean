/- What functions of the program compute, and that they do. -/
import Derived.Test.YtnkgeljjjeeaaaaYa
namespace Go.Proofs.Ytnkgeljjjeeaaaa.Vc
open Go Go.RowKit Go.Proofs.Try
set_option linter.unusedVariables false
set_option maxRecDepth 100000
set_option maxHeartbeats 4000000
def F7_j0 (N : Nat) (x27 : (List Int)) : Option ((List Int) × Bool) :=
  andO (F27 N x27) fun y28 => some (y28.1, y28.2)
def F7_l0_b (N : Nat) (a0 : (List Z44)) (nx46 : (List Int) → Int → Int → Option ((List Int) × Bool)) (x37 : (List Int)) (x38 : Int) (x39 : Int) : Option ((List Int) × Bool) :=
  cond (decide (x39 < x38)) (gd (InR x39 a0.length) (andO (F26 N (a0.getD x39.toNat (Ty.dflt Y44))) fun y51 => gd (x37.length + y51.length ≤ lim (.int .u8)) (nx46 (x37 ++ y51) x38 (IntKind.i64.wrap (x39 + (1 : Int)))))) (F7_j0 N x37)
def F7_l0 (N : Nat) (a0 : (List Z44)) := loopF (F7_l0_b N a0) (fun _ _ _ => none)
theorem F7_l0_s N a0 {k} (hk : 0 < k) x37 x38 x39 : F7_l0 N a0 k x37 x38 x39 = F7_l0_b N a0 (F7_l0 N a0 (k - 1)) x37 x38 x39 := by cases k;cases hk;rfl
def F7 (N : Nat) (a0 : (List Z44)) : Option ((List Int) × Bool) :=
  andO (F24 N a0) fun y2 => cond (!y2) (some ([], false)) (andO (F25 N (a0.length : Int)) fun y3 => F7_l0 N a0 N y3 (a0.length : Int) (0 : Int))
theorem ok7 N a0 {r} (h : F7 N a0 = some r) : Con prog 7 [Vv (.sl Y44) a0] [.lf (.own (.int .u8) r.1 .dp), .lf (.v .bool r.2)] := by
 refine ctr [.lf (.own (.int .u8) .dp), .lf (.v .bool)] K func7 rfl fun w0 E0 ht => ?_
 unfold F7 at h
 show VW _ _ _ _ _ (retQ _ _ _ _) _
 refine nR K (tn 2) <| sq <| sq <| VW.region <| nG K 1 (tn 1) ?_
 obtain⟨y2,hy,h⟩:=aS h
 refine clc false [.t (.sl Y44)] [] (some 8) K (ok24 N _ hy) <| nN K (tn 1) ?_
 refine cnd h ?_ ?_<;>intro h
 ·refine nR K (tn 2) ?_
  cases h; exact VW.ret (rt [none])
 refine VW.skip <| sq <| VW.region <| nG K 2 (tn 2) ?_
 obtain⟨y3,hy,h⟩:=aS h
 refine clc false [.t (.int .i64)] [] (some 12) K (ok25 N _ hy) <| nN K (tn 1) ?_
 refine VW.join (fun s => ∃ x27, s = ⟨[(4, hh 0)], [ar 0 (.int .u8) x27 .dp]⟩ ∧ F7_j0 N x27 = some r) ?_ ?_
 ·refine nR K (tn 3) <| VW.block <| lop (fun k s => ∃ x37 x38 x39, s = ⟨[(4, hh 0), (13, Vv (.sl Y44) a0), (14, I x38), (15, I x39)], [ar 0 (.int .u8) x37 .dp]⟩ ∧ F7_l0 N a0 k x37 x38 x39 = some r) N [.ren [4, 13, 14, 15] [0]] ⟨y3, (a0.length : Int), (0 : Int), rfl, h⟩ ?_
  rintro k46 s ⟨x37, x38, x39, rfl, h⟩
  cases k46 with
  | zero => cases show none = some r from h
  | succ k46 =>
   replace h : F7_l0_b N a0 (F7_l0 N a0 k46) x37 x38 x39 = some r := h
   unfold F7_l0_b at h
   refine nR K (tn 1) <| sq ?_
   refine cnd h ?_ ?_<;>intro h
   ·refine VW.skip <| sq <| VW.block ?_
    obtain⟨g50,h⟩:=gS h
    refine nR K (an g50 (tn 3)) <| VW.region <| nG K 2 (tn 2) ?_
    obtain⟨y51,hy,h⟩:=aS h
    refine clc false [.t Y44] [] (some 21) K (ok26 N _ hy) ?_
    obtain⟨g52,h⟩:=gS h
    refine nN K (an g52 (tn 1)) <| nE K (tn 2) ?_
    exact aro [.ren [4, 13, 14, 15] [0]] ⟨(x37 ++ y51), x38, (wr (x39 + (1 : Int))), rfl, h⟩
   refine VW.exit ?_
   exact arv [.ren [4] [0]] ⟨x37, rfl, h⟩
 rintro s ⟨x27, rfl, h⟩
 unfold F7_j0 at h
 refine sq <| VW.region <| nG K 1 (tn 1) ?_
 obtain⟨y28,hy,h⟩:=aS h
 refine clc true [.t (.sl (.int .u8))] [] (some 25) K (ok27 N _ hy) <| nN K (tn 4) ?_
 cases h; exact VW.ret (rt [some 1])
def F8_j0 (N : Nat) : Option (Bool) :=
  some true
def F8_l0_b (N : Nat) (a0 : (List Int)) (a1 : (List Int)) (nx25 : Int → Option (Bool)) (x20 : Int) : Option (Bool) :=
  cond (decide (x20 < (a0.length : Int))) (gd (InR x20 a0.length) (gd (InR x20 a1.length) (cond ((a0.getD x20.toNat (Ty.dflt (.int .u8))) != (a1.getD x20.toNat (Ty.dflt (.int .u8)))) (some false) (nx25 (IntKind.i64.wrap (x20 + (1 : Int))))))) (F8_j0 N)
def F8_l0 (N : Nat) (a0 : (List Int)) (a1 : (List Int)) := loopF (F8_l0_b N a0 a1) (fun _ => none)
theorem F8_l0_s N a0 a1 {k} (hk : 0 < k) x20 : F8_l0 N a0 a1 k x20 = F8_l0_b N a0 a1 (F8_l0 N a0 a1 (k - 1)) x20 := by cases k;cases hk;rfl
def F8 (N : Nat) (a0 : (List Int)) (a1 : (List Int)) : Option (Bool) :=
  cond ((a0.length : Int) != (a1.length : Int)) (some false) (F8_l0 N a0 a1 N (0 : Int))
theorem ok8 N a0 a1 {r} (h : F8 N a0 a1 = some r) : Con prog 8 [Vv (.sl (.int .u8)) a0, Vv (.sl (.int .u8)) a1] [.lf (.v .bool r)] := by
 refine ctr [.lf (.v .bool)] K func8 rfl fun w0 E0 ht => ?_
 unfold F8 at h
 show VW _ _ _ _ _ (retQ _ _ _ _) _
 refine nR K (tn 1) <| sq <| nR K (tn 5) ?_
 refine cnd h ?_ ?_<;>intro h
 ·refine nR K (tn 1) ?_
  cases h; exact VW.ret (rt [])
 refine VW.skip ?_
 refine VW.join (fun s => s = ⟨[], []⟩ ∧ F8_j0 N = some r) ?_ ?_
 ·refine nR K (tn 1) <| VW.block <| lop (fun k s => ∃ x20, s = ⟨[(0, Vv (.sl (.int .u8)) a0), (1, Vv (.sl (.int .u8)) a1), (5, I x20)], []⟩ ∧ F8_l0 N a0 a1 k x20 = some r) N [.ren [0, 1, 5] []] ⟨(0 : Int), rfl, h⟩ ?_
  rintro k25 s ⟨x20, rfl, h⟩
  cases k25 with
  | zero => cases show none = some r from h
  | succ k25 =>
   replace h : F8_l0_b N a0 a1 (F8_l0 N a0 a1 k25) x20 = some r := h
   unfold F8_l0_b at h
   refine sq <| nR K (tn 4) ?_
   refine cnd h ?_ ?_<;>intro h
   ·refine VW.skip <| sq <| VW.block <| sq ?_
    obtain⟨g28,h⟩:=gS h
    obtain⟨g29,h⟩:=gS h
    refine dr K [] [] [] [0, 1, 5, 25] [] (pu 2 (an g28 (pu 3 (an g29 (tn 2))))) trivial ?_
    refine cnd h ?_ ?_<;>intro h
    ·refine nR K (tn 1) ?_
     cases h; exact VW.ret (rt [])
    refine VW.skip <| nE K (tn 3) ?_
    exact aro [.ren [0, 1, 5] []] ⟨(wr (x20 + (1 : Int))), rfl, h⟩
   refine VW.exit ?_
   exact arv [.ren [] []] ⟨rfl, h⟩
 rintro s ⟨rfl, h⟩
 unfold F8_j0 at h
 refine nR K (tn 1) ?_
 cases h; exact VW.ret (rt [])
def F9 (N : Nat) (a0 : (List Z44)) : Option (Int) :=
  andO (F7 N a0) fun y1 => cond (!y1.2) (some (-1 : Int)) (andO (F28 N y1.1) fun y2 => some y2)
theorem ok9 N a0 {r} (h : F9 N a0 = some r) : Con prog 9 [Vv (.sl Y44) a0] [.lf (.v (.int .i64) r)] := by
 refine ctr [.lf (.v (.int .i64))] K func9 rfl fun w0 E0 ht => ?_
 unfold F9 at h
 show VW _ _ _ _ _ (retQ _ _ _ _) _
 refine nR K (tn 1) <| sq <| VW.region <| nG K 1 (tn 1) ?_
 obtain⟨y1,hy,h⟩:=aS h
 refine clc false [.t (.sl Y44)] [] (some 7) K (ok7 N _ hy) <| nN K (tn 5) <| sq <| nR K (tn 2) ?_
 refine cnd h ?_ ?_<;>intro h
 ·refine nR K (tn 1) ?_
  cases h; exact VW.ret (rt [])
 refine VW.skip <| sq <| VW.region <| nG K 1 (tn 1) ?_
 obtain⟨y2,hy,h⟩:=aS h
 refine clc true [.t (.sl (.int .u8))] [] (some 13) K (ok28 N _ hy) <| nN K (tn 1) ?_
 cases h; exact VW.ret (rt [])
def F10 (N : Nat) (a0 : (List Z44)) : Option (Int) :=
  andO (F6 N a0) fun y1 => cond (!y1.2) (some (-1 : Int)) (andO (F29 N y1.1) fun y2 => some y2)
theorem ok10 N a0 {r} (h : F10 N a0 = some r) : Con prog 10 [Vv (.sl Y44) a0] [.lf (.v (.int .i64) r)] := by
 refine ctr [.lf (.v (.int .i64))] K func10 rfl fun w0 E0 ht => ?_
 unfold F10 at h
 show VW _ _ _ _ _ (retQ _ _ _ _) _
 refine nR K (tn 1) <| sq <| VW.region <| nG K 1 (tn 1) ?_
 obtain⟨y1,hy,h⟩:=aS h
 refine clc false [.t (.sl Y44)] [] (some 7) K (ok6 N _ hy) <| nN K (tn 5) <| sq <| nR K (tn 2) ?_
 refine cnd h ?_ ?_<;>intro h
 ·refine nR K (tn 1) ?_
  cases h; exact VW.ret (rt [])
 refine VW.skip <| sq <| VW.region <| nG K 1 (tn 1) ?_
 obtain⟨y2,hy,h⟩:=aS h
 refine clc true [.t (.sl (.int .u8))] [] (some 13) K (ok29 N _ hy) <| nN K (tn 1) ?_
 cases h; exact VW.ret (rt [])
def F31_j0 (N : Nat) : Option (Int × Int) :=
  some ((0 : Int), (-1 : Int))
def F31_j1 (N : Nat) (x88 : Int) (x123 : Int) : Option (Int × Int) :=
  some (x123, (IntKind.i64.wrap (x88 + (1 : Int))))
def F31_j2 (N : Nat) (a0 : (List Int)) (a1 : Int) (x88 : Int) (x123 : Int) : Option (Int × Int) :=
  andO (F56 N x123) fun y127 => cond (!y127) (some ((0 : Int), (-1 : Int))) (gd (InR x88 a0.length) (cond ((a0.getD x88.toNat (Ty.dflt (.int .u8))) == (0 : Int)) (cond (decide (x88 > a1)) (some ((0 : Int), (-1 : Int))) (F31_j1 N x88 x123)) (F31_j1 N x88 x123)))
def F31_l0_b (N : Nat) (a0 : (List Int)) (a1 : Int) (nx109 : Int → Int → Int → Option (Int × Int)) (x86 : Int) (x87 : Int) (x88 : Int) : Option (Int × Int) :=
  cond (decide (x88 < (a0.length : Int))) (cond (decide (x88 < (IntKind.i64.wrap (a1 + (3 : Int))))) (gd (InR x88 a0.length) (gd (InR x88 a0.length) (cond (decide ((a0.getD x88.toNat (Ty.dflt (.int .u8))) ≥ (128 : Int))) (nx109 (IntKind.i64.wrap (x86 + (IntKind.i64.wrap ((IntKind.i64.wrap (Int.tmod (a0.getD x88.toNat (Ty.dflt (.int .u8))) (128 : Int))) * x87)))) (IntKind.i64.wrap (x87 * (128 : Int))) (IntKind.i64.wrap (x88 + (1 : Int)))) (cond ((Int.tmod (IntKind.i64.wrap (x86 + (IntKind.i64.wrap ((IntKind.i64.wrap (Int.tmod (a0.getD x88.toNat (Ty.dflt (.int .u8))) (128 : Int))) * x87)))) (2 : Int)) == (1 : Int)) (F31_j2 N a0 a1 x88 (IntKind.i64.wrap (Int.tdiv (IntKind.i64.wrap ((0 : Int) - (IntKind.i64.wrap ((IntKind.i64.wrap (x86 + (IntKind.i64.wrap ((IntKind.i64.wrap (Int.tmod (a0.getD x88.toNat (Ty.dflt (.int .u8))) (128 : Int))) * x87)))) + (1 : Int))))) (2 : Int)))) (F31_j2 N a0 a1 x88 (IntKind.i64.wrap (Int.tdiv (IntKind.i64.wrap (x86 + (IntKind.i64.wrap ((IntKind.i64.wrap (Int.tmod (a0.getD x88.toNat (Ty.dflt (.int .u8))) (128 : Int))) * x87)))) (2 : Int)))))))) (F31_j0 N)) (F31_j0 N)
def F31_l0 (N : Nat) (a0 : (List Int)) (a1 : Int) := loopF (F31_l0_b N a0 a1) (fun _ _ _ => none)
theorem F31_l0_s N a0 a1 {k} (hk : 0 < k) x86 x87 x88 : F31_l0 N a0 a1 k x86 x87 x88 = F31_l0_b N a0 a1 (F31_l0 N a0 a1 (k - 1)) x86 x87 x88 := by cases k;cases hk;rfl
def F31 (N : Nat) (a0 : (List Int)) (a1 : Int) : Option (Int × Int) :=
  cond (decide (a1 < (0 : Int))) (some ((0 : Int), (-1 : Int))) (F31_l0 N a0 a1 N (0 : Int) (1 : Int) a1)
theorem ok31 N a0 a1 {r} (h : F31 N a0 a1 = some r) : Con prog 31 [Vv (.sl (.int .u8)) a0, I a1] [.lf (.v (.int .i64) r.1), .lf (.v (.int .i64) r.2)] := by
 refine ctr [.lf (.v (.int .i64)), .lf (.v (.int .i64))] K func31 rfl fun w0 E0 ht => ?_
 unfold F31 at h
 show VW _ _ _ _ _ (retQ _ _ _ _) _
 refine nR K (tn 2) <| sq <| nR K (tn 2) ?_
 refine cnd h ?_ ?_<;>intro h
 ·refine nR K (tn 2) ?_
  cases h; exact VW.ret (rt [])
 refine VW.skip <| nR K (tn 2) ?_
 refine VW.join (fun s => s = ⟨[], []⟩ ∧ F31_j0 N = some r) ?_ ?_
 ·refine nR K (tn 2) <| VW.block <| lop (fun k s => ∃ x86 x87 x88, s = ⟨[(0, Vv (.sl (.int .u8)) a0), (1, I a1), (6, I x86), (7, I x87), (8, I x88)], []⟩ ∧ F31_l0 N a0 a1 k x86 x87 x88 = some r) N [.ren [0, 1, 6, 7, 8] []] ⟨(0 : Int), (1 : Int), a1, rfl, h⟩ ?_
  rintro k109 s ⟨x86, x87, x88, rfl, h⟩
  cases k109 with
  | zero => cases show none = some r from h
  | succ k109 =>
   replace h : F31_l0_b N a0 a1 (F31_l0 N a0 a1 k109) x86 x87 x88 = some r := h
   unfold F31_l0_b at h
   refine sq <| sq <| VW.region <| nG K 5 (tn 5) ?_
   refine spC 17 h ?_ ?_<;>intro h
   ·refine nN K (tn 5) ?_
    refine cnd h ?_ ?_<;>intro h
    ·refine VW.skip <| sq <| VW.block ?_
     obtain⟨g120,h⟩:=gS h
     refine nR K (pu 3 (an g120 (pu 1 (an (show ((128 : Int) ≠ 0) from by decide) (tn 5))))) <| nR K (tn 3) <| sq ?_
     obtain⟨g122,h⟩:=gS h
     refine nR K (pu 2 (an g122 (tn 2))) ?_
     refine cnd h ?_ ?_<;>intro h
     ·refine VW.exit <| nE K (tn 3) ?_
      exact aro [.ren [0, 1, 6, 7, 8] []] ⟨(wr (x86 + (wr ((wr (Int.tmod (a0.getD x88.toNat (Ty.dflt (.int .u8))) (128 : Int))) * x87)))), (wr (x87 * (128 : Int))), (wr (x88 + (1 : Int))), rfl, h⟩
     refine VW.skip <| nR K (pu 1 (an (show ((2 : Int) ≠ 0) from by decide) (tn 1))) ?_
     refine VW.join (fun s => ∃ x123, s = ⟨[(0, Vv (.sl (.int .u8)) a0), (1, I a1), (8, I x88), (9, I x123)], []⟩ ∧ F31_j2 N a0 a1 x88 x123 = some r) ?_ ?_
     ·refine nR K (pu 1 (an (show ((2 : Int) ≠ 0) from by decide) (tn 1))) ?_
      refine cnd h ?_ ?_<;>intro h
      ·refine nE K (pu 3 (an (show ((2 : Int) ≠ 0) from by decide) (tn 1))) ?_
       exact arv [.ren [0, 1, 8, 9] []] ⟨(wr (Int.tdiv (wr ((0 : Int) - (wr ((wr (x86 + (wr ((wr (Int.tmod (a0.getD x88.toNat (Ty.dflt (.int .u8))) (128 : Int))) * x87)))) + (1 : Int))))) (2 : Int))), rfl, h⟩
      refine VW.skip ?_
      exact arv [.ren [0, 1, 8, 9] []] ⟨(wr (Int.tdiv (wr (x86 + (wr ((wr (Int.tmod (a0.getD x88.toNat (Ty.dflt (.int .u8))) (128 : Int))) * x87)))) (2 : Int))), rfl, h⟩
     rintro s ⟨x123, rfl, h⟩
     unfold F31_j2 at h
     refine VW.join (fun s => s = ⟨[(8, I x88), (9, I x123)], []⟩ ∧ F31_j1 N x88 x123 = some r) ?_ ?_
     ·refine sq <| VW.region <| nG K 1 (tn 1) ?_
      obtain⟨y127,hy,h⟩:=aS h
      refine clc false [.t (.int .i64)] [] (some 52) K (ok56 N _ hy) <| nG K 2 (tn 2) ?_
      refine spC 54 h ?_ ?_<;>intro h
      ·refine nN K (tn 11) ?_
       refine VW.cond (b := true) (by kernel_rfl) (fun _ => ?_) (fun h' => nomatch h')
       refine nR K (tn 2) ?_
       cases h; exact VW.ret (rt [])
      obtain⟨g128,h⟩:=gS h
      refine nG K 6 (pu 2 (an g128 (tn 3))) ?_
      refine spC 60 h ?_ ?_<;>intro h
      ·refine nN K (tn 5) ?_
       refine cnd h ?_ ?_<;>intro h
       ·refine nR K (tn 2) ?_
        cases h; exact VW.ret (rt [])
       refine VW.skip ?_
       exact arv [.ren [8, 9] []] ⟨rfl, h⟩
      refine nN K (tn 5) ?_
      refine VW.cond (b := false) (by kernel_rfl) (fun h' => nomatch h') (fun _ => ?_)
      refine VW.skip ?_
      exact arv [.ren [8, 9] []] ⟨rfl, h⟩
     rintro s ⟨rfl, h⟩
     unfold F31_j1 at h
     refine nR K (tn 5) ?_
     cases h; exact VW.ret (rt [])
    refine VW.exit ?_
    exact arv [.ren [] []] ⟨rfl, h⟩
   refine nN K (tn 5) ?_
   refine VW.cond (b := false) (by kernel_rfl) (fun h' => nomatch h') (fun _ => ?_)
   refine VW.exit ?_
   exact arv [.ren [] []] ⟨rfl, h⟩
 rintro s ⟨rfl, h⟩
 unfold F31_j0 at h
 refine nR K (tn 2) ?_
 cases h; exact VW.ret (rt [])
def F64 (N : Nat) (a0 : (List Int)) (a1 : (List Int)) : Option (Bool) :=
  some ((strOfNums a0).toList == (strOfNums a1).toList)
theorem ok64 N a0 a1 {r} (h : F64 N a0 a1 = some r) : Con prog 64 [Vv (.sl (.int .u8)) a0, Vv (.sl (.int .u8)) a1] [.lf (.v .bool r)] := by
 refine ctr [.lf (.v .bool)] K func64 rfl fun w0 E0 ht => ?_
 unfold F64 at h
 show VW _ _ _ _ _ (retQ _ _ _ _) _
 refine nR K (tn 1) <| nR K (tn 6) ?_
 cases h; exact VW.ret (rt [])
def F62 (N : Nat) (a0 : (List Int)) (a1 : (List Int)) : Option (Bool) :=
  cond (decide ((a0.length : Int) ≥ (a1.length : Int))) (gd (0 ≤ (a1.length : Int) ∧ (a1.length : Int) ≤ (a0.length : Int)) (andO (F64 N (a0.take (a1.length : Int).toNat) a1) fun y2 => some y2)) (some false)
theorem ok62 N a0 a1 {r} (h : F62 N a0 a1 = some r) : Con prog 62 [Vv (.sl (.int .u8)) a0, Vv (.sl (.int .u8)) a1] [.lf (.v .bool r)] := by
 refine ctr [.lf (.v .bool)] K func62 rfl fun w0 E0 ht => ?_
 unfold F62 at h
 show VW _ _ _ _ _ (retQ _ _ _ _) _
 refine nR K (tn 1) <| sq <| VW.region <| nG K 6 (tn 6) ?_
 refine spC 10 h ?_ ?_<;>intro h
 ·obtain⟨g1,h⟩:=gS h
  refine nG K 5 (pu 3 (an g1 (tn 1))) <| VO.on (j := 5) (want := true) (d := 10) (b := true) rfl rfl rfl (by kernel_rfl) rfl ?_
  obtain⟨y2,hy,h⟩:=aS h
  refine clc false [.t (.sl (.int .u8)), .t (.sl (.int .u8))] [] (some 16) K (ok64 N _ _ hy) <| nN K (tn 2) ?_
  cases h; exact VW.ret (rt [])
 refine nN K (tn 8) ?_
 cases h; exact VW.ret (rt [])
def F63 (N : Nat) (a0 : (List Int)) : Option ((List Int)) :=
  gd (a0.length ≤ lim (.int .u8)) (some a0)
theorem ok63 N a0 {r} (h : F63 N a0 = some r) : Con prog 63 [Vv (.sl (.int .u8)) a0] [.lf (.own (.int .u8) r .dp)] := by
 refine ctr [.lf (.own (.int .u8) .dp)] K func63 rfl fun w0 E0 ht => ?_
 unfold F63 at h
 show VW _ _ _ _ _ (retQ _ _ _ _) _
 refine nR K (tn 1) <| sq <| sq <| VW.region <| nG K 1 (tn 1) ?_
 refine VO.isNil (d := 4) (e := (.int .u8)) (xs := a0) K rfl rfl rfl rfl (by kernel_rfl) (by kernel_rfl) (fun hx => ?_) ?_
 ·replace h : some ([]) = some r := by
   subst hx; first | exact h | exact (gd_some h).2
  refine nN K (tn 0) ?_
  refine VW.cond (b := true) (by kernel_rfl) (fun _ => ?_) (fun h' => nomatch h')
  refine nR K (tn 1) ?_
  cases h; exact VW.ret (rt [none])
 refine nN K (tn 0) ?_
 refine VW.cond (b := false) (by kernel_rfl) (fun h' => nomatch h') (fun _ => ?_)
 refine VW.skip ?_
 obtain⟨g1,h⟩:=gS h
 refine nR K (pu 2 (an g1 (tn 1))) ?_
 cases h; exact VW.ret (rt [some 0])
def F30 (N : Nat) (a0 : (List Int)) : Option ((List Int) × Bool) :=
  gd (0 < ([(80 : Int), (83 : Int)]).length) (andO (F62 N a0 ([(80 : Int), (83 : Int)])) fun y4 => cond (!y4) (some ([], false)) (andO (F31 N a0 (2 : Int)) fun y5 => cond (decide (y5.2 < (0 : Int))) (some ([], false)) (andO (F32 N y5.1 (0 : Int) (IntKind.i64.wrap ((a0.length : Int) - y5.2))) fun y7 => cond (!y7) (some ([], false)) (gd (0 ≤ y5.2 ∧ y5.2 ≤ (IntKind.i64.wrap (y5.2 + y5.1)) ∧ (IntKind.i64.wrap (y5.2 + y5.1)) ≤ (a0.length : Int)) (andO (F63 N ((a0.take (IntKind.i64.wrap (y5.2 + y5.1)).toNat).drop y5.2.toNat)) fun y9 => andO (F27 N y9) fun y12 => cond (!y12.2) (some ([], false)) (andO (F64 N y12.1 a0) fun y13 => cond (!y13) (some ([], false)) (some (y9, true))))))))
theorem ok30 N a0 {r} (h : F30 N a0 = some r) : Con prog 30 [Vv (.sl (.int .u8)) a0] [.lf (.own (.int .u8) r.1 .dp), .lf (.v .bool r.2)] := by
 refine ctr [.lf (.own (.int .u8) .dp), .lf (.v .bool)] K func30 rfl fun w0 E0 ht => ?_
 unfold F30 at h
 show VW _ _ _ _ _ (retQ _ _ _ _) _
 refine nR K (tn 2) <| sq <| sq <| VW.region <| nG K 2 (tn 2) ?_
 obtain⟨g3,h⟩:=gS h
 refine VO.mark (d := 11) (φ := 0 < ([(80 : Int), (83 : Int)]).length) (v := Vv (.sl (.int .u8)) ([(80 : Int), (83 : Int)])) (H' := [none]) K (by kernel_rfl) g3 ?_
 obtain⟨y4,hy,h⟩:=aS h
 refine clc false [.t (.sl (.int .u8)), .t (.sl (.int .u8))] [] (some 12) K (ok62 N _ _ hy) <| nN K (tn 1) ?_
 refine cnd h ?_ ?_<;>intro h
 ·refine nR K (tn 2) ?_
  cases h; exact VW.ret (rt [none])
 refine VW.skip <| sq <| VW.region <| nG K 1 (tn 1) ?_
 obtain⟨y5,hy,h⟩:=aS h
 refine clc false [.t (.sl (.int .u8)), .t (.int .i64)] [] (some 16) K (ok31 N _ _ hy) <| nN K (tn 5) <| sq <| sq <| VW.region <| nG K 3 (tn 3) ?_
 refine spC 21 h ?_ ?_<;>intro h
 ·refine nN K (tn 8) ?_
  refine VW.cond (b := true) (by kernel_rfl) (fun _ => ?_) (fun h' => nomatch h')
  refine nR K (tn 2) ?_
  cases h; exact VW.ret (rt [none])
 refine nG K 5 (tn 5) <| VO.on (j := 2) (want := false) (d := 21) (b := false) rfl rfl rfl (by kernel_rfl) rfl ?_
 obtain⟨y7,hy,h⟩:=aS h
 refine clc false [.t (.int .i64), .t (.int .i64), .t (.int .i64)] [] (some 27) K (ok32 N _ _ _ hy) <| nN K (tn 2) ?_
 refine cnd h ?_ ?_<;>intro h
 ·refine nR K (tn 2) ?_
  cases h; exact VW.ret (rt [none])
 refine VW.skip <| sq <| VW.region ?_
 obtain⟨g8,h⟩:=gS h
 refine nG K 6 (pu 5 (an g8 (tn 0))) ?_
 obtain⟨y9,hy,h⟩:=aS h
 refine clc false [.t (.sl (.int .u8))] [] (some 36) K (ok63 N _ hy) <| nN K (tn 1) <| sq <| sq <| VW.region <| nG K 1 (tn 1) ?_
 obtain⟨y12,hy,h⟩:=aS h
 refine clc true [.t (.sl (.int .u8))] [] (some 39) K (ok27 N _ hy) <| nN K (tn 5) <| sq <| VW.region <| nG K 3 (tn 3) ?_
 refine spC 44 h ?_ ?_<;>intro h
 ·refine nN K (tn 5) ?_
  refine VW.cond (b := true) (by kernel_rfl) (fun _ => ?_) (fun h' => nomatch h')
  refine sR K [2, 3] [] ⟨[(2, .lf (.nil)), (3, B false)], []⟩ (tn 2) ?_
  cases h; exact VW.ret (rt [none])
 refine nG K 2 (tn 2) <| VO.on (j := 2) (want := false) (d := 44) (b := false) rfl rfl rfl (by kernel_rfl) rfl ?_
 obtain⟨y13,hy,h⟩:=aS h
 refine clc true [.t (.sl (.int .u8)), .t (.sl (.int .u8))] [] (some 47) K (ok64 N _ _ hy) <| sN K [6, 49] [1] ⟨[(6, hh 0), (49, B (!y13))], [ar 0 (.int .u8) y9 .dp]⟩ (tn 2) ?_
 refine cnd h ?_ ?_<;>intro h
 ·refine nR K (tn 2) ?_
  cases h; exact VW.ret (rt [none])
 refine VW.skip <| nR K (tn 3) ?_
 cases h; exact VW.ret (rt [some 0])
def F65 (N : Nat) (a0 : (List Int)) (a1 : Int) : Option (ByteArray × Int) :=
  andO (F31 N a0 a1) fun y1 => cond (decide (y1.2 < (0 : Int))) (some (ByteArray.empty, (-1 : Int))) (andO (F32 N y1.1 (1 : Int) (IntKind.i64.wrap ((a0.length : Int) - y1.2))) fun y5 => cond (!y5) (some (ByteArray.empty, (-1 : Int))) (gd (0 ≤ y1.2 ∧ y1.2 ≤ (IntKind.i64.wrap (y1.2 + y1.1)) ∧ (IntKind.i64.wrap (y1.2 + y1.1)) ≤ (a0.length : Int)) (andO (F81 N (strOfNums ((a0.take (IntKind.i64.wrap (y1.2 + y1.1)).toNat).drop y1.2.toNat))) fun y7 => cond (!y7) (some (ByteArray.empty, (-1 : Int))) (gd (0 ≤ y1.2 ∧ y1.2 ≤ (IntKind.i64.wrap (y1.2 + y1.1)) ∧ (IntKind.i64.wrap (y1.2 + y1.1)) ≤ (a0.length : Int)) (some ((strOfNums ((a0.take (IntKind.i64.wrap (y1.2 + y1.1)).toNat).drop y1.2.toNat)), (IntKind.i64.wrap (y1.2 + y1.1))))))))
theorem ok65 N a0 a1 {r} (h : F65 N a0 a1 = some r) : Con prog 65 [Vv (.sl (.int .u8)) a0, I a1] [.lf (.v .str r.1), .lf (.v (.int .i64) r.2)] := by
 refine ctr [.lf (.v .str), .lf (.v (.int .i64))] K func65 rfl fun w0 E0 ht => ?_
 unfold F65 at h
 show VW _ _ _ _ _ (retQ _ _ _ _) _
 refine nR K (tn 2) <| sq <| VW.region <| nG K 2 (tn 2) ?_
 obtain⟨y1,hy,h⟩:=aS h
 refine clc false [.t (.sl (.int .u8)), .t (.int .i64)] [] (some 11) K (ok31 N _ _ hy) <| nN K (tn 5) <| sq <| sq <| VW.region <| nG K 3 (tn 3) ?_
 refine spC 16 h ?_ ?_<;>intro h
 ·refine nN K (tn 19) ?_
  refine VW.cond (b := true) (by kernel_rfl) (fun _ => ?_) (fun h' => nomatch h')
  refine nR K (tn 2) ?_
  cases h; exact VW.ret (rt [])
 refine nG K 5 (tn 5) <| VO.on (j := 2) (want := false) (d := 16) (b := false) rfl rfl rfl (by kernel_rfl) rfl ?_
 obtain⟨y5,hy,h⟩:=aS h
 refine clc false [.t (.int .i64), .t (.int .i64), .t (.int .i64)] [] (some 22) K (ok32 N _ _ _ hy) <| nG K 3 (tn 3) ?_
 refine spC 25 h ?_ ?_<;>intro h
 ·refine nN K (tn 10) ?_
  refine VW.cond (b := true) (by kernel_rfl) (fun _ => ?_) (fun h' => nomatch h')
  refine nR K (tn 2) ?_
  cases h; exact VW.ret (rt [])
 obtain⟨g6,h⟩:=gS h
 refine nG K 7 (pu 5 (an g6 (tn 1))) <| VO.on (j := 11) (want := false) (d := 25) (b := false) rfl rfl rfl (by kernel_rfl) rfl ?_
 obtain⟨y7,hy,h⟩:=aS h
 refine clc false [.t .str] [] (some 33) K (ok81 N _ hy) <| nN K (tn 2) ?_
 refine cnd h ?_ ?_<;>intro h
 ·refine nR K (tn 2) ?_
  cases h; exact VW.ret (rt [])
 refine VW.skip ?_
 obtain⟨g8,h⟩:=gS h
 refine nR K (pu 5 (an g8 (tn 6))) ?_
 cases h; exact VW.ret (rt [])
def F66_j0 (N : Nat) (x17 : Int) (x18 : (List Int)) : Option ((List Int) × Int) :=
  some (x18, x17)
def F66_l0_b (N : Nat) (a0 : (List Int)) (a2 : Int) (nx31 : Int → (List Int) → Int → Option ((List Int) × Int)) (x24 : Int) (x25 : (List Int)) (x26 : Int) : Option ((List Int) × Int) :=
  cond (decide (x26 < a2)) (andO (F31 N a0 x24) fun y34 => cond (decide (y34.2 < (0 : Int))) (some ([], (-1 : Int))) (gd (x25.length + ([y34.1]).length ≤ lim (.int .i64)) (nx31 y34.2 (x25 ++ ([y34.1])) (IntKind.i64.wrap (x26 + (1 : Int)))))) (F66_j0 N x24 x25)
def F66_l0 (N : Nat) (a0 : (List Int)) (a2 : Int) := loopF (F66_l0_b N a0 a2) (fun _ _ _ => none)
theorem F66_l0_s N a0 a2 {k} (hk : 0 < k) x24 x25 x26 : F66_l0 N a0 a2 k x24 x25 x26 = F66_l0_b N a0 a2 (F66_l0 N a0 a2 (k - 1)) x24 x25 x26 := by cases k;cases hk;rfl
def F66 (N : Nat) (a0 : (List Int)) (a1 : Int) (a2 : Int) : Option ((List Int) × Int) :=
  F66_l0 N a0 a2 N a1 ([]) (0 : Int)
theorem ok66 N a0 a1 a2 {r} (h : F66 N a0 a1 a2 = some r) : Con prog 66 [Vv (.sl (.int .u8)) a0, I a1, I a2] [.lf (.own (.int .i64) r.1 .dp), .lf (.v (.int .i64) r.2)] := by
 refine ctr [.lf (.own (.int .i64) .dp), .lf (.v (.int .i64))] K func66 rfl fun w0 E0 ht => ?_
 unfold F66 at h
 show VW _ _ _ _ _ (retQ _ _ _ _) _
 refine nR K (tn 2) <| nR K (tn 1) ?_
 refine VW.join (fun s => ∃ x17 x18, s = ⟨[(1, I x17), (8, hh 0)], [ar 0 (.int .i64) x18 .dp]⟩ ∧ F66_j0 N x17 x18 = some r) ?_ ?_
 ·refine nR K (tn 2) <| VW.block <| lop (fun k s => ∃ x24 x25 x26, s = ⟨[(0, Vv (.sl (.int .u8)) a0), (1, I x24), (8, hh 0), (11, I a2), (12, I x26)], [ar 0 (.int .i64) x25 .dp]⟩ ∧ F66_l0 N a0 a2 k x24 x25 x26 = some r) N [.nilS 8 (.int .i64) .dp, .ren [0, 1, 8, 11, 12] [0]] ⟨a1, [], (0 : Int), rfl, h⟩ ?_
  rintro k31 s ⟨x24, x25, x26, rfl, h⟩
  cases k31 with
  | zero => cases show none = some r from h
  | succ k31 =>
   replace h : F66_l0_b N a0 a2 (F66_l0 N a0 a2 k31) x24 x25 x26 = some r := h
   unfold F66_l0_b at h
   refine nR K (tn 1) <| sq ?_
   refine cnd h ?_ ?_<;>intro h
   ·refine VW.skip <| sq <| VW.block <| sq <| VW.region <| nG K 2 (tn 2) ?_
    obtain⟨y34,hy,h⟩:=aS h
    refine clc false [.t (.sl (.int .u8)), .t (.int .i64)] [] (some 17) K (ok31 N _ _ hy) <| nN K (tn 5) <| sq <| nR K (tn 2) ?_
    refine cnd h ?_ ?_<;>intro h
    ·refine nR K (tn 2) ?_
     cases h; exact VW.ret (rt [none])
    refine VW.skip ?_
    obtain⟨g35,h⟩:=gS h
    refine nR K (pu 3 (an g35 (tn 1))) <| nE K (tn 2) <| nE K (tn 2) ?_
    exact aro [.ren [0, 1, 8, 11, 12] [0]] ⟨y34.2, (x25 ++ ([y34.1])), (wr (x26 + (1 : Int))), rfl, h⟩
   refine VW.exit ?_
   exact arv [.ren [1, 8] [0]] ⟨x24, x25, rfl, h⟩
 rintro s ⟨x17, x18, rfl, h⟩
 unfold F66_j0 at h
 refine nR K (tn 4) ?_
 cases h; exact VW.ret (rt [some 0])
def F67_j0 (N : Nat) (x23 : Int) (x24 : (List Int)) : Option ((List Int) × Int) :=
  some (x24, x23)
def F67_l0_b (N : Nat) (a0 : (List Int)) (nx40 : Int → (List Int) → Int → Int → Option ((List Int) × Int)) (x32 : Int) (x33 : (List Int)) (x34 : Int) (x35 : Int) : Option ((List Int) × Int) :=
  cond (decide (x35 < x34)) (andO (F31 N a0 x32) fun y43 => cond (decide (y43.2 < (0 : Int))) (some ([], (-1 : Int))) (gd (x33.length + ([y43.1]).length ≤ lim (.int .i64)) (nx40 y43.2 (x33 ++ ([y43.1])) x34 (IntKind.i64.wrap (x35 + (1 : Int)))))) (F67_j0 N x32 x33)
def F67_l0 (N : Nat) (a0 : (List Int)) := loopF (F67_l0_b N a0) (fun _ _ _ _ => none)
theorem F67_l0_s N a0 {k} (hk : 0 < k) x32 x33 x34 x35 : F67_l0 N a0 k x32 x33 x34 x35 = F67_l0_b N a0 (F67_l0 N a0 (k - 1)) x32 x33 x34 x35 := by cases k;cases hk;rfl
def F67 (N : Nat) (a0 : (List Int)) (a1 : Int) : Option ((List Int) × Int) :=
  andO (F31 N a0 a1) fun y1 => cond (decide (y1.2 < (0 : Int))) (some ([], (-1 : Int))) (andO (F32 N y1.1 (0 : Int) (300 : Int)) fun y3 => cond (!y3) (some ([], (-1 : Int))) (F67_l0 N a0 N y1.2 ([]) y1.1 (0 : Int)))
theorem ok67 N a0 a1 {r} (h : F67 N a0 a1 = some r) : Con prog 67 [Vv (.sl (.int .u8)) a0, I a1] [.lf (.own (.int .i64) r.1 .dp), .lf (.v (.int .i64) r.2)] := by
 refine ctr [.lf (.own (.int .i64) .dp), .lf (.v (.int .i64))] K func67 rfl fun w0 E0 ht => ?_
 unfold F67 at h
 show VW _ _ _ _ _ (retQ _ _ _ _) _
 refine nR K (tn 2) <| sq <| VW.region <| nG K 2 (tn 2) ?_
 obtain⟨y1,hy,h⟩:=aS h
 refine clc false [.t (.sl (.int .u8)), .t (.int .i64)] [] (some 14) K (ok31 N _ _ hy) <| nN K (tn 5) <| sq <| sq <| VW.region <| nG K 3 (tn 3) ?_
 refine spC 19 h ?_ ?_<;>intro h
 ·refine nN K (tn 4) ?_
  refine VW.cond (b := true) (by kernel_rfl) (fun _ => ?_) (fun h' => nomatch h')
  refine nR K (tn 2) ?_
  cases h; exact VW.ret (rt [none])
 refine nG K 1 (tn 1) <| VO.on (j := 2) (want := false) (d := 19) (b := false) rfl rfl rfl (by kernel_rfl) rfl ?_
 obtain⟨y3,hy,h⟩:=aS h
 refine clc false [.t (.int .i64), .t (.int .i64), .t (.int .i64)] [] (some 21) K (ok32 N _ _ _ hy) <| nN K (tn 2) ?_
 refine cnd h ?_ ?_<;>intro h
 ·refine nR K (tn 2) ?_
  cases h; exact VW.ret (rt [none])
 refine VW.skip <| nR K (tn 1) ?_
 refine VW.join (fun s => ∃ x23 x24, s = ⟨[(7, I x23), (8, hh 0)], [ar 0 (.int .i64) x24 .dp]⟩ ∧ F67_j0 N x23 x24 = some r) ?_ ?_
 ·refine nR K (tn 2) <| VW.block <| lop (fun k s => ∃ x32 x33 x34 x35, s = ⟨[(0, Vv (.sl (.int .u8)) a0), (7, I x32), (8, hh 0), (24, I x34), (25, I x35)], [ar 0 (.int .i64) x33 .dp]⟩ ∧ F67_l0 N a0 k x32 x33 x34 x35 = some r) N [.nilS 8 (.int .i64) .dp, .ren [0, 7, 8, 24, 25] [0]] ⟨y1.2, [], y1.1, (0 : Int), rfl, h⟩ ?_
  rintro k40 s ⟨x32, x33, x34, x35, rfl, h⟩
  cases k40 with
  | zero => cases show none = some r from h
  | succ k40 =>
   replace h : F67_l0_b N a0 (F67_l0 N a0 k40) x32 x33 x34 x35 = some r := h
   unfold F67_l0_b at h
   refine nR K (tn 1) <| sq ?_
   refine cnd h ?_ ?_<;>intro h
   ·refine VW.skip <| sq <| VW.block <| sq <| VW.region <| nG K 2 (tn 2) ?_
    obtain⟨y43,hy,h⟩:=aS h
    refine clc false [.t (.sl (.int .u8)), .t (.int .i64)] [] (some 30) K (ok31 N _ _ hy) <| nN K (tn 5) <| sq <| nR K (tn 2) ?_
    refine cnd h ?_ ?_<;>intro h
    ·refine nR K (tn 2) ?_
     cases h; exact VW.ret (rt [none])
    refine VW.skip ?_
    obtain⟨g44,h⟩:=gS h
    refine nR K (pu 3 (an g44 (tn 1))) <| nE K (tn 2) <| nE K (tn 2) ?_
    exact aro [.ren [0, 7, 8, 24, 25] [0]] ⟨y43.2, (x33 ++ ([y43.1])), x34, (wr (x35 + (1 : Int))), rfl, h⟩
   refine VW.exit ?_
   exact arv [.ren [7, 8] [0]] ⟨x32, x33, rfl, h⟩
 rintro s ⟨x23, x24, rfl, h⟩
 unfold F67_j0 at h
 refine nR K (tn 4) ?_
 cases h; exact VW.ret (rt [some 0])
def F33_j0 (N : Nat) (x24 : Int) (x25 : Int) (x26 : ByteArray) (x27 : Int) (x28 : Int) (x29 : Int) (x30 : (List Int)) (x31 : Int) : Option (Z44 × Int) :=
  cond (decide (x24 < (0 : Int))) (some (((0 : Int), (ByteArray.empty, ((0 : Int), ((0 : Int), ((0 : Int), (false, [])))))), (-1 : Int))) (andO (F32 N x31 (0 : Int) (1 : Int)) fun y34 => cond (!y34) (some (((0 : Int), (ByteArray.empty, ((0 : Int), ((0 : Int), ((0 : Int), (false, [])))))), (-1 : Int))) (andO (F54 N (x25, (x26, (x27, (x28, (x29, ((x31 == (1 : Int)), x30))))))) fun y35 => cond (!y35) (some (((0 : Int), (ByteArray.empty, ((0 : Int), ((0 : Int), ((0 : Int), (false, [])))))), (-1 : Int))) (some ((x25, (x26, (x27, (x28, (x29, ((x31 == (1 : Int)), x30)))))), x24))))
def F33 (N : Nat) (a0 : (List Int)) (a1 : Int) : Option (Z44 × Int) :=
  andO (F31 N a0 a1) fun y1 => cond (decide (y1.2 < (0 : Int))) (some (((0 : Int), (ByteArray.empty, ((0 : Int), ((0 : Int), ((0 : Int), (false, [])))))), (-1 : Int))) (cond (y1.1 == (0 : Int)) (andO (F65 N a0 y1.2) fun y37 => F33_j0 N y37.2 y1.1 y37.1 (0 : Int) (0 : Int) (0 : Int) ([]) (0 : Int)) (cond (y1.1 == (1 : Int)) (andO (F66 N a0 y1.2 (4 : Int)) fun y38 => cond (decide (y38.2 ≥ (0 : Int))) (gd (InR (0 : Int) y38.1.length) (gd ((0 : Int).toNat < y38.1.length) (gd (InR (1 : Int) y38.1.length) (gd ((1 : Int).toNat < y38.1.length) (gd (InR (2 : Int) y38.1.length) (gd ((2 : Int).toNat < y38.1.length) (gd (InR (3 : Int) y38.1.length) (gd ((3 : Int).toNat < y38.1.length) (F33_j0 N y38.2 y1.1 ByteArray.empty (y38.1.getD ((0 : Int).toNat) (Ty.dflt (.int .i64))) (y38.1.getD ((1 : Int).toNat) (Ty.dflt (.int .i64))) (y38.1.getD ((3 : Int).toNat) (Ty.dflt (.int .i64))) ([]) (y38.1.getD ((2 : Int).toNat) (Ty.dflt (.int .i64)))))))))))) (F33_j0 N y38.2 y1.1 ByteArray.empty (0 : Int) (0 : Int) (0 : Int) ([]) (0 : Int))) (cond (y1.1 == (2 : Int)) (andO (F67 N a0 y1.2) fun y47 => F33_j0 N y47.2 y1.1 ByteArray.empty (0 : Int) (0 : Int) (0 : Int) y47.1 (0 : Int)) (cond (y1.1 == (3 : Int)) (andO (F66 N a0 y1.2 (2 : Int)) fun y48 => cond (decide (y48.2 ≥ (0 : Int))) (gd (InR (0 : Int) y48.1.length) (gd ((0 : Int).toNat < y48.1.length) (gd (InR (1 : Int) y48.1.length) (gd ((1 : Int).toNat < y48.1.length) (F33_j0 N y48.2 y1.1 ByteArray.empty (y48.1.getD ((0 : Int).toNat) (Ty.dflt (.int .i64))) (0 : Int) (y48.1.getD ((1 : Int).toNat) (Ty.dflt (.int .i64))) ([]) (0 : Int)))))) (F33_j0 N y48.2 y1.1 ByteArray.empty (0 : Int) (0 : Int) (0 : Int) ([]) (0 : Int))) (cond (y1.1 == (5 : Int)) (andO (F31 N a0 y1.2) fun y53 => F33_j0 N y53.2 y1.1 ByteArray.empty y53.1 (0 : Int) (0 : Int) ([]) (0 : Int)) (cond (y1.1 == (6 : Int)) (andO (F66 N a0 y1.2 (2 : Int)) fun y54 => cond (decide (y54.2 ≥ (0 : Int))) (gd (InR (0 : Int) y54.1.length) (gd ((0 : Int).toNat < y54.1.length) (gd (InR (1 : Int) y54.1.length) (gd ((1 : Int).toNat < y54.1.length) (F33_j0 N y54.2 y1.1 ByteArray.empty (0 : Int) (0 : Int) (y54.1.getD ((1 : Int).toNat) (Ty.dflt (.int .i64))) ([]) (y54.1.getD ((0 : Int).toNat) (Ty.dflt (.int .i64)))))))) (F33_j0 N y54.2 y1.1 ByteArray.empty (0 : Int) (0 : Int) (0 : Int) ([]) (0 : Int))) (F33_j0 N y1.2 y1.1 ByteArray.empty (0 : Int) (0 : Int) (0 : Int) ([]) (0 : Int))))))))
theorem ok33 N a0 a1 {r} (h : F33 N a0 a1 = some r) : Con prog 33 [Vv (.sl (.int .u8)) a0, I a1] [.agg [.v (.int .i64) r.1.1, .v .str r.1.2.1, .v (.int .i64) r.1.2.2.1, .v (.int .i64) r.1.2.2.2.1, .v (.int .i64) r.1.2.2.2.2.1, .v .bool r.1.2.2.2.2.2.1, .own (.int .i64) r.1.2.2.2.2.2.2 .dp], .lf (.v (.int .i64) r.2)] := by
 refine ctr [.agg [.v (.int .i64), .v .str, .v (.int .i64), .v (.int .i64), .v (.int .i64), .v .bool, .own (.int .i64) .dp], .lf (.v (.int .i64))] K func33 rfl fun w0 E0 ht => ?_
 unfold F33 at h
 show VW _ _ _ _ _ (retQ _ _ _ _) _
 refine nR K (tn 2) <| sq <| VW.region <| nG K 2 (tn 2) ?_
 obtain⟨y1,hy,h⟩:=aS h
 refine clc false [.t (.sl (.int .u8)), .t (.int .i64)] [] (some 14) K (ok31 N _ _ hy) <| nN K (tn 5) <| sq <| nR K (tn 2) ?_
 refine cnd h ?_ ?_<;>intro h
 ·refine nR K (tn 3) ?_
  cases h; exact VW.ret (rt [none])
 refine VW.skip <| nR K (tn 4) <| nR K (tn 1) <| nR K (tn 1) ?_
 refine VW.join (fun s => ∃ x24 x25 x26 x27 x28 x29 x30 x31, s = ⟨[(4, .lf (.ptr 0 0 0 0)), (7, I x24), (8, .lf (.ptr 1 0 0 0)), (10, I x31)], [bx [zi (0 : Int), zs ByteArray.empty, zi (0 : Int), zi (0 : Int), zi (0 : Int), zb false, .nil] 45, bx [zi x25, zs x26, zi x27, zi x28, zi x29, zb false, .hd 2 0 none] 45, ar 0 (.int .i64) x30 .dp]⟩ ∧ F33_j0 N x24 x25 x26 x27 x28 x29 x30 x31 = some r) ?_ ?_
 ·refine nR K (tn 1) <| VW.block <| nR K (tn 2) ?_
  refine cnd h ?_ ?_<;>intro h
  ·refine VW.region <| nG K 2 (tn 2) ?_
   obtain⟨y37,hy,h⟩:=aS h
   refine clc false [.t (.sl (.int .u8)), .t (.int .i64)] [] (some 28) K (ok65 N _ _ hy) <| nN K (tn 6) ?_
   exact arv [.nil 1 6 (.int .i64) .dp, .ren [4, 7, 8, 10] [0, 1, 2]] ⟨y37.2, y1.1, y37.1, (0 : Int), (0 : Int), (0 : Int), [], (0 : Int), rfl, h⟩
  refine nR K (tn 2) ?_
  refine cnd h ?_ ?_<;>intro h
  ·refine sq <| VW.region <| nG K 2 (tn 2) ?_
   obtain⟨y38,hy,h⟩:=aS h
   refine clc false [.t (.sl (.int .u8)), .t (.int .i64), .t (.int .i64)] [] (some 37) K (ok66 N _ _ _ hy) <| nN K (tn 5) <| sRh K [4, 7, 8, 9, 10, 41] [0, 1, 2] [(4, .lf (.ptr 0 0 0 0)), (7, I y38.2), (8, .lf (.ptr 1 0 0 0)), (9, hh 2), (10, I (0 : Int)), (41, B (decide (y38.2 ≥ (0 : Int))))] (tn 2) ?_
   refine cnd h ?_ ?_<;>intro h
   ·obtain⟨g39,h⟩:=gS h
    obtain⟨g40,h⟩:=gS h
    obtain⟨g41,h⟩:=gS h
    obtain⟨g42,h⟩:=gS h
    obtain⟨g43,h⟩:=gS h
    obtain⟨g44,h⟩:=gS h
    obtain⟨g45,h⟩:=gS h
    obtain⟨g46,h⟩:=gS h
    refine dr K [] [] [13, 15, 18] [4, 7, 8, 10] [0, 1] (pu 1 (an g39 (an g40 (pu 1 (an g41 (an g42 (pu 1 (an g43 (an g44 (pu 1 (an g45 (an g46 (tn 7))))))))))))) trivial ?_
    exact arv [.nil 1 6 (.int .i64) .dp, .ren [4, 7, 8, 10] [0, 1, 2]] ⟨y38.2, y1.1, ByteArray.empty, (y38.1.getD ((0 : Int).toNat) (Ty.dflt (.int .i64))), (y38.1.getD ((1 : Int).toNat) (Ty.dflt (.int .i64))), (y38.1.getD ((3 : Int).toNat) (Ty.dflt (.int .i64))), [], (y38.1.getD ((2 : Int).toNat) (Ty.dflt (.int .i64))), rfl, h⟩
   refine VW.skip ?_
   exact arv [.nil 1 6 (.int .i64) .dp, .ren [4, 7, 8, 10] [0, 1, 3]] ⟨y38.2, y1.1, ByteArray.empty, (0 : Int), (0 : Int), (0 : Int), [], (0 : Int), rfl, h⟩
  refine nR K (tn 2) ?_
  refine cnd h ?_ ?_<;>intro h
  ·refine VW.region <| nG K 2 (tn 2) ?_
   obtain⟨y47,hy,h⟩:=aS h
   refine clc false [.t (.sl (.int .u8)), .t (.int .i64)] [] (some 62) K (ok67 N _ _ hy) <| sN K [4, 7, 8, 10] [0, 1, 2] ⟨[(4, .lf (.ptr 0 0 0 0)), (7, I y47.2), (8, .lf (.ptr 1 0 0 0)), (10, I (0 : Int))], [bx [zi (0 : Int), zs ByteArray.empty, zi (0 : Int), zi (0 : Int), zi (0 : Int), zb false, .nil] 45, bx [zi y1.1, zs ByteArray.empty, zi (0 : Int), zi (0 : Int), zi (0 : Int), zb false, .hd 2 0 none] 45, ar 0 (.int .i64) y47.1 .dp]⟩ (tn 6) ?_
   exact arv [.ren [4, 7, 8, 10] [0, 1, 2]] ⟨y47.2, y1.1, ByteArray.empty, (0 : Int), (0 : Int), (0 : Int), y47.1, (0 : Int), rfl, h⟩
  refine nR K (tn 2) ?_
  refine cnd h ?_ ?_<;>intro h
  ·refine sq <| VW.region <| sGh K 2 [4, 8, 10, 69, 70] [0, 1] [(4, .lf (.ptr 0 0 0 0)), (8, .lf (.ptr 1 0 0 0)), (10, I (0 : Int)), (69, Vv (.sl (.int .u8)) a0), (70, I y1.2)] (tn 2) ?_
   obtain⟨y48,hy,h⟩:=aS h
   refine clc false [.t (.sl (.int .u8)), .t (.int .i64), .t (.int .i64)] [] (some 71) K (ok66 N _ _ _ hy) <| nN K (tn 5) <| nR K (tn 2) ?_
   refine cnd h ?_ ?_<;>intro h
   ·obtain⟨g49,h⟩:=gS h
    obtain⟨g50,h⟩:=gS h
    obtain⟨g51,h⟩:=gS h
    obtain⟨g52,h⟩:=gS h
    refine dr K [] [] [7, 9] [4, 7, 8, 10] [0, 1] (pu 1 (an g49 (an g50 (pu 1 (an g51 (an g52 (tn 4))))))) trivial ?_
    exact arv [.nil 1 6 (.int .i64) .dp, .ren [4, 7, 8, 10] [0, 1, 2]] ⟨y48.2, y1.1, ByteArray.empty, (y48.1.getD ((0 : Int).toNat) (Ty.dflt (.int .i64))), (0 : Int), (y48.1.getD ((1 : Int).toNat) (Ty.dflt (.int .i64))), [], (0 : Int), rfl, h⟩
   refine VW.skip ?_
   exact arv [.nil 1 6 (.int .i64) .dp, .ren [4, 7, 8, 10] [0, 1, 3]] ⟨y48.2, y1.1, ByteArray.empty, (0 : Int), (0 : Int), (0 : Int), [], (0 : Int), rfl, h⟩
  refine sRh K [0, 4, 7, 8, 10, 22, 84] [0, 1] [(0, Vv (.sl (.int .u8)) a0), (4, .lf (.ptr 0 0 0 0)), (7, I y1.2), (8, .lf (.ptr 1 0 0 0)), (10, I (0 : Int)), (22, I y1.1), (84, B (y1.1 == (5 : Int)))] (tn 2) ?_
  refine cnd h ?_ ?_<;>intro h
  ·refine VW.region <| nG K 2 (tn 2) ?_
   obtain⟨y53,hy,h⟩:=aS h
   refine clc false [.t (.sl (.int .u8)), .t (.int .i64)] [] (some 89) K (ok31 N _ _ hy) <| nN K (tn 6) ?_
   exact arv [.nil 1 6 (.int .i64) .dp, .ren [4, 7, 8, 10] [0, 1, 2]] ⟨y53.2, y1.1, ByteArray.empty, y53.1, (0 : Int), (0 : Int), [], (0 : Int), rfl, h⟩
  refine nR K (tn 2) ?_
  refine cnd h ?_ ?_<;>intro h
  ·refine sq <| VW.region <| nG K 2 (tn 2) ?_
   obtain⟨y54,hy,h⟩:=aS h
   refine clc false [.t (.sl (.int .u8)), .t (.int .i64), .t (.int .i64)] [] (some 98) K (ok66 N _ _ _ hy) <| nN K (tn 5) <| nR K (tn 2) ?_
   refine cnd h ?_ ?_<;>intro h
   ·obtain⟨g55,h⟩:=gS h
    obtain⟨g56,h⟩:=gS h
    obtain⟨g57,h⟩:=gS h
    obtain⟨g58,h⟩:=gS h
    refine dr K [] [] [8] [4, 7, 8, 10] [0, 1] (pu 1 (an g55 (an g56 (pu 1 (an g57 (an g58 (tn 3))))))) trivial ?_
    exact arv [.nil 1 6 (.int .i64) .dp, .ren [4, 7, 8, 10] [0, 1, 2]] ⟨y54.2, y1.1, ByteArray.empty, (0 : Int), (0 : Int), (y54.1.getD ((1 : Int).toNat) (Ty.dflt (.int .i64))), [], (y54.1.getD ((0 : Int).toNat) (Ty.dflt (.int .i64))), rfl, h⟩
   refine VW.skip ?_
   exact arv [.nil 1 6 (.int .i64) .dp, .ren [4, 7, 8, 10] [0, 1, 3]] ⟨y54.2, y1.1, ByteArray.empty, (0 : Int), (0 : Int), (0 : Int), [], (0 : Int), rfl, h⟩
  refine VW.skip ?_
  exact arv [.nil 1 6 (.int .i64) .dp, .ren [4, 7, 8, 10] [0, 1, 2]] ⟨y1.2, y1.1, ByteArray.empty, (0 : Int), (0 : Int), (0 : Int), [], (0 : Int), rfl, h⟩
 rintro s ⟨x24, x25, x26, x27, x28, x29, x30, x31, rfl, h⟩
 unfold F33_j0 at h
 refine nR K (tn 4) <| sq <| sq <| VW.region <| nG K 3 (tn 3) ?_
 refine spC 115 h ?_ ?_<;>intro h
 ·refine nN K (tn 9) ?_
  refine VW.cond (b := true) (by kernel_rfl) (fun _ => ?_) (fun h' => nomatch h')
  refine nR K (tn 3) ?_
  cases h; exact VW.ret (rt [none])
 refine nG K 1 (tn 1) <| VO.on (j := 2) (want := false) (d := 115) (b := false) rfl rfl rfl (by kernel_rfl) rfl ?_
 obtain⟨y34,hy,h⟩:=aS h
 refine clc false [.t (.int .i64), .t (.int .i64), .t (.int .i64)] [] (some 117) K (ok32 N _ _ _ hy) <| nG K 3 (tn 3) ?_
 refine spC 120 h ?_ ?_<;>intro h
 ·refine nN K (tn 4) ?_
  refine VW.cond (b := true) (by kernel_rfl) (fun _ => ?_) (fun h' => nomatch h')
  refine nR K (tn 3) ?_
  cases h; exact VW.ret (rt [none])
 refine nG K 1 (tn 1) <| VO.on (j := 7) (want := false) (d := 120) (b := false) rfl rfl rfl (by kernel_rfl) rfl ?_
 obtain⟨y35,hy,h⟩:=aS h
 refine clc true [.t Y44] [] (some 122) K (ok54 N _ hy) <| nN K (tn 2) ?_
 refine cnd h ?_ ?_<;>intro h
 ·refine nR K (tn 3) ?_
  cases h; exact VW.ret (rt [none])
 refine VW.skip <| nR K (tn 4) ?_
 cases h; exact VW.ret (rt [some 2])
def F11_j0 (N : Nat) (x26 : (List Int)) (x27 : Int) (x28 : (List Z44)) : Option ((List Z44) × Int) :=
  cond (decide (x27 < (x26.length : Int))) (some ([], (4 : Int))) (andO (F24 N x28) fun y30 => cond (!y30) (some ([], (3 : Int))) (some (x28, (0 : Int))))
def F11_l0_b (N : Nat) (nx48 : (List Int) → Int → (List Z44) → Int → Int → Option ((List Z44) × Int)) (x39 : (List Int)) (x40 : Int) (x41 : (List Z44)) (x42 : Int) (x43 : Int) : Option ((List Z44) × Int) :=
  cond (decide (x43 < x42)) (andO (F33 N x39 x40) fun y51 => cond (decide (y51.2 < (0 : Int))) (some ([], (2 : Int))) (gd (x41.length + ([y51.1]).length ≤ lim Y44) (nx48 x39 y51.2 (x41 ++ ([y51.1])) x42 (IntKind.i64.wrap (x43 + (1 : Int)))))) (F11_j0 N x39 x40 x41)
def F11_l0 (N : Nat) := loopF (F11_l0_b N) (fun _ _ _ _ _ => none)
theorem F11_l0_s N {k} (hk : 0 < k) x39 x40 x41 x42 x43 : F11_l0 N k x39 x40 x41 x42 x43 = F11_l0_b N (F11_l0 N (k - 1)) x39 x40 x41 x42 x43 := by cases k;cases hk;rfl
def F11 (N : Nat) (a0 : (List Int)) : Option ((List Z44) × Int) :=
  andO (F30 N a0) fun y1 => cond (!y1.2) (some ([], (1 : Int))) (andO (F31 N y1.1 (0 : Int)) fun y2 => cond (decide (y2.2 < (0 : Int))) (some ([], (2 : Int))) (andO (F32 N y2.1 (0 : Int) (40 : Int)) fun y4 => cond (!y4) (some ([], (2 : Int))) (F11_l0 N N y1.1 y2.2 ([]) y2.1 (0 : Int))))
theorem ok11 N a0 {r} (h : F11 N a0 = some r) : Con prog 11 [Vv (.sl (.int .u8)) a0] [.lf (.own Y44 r.1 .dp), .lf (.v (.int .i64) r.2)] := by
 refine ctr [.lf (.own Y44 .dp), .lf (.v (.int .i64))] K func11 rfl fun w0 E0 ht => ?_
 unfold F11 at h
 show VW _ _ _ _ _ (retQ _ _ _ _) _
 refine nR K (tn 2) <| sq <| VW.region <| nG K 1 (tn 1) ?_
 obtain⟨y1,hy,h⟩:=aS h
 refine clc false [.t (.sl (.int .u8))] [] (some 13) K (ok30 N _ hy) <| nN K (tn 5) <| sq <| nR K (tn 2) ?_
 refine cnd h ?_ ?_<;>intro h
 ·refine nR K (tn 2) ?_
  cases h; exact VW.ret (rt [none])
 refine VW.skip <| sq <| VW.region <| nG K 1 (tn 1) ?_
 obtain⟨y2,hy,h⟩:=aS h
 refine clc true [.t (.sl (.int .u8)), .t (.int .i64)] [] (some 20) K (ok31 N _ _ hy) <| nN K (tn 5) <| sq <| sq <| VW.region <| nG K 3 (tn 3) ?_
 refine spC 25 h ?_ ?_<;>intro h
 ·refine nN K (tn 4) ?_
  refine VW.cond (b := true) (by kernel_rfl) (fun _ => ?_) (fun h' => nomatch h')
  refine nR K (tn 2) ?_
  cases h; exact VW.ret (rt [none])
 refine nG K 1 (tn 1) <| VO.on (j := 2) (want := false) (d := 25) (b := false) rfl rfl rfl (by kernel_rfl) rfl ?_
 obtain⟨y4,hy,h⟩:=aS h
 refine clc false [.t (.int .i64), .t (.int .i64), .t (.int .i64)] [] (some 27) K (ok32 N _ _ _ hy) <| nN K (tn 2) ?_
 refine cnd h ?_ ?_<;>intro h
 ·refine nR K (tn 2) ?_
  cases h; exact VW.ret (rt [none])
 refine VW.skip <| nR K (tn 1) ?_
 refine VW.join (fun s => ∃ x26 x27 x28, s = ⟨[(4, hh 0), (7, I x27), (8, hh 1)], [ar 0 (.int .u8) x26 .dp, ar 0 Y44 x28 .dp]⟩ ∧ F11_j0 N x26 x27 x28 = some r) ?_ ?_
 ·refine nR K (tn 2) <| VW.block <| lop (fun k s => ∃ x39 x40 x41 x42 x43, s = ⟨[(4, hh 0), (7, I x40), (8, hh 1), (30, I x42), (31, I x43)], [ar 0 (.int .u8) x39 .dp, ar 0 Y44 x41 .dp]⟩ ∧ F11_l0 N k x39 x40 x41 x42 x43 = some r) N [.nilS 8 Y44 .dp, .ren [4, 7, 8, 30, 31] [0, 1]] ⟨y1.1, y2.2, [], y2.1, (0 : Int), rfl, h⟩ ?_
  rintro k48 s ⟨x39, x40, x41, x42, x43, rfl, h⟩
  cases k48 with
  | zero => cases show none = some r from h
  | succ k48 =>
   replace h : F11_l0_b N (F11_l0 N k48) x39 x40 x41 x42 x43 = some r := h
   unfold F11_l0_b at h
   refine nR K (tn 1) <| sq ?_
   refine cnd h ?_ ?_<;>intro h
   ·refine VW.skip <| sq <| VW.block <| sq <| VW.region <| nG K 2 (tn 2) ?_
    obtain⟨y51,hy,h⟩:=aS h
    refine clc true [.t (.sl (.int .u8)), .t (.int .i64)] [] (some 36) K (ok33 N _ _ hy) <| nN K (tn 6) <| sq <| nR K (tn 2) ?_
    refine cnd h ?_ ?_<;>intro h
    ·refine nR K (tn 2) ?_
     cases h; exact VW.ret (rt [none])
    refine VW.skip <| sq <| VW.region <| nG K 2 (tn 2) <| VO.litA (d := 43) (v := hh 4) (H' := [ar 0 (.int .u8) x39 .dp, ar 0 Y44 x41 .dp, none, bx [zi y51.1.1, zs y51.1.2.1, zi y51.1.2.2.1, zi y51.1.2.2.2.1, zi y51.1.2.2.2.2.1, zb y51.1.2.2.2.2.2.1, .hd 2 0 none] 45, ar 0 Y44 ([y51.1]) .dp]) K (by kernel_rfl) ?_
    obtain⟨g52,h⟩:=gS h
    refine VO.appM (d := 44) (φ := x41.length + ([y51.1]).length ≤ lim Y44) (v := .lf (.hd 1 1 none)) (H' := [ar 0 (.int .u8) x39 .dp, ar 1 Y44 (x41 ++ ([y51.1])) .dp, none, bx [zi y51.1.1, zs y51.1.2.1, zi y51.1.2.2.1, zi y51.1.2.2.2.1, zi y51.1.2.2.2.2.1, zb y51.1.2.2.2.2.2.1, .hd 2 0 none] 45, none]) K (by kernel_rfl) g52 <| nN K (tn 1) <| nE K (tn 2) <| nE K (tn 2) ?_
    exact aro [.ren [4, 7, 8, 30, 31] [0, 1]] ⟨x39, y51.2, (x41 ++ ([y51.1])), x42, (wr (x43 + (1 : Int))), rfl, h⟩
   refine VW.exit ?_
   exact arv [.ren [4, 7, 8] [0, 1]] ⟨x39, x40, x41, rfl, h⟩
 rintro s ⟨x26, x27, x28, rfl, h⟩
 unfold F11_j0 at h
 refine sq <| nR K (tn 4) ?_
 refine cnd h ?_ ?_<;>intro h
 ·refine nR K (tn 2) ?_
  cases h; exact VW.ret (rt [none])
 refine VW.skip <| sq <| sq <| VW.region <| nG K 1 (tn 1) ?_
 obtain⟨y30,hy,h⟩:=aS h
 refine clc true [.t (.sl Y44)] [] (some 52) K (ok24 N _ hy) <| nN K (tn 1) ?_
 refine cnd h ?_ ?_<;>intro h
 ·refine nR K (tn 2) ?_
  cases h; exact VW.ret (rt [none])
 refine VW.skip <| nR K (tn 3) ?_
 cases h; exact VW.ret (rt [some 1])
def F12 (N : Nat) (a0 : (List Int)) (a1 : Int) : Option (Int) :=
  cond (decide (a1 < (a0.length : Int))) (gd (InR a1 a0.length) (some (IntKind.i64.wrap (a0.getD a1.toNat (Ty.dflt (.int .u8)))))) (some (Int.tmod (IntKind.i64.wrap ((IntKind.i64.wrap (a1 * (13 : Int))) + (IntKind.i64.wrap ((a0.length : Int) * (5 : Int))))) (256 : Int)))
theorem ok12 N a0 a1 {r} (h : F12 N a0 a1 = some r) : Con prog 12 [Vv (.sl (.int .u8)) a0, I a1] [.lf (.v (.int .i64) r)] := by
 refine ctr [.lf (.v (.int .i64))] K func12 rfl fun w0 E0 ht => ?_
 unfold F12 at h
 show VW _ _ _ _ _ (retQ _ _ _ _) _
 refine nR K (tn 1) <| sq <| nR K (tn 4) ?_
 refine cnd h ?_ ?_<;>intro h
 ·obtain⟨g2,h⟩:=gS h
  refine nR K (pu 2 (an g2 (tn 3))) ?_
  cases h; exact VW.ret (rt [])
 refine VW.skip <| nR K (pu 6 (an (show ((256 : Int) ≠ 0) from by decide) (tn 1))) ?_
 cases h; exact VW.ret (rt [])
def F34_j0 (N : Nat) : Option (Bool) :=
  some true
def F34_l0_b (N : Nat) (a0 : (List Z44)) (a1 : (List Z44)) (p2 : Z44 → Z44 → Option (Bool)) (nx39 : Int → Int → Option (Bool)) (x31 : Int) (x32 : Int) : Option (Bool) :=
  cond (decide (x32 < x31)) (gd (InR x32 a0.length) (gd (InR x32 a1.length) (andO (p2 (a0.getD x32.toNat (Ty.dflt Y44)) (a1.getD x32.toNat (Ty.dflt Y44))) fun y45 => cond (!y45) (some false) (nx39 x31 (IntKind.i64.wrap (x32 + (1 : Int))))))) (F34_j0 N)
def F34_l0 (N : Nat) (a0 : (List Z44)) (a1 : (List Z44)) (p2 : Z44 → Z44 → Option (Bool)) := loopF (F34_l0_b N a0 a1 p2) (fun _ _ => none)
theorem F34_l0_s N a0 a1 (p2 : Z44 → Z44 → Option (Bool)) {k} (hk : 0 < k) x31 x32 : F34_l0 N a0 a1 p2 k x31 x32 = F34_l0_b N a0 a1 p2 (F34_l0 N a0 a1 p2 (k - 1)) x31 x32 := by cases k;cases hk;rfl
def F34 (N : Nat) (a0 : (List Z44)) (a1 : (List Z44)) (p2 : Z44 → Z44 → Option (Bool)) : Option (Bool) :=
  cond ((a0.length : Int) != (a1.length : Int)) (some false) (F34_l0 N a0 a1 p2 N (a0.length : Int) (0 : Int))
theorem ok34 N a0 a1 (g2 : FuncId) (p2 : Z44 → Z44 → Option (Bool)) (hp2 : ∀ (z0 : Z44) (z1 : Z44) (r : Bool), p2 z0 z1 = some r → Con prog g2 [.agg (lv Y44 z0), .agg (lv Y44 z1)] [.lf (.v .bool r)]) {r} (h : F34 N a0 a1 p2 = some r) : Con prog 34 [Vv (.sl Y44) a0, Vv (.sl Y44) a1, .clo g2 []] [.lf (.v .bool r)] := by
 refine ctr [.lf (.v .bool)] K func34 rfl fun w0 E0 ht => ?_
 unfold F34 at h
 show VW _ _ _ _ _ (retQ _ _ _ _) _
 refine nR K (tn 1) <| sq <| nR K (tn 5) ?_
 refine cnd h ?_ ?_<;>intro h
 ·refine nR K (tn 1) ?_
  cases h; exact VW.ret (rt [])
 refine VW.skip ?_
 refine VW.join (fun s => s = ⟨[], []⟩ ∧ F34_j0 N = some r) ?_ ?_
 ·refine nR K (tn 3) <| VW.block <| lop (fun k s => ∃ x31 x32, s = ⟨[(1, Vv (.sl Y44) a1), (2, .clo g2 []), (15, Vv (.sl Y44) a0), (16, I x31), (17, I x32)], []⟩ ∧ F34_l0 N a0 a1 p2 k x31 x32 = some r) N [.ren [1, 2, 15, 16, 17] []] ⟨(a0.length : Int), (0 : Int), rfl, h⟩ ?_
  rintro k39 s ⟨x31, x32, rfl, h⟩
  cases k39 with
  | zero => cases show none = some r from h
  | succ k39 =>
   replace h : F34_l0_b N a0 a1 p2 (F34_l0 N a0 a1 p2 k39) x31 x32 = some r := h
   unfold F34_l0_b at h
   refine nR K (tn 1) <| sq ?_
   refine cnd h ?_ ?_<;>intro h
   ·refine VW.skip <| sq <| VW.block ?_
    obtain⟨g43,h⟩:=gS h
    refine nR K (pu 1 (an g43 (tn 4))) ?_
    obtain⟨g44,h⟩:=gS h
    refine nR K (pu 2 (an g44 (tn 3))) <| sq <| VW.region <| nG K 3 (tn 3) ?_
    obtain⟨y45,hy,h⟩:=aS h
    refine clc false [.t Y44, .t Y44] [] (some 29) K (hp2 _ _ _ hy) <| nN K (tn 1) ?_
    refine cnd h ?_ ?_<;>intro h
    ·refine nR K (tn 1) ?_
     cases h; exact VW.ret (rt [])
    refine VW.skip <| nE K (tn 2) ?_
    exact aro [.ren [1, 2, 15, 16, 17] []] ⟨x31, (wr (x32 + (1 : Int))), rfl, h⟩
   refine VW.exit ?_
   exact arv [.ren [] []] ⟨rfl, h⟩
 rintro s ⟨rfl, h⟩
 unfold F34_j0 at h
 refine nR K (tn 1) ?_
 cases h; exact VW.ret (rt [])
def F13 (N : Nat) (a0 : (List Z44)) (a1 : (List Z44)) : Option (Bool) :=
  andO (F34 N a0 a1 (fun z0 z1 => F35 N z0 z1)) fun y1 => some y1
theorem ok13 N a0 a1 {r} (h : F13 N a0 a1 = some r) : Con prog 13 [Vv (.sl Y44) a0, Vv (.sl Y44) a1] [.lf (.v .bool r)] := by
 refine ctr [.lf (.v .bool)] K func13 rfl fun w0 E0 ht => ?_
 unfold F13 at h
 show VW _ _ _ _ _ (retQ _ _ _ _) _
 refine nR K (tn 1) <| sq <| VW.region <| nG K 2 (tn 2) ?_
 obtain⟨y1,hy,h⟩:=aS h
 refine clc false [.t (.sl Y44), .t (.sl Y44), .clo []] [] (some 7) K (ok34 N _ _ 35  (fun z0 z1 => F35 N z0 z1 ) (fun z0 z1 _ hz => ok35 N z0 z1 hz) hy) <| nN K (tn 1) ?_
 cases h; exact VW.ret (rt [])
def F37_j0 (N : Nat) (x11 : (List Int)) (x12 : (List Int)) (x13 : Int) (x14 : Int) : Option (Z58 × (List Int)) :=
  some ((x12, (x13, x14)), x11)
def F37 (N : Nat) (a0 : Z58) (a1 : (List Int)) : Option (Z58 × (List Int)) :=
  andO (F36 N a0 (3 : Int)) fun y16 => cond y16.2 (cond (decide ((a1.length : Int) > (0 : Int))) (andO (F69 N y16.1 (3 : Int)) fun y17 => cond (y17.2 == (0 : Int)) (andO (F69 N y17.1 (a1.length : Int)) fun y18 => gd (0 ≤ y18.2 ∧ y18.2 ≤ (a1.length : Int)) (F37_j0 N (a1.take y18.2.toNat) y18.1.1 y18.1.2.1 y18.1.2.2)) (cond (y17.2 == (1 : Int)) (andO (F69 N y17.1 (a1.length : Int)) fun y20 => andO (F69 N y20.1 (256 : Int)) fun y21 => gd (InR y20.2 a1.length) (gd (y20.2.toNat < a1.length) (F37_j0 N (a1.set y20.2.toNat (IntKind.u8.wrap y21.2)) y21.1.1 y21.1.2.1 y21.1.2.2))) (cond (y17.2 == (2 : Int)) (andO (F69 N y17.1 (256 : Int)) fun y24 => gd (a1.length + ([(IntKind.u8.wrap y24.2)]).length ≤ lim (.int .u8)) (F37_j0 N (a1 ++ ([(IntKind.u8.wrap y24.2)])) y24.1.1 y24.1.2.1 y24.1.2.2)) (F37_j0 N a1 y17.1.1 y17.1.2.1 y17.1.2.2)))) (F37_j0 N a1 y16.1.1 y16.1.2.1 y16.1.2.2)) (F37_j0 N a1 y16.1.1 y16.1.2.1 y16.1.2.2)
theorem ok37 N a0 a1 {r} (h : F37 N a0 a1 = some r) : ConM prog 37 [bx (lv Y58 a0) 59, ar 0 (.int .u8) a1 .dp] [.lf (.ptr 0 0 0 0), hh 1] [.lf (.own (.int .u8) r.2 .dp)] [bx (lv Y58 r.1) 59, none] := by
 refine ⟨enters_of func37 rfl (by decide), HM.intro [.lf (.own (.int .u8) .dp)] K func37 rfl (Nat.le_of_ble_eq_true rfl) (Nat.le_of_ble_eq_true rfl) fun w0 E0 ht => ?_⟩
 unfold F37 at h
 show VW _ _ _ _ _ (retM _ _ _ _ _) _
 refine nR K (tn 1) ?_
 refine VW.join (fun s => ∃ x11 x12 x13 x14, s = ⟨[(1, hh 0), (65536, .lf (.ptr 1 0 0 0))], [ar 0 (.int .u8) x11 .dp, bx [.v (.sl (.int .u8)) x12, zi x13, zi x14] 59]⟩ ∧ F37_j0 N x11 x12 x13 x14 = some r) ?_ ?_
 ·refine sq <| VW.region <| nG K 1 (tn 1) ?_
  obtain⟨y16,hy,h⟩:=aS h
  refine VO.callM [0] [.r, .t (.int .i64)] (d := some 6) (by kernel_rfl) (by kernel_rfl) (ok36 N _ _ hy) (by kernel_rfl) <| nG K 1 (tn 1) ?_
  refine spC 7 h ?_ ?_<;>intro h
  ·refine nN K (tn 4) ?_
   refine cnd h ?_ ?_<;>intro h
   ·refine sq <| VW.region <| nG K 1 (tn 1) ?_
    obtain⟨y17,hy,h⟩:=aS h
    refine VO.callM [0] [.r, .t (.int .i64)] (d := some 13) (by kernel_rfl) (by kernel_rfl) (ok69 N _ _ hy) (by kernel_rfl) <| nN K (tn 0) <| VW.block <| nR K (tn 2) ?_
    refine cnd h ?_ ?_<;>intro h
    ·refine VW.region <| nG K 4 (tn 4) ?_
     obtain⟨y18,hy,h⟩:=aS h
     refine VO.callM [0] [.r, .t (.int .i64)] (d := some 20) (by kernel_rfl) (by kernel_rfl) (ok69 N _ _ hy) (by kernel_rfl) ?_
     obtain⟨g19,h⟩:=gS h
     refine nN K (an g19 (tn 1)) ?_
     exact arv [.shr 1, .ren [1, 65536] [1, 0]] ⟨(a1.take y18.2.toNat), y18.1.1, y18.1.2.1, y18.1.2.2, rfl, h⟩
    refine nR K (tn 2) ?_
    refine cnd h ?_ ?_<;>intro h
    ·refine VW.region <| nG K 4 (tn 4) ?_
     obtain⟨y20,hy,h⟩:=aS h
     refine VO.callM [0] [.r, .t (.int .i64)] (d := some 28) (by kernel_rfl) (by kernel_rfl) (ok69 N _ _ hy) (by kernel_rfl) <| nG K 1 (tn 1) ?_
     obtain⟨y21,hy,h⟩:=aS h
     refine VO.callM [0] [.r, .t (.int .i64)] (d := some 30) (by kernel_rfl) (by kernel_rfl) (ok69 N _ _ hy) (by kernel_rfl) ?_
     obtain⟨g22,h⟩:=gS h
     obtain⟨g23,h⟩:=gS h
     refine nN K (pu 1 (an g22 (an g23 (tn 0)))) ?_
     exact arv [.ren [1, 65536] [1, 0]] ⟨(a1.set y20.2.toNat (IntKind.u8.wrap y21.2)), y21.1.1, y21.1.2.1, y21.1.2.2, rfl, h⟩
    refine nR K (tn 2) ?_
    refine cnd h ?_ ?_<;>intro h
    ·refine VW.region <| nG K 2 (tn 2) ?_
     obtain⟨y24,hy,h⟩:=aS h
     refine VO.callM [0] [.r, .t (.int .i64)] (d := some 37) (by kernel_rfl) (by kernel_rfl) (ok69 N _ _ hy) (by kernel_rfl) ?_
     obtain⟨g25,h⟩:=gS h
     refine nN K (pu 2 (an g25 (tn 1))) ?_
     exact arv [.ren [1, 65536] [1, 0]] ⟨(a1 ++ ([(IntKind.u8.wrap y24.2)])), y24.1.1, y24.1.2.1, y24.1.2.2, rfl, h⟩
    refine VW.skip ?_
    exact arv [.ren [1, 65536] [1, 0]] ⟨a1, y17.1.1, y17.1.2.1, y17.1.2.2, rfl, h⟩
   refine VW.skip ?_
   exact arv [.ren [1, 65536] [1, 0]] ⟨a1, y16.1.1, y16.1.2.1, y16.1.2.2, rfl, h⟩
  refine nN K (tn 4) ?_
  refine VW.cond (b := false) (by kernel_rfl) (fun h' => nomatch h') (fun _ => ?_)
  refine VW.skip ?_
  exact arv [.ren [1, 65536] [1, 0]] ⟨a1, y16.1.1, y16.1.2.1, y16.1.2.2, rfl, h⟩
 rintro s ⟨x11, x12, x13, x14, rfl, h⟩
 unfold F37_j0 at h
 refine nR K (tn 2) ?_
 replace h := Option.some.inj h
 subst h
 refine VW.ghl [.ren [4, 65536] [1, 100001, 0]] (VW.ret ?_)
 exact ⟨[some 2], by kernel_rfl, by kernel_rfl, by kernel_rfl⟩
def F14_j0 (N : Nat) (x161 : (List Int)) (x162 : Int) (x163 : Int) (x164 : (List Int)) : Option ((List Int)) :=
  andO (F37 N (x161, (x162, x163)) x164) fun y165 => some y165.2
def F14_j1 (N : Nat) (x203 : (List Int)) (x204 : Int) (x205 : Int) (x206 : (List Int)) : Option ((List Int)) :=
  andO (F37 N (x203, (x204, x205)) x206) fun y207 => andO (F23 N y207.2) fun y208 => F14_j0 N y207.1.1 y207.1.2.1 y207.1.2.2 y208.1
def F14_l0_b (N : Nat) (nx236 : (List Int) → Int → Int → (List Z44) → (List Int) → Int → Option ((List Int))) (x222 : (List Int)) (x223 : Int) (x224 : Int) (x225 : (List Z44)) (x226 : (List Int)) (x227 : Int) : Option ((List Int)) :=
  cond (decide (x227 < (x225.length : Int))) (gd (InR x227 x225.length) (gd (x227.toNat < x225.length) (andO (F22 N (x225.getD x227.toNat (Ty.dflt Y44))) fun y243 => andO (F21 N x226 y243) fun y244 => nx236 x222 x223 x224 x225 y244 (IntKind.i64.wrap (x227 + (1 : Int)))))) (F14_j1 N x222 x223 x224 x226)
def F14_l0 (N : Nat) := loopF (F14_l0_b N) (fun _ _ _ _ _ _ => none)
theorem F14_l0_s N {k} (hk : 0 < k) x222 x223 x224 x225 x226 x227 : F14_l0 N k x222 x223 x224 x225 x226 x227 = F14_l0_b N (F14_l0 N (k - 1)) x222 x223 x224 x225 x226 x227 := by cases k;cases hk;rfl
def F14_j2 (N : Nat) (x282 : (List Int)) (x283 : Int) (x284 : Int) (x285 : (List Int)) : Option ((List Int)) :=
  andO (F37 N (x282, (x283, x284)) x285) fun y286 => andO (F23 N y286.2) fun y287 => F14_j0 N y286.1.1 y286.1.2.1 y286.1.2.2 y287.1
def F14_l1_b (N : Nat) (nx315 : (List Int) → Int → Int → (List Z44) → (List Int) → Int → Option ((List Int))) (x301 : (List Int)) (x302 : Int) (x303 : Int) (x304 : (List Z44)) (x305 : (List Int)) (x306 : Int) : Option ((List Int)) :=
  cond (decide (x306 < (x304.length : Int))) (gd (InR x306 x304.length) (gd (x306.toNat < x304.length) (andO (F22 N (x304.getD x306.toNat (Ty.dflt Y44))) fun y322 => andO (F21 N x305 y322) fun y323 => nx315 x301 x302 x303 x304 y323 (IntKind.i64.wrap (x306 + (1 : Int)))))) (F14_j2 N x301 x302 x303 x305)
def F14_l1 (N : Nat) := loopF (F14_l1_b N) (fun _ _ _ _ _ _ => none)
theorem F14_l1_s N {k} (hk : 0 < k) x301 x302 x303 x304 x305 x306 : F14_l1 N k x301 x302 x303 x304 x305 x306 = F14_l1_b N (F14_l1 N (k - 1)) x301 x302 x303 x304 x305 x306 := by cases k;cases hk;rfl
def F14 (N : Nat) (a0 : (List Int)) : Option ((List Int)) :=
  andO (F18 N a0) fun y1 => andO (F17 N y1 a0) fun y2 => andO (F6 N y2.2) fun y3 => cond (!y3.2) (andO (F20 N (y2.2.length : Int)) fun y167 => F14_l0 N N y2.1.1 y2.1.2.1 y2.1.2.2 y2.2 y167 (0 : Int)) (andO (F36 N y2.1 (4 : Int)) fun y245 => cond y245.2 (andO (F20 N (y2.2.length : Int)) fun y246 => F14_l1 N N y245.1.1 y245.1.2.1 y245.1.2.2 y2.2 y246 (0 : Int)) (F14_j0 N y245.1.1 y245.1.2.1 y245.1.2.2 y3.1))
theorem ok14 N a0 {r} (h : F14 N a0 = some r) : Con prog 14 [Vv (.sl (.int .u8)) a0] [.lf (.own (.int .u8) r .dp)] := by
 refine ctr [.lf (.own (.int .u8) .dp)] K func14 rfl fun w0 E0 ht => ?_
 unfold F14 at h
 show VW _ _ _ _ _ (retQ _ _ _ _) _
 refine nR K (tn 1) <| sq <| VW.region <| nG K 1 (tn 1) ?_
 obtain⟨y1,hy,h⟩:=aS h
 refine VO.callB [.t (.sl (.int .u8))] (d := 10) (by kernel_rfl) (ok18 N _ hy) <| nN K (tn 1) <| sq <| VW.region <| nG K 2 (tn 2) ?_
 obtain⟨y2,hy,h⟩:=aS h
 refine VO.callM [0] [.r, .t (.sl (.int .u8))] (d := some 13) (by kernel_rfl) (by kernel_rfl) (ok17 N _ _ hy) (by kernel_rfl) <| nN K (tn 1) <| sq <| VW.region <| nG K 1 (tn 1) ?_
 obtain⟨y3,hy,h⟩:=aS h
 refine clc true [.t (.sl Y44)] [] (some 16) K (ok6 N _ hy) <| nN K (tn 5) ?_
 refine VW.join (fun s => ∃ x161 x162 x163 x164, s = ⟨[(3, .lf (.ptr 0 0 0 0)), (5, hh 1)], [bx [.v (.sl (.int .u8)) x161, zi x162, zi x163] 59, ar 0 (.int .u8) x164 .dp]⟩ ∧ F14_j0 N x161 x162 x163 x164 = some r) ?_ ?_
 ·refine sq <| VW.region <| nG K 3 (tn 3) ?_
  refine spC 21 h ?_ ?_<;>intro h
  ·refine nN K (tn 3) ?_
   refine VW.cond (b := true) (by kernel_rfl) (fun _ => ?_) (fun h' => nomatch h')
   refine sq <| VW.region <| nG K 2 (tn 2) ?_
   obtain⟨y167,hy,h⟩:=aS h
   refine clc false [.t (.int .i64)] [] (some 27) K (ok20 N _ hy) <| nN K (tn 1) ?_
   refine VW.join (fun s => ∃ x203 x204 x205 x206, s = ⟨[(3, .lf (.ptr 0 0 0 0)), (7, hh 1)], [bx [.v (.sl (.int .u8)) x203, zi x204, zi x205] 59, ar 0 (.int .u8) x206 .dp]⟩ ∧ F14_j1 N x203 x204 x205 x206 = some r) ?_ ?_
   ·refine nR K (tn 1) <| VW.block <| lop (fun k s => ∃ x222 x223 x224 x225 x226 x227, s = ⟨[(3, .lf (.ptr 0 0 0 0)), (4, hh 1), (7, hh 2), (8, I x227)], [bx [.v (.sl (.int .u8)) x222, zi x223, zi x224] 59, ar 0 Y44 x225 .tp, ar 0 (.int .u8) x226 .dp]⟩ ∧ F14_l0 N k x222 x223 x224 x225 x226 x227 = some r) N [.ren [3, 4, 7, 8] [0, 1, 3]] ⟨y2.1.1, y2.1.2.1, y2.1.2.2, y2.2, y167, (0 : Int), rfl, h⟩ ?_
    rintro k236 s ⟨x222, x223, x224, x225, x226, x227, rfl, h⟩
    cases k236 with
    | zero => cases show none = some r from h
    | succ k236 =>
     replace h : F14_l0_b N (F14_l0 N k236) x222 x223 x224 x225 x226 x227 = some r := h
     unfold F14_l0_b at h
     refine sq <| nR K (tn 4) ?_
     refine cnd h ?_ ?_<;>intro h
     ·refine VW.skip <| sq <| VW.block <| VW.region ?_
      obtain⟨g241,h⟩:=gS h
      obtain⟨g242,h⟩:=gS h
      refine nG K 5 (pu 3 (an g241 (an g242 (tn 0)))) ?_
      obtain⟨y243,hy,h⟩:=aS h
      refine clc false [.t Y44] [] (some 39) K (ok22 N _ hy) ?_
      obtain⟨y244,hy,h⟩:=aS h
      refine clc true [.t (.sl (.int .u8)), .t (.sl (.int .u8))] [] (some 40) K (ok21 N _ _ hy) <| nN K (tn 1) <| nE K (tn 3) ?_
      exact aro [.ren [3, 4, 7, 8] [0, 1, 3]] ⟨x222, x223, x224, x225, y244, (wr (x227 + (1 : Int))), rfl, h⟩
     refine VW.exit ?_
     exact arv [.ren [3, 7] [0, 2]] ⟨x222, x223, x224, x226, rfl, h⟩
   rintro s ⟨x203, x204, x205, x206, rfl, h⟩
   unfold F14_j1 at h
   refine VW.region <| nG K 2 (tn 2) ?_
   obtain⟨y207,hy,h⟩:=aS h
   refine VO.callM [0, 1] [.r, .t (.sl (.int .u8))] (d := some 44) (by kernel_rfl) (by kernel_rfl) (ok37 N _ _ hy) (by kernel_rfl) ?_
   obtain⟨y208,hy,h⟩:=aS h
   refine clc true [.t (.sl (.int .u8))] [] (some 45) K (ok23 N _ hy) <| nN K (tn 4) ?_
   exact arv [.ren [3, 5] [0, 3]] ⟨y207.1.1, y207.1.2.1, y207.1.2.2, y208.1, rfl, h⟩
  refine nG K 1 (tn 1) <| VO.on (j := 2) (want := false) (d := 21) (b := false) rfl rfl rfl (by kernel_rfl) rfl ?_
  obtain⟨y245,hy,h⟩:=aS h
  refine VO.callM [0] [.r, .t (.int .i64)] (d := some 23) (by kernel_rfl) (by kernel_rfl) (ok36 N _ _ hy) (by kernel_rfl) <| nN K (tn 1) ?_
  refine cnd h ?_ ?_<;>intro h
  ·refine sq <| VW.region <| nG K 2 (tn 2) ?_
   obtain⟨y246,hy,h⟩:=aS h
   refine clc false [.t (.int .i64)] [] (some 27) K (ok20 N _ hy) <| nN K (tn 1) ?_
   refine VW.join (fun s => ∃ x282 x283 x284 x285, s = ⟨[(3, .lf (.ptr 0 0 0 0)), (7, hh 1)], [bx [.v (.sl (.int .u8)) x282, zi x283, zi x284] 59, ar 0 (.int .u8) x285 .dp]⟩ ∧ F14_j2 N x282 x283 x284 x285 = some r) ?_ ?_
   ·refine nR K (tn 1) <| VW.block <| lop (fun k s => ∃ x301 x302 x303 x304 x305 x306, s = ⟨[(3, .lf (.ptr 0 0 0 0)), (4, hh 1), (7, hh 2), (8, I x306)], [bx [.v (.sl (.int .u8)) x301, zi x302, zi x303] 59, ar 0 Y44 x304 .tp, ar 0 (.int .u8) x305 .dp]⟩ ∧ F14_l1 N k x301 x302 x303 x304 x305 x306 = some r) N [.ren [3, 4, 7, 8] [0, 1, 3]] ⟨y245.1.1, y245.1.2.1, y245.1.2.2, y2.2, y246, (0 : Int), rfl, h⟩ ?_
    rintro k315 s ⟨x301, x302, x303, x304, x305, x306, rfl, h⟩
    cases k315 with
    | zero => cases show none = some r from h
    | succ k315 =>
     replace h : F14_l1_b N (F14_l1 N k315) x301 x302 x303 x304 x305 x306 = some r := h
     unfold F14_l1_b at h
     refine sq <| nR K (tn 4) ?_
     refine cnd h ?_ ?_<;>intro h
     ·refine VW.skip <| sq <| VW.block <| VW.region ?_
      obtain⟨g320,h⟩:=gS h
      obtain⟨g321,h⟩:=gS h
      refine nG K 5 (pu 3 (an g320 (an g321 (tn 0)))) ?_
      obtain⟨y322,hy,h⟩:=aS h
      refine clc false [.t Y44] [] (some 39) K (ok22 N _ hy) ?_
      obtain⟨y323,hy,h⟩:=aS h
      refine clc true [.t (.sl (.int .u8)), .t (.sl (.int .u8))] [] (some 40) K (ok21 N _ _ hy) <| nN K (tn 1) <| nE K (tn 3) ?_
      exact aro [.ren [3, 4, 7, 8] [0, 1, 3]] ⟨x301, x302, x303, x304, y323, (wr (x306 + (1 : Int))), rfl, h⟩
     refine VW.exit ?_
     exact arv [.ren [3, 7] [0, 2]] ⟨x301, x302, x303, x305, rfl, h⟩
   rintro s ⟨x282, x283, x284, x285, rfl, h⟩
   unfold F14_j2 at h
   refine VW.region <| nG K 2 (tn 2) ?_
   obtain⟨y286,hy,h⟩:=aS h
   refine VO.callM [0, 1] [.r, .t (.sl (.int .u8))] (d := some 44) (by kernel_rfl) (by kernel_rfl) (ok37 N _ _ hy) (by kernel_rfl) ?_
   obtain⟨y287,hy,h⟩:=aS h
   refine clc true [.t (.sl (.int .u8))] [] (some 45) K (ok23 N _ hy) <| nN K (tn 4) ?_
   exact arv [.ren [3, 5] [0, 3]] ⟨y286.1.1, y286.1.2.1, y286.1.2.2, y287.1, rfl, h⟩
  refine VW.skip ?_
  exact arv [.ren [3, 5] [0, 2]] ⟨y245.1.1, y245.1.2.1, y245.1.2.2, y3.1, rfl, h⟩
 rintro s ⟨x161, x162, x163, x164, rfl, h⟩
 unfold F14_j0 at h
 refine sq <| VW.region <| nG K 2 (tn 2) ?_
 obtain⟨y165,hy,h⟩:=aS h
 refine VO.callM [0, 1] [.r, .t (.sl (.int .u8))] (d := some 50) (by kernel_rfl) (by kernel_rfl) (ok37 N _ _ hy) (by kernel_rfl) <| nN K (tn 1) ?_
 cases h; exact VW.ret (rt [some 2])
def F15_j0 (N : Nat) (x17 : (List Int)) : Option ((List Int)) :=
  some x17
def F15_l0_b (N : Nat) (a0 : (List Int)) (nx30 : (List Int) → Int → Option ((List Int))) (x24 : (List Int)) (x25 : Int) : Option ((List Int)) :=
  cond (decide (x25 < (a0.length : Int))) (cond (decide (x25 < (3000 : Int))) (gd (InR x25 a0.length) (gd (x24.length + ([(a0.getD x25.toNat (Ty.dflt (.int .u8)))]).length ≤ lim (.int .u8)) (nx30 (x24 ++ ([(a0.getD x25.toNat (Ty.dflt (.int .u8)))])) (IntKind.i64.wrap (x25 + (1 : Int)))))) (F15_j0 N x24)) (F15_j0 N x24)
def F15_l0 (N : Nat) (a0 : (List Int)) := loopF (F15_l0_b N a0) (fun _ _ => none)
theorem F15_l0_s N a0 {k} (hk : 0 < k) x24 x25 : F15_l0 N a0 k x24 x25 = F15_l0_b N a0 (F15_l0 N a0 (k - 1)) x24 x25 := by cases k;cases hk;rfl
def F15 (N : Nat) (a0 : (List Int)) (a1 : Int) : Option ((List Int)) :=
  F15_l0 N a0 N ([(IntKind.u8.wrap a1)]) (0 : Int)
theorem ok15 N a0 a1 {r} (h : F15 N a0 a1 = some r) : Con prog 15 [Vv (.sl (.int .u8)) a0, I a1] [.lf (.own (.int .u8) r .dp)] := by
 refine ctr [.lf (.own (.int .u8) .dp)] K func15 rfl fun w0 E0 ht => ?_
 unfold F15 at h
 show VW _ _ _ _ _ (retQ _ _ _ _) _
 refine nR K (tn 1) <| nR K (tn 4) ?_
 refine VW.join (fun s => ∃ x17, s = ⟨[(5, hh 0)], [ar 0 (.int .u8) x17 .dp]⟩ ∧ F15_j0 N x17 = some r) ?_ ?_
 ·refine nR K (tn 1) <| VW.block <| lop (fun k s => ∃ x24 x25, s = ⟨[(0, Vv (.sl (.int .u8)) a0), (5, hh 0), (6, I x25)], [ar 0 (.int .u8) x24 .dp]⟩ ∧ F15_l0 N a0 k x24 x25 = some r) N [.ren [0, 5, 6] [0]] ⟨[(IntKind.u8.wrap a1)], (0 : Int), rfl, h⟩ ?_
  rintro k30 s ⟨x24, x25, rfl, h⟩
  cases k30 with
  | zero => cases show none = some r from h
  | succ k30 =>
   replace h : F15_l0_b N a0 (F15_l0 N a0 k30) x24 x25 = some r := h
   unfold F15_l0_b at h
   refine sq <| sq <| VW.region <| nG K 5 (tn 5) ?_
   refine spC 14 h ?_ ?_<;>intro h
   ·refine nN K (tn 3) ?_
    refine cnd h ?_ ?_<;>intro h
    ·refine VW.skip <| sq <| VW.block ?_
     obtain⟨g33,h⟩:=gS h
     obtain⟨g34,h⟩:=gS h
     refine nE K (pu 3 (an g33 (pu 2 (an g34 (tn 1))))) <| nE K (tn 3) ?_
     exact aro [.ren [0, 5, 6] [0]] ⟨(x24 ++ ([(a0.getD x25.toNat (Ty.dflt (.int .u8)))])), (wr (x25 + (1 : Int))), rfl, h⟩
    refine VW.exit ?_
    exact arv [.ren [5] [0]] ⟨x24, rfl, h⟩
   refine nN K (tn 3) ?_
   refine VW.cond (b := false) (by kernel_rfl) (fun h' => nomatch h') (fun _ => ?_)
   refine VW.exit ?_
   exact arv [.ren [5] [0]] ⟨x24, rfl, h⟩
 rintro s ⟨x17, rfl, h⟩
 unfold F15_j0 at h
 refine nR K (tn 2) ?_
 cases h; exact VW.ret (rt [some 0])
def F39_j0 (N : Nat) : Option (Int × Int) :=
  some ((0 : Int), (-1 : Int))
def F39_j1 (N : Nat) (a1 : Int) (x86 : Int) (x121 : Int) : Option (Int × Int) :=
  some (x121, (IntKind.i64.wrap ((IntKind.i64.wrap (a1 + x86)) + (1 : Int))))
def F39_j2 (N : Nat) (a1 : Int) (x86 : Int) (x120 : Int) (x121 : Int) : Option (Int × Int) :=
  cond (x120 == (0 : Int)) (cond (decide (x86 > (0 : Int))) (some ((0 : Int), (-1 : Int))) (andO (F46 N x121) fun y125 => cond (!y125) (some ((0 : Int), (-1 : Int))) (F39_j1 N a1 x86 x121))) (andO (F46 N x121) fun y126 => cond (!y126) (some ((0 : Int), (-1 : Int))) (F39_j1 N a1 x86 x121))
def F39_l0_b (N : Nat) (a0 : (List Int)) (a1 : Int) (nx107 : Int → Int → Option (Int × Int)) (x85 : Int) (x86 : Int) : Option (Int × Int) :=
  cond (decide (x86 < (4 : Int))) (cond (decide (a1 < (0 : Int))) (some ((0 : Int), (-1 : Int))) (cond (decide (a1 ≥ (IntKind.i64.wrap ((a0.length : Int) - x86)))) (some ((0 : Int), (-1 : Int))) (gd (InR (IntKind.i64.wrap (a1 + x86)) a0.length) (gd (0 ≤ (IntKind.u64.wrap (IntKind.i64.wrap ((7 : Int) * x86)))) (cond (decide ((IntKind.i64.wrap (a0.getD (IntKind.i64.wrap (a1 + x86)).toNat (Ty.dflt (.int .u8)))) ≥ (128 : Int))) (nx107 (IntKind.i64.wrap (x85 + (IntKind.i64.wrap ((Int.tmod (IntKind.i64.wrap (a0.getD (IntKind.i64.wrap (a1 + x86)).toNat (Ty.dflt (.int .u8)))) (128 : Int)) * 2 ^ (min (IntKind.u64.wrap (IntKind.i64.wrap ((7 : Int) * x86))).toNat IntKind.i64.bits))))) (IntKind.i64.wrap (x86 + (1 : Int)))) (cond ((Int.tmod (IntKind.i64.wrap (x85 + (IntKind.i64.wrap ((Int.tmod (IntKind.i64.wrap (a0.getD (IntKind.i64.wrap (a1 + x86)).toNat (Ty.dflt (.int .u8)))) (128 : Int)) * 2 ^ (min (IntKind.u64.wrap (IntKind.i64.wrap ((7 : Int) * x86))).toNat IntKind.i64.bits))))) (2 : Int)) == (1 : Int)) (F39_j2 N a1 x86 (IntKind.i64.wrap (a0.getD (IntKind.i64.wrap (a1 + x86)).toNat (Ty.dflt (.int .u8)))) (IntKind.i64.wrap (Int.tdiv (IntKind.i64.wrap ((0 : Int) - (IntKind.i64.wrap ((IntKind.i64.wrap (x85 + (IntKind.i64.wrap ((Int.tmod (IntKind.i64.wrap (a0.getD (IntKind.i64.wrap (a1 + x86)).toNat (Ty.dflt (.int .u8)))) (128 : Int)) * 2 ^ (min (IntKind.u64.wrap (IntKind.i64.wrap ((7 : Int) * x86))).toNat IntKind.i64.bits))))) + (1 : Int))))) (2 : Int)))) (F39_j2 N a1 x86 (IntKind.i64.wrap (a0.getD (IntKind.i64.wrap (a1 + x86)).toNat (Ty.dflt (.int .u8)))) (IntKind.i64.wrap (Int.tdiv (IntKind.i64.wrap (x85 + (IntKind.i64.wrap ((Int.tmod (IntKind.i64.wrap (a0.getD (IntKind.i64.wrap (a1 + x86)).toNat (Ty.dflt (.int .u8)))) (128 : Int)) * 2 ^ (min (IntKind.u64.wrap (IntKind.i64.wrap ((7 : Int) * x86))).toNat IntKind.i64.bits))))) (2 : Int)))))))))) (F39_j0 N)
def F39_l0 (N : Nat) (a0 : (List Int)) (a1 : Int) := loopF (F39_l0_b N a0 a1) (fun _ _ => none)
theorem F39_l0_s N a0 a1 {k} (hk : 0 < k) x85 x86 : F39_l0 N a0 a1 k x85 x86 = F39_l0_b N a0 a1 (F39_l0 N a0 a1 (k - 1)) x85 x86 := by cases k;cases hk;rfl
def F39 (N : Nat) (a0 : (List Int)) (a1 : Int) : Option (Int × Int) :=
  F39_l0 N a0 a1 N (0 : Int) (0 : Int)
theorem ok39 N a0 a1 {r} (h : F39 N a0 a1 = some r) : Con prog 39 [Vv (.sl (.int .u8)) a0, I a1] [.lf (.v (.int .i64) r.1), .lf (.v (.int .i64) r.2)] := by
 refine ctr [.lf (.v (.int .i64)), .lf (.v (.int .i64))] K func39 rfl fun w0 E0 ht => ?_
 unfold F39 at h
 show VW _ _ _ _ _ (retQ _ _ _ _) _
 refine nR K (tn 2) <| nR K (tn 1) ?_
 refine VW.join (fun s => s = ⟨[], []⟩ ∧ F39_j0 N = some r) ?_ ?_
 ·refine nR K (tn 1) <| VW.block <| lop (fun k s => ∃ x85 x86, s = ⟨[(0, Vv (.sl (.int .u8)) a0), (1, I a1), (6, I x85), (7, I x86)], []⟩ ∧ F39_l0 N a0 a1 k x85 x86 = some r) N [.ren [0, 1, 6, 7] []] ⟨(0 : Int), (0 : Int), rfl, h⟩ ?_
  rintro k107 s ⟨x85, x86, rfl, h⟩
  cases k107 with
  | zero => cases show none = some r from h
  | succ k107 =>
   replace h : F39_l0_b N a0 a1 (F39_l0 N a0 a1 k107) x85 x86 = some r := h
   unfold F39_l0_b at h
   refine sq <| nR K (tn 2) ?_
   refine cnd h ?_ ?_<;>intro h
   ·refine VW.skip <| sq <| VW.block <| sq <| sq <| VW.region <| nG K 3 (tn 3) ?_
    refine spC 16 h ?_ ?_<;>intro h
    ·refine nN K (tn 7) ?_
     refine VW.cond (b := true) (by kernel_rfl) (fun _ => ?_) (fun h' => nomatch h')
     refine nR K (tn 2) ?_
     cases h; exact VW.ret (rt [])
    refine nN K (tn 7) ?_
    refine cnd h ?_ ?_<;>intro h
    ·refine nR K (tn 2) ?_
     cases h; exact VW.ret (rt [])
    refine VW.skip ?_
    obtain⟨g118,h⟩:=gS h
    refine nR K (pu 4 (an g118 (tn 3))) ?_
    obtain⟨g119,h⟩:=gS h
    refine nR K (pu 2 (an (show ((128 : Int) ≠ 0) from by decide) (pu 3 (an g119 (tn 2))))) <| sq <| nR K (tn 2) ?_
    refine cnd h ?_ ?_<;>intro h
    ·refine VW.exit <| nE K (tn 3) ?_
     exact aro [.ren [0, 1, 6, 7] []] ⟨(wr (x85 + (wr ((Int.tmod (wr (a0.getD (wr (a1 + x86)).toNat (Ty.dflt (.int .u8)))) (128 : Int)) * 2 ^ (min (IntKind.u64.wrap (wr ((7 : Int) * x86))).toNat IntKind.i64.bits))))), (wr (x86 + (1 : Int))), rfl, h⟩
    refine VW.skip <| nR K (pu 1 (an (show ((2 : Int) ≠ 0) from by decide) (tn 1))) ?_
    refine VW.join (fun s => ∃ x120 x121, s = ⟨[(1, I a1), (7, I x86), (8, I x120), (9, I x121)], []⟩ ∧ F39_j2 N a1 x86 x120 x121 = some r) ?_ ?_
    ·refine nR K (pu 1 (an (show ((2 : Int) ≠ 0) from by decide) (tn 1))) ?_
     refine cnd h ?_ ?_<;>intro h
     ·refine nE K (pu 3 (an (show ((2 : Int) ≠ 0) from by decide) (tn 1))) ?_
      exact arv [.ren [1, 7, 8, 9] []] ⟨(wr (a0.getD (wr (a1 + x86)).toNat (Ty.dflt (.int .u8)))), (wr (Int.tdiv (wr ((0 : Int) - (wr ((wr (x85 + (wr ((Int.tmod (wr (a0.getD (wr (a1 + x86)).toNat (Ty.dflt (.int .u8)))) (128 : Int)) * 2 ^ (min (IntKind.u64.wrap (wr ((7 : Int) * x86))).toNat IntKind.i64.bits))))) + (1 : Int))))) (2 : Int))), rfl, h⟩
     refine VW.skip ?_
     exact arv [.ren [1, 7, 8, 9] []] ⟨(wr (a0.getD (wr (a1 + x86)).toNat (Ty.dflt (.int .u8)))), (wr (Int.tdiv (wr (x85 + (wr ((Int.tmod (wr (a0.getD (wr (a1 + x86)).toNat (Ty.dflt (.int .u8)))) (128 : Int)) * 2 ^ (min (IntKind.u64.wrap (wr ((7 : Int) * x86))).toNat IntKind.i64.bits))))) (2 : Int))), rfl, h⟩
    rintro s ⟨x120, x121, rfl, h⟩
    unfold F39_j2 at h
    refine VW.join (fun s => s = ⟨[(1, I a1), (7, I x86), (9, I x121)], []⟩ ∧ F39_j1 N a1 x86 x121 = some r) ?_ ?_
    ·refine sq <| VW.region <| nG K 3 (tn 3) ?_
     refine spC 52 h ?_ ?_<;>intro h
     ·refine nG K 4 (tn 4) ?_
      refine spC 56 h ?_ ?_<;>intro h
      ·refine nN K (tn 4) ?_
       refine VW.cond (b := true) (by kernel_rfl) (fun _ => ?_) (fun h' => nomatch h')
       refine nR K (tn 2) ?_
       cases h; exact VW.ret (rt [])
      refine nG K 1 (tn 1) <| VO.on (j := 6) (want := false) (d := 56) (b := false) rfl rfl rfl (by kernel_rfl) rfl ?_
      obtain⟨y125,hy,h⟩:=aS h
      refine clc false [.t (.int .i64)] [] (some 58) K (ok46 N _ hy) <| nN K (tn 2) ?_
      refine cnd h ?_ ?_<;>intro h
      ·refine nR K (tn 2) ?_
       cases h; exact VW.ret (rt [])
      refine VW.skip ?_
      exact arv [.ren [1, 7, 9] []] ⟨rfl, h⟩
     refine nG K 5 (tn 5) <| VO.on (j := 6) (want := false) (d := 56) (b := false) rfl rfl rfl (by kernel_rfl) rfl ?_
     obtain⟨y126,hy,h⟩:=aS h
     refine clc false [.t (.int .i64)] [] (some 58) K (ok46 N _ hy) <| nN K (tn 2) ?_
     refine cnd h ?_ ?_<;>intro h
     ·refine nR K (tn 2) ?_
      cases h; exact VW.ret (rt [])
     refine VW.skip ?_
     exact arv [.ren [1, 7, 9] []] ⟨rfl, h⟩
    rintro s ⟨rfl, h⟩
    unfold F39_j1 at h
    refine nR K (tn 7) ?_
    cases h; exact VW.ret (rt [])
   refine VW.exit ?_
   exact arv [.ren [] []] ⟨rfl, h⟩
 rintro s ⟨rfl, h⟩
 unfold F39_j0 at h
 refine nR K (tn 2) ?_
 cases h; exact VW.ret (rt [])
def F38 (N : Nat) (a0 : (List Int)) : Option ((List Int) × Bool) :=
  cond (decide ((a0.length : Int) < (2 : Int))) (some ([], false)) (gd (InR (0 : Int) a0.length) (cond ((a0.getD (0 : Int).toNat (Ty.dflt (.int .u8))) != (80 : Int)) (some ([], false)) (gd (InR (1 : Int) a0.length) (cond ((a0.getD (1 : Int).toNat (Ty.dflt (.int .u8))) != (83 : Int)) (some ([], false)) (andO (F39 N a0 (2 : Int)) fun y5 => cond (decide (y5.2 < (0 : Int))) (some ([], false)) (andO (F40 N y5.1 (0 : Int) (4000 : Int)) fun y7 => cond (!y7) (some ([], false)) (cond (decide (y5.1 > (IntKind.i64.wrap ((a0.length : Int) - y5.2)))) (some ([], false)) (gd (0 ≤ y5.2 ∧ y5.2 ≤ (IntKind.i64.wrap (y5.2 + y5.1)) ∧ (IntKind.i64.wrap (y5.2 + y5.1)) ≤ (a0.length : Int)) (andO (F39 N a0 (IntKind.i64.wrap (y5.2 + y5.1))) fun y9 => cond (y9.2 != (a0.length : Int)) (some ([], false)) (andO (F29 N ((a0.take (IntKind.i64.wrap (y5.2 + y5.1)).toNat).drop y5.2.toNat)) fun y11 => cond (y9.1 != y11) (some ([], false)) (andO (F47 N ((a0.take (IntKind.i64.wrap (y5.2 + y5.1)).toNat).drop y5.2.toNat)) fun y12 => some (y12, true))))))))))))
theorem ok38 N a0 {r} (h : F38 N a0 = some r) : Con prog 38 [Vv (.sl (.int .u8)) a0] [.lf (.own (.int .u8) r.1 .dp), .lf (.v .bool r.2)] := by
 refine ctr [.lf (.own (.int .u8) .dp), .lf (.v .bool)] K func38 rfl fun w0 E0 ht => ?_
 unfold F38 at h
 show VW _ _ _ _ _ (retQ _ _ _ _) _
 refine nR K (tn 2) <| sq <| sq <| VW.region <| nG K 4 (tn 4) ?_
 refine spC 12 h ?_ ?_<;>intro h
 ·refine nN K (tn 11) ?_
  refine VW.cond (b := true) (by kernel_rfl) (fun _ => ?_) (fun h' => nomatch h')
  refine nR K (tn 2) ?_
  cases h; exact VW.ret (rt [none])
 obtain⟨g3,h⟩:=gS h
 refine nG K 6 (pu 1 (an g3 (tn 4))) ?_
 refine spC 18 h ?_ ?_<;>intro h
 ·refine nN K (tn 5) ?_
  refine VW.cond (b := true) (by kernel_rfl) (fun _ => ?_) (fun h' => nomatch h')
  refine nR K (tn 2) ?_
  cases h; exact VW.ret (rt [none])
 obtain⟨g4,h⟩:=gS h
 refine nN K (pu 1 (an g4 (tn 3))) ?_
 refine cnd h ?_ ?_<;>intro h
 ·refine nR K (tn 2) ?_
  cases h; exact VW.ret (rt [none])
 refine VW.skip <| sq <| VW.region <| nG K 1 (tn 1) ?_
 obtain⟨y5,hy,h⟩:=aS h
 refine clc false [.t (.sl (.int .u8)), .t (.int .i64)] [] (some 26) K (ok39 N _ _ hy) <| nN K (tn 5) <| sq <| sq <| VW.region <| nG K 3 (tn 3) ?_
 refine spC 31 h ?_ ?_<;>intro h
 ·refine nN K (tn 12) ?_
  refine VW.cond (b := true) (by kernel_rfl) (fun _ => ?_) (fun h' => nomatch h')
  refine nR K (tn 2) ?_
  cases h; exact VW.ret (rt [none])
 refine nG K 1 (tn 1) <| VO.on (j := 2) (want := false) (d := 31) (b := false) rfl rfl rfl (by kernel_rfl) rfl ?_
 obtain⟨y7,hy,h⟩:=aS h
 refine clc false [.t (.int .i64), .t (.int .i64), .t (.int .i64)] [] (some 33) K (ok40 N _ _ _ hy) <| nG K 3 (tn 3) ?_
 refine spC 36 h ?_ ?_<;>intro h
 ·refine nN K (tn 7) ?_
  refine VW.cond (b := true) (by kernel_rfl) (fun _ => ?_) (fun h' => nomatch h')
  refine nR K (tn 2) ?_
  cases h; exact VW.ret (rt [none])
 refine nN K (tn 7) ?_
 refine cnd h ?_ ?_<;>intro h
 ·refine nR K (tn 2) ?_
  cases h; exact VW.ret (rt [none])
 refine VW.skip ?_
 obtain⟨g8,h⟩:=gS h
 refine nR K (pu 5 (an g8 (tn 1))) <| sq <| VW.region <| nG K 4 (tn 4) ?_
 obtain⟨y9,hy,h⟩:=aS h
 refine clc false [.t (.sl (.int .u8)), .t (.int .i64)] [] (some 55) K (ok39 N _ _ hy) <| sN K [0, 6, 7, 8] [] ⟨[(0, Vv (.sl (.int .u8)) a0), (6, Vv (.sl (.int .u8)) ((a0.take (wr (y5.2 + y5.1)).toNat).drop y5.2.toNat)), (7, I y9.1), (8, I y9.2)], []⟩ (tn 5) <| sq <| sq <| VW.region <| nG K 5 (tn 5) ?_
 refine spC 62 h ?_ ?_<;>intro h
 ·refine nN K (tn 5) ?_
  refine VW.cond (b := true) (by kernel_rfl) (fun _ => ?_) (fun h' => nomatch h')
  refine nR K (tn 2) ?_
  cases h; exact VW.ret (rt [none])
 refine nG K 2 (tn 2) <| VO.on (j := 4) (want := false) (d := 62) (b := false) rfl rfl rfl (by kernel_rfl) rfl ?_
 obtain⟨y11,hy,h⟩:=aS h
 refine clc false [.t (.sl (.int .u8))] [] (some 65) K (ok29 N _ hy) <| nN K (tn 2) ?_
 refine cnd h ?_ ?_<;>intro h
 ·refine nR K (tn 2) ?_
  cases h; exact VW.ret (rt [none])
 refine VW.skip <| sq <| VW.region <| nG K 1 (tn 1) ?_
 obtain⟨y12,hy,h⟩:=aS h
 refine clc false [.t (.sl (.int .u8))] [] (some 69) K (ok47 N _ hy) <| nN K (tn 2) ?_
 cases h; exact VW.ret (rt [some 0])
def F70 (N : Nat) (a0 : Z79) : Option (Z79 × Int) :=
  cond a0.2.2 (some (a0, (0 : Int))) (andO (F39 N a0.1 a0.2.1) fun y1 => cond (decide (y1.2 < (0 : Int))) (some ((a0.1, (a0.2.1, true)), (0 : Int))) (some ((a0.1, (y1.2, a0.2.2)), y1.1)))
theorem ok70 N a0 {r} (h : F70 N a0 = some r) : ConM prog 70 [bx (lv Y79 a0) 80] [.lf (.ptr 0 0 0 0)] [.lf (.v (.int .i64) r.2)] [bx (lv Y79 r.1) 80] := by
 refine ⟨enters_of func70 rfl (by decide), HM.intro [.lf (.v (.int .i64))] K func70 rfl (Nat.le_of_ble_eq_true rfl) (Nat.le_of_ble_eq_true rfl) fun w0 E0 ht => ?_⟩
 unfold F70 at h
 show VW _ _ _ _ _ (retM _ _ _ _ _) _
 refine nR K (tn 1) <| sq <| nR K (tn 4) ?_
 refine cnd h ?_ ?_<;>intro h
 ·refine nR K (tn 1) ?_
  replace h := Option.some.inj h
  subst h
  refine VW.ghl [.ren [2, 65536] [0]] (VW.ret ?_)
  exact ⟨[], by kernel_rfl, by kernel_rfl, by kernel_rfl⟩
 refine VW.skip <| sq ?_
 obtain⟨y1,hy1,h⟩:=aS h
 refine dr K [(8, .cl [] (some 18) [.lf (.v (.int .i64) y1.1), .lf (.v (.int .i64) y1.2)])] [(8, 0)] [] [0, 3, 4, 65536] [0] (tn 14) ⟨qC false [.t (.sl (.int .u8)), .t (.int .i64)] [] [] (some 18) K (ok39 N _ _ hy1), trivial⟩ <| sq <| nR K (tn 2) ?_
 refine cnd h ?_ ?_<;>intro h
 ·refine nR K (tn 4) <| nR K (tn 1) ?_
  replace h := Option.some.inj h
  subst h
  refine VW.ghl [.ren [2, 65536] [0]] (VW.ret ?_)
  exact ⟨[], by kernel_rfl, by kernel_rfl, by kernel_rfl⟩
 refine VW.skip <| nR K (tn 5) <| nR K (tn 2) ?_
 replace h := Option.some.inj h
 subst h
 refine VW.ghl [.ren [2, 65536] [0]] (VW.ret ?_)
 exact ⟨[], by kernel_rfl, by kernel_rfl, by kernel_rfl⟩
def F71 (N : Nat) (a0 : (List Int)) (a1 : Int) : Option (ByteArray × Int) :=
  andO (F39 N a0 a1) fun y1 => cond (decide (y1.2 < (0 : Int))) (some (ByteArray.empty, (-1 : Int))) (andO (F40 N y1.1 (1 : Int) (12 : Int)) fun y3 => cond (!y3) (some (ByteArray.empty, (-1 : Int))) (cond (decide (y1.1 > (IntKind.i64.wrap ((a0.length : Int) - y1.2)))) (some (ByteArray.empty, (-1 : Int))) (gd (0 ≤ y1.2 ∧ y1.2 ≤ (IntKind.i64.wrap (y1.2 + y1.1)) ∧ (IntKind.i64.wrap (y1.2 + y1.1)) ≤ (a0.length : Int)) (andO (F77 N (strOfNums ((a0.take (IntKind.i64.wrap (y1.2 + y1.1)).toNat).drop y1.2.toNat))) fun y6 => cond (!y6) (some (ByteArray.empty, (-1 : Int))) (some ((strOfNums ((a0.take (IntKind.i64.wrap (y1.2 + y1.1)).toNat).drop y1.2.toNat)), (IntKind.i64.wrap (y1.2 + y1.1))))))))
theorem ok71 N a0 a1 {r} (h : F71 N a0 a1 = some r) : Con prog 71 [Vv (.sl (.int .u8)) a0, I a1] [.lf (.v .str r.1), .lf (.v (.int .i64) r.2)] := by
 refine ctr [.lf (.v .str), .lf (.v (.int .i64))] K func71 rfl fun w0 E0 ht => ?_
 unfold F71 at h
 show VW _ _ _ _ _ (retQ _ _ _ _) _
 refine nR K (tn 2) <| sq <| VW.region <| nG K 2 (tn 2) ?_
 obtain⟨y1,hy,h⟩:=aS h
 refine clc false [.t (.sl (.int .u8)), .t (.int .i64)] [] (some 12) K (ok39 N _ _ hy) <| nN K (tn 5) <| sq <| sq <| VW.region <| nG K 3 (tn 3) ?_
 refine spC 17 h ?_ ?_<;>intro h
 ·refine nN K (tn 12) ?_
  refine VW.cond (b := true) (by kernel_rfl) (fun _ => ?_) (fun h' => nomatch h')
  refine nR K (tn 2) ?_
  cases h; exact VW.ret (rt [])
 refine nG K 1 (tn 1) <| VO.on (j := 2) (want := false) (d := 17) (b := false) rfl rfl rfl (by kernel_rfl) rfl ?_
 obtain⟨y3,hy,h⟩:=aS h
 refine clc false [.t (.int .i64), .t (.int .i64), .t (.int .i64)] [] (some 19) K (ok40 N _ _ _ hy) <| nG K 3 (tn 3) ?_
 refine spC 22 h ?_ ?_<;>intro h
 ·refine nN K (tn 7) ?_
  refine VW.cond (b := true) (by kernel_rfl) (fun _ => ?_) (fun h' => nomatch h')
  refine nR K (tn 2) ?_
  cases h; exact VW.ret (rt [])
 refine nN K (tn 7) ?_
 refine cnd h ?_ ?_<;>intro h
 ·refine nR K (tn 2) ?_
  cases h; exact VW.ret (rt [])
 refine VW.skip ?_
 obtain⟨g4,h⟩:=gS h
 refine nR K (pu 5 (an g4 (tn 2))) <| sq <| sq <| VW.region <| nG K 1 (tn 1) ?_
 obtain⟨y6,hy,h⟩:=aS h
 refine clc false [.t .str] [] (some 38) K (ok77 N _ hy) <| nN K (tn 1) ?_
 refine cnd h ?_ ?_<;>intro h
 ·refine nR K (tn 2) ?_
  cases h; exact VW.ret (rt [])
 refine VW.skip <| nR K (tn 6) ?_
 cases h; exact VW.ret (rt [])
def F72_j0 (N : Nat) (x3 : Int) (x4 : (List Int)) (x5 : Int) (x6 : Bool) : Option (Z79 × Bool) :=
  some ((x4, (x5, x6)), (x3 == (1 : Int)))
def F72 (N : Nat) (a0 : Z79) : Option (Z79 × Bool) :=
  andO (F70 N a0) fun y1 => andO (F40 N y1.2 (0 : Int) (1 : Int)) fun y8 => cond (!y8) (F72_j0 N y1.2 y1.1.1 y1.1.2.1 true) (F72_j0 N y1.2 y1.1.1 y1.1.2.1 y1.1.2.2)
theorem ok72 N a0 {r} (h : F72 N a0 = some r) : ConM prog 72 [bx (lv Y79 a0) 80] [.lf (.ptr 0 0 0 0)] [.lf (.v .bool r.2)] [bx (lv Y79 r.1) 80] := by
 refine ⟨enters_of func72 rfl (by decide), HM.intro [.lf (.v .bool)] K func72 rfl (Nat.le_of_ble_eq_true rfl) (Nat.le_of_ble_eq_true rfl) fun w0 E0 ht => ?_⟩
 unfold F72 at h
 show VW _ _ _ _ _ (retM _ _ _ _ _) _
 refine nR K (tn 1) <| sq <| VW.region <| nG K 1 (tn 1) ?_
 obtain⟨y1,hy,h⟩:=aS h
 refine VO.callM [0] [.r] (d := some 5) (by kernel_rfl) (by kernel_rfl) (ok70 N _ hy) (by kernel_rfl) <| nN K (tn 1) ?_
 refine VW.join (fun s => ∃ x3 x4 x5 x6, s = ⟨[(3, I x3), (65536, .lf (.ptr 0 0 0 0))], [bx [.v (.sl (.int .u8)) x4, zi x5, zb x6] 80]⟩ ∧ F72_j0 N x3 x4 x5 x6 = some r) ?_ ?_
 ·refine sq <| VW.region <| nG K 1 (tn 1) ?_
  obtain⟨y8,hy,h⟩:=aS h
  refine clc false [.t (.int .i64), .t (.int .i64), .t (.int .i64)] [] (some 7) K (ok40 N _ _ _ hy) <| nN K (tn 1) ?_
  refine cnd h ?_ ?_<;>intro h
  ·refine nE K (tn 4) ?_
   exact arv [.ren [3, 65536] [0]] ⟨y1.2, y1.1.1, y1.1.2.1, true, rfl, h⟩
  refine VW.skip ?_
  exact arv [.ren [3, 65536] [0]] ⟨y1.2, y1.1.1, y1.1.2.1, y1.1.2.2, rfl, h⟩
 rintro s ⟨x3, x4, x5, x6, rfl, h⟩
 unfold F72_j0 at h
 refine nR K (tn 3) ?_
 replace h := Option.some.inj h
 subst h
 refine VW.ghl [.ren [2, 65536] [0]] (VW.ret ?_)
 exact ⟨[], by kernel_rfl, by kernel_rfl, by kernel_rfl⟩
def F73_j0 (N : Nat) (x23 : Int) (x24 : (List Int)) : Option ((List Int) × Int) :=
  some (x24, x23)
def F73_l0_b (N : Nat) (a0 : (List Int)) (nx40 : Int → Int → (List Int) → Int → Option ((List Int) × Int)) (x32 : Int) (x33 : Int) (x34 : (List Int)) (x35 : Int) : Option ((List Int) × Int) :=
  cond (decide (x35 < x32)) (andO (F39 N a0 x33) fun y43 => cond (decide (y43.2 < (0 : Int))) (some ([], (-1 : Int))) (gd (x34.length + ([y43.1]).length ≤ lim (.int .i64)) (nx40 x32 y43.2 (x34 ++ ([y43.1])) (IntKind.i64.wrap (x35 + (1 : Int)))))) (F73_j0 N x33 x34)
def F73_l0 (N : Nat) (a0 : (List Int)) := loopF (F73_l0_b N a0) (fun _ _ _ _ => none)
theorem F73_l0_s N a0 {k} (hk : 0 < k) x32 x33 x34 x35 : F73_l0 N a0 k x32 x33 x34 x35 = F73_l0_b N a0 (F73_l0 N a0 (k - 1)) x32 x33 x34 x35 := by cases k;cases hk;rfl
def F73 (N : Nat) (a0 : (List Int)) (a1 : Int) : Option ((List Int) × Int) :=
  andO (F39 N a0 a1) fun y1 => cond (decide (y1.2 < (0 : Int))) (some ([], (-1 : Int))) (andO (F40 N y1.1 (0 : Int) (300 : Int)) fun y3 => cond (!y3) (some ([], (-1 : Int))) (F73_l0 N a0 N y1.1 y1.2 ([]) (0 : Int)))
theorem ok73 N a0 a1 {r} (h : F73 N a0 a1 = some r) : Con prog 73 [Vv (.sl (.int .u8)) a0, I a1] [.lf (.own (.int .i64) r.1 .dp), .lf (.v (.int .i64) r.2)] := by
 refine ctr [.lf (.own (.int .i64) .dp), .lf (.v (.int .i64))] K func73 rfl fun w0 E0 ht => ?_
 unfold F73 at h
 show VW _ _ _ _ _ (retQ _ _ _ _) _
 refine nR K (tn 2) <| sq <| VW.region <| nG K 2 (tn 2) ?_
 obtain⟨y1,hy,h⟩:=aS h
 refine clc false [.t (.sl (.int .u8)), .t (.int .i64)] [] (some 15) K (ok39 N _ _ hy) <| nN K (tn 5) <| sq <| sq <| VW.region <| nG K 3 (tn 3) ?_
 refine spC 20 h ?_ ?_<;>intro h
 ·refine nN K (tn 4) ?_
  refine VW.cond (b := true) (by kernel_rfl) (fun _ => ?_) (fun h' => nomatch h')
  refine nR K (tn 2) ?_
  cases h; exact VW.ret (rt [none])
 refine nG K 1 (tn 1) <| VO.on (j := 2) (want := false) (d := 20) (b := false) rfl rfl rfl (by kernel_rfl) rfl ?_
 obtain⟨y3,hy,h⟩:=aS h
 refine clc false [.t (.int .i64), .t (.int .i64), .t (.int .i64)] [] (some 22) K (ok40 N _ _ _ hy) <| nN K (tn 2) ?_
 refine cnd h ?_ ?_<;>intro h
 ·refine nR K (tn 2) ?_
  cases h; exact VW.ret (rt [none])
 refine VW.skip <| nR K (tn 2) ?_
 refine VW.join (fun s => ∃ x23 x24, s = ⟨[(7, I x23), (8, hh 0)], [ar 0 (.int .i64) x24 .dp]⟩ ∧ F73_j0 N x23 x24 = some r) ?_ ?_
 ·refine nR K (tn 1) <| VW.block <| lop (fun k s => ∃ x32 x33 x34 x35, s = ⟨[(0, Vv (.sl (.int .u8)) a0), (6, I x32), (7, I x33), (8, hh 0), (9, I x35)], [ar 0 (.int .i64) x34 .dp]⟩ ∧ F73_l0 N a0 k x32 x33 x34 x35 = some r) N [.nilS 8 (.int .i64) .dp, .ren [0, 6, 7, 8, 9] [0]] ⟨y1.1, y1.2, [], (0 : Int), rfl, h⟩ ?_
  rintro k40 s ⟨x32, x33, x34, x35, rfl, h⟩
  cases k40 with
  | zero => cases show none = some r from h
  | succ k40 =>
   replace h : F73_l0_b N a0 (F73_l0 N a0 k40) x32 x33 x34 x35 = some r := h
   unfold F73_l0_b at h
   refine sq <| nR K (tn 3) ?_
   refine cnd h ?_ ?_<;>intro h
   ·refine VW.skip <| sq <| VW.block <| sq <| VW.region <| nG K 2 (tn 2) ?_
    obtain⟨y43,hy,h⟩:=aS h
    refine clc false [.t (.sl (.int .u8)), .t (.int .i64)] [] (some 34) K (ok39 N _ _ hy) <| nN K (tn 5) <| sq <| nR K (tn 2) ?_
    refine cnd h ?_ ?_<;>intro h
    ·refine nR K (tn 2) ?_
     cases h; exact VW.ret (rt [none])
    refine VW.skip ?_
    obtain⟨g44,h⟩:=gS h
    refine nR K (pu 3 (an g44 (tn 1))) <| nE K (tn 2) <| nE K (tn 3) ?_
    exact aro [.ren [0, 6, 7, 8, 9] [0]] ⟨x32, y43.2, (x34 ++ ([y43.1])), (wr (x35 + (1 : Int))), rfl, h⟩
   refine VW.exit ?_
   exact arv [.ren [7, 8] [0]] ⟨x33, x34, rfl, h⟩
 rintro s ⟨x23, x24, rfl, h⟩
 unfold F73_j0 at h
 refine nR K (tn 4) ?_
 cases h; exact VW.ret (rt [some 0])
def F41_j0 (N : Nat) (x13 : (List Int)) (x14 : Int) (x15 : Bool) (x16 : Int) (x17 : ByteArray) (x18 : Int) (x19 : Int) (x20 : Int) (x21 : Bool) (x22 : (List Int)) : Option (Z44 × Int) :=
  cond x15 (some (((0 : Int), (ByteArray.empty, ((0 : Int), ((0 : Int), ((0 : Int), (false, [])))))), (-1 : Int))) (andO (F44 N (x16, (x17, (x18, (x19, (x20, (x21, x22))))))) fun y24 => cond (!y24) (some (((0 : Int), (ByteArray.empty, ((0 : Int), ((0 : Int), ((0 : Int), (false, [])))))), (-1 : Int))) (some ((x16, (x17, (x18, (x19, (x20, (x21, x22)))))), x14)))
def F41 (N : Nat) (a0 : (List Int)) (a1 : Int) : Option (Z44 × Int) :=
  andO (F70 N (a0, (a1, false))) fun y1 => cond y1.1.2.2 (some (((0 : Int), (ByteArray.empty, ((0 : Int), ((0 : Int), ((0 : Int), (false, [])))))), (-1 : Int))) (cond (y1.2 == (0 : Int)) (andO (F71 N a0 y1.1.2.1) fun y26 => cond (decide (y26.2 < (0 : Int))) (some (((0 : Int), (ByteArray.empty, ((0 : Int), ((0 : Int), ((0 : Int), (false, [])))))), (-1 : Int))) (F41_j0 N y1.1.1 y26.2 y1.1.2.2 y1.2 y26.1 (0 : Int) (0 : Int) (0 : Int) false ([]))) (cond (y1.2 == (1 : Int)) (andO (F70 N y1.1) fun y27 => andO (F70 N y27.1) fun y28 => andO (F72 N y28.1) fun y29 => andO (F70 N y29.1) fun y30 => F41_j0 N y30.1.1 y30.1.2.1 y30.1.2.2 y1.2 ByteArray.empty y27.2 y28.2 y30.2 y29.2 ([])) (cond (y1.2 == (2 : Int)) (andO (F73 N a0 y1.1.2.1) fun y31 => cond (decide (y31.2 < (0 : Int))) (some (((0 : Int), (ByteArray.empty, ((0 : Int), ((0 : Int), ((0 : Int), (false, [])))))), (-1 : Int))) (F41_j0 N y1.1.1 y31.2 y1.1.2.2 y1.2 ByteArray.empty (0 : Int) (0 : Int) (0 : Int) false y31.1)) (cond (y1.2 == (3 : Int)) (andO (F70 N y1.1) fun y32 => andO (F70 N y32.1) fun y33 => F41_j0 N y33.1.1 y33.1.2.1 y33.1.2.2 y1.2 ByteArray.empty y32.2 (0 : Int) y33.2 false ([])) (cond (y1.2 == (5 : Int)) (andO (F70 N y1.1) fun y34 => F41_j0 N y34.1.1 y34.1.2.1 y34.1.2.2 y1.2 ByteArray.empty y34.2 (0 : Int) (0 : Int) false ([])) (cond (y1.2 == (6 : Int)) (andO (F72 N y1.1) fun y35 => andO (F70 N y35.1) fun y36 => F41_j0 N y36.1.1 y36.1.2.1 y36.1.2.2 y1.2 ByteArray.empty (0 : Int) (0 : Int) y36.2 y35.2 ([])) (F41_j0 N y1.1.1 y1.1.2.1 y1.1.2.2 y1.2 ByteArray.empty (0 : Int) (0 : Int) (0 : Int) false ([]))))))))
theorem ok41 N a0 a1 {r} (h : F41 N a0 a1 = some r) : Con prog 41 [Vv (.sl (.int .u8)) a0, I a1] [.agg [.v (.int .i64) r.1.1, .v .str r.1.2.1, .v (.int .i64) r.1.2.2.1, .v (.int .i64) r.1.2.2.2.1, .v (.int .i64) r.1.2.2.2.2.1, .v .bool r.1.2.2.2.2.2.1, .own (.int .i64) r.1.2.2.2.2.2.2 .dp], .lf (.v (.int .i64) r.2)] := by
 refine ctr [.agg [.v (.int .i64), .v .str, .v (.int .i64), .v (.int .i64), .v (.int .i64), .v .bool, .own (.int .i64) .dp], .lf (.v (.int .i64))] K func41 rfl fun w0 E0 ht => ?_
 unfold F41 at h
 show VW _ _ _ _ _ (retQ _ _ _ _) _
 refine nR K (tn 2) <| nR K (tn 5) <| sq <| VW.region ?_
 obtain⟨y1,hy,h⟩:=aS h
 refine VO.callM [1] [.r] (d := some 15) (by kernel_rfl) (by kernel_rfl) (ok70 N _ hy) (by kernel_rfl) <| nN K (tn 3) <| sq <| nR K (tn 2) ?_
 refine cnd h ?_ ?_<;>intro h
 ·refine nR K (tn 3) ?_
  cases h; exact VW.ret (rt [none])
 refine VW.skip ?_
 refine VW.join (fun s => ∃ x13 x14 x15 x16 x17 x18 x19 x20 x21 x22, s = ⟨[(4, .lf (.ptr 0 0 0 0)), (6, .lf (.ptr 1 0 0 0)), (7, .lf (.ptr 2 0 0 0))], [bx [zi (0 : Int), zs ByteArray.empty, zi (0 : Int), zi (0 : Int), zi (0 : Int), zb false, .nil] 45, bx [.v (.sl (.int .u8)) x13, zi x14, zb x15] 80, bx [zi x16, zs x17, zi x18, zi x19, zi x20, zb x21, .hd 3 0 none] 45, ar 0 (.int .i64) x22 .dp]⟩ ∧ F41_j0 N x13 x14 x15 x16 x17 x18 x19 x20 x21 x22 = some r) ?_ ?_
 ·refine nR K (tn 2) <| VW.block <| nR K (tn 2) ?_
  refine cnd h ?_ ?_<;>intro h
  ·refine sq <| VW.region <| nG K 3 (tn 3) ?_
   obtain⟨y26,hy,h⟩:=aS h
   refine clc false [.t (.sl (.int .u8)), .t (.int .i64)] [] (some 28) K (ok71 N _ _ hy) <| nN K (tn 5) <| sq <| nR K (tn 2) ?_
   refine cnd h ?_ ?_<;>intro h
   ·refine nR K (tn 3) ?_
    cases h; exact VW.ret (rt [none])
   refine VW.skip <| nR K (tn 3) <| nE K (tn 3) ?_
   exact arv [.nil 2 6 (.int .i64) .dp, .ren [4, 6, 7] [0, 1, 2, 3]] ⟨y1.1.1, y26.2, y1.1.2.2, y1.2, y26.1, (0 : Int), (0 : Int), (0 : Int), false, [], rfl, h⟩
  refine nR K (tn 2) ?_
  refine cnd h ?_ ?_<;>intro h
  ·refine sq <| VW.region ?_
   obtain⟨y27,hy,h⟩:=aS h
   refine VO.callM [1] [.r] (d := some 40) (by kernel_rfl) (by kernel_rfl) (ok70 N _ hy) (by kernel_rfl) <| nN K (tn 2) <| sq <| VW.region ?_
   obtain⟨y28,hy,h⟩:=aS h
   refine VO.callM [1] [.r] (d := some 42) (by kernel_rfl) (by kernel_rfl) (ok70 N _ hy) (by kernel_rfl) <| nN K (tn 2) <| sq <| VW.region ?_
   obtain⟨y29,hy,h⟩:=aS h
   refine VO.callM [1] [.r] (d := some 44) (by kernel_rfl) (by kernel_rfl) (ok72 N _ hy) (by kernel_rfl) <| nN K (tn 2) <| VW.region ?_
   obtain⟨y30,hy,h⟩:=aS h
   refine VO.callM [1] [.r] (d := some 46) (by kernel_rfl) (by kernel_rfl) (ok70 N _ hy) (by kernel_rfl) <| nN K (tn 2) ?_
   exact arv [.nil 2 6 (.int .i64) .dp, .ren [4, 6, 7] [0, 1, 2, 3]] ⟨y30.1.1, y30.1.2.1, y30.1.2.2, y1.2, ByteArray.empty, y27.2, y28.2, y30.2, y29.2, [], rfl, h⟩
  refine nR K (tn 2) ?_
  refine cnd h ?_ ?_<;>intro h
  ·refine sq <| VW.region <| nG K 3 (tn 3) ?_
   obtain⟨y31,hy,h⟩:=aS h
   refine clc false [.t (.sl (.int .u8)), .t (.int .i64)] [] (some 54) K (ok73 N _ _ hy) <| nN K (tn 5) <| sq <| nR K (tn 2) ?_
   refine cnd h ?_ ?_<;>intro h
   ·refine nR K (tn 3) ?_
    cases h; exact VW.ret (rt [none])
   refine VW.skip <| nR K (tn 3) <| rR K [4, 6, 7] [0, 1, 2, 3] ⟨[(4, .lf (.ptr 0 0 0 0)), (6, .lf (.ptr 1 0 0 0)), (7, .lf (.ptr 2 0 0 0))], [bx [zi (0 : Int), zs ByteArray.empty, zi (0 : Int), zi (0 : Int), zi (0 : Int), zb false, .nil] 45, bx [.v (.sl (.int .u8)) y1.1.1, zi y31.2, zb y1.1.2.2] 80, bx [zi y1.2, zs ByteArray.empty, zi (0 : Int), zi (0 : Int), zi (0 : Int), zb false, .hd 3 0 none] 45, ar 0 (.int .i64) y31.1 .dp]⟩ (tn 3) ?_
   exact arv [.ren [4, 6, 7] [0, 1, 2, 3]] ⟨y1.1.1, y31.2, y1.1.2.2, y1.2, ByteArray.empty, (0 : Int), (0 : Int), (0 : Int), false, y31.1, rfl, h⟩
  refine nR K (tn 2) ?_
  refine cnd h ?_ ?_<;>intro h
  ·refine sq <| VW.region ?_
   obtain⟨y32,hy,h⟩:=aS h
   refine VO.callM [1] [.r] (d := some 66) (by kernel_rfl) (by kernel_rfl) (ok70 N _ hy) (by kernel_rfl) <| nN K (tn 2) <| VW.region ?_
   obtain⟨y33,hy,h⟩:=aS h
   refine VO.callM [1] [.r] (d := some 68) (by kernel_rfl) (by kernel_rfl) (ok70 N _ hy) (by kernel_rfl) <| nN K (tn 2) ?_
   exact arv [.nil 2 6 (.int .i64) .dp, .ren [4, 6, 7] [0, 1, 2, 3]] ⟨y33.1.1, y33.1.2.1, y33.1.2.2, y1.2, ByteArray.empty, y32.2, (0 : Int), y33.2, false, [], rfl, h⟩
  refine nR K (tn 2) ?_
  refine cnd h ?_ ?_<;>intro h
  ·refine VW.region ?_
   obtain⟨y34,hy,h⟩:=aS h
   refine VO.callM [1] [.r] (d := some 72) (by kernel_rfl) (by kernel_rfl) (ok70 N _ hy) (by kernel_rfl) <| nN K (tn 2) ?_
   exact arv [.nil 2 6 (.int .i64) .dp, .ren [4, 6, 7] [0, 1, 2, 3]] ⟨y34.1.1, y34.1.2.1, y34.1.2.2, y1.2, ByteArray.empty, y34.2, (0 : Int), (0 : Int), false, [], rfl, h⟩
  refine nR K (tn 2) ?_
  refine cnd h ?_ ?_<;>intro h
  ·refine sq <| VW.region ?_
   obtain⟨y35,hy,h⟩:=aS h
   refine VO.callM [1] [.r] (d := some 76) (by kernel_rfl) (by kernel_rfl) (ok72 N _ hy) (by kernel_rfl) <| nN K (tn 2) <| VW.region ?_
   obtain⟨y36,hy,h⟩:=aS h
   refine VO.callM [1] [.r] (d := some 78) (by kernel_rfl) (by kernel_rfl) (ok70 N _ hy) (by kernel_rfl) <| sN K [4, 6, 7] [0, 1, 2] ⟨[(4, .lf (.ptr 0 0 0 0)), (6, .lf (.ptr 1 0 0 0)), (7, .lf (.ptr 2 0 0 0))], [bx [zi (0 : Int), zs ByteArray.empty, zi (0 : Int), zi (0 : Int), zi (0 : Int), zb false, .nil] 45, bx (lv Y79 y36.1) 80, bx [zi y1.2, zs ByteArray.empty, zi (0 : Int), zi (0 : Int), zi y36.2, zb y35.2, .nil] 45]⟩ (tn 2) ?_
   exact arv [.nil 2 6 (.int .i64) .dp, .ren [4, 6, 7] [0, 1, 2, 3]] ⟨y36.1.1, y36.1.2.1, y36.1.2.2, y1.2, ByteArray.empty, (0 : Int), (0 : Int), y36.2, y35.2, [], rfl, h⟩
  refine VW.skip ?_
  exact arv [.nil 2 6 (.int .i64) .dp, .ren [4, 6, 7] [0, 1, 2, 3]] ⟨y1.1.1, y1.1.2.1, y1.1.2.2, y1.2, ByteArray.empty, (0 : Int), (0 : Int), (0 : Int), false, [], rfl, h⟩
 rintro s ⟨x13, x14, x15, x16, x17, x18, x19, x20, x21, x22, rfl, h⟩
 unfold F41_j0 at h
 refine sq <| sq <| VW.region <| nG K 3 (tn 3) ?_
 refine spC 82 h ?_ ?_<;>intro h
 ·refine nN K (tn 4) ?_
  refine VW.cond (b := true) (by kernel_rfl) (fun _ => ?_) (fun h' => nomatch h')
  refine nR K (tn 3) ?_
  cases h; exact VW.ret (rt [none])
 refine nG K 1 (tn 1) <| VO.on (j := 2) (want := false) (d := 82) (b := false) rfl rfl rfl (by kernel_rfl) rfl ?_
 obtain⟨y24,hy,h⟩:=aS h
 refine clc true [.t Y44] [] (some 84) K (ok44 N _ hy) <| nN K (tn 2) ?_
 refine cnd h ?_ ?_<;>intro h
 ·refine nR K (tn 3) ?_
  cases h; exact VW.ret (rt [none])
 refine VW.skip <| sq <| dr K [] [] [3] [4, 5] [0, 3] (tn 5) trivial ?_
 cases h; exact VW.ret (rt [some 1])
def F16_j0 (N : Nat) (x26 : (List Int)) (x27 : Int) (x28 : (List Z44)) : Option ((List Z44) × Int) :=
  cond (decide (x27 < (x26.length : Int))) (some ([], (4 : Int))) (andO (F19 N x28) fun y30 => cond (!y30) (some ([], (3 : Int))) (some (x28, (0 : Int))))
def F16_l0_b (N : Nat) (nx48 : (List Int) → Int → Int → (List Z44) → Int → Option ((List Z44) × Int)) (x39 : (List Int)) (x40 : Int) (x41 : Int) (x42 : (List Z44)) (x43 : Int) : Option ((List Z44) × Int) :=
  cond (decide (x43 < x40)) (andO (F41 N x39 x41) fun y51 => cond (decide (y51.2 < (0 : Int))) (some ([], (2 : Int))) (gd (x42.length + ([y51.1]).length ≤ lim Y44) (nx48 x39 x40 y51.2 (x42 ++ ([y51.1])) (IntKind.i64.wrap (x43 + (1 : Int)))))) (F16_j0 N x39 x41 x42)
def F16_l0 (N : Nat) := loopF (F16_l0_b N) (fun _ _ _ _ _ => none)
theorem F16_l0_s N {k} (hk : 0 < k) x39 x40 x41 x42 x43 : F16_l0 N k x39 x40 x41 x42 x43 = F16_l0_b N (F16_l0 N (k - 1)) x39 x40 x41 x42 x43 := by cases k;cases hk;rfl
def F16 (N : Nat) (a0 : (List Int)) : Option ((List Z44) × Int) :=
  andO (F38 N a0) fun y1 => cond (!y1.2) (some ([], (1 : Int))) (andO (F39 N y1.1 (0 : Int)) fun y2 => cond (decide (y2.2 < (0 : Int))) (some ([], (2 : Int))) (andO (F40 N y2.1 (0 : Int) (40 : Int)) fun y4 => cond (!y4) (some ([], (2 : Int))) (F16_l0 N N y1.1 y2.1 y2.2 ([]) (0 : Int))))
theorem ok16 N a0 {r} (h : F16 N a0 = some r) : Con prog 16 [Vv (.sl (.int .u8)) a0] [.lf (.own Y44 r.1 .dp), .lf (.v (.int .i64) r.2)] := by
 refine ctr [.lf (.own Y44 .dp), .lf (.v (.int .i64))] K func16 rfl fun w0 E0 ht => ?_
 unfold F16 at h
 show VW _ _ _ _ _ (retQ _ _ _ _) _
 refine nR K (tn 2) <| sq <| VW.region <| nG K 1 (tn 1) ?_
 obtain⟨y1,hy,h⟩:=aS h
 refine clc false [.t (.sl (.int .u8))] [] (some 14) K (ok38 N _ hy) <| nN K (tn 5) <| sq <| nR K (tn 2) ?_
 refine cnd h ?_ ?_<;>intro h
 ·refine nR K (tn 2) ?_
  cases h; exact VW.ret (rt [none])
 refine VW.skip <| sq <| VW.region <| nG K 1 (tn 1) ?_
 obtain⟨y2,hy,h⟩:=aS h
 refine clc true [.t (.sl (.int .u8)), .t (.int .i64)] [] (some 21) K (ok39 N _ _ hy) <| nN K (tn 5) <| sq <| sq <| VW.region <| nG K 3 (tn 3) ?_
 refine spC 26 h ?_ ?_<;>intro h
 ·refine nN K (tn 4) ?_
  refine VW.cond (b := true) (by kernel_rfl) (fun _ => ?_) (fun h' => nomatch h')
  refine nR K (tn 2) ?_
  cases h; exact VW.ret (rt [none])
 refine nG K 1 (tn 1) <| VO.on (j := 2) (want := false) (d := 26) (b := false) rfl rfl rfl (by kernel_rfl) rfl ?_
 obtain⟨y4,hy,h⟩:=aS h
 refine clc false [.t (.int .i64), .t (.int .i64), .t (.int .i64)] [] (some 28) K (ok40 N _ _ _ hy) <| nN K (tn 2) ?_
 refine cnd h ?_ ?_<;>intro h
 ·refine nR K (tn 2) ?_
  cases h; exact VW.ret (rt [none])
 refine VW.skip <| nR K (tn 2) ?_
 refine VW.join (fun s => ∃ x26 x27 x28, s = ⟨[(4, hh 0), (7, I x27), (8, hh 1)], [ar 0 (.int .u8) x26 .dp, ar 0 Y44 x28 .dp]⟩ ∧ F16_j0 N x26 x27 x28 = some r) ?_ ?_
 ·refine nR K (tn 1) <| VW.block <| lop (fun k s => ∃ x39 x40 x41 x42 x43, s = ⟨[(4, hh 0), (6, I x40), (7, I x41), (8, hh 1), (9, I x43)], [ar 0 (.int .u8) x39 .dp, ar 0 Y44 x42 .dp]⟩ ∧ F16_l0 N k x39 x40 x41 x42 x43 = some r) N [.nilS 8 Y44 .dp, .ren [4, 6, 7, 8, 9] [0, 1]] ⟨y1.1, y2.1, y2.2, [], (0 : Int), rfl, h⟩ ?_
  rintro k48 s ⟨x39, x40, x41, x42, x43, rfl, h⟩
  cases k48 with
  | zero => cases show none = some r from h
  | succ k48 =>
   replace h : F16_l0_b N (F16_l0 N k48) x39 x40 x41 x42 x43 = some r := h
   unfold F16_l0_b at h
   refine sq <| nR K (tn 3) ?_
   refine cnd h ?_ ?_<;>intro h
   ·refine VW.skip <| sq <| VW.block <| sq <| VW.region <| nG K 2 (tn 2) ?_
    obtain⟨y51,hy,h⟩:=aS h
    refine clc true [.t (.sl (.int .u8)), .t (.int .i64)] [] (some 40) K (ok41 N _ _ hy) <| nN K (tn 6) <| sq <| nR K (tn 2) ?_
    refine cnd h ?_ ?_<;>intro h
    ·refine nR K (tn 2) ?_
     cases h; exact VW.ret (rt [none])
    refine VW.skip <| sq <| VW.region <| nG K 2 (tn 2) <| VO.litA (d := 47) (v := hh 4) (H' := [ar 0 (.int .u8) x39 .dp, ar 0 Y44 x42 .dp, none, bx [zi y51.1.1, zs y51.1.2.1, zi y51.1.2.2.1, zi y51.1.2.2.2.1, zi y51.1.2.2.2.2.1, zb y51.1.2.2.2.2.2.1, .hd 2 0 none] 45, ar 0 Y44 ([y51.1]) .dp]) K (by kernel_rfl) ?_
    obtain⟨g52,h⟩:=gS h
    refine VO.appM (d := 48) (φ := x42.length + ([y51.1]).length ≤ lim Y44) (v := .lf (.hd 1 1 none)) (H' := [ar 0 (.int .u8) x39 .dp, ar 1 Y44 (x42 ++ ([y51.1])) .dp, none, bx [zi y51.1.1, zs y51.1.2.1, zi y51.1.2.2.1, zi y51.1.2.2.2.1, zi y51.1.2.2.2.2.1, zb y51.1.2.2.2.2.2.1, .hd 2 0 none] 45, none]) K (by kernel_rfl) g52 <| nN K (tn 1) <| nE K (tn 2) <| nE K (tn 3) ?_
    exact aro [.ren [4, 6, 7, 8, 9] [0, 1]] ⟨x39, x40, y51.2, (x42 ++ ([y51.1])), (wr (x43 + (1 : Int))), rfl, h⟩
   refine VW.exit ?_
   exact arv [.ren [4, 7, 8] [0, 1]] ⟨x39, x41, x42, rfl, h⟩
 rintro s ⟨x26, x27, x28, rfl, h⟩
 unfold F16_j0 at h
 refine sq <| nR K (tn 4) ?_
 refine cnd h ?_ ?_<;>intro h
 ·refine nR K (tn 2) ?_
  cases h; exact VW.ret (rt [none])
 refine VW.skip <| sq <| sq <| VW.region <| nG K 1 (tn 1) ?_
 obtain⟨y30,hy,h⟩:=aS h
 refine clc true [.t (.sl Y44)] [] (some 55) K (ok19 N _ hy) <| nN K (tn 1) ?_
 refine cnd h ?_ ?_<;>intro h
 ·refine nR K (tn 2) ?_
  cases h; exact VW.ret (rt [none])
 refine VW.skip <| nR K (tn 3) ?_
 cases h; exact VW.ret (rt [some 1])
def F3_j0 (N : Nat) (a0 : (List Int)) : Option (Bool) :=
  andO (F15 N a0 (1 : Int)) fun y19 => andO (F14 N y19) fun y20 => andO (F11 N y20) fun y21 => andO (F16 N y20) fun y22 => cond (y21.2 != y22.2) (some false) (andO (F13 N y21.1 y22.1) fun y24 => cond (!y24) (some false) (cond (y21.2 != (0 : Int)) (some true) (andO (F7 N y21.1) fun y25 => cond y25.2 (andO (F8 N y25.1 y20) fun y26 => some y26) (some false))))
def F3 (N : Nat) (a0 : (List Int)) : Option (Bool) :=
  andO (F4 N a0) fun y2 => cond y2 (some true) (andO (F5 N a0) fun y3 => andO (F6 N y3) fun y4 => andO (F7 N y3) fun y5 => cond (!(y5.2 == y4.2)) (some false) (andO (F8 N y5.1 y4.1) fun y9 => cond (!y9) (some false) (andO (F9 N y3) fun y10 => andO (F10 N y3) fun y11 => cond (y10 != y11) (some false) (cond y4.2 (andO (F11 N y5.1) fun y28 => andO (F12 N a0 (0 : Int)) fun y29 => andO (F12 N a0 (1 : Int)) fun y30 => gd ((y5.1.length : Int) ≠ 0) (gd (0 ≤ (Int.tmod (IntKind.i64.wrap (y29 * (IntKind.i64.wrap ((1 : Int) + y30)))) (y5.1.length : Int)) ∧ (Int.tmod (IntKind.i64.wrap (y29 * (IntKind.i64.wrap ((1 : Int) + y30)))) (y5.1.length : Int)) ≤ (y5.1.length : Int)) (andO (F11 N ((y5.1.drop 0).take (Int.tmod (IntKind.i64.wrap (y29 * (IntKind.i64.wrap ((1 : Int) + y30)))) (y5.1.length : Int)).toNat)) fun y33 => cond (y28.2 != (0 : Int)) (some false) (andO (F13 N y28.1 y3) fun y34 => cond (!y34) (some false) (cond (y33.2 == (0 : Int)) (some false) (F3_j0 N a0)))))) (F3_j0 N a0)))))
theorem ok3 N a0 {r} (h : F3 N a0 = some r) : Con prog 3 [Vv (.sl (.int .u8)) a0] [.lf (.v .bool r)] := by
 refine ctr [.lf (.v .bool)] K func3 rfl fun w0 E0 ht => ?_
 unfold F3 at h
 show VW _ _ _ _ _ (retQ _ _ _ _) _
 refine nR K (tn 1) <| sq <| sq <| VW.region <| nG K 1 (tn 1) ?_
 obtain⟨y2,hy,h⟩:=aS h
 refine clc false [.t (.sl (.int .u8))] [] (some 20) K (ok4 N _ hy) <| nN K (tn 0) ?_
 refine cnd h ?_ ?_<;>intro h
 ·refine nR K (tn 1) ?_
  cases h; exact VW.ret (rt [])
 refine VW.skip <| sq <| VW.region <| nG K 1 (tn 1) ?_
 obtain⟨y3,hy,h⟩:=aS h
 refine clc false [.t (.sl (.int .u8))] [] (some 22) K (ok5 N _ hy) <| nN K (tn 1) <| sq <| VW.region <| nG K 1 (tn 1) ?_
 obtain⟨y4,hy,h⟩:=aS h
 refine clc true [.t (.sl Y44)] [] (some 25) K (ok6 N _ hy) <| nN K (tn 5) <| sq <| VW.region <| nG K 1 (tn 1) ?_
 obtain⟨y5,hy,h⟩:=aS h
 refine clc true [.t (.sl Y44)] [] (some 30) K (ok7 N _ hy) <| nN K (tn 5) <| sq <| sq <| VW.region <| nG K 4 (tn 4) ?_
 refine spC 36 h ?_ ?_<;>intro h
 ·refine nN K (tn 12) ?_
  refine VW.cond (b := true) (by kernel_rfl) (fun _ => ?_) (fun h' => nomatch h')
  refine nR K (tn 1) ?_
  cases h; exact VW.ret (rt [])
 refine nG K 2 (tn 2) <| VO.on (j := 3) (want := false) (d := 36) (b := false) rfl rfl rfl (by kernel_rfl) rfl ?_
 obtain⟨y9,hy,h⟩:=aS h
 refine clc true [.t (.sl (.int .u8)), .t (.sl (.int .u8))] [] (some 39) K (ok8 N _ _ hy) <| nG K 3 (tn 3) ?_
 refine spC 42 h ?_ ?_<;>intro h
 ·refine nN K (tn 6) ?_
  refine VW.cond (b := true) (by kernel_rfl) (fun _ => ?_) (fun h' => nomatch h')
  refine sR K [2] [] ⟨[(2, B false)], []⟩ (tn 1) ?_
  cases h; exact VW.ret (rt [])
 refine nG K 1 (tn 1) <| VO.on (j := 9) (want := false) (d := 42) (b := false) rfl rfl rfl (by kernel_rfl) rfl ?_
 obtain⟨y10,hy,h⟩:=aS h
 refine clc true [.t (.sl Y44)] [] (some 44) K (ok9 N _ hy) <| sG K 1 [0, 3, 5, 6, 42, 44, 45] [0, 2] ⟨[(0, Vv (.sl (.int .u8)) a0), (3, hh 0), (5, B y4.2), (6, hh 1), (42, B false), (44, I y10), (45, hh 0)], [ar 0 Y44 y3 .tp, ar 0 (.int .u8) y5.1 .dp]⟩ (tn 1) <| VO.on (j := 9) (want := false) (d := 42) (b := false) rfl rfl rfl (by kernel_rfl) rfl ?_
 obtain⟨y11,hy,h⟩:=aS h
 refine clc true [.t (.sl Y44)] [] (some 46) K (ok10 N _ hy) <| nN K (tn 2) ?_
 refine cnd h ?_ ?_<;>intro h
 ·refine nR K (tn 1) ?_
  cases h; exact VW.ret (rt [])
 refine VW.skip ?_
 refine VW.join (fun s => s = ⟨[(0, Vv (.sl (.int .u8)) a0)], []⟩ ∧ F3_j0 N a0 = some r) ?_ ?_
 ·refine nR K (tn 1) ?_
  refine cnd h ?_ ?_<;>intro h
  ·refine sq <| VW.region <| nG K 1 (tn 1) ?_
   obtain⟨y28,hy,h⟩:=aS h
   refine clc true [.t (.sl (.int .u8))] [] (some 52) K (ok11 N _ hy) <| nN K (tn 5) <| sq <| VW.region <| nG K 2 (tn 2) ?_
   obtain⟨y29,hy,h⟩:=aS h
   refine clc false [.t (.sl (.int .u8)), .t (.int .i64)] [] (some 58) K (ok12 N _ _ hy) <| nG K 1 (tn 1) ?_
   obtain⟨y30,hy,h⟩:=aS h
   refine clc false [.t (.sl (.int .u8)), .t (.int .i64)] [] (some 60) K (ok12 N _ _ hy) ?_
   obtain⟨g31,h⟩:=gS h
   obtain⟨g32,h⟩:=gS h
   refine nG K 6 (pu 4 (an g31 (an g32 (tn 0)))) ?_
   obtain⟨y33,hy,h⟩:=aS h
   refine clc true [.t (.sl (.int .u8))] [] (some 67) K (ok11 N _ hy) <| nN K (tn 5) <| sq <| VW.region <| nG K 3 (tn 3) ?_
   refine spC 72 h ?_ ?_<;>intro h
   ·refine nN K (tn 9) ?_
    refine VW.cond (b := true) (by kernel_rfl) (fun _ => ?_) (fun h' => nomatch h')
    refine nR K (tn 1) ?_
    cases h; exact VW.ret (rt [])
   refine nG K 2 (tn 2) <| VO.on (j := 2) (want := false) (d := 72) (b := false) rfl rfl rfl (by kernel_rfl) rfl ?_
   obtain⟨y34,hy,h⟩:=aS h
   refine clc true [.t (.sl Y44), .t (.sl Y44)] [] (some 75) K (ok13 N _ _ hy) <| nG K 3 (tn 3) ?_
   refine spC 78 h ?_ ?_<;>intro h
   ·refine nN K (tn 3) ?_
    refine VW.cond (b := true) (by kernel_rfl) (fun _ => ?_) (fun h' => nomatch h')
    refine sR K [2] [] ⟨[(2, B false)], []⟩ (tn 1) ?_
    cases h; exact VW.ret (rt [])
   refine nN K (tn 3) ?_
   refine cnd h ?_ ?_<;>intro h
   ·refine sR K [2] [] ⟨[(2, B false)], []⟩ (tn 1) ?_
    cases h; exact VW.ret (rt [])
   refine VW.skip ?_
   exact arv [.ren [0] []] ⟨rfl, h⟩
  refine VW.skip ?_
  exact arv [.ren [0] []] ⟨rfl, h⟩
 rintro s ⟨rfl, h⟩
 unfold F3_j0 at h
 refine sq <| VW.region <| nG K 1 (tn 1) ?_
 obtain⟨y19,hy,h⟩:=aS h
 refine clc false [.t (.sl (.int .u8)), .t (.int .i64)] [] (some 83) K (ok15 N _ _ hy) ?_
 obtain⟨y20,hy,h⟩:=aS h
 refine clc true [.t (.sl (.int .u8))] [] (some 84) K (ok14 N _ hy) <| nN K (tn 1) <| sq <| VW.region <| nG K 1 (tn 1) ?_
 obtain⟨y21,hy,h⟩:=aS h
 refine clc true [.t (.sl (.int .u8))] [] (some 87) K (ok11 N _ hy) <| nN K (tn 5) <| sq <| VW.region <| nG K 1 (tn 1) ?_
 obtain⟨y22,hy,h⟩:=aS h
 refine clc true [.t (.sl (.int .u8))] [] (some 92) K (ok16 N _ hy) <| nN K (tn 5) <| sq <| sq <| VW.region <| nG K 4 (tn 4) ?_
 refine spC 98 h ?_ ?_<;>intro h
 ·refine nN K (tn 5) ?_
  refine VW.cond (b := true) (by kernel_rfl) (fun _ => ?_) (fun h' => nomatch h')
  refine nR K (tn 1) ?_
  cases h; exact VW.ret (rt [])
 refine nG K 2 (tn 2) <| VO.on (j := 3) (want := false) (d := 98) (b := false) rfl rfl rfl (by kernel_rfl) rfl ?_
 obtain⟨y24,hy,h⟩:=aS h
 refine clc true [.t (.sl Y44), .t (.sl Y44)] [] (some 101) K (ok13 N _ _ hy) <| nN K (tn 2) ?_
 refine cnd h ?_ ?_<;>intro h
 ·refine nR K (tn 1) ?_
  cases h; exact VW.ret (rt [])
 refine VW.skip <| sq <| nR K (tn 2) ?_
 refine cnd h ?_ ?_<;>intro h
 ·refine nR K (tn 1) ?_
  cases h; exact VW.ret (rt [])
 refine VW.skip <| sq <| VW.region <| nG K 1 (tn 1) ?_
 obtain⟨y25,hy,h⟩:=aS h
 refine clc true [.t (.sl Y44)] [] (some 108) K (ok7 N _ hy) <| nN K (tn 5) <| sq <| VW.region <| sG K 2 [12, 17, 112] [1, 4] ⟨[(12, hh 0), (17, hh 1), (112, B y25.2)], [ar 0 (.int .u8) y20 .dp, ar 0 (.int .u8) y25.1 .dp]⟩ (tn 2) ?_
 refine spC 112 h ?_ ?_<;>intro h
 ·refine nG K 2 (tn 2) <| VO.on (j := 1) (want := true) (d := 112) (b := true) rfl rfl rfl (by kernel_rfl) rfl ?_
  obtain⟨y26,hy,h⟩:=aS h
  refine clc true [.t (.sl (.int .u8)), .t (.sl (.int .u8))] [] (some 115) K (ok8 N _ _ hy) <| nN K (tn 2) ?_
  cases h; exact VW.ret (rt [])
 refine nN K (tn 5) ?_
 cases h; exact VW.ret (rt [])
end Go.Proofs.Ytnkgeljjjeeaaaa.Vc
