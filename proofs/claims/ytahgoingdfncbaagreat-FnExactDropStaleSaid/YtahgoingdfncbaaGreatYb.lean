/- What functions of the program compute, and that they do. -/
import Derived.Test.YtahgoingdfncbaaGreatYa
namespace Go.Proofs.YtahgoingdfncbaaGreat.Vc
open Go Go.RowKit Go.Proofs.Tryz
set_option linter.unusedVariables false
set_option maxRecDepth 100000
set_option maxHeartbeats 4000000
def F131 (N : Nat) (a0 : (List Int)) (p1 : Int → Option (Bool)) : Option (Bool) :=
  andO (F149 N a0 p1) fun y1 => some (decide (y1 ≥ (0 : Int)))
theorem ok131 N a0 (g1 : FuncId) (p1 : Int → Option (Bool)) (hp1 : ∀ (z0 : Int) (r : Bool), p1 z0 = some r → Con prog g1 [I z0] [.lf (.v .bool r)]) {r} (h : F131 N a0 p1 = some r) : Con prog 131 [Vv (.sl (.int .i64)) a0, .clo g1 []] [.lf (.v .bool r)] := by
 refine ctr [.lf (.v .bool)] K func131 rfl fun w0 E0 ht => ?_
 unfold F131 at h
 show VW _ _ _ _ _ (retQ _ _ _ _) _
 refine nR K (tn 1) <| sq <| VW.region <| nG K 2 (tn 2) ?_
 obtain⟨y1,hy,h⟩:=aS h
 refine clc false [.t (.sl (.int .i64)), .clo []] [] (some 7) K (ok149 N _ g1  p1 hp1 hy) <| nN K (tn 2) ?_
 cases h; exact VW.ret (rt [])
def F132 (N : Nat) (a0 : Int) : Option (Bool) :=
  andO (F129 N a0) fun y1 => some (!y1)
theorem ok132 N a0 {r} (h : F132 N a0 = some r) : Con prog 132 [I a0] [.lf (.v .bool r)] := by
 refine ctr [.lf (.v .bool)] K func132 rfl fun w0 E0 ht => ?_
 unfold F132 at h
 show VW _ _ _ _ _ (retQ _ _ _ _) _
 refine nR K (tn 1) <| sq <| VW.region <| nG K 1 (tn 1) ?_
 obtain⟨y1,hy,h⟩:=aS h
 refine clc false [.t (.int .i64)] [] (some 4) K (ok129 N _ hy) <| nN K (tn 2) ?_
 cases h; exact VW.ret (rt [])
def F104_j0 (N : Nat) : Option (Bool) :=
  some true
def F104_l0_b (N : Nat) (a0 : (List Int)) (a1 : (List Int)) (nx29 : Int → Int → Option (Bool)) (x23 : Int) (x24 : Int) : Option (Bool) :=
  cond (decide (x24 < x23)) (gd (InR x24 a0.length) (gd (InR x24 a1.length) (cond ((a0.getD x24.toNat (Ty.dflt (.int .i64))) != (a1.getD x24.toNat (Ty.dflt (.int .i64)))) (some false) (nx29 x23 (IntKind.i64.wrap (x24 + (1 : Int))))))) (F104_j0 N)
def F104_l0 (N : Nat) (a0 : (List Int)) (a1 : (List Int)) := loopF (F104_l0_b N a0 a1) (fun _ _ => none)
theorem F104_l0_s N a0 a1 {k} (hk : 0 < k) x23 x24 : F104_l0 N a0 a1 k x23 x24 = F104_l0_b N a0 a1 (F104_l0 N a0 a1 (k - 1)) x23 x24 := by cases k;cases hk;rfl
def F104 (N : Nat) (a0 : (List Int)) (a1 : (List Int)) : Option (Bool) :=
  cond ((a0.length : Int) != (a1.length : Int)) (some false) (F104_l0 N a0 a1 N (a0.length : Int) (0 : Int))
theorem ok104 N a0 a1 {r} (h : F104 N a0 a1 = some r) : Con prog 104 [Vv (.sl (.int .i64)) a0, Vv (.sl (.int .i64)) a1] [.lf (.v .bool r)] := by
 refine ctr [.lf (.v .bool)] K func104 rfl fun w0 E0 ht => ?_
 unfold F104 at h
 show VW _ _ _ _ _ (retQ _ _ _ _) _
 refine nR K (tn 1) <| sq <| nR K (tn 5) ?_
 refine cnd h ?_ ?_<;>intro h
 ·refine nR K (tn 1) ?_
  cases h; exact VW.ret (rt [])
 refine VW.skip ?_
 refine VW.join (fun s => s = ⟨[], []⟩ ∧ F104_j0 N = some r) ?_ ?_
 ·refine nR K (tn 3) <| VW.block <| lop (fun k s => ∃ x23 x24, s = ⟨[(0, Vv (.sl (.int .i64)) a0), (1, Vv (.sl (.int .i64)) a1), (12, I x23), (13, I x24)], []⟩ ∧ F104_l0 N a0 a1 k x23 x24 = some r) N [.ren [0, 1, 12, 13] []] ⟨(a0.length : Int), (0 : Int), rfl, h⟩ ?_
  rintro k29 s ⟨x23, x24, rfl, h⟩
  cases k29 with
  | zero => cases show none = some r from h
  | succ k29 =>
   replace h : F104_l0_b N a0 a1 (F104_l0 N a0 a1 k29) x23 x24 = some r := h
   unfold F104_l0_b at h
   refine nR K (tn 1) <| sq ?_
   refine cnd h ?_ ?_<;>intro h
   ·refine VW.skip <| sq <| VW.block <| nR K (tn 2) <| sq ?_
    obtain⟨g32,h⟩:=gS h
    obtain⟨g33,h⟩:=gS h
    refine dr K [] [] [] [0, 1, 12, 13, 24] [] (pu 2 (an g32 (pu 3 (an g33 (tn 2))))) trivial ?_
    refine cnd h ?_ ?_<;>intro h
    ·refine nR K (tn 1) ?_
     cases h; exact VW.ret (rt [])
    refine VW.skip <| nE K (tn 2) ?_
    exact aro [.ren [0, 1, 12, 13] []] ⟨x23, (wr (x24 + (1 : Int))), rfl, h⟩
   refine VW.exit ?_
   exact arv [.ren [] []] ⟨rfl, h⟩
 rintro s ⟨rfl, h⟩
 unfold F104_j0 at h
 refine nR K (tn 1) ?_
 cases h; exact VW.ret (rt [])
def F79 (N : Nat) (a0 : Z87) (a1 : Z87) : Option (Bool) :=
  cond (a0.1 == a1.1) (cond (a0.2.1.toList == a1.2.1.toList) (cond (a0.2.2.1 == a1.2.2.1) (cond (a0.2.2.2.1 == a1.2.2.2.1) (cond (a0.2.2.2.2.1 == a1.2.2.2.2.1) (cond (a0.2.2.2.2.2.1 == a1.2.2.2.2.2.1) (andO (F104 N a0.2.2.2.2.2.2 a1.2.2.2.2.2.2) fun y1 => some y1) (some false)) (some false)) (some false)) (some false)) (some false)) (some false)
theorem ok79 N a0 a1 {r} (h : F79 N a0 a1 = some r) : Con prog 79 [.agg (lv Y87 a0), .agg (lv Y87 a1)] [.lf (.v .bool r)] := by
 refine ctr [.lf (.v .bool)] K func79 rfl fun w0 E0 ht => ?_
 unfold F79 at h
 show VW _ _ _ _ _ (retQ _ _ _ _) _
 refine nR K (tn 3) <| sq <| VW.region <| nG K 6 (tn 6) ?_
 refine spC 10 h ?_ ?_<;>intro h
 ·refine nG K 7 (tn 7) ?_
  refine spC 17 h ?_ ?_<;>intro h
  ·refine nG K 7 (tn 7) ?_
   refine spC 24 h ?_ ?_<;>intro h
   ·refine nG K 7 (tn 7) ?_
    refine spC 31 h ?_ ?_<;>intro h
    ·refine nG K 7 (tn 7) ?_
     refine spC 38 h ?_ ?_<;>intro h
     ·refine nG K 7 (tn 7) ?_
      refine spC 45 h ?_ ?_<;>intro h
      ·refine nG K 4 (tn 4) <| VO.on (j := 40) (want := true) (d := 45) (b := true) rfl rfl rfl (by kernel_rfl) rfl ?_
       obtain⟨y1,hy,h⟩:=aS h
       refine clc false [.t (.sl (.int .i64)), .t (.sl (.int .i64))] [] (some 50) K (ok104 N _ _ hy) <| nN K (tn 2) ?_
       cases h; exact VW.ret (rt [])
      refine nN K (tn 7) ?_
      cases h; exact VW.ret (rt [])
     refine nN K (tn 14) ?_
     cases h; exact VW.ret (rt [])
    refine nN K (tn 21) ?_
    cases h; exact VW.ret (rt [])
   refine nN K (tn 28) ?_
   cases h; exact VW.ret (rt [])
  refine nN K (tn 35) ?_
  cases h; exact VW.ret (rt [])
 refine nN K (tn 42) ?_
 cases h; exact VW.ret (rt [])
def F99_j0 (N : Nat) (x38 : ByteArray) (x39 : Int) (x40 : Int) (x41 : Int) (x42 : Bool) (x43 : (List Int)) (x44 : Bool) : Option (Bool) :=
  cond x44 (andO (F79 N ((0 : Int), (x38, (x39, (x40, (x41, (x42, x43)))))) ((0 : Int), (ByteArray.empty, ((0 : Int), ((0 : Int), ((0 : Int), (false, []))))))) fun y45 => some y45) (some false)
def F99_j1 (N : Nat) (x52 : ByteArray) (x53 : Int) (x54 : Int) (x55 : Int) (x56 : Bool) (x57 : (List Int)) (x58 : Bool) : Option (Bool) :=
  F99_j0 N x52 (0 : Int) (0 : Int) (0 : Int) false x57 x58
def F99_j2 (N : Nat) (x62 : ByteArray) (x63 : Int) (x64 : Int) (x65 : Int) (x66 : Bool) (x67 : (List Int)) : Option (Bool) :=
  F99_j0 N x62 (0 : Int) (0 : Int) (0 : Int) false x67 false
def F99_j3 (N : Nat) (x76 : ByteArray) (x77 : Int) (x78 : Int) (x79 : Int) (x80 : Bool) (x81 : (List Int)) (x82 : Bool) : Option (Bool) :=
  cond x82 (F99_j0 N x76 x77 x78 x79 x80 x81 true) (F99_j0 N x76 x77 x78 x79 x80 x81 false)
def F99 (N : Nat) (a0 : Z87) : Option (Bool) :=
  cond (a0.1 == (0 : Int)) (andO (F70 N a0.2.1) fun y47 => F99_j0 N ByteArray.empty a0.2.2.1 a0.2.2.2.1 a0.2.2.2.2.1 a0.2.2.2.2.2.1 a0.2.2.2.2.2.2 y47) (cond (a0.1 == (1 : Int)) (andO (F129 N a0.2.2.1) fun y48 => cond y48 (andO (F47 N a0.2.2.2.1 (0 : Int) (3 : Int)) fun y49 => cond (a0.2.2.2.1 == (3 : Int)) (cond y49 (cond (a0.2.2.2.2.1 == (0 : Int)) (F99_j1 N a0.2.1 a0.2.2.1 a0.2.2.2.1 a0.2.2.2.2.1 a0.2.2.2.2.2.1 a0.2.2.2.2.2.2 (!a0.2.2.2.2.2.1)) (F99_j1 N a0.2.1 a0.2.2.1 a0.2.2.2.1 a0.2.2.2.2.1 a0.2.2.2.2.2.1 a0.2.2.2.2.2.2 false)) (F99_j1 N a0.2.1 a0.2.2.1 a0.2.2.2.1 a0.2.2.2.2.1 a0.2.2.2.2.2.1 a0.2.2.2.2.2.2 false)) (cond a0.2.2.2.2.2.1 (cond y49 (andO (F130 N a0.2.2.2.2.1) fun y60 => F99_j1 N a0.2.1 a0.2.2.1 a0.2.2.2.1 a0.2.2.2.2.1 a0.2.2.2.2.2.1 a0.2.2.2.2.2.2 y60) (F99_j1 N a0.2.1 a0.2.2.1 a0.2.2.2.1 a0.2.2.2.2.1 a0.2.2.2.2.2.1 a0.2.2.2.2.2.2 false)) (cond y49 (andO (F122 N a0.2.2.2.2.1) fun y61 => F99_j1 N a0.2.1 a0.2.2.1 a0.2.2.2.1 a0.2.2.2.2.1 a0.2.2.2.2.2.1 a0.2.2.2.2.2.2 y61) (F99_j1 N a0.2.1 a0.2.2.1 a0.2.2.2.1 a0.2.2.2.2.1 a0.2.2.2.2.2.1 a0.2.2.2.2.2.2 false)))) (cond (a0.2.2.2.1 == (3 : Int)) (F99_j2 N a0.2.1 a0.2.2.1 a0.2.2.2.1 a0.2.2.2.2.1 a0.2.2.2.2.2.1 a0.2.2.2.2.2.2) (cond a0.2.2.2.2.2.1 (F99_j2 N a0.2.1 a0.2.2.1 a0.2.2.2.1 a0.2.2.2.2.1 a0.2.2.2.2.2.1 a0.2.2.2.2.2.2) (F99_j2 N a0.2.1 a0.2.2.1 a0.2.2.2.1 a0.2.2.2.2.1 a0.2.2.2.2.2.1 a0.2.2.2.2.2.2)))) (cond (a0.1 == (2 : Int)) (andO (F47 N (a0.2.2.2.2.2.2.length : Int) (1 : Int) (6 : Int)) fun y69 => cond y69 (andO (F131 N a0.2.2.2.2.2.2 (fun z0 => F132 N z0)) fun y70 => F99_j0 N a0.2.1 a0.2.2.1 a0.2.2.2.1 a0.2.2.2.2.1 a0.2.2.2.2.2.1 ([]) (!y70)) (F99_j0 N a0.2.1 a0.2.2.1 a0.2.2.2.1 a0.2.2.2.2.1 a0.2.2.2.2.2.1 ([]) false)) (cond (a0.1 == (3 : Int)) (andO (F129 N a0.2.2.1) fun y71 => cond y71 (andO (F129 N a0.2.2.2.2.1) fun y72 => F99_j0 N a0.2.1 (0 : Int) a0.2.2.2.1 (0 : Int) a0.2.2.2.2.2.1 a0.2.2.2.2.2.2 y72) (F99_j0 N a0.2.1 (0 : Int) a0.2.2.2.1 (0 : Int) a0.2.2.2.2.2.1 a0.2.2.2.2.2.2 false)) (cond (a0.1 == (5 : Int)) (andO (F129 N a0.2.2.1) fun y73 => F99_j0 N a0.2.1 (0 : Int) a0.2.2.2.1 a0.2.2.2.2.1 a0.2.2.2.2.2.1 a0.2.2.2.2.2.2 y73) (cond (a0.1 == (6 : Int)) (andO (F47 N a0.2.2.2.2.1 (0 : Int) (1000000 : Int)) fun y74 => cond y74 (cond (!a0.2.2.2.2.2.1) (F99_j0 N a0.2.1 a0.2.2.1 a0.2.2.2.1 (0 : Int) false a0.2.2.2.2.2.2 true) (andO (F130 N a0.2.2.2.2.1) fun y75 => F99_j0 N a0.2.1 a0.2.2.1 a0.2.2.2.1 (0 : Int) false a0.2.2.2.2.2.2 y75)) (F99_j0 N a0.2.1 a0.2.2.1 a0.2.2.2.1 (0 : Int) false a0.2.2.2.2.2.2 false)) (cond (a0.1 == (4 : Int)) (F99_j3 N a0.2.1 a0.2.2.1 a0.2.2.2.1 a0.2.2.2.2.1 a0.2.2.2.2.2.1 a0.2.2.2.2.2.2 (a0.1 == (4 : Int))) (F99_j3 N a0.2.1 a0.2.2.1 a0.2.2.2.1 a0.2.2.2.2.1 a0.2.2.2.2.2.1 a0.2.2.2.2.2.2 (a0.1 == (7 : Int)))))))))
theorem ok99 N a0 {r} (h : F99 N a0 = some r) : Con prog 99 [.agg (lv Y87 a0)] [.lf (.v .bool r)] := by
 refine ctr [.lf (.v .bool)] K func99 rfl fun w0 E0 ht => ?_
 unfold F99 at h
 show VW _ _ _ _ _ (retQ _ _ _ _) _
 refine nR K (tn 2) <| nR K (tn 3) <| nR K (tn 2) <| nR K (tn 1) ?_
 refine VW.join (fun s => ∃ x38 x39 x40 x41 x42 x43 x44, s = ⟨[(3, .lf (.ptr 0 0 0 0)), (4, B x44)], [bx [zi (0 : Int), zs x38, zi x39, zi x40, zi x41, zb x42, .v (.sl (.int .i64)) x43] 88]⟩ ∧ F99_j0 N x38 x39 x40 x41 x42 x43 x44 = some r) ?_ ?_
 ·refine nR K (tn 2) <| VW.block <| nR K (tn 2) ?_
  refine cnd h ?_ ?_<;>intro h
  ·refine sq <| VW.region <| nG K 2 (tn 2) ?_
   obtain⟨y47,hy,h⟩:=aS h
   refine clc false [.t .str] [] (some 13) K (ok70 N _ hy) <| nN K (tn 1) <| nE K (tn 2) ?_
   exact arv [.ren [3, 4] [1]] ⟨ByteArray.empty, a0.2.2.1, a0.2.2.2.1, a0.2.2.2.2.1, a0.2.2.2.2.2.1, a0.2.2.2.2.2.2, y47, rfl, h⟩
  refine nR K (tn 2) ?_
  refine cnd h ?_ ?_<;>intro h
  ·refine sq <| VW.region <| nG K 2 (tn 2) ?_
   obtain⟨y48,hy,h⟩:=aS h
   refine clc false [.t (.int .i64)] [] (some 19) K (ok129 N _ hy) <| nG K 1 (tn 1) ?_
   refine spC 20 h ?_ ?_<;>intro h
   ·refine nG K 2 (tn 2) <| VO.on (j := 3) (want := true) (d := 20) (b := true) rfl rfl rfl (by kernel_rfl) rfl ?_
    obtain⟨y49,hy,h⟩:=aS h
    refine clc false [.t (.int .i64), .t (.int .i64), .t (.int .i64)] [] (some 23) K (ok47 N _ _ _ hy) <| nN K (tn 2) ?_
    refine VW.join (fun s => ∃ x52 x53 x54 x55 x56 x57 x58, s = ⟨[(3, .lf (.ptr 0 0 0 0)), (4, B x58)], [bx [zi (0 : Int), zs x52, zi x53, zi x54, zi x55, zb x56, .v (.sl (.int .i64)) x57] 88]⟩ ∧ F99_j1 N x52 x53 x54 x55 x56 x57 x58 = some r) ?_ ?_
    ·refine VW.block <| nR K (tn 4) ?_
     refine cnd h ?_ ?_<;>intro h
     ·refine VW.region <| sGh K 2 [1, 3, 36] [0, 1] [(1, .lf (.ptr 0 0 0 0)), (3, .lf (.ptr 1 0 0 0)), (36, B y49)] (tn 2) ?_
      refine spC 36 h ?_ ?_<;>intro h
      ·refine nG K 5 (tn 5) ?_
       refine spC 41 h ?_ ?_<;>intro h
       ·refine nN K (tn 5) ?_
        exact arv [.ren [3, 4] [1]] ⟨a0.2.1, a0.2.2.1, a0.2.2.2.1, a0.2.2.2.2.1, a0.2.2.2.2.2.1, a0.2.2.2.2.2.2, (!a0.2.2.2.2.2.1), rfl, h⟩
       refine nN K (tn 5) ?_
       exact arv [.ren [3, 4] [1]] ⟨a0.2.1, a0.2.2.1, a0.2.2.2.1, a0.2.2.2.2.1, a0.2.2.2.2.2.1, a0.2.2.2.2.2.2, false, rfl, h⟩
      refine nN K (tn 10) ?_
      exact arv [.ren [3, 4] [1]] ⟨a0.2.1, a0.2.2.1, a0.2.2.2.1, a0.2.2.2.2.1, a0.2.2.2.2.2.1, a0.2.2.2.2.2.2, false, rfl, h⟩
     refine sRh K [1, 3, 4, 46] [0, 1] [(1, .lf (.ptr 0 0 0 0)), (3, .lf (.ptr 1 0 0 0)), (4, B y49), (46, B a0.2.2.2.2.2.1)] (tn 3) ?_
     refine cnd h ?_ ?_<;>intro h
     ·refine VW.region <| nG K 2 (tn 2) ?_
      refine spC 50 h ?_ ?_<;>intro h
      ·refine nG K 2 (tn 2) <| VO.on (j := 1) (want := true) (d := 50) (b := true) rfl rfl rfl (by kernel_rfl) rfl ?_
       obtain⟨y60,hy,h⟩:=aS h
       refine clc false [.t (.int .i64)] [] (some 53) K (ok130 N _ hy) <| nN K (tn 2) ?_
       exact arv [.ren [3, 4] [1]] ⟨a0.2.1, a0.2.2.1, a0.2.2.2.1, a0.2.2.2.2.1, a0.2.2.2.2.2.1, a0.2.2.2.2.2.2, y60, rfl, h⟩
      refine nN K (tn 5) ?_
      exact arv [.ren [3, 4] [1]] ⟨a0.2.1, a0.2.2.1, a0.2.2.2.1, a0.2.2.2.2.1, a0.2.2.2.2.2.1, a0.2.2.2.2.2.2, false, rfl, h⟩
     refine VW.region <| nG K 2 (tn 2) ?_
     refine spC 26 h ?_ ?_<;>intro h
     ·refine nG K 2 (tn 2) <| VO.on (j := 1) (want := true) (d := 26) (b := true) rfl rfl rfl (by kernel_rfl) rfl ?_
      obtain⟨y61,hy,h⟩:=aS h
      refine clc false [.t (.int .i64)] [] (some 29) K (ok122 N _ hy) <| nN K (tn 2) ?_
      exact arv [.ren [3, 4] [1]] ⟨a0.2.1, a0.2.2.1, a0.2.2.2.1, a0.2.2.2.2.1, a0.2.2.2.2.2.1, a0.2.2.2.2.2.2, y61, rfl, h⟩
     refine nN K (tn 5) ?_
     exact arv [.ren [3, 4] [1]] ⟨a0.2.1, a0.2.2.1, a0.2.2.2.1, a0.2.2.2.2.1, a0.2.2.2.2.2.1, a0.2.2.2.2.2.2, false, rfl, h⟩
    rintro s ⟨x52, x53, x54, x55, x56, x57, x58, rfl, h⟩
    unfold F99_j1 at h
    refine nE K (tn 8) ?_
    exact arv [.ren [3, 4] [0]] ⟨x52, (0 : Int), (0 : Int), (0 : Int), false, x57, x58, rfl, h⟩
   refine nN K (tn 5) ?_
   refine VW.join (fun s => ∃ x62 x63 x64 x65 x66 x67, s = ⟨[(3, .lf (.ptr 0 0 0 0)), (4, B false)], [bx [zi (0 : Int), zs x62, zi x63, zi x64, zi x65, zb x66, .v (.sl (.int .i64)) x67] 88]⟩ ∧ F99_j2 N x62 x63 x64 x65 x66 x67 = some r) ?_ ?_
   ·refine VW.block <| nR K (tn 4) ?_
    refine cnd h ?_ ?_<;>intro h
    ·refine nE K (tn 12) ?_
     exact arv [.ren [3, 4] [1]] ⟨a0.2.1, a0.2.2.1, a0.2.2.2.1, a0.2.2.2.2.1, a0.2.2.2.2.2.1, a0.2.2.2.2.2.2, rfl, h⟩
    refine nR K (tn 3) ?_
    refine cnd h ?_ ?_<;>intro h
    ·refine rR K [3, 4] [1] ⟨[(3, .lf (.ptr 0 0 0 0)), (4, B false)], [bx [zi (0 : Int), zs a0.2.1, zi a0.2.2.1, zi a0.2.2.2.1, zi a0.2.2.2.2.1, zb a0.2.2.2.2.2.1, .v (.sl (.int .i64)) a0.2.2.2.2.2.2] 88]⟩ (tn 7) ?_
     exact arv [.ren [3, 4] [0]] ⟨a0.2.1, a0.2.2.1, a0.2.2.2.1, a0.2.2.2.2.1, a0.2.2.2.2.2.1, a0.2.2.2.2.2.2, rfl, h⟩
    refine rR K [3, 4] [1] ⟨[(3, .lf (.ptr 0 0 0 0)), (4, B false)], [bx [zi (0 : Int), zs a0.2.1, zi a0.2.2.1, zi a0.2.2.2.1, zi a0.2.2.2.2.1, zb a0.2.2.2.2.2.1, .v (.sl (.int .i64)) a0.2.2.2.2.2.2] 88]⟩ (tn 7) ?_
    exact arv [.ren [3, 4] [0]] ⟨a0.2.1, a0.2.2.1, a0.2.2.2.1, a0.2.2.2.2.1, a0.2.2.2.2.2.1, a0.2.2.2.2.2.2, rfl, h⟩
   rintro s ⟨x62, x63, x64, x65, x66, x67, rfl, h⟩
   unfold F99_j2 at h
   refine nE K (tn 8) ?_
   exact arv [.ren [3, 4] [0]] ⟨x62, (0 : Int), (0 : Int), (0 : Int), false, x67, false, rfl, h⟩
  refine nR K (tn 2) ?_
  refine cnd h ?_ ?_<;>intro h
  ·refine sq <| VW.region <| nG K 3 (tn 3) ?_
   obtain⟨y69,hy,h⟩:=aS h
   refine clc false [.t (.int .i64), .t (.int .i64), .t (.int .i64)] [] (some 64) K (ok47 N _ _ _ hy) <| nG K 1 (tn 1) ?_
   refine spC 65 h ?_ ?_<;>intro h
   ·refine nG K 2 (tn 2) <| VO.on (j := 4) (want := true) (d := 65) (b := true) rfl rfl rfl (by kernel_rfl) rfl ?_
    obtain⟨y70,hy,h⟩:=aS h
    refine clc false [.t (.sl (.int .i64)), .clo []] [] (some 68) K (ok131 N _ 132  (fun z0 => F132 N z0 ) (fun z0 _ hz => ok132 N z0 hz) hy) <| nN K (tn 3) <| rR K [3, 4] [1] ⟨[(3, .lf (.ptr 0 0 0 0)), (4, B (!y70))], [bx [zi (0 : Int), zs a0.2.1, zi a0.2.2.1, zi a0.2.2.2.1, zi a0.2.2.2.2.1, zb a0.2.2.2.2.2.1, .nil] 88]⟩ (tn 2) ?_
    exact arv [.nilB 0 6 (.int .i64), .ren [3, 4] [0]] ⟨a0.2.1, a0.2.2.1, a0.2.2.2.1, a0.2.2.2.2.1, a0.2.2.2.2.2.1, [], (!y70), rfl, h⟩
   refine nN K (tn 6) <| nE K (tn 2) ?_
   exact arv [.nilB 1 6 (.int .i64), .ren [3, 4] [1]] ⟨a0.2.1, a0.2.2.1, a0.2.2.2.1, a0.2.2.2.2.1, a0.2.2.2.2.2.1, [], false, rfl, h⟩
  refine nR K (tn 2) ?_
  refine cnd h ?_ ?_<;>intro h
  ·refine sq <| VW.region <| nG K 2 (tn 2) ?_
   obtain⟨y71,hy,h⟩:=aS h
   refine clc false [.t (.int .i64)] [] (some 76) K (ok129 N _ hy) <| nG K 1 (tn 1) ?_
   refine spC 77 h ?_ ?_<;>intro h
   ·refine nG K 2 (tn 2) <| VO.on (j := 3) (want := true) (d := 77) (b := true) rfl rfl rfl (by kernel_rfl) rfl ?_
    obtain⟨y72,hy,h⟩:=aS h
    refine clc false [.t (.int .i64)] [] (some 80) K (ok129 N _ hy) <| sN K [3, 4] [1] ⟨[(3, .lf (.ptr 0 0 0 0)), (4, B y72)], [bx [zi (0 : Int), zs a0.2.1, zi a0.2.2.1, zi a0.2.2.2.1, zi a0.2.2.2.2.1, zb a0.2.2.2.2.2.1, .v (.sl (.int .i64)) a0.2.2.2.2.2.2] 88]⟩ (tn 2) <| nE K (tn 4) ?_
    exact arv [.ren [3, 4] [0]] ⟨a0.2.1, (0 : Int), a0.2.2.2.1, (0 : Int), a0.2.2.2.2.2.1, a0.2.2.2.2.2.2, y72, rfl, h⟩
   refine nN K (tn 5) <| rR K [3, 4] [1] ⟨[(3, .lf (.ptr 0 0 0 0)), (4, B false)], [bx [zi (0 : Int), zs a0.2.1, zi (0 : Int), zi a0.2.2.2.1, zi (0 : Int), zb a0.2.2.2.2.2.1, .v (.sl (.int .i64)) a0.2.2.2.2.2.2] 88]⟩ (tn 4) ?_
   exact arv [.ren [3, 4] [0]] ⟨a0.2.1, (0 : Int), a0.2.2.2.1, (0 : Int), a0.2.2.2.2.2.1, a0.2.2.2.2.2.2, false, rfl, h⟩
  refine nR K (tn 2) ?_
  refine cnd h ?_ ?_<;>intro h
  ·refine sq <| VW.region <| nG K 2 (tn 2) ?_
   obtain⟨y73,hy,h⟩:=aS h
   refine clc false [.t (.int .i64)] [] (some 88) K (ok129 N _ hy) <| nN K (tn 1) <| rR K [3, 4] [1] ⟨[(3, .lf (.ptr 0 0 0 0)), (4, B y73)], [bx [zi (0 : Int), zs a0.2.1, zi (0 : Int), zi a0.2.2.2.1, zi a0.2.2.2.2.1, zb a0.2.2.2.2.2.1, .v (.sl (.int .i64)) a0.2.2.2.2.2.2] 88]⟩ (tn 2) ?_
   exact arv [.ren [3, 4] [0]] ⟨a0.2.1, (0 : Int), a0.2.2.2.1, a0.2.2.2.2.1, a0.2.2.2.2.2.1, a0.2.2.2.2.2.2, y73, rfl, h⟩
  refine nR K (tn 2) ?_
  refine cnd h ?_ ?_<;>intro h
  ·refine sq <| VW.region <| nG K 2 (tn 2) ?_
   obtain⟨y74,hy,h⟩:=aS h
   refine clc false [.t (.int .i64), .t (.int .i64), .t (.int .i64)] [] (some 94) K (ok47 N _ _ _ hy) <| sGh K 1 [1, 3, 95] [0, 1] [(1, .lf (.ptr 0 0 0 0)), (3, .lf (.ptr 1 0 0 0)), (95, B y74)] (tn 1) ?_
   refine spC 95 h ?_ ?_<;>intro h
   ·refine nG K 4 (tn 4) ?_
    refine spC 99 h ?_ ?_<;>intro h
    ·refine nN K (tn 6) <| nE K (tn 4) ?_
     exact arv [.ren [3, 4] [1]] ⟨a0.2.1, a0.2.2.1, a0.2.2.2.1, (0 : Int), false, a0.2.2.2.2.2.2, true, rfl, h⟩
    refine nG K 2 (tn 2) <| VO.on (j := 7) (want := false) (d := 99) (b := false) rfl rfl rfl (by kernel_rfl) rfl ?_
    obtain⟨y75,hy,h⟩:=aS h
    refine clc false [.t (.int .i64)] [] (some 102) K (ok130 N _ hy) <| nN K (tn 3) <| nE K (tn 4) ?_
    exact arv [.ren [3, 4] [1]] ⟨a0.2.1, a0.2.2.1, a0.2.2.2.1, (0 : Int), false, a0.2.2.2.2.2.2, y75, rfl, h⟩
   refine nN K (tn 10) <| nE K (tn 4) ?_
   exact arv [.ren [3, 4] [1]] ⟨a0.2.1, a0.2.2.1, a0.2.2.2.1, (0 : Int), false, a0.2.2.2.2.2.2, false, rfl, h⟩
  refine VW.join (fun s => ∃ x76 x77 x78 x79 x80 x81 x82, s = ⟨[(3, .lf (.ptr 0 0 0 0)), (4, B false), (107, B x82)], [bx [zi (0 : Int), zs x76, zi x77, zi x78, zi x79, zb x80, .v (.sl (.int .i64)) x81] 88]⟩ ∧ F99_j3 N x76 x77 x78 x79 x80 x81 x82 = some r) ?_ ?_
  ·refine nR K (tn 2) ?_
   refine cnd h ?_ ?_<;>intro h
   ·refine VW.skip ?_
    exact arv [.ren [3, 4, 107] [1]] ⟨a0.2.1, a0.2.2.1, a0.2.2.2.1, a0.2.2.2.2.1, a0.2.2.2.2.2.1, a0.2.2.2.2.2.2, (a0.1 == (4 : Int)), rfl, h⟩
   refine rR K [3, 4, 107] [1] ⟨[(3, .lf (.ptr 0 0 0 0)), (4, B false), (107, B (a0.1 == (7 : Int)))], [bx [zi (0 : Int), zs a0.2.1, zi a0.2.2.1, zi a0.2.2.2.1, zi a0.2.2.2.2.1, zb a0.2.2.2.2.2.1, .v (.sl (.int .i64)) a0.2.2.2.2.2.2] 88]⟩ (tn 2) ?_
   exact arv [.ren [3, 4, 107] [0]] ⟨a0.2.1, a0.2.2.1, a0.2.2.2.1, a0.2.2.2.2.1, a0.2.2.2.2.2.1, a0.2.2.2.2.2.2, (a0.1 == (7 : Int)), rfl, h⟩
  rintro s ⟨x76, x77, x78, x79, x80, x81, x82, rfl, h⟩
  unfold F99_j3 at h
  refine cnd h ?_ ?_<;>intro h
  ·refine nE K (tn 1) ?_
   exact arv [.ren [3, 4] [0]] ⟨x76, x77, x78, x79, x80, x81, true, rfl, h⟩
  refine VW.skip ?_
  exact arv [.ren [3, 4] [0]] ⟨x76, x77, x78, x79, x80, x81, false, rfl, h⟩
 rintro s ⟨x38, x39, x40, x41, x42, x43, x44, rfl, h⟩
 unfold F99_j0 at h
 refine sq <| VW.region <| nG K 2 (tn 2) ?_
 refine spC 111 h ?_ ?_<;>intro h
 ·refine nG K 2 (tn 2) <| VO.on (j := 1) (want := true) (d := 111) (b := true) rfl rfl rfl (by kernel_rfl) rfl ?_
  obtain⟨y45,hy,h⟩:=aS h
  refine clc false [.t Y87, .t Y87] [] (some 114) K (ok79 N _ _ hy) <| nN K (tn 2) ?_
  cases h; exact VW.ret (rt [])
 refine nN K (tn 5) ?_
 cases h; exact VW.ret (rt [])
def F98 (N : Nat) (a0 : Z87) : Option (Bool) :=
  andO (F99 N a0) fun y1 => some (!y1)
theorem ok98 N a0 {r} (h : F98 N a0 = some r) : Con prog 98 [.agg (lv Y87 a0)] [.lf (.v .bool r)] := by
 refine ctr [.lf (.v .bool)] K func98 rfl fun w0 E0 ht => ?_
 unfold F98 at h
 show VW _ _ _ _ _ (retQ _ _ _ _) _
 refine nR K (tn 2) <| sq <| VW.region <| nG K 1 (tn 1) ?_
 obtain⟨y1,hy,h⟩:=aS h
 refine clc false [.t Y87] [] (some 4) K (ok99 N _ hy) <| nN K (tn 2) ?_
 cases h; exact VW.ret (rt [])
def F133_j0 (N : Nat) (x6 : Bool) : Option (Int) :=
  cond x6 (some (1 : Int)) (some (-1 : Int))
def F133_j1 (N : Nat) (a0 : Int) (x5 : Bool) : Option (Int) :=
  cond x5 (some (2 : Int)) (cond (a0 == (1 : Int)) (F133_j0 N (a0 == (1 : Int))) (cond (a0 == (2 : Int)) (F133_j0 N (a0 == (2 : Int))) (cond (a0 == (5 : Int)) (F133_j0 N (a0 == (5 : Int))) (cond (a0 == (6 : Int)) (F133_j0 N (a0 == (6 : Int))) (F133_j0 N (a0 == (7 : Int)))))))
def F133 (N : Nat) (a0 : Int) : Option (Int) :=
  cond (a0 == (0 : Int)) (some (0 : Int)) (cond (a0 == (3 : Int)) (F133_j1 N a0 (a0 == (3 : Int))) (F133_j1 N a0 (a0 == (4 : Int))))
theorem ok133 N a0 {r} (h : F133 N a0 = some r) : Con prog 133 [I a0] [.lf (.v (.int .i64) r)] := by
 refine ctr [.lf (.v (.int .i64))] K func133 rfl fun w0 E0 ht => ?_
 unfold F133 at h
 show VW _ _ _ _ _ (retQ _ _ _ _) _
 refine nR K (tn 1) <| sq <| nR K (tn 1) <| VW.block <| nR K (tn 2) ?_
 refine cnd h ?_ ?_<;>intro h
 ·refine nR K (tn 1) ?_
  cases h; exact VW.ret (rt [])
 refine VW.join (fun s => ∃ x5, s = ⟨[(3, I a0), (6, B x5)], []⟩ ∧ F133_j1 N a0 x5 = some r) ?_ ?_
 ·refine nR K (tn 2) ?_
  refine cnd h ?_ ?_<;>intro h
  ·refine VW.skip ?_
   exact arv [.ren [3, 6] []] ⟨(a0 == (3 : Int)), rfl, h⟩
  refine nE K (tn 2) ?_
  exact arv [.ren [3, 6] []] ⟨(a0 == (4 : Int)), rfl, h⟩
 rintro s ⟨x5, rfl, h⟩
 unfold F133_j1 at h
 refine cnd h ?_ ?_<;>intro h
 ·refine nR K (tn 1) ?_
  cases h; exact VW.ret (rt [])
 refine VW.join (fun s => ∃ x6, s = ⟨[(9, B x6)], []⟩ ∧ F133_j0 N x6 = some r) ?_ ?_
 ·refine nR K (tn 2) ?_
  refine cnd h ?_ ?_<;>intro h
  ·refine VW.skip ?_
   exact arv [.ren [9] []] ⟨(a0 == (1 : Int)), rfl, h⟩
  refine nR K (tn 2) ?_
  refine cnd h ?_ ?_<;>intro h
  ·refine VW.skip ?_
   exact arv [.ren [9] []] ⟨(a0 == (2 : Int)), rfl, h⟩
  refine nR K (tn 2) ?_
  refine cnd h ?_ ?_<;>intro h
  ·refine VW.skip ?_
   exact arv [.ren [9] []] ⟨(a0 == (5 : Int)), rfl, h⟩
  refine nR K (tn 2) ?_
  refine cnd h ?_ ?_<;>intro h
  ·refine VW.skip ?_
   exact arv [.ren [9] []] ⟨(a0 == (6 : Int)), rfl, h⟩
  refine nE K (tn 2) ?_
  exact arv [.ren [9] []] ⟨(a0 == (7 : Int)), rfl, h⟩
 rintro s ⟨x6, rfl, h⟩
 unfold F133_j0 at h
 refine cnd h ?_ ?_<;>intro h
 ·refine nR K (tn 1) ?_
  cases h; exact VW.ret (rt [])
 refine VW.skip <| nR K (tn 1) ?_
 cases h; exact VW.ret (rt [])
def F100_j0 (N : Nat) (x13 : Int) : Option (Int) :=
  some x13
def F100_l0_b (N : Nat) (a0 : (List Z87)) (a2 : Int) (self : (List Z87) → Int → Int → Option (Int)) (y16 : Int) (nx24 : Int → Int → Option (Int)) (x20 : Int) (x21 : Int) : Option (Int) :=
  cond (decide (x21 < y16)) (andO (self a0 x20 (IntKind.i64.wrap (a2 + (1 : Int)))) fun y26 => cond (decide (y26 < (0 : Int))) (some (-1 : Int)) (nx24 y26 (IntKind.i64.wrap (x21 + (1 : Int))))) (F100_j0 N x20)
def F100_l0 (N : Nat) (a0 : (List Z87)) (a2 : Int) (self : (List Z87) → Int → Int → Option (Int)) (y16 : Int) := loopF (F100_l0_b N a0 a2 self y16) (fun _ _ => none)
theorem F100_l0_s N a0 a2 (self : (List Z87) → Int → Int → Option (Int)) y16 {k} (hk : 0 < k) x20 x21 : F100_l0 N a0 a2 self y16 k x20 x21 = F100_l0_b N a0 a2 self y16 (F100_l0 N a0 a2 self y16 (k - 1)) x20 x21 := by cases k;cases hk;rfl
def F100_b (N : Nat) (self : (List Z87) → Int → Int → Option (Int)) (a0 : (List Z87)) (a1 : Int) (a2 : Int) : Option (Int) :=
  cond (decide (a1 ≥ (a0.length : Int))) (some (-1 : Int)) (cond (decide (a2 > (10 : Int))) (some (-1 : Int)) (gd (InR a1 a0.length) (andO (F133 N ((a0.getD a1.toNat (Ty.dflt Y87)).1)) fun y16 => F100_l0 N a0 a2 self y16 N (IntKind.i64.wrap (a1 + (1 : Int))) (0 : Int))))
theorem ok100_b (N : Nat) (self : (List Z87) → Int → Int → Option (Int)) (ih : ∀ (a0 : (List Z87)) (a1 : Int) (a2 : Int) (r : Int), self a0 a1 a2 = some r → Con prog 100 [Vv (.sl Y87) a0, I a1, I a2] [.lf (.v (.int .i64) r)]) (a0 : (List Z87)) (a1 : Int) (a2 : Int) {r : Int} (h : F100_b N self a0 a1 a2 = some r) : Con prog 100 [Vv (.sl Y87) a0, I a1, I a2] [.lf (.v (.int .i64) r)] := by
 refine ctr [.lf (.v (.int .i64))] K func100 rfl fun w0 E0 ht => ?_
 unfold F100_b at h
 show VW _ _ _ _ _ (retQ _ _ _ _) _
 refine nR K (tn 1) <| sq <| sq <| VW.region <| nG K 5 (tn 5) ?_
 refine spC 12 h ?_ ?_<;>intro h
 ·refine nN K (tn 3) ?_
  refine VW.cond (b := true) (by kernel_rfl) (fun _ => ?_) (fun h' => nomatch h')
  refine nR K (tn 1) ?_
  cases h; exact VW.ret (rt [])
 refine nN K (tn 3) ?_
 refine cnd h ?_ ?_<;>intro h
 ·refine nR K (tn 1) ?_
  cases h; exact VW.ret (rt [])
 refine VW.skip <| nR K (tn 3) ?_
 refine VW.join (fun s => ∃ x13, s = ⟨[(7, I x13)], []⟩ ∧ F100_j0 N x13 = some r) ?_ ?_
 ·refine sq <| VW.region ?_
  obtain⟨g15,h⟩:=gS h
  refine nG K 5 (pu 2 (an g15 (tn 2))) ?_
  obtain⟨y16,hy,h⟩:=aS h
  refine clc false [.t (.int .i64)] [] (some 23) K (ok133 N _ hy) <| nN K (tn 1) <| VW.block <| lop (fun k s => ∃ x20 x21, s = ⟨[(0, Vv (.sl Y87) a0), (2, I a2), (7, I x20), (23, I y16), (24, I x21)], []⟩ ∧ F100_l0 N a0 a2 self y16 k x20 x21 = some r) N [.ren [0, 2, 7, 23, 24] []] ⟨(wr (a1 + (1 : Int))), (0 : Int), rfl, h⟩ ?_
  rintro k24 s ⟨x20, x21, rfl, h⟩
  cases k24 with
  | zero => cases show none = some r from h
  | succ k24 =>
   replace h : F100_l0_b N a0 a2 self y16 (F100_l0 N a0 a2 self y16 k24) x20 x21 = some r := h
   unfold F100_l0_b at h
   refine nR K (tn 1) <| sq ?_
   refine cnd h ?_ ?_<;>intro h
   ·refine VW.skip <| sq <| VW.block <| sq <| VW.region <| nG K 4 (tn 4) ?_
    obtain⟨y26,hy,h⟩:=aS h
    refine clc false [.t (.sl Y87), .t (.int .i64), .t (.int .i64)] [] (some 30) K (ih _ _ _ _ hy) <| nN K (tn 1) <| nR K (tn 2) ?_
    refine cnd h ?_ ?_<;>intro h
    ·refine nR K (tn 1) ?_
     cases h; exact VW.ret (rt [])
    refine VW.skip <| nE K (tn 2) ?_
    exact aro [.ren [0, 2, 7, 23, 24] []] ⟨y26, (wr (x21 + (1 : Int))), rfl, h⟩
   refine VW.exit ?_
   exact arv [.ren [7] []] ⟨x20, rfl, h⟩
 rintro s ⟨x13, rfl, h⟩
 unfold F100_j0 at h
 refine nR K (tn 2) ?_
 cases h; exact VW.ret (rt [])
def F100_r (N : Nat) := loopF (F100_b N) (fun _ _ _ => none)
theorem F100_s N {k} (hk : 0 < k) a0 a1 a2 : F100_r N k a0 a1 a2 = F100_b N (F100_r N (k - 1)) a0 a1 a2 := by cases k;cases hk;rfl
def F100 (N : Nat) : (List Z87) → Int → Int → Option (Int) := F100_r N N
theorem ok100_k (N : Nat) : ∀ (k : Nat) (a0 : (List Z87)) (a1 : Int) (a2 : Int) (r : Int), loopF (F100_b N) (fun _ _ _ => none) k a0 a1 a2 = some r → Con prog 100 [Vv (.sl Y87) a0, I a1, I a2] [.lf (.v (.int .i64) r)]
 | 0, a0, a1, a2, r, h => nomatch (show (none : Option (Int)) = some r from h)
 | k + 1, a0, a1, a2, r, h => ok100_b N _ (ok100_k N k) a0 a1 a2 h
theorem ok100 N a0 a1 a2 {r} (h : F100 N a0 a1 a2 = some r) : Con prog 100 [Vv (.sl Y87) a0, I a1, I a2] [.lf (.v (.int .i64) r)] := ok100_k N N a0 a1 a2 r h
def F73 (N : Nat) (a0 : (List Z87)) : Option (Bool) :=
  andO (F47 N (a0.length : Int) (1 : Int) (40 : Int)) fun y3 => cond (!y3) (some false) (andO (F74 N a0 (fun z0 => F98 N z0)) fun y4 => cond y4 (some false) (andO (F100 N a0 (0 : Int) (1 : Int)) fun y5 => some (y5 == (a0.length : Int))))
theorem ok73 N a0 {r} (h : F73 N a0 = some r) : Con prog 73 [Vv (.sl Y87) a0] [.lf (.v .bool r)] := by
 refine ctr [.lf (.v .bool)] K func73 rfl fun w0 E0 ht => ?_
 unfold F73 at h
 show VW _ _ _ _ _ (retQ _ _ _ _) _
 refine nR K (tn 1) <| sq <| sq <| VW.region <| nG K 2 (tn 2) ?_
 obtain⟨y3,hy,h⟩:=aS h
 refine clc false [.t (.int .i64), .t (.int .i64), .t (.int .i64)] [] (some 5) K (ok47 N _ _ _ hy) <| nG K 2 (tn 2) ?_
 refine spC 7 h ?_ ?_<;>intro h
 ·refine nN K (tn 3) ?_
  refine VW.cond (b := true) (by kernel_rfl) (fun _ => ?_) (fun h' => nomatch h')
  refine nR K (tn 1) ?_
  cases h; exact VW.ret (rt [])
 refine nG K 1 (tn 1) <| VO.on (j := 4) (want := false) (d := 7) (b := false) rfl rfl rfl (by kernel_rfl) rfl ?_
 obtain⟨y4,hy,h⟩:=aS h
 refine clc false [.t (.sl Y87), .clo []] [] (some 9) K (ok74 N _ 98  (fun z0 => F98 N z0 ) (fun z0 _ hz => ok98 N z0 hz) hy) <| nN K (tn 1) ?_
 refine cnd h ?_ ?_<;>intro h
 ·refine nR K (tn 1) ?_
  cases h; exact VW.ret (rt [])
 refine VW.skip <| sq <| VW.region <| nG K 1 (tn 1) ?_
 obtain⟨y5,hy,h⟩:=aS h
 refine clc false [.t (.sl Y87), .t (.int .i64), .t (.int .i64)] [] (some 12) K (ok100 N _ _ _ hy) <| nN K (tn 4) ?_
 cases h; exact VW.ret (rt [])
def F119_j0 (N : Nat) (x20 : (List Int)) : Option ((List Int)) :=
  some x20
def F119_l0_b (N : Nat) (a0 : (List Z87)) (y23 : Int) (nx36 : (List Int) → Int → Int → Option ((List Int))) (x29 : (List Int)) (x30 : Int) (x31 : Int) : Option ((List Int)) :=
  cond (decide (x31 < y23)) (gd (x29.length + ([x30]).length ≤ lim (.int .i64)) (andO (F100 N a0 x30 (1 : Int)) fun y40 => nx36 (x29 ++ ([x30])) y40 (IntKind.i64.wrap (x31 + (1 : Int))))) (F119_j0 N x29)
def F119_l0 (N : Nat) (a0 : (List Z87)) (y23 : Int) := loopF (F119_l0_b N a0 y23) (fun _ _ _ => none)
theorem F119_l0_s N a0 y23 {k} (hk : 0 < k) x29 x30 x31 : F119_l0 N a0 y23 k x29 x30 x31 = F119_l0_b N a0 y23 (F119_l0 N a0 y23 (k - 1)) x29 x30 x31 := by cases k;cases hk;rfl
def F119 (N : Nat) (a0 : (List Z87)) (a1 : Int) : Option ((List Int)) :=
  gd (InR a1 a0.length) (andO (F133 N ((a0.getD a1.toNat (Ty.dflt Y87)).1)) fun y23 => F119_l0 N a0 y23 N ([]) (IntKind.i64.wrap (a1 + (1 : Int))) (0 : Int))
theorem ok119 N a0 a1 {r} (h : F119 N a0 a1 = some r) : Con prog 119 [Vv (.sl Y87) a0, I a1] [.lf (.own (.int .i64) r .dp)] := by
 refine ctr [.lf (.own (.int .i64) .dp)] K func119 rfl fun w0 E0 ht => ?_
 unfold F119 at h
 show VW _ _ _ _ _ (retQ _ _ _ _) _
 refine nR K (tn 1) <| nR K (tn 1) <| nR K (tn 3) ?_
 refine VW.join (fun s => ∃ x20, s = ⟨[(5, hh 0)], [ar 0 (.int .i64) x20 .dp]⟩ ∧ F119_j0 N x20 = some r) ?_ ?_
 ·refine sq <| VW.region ?_
  obtain⟨g22,h⟩:=gS h
  refine nG K 5 (pu 2 (an g22 (tn 2))) ?_
  obtain⟨y23,hy,h⟩:=aS h
  refine clc false [.t (.int .i64)] [] (some 14) K (ok133 N _ hy) <| nN K (tn 1) <| VW.block <| lop (fun k s => ∃ x29 x30 x31, s = ⟨[(0, Vv (.sl Y87) a0), (5, hh 0), (6, I x30), (14, I y23), (15, I x31)], [ar 0 (.int .i64) x29 .dp]⟩ ∧ F119_l0 N a0 y23 k x29 x30 x31 = some r) N [.nilS 5 (.int .i64) .dp, .ren [0, 5, 6, 14, 15] [0]] ⟨[], (wr (a1 + (1 : Int))), (0 : Int), rfl, h⟩ ?_
  rintro k36 s ⟨x29, x30, x31, rfl, h⟩
  cases k36 with
  | zero => cases show none = some r from h
  | succ k36 =>
   replace h : F119_l0_b N a0 y23 (F119_l0 N a0 y23 k36) x29 x30 x31 = some r := h
   unfold F119_l0_b at h
   refine nR K (tn 1) <| sq ?_
   refine cnd h ?_ ?_<;>intro h
   ·refine VW.skip <| sq <| VW.block ?_
    obtain⟨g39,h⟩:=gS h
    refine nR K (pu 3 (an g39 (tn 1))) <| VW.region <| nG K 2 (tn 2) ?_
    obtain⟨y40,hy,h⟩:=aS h
    refine clc false [.t (.sl Y87), .t (.int .i64), .t (.int .i64)] [] (some 23) K (ok100 N _ _ _ hy) <| nN K (tn 1) <| nE K (tn 2) ?_
    exact aro [.ren [0, 5, 6, 14, 15] [0]] ⟨(x29 ++ ([x30])), y40, (wr (x31 + (1 : Int))), rfl, h⟩
   refine VW.exit ?_
   exact arv [.ren [5] [0]] ⟨x29, rfl, h⟩
 rintro s ⟨x20, rfl, h⟩
 unfold F119_j0 at h
 refine nR K (tn 2) ?_
 cases h; exact VW.ret (rt [some 0])
def F146_j0 (N : Nat) : Option (Int) :=
  some (-1 : Int)
def F146_l0_b (N : Nat) (a0 : (List Z53)) (p1 : Z53 → Option (Bool)) (nx29 : Int → Int → Option (Int)) (x23 : Int) (x24 : Int) : Option (Int) :=
  cond (decide (x24 < x23)) (gd (InR x24 a0.length) (andO (p1 (a0.getD x24.toNat (Ty.dflt Y53))) fun y33 => cond y33 (some x24) (nx29 x23 (IntKind.i64.wrap (x24 + (1 : Int)))))) (F146_j0 N)
def F146_l0 (N : Nat) (a0 : (List Z53)) (p1 : Z53 → Option (Bool)) := loopF (F146_l0_b N a0 p1) (fun _ _ => none)
theorem F146_l0_s N a0 (p1 : Z53 → Option (Bool)) {k} (hk : 0 < k) x23 x24 : F146_l0 N a0 p1 k x23 x24 = F146_l0_b N a0 p1 (F146_l0 N a0 p1 (k - 1)) x23 x24 := by cases k;cases hk;rfl
def F146 (N : Nat) (a0 : (List Z53)) (p1 : Z53 → Option (Bool)) : Option (Int) :=
  F146_l0 N a0 p1 N (a0.length : Int) (0 : Int)
theorem ok146_c1 N a0 (g1 : FuncId) e1_0 (p1 : Z53 → Option (Bool)) (hp1 : ∀ (z0 : Z53) (r : Bool), p1 z0 = some r → Con prog g1 [.agg (lv Y53 z0), .lf (.fp .str e1_0 0)] [.lf (.v .bool r)]) {r} (h : F146 N a0 p1 = some r) : Con prog 146 [Vv (.sl Y53) a0, .clo g1 [.lf (.fp .str e1_0 0)]] [.lf (.v (.int .i64) r)] := by
 refine ctr [.lf (.v (.int .i64))] K func146 rfl fun w0 E0 ht => ?_
 unfold F146 at h
 show VW _ _ _ _ _ (retQ _ _ _ _) _
 refine nR K (tn 1) ?_
 refine VW.join (fun s => s = ⟨[], []⟩ ∧ F146_j0 N = some r) ?_ ?_
 ·refine nR K (tn 3) <| VW.block <| lop (fun k s => ∃ x23 x24, s = ⟨[(0, Vv (.sl Y53) a0), (1, .clo g1 [.lf (.fp .str e1_0 0)]), (7, I x23), (8, I x24)], []⟩ ∧ F146_l0 N a0 p1 k x23 x24 = some r) N [.ren [0, 1, 7, 8] []] ⟨(a0.length : Int), (0 : Int), rfl, h⟩ ?_
  rintro k29 s ⟨x23, x24, rfl, h⟩
  cases k29 with
  | zero => cases show none = some r from h
  | succ k29 =>
   replace h : F146_l0_b N a0 p1 (F146_l0 N a0 p1 k29) x23 x24 = some r := h
   unfold F146_l0_b at h
   refine nR K (tn 1) <| sq ?_
   refine cnd h ?_ ?_<;>intro h
   ·refine VW.skip <| sq <| VW.block <| nR K (tn 2) <| sq <| VW.region ?_
    obtain⟨g32,h⟩:=gS h
    refine nG K 5 (pu 3 (an g32 (tn 1))) ?_
    obtain⟨y33,hy,h⟩:=aS h
    refine clc false [.t Y53] [.k] (some 16) K (hp1 _ _ hy) <| nN K (tn 0) ?_
    refine cnd h ?_ ?_<;>intro h
    ·refine nR K (tn 2) ?_
     cases h; exact VW.ret (rt [])
    refine VW.skip <| nE K (tn 2) ?_
    exact aro [.ren [0, 1, 7, 8] []] ⟨x23, (wr (x24 + (1 : Int))), rfl, h⟩
   refine VW.exit ?_
   exact arv [.ren [] []] ⟨rfl, h⟩
 rintro s ⟨rfl, h⟩
 unfold F146_j0 at h
 refine nR K (tn 1) ?_
 cases h; exact VW.ret (rt [])
def F147 (N : Nat) (a0 : Z53) (c0 : ByteArray) : Option (Bool) :=
  some (a0.1.toList == c0.toList)
theorem ok147 N a0 c0 {r} (h : F147 N a0 c0 = some r) : Con prog 147 [.agg (lv Y53 a0), .lf (.fp .str c0 0)] [.lf (.v .bool r)] := by
 refine ctr [.lf (.v .bool)] K func147 rfl fun w0 E0 ht => ?_
 unfold F147 at h
 show VW _ _ _ _ _ (retQ _ _ _ _) _
 refine nR K (tn 2) <| nR K (tn 5) ?_
 cases h; exact VW.ret (rt [])
def F120 (N : Nat) (a0 : (List Z53)) (a1 : ByteArray) : Option (Int) :=
  andO (F146 N a0 (fun z0 => F147 N z0 a1)) fun y1 => some y1
theorem ok120 N a0 a1 {r} (h : F120 N a0 a1 = some r) : Con prog 120 [Vv (.sl Y53) a0, S a1] [.lf (.v (.int .i64) r)] := by
 refine ctr [.lf (.v (.int .i64))] K func120 rfl fun w0 E0 ht => ?_
 unfold F120 at h
 show VW _ _ _ _ _ (retQ _ _ _ _) _
 refine nR K (tn 2) <| sq <| VW.region <| nG K 2 (tn 2) ?_
 obtain⟨y1,hy,h⟩:=aS h
 refine VO.ghl [.frzB 0 .str] <| clc false [.t (.sl Y53), .clo [.k]] [] (some 7) K (ok146_c1 N _ 147 a1 (fun z0 => F147 N z0 a1) (fun z0 _ hz => ok147 N z0 _ hz) hy) <| nN K (tn 1) ?_
 cases h; exact VW.ret (rt [])
def F121_j0 (N : Nat) (x12 : Int) : Option (Int) :=
  some x12
def F121_l0_b (N : Nat) (a0 : (List Int)) (nx21 : Int → Int → Option (Int)) (x17 : Int) (x18 : Int) : Option (Int) :=
  cond (decide (x18 < (a0.length : Int))) (gd (InR x18 a0.length) (nx21 (if (x17 : Int) < (a0.getD x18.toNat (Ty.dflt (.int .i64))) then (a0.getD x18.toNat (Ty.dflt (.int .i64))) else x17) (IntKind.i64.wrap (x18 + (1 : Int))))) (F121_j0 N x17)
def F121_l0 (N : Nat) (a0 : (List Int)) := loopF (F121_l0_b N a0) (fun _ _ => none)
theorem F121_l0_s N a0 {k} (hk : 0 < k) x17 x18 : F121_l0 N a0 k x17 x18 = F121_l0_b N a0 (F121_l0 N a0 (k - 1)) x17 x18 := by cases k;cases hk;rfl
def F121 (N : Nat) (a0 : (List Int)) : Option (Int) :=
  cond (decide ((a0.length : Int) < (1 : Int))) (none) (gd (InR (0 : Int) a0.length) (F121_l0 N a0 N (a0.getD (0 : Int).toNat (Ty.dflt (.int .i64))) (1 : Int)))
theorem ok121 N a0 {r} (h : F121 N a0 = some r) : Con prog 121 [Vv (.sl (.int .i64)) a0] [.lf (.v (.int .i64) r)] := by
 refine ctr [.lf (.v (.int .i64))] K func121 rfl fun w0 E0 ht => ?_
 unfold F121 at h
 show VW _ _ _ _ _ (retQ _ _ _ _) _
 refine nR K (tn 1) <| sq <| nR K (tn 3) ?_
 refine cnd h ?_ ?_<;>intro h
 ·exact nomatch h
 refine VW.skip ?_
 obtain⟨g1,h⟩:=gS h
 refine nR K (pu 1 (an g1 (tn 2))) ?_
 refine VW.join (fun s => ∃ x12, s = ⟨[(3, I x12)], []⟩ ∧ F121_j0 N x12 = some r) ?_ ?_
 ·refine nR K (tn 1) <| VW.block <| lop (fun k s => ∃ x17 x18, s = ⟨[(0, Vv (.sl (.int .i64)) a0), (3, I x17), (4, I x18)], []⟩ ∧ F121_l0 N a0 k x17 x18 = some r) N [.ren [0, 3, 4] []] ⟨(a0.getD (0 : Int).toNat (Ty.dflt (.int .i64))), (1 : Int), rfl, h⟩ ?_
  rintro k21 s ⟨x17, x18, rfl, h⟩
  cases k21 with
  | zero => cases show none = some r from h
  | succ k21 =>
   replace h : F121_l0_b N a0 (F121_l0 N a0 k21) x17 x18 = some r := h
   unfold F121_l0_b at h
   refine sq <| nR K (tn 4) ?_
   refine cnd h ?_ ?_<;>intro h
   ·refine VW.skip <| sq <| VW.block ?_
    obtain⟨g23,h⟩:=gS h
    refine nE K (pu 3 (an g23 (tn 3))) <| nE K (tn 3) ?_
    exact aro [.ren [0, 3, 4] []] ⟨(if (x17 : Int) < (a0.getD x18.toNat (Ty.dflt (.int .i64))) then (a0.getD x18.toNat (Ty.dflt (.int .i64))) else x17), (wr (x18 + (1 : Int))), rfl, h⟩
   refine VW.exit ?_
   exact arv [.ren [3] []] ⟨x17, rfl, h⟩
 rintro s ⟨x12, rfl, h⟩
 unfold F121_j0 at h
 refine nR K (tn 2) ?_
 cases h; exact VW.ret (rt [])
def F94_j0 (N : Nat) (x31 : (List Int)) : Option (Int) :=
  gd (InR (0 : Int) x31.length) (gd ((0 : Int).toNat < x31.length) (some (x31.getD ((0 : Int).toNat) (Ty.dflt (.int .i64)))))
def F94_j1 (N : Nat) (x31 : (List Int)) (x86 : Int) (x87 : ByteArray) (x88 : Int) (x89 : Int) (x90 : Int) (x91 : Bool) (x92 : (List Int)) (x93 : Int) (x94 : Bool) : Option (Int) :=
  cond x94 (gd (InR (0 : Int) x31.length) (gd ((0 : Int).toNat < x31.length) (cond (decide (x88 ≥ (x31.getD ((0 : Int).toNat) (Ty.dflt (.int .i64))))) (some (-1 : Int)) (F94_j0 N x31)))) (cond (x93 == (2 : Int)) (andO (F121 N x92) fun y100 => gd (InR (0 : Int) x31.length) (gd ((0 : Int).toNat < x31.length) (cond (decide (y100 ≥ (x31.getD ((0 : Int).toNat) (Ty.dflt (.int .i64))))) (some (-1 : Int)) (some (x92.length : Int))))) (cond (x93 == (3 : Int)) (gd (InR (0 : Int) x31.length) (gd ((0 : Int).toNat < x31.length) (cond (decide (x88 ≥ (x31.getD ((0 : Int).toNat) (Ty.dflt (.int .i64))))) (some (-1 : Int)) (gd (InR (1 : Int) x31.length) (gd ((1 : Int).toNat < x31.length) (cond (decide (x90 ≥ (x31.getD ((1 : Int).toNat) (Ty.dflt (.int .i64))))) (some (-1 : Int)) (gd (InR (0 : Int) x31.length) (gd ((0 : Int).toNat < x31.length) (gd (InR (1 : Int) x31.length) (gd ((1 : Int).toNat < x31.length) (cond (decide ((IntKind.i64.wrap ((x31.getD ((0 : Int).toNat) (Ty.dflt (.int .i64))) + (x31.getD ((1 : Int).toNat) (Ty.dflt (.int .i64))))) > (64 : Int))) (some (-1 : Int)) (gd (InR (0 : Int) x31.length) (gd ((0 : Int).toNat < x31.length) (gd (InR (1 : Int) x31.length) (gd ((1 : Int).toNat < x31.length) (some (IntKind.i64.wrap ((x31.getD ((0 : Int).toNat) (Ty.dflt (.int .i64))) + (x31.getD ((1 : Int).toNat) (Ty.dflt (.int .i64))))))))))))))))))))) (cond (x93 == (4 : Int)) (gd (InR (0 : Int) x31.length) (gd ((0 : Int).toNat < x31.length) (gd (InR (1 : Int) x31.length) (gd ((1 : Int).toNat < x31.length) (cond ((x31.getD ((0 : Int).toNat) (Ty.dflt (.int .i64))) != (x31.getD ((1 : Int).toNat) (Ty.dflt (.int .i64)))) (some (-1 : Int)) (F94_j0 N x31)))))) (F94_j0 N x31))))
def F94_j2 (N : Nat) (a0 : (List Z53)) (a1 : (List Z87)) (a2 : Int) (x31 : (List Int)) : Option (Int) :=
  gd (InR a2 a1.length) (cond (((a1.getD a2.toNat (Ty.dflt Y87)).1) == (0 : Int)) (andO (F120 N a0 ((a1.getD a2.toNat (Ty.dflt Y87)).2.1)) fun y84 => cond (decide (y84 < (0 : Int))) (some (-1 : Int)) (gd (InR y84 a0.length) (some ((a0.getD y84.toNat (Ty.dflt Y53)).2)))) (cond (((a1.getD a2.toNat (Ty.dflt Y87)).1) == (1 : Int)) (F94_j1 N x31 ((a1.getD a2.toNat (Ty.dflt Y87)).1) ((a1.getD a2.toNat (Ty.dflt Y87)).2.1) ((a1.getD a2.toNat (Ty.dflt Y87)).2.2.1) ((a1.getD a2.toNat (Ty.dflt Y87)).2.2.2.1) ((a1.getD a2.toNat (Ty.dflt Y87)).2.2.2.2.1) ((a1.getD a2.toNat (Ty.dflt Y87)).2.2.2.2.2.1) ((a1.getD a2.toNat (Ty.dflt Y87)).2.2.2.2.2.2) ((a1.getD a2.toNat (Ty.dflt Y87)).1) (((a1.getD a2.toNat (Ty.dflt Y87)).1) == (1 : Int))) (F94_j1 N x31 ((a1.getD a2.toNat (Ty.dflt Y87)).1) ((a1.getD a2.toNat (Ty.dflt Y87)).2.1) ((a1.getD a2.toNat (Ty.dflt Y87)).2.2.1) ((a1.getD a2.toNat (Ty.dflt Y87)).2.2.2.1) ((a1.getD a2.toNat (Ty.dflt Y87)).2.2.2.2.1) ((a1.getD a2.toNat (Ty.dflt Y87)).2.2.2.2.2.1) ((a1.getD a2.toNat (Ty.dflt Y87)).2.2.2.2.2.2) ((a1.getD a2.toNat (Ty.dflt Y87)).1) (((a1.getD a2.toNat (Ty.dflt Y87)).1) == (5 : Int)))))
def F94_l0_b (N : Nat) (a0 : (List Z53)) (a1 : (List Z87)) (a2 : Int) (self : (List Z53) → (List Z87) → Int → Option (Int)) (y133 : (List Int)) (nx154 : (List Int) → Int → Int → Option (Int)) (x143 : (List Int)) (x144 : Int) (x145 : Int) : Option (Int) :=
  cond (decide (x145 < x144)) (gd (InR x145 y133.length) (gd (x145.toNat < y133.length) (andO (self a0 a1 (y133.getD x145.toNat (Ty.dflt (.int .i64)))) fun y161 => cond (decide (y161 < (0 : Int))) (some (-1 : Int)) (gd (x143.length + ([y161]).length ≤ lim (.int .i64)) (nx154 (x143 ++ ([y161])) x144 (IntKind.i64.wrap (x145 + (1 : Int)))))))) (F94_j2 N a0 a1 a2 x143)
def F94_l0 (N : Nat) (a0 : (List Z53)) (a1 : (List Z87)) (a2 : Int) (self : (List Z53) → (List Z87) → Int → Option (Int)) (y133 : (List Int)) := loopF (F94_l0_b N a0 a1 a2 self y133) (fun _ _ _ => none)
theorem F94_l0_s N a0 a1 a2 (self : (List Z53) → (List Z87) → Int → Option (Int)) y133 {k} (hk : 0 < k) x143 x144 x145 : F94_l0 N a0 a1 a2 self y133 k x143 x144 x145 = F94_l0_b N a0 a1 a2 self y133 (F94_l0 N a0 a1 a2 self y133 (k - 1)) x143 x144 x145 := by cases k;cases hk;rfl
def F94_b (N : Nat) (self : (List Z53) → (List Z87) → Int → Option (Int)) (a0 : (List Z53)) (a1 : (List Z87)) (a2 : Int) : Option (Int) :=
  andO (F119 N a1 a2) fun y133 => F94_l0 N a0 a1 a2 self y133 N ([]) (y133.length : Int) (0 : Int)
theorem ok94_b (N : Nat) (self : (List Z53) → (List Z87) → Int → Option (Int)) (ih : ∀ (a0 : (List Z53)) (a1 : (List Z87)) (a2 : Int) (r : Int), self a0 a1 a2 = some r → Con prog 94 [Vv (.sl Y53) a0, Vv (.sl Y87) a1, I a2] [.lf (.v (.int .i64) r)]) (a0 : (List Z53)) (a1 : (List Z87)) (a2 : Int) {r : Int} (h : F94_b N self a0 a1 a2 = some r) : Con prog 94 [Vv (.sl Y53) a0, Vv (.sl Y87) a1, I a2] [.lf (.v (.int .i64) r)] := by
 refine ctr [.lf (.v (.int .i64))] K func94 rfl fun w0 E0 ht => ?_
 unfold F94_b at h
 show VW _ _ _ _ _ (retQ _ _ _ _) _
 refine nR K (tn 1) <| nR K (tn 1) ?_
 refine VW.join (fun s => ∃ x31, s = ⟨[(0, Vv (.sl Y53) a0), (1, Vv (.sl Y87) a1), (2, I a2), (7, hh 0)], [ar 0 (.int .i64) x31 .dp]⟩ ∧ F94_j2 N a0 a1 a2 x31 = some r) ?_ ?_
 ·refine sq <| VW.region <| nG K 2 (tn 2) ?_
  obtain⟨y133,hy,h⟩:=aS h
  refine clc false [.t (.sl Y87), .t (.int .i64)] [] (some 15) K (ok119 N _ _ hy) <| nN K (tn 2) <| VW.block <| lop (fun k s => ∃ x143 x144 x145, s = ⟨[(0, Vv (.sl Y53) a0), (1, Vv (.sl Y87) a1), (2, I a2), (7, hh 0), (15, hh 1), (16, I x144), (17, I x145)], [ar 0 (.int .i64) x143 .dp, ar 0 (.int .i64) y133 .dp]⟩ ∧ F94_l0 N a0 a1 a2 self y133 k x143 x144 x145 = some r) N [.nilS 7 (.int .i64) .dp, .ren [0, 1, 2, 7, 15, 16, 17] [1, 0]] ⟨[], (y133.length : Int), (0 : Int), rfl, h⟩ ?_
  rintro k154 s ⟨x143, x144, x145, rfl, h⟩
  cases k154 with
  | zero => cases show none = some r from h
  | succ k154 =>
   replace h : F94_l0_b N a0 a1 a2 self y133 (F94_l0 N a0 a1 a2 self y133 k154) x143 x144 x145 = some r := h
   unfold F94_l0_b at h
   refine nR K (tn 1) <| sq ?_
   refine cnd h ?_ ?_<;>intro h
   ·refine VW.skip <| sq <| VW.block ?_
    obtain⟨g159,h⟩:=gS h
    obtain⟨g160,h⟩:=gS h
    refine nR K (an g159 (an g160 (tn 1))) <| sq <| VW.region <| nG K 3 (tn 3) ?_
    obtain⟨y161,hy,h⟩:=aS h
    refine clc false [.t (.sl Y53), .t (.sl Y87), .t (.int .i64)] [] (some 24) K (ih _ _ _ _ hy) <| nN K (tn 1) <| sq <| nR K (tn 2) ?_
    refine cnd h ?_ ?_<;>intro h
    ·refine nR K (tn 1) ?_
     cases h; exact VW.ret (rt [])
    refine VW.skip ?_
    obtain⟨g162,h⟩:=gS h
    refine nE K (pu 3 (an g162 (tn 1))) <| nE K (tn 2) ?_
    exact aro [.ren [0, 1, 2, 7, 15, 16, 17] [0, 1]] ⟨(x143 ++ ([y161])), x144, (wr (x145 + (1 : Int))), rfl, h⟩
   refine VW.exit ?_
   exact arv [.ren [0, 1, 2, 7] [0]] ⟨x143, rfl, h⟩
 rintro s ⟨x31, rfl, h⟩
 unfold F94_j2 at h
 obtain⟨g32,h⟩:=gS h
 refine nR K (pu 2 (an g32 (tn 3))) ?_
 refine VW.join (fun s => s = ⟨[(7, hh 0)], [ar 0 (.int .i64) x31 .dp]⟩ ∧ F94_j0 N x31 = some r) ?_ ?_
 ·refine nR K (tn 2) <| VW.block <| nR K (tn 2) ?_
  refine cnd h ?_ ?_<;>intro h
  ·refine sq <| VW.region <| nG K 3 (tn 3) ?_
   obtain⟨y84,hy,h⟩:=aS h
   refine clc false [.t (.sl Y53), .t .str] [] (some 43) K (ok120 N _ _ hy) <| nN K (tn 1) <| sq <| nR K (tn 2) ?_
   refine cnd h ?_ ?_<;>intro h
   ·refine nR K (tn 1) ?_
    cases h; exact VW.ret (rt [])
   refine VW.skip ?_
   obtain⟨g85,h⟩:=gS h
   refine nR K (pu 2 (an g85 (tn 3))) ?_
   cases h; exact VW.ret (rt [])
  refine VW.join (fun s => ∃ x86 x87 x88 x89 x90 x91 x92 x93 x94, s = ⟨[(7, hh 0), (11, .lf (.ptr 1 0 0 0)), (37, I x93), (51, B x94)], [ar 0 (.int .i64) x31 .dp, bx [zi x86, zs x87, zi x88, zi x89, zi x90, zb x91, .v (.sl (.int .i64)) x92] 88]⟩ ∧ F94_j1 N x31 x86 x87 x88 x89 x90 x91 x92 x93 x94 = some r) ?_ ?_
  ·refine nR K (tn 2) ?_
   refine cnd h ?_ ?_<;>intro h
   ·refine VW.skip ?_
    exact arv [.ren [7, 11, 37, 51] [0, 1]] ⟨(a1.getD a2.toNat D87).1, (a1.getD a2.toNat D87).2.1, (a1.getD a2.toNat D87).2.2.1, (a1.getD a2.toNat D87).2.2.2.1, (a1.getD a2.toNat D87).2.2.2.2.1, (a1.getD a2.toNat D87).2.2.2.2.2.1, (a1.getD a2.toNat D87).2.2.2.2.2.2, (a1.getD a2.toNat D87).1, (((a1.getD a2.toNat D87).1) == (1 : Int)), rfl, h⟩
   refine nE K (tn 2) ?_
   exact arv [.ren [7, 11, 37, 51] [0, 1]] ⟨(a1.getD a2.toNat D87).1, (a1.getD a2.toNat D87).2.1, (a1.getD a2.toNat D87).2.2.1, (a1.getD a2.toNat D87).2.2.2.1, (a1.getD a2.toNat D87).2.2.2.2.1, (a1.getD a2.toNat D87).2.2.2.2.2.1, (a1.getD a2.toNat D87).2.2.2.2.2.2, (a1.getD a2.toNat D87).1, (((a1.getD a2.toNat D87).1) == (5 : Int)), rfl, h⟩
  rintro s ⟨x86, x87, x88, x89, x90, x91, x92, x93, x94, rfl, h⟩
  unfold F94_j1 at h
  refine cnd h ?_ ?_<;>intro h
  ·refine sq ?_
   obtain⟨g95,h⟩:=gS h
   obtain⟨g96,h⟩:=gS h
   refine dr K [] [] [] [7, 59] [0] (pu 3 (an g95 (an g96 (tn 1)))) trivial ?_
   refine cnd h ?_ ?_<;>intro h
   ·refine nR K (tn 1) ?_
    cases h; exact VW.ret (rt [])
   refine VW.skip ?_
   exact arv [.ren [7] [0]] ⟨rfl, h⟩
  refine nR K (tn 2) ?_
  refine cnd h ?_ ?_<;>intro h
  ·refine sq <| sq ?_
   obtain⟨y100,hy100,h⟩:=aS h
   obtain⟨g101,h⟩:=gS h
   obtain⟨g102,h⟩:=gS h
   refine dr K [(2, .cl [] (some 64) [.lf (.v (.int .i64) y100)])] [(2, 0)] [] [11, 68] [1] (pu 4 (an g101 (an g102 (tn 1)))) ⟨qC false [.t (.sl (.int .i64))] [] [] (some 64) K (ok121 N _ hy100), trivial⟩ ?_
   refine cnd h ?_ ?_<;>intro h
   ·refine nR K (tn 1) ?_
    cases h; exact VW.ret (rt [])
   refine VW.skip <| nR K (tn 4) ?_
   cases h; exact VW.ret (rt [])
  refine nR K (tn 2) ?_
  refine cnd h ?_ ?_<;>intro h
  ·refine sq <| sq ?_
   obtain⟨g113,h⟩:=gS h
   obtain⟨g114,h⟩:=gS h
   rcases Bool.eq_false_or_eq_true (decide (x88 ≥ (x31.getD ((0 : Int).toNat) (Ty.dflt (.int .i64))))) with hb115 | hb115
   ·replace h := cond_t h hb115
    refine dr K [(6, .lit true)] [(6, 0)] [] [7, 97] [0] (pu 3 (an g113 (an g114 (tn 19)))) ⟨qB 80 hb115 K trivial, trivial⟩ ?_
    refine VW.cond (b := true) (by kernel_rfl) (fun _ => ?_) (fun h' => nomatch h')
    refine nR K (tn 1) ?_
    cases h; exact VW.ret (rt [])
   replace h := cond_f h hb115
   obtain⟨g116,h⟩:=gS h
   obtain⟨g117,h⟩:=gS h
   rcases Bool.eq_false_or_eq_true (decide (x90 ≥ (x31.getD ((1 : Int).toNat) (Ty.dflt (.int .i64))))) with hb118 | hb118
   ·replace h := cond_t h hb118
    refine dr K [(6, .lit false), (14, .lit true)] [(6, 0), (14, 0)] [] [7, 97] [0] (pu 3 (an g113 (an g114 (pu 5 (an g116 (an g117 (tn 12))))))) ⟨qB 80 hb115 K trivial, qB 88 hb118 K trivial, trivial⟩ ?_
    refine VW.cond (b := true) (by kernel_rfl) (fun _ => ?_) (fun h' => nomatch h')
    refine nR K (tn 1) ?_
    cases h; exact VW.ret (rt [])
   replace h := cond_f h hb118
   obtain⟨g119,h⟩:=gS h
   obtain⟨g120,h⟩:=gS h
   obtain⟨g121,h⟩:=gS h
   obtain⟨g122,h⟩:=gS h
   refine dr K [(6, .lit false), (14, .lit false)] [(6, 0), (14, 0)] [] [7, 97] [0] (pu 3 (an g113 (an g114 (pu 5 (an g116 (an g117 (pu 4 (an g119 (an g120 (pu 1 (an g121 (an g122 (tn 3))))))))))))) ⟨qB 80 hb115 K trivial, qB 88 hb118 K trivial, trivial⟩ ?_
   refine cnd h ?_ ?_<;>intro h
   ·refine nR K (tn 1) ?_
    cases h; exact VW.ret (rt [])
   refine VW.skip <| sq ?_
   obtain⟨g123,h⟩:=gS h
   obtain⟨g124,h⟩:=gS h
   obtain⟨g125,h⟩:=gS h
   obtain⟨g126,h⟩:=gS h
   refine dr K [] [] [] [6] [] (pu 1 (an g123 (an g124 (pu 1 (an g125 (an g126 (tn 2))))))) trivial ?_
   cases h; exact VW.ret (rt [])
  refine nR K (tn 2) ?_
  refine cnd h ?_ ?_<;>intro h
  ·refine sq ?_
   obtain⟨g127,h⟩:=gS h
   obtain⟨g128,h⟩:=gS h
   obtain⟨g129,h⟩:=gS h
   obtain⟨g130,h⟩:=gS h
   refine dr K [] [] [] [7, 113] [0] (pu 1 (an g127 (an g128 (pu 1 (an g129 (an g130 (tn 1))))))) trivial ?_
   refine cnd h ?_ ?_<;>intro h
   ·refine nR K (tn 1) ?_
    cases h; exact VW.ret (rt [])
   refine VW.skip ?_
   exact arv [.ren [7] [0]] ⟨rfl, h⟩
  refine VW.skip ?_
  exact arv [.ren [7] [0]] ⟨rfl, h⟩
 rintro s ⟨rfl, h⟩
 unfold F94_j0 at h
 obtain⟨g81,h⟩:=gS h
 obtain⟨g82,h⟩:=gS h
 refine nR K (pu 1 (an g81 (an g82 (tn 1)))) ?_
 cases h; exact VW.ret (rt [])
def F94_r (N : Nat) := loopF (F94_b N) (fun _ _ _ => none)
theorem F94_s N {k} (hk : 0 < k) a0 a1 a2 : F94_r N k a0 a1 a2 = F94_b N (F94_r N (k - 1)) a0 a1 a2 := by cases k;cases hk;rfl
def F94 (N : Nat) : (List Z53) → (List Z87) → Int → Option (Int) := F94_r N N
theorem ok94_k (N : Nat) : ∀ (k : Nat) (a0 : (List Z53)) (a1 : (List Z87)) (a2 : Int) (r : Int), loopF (F94_b N) (fun _ _ _ => none) k a0 a1 a2 = some r → Con prog 94 [Vv (.sl Y53) a0, Vv (.sl Y87) a1, I a2] [.lf (.v (.int .i64) r)]
 | 0, a0, a1, a2, r, h => nomatch (show (none : Option (Int)) = some r from h)
 | k + 1, a0, a1, a2, r, h => ok94_b N _ (ok94_k N k) a0 a1 a2 h
theorem ok94 N a0 a1 a2 {r} (h : F94 N a0 a1 a2 = some r) : Con prog 94 [Vv (.sl Y53) a0, Vv (.sl Y87) a1, I a2] [.lf (.v (.int .i64) r)] := ok94_k N N a0 a1 a2 r h
def F71 (N : Nat) (a0 : (List Z53)) (a1 : (List Z87)) : Option (Int) :=
  andO (F45 N a0) fun y3 => cond (!y3) (some (-1 : Int)) (andO (F73 N a1) fun y4 => cond (!y4) (some (-1 : Int)) (andO (F94 N a0 a1 (0 : Int)) fun y5 => some y5))
theorem ok71 N a0 a1 {r} (h : F71 N a0 a1 = some r) : Con prog 71 [Vv (.sl Y53) a0, Vv (.sl Y87) a1] [.lf (.v (.int .i64) r)] := by
 refine ctr [.lf (.v (.int .i64))] K func71 rfl fun w0 E0 ht => ?_
 unfold F71 at h
 show VW _ _ _ _ _ (retQ _ _ _ _) _
 refine nR K (tn 1) <| sq <| sq <| VW.region <| nG K 1 (tn 1) ?_
 obtain⟨y3,hy,h⟩:=aS h
 refine clc false [.t (.sl Y53)] [] (some 6) K (ok45 N _ hy) <| nG K 2 (tn 2) ?_
 refine spC 8 h ?_ ?_<;>intro h
 ·refine nN K (tn 4) ?_
  refine VW.cond (b := true) (by kernel_rfl) (fun _ => ?_) (fun h' => nomatch h')
  refine nR K (tn 1) ?_
  cases h; exact VW.ret (rt [])
 refine nG K 1 (tn 1) <| VO.on (j := 3) (want := false) (d := 8) (b := false) rfl rfl rfl (by kernel_rfl) rfl ?_
 obtain⟨y4,hy,h⟩:=aS h
 refine clc false [.t (.sl Y87)] [] (some 10) K (ok73 N _ hy) <| nN K (tn 2) ?_
 refine cnd h ?_ ?_<;>intro h
 ·refine nR K (tn 1) ?_
  cases h; exact VW.ret (rt [])
 refine VW.skip <| sq <| VW.region <| nG K 2 (tn 2) ?_
 obtain⟨y5,hy,h⟩:=aS h
 refine clc false [.t (.sl Y53), .t (.sl Y87), .t (.int .i64)] [] (some 15) K (ok94 N _ _ _ hy) <| nN K (tn 1) ?_
 cases h; exact VW.ret (rt [])
def F48 (N : Nat) (a0 : (List Z53)) (a1 : (List Z87)) : Option (Bool) :=
  andO (F71 N a0 a1) fun y1 => some (decide (y1 ≥ (0 : Int)))
theorem ok48 N a0 a1 {r} (h : F48 N a0 a1 = some r) : Con prog 48 [Vv (.sl Y53) a0, Vv (.sl Y87) a1] [.lf (.v .bool r)] := by
 refine ctr [.lf (.v .bool)] K func48 rfl fun w0 E0 ht => ?_
 unfold F48 at h
 show VW _ _ _ _ _ (retQ _ _ _ _) _
 refine nR K (tn 1) <| sq <| VW.region <| nG K 2 (tn 2) ?_
 obtain⟨y1,hy,h⟩:=aS h
 refine clc false [.t (.sl Y53), .t (.sl Y87)] [] (some 7) K (ok71 N _ _ hy) <| nN K (tn 2) ?_
 cases h; exact VW.ret (rt [])
def F95_j0 (N : Nat) (x10 : Int) (x11 : (List Int)) : Option ((List Int)) :=
  gd (x11.length + ([(IntKind.u8.wrap x10)]).length ≤ lim (.int .u8)) (some (x11 ++ ([(IntKind.u8.wrap x10)])))
def F95_l0_b (N : Nat) (nx18 : Int → (List Int) → Option ((List Int))) (x15 : Int) (x16 : (List Int)) : Option ((List Int)) :=
  cond (decide (x15 ≥ (128 : Int))) (gd (x16.length + ([(IntKind.u8.wrap (IntKind.i64.wrap ((Int.tmod x15 (128 : Int)) + (128 : Int))))]).length ≤ lim (.int .u8)) (nx18 (IntKind.i64.wrap (Int.tdiv x15 (128 : Int))) (x16 ++ ([(IntKind.u8.wrap (IntKind.i64.wrap ((Int.tmod x15 (128 : Int)) + (128 : Int))))])))) (F95_j0 N x15 x16)
def F95_l0 (N : Nat) := loopF (F95_l0_b N) (fun _ _ => none)
theorem F95_l0_s N {k} (hk : 0 < k) x15 x16 : F95_l0 N k x15 x16 = F95_l0_b N (F95_l0 N (k - 1)) x15 x16 := by cases k;cases hk;rfl
def F95_j1 (N : Nat) (x3 : Int) : Option ((List Int)) :=
  F95_l0 N N x3 ([])
def F95 (N : Nat) (a0 : Int) : Option ((List Int)) :=
  andO (F122 N a0) fun y2 => cond (!y2) (some ([])) (cond (decide (a0 < (0 : Int))) (F95_j1 N (IntKind.i64.wrap ((IntKind.i64.wrap ((-2 : Int) * a0)) - (1 : Int)))) (F95_j1 N (IntKind.i64.wrap ((2 : Int) * a0))))
theorem ok95 N a0 {r} (h : F95 N a0 = some r) : Con prog 95 [I a0] [.lf (.own (.int .u8) r .dp)] := by
 refine ctr [.lf (.own (.int .u8) .dp)] K func95 rfl fun w0 E0 ht => ?_
 unfold F95 at h
 show VW _ _ _ _ _ (retQ _ _ _ _) _
 refine nR K (tn 1) <| sq <| sq <| VW.region <| nG K 1 (tn 1) ?_
 obtain⟨y2,hy,h⟩:=aS h
 refine clc false [.t (.int .i64)] [] (some 6) K (ok122 N _ hy) <| nN K (tn 1) ?_
 refine cnd h ?_ ?_<;>intro h
 ·refine nR K (tn 1) ?_
  cases h; exact VW.ret (rt [none])
 refine VW.skip <| nR K (tn 3) ?_
 refine VW.join (fun s => ∃ x3, s = ⟨[(3, I x3)], []⟩ ∧ F95_j1 N x3 = some r) ?_ ?_
 ·refine nR K (tn 2) ?_
  refine cnd h ?_ ?_<;>intro h
  ·refine nE K (tn 4) ?_
   exact arv [.ren [3] []] ⟨(wr ((wr ((-2 : Int) * a0)) - (1 : Int))), rfl, h⟩
  refine VW.skip ?_
  exact arv [.ren [3] []] ⟨(wr ((2 : Int) * a0)), rfl, h⟩
 rintro s ⟨x3, rfl, h⟩
 unfold F95_j1 at h
 refine nR K (tn 1) ?_
 refine VW.join (fun s => ∃ x10 x11, s = ⟨[(3, I x10), (4, hh 0)], [ar 0 (.int .u8) x11 .dp]⟩ ∧ F95_j0 N x10 x11 = some r) ?_ ?_
 ·refine VW.block <| lop (fun k s => ∃ x15 x16, s = ⟨[(3, I x15), (4, hh 0)], [ar 0 (.int .u8) x16 .dp]⟩ ∧ F95_l0 N k x15 x16 = some r) N [.nilS 4 (.int .u8) .dp, .ren [3, 4] [0]] ⟨x3, [], rfl, h⟩ ?_
  rintro k18 s ⟨x15, x16, rfl, h⟩
  cases k18 with
  | zero => cases show none = some r from h
  | succ k18 =>
   replace h : F95_l0_b N (F95_l0 N k18) x15 x16 = some r := h
   unfold F95_l0_b at h
   refine sq <| nR K (tn 2) ?_
   refine cnd h ?_ ?_<;>intro h
   ·refine VW.skip <| VW.block ?_
    obtain⟨g19,h⟩:=gS h
    refine nR K (pu 2 (an (show ((128 : Int) ≠ 0) from by decide) (pu 3 (an g19 (tn 1))))) <| nE K (pu 1 (an (show ((128 : Int) ≠ 0) from by decide) (tn 1))) ?_
    exact aro [.ren [3, 4] [0]] ⟨(wr (Int.tdiv x15 (128 : Int))), (x16 ++ ([(IntKind.u8.wrap (wr ((Int.tmod x15 (128 : Int)) + (128 : Int))))])), rfl, h⟩
   refine VW.exit ?_
   exact arv [.ren [3, 4] [0]] ⟨x15, x16, rfl, h⟩
 rintro s ⟨x10, x11, rfl, h⟩
 unfold F95_j0 at h
 obtain⟨g12,h⟩:=gS h
 refine nR K (pu 4 (an g12 (tn 1))) ?_
 cases h; exact VW.ret (rt [some 0])
def F123 (N : Nat) (a0 : ByteArray) : Option ((List Int)) :=
  andO (F70 N a0) fun y2 => cond (!y2) (some ([])) (andO (F95 N (a0.size : Int)) fun y3 => gd (y3.length + a0.size ≤ lim (.int .u8)) (some (y3 ++ (bytesOf a0))))
theorem ok123 N a0 {r} (h : F123 N a0 = some r) : Con prog 123 [S a0] [.lf (.own (.int .u8) r .dp)] := by
 refine ctr [.lf (.own (.int .u8) .dp)] K func123 rfl fun w0 E0 ht => ?_
 unfold F123 at h
 show VW _ _ _ _ _ (retQ _ _ _ _) _
 refine nR K (tn 1) <| sq <| sq <| VW.region <| nG K 1 (tn 1) ?_
 obtain⟨y2,hy,h⟩:=aS h
 refine clc false [.t .str] [] (some 4) K (ok70 N _ hy) <| nN K (tn 1) ?_
 refine cnd h ?_ ?_<;>intro h
 ·refine nR K (tn 1) ?_
  cases h; exact VW.ret (rt [none])
 refine VW.skip <| sq <| VW.region <| nG K 2 (tn 2) ?_
 obtain⟨y3,hy,h⟩:=aS h
 refine clc false [.t (.int .i64)] [] (some 8) K (ok95 N _ hy) <| nG K 1 (tn 1) ?_
 obtain⟨g4,h⟩:=gS h
 refine VO.appS (d := 10) (φ := y3.length + a0.size ≤ lim (.int .u8)) (v := .lf (.hd 0 1 none)) (H' := [ar 1 (.int .u8) (y3 ++ (bytesOf a0)) .dp]) K (by kernel_rfl) g4 <| nN K (tn 1) ?_
 cases h; exact VW.ret (rt [some 0])
def F125 (N : Nat) (a0 : Bool) : Option (Int) :=
  cond a0 (some (1 : Int)) (some (0 : Int))
theorem ok125 N a0 {r} (h : F125 N a0 = some r) : Con prog 125 [B a0] [.lf (.v (.int .i64) r)] := by
 refine ctr [.lf (.v (.int .i64))] K func125 rfl fun w0 E0 ht => ?_
 unfold F125 at h
 show VW _ _ _ _ _ (retQ _ _ _ _) _
 refine nR K (tn 1) <| sq <| nR K (tn 1) ?_
 refine cnd h ?_ ?_<;>intro h
 ·refine nR K (tn 1) ?_
  cases h; exact VW.ret (rt [])
 refine VW.skip <| nR K (tn 1) ?_
 cases h; exact VW.ret (rt [])
def F124_j0 (N : Nat) (x24 : (List Int)) : Option ((List Int)) :=
  some x24
def F124_l0_b (N : Nat) (a0 : (List Int)) (nx42 : (List Int) → Int → Int → Option ((List Int))) (x33 : (List Int)) (x34 : Int) (x35 : Int) : Option ((List Int)) :=
  cond (decide (x35 < x34)) (gd (InR x35 a0.length) (andO (F95 N (a0.getD x35.toNat (Ty.dflt (.int .i64)))) fun y47 => gd (x33.length + y47.length ≤ lim (.int .u8)) (nx42 (x33 ++ y47) x34 (IntKind.i64.wrap (x35 + (1 : Int)))))) (F124_j0 N x33)
def F124_l0 (N : Nat) (a0 : (List Int)) := loopF (F124_l0_b N a0) (fun _ _ _ => none)
theorem F124_l0_s N a0 {k} (hk : 0 < k) x33 x34 x35 : F124_l0 N a0 k x33 x34 x35 = F124_l0_b N a0 (F124_l0 N a0 (k - 1)) x33 x34 x35 := by cases k;cases hk;rfl
def F124 (N : Nat) (a0 : (List Int)) : Option ((List Int)) :=
  F124_l0 N a0 N ([]) (a0.length : Int) (0 : Int)
theorem ok124 N a0 {r} (h : F124 N a0 = some r) : Con prog 124 [Vv (.sl (.int .i64)) a0] [.lf (.own (.int .u8) r .dp)] := by
 refine ctr [.lf (.own (.int .u8) .dp)] K func124 rfl fun w0 E0 ht => ?_
 unfold F124 at h
 show VW _ _ _ _ _ (retQ _ _ _ _) _
 refine nR K (tn 1) <| nR K (tn 1) ?_
 refine VW.join (fun s => ∃ x24, s = ⟨[(3, hh 0)], [ar 0 (.int .u8) x24 .dp]⟩ ∧ F124_j0 N x24 = some r) ?_ ?_
 ·refine nR K (tn 3) <| VW.block <| lop (fun k s => ∃ x33 x34 x35, s = ⟨[(3, hh 0), (6, Vv (.sl (.int .i64)) a0), (7, I x34), (8, I x35)], [ar 0 (.int .u8) x33 .dp]⟩ ∧ F124_l0 N a0 k x33 x34 x35 = some r) N [.nilS 3 (.int .u8) .dp, .ren [3, 6, 7, 8] [0]] ⟨[], (a0.length : Int), (0 : Int), rfl, h⟩ ?_
  rintro k42 s ⟨x33, x34, x35, rfl, h⟩
  cases k42 with
  | zero => cases show none = some r from h
  | succ k42 =>
   replace h : F124_l0_b N a0 (F124_l0 N a0 k42) x33 x34 x35 = some r := h
   unfold F124_l0_b at h
   refine nR K (tn 1) <| sq ?_
   refine cnd h ?_ ?_<;>intro h
   ·refine VW.skip <| sq <| VW.block ?_
    obtain⟨g46,h⟩:=gS h
    refine nR K (an g46 (tn 2)) <| VW.region <| nG K 2 (tn 2) ?_
    obtain⟨y47,hy,h⟩:=aS h
    refine clc false [.t (.int .i64)] [] (some 14) K (ok95 N _ hy) ?_
    obtain⟨g48,h⟩:=gS h
    refine nN K (an g48 (tn 1)) <| nE K (tn 2) ?_
    exact aro [.ren [3, 6, 7, 8] [0]] ⟨(x33 ++ y47), x34, (wr (x35 + (1 : Int))), rfl, h⟩
   refine VW.exit ?_
   exact arv [.ren [3] [0]] ⟨x33, rfl, h⟩
 rintro s ⟨x24, rfl, h⟩
 unfold F124_j0 at h
 refine nR K (tn 2) ?_
 cases h; exact VW.ret (rt [some 0])
def F126_j0 (N : Nat) (x37 : (List Int)) : Option ((List Int)) :=
  some x37
def F126_l0_b (N : Nat) (a0 : (List Int)) (nx63 : (List Int) → Int → Int → Option ((List Int))) (x50 : (List Int)) (x51 : Int) (x52 : Int) : Option ((List Int)) :=
  cond (decide (x52 < x51)) (gd (InR x52 a0.length) (andO (F122 N (a0.getD x52.toNat (Ty.dflt (.int .i64)))) fun y71 => cond (!y71) (some ([])) (andO (F95 N (a0.getD x52.toNat (Ty.dflt (.int .i64)))) fun y72 => gd (x50.length + y72.length ≤ lim (.int .u8)) (nx63 (x50 ++ y72) x51 (IntKind.i64.wrap (x52 + (1 : Int))))))) (F126_j0 N x50)
def F126_l0 (N : Nat) (a0 : (List Int)) := loopF (F126_l0_b N a0) (fun _ _ _ => none)
theorem F126_l0_s N a0 {k} (hk : 0 < k) x50 x51 x52 : F126_l0 N a0 k x50 x51 x52 = F126_l0_b N a0 (F126_l0 N a0 (k - 1)) x50 x51 x52 := by cases k;cases hk;rfl
def F126 (N : Nat) (a0 : (List Int)) : Option ((List Int)) :=
  cond (decide ((a0.length : Int) > (300 : Int))) (some ([])) (andO (F95 N (a0.length : Int)) fun y1 => F126_l0 N a0 N y1 (a0.length : Int) (0 : Int))
theorem ok126 N a0 {r} (h : F126 N a0 = some r) : Con prog 126 [Vv (.sl (.int .i64)) a0] [.lf (.own (.int .u8) r .dp)] := by
 refine ctr [.lf (.own (.int .u8) .dp)] K func126 rfl fun w0 E0 ht => ?_
 unfold F126 at h
 show VW _ _ _ _ _ (retQ _ _ _ _) _
 refine nR K (tn 1) <| sq <| nR K (tn 3) ?_
 refine cnd h ?_ ?_<;>intro h
 ·refine nR K (tn 1) ?_
  cases h; exact VW.ret (rt [none])
 refine VW.skip <| sq <| VW.region <| nG K 2 (tn 2) ?_
 obtain⟨y1,hy,h⟩:=aS h
 refine clc false [.t (.int .i64)] [] (some 11) K (ok95 N _ hy) <| nN K (tn 1) ?_
 refine VW.join (fun s => ∃ x37, s = ⟨[(3, hh 0)], [ar 0 (.int .u8) x37 .dp]⟩ ∧ F126_j0 N x37 = some r) ?_ ?_
 ·refine nR K (tn 3) <| VW.block <| lop (fun k s => ∃ x50 x51 x52, s = ⟨[(3, hh 0), (12, Vv (.sl (.int .i64)) a0), (13, I x51), (14, I x52)], [ar 0 (.int .u8) x50 .dp]⟩ ∧ F126_l0 N a0 k x50 x51 x52 = some r) N [.ren [3, 12, 13, 14] [0]] ⟨y1, (a0.length : Int), (0 : Int), rfl, h⟩ ?_
  rintro k63 s ⟨x50, x51, x52, rfl, h⟩
  cases k63 with
  | zero => cases show none = some r from h
  | succ k63 =>
   replace h : F126_l0_b N a0 (F126_l0 N a0 k63) x50 x51 x52 = some r := h
   unfold F126_l0_b at h
   refine nR K (tn 1) <| sq ?_
   refine cnd h ?_ ?_<;>intro h
   ·refine VW.skip <| sq <| VW.block ?_
    obtain⟨g69,h⟩:=gS h
    refine nR K (an g69 (tn 2)) <| sq <| sq <| VW.region <| nG K 1 (tn 1) ?_
    obtain⟨y71,hy,h⟩:=aS h
    refine clc false [.t (.int .i64)] [] (some 19) K (ok122 N _ hy) <| nN K (tn 1) ?_
    refine cnd h ?_ ?_<;>intro h
    ·refine nR K (tn 1) ?_
     cases h; exact VW.ret (rt [none])
    refine VW.skip <| VW.region <| nG K 2 (tn 2) ?_
    obtain⟨y72,hy,h⟩:=aS h
    refine clc false [.t (.int .i64)] [] (some 23) K (ok95 N _ hy) ?_
    obtain⟨g73,h⟩:=gS h
    refine nN K (an g73 (tn 1)) <| nE K (tn 2) ?_
    exact aro [.ren [3, 12, 13, 14] [0]] ⟨(x50 ++ y72), x51, (wr (x52 + (1 : Int))), rfl, h⟩
   refine VW.exit ?_
   exact arv [.ren [3] [0]] ⟨x50, rfl, h⟩
 rintro s ⟨x37, rfl, h⟩
 unfold F126_j0 at h
 refine nR K (tn 2) ?_
 cases h; exact VW.ret (rt [some 0])
def F96 (N : Nat) (a0 : Z87) : Option ((List Int)) :=
  andO (F99 N a0) fun y2 => cond (!y2) (some ([])) (andO (F95 N a0.1) fun y3 => cond (a0.1 == (0 : Int)) (andO (F123 N a0.2.1) fun y18 => gd (y3.length + y18.length ≤ lim (.int .u8)) (some (y3 ++ y18))) (cond (a0.1 == (1 : Int)) (andO (F125 N a0.2.2.2.2.2.1) fun y20 => andO (F124 N ([a0.2.2.1, a0.2.2.2.1, y20, a0.2.2.2.2.1])) fun y21 => gd (y3.length + y21.length ≤ lim (.int .u8)) (some (y3 ++ y21))) (cond (a0.1 == (2 : Int)) (andO (F126 N a0.2.2.2.2.2.2) fun y23 => gd (y3.length + y23.length ≤ lim (.int .u8)) (some (y3 ++ y23))) (cond (a0.1 == (3 : Int)) (andO (F124 N ([a0.2.2.1, a0.2.2.2.2.1])) fun y25 => gd (y3.length + y25.length ≤ lim (.int .u8)) (some (y3 ++ y25))) (cond (a0.1 == (5 : Int)) (andO (F124 N ([a0.2.2.1])) fun y27 => gd (y3.length + y27.length ≤ lim (.int .u8)) (some (y3 ++ y27))) (cond (a0.1 == (6 : Int)) (andO (F125 N a0.2.2.2.2.2.1) fun y29 => andO (F124 N ([y29, a0.2.2.2.2.1])) fun y30 => gd (y3.length + y30.length ≤ lim (.int .u8)) (some (y3 ++ y30))) (some y3)))))))
theorem ok96 N a0 {r} (h : F96 N a0 = some r) : Con prog 96 [.agg (lv Y87 a0)] [.lf (.own (.int .u8) r .dp)] := by
 refine ctr [.lf (.own (.int .u8) .dp)] K func96 rfl fun w0 E0 ht => ?_
 unfold F96 at h
 show VW _ _ _ _ _ (retQ _ _ _ _) _
 refine nR K (tn 2) <| sq <| sq <| VW.region <| nG K 1 (tn 1) ?_
 obtain⟨y2,hy,h⟩:=aS h
 refine clc false [.t Y87] [] (some 5) K (ok99 N _ hy) <| nN K (tn 1) ?_
 refine cnd h ?_ ?_<;>intro h
 ·refine nR K (tn 1) ?_
  cases h; exact VW.ret (rt [none])
 refine VW.skip <| sq <| VW.region <| nG K 2 (tn 2) ?_
 obtain⟨y3,hy,h⟩:=aS h
 refine clc false [.t (.int .i64)] [] (some 9) K (ok95 N _ hy) <| nN K (tn 1) <| sq <| nR K (tn 2) <| VW.block <| nR K (tn 2) ?_
 refine cnd h ?_ ?_<;>intro h
 ·refine sq <| VW.region <| nG K 3 (tn 3) ?_
  obtain⟨y18,hy,h⟩:=aS h
  refine clc false [.t .str] [] (some 17) K (ok123 N _ hy) ?_
  obtain⟨g19,h⟩:=gS h
  refine nN K (an g19 (tn 1)) ?_
  cases h; exact VW.ret (rt [some 1])
 refine nR K (tn 2) ?_
 refine cnd h ?_ ?_<;>intro h
 ·refine sq ?_
  obtain⟨y20,hy20,h⟩:=aS h
  obtain⟨y21,hy21,h⟩:=aS h
  obtain⟨g22,h⟩:=gS h
  refine dr K [(7, .cl [] (some 28) [.lf (.v (.int .i64) y20)]), (11, .cl [] (some 32) [.lf (.own (.int .u8) y21 .dp)])] [(7, 0), (11, 1)] [10, 11, 12] [2] [1] (pu 12 (an g22 (tn 1))) ⟨qC false [.t .bool] [] [] (some 28) K (ok125 N _ hy20), qC true [.t (.sl (.int .i64))] [] [] (some 32) K (ok124 N _ hy21), trivial⟩ ?_
  cases h; exact VW.ret (rt [some 0])
 refine nR K (tn 2) ?_
 refine cnd h ?_ ?_<;>intro h
 ·refine sq <| VW.region <| nG K 3 (tn 3) ?_
  obtain⟨y23,hy,h⟩:=aS h
  refine clc false [.t (.sl (.int .i64))] [] (some 39) K (ok126 N _ hy) ?_
  obtain⟨g24,h⟩:=gS h
  refine nN K (an g24 (tn 1)) ?_
  cases h; exact VW.ret (rt [some 1])
 refine nR K (tn 2) ?_
 refine cnd h ?_ ?_<;>intro h
 ·refine sq <| VW.region <| nG K 6 (tn 6) ?_
  obtain⟨y25,hy,h⟩:=aS h
  refine clc true [.t (.sl (.int .i64))] [] (some 49) K (ok124 N _ hy) ?_
  obtain⟨g26,h⟩:=gS h
  refine nN K (an g26 (tn 1)) ?_
  cases h; exact VW.ret (rt [some 1])
 refine nR K (tn 2) ?_
 refine cnd h ?_ ?_<;>intro h
 ·refine sq <| VW.region <| nG K 4 (tn 4) ?_
  obtain⟨y27,hy,h⟩:=aS h
  refine clc true [.t (.sl (.int .i64))] [] (some 57) K (ok124 N _ hy) ?_
  obtain⟨g28,h⟩:=gS h
  refine sN K [2] [1] ⟨[(2, hh 0)], [ar 0 (.int .u8) (y3 ++ y27) .dp]⟩ (an g28 (tn 1)) ?_
  cases h; exact VW.ret (rt [some 0])
 refine nR K (tn 2) ?_
 refine cnd h ?_ ?_<;>intro h
 ·refine sq ?_
  obtain⟨y29,hy29,h⟩:=aS h
  obtain⟨y30,hy30,h⟩:=aS h
  obtain⟨g31,h⟩:=gS h
  refine dr K [(3, .cl [] (some 64) [.lf (.v (.int .i64) y29)]), (7, .cl [] (some 68) [.lf (.own (.int .u8) y30 .dp)])] [(3, 0), (7, 1)] [6, 7, 8] [2] [1] (pu 8 (an g31 (tn 1))) ⟨qC false [.t .bool] [] [] (some 64) K (ok125 N _ hy29), qC true [.t (.sl (.int .i64))] [] [] (some 68) K (ok124 N _ hy30), trivial⟩ ?_
  cases h; exact VW.ret (rt [some 0])
 refine VW.skip <| sR K [2] [1] ⟨[(2, hh 0)], [ar 0 (.int .u8) y3 .dp]⟩ (tn 2) ?_
 cases h; exact VW.ret (rt [some 0])
def F128_j0 (N : Nat) (x12 : Int) : Option (Int) :=
  some x12
def F128_l0_b (N : Nat) (a0 : (List Int)) (nx22 : Int → Int → Int → Option (Int)) (x17 : Int) (x18 : Int) (x19 : Int) : Option (Int) :=
  cond (decide (x19 < x18)) (gd (InR x19 a0.length) (nx22 (Int.tmod (IntKind.i64.wrap ((IntKind.i64.wrap ((269 : Int) * x17)) + (IntKind.i64.wrap (a0.getD x19.toNat (Ty.dflt (.int .u8)))))) (999983 : Int)) x18 (IntKind.i64.wrap (x19 + (1 : Int))))) (F128_j0 N x17)
def F128_l0 (N : Nat) (a0 : (List Int)) := loopF (F128_l0_b N a0) (fun _ _ _ => none)
theorem F128_l0_s N a0 {k} (hk : 0 < k) x17 x18 x19 : F128_l0 N a0 k x17 x18 x19 = F128_l0_b N a0 (F128_l0 N a0 (k - 1)) x17 x18 x19 := by cases k;cases hk;rfl
def F128 (N : Nat) (a0 : (List Int)) : Option (Int) :=
  F128_l0 N a0 N (5 : Int) (a0.length : Int) (0 : Int)
theorem ok128 N a0 {r} (h : F128 N a0 = some r) : Con prog 128 [Vv (.sl (.int .u8)) a0] [.lf (.v (.int .i64) r)] := by
 refine ctr [.lf (.v (.int .i64))] K func128 rfl fun w0 E0 ht => ?_
 unfold F128 at h
 show VW _ _ _ _ _ (retQ _ _ _ _) _
 refine nR K (tn 1) <| nR K (tn 1) ?_
 refine VW.join (fun s => ∃ x12, s = ⟨[(3, I x12)], []⟩ ∧ F128_j0 N x12 = some r) ?_ ?_
 ·refine nR K (tn 3) <| VW.block <| lop (fun k s => ∃ x17 x18 x19, s = ⟨[(3, I x17), (6, Vv (.sl (.int .u8)) a0), (7, I x18), (8, I x19)], []⟩ ∧ F128_l0 N a0 k x17 x18 x19 = some r) N [.ren [3, 6, 7, 8] []] ⟨(5 : Int), (a0.length : Int), (0 : Int), rfl, h⟩ ?_
  rintro k22 s ⟨x17, x18, x19, rfl, h⟩
  cases k22 with
  | zero => cases show none = some r from h
  | succ k22 =>
   replace h : F128_l0_b N a0 (F128_l0 N a0 k22) x17 x18 x19 = some r := h
   unfold F128_l0_b at h
   refine nR K (tn 1) <| sq ?_
   refine cnd h ?_ ?_<;>intro h
   ·refine VW.skip <| sq <| VW.block ?_
    obtain⟨g24,h⟩:=gS h
    refine nR K (an g24 (tn 2)) <| nE K (pu 5 (an (show ((999983 : Int) ≠ 0) from by decide) (tn 1))) <| nE K (tn 2) ?_
    exact aro [.ren [3, 6, 7, 8] []] ⟨(Int.tmod (wr ((wr ((269 : Int) * x17)) + (wr (a0.getD x19.toNat (Ty.dflt (.int .u8)))))) (999983 : Int)), x18, (wr (x19 + (1 : Int))), rfl, h⟩
   refine VW.exit ?_
   exact arv [.ren [3] []] ⟨x17, rfl, h⟩
 rintro s ⟨x12, rfl, h⟩
 unfold F128_j0 at h
 refine nR K (tn 2) ?_
 cases h; exact VW.ret (rt [])
def F148_j0 (N : Nat) (x4 : (List Int)) : Option ((List Int)) :=
  some x4
def F148 (N : Nat) (a0 : (List Int)) (a1 : Int) : Option ((List Int)) :=
  cond (decide (a1 < (0 : Int))) (none) (cond (decide ((IntKind.i64.wrap (a1 - (IntKind.i64.wrap ((0 : Int) - (0 : Int))))) > (0 : Int))) (gd ((0 : Int) = (0 : Int)) (gd (0 ≤ (IntKind.i64.wrap (a1 - (IntKind.i64.wrap ((0 : Int) - (0 : Int))))) ∧ (IntKind.i64.wrap (a1 - (IntKind.i64.wrap ((0 : Int) - (0 : Int))))) ≤ (lim (.int .u8) : Int)) (gd (0 ≤ (0 : Int) ∧ (0 : Int) ≤ ((List.replicate (IntKind.i64.wrap (a1 - (IntKind.i64.wrap ((0 : Int) - (0 : Int))))).toNat (Ty.dflt (.int .u8))).length : Int)) (F148_j0 N ((List.replicate (IntKind.i64.wrap (a1 - (IntKind.i64.wrap ((0 : Int) - (0 : Int))))).toNat (Ty.dflt (.int .u8))).take ((0 : Int).toNat)))))) (F148_j0 N ([])))
theorem ok148 N a0 a1 {r} (h : F148 N a0 a1 = some r) : Con prog 148 [.lf (.nil), I a1] [.lf (.own (.int .u8) r .dp)] := by
 refine ctr [.lf (.own (.int .u8) .dp)] K func148 rfl fun w0 E0 ht => ?_
 unfold F148 at h
 show VW _ _ _ _ _ (retQ _ _ _ _) _
 refine nR K (tn 1) <| sq <| nR K (tn 2) ?_
 refine cnd h ?_ ?_<;>intro h
 ·exact nomatch h
 refine VW.skip ?_
 refine VW.join (fun s => ∃ x4, s = ⟨[(0, hh 0)], [ar 0 (.int .u8) x4 .dp]⟩ ∧ F148_j0 N x4 = some r) ?_ ?_
 ·refine sq <| VW.region <| nG K 2 (tn 2) <| VO.capN (d := 10) (v := I (0 : Int)) K (by kernel_rfl) <| nN K (tn 5) <| nR K (tn 2) ?_
  refine cnd h ?_ ?_<;>intro h
  ·refine VW.region <| nG K 2 (tn 2) <| VO.capN (d := 19) (v := I (0 : Int)) K (by kernel_rfl) ?_
   obtain⟨g6,h⟩:=gS h
   refine VO.cutN (d := 20) (φ := (0 : Int) = (0 : Int)) (v := .lf .nil) K (by kernel_rfl) g6 <| nG K 1 (tn 1) ?_
   obtain⟨g7,h⟩:=gS h
   refine VO.appZ (d := 22) (φ := 0 ≤ (wr (a1 - (wr ((0 : Int) - (0 : Int))))) ∧ (wr (a1 - (wr ((0 : Int) - (0 : Int))))) ≤ (lim (.int .u8) : Int)) (v := hh 0) (H' := [ar 0 (.int .u8) (List.replicate (wr (a1 - (wr ((0 : Int) - (0 : Int))))).toNat (Ty.dflt (.int .u8))) .dp]) K (by kernel_rfl) g7 ?_
   obtain⟨g8,h⟩:=gS h
   refine nN K (pu 2 (an g8 (tn 1))) ?_
   exact arv [.shr 0, .ren [0] [0]] ⟨((List.replicate (wr (a1 - (wr ((0 : Int) - (0 : Int))))).toNat (Ty.dflt (.int .u8))).take ((0 : Int).toNat)), rfl, h⟩
  refine VW.skip ?_
  exact arv [.nilS 0 (.int .u8) .dp, .ren [0] [0]] ⟨[], rfl, h⟩
 rintro s ⟨x4, rfl, h⟩
 unfold F148_j0 at h
 refine nR K (tn 2) ?_
 cases h; exact VW.ret (rt [some 0])
def F127_j0 (N : Nat) (x31 : (List Int)) : Option ((List Int)) :=
  some x31
def F127_l0_b (N : Nat) (a0 : (List (List Int))) (nx45 : (List Int) → Int → Int → Option ((List Int))) (x38 : (List Int)) (x39 : Int) (x40 : Int) : Option ((List Int)) :=
  cond (decide (x40 < x39)) (gd (InR x40 a0.length) (gd (x38.length + (a0.getD x40.toNat (Ty.dflt (.sl (.int .u8)))).length ≤ lim (.int .u8)) (nx45 (x38 ++ (a0.getD x40.toNat (Ty.dflt (.sl (.int .u8))))) x39 (IntKind.i64.wrap (x40 + (1 : Int)))))) (F127_j0 N x38)
def F127_l0 (N : Nat) (a0 : (List (List Int))) := loopF (F127_l0_b N a0) (fun _ _ _ => none)
theorem F127_l0_s N a0 {k} (hk : 0 < k) x38 x39 x40 : F127_l0 N a0 k x38 x39 x40 = F127_l0_b N a0 (F127_l0 N a0 (k - 1)) x38 x39 x40 := by cases k;cases hk;rfl
def F127_j1 (N : Nat) (a0 : (List (List Int))) (x12 : Int) : Option ((List Int)) :=
  andO (F148 N ([]) x12) fun y13 => F127_l0 N a0 N y13 (a0.length : Int) (0 : Int)
def F127_l1_b (N : Nat) (a0 : (List (List Int))) (nx59 : Int → Int → Int → Option ((List Int))) (x54 : Int) (x55 : Int) (x56 : Int) : Option ((List Int)) :=
  cond (decide (x56 < x55)) (gd (InR x56 a0.length) (cond (decide ((IntKind.i64.wrap (x54 + ((a0.getD x56.toNat (Ty.dflt (.sl (.int .u8)))).length : Int))) < (0 : Int))) (none) (nx59 (IntKind.i64.wrap (x54 + ((a0.getD x56.toNat (Ty.dflt (.sl (.int .u8)))).length : Int))) x55 (IntKind.i64.wrap (x56 + (1 : Int)))))) (F127_j1 N a0 x54)
def F127_l1 (N : Nat) (a0 : (List (List Int))) := loopF (F127_l1_b N a0) (fun _ _ _ => none)
theorem F127_l1_s N a0 {k} (hk : 0 < k) x54 x55 x56 : F127_l1 N a0 k x54 x55 x56 = F127_l1_b N a0 (F127_l1 N a0 (k - 1)) x54 x55 x56 := by cases k;cases hk;rfl
def F127 (N : Nat) (a0 : (List (List Int))) : Option ((List Int)) :=
  F127_l1 N a0 N (0 : Int) (a0.length : Int) (0 : Int)
theorem ok127 N a0 {r} (h : F127 N a0 = some r) : Con prog 127 [Vv (.sl (.sl (.int .u8))) a0] [.lf (.own (.int .u8) r .dp)] := by
 refine ctr [.lf (.own (.int .u8) .dp)] K func127 rfl fun w0 E0 ht => ?_
 unfold F127 at h
 show VW _ _ _ _ _ (retQ _ _ _ _) _
 refine nR K (tn 1) <| nR K (tn 1) ?_
 refine VW.join (fun s => ∃ x12, s = ⟨[(0, Vv (.sl (.sl (.int .u8))) a0), (3, I x12)], []⟩ ∧ F127_j1 N a0 x12 = some r) ?_ ?_
 ·refine nR K (tn 3) <| VW.block <| lop (fun k s => ∃ x54 x55 x56, s = ⟨[(0, Vv (.sl (.sl (.int .u8))) a0), (3, I x54), (9, Vv (.sl (.sl (.int .u8))) a0), (10, I x55), (11, I x56)], []⟩ ∧ F127_l1 N a0 k x54 x55 x56 = some r) N [.ren [0, 3, 9, 10, 11] []] ⟨(0 : Int), (a0.length : Int), (0 : Int), rfl, h⟩ ?_
  rintro k59 s ⟨x54, x55, x56, rfl, h⟩
  cases k59 with
  | zero => cases show none = some r from h
  | succ k59 =>
   replace h : F127_l1_b N a0 (F127_l1 N a0 k59) x54 x55 x56 = some r := h
   unfold F127_l1_b at h
   refine nR K (tn 1) <| sq ?_
   refine cnd h ?_ ?_<;>intro h
   ·refine VW.skip <| sq <| VW.block ?_
    obtain⟨g61,h⟩:=gS h
    refine nR K (an g61 (tn 2)) <| nR K (tn 5) <| nR K (tn 2) ?_
    refine cnd h ?_ ?_<;>intro h
    ·exact nomatch h
    refine VW.skip <| nE K (tn 2) ?_
    exact aro [.ren [0, 3, 9, 10, 11] []] ⟨(wr (x54 + ((a0.getD x56.toNat (Ty.dflt (.sl (.int .u8)))).length : Int))), x55, (wr (x56 + (1 : Int))), rfl, h⟩
   refine VW.exit ?_
   exact arv [.ren [0, 3] []] ⟨x54, rfl, h⟩
 rintro s ⟨x12, rfl, h⟩
 unfold F127_j1 at h
 refine sq <| VW.region <| nG K 1 (tn 1) ?_
 obtain⟨y13,hy,h⟩:=aS h
 refine clc false [.k, .t (.int .i64)] [] (some 24) K (ok148 N _ _ hy) <| nN K (tn 1) ?_
 refine VW.join (fun s => ∃ x31, s = ⟨[(6, hh 0)], [ar 0 (.int .u8) x31 .dp]⟩ ∧ F127_j0 N x31 = some r) ?_ ?_
 ·refine nR K (tn 3) <| VW.block <| lop (fun k s => ∃ x38 x39 x40, s = ⟨[(6, hh 0), (25, Vv (.sl (.sl (.int .u8))) a0), (26, I x39), (27, I x40)], [ar 0 (.int .u8) x38 .dp]⟩ ∧ F127_l0 N a0 k x38 x39 x40 = some r) N [.ren [6, 25, 26, 27] [0]] ⟨y13, (a0.length : Int), (0 : Int), rfl, h⟩ ?_
  rintro k45 s ⟨x38, x39, x40, rfl, h⟩
  cases k45 with
  | zero => cases show none = some r from h
  | succ k45 =>
   replace h : F127_l0_b N a0 (F127_l0 N a0 k45) x38 x39 x40 = some r := h
   unfold F127_l0_b at h
   refine nR K (tn 1) <| sq ?_
   refine cnd h ?_ ?_<;>intro h
   ·refine VW.skip <| sq <| VW.block ?_
    obtain⟨g48,h⟩:=gS h
    refine nR K (an g48 (tn 2)) ?_
    obtain⟨g49,h⟩:=gS h
    refine nE K (pu 2 (an g49 (tn 1))) <| nE K (tn 2) ?_
    exact aro [.ren [6, 25, 26, 27] [0]] ⟨(x38 ++ (a0.getD x40.toNat (Ty.dflt (.sl (.int .u8))))), x39, (wr (x40 + (1 : Int))), rfl, h⟩
   refine VW.exit ?_
   exact arv [.ren [6] [0]] ⟨x38, rfl, h⟩
 rintro s ⟨x31, rfl, h⟩
 unfold F127_j0 at h
 refine nR K (tn 2) ?_
 cases h; exact VW.ret (rt [some 0])
def F97 (N : Nat) (a0 : (List Int)) : Option ((List Int) × Bool) :=
  cond (decide ((a0.length : Int) > (4000 : Int))) (some ([], false)) (gd (0 < ([(80 : Int), (83 : Int)]).length) (andO (F95 N (a0.length : Int)) fun y2 => andO (F128 N a0) fun y3 => andO (F95 N y3) fun y4 => andO (F127 N ([[(80 : Int), (83 : Int)], y2, a0, y4])) fun y5 => some (y5, true)))
theorem ok97 N a0 {r} (h : F97 N a0 = some r) : Con prog 97 [Vv (.sl (.int .u8)) a0] [.lf (.own (.int .u8) r.1 .dp), .lf (.v .bool r.2)] := by
 refine ctr [.lf (.own (.int .u8) .dp), .lf (.v .bool)] K func97 rfl fun w0 E0 ht => ?_
 unfold F97 at h
 show VW _ _ _ _ _ (retQ _ _ _ _) _
 refine nR K (tn 2) <| sq <| nR K (tn 3) ?_
 refine cnd h ?_ ?_<;>intro h
 ·refine nR K (tn 2) ?_
  cases h; exact VW.ret (rt [none])
 refine VW.skip <| sq <| VW.region <| nG K 1 (tn 1) ?_
 obtain⟨g1,h⟩:=gS h
 refine VO.mark (d := 8) (φ := 0 < ([(80 : Int), (83 : Int)]).length) (v := Vv (.sl (.int .u8)) ([(80 : Int), (83 : Int)])) (H' := [none]) K (by kernel_rfl) g1 <| nG K 2 (tn 2) ?_
 obtain⟨y2,hy,h⟩:=aS h
 refine clc false [.t (.int .i64)] [] (some 11) K (ok95 N _ hy) <| nG K 2 (tn 2) ?_
 obtain⟨y3,hy,h⟩:=aS h
 refine clc false [.t (.sl (.int .u8))] [] (some 14) K (ok128 N _ hy) ?_
 obtain⟨y4,hy,h⟩:=aS h
 refine clc false [.t (.int .i64)] [] (some 15) K (ok95 N _ hy) <| VO.ghl [.frz 1, .frz 2] <| nG K 1 (tn 1) ?_
 obtain⟨y5,hy,h⟩:=aS h
 refine clc true [.t (.sl (.sl (.int .u8)))] [] (some 17) K (ok127 N _ hy) <| nN K (tn 2) ?_
 cases h; exact VW.ret (rt [some 4])
def F72_j0 (N : Nat) (x27 : (List Int)) : Option ((List Int) × Bool) :=
  andO (F97 N x27) fun y28 => some (y28.1, y28.2)
def F72_l0_b (N : Nat) (a0 : (List Z87)) (nx46 : (List Int) → Int → Int → Option ((List Int) × Bool)) (x37 : (List Int)) (x38 : Int) (x39 : Int) : Option ((List Int) × Bool) :=
  cond (decide (x39 < x38)) (gd (InR x39 a0.length) (andO (F96 N (a0.getD x39.toNat (Ty.dflt Y87))) fun y51 => gd (x37.length + y51.length ≤ lim (.int .u8)) (nx46 (x37 ++ y51) x38 (IntKind.i64.wrap (x39 + (1 : Int)))))) (F72_j0 N x37)
def F72_l0 (N : Nat) (a0 : (List Z87)) := loopF (F72_l0_b N a0) (fun _ _ _ => none)
theorem F72_l0_s N a0 {k} (hk : 0 < k) x37 x38 x39 : F72_l0 N a0 k x37 x38 x39 = F72_l0_b N a0 (F72_l0 N a0 (k - 1)) x37 x38 x39 := by cases k;cases hk;rfl
def F72 (N : Nat) (a0 : (List Z87)) : Option ((List Int) × Bool) :=
  andO (F73 N a0) fun y2 => cond (!y2) (some ([], false)) (andO (F95 N (a0.length : Int)) fun y3 => F72_l0 N a0 N y3 (a0.length : Int) (0 : Int))
theorem ok72 N a0 {r} (h : F72 N a0 = some r) : Con prog 72 [Vv (.sl Y87) a0] [.lf (.own (.int .u8) r.1 .dp), .lf (.v .bool r.2)] := by
 refine ctr [.lf (.own (.int .u8) .dp), .lf (.v .bool)] K func72 rfl fun w0 E0 ht => ?_
 unfold F72 at h
 show VW _ _ _ _ _ (retQ _ _ _ _) _
 refine nR K (tn 2) <| sq <| sq <| VW.region <| nG K 1 (tn 1) ?_
 obtain⟨y2,hy,h⟩:=aS h
 refine clc false [.t (.sl Y87)] [] (some 8) K (ok73 N _ hy) <| nN K (tn 1) ?_
 refine cnd h ?_ ?_<;>intro h
 ·refine nR K (tn 2) ?_
  cases h; exact VW.ret (rt [none])
 refine VW.skip <| sq <| VW.region <| nG K 2 (tn 2) ?_
 obtain⟨y3,hy,h⟩:=aS h
 refine clc false [.t (.int .i64)] [] (some 12) K (ok95 N _ hy) <| nN K (tn 1) ?_
 refine VW.join (fun s => ∃ x27, s = ⟨[(4, hh 0)], [ar 0 (.int .u8) x27 .dp]⟩ ∧ F72_j0 N x27 = some r) ?_ ?_
 ·refine nR K (tn 3) <| VW.block <| lop (fun k s => ∃ x37 x38 x39, s = ⟨[(4, hh 0), (13, Vv (.sl Y87) a0), (14, I x38), (15, I x39)], [ar 0 (.int .u8) x37 .dp]⟩ ∧ F72_l0 N a0 k x37 x38 x39 = some r) N [.ren [4, 13, 14, 15] [0]] ⟨y3, (a0.length : Int), (0 : Int), rfl, h⟩ ?_
  rintro k46 s ⟨x37, x38, x39, rfl, h⟩
  cases k46 with
  | zero => cases show none = some r from h
  | succ k46 =>
   replace h : F72_l0_b N a0 (F72_l0 N a0 k46) x37 x38 x39 = some r := h
   unfold F72_l0_b at h
   refine nR K (tn 1) <| sq ?_
   refine cnd h ?_ ?_<;>intro h
   ·refine VW.skip <| sq <| VW.block ?_
    obtain⟨g50,h⟩:=gS h
    refine nR K (an g50 (tn 3)) <| VW.region <| nG K 2 (tn 2) ?_
    obtain⟨y51,hy,h⟩:=aS h
    refine clc false [.t Y87] [] (some 21) K (ok96 N _ hy) ?_
    obtain⟨g52,h⟩:=gS h
    refine nN K (an g52 (tn 1)) <| nE K (tn 2) ?_
    exact aro [.ren [4, 13, 14, 15] [0]] ⟨(x37 ++ y51), x38, (wr (x39 + (1 : Int))), rfl, h⟩
   refine VW.exit ?_
   exact arv [.ren [4] [0]] ⟨x37, rfl, h⟩
 rintro s ⟨x27, rfl, h⟩
 unfold F72_j0 at h
 refine sq <| VW.region <| nG K 1 (tn 1) ?_
 obtain⟨y28,hy,h⟩:=aS h
 refine clc true [.t (.sl (.int .u8))] [] (some 25) K (ok97 N _ hy) <| nN K (tn 4) ?_
 cases h; exact VW.ret (rt [some 1])
def F49_j0 (N : Nat) (x21 : Int) : Option (Int) :=
  some x21
def F49_l0_b (N : Nat) (nx37 : Int → (List Int) → Int → Int → Option (Int)) (x29 : Int) (x30 : (List Int)) (x31 : Int) (x32 : Int) : Option (Int) :=
  cond (decide (x32 < x31)) (gd (InR x32 x30.length) (gd (x32.toNat < x30.length) (nx37 (Int.tmod (IntKind.i64.wrap ((IntKind.i64.wrap ((31 : Int) * x29)) + (IntKind.i64.wrap (x30.getD x32.toNat (Ty.dflt (.int .u8)))))) (251 : Int)) x30 x31 (IntKind.i64.wrap (x32 + (1 : Int)))))) (F49_j0 N x29)
def F49_l0 (N : Nat) := loopF (F49_l0_b N) (fun _ _ _ _ => none)
theorem F49_l0_s N {k} (hk : 0 < k) x29 x30 x31 x32 : F49_l0 N k x29 x30 x31 x32 = F49_l0_b N (F49_l0 N (k - 1)) x29 x30 x31 x32 := by cases k;cases hk;rfl
def F49 (N : Nat) (a0 : (List Z87)) : Option (Int) :=
  andO (F72 N a0) fun y1 => cond (!y1.2) (some (-1 : Int)) (F49_l0 N N (97 : Int) y1.1 (y1.1.length : Int) (0 : Int))
theorem ok49 N a0 {r} (h : F49 N a0 = some r) : Con prog 49 [Vv (.sl Y87) a0] [.lf (.v (.int .i64) r)] := by
 refine ctr [.lf (.v (.int .i64))] K func49 rfl fun w0 E0 ht => ?_
 unfold F49 at h
 show VW _ _ _ _ _ (retQ _ _ _ _) _
 refine nR K (tn 1) <| sq <| VW.region <| nG K 1 (tn 1) ?_
 obtain⟨y1,hy,h⟩:=aS h
 refine clc false [.t (.sl Y87)] [] (some 10) K (ok72 N _ hy) <| nN K (tn 5) <| sq <| nR K (tn 2) ?_
 refine cnd h ?_ ?_<;>intro h
 ·refine nR K (tn 1) ?_
  cases h; exact VW.ret (rt [])
 refine VW.skip <| nR K (tn 1) ?_
 refine VW.join (fun s => ∃ x21, s = ⟨[(5, I x21)], []⟩ ∧ F49_j0 N x21 = some r) ?_ ?_
 ·refine nR K (tn 3) <| VW.block <| lop (fun k s => ∃ x29 x30 x31 x32, s = ⟨[(5, I x29), (15, hh 0), (16, I x31), (17, I x32)], [ar 0 (.int .u8) x30 .dp]⟩ ∧ F49_l0 N k x29 x30 x31 x32 = some r) N [.ren [5, 15, 16, 17] [0]] ⟨(97 : Int), y1.1, (y1.1.length : Int), (0 : Int), rfl, h⟩ ?_
  rintro k37 s ⟨x29, x30, x31, x32, rfl, h⟩
  cases k37 with
  | zero => cases show none = some r from h
  | succ k37 =>
   replace h : F49_l0_b N (F49_l0 N k37) x29 x30 x31 x32 = some r := h
   unfold F49_l0_b at h
   refine nR K (tn 1) <| sq ?_
   refine cnd h ?_ ?_<;>intro h
   ·refine VW.skip <| sq <| VW.block ?_
    obtain⟨g40,h⟩:=gS h
    obtain⟨g41,h⟩:=gS h
    refine nR K (an g40 (an g41 (tn 1))) <| nE K (pu 5 (an (show ((251 : Int) ≠ 0) from by decide) (tn 1))) <| nE K (tn 2) ?_
    exact aro [.ren [5, 15, 16, 17] [0]] ⟨(Int.tmod (wr ((wr ((31 : Int) * x29)) + (wr (x30.getD x32.toNat (Ty.dflt (.int .u8)))))) (251 : Int)), x30, x31, (wr (x32 + (1 : Int))), rfl, h⟩
   refine VW.exit ?_
   exact arv [.ren [5] []] ⟨x29, rfl, h⟩
 rintro s ⟨x21, rfl, h⟩
 unfold F49_j0 at h
 refine nR K (tn 2) ?_
 cases h; exact VW.ret (rt [])
def F76 (N : Nat) (a0 : (List Int)) : Option ((List Int)) :=
  gd (a0.length < 4611686018427387904) (some (a0.mergeSort fun x y => decide (x ≤ y)))
theorem ok76 N a0 {r} (h : F76 N a0 = some r) : ConM prog 76 [some (.arr 0 (.int .i64) a0 .dp)] [.lf (.hd 0 0 none)] [] [some (.arr 0 (.int .i64) r .dp)] := by
 obtain ⟨g, h⟩ := gd_some h
 cases h
 exact con_sort (enters_of func76 rfl (by decide)) g (fun p c w => Go.Proofs.Tryz.slices_Sort_int_none p c w) (fun b c w h1 h2 => Go.Proofs.Tryz.slices_Sort_int b 0 c a0 w h1 h2 g)
def F77 (N : Nat) (a0 : (List Int)) : Option ((List Int)) :=
  gd (a0.length ≤ 9223372036854775807) (some (Lib.compact a0))
theorem ok77 N a0 {r} (h : F77 N a0 = some r) : ConM prog 77 [some (.arr 0 (.int .i64) a0 .dp)] [.lf (.hd 0 0 none)] [.lf (.own (.int .i64) r .dp)] [none] := by
 obtain ⟨g, h⟩ := gd_some h
 cases h
 exact con_compact (enters_of func77 rfl (by decide)) g (fun p c w => Go.Proofs.Tryz.slices_Compact_int_empty p c w) (fun b c w h1 h2 => Go.Proofs.Tryz.slices_Compact_int b 0 c a0 w h1 g h2)
def F51_j0 (N : Nat) (x26 : (List Int)) : Option ((List Int)) :=
  andO (F76 N x26) fun y27 => andO (F77 N y27) fun y28 => some y28
def F51_j1 (N : Nat) (nx46 : (List Int) → Int → Int → Option ((List Int))) (x38 : Int) (x39 : Int) (x49 : (List Int)) : Option ((List Int)) :=
  nx46 x49 x38 (IntKind.i64.wrap (x39 + (1 : Int)))
def F51_l0_b (N : Nat) (a0 : (List Z87)) (nx46 : (List Int) → Int → Int → Option ((List Int))) (x37 : (List Int)) (x38 : Int) (x39 : Int) : Option ((List Int)) :=
  cond (decide (x39 < x38)) (gd (InR x39 a0.length) (cond ((a0.getD x39.toNat (Ty.dflt Y87)).2.2.2.2.2.1) (gd (x37.length + ([(a0.getD x39.toNat (Ty.dflt Y87)).2.2.2.2.1]).length ≤ lim (.int .i64)) (F51_j1 N nx46 x38 x39 (x37 ++ ([(a0.getD x39.toNat (Ty.dflt Y87)).2.2.2.2.1])))) (F51_j1 N nx46 x38 x39 x37))) (F51_j0 N x37)
def F51_l0 (N : Nat) (a0 : (List Z87)) := loopF (F51_l0_b N a0) (fun _ _ _ => none)
theorem F51_l0_s N a0 {k} (hk : 0 < k) x37 x38 x39 : F51_l0 N a0 k x37 x38 x39 = F51_l0_b N a0 (F51_l0 N a0 (k - 1)) x37 x38 x39 := by cases k;cases hk;rfl
def F51 (N : Nat) (a0 : (List Z87)) : Option ((List Int)) :=
  andO (F73 N a0) fun y2 => cond (!y2) (some ([])) (F51_l0 N a0 N ([]) (a0.length : Int) (0 : Int))
theorem ok51 N a0 {r} (h : F51 N a0 = some r) : Con prog 51 [Vv (.sl Y87) a0] [.lf (.own (.int .i64) r .dp)] := by
 refine ctr [.lf (.own (.int .i64) .dp)] K func51 rfl fun w0 E0 ht => ?_
 unfold F51 at h
 show VW _ _ _ _ _ (retQ _ _ _ _) _
 refine nR K (tn 1) <| sq <| sq <| VW.region <| nG K 1 (tn 1) ?_
 obtain⟨y2,hy,h⟩:=aS h
 refine clc false [.t (.sl Y87)] [] (some 7) K (ok73 N _ hy) <| nN K (tn 1) ?_
 refine cnd h ?_ ?_<;>intro h
 ·refine nR K (tn 1) ?_
  cases h; exact VW.ret (rt [none])
 refine VW.skip <| nR K (tn 1) ?_
 refine VW.join (fun s => ∃ x26, s = ⟨[(3, hh 0)], [ar 0 (.int .i64) x26 .dp]⟩ ∧ F51_j0 N x26 = some r) ?_ ?_
 ·refine nR K (tn 3) <| VW.block <| lop (fun k s => ∃ x37 x38 x39, s = ⟨[(3, hh 0), (9, Vv (.sl Y87) a0), (10, I x38), (11, I x39)], [ar 0 (.int .i64) x37 .dp]⟩ ∧ F51_l0 N a0 k x37 x38 x39 = some r) N [.nilS 3 (.int .i64) .dp, .ren [3, 9, 10, 11] [0]] ⟨[], (a0.length : Int), (0 : Int), rfl, h⟩ ?_
  rintro k46 s ⟨x37, x38, x39, rfl, h⟩
  cases k46 with
  | zero => cases show none = some r from h
  | succ k46 =>
   replace h : F51_l0_b N a0 (F51_l0 N a0 k46) x37 x38 x39 = some r := h
   unfold F51_l0_b at h
   refine nR K (tn 1) <| sq ?_
   refine cnd h ?_ ?_<;>intro h
   ·refine VW.skip ?_
    refine VW.join (fun s => ∃ x49, s = ⟨[(3, hh 0), (9, Vv (.sl Y87) a0), (10, I x38), (11, I x39)], [ar 0 (.int .i64) x49 .dp]⟩ ∧ F51_j1 N (F51_l0 N a0 k46) x38 x39 x49 = some r) ?_ ?_
    ·refine VW.block ?_
     obtain⟨g51,h⟩:=gS h
     refine nR K (an g51 (tn 3)) <| nR K (tn 2) ?_
     refine cnd h ?_ ?_<;>intro h
     ·obtain⟨g52,h⟩:=gS h
      refine nE K (pu 4 (an g52 (tn 1))) ?_
      exact arv [.ren [3, 9, 10, 11] [0]] ⟨(x37 ++ ([(a0.getD x39.toNat D87).2.2.2.2.1])), rfl, h⟩
     refine VW.skip ?_
     exact arv [.ren [3, 9, 10, 11] [0]] ⟨x37, rfl, h⟩
    rintro s ⟨x49, rfl, h⟩
    unfold F51_j1 at h
    refine nE K (tn 2) ?_
    exact aro [.ren [3, 9, 10, 11] [0]] ⟨x49, x38, (wr (x39 + (1 : Int))), rfl, h⟩
   refine VW.exit ?_
   exact arv [.ren [3] [0]] ⟨x37, rfl, h⟩
 rintro s ⟨x26, rfl, h⟩
 unfold F51_j0 at h
 refine sq <| VW.region <| nG K 1 (tn 1) ?_
 obtain⟨y27,hy,h⟩:=aS h
 refine VO.callM [0] [.t (.sl (.int .i64))] (d := some 24) (by kernel_rfl) (by kernel_rfl) (ok76 N _ hy) (by kernel_rfl) <| nN K (tn 0) <| sq <| VW.region <| nG K 1 (tn 1) ?_
 obtain⟨y28,hy,h⟩:=aS h
 refine VO.callM [0] [.t (.sl (.int .i64))] (d := some 26) (by kernel_rfl) (by kernel_rfl) (ok77 N _ hy) (by kernel_rfl) <| nN K (tn 1) ?_
 cases h; exact VW.ret (rt [some 1])
theorem ok101_c1 N a0 (g1 : FuncId) e1_0 (p1 : Z87 → Option (Bool)) (hp1 : ∀ (z0 : Z87) (r : Bool), p1 z0 = some r → Con prog g1 [.agg (lv Y87 z0), .lf (.fp (.int .i64) e1_0 0)] [.lf (.v .bool r)]) {r} (h : F101 N a0 p1 = some r) : Con prog 101 [Vv (.sl Y87) a0, .clo g1 [.lf (.fp (.int .i64) e1_0 0)]] [.lf (.v (.int .i64) r)] := by
 refine ctr [.lf (.v (.int .i64))] K func101 rfl fun w0 E0 ht => ?_
 unfold F101 at h
 show VW _ _ _ _ _ (retQ _ _ _ _) _
 refine nR K (tn 1) ?_
 refine VW.join (fun s => s = ⟨[], []⟩ ∧ F101_j0 N = some r) ?_ ?_
 ·refine nR K (tn 3) <| VW.block <| lop (fun k s => ∃ x23 x24, s = ⟨[(0, Vv (.sl Y87) a0), (1, .clo g1 [.lf (.fp (.int .i64) e1_0 0)]), (7, I x23), (8, I x24)], []⟩ ∧ F101_l0 N a0 p1 k x23 x24 = some r) N [.ren [0, 1, 7, 8] []] ⟨(a0.length : Int), (0 : Int), rfl, h⟩ ?_
  rintro k29 s ⟨x23, x24, rfl, h⟩
  cases k29 with
  | zero => cases show none = some r from h
  | succ k29 =>
   replace h : F101_l0_b N a0 p1 (F101_l0 N a0 p1 k29) x23 x24 = some r := h
   unfold F101_l0_b at h
   refine nR K (tn 1) <| sq ?_
   refine cnd h ?_ ?_<;>intro h
   ·refine VW.skip <| sq <| VW.block <| nR K (tn 2) <| sq <| VW.region ?_
    obtain⟨g32,h⟩:=gS h
    refine nG K 5 (pu 3 (an g32 (tn 1))) ?_
    obtain⟨y33,hy,h⟩:=aS h
    refine clc false [.t Y87] [.k] (some 16) K (hp1 _ _ hy) <| nN K (tn 0) ?_
    refine cnd h ?_ ?_<;>intro h
    ·refine nR K (tn 2) ?_
     cases h; exact VW.ret (rt [])
    refine VW.skip <| nE K (tn 2) ?_
    exact aro [.ren [0, 1, 7, 8] []] ⟨x23, (wr (x24 + (1 : Int))), rfl, h⟩
   refine VW.exit ?_
   exact arv [.ren [] []] ⟨rfl, h⟩
 rintro s ⟨rfl, h⟩
 unfold F101_j0 at h
 refine nR K (tn 1) ?_
 cases h; exact VW.ret (rt [])
theorem ok74_c1 N a0 (g1 : FuncId) e1_0 (p1 : Z87 → Option (Bool)) (hp1 : ∀ (z0 : Z87) (r : Bool), p1 z0 = some r → Con prog g1 [.agg (lv Y87 z0), .lf (.fp (.int .i64) e1_0 0)] [.lf (.v .bool r)]) {r} (h : F74 N a0 p1 = some r) : Con prog 74 [Vv (.sl Y87) a0, .clo g1 [.lf (.fp (.int .i64) e1_0 0)]] [.lf (.v .bool r)] := by
 refine ctr [.lf (.v .bool)] K func74 rfl fun w0 E0 ht => ?_
 unfold F74 at h
 show VW _ _ _ _ _ (retQ _ _ _ _) _
 refine nR K (tn 1) <| sq <| VW.region <| nG K 2 (tn 2) ?_
 obtain⟨y1,hy,h⟩:=aS h
 refine clc false [.t (.sl Y87), .clo [.k]] [] (some 7) K (ok101_c1 N _ g1 e1_0 p1 hp1 hy) <| nN K (tn 2) ?_
 cases h; exact VW.ret (rt [])
def F75 (N : Nat) (a0 : Z87) (c0 : Int) : Option (Bool) :=
  cond a0.2.2.2.2.2.1 (some (decide (a0.2.2.2.2.1 ≥ c0))) (some false)
theorem ok75 N a0 c0 {r} (h : F75 N a0 c0 = some r) : Con prog 75 [.agg (lv Y87 a0), .lf (.fp (.int .i64) c0 0)] [.lf (.v .bool r)] := by
 refine ctr [.lf (.v .bool)] K func75 rfl fun w0 E0 ht => ?_
 unfold F75 at h
 show VW _ _ _ _ _ (retQ _ _ _ _) _
 refine nR K (tn 2) <| sq <| VW.region <| nG K 3 (tn 3) ?_
 refine spC 6 h ?_ ?_<;>intro h
 ·refine nN K (tn 6) ?_
  cases h; exact VW.ret (rt [])
 refine nN K (tn 6) ?_
 cases h; exact VW.ret (rt [])
def F50 (N : Nat) (a0 : (List Z87)) (a1 : Int) : Option (Bool) :=
  andO (F73 N a0) fun y1 => cond y1 (andO (F74 N a0 (fun z0 => F75 N z0 a1)) fun y2 => some (!y2)) (some false)
theorem ok50 N a0 a1 {r} (h : F50 N a0 a1 = some r) : Con prog 50 [Vv (.sl Y87) a0, I a1] [.lf (.v .bool r)] := by
 refine ctr [.lf (.v .bool)] K func50 rfl fun w0 E0 ht => ?_
 unfold F50 at h
 show VW _ _ _ _ _ (retQ _ _ _ _) _
 refine nR K (tn 2) <| sq <| VW.region <| nG K 1 (tn 1) ?_
 obtain⟨y1,hy,h⟩:=aS h
 refine clc false [.t (.sl Y87)] [] (some 6) K (ok73 N _ hy) <| nG K 1 (tn 1) ?_
 refine spC 7 h ?_ ?_<;>intro h
 ·refine nG K 2 (tn 2) <| VO.on (j := 2) (want := true) (d := 7) (b := true) rfl rfl rfl (by kernel_rfl) rfl ?_
  obtain⟨y2,hy,h⟩:=aS h
  refine VO.ghl [.frzB 0 (.int .i64)] <| clc false [.t (.sl Y87), .clo [.k]] [] (some 10) K (ok74_c1 N _ 75 a1 (fun z0 => F75 N z0 a1) (fun z0 _ hz => ok75 N z0 _ hz) hy) <| nN K (tn 3) ?_
  cases h; exact VW.ret (rt [])
 refine nN K (tn 6) ?_
 cases h; exact VW.ret (rt [])
def F78_j0 (N : Nat) : Option (Bool) :=
  some true
def F78_l0_b (N : Nat) (a0 : (List Z87)) (a1 : (List Z87)) (p2 : Z87 → Z87 → Option (Bool)) (nx39 : Int → Int → Option (Bool)) (x31 : Int) (x32 : Int) : Option (Bool) :=
  cond (decide (x32 < x31)) (gd (InR x32 a0.length) (gd (InR x32 a1.length) (andO (p2 (a0.getD x32.toNat (Ty.dflt Y87)) (a1.getD x32.toNat (Ty.dflt Y87))) fun y45 => cond (!y45) (some false) (nx39 x31 (IntKind.i64.wrap (x32 + (1 : Int))))))) (F78_j0 N)
def F78_l0 (N : Nat) (a0 : (List Z87)) (a1 : (List Z87)) (p2 : Z87 → Z87 → Option (Bool)) := loopF (F78_l0_b N a0 a1 p2) (fun _ _ => none)
theorem F78_l0_s N a0 a1 (p2 : Z87 → Z87 → Option (Bool)) {k} (hk : 0 < k) x31 x32 : F78_l0 N a0 a1 p2 k x31 x32 = F78_l0_b N a0 a1 p2 (F78_l0 N a0 a1 p2 (k - 1)) x31 x32 := by cases k;cases hk;rfl
def F78 (N : Nat) (a0 : (List Z87)) (a1 : (List Z87)) (p2 : Z87 → Z87 → Option (Bool)) : Option (Bool) :=
  cond ((a0.length : Int) != (a1.length : Int)) (some false) (F78_l0 N a0 a1 p2 N (a0.length : Int) (0 : Int))
theorem ok78 N a0 a1 (g2 : FuncId) (p2 : Z87 → Z87 → Option (Bool)) (hp2 : ∀ (z0 : Z87) (z1 : Z87) (r : Bool), p2 z0 z1 = some r → Con prog g2 [.agg (lv Y87 z0), .agg (lv Y87 z1)] [.lf (.v .bool r)]) {r} (h : F78 N a0 a1 p2 = some r) : Con prog 78 [Vv (.sl Y87) a0, Vv (.sl Y87) a1, .clo g2 []] [.lf (.v .bool r)] := by
 refine ctr [.lf (.v .bool)] K func78 rfl fun w0 E0 ht => ?_
 unfold F78 at h
 show VW _ _ _ _ _ (retQ _ _ _ _) _
 refine nR K (tn 1) <| sq <| nR K (tn 5) ?_
 refine cnd h ?_ ?_<;>intro h
 ·refine nR K (tn 1) ?_
  cases h; exact VW.ret (rt [])
 refine VW.skip ?_
 refine VW.join (fun s => s = ⟨[], []⟩ ∧ F78_j0 N = some r) ?_ ?_
 ·refine nR K (tn 3) <| VW.block <| lop (fun k s => ∃ x31 x32, s = ⟨[(1, Vv (.sl Y87) a1), (2, .clo g2 []), (15, Vv (.sl Y87) a0), (16, I x31), (17, I x32)], []⟩ ∧ F78_l0 N a0 a1 p2 k x31 x32 = some r) N [.ren [1, 2, 15, 16, 17] []] ⟨(a0.length : Int), (0 : Int), rfl, h⟩ ?_
  rintro k39 s ⟨x31, x32, rfl, h⟩
  cases k39 with
  | zero => cases show none = some r from h
  | succ k39 =>
   replace h : F78_l0_b N a0 a1 p2 (F78_l0 N a0 a1 p2 k39) x31 x32 = some r := h
   unfold F78_l0_b at h
   refine nR K (tn 1) <| sq ?_
   refine cnd h ?_ ?_<;>intro h
   ·refine VW.skip <| sq <| VW.block ?_
    obtain⟨g43,h⟩:=gS h
    refine nR K (pu 1 (an g43 (tn 4))) ?_
    obtain⟨g44,h⟩:=gS h
    refine nR K (pu 2 (an g44 (tn 3))) <| sq <| VW.region <| nG K 3 (tn 3) ?_
    obtain⟨y45,hy,h⟩:=aS h
    refine clc false [.t Y87, .t Y87] [] (some 29) K (hp2 _ _ _ hy) <| nN K (tn 1) ?_
    refine cnd h ?_ ?_<;>intro h
    ·refine nR K (tn 1) ?_
     cases h; exact VW.ret (rt [])
    refine VW.skip <| nE K (tn 2) ?_
    exact aro [.ren [1, 2, 15, 16, 17] []] ⟨x31, (wr (x32 + (1 : Int))), rfl, h⟩
   refine VW.exit ?_
   exact arv [.ren [] []] ⟨rfl, h⟩
 rintro s ⟨rfl, h⟩
 unfold F78_j0 at h
 refine nR K (tn 1) ?_
 cases h; exact VW.ret (rt [])
def F52 (N : Nat) (a0 : (List Z87)) (a1 : (List Z87)) : Option (Bool) :=
  andO (F78 N a0 a1 (fun z0 z1 => F79 N z0 z1)) fun y1 => some y1
theorem ok52 N a0 a1 {r} (h : F52 N a0 a1 = some r) : Con prog 52 [Vv (.sl Y87) a0, Vv (.sl Y87) a1] [.lf (.v .bool r)] := by
 refine ctr [.lf (.v .bool)] K func52 rfl fun w0 E0 ht => ?_
 unfold F52 at h
 show VW _ _ _ _ _ (retQ _ _ _ _) _
 refine nR K (tn 1) <| sq <| VW.region <| nG K 2 (tn 2) ?_
 obtain⟨y1,hy,h⟩:=aS h
 refine clc false [.t (.sl Y87), .t (.sl Y87), .clo []] [] (some 7) K (ok78 N _ _ 79  (fun z0 z1 => F79 N z0 z1 ) (fun z0 z1 _ hz => ok79 N z0 z1 hz) hy) <| nN K (tn 1) ?_
 cases h; exact VW.ret (rt [])
def F18_j0 (N : Nat) : Option (Bool) :=
  some true
def F18_j1 (N : Nat) (nx593 : Int → Int → Option (Bool)) (x486 : Int) (x487 : Int) : Option (Bool) :=
  nx593 x486 (IntKind.i64.wrap (x487 + (1 : Int)))
def F18_l0_b (N : Nat) (nx593 : Int → Int → Option (Bool)) (x486 : Int) (x487 : Int) (nx694 : Int → (List Z87) → (List Z87) → Int → Int → (List Z42) → Int → Int → Option (Bool)) (x682 : Int) (x683 : (List Z87)) (x684 : (List Z87)) (x685 : Int) (x686 : Int) (x687 : (List Z42)) (x688 : Int) (x689 : Int) : Option (Bool) :=
  cond (decide (x689 < x688)) (gd (InR x689 x687.length) (andO (F52 N x683 ((x687.getD x689.toNat (Ty.dflt Y42)).2.1)) fun y698 => cond y698 (some false) (nx694 x682 x683 x684 x685 x686 x687 x688 (IntKind.i64.wrap (x689 + (1 : Int)))))) (F18_j1 N nx593 x486 x487)
def F18_l0 (N : Nat) (nx593 : Int → Int → Option (Bool)) (x486 : Int) (x487 : Int) := loopF (F18_l0_b N nx593 x486 x487) (fun _ _ _ _ _ _ _ _ => none)
theorem F18_l0_s N nx593 x486 x487 {k} (hk : 0 < k) x682 x683 x684 x685 x686 x687 x688 x689 : F18_l0 N nx593 x486 x487 k x682 x683 x684 x685 x686 x687 x688 x689 = F18_l0_b N nx593 x486 x487 (F18_l0 N nx593 x486 x487 (k - 1)) x682 x683 x684 x685 x686 x687 x688 x689 := by cases k;cases hk;rfl
def F18_l1_b (N : Nat) (x52 : (List Z53)) (x53 : (List Z42)) (x54 : Int) (x55 : Int) (nx593 : Int → Int → Option (Bool)) (x486 : Int) (x487 : Int) : Option (Bool) :=
  cond (decide (x487 < x486)) (gd (InR x487 x53.length) (andO (F48 N x52 ((x53.getD x487.toNat (Ty.dflt Y42)).2.1)) fun y657 => cond (!y657) (some false) (andO (F48 N x52 ((x53.getD x487.toNat (Ty.dflt Y42)).2.2.1)) fun y659 => cond (!y659) (some false) (andO (F49 N ((x53.getD x487.toNat (Ty.dflt Y42)).2.1)) fun y661 => cond (((x53.getD x487.toNat (Ty.dflt Y42)).1) != y661) (some false) (andO (F47 N ((x53.getD x487.toNat (Ty.dflt Y42)).2.2.2.1) (0 : Int) x54) fun y663 => cond (!y663) (some false) (andO (F47 N ((x53.getD x487.toNat (Ty.dflt Y42)).2.2.2.2) (0 : Int) x55) fun y665 => cond (!y665) (some false) (andO (F51 N ((x53.getD x487.toNat (Ty.dflt Y42)).2.1)) fun y668 => andO (F50 N ((x53.getD x487.toNat (Ty.dflt Y42)).2.2.1) (y668.length : Int)) fun y669 => cond (!y669) (some false) (gd (0 ≤ x487 ∧ x487 ≤ (x53.length : Int)) (F18_l0 N nx593 x486 x487 N ((x53.getD x487.toNat (Ty.dflt Y42)).1) ((x53.getD x487.toNat (Ty.dflt Y42)).2.1) ((x53.getD x487.toNat (Ty.dflt Y42)).2.2.1) ((x53.getD x487.toNat (Ty.dflt Y42)).2.2.2.1) ((x53.getD x487.toNat (Ty.dflt Y42)).2.2.2.2) (x53.take x487.toNat) ((x53.take x487.toNat).length : Int) (0 : Int)))))))))) (F18_j0 N)
def F18_l1 (N : Nat) (x52 : (List Z53)) (x53 : (List Z42)) (x54 : Int) (x55 : Int) := loopF (F18_l1_b N x52 x53 x54 x55) (fun _ _ => none)
theorem F18_l1_s N x52 x53 x54 x55 {k} (hk : 0 < k) x486 x487 : F18_l1 N x52 x53 x54 x55 k x486 x487 = F18_l1_b N x52 x53 x54 x55 (F18_l1 N x52 x53 x54 x55 (k - 1)) x486 x487 := by cases k;cases hk;rfl
def F18_j2 (N : Nat) (x51 : Int) (x52 : (List Z53)) (x53 : (List Z42)) (x54 : Int) (x55 : Int) (x56 : Int) (x57 : Int) (x58 : Int) (x59 : Int) : Option (Bool) :=
  F18_l1 N x52 x53 x54 x55 N (x53.length : Int) (0 : Int)
def F18_l2_b (N : Nat) (nx735 : Int → (List Z53) → (List Z42) → Int → Int → Int → Int → Int → Int → (List Int) → Int → Int → Option (Bool)) (x717 : Int) (x718 : (List Z53)) (x719 : (List Z42)) (x720 : Int) (x721 : Int) (x722 : Int) (x723 : Int) (x724 : Int) (x725 : Int) (x726 : (List Int)) (x727 : Int) (x728 : Int) : Option (Bool) :=
  cond (decide (x728 < x727)) (gd (InR x728 x726.length) (gd (x728.toNat < x726.length) (andO (F47 N (x726.getD x728.toNat (Ty.dflt (.int .i64))) (0 : Int) (1000000 : Int)) fun y741 => cond (!y741) (some false) (nx735 x717 x718 x719 x720 x721 x722 x723 x724 x725 x726 x727 (IntKind.i64.wrap (x728 + (1 : Int))))))) (F18_j2 N x717 x718 x719 x720 x721 x722 x723 x724 x725)
def F18_l2 (N : Nat) := loopF (F18_l2_b N) (fun _ _ _ _ _ _ _ _ _ _ _ _ => none)
theorem F18_l2_s N {k} (hk : 0 < k) x717 x718 x719 x720 x721 x722 x723 x724 x725 x726 x727 x728 : F18_l2 N k x717 x718 x719 x720 x721 x722 x723 x724 x725 x726 x727 x728 = F18_l2_b N (F18_l2 N (k - 1)) x717 x718 x719 x720 x721 x722 x723 x724 x725 x726 x727 x728 := by cases k;cases hk;rfl
def F18 (N : Nat) (a0 : Z24) : Option (Bool) :=
  andO (F44 N a0.1) fun y5 => cond (!y5) (some false) (andO (F45 N a0.2.1) fun y6 => cond (!y6) (some false) (cond (decide ((a0.2.2.1.length : Int) > a0.1)) (some false) (andO (F46 N a0.2.2.2.1) fun y7 => cond (!y7) (some false) (andO (F46 N a0.2.2.2.2.1) fun y8 => cond (!y8) (some false) (F18_l2 N N a0.1 a0.2.1 a0.2.2.1 a0.2.2.2.1 a0.2.2.2.2.1 a0.2.2.2.2.2.1 a0.2.2.2.2.2.2.1 a0.2.2.2.2.2.2.2.1 a0.2.2.2.2.2.2.2.2 ([a0.2.2.2.2.2.1, a0.2.2.2.2.2.2.1, a0.2.2.2.2.2.2.2.1, a0.2.2.2.2.2.2.2.2]) (([a0.2.2.2.2.2.1, a0.2.2.2.2.2.2.1, a0.2.2.2.2.2.2.2.1, a0.2.2.2.2.2.2.2.2]).length : Int) (0 : Int))))))
theorem ok18 N a0 {r} (h : F18 N a0 = some r) : Con prog 18 [.agg (lv Y24 a0)] [.lf (.v .bool r)] := by
 refine ctr [.lf (.v .bool)] K func18 rfl fun w0 E0 ht => ?_
 unfold F18 at h
 show VW _ _ _ _ _ (retQ _ _ _ _) _
 refine nR K (tn 2) <| sq <| sq <| VW.region <| nG K 2 (tn 2) ?_
 obtain⟨y5,hy,h⟩:=aS h
 refine clc false [.t (.int .i64)] [] (some 11) K (ok44 N _ hy) <| nG K 2 (tn 2) ?_
 refine spC 13 h ?_ ?_<;>intro h
 ·refine nN K (tn 25) ?_
  refine VW.cond (b := true) (by kernel_rfl) (fun _ => ?_) (fun h' => nomatch h')
  refine nR K (tn 1) ?_
  cases h; exact VW.ret (rt [])
 refine nG K 2 (tn 2) <| VO.on (j := 4) (want := false) (d := 13) (b := false) rfl rfl rfl (by kernel_rfl) rfl ?_
 obtain⟨y6,hy,h⟩:=aS h
 refine clc false [.t (.sl Y53)] [] (some 16) K (ok45 N _ hy) <| nG K 3 (tn 3) ?_
 refine spC 19 h ?_ ?_<;>intro h
 ·refine nN K (tn 19) ?_
  refine VW.cond (b := true) (by kernel_rfl) (fun _ => ?_) (fun h' => nomatch h')
  refine nR K (tn 1) ?_
  cases h; exact VW.ret (rt [])
 refine nG K 8 (tn 8) ?_
 refine spC 27 h ?_ ?_<;>intro h
 ·refine nN K (tn 11) ?_
  refine VW.cond (b := true) (by kernel_rfl) (fun _ => ?_) (fun h' => nomatch h')
  refine nR K (tn 1) ?_
  cases h; exact VW.ret (rt [])
 refine nG K 2 (tn 2) <| VO.on (j := 18) (want := false) (d := 27) (b := false) rfl rfl rfl (by kernel_rfl) rfl ?_
 obtain⟨y7,hy,h⟩:=aS h
 refine clc false [.t (.int .i64)] [] (some 30) K (ok46 N _ hy) <| nG K 3 (tn 3) ?_
 refine spC 33 h ?_ ?_<;>intro h
 ·refine nN K (tn 5) ?_
  refine VW.cond (b := true) (by kernel_rfl) (fun _ => ?_) (fun h' => nomatch h')
  refine nR K (tn 1) ?_
  cases h; exact VW.ret (rt [])
 refine nG K 2 (tn 2) <| VO.on (j := 24) (want := false) (d := 33) (b := false) rfl rfl rfl (by kernel_rfl) rfl ?_
 obtain⟨y8,hy,h⟩:=aS h
 refine clc false [.t (.int .i64)] [] (some 36) K (ok46 N _ hy) <| nN K (tn 2) ?_
 refine cnd h ?_ ?_<;>intro h
 ·refine nR K (tn 1) ?_
  cases h; exact VW.ret (rt [])
 refine VW.skip ?_
 refine VW.join (fun s => ∃ x51 x52 x53 x54 x55 x56 x57 x58 x59, s = ⟨[(1, .lf (.ptr 0 0 0 0))], [bx [zi x51, .v (.sl Y53) x52, .v (.sl Y42) x53, zi x54, zi x55, zi x56, zi x57, zi x58, zi x59] 30]⟩ ∧ F18_j2 N x51 x52 x53 x54 x55 x56 x57 x58 x59 = some r) ?_ ?_
 ·refine nR K (tn 11) <| VW.block <| lop (fun k s => ∃ x717 x718 x719 x720 x721 x722 x723 x724 x725 x726 x727 x728, s = ⟨[(1, .lf (.ptr 0 0 0 0)), (47, hh 1), (48, I x727), (49, I x728)], [bx [zi x717, .v (.sl Y53) x718, .v (.sl Y42) x719, zi x720, zi x721, zi x722, zi x723, zi x724, zi x725] 30, ar 0 (.int .i64) x726 .dp]⟩ ∧ F18_l2 N k x717 x718 x719 x720 x721 x722 x723 x724 x725 x726 x727 x728 = some r) N [.ren [1, 47, 48, 49] [0, 1]] ⟨a0.1, a0.2.1, a0.2.2.1, a0.2.2.2.1, a0.2.2.2.2.1, a0.2.2.2.2.2.1, a0.2.2.2.2.2.2.1, a0.2.2.2.2.2.2.2.1, a0.2.2.2.2.2.2.2.2, [a0.2.2.2.2.2.1, a0.2.2.2.2.2.2.1, a0.2.2.2.2.2.2.2.1, a0.2.2.2.2.2.2.2.2], (([a0.2.2.2.2.2.1, a0.2.2.2.2.2.2.1, a0.2.2.2.2.2.2.2.1, a0.2.2.2.2.2.2.2.2]).length : Int), (0 : Int), rfl, h⟩ ?_
  rintro k735 s ⟨x717, x718, x719, x720, x721, x722, x723, x724, x725, x726, x727, x728, rfl, h⟩
  cases k735 with
  | zero => cases show none = some r from h
  | succ k735 =>
   replace h : F18_l2_b N (F18_l2 N k735) x717 x718 x719 x720 x721 x722 x723 x724 x725 x726 x727 x728 = some r := h
   unfold F18_l2_b at h
   refine nR K (tn 1) <| sq ?_
   refine cnd h ?_ ?_<;>intro h
   ·refine VW.skip <| sq <| VW.block ?_
    obtain⟨g739,h⟩:=gS h
    obtain⟨g740,h⟩:=gS h
    refine nR K (an g739 (an g740 (tn 1))) <| sq <| VW.region <| nG K 1 (tn 1) ?_
    obtain⟨y741,hy,h⟩:=aS h
    refine clc false [.t (.int .i64), .t (.int .i64), .t (.int .i64)] [] (some 54) K (ok47 N _ _ _ hy) <| nN K (tn 1) ?_
    refine cnd h ?_ ?_<;>intro h
    ·refine nR K (tn 1) ?_
     cases h; exact VW.ret (rt [])
    refine VW.skip <| nE K (tn 2) ?_
    exact aro [.ren [1, 47, 48, 49] [0, 1]] ⟨x717, x718, x719, x720, x721, x722, x723, x724, x725, x726, x727, (wr (x728 + (1 : Int))), rfl, h⟩
   refine VW.exit ?_
   exact arv [.ren [1] [0]] ⟨x717, x718, x719, x720, x721, x722, x723, x724, x725, rfl, h⟩
 rintro s ⟨x51, x52, x53, x54, x55, x56, x57, x58, x59, rfl, h⟩
 unfold F18_j2 at h
 refine VW.join (fun s => s = ⟨[], []⟩ ∧ F18_j0 N = some r) ?_ ?_
 ·refine nR K (tn 4) <| VW.block <| lop (fun k s => ∃ x486 x487, s = ⟨[(1, .lf (.ptr 0 0 0 0)), (58, Vv (.sl Y42) x53), (59, I x486), (60, I x487)], [bx [zi x51, .v (.sl Y53) x52, .v (.sl Y42) x53, zi x54, zi x55, zi x56, zi x57, zi x58, zi x59] 30]⟩ ∧ F18_l1 N x52 x53 x54 x55 k x486 x487 = some r) N [.ren [1, 58, 59, 60] [0]] ⟨(x53.length : Int), (0 : Int), rfl, h⟩ ?_
  rintro k593 s ⟨x486, x487, rfl, h⟩
  cases k593 with
  | zero => cases show none = some r from h
  | succ k593 =>
   replace h : F18_l1_b N x52 x53 x54 x55 (F18_l1 N x52 x53 x54 x55 k593) x486 x487 = some r := h
   unfold F18_l1_b at h
   refine nR K (tn 1) <| sq ?_
   refine cnd h ?_ ?_<;>intro h
   ·refine VW.skip ?_
    refine VW.join (fun s => s = ⟨[(1, .lf (.ptr 0 0 0 0)), (58, Vv (.sl Y42) x53), (59, I x486), (60, I x487)], [bx [zi x51, .v (.sl Y53) x52, .v (.sl Y42) x53, zi x54, zi x55, zi x56, zi x57, zi x58, zi x59] 30]⟩ ∧ F18_j1 N (F18_l1 N x52 x53 x54 x55 k593) x486 x487 = some r) ?_ ?_
    ·refine VW.block ?_
     obtain⟨g647,h⟩:=gS h
     refine nR K (pu 1 (an g647 (tn 4))) <| sq <| sq ?_
     obtain⟨y657,hy657,h⟩:=aS h
     rcases Bool.eq_false_or_eq_true (!y657) with hb658 | hb658
     ·replace h := cond_t h hb658
      refine dr K [(4, .cl [] (some 69) [.lf (.v .bool y657)]), (6, .lit true)] [(4, 0), (6, 0)] [] [1, 5, 6, 58, 59, 60, 102] [0, 1] (tn 38) ⟨qC false [.t (.sl Y53), .t (.sl Y87)] [] [] (some 69) K (ok48 N _ _ hy657), qB 71 hb658 K trivial, trivial⟩ ?_
      refine VW.cond (b := true) (by kernel_rfl) (fun _ => ?_) (fun h' => nomatch h')
      refine nR K (tn 1) ?_
      cases h; exact VW.ret (rt [])
     replace h := cond_f h hb658
     obtain⟨y659,hy659,h⟩:=aS h
     rcases Bool.eq_false_or_eq_true (!y659) with hb660 | hb660
     ·replace h := cond_t h hb660
      refine dr K [(4, .cl [] (some 69) [.lf (.v .bool y657)]), (6, .lit false), (11, .cl [] (some 76) [.lf (.v .bool y659)]), (14, .lit true)] [(4, 0), (6, 0), (11, 0), (14, 0)] [] [1, 5, 6, 58, 59, 60, 102] [0, 1] (tn 38) ⟨qC false [.t (.sl Y53), .t (.sl Y87)] [] [] (some 69) K (ok48 N _ _ hy657), qB 71 hb658 K trivial, qC false [.t (.sl Y53), .t (.sl Y87)] [] [] (some 76) K (ok48 N _ _ hy659), qB 79 hb660 K trivial, trivial⟩ ?_
      refine VW.cond (b := true) (by kernel_rfl) (fun _ => ?_) (fun h' => nomatch h')
      refine nR K (tn 1) ?_
      cases h; exact VW.ret (rt [])
     replace h := cond_f h hb660
     obtain⟨y661,hy661,h⟩:=aS h
     rcases Bool.eq_false_or_eq_true (((x53.getD x487.toNat D42).1) != y661) with hb662 | hb662
     ·replace h := cond_t h hb662
      refine dr K [(4, .cl [] (some 69) [.lf (.v .bool y657)]), (6, .lit false), (11, .cl [] (some 76) [.lf (.v .bool y659)]), (14, .lit false), (19, .cl [] (some 84) [.lf (.v (.int .i64) y661)]), (22, .lit true)] [(4, 0), (6, 0), (11, 0), (14, 0), (19, 0), (22, 0)] [] [1, 5, 6, 58, 59, 60, 102] [0, 1] (tn 38) ⟨qC false [.t (.sl Y53), .t (.sl Y87)] [] [] (some 69) K (ok48 N _ _ hy657), qB 71 hb658 K trivial, qC false [.t (.sl Y53), .t (.sl Y87)] [] [] (some 76) K (ok48 N _ _ hy659), qB 79 hb660 K trivial, qC false [.t (.sl Y87)] [] [] (some 84) K (ok49 N _ hy661), qB 87 hb662 K trivial, trivial⟩ ?_
      refine VW.cond (b := true) (by kernel_rfl) (fun _ => ?_) (fun h' => nomatch h')
      refine nR K (tn 1) ?_
      cases h; exact VW.ret (rt [])
     replace h := cond_f h hb662
     obtain⟨y663,hy663,h⟩:=aS h
     rcases Bool.eq_false_or_eq_true (!y663) with hb664 | hb664
     ·replace h := cond_t h hb664
      refine dr K [(4, .cl [] (some 69) [.lf (.v .bool y657)]), (6, .lit false), (11, .cl [] (some 76) [.lf (.v .bool y659)]), (14, .lit false), (19, .cl [] (some 84) [.lf (.v (.int .i64) y661)]), (22, .lit false), (27, .cl [] (some 92) [.lf (.v .bool y663)]), (30, .lit true)] [(4, 0), (6, 0), (11, 0), (14, 0), (19, 0), (22, 0), (27, 0), (30, 0)] [] [1, 5, 6, 58, 59, 60, 102] [0, 1] (tn 38) ⟨qC false [.t (.sl Y53), .t (.sl Y87)] [] [] (some 69) K (ok48 N _ _ hy657), qB 71 hb658 K trivial, qC false [.t (.sl Y53), .t (.sl Y87)] [] [] (some 76) K (ok48 N _ _ hy659), qB 79 hb660 K trivial, qC false [.t (.sl Y87)] [] [] (some 84) K (ok49 N _ hy661), qB 87 hb662 K trivial, qC false [.t (.int .i64), .t (.int .i64), .t (.int .i64)] [] [] (some 92) K (ok47 N _ _ _ hy663), qB 95 hb664 K trivial, trivial⟩ ?_
      refine VW.cond (b := true) (by kernel_rfl) (fun _ => ?_) (fun h' => nomatch h')
      refine nR K (tn 1) ?_
      cases h; exact VW.ret (rt [])
     replace h := cond_f h hb664
     obtain⟨y665,hy665,h⟩:=aS h
     refine dr K [(4, .cl [] (some 69) [.lf (.v .bool y657)]), (6, .lit false), (11, .cl [] (some 76) [.lf (.v .bool y659)]), (14, .lit false), (19, .cl [] (some 84) [.lf (.v (.int .i64) y661)]), (22, .lit false), (27, .cl [] (some 92) [.lf (.v .bool y663)]), (30, .lit false), (35, .cl [] (some 100) [.lf (.v .bool y665)])] [(4, 0), (6, 0), (11, 0), (14, 0), (19, 0), (22, 0), (27, 0), (30, 0), (35, 0)] [] [1, 5, 6, 58, 59, 60, 102] [0, 1] (tn 38) ⟨qC false [.t (.sl Y53), .t (.sl Y87)] [] [] (some 69) K (ok48 N _ _ hy657), qB 71 hb658 K trivial, qC false [.t (.sl Y53), .t (.sl Y87)] [] [] (some 76) K (ok48 N _ _ hy659), qB 79 hb660 K trivial, qC false [.t (.sl Y87)] [] [] (some 84) K (ok49 N _ hy661), qB 87 hb662 K trivial, qC false [.t (.int .i64), .t (.int .i64), .t (.int .i64)] [] [] (some 92) K (ok47 N _ _ _ hy663), qB 95 hb664 K trivial, qC false [.t (.int .i64), .t (.int .i64), .t (.int .i64)] [] [] (some 100) K (ok47 N _ _ _ hy665), trivial⟩ ?_
     refine cnd h ?_ ?_<;>intro h
     ·refine nR K (tn 1) ?_
      cases h; exact VW.ret (rt [])
     refine VW.skip <| sq <| sq ?_
     obtain⟨y668,hy668,h⟩:=aS h
     obtain⟨y669,hy669,h⟩:=aS h
     refine dr K [(4, .cl [] (some 107) [.lf (.own (.int .i64) y668 .dp)]), (6, .cl [] (some 109) [.lf (.v .bool y669)])] [(4, 0), (6, 1)] [4] [1, 5, 6, 58, 59, 60, 110] [0, 1] (tn 8) ⟨qC false [.t (.sl Y87)] [] [] (some 107) K (ok51 N _ hy668), qC false [.t (.sl Y87), .t (.int .i64)] [] [] (some 109) K (ok50 N _ _ hy669), trivial⟩ ?_
     refine cnd h ?_ ?_<;>intro h
     ·refine nR K (tn 1) ?_
      cases h; exact VW.ret (rt [])
     refine VW.skip ?_
     obtain⟨g670,h⟩:=gS h
     refine nR K (pu 3 (an g670 (tn 2))) <| VW.block <| lop (fun k s => ∃ x682 x683 x684 x685 x686 x687 x688 x689, s = ⟨[(1, .lf (.ptr 0 0 0 0)), (6, .lf (.ptr 1 0 0 0)), (58, Vv (.sl Y42) x53), (59, I x486), (60, I x487), (114, Vv (.sl Y42) x687), (115, I x688), (116, I x689)], [bx [zi x51, .v (.sl Y53) x52, .v (.sl Y42) x53, zi x54, zi x55, zi x56, zi x57, zi x58, zi x59] 30, bx [zi x682, .v (.sl Y87) x683, .v (.sl Y87) x684, zi x685, zi x686] 43]⟩ ∧ F18_l0 N (F18_l1 N x52 x53 x54 x55 k593) x486 x487 k x682 x683 x684 x685 x686 x687 x688 x689 = some r) N [.ren [1, 6, 58, 59, 60, 114, 115, 116] [0, 1]] ⟨(x53.getD x487.toNat D42).1, (x53.getD x487.toNat D42).2.1, (x53.getD x487.toNat D42).2.2.1, (x53.getD x487.toNat D42).2.2.2.1, (x53.getD x487.toNat D42).2.2.2.2, (x53.take x487.toNat), ((x53.take x487.toNat).length : Int), (0 : Int), rfl, h⟩ ?_
     rintro k694 s ⟨x682, x683, x684, x685, x686, x687, x688, x689, rfl, h⟩
     cases k694 with
     | zero => cases show none = some r from h
     | succ k694 =>
      replace h : F18_l0_b N (F18_l1 N x52 x53 x54 x55 k593) x486 x487 (F18_l0 N (F18_l1 N x52 x53 x54 x55 k593) x486 x487 k694) x682 x683 x684 x685 x686 x687 x688 x689 = some r := h
      unfold F18_l0_b at h
      refine nR K (tn 1) <| sq ?_
      refine cnd h ?_ ?_<;>intro h
      ·refine VW.skip <| sq <| VW.block ?_
       obtain⟨g697,h⟩:=gS h
       refine nR K (an g697 (tn 3)) <| sq <| VW.region <| nG K 4 (tn 4) ?_
       obtain⟨y698,hy,h⟩:=aS h
       refine clc false [.t (.sl Y87), .t (.sl Y87)] [] (some 124) K (ok52 N _ _ hy) <| nN K (tn 0) ?_
       refine cnd h ?_ ?_<;>intro h
       ·refine nR K (tn 1) ?_
        cases h; exact VW.ret (rt [])
       refine VW.skip <| nE K (tn 2) ?_
       exact aro [.ren [1, 6, 58, 59, 60, 114, 115, 116] [0, 1]] ⟨x682, x683, x684, x685, x686, x687, x688, (wr (x689 + (1 : Int))), rfl, h⟩
      refine VW.exit ?_
      exact arv [.ren [1, 58, 59, 60] [0]] ⟨rfl, h⟩
    rintro s ⟨rfl, h⟩
    unfold F18_j1 at h
    refine nE K (tn 2) ?_
    exact aro [.ren [1, 58, 59, 60] [0]] ⟨x486, (wr (x487 + (1 : Int))), rfl, h⟩
   refine VW.exit ?_
   exact arv [.ren [] []] ⟨rfl, h⟩
 rintro s ⟨rfl, h⟩
 unfold F18_j0 at h
 refine nR K (tn 1) ?_
 cases h; exact VW.ret (rt [])
theorem stale_w (c0 c1 c2 c5 c6 c7 c8 a0 a1 a2 : Value) (cat st ec es : Int) (w : World) :
    Calls prog 20 #[.agg #[c0, c1, c2, .int .i64 cat, .int .i64 st, c5, c6, c7, c8], .agg #[a0, a1, a2, .int .i64 ec, .int .i64 es]] w fun e w' => e = .returned (.bool (decide (ec ≠ cat) || decide (es ≠ st))) ∧ Below w.heap.size w w' := by
  by_cases h1 : ec = cat <;> by_cases h2 : es = st
  all_goals go_enter func20, Go.Proofs.Tryz.ntmps20
  all_goals go_wp2_with fail
  all_goals go_ret
  all_goals refine ⟨by simp [h1, h2], ((Below.refl _ _).alloc (Nat.le_refl _) _).alloc (by simp) _⟩
theorem idx_w (c0 c1 c2 c5 c6 c7 c8 : Value) (cat st : Int) (b c : Nat) (L : List R5) (hL : L.length ≤ 2000000) (w : World) (hb : b < w.heap.size) (hrow : ∀ (j : Nat) (x : R5), L[j]? = some x → At5 w b (j * 5) x) :
    Calls prog 53 #[.slice (some ⟨b, 0, none⟩) L.length c, .func (.func 20) #[.agg #[c0, c1, c2, .int .i64 cat, .int .i64 st, c5, c6, c7, c8]] #[]] w fun e w' => e = .returned (.int .i64 (idx5 cat st L 0)) ∧ Below w.heap.size w w' := by
  obtain ⟨G, hG⟩ : ∃ G, Hid (idx5 cat st L 0 = G) := ⟨_, rfl⟩
  rw [hG.out]
  have HR : Aside (∀ (j : Nat) (x : R5), L[j]? = some x → At5 w b (j * 5) x) := hrow
  clear hrow
  go_enter func53, Go.Proofs.Tryz.ntmps53
  go_wp2_with fail
  go_loopg [8] L.length (fun gf s8 wx => ∃ i : Nat, i + gf = L.length ∧ s8 = .int .i64 i ∧ Below w.heap.size w wx ∧ idx5 cat st (L.drop i) i = G)
  case atStart => exact ⟨0, by omega, rfl, Below.refl _ _, by rw [List.drop_zero]; exact hG.out⟩
  case round =>
    obtain ⟨i, hig, rfl, hB, hidx⟩ := hrel
    cases gk with
    | zero =>
      have hin : ¬ ((i : Int) < (L.length : Int)) := by omega
      go_wp2
      go_ret
      rw [List.drop_eq_nil_of_le (by omega)] at hidx
      exact ⟨by rw [← hidx]; rfl, hB⟩
    | succ gf =>
      have hin : (i : Int) < (L.length : Int) := by omega
      obtain ⟨x, hx⟩ : ∃ x, L[i]? = some x := ⟨_, List.getElem?_eq_getElem (by omega)⟩
      obtain ⟨r0, r1, r2, r3, r4⟩ := (HR.out i x hx).keep (hB.block b hb)
      have cS := stale_w c0 c1 c2 c5 c6 c7 c8 (.int .i64 x.pr) (.slice x.ta x.tn x.tc) (.slice x.pa x.pn x.pc) cat st x.ec x.es wr
      have hd : L.drop i = x :: L.drop (i + 1) := by
        obtain ⟨hl, rfl⟩ := List.getElem?_eq_some_iff.1 hx
        exact List.drop_eq_getElem_cons hl
      rw [hd] at hidx
      cases ho : x.out cat st with
      | true =>
        have ho' := ho
        unfold R5.out at ho'
        rw [ho'] at cS
        rw [idx5, if_pos ho] at hidx
        have HI : Aside ((i : Int) = G) := hidx
        clear hd ho ho' hx hidx
        go_wp2_with (go_at_call 20; refine cS.mono ?_; rintro e w' ⟨rfl, hb'⟩)
        go_ret
        exact ⟨by rw [← HI.out]; rfl, hB.trans (hb'.mono hB.size)⟩
      | false =>
        have ho' := ho
        unfold R5.out at ho'
        rw [ho'] at cS
        rw [idx5, if_neg (by rw [ho]; simp)] at hidx
        clear hd ho ho' hx
        go_wp2_with (go_at_call 20; refine cS.mono ?_; rintro e w' ⟨rfl, hb'⟩)
        go_roundg gf
        case measure => omega
        case rel => exact ⟨i + 1, by omega, by go_num, hB.trans (hb'.mono hB.size), hidx⟩
theorem del_w (c0 c1 c2 c5 c6 c7 c8 : Value) (cat st : Int) (b c : Nat) (ty : TypeId) (L : List R5) (hL : L.length ≤ 2000000) (hc : L.length ≤ c) (w : World) (hb : b < w.heap.size) (hrow : ∀ (j : Nat) (x : R5), L[j]? = some x → At5 w b (j * 5) x)
    (hown : ∃ cur : Array Value, w.heap[b]? = some (.cells cur ty (0, 0)) ∧ cur.size = c * 5) (i0 : Nat) (hi0 : i0 < L.length) (hidx : idx5 cat st L 0 = (i0 : Int)) (hm : Mid (fun x => !x.out cat st) L L i0 (i0 + 1)) :
    Calls prog 19 #[.slice (some ⟨b, 0, none⟩) L.length c, .func (.func 20) #[.agg #[c0, c1, c2, .int .i64 cat, .int .i64 st, c5, c6, c7, c8]] #[]] w fun e w' => e = .returned (.slice (some ⟨b, 0, none⟩) (L.filter fun x => !x.out cat st).length c) ∧ Fr w b ty (c * 5) w' ∧ ∀ (j : Nat) (x : R5), (L.filter fun x => !x.out cat st)[j]? = some x → At5 w' b (j * 5) x := by
  have hI := idx_w c0 c1 c2 c5 c6 c7 c8 cat st b c L hL w hb hrow
  rw [hidx] at hI
  obtain ⟨n, hn⟩ : ∃ n, L.length = n := ⟨_, rfl⟩
  rw [hn] at hI hL hc hi0 ⊢
  have F0 : Aside (Fr w b ty (c * 5) w) := (⟨rfl, rfl, rfl, Nat.le_refl _, fun _ _ _ => rfl, hown⟩ : Fr w b ty (c * 5) w)
  have HR : Aside (∀ (j : Nat) (x : R5), L[j]? = some x → At5 w b (j * 5) x) := hrow
  have HM : Aside (Mid (fun x => !x.out cat st) L L i0 (i0 + 1)) := hm
  have HN : Aside (L.length = n) := hn
  clear hrow hown hm hidx hn
  go_enter func19, Go.Proofs.Tryz.ntmps19
  go_wp2_with (go_at_call 53; refine hI.mono ?_; rintro e w' ⟨rfl, hb'⟩)
  go_loopg [5, 6, 7] n (fun gf s5 s6 s7 wx => ∃ (i j : Nat) (Cur : List R5), s5 = .int .i64 i ∧ s6 = .int .i64 j ∧ j ≤ n ∧ n - j ≤ gf ∧ i < n ∧ Aside (Mid (fun x => !x.out cat st) L Cur i j ∧ Fr w b ty (c * 5) wx ∧ ∀ (t : Nat) (x : R5), Cur[t]? = some x → At5 wx b (t * 5) x))
  case atStart =>
    exact ⟨i0, i0 + 1, L, rfl, by go_num, by omega, by omega, hi0, HM.out, F0.out.below hb hb', fun t x hx => (HR.out t x hx).keep (hb'.block b hb)⟩
  case round =>
    obtain ⟨i, j, Cur, rfl, rfl, hjn', hgf, hin, HA⟩ := hrel
    by_cases hlt : j < n
    rotate_left
    · obtain rfl : j = n := by omega
      have hjn : ¬ (j : Int) < (j : Int) := by omega
      obtain ⟨cur, hcur, hcs⟩ := HA.out.2.1.own
      have hst := run_storeCells_at prog b (i * 5) ty (Builtin.zeroCells #[.int .i64 0, .slice none 0 0, .slice none 0 0, .int .i64 0, .int .i64 0] (j - i)).toList 0 cur wr hcur (by rw [Array.length_toList, size_zeroCells]; simp; omega) (zeroCells_one (by simp [Value.oneCell']) (by simp) _)
      simp only [Nat.add_zero] at hst
      obtain ⟨arr, harr⟩ : ∃ arr, (cur.toList.take (i * 5) ++ (Builtin.zeroCells #[.int .i64 0, .slice none 0 0, .slice none 0 0, .int .i64 0, .int .i64 0] (j - i)).toList ++ cur.toList.drop (i * 5 + (Builtin.zeroCells #[.int .i64 0, .slice none 0 0, .slice none 0 0, .int .i64 0, .int .i64 0] (j - i)).toList.length)).toArray = arr := ⟨_, rfl⟩
      rw [harr] at hst
      have HC : Aside (arr.size = c * 5 ∧ ∀ k, k < i * 5 → arr[k]? = cur[k]?) := by
        have hz : (Builtin.zeroCells #[.int .i64 0, .slice none 0 0, .slice none 0 0, .int .i64 0, .int .i64 0] (j - i)).toList.length = (j - i) * 5 := by
          rw [Array.length_toList, size_zeroCells]; rfl
        rw [← harr]
        refine ⟨?_, fun k hk => ?_⟩
        · simp only [List.size_toArray, List.length_append, List.length_take, List.length_drop, hz, Array.length_toList, hcs]
          omega
        · rw [List.getElem?_toArray, List.append_assoc, List.getElem?_append_left (by rw [List.length_take, Array.length_toList, hcs]; omega), List.getElem?_take_of_lt hk, Array.getElem?_toList]
      have HCur : Aside (wr.heap[b]? = some (.cells cur ty (0, 0))) := hcur
      have hcl : (Builtin.clear_ #[28] 0 #[.slice (some ⟨b, i * 5, none⟩) (j - i) (c - i)]).run prog wr = .ok (.tuple #[]) (wr.setRow b arr) := by
        unfold Builtin.clear_
        obtain ⟨l, hl⟩ : ∃ l, j - i = l + 1 := ⟨j - i - 1, by omega⟩
        rw [hl] at hst ⊢
        simp [run_underlying Go.Proofs.Tryz.underlying28, Go.Proofs.Tryz.zeroValue43]
        rw [show (Value.agg #[.int .i64 0, .slice none 0 0, .slice none 0 0, .int .i64 0, .int .i64 0]).cells = #[.int .i64 0, .slice none 0 0, .slice none 0 0, .int .i64 0, .int .i64 0] from rfl, hst]
        rfl
      clear hst hcur harr
      go_wp2
      go_ret
      have hM := HA.out.1
      have hk : (L.filter fun x => !x.out cat st) = Cur.take i := by rw [hM.kept, List.take_of_length_le (Nat.le_of_eq HN.out)]
      have hCl := hM.len.trans HN.out
      rw [hk]
      refine ⟨by rw [List.length_take, Nat.min_eq_left (by omega)]; rfl, Fr.row HA.out.2.1 HCur.out HC.out.1, fun t y hy => ?_⟩
      have ht : t < i := by
        have := (List.getElem?_eq_some_iff.1 hy).1
        rw [List.length_take] at this
        omega
      rw [List.getElem?_take_of_lt ht] at hy
      have h5 := HA.out.2.2 t y hy
      have hnew := setRow_heap wr b cur arr ty (0, 0) HCur.out
      have e : ∀ k, k < i * 5 → (wr.setRow b arr).cell? ⟨b, k, none⟩ = wr.cell? ⟨b, k, none⟩ := fun k hk => by
        simp only [World.cell?, hnew, HCur.out, Option.isSome_none, Bool.false_eq_true, if_false]
        exact HC.out.2 k hk
      unfold At5 at h5 ⊢
      rw [e _ (by omega), e _ (by omega), e _ (by omega), e _ (by omega), e _ (by omega)]
      exact h5
    · have hjn : (j : Int) < (n : Int) := by omega
      obtain ⟨x, hx⟩ : ∃ x, L[j]? = some x := ⟨_, List.getElem?_eq_getElem (by rw [HN.out]; omega)⟩
      have hCx : Cur[j]? = some x := by
        have h1 := congrArg (·[0]?) HA.out.1.rest
        simpa [hx] using h1
      obtain ⟨r0, r1, r2, r3, r4⟩ := HA.out.2.2 j x hCx
      have hbl := HA.out.2.1.lt
      have cS := fun W => stale_w c0 c1 c2 c5 c6 c7 c8 (.int .i64 x.pr) (.slice x.ta x.tn x.tc) (.slice x.pa x.pn x.pc) cat st x.ec x.es W
      cases ho : x.out cat st with
      | true =>
        have ho' := ho
        unfold R5.out at ho'
        rw [ho'] at cS
        have HX : Aside (L[j]? = some x ∧ x.out cat st = true) := ⟨hx, ho⟩
        clear ho ho' hx hCx
        go_wp2_with (go_at_call 20; refine (cS _).mono ?_; rintro e w' ⟨rfl, hb'⟩)
        obtain ⟨hB2, _⟩ := box5 hb'
        go_roundg (n - (j + 1))
        case measure => omega
        case rel => exact ⟨i, j + 1, Cur, rfl, by go_num, by omega, Nat.le_refl _, hin, HA.out.1.skip HX.out.1 (by rw [HX.out.2]; rfl), HA.out.2.1.below hb hB2, fun t y hy => (HA.out.2.2 t y hy).keep (hB2.block b hbl)⟩
      | false =>
        have ho' := ho
        unfold R5.out at ho'
        rw [ho'] at cS
        have HX : Aside (L[j]? = some x ∧ x.out cat st = false) := ⟨hx, ho⟩
        clear ho ho' hx hCx
        go_wp2_with (go_at_call 20; refine (cS _).mono ?_; rintro e w' ⟨rfl, hb'⟩; obtain ⟨hB2, b0, b1, b2, b3, b4⟩ := box5 hb'; have hF2 := HA.out.2.1.below hb hB2; obtain ⟨f0, v0, g0⟩ := hF2.froz (k := i * 5) (by omega); obtain ⟨f1, v1, g1⟩ := hF2.froz (k := i * 5 + 1) (by omega); obtain ⟨f2, v2, g2⟩ := hF2.froz (k := i * 5 + 2) (by omega); obtain ⟨f3, v3, g3⟩ := hF2.froz (k := i * 5 + 3) (by omega); obtain ⟨f4, v4, g4⟩ := hF2.froz (k := i * 5 + 4) (by omega); clear hF2)
        go_roundg (n - (j + 1))
        case measure => omega
        case rel =>
          have hij := HA.out.1.ij
          have hlen := HA.out.1.len
          have hF2 := HA.out.2.1.below hb hB2
          refine ⟨i + 1, j + 1, Cur.set i x, by go_num, by go_num, by omega, Nat.le_refl _, by omega, HA.out.1.move HX.out.1 (by rw [HX.out.2]; rfl), put5_fr hF2 (i * 5) x, fun t y hy => ?_⟩
          by_cases ht : t = i
          · subst ht
            rw [List.getElem?_set_self (by rw [hlen, HN.out]; omega)] at hy
            cases hy
            exact put5_in hF2 (by omega)
          · rw [List.getElem?_set_ne (fun e => ht e.symm)] at hy
            exact put5_at ((HA.out.2.2 t y hy).keep (hB2.block b hbl)) (by omega)
theorem idx5_spec (cat st : Int) : ∀ (L : List R5) (i : Nat), (idx5 cat st L i = -1 ∧ ∀ x ∈ L, x.out cat st = false) ∨ ∃ k x, L[k]? = some x ∧ idx5 cat st L i = ((i + k : Nat) : Int) ∧ x.out cat st = true ∧ ∀ y ∈ L.take k, y.out cat st = false
  | [], i => .inl ⟨rfl, fun x hx => by cases hx⟩
  | x :: l, i => by
    cases h : x.out cat st with
    | true => exact .inr ⟨0, x, rfl, by simp [idx5, h], h, fun y hy => by simp at hy⟩
    | false =>
      rcases idx5_spec cat st l (i + 1) with ⟨e, ha⟩ | ⟨k, y, hk, e, ht, ha⟩
      · exact .inl ⟨by simp [idx5, h, e], fun y hy => (List.mem_cons.1 hy).elim (fun e => e ▸ h) (ha y)⟩
      · refine .inr ⟨k + 1, y, by simpa using hk, by simp only [idx5, h, Bool.false_eq_true, if_false, e]; congr 1; omega, ht, fun z hz => ?_⟩
        rw [List.take_succ_cons] at hz
        rcases List.mem_cons.1 hz with rfl | hz
        · exact h
        · exact ha z hz
theorem idx_nil (fv : Value) (p : Option Addr) (c : Nat) (w : World) : Calls prog 53 #[.slice p 0 c, fv] w fun e w' => e = .returned (.int .i64 (-1)) ∧ Below w.heap.size w w' := by
  go_enter func53, Go.Proofs.Tryz.ntmps53
  go_wp2_with fail
  go_loopg [8] 0 (fun gf s8 wx => s8 = .int .i64 0 ∧ wx = w)
  case atStart => exact ⟨rfl, rfl⟩
  case round =>
    obtain ⟨rfl, rfl⟩ := hrel
    go_wp2
    go_ret
    exact ⟨rfl, Below.refl _ _⟩
theorem del_nil (fv : Value) (p : Option Addr) (c : Nat) (w : World) : Calls prog 19 #[.slice p 0 c, fv] w fun e w' => e = .returned (.slice p 0 c) ∧ Below w.heap.size w w' := by
  have hI := idx_nil fv p c w
  go_enter func19, Go.Proofs.Tryz.ntmps19
  go_wp2_with (go_at_call 53; refine hI.mono ?_; rintro e w' ⟨rfl, hb'⟩)
  go_ret
  exact ⟨rfl, hb'⟩
theorem del_any (c0 c1 c2 c5 c6 c7 c8 : Value) (cat st : Int) (b c : Nat) (ty : TypeId) (L : List R5) (hL : L.length ≤ 2000000) (hc : L.length ≤ c) (w : World) (hb : b < w.heap.size) (hrow : ∀ (j : Nat) (x : R5), L[j]? = some x → At5 w b (j * 5) x)
    (hown : ∃ cur : Array Value, w.heap[b]? = some (.cells cur ty (0, 0)) ∧ cur.size = c * 5) :
    Calls prog 19 #[.slice (some ⟨b, 0, none⟩) L.length c, .func (.func 20) #[.agg #[c0, c1, c2, .int .i64 cat, .int .i64 st, c5, c6, c7, c8]] #[]] w fun e w' => e = .returned (.slice (some ⟨b, 0, none⟩) (L.filter fun x => !x.out cat st).length c) ∧ Fr w b ty (c * 5) w' ∧ ∀ (j : Nat) (x : R5), (L.filter fun x => !x.out cat st)[j]? = some x → At5 w' b (j * 5) x := by
  rcases idx5_spec cat st L 0 with ⟨e, ha⟩ | ⟨k, x, hk, e, ht, ha⟩
  · have hf : (L.filter fun x => !x.out cat st) = L := List.filter_eq_self.2 fun x hx => by rw [ha x hx]; rfl
    have hI := idx_w c0 c1 c2 c5 c6 c7 c8 cat st b c L hL w hb hrow
    rw [e] at hI
    rw [hf]
    have HR : Aside (∀ (j : Nat) (x : R5), L[j]? = some x → At5 w b (j * 5) x) := hrow
    have F0 : Aside (Fr w b ty (c * 5) w) := (⟨rfl, rfl, rfl, Nat.le_refl _, fun _ _ _ => rfl, hown⟩ : Fr w b ty (c * 5) w)
    clear hrow hown ha hf e
    go_enter func19, Go.Proofs.Tryz.ntmps19
    go_wp2_with (go_at_call 53; refine hI.mono ?_; rintro e w' ⟨rfl, hb'⟩)
    go_ret
    exact ⟨rfl, F0.out.below hb hb', fun t y hy => (HR.out t y hy).keep (hb'.block b hb)⟩
  · obtain ⟨hkl, rfl⟩ := List.getElem?_eq_some_iff.1 hk
    rw [Nat.zero_add] at e
    refine del_w c0 c1 c2 c5 c6 c7 c8 cat st b c ty L hL hc w hb hrow hown k hkl e ⟨rfl, by omega, by omega, ?_, rfl⟩
    rw [List.take_succ_eq_append_getElem hkl, List.filter_append]
    have h1 : (L.take k).filter (fun x => !x.out cat st) = L.take k := List.filter_eq_self.2 fun x hx => by rw [ha x hx]; rfl
    rw [h1]
    simp [ht]
theorem sl_len {w : World} {E : Env} {r : Root} {t : Ty} {xs : List t.den} {m : Md} {p : Nat → Pos} {y : Value} (h : Rep w E r (.sl t) xs m p (at0 y)) : ∃ ad c, y = .slice ad xs.length c := by
  obtain ⟨v, h0, h⟩ := h
  simp only [at0, if_true, Option.some.injEq] at h0
  subst h0
  rcases h with ⟨_, ⟨rfl, a, c, rfl⟩ | ⟨b, o, c, rfl, _⟩⟩ | ⟨_, ⟨rfl, a, rfl⟩ | ⟨b, c, arr, ty, rfl, _⟩⟩
  · exact ⟨_, _, rfl⟩
  · exact ⟨_, _, rfl⟩
  · exact ⟨_, _, rfl⟩
  · exact ⟨_, _, rfl⟩
theorem Rep.later {w w' : World} {E : Env} {r : Root} {t : Ty} {x : t.den} {m : Md} {p : Nat → Pos} {g : Nat → Option Value} (hfr : ∀ c, (E.S c ∨ E.κ c ≠ none) → w'.heap[c]? = w.heap[c]?) (h : Rep w E r t x m p g) : Rep w' E r t x m p g :=
  Rep.move (w := w) (w' := w') (E := E) (E' := E) (r := r) (r' := r) (fun _ => True) id (fun c hc => ⟨hc, hfr c (.inl hc)⟩) (fun c q _ hk => ⟨hk, hfr c (.inr (by rw [hk]; simp)), fun k => ⟨trivial, rfl⟩⟩) t x m p p g g (fun _ => ⟨fun _ => trivial, fun _ => rfl⟩) (fun _ _ _ h => h) h
theorem At5.same {w w4 : World} {b k k' : Nat} {y : R5} (h : At5 w b k y) (h' : At5 w4 b k' y) : ∀ j, j < 5 → cellAt w4 b (k' + j) = cellAt w b (k + j) := by
  intro j hj
  obtain ⟨a0, a1, a2, a3, a4⟩ := h
  obtain ⟨b0, b1, b2, b3, b4⟩ := h'
  unfold cellAt
  have : j = 0 ∨ j = 1 ∨ j = 2 ∨ j = 3 ∨ j = 4 := by omega
  rcases this with rfl | rfl | rfl | rfl | rfl
  · exact b0.trans a0.symm
  · exact b1.trans a1.symm
  · exact b2.trans a2.symm
  · exact b3.trans a3.symm
  · exact b4.trans a4.symm
def stay {A A' : Ty} (cat st : Int) (e : (E5 A A').den) : Bool := decide (e.2.2.2.1 = cat) && decide (e.2.2.2.2 = st)
theorem del_rep {A A' T : Ty} {w : World} {E : Env} {r2 : List T.den} {r3 : List (E5 A A').den} {vs : Value} {s3 : Option Addr} {k3 : Nat} (c0 c1 c2 c5 c6 c7 c8 : Value) (cat st : Int) (hlen : r3.length ≤ 2000000)
    (hSκ : ∀ c, E.S c → E.κ c = none) (hltS : ∀ c, E.S c → c < w.heap.size) (hltκ : ∀ c, E.κ c ≠ none → c < w.heap.size)
    (h2 : Rep w E (.res 0) (.sl T) r2 .dp (fun _ => .top) (at0 vs)) (h3 : Rep w E (.res 1) (.sl (E5 A A')) r3 .dp (fun _ => .top) (at0 (.slice s3 r3.length k3))) :
    Calls prog 19 #[.slice s3 r3.length k3, .func (.func 20) #[.agg #[c0, c1, c2, .int .i64 cat, .int .i64 st, c5, c6, c7, c8]] #[]] w fun e w' => ∃ E', e = .returned (.slice s3 (r3.filter (stay cat st)).length k3) ∧
      (w'.os = w.os ∧ w'.tape = w.tape ∧ w'.output = w.output ∧ w.heap.size ≤ w'.heap.size ∧ (∀ c, c < w.heap.size → E.κ c = none → w'.heap[c]? = w.heap[c]?)) ∧
      (E'.S = E.S ∧ (∀ c, E'.κ c ≠ none → E.κ c ≠ none) ∧ (∀ c, E.κ c = none → E'.κ c = none) ∧ (∀ c r q, E'.κ c = some (r, q) → ∃ q', E.κ c = some (r, q'))) ∧
      Rep w' E' (.res 0) (.sl T) r2 .dp (fun _ => .top) (at0 vs) ∧ Rep w' E' (.res 1) (.sl (E5 A A')) (r3.filter (stay cat st)) .dp (fun _ => .top) (at0 (.slice s3 (r3.filter (stay cat st)).length k3)) := by
  obtain ⟨v, h0, h⟩ := h3
  simp only [at0, if_true, Option.some.injEq] at h0
  subst h0
  rcases h with ⟨hm, _⟩ | ⟨_, ⟨rfl, a, he⟩ | ⟨b, c, arr, ty, he, hc, hblk, hsz, hκb, hrows⟩⟩
  · exact absurd hm (by simp)
  · injection he with e1 e2 e3
    subst e1 e3
    refine (del_nil _ s3 0 w).mono ?_
    rintro e w' ⟨rfl, hB⟩
    have hfr : ∀ c, (E.S c ∨ E.κ c ≠ none) → w'.heap[c]? = w.heap[c]? := fun c hc => hB.block c (hc.elim (hltS c) (hltκ c))
    exact ⟨E, rfl, ⟨hB.os, hB.tape, hB.output, hB.size, fun c hc _ => hB.block c hc⟩, ⟨rfl, fun c h => h, fun c h => h, fun c r q h => ⟨q, h⟩⟩, h2.later hfr, ⟨_, by simp [at0], .inr ⟨by simp, .inl ⟨rfl, s3, rfl⟩⟩⟩⟩
  · injection he with e1 e2 e3
    subst e1 e3
    have hlv : (E5 A A').lv = 5 := rfl
    simp only [hlv] at hsz hrows
    obtain ⟨L, hL, hLr⟩ := rows5 (m := Md.dp) hrows
    have hb : b < w.heap.size := (Array.getElem?_eq_some_iff.1 hblk).1
    have hrow : ∀ (j : Nat) (x : R5), L[j]? = some x → At5 w b (j * 5) x := fun j x hx => by
      obtain ⟨hj, rfl⟩ := List.getElem?_eq_some_iff.1 hx
      exact (hLr j (by omega) hj).1
    have c19 := del_any c0 c1 c2 c5 c6 c7 c8 cat st b k3 ty L (by omega) (by omega) w hb hrow ⟨arr, hblk, hsz⟩
    rw [hL] at c19
    let d : (E5 A A').den := (E5 A A').dflt
    let dL : R5 := ⟨0, none, 0, 0, none, 0, 0, 0, 0⟩
    have hK : kpt (stay cat st) d r3 = kpt (fun x : R5 => !x.out cat st) dL L := kpt_congr hL.symm fun i hi => by
      have hl : i < L.length := by omega
      have := hLr i hi hl
      rw [show r3.getD i d = r3[i] by simp [List.getD, hi], show L.getD i dL = L[i] by simp [List.getD, hl]]
      unfold stay R5.out
      rw [this.2.1, this.2.2]
      simp
    obtain ⟨K, hKe⟩ : ∃ K, kpt (stay cat st) d r3 = K := ⟨_, rfl⟩
    have hf3 := kpt_map (stay cat st) d r3
    have hfL := kpt_map (fun x : R5 => !x.out cat st) dL L
    rw [← hK, hKe] at hfL
    rw [hKe] at hf3
    have hKlt : ∀ i ∈ K, i < r3.length := fun i hi => kpt_lt (p := stay cat st) (d := d) (hKe ▸ hi)
    have hKn : K.Nodup := hKe ▸ kpt_nodup (stay cat st) d r3
    have hlen2 : (L.filter fun x => !x.out cat st).length = (r3.filter (stay cat st)).length := by rw [hfL, hf3, List.length_map, List.length_map]
    rw [hlen2] at c19
    refine c19.mono ?_
    rintro e w' ⟨rfl, hF, hat⟩
    have hfr : ∀ c, c ≠ b → (E.S c ∨ E.κ c ≠ none) → w'.heap[c]? = w.heap[c]? := fun c hne hc => hF.block c (hc.elim (hltS c) (hltκ c)) hne
    refine ⟨⟨E.S, kap E.κ (.res 1) b K⟩, rfl, ⟨hF.os, hF.tape, hF.output, hF.size, fun c hc hn => hF.block c hc (fun e => by subst e; rw [hκb] at hn; cases hn)⟩, ⟨rfl, fun c h => kap_ne h, fun c h => kap_none h, fun c r q h => kap_root h⟩, stays5 (by simp) hκb hSκ hfr h2, ?_⟩
    obtain ⟨cur', hcur', hcs'⟩ := hF.own
    refine ⟨_, by simp [at0], .inr ⟨by simp, .inr ⟨b, k3, cur', ty, rfl, ?_, hcur', by rw [hlv]; exact hcs', kap_top hκb, fun t ht => ?_⟩⟩⟩
    · have := List.length_filter_le (stay cat st) r3
      omega
    · have htK : t < K.length := by rw [hf3, List.length_map] at ht; exact ht
      obtain ⟨i, hi⟩ : ∃ i, K[t] = i := ⟨_, rfl⟩
      have hmem : i ∈ K := by rw [← hi]; exact List.getElem_mem htK
      have hix : K.idxOf i = t := by rw [← hi]; exact hKn.idxOf_getElem t htK
      have hi3 := hKlt i hmem
      have hiL : i < L.length := by omega
      have hx : (r3.filter (stay cat st))[t] = r3[i] := by
        simp only [hf3, List.getElem_map, hi]
        simp [List.getD, hi3]
      have hy : (L.filter fun x => !x.out cat st)[t]? = some L[i] := by
        rw [hfL, List.getElem?_map, List.getElem?_eq_getElem htK, hi]
        simp [List.getD, hiL]
      have hm := moved5 (w := w) (w4 := w') (E := E) (rt := .res 1) (x := r3[i]) (b := b) (i := i) (K := K) hmem hκb hSκ hfr (fun j hj => by
        rw [hix]
        exact At5.same (hLr i hi3 hiL).1 (hat t _ hy) j hj) (hrows i hi3)
      rw [hix] at hm
      rw [hx, hlv]
      exact hm
theorem c9 {W : World} {b : Nat} {v0 v1 v2 v3 v4 v5 v6 v7 v8 : Value} {t : TypeId} (h : W.heap[b]? = some (.cells #[v0, v1, v2, v3, v4, v5, v6, v7, v8] t (0, 0))) :
    W.cell? ⟨b, 0, none⟩ = some v0 ∧ W.cell? ⟨b, 1, none⟩ = some v1 ∧ W.cell? ⟨b, 2, none⟩ = some v2 ∧ W.cell? ⟨b, 3, none⟩ = some v3 ∧ W.cell? ⟨b, 4, none⟩ = some v4 ∧ W.cell? ⟨b, 5, none⟩ = some v5 ∧ W.cell? ⟨b, 6, none⟩ = some v6 ∧ W.cell? ⟨b, 7, none⟩ = some v7 ∧ W.cell? ⟨b, 8, none⟩ = some v8 ∧
      W.frozen? ⟨b, 0, none⟩ = false ∧ W.frozen? ⟨b, 1, none⟩ = false ∧ W.frozen? ⟨b, 2, none⟩ = false ∧ W.frozen? ⟨b, 3, none⟩ = false ∧ W.frozen? ⟨b, 4, none⟩ = false ∧ W.frozen? ⟨b, 5, none⟩ = false ∧ W.frozen? ⟨b, 6, none⟩ = false ∧ W.frozen? ⟨b, 7, none⟩ = false ∧ W.frozen? ⟨b, 8, none⟩ = false := by
  simp [World.cell?, World.frozen?, h]
theorem two_boxes {w w1 : World} {o1 o2 : Obj} (h : Below ((w.alloc o1).alloc o2).heap.size ((w.alloc o1).alloc o2) w1) : w1.heap[w.heap.size]? = some o1 ∧ w1.heap[w.heap.size + 1]? = some o2 ∧ ((w.alloc o1).alloc o2).heap.size = w.heap.size + 2 ∧ w.heap.size + 2 ≤ w1.heap.size := by
  have hs1 : (w.alloc o1).heap.size = w.heap.size + 1 := Array.size_push _
  have hs2 : ((w.alloc o1).alloc o2).heap.size = w.heap.size + 2 := by
    rw [show ((w.alloc o1).alloc o2).heap.size = (w.alloc o1).heap.size + 1 from Array.size_push _, hs1]
  have h2 := heap_alloc_new (w.alloc o1) o2
  rw [hs1] at h2
  have h1 : ((w.alloc o1).alloc o2).heap[w.heap.size]? = some o1 := by
    have h0 := heap_alloc_new w o1
    have hb : Below (w.alloc o1).heap.size (w.alloc o1) ((w.alloc o1).alloc o2) := (Below.refl _ _).alloc (Nat.le_refl _) _
    rw [hb.block _ (by omega)]
    exact h0
  refine ⟨(h.block _ (by omega)).trans h1, (h.block _ (by omega)).trans h2, hs2, by have := h.size; omega⟩
theorem next_box {w1 w2 : World} {o : Obj} (h : Below (w1.alloc o).heap.size (w1.alloc o) w2) : w2.heap[w1.heap.size]? = some o ∧ (∀ c, c < w1.heap.size → w2.heap[c]? = w1.heap[c]?) ∧ w1.heap.size < w2.heap.size := by
  have hs : (w1.alloc o).heap.size = w1.heap.size + 1 := Array.size_push _
  have hb : Below w1.heap.size w1 (w1.alloc o) := (Below.refl _ _).alloc (Nat.le_refl _) _
  refine ⟨(h.block _ (by omega)).trans (heap_alloc_new w1 o), fun c hc => (h.block c (by omega)).trans (hb.block c hc), by have := h.size; omega⟩
theorem set9 {W : World} {b : Nat} {a0 a1 a2 a3 a4 a5 a6 a7 a8 : Value} {t : TypeId} (h : W.heap[b]? = some (.cells #[a0, a1, a2, a3, a4, a5, a6, a7, a8] t (0, 0))) (v0 v1 v2 v3 v4 v5 v6 v7 v8 : Value) :
    (((((((((W.setCell ⟨b, 0, none⟩ v0).setCell ⟨b, 1, none⟩ v1).setCell ⟨b, 2, none⟩ v2).setCell ⟨b, 3, none⟩ v3).setCell ⟨b, 4, none⟩ v4).setCell ⟨b, 5, none⟩ v5).setCell ⟨b, 6, none⟩ v6).setCell ⟨b, 7, none⟩ v7).setCell ⟨b, 8, none⟩ v8).heap[b]? = some (.cells #[v0, v1, v2, v3, v4, v5, v6, v7, v8] t (0, 0)) := by
  have h0 : _ = some (Obj.cells #[v0, a1, a2, a3, a4, a5, a6, a7, a8] t (0, 0)) := heap_setCell_same _ b 0 _ t v0 h
  have h1 : _ = some (Obj.cells #[v0, v1, a2, a3, a4, a5, a6, a7, a8] t (0, 0)) := heap_setCell_same _ b 1 _ t v1 h0
  have h2 : _ = some (Obj.cells #[v0, v1, v2, a3, a4, a5, a6, a7, a8] t (0, 0)) := heap_setCell_same _ b 2 _ t v2 h1
  have h3 : _ = some (Obj.cells #[v0, v1, v2, v3, a4, a5, a6, a7, a8] t (0, 0)) := heap_setCell_same _ b 3 _ t v3 h2
  have h4 : _ = some (Obj.cells #[v0, v1, v2, v3, v4, a5, a6, a7, a8] t (0, 0)) := heap_setCell_same _ b 4 _ t v4 h3
  have h5 : _ = some (Obj.cells #[v0, v1, v2, v3, v4, v5, a6, a7, a8] t (0, 0)) := heap_setCell_same _ b 5 _ t v5 h4
  have h6 : _ = some (Obj.cells #[v0, v1, v2, v3, v4, v5, v6, a7, a8] t (0, 0)) := heap_setCell_same _ b 6 _ t v6 h5
  have h7 : _ = some (Obj.cells #[v0, v1, v2, v3, v4, v5, v6, v7, a8] t (0, 0)) := heap_setCell_same _ b 7 _ t v7 h6
  have h8 : _ = some (Obj.cells #[v0, v1, v2, v3, v4, v5, v6, v7, v8] t (0, 0)) := heap_setCell_same _ b 8 _ t v8 h7
  exact h8
structure Fin5 (w W w1 w3 w' : World) : Prop where
  os : w'.os = w3.os
  tape : w'.tape = w3.tape
  output : w'.output = w3.output
  size : w3.heap.size ≤ w'.heap.size
  block : ∀ c, (c < w.heap.size ∨ (W.heap.size ≤ c ∧ c < w1.heap.size)) → w'.heap[c]? = w3.heap[c]?
theorem Fin5.set {w W w1 w3 w' : World} (h : Fin5 w W w1 w3 w') {b : Nat} (hb : w.heap.size ≤ b ∧ (b < W.heap.size ∨ w1.heap.size ≤ b)) (k : Nat) (v : Value) : Fin5 w W w1 w3 (w'.setCell ⟨b, k, none⟩ v) := by
  refine ⟨h.os, h.tape, h.output, by simpa [World.setCell] using h.size, fun c hc => ?_⟩
  rw [heap_setCell_other _ _ _ _ (by simp only; omega)]
  exact h.block c hc
theorem drew_box {W : World} {b : Nat} {o : Obj} (h : W.heap[b]? = some o) : W.drew.heap[b]? = some o := h
theorem Fin5.drew {w W w1 w3 w' : World} (h : Fin5 w W w1 w3 w') : Fin5 w W w1 w3 w'.drew := ⟨h.os, h.tape, h.output, h.size, h.block⟩
theorem drop_w (z1 z4 z5 z6 z7 z8 z9 r1 r4 r5 r6 r7 r8 r9 : Int) (a2 a3 : Option Addr) (m2 n3 c2 c3 : Nat) (ok : Bool) (Q1 : World → World → Option Addr → Nat → Nat → Option Addr → Nat → Nat → Prop) (Q2 : World → World → World → Option Addr → Nat → Nat → Option Addr → Nat → Nat → Prop) (w : World)
    (h17 : ∀ W, Below w.heap.size w W → Calls prog 17 #[.agg #[.int .i64 z1, .slice a2 m2 c2, .slice a3 n3 c3, .int .i64 z4, .int .i64 z5, .int .i64 z6, .int .i64 z7, .int .i64 z8, .int .i64 z9]] W fun e w1 => ∃ (s2 : Option Addr) (l2 k2 : Nat) (s3 : Option Addr) (l3 k3 : Nat), e = .returned (.agg #[.int .i64 r1, .slice s2 l2 k2, .slice s3 l3 k3, .int .i64 r4, .int .i64 r5, .int .i64 r6, .int .i64 r7, .int .i64 r8, .int .i64 r9]) ∧ Below W.heap.size W w1 ∧ Q1 W w1 s2 l2 k2 s3 l3 k3)
    (h18 : ∀ W, Below w.heap.size w W → Calls prog 18 #[.agg #[.int .i64 z1, .slice a2 m2 c2, .slice a3 n3 c3, .int .i64 z4, .int .i64 z5, .int .i64 z6, .int .i64 z7, .int .i64 z8, .int .i64 z9]] W fun e w1 => e = .returned (.bool ok) ∧ Below W.heap.size W w1)
    (h19 : ok = true → ∀ W w1 w2 (s2 : Option Addr) (l2 k2 : Nat) (s3 : Option Addr) (l3 k3 : Nat), Q1 W w1 s2 l2 k2 s3 l3 k3 → Below w1.heap.size w1 w2 →
      Calls prog 19 #[.slice s3 l3 k3, .func (.func 20) #[.agg #[.int .i64 r1, .slice s2 l2 k2, .slice s3 l3 k3, .int .i64 r4, .int .i64 r5, .int .i64 r6, .int .i64 r7, .int .i64 r8, .int .i64 r9]] #[]] w2 fun e w3 => ∃ m : Nat, e = .returned (.slice s3 m k3) ∧ (w2.heap.size ≤ w3.heap.size ∧ ∀ c, c < w2.heap.size → (c < W.heap.size ∨ w1.heap.size ≤ c) → w3.heap[c]? = w2.heap[c]?) ∧ Q2 W w1 w3 s2 l2 k2 s3 m k3)
    (hn3 : n3 ≤ 2000000) (hq : ∀ W w1 w3 s2 l2 k2 s3 m k3, Q2 W w1 w3 s2 l2 k2 s3 m k3 → m ≤ 2000000) :
    Calls prog 7 #[.agg #[.int .i64 z1, .slice a2 m2 c2, .slice a3 n3 c3, .int .i64 z4, .int .i64 z5, .int .i64 z6, .int .i64 z7, .int .i64 z8, .int .i64 z9]] w fun e w' => ∃ (W w1 w3 : World) (s2 : Option Addr) (l2 k2 : Nat) (s3 : Option Addr) (l3 k3 m : Nat) (n : Int), e = .returned (.tuple #[.agg #[.int .i64 r1, .slice s2 l2 k2, .slice s3 m k3, .int .i64 r4, .int .i64 r5, .int .i64 r6, .int .i64 r7, .int .i64 r8, .int .i64 r9], .int .i64 n]) ∧
      Below w.heap.size w W ∧ Below W.heap.size W w1 ∧ Q1 W w1 s2 l2 k2 s3 l3 k3 ∧ (cond ok (Q2 W w1 w3 s2 l2 k2 s3 m k3 ∧ n = (n3 : Int) - (m : Int)) (m = l3 ∧ n = -1 ∧ Below w1.heap.size w1 w3)) ∧ Fin5 w W w1 w3 w' := by
  cases ok with
  | false =>
    clear h19
    go_enter func7, Go.Proofs.Tryz.ntmps7
    go_wp2_with (first
      | (go_at_call 17
         refine (h17 _ (((Below.refl _ _).alloc (Nat.le_refl _) _).alloc (by simp) _)).mono ?_
         rintro e w1 ⟨s2, l2, k2, s3, l3, k3, rfl, hB1, hQ⟩
         obtain ⟨x1, x2, x3, x4⟩ := two_boxes hB1
         have hlt0 : w.heap.size < w1.heap.size := by omega
         have hlt1 : w.heap.size + 1 < w1.heap.size := by omega
         obtain ⟨p0, p1, p2, p3, p4, p5, p6, p7, p8, _⟩ := c9 x1
         have X1 : Aside (w1.heap[w.heap.size]? = some (.cells #[.int .i64 z1, .slice a2 m2 c2, .slice a3 n3 c3, .int .i64 z4, .int .i64 z5, .int .i64 z6, .int .i64 z7, .int .i64 z8, .int .i64 z9] 30 (0, 0))) := x1
         have X2 : Aside (w1.heap[w.heap.size + 1]? = some (.cells #[.int .i64 0, .slice none 0 0, .slice none 0 0, .int .i64 0, .int .i64 0, .int .i64 0, .int .i64 0, .int .i64 0, .int .i64 0] 30 (0, 0))) := x2
         clear x1 x2)
      | (go_at_call 18
         have hBA : Below w.heap.size w (w1.alloc (.cells #[.int .i64 r1, .slice s2 l2 k2, .slice s3 l3 k3, .int .i64 r4, .int .i64 r5, .int .i64 r6, .int .i64 r7, .int .i64 r8, .int .i64 r9] 30)) := (((((Below.refl _ _).alloc (Nat.le_refl _) _).alloc (by simp) _).trans (hB1.mono (by simp; omega)))).alloc (by omega) _
         refine (h18 _ hBA).mono ?_
         rintro e w2 ⟨rfl, hB2⟩
         obtain ⟨y3, y4, y5⟩ := next_box hB2
         have y1 := (y4 _ hlt0).trans X1.out
         have y2 := (y4 _ hlt1).trans X2.out
         have hlt2 : w.heap.size < w2.heap.size := by omega
         have hlt3 : w.heap.size + 1 < w2.heap.size := by omega
         have Y4 : Aside (∀ c, c < w1.heap.size → w2.heap[c]? = w1.heap[c]?) := y4
         clear p0 p1 p2 p3 p4 p5 p6 p7 p8 y4
         obtain ⟨q0, q1, q2, q3, q4, q5, q6, q7, q8, f0, f1, f2, f3, f4, f5, f6, f7, f8⟩ := c9 y2
         obtain ⟨s0, s1', s2', s3', s4, s5, s6, s7, s8, _⟩ := c9 y3
         obtain ⟨p0, p1, p2, p3, p4, p5, p6, p7, p8, _⟩ := c9 y1
         have Y2 : Aside (w2.heap[w.heap.size + 1]? = some (.cells #[.int .i64 0, .slice none 0 0, .slice none 0 0, .int .i64 0, .int .i64 0, .int .i64 0, .int .i64 0, .int .i64 0, .int .i64 0] 30 (0, 0))) := y2
         have HB2 : Aside (Below (w1.alloc (.cells #[.int .i64 r1, .slice s2 l2 k2, .slice s3 l3 k3, .int .i64 r4, .int .i64 r5, .int .i64 r6, .int .i64 r7, .int .i64 r8, .int .i64 r9] 30)).heap.size (w1.alloc (.cells #[.int .i64 r1, .slice s2 l2 k2, .slice s3 l3 k3, .int .i64 r4, .int .i64 r5, .int .i64 r6, .int .i64 r7, .int .i64 r8, .int .i64 r9] 30)) w2) := hB2
         clear y1 y2 y3))
    (try simp only [Exit.inBlock, Exit.then])
    have hbox := set9 Y2.out (.int .i64 r1) (.slice s2 l2 k2) (.slice s3 l3 k3) (.int .i64 r4) (.int .i64 r5) (.int .i64 r6) (.int .i64 r7) (.int .i64 r8) (.int .i64 r9)
    have hF : Fin5 w ((w.alloc (.cells #[.int .i64 z1, .slice a2 m2 c2, .slice a3 n3 c3, .int .i64 z4, .int .i64 z5, .int .i64 z6, .int .i64 z7, .int .i64 z8, .int .i64 z9] 30)).alloc (.cells #[.int .i64 0, .slice none 0 0, .slice none 0 0, .int .i64 0, .int .i64 0, .int .i64 0, .int .i64 0, .int .i64 0, .int .i64 0] 30)) w1 w2 (((((((((w2.setCell ⟨w.heap.size + 1, 0, none⟩ (.int .i64 r1)).setCell ⟨w.heap.size + 1, 1, none⟩ (.slice s2 l2 k2)).setCell ⟨w.heap.size + 1, 2, none⟩ (.slice s3 l3 k3)).setCell ⟨w.heap.size + 1, 3, none⟩ (.int .i64 r4)).setCell ⟨w.heap.size + 1, 4, none⟩ (.int .i64 r5)).setCell ⟨w.heap.size + 1, 5, none⟩ (.int .i64 r6)).setCell ⟨w.heap.size + 1, 6, none⟩ (.int .i64 r7)).setCell ⟨w.heap.size + 1, 7, none⟩ (.int .i64 r8)).setCell ⟨w.heap.size + 1, 8, none⟩ (.int .i64 r9)) := by
      have h0 : Fin5 w ((w.alloc (.cells #[.int .i64 z1, .slice a2 m2 c2, .slice a3 n3 c3, .int .i64 z4, .int .i64 z5, .int .i64 z6, .int .i64 z7, .int .i64 z8, .int .i64 z9] 30)).alloc (.cells #[.int .i64 0, .slice none 0 0, .slice none 0 0, .int .i64 0, .int .i64 0, .int .i64 0, .int .i64 0, .int .i64 0, .int .i64 0] 30)) w1 w2 w2 := ⟨rfl, rfl, rfl, Nat.le_refl _, fun _ _ => rfl⟩
      have hb : w.heap.size ≤ w.heap.size + 1 ∧ (w.heap.size + 1 < ((w.alloc (.cells #[.int .i64 z1, .slice a2 m2 c2, .slice a3 n3 c3, .int .i64 z4, .int .i64 z5, .int .i64 z6, .int .i64 z7, .int .i64 z8, .int .i64 z9] 30)).alloc (.cells #[.int .i64 0, .slice none 0 0, .slice none 0 0, .int .i64 0, .int .i64 0, .int .i64 0, .int .i64 0, .int .i64 0, .int .i64 0] 30)).heap.size ∨ w1.heap.size ≤ w.heap.size + 1) := ⟨by omega, .inl (by rw [x3]; omega)⟩
      exact ((((((((h0.set hb _ _).set hb _ _).set hb _ _).set hb _ _).set hb _ _).set hb _ _).set hb _ _).set hb _ _).set hb _ _
    obtain ⟨g0, g1, g2, g3, g4, g5, g6, g7, g8, _⟩ := c9 hbox
    generalize (((((((((w2.setCell ⟨w.heap.size + 1, 0, none⟩ (.int .i64 r1)).setCell ⟨w.heap.size + 1, 1, none⟩ (.slice s2 l2 k2)).setCell ⟨w.heap.size + 1, 2, none⟩ (.slice s3 l3 k3)).setCell ⟨w.heap.size + 1, 3, none⟩ (.int .i64 r4)).setCell ⟨w.heap.size + 1, 4, none⟩ (.int .i64 r5)).setCell ⟨w.heap.size + 1, 5, none⟩ (.int .i64 r6)).setCell ⟨w.heap.size + 1, 6, none⟩ (.int .i64 r7)).setCell ⟨w.heap.size + 1, 7, none⟩ (.int .i64 r8)).setCell ⟨w.heap.size + 1, 8, none⟩ (.int .i64 r9)) = wf at hF g0 g1 g2 g3 g4 g5 g6 g7 g8 ⊢
    refine bodyPost_ret (v := .tuple #[.agg #[.int .i64 r1, .slice s2 l2 k2, .slice s3 l3 k3, .int .i64 r4, .int .i64 r5, .int .i64 r6, .int .i64 r7, .int .i64 r8, .int .i64 r9], .int .i64 (-1)]) ?_ rfl ?_
    · rw [results_cell_tmp rfl]
      go_simp
    · refine ⟨_, w1, w2, s2, l2, k2, s3, l3, k3, l3, -1, rfl, ((Below.refl _ _).alloc (Nat.le_refl _) _).alloc (by simp) _, hB1, hQ, ⟨rfl, rfl, ?_⟩, hF⟩
      have hb : Below w1.heap.size w1 (w1.alloc (.cells #[.int .i64 r1, .slice s2 l2 k2, .slice s3 l3 k3, .int .i64 r4, .int .i64 r5, .int .i64 r6, .int .i64 r7, .int .i64 r8, .int .i64 r9] 30)) := (Below.refl _ _).alloc (Nat.le_refl _) _
      exact hb.trans (HB2.out.mono hb.size)
  | true =>
    have h19' := h19 rfl
    clear h19
    have mixed : prog.follows .mixedOrders = true := by kernel_rfl
    go_enter func7, Go.Proofs.Tryz.ntmps7
    go_wp2_with (first
      | (go_at_call 17
         refine (h17 _ (((Below.refl _ _).alloc (Nat.le_refl _) _).alloc (by simp) _)).mono ?_
         rintro e w1 ⟨s2, l2, k2, s3, l3, k3, rfl, hB1, hQ⟩
         obtain ⟨x1, x2, x3, x4⟩ := two_boxes hB1
         have hlt0 : w.heap.size < w1.heap.size := by omega
         have hlt1 : w.heap.size + 1 < w1.heap.size := by omega
         obtain ⟨p0, p1, p2, p3, p4, p5, p6, p7, p8, _⟩ := c9 x1
         have X1 : Aside (w1.heap[w.heap.size]? = some (.cells #[.int .i64 z1, .slice a2 m2 c2, .slice a3 n3 c3, .int .i64 z4, .int .i64 z5, .int .i64 z6, .int .i64 z7, .int .i64 z8, .int .i64 z9] 30 (0, 0))) := x1
         have X2 : Aside (w1.heap[w.heap.size + 1]? = some (.cells #[.int .i64 0, .slice none 0 0, .slice none 0 0, .int .i64 0, .int .i64 0, .int .i64 0, .int .i64 0, .int .i64 0, .int .i64 0] 30 (0, 0))) := x2
         clear x1 x2)
      | (go_at_call 18
         have hBA : Below w.heap.size w (w1.alloc (.cells #[.int .i64 r1, .slice s2 l2 k2, .slice s3 l3 k3, .int .i64 r4, .int .i64 r5, .int .i64 r6, .int .i64 r7, .int .i64 r8, .int .i64 r9] 30)) := (((((Below.refl _ _).alloc (Nat.le_refl _) _).alloc (by simp) _).trans (hB1.mono (by simp; omega)))).alloc (by omega) _
         refine (h18 _ hBA).mono ?_
         rintro e w2 ⟨rfl, hB2⟩
         obtain ⟨y3, y4, y5⟩ := next_box hB2
         have y1 := (y4 _ hlt0).trans X1.out
         have y2 := (y4 _ hlt1).trans X2.out
         have hlt2 : w.heap.size < w2.heap.size := by omega
         have hlt3 : w.heap.size + 1 < w2.heap.size := by omega
         have Y4 : Aside (∀ c, c < w1.heap.size → w2.heap[c]? = w1.heap[c]?) := y4
         clear p0 p1 p2 p3 p4 p5 p6 p7 p8 y4
         obtain ⟨q0, q1, q2, q3, q4, q5, q6, q7, q8, f0, f1, f2, f3, f4, f5, f6, f7, f8⟩ := c9 y2
         obtain ⟨s0, s1', s2', s3', s4, s5, s6, s7, s8, _⟩ := c9 y3
         obtain ⟨p0, p1, p2, p3, p4, p5, p6, p7, p8, _⟩ := c9 y1
         have Y2 : Aside (w2.heap[w.heap.size + 1]? = some (.cells #[.int .i64 0, .slice none 0 0, .slice none 0 0, .int .i64 0, .int .i64 0, .int .i64 0, .int .i64 0, .int .i64 0, .int .i64 0] 30 (0, 0))) := y2
         have HB2 : Aside (Below (w1.alloc (.cells #[.int .i64 r1, .slice s2 l2 k2, .slice s3 l3 k3, .int .i64 r4, .int .i64 r5, .int .i64 r6, .int .i64 r7, .int .i64 r8, .int .i64 r9] 30)).heap.size (w1.alloc (.cells #[.int .i64 r1, .slice s2 l2 k2, .slice s3 l3 k3, .int .i64 r4, .int .i64 r5, .int .i64 r6, .int .i64 r7, .int .i64 r8, .int .i64 r9] 30)) w2) := hB2
         have Y1 : Aside (w2.heap[w.heap.size]? = some (.cells #[.int .i64 z1, .slice a2 m2 c2, .slice a3 n3 c3, .int .i64 z4, .int .i64 z5, .int .i64 z6, .int .i64 z7, .int .i64 z8, .int .i64 z9] 30 (0, 0))) := y1
         have Y3 : Aside (w2.heap[w1.heap.size]? = some (.cells #[.int .i64 r1, .slice s2 l2 k2, .slice s3 l3 k3, .int .i64 r4, .int .i64 r5, .int .i64 r6, .int .i64 r7, .int .i64 r8, .int .i64 r9] 30 (0, 0))) := y3
         have HW : Aside (Below w1.heap.size w1 w2) := ((Below.refl _ _).alloc (Nat.le_refl _) (.cells #[.int .i64 r1, .slice s2 l2 k2, .slice s3 l3 k3, .int .i64 r4, .int .i64 r5, .int .i64 r6, .int .i64 r7, .int .i64 r8, .int .i64 r9] 30)).trans (hB2.mono (((Below.refl _ _).alloc (Nat.le_refl _) (.cells #[.int .i64 r1, .slice s2 l2 k2, .slice s3 l3 k3, .int .i64 r4, .int .i64 r5, .int .i64 r6, .int .i64 r7, .int .i64 r8, .int .i64 r9] 30)) : Below w1.heap.size w1 (w1.alloc (.cells #[.int .i64 r1, .slice s2 l2 k2, .slice s3 l3 k3, .int .i64 r4, .int .i64 r5, .int .i64 r6, .int .i64 r7, .int .i64 r8, .int .i64 r9] 30))).size)
         clear y1 y2 y3)
      | (go_at_call 19
         refine (h19' _ w1 w2 s2 l2 k2 s3 l3 k3 hQ HW.out).mono ?_
         rintro e w3 ⟨m, rfl, ⟨hsz, hfr⟩, hQ2⟩
         have hm := hq _ _ _ _ _ _ _ _ _ hQ2
         have u1 := (hfr w.heap.size (by omega) (.inl (by rw [x3]; omega))).trans Y1.out
         have u2 := (hfr (w.heap.size + 1) (by omega) (.inl (by rw [x3]; omega))).trans Y2.out
         have u3 := (hfr w1.heap.size (by omega) (.inr (Nat.le_refl _))).trans Y3.out
         have U2 : Aside (w3.heap[w.heap.size + 1]? = some (.cells #[.int .i64 0, .slice none 0 0, .slice none 0 0, .int .i64 0, .int .i64 0, .int .i64 0, .int .i64 0, .int .i64 0, .int .i64 0] 30 (0, 0))) := u2
         have hlt4 : w.heap.size < w3.heap.size := by omega
         have hlt5 : w.heap.size + 1 < w3.heap.size := by omega
         have hlt6 : w1.heap.size < w3.heap.size := by omega
         have hne1 : w.heap.size ≠ w1.heap.size := by omega
         have hne2 : w.heap.size + 1 ≠ w1.heap.size := by omega
         clear p0 p1 p2 p3 p4 p5 p6 p7 p8 q0 q1 q2 q3 q4 q5 q6 q7 q8 f0 f1 f2 f3 f4 f5 f6 f7 f8 s0 s1' s2' s3' s4 s5 s6 s7 s8 hfr
         obtain ⟨q0, q1, q2, q3, q4, q5, q6, q7, q8, f0, f1, f2, f3, f4, f5, f6, f7, f8⟩ := c9 u2
         obtain ⟨s0, s1', s2', s3', s4, s5, s6, s7, s8, e0, e1, e2, e3, e4, e5, e6, e7, e8⟩ := c9 u3
         obtain ⟨p0, p1, p2, p3, p4, p5, p6, p7, p8, _⟩ := c9 u1
         clear u1 u2 u3))
    go_region
    have U2' : (w3.setCell ⟨w1.heap.size, 2, none⟩ (.slice s3 m k3)).heap[w.heap.size + 1]? = some (.cells #[.int .i64 0, .slice none 0 0, .slice none 0 0, .int .i64 0, .int .i64 0, .int .i64 0, .int .i64 0, .int .i64 0, .int .i64 0] 30 (0, 0)) := (heap_setCell_other w3 ⟨w1.heap.size, 2, none⟩ (w.heap.size + 1) _ hne2).trans U2.out
    have hbox0 := set9 U2' (.int .i64 r1) (.slice s2 l2 k2) (.slice s3 m k3) (.int .i64 r4) (.int .i64 r5) (.int .i64 r6) (.int .i64 r7) (.int .i64 r8) (.int .i64 r9)
    have hbox := drew_box hbox0
    have hF : Fin5 w ((w.alloc (.cells #[.int .i64 z1, .slice a2 m2 c2, .slice a3 n3 c3, .int .i64 z4, .int .i64 z5, .int .i64 z6, .int .i64 z7, .int .i64 z8, .int .i64 z9] 30)).alloc (.cells #[.int .i64 0, .slice none 0 0, .slice none 0 0, .int .i64 0, .int .i64 0, .int .i64 0, .int .i64 0, .int .i64 0, .int .i64 0] 30)) w1 w3 ((((((((((w3.setCell ⟨w1.heap.size, 2, none⟩ (.slice s3 m k3)).setCell ⟨w.heap.size + 1, 0, none⟩ (.int .i64 r1)).setCell ⟨w.heap.size + 1, 1, none⟩ (.slice s2 l2 k2)).setCell ⟨w.heap.size + 1, 2, none⟩ (.slice s3 m k3)).setCell ⟨w.heap.size + 1, 3, none⟩ (.int .i64 r4)).setCell ⟨w.heap.size + 1, 4, none⟩ (.int .i64 r5)).setCell ⟨w.heap.size + 1, 5, none⟩ (.int .i64 r6)).setCell ⟨w.heap.size + 1, 6, none⟩ (.int .i64 r7)).setCell ⟨w.heap.size + 1, 7, none⟩ (.int .i64 r8)).setCell ⟨w.heap.size + 1, 8, none⟩ (.int .i64 r9)).drew := by
      have h0 : Fin5 w ((w.alloc (.cells #[.int .i64 z1, .slice a2 m2 c2, .slice a3 n3 c3, .int .i64 z4, .int .i64 z5, .int .i64 z6, .int .i64 z7, .int .i64 z8, .int .i64 z9] 30)).alloc (.cells #[.int .i64 0, .slice none 0 0, .slice none 0 0, .int .i64 0, .int .i64 0, .int .i64 0, .int .i64 0, .int .i64 0, .int .i64 0] 30)) w1 w3 w3 := ⟨rfl, rfl, rfl, Nat.le_refl _, fun _ _ => rfl⟩
      have hb : w.heap.size ≤ w.heap.size + 1 ∧ (w.heap.size + 1 < ((w.alloc (.cells #[.int .i64 z1, .slice a2 m2 c2, .slice a3 n3 c3, .int .i64 z4, .int .i64 z5, .int .i64 z6, .int .i64 z7, .int .i64 z8, .int .i64 z9] 30)).alloc (.cells #[.int .i64 0, .slice none 0 0, .slice none 0 0, .int .i64 0, .int .i64 0, .int .i64 0, .int .i64 0, .int .i64 0, .int .i64 0] 30)).heap.size ∨ w1.heap.size ≤ w.heap.size + 1) := ⟨by omega, .inl (by rw [x3]; omega)⟩
      have hb0 : w.heap.size ≤ w1.heap.size ∧ (w1.heap.size < ((w.alloc (.cells #[.int .i64 z1, .slice a2 m2 c2, .slice a3 n3 c3, .int .i64 z4, .int .i64 z5, .int .i64 z6, .int .i64 z7, .int .i64 z8, .int .i64 z9] 30)).alloc (.cells #[.int .i64 0, .slice none 0 0, .slice none 0 0, .int .i64 0, .int .i64 0, .int .i64 0, .int .i64 0, .int .i64 0, .int .i64 0] 30)).heap.size ∨ w1.heap.size ≤ w1.heap.size) := ⟨by omega, .inr (Nat.le_refl _)⟩
      have h1 := (((((((((h0.set hb0 2 (.slice s3 m k3)).set hb 0 (.int .i64 r1)).set hb 1 (.slice s2 l2 k2)).set hb 2 (.slice s3 m k3)).set hb 3 (.int .i64 r4)).set hb 4 (.int .i64 r5)).set hb 5 (.int .i64 r6)).set hb 6 (.int .i64 r7)).set hb 7 (.int .i64 r8)).set hb 8 (.int .i64 r9)
      exact h1.drew
    obtain ⟨g0, g1, g2, g3, g4, g5, g6, g7, g8, _⟩ := c9 hbox
    generalize ((((((((((w3.setCell ⟨w1.heap.size, 2, none⟩ (.slice s3 m k3)).setCell ⟨w.heap.size + 1, 0, none⟩ (.int .i64 r1)).setCell ⟨w.heap.size + 1, 1, none⟩ (.slice s2 l2 k2)).setCell ⟨w.heap.size + 1, 2, none⟩ (.slice s3 m k3)).setCell ⟨w.heap.size + 1, 3, none⟩ (.int .i64 r4)).setCell ⟨w.heap.size + 1, 4, none⟩ (.int .i64 r5)).setCell ⟨w.heap.size + 1, 5, none⟩ (.int .i64 r6)).setCell ⟨w.heap.size + 1, 6, none⟩ (.int .i64 r7)).setCell ⟨w.heap.size + 1, 7, none⟩ (.int .i64 r8)).setCell ⟨w.heap.size + 1, 8, none⟩ (.int .i64 r9)).drew = wf at hF g0 g1 g2 g3 g4 g5 g6 g7 g8 ⊢
    clear hbox p0 p1 p2 p3 p4 p5 p6 p7 p8 q0 q1 q2 q3 q4 q5 q6 q7 q8 f0 f1 f2 f3 f4 f5 f6 f7 f8 s0 s1' s2' s3' s4 s5 s6 s7 s8 e0 e1 e2 e3 e4 e5 e6 e7 e8
    simp only [Exit.then]
    go_wp2
    (try simp only [Exit.inBlock, Exit.then])
    refine bodyPost_ret (v := .tuple #[.agg #[.int .i64 r1, .slice s2 l2 k2, .slice s3 m k3, .int .i64 r4, .int .i64 r5, .int .i64 r6, .int .i64 r7, .int .i64 r8, .int .i64 r9], .int .i64 ((n3 : Int) - (m : Int))]) ?_ rfl ?_
    · rw [results_cell_tmp rfl]
      go_simp
    · exact ⟨_, w1, w3, s2, l2, k2, s3, l3, k3, m, _, rfl, ((Below.refl _ _).alloc (Nat.le_refl _) _).alloc (by simp) _, hB1, hQ, ⟨hQ2, rfl⟩, hF⟩
abbrev H5 (T A A' : Ty) : Ty := .pair (.int .i64) (.pair (.sl T) (.pair (.sl (E5 A A')) (.pair (.int .i64) (.pair (.int .i64) (.pair (.int .i64) (.pair (.int .i64) (.pair (.int .i64) (.int .i64))))))))
theorem int_of {w : World} {E : Env} {r : Root} {k : IntKind} {x : Int} {m : Md} {p : Nat → Pos} {y : Value} (h : Rep w E r (.int k) x m p (at0 y)) : y = .int k x := by
  simpa [Rep, at0] using h
theorem args9 {w : World} {E : Env} {T A A' : Ty} {a0 : (H5 T A A').den} {args : Array Value} (h : All2 (AR w E (fun _ => undef) []) [.agg (lv (H5 T A A') a0)] args.toList) :
    ∃ a2 c2 a3 c3, args = #[.agg #[.int .i64 a0.1, .slice a2 a0.2.1.length c2, .slice a3 a0.2.2.1.length c3, .int .i64 a0.2.2.2.1, .int .i64 a0.2.2.2.2.1, .int .i64 a0.2.2.2.2.2.1, .int .i64 a0.2.2.2.2.2.2.1, .int .i64 a0.2.2.2.2.2.2.2.1, .int .i64 a0.2.2.2.2.2.2.2.2]] := by
  obtain ⟨l, hl⟩ : ∃ l, args.toList = l := ⟨_, rfl⟩
  rw [hl] at h
  cases h with
  | cons h1 h2 =>
    cases h2
    obtain ⟨arr, rfl, h1⟩ := h1
    obtain ⟨l, hl2⟩ : ∃ l, arr.toList = l := ⟨_, rfl⟩
    rw [hl2] at h1
    simp only [lv, leafs, List.cons_append, List.nil_append] at h1
    cases h1 with | cons r0 h1 =>
    cases h1 with | cons r1 h1 =>
    cases h1 with | cons r2 h1 =>
    cases h1 with | cons r3 h1 =>
    cases h1 with | cons r4 h1 =>
    cases h1 with | cons r5 h1 =>
    cases h1 with | cons r6 h1 =>
    cases h1 with | cons r7 h1 =>
    cases h1 with | cons r8 h1 =>
    cases h1
    simp only [LR] at r0 r1 r2 r3 r4 r5 r6 r7 r8
    obtain ⟨a2, c2, rfl⟩ := sl_len r1
    obtain ⟨a3, c3, rfl⟩ := sl_len r2
    cases int_of r0
    cases int_of r3
    cases int_of r4
    cases int_of r5
    cases int_of r6
    cases int_of r7
    cases int_of r8
    exact ⟨a2, c2, a3, c3, by
      have : arr = _ := Array.ext' (ys := #[_, _, _, _, _, _, _, _, _]) hl2
      rw [this] at hl
      exact Array.ext' hl⟩
structure En2 (W : World) (E : Env) (w1 : World) (E1 : Env) : Prop where
  ext : Ext W E w1 E1
  apart : ∀ b, E1.S b → E1.κ b = none
  ltS : ∀ b, E1.S b → b < w1.heap.size
  ltκ : ∀ b, E1.κ b ≠ none → b < w1.heap.size
  roots : ∀ b r q, E1.κ b = some (r, q) → ∃ n, r = .res n ∧ n < 2
theorem fin_con {w W w1 w3 w' : World} {E E1 E3 : Env} {T E5' : Ty} {xs : List T.den} {ys : List E5'.den} {v2 v3 : Value} (hκ : ∀ b, E.κ b = none) (hS : ∀ b, E.S b → b < w.heap.size)
    (hW : Below w.heap.size w W) (hE : En2 W E w1 E1) (hS3 : E3.S = E1.S) (hκ3 : ∀ c, E3.κ c ≠ none → E1.κ c ≠ none) (hκn : ∀ c, E1.κ c = none → E3.κ c = none) (hr3 : ∀ c r q, E3.κ c = some (r, q) → ∃ q', E1.κ c = some (r, q'))
    (hos : w3.os = w1.os) (htp : w3.tape = w1.tape) (hout : w3.output = w1.output) (hsz : w1.heap.size ≤ w3.heap.size) (hbk : ∀ c, c < W.heap.size → w3.heap[c]? = w1.heap[c]?) (hF : Fin5 w W w1 w3 w')
    (h0 : Rep w3 E3 (.res 0) (.sl T) xs .dp (fun _ => .top) (at0 v2)) (h1 : Rep w3 E3 (.res 1) (.sl E5') ys .dp (fun _ => .top) (at0 v3)) :
    Ext w E w' E3 ∧ (∀ b, E3.S b → E3.κ b = none) ∧ (∀ b, E3.S b → b < w'.heap.size) ∧ (∀ b, E3.κ b ≠ none → b < w'.heap.size) ∧ (∀ b r q, E3.κ b = some (r, q) → ∃ n, r = .res n ∧ n < 2) ∧
      Rep w' E3 (.res 0) (.sl T) xs .dp (fun _ => .top) (at0 v2) ∧ Rep w' E3 (.res 1) (.sl E5') ys .dp (fun _ => .top) (at0 v3) := by
  have hsz' : w1.heap.size ≤ w'.heap.size := Nat.le_trans hsz hF.size
  have hown : ∀ c, E1.κ c ≠ none → W.heap.size ≤ c := fun c hc => (hE.ext.own c hc).resolve_left (fun h => h (hκ c))
  have hold : ∀ c, c < W.heap.size → E1.κ c = none := fun c hc => by
    cases hk : E1.κ c with
    | none => rfl
    | some x => have := hown c (by simp [hk]); omega
  have hfr : ∀ c, (E3.S c ∨ E3.κ c ≠ none) → w'.heap[c]? = w3.heap[c]? := by
    intro c hc
    apply hF.block
    rcases hc with hc | hc
    · rw [hS3] at hc
      rcases hE.ext.from_ c hc with h | h | h
      · exact .inl (hS c h)
      · exact absurd (hκ c) h
      · exact .inr ⟨h, hE.ltS c hc⟩
    · exact .inr ⟨hown c (hκ3 c hc), hE.ltκ c (hκ3 c hc)⟩
  refine ⟨?_, fun b hb => hκn b (hE.apart b (by rw [← hS3]; exact hb)), fun b hb => Nat.lt_of_lt_of_le (hE.ltS b (by rw [← hS3]; exact hb)) hsz', fun b hb => Nat.lt_of_lt_of_le (hE.ltκ b (hκ3 b hb)) hsz', fun b r q hq => ?_, h0.later hfr, h1.later hfr⟩
  · refine ⟨?_, ?_, ?_, ?_, ?_, ?_, ?_, ?_⟩
    · rw [hF.os, hos, hE.ext.os, hW.os]
    · rw [hF.tape, htp, hE.ext.tape, hW.tape]
    · rw [hF.output, hout, hE.ext.output, hW.output]
    · exact Nat.le_trans hW.size (Nat.le_trans hE.ext.size hsz')
    · intro b hb _
      have hb' : b < W.heap.size := Nat.lt_of_lt_of_le hb hW.size
      rw [hF.block b (.inl hb), hbk b hb', hE.ext.block b hb' (hκ b), hW.block b hb]
    · intro b hb
      rw [hS3]
      exact hE.ext.grow b hb
    · intro b hb
      rw [hS3] at hb
      rcases hE.ext.from_ b hb with h | h | h
      · exact .inl h
      · exact .inr (.inl h)
      · exact .inr (.inr (Nat.le_trans hW.size h))
    · intro b hb
      exact .inr (Nat.le_trans hW.size (hown b (hκ3 b hb)))
  · obtain ⟨q', hq'⟩ := hr3 b r q hq
    exact hE.roots b r q' hq'
abbrev rs9 {T E5' : Ty} (x1 : Int) (xs : List T.den) (ys : List E5'.den) (x4 x5 x6 x7 x8 x9 : Int) : RC :=
  .agg [.v (.int .i64) x1, .own T xs .dp, .own E5' ys .dp, .v (.int .i64) x4, .v (.int .i64) x5, .v (.int .i64) x6, .v (.int .i64) x7, .v (.int .i64) x8, .v (.int .i64) x9]
theorem res9 {w : World} {E : Env} {T E5' : Ty} {x1 x4 x5 x6 x7 x8 x9 : Int} {xs : List T.den} {ys : List E5'.den} {y : Value} (h : RR w E [rs9 x1 xs ys x4 x5 x6 x7 x8 x9] y) :
    ∃ s2 k2 s3 k3, y = .agg #[.int .i64 x1, .slice s2 xs.length k2, .slice s3 ys.length k3, .int .i64 x4, .int .i64 x5, .int .i64 x6, .int .i64 x7, .int .i64 x8, .int .i64 x9] ∧
      Rep w E (.res 0) (.sl T) xs .dp (fun _ => .top) (at0 (.slice s2 xs.length k2)) ∧ Rep w E (.res 1) (.sl E5') ys .dp (fun _ => .top) (at0 (.slice s3 ys.length k3)) := by
  obtain ⟨⟨arr, rfl, h⟩, _⟩ := h
  obtain ⟨l, hl⟩ : ∃ l, arr.toList = l := ⟨_, rfl⟩
  rw [hl] at h
  match l, h with
  | [v0, v1, v2, v3, v4, v5, v6, v7, v8], h =>
    obtain ⟨r0, ⟨_, r1⟩, ⟨_, r2⟩, r3, r4, r5, r6, r7, r8, _⟩ := h
    obtain ⟨s2, k2, rfl⟩ := sl_len r1
    obtain ⟨s3, k3, rfl⟩ := sl_len r2
    cases int_of r0
    cases int_of r3
    cases int_of r4
    cases int_of r5
    cases int_of r6
    cases int_of r7
    cases int_of r8
    exact ⟨s2, k2, s3, k3, by rw [show arr = _ from Array.ext' (ys := #[_, _, _, _, _, _, _, _, _]) hl], r1, r2⟩
theorem drop_con {T A A' : Ty} (a0 o : (H5 T A A').den) (b : Bool)
    (c17 : Con prog 17 [.agg (lv (H5 T A A') a0)] [rs9 (T := T) (E5' := E5 A A') o.1 o.2.1 o.2.2.1 o.2.2.2.1 o.2.2.2.2.1 o.2.2.2.2.2.1 o.2.2.2.2.2.2.1 o.2.2.2.2.2.2.2.1 o.2.2.2.2.2.2.2.2])
    (c18 : Con prog 18 [.agg (lv (H5 T A A') a0)] [.lf (.v .bool b)]) (hlo : o.2.2.1.length ≤ 2000000) (hla : a0.2.2.1.length ≤ 2000000) :
    Con prog 7 [.agg (lv (H5 T A A') a0)] [rs9 (T := T) (E5' := E5 A A') o.1 o.2.1 (cond b (o.2.2.1.filter (stay o.2.2.2.1 o.2.2.2.2.1)) o.2.2.1) o.2.2.2.1 o.2.2.2.2.1 o.2.2.2.2.2.1 o.2.2.2.2.2.2.1 o.2.2.2.2.2.2.2.1 o.2.2.2.2.2.2.2.2,
      .lf (.v (.int .i64) (cond b ((a0.2.2.1.length : Int) - ((o.2.2.1.filter (stay o.2.2.2.1 o.2.2.2.2.1)).length : Int)) (-1)))] := by
  refine ⟨fun args w => enters_of func7 rfl (by decide) args w, ?_⟩
  intro w E args hκ hS ht hargs
  obtain ⟨a2, c2, a3, c3, hargs'⟩ := args9 hargs
  subst hargs'
  have hold : ∀ {W : World}, Below w.heap.size w W → (∀ c, E.S c → c < W.heap.size) ∧ Tabs prog W E ∧ All2 (AR W E (fun _ => undef) []) [.agg (lv (H5 T A A') a0)] #[.agg #[.int .i64 a0.1, .slice a2 a0.2.1.length c2, .slice a3 a0.2.2.1.length c3, .int .i64 a0.2.2.2.1, .int .i64 a0.2.2.2.2.1, .int .i64 a0.2.2.2.2.2.1, .int .i64 a0.2.2.2.2.2.2.1, .int .i64 a0.2.2.2.2.2.2.2.1, .int .i64 a0.2.2.2.2.2.2.2.2]].toList := by
    intro W hW
    refine ⟨fun c hc => Nat.lt_of_lt_of_le (hS c hc) hW.size, ht.ext (E' := E) ⟨hW.os, hW.tape, hW.output, hW.size, fun b hb _ => hW.block b hb, fun b h => h, fun b h => .inl h, fun b h => .inl h⟩, hargs.imp fun x y h => ?_⟩
    exact AR.keep (fun b hb => ⟨hb, hW.block b (hS b hb)⟩) (fun id b h => by simp at h) x y h
  let Q1 : World → World → Option Addr → Nat → Nat → Option Addr → Nat → Nat → Prop := fun W w1 s2 l2 k2 s3 l3 k3 => ∃ E1, En2 W E w1 E1 ∧ l2 = o.2.1.length ∧ l3 = o.2.2.1.length ∧
    Rep w1 E1 (.res 0) (.sl T) o.2.1 .dp (fun _ => .top) (at0 (.slice s2 l2 k2)) ∧ Rep w1 E1 (.res 1) (.sl (E5 A A')) o.2.2.1 .dp (fun _ => .top) (at0 (.slice s3 l3 k3))
  let Q2 : World → World → World → Option Addr → Nat → Nat → Option Addr → Nat → Nat → Prop := fun W w1 w3 s2 l2 k2 s3 m k3 => ∃ E1 E3, En2 W E w1 E1 ∧ m = (o.2.2.1.filter (stay o.2.2.2.1 o.2.2.2.2.1)).length ∧
    (E3.S = E1.S ∧ (∀ c, E3.κ c ≠ none → E1.κ c ≠ none) ∧ (∀ c, E1.κ c = none → E3.κ c = none) ∧ (∀ c r q, E3.κ c = some (r, q) → ∃ q', E1.κ c = some (r, q'))) ∧
    (w3.os = w1.os ∧ w3.tape = w1.tape ∧ w3.output = w1.output ∧ w1.heap.size ≤ w3.heap.size ∧ ∀ c, c < W.heap.size → w3.heap[c]? = w1.heap[c]?) ∧
    Rep w3 E3 (.res 0) (.sl T) o.2.1 .dp (fun _ => .top) (at0 (.slice s2 l2 k2)) ∧ Rep w3 E3 (.res 1) (.sl (E5 A A')) (o.2.2.1.filter (stay o.2.2.2.1 o.2.2.2.2.1)) .dp (fun _ => .top) (at0 (.slice s3 m k3))
  refine (drop_w a0.1 a0.2.2.2.1 a0.2.2.2.2.1 a0.2.2.2.2.2.1 a0.2.2.2.2.2.2.1 a0.2.2.2.2.2.2.2.1 a0.2.2.2.2.2.2.2.2 o.1 o.2.2.2.1 o.2.2.2.2.1 o.2.2.2.2.2.1 o.2.2.2.2.2.2.1 o.2.2.2.2.2.2.2.1 o.2.2.2.2.2.2.2.2 a2 a3 a0.2.1.length a0.2.2.1.length c2 c3 b Q1 Q2 w ?_ ?_ ?_ hla ?_).mono ?_
  · intro W hW
    obtain ⟨g1, g2, g3⟩ := hold hW
    refine (c17.calls W E _ hκ g1 g2 g3).mono ?_
    rintro e w1 ⟨y, E1, rfl, hX, hap, hlS, hlκ, hro, hR⟩
    obtain ⟨s2, k2, s3, k3, rfl, hr0, hr1⟩ := res9 hR
    exact ⟨s2, _, k2, s3, _, k3, rfl, ⟨hX.os, hX.tape, hX.output, hX.size, fun c hc => hX.block c hc (hκ c)⟩, E1, ⟨hX, hap, hlS, hlκ, hro⟩, rfl, rfl, hr0, hr1⟩
  · intro W hW
    obtain ⟨g1, g2, g3⟩ := hold hW
    refine (c18.calls W E _ hκ g1 g2 g3).mono ?_
    rintro e w1 ⟨y, E1, rfl, hX, _, _, _, _, hR⟩
    have hy : y = .bool b := by simpa [RR, RCs, RLs, Rep, at0] using hR
    subst hy
    exact ⟨rfl, hX.os, hX.tape, hX.output, hX.size, fun c hc => hX.block c hc (hκ c)⟩
  · rintro hb W w1 w2 s2 l2 k2 s3 l3 k3 ⟨E1, hE, rfl, rfl, hr0, hr1⟩ hB
    have hfr : ∀ c, (E1.S c ∨ E1.κ c ≠ none) → w2.heap[c]? = w1.heap[c]? := fun c hc => hB.block c (hc.elim (hE.ltS c) (hE.ltκ c))
    have hown : ∀ c, E1.κ c ≠ none → W.heap.size ≤ c := fun c hc => (hE.ext.own c hc).resolve_left (fun h => h (hκ c))
    have hnone : ∀ c, (c < W.heap.size ∨ w1.heap.size ≤ c) → E1.κ c = none := fun c hc => by
      cases hk : E1.κ c with
      | none => rfl
      | some x =>
        have h1 := hown c (by simp [hk])
        have h2 := hE.ltκ c (by simp [hk])
        omega
    refine (del_rep (T := T) (A := A) (A' := A') (w := w2) (E := E1) (r2 := o.2.1) (r3 := o.2.2.1) (.int .i64 o.1) (.slice s2 o.2.1.length k2) (.slice s3 o.2.2.1.length k3) (.int .i64 o.2.2.2.2.2.1) (.int .i64 o.2.2.2.2.2.2.1) (.int .i64 o.2.2.2.2.2.2.2.1) (.int .i64 o.2.2.2.2.2.2.2.2) o.2.2.2.1 o.2.2.2.2.1 hlo hE.apart
      (fun c hc => Nat.lt_of_lt_of_le (hE.ltS c hc) hB.size) (fun c hc => Nat.lt_of_lt_of_le (hE.ltκ c hc) hB.size) (hr0.later hfr) (hr1.later hfr)).mono ?_
    rintro e w3 ⟨E3, rfl, ⟨f1, f2, f3, f4, f5⟩, hen, q0, q1⟩
    refine ⟨_, rfl, ⟨f4, fun c hc hc' => f5 c hc (hnone c hc')⟩, E1, E3, hE, rfl, hen, ⟨by rw [f1, hB.os], by rw [f2, hB.tape], by rw [f3, hB.output], Nat.le_trans hB.size f4, fun c hc => ?_⟩, q0, q1⟩
    have h1 : c < w1.heap.size := Nat.lt_of_lt_of_le hc hE.ext.size
    rw [f5 c (Nat.lt_of_lt_of_le h1 hB.size) (hnone c (.inl hc)), hB.block c h1]
  · rintro W w1 w3 s2 l2 k2 s3 m k3 ⟨E1, E3, _, rfl, _⟩
    exact Nat.le_trans (List.length_filter_le _ _) hlo
  · rintro e w' ⟨W, w1, w3, s2, l2, k2, s3, l3, k3, m, n, rfl, hW, hW1, ⟨E1, hE, rfl, rfl, hr0, hr1⟩, hc, hF⟩
    have hE' := hE
    cases b with
    | true =>
      obtain ⟨⟨E1', E3, hE1, rfl, ⟨n1, n2, n3, n4⟩, ⟨n5, n6, n7, n8, n9⟩, q0, q1⟩, rfl⟩ := hc
      obtain ⟨p1, p2, p3, p4, p5, p6, p7⟩ := fin_con hκ hS hW hE1 n1 n2 n3 n4 n5 n6 n7 n8 n9 hF q0 q1
      exact ⟨_, E3, rfl, p1, p2, p3, p4, p5, _, rfl, ⟨_, rfl, rfl, ⟨by simp, p6⟩, ⟨by simp, p7⟩, rfl, rfl, rfl, rfl, rfl, rfl, trivial⟩, ⟨rfl, trivial⟩, trivial⟩
    | false =>
      obtain ⟨rfl, rfl, hB⟩ := hc
      have hfr : ∀ c, (E1.S c ∨ E1.κ c ≠ none) → w3.heap[c]? = w1.heap[c]? := fun c hc => hB.block c (hc.elim (hE.ltS c) (hE.ltκ c))
      obtain ⟨p1, p2, p3, p4, p5, p6, p7⟩ := fin_con hκ hS hW hE rfl (fun _ h => h) (fun _ h => h) (fun c r q h => ⟨q, h⟩) hB.os hB.tape hB.output hB.size (fun c hc => hB.block c (Nat.lt_of_lt_of_le hc hE.ext.size)) hF (hr0.later hfr) (hr1.later hfr)
      exact ⟨_, E1, rfl, p1, p2, p3, p4, p5, _, rfl, ⟨_, rfl, rfl, ⟨by simp, p6⟩, ⟨by simp, p7⟩, rfl, rfl, rfl, rfl, rfl, rfl, trivial⟩, ⟨rfl, trivial⟩, trivial⟩
def F7 (N : Nat) (a0 : Z24) : Option (Z24 × Int) :=
  andO (F17 N a0) fun o => andO (F18 N a0) fun b => gd (o.2.2.1.length ≤ 2000000 ∧ a0.2.2.1.length ≤ 2000000) (cond (!b) (some (o, (-1 : Int))) (some ((o.1, o.2.1, o.2.2.1.filter (fun e => decide (e.2.2.2.1 = o.2.2.2.1) && decide (e.2.2.2.2 = o.2.2.2.2.1)), o.2.2.2), (a0.2.2.1.length : Int) - ((o.2.2.1.filter (fun e => decide (e.2.2.2.1 = o.2.2.2.1) && decide (e.2.2.2.2 = o.2.2.2.2.1))).length : Int))))
theorem ok7 (N : Nat) (a0 : Z24) {r : Z24 × Int} (h : F7 N a0 = some r) : Con prog 7 [.agg (lv Y24 a0)] [.agg [.v (.int .i64) r.1.1, .own Y53 r.1.2.1 .dp, .own Y42 r.1.2.2.1 .dp, .v (.int .i64) r.1.2.2.2.1, .v (.int .i64) r.1.2.2.2.2.1, .v (.int .i64) r.1.2.2.2.2.2.1, .v (.int .i64) r.1.2.2.2.2.2.2.1, .v (.int .i64) r.1.2.2.2.2.2.2.2.1, .v (.int .i64) r.1.2.2.2.2.2.2.2.2], .lf (.v (.int .i64) r.2)] := by
  unfold F7 at h
  obtain⟨o,ho,h⟩:=aS h
  obtain⟨b,hb,h⟩:=aS h
  obtain⟨⟨hlo,hla⟩,h⟩:=gS h
  have hc := drop_con (T := Y53) (A := Y87) (A' := Y87) a0 o b (ok17 N a0 ho) (ok18 N a0 hb) hlo hla
  cases b with
  | true => cases h; exact hc
  | false => cases h; exact hc
def F54 (N : Nat) (a0 : Z53) (a1 : Z53) : Option (Bool) :=
  cond (!(a0.1.toList == a1.1.toList)) (some false) (cond (a0.2 != a1.2) (some false) (some true))
theorem ok54 N a0 a1 {r} (h : F54 N a0 a1 = some r) : Con prog 54 [.agg (lv Y53 a0), .agg (lv Y53 a1)] [.lf (.v .bool r)] := by
 refine ctr [.lf (.v .bool)] K func54 rfl fun w0 E0 ht => ?_
 unfold F54 at h
 show VW _ _ _ _ _ (retQ _ _ _ _) _
 refine nR K (tn 3) <| sq <| nR K (tn 5) ?_
 refine cnd h ?_ ?_<;>intro h
 ·refine nR K (tn 1) ?_
  cases h; exact VW.ret (rt [])
 refine VW.skip <| sq <| nR K (tn 5) ?_
 refine cnd h ?_ ?_<;>intro h
 ·refine nR K (tn 1) ?_
  cases h; exact VW.ret (rt [])
 refine VW.skip <| nR K (tn 1) ?_
 cases h; exact VW.ret (rt [])
def F21_j0 (N : Nat) : Option (Bool) :=
  some true
def F21_l0_b (N : Nat) (a0 : (List Z53)) (a1 : (List Z53)) (nx35 : Int → Option (Bool)) (x28 : Int) : Option (Bool) :=
  cond (decide (x28 < (a0.length : Int))) (gd (InR x28 a0.length) (gd (InR x28 a1.length) (andO (F54 N (a0.getD x28.toNat (Ty.dflt Y53)) (a1.getD x28.toNat (Ty.dflt Y53))) fun y41 => cond (!y41) (some false) (nx35 (IntKind.i64.wrap (x28 + (1 : Int))))))) (F21_j0 N)
def F21_l0 (N : Nat) (a0 : (List Z53)) (a1 : (List Z53)) := loopF (F21_l0_b N a0 a1) (fun _ => none)
theorem F21_l0_s N a0 a1 {k} (hk : 0 < k) x28 : F21_l0 N a0 a1 k x28 = F21_l0_b N a0 a1 (F21_l0 N a0 a1 (k - 1)) x28 := by cases k;cases hk;rfl
def F21 (N : Nat) (a0 : (List Z53)) (a1 : (List Z53)) : Option (Bool) :=
  cond ((a0.length : Int) != (a1.length : Int)) (some false) (F21_l0 N a0 a1 N (0 : Int))
theorem ok21 N a0 a1 {r} (h : F21 N a0 a1 = some r) : Con prog 21 [Vv (.sl Y53) a0, Vv (.sl Y53) a1] [.lf (.v .bool r)] := by
 refine ctr [.lf (.v .bool)] K func21 rfl fun w0 E0 ht => ?_
 unfold F21 at h
 show VW _ _ _ _ _ (retQ _ _ _ _) _
 refine nR K (tn 1) <| sq <| nR K (tn 5) ?_
 refine cnd h ?_ ?_<;>intro h
 ·refine nR K (tn 1) ?_
  cases h; exact VW.ret (rt [])
 refine VW.skip ?_
 refine VW.join (fun s => s = ⟨[], []⟩ ∧ F21_j0 N = some r) ?_ ?_
 ·refine nR K (tn 1) <| VW.block <| lop (fun k s => ∃ x28, s = ⟨[(0, Vv (.sl Y53) a0), (1, Vv (.sl Y53) a1), (5, I x28)], []⟩ ∧ F21_l0 N a0 a1 k x28 = some r) N [.ren [0, 1, 5] []] ⟨(0 : Int), rfl, h⟩ ?_
  rintro k35 s ⟨x28, rfl, h⟩
  cases k35 with
  | zero => cases show none = some r from h
  | succ k35 =>
   replace h : F21_l0_b N a0 a1 (F21_l0 N a0 a1 k35) x28 = some r := h
   unfold F21_l0_b at h
   refine sq <| nR K (tn 4) ?_
   refine cnd h ?_ ?_<;>intro h
   ·refine VW.skip <| sq <| VW.block <| sq ?_
    obtain⟨g39,h⟩:=gS h
    obtain⟨g40,h⟩:=gS h
    obtain⟨y41,hy41,h⟩:=aS h
    refine dr K [(8, .cl [] (some 25) [.lf (.v .bool y41)])] [(8, 0)] [] [0, 1, 5, 26] [] (pu 2 (an g39 (pu 3 (an g40 (tn 3))))) ⟨qC false [.t Y53, .t Y53] [] [] (some 25) K (ok54 N _ _ hy41), trivial⟩ ?_
    refine cnd h ?_ ?_<;>intro h
    ·refine nR K (tn 1) ?_
     cases h; exact VW.ret (rt [])
    refine VW.skip <| nE K (tn 3) ?_
    exact aro [.ren [0, 1, 5] []] ⟨(wr (x28 + (1 : Int))), rfl, h⟩
   refine VW.exit ?_
   exact arv [.ren [] []] ⟨rfl, h⟩
 rintro s ⟨rfl, h⟩
 unfold F21_j0 at h
 refine nR K (tn 1) ?_
 cases h; exact VW.ret (rt [])
def F145_j0 (N : Nat) : Option (Bool) :=
  some true
def F145_l0_b (N : Nat) (a0 : (List Int)) (a1 : (List Int)) (nx25 : Int → Option (Bool)) (x20 : Int) : Option (Bool) :=
  cond (decide (x20 < (a0.length : Int))) (gd (InR x20 a0.length) (gd (InR x20 a1.length) (cond ((a0.getD x20.toNat (Ty.dflt (.int .i64))) != (a1.getD x20.toNat (Ty.dflt (.int .i64)))) (some false) (nx25 (IntKind.i64.wrap (x20 + (1 : Int))))))) (F145_j0 N)
def F145_l0 (N : Nat) (a0 : (List Int)) (a1 : (List Int)) := loopF (F145_l0_b N a0 a1) (fun _ => none)
theorem F145_l0_s N a0 a1 {k} (hk : 0 < k) x20 : F145_l0 N a0 a1 k x20 = F145_l0_b N a0 a1 (F145_l0 N a0 a1 (k - 1)) x20 := by cases k;cases hk;rfl
def F145 (N : Nat) (a0 : (List Int)) (a1 : (List Int)) : Option (Bool) :=
  cond ((a0.length : Int) != (a1.length : Int)) (some false) (F145_l0 N a0 a1 N (0 : Int))
theorem ok145 N a0 a1 {r} (h : F145 N a0 a1 = some r) : Con prog 145 [Vv (.sl (.int .i64)) a0, Vv (.sl (.int .i64)) a1] [.lf (.v .bool r)] := by
 refine ctr [.lf (.v .bool)] K func145 rfl fun w0 E0 ht => ?_
 unfold F145 at h
 show VW _ _ _ _ _ (retQ _ _ _ _) _
 refine nR K (tn 1) <| sq <| nR K (tn 5) ?_
 refine cnd h ?_ ?_<;>intro h
 ·refine nR K (tn 1) ?_
  cases h; exact VW.ret (rt [])
 refine VW.skip ?_
 refine VW.join (fun s => s = ⟨[], []⟩ ∧ F145_j0 N = some r) ?_ ?_
 ·refine nR K (tn 1) <| VW.block <| lop (fun k s => ∃ x20, s = ⟨[(0, Vv (.sl (.int .i64)) a0), (1, Vv (.sl (.int .i64)) a1), (5, I x20)], []⟩ ∧ F145_l0 N a0 a1 k x20 = some r) N [.ren [0, 1, 5] []] ⟨(0 : Int), rfl, h⟩ ?_
  rintro k25 s ⟨x20, rfl, h⟩
  cases k25 with
  | zero => cases show none = some r from h
  | succ k25 =>
   replace h : F145_l0_b N a0 a1 (F145_l0 N a0 a1 k25) x20 = some r := h
   unfold F145_l0_b at h
   refine sq <| nR K (tn 4) ?_
   refine cnd h ?_ ?_<;>intro h
   ·refine VW.skip <| sq <| VW.block <| sq ?_
    obtain⟨g28,h⟩:=gS h
    obtain⟨g29,h⟩:=gS h
    refine dr K [] [] [] [0, 1, 5, 25] [] (pu 2 (an g28 (pu 3 (an g29 (tn 2))))) trivial ?_
    refine cnd h ?_ ?_<;>intro h
    ·refine nR K (tn 1) ?_
     cases h; exact VW.ret (rt [])
    refine VW.skip <| nE K (tn 3) ?_
    exact aro [.ren [0, 1, 5] []] ⟨(wr (x20 + (1 : Int))), rfl, h⟩
   refine VW.exit ?_
   exact arv [.ren [] []] ⟨rfl, h⟩
 rintro s ⟨rfl, h⟩
 unfold F145_j0 at h
 refine nR K (tn 1) ?_
 cases h; exact VW.ret (rt [])
def F105 (N : Nat) (a0 : Z87) (a1 : Z87) : Option (Bool) :=
  cond (a0.1 != a1.1) (some false) (cond (!(a0.2.1.toList == a1.2.1.toList)) (some false) (cond (a0.2.2.1 != a1.2.2.1) (some false) (cond (a0.2.2.2.1 != a1.2.2.2.1) (some false) (cond (a0.2.2.2.2.1 != a1.2.2.2.2.1) (some false) (cond (!(a0.2.2.2.2.2.1 == a1.2.2.2.2.2.1)) (some false) (andO (F145 N a0.2.2.2.2.2.2 a1.2.2.2.2.2.2) fun y2 => cond (!y2) (some false) (some true)))))))
theorem ok105 N a0 a1 {r} (h : F105 N a0 a1 = some r) : Con prog 105 [.agg (lv Y87 a0), .agg (lv Y87 a1)] [.lf (.v .bool r)] := by
 refine ctr [.lf (.v .bool)] K func105 rfl fun w0 E0 ht => ?_
 unfold F105 at h
 show VW _ _ _ _ _ (retQ _ _ _ _) _
 refine nR K (tn 3) <| sq <| nR K (tn 5) ?_
 refine cnd h ?_ ?_<;>intro h
 ·refine nR K (tn 1) ?_
  cases h; exact VW.ret (rt [])
 refine VW.skip <| sq <| nR K (tn 5) ?_
 refine cnd h ?_ ?_<;>intro h
 ·refine nR K (tn 1) ?_
  cases h; exact VW.ret (rt [])
 refine VW.skip <| sq <| nR K (tn 5) ?_
 refine cnd h ?_ ?_<;>intro h
 ·refine nR K (tn 1) ?_
  cases h; exact VW.ret (rt [])
 refine VW.skip <| sq <| nR K (tn 5) ?_
 refine cnd h ?_ ?_<;>intro h
 ·refine nR K (tn 1) ?_
  cases h; exact VW.ret (rt [])
 refine VW.skip <| sq <| nR K (tn 5) ?_
 refine cnd h ?_ ?_<;>intro h
 ·refine nR K (tn 1) ?_
  cases h; exact VW.ret (rt [])
 refine VW.skip <| sq <| nR K (tn 5) ?_
 refine cnd h ?_ ?_<;>intro h
 ·refine nR K (tn 1) ?_
  cases h; exact VW.ret (rt [])
 refine VW.skip <| sq <| sq <| VW.region <| nG K 4 (tn 4) ?_
 obtain⟨y2,hy,h⟩:=aS h
 refine clc false [.t (.sl (.int .i64)), .t (.sl (.int .i64))] [] (some 39) K (ok145 N _ _ hy) <| nN K (tn 1) ?_
 refine cnd h ?_ ?_<;>intro h
 ·refine nR K (tn 1) ?_
  cases h; exact VW.ret (rt [])
 refine VW.skip <| nR K (tn 1) ?_
 cases h; exact VW.ret (rt [])
def F80_j0 (N : Nat) : Option (Bool) :=
  some true
def F80_l0_b (N : Nat) (a0 : (List Z87)) (a1 : (List Z87)) (nx35 : Int → Option (Bool)) (x28 : Int) : Option (Bool) :=
  cond (decide (x28 < (a0.length : Int))) (gd (InR x28 a0.length) (gd (InR x28 a1.length) (andO (F105 N (a0.getD x28.toNat (Ty.dflt Y87)) (a1.getD x28.toNat (Ty.dflt Y87))) fun y41 => cond (!y41) (some false) (nx35 (IntKind.i64.wrap (x28 + (1 : Int))))))) (F80_j0 N)
def F80_l0 (N : Nat) (a0 : (List Z87)) (a1 : (List Z87)) := loopF (F80_l0_b N a0 a1) (fun _ => none)
theorem F80_l0_s N a0 a1 {k} (hk : 0 < k) x28 : F80_l0 N a0 a1 k x28 = F80_l0_b N a0 a1 (F80_l0 N a0 a1 (k - 1)) x28 := by cases k;cases hk;rfl
def F80 (N : Nat) (a0 : (List Z87)) (a1 : (List Z87)) : Option (Bool) :=
  cond ((a0.length : Int) != (a1.length : Int)) (some false) (F80_l0 N a0 a1 N (0 : Int))
theorem ok80 N a0 a1 {r} (h : F80 N a0 a1 = some r) : Con prog 80 [Vv (.sl Y87) a0, Vv (.sl Y87) a1] [.lf (.v .bool r)] := by
 refine ctr [.lf (.v .bool)] K func80 rfl fun w0 E0 ht => ?_
 unfold F80 at h
 show VW _ _ _ _ _ (retQ _ _ _ _) _
 refine nR K (tn 1) <| sq <| nR K (tn 5) ?_
 refine cnd h ?_ ?_<;>intro h
 ·refine nR K (tn 1) ?_
  cases h; exact VW.ret (rt [])
 refine VW.skip ?_
 refine VW.join (fun s => s = ⟨[], []⟩ ∧ F80_j0 N = some r) ?_ ?_
 ·refine nR K (tn 1) <| VW.block <| lop (fun k s => ∃ x28, s = ⟨[(0, Vv (.sl Y87) a0), (1, Vv (.sl Y87) a1), (5, I x28)], []⟩ ∧ F80_l0 N a0 a1 k x28 = some r) N [.ren [0, 1, 5] []] ⟨(0 : Int), rfl, h⟩ ?_
  rintro k35 s ⟨x28, rfl, h⟩
  cases k35 with
  | zero => cases show none = some r from h
  | succ k35 =>
   replace h : F80_l0_b N a0 a1 (F80_l0 N a0 a1 k35) x28 = some r := h
   unfold F80_l0_b at h
   refine sq <| nR K (tn 4) ?_
   refine cnd h ?_ ?_<;>intro h
   ·refine VW.skip <| sq <| VW.block <| sq ?_
    obtain⟨g39,h⟩:=gS h
    obtain⟨g40,h⟩:=gS h
    obtain⟨y41,hy41,h⟩:=aS h
    refine dr K [(8, .cl [] (some 25) [.lf (.v .bool y41)])] [(8, 0)] [] [0, 1, 5, 26] [] (pu 2 (an g39 (pu 3 (an g40 (tn 3))))) ⟨qC false [.t Y87, .t Y87] [] [] (some 25) K (ok105 N _ _ hy41), trivial⟩ ?_
    refine cnd h ?_ ?_<;>intro h
    ·refine nR K (tn 1) ?_
     cases h; exact VW.ret (rt [])
    refine VW.skip <| nE K (tn 3) ?_
    exact aro [.ren [0, 1, 5] []] ⟨(wr (x28 + (1 : Int))), rfl, h⟩
   refine VW.exit ?_
   exact arv [.ren [] []] ⟨rfl, h⟩
 rintro s ⟨rfl, h⟩
 unfold F80_j0 at h
 refine nR K (tn 1) ?_
 cases h; exact VW.ret (rt [])
def F55 (N : Nat) (a0 : Z42) (a1 : Z42) : Option (Bool) :=
  cond (a0.1 != a1.1) (some false) (andO (F80 N a0.2.1 a1.2.1) fun y2 => cond (!y2) (some false) (andO (F80 N a0.2.2.1 a1.2.2.1) fun y4 => cond (!y4) (some false) (cond (a0.2.2.2.1 != a1.2.2.2.1) (some false) (cond (a0.2.2.2.2 != a1.2.2.2.2) (some false) (some true)))))
theorem ok55 N a0 a1 {r} (h : F55 N a0 a1 = some r) : Con prog 55 [.agg (lv Y42 a0), .agg (lv Y42 a1)] [.lf (.v .bool r)] := by
 refine ctr [.lf (.v .bool)] K func55 rfl fun w0 E0 ht => ?_
 unfold F55 at h
 show VW _ _ _ _ _ (retQ _ _ _ _) _
 refine nR K (tn 3) <| sq <| nR K (tn 5) ?_
 refine cnd h ?_ ?_<;>intro h
 ·refine nR K (tn 1) ?_
  cases h; exact VW.ret (rt [])
 refine VW.skip <| sq <| sq <| VW.region <| nG K 4 (tn 4) ?_
 obtain⟨y2,hy,h⟩:=aS h
 refine clc false [.t (.sl Y87), .t (.sl Y87)] [] (some 14) K (ok80 N _ _ hy) <| nN K (tn 1) ?_
 refine cnd h ?_ ?_<;>intro h
 ·refine nR K (tn 1) ?_
  cases h; exact VW.ret (rt [])
 refine VW.skip <| sq <| sq <| VW.region <| nG K 4 (tn 4) ?_
 obtain⟨y4,hy,h⟩:=aS h
 refine clc false [.t (.sl Y87), .t (.sl Y87)] [] (some 20) K (ok80 N _ _ hy) <| nN K (tn 1) ?_
 refine cnd h ?_ ?_<;>intro h
 ·refine nR K (tn 1) ?_
  cases h; exact VW.ret (rt [])
 refine VW.skip <| sq <| nR K (tn 5) ?_
 refine cnd h ?_ ?_<;>intro h
 ·refine nR K (tn 1) ?_
  cases h; exact VW.ret (rt [])
 refine VW.skip <| sq <| nR K (tn 5) ?_
 refine cnd h ?_ ?_<;>intro h
 ·refine nR K (tn 1) ?_
  cases h; exact VW.ret (rt [])
 refine VW.skip <| nR K (tn 1) ?_
 cases h; exact VW.ret (rt [])
def F22_j0 (N : Nat) : Option (Bool) :=
  some true
def F22_l0_b (N : Nat) (a0 : (List Z42)) (a1 : (List Z42)) (nx35 : Int → Option (Bool)) (x28 : Int) : Option (Bool) :=
  cond (decide (x28 < (a0.length : Int))) (gd (InR x28 a0.length) (gd (InR x28 a1.length) (andO (F55 N (a0.getD x28.toNat (Ty.dflt Y42)) (a1.getD x28.toNat (Ty.dflt Y42))) fun y41 => cond (!y41) (some false) (nx35 (IntKind.i64.wrap (x28 + (1 : Int))))))) (F22_j0 N)
def F22_l0 (N : Nat) (a0 : (List Z42)) (a1 : (List Z42)) := loopF (F22_l0_b N a0 a1) (fun _ => none)
theorem F22_l0_s N a0 a1 {k} (hk : 0 < k) x28 : F22_l0 N a0 a1 k x28 = F22_l0_b N a0 a1 (F22_l0 N a0 a1 (k - 1)) x28 := by cases k;cases hk;rfl
def F22 (N : Nat) (a0 : (List Z42)) (a1 : (List Z42)) : Option (Bool) :=
  cond ((a0.length : Int) != (a1.length : Int)) (some false) (F22_l0 N a0 a1 N (0 : Int))
theorem ok22 N a0 a1 {r} (h : F22 N a0 a1 = some r) : Con prog 22 [Vv (.sl Y42) a0, Vv (.sl Y42) a1] [.lf (.v .bool r)] := by
 refine ctr [.lf (.v .bool)] K func22 rfl fun w0 E0 ht => ?_
 unfold F22 at h
 show VW _ _ _ _ _ (retQ _ _ _ _) _
 refine nR K (tn 1) <| sq <| nR K (tn 5) ?_
 refine cnd h ?_ ?_<;>intro h
 ·refine nR K (tn 1) ?_
  cases h; exact VW.ret (rt [])
 refine VW.skip ?_
 refine VW.join (fun s => s = ⟨[], []⟩ ∧ F22_j0 N = some r) ?_ ?_
 ·refine nR K (tn 1) <| VW.block <| lop (fun k s => ∃ x28, s = ⟨[(0, Vv (.sl Y42) a0), (1, Vv (.sl Y42) a1), (5, I x28)], []⟩ ∧ F22_l0 N a0 a1 k x28 = some r) N [.ren [0, 1, 5] []] ⟨(0 : Int), rfl, h⟩ ?_
  rintro k35 s ⟨x28, rfl, h⟩
  cases k35 with
  | zero => cases show none = some r from h
  | succ k35 =>
   replace h : F22_l0_b N a0 a1 (F22_l0 N a0 a1 k35) x28 = some r := h
   unfold F22_l0_b at h
   refine sq <| nR K (tn 4) ?_
   refine cnd h ?_ ?_<;>intro h
   ·refine VW.skip <| sq <| VW.block <| sq ?_
    obtain⟨g39,h⟩:=gS h
    obtain⟨g40,h⟩:=gS h
    obtain⟨y41,hy41,h⟩:=aS h
    refine dr K [(8, .cl [] (some 25) [.lf (.v .bool y41)])] [(8, 0)] [] [0, 1, 5, 26] [] (pu 2 (an g39 (pu 3 (an g40 (tn 3))))) ⟨qC false [.t Y42, .t Y42] [] [] (some 25) K (ok55 N _ _ hy41), trivial⟩ ?_
    refine cnd h ?_ ?_<;>intro h
    ·refine nR K (tn 1) ?_
     cases h; exact VW.ret (rt [])
    refine VW.skip <| nE K (tn 3) ?_
    exact aro [.ren [0, 1, 5] []] ⟨(wr (x28 + (1 : Int))), rfl, h⟩
   refine VW.exit ?_
   exact arv [.ren [] []] ⟨rfl, h⟩
 rintro s ⟨rfl, h⟩
 unfold F22_j0 at h
 refine nR K (tn 1) ?_
 cases h; exact VW.ret (rt [])
def F8 (N : Nat) (a0 : Z24) (a1 : Z24) : Option (Bool) :=
  cond (a0.1 != a1.1) (some false) (andO (F21 N a0.2.1 a1.2.1) fun y2 => cond (!y2) (some false) (andO (F22 N a0.2.2.1 a1.2.2.1) fun y4 => cond (!y4) (some false) (cond (a0.2.2.2.1 != a1.2.2.2.1) (some false) (cond (a0.2.2.2.2.1 != a1.2.2.2.2.1) (some false) (cond (a0.2.2.2.2.2.1 != a1.2.2.2.2.2.1) (some false) (cond (a0.2.2.2.2.2.2.1 != a1.2.2.2.2.2.2.1) (some false) (cond (a0.2.2.2.2.2.2.2.1 != a1.2.2.2.2.2.2.2.1) (some false) (cond (a0.2.2.2.2.2.2.2.2 != a1.2.2.2.2.2.2.2.2) (some false) (some true)))))))))
theorem ok8 N a0 a1 {r} (h : F8 N a0 a1 = some r) : Con prog 8 [.agg (lv Y24 a0), .agg (lv Y24 a1)] [.lf (.v .bool r)] := by
 refine ctr [.lf (.v .bool)] K func8 rfl fun w0 E0 ht => ?_
 unfold F8 at h
 show VW _ _ _ _ _ (retQ _ _ _ _) _
 refine nR K (tn 3) <| sq <| nR K (tn 5) ?_
 refine cnd h ?_ ?_<;>intro h
 ·refine nR K (tn 1) ?_
  cases h; exact VW.ret (rt [])
 refine VW.skip <| sq <| sq <| VW.region <| nG K 4 (tn 4) ?_
 obtain⟨y2,hy,h⟩:=aS h
 refine clc false [.t (.sl Y53), .t (.sl Y53)] [] (some 14) K (ok21 N _ _ hy) <| nN K (tn 1) ?_
 refine cnd h ?_ ?_<;>intro h
 ·refine nR K (tn 1) ?_
  cases h; exact VW.ret (rt [])
 refine VW.skip <| sq <| sq <| VW.region <| nG K 4 (tn 4) ?_
 obtain⟨y4,hy,h⟩:=aS h
 refine clc false [.t (.sl Y42), .t (.sl Y42)] [] (some 20) K (ok22 N _ _ hy) <| nN K (tn 1) ?_
 refine cnd h ?_ ?_<;>intro h
 ·refine nR K (tn 1) ?_
  cases h; exact VW.ret (rt [])
 refine VW.skip <| sq <| nR K (tn 5) ?_
 refine cnd h ?_ ?_<;>intro h
 ·refine nR K (tn 1) ?_
  cases h; exact VW.ret (rt [])
 refine VW.skip <| sq <| nR K (tn 5) ?_
 refine cnd h ?_ ?_<;>intro h
 ·refine nR K (tn 1) ?_
  cases h; exact VW.ret (rt [])
 refine VW.skip <| sq <| nR K (tn 5) ?_
 refine cnd h ?_ ?_<;>intro h
 ·refine nR K (tn 1) ?_
  cases h; exact VW.ret (rt [])
 refine VW.skip <| sq <| nR K (tn 5) ?_
 refine cnd h ?_ ?_<;>intro h
 ·refine nR K (tn 1) ?_
  cases h; exact VW.ret (rt [])
 refine VW.skip <| sq <| nR K (tn 5) ?_
 refine cnd h ?_ ?_<;>intro h
 ·refine nR K (tn 1) ?_
  cases h; exact VW.ret (rt [])
 refine VW.skip <| sq <| nR K (tn 5) ?_
 refine cnd h ?_ ?_<;>intro h
 ·refine sR K [4] [] ⟨[(4, B false)], []⟩ (tn 1) ?_
  cases h; exact VW.ret (rt [])
 refine VW.skip <| sR K [4] [] ⟨[(4, B true)], []⟩ (tn 1) ?_
 cases h; exact VW.ret (rt [])
def F56_j0 (N : Nat) (x7 : ByteArray) : Option (ByteArray) :=
  gd ((⟨#[109]⟩ : ByteArray).size + x7.size ≤ 9223372036854775807) (some ((⟨#[109]⟩ : ByteArray) ++ x7))
def F56_l0_b (N : Nat) (nx14 : Int → ByteArray → Option (ByteArray)) (x11 : Int) (x12 : ByteArray) : Option (ByteArray) :=
  cond (decide (x11 > (0 : Int))) (gd ((strOfNums ([(IntKind.u8.wrap (IntKind.i64.wrap ((48 : Int) + (Int.tmod x11 (10 : Int)))))])).size + x12.size ≤ 9223372036854775807) (nx14 (IntKind.i64.wrap (Int.tdiv x11 (10 : Int))) ((strOfNums ([(IntKind.u8.wrap (IntKind.i64.wrap ((48 : Int) + (Int.tmod x11 (10 : Int)))))])) ++ x12))) (F56_j0 N x12)
def F56_l0 (N : Nat) := loopF (F56_l0_b N) (fun _ _ => none)
theorem F56_l0_s N {k} (hk : 0 < k) x11 x12 : F56_l0 N k x11 x12 = F56_l0_b N (F56_l0 N (k - 1)) x11 x12 := by cases k;cases hk;rfl
def F56 (N : Nat) (a0 : Int) : Option (ByteArray) :=
  cond (decide (a0 ≤ (0 : Int))) (some (⟨#[109, 48]⟩ : ByteArray)) (F56_l0 N N a0 ByteArray.empty)
theorem ok56 N a0 {r} (h : F56 N a0 = some r) : Con prog 56 [I a0] [.lf (.v .str r)] := by
 refine ctr [.lf (.v .str)] K func56 rfl fun w0 E0 ht => ?_
 unfold F56 at h
 show VW _ _ _ _ _ (retQ _ _ _ _) _
 refine nR K (tn 1) <| sq <| nR K (tn 2) ?_
 refine cnd h ?_ ?_<;>intro h
 ·refine nR K (tn 1) ?_
  cases h; exact VW.ret (rt [])
 refine VW.skip <| nR K (tn 1) ?_
 refine VW.join (fun s => ∃ x7, s = ⟨[(3, S x7)], []⟩ ∧ F56_j0 N x7 = some r) ?_ ?_
 ·refine VW.block <| lop (fun k s => ∃ x11 x12, s = ⟨[(0, I x11), (3, S x12)], []⟩ ∧ F56_l0 N k x11 x12 = some r) N [.ren [0, 3] []] ⟨a0, ByteArray.empty, rfl, h⟩ ?_
  rintro k14 s ⟨x11, x12, rfl, h⟩
  cases k14 with
  | zero => cases show none = some r from h
  | succ k14 =>
   replace h : F56_l0_b N (F56_l0 N k14) x11 x12 = some r := h
   unfold F56_l0_b at h
   refine sq <| nR K (tn 2) ?_
   refine cnd h ?_ ?_<;>intro h
   ·refine VW.skip <| VW.block ?_
    obtain⟨g15,h⟩:=gS h
    refine nR K (pu 1 (an (show ((10 : Int) ≠ 0) from by decide) (pu 5 (an g15 (tn 1))))) <| nE K (pu 1 (an (show ((10 : Int) ≠ 0) from by decide) (tn 1))) ?_
    exact aro [.ren [0, 3] []] ⟨(wr (Int.tdiv x11 (10 : Int))), ((strOfNums ([(IntKind.u8.wrap (wr ((48 : Int) + (Int.tmod x11 (10 : Int)))))])) ++ x12), rfl, h⟩
   refine VW.exit ?_
   exact arv [.ren [3] []] ⟨x12, rfl, h⟩
 rintro s ⟨x7, rfl, h⟩
 unfold F56_j0 at h
 obtain⟨g8,h⟩:=gS h
 refine nR K (pu 1 (an g8 (tn 1))) ?_
 cases h; exact VW.ret (rt [])
def F23_j0 (N : Nat) (x35 : Int) (x36 : (List Z53)) : Option ((List Z53) × Int) :=
  some (x36, x35)
def F23_l0_b (N : Nat) (nx61 : (List Z53) → Int → Int → Option ((List Z53) × Int)) (x48 : (List Z53)) (x49 : Int) (x50 : Int) : Option ((List Z53) × Int) :=
  cond (decide (x50 < (x48.length : Int))) (andO (F56 N x49) fun y67 => gd (InR x50 x48.length) (gd (x50.toNat < x48.length) (gd (InR x50 (x48.set x50.toNat (y67, (x48.getD x50.toNat (Ty.dflt Y53)).2)).length) (gd (x50.toNat < (x48.set x50.toNat (y67, (x48.getD x50.toNat (Ty.dflt Y53)).2)).length) (nx61 ((x48.set x50.toNat (y67, (x48.getD x50.toNat (Ty.dflt Y53)).2)).set x50.toNat (((x48.set x50.toNat (y67, (x48.getD x50.toNat (Ty.dflt Y53)).2)).getD x50.toNat (Ty.dflt Y53)).1, (IntKind.i64.wrap (x49 + (1 : Int))))) (IntKind.i64.wrap ((IntKind.i64.wrap (x49 + (1 : Int))) + (1 : Int))) (IntKind.i64.wrap (x50 + (1 : Int)))))))) (F23_j0 N x49 x48)
def F23_l0 (N : Nat) := loopF (F23_l0_b N) (fun _ _ _ => none)
theorem F23_l0_s N {k} (hk : 0 < k) x48 x49 x50 : F23_l0 N k x48 x49 x50 = F23_l0_b N (F23_l0 N (k - 1)) x48 x49 x50 := by cases k;cases hk;rfl
def F23 (N : Nat) (a0 : (List Z53)) (a1 : Int) : Option ((List Z53) × Int) :=
  F23_l0 N N a0 a1 (0 : Int)
theorem ok23 N a0 a1 {r} (h : F23 N a0 a1 = some r) : ConM prog 23 [ar 0 Y53 a0 .dp] [hh 0, I a1] [.lf (.v (.int .i64) r.2)] [ar 0 Y53 r.1 .dp] := by
 refine ⟨enters_of func23 rfl (by decide), HM.intro [.lf (.v (.int .i64))] K func23 rfl (Nat.le_of_ble_eq_true rfl) (Nat.le_of_ble_eq_true rfl) fun w0 E0 ht => ?_⟩
 unfold F23 at h
 show VW _ _ _ _ _ (retM _ _ _ _ _) _
 refine nR K (tn 1) ?_
 refine VW.join (fun s => ∃ x35 x36, s = ⟨[(1, I x35), (65536, hh 0)], [ar 0 Y53 x36 .dp]⟩ ∧ F23_j0 N x35 x36 = some r) ?_ ?_
 ·refine nR K (tn 1) <| VW.block <| lop (fun k s => ∃ x48 x49 x50, s = ⟨[(0, hh 0), (1, I x49), (5, I x50), (65536, hh 0)], [ar 0 Y53 x48 .dp]⟩ ∧ F23_l0 N k x48 x49 x50 = some r) N [.ren [0, 1, 5, 65536] [0]] ⟨a0, a1, (0 : Int), rfl, h⟩ ?_
  rintro k61 s ⟨x48, x49, x50, rfl, h⟩
  cases k61 with
  | zero => cases show none = some r from h
  | succ k61 =>
   replace h : F23_l0_b N (F23_l0 N k61) x48 x49 x50 = some r := h
   unfold F23_l0_b at h
   refine sq <| nR K (tn 4) ?_
   refine cnd h ?_ ?_<;>intro h
   ·refine VW.skip <| sq <| VW.block <| sq <| VW.region <| nG K 3 (tn 3) ?_
    obtain⟨y67,hy,h⟩:=aS h
    refine clc false [.t (.int .i64)] [] (some 15) K (ok56 N _ hy) ?_
    obtain⟨g68,h⟩:=gS h
    obtain⟨g69,h⟩:=gS h
    refine nN K (an g68 (pu 1 (an g69 (tn 0)))) <| nR K (tn 3) ?_
    obtain⟨g70,h⟩:=gS h
    obtain⟨g71,h⟩:=gS h
    refine nR K (pu 3 (an g70 (pu 1 (an g71 (tn 0))))) <| nE K (tn 3) <| nE K (tn 3) ?_
    exact aro [.ren [0, 1, 5, 65536] [0]] ⟨((x48.set x50.toNat (y67, (x48.getD x50.toNat D53).2)).set x50.toNat (((x48.set x50.toNat (y67, (x48.getD x50.toNat D53).2)).getD x50.toNat D53).1, (wr (x49 + (1 : Int))))), (wr ((wr (x49 + (1 : Int))) + (1 : Int))), (wr (x50 + (1 : Int))), rfl, h⟩
   refine VW.exit ?_
   exact arv [.ren [1, 65536] [0]] ⟨x49, x48, rfl, h⟩
 rintro s ⟨x35, x36, rfl, h⟩
 unfold F23_j0 at h
 refine nR K (tn 2) ?_
 replace h := Option.some.inj h
 subst h
 refine VW.ghl [.ren [4, 65536] [0]] (VW.ret ?_)
 exact ⟨[], by kernel_rfl, by kernel_rfl, by kernel_rfl⟩
def F81_j0 (N : Nat) (x17 : Int) (x18 : (List Int)) : Option ((List Int) × Int) :=
  some (x18, x17)
def F81_l0_b (N : Nat) (nx31 : (List Int) → Int → Int → Option ((List Int) × Int)) (x24 : (List Int)) (x25 : Int) (x26 : Int) : Option ((List Int) × Int) :=
  cond (decide (x26 < (x24.length : Int))) (gd (InR x26 x24.length) (gd (x26.toNat < x24.length) (nx31 (x24.set x26.toNat x25) (IntKind.i64.wrap (x25 + (1 : Int))) (IntKind.i64.wrap (x26 + (1 : Int)))))) (F81_j0 N x25 x24)
def F81_l0 (N : Nat) := loopF (F81_l0_b N) (fun _ _ _ => none)
theorem F81_l0_s N {k} (hk : 0 < k) x24 x25 x26 : F81_l0 N k x24 x25 x26 = F81_l0_b N (F81_l0 N (k - 1)) x24 x25 x26 := by cases k;cases hk;rfl
def F81 (N : Nat) (a0 : (List Int)) (a1 : Int) : Option ((List Int) × Int) :=
  F81_l0 N N a0 a1 (0 : Int)
theorem ok81 N a0 a1 {r} (h : F81 N a0 a1 = some r) : ConM prog 81 [ar 0 (.int .i64) a0 .dp] [hh 0, I a1] [.lf (.v (.int .i64) r.2)] [ar 0 (.int .i64) r.1 .dp] := by
 refine ⟨enters_of func81 rfl (by decide), HM.intro [.lf (.v (.int .i64))] K func81 rfl (Nat.le_of_ble_eq_true rfl) (Nat.le_of_ble_eq_true rfl) fun w0 E0 ht => ?_⟩
 unfold F81 at h
 show VW _ _ _ _ _ (retM _ _ _ _ _) _
 refine nR K (tn 1) ?_
 refine VW.join (fun s => ∃ x17 x18, s = ⟨[(1, I x17), (65536, hh 0)], [ar 0 (.int .i64) x18 .dp]⟩ ∧ F81_j0 N x17 x18 = some r) ?_ ?_
 ·refine nR K (tn 1) <| VW.block <| lop (fun k s => ∃ x24 x25 x26, s = ⟨[(0, hh 0), (1, I x25), (5, I x26), (65536, hh 0)], [ar 0 (.int .i64) x24 .dp]⟩ ∧ F81_l0 N k x24 x25 x26 = some r) N [.ren [0, 1, 5, 65536] [0]] ⟨a0, a1, (0 : Int), rfl, h⟩ ?_
  rintro k31 s ⟨x24, x25, x26, rfl, h⟩
  cases k31 with
  | zero => cases show none = some r from h
  | succ k31 =>
   replace h : F81_l0_b N (F81_l0 N k31) x24 x25 x26 = some r := h
   unfold F81_l0_b at h
   refine sq <| nR K (tn 4) ?_
   refine cnd h ?_ ?_<;>intro h
   ·refine VW.skip <| sq <| VW.block ?_
    obtain⟨g34,h⟩:=gS h
    obtain⟨g35,h⟩:=gS h
    refine nR K (pu 3 (an g34 (an g35 (tn 0)))) <| nE K (tn 3) <| nE K (tn 3) ?_
    exact aro [.ren [0, 1, 5, 65536] [0]] ⟨(x24.set x26.toNat x25), (wr (x25 + (1 : Int))), (wr (x26 + (1 : Int))), rfl, h⟩
   refine VW.exit ?_
   exact arv [.ren [1, 65536] [0]] ⟨x25, x24, rfl, h⟩
 rintro s ⟨x17, x18, rfl, h⟩
 unfold F81_j0 at h
 refine nR K (tn 2) ?_
 replace h := Option.some.inj h
 subst h
 refine VW.ghl [.ren [4, 65536] [0]] (VW.ret ?_)
 exact ⟨[], by kernel_rfl, by kernel_rfl, by kernel_rfl⟩
end Go.Proofs.YtahgoingdfncbaaGreat.Vc
namespace Go.Proofs.YtahgoingdfncbaaGreat.Vc
open Go Go.RowKit Go.Proofs.Tryz
set_option linter.unusedVariables false
set_option maxRecDepth 100000
set_option maxHeartbeats 4000000
def F57_j0 (N : Nat) (x101 : Int) (x102 : (List Z87)) : Option ((List Z87) × Int) :=
  some (x102, x101)
def F57_l0_b (N : Nat) (nx171 : (List Z87) → Int → Int → Option ((List Z87) × Int)) (x136 : (List Z87)) (x137 : Int) (x138 : Int) : Option ((List Z87) × Int) :=
  cond (decide (x138 < (x136.length : Int))) (gd (InR x138 x136.length) (gd (x138.toNat < x136.length) (andO (F56 N (IntKind.i64.wrap (x137 + (1 : Int)))) fun y190 => gd (InR x138 (x136.set x138.toNat (x137, ((x136.getD x138.toNat (Ty.dflt Y87)).2.1, ((x136.getD x138.toNat (Ty.dflt Y87)).2.2.1, ((x136.getD x138.toNat (Ty.dflt Y87)).2.2.2.1, ((x136.getD x138.toNat (Ty.dflt Y87)).2.2.2.2.1, ((x136.getD x138.toNat (Ty.dflt Y87)).2.2.2.2.2.1, (x136.getD x138.toNat (Ty.dflt Y87)).2.2.2.2.2.2))))))).length) (gd (x138.toNat < (x136.set x138.toNat (x137, ((x136.getD x138.toNat (Ty.dflt Y87)).2.1, ((x136.getD x138.toNat (Ty.dflt Y87)).2.2.1, ((x136.getD x138.toNat (Ty.dflt Y87)).2.2.2.1, ((x136.getD x138.toNat (Ty.dflt Y87)).2.2.2.2.1, ((x136.getD x138.toNat (Ty.dflt Y87)).2.2.2.2.2.1, (x136.getD x138.toNat (Ty.dflt Y87)).2.2.2.2.2.2))))))).length) (gd (InR x138 (x136.set x138.toNat (x137, (y190, ((x136.getD x138.toNat (Ty.dflt Y87)).2.2.1, ((x136.getD x138.toNat (Ty.dflt Y87)).2.2.2.1, ((x136.getD x138.toNat (Ty.dflt Y87)).2.2.2.2.1, ((x136.getD x138.toNat (Ty.dflt Y87)).2.2.2.2.2.1, (x136.getD x138.toNat (Ty.dflt Y87)).2.2.2.2.2.2))))))).length) (gd (x138.toNat < (x136.set x138.toNat (x137, (y190, ((x136.getD x138.toNat (Ty.dflt Y87)).2.2.1, ((x136.getD x138.toNat (Ty.dflt Y87)).2.2.2.1, ((x136.getD x138.toNat (Ty.dflt Y87)).2.2.2.2.1, ((x136.getD x138.toNat (Ty.dflt Y87)).2.2.2.2.2.1, (x136.getD x138.toNat (Ty.dflt Y87)).2.2.2.2.2.2))))))).length) (gd (InR x138 (x136.set x138.toNat (x137, (y190, ((IntKind.i64.wrap ((IntKind.i64.wrap (x137 + (1 : Int))) + (1 : Int))), ((x136.getD x138.toNat (Ty.dflt Y87)).2.2.2.1, ((x136.getD x138.toNat (Ty.dflt Y87)).2.2.2.2.1, ((x136.getD x138.toNat (Ty.dflt Y87)).2.2.2.2.2.1, (x136.getD x138.toNat (Ty.dflt Y87)).2.2.2.2.2.2))))))).length) (gd (x138.toNat < (x136.set x138.toNat (x137, (y190, ((IntKind.i64.wrap ((IntKind.i64.wrap (x137 + (1 : Int))) + (1 : Int))), ((x136.getD x138.toNat (Ty.dflt Y87)).2.2.2.1, ((x136.getD x138.toNat (Ty.dflt Y87)).2.2.2.2.1, ((x136.getD x138.toNat (Ty.dflt Y87)).2.2.2.2.2.1, (x136.getD x138.toNat (Ty.dflt Y87)).2.2.2.2.2.2))))))).length) (gd (InR x138 (x136.set x138.toNat (x137, (y190, ((IntKind.i64.wrap ((IntKind.i64.wrap (x137 + (1 : Int))) + (1 : Int))), ((IntKind.i64.wrap ((IntKind.i64.wrap ((IntKind.i64.wrap (x137 + (1 : Int))) + (1 : Int))) + (1 : Int))), ((x136.getD x138.toNat (Ty.dflt Y87)).2.2.2.2.1, ((x136.getD x138.toNat (Ty.dflt Y87)).2.2.2.2.2.1, (x136.getD x138.toNat (Ty.dflt Y87)).2.2.2.2.2.2))))))).length) (gd (x138.toNat < (x136.set x138.toNat (x137, (y190, ((IntKind.i64.wrap ((IntKind.i64.wrap (x137 + (1 : Int))) + (1 : Int))), ((IntKind.i64.wrap ((IntKind.i64.wrap ((IntKind.i64.wrap (x137 + (1 : Int))) + (1 : Int))) + (1 : Int))), ((x136.getD x138.toNat (Ty.dflt Y87)).2.2.2.2.1, ((x136.getD x138.toNat (Ty.dflt Y87)).2.2.2.2.2.1, (x136.getD x138.toNat (Ty.dflt Y87)).2.2.2.2.2.2))))))).length) (gd (InR x138 (x136.set x138.toNat (x137, (y190, ((IntKind.i64.wrap ((IntKind.i64.wrap (x137 + (1 : Int))) + (1 : Int))), ((IntKind.i64.wrap ((IntKind.i64.wrap ((IntKind.i64.wrap (x137 + (1 : Int))) + (1 : Int))) + (1 : Int))), ((IntKind.i64.wrap ((IntKind.i64.wrap ((IntKind.i64.wrap ((IntKind.i64.wrap (x137 + (1 : Int))) + (1 : Int))) + (1 : Int))) + (1 : Int))), ((x136.getD x138.toNat (Ty.dflt Y87)).2.2.2.2.2.1, (x136.getD x138.toNat (Ty.dflt Y87)).2.2.2.2.2.2))))))).length) (gd (x138.toNat < (x136.set x138.toNat (x137, (y190, ((IntKind.i64.wrap ((IntKind.i64.wrap (x137 + (1 : Int))) + (1 : Int))), ((IntKind.i64.wrap ((IntKind.i64.wrap ((IntKind.i64.wrap (x137 + (1 : Int))) + (1 : Int))) + (1 : Int))), ((IntKind.i64.wrap ((IntKind.i64.wrap ((IntKind.i64.wrap ((IntKind.i64.wrap (x137 + (1 : Int))) + (1 : Int))) + (1 : Int))) + (1 : Int))), ((x136.getD x138.toNat (Ty.dflt Y87)).2.2.2.2.2.1, (x136.getD x138.toNat (Ty.dflt Y87)).2.2.2.2.2.2))))))).length) (gd (InR x138 (x136.set x138.toNat (x137, (y190, ((IntKind.i64.wrap ((IntKind.i64.wrap (x137 + (1 : Int))) + (1 : Int))), ((IntKind.i64.wrap ((IntKind.i64.wrap ((IntKind.i64.wrap (x137 + (1 : Int))) + (1 : Int))) + (1 : Int))), ((IntKind.i64.wrap ((IntKind.i64.wrap ((IntKind.i64.wrap ((IntKind.i64.wrap (x137 + (1 : Int))) + (1 : Int))) + (1 : Int))) + (1 : Int))), (((Int.tmod (IntKind.i64.wrap ((IntKind.i64.wrap ((IntKind.i64.wrap ((IntKind.i64.wrap ((IntKind.i64.wrap (x137 + (1 : Int))) + (1 : Int))) + (1 : Int))) + (1 : Int))) + (1 : Int))) (3 : Int)) == (0 : Int)), (x136.getD x138.toNat (Ty.dflt Y87)).2.2.2.2.2.2))))))).length) (gd (x138.toNat < x136.length) (andO (F81 N ((x136.getD x138.toNat (Ty.dflt Y87)).2.2.2.2.2.2) (IntKind.i64.wrap ((IntKind.i64.wrap ((IntKind.i64.wrap ((IntKind.i64.wrap ((IntKind.i64.wrap ((IntKind.i64.wrap (x137 + (1 : Int))) + (1 : Int))) + (1 : Int))) + (1 : Int))) + (1 : Int))) + (1 : Int)))) fun y202 => nx171 (x136.set x138.toNat (x137, (y190, ((IntKind.i64.wrap ((IntKind.i64.wrap (x137 + (1 : Int))) + (1 : Int))), ((IntKind.i64.wrap ((IntKind.i64.wrap ((IntKind.i64.wrap (x137 + (1 : Int))) + (1 : Int))) + (1 : Int))), ((IntKind.i64.wrap ((IntKind.i64.wrap ((IntKind.i64.wrap ((IntKind.i64.wrap (x137 + (1 : Int))) + (1 : Int))) + (1 : Int))) + (1 : Int))), (((Int.tmod (IntKind.i64.wrap ((IntKind.i64.wrap ((IntKind.i64.wrap ((IntKind.i64.wrap ((IntKind.i64.wrap (x137 + (1 : Int))) + (1 : Int))) + (1 : Int))) + (1 : Int))) + (1 : Int))) (3 : Int)) == (0 : Int)), y202.1))))))) y202.2 (IntKind.i64.wrap (x138 + (1 : Int)))))))))))))))))) (F57_j0 N x137 x136)
def F57_l0 (N : Nat) := loopF (F57_l0_b N) (fun _ _ _ => none)
theorem F57_l0_s N {k} (hk : 0 < k) x136 x137 x138 : F57_l0 N k x136 x137 x138 = F57_l0_b N (F57_l0 N (k - 1)) x136 x137 x138 := by cases k;cases hk;rfl
def F57 (N : Nat) (a0 : (List Z87)) (a1 : Int) : Option ((List Z87) × Int) :=
  F57_l0 N N a0 a1 (0 : Int)
theorem ok57 N a0 a1 {r} (h : F57 N a0 a1 = some r) : ConM prog 57 [ar 0 Y87 a0 .dp] [hh 0, I a1] [.lf (.v (.int .i64) r.2)] [ar 0 Y87 r.1 .dp] := by
 refine ⟨enters_of func57 rfl (by decide), HM.intro [.lf (.v (.int .i64))] K func57 rfl (Nat.le_of_ble_eq_true rfl) (Nat.le_of_ble_eq_true rfl) fun w0 E0 ht => ?_⟩
 unfold F57 at h
 show VW _ _ _ _ _ (retM _ _ _ _ _) _
 refine nR K (tn 1) ?_
 refine VW.join (fun s => ∃ x101 x102, s = ⟨[(1, I x101), (65536, hh 0)], [ar 0 Y87 x102 .dp]⟩ ∧ F57_j0 N x101 x102 = some r) ?_ ?_
 ·refine nR K (tn 1) <| VW.block <| lop (fun k s => ∃ x136 x137 x138, s = ⟨[(0, hh 0), (1, I x137), (5, I x138), (65536, hh 0)], [ar 0 Y87 x136 .dp]⟩ ∧ F57_l0 N k x136 x137 x138 = some r) N [.ren [0, 1, 5, 65536] [0]] ⟨a0, a1, (0 : Int), rfl, h⟩ ?_
  rintro k171 s ⟨x136, x137, x138, rfl, h⟩
  cases k171 with
  | zero => cases show none = some r from h
  | succ k171 =>
   replace h : F57_l0_b N (F57_l0 N k171) x136 x137 x138 = some r := h
   unfold F57_l0_b at h
   refine sq <| nR K (tn 4) ?_
   refine cnd h ?_ ?_<;>intro h
   ·refine VW.skip <| sq <| VW.block ?_
    obtain⟨g188,h⟩:=gS h
    obtain⟨g189,h⟩:=gS h
    refine nR K (pu 3 (an g188 (pu 1 (an g189 (tn 0))))) <| nR K (tn 3) <| sq <| VW.region <| nG K 3 (tn 3) ?_
    obtain⟨y190,hy,h⟩:=aS h
    refine clc false [.t (.int .i64)] [] (some 22) K (ok56 N _ hy) ?_
    obtain⟨g191,h⟩:=gS h
    obtain⟨g192,h⟩:=gS h
    refine sG K 3 [0, 1, 5, 65536] [0] ⟨[(0, hh 0), (1, I (wr (x137 + (1 : Int)))), (5, I x138), (65536, hh 0)], [ar 0 Y87 ((x136.set x138.toNat (x137, ((x136.getD x138.toNat D87).2.1, ((x136.getD x138.toNat D87).2.2.1, ((x136.getD x138.toNat D87).2.2.2.1, ((x136.getD x138.toNat D87).2.2.2.2.1, ((x136.getD x138.toNat D87).2.2.2.2.2.1, (x136.getD x138.toNat D87).2.2.2.2.2.2))))))).set x138.toNat (((x136.set x138.toNat (x137, ((x136.getD x138.toNat D87).2.1, ((x136.getD x138.toNat D87).2.2.1, ((x136.getD x138.toNat D87).2.2.2.1, ((x136.getD x138.toNat D87).2.2.2.2.1, ((x136.getD x138.toNat D87).2.2.2.2.2.1, (x136.getD x138.toNat D87).2.2.2.2.2.2))))))).getD x138.toNat D87).1, (y190, (((x136.set x138.toNat (x137, ((x136.getD x138.toNat D87).2.1, ((x136.getD x138.toNat D87).2.2.1, ((x136.getD x138.toNat D87).2.2.2.1, ((x136.getD x138.toNat D87).2.2.2.2.1, ((x136.getD x138.toNat D87).2.2.2.2.2.1, (x136.getD x138.toNat D87).2.2.2.2.2.2))))))).getD x138.toNat D87).2.2.1, (((x136.set x138.toNat (x137, ((x136.getD x138.toNat D87).2.1, ((x136.getD x138.toNat D87).2.2.1, ((x136.getD x138.toNat D87).2.2.2.1, ((x136.getD x138.toNat D87).2.2.2.2.1, ((x136.getD x138.toNat D87).2.2.2.2.2.1, (x136.getD x138.toNat D87).2.2.2.2.2.2))))))).getD x138.toNat D87).2.2.2.1, (((x136.set x138.toNat (x137, ((x136.getD x138.toNat D87).2.1, ((x136.getD x138.toNat D87).2.2.1, ((x136.getD x138.toNat D87).2.2.2.1, ((x136.getD x138.toNat D87).2.2.2.2.1, ((x136.getD x138.toNat D87).2.2.2.2.2.1, (x136.getD x138.toNat D87).2.2.2.2.2.2))))))).getD x138.toNat D87).2.2.2.2.1, (((x136.set x138.toNat (x137, ((x136.getD x138.toNat D87).2.1, ((x136.getD x138.toNat D87).2.2.1, ((x136.getD x138.toNat D87).2.2.2.1, ((x136.getD x138.toNat D87).2.2.2.2.1, ((x136.getD x138.toNat D87).2.2.2.2.2.1, (x136.getD x138.toNat D87).2.2.2.2.2.2))))))).getD x138.toNat D87).2.2.2.2.2.1, ((x136.set x138.toNat (x137, ((x136.getD x138.toNat D87).2.1, ((x136.getD x138.toNat D87).2.2.1, ((x136.getD x138.toNat D87).2.2.2.1, ((x136.getD x138.toNat D87).2.2.2.2.1, ((x136.getD x138.toNat D87).2.2.2.2.2.1, (x136.getD x138.toNat D87).2.2.2.2.2.2))))))).getD x138.toNat D87).2.2.2.2.2.2))))))) .dp]⟩ (an g191 (pu 1 (an g192 (tn 0)))) ?_
    rw [show ((x136.set x138.toNat (x137, ((x136.getD x138.toNat D87).2.1, ((x136.getD x138.toNat D87).2.2.1, ((x136.getD x138.toNat D87).2.2.2.1, ((x136.getD x138.toNat D87).2.2.2.2.1, ((x136.getD x138.toNat D87).2.2.2.2.2.1, (x136.getD x138.toNat D87).2.2.2.2.2.2))))))).set x138.toNat (((x136.set x138.toNat (x137, ((x136.getD x138.toNat D87).2.1, ((x136.getD x138.toNat D87).2.2.1, ((x136.getD x138.toNat D87).2.2.2.1, ((x136.getD x138.toNat D87).2.2.2.2.1, ((x136.getD x138.toNat D87).2.2.2.2.2.1, (x136.getD x138.toNat D87).2.2.2.2.2.2))))))).getD x138.toNat D87).1, (y190, (((x136.set x138.toNat (x137, ((x136.getD x138.toNat D87).2.1, ((x136.getD x138.toNat D87).2.2.1, ((x136.getD x138.toNat D87).2.2.2.1, ((x136.getD x138.toNat D87).2.2.2.2.1, ((x136.getD x138.toNat D87).2.2.2.2.2.1, (x136.getD x138.toNat D87).2.2.2.2.2.2))))))).getD x138.toNat D87).2.2.1, (((x136.set x138.toNat (x137, ((x136.getD x138.toNat D87).2.1, ((x136.getD x138.toNat D87).2.2.1, ((x136.getD x138.toNat D87).2.2.2.1, ((x136.getD x138.toNat D87).2.2.2.2.1, ((x136.getD x138.toNat D87).2.2.2.2.2.1, (x136.getD x138.toNat D87).2.2.2.2.2.2))))))).getD x138.toNat D87).2.2.2.1, (((x136.set x138.toNat (x137, ((x136.getD x138.toNat D87).2.1, ((x136.getD x138.toNat D87).2.2.1, ((x136.getD x138.toNat D87).2.2.2.1, ((x136.getD x138.toNat D87).2.2.2.2.1, ((x136.getD x138.toNat D87).2.2.2.2.2.1, (x136.getD x138.toNat D87).2.2.2.2.2.2))))))).getD x138.toNat D87).2.2.2.2.1, (((x136.set x138.toNat (x137, ((x136.getD x138.toNat D87).2.1, ((x136.getD x138.toNat D87).2.2.1, ((x136.getD x138.toNat D87).2.2.2.1, ((x136.getD x138.toNat D87).2.2.2.2.1, ((x136.getD x138.toNat D87).2.2.2.2.2.1, (x136.getD x138.toNat D87).2.2.2.2.2.2))))))).getD x138.toNat D87).2.2.2.2.2.1, ((x136.set x138.toNat (x137, ((x136.getD x138.toNat D87).2.1, ((x136.getD x138.toNat D87).2.2.1, ((x136.getD x138.toNat D87).2.2.2.1, ((x136.getD x138.toNat D87).2.2.2.2.1, ((x136.getD x138.toNat D87).2.2.2.2.2.1, (x136.getD x138.toNat D87).2.2.2.2.2.2))))))).getD x138.toNat D87).2.2.2.2.2.2))))))) = (x136.set x138.toNat (x137, (y190, ((x136.getD x138.toNat D87).2.2.1, ((x136.getD x138.toNat D87).2.2.2.1, ((x136.getD x138.toNat D87).2.2.2.2.1, ((x136.getD x138.toNat D87).2.2.2.2.2.1, (x136.getD x138.toNat D87).2.2.2.2.2.2))))))) from set_upd x136 x138.toNat (x137, ((x136.getD x138.toNat D87).2.1, ((x136.getD x138.toNat D87).2.2.1, ((x136.getD x138.toNat D87).2.2.2.1, ((x136.getD x138.toNat D87).2.2.2.2.1, ((x136.getD x138.toNat D87).2.2.2.2.2.1, (x136.getD x138.toNat D87).2.2.2.2.2.2)))))) D87 (fun z => (z.1, (y190, (z.2.2.1, (z.2.2.2.1, (z.2.2.2.2.1, (z.2.2.2.2.2.1, z.2.2.2.2.2.2))))))) (by first | (simp; done) | simpa using g192)]
    refine sN K [0, 1, 5, 65536] [0] ⟨[(0, hh 0), (1, I (wr (x137 + (1 : Int)))), (5, I x138), (65536, hh 0)], [ar 0 Y87 (x136.set x138.toNat (x137, (y190, ((x136.getD x138.toNat D87).2.2.1, ((x136.getD x138.toNat D87).2.2.2.1, ((x136.getD x138.toNat D87).2.2.2.2.1, ((x136.getD x138.toNat D87).2.2.2.2.2.1, (x136.getD x138.toNat D87).2.2.2.2.2.2))))))) .dp]⟩ (tn 0) <| nR K (tn 3) <| sq <| VW.region ?_
    obtain⟨g193,h⟩:=gS h
    obtain⟨g194,h⟩:=gS h
    refine sG K 6 [0, 1, 5, 65536] [0] ⟨[(0, hh 0), (1, I (wr ((wr (x137 + (1 : Int))) + (1 : Int)))), (5, I x138), (65536, hh 0)], [ar 0 Y87 ((x136.set x138.toNat (x137, (y190, ((x136.getD x138.toNat D87).2.2.1, ((x136.getD x138.toNat D87).2.2.2.1, ((x136.getD x138.toNat D87).2.2.2.2.1, ((x136.getD x138.toNat D87).2.2.2.2.2.1, (x136.getD x138.toNat D87).2.2.2.2.2.2))))))).set x138.toNat (((x136.set x138.toNat (x137, (y190, ((x136.getD x138.toNat D87).2.2.1, ((x136.getD x138.toNat D87).2.2.2.1, ((x136.getD x138.toNat D87).2.2.2.2.1, ((x136.getD x138.toNat D87).2.2.2.2.2.1, (x136.getD x138.toNat D87).2.2.2.2.2.2))))))).getD x138.toNat D87).1, (((x136.set x138.toNat (x137, (y190, ((x136.getD x138.toNat D87).2.2.1, ((x136.getD x138.toNat D87).2.2.2.1, ((x136.getD x138.toNat D87).2.2.2.2.1, ((x136.getD x138.toNat D87).2.2.2.2.2.1, (x136.getD x138.toNat D87).2.2.2.2.2.2))))))).getD x138.toNat D87).2.1, ((wr ((wr (x137 + (1 : Int))) + (1 : Int))), (((x136.set x138.toNat (x137, (y190, ((x136.getD x138.toNat D87).2.2.1, ((x136.getD x138.toNat D87).2.2.2.1, ((x136.getD x138.toNat D87).2.2.2.2.1, ((x136.getD x138.toNat D87).2.2.2.2.2.1, (x136.getD x138.toNat D87).2.2.2.2.2.2))))))).getD x138.toNat D87).2.2.2.1, (((x136.set x138.toNat (x137, (y190, ((x136.getD x138.toNat D87).2.2.1, ((x136.getD x138.toNat D87).2.2.2.1, ((x136.getD x138.toNat D87).2.2.2.2.1, ((x136.getD x138.toNat D87).2.2.2.2.2.1, (x136.getD x138.toNat D87).2.2.2.2.2.2))))))).getD x138.toNat D87).2.2.2.2.1, (((x136.set x138.toNat (x137, (y190, ((x136.getD x138.toNat D87).2.2.1, ((x136.getD x138.toNat D87).2.2.2.1, ((x136.getD x138.toNat D87).2.2.2.2.1, ((x136.getD x138.toNat D87).2.2.2.2.2.1, (x136.getD x138.toNat D87).2.2.2.2.2.2))))))).getD x138.toNat D87).2.2.2.2.2.1, ((x136.set x138.toNat (x137, (y190, ((x136.getD x138.toNat D87).2.2.1, ((x136.getD x138.toNat D87).2.2.2.1, ((x136.getD x138.toNat D87).2.2.2.2.1, ((x136.getD x138.toNat D87).2.2.2.2.2.1, (x136.getD x138.toNat D87).2.2.2.2.2.2))))))).getD x138.toNat D87).2.2.2.2.2.2))))))) .dp]⟩ (pu 3 (an g193 (pu 1 (an g194 (tn 0))))) ?_
    rw [show ((x136.set x138.toNat (x137, (y190, ((x136.getD x138.toNat D87).2.2.1, ((x136.getD x138.toNat D87).2.2.2.1, ((x136.getD x138.toNat D87).2.2.2.2.1, ((x136.getD x138.toNat D87).2.2.2.2.2.1, (x136.getD x138.toNat D87).2.2.2.2.2.2))))))).set x138.toNat (((x136.set x138.toNat (x137, (y190, ((x136.getD x138.toNat D87).2.2.1, ((x136.getD x138.toNat D87).2.2.2.1, ((x136.getD x138.toNat D87).2.2.2.2.1, ((x136.getD x138.toNat D87).2.2.2.2.2.1, (x136.getD x138.toNat D87).2.2.2.2.2.2))))))).getD x138.toNat D87).1, (((x136.set x138.toNat (x137, (y190, ((x136.getD x138.toNat D87).2.2.1, ((x136.getD x138.toNat D87).2.2.2.1, ((x136.getD x138.toNat D87).2.2.2.2.1, ((x136.getD x138.toNat D87).2.2.2.2.2.1, (x136.getD x138.toNat D87).2.2.2.2.2.2))))))).getD x138.toNat D87).2.1, ((wr ((wr (x137 + (1 : Int))) + (1 : Int))), (((x136.set x138.toNat (x137, (y190, ((x136.getD x138.toNat D87).2.2.1, ((x136.getD x138.toNat D87).2.2.2.1, ((x136.getD x138.toNat D87).2.2.2.2.1, ((x136.getD x138.toNat D87).2.2.2.2.2.1, (x136.getD x138.toNat D87).2.2.2.2.2.2))))))).getD x138.toNat D87).2.2.2.1, (((x136.set x138.toNat (x137, (y190, ((x136.getD x138.toNat D87).2.2.1, ((x136.getD x138.toNat D87).2.2.2.1, ((x136.getD x138.toNat D87).2.2.2.2.1, ((x136.getD x138.toNat D87).2.2.2.2.2.1, (x136.getD x138.toNat D87).2.2.2.2.2.2))))))).getD x138.toNat D87).2.2.2.2.1, (((x136.set x138.toNat (x137, (y190, ((x136.getD x138.toNat D87).2.2.1, ((x136.getD x138.toNat D87).2.2.2.1, ((x136.getD x138.toNat D87).2.2.2.2.1, ((x136.getD x138.toNat D87).2.2.2.2.2.1, (x136.getD x138.toNat D87).2.2.2.2.2.2))))))).getD x138.toNat D87).2.2.2.2.2.1, ((x136.set x138.toNat (x137, (y190, ((x136.getD x138.toNat D87).2.2.1, ((x136.getD x138.toNat D87).2.2.2.1, ((x136.getD x138.toNat D87).2.2.2.2.1, ((x136.getD x138.toNat D87).2.2.2.2.2.1, (x136.getD x138.toNat D87).2.2.2.2.2.2))))))).getD x138.toNat D87).2.2.2.2.2.2))))))) = (x136.set x138.toNat (x137, (y190, ((wr ((wr (x137 + (1 : Int))) + (1 : Int))), ((x136.getD x138.toNat D87).2.2.2.1, ((x136.getD x138.toNat D87).2.2.2.2.1, ((x136.getD x138.toNat D87).2.2.2.2.2.1, (x136.getD x138.toNat D87).2.2.2.2.2.2))))))) from set_upd x136 x138.toNat (x137, (y190, ((x136.getD x138.toNat D87).2.2.1, ((x136.getD x138.toNat D87).2.2.2.1, ((x136.getD x138.toNat D87).2.2.2.2.1, ((x136.getD x138.toNat D87).2.2.2.2.2.1, (x136.getD x138.toNat D87).2.2.2.2.2.2)))))) D87 (fun z => (z.1, (z.2.1, ((wr ((wr (x137 + (1 : Int))) + (1 : Int))), (z.2.2.2.1, (z.2.2.2.2.1, (z.2.2.2.2.2.1, z.2.2.2.2.2.2))))))) (by first | (simp; done) | simpa using g194)]
    refine sN K [0, 1, 5, 65536] [0] ⟨[(0, hh 0), (1, I (wr ((wr (x137 + (1 : Int))) + (1 : Int)))), (5, I x138), (65536, hh 0)], [ar 0 Y87 (x136.set x138.toNat (x137, (y190, ((wr ((wr (x137 + (1 : Int))) + (1 : Int))), ((x136.getD x138.toNat D87).2.2.2.1, ((x136.getD x138.toNat D87).2.2.2.2.1, ((x136.getD x138.toNat D87).2.2.2.2.2.1, (x136.getD x138.toNat D87).2.2.2.2.2.2))))))) .dp]⟩ (tn 0) <| nR K (tn 3) ?_
    refine sq <| VW.region ?_
    obtain⟨g195,h⟩:=gS h
    obtain⟨g196,h⟩:=gS h
    refine sG K 6 [0, 1, 5, 65536] [0] ⟨[(0, hh 0), (1, I (wr ((wr ((wr (x137 + (1 : Int))) + (1 : Int))) + (1 : Int)))), (5, I x138), (65536, hh 0)], [ar 0 Y87 ((x136.set x138.toNat (x137, (y190, ((wr ((wr (x137 + (1 : Int))) + (1 : Int))), ((x136.getD x138.toNat D87).2.2.2.1, ((x136.getD x138.toNat D87).2.2.2.2.1, ((x136.getD x138.toNat D87).2.2.2.2.2.1, (x136.getD x138.toNat D87).2.2.2.2.2.2))))))).set x138.toNat (((x136.set x138.toNat (x137, (y190, ((wr ((wr (x137 + (1 : Int))) + (1 : Int))), ((x136.getD x138.toNat D87).2.2.2.1, ((x136.getD x138.toNat D87).2.2.2.2.1, ((x136.getD x138.toNat D87).2.2.2.2.2.1, (x136.getD x138.toNat D87).2.2.2.2.2.2))))))).getD x138.toNat D87).1, (((x136.set x138.toNat (x137, (y190, ((wr ((wr (x137 + (1 : Int))) + (1 : Int))), ((x136.getD x138.toNat D87).2.2.2.1, ((x136.getD x138.toNat D87).2.2.2.2.1, ((x136.getD x138.toNat D87).2.2.2.2.2.1, (x136.getD x138.toNat D87).2.2.2.2.2.2))))))).getD x138.toNat D87).2.1, (((x136.set x138.toNat (x137, (y190, ((wr ((wr (x137 + (1 : Int))) + (1 : Int))), ((x136.getD x138.toNat D87).2.2.2.1, ((x136.getD x138.toNat D87).2.2.2.2.1, ((x136.getD x138.toNat D87).2.2.2.2.2.1, (x136.getD x138.toNat D87).2.2.2.2.2.2))))))).getD x138.toNat D87).2.2.1, ((wr ((wr ((wr (x137 + (1 : Int))) + (1 : Int))) + (1 : Int))), (((x136.set x138.toNat (x137, (y190, ((wr ((wr (x137 + (1 : Int))) + (1 : Int))), ((x136.getD x138.toNat D87).2.2.2.1, ((x136.getD x138.toNat D87).2.2.2.2.1, ((x136.getD x138.toNat D87).2.2.2.2.2.1, (x136.getD x138.toNat D87).2.2.2.2.2.2))))))).getD x138.toNat D87).2.2.2.2.1, (((x136.set x138.toNat (x137, (y190, ((wr ((wr (x137 + (1 : Int))) + (1 : Int))), ((x136.getD x138.toNat D87).2.2.2.1, ((x136.getD x138.toNat D87).2.2.2.2.1, ((x136.getD x138.toNat D87).2.2.2.2.2.1, (x136.getD x138.toNat D87).2.2.2.2.2.2))))))).getD x138.toNat D87).2.2.2.2.2.1, ((x136.set x138.toNat (x137, (y190, ((wr ((wr (x137 + (1 : Int))) + (1 : Int))), ((x136.getD x138.toNat D87).2.2.2.1, ((x136.getD x138.toNat D87).2.2.2.2.1, ((x136.getD x138.toNat D87).2.2.2.2.2.1, (x136.getD x138.toNat D87).2.2.2.2.2.2))))))).getD x138.toNat D87).2.2.2.2.2.2))))))) .dp]⟩ (pu 3 (an g195 (pu 1 (an g196 (tn 0))))) ?_
    rw [show ((x136.set x138.toNat (x137, (y190, ((wr ((wr (x137 + (1 : Int))) + (1 : Int))), ((x136.getD x138.toNat D87).2.2.2.1, ((x136.getD x138.toNat D87).2.2.2.2.1, ((x136.getD x138.toNat D87).2.2.2.2.2.1, (x136.getD x138.toNat D87).2.2.2.2.2.2))))))).set x138.toNat (((x136.set x138.toNat (x137, (y190, ((wr ((wr (x137 + (1 : Int))) + (1 : Int))), ((x136.getD x138.toNat D87).2.2.2.1, ((x136.getD x138.toNat D87).2.2.2.2.1, ((x136.getD x138.toNat D87).2.2.2.2.2.1, (x136.getD x138.toNat D87).2.2.2.2.2.2))))))).getD x138.toNat D87).1, (((x136.set x138.toNat (x137, (y190, ((wr ((wr (x137 + (1 : Int))) + (1 : Int))), ((x136.getD x138.toNat D87).2.2.2.1, ((x136.getD x138.toNat D87).2.2.2.2.1, ((x136.getD x138.toNat D87).2.2.2.2.2.1, (x136.getD x138.toNat D87).2.2.2.2.2.2))))))).getD x138.toNat D87).2.1, (((x136.set x138.toNat (x137, (y190, ((wr ((wr (x137 + (1 : Int))) + (1 : Int))), ((x136.getD x138.toNat D87).2.2.2.1, ((x136.getD x138.toNat D87).2.2.2.2.1, ((x136.getD x138.toNat D87).2.2.2.2.2.1, (x136.getD x138.toNat D87).2.2.2.2.2.2))))))).getD x138.toNat D87).2.2.1, ((wr ((wr ((wr (x137 + (1 : Int))) + (1 : Int))) + (1 : Int))), (((x136.set x138.toNat (x137, (y190, ((wr ((wr (x137 + (1 : Int))) + (1 : Int))), ((x136.getD x138.toNat D87).2.2.2.1, ((x136.getD x138.toNat D87).2.2.2.2.1, ((x136.getD x138.toNat D87).2.2.2.2.2.1, (x136.getD x138.toNat D87).2.2.2.2.2.2))))))).getD x138.toNat D87).2.2.2.2.1, (((x136.set x138.toNat (x137, (y190, ((wr ((wr (x137 + (1 : Int))) + (1 : Int))), ((x136.getD x138.toNat D87).2.2.2.1, ((x136.getD x138.toNat D87).2.2.2.2.1, ((x136.getD x138.toNat D87).2.2.2.2.2.1, (x136.getD x138.toNat D87).2.2.2.2.2.2))))))).getD x138.toNat D87).2.2.2.2.2.1, ((x136.set x138.toNat (x137, (y190, ((wr ((wr (x137 + (1 : Int))) + (1 : Int))), ((x136.getD x138.toNat D87).2.2.2.1, ((x136.getD x138.toNat D87).2.2.2.2.1, ((x136.getD x138.toNat D87).2.2.2.2.2.1, (x136.getD x138.toNat D87).2.2.2.2.2.2))))))).getD x138.toNat D87).2.2.2.2.2.2))))))) = (x136.set x138.toNat (x137, (y190, ((wr ((wr (x137 + (1 : Int))) + (1 : Int))), ((wr ((wr ((wr (x137 + (1 : Int))) + (1 : Int))) + (1 : Int))), ((x136.getD x138.toNat D87).2.2.2.2.1, ((x136.getD x138.toNat D87).2.2.2.2.2.1, (x136.getD x138.toNat D87).2.2.2.2.2.2))))))) from set_upd x136 x138.toNat (x137, (y190, ((wr ((wr (x137 + (1 : Int))) + (1 : Int))), ((x136.getD x138.toNat D87).2.2.2.1, ((x136.getD x138.toNat D87).2.2.2.2.1, ((x136.getD x138.toNat D87).2.2.2.2.2.1, (x136.getD x138.toNat D87).2.2.2.2.2.2)))))) D87 (fun z => (z.1, (z.2.1, (z.2.2.1, ((wr ((wr ((wr (x137 + (1 : Int))) + (1 : Int))) + (1 : Int))), (z.2.2.2.2.1, (z.2.2.2.2.2.1, z.2.2.2.2.2.2))))))) (by first | (simp; done) | simpa using g196)]
    refine sN K [0, 1, 5, 65536] [0] ⟨[(0, hh 0), (1, I (wr ((wr ((wr (x137 + (1 : Int))) + (1 : Int))) + (1 : Int)))), (5, I x138), (65536, hh 0)], [ar 0 Y87 (x136.set x138.toNat (x137, (y190, ((wr ((wr (x137 + (1 : Int))) + (1 : Int))), ((wr ((wr ((wr (x137 + (1 : Int))) + (1 : Int))) + (1 : Int))), ((x136.getD x138.toNat D87).2.2.2.2.1, ((x136.getD x138.toNat D87).2.2.2.2.2.1, (x136.getD x138.toNat D87).2.2.2.2.2.2))))))) .dp]⟩ (tn 0) ?_
    refine nR K (tn 3) <| sq <| VW.region ?_
    obtain⟨g197,h⟩:=gS h
    obtain⟨g198,h⟩:=gS h
    refine sG K 6 [0, 1, 5, 65536] [0] ⟨[(0, hh 0), (1, I (wr ((wr ((wr ((wr (x137 + (1 : Int))) + (1 : Int))) + (1 : Int))) + (1 : Int)))), (5, I x138), (65536, hh 0)], [ar 0 Y87 ((x136.set x138.toNat (x137, (y190, ((wr ((wr (x137 + (1 : Int))) + (1 : Int))), ((wr ((wr ((wr (x137 + (1 : Int))) + (1 : Int))) + (1 : Int))), ((x136.getD x138.toNat D87).2.2.2.2.1, ((x136.getD x138.toNat D87).2.2.2.2.2.1, (x136.getD x138.toNat D87).2.2.2.2.2.2))))))).set x138.toNat (((x136.set x138.toNat (x137, (y190, ((wr ((wr (x137 + (1 : Int))) + (1 : Int))), ((wr ((wr ((wr (x137 + (1 : Int))) + (1 : Int))) + (1 : Int))), ((x136.getD x138.toNat D87).2.2.2.2.1, ((x136.getD x138.toNat D87).2.2.2.2.2.1, (x136.getD x138.toNat D87).2.2.2.2.2.2))))))).getD x138.toNat D87).1, (((x136.set x138.toNat (x137, (y190, ((wr ((wr (x137 + (1 : Int))) + (1 : Int))), ((wr ((wr ((wr (x137 + (1 : Int))) + (1 : Int))) + (1 : Int))), ((x136.getD x138.toNat D87).2.2.2.2.1, ((x136.getD x138.toNat D87).2.2.2.2.2.1, (x136.getD x138.toNat D87).2.2.2.2.2.2))))))).getD x138.toNat D87).2.1, (((x136.set x138.toNat (x137, (y190, ((wr ((wr (x137 + (1 : Int))) + (1 : Int))), ((wr ((wr ((wr (x137 + (1 : Int))) + (1 : Int))) + (1 : Int))), ((x136.getD x138.toNat D87).2.2.2.2.1, ((x136.getD x138.toNat D87).2.2.2.2.2.1, (x136.getD x138.toNat D87).2.2.2.2.2.2))))))).getD x138.toNat D87).2.2.1, (((x136.set x138.toNat (x137, (y190, ((wr ((wr (x137 + (1 : Int))) + (1 : Int))), ((wr ((wr ((wr (x137 + (1 : Int))) + (1 : Int))) + (1 : Int))), ((x136.getD x138.toNat D87).2.2.2.2.1, ((x136.getD x138.toNat D87).2.2.2.2.2.1, (x136.getD x138.toNat D87).2.2.2.2.2.2))))))).getD x138.toNat D87).2.2.2.1, ((wr ((wr ((wr ((wr (x137 + (1 : Int))) + (1 : Int))) + (1 : Int))) + (1 : Int))), (((x136.set x138.toNat (x137, (y190, ((wr ((wr (x137 + (1 : Int))) + (1 : Int))), ((wr ((wr ((wr (x137 + (1 : Int))) + (1 : Int))) + (1 : Int))), ((x136.getD x138.toNat D87).2.2.2.2.1, ((x136.getD x138.toNat D87).2.2.2.2.2.1, (x136.getD x138.toNat D87).2.2.2.2.2.2))))))).getD x138.toNat D87).2.2.2.2.2.1, ((x136.set x138.toNat (x137, (y190, ((wr ((wr (x137 + (1 : Int))) + (1 : Int))), ((wr ((wr ((wr (x137 + (1 : Int))) + (1 : Int))) + (1 : Int))), ((x136.getD x138.toNat D87).2.2.2.2.1, ((x136.getD x138.toNat D87).2.2.2.2.2.1, (x136.getD x138.toNat D87).2.2.2.2.2.2))))))).getD x138.toNat D87).2.2.2.2.2.2))))))) .dp]⟩ (pu 3 (an g197 (pu 1 (an g198 (tn 0))))) ?_
    rw [show ((x136.set x138.toNat (x137, (y190, ((wr ((wr (x137 + (1 : Int))) + (1 : Int))), ((wr ((wr ((wr (x137 + (1 : Int))) + (1 : Int))) + (1 : Int))), ((x136.getD x138.toNat D87).2.2.2.2.1, ((x136.getD x138.toNat D87).2.2.2.2.2.1, (x136.getD x138.toNat D87).2.2.2.2.2.2))))))).set x138.toNat (((x136.set x138.toNat (x137, (y190, ((wr ((wr (x137 + (1 : Int))) + (1 : Int))), ((wr ((wr ((wr (x137 + (1 : Int))) + (1 : Int))) + (1 : Int))), ((x136.getD x138.toNat D87).2.2.2.2.1, ((x136.getD x138.toNat D87).2.2.2.2.2.1, (x136.getD x138.toNat D87).2.2.2.2.2.2))))))).getD x138.toNat D87).1, (((x136.set x138.toNat (x137, (y190, ((wr ((wr (x137 + (1 : Int))) + (1 : Int))), ((wr ((wr ((wr (x137 + (1 : Int))) + (1 : Int))) + (1 : Int))), ((x136.getD x138.toNat D87).2.2.2.2.1, ((x136.getD x138.toNat D87).2.2.2.2.2.1, (x136.getD x138.toNat D87).2.2.2.2.2.2))))))).getD x138.toNat D87).2.1, (((x136.set x138.toNat (x137, (y190, ((wr ((wr (x137 + (1 : Int))) + (1 : Int))), ((wr ((wr ((wr (x137 + (1 : Int))) + (1 : Int))) + (1 : Int))), ((x136.getD x138.toNat D87).2.2.2.2.1, ((x136.getD x138.toNat D87).2.2.2.2.2.1, (x136.getD x138.toNat D87).2.2.2.2.2.2))))))).getD x138.toNat D87).2.2.1, (((x136.set x138.toNat (x137, (y190, ((wr ((wr (x137 + (1 : Int))) + (1 : Int))), ((wr ((wr ((wr (x137 + (1 : Int))) + (1 : Int))) + (1 : Int))), ((x136.getD x138.toNat D87).2.2.2.2.1, ((x136.getD x138.toNat D87).2.2.2.2.2.1, (x136.getD x138.toNat D87).2.2.2.2.2.2))))))).getD x138.toNat D87).2.2.2.1, ((wr ((wr ((wr ((wr (x137 + (1 : Int))) + (1 : Int))) + (1 : Int))) + (1 : Int))), (((x136.set x138.toNat (x137, (y190, ((wr ((wr (x137 + (1 : Int))) + (1 : Int))), ((wr ((wr ((wr (x137 + (1 : Int))) + (1 : Int))) + (1 : Int))), ((x136.getD x138.toNat D87).2.2.2.2.1, ((x136.getD x138.toNat D87).2.2.2.2.2.1, (x136.getD x138.toNat D87).2.2.2.2.2.2))))))).getD x138.toNat D87).2.2.2.2.2.1, ((x136.set x138.toNat (x137, (y190, ((wr ((wr (x137 + (1 : Int))) + (1 : Int))), ((wr ((wr ((wr (x137 + (1 : Int))) + (1 : Int))) + (1 : Int))), ((x136.getD x138.toNat D87).2.2.2.2.1, ((x136.getD x138.toNat D87).2.2.2.2.2.1, (x136.getD x138.toNat D87).2.2.2.2.2.2))))))).getD x138.toNat D87).2.2.2.2.2.2))))))) = (x136.set x138.toNat (x137, (y190, ((wr ((wr (x137 + (1 : Int))) + (1 : Int))), ((wr ((wr ((wr (x137 + (1 : Int))) + (1 : Int))) + (1 : Int))), ((wr ((wr ((wr ((wr (x137 + (1 : Int))) + (1 : Int))) + (1 : Int))) + (1 : Int))), ((x136.getD x138.toNat D87).2.2.2.2.2.1, (x136.getD x138.toNat D87).2.2.2.2.2.2))))))) from set_upd x136 x138.toNat (x137, (y190, ((wr ((wr (x137 + (1 : Int))) + (1 : Int))), ((wr ((wr ((wr (x137 + (1 : Int))) + (1 : Int))) + (1 : Int))), ((x136.getD x138.toNat D87).2.2.2.2.1, ((x136.getD x138.toNat D87).2.2.2.2.2.1, (x136.getD x138.toNat D87).2.2.2.2.2.2)))))) D87 (fun z => (z.1, (z.2.1, (z.2.2.1, (z.2.2.2.1, ((wr ((wr ((wr ((wr (x137 + (1 : Int))) + (1 : Int))) + (1 : Int))) + (1 : Int))), (z.2.2.2.2.2.1, z.2.2.2.2.2.2))))))) (by first | (simp; done) | simpa using g198)]
    refine sN K [0, 1, 5, 65536] [0] ⟨[(0, hh 0), (1, I (wr ((wr ((wr ((wr (x137 + (1 : Int))) + (1 : Int))) + (1 : Int))) + (1 : Int)))), (5, I x138), (65536, hh 0)], [ar 0 Y87 (x136.set x138.toNat (x137, (y190, ((wr ((wr (x137 + (1 : Int))) + (1 : Int))), ((wr ((wr ((wr (x137 + (1 : Int))) + (1 : Int))) + (1 : Int))), ((wr ((wr ((wr ((wr (x137 + (1 : Int))) + (1 : Int))) + (1 : Int))) + (1 : Int))), ((x136.getD x138.toNat D87).2.2.2.2.2.1, (x136.getD x138.toNat D87).2.2.2.2.2.2))))))) .dp]⟩ (tn 0) ?_
    refine nR K (tn 3) <| sq <| VW.region ?_
    obtain⟨g199,h⟩:=gS h
    obtain⟨g200,h⟩:=gS h
    refine sG K 8 [0, 1, 5, 65536] [0] ⟨[(0, hh 0), (1, I (wr ((wr ((wr ((wr ((wr (x137 + (1 : Int))) + (1 : Int))) + (1 : Int))) + (1 : Int))) + (1 : Int)))), (5, I x138), (65536, hh 0)], [ar 0 Y87 ((x136.set x138.toNat (x137, (y190, ((wr ((wr (x137 + (1 : Int))) + (1 : Int))), ((wr ((wr ((wr (x137 + (1 : Int))) + (1 : Int))) + (1 : Int))), ((wr ((wr ((wr ((wr (x137 + (1 : Int))) + (1 : Int))) + (1 : Int))) + (1 : Int))), ((x136.getD x138.toNat D87).2.2.2.2.2.1, (x136.getD x138.toNat D87).2.2.2.2.2.2))))))).set x138.toNat (((x136.set x138.toNat (x137, (y190, ((wr ((wr (x137 + (1 : Int))) + (1 : Int))), ((wr ((wr ((wr (x137 + (1 : Int))) + (1 : Int))) + (1 : Int))), ((wr ((wr ((wr ((wr (x137 + (1 : Int))) + (1 : Int))) + (1 : Int))) + (1 : Int))), ((x136.getD x138.toNat D87).2.2.2.2.2.1, (x136.getD x138.toNat D87).2.2.2.2.2.2))))))).getD x138.toNat D87).1, (((x136.set x138.toNat (x137, (y190, ((wr ((wr (x137 + (1 : Int))) + (1 : Int))), ((wr ((wr ((wr (x137 + (1 : Int))) + (1 : Int))) + (1 : Int))), ((wr ((wr ((wr ((wr (x137 + (1 : Int))) + (1 : Int))) + (1 : Int))) + (1 : Int))), ((x136.getD x138.toNat D87).2.2.2.2.2.1, (x136.getD x138.toNat D87).2.2.2.2.2.2))))))).getD x138.toNat D87).2.1, (((x136.set x138.toNat (x137, (y190, ((wr ((wr (x137 + (1 : Int))) + (1 : Int))), ((wr ((wr ((wr (x137 + (1 : Int))) + (1 : Int))) + (1 : Int))), ((wr ((wr ((wr ((wr (x137 + (1 : Int))) + (1 : Int))) + (1 : Int))) + (1 : Int))), ((x136.getD x138.toNat D87).2.2.2.2.2.1, (x136.getD x138.toNat D87).2.2.2.2.2.2))))))).getD x138.toNat D87).2.2.1, (((x136.set x138.toNat (x137, (y190, ((wr ((wr (x137 + (1 : Int))) + (1 : Int))), ((wr ((wr ((wr (x137 + (1 : Int))) + (1 : Int))) + (1 : Int))), ((wr ((wr ((wr ((wr (x137 + (1 : Int))) + (1 : Int))) + (1 : Int))) + (1 : Int))), ((x136.getD x138.toNat D87).2.2.2.2.2.1, (x136.getD x138.toNat D87).2.2.2.2.2.2))))))).getD x138.toNat D87).2.2.2.1, (((x136.set x138.toNat (x137, (y190, ((wr ((wr (x137 + (1 : Int))) + (1 : Int))), ((wr ((wr ((wr (x137 + (1 : Int))) + (1 : Int))) + (1 : Int))), ((wr ((wr ((wr ((wr (x137 + (1 : Int))) + (1 : Int))) + (1 : Int))) + (1 : Int))), ((x136.getD x138.toNat D87).2.2.2.2.2.1, (x136.getD x138.toNat D87).2.2.2.2.2.2))))))).getD x138.toNat D87).2.2.2.2.1, (((Int.tmod (wr ((wr ((wr ((wr ((wr (x137 + (1 : Int))) + (1 : Int))) + (1 : Int))) + (1 : Int))) + (1 : Int))) (3 : Int)) == (0 : Int)), ((x136.set x138.toNat (x137, (y190, ((wr ((wr (x137 + (1 : Int))) + (1 : Int))), ((wr ((wr ((wr (x137 + (1 : Int))) + (1 : Int))) + (1 : Int))), ((wr ((wr ((wr ((wr (x137 + (1 : Int))) + (1 : Int))) + (1 : Int))) + (1 : Int))), ((x136.getD x138.toNat D87).2.2.2.2.2.1, (x136.getD x138.toNat D87).2.2.2.2.2.2))))))).getD x138.toNat D87).2.2.2.2.2.2))))))) .dp]⟩ (pu 3 (an (show ((3 : Int) ≠ 0) from by decide) (pu 1 (an g199 (pu 1 (an g200 (tn 0))))))) ?_
    rw [show ((x136.set x138.toNat (x137, (y190, ((wr ((wr (x137 + (1 : Int))) + (1 : Int))), ((wr ((wr ((wr (x137 + (1 : Int))) + (1 : Int))) + (1 : Int))), ((wr ((wr ((wr ((wr (x137 + (1 : Int))) + (1 : Int))) + (1 : Int))) + (1 : Int))), ((x136.getD x138.toNat D87).2.2.2.2.2.1, (x136.getD x138.toNat D87).2.2.2.2.2.2))))))).set x138.toNat (((x136.set x138.toNat (x137, (y190, ((wr ((wr (x137 + (1 : Int))) + (1 : Int))), ((wr ((wr ((wr (x137 + (1 : Int))) + (1 : Int))) + (1 : Int))), ((wr ((wr ((wr ((wr (x137 + (1 : Int))) + (1 : Int))) + (1 : Int))) + (1 : Int))), ((x136.getD x138.toNat D87).2.2.2.2.2.1, (x136.getD x138.toNat D87).2.2.2.2.2.2))))))).getD x138.toNat D87).1, (((x136.set x138.toNat (x137, (y190, ((wr ((wr (x137 + (1 : Int))) + (1 : Int))), ((wr ((wr ((wr (x137 + (1 : Int))) + (1 : Int))) + (1 : Int))), ((wr ((wr ((wr ((wr (x137 + (1 : Int))) + (1 : Int))) + (1 : Int))) + (1 : Int))), ((x136.getD x138.toNat D87).2.2.2.2.2.1, (x136.getD x138.toNat D87).2.2.2.2.2.2))))))).getD x138.toNat D87).2.1, (((x136.set x138.toNat (x137, (y190, ((wr ((wr (x137 + (1 : Int))) + (1 : Int))), ((wr ((wr ((wr (x137 + (1 : Int))) + (1 : Int))) + (1 : Int))), ((wr ((wr ((wr ((wr (x137 + (1 : Int))) + (1 : Int))) + (1 : Int))) + (1 : Int))), ((x136.getD x138.toNat D87).2.2.2.2.2.1, (x136.getD x138.toNat D87).2.2.2.2.2.2))))))).getD x138.toNat D87).2.2.1, (((x136.set x138.toNat (x137, (y190, ((wr ((wr (x137 + (1 : Int))) + (1 : Int))), ((wr ((wr ((wr (x137 + (1 : Int))) + (1 : Int))) + (1 : Int))), ((wr ((wr ((wr ((wr (x137 + (1 : Int))) + (1 : Int))) + (1 : Int))) + (1 : Int))), ((x136.getD x138.toNat D87).2.2.2.2.2.1, (x136.getD x138.toNat D87).2.2.2.2.2.2))))))).getD x138.toNat D87).2.2.2.1, (((x136.set x138.toNat (x137, (y190, ((wr ((wr (x137 + (1 : Int))) + (1 : Int))), ((wr ((wr ((wr (x137 + (1 : Int))) + (1 : Int))) + (1 : Int))), ((wr ((wr ((wr ((wr (x137 + (1 : Int))) + (1 : Int))) + (1 : Int))) + (1 : Int))), ((x136.getD x138.toNat D87).2.2.2.2.2.1, (x136.getD x138.toNat D87).2.2.2.2.2.2))))))).getD x138.toNat D87).2.2.2.2.1, (((Int.tmod (wr ((wr ((wr ((wr ((wr (x137 + (1 : Int))) + (1 : Int))) + (1 : Int))) + (1 : Int))) + (1 : Int))) (3 : Int)) == (0 : Int)), ((x136.set x138.toNat (x137, (y190, ((wr ((wr (x137 + (1 : Int))) + (1 : Int))), ((wr ((wr ((wr (x137 + (1 : Int))) + (1 : Int))) + (1 : Int))), ((wr ((wr ((wr ((wr (x137 + (1 : Int))) + (1 : Int))) + (1 : Int))) + (1 : Int))), ((x136.getD x138.toNat D87).2.2.2.2.2.1, (x136.getD x138.toNat D87).2.2.2.2.2.2))))))).getD x138.toNat D87).2.2.2.2.2.2))))))) = (x136.set x138.toNat (x137, (y190, ((wr ((wr (x137 + (1 : Int))) + (1 : Int))), ((wr ((wr ((wr (x137 + (1 : Int))) + (1 : Int))) + (1 : Int))), ((wr ((wr ((wr ((wr (x137 + (1 : Int))) + (1 : Int))) + (1 : Int))) + (1 : Int))), (((Int.tmod (wr ((wr ((wr ((wr ((wr (x137 + (1 : Int))) + (1 : Int))) + (1 : Int))) + (1 : Int))) + (1 : Int))) (3 : Int)) == (0 : Int)), (x136.getD x138.toNat D87).2.2.2.2.2.2))))))) from set_upd x136 x138.toNat (x137, (y190, ((wr ((wr (x137 + (1 : Int))) + (1 : Int))), ((wr ((wr ((wr (x137 + (1 : Int))) + (1 : Int))) + (1 : Int))), ((wr ((wr ((wr ((wr (x137 + (1 : Int))) + (1 : Int))) + (1 : Int))) + (1 : Int))), ((x136.getD x138.toNat D87).2.2.2.2.2.1, (x136.getD x138.toNat D87).2.2.2.2.2.2)))))) D87 (fun z => (z.1, (z.2.1, (z.2.2.1, (z.2.2.2.1, (z.2.2.2.2.1, (((Int.tmod (wr ((wr ((wr ((wr ((wr (x137 + (1 : Int))) + (1 : Int))) + (1 : Int))) + (1 : Int))) + (1 : Int))) (3 : Int)) == (0 : Int)), z.2.2.2.2.2.2))))))) (by first | (simp; done) | simpa using g200)]
    refine sN K [0, 1, 5, 65536] [0] ⟨[(0, hh 0), (1, I (wr ((wr ((wr ((wr ((wr (x137 + (1 : Int))) + (1 : Int))) + (1 : Int))) + (1 : Int))) + (1 : Int)))), (5, I x138), (65536, hh 0)], [ar 0 Y87 (x136.set x138.toNat (x137, (y190, ((wr ((wr (x137 + (1 : Int))) + (1 : Int))), ((wr ((wr ((wr (x137 + (1 : Int))) + (1 : Int))) + (1 : Int))), ((wr ((wr ((wr ((wr (x137 + (1 : Int))) + (1 : Int))) + (1 : Int))) + (1 : Int))), (((Int.tmod (wr ((wr ((wr ((wr ((wr (x137 + (1 : Int))) + (1 : Int))) + (1 : Int))) + (1 : Int))) + (1 : Int))) (3 : Int)) == (0 : Int)), (x136.getD x138.toNat D87).2.2.2.2.2.2))))))) .dp]⟩ (tn 0) ?_
    refine nR K (tn 3) <| VW.region ?_
    obtain⟨g201,h⟩:=gS h
    refine nG K 4 (pu 2 (an g201 (tn 1))) ?_
    obtain⟨g203,h⟩:=gS h
    obtain⟨y202,hy,h⟩:=aS h
    refine VO.lendInS (t := 67) (d1 := 61) (d2 := 62) (d3 := 63) (id := 0) (cur := 0) (i := x138.toNat) (j := 6) (v2 := I (wr ((wr ((wr ((wr ((wr ((wr (x137 + (1 : Int))) + (1 : Int))) + (1 : Int))) + (1 : Int))) + (1 : Int))) + (1 : Int)))) (f := 81) (l := [I (wr ((wr ((wr ((wr ((wr ((wr (x137 + (1 : Int))) + (1 : Int))) + (1 : Int))) + (1 : Int))) + (1 : Int))) + (1 : Int)))]) (e := Y87) (t' := (.int .i64)) (X := x136) (c := (x137, (y190, ((wr ((wr (x137 + (1 : Int))) + (1 : Int))), ((wr ((wr ((wr (x137 + (1 : Int))) + (1 : Int))) + (1 : Int))), ((wr ((wr ((wr ((wr (x137 + (1 : Int))) + (1 : Int))) + (1 : Int))) + (1 : Int))), (((Int.tmod (wr ((wr ((wr ((wr ((wr (x137 + (1 : Int))) + (1 : Int))) + (1 : Int))) + (1 : Int))) + (1 : Int))) (3 : Int)) == (0 : Int)), (x136.getD x138.toNat D87).2.2.2.2.2.2))))))) (ys := ((x136.getD x138.toNat D87).2.2.2.2.2.2)) (ys' := y202.1) (x' := (x137, (y190, ((wr ((wr (x137 + (1 : Int))) + (1 : Int))), ((wr ((wr ((wr (x137 + (1 : Int))) + (1 : Int))) + (1 : Int))), ((wr ((wr ((wr ((wr (x137 + (1 : Int))) + (1 : Int))) + (1 : Int))) + (1 : Int))), (((Int.tmod (wr ((wr ((wr ((wr ((wr (x137 + (1 : Int))) + (1 : Int))) + (1 : Int))) + (1 : Int))) + (1 : Int))) (3 : Int)) == (0 : Int)), y202.1))))))) (rs := [.lf (.v (.int .i64) y202.2)]) (v1 := 0) K (by kernel_rfl) (by kernel_rfl) (by kernel_rfl) (by kernel_rfl) (by kernel_rfl) g203 (ok81 N _ _ hy) rfl ?_
    refine nN K (tn 1) <| nE K (tn 3) ?_
    exact aro [.ren [0, 1, 5, 65536] [0]] ⟨(x136.set x138.toNat (x137, (y190, ((wr ((wr (x137 + (1 : Int))) + (1 : Int))), ((wr ((wr ((wr (x137 + (1 : Int))) + (1 : Int))) + (1 : Int))), ((wr ((wr ((wr ((wr (x137 + (1 : Int))) + (1 : Int))) + (1 : Int))) + (1 : Int))), (((Int.tmod (wr ((wr ((wr ((wr ((wr (x137 + (1 : Int))) + (1 : Int))) + (1 : Int))) + (1 : Int))) + (1 : Int))) (3 : Int)) == (0 : Int)), y202.1))))))), y202.2, (wr (x138 + (1 : Int))), rfl, h⟩
   refine VW.exit ?_
   exact arv [.ren [1, 65536] [0]] ⟨x137, x136, rfl, h⟩
 rintro s ⟨x101, x102, rfl, h⟩
 unfold F57_j0 at h
 refine nR K (tn 2) ?_
 replace h := Option.some.inj h
 subst h
 refine VW.ghl [.ren [4, 65536] [0]] (VW.ret ?_)
 exact ⟨[], by kernel_rfl, by kernel_rfl, by kernel_rfl⟩
def F24_j0 (N : Nat) (x77 : Int) (x78 : (List Z42)) : Option ((List Z42) × Int) :=
  some (x78, x77)
def F24_l0_b (N : Nat) (nx131 : (List Z42) → Int → Int → Option ((List Z42) × Int)) (x104 : (List Z42)) (x105 : Int) (x106 : Int) : Option ((List Z42) × Int) :=
  cond (decide (x106 < (x104.length : Int))) (gd (InR x106 x104.length) (gd (x106.toNat < x104.length) (gd (InR x106 (x104.set x106.toNat (x105, ((x104.getD x106.toNat (Ty.dflt Y42)).2.1, ((x104.getD x106.toNat (Ty.dflt Y42)).2.2.1, ((x104.getD x106.toNat (Ty.dflt Y42)).2.2.2.1, (x104.getD x106.toNat (Ty.dflt Y42)).2.2.2.2))))).length) (gd (x106.toNat < x104.length) (andO (F57 N ((x104.getD x106.toNat (Ty.dflt Y42)).2.1) (IntKind.i64.wrap (x105 + (1 : Int)))) fun y147 => gd (InR x106 (x104.set x106.toNat (x105, (y147.1, ((x104.getD x106.toNat (Ty.dflt Y42)).2.2.1, ((x104.getD x106.toNat (Ty.dflt Y42)).2.2.2.1, (x104.getD x106.toNat (Ty.dflt Y42)).2.2.2.2))))).length) (gd (x106.toNat < x104.length) (andO (F57 N ((x104.getD x106.toNat (Ty.dflt Y42)).2.2.1) y147.2) fun y150 => gd (InR x106 (x104.set x106.toNat (x105, (y147.1, (y150.1, ((x104.getD x106.toNat (Ty.dflt Y42)).2.2.2.1, (x104.getD x106.toNat (Ty.dflt Y42)).2.2.2.2))))).length) (gd (x106.toNat < (x104.set x106.toNat (x105, (y147.1, (y150.1, ((x104.getD x106.toNat (Ty.dflt Y42)).2.2.2.1, (x104.getD x106.toNat (Ty.dflt Y42)).2.2.2.2))))).length) (gd (InR x106 (x104.set x106.toNat (x105, (y147.1, (y150.1, (y150.2, (x104.getD x106.toNat (Ty.dflt Y42)).2.2.2.2))))).length) (gd (x106.toNat < (x104.set x106.toNat (x105, (y147.1, (y150.1, (y150.2, (x104.getD x106.toNat (Ty.dflt Y42)).2.2.2.2))))).length) (nx131 (x104.set x106.toNat (x105, (y147.1, (y150.1, (y150.2, (IntKind.i64.wrap (y150.2 + (1 : Int)))))))) (IntKind.i64.wrap ((IntKind.i64.wrap (y150.2 + (1 : Int))) + (1 : Int))) (IntKind.i64.wrap (x106 + (1 : Int)))))))))))))) (F24_j0 N x105 x104)
def F24_l0 (N : Nat) := loopF (F24_l0_b N) (fun _ _ _ => none)
theorem F24_l0_s N {k} (hk : 0 < k) x104 x105 x106 : F24_l0 N k x104 x105 x106 = F24_l0_b N (F24_l0 N (k - 1)) x104 x105 x106 := by cases k;cases hk;rfl
def F24 (N : Nat) (a0 : (List Z42)) (a1 : Int) : Option ((List Z42) × Int) :=
  F24_l0 N N a0 a1 (0 : Int)
theorem ok24 N a0 a1 {r} (h : F24 N a0 a1 = some r) : ConM prog 24 [ar 0 Y42 a0 .dp] [hh 0, I a1] [.lf (.v (.int .i64) r.2)] [ar 0 Y42 r.1 .dp] := by
 refine ⟨enters_of func24 rfl (by decide), HM.intro [.lf (.v (.int .i64))] K func24 rfl (Nat.le_of_ble_eq_true rfl) (Nat.le_of_ble_eq_true rfl) fun w0 E0 ht => ?_⟩
 unfold F24 at h
 show VW _ _ _ _ _ (retM _ _ _ _ _) _
 refine nR K (tn 1) ?_
 refine VW.join (fun s => ∃ x77 x78, s = ⟨[(1, I x77), (65536, hh 0)], [ar 0 Y42 x78 .dp]⟩ ∧ F24_j0 N x77 x78 = some r) ?_ ?_
 ·refine nR K (tn 1) <| VW.block <| lop (fun k s => ∃ x104 x105 x106, s = ⟨[(0, hh 0), (1, I x105), (5, I x106), (65536, hh 0)], [ar 0 Y42 x104 .dp]⟩ ∧ F24_l0 N k x104 x105 x106 = some r) N [.ren [0, 1, 5, 65536] [0]] ⟨a0, a1, (0 : Int), rfl, h⟩ ?_
  rintro k131 s ⟨x104, x105, x106, rfl, h⟩
  cases k131 with
  | zero => cases show none = some r from h
  | succ k131 =>
   replace h : F24_l0_b N (F24_l0 N k131) x104 x105 x106 = some r := h
   unfold F24_l0_b at h
   refine sq <| nR K (tn 4) ?_
   refine cnd h ?_ ?_<;>intro h
   ·refine VW.skip <| sq <| VW.block ?_
    obtain⟨g144,h⟩:=gS h
    obtain⟨g145,h⟩:=gS h
    refine nR K (pu 3 (an g144 (pu 1 (an g145 (tn 0))))) <| nR K (tn 3) <| sq <| VW.region ?_
    obtain⟨g146,h⟩:=gS h
    refine nG K 4 (pu 2 (an g146 (tn 1))) ?_
    obtain⟨g148,h⟩:=gS h
    obtain⟨y147,hy,h⟩:=aS h
    refine VO.lendInS (t := 41) (d1 := 23) (d2 := 24) (d3 := 25) (id := 0) (cur := 0) (i := x106.toNat) (j := 1) (v2 := I (wr (x105 + (1 : Int)))) (f := 57) (l := [I (wr (x105 + (1 : Int)))]) (e := Y42) (t' := Y87) (X := x104) (c := (x105, ((x104.getD x106.toNat D42).2.1, ((x104.getD x106.toNat D42).2.2.1, ((x104.getD x106.toNat D42).2.2.2.1, (x104.getD x106.toNat D42).2.2.2.2))))) (ys := ((x104.getD x106.toNat D42).2.1)) (ys' := y147.1) (x' := (x105, (y147.1, ((x104.getD x106.toNat D42).2.2.1, ((x104.getD x106.toNat D42).2.2.2.1, (x104.getD x106.toNat D42).2.2.2.2))))) (rs := [.lf (.v (.int .i64) y147.2)]) (v1 := 0) K (by kernel_rfl) (by kernel_rfl) (by kernel_rfl) (by kernel_rfl) (by kernel_rfl) g148 (ok57 N _ _ hy) rfl ?_
    refine nN K (tn 1) <| sq <| VW.region ?_
    obtain⟨g149,h⟩:=gS h
    refine nG K 4 (pu 2 (an g149 (tn 1))) ?_
    obtain⟨g151,h⟩:=gS h
    obtain⟨y150,hy,h⟩:=aS h
    refine VO.lendInS (t := 41) (d1 := 30) (d2 := 31) (d3 := 32) (id := 0) (cur := 0) (i := x106.toNat) (j := 2) (v2 := I y147.2) (f := 57) (l := [I y147.2]) (e := Y42) (t' := Y87) (X := x104) (c := (x105, (y147.1, ((x104.getD x106.toNat D42).2.2.1, ((x104.getD x106.toNat D42).2.2.2.1, (x104.getD x106.toNat D42).2.2.2.2))))) (ys := ((x104.getD x106.toNat D42).2.2.1)) (ys' := y150.1) (x' := (x105, (y147.1, (y150.1, ((x104.getD x106.toNat D42).2.2.2.1, (x104.getD x106.toNat D42).2.2.2.2))))) (rs := [.lf (.v (.int .i64) y150.2)]) (v1 := 0) K (by kernel_rfl) (by kernel_rfl) (by kernel_rfl) (by kernel_rfl) (by kernel_rfl) g151 (ok57 N _ _ hy) rfl ?_
    refine nN K (tn 1) <| sq <| VW.region ?_
    obtain⟨g152,h⟩:=gS h
    obtain⟨g153,h⟩:=gS h
    refine sG K 6 [0, 1, 5, 65536] [0] ⟨[(0, hh 0), (1, I y150.2), (5, I x106), (65536, hh 0)], [ar 0 Y42 ((x104.set x106.toNat (x105, (y147.1, (y150.1, ((x104.getD x106.toNat D42).2.2.2.1, (x104.getD x106.toNat D42).2.2.2.2))))).set x106.toNat (((x104.set x106.toNat (x105, (y147.1, (y150.1, ((x104.getD x106.toNat D42).2.2.2.1, (x104.getD x106.toNat D42).2.2.2.2))))).getD x106.toNat D42).1, (((x104.set x106.toNat (x105, (y147.1, (y150.1, ((x104.getD x106.toNat D42).2.2.2.1, (x104.getD x106.toNat D42).2.2.2.2))))).getD x106.toNat D42).2.1, (((x104.set x106.toNat (x105, (y147.1, (y150.1, ((x104.getD x106.toNat D42).2.2.2.1, (x104.getD x106.toNat D42).2.2.2.2))))).getD x106.toNat D42).2.2.1, (y150.2, ((x104.set x106.toNat (x105, (y147.1, (y150.1, ((x104.getD x106.toNat D42).2.2.2.1, (x104.getD x106.toNat D42).2.2.2.2))))).getD x106.toNat D42).2.2.2.2))))) .dp]⟩ (pu 3 (an g152 (pu 1 (an g153 (tn 0))))) ?_
    rw [show ((x104.set x106.toNat (x105, (y147.1, (y150.1, ((x104.getD x106.toNat D42).2.2.2.1, (x104.getD x106.toNat D42).2.2.2.2))))).set x106.toNat (((x104.set x106.toNat (x105, (y147.1, (y150.1, ((x104.getD x106.toNat D42).2.2.2.1, (x104.getD x106.toNat D42).2.2.2.2))))).getD x106.toNat D42).1, (((x104.set x106.toNat (x105, (y147.1, (y150.1, ((x104.getD x106.toNat D42).2.2.2.1, (x104.getD x106.toNat D42).2.2.2.2))))).getD x106.toNat D42).2.1, (((x104.set x106.toNat (x105, (y147.1, (y150.1, ((x104.getD x106.toNat D42).2.2.2.1, (x104.getD x106.toNat D42).2.2.2.2))))).getD x106.toNat D42).2.2.1, (y150.2, ((x104.set x106.toNat (x105, (y147.1, (y150.1, ((x104.getD x106.toNat D42).2.2.2.1, (x104.getD x106.toNat D42).2.2.2.2))))).getD x106.toNat D42).2.2.2.2))))) = (x104.set x106.toNat (x105, (y147.1, (y150.1, (y150.2, (x104.getD x106.toNat D42).2.2.2.2))))) from set_upd x104 x106.toNat (x105, (y147.1, (y150.1, ((x104.getD x106.toNat D42).2.2.2.1, (x104.getD x106.toNat D42).2.2.2.2)))) D42 (fun z => (z.1, (z.2.1, (z.2.2.1, (y150.2, z.2.2.2.2))))) (by first | (simp; done) | simpa using g153)]
    refine sN K [0, 1, 5, 65536] [0] ⟨[(0, hh 0), (1, I y150.2), (5, I x106), (65536, hh 0)], [ar 0 Y42 (x104.set x106.toNat (x105, (y147.1, (y150.1, (y150.2, (x104.getD x106.toNat D42).2.2.2.2))))) .dp]⟩ (tn 0) <| nR K (tn 3) <| sq <| VW.region ?_
    obtain⟨g154,h⟩:=gS h
    obtain⟨g155,h⟩:=gS h
    refine sG K 6 [0, 1, 5, 65536] [0] ⟨[(0, hh 0), (1, I (wr (y150.2 + (1 : Int)))), (5, I x106), (65536, hh 0)], [ar 0 Y42 ((x104.set x106.toNat (x105, (y147.1, (y150.1, (y150.2, (x104.getD x106.toNat D42).2.2.2.2))))).set x106.toNat (((x104.set x106.toNat (x105, (y147.1, (y150.1, (y150.2, (x104.getD x106.toNat D42).2.2.2.2))))).getD x106.toNat D42).1, (((x104.set x106.toNat (x105, (y147.1, (y150.1, (y150.2, (x104.getD x106.toNat D42).2.2.2.2))))).getD x106.toNat D42).2.1, (((x104.set x106.toNat (x105, (y147.1, (y150.1, (y150.2, (x104.getD x106.toNat D42).2.2.2.2))))).getD x106.toNat D42).2.2.1, (((x104.set x106.toNat (x105, (y147.1, (y150.1, (y150.2, (x104.getD x106.toNat D42).2.2.2.2))))).getD x106.toNat D42).2.2.2.1, (wr (y150.2 + (1 : Int)))))))) .dp]⟩ (pu 3 (an g154 (pu 1 (an g155 (tn 0))))) ?_
    rw [show ((x104.set x106.toNat (x105, (y147.1, (y150.1, (y150.2, (x104.getD x106.toNat D42).2.2.2.2))))).set x106.toNat (((x104.set x106.toNat (x105, (y147.1, (y150.1, (y150.2, (x104.getD x106.toNat D42).2.2.2.2))))).getD x106.toNat D42).1, (((x104.set x106.toNat (x105, (y147.1, (y150.1, (y150.2, (x104.getD x106.toNat D42).2.2.2.2))))).getD x106.toNat D42).2.1, (((x104.set x106.toNat (x105, (y147.1, (y150.1, (y150.2, (x104.getD x106.toNat D42).2.2.2.2))))).getD x106.toNat D42).2.2.1, (((x104.set x106.toNat (x105, (y147.1, (y150.1, (y150.2, (x104.getD x106.toNat D42).2.2.2.2))))).getD x106.toNat D42).2.2.2.1, (wr (y150.2 + (1 : Int)))))))) = (x104.set x106.toNat (x105, (y147.1, (y150.1, (y150.2, (wr (y150.2 + (1 : Int)))))))) from set_upd x104 x106.toNat (x105, (y147.1, (y150.1, (y150.2, (x104.getD x106.toNat D42).2.2.2.2)))) D42 (fun z => (z.1, (z.2.1, (z.2.2.1, (z.2.2.2.1, (wr (y150.2 + (1 : Int)))))))) (by first | (simp; done) | simpa using g155)]
    refine sN K [0, 1, 5, 65536] [0] ⟨[(0, hh 0), (1, I (wr (y150.2 + (1 : Int)))), (5, I x106), (65536, hh 0)], [ar 0 Y42 (x104.set x106.toNat (x105, (y147.1, (y150.1, (y150.2, (wr (y150.2 + (1 : Int)))))))) .dp]⟩ (tn 0) <| nE K (tn 3) <| nE K (tn 3) ?_
    exact aro [.ren [0, 1, 5, 65536] [0]] ⟨(x104.set x106.toNat (x105, (y147.1, (y150.1, (y150.2, (wr (y150.2 + (1 : Int)))))))), (wr ((wr (y150.2 + (1 : Int))) + (1 : Int))), (wr (x106 + (1 : Int))), rfl, h⟩
   refine VW.exit ?_
   exact arv [.ren [1, 65536] [0]] ⟨x105, x104, rfl, h⟩
 rintro s ⟨x77, x78, rfl, h⟩
 unfold F24_j0 at h
 refine nR K (tn 2) ?_
 replace h := Option.some.inj h
 subst h
 refine VW.ghl [.ren [4, 65536] [0]] (VW.ret ?_)
 exact ⟨[], by kernel_rfl, by kernel_rfl, by kernel_rfl⟩
def F9 (N : Nat) (a0 : Z24) (a1 : Int) : Option ((List Z53) × (List Z42) × Int) :=
  andO (F23 N a0.2.1 a1) fun y1 => andO (F24 N a0.2.2.1 y1.2) fun y2 => some (y1.1, y2.1, y2.2)
theorem ok9 N a0 a1 {r} (h : F9 N a0 a1 = some r) : ConM prog 9 [ar 0 Y53 a0.2.1 .dp, ar 0 Y42 a0.2.2.1 .dp] [.agg [zi a0.1, .hd 0 0 none, .hd 1 0 none, zi a0.2.2.2.1, zi a0.2.2.2.2.1, zi a0.2.2.2.2.2.1, zi a0.2.2.2.2.2.2.1, zi a0.2.2.2.2.2.2.2.1, zi a0.2.2.2.2.2.2.2.2], I a1] [.lf (.v (.int .i64) r.2.2)] [ar 0 Y53 r.1 .dp, ar 0 Y42 r.2.1 .dp] := by
 refine ⟨enters_of func9 rfl (by decide), HM.intro [.lf (.v (.int .i64))] K func9 rfl (Nat.le_of_ble_eq_true rfl) (Nat.le_of_ble_eq_true rfl) fun w0 E0 ht => ?_⟩
 unfold F9 at h
 show VW _ _ _ _ _ (retM _ _ _ _ _) _
 refine nR K (tn 2) <| sq <| VW.region <| nG K 3 (tn 3) ?_
 obtain⟨y1,hy,h⟩:=aS h
 refine VO.callM [0] [.t (.sl Y53), .t (.int .i64)] (d := some 8) (by kernel_rfl) (by kernel_rfl) (ok23 N _ _ hy) (by kernel_rfl) <| nN K (tn 1) <| sq <| VW.region <| nG K 3 (tn 3) ?_
 obtain⟨y2,hy,h⟩:=aS h
 refine VO.callM [1] [.t (.sl Y42), .t (.int .i64)] (d := some 12) (by kernel_rfl) (by kernel_rfl) (ok24 N _ _ hy) (by kernel_rfl) <| nN K (tn 1) <| nR K (tn 2) ?_
 replace h := Option.some.inj h
 subst h
 refine VW.ghl [.ren [4, 65536, 65537] [0, 1]] (VW.ret ?_)
 exact ⟨[], by kernel_rfl, by kernel_rfl, by kernel_rfl⟩
def F25_j0 (N : Nat) (x40 : Int) : Option (Int) :=
  some x40
def F25_l0_b (N : Nat) (a0 : (List Z53)) (nx68 : Int → Int → Option (Int)) (x54 : Int) (x55 : Int) : Option (Int) :=
  cond (decide (x55 < (a0.length : Int))) (gd (InR x55 a0.length) (andO (F56 N x54) fun y78 => cond (!(((a0.getD x55.toNat (Ty.dflt Y53)).1).toList == y78.toList)) (some (-1 : Int)) (gd (InR x55 a0.length) (cond (((a0.getD x55.toNat (Ty.dflt Y53)).2) != (IntKind.i64.wrap (x54 + (1 : Int)))) (some (-1 : Int)) (nx68 (IntKind.i64.wrap ((IntKind.i64.wrap (x54 + (1 : Int))) + (1 : Int))) (IntKind.i64.wrap (x55 + (1 : Int)))))))) (F25_j0 N x54)
def F25_l0 (N : Nat) (a0 : (List Z53)) := loopF (F25_l0_b N a0) (fun _ _ => none)
theorem F25_l0_s N a0 {k} (hk : 0 < k) x54 x55 : F25_l0 N a0 k x54 x55 = F25_l0_b N a0 (F25_l0 N a0 (k - 1)) x54 x55 := by cases k;cases hk;rfl
def F25 (N : Nat) (a0 : (List Z53)) (a1 : Int) : Option (Int) :=
  F25_l0 N a0 N a1 (0 : Int)
theorem ok25 N a0 a1 {r} (h : F25 N a0 a1 = some r) : Con prog 25 [Vv (.sl Y53) a0, I a1] [.lf (.v (.int .i64) r)] := by
 refine ctr [.lf (.v (.int .i64))] K func25 rfl fun w0 E0 ht => ?_
 unfold F25 at h
 show VW _ _ _ _ _ (retQ _ _ _ _) _
 refine nR K (tn 1) ?_
 refine VW.join (fun s => ∃ x40, s = ⟨[(1, I x40)], []⟩ ∧ F25_j0 N x40 = some r) ?_ ?_
 ·refine nR K (tn 1) <| VW.block <| lop (fun k s => ∃ x54 x55, s = ⟨[(0, Vv (.sl Y53) a0), (1, I x54), (5, I x55)], []⟩ ∧ F25_l0 N a0 k x54 x55 = some r) N [.ren [0, 1, 5] []] ⟨a1, (0 : Int), rfl, h⟩ ?_
  rintro k68 s ⟨x54, x55, rfl, h⟩
  cases k68 with
  | zero => cases show none = some r from h
  | succ k68 =>
   replace h : F25_l0_b N a0 (F25_l0 N a0 k68) x54 x55 = some r := h
   unfold F25_l0_b at h
   refine sq <| nR K (tn 4) ?_
   refine cnd h ?_ ?_<;>intro h
   ·refine VW.skip <| sq <| VW.block <| sq <| sq ?_
    obtain⟨g77,h⟩:=gS h
    obtain⟨y78,hy78,h⟩:=aS h
    refine dr K [(6, .cl [] (some 18) [.lf (.v .str y78)])] [(6, 0)] [] [0, 1, 5, 19] [] (pu 2 (an g77 (tn 5))) ⟨qC false [.t (.int .i64)] [] [] (some 18) K (ok56 N _ hy78), trivial⟩ ?_
    refine cnd h ?_ ?_<;>intro h
    ·refine nR K (tn 1) ?_
     cases h; exact VW.ret (rt [])
    refine VW.skip <| nR K (tn 3) <| sq ?_
    obtain⟨g80,h⟩:=gS h
    refine nR K (pu 2 (an g80 (tn 4))) ?_
    refine cnd h ?_ ?_<;>intro h
    ·refine nR K (tn 1) ?_
     cases h; exact VW.ret (rt [])
    refine VW.skip <| nE K (tn 3) <| nE K (tn 3) ?_
    exact aro [.ren [0, 1, 5] []] ⟨(wr ((wr (x54 + (1 : Int))) + (1 : Int))), (wr (x55 + (1 : Int))), rfl, h⟩
   refine VW.exit ?_
   exact arv [.ren [1] []] ⟨x54, rfl, h⟩
 rintro s ⟨x40, rfl, h⟩
 unfold F25_j0 at h
 refine nR K (tn 2) ?_
 cases h; exact VW.ret (rt [])
def F82_j0 (N : Nat) (x16 : Int) : Option (Int) :=
  some x16
def F82_l0_b (N : Nat) (a0 : (List Int)) (nx28 : Int → Int → Option (Int)) (x22 : Int) (x23 : Int) : Option (Int) :=
  cond (decide (x23 < (a0.length : Int))) (gd (InR x23 a0.length) (cond ((a0.getD x23.toNat (Ty.dflt (.int .i64))) != x22) (some (-1 : Int)) (nx28 (IntKind.i64.wrap (x22 + (1 : Int))) (IntKind.i64.wrap (x23 + (1 : Int)))))) (F82_j0 N x22)
def F82_l0 (N : Nat) (a0 : (List Int)) := loopF (F82_l0_b N a0) (fun _ _ => none)
theorem F82_l0_s N a0 {k} (hk : 0 < k) x22 x23 : F82_l0 N a0 k x22 x23 = F82_l0_b N a0 (F82_l0 N a0 (k - 1)) x22 x23 := by cases k;cases hk;rfl
def F82 (N : Nat) (a0 : (List Int)) (a1 : Int) : Option (Int) :=
  F82_l0 N a0 N a1 (0 : Int)
theorem ok82 N a0 a1 {r} (h : F82 N a0 a1 = some r) : Con prog 82 [Vv (.sl (.int .i64)) a0, I a1] [.lf (.v (.int .i64) r)] := by
 refine ctr [.lf (.v (.int .i64))] K func82 rfl fun w0 E0 ht => ?_
 unfold F82 at h
 show VW _ _ _ _ _ (retQ _ _ _ _) _
 refine nR K (tn 1) ?_
 refine VW.join (fun s => ∃ x16, s = ⟨[(1, I x16)], []⟩ ∧ F82_j0 N x16 = some r) ?_ ?_
 ·refine nR K (tn 1) <| VW.block <| lop (fun k s => ∃ x22 x23, s = ⟨[(0, Vv (.sl (.int .i64)) a0), (1, I x22), (5, I x23)], []⟩ ∧ F82_l0 N a0 k x22 x23 = some r) N [.ren [0, 1, 5] []] ⟨a1, (0 : Int), rfl, h⟩ ?_
  rintro k28 s ⟨x22, x23, rfl, h⟩
  cases k28 with
  | zero => cases show none = some r from h
  | succ k28 =>
   replace h : F82_l0_b N a0 (F82_l0 N a0 k28) x22 x23 = some r := h
   unfold F82_l0_b at h
   refine sq <| nR K (tn 4) ?_
   refine cnd h ?_ ?_<;>intro h
   ·refine VW.skip <| sq <| VW.block <| sq ?_
    obtain⟨g32,h⟩:=gS h
    refine nR K (pu 2 (an g32 (tn 3))) ?_
    refine cnd h ?_ ?_<;>intro h
    ·refine nR K (tn 1) ?_
     cases h; exact VW.ret (rt [])
    refine VW.skip <| nE K (tn 3) <| nE K (tn 3) ?_
    exact aro [.ren [0, 1, 5] []] ⟨(wr (x22 + (1 : Int))), (wr (x23 + (1 : Int))), rfl, h⟩
   refine VW.exit ?_
   exact arv [.ren [1] []] ⟨x22, rfl, h⟩
 rintro s ⟨x16, rfl, h⟩
 unfold F82_j0 at h
 refine nR K (tn 2) ?_
 cases h; exact VW.ret (rt [])
def F58_j0 (N : Nat) (x100 : Int) : Option (Int) :=
  some x100
def F58_l0_b (N : Nat) (a0 : (List Z87)) (nx168 : Int → Int → Option (Int)) (x134 : Int) (x135 : Int) : Option (Int) :=
  cond (decide (x135 < (a0.length : Int))) (gd (InR x135 a0.length) (cond (((a0.getD x135.toNat (Ty.dflt Y87)).1) != x134) (some (-1 : Int)) (gd (InR x135 a0.length) (andO (F56 N (IntKind.i64.wrap (x134 + (1 : Int)))) fun y190 => cond (!(((a0.getD x135.toNat (Ty.dflt Y87)).2.1).toList == y190.toList)) (some (-1 : Int)) (gd (InR x135 a0.length) (cond (((a0.getD x135.toNat (Ty.dflt Y87)).2.2.1) != (IntKind.i64.wrap ((IntKind.i64.wrap (x134 + (1 : Int))) + (1 : Int)))) (some (-1 : Int)) (gd (InR x135 a0.length) (cond (((a0.getD x135.toNat (Ty.dflt Y87)).2.2.2.1) != (IntKind.i64.wrap ((IntKind.i64.wrap ((IntKind.i64.wrap (x134 + (1 : Int))) + (1 : Int))) + (1 : Int)))) (some (-1 : Int)) (gd (InR x135 a0.length) (cond (((a0.getD x135.toNat (Ty.dflt Y87)).2.2.2.2.1) != (IntKind.i64.wrap ((IntKind.i64.wrap ((IntKind.i64.wrap ((IntKind.i64.wrap (x134 + (1 : Int))) + (1 : Int))) + (1 : Int))) + (1 : Int)))) (some (-1 : Int)) (gd (InR x135 a0.length) (cond (!(((a0.getD x135.toNat (Ty.dflt Y87)).2.2.2.2.2.1) == ((Int.tmod (IntKind.i64.wrap ((IntKind.i64.wrap ((IntKind.i64.wrap ((IntKind.i64.wrap ((IntKind.i64.wrap (x134 + (1 : Int))) + (1 : Int))) + (1 : Int))) + (1 : Int))) + (1 : Int))) (3 : Int)) == (0 : Int)))) (some (-1 : Int)) (gd (InR x135 a0.length) (andO (F82 N ((a0.getD x135.toNat (Ty.dflt Y87)).2.2.2.2.2.2) (IntKind.i64.wrap ((IntKind.i64.wrap ((IntKind.i64.wrap ((IntKind.i64.wrap ((IntKind.i64.wrap ((IntKind.i64.wrap (x134 + (1 : Int))) + (1 : Int))) + (1 : Int))) + (1 : Int))) + (1 : Int))) + (1 : Int)))) fun y200 => cond (decide (y200 < (0 : Int))) (some (-1 : Int)) (nx168 y200 (IntKind.i64.wrap (x135 + (1 : Int)))))))))))))))))) (F58_j0 N x134)
def F58_l0 (N : Nat) (a0 : (List Z87)) := loopF (F58_l0_b N a0) (fun _ _ => none)
theorem F58_l0_s N a0 {k} (hk : 0 < k) x134 x135 : F58_l0 N a0 k x134 x135 = F58_l0_b N a0 (F58_l0 N a0 (k - 1)) x134 x135 := by cases k;cases hk;rfl
def F58 (N : Nat) (a0 : (List Z87)) (a1 : Int) : Option (Int) :=
  F58_l0 N a0 N a1 (0 : Int)
theorem ok58 N a0 a1 {r} (h : F58 N a0 a1 = some r) : Con prog 58 [Vv (.sl Y87) a0, I a1] [.lf (.v (.int .i64) r)] := by
 refine ctr [.lf (.v (.int .i64))] K func58 rfl fun w0 E0 ht => ?_
 unfold F58 at h
 show VW _ _ _ _ _ (retQ _ _ _ _) _
 refine nR K (tn 1) ?_
 refine VW.join (fun s => ∃ x100, s = ⟨[(1, I x100)], []⟩ ∧ F58_j0 N x100 = some r) ?_ ?_
 ·refine nR K (tn 1) <| VW.block <| lop (fun k s => ∃ x134 x135, s = ⟨[(0, Vv (.sl Y87) a0), (1, I x134), (5, I x135)], []⟩ ∧ F58_l0 N a0 k x134 x135 = some r) N [.ren [0, 1, 5] []] ⟨a1, (0 : Int), rfl, h⟩ ?_
  rintro k168 s ⟨x134, x135, rfl, h⟩
  cases k168 with
  | zero => cases show none = some r from h
  | succ k168 =>
   replace h : F58_l0_b N a0 (F58_l0 N a0 k168) x134 x135 = some r := h
   unfold F58_l0_b at h
   refine sq <| nR K (tn 4) ?_
   refine cnd h ?_ ?_<;>intro h
   ·refine VW.skip <| sq <| VW.block <| sq ?_
    obtain⟨g186,h⟩:=gS h
    refine nR K (pu 2 (an g186 (tn 4))) ?_
    refine cnd h ?_ ?_<;>intro h
    ·refine nR K (tn 1) ?_
     cases h; exact VW.ret (rt [])
    refine VW.skip <| nR K (tn 3) <| sq <| sq ?_
    obtain⟨g189,h⟩:=gS h
    obtain⟨y190,hy190,h⟩:=aS h
    refine dr K [(6, .cl [] (some 27) [.lf (.v .str y190)])] [(6, 0)] [] [0, 1, 5, 28] [] (pu 2 (an g189 (tn 5))) ⟨qC false [.t (.int .i64)] [] [] (some 27) K (ok56 N _ hy190), trivial⟩ ?_
    refine cnd h ?_ ?_<;>intro h
    ·refine nR K (tn 1) ?_
     cases h; exact VW.ret (rt [])
    refine VW.skip <| nR K (tn 3) <| sq ?_
    obtain⟨g192,h⟩:=gS h
    refine nR K (pu 2 (an g192 (tn 4))) ?_
    refine cnd h ?_ ?_<;>intro h
    ·refine nR K (tn 1) ?_
     cases h; exact VW.ret (rt [])
    refine VW.skip <| nR K (tn 3) <| sq ?_
    obtain⟨g194,h⟩:=gS h
    refine nR K (pu 2 (an g194 (tn 4))) ?_
    refine cnd h ?_ ?_<;>intro h
    ·refine nR K (tn 1) ?_
     cases h; exact VW.ret (rt [])
    refine VW.skip <| nR K (tn 3) <| sq ?_
    obtain⟨g196,h⟩:=gS h
    refine nR K (pu 2 (an g196 (tn 4))) ?_
    refine cnd h ?_ ?_<;>intro h
    ·refine nR K (tn 1) ?_
     cases h; exact VW.ret (rt [])
    refine VW.skip <| nR K (tn 3) <| sq ?_
    obtain⟨g198,h⟩:=gS h
    refine nR K (pu 2 (an g198 (pu 3 (an (show ((3 : Int) ≠ 0) from by decide) (tn 2))))) ?_
    refine cnd h ?_ ?_<;>intro h
    ·refine sR K [4] [] ⟨[(4, I (-1 : Int))], []⟩ (tn 1) ?_
     cases h; exact VW.ret (rt [])
    refine VW.skip <| sR K [0, 1, 5] [] ⟨[(0, Vv (.sl Y87) a0), (1, I (wr ((wr ((wr ((wr ((wr ((wr (x134 + (1 : Int))) + (1 : Int))) + (1 : Int))) + (1 : Int))) + (1 : Int))) + (1 : Int)))), (5, I x135)], []⟩ (tn 3) <| sq <| VW.region ?_
    obtain⟨g199,h⟩:=gS h
    refine nG K 6 (pu 2 (an g199 (tn 3))) ?_
    obtain⟨y200,hy,h⟩:=aS h
    refine clc false [.t (.sl (.int .i64)), .t (.int .i64)] [] (some 75) K (ok82 N _ _ hy) <| nN K (tn 1) <| nR K (tn 2) ?_
    refine cnd h ?_ ?_<;>intro h
    ·refine nR K (tn 1) ?_
     cases h; exact VW.ret (rt [])
    refine VW.skip <| nE K (tn 3) ?_
    exact aro [.ren [0, 1, 5] []] ⟨y200, (wr (x135 + (1 : Int))), rfl, h⟩
   refine VW.exit ?_
   exact arv [.ren [1] []] ⟨x134, rfl, h⟩
 rintro s ⟨x100, rfl, h⟩
 unfold F58_j0 at h
 refine nR K (tn 2) ?_
 cases h; exact VW.ret (rt [])
def F26_j0 (N : Nat) (x64 : Int) : Option (Int) :=
  some x64
def F26_l0_b (N : Nat) (a0 : (List Z42)) (nx108 : Int → Int → Option (Int)) (x86 : Int) (x87 : Int) : Option (Int) :=
  cond (decide (x87 < (a0.length : Int))) (gd (InR x87 a0.length) (cond (((a0.getD x87.toNat (Ty.dflt Y42)).1) != x86) (some (-1 : Int)) (gd (InR x87 a0.length) (andO (F58 N ((a0.getD x87.toNat (Ty.dflt Y42)).2.1) (IntKind.i64.wrap (x86 + (1 : Int)))) fun y122 => cond (decide (y122 < (0 : Int))) (some (-1 : Int)) (gd (InR x87 a0.length) (andO (F58 N ((a0.getD x87.toNat (Ty.dflt Y42)).2.2.1) y122) fun y124 => cond (decide (y124 < (0 : Int))) (some (-1 : Int)) (gd (InR x87 a0.length) (cond (((a0.getD x87.toNat (Ty.dflt Y42)).2.2.2.1) != y124) (some (-1 : Int)) (gd (InR x87 a0.length) (cond (((a0.getD x87.toNat (Ty.dflt Y42)).2.2.2.2) != (IntKind.i64.wrap (y124 + (1 : Int)))) (some (-1 : Int)) (nx108 (IntKind.i64.wrap ((IntKind.i64.wrap (y124 + (1 : Int))) + (1 : Int))) (IntKind.i64.wrap (x87 + (1 : Int)))))))))))))) (F26_j0 N x86)
def F26_l0 (N : Nat) (a0 : (List Z42)) := loopF (F26_l0_b N a0) (fun _ _ => none)
theorem F26_l0_s N a0 {k} (hk : 0 < k) x86 x87 : F26_l0 N a0 k x86 x87 = F26_l0_b N a0 (F26_l0 N a0 (k - 1)) x86 x87 := by cases k;cases hk;rfl
def F26 (N : Nat) (a0 : (List Z42)) (a1 : Int) : Option (Int) :=
  F26_l0 N a0 N a1 (0 : Int)
theorem ok26 N a0 a1 {r} (h : F26 N a0 a1 = some r) : Con prog 26 [Vv (.sl Y42) a0, I a1] [.lf (.v (.int .i64) r)] := by
 refine ctr [.lf (.v (.int .i64))] K func26 rfl fun w0 E0 ht => ?_
 unfold F26 at h
 show VW _ _ _ _ _ (retQ _ _ _ _) _
 refine nR K (tn 1) ?_
 refine VW.join (fun s => ∃ x64, s = ⟨[(1, I x64)], []⟩ ∧ F26_j0 N x64 = some r) ?_ ?_
 ·refine nR K (tn 1) <| VW.block <| lop (fun k s => ∃ x86 x87, s = ⟨[(0, Vv (.sl Y42) a0), (1, I x86), (5, I x87)], []⟩ ∧ F26_l0 N a0 k x86 x87 = some r) N [.ren [0, 1, 5] []] ⟨a1, (0 : Int), rfl, h⟩ ?_
  rintro k108 s ⟨x86, x87, rfl, h⟩
  cases k108 with
  | zero => cases show none = some r from h
  | succ k108 =>
   replace h : F26_l0_b N a0 (F26_l0 N a0 k108) x86 x87 = some r := h
   unfold F26_l0_b at h
   refine sq <| nR K (tn 4) ?_
   refine cnd h ?_ ?_<;>intro h
   ·refine VW.skip <| sq <| VW.block <| sq ?_
    obtain⟨g120,h⟩:=gS h
    refine nR K (pu 2 (an g120 (tn 4))) ?_
    refine cnd h ?_ ?_<;>intro h
    ·refine nR K (tn 1) ?_
     cases h; exact VW.ret (rt [])
    refine VW.skip <| nR K (tn 3) <| sq <| VW.region ?_
    obtain⟨g121,h⟩:=gS h
    refine nG K 6 (pu 2 (an g121 (tn 3))) ?_
    obtain⟨y122,hy,h⟩:=aS h
    refine clc false [.t (.sl Y87), .t (.int .i64)] [] (some 27) K (ok58 N _ _ hy) <| nN K (tn 1) <| sq <| nR K (tn 2) ?_
    refine cnd h ?_ ?_<;>intro h
    ·refine nR K (tn 1) ?_
     cases h; exact VW.ret (rt [])
    refine VW.skip <| sq <| VW.region ?_
    obtain⟨g123,h⟩:=gS h
    refine nG K 6 (pu 2 (an g123 (tn 3))) ?_
    obtain⟨y124,hy,h⟩:=aS h
    refine clc false [.t (.sl Y87), .t (.int .i64)] [] (some 36) K (ok58 N _ _ hy) <| nN K (tn 1) <| sq <| nR K (tn 2) ?_
    refine cnd h ?_ ?_<;>intro h
    ·refine nR K (tn 1) ?_
     cases h; exact VW.ret (rt [])
    refine VW.skip <| sq ?_
    obtain⟨g126,h⟩:=gS h
    refine nR K (pu 2 (an g126 (tn 4))) ?_
    refine cnd h ?_ ?_<;>intro h
    ·refine nR K (tn 1) ?_
     cases h; exact VW.ret (rt [])
    refine VW.skip <| nR K (tn 3) <| sq ?_
    obtain⟨g128,h⟩:=gS h
    refine nR K (pu 2 (an g128 (tn 4))) ?_
    refine cnd h ?_ ?_<;>intro h
    ·refine sR K [4] [] ⟨[(4, I (-1 : Int))], []⟩ (tn 1) ?_
     cases h; exact VW.ret (rt [])
    refine VW.skip <| rR K [0, 1, 5] [] ⟨[(0, Vv (.sl Y42) a0), (1, I (wr ((wr (y124 + (1 : Int))) + (1 : Int)))), (5, I x87)], []⟩ (tn 3) <| nE K (tn 3) ?_
    exact aro [.ren [0, 1, 5] []] ⟨(wr ((wr (y124 + (1 : Int))) + (1 : Int))), (wr (x87 + (1 : Int))), rfl, h⟩
   refine VW.exit ?_
   exact arv [.ren [1] []] ⟨x86, rfl, h⟩
 rintro s ⟨x64, rfl, h⟩
 unfold F26_j0 at h
 refine nR K (tn 2) ?_
 cases h; exact VW.ret (rt [])
def F10 (N : Nat) (a0 : Z24) (a1 : Int) : Option (Int) :=
  andO (F25 N a0.2.1 a1) fun y1 => cond (decide (y1 < (0 : Int))) (some (-1 : Int)) (andO (F26 N a0.2.2.1 y1) fun y2 => cond (decide (y2 < (0 : Int))) (some (-1 : Int)) (some y2))
theorem ok10 N a0 a1 {r} (h : F10 N a0 a1 = some r) : Con prog 10 [.agg (lv Y24 a0), I a1] [.lf (.v (.int .i64) r)] := by
 refine ctr [.lf (.v (.int .i64))] K func10 rfl fun w0 E0 ht => ?_
 unfold F10 at h
 show VW _ _ _ _ _ (retQ _ _ _ _) _
 refine nR K (tn 2) <| sq <| VW.region <| nG K 3 (tn 3) ?_
 obtain⟨y1,hy,h⟩:=aS h
 refine clc false [.t (.sl Y53), .t (.int .i64)] [] (some 8) K (ok25 N _ _ hy) <| nN K (tn 1) <| sq <| nR K (tn 2) ?_
 refine cnd h ?_ ?_<;>intro h
 ·refine nR K (tn 1) ?_
  cases h; exact VW.ret (rt [])
 refine VW.skip <| sq <| VW.region <| nG K 3 (tn 3) ?_
 obtain⟨y2,hy,h⟩:=aS h
 refine clc false [.t (.sl Y42), .t (.int .i64)] [] (some 14) K (ok26 N _ _ hy) <| nN K (tn 1) <| sq <| nR K (tn 2) ?_
 refine cnd h ?_ ?_<;>intro h
 ·refine nR K (tn 1) ?_
  cases h; exact VW.ret (rt [])
 refine VW.skip <| nR K (tn 2) ?_
 cases h; exact VW.ret (rt [])
def F3 (N : Nat) (a0 : Z24) : Option (Bool) :=
  andO (F4 N a0 (1048576 : Int)) fun y1 => cond (decide (y1 < (0 : Int))) (some true) (andO (F6 N a0) fun y2 => andO (F5 N y2) fun y3 => andO (F6 N a0) fun y4 => andO (F7 N y4) fun y5 => andO (F8 N y5.1 y3.1) fun y7 => cond (!y7) (some false) (cond (y5.2 != y3.2) (some false) (andO (F6 N a0) fun y10 => andO (F8 N y4 y10) fun y11 => cond (!y11) (some false) (andO (F9 N y4 (1 : Int)) fun y12 => cond (decide (y12.2.2 < (0 : Int))) (some false) (andO (F8 N y5.1 y3.1) fun y14 => cond (!y14) (some false) (cond (y5.2 != y3.2) (some false) (andO (F9 N y5.1 (1 : Int)) fun y15 => andO (F10 N (y5.1.1, (y15.1, (y15.2.1, (y5.1.2.2.2.1, (y5.1.2.2.2.2.1, (y5.1.2.2.2.2.2.1, (y5.1.2.2.2.2.2.2.1, (y5.1.2.2.2.2.2.2.2.1, y5.1.2.2.2.2.2.2.2.2)))))))) (1 : Int)) fun y16 => cond (decide (y16 < (0 : Int))) (some false) (cond (y16 != y15.2.2) (some false) (andO (F6 N a0) fun y17 => andO (F7 N y17) fun y18 => andO (F8 N y18.1 y3.1) fun y20 => cond (!y20) (some false) (cond (y18.2 != y3.2) (some false) (andO (F10 N (y5.1.1, (y15.1, (y15.2.1, (y5.1.2.2.2.1, (y5.1.2.2.2.2.1, (y5.1.2.2.2.2.2.1, (y5.1.2.2.2.2.2.2.1, (y5.1.2.2.2.2.2.2.2.1, y5.1.2.2.2.2.2.2.2.2)))))))) (1 : Int)) fun y21 => cond (decide (y21 < (0 : Int))) (some false) (cond (y21 != y15.2.2) (some false) (some true)))))))))))))
theorem ok3 N a0 {r} (h : F3 N a0 = some r) : Con prog 3 [.agg (lv Y24 a0)] [.lf (.v .bool r)] := by
 refine ctr [.lf (.v .bool)] K func3 rfl fun w0 E0 ht => ?_
 unfold F3 at h
 show VW _ _ _ _ _ (retQ _ _ _ _) _
 refine nR K (tn 2) <| nR K (tn 1) <| sq <| VW.region <| nG K 2 (tn 2) ?_
 obtain⟨y1,hy,h⟩:=aS h
 refine clc false [.t Y24, .t (.int .i64)] [] (some 16) K (ok4 N _ _ hy) <| nN K (tn 1) <| sq <| nR K (tn 2) ?_
 refine cnd h ?_ ?_<;>intro h
 ·refine nR K (tn 1) ?_
  cases h; exact VW.ret (rt [])
 refine VW.skip <| sq <| VW.region <| nG K 1 (tn 1) ?_
 obtain⟨y2,hy,h⟩:=aS h
 refine clc false [.t Y24] [] (some 21) K (ok6 N _ hy) ?_
 obtain⟨y3,hy,h⟩:=aS h
 refine VO.ghl [.frz 1, .frz 2] <| clc false [.t Y24] [] (some 22) K (ok5 N _ hy) <| nN K (tn 6) <| sq <| VW.region <| nG K 1 (tn 1) ?_
 obtain⟨y4,hy,h⟩:=aS h
 refine clc false [.t Y24] [] (some 26) K (ok6 N _ hy) <| nN K (tn 2) <| sq <| VW.region <| nG K 1 (tn 1) ?_
 obtain⟨y5,hy,h⟩:=aS h
 refine clc true [.t Y24] [] (some 29) K (ok7 N _ hy) <| nN K (tn 6) <| sq <| sq <| VW.region <| nG K 2 (tn 2) ?_
 obtain⟨y7,hy,h⟩:=aS h
 refine clc true [.t Y24, .t Y24] [] (some 34) K (ok8 N _ _ hy) <| sG K 2 [1, 4, 5, 6, 7, 8, 36] [0, 5, 3, 4, 8, 6, 7, 11, 9, 10] ⟨[(1, .lf (.ptr 0 0 0 0)), (4, .lf (.ptr 1 0 0 0)), (5, I y3.2), (6, .lf (.ptr 4 0 0 0)), (7, .lf (.ptr 7 0 0 0)), (8, I y5.2), (36, B (!y7))], [bx (lv Y24 a0) 25, bx [zi y3.1.1, .hd 2 0 none, .hd 3 0 none, zi y3.1.2.2.2.1, zi y3.1.2.2.2.2.1, zi y3.1.2.2.2.2.2.1, zi y3.1.2.2.2.2.2.2.1, zi y3.1.2.2.2.2.2.2.2.1, zi y3.1.2.2.2.2.2.2.2.2] 30, ar 0 Y53 y3.1.2.1 .dp, ar 0 Y42 y3.1.2.2.1 .tp, bx [zi y4.1, .hd 5 0 none, .hd 6 0 none, zi y4.2.2.2.1, zi y4.2.2.2.2.1, zi y4.2.2.2.2.2.1, zi y4.2.2.2.2.2.2.1, zi y4.2.2.2.2.2.2.2.1, zi y4.2.2.2.2.2.2.2.2] 30, ar 0 Y53 y4.2.1 .dp, ar 0 Y42 y4.2.2.1 .dp, bx [zi y5.1.1, .hd 8 0 none, .hd 9 0 none, zi y5.1.2.2.2.1, zi y5.1.2.2.2.2.1, zi y5.1.2.2.2.2.2.1, zi y5.1.2.2.2.2.2.2.1, zi y5.1.2.2.2.2.2.2.2.1, zi y5.1.2.2.2.2.2.2.2.2] 30, ar 0 Y53 y5.1.2.1 .dp, ar 0 Y42 y5.1.2.2.1 .dp]⟩ (tn 2) ?_
 refine spC 36 h ?_ ?_<;>intro h
 ·refine nN K (tn 4) ?_
  refine VW.cond (b := true) (by kernel_rfl) (fun _ => ?_) (fun h' => nomatch h')
  refine nR K (tn 1) ?_
  cases h; exact VW.ret (rt [])
 refine nN K (tn 4) ?_
 refine cnd h ?_ ?_<;>intro h
 ·refine nR K (tn 1) ?_
  cases h; exact VW.ret (rt [])
 refine VW.skip <| sq <| sq ?_
 obtain⟨y10,hy10,h⟩:=aS h
 obtain⟨y11,hy11,h⟩:=aS h
 refine dr K [(2, .cl [] (some 43) [.agg [.v (.int .i64) y10.1, .own Y53 y10.2.1 .dp, .own Y42 y10.2.2.1 .dp, .v (.int .i64) y10.2.2.2.1, .v (.int .i64) y10.2.2.2.2.1, .v (.int .i64) y10.2.2.2.2.2.1, .v (.int .i64) y10.2.2.2.2.2.2.1, .v (.int .i64) y10.2.2.2.2.2.2.2.1, .v (.int .i64) y10.2.2.2.2.2.2.2.2]]), (3, .cl [] (some 44) [.lf (.v .bool y11)])] [(2, 0), (3, 1)] [2] [1, 4, 5, 6, 7, 8, 45] [0, 1, 2, 3, 4, 5, 6, 7, 8, 9] (tn 5) ⟨qC false [.t Y24] [] [] (some 43) K (ok6 N _ hy10), qC true [.t Y24, .t Y24] [] [] (some 44) K (ok8 N _ _ hy11), trivial⟩ ?_
 refine cnd h ?_ ?_<;>intro h
 ·refine nR K (tn 1) ?_
  cases h; exact VW.ret (rt [])
 refine VW.skip <| nR K (tn 1) <| sq <| VW.region <| nG K 2 (tn 2) ?_
 obtain⟨y12,hy,h⟩:=aS h
 refine VO.callM [5, 6] [.t Y24, .t (.int .i64)] (d := some 48) (by kernel_rfl) (by kernel_rfl) (ok9 N _ _ hy) (by kernel_rfl) <| nN K (tn 1) <| sq <| sq <| VW.region <| nG K 3 (tn 3) ?_
 refine spC 51 h ?_ ?_<;>intro h
 ·refine nN K (tn 10) ?_
  refine VW.cond (b := true) (by kernel_rfl) (fun _ => ?_) (fun h' => nomatch h')
  refine nR K (tn 1) ?_
  cases h; exact VW.ret (rt [])
 refine nG K 2 (tn 2) <| VO.on (j := 2) (want := false) (d := 51) (b := false) rfl rfl rfl (by kernel_rfl) rfl ?_
 obtain⟨y14,hy,h⟩:=aS h
 refine clc true [.t Y24, .t Y24] [] (some 54) K (ok8 N _ _ hy) <| nG K 3 (tn 3) ?_
 refine spC 57 h ?_ ?_<;>intro h
 ·refine nN K (tn 4) ?_
  refine VW.cond (b := true) (by kernel_rfl) (fun _ => ?_) (fun h' => nomatch h')
  refine nR K (tn 1) ?_
  cases h; exact VW.ret (rt [])
 refine nN K (tn 4) ?_
 refine cnd h ?_ ?_<;>intro h
 ·refine nR K (tn 1) ?_
  cases h; exact VW.ret (rt [])
 refine VW.skip <| nR K (tn 1) <| sq <| VW.region <| nG K 2 (tn 2) ?_
 obtain⟨y15,hy,h⟩:=aS h
 refine VO.callM [8, 9] [.t Y24, .t (.int .i64)] (d := some 64) (by kernel_rfl) (by kernel_rfl) (ok9 N _ _ hy) (by kernel_rfl) <| nN K (tn 1) <| sR K [1, 4, 5, 7, 10, 11] [0, 1, 2, 3, 7, 8, 9] ⟨[(1, .lf (.ptr 0 0 0 0)), (4, .lf (.ptr 1 0 0 0)), (5, I y3.2), (7, .lf (.ptr 4 0 0 0)), (10, I y15.2.2), (11, I (1 : Int))], [bx (lv Y24 a0) 25, bx [zi y3.1.1, .hd 2 0 none, .hd 3 0 none, zi y3.1.2.2.2.1, zi y3.1.2.2.2.2.1, zi y3.1.2.2.2.2.2.1, zi y3.1.2.2.2.2.2.2.1, zi y3.1.2.2.2.2.2.2.2.1, zi y3.1.2.2.2.2.2.2.2.2] 30, ar 0 Y53 y3.1.2.1 .dp, ar 0 Y42 y3.1.2.2.1 .tp, bx [zi y5.1.1, .hd 5 0 none, .hd 6 0 none, zi y5.1.2.2.2.1, zi y5.1.2.2.2.2.1, zi y5.1.2.2.2.2.2.1, zi y5.1.2.2.2.2.2.2.1, zi y5.1.2.2.2.2.2.2.2.1, zi y5.1.2.2.2.2.2.2.2.2] 30, ar 0 Y53 y15.1 .dp, ar 0 Y42 y15.2.1 .dp]⟩ (tn 1) ?_
 refine sq <| VW.region <| nG K 2 (tn 2) ?_
 obtain⟨y16,hy,h⟩:=aS h
 refine clc true [.t Y24, .t (.int .i64)] [] (some 67) K (ok10 N _ _ hy) <| nN K (tn 1) <| sq <| nR K (tn 2) ?_
 refine cnd h ?_ ?_<;>intro h
 ·refine nR K (tn 1) ?_
  cases h; exact VW.ret (rt [])
 refine VW.skip <| sq <| nR K (tn 3) ?_
 refine cnd h ?_ ?_<;>intro h
 ·refine nR K (tn 1) ?_
  cases h; exact VW.ret (rt [])
 refine VW.skip <| sq <| VW.region <| nG K 1 (tn 1) ?_
 obtain⟨y17,hy,h⟩:=aS h
 refine clc false [.t Y24] [] (some 75) K (ok6 N _ hy) ?_
 obtain⟨y18,hy,h⟩:=aS h
 refine clc true [.t Y24] [] (some 76) K (ok7 N _ hy) <| nN K (tn 6) <| sq <| sq <| VW.region <| nG K 2 (tn 2) ?_
 obtain⟨y20,hy,h⟩:=aS h
 refine clc true [.t Y24, .t Y24] [] (some 81) K (ok8 N _ _ hy) <| nG K 2 (tn 2) ?_
 refine spC 83 h ?_ ?_<;>intro h
 ·refine nN K (tn 4) ?_
  refine VW.cond (b := true) (by kernel_rfl) (fun _ => ?_) (fun h' => nomatch h')
  refine nR K (tn 1) ?_
  cases h; exact VW.ret (rt [])
 refine nN K (tn 4) ?_
 refine cnd h ?_ ?_<;>intro h
 ·refine nR K (tn 1) ?_
  cases h; exact VW.ret (rt [])
 refine VW.skip <| nR K (tn 1) <| sq <| VW.region <| nG K 2 (tn 2) ?_
 obtain⟨y21,hy,h⟩:=aS h
 refine clc true [.t Y24, .t (.int .i64)] [] (some 90) K (ok10 N _ _ hy) <| nN K (tn 1) <| sq <| sR K [10, 11, 92] [] ⟨[(10, I y15.2.2), (11, I y21), (92, B (decide (y21 < (0 : Int))))], []⟩ (tn 2) ?_
 refine cnd h ?_ ?_<;>intro h
 ·refine nR K (tn 1) ?_
  cases h; exact VW.ret (rt [])
 refine VW.skip <| sq <| nR K (tn 3) ?_
 refine cnd h ?_ ?_<;>intro h
 ·refine nR K (tn 1) ?_
  cases h; exact VW.ret (rt [])
 refine VW.skip <| nR K (tn 1) ?_
 cases h; exact VW.ret (rt [])
end Go.Proofs.YtahgoingdfncbaaGreat.Vc
