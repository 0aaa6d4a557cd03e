/- What functions of the program compute, and that they do. -/
import Derived.Test.YtpaagnjoniiemaaGreatYa
namespace Go.Proofs.YtpaagnjoniiemaaGreat.Vc
open Go Go.RowKit Go.Proofs.Tryz
set_option linter.unusedVariables false
set_option maxRecDepth 100000
set_option maxHeartbeats 4000000
def F105_j0 (N : Nat) (x38 : ByteArray) (x39 : Int) (x40 : Int) (x41 : Int) (x42 : Bool) (x43 : (List Int)) (x44 : Bool) : Option (Bool) :=
  cond x44 (andO (F113 N ((0 : Int), (x38, (x39, (x40, (x41, (x42, x43)))))) ((0 : Int), (ByteArray.empty, ((0 : Int), ((0 : Int), ((0 : Int), (false, []))))))) fun y45 => some y45) (some false)
def F105_j1 (N : Nat) (x52 : ByteArray) (x53 : Int) (x54 : Int) (x55 : Int) (x56 : Bool) (x57 : (List Int)) (x58 : Bool) : Option (Bool) :=
  F105_j0 N x52 (0 : Int) (0 : Int) (0 : Int) false x57 x58
def F105_j2 (N : Nat) (x62 : ByteArray) (x63 : Int) (x64 : Int) (x65 : Int) (x66 : Bool) (x67 : (List Int)) : Option (Bool) :=
  F105_j0 N x62 (0 : Int) (0 : Int) (0 : Int) false x67 false
def F105_j3 (N : Nat) (x76 : ByteArray) (x77 : Int) (x78 : Int) (x79 : Int) (x80 : Bool) (x81 : (List Int)) (x82 : Bool) : Option (Bool) :=
  cond x82 (F105_j0 N x76 x77 x78 x79 x80 x81 true) (F105_j0 N x76 x77 x78 x79 x80 x81 false)
def F105 (N : Nat) (a0 : Z52) : Option (Bool) :=
  cond (a0.1 == (0 : Int)) (andO (F86 N a0.2.1) fun y47 => F105_j0 N ByteArray.empty a0.2.2.1 a0.2.2.2.1 a0.2.2.2.2.1 a0.2.2.2.2.2.1 a0.2.2.2.2.2.2 y47) (cond (a0.1 == (1 : Int)) (andO (F110 N a0.2.2.1) fun y48 => cond y48 (andO (F87 N a0.2.2.2.1 (0 : Int) (3 : Int)) fun y49 => cond (a0.2.2.2.1 == (3 : Int)) (cond y49 (cond (a0.2.2.2.2.1 == (0 : Int)) (F105_j1 N a0.2.1 a0.2.2.1 a0.2.2.2.1 a0.2.2.2.2.1 a0.2.2.2.2.2.1 a0.2.2.2.2.2.2 (!a0.2.2.2.2.2.1)) (F105_j1 N a0.2.1 a0.2.2.1 a0.2.2.2.1 a0.2.2.2.2.1 a0.2.2.2.2.2.1 a0.2.2.2.2.2.2 false)) (F105_j1 N a0.2.1 a0.2.2.1 a0.2.2.2.1 a0.2.2.2.2.1 a0.2.2.2.2.2.1 a0.2.2.2.2.2.2 false)) (cond a0.2.2.2.2.2.1 (cond y49 (andO (F111 N a0.2.2.2.2.1) fun y60 => F105_j1 N a0.2.1 a0.2.2.1 a0.2.2.2.1 a0.2.2.2.2.1 a0.2.2.2.2.2.1 a0.2.2.2.2.2.2 y60) (F105_j1 N a0.2.1 a0.2.2.1 a0.2.2.2.1 a0.2.2.2.2.1 a0.2.2.2.2.2.1 a0.2.2.2.2.2.2 false)) (cond y49 (andO (F89 N a0.2.2.2.2.1) fun y61 => F105_j1 N a0.2.1 a0.2.2.1 a0.2.2.2.1 a0.2.2.2.2.1 a0.2.2.2.2.2.1 a0.2.2.2.2.2.2 y61) (F105_j1 N a0.2.1 a0.2.2.1 a0.2.2.2.1 a0.2.2.2.2.1 a0.2.2.2.2.2.1 a0.2.2.2.2.2.2 false)))) (cond (a0.2.2.2.1 == (3 : Int)) (F105_j2 N a0.2.1 a0.2.2.1 a0.2.2.2.1 a0.2.2.2.2.1 a0.2.2.2.2.2.1 a0.2.2.2.2.2.2) (cond a0.2.2.2.2.2.1 (F105_j2 N a0.2.1 a0.2.2.1 a0.2.2.2.1 a0.2.2.2.2.1 a0.2.2.2.2.2.1 a0.2.2.2.2.2.2) (F105_j2 N a0.2.1 a0.2.2.1 a0.2.2.2.1 a0.2.2.2.2.1 a0.2.2.2.2.2.1 a0.2.2.2.2.2.2)))) (cond (a0.1 == (2 : Int)) (andO (F87 N (a0.2.2.2.2.2.2.length : Int) (1 : Int) (6 : Int)) fun y69 => cond y69 (andO (F59 N a0.2.2.2.2.2.2 (fun z0 => F112 N z0)) fun y70 => F105_j0 N a0.2.1 a0.2.2.1 a0.2.2.2.1 a0.2.2.2.2.1 a0.2.2.2.2.2.1 ([]) (!y70)) (F105_j0 N a0.2.1 a0.2.2.1 a0.2.2.2.1 a0.2.2.2.2.1 a0.2.2.2.2.2.1 ([]) false)) (cond (a0.1 == (3 : Int)) (andO (F110 N a0.2.2.1) fun y71 => cond y71 (andO (F110 N a0.2.2.2.2.1) fun y72 => F105_j0 N a0.2.1 (0 : Int) a0.2.2.2.1 (0 : Int) a0.2.2.2.2.2.1 a0.2.2.2.2.2.2 y72) (F105_j0 N a0.2.1 (0 : Int) a0.2.2.2.1 (0 : Int) a0.2.2.2.2.2.1 a0.2.2.2.2.2.2 false)) (cond (a0.1 == (5 : Int)) (andO (F110 N a0.2.2.1) fun y73 => F105_j0 N a0.2.1 (0 : Int) a0.2.2.2.1 a0.2.2.2.2.1 a0.2.2.2.2.2.1 a0.2.2.2.2.2.2 y73) (cond (a0.1 == (6 : Int)) (andO (F87 N a0.2.2.2.2.1 (0 : Int) (1000000 : Int)) fun y74 => cond y74 (cond (!a0.2.2.2.2.2.1) (F105_j0 N a0.2.1 a0.2.2.1 a0.2.2.2.1 (0 : Int) false a0.2.2.2.2.2.2 true) (andO (F111 N a0.2.2.2.2.1) fun y75 => F105_j0 N a0.2.1 a0.2.2.1 a0.2.2.2.1 (0 : Int) false a0.2.2.2.2.2.2 y75)) (F105_j0 N a0.2.1 a0.2.2.1 a0.2.2.2.1 (0 : Int) false a0.2.2.2.2.2.2 false)) (cond (a0.1 == (4 : Int)) (F105_j3 N a0.2.1 a0.2.2.1 a0.2.2.2.1 a0.2.2.2.2.1 a0.2.2.2.2.2.1 a0.2.2.2.2.2.2 (a0.1 == (4 : Int))) (F105_j3 N a0.2.1 a0.2.2.1 a0.2.2.2.1 a0.2.2.2.2.1 a0.2.2.2.2.2.1 a0.2.2.2.2.2.2 (a0.1 == (7 : Int)))))))))
theorem ok105 N a0 {r} (h : F105 N a0 = some r) : Con prog 105 [.agg (lv Y52 a0)] [.lf (.v .bool r)] := by
 refine ctr [.lf (.v .bool)] K func105 rfl fun w0 E0 ht => ?_
 unfold F105 at h
 show VW _ _ _ _ _ (retQ _ _ _ _) _
 refine nR K (tn 2) <| nR K (tn 3) <| nR K (tn 2) <| nR K (tn 1) ?_
 refine VW.join (fun s => ∃ x38 x39 x40 x41 x42 x43 x44, s = ⟨[(3, .lf (.ptr 0 0 0 0)), (4, B x44)], [bx [zi (0 : Int), zs x38, zi x39, zi x40, zi x41, zb x42, .v (.sl (.int .i64)) x43] 56]⟩ ∧ F105_j0 N x38 x39 x40 x41 x42 x43 x44 = some r) ?_ ?_
 ·refine nR K (tn 2) <| VW.block <| nR K (tn 2) ?_
  refine cnd h ?_ ?_<;>intro h
  ·refine sq <| VW.region <| nG K 2 (tn 2) ?_
   obtain⟨y47,hy,h⟩:=aS h
   refine clc false [.t .str] [] (some 13) K (ok86 N _ hy) <| nN K (tn 1) <| nE K (tn 2) ?_
   exact arv [.ren [3, 4] [1]] ⟨ByteArray.empty, a0.2.2.1, a0.2.2.2.1, a0.2.2.2.2.1, a0.2.2.2.2.2.1, a0.2.2.2.2.2.2, y47, rfl, h⟩
  refine nR K (tn 2) ?_
  refine cnd h ?_ ?_<;>intro h
  ·refine sq <| VW.region <| nG K 2 (tn 2) ?_
   obtain⟨y48,hy,h⟩:=aS h
   refine clc false [.t (.int .i64)] [] (some 19) K (ok110 N _ hy) <| nG K 1 (tn 1) ?_
   refine spC 20 h ?_ ?_<;>intro h
   ·refine nG K 2 (tn 2) <| VO.on (j := 3) (want := true) (d := 20) (b := true) rfl rfl rfl (by kernel_rfl) rfl ?_
    obtain⟨y49,hy,h⟩:=aS h
    refine clc false [.t (.int .i64), .t (.int .i64), .t (.int .i64)] [] (some 23) K (ok87 N _ _ _ hy) <| nN K (tn 2) ?_
    refine VW.join (fun s => ∃ x52 x53 x54 x55 x56 x57 x58, s = ⟨[(3, .lf (.ptr 0 0 0 0)), (4, B x58)], [bx [zi (0 : Int), zs x52, zi x53, zi x54, zi x55, zb x56, .v (.sl (.int .i64)) x57] 56]⟩ ∧ F105_j1 N x52 x53 x54 x55 x56 x57 x58 = some r) ?_ ?_
    ·refine VW.block <| nR K (tn 4) ?_
     refine cnd h ?_ ?_<;>intro h
     ·refine VW.region <| sGh K 2 [1, 3, 36] [0, 1] [(1, .lf (.ptr 0 0 0 0)), (3, .lf (.ptr 1 0 0 0)), (36, B y49)] (tn 2) ?_
      refine spC 36 h ?_ ?_<;>intro h
      ·refine nG K 5 (tn 5) ?_
       refine spC 41 h ?_ ?_<;>intro h
       ·refine nN K (tn 5) ?_
        exact arv [.ren [3, 4] [1]] ⟨a0.2.1, a0.2.2.1, a0.2.2.2.1, a0.2.2.2.2.1, a0.2.2.2.2.2.1, a0.2.2.2.2.2.2, (!a0.2.2.2.2.2.1), rfl, h⟩
       refine nN K (tn 5) ?_
       exact arv [.ren [3, 4] [1]] ⟨a0.2.1, a0.2.2.1, a0.2.2.2.1, a0.2.2.2.2.1, a0.2.2.2.2.2.1, a0.2.2.2.2.2.2, false, rfl, h⟩
      refine nN K (tn 10) ?_
      exact arv [.ren [3, 4] [1]] ⟨a0.2.1, a0.2.2.1, a0.2.2.2.1, a0.2.2.2.2.1, a0.2.2.2.2.2.1, a0.2.2.2.2.2.2, false, rfl, h⟩
     refine sRh K [1, 3, 4, 46] [0, 1] [(1, .lf (.ptr 0 0 0 0)), (3, .lf (.ptr 1 0 0 0)), (4, B y49), (46, B a0.2.2.2.2.2.1)] (tn 3) ?_
     refine cnd h ?_ ?_<;>intro h
     ·refine VW.region <| nG K 2 (tn 2) ?_
      refine spC 50 h ?_ ?_<;>intro h
      ·refine nG K 2 (tn 2) <| VO.on (j := 1) (want := true) (d := 50) (b := true) rfl rfl rfl (by kernel_rfl) rfl ?_
       obtain⟨y60,hy,h⟩:=aS h
       refine clc false [.t (.int .i64)] [] (some 53) K (ok111 N _ hy) <| nN K (tn 2) ?_
       exact arv [.ren [3, 4] [1]] ⟨a0.2.1, a0.2.2.1, a0.2.2.2.1, a0.2.2.2.2.1, a0.2.2.2.2.2.1, a0.2.2.2.2.2.2, y60, rfl, h⟩
      refine nN K (tn 5) ?_
      exact arv [.ren [3, 4] [1]] ⟨a0.2.1, a0.2.2.1, a0.2.2.2.1, a0.2.2.2.2.1, a0.2.2.2.2.2.1, a0.2.2.2.2.2.2, false, rfl, h⟩
     refine VW.region <| nG K 2 (tn 2) ?_
     refine spC 26 h ?_ ?_<;>intro h
     ·refine nG K 2 (tn 2) <| VO.on (j := 1) (want := true) (d := 26) (b := true) rfl rfl rfl (by kernel_rfl) rfl ?_
      obtain⟨y61,hy,h⟩:=aS h
      refine clc false [.t (.int .i64)] [] (some 29) K (ok89 N _ hy) <| nN K (tn 2) ?_
      exact arv [.ren [3, 4] [1]] ⟨a0.2.1, a0.2.2.1, a0.2.2.2.1, a0.2.2.2.2.1, a0.2.2.2.2.2.1, a0.2.2.2.2.2.2, y61, rfl, h⟩
     refine nN K (tn 5) ?_
     exact arv [.ren [3, 4] [1]] ⟨a0.2.1, a0.2.2.1, a0.2.2.2.1, a0.2.2.2.2.1, a0.2.2.2.2.2.1, a0.2.2.2.2.2.2, false, rfl, h⟩
    rintro s ⟨x52, x53, x54, x55, x56, x57, x58, rfl, h⟩
    unfold F105_j1 at h
    refine nE K (tn 8) ?_
    exact arv [.ren [3, 4] [0]] ⟨x52, (0 : Int), (0 : Int), (0 : Int), false, x57, x58, rfl, h⟩
   refine nN K (tn 5) ?_
   refine VW.join (fun s => ∃ x62 x63 x64 x65 x66 x67, s = ⟨[(3, .lf (.ptr 0 0 0 0)), (4, B false)], [bx [zi (0 : Int), zs x62, zi x63, zi x64, zi x65, zb x66, .v (.sl (.int .i64)) x67] 56]⟩ ∧ F105_j2 N x62 x63 x64 x65 x66 x67 = some r) ?_ ?_
   ·refine VW.block <| nR K (tn 4) ?_
    refine cnd h ?_ ?_<;>intro h
    ·refine nE K (tn 12) ?_
     exact arv [.ren [3, 4] [1]] ⟨a0.2.1, a0.2.2.1, a0.2.2.2.1, a0.2.2.2.2.1, a0.2.2.2.2.2.1, a0.2.2.2.2.2.2, rfl, h⟩
    refine nR K (tn 3) ?_
    refine cnd h ?_ ?_<;>intro h
    ·refine rR K [3, 4] [1] ⟨[(3, .lf (.ptr 0 0 0 0)), (4, B false)], [bx [zi (0 : Int), zs a0.2.1, zi a0.2.2.1, zi a0.2.2.2.1, zi a0.2.2.2.2.1, zb a0.2.2.2.2.2.1, .v (.sl (.int .i64)) a0.2.2.2.2.2.2] 56]⟩ (tn 7) ?_
     exact arv [.ren [3, 4] [0]] ⟨a0.2.1, a0.2.2.1, a0.2.2.2.1, a0.2.2.2.2.1, a0.2.2.2.2.2.1, a0.2.2.2.2.2.2, rfl, h⟩
    refine rR K [3, 4] [1] ⟨[(3, .lf (.ptr 0 0 0 0)), (4, B false)], [bx [zi (0 : Int), zs a0.2.1, zi a0.2.2.1, zi a0.2.2.2.1, zi a0.2.2.2.2.1, zb a0.2.2.2.2.2.1, .v (.sl (.int .i64)) a0.2.2.2.2.2.2] 56]⟩ (tn 7) ?_
    exact arv [.ren [3, 4] [0]] ⟨a0.2.1, a0.2.2.1, a0.2.2.2.1, a0.2.2.2.2.1, a0.2.2.2.2.2.1, a0.2.2.2.2.2.2, rfl, h⟩
   rintro s ⟨x62, x63, x64, x65, x66, x67, rfl, h⟩
   unfold F105_j2 at h
   refine nE K (tn 8) ?_
   exact arv [.ren [3, 4] [0]] ⟨x62, (0 : Int), (0 : Int), (0 : Int), false, x67, false, rfl, h⟩
  refine nR K (tn 2) ?_
  refine cnd h ?_ ?_<;>intro h
  ·refine sq <| VW.region <| nG K 3 (tn 3) ?_
   obtain⟨y69,hy,h⟩:=aS h
   refine clc false [.t (.int .i64), .t (.int .i64), .t (.int .i64)] [] (some 64) K (ok87 N _ _ _ hy) <| nG K 1 (tn 1) ?_
   refine spC 65 h ?_ ?_<;>intro h
   ·refine nG K 2 (tn 2) <| VO.on (j := 4) (want := true) (d := 65) (b := true) rfl rfl rfl (by kernel_rfl) rfl ?_
    obtain⟨y70,hy,h⟩:=aS h
    refine clc false [.t (.sl (.int .i64)), .clo []] [] (some 68) K (ok59 N _ 112  (fun z0 => F112 N z0 ) (fun z0 _ hz => ok112 N z0 hz) hy) <| nN K (tn 3) <| rR K [3, 4] [1] ⟨[(3, .lf (.ptr 0 0 0 0)), (4, B (!y70))], [bx [zi (0 : Int), zs a0.2.1, zi a0.2.2.1, zi a0.2.2.2.1, zi a0.2.2.2.2.1, zb a0.2.2.2.2.2.1, .nil] 56]⟩ (tn 2) ?_
    exact arv [.nilB 0 6 (.int .i64), .ren [3, 4] [0]] ⟨a0.2.1, a0.2.2.1, a0.2.2.2.1, a0.2.2.2.2.1, a0.2.2.2.2.2.1, [], (!y70), rfl, h⟩
   refine nN K (tn 6) <| nE K (tn 2) ?_
   exact arv [.nilB 1 6 (.int .i64), .ren [3, 4] [1]] ⟨a0.2.1, a0.2.2.1, a0.2.2.2.1, a0.2.2.2.2.1, a0.2.2.2.2.2.1, [], false, rfl, h⟩
  refine nR K (tn 2) ?_
  refine cnd h ?_ ?_<;>intro h
  ·refine sq <| VW.region <| nG K 2 (tn 2) ?_
   obtain⟨y71,hy,h⟩:=aS h
   refine clc false [.t (.int .i64)] [] (some 76) K (ok110 N _ hy) <| nG K 1 (tn 1) ?_
   refine spC 77 h ?_ ?_<;>intro h
   ·refine nG K 2 (tn 2) <| VO.on (j := 3) (want := true) (d := 77) (b := true) rfl rfl rfl (by kernel_rfl) rfl ?_
    obtain⟨y72,hy,h⟩:=aS h
    refine clc false [.t (.int .i64)] [] (some 80) K (ok110 N _ hy) <| sN K [3, 4] [1] ⟨[(3, .lf (.ptr 0 0 0 0)), (4, B y72)], [bx [zi (0 : Int), zs a0.2.1, zi a0.2.2.1, zi a0.2.2.2.1, zi a0.2.2.2.2.1, zb a0.2.2.2.2.2.1, .v (.sl (.int .i64)) a0.2.2.2.2.2.2] 56]⟩ (tn 2) <| nE K (tn 4) ?_
    exact arv [.ren [3, 4] [0]] ⟨a0.2.1, (0 : Int), a0.2.2.2.1, (0 : Int), a0.2.2.2.2.2.1, a0.2.2.2.2.2.2, y72, rfl, h⟩
   refine nN K (tn 5) <| rR K [3, 4] [1] ⟨[(3, .lf (.ptr 0 0 0 0)), (4, B false)], [bx [zi (0 : Int), zs a0.2.1, zi (0 : Int), zi a0.2.2.2.1, zi (0 : Int), zb a0.2.2.2.2.2.1, .v (.sl (.int .i64)) a0.2.2.2.2.2.2] 56]⟩ (tn 4) ?_
   exact arv [.ren [3, 4] [0]] ⟨a0.2.1, (0 : Int), a0.2.2.2.1, (0 : Int), a0.2.2.2.2.2.1, a0.2.2.2.2.2.2, false, rfl, h⟩
  refine nR K (tn 2) ?_
  refine cnd h ?_ ?_<;>intro h
  ·refine sq <| VW.region <| nG K 2 (tn 2) ?_
   obtain⟨y73,hy,h⟩:=aS h
   refine clc false [.t (.int .i64)] [] (some 88) K (ok110 N _ hy) <| nN K (tn 1) <| rR K [3, 4] [1] ⟨[(3, .lf (.ptr 0 0 0 0)), (4, B y73)], [bx [zi (0 : Int), zs a0.2.1, zi (0 : Int), zi a0.2.2.2.1, zi a0.2.2.2.2.1, zb a0.2.2.2.2.2.1, .v (.sl (.int .i64)) a0.2.2.2.2.2.2] 56]⟩ (tn 2) ?_
   exact arv [.ren [3, 4] [0]] ⟨a0.2.1, (0 : Int), a0.2.2.2.1, a0.2.2.2.2.1, a0.2.2.2.2.2.1, a0.2.2.2.2.2.2, y73, rfl, h⟩
  refine nR K (tn 2) ?_
  refine cnd h ?_ ?_<;>intro h
  ·refine sq <| VW.region <| nG K 2 (tn 2) ?_
   obtain⟨y74,hy,h⟩:=aS h
   refine clc false [.t (.int .i64), .t (.int .i64), .t (.int .i64)] [] (some 94) K (ok87 N _ _ _ hy) <| sGh K 1 [1, 3, 95] [0, 1] [(1, .lf (.ptr 0 0 0 0)), (3, .lf (.ptr 1 0 0 0)), (95, B y74)] (tn 1) ?_
   refine spC 95 h ?_ ?_<;>intro h
   ·refine nG K 4 (tn 4) ?_
    refine spC 99 h ?_ ?_<;>intro h
    ·refine nN K (tn 6) <| nE K (tn 4) ?_
     exact arv [.ren [3, 4] [1]] ⟨a0.2.1, a0.2.2.1, a0.2.2.2.1, (0 : Int), false, a0.2.2.2.2.2.2, true, rfl, h⟩
    refine nG K 2 (tn 2) <| VO.on (j := 7) (want := false) (d := 99) (b := false) rfl rfl rfl (by kernel_rfl) rfl ?_
    obtain⟨y75,hy,h⟩:=aS h
    refine clc false [.t (.int .i64)] [] (some 102) K (ok111 N _ hy) <| nN K (tn 3) <| nE K (tn 4) ?_
    exact arv [.ren [3, 4] [1]] ⟨a0.2.1, a0.2.2.1, a0.2.2.2.1, (0 : Int), false, a0.2.2.2.2.2.2, y75, rfl, h⟩
   refine nN K (tn 10) <| nE K (tn 4) ?_
   exact arv [.ren [3, 4] [1]] ⟨a0.2.1, a0.2.2.1, a0.2.2.2.1, (0 : Int), false, a0.2.2.2.2.2.2, false, rfl, h⟩
  refine VW.join (fun s => ∃ x76 x77 x78 x79 x80 x81 x82, s = ⟨[(3, .lf (.ptr 0 0 0 0)), (4, B false), (107, B x82)], [bx [zi (0 : Int), zs x76, zi x77, zi x78, zi x79, zb x80, .v (.sl (.int .i64)) x81] 56]⟩ ∧ F105_j3 N x76 x77 x78 x79 x80 x81 x82 = some r) ?_ ?_
  ·refine nR K (tn 2) ?_
   refine cnd h ?_ ?_<;>intro h
   ·refine VW.skip ?_
    exact arv [.ren [3, 4, 107] [1]] ⟨a0.2.1, a0.2.2.1, a0.2.2.2.1, a0.2.2.2.2.1, a0.2.2.2.2.2.1, a0.2.2.2.2.2.2, (a0.1 == (4 : Int)), rfl, h⟩
   refine rR K [3, 4, 107] [1] ⟨[(3, .lf (.ptr 0 0 0 0)), (4, B false), (107, B (a0.1 == (7 : Int)))], [bx [zi (0 : Int), zs a0.2.1, zi a0.2.2.1, zi a0.2.2.2.1, zi a0.2.2.2.2.1, zb a0.2.2.2.2.2.1, .v (.sl (.int .i64)) a0.2.2.2.2.2.2] 56]⟩ (tn 2) ?_
   exact arv [.ren [3, 4, 107] [0]] ⟨a0.2.1, a0.2.2.1, a0.2.2.2.1, a0.2.2.2.2.1, a0.2.2.2.2.2.1, a0.2.2.2.2.2.2, (a0.1 == (7 : Int)), rfl, h⟩
  rintro s ⟨x76, x77, x78, x79, x80, x81, x82, rfl, h⟩
  unfold F105_j3 at h
  refine cnd h ?_ ?_<;>intro h
  ·refine nE K (tn 1) ?_
   exact arv [.ren [3, 4] [0]] ⟨x76, x77, x78, x79, x80, x81, true, rfl, h⟩
  refine VW.skip ?_
  exact arv [.ren [3, 4] [0]] ⟨x76, x77, x78, x79, x80, x81, false, rfl, h⟩
 rintro s ⟨x38, x39, x40, x41, x42, x43, x44, rfl, h⟩
 unfold F105_j0 at h
 refine sq <| VW.region <| nG K 2 (tn 2) ?_
 refine spC 111 h ?_ ?_<;>intro h
 ·refine nG K 2 (tn 2) <| VO.on (j := 1) (want := true) (d := 111) (b := true) rfl rfl rfl (by kernel_rfl) rfl ?_
  obtain⟨y45,hy,h⟩:=aS h
  refine clc false [.t Y52, .t Y52] [] (some 114) K (ok113 N _ _ hy) <| nN K (tn 2) ?_
  cases h; exact VW.ret (rt [])
 refine nN K (tn 5) ?_
 cases h; exact VW.ret (rt [])
def F104 (N : Nat) (a0 : Z52) : Option (Bool) :=
  andO (F105 N a0) fun y1 => some (!y1)
theorem ok104 N a0 {r} (h : F104 N a0 = some r) : Con prog 104 [.agg (lv Y52 a0)] [.lf (.v .bool r)] := by
 refine ctr [.lf (.v .bool)] K func104 rfl fun w0 E0 ht => ?_
 unfold F104 at h
 show VW _ _ _ _ _ (retQ _ _ _ _) _
 refine nR K (tn 2) <| sq <| VW.region <| nG K 1 (tn 1) ?_
 obtain⟨y1,hy,h⟩:=aS h
 refine clc false [.t Y52] [] (some 4) K (ok105 N _ hy) <| nN K (tn 2) ?_
 cases h; exact VW.ret (rt [])
def F90 (N : Nat) (a0 : (List Z52)) : Option (Bool) :=
  andO (F87 N (a0.length : Int) (1 : Int) (40 : Int)) fun y3 => cond (!y3) (some false) (andO (F63 N a0 (fun z0 => F104 N z0)) fun y4 => cond y4 (some false) (andO (F94 N a0 (0 : Int) (1 : Int)) fun y5 => some (y5 == (a0.length : Int))))
theorem ok90 N a0 {r} (h : F90 N a0 = some r) : Con prog 90 [Vv (.sl Y52) a0] [.lf (.v .bool r)] := by
 refine ctr [.lf (.v .bool)] K func90 rfl fun w0 E0 ht => ?_
 unfold F90 at h
 show VW _ _ _ _ _ (retQ _ _ _ _) _
 refine nR K (tn 1) <| sq <| sq <| VW.region <| nG K 2 (tn 2) ?_
 obtain⟨y3,hy,h⟩:=aS h
 refine clc false [.t (.int .i64), .t (.int .i64), .t (.int .i64)] [] (some 5) K (ok87 N _ _ _ hy) <| nG K 2 (tn 2) ?_
 refine spC 7 h ?_ ?_<;>intro h
 ·refine nN K (tn 3) ?_
  refine VW.cond (b := true) (by kernel_rfl) (fun _ => ?_) (fun h' => nomatch h')
  refine nR K (tn 1) ?_
  cases h; exact VW.ret (rt [])
 refine nG K 1 (tn 1) <| VO.on (j := 4) (want := false) (d := 7) (b := false) rfl rfl rfl (by kernel_rfl) rfl ?_
 obtain⟨y4,hy,h⟩:=aS h
 refine clc false [.t (.sl Y52), .clo []] [] (some 9) K (ok63 N _ 104  (fun z0 => F104 N z0 ) (fun z0 _ hz => ok104 N z0 hz) hy) <| nN K (tn 1) ?_
 refine cnd h ?_ ?_<;>intro h
 ·refine nR K (tn 1) ?_
  cases h; exact VW.ret (rt [])
 refine VW.skip <| sq <| VW.region <| nG K 1 (tn 1) ?_
 obtain⟨y5,hy,h⟩:=aS h
 refine clc false [.t (.sl Y52), .t (.int .i64), .t (.int .i64)] [] (some 12) K (ok94 N _ _ _ hy) <| nN K (tn 4) ?_
 cases h; exact VW.ret (rt [])
def F65_j0 (N : Nat) (x20 : (List Int)) : Option ((List Int)) :=
  some x20
def F65_l0_b (N : Nat) (a0 : (List Z52)) (y23 : Int) (nx36 : (List Int) → Int → Int → Option ((List Int))) (x29 : (List Int)) (x30 : Int) (x31 : Int) : Option ((List Int)) :=
  cond (decide (x31 < y23)) (gd (x29.length + ([x30]).length ≤ lim (.int .i64)) (andO (F94 N a0 x30 (1 : Int)) fun y40 => nx36 (x29 ++ ([x30])) y40 (IntKind.i64.wrap (x31 + (1 : Int))))) (F65_j0 N x29)
def F65_l0 (N : Nat) (a0 : (List Z52)) (y23 : Int) := loopF (F65_l0_b N a0 y23) (fun _ _ _ => none)
theorem F65_l0_s N a0 y23 {k} (hk : 0 < k) x29 x30 x31 : F65_l0 N a0 y23 k x29 x30 x31 = F65_l0_b N a0 y23 (F65_l0 N a0 y23 (k - 1)) x29 x30 x31 := by cases k;cases hk;rfl
def F65 (N : Nat) (a0 : (List Z52)) (a1 : Int) : Option ((List Int)) :=
  gd (InR a1 a0.length) (andO (F93 N ((a0.getD a1.toNat (Ty.dflt Y52)).1)) fun y23 => F65_l0 N a0 y23 N ([]) (IntKind.i64.wrap (a1 + (1 : Int))) (0 : Int))
theorem ok65 N a0 a1 {r} (h : F65 N a0 a1 = some r) : Con prog 65 [Vv (.sl Y52) a0, I a1] [.lf (.own (.int .i64) r .dp)] := by
 refine ctr [.lf (.own (.int .i64) .dp)] K func65 rfl fun w0 E0 ht => ?_
 unfold F65 at h
 show VW _ _ _ _ _ (retQ _ _ _ _) _
 refine nR K (tn 1) <| nR K (tn 1) <| nR K (tn 3) ?_
 refine VW.join (fun s => ∃ x20, s = ⟨[(5, hh 0)], [ar 0 (.int .i64) x20 .dp]⟩ ∧ F65_j0 N x20 = some r) ?_ ?_
 ·refine sq <| VW.region ?_
  obtain⟨g22,h⟩:=gS h
  refine nG K 5 (pu 2 (an g22 (tn 2))) ?_
  obtain⟨y23,hy,h⟩:=aS h
  refine clc false [.t (.int .i64)] [] (some 14) K (ok93 N _ hy) <| nN K (tn 1) <| VW.block <| lop (fun k s => ∃ x29 x30 x31, s = ⟨[(0, Vv (.sl Y52) a0), (5, hh 0), (6, I x30), (14, I y23), (15, I x31)], [ar 0 (.int .i64) x29 .dp]⟩ ∧ F65_l0 N a0 y23 k x29 x30 x31 = some r) N [.nilS 5 (.int .i64) .dp, .ren [0, 5, 6, 14, 15] [0]] ⟨[], (wr (a1 + (1 : Int))), (0 : Int), rfl, h⟩ ?_
  rintro k36 s ⟨x29, x30, x31, rfl, h⟩
  cases k36 with
  | zero => cases show none = some r from h
  | succ k36 =>
   replace h : F65_l0_b N a0 y23 (F65_l0 N a0 y23 k36) x29 x30 x31 = some r := h
   unfold F65_l0_b at h
   refine nR K (tn 1) <| sq ?_
   refine cnd h ?_ ?_<;>intro h
   ·refine VW.skip <| sq <| VW.block ?_
    obtain⟨g39,h⟩:=gS h
    refine nR K (pu 3 (an g39 (tn 1))) <| VW.region <| nG K 2 (tn 2) ?_
    obtain⟨y40,hy,h⟩:=aS h
    refine clc false [.t (.sl Y52), .t (.int .i64), .t (.int .i64)] [] (some 23) K (ok94 N _ _ _ hy) <| nN K (tn 1) <| nE K (tn 2) ?_
    exact aro [.ren [0, 5, 6, 14, 15] [0]] ⟨(x29 ++ ([x30])), y40, (wr (x31 + (1 : Int))), rfl, h⟩
   refine VW.exit ?_
   exact arv [.ren [5] [0]] ⟨x29, rfl, h⟩
 rintro s ⟨x20, rfl, h⟩
 unfold F65_j0 at h
 refine nR K (tn 2) ?_
 cases h; exact VW.ret (rt [some 0])
def F95_j0 (N : Nat) : Option (Int) :=
  some (-1 : Int)
def F95_l0_b (N : Nat) (a0 : (List Z49)) (p1 : Z49 → Option (Bool)) (nx29 : Int → Int → Option (Int)) (x23 : Int) (x24 : Int) : Option (Int) :=
  cond (decide (x24 < x23)) (gd (InR x24 a0.length) (andO (p1 (a0.getD x24.toNat (Ty.dflt Y49))) fun y33 => cond y33 (some x24) (nx29 x23 (IntKind.i64.wrap (x24 + (1 : Int)))))) (F95_j0 N)
def F95_l0 (N : Nat) (a0 : (List Z49)) (p1 : Z49 → Option (Bool)) := loopF (F95_l0_b N a0 p1) (fun _ _ => none)
theorem F95_l0_s N a0 (p1 : Z49 → Option (Bool)) {k} (hk : 0 < k) x23 x24 : F95_l0 N a0 p1 k x23 x24 = F95_l0_b N a0 p1 (F95_l0 N a0 p1 (k - 1)) x23 x24 := by cases k;cases hk;rfl
def F95 (N : Nat) (a0 : (List Z49)) (p1 : Z49 → Option (Bool)) : Option (Int) :=
  F95_l0 N a0 p1 N (a0.length : Int) (0 : Int)
theorem ok95_c1 N a0 (g1 : FuncId) e1_0 (p1 : Z49 → Option (Bool)) (hp1 : ∀ (z0 : Z49) (r : Bool), p1 z0 = some r → Con prog g1 [.agg (lv Y49 z0), .lf (.fp .str e1_0 0)] [.lf (.v .bool r)]) {r} (h : F95 N a0 p1 = some r) : Con prog 95 [Vv (.sl Y49) a0, .clo g1 [.lf (.fp .str e1_0 0)]] [.lf (.v (.int .i64) r)] := by
 refine ctr [.lf (.v (.int .i64))] K func95 rfl fun w0 E0 ht => ?_
 unfold F95 at h
 show VW _ _ _ _ _ (retQ _ _ _ _) _
 refine nR K (tn 1) ?_
 refine VW.join (fun s => s = ⟨[], []⟩ ∧ F95_j0 N = some r) ?_ ?_
 ·refine nR K (tn 3) <| VW.block <| lop (fun k s => ∃ x23 x24, s = ⟨[(0, Vv (.sl Y49) a0), (1, .clo g1 [.lf (.fp .str e1_0 0)]), (7, I x23), (8, I x24)], []⟩ ∧ F95_l0 N a0 p1 k x23 x24 = some r) N [.ren [0, 1, 7, 8] []] ⟨(a0.length : Int), (0 : Int), rfl, h⟩ ?_
  rintro k29 s ⟨x23, x24, rfl, h⟩
  cases k29 with
  | zero => cases show none = some r from h
  | succ k29 =>
   replace h : F95_l0_b N a0 p1 (F95_l0 N a0 p1 k29) x23 x24 = some r := h
   unfold F95_l0_b at h
   refine nR K (tn 1) <| sq ?_
   refine cnd h ?_ ?_<;>intro h
   ·refine VW.skip <| sq <| VW.block <| nR K (tn 2) <| sq <| VW.region ?_
    obtain⟨g32,h⟩:=gS h
    refine nG K 5 (pu 3 (an g32 (tn 1))) ?_
    obtain⟨y33,hy,h⟩:=aS h
    refine clc false [.t Y49] [.k] (some 16) K (hp1 _ _ hy) <| nN K (tn 0) ?_
    refine cnd h ?_ ?_<;>intro h
    ·refine nR K (tn 2) ?_
     cases h; exact VW.ret (rt [])
    refine VW.skip <| nE K (tn 2) ?_
    exact aro [.ren [0, 1, 7, 8] []] ⟨x23, (wr (x24 + (1 : Int))), rfl, h⟩
   refine VW.exit ?_
   exact arv [.ren [] []] ⟨rfl, h⟩
 rintro s ⟨rfl, h⟩
 unfold F95_j0 at h
 refine nR K (tn 1) ?_
 cases h; exact VW.ret (rt [])
def F96 (N : Nat) (a0 : Z49) (c0 : ByteArray) : Option (Bool) :=
  some (a0.1.toList == c0.toList)
theorem ok96 N a0 c0 {r} (h : F96 N a0 c0 = some r) : Con prog 96 [.agg (lv Y49 a0), .lf (.fp .str c0 0)] [.lf (.v .bool r)] := by
 refine ctr [.lf (.v .bool)] K func96 rfl fun w0 E0 ht => ?_
 unfold F96 at h
 show VW _ _ _ _ _ (retQ _ _ _ _) _
 refine nR K (tn 2) <| nR K (tn 5) ?_
 cases h; exact VW.ret (rt [])
def F66 (N : Nat) (a0 : (List Z49)) (a1 : ByteArray) : Option (Int) :=
  andO (F95 N a0 (fun z0 => F96 N z0 a1)) fun y1 => some y1
theorem ok66 N a0 a1 {r} (h : F66 N a0 a1 = some r) : Con prog 66 [Vv (.sl Y49) a0, S a1] [.lf (.v (.int .i64) r)] := by
 refine ctr [.lf (.v (.int .i64))] K func66 rfl fun w0 E0 ht => ?_
 unfold F66 at h
 show VW _ _ _ _ _ (retQ _ _ _ _) _
 refine nR K (tn 2) <| sq <| VW.region <| nG K 2 (tn 2) ?_
 obtain⟨y1,hy,h⟩:=aS h
 refine VO.ghl [.frzB 0 .str] <| clc false [.t (.sl Y49), .clo [.k]] [] (some 7) K (ok95_c1 N _ 96 a1 (fun z0 => F96 N z0 a1) (fun z0 _ hz => ok96 N z0 _ hz) hy) <| nN K (tn 1) ?_
 cases h; exact VW.ret (rt [])
def F106_j0 (N : Nat) (x12 : Int) : Option (Int) :=
  some x12
def F106_l0_b (N : Nat) (a0 : (List Int)) (nx21 : Int → Int → Option (Int)) (x17 : Int) (x18 : Int) : Option (Int) :=
  cond (decide (x18 < (a0.length : Int))) (gd (InR x18 a0.length) (nx21 (if (x17 : Int) < (a0.getD x18.toNat (Ty.dflt (.int .i64))) then (a0.getD x18.toNat (Ty.dflt (.int .i64))) else x17) (IntKind.i64.wrap (x18 + (1 : Int))))) (F106_j0 N x17)
def F106_l0 (N : Nat) (a0 : (List Int)) := loopF (F106_l0_b N a0) (fun _ _ => none)
theorem F106_l0_s N a0 {k} (hk : 0 < k) x17 x18 : F106_l0 N a0 k x17 x18 = F106_l0_b N a0 (F106_l0 N a0 (k - 1)) x17 x18 := by cases k;cases hk;rfl
def F106 (N : Nat) (a0 : (List Int)) : Option (Int) :=
  cond (decide ((a0.length : Int) < (1 : Int))) (none) (gd (InR (0 : Int) a0.length) (F106_l0 N a0 N (a0.getD (0 : Int).toNat (Ty.dflt (.int .i64))) (1 : Int)))
theorem ok106 N a0 {r} (h : F106 N a0 = some r) : Con prog 106 [Vv (.sl (.int .i64)) a0] [.lf (.v (.int .i64) r)] := by
 refine ctr [.lf (.v (.int .i64))] K func106 rfl fun w0 E0 ht => ?_
 unfold F106 at h
 show VW _ _ _ _ _ (retQ _ _ _ _) _
 refine nR K (tn 1) <| sq <| nR K (tn 3) ?_
 refine cnd h ?_ ?_<;>intro h
 ·exact nomatch h
 refine VW.skip ?_
 obtain⟨g1,h⟩:=gS h
 refine nR K (pu 1 (an g1 (tn 2))) ?_
 refine VW.join (fun s => ∃ x12, s = ⟨[(3, I x12)], []⟩ ∧ F106_j0 N x12 = some r) ?_ ?_
 ·refine nR K (tn 1) <| VW.block <| lop (fun k s => ∃ x17 x18, s = ⟨[(0, Vv (.sl (.int .i64)) a0), (3, I x17), (4, I x18)], []⟩ ∧ F106_l0 N a0 k x17 x18 = some r) N [.ren [0, 3, 4] []] ⟨(a0.getD (0 : Int).toNat (Ty.dflt (.int .i64))), (1 : Int), rfl, h⟩ ?_
  rintro k21 s ⟨x17, x18, rfl, h⟩
  cases k21 with
  | zero => cases show none = some r from h
  | succ k21 =>
   replace h : F106_l0_b N a0 (F106_l0 N a0 k21) x17 x18 = some r := h
   unfold F106_l0_b at h
   refine sq <| nR K (tn 4) ?_
   refine cnd h ?_ ?_<;>intro h
   ·refine VW.skip <| sq <| VW.block ?_
    obtain⟨g23,h⟩:=gS h
    refine nE K (pu 3 (an g23 (tn 3))) <| nE K (tn 3) ?_
    exact aro [.ren [0, 3, 4] []] ⟨(if (x17 : Int) < (a0.getD x18.toNat (Ty.dflt (.int .i64))) then (a0.getD x18.toNat (Ty.dflt (.int .i64))) else x17), (wr (x18 + (1 : Int))), rfl, h⟩
   refine VW.exit ?_
   exact arv [.ren [3] []] ⟨x17, rfl, h⟩
 rintro s ⟨x12, rfl, h⟩
 unfold F106_j0 at h
 refine nR K (tn 2) ?_
 cases h; exact VW.ret (rt [])
def F91_j0 (N : Nat) (x31 : (List Int)) : Option (Int) :=
  gd (InR (0 : Int) x31.length) (gd ((0 : Int).toNat < x31.length) (some (x31.getD ((0 : Int).toNat) (Ty.dflt (.int .i64)))))
def F91_j1 (N : Nat) (x31 : (List Int)) (x86 : Int) (x87 : ByteArray) (x88 : Int) (x89 : Int) (x90 : Int) (x91 : Bool) (x92 : (List Int)) (x93 : Int) (x94 : Bool) : Option (Int) :=
  cond x94 (gd (InR (0 : Int) x31.length) (gd ((0 : Int).toNat < x31.length) (cond (decide (x88 ≥ (x31.getD ((0 : Int).toNat) (Ty.dflt (.int .i64))))) (some (-1 : Int)) (F91_j0 N x31)))) (cond (x93 == (2 : Int)) (andO (F106 N x92) fun y100 => gd (InR (0 : Int) x31.length) (gd ((0 : Int).toNat < x31.length) (cond (decide (y100 ≥ (x31.getD ((0 : Int).toNat) (Ty.dflt (.int .i64))))) (some (-1 : Int)) (some (x92.length : Int))))) (cond (x93 == (3 : Int)) (gd (InR (0 : Int) x31.length) (gd ((0 : Int).toNat < x31.length) (cond (decide (x88 ≥ (x31.getD ((0 : Int).toNat) (Ty.dflt (.int .i64))))) (some (-1 : Int)) (gd (InR (1 : Int) x31.length) (gd ((1 : Int).toNat < x31.length) (cond (decide (x90 ≥ (x31.getD ((1 : Int).toNat) (Ty.dflt (.int .i64))))) (some (-1 : Int)) (gd (InR (0 : Int) x31.length) (gd ((0 : Int).toNat < x31.length) (gd (InR (1 : Int) x31.length) (gd ((1 : Int).toNat < x31.length) (cond (decide ((IntKind.i64.wrap ((x31.getD ((0 : Int).toNat) (Ty.dflt (.int .i64))) + (x31.getD ((1 : Int).toNat) (Ty.dflt (.int .i64))))) > (64 : Int))) (some (-1 : Int)) (gd (InR (0 : Int) x31.length) (gd ((0 : Int).toNat < x31.length) (gd (InR (1 : Int) x31.length) (gd ((1 : Int).toNat < x31.length) (some (IntKind.i64.wrap ((x31.getD ((0 : Int).toNat) (Ty.dflt (.int .i64))) + (x31.getD ((1 : Int).toNat) (Ty.dflt (.int .i64))))))))))))))))))))) (cond (x93 == (4 : Int)) (gd (InR (0 : Int) x31.length) (gd ((0 : Int).toNat < x31.length) (gd (InR (1 : Int) x31.length) (gd ((1 : Int).toNat < x31.length) (cond ((x31.getD ((0 : Int).toNat) (Ty.dflt (.int .i64))) != (x31.getD ((1 : Int).toNat) (Ty.dflt (.int .i64)))) (some (-1 : Int)) (F91_j0 N x31)))))) (F91_j0 N x31))))
def F91_j2 (N : Nat) (a0 : (List Z49)) (a1 : (List Z52)) (a2 : Int) (x31 : (List Int)) : Option (Int) :=
  gd (InR a2 a1.length) (cond (((a1.getD a2.toNat (Ty.dflt Y52)).1) == (0 : Int)) (andO (F66 N a0 ((a1.getD a2.toNat (Ty.dflt Y52)).2.1)) fun y84 => cond (decide (y84 < (0 : Int))) (some (-1 : Int)) (gd (InR y84 a0.length) (some ((a0.getD y84.toNat (Ty.dflt Y49)).2)))) (cond (((a1.getD a2.toNat (Ty.dflt Y52)).1) == (1 : Int)) (F91_j1 N x31 ((a1.getD a2.toNat (Ty.dflt Y52)).1) ((a1.getD a2.toNat (Ty.dflt Y52)).2.1) ((a1.getD a2.toNat (Ty.dflt Y52)).2.2.1) ((a1.getD a2.toNat (Ty.dflt Y52)).2.2.2.1) ((a1.getD a2.toNat (Ty.dflt Y52)).2.2.2.2.1) ((a1.getD a2.toNat (Ty.dflt Y52)).2.2.2.2.2.1) ((a1.getD a2.toNat (Ty.dflt Y52)).2.2.2.2.2.2) ((a1.getD a2.toNat (Ty.dflt Y52)).1) (((a1.getD a2.toNat (Ty.dflt Y52)).1) == (1 : Int))) (F91_j1 N x31 ((a1.getD a2.toNat (Ty.dflt Y52)).1) ((a1.getD a2.toNat (Ty.dflt Y52)).2.1) ((a1.getD a2.toNat (Ty.dflt Y52)).2.2.1) ((a1.getD a2.toNat (Ty.dflt Y52)).2.2.2.1) ((a1.getD a2.toNat (Ty.dflt Y52)).2.2.2.2.1) ((a1.getD a2.toNat (Ty.dflt Y52)).2.2.2.2.2.1) ((a1.getD a2.toNat (Ty.dflt Y52)).2.2.2.2.2.2) ((a1.getD a2.toNat (Ty.dflt Y52)).1) (((a1.getD a2.toNat (Ty.dflt Y52)).1) == (5 : Int)))))
def F91_l0_b (N : Nat) (a0 : (List Z49)) (a1 : (List Z52)) (a2 : Int) (self : (List Z49) → (List Z52) → Int → Option (Int)) (y133 : (List Int)) (nx154 : (List Int) → Int → Int → Option (Int)) (x143 : (List Int)) (x144 : Int) (x145 : Int) : Option (Int) :=
  cond (decide (x145 < x144)) (gd (InR x145 y133.length) (gd (x145.toNat < y133.length) (andO (self a0 a1 (y133.getD x145.toNat (Ty.dflt (.int .i64)))) fun y161 => cond (decide (y161 < (0 : Int))) (some (-1 : Int)) (gd (x143.length + ([y161]).length ≤ lim (.int .i64)) (nx154 (x143 ++ ([y161])) x144 (IntKind.i64.wrap (x145 + (1 : Int)))))))) (F91_j2 N a0 a1 a2 x143)
def F91_l0 (N : Nat) (a0 : (List Z49)) (a1 : (List Z52)) (a2 : Int) (self : (List Z49) → (List Z52) → Int → Option (Int)) (y133 : (List Int)) := loopF (F91_l0_b N a0 a1 a2 self y133) (fun _ _ _ => none)
theorem F91_l0_s N a0 a1 a2 (self : (List Z49) → (List Z52) → Int → Option (Int)) y133 {k} (hk : 0 < k) x143 x144 x145 : F91_l0 N a0 a1 a2 self y133 k x143 x144 x145 = F91_l0_b N a0 a1 a2 self y133 (F91_l0 N a0 a1 a2 self y133 (k - 1)) x143 x144 x145 := by cases k;cases hk;rfl
def F91_b (N : Nat) (self : (List Z49) → (List Z52) → Int → Option (Int)) (a0 : (List Z49)) (a1 : (List Z52)) (a2 : Int) : Option (Int) :=
  andO (F65 N a1 a2) fun y133 => F91_l0 N a0 a1 a2 self y133 N ([]) (y133.length : Int) (0 : Int)
theorem ok91_b (N : Nat) (self : (List Z49) → (List Z52) → Int → Option (Int)) (ih : ∀ (a0 : (List Z49)) (a1 : (List Z52)) (a2 : Int) (r : Int), self a0 a1 a2 = some r → Con prog 91 [Vv (.sl Y49) a0, Vv (.sl Y52) a1, I a2] [.lf (.v (.int .i64) r)]) (a0 : (List Z49)) (a1 : (List Z52)) (a2 : Int) {r : Int} (h : F91_b N self a0 a1 a2 = some r) : Con prog 91 [Vv (.sl Y49) a0, Vv (.sl Y52) a1, I a2] [.lf (.v (.int .i64) r)] := by
 refine ctr [.lf (.v (.int .i64))] K func91 rfl fun w0 E0 ht => ?_
 unfold F91_b at h
 show VW _ _ _ _ _ (retQ _ _ _ _) _
 refine nR K (tn 1) <| nR K (tn 1) ?_
 refine VW.join (fun s => ∃ x31, s = ⟨[(0, Vv (.sl Y49) a0), (1, Vv (.sl Y52) a1), (2, I a2), (7, hh 0)], [ar 0 (.int .i64) x31 .dp]⟩ ∧ F91_j2 N a0 a1 a2 x31 = some r) ?_ ?_
 ·refine sq <| VW.region <| nG K 2 (tn 2) ?_
  obtain⟨y133,hy,h⟩:=aS h
  refine clc false [.t (.sl Y52), .t (.int .i64)] [] (some 15) K (ok65 N _ _ hy) <| nN K (tn 2) <| VW.block <| lop (fun k s => ∃ x143 x144 x145, s = ⟨[(0, Vv (.sl Y49) a0), (1, Vv (.sl Y52) a1), (2, I a2), (7, hh 0), (15, hh 1), (16, I x144), (17, I x145)], [ar 0 (.int .i64) x143 .dp, ar 0 (.int .i64) y133 .dp]⟩ ∧ F91_l0 N a0 a1 a2 self y133 k x143 x144 x145 = some r) N [.nilS 7 (.int .i64) .dp, .ren [0, 1, 2, 7, 15, 16, 17] [1, 0]] ⟨[], (y133.length : Int), (0 : Int), rfl, h⟩ ?_
  rintro k154 s ⟨x143, x144, x145, rfl, h⟩
  cases k154 with
  | zero => cases show none = some r from h
  | succ k154 =>
   replace h : F91_l0_b N a0 a1 a2 self y133 (F91_l0 N a0 a1 a2 self y133 k154) x143 x144 x145 = some r := h
   unfold F91_l0_b at h
   refine nR K (tn 1) <| sq ?_
   refine cnd h ?_ ?_<;>intro h
   ·refine VW.skip <| sq <| VW.block ?_
    obtain⟨g159,h⟩:=gS h
    obtain⟨g160,h⟩:=gS h
    refine nR K (an g159 (an g160 (tn 1))) <| sq <| VW.region <| nG K 3 (tn 3) ?_
    obtain⟨y161,hy,h⟩:=aS h
    refine clc false [.t (.sl Y49), .t (.sl Y52), .t (.int .i64)] [] (some 24) K (ih _ _ _ _ hy) <| nN K (tn 1) <| sq <| nR K (tn 2) ?_
    refine cnd h ?_ ?_<;>intro h
    ·refine nR K (tn 1) ?_
     cases h; exact VW.ret (rt [])
    refine VW.skip ?_
    obtain⟨g162,h⟩:=gS h
    refine nE K (pu 3 (an g162 (tn 1))) <| nE K (tn 2) ?_
    exact aro [.ren [0, 1, 2, 7, 15, 16, 17] [0, 1]] ⟨(x143 ++ ([y161])), x144, (wr (x145 + (1 : Int))), rfl, h⟩
   refine VW.exit ?_
   exact arv [.ren [0, 1, 2, 7] [0]] ⟨x143, rfl, h⟩
 rintro s ⟨x31, rfl, h⟩
 unfold F91_j2 at h
 obtain⟨g32,h⟩:=gS h
 refine nR K (pu 2 (an g32 (tn 3))) ?_
 refine VW.join (fun s => s = ⟨[(7, hh 0)], [ar 0 (.int .i64) x31 .dp]⟩ ∧ F91_j0 N x31 = some r) ?_ ?_
 ·refine nR K (tn 2) <| VW.block <| nR K (tn 2) ?_
  refine cnd h ?_ ?_<;>intro h
  ·refine sq <| VW.region <| nG K 3 (tn 3) ?_
   obtain⟨y84,hy,h⟩:=aS h
   refine clc false [.t (.sl Y49), .t .str] [] (some 43) K (ok66 N _ _ hy) <| nN K (tn 1) <| sq <| nR K (tn 2) ?_
   refine cnd h ?_ ?_<;>intro h
   ·refine nR K (tn 1) ?_
    cases h; exact VW.ret (rt [])
   refine VW.skip ?_
   obtain⟨g85,h⟩:=gS h
   refine nR K (pu 2 (an g85 (tn 3))) ?_
   cases h; exact VW.ret (rt [])
  refine VW.join (fun s => ∃ x86 x87 x88 x89 x90 x91 x92 x93 x94, s = ⟨[(7, hh 0), (11, .lf (.ptr 1 0 0 0)), (37, I x93), (51, B x94)], [ar 0 (.int .i64) x31 .dp, bx [zi x86, zs x87, zi x88, zi x89, zi x90, zb x91, .v (.sl (.int .i64)) x92] 56]⟩ ∧ F91_j1 N x31 x86 x87 x88 x89 x90 x91 x92 x93 x94 = some r) ?_ ?_
  ·refine nR K (tn 2) ?_
   refine cnd h ?_ ?_<;>intro h
   ·refine VW.skip ?_
    exact arv [.ren [7, 11, 37, 51] [0, 1]] ⟨(a1.getD a2.toNat D52).1, (a1.getD a2.toNat D52).2.1, (a1.getD a2.toNat D52).2.2.1, (a1.getD a2.toNat D52).2.2.2.1, (a1.getD a2.toNat D52).2.2.2.2.1, (a1.getD a2.toNat D52).2.2.2.2.2.1, (a1.getD a2.toNat D52).2.2.2.2.2.2, (a1.getD a2.toNat D52).1, (((a1.getD a2.toNat D52).1) == (1 : Int)), rfl, h⟩
   refine nE K (tn 2) ?_
   exact arv [.ren [7, 11, 37, 51] [0, 1]] ⟨(a1.getD a2.toNat D52).1, (a1.getD a2.toNat D52).2.1, (a1.getD a2.toNat D52).2.2.1, (a1.getD a2.toNat D52).2.2.2.1, (a1.getD a2.toNat D52).2.2.2.2.1, (a1.getD a2.toNat D52).2.2.2.2.2.1, (a1.getD a2.toNat D52).2.2.2.2.2.2, (a1.getD a2.toNat D52).1, (((a1.getD a2.toNat D52).1) == (5 : Int)), rfl, h⟩
  rintro s ⟨x86, x87, x88, x89, x90, x91, x92, x93, x94, rfl, h⟩
  unfold F91_j1 at h
  refine cnd h ?_ ?_<;>intro h
  ·refine sq ?_
   obtain⟨g95,h⟩:=gS h
   obtain⟨g96,h⟩:=gS h
   refine dr K [] [] [] [7, 59] [0] (pu 3 (an g95 (an g96 (tn 1)))) trivial ?_
   refine cnd h ?_ ?_<;>intro h
   ·refine nR K (tn 1) ?_
    cases h; exact VW.ret (rt [])
   refine VW.skip ?_
   exact arv [.ren [7] [0]] ⟨rfl, h⟩
  refine nR K (tn 2) ?_
  refine cnd h ?_ ?_<;>intro h
  ·refine sq <| sq ?_
   obtain⟨y100,hy100,h⟩:=aS h
   obtain⟨g101,h⟩:=gS h
   obtain⟨g102,h⟩:=gS h
   refine dr K [(2, .cl [] (some 64) [.lf (.v (.int .i64) y100)])] [(2, 0)] [] [11, 68] [1] (pu 4 (an g101 (an g102 (tn 1)))) ⟨qC false [.t (.sl (.int .i64))] [] [] (some 64) K (ok106 N _ hy100), trivial⟩ ?_
   refine cnd h ?_ ?_<;>intro h
   ·refine nR K (tn 1) ?_
    cases h; exact VW.ret (rt [])
   refine VW.skip <| nR K (tn 4) ?_
   cases h; exact VW.ret (rt [])
  refine nR K (tn 2) ?_
  refine cnd h ?_ ?_<;>intro h
  ·refine sq <| sq ?_
   obtain⟨g113,h⟩:=gS h
   obtain⟨g114,h⟩:=gS h
   rcases Bool.eq_false_or_eq_true (decide (x88 ≥ (x31.getD ((0 : Int).toNat) (Ty.dflt (.int .i64))))) with hb115 | hb115
   ·replace h := cond_t h hb115
    refine dr K [(6, .lit true)] [(6, 0)] [] [7, 97] [0] (pu 3 (an g113 (an g114 (tn 19)))) ⟨qB 80 hb115 K trivial, trivial⟩ ?_
    refine VW.cond (b := true) (by kernel_rfl) (fun _ => ?_) (fun h' => nomatch h')
    refine nR K (tn 1) ?_
    cases h; exact VW.ret (rt [])
   replace h := cond_f h hb115
   obtain⟨g116,h⟩:=gS h
   obtain⟨g117,h⟩:=gS h
   rcases Bool.eq_false_or_eq_true (decide (x90 ≥ (x31.getD ((1 : Int).toNat) (Ty.dflt (.int .i64))))) with hb118 | hb118
   ·replace h := cond_t h hb118
    refine dr K [(6, .lit false), (14, .lit true)] [(6, 0), (14, 0)] [] [7, 97] [0] (pu 3 (an g113 (an g114 (pu 5 (an g116 (an g117 (tn 12))))))) ⟨qB 80 hb115 K trivial, qB 88 hb118 K trivial, trivial⟩ ?_
    refine VW.cond (b := true) (by kernel_rfl) (fun _ => ?_) (fun h' => nomatch h')
    refine nR K (tn 1) ?_
    cases h; exact VW.ret (rt [])
   replace h := cond_f h hb118
   obtain⟨g119,h⟩:=gS h
   obtain⟨g120,h⟩:=gS h
   obtain⟨g121,h⟩:=gS h
   obtain⟨g122,h⟩:=gS h
   refine dr K [(6, .lit false), (14, .lit false)] [(6, 0), (14, 0)] [] [7, 97] [0] (pu 3 (an g113 (an g114 (pu 5 (an g116 (an g117 (pu 4 (an g119 (an g120 (pu 1 (an g121 (an g122 (tn 3))))))))))))) ⟨qB 80 hb115 K trivial, qB 88 hb118 K trivial, trivial⟩ ?_
   refine cnd h ?_ ?_<;>intro h
   ·refine nR K (tn 1) ?_
    cases h; exact VW.ret (rt [])
   refine VW.skip <| sq ?_
   obtain⟨g123,h⟩:=gS h
   obtain⟨g124,h⟩:=gS h
   obtain⟨g125,h⟩:=gS h
   obtain⟨g126,h⟩:=gS h
   refine dr K [] [] [] [6] [] (pu 1 (an g123 (an g124 (pu 1 (an g125 (an g126 (tn 2))))))) trivial ?_
   cases h; exact VW.ret (rt [])
  refine nR K (tn 2) ?_
  refine cnd h ?_ ?_<;>intro h
  ·refine sq ?_
   obtain⟨g127,h⟩:=gS h
   obtain⟨g128,h⟩:=gS h
   obtain⟨g129,h⟩:=gS h
   obtain⟨g130,h⟩:=gS h
   refine dr K [] [] [] [7, 113] [0] (pu 1 (an g127 (an g128 (pu 1 (an g129 (an g130 (tn 1))))))) trivial ?_
   refine cnd h ?_ ?_<;>intro h
   ·refine nR K (tn 1) ?_
    cases h; exact VW.ret (rt [])
   refine VW.skip ?_
   exact arv [.ren [7] [0]] ⟨rfl, h⟩
  refine VW.skip ?_
  exact arv [.ren [7] [0]] ⟨rfl, h⟩
 rintro s ⟨rfl, h⟩
 unfold F91_j0 at h
 obtain⟨g81,h⟩:=gS h
 obtain⟨g82,h⟩:=gS h
 refine nR K (pu 1 (an g81 (an g82 (tn 1)))) ?_
 cases h; exact VW.ret (rt [])
def F91_r (N : Nat) := loopF (F91_b N) (fun _ _ _ => none)
theorem F91_s N {k} (hk : 0 < k) a0 a1 a2 : F91_r N k a0 a1 a2 = F91_b N (F91_r N (k - 1)) a0 a1 a2 := by cases k;cases hk;rfl
def F91 (N : Nat) : (List Z49) → (List Z52) → Int → Option (Int) := F91_r N N
theorem ok91_k (N : Nat) : ∀ (k : Nat) (a0 : (List Z49)) (a1 : (List Z52)) (a2 : Int) (r : Int), loopF (F91_b N) (fun _ _ _ => none) k a0 a1 a2 = some r → Con prog 91 [Vv (.sl Y49) a0, Vv (.sl Y52) a1, I a2] [.lf (.v (.int .i64) r)]
 | 0, a0, a1, a2, r, h => nomatch (show (none : Option (Int)) = some r from h)
 | k + 1, a0, a1, a2, r, h => ok91_b N _ (ok91_k N k) a0 a1 a2 h
theorem ok91 N a0 a1 a2 {r} (h : F91 N a0 a1 a2 = some r) : Con prog 91 [Vv (.sl Y49) a0, Vv (.sl Y52) a1, I a2] [.lf (.v (.int .i64) r)] := ok91_k N N a0 a1 a2 r h
def F62 (N : Nat) (a0 : (List Z49)) (a1 : (List Z52)) : Option (Int) :=
  andO (F58 N a0) fun y3 => cond (!y3) (some (-1 : Int)) (andO (F90 N a1) fun y4 => cond (!y4) (some (-1 : Int)) (andO (F91 N a0 a1 (0 : Int)) fun y5 => some y5))
theorem ok62 N a0 a1 {r} (h : F62 N a0 a1 = some r) : Con prog 62 [Vv (.sl Y49) a0, Vv (.sl Y52) a1] [.lf (.v (.int .i64) r)] := by
 refine ctr [.lf (.v (.int .i64))] K func62 rfl fun w0 E0 ht => ?_
 unfold F62 at h
 show VW _ _ _ _ _ (retQ _ _ _ _) _
 refine nR K (tn 1) <| sq <| sq <| VW.region <| nG K 1 (tn 1) ?_
 obtain⟨y3,hy,h⟩:=aS h
 refine clc false [.t (.sl Y49)] [] (some 6) K (ok58 N _ hy) <| nG K 2 (tn 2) ?_
 refine spC 8 h ?_ ?_<;>intro h
 ·refine nN K (tn 4) ?_
  refine VW.cond (b := true) (by kernel_rfl) (fun _ => ?_) (fun h' => nomatch h')
  refine nR K (tn 1) ?_
  cases h; exact VW.ret (rt [])
 refine nG K 1 (tn 1) <| VO.on (j := 3) (want := false) (d := 8) (b := false) rfl rfl rfl (by kernel_rfl) rfl ?_
 obtain⟨y4,hy,h⟩:=aS h
 refine clc false [.t (.sl Y52)] [] (some 10) K (ok90 N _ hy) <| nN K (tn 2) ?_
 refine cnd h ?_ ?_<;>intro h
 ·refine nR K (tn 1) ?_
  cases h; exact VW.ret (rt [])
 refine VW.skip <| sq <| VW.region <| nG K 2 (tn 2) ?_
 obtain⟨y5,hy,h⟩:=aS h
 refine clc false [.t (.sl Y49), .t (.sl Y52), .t (.int .i64)] [] (some 15) K (ok91 N _ _ _ hy) <| nN K (tn 1) ?_
 cases h; exact VW.ret (rt [])
def F38 (N : Nat) (a0 : (List Z49)) (a1 : (List Z52)) : Option (Bool) :=
  andO (F62 N a0 a1) fun y1 => some (decide (y1 ≥ (0 : Int)))
theorem ok38 N a0 a1 {r} (h : F38 N a0 a1 = some r) : Con prog 38 [Vv (.sl Y49) a0, Vv (.sl Y52) a1] [.lf (.v .bool r)] := by
 refine ctr [.lf (.v .bool)] K func38 rfl fun w0 E0 ht => ?_
 unfold F38 at h
 show VW _ _ _ _ _ (retQ _ _ _ _) _
 refine nR K (tn 1) <| sq <| VW.region <| nG K 2 (tn 2) ?_
 obtain⟨y1,hy,h⟩:=aS h
 refine clc false [.t (.sl Y49), .t (.sl Y52)] [] (some 7) K (ok62 N _ _ hy) <| nN K (tn 2) ?_
 cases h; exact VW.ret (rt [])
def F64 (N : Nat) (a0 : Z52) : Option (Bool) :=
  some a0.2.2.2.2.2.1
theorem ok64 N a0 {r} (h : F64 N a0 = some r) : Con prog 64 [.agg (lv Y52 a0)] [.lf (.v .bool r)] := by
 refine ctr [.lf (.v .bool)] K func64 rfl fun w0 E0 ht => ?_
 unfold F64 at h
 show VW _ _ _ _ _ (retQ _ _ _ _) _
 refine nR K (tn 2) <| nR K (tn 3) ?_
 cases h; exact VW.ret (rt [])
def F39 (N : Nat) (a0 : (List Z52)) : Option (Bool) :=
  andO (F63 N a0 (fun z0 => F64 N z0)) fun y1 => some y1
theorem ok39 N a0 {r} (h : F39 N a0 = some r) : Con prog 39 [Vv (.sl Y52) a0] [.lf (.v .bool r)] := by
 refine ctr [.lf (.v .bool)] K func39 rfl fun w0 E0 ht => ?_
 unfold F39 at h
 show VW _ _ _ _ _ (retQ _ _ _ _) _
 refine nR K (tn 1) <| sq <| VW.region <| nG K 1 (tn 1) ?_
 obtain⟨y1,hy,h⟩:=aS h
 refine clc false [.t (.sl Y52), .clo []] [] (some 4) K (ok63 N _ 64  (fun z0 => F64 N z0 ) (fun z0 _ hz => ok64 N z0 hz) hy) <| nN K (tn 1) ?_
 cases h; exact VW.ret (rt [])
def F67 (N : Nat) (a0 : Z52) (a1 : Int) : Option (Bool) :=
  cond (a0.2.2.2.1 == (3 : Int)) (some (a1 == (-2000000 : Int))) (cond (a0.2.2.2.1 == (0 : Int)) (some (a1 == a0.2.2.2.2.1)) (cond (a0.2.2.2.1 == (1 : Int)) (cond (a1 != (-2000000 : Int)) (some (decide (a1 < a0.2.2.2.2.1))) (some false)) (cond (a1 != (-2000000 : Int)) (some (decide (a1 > a0.2.2.2.2.1))) (some false))))
theorem ok67 N a0 a1 {r} (h : F67 N a0 a1 = some r) : Con prog 67 [.agg (lv Y52 a0), I a1] [.lf (.v .bool r)] := by
 refine ctr [.lf (.v .bool)] K func67 rfl fun w0 E0 ht => ?_
 unfold F67 at h
 show VW _ _ _ _ _ (retQ _ _ _ _) _
 refine nR K (tn 2) <| sq <| nR K (tn 2) <| VW.block <| nR K (tn 2) ?_
 refine cnd h ?_ ?_<;>intro h
 ·refine nR K (tn 3) ?_
  cases h; exact VW.ret (rt [])
 refine nR K (tn 2) ?_
 refine cnd h ?_ ?_<;>intro h
 ·refine nR K (tn 5) ?_
  cases h; exact VW.ret (rt [])
 refine nR K (tn 2) ?_
 refine cnd h ?_ ?_<;>intro h
 ·refine sq <| VW.region <| nG K 3 (tn 3) ?_
  refine spC 21 h ?_ ?_<;>intro h
  ·refine nN K (tn 6) ?_
   cases h; exact VW.ret (rt [])
  refine nN K (tn 6) ?_
  cases h; exact VW.ret (rt [])
 refine VW.skip <| sq <| VW.region <| nG K 3 (tn 3) ?_
 refine spC 29 h ?_ ?_<;>intro h
 ·refine nN K (tn 6) ?_
  cases h; exact VW.ret (rt [])
 refine nN K (tn 6) ?_
 cases h; exact VW.ret (rt [])
def F97_j0 (N : Nat) (x4 : (List Int)) : Option ((List Int)) :=
  some x4
def F97 (N : Nat) (a0 : (List Int)) (a1 : Int) : Option ((List Int)) :=
  cond (decide (a1 < (0 : Int))) (none) (cond (decide ((IntKind.i64.wrap (a1 - (IntKind.i64.wrap ((0 : Int) - (0 : Int))))) > (0 : Int))) (gd ((0 : Int) = (0 : Int)) (gd (0 ≤ (IntKind.i64.wrap (a1 - (IntKind.i64.wrap ((0 : Int) - (0 : Int))))) ∧ (IntKind.i64.wrap (a1 - (IntKind.i64.wrap ((0 : Int) - (0 : Int))))) ≤ (lim (.int .i64) : Int)) (gd (0 ≤ (0 : Int) ∧ (0 : Int) ≤ ((List.replicate (IntKind.i64.wrap (a1 - (IntKind.i64.wrap ((0 : Int) - (0 : Int))))).toNat (Ty.dflt (.int .i64))).length : Int)) (F97_j0 N ((List.replicate (IntKind.i64.wrap (a1 - (IntKind.i64.wrap ((0 : Int) - (0 : Int))))).toNat (Ty.dflt (.int .i64))).take ((0 : Int).toNat)))))) (F97_j0 N ([])))
theorem ok97 N a0 a1 {r} (h : F97 N a0 a1 = some r) : Con prog 97 [.lf (.nil), I a1] [.lf (.own (.int .i64) r .dp)] := by
 refine ctr [.lf (.own (.int .i64) .dp)] K func97 rfl fun w0 E0 ht => ?_
 unfold F97 at h
 show VW _ _ _ _ _ (retQ _ _ _ _) _
 refine nR K (tn 1) <| sq <| nR K (tn 2) ?_
 refine cnd h ?_ ?_<;>intro h
 ·exact nomatch h
 refine VW.skip ?_
 refine VW.join (fun s => ∃ x4, s = ⟨[(0, hh 0)], [ar 0 (.int .i64) x4 .dp]⟩ ∧ F97_j0 N x4 = some r) ?_ ?_
 ·refine sq <| VW.region <| nG K 2 (tn 2) <| VO.capN (d := 10) (v := I (0 : Int)) K (by kernel_rfl) <| nN K (tn 5) <| nR K (tn 2) ?_
  refine cnd h ?_ ?_<;>intro h
  ·refine VW.region <| nG K 2 (tn 2) <| VO.capN (d := 19) (v := I (0 : Int)) K (by kernel_rfl) ?_
   obtain⟨g6,h⟩:=gS h
   refine VO.cutN (d := 20) (φ := (0 : Int) = (0 : Int)) (v := .lf .nil) K (by kernel_rfl) g6 <| nG K 1 (tn 1) ?_
   obtain⟨g7,h⟩:=gS h
   refine VO.appZ (d := 22) (φ := 0 ≤ (wr (a1 - (wr ((0 : Int) - (0 : Int))))) ∧ (wr (a1 - (wr ((0 : Int) - (0 : Int))))) ≤ (lim (.int .i64) : Int)) (v := hh 0) (H' := [ar 0 (.int .i64) (List.replicate (wr (a1 - (wr ((0 : Int) - (0 : Int))))).toNat (Ty.dflt (.int .i64))) .dp]) K (by kernel_rfl) g7 ?_
   obtain⟨g8,h⟩:=gS h
   refine nN K (pu 2 (an g8 (tn 1))) ?_
   exact arv [.shr 0, .ren [0] [0]] ⟨((List.replicate (wr (a1 - (wr ((0 : Int) - (0 : Int))))).toNat (Ty.dflt (.int .i64))).take ((0 : Int).toNat)), rfl, h⟩
  refine VW.skip ?_
  exact arv [.nilS 0 (.int .i64) .dp, .ren [0] [0]] ⟨[], rfl, h⟩
 rintro s ⟨x4, rfl, h⟩
 unfold F97_j0 at h
 refine nR K (tn 2) ?_
 cases h; exact VW.ret (rt [some 0])
def F68_j0 (N : Nat) (x31 : (List Int)) : Option ((List Int)) :=
  some x31
def F68_l0_b (N : Nat) (a0 : (List (List Int))) (nx45 : (List Int) → Int → Int → Option ((List Int))) (x38 : (List Int)) (x39 : Int) (x40 : Int) : Option ((List Int)) :=
  cond (decide (x40 < x39)) (gd (InR x40 a0.length) (gd (x38.length + (a0.getD x40.toNat (Ty.dflt (.sl (.int .i64)))).length ≤ lim (.int .i64)) (nx45 (x38 ++ (a0.getD x40.toNat (Ty.dflt (.sl (.int .i64))))) x39 (IntKind.i64.wrap (x40 + (1 : Int)))))) (F68_j0 N x38)
def F68_l0 (N : Nat) (a0 : (List (List Int))) := loopF (F68_l0_b N a0) (fun _ _ _ => none)
theorem F68_l0_s N a0 {k} (hk : 0 < k) x38 x39 x40 : F68_l0 N a0 k x38 x39 x40 = F68_l0_b N a0 (F68_l0 N a0 (k - 1)) x38 x39 x40 := by cases k;cases hk;rfl
def F68_j1 (N : Nat) (a0 : (List (List Int))) (x12 : Int) : Option ((List Int)) :=
  andO (F97 N ([]) x12) fun y13 => F68_l0 N a0 N y13 (a0.length : Int) (0 : Int)
def F68_l1_b (N : Nat) (a0 : (List (List Int))) (nx59 : Int → Int → Int → Option ((List Int))) (x54 : Int) (x55 : Int) (x56 : Int) : Option ((List Int)) :=
  cond (decide (x56 < x55)) (gd (InR x56 a0.length) (cond (decide ((IntKind.i64.wrap (x54 + ((a0.getD x56.toNat (Ty.dflt (.sl (.int .i64)))).length : Int))) < (0 : Int))) (none) (nx59 (IntKind.i64.wrap (x54 + ((a0.getD x56.toNat (Ty.dflt (.sl (.int .i64)))).length : Int))) x55 (IntKind.i64.wrap (x56 + (1 : Int)))))) (F68_j1 N a0 x54)
def F68_l1 (N : Nat) (a0 : (List (List Int))) := loopF (F68_l1_b N a0) (fun _ _ _ => none)
theorem F68_l1_s N a0 {k} (hk : 0 < k) x54 x55 x56 : F68_l1 N a0 k x54 x55 x56 = F68_l1_b N a0 (F68_l1 N a0 (k - 1)) x54 x55 x56 := by cases k;cases hk;rfl
def F68 (N : Nat) (a0 : (List (List Int))) : Option ((List Int)) :=
  F68_l1 N a0 N (0 : Int) (a0.length : Int) (0 : Int)
theorem ok68 N a0 {r} (h : F68 N a0 = some r) : Con prog 68 [Vv (.sl (.sl (.int .i64))) a0] [.lf (.own (.int .i64) r .dp)] := by
 refine ctr [.lf (.own (.int .i64) .dp)] K func68 rfl fun w0 E0 ht => ?_
 unfold F68 at h
 show VW _ _ _ _ _ (retQ _ _ _ _) _
 refine nR K (tn 1) <| nR K (tn 1) ?_
 refine VW.join (fun s => ∃ x12, s = ⟨[(0, Vv (.sl (.sl (.int .i64))) a0), (3, I x12)], []⟩ ∧ F68_j1 N a0 x12 = some r) ?_ ?_
 ·refine nR K (tn 3) <| VW.block <| lop (fun k s => ∃ x54 x55 x56, s = ⟨[(0, Vv (.sl (.sl (.int .i64))) a0), (3, I x54), (9, Vv (.sl (.sl (.int .i64))) a0), (10, I x55), (11, I x56)], []⟩ ∧ F68_l1 N a0 k x54 x55 x56 = some r) N [.ren [0, 3, 9, 10, 11] []] ⟨(0 : Int), (a0.length : Int), (0 : Int), rfl, h⟩ ?_
  rintro k59 s ⟨x54, x55, x56, rfl, h⟩
  cases k59 with
  | zero => cases show none = some r from h
  | succ k59 =>
   replace h : F68_l1_b N a0 (F68_l1 N a0 k59) x54 x55 x56 = some r := h
   unfold F68_l1_b at h
   refine nR K (tn 1) <| sq ?_
   refine cnd h ?_ ?_<;>intro h
   ·refine VW.skip <| sq <| VW.block ?_
    obtain⟨g61,h⟩:=gS h
    refine nR K (an g61 (tn 2)) <| nR K (tn 5) <| nR K (tn 2) ?_
    refine cnd h ?_ ?_<;>intro h
    ·exact nomatch h
    refine VW.skip <| nE K (tn 2) ?_
    exact aro [.ren [0, 3, 9, 10, 11] []] ⟨(wr (x54 + ((a0.getD x56.toNat (Ty.dflt (.sl (.int .i64)))).length : Int))), x55, (wr (x56 + (1 : Int))), rfl, h⟩
   refine VW.exit ?_
   exact arv [.ren [0, 3] []] ⟨x54, rfl, h⟩
 rintro s ⟨x12, rfl, h⟩
 unfold F68_j1 at h
 refine sq <| VW.region <| nG K 1 (tn 1) ?_
 obtain⟨y13,hy,h⟩:=aS h
 refine clc false [.k, .t (.int .i64)] [] (some 24) K (ok97 N _ _ hy) <| nN K (tn 1) ?_
 refine VW.join (fun s => ∃ x31, s = ⟨[(6, hh 0)], [ar 0 (.int .i64) x31 .dp]⟩ ∧ F68_j0 N x31 = some r) ?_ ?_
 ·refine nR K (tn 3) <| VW.block <| lop (fun k s => ∃ x38 x39 x40, s = ⟨[(6, hh 0), (25, Vv (.sl (.sl (.int .i64))) a0), (26, I x39), (27, I x40)], [ar 0 (.int .i64) x38 .dp]⟩ ∧ F68_l0 N a0 k x38 x39 x40 = some r) N [.ren [6, 25, 26, 27] [0]] ⟨y13, (a0.length : Int), (0 : Int), rfl, h⟩ ?_
  rintro k45 s ⟨x38, x39, x40, rfl, h⟩
  cases k45 with
  | zero => cases show none = some r from h
  | succ k45 =>
   replace h : F68_l0_b N a0 (F68_l0 N a0 k45) x38 x39 x40 = some r := h
   unfold F68_l0_b at h
   refine nR K (tn 1) <| sq ?_
   refine cnd h ?_ ?_<;>intro h
   ·refine VW.skip <| sq <| VW.block ?_
    obtain⟨g48,h⟩:=gS h
    refine nR K (an g48 (tn 2)) ?_
    obtain⟨g49,h⟩:=gS h
    refine nE K (pu 2 (an g49 (tn 1))) <| nE K (tn 2) ?_
    exact aro [.ren [6, 25, 26, 27] [0]] ⟨(x38 ++ (a0.getD x40.toNat (Ty.dflt (.sl (.int .i64))))), x39, (wr (x40 + (1 : Int))), rfl, h⟩
   refine VW.exit ?_
   exact arv [.ren [6] [0]] ⟨x38, rfl, h⟩
 rintro s ⟨x31, rfl, h⟩
 unfold F68_j0 at h
 refine nR K (tn 2) ?_
 cases h; exact VW.ret (rt [some 0])
def F98_j0 (N : Nat) (x4 : (List (List Int))) : Option ((List (List Int))) :=
  some x4
def F98 (N : Nat) (a0 : (List (List Int))) (a1 : Int) : Option ((List (List Int))) :=
  cond (decide (a1 < (0 : Int))) (none) (cond (decide ((IntKind.i64.wrap (a1 - (IntKind.i64.wrap ((0 : Int) - (0 : Int))))) > (0 : Int))) (gd ((0 : Int) = (0 : Int)) (gd (0 ≤ (IntKind.i64.wrap (a1 - (IntKind.i64.wrap ((0 : Int) - (0 : Int))))) ∧ (IntKind.i64.wrap (a1 - (IntKind.i64.wrap ((0 : Int) - (0 : Int))))) ≤ (lim (.sl (.int .i64)) : Int)) (gd (0 ≤ (0 : Int) ∧ (0 : Int) ≤ ((List.replicate (IntKind.i64.wrap (a1 - (IntKind.i64.wrap ((0 : Int) - (0 : Int))))).toNat (Ty.dflt (.sl (.int .i64)))).length : Int)) (F98_j0 N ((List.replicate (IntKind.i64.wrap (a1 - (IntKind.i64.wrap ((0 : Int) - (0 : Int))))).toNat (Ty.dflt (.sl (.int .i64)))).take ((0 : Int).toNat)))))) (F98_j0 N ([])))
theorem ok98 N a0 a1 {r} (h : F98 N a0 a1 = some r) : Con prog 98 [.lf (.nil), I a1] [.lf (.own (.sl (.int .i64)) r .tp)] := by
 refine ctr [.lf (.own (.sl (.int .i64)) .tp)] K func98 rfl fun w0 E0 ht => ?_
 unfold F98 at h
 show VW _ _ _ _ _ (retQ _ _ _ _) _
 refine nR K (tn 1) <| sq <| nR K (tn 2) ?_
 refine cnd h ?_ ?_<;>intro h
 ·exact nomatch h
 refine VW.skip ?_
 refine VW.join (fun s => ∃ x4, s = ⟨[(0, hh 0)], [ar 0 (.sl (.int .i64)) x4 .tp]⟩ ∧ F98_j0 N x4 = some r) ?_ ?_
 ·refine sq <| VW.region <| nG K 2 (tn 2) <| VO.capN (d := 10) (v := I (0 : Int)) K (by kernel_rfl) <| nN K (tn 5) <| nR K (tn 2) ?_
  refine cnd h ?_ ?_<;>intro h
  ·refine VW.region <| nG K 2 (tn 2) <| VO.capN (d := 19) (v := I (0 : Int)) K (by kernel_rfl) ?_
   obtain⟨g6,h⟩:=gS h
   refine VO.cutN (d := 20) (φ := (0 : Int) = (0 : Int)) (v := .lf .nil) K (by kernel_rfl) g6 <| nG K 1 (tn 1) ?_
   obtain⟨g7,h⟩:=gS h
   refine VO.appZ (d := 22) (φ := 0 ≤ (wr (a1 - (wr ((0 : Int) - (0 : Int))))) ∧ (wr (a1 - (wr ((0 : Int) - (0 : Int))))) ≤ (lim (.sl (.int .i64)) : Int)) (v := hh 0) (H' := [ar 0 (.sl (.int .i64)) (List.replicate (wr (a1 - (wr ((0 : Int) - (0 : Int))))).toNat (Ty.dflt (.sl (.int .i64)))) .tp]) K (by kernel_rfl) g7 ?_
   obtain⟨g8,h⟩:=gS h
   refine nN K (pu 2 (an g8 (tn 1))) ?_
   exact arv [.shr 0, .ren [0] [0]] ⟨((List.replicate (wr (a1 - (wr ((0 : Int) - (0 : Int))))).toNat (Ty.dflt (.sl (.int .i64)))).take ((0 : Int).toNat)), rfl, h⟩
  refine VW.skip ?_
  exact arv [.nilS 0 (.sl (.int .i64)) .tp, .ren [0] [0]] ⟨[], rfl, h⟩
 rintro s ⟨x4, rfl, h⟩
 unfold F98_j0 at h
 refine nR K (tn 2) ?_
 cases h; exact VW.ret (rt [some 0])
def F69_j0 (N : Nat) (x31 : (List (List Int))) : Option ((List (List Int))) :=
  some x31
def F69_l0_b (N : Nat) (a0 : (List (List (List Int)))) (nx45 : (List (List Int)) → Int → Int → Option ((List (List Int)))) (x38 : (List (List Int))) (x39 : Int) (x40 : Int) : Option ((List (List Int))) :=
  cond (decide (x40 < x39)) (gd (InR x40 a0.length) (gd (x38.length + (a0.getD x40.toNat (Ty.dflt (.sl (.sl (.int .i64))))).length ≤ lim (.sl (.int .i64))) (nx45 (x38 ++ (a0.getD x40.toNat (Ty.dflt (.sl (.sl (.int .i64)))))) x39 (IntKind.i64.wrap (x40 + (1 : Int)))))) (F69_j0 N x38)
def F69_l0 (N : Nat) (a0 : (List (List (List Int)))) := loopF (F69_l0_b N a0) (fun _ _ _ => none)
theorem F69_l0_s N a0 {k} (hk : 0 < k) x38 x39 x40 : F69_l0 N a0 k x38 x39 x40 = F69_l0_b N a0 (F69_l0 N a0 (k - 1)) x38 x39 x40 := by cases k;cases hk;rfl
def F69_j1 (N : Nat) (a0 : (List (List (List Int)))) (x12 : Int) : Option ((List (List Int))) :=
  andO (F98 N ([]) x12) fun y13 => F69_l0 N a0 N y13 (a0.length : Int) (0 : Int)
def F69_l1_b (N : Nat) (a0 : (List (List (List Int)))) (nx59 : Int → Int → Int → Option ((List (List Int)))) (x54 : Int) (x55 : Int) (x56 : Int) : Option ((List (List Int))) :=
  cond (decide (x56 < x55)) (gd (InR x56 a0.length) (cond (decide ((IntKind.i64.wrap (x54 + ((a0.getD x56.toNat (Ty.dflt (.sl (.sl (.int .i64))))).length : Int))) < (0 : Int))) (none) (nx59 (IntKind.i64.wrap (x54 + ((a0.getD x56.toNat (Ty.dflt (.sl (.sl (.int .i64))))).length : Int))) x55 (IntKind.i64.wrap (x56 + (1 : Int)))))) (F69_j1 N a0 x54)
def F69_l1 (N : Nat) (a0 : (List (List (List Int)))) := loopF (F69_l1_b N a0) (fun _ _ _ => none)
theorem F69_l1_s N a0 {k} (hk : 0 < k) x54 x55 x56 : F69_l1 N a0 k x54 x55 x56 = F69_l1_b N a0 (F69_l1 N a0 (k - 1)) x54 x55 x56 := by cases k;cases hk;rfl
def F69 (N : Nat) (a0 : (List (List (List Int)))) : Option ((List (List Int))) :=
  F69_l1 N a0 N (0 : Int) (a0.length : Int) (0 : Int)
theorem ok69 N a0 {r} (h : F69 N a0 = some r) : Con prog 69 [Vv (.sl (.sl (.sl (.int .i64)))) a0] [.lf (.own (.sl (.int .i64)) r .tp)] := by
 refine ctr [.lf (.own (.sl (.int .i64)) .tp)] K func69 rfl fun w0 E0 ht => ?_
 unfold F69 at h
 show VW _ _ _ _ _ (retQ _ _ _ _) _
 refine nR K (tn 1) <| nR K (tn 1) ?_
 refine VW.join (fun s => ∃ x12, s = ⟨[(0, Vv (.sl (.sl (.sl (.int .i64)))) a0), (3, I x12)], []⟩ ∧ F69_j1 N a0 x12 = some r) ?_ ?_
 ·refine nR K (tn 3) <| VW.block <| lop (fun k s => ∃ x54 x55 x56, s = ⟨[(0, Vv (.sl (.sl (.sl (.int .i64)))) a0), (3, I x54), (9, Vv (.sl (.sl (.sl (.int .i64)))) a0), (10, I x55), (11, I x56)], []⟩ ∧ F69_l1 N a0 k x54 x55 x56 = some r) N [.ren [0, 3, 9, 10, 11] []] ⟨(0 : Int), (a0.length : Int), (0 : Int), rfl, h⟩ ?_
  rintro k59 s ⟨x54, x55, x56, rfl, h⟩
  cases k59 with
  | zero => cases show none = some r from h
  | succ k59 =>
   replace h : F69_l1_b N a0 (F69_l1 N a0 k59) x54 x55 x56 = some r := h
   unfold F69_l1_b at h
   refine nR K (tn 1) <| sq ?_
   refine cnd h ?_ ?_<;>intro h
   ·refine VW.skip <| sq <| VW.block ?_
    obtain⟨g61,h⟩:=gS h
    refine nR K (an g61 (tn 2)) <| nR K (tn 5) <| nR K (tn 2) ?_
    refine cnd h ?_ ?_<;>intro h
    ·exact nomatch h
    refine VW.skip <| nE K (tn 2) ?_
    exact aro [.ren [0, 3, 9, 10, 11] []] ⟨(wr (x54 + ((a0.getD x56.toNat (Ty.dflt (.sl (.sl (.int .i64))))).length : Int))), x55, (wr (x56 + (1 : Int))), rfl, h⟩
   refine VW.exit ?_
   exact arv [.ren [0, 3] []] ⟨x54, rfl, h⟩
 rintro s ⟨x12, rfl, h⟩
 unfold F69_j1 at h
 refine sq <| VW.region <| nG K 1 (tn 1) ?_
 obtain⟨y13,hy,h⟩:=aS h
 refine clc false [.k, .t (.int .i64)] [] (some 24) K (ok98 N _ _ hy) <| nN K (tn 1) ?_
 refine VW.join (fun s => ∃ x31, s = ⟨[(6, hh 0)], [ar 0 (.sl (.int .i64)) x31 .tp]⟩ ∧ F69_j0 N x31 = some r) ?_ ?_
 ·refine nR K (tn 3) <| VW.block <| lop (fun k s => ∃ x38 x39 x40, s = ⟨[(6, hh 0), (25, Vv (.sl (.sl (.sl (.int .i64)))) a0), (26, I x39), (27, I x40)], [ar 0 (.sl (.int .i64)) x38 .tp]⟩ ∧ F69_l0 N a0 k x38 x39 x40 = some r) N [.ren [6, 25, 26, 27] [0]] ⟨y13, (a0.length : Int), (0 : Int), rfl, h⟩ ?_
  rintro k45 s ⟨x38, x39, x40, rfl, h⟩
  cases k45 with
  | zero => cases show none = some r from h
  | succ k45 =>
   replace h : F69_l0_b N a0 (F69_l0 N a0 k45) x38 x39 x40 = some r := h
   unfold F69_l0_b at h
   refine nR K (tn 1) <| sq ?_
   refine cnd h ?_ ?_<;>intro h
   ·refine VW.skip <| sq <| VW.block ?_
    obtain⟨g48,h⟩:=gS h
    refine nR K (an g48 (tn 2)) ?_
    obtain⟨g49,h⟩:=gS h
    refine nE K (pu 2 (an g49 (tn 1))) <| nE K (tn 2) ?_
    exact aro [.ren [6, 25, 26, 27] [0]] ⟨(x38 ++ (a0.getD x40.toNat (Ty.dflt (.sl (.sl (.int .i64)))))), x39, (wr (x40 + (1 : Int))), rfl, h⟩
   refine VW.exit ?_
   exact arv [.ren [6] [0]] ⟨x38, rfl, h⟩
 rintro s ⟨x31, rfl, h⟩
 unfold F69_j0 at h
 refine nR K (tn 2) ?_
 cases h; exact VW.ret (rt [some 0])
def F70 (N : Nat) (a0 : (List (List Int))) : Option ((List (List Int))) :=
  gd (a0.length ≤ lim (.sl (.int .i64))) (some a0)
theorem ok70 N a0 {r} (h : F70 N a0 = some r) : Con prog 70 [Vv (.sl (.sl (.int .i64))) a0] [.lf (.own (.sl (.int .i64)) r .tp)] := by
 refine ctr [.lf (.own (.sl (.int .i64)) .tp)] K func70 rfl fun w0 E0 ht => ?_
 unfold F70 at h
 show VW _ _ _ _ _ (retQ _ _ _ _) _
 refine nR K (tn 1) <| sq <| sq <| VW.region <| nG K 1 (tn 1) ?_
 refine VO.isNil (d := 4) (e := (.sl (.int .i64))) (xs := a0) K rfl rfl rfl rfl (by kernel_rfl) (by kernel_rfl) (fun hx => ?_) ?_
 ·replace h : some ([]) = some r := by
   subst hx; first | exact h | exact (gd_some h).2
  refine nN K (tn 0) ?_
  refine VW.cond (b := true) (by kernel_rfl) (fun _ => ?_) (fun h' => nomatch h')
  refine nR K (tn 1) ?_
  cases h; exact VW.ret (rt [none])
 refine nN K (tn 0) ?_
 refine VW.cond (b := false) (by kernel_rfl) (fun h' => nomatch h') (fun _ => ?_)
 refine VW.skip ?_
 obtain⟨g1,h⟩:=gS h
 refine nR K (pu 2 (an g1 (tn 1))) ?_
 cases h; exact VW.ret (rt [some 0])
def F107_j0 (N : Nat) (nx356 : (List (List Int)) → Int → Option ((List (List Int)))) (x179 : Int) (x444 : (List (List Int))) : Option ((List (List Int))) :=
  nx356 x444 (IntKind.i64.wrap (x179 + (1 : Int)))
def F107_l0_b (N : Nat) (a1 : Int) (nx356 : (List (List Int)) → Int → Option ((List (List Int)))) (p3 : (List Int) → (List Int) → Option (Int)) (x179 : Int) (nx504 : (List (List Int)) → Int → Option ((List (List Int)))) (x474 : (List (List Int))) (x475 : Int) : Option ((List (List Int))) :=
  cond (decide (x475 > a1)) (gd (InR x475 x474.length) (gd (x475.toNat < x474.length) (gd (InR (IntKind.i64.wrap (x475 - (1 : Int))) x474.length) (gd ((IntKind.i64.wrap (x475 - (1 : Int))).toNat < x474.length) (andO (p3 (x474.getD x475.toNat (Ty.dflt (.sl (.int .i64)))) (x474.getD ((IntKind.i64.wrap (x475 - (1 : Int))).toNat) (Ty.dflt (.sl (.int .i64))))) fun y516 => cond (decide (y516 < (0 : Int))) (gd (InR (IntKind.i64.wrap (x475 - (1 : Int))) x474.length) (gd ((IntKind.i64.wrap (x475 - (1 : Int))).toNat < x474.length) (gd (InR x475 x474.length) (gd (x475.toNat < x474.length) (gd (InR x475 x474.length) (gd (x475.toNat < x474.length) (gd (InR (IntKind.i64.wrap (x475 - (1 : Int))) (x474.set x475.toNat (x474.getD ((IntKind.i64.wrap (x475 - (1 : Int))).toNat) (Ty.dflt (.sl (.int .i64))))).length) (gd ((IntKind.i64.wrap (x475 - (1 : Int))).toNat < (x474.set x475.toNat (x474.getD ((IntKind.i64.wrap (x475 - (1 : Int))).toNat) (Ty.dflt (.sl (.int .i64))))).length) (nx504 ((x474.set x475.toNat (x474.getD ((IntKind.i64.wrap (x475 - (1 : Int))).toNat) (Ty.dflt (.sl (.int .i64))))).set ((IntKind.i64.wrap (x475 - (1 : Int))).toNat) (x474.getD x475.toNat (Ty.dflt (.sl (.int .i64))))) (IntKind.i64.wrap (x475 - (1 : Int)))))))))))) (F107_j0 N nx356 x179 x474)))))) (F107_j0 N nx356 x179 x474)
def F107_l0 (N : Nat) (a1 : Int) (nx356 : (List (List Int)) → Int → Option ((List (List Int)))) (p3 : (List Int) → (List Int) → Option (Int)) (x179 : Int) := loopF (F107_l0_b N a1 nx356 p3 x179) (fun _ _ => none)
theorem F107_l0_s N a1 nx356 (p3 : (List Int) → (List Int) → Option (Int)) x179 {k} (hk : 0 < k) x474 x475 : F107_l0 N a1 nx356 p3 x179 k x474 x475 = F107_l0_b N a1 nx356 p3 x179 (F107_l0 N a1 nx356 p3 x179 (k - 1)) x474 x475 := by cases k;cases hk;rfl
def F107_l1_b (N : Nat) (a1 : Int) (a2 : Int) (p3 : (List Int) → (List Int) → Option (Int)) (nx356 : (List (List Int)) → Int → Option ((List (List Int)))) (x178 : (List (List Int))) (x179 : Int) : Option ((List (List Int))) :=
  cond (decide (x179 < a2)) (F107_l0 N a1 nx356 p3 x179 N x178 x179) (some x178)
def F107_l1 (N : Nat) (a1 : Int) (a2 : Int) (p3 : (List Int) → (List Int) → Option (Int)) := loopF (F107_l1_b N a1 a2 p3) (fun _ _ => none)
theorem F107_l1_s N a1 a2 (p3 : (List Int) → (List Int) → Option (Int)) {k} (hk : 0 < k) x178 x179 : F107_l1 N a1 a2 p3 k x178 x179 = F107_l1_b N a1 a2 p3 (F107_l1 N a1 a2 p3 (k - 1)) x178 x179 := by cases k;cases hk;rfl
def F107 (N : Nat) (a0 : (List (List Int))) (a1 : Int) (a2 : Int) (p3 : (List Int) → (List Int) → Option (Int)) : Option ((List (List Int))) :=
  F107_l1 N a1 a2 p3 N a0 (IntKind.i64.wrap (a1 + (1 : Int)))
def F115_l0_b (N : Nat) (a1 : Int) (a2 : Int) (a3 : Int) (nx35 : (List (List Int)) → Int → Option ((List (List Int)))) (x17 : (List (List Int))) (x18 : Int) : Option ((List (List Int))) :=
  cond (decide (x18 < a3)) (gd (InR (IntKind.i64.wrap (a2 + x18)) x17.length) (gd ((IntKind.i64.wrap (a2 + x18)).toNat < x17.length) (gd (InR (IntKind.i64.wrap (a1 + x18)) x17.length) (gd ((IntKind.i64.wrap (a1 + x18)).toNat < x17.length) (gd (InR (IntKind.i64.wrap (a1 + x18)) x17.length) (gd ((IntKind.i64.wrap (a1 + x18)).toNat < x17.length) (gd (InR (IntKind.i64.wrap (a2 + x18)) (x17.set ((IntKind.i64.wrap (a1 + x18)).toNat) (x17.getD ((IntKind.i64.wrap (a2 + x18)).toNat) (Ty.dflt (.sl (.int .i64))))).length) (gd ((IntKind.i64.wrap (a2 + x18)).toNat < (x17.set ((IntKind.i64.wrap (a1 + x18)).toNat) (x17.getD ((IntKind.i64.wrap (a2 + x18)).toNat) (Ty.dflt (.sl (.int .i64))))).length) (nx35 ((x17.set ((IntKind.i64.wrap (a1 + x18)).toNat) (x17.getD ((IntKind.i64.wrap (a2 + x18)).toNat) (Ty.dflt (.sl (.int .i64))))).set ((IntKind.i64.wrap (a2 + x18)).toNat) (x17.getD ((IntKind.i64.wrap (a1 + x18)).toNat) (Ty.dflt (.sl (.int .i64))))) (IntKind.i64.wrap (x18 + (1 : Int)))))))))))) (some x17)
def F115_l0 (N : Nat) (a1 : Int) (a2 : Int) (a3 : Int) := loopF (F115_l0_b N a1 a2 a3) (fun _ _ => none)
theorem F115_l0_s N a1 a2 a3 {k} (hk : 0 < k) x17 x18 : F115_l0 N a1 a2 a3 k x17 x18 = F115_l0_b N a1 a2 a3 (F115_l0 N a1 a2 a3 (k - 1)) x17 x18 := by cases k;cases hk;rfl
def F115 (N : Nat) (a0 : (List (List Int))) (a1 : Int) (a2 : Int) (a3 : Int) (p4 : (List Int) → (List Int) → Option (Int)) : Option ((List (List Int))) :=
  F115_l0 N a1 a2 a3 N a0 (0 : Int)
def F114_j0 (N : Nat) (a2 : Int) (p4 : (List Int) → (List Int) → Option (Int)) (x13 : (List (List Int))) (x14 : Int) : Option ((List (List Int))) :=
  andO (F115 N x13 (IntKind.i64.wrap (a2 - x14)) a2 x14 p4) fun y15 => some y15
def F114_l0_b (N : Nat) (a2 : Int) (p4 : (List Int) → (List Int) → Option (Int)) (nx26 : (List (List Int)) → Int → Int → Option ((List (List Int)))) (x21 : (List (List Int))) (x22 : Int) (x23 : Int) : Option ((List (List Int))) :=
  cond (x22 != x23) (cond (decide (x22 > x23)) (andO (F115 N x21 (IntKind.i64.wrap (a2 - x22)) a2 x23 p4) fun y27 => nx26 y27 (IntKind.i64.wrap (x22 - x23)) x23) (andO (F115 N x21 (IntKind.i64.wrap (a2 - x22)) (IntKind.i64.wrap ((IntKind.i64.wrap (a2 + x23)) - x22)) x22 p4) fun y28 => nx26 y28 x22 (IntKind.i64.wrap (x23 - x22)))) (F114_j0 N a2 p4 x21 x22)
def F114_l0 (N : Nat) (a2 : Int) (p4 : (List Int) → (List Int) → Option (Int)) := loopF (F114_l0_b N a2 p4) (fun _ _ _ => none)
theorem F114_l0_s N a2 (p4 : (List Int) → (List Int) → Option (Int)) {k} (hk : 0 < k) x21 x22 x23 : F114_l0 N a2 p4 k x21 x22 x23 = F114_l0_b N a2 p4 (F114_l0 N a2 p4 (k - 1)) x21 x22 x23 := by cases k;cases hk;rfl
def F114 (N : Nat) (a0 : (List (List Int))) (a1 : Int) (a2 : Int) (a3 : Int) (p4 : (List Int) → (List Int) → Option (Int)) : Option ((List (List Int))) :=
  F114_l0 N a2 p4 N a0 (IntKind.i64.wrap (a2 - a1)) (IntKind.i64.wrap (a3 - a2))
def F108_j0 (N : Nat) (a3 : Int) (self : (List (List Int)) → Int → Int → Int → Option ((List (List Int)))) (x285 : Int) (x312 : Int) (x314 : (List (List Int))) : Option ((List (List Int))) :=
  cond (decide (x285 < x312)) (cond (decide (x312 < a3)) (andO (self x314 x285 x312 a3) fun y315 => some y315) (some x314)) (some x314)
def F108_j1 (N : Nat) (a1 : Int) (a3 : Int) (self : (List (List Int)) → Int → Int → Int → Option ((List (List Int)))) (x285 : Int) (x309 : Int) (x311 : (List (List Int))) (x312 : Int) : Option ((List (List Int))) :=
  cond (decide (a1 < x309)) (cond (decide (x309 < x285)) (andO (self x311 a1 x309 x285) fun y317 => F108_j0 N a3 self x285 x312 y317) (F108_j0 N a3 self x285 x312 x311)) (F108_j0 N a3 self x285 x312 x311)
def F108_j2 (N : Nat) (a0 : (List (List Int))) (a1 : Int) (a2 : Int) (a3 : Int) (p4 : (List Int) → (List Int) → Option (Int)) (self : (List (List Int)) → Int → Int → Int → Option ((List (List Int)))) (x285 : Int) (x286 : Int) (x309 : Int) : Option ((List (List Int))) :=
  cond (decide (x309 < a2)) (cond (decide (a2 < (IntKind.i64.wrap (x286 - x309)))) (andO (F114 N a0 x309 a2 (IntKind.i64.wrap (x286 - x309)) p4) fun y319 => F108_j1 N a1 a3 self x285 x309 y319 (IntKind.i64.wrap (x286 - x309))) (F108_j1 N a1 a3 self x285 x309 a0 (IntKind.i64.wrap (x286 - x309)))) (F108_j1 N a1 a3 self x285 x309 a0 (IntKind.i64.wrap (x286 - x309)))
def F108_l0_b (N : Nat) (a0 : (List (List Int))) (a1 : Int) (a2 : Int) (a3 : Int) (p4 : (List Int) → (List Int) → Option (Int)) (self : (List (List Int)) → Int → Int → Int → Option ((List (List Int)))) (x285 : Int) (x286 : Int) (nx335 : Int → Int → Int → Option ((List (List Int)))) (x327 : Int) (x328 : Int) (x329 : Int) : Option ((List (List Int))) :=
  cond (decide (x327 < x328)) (gd (InR (IntKind.i64.wrap (x329 - (IntKind.i64.wrap (Int.fdiv (IntKind.u64.wrap (IntKind.i64.wrap (x327 + x328))) (2 ^ (min (1 : Int).toNat IntKind.u64.bits)))))) a0.length) (gd ((IntKind.i64.wrap (x329 - (IntKind.i64.wrap (Int.fdiv (IntKind.u64.wrap (IntKind.i64.wrap (x327 + x328))) (2 ^ (min (1 : Int).toNat IntKind.u64.bits)))))).toNat < a0.length) (gd (InR (IntKind.i64.wrap (Int.fdiv (IntKind.u64.wrap (IntKind.i64.wrap (x327 + x328))) (2 ^ (min (1 : Int).toNat IntKind.u64.bits)))) a0.length) (gd ((IntKind.i64.wrap (Int.fdiv (IntKind.u64.wrap (IntKind.i64.wrap (x327 + x328))) (2 ^ (min (1 : Int).toNat IntKind.u64.bits)))).toNat < a0.length) (andO (p4 (a0.getD ((IntKind.i64.wrap (x329 - (IntKind.i64.wrap (Int.fdiv (IntKind.u64.wrap (IntKind.i64.wrap (x327 + x328))) (2 ^ (min (1 : Int).toNat IntKind.u64.bits)))))).toNat) (Ty.dflt (.sl (.int .i64)))) (a0.getD ((IntKind.i64.wrap (Int.fdiv (IntKind.u64.wrap (IntKind.i64.wrap (x327 + x328))) (2 ^ (min (1 : Int).toNat IntKind.u64.bits)))).toNat) (Ty.dflt (.sl (.int .i64))))) fun y340 => cond (!(decide (y340 < (0 : Int)))) (nx335 (IntKind.i64.wrap ((IntKind.i64.wrap (Int.fdiv (IntKind.u64.wrap (IntKind.i64.wrap (x327 + x328))) (2 ^ (min (1 : Int).toNat IntKind.u64.bits)))) + (1 : Int))) x328 x329) (nx335 x327 (IntKind.i64.wrap (Int.fdiv (IntKind.u64.wrap (IntKind.i64.wrap (x327 + x328))) (2 ^ (min (1 : Int).toNat IntKind.u64.bits)))) x329)))))) (F108_j2 N a0 a1 a2 a3 p4 self x285 x286 x327)
def F108_l0 (N : Nat) (a0 : (List (List Int))) (a1 : Int) (a2 : Int) (a3 : Int) (p4 : (List Int) → (List Int) → Option (Int)) (self : (List (List Int)) → Int → Int → Int → Option ((List (List Int)))) (x285 : Int) (x286 : Int) := loopF (F108_l0_b N a0 a1 a2 a3 p4 self x285 x286) (fun _ _ _ => none)
theorem F108_l0_s N a0 a1 a2 a3 (p4 : (List Int) → (List Int) → Option (Int)) (self : (List (List Int)) → Int → Int → Int → Option ((List (List Int)))) x285 x286 {k} (hk : 0 < k) x327 x328 x329 : F108_l0 N a0 a1 a2 a3 p4 self x285 x286 k x327 x328 x329 = F108_l0_b N a0 a1 a2 a3 p4 self x285 x286 (F108_l0 N a0 a1 a2 a3 p4 self x285 x286 (k - 1)) x327 x328 x329 := by cases k;cases hk;rfl
def F108_j3 (N : Nat) (a0 : (List (List Int))) (a1 : Int) (a2 : Int) (a3 : Int) (p4 : (List Int) → (List Int) → Option (Int)) (self : (List (List Int)) → Int → Int → Int → Option ((List (List Int)))) (x285 : Int) (x286 : Int) (x287 : Int) (x288 : Int) : Option ((List (List Int))) :=
  F108_l0 N a0 a1 a2 a3 p4 self x285 x286 N x287 x288 (IntKind.i64.wrap (x286 - (1 : Int)))
def F108_j4 (N : Nat) (a0 : (List (List Int))) (a1 : Int) (a2 : Int) (a3 : Int) (p4 : (List Int) → (List Int) → Option (Int)) (self : (List (List Int)) → Int → Int → Int → Option ((List (List Int)))) : Option ((List (List Int))) :=
  cond (decide (a2 > (IntKind.i64.wrap (Int.fdiv (IntKind.u64.wrap (IntKind.i64.wrap (a1 + a3))) (2 ^ (min (1 : Int).toNat IntKind.u64.bits)))))) (F108_j3 N a0 a1 a2 a3 p4 self (IntKind.i64.wrap (Int.fdiv (IntKind.u64.wrap (IntKind.i64.wrap (a1 + a3))) (2 ^ (min (1 : Int).toNat IntKind.u64.bits)))) (IntKind.i64.wrap ((IntKind.i64.wrap (Int.fdiv (IntKind.u64.wrap (IntKind.i64.wrap (a1 + a3))) (2 ^ (min (1 : Int).toNat IntKind.u64.bits)))) + a2)) (IntKind.i64.wrap ((IntKind.i64.wrap ((IntKind.i64.wrap (Int.fdiv (IntKind.u64.wrap (IntKind.i64.wrap (a1 + a3))) (2 ^ (min (1 : Int).toNat IntKind.u64.bits)))) + a2)) - a3)) (IntKind.i64.wrap (Int.fdiv (IntKind.u64.wrap (IntKind.i64.wrap (a1 + a3))) (2 ^ (min (1 : Int).toNat IntKind.u64.bits))))) (F108_j3 N a0 a1 a2 a3 p4 self (IntKind.i64.wrap (Int.fdiv (IntKind.u64.wrap (IntKind.i64.wrap (a1 + a3))) (2 ^ (min (1 : Int).toNat IntKind.u64.bits)))) (IntKind.i64.wrap ((IntKind.i64.wrap (Int.fdiv (IntKind.u64.wrap (IntKind.i64.wrap (a1 + a3))) (2 ^ (min (1 : Int).toNat IntKind.u64.bits)))) + a2)) a1 a2)
def F108_j5 (N : Nat) (x413 : (List (List Int))) : Option ((List (List Int))) :=
  some x413
def F108_l1_b (N : Nat) (x361 : Int) (nx449 : (List (List Int)) → Int → Option ((List (List Int)))) (x431 : (List (List Int))) (x432 : Int) : Option ((List (List Int))) :=
  cond (decide (x432 > x361)) (gd (InR (IntKind.i64.wrap (x432 - (1 : Int))) x431.length) (gd ((IntKind.i64.wrap (x432 - (1 : Int))).toNat < x431.length) (gd (InR x432 x431.length) (gd (x432.toNat < x431.length) (gd (InR x432 x431.length) (gd (x432.toNat < x431.length) (gd (InR (IntKind.i64.wrap (x432 - (1 : Int))) (x431.set x432.toNat (x431.getD ((IntKind.i64.wrap (x432 - (1 : Int))).toNat) (Ty.dflt (.sl (.int .i64))))).length) (gd ((IntKind.i64.wrap (x432 - (1 : Int))).toNat < (x431.set x432.toNat (x431.getD ((IntKind.i64.wrap (x432 - (1 : Int))).toNat) (Ty.dflt (.sl (.int .i64))))).length) (nx449 ((x431.set x432.toNat (x431.getD ((IntKind.i64.wrap (x432 - (1 : Int))).toNat) (Ty.dflt (.sl (.int .i64))))).set ((IntKind.i64.wrap (x432 - (1 : Int))).toNat) (x431.getD x432.toNat (Ty.dflt (.sl (.int .i64))))) (IntKind.i64.wrap (x432 - (1 : Int)))))))))))) (F108_j5 N x431)
def F108_l1 (N : Nat) (x361 : Int) := loopF (F108_l1_b N x361) (fun _ _ => none)
theorem F108_l1_s N x361 {k} (hk : 0 < k) x431 x432 : F108_l1 N x361 k x431 x432 = F108_l1_b N x361 (F108_l1 N x361 (k - 1)) x431 x432 := by cases k;cases hk;rfl
def F108_j6 (N : Nat) (a0 : (List (List Int))) (a2 : Int) (x361 : Int) : Option ((List (List Int))) :=
  F108_l1 N x361 N a0 a2
def F108_l2_b (N : Nat) (a0 : (List (List Int))) (a2 : Int) (p4 : (List Int) → (List Int) → Option (Int)) (nx479 : Int → Int → Option ((List (List Int)))) (x472 : Int) (x473 : Int) : Option ((List (List Int))) :=
  cond (decide (x472 < x473)) (gd (InR a2 a0.length) (gd (a2.toNat < a0.length) (gd (InR (IntKind.i64.wrap (Int.fdiv (IntKind.u64.wrap (IntKind.i64.wrap (x472 + x473))) (2 ^ (min (1 : Int).toNat IntKind.u64.bits)))) a0.length) (gd ((IntKind.i64.wrap (Int.fdiv (IntKind.u64.wrap (IntKind.i64.wrap (x472 + x473))) (2 ^ (min (1 : Int).toNat IntKind.u64.bits)))).toNat < a0.length) (andO (p4 (a0.getD a2.toNat (Ty.dflt (.sl (.int .i64)))) (a0.getD ((IntKind.i64.wrap (Int.fdiv (IntKind.u64.wrap (IntKind.i64.wrap (x472 + x473))) (2 ^ (min (1 : Int).toNat IntKind.u64.bits)))).toNat) (Ty.dflt (.sl (.int .i64))))) fun y484 => cond (!(decide (y484 < (0 : Int)))) (nx479 (IntKind.i64.wrap ((IntKind.i64.wrap (Int.fdiv (IntKind.u64.wrap (IntKind.i64.wrap (x472 + x473))) (2 ^ (min (1 : Int).toNat IntKind.u64.bits)))) + (1 : Int))) x473) (nx479 x472 (IntKind.i64.wrap (Int.fdiv (IntKind.u64.wrap (IntKind.i64.wrap (x472 + x473))) (2 ^ (min (1 : Int).toNat IntKind.u64.bits)))))))))) (F108_j6 N a0 a2 x472)
def F108_l2 (N : Nat) (a0 : (List (List Int))) (a2 : Int) (p4 : (List Int) → (List Int) → Option (Int)) := loopF (F108_l2_b N a0 a2 p4) (fun _ _ => none)
theorem F108_l2_s N a0 a2 (p4 : (List Int) → (List Int) → Option (Int)) {k} (hk : 0 < k) x472 x473 : F108_l2 N a0 a2 p4 k x472 x473 = F108_l2_b N a0 a2 p4 (F108_l2 N a0 a2 p4 (k - 1)) x472 x473 := by cases k;cases hk;rfl
def F108_j7 (N : Nat) (a0 : (List (List Int))) (a1 : Int) (a2 : Int) (a3 : Int) (p4 : (List Int) → (List Int) → Option (Int)) (self : (List (List Int)) → Int → Int → Int → Option ((List (List Int)))) : Option ((List (List Int))) :=
  cond ((IntKind.i64.wrap (a3 - a2)) == (1 : Int)) (F108_l2 N a0 a2 p4 N a1 a2) (F108_j4 N a0 a1 a2 a3 p4 self)
def F108_j8 (N : Nat) (x556 : (List (List Int))) : Option ((List (List Int))) :=
  some x556
def F108_l3_b (N : Nat) (x504 : Int) (nx592 : (List (List Int)) → Int → Option ((List (List Int)))) (x574 : (List (List Int))) (x575 : Int) : Option ((List (List Int))) :=
  cond (decide (x575 < (IntKind.i64.wrap (x504 - (1 : Int))))) (gd (InR (IntKind.i64.wrap (x575 + (1 : Int))) x574.length) (gd ((IntKind.i64.wrap (x575 + (1 : Int))).toNat < x574.length) (gd (InR x575 x574.length) (gd (x575.toNat < x574.length) (gd (InR x575 x574.length) (gd (x575.toNat < x574.length) (gd (InR (IntKind.i64.wrap (x575 + (1 : Int))) (x574.set x575.toNat (x574.getD ((IntKind.i64.wrap (x575 + (1 : Int))).toNat) (Ty.dflt (.sl (.int .i64))))).length) (gd ((IntKind.i64.wrap (x575 + (1 : Int))).toNat < (x574.set x575.toNat (x574.getD ((IntKind.i64.wrap (x575 + (1 : Int))).toNat) (Ty.dflt (.sl (.int .i64))))).length) (nx592 ((x574.set x575.toNat (x574.getD ((IntKind.i64.wrap (x575 + (1 : Int))).toNat) (Ty.dflt (.sl (.int .i64))))).set ((IntKind.i64.wrap (x575 + (1 : Int))).toNat) (x574.getD x575.toNat (Ty.dflt (.sl (.int .i64))))) (IntKind.i64.wrap (x575 + (1 : Int)))))))))))) (F108_j8 N x574)
def F108_l3 (N : Nat) (x504 : Int) := loopF (F108_l3_b N x504) (fun _ _ => none)
theorem F108_l3_s N x504 {k} (hk : 0 < k) x574 x575 : F108_l3 N x504 k x574 x575 = F108_l3_b N x504 (F108_l3 N x504 (k - 1)) x574 x575 := by cases k;cases hk;rfl
def F108_j9 (N : Nat) (a0 : (List (List Int))) (a1 : Int) (x504 : Int) : Option ((List (List Int))) :=
  F108_l3 N x504 N a0 a1
def F108_l4_b (N : Nat) (a0 : (List (List Int))) (a1 : Int) (p4 : (List Int) → (List Int) → Option (Int)) (nx622 : Int → Int → Option ((List (List Int)))) (x615 : Int) (x616 : Int) : Option ((List (List Int))) :=
  cond (decide (x615 < x616)) (gd (InR (IntKind.i64.wrap (Int.fdiv (IntKind.u64.wrap (IntKind.i64.wrap (x615 + x616))) (2 ^ (min (1 : Int).toNat IntKind.u64.bits)))) a0.length) (gd ((IntKind.i64.wrap (Int.fdiv (IntKind.u64.wrap (IntKind.i64.wrap (x615 + x616))) (2 ^ (min (1 : Int).toNat IntKind.u64.bits)))).toNat < a0.length) (gd (InR a1 a0.length) (gd (a1.toNat < a0.length) (andO (p4 (a0.getD ((IntKind.i64.wrap (Int.fdiv (IntKind.u64.wrap (IntKind.i64.wrap (x615 + x616))) (2 ^ (min (1 : Int).toNat IntKind.u64.bits)))).toNat) (Ty.dflt (.sl (.int .i64)))) (a0.getD a1.toNat (Ty.dflt (.sl (.int .i64))))) fun y627 => cond (decide (y627 < (0 : Int))) (nx622 (IntKind.i64.wrap ((IntKind.i64.wrap (Int.fdiv (IntKind.u64.wrap (IntKind.i64.wrap (x615 + x616))) (2 ^ (min (1 : Int).toNat IntKind.u64.bits)))) + (1 : Int))) x616) (nx622 x615 (IntKind.i64.wrap (Int.fdiv (IntKind.u64.wrap (IntKind.i64.wrap (x615 + x616))) (2 ^ (min (1 : Int).toNat IntKind.u64.bits)))))))))) (F108_j9 N a0 a1 x615)
def F108_l4 (N : Nat) (a0 : (List (List Int))) (a1 : Int) (p4 : (List Int) → (List Int) → Option (Int)) := loopF (F108_l4_b N a0 a1 p4) (fun _ _ => none)
theorem F108_l4_s N a0 a1 (p4 : (List Int) → (List Int) → Option (Int)) {k} (hk : 0 < k) x615 x616 : F108_l4 N a0 a1 p4 k x615 x616 = F108_l4_b N a0 a1 p4 (F108_l4 N a0 a1 p4 (k - 1)) x615 x616 := by cases k;cases hk;rfl
def F108_b (N : Nat) (p4 : (List Int) → (List Int) → Option (Int)) (self : (List (List Int)) → Int → Int → Int → Option ((List (List Int)))) (a0 : (List (List Int))) (a1 : Int) (a2 : Int) (a3 : Int) : Option ((List (List Int))) :=
  cond ((IntKind.i64.wrap (a2 - a1)) == (1 : Int)) (F108_l4 N a0 a1 p4 N a2 a3) (F108_j7 N a0 a1 a2 a3 p4 self)
def F108_r (N : Nat) (p4 : (List Int) → (List Int) → Option (Int)) := loopF (F108_b N p4) (fun _ _ _ _ => none)
theorem F108_s N (p4 : (List Int) → (List Int) → Option (Int)) {k} (hk : 0 < k) a0 a1 a2 a3 : F108_r N p4 k a0 a1 a2 a3 = F108_b N p4 (F108_r N p4 (k - 1)) a0 a1 a2 a3 := by cases k;cases hk;rfl
def F108 (N : Nat) (a0 : (List (List Int))) (a1 : Int) (a2 : Int) (a3 : Int) (p4 : (List Int) → (List Int) → Option (Int)) : Option ((List (List Int))) := F108_r N p4 N a0 a1 a2 a3
def F99_j0 (N : Nat) (nx59 : (List (List Int)) → Int → Option ((List (List Int)))) (x35 : Int) (x71 : (List (List Int))) : Option ((List (List Int))) :=
  nx59 x71 (IntKind.i64.wrap (x35 * (2 : Int)))
def F99_j1 (N : Nat) (a1 : Int) (nx59 : (List (List Int)) → Int → Option ((List (List Int)))) (p2 : (List Int) → (List Int) → Option (Int)) (x35 : Int) (x68 : (List (List Int))) (x69 : Int) : Option ((List (List Int))) :=
  cond (decide ((IntKind.i64.wrap (x69 + x35)) < a1)) (andO (F108 N x68 x69 (IntKind.i64.wrap (x69 + x35)) a1 p2) fun y73 => F99_j0 N nx59 x35 y73) (F99_j0 N nx59 x35 x68)
def F99_l0_b (N : Nat) (a1 : Int) (nx59 : (List (List Int)) → Int → Option ((List (List Int)))) (p2 : (List Int) → (List Int) → Option (Int)) (x35 : Int) (nx81 : (List (List Int)) → Int → Int → Option ((List (List Int)))) (x77 : (List (List Int))) (x78 : Int) (x79 : Int) : Option ((List (List Int))) :=
  cond (decide (x79 ≤ a1)) (andO (F108 N x77 x78 (IntKind.i64.wrap (x78 + x35)) x79 p2) fun y82 => nx81 y82 x79 (IntKind.i64.wrap (x79 + (IntKind.i64.wrap ((2 : Int) * x35))))) (F99_j1 N a1 nx59 p2 x35 x77 x78)
def F99_l0 (N : Nat) (a1 : Int) (nx59 : (List (List Int)) → Int → Option ((List (List Int)))) (p2 : (List Int) → (List Int) → Option (Int)) (x35 : Int) := loopF (F99_l0_b N a1 nx59 p2 x35) (fun _ _ _ => none)
theorem F99_l0_s N a1 nx59 (p2 : (List Int) → (List Int) → Option (Int)) x35 {k} (hk : 0 < k) x77 x78 x79 : F99_l0 N a1 nx59 p2 x35 k x77 x78 x79 = F99_l0_b N a1 nx59 p2 x35 (F99_l0 N a1 nx59 p2 x35 (k - 1)) x77 x78 x79 := by cases k;cases hk;rfl
def F99_l1_b (N : Nat) (a1 : Int) (p2 : (List Int) → (List Int) → Option (Int)) (nx59 : (List (List Int)) → Int → Option ((List (List Int)))) (x34 : (List (List Int))) (x35 : Int) : Option ((List (List Int))) :=
  cond (decide (x35 < a1)) (F99_l0 N a1 nx59 p2 x35 N x34 (0 : Int) (IntKind.i64.wrap ((2 : Int) * x35))) (some x34)
def F99_l1 (N : Nat) (a1 : Int) (p2 : (List Int) → (List Int) → Option (Int)) := loopF (F99_l1_b N a1 p2) (fun _ _ => none)
theorem F99_l1_s N a1 (p2 : (List Int) → (List Int) → Option (Int)) {k} (hk : 0 < k) x34 x35 : F99_l1 N a1 p2 k x34 x35 = F99_l1_b N a1 p2 (F99_l1 N a1 p2 (k - 1)) x34 x35 := by cases k;cases hk;rfl
def F99_j2 (N : Nat) (a1 : Int) (p2 : (List Int) → (List Int) → Option (Int)) (x8 : (List (List Int))) (x9 : Int) : Option ((List (List Int))) :=
  andO (F107 N x8 x9 a1 p2) fun y10 => F99_l1 N a1 p2 N y10 (20 : Int)
def F99_l2_b (N : Nat) (a1 : Int) (p2 : (List Int) → (List Int) → Option (Int)) (nx89 : (List (List Int)) → Int → Int → Option ((List (List Int)))) (x85 : (List (List Int))) (x86 : Int) (x87 : Int) : Option ((List (List Int))) :=
  cond (decide (x87 ≤ a1)) (andO (F107 N x85 x86 x87 p2) fun y90 => nx89 y90 x87 (IntKind.i64.wrap (x87 + (20 : Int)))) (F99_j2 N a1 p2 x85 x86)
def F99_l2 (N : Nat) (a1 : Int) (p2 : (List Int) → (List Int) → Option (Int)) := loopF (F99_l2_b N a1 p2) (fun _ _ _ => none)
theorem F99_l2_s N a1 (p2 : (List Int) → (List Int) → Option (Int)) {k} (hk : 0 < k) x85 x86 x87 : F99_l2 N a1 p2 k x85 x86 x87 = F99_l2_b N a1 p2 (F99_l2 N a1 p2 (k - 1)) x85 x86 x87 := by cases k;cases hk;rfl
def F99 (N : Nat) (a0 : (List (List Int))) (a1 : Int) (p2 : (List Int) → (List Int) → Option (Int)) : Option ((List (List Int))) :=
  F99_l2 N a1 p2 N a0 (0 : Int) (20 : Int)
def F71 (N : Nat) (a0 : (List (List Int))) (p1 : (List Int) → (List Int) → Option (Int)) : Option ((List (List Int))) :=
  andO (F99 N a0 (a0.length : Int) p1) fun y1 => some y1
def F100 (N : Nat) (a0 : Int) : Option (Bool) :=
  some (a0 != a0)
theorem ok100 N a0 {r} (h : F100 N a0 = some r) : Con prog 100 [I a0] [.lf (.v .bool r)] := by
 refine ctr [.lf (.v .bool)] K func100 rfl fun w0 E0 ht => ?_
 unfold F100 at h
 show VW _ _ _ _ _ (retQ _ _ _ _) _
 refine nR K (tn 1) <| nR K (tn 4) ?_
 cases h; exact VW.ret (rt [])
def F73 (N : Nat) (a0 : Int) (a1 : Int) : Option (Int) :=
  andO (F100 N a0) fun y1 => andO (F100 N a1) fun y2 => cond y1 (cond y2 (some (0 : Int)) (some (-1 : Int))) (cond y2 (some (1 : Int)) (cond (decide (a0 < a1)) (some (-1 : Int)) (cond (decide (a0 > a1)) (some (1 : Int)) (some (0 : Int)))))
theorem ok73 N a0 a1 {r} (h : F73 N a0 a1 = some r) : Con prog 73 [I a0, I a1] [.lf (.v (.int .i64) r)] := by
 refine ctr [.lf (.v (.int .i64))] K func73 rfl fun w0 E0 ht => ?_
 unfold F73 at h
 show VW _ _ _ _ _ (retQ _ _ _ _) _
 refine nR K (tn 1) <| sq <| VW.region <| nG K 1 (tn 1) ?_
 obtain⟨y1,hy,h⟩:=aS h
 refine clc false [.t (.int .i64)] [] (some 8) K (ok100 N _ hy) <| nN K (tn 1) <| sq <| VW.region <| nG K 1 (tn 1) ?_
 obtain⟨y2,hy,h⟩:=aS h
 refine clc false [.t (.int .i64)] [] (some 10) K (ok100 N _ hy) <| nN K (tn 1) <| sq <| nR K (tn 1) ?_
 refine cnd h ?_ ?_<;>intro h
 ·refine sq <| nR K (tn 1) ?_
  refine cnd h ?_ ?_<;>intro h
  ·refine nR K (tn 1) ?_
   cases h; exact VW.ret (rt [])
  refine VW.skip <| nR K (tn 1) ?_
  cases h; exact VW.ret (rt [])
 refine VW.skip <| sq <| nR K (tn 1) ?_
 refine cnd h ?_ ?_<;>intro h
 ·refine nR K (tn 1) ?_
  cases h; exact VW.ret (rt [])
 refine VW.skip <| sq <| nR K (tn 3) ?_
 refine cnd h ?_ ?_<;>intro h
 ·refine nR K (tn 1) ?_
  cases h; exact VW.ret (rt [])
 refine VW.skip <| sq <| nR K (tn 3) ?_
 refine cnd h ?_ ?_<;>intro h
 ·refine nR K (tn 1) ?_
  cases h; exact VW.ret (rt [])
 refine VW.skip <| nR K (tn 1) ?_
 cases h; exact VW.ret (rt [])
def F74_j0 (N : Nat) (x24 : Int) : Option (Int) :=
  some x24
def F74_j1 (N : Nat) (nx42 : Int → Int → Int → Option (Int)) (x34 : Int) (x35 : Int) (x45 : Int) : Option (Int) :=
  nx42 x45 x34 (IntKind.i64.wrap (x35 + (1 : Int)))
def F74_l0_b (N : Nat) (a0 : (List (List Int))) (a1 : (List Int)) (nx42 : Int → Int → Int → Option (Int)) (x33 : Int) (x34 : Int) (x35 : Int) : Option (Int) :=
  cond (decide (x35 < x34)) (gd (InR x35 a0.length) (andO (F101 N (a0.getD x35.toNat (Ty.dflt (.sl (.int .i64)))) a1) fun y48 => cond y48 (F74_j1 N nx42 x34 x35 (IntKind.i64.wrap (x33 + (1 : Int)))) (F74_j1 N nx42 x34 x35 x33))) (F74_j0 N x33)
def F74_l0 (N : Nat) (a0 : (List (List Int))) (a1 : (List Int)) := loopF (F74_l0_b N a0 a1) (fun _ _ _ => none)
theorem F74_l0_s N a0 a1 {k} (hk : 0 < k) x33 x34 x35 : F74_l0 N a0 a1 k x33 x34 x35 = F74_l0_b N a0 a1 (F74_l0 N a0 a1 (k - 1)) x33 x34 x35 := by cases k;cases hk;rfl
def F74 (N : Nat) (a0 : (List (List Int))) (a1 : (List Int)) : Option (Int) :=
  F74_l0 N a0 a1 N (0 : Int) (a0.length : Int) (0 : Int)
theorem ok74 N a0 a1 {r} (h : F74 N a0 a1 = some r) : Con prog 74 [Vv (.sl (.sl (.int .i64))) a0, Vv (.sl (.int .i64)) a1] [.lf (.v (.int .i64) r)] := by
 refine ctr [.lf (.v (.int .i64))] K func74 rfl fun w0 E0 ht => ?_
 unfold F74 at h
 show VW _ _ _ _ _ (retQ _ _ _ _) _
 refine nR K (tn 1) <| nR K (tn 1) ?_
 refine VW.join (fun s => ∃ x24, s = ⟨[(5, I x24)], []⟩ ∧ F74_j0 N x24 = some r) ?_ ?_
 ·refine nR K (tn 3) <| VW.block <| lop (fun k s => ∃ x33 x34 x35, s = ⟨[(1, Vv (.sl (.int .i64)) a1), (5, I x33), (8, Vv (.sl (.sl (.int .i64))) a0), (9, I x34), (10, I x35)], []⟩ ∧ F74_l0 N a0 a1 k x33 x34 x35 = some r) N [.ren [1, 5, 8, 9, 10] []] ⟨(0 : Int), (a0.length : Int), (0 : Int), rfl, h⟩ ?_
  rintro k42 s ⟨x33, x34, x35, rfl, h⟩
  cases k42 with
  | zero => cases show none = some r from h
  | succ k42 =>
   replace h : F74_l0_b N a0 a1 (F74_l0 N a0 a1 k42) x33 x34 x35 = some r := h
   unfold F74_l0_b at h
   refine nR K (tn 1) <| sq ?_
   refine cnd h ?_ ?_<;>intro h
   ·refine VW.skip ?_
    refine VW.join (fun s => ∃ x45, s = ⟨[(1, Vv (.sl (.int .i64)) a1), (5, I x45), (8, Vv (.sl (.sl (.int .i64))) a0), (9, I x34), (10, I x35)], []⟩ ∧ F74_j1 N (F74_l0 N a0 a1 k42) x34 x35 x45 = some r) ?_ ?_
    ·refine VW.block ?_
     obtain⟨g47,h⟩:=gS h
     refine nR K (an g47 (tn 2)) <| sq <| VW.region <| nG K 2 (tn 2) ?_
     obtain⟨y48,hy,h⟩:=aS h
     refine clc false [.t (.sl (.int .i64)), .t (.sl (.int .i64))] [] (some 16) K (ok101 N _ _ hy) <| nN K (tn 0) ?_
     refine cnd h ?_ ?_<;>intro h
     ·refine nE K (tn 3) ?_
      exact arv [.ren [1, 5, 8, 9, 10] []] ⟨(wr (x33 + (1 : Int))), rfl, h⟩
     refine VW.skip ?_
     exact arv [.ren [1, 5, 8, 9, 10] []] ⟨x33, rfl, h⟩
    rintro s ⟨x45, rfl, h⟩
    unfold F74_j1 at h
    refine nE K (tn 2) ?_
    exact aro [.ren [1, 5, 8, 9, 10] []] ⟨x45, x34, (wr (x35 + (1 : Int))), rfl, h⟩
   refine VW.exit ?_
   exact arv [.ren [5] []] ⟨x33, rfl, h⟩
 rintro s ⟨x24, rfl, h⟩
 unfold F74_j0 at h
 refine nR K (tn 2) ?_
 cases h; exact VW.ret (rt [])
theorem ok107_c1 N a0 a1 a2 (g3 : FuncId) e3_0 (p3 : (List Int) → (List Int) → Option (Int)) (hp3 : ∀ (z0 : (List Int)) (z1 : (List Int)) (r : Int), p3 z0 z1 = some r → Con prog g3 [Vv (.sl (.int .i64)) z0, Vv (.sl (.int .i64)) z1, .lf (.fp Y52 e3_0 0)] [.lf (.v (.int .i64) r)]) {r} (h : F107 N a0 a1 a2 p3 = some r) : ConM prog 107 [ar 0 (.sl (.int .i64)) a0 .tp] [hh 0, I a1, I a2, .clo g3 [.lf (.fp Y52 e3_0 0)]] [] [ar 0 (.sl (.int .i64)) r .tp] := by
 refine ⟨enters_of func107 rfl (by decide), HM.intro [] K func107 rfl (Nat.le_of_ble_eq_true rfl) (Nat.le_of_ble_eq_true rfl) fun w0 E0 ht => ?_⟩
 unfold F107 at h
 show VW _ _ _ _ _ (retM _ _ _ _ _) _
 refine VW.fin <| nR K (tn 3) <| VW.block <| lop (fun k s => ∃ x178 x179, s = ⟨[(0, hh 0), (1, I a1), (2, I a2), (3, .clo g3 [.lf (.fp Y52 e3_0 0)]), (8, I x179), (65536, hh 0)], [ar 0 (.sl (.int .i64)) x178 .tp]⟩ ∧ F107_l1 N a1 a2 p3 k x178 x179 = some r) N [.ren [0, 1, 2, 3, 8, 65536] [0]] ⟨a0, (wr (a1 + (1 : Int))), rfl, h⟩ ?_
 rintro k356 s ⟨x178, x179, rfl, h⟩
 cases k356 with
 | zero => cases show none = some r from h
 | succ k356 =>
  replace h : F107_l1_b N a1 a2 p3 (F107_l1 N a1 a2 p3 k356) x178 x179 = some r := h
  unfold F107_l1_b at h
  refine sq <| nR K (tn 3) ?_
  refine cnd h ?_ ?_<;>intro h
  ·refine VW.skip ?_
   refine VW.join (fun s => ∃ x444, s = ⟨[(0, hh 0), (1, I a1), (2, I a2), (3, .clo g3 [.lf (.fp Y52 e3_0 0)]), (8, I x179), (65536, hh 0)], [ar 0 (.sl (.int .i64)) x444 .tp]⟩ ∧ F107_j0 N (F107_l1 N a1 a2 p3 k356) x179 x444 = some r) ?_ ?_
   ·refine VW.block <| nR K (tn 2) <| VW.block <| lop (fun k s => ∃ x474 x475, s = ⟨[(0, hh 0), (1, I a1), (2, I a2), (3, .clo g3 [.lf (.fp Y52 e3_0 0)]), (8, I x179), (9, I x475), (65536, hh 0)], [ar 0 (.sl (.int .i64)) x474 .tp]⟩ ∧ F107_l0 N a1 (F107_l1 N a1 a2 p3 k356) p3 x179 k x474 x475 = some r) N [.ren [0, 1, 2, 3, 8, 9, 65536] [0]] ⟨x178, x179, rfl, h⟩ ?_
    rintro k504 s ⟨x474, x475, rfl, h⟩
    cases k504 with
    | zero => cases show none = some r from h
    | succ k504 =>
     replace h : F107_l0_b N a1 (F107_l1 N a1 a2 p3 k356) p3 x179 (F107_l0 N a1 (F107_l1 N a1 a2 p3 k356) p3 x179 k504) x474 x475 = some r := h
     unfold F107_l0_b at h
     refine sq <| sq ?_
     rcases Bool.eq_false_or_eq_true (decide (x475 > a1)) with hb511 | hb511
     ·replace h := cond_t h hb511
      obtain⟨g512,h⟩:=gS h
      obtain⟨g513,h⟩:=gS h
      obtain⟨g514,h⟩:=gS h
      obtain⟨g515,h⟩:=gS h
      obtain⟨y516,hy516,h⟩:=aS h
      refine dr K [(3, .lit true), (14, .cl [] (some 32) [.lf (.v (.int .i64) y516)])] [(3, 0), (14, 0)] [] [0, 1, 2, 3, 8, 9, 34, 65536] [0] (pu 7 (an g512 (an g513 (pu 3 (an g514 (an g515 (tn 3))))))) ⟨qB 21 hb511 K trivial, qC false [.t (.sl (.int .i64)), .t (.sl (.int .i64))] [.k] [] (some 32) K (hp3 _ _ _ hy516), trivial⟩ ?_
      refine cnd h ?_ ?_<;>intro h
      ·refine VW.skip <| sq <| VW.block ?_
       obtain⟨g525,h⟩:=gS h
       obtain⟨g526,h⟩:=gS h
       obtain⟨g527,h⟩:=gS h
       obtain⟨g528,h⟩:=gS h
       obtain⟨g529,h⟩:=gS h
       obtain⟨g530,h⟩:=gS h
       obtain⟨g531,h⟩:=gS h
       obtain⟨g532,h⟩:=gS h
       refine dr K [(12, .ev [])] [(12, 0), (12, 1)] [15, 17] [0, 1, 2, 3, 8, 9, 65536] [0] (pu 8 (an g525 (an g526 (pu 3 (an g528 (an g529 (an g530 (an g531 (an g532 (tn 0)))))))))) ⟨⟨_, rfl, Stp.ev K (m := .dp) (φ := InR x475 x474.length) (by kernel_rfl) g527⟩, qE [] K (show InR x475 (x474.set x475.toNat (x474.getD ((wr (x475 - (1 : Int))).toNat) (Ty.dflt (.sl (.int .i64))))).length from by simpa using g527), trivial⟩ ?_
       refine nE K (tn 3) ?_
       exact aro [.ren [0, 1, 2, 3, 8, 9, 65536] [0]] ⟨((x474.set x475.toNat (x474.getD ((wr (x475 - (1 : Int))).toNat) (Ty.dflt (.sl (.int .i64))))).set ((wr (x475 - (1 : Int))).toNat) (x474.getD x475.toNat (Ty.dflt (.sl (.int .i64))))), (wr (x475 - (1 : Int))), rfl, h⟩
      refine VW.exit ?_
      exact arv [.ren [0, 1, 2, 3, 8, 65536] [0]] ⟨x474, rfl, h⟩
     replace h := cond_f h hb511
     refine dr K [(3, .lit false)] [(3, 0)] [] [0, 1, 2, 3, 8, 9, 34, 65536] [0] (tn 17) ⟨qB 21 hb511 K trivial, trivial⟩ ?_
     refine VW.cond (b := false) (by kernel_rfl) (fun h' => nomatch h') (fun _ => ?_)
     refine VW.exit ?_
     exact arv [.ren [0, 1, 2, 3, 8, 65536] [0]] ⟨x474, rfl, h⟩
   rintro s ⟨x444, rfl, h⟩
   unfold F107_j0 at h
   refine nE K (tn 3) ?_
   exact aro [.ren [0, 1, 2, 3, 8, 65536] [0]] ⟨x444, (wr (x179 + (1 : Int))), rfl, h⟩
  refine VW.exit ?_
  replace h := Option.some.inj h
  subst h
  exact arM [.ren [65536] [0]] ⟨[], by kernel_rfl, by kernel_rfl, by kernel_rfl⟩
theorem ok115_c1 N a0 a1 a2 a3 (g4 : FuncId) e4_0 (p4 : (List Int) → (List Int) → Option (Int)) (hp4 : ∀ (z0 : (List Int)) (z1 : (List Int)) (r : Int), p4 z0 z1 = some r → Con prog g4 [Vv (.sl (.int .i64)) z0, Vv (.sl (.int .i64)) z1, .lf (.fp Y52 e4_0 0)] [.lf (.v (.int .i64) r)]) {r} (h : F115 N a0 a1 a2 a3 p4 = some r) : ConM prog 115 [ar 0 (.sl (.int .i64)) a0 .tp] [hh 0, I a1, I a2, I a3, .clo g4 [.lf (.fp Y52 e4_0 0)]] [] [ar 0 (.sl (.int .i64)) r .tp] := by
 refine ⟨enters_of func115 rfl (by decide), HM.intro [] K func115 rfl (Nat.le_of_ble_eq_true rfl) (Nat.le_of_ble_eq_true rfl) fun w0 E0 ht => ?_⟩
 unfold F115 at h
 show VW _ _ _ _ _ (retM _ _ _ _ _) _
 refine VW.fin <| nR K (tn 1) <| VW.block <| lop (fun k s => ∃ x17 x18, s = ⟨[(0, hh 0), (1, I a1), (2, I a2), (3, I a3), (10, I x18), (65536, hh 0)], [ar 0 (.sl (.int .i64)) x17 .tp]⟩ ∧ F115_l0 N a1 a2 a3 k x17 x18 = some r) N [.ren [0, 1, 2, 3, 10, 65536] [0]] ⟨a0, (0 : Int), rfl, h⟩ ?_
 rintro k35 s ⟨x17, x18, rfl, h⟩
 cases k35 with
 | zero => cases show none = some r from h
 | succ k35 =>
  replace h : F115_l0_b N a1 a2 a3 (F115_l0 N a1 a2 a3 k35) x17 x18 = some r := h
  unfold F115_l0_b at h
  refine sq <| nR K (tn 3) ?_
  refine cnd h ?_ ?_<;>intro h
  ·refine VW.skip <| sq <| VW.block ?_
   obtain⟨g44,h⟩:=gS h
   obtain⟨g45,h⟩:=gS h
   obtain⟨g46,h⟩:=gS h
   obtain⟨g47,h⟩:=gS h
   obtain⟨g48,h⟩:=gS h
   obtain⟨g49,h⟩:=gS h
   obtain⟨g50,h⟩:=gS h
   obtain⟨g51,h⟩:=gS h
   refine dr K [(18, .ev [])] [(18, 0), (18, 1)] [21, 23] [0, 1, 2, 3, 10, 65536] [0] (pu 12 (an g44 (an g45 (pu 5 (an g47 (an g48 (an g49 (an g50 (an g51 (tn 0)))))))))) ⟨⟨_, rfl, Stp.ev K (m := .dp) (φ := InR (wr (a1 + x18)) x17.length) (by kernel_rfl) g46⟩, qE [] K (show InR (wr (a1 + x18)) (x17.set ((wr (a1 + x18)).toNat) (x17.getD ((wr (a2 + x18)).toNat) (Ty.dflt (.sl (.int .i64))))).length from by simpa using g46), trivial⟩ ?_
   refine nE K (tn 3) ?_
   exact aro [.ren [0, 1, 2, 3, 10, 65536] [0]] ⟨((x17.set ((wr (a1 + x18)).toNat) (x17.getD ((wr (a2 + x18)).toNat) (Ty.dflt (.sl (.int .i64))))).set ((wr (a2 + x18)).toNat) (x17.getD ((wr (a1 + x18)).toNat) (Ty.dflt (.sl (.int .i64))))), (wr (x18 + (1 : Int))), rfl, h⟩
  refine VW.exit ?_
  replace h := Option.some.inj h
  subst h
  exact arM [.ren [65536] [0]] ⟨[], by kernel_rfl, by kernel_rfl, by kernel_rfl⟩
theorem ok114_c1 N a0 a1 a2 a3 (g4 : FuncId) e4_0 (p4 : (List Int) → (List Int) → Option (Int)) (hp4 : ∀ (z0 : (List Int)) (z1 : (List Int)) (r : Int), p4 z0 z1 = some r → Con prog g4 [Vv (.sl (.int .i64)) z0, Vv (.sl (.int .i64)) z1, .lf (.fp Y52 e4_0 0)] [.lf (.v (.int .i64) r)]) {r} (h : F114 N a0 a1 a2 a3 p4 = some r) : ConM prog 114 [ar 0 (.sl (.int .i64)) a0 .tp] [hh 0, I a1, I a2, I a3, .clo g4 [.lf (.fp Y52 e4_0 0)]] [] [ar 0 (.sl (.int .i64)) r .tp] := by
 refine ⟨enters_of func114 rfl (by decide), HM.intro [] K func114 rfl (Nat.le_of_ble_eq_true rfl) (Nat.le_of_ble_eq_true rfl) fun w0 E0 ht => ?_⟩
 unfold F114 at h
 show VW _ _ _ _ _ (retM _ _ _ _ _) _
 refine VW.fin <| nR K (tn 4) <| nR K (tn 4) ?_
 refine VW.join (fun s => ∃ x13 x14, s = ⟨[(0, hh 0), (2, I a2), (4, .clo g4 [.lf (.fp Y52 e4_0 0)]), (10, I x14), (65536, hh 0)], [ar 0 (.sl (.int .i64)) x13 .tp]⟩ ∧ F114_j0 N a2 p4 x13 x14 = some r) ?_ ?_
 ·refine VW.block <| lop (fun k s => ∃ x21 x22 x23, s = ⟨[(0, hh 0), (2, I a2), (4, .clo g4 [.lf (.fp Y52 e4_0 0)]), (10, I x22), (11, I x23), (65536, hh 0)], [ar 0 (.sl (.int .i64)) x21 .tp]⟩ ∧ F114_l0 N a2 p4 k x21 x22 x23 = some r) N [.ren [0, 2, 4, 10, 11, 65536] [0]] ⟨a0, (wr (a2 - a1)), (wr (a3 - a2)), rfl, h⟩ ?_
  rintro k26 s ⟨x21, x22, x23, rfl, h⟩
  cases k26 with
  | zero => cases show none = some r from h
  | succ k26 =>
   replace h : F114_l0_b N a2 p4 (F114_l0 N a2 p4 k26) x21 x22 x23 = some r := h
   unfold F114_l0_b at h
   refine sq <| nR K (tn 3) ?_
   refine cnd h ?_ ?_<;>intro h
   ·refine VW.skip <| VW.block <| nR K (tn 3) ?_
    refine cnd h ?_ ?_<;>intro h
    ·refine sq <| VW.region <| nG K 7 (tn 7) ?_
     obtain⟨y27,hy,h⟩:=aS h
     refine VO.callM [0] [.t (.sl (.sl (.int .i64))), .t (.int .i64), .t (.int .i64), .t (.int .i64), .c] (d := some 31) (by kernel_rfl) (by kernel_rfl) (ok115_c1 N _ _ _ _ g4 e4_0 p4 hp4 hy) (by kernel_rfl) <| nN K (tn 0) <| nE K (tn 4) ?_
     exact aro [.ren [0, 2, 4, 10, 11, 65536] [0]] ⟨y27, (wr (x22 - x23)), x23, rfl, h⟩
    refine sq <| VW.region <| nG K 11 (tn 11) ?_
    obtain⟨y28,hy,h⟩:=aS h
    refine VO.callM [0] [.t (.sl (.sl (.int .i64))), .t (.int .i64), .t (.int .i64), .t (.int .i64), .c] (d := some 46) (by kernel_rfl) (by kernel_rfl) (ok115_c1 N _ _ _ _ g4 e4_0 p4 hp4 hy) (by kernel_rfl) <| nN K (tn 0) <| nE K (tn 4) ?_
    exact aro [.ren [0, 2, 4, 10, 11, 65536] [0]] ⟨y28, x22, (wr (x23 - x22)), rfl, h⟩
   refine VW.exit ?_
   exact arv [.ren [0, 2, 4, 10, 65536] [0]] ⟨x21, x22, rfl, h⟩
 rintro s ⟨x13, x14, rfl, h⟩
 unfold F114_j0 at h
 refine VW.region <| nG K 7 (tn 7) ?_
 obtain⟨y15,hy,h⟩:=aS h
 refine VO.callM [0] [.t (.sl (.sl (.int .i64))), .t (.int .i64), .t (.int .i64), .t (.int .i64), .c] (d := some 57) (by kernel_rfl) (by kernel_rfl) (ok115_c1 N _ _ _ _ g4 e4_0 p4 hp4 hy) (by kernel_rfl) <| nN K (tn 0) ?_
 replace h := Option.some.inj h
 subst h
 exact arM [.ren [65536] [0]] ⟨[], by kernel_rfl, by kernel_rfl, by kernel_rfl⟩
theorem ok108_c1_b (N : Nat) (g4 : FuncId) (e4_0 : Z52) (p4 : (List Int) → (List Int) → Option (Int)) (hp4 : ∀ (z0 : (List Int)) (z1 : (List Int)) (r : Int), p4 z0 z1 = some r → Con prog g4 [Vv (.sl (.int .i64)) z0, Vv (.sl (.int .i64)) z1, .lf (.fp Y52 e4_0 0)] [.lf (.v (.int .i64) r)]) (self : (List (List Int)) → Int → Int → Int → Option ((List (List Int)))) (ih : ∀ (a0 : (List (List Int))) (a1 : Int) (a2 : Int) (a3 : Int) (r : (List (List Int))), self a0 a1 a2 a3 = some r → ConM prog 108 [ar 0 (.sl (.int .i64)) a0 .tp] [hh 0, I a1, I a2, I a3, .clo g4 [.lf (.fp Y52 e4_0 0)]] [] [ar 0 (.sl (.int .i64)) r .tp]) (a0 : (List (List Int))) (a1 : Int) (a2 : Int) (a3 : Int) {r : (List (List Int))} (h : F108_b N p4 self a0 a1 a2 a3 = some r) : ConM prog 108 [ar 0 (.sl (.int .i64)) a0 .tp] [hh 0, I a1, I a2, I a3, .clo g4 [.lf (.fp Y52 e4_0 0)]] [] [ar 0 (.sl (.int .i64)) r .tp] := by
 refine ⟨enters_of func108 rfl (by decide), HM.intro [] K func108 rfl (Nat.le_of_ble_eq_true rfl) (Nat.le_of_ble_eq_true rfl) fun w0 E0 ht => ?_⟩
 unfold F108_b at h
 show VW _ _ _ _ _ (retM _ _ _ _ _) _
 refine VW.fin ?_
 refine VW.join (fun s => s = ⟨[(0, hh 0), (1, I a1), (2, I a2), (3, I a3), (4, .clo g4 [.lf (.fp Y52 e4_0 0)]), (65536, hh 0)], [ar 0 (.sl (.int .i64)) a0 .tp]⟩ ∧ F108_j7 N a0 a1 a2 a3 p4 self = some r) ?_ ?_
 ·refine nR K (tn 4) ?_
  refine cnd h ?_ ?_<;>intro h
  ·refine nR K (tn 2) <| nR K (tn 2) ?_
   refine VW.join (fun s => ∃ x504, s = ⟨[(0, hh 0), (1, I a1), (10, I x504), (65536, hh 0)], [ar 0 (.sl (.int .i64)) a0 .tp]⟩ ∧ F108_j9 N a0 a1 x504 = some r) ?_ ?_
   ·refine VW.block <| lop (fun k s => ∃ x615 x616, s = ⟨[(0, hh 0), (1, I a1), (4, .clo g4 [.lf (.fp Y52 e4_0 0)]), (10, I x615), (11, I x616), (65536, hh 0)], [ar 0 (.sl (.int .i64)) a0 .tp]⟩ ∧ F108_l4 N a0 a1 p4 k x615 x616 = some r) N [.ren [0, 1, 4, 10, 11, 65536] [0]] ⟨a2, a3, rfl, h⟩ ?_
    rintro k622 s ⟨x615, x616, rfl, h⟩
    cases k622 with
    | zero => cases show none = some r from h
    | succ k622 =>
     replace h : F108_l4_b N a0 a1 p4 (F108_l4 N a0 a1 p4 k622) x615 x616 = some r := h
     unfold F108_l4_b at h
     refine sq <| nR K (tn 3) ?_
     refine cnd h ?_ ?_<;>intro h
     ·refine VW.skip <| VW.block <| nR K (pu 4 (an (show (0 ≤ (1 : Int)) from by decide) (tn 2))) <| sq ?_
      obtain⟨g623,h⟩:=gS h
      obtain⟨g624,h⟩:=gS h
      obtain⟨g625,h⟩:=gS h
      obtain⟨g626,h⟩:=gS h
      obtain⟨y627,hy627,h⟩:=aS h
      refine dr K [(9, .cl [] (some 49) [.lf (.v (.int .i64) y627)])] [(9, 0)] [] [0, 1, 4, 10, 11, 12, 50, 65536] [0] (pu 3 (an g623 (an g624 (pu 2 (an g625 (an g626 (tn 2))))))) ⟨qC false [.t (.sl (.int .i64)), .t (.sl (.int .i64))] [.k] [] (some 49) K (hp4 _ _ _ hy627), trivial⟩ ?_
      refine cnd h ?_ ?_<;>intro h
      ·refine nE K (tn 3) ?_
       exact aro [.ren [0, 1, 4, 10, 11, 65536] [0]] ⟨(wr ((wr (Int.fdiv (IntKind.u64.wrap (wr (x615 + x616))) (2 ^ (min (1 : Int).toNat IntKind.u64.bits)))) + (1 : Int))), x616, rfl, h⟩
      refine nE K (tn 2) ?_
      exact aro [.ren [0, 1, 4, 10, 11, 65536] [0]] ⟨x615, (wr (Int.fdiv (IntKind.u64.wrap (wr (x615 + x616))) (2 ^ (min (1 : Int).toNat IntKind.u64.bits)))), rfl, h⟩
     refine VW.exit ?_
     exact arv [.ren [0, 1, 10, 65536] [0]] ⟨x615, rfl, h⟩
   rintro s ⟨x504, rfl, h⟩
   unfold F108_j9 at h
   refine VW.join (fun s => ∃ x556, s = ⟨[(65536, hh 0)], [ar 0 (.sl (.int .i64)) x556 .tp]⟩ ∧ F108_j8 N x556 = some r) ?_ ?_
   ·refine nR K (tn 2) <| VW.block <| lop (fun k s => ∃ x574 x575, s = ⟨[(0, hh 0), (10, I x504), (13, I x575), (65536, hh 0)], [ar 0 (.sl (.int .i64)) x574 .tp]⟩ ∧ F108_l3 N x504 k x574 x575 = some r) N [.ren [0, 10, 13, 65536] [0]] ⟨a0, a1, rfl, h⟩ ?_
    rintro k592 s ⟨x574, x575, rfl, h⟩
    cases k592 with
    | zero => cases show none = some r from h
    | succ k592 =>
     replace h : F108_l3_b N x504 (F108_l3 N x504 k592) x574 x575 = some r := h
     unfold F108_l3_b at h
     refine sq <| nR K (tn 4) ?_
     refine cnd h ?_ ?_<;>intro h
     ·refine VW.skip <| sq <| VW.block ?_
      obtain⟨g601,h⟩:=gS h
      obtain⟨g602,h⟩:=gS h
      obtain⟨g603,h⟩:=gS h
      obtain⟨g604,h⟩:=gS h
      obtain⟨g605,h⟩:=gS h
      obtain⟨g606,h⟩:=gS h
      obtain⟨g607,h⟩:=gS h
      obtain⟨g608,h⟩:=gS h
      refine dr K [(12, .ev [])] [(12, 0), (12, 1)] [15, 17] [0, 10, 13, 65536] [0] (pu 8 (an g601 (an g602 (pu 3 (an g604 (an g605 (an g606 (an g607 (an g608 (tn 0)))))))))) ⟨⟨_, rfl, Stp.ev K (m := .dp) (φ := InR x575 x574.length) (by kernel_rfl) g603⟩, qE [] K (show InR x575 (x574.set x575.toNat (x574.getD ((wr (x575 + (1 : Int))).toNat) (Ty.dflt (.sl (.int .i64))))).length from by simpa using g603), trivial⟩ ?_
      refine nE K (tn 3) ?_
      exact aro [.ren [0, 10, 13, 65536] [0]] ⟨((x574.set x575.toNat (x574.getD ((wr (x575 + (1 : Int))).toNat) (Ty.dflt (.sl (.int .i64))))).set ((wr (x575 + (1 : Int))).toNat) (x574.getD x575.toNat (Ty.dflt (.sl (.int .i64))))), (wr (x575 + (1 : Int))), rfl, h⟩
     refine VW.exit ?_
     exact arv [.ren [65536] [0]] ⟨x574, rfl, h⟩
   rintro s ⟨x556, rfl, h⟩
   unfold F108_j8 at h
   replace h := Option.some.inj h
   subst h
   refine VW.ghl [.ren [65536] [0]] (VW.ret ?_)
   exact ⟨[], by kernel_rfl, by kernel_rfl, by kernel_rfl⟩
  refine VW.skip ?_
  exact arv [.ren [0, 1, 2, 3, 4, 65536] [0]] ⟨rfl, h⟩
 rintro s ⟨rfl, h⟩
 unfold F108_j7 at h
 refine VW.join (fun s => s = ⟨[(0, hh 0), (1, I a1), (2, I a2), (3, I a3), (4, .clo g4 [.lf (.fp Y52 e4_0 0)]), (65536, hh 0)], [ar 0 (.sl (.int .i64)) a0 .tp]⟩ ∧ F108_j4 N a0 a1 a2 a3 p4 self = some r) ?_ ?_
 ·refine nR K (tn 4) ?_
  refine cnd h ?_ ?_<;>intro h
  ·refine nR K (tn 2) <| nR K (tn 2) ?_
   refine VW.join (fun s => ∃ x361, s = ⟨[(0, hh 0), (2, I a2), (14, I x361), (65536, hh 0)], [ar 0 (.sl (.int .i64)) a0 .tp]⟩ ∧ F108_j6 N a0 a2 x361 = some r) ?_ ?_
   ·refine VW.block <| lop (fun k s => ∃ x472 x473, s = ⟨[(0, hh 0), (2, I a2), (4, .clo g4 [.lf (.fp Y52 e4_0 0)]), (14, I x472), (15, I x473), (65536, hh 0)], [ar 0 (.sl (.int .i64)) a0 .tp]⟩ ∧ F108_l2 N a0 a2 p4 k x472 x473 = some r) N [.ren [0, 2, 4, 14, 15, 65536] [0]] ⟨a1, a2, rfl, h⟩ ?_
    rintro k479 s ⟨x472, x473, rfl, h⟩
    cases k479 with
    | zero => cases show none = some r from h
    | succ k479 =>
     replace h : F108_l2_b N a0 a2 p4 (F108_l2 N a0 a2 p4 k479) x472 x473 = some r := h
     unfold F108_l2_b at h
     refine sq <| nR K (tn 3) ?_
     refine cnd h ?_ ?_<;>intro h
     ·refine VW.skip <| VW.block <| nR K (pu 4 (an (show (0 ≤ (1 : Int)) from by decide) (tn 2))) <| sq ?_
      obtain⟨g480,h⟩:=gS h
      obtain⟨g481,h⟩:=gS h
      obtain⟨g482,h⟩:=gS h
      obtain⟨g483,h⟩:=gS h
      obtain⟨y484,hy484,h⟩:=aS h
      refine dr K [(9, .cl [] (some 101) [.lf (.v (.int .i64) y484)])] [(9, 0)] [] [0, 2, 4, 14, 15, 16, 103, 65536] [0] (pu 3 (an g480 (an g481 (pu 2 (an g482 (an g483 (tn 3))))))) ⟨qC false [.t (.sl (.int .i64)), .t (.sl (.int .i64))] [.k] [] (some 101) K (hp4 _ _ _ hy484), trivial⟩ ?_
      refine cnd h ?_ ?_<;>intro h
      ·refine nE K (tn 3) ?_
       exact aro [.ren [0, 2, 4, 14, 15, 65536] [0]] ⟨(wr ((wr (Int.fdiv (IntKind.u64.wrap (wr (x472 + x473))) (2 ^ (min (1 : Int).toNat IntKind.u64.bits)))) + (1 : Int))), x473, rfl, h⟩
      refine nE K (tn 2) ?_
      exact aro [.ren [0, 2, 4, 14, 15, 65536] [0]] ⟨x472, (wr (Int.fdiv (IntKind.u64.wrap (wr (x472 + x473))) (2 ^ (min (1 : Int).toNat IntKind.u64.bits)))), rfl, h⟩
     refine VW.exit ?_
     exact arv [.ren [0, 2, 14, 65536] [0]] ⟨x472, rfl, h⟩
   rintro s ⟨x361, rfl, h⟩
   unfold F108_j6 at h
   refine VW.join (fun s => ∃ x413, s = ⟨[(65536, hh 0)], [ar 0 (.sl (.int .i64)) x413 .tp]⟩ ∧ F108_j5 N x413 = some r) ?_ ?_
   ·refine nR K (tn 2) <| VW.block <| lop (fun k s => ∃ x431 x432, s = ⟨[(0, hh 0), (14, I x361), (17, I x432), (65536, hh 0)], [ar 0 (.sl (.int .i64)) x431 .tp]⟩ ∧ F108_l1 N x361 k x431 x432 = some r) N [.ren [0, 14, 17, 65536] [0]] ⟨a0, a2, rfl, h⟩ ?_
    rintro k449 s ⟨x431, x432, rfl, h⟩
    cases k449 with
    | zero => cases show none = some r from h
    | succ k449 =>
     replace h : F108_l1_b N x361 (F108_l1 N x361 k449) x431 x432 = some r := h
     unfold F108_l1_b at h
     refine sq <| nR K (tn 3) ?_
     refine cnd h ?_ ?_<;>intro h
     ·refine VW.skip <| sq <| VW.block ?_
      obtain⟨g458,h⟩:=gS h
      obtain⟨g459,h⟩:=gS h
      obtain⟨g460,h⟩:=gS h
      obtain⟨g461,h⟩:=gS h
      obtain⟨g462,h⟩:=gS h
      obtain⟨g463,h⟩:=gS h
      obtain⟨g464,h⟩:=gS h
      obtain⟨g465,h⟩:=gS h
      refine dr K [(12, .ev [])] [(12, 0), (12, 1)] [15, 17] [0, 14, 17, 65536] [0] (pu 8 (an g458 (an g459 (pu 3 (an g461 (an g462 (an g463 (an g464 (an g465 (tn 0)))))))))) ⟨⟨_, rfl, Stp.ev K (m := .dp) (φ := InR x432 x431.length) (by kernel_rfl) g460⟩, qE [] K (show InR x432 (x431.set x432.toNat (x431.getD ((wr (x432 - (1 : Int))).toNat) (Ty.dflt (.sl (.int .i64))))).length from by simpa using g460), trivial⟩ ?_
      refine nE K (tn 3) ?_
      exact aro [.ren [0, 14, 17, 65536] [0]] ⟨((x431.set x432.toNat (x431.getD ((wr (x432 - (1 : Int))).toNat) (Ty.dflt (.sl (.int .i64))))).set ((wr (x432 - (1 : Int))).toNat) (x431.getD x432.toNat (Ty.dflt (.sl (.int .i64))))), (wr (x432 - (1 : Int))), rfl, h⟩
     refine VW.exit ?_
     exact arv [.ren [65536] [0]] ⟨x431, rfl, h⟩
   rintro s ⟨x413, rfl, h⟩
   unfold F108_j5 at h
   replace h := Option.some.inj h
   subst h
   refine VW.ghl [.ren [65536] [0]] (VW.ret ?_)
   exact ⟨[], by kernel_rfl, by kernel_rfl, by kernel_rfl⟩
  refine VW.skip ?_
  exact arv [.ren [0, 1, 2, 3, 4, 65536] [0]] ⟨rfl, h⟩
 rintro s ⟨rfl, h⟩
 unfold F108_j4 at h
 refine nR K (pu 4 (an (show (0 ≤ (1 : Int)) from by decide) (tn 2))) <| nR K (tn 4) <| nR K (tn 2) ?_
 refine VW.join (fun s => ∃ x285 x286 x287 x288, s = ⟨[(0, hh 0), (1, I a1), (2, I a2), (3, I a3), (4, .clo g4 [.lf (.fp Y52 e4_0 0)]), (18, I x285), (19, I x286), (20, I x287), (21, I x288), (65536, hh 0)], [ar 0 (.sl (.int .i64)) a0 .tp]⟩ ∧ F108_j3 N a0 a1 a2 a3 p4 self x285 x286 x287 x288 = some r) ?_ ?_
 ·refine nR K (tn 3) ?_
  refine cnd h ?_ ?_<;>intro h
  ·refine nR K (tn 4) <| nE K (tn 2) ?_
   exact arv [.ren [0, 1, 2, 3, 4, 18, 19, 20, 21, 65536] [0]] ⟨(wr (Int.fdiv (IntKind.u64.wrap (wr (a1 + a3))) (2 ^ (min (1 : Int).toNat IntKind.u64.bits)))), (wr ((wr (Int.fdiv (IntKind.u64.wrap (wr (a1 + a3))) (2 ^ (min (1 : Int).toNat IntKind.u64.bits)))) + a2)), (wr ((wr ((wr (Int.fdiv (IntKind.u64.wrap (wr (a1 + a3))) (2 ^ (min (1 : Int).toNat IntKind.u64.bits)))) + a2)) - a3)), (wr (Int.fdiv (IntKind.u64.wrap (wr (a1 + a3))) (2 ^ (min (1 : Int).toNat IntKind.u64.bits)))), rfl, h⟩
  refine nR K (tn 2) <| nE K (tn 2) ?_
  exact arv [.ren [0, 1, 2, 3, 4, 18, 19, 20, 21, 65536] [0]] ⟨(wr (Int.fdiv (IntKind.u64.wrap (wr (a1 + a3))) (2 ^ (min (1 : Int).toNat IntKind.u64.bits)))), (wr ((wr (Int.fdiv (IntKind.u64.wrap (wr (a1 + a3))) (2 ^ (min (1 : Int).toNat IntKind.u64.bits)))) + a2)), a1, a2, rfl, h⟩
 rintro s ⟨x285, x286, x287, x288, rfl, h⟩
 unfold F108_j3 at h
 refine nR K (tn 3) ?_
 refine VW.join (fun s => ∃ x309, s = ⟨[(0, hh 0), (1, I a1), (2, I a2), (3, I a3), (4, .clo g4 [.lf (.fp Y52 e4_0 0)]), (18, I x285), (19, I x286), (20, I x309), (65536, hh 0)], [ar 0 (.sl (.int .i64)) a0 .tp]⟩ ∧ F108_j2 N a0 a1 a2 a3 p4 self x285 x286 x309 = some r) ?_ ?_
 ·refine VW.block <| lop (fun k s => ∃ x327 x328 x329, s = ⟨[(0, hh 0), (1, I a1), (2, I a2), (3, I a3), (4, .clo g4 [.lf (.fp Y52 e4_0 0)]), (18, I x285), (19, I x286), (20, I x327), (21, I x328), (22, I x329), (65536, hh 0)], [ar 0 (.sl (.int .i64)) a0 .tp]⟩ ∧ F108_l0 N a0 a1 a2 a3 p4 self x285 x286 k x327 x328 x329 = some r) N [.ren [0, 1, 2, 3, 4, 18, 19, 20, 21, 22, 65536] [0]] ⟨x287, x288, (wr (x286 - (1 : Int))), rfl, h⟩ ?_
  rintro k335 s ⟨x327, x328, x329, rfl, h⟩
  cases k335 with
  | zero => cases show none = some r from h
  | succ k335 =>
   replace h : F108_l0_b N a0 a1 a2 a3 p4 self x285 x286 (F108_l0 N a0 a1 a2 a3 p4 self x285 x286 k335) x327 x328 x329 = some r := h
   unfold F108_l0_b at h
   refine sq <| nR K (tn 3) ?_
   refine cnd h ?_ ?_<;>intro h
   ·refine VW.skip <| VW.block <| nR K (pu 4 (an (show (0 ≤ (1 : Int)) from by decide) (tn 2))) <| sq ?_
    obtain⟨g336,h⟩:=gS h
    obtain⟨g337,h⟩:=gS h
    obtain⟨g338,h⟩:=gS h
    obtain⟨g339,h⟩:=gS h
    obtain⟨y340,hy340,h⟩:=aS h
    refine dr K [(11, .cl [] (some 169) [.lf (.v (.int .i64) y340)])] [(11, 0)] [] [0, 1, 2, 3, 4, 18, 19, 20, 21, 22, 23, 171, 65536] [0] (pu 5 (an g336 (an g337 (pu 2 (an g338 (an g339 (tn 3))))))) ⟨qC false [.t (.sl (.int .i64)), .t (.sl (.int .i64))] [.k] [] (some 169) K (hp4 _ _ _ hy340), trivial⟩ ?_
    refine cnd h ?_ ?_<;>intro h
    ·refine nE K (tn 3) ?_
     exact aro [.ren [0, 1, 2, 3, 4, 18, 19, 20, 21, 22, 65536] [0]] ⟨(wr ((wr (Int.fdiv (IntKind.u64.wrap (wr (x327 + x328))) (2 ^ (min (1 : Int).toNat IntKind.u64.bits)))) + (1 : Int))), x328, x329, rfl, h⟩
    refine nE K (tn 2) ?_
    exact aro [.ren [0, 1, 2, 3, 4, 18, 19, 20, 21, 22, 65536] [0]] ⟨x327, (wr (Int.fdiv (IntKind.u64.wrap (wr (x327 + x328))) (2 ^ (min (1 : Int).toNat IntKind.u64.bits)))), x329, rfl, h⟩
   refine VW.exit ?_
   exact arv [.ren [0, 1, 2, 3, 4, 18, 19, 20, 65536] [0]] ⟨x327, rfl, h⟩
 rintro s ⟨x309, rfl, h⟩
 unfold F108_j2 at h
 refine nR K (tn 4) ?_
 refine VW.join (fun s => ∃ x311 x312, s = ⟨[(0, hh 0), (1, I a1), (3, I a3), (4, .clo g4 [.lf (.fp Y52 e4_0 0)]), (18, I x285), (20, I x309), (24, I x312), (65536, hh 0)], [ar 0 (.sl (.int .i64)) x311 .tp]⟩ ∧ F108_j1 N a1 a3 self x285 x309 x311 x312 = some r) ?_ ?_
 ·refine sq <| VW.region <| nG K 4 (tn 4) ?_
  refine spC 181 h ?_ ?_<;>intro h
  ·refine nN K (tn 4) ?_
   refine cnd h ?_ ?_<;>intro h
   ·refine VW.region <| nG K 5 (tn 5) ?_
    obtain⟨y319,hy,h⟩:=aS h
    refine VO.callM [0] [.t (.sl (.sl (.int .i64))), .t (.int .i64), .t (.int .i64), .t (.int .i64), .c] (d := some 191) (by kernel_rfl) (by kernel_rfl) (ok114_c1 N _ _ _ _ g4 e4_0 p4 hp4 hy) (by kernel_rfl) <| nN K (tn 0) ?_
    exact arv [.ren [0, 1, 3, 4, 18, 20, 24, 65536] [0]] ⟨y319, (wr (x286 - x309)), rfl, h⟩
   refine VW.skip ?_
   exact arv [.ren [0, 1, 3, 4, 18, 20, 24, 65536] [0]] ⟨a0, (wr (x286 - x309)), rfl, h⟩
  refine nN K (tn 4) ?_
  refine VW.cond (b := false) (by kernel_rfl) (fun h' => nomatch h') (fun _ => ?_)
  refine VW.skip ?_
  exact arv [.ren [0, 1, 3, 4, 18, 20, 24, 65536] [0]] ⟨a0, (wr (x286 - x309)), rfl, h⟩
 rintro s ⟨x311, x312, rfl, h⟩
 unfold F108_j1 at h
 refine VW.join (fun s => ∃ x314, s = ⟨[(0, hh 0), (3, I a3), (4, .clo g4 [.lf (.fp Y52 e4_0 0)]), (18, I x285), (24, I x312), (65536, hh 0)], [ar 0 (.sl (.int .i64)) x314 .tp]⟩ ∧ F108_j0 N a3 self x285 x312 x314 = some r) ?_ ?_
 ·refine sq <| VW.region <| nG K 4 (tn 4) ?_
  refine spC 195 h ?_ ?_<;>intro h
  ·refine nN K (tn 4) ?_
   refine cnd h ?_ ?_<;>intro h
   ·refine VW.region <| nG K 5 (tn 5) ?_
    obtain⟨y317,hy,h⟩:=aS h
    refine VO.callM [0] [.t (.sl (.sl (.int .i64))), .t (.int .i64), .t (.int .i64), .t (.int .i64), .c] (d := some 205) (by kernel_rfl) (by kernel_rfl) (ih _ _ _ _ _ hy) (by kernel_rfl) <| nN K (tn 0) ?_
    exact arv [.ren [0, 3, 4, 18, 24, 65536] [0]] ⟨y317, rfl, h⟩
   refine VW.skip ?_
   exact arv [.ren [0, 3, 4, 18, 24, 65536] [0]] ⟨x311, rfl, h⟩
  refine nN K (tn 4) ?_
  refine VW.cond (b := false) (by kernel_rfl) (fun h' => nomatch h') (fun _ => ?_)
  refine VW.skip ?_
  exact arv [.ren [0, 3, 4, 18, 24, 65536] [0]] ⟨x311, rfl, h⟩
 rintro s ⟨x314, rfl, h⟩
 unfold F108_j0 at h
 refine sq <| VW.region <| nG K 4 (tn 4) ?_
 refine spC 209 h ?_ ?_<;>intro h
 ·refine nN K (tn 4) ?_
  refine cnd h ?_ ?_<;>intro h
  ·refine VW.region <| nG K 5 (tn 5) ?_
   obtain⟨y315,hy,h⟩:=aS h
   refine VO.callM [0] [.t (.sl (.sl (.int .i64))), .t (.int .i64), .t (.int .i64), .t (.int .i64), .c] (d := some 219) (by kernel_rfl) (by kernel_rfl) (ih _ _ _ _ _ hy) (by kernel_rfl) <| nN K (tn 0) ?_
   replace h := Option.some.inj h
   subst h
   exact arM [.ren [65536] [0]] ⟨[], by kernel_rfl, by kernel_rfl, by kernel_rfl⟩
  refine VW.skip ?_
  replace h := Option.some.inj h
  subst h
  exact arM [.ren [65536] [0]] ⟨[], by kernel_rfl, by kernel_rfl, by kernel_rfl⟩
 refine nN K (tn 4) ?_
 refine VW.cond (b := false) (by kernel_rfl) (fun h' => nomatch h') (fun _ => ?_)
 refine VW.skip ?_
 replace h := Option.some.inj h
 subst h
 exact arM [.ren [65536] [0]] ⟨[], by kernel_rfl, by kernel_rfl, by kernel_rfl⟩
theorem ok108_c1_k (N : Nat) (g4 : FuncId) (e4_0 : Z52) (p4 : (List Int) → (List Int) → Option (Int)) (hp4 : ∀ (z0 : (List Int)) (z1 : (List Int)) (r : Int), p4 z0 z1 = some r → Con prog g4 [Vv (.sl (.int .i64)) z0, Vv (.sl (.int .i64)) z1, .lf (.fp Y52 e4_0 0)] [.lf (.v (.int .i64) r)]) : ∀ (k : Nat) (a0 : (List (List Int))) (a1 : Int) (a2 : Int) (a3 : Int) (r : (List (List Int))), loopF (F108_b N p4) (fun _ _ _ _ => none) k a0 a1 a2 a3 = some r → ConM prog 108 [ar 0 (.sl (.int .i64)) a0 .tp] [hh 0, I a1, I a2, I a3, .clo g4 [.lf (.fp Y52 e4_0 0)]] [] [ar 0 (.sl (.int .i64)) r .tp]
 | 0, a0, a1, a2, a3, r, h => nomatch (show (none : Option ((List (List Int)))) = some r from h)
 | k + 1, a0, a1, a2, a3, r, h => ok108_c1_b N g4 e4_0 p4 hp4 _ (ok108_c1_k N g4 e4_0 p4 hp4 k) a0 a1 a2 a3 h
theorem ok108_c1 N a0 a1 a2 a3 (g4 : FuncId) e4_0 (p4 : (List Int) → (List Int) → Option (Int)) (hp4 : ∀ (z0 : (List Int)) (z1 : (List Int)) (r : Int), p4 z0 z1 = some r → Con prog g4 [Vv (.sl (.int .i64)) z0, Vv (.sl (.int .i64)) z1, .lf (.fp Y52 e4_0 0)] [.lf (.v (.int .i64) r)]) {r} (h : F108 N a0 a1 a2 a3 p4 = some r) : ConM prog 108 [ar 0 (.sl (.int .i64)) a0 .tp] [hh 0, I a1, I a2, I a3, .clo g4 [.lf (.fp Y52 e4_0 0)]] [] [ar 0 (.sl (.int .i64)) r .tp] := ok108_c1_k N g4 e4_0 p4 hp4 N a0 a1 a2 a3 r h
theorem ok99_c1 N a0 a1 (g2 : FuncId) e2_0 (p2 : (List Int) → (List Int) → Option (Int)) (hp2 : ∀ (z0 : (List Int)) (z1 : (List Int)) (r : Int), p2 z0 z1 = some r → Con prog g2 [Vv (.sl (.int .i64)) z0, Vv (.sl (.int .i64)) z1, .lf (.fp Y52 e2_0 0)] [.lf (.v (.int .i64) r)]) {r} (h : F99 N a0 a1 p2 = some r) : ConM prog 99 [ar 0 (.sl (.int .i64)) a0 .tp] [hh 0, I a1, .clo g2 [.lf (.fp Y52 e2_0 0)]] [] [ar 0 (.sl (.int .i64)) r .tp] := by
 refine ⟨enters_of func99 rfl (by decide), HM.intro [] K func99 rfl (Nat.le_of_ble_eq_true rfl) (Nat.le_of_ble_eq_true rfl) fun w0 E0 ht => ?_⟩
 unfold F99 at h
 show VW _ _ _ _ _ (retM _ _ _ _ _) _
 refine VW.fin <| nR K (tn 1) <| nR K (tn 3) ?_
 refine VW.join (fun s => ∃ x8 x9, s = ⟨[(0, hh 0), (1, I a1), (2, .clo g2 [.lf (.fp Y52 e2_0 0)]), (6, I (20 : Int)), (7, I x9), (65536, hh 0)], [ar 0 (.sl (.int .i64)) x8 .tp]⟩ ∧ F99_j2 N a1 p2 x8 x9 = some r) ?_ ?_
 ·refine VW.block <| lop (fun k s => ∃ x85 x86 x87, s = ⟨[(0, hh 0), (1, I a1), (2, .clo g2 [.lf (.fp Y52 e2_0 0)]), (6, I (20 : Int)), (7, I x86), (8, I x87), (65536, hh 0)], [ar 0 (.sl (.int .i64)) x85 .tp]⟩ ∧ F99_l2 N a1 p2 k x85 x86 x87 = some r) N [.ren [0, 1, 2, 6, 7, 8, 65536] [0]] ⟨a0, (0 : Int), (20 : Int), rfl, h⟩ ?_
  rintro k89 s ⟨x85, x86, x87, rfl, h⟩
  cases k89 with
  | zero => cases show none = some r from h
  | succ k89 =>
   replace h : F99_l2_b N a1 p2 (F99_l2 N a1 p2 k89) x85 x86 x87 = some r := h
   unfold F99_l2_b at h
   refine sq <| nR K (tn 3) ?_
   refine cnd h ?_ ?_<;>intro h
   ·refine VW.skip <| VW.block <| sq <| VW.region <| nG K 4 (tn 4) ?_
    obtain⟨y90,hy,h⟩:=aS h
    refine VO.callM [0] [.t (.sl (.sl (.int .i64))), .t (.int .i64), .t (.int .i64), .c] (d := some 18) (by kernel_rfl) (by kernel_rfl) (ok107_c1 N _ _ _ g2 e2_0 p2 hp2 hy) (by kernel_rfl) <| nN K (tn 0) <| nR K (tn 2) <| nE K (tn 4) ?_
    exact aro [.ren [0, 1, 2, 6, 7, 8, 65536] [0]] ⟨y90, x87, (wr (x87 + (20 : Int))), rfl, h⟩
   refine VW.exit ?_
   exact arv [.ren [0, 1, 2, 6, 7, 65536] [0]] ⟨x85, x86, rfl, h⟩
 rintro s ⟨x8, x9, rfl, h⟩
 unfold F99_j2 at h
 refine sq <| VW.region <| nG K 4 (tn 4) ?_
 obtain⟨y10,hy,h⟩:=aS h
 refine VO.callM [0] [.t (.sl (.sl (.int .i64))), .t (.int .i64), .t (.int .i64), .c] (d := some 27) (by kernel_rfl) (by kernel_rfl) (ok107_c1 N _ _ _ g2 e2_0 p2 hp2 hy) (by kernel_rfl) <| nN K (tn 0) <| VW.block <| lop (fun k s => ∃ x34 x35, s = ⟨[(0, hh 0), (1, I a1), (2, .clo g2 [.lf (.fp Y52 e2_0 0)]), (6, I x35), (65536, hh 0)], [ar 0 (.sl (.int .i64)) x34 .tp]⟩ ∧ F99_l1 N a1 p2 k x34 x35 = some r) N [.ren [0, 1, 2, 6, 65536] [0]] ⟨y10, (20 : Int), rfl, h⟩ ?_
 rintro k59 s ⟨x34, x35, rfl, h⟩
 cases k59 with
 | zero => cases show none = some r from h
 | succ k59 =>
  replace h : F99_l1_b N a1 p2 (F99_l1 N a1 p2 k59) x34 x35 = some r := h
  unfold F99_l1_b at h
  refine sq <| nR K (tn 3) ?_
  refine cnd h ?_ ?_<;>intro h
  ·refine VW.skip <| VW.block <| nR K (tn 4) ?_
   refine VW.join (fun s => ∃ x68 x69, s = ⟨[(0, hh 0), (1, I a1), (2, .clo g2 [.lf (.fp Y52 e2_0 0)]), (6, I x35), (7, I x69), (65536, hh 0)], [ar 0 (.sl (.int .i64)) x68 .tp]⟩ ∧ F99_j1 N a1 (F99_l1 N a1 p2 k59) p2 x35 x68 x69 = some r) ?_ ?_
   ·refine VW.block <| lop (fun k s => ∃ x77 x78 x79, s = ⟨[(0, hh 0), (1, I a1), (2, .clo g2 [.lf (.fp Y52 e2_0 0)]), (6, I x35), (7, I x78), (8, I x79), (65536, hh 0)], [ar 0 (.sl (.int .i64)) x77 .tp]⟩ ∧ F99_l0 N a1 (F99_l1 N a1 p2 k59) p2 x35 k x77 x78 x79 = some r) N [.ren [0, 1, 2, 6, 7, 8, 65536] [0]] ⟨x34, (0 : Int), (wr ((2 : Int) * x35)), rfl, h⟩ ?_
    rintro k81 s ⟨x77, x78, x79, rfl, h⟩
    cases k81 with
    | zero => cases show none = some r from h
    | succ k81 =>
     replace h : F99_l0_b N a1 (F99_l1 N a1 p2 k59) p2 x35 (F99_l0 N a1 (F99_l1 N a1 p2 k59) p2 x35 k81) x77 x78 x79 = some r := h
     unfold F99_l0_b at h
     refine sq <| nR K (tn 3) ?_
     refine cnd h ?_ ?_<;>intro h
     ·refine VW.skip <| VW.block <| sq <| VW.region <| nG K 7 (tn 7) ?_
      obtain⟨y82,hy,h⟩:=aS h
      refine VO.callM [0] [.t (.sl (.sl (.int .i64))), .t (.int .i64), .t (.int .i64), .t (.int .i64), .c] (d := some 43) (by kernel_rfl) (by kernel_rfl) (ok108_c1 N _ _ _ _ g2 e2_0 p2 hp2 hy) (by kernel_rfl) <| nN K (tn 0) <| nR K (tn 2) <| nE K (tn 5) ?_
      exact aro [.ren [0, 1, 2, 6, 7, 8, 65536] [0]] ⟨y82, x79, (wr (x79 + (wr ((2 : Int) * x35)))), rfl, h⟩
     refine VW.exit ?_
     exact arv [.ren [0, 1, 2, 6, 7, 65536] [0]] ⟨x77, x78, rfl, h⟩
   rintro s ⟨x68, x69, rfl, h⟩
   unfold F99_j1 at h
   refine VW.join (fun s => ∃ x71, s = ⟨[(0, hh 0), (1, I a1), (2, .clo g2 [.lf (.fp Y52 e2_0 0)]), (6, I x35), (65536, hh 0)], [ar 0 (.sl (.int .i64)) x71 .tp]⟩ ∧ F99_j0 N (F99_l1 N a1 p2 k59) x35 x71 = some r) ?_ ?_
   ·refine nR K (tn 4) <| nR K (tn 3) ?_
    refine cnd h ?_ ?_<;>intro h
    ·refine VW.region <| nG K 5 (tn 5) ?_
     obtain⟨y73,hy,h⟩:=aS h
     refine VO.callM [0] [.t (.sl (.sl (.int .i64))), .t (.int .i64), .t (.int .i64), .t (.int .i64), .c] (d := some 60) (by kernel_rfl) (by kernel_rfl) (ok108_c1 N _ _ _ _ g2 e2_0 p2 hp2 hy) (by kernel_rfl) <| nN K (tn 0) ?_
     exact arv [.ren [0, 1, 2, 6, 65536] [0]] ⟨y73, rfl, h⟩
    refine VW.skip ?_
    exact arv [.ren [0, 1, 2, 6, 65536] [0]] ⟨x68, rfl, h⟩
   rintro s ⟨x71, rfl, h⟩
   unfold F99_j0 at h
   refine nE K (tn 3) ?_
   exact aro [.ren [0, 1, 2, 6, 65536] [0]] ⟨x71, (wr (x35 * (2 : Int))), rfl, h⟩
  refine VW.exit ?_
  replace h := Option.some.inj h
  subst h
  exact arM [.ren [65536] [0]] ⟨[], by kernel_rfl, by kernel_rfl, by kernel_rfl⟩
theorem ok71_c1 N a0 (g1 : FuncId) e1_0 (p1 : (List Int) → (List Int) → Option (Int)) (hp1 : ∀ (z0 : (List Int)) (z1 : (List Int)) (r : Int), p1 z0 z1 = some r → Con prog g1 [Vv (.sl (.int .i64)) z0, Vv (.sl (.int .i64)) z1, .lf (.fp Y52 e1_0 0)] [.lf (.v (.int .i64) r)]) {r} (h : F71 N a0 p1 = some r) : ConM prog 71 [ar 0 (.sl (.int .i64)) a0 .tp] [hh 0, .clo g1 [.lf (.fp Y52 e1_0 0)]] [] [ar 0 (.sl (.int .i64)) r .tp] := by
 refine ⟨enters_of func71 rfl (by decide), HM.intro [] K func71 rfl (Nat.le_of_ble_eq_true rfl) (Nat.le_of_ble_eq_true rfl) fun w0 E0 ht => ?_⟩
 unfold F71 at h
 show VW _ _ _ _ _ (retM _ _ _ _ _) _
 refine VW.fin <| VW.region <| nG K 4 (tn 4) ?_
 obtain⟨y1,hy,h⟩:=aS h
 refine VO.callM [0] [.t (.sl (.sl (.int .i64))), .t (.int .i64), .c] (d := some 8) (by kernel_rfl) (by kernel_rfl) (ok99_c1 N _ _ g1 e1_0 p1 hp1 hy) (by kernel_rfl) <| nN K (tn 0) ?_
 replace h := Option.some.inj h
 subst h
 exact arM [.ren [65536] [0]] ⟨[], by kernel_rfl, by kernel_rfl, by kernel_rfl⟩
def F72 (N : Nat) (a0 : (List Int)) (a1 : (List Int)) (c0 : Z52) : Option (Int) :=
  gd (InR c0.2.2.1 a0.length) (gd (InR c0.2.2.1 a1.length) (andO (F73 N (a0.getD c0.2.2.1.toNat (Ty.dflt (.int .i64))) (a1.getD c0.2.2.1.toNat (Ty.dflt (.int .i64)))) fun y3 => some y3))
theorem ok72 N a0 a1 c0 {r} (h : F72 N a0 a1 c0 = some r) : Con prog 72 [Vv (.sl (.int .i64)) a0, Vv (.sl (.int .i64)) a1, .lf (.fp Y52 c0 0)] [.lf (.v (.int .i64) r)] := by
 refine ctr [.lf (.v (.int .i64))] K func72 rfl fun w0 E0 ht => ?_
 unfold F72 at h
 show VW _ _ _ _ _ (retQ _ _ _ _) _
 refine nR K (tn 1) <| sq ?_
 obtain⟨g1,h⟩:=gS h
 obtain⟨g2,h⟩:=gS h
 obtain⟨y3,hy3,h⟩:=aS h
 refine dr K [(10, .cl [] (some 16) [.lf (.v (.int .i64) y3)])] [(10, 0)] [] [5] [] (pu 3 (an g1 (pu 4 (an g2 (tn 3))))) ⟨qC false [.t (.int .i64), .t (.int .i64)] [] [] (some 16) K (ok73 N _ _ hy3), trivial⟩ ?_
 cases h; exact VW.ret (rt [])
def F40_j0 (N : Nat) (x877 : (List (List Int))) : Option ((List (List Int)) × Bool) :=
  some (x877, (decide ((x877.length : Int) ≤ (200 : Int))))
def F40_j1 (N : Nat) (nx923 : Int → ByteArray → Int → Int → Int → Bool → (List Int) → (List (List Int)) → (List (List Int)) → Int → Int → Option ((List (List Int)) × Bool)) (x902 : Int) (x903 : ByteArray) (x904 : Int) (x905 : Int) (x906 : Int) (x907 : Bool) (x908 : (List Int)) (x910 : (List (List Int))) (x911 : Int) (x912 : Int) (x928 : (List (List Int))) : Option ((List (List Int)) × Bool) :=
  nx923 x902 x903 x904 x905 x906 x907 x908 x928 x910 x911 (IntKind.i64.wrap (x912 + (1 : Int)))
def F40_l0_b (N : Nat) (nx923 : Int → ByteArray → Int → Int → Int → Bool → (List Int) → (List (List Int)) → (List (List Int)) → Int → Int → Option ((List (List Int)) × Bool)) (x902 : Int) (x903 : ByteArray) (x904 : Int) (x905 : Int) (x906 : Int) (x907 : Bool) (x908 : (List Int)) (x909 : (List (List Int))) (x910 : (List (List Int))) (x911 : Int) (x912 : Int) : Option ((List (List Int)) × Bool) :=
  cond (decide (x912 < x911)) (gd (InR x912 x910.length) (gd (InR x904 (x910.getD x912.toNat (Ty.dflt (.sl (.int .i64)))).length) (andO (F67 N (x902, (x903, (x904, (x905, (x906, (x907, x908)))))) ((x910.getD x912.toNat (Ty.dflt (.sl (.int .i64)))).getD x904.toNat (Ty.dflt (.int .i64)))) fun y932 => cond y932 (gd (x909.length + ([(x910.getD x912.toNat (Ty.dflt (.sl (.int .i64))))]).length ≤ lim (.sl (.int .i64))) (F40_j1 N nx923 x902 x903 x904 x905 x906 x907 x908 x910 x911 x912 (x909 ++ ([(x910.getD x912.toNat (Ty.dflt (.sl (.int .i64))))])))) (F40_j1 N nx923 x902 x903 x904 x905 x906 x907 x908 x910 x911 x912 x909)))) (F40_j0 N x909)
def F40_l0 (N : Nat) := loopF (F40_l0_b N) (fun _ _ _ _ _ _ _ _ _ _ _ => none)
theorem F40_l0_s N {k} (hk : 0 < k) x902 x903 x904 x905 x906 x907 x908 x909 x910 x911 x912 : F40_l0 N k x902 x903 x904 x905 x906 x907 x908 x909 x910 x911 x912 = F40_l0_b N (F40_l0 N (k - 1)) x902 x903 x904 x905 x906 x907 x908 x909 x910 x911 x912 := by cases k;cases hk;rfl
def F40_j2 (N : Nat) (nx1176 : Int → ByteArray → Int → Int → Int → Bool → (List Int) → (List (List Int)) → (List (List Int)) → Int → Int → Option ((List (List Int)) × Bool)) (x1055 : Int) (x1056 : ByteArray) (x1057 : Int) (x1058 : Int) (x1059 : Int) (x1060 : Bool) (x1061 : (List Int)) (x1063 : (List (List Int))) (x1064 : Int) (x1065 : Int) (x1231 : (List (List Int))) : Option ((List (List Int)) × Bool) :=
  nx1176 x1055 x1056 x1057 x1058 x1059 x1060 x1061 x1231 x1063 x1064 (IntKind.i64.wrap (x1065 + (1 : Int)))
def F40_j3 (N : Nat) (nx1176 : Int → ByteArray → Int → Int → Int → Bool → (List Int) → (List (List Int)) → (List (List Int)) → Int → Int → Option ((List (List Int)) × Bool)) (x1055 : Int) (x1056 : ByteArray) (x1057 : Int) (x1058 : Int) (x1059 : Int) (x1060 : Bool) (x1061 : (List Int)) (x1062 : (List (List Int))) (x1063 : (List (List Int))) (x1064 : Int) (x1065 : Int) (x1259 : (List Int)) : Option ((List (List Int)) × Bool) :=
  gd (x1062.length + ([x1259]).length ≤ lim (.sl (.int .i64))) (F40_j2 N nx1176 x1055 x1056 x1057 x1058 x1059 x1060 x1061 x1063 x1064 x1065 (x1062 ++ ([x1259])))
def F40_l1_b (N : Nat) (nx1176 : Int → ByteArray → Int → Int → Int → Bool → (List Int) → (List (List Int)) → (List (List Int)) → Int → Int → Option ((List (List Int)) × Bool)) (x1055 : Int) (x1056 : ByteArray) (x1057 : Int) (x1058 : Int) (x1059 : Int) (x1060 : Bool) (x1061 : (List Int)) (x1062 : (List (List Int))) (x1063 : (List (List Int))) (x1064 : Int) (x1065 : Int) (nx1280 : (List Int) → (List Int) → Int → Int → Option ((List (List Int)) × Bool)) (x1270 : (List Int)) (x1271 : (List Int)) (x1272 : Int) (x1273 : Int) : Option ((List (List Int)) × Bool) :=
  cond (decide (x1273 < x1272)) (gd (InR x1273 x1061.length) (gd (InR (x1061.getD x1273.toNat (Ty.dflt (.int .i64))) x1270.length) (gd (x1271.length + ([(x1270.getD (x1061.getD x1273.toNat (Ty.dflt (.int .i64))).toNat (Ty.dflt (.int .i64)))]).length ≤ lim (.int .i64)) (nx1280 x1270 (x1271 ++ ([(x1270.getD (x1061.getD x1273.toNat (Ty.dflt (.int .i64))).toNat (Ty.dflt (.int .i64)))])) x1272 (IntKind.i64.wrap (x1273 + (1 : Int))))))) (F40_j3 N nx1176 x1055 x1056 x1057 x1058 x1059 x1060 x1061 x1062 x1063 x1064 x1065 x1271)
def F40_l1 (N : Nat) (nx1176 : Int → ByteArray → Int → Int → Int → Bool → (List Int) → (List (List Int)) → (List (List Int)) → Int → Int → Option ((List (List Int)) × Bool)) (x1055 : Int) (x1056 : ByteArray) (x1057 : Int) (x1058 : Int) (x1059 : Int) (x1060 : Bool) (x1061 : (List Int)) (x1062 : (List (List Int))) (x1063 : (List (List Int))) (x1064 : Int) (x1065 : Int) := loopF (F40_l1_b N nx1176 x1055 x1056 x1057 x1058 x1059 x1060 x1061 x1062 x1063 x1064 x1065) (fun _ _ _ _ => none)
theorem F40_l1_s N nx1176 x1055 x1056 x1057 x1058 x1059 x1060 x1061 x1062 x1063 x1064 x1065 {k} (hk : 0 < k) x1270 x1271 x1272 x1273 : F40_l1 N nx1176 x1055 x1056 x1057 x1058 x1059 x1060 x1061 x1062 x1063 x1064 x1065 k x1270 x1271 x1272 x1273 = F40_l1_b N nx1176 x1055 x1056 x1057 x1058 x1059 x1060 x1061 x1062 x1063 x1064 x1065 (F40_l1 N nx1176 x1055 x1056 x1057 x1058 x1059 x1060 x1061 x1062 x1063 x1064 x1065 (k - 1)) x1270 x1271 x1272 x1273 := by cases k;cases hk;rfl
def F40_l2_b (N : Nat) (nx1176 : Int → ByteArray → Int → Int → Int → Bool → (List Int) → (List (List Int)) → (List (List Int)) → Int → Int → Option ((List (List Int)) × Bool)) (x1055 : Int) (x1056 : ByteArray) (x1057 : Int) (x1058 : Int) (x1059 : Int) (x1060 : Bool) (x1061 : (List Int)) (x1062 : (List (List Int))) (x1063 : (List (List Int))) (x1064 : Int) (x1065 : Int) : Option ((List (List Int)) × Bool) :=
  cond (decide (x1065 < x1064)) (gd (InR x1065 x1063.length) (F40_l1 N nx1176 x1055 x1056 x1057 x1058 x1059 x1060 x1061 x1062 x1063 x1064 x1065 N (x1063.getD x1065.toNat (Ty.dflt (.sl (.int .i64)))) ([]) (x1061.length : Int) (0 : Int))) (F40_j0 N x1062)
def F40_l2 (N : Nat) := loopF (F40_l2_b N) (fun _ _ _ _ _ _ _ _ _ _ _ => none)
theorem F40_l2_s N {k} (hk : 0 < k) x1055 x1056 x1057 x1058 x1059 x1060 x1061 x1062 x1063 x1064 x1065 : F40_l2 N k x1055 x1056 x1057 x1058 x1059 x1060 x1061 x1062 x1063 x1064 x1065 = F40_l2_b N (F40_l2 N (k - 1)) x1055 x1056 x1057 x1058 x1059 x1060 x1061 x1062 x1063 x1064 x1065 := by cases k;cases hk;rfl
def F40_j4 (N : Nat) (nx1553 : Int → ByteArray → Int → Int → Int → Bool → (List Int) → (List (List Int)) → (List (List Int)) → Int → Int → Option ((List (List Int)) × Bool)) (x1420 : Int) (x1421 : ByteArray) (x1422 : Int) (x1423 : Int) (x1424 : Int) (x1425 : Bool) (x1426 : (List Int)) (x1428 : (List (List Int))) (x1429 : Int) (x1430 : Int) (x1614 : (List (List Int))) : Option ((List (List Int)) × Bool) :=
  nx1553 x1420 x1421 x1422 x1423 x1424 x1425 x1426 x1614 x1428 x1429 (IntKind.i64.wrap (x1430 + (1 : Int)))
def F40_j5 (N : Nat) (nx1659 : (List (List Int)) → (List Int) → (List (List Int)) → Int → Int → Option ((List (List Int)) × Bool)) (x1639 : (List Int)) (x1640 : (List (List Int))) (x1641 : Int) (x1642 : Int) (x1667 : (List (List Int))) : Option ((List (List Int)) × Bool) :=
  nx1659 x1667 x1639 x1640 x1641 (IntKind.i64.wrap (x1642 + (1 : Int)))
def F40_l3_b (N : Nat) (nx1553 : Int → ByteArray → Int → Int → Int → Bool → (List Int) → (List (List Int)) → (List (List Int)) → Int → Int → Option ((List (List Int)) × Bool)) (x1420 : Int) (x1421 : ByteArray) (x1422 : Int) (x1423 : Int) (x1424 : Int) (x1425 : Bool) (x1426 : (List Int)) (x1428 : (List (List Int))) (x1429 : Int) (x1430 : Int) (nx1659 : (List (List Int)) → (List Int) → (List (List Int)) → Int → Int → Option ((List (List Int)) × Bool)) (x1638 : (List (List Int))) (x1639 : (List Int)) (x1640 : (List (List Int))) (x1641 : Int) (x1642 : Int) : Option ((List (List Int)) × Bool) :=
  cond (decide (x1642 < x1641)) (gd (InR x1642 x1640.length) (gd (InR x1422 x1639.length) (gd (InR x1424 (x1640.getD x1642.toNat (Ty.dflt (.sl (.int .i64)))).length) (cond ((x1639.getD x1422.toNat (Ty.dflt (.int .i64))) == ((x1640.getD x1642.toNat (Ty.dflt (.sl (.int .i64)))).getD x1424.toNat (Ty.dflt (.int .i64)))) (gd (InR x1422 x1639.length) (cond ((x1639.getD x1422.toNat (Ty.dflt (.int .i64))) != (-2000000 : Int)) (andO (F68 N ([x1639, (x1640.getD x1642.toNat (Ty.dflt (.sl (.int .i64))))])) fun y1674 => gd (x1638.length + ([y1674]).length ≤ lim (.sl (.int .i64))) (F40_j5 N nx1659 x1639 x1640 x1641 x1642 (x1638 ++ ([y1674])))) (F40_j5 N nx1659 x1639 x1640 x1641 x1642 x1638))) (F40_j5 N nx1659 x1639 x1640 x1641 x1642 x1638))))) (F40_j4 N nx1553 x1420 x1421 x1422 x1423 x1424 x1425 x1426 x1428 x1429 x1430 x1638)
def F40_l3 (N : Nat) (nx1553 : Int → ByteArray → Int → Int → Int → Bool → (List Int) → (List (List Int)) → (List (List Int)) → Int → Int → Option ((List (List Int)) × Bool)) (x1420 : Int) (x1421 : ByteArray) (x1422 : Int) (x1423 : Int) (x1424 : Int) (x1425 : Bool) (x1426 : (List Int)) (x1428 : (List (List Int))) (x1429 : Int) (x1430 : Int) := loopF (F40_l3_b N nx1553 x1420 x1421 x1422 x1423 x1424 x1425 x1426 x1428 x1429 x1430) (fun _ _ _ _ _ => none)
theorem F40_l3_s N nx1553 x1420 x1421 x1422 x1423 x1424 x1425 x1426 x1428 x1429 x1430 {k} (hk : 0 < k) x1638 x1639 x1640 x1641 x1642 : F40_l3 N nx1553 x1420 x1421 x1422 x1423 x1424 x1425 x1426 x1428 x1429 x1430 k x1638 x1639 x1640 x1641 x1642 = F40_l3_b N nx1553 x1420 x1421 x1422 x1423 x1424 x1425 x1426 x1428 x1429 x1430 (F40_l3 N nx1553 x1420 x1421 x1422 x1423 x1424 x1425 x1426 x1428 x1429 x1430 (k - 1)) x1638 x1639 x1640 x1641 x1642 := by cases k;cases hk;rfl
def F40_l4_b (N : Nat) (x31 : (List (List (List Int)))) (nx1553 : Int → ByteArray → Int → Int → Int → Bool → (List Int) → (List (List Int)) → (List (List Int)) → Int → Int → Option ((List (List Int)) × Bool)) (x1420 : Int) (x1421 : ByteArray) (x1422 : Int) (x1423 : Int) (x1424 : Int) (x1425 : Bool) (x1426 : (List Int)) (x1427 : (List (List Int))) (x1428 : (List (List Int))) (x1429 : Int) (x1430 : Int) : Option ((List (List Int)) × Bool) :=
  cond (decide (x1430 < x1429)) (gd (InR x1430 x1428.length) (gd (InR (1 : Int) x31.length) (gd ((1 : Int).toNat < x31.length) (F40_l3 N nx1553 x1420 x1421 x1422 x1423 x1424 x1425 x1426 x1428 x1429 x1430 N x1427 (x1428.getD x1430.toNat (Ty.dflt (.sl (.int .i64)))) (x31.getD ((1 : Int).toNat) (Ty.dflt (.sl (.sl (.int .i64))))) ((x31.getD ((1 : Int).toNat) (Ty.dflt (.sl (.sl (.int .i64))))).length : Int) (0 : Int))))) (F40_j0 N x1427)
def F40_l4 (N : Nat) (x31 : (List (List (List Int)))) := loopF (F40_l4_b N x31) (fun _ _ _ _ _ _ _ _ _ _ _ => none)
theorem F40_l4_s N x31 {k} (hk : 0 < k) x1420 x1421 x1422 x1423 x1424 x1425 x1426 x1427 x1428 x1429 x1430 : F40_l4 N x31 k x1420 x1421 x1422 x1423 x1424 x1425 x1426 x1427 x1428 x1429 x1430 = F40_l4_b N x31 (F40_l4 N x31 (k - 1)) x1420 x1421 x1422 x1423 x1424 x1425 x1426 x1427 x1428 x1429 x1430 := by cases k;cases hk;rfl
def F40_j6 (N : Nat) (nx1714 : (List (List Int)) → (List (List Int)) → Int → Int → Option ((List (List Int)) × Bool)) (x1703 : (List (List Int))) (x1704 : Int) (x1705 : Int) (x1718 : (List (List Int))) : Option ((List (List Int)) × Bool) :=
  nx1714 x1718 x1703 x1704 (IntKind.i64.wrap (x1705 + (1 : Int)))
def F40_l5_b (N : Nat) (nx1714 : (List (List Int)) → (List (List Int)) → Int → Int → Option ((List (List Int)) × Bool)) (x1702 : (List (List Int))) (x1703 : (List (List Int))) (x1704 : Int) (x1705 : Int) : Option ((List (List Int)) × Bool) :=
  cond (decide (x1705 < x1704)) (gd (InR x1705 x1703.length) (andO (F74 N x1702 (x1703.getD x1705.toNat (Ty.dflt (.sl (.int .i64))))) fun y1721 => cond (y1721 == (0 : Int)) (gd (x1702.length + ([(x1703.getD x1705.toNat (Ty.dflt (.sl (.int .i64))))]).length ≤ lim (.sl (.int .i64))) (F40_j6 N nx1714 x1703 x1704 x1705 (x1702 ++ ([(x1703.getD x1705.toNat (Ty.dflt (.sl (.int .i64))))])))) (F40_j6 N nx1714 x1703 x1704 x1705 x1702))) (F40_j0 N x1702)
def F40_l5 (N : Nat) := loopF (F40_l5_b N) (fun _ _ _ _ => none)
theorem F40_l5_s N {k} (hk : 0 < k) x1702 x1703 x1704 x1705 : F40_l5 N k x1702 x1703 x1704 x1705 = F40_l5_b N (F40_l5 N (k - 1)) x1702 x1703 x1704 x1705 := by cases k;cases hk;rfl
def F40_j7 (N : Nat) (a0 : (List Z49)) (a1 : (List (List (List Int)))) (a2 : (List Z52)) (a3 : Int) (x31 : (List (List (List Int)))) : Option ((List (List Int)) × Bool) :=
  gd (InR a3 a2.length) (cond (((a2.getD a3.toNat (Ty.dflt Y52)).1) == (0 : Int)) (andO (F66 N a0 ((a2.getD a3.toNat (Ty.dflt Y52)).2.1)) fun y879 => gd (InR y879 a1.length) (F40_j0 N (a1.getD y879.toNat (Ty.dflt (.sl (.sl (.int .i64))))))) (cond (((a2.getD a3.toNat (Ty.dflt Y52)).1) == (1 : Int)) (gd (InR (0 : Int) x31.length) (gd ((0 : Int).toNat < x31.length) (F40_l0 N N ((a2.getD a3.toNat (Ty.dflt Y52)).1) ((a2.getD a3.toNat (Ty.dflt Y52)).2.1) ((a2.getD a3.toNat (Ty.dflt Y52)).2.2.1) ((a2.getD a3.toNat (Ty.dflt Y52)).2.2.2.1) ((a2.getD a3.toNat (Ty.dflt Y52)).2.2.2.2.1) ((a2.getD a3.toNat (Ty.dflt Y52)).2.2.2.2.2.1) ((a2.getD a3.toNat (Ty.dflt Y52)).2.2.2.2.2.2) ([]) (x31.getD ((0 : Int).toNat) (Ty.dflt (.sl (.sl (.int .i64))))) ((x31.getD ((0 : Int).toNat) (Ty.dflt (.sl (.sl (.int .i64))))).length : Int) (0 : Int)))) (cond (((a2.getD a3.toNat (Ty.dflt Y52)).1) == (2 : Int)) (gd (InR (0 : Int) x31.length) (gd ((0 : Int).toNat < x31.length) (F40_l2 N N ((a2.getD a3.toNat (Ty.dflt Y52)).1) ((a2.getD a3.toNat (Ty.dflt Y52)).2.1) ((a2.getD a3.toNat (Ty.dflt Y52)).2.2.1) ((a2.getD a3.toNat (Ty.dflt Y52)).2.2.2.1) ((a2.getD a3.toNat (Ty.dflt Y52)).2.2.2.2.1) ((a2.getD a3.toNat (Ty.dflt Y52)).2.2.2.2.2.1) ((a2.getD a3.toNat (Ty.dflt Y52)).2.2.2.2.2.2) ([]) (x31.getD ((0 : Int).toNat) (Ty.dflt (.sl (.sl (.int .i64))))) ((x31.getD ((0 : Int).toNat) (Ty.dflt (.sl (.sl (.int .i64))))).length : Int) (0 : Int)))) (cond (((a2.getD a3.toNat (Ty.dflt Y52)).1) == (3 : Int)) (gd (InR (0 : Int) x31.length) (gd ((0 : Int).toNat < x31.length) (F40_l4 N x31 N ((a2.getD a3.toNat (Ty.dflt Y52)).1) ((a2.getD a3.toNat (Ty.dflt Y52)).2.1) ((a2.getD a3.toNat (Ty.dflt Y52)).2.2.1) ((a2.getD a3.toNat (Ty.dflt Y52)).2.2.2.1) ((a2.getD a3.toNat (Ty.dflt Y52)).2.2.2.2.1) ((a2.getD a3.toNat (Ty.dflt Y52)).2.2.2.2.2.1) ((a2.getD a3.toNat (Ty.dflt Y52)).2.2.2.2.2.2) ([]) (x31.getD ((0 : Int).toNat) (Ty.dflt (.sl (.sl (.int .i64))))) ((x31.getD ((0 : Int).toNat) (Ty.dflt (.sl (.sl (.int .i64))))).length : Int) (0 : Int)))) (cond (((a2.getD a3.toNat (Ty.dflt Y52)).1) == (4 : Int)) (gd (InR (0 : Int) x31.length) (gd ((0 : Int).toNat < x31.length) (gd (InR (1 : Int) x31.length) (gd ((1 : Int).toNat < x31.length) (andO (F69 N ([(x31.getD ((0 : Int).toNat) (Ty.dflt (.sl (.sl (.int .i64))))), (x31.getD ((1 : Int).toNat) (Ty.dflt (.sl (.sl (.int .i64)))))])) fun y1680 => F40_j0 N y1680))))) (cond (((a2.getD a3.toNat (Ty.dflt Y52)).1) == (5 : Int)) (gd (InR (0 : Int) x31.length) (gd ((0 : Int).toNat < x31.length) (andO (F70 N (x31.getD ((0 : Int).toNat) (Ty.dflt (.sl (.sl (.int .i64)))))) fun y1683 => andO (F71 N y1683 (fun z0 z1 => F72 N z0 z1 (a2.getD a3.toNat (Ty.dflt Y52)))) fun y1684 => F40_j0 N y1684))) (cond (((a2.getD a3.toNat (Ty.dflt Y52)).1) == (6 : Int)) (gd (InR (0 : Int) x31.length) (gd ((0 : Int).toNat < x31.length) (gd (InR (0 : Int) x31.length) (gd ((0 : Int).toNat < x31.length) (gd (0 ≤ (if (((x31.getD ((0 : Int).toNat) (Ty.dflt (.sl (.sl (.int .i64))))).length : Int) : Int) < (a2.getD a3.toNat (Ty.dflt Y52)).2.2.2.2.1 then ((x31.getD ((0 : Int).toNat) (Ty.dflt (.sl (.sl (.int .i64))))).length : Int) else (a2.getD a3.toNat (Ty.dflt Y52)).2.2.2.2.1) ∧ (if (((x31.getD ((0 : Int).toNat) (Ty.dflt (.sl (.sl (.int .i64))))).length : Int) : Int) < (a2.getD a3.toNat (Ty.dflt Y52)).2.2.2.2.1 then ((x31.getD ((0 : Int).toNat) (Ty.dflt (.sl (.sl (.int .i64))))).length : Int) else (a2.getD a3.toNat (Ty.dflt Y52)).2.2.2.2.1) ≤ ((x31.getD ((0 : Int).toNat) (Ty.dflt (.sl (.sl (.int .i64))))).length : Int)) (F40_j0 N ((x31.getD ((0 : Int).toNat) (Ty.dflt (.sl (.sl (.int .i64))))).take (if (((x31.getD ((0 : Int).toNat) (Ty.dflt (.sl (.sl (.int .i64))))).length : Int) : Int) < (a2.getD a3.toNat (Ty.dflt Y52)).2.2.2.2.1 then ((x31.getD ((0 : Int).toNat) (Ty.dflt (.sl (.sl (.int .i64))))).length : Int) else (a2.getD a3.toNat (Ty.dflt Y52)).2.2.2.2.1).toNat))))))) (cond (((a2.getD a3.toNat (Ty.dflt Y52)).1) == (7 : Int)) (gd (InR (0 : Int) x31.length) (gd ((0 : Int).toNat < x31.length) (F40_l5 N N ([]) (x31.getD ((0 : Int).toNat) (Ty.dflt (.sl (.sl (.int .i64))))) ((x31.getD ((0 : Int).toNat) (Ty.dflt (.sl (.sl (.int .i64))))).length : Int) (0 : Int)))) (F40_j0 N ([]))))))))))
def F40_l6_b (N : Nat) (a0 : (List Z49)) (a1 : (List (List (List Int)))) (a2 : (List Z52)) (a3 : Int) (self : (List Z49) → (List (List (List Int))) → (List Z52) → Int → Option ((List (List Int)) × Bool)) (y1724 : (List Int)) (nx1745 : (List (List (List Int))) → Int → Int → Option ((List (List Int)) × Bool)) (x1734 : (List (List (List Int)))) (x1735 : Int) (x1736 : Int) : Option ((List (List Int)) × Bool) :=
  cond (decide (x1736 < x1735)) (gd (InR x1736 y1724.length) (gd (x1736.toNat < y1724.length) (andO (self a0 a1 a2 (y1724.getD x1736.toNat (Ty.dflt (.int .i64)))) fun y1752 => cond (!y1752.2) (some ([], false)) (gd (x1734.length + ([y1752.1]).length ≤ lim (.sl (.sl (.int .i64)))) (nx1745 (x1734 ++ ([y1752.1])) x1735 (IntKind.i64.wrap (x1736 + (1 : Int)))))))) (F40_j7 N a0 a1 a2 a3 x1734)
def F40_l6 (N : Nat) (a0 : (List Z49)) (a1 : (List (List (List Int)))) (a2 : (List Z52)) (a3 : Int) (self : (List Z49) → (List (List (List Int))) → (List Z52) → Int → Option ((List (List Int)) × Bool)) (y1724 : (List Int)) := loopF (F40_l6_b N a0 a1 a2 a3 self y1724) (fun _ _ _ => none)
theorem F40_l6_s N a0 a1 a2 a3 (self : (List Z49) → (List (List (List Int))) → (List Z52) → Int → Option ((List (List Int)) × Bool)) y1724 {k} (hk : 0 < k) x1734 x1735 x1736 : F40_l6 N a0 a1 a2 a3 self y1724 k x1734 x1735 x1736 = F40_l6_b N a0 a1 a2 a3 self y1724 (F40_l6 N a0 a1 a2 a3 self y1724 (k - 1)) x1734 x1735 x1736 := by cases k;cases hk;rfl
def F40_b (N : Nat) (self : (List Z49) → (List (List (List Int))) → (List Z52) → Int → Option ((List (List Int)) × Bool)) (a0 : (List Z49)) (a1 : (List (List (List Int)))) (a2 : (List Z52)) (a3 : Int) : Option ((List (List Int)) × Bool) :=
  andO (F65 N a2 a3) fun y1724 => F40_l6 N a0 a1 a2 a3 self y1724 N ([]) (y1724.length : Int) (0 : Int)
theorem ok40_b (N : Nat) (self : (List Z49) → (List (List (List Int))) → (List Z52) → Int → Option ((List (List Int)) × Bool)) (ih : ∀ (a0 : (List Z49)) (a1 : (List (List (List Int)))) (a2 : (List Z52)) (a3 : Int) (r : (List (List Int)) × Bool), self a0 a1 a2 a3 = some r → Con prog 40 [Vv (.sl Y49) a0, Vv (.sl (.sl (.sl (.int .i64)))) a1, Vv (.sl Y52) a2, I a3] [.lf (.v (.sl (.sl (.int .i64))) r.1), .lf (.v .bool r.2)]) (a0 : (List Z49)) (a1 : (List (List (List Int)))) (a2 : (List Z52)) (a3 : Int) {r : (List (List Int)) × Bool} (h : F40_b N self a0 a1 a2 a3 = some r) : Con prog 40 [Vv (.sl Y49) a0, Vv (.sl (.sl (.sl (.int .i64)))) a1, Vv (.sl Y52) a2, I a3] [.lf (.v (.sl (.sl (.int .i64))) r.1), .lf (.v .bool r.2)] := by
 refine ctr [.lf (.v (.sl (.sl (.int .i64)))), .lf (.v .bool)] K func40 rfl fun w0 E0 ht => ?_
 unfold F40_b at h
 show VW _ _ _ _ _ (retQ _ _ _ _) _
 refine nR K (tn 2) <| nR K (tn 1) ?_
 refine VW.join (fun s => ∃ (x31 : (List (List (List Int)))), s = ⟨[(0, Vv (.sl Y49) a0), (1, Vv (.sl (.sl (.sl (.int .i64)))) a1), (2, Vv (.sl Y52) a2), (3, I a3), (10, hh 0)], [ar 0 (.sl (.sl (.int .i64))) x31 .tp]⟩ ∧ F40_j7 N a0 a1 a2 a3 x31 = some r) ?_ ?_
 ·refine sq <| VW.region <| nG K 2 (tn 2) ?_
  obtain⟨y1724,hy,h⟩:=aS h
  refine clc false [.t (.sl Y52), .t (.int .i64)] [] (some 32) K (ok65 N _ _ hy) <| nN K (tn 2) <| VW.block <| lop (fun k s => ∃ (x1734 : (List (List (List Int)))) (x1735 : Int) (x1736 : Int), s = ⟨[(0, Vv (.sl Y49) a0), (1, Vv (.sl (.sl (.sl (.int .i64)))) a1), (2, Vv (.sl Y52) a2), (3, I a3), (10, hh 0), (32, hh 1), (33, I x1735), (34, I x1736)], [ar 0 (.sl (.sl (.int .i64))) x1734 .tp, ar 0 (.int .i64) y1724 .dp]⟩ ∧ F40_l6 N a0 a1 a2 a3 self y1724 k x1734 x1735 x1736 = some r) N [.nilS 10 (.sl (.sl (.int .i64))) .tp, .ren [0, 1, 2, 3, 10, 32, 33, 34] [1, 0]] ⟨[], (y1724.length : Int), (0 : Int), rfl, h⟩ ?_
  rintro k1745 s ⟨x1734, x1735, x1736, rfl, h⟩
  cases k1745 with
  | zero => cases show none = some r from h
  | succ k1745 =>
   replace h : F40_l6_b N a0 a1 a2 a3 self y1724 (F40_l6 N a0 a1 a2 a3 self y1724 k1745) x1734 x1735 x1736 = some r := h
   unfold F40_l6_b at h
   refine nR K (tn 1) <| sq ?_
   refine cnd h ?_ ?_<;>intro h
   ·refine VW.skip <| sq <| VW.block ?_
    obtain⟨g1750,h⟩:=gS h
    obtain⟨g1751,h⟩:=gS h
    refine nR K (an g1750 (an g1751 (tn 1))) <| sq <| VW.region <| nG K 4 (tn 4) ?_
    obtain⟨y1752,hy,h⟩:=aS h
    refine clc false [.t (.sl Y49), .t (.sl (.sl (.sl (.int .i64)))), .t (.sl Y52), .t (.int .i64)] [] (some 43) K (ih _ _ _ _ _ hy) <| nN K (tn 5) <| sq <| nR K (tn 2) ?_
    refine cnd h ?_ ?_<;>intro h
    ·refine nR K (tn 2) ?_
     cases h; exact VW.ret (rt [])
    refine VW.skip ?_
    obtain⟨g1753,h⟩:=gS h
    refine nE K (pu 3 (an g1753 (tn 1))) <| nE K (tn 2) ?_
    exact aro [.ren [0, 1, 2, 3, 10, 32, 33, 34] [0, 1]] ⟨(x1734 ++ ([y1752.1])), x1735, (wr (x1736 + (1 : Int))), rfl, h⟩
   refine VW.exit ?_
   exact arv [.ren [0, 1, 2, 3, 10] [0]] ⟨x1734, rfl, h⟩
 rintro s ⟨x31, rfl, h⟩
 unfold F40_j7 at h
 obtain⟨g32,h⟩:=gS h
 refine nR K (pu 2 (an g32 (tn 3))) <| nR K (tn 1) ?_
 refine VW.join (fun s => ∃ x877, s = ⟨[(16, Vv (.sl (.sl (.int .i64))) x877)], []⟩ ∧ F40_j0 N x877 = some r) ?_ ?_
 ·refine nR K (tn 2) <| VW.block <| nR K (tn 2) ?_
  refine cnd h ?_ ?_<;>intro h
  ·refine VW.region <| nG K 4 (tn 4) ?_
   obtain⟨y879,hy,h⟩:=aS h
   refine clc false [.t (.sl Y49), .t .str] [] (some 65) K (ok66 N _ _ hy) ?_
   obtain⟨g880,h⟩:=gS h
   refine nN K (an g880 (tn 2)) ?_
   exact arv [.ren [16] []] ⟨(a1.getD y879.toNat (Ty.dflt (.sl (.sl (.int .i64))))), rfl, h⟩
  refine nR K (tn 2) ?_
  refine cnd h ?_ ?_<;>intro h
  ·obtain⟨g881,h⟩:=gS h
   obtain⟨g882,h⟩:=gS h
   refine nR K (pu 1 (an g881 (an g882 (tn 2)))) <| VW.block <| lop (fun k s => ∃ x902 x903 x904 x905 x906 x907 x908 x909 x910 x911 x912, s = ⟨[(15, .lf (.ptr 0 0 0 0)), (16, hh 1), (72, Vv (.sl (.sl (.int .i64))) x910), (73, I x911), (74, I x912)], [bx [zi x902, zs x903, zi x904, zi x905, zi x906, zb x907, .v (.sl (.int .i64)) x908] 56, ar 0 (.sl (.int .i64)) x909 .tp]⟩ ∧ F40_l0 N k x902 x903 x904 x905 x906 x907 x908 x909 x910 x911 x912 = some r) N [.nilS 16 (.sl (.int .i64)) .tp, .ren [15, 16, 72, 73, 74] [1, 2]] ⟨(a2.getD a3.toNat D52).1, (a2.getD a3.toNat D52).2.1, (a2.getD a3.toNat D52).2.2.1, (a2.getD a3.toNat D52).2.2.2.1, (a2.getD a3.toNat D52).2.2.2.2.1, (a2.getD a3.toNat D52).2.2.2.2.2.1, (a2.getD a3.toNat D52).2.2.2.2.2.2, [], (x31.getD ((0 : Int).toNat) (Ty.dflt (.sl (.sl (.int .i64))))), ((x31.getD ((0 : Int).toNat) (Ty.dflt (.sl (.sl (.int .i64))))).length : Int), (0 : Int), rfl, h⟩ ?_
   rintro k923 s ⟨x902, x903, x904, x905, x906, x907, x908, x909, x910, x911, x912, rfl, h⟩
   cases k923 with
   | zero => cases show none = some r from h
   | succ k923 =>
    replace h : F40_l0_b N (F40_l0 N k923) x902 x903 x904 x905 x906 x907 x908 x909 x910 x911 x912 = some r := h
    unfold F40_l0_b at h
    refine nR K (tn 1) <| sq ?_
    refine cnd h ?_ ?_<;>intro h
    ·refine VW.skip ?_
     refine VW.join (fun s => ∃ x928, s = ⟨[(15, .lf (.ptr 0 0 0 0)), (16, hh 1), (72, Vv (.sl (.sl (.int .i64))) x910), (73, I x911), (74, I x912)], [bx [zi x902, zs x903, zi x904, zi x905, zi x906, zb x907, .v (.sl (.int .i64)) x908] 56, ar 0 (.sl (.int .i64)) x928 .tp]⟩ ∧ F40_j1 N (F40_l0 N k923) x902 x903 x904 x905 x906 x907 x908 x910 x911 x912 x928 = some r) ?_ ?_
     ·refine VW.block ?_
      obtain⟨g930,h⟩:=gS h
      refine nR K (an g930 (tn 2)) <| sq ?_
      obtain⟨g931,h⟩:=gS h
      obtain⟨y932,hy932,h⟩:=aS h
      refine dr K [(6, .cl [] (some 84) [.lf (.v .bool y932)])] [(6, 0)] [] [15, 16, 18, 72, 73, 74, 84] [0, 1] (pu 4 (an g931 (tn 2))) ⟨qC false [.t Y52, .t (.int .i64)] [] [] (some 84) K (ok67 N _ _ hy932), trivial⟩ ?_
      refine cnd h ?_ ?_<;>intro h
      ·obtain⟨g933,h⟩:=gS h
       refine nE K (pu 3 (an g933 (tn 1))) ?_
       exact arv [.ren [15, 16, 72, 73, 74] [0, 1]] ⟨(x909 ++ ([(x910.getD x912.toNat (Ty.dflt (.sl (.int .i64))))])), rfl, h⟩
      refine VW.skip ?_
      exact arv [.ren [15, 16, 72, 73, 74] [0, 1]] ⟨x909, rfl, h⟩
     rintro s ⟨x928, rfl, h⟩
     unfold F40_j1 at h
     refine nE K (tn 2) ?_
     exact aro [.ren [15, 16, 72, 73, 74] [0, 1]] ⟨x902, x903, x904, x905, x906, x907, x908, x928, x910, x911, (wr (x912 + (1 : Int))), rfl, h⟩
    refine VW.exit ?_
    exact arv [.frz 1, .ren [16] []] ⟨x909, rfl, h⟩
  refine nR K (tn 2) ?_
  refine cnd h ?_ ?_<;>intro h
  ·obtain⟨g934,h⟩:=gS h
   obtain⟨g935,h⟩:=gS h
   refine nR K (pu 1 (an g934 (an g935 (tn 2)))) <| VW.block <| lop (fun k s => ∃ x1055 x1056 x1057 x1058 x1059 x1060 x1061 x1062 x1063 x1064 x1065, s = ⟨[(15, .lf (.ptr 0 0 0 0)), (16, hh 1), (94, Vv (.sl (.sl (.int .i64))) x1063), (95, I x1064), (96, I x1065)], [bx [zi x1055, zs x1056, zi x1057, zi x1058, zi x1059, zb x1060, .v (.sl (.int .i64)) x1061] 56, ar 0 (.sl (.int .i64)) x1062 .dp]⟩ ∧ F40_l2 N k x1055 x1056 x1057 x1058 x1059 x1060 x1061 x1062 x1063 x1064 x1065 = some r) N [.nilS 16 (.sl (.int .i64)) .dp, .ren [15, 16, 94, 95, 96] [1, 2]] ⟨(a2.getD a3.toNat D52).1, (a2.getD a3.toNat D52).2.1, (a2.getD a3.toNat D52).2.2.1, (a2.getD a3.toNat D52).2.2.2.1, (a2.getD a3.toNat D52).2.2.2.2.1, (a2.getD a3.toNat D52).2.2.2.2.2.1, (a2.getD a3.toNat D52).2.2.2.2.2.2, [], (x31.getD ((0 : Int).toNat) (Ty.dflt (.sl (.sl (.int .i64))))), ((x31.getD ((0 : Int).toNat) (Ty.dflt (.sl (.sl (.int .i64))))).length : Int), (0 : Int), rfl, h⟩ ?_
   rintro k1176 s ⟨x1055, x1056, x1057, x1058, x1059, x1060, x1061, x1062, x1063, x1064, x1065, rfl, h⟩
   cases k1176 with
   | zero => cases show none = some r from h
   | succ k1176 =>
    replace h : F40_l2_b N (F40_l2 N k1176) x1055 x1056 x1057 x1058 x1059 x1060 x1061 x1062 x1063 x1064 x1065 = some r := h
    unfold F40_l2_b at h
    refine nR K (tn 1) <| sq ?_
    refine cnd h ?_ ?_<;>intro h
    ·refine VW.skip ?_
     refine VW.join (fun s => ∃ x1231, s = ⟨[(15, .lf (.ptr 0 0 0 0)), (16, hh 1), (94, Vv (.sl (.sl (.int .i64))) x1063), (95, I x1064), (96, I x1065)], [bx [zi x1055, zs x1056, zi x1057, zi x1058, zi x1059, zb x1060, .v (.sl (.int .i64)) x1061] 56, ar 0 (.sl (.int .i64)) x1231 .dp]⟩ ∧ F40_j2 N (F40_l2 N k1176) x1055 x1056 x1057 x1058 x1059 x1060 x1061 x1063 x1064 x1065 x1231 = some r) ?_ ?_
     ·refine VW.block ?_
      obtain⟨g1233,h⟩:=gS h
      refine nR K (an g1233 (tn 2)) <| nR K (tn 1) ?_
      refine VW.join (fun s => ∃ x1259, s = ⟨[(15, .lf (.ptr 0 0 0 0)), (16, hh 1), (21, hh 2), (94, Vv (.sl (.sl (.int .i64))) x1063), (95, I x1064), (96, I x1065)], [bx [zi x1055, zs x1056, zi x1057, zi x1058, zi x1059, zb x1060, .v (.sl (.int .i64)) x1061] 56, ar 0 (.sl (.int .i64)) x1062 .dp, ar 0 (.int .i64) x1259 .dp]⟩ ∧ F40_j3 N (F40_l2 N k1176) x1055 x1056 x1057 x1058 x1059 x1060 x1061 x1062 x1063 x1064 x1065 x1259 = some r) ?_ ?_
      ·refine nR K (tn 4) <| VW.block <| lop (fun k s => ∃ x1270 x1271 x1272 x1273, s = ⟨[(15, .lf (.ptr 0 0 0 0)), (16, hh 1), (20, Vv (.sl (.int .i64)) x1270), (21, hh 2), (94, Vv (.sl (.sl (.int .i64))) x1063), (95, I x1064), (96, I x1065), (101, Vv (.sl (.int .i64)) x1061), (102, I x1272), (103, I x1273)], [bx [zi x1055, zs x1056, zi x1057, zi x1058, zi x1059, zb x1060, .v (.sl (.int .i64)) x1061] 56, ar 0 (.sl (.int .i64)) x1062 .dp, ar 0 (.int .i64) x1271 .dp]⟩ ∧ F40_l1 N (F40_l2 N k1176) x1055 x1056 x1057 x1058 x1059 x1060 x1061 x1062 x1063 x1064 x1065 k x1270 x1271 x1272 x1273 = some r) N [.nilS 21 (.int .i64) .dp, .ren [15, 16, 20, 21, 94, 95, 96, 101, 102, 103] [0, 1, 2]] ⟨(x1063.getD x1065.toNat (Ty.dflt (.sl (.int .i64)))), [], (x1061.length : Int), (0 : Int), rfl, h⟩ ?_
       rintro k1280 s ⟨x1270, x1271, x1272, x1273, rfl, h⟩
       cases k1280 with
       | zero => cases show none = some r from h
       | succ k1280 =>
        replace h : F40_l1_b N (F40_l2 N k1176) x1055 x1056 x1057 x1058 x1059 x1060 x1061 x1062 x1063 x1064 x1065 (F40_l1 N (F40_l2 N k1176) x1055 x1056 x1057 x1058 x1059 x1060 x1061 x1062 x1063 x1064 x1065 k1280) x1270 x1271 x1272 x1273 = some r := h
        unfold F40_l1_b at h
        refine nR K (tn 1) <| sq ?_
        refine cnd h ?_ ?_<;>intro h
        ·refine VW.skip <| sq <| VW.block ?_
         obtain⟨g1284,h⟩:=gS h
         refine nR K (an g1284 (tn 2)) ?_
         obtain⟨g1285,h⟩:=gS h
         obtain⟨g1286,h⟩:=gS h
         refine nE K (pu 3 (an g1285 (pu 2 (an g1286 (tn 1))))) <| nE K (tn 2) ?_
         exact aro [.ren [15, 16, 20, 21, 94, 95, 96, 101, 102, 103] [0, 1, 2]] ⟨x1270, (x1271 ++ ([(x1270.getD (x1061.getD x1273.toNat (Ty.dflt (.int .i64))).toNat (Ty.dflt (.int .i64)))])), x1272, (wr (x1273 + (1 : Int))), rfl, h⟩
        refine VW.exit ?_
        exact arv [.ren [15, 16, 21, 94, 95, 96] [0, 1, 2]] ⟨x1271, rfl, h⟩
      rintro s ⟨x1259, rfl, h⟩
      unfold F40_j3 at h
      refine VW.region <| nG K 2 (tn 2) <| VO.litA (d := 117) (v := hh 3) (H' := [bx [zi x1055, zs x1056, zi x1057, zi x1058, zi x1059, zb x1060, .v (.sl (.int .i64)) x1061] 56, ar 0 (.sl (.int .i64)) x1062 .dp, none, ar 0 (.sl (.int .i64)) ([x1259]) .dp]) K (by kernel_rfl) ?_
      obtain⟨g1260,h⟩:=gS h
      refine VO.appM (d := 118) (φ := x1062.length + ([x1259]).length ≤ lim (.sl (.int .i64))) (v := .lf (.hd 1 1 none)) (H' := [bx [zi x1055, zs x1056, zi x1057, zi x1058, zi x1059, zb x1060, .v (.sl (.int .i64)) x1061] 56, ar 1 (.sl (.int .i64)) (x1062 ++ ([x1259])) .dp, none, none]) K (by kernel_rfl) g1260 <| nN K (tn 1) ?_
      exact arv [.ren [15, 16, 94, 95, 96] [0, 1]] ⟨(x1062 ++ ([x1259])), rfl, h⟩
     rintro s ⟨x1231, rfl, h⟩
     unfold F40_j2 at h
     refine nE K (tn 2) ?_
     exact aro [.ren [15, 16, 94, 95, 96] [0, 1]] ⟨x1055, x1056, x1057, x1058, x1059, x1060, x1061, x1231, x1063, x1064, (wr (x1065 + (1 : Int))), rfl, h⟩
    refine VW.exit ?_
    exact arv [.frz 1, .ren [16] []] ⟨x1062, rfl, h⟩
  refine nR K (tn 2) ?_
  refine cnd h ?_ ?_<;>intro h
  ·obtain⟨g1287,h⟩:=gS h
   obtain⟨g1288,h⟩:=gS h
   refine nR K (pu 1 (an g1287 (an g1288 (tn 2)))) <| VW.block <| lop (fun k s => ∃ x1420 x1421 x1422 x1423 x1424 x1425 x1426 x1427 x1428 x1429 x1430, s = ⟨[(10, hh 0), (15, .lf (.ptr 1 0 0 0)), (16, hh 2), (124, Vv (.sl (.sl (.int .i64))) x1428), (125, I x1429), (126, I x1430)], [ar 0 (.sl (.sl (.int .i64))) x31 .tp, bx [zi x1420, zs x1421, zi x1422, zi x1423, zi x1424, zb x1425, .v (.sl (.int .i64)) x1426] 56, ar 0 (.sl (.int .i64)) x1427 .dp]⟩ ∧ F40_l4 N x31 k x1420 x1421 x1422 x1423 x1424 x1425 x1426 x1427 x1428 x1429 x1430 = some r) N [.nilS 16 (.sl (.int .i64)) .dp, .ren [10, 15, 16, 124, 125, 126] [0, 1, 2]] ⟨(a2.getD a3.toNat D52).1, (a2.getD a3.toNat D52).2.1, (a2.getD a3.toNat D52).2.2.1, (a2.getD a3.toNat D52).2.2.2.1, (a2.getD a3.toNat D52).2.2.2.2.1, (a2.getD a3.toNat D52).2.2.2.2.2.1, (a2.getD a3.toNat D52).2.2.2.2.2.2, [], (x31.getD ((0 : Int).toNat) (Ty.dflt (.sl (.sl (.int .i64))))), ((x31.getD ((0 : Int).toNat) (Ty.dflt (.sl (.sl (.int .i64))))).length : Int), (0 : Int), rfl, h⟩ ?_
   rintro k1553 s ⟨x1420, x1421, x1422, x1423, x1424, x1425, x1426, x1427, x1428, x1429, x1430, rfl, h⟩
   cases k1553 with
   | zero => cases show none = some r from h
   | succ k1553 =>
    replace h : F40_l4_b N x31 (F40_l4 N x31 k1553) x1420 x1421 x1422 x1423 x1424 x1425 x1426 x1427 x1428 x1429 x1430 = some r := h
    unfold F40_l4_b at h
    refine nR K (tn 1) <| sq ?_
    refine cnd h ?_ ?_<;>intro h
    ·refine VW.skip ?_
     refine VW.join (fun s => ∃ x1614, s = ⟨[(10, hh 0), (15, .lf (.ptr 1 0 0 0)), (16, hh 2), (124, Vv (.sl (.sl (.int .i64))) x1428), (125, I x1429), (126, I x1430)], [ar 0 (.sl (.sl (.int .i64))) x31 .tp, bx [zi x1420, zs x1421, zi x1422, zi x1423, zi x1424, zb x1425, .v (.sl (.int .i64)) x1426] 56, ar 0 (.sl (.int .i64)) x1614 .dp]⟩ ∧ F40_j4 N (F40_l4 N x31 k1553) x1420 x1421 x1422 x1423 x1424 x1425 x1426 x1428 x1429 x1430 x1614 = some r) ?_ ?_
     ·refine VW.block ?_
      obtain⟨g1616,h⟩:=gS h
      refine nR K (an g1616 (tn 2)) ?_
      obtain⟨g1617,h⟩:=gS h
      obtain⟨g1618,h⟩:=gS h
      refine nR K (pu 1 (an g1617 (an g1618 (tn 2)))) <| VW.block <| lop (fun k s => ∃ x1638 x1639 x1640 x1641 x1642, s = ⟨[(10, hh 0), (15, .lf (.ptr 1 0 0 0)), (16, hh 2), (25, Vv (.sl (.int .i64)) x1639), (124, Vv (.sl (.sl (.int .i64))) x1428), (125, I x1429), (126, I x1430), (132, Vv (.sl (.sl (.int .i64))) x1640), (133, I x1641), (134, I x1642)], [ar 0 (.sl (.sl (.int .i64))) x31 .tp, bx [zi x1420, zs x1421, zi x1422, zi x1423, zi x1424, zb x1425, .v (.sl (.int .i64)) x1426] 56, ar 0 (.sl (.int .i64)) x1638 .dp]⟩ ∧ F40_l3 N (F40_l4 N x31 k1553) x1420 x1421 x1422 x1423 x1424 x1425 x1426 x1428 x1429 x1430 k x1638 x1639 x1640 x1641 x1642 = some r) N [.ren [10, 15, 16, 25, 124, 125, 126, 132, 133, 134] [0, 1, 2]] ⟨x1427, (x1428.getD x1430.toNat (Ty.dflt (.sl (.int .i64)))), (x31.getD ((1 : Int).toNat) (Ty.dflt (.sl (.sl (.int .i64))))), ((x31.getD ((1 : Int).toNat) (Ty.dflt (.sl (.sl (.int .i64))))).length : Int), (0 : Int), rfl, h⟩ ?_
      rintro k1659 s ⟨x1638, x1639, x1640, x1641, x1642, rfl, h⟩
      cases k1659 with
      | zero => cases show none = some r from h
      | succ k1659 =>
       replace h : F40_l3_b N (F40_l4 N x31 k1553) x1420 x1421 x1422 x1423 x1424 x1425 x1426 x1428 x1429 x1430 (F40_l3 N (F40_l4 N x31 k1553) x1420 x1421 x1422 x1423 x1424 x1425 x1426 x1428 x1429 x1430 k1659) x1638 x1639 x1640 x1641 x1642 = some r := h
       unfold F40_l3_b at h
       refine nR K (tn 1) <| sq ?_
       refine cnd h ?_ ?_<;>intro h
       ·refine VW.skip ?_
        refine VW.join (fun s => ∃ x1667, s = ⟨[(10, hh 0), (15, .lf (.ptr 1 0 0 0)), (16, hh 2), (25, Vv (.sl (.int .i64)) x1639), (124, Vv (.sl (.sl (.int .i64))) x1428), (125, I x1429), (126, I x1430), (132, Vv (.sl (.sl (.int .i64))) x1640), (133, I x1641), (134, I x1642)], [ar 0 (.sl (.sl (.int .i64))) x31 .tp, bx [zi x1420, zs x1421, zi x1422, zi x1423, zi x1424, zb x1425, .v (.sl (.int .i64)) x1426] 56, ar 0 (.sl (.int .i64)) x1667 .dp]⟩ ∧ F40_j5 N (F40_l3 N (F40_l4 N x31 k1553) x1420 x1421 x1422 x1423 x1424 x1425 x1426 x1428 x1429 x1430 k1659) x1639 x1640 x1641 x1642 x1667 = some r) ?_ ?_
        ·refine VW.block ?_
         obtain⟨g1669,h⟩:=gS h
         refine nR K (an g1669 (tn 2)) <| sq ?_
         obtain⟨g1670,h⟩:=gS h
         obtain⟨g1671,h⟩:=gS h
         rcases Bool.eq_false_or_eq_true ((x1639.getD x1422.toNat (Ty.dflt (.int .i64))) == ((x1640.getD x1642.toNat (Ty.dflt (.sl (.int .i64)))).getD x1424.toNat (Ty.dflt (.int .i64)))) with hb1672 | hb1672
         ·replace h := cond_t h hb1672
          obtain⟨g1673,h⟩:=gS h
          refine dr K [(11, .lit true)] [(11, 0)] [] [10, 15, 16, 25, 27, 124, 125, 126, 132, 133, 134, 156] [0, 1, 2] (pu 3 (an g1670 (pu 4 (an g1671 (pu 6 (an g1673 (tn 3))))))) ⟨qB 149 hb1672 K trivial, trivial⟩ ?_
          refine cnd h ?_ ?_<;>intro h
          ·refine VW.region <| nG K 4 (tn 4) ?_
           obtain⟨y1674,hy,h⟩:=aS h
           refine clc true [.t (.sl (.sl (.int .i64)))] [] (some 161) K (ok68 N _ hy) <| VO.litA (d := 162) (v := hh 5) (H' := [ar 0 (.sl (.sl (.int .i64))) x31 .tp, bx [zi x1420, zs x1421, zi x1422, zi x1423, zi x1424, zb x1425, .v (.sl (.int .i64)) x1426] 56, ar 0 (.sl (.int .i64)) x1638 .dp, ar 0 (.sl (.int .i64)) ([x1639, (x1640.getD x1642.toNat (Ty.dflt (.sl (.int .i64))))]) .tp, none, ar 0 (.sl (.int .i64)) ([y1674]) .dp]) K (by kernel_rfl) ?_
           obtain⟨g1675,h⟩:=gS h
           refine VO.appM (d := 163) (φ := x1638.length + ([y1674]).length ≤ lim (.sl (.int .i64))) (v := .lf (.hd 2 1 none)) (H' := [ar 0 (.sl (.sl (.int .i64))) x31 .tp, bx [zi x1420, zs x1421, zi x1422, zi x1423, zi x1424, zb x1425, .v (.sl (.int .i64)) x1426] 56, ar 1 (.sl (.int .i64)) (x1638 ++ ([y1674])) .dp, ar 0 (.sl (.int .i64)) ([x1639, (x1640.getD x1642.toNat (Ty.dflt (.sl (.int .i64))))]) .tp, none, none]) K (by kernel_rfl) g1675 ?_
           refine nN K (tn 1) ?_
           exact arv [.ren [10, 15, 16, 25, 124, 125, 126, 132, 133, 134] [0, 1, 2]] ⟨(x1638 ++ ([y1674])), rfl, h⟩
          refine VW.skip ?_
          exact arv [.ren [10, 15, 16, 25, 124, 125, 126, 132, 133, 134] [0, 1, 2]] ⟨x1638, rfl, h⟩
         replace h := cond_f h hb1672
         refine dr K [(11, .lit false)] [(11, 0)] [] [10, 15, 16, 25, 27, 124, 125, 126, 132, 133, 134, 156] [0, 1, 2] (pu 3 (an g1670 (pu 4 (an g1671 (tn 10))))) ⟨qB 149 hb1672 K trivial, trivial⟩ ?_
         refine VW.cond (b := false) (by kernel_rfl) (fun h' => nomatch h') (fun _ => ?_)
         refine VW.skip ?_
         exact arv [.ren [10, 15, 16, 25, 124, 125, 126, 132, 133, 134] [0, 1, 2]] ⟨x1638, rfl, h⟩
        rintro s ⟨x1667, rfl, h⟩
        unfold F40_j5 at h
        refine nE K (tn 2) ?_
        exact aro [.ren [10, 15, 16, 25, 124, 125, 126, 132, 133, 134] [0, 1, 2]] ⟨x1667, x1639, x1640, x1641, (wr (x1642 + (1 : Int))), rfl, h⟩
       refine VW.exit ?_
       exact arv [.ren [10, 15, 16, 124, 125, 126] [0, 1, 2]] ⟨x1638, rfl, h⟩
     rintro s ⟨x1614, rfl, h⟩
     unfold F40_j4 at h
     refine nE K (tn 2) ?_
     exact aro [.ren [10, 15, 16, 124, 125, 126] [0, 1, 2]] ⟨x1420, x1421, x1422, x1423, x1424, x1425, x1426, x1614, x1428, x1429, (wr (x1430 + (1 : Int))), rfl, h⟩
    refine VW.exit ?_
    exact arv [.frz 2, .ren [16] []] ⟨x1427, rfl, h⟩
  refine nR K (tn 2) ?_
  refine cnd h ?_ ?_<;>intro h
  ·obtain⟨g1676,h⟩:=gS h
   obtain⟨g1677,h⟩:=gS h
   obtain⟨g1678,h⟩:=gS h
   obtain⟨g1679,h⟩:=gS h
   obtain⟨y1680,hy1680,h⟩:=aS h
   refine dr K [(7, .cl [2] (some 175) [.lf (.own (.sl (.int .i64)) y1680 .tp)])] [(7, 1)] [6, 7] [16] [3] (pu 1 (an g1676 (an g1677 (pu 1 (an g1678 (an g1679 (tn 3))))))) ⟨qC false [.t (.sl (.sl (.sl (.int .i64))))] [] [2] (some 175) K (ok69 N _ hy1680), trivial⟩ ?_
   exact arv [.frz 0, .ren [16] []] ⟨y1680, rfl, h⟩
  refine nR K (tn 2) ?_
  refine cnd h ?_ ?_<;>intro h
  ·refine sq <| VW.region ?_
   obtain⟨g1681,h⟩:=gS h
   obtain⟨g1682,h⟩:=gS h
   refine nG K 3 (pu 1 (an g1681 (an g1682 (tn 0)))) ?_
   obtain⟨y1683,hy,h⟩:=aS h
   refine clc false [.t (.sl (.sl (.int .i64)))] [] (some 181) K (ok70 N _ hy) <| nN K (tn 1) <| VW.region <| nG K 2 (tn 2) ?_
   obtain⟨y1684,hy,h⟩:=aS h
   refine VO.ghl [.frzB 1 Y52] <| VO.callM [2] [.t (.sl (.sl (.int .i64))), .c] (d := some 184) (by kernel_rfl) (by kernel_rfl) (ok71_c1 N _ 72 (a2.getD a3.toNat D52) (fun z0 z1 => F72 N z0 z1 (a2.getD a3.toNat D52)) (fun z0 z1 _ hz => ok72 N z0 z1 _ hz) hy) (by kernel_rfl) <| sN K [16] [2] ⟨[(16, hh 0)], [ar 0 (.sl (.int .i64)) y1684 .tp]⟩ (tn 0) ?_
   exact arv [.frz 0, .ren [16] []] ⟨y1684, rfl, h⟩
  refine nR K (tn 2) ?_
  refine cnd h ?_ ?_<;>intro h
  ·obtain⟨g1685,h⟩:=gS h
   obtain⟨g1686,h⟩:=gS h
   obtain⟨g1687,h⟩:=gS h
   obtain⟨g1688,h⟩:=gS h
   obtain⟨g1689,h⟩:=gS h
   refine dr K [] [] [] [16] [] (pu 1 (an g1685 (an g1686 (pu 3 (an g1687 (an g1688 (pu 2 (an g1689 (tn 1))))))))) trivial ?_
   exact arv [.ren [16] []] ⟨((x31.getD ((0 : Int).toNat) (Ty.dflt (.sl (.sl (.int .i64))))).take (if (((x31.getD ((0 : Int).toNat) (Ty.dflt (.sl (.sl (.int .i64))))).length : Int) : Int) < (a2.getD a3.toNat D52).2.2.2.2.1 then ((x31.getD ((0 : Int).toNat) (Ty.dflt (.sl (.sl (.int .i64))))).length : Int) else (a2.getD a3.toNat D52).2.2.2.2.1).toNat), rfl, h⟩
  refine nR K (tn 2) ?_
  refine cnd h ?_ ?_<;>intro h
  ·obtain⟨g1690,h⟩:=gS h
   obtain⟨g1691,h⟩:=gS h
   refine nR K (pu 1 (an g1690 (an g1691 (tn 2)))) <| VW.block <| lop (fun k s => ∃ x1702 x1703 x1704 x1705, s = ⟨[(16, hh 0), (202, Vv (.sl (.sl (.int .i64))) x1703), (203, I x1704), (204, I x1705)], [ar 0 (.sl (.int .i64)) x1702 .tp]⟩ ∧ F40_l5 N k x1702 x1703 x1704 x1705 = some r) N [.nilS 16 (.sl (.int .i64)) .tp, .ren [16, 202, 203, 204] [2]] ⟨[], (x31.getD ((0 : Int).toNat) (Ty.dflt (.sl (.sl (.int .i64))))), ((x31.getD ((0 : Int).toNat) (Ty.dflt (.sl (.sl (.int .i64))))).length : Int), (0 : Int), rfl, h⟩ ?_
   rintro k1714 s ⟨x1702, x1703, x1704, x1705, rfl, h⟩
   cases k1714 with
   | zero => cases show none = some r from h
   | succ k1714 =>
    replace h : F40_l5_b N (F40_l5 N k1714) x1702 x1703 x1704 x1705 = some r := h
    unfold F40_l5_b at h
    refine nR K (tn 1) <| sq ?_
    refine cnd h ?_ ?_<;>intro h
    ·refine VW.skip ?_
     refine VW.join (fun s => ∃ x1718, s = ⟨[(16, hh 0), (202, Vv (.sl (.sl (.int .i64))) x1703), (203, I x1704), (204, I x1705)], [ar 0 (.sl (.int .i64)) x1718 .tp]⟩ ∧ F40_j6 N (F40_l5 N k1714) x1703 x1704 x1705 x1718 = some r) ?_ ?_
     ·refine VW.block ?_
      obtain⟨g1720,h⟩:=gS h
      refine nR K (an g1720 (tn 2)) <| sq <| VW.region <| nG K 2 (tn 2) ?_
      obtain⟨y1721,hy,h⟩:=aS h
      refine clc true [.t (.sl (.sl (.int .i64))), .t (.sl (.int .i64))] [] (some 210) K (ok74 N _ _ hy) <| nN K (tn 1) ?_
      refine cnd h ?_ ?_<;>intro h
      ·obtain⟨g1722,h⟩:=gS h
       refine nE K (pu 3 (an g1722 (tn 1))) ?_
       exact arv [.ren [16, 202, 203, 204] [0]] ⟨(x1702 ++ ([(x1703.getD x1705.toNat (Ty.dflt (.sl (.int .i64))))])), rfl, h⟩
      refine VW.skip ?_
      exact arv [.ren [16, 202, 203, 204] [0]] ⟨x1702, rfl, h⟩
     rintro s ⟨x1718, rfl, h⟩
     unfold F40_j6 at h
     refine nE K (tn 2) ?_
     exact aro [.ren [16, 202, 203, 204] [0]] ⟨x1718, x1703, x1704, (wr (x1705 + (1 : Int))), rfl, h⟩
    refine VW.exit ?_
    exact arv [.frz 0, .ren [16] []] ⟨x1702, rfl, h⟩
  refine VW.skip ?_
  exact arv [.nilV 16 (.sl (.int .i64)), .ren [16] []] ⟨[], rfl, h⟩
 rintro s ⟨x877, rfl, h⟩
 unfold F40_j0 at h
 refine nR K (tn 6) ?_
 cases h; exact VW.ret (rt [])
def F40_r (N : Nat) := loopF (F40_b N) (fun _ _ _ _ => none)
theorem F40_s N {k} (hk : 0 < k) a0 a1 a2 a3 : F40_r N k a0 a1 a2 a3 = F40_b N (F40_r N (k - 1)) a0 a1 a2 a3 := by cases k;cases hk;rfl
def F40 (N : Nat) : (List Z49) → (List (List (List Int))) → (List Z52) → Int → Option ((List (List Int)) × Bool) := F40_r N N
theorem ok40_k (N : Nat) : ∀ (k : Nat) (a0 : (List Z49)) (a1 : (List (List (List Int)))) (a2 : (List Z52)) (a3 : Int) (r : (List (List Int)) × Bool), loopF (F40_b N) (fun _ _ _ _ => none) k a0 a1 a2 a3 = some r → Con prog 40 [Vv (.sl Y49) a0, Vv (.sl (.sl (.sl (.int .i64)))) a1, Vv (.sl Y52) a2, I a3] [.lf (.v (.sl (.sl (.int .i64))) r.1), .lf (.v .bool r.2)]
 | 0, a0, a1, a2, a3, r, h => nomatch (show (none : Option ((List (List Int)) × Bool)) = some r from h)
 | k + 1, a0, a1, a2, a3, r, h => ok40_b N _ (ok40_k N k) a0 a1 a2 a3 h
theorem ok40 N a0 a1 a2 a3 {r} (h : F40 N a0 a1 a2 a3 = some r) : Con prog 40 [Vv (.sl Y49) a0, Vv (.sl (.sl (.sl (.int .i64)))) a1, Vv (.sl Y52) a2, I a3] [.lf (.v (.sl (.sl (.int .i64))) r.1), .lf (.v .bool r.2)] := ok40_k N N a0 a1 a2 a3 r h
def F75 (N : Nat) (a0 : (List Int)) : Option ((List Int)) :=
  gd (a0.length ≤ lim (.int .i64)) (some a0)
theorem ok75 N a0 {r} (h : F75 N a0 = some r) : Con prog 75 [Vv (.sl (.int .i64)) a0] [.lf (.own (.int .i64) r .dp)] := by
 refine ctr [.lf (.own (.int .i64) .dp)] K func75 rfl fun w0 E0 ht => ?_
 unfold F75 at h
 show VW _ _ _ _ _ (retQ _ _ _ _) _
 refine nR K (tn 1) <| sq <| sq <| VW.region <| nG K 1 (tn 1) ?_
 refine VO.isNil (d := 4) (e := (.int .i64)) (xs := a0) K rfl rfl rfl rfl (by kernel_rfl) (by kernel_rfl) (fun hx => ?_) ?_
 ·replace h : some ([]) = some r := by
   subst hx; first | exact h | exact (gd_some h).2
  refine nN K (tn 0) ?_
  refine VW.cond (b := true) (by kernel_rfl) (fun _ => ?_) (fun h' => nomatch h')
  refine nR K (tn 1) ?_
  cases h; exact VW.ret (rt [none])
 refine nN K (tn 0) ?_
 refine VW.cond (b := false) (by kernel_rfl) (fun h' => nomatch h') (fun _ => ?_)
 refine VW.skip ?_
 obtain⟨g1,h⟩:=gS h
 refine nR K (pu 2 (an g1 (tn 1))) ?_
 cases h; exact VW.ret (rt [some 0])
def F41_j0 (N : Nat) (x24 : (List (List Int))) : Option ((List (List Int))) :=
  some x24
def F41_l0_b (N : Nat) (a0 : (List (List Int))) (nx42 : (List (List Int)) → Int → Int → Option ((List (List Int)))) (x33 : (List (List Int))) (x34 : Int) (x35 : Int) : Option ((List (List Int))) :=
  cond (decide (x35 < x34)) (gd (InR x35 a0.length) (andO (F75 N (a0.getD x35.toNat (Ty.dflt (.sl (.int .i64))))) fun y47 => gd (x33.length + ([y47]).length ≤ lim (.sl (.int .i64))) (nx42 (x33 ++ ([y47])) x34 (IntKind.i64.wrap (x35 + (1 : Int)))))) (F41_j0 N x33)
def F41_l0 (N : Nat) (a0 : (List (List Int))) := loopF (F41_l0_b N a0) (fun _ _ _ => none)
theorem F41_l0_s N a0 {k} (hk : 0 < k) x33 x34 x35 : F41_l0 N a0 k x33 x34 x35 = F41_l0_b N a0 (F41_l0 N a0 (k - 1)) x33 x34 x35 := by cases k;cases hk;rfl
def F41 (N : Nat) (a0 : (List (List Int))) : Option ((List (List Int))) :=
  F41_l0 N a0 N ([]) (a0.length : Int) (0 : Int)
theorem ok41 N a0 {r} (h : F41 N a0 = some r) : Con prog 41 [Vv (.sl (.sl (.int .i64))) a0] [.lf (.own (.sl (.int .i64)) r .dp)] := by
 refine ctr [.lf (.own (.sl (.int .i64)) .dp)] K func41 rfl fun w0 E0 ht => ?_
 unfold F41 at h
 show VW _ _ _ _ _ (retQ _ _ _ _) _
 refine nR K (tn 1) <| nR K (tn 1) ?_
 refine VW.join (fun s => ∃ x24, s = ⟨[(3, hh 0)], [ar 0 (.sl (.int .i64)) x24 .dp]⟩ ∧ F41_j0 N x24 = some r) ?_ ?_
 ·refine nR K (tn 3) <| VW.block <| lop (fun k s => ∃ x33 x34 x35, s = ⟨[(3, hh 0), (6, Vv (.sl (.sl (.int .i64))) a0), (7, I x34), (8, I x35)], [ar 0 (.sl (.int .i64)) x33 .dp]⟩ ∧ F41_l0 N a0 k x33 x34 x35 = some r) N [.nilS 3 (.sl (.int .i64)) .dp, .ren [3, 6, 7, 8] [0]] ⟨[], (a0.length : Int), (0 : Int), rfl, h⟩ ?_
  rintro k42 s ⟨x33, x34, x35, rfl, h⟩
  cases k42 with
  | zero => cases show none = some r from h
  | succ k42 =>
   replace h : F41_l0_b N a0 (F41_l0 N a0 k42) x33 x34 x35 = some r := h
   unfold F41_l0_b at h
   refine nR K (tn 1) <| sq ?_
   refine cnd h ?_ ?_<;>intro h
   ·refine VW.skip <| sq <| VW.block ?_
    obtain⟨g46,h⟩:=gS h
    refine nR K (an g46 (tn 2)) <| VW.region <| nG K 2 (tn 2) ?_
    obtain⟨y47,hy,h⟩:=aS h
    refine clc false [.t (.sl (.int .i64))] [] (some 14) K (ok75 N _ hy) <| VO.litA (d := 15) (v := hh 2) (H' := [ar 0 (.sl (.int .i64)) x33 .dp, none, ar 0 (.sl (.int .i64)) ([y47]) .dp]) K (by kernel_rfl) ?_
    obtain⟨g48,h⟩:=gS h
    refine VO.appM (d := 16) (φ := x33.length + ([y47]).length ≤ lim (.sl (.int .i64))) (v := .lf (.hd 0 1 none)) (H' := [ar 1 (.sl (.int .i64)) (x33 ++ ([y47])) .dp, none, none]) K (by kernel_rfl) g48 <| nN K (tn 1) <| nE K (tn 2) ?_
    exact aro [.ren [3, 6, 7, 8] [0]] ⟨(x33 ++ ([y47])), x34, (wr (x35 + (1 : Int))), rfl, h⟩
   refine VW.exit ?_
   exact arv [.ren [3] [0]] ⟨x33, rfl, h⟩
 rintro s ⟨x24, rfl, h⟩
 unfold F41_j0 at h
 refine nR K (tn 2) ?_
 cases h; exact VW.ret (rt [some 0])
def F12 (N : Nat) (a0 : (List Z49)) (a1 : (List (List (List Int)))) (a2 : (List Z52)) : Option ((List (List Int)) × Int) :=
  andO (F37 N a0 a1) fun y4 => cond (!y4) (some ([], (1 : Int))) (andO (F38 N a0 a2) fun y5 => cond (!y5) (some ([], (1 : Int))) (andO (F39 N a2) fun y6 => cond y6 (some ([], (1 : Int))) (andO (F40 N a0 a1 a2 (0 : Int)) fun y7 => cond (!y7.2) (some ([], (2 : Int))) (andO (F41 N y7.1) fun y8 => some (y8, (0 : Int))))))
theorem ok12 N a0 a1 a2 {r} (h : F12 N a0 a1 a2 = some r) : Con prog 12 [Vv (.sl Y49) a0, Vv (.sl (.sl (.sl (.int .i64)))) a1, Vv (.sl Y52) a2] [.lf (.own (.sl (.int .i64)) r.1 .dp), .lf (.v (.int .i64) r.2)] := by
 refine ctr [.lf (.own (.sl (.int .i64)) .dp), .lf (.v (.int .i64))] K func12 rfl fun w0 E0 ht => ?_
 unfold F12 at h
 show VW _ _ _ _ _ (retQ _ _ _ _) _
 refine nR K (tn 2) <| sq <| sq <| VW.region <| nG K 2 (tn 2) ?_
 obtain⟨y4,hy,h⟩:=aS h
 refine clc false [.t (.sl Y49), .t (.sl (.sl (.sl (.int .i64))))] [] (some 12) K (ok37 N _ _ hy) <| nG K 2 (tn 2) ?_
 refine spC 14 h ?_ ?_<;>intro h
 ·refine nN K (tn 9) ?_
  refine VW.cond (b := true) (by kernel_rfl) (fun _ => ?_) (fun h' => nomatch h')
  refine nR K (tn 2) ?_
  cases h; exact VW.ret (rt [none])
 refine nG K 2 (tn 2) <| VO.on (j := 4) (want := false) (d := 14) (b := false) rfl rfl rfl (by kernel_rfl) rfl ?_
 obtain⟨y5,hy,h⟩:=aS h
 refine clc false [.t (.sl Y49), .t (.sl Y52)] [] (some 17) K (ok38 N _ _ hy) <| nG K 3 (tn 3) ?_
 refine spC 20 h ?_ ?_<;>intro h
 ·refine nN K (tn 3) ?_
  refine VW.cond (b := true) (by kernel_rfl) (fun _ => ?_) (fun h' => nomatch h')
  refine nR K (tn 2) ?_
  cases h; exact VW.ret (rt [none])
 refine nG K 1 (tn 1) <| VO.on (j := 10) (want := false) (d := 20) (b := false) rfl rfl rfl (by kernel_rfl) rfl ?_
 obtain⟨y6,hy,h⟩:=aS h
 refine clc false [.t (.sl Y52)] [] (some 22) K (ok39 N _ hy) <| nN K (tn 1) ?_
 refine cnd h ?_ ?_<;>intro h
 ·refine nR K (tn 2) ?_
  cases h; exact VW.ret (rt [none])
 refine VW.skip <| sq <| VW.region <| nG K 3 (tn 3) ?_
 obtain⟨y7,hy,h⟩:=aS h
 refine clc false [.t (.sl Y49), .t (.sl (.sl (.sl (.int .i64)))), .t (.sl Y52), .t (.int .i64)] [] (some 28) K (ok40 N _ _ _ _ hy) <| nN K (tn 5) <| sq <| nR K (tn 2) ?_
 refine cnd h ?_ ?_<;>intro h
 ·refine nR K (tn 2) ?_
  cases h; exact VW.ret (rt [none])
 refine VW.skip <| sq <| VW.region <| nG K 1 (tn 1) ?_
 obtain⟨y8,hy,h⟩:=aS h
 refine clc false [.t (.sl (.sl (.int .i64)))] [] (some 34) K (ok41 N _ hy) <| nN K (tn 2) ?_
 cases h; exact VW.ret (rt [some 0])
def F24_j0 (N : Nat) : Option (Bool) :=
  some true
def F24_l0_b (N : Nat) (a0 : (List Int)) (a1 : (List Int)) (nx25 : Int → Option (Bool)) (x20 : Int) : Option (Bool) :=
  cond (decide (x20 < (a0.length : Int))) (gd (InR x20 a0.length) (gd (InR x20 a1.length) (cond ((a0.getD x20.toNat (Ty.dflt (.int .i64))) != (a1.getD x20.toNat (Ty.dflt (.int .i64)))) (some false) (nx25 (IntKind.i64.wrap (x20 + (1 : Int))))))) (F24_j0 N)
def F24_l0 (N : Nat) (a0 : (List Int)) (a1 : (List Int)) := loopF (F24_l0_b N a0 a1) (fun _ => none)
theorem F24_l0_s N a0 a1 {k} (hk : 0 < k) x20 : F24_l0 N a0 a1 k x20 = F24_l0_b N a0 a1 (F24_l0 N a0 a1 (k - 1)) x20 := by cases k;cases hk;rfl
def F24 (N : Nat) (a0 : (List Int)) (a1 : (List Int)) : Option (Bool) :=
  cond ((a0.length : Int) != (a1.length : Int)) (some false) (F24_l0 N a0 a1 N (0 : Int))
theorem ok24 N a0 a1 {r} (h : F24 N a0 a1 = some r) : Con prog 24 [Vv (.sl (.int .i64)) a0, Vv (.sl (.int .i64)) a1] [.lf (.v .bool r)] := by
 refine ctr [.lf (.v .bool)] K func24 rfl fun w0 E0 ht => ?_
 unfold F24 at h
 show VW _ _ _ _ _ (retQ _ _ _ _) _
 refine nR K (tn 1) <| sq <| nR K (tn 5) ?_
 refine cnd h ?_ ?_<;>intro h
 ·refine nR K (tn 1) ?_
  cases h; exact VW.ret (rt [])
 refine VW.skip ?_
 refine VW.join (fun s => s = ⟨[], []⟩ ∧ F24_j0 N = some r) ?_ ?_
 ·refine nR K (tn 1) <| VW.block <| lop (fun k s => ∃ x20, s = ⟨[(0, Vv (.sl (.int .i64)) a0), (1, Vv (.sl (.int .i64)) a1), (5, I x20)], []⟩ ∧ F24_l0 N a0 a1 k x20 = some r) N [.ren [0, 1, 5] []] ⟨(0 : Int), rfl, h⟩ ?_
  rintro k25 s ⟨x20, rfl, h⟩
  cases k25 with
  | zero => cases show none = some r from h
  | succ k25 =>
   replace h : F24_l0_b N a0 a1 (F24_l0 N a0 a1 k25) x20 = some r := h
   unfold F24_l0_b at h
   refine sq <| nR K (tn 4) ?_
   refine cnd h ?_ ?_<;>intro h
   ·refine VW.skip <| sq <| VW.block <| sq ?_
    obtain⟨g28,h⟩:=gS h
    obtain⟨g29,h⟩:=gS h
    refine dr K [] [] [] [0, 1, 5, 25] [] (pu 2 (an g28 (pu 3 (an g29 (tn 2))))) trivial ?_
    refine cnd h ?_ ?_<;>intro h
    ·refine nR K (tn 1) ?_
     cases h; exact VW.ret (rt [])
    refine VW.skip <| nE K (tn 3) ?_
    exact aro [.ren [0, 1, 5] []] ⟨(wr (x20 + (1 : Int))), rfl, h⟩
   refine VW.exit ?_
   exact arv [.ren [] []] ⟨rfl, h⟩
 rintro s ⟨rfl, h⟩
 unfold F24_j0 at h
 refine nR K (tn 1) ?_
 cases h; exact VW.ret (rt [])
def F13_j0 (N : Nat) : Option (Bool) :=
  some true
def F13_l0_b (N : Nat) (a0 : (List (List Int))) (a1 : (List (List Int))) (nx35 : Int → Option (Bool)) (x28 : Int) : Option (Bool) :=
  cond (decide (x28 < (a0.length : Int))) (gd (InR x28 a0.length) (gd (InR x28 a1.length) (andO (F24 N (a0.getD x28.toNat (Ty.dflt (.sl (.int .i64)))) (a1.getD x28.toNat (Ty.dflt (.sl (.int .i64))))) fun y41 => cond (!y41) (some false) (nx35 (IntKind.i64.wrap (x28 + (1 : Int))))))) (F13_j0 N)
def F13_l0 (N : Nat) (a0 : (List (List Int))) (a1 : (List (List Int))) := loopF (F13_l0_b N a0 a1) (fun _ => none)
theorem F13_l0_s N a0 a1 {k} (hk : 0 < k) x28 : F13_l0 N a0 a1 k x28 = F13_l0_b N a0 a1 (F13_l0 N a0 a1 (k - 1)) x28 := by cases k;cases hk;rfl
def F13 (N : Nat) (a0 : (List (List Int))) (a1 : (List (List Int))) : Option (Bool) :=
  cond ((a0.length : Int) != (a1.length : Int)) (some false) (F13_l0 N a0 a1 N (0 : Int))
theorem ok13 N a0 a1 {r} (h : F13 N a0 a1 = some r) : Con prog 13 [Vv (.sl (.sl (.int .i64))) a0, Vv (.sl (.sl (.int .i64))) a1] [.lf (.v .bool r)] := by
 refine ctr [.lf (.v .bool)] K func13 rfl fun w0 E0 ht => ?_
 unfold F13 at h
 show VW _ _ _ _ _ (retQ _ _ _ _) _
 refine nR K (tn 1) <| sq <| nR K (tn 5) ?_
 refine cnd h ?_ ?_<;>intro h
 ·refine nR K (tn 1) ?_
  cases h; exact VW.ret (rt [])
 refine VW.skip ?_
 refine VW.join (fun s => s = ⟨[], []⟩ ∧ F13_j0 N = some r) ?_ ?_
 ·refine nR K (tn 1) <| VW.block <| lop (fun k s => ∃ x28, s = ⟨[(0, Vv (.sl (.sl (.int .i64))) a0), (1, Vv (.sl (.sl (.int .i64))) a1), (5, I x28)], []⟩ ∧ F13_l0 N a0 a1 k x28 = some r) N [.ren [0, 1, 5] []] ⟨(0 : Int), rfl, h⟩ ?_
  rintro k35 s ⟨x28, rfl, h⟩
  cases k35 with
  | zero => cases show none = some r from h
  | succ k35 =>
   replace h : F13_l0_b N a0 a1 (F13_l0 N a0 a1 k35) x28 = some r := h
   unfold F13_l0_b at h
   refine sq <| nR K (tn 4) ?_
   refine cnd h ?_ ?_<;>intro h
   ·refine VW.skip <| sq <| VW.block <| sq ?_
    obtain⟨g39,h⟩:=gS h
    obtain⟨g40,h⟩:=gS h
    obtain⟨y41,hy41,h⟩:=aS h
    refine dr K [(8, .cl [] (some 25) [.lf (.v .bool y41)])] [(8, 0)] [] [0, 1, 5, 26] [] (pu 2 (an g39 (pu 3 (an g40 (tn 3))))) ⟨qC false [.t (.sl (.int .i64)), .t (.sl (.int .i64))] [] [] (some 25) K (ok24 N _ _ hy41), trivial⟩ ?_
    refine cnd h ?_ ?_<;>intro h
    ·refine nR K (tn 1) ?_
     cases h; exact VW.ret (rt [])
    refine VW.skip <| nE K (tn 3) ?_
    exact aro [.ren [0, 1, 5] []] ⟨(wr (x28 + (1 : Int))), rfl, h⟩
   refine VW.exit ?_
   exact arv [.ren [] []] ⟨rfl, h⟩
 rintro s ⟨rfl, h⟩
 unfold F13_j0 at h
 refine nR K (tn 1) ?_
 cases h; exact VW.ret (rt [])
def F42 (N : Nat) (a0 : Z49) (a1 : Z49) : Option (Bool) :=
  cond (!(a0.1.toList == a1.1.toList)) (some false) (cond (a0.2 != a1.2) (some false) (some true))
theorem ok42 N a0 a1 {r} (h : F42 N a0 a1 = some r) : Con prog 42 [.agg (lv Y49 a0), .agg (lv Y49 a1)] [.lf (.v .bool r)] := by
 refine ctr [.lf (.v .bool)] K func42 rfl fun w0 E0 ht => ?_
 unfold F42 at h
 show VW _ _ _ _ _ (retQ _ _ _ _) _
 refine nR K (tn 3) <| sq <| nR K (tn 5) ?_
 refine cnd h ?_ ?_<;>intro h
 ·refine nR K (tn 1) ?_
  cases h; exact VW.ret (rt [])
 refine VW.skip <| sq <| nR K (tn 5) ?_
 refine cnd h ?_ ?_<;>intro h
 ·refine nR K (tn 1) ?_
  cases h; exact VW.ret (rt [])
 refine VW.skip <| nR K (tn 1) ?_
 cases h; exact VW.ret (rt [])
def F14_j0 (N : Nat) : Option (Bool) :=
  some true
def F14_l0_b (N : Nat) (a0 : (List Z49)) (a1 : (List Z49)) (nx35 : Int → Option (Bool)) (x28 : Int) : Option (Bool) :=
  cond (decide (x28 < (a0.length : Int))) (gd (InR x28 a0.length) (gd (InR x28 a1.length) (andO (F42 N (a0.getD x28.toNat (Ty.dflt Y49)) (a1.getD x28.toNat (Ty.dflt Y49))) fun y41 => cond (!y41) (some false) (nx35 (IntKind.i64.wrap (x28 + (1 : Int))))))) (F14_j0 N)
def F14_l0 (N : Nat) (a0 : (List Z49)) (a1 : (List Z49)) := loopF (F14_l0_b N a0 a1) (fun _ => none)
theorem F14_l0_s N a0 a1 {k} (hk : 0 < k) x28 : F14_l0 N a0 a1 k x28 = F14_l0_b N a0 a1 (F14_l0 N a0 a1 (k - 1)) x28 := by cases k;cases hk;rfl
def F14 (N : Nat) (a0 : (List Z49)) (a1 : (List Z49)) : Option (Bool) :=
  cond ((a0.length : Int) != (a1.length : Int)) (some false) (F14_l0 N a0 a1 N (0 : Int))
theorem ok14 N a0 a1 {r} (h : F14 N a0 a1 = some r) : Con prog 14 [Vv (.sl Y49) a0, Vv (.sl Y49) a1] [.lf (.v .bool r)] := by
 refine ctr [.lf (.v .bool)] K func14 rfl fun w0 E0 ht => ?_
 unfold F14 at h
 show VW _ _ _ _ _ (retQ _ _ _ _) _
 refine nR K (tn 1) <| sq <| nR K (tn 5) ?_
 refine cnd h ?_ ?_<;>intro h
 ·refine nR K (tn 1) ?_
  cases h; exact VW.ret (rt [])
 refine VW.skip ?_
 refine VW.join (fun s => s = ⟨[], []⟩ ∧ F14_j0 N = some r) ?_ ?_
 ·refine nR K (tn 1) <| VW.block <| lop (fun k s => ∃ x28, s = ⟨[(0, Vv (.sl Y49) a0), (1, Vv (.sl Y49) a1), (5, I x28)], []⟩ ∧ F14_l0 N a0 a1 k x28 = some r) N [.ren [0, 1, 5] []] ⟨(0 : Int), rfl, h⟩ ?_
  rintro k35 s ⟨x28, rfl, h⟩
  cases k35 with
  | zero => cases show none = some r from h
  | succ k35 =>
   replace h : F14_l0_b N a0 a1 (F14_l0 N a0 a1 k35) x28 = some r := h
   unfold F14_l0_b at h
   refine sq <| nR K (tn 4) ?_
   refine cnd h ?_ ?_<;>intro h
   ·refine VW.skip <| sq <| VW.block <| sq ?_
    obtain⟨g39,h⟩:=gS h
    obtain⟨g40,h⟩:=gS h
    obtain⟨y41,hy41,h⟩:=aS h
    refine dr K [(8, .cl [] (some 25) [.lf (.v .bool y41)])] [(8, 0)] [] [0, 1, 5, 26] [] (pu 2 (an g39 (pu 3 (an g40 (tn 3))))) ⟨qC false [.t Y49, .t Y49] [] [] (some 25) K (ok42 N _ _ hy41), trivial⟩ ?_
    refine cnd h ?_ ?_<;>intro h
    ·refine nR K (tn 1) ?_
     cases h; exact VW.ret (rt [])
    refine VW.skip <| nE K (tn 3) ?_
    exact aro [.ren [0, 1, 5] []] ⟨(wr (x28 + (1 : Int))), rfl, h⟩
   refine VW.exit ?_
   exact arv [.ren [] []] ⟨rfl, h⟩
 rintro s ⟨rfl, h⟩
 unfold F14_j0 at h
 refine nR K (tn 1) ?_
 cases h; exact VW.ret (rt [])
def F15_j0 (N : Nat) : Option (Bool) :=
  some true
def F15_l0_b (N : Nat) (a0 : (List (List (List Int)))) (a1 : (List (List (List Int)))) (nx35 : Int → Option (Bool)) (x28 : Int) : Option (Bool) :=
  cond (decide (x28 < (a0.length : Int))) (gd (InR x28 a0.length) (gd (InR x28 a1.length) (andO (F13 N (a0.getD x28.toNat (Ty.dflt (.sl (.sl (.int .i64))))) (a1.getD x28.toNat (Ty.dflt (.sl (.sl (.int .i64)))))) fun y41 => cond (!y41) (some false) (nx35 (IntKind.i64.wrap (x28 + (1 : Int))))))) (F15_j0 N)
def F15_l0 (N : Nat) (a0 : (List (List (List Int)))) (a1 : (List (List (List Int)))) := loopF (F15_l0_b N a0 a1) (fun _ => none)
theorem F15_l0_s N a0 a1 {k} (hk : 0 < k) x28 : F15_l0 N a0 a1 k x28 = F15_l0_b N a0 a1 (F15_l0 N a0 a1 (k - 1)) x28 := by cases k;cases hk;rfl
def F15 (N : Nat) (a0 : (List (List (List Int)))) (a1 : (List (List (List Int)))) : Option (Bool) :=
  cond ((a0.length : Int) != (a1.length : Int)) (some false) (F15_l0 N a0 a1 N (0 : Int))
theorem ok15 N a0 a1 {r} (h : F15 N a0 a1 = some r) : Con prog 15 [Vv (.sl (.sl (.sl (.int .i64)))) a0, Vv (.sl (.sl (.sl (.int .i64)))) a1] [.lf (.v .bool r)] := by
 refine ctr [.lf (.v .bool)] K func15 rfl fun w0 E0 ht => ?_
 unfold F15 at h
 show VW _ _ _ _ _ (retQ _ _ _ _) _
 refine nR K (tn 1) <| sq <| nR K (tn 5) ?_
 refine cnd h ?_ ?_<;>intro h
 ·refine nR K (tn 1) ?_
  cases h; exact VW.ret (rt [])
 refine VW.skip ?_
 refine VW.join (fun s => s = ⟨[], []⟩ ∧ F15_j0 N = some r) ?_ ?_
 ·refine nR K (tn 1) <| VW.block <| lop (fun k s => ∃ x28, s = ⟨[(0, Vv (.sl (.sl (.sl (.int .i64)))) a0), (1, Vv (.sl (.sl (.sl (.int .i64)))) a1), (5, I x28)], []⟩ ∧ F15_l0 N a0 a1 k x28 = some r) N [.ren [0, 1, 5] []] ⟨(0 : Int), rfl, h⟩ ?_
  rintro k35 s ⟨x28, rfl, h⟩
  cases k35 with
  | zero => cases show none = some r from h
  | succ k35 =>
   replace h : F15_l0_b N a0 a1 (F15_l0 N a0 a1 k35) x28 = some r := h
   unfold F15_l0_b at h
   refine sq <| nR K (tn 4) ?_
   refine cnd h ?_ ?_<;>intro h
   ·refine VW.skip <| sq <| VW.block <| sq ?_
    obtain⟨g39,h⟩:=gS h
    obtain⟨g40,h⟩:=gS h
    obtain⟨y41,hy41,h⟩:=aS h
    refine dr K [(8, .cl [] (some 25) [.lf (.v .bool y41)])] [(8, 0)] [] [0, 1, 5, 26] [] (pu 2 (an g39 (pu 3 (an g40 (tn 3))))) ⟨qC false [.t (.sl (.sl (.int .i64))), .t (.sl (.sl (.int .i64)))] [] [] (some 25) K (ok13 N _ _ hy41), trivial⟩ ?_
    refine cnd h ?_ ?_<;>intro h
    ·refine nR K (tn 1) ?_
     cases h; exact VW.ret (rt [])
    refine VW.skip <| nE K (tn 3) ?_
    exact aro [.ren [0, 1, 5] []] ⟨(wr (x28 + (1 : Int))), rfl, h⟩
   refine VW.exit ?_
   exact arv [.ren [] []] ⟨rfl, h⟩
 rintro s ⟨rfl, h⟩
 unfold F15_j0 at h
 refine nR K (tn 1) ?_
 cases h; exact VW.ret (rt [])
def F43 (N : Nat) (a0 : Z52) (a1 : Z52) : Option (Bool) :=
  cond (a0.1 != a1.1) (some false) (cond (!(a0.2.1.toList == a1.2.1.toList)) (some false) (cond (a0.2.2.1 != a1.2.2.1) (some false) (cond (a0.2.2.2.1 != a1.2.2.2.1) (some false) (cond (a0.2.2.2.2.1 != a1.2.2.2.2.1) (some false) (cond (!(a0.2.2.2.2.2.1 == a1.2.2.2.2.2.1)) (some false) (andO (F24 N a0.2.2.2.2.2.2 a1.2.2.2.2.2.2) fun y2 => cond (!y2) (some false) (some true)))))))
theorem ok43 N a0 a1 {r} (h : F43 N a0 a1 = some r) : Con prog 43 [.agg (lv Y52 a0), .agg (lv Y52 a1)] [.lf (.v .bool r)] := by
 refine ctr [.lf (.v .bool)] K func43 rfl fun w0 E0 ht => ?_
 unfold F43 at h
 show VW _ _ _ _ _ (retQ _ _ _ _) _
 refine nR K (tn 3) <| sq <| nR K (tn 5) ?_
 refine cnd h ?_ ?_<;>intro h
 ·refine nR K (tn 1) ?_
  cases h; exact VW.ret (rt [])
 refine VW.skip <| sq <| nR K (tn 5) ?_
 refine cnd h ?_ ?_<;>intro h
 ·refine nR K (tn 1) ?_
  cases h; exact VW.ret (rt [])
 refine VW.skip <| sq <| nR K (tn 5) ?_
 refine cnd h ?_ ?_<;>intro h
 ·refine nR K (tn 1) ?_
  cases h; exact VW.ret (rt [])
 refine VW.skip <| sq <| nR K (tn 5) ?_
 refine cnd h ?_ ?_<;>intro h
 ·refine nR K (tn 1) ?_
  cases h; exact VW.ret (rt [])
 refine VW.skip <| sq <| nR K (tn 5) ?_
 refine cnd h ?_ ?_<;>intro h
 ·refine nR K (tn 1) ?_
  cases h; exact VW.ret (rt [])
 refine VW.skip <| sq <| nR K (tn 5) ?_
 refine cnd h ?_ ?_<;>intro h
 ·refine nR K (tn 1) ?_
  cases h; exact VW.ret (rt [])
 refine VW.skip <| sq <| sq <| VW.region <| nG K 4 (tn 4) ?_
 obtain⟨y2,hy,h⟩:=aS h
 refine clc false [.t (.sl (.int .i64)), .t (.sl (.int .i64))] [] (some 39) K (ok24 N _ _ hy) <| nN K (tn 1) ?_
 refine cnd h ?_ ?_<;>intro h
 ·refine nR K (tn 1) ?_
  cases h; exact VW.ret (rt [])
 refine VW.skip <| nR K (tn 1) ?_
 cases h; exact VW.ret (rt [])
def F16_j0 (N : Nat) : Option (Bool) :=
  some true
def F16_l0_b (N : Nat) (a0 : (List Z52)) (a1 : (List Z52)) (nx35 : Int → Option (Bool)) (x28 : Int) : Option (Bool) :=
  cond (decide (x28 < (a0.length : Int))) (gd (InR x28 a0.length) (gd (InR x28 a1.length) (andO (F43 N (a0.getD x28.toNat (Ty.dflt Y52)) (a1.getD x28.toNat (Ty.dflt Y52))) fun y41 => cond (!y41) (some false) (nx35 (IntKind.i64.wrap (x28 + (1 : Int))))))) (F16_j0 N)
def F16_l0 (N : Nat) (a0 : (List Z52)) (a1 : (List Z52)) := loopF (F16_l0_b N a0 a1) (fun _ => none)
theorem F16_l0_s N a0 a1 {k} (hk : 0 < k) x28 : F16_l0 N a0 a1 k x28 = F16_l0_b N a0 a1 (F16_l0 N a0 a1 (k - 1)) x28 := by cases k;cases hk;rfl
def F16 (N : Nat) (a0 : (List Z52)) (a1 : (List Z52)) : Option (Bool) :=
  cond ((a0.length : Int) != (a1.length : Int)) (some false) (F16_l0 N a0 a1 N (0 : Int))
theorem ok16 N a0 a1 {r} (h : F16 N a0 a1 = some r) : Con prog 16 [Vv (.sl Y52) a0, Vv (.sl Y52) a1] [.lf (.v .bool r)] := by
 refine ctr [.lf (.v .bool)] K func16 rfl fun w0 E0 ht => ?_
 unfold F16 at h
 show VW _ _ _ _ _ (retQ _ _ _ _) _
 refine nR K (tn 1) <| sq <| nR K (tn 5) ?_
 refine cnd h ?_ ?_<;>intro h
 ·refine nR K (tn 1) ?_
  cases h; exact VW.ret (rt [])
 refine VW.skip ?_
 refine VW.join (fun s => s = ⟨[], []⟩ ∧ F16_j0 N = some r) ?_ ?_
 ·refine nR K (tn 1) <| VW.block <| lop (fun k s => ∃ x28, s = ⟨[(0, Vv (.sl Y52) a0), (1, Vv (.sl Y52) a1), (5, I x28)], []⟩ ∧ F16_l0 N a0 a1 k x28 = some r) N [.ren [0, 1, 5] []] ⟨(0 : Int), rfl, h⟩ ?_
  rintro k35 s ⟨x28, rfl, h⟩
  cases k35 with
  | zero => cases show none = some r from h
  | succ k35 =>
   replace h : F16_l0_b N a0 a1 (F16_l0 N a0 a1 k35) x28 = some r := h
   unfold F16_l0_b at h
   refine sq <| nR K (tn 4) ?_
   refine cnd h ?_ ?_<;>intro h
   ·refine VW.skip <| sq <| VW.block <| sq ?_
    obtain⟨g39,h⟩:=gS h
    obtain⟨g40,h⟩:=gS h
    obtain⟨y41,hy41,h⟩:=aS h
    refine dr K [(8, .cl [] (some 25) [.lf (.v .bool y41)])] [(8, 0)] [] [0, 1, 5, 26] [] (pu 2 (an g39 (pu 3 (an g40 (tn 3))))) ⟨qC false [.t Y52, .t Y52] [] [] (some 25) K (ok43 N _ _ hy41), trivial⟩ ?_
    refine cnd h ?_ ?_<;>intro h
    ·refine nR K (tn 1) ?_
     cases h; exact VW.ret (rt [])
    refine VW.skip <| nE K (tn 3) ?_
    exact aro [.ren [0, 1, 5] []] ⟨(wr (x28 + (1 : Int))), rfl, h⟩
   refine VW.exit ?_
   exact arv [.ren [] []] ⟨rfl, h⟩
 rintro s ⟨rfl, h⟩
 unfold F16_j0 at h
 refine nR K (tn 1) ?_
 cases h; exact VW.ret (rt [])
def F44_j0 (N : Nat) (x7 : ByteArray) : Option (ByteArray) :=
  gd ((⟨#[109]⟩ : ByteArray).size + x7.size ≤ 9223372036854775807) (some ((⟨#[109]⟩ : ByteArray) ++ x7))
def F44_l0_b (N : Nat) (nx14 : Int → ByteArray → Option (ByteArray)) (x11 : Int) (x12 : ByteArray) : Option (ByteArray) :=
  cond (decide (x11 > (0 : Int))) (gd ((strOfNums ([(IntKind.u8.wrap (IntKind.i64.wrap ((48 : Int) + (Int.tmod x11 (10 : Int)))))])).size + x12.size ≤ 9223372036854775807) (nx14 (IntKind.i64.wrap (Int.tdiv x11 (10 : Int))) ((strOfNums ([(IntKind.u8.wrap (IntKind.i64.wrap ((48 : Int) + (Int.tmod x11 (10 : Int)))))])) ++ x12))) (F44_j0 N x12)
def F44_l0 (N : Nat) := loopF (F44_l0_b N) (fun _ _ => none)
theorem F44_l0_s N {k} (hk : 0 < k) x11 x12 : F44_l0 N k x11 x12 = F44_l0_b N (F44_l0 N (k - 1)) x11 x12 := by cases k;cases hk;rfl
def F44 (N : Nat) (a0 : Int) : Option (ByteArray) :=
  cond (decide (a0 ≤ (0 : Int))) (some (⟨#[109, 48]⟩ : ByteArray)) (F44_l0 N N a0 ByteArray.empty)
theorem ok44 N a0 {r} (h : F44 N a0 = some r) : Con prog 44 [I a0] [.lf (.v .str r)] := by
 refine ctr [.lf (.v .str)] K func44 rfl fun w0 E0 ht => ?_
 unfold F44 at h
 show VW _ _ _ _ _ (retQ _ _ _ _) _
 refine nR K (tn 1) <| sq <| nR K (tn 2) ?_
 refine cnd h ?_ ?_<;>intro h
 ·refine nR K (tn 1) ?_
  cases h; exact VW.ret (rt [])
 refine VW.skip <| nR K (tn 1) ?_
 refine VW.join (fun s => ∃ x7, s = ⟨[(3, S x7)], []⟩ ∧ F44_j0 N x7 = some r) ?_ ?_
 ·refine VW.block <| lop (fun k s => ∃ x11 x12, s = ⟨[(0, I x11), (3, S x12)], []⟩ ∧ F44_l0 N k x11 x12 = some r) N [.ren [0, 3] []] ⟨a0, ByteArray.empty, rfl, h⟩ ?_
  rintro k14 s ⟨x11, x12, rfl, h⟩
  cases k14 with
  | zero => cases show none = some r from h
  | succ k14 =>
   replace h : F44_l0_b N (F44_l0 N k14) x11 x12 = some r := h
   unfold F44_l0_b at h
   refine sq <| nR K (tn 2) ?_
   refine cnd h ?_ ?_<;>intro h
   ·refine VW.skip <| VW.block ?_
    obtain⟨g15,h⟩:=gS h
    refine nR K (pu 1 (an (show ((10 : Int) ≠ 0) from by decide) (pu 5 (an g15 (tn 1))))) <| nE K (pu 1 (an (show ((10 : Int) ≠ 0) from by decide) (tn 1))) ?_
    exact aro [.ren [0, 3] []] ⟨(wr (Int.tdiv x11 (10 : Int))), ((strOfNums ([(IntKind.u8.wrap (wr ((48 : Int) + (Int.tmod x11 (10 : Int)))))])) ++ x12), rfl, h⟩
   refine VW.exit ?_
   exact arv [.ren [3] []] ⟨x12, rfl, h⟩
 rintro s ⟨x7, rfl, h⟩
 unfold F44_j0 at h
 obtain⟨g8,h⟩:=gS h
 refine nR K (pu 1 (an g8 (tn 1))) ?_
 cases h; exact VW.ret (rt [])
end Go.Proofs.YtpaagnjoniiemaaGreat.Vc
namespace Go.Proofs.YtpaagnjoniiemaaGreat.Vc
open Go Go.RowKit Go.Proofs.Tryz
set_option linter.unusedVariables false
set_option maxRecDepth 100000
set_option maxHeartbeats 4000000
def F17_j0 (N : Nat) (x35 : Int) (x36 : (List Z49)) : Option ((List Z49) × Int) :=
  some (x36, x35)
def F17_l0_b (N : Nat) (nx61 : (List Z49) → Int → Int → Option ((List Z49) × Int)) (x48 : (List Z49)) (x49 : Int) (x50 : Int) : Option ((List Z49) × Int) :=
  cond (decide (x50 < (x48.length : Int))) (andO (F44 N x49) fun y67 => gd (InR x50 x48.length) (gd (x50.toNat < x48.length) (gd (InR x50 (x48.set x50.toNat (y67, (x48.getD x50.toNat (Ty.dflt Y49)).2)).length) (gd (x50.toNat < (x48.set x50.toNat (y67, (x48.getD x50.toNat (Ty.dflt Y49)).2)).length) (nx61 ((x48.set x50.toNat (y67, (x48.getD x50.toNat (Ty.dflt Y49)).2)).set x50.toNat (((x48.set x50.toNat (y67, (x48.getD x50.toNat (Ty.dflt Y49)).2)).getD x50.toNat (Ty.dflt Y49)).1, (IntKind.i64.wrap (x49 + (1 : Int))))) (IntKind.i64.wrap ((IntKind.i64.wrap (x49 + (1 : Int))) + (1 : Int))) (IntKind.i64.wrap (x50 + (1 : Int)))))))) (F17_j0 N x49 x48)
def F17_l0 (N : Nat) := loopF (F17_l0_b N) (fun _ _ _ => none)
theorem F17_l0_s N {k} (hk : 0 < k) x48 x49 x50 : F17_l0 N k x48 x49 x50 = F17_l0_b N (F17_l0 N (k - 1)) x48 x49 x50 := by cases k;cases hk;rfl
def F17 (N : Nat) (a0 : (List Z49)) (a1 : Int) : Option ((List Z49) × Int) :=
  F17_l0 N N a0 a1 (0 : Int)
theorem ok17 N a0 a1 {r} (h : F17 N a0 a1 = some r) : ConM prog 17 [ar 0 Y49 a0 .dp] [hh 0, I a1] [.lf (.v (.int .i64) r.2)] [ar 0 Y49 r.1 .dp] := by
 refine ⟨enters_of func17 rfl (by decide), HM.intro [.lf (.v (.int .i64))] K func17 rfl (Nat.le_of_ble_eq_true rfl) (Nat.le_of_ble_eq_true rfl) fun w0 E0 ht => ?_⟩
 unfold F17 at h
 show VW _ _ _ _ _ (retM _ _ _ _ _) _
 refine nR K (tn 1) ?_
 refine VW.join (fun s => ∃ x35 x36, s = ⟨[(1, I x35), (65536, hh 0)], [ar 0 Y49 x36 .dp]⟩ ∧ F17_j0 N x35 x36 = some r) ?_ ?_
 ·refine nR K (tn 1) <| VW.block <| lop (fun k s => ∃ x48 x49 x50, s = ⟨[(0, hh 0), (1, I x49), (5, I x50), (65536, hh 0)], [ar 0 Y49 x48 .dp]⟩ ∧ F17_l0 N k x48 x49 x50 = some r) N [.ren [0, 1, 5, 65536] [0]] ⟨a0, a1, (0 : Int), rfl, h⟩ ?_
  rintro k61 s ⟨x48, x49, x50, rfl, h⟩
  cases k61 with
  | zero => cases show none = some r from h
  | succ k61 =>
   replace h : F17_l0_b N (F17_l0 N k61) x48 x49 x50 = some r := h
   unfold F17_l0_b at h
   refine sq <| nR K (tn 4) ?_
   refine cnd h ?_ ?_<;>intro h
   ·refine VW.skip <| sq <| VW.block <| sq <| VW.region <| nG K 3 (tn 3) ?_
    obtain⟨y67,hy,h⟩:=aS h
    refine clc false [.t (.int .i64)] [] (some 15) K (ok44 N _ hy) ?_
    obtain⟨g68,h⟩:=gS h
    obtain⟨g69,h⟩:=gS h
    refine nN K (an g68 (pu 1 (an g69 (tn 0)))) <| nR K (tn 3) ?_
    obtain⟨g70,h⟩:=gS h
    obtain⟨g71,h⟩:=gS h
    refine nR K (pu 3 (an g70 (pu 1 (an g71 (tn 0))))) <| nE K (tn 3) <| nE K (tn 3) ?_
    exact aro [.ren [0, 1, 5, 65536] [0]] ⟨((x48.set x50.toNat (y67, (x48.getD x50.toNat D49).2)).set x50.toNat (((x48.set x50.toNat (y67, (x48.getD x50.toNat D49).2)).getD x50.toNat D49).1, (wr (x49 + (1 : Int))))), (wr ((wr (x49 + (1 : Int))) + (1 : Int))), (wr (x50 + (1 : Int))), rfl, h⟩
   refine VW.exit ?_
   exact arv [.ren [1, 65536] [0]] ⟨x49, x48, rfl, h⟩
 rintro s ⟨x35, x36, rfl, h⟩
 unfold F17_j0 at h
 refine nR K (tn 2) ?_
 replace h := Option.some.inj h
 subst h
 refine VW.ghl [.ren [4, 65536] [0]] (VW.ret ?_)
 exact ⟨[], by kernel_rfl, by kernel_rfl, by kernel_rfl⟩
def F25_j0 (N : Nat) (x17 : Int) (x18 : (List Int)) : Option ((List Int) × Int) :=
  some (x18, x17)
def F25_l0_b (N : Nat) (nx31 : (List Int) → Int → Int → Option ((List Int) × Int)) (x24 : (List Int)) (x25 : Int) (x26 : Int) : Option ((List Int) × Int) :=
  cond (decide (x26 < (x24.length : Int))) (gd (InR x26 x24.length) (gd (x26.toNat < x24.length) (nx31 (x24.set x26.toNat x25) (IntKind.i64.wrap (x25 + (1 : Int))) (IntKind.i64.wrap (x26 + (1 : Int)))))) (F25_j0 N x25 x24)
def F25_l0 (N : Nat) := loopF (F25_l0_b N) (fun _ _ _ => none)
theorem F25_l0_s N {k} (hk : 0 < k) x24 x25 x26 : F25_l0 N k x24 x25 x26 = F25_l0_b N (F25_l0 N (k - 1)) x24 x25 x26 := by cases k;cases hk;rfl
def F25 (N : Nat) (a0 : (List Int)) (a1 : Int) : Option ((List Int) × Int) :=
  F25_l0 N N a0 a1 (0 : Int)
theorem ok25 N a0 a1 {r} (h : F25 N a0 a1 = some r) : ConM prog 25 [ar 0 (.int .i64) a0 .dp] [hh 0, I a1] [.lf (.v (.int .i64) r.2)] [ar 0 (.int .i64) r.1 .dp] := by
 refine ⟨enters_of func25 rfl (by decide), HM.intro [.lf (.v (.int .i64))] K func25 rfl (Nat.le_of_ble_eq_true rfl) (Nat.le_of_ble_eq_true rfl) fun w0 E0 ht => ?_⟩
 unfold F25 at h
 show VW _ _ _ _ _ (retM _ _ _ _ _) _
 refine nR K (tn 1) ?_
 refine VW.join (fun s => ∃ x17 x18, s = ⟨[(1, I x17), (65536, hh 0)], [ar 0 (.int .i64) x18 .dp]⟩ ∧ F25_j0 N x17 x18 = some r) ?_ ?_
 ·refine nR K (tn 1) <| VW.block <| lop (fun k s => ∃ x24 x25 x26, s = ⟨[(0, hh 0), (1, I x25), (5, I x26), (65536, hh 0)], [ar 0 (.int .i64) x24 .dp]⟩ ∧ F25_l0 N k x24 x25 x26 = some r) N [.ren [0, 1, 5, 65536] [0]] ⟨a0, a1, (0 : Int), rfl, h⟩ ?_
  rintro k31 s ⟨x24, x25, x26, rfl, h⟩
  cases k31 with
  | zero => cases show none = some r from h
  | succ k31 =>
   replace h : F25_l0_b N (F25_l0 N k31) x24 x25 x26 = some r := h
   unfold F25_l0_b at h
   refine sq <| nR K (tn 4) ?_
   refine cnd h ?_ ?_<;>intro h
   ·refine VW.skip <| sq <| VW.block ?_
    obtain⟨g34,h⟩:=gS h
    obtain⟨g35,h⟩:=gS h
    refine nR K (pu 3 (an g34 (an g35 (tn 0)))) <| nE K (tn 3) <| nE K (tn 3) ?_
    exact aro [.ren [0, 1, 5, 65536] [0]] ⟨(x24.set x26.toNat x25), (wr (x25 + (1 : Int))), (wr (x26 + (1 : Int))), rfl, h⟩
   refine VW.exit ?_
   exact arv [.ren [1, 65536] [0]] ⟨x25, x24, rfl, h⟩
 rintro s ⟨x17, x18, rfl, h⟩
 unfold F25_j0 at h
 refine nR K (tn 2) ?_
 replace h := Option.some.inj h
 subst h
 refine VW.ghl [.ren [4, 65536] [0]] (VW.ret ?_)
 exact ⟨[], by kernel_rfl, by kernel_rfl, by kernel_rfl⟩
def F20_j0 (N : Nat) (x23 : Int) (x24 : (List (List Int))) : Option ((List (List Int)) × Int) :=
  some (x24, x23)
def F20_l0_b (N : Nat) (nx41 : (List (List Int)) → Int → Int → Option ((List (List Int)) × Int)) (x32 : (List (List Int))) (x33 : Int) (x34 : Int) : Option ((List (List Int)) × Int) :=
  cond (decide (x34 < (x32.length : Int))) (gd (InR x34 x32.length) (gd (x34.toNat < x32.length) (andO (F25 N (x32.getD x34.toNat (Ty.dflt (.sl (.int .i64)))) x33) fun y46 => nx41 (x32.set x34.toNat y46.1) y46.2 (IntKind.i64.wrap (x34 + (1 : Int)))))) (F20_j0 N x33 x32)
def F20_l0 (N : Nat) := loopF (F20_l0_b N) (fun _ _ _ => none)
theorem F20_l0_s N {k} (hk : 0 < k) x32 x33 x34 : F20_l0 N k x32 x33 x34 = F20_l0_b N (F20_l0 N (k - 1)) x32 x33 x34 := by cases k;cases hk;rfl
def F20 (N : Nat) (a0 : (List (List Int))) (a1 : Int) : Option ((List (List Int)) × Int) :=
  F20_l0 N N a0 a1 (0 : Int)
theorem ok20 N a0 a1 {r} (h : F20 N a0 a1 = some r) : ConM prog 20 [ar 0 (.sl (.int .i64)) a0 .dp] [hh 0, I a1] [.lf (.v (.int .i64) r.2)] [ar 0 (.sl (.int .i64)) r.1 .dp] := by
 refine ⟨enters_of func20 rfl (by decide), HM.intro [.lf (.v (.int .i64))] K func20 rfl (Nat.le_of_ble_eq_true rfl) (Nat.le_of_ble_eq_true rfl) fun w0 E0 ht => ?_⟩
 unfold F20 at h
 show VW _ _ _ _ _ (retM _ _ _ _ _) _
 refine nR K (tn 1) ?_
 refine VW.join (fun s => ∃ x23 x24, s = ⟨[(1, I x23), (65536, hh 0)], [ar 0 (.sl (.int .i64)) x24 .dp]⟩ ∧ F20_j0 N x23 x24 = some r) ?_ ?_
 ·refine nR K (tn 1) <| VW.block <| lop (fun k s => ∃ x32 x33 x34, s = ⟨[(0, hh 0), (1, I x33), (5, I x34), (65536, hh 0)], [ar 0 (.sl (.int .i64)) x32 .dp]⟩ ∧ F20_l0 N k x32 x33 x34 = some r) N [.ren [0, 1, 5, 65536] [0]] ⟨a0, a1, (0 : Int), rfl, h⟩ ?_
  rintro k41 s ⟨x32, x33, x34, rfl, h⟩
  cases k41 with
  | zero => cases show none = some r from h
  | succ k41 =>
   replace h : F20_l0_b N (F20_l0 N k41) x32 x33 x34 = some r := h
   unfold F20_l0_b at h
   refine sq <| nR K (tn 4) ?_
   refine cnd h ?_ ?_<;>intro h
   ·refine VW.skip <| sq <| VW.block <| VW.region ?_
    obtain⟨g45,h⟩:=gS h
    refine nG K 3 (pu 2 (an g45 (tn 0))) ?_
    obtain⟨g47,h⟩:=gS h
    obtain⟨y46,hy,h⟩:=aS h
    refine VO.lendIn (t := 44) (d1 := 15) (d2 := 16) (d3 := 17) (id := 0) (cur := 0) (i := x34.toNat) (j := 0) (v2 := I x33) (f := 25) (l := [I x33]) (e := (.sl (.int .i64))) (t' := (.int .i64)) (xs := x32) (ys := (x32.getD x34.toNat (Ty.dflt (.sl (.int .i64))))) (ys' := y46.1) (x' := y46.1) (rs := [.lf (.v (.int .i64) y46.2)]) (v1 := 0) K (by kernel_rfl) (by kernel_rfl) (by kernel_rfl) (by kernel_rfl) (by kernel_rfl) g47 (ok25 N _ _ hy) rfl ?_
    refine nN K (tn 1) <| nE K (tn 3) ?_
    exact aro [.ren [0, 1, 5, 65536] [0]] ⟨(x32.set x34.toNat y46.1), y46.2, (wr (x34 + (1 : Int))), rfl, h⟩
   refine VW.exit ?_
   exact arv [.ren [1, 65536] [0]] ⟨x33, x32, rfl, h⟩
 rintro s ⟨x23, x24, rfl, h⟩
 unfold F20_j0 at h
 refine nR K (tn 2) ?_
 replace h := Option.some.inj h
 subst h
 refine VW.ghl [.ren [4, 65536] [0]] (VW.ret ?_)
 exact ⟨[], by kernel_rfl, by kernel_rfl, by kernel_rfl⟩
def F18_j0 (N : Nat) (x23 : Int) (x24 : (List (List (List Int)))) : Option ((List (List (List Int))) × Int) :=
  some (x24, x23)
def F18_l0_b (N : Nat) (nx41 : (List (List (List Int))) → Int → Int → Option ((List (List (List Int))) × Int)) (x32 : (List (List (List Int)))) (x33 : Int) (x34 : Int) : Option ((List (List (List Int))) × Int) :=
  cond (decide (x34 < (x32.length : Int))) (gd (InR x34 x32.length) (gd (x34.toNat < x32.length) (andO (F20 N (x32.getD x34.toNat (Ty.dflt (.sl (.sl (.int .i64))))) x33) fun y46 => nx41 (x32.set x34.toNat y46.1) y46.2 (IntKind.i64.wrap (x34 + (1 : Int)))))) (F18_j0 N x33 x32)
def F18_l0 (N : Nat) := loopF (F18_l0_b N) (fun _ _ _ => none)
theorem F18_l0_s N {k} (hk : 0 < k) x32 x33 x34 : F18_l0 N k x32 x33 x34 = F18_l0_b N (F18_l0 N (k - 1)) x32 x33 x34 := by cases k;cases hk;rfl
def F18 (N : Nat) (a0 : (List (List (List Int)))) (a1 : Int) : Option ((List (List (List Int))) × Int) :=
  F18_l0 N N a0 a1 (0 : Int)
theorem ok18 N a0 a1 {r} (h : F18 N a0 a1 = some r) : ConM prog 18 [ar 0 (.sl (.sl (.int .i64))) a0 .dp] [hh 0, I a1] [.lf (.v (.int .i64) r.2)] [ar 0 (.sl (.sl (.int .i64))) r.1 .dp] := by
 refine ⟨enters_of func18 rfl (by decide), HM.intro [.lf (.v (.int .i64))] K func18 rfl (Nat.le_of_ble_eq_true rfl) (Nat.le_of_ble_eq_true rfl) fun w0 E0 ht => ?_⟩
 unfold F18 at h
 show VW _ _ _ _ _ (retM _ _ _ _ _) _
 refine nR K (tn 1) ?_
 refine VW.join (fun s => ∃ (x23 : Int) (x24 : (List (List (List Int)))), s = ⟨[(1, I x23), (65536, hh 0)], [ar 0 (.sl (.sl (.int .i64))) x24 .dp]⟩ ∧ F18_j0 N x23 x24 = some r) ?_ ?_
 ·refine nR K (tn 1) <| VW.block <| lop (fun k s => ∃ (x32 : (List (List (List Int)))) (x33 : Int) (x34 : Int), s = ⟨[(0, hh 0), (1, I x33), (5, I x34), (65536, hh 0)], [ar 0 (.sl (.sl (.int .i64))) x32 .dp]⟩ ∧ F18_l0 N k x32 x33 x34 = some r) N [.ren [0, 1, 5, 65536] [0]] ⟨a0, a1, (0 : Int), rfl, h⟩ ?_
  rintro k41 s ⟨x32, x33, x34, rfl, h⟩
  cases k41 with
  | zero => cases show none = some r from h
  | succ k41 =>
   replace h : F18_l0_b N (F18_l0 N k41) x32 x33 x34 = some r := h
   unfold F18_l0_b at h
   refine sq <| nR K (tn 4) ?_
   refine cnd h ?_ ?_<;>intro h
   ·refine VW.skip <| sq <| VW.block <| VW.region ?_
    obtain⟨g45,h⟩:=gS h
    refine nG K 3 (pu 2 (an g45 (tn 0))) ?_
    obtain⟨g47,h⟩:=gS h
    obtain⟨y46,hy,h⟩:=aS h
    refine VO.lendIn (t := 28) (d1 := 15) (d2 := 16) (d3 := 17) (id := 0) (cur := 0) (i := x34.toNat) (j := 0) (v2 := I x33) (f := 20) (l := [I x33]) (e := (.sl (.sl (.int .i64)))) (t' := (.sl (.int .i64))) (xs := x32) (ys := (x32.getD x34.toNat (Ty.dflt (.sl (.sl (.int .i64)))))) (ys' := y46.1) (x' := y46.1) (rs := [.lf (.v (.int .i64) y46.2)]) (v1 := 0) K (by kernel_rfl) (by kernel_rfl) (by kernel_rfl) (by kernel_rfl) (by kernel_rfl) g47 (ok20 N _ _ hy) rfl ?_
    refine nN K (tn 1) <| nE K (tn 3) ?_
    exact aro [.ren [0, 1, 5, 65536] [0]] ⟨(x32.set x34.toNat y46.1), y46.2, (wr (x34 + (1 : Int))), rfl, h⟩
   refine VW.exit ?_
   exact arv [.ren [1, 65536] [0]] ⟨x33, x32, rfl, h⟩
 rintro s ⟨x23, x24, rfl, h⟩
 unfold F18_j0 at h
 refine nR K (tn 2) ?_
 replace h := Option.some.inj h
 subst h
 refine VW.ghl [.ren [4, 65536] [0]] (VW.ret ?_)
 exact ⟨[], by kernel_rfl, by kernel_rfl, by kernel_rfl⟩
def F19_j0 (N : Nat) (x101 : Int) (x102 : (List Z52)) : Option ((List Z52) × Int) :=
  some (x102, x101)
def F19_l0_b (N : Nat) (nx171 : (List Z52) → Int → Int → Option ((List Z52) × Int)) (x136 : (List Z52)) (x137 : Int) (x138 : Int) : Option ((List Z52) × Int) :=
  cond (decide (x138 < (x136.length : Int))) (gd (InR x138 x136.length) (gd (x138.toNat < x136.length) (andO (F44 N (IntKind.i64.wrap (x137 + (1 : Int)))) fun y190 => gd (InR x138 (x136.set x138.toNat (x137, ((x136.getD x138.toNat (Ty.dflt Y52)).2.1, ((x136.getD x138.toNat (Ty.dflt Y52)).2.2.1, ((x136.getD x138.toNat (Ty.dflt Y52)).2.2.2.1, ((x136.getD x138.toNat (Ty.dflt Y52)).2.2.2.2.1, ((x136.getD x138.toNat (Ty.dflt Y52)).2.2.2.2.2.1, (x136.getD x138.toNat (Ty.dflt Y52)).2.2.2.2.2.2))))))).length) (gd (x138.toNat < (x136.set x138.toNat (x137, ((x136.getD x138.toNat (Ty.dflt Y52)).2.1, ((x136.getD x138.toNat (Ty.dflt Y52)).2.2.1, ((x136.getD x138.toNat (Ty.dflt Y52)).2.2.2.1, ((x136.getD x138.toNat (Ty.dflt Y52)).2.2.2.2.1, ((x136.getD x138.toNat (Ty.dflt Y52)).2.2.2.2.2.1, (x136.getD x138.toNat (Ty.dflt Y52)).2.2.2.2.2.2))))))).length) (gd (InR x138 (x136.set x138.toNat (x137, (y190, ((x136.getD x138.toNat (Ty.dflt Y52)).2.2.1, ((x136.getD x138.toNat (Ty.dflt Y52)).2.2.2.1, ((x136.getD x138.toNat (Ty.dflt Y52)).2.2.2.2.1, ((x136.getD x138.toNat (Ty.dflt Y52)).2.2.2.2.2.1, (x136.getD x138.toNat (Ty.dflt Y52)).2.2.2.2.2.2))))))).length) (gd (x138.toNat < (x136.set x138.toNat (x137, (y190, ((x136.getD x138.toNat (Ty.dflt Y52)).2.2.1, ((x136.getD x138.toNat (Ty.dflt Y52)).2.2.2.1, ((x136.getD x138.toNat (Ty.dflt Y52)).2.2.2.2.1, ((x136.getD x138.toNat (Ty.dflt Y52)).2.2.2.2.2.1, (x136.getD x138.toNat (Ty.dflt Y52)).2.2.2.2.2.2))))))).length) (gd (InR x138 (x136.set x138.toNat (x137, (y190, ((IntKind.i64.wrap ((IntKind.i64.wrap (x137 + (1 : Int))) + (1 : Int))), ((x136.getD x138.toNat (Ty.dflt Y52)).2.2.2.1, ((x136.getD x138.toNat (Ty.dflt Y52)).2.2.2.2.1, ((x136.getD x138.toNat (Ty.dflt Y52)).2.2.2.2.2.1, (x136.getD x138.toNat (Ty.dflt Y52)).2.2.2.2.2.2))))))).length) (gd (x138.toNat < (x136.set x138.toNat (x137, (y190, ((IntKind.i64.wrap ((IntKind.i64.wrap (x137 + (1 : Int))) + (1 : Int))), ((x136.getD x138.toNat (Ty.dflt Y52)).2.2.2.1, ((x136.getD x138.toNat (Ty.dflt Y52)).2.2.2.2.1, ((x136.getD x138.toNat (Ty.dflt Y52)).2.2.2.2.2.1, (x136.getD x138.toNat (Ty.dflt Y52)).2.2.2.2.2.2))))))).length) (gd (InR x138 (x136.set x138.toNat (x137, (y190, ((IntKind.i64.wrap ((IntKind.i64.wrap (x137 + (1 : Int))) + (1 : Int))), ((IntKind.i64.wrap ((IntKind.i64.wrap ((IntKind.i64.wrap (x137 + (1 : Int))) + (1 : Int))) + (1 : Int))), ((x136.getD x138.toNat (Ty.dflt Y52)).2.2.2.2.1, ((x136.getD x138.toNat (Ty.dflt Y52)).2.2.2.2.2.1, (x136.getD x138.toNat (Ty.dflt Y52)).2.2.2.2.2.2))))))).length) (gd (x138.toNat < (x136.set x138.toNat (x137, (y190, ((IntKind.i64.wrap ((IntKind.i64.wrap (x137 + (1 : Int))) + (1 : Int))), ((IntKind.i64.wrap ((IntKind.i64.wrap ((IntKind.i64.wrap (x137 + (1 : Int))) + (1 : Int))) + (1 : Int))), ((x136.getD x138.toNat (Ty.dflt Y52)).2.2.2.2.1, ((x136.getD x138.toNat (Ty.dflt Y52)).2.2.2.2.2.1, (x136.getD x138.toNat (Ty.dflt Y52)).2.2.2.2.2.2))))))).length) (gd (InR x138 (x136.set x138.toNat (x137, (y190, ((IntKind.i64.wrap ((IntKind.i64.wrap (x137 + (1 : Int))) + (1 : Int))), ((IntKind.i64.wrap ((IntKind.i64.wrap ((IntKind.i64.wrap (x137 + (1 : Int))) + (1 : Int))) + (1 : Int))), ((IntKind.i64.wrap ((IntKind.i64.wrap ((IntKind.i64.wrap ((IntKind.i64.wrap (x137 + (1 : Int))) + (1 : Int))) + (1 : Int))) + (1 : Int))), ((x136.getD x138.toNat (Ty.dflt Y52)).2.2.2.2.2.1, (x136.getD x138.toNat (Ty.dflt Y52)).2.2.2.2.2.2))))))).length) (gd (x138.toNat < (x136.set x138.toNat (x137, (y190, ((IntKind.i64.wrap ((IntKind.i64.wrap (x137 + (1 : Int))) + (1 : Int))), ((IntKind.i64.wrap ((IntKind.i64.wrap ((IntKind.i64.wrap (x137 + (1 : Int))) + (1 : Int))) + (1 : Int))), ((IntKind.i64.wrap ((IntKind.i64.wrap ((IntKind.i64.wrap ((IntKind.i64.wrap (x137 + (1 : Int))) + (1 : Int))) + (1 : Int))) + (1 : Int))), ((x136.getD x138.toNat (Ty.dflt Y52)).2.2.2.2.2.1, (x136.getD x138.toNat (Ty.dflt Y52)).2.2.2.2.2.2))))))).length) (gd (InR x138 (x136.set x138.toNat (x137, (y190, ((IntKind.i64.wrap ((IntKind.i64.wrap (x137 + (1 : Int))) + (1 : Int))), ((IntKind.i64.wrap ((IntKind.i64.wrap ((IntKind.i64.wrap (x137 + (1 : Int))) + (1 : Int))) + (1 : Int))), ((IntKind.i64.wrap ((IntKind.i64.wrap ((IntKind.i64.wrap ((IntKind.i64.wrap (x137 + (1 : Int))) + (1 : Int))) + (1 : Int))) + (1 : Int))), (((Int.tmod (IntKind.i64.wrap ((IntKind.i64.wrap ((IntKind.i64.wrap ((IntKind.i64.wrap ((IntKind.i64.wrap (x137 + (1 : Int))) + (1 : Int))) + (1 : Int))) + (1 : Int))) + (1 : Int))) (3 : Int)) == (0 : Int)), (x136.getD x138.toNat (Ty.dflt Y52)).2.2.2.2.2.2))))))).length) (gd (x138.toNat < x136.length) (andO (F25 N ((x136.getD x138.toNat (Ty.dflt Y52)).2.2.2.2.2.2) (IntKind.i64.wrap ((IntKind.i64.wrap ((IntKind.i64.wrap ((IntKind.i64.wrap ((IntKind.i64.wrap ((IntKind.i64.wrap (x137 + (1 : Int))) + (1 : Int))) + (1 : Int))) + (1 : Int))) + (1 : Int))) + (1 : Int)))) fun y202 => nx171 (x136.set x138.toNat (x137, (y190, ((IntKind.i64.wrap ((IntKind.i64.wrap (x137 + (1 : Int))) + (1 : Int))), ((IntKind.i64.wrap ((IntKind.i64.wrap ((IntKind.i64.wrap (x137 + (1 : Int))) + (1 : Int))) + (1 : Int))), ((IntKind.i64.wrap ((IntKind.i64.wrap ((IntKind.i64.wrap ((IntKind.i64.wrap (x137 + (1 : Int))) + (1 : Int))) + (1 : Int))) + (1 : Int))), (((Int.tmod (IntKind.i64.wrap ((IntKind.i64.wrap ((IntKind.i64.wrap ((IntKind.i64.wrap ((IntKind.i64.wrap (x137 + (1 : Int))) + (1 : Int))) + (1 : Int))) + (1 : Int))) + (1 : Int))) (3 : Int)) == (0 : Int)), y202.1))))))) y202.2 (IntKind.i64.wrap (x138 + (1 : Int)))))))))))))))))) (F19_j0 N x137 x136)
def F19_l0 (N : Nat) := loopF (F19_l0_b N) (fun _ _ _ => none)
theorem F19_l0_s N {k} (hk : 0 < k) x136 x137 x138 : F19_l0 N k x136 x137 x138 = F19_l0_b N (F19_l0 N (k - 1)) x136 x137 x138 := by cases k;cases hk;rfl
def F19 (N : Nat) (a0 : (List Z52)) (a1 : Int) : Option ((List Z52) × Int) :=
  F19_l0 N N a0 a1 (0 : Int)
theorem ok19 N a0 a1 {r} (h : F19 N a0 a1 = some r) : ConM prog 19 [ar 0 Y52 a0 .dp] [hh 0, I a1] [.lf (.v (.int .i64) r.2)] [ar 0 Y52 r.1 .dp] := by
 refine ⟨enters_of func19 rfl (by decide), HM.intro [.lf (.v (.int .i64))] K func19 rfl (Nat.le_of_ble_eq_true rfl) (Nat.le_of_ble_eq_true rfl) fun w0 E0 ht => ?_⟩
 unfold F19 at h
 show VW _ _ _ _ _ (retM _ _ _ _ _) _
 refine nR K (tn 1) ?_
 refine VW.join (fun s => ∃ x101 x102, s = ⟨[(1, I x101), (65536, hh 0)], [ar 0 Y52 x102 .dp]⟩ ∧ F19_j0 N x101 x102 = some r) ?_ ?_
 ·refine nR K (tn 1) <| VW.block <| lop (fun k s => ∃ x136 x137 x138, s = ⟨[(0, hh 0), (1, I x137), (5, I x138), (65536, hh 0)], [ar 0 Y52 x136 .dp]⟩ ∧ F19_l0 N k x136 x137 x138 = some r) N [.ren [0, 1, 5, 65536] [0]] ⟨a0, a1, (0 : Int), rfl, h⟩ ?_
  rintro k171 s ⟨x136, x137, x138, rfl, h⟩
  cases k171 with
  | zero => cases show none = some r from h
  | succ k171 =>
   replace h : F19_l0_b N (F19_l0 N k171) x136 x137 x138 = some r := h
   unfold F19_l0_b at h
   refine sq <| nR K (tn 4) ?_
   refine cnd h ?_ ?_<;>intro h
   ·refine VW.skip <| sq <| VW.block ?_
    obtain⟨g188,h⟩:=gS h
    obtain⟨g189,h⟩:=gS h
    refine nR K (pu 3 (an g188 (pu 1 (an g189 (tn 0))))) <| nR K (tn 3) <| sq <| VW.region <| nG K 3 (tn 3) ?_
    obtain⟨y190,hy,h⟩:=aS h
    refine clc false [.t (.int .i64)] [] (some 22) K (ok44 N _ hy) ?_
    obtain⟨g191,h⟩:=gS h
    obtain⟨g192,h⟩:=gS h
    refine sG K 3 [0, 1, 5, 65536] [0] ⟨[(0, hh 0), (1, I (wr (x137 + (1 : Int)))), (5, I x138), (65536, hh 0)], [ar 0 Y52 ((x136.set x138.toNat (x137, ((x136.getD x138.toNat D52).2.1, ((x136.getD x138.toNat D52).2.2.1, ((x136.getD x138.toNat D52).2.2.2.1, ((x136.getD x138.toNat D52).2.2.2.2.1, ((x136.getD x138.toNat D52).2.2.2.2.2.1, (x136.getD x138.toNat D52).2.2.2.2.2.2))))))).set x138.toNat (((x136.set x138.toNat (x137, ((x136.getD x138.toNat D52).2.1, ((x136.getD x138.toNat D52).2.2.1, ((x136.getD x138.toNat D52).2.2.2.1, ((x136.getD x138.toNat D52).2.2.2.2.1, ((x136.getD x138.toNat D52).2.2.2.2.2.1, (x136.getD x138.toNat D52).2.2.2.2.2.2))))))).getD x138.toNat D52).1, (y190, (((x136.set x138.toNat (x137, ((x136.getD x138.toNat D52).2.1, ((x136.getD x138.toNat D52).2.2.1, ((x136.getD x138.toNat D52).2.2.2.1, ((x136.getD x138.toNat D52).2.2.2.2.1, ((x136.getD x138.toNat D52).2.2.2.2.2.1, (x136.getD x138.toNat D52).2.2.2.2.2.2))))))).getD x138.toNat D52).2.2.1, (((x136.set x138.toNat (x137, ((x136.getD x138.toNat D52).2.1, ((x136.getD x138.toNat D52).2.2.1, ((x136.getD x138.toNat D52).2.2.2.1, ((x136.getD x138.toNat D52).2.2.2.2.1, ((x136.getD x138.toNat D52).2.2.2.2.2.1, (x136.getD x138.toNat D52).2.2.2.2.2.2))))))).getD x138.toNat D52).2.2.2.1, (((x136.set x138.toNat (x137, ((x136.getD x138.toNat D52).2.1, ((x136.getD x138.toNat D52).2.2.1, ((x136.getD x138.toNat D52).2.2.2.1, ((x136.getD x138.toNat D52).2.2.2.2.1, ((x136.getD x138.toNat D52).2.2.2.2.2.1, (x136.getD x138.toNat D52).2.2.2.2.2.2))))))).getD x138.toNat D52).2.2.2.2.1, (((x136.set x138.toNat (x137, ((x136.getD x138.toNat D52).2.1, ((x136.getD x138.toNat D52).2.2.1, ((x136.getD x138.toNat D52).2.2.2.1, ((x136.getD x138.toNat D52).2.2.2.2.1, ((x136.getD x138.toNat D52).2.2.2.2.2.1, (x136.getD x138.toNat D52).2.2.2.2.2.2))))))).getD x138.toNat D52).2.2.2.2.2.1, ((x136.set x138.toNat (x137, ((x136.getD x138.toNat D52).2.1, ((x136.getD x138.toNat D52).2.2.1, ((x136.getD x138.toNat D52).2.2.2.1, ((x136.getD x138.toNat D52).2.2.2.2.1, ((x136.getD x138.toNat D52).2.2.2.2.2.1, (x136.getD x138.toNat D52).2.2.2.2.2.2))))))).getD x138.toNat D52).2.2.2.2.2.2))))))) .dp]⟩ (an g191 (pu 1 (an g192 (tn 0)))) ?_
    rw [show ((x136.set x138.toNat (x137, ((x136.getD x138.toNat D52).2.1, ((x136.getD x138.toNat D52).2.2.1, ((x136.getD x138.toNat D52).2.2.2.1, ((x136.getD x138.toNat D52).2.2.2.2.1, ((x136.getD x138.toNat D52).2.2.2.2.2.1, (x136.getD x138.toNat D52).2.2.2.2.2.2))))))).set x138.toNat (((x136.set x138.toNat (x137, ((x136.getD x138.toNat D52).2.1, ((x136.getD x138.toNat D52).2.2.1, ((x136.getD x138.toNat D52).2.2.2.1, ((x136.getD x138.toNat D52).2.2.2.2.1, ((x136.getD x138.toNat D52).2.2.2.2.2.1, (x136.getD x138.toNat D52).2.2.2.2.2.2))))))).getD x138.toNat D52).1, (y190, (((x136.set x138.toNat (x137, ((x136.getD x138.toNat D52).2.1, ((x136.getD x138.toNat D52).2.2.1, ((x136.getD x138.toNat D52).2.2.2.1, ((x136.getD x138.toNat D52).2.2.2.2.1, ((x136.getD x138.toNat D52).2.2.2.2.2.1, (x136.getD x138.toNat D52).2.2.2.2.2.2))))))).getD x138.toNat D52).2.2.1, (((x136.set x138.toNat (x137, ((x136.getD x138.toNat D52).2.1, ((x136.getD x138.toNat D52).2.2.1, ((x136.getD x138.toNat D52).2.2.2.1, ((x136.getD x138.toNat D52).2.2.2.2.1, ((x136.getD x138.toNat D52).2.2.2.2.2.1, (x136.getD x138.toNat D52).2.2.2.2.2.2))))))).getD x138.toNat D52).2.2.2.1, (((x136.set x138.toNat (x137, ((x136.getD x138.toNat D52).2.1, ((x136.getD x138.toNat D52).2.2.1, ((x136.getD x138.toNat D52).2.2.2.1, ((x136.getD x138.toNat D52).2.2.2.2.1, ((x136.getD x138.toNat D52).2.2.2.2.2.1, (x136.getD x138.toNat D52).2.2.2.2.2.2))))))).getD x138.toNat D52).2.2.2.2.1, (((x136.set x138.toNat (x137, ((x136.getD x138.toNat D52).2.1, ((x136.getD x138.toNat D52).2.2.1, ((x136.getD x138.toNat D52).2.2.2.1, ((x136.getD x138.toNat D52).2.2.2.2.1, ((x136.getD x138.toNat D52).2.2.2.2.2.1, (x136.getD x138.toNat D52).2.2.2.2.2.2))))))).getD x138.toNat D52).2.2.2.2.2.1, ((x136.set x138.toNat (x137, ((x136.getD x138.toNat D52).2.1, ((x136.getD x138.toNat D52).2.2.1, ((x136.getD x138.toNat D52).2.2.2.1, ((x136.getD x138.toNat D52).2.2.2.2.1, ((x136.getD x138.toNat D52).2.2.2.2.2.1, (x136.getD x138.toNat D52).2.2.2.2.2.2))))))).getD x138.toNat D52).2.2.2.2.2.2))))))) = (x136.set x138.toNat (x137, (y190, ((x136.getD x138.toNat D52).2.2.1, ((x136.getD x138.toNat D52).2.2.2.1, ((x136.getD x138.toNat D52).2.2.2.2.1, ((x136.getD x138.toNat D52).2.2.2.2.2.1, (x136.getD x138.toNat D52).2.2.2.2.2.2))))))) from set_upd x136 x138.toNat (x137, ((x136.getD x138.toNat D52).2.1, ((x136.getD x138.toNat D52).2.2.1, ((x136.getD x138.toNat D52).2.2.2.1, ((x136.getD x138.toNat D52).2.2.2.2.1, ((x136.getD x138.toNat D52).2.2.2.2.2.1, (x136.getD x138.toNat D52).2.2.2.2.2.2)))))) D52 (fun z => (z.1, (y190, (z.2.2.1, (z.2.2.2.1, (z.2.2.2.2.1, (z.2.2.2.2.2.1, z.2.2.2.2.2.2))))))) (by first | (simp; done) | simpa using g192)]
    refine sN K [0, 1, 5, 65536] [0] ⟨[(0, hh 0), (1, I (wr (x137 + (1 : Int)))), (5, I x138), (65536, hh 0)], [ar 0 Y52 (x136.set x138.toNat (x137, (y190, ((x136.getD x138.toNat D52).2.2.1, ((x136.getD x138.toNat D52).2.2.2.1, ((x136.getD x138.toNat D52).2.2.2.2.1, ((x136.getD x138.toNat D52).2.2.2.2.2.1, (x136.getD x138.toNat D52).2.2.2.2.2.2))))))) .dp]⟩ (tn 0) <| nR K (tn 3) <| sq <| VW.region ?_
    obtain⟨g193,h⟩:=gS h
    obtain⟨g194,h⟩:=gS h
    refine sG K 6 [0, 1, 5, 65536] [0] ⟨[(0, hh 0), (1, I (wr ((wr (x137 + (1 : Int))) + (1 : Int)))), (5, I x138), (65536, hh 0)], [ar 0 Y52 ((x136.set x138.toNat (x137, (y190, ((x136.getD x138.toNat D52).2.2.1, ((x136.getD x138.toNat D52).2.2.2.1, ((x136.getD x138.toNat D52).2.2.2.2.1, ((x136.getD x138.toNat D52).2.2.2.2.2.1, (x136.getD x138.toNat D52).2.2.2.2.2.2))))))).set x138.toNat (((x136.set x138.toNat (x137, (y190, ((x136.getD x138.toNat D52).2.2.1, ((x136.getD x138.toNat D52).2.2.2.1, ((x136.getD x138.toNat D52).2.2.2.2.1, ((x136.getD x138.toNat D52).2.2.2.2.2.1, (x136.getD x138.toNat D52).2.2.2.2.2.2))))))).getD x138.toNat D52).1, (((x136.set x138.toNat (x137, (y190, ((x136.getD x138.toNat D52).2.2.1, ((x136.getD x138.toNat D52).2.2.2.1, ((x136.getD x138.toNat D52).2.2.2.2.1, ((x136.getD x138.toNat D52).2.2.2.2.2.1, (x136.getD x138.toNat D52).2.2.2.2.2.2))))))).getD x138.toNat D52).2.1, ((wr ((wr (x137 + (1 : Int))) + (1 : Int))), (((x136.set x138.toNat (x137, (y190, ((x136.getD x138.toNat D52).2.2.1, ((x136.getD x138.toNat D52).2.2.2.1, ((x136.getD x138.toNat D52).2.2.2.2.1, ((x136.getD x138.toNat D52).2.2.2.2.2.1, (x136.getD x138.toNat D52).2.2.2.2.2.2))))))).getD x138.toNat D52).2.2.2.1, (((x136.set x138.toNat (x137, (y190, ((x136.getD x138.toNat D52).2.2.1, ((x136.getD x138.toNat D52).2.2.2.1, ((x136.getD x138.toNat D52).2.2.2.2.1, ((x136.getD x138.toNat D52).2.2.2.2.2.1, (x136.getD x138.toNat D52).2.2.2.2.2.2))))))).getD x138.toNat D52).2.2.2.2.1, (((x136.set x138.toNat (x137, (y190, ((x136.getD x138.toNat D52).2.2.1, ((x136.getD x138.toNat D52).2.2.2.1, ((x136.getD x138.toNat D52).2.2.2.2.1, ((x136.getD x138.toNat D52).2.2.2.2.2.1, (x136.getD x138.toNat D52).2.2.2.2.2.2))))))).getD x138.toNat D52).2.2.2.2.2.1, ((x136.set x138.toNat (x137, (y190, ((x136.getD x138.toNat D52).2.2.1, ((x136.getD x138.toNat D52).2.2.2.1, ((x136.getD x138.toNat D52).2.2.2.2.1, ((x136.getD x138.toNat D52).2.2.2.2.2.1, (x136.getD x138.toNat D52).2.2.2.2.2.2))))))).getD x138.toNat D52).2.2.2.2.2.2))))))) .dp]⟩ (pu 3 (an g193 (pu 1 (an g194 (tn 0))))) ?_
    rw [show ((x136.set x138.toNat (x137, (y190, ((x136.getD x138.toNat D52).2.2.1, ((x136.getD x138.toNat D52).2.2.2.1, ((x136.getD x138.toNat D52).2.2.2.2.1, ((x136.getD x138.toNat D52).2.2.2.2.2.1, (x136.getD x138.toNat D52).2.2.2.2.2.2))))))).set x138.toNat (((x136.set x138.toNat (x137, (y190, ((x136.getD x138.toNat D52).2.2.1, ((x136.getD x138.toNat D52).2.2.2.1, ((x136.getD x138.toNat D52).2.2.2.2.1, ((x136.getD x138.toNat D52).2.2.2.2.2.1, (x136.getD x138.toNat D52).2.2.2.2.2.2))))))).getD x138.toNat D52).1, (((x136.set x138.toNat (x137, (y190, ((x136.getD x138.toNat D52).2.2.1, ((x136.getD x138.toNat D52).2.2.2.1, ((x136.getD x138.toNat D52).2.2.2.2.1, ((x136.getD x138.toNat D52).2.2.2.2.2.1, (x136.getD x138.toNat D52).2.2.2.2.2.2))))))).getD x138.toNat D52).2.1, ((wr ((wr (x137 + (1 : Int))) + (1 : Int))), (((x136.set x138.toNat (x137, (y190, ((x136.getD x138.toNat D52).2.2.1, ((x136.getD x138.toNat D52).2.2.2.1, ((x136.getD x138.toNat D52).2.2.2.2.1, ((x136.getD x138.toNat D52).2.2.2.2.2.1, (x136.getD x138.toNat D52).2.2.2.2.2.2))))))).getD x138.toNat D52).2.2.2.1, (((x136.set x138.toNat (x137, (y190, ((x136.getD x138.toNat D52).2.2.1, ((x136.getD x138.toNat D52).2.2.2.1, ((x136.getD x138.toNat D52).2.2.2.2.1, ((x136.getD x138.toNat D52).2.2.2.2.2.1, (x136.getD x138.toNat D52).2.2.2.2.2.2))))))).getD x138.toNat D52).2.2.2.2.1, (((x136.set x138.toNat (x137, (y190, ((x136.getD x138.toNat D52).2.2.1, ((x136.getD x138.toNat D52).2.2.2.1, ((x136.getD x138.toNat D52).2.2.2.2.1, ((x136.getD x138.toNat D52).2.2.2.2.2.1, (x136.getD x138.toNat D52).2.2.2.2.2.2))))))).getD x138.toNat D52).2.2.2.2.2.1, ((x136.set x138.toNat (x137, (y190, ((x136.getD x138.toNat D52).2.2.1, ((x136.getD x138.toNat D52).2.2.2.1, ((x136.getD x138.toNat D52).2.2.2.2.1, ((x136.getD x138.toNat D52).2.2.2.2.2.1, (x136.getD x138.toNat D52).2.2.2.2.2.2))))))).getD x138.toNat D52).2.2.2.2.2.2))))))) = (x136.set x138.toNat (x137, (y190, ((wr ((wr (x137 + (1 : Int))) + (1 : Int))), ((x136.getD x138.toNat D52).2.2.2.1, ((x136.getD x138.toNat D52).2.2.2.2.1, ((x136.getD x138.toNat D52).2.2.2.2.2.1, (x136.getD x138.toNat D52).2.2.2.2.2.2))))))) from set_upd x136 x138.toNat (x137, (y190, ((x136.getD x138.toNat D52).2.2.1, ((x136.getD x138.toNat D52).2.2.2.1, ((x136.getD x138.toNat D52).2.2.2.2.1, ((x136.getD x138.toNat D52).2.2.2.2.2.1, (x136.getD x138.toNat D52).2.2.2.2.2.2)))))) D52 (fun z => (z.1, (z.2.1, ((wr ((wr (x137 + (1 : Int))) + (1 : Int))), (z.2.2.2.1, (z.2.2.2.2.1, (z.2.2.2.2.2.1, z.2.2.2.2.2.2))))))) (by first | (simp; done) | simpa using g194)]
    refine sN K [0, 1, 5, 65536] [0] ⟨[(0, hh 0), (1, I (wr ((wr (x137 + (1 : Int))) + (1 : Int)))), (5, I x138), (65536, hh 0)], [ar 0 Y52 (x136.set x138.toNat (x137, (y190, ((wr ((wr (x137 + (1 : Int))) + (1 : Int))), ((x136.getD x138.toNat D52).2.2.2.1, ((x136.getD x138.toNat D52).2.2.2.2.1, ((x136.getD x138.toNat D52).2.2.2.2.2.1, (x136.getD x138.toNat D52).2.2.2.2.2.2))))))) .dp]⟩ (tn 0) <| nR K (tn 3) ?_
    refine sq <| VW.region ?_
    obtain⟨g195,h⟩:=gS h
    obtain⟨g196,h⟩:=gS h
    refine sG K 6 [0, 1, 5, 65536] [0] ⟨[(0, hh 0), (1, I (wr ((wr ((wr (x137 + (1 : Int))) + (1 : Int))) + (1 : Int)))), (5, I x138), (65536, hh 0)], [ar 0 Y52 ((x136.set x138.toNat (x137, (y190, ((wr ((wr (x137 + (1 : Int))) + (1 : Int))), ((x136.getD x138.toNat D52).2.2.2.1, ((x136.getD x138.toNat D52).2.2.2.2.1, ((x136.getD x138.toNat D52).2.2.2.2.2.1, (x136.getD x138.toNat D52).2.2.2.2.2.2))))))).set x138.toNat (((x136.set x138.toNat (x137, (y190, ((wr ((wr (x137 + (1 : Int))) + (1 : Int))), ((x136.getD x138.toNat D52).2.2.2.1, ((x136.getD x138.toNat D52).2.2.2.2.1, ((x136.getD x138.toNat D52).2.2.2.2.2.1, (x136.getD x138.toNat D52).2.2.2.2.2.2))))))).getD x138.toNat D52).1, (((x136.set x138.toNat (x137, (y190, ((wr ((wr (x137 + (1 : Int))) + (1 : Int))), ((x136.getD x138.toNat D52).2.2.2.1, ((x136.getD x138.toNat D52).2.2.2.2.1, ((x136.getD x138.toNat D52).2.2.2.2.2.1, (x136.getD x138.toNat D52).2.2.2.2.2.2))))))).getD x138.toNat D52).2.1, (((x136.set x138.toNat (x137, (y190, ((wr ((wr (x137 + (1 : Int))) + (1 : Int))), ((x136.getD x138.toNat D52).2.2.2.1, ((x136.getD x138.toNat D52).2.2.2.2.1, ((x136.getD x138.toNat D52).2.2.2.2.2.1, (x136.getD x138.toNat D52).2.2.2.2.2.2))))))).getD x138.toNat D52).2.2.1, ((wr ((wr ((wr (x137 + (1 : Int))) + (1 : Int))) + (1 : Int))), (((x136.set x138.toNat (x137, (y190, ((wr ((wr (x137 + (1 : Int))) + (1 : Int))), ((x136.getD x138.toNat D52).2.2.2.1, ((x136.getD x138.toNat D52).2.2.2.2.1, ((x136.getD x138.toNat D52).2.2.2.2.2.1, (x136.getD x138.toNat D52).2.2.2.2.2.2))))))).getD x138.toNat D52).2.2.2.2.1, (((x136.set x138.toNat (x137, (y190, ((wr ((wr (x137 + (1 : Int))) + (1 : Int))), ((x136.getD x138.toNat D52).2.2.2.1, ((x136.getD x138.toNat D52).2.2.2.2.1, ((x136.getD x138.toNat D52).2.2.2.2.2.1, (x136.getD x138.toNat D52).2.2.2.2.2.2))))))).getD x138.toNat D52).2.2.2.2.2.1, ((x136.set x138.toNat (x137, (y190, ((wr ((wr (x137 + (1 : Int))) + (1 : Int))), ((x136.getD x138.toNat D52).2.2.2.1, ((x136.getD x138.toNat D52).2.2.2.2.1, ((x136.getD x138.toNat D52).2.2.2.2.2.1, (x136.getD x138.toNat D52).2.2.2.2.2.2))))))).getD x138.toNat D52).2.2.2.2.2.2))))))) .dp]⟩ (pu 3 (an g195 (pu 1 (an g196 (tn 0))))) ?_
    rw [show ((x136.set x138.toNat (x137, (y190, ((wr ((wr (x137 + (1 : Int))) + (1 : Int))), ((x136.getD x138.toNat D52).2.2.2.1, ((x136.getD x138.toNat D52).2.2.2.2.1, ((x136.getD x138.toNat D52).2.2.2.2.2.1, (x136.getD x138.toNat D52).2.2.2.2.2.2))))))).set x138.toNat (((x136.set x138.toNat (x137, (y190, ((wr ((wr (x137 + (1 : Int))) + (1 : Int))), ((x136.getD x138.toNat D52).2.2.2.1, ((x136.getD x138.toNat D52).2.2.2.2.1, ((x136.getD x138.toNat D52).2.2.2.2.2.1, (x136.getD x138.toNat D52).2.2.2.2.2.2))))))).getD x138.toNat D52).1, (((x136.set x138.toNat (x137, (y190, ((wr ((wr (x137 + (1 : Int))) + (1 : Int))), ((x136.getD x138.toNat D52).2.2.2.1, ((x136.getD x138.toNat D52).2.2.2.2.1, ((x136.getD x138.toNat D52).2.2.2.2.2.1, (x136.getD x138.toNat D52).2.2.2.2.2.2))))))).getD x138.toNat D52).2.1, (((x136.set x138.toNat (x137, (y190, ((wr ((wr (x137 + (1 : Int))) + (1 : Int))), ((x136.getD x138.toNat D52).2.2.2.1, ((x136.getD x138.toNat D52).2.2.2.2.1, ((x136.getD x138.toNat D52).2.2.2.2.2.1, (x136.getD x138.toNat D52).2.2.2.2.2.2))))))).getD x138.toNat D52).2.2.1, ((wr ((wr ((wr (x137 + (1 : Int))) + (1 : Int))) + (1 : Int))), (((x136.set x138.toNat (x137, (y190, ((wr ((wr (x137 + (1 : Int))) + (1 : Int))), ((x136.getD x138.toNat D52).2.2.2.1, ((x136.getD x138.toNat D52).2.2.2.2.1, ((x136.getD x138.toNat D52).2.2.2.2.2.1, (x136.getD x138.toNat D52).2.2.2.2.2.2))))))).getD x138.toNat D52).2.2.2.2.1, (((x136.set x138.toNat (x137, (y190, ((wr ((wr (x137 + (1 : Int))) + (1 : Int))), ((x136.getD x138.toNat D52).2.2.2.1, ((x136.getD x138.toNat D52).2.2.2.2.1, ((x136.getD x138.toNat D52).2.2.2.2.2.1, (x136.getD x138.toNat D52).2.2.2.2.2.2))))))).getD x138.toNat D52).2.2.2.2.2.1, ((x136.set x138.toNat (x137, (y190, ((wr ((wr (x137 + (1 : Int))) + (1 : Int))), ((x136.getD x138.toNat D52).2.2.2.1, ((x136.getD x138.toNat D52).2.2.2.2.1, ((x136.getD x138.toNat D52).2.2.2.2.2.1, (x136.getD x138.toNat D52).2.2.2.2.2.2))))))).getD x138.toNat D52).2.2.2.2.2.2))))))) = (x136.set x138.toNat (x137, (y190, ((wr ((wr (x137 + (1 : Int))) + (1 : Int))), ((wr ((wr ((wr (x137 + (1 : Int))) + (1 : Int))) + (1 : Int))), ((x136.getD x138.toNat D52).2.2.2.2.1, ((x136.getD x138.toNat D52).2.2.2.2.2.1, (x136.getD x138.toNat D52).2.2.2.2.2.2))))))) from set_upd x136 x138.toNat (x137, (y190, ((wr ((wr (x137 + (1 : Int))) + (1 : Int))), ((x136.getD x138.toNat D52).2.2.2.1, ((x136.getD x138.toNat D52).2.2.2.2.1, ((x136.getD x138.toNat D52).2.2.2.2.2.1, (x136.getD x138.toNat D52).2.2.2.2.2.2)))))) D52 (fun z => (z.1, (z.2.1, (z.2.2.1, ((wr ((wr ((wr (x137 + (1 : Int))) + (1 : Int))) + (1 : Int))), (z.2.2.2.2.1, (z.2.2.2.2.2.1, z.2.2.2.2.2.2))))))) (by first | (simp; done) | simpa using g196)]
    refine sN K [0, 1, 5, 65536] [0] ⟨[(0, hh 0), (1, I (wr ((wr ((wr (x137 + (1 : Int))) + (1 : Int))) + (1 : Int)))), (5, I x138), (65536, hh 0)], [ar 0 Y52 (x136.set x138.toNat (x137, (y190, ((wr ((wr (x137 + (1 : Int))) + (1 : Int))), ((wr ((wr ((wr (x137 + (1 : Int))) + (1 : Int))) + (1 : Int))), ((x136.getD x138.toNat D52).2.2.2.2.1, ((x136.getD x138.toNat D52).2.2.2.2.2.1, (x136.getD x138.toNat D52).2.2.2.2.2.2))))))) .dp]⟩ (tn 0) ?_
    refine nR K (tn 3) <| sq <| VW.region ?_
    obtain⟨g197,h⟩:=gS h
    obtain⟨g198,h⟩:=gS h
    refine sG K 6 [0, 1, 5, 65536] [0] ⟨[(0, hh 0), (1, I (wr ((wr ((wr ((wr (x137 + (1 : Int))) + (1 : Int))) + (1 : Int))) + (1 : Int)))), (5, I x138), (65536, hh 0)], [ar 0 Y52 ((x136.set x138.toNat (x137, (y190, ((wr ((wr (x137 + (1 : Int))) + (1 : Int))), ((wr ((wr ((wr (x137 + (1 : Int))) + (1 : Int))) + (1 : Int))), ((x136.getD x138.toNat D52).2.2.2.2.1, ((x136.getD x138.toNat D52).2.2.2.2.2.1, (x136.getD x138.toNat D52).2.2.2.2.2.2))))))).set x138.toNat (((x136.set x138.toNat (x137, (y190, ((wr ((wr (x137 + (1 : Int))) + (1 : Int))), ((wr ((wr ((wr (x137 + (1 : Int))) + (1 : Int))) + (1 : Int))), ((x136.getD x138.toNat D52).2.2.2.2.1, ((x136.getD x138.toNat D52).2.2.2.2.2.1, (x136.getD x138.toNat D52).2.2.2.2.2.2))))))).getD x138.toNat D52).1, (((x136.set x138.toNat (x137, (y190, ((wr ((wr (x137 + (1 : Int))) + (1 : Int))), ((wr ((wr ((wr (x137 + (1 : Int))) + (1 : Int))) + (1 : Int))), ((x136.getD x138.toNat D52).2.2.2.2.1, ((x136.getD x138.toNat D52).2.2.2.2.2.1, (x136.getD x138.toNat D52).2.2.2.2.2.2))))))).getD x138.toNat D52).2.1, (((x136.set x138.toNat (x137, (y190, ((wr ((wr (x137 + (1 : Int))) + (1 : Int))), ((wr ((wr ((wr (x137 + (1 : Int))) + (1 : Int))) + (1 : Int))), ((x136.getD x138.toNat D52).2.2.2.2.1, ((x136.getD x138.toNat D52).2.2.2.2.2.1, (x136.getD x138.toNat D52).2.2.2.2.2.2))))))).getD x138.toNat D52).2.2.1, (((x136.set x138.toNat (x137, (y190, ((wr ((wr (x137 + (1 : Int))) + (1 : Int))), ((wr ((wr ((wr (x137 + (1 : Int))) + (1 : Int))) + (1 : Int))), ((x136.getD x138.toNat D52).2.2.2.2.1, ((x136.getD x138.toNat D52).2.2.2.2.2.1, (x136.getD x138.toNat D52).2.2.2.2.2.2))))))).getD x138.toNat D52).2.2.2.1, ((wr ((wr ((wr ((wr (x137 + (1 : Int))) + (1 : Int))) + (1 : Int))) + (1 : Int))), (((x136.set x138.toNat (x137, (y190, ((wr ((wr (x137 + (1 : Int))) + (1 : Int))), ((wr ((wr ((wr (x137 + (1 : Int))) + (1 : Int))) + (1 : Int))), ((x136.getD x138.toNat D52).2.2.2.2.1, ((x136.getD x138.toNat D52).2.2.2.2.2.1, (x136.getD x138.toNat D52).2.2.2.2.2.2))))))).getD x138.toNat D52).2.2.2.2.2.1, ((x136.set x138.toNat (x137, (y190, ((wr ((wr (x137 + (1 : Int))) + (1 : Int))), ((wr ((wr ((wr (x137 + (1 : Int))) + (1 : Int))) + (1 : Int))), ((x136.getD x138.toNat D52).2.2.2.2.1, ((x136.getD x138.toNat D52).2.2.2.2.2.1, (x136.getD x138.toNat D52).2.2.2.2.2.2))))))).getD x138.toNat D52).2.2.2.2.2.2))))))) .dp]⟩ (pu 3 (an g197 (pu 1 (an g198 (tn 0))))) ?_
    rw [show ((x136.set x138.toNat (x137, (y190, ((wr ((wr (x137 + (1 : Int))) + (1 : Int))), ((wr ((wr ((wr (x137 + (1 : Int))) + (1 : Int))) + (1 : Int))), ((x136.getD x138.toNat D52).2.2.2.2.1, ((x136.getD x138.toNat D52).2.2.2.2.2.1, (x136.getD x138.toNat D52).2.2.2.2.2.2))))))).set x138.toNat (((x136.set x138.toNat (x137, (y190, ((wr ((wr (x137 + (1 : Int))) + (1 : Int))), ((wr ((wr ((wr (x137 + (1 : Int))) + (1 : Int))) + (1 : Int))), ((x136.getD x138.toNat D52).2.2.2.2.1, ((x136.getD x138.toNat D52).2.2.2.2.2.1, (x136.getD x138.toNat D52).2.2.2.2.2.2))))))).getD x138.toNat D52).1, (((x136.set x138.toNat (x137, (y190, ((wr ((wr (x137 + (1 : Int))) + (1 : Int))), ((wr ((wr ((wr (x137 + (1 : Int))) + (1 : Int))) + (1 : Int))), ((x136.getD x138.toNat D52).2.2.2.2.1, ((x136.getD x138.toNat D52).2.2.2.2.2.1, (x136.getD x138.toNat D52).2.2.2.2.2.2))))))).getD x138.toNat D52).2.1, (((x136.set x138.toNat (x137, (y190, ((wr ((wr (x137 + (1 : Int))) + (1 : Int))), ((wr ((wr ((wr (x137 + (1 : Int))) + (1 : Int))) + (1 : Int))), ((x136.getD x138.toNat D52).2.2.2.2.1, ((x136.getD x138.toNat D52).2.2.2.2.2.1, (x136.getD x138.toNat D52).2.2.2.2.2.2))))))).getD x138.toNat D52).2.2.1, (((x136.set x138.toNat (x137, (y190, ((wr ((wr (x137 + (1 : Int))) + (1 : Int))), ((wr ((wr ((wr (x137 + (1 : Int))) + (1 : Int))) + (1 : Int))), ((x136.getD x138.toNat D52).2.2.2.2.1, ((x136.getD x138.toNat D52).2.2.2.2.2.1, (x136.getD x138.toNat D52).2.2.2.2.2.2))))))).getD x138.toNat D52).2.2.2.1, ((wr ((wr ((wr ((wr (x137 + (1 : Int))) + (1 : Int))) + (1 : Int))) + (1 : Int))), (((x136.set x138.toNat (x137, (y190, ((wr ((wr (x137 + (1 : Int))) + (1 : Int))), ((wr ((wr ((wr (x137 + (1 : Int))) + (1 : Int))) + (1 : Int))), ((x136.getD x138.toNat D52).2.2.2.2.1, ((x136.getD x138.toNat D52).2.2.2.2.2.1, (x136.getD x138.toNat D52).2.2.2.2.2.2))))))).getD x138.toNat D52).2.2.2.2.2.1, ((x136.set x138.toNat (x137, (y190, ((wr ((wr (x137 + (1 : Int))) + (1 : Int))), ((wr ((wr ((wr (x137 + (1 : Int))) + (1 : Int))) + (1 : Int))), ((x136.getD x138.toNat D52).2.2.2.2.1, ((x136.getD x138.toNat D52).2.2.2.2.2.1, (x136.getD x138.toNat D52).2.2.2.2.2.2))))))).getD x138.toNat D52).2.2.2.2.2.2))))))) = (x136.set x138.toNat (x137, (y190, ((wr ((wr (x137 + (1 : Int))) + (1 : Int))), ((wr ((wr ((wr (x137 + (1 : Int))) + (1 : Int))) + (1 : Int))), ((wr ((wr ((wr ((wr (x137 + (1 : Int))) + (1 : Int))) + (1 : Int))) + (1 : Int))), ((x136.getD x138.toNat D52).2.2.2.2.2.1, (x136.getD x138.toNat D52).2.2.2.2.2.2))))))) from set_upd x136 x138.toNat (x137, (y190, ((wr ((wr (x137 + (1 : Int))) + (1 : Int))), ((wr ((wr ((wr (x137 + (1 : Int))) + (1 : Int))) + (1 : Int))), ((x136.getD x138.toNat D52).2.2.2.2.1, ((x136.getD x138.toNat D52).2.2.2.2.2.1, (x136.getD x138.toNat D52).2.2.2.2.2.2)))))) D52 (fun z => (z.1, (z.2.1, (z.2.2.1, (z.2.2.2.1, ((wr ((wr ((wr ((wr (x137 + (1 : Int))) + (1 : Int))) + (1 : Int))) + (1 : Int))), (z.2.2.2.2.2.1, z.2.2.2.2.2.2))))))) (by first | (simp; done) | simpa using g198)]
    refine sN K [0, 1, 5, 65536] [0] ⟨[(0, hh 0), (1, I (wr ((wr ((wr ((wr (x137 + (1 : Int))) + (1 : Int))) + (1 : Int))) + (1 : Int)))), (5, I x138), (65536, hh 0)], [ar 0 Y52 (x136.set x138.toNat (x137, (y190, ((wr ((wr (x137 + (1 : Int))) + (1 : Int))), ((wr ((wr ((wr (x137 + (1 : Int))) + (1 : Int))) + (1 : Int))), ((wr ((wr ((wr ((wr (x137 + (1 : Int))) + (1 : Int))) + (1 : Int))) + (1 : Int))), ((x136.getD x138.toNat D52).2.2.2.2.2.1, (x136.getD x138.toNat D52).2.2.2.2.2.2))))))) .dp]⟩ (tn 0) ?_
    refine nR K (tn 3) <| sq <| VW.region ?_
    obtain⟨g199,h⟩:=gS h
    obtain⟨g200,h⟩:=gS h
    refine sG K 8 [0, 1, 5, 65536] [0] ⟨[(0, hh 0), (1, I (wr ((wr ((wr ((wr ((wr (x137 + (1 : Int))) + (1 : Int))) + (1 : Int))) + (1 : Int))) + (1 : Int)))), (5, I x138), (65536, hh 0)], [ar 0 Y52 ((x136.set x138.toNat (x137, (y190, ((wr ((wr (x137 + (1 : Int))) + (1 : Int))), ((wr ((wr ((wr (x137 + (1 : Int))) + (1 : Int))) + (1 : Int))), ((wr ((wr ((wr ((wr (x137 + (1 : Int))) + (1 : Int))) + (1 : Int))) + (1 : Int))), ((x136.getD x138.toNat D52).2.2.2.2.2.1, (x136.getD x138.toNat D52).2.2.2.2.2.2))))))).set x138.toNat (((x136.set x138.toNat (x137, (y190, ((wr ((wr (x137 + (1 : Int))) + (1 : Int))), ((wr ((wr ((wr (x137 + (1 : Int))) + (1 : Int))) + (1 : Int))), ((wr ((wr ((wr ((wr (x137 + (1 : Int))) + (1 : Int))) + (1 : Int))) + (1 : Int))), ((x136.getD x138.toNat D52).2.2.2.2.2.1, (x136.getD x138.toNat D52).2.2.2.2.2.2))))))).getD x138.toNat D52).1, (((x136.set x138.toNat (x137, (y190, ((wr ((wr (x137 + (1 : Int))) + (1 : Int))), ((wr ((wr ((wr (x137 + (1 : Int))) + (1 : Int))) + (1 : Int))), ((wr ((wr ((wr ((wr (x137 + (1 : Int))) + (1 : Int))) + (1 : Int))) + (1 : Int))), ((x136.getD x138.toNat D52).2.2.2.2.2.1, (x136.getD x138.toNat D52).2.2.2.2.2.2))))))).getD x138.toNat D52).2.1, (((x136.set x138.toNat (x137, (y190, ((wr ((wr (x137 + (1 : Int))) + (1 : Int))), ((wr ((wr ((wr (x137 + (1 : Int))) + (1 : Int))) + (1 : Int))), ((wr ((wr ((wr ((wr (x137 + (1 : Int))) + (1 : Int))) + (1 : Int))) + (1 : Int))), ((x136.getD x138.toNat D52).2.2.2.2.2.1, (x136.getD x138.toNat D52).2.2.2.2.2.2))))))).getD x138.toNat D52).2.2.1, (((x136.set x138.toNat (x137, (y190, ((wr ((wr (x137 + (1 : Int))) + (1 : Int))), ((wr ((wr ((wr (x137 + (1 : Int))) + (1 : Int))) + (1 : Int))), ((wr ((wr ((wr ((wr (x137 + (1 : Int))) + (1 : Int))) + (1 : Int))) + (1 : Int))), ((x136.getD x138.toNat D52).2.2.2.2.2.1, (x136.getD x138.toNat D52).2.2.2.2.2.2))))))).getD x138.toNat D52).2.2.2.1, (((x136.set x138.toNat (x137, (y190, ((wr ((wr (x137 + (1 : Int))) + (1 : Int))), ((wr ((wr ((wr (x137 + (1 : Int))) + (1 : Int))) + (1 : Int))), ((wr ((wr ((wr ((wr (x137 + (1 : Int))) + (1 : Int))) + (1 : Int))) + (1 : Int))), ((x136.getD x138.toNat D52).2.2.2.2.2.1, (x136.getD x138.toNat D52).2.2.2.2.2.2))))))).getD x138.toNat D52).2.2.2.2.1, (((Int.tmod (wr ((wr ((wr ((wr ((wr (x137 + (1 : Int))) + (1 : Int))) + (1 : Int))) + (1 : Int))) + (1 : Int))) (3 : Int)) == (0 : Int)), ((x136.set x138.toNat (x137, (y190, ((wr ((wr (x137 + (1 : Int))) + (1 : Int))), ((wr ((wr ((wr (x137 + (1 : Int))) + (1 : Int))) + (1 : Int))), ((wr ((wr ((wr ((wr (x137 + (1 : Int))) + (1 : Int))) + (1 : Int))) + (1 : Int))), ((x136.getD x138.toNat D52).2.2.2.2.2.1, (x136.getD x138.toNat D52).2.2.2.2.2.2))))))).getD x138.toNat D52).2.2.2.2.2.2))))))) .dp]⟩ (pu 3 (an (show ((3 : Int) ≠ 0) from by decide) (pu 1 (an g199 (pu 1 (an g200 (tn 0))))))) ?_
    rw [show ((x136.set x138.toNat (x137, (y190, ((wr ((wr (x137 + (1 : Int))) + (1 : Int))), ((wr ((wr ((wr (x137 + (1 : Int))) + (1 : Int))) + (1 : Int))), ((wr ((wr ((wr ((wr (x137 + (1 : Int))) + (1 : Int))) + (1 : Int))) + (1 : Int))), ((x136.getD x138.toNat D52).2.2.2.2.2.1, (x136.getD x138.toNat D52).2.2.2.2.2.2))))))).set x138.toNat (((x136.set x138.toNat (x137, (y190, ((wr ((wr (x137 + (1 : Int))) + (1 : Int))), ((wr ((wr ((wr (x137 + (1 : Int))) + (1 : Int))) + (1 : Int))), ((wr ((wr ((wr ((wr (x137 + (1 : Int))) + (1 : Int))) + (1 : Int))) + (1 : Int))), ((x136.getD x138.toNat D52).2.2.2.2.2.1, (x136.getD x138.toNat D52).2.2.2.2.2.2))))))).getD x138.toNat D52).1, (((x136.set x138.toNat (x137, (y190, ((wr ((wr (x137 + (1 : Int))) + (1 : Int))), ((wr ((wr ((wr (x137 + (1 : Int))) + (1 : Int))) + (1 : Int))), ((wr ((wr ((wr ((wr (x137 + (1 : Int))) + (1 : Int))) + (1 : Int))) + (1 : Int))), ((x136.getD x138.toNat D52).2.2.2.2.2.1, (x136.getD x138.toNat D52).2.2.2.2.2.2))))))).getD x138.toNat D52).2.1, (((x136.set x138.toNat (x137, (y190, ((wr ((wr (x137 + (1 : Int))) + (1 : Int))), ((wr ((wr ((wr (x137 + (1 : Int))) + (1 : Int))) + (1 : Int))), ((wr ((wr ((wr ((wr (x137 + (1 : Int))) + (1 : Int))) + (1 : Int))) + (1 : Int))), ((x136.getD x138.toNat D52).2.2.2.2.2.1, (x136.getD x138.toNat D52).2.2.2.2.2.2))))))).getD x138.toNat D52).2.2.1, (((x136.set x138.toNat (x137, (y190, ((wr ((wr (x137 + (1 : Int))) + (1 : Int))), ((wr ((wr ((wr (x137 + (1 : Int))) + (1 : Int))) + (1 : Int))), ((wr ((wr ((wr ((wr (x137 + (1 : Int))) + (1 : Int))) + (1 : Int))) + (1 : Int))), ((x136.getD x138.toNat D52).2.2.2.2.2.1, (x136.getD x138.toNat D52).2.2.2.2.2.2))))))).getD x138.toNat D52).2.2.2.1, (((x136.set x138.toNat (x137, (y190, ((wr ((wr (x137 + (1 : Int))) + (1 : Int))), ((wr ((wr ((wr (x137 + (1 : Int))) + (1 : Int))) + (1 : Int))), ((wr ((wr ((wr ((wr (x137 + (1 : Int))) + (1 : Int))) + (1 : Int))) + (1 : Int))), ((x136.getD x138.toNat D52).2.2.2.2.2.1, (x136.getD x138.toNat D52).2.2.2.2.2.2))))))).getD x138.toNat D52).2.2.2.2.1, (((Int.tmod (wr ((wr ((wr ((wr ((wr (x137 + (1 : Int))) + (1 : Int))) + (1 : Int))) + (1 : Int))) + (1 : Int))) (3 : Int)) == (0 : Int)), ((x136.set x138.toNat (x137, (y190, ((wr ((wr (x137 + (1 : Int))) + (1 : Int))), ((wr ((wr ((wr (x137 + (1 : Int))) + (1 : Int))) + (1 : Int))), ((wr ((wr ((wr ((wr (x137 + (1 : Int))) + (1 : Int))) + (1 : Int))) + (1 : Int))), ((x136.getD x138.toNat D52).2.2.2.2.2.1, (x136.getD x138.toNat D52).2.2.2.2.2.2))))))).getD x138.toNat D52).2.2.2.2.2.2))))))) = (x136.set x138.toNat (x137, (y190, ((wr ((wr (x137 + (1 : Int))) + (1 : Int))), ((wr ((wr ((wr (x137 + (1 : Int))) + (1 : Int))) + (1 : Int))), ((wr ((wr ((wr ((wr (x137 + (1 : Int))) + (1 : Int))) + (1 : Int))) + (1 : Int))), (((Int.tmod (wr ((wr ((wr ((wr ((wr (x137 + (1 : Int))) + (1 : Int))) + (1 : Int))) + (1 : Int))) + (1 : Int))) (3 : Int)) == (0 : Int)), (x136.getD x138.toNat D52).2.2.2.2.2.2))))))) from set_upd x136 x138.toNat (x137, (y190, ((wr ((wr (x137 + (1 : Int))) + (1 : Int))), ((wr ((wr ((wr (x137 + (1 : Int))) + (1 : Int))) + (1 : Int))), ((wr ((wr ((wr ((wr (x137 + (1 : Int))) + (1 : Int))) + (1 : Int))) + (1 : Int))), ((x136.getD x138.toNat D52).2.2.2.2.2.1, (x136.getD x138.toNat D52).2.2.2.2.2.2)))))) D52 (fun z => (z.1, (z.2.1, (z.2.2.1, (z.2.2.2.1, (z.2.2.2.2.1, (((Int.tmod (wr ((wr ((wr ((wr ((wr (x137 + (1 : Int))) + (1 : Int))) + (1 : Int))) + (1 : Int))) + (1 : Int))) (3 : Int)) == (0 : Int)), z.2.2.2.2.2.2))))))) (by first | (simp; done) | simpa using g200)]
    refine sN K [0, 1, 5, 65536] [0] ⟨[(0, hh 0), (1, I (wr ((wr ((wr ((wr ((wr (x137 + (1 : Int))) + (1 : Int))) + (1 : Int))) + (1 : Int))) + (1 : Int)))), (5, I x138), (65536, hh 0)], [ar 0 Y52 (x136.set x138.toNat (x137, (y190, ((wr ((wr (x137 + (1 : Int))) + (1 : Int))), ((wr ((wr ((wr (x137 + (1 : Int))) + (1 : Int))) + (1 : Int))), ((wr ((wr ((wr ((wr (x137 + (1 : Int))) + (1 : Int))) + (1 : Int))) + (1 : Int))), (((Int.tmod (wr ((wr ((wr ((wr ((wr (x137 + (1 : Int))) + (1 : Int))) + (1 : Int))) + (1 : Int))) + (1 : Int))) (3 : Int)) == (0 : Int)), (x136.getD x138.toNat D52).2.2.2.2.2.2))))))) .dp]⟩ (tn 0) ?_
    refine nR K (tn 3) <| VW.region ?_
    obtain⟨g201,h⟩:=gS h
    refine nG K 4 (pu 2 (an g201 (tn 1))) ?_
    obtain⟨g203,h⟩:=gS h
    obtain⟨y202,hy,h⟩:=aS h
    refine VO.lendInS (t := 44) (d1 := 61) (d2 := 62) (d3 := 63) (id := 0) (cur := 0) (i := x138.toNat) (j := 6) (v2 := I (wr ((wr ((wr ((wr ((wr ((wr (x137 + (1 : Int))) + (1 : Int))) + (1 : Int))) + (1 : Int))) + (1 : Int))) + (1 : Int)))) (f := 25) (l := [I (wr ((wr ((wr ((wr ((wr ((wr (x137 + (1 : Int))) + (1 : Int))) + (1 : Int))) + (1 : Int))) + (1 : Int))) + (1 : Int)))]) (e := Y52) (t' := (.int .i64)) (X := x136) (c := (x137, (y190, ((wr ((wr (x137 + (1 : Int))) + (1 : Int))), ((wr ((wr ((wr (x137 + (1 : Int))) + (1 : Int))) + (1 : Int))), ((wr ((wr ((wr ((wr (x137 + (1 : Int))) + (1 : Int))) + (1 : Int))) + (1 : Int))), (((Int.tmod (wr ((wr ((wr ((wr ((wr (x137 + (1 : Int))) + (1 : Int))) + (1 : Int))) + (1 : Int))) + (1 : Int))) (3 : Int)) == (0 : Int)), (x136.getD x138.toNat D52).2.2.2.2.2.2))))))) (ys := ((x136.getD x138.toNat D52).2.2.2.2.2.2)) (ys' := y202.1) (x' := (x137, (y190, ((wr ((wr (x137 + (1 : Int))) + (1 : Int))), ((wr ((wr ((wr (x137 + (1 : Int))) + (1 : Int))) + (1 : Int))), ((wr ((wr ((wr ((wr (x137 + (1 : Int))) + (1 : Int))) + (1 : Int))) + (1 : Int))), (((Int.tmod (wr ((wr ((wr ((wr ((wr (x137 + (1 : Int))) + (1 : Int))) + (1 : Int))) + (1 : Int))) + (1 : Int))) (3 : Int)) == (0 : Int)), y202.1))))))) (rs := [.lf (.v (.int .i64) y202.2)]) (v1 := 0) K (by kernel_rfl) (by kernel_rfl) (by kernel_rfl) (by kernel_rfl) (by kernel_rfl) g203 (ok25 N _ _ hy) rfl ?_
    refine nN K (tn 1) <| nE K (tn 3) ?_
    exact aro [.ren [0, 1, 5, 65536] [0]] ⟨(x136.set x138.toNat (x137, (y190, ((wr ((wr (x137 + (1 : Int))) + (1 : Int))), ((wr ((wr ((wr (x137 + (1 : Int))) + (1 : Int))) + (1 : Int))), ((wr ((wr ((wr ((wr (x137 + (1 : Int))) + (1 : Int))) + (1 : Int))) + (1 : Int))), (((Int.tmod (wr ((wr ((wr ((wr ((wr (x137 + (1 : Int))) + (1 : Int))) + (1 : Int))) + (1 : Int))) + (1 : Int))) (3 : Int)) == (0 : Int)), y202.1))))))), y202.2, (wr (x138 + (1 : Int))), rfl, h⟩
   refine VW.exit ?_
   exact arv [.ren [1, 65536] [0]] ⟨x137, x136, rfl, h⟩
 rintro s ⟨x101, x102, rfl, h⟩
 unfold F19_j0 at h
 refine nR K (tn 2) ?_
 replace h := Option.some.inj h
 subst h
 refine VW.ghl [.ren [4, 65536] [0]] (VW.ret ?_)
 exact ⟨[], by kernel_rfl, by kernel_rfl, by kernel_rfl⟩
def F26_j0 (N : Nat) (x16 : Int) : Option (Int) :=
  some x16
def F26_l0_b (N : Nat) (a0 : (List Int)) (nx28 : Int → Int → Option (Int)) (x22 : Int) (x23 : Int) : Option (Int) :=
  cond (decide (x23 < (a0.length : Int))) (gd (InR x23 a0.length) (cond ((a0.getD x23.toNat (Ty.dflt (.int .i64))) != x22) (some (-1 : Int)) (nx28 (IntKind.i64.wrap (x22 + (1 : Int))) (IntKind.i64.wrap (x23 + (1 : Int)))))) (F26_j0 N x22)
def F26_l0 (N : Nat) (a0 : (List Int)) := loopF (F26_l0_b N a0) (fun _ _ => none)
theorem F26_l0_s N a0 {k} (hk : 0 < k) x22 x23 : F26_l0 N a0 k x22 x23 = F26_l0_b N a0 (F26_l0 N a0 (k - 1)) x22 x23 := by cases k;cases hk;rfl
def F26 (N : Nat) (a0 : (List Int)) (a1 : Int) : Option (Int) :=
  F26_l0 N a0 N a1 (0 : Int)
theorem ok26 N a0 a1 {r} (h : F26 N a0 a1 = some r) : Con prog 26 [Vv (.sl (.int .i64)) a0, I a1] [.lf (.v (.int .i64) r)] := by
 refine ctr [.lf (.v (.int .i64))] K func26 rfl fun w0 E0 ht => ?_
 unfold F26 at h
 show VW _ _ _ _ _ (retQ _ _ _ _) _
 refine nR K (tn 1) ?_
 refine VW.join (fun s => ∃ x16, s = ⟨[(1, I x16)], []⟩ ∧ F26_j0 N x16 = some r) ?_ ?_
 ·refine nR K (tn 1) <| VW.block <| lop (fun k s => ∃ x22 x23, s = ⟨[(0, Vv (.sl (.int .i64)) a0), (1, I x22), (5, I x23)], []⟩ ∧ F26_l0 N a0 k x22 x23 = some r) N [.ren [0, 1, 5] []] ⟨a1, (0 : Int), rfl, h⟩ ?_
  rintro k28 s ⟨x22, x23, rfl, h⟩
  cases k28 with
  | zero => cases show none = some r from h
  | succ k28 =>
   replace h : F26_l0_b N a0 (F26_l0 N a0 k28) x22 x23 = some r := h
   unfold F26_l0_b at h
   refine sq <| nR K (tn 4) ?_
   refine cnd h ?_ ?_<;>intro h
   ·refine VW.skip <| sq <| VW.block <| sq ?_
    obtain⟨g32,h⟩:=gS h
    refine nR K (pu 2 (an g32 (tn 3))) ?_
    refine cnd h ?_ ?_<;>intro h
    ·refine nR K (tn 1) ?_
     cases h; exact VW.ret (rt [])
    refine VW.skip <| nE K (tn 3) <| nE K (tn 3) ?_
    exact aro [.ren [0, 1, 5] []] ⟨(wr (x22 + (1 : Int))), (wr (x23 + (1 : Int))), rfl, h⟩
   refine VW.exit ?_
   exact arv [.ren [1] []] ⟨x22, rfl, h⟩
 rintro s ⟨x16, rfl, h⟩
 unfold F26_j0 at h
 refine nR K (tn 2) ?_
 cases h; exact VW.ret (rt [])
def F22_j0 (N : Nat) (x18 : (List Int)) : Option ((List Int)) :=
  some x18
def F22_l0_b (N : Nat) (a0 : (List Z49)) (a1 : (List (List (List Int)))) (a2 : (List Z52)) (nx30 : (List Int) → Int → Option ((List Int))) (x24 : (List Int)) (x25 : Int) : Option ((List Int)) :=
  cond (decide (x25 < (a2.length : Int))) (andO (F32 N a0 a1 a2 x25) fun y33 => gd (x24.length + ([(y33.1.length : Int)]).length ≤ lim (.int .i64)) (nx30 (x24 ++ ([(y33.1.length : Int)])) (IntKind.i64.wrap (x25 + (1 : Int))))) (F22_j0 N x24)
def F22_l0 (N : Nat) (a0 : (List Z49)) (a1 : (List (List (List Int)))) (a2 : (List Z52)) := loopF (F22_l0_b N a0 a1 a2) (fun _ _ => none)
theorem F22_l0_s N a0 a1 a2 {k} (hk : 0 < k) x24 x25 : F22_l0 N a0 a1 a2 k x24 x25 = F22_l0_b N a0 a1 a2 (F22_l0 N a0 a1 a2 (k - 1)) x24 x25 := by cases k;cases hk;rfl
def F22 (N : Nat) (a0 : (List Z49)) (a1 : (List (List (List Int)))) (a2 : (List Z52)) : Option ((List Int)) :=
  andO (F8 N a0 a1 a2) fun y2 => cond (y2.2 != (0 : Int)) (some ([])) (F22_l0 N a0 a1 a2 N ([]) (0 : Int))
theorem ok22 N a0 a1 a2 {r} (h : F22 N a0 a1 a2 = some r) : Con prog 22 [Vv (.sl Y49) a0, Vv (.sl (.sl (.sl (.int .i64)))) a1, Vv (.sl Y52) a2] [.lf (.own (.int .i64) r .dp)] := by
 refine ctr [.lf (.own (.int .i64) .dp)] K func22 rfl fun w0 E0 ht => ?_
 unfold F22 at h
 show VW _ _ _ _ _ (retQ _ _ _ _) _
 refine nR K (tn 1) <| nR K (tn 2) <| sq <| sq <| VW.region <| nG K 3 (tn 3) ?_
 obtain⟨y2,hy,h⟩:=aS h
 refine clc false [.t (.sl Y49), .t (.sl (.sl (.sl (.int .i64)))), .t (.sl Y52)] [] (some 18) K (ok8 N _ _ _ hy) <| nN K (tn 5) <| nR K (tn 2) ?_
 refine cnd h ?_ ?_<;>intro h
 ·refine nR K (tn 1) ?_
  cases h; exact VW.ret (rt [none])
 refine VW.skip ?_
 refine VW.join (fun s => ∃ x18, s = ⟨[(7, hh 0)], [ar 0 (.int .i64) x18 .dp]⟩ ∧ F22_j0 N x18 = some r) ?_ ?_
 ·refine nR K (tn 1) <| VW.block <| lop (fun k s => ∃ x24 x25, s = ⟨[(0, Vv (.sl Y49) a0), (1, Vv (.sl (.sl (.sl (.int .i64)))) a1), (2, Vv (.sl Y52) a2), (7, hh 0), (10, I x25)], [ar 0 (.int .i64) x24 .dp]⟩ ∧ F22_l0 N a0 a1 a2 k x24 x25 = some r) N [.nilS 7 (.int .i64) .dp, .ren [0, 1, 2, 7, 10] [1]] ⟨[], (0 : Int), rfl, h⟩ ?_
  rintro k30 s ⟨x24, x25, rfl, h⟩
  cases k30 with
  | zero => cases show none = some r from h
  | succ k30 =>
   replace h : F22_l0_b N a0 a1 a2 (F22_l0 N a0 a1 a2 k30) x24 x25 = some r := h
   unfold F22_l0_b at h
   refine sq <| nR K (tn 4) ?_
   refine cnd h ?_ ?_<;>intro h
   ·refine VW.skip <| sq <| VW.block <| sq <| VW.region <| nG K 4 (tn 4) ?_
    obtain⟨y33,hy,h⟩:=aS h
    refine clc false [.t (.sl Y49), .t (.sl (.sl (.sl (.int .i64)))), .t (.sl Y52), .t (.int .i64)] [] (some 34) K (ok32 N _ _ _ _ hy) <| nN K (tn 5) ?_
    obtain⟨g34,h⟩:=gS h
    refine nE K (pu 4 (an g34 (tn 1))) <| nE K (tn 3) ?_
    exact aro [.ren [0, 1, 2, 7, 10] [0]] ⟨(x24 ++ ([(y33.1.length : Int)])), (wr (x25 + (1 : Int))), rfl, h⟩
   refine VW.exit ?_
   exact arv [.ren [7] [0]] ⟨x24, rfl, h⟩
 rintro s ⟨x18, rfl, h⟩
 unfold F22_j0 at h
 refine nR K (tn 2) ?_
 cases h; exact VW.ret (rt [some 0])
def F23_j0 (N : Nat) (x20 : (List Int)) : Option ((List Int)) :=
  some x20
def F23_l0_b (N : Nat) (a0 : (List Z49)) (a1 : (List (List (List Int)))) (a2 : (List Z52)) (nx34 : (List Int) → Int → Int → Option ((List Int))) (x27 : (List Int)) (x28 : Int) (x29 : Int) : Option ((List Int)) :=
  cond (decide (x29 < x28)) (andO (F40 N a0 a1 a2 x29) fun y37 => gd (x27.length + ([(y37.1.length : Int)]).length ≤ lim (.int .i64)) (nx34 (x27 ++ ([(y37.1.length : Int)])) x28 (IntKind.i64.wrap (x29 + (1 : Int))))) (F23_j0 N x27)
def F23_l0 (N : Nat) (a0 : (List Z49)) (a1 : (List (List (List Int)))) (a2 : (List Z52)) := loopF (F23_l0_b N a0 a1 a2) (fun _ _ _ => none)
theorem F23_l0_s N a0 a1 a2 {k} (hk : 0 < k) x27 x28 x29 : F23_l0 N a0 a1 a2 k x27 x28 x29 = F23_l0_b N a0 a1 a2 (F23_l0 N a0 a1 a2 (k - 1)) x27 x28 x29 := by cases k;cases hk;rfl
def F23 (N : Nat) (a0 : (List Z49)) (a1 : (List (List (List Int)))) (a2 : (List Z52)) : Option ((List Int)) :=
  andO (F12 N a0 a1 a2) fun y2 => cond (y2.2 != (0 : Int)) (some ([])) (F23_l0 N a0 a1 a2 N ([]) (a2.length : Int) (0 : Int))
theorem ok23 N a0 a1 a2 {r} (h : F23 N a0 a1 a2 = some r) : Con prog 23 [Vv (.sl Y49) a0, Vv (.sl (.sl (.sl (.int .i64)))) a1, Vv (.sl Y52) a2] [.lf (.own (.int .i64) r .dp)] := by
 refine ctr [.lf (.own (.int .i64) .dp)] K func23 rfl fun w0 E0 ht => ?_
 unfold F23 at h
 show VW _ _ _ _ _ (retQ _ _ _ _) _
 refine nR K (tn 1) <| sq <| sq <| VW.region <| nG K 3 (tn 3) ?_
 obtain⟨y2,hy,h⟩:=aS h
 refine clc false [.t (.sl Y49), .t (.sl (.sl (.sl (.int .i64)))), .t (.sl Y52)] [] (some 17) K (ok12 N _ _ _ hy) <| nN K (tn 5) <| nR K (tn 2) ?_
 refine cnd h ?_ ?_<;>intro h
 ·refine nR K (tn 1) ?_
  cases h; exact VW.ret (rt [none])
 refine VW.skip <| nR K (tn 1) ?_
 refine VW.join (fun s => ∃ x20, s = ⟨[(9, hh 0)], [ar 0 (.int .i64) x20 .dp]⟩ ∧ F23_j0 N x20 = some r) ?_ ?_
 ·refine nR K (tn 3) <| VW.block <| lop (fun k s => ∃ x27 x28 x29, s = ⟨[(0, Vv (.sl Y49) a0), (1, Vv (.sl (.sl (.sl (.int .i64)))) a1), (2, Vv (.sl Y52) a2), (9, hh 0), (23, I x28), (24, I x29)], [ar 0 (.int .i64) x27 .dp]⟩ ∧ F23_l0 N a0 a1 a2 k x27 x28 x29 = some r) N [.nilS 9 (.int .i64) .dp, .ren [0, 1, 2, 9, 23, 24] [1]] ⟨[], (a2.length : Int), (0 : Int), rfl, h⟩ ?_
  rintro k34 s ⟨x27, x28, x29, rfl, h⟩
  cases k34 with
  | zero => cases show none = some r from h
  | succ k34 =>
   replace h : F23_l0_b N a0 a1 a2 (F23_l0 N a0 a1 a2 k34) x27 x28 x29 = some r := h
   unfold F23_l0_b at h
   refine nR K (tn 1) <| sq ?_
   refine cnd h ?_ ?_<;>intro h
   ·refine VW.skip <| sq <| VW.block <| nR K (tn 2) <| sq <| VW.region <| nG K 4 (tn 4) ?_
    obtain⟨y37,hy,h⟩:=aS h
    refine clc false [.t (.sl Y49), .t (.sl (.sl (.sl (.int .i64)))), .t (.sl Y52), .t (.int .i64)] [] (some 32) K (ok40 N _ _ _ _ hy) <| nN K (tn 5) ?_
    obtain⟨g38,h⟩:=gS h
    refine nE K (pu 4 (an g38 (tn 1))) <| nE K (tn 2) ?_
    exact aro [.ren [0, 1, 2, 9, 23, 24] [0]] ⟨(x27 ++ ([(y37.1.length : Int)])), x28, (wr (x29 + (1 : Int))), rfl, h⟩
   refine VW.exit ?_
   exact arv [.ren [9] [0]] ⟨x27, rfl, h⟩
 rintro s ⟨x20, rfl, h⟩
 unfold F23_j0 at h
 refine nR K (tn 2) ?_
 cases h; exact VW.ret (rt [some 0])
def F4 (N : Nat) (a0 : (List Z49)) (a1 : (List (List (List Int)))) (a2 : (List Z52)) : Option (Bool) :=
  andO (F5 N a0 (1048576 : Int)) fun y1 => cond (decide (y1 < (0 : Int))) (some true) (andO (F6 N a1 y1) fun y2 => cond (decide (y2 < (0 : Int))) (some true) (andO (F7 N a2 y2) fun y3 => cond (decide (y3 < (0 : Int))) (some true) (andO (F9 N a0) fun y4 => andO (F10 N a1) fun y5 => andO (F11 N a2) fun y6 => andO (F22 N y4 y5 y6) fun y7 => andO (F9 N a0) fun y8 => andO (F10 N a1) fun y9 => andO (F11 N a2) fun y10 => andO (F23 N y8 y9 y10) fun y11 => andO (F24 N y11 y7) fun y13 => cond (!y13) (some false) (andO (F9 N a0) fun y16 => andO (F14 N y8 y16) fun y17 => cond (!y17) (some false) (andO (F10 N a1) fun y20 => andO (F15 N y9 y20) fun y21 => cond (!y21) (some false) (andO (F11 N a2) fun y24 => andO (F16 N y10 y24) fun y25 => cond (!y25) (some false) (andO (F17 N y8 (1 : Int)) fun y26 => andO (F18 N y9 y26.2) fun y27 => andO (F19 N y10 y27.2) fun y28 => cond (decide (y28.2 < (0 : Int))) (some false) (andO (F24 N y11 y7) fun y30 => cond (!y30) (some false) (andO (F25 N y11 (1 : Int)) fun y31 => andO (F26 N y31.1 (1 : Int)) fun y32 => cond (decide (y32 < (0 : Int))) (some false) (cond (y32 != y31.2) (some false) (andO (F9 N a0) fun y33 => andO (F10 N a1) fun y34 => andO (F11 N a2) fun y35 => andO (F23 N y33 y34 y35) fun y36 => andO (F24 N y36 y7) fun y38 => cond (!y38) (some false) (andO (F26 N y31.1 (1 : Int)) fun y39 => cond (decide (y39 < (0 : Int))) (some false) (cond (y39 != y31.2) (some false) (some true))))))))))))))
theorem ok4 N a0 a1 a2 {r} (h : F4 N a0 a1 a2 = some r) : Con prog 4 [Vv (.sl Y49) a0, Vv (.sl (.sl (.sl (.int .i64)))) a1, Vv (.sl Y52) a2] [.lf (.v .bool r)] := by
 refine ctr [.lf (.v .bool)] K func4 rfl fun w0 E0 ht => ?_
 unfold F4 at h
 show VW _ _ _ _ _ (retQ _ _ _ _) _
 refine nR K (tn 1) <| nR K (tn 1) <| sq <| VW.region <| nG K 2 (tn 2) ?_
 obtain⟨y1,hy,h⟩:=aS h
 refine clc false [.t (.sl Y49), .t (.int .i64)] [] (some 19) K (ok5 N _ _ hy) <| nN K (tn 1) <| sq <| nR K (tn 2) ?_
 refine cnd h ?_ ?_<;>intro h
 ·refine nR K (tn 1) ?_
  cases h; exact VW.ret (rt [])
 refine VW.skip <| sq <| VW.region <| nG K 2 (tn 2) ?_
 obtain⟨y2,hy,h⟩:=aS h
 refine clc false [.t (.sl (.sl (.sl (.int .i64)))), .t (.int .i64)] [] (some 24) K (ok6 N _ _ hy) <| nN K (tn 1) <| sq <| nR K (tn 2) ?_
 refine cnd h ?_ ?_<;>intro h
 ·refine nR K (tn 1) ?_
  cases h; exact VW.ret (rt [])
 refine VW.skip <| sq <| VW.region <| nG K 2 (tn 2) ?_
 obtain⟨y3,hy,h⟩:=aS h
 refine clc false [.t (.sl Y52), .t (.int .i64)] [] (some 29) K (ok7 N _ _ hy) <| nN K (tn 1) <| sq <| nR K (tn 2) ?_
 refine cnd h ?_ ?_<;>intro h
 ·refine nR K (tn 1) ?_
  cases h; exact VW.ret (rt [])
 refine VW.skip <| sq <| VW.region <| nG K 1 (tn 1) ?_
 obtain⟨y4,hy,h⟩:=aS h
 refine clc false [.t (.sl Y49)] [] (some 33) K (ok9 N _ hy) <| sGh K 1 [0, 1, 2, 33, 34] [0] [(0, Vv (.sl Y49) a0), (1, Vv (.sl (.sl (.sl (.int .i64)))) a1), (2, Vv (.sl Y52) a2), (33, hh 0), (34, Vv (.sl (.sl (.sl (.int .i64)))) a1)] (tn 1) ?_
 obtain⟨y5,hy,h⟩:=aS h
 refine clc false [.t (.sl (.sl (.sl (.int .i64))))] [] (some 35) K (ok10 N _ hy) <| nG K 1 (tn 1) ?_
 obtain⟨y6,hy,h⟩:=aS h
 refine clc false [.t (.sl Y52)] [] (some 37) K (ok11 N _ hy) ?_
 obtain⟨y7,hy,h⟩:=aS h
 refine clc true [.t (.sl Y49), .t (.sl (.sl (.sl (.int .i64)))), .t (.sl Y52)] [] (some 38) K (ok22 N _ _ _ hy) <| nN K (tn 1) <| sq <| VW.region <| nG K 1 (tn 1) ?_
 obtain⟨y8,hy,h⟩:=aS h
 refine clc false [.t (.sl Y49)] [] (some 40) K (ok9 N _ hy) <| nN K (tn 1) <| sq <| VW.region <| nG K 1 (tn 1) ?_
 obtain⟨y9,hy,h⟩:=aS h
 refine clc false [.t (.sl (.sl (.sl (.int .i64))))] [] (some 42) K (ok10 N _ hy) <| nN K (tn 1) <| sq <| VW.region <| nG K 1 (tn 1) ?_
 obtain⟨y10,hy,h⟩:=aS h
 refine clc false [.t (.sl Y52)] [] (some 44) K (ok11 N _ hy) <| nN K (tn 1) <| sq <| VW.region <| nG K 3 (tn 3) ?_
 obtain⟨y11,hy,h⟩:=aS h
 refine clc true [.t (.sl Y49), .t (.sl (.sl (.sl (.int .i64)))), .t (.sl Y52)] [] (some 48) K (ok23 N _ _ _ hy) <| nN K (tn 1) <| sq <| sq <| VW.region <| nG K 2 (tn 2) ?_
 obtain⟨y13,hy,h⟩:=aS h
 refine clc true [.t (.sl (.int .i64)), .t (.sl (.int .i64))] [] (some 51) K (ok24 N _ _ hy) <| nN K (tn 1) ?_
 refine cnd h ?_ ?_<;>intro h
 ·refine sR K [6] [] ⟨[(6, B false)], []⟩ (tn 1) ?_
  cases h; exact VW.ret (rt [])
 refine VW.skip <| sq <| sq <| VW.region <| sG K 2 [0, 1, 2, 8, 9, 10, 11, 12, 53, 54] [3, 4, 5, 6, 7] ⟨[(0, Vv (.sl Y49) a0), (1, Vv (.sl (.sl (.sl (.int .i64)))) a1), (2, Vv (.sl Y52) a2), (8, hh 0), (9, hh 1), (10, hh 2), (11, hh 3), (12, hh 4), (53, hh 1), (54, Vv (.sl Y49) a0)], [ar 0 (.int .i64) y7 .dp, ar 0 Y49 y8 .dp, ar 0 (.sl (.sl (.int .i64))) y9 .dp, ar 0 Y52 y10 .dp, ar 0 (.int .i64) y11 .dp]⟩ (tn 2) ?_
 obtain⟨y16,hy,h⟩:=aS h
 refine clc false [.t (.sl Y49)] [] (some 55) K (ok9 N _ hy) ?_
 obtain⟨y17,hy,h⟩:=aS h
 refine clc true [.t (.sl Y49), .t (.sl Y49)] [] (some 56) K (ok14 N _ _ hy) <| nN K (tn 1) ?_
 refine cnd h ?_ ?_<;>intro h
 ·refine nR K (tn 1) ?_
  cases h; exact VW.ret (rt [])
 refine VW.skip <| sq <| sq <| VW.region <| nG K 2 (tn 2) ?_
 obtain⟨y20,hy,h⟩:=aS h
 refine clc false [.t (.sl (.sl (.sl (.int .i64))))] [] (some 60) K (ok10 N _ hy) ?_
 obtain⟨y21,hy,h⟩:=aS h
 refine clc true [.t (.sl (.sl (.sl (.int .i64)))), .t (.sl (.sl (.sl (.int .i64))))] [] (some 61) K (ok15 N _ _ hy) <| nN K (tn 1) ?_
 refine cnd h ?_ ?_<;>intro h
 ·refine nR K (tn 1) ?_
  cases h; exact VW.ret (rt [])
 refine VW.skip <| sq <| sq <| VW.region <| nG K 2 (tn 2) ?_
 obtain⟨y24,hy,h⟩:=aS h
 refine clc false [.t (.sl Y52)] [] (some 65) K (ok11 N _ hy) ?_
 obtain⟨y25,hy,h⟩:=aS h
 refine clc true [.t (.sl Y52), .t (.sl Y52)] [] (some 66) K (ok16 N _ _ hy) <| nN K (tn 1) ?_
 refine cnd h ?_ ?_<;>intro h
 ·refine nR K (tn 1) ?_
  cases h; exact VW.ret (rt [])
 refine VW.skip <| nR K (tn 1) <| sq <| VW.region <| nG K 2 (tn 2) ?_
 obtain⟨y26,hy,h⟩:=aS h
 refine VO.callM [1] [.t (.sl Y49), .t (.int .i64)] (d := some 70) (by kernel_rfl) (by kernel_rfl) (ok17 N _ _ hy) (by kernel_rfl) <| nN K (tn 1) <| sq <| VW.region <| nG K 2 (tn 2) ?_
 obtain⟨y27,hy,h⟩:=aS h
 refine VO.callM [2] [.t (.sl (.sl (.sl (.int .i64)))), .t (.int .i64)] (d := some 73) (by kernel_rfl) (by kernel_rfl) (ok18 N _ _ hy) (by kernel_rfl) <| nN K (tn 1) <| sq <| VW.region <| nG K 2 (tn 2) ?_
 obtain⟨y28,hy,h⟩:=aS h
 refine VO.callM [3] [.t (.sl Y52), .t (.int .i64)] (d := some 76) (by kernel_rfl) (by kernel_rfl) (ok19 N _ _ hy) (by kernel_rfl) <| nN K (tn 1) <| sq <| sq <| VW.region <| sG K 3 [0, 1, 2, 8, 12, 79] [0, 4] ⟨[(0, Vv (.sl Y49) a0), (1, Vv (.sl (.sl (.sl (.int .i64)))) a1), (2, Vv (.sl Y52) a2), (8, hh 0), (12, hh 1), (79, B (decide (y28.2 < (0 : Int))))], [ar 0 (.int .i64) y7 .dp, ar 0 (.int .i64) y11 .dp]⟩ (tn 3) ?_
 refine spC 79 h ?_ ?_<;>intro h
 ·refine nN K (tn 5) ?_
  refine VW.cond (b := true) (by kernel_rfl) (fun _ => ?_) (fun h' => nomatch h')
  refine nR K (tn 1) ?_
  cases h; exact VW.ret (rt [])
 refine nG K 2 (tn 2) <| VO.on (j := 2) (want := false) (d := 79) (b := false) rfl rfl rfl (by kernel_rfl) rfl ?_
 obtain⟨y30,hy,h⟩:=aS h
 refine clc true [.t (.sl (.int .i64)), .t (.sl (.int .i64))] [] (some 82) K (ok24 N _ _ hy) <| nN K (tn 2) ?_
 refine cnd h ?_ ?_<;>intro h
 ·refine nR K (tn 1) ?_
  cases h; exact VW.ret (rt [])
 refine VW.skip <| nR K (tn 1) <| sq <| VW.region <| nG K 2 (tn 2) ?_
 obtain⟨y31,hy,h⟩:=aS h
 refine VO.callM [1] [.t (.sl (.int .i64)), .t (.int .i64)] (d := some 87) (by kernel_rfl) (by kernel_rfl) (ok25 N _ _ hy) (by kernel_rfl) <| nN K (tn 1) <| nR K (tn 1) <| sq <| VW.region <| nG K 2 (tn 2) ?_
 obtain⟨y32,hy,h⟩:=aS h
 refine clc true [.t (.sl (.int .i64)), .t (.int .i64)] [] (some 90) K (ok26 N _ _ hy) <| nN K (tn 1) <| sq <| nR K (tn 2) ?_
 refine cnd h ?_ ?_<;>intro h
 ·refine nR K (tn 1) ?_
  cases h; exact VW.ret (rt [])
 refine VW.skip <| sq <| nR K (tn 3) ?_
 refine cnd h ?_ ?_<;>intro h
 ·refine nR K (tn 1) ?_
  cases h; exact VW.ret (rt [])
 refine VW.skip <| sq <| VW.region <| nG K 1 (tn 1) ?_
 obtain⟨y33,hy,h⟩:=aS h
 refine clc false [.t (.sl Y49)] [] (some 97) K (ok9 N _ hy) <| nG K 1 (tn 1) ?_
 obtain⟨y34,hy,h⟩:=aS h
 refine clc false [.t (.sl (.sl (.sl (.int .i64))))] [] (some 99) K (ok10 N _ hy) <| sGh K 1 [8, 12, 14, 97, 99, 100] [0, 1, 2, 3] [(8, hh 0), (12, hh 1), (14, I y31.2), (97, hh 2), (99, hh 3), (100, Vv (.sl Y52) a2)] (tn 1) ?_
 obtain⟨y35,hy,h⟩:=aS h
 refine clc false [.t (.sl Y52)] [] (some 101) K (ok11 N _ hy) ?_
 obtain⟨y36,hy,h⟩:=aS h
 refine clc true [.t (.sl Y49), .t (.sl (.sl (.sl (.int .i64)))), .t (.sl Y52)] [] (some 102) K (ok23 N _ _ _ hy) <| nN K (tn 1) <| sq <| sq <| VW.region <| nG K 2 (tn 2) ?_
 obtain⟨y38,hy,h⟩:=aS h
 refine clc true [.t (.sl (.int .i64)), .t (.sl (.int .i64))] [] (some 105) K (ok24 N _ _ hy) <| nN K (tn 1) ?_
 refine cnd h ?_ ?_<;>intro h
 ·refine nR K (tn 1) ?_
  cases h; exact VW.ret (rt [])
 refine VW.skip <| nR K (tn 1) <| sq <| VW.region <| nG K 2 (tn 2) ?_
 obtain⟨y39,hy,h⟩:=aS h
 refine clc true [.t (.sl (.int .i64)), .t (.int .i64)] [] (some 109) K (ok26 N _ _ hy) <| nN K (tn 1) <| sq <| nR K (tn 2) ?_
 refine cnd h ?_ ?_<;>intro h
 ·refine nR K (tn 1) ?_
  cases h; exact VW.ret (rt [])
 refine VW.skip <| sq <| nR K (tn 3) ?_
 refine cnd h ?_ ?_<;>intro h
 ·refine nR K (tn 1) ?_
  cases h; exact VW.ret (rt [])
 refine VW.skip <| nR K (tn 1) ?_
 cases h; exact VW.ret (rt [])
end Go.Proofs.YtpaagnjoniiemaaGreat.Vc
