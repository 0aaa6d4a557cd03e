/- What functions of the program compute, and that they do. -/
import Derived.Test.YtmkhmpcealeidaaGreatXc
import Derived.Test.YtmkhmpcealeidaaGreatProg
import Derived.Test.YtmkhmpcealeidaaGreatShelf
namespace Go.Proofs.YtmkhmpcealeidaaGreat.Vc
open Go Go.RowKit Go.Proofs.Tryz
set_option linter.unusedVariables false
set_option maxRecDepth 100000
set_option maxHeartbeats 4000000
theorem lS {σ:Type} {b:σ→σ} {z:σ} {k:Nat} (h:0 < k):loopF b z k=b (loopF b z (k - 1)):=by cases k;cases h;rfl
theorem gT {p q:Prop} [Decidable p] [Decidable q] {α:Type} {x:Option α} {r:α} (h:gd p (gd q x)=some r):p∧q∧x=some r:=by obtain ⟨a,h⟩:=gS h;exact ⟨a,gS h⟩
theorem gU {p q s:Prop} [Decidable p] [Decidable q] [Decidable s] {α:Type} {x:Option α} {r:α} (h:gd p (gd q (gd s x))=some r):p∧q∧s∧x=some r:=by obtain ⟨a,h⟩:=gS h;exact ⟨a,gT h⟩
theorem gV {p q s t:Prop} [Decidable p] [Decidable q] [Decidable s] [Decidable t] {α:Type} {x:Option α} {r:α} (h:gd p (gd q (gd s (gd t x)))=some r):p∧q∧s∧t∧x=some r:=by obtain ⟨a,h⟩:=gS h;exact ⟨a,gU h⟩
theorem gW {p q s t u:Prop} [Decidable p] [Decidable q] [Decidable s] [Decidable t] [Decidable u] {α:Type} {x:Option α} {r:α} (h:gd p (gd q (gd s (gd t (gd u x))))=some r):p∧q∧s∧t∧u∧x=some r:=by obtain ⟨a,h⟩:=gS h;exact ⟨a,gV h⟩
theorem nv {α:Type} {r:α} {P:Prop} (h:none=some r):P:=by cases h
abbrev B0:Ty:= .int .i64
abbrev B1:Ty:= .sl B0
abbrev B2:Ty:= .sl B1
abbrev B3:Ty:= .sl B2
abbrev L1:=List Int
abbrev L2:=List L1
abbrev L3:=List L2
abbrev Y7:Ty:= .pair (.int .i64) (.pair (.int .i64) (.pair .bool (.int .u8)))
abbrev Y13:Ty:= .pair .str (.int .u64)
abbrev Y50:Ty:= .pair (.int .i64) (.pair .str (.pair (.int .i64) (.pair (.int .i64) (.pair (.int .i64) (.pair .bool (.sl (.int .i64)))))))
abbrev Z50:=(Int×(ByteArray×(Int×(Int×(Int×(Bool×(List Int)))))))
abbrev Y84:Ty:= .pair (.sl (.int .u8)) (.pair (.int .i64) (.int .i64))
abbrev Z84:=((List Int)×(Int×Int))
abbrev Y99:Ty:= .pair .str (.int .i64)
abbrev Z99:=(ByteArray×Int)
abbrev D50:(Y50).den:=Ty.dflt Y50
abbrev D99:(Y99).den:=Ty.dflt Y99
def TL:List (Nat×TI):=[(2,{ ty:=(.int .i64) }),
  (3,{ ty:=(.int .i64) }),
  (4,{ ty:= .bool }),
  (5,{ ty:=(.int .u8) }),
  (6,{ ty:=(.int .u8) }),
  (7,{ ty:=Y7,offs:=[0,1,2,3],szs:=[1,1,1,1] }),
  (8,{ ty:=Y7,offs:=[0,1,2,3],szs:=[1,1,1,1] }),
  (9,{ ty:= .str }),
  (10,{ ty:= .str }),
  (11,{ ty:= .str }),
  (12,{ ty:=(.int .u64) }),
  (13,{ ty:=Y13,offs:=[0,1],szs:=[1,1] }),
  (14,{ ty:=Y13,offs:=[0,1],szs:=[1,1] }),
  (21,{ ty:=(.int .i32) }),
  (22,{ ty:=(.sl (.int .u8)),elem:=5 }),
  (24,{ ty:=(.sl Y50),elem:=51 }),
  (26,{ ty:=(.sl (.int .i64)),elem:=3 }),
  (39,{ ty:=(.sl Y99),elem:=100 }),
  (40,{ ty:=(.sl (.sl (.sl (.int .i64)))),elem:=43 }),
  (43,{ ty:=(.sl (.sl (.int .i64))),elem:=26 }),
  (50,{ ty:=Y50,offs:=[0,1,2,3,4,5,6],szs:=[1,1,1,1,1,1,1] }),
  (51,{ ty:=Y50,offs:=[0,1,2,3,4,5,6],szs:=[1,1,1,1,1,1,1] }),
  (84,{ ty:=Y84,offs:=[0,1,2],szs:=[1,1,1] }),
  (85,{ ty:=Y84,offs:=[0,1,2],szs:=[1,1,1] }),
  (90,{ ty:=(.int .u64) }),
  (99,{ ty:=Y99,offs:=[0,1],szs:=[1,1] }),
  (100,{ ty:=Y99,offs:=[0,1],szs:=[1,1] }),
  (103,{ ty:=(.sl .str),elem:=9 }),
  (123,{ ty:=(.int .i64) }),
  (132,{ ty:=(.int .u32) }),
  (134,{ ty:=(.int .u64) }),
  (144,{ ty:=(.sl (.sl Y50)),elem:=24 }),
  (158,{ ty:=(.int .u64) }),
  (164,{ ty:=(.sl (.sl (.int .u8))),elem:=22 }),
  (177,{ ty:=(.int .u8) }),
  (178,{ ty:=(.int .u8) }),
  (181,{ ty:=(.int .i32) }),
  (182,{ ty:=(.int .i32) })]
abbrev T:Tab:=lookT TL
theorem T_ok:TabOk Go.Proofs.Tryz.prog T:=tabOk_of TL (by kernel_rfl)
theorem K:TabOk Go.Proofs.Tryz.prog T:=T_ok
theorem T_rec:RecOk Go.Proofs.Tryz.prog T:=recOk_of TL (by kernel_rfl)
def F5 (N:Nat) (a0:L1):Option (Bool) :=
  some (decide ((a0.length:Int) > (1048576:Int)))
theorem ok5 N a0 {r} (h:F5 N a0=some r):Con prog 5 [Vv (.sl (.int .u8)) a0] [.lf (.v .bool r)]:=by
 refine ctr [.lf (.v .bool)] K func5 rfl fun w0 E0 ht=>?_
 unfold F5 at h
 show VW _ _ _ _ _ (retQ _ _ _ _) _
 refine nR K (tn 1) <| nR K (tn 4) ?_
 cases h;exact VW.ret (rt [])
def F33_j0 (N:Nat) (a0:L1) (a:Int):Option (Z84) :=
  some (a0,((0:Int),a))
def F33_l0_b (N:Nat) (a0:L1) (c:Int→Int→Option (Z84)) (b:Int) (a:Int):Option (Z84) :=
  cond (decide (a < (a0.length:Int))) (cond (decide (a < (4000:Int))) (gd (InR a a0.length) (c (IntKind.i64.wrap (((BitVec.ofInt IntKind.i64.bits (IntKind.i64.wrap ((IntKind.i64.wrap ((IntKind.i64.wrap (b*(149:Int)))+(IntKind.i64.wrap (a0.getD a.toNat (Ty.dflt (.int .u8))))))+(11:Int))) &&& BitVec.ofInt IntKind.i64.bits (1073741823:Int)).toNat:Nat):Int)) (IntKind.i64.wrap (a+(1:Int))))) (F33_j0 N a0 b)) (F33_j0 N a0 b)
def F33_l0 (N:Nat) (a0:L1):=loopF (F33_l0_b N a0) (fun _ _=>none)
theorem F33_l0_s {N a0 k} (hk:0 < k:=by omega):F33_l0 N a0 k=F33_l0_b N a0 (F33_l0 N a0 (k - 1)):=lS hk
def F33 (N:Nat) (a0:L1):Option (Z84) :=
  F33_l0 N a0 N (IntKind.i64.wrap ((844844:Int)+(a0.length:Int))) (0:Int)
theorem ok33 N a0 {r} (h:F33 N a0=some r):ConB prog 33 [Vv (.sl (.int .u8)) a0] [.v (.sl (.int .u8)) r.1, .v B0 r.2.1, .v B0 r.2.2] 85:=by
 refine ⟨enters_of func33 rfl (by decide),by kernel_rfl,HB.intro (d:=2) func33 rfl (Nat.le_of_ble_eq_true rfl) (Nat.le_of_ble_eq_true rfl) rfl (by kernel_rfl) fun w0 E0 ht=>?_⟩
 unfold F33 at h
 show VW _ _ _ _ _ (retB _ _ _) _
 refine nR K (tn 1) <| nR K (tn 4) ?_
 refine VW.join (fun s=>∃e,s=⟨[(0,Vv (.sl (.int .u8)) a0),(3,I e)],[]⟩∧F33_j0 N a0 e=some r) ?_ ?_
 ·refine nR K (tn 1) <| VW.block <| lop (fun k s=>∃a c,s=⟨[(0,Vv (.sl (.int .u8)) a0),(3,I a),(4,I c)],[]⟩∧F33_l0 N a0 k a c=some r) N [.ren [0,3,4] []] ⟨(wr ((844844:Int)+(a0.length:Int))),(0:Int),rfl,h⟩ ?_
  rintro f s ⟨a,c,rfl,h⟩
  cases f with
  | zero=>exact nv h
  | succ f =>
   rw [F33_l0_s,F33_l0_b] at h
   refine sq <| sq <| VW.region <| nG K 5 (tn 5) ?_
   refine spC 12 h ?_ ?_<;>intro h
   ·refine nN K (tn 3) ?_
    refine cnd h ?_ ?_<;>intro h
    ·refine VW.skip <| sq <| VW.block ?_
     obtain⟨g,h⟩:=gS h
     refine nE K (pu 4 (an g (tn 6))) <| nE K (tn 3) ?_
     exact aro [.ren [0,3,4] []] ⟨(wr (((BitVec.ofInt IntKind.i64.bits (wr ((wr ((wr (a*(149:Int)))+(wr (a0.getD c.toNat (Ty.dflt (.int .u8))))))+(11:Int))) &&& BitVec.ofInt IntKind.i64.bits (1073741823:Int)).toNat:Nat):Int)),(wr (c+(1:Int))),rfl,h⟩
    refine VW.exit ?_
    exact arv [.ren [0,3] []] ⟨a,rfl,h⟩
   refine nN K (tn 3) ?_
   refine VW.cond (b:=false) (by kernel_rfl) (fun h'=>nomatch h') (fun _=>?_)
   refine VW.exit ?_
   exact arv [.ren [0,3] []] ⟨a,rfl,h⟩
 rintro s ⟨e,rfl,h⟩
 unfold F33_j0 at h
 refine nR K (tn 5) ?_
 replace h:=Option.some.inj h
 subst h
 refine VW.ret ?_
 exact ⟨0,0,by kernel_rfl,by kernel_rfl⟩
def F95_j0 (N:Nat) (a:Int) (b:L1) (c:Int) (d:Int):Option (Z84×Int) :=
  some ((b,(c,d)),a)
def F95 (N:Nat) (a0:Z84):Option (Z84×Int) :=
  cond (decide (a0.2.1 < (a0.1.length:Int))) (gd (InR a0.2.1 a0.1.length) (F95_j0 N (IntKind.i64.wrap (((BitVec.ofInt IntKind.i64.bits (IntKind.i64.wrap ((IntKind.i64.wrap (((BitVec.ofInt IntKind.i64.bits (IntKind.i64.wrap (((BitVec.ofInt IntKind.i64.bits (Int.fdiv (IntKind.i64.wrap ((IntKind.i64.wrap (a0.2.2*(6364136223846793005:Int)))+(1442695040888963407:Int))) (2 ^ (min (33:Int).toNat IntKind.i64.bits))) ^^^ BitVec.ofInt IntKind.i64.bits (Int.fdiv (IntKind.i64.wrap ((IntKind.i64.wrap (a0.2.2*(6364136223846793005:Int)))+(1442695040888963407:Int))) (2 ^ (min (45:Int).toNat IntKind.i64.bits)))).toNat:Nat):Int)) &&& BitVec.ofInt IntKind.i64.bits (255:Int)).toNat:Nat):Int))+(IntKind.i64.wrap (a0.1.getD a0.2.1.toNat (Ty.dflt (.int .u8)))))) &&& BitVec.ofInt IntKind.i64.bits (255:Int)).toNat:Nat):Int)) a0.1 (IntKind.i64.wrap (a0.2.1+(1:Int))) (IntKind.i64.wrap ((IntKind.i64.wrap (a0.2.2*(6364136223846793005:Int)))+(1442695040888963407:Int))))) (F95_j0 N (IntKind.i64.wrap (((BitVec.ofInt IntKind.i64.bits (IntKind.i64.wrap (((BitVec.ofInt IntKind.i64.bits (Int.fdiv (IntKind.i64.wrap ((IntKind.i64.wrap (a0.2.2*(6364136223846793005:Int)))+(1442695040888963407:Int))) (2 ^ (min (33:Int).toNat IntKind.i64.bits))) ^^^ BitVec.ofInt IntKind.i64.bits (Int.fdiv (IntKind.i64.wrap ((IntKind.i64.wrap (a0.2.2*(6364136223846793005:Int)))+(1442695040888963407:Int))) (2 ^ (min (45:Int).toNat IntKind.i64.bits)))).toNat:Nat):Int)) &&& BitVec.ofInt IntKind.i64.bits (255:Int)).toNat:Nat):Int)) a0.1 a0.2.1 (IntKind.i64.wrap ((IntKind.i64.wrap (a0.2.2*(6364136223846793005:Int)))+(1442695040888963407:Int))))
theorem ok95 N a0 {r} (h:F95 N a0=some r):ConM prog 95 [bx (lv Y84 a0) 85] [.lf (.ptr 0 0 0 0)] [.lf (.v B0 r.2)] [bx (lv Y84 r.1) 85]:=by
 refine ⟨enters_of func95 rfl (by decide),HM.intro [.lf (.v B0)] K func95 rfl (Nat.le_of_ble_eq_true rfl) (Nat.le_of_ble_eq_true rfl) fun w0 E0 ht=>?_⟩
 unfold F95 at h
 show VW _ _ _ _ _ (retM _ _ _ _ _) _
 refine nR K (tn 1) <| nR K (tn 10) <| sq <| dr K [] [] [] [0,3,65536] [0] (pu 4 (an (show (0≤(33:Int)) from by decide) (pu 4 (an (show (0≤(45:Int)) from by decide) (tn 3))))) trivial ?_
 refine VW.join (fun s=>∃a b c d,s=⟨[(3,I a),(65536, .lf (.ptr 0 0 0 0))],[bx [.v (.sl (.int .u8)) b,zi c,zi d] 85]⟩∧F95_j0 N a b c d=some r) ?_ ?_
 ·refine sq <| dr K [] [] [] [0,3,34,65536] [0] (tn 10) trivial ?_
  refine cnd h ?_ ?_<;>intro h
  ·refine sq ?_
   obtain⟨e,h⟩:=gS h
   refine dr K [] [] [] [0,3,65536] [0] (pu 9 (an e (tn 5))) trivial <| nE K (tn 9) ?_
   exact arv [.ren [3,65536] [0]] ⟨(wr (((BitVec.ofInt IntKind.i64.bits (wr ((wr (((BitVec.ofInt IntKind.i64.bits (wr (((BitVec.ofInt IntKind.i64.bits (Int.fdiv (wr ((wr (a0.2.2*(6364136223846793005:Int)))+(1442695040888963407:Int))) (2 ^ (min (33:Int).toNat IntKind.i64.bits))) ^^^ BitVec.ofInt IntKind.i64.bits (Int.fdiv (wr ((wr (a0.2.2*(6364136223846793005:Int)))+(1442695040888963407:Int))) (2 ^ (min (45:Int).toNat IntKind.i64.bits)))).toNat:Nat):Int)) &&& BitVec.ofInt IntKind.i64.bits (255:Int)).toNat:Nat):Int))+(wr (a0.1.getD a0.2.1.toNat (Ty.dflt (.int .u8)))))) &&& BitVec.ofInt IntKind.i64.bits (255:Int)).toNat:Nat):Int)),a0.1,(wr (a0.2.1+(1:Int))),(wr ((wr (a0.2.2*(6364136223846793005:Int)))+(1442695040888963407:Int))),rfl,h⟩
  refine VW.skip ?_
  exact arv [.ren [3,65536] [0]] ⟨(wr (((BitVec.ofInt IntKind.i64.bits (wr (((BitVec.ofInt IntKind.i64.bits (Int.fdiv (wr ((wr (a0.2.2*(6364136223846793005:Int)))+(1442695040888963407:Int))) (2 ^ (min (33:Int).toNat IntKind.i64.bits))) ^^^ BitVec.ofInt IntKind.i64.bits (Int.fdiv (wr ((wr (a0.2.2*(6364136223846793005:Int)))+(1442695040888963407:Int))) (2 ^ (min (45:Int).toNat IntKind.i64.bits)))).toNat:Nat):Int)) &&& BitVec.ofInt IntKind.i64.bits (255:Int)).toNat:Nat):Int)),a0.1,a0.2.1,(wr ((wr (a0.2.2*(6364136223846793005:Int)))+(1442695040888963407:Int))),rfl,h⟩
 rintro s ⟨a,b,c,d,rfl,h⟩
 unfold F95_j0 at h
 refine nR K (tn 2) ?_
 replace h:=Option.some.inj h
 subst h
 refine VW.ghl [.ren [2,65536] [0]] (VW.ret ?_)
 exact ⟨[],by kernel_rfl,by kernel_rfl,by kernel_rfl⟩
def F52 (N:Nat) (a0:Z84) (a1:Int):Option (Z84×Int) :=
  cond (decide (a1≤(0:Int))) (some (a0,(0:Int))) (cond (decide (a1≤(256:Int))) (andO (F95 N a0) fun a=>gd (a1≠0) (some (a.1,(Int.tmod a.2 a1)))) (andO (F95 N a0) fun b=>andO (F95 N b.1) fun c=>andO (F95 N c.1) fun d=>gd (a1≠0) (some (d.1,(Int.tmod (IntKind.i64.wrap ((IntKind.i64.wrap ((IntKind.i64.wrap (b.2*(65536:Int)))+(IntKind.i64.wrap (c.2*(256:Int)))))+d.2)) a1)))))
theorem ok52 N a0 a1 {r} (h:F52 N a0 a1=some r):ConM prog 52 [bx (lv Y84 a0) 85] [.lf (.ptr 0 0 0 0),I a1] [.lf (.v B0 r.2)] [bx (lv Y84 r.1) 85]:=by
 refine ⟨enters_of func52 rfl (by decide),HM.intro [.lf (.v B0)] K func52 rfl (Nat.le_of_ble_eq_true rfl) (Nat.le_of_ble_eq_true rfl) fun w0 E0 ht=>?_⟩
 unfold F52 at h
 show VW _ _ _ _ _ (retM _ _ _ _ _) _
 refine nR K (tn 1) <| sq <| nR K (tn 2) ?_
 refine cnd h ?_ ?_<;>intro h
 ·refine nR K (tn 1) ?_
  replace h:=Option.some.inj h
  subst h
  refine VW.ghl [.ren [4,65536] [0]] (VW.ret ?_)
  exact ⟨[],by kernel_rfl,by kernel_rfl,by kernel_rfl⟩
 refine VW.skip <| sq <| nR K (tn 2) ?_
 refine cnd h ?_ ?_<;>intro h
 ·refine sq <| VW.region <| nG K 1 (tn 1) ?_
  obtain⟨c,hy,h⟩:=aS h
  refine VO.callM [0] [.r] (d:=some 13) (by kernel_rfl) (by kernel_rfl) (ok95 N _ hy) (by kernel_rfl) ?_
  obtain⟨a,h⟩:=gS h
  refine nN K (pu 1 (an a (tn 1))) ?_
  replace h:=Option.some.inj h
  subst h
  refine VW.ghl [.ren [4,65536] [0]] (VW.ret ?_)
  exact ⟨[],by kernel_rfl,by kernel_rfl,by kernel_rfl⟩
 refine VW.skip <| sq <| VW.region <| nG K 1 (tn 1) ?_
 obtain⟨e,hy,h⟩:=aS h
 refine VO.callM [0] [.r] (d:=some 17) (by kernel_rfl) (by kernel_rfl) (ok95 N _ hy) (by kernel_rfl) <| nN K (tn 1) <| sq <| VW.region <| nG K 1 (tn 1) ?_
 obtain⟨f,hy,h⟩:=aS h
 refine VO.callM [0] [.r] (d:=some 19) (by kernel_rfl) (by kernel_rfl) (ok95 N _ hy) (by kernel_rfl) <| nN K (tn 1) <| sq <| VW.region <| nG K 1 (tn 1) ?_
 obtain⟨g,hy,h⟩:=aS h
 refine VO.callM [0] [.r] (d:=some 21) (by kernel_rfl) (by kernel_rfl) (ok95 N _ hy) (by kernel_rfl) <| nN K (tn 1) ?_
 obtain⟨b,h⟩:=gS h
 refine nR K (pu 8 (an b (tn 1))) ?_
 replace h:=Option.some.inj h
 subst h
 refine VW.ghl [.ren [4,65536] [0]] (VW.ret ?_)
 exact ⟨[],by kernel_rfl,by kernel_rfl,by kernel_rfl⟩
def F34 (N:Nat) (a0:Z84) (a1:Int):Option (Z84×Bool) :=
  andO (F52 N a0 a1) fun a=>some (a.1,(a.2 == (0:Int)))
theorem ok34 N a0 a1 {r} (h:F34 N a0 a1=some r):ConM prog 34 [bx (lv Y84 a0) 85] [.lf (.ptr 0 0 0 0),I a1] [.lf (.v .bool r.2)] [bx (lv Y84 r.1) 85]:=by
 refine ⟨enters_of func34 rfl (by decide),HM.intro [.lf (.v .bool)] K func34 rfl (Nat.le_of_ble_eq_true rfl) (Nat.le_of_ble_eq_true rfl) fun w0 E0 ht=>?_⟩
 unfold F34 at h
 show VW _ _ _ _ _ (retM _ _ _ _ _) _
 refine nR K (tn 1) <| sq <| VW.region <| nG K 2 (tn 2) ?_
 obtain⟨a,hy,h⟩:=aS h
 refine VO.callM [0] [.r, .t B0] (d:=some 7) (by kernel_rfl) (by kernel_rfl) (ok52 N _ _ hy) (by kernel_rfl) <| nN K (tn 2) ?_
 replace h:=Option.some.inj h
 subst h
 refine VW.ghl [.ren [4,65536] [0]] (VW.ret ?_)
 exact ⟨[],by kernel_rfl,by kernel_rfl,by kernel_rfl⟩
def F99 (N:Nat) (a0:Z84) (a1:L1):Option (Z84×Int) :=
  andO (F52 N a0 (a1.length:Int)) fun a=>gd (InR a.2 a1.length) (some (a.1,(a1.getD a.2.toNat (Ty.dflt B0))))
theorem ok99 N a0 a1 {r} (h:F99 N a0 a1=some r):ConM prog 99 [bx (lv Y84 a0) 85] [.lf (.ptr 0 0 0 0),Vv B1 a1] [.lf (.v B0 r.2)] [bx (lv Y84 r.1) 85]:=by
 refine ⟨enters_of func99 rfl (by decide),HM.intro [.lf (.v B0)] K func99 rfl (Nat.le_of_ble_eq_true rfl) (Nat.le_of_ble_eq_true rfl) fun w0 E0 ht=>?_⟩
 unfold F99 at h
 show VW _ _ _ _ _ (retM _ _ _ _ _) _
 refine nR K (tn 1) <| sq <| VW.region <| nG K 4 (tn 4) ?_
 obtain⟨b,hy,h⟩:=aS h
 refine VO.callM [0] [.r, .t B0] (d:=some 9) (by kernel_rfl) (by kernel_rfl) (ok52 N _ _ hy) (by kernel_rfl) ?_
 obtain⟨a,h⟩:=gS h
 refine nN K (an a (tn 2)) ?_
 replace h:=Option.some.inj h
 subst h
 refine VW.ghl [.ren [4,65536] [0]] (VW.ret ?_)
 exact ⟨[],by kernel_rfl,by kernel_rfl,by kernel_rfl⟩
def F78_j0 (N:Nat) (a:L1):Option (L1) :=
  some a
def F78_l0_b (N:Nat) (a0:L1) (c:L1→Int→Option (L1)) (b:L1) (a:Int):Option (L1) :=
  cond (decide (a < (a0.length:Int))) (gd (InR a a0.length) (gd (b.length+([(a0.getD a.toNat (Ty.dflt B0))]).length≤lim (.int .i64)) (c (b++([(a0.getD a.toNat (Ty.dflt B0))])) (IntKind.i64.wrap (a+(1:Int)))))) (F78_j0 N b)
def F78_l0 (N:Nat) (a0:L1):=loopF (F78_l0_b N a0) (fun _ _=>none)
theorem F78_l0_s {N a0 k} (hk:0 < k:=by omega):F78_l0 N a0 k=F78_l0_b N a0 (F78_l0 N a0 (k - 1)):=lS hk
def F78 (N:Nat) (a0:L1):Option (L1) :=
  F78_l0 N a0 N ([]) (0:Int)
theorem ok78 N a0 {r} (h:F78 N a0=some r):Con prog 78 [Vv B1 a0] [.lf (.own B0 r .dp)]:=by
 refine ctr [.lf (.own B0 .dp)] K func78 rfl fun w0 E0 ht=>?_
 unfold F78 at h
 show VW _ _ _ _ _ (retQ _ _ _ _) _
 refine nR K (tn 1) <| nR K (tn 2) ?_
 refine VW.join (fun s=>∃c,s=⟨[(3,hh 0)],[ar 0 B0 c .dp]⟩∧F78_j0 N c=some r) ?_ ?_
 ·refine nR K (tn 1) <| VW.block <| lop (fun k s=>∃a b,s=⟨[(0,Vv B1 a0),(3,hh 0),(4,I b)],[ar 0 B0 a .dp]⟩∧F78_l0 N a0 k a b=some r) N [.nilS 3 B0 .dp, .ren [0,3,4] [0]] ⟨[],(0:Int),rfl,h⟩ ?_
  rintro d s ⟨a,b,rfl,h⟩
  cases d with
  | zero=>exact nv h
  | succ d =>
   rw [F78_l0_s,F78_l0_b] at h
   refine sq <| nR K (tn 4) ?_
   refine cnd h ?_ ?_<;>intro h
   ·refine VW.skip <| sq <| VW.block ?_
    obtain⟨e,f,h⟩:=gT h
    refine nE K (pu 3 (an e (pu 2 (an f (tn 1))))) <| nE K (tn 3) ?_
    exact aro [.ren [0,3,4] [0]] ⟨(a++([(a0.getD b.toNat (Ty.dflt B0))])),(wr (b+(1:Int))),rfl,h⟩
   refine VW.exit ?_
   exact arv [.ren [3] [0]] ⟨a,rfl,h⟩
 rintro s ⟨c,rfl,h⟩
 unfold F78_j0 at h
 refine nR K (tn 2) ?_
 cases h;exact VW.ret (rt [some 0])
def F38_j0 (N:Nat) (a:(List Z50)):Option ((List Z50)) :=
  some a
def F38_j1 (N:Nat) (i:(List Z50)→Int→Option ((List Z50))) (a:(List Z50)) (j:Int) (b:Int) (c:ByteArray) (d:Int) (e:Int) (f:Int) (g:Bool) (h:L1):Option ((List Z50)) :=
  gd (a.length+([(b,(c,(d,(e,(f,(g,h))))))]).length≤lim Y50) (i (a++([(b,(c,(d,(e,(f,(g,h))))))])) (IntKind.i64.wrap (j+(1:Int))))
def F38_l0_b (N:Nat) (a0:(List Z50)) (c:(List Z50)→Int→Option ((List Z50))) (b:(List Z50)) (a:Int):Option ((List Z50)) :=
  cond (decide (a < (a0.length:Int))) (gd (InR a a0.length) (gd (InR a a0.length) (cond (decide ((((a0.getD a.toNat (Ty.dflt Y50)).2.2.2.2.2.2).length:Int) > (0:Int))) (gd (InR a a0.length) (andO (F78 N ((a0.getD a.toNat (Ty.dflt Y50)).2.2.2.2.2.2)) fun d=>F38_j1 N c b a ((a0.getD a.toNat (Ty.dflt Y50)).1) ((a0.getD a.toNat (Ty.dflt Y50)).2.1) ((a0.getD a.toNat (Ty.dflt Y50)).2.2.1) ((a0.getD a.toNat (Ty.dflt Y50)).2.2.2.1) ((a0.getD a.toNat (Ty.dflt Y50)).2.2.2.2.1) ((a0.getD a.toNat (Ty.dflt Y50)).2.2.2.2.2.1) d)) (F38_j1 N c b a ((a0.getD a.toNat (Ty.dflt Y50)).1) ((a0.getD a.toNat (Ty.dflt Y50)).2.1) ((a0.getD a.toNat (Ty.dflt Y50)).2.2.1) ((a0.getD a.toNat (Ty.dflt Y50)).2.2.2.1) ((a0.getD a.toNat (Ty.dflt Y50)).2.2.2.2.1) ((a0.getD a.toNat (Ty.dflt Y50)).2.2.2.2.2.1) ([]))))) (F38_j0 N b)
def F38_l0 (N:Nat) (a0:(List Z50)):=loopF (F38_l0_b N a0) (fun _ _=>none)
theorem F38_l0_s {N a0 k} (hk:0 < k:=by omega):F38_l0 N a0 k=F38_l0_b N a0 (F38_l0 N a0 (k - 1)):=lS hk
def F38 (N:Nat) (a0:(List Z50)):Option ((List Z50)) :=
  F38_l0 N a0 N ([]) (0:Int)
theorem ok38 N a0 {r} (h:F38 N a0=some r):Con prog 38 [Vv (.sl Y50) a0] [.lf (.own Y50 r .dp)]:=by
 refine ctr [.lf (.own Y50 .dp)] K func38 rfl fun w0 E0 ht=>?_
 unfold F38 at h
 show VW _ _ _ _ _ (retQ _ _ _ _) _
 refine nR K (tn 1) <| nR K (tn 2) ?_
 refine VW.join (fun s=>∃n,s=⟨[(3,hh 0)],[ar 0 Y50 n .dp]⟩∧F38_j0 N n=some r) ?_ ?_
 ·refine nR K (tn 1) <| VW.block <| lop (fun k s=>∃b a,s=⟨[(0,Vv (.sl Y50) a0),(3,hh 0),(4,I a)],[ar 0 Y50 b .dp]⟩∧F38_l0 N a0 k b a=some r) N [.nilS 3 Y50 .dp, .ren [0,3,4] [0]] ⟨[],(0:Int),rfl,h⟩ ?_
  rintro m s ⟨b,a,rfl,h⟩
  cases m with
  | zero=>exact nv h
  | succ m =>
   rw [F38_l0_s,F38_l0_b] at h
   refine sq <| nR K (tn 4) ?_
   refine cnd h ?_ ?_<;>intro h
   ·refine VW.skip <| sq <| VW.block ?_
    obtain⟨o,h⟩:=gS h
    refine nR K (pu 2 (an o (tn 3))) <| nR K (tn 2) ?_
    refine VW.join (fun s=>∃c e f g i j l,s=⟨[(0,Vv (.sl Y50) a0),(3,hh 0),(4,I a),(5, .lf (.ptr 1 0 0 0))],[ar 0 Y50 b .dp,bx [zi c,zs e,zi f,zi g,zi i,zb j, .hd 2 0 none] 51,ar 0 B0 l .dp]⟩∧F38_j1 N (F38_l0 N a0 m) b a c e f g i j l=some r) ?_ ?_
    ·obtain⟨q,h⟩:=gS h
     refine nR K (pu 2 (an q (tn 4))) ?_
     refine cnd h ?_ ?_<;>intro h
     ·refine VW.region ?_
      obtain⟨u,h⟩:=gS h
      refine nG K 5 (pu 2 (an u (tn 2))) ?_
      obtain⟨w,hy,h⟩:=aS h
      refine clc false [.t B1] [] (some 30) K (ok78 N _ hy) <| nN K (tn 2) ?_
      exact arv [.ren [0,3,4,5] [0,1,2]] ⟨(a0.getD a.toNat D50).1,(a0.getD a.toNat D50).2.1,(a0.getD a.toNat D50).2.2.1,(a0.getD a.toNat D50).2.2.2.1,(a0.getD a.toNat D50).2.2.2.2.1,(a0.getD a.toNat D50).2.2.2.2.2.1,w,rfl,h⟩
     refine VW.skip ?_
     exact arv [.nil 1 6 B0 .dp, .ren [0,3,4,5] [0,1,2]] ⟨(a0.getD a.toNat D50).1,(a0.getD a.toNat D50).2.1,(a0.getD a.toNat D50).2.2.1,(a0.getD a.toNat D50).2.2.2.1,(a0.getD a.toNat D50).2.2.2.2.1,(a0.getD a.toNat D50).2.2.2.2.2.1,[],rfl,h⟩
    rintro s ⟨c,e,f,g,i,j,l,rfl,h⟩
    unfold F38_j1 at h
    refine VW.region <| nG K 2 (tn 2) <| VO.litA (d:=34) (v:=hh 3) (H':=[ar 0 Y50 b .dp,bx [zi c,zs e,zi f,zi g,zi i,zb j, .hd 2 0 none] 51,none,ar 0 Y50 ([(c,(e,(f,(g,(i,(j,l))))))]) .dp]) K (by kernel_rfl) ?_
    obtain⟨p,h⟩:=gS h
    refine VO.appM (d:=35) (φ:=b.length+([(c,(e,(f,(g,(i,(j,l))))))]).length≤lim Y50) (v:= .lf (.hd 0 1 none)) (H':=[ar 1 Y50 (b++([(c,(e,(f,(g,(i,(j,l))))))])) .dp,bx [zi c,zs e,zi f,zi g,zi i,zb j, .hd 2 0 none] 51,none,none]) K (by kernel_rfl) p <| nN K (tn 1) <| nE K (tn 3) ?_
    exact aro [.ren [0,3,4] [0]] ⟨(b++([(c,(e,(f,(g,(i,(j,l))))))])),(wr (a+(1:Int))),rfl,h⟩
   refine VW.exit ?_
   exact arv [.ren [3] [0]] ⟨b,rfl,h⟩
 rintro s ⟨n,rfl,h⟩
 unfold F38_j0 at h
 refine nR K (tn 2) ?_
 cases h;exact VW.ret (rt [some 0])
def F162_j0 (N:Nat) (a:(List Z50)):Option ((List Z50)) :=
  some a
def F162_l0_b (N:Nat) (a0:(List (List Z50))) (d:(List Z50)→Int→Option ((List Z50))) (b:(List Z50)) (a:Int):Option ((List Z50)) :=
  cond (decide (a < (a0.length:Int))) (gd (InR a a0.length) (andO (F38 N (a0.getD a.toNat (Ty.dflt (.sl Y50)))) fun c=>gd (b.length+c.length≤lim Y50) (d (b++c) (IntKind.i64.wrap (a+(1:Int)))))) (F162_j0 N b)
def F162_l0 (N:Nat) (a0:(List (List Z50))):=loopF (F162_l0_b N a0) (fun _ _=>none)
theorem F162_l0_s {N a0 k} (hk:0 < k:=by omega):F162_l0 N a0 k=F162_l0_b N a0 (F162_l0 N a0 (k - 1)):=lS hk
def F162 (N:Nat) (a0:(List (List Z50))):Option ((List Z50)) :=
  F162_l0 N a0 N ([]) (0:Int)
theorem ok162 N a0 {r} (h:F162 N a0=some r):Con prog 162 [Vv (.sl (.sl Y50)) a0] [.lf (.own Y50 r .dp)]:=by
 refine ctr [.lf (.own Y50 .dp)] K func162 rfl fun w0 E0 ht=>?_
 unfold F162 at h
 show VW _ _ _ _ _ (retQ _ _ _ _) _
 refine nR K (tn 1) <| nR K (tn 2) ?_
 refine VW.join (fun s=>∃c,s=⟨[(3,hh 0)],[ar 0 Y50 c .dp]⟩∧F162_j0 N c=some r) ?_ ?_
 ·refine nR K (tn 1) <| VW.block <| lop (fun k s=>∃a b,s=⟨[(0,Vv (.sl (.sl Y50)) a0),(3,hh 0),(4,I b)],[ar 0 Y50 a .dp]⟩∧F162_l0 N a0 k a b=some r) N [.nilS 3 Y50 .dp, .ren [0,3,4] [0]] ⟨[],(0:Int),rfl,h⟩ ?_
  rintro f s ⟨a,b,rfl,h⟩
  cases f with
  | zero=>exact nv h
  | succ f =>
   rw [F162_l0_s,F162_l0_b] at h
   refine sq <| nR K (tn 4) ?_
   refine cnd h ?_ ?_<;>intro h
   ·refine VW.skip <| sq <| VW.block <| VW.region ?_
    obtain⟨g,h⟩:=gS h
    refine nG K 5 (pu 3 (an g (tn 1))) ?_
    obtain⟨e,hy,h⟩:=aS h
    refine clc false [.t (.sl Y50)] [] (some 17) K (ok38 N _ hy) ?_
    obtain⟨i,h⟩:=gS h
    refine VO.appY (d:=18) (φ:=a.length+e.length≤lim Y50) (v:= .lf (.hd 0 1 none)) (H':=[ar 1 Y50 (a++e) .dp,none]) K (by kernel_rfl) i <| nN K (tn 1) <| nE K (tn 3) ?_
    exact aro [.ren [0,3,4] [0]] ⟨(a++e),(wr (b+(1:Int))),rfl,h⟩
   refine VW.exit ?_
   exact arv [.ren [3] [0]] ⟨a,rfl,h⟩
 rintro s ⟨c,rfl,h⟩
 unfold F162_j0 at h
 refine nR K (tn 2) ?_
 cases h;exact VW.ret (rt [some 0])
def F103_j0 (N:Nat) (a:(List Z50)) (b:Int) (c:(List Z50)) (d:L1) (e:Int) (f:Int):Option (Z84×(List Z50)×Int) :=
  andO (F162 N ([([((4:Int),(ByteArray.empty,((0:Int),((0:Int),((0:Int),(false,[]))))))]:List Z50),a,c])) fun g=>some ((d,(e,f)),g,b)
def F103_j1 (N:Nat) (j:Int) (a:(List Z50)) (b:Int) (c:Int) (d:Int) (e:Int) (f:L1) (g:L1) (h:Int) (i:Int):Option (Z84×(List Z50)×Int) :=
  andO (F162 N ([[(j,(ByteArray.empty,(c,(d,(e,(false,f))))))],a])) fun k=>some ((g,(h,i)),k,b)
def F103_j2 (N:Nat) (f:Int) (b:(List Z50)) (a:L1) (c:L1) (d:Int) (e:Int):Option (Z84×(List Z50)×Int) :=
  F103_j1 N f b (a.length:Int) (0:Int) (0:Int) (0:Int) a c d e
def F103_l0_b (N:Nat) (j:Int) (i:L1→Int→Int→(List Z50)→Int→L1→Int→Option (Z84×(List Z50)×Int)) (c:L1) (d:Int) (e:Int) (f:(List Z50)) (g:Int) (b:L1) (h:Int):Option (Z84×(List Z50)×Int) :=
  cond (decide (h > (0:Int))) (andO (F52 N (c,(d,e)) g) fun a=>gd (b.length+([a.2]).length≤lim (.int .i64)) (i a.1.1 a.1.2.1 a.1.2.2 f g (b++([a.2])) (IntKind.i64.wrap (h - (1:Int))))) (F103_j2 N j f b c d e)
def F103_l0 (N:Nat) (a:Int):=loopF (F103_l0_b N a) (fun _ _ _ _ _ _ _=>none)
theorem F103_l0_s {N a k} (hk:0 < k:=by omega):F103_l0 N a k=F103_l0_b N a (F103_l0 N a (k - 1)):=lS hk
def F103_j3 (N:Nat) (a1:Int) (self:Z84→Int→Option (Z84×(List Z50)×Int)) (g:L1) (h:Int) (i:Int) (b:Int):Option (Z84×(List Z50)×Int) :=
  cond (b == (0:Int)) (andO (F52 N (g,(h,i)) (3:Int)) fun e=>gd (InR e.2 ([(⟨#[116,49]⟩:ByteArray),(⟨#[116,50]⟩:ByteArray),(⟨#[116,51]⟩:ByteArray)]).length) (gd (e.2.toNat < ([(⟨#[116,49]⟩:ByteArray),(⟨#[116,50]⟩:ByteArray),(⟨#[116,51]⟩:ByteArray)]).length) (gd (InR e.2 ([(2:Int),(3:Int),(1:Int)]).length) (gd (e.2.toNat < ([(2:Int),(3:Int),(1:Int)]).length) (some (e.1,([((0:Int),((([(⟨#[116,49]⟩:ByteArray),(⟨#[116,50]⟩:ByteArray),(⟨#[116,51]⟩:ByteArray)]).getD e.2.toNat (Ty.dflt .str)),((0:Int),((0:Int),((0:Int),(false,[]))))))]:List Z50),(([(2:Int),(3:Int),(1:Int)]).getD e.2.toNat (Ty.dflt B0)))))))) (cond (b == (3:Int)) (andO (self (g,(h,i)) (IntKind.i64.wrap (a1 - (1:Int)))) fun n=>andO (self n.1 (IntKind.i64.wrap (a1 - (2:Int)))) fun o=>andO (F52 N o.1 n.2.2) fun q=>andO (F52 N q.1 o.2.2) fun r=>andO (F162 N ([([((3:Int),(ByteArray.empty,(q.2,((0:Int),(r.2,(false,[]))))))]:List Z50),n.2.1,o.2.1])) fun s=>some (r.1,s,(IntKind.i64.wrap (n.2.2+o.2.2)))) (cond (b == (4:Int)) (andO (self (g,(h,i)) (IntKind.i64.wrap (a1 - (1:Int)))) fun f=>andO (self f.1 (IntKind.i64.wrap (a1 - (2:Int)))) fun c=>cond (c.2.2 != f.2.2) (andO (F162 N ([[((2:Int),(ByteArray.empty,((0:Int),((0:Int),((0:Int),(false,[(0:Int)]))))))],f.2.1])) fun t=>andO (F162 N ([[((2:Int),(ByteArray.empty,((0:Int),((0:Int),((0:Int),(false,[(0:Int)]))))))],c.2.1])) fun u=>F103_j0 N t (1:Int) u c.1.1 c.1.2.1 c.1.2.2) (F103_j0 N f.2.1 f.2.2 c.2.1 c.1.1 c.1.2.1 c.1.2.2)) (andO (self (g,(h,i)) (IntKind.i64.wrap (a1 - (1:Int)))) fun a=>cond (b == (1:Int)) (andO (F52 N a.1 a.2.2) fun p=>andO (F52 N p.1 (4:Int)) fun d=>cond (d.2 != (3:Int)) (andO (F52 N d.1 (6:Int)) fun j=>F103_j1 N b a.2.1 a.2.2 p.2 d.2 (IntKind.i64.wrap (j.2 - (1:Int))) ([]) j.1.1 j.1.2.1 j.1.2.2) (F103_j1 N b a.2.1 a.2.2 p.2 d.2 (0:Int) ([]) d.1.1 d.1.2.1 d.1.2.2)) (cond (b == (2:Int)) (andO (F52 N a.1 (3:Int)) fun k=>F103_l0 N b N k.1.1 k.1.2.1 k.1.2.2 a.2.1 a.2.2 ([]) (IntKind.i64.wrap ((1:Int)+k.2))) (cond (b == (5:Int)) (andO (F52 N a.1 a.2.2) fun l=>F103_j1 N b a.2.1 a.2.2 l.2 (0:Int) (0:Int) ([]) l.1.1 l.1.2.1 l.1.2.2) (cond (b == (6:Int)) (andO (F52 N a.1 (6:Int)) fun m=>F103_j1 N b a.2.1 a.2.2 (0:Int) (0:Int) m.2 ([]) m.1.1 m.1.2.1 m.1.2.2) (F103_j1 N b a.2.1 a.2.2 (0:Int) (0:Int) (0:Int) ([]) a.1.1 a.1.2.1 a.1.2.2)))))))
def F103_b (N:Nat) (self:Z84→Int→Option (Z84×(List Z50)×Int)) (a0:Z84) (a1:Int):Option (Z84×(List Z50)×Int) :=
  andO (F99 N a0 ([(0:Int),(1:Int),(1:Int),(1:Int),(2:Int),(3:Int),(4:Int),(5:Int),(6:Int),(7:Int)])) fun a=>cond (decide (a1≤(1:Int))) (F103_j3 N a1 self a.1.1 a.1.2.1 a.1.2.2 (0:Int)) (F103_j3 N a1 self a.1.1 a.1.2.1 a.1.2.2 a.2)
theorem ok103_b (N:Nat) (self:Z84→Int→Option (Z84×(List Z50)×Int)) (ih:∀(a0:Z84) (a1:Int) (r:Z84×(List Z50)×Int),self a0 a1=some r→ConM prog 103 [bx (lv Y84 a0) 85] [.lf (.ptr 0 0 0 0),I a1] [.lf (.own Y50 r.2.1 .dp), .lf (.v B0 r.2.2)] [bx (lv Y84 r.1) 85]) (a0:Z84) (a1:Int) {r:Z84×(List Z50)×Int} (h:F103_b N self a0 a1=some r):ConM prog 103 [bx (lv Y84 a0) 85] [.lf (.ptr 0 0 0 0),I a1] [.lf (.own Y50 r.2.1 .dp), .lf (.v B0 r.2.2)] [bx (lv Y84 r.1) 85]:=by
 refine ⟨enters_of func103 rfl (by decide),HM.intro [.lf (.own Y50 .dp), .lf (.v B0)] K func103 rfl (Nat.le_of_ble_eq_true rfl) (Nat.le_of_ble_eq_true rfl) fun w0 E0 ht=>?_⟩
 unfold F103_b at h
 show VW _ _ _ _ _ (retM _ _ _ _ _) _
 refine nR K (tn 2) <| sq <| VW.region <| nG K 2 (tn 2) ?_
 obtain⟨j,hy,h⟩:=aS h
 refine VO.ghl [.frz 1] <| VO.callM [0] [.r, .t B1] (d:=some 25) (by kernel_rfl) (by kernel_rfl) (ok99 N _ _ hy) (by kernel_rfl) <| nN K (tn 1) ?_
 refine VW.join (fun s=>∃Y Z x4 c,s=⟨[(0, .lf (.ptr 0 0 0 0)),(1,I a1),(6,I c),(65536, .lf (.ptr 0 0 0 0))],[bx [.v (.sl (.int .u8)) Y,zi Z,zi x4] 85]⟩∧F103_j3 N a1 self Y Z x4 c=some r) ?_ ?_
 ·refine nR K (tn 2) ?_
  refine cnd h ?_ ?_<;>intro h
  ·refine nE K (tn 1) ?_
   exact arv [.ren [0,1,6,65536] [0]] ⟨j.1.1,j.1.2.1,j.1.2.2,(0:Int),rfl,h⟩
  refine VW.skip ?_
  exact arv [.ren [0,1,6,65536] [0]] ⟨j.1.1,j.1.2.1,j.1.2.2,j.2,rfl,h⟩
 rintro s ⟨Y,Z,x4,c,rfl,h⟩
 unfold F103_j3 at h
 refine sq <| nR K (tn 1) <| VW.block <| nR K (tn 2) ?_
 refine cnd h ?_ ?_<;>intro h
 ·refine sq <| VW.region <| nG K 1 (tn 1) ?_
  obtain⟨a,hy,h⟩:=aS h
  refine VO.callM [0] [.r, .t B0] (d:=some 32) (by kernel_rfl) (by kernel_rfl) (ok52 N _ _ hy) (by kernel_rfl) <| nN K (tn 1) <| nR K (tn 2) <| nR K (tn 2) <| sq <| VW.ghl [.ren [7,8,9,65536] [1,2,0]] ?_
  obtain⟨a6,a7,a8,a9,h⟩:=gV h
  refine VW.drawn (by kernel_rfl) [some (35,hh 0),some (36,I a.2),some (37, .lf (.ptr 0 0 a.2.toNat 0)),some (38,S (([(⟨#[116,49]⟩:ByteArray),(⟨#[116,50]⟩:ByteArray),(⟨#[116,51]⟩:ByteArray)]).getD a.2.toNat (Ty.dflt .str))),some (39, .agg [zi (0:Int),zs (([(⟨#[116,49]⟩:ByteArray),(⟨#[116,50]⟩:ByteArray),(⟨#[116,51]⟩:ByteArray)]).getD a.2.toNat (Ty.dflt .str)),zi (0:Int),zi (0:Int),zi (0:Int),zb false, .nil]),some (40,hh 3),some (41,hh 1),some (42,I a.2),some (43, .lf (.ptr 1 0 a.2.toNat 0)),some (44,I (([(2:Int),(3:Int),(1:Int)]).getD a.2.toNat (Ty.dflt B0))),some (4,hh 3),some (5,I (([(2:Int),(3:Int),(1:Int)]).getD a.2.toNat (Ty.dflt B0)))] [5] [[ar 0 .str ([(⟨#[116,49]⟩:ByteArray),(⟨#[116,50]⟩:ByteArray),(⟨#[116,51]⟩:ByteArray)]) .dp,ar 0 B0 ([(2:Int),(3:Int),(1:Int)]) .dp,bx (lv Y84 a.1) 85],[ar 0 .str ([(⟨#[116,49]⟩:ByteArray),(⟨#[116,50]⟩:ByteArray),(⟨#[116,51]⟩:ByteArray)]) .dp,ar 0 B0 ([(2:Int),(3:Int),(1:Int)]) .dp,bx (lv Y84 a.1) 85,ar 0 Y50 ([((0:Int),((([(⟨#[116,49]⟩:ByteArray),(⟨#[116,50]⟩:ByteArray),(⟨#[116,51]⟩:ByteArray)]).getD a.2.toNat (Ty.dflt .str)),((0:Int),((0:Int),((0:Int),(false,[]))))))]:List Z50) .dp]] [(0,0),(0,1),(1,0),(1,1),(2,0),(2,1),(3,0),(3,1),(4,0),(5,0),(6,0),(6,1),(7,0),(7,1),(8,0),(8,1),(9,0),(9,1),(10,1),(11,1)] [4,5,65536] [3,2] (s':=⟨[(4,hh 0),(5,I (([(2:Int),(3:Int),(1:Int)]).getD a.2.toNat (Ty.dflt B0))),(65536, .lf (.ptr 1 0 0 0))],[ar 0 Y50 ([((0:Int),((([(⟨#[116,49]⟩:ByteArray),(⟨#[116,50]⟩:ByteArray),(⟨#[116,51]⟩:ByteArray)]).getD a.2.toNat (Ty.dflt .str)),((0:Int),((0:Int),((0:Int),(false,[]))))))]:List Z50) .dp,bx (lv Y84 a.1) 85]⟩) (by kernel_rfl) (by kernel_rfl) ⟨qT K,
    qT K,
    qT K,
    qT K,
    ⟨_,rfl,Stp.ev K (m:= .dp) (φ:=InR a.2 ([(⟨#[116,49]⟩:ByteArray),(⟨#[116,50]⟩:ByteArray),(⟨#[116,51]⟩:ByteArray)]).length) (by kernel_rfl) a6⟩,
    ⟨_,rfl,Stp.ev K (m:= .dp) (φ:=InR a.2 ([(⟨#[116,49]⟩:ByteArray),(⟨#[116,50]⟩:ByteArray),(⟨#[116,51]⟩:ByteArray)]).length) (by kernel_rfl) a6⟩,
    ⟨_,rfl,Stp.ev K (m:= .dp) (φ:=a.2.toNat < ([(⟨#[116,49]⟩:ByteArray),(⟨#[116,50]⟩:ByteArray),(⟨#[116,51]⟩:ByteArray)]).length) (by kernel_rfl) a7⟩,
    ⟨_,rfl,Stp.ev K (m:= .dp) (φ:=a.2.toNat < ([(⟨#[116,49]⟩:ByteArray),(⟨#[116,50]⟩:ByteArray),(⟨#[116,51]⟩:ByteArray)]).length) (by kernel_rfl) a7⟩,
    qT K,
    ⟨_,rfl,Stp.litA K (by kernel_rfl)⟩,
    qT K,
    qT K,
    qT K,
    qT K,
    ⟨_,rfl,Stp.ev K (m:= .dp) (φ:=InR a.2 ([(2:Int),(3:Int),(1:Int)]).length) (by kernel_rfl) a8⟩,
    ⟨_,rfl,Stp.ev K (m:= .dp) (φ:=InR a.2 ([(2:Int),(3:Int),(1:Int)]).length) (by kernel_rfl) a8⟩,
    ⟨_,rfl,Stp.ev K (m:= .dp) (φ:=a.2.toNat < ([(2:Int),(3:Int),(1:Int)]).length) (by kernel_rfl) a9⟩,
    ⟨_,rfl,Stp.ev K (m:= .dp) (φ:=a.2.toNat < ([(2:Int),(3:Int),(1:Int)]).length) (by kernel_rfl) a9⟩,
    qT K,
    qT K,trivial⟩ (by kernel_rfl) ?_
  replace h:=Option.some.inj h
  subst h
  refine VW.ghl [.ren [4,5,65536] [1,0]] (VW.ret ?_)
  exact ⟨[some 1],by kernel_rfl,by kernel_rfl,by kernel_rfl⟩
 refine nR K (tn 2) ?_
 refine cnd h ?_ ?_<;>intro h
 ·refine sq <| VW.region <| nG K 3 (tn 3) ?_
  obtain⟨ae,hy,h⟩:=aS h
  refine VO.callM [0] [.r, .t B0] (d:=some 51) (by kernel_rfl) (by kernel_rfl) (ih _ _ _ hy) (by kernel_rfl) <| nN K (tn 5) <| sq <| VW.region <| nG K 3 (tn 3) ?_
  obtain⟨af,hy,h⟩:=aS h
  refine VO.callM [0] [.r, .t B0] (d:=some 58) (by kernel_rfl) (by kernel_rfl) (ih _ _ _ hy) (by kernel_rfl) <| nN K (tn 5) <| sq <| VW.region <| nG K 2 (tn 2) ?_
  obtain⟨ab,hy,h⟩:=aS h
  refine VO.callM [0] [.r, .t B0] (d:=some 63) (by kernel_rfl) (by kernel_rfl) (ok52 N _ _ hy) (by kernel_rfl) <| nG K 2 (tn 2) ?_
  obtain⟨a5,hy,h⟩:=aS h
  refine VO.callM [0] [.r, .t B0] (d:=some 66) (by kernel_rfl) (by kernel_rfl) (ok52 N _ _ hy) (by kernel_rfl) <| nN K (tn 3) <| sq <| VW.region <| nG K 1 (tn 1) <| VO.litA (d:=69) (v:=hh 4) (H':=[bx (lv Y84 a5.1) 85,ar 0 Y50 ae.2.1 .dp,ar 0 Y50 af.2.1 .dp,bx [zi (3:Int),zs ByteArray.empty,zi ab.2,zi (0:Int),zi a5.2,zb false, .nil] 51,ar 0 Y50 ([((3:Int),(ByteArray.empty,(ab.2,((0:Int),(a5.2,(false,[]))))))]:List Z50) .dp]) K (by kernel_rfl) ?_
  refine nG K 2 (tn 2) <| VO.ghl [.frz 4, .frz 1, .frz 2] <| nG K 1 (tn 1) ?_
  obtain⟨ai,hy,h⟩:=aS h
  refine clc true [.t (.sl (.sl Y50))] [] (some 73) K (ok162 N _ hy) <| nN K (tn 5) ?_
  replace h:=Option.some.inj h
  subst h
  refine VW.ghl [.ren [4,5,65536] [0,6]] (VW.ret ?_)
  exact ⟨[some 1],by kernel_rfl,by kernel_rfl,by kernel_rfl⟩
 refine nR K (tn 2) ?_
 refine cnd h ?_ ?_<;>intro h
 ·refine sq <| VW.region <| nG K 3 (tn 3) ?_
  obtain⟨W,hy,h⟩:=aS h
  refine VO.callM [0] [.r, .t B0] (d:=some 83) (by kernel_rfl) (by kernel_rfl) (ih _ _ _ hy) (by kernel_rfl) <| nN K (tn 5) <| sq <| VW.region <| nG K 3 (tn 3) ?_
  obtain⟨i,hy,h⟩:=aS h
  refine VO.callM [0] [.r, .t B0] (d:=some 90) (by kernel_rfl) (by kernel_rfl) (ih _ _ _ hy) (by kernel_rfl) <| nN K (tn 5) ?_
  refine VW.join (fun s=>∃M a3 O P Q R,s=⟨[(15,hh 0),(16,I a3),(17,hh 1),(65536, .lf (.ptr 2 0 0 0))],[ar 0 Y50 M .dp,ar 0 Y50 O .dp,bx [.v (.sl (.int .u8)) P,zi Q,zi R] 85]⟩∧F103_j0 N M a3 O P Q R=some r) ?_ ?_
  ·refine nR K (tn 3) ?_
   refine cnd h ?_ ?_<;>intro h
   ·refine sq <| VW.region <| nG K 2 (tn 2) <| VO.litA (d:=98) (v:=hh 4) (H':=[bx (lv Y84 i.1) 85,ar 0 Y50 W.2.1 .dp,ar 0 Y50 i.2.1 .dp,none,ar 0 Y50 ([((2:Int),(ByteArray.empty,((0:Int),((0:Int),((0:Int),(false,[(0:Int)]))))))]) .dp]) K (by kernel_rfl) <| nG K 1 (tn 1) <| VO.ghl [.frz 4, .frz 1] <| nG K 1 (tn 1) ?_
    obtain⟨ac,hy,h⟩:=aS h
    refine clc true [.t (.sl (.sl Y50))] [] (some 101) K (ok162 N _ hy) <| nN K (tn 1) <| sq <| VW.region <| nG K 2 (tn 2) <| VO.litA (d:=104) (v:=hh 8) (H':=[bx (lv Y84 i.1) 85,none,ar 0 Y50 i.2.1 .dp,none,none,ar 0 (.sl Y50) ([[((2:Int),(ByteArray.empty,((0:Int),((0:Int),((0:Int),(false,[(0:Int)]))))))],W.2.1]) .tp,ar 0 Y50 ac .dp,none,ar 0 Y50 ([((2:Int),(ByteArray.empty,((0:Int),((0:Int),((0:Int),(false,[(0:Int)]))))))]) .dp]) K (by kernel_rfl) ?_
    refine nG K 1 (tn 1) <| VO.ghl [.frz 8, .frz 2] <| nG K 1 (tn 1) ?_
    obtain⟨ag,hy,h⟩:=aS h
    refine clc true [.t (.sl (.sl Y50))] [] (some 107) K (ok162 N _ hy) <| nN K (tn 1) <| nE K (tn 1) ?_
    exact arv [.ren [15,16,17,65536] [6,10,0]] ⟨ac,(1:Int),ag,i.1.1,i.1.2.1,i.1.2.2,rfl,h⟩
   refine VW.skip ?_
   exact arv [.ren [15,16,17,65536] [1,2,0]] ⟨W.2.1,W.2.2,i.2.1,i.1.1,i.1.2.1,i.1.2.2,rfl,h⟩
  rintro s ⟨M,a3,O,P,Q,R,rfl,h⟩
  unfold F103_j0 at h
  refine sq <| VW.region <| nG K 1 (tn 1) <| VO.litA (d:=109) (v:=hh 3) (H':=[ar 0 Y50 M .dp,ar 0 Y50 O .dp,bx [.v (.sl (.int .u8)) P,zi Q,zi R] 85,ar 0 Y50 ([((4:Int),(ByteArray.empty,((0:Int),((0:Int),((0:Int),(false,[]))))))]:List Z50) .dp]) K (by kernel_rfl) <| nG K 2 (tn 2) <| VO.ghl [.frz 3, .frz 0, .frz 1] <| nG K 1 (tn 1) ?_
  obtain⟨aj,hy,h⟩:=aS h
  refine clc true [.t (.sl (.sl Y50))] [] (some 113) K (ok162 N _ hy) <| nN K (tn 3) ?_
  replace h:=Option.some.inj h
  subst h
  refine VW.ghl [.ren [4,5,65536] [2,5]] (VW.ret ?_)
  exact ⟨[some 1],by kernel_rfl,by kernel_rfl,by kernel_rfl⟩
 refine VW.skip <| sq <| VW.region <| nG K 3 (tn 3) ?_
 obtain⟨b,hy,h⟩:=aS h
 refine VO.callM [0] [.r, .t B0] (d:=some 119) (by kernel_rfl) (by kernel_rfl) (ih _ _ _ hy) (by kernel_rfl) <| nN K (tn 5) <| nR K (tn 4) ?_
 refine VW.join (fun s=>∃B X p q u C D E F,s=⟨[(19,hh 0),(20,I X),(21, .lf (.ptr 1 0 0 0)),(65536, .lf (.ptr 3 0 0 0))],[ar 0 Y50 B .dp,bx [zi c,zs ByteArray.empty,zi p,zi q,zi u,zb false, .hd 2 0 none] 51,ar 0 B0 C .dp,bx [.v (.sl (.int .u8)) D,zi E,zi F] 85]⟩∧F103_j1 N c B X p q u C D E F=some r) ?_ ?_
 ·refine nR K (tn 1) <| VW.block <| nR K (tn 2) ?_
  refine cnd h ?_ ?_<;>intro h
  ·refine sq <| VW.region <| nG K 2 (tn 2) ?_
   obtain⟨a4,hy,h⟩:=aS h
   refine VO.callM [0] [.r, .t B0] (d:=some 129) (by kernel_rfl) (by kernel_rfl) (ok52 N _ _ hy) (by kernel_rfl) <| nN K (tn 2) <| sq <| VW.region <| nG K 1 (tn 1) ?_
   obtain⟨l,hy,h⟩:=aS h
   refine VO.callM [0] [.r, .t B0] (d:=some 132) (by kernel_rfl) (by kernel_rfl) (ok52 N _ _ hy) (by kernel_rfl) <| sN K [0,19,20,21,65536] [0,1,2] ⟨[(0, .lf (.ptr 0 0 0 0)),(19,hh 1),(20,I b.2.2),(21, .lf (.ptr 2 0 0 0)),(65536, .lf (.ptr 0 0 0 0))],[bx (lv Y84 l.1) 85,ar 0 Y50 b.2.1 .dp,bx [zi c,zs ByteArray.empty,zi a4.2,zi l.2,zi (0:Int),zb false, .nil] 51]⟩ (tn 2) ?_
   refine nR K (tn 3) ?_
   refine cnd h ?_ ?_<;>intro h
   ·refine VW.region <| nG K 1 (tn 1) ?_
    obtain⟨T,hy,h⟩:=aS h
    refine VO.callM [0] [.r, .t B0] (d:=some 138) (by kernel_rfl) (by kernel_rfl) (ok52 N _ _ hy) (by kernel_rfl) <| nN K (tn 3) ?_
    exact arv [.nil 2 6 B0 .dp, .ren [19,20,21,65536] [1,2,3,0]] ⟨b.2.1,b.2.2,a4.2,l.2,(wr (T.2 - (1:Int))),[],T.1.1,T.1.2.1,T.1.2.2,rfl,h⟩
   refine VW.skip ?_
   exact arv [.nil 2 6 B0 .dp, .ren [19,20,21,65536] [1,2,3,0]] ⟨b.2.1,b.2.2,a4.2,l.2,(0:Int),[],l.1.1,l.1.2.1,l.1.2.2,rfl,h⟩
  refine nR K (tn 2) ?_
  refine cnd h ?_ ?_<;>intro h
  ·refine VW.join (fun s=>∃G w H J L,s=⟨[(19,hh 0),(21, .lf (.ptr 1 0 0 0)),(65536, .lf (.ptr 3 0 0 0))],[ar 0 Y50 G .dp,bx [zi c,zs ByteArray.empty,zi (0:Int),zi (0:Int),zi (0:Int),zb false, .hd 2 0 none] 51,ar 0 B0 w .dp,bx [.v (.sl (.int .u8)) H,zi J,zi L] 85]⟩∧F103_j2 N c G w H J L=some r) ?_ ?_
   ·refine sq <| VW.region <| nG K 1 (tn 1) ?_
    obtain⟨U,hy,h⟩:=aS h
    refine VO.callM [0] [.r, .t B0] (d:=some 144) (by kernel_rfl) (by kernel_rfl) (ok52 N _ _ hy) (by kernel_rfl) <| nN K (tn 2) <| VW.block <| lop (fun k s=>∃x y z g n f A,s=⟨[(0, .lf (.ptr 0 0 0 0)),(19,hh 1),(20,I n),(21, .lf (.ptr 2 0 0 0)),(22,I A),(65536, .lf (.ptr 0 0 0 0))],[bx [.v (.sl (.int .u8)) x,zi y,zi z] 85,ar 0 Y50 g .dp,bx [zi c,zs ByteArray.empty,zi (0:Int),zi (0:Int),zi (0:Int),zb false, .hd 3 0 none] 51,ar 0 B0 f .dp]⟩∧F103_l0 N c k x y z g n f A=some r) N [.nil 2 6 B0 .dp, .ren [0,19,20,21,22,65536] [0,1,2,3]] ⟨U.1.1,U.1.2.1,U.1.2.2,b.2.1,b.2.2,[],(wr ((1:Int)+U.2)),rfl,h⟩ ?_
    rintro aa s ⟨x,y,z,g,n,f,A,rfl,h⟩
    cases aa with
    | zero=>exact nv h
    | succ aa =>
     rw [F103_l0_s,F103_l0_b] at h
     refine sq <| nR K (tn 2) ?_
     refine cnd h ?_ ?_<;>intro h
     ·refine VW.skip <| sq <| VW.block <| VW.ghl [.ren [0,19,20,21,22,65536] [0,1,2,3]] ?_
      obtain⟨e,hy192,h⟩:=aS h
      obtain⟨ad,h⟩:=gS h
      refine VW.drawn (by kernel_rfl) [some (150, .lf (.ptr 2 0 0 6)),some (151,hh 3),some (152, .lf (.ptr 0 0 0 0)),some (153,I n),some (154,I e.2),some (155,hh 4),some (156, .lf (.hd 3 1 none)),some (157, .lf (.ptr 2 0 0 6)),none] [4,5,6,8] [[bx [.v (.sl (.int .u8)) x,zi y,zi z] 85,ar 0 Y50 g .dp,bx [zi c,zs ByteArray.empty,zi (0:Int),zi (0:Int),zi (0:Int),zb false, .hd 3 0 none] 51,ar 0 B0 f .dp],[bx (lv Y84 e.1) 85,ar 0 Y50 g .dp,bx [zi c,zs ByteArray.empty,zi (0:Int),zi (0:Int),zi (0:Int),zb false, .hd 3 0 none] 51,ar 0 B0 f .dp],[bx (lv Y84 e.1) 85,ar 0 Y50 g .dp,bx [zi c,zs ByteArray.empty,zi (0:Int),zi (0:Int),zi (0:Int),zb false, .hd 3 0 none] 51,ar 0 B0 f .dp,ar 0 B0 ([e.2]) .dp],[bx (lv Y84 e.1) 85,ar 0 Y50 g .dp,bx [zi c,zs ByteArray.empty,zi (0:Int),zi (0:Int),zi (0:Int),zb false, .hd 3 0 none] 51,ar 1 B0 (f++([e.2])) .dp,ar 0 B0 ([e.2]) .dp],[bx (lv Y84 e.1) 85,ar 0 Y50 g .dp,bx [zi c,zs ByteArray.empty,zi (0:Int),zi (0:Int),zi (0:Int),zb false, .hd 3 1 none] 51,ar 1 B0 (f++([e.2])) .dp,ar 0 B0 ([e.2]) .dp]] [(0,0),(0,1),(0,2),(0,3),(1,0),(1,1),(1,2),(2,0),(3,0),(4,0),(5,1),(6,2),(7,3),(8,3)] [0,19,20,21,22,65536] [0,1,2,3] (s':=⟨[(0, .lf (.ptr 0 0 0 0)),(19,hh 1),(20,I n),(21, .lf (.ptr 2 0 0 0)),(22,I A),(65536, .lf (.ptr 0 0 0 0))],[bx (lv Y84 e.1) 85,ar 0 Y50 g .dp,bx [zi c,zs ByteArray.empty,zi (0:Int),zi (0:Int),zi (0:Int),zb false, .hd 3 0 none] 51,ar 0 B0 (f++([e.2])) .dp]⟩) (by kernel_rfl) (by kernel_rfl) ⟨qT K,
    qT K,
    qT K,
    qT K,
    qT K,
    qT K,
    qT K,
    qT K,
    qT K,
    ⟨_,rfl,Stp.eq (Stp.callM [0] [.r, .t B0] (d:=some 154) (by kernel_rfl) (by kernel_rfl) (ok52 N _ _ hy192) (by kernel_rfl)) (by kernel_rfl) (by kernel_rfl)⟩,
    qT K,
    ⟨_,rfl,Stp.ev K (m:= .dp) (φ:=f.length+([e.2]).length≤lim (.int .i64)) (by kernel_rfl) ad⟩,
    qT K,
    qT K,trivial⟩ (by kernel_rfl) ?_
      refine nE K (tn 3) ?_
      exact aro [.ren [0,19,20,21,22,65536] [0,1,2,3]] ⟨e.1.1,e.1.2.1,e.1.2.2,g,n,(f++([e.2])),(wr (A - (1:Int))),rfl,h⟩
     refine VW.exit ?_
     exact arv [.ren [19,21,65536] [1,2,3,0]] ⟨g,f,x,y,z,rfl,h⟩
   rintro s ⟨G,w,H,J,L,rfl,h⟩
   unfold F103_j2 at h
   refine nE K (tn 4) ?_
   exact arv [.ren [19,20,21,65536] [0,1,2,3]] ⟨G,(w.length:Int),(0:Int),(0:Int),(0:Int),w,H,J,L,rfl,h⟩
  refine nR K (tn 2) ?_
  refine cnd h ?_ ?_<;>intro h
  ·refine VW.region <| nG K 2 (tn 2) ?_
   obtain⟨o,hy,h⟩:=aS h
   refine VO.callM [0] [.r, .t B0] (d:=some 165) (by kernel_rfl) (by kernel_rfl) (ok52 N _ _ hy) (by kernel_rfl) <| sN K [19,20,21,65536] [1,2,0] ⟨[(19,hh 0),(20,I b.2.2),(21, .lf (.ptr 1 0 0 0)),(65536, .lf (.ptr 2 0 0 0))],[ar 0 Y50 b.2.1 .dp,bx [zi c,zs ByteArray.empty,zi o.2,zi (0:Int),zi (0:Int),zb false, .nil] 51,bx (lv Y84 o.1) 85]⟩ (tn 2) ?_
   exact arv [.nil 1 6 B0 .dp, .ren [19,20,21,65536] [0,1,3,2]] ⟨b.2.1,b.2.2,o.2,(0:Int),(0:Int),[],o.1.1,o.1.2.1,o.1.2.2,rfl,h⟩
  refine nR K (tn 2) ?_
  refine cnd h ?_ ?_<;>intro h
  ·refine VW.region <| sG K 1 [19,20,21,169,65536] [1,2,0] ⟨[(19,hh 0),(20,I b.2.2),(21, .lf (.ptr 1 0 0 0)),(169, .lf (.ptr 2 0 0 0)),(65536, .lf (.ptr 2 0 0 0))],[ar 0 Y50 b.2.1 .dp,bx [zi c,zs ByteArray.empty,zi (0:Int),zi (0:Int),zi (0:Int),zb false, .nil] 51,bx (lv Y84 b.1) 85]⟩ (tn 1) ?_
   obtain⟨V,hy,h⟩:=aS h
   refine VO.callM [2] [.r, .t B0] (d:=some 170) (by kernel_rfl) (by kernel_rfl) (ok52 N _ _ hy) (by kernel_rfl) <| nN K (tn 2) ?_
   exact arv [.nil 1 6 B0 .dp, .ren [19,20,21,65536] [0,1,3,2]] ⟨b.2.1,b.2.2,(0:Int),(0:Int),V.2,[],V.1.1,V.1.2.1,V.1.2.2,rfl,h⟩
  refine VW.skip ?_
  exact arv [.nil 2 6 B0 .dp, .ren [19,20,21,65536] [1,2,3,0]] ⟨b.2.1,b.2.2,(0:Int),(0:Int),(0:Int),[],b.1.1,b.1.2.1,b.1.2.2,rfl,h⟩
 rintro s ⟨B,X,p,q,u,C,D,E,F,rfl,h⟩
 unfold F103_j1 at h
 refine sq <| VW.region <| nG K 1 (tn 1) <| VO.litA (d:=173) (v:=hh 4) (H':=[ar 0 Y50 B .dp,bx [zi c,zs ByteArray.empty,zi p,zi q,zi u,zb false, .hd 2 0 none] 51,none,bx [.v (.sl (.int .u8)) D,zi E,zi F] 85,ar 0 Y50 ([(c,(ByteArray.empty,(p,(q,(u,(false,C))))))]) .dp]) K (by kernel_rfl) <| nG K 1 (tn 1) <| VO.ghl [.frz 4, .frz 0] <| nG K 1 (tn 1) ?_
 obtain⟨ah,hy,h⟩:=aS h
 refine clc true [.t (.sl (.sl Y50))] [] (some 176) K (ok162 N _ hy) <| nN K (tn 3) ?_
 replace h:=Option.some.inj h
 subst h
 refine VW.ghl [.ren [4,5,65536] [3,6]] (VW.ret ?_)
 exact ⟨[some 1],by kernel_rfl,by kernel_rfl,by kernel_rfl⟩
def F103_r (N:Nat):=loopF (F103_b N) (fun _ _=>none)
theorem F103_s {N k} (hk:0 < k:=by omega):F103_r N k=F103_b N (F103_r N (k - 1)):=lS hk
def F103 (N:Nat):Z84→Int→Option (Z84×(List Z50)×Int):=F103_r N N
theorem ok103_k (N:Nat):∀(k:Nat) (a0:Z84) (a1:Int) (r:Z84×(List Z50)×Int),loopF (F103_b N) (fun _ _=>none) k a0 a1=some r→ConM prog 103 [bx (lv Y84 a0) 85] [.lf (.ptr 0 0 0 0),I a1] [.lf (.own Y50 r.2.1 .dp), .lf (.v B0 r.2.2)] [bx (lv Y84 r.1) 85]
 | 0,a0,a1,r,h=>nomatch (show (none:Option (Z84×(List Z50)×Int))=some r from h)
 | k+1,a0,a1,r,h=>ok103_b N _ (ok103_k N k) a0 a1 h
theorem ok103 N a0 a1 {r} (h:F103 N a0 a1=some r):ConM prog 103 [bx (lv Y84 a0) 85] [.lf (.ptr 0 0 0 0),I a1] [.lf (.own Y50 r.2.1 .dp), .lf (.v B0 r.2.2)] [bx (lv Y84 r.1) 85]:=ok103_k N N a0 a1 r h
def F104 (N:Nat) (a0:L1) (a1:Int):Option (Int) :=
  cond (decide ((IntKind.i64.wrap ((2:Int)+(IntKind.i64.wrap (Int.tdiv (a0.length:Int) (16:Int))))) > a1)) (some a1) (some (IntKind.i64.wrap ((2:Int)+(IntKind.i64.wrap (Int.tdiv (a0.length:Int) (16:Int))))))
theorem ok104 N a0 a1 {r} (h:F104 N a0 a1=some r):Con prog 104 [Vv (.sl (.int .u8)) a0,I a1] [.lf (.v B0 r)]:=by
 refine ctr [.lf (.v B0)] K func104 rfl fun w0 E0 ht=>?_
 unfold F104 at h
 show VW _ _ _ _ _ (retQ _ _ _ _) _
 refine nR K (tn 1) <| nR K (pu 2 (an (show ((16:Int)≠0) from by decide) (tn 2))) <| sq <| nR K (tn 3) ?_
 refine cnd h ?_ ?_<;>intro h
 ·refine nR K (tn 2) ?_
  cases h;exact VW.ret (rt [])
 refine VW.skip <| nR K (tn 2) ?_
 cases h;exact VW.ret (rt [])
def F59 (N:Nat) (a0:Z84) (a1:L1):Option (Z84×(List Z50)) :=
  andO (F104 N a1 (7:Int)) fun c=>andO (F52 N a0 c) fun a=>andO (F103 N a.1 (IntKind.i64.wrap ((1:Int)+a.2))) fun b=>some (b.1,b.2.1)
theorem ok59 N a0 a1 {r} (h:F59 N a0 a1=some r):ConM prog 59 [bx (lv Y84 a0) 85] [.lf (.ptr 0 0 0 0),Vv (.sl (.int .u8)) a1] [.lf (.own Y50 r.2 .dp)] [bx (lv Y84 r.1) 85]:=by
 refine ⟨enters_of func59 rfl (by decide),HM.intro [.lf (.own Y50 .dp)] K func59 rfl (Nat.le_of_ble_eq_true rfl) (Nat.le_of_ble_eq_true rfl) fun w0 E0 ht=>?_⟩
 unfold F59 at h
 show VW _ _ _ _ _ (retM _ _ _ _ _) _
 refine nR K (tn 1) <| sq <| VW.region <| nG K 3 (tn 3) ?_
 obtain⟨a,hy,h⟩:=aS h
 refine clc false [.t (.sl (.int .u8)), .t B0] [] (some 11) K (ok104 N _ _ hy) ?_
 obtain⟨b,hy,h⟩:=aS h
 refine VO.callM [0] [.r, .t B0] (d:=some 12) (by kernel_rfl) (by kernel_rfl) (ok52 N _ _ hy) (by kernel_rfl) <| nG K 1 (tn 1) ?_
 obtain⟨c,hy,h⟩:=aS h
 refine VO.callM [0] [.r, .t B0] (d:=some 14) (by kernel_rfl) (by kernel_rfl) (ok103 N _ _ hy) (by kernel_rfl) <| nN K (tn 5) <| nR K (tn 2) ?_
 replace h:=Option.some.inj h
 subst h
 refine VW.ghl [.ren [4,65536] [0,1]] (VW.ret ?_)
 exact ⟨[some 1],by kernel_rfl,by kernel_rfl,by kernel_rfl⟩
def F60_j0 (N:Nat) (a:(List Z50)) (b:L1) (c:Int) (d:Int):Option (Z84×(List Z50)) :=
  some ((b,(c,d)),a)
def F60 (N:Nat) (a0:Z84) (a1:(List Z50)):Option (Z84×(List Z50)) :=
  andO (F34 N a0 (8:Int)) fun c=>cond (!c.2) (some (c.1,a1)) (cond ((a1.length:Int) == (0:Int)) (some (c.1,a1)) (andO (F52 N c.1 (a1.length:Int)) fun a=>andO (F52 N a.1 (7:Int)) fun b=>cond (b.2 == (0:Int)) (andO (F52 N b.1 (10:Int)) fun d=>gd (InR a.2 a1.length) (gd (a.2.toNat < a1.length) (F60_j0 N (a1.set a.2.toNat ((IntKind.i64.wrap (d.2 - (1:Int))),((a1.getD a.2.toNat (Ty.dflt Y50)).2.1,((a1.getD a.2.toNat (Ty.dflt Y50)).2.2.1,((a1.getD a.2.toNat (Ty.dflt Y50)).2.2.2.1,((a1.getD a.2.toNat (Ty.dflt Y50)).2.2.2.2.1,((a1.getD a.2.toNat (Ty.dflt Y50)).2.2.2.2.2.1,(a1.getD a.2.toNat (Ty.dflt Y50)).2.2.2.2.2.2))))))) d.1.1 d.1.2.1 d.1.2.2))) (cond (b.2 == (1:Int)) (andO (F99 N b.1 ([(-1:Int),(63:Int),(64:Int),(2:Int)])) fun e=>gd (InR a.2 a1.length) (gd (a.2.toNat < a1.length) (F60_j0 N (a1.set a.2.toNat ((a1.getD a.2.toNat (Ty.dflt Y50)).1,((a1.getD a.2.toNat (Ty.dflt Y50)).2.1,(e.2,((a1.getD a.2.toNat (Ty.dflt Y50)).2.2.2.1,((a1.getD a.2.toNat (Ty.dflt Y50)).2.2.2.2.1,((a1.getD a.2.toNat (Ty.dflt Y50)).2.2.2.2.2.1,(a1.getD a.2.toNat (Ty.dflt Y50)).2.2.2.2.2.2))))))) e.1.1 e.1.2.1 e.1.2.2))) (cond (b.2 == (2:Int)) (andO (F99 N b.1 ([(-1:Int),(1000000:Int),(1000001:Int)])) fun f=>gd (InR a.2 a1.length) (gd (a.2.toNat < a1.length) (F60_j0 N (a1.set a.2.toNat ((a1.getD a.2.toNat (Ty.dflt Y50)).1,((a1.getD a.2.toNat (Ty.dflt Y50)).2.1,((a1.getD a.2.toNat (Ty.dflt Y50)).2.2.1,((a1.getD a.2.toNat (Ty.dflt Y50)).2.2.2.1,(f.2,((a1.getD a.2.toNat (Ty.dflt Y50)).2.2.2.2.2.1,(a1.getD a.2.toNat (Ty.dflt Y50)).2.2.2.2.2.2))))))) f.1.1 f.1.2.1 f.1.2.2))) (cond (b.2 == (3:Int)) (gd (InR a.2 a1.length) (gd (a.2.toNat < a1.length) (F60_j0 N (a1.set a.2.toNat ((a1.getD a.2.toNat (Ty.dflt Y50)).1,((a1.getD a.2.toNat (Ty.dflt Y50)).2.1,((a1.getD a.2.toNat (Ty.dflt Y50)).2.2.1,((a1.getD a.2.toNat (Ty.dflt Y50)).2.2.2.1,((a1.getD a.2.toNat (Ty.dflt Y50)).2.2.2.2.1,(true,(a1.getD a.2.toNat (Ty.dflt Y50)).2.2.2.2.2.2))))))) b.1.1 b.1.2.1 b.1.2.2))) (cond (b.2 == (4:Int)) (gd (InR a.2 a1.length) (gd (a.2.toNat < a1.length) (gd (a1.length+([(a1.getD a.2.toNat (Ty.dflt Y50))]).length≤lim Y50) (F60_j0 N (a1++([(a1.getD a.2.toNat (Ty.dflt Y50))])) b.1.1 b.1.2.1 b.1.2.2)))) (cond (b.2 == (5:Int)) (gd (0≤a.2∧a.2≤(a1.length:Int)) (F60_j0 N (a1.take a.2.toNat) b.1.1 b.1.2.1 b.1.2.2)) (cond (b.2 == (6:Int)) (gd (InR a.2 a1.length) (gd (0≤a.2∧a.2.toNat < a1.length∧((a1.getD a.2.toNat (Ty.dflt Y50)).2.2.2.2.2.2).length+1≤lim (.int .i64)) (F60_j0 N (a1.set a.2.toNat ((a1.getD a.2.toNat (Ty.dflt Y50)).1,((a1.getD a.2.toNat (Ty.dflt Y50)).2.1,((a1.getD a.2.toNat (Ty.dflt Y50)).2.2.1,((a1.getD a.2.toNat (Ty.dflt Y50)).2.2.2.1,((a1.getD a.2.toNat (Ty.dflt Y50)).2.2.2.2.1,((a1.getD a.2.toNat (Ty.dflt Y50)).2.2.2.2.2.1,(((a1.getD a.2.toNat (Ty.dflt Y50)).2.2.2.2.2.2)++[(0:Int)])))))))) b.1.1 b.1.2.1 b.1.2.2))) (F60_j0 N a1 b.1.1 b.1.2.1 b.1.2.2)))))))))
theorem ok60 N a0 a1 {r} (h:F60 N a0 a1=some r):ConM prog 60 [bx (lv Y84 a0) 85,ar 0 Y50 a1 .dp] [.lf (.ptr 0 0 0 0),hh 1] [.lf (.own Y50 r.2 .tp)] [bx (lv Y84 r.1) 85,none]:=by
 refine ⟨enters_of func60 rfl (by decide),HM.intro [.lf (.own Y50 .tp)] K func60 rfl (Nat.le_of_ble_eq_true rfl) (Nat.le_of_ble_eq_true rfl) fun w0 E0 ht=>?_⟩
 unfold F60 at h
 show VW _ _ _ _ _ (retM _ _ _ _ _) _
 refine nR K (tn 1) <| sq <| sq <| VW.region <| nG K 1 (tn 1) ?_
 obtain⟨O,hy,h⟩:=aS h
 refine VO.callM [0] [.r, .t B0] (d:=some 7) (by kernel_rfl) (by kernel_rfl) (ok34 N _ _ hy) (by kernel_rfl) <| nG K 2 (tn 2) ?_
 refine spC 9 h ?_ ?_<;>intro h
 ·refine nN K (tn 4) ?_
  refine VW.cond (b:=true) (by kernel_rfl) (fun _=>?_) (fun h'=>nomatch h')
  refine nR K (tn 2) ?_
  replace h:=Option.some.inj h
  subst h
  refine VW.ghl [.wk 1, .ren [4,65536] [0,100001,1]] (VW.ret ?_)
  exact ⟨[some 2],by kernel_rfl,by kernel_rfl,by kernel_rfl⟩
 refine nN K (tn 4) ?_
 refine cnd h ?_ ?_<;>intro h
 ·refine nR K (tn 2) ?_
  replace h:=Option.some.inj h
  subst h
  refine VW.ghl [.wk 1, .ren [4,65536] [0,100001,1]] (VW.ret ?_)
  exact ⟨[some 2],by kernel_rfl,by kernel_rfl,by kernel_rfl⟩
 refine VW.skip <| sq <| VW.region <| nG K 3 (tn 3) ?_
 obtain⟨a,hy,h⟩:=aS h
 refine VO.callM [0] [.r, .t B0] (d:=some 18) (by kernel_rfl) (by kernel_rfl) (ok52 N _ _ hy) (by kernel_rfl) <| nN K (tn 1) ?_
 refine VW.join (fun s=>∃n o p q,s=⟨[(1,hh 0),(65536, .lf (.ptr 1 0 0 0))],[ar 0 Y50 n .tp,bx [.v (.sl (.int .u8)) o,zi p,zi q] 85]⟩∧F60_j0 N n o p q=some r) ?_ ?_
 ·refine sq <| VW.region <| nG K 1 (tn 1) ?_
  obtain⟨f,hy,h⟩:=aS h
  refine VO.callM [0] [.r, .t B0] (d:=some 20) (by kernel_rfl) (by kernel_rfl) (ok52 N _ _ hy) (by kernel_rfl) <| nN K (tn 0) <| VW.block <| nR K (tn 2) ?_
  refine cnd h ?_ ?_<;>intro h
  ·refine VW.region <| nG K 3 (tn 3) ?_
   obtain⟨g,hy,h⟩:=aS h
   refine VO.callM [0] [.r, .t B0] (d:=some 26) (by kernel_rfl) (by kernel_rfl) (ok52 N _ _ hy) (by kernel_rfl) ?_
   obtain⟨w,x,h⟩:=gT h
   refine nN K (pu 1 (an w (pu 1 (an x (tn 0))))) ?_
   exact arv [.wk 1, .ren [1,65536] [1,0]] ⟨(a1.set a.2.toNat ((wr (g.2 - (1:Int))),((a1.getD a.2.toNat D50).2.1,((a1.getD a.2.toNat D50).2.2.1,((a1.getD a.2.toNat D50).2.2.2.1,((a1.getD a.2.toNat D50).2.2.2.2.1,((a1.getD a.2.toNat D50).2.2.2.2.2.1,(a1.getD a.2.toNat D50).2.2.2.2.2.2))))))),g.1.1,g.1.2.1,g.1.2.2,rfl,h⟩
  refine nR K (tn 2) ?_
  refine cnd h ?_ ?_<;>intro h
  ·refine VW.region <| nG K 4 (tn 4) ?_
   obtain⟨l,hy,h⟩:=aS h
   refine VO.ghl [.frz 2] <| VO.callM [0] [.r, .t B1] (d:=some 36) (by kernel_rfl) (by kernel_rfl) (ok99 N _ _ hy) (by kernel_rfl) ?_
   obtain⟨y,A,h⟩:=gT h
   refine nN K (an y (pu 1 (an A (tn 0)))) ?_
   exact arv [.wk 1, .ren [1,65536] [1,0]] ⟨(a1.set a.2.toNat ((a1.getD a.2.toNat D50).1,((a1.getD a.2.toNat D50).2.1,(l.2,((a1.getD a.2.toNat D50).2.2.2.1,((a1.getD a.2.toNat D50).2.2.2.2.1,((a1.getD a.2.toNat D50).2.2.2.2.2.1,(a1.getD a.2.toNat D50).2.2.2.2.2.2))))))),l.1.1,l.1.2.1,l.1.2.2,rfl,h⟩
  refine nR K (tn 2) ?_
  refine cnd h ?_ ?_<;>intro h
  ·refine VW.region <| nG K 4 (tn 4) ?_
   obtain⟨m,hy,h⟩:=aS h
   refine VO.ghl [.frz 2] <| VO.callM [0] [.r, .t B1] (d:=some 45) (by kernel_rfl) (by kernel_rfl) (ok99 N _ _ hy) (by kernel_rfl) ?_
   obtain⟨C,D,h⟩:=gT h
   refine nN K (an C (pu 1 (an D (tn 0)))) ?_
   exact arv [.wk 1, .ren [1,65536] [1,0]] ⟨(a1.set a.2.toNat ((a1.getD a.2.toNat D50).1,((a1.getD a.2.toNat D50).2.1,((a1.getD a.2.toNat D50).2.2.1,((a1.getD a.2.toNat D50).2.2.2.1,(m.2,((a1.getD a.2.toNat D50).2.2.2.2.2.1,(a1.getD a.2.toNat D50).2.2.2.2.2.2))))))),m.1.1,m.1.2.1,m.1.2.2,rfl,h⟩
  refine nR K (tn 2) ?_
  refine cnd h ?_ ?_<;>intro h
  ·obtain⟨E,F,h⟩:=gT h
   refine nE K (pu 2 (an E (pu 1 (an F (tn 0))))) ?_
   exact arv [.wk 1, .ren [1,65536] [1,0]] ⟨(a1.set a.2.toNat ((a1.getD a.2.toNat D50).1,((a1.getD a.2.toNat D50).2.1,((a1.getD a.2.toNat D50).2.2.1,((a1.getD a.2.toNat D50).2.2.2.1,((a1.getD a.2.toNat D50).2.2.2.2.1,(true,(a1.getD a.2.toNat D50).2.2.2.2.2.2))))))),f.1.1,f.1.2.1,f.1.2.2,rfl,h⟩
  refine nR K (tn 2) ?_
  refine cnd h ?_ ?_<;>intro h
  ·refine VW.region ?_
   obtain⟨G,h⟩:=gS h
   refine sG K 4 [56,59,65536] [1,0] ⟨[(56,hh 0),(59, .lf (.ptr 0 0 a.2.toNat 0)),(65536, .lf (.ptr 1 0 0 0))],[ar 0 Y50 a1 .dp,bx (lv Y84 f.1) 85]⟩ (pu 3 (an G (tn 0))) <| VO.ghl [.wk 0] ?_
   obtain⟨H,J,h⟩:=gT h
   refine nN K (an H (pu 1 (an J (tn 1)))) ?_
   exact arv [.ren [1,65536] [0,1]] ⟨(a1++([(a1.getD a.2.toNat D50)])),f.1.1,f.1.2.1,f.1.2.2,rfl,h⟩
  refine sR K [1,5,20,63,65536] [1,0] ⟨[(1,hh 0),(5,I a.2),(20,I f.2),(63,B (f.2 == (5:Int))),(65536, .lf (.ptr 1 0 0 0))],[ar 0 Y50 a1 .dp,bx (lv Y84 f.1) 85]⟩ (tn 2) ?_
  refine cnd h ?_ ?_<;>intro h
  ·obtain⟨L,h⟩:=gS h
   refine nE K (pu 2 (an L (tn 1))) ?_
   exact arv [.shr 1, .wk 0, .ren [1,65536] [0,1]] ⟨(a1.take a.2.toNat),f.1.1,f.1.2.1,f.1.2.2,rfl,h⟩
  refine nR K (tn 2) ?_
  refine cnd h ?_ ?_<;>intro h
  ·refine VW.region ?_
   obtain⟨M,h⟩:=gS h
   refine nG K 6 (pu 4 (an M (tn 1))) ?_
   obtain⟨u,h⟩:=gS h
   refine VO.colApp (d1:=76) (d2:=77) (d3:=78) (d4:=79) (d5:=80) (id:=0) (cur:=0) (i:=a.2.toNat) (j:=6) (z:=a.2) (c:=(0:Int)) (kk:= .i64) (k:= .i64) (e:=Y50) (xs:=a1) (ys:=((a1.getD a.2.toNat D50).2.2.2.2.2.2)) (x':=((a1.getD a.2.toNat D50).1,((a1.getD a.2.toNat D50).2.1,((a1.getD a.2.toNat D50).2.2.1,((a1.getD a.2.toNat D50).2.2.2.1,((a1.getD a.2.toNat D50).2.2.2.2.1,((a1.getD a.2.toNat D50).2.2.2.2.2.1,(((a1.getD a.2.toNat D50).2.2.2.2.2.2)++[(0:Int)])))))))) K ⟨rfl,rfl,rfl⟩ ⟨rfl,rfl,rfl⟩ rfl ⟨rfl,rfl,rfl⟩ ⟨rfl,rfl,rfl⟩ ⟨rfl,rfl,rfl⟩ ⟨rfl,rfl,rfl⟩ ⟨rfl,rfl,rfl⟩ (by kernel_rfl) rfl (by kernel_rfl) (by kernel_rfl) (by kernel_rfl) (by kernel_rfl) (by kernel_rfl) (by kernel_rfl) (by kernel_rfl) (by kernel_rfl) ⟨u.1,rfl⟩ u.2 ?_
   refine sN K [1,65536] [0,1] ⟨[(1,hh 0),(65536, .lf (.ptr 1 0 0 0))],[ar 0 Y50 (a1.set a.2.toNat ((a1.getD a.2.toNat D50).1,((a1.getD a.2.toNat D50).2.1,((a1.getD a.2.toNat D50).2.2.1,((a1.getD a.2.toNat D50).2.2.2.1,((a1.getD a.2.toNat D50).2.2.2.2.1,((a1.getD a.2.toNat D50).2.2.2.2.2.1,(((a1.getD a.2.toNat D50).2.2.2.2.2.2)++[(0:Int)])))))))) .dp,bx (lv Y84 f.1) 85]⟩ (tn 0) ?_
   exact arv [.wk 0, .ren [1,65536] [0,1]] ⟨(a1.set a.2.toNat ((a1.getD a.2.toNat D50).1,((a1.getD a.2.toNat D50).2.1,((a1.getD a.2.toNat D50).2.2.1,((a1.getD a.2.toNat D50).2.2.2.1,((a1.getD a.2.toNat D50).2.2.2.2.1,((a1.getD a.2.toNat D50).2.2.2.2.2.1,(((a1.getD a.2.toNat D50).2.2.2.2.2.2)++[(0:Int)])))))))),f.1.1,f.1.2.1,f.1.2.2,rfl,h⟩
  refine VW.skip ?_
  exact arv [.wk 0, .ren [1,65536] [0,1]] ⟨a1,f.1.1,f.1.2.1,f.1.2.2,rfl,h⟩
 rintro s ⟨n,o,p,q,rfl,h⟩
 unfold F60_j0 at h
 refine nR K (tn 2) ?_
 replace h:=Option.some.inj h
 subst h
 refine VW.ghl [.ren [4,65536] [1,100001,0]] (VW.ret ?_)
 exact ⟨[some 2],by kernel_rfl,by kernel_rfl,by kernel_rfl⟩
def F96 (N:Nat) (a0:Int) (a1:Int) (a2:Int):Option (Bool) :=
  cond (decide (a1≤a0)) (some (decide (a0≤a2))) (some false)
theorem ok96 N a0 a1 a2 {r} (h:F96 N a0 a1 a2=some r):Con prog 96 [I a0,I a1,I a2] [.lf (.v .bool r)]:=by
 refine ctr [.lf (.v .bool)] K func96 rfl fun w0 E0 ht=>?_
 unfold F96 at h
 show VW _ _ _ _ _ (retQ _ _ _ _) _
 refine nR K (tn 1) <| sq <| VW.region <| nG K 4 (tn 4) ?_
 refine spC 10 h ?_ ?_<;>intro h
 ·refine nN K (tn 5) ?_
  cases h;exact VW.ret (rt [])
 refine nN K (tn 5) ?_
 cases h;exact VW.ret (rt [])
def F153 (N:Nat) (a0:Int):Option (Bool) :=
  andO (F96 N a0 (-1000000:Int) (1000000:Int)) fun a=>some a
theorem ok153 N a0 {r} (h:F153 N a0=some r):Con prog 153 [I a0] [.lf (.v .bool r)]:=by
 refine ctr [.lf (.v .bool)] K func153 rfl fun w0 E0 ht=>?_
 unfold F153 at h
 show VW _ _ _ _ _ (retQ _ _ _ _) _
 refine nR K (tn 1) <| sq <| VW.region <| nG K 1 (tn 1) ?_
 obtain⟨a,hy,h⟩:=aS h
 refine clc false [.t B0, .t B0, .t B0] [] (some 4) K (ok96 N _ _ _ hy) <| nN K (tn 1) ?_
 cases h;exact VW.ret (rt [])
def F160_j0 (N:Nat):Option (Bool) :=
  some true
def F160_j1 (N:Nat) (a:Int→Option (Bool)) (b:Int):Option (Bool) :=
  a (IntKind.i64.wrap (b+(1:Int)))
def F160_l0_b (N:Nat) (a0:ByteArray) (b:Int→Option (Bool)) (a:Int):Option (Bool) :=
  cond (decide (a < (a0.size:Int))) (gd (InR a a0.size) (cond (decide (((a0.data.getD a.toNat 0).toNat:Int) < (97:Int))) (gd (InR a a0.size) (cond (decide (((a0.data.getD a.toNat 0).toNat:Int) < (48:Int))) (some false) (gd (InR a a0.size) (cond (decide (((a0.data.getD a.toNat 0).toNat:Int) > (57:Int))) (some false) (F160_j1 N b a))))) (gd (InR a a0.size) (cond (decide (((a0.data.getD a.toNat 0).toNat:Int) > (122:Int))) (gd (InR a a0.size) (cond (decide (((a0.data.getD a.toNat 0).toNat:Int) < (48:Int))) (some false) (gd (InR a a0.size) (cond (decide (((a0.data.getD a.toNat 0).toNat:Int) > (57:Int))) (some false) (F160_j1 N b a))))) (F160_j1 N b a))))) (F160_j0 N)
def F160_l0 (N:Nat) (a0:ByteArray):=loopF (F160_l0_b N a0) (fun _=>none)
theorem F160_l0_s {N a0 k} (hk:0 < k:=by omega):F160_l0 N a0 k=F160_l0_b N a0 (F160_l0 N a0 (k - 1)):=lS hk
def F160 (N:Nat) (a0:ByteArray):Option (Bool) :=
  andO (F96 N (a0.size:Int) (1:Int) (12:Int)) fun a=>cond (!a) (some false) (gd (InR (0:Int) a0.size) (cond (decide (((a0.data.getD (0:Int).toNat 0).toNat:Int) < (97:Int))) (some false) (F160_l0 N a0 N (0:Int))))
theorem ok160 N a0 {r} (h:F160 N a0=some r):Con prog 160 [S a0] [.lf (.v .bool r)]:=by
 refine ctr [.lf (.v .bool)] K func160 rfl fun w0 E0 ht=>?_
 unfold F160 at h
 show VW _ _ _ _ _ (retQ _ _ _ _) _
 refine nR K (tn 1) <| sq <| sq <| VW.region <| nG K 2 (tn 2) ?_
 obtain⟨m,hy,h⟩:=aS h
 refine clc false [.t B0, .t B0, .t B0] [] (some 6) K (ok96 N _ _ _ hy) <| nG K 2 (tn 2) ?_
 refine spC 8 h ?_ ?_<;>intro h
 ·refine nN K (tn 4) ?_
  refine VW.cond (b:=true) (by kernel_rfl) (fun _=>?_) (fun h'=>nomatch h')
  refine nR K (tn 1) ?_
  cases h;exact VW.ret (rt [])
 obtain⟨d,h⟩:=gS h
 refine nN K (pu 1 (an d (tn 2))) ?_
 refine cnd h ?_ ?_<;>intro h
 ·refine nR K (tn 1) ?_
  cases h;exact VW.ret (rt [])
 refine VW.skip ?_
 refine VW.join (fun s=>s=⟨[],[]⟩∧F160_j0 N=some r) ?_ ?_
 ·refine nR K (tn 1) <| VW.block <| lop (fun k s=>∃a,s=⟨[(0,S a0),(3,I a)],[]⟩∧F160_l0 N a0 k a=some r) N [.ren [0,3] []] ⟨(0:Int),rfl,h⟩ ?_
  rintro c s ⟨a,rfl,h⟩
  cases c with
  | zero=>exact nv h
  | succ c =>
   rw [F160_l0_s,F160_l0_b] at h
   refine sq <| nR K (tn 4) ?_
   refine cnd h ?_ ?_<;>intro h
   ·refine VW.skip ?_
    refine VW.join (fun s=>s=⟨[(0,S a0),(3,I a)],[]⟩∧F160_j1 N (F160_l0 N a0 c) a=some r) ?_ ?_
    ·refine VW.block <| sq <| VW.region ?_
     obtain⟨e,h⟩:=gS h
     refine nG K 5 (pu 2 (an e (tn 2))) ?_
     refine spC 23 h ?_ ?_<;>intro h
     ·obtain⟨f,h⟩:=gS h
      refine nG K 11 (pu 8 (an f (tn 2))) ?_
      refine spC 34 h ?_ ?_<;>intro h
      ·refine nN K (tn 6) ?_
       refine VW.cond (b:=true) (by kernel_rfl) (fun _=>?_) (fun h'=>nomatch h')
       refine nR K (tn 1) ?_
       cases h;exact VW.ret (rt [])
      obtain⟨g,h⟩:=gS h
      refine nN K (pu 2 (an g (tn 3))) ?_
      refine cnd h ?_ ?_<;>intro h
      ·refine nR K (tn 1) ?_
       cases h;exact VW.ret (rt [])
      refine VW.skip ?_
      exact arv [.ren [0,3] []] ⟨rfl,h⟩
     obtain⟨i,h⟩:=gS h
     refine nG K 6 (pu 2 (an i (tn 3))) ?_
     refine spC 29 h ?_ ?_<;>intro h
     ·obtain⟨j,h⟩:=gS h
      refine nG K 5 (pu 2 (an j (tn 2))) ?_
      refine spC 34 h ?_ ?_<;>intro h
      ·refine nN K (tn 6) ?_
       refine VW.cond (b:=true) (by kernel_rfl) (fun _=>?_) (fun h'=>nomatch h')
       refine nR K (tn 1) ?_
       cases h;exact VW.ret (rt [])
      obtain⟨l,h⟩:=gS h
      refine nN K (pu 2 (an l (tn 3))) ?_
      refine cnd h ?_ ?_<;>intro h
      ·refine nR K (tn 1) ?_
       cases h;exact VW.ret (rt [])
      refine VW.skip ?_
      exact arv [.ren [0,3] []] ⟨rfl,h⟩
     refine nN K (tn 11) ?_
     refine VW.cond (b:=false) (by kernel_rfl) (fun h'=>nomatch h') (fun _=>?_)
     refine VW.skip ?_
     exact arv [.ren [0,3] []] ⟨rfl,h⟩
    rintro s ⟨rfl,h⟩
    unfold F160_j1 at h
    refine nE K (tn 3) ?_
    exact aro [.ren [0,3] []] ⟨(wr (a+(1:Int))),rfl,h⟩
   refine VW.exit ?_
   exact arv [.ren [] []] ⟨rfl,h⟩
 rintro s ⟨rfl,h⟩
 unfold F160_j0 at h
 refine nR K (tn 1) ?_
 cases h;exact VW.ret (rt [])
def F161 (N:Nat) (a0:Int):Option (Bool) :=
  andO (F96 N a0 (0:Int) (63:Int)) fun a=>some a
theorem ok161 N a0 {r} (h:F161 N a0=some r):Con prog 161 [I a0] [.lf (.v .bool r)]:=by
 refine ctr [.lf (.v .bool)] K func161 rfl fun w0 E0 ht=>?_
 unfold F161 at h
 show VW _ _ _ _ _ (retQ _ _ _ _) _
 refine nR K (tn 1) <| sq <| VW.region <| nG K 1 (tn 1) ?_
 obtain⟨a,hy,h⟩:=aS h
 refine clc false [.t B0, .t B0, .t B0] [] (some 4) K (ok96 N _ _ _ hy) <| nN K (tn 1) ?_
 cases h;exact VW.ret (rt [])
def F97_j0 (N:Nat):Option (Bool) :=
  some false
def F97_j1 (N:Nat) (a:Int) (b:Int) (c:Bool) (d:L1):Option (Bool) :=
  andO (F96 N (d.length:Int) (1:Int) (6:Int)) fun e=>cond e (cond (a == (0:Int)) (cond (b == (0:Int)) (some (!c)) (some false)) (some false)) (some false)
def F97_l0_b (N:Nat) (d:Int) (e:Int) (f:Bool) (a:L1) (c:Int→Option (Bool)) (b:Int):Option (Bool) :=
  cond (decide (b < (a.length:Int))) (gd (InR b a.length) (andO (F161 N (a.getD b.toNat (Ty.dflt B0))) fun g=>cond (!g) (some false) (c (IntKind.i64.wrap (b+(1:Int)))))) (F97_j1 N d e f a)
def F97_l0 (N:Nat) (a:Int) (b:Int) (c:Bool) (d:L1):=loopF (F97_l0_b N a b c d) (fun _=>none)
theorem F97_l0_s {N a b c d k} (hk:0 < k:=by omega):F97_l0 N a b c d k=F97_l0_b N a b c d (F97_l0 N a b c d (k - 1)):=lS hk
def F97_j2 (N:Nat) (a:Int) (b:Int) (c:Bool) (d:Bool):Option (Bool) :=
  cond d (cond (a == (0:Int)) (cond (b == (0:Int)) (some (!c)) (some false)) (some false)) (F97_j0 N)
def F97_j3 (N:Nat) (b:Int) (f:ByteArray) (c:Int) (e:Int) (a:Int) (d:Bool) (g:L1):Option (Bool) :=
  cond (b == (0:Int)) (andO (F160 N f) fun h=>cond h (cond (c == (0:Int)) (cond (a == (0:Int)) (some (!d)) (some false)) (some false)) (some false)) (cond (b == (1:Int)) (andO (F161 N c) fun i=>cond i (andO (F96 N e (0:Int) (3:Int)) fun j=>cond j (andO (F153 N a) fun k=>cond k (cond (e != (3:Int)) (some true) (cond (a == (0:Int)) (some (!d)) (some false))) (some false)) (some false)) (some false)) (cond (b == (2:Int)) (F97_l0 N c a d g N (0:Int)) (cond (b == (3:Int)) (andO (F161 N c) fun l=>cond l (andO (F161 N a) fun m=>cond m (some (!d)) (some false)) (some false)) (cond (b == (5:Int)) (andO (F161 N c) fun n=>cond n (cond (a == (0:Int)) (some (!d)) (some false)) (some false)) (cond (b == (6:Int)) (cond (c == (0:Int)) (andO (F96 N a (0:Int) (1000000:Int)) fun o=>some o) (some false)) (cond (b == (4:Int)) (F97_j2 N c a d (b == (4:Int))) (F97_j2 N c a d (b == (7:Int)))))))))
def F97 (N:Nat) (a0:Z50):Option (Bool) :=
  cond (a0.1 != (0:Int)) (cond (!(a0.2.1.toList == ByteArray.empty.toList)) (some false) (cond (a0.1 != (2:Int)) (cond (decide ((a0.2.2.2.2.2.2.length:Int) > (0:Int))) (some false) (cond (a0.1 != (1:Int)) (cond (a0.2.2.2.1 != (0:Int)) (some false) (cond a0.2.2.2.2.2.1 (andO (F96 N a0.2.2.2.2.1 (0:Int) (39:Int)) fun g=>cond (!g) (some false) (F97_j3 N a0.1 a0.2.1 a0.2.2.1 a0.2.2.2.1 a0.2.2.2.2.1 a0.2.2.2.2.2.1 a0.2.2.2.2.2.2)) (F97_j3 N a0.1 a0.2.1 a0.2.2.1 a0.2.2.2.1 a0.2.2.2.2.1 a0.2.2.2.2.2.1 a0.2.2.2.2.2.2))) (cond a0.2.2.2.2.2.1 (andO (F96 N a0.2.2.2.2.1 (0:Int) (39:Int)) fun h=>cond (!h) (some false) (F97_j3 N a0.1 a0.2.1 a0.2.2.1 a0.2.2.2.1 a0.2.2.2.2.1 a0.2.2.2.2.2.1 a0.2.2.2.2.2.2)) (F97_j3 N a0.1 a0.2.1 a0.2.2.1 a0.2.2.2.1 a0.2.2.2.2.1 a0.2.2.2.2.2.1 a0.2.2.2.2.2.2)))) (cond (a0.1 != (1:Int)) (cond (a0.2.2.2.1 != (0:Int)) (some false) (cond a0.2.2.2.2.2.1 (andO (F96 N a0.2.2.2.2.1 (0:Int) (39:Int)) fun a=>cond (!a) (some false) (F97_j3 N a0.1 a0.2.1 a0.2.2.1 a0.2.2.2.1 a0.2.2.2.2.1 a0.2.2.2.2.2.1 a0.2.2.2.2.2.2)) (F97_j3 N a0.1 a0.2.1 a0.2.2.1 a0.2.2.2.1 a0.2.2.2.2.1 a0.2.2.2.2.2.1 a0.2.2.2.2.2.2))) (cond a0.2.2.2.2.2.1 (andO (F96 N a0.2.2.2.2.1 (0:Int) (39:Int)) fun b=>cond (!b) (some false) (F97_j3 N a0.1 a0.2.1 a0.2.2.1 a0.2.2.2.1 a0.2.2.2.2.1 a0.2.2.2.2.2.1 a0.2.2.2.2.2.2)) (F97_j3 N a0.1 a0.2.1 a0.2.2.1 a0.2.2.2.1 a0.2.2.2.2.1 a0.2.2.2.2.2.1 a0.2.2.2.2.2.2))))) (cond (a0.1 != (2:Int)) (cond (decide ((a0.2.2.2.2.2.2.length:Int) > (0:Int))) (some false) (cond (a0.1 != (1:Int)) (cond (a0.2.2.2.1 != (0:Int)) (some false) (cond a0.2.2.2.2.2.1 (andO (F96 N a0.2.2.2.2.1 (0:Int) (39:Int)) fun c=>cond (!c) (some false) (F97_j3 N a0.1 a0.2.1 a0.2.2.1 a0.2.2.2.1 a0.2.2.2.2.1 a0.2.2.2.2.2.1 a0.2.2.2.2.2.2)) (F97_j3 N a0.1 a0.2.1 a0.2.2.1 a0.2.2.2.1 a0.2.2.2.2.1 a0.2.2.2.2.2.1 a0.2.2.2.2.2.2))) (cond a0.2.2.2.2.2.1 (andO (F96 N a0.2.2.2.2.1 (0:Int) (39:Int)) fun d=>cond (!d) (some false) (F97_j3 N a0.1 a0.2.1 a0.2.2.1 a0.2.2.2.1 a0.2.2.2.2.1 a0.2.2.2.2.2.1 a0.2.2.2.2.2.2)) (F97_j3 N a0.1 a0.2.1 a0.2.2.1 a0.2.2.2.1 a0.2.2.2.2.1 a0.2.2.2.2.2.1 a0.2.2.2.2.2.2)))) (cond (a0.1 != (1:Int)) (cond (a0.2.2.2.1 != (0:Int)) (some false) (cond a0.2.2.2.2.2.1 (andO (F96 N a0.2.2.2.2.1 (0:Int) (39:Int)) fun e=>cond (!e) (some false) (F97_j3 N a0.1 a0.2.1 a0.2.2.1 a0.2.2.2.1 a0.2.2.2.2.1 a0.2.2.2.2.2.1 a0.2.2.2.2.2.2)) (F97_j3 N a0.1 a0.2.1 a0.2.2.1 a0.2.2.2.1 a0.2.2.2.2.1 a0.2.2.2.2.2.1 a0.2.2.2.2.2.2))) (cond a0.2.2.2.2.2.1 (andO (F96 N a0.2.2.2.2.1 (0:Int) (39:Int)) fun f=>cond (!f) (some false) (F97_j3 N a0.1 a0.2.1 a0.2.2.1 a0.2.2.2.1 a0.2.2.2.2.1 a0.2.2.2.2.2.1 a0.2.2.2.2.2.2)) (F97_j3 N a0.1 a0.2.1 a0.2.2.1 a0.2.2.2.1 a0.2.2.2.2.1 a0.2.2.2.2.2.1 a0.2.2.2.2.2.2))))
theorem ok97 N a0 {r} (h:F97 N a0=some r):Con prog 97 [.agg (lv Y50 a0)] [.lf (.v .bool r)]:=by
 refine ctr [.lf (.v .bool)] K func97 rfl fun w0 E0 ht=>?_
 unfold F97 at h
 show VW _ _ _ _ _ (retQ _ _ _ _) _
 refine nR K (tn 2) ?_
 refine VW.join (fun s=>∃g i a l c e f,s=⟨[(1, .lf (.ptr 0 0 0 0))],[bx [zi g,zs i,zi a,zi l,zi c,zb e, .v B1 f] 51]⟩∧F97_j3 N g i a l c e f=some r) ?_ ?_
 ·refine sq <| VW.region <| nG K 4 (tn 4) ?_
  refine spC 7 h ?_ ?_<;>intro h
  ·refine nG K 5 (tn 5) ?_
   refine spC 12 h ?_ ?_<;>intro h
   ·refine nN K (tn 30) ?_
    refine VW.cond (b:=true) (by kernel_rfl) (fun _=>?_) (fun h'=>nomatch h')
    refine nR K (tn 1) ?_
    cases h;exact VW.ret (rt [])
   refine nG K 4 (tn 4) ?_
   refine spC 16 h ?_ ?_<;>intro h
   ·refine nG K 7 (tn 7) ?_
    refine spC 23 h ?_ ?_<;>intro h
    ·refine nN K (tn 19) ?_
     refine VW.cond (b:=true) (by kernel_rfl) (fun _=>?_) (fun h'=>nomatch h')
     refine nR K (tn 1) ?_
     cases h;exact VW.ret (rt [])
    refine nG K 4 (tn 4) ?_
    refine spC 27 h ?_ ?_<;>intro h
    ·refine nG K 6 (tn 6) ?_
     refine spC 33 h ?_ ?_<;>intro h
     ·refine nN K (tn 9) ?_
      refine VW.cond (b:=true) (by kernel_rfl) (fun _=>?_) (fun h'=>nomatch h')
      refine nR K (tn 1) ?_
      cases h;exact VW.ret (rt [])
     refine nG K 3 (tn 3) ?_
     refine spC 36 h ?_ ?_<;>intro h
     ·refine nG K 2 (tn 2) <| VO.on (j:=32) (want:=true) (d:=36) (b:=true) rfl rfl rfl (by kernel_rfl) rfl ?_
      obtain⟨O,hy,h⟩:=aS h
      refine clc false [.t B0, .t B0, .t B0] [] (some 39) K (ok96 N _ _ _ hy) <| nN K (tn 3) ?_
      refine cnd h ?_ ?_<;>intro h
      ·refine nR K (tn 1) ?_
       cases h;exact VW.ret (rt [])
      refine VW.skip ?_
      exact arv [.ren [1] [0]] ⟨a0.1,a0.2.1,a0.2.2.1,a0.2.2.2.1,a0.2.2.2.2.1,a0.2.2.2.2.2.1,a0.2.2.2.2.2.2,rfl,h⟩
     refine nN K (tn 6) ?_
     refine VW.cond (b:=false) (by kernel_rfl) (fun h'=>nomatch h') (fun _=>?_)
     refine VW.skip ?_
     exact arv [.ren [1] [0]] ⟨a0.1,a0.2.1,a0.2.2.1,a0.2.2.2.1,a0.2.2.2.2.1,a0.2.2.2.2.2.1,a0.2.2.2.2.2.2,rfl,h⟩
    refine nG K 9 (tn 9) ?_
    refine spC 36 h ?_ ?_<;>intro h
    ·refine nG K 2 (tn 2) <| VO.on (j:=32) (want:=true) (d:=36) (b:=true) rfl rfl rfl (by kernel_rfl) rfl ?_
     obtain⟨P,hy,h⟩:=aS h
     refine clc false [.t B0, .t B0, .t B0] [] (some 39) K (ok96 N _ _ _ hy) <| nN K (tn 3) ?_
     refine cnd h ?_ ?_<;>intro h
     ·refine nR K (tn 1) ?_
      cases h;exact VW.ret (rt [])
     refine VW.skip ?_
     exact arv [.ren [1] [0]] ⟨a0.1,a0.2.1,a0.2.2.1,a0.2.2.2.1,a0.2.2.2.2.1,a0.2.2.2.2.2.1,a0.2.2.2.2.2.2,rfl,h⟩
    refine nN K (tn 6) ?_
    refine VW.cond (b:=false) (by kernel_rfl) (fun h'=>nomatch h') (fun _=>?_)
    refine VW.skip ?_
    exact arv [.ren [1] [0]] ⟨a0.1,a0.2.1,a0.2.2.1,a0.2.2.2.1,a0.2.2.2.2.1,a0.2.2.2.2.2.1,a0.2.2.2.2.2.2,rfl,h⟩
   refine nG K 11 (tn 11) ?_
   refine spC 27 h ?_ ?_<;>intro h
   ·refine nG K 6 (tn 6) ?_
    refine spC 33 h ?_ ?_<;>intro h
    ·refine nN K (tn 9) ?_
     refine VW.cond (b:=true) (by kernel_rfl) (fun _=>?_) (fun h'=>nomatch h')
     refine nR K (tn 1) ?_
     cases h;exact VW.ret (rt [])
    refine nG K 3 (tn 3) ?_
    refine spC 36 h ?_ ?_<;>intro h
    ·refine nG K 2 (tn 2) <| VO.on (j:=32) (want:=true) (d:=36) (b:=true) rfl rfl rfl (by kernel_rfl) rfl ?_
     obtain⟨q,hy,h⟩:=aS h
     refine clc false [.t B0, .t B0, .t B0] [] (some 39) K (ok96 N _ _ _ hy) <| nN K (tn 3) ?_
     refine cnd h ?_ ?_<;>intro h
     ·refine nR K (tn 1) ?_
      cases h;exact VW.ret (rt [])
     refine VW.skip ?_
     exact arv [.ren [1] [0]] ⟨a0.1,a0.2.1,a0.2.2.1,a0.2.2.2.1,a0.2.2.2.2.1,a0.2.2.2.2.2.1,a0.2.2.2.2.2.2,rfl,h⟩
    refine nN K (tn 6) ?_
    refine VW.cond (b:=false) (by kernel_rfl) (fun h'=>nomatch h') (fun _=>?_)
    refine VW.skip ?_
    exact arv [.ren [1] [0]] ⟨a0.1,a0.2.1,a0.2.2.1,a0.2.2.2.1,a0.2.2.2.2.1,a0.2.2.2.2.2.1,a0.2.2.2.2.2.2,rfl,h⟩
   refine nG K 9 (tn 9) ?_
   refine spC 36 h ?_ ?_<;>intro h
   ·refine nG K 2 (tn 2) <| VO.on (j:=32) (want:=true) (d:=36) (b:=true) rfl rfl rfl (by kernel_rfl) rfl ?_
    obtain⟨u,hy,h⟩:=aS h
    refine clc false [.t B0, .t B0, .t B0] [] (some 39) K (ok96 N _ _ _ hy) <| nN K (tn 3) ?_
    refine cnd h ?_ ?_<;>intro h
    ·refine nR K (tn 1) ?_
     cases h;exact VW.ret (rt [])
    refine VW.skip ?_
    exact arv [.ren [1] [0]] ⟨a0.1,a0.2.1,a0.2.2.1,a0.2.2.2.1,a0.2.2.2.2.1,a0.2.2.2.2.2.1,a0.2.2.2.2.2.2,rfl,h⟩
   refine nN K (tn 6) ?_
   refine VW.cond (b:=false) (by kernel_rfl) (fun h'=>nomatch h') (fun _=>?_)
   refine VW.skip ?_
   exact arv [.ren [1] [0]] ⟨a0.1,a0.2.1,a0.2.2.1,a0.2.2.2.1,a0.2.2.2.2.1,a0.2.2.2.2.2.1,a0.2.2.2.2.2.2,rfl,h⟩
  refine nG K 9 (tn 9) ?_
  refine spC 16 h ?_ ?_<;>intro h
  ·refine nG K 7 (tn 7) ?_
   refine spC 23 h ?_ ?_<;>intro h
   ·refine nN K (tn 19) ?_
    refine VW.cond (b:=true) (by kernel_rfl) (fun _=>?_) (fun h'=>nomatch h')
    refine nR K (tn 1) ?_
    cases h;exact VW.ret (rt [])
   refine nG K 4 (tn 4) ?_
   refine spC 27 h ?_ ?_<;>intro h
   ·refine nG K 6 (tn 6) ?_
    refine spC 33 h ?_ ?_<;>intro h
    ·refine nN K (tn 9) ?_
     refine VW.cond (b:=true) (by kernel_rfl) (fun _=>?_) (fun h'=>nomatch h')
     refine nR K (tn 1) ?_
     cases h;exact VW.ret (rt [])
    refine nG K 3 (tn 3) ?_
    refine spC 36 h ?_ ?_<;>intro h
    ·refine nG K 2 (tn 2) <| VO.on (j:=32) (want:=true) (d:=36) (b:=true) rfl rfl rfl (by kernel_rfl) rfl ?_
     obtain⟨w,hy,h⟩:=aS h
     refine clc false [.t B0, .t B0, .t B0] [] (some 39) K (ok96 N _ _ _ hy) <| nN K (tn 3) ?_
     refine cnd h ?_ ?_<;>intro h
     ·refine nR K (tn 1) ?_
      cases h;exact VW.ret (rt [])
     refine VW.skip ?_
     exact arv [.ren [1] [0]] ⟨a0.1,a0.2.1,a0.2.2.1,a0.2.2.2.1,a0.2.2.2.2.1,a0.2.2.2.2.2.1,a0.2.2.2.2.2.2,rfl,h⟩
    refine nN K (tn 6) ?_
    refine VW.cond (b:=false) (by kernel_rfl) (fun h'=>nomatch h') (fun _=>?_)
    refine VW.skip ?_
    exact arv [.ren [1] [0]] ⟨a0.1,a0.2.1,a0.2.2.1,a0.2.2.2.1,a0.2.2.2.2.1,a0.2.2.2.2.2.1,a0.2.2.2.2.2.2,rfl,h⟩
   refine nG K 9 (tn 9) ?_
   refine spC 36 h ?_ ?_<;>intro h
   ·refine nG K 2 (tn 2) <| VO.on (j:=32) (want:=true) (d:=36) (b:=true) rfl rfl rfl (by kernel_rfl) rfl ?_
    obtain⟨x,hy,h⟩:=aS h
    refine clc false [.t B0, .t B0, .t B0] [] (some 39) K (ok96 N _ _ _ hy) <| nN K (tn 3) ?_
    refine cnd h ?_ ?_<;>intro h
    ·refine nR K (tn 1) ?_
     cases h;exact VW.ret (rt [])
    refine VW.skip ?_
    exact arv [.ren [1] [0]] ⟨a0.1,a0.2.1,a0.2.2.1,a0.2.2.2.1,a0.2.2.2.2.1,a0.2.2.2.2.2.1,a0.2.2.2.2.2.2,rfl,h⟩
   refine nN K (tn 6) ?_
   refine VW.cond (b:=false) (by kernel_rfl) (fun h'=>nomatch h') (fun _=>?_)
   refine VW.skip ?_
   exact arv [.ren [1] [0]] ⟨a0.1,a0.2.1,a0.2.2.1,a0.2.2.2.1,a0.2.2.2.2.1,a0.2.2.2.2.2.1,a0.2.2.2.2.2.2,rfl,h⟩
  refine nG K 11 (tn 11) ?_
  refine spC 27 h ?_ ?_<;>intro h
  ·refine nG K 6 (tn 6) ?_
   refine spC 33 h ?_ ?_<;>intro h
   ·refine nN K (tn 9) ?_
    refine VW.cond (b:=true) (by kernel_rfl) (fun _=>?_) (fun h'=>nomatch h')
    refine nR K (tn 1) ?_
    cases h;exact VW.ret (rt [])
   refine nG K 3 (tn 3) ?_
   refine spC 36 h ?_ ?_<;>intro h
   ·refine nG K 2 (tn 2) <| VO.on (j:=32) (want:=true) (d:=36) (b:=true) rfl rfl rfl (by kernel_rfl) rfl ?_
    obtain⟨y,hy,h⟩:=aS h
    refine clc false [.t B0, .t B0, .t B0] [] (some 39) K (ok96 N _ _ _ hy) <| nN K (tn 3) ?_
    refine cnd h ?_ ?_<;>intro h
    ·refine nR K (tn 1) ?_
     cases h;exact VW.ret (rt [])
    refine VW.skip ?_
    exact arv [.ren [1] [0]] ⟨a0.1,a0.2.1,a0.2.2.1,a0.2.2.2.1,a0.2.2.2.2.1,a0.2.2.2.2.2.1,a0.2.2.2.2.2.2,rfl,h⟩
   refine nN K (tn 6) ?_
   refine VW.cond (b:=false) (by kernel_rfl) (fun h'=>nomatch h') (fun _=>?_)
   refine VW.skip ?_
   exact arv [.ren [1] [0]] ⟨a0.1,a0.2.1,a0.2.2.1,a0.2.2.2.1,a0.2.2.2.2.1,a0.2.2.2.2.2.1,a0.2.2.2.2.2.2,rfl,h⟩
  refine nG K 9 (tn 9) ?_
  refine spC 36 h ?_ ?_<;>intro h
  ·refine nG K 2 (tn 2) <| VO.on (j:=32) (want:=true) (d:=36) (b:=true) rfl rfl rfl (by kernel_rfl) rfl ?_
   obtain⟨z,hy,h⟩:=aS h
   refine clc false [.t B0, .t B0, .t B0] [] (some 39) K (ok96 N _ _ _ hy) <| nN K (tn 3) ?_
   refine cnd h ?_ ?_<;>intro h
   ·refine nR K (tn 1) ?_
    cases h;exact VW.ret (rt [])
   refine VW.skip ?_
   exact arv [.ren [1] [0]] ⟨a0.1,a0.2.1,a0.2.2.1,a0.2.2.2.1,a0.2.2.2.2.1,a0.2.2.2.2.2.1,a0.2.2.2.2.2.2,rfl,h⟩
  refine nN K (tn 6) ?_
  refine VW.cond (b:=false) (by kernel_rfl) (fun h'=>nomatch h') (fun _=>?_)
  refine VW.skip ?_
  exact arv [.ren [1] [0]] ⟨a0.1,a0.2.1,a0.2.2.1,a0.2.2.2.1,a0.2.2.2.2.1,a0.2.2.2.2.2.1,a0.2.2.2.2.2.2,rfl,h⟩
 rintro s ⟨g,i,a,l,c,e,f,rfl,h⟩
 unfold F97_j3 at h
 refine VW.join (fun s=>s=⟨[],[]⟩∧F97_j0 N=some r) ?_ ?_
 ·refine nR K (tn 2) <| VW.block <| nR K (tn 2) ?_
  refine cnd h ?_ ?_<;>intro h
  ·refine sq <| VW.region <| nG K 2 (tn 2) ?_
   obtain⟨A,hy,h⟩:=aS h
   refine clc false [.t .str] [] (some 49) K (ok160 N _ hy) <| nG K 1 (tn 1) ?_
   refine spC 50 h ?_ ?_<;>intro h
   ·refine nG K 5 (tn 5) ?_
    refine spC 55 h ?_ ?_<;>intro h
    ·refine nG K 5 (tn 5) ?_
     refine spC 60 h ?_ ?_<;>intro h
     ·refine nN K (tn 5) ?_
      cases h;exact VW.ret (rt [])
     refine nN K (tn 5) ?_
     cases h;exact VW.ret (rt [])
    refine nN K (tn 10) ?_
    cases h;exact VW.ret (rt [])
   refine nN K (tn 15) ?_
   cases h;exact VW.ret (rt [])
  refine nR K (tn 2) ?_
  refine cnd h ?_ ?_<;>intro h
  ·refine sq <| VW.region <| nG K 2 (tn 2) ?_
   obtain⟨C,hy,h⟩:=aS h
   refine clc false [.t B0] [] (some 69) K (ok161 N _ hy) <| nG K 1 (tn 1) ?_
   refine spC 70 h ?_ ?_<;>intro h
   ·refine nG K 2 (tn 2) <| VO.on (j:=3) (want:=true) (d:=70) (b:=true) rfl rfl rfl (by kernel_rfl) rfl ?_
    obtain⟨D,hy,h⟩:=aS h
    refine clc false [.t B0, .t B0, .t B0] [] (some 73) K (ok96 N _ _ _ hy) <| nG K 2 (tn 2) ?_
    refine spC 75 h ?_ ?_<;>intro h
    ·refine nG K 2 (tn 2) <| VO.on (j:=8) (want:=true) (d:=75) (b:=true) rfl rfl rfl (by kernel_rfl) rfl ?_
     obtain⟨E,hy,h⟩:=aS h
     refine clc false [.t B0] [] (some 78) K (ok153 N _ hy) <| nG K 2 (tn 2) ?_
     refine spC 80 h ?_ ?_<;>intro h
     ·refine nG K 4 (tn 4) ?_
      refine spC 84 h ?_ ?_<;>intro h
      ·refine nN K (tn 11) ?_
       cases h;exact VW.ret (rt [])
      refine nG K 4 (tn 4) ?_
      refine spC 88 h ?_ ?_<;>intro h
      ·refine nN K (tn 7) ?_
       cases h;exact VW.ret (rt [])
      refine nN K (tn 7) ?_
      cases h;exact VW.ret (rt [])
     refine nN K (tn 15) ?_
     cases h;exact VW.ret (rt [])
    refine nN K (tn 20) ?_
    cases h;exact VW.ret (rt [])
   refine nN K (tn 25) ?_
   cases h;exact VW.ret (rt [])
  refine nR K (tn 2) ?_
  refine cnd h ?_ ?_<;>intro h
  ·refine VW.join (fun s=>s=⟨[(1, .lf (.ptr 0 0 0 0))],[bx [zi g,zs i,zi a,zi l,zi c,zb e, .v B1 f] 51]⟩∧F97_j1 N a c e f=some r) ?_ ?_
   ·refine nR K (tn 1) <| VW.block <| lop (fun k s=>∃m,s=⟨[(1, .lf (.ptr 0 0 0 0)),(3,I m)],[bx [zi g,zs i,zi a,zi l,zi c,zb e, .v B1 f] 51]⟩∧F97_l0 N a c e f k m=some r) N [.ren [1,3] [0]] ⟨(0:Int),rfl,h⟩ ?_
    rintro o s ⟨m,rfl,h⟩
    cases o with
    | zero=>exact nv h
    | succ o =>
     rw [F97_l0_s,F97_l0_b] at h
     refine sq <| nR K (tn 5) ?_
     refine cnd h ?_ ?_<;>intro h
     ·refine VW.skip <| sq <| VW.block <| sq <| VW.region ?_
      obtain⟨p,h⟩:=gS h
      refine nG K 5 (pu 3 (an p (tn 1))) ?_
      obtain⟨G,hy,h⟩:=aS h
      refine clc false [.t B0] [] (some 109) K (ok161 N _ hy) <| nN K (tn 1) ?_
      refine cnd h ?_ ?_<;>intro h
      ·refine nR K (tn 1) ?_
       cases h;exact VW.ret (rt [])
      refine VW.skip <| nE K (tn 3) ?_
      exact aro [.ren [1,3] [0]] ⟨(wr (m+(1:Int))),rfl,h⟩
     refine VW.exit ?_
     exact arv [.ren [1] [0]] ⟨rfl,h⟩
   rintro s ⟨rfl,h⟩
   unfold F97_j1 at h
   refine sq <| VW.region <| nG K 3 (tn 3) ?_
   obtain⟨F,hy,h⟩:=aS h
   refine clc false [.t B0, .t B0, .t B0] [] (some 114) K (ok96 N _ _ _ hy) <| nG K 1 (tn 1) ?_
   refine spC 115 h ?_ ?_<;>intro h
   ·refine nG K 5 (tn 5) ?_
    refine spC 120 h ?_ ?_<;>intro h
    ·refine nG K 5 (tn 5) ?_
     refine spC 125 h ?_ ?_<;>intro h
     ·refine nN K (tn 5) ?_
      cases h;exact VW.ret (rt [])
     refine nN K (tn 5) ?_
     cases h;exact VW.ret (rt [])
    refine nN K (tn 10) ?_
    cases h;exact VW.ret (rt [])
   refine nN K (tn 15) ?_
   cases h;exact VW.ret (rt [])
  refine nR K (tn 2) ?_
  refine cnd h ?_ ?_<;>intro h
  ·refine sq <| VW.region <| nG K 2 (tn 2) ?_
   obtain⟨H,hy,h⟩:=aS h
   refine clc false [.t B0] [] (some 134) K (ok161 N _ hy) <| nG K 1 (tn 1) ?_
   refine spC 135 h ?_ ?_<;>intro h
   ·refine nG K 2 (tn 2) <| VO.on (j:=3) (want:=true) (d:=135) (b:=true) rfl rfl rfl (by kernel_rfl) rfl ?_
    obtain⟨J,hy,h⟩:=aS h
    refine clc false [.t B0] [] (some 138) K (ok161 N _ hy) <| nG K 2 (tn 2) ?_
    refine spC 140 h ?_ ?_<;>intro h
    ·refine nN K (tn 5) ?_
     cases h;exact VW.ret (rt [])
    refine nN K (tn 5) ?_
    cases h;exact VW.ret (rt [])
   refine nN K (tn 10) ?_
   cases h;exact VW.ret (rt [])
  refine nR K (tn 2) ?_
  refine cnd h ?_ ?_<;>intro h
  ·refine sq <| VW.region <| nG K 2 (tn 2) ?_
   obtain⟨L,hy,h⟩:=aS h
   refine clc false [.t B0] [] (some 149) K (ok161 N _ hy) <| nG K 1 (tn 1) ?_
   refine spC 150 h ?_ ?_<;>intro h
   ·refine nG K 5 (tn 5) ?_
    refine spC 155 h ?_ ?_<;>intro h
    ·refine nN K (tn 5) ?_
     cases h;exact VW.ret (rt [])
    refine nN K (tn 5) ?_
    cases h;exact VW.ret (rt [])
   refine nN K (tn 10) ?_
   cases h;exact VW.ret (rt [])
  refine nR K (tn 2) ?_
  refine cnd h ?_ ?_<;>intro h
  ·refine sq <| VW.region <| nG K 4 (tn 4) ?_
   refine spC 165 h ?_ ?_<;>intro h
   ·refine nG K 2 (tn 2) <| VO.on (j:=3) (want:=true) (d:=165) (b:=true) rfl rfl rfl (by kernel_rfl) rfl ?_
    obtain⟨M,hy,h⟩:=aS h
    refine clc false [.t B0, .t B0, .t B0] [] (some 168) K (ok96 N _ _ _ hy) <| nN K (tn 2) ?_
    cases h;exact VW.ret (rt [])
   refine nN K (tn 5) ?_
   cases h;exact VW.ret (rt [])
  refine VW.join (fun s=>∃n,s=⟨[(1, .lf (.ptr 0 0 0 0)),(170,B n)],[bx [zi g,zs i,zi a,zi l,zi c,zb e, .v B1 f] 51]⟩∧F97_j2 N a c e n=some r) ?_ ?_
  ·refine nR K (tn 2) ?_
   refine cnd h ?_ ?_<;>intro h
   ·refine VW.skip ?_
    exact arv [.ren [1,170] [0]] ⟨(g == (4:Int)),rfl,h⟩
   refine nE K (tn 2) ?_
   exact arv [.ren [1,170] [0]] ⟨(g == (7:Int)),rfl,h⟩
  rintro s ⟨n,rfl,h⟩
  unfold F97_j2 at h
  refine cnd h ?_ ?_<;>intro h
  ·refine sq <| VW.region <| nG K 4 (tn 4) ?_
   refine spC 176 h ?_ ?_<;>intro h
   ·refine nG K 5 (tn 5) ?_
    refine spC 181 h ?_ ?_<;>intro h
    ·refine nN K (tn 5) ?_
     cases h;exact VW.ret (rt [])
    refine nN K (tn 5) ?_
    cases h;exact VW.ret (rt [])
   refine nN K (tn 10) ?_
   cases h;exact VW.ret (rt [])
  refine VW.skip ?_
  exact arv [.ren [] []] ⟨rfl,h⟩
 rintro s ⟨rfl,h⟩
 unfold F97_j0 at h
 refine nR K (tn 1) ?_
 cases h;exact VW.ret (rt [])
def F129_j0 (N:Nat) (a:Bool):Option (Int) :=
  cond a (some (1:Int)) (some (-1:Int))
def F129_j1 (N:Nat) (a0:Int) (a:Bool):Option (Int) :=
  cond a (some (2:Int)) (cond (a0 == (1:Int)) (F129_j0 N (a0 == (1:Int))) (cond (a0 == (2:Int)) (F129_j0 N (a0 == (2:Int))) (cond (a0 == (5:Int)) (F129_j0 N (a0 == (5:Int))) (cond (a0 == (6:Int)) (F129_j0 N (a0 == (6:Int))) (F129_j0 N (a0 == (7:Int)))))))
def F129 (N:Nat) (a0:Int):Option (Int) :=
  cond (a0 == (0:Int)) (some (0:Int)) (cond (a0 == (3:Int)) (F129_j1 N a0 (a0 == (3:Int))) (F129_j1 N a0 (a0 == (4:Int))))
theorem ok129 N a0 {r} (h:F129 N a0=some r):Con prog 129 [I a0] [.lf (.v B0 r)]:=by
 refine ctr [.lf (.v B0)] K func129 rfl fun w0 E0 ht=>?_
 unfold F129 at h
 show VW _ _ _ _ _ (retQ _ _ _ _) _
 refine nR K (tn 1) <| sq <| nR K (tn 1) <| VW.block <| nR K (tn 2) ?_
 refine cnd h ?_ ?_<;>intro h
 ·refine nR K (tn 1) ?_
  cases h;exact VW.ret (rt [])
 refine VW.join (fun s=>∃a,s=⟨[(3,I a0),(6,B a)],[]⟩∧F129_j1 N a0 a=some r) ?_ ?_
 ·refine nR K (tn 2) ?_
  refine cnd h ?_ ?_<;>intro h
  ·refine VW.skip ?_
   exact arv [.ren [3,6] []] ⟨(a0 == (3:Int)),rfl,h⟩
  refine nE K (tn 2) ?_
  exact arv [.ren [3,6] []] ⟨(a0 == (4:Int)),rfl,h⟩
 rintro s ⟨a,rfl,h⟩
 unfold F129_j1 at h
 refine cnd h ?_ ?_<;>intro h
 ·refine nR K (tn 1) ?_
  cases h;exact VW.ret (rt [])
 refine VW.join (fun s=>∃b,s=⟨[(9,B b)],[]⟩∧F129_j0 N b=some r) ?_ ?_
 ·refine nR K (tn 2) ?_
  refine cnd h ?_ ?_<;>intro h
  ·refine VW.skip ?_
   exact arv [.ren [9] []] ⟨(a0 == (1:Int)),rfl,h⟩
  refine nR K (tn 2) ?_
  refine cnd h ?_ ?_<;>intro h
  ·refine VW.skip ?_
   exact arv [.ren [9] []] ⟨(a0 == (2:Int)),rfl,h⟩
  refine nR K (tn 2) ?_
  refine cnd h ?_ ?_<;>intro h
  ·refine VW.skip ?_
   exact arv [.ren [9] []] ⟨(a0 == (5:Int)),rfl,h⟩
  refine nR K (tn 2) ?_
  refine cnd h ?_ ?_<;>intro h
  ·refine VW.skip ?_
   exact arv [.ren [9] []] ⟨(a0 == (6:Int)),rfl,h⟩
  refine nE K (tn 2) ?_
  exact arv [.ren [9] []] ⟨(a0 == (7:Int)),rfl,h⟩
 rintro s ⟨b,rfl,h⟩
 unfold F129_j0 at h
 refine cnd h ?_ ?_<;>intro h
 ·refine nR K (tn 1) ?_
  cases h;exact VW.ret (rt [])
 refine VW.skip <| nR K (tn 1) ?_
 cases h;exact VW.ret (rt [])
def F98_j0 (N:Nat) (a:Int) (b:Int):Option (Int×Int) :=
  some (a,(IntKind.i64.wrap (b+(1:Int))))
def F98_j1 (N:Nat) (a:Int→Int→Int→Option (Int×Int)) (b:Int) (c:Int) (d:Int):Option (Int×Int) :=
  a c d (IntKind.i64.wrap (b+(1:Int)))
def F98_l0_b (N:Nat) (a0:(List Z50)) (a1:Int) (a2:Int) (self:(List Z50)→Int→Int→Option (Int×Int)) (d:Int→Int→Int→Option (Int×Int)) (e:Int) (b:Int) (c:Int):Option (Int×Int) :=
  gd (InR a1 a0.length) (andO (F129 N ((a0.getD a1.toNat (Ty.dflt Y50)).1)) fun f=>cond (decide (c < f)) (andO (self a0 e (IntKind.i64.wrap (a2 - (1:Int)))) fun a=>cond (decide (a.1 < (0:Int))) (some ((-1:Int),(0:Int))) (cond (decide (a.2 > b)) (F98_j1 N d c a.1 a.2) (F98_j1 N d c a.1 b))) (F98_j0 N e b))
def F98_l0 (N:Nat) (a0:(List Z50)) (a1:Int) (a2:Int) (self:(List Z50)→Int→Int→Option (Int×Int)):=loopF (F98_l0_b N a0 a1 a2 self) (fun _ _ _=>none)
theorem F98_l0_s {N a0 a1 a2} {self:(List Z50)→Int→Int→Option (Int×Int)} {k} (hk:0 < k:=by omega):F98_l0 N a0 a1 a2 self k=F98_l0_b N a0 a1 a2 self (F98_l0 N a0 a1 a2 self (k - 1)):=lS hk
def F98_b (N:Nat) (self:(List Z50)→Int→Int→Option (Int×Int)) (a0:(List Z50)) (a1:Int) (a2:Int):Option (Int×Int) :=
  cond (decide (a1≥(a0.length:Int))) (some ((-1:Int),(0:Int))) (cond (a2 == (0:Int)) (some ((-1:Int),(0:Int))) (F98_l0 N a0 a1 a2 self N (IntKind.i64.wrap (a1+(1:Int))) (0:Int) (0:Int)))
theorem ok98_b (N:Nat) (self:(List Z50)→Int→Int→Option (Int×Int)) (ih:∀(a0:(List Z50)) (a1:Int) (a2:Int) (r:Int×Int),self a0 a1 a2=some r→Con prog 98 [Vv (.sl Y50) a0,I a1,I a2] [.lf (.v B0 r.1), .lf (.v B0 r.2)]) (a0:(List Z50)) (a1:Int) (a2:Int) {r:Int×Int} (h:F98_b N self a0 a1 a2=some r):Con prog 98 [Vv (.sl Y50) a0,I a1,I a2] [.lf (.v B0 r.1), .lf (.v B0 r.2)]:=by
 refine ctr [.lf (.v B0), .lf (.v B0)] K func98 rfl fun w0 E0 ht=>?_
 unfold F98_b at h
 show VW _ _ _ _ _ (retQ _ _ _ _) _
 refine nR K (tn 2) <| sq <| sq <| VW.region <| nG K 5 (tn 5) ?_
 refine spC 17 h ?_ ?_<;>intro h
 ·refine nN K (tn 3) ?_
  refine VW.cond (b:=true) (by kernel_rfl) (fun _=>?_) (fun h'=>nomatch h')
  refine nR K (tn 2) ?_
  cases h;exact VW.ret (rt [])
 refine nN K (tn 3) ?_
 refine cnd h ?_ ?_<;>intro h
 ·refine nR K (tn 2) ?_
  cases h;exact VW.ret (rt [])
 refine VW.skip <| nR K (tn 3) <| nR K (tn 1) ?_
 refine VW.join (fun s=>∃i j,s=⟨[(8,I i),(9,I j)],[]⟩∧F98_j0 N i j=some r) ?_ ?_
 ·refine nR K (tn 1) <| VW.block <| lop (fun k s=>∃d c a,s=⟨[(0,Vv (.sl Y50) a0),(1,I a1),(2,I a2),(8,I d),(9,I c),(10,I a)],[]⟩∧F98_l0 N a0 a1 a2 self k d c a=some r) N [.ren [0,1,2,8,9,10] []] ⟨(wr (a1+(1:Int))),(0:Int),(0:Int),rfl,h⟩ ?_
  rintro g s ⟨d,c,a,rfl,h⟩
  cases g with
  | zero=>exact nv h
  | succ g =>
   rw [F98_l0_s,F98_l0_b] at h
   refine sq <| sq <| VW.region ?_
   obtain⟨m,h⟩:=gS h
   refine nG K 6 (pu 3 (an m (tn 2))) ?_
   obtain⟨n,hy,h⟩:=aS h
   refine clc false [.t B0] [] (some 29) K (ok129 N _ hy) <| nN K (tn 1) ?_
   refine cnd h ?_ ?_<;>intro h
   ·refine VW.skip ?_
    refine VW.join (fun s=>∃e f,s=⟨[(0,Vv (.sl Y50) a0),(1,I a1),(2,I a2),(8,I e),(9,I f),(10,I a)],[]⟩∧F98_j1 N (F98_l0 N a0 a1 a2 self g) a e f=some r) ?_ ?_
    ·refine VW.block <| sq <| VW.region <| nG K 4 (tn 4) ?_
     obtain⟨l,hy,h⟩:=aS h
     refine clc false [.t (.sl Y50), .t B0, .t B0] [] (some 38) K (ih _ _ _ _ hy) <| nN K (tn 5) <| sq <| nR K (tn 2) ?_
     refine cnd h ?_ ?_<;>intro h
     ·refine nR K (tn 2) ?_
      cases h;exact VW.ret (rt [])
     refine VW.skip <| nR K (tn 2) <| nR K (tn 3) ?_
     refine cnd h ?_ ?_<;>intro h
     ·refine nE K (tn 2) ?_
      exact arv [.ren [0,1,2,8,9,10] []] ⟨l.1,l.2,rfl,h⟩
     refine VW.skip ?_
     exact arv [.ren [0,1,2,8,9,10] []] ⟨l.1,c,rfl,h⟩
    rintro s ⟨e,f,rfl,h⟩
    unfold F98_j1 at h
    refine nE K (tn 3) ?_
    exact aro [.ren [0,1,2,8,9,10] []] ⟨e,f,(wr (a+(1:Int))),rfl,h⟩
   refine VW.exit ?_
   exact arv [.ren [8,9] []] ⟨d,c,rfl,h⟩
 rintro s ⟨i,j,rfl,h⟩
 unfold F98_j0 at h
 refine nR K (tn 5) ?_
 cases h;exact VW.ret (rt [])
def F98_r (N:Nat):=loopF (F98_b N) (fun _ _ _=>none)
theorem F98_s {N k} (hk:0 < k:=by omega):F98_r N k=F98_b N (F98_r N (k - 1)):=lS hk
def F98 (N:Nat):(List Z50)→Int→Int→Option (Int×Int):=F98_r N N
theorem ok98_k (N:Nat):∀(k:Nat) (a0:(List Z50)) (a1:Int) (a2:Int) (r:Int×Int),loopF (F98_b N) (fun _ _ _=>none) k a0 a1 a2=some r→Con prog 98 [Vv (.sl Y50) a0,I a1,I a2] [.lf (.v B0 r.1), .lf (.v B0 r.2)]
 | 0,a0,a1,a2,r,h=>nomatch (show (none:Option (Int×Int))=some r from h)
 | k+1,a0,a1,a2,r,h=>ok98_b N _ (ok98_k N k) a0 a1 a2 h
theorem ok98 N a0 a1 a2 {r} (h:F98 N a0 a1 a2=some r):Con prog 98 [Vv (.sl Y50) a0,I a1,I a2] [.lf (.v B0 r.1), .lf (.v B0 r.2)]:=ok98_k N N a0 a1 a2 r h
def F54_j0 (N:Nat) (a0:(List Z50)):Option (Bool) :=
  andO (F98 N a0 (0:Int) (10:Int)) fun a=>some (a.1 == (a0.length:Int))
def F54_l0_b (N:Nat) (a0:(List Z50)) (b:Int→Option (Bool)) (a:Int):Option (Bool) :=
  cond (decide (a < (a0.length:Int))) (gd (InR a a0.length) (andO (F97 N (a0.getD a.toNat (Ty.dflt Y50))) fun c=>cond (!c) (some false) (b (IntKind.i64.wrap (a+(1:Int)))))) (F54_j0 N a0)
def F54_l0 (N:Nat) (a0:(List Z50)):=loopF (F54_l0_b N a0) (fun _=>none)
theorem F54_l0_s {N a0 k} (hk:0 < k:=by omega):F54_l0 N a0 k=F54_l0_b N a0 (F54_l0 N a0 (k - 1)):=lS hk
def F54 (N:Nat) (a0:(List Z50)):Option (Bool) :=
  andO (F96 N (a0.length:Int) (1:Int) (40:Int)) fun a=>cond (!a) (some false) (F54_l0 N a0 N (0:Int))
theorem ok54 N a0 {r} (h:F54 N a0=some r):Con prog 54 [Vv (.sl Y50) a0] [.lf (.v .bool r)]:=by
 refine ctr [.lf (.v .bool)] K func54 rfl fun w0 E0 ht=>?_
 unfold F54 at h
 show VW _ _ _ _ _ (retQ _ _ _ _) _
 refine nR K (tn 1) <| sq <| sq <| VW.region <| nG K 2 (tn 2) ?_
 obtain⟨e,hy,h⟩:=aS h
 refine clc false [.t B0, .t B0, .t B0] [] (some 8) K (ok96 N _ _ _ hy) <| nN K (tn 1) ?_
 refine cnd h ?_ ?_<;>intro h
 ·refine nR K (tn 1) ?_
  cases h;exact VW.ret (rt [])
 refine VW.skip ?_
 refine VW.join (fun s=>s=⟨[(0,Vv (.sl Y50) a0)],[]⟩∧F54_j0 N a0=some r) ?_ ?_
 ·refine nR K (tn 1) <| VW.block <| lop (fun k s=>∃a,s=⟨[(0,Vv (.sl Y50) a0),(3,I a)],[]⟩∧F54_l0 N a0 k a=some r) N [.ren [0,3] []] ⟨(0:Int),rfl,h⟩ ?_
  rintro b s ⟨a,rfl,h⟩
  cases b with
  | zero=>exact nv h
  | succ b =>
   rw [F54_l0_s,F54_l0_b] at h
   refine sq <| nR K (tn 4) ?_
   refine cnd h ?_ ?_<;>intro h
   ·refine VW.skip <| sq <| VW.block <| sq <| VW.region ?_
    obtain⟨c,h⟩:=gS h
    refine nG K 4 (pu 2 (an c (tn 1))) ?_
    obtain⟨f,hy,h⟩:=aS h
    refine clc false [.t Y50] [] (some 20) K (ok97 N _ hy) <| nN K (tn 1) ?_
    refine cnd h ?_ ?_<;>intro h
    ·refine nR K (tn 1) ?_
     cases h;exact VW.ret (rt [])
    refine VW.skip <| nE K (tn 3) ?_
    exact aro [.ren [0,3] []] ⟨(wr (a+(1:Int))),rfl,h⟩
   refine VW.exit ?_
   exact arv [.ren [0] []] ⟨rfl,h⟩
 rintro s ⟨rfl,h⟩
 unfold F54_j0 at h
 refine sq <| VW.region <| nG K 1 (tn 1) ?_
 obtain⟨d,hy,h⟩:=aS h
 refine clc false [.t (.sl Y50), .t B0, .t B0] [] (some 24) K (ok98 N _ _ _ hy) <| nN K (tn 5) <| nR K (tn 5) ?_
 cases h;exact VW.ret (rt [])
def F87_j0 (N:Nat):Option (Int) :=
  some (-1:Int)
def F87_l0_b (N:Nat) (a0:(List Z50)) (p1:Z50→Option (Bool)) (c:Int→Int→Option (Int)) (b:Int) (a:Int):Option (Int) :=
  cond (decide (a < b)) (gd (InR a a0.length) (andO (p1 (a0.getD a.toNat (Ty.dflt Y50))) fun d=>cond d (some a) (c b (IntKind.i64.wrap (a+(1:Int)))))) (F87_j0 N)
def F87_l0 (N:Nat) (a0:(List Z50)) (p1:Z50→Option (Bool)):=loopF (F87_l0_b N a0 p1) (fun _ _=>none)
theorem F87_l0_s {N a0} {p1:Z50→Option (Bool)} {k} (hk:0 < k:=by omega):F87_l0 N a0 p1 k=F87_l0_b N a0 p1 (F87_l0 N a0 p1 (k - 1)):=lS hk
def F87 (N:Nat) (a0:(List Z50)) (p1:Z50→Option (Bool)):Option (Int) :=
  F87_l0 N a0 p1 N (a0.length:Int) (0:Int)
theorem ok87 N a0 (c:FuncId) (p1:Z50→Option (Bool)) (hp1:∀(z0:Z50) (r:Bool),p1 z0=some r→Con prog c [.agg (lv Y50 z0)] [.lf (.v .bool r)]) {r} (h:F87 N a0 p1=some r):Con prog 87 [Vv (.sl Y50) a0, .clo c []] [.lf (.v B0 r)]:=by
 refine ctr [.lf (.v B0)] K func87 rfl fun w0 E0 ht=>?_
 unfold F87 at h
 show VW _ _ _ _ _ (retQ _ _ _ _) _
 refine nR K (tn 1) ?_
 refine VW.join (fun s=>s=⟨[],[]⟩∧F87_j0 N=some r) ?_ ?_
 ·refine nR K (tn 3) <| VW.block <| lop (fun k s=>∃a b,s=⟨[(0,Vv (.sl Y50) a0),(1, .clo c []),(7,I a),(8,I b)],[]⟩∧F87_l0 N a0 p1 k a b=some r) N [.ren [0,1,7,8] []] ⟨(a0.length:Int),(0:Int),rfl,h⟩ ?_
  rintro d s ⟨a,b,rfl,h⟩
  cases d with
  | zero=>exact nv h
  | succ d =>
   rw [F87_l0_s,F87_l0_b] at h
   refine nR K (tn 1) <| sq ?_
   refine cnd h ?_ ?_<;>intro h
   ·refine VW.skip <| sq <| VW.block <| nR K (tn 2) <| sq <| VW.region ?_
    obtain⟨e,h⟩:=gS h
    refine nG K 5 (pu 3 (an e (tn 1))) ?_
    obtain⟨f,hy,h⟩:=aS h
    refine clc false [.t Y50] [] (some 16) K (hp1 _ _ hy) <| nN K (tn 0) ?_
    refine cnd h ?_ ?_<;>intro h
    ·refine nR K (tn 2) ?_
     cases h;exact VW.ret (rt [])
    refine VW.skip <| nE K (tn 2) ?_
    exact aro [.ren [0,1,7,8] []] ⟨a,(wr (b+(1:Int))),rfl,h⟩
   refine VW.exit ?_
   exact arv [.ren [] []] ⟨rfl,h⟩
 rintro s ⟨rfl,h⟩
 unfold F87_j0 at h
 refine nR K (tn 1) ?_
 cases h;exact VW.ret (rt [])
def F48 (N:Nat) (a0:(List Z50)) (p1:Z50→Option (Bool)):Option (Bool) :=
  andO (F87 N a0 p1) fun a=>some (decide (a≥(0:Int)))
theorem ok48 N a0 (a:FuncId) (p1:Z50→Option (Bool)) (hp1:∀(z0:Z50) (r:Bool),p1 z0=some r→Con prog a [.agg (lv Y50 z0)] [.lf (.v .bool r)]) {r} (h:F48 N a0 p1=some r):Con prog 48 [Vv (.sl Y50) a0, .clo a []] [.lf (.v .bool r)]:=by
 refine ctr [.lf (.v .bool)] K func48 rfl fun w0 E0 ht=>?_
 unfold F48 at h
 show VW _ _ _ _ _ (retQ _ _ _ _) _
 refine nR K (tn 1) <| sq <| VW.region <| nG K 2 (tn 2) ?_
 obtain⟨b,hy,h⟩:=aS h
 refine clc false [.t (.sl Y50), .clo []] [] (some 7) K (ok87 N _ a  p1 hp1 hy) <| nN K (tn 2) ?_
 cases h;exact VW.ret (rt [])
def F80 (N:Nat) (a0:Int) (a1:Int) (a2:Int):Option (Bool) :=
  cond (decide (a0≥a1)) (some (decide (a0≤a2))) (some false)
theorem ok80 N a0 a1 a2 {r} (h:F80 N a0 a1 a2=some r):Con prog 80 [I a0,I a1,I a2] [.lf (.v .bool r)]:=by
 refine ctr [.lf (.v .bool)] K func80 rfl fun w0 E0 ht=>?_
 unfold F80 at h
 show VW _ _ _ _ _ (retQ _ _ _ _) _
 refine nR K (tn 1) <| sq <| VW.region <| nG K 4 (tn 4) ?_
 refine spC 10 h ?_ ?_<;>intro h
 ·refine nN K (tn 5) ?_
  cases h;exact VW.ret (rt [])
 refine nN K (tn 5) ?_
 cases h;exact VW.ret (rt [])
def F70_j0 (N:Nat):Option (Bool) :=
  some true
def F70_l0_b (N:Nat) (a0:L1) (a1:L1) (c:Int→Int→Option (Bool)) (b:Int) (a:Int):Option (Bool) :=
  cond (decide (a < b)) (gd (InR a a0.length) (gd (InR a a1.length) (cond ((a0.getD a.toNat (Ty.dflt B0)) != (a1.getD a.toNat (Ty.dflt B0))) (some false) (c b (IntKind.i64.wrap (a+(1:Int))))))) (F70_j0 N)
def F70_l0 (N:Nat) (a0:L1) (a1:L1):=loopF (F70_l0_b N a0 a1) (fun _ _=>none)
theorem F70_l0_s {N a0 a1 k} (hk:0 < k:=by omega):F70_l0 N a0 a1 k=F70_l0_b N a0 a1 (F70_l0 N a0 a1 (k - 1)):=lS hk
def F70 (N:Nat) (a0:L1) (a1:L1):Option (Bool) :=
  cond ((a0.length:Int) != (a1.length:Int)) (some false) (F70_l0 N a0 a1 N (a0.length:Int) (0:Int))
theorem ok70 N a0 a1 {r} (h:F70 N a0 a1=some r):Con prog 70 [Vv B1 a0,Vv B1 a1] [.lf (.v .bool r)]:=by
 refine ctr [.lf (.v .bool)] K func70 rfl fun w0 E0 ht=>?_
 unfold F70 at h
 show VW _ _ _ _ _ (retQ _ _ _ _) _
 refine nR K (tn 1) <| sq <| nR K (tn 5) ?_
 refine cnd h ?_ ?_<;>intro h
 ·refine nR K (tn 1) ?_
  cases h;exact VW.ret (rt [])
 refine VW.skip ?_
 refine VW.join (fun s=>s=⟨[],[]⟩∧F70_j0 N=some r) ?_ ?_
 ·refine nR K (tn 3) <| VW.block <| lop (fun k s=>∃a b,s=⟨[(0,Vv B1 a0),(1,Vv B1 a1),(12,I a),(13,I b)],[]⟩∧F70_l0 N a0 a1 k a b=some r) N [.ren [0,1,12,13] []] ⟨(a0.length:Int),(0:Int),rfl,h⟩ ?_
  rintro c s ⟨a,b,rfl,h⟩
  cases c with
  | zero=>exact nv h
  | succ c =>
   rw [F70_l0_s,F70_l0_b] at h
   refine nR K (tn 1) <| sq ?_
   refine cnd h ?_ ?_<;>intro h
   ·refine VW.skip <| sq <| VW.block <| nR K (tn 2) <| sq ?_
    obtain⟨d,e,h⟩:=gT h
    refine dr K [] [] [] [0,1,12,13,24] [] (pu 2 (an d (pu 3 (an e (tn 2))))) trivial ?_
    refine cnd h ?_ ?_<;>intro h
    ·refine nR K (tn 1) ?_
     cases h;exact VW.ret (rt [])
    refine VW.skip <| nE K (tn 2) ?_
    exact aro [.ren [0,1,12,13] []] ⟨a,(wr (b+(1:Int))),rfl,h⟩
   refine VW.exit ?_
   exact arv [.ren [] []] ⟨rfl,h⟩
 rintro s ⟨rfl,h⟩
 unfold F70_j0 at h
 refine nR K (tn 1) ?_
 cases h;exact VW.ret (rt [])
def F43 (N:Nat) (a0:Z50) (a1:Z50):Option (Bool) :=
  cond (a0.1 == a1.1) (cond (a0.2.1.toList == a1.2.1.toList) (cond (a0.2.2.1 == a1.2.2.1) (cond (a0.2.2.2.1 == a1.2.2.2.1) (cond (a0.2.2.2.2.1 == a1.2.2.2.2.1) (cond (a0.2.2.2.2.2.1 == a1.2.2.2.2.2.1) (andO (F70 N a0.2.2.2.2.2.2 a1.2.2.2.2.2.2) fun a=>some a) (some false)) (some false)) (some false)) (some false)) (some false)) (some false)
theorem ok43 N a0 a1 {r} (h:F43 N a0 a1=some r):Con prog 43 [.agg (lv Y50 a0), .agg (lv Y50 a1)] [.lf (.v .bool r)]:=by
 refine ctr [.lf (.v .bool)] K func43 rfl fun w0 E0 ht=>?_
 unfold F43 at h
 show VW _ _ _ _ _ (retQ _ _ _ _) _
 refine nR K (tn 3) <| sq <| VW.region <| nG K 6 (tn 6) ?_
 refine spC 10 h ?_ ?_<;>intro h
 ·refine nG K 7 (tn 7) ?_
  refine spC 17 h ?_ ?_<;>intro h
  ·refine nG K 7 (tn 7) ?_
   refine spC 24 h ?_ ?_<;>intro h
   ·refine nG K 7 (tn 7) ?_
    refine spC 31 h ?_ ?_<;>intro h
    ·refine nG K 7 (tn 7) ?_
     refine spC 38 h ?_ ?_<;>intro h
     ·refine nG K 7 (tn 7) ?_
      refine spC 45 h ?_ ?_<;>intro h
      ·refine nG K 4 (tn 4) <| VO.on (j:=40) (want:=true) (d:=45) (b:=true) rfl rfl rfl (by kernel_rfl) rfl ?_
       obtain⟨a,hy,h⟩:=aS h
       refine clc false [.t B1, .t B1] [] (some 50) K (ok70 N _ _ hy) <| nN K (tn 2) ?_
       cases h;exact VW.ret (rt [])
      refine nN K (tn 7) ?_
      cases h;exact VW.ret (rt [])
     refine nN K (tn 14) ?_
     cases h;exact VW.ret (rt [])
    refine nN K (tn 21) ?_
    cases h;exact VW.ret (rt [])
   refine nN K (tn 28) ?_
   cases h;exact VW.ret (rt [])
  refine nN K (tn 35) ?_
  cases h;exact VW.ret (rt [])
 refine nN K (tn 42) ?_
 cases h;exact VW.ret (rt [])
def F167_j0 (N:Nat):Option (Int) :=
  some (-1:Int)
def F167_l0_b (N:Nat) (a0:L1) (p1:Int→Option (Bool)) (c:Int→Int→Option (Int)) (b:Int) (a:Int):Option (Int) :=
  cond (decide (a < b)) (gd (InR a a0.length) (andO (p1 (a0.getD a.toNat (Ty.dflt B0))) fun d=>cond d (some a) (c b (IntKind.i64.wrap (a+(1:Int)))))) (F167_j0 N)
def F167_l0 (N:Nat) (a0:L1) (p1:Int→Option (Bool)):=loopF (F167_l0_b N a0 p1) (fun _ _=>none)
theorem F167_l0_s {N a0} {p1:Int→Option (Bool)} {k} (hk:0 < k:=by omega):F167_l0 N a0 p1 k=F167_l0_b N a0 p1 (F167_l0 N a0 p1 (k - 1)):=lS hk
def F167 (N:Nat) (a0:L1) (p1:Int→Option (Bool)):Option (Int) :=
  F167_l0 N a0 p1 N (a0.length:Int) (0:Int)
theorem ok167 N a0 (c:FuncId) (p1:Int→Option (Bool)) (hp1:∀(z0:Int) (r:Bool),p1 z0=some r→Con prog c [I z0] [.lf (.v .bool r)]) {r} (h:F167 N a0 p1=some r):Con prog 167 [Vv B1 a0, .clo c []] [.lf (.v B0 r)]:=by
 refine ctr [.lf (.v B0)] K func167 rfl fun w0 E0 ht=>?_
 unfold F167 at h
 show VW _ _ _ _ _ (retQ _ _ _ _) _
 refine nR K (tn 1) ?_
 refine VW.join (fun s=>s=⟨[],[]⟩∧F167_j0 N=some r) ?_ ?_
 ·refine nR K (tn 3) <| VW.block <| lop (fun k s=>∃a b,s=⟨[(0,Vv B1 a0),(1, .clo c []),(7,I a),(8,I b)],[]⟩∧F167_l0 N a0 p1 k a b=some r) N [.ren [0,1,7,8] []] ⟨(a0.length:Int),(0:Int),rfl,h⟩ ?_
  rintro d s ⟨a,b,rfl,h⟩
  cases d with
  | zero=>exact nv h
  | succ d =>
   rw [F167_l0_s,F167_l0_b] at h
   refine nR K (tn 1) <| sq ?_
   refine cnd h ?_ ?_<;>intro h
   ·refine VW.skip <| sq <| VW.block <| nR K (tn 2) <| sq <| VW.region ?_
    obtain⟨e,h⟩:=gS h
    refine nG K 5 (pu 3 (an e (tn 1))) ?_
    obtain⟨f,hy,h⟩:=aS h
    refine clc false [.t B0] [] (some 16) K (hp1 _ _ hy) <| nN K (tn 0) ?_
    refine cnd h ?_ ?_<;>intro h
    ·refine nR K (tn 2) ?_
     cases h;exact VW.ret (rt [])
    refine VW.skip <| nE K (tn 2) ?_
    exact aro [.ren [0,1,7,8] []] ⟨a,(wr (b+(1:Int))),rfl,h⟩
   refine VW.exit ?_
   exact arv [.ren [] []] ⟨rfl,h⟩
 rintro s ⟨rfl,h⟩
 unfold F167_j0 at h
 refine nR K (tn 1) ?_
 cases h;exact VW.ret (rt [])
def F114 (N:Nat) (a0:L1) (p1:Int→Option (Bool)):Option (Bool) :=
  andO (F167 N a0 p1) fun a=>some (decide (a≥(0:Int)))
theorem ok114 N a0 (a:FuncId) (p1:Int→Option (Bool)) (hp1:∀(z0:Int) (r:Bool),p1 z0=some r→Con prog a [I z0] [.lf (.v .bool r)]) {r} (h:F114 N a0 p1=some r):Con prog 114 [Vv B1 a0, .clo a []] [.lf (.v .bool r)]:=by
 refine ctr [.lf (.v .bool)] K func114 rfl fun w0 E0 ht=>?_
 unfold F114 at h
 show VW _ _ _ _ _ (retQ _ _ _ _) _
 refine nR K (tn 1) <| sq <| VW.region <| nG K 2 (tn 2) ?_
 obtain⟨b,hy,h⟩:=aS h
 refine clc false [.t B1, .clo []] [] (some 7) K (ok167 N _ a  p1 hp1 hy) <| nN K (tn 2) ?_
 cases h;exact VW.ret (rt [])
def F127_j0 (N:Nat) (a0:ByteArray):Option (Bool) :=
  andO (F80 N (a0.size:Int) (1:Int) (12:Int)) fun a=>some a
def F127_j1 (N:Nat) (a:Int→Int→Option (Bool)) (b:Int) (c:Int):Option (Bool) :=
  a b (IntKind.i64.wrap (c+(1:Int)))
def F127_l0_b (N:Nat) (a0:ByteArray) (c:Int→Int→Option (Bool)) (b:Int) (a:Int):Option (Bool) :=
  cond (decide (a < b)) (gd (InR a a0.size) (cond (decide (((a0.data.getD a.toNat 0).toNat:Int)≥(97:Int))) (cond (!(decide (((a0.data.getD a.toNat 0).toNat:Int)≤(122:Int)))) (cond (a == (0:Int)) (some false) (cond (decide (((a0.data.getD a.toNat 0).toNat:Int) < (48:Int))) (some false) (cond (decide (((a0.data.getD a.toNat 0).toNat:Int) > (57:Int))) (some false) (F127_j1 N c b a)))) (F127_j1 N c b a)) (cond (a == (0:Int)) (some false) (cond (decide (((a0.data.getD a.toNat 0).toNat:Int) < (48:Int))) (some false) (cond (decide (((a0.data.getD a.toNat 0).toNat:Int) > (57:Int))) (some false) (F127_j1 N c b a)))))) (F127_j0 N a0)
def F127_l0 (N:Nat) (a0:ByteArray):=loopF (F127_l0_b N a0) (fun _ _=>none)
theorem F127_l0_s {N a0 k} (hk:0 < k:=by omega):F127_l0 N a0 k=F127_l0_b N a0 (F127_l0 N a0 (k - 1)):=lS hk
def F127 (N:Nat) (a0:ByteArray):Option (Bool) :=
  F127_l0 N a0 N (a0.size:Int) (0:Int)
theorem ok127 N a0 {r} (h:F127 N a0=some r):Con prog 127 [S a0] [.lf (.v .bool r)]:=by
 refine ctr [.lf (.v .bool)] K func127 rfl fun w0 E0 ht=>?_
 unfold F127 at h
 show VW _ _ _ _ _ (retQ _ _ _ _) _
 refine nR K (tn 1) ?_
 refine VW.join (fun s=>s=⟨[(0,S a0)],[]⟩∧F127_j0 N a0=some r) ?_ ?_
 ·refine nR K (tn 3) <| VW.block <| lop (fun k s=>∃a c,s=⟨[(0,S a0),(7,I a),(8,I c)],[]⟩∧F127_l0 N a0 k a c=some r) N [.ren [0,7,8] []] ⟨(a0.size:Int),(0:Int),rfl,h⟩ ?_
  rintro d s ⟨a,c,rfl,h⟩
  cases d with
  | zero=>exact nv h
  | succ d =>
   rw [F127_l0_s,F127_l0_b] at h
   refine nR K (tn 1) <| sq ?_
   refine cnd h ?_ ?_<;>intro h
   ·refine VW.skip ?_
    refine VW.join (fun s=>s=⟨[(0,S a0),(7,I a),(8,I c)],[]⟩∧F127_j1 N (F127_l0 N a0 d) a c=some r) ?_ ?_
    ·refine VW.block <| nR K (tn 2) ?_
     obtain⟨e,h⟩:=gS h
     refine nR K (pu 2 (an e (tn 1))) <| sq <| VW.region <| nG K 3 (tn 3) ?_
     refine spC 16 h ?_ ?_<;>intro h
     ·refine nN K (tn 4) <| sq <| VW.region <| nG K 3 (tn 3) ?_
      refine spC 22 h ?_ ?_<;>intro h
      ·refine nG K 3 (tn 3) ?_
       refine spC 25 h ?_ ?_<;>intro h
       ·refine nN K (tn 8) ?_
        refine VW.cond (b:=true) (by kernel_rfl) (fun _=>?_) (fun h'=>nomatch h')
        refine nR K (tn 1) ?_
        cases h;exact VW.ret (rt [])
       refine nG K 4 (tn 4) ?_
       refine spC 29 h ?_ ?_<;>intro h
       ·refine nN K (tn 4) ?_
        refine VW.cond (b:=true) (by kernel_rfl) (fun _=>?_) (fun h'=>nomatch h')
        refine nR K (tn 1) ?_
        cases h;exact VW.ret (rt [])
       refine nN K (tn 4) ?_
       refine cnd h ?_ ?_<;>intro h
       ·refine nR K (tn 1) ?_
        cases h;exact VW.ret (rt [])
       refine VW.skip ?_
       exact arv [.ren [0,7,8] []] ⟨rfl,h⟩
      refine nN K (tn 11) ?_
      refine VW.cond (b:=false) (by kernel_rfl) (fun h'=>nomatch h') (fun _=>?_)
      refine VW.skip ?_
      exact arv [.ren [0,7,8] []] ⟨rfl,h⟩
     refine nN K (tn 4) <| sq <| VW.region <| nG K 6 (tn 6) ?_
     refine spC 25 h ?_ ?_<;>intro h
     ·refine nN K (tn 8) ?_
      refine VW.cond (b:=true) (by kernel_rfl) (fun _=>?_) (fun h'=>nomatch h')
      refine nR K (tn 1) ?_
      cases h;exact VW.ret (rt [])
     refine nG K 4 (tn 4) ?_
     refine spC 29 h ?_ ?_<;>intro h
     ·refine nN K (tn 4) ?_
      refine VW.cond (b:=true) (by kernel_rfl) (fun _=>?_) (fun h'=>nomatch h')
      refine nR K (tn 1) ?_
      cases h;exact VW.ret (rt [])
     refine nN K (tn 4) ?_
     refine cnd h ?_ ?_<;>intro h
     ·refine nR K (tn 1) ?_
      cases h;exact VW.ret (rt [])
     refine VW.skip ?_
     exact arv [.ren [0,7,8] []] ⟨rfl,h⟩
    rintro s ⟨rfl,h⟩
    unfold F127_j1 at h
    refine nE K (tn 2) ?_
    exact aro [.ren [0,7,8] []] ⟨a,(wr (c+(1:Int))),rfl,h⟩
   refine VW.exit ?_
   exact arv [.ren [0] []] ⟨rfl,h⟩
 rintro s ⟨rfl,h⟩
 unfold F127_j0 at h
 refine sq <| VW.region <| nG K 2 (tn 2) ?_
 obtain⟨f,hy,h⟩:=aS h
 refine clc false [.t B0, .t B0, .t B0] [] (some 37) K (ok80 N _ _ _ hy) <| nN K (tn 1) ?_
 cases h;exact VW.ret (rt [])
def F131 (N:Nat) (a0:Int):Option (Bool) :=
  andO (F80 N a0 (0:Int) (63:Int)) fun a=>some a
theorem ok131 N a0 {r} (h:F131 N a0=some r):Con prog 131 [I a0] [.lf (.v .bool r)]:=by
 refine ctr [.lf (.v .bool)] K func131 rfl fun w0 E0 ht=>?_
 unfold F131 at h
 show VW _ _ _ _ _ (retQ _ _ _ _) _
 refine nR K (tn 1) <| sq <| VW.region <| nG K 1 (tn 1) ?_
 obtain⟨a,hy,h⟩:=aS h
 refine clc false [.t B0, .t B0, .t B0] [] (some 4) K (ok80 N _ _ _ hy) <| nN K (tn 1) ?_
 cases h;exact VW.ret (rt [])
def F132 (N:Nat) (a0:Int):Option (Bool) :=
  andO (F80 N a0 (0:Int) (39:Int)) fun a=>some a
theorem ok132 N a0 {r} (h:F132 N a0=some r):Con prog 132 [I a0] [.lf (.v .bool r)]:=by
 refine ctr [.lf (.v .bool)] K func132 rfl fun w0 E0 ht=>?_
 unfold F132 at h
 show VW _ _ _ _ _ (retQ _ _ _ _) _
 refine nR K (tn 1) <| sq <| VW.region <| nG K 1 (tn 1) ?_
 obtain⟨a,hy,h⟩:=aS h
 refine clc false [.t B0, .t B0, .t B0] [] (some 4) K (ok80 N _ _ _ hy) <| nN K (tn 1) ?_
 cases h;exact VW.ret (rt [])
def F133 (N:Nat) (a0:Int):Option (Bool) :=
  andO (F80 N a0 (-1000000:Int) (1000000:Int)) fun a=>some a
theorem ok133 N a0 {r} (h:F133 N a0=some r):Con prog 133 [I a0] [.lf (.v .bool r)]:=by
 refine ctr [.lf (.v .bool)] K func133 rfl fun w0 E0 ht=>?_
 unfold F133 at h
 show VW _ _ _ _ _ (retQ _ _ _ _) _
 refine nR K (tn 1) <| sq <| VW.region <| nG K 1 (tn 1) ?_
 obtain⟨a,hy,h⟩:=aS h
 refine clc false [.t B0, .t B0, .t B0] [] (some 4) K (ok80 N _ _ _ hy) <| nN K (tn 1) ?_
 cases h;exact VW.ret (rt [])
def F134 (N:Nat) (a0:Int):Option (Bool) :=
  andO (F131 N a0) fun a=>some (!a)
theorem ok134 N a0 {r} (h:F134 N a0=some r):Con prog 134 [I a0] [.lf (.v .bool r)]:=by
 refine ctr [.lf (.v .bool)] K func134 rfl fun w0 E0 ht=>?_
 unfold F134 at h
 show VW _ _ _ _ _ (retQ _ _ _ _) _
 refine nR K (tn 1) <| sq <| VW.region <| nG K 1 (tn 1) ?_
 obtain⟨a,hy,h⟩:=aS h
 refine clc false [.t B0] [] (some 4) K (ok131 N _ hy) <| nN K (tn 2) ?_
 cases h;exact VW.ret (rt [])
def F82_j0 (N:Nat) (a:ByteArray) (b:Int) (c:Int) (d:Int) (e:Bool) (f:L1) (g:Bool):Option (Bool) :=
  cond g (andO (F43 N ((0:Int),(a,(b,(c,(d,(e,f)))))) ((0:Int),(ByteArray.empty,((0:Int),((0:Int),((0:Int),(false,[]))))))) fun h=>some h) (some false)
def F82_j1 (N:Nat) (a:ByteArray) (d:Int) (e:Int) (f:Int) (g:Bool) (b:L1) (c:Bool):Option (Bool) :=
  F82_j0 N a (0:Int) (0:Int) (0:Int) false b c
def F82_j2 (N:Nat) (a:ByteArray) (c:Int) (d:Int) (e:Int) (f:Bool) (b:L1):Option (Bool) :=
  F82_j0 N a (0:Int) (0:Int) (0:Int) false b false
def F82_j3 (N:Nat) (a:ByteArray) (b:Int) (c:Int) (d:Int) (e:Bool) (f:L1) (g:Bool):Option (Bool) :=
  cond g (F82_j0 N a b c d e f true) (F82_j0 N a b c d e f false)
def F82 (N:Nat) (a0:Z50):Option (Bool) :=
  cond (a0.1 == (0:Int)) (andO (F127 N a0.2.1) fun b=>F82_j0 N ByteArray.empty a0.2.2.1 a0.2.2.2.1 a0.2.2.2.2.1 a0.2.2.2.2.2.1 a0.2.2.2.2.2.2 b) (cond (a0.1 == (1:Int)) (andO (F131 N a0.2.2.1) fun c=>cond c (andO (F80 N a0.2.2.2.1 (0:Int) (3:Int)) fun a=>cond (a0.2.2.2.1 == (3:Int)) (cond a (cond (a0.2.2.2.2.1 == (0:Int)) (F82_j1 N a0.2.1 a0.2.2.1 a0.2.2.2.1 a0.2.2.2.2.1 a0.2.2.2.2.2.1 a0.2.2.2.2.2.2 (!a0.2.2.2.2.2.1)) (F82_j1 N a0.2.1 a0.2.2.1 a0.2.2.2.1 a0.2.2.2.2.1 a0.2.2.2.2.2.1 a0.2.2.2.2.2.2 false)) (F82_j1 N a0.2.1 a0.2.2.1 a0.2.2.2.1 a0.2.2.2.2.1 a0.2.2.2.2.2.1 a0.2.2.2.2.2.2 false)) (cond a0.2.2.2.2.2.1 (cond a (andO (F132 N a0.2.2.2.2.1) fun d=>F82_j1 N a0.2.1 a0.2.2.1 a0.2.2.2.1 a0.2.2.2.2.1 a0.2.2.2.2.2.1 a0.2.2.2.2.2.2 d) (F82_j1 N a0.2.1 a0.2.2.1 a0.2.2.2.1 a0.2.2.2.2.1 a0.2.2.2.2.2.1 a0.2.2.2.2.2.2 false)) (cond a (andO (F133 N a0.2.2.2.2.1) fun e=>F82_j1 N a0.2.1 a0.2.2.1 a0.2.2.2.1 a0.2.2.2.2.1 a0.2.2.2.2.2.1 a0.2.2.2.2.2.2 e) (F82_j1 N a0.2.1 a0.2.2.1 a0.2.2.2.1 a0.2.2.2.2.1 a0.2.2.2.2.2.1 a0.2.2.2.2.2.2 false)))) (cond (a0.2.2.2.1 == (3:Int)) (F82_j2 N a0.2.1 a0.2.2.1 a0.2.2.2.1 a0.2.2.2.2.1 a0.2.2.2.2.2.1 a0.2.2.2.2.2.2) (cond a0.2.2.2.2.2.1 (F82_j2 N a0.2.1 a0.2.2.1 a0.2.2.2.1 a0.2.2.2.2.1 a0.2.2.2.2.2.1 a0.2.2.2.2.2.2) (F82_j2 N a0.2.1 a0.2.2.1 a0.2.2.2.1 a0.2.2.2.2.1 a0.2.2.2.2.2.1 a0.2.2.2.2.2.2)))) (cond (a0.1 == (2:Int)) (andO (F80 N (a0.2.2.2.2.2.2.length:Int) (1:Int) (6:Int)) fun f=>cond f (andO (F114 N a0.2.2.2.2.2.2 (fun z0=>F134 N z0)) fun g=>F82_j0 N a0.2.1 a0.2.2.1 a0.2.2.2.1 a0.2.2.2.2.1 a0.2.2.2.2.2.1 ([]) (!g)) (F82_j0 N a0.2.1 a0.2.2.1 a0.2.2.2.1 a0.2.2.2.2.1 a0.2.2.2.2.2.1 ([]) false)) (cond (a0.1 == (3:Int)) (andO (F131 N a0.2.2.1) fun h=>cond h (andO (F131 N a0.2.2.2.2.1) fun i=>F82_j0 N a0.2.1 (0:Int) a0.2.2.2.1 (0:Int) a0.2.2.2.2.2.1 a0.2.2.2.2.2.2 i) (F82_j0 N a0.2.1 (0:Int) a0.2.2.2.1 (0:Int) a0.2.2.2.2.2.1 a0.2.2.2.2.2.2 false)) (cond (a0.1 == (5:Int)) (andO (F131 N a0.2.2.1) fun j=>F82_j0 N a0.2.1 (0:Int) a0.2.2.2.1 a0.2.2.2.2.1 a0.2.2.2.2.2.1 a0.2.2.2.2.2.2 j) (cond (a0.1 == (6:Int)) (andO (F80 N a0.2.2.2.2.1 (0:Int) (1000000:Int)) fun k=>cond k (cond (!a0.2.2.2.2.2.1) (F82_j0 N a0.2.1 a0.2.2.1 a0.2.2.2.1 (0:Int) false a0.2.2.2.2.2.2 true) (andO (F132 N a0.2.2.2.2.1) fun l=>F82_j0 N a0.2.1 a0.2.2.1 a0.2.2.2.1 (0:Int) false a0.2.2.2.2.2.2 l)) (F82_j0 N a0.2.1 a0.2.2.1 a0.2.2.2.1 (0:Int) false a0.2.2.2.2.2.2 false)) (cond (a0.1 == (4:Int)) (F82_j3 N a0.2.1 a0.2.2.1 a0.2.2.2.1 a0.2.2.2.2.1 a0.2.2.2.2.2.1 a0.2.2.2.2.2.2 (a0.1 == (4:Int))) (F82_j3 N a0.2.1 a0.2.2.1 a0.2.2.2.1 a0.2.2.2.2.1 a0.2.2.2.2.2.1 a0.2.2.2.2.2.2 (a0.1 == (7:Int)))))))))
theorem ok82 N a0 {r} (h:F82 N a0=some r):Con prog 82 [.agg (lv Y50 a0)] [.lf (.v .bool r)]:=by
 refine ctr [.lf (.v .bool)] K func82 rfl fun w0 E0 ht=>?_
 unfold F82 at h
 show VW _ _ _ _ _ (retQ _ _ _ _) _
 refine nR K (tn 2) <| nR K (tn 3) <| nR K (tn 2) <| nR K (tn 1) ?_
 refine VW.join (fun s=>∃p q u w x y z,s=⟨[(3, .lf (.ptr 0 0 0 0)),(4,B z)],[bx [zi (0:Int),zs p,zi q,zi u,zi w,zb x, .v B1 y] 51]⟩∧F82_j0 N p q u w x y z=some r) ?_ ?_
 ·refine nR K (tn 2) <| VW.block <| nR K (tn 2) ?_
  refine cnd h ?_ ?_<;>intro h
  ·refine sq <| VW.region <| nG K 2 (tn 2) ?_
   obtain⟨Q,hy,h⟩:=aS h
   refine clc false [.t .str] [] (some 13) K (ok127 N _ hy) <| nN K (tn 1) <| nE K (tn 2) ?_
   exact arv [.ren [3,4] [1]] ⟨ByteArray.empty,a0.2.2.1,a0.2.2.2.1,a0.2.2.2.2.1,a0.2.2.2.2.2.1,a0.2.2.2.2.2.2,Q,rfl,h⟩
  refine nR K (tn 2) ?_
  refine cnd h ?_ ?_<;>intro h
  ·refine sq <| VW.region <| nG K 2 (tn 2) ?_
   obtain⟨W,hy,h⟩:=aS h
   refine clc false [.t B0] [] (some 19) K (ok131 N _ hy) <| nG K 1 (tn 1) ?_
   refine spC 20 h ?_ ?_<;>intro h
   ·refine nG K 2 (tn 2) <| VO.on (j:=3) (want:=true) (d:=20) (b:=true) rfl rfl rfl (by kernel_rfl) rfl ?_
    obtain⟨L,hy,h⟩:=aS h
    refine clc false [.t B0, .t B0, .t B0] [] (some 23) K (ok80 N _ _ _ hy) <| nN K (tn 2) ?_
    refine VW.join (fun s=>∃k A C D E l m,s=⟨[(3, .lf (.ptr 0 0 0 0)),(4,B m)],[bx [zi (0:Int),zs k,zi A,zi C,zi D,zb E, .v B1 l] 51]⟩∧F82_j1 N k A C D E l m=some r) ?_ ?_
    ·refine VW.block <| nR K (tn 4) ?_
     refine cnd h ?_ ?_<;>intro h
     ·refine VW.region <| sGh K 2 [1,3,36] [0,1] [(1, .lf (.ptr 0 0 0 0)),(3, .lf (.ptr 1 0 0 0)),(36,B L)] (tn 2) ?_
      refine spC 36 h ?_ ?_<;>intro h
      ·refine nG K 5 (tn 5) ?_
       refine spC 41 h ?_ ?_<;>intro h
       ·refine nN K (tn 5) ?_
        exact arv [.ren [3,4] [1]] ⟨a0.2.1,a0.2.2.1,a0.2.2.2.1,a0.2.2.2.2.1,a0.2.2.2.2.2.1,a0.2.2.2.2.2.2,(!a0.2.2.2.2.2.1),rfl,h⟩
       refine nN K (tn 5) ?_
       exact arv [.ren [3,4] [1]] ⟨a0.2.1,a0.2.2.1,a0.2.2.2.1,a0.2.2.2.2.1,a0.2.2.2.2.2.1,a0.2.2.2.2.2.2,false,rfl,h⟩
      refine nN K (tn 10) ?_
      exact arv [.ren [3,4] [1]] ⟨a0.2.1,a0.2.2.1,a0.2.2.2.1,a0.2.2.2.2.1,a0.2.2.2.2.2.1,a0.2.2.2.2.2.2,false,rfl,h⟩
     refine sRh K [1,3,4,46] [0,1] [(1, .lf (.ptr 0 0 0 0)),(3, .lf (.ptr 1 0 0 0)),(4,B L),(46,B a0.2.2.2.2.2.1)] (tn 3) ?_
     refine cnd h ?_ ?_<;>intro h
     ·refine VW.region <| nG K 2 (tn 2) ?_
      refine spC 50 h ?_ ?_<;>intro h
      ·refine nG K 2 (tn 2) <| VO.on (j:=1) (want:=true) (d:=50) (b:=true) rfl rfl rfl (by kernel_rfl) rfl ?_
       obtain⟨R,hy,h⟩:=aS h
       refine clc false [.t B0] [] (some 53) K (ok132 N _ hy) <| nN K (tn 2) ?_
       exact arv [.ren [3,4] [1]] ⟨a0.2.1,a0.2.2.1,a0.2.2.2.1,a0.2.2.2.2.1,a0.2.2.2.2.2.1,a0.2.2.2.2.2.2,R,rfl,h⟩
      refine nN K (tn 5) ?_
      exact arv [.ren [3,4] [1]] ⟨a0.2.1,a0.2.2.1,a0.2.2.2.1,a0.2.2.2.2.1,a0.2.2.2.2.2.1,a0.2.2.2.2.2.2,false,rfl,h⟩
     refine VW.region <| nG K 2 (tn 2) ?_
     refine spC 26 h ?_ ?_<;>intro h
     ·refine nG K 2 (tn 2) <| VO.on (j:=1) (want:=true) (d:=26) (b:=true) rfl rfl rfl (by kernel_rfl) rfl ?_
      obtain⟨S,hy,h⟩:=aS h
      refine clc false [.t B0] [] (some 29) K (ok133 N _ hy) <| nN K (tn 2) ?_
      exact arv [.ren [3,4] [1]] ⟨a0.2.1,a0.2.2.1,a0.2.2.2.1,a0.2.2.2.2.1,a0.2.2.2.2.2.1,a0.2.2.2.2.2.2,S,rfl,h⟩
     refine nN K (tn 5) ?_
     exact arv [.ren [3,4] [1]] ⟨a0.2.1,a0.2.2.1,a0.2.2.2.1,a0.2.2.2.2.1,a0.2.2.2.2.2.1,a0.2.2.2.2.2.2,false,rfl,h⟩
    rintro s ⟨k,A,C,D,E,l,m,rfl,h⟩
    unfold F82_j1 at h
    refine nE K (tn 8) ?_
    exact arv [.ren [3,4] [0]] ⟨k,(0:Int),(0:Int),(0:Int),false,l,m,rfl,h⟩
   refine nN K (tn 5) ?_
   refine VW.join (fun s=>∃n F G H I o,s=⟨[(3, .lf (.ptr 0 0 0 0)),(4,B false)],[bx [zi (0:Int),zs n,zi F,zi G,zi H,zb I, .v B1 o] 51]⟩∧F82_j2 N n F G H I o=some r) ?_ ?_
   ·refine VW.block <| nR K (tn 4) ?_
    refine cnd h ?_ ?_<;>intro h
    ·refine nE K (tn 12) ?_
     exact arv [.ren [3,4] [1]] ⟨a0.2.1,a0.2.2.1,a0.2.2.2.1,a0.2.2.2.2.1,a0.2.2.2.2.2.1,a0.2.2.2.2.2.2,rfl,h⟩
    refine nR K (tn 3) ?_
    refine cnd h ?_ ?_<;>intro h
    ·refine rR K [3,4] [1] ⟨[(3, .lf (.ptr 0 0 0 0)),(4,B false)],[bx [zi (0:Int),zs a0.2.1,zi a0.2.2.1,zi a0.2.2.2.1,zi a0.2.2.2.2.1,zb a0.2.2.2.2.2.1, .v B1 a0.2.2.2.2.2.2] 51]⟩ (tn 7) ?_
     exact arv [.ren [3,4] [0]] ⟨a0.2.1,a0.2.2.1,a0.2.2.2.1,a0.2.2.2.2.1,a0.2.2.2.2.2.1,a0.2.2.2.2.2.2,rfl,h⟩
    refine rR K [3,4] [1] ⟨[(3, .lf (.ptr 0 0 0 0)),(4,B false)],[bx [zi (0:Int),zs a0.2.1,zi a0.2.2.1,zi a0.2.2.2.1,zi a0.2.2.2.2.1,zb a0.2.2.2.2.2.1, .v B1 a0.2.2.2.2.2.2] 51]⟩ (tn 7) ?_
    exact arv [.ren [3,4] [0]] ⟨a0.2.1,a0.2.2.1,a0.2.2.2.1,a0.2.2.2.2.1,a0.2.2.2.2.2.1,a0.2.2.2.2.2.2,rfl,h⟩
   rintro s ⟨n,F,G,H,I,o,rfl,h⟩
   unfold F82_j2 at h
   refine nE K (tn 8) ?_
   exact arv [.ren [3,4] [0]] ⟨n,(0:Int),(0:Int),(0:Int),false,o,false,rfl,h⟩
  refine nR K (tn 2) ?_
  refine cnd h ?_ ?_<;>intro h
  ·refine sq <| VW.region <| nG K 3 (tn 3) ?_
   obtain⟨X,hy,h⟩:=aS h
   refine clc false [.t B0, .t B0, .t B0] [] (some 64) K (ok80 N _ _ _ hy) <| nG K 1 (tn 1) ?_
   refine spC 65 h ?_ ?_<;>intro h
   ·refine nG K 2 (tn 2) <| VO.on (j:=4) (want:=true) (d:=65) (b:=true) rfl rfl rfl (by kernel_rfl) rfl ?_
    obtain⟨M,hy,h⟩:=aS h
    refine clc false [.t B1, .clo []] [] (some 68) K (ok114 N _ 134  (fun z0=>F134 N z0) (fun z0 _ hz=>ok134 N z0 hz) hy) <| nN K (tn 3) <| rR K [3,4] [1] ⟨[(3, .lf (.ptr 0 0 0 0)),(4,B (!M))],[bx [zi (0:Int),zs a0.2.1,zi a0.2.2.1,zi a0.2.2.2.1,zi a0.2.2.2.2.1,zb a0.2.2.2.2.2.1, .nil] 51]⟩ (tn 2) ?_
    exact arv [.nilB 0 6 B0, .ren [3,4] [0]] ⟨a0.2.1,a0.2.2.1,a0.2.2.2.1,a0.2.2.2.2.1,a0.2.2.2.2.2.1,[],(!M),rfl,h⟩
   refine nN K (tn 6) <| nE K (tn 2) ?_
   exact arv [.nilB 1 6 B0, .ren [3,4] [1]] ⟨a0.2.1,a0.2.2.1,a0.2.2.2.1,a0.2.2.2.2.1,a0.2.2.2.2.2.1,[],false,rfl,h⟩
  refine nR K (tn 2) ?_
  refine cnd h ?_ ?_<;>intro h
  ·refine sq <| VW.region <| nG K 2 (tn 2) ?_
   obtain⟨Y,hy,h⟩:=aS h
   refine clc false [.t B0] [] (some 76) K (ok131 N _ hy) <| nG K 1 (tn 1) ?_
   refine spC 77 h ?_ ?_<;>intro h
   ·refine nG K 2 (tn 2) <| VO.on (j:=3) (want:=true) (d:=77) (b:=true) rfl rfl rfl (by kernel_rfl) rfl ?_
    obtain⟨O,hy,h⟩:=aS h
    refine clc false [.t B0] [] (some 80) K (ok131 N _ hy) <| sN K [3,4] [1] ⟨[(3, .lf (.ptr 0 0 0 0)),(4,B O)],[bx [zi (0:Int),zs a0.2.1,zi a0.2.2.1,zi a0.2.2.2.1,zi a0.2.2.2.2.1,zb a0.2.2.2.2.2.1, .v B1 a0.2.2.2.2.2.2] 51]⟩ (tn 2) <| nE K (tn 4) ?_
    exact arv [.ren [3,4] [0]] ⟨a0.2.1,(0:Int),a0.2.2.2.1,(0:Int),a0.2.2.2.2.2.1,a0.2.2.2.2.2.2,O,rfl,h⟩
   refine nN K (tn 5) <| rR K [3,4] [1] ⟨[(3, .lf (.ptr 0 0 0 0)),(4,B false)],[bx [zi (0:Int),zs a0.2.1,zi (0:Int),zi a0.2.2.2.1,zi (0:Int),zb a0.2.2.2.2.2.1, .v B1 a0.2.2.2.2.2.2] 51]⟩ (tn 4) ?_
   exact arv [.ren [3,4] [0]] ⟨a0.2.1,(0:Int),a0.2.2.2.1,(0:Int),a0.2.2.2.2.2.1,a0.2.2.2.2.2.2,false,rfl,h⟩
  refine nR K (tn 2) ?_
  refine cnd h ?_ ?_<;>intro h
  ·refine sq <| VW.region <| nG K 2 (tn 2) ?_
   obtain⟨P,hy,h⟩:=aS h
   refine clc false [.t B0] [] (some 88) K (ok131 N _ hy) <| nN K (tn 1) <| rR K [3,4] [1] ⟨[(3, .lf (.ptr 0 0 0 0)),(4,B P)],[bx [zi (0:Int),zs a0.2.1,zi (0:Int),zi a0.2.2.2.1,zi a0.2.2.2.2.1,zb a0.2.2.2.2.2.1, .v B1 a0.2.2.2.2.2.2] 51]⟩ (tn 2) ?_
   exact arv [.ren [3,4] [0]] ⟨a0.2.1,(0:Int),a0.2.2.2.1,a0.2.2.2.2.1,a0.2.2.2.2.2.1,a0.2.2.2.2.2.2,P,rfl,h⟩
  refine nR K (tn 2) ?_
  refine cnd h ?_ ?_<;>intro h
  ·refine sq <| VW.region <| nG K 2 (tn 2) ?_
   obtain⟨T,hy,h⟩:=aS h
   refine clc false [.t B0, .t B0, .t B0] [] (some 94) K (ok80 N _ _ _ hy) <| sGh K 1 [1,3,95] [0,1] [(1, .lf (.ptr 0 0 0 0)),(3, .lf (.ptr 1 0 0 0)),(95,B T)] (tn 1) ?_
   refine spC 95 h ?_ ?_<;>intro h
   ·refine nG K 4 (tn 4) ?_
    refine spC 99 h ?_ ?_<;>intro h
    ·refine nN K (tn 6) <| nE K (tn 4) ?_
     exact arv [.ren [3,4] [1]] ⟨a0.2.1,a0.2.2.1,a0.2.2.2.1,(0:Int),false,a0.2.2.2.2.2.2,true,rfl,h⟩
    refine nG K 2 (tn 2) <| VO.on (j:=7) (want:=false) (d:=99) (b:=false) rfl rfl rfl (by kernel_rfl) rfl ?_
    obtain⟨U,hy,h⟩:=aS h
    refine clc false [.t B0] [] (some 102) K (ok132 N _ hy) <| nN K (tn 3) <| nE K (tn 4) ?_
    exact arv [.ren [3,4] [1]] ⟨a0.2.1,a0.2.2.1,a0.2.2.2.1,(0:Int),false,a0.2.2.2.2.2.2,U,rfl,h⟩
   refine nN K (tn 10) <| nE K (tn 4) ?_
   exact arv [.ren [3,4] [1]] ⟨a0.2.1,a0.2.2.1,a0.2.2.2.1,(0:Int),false,a0.2.2.2.2.2.2,false,rfl,h⟩
  refine VW.join (fun s=>∃a c e f g i J,s=⟨[(3, .lf (.ptr 0 0 0 0)),(4,B false),(107,B J)],[bx [zi (0:Int),zs a,zi c,zi e,zi f,zb g, .v B1 i] 51]⟩∧F82_j3 N a c e f g i J=some r) ?_ ?_
  ·refine nR K (tn 2) ?_
   refine cnd h ?_ ?_<;>intro h
   ·refine VW.skip ?_
    exact arv [.ren [3,4,107] [1]] ⟨a0.2.1,a0.2.2.1,a0.2.2.2.1,a0.2.2.2.2.1,a0.2.2.2.2.2.1,a0.2.2.2.2.2.2,(a0.1 == (4:Int)),rfl,h⟩
   refine rR K [3,4,107] [1] ⟨[(3, .lf (.ptr 0 0 0 0)),(4,B false),(107,B (a0.1 == (7:Int)))],[bx [zi (0:Int),zs a0.2.1,zi a0.2.2.1,zi a0.2.2.2.1,zi a0.2.2.2.2.1,zb a0.2.2.2.2.2.1, .v B1 a0.2.2.2.2.2.2] 51]⟩ (tn 2) ?_
   exact arv [.ren [3,4,107] [0]] ⟨a0.2.1,a0.2.2.1,a0.2.2.2.1,a0.2.2.2.2.1,a0.2.2.2.2.2.1,a0.2.2.2.2.2.2,(a0.1 == (7:Int)),rfl,h⟩
  rintro s ⟨a,c,e,f,g,i,J,rfl,h⟩
  unfold F82_j3 at h
  refine cnd h ?_ ?_<;>intro h
  ·refine nE K (tn 1) ?_
   exact arv [.ren [3,4] [0]] ⟨a,c,e,f,g,i,true,rfl,h⟩
  refine VW.skip ?_
  exact arv [.ren [3,4] [0]] ⟨a,c,e,f,g,i,false,rfl,h⟩
 rintro s ⟨p,q,u,w,x,y,z,rfl,h⟩
 unfold F82_j0 at h
 refine sq <| VW.region <| nG K 2 (tn 2) ?_
 refine spC 111 h ?_ ?_<;>intro h
 ·refine nG K 2 (tn 2) <| VO.on (j:=1) (want:=true) (d:=111) (b:=true) rfl rfl rfl (by kernel_rfl) rfl ?_
  obtain⟨V,hy,h⟩:=aS h
  refine clc false [.t Y50, .t Y50] [] (some 114) K (ok43 N _ _ hy) <| nN K (tn 2) ?_
  cases h;exact VW.ret (rt [])
 refine nN K (tn 5) ?_
 cases h;exact VW.ret (rt [])
def F81 (N:Nat) (a0:Z50):Option (Bool) :=
  andO (F82 N a0) fun a=>some (!a)
theorem ok81 N a0 {r} (h:F81 N a0=some r):Con prog 81 [.agg (lv Y50 a0)] [.lf (.v .bool r)]:=by
 refine ctr [.lf (.v .bool)] K func81 rfl fun w0 E0 ht=>?_
 unfold F81 at h
 show VW _ _ _ _ _ (retQ _ _ _ _) _
 refine nR K (tn 2) <| sq <| VW.region <| nG K 1 (tn 1) ?_
 obtain⟨a,hy,h⟩:=aS h
 refine clc false [.t Y50] [] (some 4) K (ok82 N _ hy) <| nN K (tn 2) ?_
 cases h;exact VW.ret (rt [])
def F135_j0 (N:Nat) (a:Bool):Option (Int) :=
  cond a (some (1:Int)) (some (-1:Int))
def F135_j1 (N:Nat) (a0:Int) (a:Bool):Option (Int) :=
  cond a (some (2:Int)) (cond (a0 == (1:Int)) (F135_j0 N (a0 == (1:Int))) (cond (a0 == (2:Int)) (F135_j0 N (a0 == (2:Int))) (cond (a0 == (5:Int)) (F135_j0 N (a0 == (5:Int))) (cond (a0 == (6:Int)) (F135_j0 N (a0 == (6:Int))) (F135_j0 N (a0 == (7:Int)))))))
def F135 (N:Nat) (a0:Int):Option (Int) :=
  cond (a0 == (0:Int)) (some (0:Int)) (cond (a0 == (3:Int)) (F135_j1 N a0 (a0 == (3:Int))) (F135_j1 N a0 (a0 == (4:Int))))
theorem ok135 N a0 {r} (h:F135 N a0=some r):Con prog 135 [I a0] [.lf (.v B0 r)]:=by
 refine ctr [.lf (.v B0)] K func135 rfl fun w0 E0 ht=>?_
 unfold F135 at h
 show VW _ _ _ _ _ (retQ _ _ _ _) _
 refine nR K (tn 1) <| sq <| nR K (tn 1) <| VW.block <| nR K (tn 2) ?_
 refine cnd h ?_ ?_<;>intro h
 ·refine nR K (tn 1) ?_
  cases h;exact VW.ret (rt [])
 refine VW.join (fun s=>∃a,s=⟨[(3,I a0),(6,B a)],[]⟩∧F135_j1 N a0 a=some r) ?_ ?_
 ·refine nR K (tn 2) ?_
  refine cnd h ?_ ?_<;>intro h
  ·refine VW.skip ?_
   exact arv [.ren [3,6] []] ⟨(a0 == (3:Int)),rfl,h⟩
  refine nE K (tn 2) ?_
  exact arv [.ren [3,6] []] ⟨(a0 == (4:Int)),rfl,h⟩
 rintro s ⟨a,rfl,h⟩
 unfold F135_j1 at h
 refine cnd h ?_ ?_<;>intro h
 ·refine nR K (tn 1) ?_
  cases h;exact VW.ret (rt [])
 refine VW.join (fun s=>∃b,s=⟨[(9,B b)],[]⟩∧F135_j0 N b=some r) ?_ ?_
 ·refine nR K (tn 2) ?_
  refine cnd h ?_ ?_<;>intro h
  ·refine VW.skip ?_
   exact arv [.ren [9] []] ⟨(a0 == (1:Int)),rfl,h⟩
  refine nR K (tn 2) ?_
  refine cnd h ?_ ?_<;>intro h
  ·refine VW.skip ?_
   exact arv [.ren [9] []] ⟨(a0 == (2:Int)),rfl,h⟩
  refine nR K (tn 2) ?_
  refine cnd h ?_ ?_<;>intro h
  ·refine VW.skip ?_
   exact arv [.ren [9] []] ⟨(a0 == (5:Int)),rfl,h⟩
  refine nR K (tn 2) ?_
  refine cnd h ?_ ?_<;>intro h
  ·refine VW.skip ?_
   exact arv [.ren [9] []] ⟨(a0 == (6:Int)),rfl,h⟩
  refine nE K (tn 2) ?_
  exact arv [.ren [9] []] ⟨(a0 == (7:Int)),rfl,h⟩
 rintro s ⟨b,rfl,h⟩
 unfold F135_j0 at h
 refine cnd h ?_ ?_<;>intro h
 ·refine nR K (tn 1) ?_
  cases h;exact VW.ret (rt [])
 refine VW.skip <| nR K (tn 1) ?_
 cases h;exact VW.ret (rt [])
def F83_j0 (N:Nat) (a:Int):Option (Int) :=
  some a
def F83_l0_b (N:Nat) (a0:(List Z50)) (a2:Int) (self:(List Z50)→Int→Int→Option (Int)) (e:Int) (d:Int→Int→Option (Int)) (a:Int) (b:Int):Option (Int) :=
  cond (decide (b < e)) (andO (self a0 a (IntKind.i64.wrap (a2+(1:Int)))) fun c=>cond (decide (c < (0:Int))) (some (-1:Int)) (d c (IntKind.i64.wrap (b+(1:Int))))) (F83_j0 N a)
def F83_l0 (N:Nat) (a0:(List Z50)) (a2:Int) (self:(List Z50)→Int→Int→Option (Int)) (a:Int):=loopF (F83_l0_b N a0 a2 self a) (fun _ _=>none)
theorem F83_l0_s {N a0 a2} {self:(List Z50)→Int→Int→Option (Int)} {a k} (hk:0 < k:=by omega):F83_l0 N a0 a2 self a k=F83_l0_b N a0 a2 self a (F83_l0 N a0 a2 self a (k - 1)):=lS hk
def F83_b (N:Nat) (self:(List Z50)→Int→Int→Option (Int)) (a0:(List Z50)) (a1:Int) (a2:Int):Option (Int) :=
  cond (decide (a1≥(a0.length:Int))) (some (-1:Int)) (cond (decide (a2 > (10:Int))) (some (-1:Int)) (gd (InR a1 a0.length) (andO (F135 N ((a0.getD a1.toNat (Ty.dflt Y50)).1)) fun a=>F83_l0 N a0 a2 self a N (IntKind.i64.wrap (a1+(1:Int))) (0:Int))))
theorem ok83_b (N:Nat) (self:(List Z50)→Int→Int→Option (Int)) (ih:∀(a0:(List Z50)) (a1:Int) (a2:Int) (r:Int),self a0 a1 a2=some r→Con prog 83 [Vv (.sl Y50) a0,I a1,I a2] [.lf (.v B0 r)]) (a0:(List Z50)) (a1:Int) (a2:Int) {r:Int} (h:F83_b N self a0 a1 a2=some r):Con prog 83 [Vv (.sl Y50) a0,I a1,I a2] [.lf (.v B0 r)]:=by
 refine ctr [.lf (.v B0)] K func83 rfl fun w0 E0 ht=>?_
 unfold F83_b at h
 show VW _ _ _ _ _ (retQ _ _ _ _) _
 refine nR K (tn 1) <| sq <| sq <| VW.region <| nG K 5 (tn 5) ?_
 refine spC 12 h ?_ ?_<;>intro h
 ·refine nN K (tn 3) ?_
  refine VW.cond (b:=true) (by kernel_rfl) (fun _=>?_) (fun h'=>nomatch h')
  refine nR K (tn 1) ?_
  cases h;exact VW.ret (rt [])
 refine nN K (tn 3) ?_
 refine cnd h ?_ ?_<;>intro h
 ·refine nR K (tn 1) ?_
  cases h;exact VW.ret (rt [])
 refine VW.skip <| nR K (tn 3) ?_
 refine VW.join (fun s=>∃d,s=⟨[(7,I d)],[]⟩∧F83_j0 N d=some r) ?_ ?_
 ·refine sq <| VW.region ?_
  obtain⟨g,h⟩:=gS h
  refine nG K 5 (pu 2 (an g (tn 2))) ?_
  obtain⟨f,hy,h⟩:=aS h
  refine clc false [.t B0] [] (some 23) K (ok135 N _ hy) <| nN K (tn 1) <| VW.block <| lop (fun k s=>∃a c,s=⟨[(0,Vv (.sl Y50) a0),(2,I a2),(7,I a),(23,I f),(24,I c)],[]⟩∧F83_l0 N a0 a2 self f k a c=some r) N [.ren [0,2,7,23,24] []] ⟨(wr (a1+(1:Int))),(0:Int),rfl,h⟩ ?_
  rintro e s ⟨a,c,rfl,h⟩
  cases e with
  | zero=>exact nv h
  | succ e =>
   rw [F83_l0_s,F83_l0_b] at h
   refine nR K (tn 1) <| sq ?_
   refine cnd h ?_ ?_<;>intro h
   ·refine VW.skip <| sq <| VW.block <| sq <| VW.region <| nG K 4 (tn 4) ?_
    obtain⟨i,hy,h⟩:=aS h
    refine clc false [.t (.sl Y50), .t B0, .t B0] [] (some 30) K (ih _ _ _ _ hy) <| nN K (tn 1) <| nR K (tn 2) ?_
    refine cnd h ?_ ?_<;>intro h
    ·refine nR K (tn 1) ?_
     cases h;exact VW.ret (rt [])
    refine VW.skip <| nE K (tn 2) ?_
    exact aro [.ren [0,2,7,23,24] []] ⟨i,(wr (c+(1:Int))),rfl,h⟩
   refine VW.exit ?_
   exact arv [.ren [7] []] ⟨a,rfl,h⟩
 rintro s ⟨d,rfl,h⟩
 unfold F83_j0 at h
 refine nR K (tn 2) ?_
 cases h;exact VW.ret (rt [])
def F83_r (N:Nat):=loopF (F83_b N) (fun _ _ _=>none)
theorem F83_s {N k} (hk:0 < k:=by omega):F83_r N k=F83_b N (F83_r N (k - 1)):=lS hk
def F83 (N:Nat):(List Z50)→Int→Int→Option (Int):=F83_r N N
theorem ok83_k (N:Nat):∀(k:Nat) (a0:(List Z50)) (a1:Int) (a2:Int) (r:Int),loopF (F83_b N) (fun _ _ _=>none) k a0 a1 a2=some r→Con prog 83 [Vv (.sl Y50) a0,I a1,I a2] [.lf (.v B0 r)]
 | 0,a0,a1,a2,r,h=>nomatch (show (none:Option (Int))=some r from h)
 | k+1,a0,a1,a2,r,h=>ok83_b N _ (ok83_k N k) a0 a1 a2 h
theorem ok83 N a0 a1 a2 {r} (h:F83 N a0 a1 a2=some r):Con prog 83 [Vv (.sl Y50) a0,I a1,I a2] [.lf (.v B0 r)]:=ok83_k N N a0 a1 a2 r h
def F44 (N:Nat) (a0:(List Z50)):Option (Bool) :=
  andO (F80 N (a0.length:Int) (1:Int) (40:Int)) fun a=>cond (!a) (some false) (andO (F48 N a0 (fun z0=>F81 N z0)) fun b=>cond b (some false) (andO (F83 N a0 (0:Int) (1:Int)) fun c=>some (c == (a0.length:Int))))
theorem ok44 N a0 {r} (h:F44 N a0=some r):Con prog 44 [Vv (.sl Y50) a0] [.lf (.v .bool r)]:=by
 refine ctr [.lf (.v .bool)] K func44 rfl fun w0 E0 ht=>?_
 unfold F44 at h
 show VW _ _ _ _ _ (retQ _ _ _ _) _
 refine nR K (tn 1) <| sq <| sq <| VW.region <| nG K 2 (tn 2) ?_
 obtain⟨a,hy,h⟩:=aS h
 refine clc false [.t B0, .t B0, .t B0] [] (some 5) K (ok80 N _ _ _ hy) <| nG K 2 (tn 2) ?_
 refine spC 7 h ?_ ?_<;>intro h
 ·refine nN K (tn 3) ?_
  refine VW.cond (b:=true) (by kernel_rfl) (fun _=>?_) (fun h'=>nomatch h')
  refine nR K (tn 1) ?_
  cases h;exact VW.ret (rt [])
 refine nG K 1 (tn 1) <| VO.on (j:=4) (want:=false) (d:=7) (b:=false) rfl rfl rfl (by kernel_rfl) rfl ?_
 obtain⟨c,hy,h⟩:=aS h
 refine clc false [.t (.sl Y50), .clo []] [] (some 9) K (ok48 N _ 81  (fun z0=>F81 N z0) (fun z0 _ hz=>ok81 N z0 hz) hy) <| nN K (tn 1) ?_
 refine cnd h ?_ ?_<;>intro h
 ·refine nR K (tn 1) ?_
  cases h;exact VW.ret (rt [])
 refine VW.skip <| sq <| VW.region <| nG K 1 (tn 1) ?_
 obtain⟨e,hy,h⟩:=aS h
 refine clc false [.t (.sl Y50), .t B0, .t B0] [] (some 12) K (ok83 N _ _ _ hy) <| nN K (tn 4) ?_
 cases h;exact VW.ret (rt [])
def F84 (N:Nat) (a0:Z50):Option (Bool) :=
  some a0.2.2.2.2.2.1
theorem ok84 N a0 {r} (h:F84 N a0=some r):Con prog 84 [.agg (lv Y50 a0)] [.lf (.v .bool r)]:=by
 refine ctr [.lf (.v .bool)] K func84 rfl fun w0 E0 ht=>?_
 unfold F84 at h
 show VW _ _ _ _ _ (retQ _ _ _ _) _
 refine nR K (tn 2) <| nR K (tn 3) ?_
 cases h;exact VW.ret (rt [])
def F45 (N:Nat) (a0:(List Z50)):Option (Bool) :=
  andO (F48 N a0 (fun z0=>F84 N z0)) fun a=>some a
theorem ok45 N a0 {r} (h:F45 N a0=some r):Con prog 45 [Vv (.sl Y50) a0] [.lf (.v .bool r)]:=by
 refine ctr [.lf (.v .bool)] K func45 rfl fun w0 E0 ht=>?_
 unfold F45 at h
 show VW _ _ _ _ _ (retQ _ _ _ _) _
 refine nR K (tn 1) <| sq <| VW.region <| nG K 1 (tn 1) ?_
 obtain⟨a,hy,h⟩:=aS h
 refine clc false [.t (.sl Y50), .clo []] [] (some 4) K (ok48 N _ 84  (fun z0=>F84 N z0) (fun z0 _ hz=>ok84 N z0 hz) hy) <| nN K (tn 1) ?_
 cases h;exact VW.ret (rt [])
def F79 (N:Nat) (a0:L1):Option (L1) :=
  gd (a0.length≤lim (.int .i64)) (some a0)
theorem ok79 N a0 {r} (h:F79 N a0=some r):Con prog 79 [Vv B1 a0] [.lf (.own B0 r .dp)]:=by
 refine ctr [.lf (.own B0 .dp)] K func79 rfl fun w0 E0 ht=>?_
 unfold F79 at h
 show VW _ _ _ _ _ (retQ _ _ _ _) _
 refine nR K (tn 1) <| sq <| sq <| VW.region <| nG K 1 (tn 1) ?_
 refine VO.isNil (d:=4) (e:=B0) (xs:=a0) K rfl rfl rfl rfl (by kernel_rfl) (by kernel_rfl) (fun hx=>?_) ?_
 ·replace h:some ([])=some r:=by
   subst hx;first | exact h | exact (gd_some h).2
  refine nN K (tn 0) ?_
  refine VW.cond (b:=true) (by kernel_rfl) (fun _=>?_) (fun h'=>nomatch h')
  refine nR K (tn 1) ?_
  cases h;exact VW.ret (rt [none])
 refine nN K (tn 0) ?_
 refine VW.cond (b:=false) (by kernel_rfl) (fun h'=>nomatch h') (fun _=>?_)
 refine VW.skip ?_
 obtain⟨a,h⟩:=gS h
 refine nR K (pu 2 (an a (tn 1))) ?_
 cases h;exact VW.ret (rt [some 0])
def F10_j0 (N:Nat):Option (Bool) :=
  some true
def F10_l0_b (N:Nat) (a0:L1) (a1:L1) (b:Int→Option (Bool)) (a:Int):Option (Bool) :=
  cond (decide (a < (a0.length:Int))) (gd (InR a a0.length) (gd (InR a a1.length) (cond ((a0.getD a.toNat (Ty.dflt B0)) != (a1.getD a.toNat (Ty.dflt B0))) (some false) (b (IntKind.i64.wrap (a+(1:Int))))))) (F10_j0 N)
def F10_l0 (N:Nat) (a0:L1) (a1:L1):=loopF (F10_l0_b N a0 a1) (fun _=>none)
theorem F10_l0_s {N a0 a1 k} (hk:0 < k:=by omega):F10_l0 N a0 a1 k=F10_l0_b N a0 a1 (F10_l0 N a0 a1 (k - 1)):=lS hk
def F10 (N:Nat) (a0:L1) (a1:L1):Option (Bool) :=
  cond ((a0.length:Int) != (a1.length:Int)) (some false) (F10_l0 N a0 a1 N (0:Int))
theorem ok10 N a0 a1 {r} (h:F10 N a0 a1=some r):Con prog 10 [Vv B1 a0,Vv B1 a1] [.lf (.v .bool r)]:=by
 refine ctr [.lf (.v .bool)] K func10 rfl fun w0 E0 ht=>?_
 unfold F10 at h
 show VW _ _ _ _ _ (retQ _ _ _ _) _
 refine nR K (tn 1) <| sq <| nR K (tn 5) ?_
 refine cnd h ?_ ?_<;>intro h
 ·refine nR K (tn 1) ?_
  cases h;exact VW.ret (rt [])
 refine VW.skip ?_
 refine VW.join (fun s=>s=⟨[],[]⟩∧F10_j0 N=some r) ?_ ?_
 ·refine nR K (tn 1) <| VW.block <| lop (fun k s=>∃a,s=⟨[(0,Vv B1 a0),(1,Vv B1 a1),(5,I a)],[]⟩∧F10_l0 N a0 a1 k a=some r) N [.ren [0,1,5] []] ⟨(0:Int),rfl,h⟩ ?_
  rintro b s ⟨a,rfl,h⟩
  cases b with
  | zero=>exact nv h
  | succ b =>
   rw [F10_l0_s,F10_l0_b] at h
   refine sq <| nR K (tn 4) ?_
   refine cnd h ?_ ?_<;>intro h
   ·refine VW.skip <| sq <| VW.block <| sq ?_
    obtain⟨c,d,h⟩:=gT h
    refine dr K [] [] [] [0,1,5,25] [] (pu 2 (an c (pu 3 (an d (tn 2))))) trivial ?_
    refine cnd h ?_ ?_<;>intro h
    ·refine nR K (tn 1) ?_
     cases h;exact VW.ret (rt [])
    refine VW.skip <| nE K (tn 3) ?_
    exact aro [.ren [0,1,5] []] ⟨(wr (a+(1:Int))),rfl,h⟩
   refine VW.exit ?_
   exact arv [.ren [] []] ⟨rfl,h⟩
 rintro s ⟨rfl,h⟩
 unfold F10_j0 at h
 refine nR K (tn 1) ?_
 cases h;exact VW.ret (rt [])
def F173 (N:Nat) (a0:Int):Option (Bool) :=
  some (a0 != a0)
theorem ok173 N a0 {r} (h:F173 N a0=some r):Con prog 173 [I a0] [.lf (.v .bool r)]:=by
 refine ctr [.lf (.v .bool)] K func173 rfl fun w0 E0 ht=>?_
 unfold F173 at h
 show VW _ _ _ _ _ (retQ _ _ _ _) _
 refine nR K (tn 1) <| nR K (tn 4) ?_
 cases h;exact VW.ret (rt [])
def F56 (N:Nat):Option ((List Z99)) :=
  some ([((⟨#[116,49]⟩:ByteArray),(2:Int)),((⟨#[116,50]⟩:ByteArray),(3:Int)),((⟨#[116,51]⟩:ByteArray),(1:Int))])
theorem ok56 N {r} (h:F56 N =some r):Con prog 56 [] [.lf (.own Y99 r .dp)]:=by
 refine ctr [.lf (.own Y99 .dp)] K func56 rfl fun w0 E0 ht=>?_
 unfold F56 at h
 show VW _ _ _ _ _ (retQ _ _ _ _) _
 refine nR K (tn 1) <| nR K (tn 5) ?_
 cases h;exact VW.ret (rt [some 0])
def F100 (N:Nat) (a0:Z84) (a1:(List ByteArray)):Option (Z84×ByteArray) :=
  andO (F52 N a0 (a1.length:Int)) fun a=>gd (InR a.2 a1.length) (some (a.1,(a1.getD a.2.toNat (Ty.dflt .str))))
theorem ok100 N a0 a1 {r} (h:F100 N a0 a1=some r):ConM prog 100 [bx (lv Y84 a0) 85] [.lf (.ptr 0 0 0 0),Vv (.sl .str) a1] [.lf (.v .str r.2)] [bx (lv Y84 r.1) 85]:=by
 refine ⟨enters_of func100 rfl (by decide),HM.intro [.lf (.v .str)] K func100 rfl (Nat.le_of_ble_eq_true rfl) (Nat.le_of_ble_eq_true rfl) fun w0 E0 ht=>?_⟩
 unfold F100 at h
 show VW _ _ _ _ _ (retM _ _ _ _ _) _
 refine nR K (tn 1) <| sq <| VW.region <| nG K 4 (tn 4) ?_
 obtain⟨b,hy,h⟩:=aS h
 refine VO.callM [0] [.r, .t B0] (d:=some 9) (by kernel_rfl) (by kernel_rfl) (ok52 N _ _ hy) (by kernel_rfl) ?_
 obtain⟨a,h⟩:=gS h
 refine nN K (an a (tn 2)) ?_
 replace h:=Option.some.inj h
 subst h
 refine VW.ghl [.ren [4,65536] [0]] (VW.ret ?_)
 exact ⟨[],by kernel_rfl,by kernel_rfl,by kernel_rfl⟩
def F101_j0 (N:Nat) (a:ByteArray) (b:Bool):Option (ByteArray) :=
  cond b (gd ((⟨#[45]⟩:ByteArray).size+a.size≤9223372036854775807) (some ((⟨#[45]⟩:ByteArray)++a))) (some a)
def F101_j1 (N:Nat) (c:Int→ByteArray→Bool→Option (ByteArray)) (d:Int) (a:ByteArray) (e:Bool) (b:Int):Option (ByteArray) :=
  gd ((strOfNums ([(IntKind.u8.wrap (IntKind.i64.wrap ((48:Int)+b)))])).size+a.size≤9223372036854775807) (c (IntKind.i64.wrap (Int.tdiv d (10:Int))) ((strOfNums ([(IntKind.u8.wrap (IntKind.i64.wrap ((48:Int)+b)))]))++a) e)
def F101_l0_b (N:Nat) (d:Int→ByteArray→Bool→Option (ByteArray)) (a:Int) (b:ByteArray) (c:Bool):Option (ByteArray) :=
  cond (a != (0:Int)) (cond (decide ((Int.tmod a (10:Int)) < (0:Int))) (F101_j1 N d a b c (IntKind.i64.wrap ((0:Int) - (Int.tmod a (10:Int))))) (F101_j1 N d a b c (Int.tmod a (10:Int)))) (F101_j0 N b c)
def F101_l0 (N:Nat):=loopF (F101_l0_b N) (fun _ _ _=>none)
theorem F101_l0_s {N k} (hk:0 < k:=by omega):F101_l0 N k=F101_l0_b N (F101_l0 N (k - 1)):=lS hk
def F101 (N:Nat) (a0:Int):Option (ByteArray) :=
  cond (a0 == (0:Int)) (some (⟨#[48]⟩:ByteArray)) (F101_l0 N N a0 ByteArray.empty (decide (a0 < (0:Int))))
theorem ok101 N a0 {r} (h:F101 N a0=some r):Con prog 101 [I a0] [.lf (.v .str r)]:=by
 refine ctr [.lf (.v .str)] K func101 rfl fun w0 E0 ht=>?_
 unfold F101 at h
 show VW _ _ _ _ _ (retQ _ _ _ _) _
 refine nR K (tn 1) <| sq <| nR K (tn 2) ?_
 refine cnd h ?_ ?_<;>intro h
 ·refine nR K (tn 1) ?_
  cases h;exact VW.ret (rt [])
 refine VW.skip <| nR K (tn 1) <| nR K (tn 3) ?_
 refine VW.join (fun s=>∃f g,s=⟨[(3,S f),(4,B g)],[]⟩∧F101_j0 N f g=some r) ?_ ?_
 ·refine VW.block <| lop (fun k s=>∃a b c,s=⟨[(0,I a),(3,S b),(4,B c)],[]⟩∧F101_l0 N k a b c=some r) N [.ren [0,3,4] []] ⟨a0,ByteArray.empty,(decide (a0 < (0:Int))),rfl,h⟩ ?_
  rintro e s ⟨a,b,c,rfl,h⟩
  cases e with
  | zero=>exact nv h
  | succ e =>
   rw [F101_l0_s,F101_l0_b] at h
   refine sq <| nR K (tn 2) ?_
   refine cnd h ?_ ?_<;>intro h
   ·refine VW.skip <| VW.block <| nR K (pu 1 (an (show ((10:Int)≠0) from by decide) (tn 1))) ?_
    refine VW.join (fun s=>∃d,s=⟨[(0,I a),(3,S b),(4,B c),(5,I d)],[]⟩∧F101_j1 N (F101_l0 N e) a b c d=some r) ?_ ?_
    ·refine nR K (tn 2) ?_
     refine cnd h ?_ ?_<;>intro h
     ·refine nE K (tn 3) ?_
      exact arv [.ren [0,3,4,5] []] ⟨(wr ((0:Int) - (Int.tmod a (10:Int)))),rfl,h⟩
     refine VW.skip ?_
     exact arv [.ren [0,3,4,5] []] ⟨(Int.tmod a (10:Int)),rfl,h⟩
    rintro s ⟨d,rfl,h⟩
    unfold F101_j1 at h
    obtain⟨j,h⟩:=gS h
    refine nR K (pu 6 (an j (tn 1))) <| nE K (pu 1 (an (show ((10:Int)≠0) from by decide) (tn 1))) ?_
    exact aro [.ren [0,3,4] []] ⟨(wr (Int.tdiv a (10:Int))),((strOfNums ([(IntKind.u8.wrap (wr ((48:Int)+d)))]))++b),c,rfl,h⟩
   refine VW.exit ?_
   exact arv [.ren [3,4] []] ⟨b,c,rfl,h⟩
 rintro s ⟨f,g,rfl,h⟩
 unfold F101_j0 at h
 refine sq <| nR K (tn 1) ?_
 refine cnd h ?_ ?_<;>intro h
 ·obtain⟨i,h⟩:=gS h
  refine nR K (pu 1 (an i (tn 1))) ?_
  cases h;exact VW.ret (rt [])
 refine VW.skip <| nR K (tn 2) ?_
 cases h;exact VW.ret (rt [])
def F57_j0 (N:Nat) (a:(List Z99)) (b:L1) (c:Int) (d:Int):Option (Z84×(List Z99)) :=
  some ((b,(c,d)),a)
def F57_l0_b (N:Nat) (d:L1→Int→Int→(List Z99)→Option (Z84×(List Z99))) (e:L1) (f:Int) (g:Int) (b:(List Z99)):Option (Z84×(List Z99)) :=
  andO (F52 N (e,(f,g)) (2:Int)) fun a=>cond (decide ((b.length:Int) < (IntKind.i64.wrap ((8:Int)+a.2)))) (andO (F101 N (b.length:Int)) fun c=>gd ((⟨#[122]⟩:ByteArray).size+c.size≤9223372036854775807) (gd (b.length+([(((⟨#[122]⟩:ByteArray)++c),(1:Int))]).length≤lim Y99) (d a.1.1 a.1.2.1 a.1.2.2 (b++([(((⟨#[122]⟩:ByteArray)++c),(1:Int))]))))) (F57_j0 N b a.1.1 a.1.2.1 a.1.2.2)
def F57_l0 (N:Nat):=loopF (F57_l0_b N) (fun _ _ _ _=>none)
theorem F57_l0_s {N k} (hk:0 < k:=by omega):F57_l0 N k=F57_l0_b N (F57_l0 N (k - 1)):=lS hk
def F57 (N:Nat) (a0:Z84):Option (Z84×(List Z99)) :=
  andO (F56 N) fun b=>andO (F34 N a0 (6:Int)) fun d=>cond d.2 (andO (F52 N d.1 (3:Int)) fun c=>andO (F52 N c.1 (4:Int)) fun a=>cond (a.2 == (0:Int)) (andO (F99 N a.1 ([(0:Int),(1:Int),(6:Int),(7:Int)])) fun e=>gd (InR c.2 b.length) (gd (c.2.toNat < b.length) (F57_j0 N (b.set c.2.toNat ((b.getD c.2.toNat (Ty.dflt Y99)).1,e.2)) e.1.1 e.1.2.1 e.1.2.2))) (cond (a.2 == (1:Int)) (andO (F100 N a.1 ([ByteArray.empty,(⟨#[116,49]⟩:ByteArray),(⟨#[116,57]⟩:ByteArray),(⟨#[65]⟩:ByteArray)])) fun f=>gd (InR c.2 b.length) (gd (c.2.toNat < b.length) (F57_j0 N (b.set c.2.toNat (f.2,(b.getD c.2.toNat (Ty.dflt Y99)).2)) f.1.1 f.1.2.1 f.1.2.2))) (cond (a.2 == (2:Int)) (gd (0≤c.2∧c.2≤(b.length:Int)) (F57_j0 N (b.take c.2.toNat) a.1.1 a.1.2.1 a.1.2.2)) (cond (a.2 == (3:Int)) (F57_l0 N N a.1.1 a.1.2.1 a.1.2.2 b) (F57_j0 N b a.1.1 a.1.2.1 a.1.2.2))))) (F57_j0 N b d.1.1 d.1.2.1 d.1.2.2)
theorem ok57 N a0 {r} (h:F57 N a0=some r):ConM prog 57 [bx (lv Y84 a0) 85] [.lf (.ptr 0 0 0 0)] [.lf (.own Y99 r.2 .dp)] [bx (lv Y84 r.1) 85]:=by
 refine ⟨enters_of func57 rfl (by decide),HM.intro [.lf (.own Y99 .dp)] K func57 rfl (Nat.le_of_ble_eq_true rfl) (Nat.le_of_ble_eq_true rfl) fun w0 E0 ht=>?_⟩
 unfold F57 at h
 show VW _ _ _ _ _ (retM _ _ _ _ _) _
 refine nR K (tn 1) <| sq <| VW.region ?_
 obtain⟨b,hy,h⟩:=aS h
 refine clc false [] [] (some 5) K (ok56 N  hy) <| nN K (tn 1) ?_
 refine VW.join (fun s=>∃j l m n,s=⟨[(3,hh 0),(65536, .lf (.ptr 1 0 0 0))],[ar 0 Y99 j .dp,bx [.v (.sl (.int .u8)) l,zi m,zi n] 85]⟩∧F57_j0 N j l m n=some r) ?_ ?_
 ·refine sq <| VW.region <| nG K 1 (tn 1) ?_
  obtain⟨u,hy,h⟩:=aS h
  refine VO.callM [0] [.r, .t B0] (d:=some 7) (by kernel_rfl) (by kernel_rfl) (ok34 N _ _ hy) (by kernel_rfl) <| nN K (tn 0) ?_
  refine cnd h ?_ ?_<;>intro h
  ·refine sq <| VW.region <| nG K 1 (tn 1) ?_
   obtain⟨f,hy,h⟩:=aS h
   refine VO.callM [0] [.r, .t B0] (d:=some 9) (by kernel_rfl) (by kernel_rfl) (ok52 N _ _ hy) (by kernel_rfl) <| nN K (tn 1) <| sq <| VW.region <| nG K 1 (tn 1) ?_
   obtain⟨a,hy,h⟩:=aS h
   refine VO.callM [0] [.r, .t B0] (d:=some 11) (by kernel_rfl) (by kernel_rfl) (ok52 N _ _ hy) (by kernel_rfl) <| nN K (tn 0) <| VW.block <| nR K (tn 2) ?_
   refine cnd h ?_ ?_<;>intro h
   ·refine VW.region <| nG K 4 (tn 4) ?_
    obtain⟨g,hy,h⟩:=aS h
    refine VO.ghl [.frz 2] <| VO.callM [0] [.r, .t B1] (d:=some 18) (by kernel_rfl) (by kernel_rfl) (ok99 N _ _ hy) (by kernel_rfl) ?_
    obtain⟨x,y,h⟩:=gT h
    refine nN K (an x (pu 1 (an y (tn 0)))) ?_
    exact arv [.ren [3,65536] [1,0]] ⟨(b.set f.2.toNat ((b.getD f.2.toNat D99).1,g.2)),g.1.1,g.1.2.1,g.1.2.2,rfl,h⟩
   refine nR K (tn 2) ?_
   refine cnd h ?_ ?_<;>intro h
   ·refine VW.region <| nG K 4 (tn 4) ?_
    obtain⟨i,hy,h⟩:=aS h
    refine VO.ghl [.frz 2] <| VO.callM [0] [.r, .t (.sl .str)] (d:=some 27) (by kernel_rfl) (by kernel_rfl) (ok100 N _ _ hy) (by kernel_rfl) ?_
    obtain⟨z,A,h⟩:=gT h
    refine nN K (an z (pu 1 (an A (tn 0)))) ?_
    exact arv [.ren [3,65536] [1,0]] ⟨(b.set f.2.toNat (i.2,(b.getD f.2.toNat D99).2)),i.1.1,i.1.2.1,i.1.2.2,rfl,h⟩
   refine nR K (tn 2) ?_
   refine cnd h ?_ ?_<;>intro h
   ·obtain⟨B,h⟩:=gS h
    refine nE K (pu 2 (an B (tn 1))) ?_
    exact arv [.shr 3, .ren [3,65536] [1,0]] ⟨(b.take f.2.toNat),a.1.1,a.1.2.1,a.1.2.2,rfl,h⟩
   refine nR K (tn 2) ?_
   refine cnd h ?_ ?_<;>intro h
   ·refine VW.block <| lop (fun k s=>∃o p q e,s=⟨[(0, .lf (.ptr 0 0 0 0)),(3,hh 1),(65536, .lf (.ptr 0 0 0 0))],[bx [.v (.sl (.int .u8)) o,zi p,zi q] 85,ar 0 Y99 e .dp]⟩∧F57_l0 N k o p q e=some r) N [.ren [0,3,65536] [0,1]] ⟨a.1.1,a.1.2.1,a.1.2.2,b,rfl,h⟩ ?_
    rintro w s ⟨o,p,q,e,rfl,h⟩
    cases w with
    | zero=>exact nv h
    | succ w =>
     rw [F57_l0_s,F57_l0_b] at h
     refine sq <| sq <| VW.region <| nG K 3 (tn 3) ?_
     obtain⟨c,hy,h⟩:=aS h
     refine VO.callM [0] [.r, .t B0] (d:=some 40) (by kernel_rfl) (by kernel_rfl) (ok52 N _ _ hy) (by kernel_rfl) <| nN K (tn 2) ?_
     refine cnd h ?_ ?_<;>intro h
     ·refine VW.skip <| VW.block <| VW.region <| nG K 3 (tn 3) ?_
      obtain⟨E,hy,h⟩:=aS h
      refine clc false [.t B0] [] (some 46) K (ok101 N _ hy) ?_
      obtain⟨C,D,h⟩:=gT h
      refine nN K (an C (pu 2 (an D (tn 1)))) ?_
      exact aro [.ren [0,3,65536] [0,1]] ⟨c.1.1,c.1.2.1,c.1.2.2,(e++([(((⟨#[122]⟩:ByteArray)++E),(1:Int))])),rfl,h⟩
     refine VW.exit ?_
     exact arv [.ren [3,65536] [1,0]] ⟨e,c.1.1,c.1.2.1,c.1.2.2,rfl,h⟩
   refine VW.skip ?_
   exact arv [.ren [3,65536] [1,0]] ⟨b,a.1.1,a.1.2.1,a.1.2.2,rfl,h⟩
  refine VW.skip ?_
  exact arv [.ren [3,65536] [1,0]] ⟨b,u.1.1,u.1.2.1,u.1.2.2,rfl,h⟩
 rintro s ⟨j,l,m,n,rfl,h⟩
 unfold F57_j0 at h
 refine nR K (tn 2) ?_
 replace h:=Option.some.inj h
 subst h
 refine VW.ghl [.ren [2,65536] [1,0]] (VW.ret ?_)
 exact ⟨[some 1],by kernel_rfl,by kernel_rfl,by kernel_rfl⟩
def F102_j0 (N:Nat) (a:L2) (b:L1) (c:Int) (d:Int):Option (Z84×L2) :=
  some ((b,(c,d)),a)
def F102_j1 (N:Nat) (a:L1→Int→Int→L2→Int→Option (Z84×L2)) (b:Int) (c:L1) (d:Int) (e:Int) (f:L2):Option (Z84×L2) :=
  a c d e f (IntKind.i64.wrap (b+(1:Int)))
def F102_j2 (N:Nat) (c:L1→Int→Int→L2→Int→Option (Z84×L2)) (a:L2) (d:Int) (e:L1) (f:Int) (g:Int) (b:L1):Option (Z84×L2) :=
  gd (a.length+([b]).length≤lim (.sl (.int .i64))) (F102_j1 N c d e f g (a++([b])))
def F102_j3 (N:Nat) (c:L1→Int→Int→L1→Int→Option (Z84×L2)) (a:L1) (d:Int) (e:L1) (f:Int) (g:Int) (b:Int):Option (Z84×L2) :=
  gd (a.length+([b]).length≤lim (.int .i64)) (c e f g (a++([b])) (IntKind.i64.wrap (d+(1:Int))))
def F102_l0_b (N:Nat) (a1:Int) (i:L1→Int→Int→L2→Int→Option (Z84×L2)) (j:L2) (k:Int) (d:L1→Int→Int→L1→Int→Option (Z84×L2)) (e:L1) (f:Int) (g:Int) (b:L1) (c:Int):Option (Z84×L2) :=
  cond (decide (c < a1)) (andO (F52 N (e,(f,g)) (5:Int)) fun h=>andO (F34 N h.1 (8:Int)) fun a=>cond a.2 (F102_j3 N d b c a.1.1 a.1.2.1 a.1.2.2 (-2000000:Int)) (F102_j3 N d b c a.1.1 a.1.2.1 a.1.2.2 h.2)) (F102_j2 N i j k e f g b)
def F102_l0 (N:Nat) (a1:Int) (a:L1→Int→Int→L2→Int→Option (Z84×L2)) (b:L2) (c:Int):=loopF (F102_l0_b N a1 a b c) (fun _ _ _ _ _=>none)
theorem F102_l0_s {N a1 a b c k} (hk:0 < k:=by omega):F102_l0 N a1 a b c k=F102_l0_b N a1 a b c (F102_l0 N a1 a b c (k - 1)):=lS hk
def F102_l1_b (N:Nat) (a1:Int) (a2:Int) (f:L1→Int→Int→L2→Int→Option (Z84×L2)) (a:L1) (b:Int) (c:Int) (d:L2) (e:Int):Option (Z84×L2) :=
  cond (decide (e < a2)) (F102_l0 N a1 f d e N a b c ([]) (0:Int)) (F102_j0 N d a b c)
def F102_l1 (N:Nat) (a1:Int) (a2:Int):=loopF (F102_l1_b N a1 a2) (fun _ _ _ _ _=>none)
theorem F102_l1_s {N a1 a2 k} (hk:0 < k:=by omega):F102_l1 N a1 a2 k=F102_l1_b N a1 a2 (F102_l1 N a1 a2 (k - 1)):=lS hk
def F102 (N:Nat) (a0:Z84) (a1:Int) (a2:Int):Option (Z84×L2) :=
  F102_l1 N a1 a2 N a0.1 a0.2.1 a0.2.2 ([]) (0:Int)
theorem ok102 N a0 a1 a2 {r} (h:F102 N a0 a1 a2=some r):ConM prog 102 [bx (lv Y84 a0) 85] [.lf (.ptr 0 0 0 0),I a1,I a2] [.lf (.own B1 r.2 .dp)] [bx (lv Y84 r.1) 85]:=by
 refine ⟨enters_of func102 rfl (by decide),HM.intro [.lf (.own B1 .dp)] K func102 rfl (Nat.le_of_ble_eq_true rfl) (Nat.le_of_ble_eq_true rfl) fun w0 E0 ht=>?_⟩
 unfold F102 at h
 show VW _ _ _ _ _ (retM _ _ _ _ _) _
 refine nR K (tn 1) <| nR K (tn 2) ?_
 refine VW.join (fun s=>∃G H J L,s=⟨[(7,hh 0),(65536, .lf (.ptr 1 0 0 0))],[ar 0 B1 G .dp,bx [.v (.sl (.int .u8)) H,zi J,zi L] 85]⟩∧F102_j0 N G H J L=some r) ?_ ?_
 ·refine nR K (tn 1) <| VW.block <| lop (fun k s=>∃n o p a b,s=⟨[(0, .lf (.ptr 0 0 0 0)),(1,I a1),(2,I a2),(7,hh 1),(8,I b),(65536, .lf (.ptr 0 0 0 0))],[bx [.v (.sl (.int .u8)) n,zi o,zi p] 85,ar 0 B1 a .dp]⟩∧F102_l1 N a1 a2 k n o p a b=some r) N [.nilS 7 B1 .dp, .ren [0,1,2,7,8,65536] [0,1]] ⟨a0.1,a0.2.1,a0.2.2,[],(0:Int),rfl,h⟩ ?_
  rintro f s ⟨n,o,p,a,b,rfl,h⟩
  cases f with
  | zero=>exact nv h
  | succ f =>
   rw [F102_l1_s,F102_l1_b] at h
   refine sq <| nR K (tn 3) ?_
   refine cnd h ?_ ?_<;>intro h
   ·refine VW.skip ?_
    refine VW.join (fun s=>∃q u w x,s=⟨[(0, .lf (.ptr 0 0 0 0)),(1,I a1),(2,I a2),(7,hh 1),(8,I b),(65536, .lf (.ptr 0 0 0 0))],[bx [.v (.sl (.int .u8)) q,zi u,zi w] 85,ar 0 B1 x .dp]⟩∧F102_j1 N (F102_l1 N a1 a2 f) b q u w x=some r) ?_ ?_
    ·refine VW.block <| nR K (tn 2) ?_
     refine VW.join (fun s=>∃g i j c,s=⟨[(0, .lf (.ptr 0 0 0 0)),(1,I a1),(2,I a2),(7,hh 1),(8,I b),(9,hh 2),(65536, .lf (.ptr 0 0 0 0))],[bx [.v (.sl (.int .u8)) g,zi i,zi j] 85,ar 0 B1 a .dp,ar 0 B0 c .dp]⟩∧F102_j2 N (F102_l1 N a1 a2 f) a b g i j c=some r) ?_ ?_
     ·refine nR K (tn 1) <| VW.block <| lop (fun k s=>∃y z A e l,s=⟨[(0, .lf (.ptr 0 0 0 0)),(1,I a1),(2,I a2),(7,hh 1),(8,I b),(9,hh 2),(10,I l),(65536, .lf (.ptr 0 0 0 0))],[bx [.v (.sl (.int .u8)) y,zi z,zi A] 85,ar 0 B1 a .dp,ar 0 B0 e .dp]⟩∧F102_l0 N a1 (F102_l1 N a1 a2 f) a b k y z A e l=some r) N [.nilS 9 B0 .dp, .ren [0,1,2,7,8,9,10,65536] [0,1,2]] ⟨n,o,p,[],(0:Int),rfl,h⟩ ?_
      rintro F s ⟨y,z,A,e,l,rfl,h⟩
      cases F with
      | zero=>exact nv h
      | succ F =>
       rw [F102_l0_s,F102_l0_b] at h
       refine sq <| nR K (tn 3) ?_
       refine cnd h ?_ ?_<;>intro h
       ·refine VW.skip <| sq <| VW.block <| sq <| VW.region <| nG K 1 (tn 1) ?_
        obtain⟨P,hy,h⟩:=aS h
        refine VO.callM [0] [.r, .t B0] (d:=some 25) (by kernel_rfl) (by kernel_rfl) (ok52 N _ _ hy) (by kernel_rfl) <| nN K (tn 1) ?_
        refine VW.join (fun s=>∃B C D E,s=⟨[(0, .lf (.ptr 0 0 0 0)),(1,I a1),(2,I a2),(7,hh 1),(8,I b),(9,hh 2),(10,I l),(11,I E),(65536, .lf (.ptr 0 0 0 0))],[bx [.v (.sl (.int .u8)) B,zi C,zi D] 85,ar 0 B1 a .dp,ar 0 B0 e .dp]⟩∧F102_j3 N (F102_l0 N a1 (F102_l1 N a1 a2 f) a b F) e l B C D E=some r) ?_ ?_
        ·refine sq <| VW.region <| nG K 1 (tn 1) ?_
         obtain⟨m,hy,h⟩:=aS h
         refine VO.callM [0] [.r, .t B0] (d:=some 27) (by kernel_rfl) (by kernel_rfl) (ok34 N _ _ hy) (by kernel_rfl) <| nN K (tn 0) ?_
         refine cnd h ?_ ?_<;>intro h
         ·refine nE K (tn 1) ?_
          exact arv [.ren [0,1,2,7,8,9,10,11,65536] [0,1,2]] ⟨m.1.1,m.1.2.1,m.1.2.2,(-2000000:Int),rfl,h⟩
         refine VW.skip ?_
         exact arv [.ren [0,1,2,7,8,9,10,11,65536] [0,1,2]] ⟨m.1.1,m.1.2.1,m.1.2.2,P.2,rfl,h⟩
        rintro s ⟨B,C,D,E,rfl,h⟩
        unfold F102_j3 at h
        obtain⟨O,h⟩:=gS h
        refine nE K (pu 3 (an O (tn 1))) <| nE K (tn 3) ?_
        exact aro [.ren [0,1,2,7,8,9,10,65536] [0,1,2]] ⟨B,C,D,(e++([E])),(wr (l+(1:Int))),rfl,h⟩
       refine VW.exit ?_
       exact arv [.ren [0,1,2,7,8,9,65536] [0,1,2]] ⟨y,z,A,e,rfl,h⟩
     rintro s ⟨g,i,j,c,rfl,h⟩
     unfold F102_j2 at h
     refine VW.region <| nG K 2 (tn 2) <| VO.litA (d:=34) (v:=hh 3) (H':=[bx [.v (.sl (.int .u8)) g,zi i,zi j] 85,ar 0 B1 a .dp,none,ar 0 B1 ([c]) .dp]) K (by kernel_rfl) ?_
     obtain⟨M,h⟩:=gS h
     refine VO.appM (d:=35) (φ:=a.length+([c]).length≤lim (.sl (.int .i64))) (v:= .lf (.hd 1 1 none)) (H':=[bx [.v (.sl (.int .u8)) g,zi i,zi j] 85,ar 1 B1 (a++([c])) .dp,none,none]) K (by kernel_rfl) M <| nN K (tn 1) ?_
     exact arv [.ren [0,1,2,7,8,65536] [0,1]] ⟨g,i,j,(a++([c])),rfl,h⟩
    rintro s ⟨q,u,w,x,rfl,h⟩
    unfold F102_j1 at h
    refine nE K (tn 3) ?_
    exact aro [.ren [0,1,2,7,8,65536] [0,1]] ⟨q,u,w,x,(wr (b+(1:Int))),rfl,h⟩
   refine VW.exit ?_
   exact arv [.ren [7,65536] [1,0]] ⟨a,n,o,p,rfl,h⟩
 rintro s ⟨G,H,J,L,rfl,h⟩
 unfold F102_j0 at h
 refine nR K (tn 2) ?_
 replace h:=Option.some.inj h
 subst h
 refine VW.ghl [.ren [6,65536] [1,0]] (VW.ret ?_)
 exact ⟨[some 1],by kernel_rfl,by kernel_rfl,by kernel_rfl⟩
def F58_j0 (N:Nat) (a:L3) (b:L1) (c:Int) (d:Int):Option (Z84×L3) :=
  some ((b,(c,d)),a)
def F58_j1 (N:Nat) (a1:(List Z99)) (h:L1) (i:Int) (j:Int) (b:L3):Option (Z84×L3) :=
  andO (F34 N (h,(i,j)) (15:Int)) fun d=>cond d.2 (cond (decide ((b.length:Int) > (0:Int))) (andO (F52 N d.1 (b.length:Int)) fun a=>andO (F52 N a.1 (3:Int)) fun c=>cond (c.2 == (0:Int)) (gd (0≤a.2∧a.2.toNat < b.length) (gd ((b.getD a.2.toNat []).length+([[(1:Int)]]).length≤lim (.sl (.int .i64))) (F58_j0 N (b.set a.2.toNat ((b.getD a.2.toNat [])++([[(1:Int)]]))) c.1.1 c.1.2.1 c.1.2.2))) (cond (c.2 == (1:Int)) (gd (0≤a.2∧a.2.toNat < b.length) (gd (InR a.2 a1.length) (andO (F52 N c.1 (6:Int)) fun g=>andO (F102 N g.1 ((a1.getD a.2.toNat (Ty.dflt Y99)).2) (IntKind.i64.wrap ((36:Int)+g.2))) fun e=>gd ((b.getD a.2.toNat []).length+e.2.length≤lim (.sl (.int .i64))) (F58_j0 N (b.set a.2.toNat ((b.getD a.2.toNat [])++e.2)) e.1.1 e.1.2.1 e.1.2.2)))) (cond (c.2 == (2:Int)) (gd (0≤a.2∧a.2.toNat < b.length) (cond (decide (0 < (b.getD a.2.toNat []).length)) (cond (decide (((b.getD a.2.toNat []).length:Int) > (0:Int))) (cond (decide ((((b.getD a.2.toNat []).getD 0 []).length:Int) > (0:Int))) (gd (0≤a.2∧a.2.toNat < (b.set a.2.toNat ((b.getD a.2.toNat []).set 0 ((b.getD a.2.toNat []).getD 0 []))).length) (gd (0 < ((b.set a.2.toNat ((b.getD a.2.toNat []).set 0 ((b.getD a.2.toNat []).getD 0 []))).getD a.2.toNat []).length) (andO (F99 N c.1 ([(1000000:Int),(1000001:Int),(-1000000:Int)])) fun f=>gd (InR (0:Int) (((b.set a.2.toNat ((b.getD a.2.toNat []).set 0 ((b.getD a.2.toNat []).getD 0 []))).getD a.2.toNat []).getD 0 []).length) (gd ((0:Int).toNat < (((b.set a.2.toNat ((b.getD a.2.toNat []).set 0 ((b.getD a.2.toNat []).getD 0 []))).getD a.2.toNat []).getD 0 []).length) (F58_j0 N ((b.set a.2.toNat ((b.getD a.2.toNat []).set 0 ((b.getD a.2.toNat []).getD 0 []))).set a.2.toNat (((b.set a.2.toNat ((b.getD a.2.toNat []).set 0 ((b.getD a.2.toNat []).getD 0 []))).getD a.2.toNat []).set 0 ((((b.set a.2.toNat ((b.getD a.2.toNat []).set 0 ((b.getD a.2.toNat []).getD 0 []))).getD a.2.toNat []).getD 0 []).set ((0:Int).toNat) f.2))) f.1.1 f.1.2.1 f.1.2.2))))) (F58_j0 N (b.set a.2.toNat ((b.getD a.2.toNat []).set 0 ((b.getD a.2.toNat []).getD 0 []))) c.1.1 c.1.2.1 c.1.2.2)) (none)) (cond (decide (((b.getD a.2.toNat []).length:Int) > (0:Int))) (none) (F58_j0 N (b.set a.2.toNat (b.getD a.2.toNat [])) c.1.1 c.1.2.1 c.1.2.2)))) (F58_j0 N b c.1.1 c.1.2.1 c.1.2.2)))) (F58_j0 N b d.1.1 d.1.2.1 d.1.2.2)) (F58_j0 N b d.1.1 d.1.2.1 d.1.2.2)
def F58_j2 (N:Nat) (d:L1→Int→Int→L3→Int→Option (Z84×L3)) (e:L1) (f:Int) (g:Int) (b:L3) (h:Int) (i:Int):Option (Z84×L3) :=
  andO (F52 N (e,(f,g)) (5:Int)) fun c=>andO (F102 N c.1 i c.2) fun a=>gd (b.length+([a.2]).length≤lim (.sl (.sl (.int .i64)))) (d a.1.1 a.1.2.1 a.1.2.2 (b++([a.2])) (IntKind.i64.wrap (h+(1:Int))))
def F58_l0_b (N:Nat) (a1:(List Z99)) (f:L1→Int→Int→L3→Int→Option (Z84×L3)) (b:L1) (c:Int) (d:Int) (e:L3) (a:Int):Option (Z84×L3) :=
  cond (decide (a < (a1.length:Int))) (gd (InR a a1.length) (andO (F96 N ((a1.getD a.toNat (Ty.dflt Y99)).2) (0:Int) (8:Int)) fun g=>cond (!g) (F58_j2 N f b c d e a (1:Int)) (F58_j2 N f b c d e a ((a1.getD a.toNat (Ty.dflt Y99)).2)))) (F58_j1 N a1 b c d e)
def F58_l0 (N:Nat) (a1:(List Z99)):=loopF (F58_l0_b N a1) (fun _ _ _ _ _=>none)
theorem F58_l0_s {N a1 k} (hk:0 < k:=by omega):F58_l0 N a1 k=F58_l0_b N a1 (F58_l0 N a1 (k - 1)):=lS hk
def F58 (N:Nat) (a0:Z84) (a1:(List Z99)):Option (Z84×L3) :=
  F58_l0 N a1 N a0.1 a0.2.1 a0.2.2 ([]) (0:Int)
theorem ok58 N a0 a1 {r} (h:F58 N a0 a1=some r):ConM prog 58 [bx (lv Y84 a0) 85] [.lf (.ptr 0 0 0 0),Vv (.sl Y99) a1] [.lf (.own B2 r.2 .dp)] [bx (lv Y84 r.1) 85]:=by
 refine ⟨enters_of func58 rfl (by decide),HM.intro [.lf (.own B2 .dp)] K func58 rfl (Nat.le_of_ble_eq_true rfl) (Nat.le_of_ble_eq_true rfl) fun w0 E0 ht=>?_⟩
 unfold F58 at h
 show VW _ _ _ _ _ (retM _ _ _ _ _) _
 refine nR K (tn 1) <| nR K (tn 2) ?_
 refine VW.join (fun s=>∃(M:L1) (O:Int) (P:Int) (c:L3),s=⟨[(0, .lf (.ptr 0 0 0 0)),(1,Vv (.sl Y99) a1),(5,hh 1),(65536, .lf (.ptr 0 0 0 0))],[bx [.v (.sl (.int .u8)) M,zi O,zi P] 85,ar 0 B2 c .dp]⟩∧F58_j1 N a1 M O P c=some r) ?_ ?_
 ·refine nR K (tn 1) <| VW.block <| lop (fun k s=>∃(x:L1) (A:Int) (C:Int) (o:L3) (w:Int),s=⟨[(0, .lf (.ptr 0 0 0 0)),(1,Vv (.sl Y99) a1),(5,hh 1),(6,I w),(65536, .lf (.ptr 0 0 0 0))],[bx [.v (.sl (.int .u8)) x,zi A,zi C] 85,ar 0 B2 o .dp]⟩∧F58_l0 N a1 k x A C o w=some r) N [.nilS 5 B2 .dp, .ren [0,1,5,6,65536] [0,1]] ⟨a0.1,a0.2.1,a0.2.2,[],(0:Int),rfl,h⟩ ?_
  rintro J s ⟨x,A,C,o,w,rfl,h⟩
  cases J with
  | zero=>exact nv h
  | succ J =>
   rw [F58_l0_s,F58_l0_b] at h
   refine sq <| nR K (tn 4) ?_
   refine cnd h ?_ ?_<;>intro h
   ·refine VW.skip <| sq <| VW.block ?_
    obtain⟨X,h⟩:=gS h
    refine nR K (pu 2 (an X (tn 3))) ?_
    refine VW.join (fun s=>∃L,s=⟨[(0, .lf (.ptr 0 0 0 0)),(1,Vv (.sl Y99) a1),(5,hh 1),(6,I w),(7,I L),(65536, .lf (.ptr 0 0 0 0))],[bx [.v (.sl (.int .u8)) x,zi A,zi C] 85,ar 0 B2 o .dp]⟩∧F58_j2 N (F58_l0 N a1 J) x A C o w L=some r) ?_ ?_
    ·refine sq <| VW.region <| nG K 1 (tn 1) ?_
     obtain⟨a5,hy,h⟩:=aS h
     refine clc false [.t B0, .t B0, .t B0] [] (some 22) K (ok96 N _ _ _ hy) <| nN K (tn 1) ?_
     refine cnd h ?_ ?_<;>intro h
     ·refine nE K (tn 1) ?_
      exact arv [.ren [0,1,5,6,7,65536] [0,1]] ⟨(1:Int),rfl,h⟩
     refine VW.skip ?_
     exact arv [.ren [0,1,5,6,7,65536] [0,1]] ⟨(a1.getD w.toNat D99).2,rfl,h⟩
    rintro s ⟨L,rfl,h⟩
    unfold F58_j2 at h
    refine VW.region <| nG K 4 (tn 4) ?_
    obtain⟨a4,hy,h⟩:=aS h
    refine VO.callM [0] [.r, .t B0] (d:=some 28) (by kernel_rfl) (by kernel_rfl) (ok52 N _ _ hy) (by kernel_rfl) ?_
    obtain⟨p,hy,h⟩:=aS h
    refine VO.callM [0] [.r, .t B0, .t B0] (d:=some 29) (by kernel_rfl) (by kernel_rfl) (ok102 N _ _ _ hy) (by kernel_rfl) <| VO.litA (d:=30) (v:=hh 3) (H':=[bx (lv Y84 p.1) 85,ar 0 B2 o .dp,none,ar 0 B2 ([p.2]) .dp]) K (by kernel_rfl) ?_
    obtain⟨Y,h⟩:=gS h
    refine VO.appM (d:=31) (φ:=o.length+([p.2]).length≤lim (.sl (.sl (.int .i64)))) (v:= .lf (.hd 1 1 none)) (H':=[bx (lv Y84 p.1) 85,ar 1 B2 (o++([p.2])) .dp,none,none]) K (by kernel_rfl) Y <| nN K (tn 1) <| nE K (tn 3) ?_
    exact aro [.ren [0,1,5,6,65536] [0,1]] ⟨p.1.1,p.1.2.1,p.1.2.2,(o++([p.2])),(wr (w+(1:Int))),rfl,h⟩
   refine VW.exit ?_
   exact arv [.ren [0,1,5,65536] [0,1]] ⟨x,A,C,o,rfl,h⟩
 rintro s ⟨M,O,P,c,rfl,h⟩
 unfold F58_j1 at h
 refine VW.join (fun s=>∃(Q:L3) (R:L1) (S:Int) (T:Int),s=⟨[(5,hh 0),(65536, .lf (.ptr 1 0 0 0))],[ar 0 B2 Q .dp,bx [.v (.sl (.int .u8)) R,zi S,zi T] 85]⟩∧F58_j0 N Q R S T=some r) ?_ ?_
 ·refine sq <| VW.region <| nG K 1 (tn 1) ?_
  obtain⟨D,hy,h⟩:=aS h
  refine VO.callM [0] [.r, .t B0] (d:=some 33) (by kernel_rfl) (by kernel_rfl) (ok34 N _ _ hy) (by kernel_rfl) <| nG K 1 (tn 1) ?_
  refine spC 34 h ?_ ?_<;>intro h
  ·refine nN K (tn 4) ?_
   refine cnd h ?_ ?_<;>intro h
   ·refine sq <| VW.region <| nG K 3 (tn 3) ?_
    obtain⟨a,hy,h⟩:=aS h
    refine VO.callM [0] [.r, .t B0] (d:=some 42) (by kernel_rfl) (by kernel_rfl) (ok52 N _ _ hy) (by kernel_rfl) <| nN K (tn 1) <| sq <| VW.region <| nG K 1 (tn 1) ?_
    obtain⟨f,hy,h⟩:=aS h
    refine VO.callM [0] [.r, .t B0] (d:=some 44) (by kernel_rfl) (by kernel_rfl) (ok52 N _ _ hy) (by kernel_rfl) <| nN K (tn 0) <| VW.block <| nR K (tn 2) ?_
    refine cnd h ?_ ?_<;>intro h
    ·refine VW.ghl [.ren [5,8,65536] [1,0]] <| VW.eqs (s':=⟨[(5,hh 0),(8,I a.2),(65536, .lf (.ptr 1 0 0 0))],[ar 0 B2 c .dp,bx (lv Y84 f.1) 85]⟩) (by kernel_rfl) ?_
     obtain⟨E,h⟩:=gS h
     refine VW.region <| VO.lendS 5 65537 55 56 [65536] K (id:=0) (cur:=0) (i:=a.2.toNat) (t':=B1) (xs:=c) (by kernel_rfl) (by kernel_rfl) (by decide) (by decide) (by decide) (by kernel_rfl) E.2 rfl ⟨rfl,rfl,rfl⟩ rfl ?_
     intro w1 E1 b0 c0 arr0 ty0 y hB
     have ht1:=Tabs.ext (by assumption) hB.ext
     refine nG K 4 (tn 4) <| VO.ixRaw K (d:=51) (b:=b0) (len:=c.length) (cap:=c0) (i:=a.2.toNat) (e:=B2) (kk:= .i64) (z:=a.2) ⟨rfl,rfl,rfl⟩ (Nat.le_of_ble_eq_true rfl) (by kernel_rfl) rfl (by kernel_rfl) (by kernel_rfl) ⟨E.1,rfl⟩ E.2 <| VO.ldRaw K 65537 (d:=52) (b:=b0) (i:=a.2.toNat) (y:=y) (v:=hh 2) ⟨rfl,rfl,rfl⟩ (Nat.le_of_ble_eq_true rfl) rfl (by kernel_rfl) hB.heap hB.free hB.cell hB.one (by decide) ((congrFun hB.gv 65537).trans (if_pos rfl)) (by kernel_rfl) ?_
     refine nG K 1 (tn 1) <| VO.litA (d:=54) (v:=hh 4) (H':=[ar 1 B2 ([]) .dp,bx (lv Y84 f.1) 85,ar 0 B1 (c.getD a.2.toNat []) .dp,none,ar 0 B1 ([[(1:Int)]]) .dp]) K (by kernel_rfl) ?_
     obtain⟨Z,h⟩:=gS h
     refine VO.appM (d:=55) (φ:=(c.getD a.2.toNat []).length+([[(1:Int)]]).length≤lim (.sl (.int .i64))) (v:= .lf (.hd 2 1 none)) (H':=[ar 1 B2 ([]) .dp,bx (lv Y84 f.1) 85,ar 1 B1 ((c.getD a.2.toNat [])++([[(1:Int)]])) .dp,none,none]) K (by kernel_rfl) Z <| VO.ixRaw K (d:=56) (b:=b0) (len:=c.length) (cap:=c0) (i:=a.2.toNat) (e:=B2) (kk:= .i64) (z:=a.2) ⟨rfl,rfl,rfl⟩ (Nat.le_of_ble_eq_true rfl) (by kernel_rfl) rfl (by kernel_rfl) (by kernel_rfl) ⟨E.1,rfl⟩ E.2 ?_
     refine sN K [5,55,56,65536,65537] [0,1,2] ⟨[(5, .lf (.raw (.slice (some ⟨b0,0,none⟩) c.length c0))),(55,hh 2),(56, .lf (.raw (.pointer (some ⟨b0,a.2.toNat,none⟩)))),(65536, .lf (.ptr 1 0 0 0)),(65537, .lf (.any))],[ar 0 B2 ([]) .dp,bx (lv Y84 f.1) 85,ar 0 B1 ((c.getD a.2.toNat [])++([[(1:Int)]])) .dp]⟩ (tn 0) ?_
     refine ⟨rfl,0,0,B2,[], .dp,((c.getD a.2.toNat [])++([[(1:Int)]])),[(65536, .lf (.ptr 1 0 0 0))],by kernel_rfl,by kernel_rfl,by kernel_rfl,⟨by kernel_rfl,by kernel_rfl⟩,by kernel_rfl,?_⟩
     exact arv [.ren [5,65536] [0,1]] ⟨(c.set a.2.toNat ((c.getD a.2.toNat [])++([[(1:Int)]]))),f.1.1,f.1.2.1,f.1.2.2,rfl,h⟩
    refine nR K (tn 2) ?_
    refine cnd h ?_ ?_<;>intro h
    ·refine VW.ghl [.ren [0,1,5,8,65536] [0,1]] <| VW.eqs (s':=⟨[(0, .lf (.ptr 0 0 0 0)),(1,Vv (.sl Y99) a1),(5,hh 1),(8,I a.2),(65536, .lf (.ptr 0 0 0 0))],[bx (lv Y84 f.1) 85,ar 0 B2 c .dp]⟩) (by kernel_rfl) ?_
     obtain⟨n,G,h⟩:=gT h
     obtain⟨U,hy91,h⟩:=aS h
     obtain⟨g,hy92,h⟩:=aS h
     obtain⟨a2,h⟩:=gS h
     refine VW.lendS (by kernel_rfl) 5 65537 75 76 [65536] K (id:=1) (cur:=0) (i:=a.2.toNat) (t':=B1) (xs:=c) (by kernel_rfl) (by kernel_rfl) (by decide) (by decide) (by decide) (by kernel_rfl) n.2 rfl (by kernel_rfl) ⟨rfl,rfl,rfl⟩ rfl ?_
     intro w1 E1 b0 c0 arr0 ty0 y hB
     have ht1:=Tabs.ext (by assumption) hB.ext
     refine VA.drawn [some (59, .lf (.raw (.slice (some ⟨b0,0,none⟩) c.length c0))),some (60,I a.2),some (61, .lf (.raw (.slice (some ⟨b0,0,none⟩) c.length c0))),some (62,I a.2),some (63, .lf (.raw (.pointer (some ⟨b0,a.2.toNat,none⟩)))),some (64,hh 2),some (65, .lf (.ptr 0 0 0 0)),some (66,Vv (.sl Y99) a1),some (67,I a.2),some (68, .lf (.fp Y99 (a1.getD a.2.toNat D99) 0)),some (69, .lf (.fp Y99 (a1.getD a.2.toNat D99) 1)),some (70,I ((a1.getD a.2.toNat D99).2)),some (71, .lf (.ptr 0 0 0 0)),some (72,I U.2),some (73,I (wr ((36:Int)+U.2))),some (74,hh 3),some (75, .lf (.hd 2 1 none)),some (76, .lf (.raw (.pointer (some ⟨b0,a.2.toNat,none⟩))))] [13,15,16] [[bx (lv Y84 f.1) 85,ar 1 B2 ([]) .dp,ar 0 B1 (c.getD a.2.toNat []) .dp],[bx (lv Y84 U.1) 85,ar 1 B2 ([]) .dp,ar 0 B1 (c.getD a.2.toNat []) .dp],[bx (lv Y84 g.1) 85,ar 1 B2 ([]) .dp,ar 0 B1 (c.getD a.2.toNat []) .dp,ar 0 B1 g.2 .dp],[bx (lv Y84 g.1) 85,ar 1 B2 ([]) .dp,ar 1 B1 ((c.getD a.2.toNat [])++g.2) .dp,none]] [(0,0),(0,1),(0,2),(0,3),(1,0),(1,1),(1,2),(1,3),(2,0),(2,1),(2,2),(2,3),(3,0),(3,1),(3,2),(3,3),(4,0),(4,1),(4,2),(4,3),(5,0),(5,1),(5,2),(6,0),(6,1),(7,0),(7,1),(7,2),(7,3),(8,0),(8,1),(8,2),(8,3),(9,0),(9,1),(9,2),(9,3),(10,0),(10,1),(10,2),(10,3),(11,0),(11,1),(12,0),(13,0),(14,1),(15,1),(16,2),(17,3)] [5,75,76,65536,65537] [0,1,2] (s':=⟨[(5, .lf (.raw (.slice (some ⟨b0,0,none⟩) c.length c0))),(75,hh 2),(76, .lf (.raw (.pointer (some ⟨b0,a.2.toNat,none⟩)))),(65536, .lf (.ptr 0 0 0 0)),(65537, .lf (.any))],[bx (lv Y84 g.1) 85,ar 0 B2 ([]) .dp,ar 0 B1 ((c.getD a.2.toNat [])++g.2) .dp]⟩) (by kernel_rfl) (by kernel_rfl) ⟨qT K,
    qT K,
    qT K,
    qT K,
    qT K,
    qT K,
    qT K,
    qT K,
    qT K,
    qT K,
    qT K,
    qT K,
    qT K,
    qT K,
    qT K,
    qT K,
    ⟨_,rfl,Stp.ixRaw K (d:=63) (b:=b0) (len:=c.length) (cap:=c0) (i:=a.2.toNat) (e:=B2) (kk:= .i64) (z:=a.2) ⟨rfl,rfl,rfl⟩ (Nat.le_of_ble_eq_true rfl) (by kernel_rfl) rfl (by kernel_rfl) (by kernel_rfl) ⟨n.1,rfl⟩ n.2⟩,
    ⟨_,rfl,Stp.ixRaw K (d:=63) (b:=b0) (len:=c.length) (cap:=c0) (i:=a.2.toNat) (e:=B2) (kk:= .i64) (z:=a.2) ⟨rfl,rfl,rfl⟩ (Nat.le_of_ble_eq_true rfl) (by kernel_rfl) rfl (by kernel_rfl) (by kernel_rfl) ⟨n.1,rfl⟩ n.2⟩,
    ⟨_,rfl,Stp.ixRaw K (d:=63) (b:=b0) (len:=c.length) (cap:=c0) (i:=a.2.toNat) (e:=B2) (kk:= .i64) (z:=a.2) ⟨rfl,rfl,rfl⟩ (Nat.le_of_ble_eq_true rfl) (by kernel_rfl) rfl (by kernel_rfl) (by kernel_rfl) ⟨n.1,rfl⟩ n.2⟩,
    ⟨_,rfl,Stp.ixRaw K (d:=63) (b:=b0) (len:=c.length) (cap:=c0) (i:=a.2.toNat) (e:=B2) (kk:= .i64) (z:=a.2) ⟨rfl,rfl,rfl⟩ (Nat.le_of_ble_eq_true rfl) (by kernel_rfl) rfl (by kernel_rfl) (by kernel_rfl) ⟨n.1,rfl⟩ n.2⟩,
    ⟨_,rfl,Stp.ldRaw K 65537 (d:=64) (b:=b0) (i:=a.2.toNat) (y:=y) (v:=hh 2) ⟨rfl,rfl,rfl⟩ (Nat.le_of_ble_eq_true rfl) rfl (by kernel_rfl) hB.heap hB.free hB.cell hB.one (by decide) ((congrFun hB.gv 65537).trans (if_pos rfl)) (by kernel_rfl)⟩,
    ⟨_,rfl,Stp.ldRaw K 65537 (d:=64) (b:=b0) (i:=a.2.toNat) (y:=y) (v:=hh 2) ⟨rfl,rfl,rfl⟩ (Nat.le_of_ble_eq_true rfl) rfl (by kernel_rfl) hB.heap hB.free hB.cell hB.one (by decide) ((congrFun hB.gv 65537).trans (if_pos rfl)) (by kernel_rfl)⟩,
    ⟨_,rfl,Stp.ldRaw K 65537 (d:=64) (b:=b0) (i:=a.2.toNat) (y:=y) (v:=hh 2) ⟨rfl,rfl,rfl⟩ (Nat.le_of_ble_eq_true rfl) rfl (by kernel_rfl) hB.heap hB.free hB.cell hB.one (by decide) ((congrFun hB.gv 65537).trans (if_pos rfl)) (by kernel_rfl)⟩,
    qT K,
    qT K,
    qT K,
    qT K,
    qT K,
    qT K,
    qT K,
    qT K,
    qT K,
    qT K,
    ⟨_,rfl,Stp.ev K (m:= .dp) (φ:=InR a.2 a1.length) (by kernel_rfl) G⟩,
    ⟨_,rfl,Stp.ev K (m:= .dp) (φ:=InR a.2 a1.length) (by kernel_rfl) G⟩,
    ⟨_,rfl,Stp.ev K (m:= .dp) (φ:=InR a.2 a1.length) (by kernel_rfl) G⟩,
    ⟨_,rfl,Stp.ev K (m:= .dp) (φ:=InR a.2 a1.length) (by kernel_rfl) G⟩,
    qT K,
    qT K,
    qT K,
    qT K,
    qT K,
    qT K,
    qT K,
    ⟨_,rfl,Stp.eq (Stp.callM [0] [.r, .t B0] (d:=some 72) (by kernel_rfl) (by kernel_rfl) (ok52 N _ _ hy91) (by kernel_rfl)) (by kernel_rfl) (by kernel_rfl)⟩,
    qT K,
    ⟨_,rfl,Stp.eq (Stp.callM [0] [.r, .t B0, .t B0] (d:=some 74) (by kernel_rfl) (by kernel_rfl) (ok102 N _ _ _ hy92) (by kernel_rfl)) (by kernel_rfl) (by kernel_rfl)⟩,
    ⟨_,rfl,Stp.appY K (φ:=(c.getD a.2.toNat []).length+g.2.length≤lim (.sl (.int .i64))) (by kernel_rfl) a2⟩,
    ⟨_,rfl,Stp.ixRaw K (d:=76) (b:=b0) (len:=c.length) (cap:=c0) (i:=a.2.toNat) (e:=B2) (kk:= .i64) (z:=a.2) ⟨rfl,rfl,rfl⟩ (Nat.le_of_ble_eq_true rfl) (by kernel_rfl) rfl (by kernel_rfl) (by kernel_rfl) ⟨n.1,rfl⟩ n.2⟩,trivial⟩ (by kernel_rfl) ?_
     refine ⟨rfl,0,0,B2,[], .dp,((c.getD a.2.toNat [])++g.2),[(65536, .lf (.ptr 0 0 0 0))],by kernel_rfl,by kernel_rfl,by kernel_rfl,⟨by kernel_rfl,by kernel_rfl⟩,by kernel_rfl,?_⟩
     exact arv [.ren [5,65536] [1,0]] ⟨(c.set a.2.toNat ((c.getD a.2.toNat [])++g.2)),g.1.1,g.1.2.1,g.1.2.2,rfl,h⟩
    refine nR K (tn 2) ?_
    refine cnd h ?_ ?_<;>intro h
    ·refine sq <| VW.ghl [.ren [0,5,8,65536] [0,1]] <| VW.eqs (s':=⟨[(0, .lf (.ptr 0 0 0 0)),(5,hh 1),(8,I a.2),(65536, .lf (.ptr 0 0 0 0))],[bx (lv Y84 f.1) 85,ar 0 B2 c .dp]⟩) (by kernel_rfl) ?_
     obtain⟨q,h⟩:=gS h
     rcases Bool.eq_false_or_eq_true (decide (0 < (c.getD a.2.toNat []).length)) with hb | hb
     ·replace h:=cond_t h hb
      have V:=of_decide_eq_true hb;clear hb
      refine VW.lend 5 65537 [0,8,94,65536] (id:=1) (cur:=0) (i:=a.2.toNat) (t':=B1) (xs:=c) (by kernel_rfl) (by kernel_rfl) (by decide) (by decide) (by decide) (by kernel_rfl) q.2 ?_
      intro w1 E1 b0 c0 arr0 ty0 y hB
      have ht1:=Tabs.ext (by assumption) hB.ext
      refine VW.lend 65537 65538 [5,0,8,94,65536] (id:=2) (cur:=0) (i:=0) (t':=B0) (xs:=(c.getD a.2.toNat [])) (by kernel_rfl) (by kernel_rfl) (by decide) (by decide) (by decide) (by kernel_rfl) V ?_
      intro w2 E2 b1 c1 arr1 ty1 F hB2
      have ht2:=Tabs.ext ht1 hB2.ext
      refine VW.region <| nG K 2 (tn 2) <| VO.ixRaw K (d:=81) (b:=b0) (len:=c.length) (cap:=c0) (i:=a.2.toNat) (e:=B2) (kk:= .i64) (z:=a.2) ⟨rfl,rfl,rfl⟩ (Nat.le_of_ble_eq_true rfl) (by kernel_rfl) rfl (by kernel_rfl) (by kernel_rfl) ⟨q.1,rfl⟩ q.2 <| VO.ldRaw K 65537 (d:=82) (b:=b0) (i:=a.2.toNat) (y:=y) (v:= .lf (.raw (.slice (some ⟨b1,0,none⟩) (c.getD a.2.toNat []).length c1))) ⟨rfl,rfl,rfl⟩ (Nat.le_of_ble_eq_true rfl) rfl (by kernel_rfl) (LentB.up hB hB2).1 (LentB.up hB hB2).2 hB.cell hB.one (by decide) ((congrFun hB2.gv 65537).trans ((if_neg (by decide)).trans ((congrFun hB.gv 65537).trans (if_pos rfl)))) (by kernel_rfl) ?_
      refine VO.lenRaw K (d:=83) (b:=some ⟨b1,0,none⟩) (cap:=c1) (len:=(c.getD a.2.toNat []).length) (e:=B1) ⟨rfl,rfl,rfl⟩ ⟨rfl,rfl,rfl⟩ (Nat.le_of_ble_eq_true rfl) (by kernel_rfl) (by kernel_rfl) <| nG K 2 (tn 2) ?_
      refine spC 85 h ?_ ?_<;>intro h
      ·refine nG K 2 (tn 2) <| VO.on (j:=6) (want:=true) (d:=85) (b:=true) rfl rfl rfl (by kernel_rfl) rfl ?_
       refine VO.ixRaw K (d:=88) (b:=b0) (len:=c.length) (cap:=c0) (i:=a.2.toNat) (e:=B2) (kk:= .i64) (z:=a.2) ⟨rfl,rfl,rfl⟩ (Nat.le_of_ble_eq_true rfl) (by kernel_rfl) rfl (by kernel_rfl) (by kernel_rfl) ⟨q.1,rfl⟩ q.2 <| VO.on (j:=6) (want:=true) (d:=85) (b:=true) rfl rfl rfl (by kernel_rfl) rfl ?_
       refine VO.ldRaw K 65537 (d:=89) (b:=b0) (i:=a.2.toNat) (y:=y) (v:= .lf (.raw (.slice (some ⟨b1,0,none⟩) (c.getD a.2.toNat []).length c1))) ⟨rfl,rfl,rfl⟩ (Nat.le_of_ble_eq_true rfl) rfl (by kernel_rfl) (LentB.up hB hB2).1 (LentB.up hB hB2).2 hB.cell hB.one (by decide) ((congrFun hB2.gv 65537).trans ((if_neg (by decide)).trans ((congrFun hB.gv 65537).trans (if_pos rfl)))) (by kernel_rfl) ?_
       refine VO.on (j:=6) (want:=true) (d:=85) (b:=true) rfl rfl rfl (by kernel_rfl) rfl ?_
       refine VO.ixRaw K (d:=90) (b:=b1) (len:=(c.getD a.2.toNat []).length) (cap:=c1) (i:=0) (e:=B1) (kk:= .i64) (z:=(0:Int)) ⟨rfl,rfl,rfl⟩ (Nat.le_of_ble_eq_true rfl) (by kernel_rfl) rfl (by kernel_rfl) (by kernel_rfl) ⟨by decide,rfl⟩ V <| VO.on (j:=6) (want:=true) (d:=85) (b:=true) rfl rfl rfl (by kernel_rfl) rfl ?_
       refine VO.ldRaw K 65538 (d:=91) (b:=b1) (i:=0) (y:=F) (v:=hh 3) ⟨rfl,rfl,rfl⟩ (Nat.le_of_ble_eq_true rfl) rfl (by kernel_rfl) hB2.heap hB2.free hB2.cell hB2.one (by decide) ((congrFun hB2.gv 65538).trans (if_pos rfl)) (by kernel_rfl) <| nN K (tn 3) ?_
       refine ⟨rfl,0,1,B1,[], .dp,((c.getD a.2.toNat []).getD 0 []),[(5, .lf (.raw (.slice (some ⟨b0,0,none⟩) c.length c0))),(0, .lf (.ptr 0 0 0 0)),(8,I a.2),(94,B (decide ((((c.getD a.2.toNat []).getD 0 []).length:Int) > (0:Int)))),(65536, .lf (.ptr 0 0 0 0))],by kernel_rfl,by kernel_rfl,by kernel_rfl,by show _=_;kernel_rfl,by kernel_rfl,?_⟩
       refine ⟨rfl,2,1,B2,[], .dp,((c.getD a.2.toNat []).set 0 ((c.getD a.2.toNat []).getD 0 [])),[(0, .lf (.ptr 0 0 0 0)),(8,I a.2),(94,B (decide ((((c.getD a.2.toNat []).getD 0 []).length:Int) > (0:Int)))),(65536, .lf (.ptr 0 0 0 0))],by kernel_rfl,by kernel_rfl,by kernel_rfl,by show _=_;kernel_rfl,by kernel_rfl,?_⟩
       refine cnd h ?_ ?_<;>intro h
       ·refine VW.ghl [.ren [0,5,8,65536] [0,1]] <| VW.eqs (s':=⟨[(0, .lf (.ptr 0 0 0 0)),(5,hh 1),(8,I a.2),(65536, .lf (.ptr 0 0 0 0))],[bx (lv Y84 f.1) 85,ar 0 B2 (c.set a.2.toNat ((c.getD a.2.toNat []).set 0 ((c.getD a.2.toNat []).getD 0 []))) .dp]⟩) (by kernel_rfl) ?_
        obtain⟨u,H,h⟩:=gT h
        obtain⟨l,hy98,h⟩:=aS h
        obtain⟨a3,W,h⟩:=gT h
        refine VW.lend 5 65537 [65536] (id:=1) (cur:=0) (i:=a.2.toNat) (t':=B1) (xs:=(c.set a.2.toNat ((c.getD a.2.toNat []).set 0 ((c.getD a.2.toNat []).getD 0 [])))) (by kernel_rfl) (by kernel_rfl) (by decide) (by decide) (by decide) (by kernel_rfl) u.2 ?_
        intro w1 E1 b0 c0 arr0 ty0 y hB
        have ht1:=Tabs.ext (by assumption) hB.ext
        refine VW.lend 65537 65538 [5,65536] (id:=2) (cur:=0) (i:=0) (t':=B0) (xs:=((c.set a.2.toNat ((c.getD a.2.toNat []).set 0 ((c.getD a.2.toNat []).getD 0 []))).getD a.2.toNat [])) (by kernel_rfl) (by kernel_rfl) (by decide) (by decide) (by decide) (by kernel_rfl) H ?_
        intro w2 E2 b1 c1 arr1 ty1 F hB2
        have ht2:=Tabs.ext ht1 hB2.ext
        refine VW.drawn (by kernel_rfl) [some (95, .lf (.raw (.slice (some ⟨b0,0,none⟩) (c.set a.2.toNat ((c.getD a.2.toNat []).set 0 ((c.getD a.2.toNat []).getD 0 []))).length c0))),some (96,I a.2),some (97, .lf (.raw (.pointer (some ⟨b0,a.2.toNat,none⟩)))),some (98, .lf (.raw (.slice (some ⟨b1,0,none⟩) ((c.set a.2.toNat ((c.getD a.2.toNat []).set 0 ((c.getD a.2.toNat []).getD 0 []))).getD a.2.toNat []).length c1))),some (99, .lf (.raw (.pointer (some ⟨b1,0,none⟩)))),some (100,hh 3),some (101, .lf (.ptr 0 0 0 0)),some (102,hh 4),some (103,I l.2),some (104, .lf (.ptr 3 0 ((0:Int).toNat) 0)),none] [7,8,10] [[bx (lv Y84 f.1) 85,ar 1 B2 ([]) .dp,ar 1 B1 ([]) .dp,ar 0 B0 (((c.set a.2.toNat ((c.getD a.2.toNat []).set 0 ((c.getD a.2.toNat []).getD 0 []))).getD a.2.toNat []).getD 0 []) .dp],[bx (lv Y84 f.1) 85,ar 1 B2 ([]) .dp,ar 1 B1 ([]) .dp,ar 0 B0 (((c.set a.2.toNat ((c.getD a.2.toNat []).set 0 ((c.getD a.2.toNat []).getD 0 []))).getD a.2.toNat []).getD 0 []) .dp,ar 0 B0 ([(1000000:Int),(1000001:Int),(-1000000:Int)]) .dp],[bx (lv Y84 l.1) 85,ar 1 B2 ([]) .dp,ar 1 B1 ([]) .dp,ar 0 B0 (((c.set a.2.toNat ((c.getD a.2.toNat []).set 0 ((c.getD a.2.toNat []).getD 0 []))).getD a.2.toNat []).getD 0 []) .dp,none],[bx (lv Y84 l.1) 85,ar 1 B2 ([]) .dp,ar 1 B1 ([]) .dp,ar 0 B0 ((((c.set a.2.toNat ((c.getD a.2.toNat []).set 0 ((c.getD a.2.toNat []).getD 0 []))).getD a.2.toNat []).getD 0 []).set ((0:Int).toNat) l.2) .dp,none]] [(0,0),(0,1),(0,2),(1,0),(1,1),(1,2),(2,0),(2,1),(2,2),(3,0),(3,1),(3,2),(4,0),(4,1),(4,2),(5,0),(5,1),(5,2),(6,0),(6,1),(7,0),(8,1),(9,2),(10,2)] [5,65536,65537,65538] [0,1,2,3] (s':=⟨[(5, .lf (.raw (.slice (some ⟨b0,0,none⟩) (c.set a.2.toNat ((c.getD a.2.toNat []).set 0 ((c.getD a.2.toNat []).getD 0 []))).length c0))),(65536, .lf (.ptr 0 0 0 0)),(65537, .lf (.raw (.slice (some ⟨b1,0,none⟩) ((c.set a.2.toNat ((c.getD a.2.toNat []).set 0 ((c.getD a.2.toNat []).getD 0 []))).getD a.2.toNat []).length c1))),(65538,hh 3)],[bx (lv Y84 l.1) 85,ar 0 B2 ([]) .dp,ar 0 B1 ([]) .dp,ar 0 B0 ((((c.set a.2.toNat ((c.getD a.2.toNat []).set 0 ((c.getD a.2.toNat []).getD 0 []))).getD a.2.toNat []).getD 0 []).set ((0:Int).toNat) l.2) .dp]⟩) (by kernel_rfl) (by kernel_rfl) ⟨qT K,
    qT K,
    qT K,
    qT K,
    qT K,
    qT K,
    ⟨_,rfl,Stp.ixRaw K (d:=97) (b:=b0) (len:=(c.set a.2.toNat ((c.getD a.2.toNat []).set 0 ((c.getD a.2.toNat []).getD 0 []))).length) (cap:=c0) (i:=a.2.toNat) (e:=B2) (kk:= .i64) (z:=a.2) ⟨rfl,rfl,rfl⟩ (Nat.le_of_ble_eq_true rfl) (by kernel_rfl) rfl (by kernel_rfl) (by kernel_rfl) ⟨u.1,rfl⟩ u.2⟩,
    ⟨_,rfl,Stp.ixRaw K (d:=97) (b:=b0) (len:=(c.set a.2.toNat ((c.getD a.2.toNat []).set 0 ((c.getD a.2.toNat []).getD 0 []))).length) (cap:=c0) (i:=a.2.toNat) (e:=B2) (kk:= .i64) (z:=a.2) ⟨rfl,rfl,rfl⟩ (Nat.le_of_ble_eq_true rfl) (by kernel_rfl) rfl (by kernel_rfl) (by kernel_rfl) ⟨u.1,rfl⟩ u.2⟩,
    ⟨_,rfl,Stp.ixRaw K (d:=97) (b:=b0) (len:=(c.set a.2.toNat ((c.getD a.2.toNat []).set 0 ((c.getD a.2.toNat []).getD 0 []))).length) (cap:=c0) (i:=a.2.toNat) (e:=B2) (kk:= .i64) (z:=a.2) ⟨rfl,rfl,rfl⟩ (Nat.le_of_ble_eq_true rfl) (by kernel_rfl) rfl (by kernel_rfl) (by kernel_rfl) ⟨u.1,rfl⟩ u.2⟩,
    ⟨_,rfl,Stp.ldRaw K 65537 (d:=98) (b:=b0) (i:=a.2.toNat) (y:=y) (v:= .lf (.raw (.slice (some ⟨b1,0,none⟩) ((c.set a.2.toNat ((c.getD a.2.toNat []).set 0 ((c.getD a.2.toNat []).getD 0 []))).getD a.2.toNat []).length c1))) ⟨rfl,rfl,rfl⟩ (Nat.le_of_ble_eq_true rfl) rfl (by kernel_rfl) (LentB.up hB hB2).1 (LentB.up hB hB2).2 hB.cell hB.one (by decide) ((congrFun hB2.gv 65537).trans ((if_neg (by decide)).trans ((congrFun hB.gv 65537).trans (if_pos rfl)))) (by kernel_rfl)⟩,
    ⟨_,rfl,Stp.ldRaw K 65537 (d:=98) (b:=b0) (i:=a.2.toNat) (y:=y) (v:= .lf (.raw (.slice (some ⟨b1,0,none⟩) ((c.set a.2.toNat ((c.getD a.2.toNat []).set 0 ((c.getD a.2.toNat []).getD 0 []))).getD a.2.toNat []).length c1))) ⟨rfl,rfl,rfl⟩ (Nat.le_of_ble_eq_true rfl) rfl (by kernel_rfl) (LentB.up hB hB2).1 (LentB.up hB hB2).2 hB.cell hB.one (by decide) ((congrFun hB2.gv 65537).trans ((if_neg (by decide)).trans ((congrFun hB.gv 65537).trans (if_pos rfl)))) (by kernel_rfl)⟩,
    ⟨_,rfl,Stp.ldRaw K 65537 (d:=98) (b:=b0) (i:=a.2.toNat) (y:=y) (v:= .lf (.raw (.slice (some ⟨b1,0,none⟩) ((c.set a.2.toNat ((c.getD a.2.toNat []).set 0 ((c.getD a.2.toNat []).getD 0 []))).getD a.2.toNat []).length c1))) ⟨rfl,rfl,rfl⟩ (Nat.le_of_ble_eq_true rfl) rfl (by kernel_rfl) (LentB.up hB hB2).1 (LentB.up hB hB2).2 hB.cell hB.one (by decide) ((congrFun hB2.gv 65537).trans ((if_neg (by decide)).trans ((congrFun hB.gv 65537).trans (if_pos rfl)))) (by kernel_rfl)⟩,
    ⟨_,rfl,Stp.ixRaw K (d:=99) (b:=b1) (len:=((c.set a.2.toNat ((c.getD a.2.toNat []).set 0 ((c.getD a.2.toNat []).getD 0 []))).getD a.2.toNat []).length) (cap:=c1) (i:=0) (e:=B1) (kk:= .i64) (z:=(0:Int)) ⟨rfl,rfl,rfl⟩ (Nat.le_of_ble_eq_true rfl) (by kernel_rfl) rfl (by kernel_rfl) (by kernel_rfl) ⟨by decide,rfl⟩ H⟩,
    ⟨_,rfl,Stp.ixRaw K (d:=99) (b:=b1) (len:=((c.set a.2.toNat ((c.getD a.2.toNat []).set 0 ((c.getD a.2.toNat []).getD 0 []))).getD a.2.toNat []).length) (cap:=c1) (i:=0) (e:=B1) (kk:= .i64) (z:=(0:Int)) ⟨rfl,rfl,rfl⟩ (Nat.le_of_ble_eq_true rfl) (by kernel_rfl) rfl (by kernel_rfl) (by kernel_rfl) ⟨by decide,rfl⟩ H⟩,
    ⟨_,rfl,Stp.ixRaw K (d:=99) (b:=b1) (len:=((c.set a.2.toNat ((c.getD a.2.toNat []).set 0 ((c.getD a.2.toNat []).getD 0 []))).getD a.2.toNat []).length) (cap:=c1) (i:=0) (e:=B1) (kk:= .i64) (z:=(0:Int)) ⟨rfl,rfl,rfl⟩ (Nat.le_of_ble_eq_true rfl) (by kernel_rfl) rfl (by kernel_rfl) (by kernel_rfl) ⟨by decide,rfl⟩ H⟩,
    ⟨_,rfl,Stp.ldRaw K 65538 (d:=100) (b:=b1) (i:=0) (y:=F) (v:=hh 3) ⟨rfl,rfl,rfl⟩ (Nat.le_of_ble_eq_true rfl) rfl (by kernel_rfl) hB2.heap hB2.free hB2.cell hB2.one (by decide) ((congrFun hB2.gv 65538).trans (if_pos rfl)) (by kernel_rfl)⟩,
    ⟨_,rfl,Stp.ldRaw K 65538 (d:=100) (b:=b1) (i:=0) (y:=F) (v:=hh 3) ⟨rfl,rfl,rfl⟩ (Nat.le_of_ble_eq_true rfl) rfl (by kernel_rfl) hB2.heap hB2.free hB2.cell hB2.one (by decide) ((congrFun hB2.gv 65538).trans (if_pos rfl)) (by kernel_rfl)⟩,
    ⟨_,rfl,Stp.ldRaw K 65538 (d:=100) (b:=b1) (i:=0) (y:=F) (v:=hh 3) ⟨rfl,rfl,rfl⟩ (Nat.le_of_ble_eq_true rfl) rfl (by kernel_rfl) hB2.heap hB2.free hB2.cell hB2.one (by decide) ((congrFun hB2.gv 65538).trans (if_pos rfl)) (by kernel_rfl)⟩,
    qT K,
    qT K,
    qT K,
    ⟨_,rfl,Stp.frz 4 (by kernel_rfl) (Stp.eq (Stp.callM [0] [.r, .t B1] (d:=some 103) (by kernel_rfl) (by kernel_rfl) (ok99 N _ _ hy98) (by kernel_rfl)) (by kernel_rfl) (by kernel_rfl)) (by kernel_rfl)⟩,
    ⟨_,rfl,Stp.ev K (m:= .dp) (φ:=InR (0:Int) (((c.set a.2.toNat ((c.getD a.2.toNat []).set 0 ((c.getD a.2.toNat []).getD 0 []))).getD a.2.toNat []).getD 0 []).length) (by kernel_rfl) a3⟩,
    ⟨_,rfl,Stp.ev K (m:= .dp) (φ:=(0:Int).toNat < (((c.set a.2.toNat ((c.getD a.2.toNat []).set 0 ((c.getD a.2.toNat []).getD 0 []))).getD a.2.toNat []).getD 0 []).length) (by kernel_rfl) W⟩,trivial⟩ (by kernel_rfl) ?_
        refine ⟨rfl,0,0,B1,[], .dp,((((c.set a.2.toNat ((c.getD a.2.toNat []).set 0 ((c.getD a.2.toNat []).getD 0 []))).getD a.2.toNat []).getD 0 []).set ((0:Int).toNat) l.2),[(5, .lf (.raw (.slice (some ⟨b0,0,none⟩) (c.set a.2.toNat ((c.getD a.2.toNat []).set 0 ((c.getD a.2.toNat []).getD 0 []))).length c0))),(65536, .lf (.ptr 0 0 0 0))],by kernel_rfl,by kernel_rfl,by kernel_rfl,by show _=_;kernel_rfl,by kernel_rfl,?_⟩
        refine ⟨rfl,1,0,B2,[], .dp,(((c.set a.2.toNat ((c.getD a.2.toNat []).set 0 ((c.getD a.2.toNat []).getD 0 []))).getD a.2.toNat []).set 0 ((((c.set a.2.toNat ((c.getD a.2.toNat []).set 0 ((c.getD a.2.toNat []).getD 0 []))).getD a.2.toNat []).getD 0 []).set ((0:Int).toNat) l.2)),[(65536, .lf (.ptr 0 0 0 0))],by kernel_rfl,by kernel_rfl,by kernel_rfl,by show _=_;kernel_rfl,by kernel_rfl,?_⟩
        exact arv [.ren [5,65536] [1,0]] ⟨((c.set a.2.toNat ((c.getD a.2.toNat []).set 0 ((c.getD a.2.toNat []).getD 0 []))).set a.2.toNat (((c.set a.2.toNat ((c.getD a.2.toNat []).set 0 ((c.getD a.2.toNat []).getD 0 []))).getD a.2.toNat []).set 0 ((((c.set a.2.toNat ((c.getD a.2.toNat []).set 0 ((c.getD a.2.toNat []).getD 0 []))).getD a.2.toNat []).getD 0 []).set ((0:Int).toNat) l.2))),l.1.1,l.1.2.1,l.1.2.2,rfl,h⟩
       refine VW.skip ?_
       exact arv [.ren [5,65536] [1,0]] ⟨(c.set a.2.toNat ((c.getD a.2.toNat []).set 0 ((c.getD a.2.toNat []).getD 0 []))),f.1.1,f.1.2.1,f.1.2.2,rfl,h⟩
      exact nomatch h
     replace h:=cond_f h hb
     refine VW.lend 5 65537 [0,8,94,65536] (id:=1) (cur:=0) (i:=a.2.toNat) (t':=B1) (xs:=c) (by kernel_rfl) (by kernel_rfl) (by decide) (by decide) (by decide) (by kernel_rfl) q.2 ?_
     intro w1 E1 b0 c0 arr0 ty0 y hB
     have ht1:=Tabs.ext (by assumption) hB.ext
     refine VW.region <| nG K 2 (tn 2) <| VO.ixRaw K (d:=81) (b:=b0) (len:=c.length) (cap:=c0) (i:=a.2.toNat) (e:=B2) (kk:= .i64) (z:=a.2) ⟨rfl,rfl,rfl⟩ (Nat.le_of_ble_eq_true rfl) (by kernel_rfl) rfl (by kernel_rfl) (by kernel_rfl) ⟨q.1,rfl⟩ q.2 <| VO.ldRaw K 65537 (d:=82) (b:=b0) (i:=a.2.toNat) (y:=y) (v:=hh 2) ⟨rfl,rfl,rfl⟩ (Nat.le_of_ble_eq_true rfl) rfl (by kernel_rfl) hB.heap hB.free hB.cell hB.one (by decide) ((congrFun hB.gv 65537).trans (if_pos rfl)) (by kernel_rfl) ?_
     refine nG K 3 (tn 3) ?_
     refine spC 85 h ?_ ?_<;>intro h
     ·exact nomatch h
     refine nN K (tn 9) ?_
     refine ⟨rfl,0,1,B2,[], .dp,(c.getD a.2.toNat []),[(0, .lf (.ptr 0 0 0 0)),(8,I a.2),(94,B false),(65536, .lf (.ptr 0 0 0 0))],by kernel_rfl,by kernel_rfl,by kernel_rfl,by show _=_;kernel_rfl,by kernel_rfl,?_⟩
     refine VW.cond (b:=false) (by kernel_rfl) (fun h'=>nomatch h') (fun _=>?_)
     refine VW.skip ?_
     exact arv [.ren [5,65536] [1,0]] ⟨(c.set a.2.toNat (c.getD a.2.toNat [])),f.1.1,f.1.2.1,f.1.2.2,rfl,h⟩
    refine VW.skip ?_
    exact arv [.ren [5,65536] [1,0]] ⟨c,f.1.1,f.1.2.1,f.1.2.2,rfl,h⟩
   refine VW.skip ?_
   exact arv [.ren [5,65536] [1,0]] ⟨c,D.1.1,D.1.2.1,D.1.2.2,rfl,h⟩
  refine nN K (tn 4) ?_
  refine VW.cond (b:=false) (by kernel_rfl) (fun h'=>nomatch h') (fun _=>?_)
  refine VW.skip ?_
  exact arv [.ren [5,65536] [1,0]] ⟨c,D.1.1,D.1.2.1,D.1.2.2,rfl,h⟩
 rintro s ⟨Q,R,S,T,rfl,h⟩
 unfold F58_j0 at h
 refine nR K (tn 2) ?_
 replace h:=Option.some.inj h
 subst h
 refine VW.ghl [.ren [4,65536] [1,0]] (VW.ret ?_)
 exact ⟨[some 1],by kernel_rfl,by kernel_rfl,by kernel_rfl⟩
def F23_j0 (N:Nat) (c:(List Z99)) (a:L3) (b:(List Z50)):Option ((List Z99)×L3×(List Z50)) :=
  some (c,a,b)
def F23_j1 (N:Nat) (a0:L1) (e:L1) (f:Int) (g:Int) (a:(List Z99)):Option ((List Z99)×L3×(List Z50)) :=
  andO (F58 N (e,(f,g)) a) fun c=>andO (F59 N c.1 a0) fun b=>andO (F34 N b.1 (4:Int)) fun d=>cond d.2 (andO (F60 N d.1 b.2) fun h=>F23_j0 N a c.2 h.2) (F23_j0 N a c.2 b.2)
def F23 (N:Nat) (a0:L1):Option ((List Z99)×L3×(List Z50)) :=
  andO (F33 N a0) fun c=>andO (F56 N) fun d=>andO (F34 N c (8:Int)) fun a=>cond a.2 (andO (F57 N a.1) fun b=>F23_j1 N a0 b.1.1 b.1.2.1 b.1.2.2 b.2) (F23_j1 N a0 a.1.1 a.1.2.1 a.1.2.2 d)
theorem ok23 N a0 {r} (h:F23 N a0=some r):Con prog 23 [Vv (.sl (.int .u8)) a0] [.lf (.v (.sl Y99) r.1), .lf (.own B2 r.2.1 .dp), .lf (.own Y50 r.2.2 .tp)]:=by
 refine ctr [.lf (.v (.sl Y99)), .lf (.own B2 .dp), .lf (.own Y50 .tp)] K func23 rfl fun w0 E0 ht=>?_
 unfold F23 at h
 show VW _ _ _ _ _ (retQ _ _ _ _) _
 refine nR K (tn 3) <| sq <| VW.region <| nG K 1 (tn 1) ?_
 obtain⟨o,hy,h⟩:=aS h
 refine VO.callB [.t (.sl (.int .u8))] (d:=10) (by kernel_rfl) (ok33 N _ hy) <| nN K (tn 1) <| sq <| VW.region ?_
 obtain⟨n,hy,h⟩:=aS h
 refine clc false [] [] (some 11) K (ok56 N  hy) <| nN K (tn 1) ?_
 refine VW.join (fun s=>∃f g i a,s=⟨[(0,Vv (.sl (.int .u8)) a0),(5, .lf (.ptr 0 0 0 0)),(6,hh 1)],[bx [.v (.sl (.int .u8)) f,zi g,zi i] 85,ar 0 Y99 a .dp]⟩∧F23_j1 N a0 f g i a=some r) ?_ ?_
 ·refine sq <| VW.region <| nG K 1 (tn 1) ?_
  obtain⟨j,hy,h⟩:=aS h
  refine VO.callM [0] [.r, .t B0] (d:=some 13) (by kernel_rfl) (by kernel_rfl) (ok34 N _ _ hy) (by kernel_rfl) <| nN K (tn 0) ?_
  refine cnd h ?_ ?_<;>intro h
  ·refine VW.region <| nG K 1 (tn 1) ?_
   obtain⟨b,hy,h⟩:=aS h
   refine VO.callM [0] [.r] (d:=some 15) (by kernel_rfl) (by kernel_rfl) (ok57 N _ hy) (by kernel_rfl) <| nN K (tn 1) ?_
   exact arv [.ren [0,5,6] [0,2]] ⟨b.1.1,b.1.2.1,b.1.2.2,b.2,rfl,h⟩
  refine VW.skip ?_
  exact arv [.ren [0,5,6] [0,1]] ⟨j.1.1,j.1.2.1,j.1.2.2,n,rfl,h⟩
 rintro s ⟨f,g,i,a,rfl,h⟩
 unfold F23_j1 at h
 refine sq <| VW.region <| nG K 2 (tn 2) ?_
 obtain⟨k,hy,h⟩:=aS h
 refine VO.ghl [.frz 1] <| VO.callM [0] [.r, .t (.sl Y99)] (d:=some 18) (by kernel_rfl) (by kernel_rfl) (ok58 N _ _ hy) (by kernel_rfl) <| nN K (tn 1) <| sq <| VW.region <| nG K 2 (tn 2) ?_
 obtain⟨l,hy,h⟩:=aS h
 refine VO.callM [0] [.r, .t (.sl (.int .u8))] (d:=some 21) (by kernel_rfl) (by kernel_rfl) (ok59 N _ _ hy) (by kernel_rfl) <| nN K (tn 1) ?_
 refine VW.join (fun s=>∃(c:L3) (e:(List Z50)),s=⟨[(6,Vv (.sl Y99) a),(7,hh 0),(8,hh 1)],[ar 0 B2 c .dp,ar 0 Y50 e .tp]⟩∧F23_j0 N a c e=some r) ?_ ?_
 ·refine sq <| VW.region <| nG K 1 (tn 1) ?_
  obtain⟨p,hy,h⟩:=aS h
  refine VO.callM [0] [.r, .t B0] (d:=some 23) (by kernel_rfl) (by kernel_rfl) (ok34 N _ _ hy) (by kernel_rfl) <| nN K (tn 0) ?_
  refine cnd h ?_ ?_<;>intro h
  ·refine VW.region <| nG K 2 (tn 2) ?_
   obtain⟨m,hy,h⟩:=aS h
   refine VO.callM [0,3] [.r, .t (.sl Y50)] (d:=some 26) (by kernel_rfl) (by kernel_rfl) (ok60 N _ _ hy) (by kernel_rfl) <| nN K (tn 1) ?_
   exact arv [.ren [6,7,8] [2,4]] ⟨k.2,m.2,rfl,h⟩
  refine VW.skip ?_
  exact arv [.wk 3, .ren [6,7,8] [2,3]] ⟨k.2,l.2,rfl,h⟩
 rintro s ⟨c,e,rfl,h⟩
 unfold F23_j0 at h
 refine nR K (tn 6) ?_
 cases h;exact VW.ret (rt [some 0,some 1])
def F163_j0 (N:Nat) (a0:ByteArray) (a1:ByteArray):Option (Bool) :=
  some (decide ((a0.size:Int) < (a1.size:Int)))
def F163_l0_b (N:Nat) (a0:ByteArray) (a1:ByteArray) (b:Int→Option (Bool)) (a:Int):Option (Bool) :=
  cond (decide (a < (a0.size:Int))) (cond (decide (a < (a1.size:Int))) (gd (InR a a0.size) (gd (InR a a1.size) (cond (((a0.data.getD a.toNat 0).toNat:Int) != ((a1.data.getD a.toNat 0).toNat:Int)) (gd (InR a a0.size) (gd (InR a a1.size) (some (decide (((a0.data.getD a.toNat 0).toNat:Int) < ((a1.data.getD a.toNat 0).toNat:Int)))))) (b (IntKind.i64.wrap (a+(1:Int))))))) (F163_j0 N a0 a1)) (F163_j0 N a0 a1)
def F163_l0 (N:Nat) (a0:ByteArray) (a1:ByteArray):=loopF (F163_l0_b N a0 a1) (fun _=>none)
theorem F163_l0_s {N a0 a1 k} (hk:0 < k:=by omega):F163_l0 N a0 a1 k=F163_l0_b N a0 a1 (F163_l0 N a0 a1 (k - 1)):=lS hk
def F163 (N:Nat) (a0:ByteArray) (a1:ByteArray):Option (Bool) :=
  F163_l0 N a0 a1 N (0:Int)
theorem ok163 N a0 a1 {r} (h:F163 N a0 a1=some r):Con prog 163 [S a0,S a1] [.lf (.v .bool r)]:=by
 refine ctr [.lf (.v .bool)] K func163 rfl fun w0 E0 ht=>?_
 unfold F163 at h
 show VW _ _ _ _ _ (retQ _ _ _ _) _
 refine nR K (tn 1) ?_
 refine VW.join (fun s=>s=⟨[(0,S a0),(1,S a1)],[]⟩∧F163_j0 N a0 a1=some r) ?_ ?_
 ·refine nR K (tn 1) <| VW.block <| lop (fun k s=>∃a,s=⟨[(0,S a0),(1,S a1),(5,I a)],[]⟩∧F163_l0 N a0 a1 k a=some r) N [.ren [0,1,5] []] ⟨(0:Int),rfl,h⟩ ?_
  rintro c s ⟨a,rfl,h⟩
  cases c with
  | zero=>exact nv h
  | succ c =>
   rw [F163_l0_s,F163_l0_b] at h
   refine sq <| sq <| VW.region <| nG K 5 (tn 5) ?_
   refine spC 10 h ?_ ?_<;>intro h
   ·refine nN K (tn 5) ?_
    refine cnd h ?_ ?_<;>intro h
    ·refine VW.skip <| sq <| VW.block <| sq ?_
     obtain⟨d,e,h⟩:=gT h
     refine dr K [] [] [] [0,1,5,24] [] (pu 2 (an d (pu 2 (an e (tn 1))))) trivial ?_
     refine cnd h ?_ ?_<;>intro h
     ·refine sq ?_
      obtain⟨f,g,h⟩:=gT h
      refine dr K [] [] [] [4] [] (pu 2 (an f (pu 2 (an g (tn 2))))) trivial ?_
      cases h;exact VW.ret (rt [])
     refine VW.skip <| nE K (tn 3) ?_
     exact aro [.ren [0,1,5] []] ⟨(wr (a+(1:Int))),rfl,h⟩
    refine VW.exit ?_
    exact arv [.ren [0,1] []] ⟨rfl,h⟩
   refine nN K (tn 5) ?_
   refine VW.cond (b:=false) (by kernel_rfl) (fun h'=>nomatch h') (fun _=>?_)
   refine VW.exit ?_
   exact arv [.ren [0,1] []] ⟨rfl,h⟩
 rintro s ⟨rfl,h⟩
 unfold F163_j0 at h
 refine nR K (tn 6) ?_
 cases h;exact VW.ret (rt [])
def F105_j0 (N:Nat):Option (Bool) :=
  some true
def F105_j1 (N:Nat) (a:Int→Option (Bool)) (b:Int):Option (Bool) :=
  a (IntKind.i64.wrap (b+(1:Int)))
def F105_l0_b (N:Nat) (a0:(List Z99)) (b:Int→Option (Bool)) (a:Int):Option (Bool) :=
  cond (decide (a < (a0.length:Int))) (gd (InR a a0.length) (andO (F160 N ((a0.getD a.toNat (Ty.dflt Y99)).1)) fun c=>cond (!c) (some false) (gd (InR a a0.length) (andO (F96 N ((a0.getD a.toNat (Ty.dflt Y99)).2) (1:Int) (6:Int)) fun d=>cond (!d) (some false) (cond (decide (a > (0:Int))) (gd (InR (IntKind.i64.wrap (a - (1:Int))) a0.length) (gd (InR a a0.length) (andO (F163 N ((a0.getD (IntKind.i64.wrap (a - (1:Int))).toNat (Ty.dflt Y99)).1) ((a0.getD a.toNat (Ty.dflt Y99)).1)) fun e=>cond (!e) (some false) (F105_j1 N b a)))) (F105_j1 N b a)))))) (F105_j0 N)
def F105_l0 (N:Nat) (a0:(List Z99)):=loopF (F105_l0_b N a0) (fun _=>none)
theorem F105_l0_s {N a0 k} (hk:0 < k:=by omega):F105_l0 N a0 k=F105_l0_b N a0 (F105_l0 N a0 (k - 1)):=lS hk
def F105 (N:Nat) (a0:(List Z99)):Option (Bool) :=
  cond (decide ((a0.length:Int) > (8:Int))) (some false) (F105_l0 N a0 N (0:Int))
theorem ok105 N a0 {r} (h:F105 N a0=some r):Con prog 105 [Vv (.sl Y99) a0] [.lf (.v .bool r)]:=by
 refine ctr [.lf (.v .bool)] K func105 rfl fun w0 E0 ht=>?_
 unfold F105 at h
 show VW _ _ _ _ _ (retQ _ _ _ _) _
 refine nR K (tn 1) <| sq <| nR K (tn 3) ?_
 refine cnd h ?_ ?_<;>intro h
 ·refine nR K (tn 1) ?_
  cases h;exact VW.ret (rt [])
 refine VW.skip ?_
 refine VW.join (fun s=>s=⟨[],[]⟩∧F105_j0 N=some r) ?_ ?_
 ·refine nR K (tn 1) <| VW.block <| lop (fun k s=>∃a,s=⟨[(0,Vv (.sl Y99) a0),(3,I a)],[]⟩∧F105_l0 N a0 k a=some r) N [.ren [0,3] []] ⟨(0:Int),rfl,h⟩ ?_
  rintro g s ⟨a,rfl,h⟩
  cases g with
  | zero=>exact nv h
  | succ g =>
   rw [F105_l0_s,F105_l0_b] at h
   refine sq <| nR K (tn 4) ?_
   refine cnd h ?_ ?_<;>intro h
   ·refine VW.skip ?_
    refine VW.join (fun s=>s=⟨[(0,Vv (.sl Y99) a0),(3,I a)],[]⟩∧F105_j1 N (F105_l0 N a0 g) a=some r) ?_ ?_
    ·refine VW.block <| sq ?_
     obtain⟨d,h⟩:=gS h
     obtain⟨c,hy123,h⟩:=aS h
     rcases Bool.eq_false_or_eq_true (!c) with hb124 | hb124
     ·replace h:=cond_t h hb124
      refine dr K [(5, .cl [] (some 18) [.lf (.v .bool c)]),(7, .lit true)] [(5,0),(7,0)] [] [0,3,47] [] (pu 2 (an d (tn 32))) ⟨qC false [.t .str] [] [] (some 18) K (ok160 N _ hy123),qB 20 hb124 K trivial,trivial⟩ ?_
      refine VW.cond (b:=true) (by kernel_rfl) (fun _=>?_) (fun h'=>nomatch h')
      refine nR K (tn 1) ?_
      cases h;exact VW.ret (rt [])
     replace h:=cond_f h hb124
     obtain⟨f,h⟩:=gS h
     obtain⟨e,hy126,h⟩:=aS h
     rcases Bool.eq_false_or_eq_true (!e) with hb127 | hb127
     ·replace h:=cond_t h hb127
      refine dr K [(5, .cl [] (some 18) [.lf (.v .bool c)]),(7, .lit false),(13, .cl [] (some 26) [.lf (.v .bool e)]),(16, .lit true)] [(5,0),(7,0),(13,0),(16,0)] [] [0,3,47] [] (pu 2 (an d (pu 7 (an f (tn 24))))) ⟨qC false [.t .str] [] [] (some 18) K (ok160 N _ hy123),qB 20 hb124 K trivial,qC false [.t B0, .t B0, .t B0] [] [] (some 26) K (ok96 N _ _ _ hy126),qB 29 hb127 K trivial,trivial⟩ ?_
      refine VW.cond (b:=true) (by kernel_rfl) (fun _=>?_) (fun h'=>nomatch h')
      refine nR K (tn 1) ?_
      cases h;exact VW.ret (rt [])
     replace h:=cond_f h hb127
     rcases Bool.eq_false_or_eq_true (decide (a > (0:Int))) with hb128 | hb128
     ·replace h:=cond_t h hb128
      obtain⟨i,j,h⟩:=gT h
      obtain⟨l,hy131,h⟩:=aS h
      refine dr K [(5, .cl [] (some 18) [.lf (.v .bool c)]),(7, .lit false),(13, .cl [] (some 26) [.lf (.v .bool e)]),(16, .lit false),(19, .lit true),(31, .cl [] (some 44) [.lf (.v .bool l)])] [(5,0),(7,0),(13,0),(16,0),(19,0),(31,0)] [] [0,3,47] [] (pu 2 (an d (pu 7 (an f (pu 12 (an i (pu 4 (an j (tn 6))))))))) ⟨qC false [.t .str] [] [] (some 18) K (ok160 N _ hy123),qB 20 hb124 K trivial,qC false [.t B0, .t B0, .t B0] [] [] (some 26) K (ok96 N _ _ _ hy126),qB 29 hb127 K trivial,qB 32 hb128 K trivial,qC false [.t .str, .t .str] [] [] (some 44) K (ok163 N _ _ hy131),trivial⟩ ?_
      refine cnd h ?_ ?_<;>intro h
      ·refine nR K (tn 1) ?_
       cases h;exact VW.ret (rt [])
      refine VW.skip ?_
      exact arv [.ren [0,3] []] ⟨rfl,h⟩
     replace h:=cond_f h hb128
     refine dr K [(5, .cl [] (some 18) [.lf (.v .bool c)]),(7, .lit false),(13, .cl [] (some 26) [.lf (.v .bool e)]),(16, .lit false),(19, .lit false)] [(5,0),(7,0),(13,0),(16,0),(19,0)] [] [0,3,47] [] (pu 2 (an d (pu 7 (an f (tn 24))))) ⟨qC false [.t .str] [] [] (some 18) K (ok160 N _ hy123),qB 20 hb124 K trivial,qC false [.t B0, .t B0, .t B0] [] [] (some 26) K (ok96 N _ _ _ hy126),qB 29 hb127 K trivial,qB 32 hb128 K trivial,trivial⟩ ?_
     refine VW.cond (b:=false) (by kernel_rfl) (fun h'=>nomatch h') (fun _=>?_)
     refine VW.skip ?_
     exact arv [.ren [0,3] []] ⟨rfl,h⟩
    rintro s ⟨rfl,h⟩
    unfold F105_j1 at h
    refine nE K (tn 3) ?_
    exact aro [.ren [0,3] []] ⟨(wr (a+(1:Int))),rfl,h⟩
   refine VW.exit ?_
   exact arv [.ren [] []] ⟨rfl,h⟩
 rintro s ⟨rfl,h⟩
 unfold F105_j0 at h
 refine nR K (tn 1) ?_
 cases h;exact VW.ret (rt [])
def F106 (N:Nat) (a0:Int):Option (Bool) :=
  andO (F153 N a0) fun a=>cond a (some true) (some (a0 == (-2000000:Int)))
theorem ok106 N a0 {r} (h:F106 N a0=some r):Con prog 106 [I a0] [.lf (.v .bool r)]:=by
 refine ctr [.lf (.v .bool)] K func106 rfl fun w0 E0 ht=>?_
 unfold F106 at h
 show VW _ _ _ _ _ (retQ _ _ _ _) _
 refine nR K (tn 1) <| sq <| VW.region <| nG K 1 (tn 1) ?_
 obtain⟨a,hy,h⟩:=aS h
 refine clc false [.t B0] [] (some 4) K (ok153 N _ hy) <| nG K 1 (tn 1) ?_
 refine spC 5 h ?_ ?_<;>intro h
 ·refine nN K (tn 4) ?_
  cases h;exact VW.ret (rt [])
 refine nN K (tn 4) ?_
 cases h;exact VW.ret (rt [])
def F61_j0 (N:Nat):Option (Bool) :=
  some true
def F61_j1 (N:Nat) (a:Int→Option (Bool)) (b:Int):Option (Bool) :=
  a (IntKind.i64.wrap (b+(1:Int)))
def F61_j2 (N:Nat) (a:Int→Option (Bool)) (b:Int):Option (Bool) :=
  a (IntKind.i64.wrap (b+(1:Int)))
def F61_l0_b (N:Nat) (a1:L3) (d:Int→Option (Bool)) (a:Int) (b:Int) (e:Int→Option (Bool)) (c:Int):Option (Bool) :=
  gd (InR a a1.length) (gd (InR b (a1.getD a.toNat (Ty.dflt B2)).length) (cond (decide (c < (((a1.getD a.toNat (Ty.dflt B2)).getD b.toNat (Ty.dflt B1)).length:Int))) (gd (InR a a1.length) (gd (InR b (a1.getD a.toNat (Ty.dflt B2)).length) (gd (InR c ((a1.getD a.toNat (Ty.dflt B2)).getD b.toNat (Ty.dflt B1)).length) (andO (F106 N (((a1.getD a.toNat (Ty.dflt B2)).getD b.toNat (Ty.dflt B1)).getD c.toNat (Ty.dflt B0))) fun f=>cond (!f) (some false) (e (IntKind.i64.wrap (c+(1:Int)))))))) (F61_j2 N d b)))
def F61_l0 (N:Nat) (a1:L3) (a:Int→Option (Bool)) (b:Int) (c:Int):=loopF (F61_l0_b N a1 a b c) (fun _=>none)
theorem F61_l0_s {N a1 a b c k} (hk:0 < k:=by omega):F61_l0 N a1 a b c k=F61_l0_b N a1 a b c (F61_l0 N a1 a b c (k - 1)):=lS hk
def F61_l1_b (N:Nat) (a0:(List Z99)) (a1:L3) (c:Int→Option (Bool)) (a:Int) (d:Int→Option (Bool)) (b:Int):Option (Bool) :=
  gd (InR a a1.length) (cond (decide (b < ((a1.getD a.toNat (Ty.dflt B2)).length:Int))) (gd (InR a a1.length) (gd (InR b (a1.getD a.toNat (Ty.dflt B2)).length) (gd (InR a a0.length) (cond ((((a1.getD a.toNat (Ty.dflt B2)).getD b.toNat (Ty.dflt B1)).length:Int) != ((a0.getD a.toNat (Ty.dflt Y99)).2)) (some false) (F61_l0 N a1 d a b N (0:Int)))))) (F61_j1 N c a))
def F61_l1 (N:Nat) (a0:(List Z99)) (a1:L3) (a:Int→Option (Bool)) (b:Int):=loopF (F61_l1_b N a0 a1 a b) (fun _=>none)
theorem F61_l1_s {N a0 a1 a b k} (hk:0 < k:=by omega):F61_l1 N a0 a1 a b k=F61_l1_b N a0 a1 a b (F61_l1 N a0 a1 a b (k - 1)):=lS hk
def F61_l2_b (N:Nat) (a0:(List Z99)) (a1:L3) (b:Int→Option (Bool)) (a:Int):Option (Bool) :=
  cond (decide (a < (a0.length:Int))) (gd (InR a a1.length) (cond (decide (((a1.getD a.toNat (Ty.dflt B2)).length:Int) > (40:Int))) (some false) (F61_l1 N a0 a1 b a N (0:Int)))) (F61_j0 N)
def F61_l2 (N:Nat) (a0:(List Z99)) (a1:L3):=loopF (F61_l2_b N a0 a1) (fun _=>none)
theorem F61_l2_s {N a0 a1 k} (hk:0 < k:=by omega):F61_l2 N a0 a1 k=F61_l2_b N a0 a1 (F61_l2 N a0 a1 (k - 1)):=lS hk
def F61 (N:Nat) (a0:(List Z99)) (a1:L3):Option (Bool) :=
  andO (F105 N a0) fun a=>cond (!a) (some false) (cond ((a1.length:Int) != (a0.length:Int)) (some false) (F61_l2 N a0 a1 N (0:Int)))
theorem ok61 N a0 a1 {r} (h:F61 N a0 a1=some r):Con prog 61 [Vv (.sl Y99) a0,Vv B3 a1] [.lf (.v .bool r)]:=by
 refine ctr [.lf (.v .bool)] K func61 rfl fun w0 E0 ht=>?_
 unfold F61 at h
 show VW _ _ _ _ _ (retQ _ _ _ _) _
 refine nR K (tn 1) <| sq <| sq <| VW.region <| nG K 1 (tn 1) ?_
 obtain⟨x,hy,h⟩:=aS h
 refine clc false [.t (.sl Y99)] [] (some 9) K (ok105 N _ hy) <| nG K 2 (tn 2) ?_
 refine spC 11 h ?_ ?_<;>intro h
 ·refine nN K (tn 6) ?_
  refine VW.cond (b:=true) (by kernel_rfl) (fun _=>?_) (fun h'=>nomatch h')
  refine nR K (tn 1) ?_
  cases h;exact VW.ret (rt [])
 refine nN K (tn 6) ?_
 refine cnd h ?_ ?_<;>intro h
 ·refine nR K (tn 1) ?_
  cases h;exact VW.ret (rt [])
 refine VW.skip ?_
 refine VW.join (fun s=>s=⟨[],[]⟩∧F61_j0 N=some r) ?_ ?_
 ·refine nR K (tn 1) <| VW.block <| lop (fun k s=>∃a,s=⟨[(0,Vv (.sl Y99) a0),(1,Vv B3 a1),(5,I a)],[]⟩∧F61_l2 N a0 a1 k a=some r) N [.ren [0,1,5] []] ⟨(0:Int),rfl,h⟩ ?_
  rintro d s ⟨a,rfl,h⟩
  cases d with
  | zero=>exact nv h
  | succ d =>
   rw [F61_l2_s,F61_l2_b] at h
   refine sq <| nR K (tn 4) ?_
   refine cnd h ?_ ?_<;>intro h
   ·refine VW.skip ?_
    refine VW.join (fun s=>s=⟨[(0,Vv (.sl Y99) a0),(1,Vv B3 a1),(5,I a)],[]⟩∧F61_j1 N (F61_l2 N a0 a1 d) a=some r) ?_ ?_
    ·refine VW.block <| sq ?_
     obtain⟨i,h⟩:=gS h
     refine nR K (pu 2 (an i (tn 3))) ?_
     refine cnd h ?_ ?_<;>intro h
     ·refine nR K (tn 1) ?_
      cases h;exact VW.ret (rt [])
     refine VW.skip <| nR K (tn 1) <| VW.block <| lop (fun k s=>∃c,s=⟨[(0,Vv (.sl Y99) a0),(1,Vv B3 a1),(5,I a),(6,I c)],[]⟩∧F61_l1 N a0 a1 (F61_l2 N a0 a1 d) a k c=some r) N [.ren [0,1,5,6] []] ⟨(0:Int),rfl,h⟩ ?_
     rintro e s ⟨c,rfl,h⟩
     cases e with
     | zero=>exact nv h
     | succ e =>
      rw [F61_l1_s,F61_l1_b] at h
      refine sq ?_
      obtain⟨j,h⟩:=gS h
      refine nR K (pu 3 (an j (tn 3))) ?_
      refine cnd h ?_ ?_<;>intro h
      ·refine VW.skip ?_
       refine VW.join (fun s=>s=⟨[(0,Vv (.sl Y99) a0),(1,Vv B3 a1),(5,I a),(6,I c)],[]⟩∧F61_j2 N (F61_l1 N a0 a1 (F61_l2 N a0 a1 d) a e) c=some r) ?_ ?_
       ·refine VW.block <| sq <| sq ?_
        obtain⟨l,m,n,h⟩:=gU h
        refine dr K [] [] [] [0,1,5,6,52] [] (pu 2 (an l (pu 2 (an m (pu 4 (an n (tn 3))))))) trivial ?_
        refine cnd h ?_ ?_<;>intro h
        ·refine nR K (tn 1) ?_
         cases h;exact VW.ret (rt [])
        refine VW.skip <| nR K (tn 1) <| VW.block <| lop (fun k s=>∃f,s=⟨[(0,Vv (.sl Y99) a0),(1,Vv B3 a1),(5,I a),(6,I c),(7,I f)],[]⟩∧F61_l0 N a1 (F61_l1 N a0 a1 (F61_l2 N a0 a1 d) a e) a c k f=some r) N [.ren [0,1,5,6,7] []] ⟨(0:Int),rfl,h⟩ ?_
        rintro g s ⟨f,rfl,h⟩
        cases g with
        | zero=>exact nv h
        | succ g =>
         rw [F61_l0_s,F61_l0_b] at h
         refine sq ?_
         obtain⟨o,p,h⟩:=gT h
         refine nR K (pu 3 (an o (pu 2 (an p (tn 3))))) ?_
         refine cnd h ?_ ?_<;>intro h
         ·refine VW.skip <| sq <| VW.block <| sq <| VW.region ?_
          obtain⟨q,u,w,h⟩:=gU h
          refine nG K 10 (pu 2 (an q (pu 2 (an u (pu 2 (an w (tn 1))))))) ?_
          obtain⟨y,hy,h⟩:=aS h
          refine clc false [.t B0] [] (some 75) K (ok106 N _ hy) <| nN K (tn 1) ?_
          refine cnd h ?_ ?_<;>intro h
          ·refine nR K (tn 1) ?_
           cases h;exact VW.ret (rt [])
          refine VW.skip <| nE K (tn 3) ?_
          exact aro [.ren [0,1,5,6,7] []] ⟨(wr (f+(1:Int))),rfl,h⟩
         refine VW.exit ?_
         exact arv [.ren [0,1,5,6] []] ⟨rfl,h⟩
       rintro s ⟨rfl,h⟩
       unfold F61_j2 at h
       refine nE K (tn 3) ?_
       exact aro [.ren [0,1,5,6] []] ⟨(wr (c+(1:Int))),rfl,h⟩
      refine VW.exit ?_
      exact arv [.ren [0,1,5] []] ⟨rfl,h⟩
    rintro s ⟨rfl,h⟩
    unfold F61_j1 at h
    refine nE K (tn 3) ?_
    exact aro [.ren [0,1,5] []] ⟨(wr (a+(1:Int))),rfl,h⟩
   refine VW.exit ?_
   exact arv [.ren [] []] ⟨rfl,h⟩
 rintro s ⟨rfl,h⟩
 unfold F61_j0 at h
 refine nR K (tn 1) ?_
 cases h;exact VW.ret (rt [])
def F74_j0 (N:Nat) (a:L1):Option (L1) :=
  some a
def F74_l0_b (N:Nat) (a0:(List Z50)) (a1:Int) (d:L1→Int→Int→Option (L1)) (a:L1) (b:Int) (c:Int):Option (L1) :=
  gd (InR a1 a0.length) (andO (F129 N ((a0.getD a1.toNat (Ty.dflt Y50)).1)) fun e=>cond (decide (c < e)) (gd (a.length+([b]).length≤lim (.int .i64)) (andO (F98 N a0 b (10:Int)) fun f=>d (a++([b])) f.1 (IntKind.i64.wrap (c+(1:Int))))) (F74_j0 N a))
def F74_l0 (N:Nat) (a0:(List Z50)) (a1:Int):=loopF (F74_l0_b N a0 a1) (fun _ _ _=>none)
theorem F74_l0_s {N a0 a1 k} (hk:0 < k:=by omega):F74_l0 N a0 a1 k=F74_l0_b N a0 a1 (F74_l0 N a0 a1 (k - 1)):=lS hk
def F74 (N:Nat) (a0:(List Z50)) (a1:Int):Option (L1) :=
  F74_l0 N a0 a1 N ([]) (IntKind.i64.wrap (a1+(1:Int))) (0:Int)
theorem ok74 N a0 a1 {r} (h:F74 N a0 a1=some r):Con prog 74 [Vv (.sl Y50) a0,I a1] [.lf (.own B0 r .dp)]:=by
 refine ctr [.lf (.own B0 .dp)] K func74 rfl fun w0 E0 ht=>?_
 unfold F74 at h
 show VW _ _ _ _ _ (retQ _ _ _ _) _
 refine nR K (tn 1) <| nR K (tn 2) <| nR K (tn 3) ?_
 refine VW.join (fun s=>∃d,s=⟨[(5,hh 0)],[ar 0 B0 d .dp]⟩∧F74_j0 N d=some r) ?_ ?_
 ·refine nR K (tn 1) <| VW.block <| lop (fun k s=>∃a b c,s=⟨[(0,Vv (.sl Y50) a0),(1,I a1),(5,hh 0),(6,I b),(7,I c)],[ar 0 B0 a .dp]⟩∧F74_l0 N a0 a1 k a b c=some r) N [.nilS 5 B0 .dp, .ren [0,1,5,6,7] [0]] ⟨[],(wr (a1+(1:Int))),(0:Int),rfl,h⟩ ?_
  rintro e s ⟨a,b,c,rfl,h⟩
  cases e with
  | zero=>exact nv h
  | succ e =>
   rw [F74_l0_s,F74_l0_b] at h
   refine sq <| sq <| VW.region ?_
   obtain⟨f,h⟩:=gS h
   refine nG K 6 (pu 3 (an f (tn 2))) ?_
   obtain⟨j,hy,h⟩:=aS h
   refine clc false [.t B0] [] (some 17) K (ok129 N _ hy) <| nN K (tn 1) ?_
   refine cnd h ?_ ?_<;>intro h
   ·refine VW.skip <| sq <| VW.block ?_
    obtain⟨g,h⟩:=gS h
    refine nR K (pu 3 (an g (tn 1))) <| VW.region <| nG K 2 (tn 2) ?_
    obtain⟨i,hy,h⟩:=aS h
    refine clc false [.t (.sl Y50), .t B0, .t B0] [] (some 28) K (ok98 N _ _ _ hy) <| nN K (tn 4) <| nE K (tn 3) ?_
    exact aro [.ren [0,1,5,6,7] [0]] ⟨(a++([b])),i.1,(wr (c+(1:Int))),rfl,h⟩
   refine VW.exit ?_
   exact arv [.ren [5] [0]] ⟨a,rfl,h⟩
 rintro s ⟨d,rfl,h⟩
 unfold F74_j0 at h
 refine nR K (tn 2) ?_
 cases h;exact VW.ret (rt [some 0])
def F108_j0 (N:Nat):Option (Int) :=
  some (-1:Int)
def F108_l0_b (N:Nat) (a0:(List Z99)) (a1:ByteArray) (b:Int→Option (Int)) (a:Int):Option (Int) :=
  cond (decide (a < (a0.length:Int))) (gd (InR a a0.length) (cond (((a0.getD a.toNat (Ty.dflt Y99)).1).toList == a1.toList) (some a) (b (IntKind.i64.wrap (a+(1:Int)))))) (F108_j0 N)
def F108_l0 (N:Nat) (a0:(List Z99)) (a1:ByteArray):=loopF (F108_l0_b N a0 a1) (fun _=>none)
theorem F108_l0_s {N a0 a1 k} (hk:0 < k:=by omega):F108_l0 N a0 a1 k=F108_l0_b N a0 a1 (F108_l0 N a0 a1 (k - 1)):=lS hk
def F108 (N:Nat) (a0:(List Z99)) (a1:ByteArray):Option (Int) :=
  F108_l0 N a0 a1 N (0:Int)
theorem ok108 N a0 a1 {r} (h:F108 N a0 a1=some r):Con prog 108 [Vv (.sl Y99) a0,S a1] [.lf (.v B0 r)]:=by
 refine ctr [.lf (.v B0)] K func108 rfl fun w0 E0 ht=>?_
 unfold F108 at h
 show VW _ _ _ _ _ (retQ _ _ _ _) _
 refine nR K (tn 1) ?_
 refine VW.join (fun s=>s=⟨[],[]⟩∧F108_j0 N=some r) ?_ ?_
 ·refine nR K (tn 1) <| VW.block <| lop (fun k s=>∃a,s=⟨[(0,Vv (.sl Y99) a0),(1,S a1),(5,I a)],[]⟩∧F108_l0 N a0 a1 k a=some r) N [.ren [0,1,5] []] ⟨(0:Int),rfl,h⟩ ?_
  rintro b s ⟨a,rfl,h⟩
  cases b with
  | zero=>exact nv h
  | succ b =>
   rw [F108_l0_s,F108_l0_b] at h
   refine sq <| nR K (tn 4) ?_
   refine cnd h ?_ ?_<;>intro h
   ·refine VW.skip <| sq <| VW.block ?_
    obtain⟨c,h⟩:=gS h
    refine nR K (pu 2 (an c (tn 4))) ?_
    refine cnd h ?_ ?_<;>intro h
    ·refine nR K (tn 2) ?_
     cases h;exact VW.ret (rt [])
    refine VW.skip <| nE K (tn 3) ?_
    exact aro [.ren [0,1,5] []] ⟨(wr (a+(1:Int))),rfl,h⟩
   refine VW.exit ?_
   exact arv [.ren [] []] ⟨rfl,h⟩
 rintro s ⟨rfl,h⟩
 unfold F108_j0 at h
 refine nR K (tn 1) ?_
 cases h;exact VW.ret (rt [])
end Go.Proofs.YtmkhmpcealeidaaGreat.Vc
