/- What functions of the program compute, and that they do. -/
import Derived.Test.YtmkhmpcealeidaaGreatYa
namespace Go.Proofs.YtmkhmpcealeidaaGreat.Vc
open Go Go.RowKit Go.Proofs.Tryz
set_option linter.unusedVariables false
set_option maxRecDepth 100000
set_option maxHeartbeats 4000000
def F164_j0 (N:Nat) (a:L1):Option (Int) :=
  gd (InR (0:Int) a.length) (gd ((0:Int).toNat < a.length) (some (a.getD ((0:Int).toNat) (Ty.dflt B0))))
def F164_j1 (N:Nat) (a:L1):Option (Int) :=
  some (a.length:Int)
def F164_l0_b (N:Nat) (b:L1) (c:L1) (d:Int→Option (Int)) (a:Int):Option (Int) :=
  cond (decide (a < (b.length:Int))) (gd (InR a b.length) (gd (InR (0:Int) c.length) (gd ((0:Int).toNat < c.length) (cond (decide ((b.getD a.toNat (Ty.dflt B0))≥(c.getD ((0:Int).toNat) (Ty.dflt B0)))) (some (-1:Int)) (d (IntKind.i64.wrap (a+(1:Int)))))))) (F164_j1 N b)
def F164_l0 (N:Nat) (a:L1) (b:L1):=loopF (F164_l0_b N a b) (fun _=>none)
theorem F164_l0_s {N a b k} (hk:0 < k:=by omega):F164_l0 N a b k=F164_l0_b N a b (F164_l0 N a b (k - 1)):=lS hk
def F164_j2 (N:Nat) (b:Int) (c:Int) (e:Int) (f:L1) (a:L1) (d:Bool):Option (Int) :=
  cond d (gd (InR (0:Int) a.length) (gd ((0:Int).toNat < a.length) (cond (decide (c≥(a.getD ((0:Int).toNat) (Ty.dflt B0)))) (some (-1:Int)) (F164_j0 N a)))) (cond (b == (2:Int)) (F164_l0 N f a N (0:Int)) (cond (b == (3:Int)) (gd (InR (0:Int) a.length) (gd ((0:Int).toNat < a.length) (cond (decide (c≥(a.getD ((0:Int).toNat) (Ty.dflt B0)))) (some (-1:Int)) (gd (InR (1:Int) a.length) (gd ((1:Int).toNat < a.length) (cond (decide (e≥(a.getD ((1:Int).toNat) (Ty.dflt B0)))) (some (-1:Int)) (gd (InR (0:Int) a.length) (gd ((0:Int).toNat < a.length) (gd (InR (1:Int) a.length) (gd ((1:Int).toNat < a.length) (cond (decide ((IntKind.i64.wrap ((a.getD ((0:Int).toNat) (Ty.dflt B0))+(a.getD ((1:Int).toNat) (Ty.dflt B0)))) > (64:Int))) (some (-1:Int)) (gd (InR (0:Int) a.length) (gd ((0:Int).toNat < a.length) (gd (InR (1:Int) a.length) (gd ((1:Int).toNat < a.length) (some (IntKind.i64.wrap ((a.getD ((0:Int).toNat) (Ty.dflt B0))+(a.getD ((1:Int).toNat) (Ty.dflt B0)))))))))))))))))))) (cond (b == (4:Int)) (gd (InR (0:Int) a.length) (gd ((0:Int).toNat < a.length) (gd (InR (1:Int) a.length) (gd ((1:Int).toNat < a.length) (cond ((a.getD ((0:Int).toNat) (Ty.dflt B0)) != (a.getD ((1:Int).toNat) (Ty.dflt B0))) (some (-1:Int)) (F164_j0 N a)))))) (F164_j0 N a))))
def F164_j3 (N:Nat) (a0:(List Z99)) (a:Int) (g:ByteArray) (c:Int) (h:Int) (d:Int) (i:Bool) (e:L1) (f:L1):Option (Int) :=
  cond (a == (0:Int)) (andO (F108 N a0 g) fun b=>cond (decide (b < (0:Int))) (some (-1:Int)) (gd (InR b a0.length) (some ((a0.getD b.toNat (Ty.dflt Y99)).2)))) (cond (a == (1:Int)) (F164_j2 N a c d e f (a == (1:Int))) (F164_j2 N a c d e f (a == (5:Int))))
def F164_l1_b (N:Nat) (a0:(List Z99)) (a1:(List Z50)) (self:(List Z99)→(List Z50)→Int→Option (Int)) (b:L1) (l:Int→ByteArray→Int→Int→Int→Bool→L1→L1→Int→Option (Int)) (e:Int) (f:ByteArray) (g:Int) (h:Int) (i:Int) (j:Bool) (k:L1) (c:L1) (a:Int):Option (Int) :=
  cond (decide (a < (b.length:Int))) (gd (InR a b.length) (gd (a.toNat < b.length) (andO (self a0 a1 (b.getD a.toNat (Ty.dflt B0))) fun d=>cond (decide (d < (0:Int))) (some (-1:Int)) (gd (c.length+([d]).length≤lim (.int .i64)) (l e f g h i j k (c++([d])) (IntKind.i64.wrap (a+(1:Int)))))))) (F164_j3 N a0 e f g h i j k c)
def F164_l1 (N:Nat) (a0:(List Z99)) (a1:(List Z50)) (self:(List Z99)→(List Z50)→Int→Option (Int)) (a:L1):=loopF (F164_l1_b N a0 a1 self a) (fun _ _ _ _ _ _ _ _ _=>none)
theorem F164_l1_s {N a0 a1} {self:(List Z99)→(List Z50)→Int→Option (Int)} {a k} (hk:0 < k:=by omega):F164_l1 N a0 a1 self a k=F164_l1_b N a0 a1 self a (F164_l1 N a0 a1 self a (k - 1)):=lS hk
def F164_b (N:Nat) (self:(List Z99)→(List Z50)→Int→Option (Int)) (a0:(List Z99)) (a1:(List Z50)) (a2:Int):Option (Int) :=
  gd (InR a2 a1.length) (andO (F74 N a1 a2) fun a=>F164_l1 N a0 a1 self a N ((a1.getD a2.toNat (Ty.dflt Y50)).1) ((a1.getD a2.toNat (Ty.dflt Y50)).2.1) ((a1.getD a2.toNat (Ty.dflt Y50)).2.2.1) ((a1.getD a2.toNat (Ty.dflt Y50)).2.2.2.1) ((a1.getD a2.toNat (Ty.dflt Y50)).2.2.2.2.1) ((a1.getD a2.toNat (Ty.dflt Y50)).2.2.2.2.2.1) ((a1.getD a2.toNat (Ty.dflt Y50)).2.2.2.2.2.2) ([]) (0:Int))
theorem ok164_b (N:Nat) (self:(List Z99)→(List Z50)→Int→Option (Int)) (ih:∀(a0:(List Z99)) (a1:(List Z50)) (a2:Int) (r:Int),self a0 a1 a2=some r→Con prog 164 [Vv (.sl Y99) a0,Vv (.sl Y50) a1,I a2] [.lf (.v B0 r)]) (a0:(List Z99)) (a1:(List Z50)) (a2:Int) {r:Int} (h:F164_b N self a0 a1 a2=some r):Con prog 164 [Vv (.sl Y99) a0,Vv (.sl Y50) a1,I a2] [.lf (.v B0 r)]:=by
 refine ctr [.lf (.v B0)] K func164 rfl fun w0 E0 ht=>?_
 unfold F164_b at h
 show VW _ _ _ _ _ (retQ _ _ _ _) _
 refine nR K (tn 1) ?_
 obtain⟨J,h⟩:=gS h
 refine nR K (pu 2 (an J (tn 3))) <| nR K (tn 2) <| sq <| VW.region <| nG K 2 (tn 2) ?_
 obtain⟨H,hy,h⟩:=aS h
 refine clc false [.t (.sl Y50), .t B0] [] (some 21) K (ok74 N _ _ hy) <| nN K (tn 1) ?_
 refine VW.join (fun s=>∃c g e i f j d a,s=⟨[(0,Vv (.sl Y99) a0),(7, .lf (.ptr 0 0 0 0)),(8,hh 1)],[bx [zi c,zs g,zi e,zi i,zi f,zb j, .v B1 d] 51,ar 0 B0 a .dp]⟩∧F164_j3 N a0 c g e i f j d a=some r) ?_ ?_
 ·refine nR K (tn 1) <| VW.block <| lop (fun k s=>∃l m n o p q u w y,s=⟨[(0,Vv (.sl Y99) a0),(1,Vv (.sl Y50) a1),(7, .lf (.ptr 0 0 0 0)),(8,hh 1),(9,hh 2),(10,I y)],[bx [zi l,zs m,zi n,zi o,zi p,zb q, .v B1 u] 51,ar 0 B0 w .dp,ar 0 B0 H .dp]⟩∧F164_l1 N a0 a1 self H k l m n o p q u w y=some r) N [.nilS 8 B0 .dp, .ren [0,1,7,8,9,10] [0,2,1]] ⟨(a1.getD a2.toNat D50).1,(a1.getD a2.toNat D50).2.1,(a1.getD a2.toNat D50).2.2.1,(a1.getD a2.toNat D50).2.2.2.1,(a1.getD a2.toNat D50).2.2.2.2.1,(a1.getD a2.toNat D50).2.2.2.2.2.1,(a1.getD a2.toNat D50).2.2.2.2.2.2,[],(0:Int),rfl,h⟩ ?_
  rintro G s ⟨l,m,n,o,p,q,u,w,y,rfl,h⟩
  cases G with
  | zero=>exact nv h
  | succ G =>
   rw [F164_l1_s,F164_l1_b] at h
   refine sq <| nR K (tn 4) ?_
   refine cnd h ?_ ?_<;>intro h
   ·refine VW.skip <| sq <| VW.block <| sq <| VW.region ?_
    obtain⟨a9,aa,h⟩:=gT h
    refine nG K 6 (pu 4 (an a9 (an aa (tn 0)))) ?_
    obtain⟨ac,hy,h⟩:=aS h
    refine clc false [.t (.sl Y99), .t (.sl Y50), .t B0] [] (some 34) K (ih _ _ _ _ hy) <| nN K (tn 1) <| sq <| nR K (tn 2) ?_
    refine cnd h ?_ ?_<;>intro h
    ·refine nR K (tn 1) ?_
     cases h;exact VW.ret (rt [])
    refine VW.skip ?_
    obtain⟨ab,h⟩:=gS h
    refine nE K (pu 3 (an ab (tn 1))) <| nE K (tn 3) ?_
    exact aro [.ren [0,1,7,8,9,10] [0,1,2]] ⟨l,m,n,o,p,q,u,(w++([ac])),(wr (y+(1:Int))),rfl,h⟩
   refine VW.exit ?_
   exact arv [.ren [0,7,8] [0,1]] ⟨l,m,n,o,p,q,u,w,rfl,h⟩
 rintro s ⟨c,g,e,i,f,j,d,a,rfl,h⟩
 unfold F164_j3 at h
 refine VW.join (fun s=>s=⟨[(8,hh 0)],[ar 0 B0 a .dp]⟩∧F164_j0 N a=some r) ?_ ?_
 ·refine nR K (tn 2) <| VW.block <| nR K (tn 2) ?_
  refine cnd h ?_ ?_<;>intro h
  ·refine sq <| VW.region <| nG K 3 (tn 3) ?_
   obtain⟨ad,hy,h⟩:=aS h
   refine clc false [.t (.sl Y99), .t .str] [] (some 48) K (ok108 N _ _ hy) <| nN K (tn 1) <| sq <| nR K (tn 2) ?_
   refine cnd h ?_ ?_<;>intro h
   ·refine nR K (tn 1) ?_
    cases h;exact VW.ret (rt [])
   refine VW.skip ?_
   obtain⟨O,h⟩:=gS h
   refine nR K (pu 2 (an O (tn 3))) ?_
   cases h;exact VW.ret (rt [])
  refine VW.join (fun s=>∃C,s=⟨[(7, .lf (.ptr 0 0 0 0)),(8,hh 1),(42,I c),(56,B C)],[bx [zi c,zs g,zi e,zi i,zi f,zb j, .v B1 d] 51,ar 0 B0 a .dp]⟩∧F164_j2 N c e f d a C=some r) ?_ ?_
  ·refine nR K (tn 2) ?_
   refine cnd h ?_ ?_<;>intro h
   ·refine VW.skip ?_
    exact arv [.ren [7,8,42,56] [0,1]] ⟨(c == (1:Int)),rfl,h⟩
   refine nE K (tn 2) ?_
   exact arv [.ren [7,8,42,56] [0,1]] ⟨(c == (5:Int)),rfl,h⟩
  rintro s ⟨C,rfl,h⟩
  unfold F164_j2 at h
  refine cnd h ?_ ?_<;>intro h
  ·refine sq ?_
   obtain⟨P,Q,h⟩:=gT h
   refine dr K [] [] [] [8,64] [1] (pu 3 (an P (an Q (tn 1)))) trivial ?_
   refine cnd h ?_ ?_<;>intro h
   ·refine nR K (tn 1) ?_
    cases h;exact VW.ret (rt [])
   refine VW.skip ?_
   exact arv [.ren [8] [0]] ⟨rfl,h⟩
  refine nR K (tn 2) ?_
  refine cnd h ?_ ?_<;>intro h
  ·refine VW.join (fun s=>s=⟨[(7, .lf (.ptr 0 0 0 0))],[bx [zi c,zs g,zi e,zi i,zi f,zb j, .v B1 d] 51]⟩∧F164_j1 N d=some r) ?_ ?_
   ·refine nR K (tn 1) <| VW.block <| lop (fun k s=>∃x,s=⟨[(7, .lf (.ptr 0 0 0 0)),(8,hh 1),(13,I x)],[bx [zi c,zs g,zi e,zi i,zi f,zb j, .v B1 d] 51,ar 0 B0 a .dp]⟩∧F164_l0 N d a k x=some r) N [.ren [7,8,13] [0,1]] ⟨(0:Int),rfl,h⟩ ?_
    rintro F s ⟨x,rfl,h⟩
    cases F with
    | zero=>exact nv h
    | succ F =>
     rw [F164_l0_s,F164_l0_b] at h
     refine sq <| nR K (tn 5) ?_
     refine cnd h ?_ ?_<;>intro h
     ·refine VW.skip <| sq <| VW.block <| sq ?_
      obtain⟨R,S,T,h⟩:=gU h
      refine dr K [] [] [] [7,8,13,82] [0,1] (pu 3 (an R (pu 2 (an S (an T (tn 1)))))) trivial ?_
      refine cnd h ?_ ?_<;>intro h
      ·refine nR K (tn 1) ?_
       cases h;exact VW.ret (rt [])
      refine VW.skip <| nE K (tn 3) ?_
      exact aro [.ren [7,8,13] [0,1]] ⟨(wr (x+(1:Int))),rfl,h⟩
     refine VW.exit ?_
     exact arv [.ren [7] [0]] ⟨rfl,h⟩
   rintro s ⟨rfl,h⟩
   unfold F164_j1 at h
   refine nR K (tn 4) ?_
   cases h;exact VW.ret (rt [])
  refine nR K (tn 2) ?_
  refine cnd h ?_ ?_<;>intro h
  ·refine sq <| sq ?_
   obtain⟨z,A,h⟩:=gT h
   rcases Bool.eq_false_or_eq_true (decide (e≥(a.getD ((0:Int).toNat) (Ty.dflt B0)))) with hb188 | hb188
   ·replace h:=cond_t h hb188
    refine dr K [(6, .lit true)] [(6,0)] [] [8,111] [1] (pu 3 (an z (an A (tn 19)))) ⟨qB 94 hb188 K trivial,trivial⟩ ?_
    refine VW.cond (b:=true) (by kernel_rfl) (fun _=>?_) (fun h'=>nomatch h')
    refine nR K (tn 1) ?_
    cases h;exact VW.ret (rt [])
   replace h:=cond_f h hb188
   obtain⟨D,E,h⟩:=gT h
   rcases Bool.eq_false_or_eq_true (decide (f≥(a.getD ((1:Int).toNat) (Ty.dflt B0)))) with hb191 | hb191
   ·replace h:=cond_t h hb191
    refine dr K [(6, .lit false),(14, .lit true)] [(6,0),(14,0)] [] [8,111] [1] (pu 3 (an z (an A (pu 5 (an D (an E (tn 12))))))) ⟨qB 94 hb188 K trivial,qB 102 hb191 K trivial,trivial⟩ ?_
    refine VW.cond (b:=true) (by kernel_rfl) (fun _=>?_) (fun h'=>nomatch h')
    refine nR K (tn 1) ?_
    cases h;exact VW.ret (rt [])
   replace h:=cond_f h hb191
   obtain⟨U,V,W,X,h⟩:=gV h
   refine dr K [(6, .lit false),(14, .lit false)] [(6,0),(14,0)] [] [8,111] [1] (pu 3 (an z (an A (pu 5 (an D (an E (pu 4 (an U (an V (pu 1 (an W (an X (tn 3))))))))))))) ⟨qB 94 hb188 K trivial,qB 102 hb191 K trivial,trivial⟩ ?_
   refine cnd h ?_ ?_<;>intro h
   ·refine nR K (tn 1) ?_
    cases h;exact VW.ret (rt [])
   refine VW.skip <| sq ?_
   obtain⟨Y,Z,a3,a4,h⟩:=gV h
   refine dr K [] [] [] [6] [] (pu 1 (an Y (an Z (pu 1 (an a3 (an a4 (tn 2))))))) trivial ?_
   cases h;exact VW.ret (rt [])
  refine nR K (tn 2) ?_
  refine cnd h ?_ ?_<;>intro h
  ·refine sq ?_
   obtain⟨a5,a6,a7,a8,h⟩:=gV h
   refine dr K [] [] [] [8,127] [1] (pu 1 (an a5 (an a6 (pu 1 (an a7 (an a8 (tn 1))))))) trivial ?_
   refine cnd h ?_ ?_<;>intro h
   ·refine nR K (tn 1) ?_
    cases h;exact VW.ret (rt [])
   refine VW.skip ?_
   exact arv [.ren [8] [0]] ⟨rfl,h⟩
  refine VW.skip ?_
  exact arv [.ren [8] [1]] ⟨rfl,h⟩
 rintro s ⟨rfl,h⟩
 unfold F164_j0 at h
 obtain⟨L,M,h⟩:=gT h
 refine nR K (pu 1 (an L (an M (tn 1)))) ?_
 cases h;exact VW.ret (rt [])
def F164_r (N:Nat):=loopF (F164_b N) (fun _ _ _=>none)
theorem F164_s {N k} (hk:0 < k:=by omega):F164_r N k=F164_b N (F164_r N (k - 1)):=lS hk
def F164 (N:Nat):(List Z99)→(List Z50)→Int→Option (Int):=F164_r N N
theorem ok164_k (N:Nat):∀(k:Nat) (a0:(List Z99)) (a1:(List Z50)) (a2:Int) (r:Int),loopF (F164_b N) (fun _ _ _=>none) k a0 a1 a2=some r→Con prog 164 [Vv (.sl Y99) a0,Vv (.sl Y50) a1,I a2] [.lf (.v B0 r)]
 | 0,a0,a1,a2,r,h=>nomatch (show (none:Option (Int))=some r from h)
 | k+1,a0,a1,a2,r,h=>ok164_b N _ (ok164_k N k) a0 a1 a2 h
theorem ok164 N a0 a1 a2 {r} (h:F164 N a0 a1 a2=some r):Con prog 164 [Vv (.sl Y99) a0,Vv (.sl Y50) a1,I a2] [.lf (.v B0 r)]:=ok164_k N N a0 a1 a2 r h
def F107 (N:Nat) (a0:(List Z99)) (a1:(List Z50)):Option (Int) :=
  andO (F105 N a0) fun a=>cond (!a) (some (-1:Int)) (andO (F54 N a1) fun b=>cond (!b) (some (-1:Int)) (andO (F164 N a0 a1 (0:Int)) fun c=>some c))
theorem ok107 N a0 a1 {r} (h:F107 N a0 a1=some r):Con prog 107 [Vv (.sl Y99) a0,Vv (.sl Y50) a1] [.lf (.v B0 r)]:=by
 refine ctr [.lf (.v B0)] K func107 rfl fun w0 E0 ht=>?_
 unfold F107 at h
 show VW _ _ _ _ _ (retQ _ _ _ _) _
 refine nR K (tn 1) <| sq <| sq <| VW.region <| nG K 1 (tn 1) ?_
 obtain⟨a,hy,h⟩:=aS h
 refine clc false [.t (.sl Y99)] [] (some 6) K (ok105 N _ hy) <| nG K 2 (tn 2) ?_
 refine spC 8 h ?_ ?_<;>intro h
 ·refine nN K (tn 4) ?_
  refine VW.cond (b:=true) (by kernel_rfl) (fun _=>?_) (fun h'=>nomatch h')
  refine nR K (tn 1) ?_
  cases h;exact VW.ret (rt [])
 refine nG K 1 (tn 1) <| VO.on (j:=3) (want:=false) (d:=8) (b:=false) rfl rfl rfl (by kernel_rfl) rfl ?_
 obtain⟨c,hy,h⟩:=aS h
 refine clc false [.t (.sl Y50)] [] (some 10) K (ok54 N _ hy) <| nN K (tn 2) ?_
 refine cnd h ?_ ?_<;>intro h
 ·refine nR K (tn 1) ?_
  cases h;exact VW.ret (rt [])
 refine VW.skip <| sq <| VW.region <| nG K 2 (tn 2) ?_
 obtain⟨e,hy,h⟩:=aS h
 refine clc false [.t (.sl Y99), .t (.sl Y50), .t B0] [] (some 15) K (ok164 N _ _ _ hy) <| nN K (tn 1) ?_
 cases h;exact VW.ret (rt [])
def F62 (N:Nat) (a0:(List Z99)) (a1:(List Z50)):Option (Bool) :=
  andO (F107 N a0 a1) fun a=>some (a != (-1:Int))
theorem ok62 N a0 a1 {r} (h:F62 N a0 a1=some r):Con prog 62 [Vv (.sl Y99) a0,Vv (.sl Y50) a1] [.lf (.v .bool r)]:=by
 refine ctr [.lf (.v .bool)] K func62 rfl fun w0 E0 ht=>?_
 unfold F62 at h
 show VW _ _ _ _ _ (retQ _ _ _ _) _
 refine nR K (tn 1) <| sq <| VW.region <| nG K 2 (tn 2) ?_
 obtain⟨a,hy,h⟩:=aS h
 refine clc false [.t (.sl Y99), .t (.sl Y50)] [] (some 7) K (ok107 N _ _ hy) <| nN K (tn 2) ?_
 cases h;exact VW.ret (rt [])
def F165 (N:Nat) (a0:Z50) (a1:Int):Option (Bool) :=
  cond (a1 == (-2000000:Int)) (some (a0.2.2.2.1 == (3:Int))) (cond (a0.2.2.2.1 == (0:Int)) (some (a1 == a0.2.2.2.2.1)) (cond (a0.2.2.2.1 == (1:Int)) (some (decide (a1 < a0.2.2.2.2.1))) (cond (a0.2.2.2.1 == (2:Int)) (some (decide (a1 > a0.2.2.2.2.1))) (some false))))
theorem ok165 N a0 a1 {r} (h:F165 N a0 a1=some r):Con prog 165 [.agg (lv Y50 a0),I a1] [.lf (.v .bool r)]:=by
 refine ctr [.lf (.v .bool)] K func165 rfl fun w0 E0 ht=>?_
 unfold F165 at h
 show VW _ _ _ _ _ (retQ _ _ _ _) _
 refine nR K (tn 2) <| sq <| nR K (tn 2) ?_
 refine cnd h ?_ ?_<;>intro h
 ·refine nR K (tn 4) ?_
  cases h;exact VW.ret (rt [])
 refine VW.skip <| sq <| nR K (tn 2) <| VW.block <| nR K (tn 2) ?_
 refine cnd h ?_ ?_<;>intro h
 ·refine nR K (tn 5) ?_
  cases h;exact VW.ret (rt [])
 refine nR K (tn 2) ?_
 refine cnd h ?_ ?_<;>intro h
 ·refine nR K (tn 5) ?_
  cases h;exact VW.ret (rt [])
 refine nR K (tn 2) ?_
 refine cnd h ?_ ?_<;>intro h
 ·refine nR K (tn 5) ?_
  cases h;exact VW.ret (rt [])
 refine VW.skip <| nR K (tn 1) ?_
 cases h;exact VW.ret (rt [])
def F109_j0 (N:Nat) (a:L2):Option (L2) :=
  some a
def F109_j1 (N:Nat) (a:Int→ByteArray→Int→Int→Int→Bool→L1→L2→Int→Option (L2)) (c:Int) (d:ByteArray) (e:Int) (f:Int) (g:Int) (h:Bool) (i:L1) (j:Int) (b:L2):Option (L2) :=
  a c d e f g h i b (IntKind.i64.wrap (j+(1:Int)))
def F109_l0_b (N:Nat) (a1:L2) (j:Int→ByteArray→Int→Int→Int→Bool→L1→L2→Int→Option (L2)) (d:Int) (e:ByteArray) (b:Int) (f:Int) (g:Int) (h:Bool) (i:L1) (c:L2) (a:Int):Option (L2) :=
  cond (decide (a < (a1.length:Int))) (gd (InR a a1.length) (gd (InR b (a1.getD a.toNat (Ty.dflt B1)).length) (andO (F165 N (d,(e,(b,(f,(g,(h,i)))))) ((a1.getD a.toNat (Ty.dflt B1)).getD b.toNat (Ty.dflt B0))) fun k=>cond k (gd (InR a a1.length) (gd (c.length+([(a1.getD a.toNat (Ty.dflt B1))]).length≤lim (.sl (.int .i64))) (F109_j1 N j d e b f g h i a (c++([(a1.getD a.toNat (Ty.dflt B1))]))))) (F109_j1 N j d e b f g h i a c)))) (F109_j0 N c)
def F109_l0 (N:Nat) (a1:L2):=loopF (F109_l0_b N a1) (fun _ _ _ _ _ _ _ _ _=>none)
theorem F109_l0_s {N a1 k} (hk:0 < k:=by omega):F109_l0 N a1 k=F109_l0_b N a1 (F109_l0 N a1 (k - 1)):=lS hk
def F109 (N:Nat) (a0:Z50) (a1:L2):Option (L2) :=
  F109_l0 N a1 N a0.1 a0.2.1 a0.2.2.1 a0.2.2.2.1 a0.2.2.2.2.1 a0.2.2.2.2.2.1 a0.2.2.2.2.2.2 ([]) (0:Int)
theorem ok109 N a0 a1 {r} (h:F109 N a0 a1=some r):Con prog 109 [.agg (lv Y50 a0),Vv B2 a1] [.lf (.own B1 r .tp)]:=by
 refine ctr [.lf (.own B1 .tp)] K func109 rfl fun w0 E0 ht=>?_
 unfold F109 at h
 show VW _ _ _ _ _ (retQ _ _ _ _) _
 refine nR K (tn 2) <| nR K (tn 2) ?_
 refine VW.join (fun s=>∃n,s=⟨[(5,hh 0)],[ar 0 B1 n .tp]⟩∧F109_j0 N n=some r) ?_ ?_
 ·refine nR K (tn 1) <| VW.block <| lop (fun k s=>∃b c d e f g i j a,s=⟨[(1,Vv B2 a1),(2, .lf (.ptr 0 0 0 0)),(5,hh 1),(6,I a)],[bx [zi b,zs c,zi d,zi e,zi f,zb g, .v B1 i] 51,ar 0 B1 j .tp]⟩∧F109_l0 N a1 k b c d e f g i j a=some r) N [.nilS 5 B1 .tp, .ren [1,2,5,6] [0,1]] ⟨a0.1,a0.2.1,a0.2.2.1,a0.2.2.2.1,a0.2.2.2.2.1,a0.2.2.2.2.2.1,a0.2.2.2.2.2.2,[],(0:Int),rfl,h⟩ ?_
  rintro m s ⟨b,c,d,e,f,g,i,j,a,rfl,h⟩
  cases m with
  | zero=>exact nv h
  | succ m =>
   rw [F109_l0_s,F109_l0_b] at h
   refine sq <| nR K (tn 4) ?_
   refine cnd h ?_ ?_<;>intro h
   ·refine VW.skip ?_
    refine VW.join (fun s=>∃l,s=⟨[(1,Vv B2 a1),(2, .lf (.ptr 0 0 0 0)),(5,hh 1),(6,I a)],[bx [zi b,zs c,zi d,zi e,zi f,zb g, .v B1 i] 51,ar 0 B1 l .tp]⟩∧F109_j1 N (F109_l0 N a1 m) b c d e f g i a l=some r) ?_ ?_
    ·refine VW.block <| sq ?_
     obtain⟨o,p,h⟩:=gT h
     obtain⟨w,hy106,h⟩:=aS h
     refine dr K [(9, .cl [] (some 23) [.lf (.v .bool w)])] [(9,0)] [] [1,2,5,6,23] [0,1] (pu 3 (an o (pu 3 (an p (tn 2))))) ⟨qC false [.t Y50, .t B0] [] [] (some 23) K (ok165 N _ _ hy106),trivial⟩ ?_
     refine cnd h ?_ ?_<;>intro h
     ·obtain⟨q,u,h⟩:=gT h
      refine nE K (pu 3 (an q (pu 2 (an u (tn 1))))) ?_
      exact arv [.ren [1,2,5,6] [0,1]] ⟨(j++([(a1.getD a.toNat (Ty.dflt B1))])),rfl,h⟩
     refine VW.skip ?_
     exact arv [.ren [1,2,5,6] [0,1]] ⟨j,rfl,h⟩
    rintro s ⟨l,rfl,h⟩
    unfold F109_j1 at h
    refine nE K (tn 3) ?_
    exact aro [.ren [1,2,5,6] [0,1]] ⟨b,c,d,e,f,g,i,l,(wr (a+(1:Int))),rfl,h⟩
   refine VW.exit ?_
   exact arv [.ren [5] [1]] ⟨j,rfl,h⟩
 rintro s ⟨n,rfl,h⟩
 unfold F109_j0 at h
 refine nR K (tn 2) ?_
 cases h;exact VW.ret (rt [some 0])
def F110_j0 (N:Nat) (a:L2):Option (L2) :=
  some a
def F110_j1 (N:Nat) (a:Int→ByteArray→Int→Int→Int→Bool→L1→L2→Int→Option (L2)) (b:Int) (c:ByteArray) (d:Int) (e:Int) (f:Int) (g:Bool) (h:L1) (i:Int) (j:L2):Option (L2) :=
  a b c d e f g h j (IntKind.i64.wrap (i+(1:Int)))
def F110_j2 (N:Nat) (c:Int→ByteArray→Int→Int→Int→Bool→L1→L2→Int→Option (L2)) (d:Int) (e:ByteArray) (f:Int) (g:Int) (h:Int) (i:Bool) (j:L1) (a:L2) (k:Int) (b:L1):Option (L2) :=
  gd (a.length+([b]).length≤lim (.sl (.int .i64))) (F110_j1 N c d e f g h i j k (a++([b])))
def F110_l0_b (N:Nat) (a1:L2) (e:Int→ByteArray→Int→Int→Int→Bool→L1→L2→Int→Option (L2)) (g:Int) (h:ByteArray) (i:Int) (j:Int) (k:Int) (l:Bool) (a:L1) (m:L2) (c:Int) (f:L1→Int→Option (L2)) (d:L1) (b:Int):Option (L2) :=
  cond (decide (b < (a.length:Int))) (gd (InR c a1.length) (gd (InR b a.length) (gd (InR (a.getD b.toNat (Ty.dflt B0)) (a1.getD c.toNat (Ty.dflt B1)).length) (gd (d.length+([((a1.getD c.toNat (Ty.dflt B1)).getD (a.getD b.toNat (Ty.dflt B0)).toNat (Ty.dflt B0))]).length≤lim (.int .i64)) (f (d++([((a1.getD c.toNat (Ty.dflt B1)).getD (a.getD b.toNat (Ty.dflt B0)).toNat (Ty.dflt B0))])) (IntKind.i64.wrap (b+(1:Int)))))))) (F110_j2 N e g h i j k l a m c d)
def F110_l0 (N:Nat) (a1:L2) (a:Int→ByteArray→Int→Int→Int→Bool→L1→L2→Int→Option (L2)) (b:Int) (c:ByteArray) (d:Int) (e:Int) (f:Int) (g:Bool) (h:L1) (i:L2) (j:Int):=loopF (F110_l0_b N a1 a b c d e f g h i j) (fun _ _=>none)
theorem F110_l0_s {N a1 a b c d e f g h i j k} (hk:0 < k:=by omega):F110_l0 N a1 a b c d e f g h i j k=F110_l0_b N a1 a b c d e f g h i j (F110_l0 N a1 a b c d e f g h i j (k - 1)):=lS hk
def F110_l1_b (N:Nat) (a1:L2) (c:Int→ByteArray→Int→Int→Int→Bool→L1→L2→Int→Option (L2)) (d:Int) (e:ByteArray) (f:Int) (g:Int) (h:Int) (i:Bool) (j:L1) (a:L2) (b:Int):Option (L2) :=
  cond (decide (b < (a1.length:Int))) (F110_l0 N a1 c d e f g h i j a b N ([]) (0:Int)) (F110_j0 N a)
def F110_l1 (N:Nat) (a1:L2):=loopF (F110_l1_b N a1) (fun _ _ _ _ _ _ _ _ _=>none)
theorem F110_l1_s {N a1 k} (hk:0 < k:=by omega):F110_l1 N a1 k=F110_l1_b N a1 (F110_l1 N a1 (k - 1)):=lS hk
def F110 (N:Nat) (a0:Z50) (a1:L2):Option (L2) :=
  F110_l1 N a1 N a0.1 a0.2.1 a0.2.2.1 a0.2.2.2.1 a0.2.2.2.2.1 a0.2.2.2.2.2.1 a0.2.2.2.2.2.2 ([]) (0:Int)
theorem ok110 N a0 a1 {r} (h:F110 N a0 a1=some r):Con prog 110 [.agg (lv Y50 a0),Vv B2 a1] [.lf (.own B1 r .dp)]:=by
 refine ctr [.lf (.own B1 .dp)] K func110 rfl fun w0 E0 ht=>?_
 unfold F110 at h
 show VW _ _ _ _ _ (retQ _ _ _ _) _
 refine nR K (tn 2) <| nR K (tn 2) ?_
 refine VW.join (fun s=>∃t,s=⟨[(5,hh 0)],[ar 0 B1 t .dp]⟩∧F110_j0 N t=some r) ?_ ?_
 ·refine nR K (tn 1) <| VW.block <| lop (fun k s=>∃b c e f g i a j l,s=⟨[(1,Vv B2 a1),(2, .lf (.ptr 0 0 0 0)),(5,hh 1),(6,I l)],[bx [zi b,zs c,zi e,zi f,zi g,zb i, .v B1 a] 51,ar 0 B1 j .dp]⟩∧F110_l1 N a1 k b c e f g i a j l=some r) N [.nilS 5 B1 .dp, .ren [1,2,5,6] [0,1]] ⟨a0.1,a0.2.1,a0.2.2.1,a0.2.2.2.1,a0.2.2.2.2.1,a0.2.2.2.2.2.1,a0.2.2.2.2.2.2,[],(0:Int),rfl,h⟩ ?_
  rintro n s ⟨b,c,e,f,g,i,a,j,l,rfl,h⟩
  cases n with
  | zero=>exact nv h
  | succ n =>
   rw [F110_l1_s,F110_l1_b] at h
   refine sq <| nR K (tn 4) ?_
   refine cnd h ?_ ?_<;>intro h
   ·refine VW.skip ?_
    refine VW.join (fun s=>∃q,s=⟨[(1,Vv B2 a1),(2, .lf (.ptr 0 0 0 0)),(5,hh 1),(6,I l)],[bx [zi b,zs c,zi e,zi f,zi g,zb i, .v B1 a] 51,ar 0 B1 q .dp]⟩∧F110_j1 N (F110_l1 N a1 n) b c e f g i a l q=some r) ?_ ?_
    ·refine VW.block <| nR K (tn 2) ?_
     refine VW.join (fun s=>∃m,s=⟨[(1,Vv B2 a1),(2, .lf (.ptr 0 0 0 0)),(5,hh 1),(6,I l),(7,hh 2)],[bx [zi b,zs c,zi e,zi f,zi g,zb i, .v B1 a] 51,ar 0 B1 j .dp,ar 0 B0 m .dp]⟩∧F110_j2 N (F110_l1 N a1 n) b c e f g i a j l m=some r) ?_ ?_
     ·refine nR K (tn 1) <| VW.block <| lop (fun k s=>∃o p,s=⟨[(1,Vv B2 a1),(2, .lf (.ptr 0 0 0 0)),(5,hh 1),(6,I l),(7,hh 2),(8,I p)],[bx [zi b,zs c,zi e,zi f,zi g,zb i, .v B1 a] 51,ar 0 B1 j .dp,ar 0 B0 o .dp]⟩∧F110_l0 N a1 (F110_l1 N a1 n) b c e f g i a j l k o p=some r) N [.nilS 7 B0 .dp, .ren [1,2,5,6,7,8] [0,1,2]] ⟨[],(0:Int),rfl,h⟩ ?_
      rintro u s ⟨o,p,rfl,h⟩
      cases u with
      | zero=>exact nv h
      | succ u =>
       rw [F110_l0_s,F110_l0_b] at h
       refine sq <| nR K (tn 5) ?_
       refine cnd h ?_ ?_<;>intro h
       ·refine VW.skip <| sq <| VW.block ?_
        obtain⟨x,y,z,A,h⟩:=gV h
        refine dr K [] [] [12,13] [1,2,5,6,7,8] [0,1,2] (pu 3 (an x (pu 4 (an y (pu 1 (an z (pu 2 (an A (tn 1))))))))) trivial <| nE K (tn 3) ?_
        exact aro [.ren [1,2,5,6,7,8] [0,1,2]] ⟨(o++([((a1.getD l.toNat (Ty.dflt B1)).getD (a.getD p.toNat (Ty.dflt B0)).toNat (Ty.dflt B0))])),(wr (p+(1:Int))),rfl,h⟩
       refine VW.exit ?_
       exact arv [.ren [1,2,5,6,7] [0,1,2]] ⟨o,rfl,h⟩
     rintro s ⟨m,rfl,h⟩
     unfold F110_j2 at h
     refine VW.region <| nG K 2 (tn 2) <| VO.litA (d:=40) (v:=hh 3) (H':=[bx [zi b,zs c,zi e,zi f,zi g,zb i, .v B1 a] 51,ar 0 B1 j .dp,none,ar 0 B1 ([m]) .dp]) K (by kernel_rfl) ?_
     obtain⟨w,h⟩:=gS h
     refine VO.appM (d:=41) (φ:=j.length+([m]).length≤lim (.sl (.int .i64))) (v:= .lf (.hd 1 1 none)) (H':=[bx [zi b,zs c,zi e,zi f,zi g,zb i, .v B1 a] 51,ar 1 B1 (j++([m])) .dp,none,none]) K (by kernel_rfl) w <| nN K (tn 1) ?_
     exact arv [.ren [1,2,5,6] [0,1]] ⟨(j++([m])),rfl,h⟩
    rintro s ⟨q,rfl,h⟩
    unfold F110_j1 at h
    refine nE K (tn 3) ?_
    exact aro [.ren [1,2,5,6] [0,1]] ⟨b,c,e,f,g,i,a,q,(wr (l+(1:Int))),rfl,h⟩
   refine VW.exit ?_
   exact arv [.ren [5] [1]] ⟨j,rfl,h⟩
 rintro s ⟨t,rfl,h⟩
 unfold F110_j0 at h
 refine nR K (tn 2) ?_
 cases h;exact VW.ret (rt [some 0])
def F111_j0 (N:Nat) (a:L2):Option (L2) :=
  some a
def F111_j1 (N:Nat) (a:Int→ByteArray→Int→Int→Int→Bool→L1→L2→Int→Option (L2)) (b:Int) (c:ByteArray) (d:Int) (e:Int) (f:Int) (g:Bool) (h:L1) (i:Int) (j:L2):Option (L2) :=
  a b c d e f g h j (IntKind.i64.wrap (i+(1:Int)))
def F111_j2 (N:Nat) (a:L2→Int→Option (L2)) (b:Int) (c:L2):Option (L2) :=
  a c (IntKind.i64.wrap (b+(1:Int)))
def F111_j3 (N:Nat) (c:L2→Int→Option (L2)) (a:L2) (d:Int) (b:L1):Option (L2) :=
  gd (a.length+([b]).length≤lim (.sl (.int .i64))) (F111_j2 N c d (a++([b])))
def F111_l0_b (N:Nat) (a2:L2) (d:L2→Int→Option (L2)) (f:L2) (a:Int) (e:L1→Int→Option (L2)) (c:L1) (b:Int):Option (L2) :=
  gd (InR a a2.length) (cond (decide (b < ((a2.getD a.toNat (Ty.dflt B1)).length:Int))) (gd (InR a a2.length) (gd (InR b (a2.getD a.toNat (Ty.dflt B1)).length) (gd (c.length+([((a2.getD a.toNat (Ty.dflt B1)).getD b.toNat (Ty.dflt B0))]).length≤lim (.int .i64)) (e (c++([((a2.getD a.toNat (Ty.dflt B1)).getD b.toNat (Ty.dflt B0))])) (IntKind.i64.wrap (b+(1:Int))))))) (F111_j3 N d f a c))
def F111_l0 (N:Nat) (a2:L2) (a:L2→Int→Option (L2)) (b:L2) (c:Int):=loopF (F111_l0_b N a2 a b c) (fun _ _=>none)
theorem F111_l0_s {N a2 a b c k} (hk:0 < k:=by omega):F111_l0 N a2 a b c k=F111_l0_b N a2 a b c (F111_l0 N a2 a b c (k - 1)):=lS hk
def F111_l1_b (N:Nat) (a1:L2) (a2:L2) (g:Int→ByteArray→Int→Int→Int→Bool→L1→L2→Int→Option (L2)) (h:Int) (i:ByteArray) (c:Int) (j:Int) (f:Int) (k:Bool) (l:L1) (a:Int) (e:L2→Int→Option (L2)) (d:L2) (b:Int):Option (L2) :=
  cond (decide (b < (a2.length:Int))) (gd (InR a a1.length) (gd (InR c (a1.getD a.toNat (Ty.dflt B1)).length) (cond (((a1.getD a.toNat (Ty.dflt B1)).getD c.toNat (Ty.dflt B0)) == (-2000000:Int)) (F111_j2 N e b d) (gd (InR b a2.length) (gd (InR f (a2.getD b.toNat (Ty.dflt B1)).length) (cond (((a1.getD a.toNat (Ty.dflt B1)).getD c.toNat (Ty.dflt B0)) != ((a2.getD b.toNat (Ty.dflt B1)).getD f.toNat (Ty.dflt B0))) (F111_j2 N e b d) (gd (InR a a1.length) (andO (F78 N (a1.getD a.toNat (Ty.dflt B1))) fun m=>F111_l0 N a2 e d b N m (0:Int))))))))) (F111_j1 N g h i c j f k l a d)
def F111_l1 (N:Nat) (a1:L2) (a2:L2) (a:Int→ByteArray→Int→Int→Int→Bool→L1→L2→Int→Option (L2)) (b:Int) (c:ByteArray) (d:Int) (e:Int) (f:Int) (g:Bool) (h:L1) (i:Int):=loopF (F111_l1_b N a1 a2 a b c d e f g h i) (fun _ _=>none)
theorem F111_l1_s {N a1 a2 a b c d e f g h i k} (hk:0 < k:=by omega):F111_l1 N a1 a2 a b c d e f g h i k=F111_l1_b N a1 a2 a b c d e f g h i (F111_l1 N a1 a2 a b c d e f g h i (k - 1)):=lS hk
def F111_l2_b (N:Nat) (a1:L2) (a2:L2) (c:Int→ByteArray→Int→Int→Int→Bool→L1→L2→Int→Option (L2)) (d:Int) (e:ByteArray) (f:Int) (g:Int) (h:Int) (i:Bool) (j:L1) (a:L2) (b:Int):Option (L2) :=
  cond (decide (b < (a1.length:Int))) (F111_l1 N a1 a2 c d e f g h i j b N a (0:Int)) (F111_j0 N a)
def F111_l2 (N:Nat) (a1:L2) (a2:L2):=loopF (F111_l2_b N a1 a2) (fun _ _ _ _ _ _ _ _ _=>none)
theorem F111_l2_s {N a1 a2 k} (hk:0 < k:=by omega):F111_l2 N a1 a2 k=F111_l2_b N a1 a2 (F111_l2 N a1 a2 (k - 1)):=lS hk
def F111 (N:Nat) (a0:Z50) (a1:L2) (a2:L2):Option (L2) :=
  F111_l2 N a1 a2 N a0.1 a0.2.1 a0.2.2.1 a0.2.2.2.1 a0.2.2.2.2.1 a0.2.2.2.2.2.1 a0.2.2.2.2.2.2 ([]) (0:Int)
theorem ok111 N a0 a1 a2 {r} (h:F111 N a0 a1 a2=some r):Con prog 111 [.agg (lv Y50 a0),Vv B2 a1,Vv B2 a2] [.lf (.own B1 r .dp)]:=by
 refine ctr [.lf (.own B1 .dp)] K func111 rfl fun w0 E0 ht=>?_
 unfold F111 at h
 show VW _ _ _ _ _ (retQ _ _ _ _) _
 refine nR K (tn 2) <| nR K (tn 2) ?_
 refine VW.join (fun s=>∃A,s=⟨[(7,hh 0)],[ar 0 B1 A .dp]⟩∧F111_j0 N A=some r) ?_ ?_
 ·refine nR K (tn 1) <| VW.block <| lop (fun k s=>∃c e a f g i j u l,s=⟨[(1,Vv B2 a1),(2,Vv B2 a2),(3, .lf (.ptr 0 0 0 0)),(7,hh 1),(8,I l)],[bx [zi c,zs e,zi a,zi f,zi g,zb i, .v B1 j] 51,ar 0 B1 u .dp]⟩∧F111_l2 N a1 a2 k c e a f g i j u l=some r) N [.nilS 7 B1 .dp, .ren [1,2,3,7,8] [0,1]] ⟨a0.1,a0.2.1,a0.2.2.1,a0.2.2.2.1,a0.2.2.2.2.1,a0.2.2.2.2.2.1,a0.2.2.2.2.2.2,[],(0:Int),rfl,h⟩ ?_
  rintro o s ⟨c,e,a,f,g,i,j,u,l,rfl,h⟩
  cases o with
  | zero=>exact nv h
  | succ o =>
   rw [F111_l2_s,F111_l2_b] at h
   refine sq <| nR K (tn 4) ?_
   refine cnd h ?_ ?_<;>intro h
   ·refine VW.skip ?_
    refine VW.join (fun s=>∃y,s=⟨[(1,Vv B2 a1),(2,Vv B2 a2),(3, .lf (.ptr 0 0 0 0)),(7,hh 1),(8,I l)],[bx [zi c,zs e,zi a,zi f,zi g,zb i, .v B1 j] 51,ar 0 B1 y .dp]⟩∧F111_j1 N (F111_l2 N a1 a2 o) c e a f g i j l y=some r) ?_ ?_
    ·refine VW.block <| nR K (tn 1) <| VW.block <| lop (fun k s=>∃m n,s=⟨[(1,Vv B2 a1),(2,Vv B2 a2),(3, .lf (.ptr 0 0 0 0)),(7,hh 1),(8,I l),(9,I n)],[bx [zi c,zs e,zi a,zi f,zi g,zb i, .v B1 j] 51,ar 0 B1 m .dp]⟩∧F111_l1 N a1 a2 (F111_l2 N a1 a2 o) c e a f g i j l k m n=some r) N [.ren [1,2,3,7,8,9] [0,1]] ⟨u,(0:Int),rfl,h⟩ ?_
     rintro q s ⟨m,n,rfl,h⟩
     cases q with
     | zero=>exact nv h
     | succ q =>
      rw [F111_l1_s,F111_l1_b] at h
      refine sq <| nR K (tn 4) ?_
      refine cnd h ?_ ?_<;>intro h
      ·refine VW.skip ?_
       refine VW.join (fun s=>∃z,s=⟨[(1,Vv B2 a1),(2,Vv B2 a2),(3, .lf (.ptr 0 0 0 0)),(7,hh 1),(8,I l),(9,I n)],[bx [zi c,zs e,zi a,zi f,zi g,zb i, .v B1 j] 51,ar 0 B1 z .dp]⟩∧F111_j2 N (F111_l1 N a1 a2 (F111_l2 N a1 a2 o) c e a f g i j l q) n z=some r) ?_ ?_
       ·refine VW.block <| sq ?_
        obtain⟨C,D,h⟩:=gT h
        refine dr K [] [] [] [1,2,3,7,8,9,10] [0,1] (pu 2 (an C (pu 3 (an D (tn 2))))) trivial <| sq <| sq ?_
        rcases Bool.eq_false_or_eq_true (((a1.getD l.toNat (Ty.dflt B1)).getD a.toNat (Ty.dflt B0)) == (-2000000:Int)) with hb4919 | hb4919
        ·replace h:=cond_t h hb4919
         refine dr K [(2, .lit true)] [(2,0)] [] [1,2,3,7,8,9,47] [0,1] (tn 14) ⟨qB 36 hb4919 K trivial,trivial⟩ ?_
         refine VW.cond (b:=true) (by kernel_rfl) (fun _=>?_) (fun h'=>nomatch h')
         refine VW.exit ?_
         exact arv [.ren [1,2,3,7,8,9] [0,1]] ⟨m,rfl,h⟩
        replace h:=cond_f h hb4919
        obtain⟨E,F,h⟩:=gT h
        refine dr K [(2, .lit false)] [(2,0)] [] [1,2,3,7,8,9,47] [0,1] (pu 6 (an E (pu 3 (an F (tn 3))))) ⟨qB 36 hb4919 K trivial,trivial⟩ ?_
        refine cnd h ?_ ?_<;>intro h
        ·refine VW.exit ?_
         exact arv [.ren [1,2,3,7,8,9] [0,1]] ⟨m,rfl,h⟩
        refine VW.skip <| sq <| VW.region ?_
        obtain⟨G,h⟩:=gS h
        refine nG K 4 (pu 2 (an G (tn 1))) ?_
        obtain⟨P,hy,h⟩:=aS h
        refine clc false [.t B1] [] (some 52) K (ok78 N _ hy) <| nN K (tn 1) ?_
        refine VW.join (fun s=>∃p,s=⟨[(1,Vv B2 a1),(2,Vv B2 a2),(3, .lf (.ptr 0 0 0 0)),(7,hh 1),(8,I l),(9,I n),(11,hh 2)],[bx [zi c,zs e,zi a,zi f,zi g,zb i, .v B1 j] 51,ar 0 B1 m .dp,ar 0 B0 p .dp]⟩∧F111_j3 N (F111_l1 N a1 a2 (F111_l2 N a1 a2 o) c e a f g i j l q) m n p=some r) ?_ ?_
        ·refine nR K (tn 1) <| VW.block <| lop (fun k s=>∃w x,s=⟨[(1,Vv B2 a1),(2,Vv B2 a2),(3, .lf (.ptr 0 0 0 0)),(7,hh 1),(8,I l),(9,I n),(11,hh 2),(12,I x)],[bx [zi c,zs e,zi a,zi f,zi g,zb i, .v B1 j] 51,ar 0 B1 m .dp,ar 0 B0 w .dp]⟩∧F111_l0 N a2 (F111_l1 N a1 a2 (F111_l2 N a1 a2 o) c e a f g i j l q) m n k w x=some r) N [.ren [1,2,3,7,8,9,11,12] [0,1,2]] ⟨P,(0:Int),rfl,h⟩ ?_
         rintro B s ⟨w,x,rfl,h⟩
         cases B with
         | zero=>exact nv h
         | succ B =>
          rw [F111_l0_s,F111_l0_b] at h
          refine sq ?_
          obtain⟨J,h⟩:=gS h
          refine nR K (pu 3 (an J (tn 3))) ?_
          refine cnd h ?_ ?_<;>intro h
          ·refine VW.skip <| sq <| VW.block ?_
           obtain⟨L,M,O,h⟩:=gU h
           refine nE K (pu 3 (an L (pu 2 (an M (pu 2 (an O (tn 1))))))) <| nE K (tn 3) ?_
           exact aro [.ren [1,2,3,7,8,9,11,12] [0,1,2]] ⟨(w++([((a2.getD n.toNat (Ty.dflt B1)).getD x.toNat (Ty.dflt B0))])),(wr (x+(1:Int))),rfl,h⟩
          refine VW.exit ?_
          exact arv [.ren [1,2,3,7,8,9,11] [0,1,2]] ⟨w,rfl,h⟩
        rintro s ⟨p,rfl,h⟩
        unfold F111_j3 at h
        refine VW.region <| nG K 2 (tn 2) <| VO.litA (d:=74) (v:=hh 3) (H':=[bx [zi c,zs e,zi a,zi f,zi g,zb i, .v B1 j] 51,ar 0 B1 m .dp,none,ar 0 B1 ([p]) .dp]) K (by kernel_rfl) ?_
        obtain⟨H,h⟩:=gS h
        refine VO.appM (d:=75) (φ:=m.length+([p]).length≤lim (.sl (.int .i64))) (v:= .lf (.hd 1 1 none)) (H':=[bx [zi c,zs e,zi a,zi f,zi g,zb i, .v B1 j] 51,ar 1 B1 (m++([p])) .dp,none,none]) K (by kernel_rfl) H <| nN K (tn 1) ?_
        exact arv [.ren [1,2,3,7,8,9] [0,1]] ⟨(m++([p])),rfl,h⟩
       rintro s ⟨z,rfl,h⟩
       unfold F111_j2 at h
       refine nE K (tn 3) ?_
       exact aro [.ren [1,2,3,7,8,9] [0,1]] ⟨z,(wr (n+(1:Int))),rfl,h⟩
      refine VW.exit ?_
      exact arv [.ren [1,2,3,7,8] [0,1]] ⟨m,rfl,h⟩
    rintro s ⟨y,rfl,h⟩
    unfold F111_j1 at h
    refine nE K (tn 3) ?_
    exact aro [.ren [1,2,3,7,8] [0,1]] ⟨c,e,a,f,g,i,j,y,(wr (l+(1:Int))),rfl,h⟩
   refine VW.exit ?_
   exact arv [.ren [7] [1]] ⟨u,rfl,h⟩
 rintro s ⟨A,rfl,h⟩
 unfold F111_j0 at h
 refine nR K (tn 2) ?_
 cases h;exact VW.ret (rt [some 0])
def F112_j0 (N:Nat) (a:L2):Option (L2) :=
  some a
def F112_j1 (N:Nat) (a:Int→ByteArray→Int→Int→Int→Bool→L1→L2→Int→Option (L2)) (b:Int) (c:ByteArray) (d:Int) (e:Int) (f:Int) (g:Bool) (h:L1) (i:Int) (j:L2):Option (L2) :=
  a b c d e f g h j (IntKind.i64.wrap (i+(1:Int)))
def F112_j2 (N:Nat) (a:Int→ByteArray→Int→Int→Int→Bool→L1→L2→Int→Option (L2)) (b:Int) (c:ByteArray) (d:Int) (e:Int) (f:Int) (g:Bool) (h:L1) (i:Int) (j:L2):Option (L2) :=
  F112_j1 N a b c d e f g h i j
def F112_j3 (N:Nat) (a1:L2) (c:Int→ByteArray→Int→Int→Int→Bool→L1→L2→Int→Option (L2)) (d:Int) (e:ByteArray) (f:Int) (g:Int) (h:Int) (i:Bool) (j:L1) (a:Int) (b:L2) (k:Bool):Option (L2) :=
  cond (!k) (gd (InR a a1.length) (gd (b.length+([(a1.getD a.toNat (Ty.dflt B1))]).length≤lim (.sl (.int .i64))) (F112_j2 N c d e f g h i j a (b++([(a1.getD a.toNat (Ty.dflt B1))]))))) (F112_j2 N c d e f g h i j a b)
def F112_j4 (N:Nat) (d:L2→Bool→Int→Option (L2)) (b:L2) (a:Int) (c:L2) (e:Bool):Option (L2) :=
  gd (InR a b.length) (gd (a.toNat < b.length) (gd (c.length+([(b.getD a.toNat (Ty.dflt B1))]).length≤lim (.sl (.int .i64))) (d (c++([(b.getD a.toNat (Ty.dflt B1))])) e (IntKind.i64.wrap (a+(1:Int))))))
def F112_l0_b (N:Nat) (a1:L2) (h:Int→ByteArray→Int→Int→Int→Bool→L1→L2→Int→Option (L2)) (i:Int) (j:ByteArray) (d:Int) (k:Int) (l:Int) (m:Bool) (n:L1) (a:L2) (c:Int) (g:L2→Bool→Int→Option (L2)) (e:L2) (f:Bool) (b:Int):Option (L2) :=
  cond (decide (b < (a.length:Int))) (cond (!f) (gd (InR c a1.length) (gd (InR d (a1.getD c.toNat (Ty.dflt B1)).length) (gd (InR b a.length) (gd (b.toNat < a.length) (gd (InR d (a.getD b.toNat (Ty.dflt B1)).length) (cond (decide (((a1.getD c.toNat (Ty.dflt B1)).getD d.toNat (Ty.dflt B0)) < ((a.getD b.toNat (Ty.dflt B1)).getD d.toNat (Ty.dflt B0)))) (gd (InR c a1.length) (gd (e.length+([(a1.getD c.toNat (Ty.dflt B1))]).length≤lim (.sl (.int .i64))) (F112_j4 N g a b (e++([(a1.getD c.toNat (Ty.dflt B1))])) true))) (F112_j4 N g a b e f))))))) (F112_j4 N g a b e f)) (F112_j3 N a1 h i j d k l m n c e f)
def F112_l0 (N:Nat) (a1:L2) (a:Int→ByteArray→Int→Int→Int→Bool→L1→L2→Int→Option (L2)) (b:Int) (c:ByteArray) (d:Int) (e:Int) (f:Int) (g:Bool) (h:L1) (i:L2) (j:Int):=loopF (F112_l0_b N a1 a b c d e f g h i j) (fun _ _ _=>none)
theorem F112_l0_s {N a1 a b c d e f g h i j k} (hk:0 < k:=by omega):F112_l0 N a1 a b c d e f g h i j k=F112_l0_b N a1 a b c d e f g h i j (F112_l0 N a1 a b c d e f g h i j (k - 1)):=lS hk
def F112_l1_b (N:Nat) (a1:L2) (c:Int→ByteArray→Int→Int→Int→Bool→L1→L2→Int→Option (L2)) (d:Int) (e:ByteArray) (f:Int) (g:Int) (h:Int) (i:Bool) (j:L1) (a:L2) (b:Int):Option (L2) :=
  cond (decide (b < (a1.length:Int))) (F112_l0 N a1 c d e f g h i j a b N ([]) false (0:Int)) (F112_j0 N a)
def F112_l1 (N:Nat) (a1:L2):=loopF (F112_l1_b N a1) (fun _ _ _ _ _ _ _ _ _=>none)
theorem F112_l1_s {N a1 k} (hk:0 < k:=by omega):F112_l1 N a1 k=F112_l1_b N a1 (F112_l1 N a1 (k - 1)):=lS hk
def F112 (N:Nat) (a0:Z50) (a1:L2):Option (L2) :=
  F112_l1 N a1 N a0.1 a0.2.1 a0.2.2.1 a0.2.2.2.1 a0.2.2.2.2.1 a0.2.2.2.2.2.1 a0.2.2.2.2.2.2 ([]) (0:Int)
theorem ok112 N a0 a1 {r} (h:F112 N a0 a1=some r):Con prog 112 [.agg (lv Y50 a0),Vv B2 a1] [.lf (.own B1 r .tp)]:=by
 refine ctr [.lf (.own B1 .tp)] K func112 rfl fun w0 E0 ht=>?_
 unfold F112 at h
 show VW _ _ _ _ _ (retQ _ _ _ _) _
 refine nR K (tn 2) <| nR K (tn 2) ?_
 refine VW.join (fun s=>∃z,s=⟨[(5,hh 0)],[ar 0 B1 z .tp]⟩∧F112_j0 N z=some r) ?_ ?_
 ·refine nR K (tn 1) <| VW.block <| lop (fun k s=>∃c d e f g i j l a,s=⟨[(1,Vv B2 a1),(2, .lf (.ptr 0 0 0 0)),(5,hh 1),(6,I a)],[bx [zi c,zs d,zi e,zi f,zi g,zb i, .v B1 j] 51,ar 0 B1 l .tp]⟩∧F112_l1 N a1 k c d e f g i j l a=some r) N [.nilS 5 B1 .tp, .ren [1,2,5,6] [0,1]] ⟨a0.1,a0.2.1,a0.2.2.1,a0.2.2.2.1,a0.2.2.2.2.1,a0.2.2.2.2.2.1,a0.2.2.2.2.2.2,[],(0:Int),rfl,h⟩ ?_
  rintro m s ⟨c,d,e,f,g,i,j,l,a,rfl,h⟩
  cases m with
  | zero=>exact nv h
  | succ m =>
   rw [F112_l1_s,F112_l1_b] at h
   refine sq <| nR K (tn 4) ?_
   refine cnd h ?_ ?_<;>intro h
   ·refine VW.skip ?_
    refine VW.join (fun s=>∃t,s=⟨[(1,Vv B2 a1),(2, .lf (.ptr 0 0 0 0)),(5,hh 1),(6,I a)],[bx [zi c,zs d,zi e,zi f,zi g,zb i, .v B1 j] 51,ar 0 B1 t .tp]⟩∧F112_j1 N (F112_l1 N a1 m) c d e f g i j a t=some r) ?_ ?_
    ·refine VW.block <| nR K (tn 2) <| nR K (tn 1) ?_
     refine VW.join (fun s=>∃q A,s=⟨[(1,Vv B2 a1),(2, .lf (.ptr 0 0 0 0)),(6,I a),(7,hh 1),(8,B A)],[bx [zi c,zs d,zi e,zi f,zi g,zb i, .v B1 j] 51,ar 0 B1 q .tp]⟩∧F112_j3 N a1 (F112_l1 N a1 m) c d e f g i j a q A=some r) ?_ ?_
     ·refine nR K (tn 1) <| VW.block <| lop (fun k s=>∃n o p,s=⟨[(1,Vv B2 a1),(2, .lf (.ptr 0 0 0 0)),(5,hh 1),(6,I a),(7,hh 2),(8,B o),(9,I p)],[bx [zi c,zs d,zi e,zi f,zi g,zb i, .v B1 j] 51,ar 0 B1 l .tp,ar 0 B1 n .tp]⟩∧F112_l0 N a1 (F112_l1 N a1 m) c d e f g i j l a k n o p=some r) N [.nilS 7 B1 .tp, .ren [1,2,5,6,7,8,9] [0,1,2]] ⟨[],false,(0:Int),rfl,h⟩ ?_
      rintro y s ⟨n,o,p,rfl,h⟩
      cases y with
      | zero=>exact nv h
      | succ y =>
       rw [F112_l0_s,F112_l0_b] at h
       refine sq <| nR K (tn 4) ?_
       refine cnd h ?_ ?_<;>intro h
       ·refine VW.skip <| sq <| VW.block ?_
        refine VW.join (fun s=>∃w x,s=⟨[(1,Vv B2 a1),(2, .lf (.ptr 0 0 0 0)),(5,hh 1),(6,I a),(7,hh 2),(8,B x),(9,I p)],[bx [zi c,zs d,zi e,zi f,zi g,zb i, .v B1 j] 51,ar 0 B1 l .tp,ar 0 B1 w .tp]⟩∧F112_j4 N (F112_l0 N a1 (F112_l1 N a1 m) c d e f g i j l a y) l p w x=some r) ?_ ?_
        ·refine sq ?_
         rcases Bool.eq_false_or_eq_true (!o) with hb2253 | hb2253
         ·replace h:=cond_t h hb2253
          obtain⟨H,J,L,M,O,h⟩:=gW h
          refine dr K [(2, .lit true)] [(2,0)] [] [1,2,5,6,7,8,9,44] [0,1,2] (pu 5 (an H (pu 3 (an J (pu 3 (an L (an M (pu 2 (an O (tn 3)))))))))) ⟨qB 26 hb2253 K trivial,trivial⟩ ?_
          refine cnd h ?_ ?_<;>intro h
          ·obtain⟨P,Q,h⟩:=gT h
           refine nR K (pu 3 (an P (pu 2 (an Q (tn 1))))) <| nE K (tn 1) ?_
           exact arv [.ren [1,2,5,6,7,8,9] [0,1,2]] ⟨(n++([(a1.getD a.toNat (Ty.dflt B1))])),true,rfl,h⟩
          refine VW.skip ?_
          exact arv [.ren [1,2,5,6,7,8,9] [0,1,2]] ⟨n,o,rfl,h⟩
         replace h:=cond_f h hb2253
         refine dr K [(2, .lit false)] [(2,0)] [] [1,2,5,6,7,8,9,44] [0,1,2] (tn 21) ⟨qB 26 hb2253 K trivial,trivial⟩ ?_
         refine VW.cond (b:=false) (by kernel_rfl) (fun h'=>nomatch h') (fun _=>?_)
         refine VW.skip ?_
         exact arv [.ren [1,2,5,6,7,8,9] [0,1,2]] ⟨n,o,rfl,h⟩
        rintro s ⟨w,x,rfl,h⟩
        unfold F112_j4 at h
        obtain⟨E,F,G,h⟩:=gU h
        refine nE K (pu 3 (an E (an F (pu 1 (an G (tn 1)))))) <| nE K (tn 3) ?_
        exact aro [.ren [1,2,5,6,7,8,9] [0,1,2]] ⟨(w++([(l.getD p.toNat (Ty.dflt B1))])),x,(wr (p+(1:Int))),rfl,h⟩
       refine VW.exit ?_
       exact arv [.ren [1,2,6,7,8] [0,2]] ⟨n,o,rfl,h⟩
     rintro s ⟨q,A,rfl,h⟩
     unfold F112_j3 at h
     refine VW.join (fun s=>∃u,s=⟨[(1,Vv B2 a1),(2, .lf (.ptr 0 0 0 0)),(6,I a),(7,hh 1)],[bx [zi c,zs d,zi e,zi f,zi g,zb i, .v B1 j] 51,ar 0 B1 u .tp]⟩∧F112_j2 N (F112_l1 N a1 m) c d e f g i j a u=some r) ?_ ?_
     ·refine nR K (tn 2) ?_
      refine cnd h ?_ ?_<;>intro h
      ·obtain⟨C,D,h⟩:=gT h
       refine nE K (pu 3 (an C (pu 2 (an D (tn 1))))) ?_
       exact arv [.ren [1,2,6,7] [0,1]] ⟨(q++([(a1.getD a.toNat (Ty.dflt B1))])),rfl,h⟩
      refine VW.skip ?_
      exact arv [.ren [1,2,6,7] [0,1]] ⟨q,rfl,h⟩
     rintro s ⟨u,rfl,h⟩
     unfold F112_j2 at h
     refine nE K (tn 2) ?_
     exact arv [.ren [1,2,5,6] [0,1]] ⟨u,rfl,h⟩
    rintro s ⟨t,rfl,h⟩
    unfold F112_j1 at h
    refine nE K (tn 3) ?_
    exact aro [.ren [1,2,5,6] [0,1]] ⟨c,d,e,f,g,i,j,t,(wr (a+(1:Int))),rfl,h⟩
   refine VW.exit ?_
   exact arv [.ren [5] [1]] ⟨l,rfl,h⟩
 rintro s ⟨z,rfl,h⟩
 unfold F112_j0 at h
 refine nR K (tn 2) ?_
 cases h;exact VW.ret (rt [some 0])
def F188_j0 (N:Nat):Option (Bool) :=
  some true
def F188_l0_b (N:Nat) (a0:L1) (a1:L1) (b:Int→Option (Bool)) (a:Int):Option (Bool) :=
  cond (decide (a < (a0.length:Int))) (gd (InR a a0.length) (gd (InR a a1.length) (cond ((a0.getD a.toNat (Ty.dflt B0)) != (a1.getD a.toNat (Ty.dflt B0))) (some false) (b (IntKind.i64.wrap (a+(1:Int))))))) (F188_j0 N)
def F188_l0 (N:Nat) (a0:L1) (a1:L1):=loopF (F188_l0_b N a0 a1) (fun _=>none)
theorem F188_l0_s {N a0 a1 k} (hk:0 < k:=by omega):F188_l0 N a0 a1 k=F188_l0_b N a0 a1 (F188_l0 N a0 a1 (k - 1)):=lS hk
def F188 (N:Nat) (a0:L1) (a1:L1):Option (Bool) :=
  cond ((a0.length:Int) != (a1.length:Int)) (some false) (F188_l0 N a0 a1 N (0:Int))
theorem ok188 N a0 a1 {r} (h:F188 N a0 a1=some r):Con prog 188 [Vv B1 a0,Vv B1 a1] [.lf (.v .bool r)]:=by
 refine ctr [.lf (.v .bool)] K func188 rfl fun w0 E0 ht=>?_
 unfold F188 at h
 show VW _ _ _ _ _ (retQ _ _ _ _) _
 refine nR K (tn 1) <| sq <| nR K (tn 5) ?_
 refine cnd h ?_ ?_<;>intro h
 ·refine nR K (tn 1) ?_
  cases h;exact VW.ret (rt [])
 refine VW.skip ?_
 refine VW.join (fun s=>s=⟨[],[]⟩∧F188_j0 N=some r) ?_ ?_
 ·refine nR K (tn 1) <| VW.block <| lop (fun k s=>∃a,s=⟨[(0,Vv B1 a0),(1,Vv B1 a1),(5,I a)],[]⟩∧F188_l0 N a0 a1 k a=some r) N [.ren [0,1,5] []] ⟨(0:Int),rfl,h⟩ ?_
  rintro b s ⟨a,rfl,h⟩
  cases b with
  | zero=>exact nv h
  | succ b =>
   rw [F188_l0_s,F188_l0_b] at h
   refine sq <| nR K (tn 4) ?_
   refine cnd h ?_ ?_<;>intro h
   ·refine VW.skip <| sq <| VW.block <| sq ?_
    obtain⟨c,d,h⟩:=gT h
    refine dr K [] [] [] [0,1,5,25] [] (pu 2 (an c (pu 3 (an d (tn 2))))) trivial ?_
    refine cnd h ?_ ?_<;>intro h
    ·refine nR K (tn 1) ?_
     cases h;exact VW.ret (rt [])
    refine VW.skip <| nE K (tn 3) ?_
    exact aro [.ren [0,1,5] []] ⟨(wr (a+(1:Int))),rfl,h⟩
   refine VW.exit ?_
   exact arv [.ren [] []] ⟨rfl,h⟩
 rintro s ⟨rfl,h⟩
 unfold F188_j0 at h
 refine nR K (tn 1) ?_
 cases h;exact VW.ret (rt [])
def F166_j0 (N:Nat) (a:Int):Option (Int) :=
  some a
def F166_j1 (N:Nat) (a:Int→Int→Option (Int)) (b:Int) (c:Int):Option (Int) :=
  a c (IntKind.i64.wrap (b+(1:Int)))
def F166_l0_b (N:Nat) (a0:L2) (a1:L1) (c:Int→Int→Option (Int)) (b:Int) (a:Int):Option (Int) :=
  cond (decide (a < (a0.length:Int))) (gd (InR a a0.length) (andO (F188 N (a0.getD a.toNat (Ty.dflt B1)) a1) fun d=>cond d (F166_j1 N c a (IntKind.i64.wrap (b+(1:Int)))) (F166_j1 N c a b))) (F166_j0 N b)
def F166_l0 (N:Nat) (a0:L2) (a1:L1):=loopF (F166_l0_b N a0 a1) (fun _ _=>none)
theorem F166_l0_s {N a0 a1 k} (hk:0 < k:=by omega):F166_l0 N a0 a1 k=F166_l0_b N a0 a1 (F166_l0 N a0 a1 (k - 1)):=lS hk
def F166 (N:Nat) (a0:L2) (a1:L1):Option (Int) :=
  F166_l0 N a0 a1 N (0:Int) (0:Int)
theorem ok166 N a0 a1 {r} (h:F166 N a0 a1=some r):Con prog 166 [Vv B2 a0,Vv B1 a1] [.lf (.v B0 r)]:=by
 refine ctr [.lf (.v B0)] K func166 rfl fun w0 E0 ht=>?_
 unfold F166 at h
 show VW _ _ _ _ _ (retQ _ _ _ _) _
 refine nR K (tn 1) <| nR K (tn 1) ?_
 refine VW.join (fun s=>∃e,s=⟨[(5,I e)],[]⟩∧F166_j0 N e=some r) ?_ ?_
 ·refine nR K (tn 1) <| VW.block <| lop (fun k s=>∃a b,s=⟨[(0,Vv B2 a0),(1,Vv B1 a1),(5,I a),(6,I b)],[]⟩∧F166_l0 N a0 a1 k a b=some r) N [.ren [0,1,5,6] []] ⟨(0:Int),(0:Int),rfl,h⟩ ?_
  rintro d s ⟨a,b,rfl,h⟩
  cases d with
  | zero=>exact nv h
  | succ d =>
   rw [F166_l0_s,F166_l0_b] at h
   refine sq <| nR K (tn 4) ?_
   refine cnd h ?_ ?_<;>intro h
   ·refine VW.skip ?_
    refine VW.join (fun s=>∃c,s=⟨[(0,Vv B2 a0),(1,Vv B1 a1),(5,I c),(6,I b)],[]⟩∧F166_j1 N (F166_l0 N a0 a1 d) b c=some r) ?_ ?_
    ·refine VW.block <| sq <| VW.region ?_
     obtain⟨f,h⟩:=gS h
     refine nG K 5 (pu 2 (an f (tn 2))) ?_
     obtain⟨g,hy,h⟩:=aS h
     refine clc false [.t B1, .t B1] [] (some 18) K (ok188 N _ _ hy) <| nN K (tn 0) ?_
     refine cnd h ?_ ?_<;>intro h
     ·refine nE K (tn 3) ?_
      exact arv [.ren [0,1,5,6] []] ⟨(wr (a+(1:Int))),rfl,h⟩
     refine VW.skip ?_
     exact arv [.ren [0,1,5,6] []] ⟨a,rfl,h⟩
    rintro s ⟨c,rfl,h⟩
    unfold F166_j1 at h
    refine nE K (tn 3) ?_
    exact aro [.ren [0,1,5,6] []] ⟨c,(wr (b+(1:Int))),rfl,h⟩
   refine VW.exit ?_
   exact arv [.ren [5] []] ⟨a,rfl,h⟩
 rintro s ⟨e,rfl,h⟩
 unfold F166_j0 at h
 refine nR K (tn 2) ?_
 cases h;exact VW.ret (rt [])
def F113_j0 (N:Nat) (a:L2):Option (L2) :=
  some a
def F113_j1 (N:Nat) (a:L2→Int→Option (L2)) (b:Int) (c:L2):Option (L2) :=
  a c (IntKind.i64.wrap (b+(1:Int)))
def F113_l0_b (N:Nat) (a0:L2) (c:L2→Int→Option (L2)) (b:L2) (a:Int):Option (L2) :=
  cond (decide (a < (a0.length:Int))) (gd (InR a a0.length) (andO (F166 N b (a0.getD a.toNat (Ty.dflt B1))) fun d=>cond (d == (0:Int)) (gd (InR a a0.length) (gd (b.length+([(a0.getD a.toNat (Ty.dflt B1))]).length≤lim (.sl (.int .i64))) (F113_j1 N c a (b++([(a0.getD a.toNat (Ty.dflt B1))]))))) (F113_j1 N c a b))) (F113_j0 N b)
def F113_l0 (N:Nat) (a0:L2):=loopF (F113_l0_b N a0) (fun _ _=>none)
theorem F113_l0_s {N a0 k} (hk:0 < k:=by omega):F113_l0 N a0 k=F113_l0_b N a0 (F113_l0 N a0 (k - 1)):=lS hk
def F113 (N:Nat) (a0:L2):Option (L2) :=
  F113_l0 N a0 N ([]) (0:Int)
theorem ok113 N a0 {r} (h:F113 N a0=some r):Con prog 113 [Vv B2 a0] [.lf (.own B1 r .tp)]:=by
 refine ctr [.lf (.own B1 .tp)] K func113 rfl fun w0 E0 ht=>?_
 unfold F113 at h
 show VW _ _ _ _ _ (retQ _ _ _ _) _
 refine nR K (tn 1) <| nR K (tn 2) ?_
 refine VW.join (fun s=>∃e,s=⟨[(3,hh 0)],[ar 0 B1 e .tp]⟩∧F113_j0 N e=some r) ?_ ?_
 ·refine nR K (tn 1) <| VW.block <| lop (fun k s=>∃b a,s=⟨[(0,Vv B2 a0),(3,hh 0),(4,I a)],[ar 0 B1 b .tp]⟩∧F113_l0 N a0 k b a=some r) N [.nilS 3 B1 .tp, .ren [0,3,4] [0]] ⟨[],(0:Int),rfl,h⟩ ?_
  rintro d s ⟨b,a,rfl,h⟩
  cases d with
  | zero=>exact nv h
  | succ d =>
   rw [F113_l0_s,F113_l0_b] at h
   refine sq <| nR K (tn 4) ?_
   refine cnd h ?_ ?_<;>intro h
   ·refine VW.skip ?_
    refine VW.join (fun s=>∃c,s=⟨[(0,Vv B2 a0),(3,hh 0),(4,I a)],[ar 0 B1 c .tp]⟩∧F113_j1 N (F113_l0 N a0 d) a c=some r) ?_ ?_
    ·refine VW.block <| sq <| VW.region ?_
     obtain⟨f,h⟩:=gS h
     refine nG K 5 (pu 3 (an f (tn 1))) ?_
     obtain⟨j,hy,h⟩:=aS h
     refine clc true [.t B2, .t B1] [] (some 17) K (ok166 N _ _ hy) <| nN K (tn 1) ?_
     refine cnd h ?_ ?_<;>intro h
     ·obtain⟨g,i,h⟩:=gT h
      refine nE K (pu 3 (an g (pu 2 (an i (tn 1))))) ?_
      exact arv [.ren [0,3,4] [0]] ⟨(b++([(a0.getD a.toNat (Ty.dflt B1))])),rfl,h⟩
     refine VW.skip ?_
     exact arv [.ren [0,3,4] [0]] ⟨b,rfl,h⟩
    rintro s ⟨c,rfl,h⟩
    unfold F113_j1 at h
    refine nE K (tn 3) ?_
    exact aro [.ren [0,3,4] [0]] ⟨c,(wr (a+(1:Int))),rfl,h⟩
   refine VW.exit ?_
   exact arv [.ren [3] [0]] ⟨b,rfl,h⟩
 rintro s ⟨e,rfl,h⟩
 unfold F113_j0 at h
 refine nR K (tn 2) ?_
 cases h;exact VW.ret (rt [some 0])
def F63_j0 (N:Nat) (a:L2):Option (L2×Bool) :=
  some (a,(decide ((a.length:Int)≤(200:Int))))
def F63_j1 (N:Nat) (a:L2→Int→Option (L2×Bool)) (b:Int) (c:L2):Option (L2×Bool) :=
  a c (IntKind.i64.wrap (b+(1:Int)))
def F63_l0_b (N:Nat) (e:L2→Int→Option (L2×Bool)) (b:L3) (a:Int) (f:L2→Int→Option (L2×Bool)) (d:L2) (c:Int):Option (L2×Bool) :=
  gd (InR a b.length) (gd (a.toNat < b.length) (cond (decide (c < ((b.getD a.toNat (Ty.dflt B2)).length:Int))) (gd (InR a b.length) (gd (a.toNat < b.length) (gd (InR c (b.getD a.toNat (Ty.dflt B2)).length) (gd (d.length+([((b.getD a.toNat (Ty.dflt B2)).getD c.toNat (Ty.dflt B1))]).length≤lim (.sl (.int .i64))) (f (d++([((b.getD a.toNat (Ty.dflt B2)).getD c.toNat (Ty.dflt B1))])) (IntKind.i64.wrap (c+(1:Int)))))))) (F63_j1 N e a d)))
def F63_l0 (N:Nat) (a:L2→Int→Option (L2×Bool)) (c:L3) (b:Int):=loopF (F63_l0_b N a c b) (fun _ _=>none)
theorem F63_l0_s {N a c b k} (hk:0 < k:=by omega):F63_l0 N a c b k=F63_l0_b N a c b (F63_l0 N a c b (k - 1)):=lS hk
def F63_l1_b (N:Nat) (d:L3) (c:L2→Int→Option (L2×Bool)) (a:L2) (b:Int):Option (L2×Bool) :=
  cond (decide (b < (2:Int))) (F63_l0 N c d b N a (0:Int)) (F63_j0 N a)
def F63_l1 (N:Nat) (a:L3):=loopF (F63_l1_b N a) (fun _ _=>none)
theorem F63_l1_s {N a k} (hk:0 < k:=by omega):F63_l1 N a k=F63_l1_b N a (F63_l1 N a (k - 1)):=lS hk
def F63_j2 (N:Nat) (a0:(List Z99)) (a1:L3) (b:Int) (d:ByteArray) (e:Int) (f:Int) (c:Int) (g:Bool) (h:L1) (a:L3):Option (L2×Bool) :=
  cond (b == (0:Int)) (andO (F108 N a0 d) fun i=>gd (InR i a1.length) (F63_j0 N (a1.getD i.toNat (Ty.dflt B2)))) (cond (b == (1:Int)) (gd (InR (0:Int) a.length) (gd ((0:Int).toNat < a.length) (andO (F109 N (b,(d,(e,(f,(c,(g,h)))))) (a.getD ((0:Int).toNat) (Ty.dflt B2))) fun j=>F63_j0 N j))) (cond (b == (2:Int)) (gd (InR (0:Int) a.length) (gd ((0:Int).toNat < a.length) (andO (F110 N (b,(d,(e,(f,(c,(g,h)))))) (a.getD ((0:Int).toNat) (Ty.dflt B2))) fun k=>F63_j0 N k))) (cond (b == (3:Int)) (gd (InR (0:Int) a.length) (gd ((0:Int).toNat < a.length) (gd (InR (1:Int) a.length) (gd ((1:Int).toNat < a.length) (andO (F111 N (b,(d,(e,(f,(c,(g,h)))))) (a.getD ((0:Int).toNat) (Ty.dflt B2)) (a.getD ((1:Int).toNat) (Ty.dflt B2))) fun l=>F63_j0 N l))))) (cond (b == (4:Int)) (F63_l1 N a N ([]) (0:Int)) (cond (b == (5:Int)) (gd (InR (0:Int) a.length) (gd ((0:Int).toNat < a.length) (andO (F112 N (b,(d,(e,(f,(c,(g,h)))))) (a.getD ((0:Int).toNat) (Ty.dflt B2))) fun m=>F63_j0 N m))) (cond (b == (6:Int)) (gd (InR (0:Int) a.length) (gd ((0:Int).toNat < a.length) (cond (decide (c < ((a.getD ((0:Int).toNat) (Ty.dflt B2)).length:Int))) (gd (0≤c∧c≤((a.getD ((0:Int).toNat) (Ty.dflt B2)).length:Int)) (F63_j0 N ((a.getD ((0:Int).toNat) (Ty.dflt B2)).take c.toNat))) (F63_j0 N (a.getD ((0:Int).toNat) (Ty.dflt B2)))))) (cond (b == (7:Int)) (gd (InR (0:Int) a.length) (gd ((0:Int).toNat < a.length) (andO (F113 N (a.getD ((0:Int).toNat) (Ty.dflt B2))) fun n=>F63_j0 N n))) (F63_j0 N ([])))))))))
def F63_l2_b (N:Nat) (a0:(List Z99)) (a1:L3) (a2:(List Z50)) (self:(List Z99)→L3→(List Z50)→Int→Option (L2×Bool)) (b:L1) (l:Int→ByteArray→Int→Int→Int→Bool→L1→L3→Int→Option (L2×Bool)) (e:Int) (f:ByteArray) (g:Int) (h:Int) (i:Int) (j:Bool) (k:L1) (c:L3) (a:Int):Option (L2×Bool) :=
  cond (decide (a < (b.length:Int))) (gd (InR a b.length) (gd (a.toNat < b.length) (andO (self a0 a1 a2 (b.getD a.toNat (Ty.dflt B0))) fun d=>cond (!d.2) (some ([],false)) (gd (c.length+([d.1]).length≤lim (.sl (.sl (.int .i64)))) (l e f g h i j k (c++([d.1])) (IntKind.i64.wrap (a+(1:Int)))))))) (F63_j2 N a0 a1 e f g h i j k c)
def F63_l2 (N:Nat) (a0:(List Z99)) (a1:L3) (a2:(List Z50)) (self:(List Z99)→L3→(List Z50)→Int→Option (L2×Bool)) (a:L1):=loopF (F63_l2_b N a0 a1 a2 self a) (fun _ _ _ _ _ _ _ _ _=>none)
theorem F63_l2_s {N a0 a1 a2} {self:(List Z99)→L3→(List Z50)→Int→Option (L2×Bool)} {a k} (hk:0 < k:=by omega):F63_l2 N a0 a1 a2 self a k=F63_l2_b N a0 a1 a2 self a (F63_l2 N a0 a1 a2 self a (k - 1)):=lS hk
def F63_b (N:Nat) (self:(List Z99)→L3→(List Z50)→Int→Option (L2×Bool)) (a0:(List Z99)) (a1:L3) (a2:(List Z50)) (a3:Int):Option (L2×Bool) :=
  gd (InR a3 a2.length) (andO (F74 N a2 a3) fun a=>F63_l2 N a0 a1 a2 self a N ((a2.getD a3.toNat (Ty.dflt Y50)).1) ((a2.getD a3.toNat (Ty.dflt Y50)).2.1) ((a2.getD a3.toNat (Ty.dflt Y50)).2.2.1) ((a2.getD a3.toNat (Ty.dflt Y50)).2.2.2.1) ((a2.getD a3.toNat (Ty.dflt Y50)).2.2.2.2.1) ((a2.getD a3.toNat (Ty.dflt Y50)).2.2.2.2.2.1) ((a2.getD a3.toNat (Ty.dflt Y50)).2.2.2.2.2.2) ([]) (0:Int))
theorem ok63_b (N:Nat) (self:(List Z99)→L3→(List Z50)→Int→Option (L2×Bool)) (ih:∀(a0:(List Z99)) (a1:L3) (a2:(List Z50)) (a3:Int) (r:L2×Bool),self a0 a1 a2 a3=some r→Con prog 63 [Vv (.sl Y99) a0,Vv B3 a1,Vv (.sl Y50) a2,I a3] [.lf (.v B2 r.1), .lf (.v .bool r.2)]) (a0:(List Z99)) (a1:L3) (a2:(List Z50)) (a3:Int) {r:L2×Bool} (h:F63_b N self a0 a1 a2 a3=some r):Con prog 63 [Vv (.sl Y99) a0,Vv B3 a1,Vv (.sl Y50) a2,I a3] [.lf (.v B2 r.1), .lf (.v .bool r.2)]:=by
 refine ctr [.lf (.v B2), .lf (.v .bool)] K func63 rfl fun w0 E0 ht=>?_
 unfold F63_b at h
 show VW _ _ _ _ _ (retQ _ _ _ _) _
 refine nR K (tn 2) ?_
 obtain⟨O,h⟩:=gS h
 refine nR K (pu 2 (an O (tn 3))) <| nR K (tn 2) <| sq <| VW.region <| nG K 2 (tn 2) ?_
 obtain⟨G,hy,h⟩:=aS h
 refine clc false [.t (.sl Y50), .t B0] [] (some 26) K (ok74 N _ _ hy) <| nN K (tn 1) ?_
 refine VW.join (fun s=>∃(y:Int) (z:ByteArray) (A:Int) (B:Int) (q:Int) (C:Bool) (D:L1) (a:L3),s=⟨[(0,Vv (.sl Y99) a0),(1,Vv B3 a1),(10, .lf (.ptr 0 0 0 0)),(11,hh 1)],[bx [zi y,zs z,zi A,zi B,zi q,zb C, .v B1 D] 51,ar 0 B2 a .tp]⟩∧F63_j2 N a0 a1 y z A B q C D a=some r) ?_ ?_
 ·refine nR K (tn 1) <| VW.block <| lop (fun k s=>∃(f:Int) (g:ByteArray) (i:Int) (j:Int) (l:Int) (m:Bool) (n:L1) (o:L3) (w:Int),s=⟨[(0,Vv (.sl Y99) a0),(1,Vv B3 a1),(2,Vv (.sl Y50) a2),(10, .lf (.ptr 0 0 0 0)),(11,hh 1),(12,hh 2),(13,I w)],[bx [zi f,zs g,zi i,zi j,zi l,zb m, .v B1 n] 51,ar 0 B2 o .tp,ar 0 B0 G .dp]⟩∧F63_l2 N a0 a1 a2 self G k f g i j l m n o w=some r) N [.nilS 11 B2 .tp, .ren [0,1,2,10,11,12,13] [0,2,1]] ⟨(a2.getD a3.toNat D50).1,(a2.getD a3.toNat D50).2.1,(a2.getD a3.toNat D50).2.2.1,(a2.getD a3.toNat D50).2.2.2.1,(a2.getD a3.toNat D50).2.2.2.2.1,(a2.getD a3.toNat D50).2.2.2.2.2.1,(a2.getD a3.toNat D50).2.2.2.2.2.2,[],(0:Int),rfl,h⟩ ?_
  rintro F s ⟨f,g,i,j,l,m,n,o,w,rfl,h⟩
  cases F with
  | zero=>exact nv h
  | succ F =>
   rw [F63_l2_s,F63_l2_b] at h
   refine sq <| nR K (tn 4) ?_
   refine cnd h ?_ ?_<;>intro h
   ·refine VW.skip <| sq <| VW.block <| sq <| VW.region ?_
    obtain⟨af,ag,h⟩:=gT h
    refine nG K 7 (pu 5 (an af (an ag (tn 0)))) ?_
    obtain⟨ak,hy,h⟩:=aS h
    refine clc false [.t (.sl Y99), .t B3, .t (.sl Y50), .t B0] [] (some 41) K (ih _ _ _ _ _ hy) <| nN K (tn 5) <| sq <| nR K (tn 2) ?_
    refine cnd h ?_ ?_<;>intro h
    ·refine nR K (tn 2) ?_
     cases h;exact VW.ret (rt [])
    refine VW.skip ?_
    obtain⟨ah,h⟩:=gS h
    refine nE K (pu 3 (an ah (tn 1))) <| nE K (tn 3) ?_
    exact aro [.ren [0,1,2,10,11,12,13] [0,1,2]] ⟨f,g,i,j,l,m,n,(o++([ak.1])),(wr (w+(1:Int))),rfl,h⟩
   refine VW.exit ?_
   exact arv [.ren [0,1,10,11] [0,1]] ⟨f,g,i,j,l,m,n,o,rfl,h⟩
 rintro s ⟨y,z,A,B,q,C,D,a,rfl,h⟩
 unfold F63_j2 at h
 refine nR K (tn 2) ?_
 refine VW.join (fun s=>∃x,s=⟨[(16,Vv B2 x)],[]⟩∧F63_j0 N x=some r) ?_ ?_
 ·refine nR K (tn 2) <| VW.block <| nR K (tn 2) ?_
  refine cnd h ?_ ?_<;>intro h
  ·refine VW.region <| nG K 4 (tn 4) ?_
   obtain⟨ai,hy,h⟩:=aS h
   refine clc false [.t (.sl Y99), .t .str] [] (some 59) K (ok108 N _ _ hy) ?_
   obtain⟨P,h⟩:=gS h
   refine nN K (an P (tn 2)) ?_
   exact arv [.ren [16] []] ⟨(a1.getD ai.toNat (Ty.dflt B2)),rfl,h⟩
  refine nR K (tn 2) ?_
  refine cnd h ?_ ?_<;>intro h
  ·obtain⟨Q,R,h⟩:=gT h
   obtain⟨H,hy323,h⟩:=aS h
   refine dr K [(4, .cl [] (some 68) [.lf (.own B1 H .tp)])] [(4,0)] [4] [16] [2] (pu 2 (an Q (an R (tn 2)))) ⟨qC false [.t Y50, .t B2] [] [] (some 68) K (ok109 N _ _ hy323),trivial⟩ ?_
   exact arv [.frz 0, .ren [16] []] ⟨H,rfl,h⟩
  refine nR K (tn 2) ?_
  refine cnd h ?_ ?_<;>intro h
  ·obtain⟨S,T,h⟩:=gT h
   obtain⟨J,hy326,h⟩:=aS h
   refine dr K [(4, .cl [] (some 75) [.lf (.own B1 J .dp)])] [(4,0)] [4] [16] [2] (pu 2 (an S (an T (tn 2)))) ⟨qC false [.t Y50, .t B2] [] [] (some 75) K (ok110 N _ _ hy326),trivial⟩ ?_
   exact arv [.frz 0, .ren [16] []] ⟨J,rfl,h⟩
  refine nR K (tn 2) ?_
  refine cnd h ?_ ?_<;>intro h
  ·obtain⟨U,V,W,X,h⟩:=gV h
   obtain⟨L,hy331,h⟩:=aS h
   refine dr K [(7, .cl [] (some 85) [.lf (.own B1 L .dp)])] [(7,0)] [7] [16] [2] (pu 2 (an U (an V (pu 1 (an W (an X (tn 2))))))) ⟨qC false [.t Y50, .t B2, .t B2] [] [] (some 85) K (ok111 N _ _ _ hy331),trivial⟩ ?_
   exact arv [.frz 0, .ren [16] []] ⟨L,rfl,h⟩
  refine nR K (tn 2) ?_
  refine cnd h ?_ ?_<;>intro h
  ·refine nR K (tn 1) <| VW.block <| lop (fun k s=>∃c b,s=⟨[(11,hh 0),(16,hh 1),(17,I b)],[ar 0 B2 a .tp,ar 0 B1 c .tp]⟩∧F63_l1 N a k c b=some r) N [.nilS 16 B1 .tp, .ren [11,16,17] [1,2]] ⟨[],(0:Int),rfl,h⟩ ?_
   rintro p s ⟨c,b,rfl,h⟩
   cases p with
   | zero=>exact nv h
   | succ p =>
    rw [F63_l1_s,F63_l1_b] at h
    refine sq <| nR K (tn 2) ?_
    refine cnd h ?_ ?_<;>intro h
    ·refine VW.skip ?_
     refine VW.join (fun s=>∃u,s=⟨[(11,hh 0),(16,hh 1),(17,I b)],[ar 0 B2 a .tp,ar 0 B1 u .tp]⟩∧F63_j1 N (F63_l1 N a p) b u=some r) ?_ ?_
     ·refine VW.block <| nR K (tn 1) <| VW.block <| lop (fun k s=>∃d e,s=⟨[(11,hh 0),(16,hh 1),(17,I b),(18,I e)],[ar 0 B2 a .tp,ar 0 B1 d .tp]⟩∧F63_l0 N (F63_l1 N a p) a b k d e=some r) N [.ren [11,16,17,18] [0,1]] ⟨c,(0:Int),rfl,h⟩ ?_
      rintro E s ⟨d,e,rfl,h⟩
      cases E with
      | zero=>exact nv h
      | succ E =>
       rw [F63_l0_s,F63_l0_b] at h
       refine sq ?_
       obtain⟨Y,Z,h⟩:=gT h
       refine nR K (pu 3 (an Y (an Z (tn 2)))) ?_
       refine cnd h ?_ ?_<;>intro h
       ·refine VW.skip <| sq <| VW.block ?_
        obtain⟨a4,a5,a6,a7,h⟩:=gV h
        refine nE K (pu 3 (an a4 (an a5 (pu 1 (an a6 (pu 2 (an a7 (tn 1)))))))) <| nE K (tn 3) ?_
        exact aro [.ren [11,16,17,18] [0,1]] ⟨(d++([((a.getD b.toNat (Ty.dflt B2)).getD e.toNat (Ty.dflt B1))])),(wr (e+(1:Int))),rfl,h⟩
       refine VW.exit ?_
       exact arv [.ren [11,16,17] [0,1]] ⟨d,rfl,h⟩
     rintro s ⟨u,rfl,h⟩
     unfold F63_j1 at h
     refine nE K (tn 3) ?_
     exact aro [.ren [11,16,17] [0,1]] ⟨u,(wr (b+(1:Int))),rfl,h⟩
    refine VW.exit ?_
    exact arv [.frz 1, .ren [16] []] ⟨c,rfl,h⟩
  refine nR K (tn 2) ?_
  refine cnd h ?_ ?_<;>intro h
  ·obtain⟨a8,a9,h⟩:=gT h
   obtain⟨M,hy577,h⟩:=aS h
   refine dr K [(4, .cl [] (some 117) [.lf (.own B1 M .tp)])] [(4,0)] [4] [16] [2] (pu 2 (an a8 (an a9 (tn 2)))) ⟨qC false [.t Y50, .t B2] [] [] (some 117) K (ok112 N _ _ hy577),trivial⟩ ?_
   exact arv [.frz 0, .ren [16] []] ⟨M,rfl,h⟩
  refine nR K (tn 2) ?_
  refine cnd h ?_ ?_<;>intro h
  ·obtain⟨aa,ab,h⟩:=gT h
   refine nR K (pu 1 (an aa (an ab (tn 1)))) <| nR K (tn 5) ?_
   refine cnd h ?_ ?_<;>intro h
   ·obtain⟨ac,h⟩:=gS h
    refine nE K (pu 3 (an ac (tn 1))) ?_
    exact arv [.ren [16] []] ⟨((a.getD ((0:Int).toNat) (Ty.dflt B2)).take q.toNat),rfl,h⟩
   refine VW.skip ?_
   exact arv [.ren [16] []] ⟨(a.getD ((0:Int).toNat) (Ty.dflt B2)),rfl,h⟩
  refine nR K (tn 2) ?_
  refine cnd h ?_ ?_<;>intro h
  ·refine VW.region ?_
   obtain⟨ad,ae,h⟩:=gT h
   refine nG K 3 (pu 1 (an ad (an ae (tn 0)))) ?_
   obtain⟨aj,hy,h⟩:=aS h
   refine clc false [.t B2] [] (some 137) K (ok113 N _ hy) <| nN K (tn 1) ?_
   exact arv [.frz 2, .ren [16] []] ⟨aj,rfl,h⟩
  refine VW.skip ?_
  exact arv [.nilV 16 B1, .ren [16] []] ⟨[],rfl,h⟩
 rintro s ⟨x,rfl,h⟩
 unfold F63_j0 at h
 refine nR K (tn 6) ?_
 cases h;exact VW.ret (rt [])
def F63_r (N:Nat):=loopF (F63_b N) (fun _ _ _ _=>none)
theorem F63_s {N k} (hk:0 < k:=by omega):F63_r N k=F63_b N (F63_r N (k - 1)):=lS hk
def F63 (N:Nat):(List Z99)→L3→(List Z50)→Int→Option (L2×Bool):=F63_r N N
theorem ok63_k (N:Nat):∀(k:Nat) (a0:(List Z99)) (a1:L3) (a2:(List Z50)) (a3:Int) (r:L2×Bool),loopF (F63_b N) (fun _ _ _ _=>none) k a0 a1 a2 a3=some r→Con prog 63 [Vv (.sl Y99) a0,Vv B3 a1,Vv (.sl Y50) a2,I a3] [.lf (.v B2 r.1), .lf (.v .bool r.2)]
 | 0,a0,a1,a2,a3,r,h=>nomatch (show (none:Option (L2×Bool))=some r from h)
 | k+1,a0,a1,a2,a3,r,h=>ok63_b N _ (ok63_k N k) a0 a1 a2 a3 h
theorem ok63 N a0 a1 a2 a3 {r} (h:F63 N a0 a1 a2 a3=some r):Con prog 63 [Vv (.sl Y99) a0,Vv B3 a1,Vv (.sl Y50) a2,I a3] [.lf (.v B2 r.1), .lf (.v .bool r.2)]:=ok63_k N N a0 a1 a2 a3 r h
def F64_j0 (N:Nat) (a:L2):Option (L2) :=
  some a
def F64_l0_b (N:Nat) (a0:L2) (d:L2→Int→Option (L2)) (b:L2) (a:Int):Option (L2) :=
  cond (decide (a < (a0.length:Int))) (gd (InR a a0.length) (andO (F78 N (a0.getD a.toNat (Ty.dflt B1))) fun c=>gd (b.length+([c]).length≤lim (.sl (.int .i64))) (d (b++([c])) (IntKind.i64.wrap (a+(1:Int)))))) (F64_j0 N b)
def F64_l0 (N:Nat) (a0:L2):=loopF (F64_l0_b N a0) (fun _ _=>none)
theorem F64_l0_s {N a0 k} (hk:0 < k:=by omega):F64_l0 N a0 k=F64_l0_b N a0 (F64_l0 N a0 (k - 1)):=lS hk
def F64 (N:Nat) (a0:L2):Option (L2) :=
  F64_l0 N a0 N ([]) (0:Int)
theorem ok64 N a0 {r} (h:F64 N a0=some r):Con prog 64 [Vv B2 a0] [.lf (.own B1 r .dp)]:=by
 refine ctr [.lf (.own B1 .dp)] K func64 rfl fun w0 E0 ht=>?_
 unfold F64 at h
 show VW _ _ _ _ _ (retQ _ _ _ _) _
 refine nR K (tn 1) <| nR K (tn 2) ?_
 refine VW.join (fun s=>∃e,s=⟨[(3,hh 0)],[ar 0 B1 e .dp]⟩∧F64_j0 N e=some r) ?_ ?_
 ·refine nR K (tn 1) <| VW.block <| lop (fun k s=>∃a b,s=⟨[(0,Vv B2 a0),(3,hh 0),(4,I b)],[ar 0 B1 a .dp]⟩∧F64_l0 N a0 k a b=some r) N [.nilS 3 B1 .dp, .ren [0,3,4] [0]] ⟨[],(0:Int),rfl,h⟩ ?_
  rintro f s ⟨a,b,rfl,h⟩
  cases f with
  | zero=>exact nv h
  | succ f =>
   rw [F64_l0_s,F64_l0_b] at h
   refine sq <| nR K (tn 4) ?_
   refine cnd h ?_ ?_<;>intro h
   ·refine VW.skip <| sq <| VW.block <| VW.region ?_
    obtain⟨g,h⟩:=gS h
    refine nG K 5 (pu 3 (an g (tn 1))) ?_
    obtain⟨c,hy,h⟩:=aS h
    refine clc false [.t B1] [] (some 17) K (ok78 N _ hy) <| VO.litA (d:=18) (v:=hh 2) (H':=[ar 0 B1 a .dp,none,ar 0 B1 ([c]) .dp]) K (by kernel_rfl) ?_
    obtain⟨i,h⟩:=gS h
    refine VO.appM (d:=19) (φ:=a.length+([c]).length≤lim (.sl (.int .i64))) (v:= .lf (.hd 0 1 none)) (H':=[ar 1 B1 (a++([c])) .dp,none,none]) K (by kernel_rfl) i <| nN K (tn 1) <| nE K (tn 3) ?_
    exact aro [.ren [0,3,4] [0]] ⟨(a++([c])),(wr (b+(1:Int))),rfl,h⟩
   refine VW.exit ?_
   exact arv [.ren [3] [0]] ⟨a,rfl,h⟩
 rintro s ⟨e,rfl,h⟩
 unfold F64_j0 at h
 refine nR K (tn 2) ?_
 cases h;exact VW.ret (rt [some 0])
def F24_j0 (N:Nat) (a0:(List Z99)) (a1:L3) (a2:(List Z50)):Option (L2×Int) :=
  andO (F63 N a0 a1 a2 (0:Int)) fun a=>cond (!a.2) (some ([],(2:Int))) (andO (F64 N a.1) fun b=>some (b,(0:Int)))
def F24_l0_b (N:Nat) (a0:(List Z99)) (a1:L3) (a2:(List Z50)) (b:Int→Option (L2×Int)) (a:Int):Option (L2×Int) :=
  cond (decide (a < (a2.length:Int))) (gd (InR a a2.length) (cond ((a2.getD a.toNat (Ty.dflt Y50)).2.2.2.2.2.1) (some ([],(1:Int))) (b (IntKind.i64.wrap (a+(1:Int)))))) (F24_j0 N a0 a1 a2)
def F24_l0 (N:Nat) (a0:(List Z99)) (a1:L3) (a2:(List Z50)):=loopF (F24_l0_b N a0 a1 a2) (fun _=>none)
theorem F24_l0_s {N a0 a1 a2 k} (hk:0 < k:=by omega):F24_l0 N a0 a1 a2 k=F24_l0_b N a0 a1 a2 (F24_l0 N a0 a1 a2 (k - 1)):=lS hk
def F24 (N:Nat) (a0:(List Z99)) (a1:L3) (a2:(List Z50)):Option (L2×Int) :=
  andO (F61 N a0 a1) fun a=>cond (!a) (some ([],(1:Int))) (andO (F62 N a0 a2) fun b=>cond (!b) (some ([],(1:Int))) (F24_l0 N a0 a1 a2 N (0:Int)))
theorem ok24 N a0 a1 a2 {r} (h:F24 N a0 a1 a2=some r):Con prog 24 [Vv (.sl Y99) a0,Vv B3 a1,Vv (.sl Y50) a2] [.lf (.own B1 r.1 .dp), .lf (.v B0 r.2)]:=by
 refine ctr [.lf (.own B1 .dp), .lf (.v B0)] K func24 rfl fun w0 E0 ht=>?_
 unfold F24 at h
 show VW _ _ _ _ _ (retQ _ _ _ _) _
 refine nR K (tn 2) <| sq <| sq <| VW.region <| nG K 2 (tn 2) ?_
 obtain⟨i,hy,h⟩:=aS h
 refine clc false [.t (.sl Y99), .t B3] [] (some 13) K (ok61 N _ _ hy) <| nG K 2 (tn 2) ?_
 refine spC 15 h ?_ ?_<;>intro h
 ·refine nN K (tn 5) ?_
  refine VW.cond (b:=true) (by kernel_rfl) (fun _=>?_) (fun h'=>nomatch h')
  refine nR K (tn 2) ?_
  cases h;exact VW.ret (rt [none])
 refine nG K 2 (tn 2) <| VO.on (j:=4) (want:=false) (d:=15) (b:=false) rfl rfl rfl (by kernel_rfl) rfl ?_
 obtain⟨l,hy,h⟩:=aS h
 refine clc false [.t (.sl Y99), .t (.sl Y50)] [] (some 18) K (ok62 N _ _ hy) <| nN K (tn 2) ?_
 refine cnd h ?_ ?_<;>intro h
 ·refine nR K (tn 2) ?_
  cases h;exact VW.ret (rt [none])
 refine VW.skip ?_
 refine VW.join (fun s=>s=⟨[(0,Vv (.sl Y99) a0),(1,Vv B3 a1),(2,Vv (.sl Y50) a2)],[]⟩∧F24_j0 N a0 a1 a2=some r) ?_ ?_
 ·refine nR K (tn 1) <| VW.block <| lop (fun k s=>∃a,s=⟨[(0,Vv (.sl Y99) a0),(1,Vv B3 a1),(2,Vv (.sl Y50) a2),(8,I a)],[]⟩∧F24_l0 N a0 a1 a2 k a=some r) N [.ren [0,1,2,8] []] ⟨(0:Int),rfl,h⟩ ?_
  rintro c s ⟨a,rfl,h⟩
  cases c with
  | zero=>exact nv h
  | succ c =>
   rw [F24_l0_s,F24_l0_b] at h
   refine sq <| nR K (tn 4) ?_
   refine cnd h ?_ ?_<;>intro h
   ·refine VW.skip <| sq <| VW.block ?_
    obtain⟨e,h⟩:=gS h
    refine nR K (pu 2 (an e (tn 2))) ?_
    refine cnd h ?_ ?_<;>intro h
    ·refine nR K (tn 2) ?_
     cases h;exact VW.ret (rt [none])
    refine VW.skip <| nE K (tn 3) ?_
    exact aro [.ren [0,1,2,8] []] ⟨(wr (a+(1:Int))),rfl,h⟩
   refine VW.exit ?_
   exact arv [.ren [0,1,2] []] ⟨rfl,h⟩
 rintro s ⟨rfl,h⟩
 unfold F24_j0 at h
 refine sq <| VW.region <| nG K 3 (tn 3) ?_
 obtain⟨f,hy,h⟩:=aS h
 refine clc false [.t (.sl Y99), .t B3, .t (.sl Y50), .t B0] [] (some 36) K (ok63 N _ _ _ _ hy) <| nN K (tn 5) <| sq <| nR K (tn 2) ?_
 refine cnd h ?_ ?_<;>intro h
 ·refine nR K (tn 2) ?_
  cases h;exact VW.ret (rt [none])
 refine VW.skip <| sq <| VW.region <| nG K 1 (tn 1) ?_
 obtain⟨g,hy,h⟩:=aS h
 refine clc false [.t B2] [] (some 42) K (ok64 N _ hy) <| nN K (tn 2) ?_
 cases h;exact VW.ret (rt [some 0])
def F71_j0 (N:Nat) (a0:(List Z99)):Option (Bool) :=
  some (decide ((a0.length:Int)≤(8:Int)))
def F71_j1 (N:Nat) (a:Int→Int→Option (Bool)) (b:Int) (c:Int):Option (Bool) :=
  a b (IntKind.i64.wrap (c+(1:Int)))
def F71_l0_b (N:Nat) (a0:(List Z99)) (c:Int→Int→Option (Bool)) (b:Int) (a:Int):Option (Bool) :=
  cond (decide (a < b)) (gd (InR a a0.length) (andO (F127 N ((a0.getD a.toNat (Ty.dflt Y99)).1)) fun d=>cond (!d) (some false) (andO (F80 N ((a0.getD a.toNat (Ty.dflt Y99)).2) (1:Int) (6:Int)) fun e=>cond (!e) (some false) (cond (decide (a > (0:Int))) (gd (InR (IntKind.i64.wrap (a - (1:Int))) a0.length) (cond (!(Op.bytesLess ((a0.getD (IntKind.i64.wrap (a - (1:Int))).toNat (Ty.dflt Y99)).1).toList ((a0.getD a.toNat (Ty.dflt Y99)).1).toList)) (some false) (F71_j1 N c b a))) (F71_j1 N c b a))))) (F71_j0 N a0)
def F71_l0 (N:Nat) (a0:(List Z99)):=loopF (F71_l0_b N a0) (fun _ _=>none)
theorem F71_l0_s {N a0 k} (hk:0 < k:=by omega):F71_l0 N a0 k=F71_l0_b N a0 (F71_l0 N a0 (k - 1)):=lS hk
def F71 (N:Nat) (a0:(List Z99)):Option (Bool) :=
  F71_l0 N a0 N (a0.length:Int) (0:Int)
theorem ok71 N a0 {r} (h:F71 N a0=some r):Con prog 71 [Vv (.sl Y99) a0] [.lf (.v .bool r)]:=by
 refine ctr [.lf (.v .bool)] K func71 rfl fun w0 E0 ht=>?_
 unfold F71 at h
 show VW _ _ _ _ _ (retQ _ _ _ _) _
 refine nR K (tn 1) ?_
 refine VW.join (fun s=>s=⟨[(0,Vv (.sl Y99) a0)],[]⟩∧F71_j0 N a0=some r) ?_ ?_
 ·refine nR K (tn 3) <| VW.block <| lop (fun k s=>∃c a,s=⟨[(0,Vv (.sl Y99) a0),(5,Vv (.sl Y99) a0),(6,I c),(7,I a)],[]⟩∧F71_l0 N a0 k c a=some r) N [.ren [0,5,6,7] []] ⟨(a0.length:Int),(0:Int),rfl,h⟩ ?_
  rintro f s ⟨c,a,rfl,h⟩
  cases f with
  | zero=>exact nv h
  | succ f =>
   rw [F71_l0_s,F71_l0_b] at h
   refine nR K (tn 1) <| sq ?_
   refine cnd h ?_ ?_<;>intro h
   ·refine VW.skip ?_
    refine VW.join (fun s=>s=⟨[(0,Vv (.sl Y99) a0),(5,Vv (.sl Y99) a0),(6,I c),(7,I a)],[]⟩∧F71_j1 N (F71_l0 N a0 f) c a=some r) ?_ ?_
    ·refine VW.block ?_
     obtain⟨g,h⟩:=gS h
     refine nR K (pu 1 (an g (tn 4))) <| sq ?_
     obtain⟨d,hy94,h⟩:=aS h
     rcases Bool.eq_false_or_eq_true (!d) with hb95 | hb95
     ·replace h:=cond_t h hb95
      refine dr K [(2, .cl [] (some 14) [.lf (.v .bool d)]),(4, .lit true)] [(2,0),(4,0)] [] [0,5,6,7,36] [] (tn 25) ⟨qC false [.t .str] [] [] (some 14) K (ok127 N _ hy94),qB 16 hb95 K trivial,trivial⟩ ?_
      refine VW.cond (b:=true) (by kernel_rfl) (fun _=>?_) (fun h'=>nomatch h')
      refine nR K (tn 1) ?_
      cases h;exact VW.ret (rt [])
     replace h:=cond_f h hb95
     obtain⟨e,hy96,h⟩:=aS h
     rcases Bool.eq_false_or_eq_true (!e) with hb97 | hb97
     ·replace h:=cond_t h hb97
      refine dr K [(2, .cl [] (some 14) [.lf (.v .bool d)]),(4, .lit false),(7, .cl [] (some 19) [.lf (.v .bool e)]),(10, .lit true)] [(2,0),(4,0),(7,0),(10,0)] [] [0,5,6,7,36] [] (tn 25) ⟨qC false [.t .str] [] [] (some 14) K (ok127 N _ hy94),qB 16 hb95 K trivial,qC false [.t B0, .t B0, .t B0] [] [] (some 19) K (ok80 N _ _ _ hy96),qB 22 hb97 K trivial,trivial⟩ ?_
      refine VW.cond (b:=true) (by kernel_rfl) (fun _=>?_) (fun h'=>nomatch h')
      refine nR K (tn 1) ?_
      cases h;exact VW.ret (rt [])
     replace h:=cond_f h hb97
     rcases Bool.eq_false_or_eq_true (decide (a > (0:Int))) with hb98 | hb98
     ·replace h:=cond_t h hb98
      obtain⟨i,h⟩:=gS h
      refine dr K [(2, .cl [] (some 14) [.lf (.v .bool d)]),(4, .lit false),(7, .cl [] (some 19) [.lf (.v .bool e)]),(10, .lit false),(13, .lit true)] [(2,0),(4,0),(7,0),(10,0),(13,0)] [] [0,5,6,7,36] [] (pu 17 (an i (tn 7))) ⟨qC false [.t .str] [] [] (some 14) K (ok127 N _ hy94),qB 16 hb95 K trivial,qC false [.t B0, .t B0, .t B0] [] [] (some 19) K (ok80 N _ _ _ hy96),qB 22 hb97 K trivial,qB 25 hb98 K trivial,trivial⟩ ?_
      refine cnd h ?_ ?_<;>intro h
      ·refine nR K (tn 1) ?_
       cases h;exact VW.ret (rt [])
      refine VW.skip ?_
      exact arv [.ren [0,5,6,7] []] ⟨rfl,h⟩
     replace h:=cond_f h hb98
     refine dr K [(2, .cl [] (some 14) [.lf (.v .bool d)]),(4, .lit false),(7, .cl [] (some 19) [.lf (.v .bool e)]),(10, .lit false),(13, .lit false)] [(2,0),(4,0),(7,0),(10,0),(13,0)] [] [0,5,6,7,36] [] (tn 25) ⟨qC false [.t .str] [] [] (some 14) K (ok127 N _ hy94),qB 16 hb95 K trivial,qC false [.t B0, .t B0, .t B0] [] [] (some 19) K (ok80 N _ _ _ hy96),qB 22 hb97 K trivial,qB 25 hb98 K trivial,trivial⟩ ?_
     refine VW.cond (b:=false) (by kernel_rfl) (fun h'=>nomatch h') (fun _=>?_)
     refine VW.skip ?_
     exact arv [.ren [0,5,6,7] []] ⟨rfl,h⟩
    rintro s ⟨rfl,h⟩
    unfold F71_j1 at h
    refine nE K (tn 2) ?_
    exact aro [.ren [0,5,6,7] []] ⟨c,(wr (a+(1:Int))),rfl,h⟩
   refine VW.exit ?_
   exact arv [.ren [0] []] ⟨rfl,h⟩
 rintro s ⟨rfl,h⟩
 unfold F71_j0 at h
 refine nR K (tn 4) ?_
 cases h;exact VW.ret (rt [])
def F116 (N:Nat) (a0:Int):Option (Bool) :=
  andO (F133 N a0) fun a=>cond a (some true) (some (a0 == (-2000000:Int)))
theorem ok116 N a0 {r} (h:F116 N a0=some r):Con prog 116 [I a0] [.lf (.v .bool r)]:=by
 refine ctr [.lf (.v .bool)] K func116 rfl fun w0 E0 ht=>?_
 unfold F116 at h
 show VW _ _ _ _ _ (retQ _ _ _ _) _
 refine nR K (tn 1) <| sq <| VW.region <| nG K 1 (tn 1) ?_
 obtain⟨a,hy,h⟩:=aS h
 refine clc false [.t B0] [] (some 4) K (ok133 N _ hy) <| nG K 1 (tn 1) ?_
 refine spC 5 h ?_ ?_<;>intro h
 ·refine nN K (tn 4) ?_
  cases h;exact VW.ret (rt [])
 refine nN K (tn 4) ?_
 cases h;exact VW.ret (rt [])
def F115 (N:Nat) (a0:Int):Option (Bool) :=
  andO (F116 N a0) fun a=>some (!a)
theorem ok115 N a0 {r} (h:F115 N a0=some r):Con prog 115 [I a0] [.lf (.v .bool r)]:=by
 refine ctr [.lf (.v .bool)] K func115 rfl fun w0 E0 ht=>?_
 unfold F115 at h
 show VW _ _ _ _ _ (retQ _ _ _ _) _
 refine nR K (tn 1) <| sq <| VW.region <| nG K 1 (tn 1) ?_
 obtain⟨a,hy,h⟩:=aS h
 refine clc false [.t B0] [] (some 4) K (ok116 N _ hy) <| nN K (tn 2) ?_
 cases h;exact VW.ret (rt [])
def F65_j0 (N:Nat):Option (Bool) :=
  some true
def F65_j1 (N:Nat) (a:Int→Int→Option (Bool)) (b:Int) (c:Int):Option (Bool) :=
  a b (IntKind.i64.wrap (c+(1:Int)))
def F65_l0_b (N:Nat) (a0:(List Z99)) (e:Int→Int→Option (Bool)) (g:Int) (c:Int) (f:L2→Int→Int→Option (Bool)) (b:L2) (d:Int) (a:Int):Option (Bool) :=
  cond (decide (a < d)) (gd (InR a b.length) (gd (InR c a0.length) (cond (((b.getD a.toNat (Ty.dflt B1)).length:Int) != ((a0.getD c.toNat (Ty.dflt Y99)).2)) (some false) (andO (F114 N (b.getD a.toNat (Ty.dflt B1)) (fun z0=>F115 N z0)) fun h=>cond h (some false) (f b d (IntKind.i64.wrap (a+(1:Int)))))))) (F65_j1 N e g c)
def F65_l0 (N:Nat) (a0:(List Z99)) (a:Int→Int→Option (Bool)) (b:Int) (c:Int):=loopF (F65_l0_b N a0 a b c) (fun _ _ _=>none)
theorem F65_l0_s {N a0 a b c k} (hk:0 < k:=by omega):F65_l0 N a0 a b c k=F65_l0_b N a0 a b c (F65_l0 N a0 a b c (k - 1)):=lS hk
def F65_l1_b (N:Nat) (a0:(List Z99)) (a1:L3) (c:Int→Int→Option (Bool)) (b:Int) (a:Int):Option (Bool) :=
  cond (decide (a < b)) (gd (InR a a1.length) (cond (decide (((a1.getD a.toNat (Ty.dflt B2)).length:Int) > (40:Int))) (some false) (F65_l0 N a0 c b a N (a1.getD a.toNat (Ty.dflt B2)) ((a1.getD a.toNat (Ty.dflt B2)).length:Int) (0:Int)))) (F65_j0 N)
def F65_l1 (N:Nat) (a0:(List Z99)) (a1:L3):=loopF (F65_l1_b N a0 a1) (fun _ _=>none)
theorem F65_l1_s {N a0 a1 k} (hk:0 < k:=by omega):F65_l1 N a0 a1 k=F65_l1_b N a0 a1 (F65_l1 N a0 a1 (k - 1)):=lS hk
def F65 (N:Nat) (a0:(List Z99)) (a1:L3):Option (Bool) :=
  andO (F71 N a0) fun a=>cond (!a) (some false) (cond ((a1.length:Int) != (a0.length:Int)) (some false) (F65_l1 N a0 a1 N (a1.length:Int) (0:Int)))
theorem ok65 N a0 a1 {r} (h:F65 N a0 a1=some r):Con prog 65 [Vv (.sl Y99) a0,Vv B3 a1] [.lf (.v .bool r)]:=by
 refine ctr [.lf (.v .bool)] K func65 rfl fun w0 E0 ht=>?_
 unfold F65 at h
 show VW _ _ _ _ _ (retQ _ _ _ _) _
 refine nR K (tn 1) <| sq <| sq <| VW.region <| nG K 1 (tn 1) ?_
 obtain⟨p,hy,h⟩:=aS h
 refine clc false [.t (.sl Y99)] [] (some 10) K (ok71 N _ hy) <| nG K 2 (tn 2) ?_
 refine spC 12 h ?_ ?_<;>intro h
 ·refine nN K (tn 6) ?_
  refine VW.cond (b:=true) (by kernel_rfl) (fun _=>?_) (fun h'=>nomatch h')
  refine nR K (tn 1) ?_
  cases h;exact VW.ret (rt [])
 refine nN K (tn 6) ?_
 refine cnd h ?_ ?_<;>intro h
 ·refine nR K (tn 1) ?_
  cases h;exact VW.ret (rt [])
 refine VW.skip ?_
 refine VW.join (fun s=>s=⟨[],[]⟩∧F65_j0 N=some r) ?_ ?_
 ·refine nR K (tn 3) <| VW.block <| lop (fun k s=>∃c a,s=⟨[(0,Vv (.sl Y99) a0),(19,Vv B3 a1),(20,I c),(21,I a)],[]⟩∧F65_l1 N a0 a1 k c a=some r) N [.ren [0,19,20,21] []] ⟨(a1.length:Int),(0:Int),rfl,h⟩ ?_
  rintro e s ⟨c,a,rfl,h⟩
  cases e with
  | zero=>exact nv h
  | succ e =>
   rw [F65_l1_s,F65_l1_b] at h
   refine nR K (tn 1) <| sq ?_
   refine cnd h ?_ ?_<;>intro h
   ·refine VW.skip ?_
    refine VW.join (fun s=>s=⟨[(0,Vv (.sl Y99) a0),(19,Vv B3 a1),(20,I c),(21,I a)],[]⟩∧F65_j1 N (F65_l1 N a0 a1 e) c a=some r) ?_ ?_
    ·refine VW.block ?_
     obtain⟨m,h⟩:=gS h
     refine nR K (pu 1 (an m (tn 3))) <| sq <| nR K (tn 3) ?_
     refine cnd h ?_ ?_<;>intro h
     ·refine nR K (tn 1) ?_
      cases h;exact VW.ret (rt [])
     refine VW.skip <| nR K (tn 3) <| VW.block <| lop (fun k s=>∃f g i,s=⟨[(0,Vv (.sl Y99) a0),(5,I a),(19,Vv B3 a1),(20,I c),(21,I a),(29,Vv B2 f),(30,I g),(31,I i)],[]⟩∧F65_l0 N a0 (F65_l1 N a0 a1 e) c a k f g i=some r) N [.ren [0,5,19,20,21,29,30,31] []] ⟨(a1.getD a.toNat (Ty.dflt B2)),((a1.getD a.toNat (Ty.dflt B2)).length:Int),(0:Int),rfl,h⟩ ?_
     rintro l s ⟨f,g,i,rfl,h⟩
     cases l with
     | zero=>exact nv h
     | succ l =>
      rw [F65_l0_s,F65_l0_b] at h
      refine nR K (tn 1) <| sq ?_
      refine cnd h ?_ ?_<;>intro h
      ·refine VW.skip <| sq <| VW.block ?_
       obtain⟨n,h⟩:=gS h
       refine nR K (an n (tn 2)) <| sq <| VW.region ?_
       obtain⟨o,h⟩:=gS h
       refine nG K 9 (pu 4 (an o (tn 4))) ?_
       refine spC 43 h ?_ ?_<;>intro h
       ·refine nN K (tn 3) ?_
        refine VW.cond (b:=true) (by kernel_rfl) (fun _=>?_) (fun h'=>nomatch h')
        refine nR K (tn 1) ?_
        cases h;exact VW.ret (rt [])
       refine nG K 1 (tn 1) <| VO.on (j:=8) (want:=false) (d:=43) (b:=false) rfl rfl rfl (by kernel_rfl) rfl ?_
       obtain⟨q,hy,h⟩:=aS h
       refine clc false [.t B1, .clo []] [] (some 45) K (ok114 N _ 115  (fun z0=>F115 N z0) (fun z0 _ hz=>ok115 N z0 hz) hy) <| nN K (tn 1) ?_
       refine cnd h ?_ ?_<;>intro h
       ·refine nR K (tn 1) ?_
        cases h;exact VW.ret (rt [])
       refine VW.skip <| nE K (tn 2) ?_
       exact aro [.ren [0,5,19,20,21,29,30,31] []] ⟨f,g,(wr (i+(1:Int))),rfl,h⟩
      refine VW.exit ?_
      exact arv [.ren [0,19,20,21] []] ⟨rfl,h⟩
    rintro s ⟨rfl,h⟩
    unfold F65_j1 at h
    refine nE K (tn 2) ?_
    exact aro [.ren [0,19,20,21] []] ⟨c,(wr (a+(1:Int))),rfl,h⟩
   refine VW.exit ?_
   exact arv [.ren [] []] ⟨rfl,h⟩
 rintro s ⟨rfl,h⟩
 unfold F65_j0 at h
 refine nR K (tn 1) ?_
 cases h;exact VW.ret (rt [])
def F117_j0 (N:Nat) (a:L1):Option (L1) :=
  some a
def F117_l0_b (N:Nat) (a0:(List Z50)) (e:Int) (d:L1→Int→Int→Option (L1)) (a:L1) (b:Int) (c:Int):Option (L1) :=
  cond (decide (c < e)) (gd (a.length+([b]).length≤lim (.int .i64)) (andO (F83 N a0 b (1:Int)) fun f=>d (a++([b])) f (IntKind.i64.wrap (c+(1:Int))))) (F117_j0 N a)
def F117_l0 (N:Nat) (a0:(List Z50)) (a:Int):=loopF (F117_l0_b N a0 a) (fun _ _ _=>none)
theorem F117_l0_s {N a0 a k} (hk:0 < k:=by omega):F117_l0 N a0 a k=F117_l0_b N a0 a (F117_l0 N a0 a (k - 1)):=lS hk
def F117 (N:Nat) (a0:(List Z50)) (a1:Int):Option (L1) :=
  gd (InR a1 a0.length) (andO (F135 N ((a0.getD a1.toNat (Ty.dflt Y50)).1)) fun a=>F117_l0 N a0 a N ([]) (IntKind.i64.wrap (a1+(1:Int))) (0:Int))
theorem ok117 N a0 a1 {r} (h:F117 N a0 a1=some r):Con prog 117 [Vv (.sl Y50) a0,I a1] [.lf (.own B0 r .dp)]:=by
 refine ctr [.lf (.own B0 .dp)] K func117 rfl fun w0 E0 ht=>?_
 unfold F117 at h
 show VW _ _ _ _ _ (retQ _ _ _ _) _
 refine nR K (tn 1) <| nR K (tn 1) <| nR K (tn 3) ?_
 refine VW.join (fun s=>∃d,s=⟨[(5,hh 0)],[ar 0 B0 d .dp]⟩∧F117_j0 N d=some r) ?_ ?_
 ·refine sq <| VW.region ?_
  obtain⟨g,h⟩:=gS h
  refine nG K 5 (pu 2 (an g (tn 2))) ?_
  obtain⟨f,hy,h⟩:=aS h
  refine clc false [.t B0] [] (some 14) K (ok135 N _ hy) <| nN K (tn 1) <| VW.block <| lop (fun k s=>∃a b c,s=⟨[(0,Vv (.sl Y50) a0),(5,hh 0),(6,I b),(14,I f),(15,I c)],[ar 0 B0 a .dp]⟩∧F117_l0 N a0 f k a b c=some r) N [.nilS 5 B0 .dp, .ren [0,5,6,14,15] [0]] ⟨[],(wr (a1+(1:Int))),(0:Int),rfl,h⟩ ?_
  rintro e s ⟨a,b,c,rfl,h⟩
  cases e with
  | zero=>exact nv h
  | succ e =>
   rw [F117_l0_s,F117_l0_b] at h
   refine nR K (tn 1) <| sq ?_
   refine cnd h ?_ ?_<;>intro h
   ·refine VW.skip <| sq <| VW.block ?_
    obtain⟨i,h⟩:=gS h
    refine nR K (pu 3 (an i (tn 1))) <| VW.region <| nG K 2 (tn 2) ?_
    obtain⟨j,hy,h⟩:=aS h
    refine clc false [.t (.sl Y50), .t B0, .t B0] [] (some 23) K (ok83 N _ _ _ hy) <| nN K (tn 1) <| nE K (tn 2) ?_
    exact aro [.ren [0,5,6,14,15] [0]] ⟨(a++([b])),j,(wr (c+(1:Int))),rfl,h⟩
   refine VW.exit ?_
   exact arv [.ren [5] [0]] ⟨a,rfl,h⟩
 rintro s ⟨d,rfl,h⟩
 unfold F117_j0 at h
 refine nR K (tn 2) ?_
 cases h;exact VW.ret (rt [some 0])
def F168_j0 (N:Nat):Option (Int) :=
  some (-1:Int)
def F168_l0_b (N:Nat) (a0:(List Z99)) (p1:Z99→Option (Bool)) (c:Int→Int→Option (Int)) (b:Int) (a:Int):Option (Int) :=
  cond (decide (a < b)) (gd (InR a a0.length) (andO (p1 (a0.getD a.toNat (Ty.dflt Y99))) fun d=>cond d (some a) (c b (IntKind.i64.wrap (a+(1:Int)))))) (F168_j0 N)
def F168_l0 (N:Nat) (a0:(List Z99)) (p1:Z99→Option (Bool)):=loopF (F168_l0_b N a0 p1) (fun _ _=>none)
theorem F168_l0_s {N a0} {p1:Z99→Option (Bool)} {k} (hk:0 < k:=by omega):F168_l0 N a0 p1 k=F168_l0_b N a0 p1 (F168_l0 N a0 p1 (k - 1)):=lS hk
def F168 (N:Nat) (a0:(List Z99)) (p1:Z99→Option (Bool)):Option (Int) :=
  F168_l0 N a0 p1 N (a0.length:Int) (0:Int)
theorem ok168_c1 N a0 (c:FuncId) e1_0 (p1:Z99→Option (Bool)) (hp1:∀(z0:Z99) (r:Bool),p1 z0=some r→Con prog c [.agg (lv Y99 z0), .lf (.fp .str e1_0 0)] [.lf (.v .bool r)]) {r} (h:F168 N a0 p1=some r):Con prog 168 [Vv (.sl Y99) a0, .clo c [.lf (.fp .str e1_0 0)]] [.lf (.v B0 r)]:=by
 refine ctr [.lf (.v B0)] K func168 rfl fun w0 E0 ht=>?_
 unfold F168 at h
 show VW _ _ _ _ _ (retQ _ _ _ _) _
 refine nR K (tn 1) ?_
 refine VW.join (fun s=>s=⟨[],[]⟩∧F168_j0 N=some r) ?_ ?_
 ·refine nR K (tn 3) <| VW.block <| lop (fun k s=>∃a b,s=⟨[(0,Vv (.sl Y99) a0),(1, .clo c [.lf (.fp .str e1_0 0)]),(7,I a),(8,I b)],[]⟩∧F168_l0 N a0 p1 k a b=some r) N [.ren [0,1,7,8] []] ⟨(a0.length:Int),(0:Int),rfl,h⟩ ?_
  rintro d s ⟨a,b,rfl,h⟩
  cases d with
  | zero=>exact nv h
  | succ d =>
   rw [F168_l0_s,F168_l0_b] at h
   refine nR K (tn 1) <| sq ?_
   refine cnd h ?_ ?_<;>intro h
   ·refine VW.skip <| sq <| VW.block <| nR K (tn 2) <| sq <| VW.region ?_
    obtain⟨e,h⟩:=gS h
    refine nG K 5 (pu 3 (an e (tn 1))) ?_
    obtain⟨f,hy,h⟩:=aS h
    refine clc false [.t Y99] [.k] (some 16) K (hp1 _ _ hy) <| nN K (tn 0) ?_
    refine cnd h ?_ ?_<;>intro h
    ·refine nR K (tn 2) ?_
     cases h;exact VW.ret (rt [])
    refine VW.skip <| nE K (tn 2) ?_
    exact aro [.ren [0,1,7,8] []] ⟨a,(wr (b+(1:Int))),rfl,h⟩
   refine VW.exit ?_
   exact arv [.ren [] []] ⟨rfl,h⟩
 rintro s ⟨rfl,h⟩
 unfold F168_j0 at h
 refine nR K (tn 1) ?_
 cases h;exact VW.ret (rt [])
def F169 (N:Nat) (a0:Z99) (c0:ByteArray):Option (Bool) :=
  some (a0.1.toList == c0.toList)
theorem ok169 N a0 c0 {r} (h:F169 N a0 c0=some r):Con prog 169 [.agg (lv Y99 a0), .lf (.fp .str c0 0)] [.lf (.v .bool r)]:=by
 refine ctr [.lf (.v .bool)] K func169 rfl fun w0 E0 ht=>?_
 unfold F169 at h
 show VW _ _ _ _ _ (retQ _ _ _ _) _
 refine nR K (tn 2) <| nR K (tn 5) ?_
 cases h;exact VW.ret (rt [])
def F118 (N:Nat) (a0:(List Z99)) (a1:ByteArray):Option (Int) :=
  andO (F168 N a0 (fun z0=>F169 N z0 a1)) fun a=>some a
theorem ok118 N a0 a1 {r} (h:F118 N a0 a1=some r):Con prog 118 [Vv (.sl Y99) a0,S a1] [.lf (.v B0 r)]:=by
 refine ctr [.lf (.v B0)] K func118 rfl fun w0 E0 ht=>?_
 unfold F118 at h
 show VW _ _ _ _ _ (retQ _ _ _ _) _
 refine nR K (tn 2) <| sq <| VW.region <| nG K 2 (tn 2) ?_
 obtain⟨a,hy,h⟩:=aS h
 refine VO.ghl [.frzB 0 .str] <| clc false [.t (.sl Y99), .clo [.k]] [] (some 7) K (ok168_c1 N _ 169 a1 (fun z0=>F169 N z0 a1) (fun z0 _ hz=>ok169 N z0 _ hz) hy) <| nN K (tn 1) ?_
 cases h;exact VW.ret (rt [])
def F128_j0 (N:Nat) (a:Int):Option (Int) :=
  some a
def F128_l0_b (N:Nat) (a0:L1) (c:Int→Int→Option (Int)) (b:Int) (a:Int):Option (Int) :=
  cond (decide (a < (a0.length:Int))) (gd (InR a a0.length) (c (if (b:Int) < (a0.getD a.toNat (Ty.dflt B0)) then (a0.getD a.toNat (Ty.dflt B0)) else b) (IntKind.i64.wrap (a+(1:Int))))) (F128_j0 N b)
def F128_l0 (N:Nat) (a0:L1):=loopF (F128_l0_b N a0) (fun _ _=>none)
theorem F128_l0_s {N a0 k} (hk:0 < k:=by omega):F128_l0 N a0 k=F128_l0_b N a0 (F128_l0 N a0 (k - 1)):=lS hk
def F128 (N:Nat) (a0:L1):Option (Int) :=
  cond (decide ((a0.length:Int) < (1:Int))) (none) (gd (InR (0:Int) a0.length) (F128_l0 N a0 N (a0.getD (0:Int).toNat (Ty.dflt B0)) (1:Int)))
theorem ok128 N a0 {r} (h:F128 N a0=some r):Con prog 128 [Vv B1 a0] [.lf (.v B0 r)]:=by
 refine ctr [.lf (.v B0)] K func128 rfl fun w0 E0 ht=>?_
 unfold F128 at h
 show VW _ _ _ _ _ (retQ _ _ _ _) _
 refine nR K (tn 1) <| sq <| nR K (tn 3) ?_
 refine cnd h ?_ ?_<;>intro h
 ·exact nomatch h
 refine VW.skip ?_
 obtain⟨e,h⟩:=gS h
 refine nR K (pu 1 (an e (tn 2))) ?_
 refine VW.join (fun s=>∃c,s=⟨[(3,I c)],[]⟩∧F128_j0 N c=some r) ?_ ?_
 ·refine nR K (tn 1) <| VW.block <| lop (fun k s=>∃a b,s=⟨[(0,Vv B1 a0),(3,I a),(4,I b)],[]⟩∧F128_l0 N a0 k a b=some r) N [.ren [0,3,4] []] ⟨(a0.getD (0:Int).toNat (Ty.dflt B0)),(1:Int),rfl,h⟩ ?_
  rintro d s ⟨a,b,rfl,h⟩
  cases d with
  | zero=>exact nv h
  | succ d =>
   rw [F128_l0_s,F128_l0_b] at h
   refine sq <| nR K (tn 4) ?_
   refine cnd h ?_ ?_<;>intro h
   ·refine VW.skip <| sq <| VW.block ?_
    obtain⟨f,h⟩:=gS h
    refine nE K (pu 3 (an f (tn 3))) <| nE K (tn 3) ?_
    exact aro [.ren [0,3,4] []] ⟨(if (a:Int) < (a0.getD b.toNat (Ty.dflt B0)) then (a0.getD b.toNat (Ty.dflt B0)) else a),(wr (b+(1:Int))),rfl,h⟩
   refine VW.exit ?_
   exact arv [.ren [3] []] ⟨a,rfl,h⟩
 rintro s ⟨c,rfl,h⟩
 unfold F128_j0 at h
 refine nR K (tn 2) ?_
 cases h;exact VW.ret (rt [])
def F72_j0 (N:Nat) (a:L1):Option (Int) :=
  gd (InR (0:Int) a.length) (gd ((0:Int).toNat < a.length) (some (a.getD ((0:Int).toNat) (Ty.dflt B0))))
def F72_j1 (N:Nat) (a:L1) (h:Int) (i:ByteArray) (c:Int) (j:Int) (e:Int) (k:Bool) (d:L1) (b:Int) (f:Bool):Option (Int) :=
  cond f (gd (InR (0:Int) a.length) (gd ((0:Int).toNat < a.length) (cond (decide (c≥(a.getD ((0:Int).toNat) (Ty.dflt B0)))) (some (-1:Int)) (F72_j0 N a)))) (cond (b == (2:Int)) (andO (F128 N d) fun g=>gd (InR (0:Int) a.length) (gd ((0:Int).toNat < a.length) (cond (decide (g≥(a.getD ((0:Int).toNat) (Ty.dflt B0)))) (some (-1:Int)) (some (d.length:Int))))) (cond (b == (3:Int)) (gd (InR (0:Int) a.length) (gd ((0:Int).toNat < a.length) (cond (decide (c≥(a.getD ((0:Int).toNat) (Ty.dflt B0)))) (some (-1:Int)) (gd (InR (1:Int) a.length) (gd ((1:Int).toNat < a.length) (cond (decide (e≥(a.getD ((1:Int).toNat) (Ty.dflt B0)))) (some (-1:Int)) (gd (InR (0:Int) a.length) (gd ((0:Int).toNat < a.length) (gd (InR (1:Int) a.length) (gd ((1:Int).toNat < a.length) (cond (decide ((IntKind.i64.wrap ((a.getD ((0:Int).toNat) (Ty.dflt B0))+(a.getD ((1:Int).toNat) (Ty.dflt B0)))) > (64:Int))) (some (-1:Int)) (gd (InR (0:Int) a.length) (gd ((0:Int).toNat < a.length) (gd (InR (1:Int) a.length) (gd ((1:Int).toNat < a.length) (some (IntKind.i64.wrap ((a.getD ((0:Int).toNat) (Ty.dflt B0))+(a.getD ((1:Int).toNat) (Ty.dflt B0)))))))))))))))))))) (cond (b == (4:Int)) (gd (InR (0:Int) a.length) (gd ((0:Int).toNat < a.length) (gd (InR (1:Int) a.length) (gd ((1:Int).toNat < a.length) (cond ((a.getD ((0:Int).toNat) (Ty.dflt B0)) != (a.getD ((1:Int).toNat) (Ty.dflt B0))) (some (-1:Int)) (F72_j0 N a)))))) (F72_j0 N a))))
def F72_j2 (N:Nat) (a0:(List Z99)) (a1:(List Z50)) (a2:Int) (b:L1):Option (Int) :=
  gd (InR a2 a1.length) (cond (((a1.getD a2.toNat (Ty.dflt Y50)).1) == (0:Int)) (andO (F118 N a0 ((a1.getD a2.toNat (Ty.dflt Y50)).2.1)) fun a=>cond (decide (a < (0:Int))) (some (-1:Int)) (gd (InR a a0.length) (some ((a0.getD a.toNat (Ty.dflt Y99)).2)))) (cond (((a1.getD a2.toNat (Ty.dflt Y50)).1) == (1:Int)) (F72_j1 N b ((a1.getD a2.toNat (Ty.dflt Y50)).1) ((a1.getD a2.toNat (Ty.dflt Y50)).2.1) ((a1.getD a2.toNat (Ty.dflt Y50)).2.2.1) ((a1.getD a2.toNat (Ty.dflt Y50)).2.2.2.1) ((a1.getD a2.toNat (Ty.dflt Y50)).2.2.2.2.1) ((a1.getD a2.toNat (Ty.dflt Y50)).2.2.2.2.2.1) ((a1.getD a2.toNat (Ty.dflt Y50)).2.2.2.2.2.2) ((a1.getD a2.toNat (Ty.dflt Y50)).1) (((a1.getD a2.toNat (Ty.dflt Y50)).1) == (1:Int))) (F72_j1 N b ((a1.getD a2.toNat (Ty.dflt Y50)).1) ((a1.getD a2.toNat (Ty.dflt Y50)).2.1) ((a1.getD a2.toNat (Ty.dflt Y50)).2.2.1) ((a1.getD a2.toNat (Ty.dflt Y50)).2.2.2.1) ((a1.getD a2.toNat (Ty.dflt Y50)).2.2.2.2.1) ((a1.getD a2.toNat (Ty.dflt Y50)).2.2.2.2.2.1) ((a1.getD a2.toNat (Ty.dflt Y50)).2.2.2.2.2.2) ((a1.getD a2.toNat (Ty.dflt Y50)).1) (((a1.getD a2.toNat (Ty.dflt Y50)).1) == (5:Int)))))
def F72_l0_b (N:Nat) (a0:(List Z99)) (a1:(List Z50)) (a2:Int) (self:(List Z99)→(List Z50)→Int→Option (Int)) (c:L1) (f:L1→Int→Int→Option (Int)) (b:L1) (e:Int) (a:Int):Option (Int) :=
  cond (decide (a < e)) (gd (InR a c.length) (gd (a.toNat < c.length) (andO (self a0 a1 (c.getD a.toNat (Ty.dflt B0))) fun d=>cond (decide (d < (0:Int))) (some (-1:Int)) (gd (b.length+([d]).length≤lim (.int .i64)) (f (b++([d])) e (IntKind.i64.wrap (a+(1:Int)))))))) (F72_j2 N a0 a1 a2 b)
def F72_l0 (N:Nat) (a0:(List Z99)) (a1:(List Z50)) (a2:Int) (self:(List Z99)→(List Z50)→Int→Option (Int)) (a:L1):=loopF (F72_l0_b N a0 a1 a2 self a) (fun _ _ _=>none)
theorem F72_l0_s {N a0 a1 a2} {self:(List Z99)→(List Z50)→Int→Option (Int)} {a k} (hk:0 < k:=by omega):F72_l0 N a0 a1 a2 self a k=F72_l0_b N a0 a1 a2 self a (F72_l0 N a0 a1 a2 self a (k - 1)):=lS hk
def F72_b (N:Nat) (self:(List Z99)→(List Z50)→Int→Option (Int)) (a0:(List Z99)) (a1:(List Z50)) (a2:Int):Option (Int) :=
  andO (F117 N a1 a2) fun a=>F72_l0 N a0 a1 a2 self a N ([]) (a.length:Int) (0:Int)
theorem ok72_b (N:Nat) (self:(List Z99)→(List Z50)→Int→Option (Int)) (ih:∀(a0:(List Z99)) (a1:(List Z50)) (a2:Int) (r:Int),self a0 a1 a2=some r→Con prog 72 [Vv (.sl Y99) a0,Vv (.sl Y50) a1,I a2] [.lf (.v B0 r)]) (a0:(List Z99)) (a1:(List Z50)) (a2:Int) {r:Int} (h:F72_b N self a0 a1 a2=some r):Con prog 72 [Vv (.sl Y99) a0,Vv (.sl Y50) a1,I a2] [.lf (.v B0 r)]:=by
 refine ctr [.lf (.v B0)] K func72 rfl fun w0 E0 ht=>?_
 unfold F72_b at h
 show VW _ _ _ _ _ (retQ _ _ _ _) _
 refine nR K (tn 1) <| nR K (tn 1) ?_
 refine VW.join (fun s=>∃a,s=⟨[(0,Vv (.sl Y99) a0),(1,Vv (.sl Y50) a1),(2,I a2),(7,hh 0)],[ar 0 B0 a .dp]⟩∧F72_j2 N a0 a1 a2 a=some r) ?_ ?_
 ·refine sq <| VW.region <| nG K 2 (tn 2) ?_
  obtain⟨w,hy,h⟩:=aS h
  refine clc false [.t (.sl Y50), .t B0] [] (some 15) K (ok117 N _ _ hy) <| nN K (tn 2) <| VW.block <| lop (fun k s=>∃c d e,s=⟨[(0,Vv (.sl Y99) a0),(1,Vv (.sl Y50) a1),(2,I a2),(7,hh 0),(15,hh 1),(16,I d),(17,I e)],[ar 0 B0 c .dp,ar 0 B0 w .dp]⟩∧F72_l0 N a0 a1 a2 self w k c d e=some r) N [.nilS 7 B0 .dp, .ren [0,1,2,7,15,16,17] [1,0]] ⟨[],(w.length:Int),(0:Int),rfl,h⟩ ?_
  rintro z s ⟨c,d,e,rfl,h⟩
  cases z with
  | zero=>exact nv h
  | succ z =>
   rw [F72_l0_s,F72_l0_b] at h
   refine nR K (tn 1) <| sq ?_
   refine cnd h ?_ ?_<;>intro h
   ·refine VW.skip <| sq <| VW.block ?_
    obtain⟨S,T,h⟩:=gT h
    refine nR K (an S (an T (tn 1))) <| sq <| VW.region <| nG K 3 (tn 3) ?_
    obtain⟨a5,hy,h⟩:=aS h
    refine clc false [.t (.sl Y99), .t (.sl Y50), .t B0] [] (some 24) K (ih _ _ _ _ hy) <| nN K (tn 1) <| sq <| nR K (tn 2) ?_
    refine cnd h ?_ ?_<;>intro h
    ·refine nR K (tn 1) ?_
     cases h;exact VW.ret (rt [])
    refine VW.skip ?_
    obtain⟨U,h⟩:=gS h
    refine nE K (pu 3 (an U (tn 1))) <| nE K (tn 2) ?_
    exact aro [.ren [0,1,2,7,15,16,17] [0,1]] ⟨(c++([a5])),d,(wr (e+(1:Int))),rfl,h⟩
   refine VW.exit ?_
   exact arv [.ren [0,1,2,7] [0]] ⟨c,rfl,h⟩
 rintro s ⟨a,rfl,h⟩
 unfold F72_j2 at h
 obtain⟨V,h⟩:=gS h
 refine nR K (pu 2 (an V (tn 3))) ?_
 refine VW.join (fun s=>s=⟨[(7,hh 0)],[ar 0 B0 a .dp]⟩∧F72_j0 N a=some r) ?_ ?_
 ·refine nR K (tn 2) <| VW.block <| nR K (tn 2) ?_
  refine cnd h ?_ ?_<;>intro h
  ·refine sq <| VW.region <| nG K 3 (tn 3) ?_
   obtain⟨a6,hy,h⟩:=aS h
   refine clc false [.t (.sl Y99), .t .str] [] (some 43) K (ok118 N _ _ hy) <| nN K (tn 1) <| sq <| nR K (tn 2) ?_
   refine cnd h ?_ ?_<;>intro h
   ·refine nR K (tn 1) ?_
    cases h;exact VW.ret (rt [])
   refine VW.skip ?_
   obtain⟨Y,h⟩:=gS h
   refine nR K (pu 2 (an Y (tn 3))) ?_
   cases h;exact VW.ret (rt [])
  refine VW.join (fun s=>∃l m f n g o p q u,s=⟨[(7,hh 0),(11, .lf (.ptr 1 0 0 0)),(37,I q),(51,B u)],[ar 0 B0 a .dp,bx [zi l,zs m,zi f,zi n,zi g,zb o, .v B1 p] 51]⟩∧F72_j1 N a l m f n g o p q u=some r) ?_ ?_
  ·refine nR K (tn 2) ?_
   refine cnd h ?_ ?_<;>intro h
   ·refine VW.skip ?_
    exact arv [.ren [7,11,37,51] [0,1]] ⟨(a1.getD a2.toNat D50).1,(a1.getD a2.toNat D50).2.1,(a1.getD a2.toNat D50).2.2.1,(a1.getD a2.toNat D50).2.2.2.1,(a1.getD a2.toNat D50).2.2.2.2.1,(a1.getD a2.toNat D50).2.2.2.2.2.1,(a1.getD a2.toNat D50).2.2.2.2.2.2,(a1.getD a2.toNat D50).1,(((a1.getD a2.toNat D50).1) == (1:Int)),rfl,h⟩
   refine nE K (tn 2) ?_
   exact arv [.ren [7,11,37,51] [0,1]] ⟨(a1.getD a2.toNat D50).1,(a1.getD a2.toNat D50).2.1,(a1.getD a2.toNat D50).2.2.1,(a1.getD a2.toNat D50).2.2.2.1,(a1.getD a2.toNat D50).2.2.2.2.1,(a1.getD a2.toNat D50).2.2.2.2.2.1,(a1.getD a2.toNat D50).2.2.2.2.2.2,(a1.getD a2.toNat D50).1,(((a1.getD a2.toNat D50).1) == (5:Int)),rfl,h⟩
  rintro s ⟨l,m,f,n,g,o,p,q,u,rfl,h⟩
  unfold F72_j1 at h
  refine cnd h ?_ ?_<;>intro h
  ·refine sq ?_
   obtain⟨Z,a3,h⟩:=gT h
   refine dr K [] [] [] [7,59] [0] (pu 3 (an Z (an a3 (tn 1)))) trivial ?_
   refine cnd h ?_ ?_<;>intro h
   ·refine nR K (tn 1) ?_
    cases h;exact VW.ret (rt [])
   refine VW.skip ?_
   exact arv [.ren [7] [0]] ⟨rfl,h⟩
  refine nR K (tn 2) ?_
  refine cnd h ?_ ?_<;>intro h
  ·refine sq <| sq ?_
   obtain⟨a4,hy100,h⟩:=aS h
   obtain⟨A,C,h⟩:=gT h
   refine dr K [(2, .cl [] (some 64) [.lf (.v B0 a4)])] [(2,0)] [] [11,68] [1] (pu 4 (an A (an C (tn 1)))) ⟨qC false [.t B1] [] [] (some 64) K (ok128 N _ hy100),trivial⟩ ?_
   refine cnd h ?_ ?_<;>intro h
   ·refine nR K (tn 1) ?_
    cases h;exact VW.ret (rt [])
   refine VW.skip <| nR K (tn 4) ?_
   cases h;exact VW.ret (rt [])
  refine nR K (tn 2) ?_
  refine cnd h ?_ ?_<;>intro h
  ·refine sq <| sq ?_
   obtain⟨i,j,h⟩:=gT h
   rcases Bool.eq_false_or_eq_true (decide (f≥(a.getD ((0:Int).toNat) (Ty.dflt B0)))) with hb115 | hb115
   ·replace h:=cond_t h hb115
    refine dr K [(6, .lit true)] [(6,0)] [] [7,97] [0] (pu 3 (an i (an j (tn 19)))) ⟨qB 80 hb115 K trivial,trivial⟩ ?_
    refine VW.cond (b:=true) (by kernel_rfl) (fun _=>?_) (fun h'=>nomatch h')
    refine nR K (tn 1) ?_
    cases h;exact VW.ret (rt [])
   replace h:=cond_f h hb115
   obtain⟨x,y,h⟩:=gT h
   rcases Bool.eq_false_or_eq_true (decide (g≥(a.getD ((1:Int).toNat) (Ty.dflt B0)))) with hb118 | hb118
   ·replace h:=cond_t h hb118
    refine dr K [(6, .lit false),(14, .lit true)] [(6,0),(14,0)] [] [7,97] [0] (pu 3 (an i (an j (pu 5 (an x (an y (tn 12))))))) ⟨qB 80 hb115 K trivial,qB 88 hb118 K trivial,trivial⟩ ?_
    refine VW.cond (b:=true) (by kernel_rfl) (fun _=>?_) (fun h'=>nomatch h')
    refine nR K (tn 1) ?_
    cases h;exact VW.ret (rt [])
   replace h:=cond_f h hb118
   obtain⟨D,E,F,G,h⟩:=gV h
   refine dr K [(6, .lit false),(14, .lit false)] [(6,0),(14,0)] [] [7,97] [0] (pu 3 (an i (an j (pu 5 (an x (an y (pu 4 (an D (an E (pu 1 (an F (an G (tn 3))))))))))))) ⟨qB 80 hb115 K trivial,qB 88 hb118 K trivial,trivial⟩ ?_
   refine cnd h ?_ ?_<;>intro h
   ·refine nR K (tn 1) ?_
    cases h;exact VW.ret (rt [])
   refine VW.skip <| sq ?_
   obtain⟨H,J,L,M,h⟩:=gV h
   refine dr K [] [] [] [6] [] (pu 1 (an H (an J (pu 1 (an L (an M (tn 2))))))) trivial ?_
   cases h;exact VW.ret (rt [])
  refine nR K (tn 2) ?_
  refine cnd h ?_ ?_<;>intro h
  ·refine sq ?_
   obtain⟨O,P,Q,R,h⟩:=gV h
   refine dr K [] [] [] [7,113] [0] (pu 1 (an O (an P (pu 1 (an Q (an R (tn 1))))))) trivial ?_
   refine cnd h ?_ ?_<;>intro h
   ·refine nR K (tn 1) ?_
    cases h;exact VW.ret (rt [])
   refine VW.skip ?_
   exact arv [.ren [7] [0]] ⟨rfl,h⟩
  refine VW.skip ?_
  exact arv [.ren [7] [0]] ⟨rfl,h⟩
 rintro s ⟨rfl,h⟩
 unfold F72_j0 at h
 obtain⟨W,X,h⟩:=gT h
 refine nR K (pu 1 (an W (an X (tn 1)))) ?_
 cases h;exact VW.ret (rt [])
def F72_r (N:Nat):=loopF (F72_b N) (fun _ _ _=>none)
theorem F72_s {N k} (hk:0 < k:=by omega):F72_r N k=F72_b N (F72_r N (k - 1)):=lS hk
def F72 (N:Nat):(List Z99)→(List Z50)→Int→Option (Int):=F72_r N N
theorem ok72_k (N:Nat):∀(k:Nat) (a0:(List Z99)) (a1:(List Z50)) (a2:Int) (r:Int),loopF (F72_b N) (fun _ _ _=>none) k a0 a1 a2=some r→Con prog 72 [Vv (.sl Y99) a0,Vv (.sl Y50) a1,I a2] [.lf (.v B0 r)]
 | 0,a0,a1,a2,r,h=>nomatch (show (none:Option (Int))=some r from h)
 | k+1,a0,a1,a2,r,h=>ok72_b N _ (ok72_k N k) a0 a1 a2 h
theorem ok72 N a0 a1 a2 {r} (h:F72 N a0 a1 a2=some r):Con prog 72 [Vv (.sl Y99) a0,Vv (.sl Y50) a1,I a2] [.lf (.v B0 r)]:=ok72_k N N a0 a1 a2 r h
def F27 (N:Nat) (a0:(List Z99)) (a1:(List Z50)):Option (Int) :=
  andO (F71 N a0) fun a=>cond (!a) (some (-1:Int)) (andO (F44 N a1) fun b=>cond (!b) (some (-1:Int)) (andO (F72 N a0 a1 (0:Int)) fun c=>some c))
theorem ok27 N a0 a1 {r} (h:F27 N a0 a1=some r):Con prog 27 [Vv (.sl Y99) a0,Vv (.sl Y50) a1] [.lf (.v B0 r)]:=by
 refine ctr [.lf (.v B0)] K func27 rfl fun w0 E0 ht=>?_
 unfold F27 at h
 show VW _ _ _ _ _ (retQ _ _ _ _) _
 refine nR K (tn 1) <| sq <| sq <| VW.region <| nG K 1 (tn 1) ?_
 obtain⟨a,hy,h⟩:=aS h
 refine clc false [.t (.sl Y99)] [] (some 6) K (ok71 N _ hy) <| nG K 2 (tn 2) ?_
 refine spC 8 h ?_ ?_<;>intro h
 ·refine nN K (tn 4) ?_
  refine VW.cond (b:=true) (by kernel_rfl) (fun _=>?_) (fun h'=>nomatch h')
  refine nR K (tn 1) ?_
  cases h;exact VW.ret (rt [])
 refine nG K 1 (tn 1) <| VO.on (j:=3) (want:=false) (d:=8) (b:=false) rfl rfl rfl (by kernel_rfl) rfl ?_
 obtain⟨c,hy,h⟩:=aS h
 refine clc false [.t (.sl Y50)] [] (some 10) K (ok44 N _ hy) <| nN K (tn 2) ?_
 refine cnd h ?_ ?_<;>intro h
 ·refine nR K (tn 1) ?_
  cases h;exact VW.ret (rt [])
 refine VW.skip <| sq <| VW.region <| nG K 2 (tn 2) ?_
 obtain⟨e,hy,h⟩:=aS h
 refine clc false [.t (.sl Y99), .t (.sl Y50), .t B0] [] (some 15) K (ok72 N _ _ _ hy) <| nN K (tn 1) ?_
 cases h;exact VW.ret (rt [])
def F66 (N:Nat) (a0:(List Z99)) (a1:(List Z50)):Option (Bool) :=
  andO (F27 N a0 a1) fun a=>some (decide (a≥(0:Int)))
theorem ok66 N a0 a1 {r} (h:F66 N a0 a1=some r):Con prog 66 [Vv (.sl Y99) a0,Vv (.sl Y50) a1] [.lf (.v .bool r)]:=by
 refine ctr [.lf (.v .bool)] K func66 rfl fun w0 E0 ht=>?_
 unfold F66 at h
 show VW _ _ _ _ _ (retQ _ _ _ _) _
 refine nR K (tn 1) <| sq <| VW.region <| nG K 2 (tn 2) ?_
 obtain⟨a,hy,h⟩:=aS h
 refine clc false [.t (.sl Y99), .t (.sl Y50)] [] (some 7) K (ok27 N _ _ hy) <| nN K (tn 2) ?_
 cases h;exact VW.ret (rt [])
def F119 (N:Nat) (a0:Z50) (a1:Int):Option (Bool) :=
  cond (a0.2.2.2.1 == (3:Int)) (some (a1 == (-2000000:Int))) (cond (a0.2.2.2.1 == (0:Int)) (some (a1 == a0.2.2.2.2.1)) (cond (a0.2.2.2.1 == (1:Int)) (cond (a1 != (-2000000:Int)) (some (decide (a1 < a0.2.2.2.2.1))) (some false)) (cond (a1 != (-2000000:Int)) (some (decide (a1 > a0.2.2.2.2.1))) (some false))))
theorem ok119 N a0 a1 {r} (h:F119 N a0 a1=some r):Con prog 119 [.agg (lv Y50 a0),I a1] [.lf (.v .bool r)]:=by
 refine ctr [.lf (.v .bool)] K func119 rfl fun w0 E0 ht=>?_
 unfold F119 at h
 show VW _ _ _ _ _ (retQ _ _ _ _) _
 refine nR K (tn 2) <| sq <| nR K (tn 2) <| VW.block <| nR K (tn 2) ?_
 refine cnd h ?_ ?_<;>intro h
 ·refine nR K (tn 3) ?_
  cases h;exact VW.ret (rt [])
 refine nR K (tn 2) ?_
 refine cnd h ?_ ?_<;>intro h
 ·refine nR K (tn 5) ?_
  cases h;exact VW.ret (rt [])
 refine nR K (tn 2) ?_
 refine cnd h ?_ ?_<;>intro h
 ·refine sq <| VW.region <| nG K 3 (tn 3) ?_
  refine spC 21 h ?_ ?_<;>intro h
  ·refine nN K (tn 6) ?_
   cases h;exact VW.ret (rt [])
  refine nN K (tn 6) ?_
  cases h;exact VW.ret (rt [])
 refine VW.skip <| sq <| VW.region <| nG K 3 (tn 3) ?_
 refine spC 29 h ?_ ?_<;>intro h
 ·refine nN K (tn 6) ?_
  cases h;exact VW.ret (rt [])
 refine nN K (tn 6) ?_
 cases h;exact VW.ret (rt [])
def F170_j0 (N:Nat) (a:L1):Option (L1) :=
  some a
def F170 (N:Nat) (a0:L1) (a1:Int):Option (L1) :=
  cond (decide (a1 < (0:Int))) (none) (cond (decide ((IntKind.i64.wrap (a1 - (IntKind.i64.wrap ((0:Int) - (0:Int))))) > (0:Int))) (gd ((0:Int)=(0:Int)) (gd (0≤(IntKind.i64.wrap (a1 - (IntKind.i64.wrap ((0:Int) - (0:Int)))))∧(IntKind.i64.wrap (a1 - (IntKind.i64.wrap ((0:Int) - (0:Int)))))≤(lim (.int .i64):Int)) (gd (0≤(0:Int)∧(0:Int)≤((List.replicate (IntKind.i64.wrap (a1 - (IntKind.i64.wrap ((0:Int) - (0:Int))))).toNat (Ty.dflt B0)).length:Int)) (F170_j0 N ((List.replicate (IntKind.i64.wrap (a1 - (IntKind.i64.wrap ((0:Int) - (0:Int))))).toNat (Ty.dflt B0)).take ((0:Int).toNat)))))) (F170_j0 N ([])))
theorem ok170 N a0 a1 {r} (h:F170 N a0 a1=some r):Con prog 170 [.lf (.nil),I a1] [.lf (.own B0 r .dp)]:=by
 refine ctr [.lf (.own B0 .dp)] K func170 rfl fun w0 E0 ht=>?_
 unfold F170 at h
 show VW _ _ _ _ _ (retQ _ _ _ _) _
 refine nR K (tn 1) <| sq <| nR K (tn 2) ?_
 refine cnd h ?_ ?_<;>intro h
 ·exact nomatch h
 refine VW.skip ?_
 refine VW.join (fun s=>∃a,s=⟨[(0,hh 0)],[ar 0 B0 a .dp]⟩∧F170_j0 N a=some r) ?_ ?_
 ·refine sq <| VW.region <| nG K 2 (tn 2) <| VO.capN (d:=10) (v:=I (0:Int)) K (by kernel_rfl) <| nN K (tn 5) <| nR K (tn 2) ?_
  refine cnd h ?_ ?_<;>intro h
  ·refine VW.region <| nG K 2 (tn 2) <| VO.capN (d:=19) (v:=I (0:Int)) K (by kernel_rfl) ?_
   obtain⟨b,h⟩:=gS h
   refine VO.cutN (d:=20) (φ:=(0:Int)=(0:Int)) (v:= .lf .nil) K (by kernel_rfl) b <| nG K 1 (tn 1) ?_
   obtain⟨c,h⟩:=gS h
   refine VO.appZ (d:=22) (φ:=0≤(wr (a1 - (wr ((0:Int) - (0:Int)))))∧(wr (a1 - (wr ((0:Int) - (0:Int)))))≤(lim (.int .i64):Int)) (v:=hh 0) (H':=[ar 0 B0 (List.replicate (wr (a1 - (wr ((0:Int) - (0:Int))))).toNat (Ty.dflt B0)) .dp]) K (by kernel_rfl) c ?_
   obtain⟨e,h⟩:=gS h
   refine nN K (pu 2 (an e (tn 1))) ?_
   exact arv [.shr 0, .ren [0] [0]] ⟨((List.replicate (wr (a1 - (wr ((0:Int) - (0:Int))))).toNat (Ty.dflt B0)).take ((0:Int).toNat)),rfl,h⟩
  refine VW.skip ?_
  exact arv [.nilS 0 B0 .dp, .ren [0] [0]] ⟨[],rfl,h⟩
 rintro s ⟨a,rfl,h⟩
 unfold F170_j0 at h
 refine nR K (tn 2) ?_
 cases h;exact VW.ret (rt [some 0])
def F120_j0 (N:Nat) (a:L1):Option (L1) :=
  some a
def F120_l0_b (N:Nat) (a0:L2) (d:L1→Int→Int→Option (L1)) (b:L1) (c:Int) (a:Int):Option (L1) :=
  cond (decide (a < c)) (gd (InR a a0.length) (gd (b.length+(a0.getD a.toNat (Ty.dflt B1)).length≤lim (.int .i64)) (d (b++(a0.getD a.toNat (Ty.dflt B1))) c (IntKind.i64.wrap (a+(1:Int)))))) (F120_j0 N b)
def F120_l0 (N:Nat) (a0:L2):=loopF (F120_l0_b N a0) (fun _ _ _=>none)
theorem F120_l0_s {N a0 k} (hk:0 < k:=by omega):F120_l0 N a0 k=F120_l0_b N a0 (F120_l0 N a0 (k - 1)):=lS hk
def F120_j1 (N:Nat) (a0:L2) (a:Int):Option (L1) :=
  andO (F170 N ([]) a) fun b=>F120_l0 N a0 N b (a0.length:Int) (0:Int)
def F120_l1_b (N:Nat) (a0:L2) (d:Int→Int→Int→Option (L1)) (b:Int) (c:Int) (a:Int):Option (L1) :=
  cond (decide (a < c)) (gd (InR a a0.length) (cond (decide ((IntKind.i64.wrap (b+((a0.getD a.toNat (Ty.dflt B1)).length:Int))) < (0:Int))) (none) (d (IntKind.i64.wrap (b+((a0.getD a.toNat (Ty.dflt B1)).length:Int))) c (IntKind.i64.wrap (a+(1:Int)))))) (F120_j1 N a0 b)
def F120_l1 (N:Nat) (a0:L2):=loopF (F120_l1_b N a0) (fun _ _ _=>none)
theorem F120_l1_s {N a0 k} (hk:0 < k:=by omega):F120_l1 N a0 k=F120_l1_b N a0 (F120_l1 N a0 (k - 1)):=lS hk
def F120 (N:Nat) (a0:L2):Option (L1) :=
  F120_l1 N a0 N (0:Int) (a0.length:Int) (0:Int)
theorem ok120 N a0 {r} (h:F120 N a0=some r):Con prog 120 [Vv B2 a0] [.lf (.own B0 r .dp)]:=by
 refine ctr [.lf (.own B0 .dp)] K func120 rfl fun w0 E0 ht=>?_
 unfold F120 at h
 show VW _ _ _ _ _ (retQ _ _ _ _) _
 refine nR K (tn 1) <| nR K (tn 1) ?_
 refine VW.join (fun s=>∃g,s=⟨[(0,Vv B2 a0),(3,I g)],[]⟩∧F120_j1 N a0 g=some r) ?_ ?_
 ·refine nR K (tn 3) <| VW.block <| lop (fun k s=>∃c f d,s=⟨[(0,Vv B2 a0),(3,I c),(9,Vv B2 a0),(10,I f),(11,I d)],[]⟩∧F120_l1 N a0 k c f d=some r) N [.ren [0,3,9,10,11] []] ⟨(0:Int),(a0.length:Int),(0:Int),rfl,h⟩ ?_
  rintro l s ⟨c,f,d,rfl,h⟩
  cases l with
  | zero=>exact nv h
  | succ l =>
   rw [F120_l1_s,F120_l1_b] at h
   refine nR K (tn 1) <| sq ?_
   refine cnd h ?_ ?_<;>intro h
   ·refine VW.skip <| sq <| VW.block ?_
    obtain⟨o,h⟩:=gS h
    refine nR K (an o (tn 2)) <| nR K (tn 5) <| nR K (tn 2) ?_
    refine cnd h ?_ ?_<;>intro h
    ·exact nomatch h
    refine VW.skip <| nE K (tn 2) ?_
    exact aro [.ren [0,3,9,10,11] []] ⟨(wr (c+((a0.getD d.toNat (Ty.dflt B1)).length:Int))),f,(wr (d+(1:Int))),rfl,h⟩
   refine VW.exit ?_
   exact arv [.ren [0,3] []] ⟨c,rfl,h⟩
 rintro s ⟨g,rfl,h⟩
 unfold F120_j1 at h
 refine sq <| VW.region <| nG K 1 (tn 1) ?_
 obtain⟨p,hy,h⟩:=aS h
 refine clc false [.k, .t B0] [] (some 24) K (ok170 N _ _ hy) <| nN K (tn 1) ?_
 refine VW.join (fun s=>∃i,s=⟨[(6,hh 0)],[ar 0 B0 i .dp]⟩∧F120_j0 N i=some r) ?_ ?_
 ·refine nR K (tn 3) <| VW.block <| lop (fun k s=>∃a e b,s=⟨[(6,hh 0),(25,Vv B2 a0),(26,I e),(27,I b)],[ar 0 B0 a .dp]⟩∧F120_l0 N a0 k a e b=some r) N [.ren [6,25,26,27] [0]] ⟨p,(a0.length:Int),(0:Int),rfl,h⟩ ?_
  rintro j s ⟨a,e,b,rfl,h⟩
  cases j with
  | zero=>exact nv h
  | succ j =>
   rw [F120_l0_s,F120_l0_b] at h
   refine nR K (tn 1) <| sq ?_
   refine cnd h ?_ ?_<;>intro h
   ·refine VW.skip <| sq <| VW.block ?_
    obtain⟨m,h⟩:=gS h
    refine nR K (an m (tn 2)) ?_
    obtain⟨n,h⟩:=gS h
    refine nE K (pu 2 (an n (tn 1))) <| nE K (tn 2) ?_
    exact aro [.ren [6,25,26,27] [0]] ⟨(a++(a0.getD b.toNat (Ty.dflt B1))),e,(wr (b+(1:Int))),rfl,h⟩
   refine VW.exit ?_
   exact arv [.ren [6] [0]] ⟨a,rfl,h⟩
 rintro s ⟨i,rfl,h⟩
 unfold F120_j0 at h
 refine nR K (tn 2) ?_
 cases h;exact VW.ret (rt [some 0])
def F171_j0 (N:Nat) (a:L2):Option (L2) :=
  some a
def F171 (N:Nat) (a0:L2) (a1:Int):Option (L2) :=
  cond (decide (a1 < (0:Int))) (none) (cond (decide ((IntKind.i64.wrap (a1 - (IntKind.i64.wrap ((0:Int) - (0:Int))))) > (0:Int))) (gd ((0:Int)=(0:Int)) (gd (0≤(IntKind.i64.wrap (a1 - (IntKind.i64.wrap ((0:Int) - (0:Int)))))∧(IntKind.i64.wrap (a1 - (IntKind.i64.wrap ((0:Int) - (0:Int)))))≤(lim (.sl (.int .i64)):Int)) (gd (0≤(0:Int)∧(0:Int)≤((List.replicate (IntKind.i64.wrap (a1 - (IntKind.i64.wrap ((0:Int) - (0:Int))))).toNat (Ty.dflt B1)).length:Int)) (F171_j0 N ((List.replicate (IntKind.i64.wrap (a1 - (IntKind.i64.wrap ((0:Int) - (0:Int))))).toNat (Ty.dflt B1)).take ((0:Int).toNat)))))) (F171_j0 N ([])))
theorem ok171 N a0 a1 {r} (h:F171 N a0 a1=some r):Con prog 171 [.lf (.nil),I a1] [.lf (.own B1 r .tp)]:=by
 refine ctr [.lf (.own B1 .tp)] K func171 rfl fun w0 E0 ht=>?_
 unfold F171 at h
 show VW _ _ _ _ _ (retQ _ _ _ _) _
 refine nR K (tn 1) <| sq <| nR K (tn 2) ?_
 refine cnd h ?_ ?_<;>intro h
 ·exact nomatch h
 refine VW.skip ?_
 refine VW.join (fun s=>∃a,s=⟨[(0,hh 0)],[ar 0 B1 a .tp]⟩∧F171_j0 N a=some r) ?_ ?_
 ·refine sq <| VW.region <| nG K 2 (tn 2) <| VO.capN (d:=10) (v:=I (0:Int)) K (by kernel_rfl) <| nN K (tn 5) <| nR K (tn 2) ?_
  refine cnd h ?_ ?_<;>intro h
  ·refine VW.region <| nG K 2 (tn 2) <| VO.capN (d:=19) (v:=I (0:Int)) K (by kernel_rfl) ?_
   obtain⟨b,h⟩:=gS h
   refine VO.cutN (d:=20) (φ:=(0:Int)=(0:Int)) (v:= .lf .nil) K (by kernel_rfl) b <| nG K 1 (tn 1) ?_
   obtain⟨c,h⟩:=gS h
   refine VO.appZ (d:=22) (φ:=0≤(wr (a1 - (wr ((0:Int) - (0:Int)))))∧(wr (a1 - (wr ((0:Int) - (0:Int)))))≤(lim (.sl (.int .i64)):Int)) (v:=hh 0) (H':=[ar 0 B1 (List.replicate (wr (a1 - (wr ((0:Int) - (0:Int))))).toNat (Ty.dflt B1)) .tp]) K (by kernel_rfl) c ?_
   obtain⟨e,h⟩:=gS h
   refine nN K (pu 2 (an e (tn 1))) ?_
   exact arv [.shr 0, .ren [0] [0]] ⟨((List.replicate (wr (a1 - (wr ((0:Int) - (0:Int))))).toNat (Ty.dflt B1)).take ((0:Int).toNat)),rfl,h⟩
  refine VW.skip ?_
  exact arv [.nilS 0 B1 .tp, .ren [0] [0]] ⟨[],rfl,h⟩
 rintro s ⟨a,rfl,h⟩
 unfold F171_j0 at h
 refine nR K (tn 2) ?_
 cases h;exact VW.ret (rt [some 0])
def F121_j0 (N:Nat) (a:L2):Option (L2) :=
  some a
def F121_l0_b (N:Nat) (a0:L3) (d:L2→Int→Int→Option (L2)) (b:L2) (c:Int) (a:Int):Option (L2) :=
  cond (decide (a < c)) (gd (InR a a0.length) (gd (b.length+(a0.getD a.toNat (Ty.dflt B2)).length≤lim (.sl (.int .i64))) (d (b++(a0.getD a.toNat (Ty.dflt B2))) c (IntKind.i64.wrap (a+(1:Int)))))) (F121_j0 N b)
def F121_l0 (N:Nat) (a0:L3):=loopF (F121_l0_b N a0) (fun _ _ _=>none)
theorem F121_l0_s {N a0 k} (hk:0 < k:=by omega):F121_l0 N a0 k=F121_l0_b N a0 (F121_l0 N a0 (k - 1)):=lS hk
def F121_j1 (N:Nat) (a0:L3) (a:Int):Option (L2) :=
  andO (F171 N ([]) a) fun b=>F121_l0 N a0 N b (a0.length:Int) (0:Int)
def F121_l1_b (N:Nat) (a0:L3) (d:Int→Int→Int→Option (L2)) (b:Int) (c:Int) (a:Int):Option (L2) :=
  cond (decide (a < c)) (gd (InR a a0.length) (cond (decide ((IntKind.i64.wrap (b+((a0.getD a.toNat (Ty.dflt B2)).length:Int))) < (0:Int))) (none) (d (IntKind.i64.wrap (b+((a0.getD a.toNat (Ty.dflt B2)).length:Int))) c (IntKind.i64.wrap (a+(1:Int)))))) (F121_j1 N a0 b)
def F121_l1 (N:Nat) (a0:L3):=loopF (F121_l1_b N a0) (fun _ _ _=>none)
theorem F121_l1_s {N a0 k} (hk:0 < k:=by omega):F121_l1 N a0 k=F121_l1_b N a0 (F121_l1 N a0 (k - 1)):=lS hk
def F121 (N:Nat) (a0:L3):Option (L2) :=
  F121_l1 N a0 N (0:Int) (a0.length:Int) (0:Int)
theorem ok121 N a0 {r} (h:F121 N a0=some r):Con prog 121 [Vv B3 a0] [.lf (.own B1 r .tp)]:=by
 refine ctr [.lf (.own B1 .tp)] K func121 rfl fun w0 E0 ht=>?_
 unfold F121 at h
 show VW _ _ _ _ _ (retQ _ _ _ _) _
 refine nR K (tn 1) <| nR K (tn 1) ?_
 refine VW.join (fun s=>∃g,s=⟨[(0,Vv B3 a0),(3,I g)],[]⟩∧F121_j1 N a0 g=some r) ?_ ?_
 ·refine nR K (tn 3) <| VW.block <| lop (fun k s=>∃c f d,s=⟨[(0,Vv B3 a0),(3,I c),(9,Vv B3 a0),(10,I f),(11,I d)],[]⟩∧F121_l1 N a0 k c f d=some r) N [.ren [0,3,9,10,11] []] ⟨(0:Int),(a0.length:Int),(0:Int),rfl,h⟩ ?_
  rintro l s ⟨c,f,d,rfl,h⟩
  cases l with
  | zero=>exact nv h
  | succ l =>
   rw [F121_l1_s,F121_l1_b] at h
   refine nR K (tn 1) <| sq ?_
   refine cnd h ?_ ?_<;>intro h
   ·refine VW.skip <| sq <| VW.block ?_
    obtain⟨o,h⟩:=gS h
    refine nR K (an o (tn 2)) <| nR K (tn 5) <| nR K (tn 2) ?_
    refine cnd h ?_ ?_<;>intro h
    ·exact nomatch h
    refine VW.skip <| nE K (tn 2) ?_
    exact aro [.ren [0,3,9,10,11] []] ⟨(wr (c+((a0.getD d.toNat (Ty.dflt B2)).length:Int))),f,(wr (d+(1:Int))),rfl,h⟩
   refine VW.exit ?_
   exact arv [.ren [0,3] []] ⟨c,rfl,h⟩
 rintro s ⟨g,rfl,h⟩
 unfold F121_j1 at h
 refine sq <| VW.region <| nG K 1 (tn 1) ?_
 obtain⟨p,hy,h⟩:=aS h
 refine clc false [.k, .t B0] [] (some 24) K (ok171 N _ _ hy) <| nN K (tn 1) ?_
 refine VW.join (fun s=>∃i,s=⟨[(6,hh 0)],[ar 0 B1 i .tp]⟩∧F121_j0 N i=some r) ?_ ?_
 ·refine nR K (tn 3) <| VW.block <| lop (fun k s=>∃a e b,s=⟨[(6,hh 0),(25,Vv B3 a0),(26,I e),(27,I b)],[ar 0 B1 a .tp]⟩∧F121_l0 N a0 k a e b=some r) N [.ren [6,25,26,27] [0]] ⟨p,(a0.length:Int),(0:Int),rfl,h⟩ ?_
  rintro j s ⟨a,e,b,rfl,h⟩
  cases j with
  | zero=>exact nv h
  | succ j =>
   rw [F121_l0_s,F121_l0_b] at h
   refine nR K (tn 1) <| sq ?_
   refine cnd h ?_ ?_<;>intro h
   ·refine VW.skip <| sq <| VW.block ?_
    obtain⟨m,h⟩:=gS h
    refine nR K (an m (tn 2)) ?_
    obtain⟨n,h⟩:=gS h
    refine nE K (pu 2 (an n (tn 1))) <| nE K (tn 2) ?_
    exact aro [.ren [6,25,26,27] [0]] ⟨(a++(a0.getD b.toNat (Ty.dflt B2))),e,(wr (b+(1:Int))),rfl,h⟩
   refine VW.exit ?_
   exact arv [.ren [6] [0]] ⟨a,rfl,h⟩
 rintro s ⟨i,rfl,h⟩
 unfold F121_j0 at h
 refine nR K (tn 2) ?_
 cases h;exact VW.ret (rt [some 0])
def F122 (N:Nat) (a0:L2):Option (L2) :=
  gd (a0.length≤lim (.sl (.int .i64))) (some a0)
theorem ok122 N a0 {r} (h:F122 N a0=some r):Con prog 122 [Vv B2 a0] [.lf (.own B1 r .tp)]:=by
 refine ctr [.lf (.own B1 .tp)] K func122 rfl fun w0 E0 ht=>?_
 unfold F122 at h
 show VW _ _ _ _ _ (retQ _ _ _ _) _
 refine nR K (tn 1) <| sq <| sq <| VW.region <| nG K 1 (tn 1) ?_
 refine VO.isNil (d:=4) (e:=B1) (xs:=a0) K rfl rfl rfl rfl (by kernel_rfl) (by kernel_rfl) (fun hx=>?_) ?_
 ·replace h:some ([])=some r:=by
   subst hx;first | exact h | exact (gd_some h).2
  refine nN K (tn 0) ?_
  refine VW.cond (b:=true) (by kernel_rfl) (fun _=>?_) (fun h'=>nomatch h')
  refine nR K (tn 1) ?_
  cases h;exact VW.ret (rt [none])
 refine nN K (tn 0) ?_
 refine VW.cond (b:=false) (by kernel_rfl) (fun h'=>nomatch h') (fun _=>?_)
 refine VW.skip ?_
 obtain⟨a,h⟩:=gS h
 refine nR K (pu 2 (an a (tn 1))) ?_
 cases h;exact VW.ret (rt [some 0])
def F174_j0 (N:Nat) (a:L2→Int→Option (L2)) (b:Int) (c:L2):Option (L2) :=
  a c (IntKind.i64.wrap (b+(1:Int)))
def F174_l0_b (N:Nat) (a1:Int) (c:L2→Int→Option (L2)) (p3:L1→L1→Option (Int)) (d:Int) (e:L2→Int→Option (L2)) (b:L2) (a:Int):Option (L2) :=
  cond (decide (a > a1)) (gd (InR a b.length) (gd (a.toNat < b.length) (gd (InR (IntKind.i64.wrap (a - (1:Int))) b.length) (gd ((IntKind.i64.wrap (a - (1:Int))).toNat < b.length) (andO (p3 (b.getD a.toNat (Ty.dflt B1)) (b.getD ((IntKind.i64.wrap (a - (1:Int))).toNat) (Ty.dflt B1))) fun f=>cond (decide (f < (0:Int))) (gd (InR (IntKind.i64.wrap (a - (1:Int))) b.length) (gd ((IntKind.i64.wrap (a - (1:Int))).toNat < b.length) (gd (InR a b.length) (gd (a.toNat < b.length) (gd (InR a b.length) (gd (a.toNat < b.length) (gd (InR (IntKind.i64.wrap (a - (1:Int))) (b.set a.toNat (b.getD ((IntKind.i64.wrap (a - (1:Int))).toNat) (Ty.dflt B1))).length) (gd ((IntKind.i64.wrap (a - (1:Int))).toNat < (b.set a.toNat (b.getD ((IntKind.i64.wrap (a - (1:Int))).toNat) (Ty.dflt B1))).length) (e ((b.set a.toNat (b.getD ((IntKind.i64.wrap (a - (1:Int))).toNat) (Ty.dflt B1))).set ((IntKind.i64.wrap (a - (1:Int))).toNat) (b.getD a.toNat (Ty.dflt B1))) (IntKind.i64.wrap (a - (1:Int)))))))))))) (F174_j0 N c d b)))))) (F174_j0 N c d b)
def F174_l0 (N:Nat) (a1:Int) (a:L2→Int→Option (L2)) (p3:L1→L1→Option (Int)) (b:Int):=loopF (F174_l0_b N a1 a p3 b) (fun _ _=>none)
theorem F174_l0_s {N a1 a} {p3:L1→L1→Option (Int)} {b k} (hk:0 < k:=by omega):F174_l0 N a1 a p3 b k=F174_l0_b N a1 a p3 b (F174_l0 N a1 a p3 b (k - 1)):=lS hk
def F174_l1_b (N:Nat) (a1:Int) (a2:Int) (p3:L1→L1→Option (Int)) (c:L2→Int→Option (L2)) (b:L2) (a:Int):Option (L2) :=
  cond (decide (a < a2)) (F174_l0 N a1 c p3 a N b a) (some b)
def F174_l1 (N:Nat) (a1:Int) (a2:Int) (p3:L1→L1→Option (Int)):=loopF (F174_l1_b N a1 a2 p3) (fun _ _=>none)
theorem F174_l1_s {N a1 a2} {p3:L1→L1→Option (Int)} {k} (hk:0 < k:=by omega):F174_l1 N a1 a2 p3 k=F174_l1_b N a1 a2 p3 (F174_l1 N a1 a2 p3 (k - 1)):=lS hk
def F174 (N:Nat) (a0:L2) (a1:Int) (a2:Int) (p3:L1→L1→Option (Int)):Option (L2) :=
  F174_l1 N a1 a2 p3 N a0 (IntKind.i64.wrap (a1+(1:Int)))
def F196_l0_b (N:Nat) (a1:Int) (a2:Int) (a3:Int) (c:L2→Int→Option (L2)) (b:L2) (a:Int):Option (L2) :=
  cond (decide (a < a3)) (gd (InR (IntKind.i64.wrap (a2+a)) b.length) (gd ((IntKind.i64.wrap (a2+a)).toNat < b.length) (gd (InR (IntKind.i64.wrap (a1+a)) b.length) (gd ((IntKind.i64.wrap (a1+a)).toNat < b.length) (gd (InR (IntKind.i64.wrap (a1+a)) b.length) (gd ((IntKind.i64.wrap (a1+a)).toNat < b.length) (gd (InR (IntKind.i64.wrap (a2+a)) (b.set ((IntKind.i64.wrap (a1+a)).toNat) (b.getD ((IntKind.i64.wrap (a2+a)).toNat) (Ty.dflt B1))).length) (gd ((IntKind.i64.wrap (a2+a)).toNat < (b.set ((IntKind.i64.wrap (a1+a)).toNat) (b.getD ((IntKind.i64.wrap (a2+a)).toNat) (Ty.dflt B1))).length) (c ((b.set ((IntKind.i64.wrap (a1+a)).toNat) (b.getD ((IntKind.i64.wrap (a2+a)).toNat) (Ty.dflt B1))).set ((IntKind.i64.wrap (a2+a)).toNat) (b.getD ((IntKind.i64.wrap (a1+a)).toNat) (Ty.dflt B1))) (IntKind.i64.wrap (a+(1:Int)))))))))))) (some b)
def F196_l0 (N:Nat) (a1:Int) (a2:Int) (a3:Int):=loopF (F196_l0_b N a1 a2 a3) (fun _ _=>none)
theorem F196_l0_s {N a1 a2 a3 k} (hk:0 < k:=by omega):F196_l0 N a1 a2 a3 k=F196_l0_b N a1 a2 a3 (F196_l0 N a1 a2 a3 (k - 1)):=lS hk
def F196 (N:Nat) (a0:L2) (a1:Int) (a2:Int) (a3:Int) (p4:L1→L1→Option (Int)):Option (L2) :=
  F196_l0 N a1 a2 a3 N a0 (0:Int)
def F194_j0 (N:Nat) (a2:Int) (p4:L1→L1→Option (Int)) (b:L2) (a:Int):Option (L2) :=
  andO (F196 N b (IntKind.i64.wrap (a2 - a)) a2 a p4) fun c=>some c
def F194_l0_b (N:Nat) (a2:Int) (p4:L1→L1→Option (Int)) (d:L2→Int→Int→Option (L2)) (c:L2) (a:Int) (b:Int):Option (L2) :=
  cond (a != b) (cond (decide (a > b)) (andO (F196 N c (IntKind.i64.wrap (a2 - a)) a2 b p4) fun e=>d e (IntKind.i64.wrap (a - b)) b) (andO (F196 N c (IntKind.i64.wrap (a2 - a)) (IntKind.i64.wrap ((IntKind.i64.wrap (a2+b)) - a)) a p4) fun f=>d f a (IntKind.i64.wrap (b - a)))) (F194_j0 N a2 p4 c a)
def F194_l0 (N:Nat) (a2:Int) (p4:L1→L1→Option (Int)):=loopF (F194_l0_b N a2 p4) (fun _ _ _=>none)
theorem F194_l0_s {N a2} {p4:L1→L1→Option (Int)} {k} (hk:0 < k:=by omega):F194_l0 N a2 p4 k=F194_l0_b N a2 p4 (F194_l0 N a2 p4 (k - 1)):=lS hk
def F194 (N:Nat) (a0:L2) (a1:Int) (a2:Int) (a3:Int) (p4:L1→L1→Option (Int)):Option (L2) :=
  F194_l0 N a2 p4 N a0 (IntKind.i64.wrap (a2 - a1)) (IntKind.i64.wrap (a3 - a2))
def F189_j0 (N:Nat) (a3:Int) (self:L2→Int→Int→Int→Option (L2)) (c:Int) (a:Int) (b:L2):Option (L2) :=
  cond (decide (c < a)) (cond (decide (a < a3)) (andO (self b c a a3) fun d=>some d) (some b)) (some b)
def F189_j1 (N:Nat) (a1:Int) (a3:Int) (self:L2→Int→Int→Int→Option (L2)) (a:Int) (b:Int) (c:L2) (d:Int):Option (L2) :=
  cond (decide (a1 < b)) (cond (decide (b < a)) (andO (self c a1 b a) fun e=>F189_j0 N a3 self a d e) (F189_j0 N a3 self a d c)) (F189_j0 N a3 self a d c)
def F189_j2 (N:Nat) (a0:L2) (a1:Int) (a2:Int) (a3:Int) (p4:L1→L1→Option (Int)) (self:L2→Int→Int→Int→Option (L2)) (c:Int) (b:Int) (a:Int):Option (L2) :=
  cond (decide (a < a2)) (cond (decide (a2 < (IntKind.i64.wrap (b - a)))) (andO (F194 N a0 a a2 (IntKind.i64.wrap (b - a)) p4) fun d=>F189_j1 N a1 a3 self c a d (IntKind.i64.wrap (b - a))) (F189_j1 N a1 a3 self c a a0 (IntKind.i64.wrap (b - a)))) (F189_j1 N a1 a3 self c a a0 (IntKind.i64.wrap (b - a)))
def F189_l0_b (N:Nat) (a0:L2) (a1:Int) (a2:Int) (a3:Int) (p4:L1→L1→Option (Int)) (self:L2→Int→Int→Int→Option (L2)) (e:Int) (f:Int) (d:Int→Int→Int→Option (L2)) (a:Int) (b:Int) (c:Int):Option (L2) :=
  cond (decide (a < b)) (gd (InR (IntKind.i64.wrap (c - (IntKind.i64.wrap (Int.fdiv (IntKind.u64.wrap (IntKind.i64.wrap (a+b))) (2 ^ (min (1:Int).toNat IntKind.u64.bits)))))) a0.length) (gd ((IntKind.i64.wrap (c - (IntKind.i64.wrap (Int.fdiv (IntKind.u64.wrap (IntKind.i64.wrap (a+b))) (2 ^ (min (1:Int).toNat IntKind.u64.bits)))))).toNat < a0.length) (gd (InR (IntKind.i64.wrap (Int.fdiv (IntKind.u64.wrap (IntKind.i64.wrap (a+b))) (2 ^ (min (1:Int).toNat IntKind.u64.bits)))) a0.length) (gd ((IntKind.i64.wrap (Int.fdiv (IntKind.u64.wrap (IntKind.i64.wrap (a+b))) (2 ^ (min (1:Int).toNat IntKind.u64.bits)))).toNat < a0.length) (andO (p4 (a0.getD ((IntKind.i64.wrap (c - (IntKind.i64.wrap (Int.fdiv (IntKind.u64.wrap (IntKind.i64.wrap (a+b))) (2 ^ (min (1:Int).toNat IntKind.u64.bits)))))).toNat) (Ty.dflt B1)) (a0.getD ((IntKind.i64.wrap (Int.fdiv (IntKind.u64.wrap (IntKind.i64.wrap (a+b))) (2 ^ (min (1:Int).toNat IntKind.u64.bits)))).toNat) (Ty.dflt B1))) fun g=>cond (!(decide (g < (0:Int)))) (d (IntKind.i64.wrap ((IntKind.i64.wrap (Int.fdiv (IntKind.u64.wrap (IntKind.i64.wrap (a+b))) (2 ^ (min (1:Int).toNat IntKind.u64.bits))))+(1:Int))) b c) (d a (IntKind.i64.wrap (Int.fdiv (IntKind.u64.wrap (IntKind.i64.wrap (a+b))) (2 ^ (min (1:Int).toNat IntKind.u64.bits)))) c)))))) (F189_j2 N a0 a1 a2 a3 p4 self e f a)
def F189_l0 (N:Nat) (a0:L2) (a1:Int) (a2:Int) (a3:Int) (p4:L1→L1→Option (Int)) (self:L2→Int→Int→Int→Option (L2)) (a:Int) (b:Int):=loopF (F189_l0_b N a0 a1 a2 a3 p4 self a b) (fun _ _ _=>none)
theorem F189_l0_s {N a0 a1 a2 a3} {p4:L1→L1→Option (Int)} {self:L2→Int→Int→Int→Option (L2)} {a b k} (hk:0 < k:=by omega):F189_l0 N a0 a1 a2 a3 p4 self a b k=F189_l0_b N a0 a1 a2 a3 p4 self a b (F189_l0 N a0 a1 a2 a3 p4 self a b (k - 1)):=lS hk
def F189_j3 (N:Nat) (a0:L2) (a1:Int) (a2:Int) (a3:Int) (p4:L1→L1→Option (Int)) (self:L2→Int→Int→Int→Option (L2)) (b:Int) (a:Int) (c:Int) (d:Int):Option (L2) :=
  F189_l0 N a0 a1 a2 a3 p4 self b a N c d (IntKind.i64.wrap (a - (1:Int)))
def F189_j4 (N:Nat) (a0:L2) (a1:Int) (a2:Int) (a3:Int) (p4:L1→L1→Option (Int)) (self:L2→Int→Int→Int→Option (L2)):Option (L2) :=
  cond (decide (a2 > (IntKind.i64.wrap (Int.fdiv (IntKind.u64.wrap (IntKind.i64.wrap (a1+a3))) (2 ^ (min (1:Int).toNat IntKind.u64.bits)))))) (F189_j3 N a0 a1 a2 a3 p4 self (IntKind.i64.wrap (Int.fdiv (IntKind.u64.wrap (IntKind.i64.wrap (a1+a3))) (2 ^ (min (1:Int).toNat IntKind.u64.bits)))) (IntKind.i64.wrap ((IntKind.i64.wrap (Int.fdiv (IntKind.u64.wrap (IntKind.i64.wrap (a1+a3))) (2 ^ (min (1:Int).toNat IntKind.u64.bits))))+a2)) (IntKind.i64.wrap ((IntKind.i64.wrap ((IntKind.i64.wrap (Int.fdiv (IntKind.u64.wrap (IntKind.i64.wrap (a1+a3))) (2 ^ (min (1:Int).toNat IntKind.u64.bits))))+a2)) - a3)) (IntKind.i64.wrap (Int.fdiv (IntKind.u64.wrap (IntKind.i64.wrap (a1+a3))) (2 ^ (min (1:Int).toNat IntKind.u64.bits))))) (F189_j3 N a0 a1 a2 a3 p4 self (IntKind.i64.wrap (Int.fdiv (IntKind.u64.wrap (IntKind.i64.wrap (a1+a3))) (2 ^ (min (1:Int).toNat IntKind.u64.bits)))) (IntKind.i64.wrap ((IntKind.i64.wrap (Int.fdiv (IntKind.u64.wrap (IntKind.i64.wrap (a1+a3))) (2 ^ (min (1:Int).toNat IntKind.u64.bits))))+a2)) a1 a2)
def F189_j5 (N:Nat) (a:L2):Option (L2) :=
  some a
def F189_l1_b (N:Nat) (d:Int) (c:L2→Int→Option (L2)) (b:L2) (a:Int):Option (L2) :=
  cond (decide (a > d)) (gd (InR (IntKind.i64.wrap (a - (1:Int))) b.length) (gd ((IntKind.i64.wrap (a - (1:Int))).toNat < b.length) (gd (InR a b.length) (gd (a.toNat < b.length) (gd (InR a b.length) (gd (a.toNat < b.length) (gd (InR (IntKind.i64.wrap (a - (1:Int))) (b.set a.toNat (b.getD ((IntKind.i64.wrap (a - (1:Int))).toNat) (Ty.dflt B1))).length) (gd ((IntKind.i64.wrap (a - (1:Int))).toNat < (b.set a.toNat (b.getD ((IntKind.i64.wrap (a - (1:Int))).toNat) (Ty.dflt B1))).length) (c ((b.set a.toNat (b.getD ((IntKind.i64.wrap (a - (1:Int))).toNat) (Ty.dflt B1))).set ((IntKind.i64.wrap (a - (1:Int))).toNat) (b.getD a.toNat (Ty.dflt B1))) (IntKind.i64.wrap (a - (1:Int)))))))))))) (F189_j5 N b)
def F189_l1 (N:Nat) (a:Int):=loopF (F189_l1_b N a) (fun _ _=>none)
theorem F189_l1_s {N a k} (hk:0 < k:=by omega):F189_l1 N a k=F189_l1_b N a (F189_l1 N a (k - 1)):=lS hk
def F189_j6 (N:Nat) (a0:L2) (a2:Int) (a:Int):Option (L2) :=
  F189_l1 N a N a0 a2
def F189_l2_b (N:Nat) (a0:L2) (a2:Int) (p4:L1→L1→Option (Int)) (c:Int→Int→Option (L2)) (a:Int) (b:Int):Option (L2) :=
  cond (decide (a < b)) (gd (InR a2 a0.length) (gd (a2.toNat < a0.length) (gd (InR (IntKind.i64.wrap (Int.fdiv (IntKind.u64.wrap (IntKind.i64.wrap (a+b))) (2 ^ (min (1:Int).toNat IntKind.u64.bits)))) a0.length) (gd ((IntKind.i64.wrap (Int.fdiv (IntKind.u64.wrap (IntKind.i64.wrap (a+b))) (2 ^ (min (1:Int).toNat IntKind.u64.bits)))).toNat < a0.length) (andO (p4 (a0.getD a2.toNat (Ty.dflt B1)) (a0.getD ((IntKind.i64.wrap (Int.fdiv (IntKind.u64.wrap (IntKind.i64.wrap (a+b))) (2 ^ (min (1:Int).toNat IntKind.u64.bits)))).toNat) (Ty.dflt B1))) fun d=>cond (!(decide (d < (0:Int)))) (c (IntKind.i64.wrap ((IntKind.i64.wrap (Int.fdiv (IntKind.u64.wrap (IntKind.i64.wrap (a+b))) (2 ^ (min (1:Int).toNat IntKind.u64.bits))))+(1:Int))) b) (c a (IntKind.i64.wrap (Int.fdiv (IntKind.u64.wrap (IntKind.i64.wrap (a+b))) (2 ^ (min (1:Int).toNat IntKind.u64.bits)))))))))) (F189_j6 N a0 a2 a)
def F189_l2 (N:Nat) (a0:L2) (a2:Int) (p4:L1→L1→Option (Int)):=loopF (F189_l2_b N a0 a2 p4) (fun _ _=>none)
theorem F189_l2_s {N a0 a2} {p4:L1→L1→Option (Int)} {k} (hk:0 < k:=by omega):F189_l2 N a0 a2 p4 k=F189_l2_b N a0 a2 p4 (F189_l2 N a0 a2 p4 (k - 1)):=lS hk
def F189_j7 (N:Nat) (a0:L2) (a1:Int) (a2:Int) (a3:Int) (p4:L1→L1→Option (Int)) (self:L2→Int→Int→Int→Option (L2)):Option (L2) :=
  cond ((IntKind.i64.wrap (a3 - a2)) == (1:Int)) (F189_l2 N a0 a2 p4 N a1 a2) (F189_j4 N a0 a1 a2 a3 p4 self)
def F189_j8 (N:Nat) (a:L2):Option (L2) :=
  some a
def F189_l3_b (N:Nat) (d:Int) (c:L2→Int→Option (L2)) (b:L2) (a:Int):Option (L2) :=
  cond (decide (a < (IntKind.i64.wrap (d - (1:Int))))) (gd (InR (IntKind.i64.wrap (a+(1:Int))) b.length) (gd ((IntKind.i64.wrap (a+(1:Int))).toNat < b.length) (gd (InR a b.length) (gd (a.toNat < b.length) (gd (InR a b.length) (gd (a.toNat < b.length) (gd (InR (IntKind.i64.wrap (a+(1:Int))) (b.set a.toNat (b.getD ((IntKind.i64.wrap (a+(1:Int))).toNat) (Ty.dflt B1))).length) (gd ((IntKind.i64.wrap (a+(1:Int))).toNat < (b.set a.toNat (b.getD ((IntKind.i64.wrap (a+(1:Int))).toNat) (Ty.dflt B1))).length) (c ((b.set a.toNat (b.getD ((IntKind.i64.wrap (a+(1:Int))).toNat) (Ty.dflt B1))).set ((IntKind.i64.wrap (a+(1:Int))).toNat) (b.getD a.toNat (Ty.dflt B1))) (IntKind.i64.wrap (a+(1:Int)))))))))))) (F189_j8 N b)
def F189_l3 (N:Nat) (a:Int):=loopF (F189_l3_b N a) (fun _ _=>none)
theorem F189_l3_s {N a k} (hk:0 < k:=by omega):F189_l3 N a k=F189_l3_b N a (F189_l3 N a (k - 1)):=lS hk
def F189_j9 (N:Nat) (a0:L2) (a1:Int) (a:Int):Option (L2) :=
  F189_l3 N a N a0 a1
def F189_l4_b (N:Nat) (a0:L2) (a1:Int) (p4:L1→L1→Option (Int)) (c:Int→Int→Option (L2)) (a:Int) (b:Int):Option (L2) :=
  cond (decide (a < b)) (gd (InR (IntKind.i64.wrap (Int.fdiv (IntKind.u64.wrap (IntKind.i64.wrap (a+b))) (2 ^ (min (1:Int).toNat IntKind.u64.bits)))) a0.length) (gd ((IntKind.i64.wrap (Int.fdiv (IntKind.u64.wrap (IntKind.i64.wrap (a+b))) (2 ^ (min (1:Int).toNat IntKind.u64.bits)))).toNat < a0.length) (gd (InR a1 a0.length) (gd (a1.toNat < a0.length) (andO (p4 (a0.getD ((IntKind.i64.wrap (Int.fdiv (IntKind.u64.wrap (IntKind.i64.wrap (a+b))) (2 ^ (min (1:Int).toNat IntKind.u64.bits)))).toNat) (Ty.dflt B1)) (a0.getD a1.toNat (Ty.dflt B1))) fun d=>cond (decide (d < (0:Int))) (c (IntKind.i64.wrap ((IntKind.i64.wrap (Int.fdiv (IntKind.u64.wrap (IntKind.i64.wrap (a+b))) (2 ^ (min (1:Int).toNat IntKind.u64.bits))))+(1:Int))) b) (c a (IntKind.i64.wrap (Int.fdiv (IntKind.u64.wrap (IntKind.i64.wrap (a+b))) (2 ^ (min (1:Int).toNat IntKind.u64.bits)))))))))) (F189_j9 N a0 a1 a)
def F189_l4 (N:Nat) (a0:L2) (a1:Int) (p4:L1→L1→Option (Int)):=loopF (F189_l4_b N a0 a1 p4) (fun _ _=>none)
theorem F189_l4_s {N a0 a1} {p4:L1→L1→Option (Int)} {k} (hk:0 < k:=by omega):F189_l4 N a0 a1 p4 k=F189_l4_b N a0 a1 p4 (F189_l4 N a0 a1 p4 (k - 1)):=lS hk
def F189_b (N:Nat) (p4:L1→L1→Option (Int)) (self:L2→Int→Int→Int→Option (L2)) (a0:L2) (a1:Int) (a2:Int) (a3:Int):Option (L2) :=
  cond ((IntKind.i64.wrap (a2 - a1)) == (1:Int)) (F189_l4 N a0 a1 p4 N a2 a3) (F189_j7 N a0 a1 a2 a3 p4 self)
def F189_r (N:Nat) (p4:L1→L1→Option (Int)):=loopF (F189_b N p4) (fun _ _ _ _=>none)
theorem F189_s {N} {p4:L1→L1→Option (Int)} {k} (hk:0 < k:=by omega):F189_r N p4 k=F189_b N p4 (F189_r N p4 (k - 1)):=lS hk
def F189 (N:Nat) (a0:L2) (a1:Int) (a2:Int) (a3:Int) (p4:L1→L1→Option (Int)):Option (L2):=F189_r N p4 N a0 a1 a2 a3
def F172_j0 (N:Nat) (a:L2→Int→Option (L2)) (b:Int) (c:L2):Option (L2) :=
  a c (IntKind.i64.wrap (b*(2:Int)))
def F172_j1 (N:Nat) (a1:Int) (c:L2→Int→Option (L2)) (p2:L1→L1→Option (Int)) (a:Int) (d:L2) (b:Int):Option (L2) :=
  cond (decide ((IntKind.i64.wrap (b+a)) < a1)) (andO (F189 N d b (IntKind.i64.wrap (b+a)) a1 p2) fun e=>F172_j0 N c a e) (F172_j0 N c a d)
def F172_l0_b (N:Nat) (a1:Int) (e:L2→Int→Option (L2)) (p2:L1→L1→Option (Int)) (b:Int) (f:L2→Int→Int→Option (L2)) (d:L2) (c:Int) (a:Int):Option (L2) :=
  cond (decide (a≤a1)) (andO (F189 N d c (IntKind.i64.wrap (c+b)) a p2) fun g=>f g a (IntKind.i64.wrap (a+(IntKind.i64.wrap ((2:Int)*b))))) (F172_j1 N a1 e p2 b d c)
def F172_l0 (N:Nat) (a1:Int) (a:L2→Int→Option (L2)) (p2:L1→L1→Option (Int)) (b:Int):=loopF (F172_l0_b N a1 a p2 b) (fun _ _ _=>none)
theorem F172_l0_s {N a1 a} {p2:L1→L1→Option (Int)} {b k} (hk:0 < k:=by omega):F172_l0 N a1 a p2 b k=F172_l0_b N a1 a p2 b (F172_l0 N a1 a p2 b (k - 1)):=lS hk
def F172_l1_b (N:Nat) (a1:Int) (p2:L1→L1→Option (Int)) (c:L2→Int→Option (L2)) (b:L2) (a:Int):Option (L2) :=
  cond (decide (a < a1)) (F172_l0 N a1 c p2 a N b (0:Int) (IntKind.i64.wrap ((2:Int)*a))) (some b)
def F172_l1 (N:Nat) (a1:Int) (p2:L1→L1→Option (Int)):=loopF (F172_l1_b N a1 p2) (fun _ _=>none)
theorem F172_l1_s {N a1} {p2:L1→L1→Option (Int)} {k} (hk:0 < k:=by omega):F172_l1 N a1 p2 k=F172_l1_b N a1 p2 (F172_l1 N a1 p2 (k - 1)):=lS hk
def F172_j2 (N:Nat) (a1:Int) (p2:L1→L1→Option (Int)) (a:L2) (b:Int):Option (L2) :=
  andO (F174 N a b a1 p2) fun c=>F172_l1 N a1 p2 N c (20:Int)
def F172_l2_b (N:Nat) (a1:Int) (p2:L1→L1→Option (Int)) (d:L2→Int→Int→Option (L2)) (b:L2) (c:Int) (a:Int):Option (L2) :=
  cond (decide (a≤a1)) (andO (F174 N b c a p2) fun e=>d e a (IntKind.i64.wrap (a+(20:Int)))) (F172_j2 N a1 p2 b c)
def F172_l2 (N:Nat) (a1:Int) (p2:L1→L1→Option (Int)):=loopF (F172_l2_b N a1 p2) (fun _ _ _=>none)
theorem F172_l2_s {N a1} {p2:L1→L1→Option (Int)} {k} (hk:0 < k:=by omega):F172_l2 N a1 p2 k=F172_l2_b N a1 p2 (F172_l2 N a1 p2 (k - 1)):=lS hk
def F172 (N:Nat) (a0:L2) (a1:Int) (p2:L1→L1→Option (Int)):Option (L2) :=
  F172_l2 N a1 p2 N a0 (0:Int) (20:Int)
def F123 (N:Nat) (a0:L2) (p1:L1→L1→Option (Int)):Option (L2) :=
  andO (F172 N a0 (a0.length:Int) p1) fun a=>some a
def F125 (N:Nat) (a0:Int) (a1:Int):Option (Int) :=
  andO (F173 N a0) fun b=>andO (F173 N a1) fun a=>cond b (cond a (some (0:Int)) (some (-1:Int))) (cond a (some (1:Int)) (cond (decide (a0 < a1)) (some (-1:Int)) (cond (decide (a0 > a1)) (some (1:Int)) (some (0:Int)))))
theorem ok125 N a0 a1 {r} (h:F125 N a0 a1=some r):Con prog 125 [I a0,I a1] [.lf (.v B0 r)]:=by
 refine ctr [.lf (.v B0)] K func125 rfl fun w0 E0 ht=>?_
 unfold F125 at h
 show VW _ _ _ _ _ (retQ _ _ _ _) _
 refine nR K (tn 1) <| sq <| VW.region <| nG K 1 (tn 1) ?_
 obtain⟨a,hy,h⟩:=aS h
 refine clc false [.t B0] [] (some 8) K (ok173 N _ hy) <| nN K (tn 1) <| sq <| VW.region <| nG K 1 (tn 1) ?_
 obtain⟨b,hy,h⟩:=aS h
 refine clc false [.t B0] [] (some 10) K (ok173 N _ hy) <| nN K (tn 1) <| sq <| nR K (tn 1) ?_
 refine cnd h ?_ ?_<;>intro h
 ·refine sq <| nR K (tn 1) ?_
  refine cnd h ?_ ?_<;>intro h
  ·refine nR K (tn 1) ?_
   cases h;exact VW.ret (rt [])
  refine VW.skip <| nR K (tn 1) ?_
  cases h;exact VW.ret (rt [])
 refine VW.skip <| sq <| nR K (tn 1) ?_
 refine cnd h ?_ ?_<;>intro h
 ·refine nR K (tn 1) ?_
  cases h;exact VW.ret (rt [])
 refine VW.skip <| sq <| nR K (tn 3) ?_
 refine cnd h ?_ ?_<;>intro h
 ·refine nR K (tn 1) ?_
  cases h;exact VW.ret (rt [])
 refine VW.skip <| sq <| nR K (tn 3) ?_
 refine cnd h ?_ ?_<;>intro h
 ·refine nR K (tn 1) ?_
  cases h;exact VW.ret (rt [])
 refine VW.skip <| nR K (tn 1) ?_
 cases h;exact VW.ret (rt [])
def F126_j0 (N:Nat) (a:Int):Option (Int) :=
  some a
def F126_j1 (N:Nat) (a:Int→Int→Int→Option (Int)) (b:Int) (c:Int) (d:Int):Option (Int) :=
  a d b (IntKind.i64.wrap (c+(1:Int)))
def F126_l0_b (N:Nat) (a0:L2) (a1:L1) (d:Int→Int→Int→Option (Int)) (b:Int) (c:Int) (a:Int):Option (Int) :=
  cond (decide (a < c)) (gd (InR a a0.length) (andO (F70 N (a0.getD a.toNat (Ty.dflt B1)) a1) fun e=>cond e (F126_j1 N d c a (IntKind.i64.wrap (b+(1:Int)))) (F126_j1 N d c a b))) (F126_j0 N b)
def F126_l0 (N:Nat) (a0:L2) (a1:L1):=loopF (F126_l0_b N a0 a1) (fun _ _ _=>none)
theorem F126_l0_s {N a0 a1 k} (hk:0 < k:=by omega):F126_l0 N a0 a1 k=F126_l0_b N a0 a1 (F126_l0 N a0 a1 (k - 1)):=lS hk
def F126 (N:Nat) (a0:L2) (a1:L1):Option (Int) :=
  F126_l0 N a0 a1 N (0:Int) (a0.length:Int) (0:Int)
theorem ok126 N a0 a1 {r} (h:F126 N a0 a1=some r):Con prog 126 [Vv B2 a0,Vv B1 a1] [.lf (.v B0 r)]:=by
 refine ctr [.lf (.v B0)] K func126 rfl fun w0 E0 ht=>?_
 unfold F126 at h
 show VW _ _ _ _ _ (retQ _ _ _ _) _
 refine nR K (tn 1) <| nR K (tn 1) ?_
 refine VW.join (fun s=>∃f,s=⟨[(5,I f)],[]⟩∧F126_j0 N f=some r) ?_ ?_
 ·refine nR K (tn 3) <| VW.block <| lop (fun k s=>∃a b c,s=⟨[(1,Vv B1 a1),(5,I a),(8,Vv B2 a0),(9,I b),(10,I c)],[]⟩∧F126_l0 N a0 a1 k a b c=some r) N [.ren [1,5,8,9,10] []] ⟨(0:Int),(a0.length:Int),(0:Int),rfl,h⟩ ?_
  rintro e s ⟨a,b,c,rfl,h⟩
  cases e with
  | zero=>exact nv h
  | succ e =>
   rw [F126_l0_s,F126_l0_b] at h
   refine nR K (tn 1) <| sq ?_
   refine cnd h ?_ ?_<;>intro h
   ·refine VW.skip ?_
    refine VW.join (fun s=>∃d,s=⟨[(1,Vv B1 a1),(5,I d),(8,Vv B2 a0),(9,I b),(10,I c)],[]⟩∧F126_j1 N (F126_l0 N a0 a1 e) b c d=some r) ?_ ?_
    ·refine VW.block ?_
     obtain⟨g,h⟩:=gS h
     refine nR K (an g (tn 2)) <| sq <| VW.region <| nG K 2 (tn 2) ?_
     obtain⟨i,hy,h⟩:=aS h
     refine clc false [.t B1, .t B1] [] (some 16) K (ok70 N _ _ hy) <| nN K (tn 0) ?_
     refine cnd h ?_ ?_<;>intro h
     ·refine nE K (tn 3) ?_
      exact arv [.ren [1,5,8,9,10] []] ⟨(wr (a+(1:Int))),rfl,h⟩
     refine VW.skip ?_
     exact arv [.ren [1,5,8,9,10] []] ⟨a,rfl,h⟩
    rintro s ⟨d,rfl,h⟩
    unfold F126_j1 at h
    refine nE K (tn 2) ?_
    exact aro [.ren [1,5,8,9,10] []] ⟨d,b,(wr (c+(1:Int))),rfl,h⟩
   refine VW.exit ?_
   exact arv [.ren [5] []] ⟨a,rfl,h⟩
 rintro s ⟨f,rfl,h⟩
 unfold F126_j0 at h
 refine nR K (tn 2) ?_
 cases h;exact VW.ret (rt [])
theorem ok174_c1 N a0 a1 a2 (e:FuncId) e3_0 (p3:L1→L1→Option (Int)) (hp3:∀(z0:L1) (z1:L1) (r:Int),p3 z0 z1=some r→Con prog e [Vv B1 z0,Vv B1 z1, .lf (.fp Y50 e3_0 0)] [.lf (.v B0 r)]) {r} (h:F174 N a0 a1 a2 p3=some r):ConM prog 174 [ar 0 B1 a0 .tp] [hh 0,I a1,I a2, .clo e [.lf (.fp Y50 e3_0 0)]] [] [ar 0 B1 r .tp]:=by
 refine ⟨enters_of func174 rfl (by decide),HM.intro [] K func174 rfl (Nat.le_of_ble_eq_true rfl) (Nat.le_of_ble_eq_true rfl) fun w0 E0 ht=>?_⟩
 unfold F174 at h
 show VW _ _ _ _ _ (retM _ _ _ _ _) _
 refine VW.fin <| nR K (tn 3) <| VW.block <| lop (fun k s=>∃g d,s=⟨[(0,hh 0),(1,I a1),(2,I a2),(3, .clo e [.lf (.fp Y50 e3_0 0)]),(8,I d),(65536,hh 0)],[ar 0 B1 g .tp]⟩∧F174_l1 N a1 a2 p3 k g d=some r) N [.ren [0,1,2,3,8,65536] [0]] ⟨a0,(wr (a1+(1:Int))),rfl,h⟩ ?_
 rintro f s ⟨g,d,rfl,h⟩
 cases f with
 | zero=>exact nv h
 | succ f =>
  rw [F174_l1_s,F174_l1_b] at h
  refine sq <| nR K (tn 3) ?_
  refine cnd h ?_ ?_<;>intro h
  ·refine VW.skip ?_
   refine VW.join (fun s=>∃i,s=⟨[(0,hh 0),(1,I a1),(2,I a2),(3, .clo e [.lf (.fp Y50 e3_0 0)]),(8,I d),(65536,hh 0)],[ar 0 B1 i .tp]⟩∧F174_j0 N (F174_l1 N a1 a2 p3 f) d i=some r) ?_ ?_
   ·refine VW.block <| nR K (tn 2) <| VW.block <| lop (fun k s=>∃c a,s=⟨[(0,hh 0),(1,I a1),(2,I a2),(3, .clo e [.lf (.fp Y50 e3_0 0)]),(8,I d),(9,I a),(65536,hh 0)],[ar 0 B1 c .tp]⟩∧F174_l0 N a1 (F174_l1 N a1 a2 p3 f) p3 d k c a=some r) N [.ren [0,1,2,3,8,9,65536] [0]] ⟨g,d,rfl,h⟩ ?_
    rintro l s ⟨c,a,rfl,h⟩
    cases l with
    | zero=>exact nv h
    | succ l =>
     rw [F174_l0_s,F174_l0_b] at h
     refine sq <| sq ?_
     rcases Bool.eq_false_or_eq_true (decide (a > a1)) with hb511 | hb511
     ·replace h:=cond_t h hb511
      obtain⟨n,o,p,q,h⟩:=gV h
      obtain⟨C,hy516,h⟩:=aS h
      refine dr K [(3, .lit true),(14, .cl [] (some 32) [.lf (.v B0 C)])] [(3,0),(14,0)] [] [0,1,2,3,8,9,34,65536] [0] (pu 7 (an n (an o (pu 3 (an p (an q (tn 3))))))) ⟨qB 21 hb511 K trivial,qC false [.t B1, .t B1] [.k] [] (some 32) K (hp3 _ _ _ hy516),trivial⟩ ?_
      refine cnd h ?_ ?_<;>intro h
      ·refine VW.skip <| sq <| VW.block ?_
       obtain⟨u,w,j,x,y,h⟩:=gW h
       obtain⟨z,A,B,h⟩:=gU h
       refine dr K [(12, .ev [])] [(12,0),(12,1)] [15,17] [0,1,2,3,8,9,65536] [0] (pu 8 (an u (an w (pu 3 (an x (an y (an z (an A (an B (tn 0)))))))))) ⟨⟨_,rfl,Stp.ev K (m:= .dp) (φ:=InR a c.length) (by kernel_rfl) j⟩,qE [] K (show InR a (c.set a.toNat (c.getD ((wr (a - (1:Int))).toNat) (Ty.dflt B1))).length from by simpa using j),trivial⟩ ?_
       refine nE K (tn 3) ?_
       exact aro [.ren [0,1,2,3,8,9,65536] [0]] ⟨((c.set a.toNat (c.getD ((wr (a - (1:Int))).toNat) (Ty.dflt B1))).set ((wr (a - (1:Int))).toNat) (c.getD a.toNat (Ty.dflt B1))),(wr (a - (1:Int))),rfl,h⟩
      refine VW.exit ?_
      exact arv [.ren [0,1,2,3,8,65536] [0]] ⟨c,rfl,h⟩
     replace h:=cond_f h hb511
     refine dr K [(3, .lit false)] [(3,0)] [] [0,1,2,3,8,9,34,65536] [0] (tn 17) ⟨qB 21 hb511 K trivial,trivial⟩ ?_
     refine VW.cond (b:=false) (by kernel_rfl) (fun h'=>nomatch h') (fun _=>?_)
     refine VW.exit ?_
     exact arv [.ren [0,1,2,3,8,65536] [0]] ⟨c,rfl,h⟩
   rintro s ⟨i,rfl,h⟩
   unfold F174_j0 at h
   refine nE K (tn 3) ?_
   exact aro [.ren [0,1,2,3,8,65536] [0]] ⟨i,(wr (d+(1:Int))),rfl,h⟩
  refine VW.exit ?_
  replace h:=Option.some.inj h
  subst h
  exact arM [.ren [65536] [0]] ⟨[],by kernel_rfl,by kernel_rfl,by kernel_rfl⟩
theorem ok196_c1 N a0 a1 a2 a3 (c:FuncId) e4_0 (p4:L1→L1→Option (Int)) (hp4:∀(z0:L1) (z1:L1) (r:Int),p4 z0 z1=some r→Con prog c [Vv B1 z0,Vv B1 z1, .lf (.fp Y50 e4_0 0)] [.lf (.v B0 r)]) {r} (h:F196 N a0 a1 a2 a3 p4=some r):ConM prog 196 [ar 0 B1 a0 .tp] [hh 0,I a1,I a2,I a3, .clo c [.lf (.fp Y50 e4_0 0)]] [] [ar 0 B1 r .tp]:=by
 refine ⟨enters_of func196 rfl (by decide),HM.intro [] K func196 rfl (Nat.le_of_ble_eq_true rfl) (Nat.le_of_ble_eq_true rfl) fun w0 E0 ht=>?_⟩
 unfold F196 at h
 show VW _ _ _ _ _ (retM _ _ _ _ _) _
 refine VW.fin <| nR K (tn 1) <| VW.block <| lop (fun k s=>∃b a,s=⟨[(0,hh 0),(1,I a1),(2,I a2),(3,I a3),(10,I a),(65536,hh 0)],[ar 0 B1 b .tp]⟩∧F196_l0 N a1 a2 a3 k b a=some r) N [.ren [0,1,2,3,10,65536] [0]] ⟨a0,(0:Int),rfl,h⟩ ?_
 rintro e s ⟨b,a,rfl,h⟩
 cases e with
 | zero=>exact nv h
 | succ e =>
  rw [F196_l0_s,F196_l0_b] at h
  refine sq <| nR K (tn 3) ?_
  refine cnd h ?_ ?_<;>intro h
  ·refine VW.skip <| sq <| VW.block ?_
   obtain⟨f,g,d,i,j,h⟩:=gW h
   obtain⟨l,n,o,h⟩:=gU h
   refine dr K [(18, .ev [])] [(18,0),(18,1)] [21,23] [0,1,2,3,10,65536] [0] (pu 12 (an f (an g (pu 5 (an i (an j (an l (an n (an o (tn 0)))))))))) ⟨⟨_,rfl,Stp.ev K (m:= .dp) (φ:=InR (wr (a1+a)) b.length) (by kernel_rfl) d⟩,qE [] K (show InR (wr (a1+a)) (b.set ((wr (a1+a)).toNat) (b.getD ((wr (a2+a)).toNat) (Ty.dflt B1))).length from by simpa using d),trivial⟩ ?_
   refine nE K (tn 3) ?_
   exact aro [.ren [0,1,2,3,10,65536] [0]] ⟨((b.set ((wr (a1+a)).toNat) (b.getD ((wr (a2+a)).toNat) (Ty.dflt B1))).set ((wr (a2+a)).toNat) (b.getD ((wr (a1+a)).toNat) (Ty.dflt B1))),(wr (a+(1:Int))),rfl,h⟩
  refine VW.exit ?_
  replace h:=Option.some.inj h
  subst h
  exact arM [.ren [65536] [0]] ⟨[],by kernel_rfl,by kernel_rfl,by kernel_rfl⟩
theorem ok194_c1 N a0 a1 a2 a3 (a:FuncId) e4_0 (p4:L1→L1→Option (Int)) (hp4:∀(z0:L1) (z1:L1) (r:Int),p4 z0 z1=some r→Con prog a [Vv B1 z0,Vv B1 z1, .lf (.fp Y50 e4_0 0)] [.lf (.v B0 r)]) {r} (h:F194 N a0 a1 a2 a3 p4=some r):ConM prog 194 [ar 0 B1 a0 .tp] [hh 0,I a1,I a2,I a3, .clo a [.lf (.fp Y50 e4_0 0)]] [] [ar 0 B1 r .tp]:=by
 refine ⟨enters_of func194 rfl (by decide),HM.intro [] K func194 rfl (Nat.le_of_ble_eq_true rfl) (Nat.le_of_ble_eq_true rfl) fun w0 E0 ht=>?_⟩
 unfold F194 at h
 show VW _ _ _ _ _ (retM _ _ _ _ _) _
 refine VW.fin <| nR K (tn 4) <| nR K (tn 4) ?_
 refine VW.join (fun s=>∃g i,s=⟨[(0,hh 0),(2,I a2),(4, .clo a [.lf (.fp Y50 e4_0 0)]),(10,I i),(65536,hh 0)],[ar 0 B1 g .tp]⟩∧F194_j0 N a2 p4 g i=some r) ?_ ?_
 ·refine VW.block <| lop (fun k s=>∃f b e,s=⟨[(0,hh 0),(2,I a2),(4, .clo a [.lf (.fp Y50 e4_0 0)]),(10,I b),(11,I e),(65536,hh 0)],[ar 0 B1 f .tp]⟩∧F194_l0 N a2 p4 k f b e=some r) N [.ren [0,2,4,10,11,65536] [0]] ⟨a0,(wr (a2 - a1)),(wr (a3 - a2)),rfl,h⟩ ?_
  rintro j s ⟨f,b,e,rfl,h⟩
  cases j with
  | zero=>exact nv h
  | succ j =>
   rw [F194_l0_s,F194_l0_b] at h
   refine sq <| nR K (tn 3) ?_
   refine cnd h ?_ ?_<;>intro h
   ·refine VW.skip <| VW.block <| nR K (tn 3) ?_
    refine cnd h ?_ ?_<;>intro h
    ·refine sq <| VW.region <| nG K 7 (tn 7) ?_
     obtain⟨l,hy,h⟩:=aS h
     refine VO.callM [0] [.t B2, .t B0, .t B0, .t B0, .c] (d:=some 31) (by kernel_rfl) (by kernel_rfl) (ok196_c1 N _ _ _ _ a e4_0 p4 hp4 hy) (by kernel_rfl) <| nN K (tn 0) <| nE K (tn 4) ?_
     exact aro [.ren [0,2,4,10,11,65536] [0]] ⟨l,(wr (b - e)),e,rfl,h⟩
    refine sq <| VW.region <| nG K 11 (tn 11) ?_
    obtain⟨m,hy,h⟩:=aS h
    refine VO.callM [0] [.t B2, .t B0, .t B0, .t B0, .c] (d:=some 46) (by kernel_rfl) (by kernel_rfl) (ok196_c1 N _ _ _ _ a e4_0 p4 hp4 hy) (by kernel_rfl) <| nN K (tn 0) <| nE K (tn 4) ?_
    exact aro [.ren [0,2,4,10,11,65536] [0]] ⟨m,b,(wr (e - b)),rfl,h⟩
   refine VW.exit ?_
   exact arv [.ren [0,2,4,10,65536] [0]] ⟨f,b,rfl,h⟩
 rintro s ⟨g,i,rfl,h⟩
 unfold F194_j0 at h
 refine VW.region <| nG K 7 (tn 7) ?_
 obtain⟨n,hy,h⟩:=aS h
 refine VO.callM [0] [.t B2, .t B0, .t B0, .t B0, .c] (d:=some 57) (by kernel_rfl) (by kernel_rfl) (ok196_c1 N _ _ _ _ a e4_0 p4 hp4 hy) (by kernel_rfl) <| nN K (tn 0) ?_
 replace h:=Option.some.inj h
 subst h
 exact arM [.ren [65536] [0]] ⟨[],by kernel_rfl,by kernel_rfl,by kernel_rfl⟩
theorem ok189_c1_b (N:Nat) (a:FuncId) (e4_0:Z50) (p4:L1→L1→Option (Int)) (hp4:∀(z0:L1) (z1:L1) (r:Int),p4 z0 z1=some r→Con prog a [Vv B1 z0,Vv B1 z1, .lf (.fp Y50 e4_0 0)] [.lf (.v B0 r)]) (self:L2→Int→Int→Int→Option (L2)) (ih:∀(a0:L2) (a1:Int) (a2:Int) (a3:Int) (r:L2),self a0 a1 a2 a3=some r→ConM prog 189 [ar 0 B1 a0 .tp] [hh 0,I a1,I a2,I a3, .clo a [.lf (.fp Y50 e4_0 0)]] [] [ar 0 B1 r .tp]) (a0:L2) (a1:Int) (a2:Int) (a3:Int) {r:L2} (h:F189_b N p4 self a0 a1 a2 a3=some r):ConM prog 189 [ar 0 B1 a0 .tp] [hh 0,I a1,I a2,I a3, .clo a [.lf (.fp Y50 e4_0 0)]] [] [ar 0 B1 r .tp]:=by
 refine ⟨enters_of func189 rfl (by decide),HM.intro [] K func189 rfl (Nat.le_of_ble_eq_true rfl) (Nat.le_of_ble_eq_true rfl) fun w0 E0 ht=>?_⟩
 unfold F189_b at h
 show VW _ _ _ _ _ (retM _ _ _ _ _) _
 refine VW.fin ?_
 refine VW.join (fun s=>s=⟨[(0,hh 0),(1,I a1),(2,I a2),(3,I a3),(4, .clo a [.lf (.fp Y50 e4_0 0)]),(65536,hh 0)],[ar 0 B1 a0 .tp]⟩∧F189_j7 N a0 a1 a2 a3 p4 self=some r) ?_ ?_
 ·refine nR K (tn 4) ?_
  refine cnd h ?_ ?_<;>intro h
  ·refine nR K (tn 2) <| nR K (tn 2) ?_
   refine VW.join (fun s=>∃C,s=⟨[(0,hh 0),(1,I a1),(10,I C),(65536,hh 0)],[ar 0 B1 a0 .tp]⟩∧F189_j9 N a0 a1 C=some r) ?_ ?_
   ·refine VW.block <| lop (fun k s=>∃q x,s=⟨[(0,hh 0),(1,I a1),(4, .clo a [.lf (.fp Y50 e4_0 0)]),(10,I q),(11,I x),(65536,hh 0)],[ar 0 B1 a0 .tp]⟩∧F189_l4 N a0 a1 p4 k q x=some r) N [.ren [0,1,4,10,11,65536] [0]] ⟨a2,a3,rfl,h⟩ ?_
    rintro R s ⟨q,x,rfl,h⟩
    cases R with
    | zero=>exact nv h
    | succ R =>
     rw [F189_l4_s,F189_l4_b] at h
     refine sq <| nR K (tn 3) ?_
     refine cnd h ?_ ?_<;>intro h
     ·refine VW.skip <| VW.block <| nR K (pu 4 (an (show (0≤(1:Int)) from by decide) (tn 2))) <| sq ?_
      obtain⟨ai,aj,ak,al,h⟩:=gV h
      obtain⟨au,hy627,h⟩:=aS h
      refine dr K [(9, .cl [] (some 49) [.lf (.v B0 au)])] [(9,0)] [] [0,1,4,10,11,12,50,65536] [0] (pu 3 (an ai (an aj (pu 2 (an ak (an al (tn 2))))))) ⟨qC false [.t B1, .t B1] [.k] [] (some 49) K (hp4 _ _ _ hy627),trivial⟩ ?_
      refine cnd h ?_ ?_<;>intro h
      ·refine nE K (tn 3) ?_
       exact aro [.ren [0,1,4,10,11,65536] [0]] ⟨(wr ((wr (Int.fdiv (IntKind.u64.wrap (wr (q+x))) (2 ^ (min (1:Int).toNat IntKind.u64.bits))))+(1:Int))),x,rfl,h⟩
      refine nE K (tn 2) ?_
      exact aro [.ren [0,1,4,10,11,65536] [0]] ⟨q,(wr (Int.fdiv (IntKind.u64.wrap (wr (q+x))) (2 ^ (min (1:Int).toNat IntKind.u64.bits)))),rfl,h⟩
     refine VW.exit ?_
     exact arv [.ren [0,1,10,65536] [0]] ⟨q,rfl,h⟩
   rintro s ⟨C,rfl,h⟩
   unfold F189_j9 at h
   refine VW.join (fun s=>∃H,s=⟨[(65536,hh 0)],[ar 0 B1 H .tp]⟩∧F189_j8 N H=some r) ?_ ?_
   ·refine nR K (tn 2) <| VW.block <| lop (fun k s=>∃l f,s=⟨[(0,hh 0),(10,I C),(13,I f),(65536,hh 0)],[ar 0 B1 l .tp]⟩∧F189_l3 N C k l f=some r) N [.ren [0,10,13,65536] [0]] ⟨a0,a1,rfl,h⟩ ?_
    rintro Q s ⟨l,f,rfl,h⟩
    cases Q with
    | zero=>exact nv h
    | succ Q =>
     rw [F189_l3_s,F189_l3_b] at h
     refine sq <| nR K (tn 4) ?_
     refine cnd h ?_ ?_<;>intro h
     ·refine VW.skip <| sq <| VW.block ?_
      obtain⟨ab,ac,L,ad,ae,h⟩:=gW h
      obtain⟨af,ag,ah,h⟩:=gU h
      refine dr K [(12, .ev [])] [(12,0),(12,1)] [15,17] [0,10,13,65536] [0] (pu 8 (an ab (an ac (pu 3 (an ad (an ae (an af (an ag (an ah (tn 0)))))))))) ⟨⟨_,rfl,Stp.ev K (m:= .dp) (φ:=InR f l.length) (by kernel_rfl) L⟩,qE [] K (show InR f (l.set f.toNat (l.getD ((wr (f+(1:Int))).toNat) (Ty.dflt B1))).length from by simpa using L),trivial⟩ ?_
      refine nE K (tn 3) ?_
      exact aro [.ren [0,10,13,65536] [0]] ⟨((l.set f.toNat (l.getD ((wr (f+(1:Int))).toNat) (Ty.dflt B1))).set ((wr (f+(1:Int))).toNat) (l.getD f.toNat (Ty.dflt B1))),(wr (f+(1:Int))),rfl,h⟩
     refine VW.exit ?_
     exact arv [.ren [65536] [0]] ⟨l,rfl,h⟩
   rintro s ⟨H,rfl,h⟩
   unfold F189_j8 at h
   replace h:=Option.some.inj h
   subst h
   refine VW.ghl [.ren [65536] [0]] (VW.ret ?_)
   exact ⟨[],by kernel_rfl,by kernel_rfl,by kernel_rfl⟩
  refine VW.skip ?_
  exact arv [.ren [0,1,2,3,4,65536] [0]] ⟨rfl,h⟩
 rintro s ⟨rfl,h⟩
 unfold F189_j7 at h
 refine VW.join (fun s=>s=⟨[(0,hh 0),(1,I a1),(2,I a2),(3,I a3),(4, .clo a [.lf (.fp Y50 e4_0 0)]),(65536,hh 0)],[ar 0 B1 a0 .tp]⟩∧F189_j4 N a0 a1 a2 a3 p4 self=some r) ?_ ?_
 ·refine nR K (tn 4) ?_
  refine cnd h ?_ ?_<;>intro h
  ·refine nR K (tn 2) <| nR K (tn 2) ?_
   refine VW.join (fun s=>∃B,s=⟨[(0,hh 0),(2,I a2),(14,I B),(65536,hh 0)],[ar 0 B1 a0 .tp]⟩∧F189_j6 N a0 a2 B=some r) ?_ ?_
   ·refine VW.block <| lop (fun k s=>∃p w,s=⟨[(0,hh 0),(2,I a2),(4, .clo a [.lf (.fp Y50 e4_0 0)]),(14,I p),(15,I w),(65536,hh 0)],[ar 0 B1 a0 .tp]⟩∧F189_l2 N a0 a2 p4 k p w=some r) N [.ren [0,2,4,14,15,65536] [0]] ⟨a1,a2,rfl,h⟩ ?_
    rintro P s ⟨p,w,rfl,h⟩
    cases P with
    | zero=>exact nv h
    | succ P =>
     rw [F189_l2_s,F189_l2_b] at h
     refine sq <| nR K (tn 3) ?_
     refine cnd h ?_ ?_<;>intro h
     ·refine VW.skip <| VW.block <| nR K (pu 4 (an (show (0≤(1:Int)) from by decide) (tn 2))) <| sq ?_
      obtain⟨a7,a8,a9,aa,h⟩:=gV h
      obtain⟨aq,hy484,h⟩:=aS h
      refine dr K [(9, .cl [] (some 101) [.lf (.v B0 aq)])] [(9,0)] [] [0,2,4,14,15,16,103,65536] [0] (pu 3 (an a7 (an a8 (pu 2 (an a9 (an aa (tn 3))))))) ⟨qC false [.t B1, .t B1] [.k] [] (some 101) K (hp4 _ _ _ hy484),trivial⟩ ?_
      refine cnd h ?_ ?_<;>intro h
      ·refine nE K (tn 3) ?_
       exact aro [.ren [0,2,4,14,15,65536] [0]] ⟨(wr ((wr (Int.fdiv (IntKind.u64.wrap (wr (p+w))) (2 ^ (min (1:Int).toNat IntKind.u64.bits))))+(1:Int))),w,rfl,h⟩
      refine nE K (tn 2) ?_
      exact aro [.ren [0,2,4,14,15,65536] [0]] ⟨p,(wr (Int.fdiv (IntKind.u64.wrap (wr (p+w))) (2 ^ (min (1:Int).toNat IntKind.u64.bits)))),rfl,h⟩
     refine VW.exit ?_
     exact arv [.ren [0,2,14,65536] [0]] ⟨p,rfl,h⟩
   rintro s ⟨B,rfl,h⟩
   unfold F189_j6 at h
   refine VW.join (fun s=>∃G,s=⟨[(65536,hh 0)],[ar 0 B1 G .tp]⟩∧F189_j5 N G=some r) ?_ ?_
   ·refine nR K (tn 2) <| VW.block <| lop (fun k s=>∃j e,s=⟨[(0,hh 0),(14,I B),(17,I e),(65536,hh 0)],[ar 0 B1 j .tp]⟩∧F189_l1 N B k j e=some r) N [.ren [0,14,17,65536] [0]] ⟨a0,a2,rfl,h⟩ ?_
    rintro O s ⟨j,e,rfl,h⟩
    cases O with
    | zero=>exact nv h
    | succ O =>
     rw [F189_l1_s,F189_l1_b] at h
     refine sq <| nR K (tn 3) ?_
     refine cnd h ?_ ?_<;>intro h
     ·refine VW.skip <| sq <| VW.block ?_
      obtain⟨W,X,J,Y,Z,h⟩:=gW h
      obtain⟨a4,a5,a6,h⟩:=gU h
      refine dr K [(12, .ev [])] [(12,0),(12,1)] [15,17] [0,14,17,65536] [0] (pu 8 (an W (an X (pu 3 (an Y (an Z (an a4 (an a5 (an a6 (tn 0)))))))))) ⟨⟨_,rfl,Stp.ev K (m:= .dp) (φ:=InR e j.length) (by kernel_rfl) J⟩,qE [] K (show InR e (j.set e.toNat (j.getD ((wr (e - (1:Int))).toNat) (Ty.dflt B1))).length from by simpa using J),trivial⟩ ?_
      refine nE K (tn 3) ?_
      exact aro [.ren [0,14,17,65536] [0]] ⟨((j.set e.toNat (j.getD ((wr (e - (1:Int))).toNat) (Ty.dflt B1))).set ((wr (e - (1:Int))).toNat) (j.getD e.toNat (Ty.dflt B1))),(wr (e - (1:Int))),rfl,h⟩
     refine VW.exit ?_
     exact arv [.ren [65536] [0]] ⟨j,rfl,h⟩
   rintro s ⟨G,rfl,h⟩
   unfold F189_j5 at h
   replace h:=Option.some.inj h
   subst h
   refine VW.ghl [.ren [65536] [0]] (VW.ret ?_)
   exact ⟨[],by kernel_rfl,by kernel_rfl,by kernel_rfl⟩
  refine VW.skip ?_
  exact arv [.ren [0,1,2,3,4,65536] [0]] ⟨rfl,h⟩
 rintro s ⟨rfl,h⟩
 unfold F189_j4 at h
 refine nR K (pu 4 (an (show (0≤(1:Int)) from by decide) (tn 2))) <| nR K (tn 4) <| nR K (tn 2) ?_
 refine VW.join (fun s=>∃g i D E,s=⟨[(0,hh 0),(1,I a1),(2,I a2),(3,I a3),(4, .clo a [.lf (.fp Y50 e4_0 0)]),(18,I g),(19,I i),(20,I D),(21,I E),(65536,hh 0)],[ar 0 B1 a0 .tp]⟩∧F189_j3 N a0 a1 a2 a3 p4 self g i D E=some r) ?_ ?_
 ·refine nR K (tn 3) ?_
  refine cnd h ?_ ?_<;>intro h
  ·refine nR K (tn 4) <| nE K (tn 2) ?_
   exact arv [.ren [0,1,2,3,4,18,19,20,21,65536] [0]] ⟨(wr (Int.fdiv (IntKind.u64.wrap (wr (a1+a3))) (2 ^ (min (1:Int).toNat IntKind.u64.bits)))),(wr ((wr (Int.fdiv (IntKind.u64.wrap (wr (a1+a3))) (2 ^ (min (1:Int).toNat IntKind.u64.bits))))+a2)),(wr ((wr ((wr (Int.fdiv (IntKind.u64.wrap (wr (a1+a3))) (2 ^ (min (1:Int).toNat IntKind.u64.bits))))+a2)) - a3)),(wr (Int.fdiv (IntKind.u64.wrap (wr (a1+a3))) (2 ^ (min (1:Int).toNat IntKind.u64.bits)))),rfl,h⟩
  refine nR K (tn 2) <| nE K (tn 2) ?_
  exact arv [.ren [0,1,2,3,4,18,19,20,21,65536] [0]] ⟨(wr (Int.fdiv (IntKind.u64.wrap (wr (a1+a3))) (2 ^ (min (1:Int).toNat IntKind.u64.bits)))),(wr ((wr (Int.fdiv (IntKind.u64.wrap (wr (a1+a3))) (2 ^ (min (1:Int).toNat IntKind.u64.bits))))+a2)),a1,a2,rfl,h⟩
 rintro s ⟨g,i,D,E,rfl,h⟩
 unfold F189_j3 at h
 refine nR K (tn 3) ?_
 refine VW.join (fun s=>∃n,s=⟨[(0,hh 0),(1,I a1),(2,I a2),(3,I a3),(4, .clo a [.lf (.fp Y50 e4_0 0)]),(18,I g),(19,I i),(20,I n),(65536,hh 0)],[ar 0 B1 a0 .tp]⟩∧F189_j2 N a0 a1 a2 a3 p4 self g i n=some r) ?_ ?_
 ·refine VW.block <| lop (fun k s=>∃o u A,s=⟨[(0,hh 0),(1,I a1),(2,I a2),(3,I a3),(4, .clo a [.lf (.fp Y50 e4_0 0)]),(18,I g),(19,I i),(20,I o),(21,I u),(22,I A),(65536,hh 0)],[ar 0 B1 a0 .tp]⟩∧F189_l0 N a0 a1 a2 a3 p4 self g i k o u A=some r) N [.ren [0,1,2,3,4,18,19,20,21,22,65536] [0]] ⟨D,E,(wr (i - (1:Int))),rfl,h⟩ ?_
  rintro M s ⟨o,u,A,rfl,h⟩
  cases M with
  | zero=>exact nv h
  | succ M =>
   rw [F189_l0_s,F189_l0_b] at h
   refine sq <| nR K (tn 3) ?_
   refine cnd h ?_ ?_<;>intro h
   ·refine VW.skip <| VW.block <| nR K (pu 4 (an (show (0≤(1:Int)) from by decide) (tn 2))) <| sq ?_
    obtain⟨S,T,U,V,h⟩:=gV h
    obtain⟨ap,hy340,h⟩:=aS h
    refine dr K [(11, .cl [] (some 169) [.lf (.v B0 ap)])] [(11,0)] [] [0,1,2,3,4,18,19,20,21,22,23,171,65536] [0] (pu 5 (an S (an T (pu 2 (an U (an V (tn 3))))))) ⟨qC false [.t B1, .t B1] [.k] [] (some 169) K (hp4 _ _ _ hy340),trivial⟩ ?_
    refine cnd h ?_ ?_<;>intro h
    ·refine nE K (tn 3) ?_
     exact aro [.ren [0,1,2,3,4,18,19,20,21,22,65536] [0]] ⟨(wr ((wr (Int.fdiv (IntKind.u64.wrap (wr (o+u))) (2 ^ (min (1:Int).toNat IntKind.u64.bits))))+(1:Int))),u,A,rfl,h⟩
    refine nE K (tn 2) ?_
    exact aro [.ren [0,1,2,3,4,18,19,20,21,22,65536] [0]] ⟨o,(wr (Int.fdiv (IntKind.u64.wrap (wr (o+u))) (2 ^ (min (1:Int).toNat IntKind.u64.bits)))),A,rfl,h⟩
   refine VW.exit ?_
   exact arv [.ren [0,1,2,3,4,18,19,20,65536] [0]] ⟨o,rfl,h⟩
 rintro s ⟨n,rfl,h⟩
 unfold F189_j2 at h
 refine nR K (tn 4) ?_
 refine VW.join (fun s=>∃y z,s=⟨[(0,hh 0),(1,I a1),(3,I a3),(4, .clo a [.lf (.fp Y50 e4_0 0)]),(18,I g),(20,I n),(24,I z),(65536,hh 0)],[ar 0 B1 y .tp]⟩∧F189_j1 N a1 a3 self g n y z=some r) ?_ ?_
 ·refine sq <| VW.region <| nG K 4 (tn 4) ?_
  refine spC 181 h ?_ ?_<;>intro h
  ·refine nN K (tn 4) ?_
   refine cnd h ?_ ?_<;>intro h
   ·refine VW.region <| nG K 5 (tn 5) ?_
    obtain⟨ao,hy,h⟩:=aS h
    refine VO.callM [0] [.t B2, .t B0, .t B0, .t B0, .c] (d:=some 191) (by kernel_rfl) (by kernel_rfl) (ok194_c1 N _ _ _ _ a e4_0 p4 hp4 hy) (by kernel_rfl) <| nN K (tn 0) ?_
    exact arv [.ren [0,1,3,4,18,20,24,65536] [0]] ⟨ao,(wr (i - n)),rfl,h⟩
   refine VW.skip ?_
   exact arv [.ren [0,1,3,4,18,20,24,65536] [0]] ⟨a0,(wr (i - n)),rfl,h⟩
  refine nN K (tn 4) ?_
  refine VW.cond (b:=false) (by kernel_rfl) (fun h'=>nomatch h') (fun _=>?_)
  refine VW.skip ?_
  exact arv [.ren [0,1,3,4,18,20,24,65536] [0]] ⟨a0,(wr (i - n)),rfl,h⟩
 rintro s ⟨y,z,rfl,h⟩
 unfold F189_j1 at h
 refine VW.join (fun s=>∃F,s=⟨[(0,hh 0),(3,I a3),(4, .clo a [.lf (.fp Y50 e4_0 0)]),(18,I g),(24,I z),(65536,hh 0)],[ar 0 B1 F .tp]⟩∧F189_j0 N a3 self g z F=some r) ?_ ?_
 ·refine sq <| VW.region <| nG K 4 (tn 4) ?_
  refine spC 195 h ?_ ?_<;>intro h
  ·refine nN K (tn 4) ?_
   refine cnd h ?_ ?_<;>intro h
   ·refine VW.region <| nG K 5 (tn 5) ?_
    obtain⟨am,hy,h⟩:=aS h
    refine VO.callM [0] [.t B2, .t B0, .t B0, .t B0, .c] (d:=some 205) (by kernel_rfl) (by kernel_rfl) (ih _ _ _ _ _ hy) (by kernel_rfl) <| nN K (tn 0) ?_
    exact arv [.ren [0,3,4,18,24,65536] [0]] ⟨am,rfl,h⟩
   refine VW.skip ?_
   exact arv [.ren [0,3,4,18,24,65536] [0]] ⟨y,rfl,h⟩
  refine nN K (tn 4) ?_
  refine VW.cond (b:=false) (by kernel_rfl) (fun h'=>nomatch h') (fun _=>?_)
  refine VW.skip ?_
  exact arv [.ren [0,3,4,18,24,65536] [0]] ⟨y,rfl,h⟩
 rintro s ⟨F,rfl,h⟩
 unfold F189_j0 at h
 refine sq <| VW.region <| nG K 4 (tn 4) ?_
 refine spC 209 h ?_ ?_<;>intro h
 ·refine nN K (tn 4) ?_
  refine cnd h ?_ ?_<;>intro h
  ·refine VW.region <| nG K 5 (tn 5) ?_
   obtain⟨av,hy,h⟩:=aS h
   refine VO.callM [0] [.t B2, .t B0, .t B0, .t B0, .c] (d:=some 219) (by kernel_rfl) (by kernel_rfl) (ih _ _ _ _ _ hy) (by kernel_rfl) <| nN K (tn 0) ?_
   replace h:=Option.some.inj h
   subst h
   exact arM [.ren [65536] [0]] ⟨[],by kernel_rfl,by kernel_rfl,by kernel_rfl⟩
  refine VW.skip ?_
  replace h:=Option.some.inj h
  subst h
  exact arM [.ren [65536] [0]] ⟨[],by kernel_rfl,by kernel_rfl,by kernel_rfl⟩
 refine nN K (tn 4) ?_
 refine VW.cond (b:=false) (by kernel_rfl) (fun h'=>nomatch h') (fun _=>?_)
 refine VW.skip ?_
 replace h:=Option.some.inj h
 subst h
 exact arM [.ren [65536] [0]] ⟨[],by kernel_rfl,by kernel_rfl,by kernel_rfl⟩
theorem ok189_c1_k (N:Nat) (a:FuncId) (e4_0:Z50) (p4:L1→L1→Option (Int)) (hp4:∀(z0:L1) (z1:L1) (r:Int),p4 z0 z1=some r→Con prog a [Vv B1 z0,Vv B1 z1, .lf (.fp Y50 e4_0 0)] [.lf (.v B0 r)]):∀(k:Nat) (a0:L2) (a1:Int) (a2:Int) (a3:Int) (r:L2),loopF (F189_b N p4) (fun _ _ _ _=>none) k a0 a1 a2 a3=some r→ConM prog 189 [ar 0 B1 a0 .tp] [hh 0,I a1,I a2,I a3, .clo a [.lf (.fp Y50 e4_0 0)]] [] [ar 0 B1 r .tp]
 | 0,a0,a1,a2,a3,r,h=>nomatch (show (none:Option (L2))=some r from h)
 | k+1,a0,a1,a2,a3,r,h=>ok189_c1_b N a e4_0 p4 hp4 _ (ok189_c1_k N a e4_0 p4 hp4 k) a0 a1 a2 a3 h
theorem ok189_c1 N a0 a1 a2 a3 (a:FuncId) e4_0 (p4:L1→L1→Option (Int)) (hp4:∀(z0:L1) (z1:L1) (r:Int),p4 z0 z1=some r→Con prog a [Vv B1 z0,Vv B1 z1, .lf (.fp Y50 e4_0 0)] [.lf (.v B0 r)]) {r} (h:F189 N a0 a1 a2 a3 p4=some r):ConM prog 189 [ar 0 B1 a0 .tp] [hh 0,I a1,I a2,I a3, .clo a [.lf (.fp Y50 e4_0 0)]] [] [ar 0 B1 r .tp]:=ok189_c1_k N a e4_0 p4 hp4 N a0 a1 a2 a3 r h
theorem ok172_c1 N a0 a1 (a:FuncId) e2_0 (p2:L1→L1→Option (Int)) (hp2:∀(z0:L1) (z1:L1) (r:Int),p2 z0 z1=some r→Con prog a [Vv B1 z0,Vv B1 z1, .lf (.fp Y50 e2_0 0)] [.lf (.v B0 r)]) {r} (h:F172 N a0 a1 p2=some r):ConM prog 172 [ar 0 B1 a0 .tp] [hh 0,I a1, .clo a [.lf (.fp Y50 e2_0 0)]] [] [ar 0 B1 r .tp]:=by
 refine ⟨enters_of func172 rfl (by decide),HM.intro [] K func172 rfl (Nat.le_of_ble_eq_true rfl) (Nat.le_of_ble_eq_true rfl) fun w0 E0 ht=>?_⟩
 unfold F172 at h
 show VW _ _ _ _ _ (retM _ _ _ _ _) _
 refine VW.fin <| nR K (tn 1) <| nR K (tn 3) ?_
 refine VW.join (fun s=>∃u w,s=⟨[(0,hh 0),(1,I a1),(2, .clo a [.lf (.fp Y50 e2_0 0)]),(6,I (20:Int)),(7,I w),(65536,hh 0)],[ar 0 B1 u .tp]⟩∧F172_j2 N a1 p2 u w=some r) ?_ ?_
 ·refine VW.block <| lop (fun k s=>∃o p g,s=⟨[(0,hh 0),(1,I a1),(2, .clo a [.lf (.fp Y50 e2_0 0)]),(6,I (20:Int)),(7,I p),(8,I g),(65536,hh 0)],[ar 0 B1 o .tp]⟩∧F172_l2 N a1 p2 k o p g=some r) N [.ren [0,1,2,6,7,8,65536] [0]] ⟨a0,(0:Int),(20:Int),rfl,h⟩ ?_
  rintro y s ⟨o,p,g,rfl,h⟩
  cases y with
  | zero=>exact nv h
  | succ y =>
   rw [F172_l2_s,F172_l2_b] at h
   refine sq <| nR K (tn 3) ?_
   refine cnd h ?_ ?_<;>intro h
   ·refine VW.skip <| VW.block <| sq <| VW.region <| nG K 4 (tn 4) ?_
    obtain⟨C,hy,h⟩:=aS h
    refine VO.callM [0] [.t B2, .t B0, .t B0, .c] (d:=some 18) (by kernel_rfl) (by kernel_rfl) (ok174_c1 N _ _ _ a e2_0 p2 hp2 hy) (by kernel_rfl) <| nN K (tn 0) <| nR K (tn 2) <| nE K (tn 4) ?_
    exact aro [.ren [0,1,2,6,7,8,65536] [0]] ⟨C,g,(wr (g+(20:Int))),rfl,h⟩
   refine VW.exit ?_
   exact arv [.ren [0,1,2,6,7,65536] [0]] ⟨o,p,rfl,h⟩
 rintro s ⟨u,w,rfl,h⟩
 unfold F172_j2 at h
 refine sq <| VW.region <| nG K 4 (tn 4) ?_
 obtain⟨z,hy,h⟩:=aS h
 refine VO.callM [0] [.t B2, .t B0, .t B0, .c] (d:=some 27) (by kernel_rfl) (by kernel_rfl) (ok174_c1 N _ _ _ a e2_0 p2 hp2 hy) (by kernel_rfl) <| nN K (tn 0) <| VW.block <| lop (fun k s=>∃i b,s=⟨[(0,hh 0),(1,I a1),(2, .clo a [.lf (.fp Y50 e2_0 0)]),(6,I b),(65536,hh 0)],[ar 0 B1 i .tp]⟩∧F172_l1 N a1 p2 k i b=some r) N [.ren [0,1,2,6,65536] [0]] ⟨z,(20:Int),rfl,h⟩ ?_
 rintro e s ⟨i,b,rfl,h⟩
 cases e with
 | zero=>exact nv h
 | succ e =>
  rw [F172_l1_s,F172_l1_b] at h
  refine sq <| nR K (tn 3) ?_
  refine cnd h ?_ ?_<;>intro h
  ·refine VW.skip <| VW.block <| nR K (tn 4) ?_
   refine VW.join (fun s=>∃j q,s=⟨[(0,hh 0),(1,I a1),(2, .clo a [.lf (.fp Y50 e2_0 0)]),(6,I b),(7,I q),(65536,hh 0)],[ar 0 B1 j .tp]⟩∧F172_j1 N a1 (F172_l1 N a1 p2 e) p2 b j q=some r) ?_ ?_
   ·refine VW.block <| lop (fun k s=>∃m n f,s=⟨[(0,hh 0),(1,I a1),(2, .clo a [.lf (.fp Y50 e2_0 0)]),(6,I b),(7,I n),(8,I f),(65536,hh 0)],[ar 0 B1 m .tp]⟩∧F172_l0 N a1 (F172_l1 N a1 p2 e) p2 b k m n f=some r) N [.ren [0,1,2,6,7,8,65536] [0]] ⟨i,(0:Int),(wr ((2:Int)*b)),rfl,h⟩ ?_
    rintro x s ⟨m,n,f,rfl,h⟩
    cases x with
    | zero=>exact nv h
    | succ x =>
     rw [F172_l0_s,F172_l0_b] at h
     refine sq <| nR K (tn 3) ?_
     refine cnd h ?_ ?_<;>intro h
     ·refine VW.skip <| VW.block <| sq <| VW.region <| nG K 7 (tn 7) ?_
      obtain⟨B,hy,h⟩:=aS h
      refine VO.callM [0] [.t B2, .t B0, .t B0, .t B0, .c] (d:=some 43) (by kernel_rfl) (by kernel_rfl) (ok189_c1 N _ _ _ _ a e2_0 p2 hp2 hy) (by kernel_rfl) <| nN K (tn 0) <| nR K (tn 2) <| nE K (tn 5) ?_
      exact aro [.ren [0,1,2,6,7,8,65536] [0]] ⟨B,f,(wr (f+(wr ((2:Int)*b)))),rfl,h⟩
     refine VW.exit ?_
     exact arv [.ren [0,1,2,6,7,65536] [0]] ⟨m,n,rfl,h⟩
   rintro s ⟨j,q,rfl,h⟩
   unfold F172_j1 at h
   refine VW.join (fun s=>∃l,s=⟨[(0,hh 0),(1,I a1),(2, .clo a [.lf (.fp Y50 e2_0 0)]),(6,I b),(65536,hh 0)],[ar 0 B1 l .tp]⟩∧F172_j0 N (F172_l1 N a1 p2 e) b l=some r) ?_ ?_
   ·refine nR K (tn 4) <| nR K (tn 3) ?_
    refine cnd h ?_ ?_<;>intro h
    ·refine VW.region <| nG K 5 (tn 5) ?_
     obtain⟨A,hy,h⟩:=aS h
     refine VO.callM [0] [.t B2, .t B0, .t B0, .t B0, .c] (d:=some 60) (by kernel_rfl) (by kernel_rfl) (ok189_c1 N _ _ _ _ a e2_0 p2 hp2 hy) (by kernel_rfl) <| nN K (tn 0) ?_
     exact arv [.ren [0,1,2,6,65536] [0]] ⟨A,rfl,h⟩
    refine VW.skip ?_
    exact arv [.ren [0,1,2,6,65536] [0]] ⟨j,rfl,h⟩
   rintro s ⟨l,rfl,h⟩
   unfold F172_j0 at h
   refine nE K (tn 3) ?_
   exact aro [.ren [0,1,2,6,65536] [0]] ⟨l,(wr (b*(2:Int))),rfl,h⟩
  refine VW.exit ?_
  replace h:=Option.some.inj h
  subst h
  exact arM [.ren [65536] [0]] ⟨[],by kernel_rfl,by kernel_rfl,by kernel_rfl⟩
theorem ok123_c1 N a0 (a:FuncId) e1_0 (p1:L1→L1→Option (Int)) (hp1:∀(z0:L1) (z1:L1) (r:Int),p1 z0 z1=some r→Con prog a [Vv B1 z0,Vv B1 z1, .lf (.fp Y50 e1_0 0)] [.lf (.v B0 r)]) {r} (h:F123 N a0 p1=some r):ConM prog 123 [ar 0 B1 a0 .tp] [hh 0, .clo a [.lf (.fp Y50 e1_0 0)]] [] [ar 0 B1 r .tp]:=by
 refine ⟨enters_of func123 rfl (by decide),HM.intro [] K func123 rfl (Nat.le_of_ble_eq_true rfl) (Nat.le_of_ble_eq_true rfl) fun w0 E0 ht=>?_⟩
 unfold F123 at h
 show VW _ _ _ _ _ (retM _ _ _ _ _) _
 refine VW.fin <| VW.region <| nG K 4 (tn 4) ?_
 obtain⟨b,hy,h⟩:=aS h
 refine VO.callM [0] [.t B2, .t B0, .c] (d:=some 8) (by kernel_rfl) (by kernel_rfl) (ok172_c1 N _ _ a e1_0 p1 hp1 hy) (by kernel_rfl) <| nN K (tn 0) ?_
 replace h:=Option.some.inj h
 subst h
 exact arM [.ren [65536] [0]] ⟨[],by kernel_rfl,by kernel_rfl,by kernel_rfl⟩
def F124 (N:Nat) (a0:L1) (a1:L1) (c0:Z50):Option (Int) :=
  gd (InR c0.2.2.1 a0.length) (gd (InR c0.2.2.1 a1.length) (andO (F125 N (a0.getD c0.2.2.1.toNat (Ty.dflt B0)) (a1.getD c0.2.2.1.toNat (Ty.dflt B0))) fun a=>some a))
theorem ok124 N a0 a1 c0 {r} (h:F124 N a0 a1 c0=some r):Con prog 124 [Vv B1 a0,Vv B1 a1, .lf (.fp Y50 c0 0)] [.lf (.v B0 r)]:=by
 refine ctr [.lf (.v B0)] K func124 rfl fun w0 E0 ht=>?_
 unfold F124 at h
 show VW _ _ _ _ _ (retQ _ _ _ _) _
 refine nR K (tn 1) <| sq ?_
 obtain⟨a,b,h⟩:=gT h
 obtain⟨c,hy3,h⟩:=aS h
 refine dr K [(10, .cl [] (some 16) [.lf (.v B0 c)])] [(10,0)] [] [5] [] (pu 3 (an a (pu 4 (an b (tn 3))))) ⟨qC false [.t B0, .t B0] [] [] (some 16) K (ok125 N _ _ hy3),trivial⟩ ?_
 cases h;exact VW.ret (rt [])
end Go.Proofs.YtmkhmpcealeidaaGreat.Vc
namespace Go.Proofs.YtmkhmpcealeidaaGreat.Vc
open Go Go.RowKit Go.Proofs.Tryz
set_option linter.unusedVariables false
set_option maxRecDepth 100000
set_option maxHeartbeats 4000000
def F67_j0 (N:Nat) (a:L2):Option (L2×Bool) :=
  some (a,(decide ((a.length:Int)≤(200:Int))))
def F67_j1 (N:Nat) (a:Int→ByteArray→Int→Int→Int→Bool→L1→L2→L2→Int→Int→Option (L2×Bool)) (b:Int) (c:ByteArray) (d:Int) (e:Int) (f:Int) (g:Bool) (h:L1) (i:L2) (j:Int) (k:Int) (l:L2):Option (L2×Bool) :=
  a b c d e f g h l i j (IntKind.i64.wrap (k+(1:Int)))
def F67_l0_b (N:Nat) (l:Int→ByteArray→Int→Int→Int→Bool→L1→L2→L2→Int→Int→Option (L2×Bool)) (e:Int) (f:ByteArray) (c:Int) (g:Int) (h:Int) (i:Bool) (j:L1) (d:L2) (b:L2) (k:Int) (a:Int):Option (L2×Bool) :=
  cond (decide (a < k)) (gd (InR a b.length) (gd (InR c (b.getD a.toNat (Ty.dflt B1)).length) (andO (F119 N (e,(f,(c,(g,(h,(i,j)))))) ((b.getD a.toNat (Ty.dflt B1)).getD c.toNat (Ty.dflt B0))) fun m=>cond m (gd (d.length+([(b.getD a.toNat (Ty.dflt B1))]).length≤lim (.sl (.int .i64))) (F67_j1 N l e f c g h i j b k a (d++([(b.getD a.toNat (Ty.dflt B1))])))) (F67_j1 N l e f c g h i j b k a d)))) (F67_j0 N d)
def F67_l0 (N:Nat):=loopF (F67_l0_b N) (fun _ _ _ _ _ _ _ _ _ _ _=>none)
theorem F67_l0_s {N k} (hk:0 < k:=by omega):F67_l0 N k=F67_l0_b N (F67_l0 N (k - 1)):=lS hk
def F67_j2 (N:Nat) (a:Int→ByteArray→Int→Int→Int→Bool→L1→L2→L2→Int→Int→Option (L2×Bool)) (b:Int) (c:ByteArray) (d:Int) (e:Int) (f:Int) (g:Bool) (h:L1) (i:L2) (j:Int) (k:Int) (l:L2):Option (L2×Bool) :=
  a b c d e f g h l i j (IntKind.i64.wrap (k+(1:Int)))
def F67_j3 (N:Nat) (c:Int→ByteArray→Int→Int→Int→Bool→L1→L2→L2→Int→Int→Option (L2×Bool)) (d:Int) (e:ByteArray) (f:Int) (g:Int) (h:Int) (i:Bool) (j:L1) (a:L2) (k:L2) (l:Int) (m:Int) (b:L1):Option (L2×Bool) :=
  gd (a.length+([b]).length≤lim (.sl (.int .i64))) (F67_j2 N c d e f g h i j k l m (a++([b])))
def F67_l1_b (N:Nat) (f:Int→ByteArray→Int→Int→Int→Bool→L1→L2→L2→Int→Int→Option (L2×Bool)) (h:Int) (i:ByteArray) (j:Int) (k:Int) (l:Int) (m:Bool) (b:L1) (n:L2) (o:L2) (p:Int) (q:Int) (g:L1→L1→Int→Int→Option (L2×Bool)) (c:L1) (d:L1) (e:Int) (a:Int):Option (L2×Bool) :=
  cond (decide (a < e)) (gd (InR a b.length) (gd (InR (b.getD a.toNat (Ty.dflt B0)) c.length) (gd (d.length+([(c.getD (b.getD a.toNat (Ty.dflt B0)).toNat (Ty.dflt B0))]).length≤lim (.int .i64)) (g c (d++([(c.getD (b.getD a.toNat (Ty.dflt B0)).toNat (Ty.dflt B0))])) e (IntKind.i64.wrap (a+(1:Int))))))) (F67_j3 N f h i j k l m b n o p q d)
def F67_l1 (N:Nat) (a:Int→ByteArray→Int→Int→Int→Bool→L1→L2→L2→Int→Int→Option (L2×Bool)) (b:Int) (c:ByteArray) (d:Int) (e:Int) (f:Int) (g:Bool) (h:L1) (i:L2) (j:L2) (k:Int) (l:Int):=loopF (F67_l1_b N a b c d e f g h i j k l) (fun _ _ _ _=>none)
theorem F67_l1_s {N a b c d e f g h i j l m k} (hk:0 < k:=by omega):F67_l1 N a b c d e f g h i j l m k=F67_l1_b N a b c d e f g h i j l m (F67_l1 N a b c d e f g h i j l m (k - 1)):=lS hk
def F67_l2_b (N:Nat) (f:Int→ByteArray→Int→Int→Int→Bool→L1→L2→L2→Int→Int→Option (L2×Bool)) (g:Int) (h:ByteArray) (i:Int) (j:Int) (k:Int) (l:Bool) (c:L1) (d:L2) (b:L2) (e:Int) (a:Int):Option (L2×Bool) :=
  cond (decide (a < e)) (gd (InR a b.length) (F67_l1 N f g h i j k l c d b e a N (b.getD a.toNat (Ty.dflt B1)) ([]) (c.length:Int) (0:Int))) (F67_j0 N d)
def F67_l2 (N:Nat):=loopF (F67_l2_b N) (fun _ _ _ _ _ _ _ _ _ _ _=>none)
theorem F67_l2_s {N k} (hk:0 < k:=by omega):F67_l2 N k=F67_l2_b N (F67_l2 N (k - 1)):=lS hk
def F67_j4 (N:Nat) (a:Int→ByteArray→Int→Int→Int→Bool→L1→L2→L2→Int→Int→Option (L2×Bool)) (b:Int) (c:ByteArray) (d:Int) (e:Int) (f:Int) (g:Bool) (h:L1) (i:L2) (j:Int) (k:Int) (l:L2):Option (L2×Bool) :=
  a b c d e f g h l i j (IntKind.i64.wrap (k+(1:Int)))
def F67_j5 (N:Nat) (a:L2→L1→L2→Int→Int→Option (L2×Bool)) (b:L1) (c:L2) (d:Int) (e:Int) (f:L2):Option (L2×Bool) :=
  a f b c d (IntKind.i64.wrap (e+(1:Int)))
def F67_l3_b (N:Nat) (j:Int→ByteArray→Int→Int→Int→Bool→L1→L2→L2→Int→Int→Option (L2×Bool)) (k:Int) (l:ByteArray) (d:Int) (m:Int) (h:Int) (n:Bool) (o:L1) (p:L2) (q:Int) (r:Int) (g:L2→L1→L2→Int→Int→Option (L2×Bool)) (e:L2) (a:L1) (c:L2) (f:Int) (b:Int):Option (L2×Bool) :=
  cond (decide (b < f)) (gd (InR b c.length) (gd (InR d a.length) (gd (InR h (c.getD b.toNat (Ty.dflt B1)).length) (cond ((a.getD d.toNat (Ty.dflt B0)) == ((c.getD b.toNat (Ty.dflt B1)).getD h.toNat (Ty.dflt B0))) (gd (InR d a.length) (cond ((a.getD d.toNat (Ty.dflt B0)) != (-2000000:Int)) (andO (F120 N ([a,(c.getD b.toNat (Ty.dflt B1))])) fun i=>gd (e.length+([i]).length≤lim (.sl (.int .i64))) (F67_j5 N g a c f b (e++([i])))) (F67_j5 N g a c f b e))) (F67_j5 N g a c f b e))))) (F67_j4 N j k l d m h n o p q r e)
def F67_l3 (N:Nat) (a:Int→ByteArray→Int→Int→Int→Bool→L1→L2→L2→Int→Int→Option (L2×Bool)) (b:Int) (c:ByteArray) (d:Int) (e:Int) (f:Int) (g:Bool) (h:L1) (i:L2) (j:Int) (k:Int):=loopF (F67_l3_b N a b c d e f g h i j k) (fun _ _ _ _ _=>none)
theorem F67_l3_s {N a b c d e f g h i j l k} (hk:0 < k:=by omega):F67_l3 N a b c d e f g h i j l k=F67_l3_b N a b c d e f g h i j l (F67_l3 N a b c d e f g h i j l (k - 1)):=lS hk
def F67_l4_b (N:Nat) (b:L3) (f:Int→ByteArray→Int→Int→Int→Bool→L1→L2→L2→Int→Int→Option (L2×Bool)) (g:Int) (h:ByteArray) (i:Int) (j:Int) (k:Int) (l:Bool) (m:L1) (d:L2) (c:L2) (e:Int) (a:Int):Option (L2×Bool) :=
  cond (decide (a < e)) (gd (InR a c.length) (gd (InR (1:Int) b.length) (gd ((1:Int).toNat < b.length) (F67_l3 N f g h i j k l m c e a N d (c.getD a.toNat (Ty.dflt B1)) (b.getD ((1:Int).toNat) (Ty.dflt B2)) ((b.getD ((1:Int).toNat) (Ty.dflt B2)).length:Int) (0:Int))))) (F67_j0 N d)
def F67_l4 (N:Nat) (a:L3):=loopF (F67_l4_b N a) (fun _ _ _ _ _ _ _ _ _ _ _=>none)
theorem F67_l4_s {N a k} (hk:0 < k:=by omega):F67_l4 N a k=F67_l4_b N a (F67_l4 N a (k - 1)):=lS hk
def F67_j6 (N:Nat) (a:L2→L2→Int→Int→Option (L2×Bool)) (b:L2) (c:Int) (d:Int) (e:L2):Option (L2×Bool) :=
  a e b c (IntKind.i64.wrap (d+(1:Int)))
def F67_l5_b (N:Nat) (e:L2→L2→Int→Int→Option (L2×Bool)) (c:L2) (b:L2) (d:Int) (a:Int):Option (L2×Bool) :=
  cond (decide (a < d)) (gd (InR a b.length) (andO (F126 N c (b.getD a.toNat (Ty.dflt B1))) fun f=>cond (f == (0:Int)) (gd (c.length+([(b.getD a.toNat (Ty.dflt B1))]).length≤lim (.sl (.int .i64))) (F67_j6 N e b d a (c++([(b.getD a.toNat (Ty.dflt B1))])))) (F67_j6 N e b d a c))) (F67_j0 N c)
def F67_l5 (N:Nat):=loopF (F67_l5_b N) (fun _ _ _ _=>none)
theorem F67_l5_s {N k} (hk:0 < k:=by omega):F67_l5 N k=F67_l5_b N (F67_l5 N (k - 1)):=lS hk
def F67_j7 (N:Nat) (a0:(List Z99)) (a1:L3) (a2:(List Z50)) (a3:Int) (a:L3):Option (L2×Bool) :=
  gd (InR a3 a2.length) (cond (((a2.getD a3.toNat (Ty.dflt Y50)).1) == (0:Int)) (andO (F118 N a0 ((a2.getD a3.toNat (Ty.dflt Y50)).2.1)) fun b=>gd (InR b a1.length) (F67_j0 N (a1.getD b.toNat (Ty.dflt B2)))) (cond (((a2.getD a3.toNat (Ty.dflt Y50)).1) == (1:Int)) (gd (InR (0:Int) a.length) (gd ((0:Int).toNat < a.length) (F67_l0 N N ((a2.getD a3.toNat (Ty.dflt Y50)).1) ((a2.getD a3.toNat (Ty.dflt Y50)).2.1) ((a2.getD a3.toNat (Ty.dflt Y50)).2.2.1) ((a2.getD a3.toNat (Ty.dflt Y50)).2.2.2.1) ((a2.getD a3.toNat (Ty.dflt Y50)).2.2.2.2.1) ((a2.getD a3.toNat (Ty.dflt Y50)).2.2.2.2.2.1) ((a2.getD a3.toNat (Ty.dflt Y50)).2.2.2.2.2.2) ([]) (a.getD ((0:Int).toNat) (Ty.dflt B2)) ((a.getD ((0:Int).toNat) (Ty.dflt B2)).length:Int) (0:Int)))) (cond (((a2.getD a3.toNat (Ty.dflt Y50)).1) == (2:Int)) (gd (InR (0:Int) a.length) (gd ((0:Int).toNat < a.length) (F67_l2 N N ((a2.getD a3.toNat (Ty.dflt Y50)).1) ((a2.getD a3.toNat (Ty.dflt Y50)).2.1) ((a2.getD a3.toNat (Ty.dflt Y50)).2.2.1) ((a2.getD a3.toNat (Ty.dflt Y50)).2.2.2.1) ((a2.getD a3.toNat (Ty.dflt Y50)).2.2.2.2.1) ((a2.getD a3.toNat (Ty.dflt Y50)).2.2.2.2.2.1) ((a2.getD a3.toNat (Ty.dflt Y50)).2.2.2.2.2.2) ([]) (a.getD ((0:Int).toNat) (Ty.dflt B2)) ((a.getD ((0:Int).toNat) (Ty.dflt B2)).length:Int) (0:Int)))) (cond (((a2.getD a3.toNat (Ty.dflt Y50)).1) == (3:Int)) (gd (InR (0:Int) a.length) (gd ((0:Int).toNat < a.length) (F67_l4 N a N ((a2.getD a3.toNat (Ty.dflt Y50)).1) ((a2.getD a3.toNat (Ty.dflt Y50)).2.1) ((a2.getD a3.toNat (Ty.dflt Y50)).2.2.1) ((a2.getD a3.toNat (Ty.dflt Y50)).2.2.2.1) ((a2.getD a3.toNat (Ty.dflt Y50)).2.2.2.2.1) ((a2.getD a3.toNat (Ty.dflt Y50)).2.2.2.2.2.1) ((a2.getD a3.toNat (Ty.dflt Y50)).2.2.2.2.2.2) ([]) (a.getD ((0:Int).toNat) (Ty.dflt B2)) ((a.getD ((0:Int).toNat) (Ty.dflt B2)).length:Int) (0:Int)))) (cond (((a2.getD a3.toNat (Ty.dflt Y50)).1) == (4:Int)) (gd (InR (0:Int) a.length) (gd ((0:Int).toNat < a.length) (gd (InR (1:Int) a.length) (gd ((1:Int).toNat < a.length) (andO (F121 N ([(a.getD ((0:Int).toNat) (Ty.dflt B2)),(a.getD ((1:Int).toNat) (Ty.dflt B2))])) fun c=>F67_j0 N c))))) (cond (((a2.getD a3.toNat (Ty.dflt Y50)).1) == (5:Int)) (gd (InR (0:Int) a.length) (gd ((0:Int).toNat < a.length) (andO (F122 N (a.getD ((0:Int).toNat) (Ty.dflt B2))) fun d=>andO (F123 N d (fun z0 z1=>F124 N z0 z1 (a2.getD a3.toNat (Ty.dflt Y50)))) fun e=>F67_j0 N e))) (cond (((a2.getD a3.toNat (Ty.dflt Y50)).1) == (6:Int)) (gd (InR (0:Int) a.length) (gd ((0:Int).toNat < a.length) (gd (InR (0:Int) a.length) (gd ((0:Int).toNat < a.length) (gd (0≤(if (((a.getD ((0:Int).toNat) (Ty.dflt B2)).length:Int):Int) < (a2.getD a3.toNat (Ty.dflt Y50)).2.2.2.2.1 then ((a.getD ((0:Int).toNat) (Ty.dflt B2)).length:Int) else (a2.getD a3.toNat (Ty.dflt Y50)).2.2.2.2.1)∧(if (((a.getD ((0:Int).toNat) (Ty.dflt B2)).length:Int):Int) < (a2.getD a3.toNat (Ty.dflt Y50)).2.2.2.2.1 then ((a.getD ((0:Int).toNat) (Ty.dflt B2)).length:Int) else (a2.getD a3.toNat (Ty.dflt Y50)).2.2.2.2.1)≤((a.getD ((0:Int).toNat) (Ty.dflt B2)).length:Int)) (F67_j0 N ((a.getD ((0:Int).toNat) (Ty.dflt B2)).take (if (((a.getD ((0:Int).toNat) (Ty.dflt B2)).length:Int):Int) < (a2.getD a3.toNat (Ty.dflt Y50)).2.2.2.2.1 then ((a.getD ((0:Int).toNat) (Ty.dflt B2)).length:Int) else (a2.getD a3.toNat (Ty.dflt Y50)).2.2.2.2.1).toNat))))))) (cond (((a2.getD a3.toNat (Ty.dflt Y50)).1) == (7:Int)) (gd (InR (0:Int) a.length) (gd ((0:Int).toNat < a.length) (F67_l5 N N ([]) (a.getD ((0:Int).toNat) (Ty.dflt B2)) ((a.getD ((0:Int).toNat) (Ty.dflt B2)).length:Int) (0:Int)))) (F67_j0 N ([]))))))))))
def F67_l6_b (N:Nat) (a0:(List Z99)) (a1:L3) (a2:(List Z50)) (a3:Int) (self:(List Z99)→L3→(List Z50)→Int→Option (L2×Bool)) (c:L1) (f:L3→Int→Int→Option (L2×Bool)) (b:L3) (e:Int) (a:Int):Option (L2×Bool) :=
  cond (decide (a < e)) (gd (InR a c.length) (gd (a.toNat < c.length) (andO (self a0 a1 a2 (c.getD a.toNat (Ty.dflt B0))) fun d=>cond (!d.2) (some ([],false)) (gd (b.length+([d.1]).length≤lim (.sl (.sl (.int .i64)))) (f (b++([d.1])) e (IntKind.i64.wrap (a+(1:Int)))))))) (F67_j7 N a0 a1 a2 a3 b)
def F67_l6 (N:Nat) (a0:(List Z99)) (a1:L3) (a2:(List Z50)) (a3:Int) (self:(List Z99)→L3→(List Z50)→Int→Option (L2×Bool)) (a:L1):=loopF (F67_l6_b N a0 a1 a2 a3 self a) (fun _ _ _=>none)
theorem F67_l6_s {N a0 a1 a2 a3} {self:(List Z99)→L3→(List Z50)→Int→Option (L2×Bool)} {a k} (hk:0 < k:=by omega):F67_l6 N a0 a1 a2 a3 self a k=F67_l6_b N a0 a1 a2 a3 self a (F67_l6 N a0 a1 a2 a3 self a (k - 1)):=lS hk
def F67_b (N:Nat) (self:(List Z99)→L3→(List Z50)→Int→Option (L2×Bool)) (a0:(List Z99)) (a1:L3) (a2:(List Z50)) (a3:Int):Option (L2×Bool) :=
  andO (F117 N a2 a3) fun a=>F67_l6 N a0 a1 a2 a3 self a N ([]) (a.length:Int) (0:Int)
theorem ok67_b (N:Nat) (self:(List Z99)→L3→(List Z50)→Int→Option (L2×Bool)) (ih:∀(a0:(List Z99)) (a1:L3) (a2:(List Z50)) (a3:Int) (r:L2×Bool),self a0 a1 a2 a3=some r→Con prog 67 [Vv (.sl Y99) a0,Vv B3 a1,Vv (.sl Y50) a2,I a3] [.lf (.v B2 r.1), .lf (.v .bool r.2)]) (a0:(List Z99)) (a1:L3) (a2:(List Z50)) (a3:Int) {r:L2×Bool} (h:F67_b N self a0 a1 a2 a3=some r):Con prog 67 [Vv (.sl Y99) a0,Vv B3 a1,Vv (.sl Y50) a2,I a3] [.lf (.v B2 r.1), .lf (.v .bool r.2)]:=by
 refine ctr [.lf (.v B2), .lf (.v .bool)] K func67 rfl fun w0 E0 ht=>?_
 unfold F67_b at h
 show VW _ _ _ _ _ (retQ _ _ _ _) _
 refine nR K (tn 2) <| nR K (tn 1) ?_
 refine VW.join (fun s=>∃(a:L3),s=⟨[(0,Vv (.sl Y99) a0),(1,Vv B3 a1),(2,Vv (.sl Y50) a2),(3,I a3),(10,hh 0)],[ar 0 B2 a .tp]⟩∧F67_j7 N a0 a1 a2 a3 a=some r) ?_ ?_
 ·refine sq <| VW.region <| nG K 2 (tn 2) ?_
  obtain⟨av,hy,h⟩:=aS h
  refine clc false [.t (.sl Y50), .t B0] [] (some 32) K (ok117 N _ _ hy) <| nN K (tn 2) <| VW.block <| lop (fun k s=>∃(ad:L3) (aj:Int) (ak:Int),s=⟨[(0,Vv (.sl Y99) a0),(1,Vv B3 a1),(2,Vv (.sl Y50) a2),(3,I a3),(10,hh 0),(32,hh 1),(33,I aj),(34,I ak)],[ar 0 B2 ad .tp,ar 0 B0 av .dp]⟩∧F67_l6 N a0 a1 a2 a3 self av k ad aj ak=some r) N [.nilS 10 B2 .tp, .ren [0,1,2,3,10,32,33,34] [1,0]] ⟨[],(av.length:Int),(0:Int),rfl,h⟩ ?_
  rintro az s ⟨ad,aj,ak,rfl,h⟩
  cases az with
  | zero=>exact nv h
  | succ az =>
   rw [F67_l6_s,F67_l6_b] at h
   refine nR K (tn 1) <| sq ?_
   refine cnd h ?_ ?_<;>intro h
   ·refine VW.skip <| sq <| VW.block ?_
    obtain⟨b5,b6,h⟩:=gT h
    refine nR K (an b5 (an b6 (tn 1))) <| sq <| VW.region <| nG K 4 (tn 4) ?_
    obtain⟨bh,hy,h⟩:=aS h
    refine clc false [.t (.sl Y99), .t B3, .t (.sl Y50), .t B0] [] (some 43) K (ih _ _ _ _ _ hy) <| nN K (tn 5) <| sq <| nR K (tn 2) ?_
    refine cnd h ?_ ?_<;>intro h
    ·refine nR K (tn 2) ?_
     cases h;exact VW.ret (rt [])
    refine VW.skip ?_
    obtain⟨b7,h⟩:=gS h
    refine nE K (pu 3 (an b7 (tn 1))) <| nE K (tn 2) ?_
    exact aro [.ren [0,1,2,3,10,32,33,34] [0,1]] ⟨(ad++([bh.1])),aj,(wr (ak+(1:Int))),rfl,h⟩
   refine VW.exit ?_
   exact arv [.ren [0,1,2,3,10] [0]] ⟨ad,rfl,h⟩
 rintro s ⟨a,rfl,h⟩
 unfold F67_j7 at h
 obtain⟨b8,h⟩:=gS h
 refine nR K (pu 2 (an b8 (tn 3))) <| nR K (tn 1) ?_
 refine VW.join (fun s=>∃au,s=⟨[(16,Vv B2 au)],[]⟩∧F67_j0 N au=some r) ?_ ?_
 ·refine nR K (tn 2) <| VW.block <| nR K (tn 2) ?_
  refine cnd h ?_ ?_<;>intro h
  ·refine VW.region <| nG K 4 (tn 4) ?_
   obtain⟨bi,hy,h⟩:=aS h
   refine clc false [.t (.sl Y99), .t .str] [] (some 65) K (ok118 N _ _ hy) ?_
   obtain⟨b9,h⟩:=gS h
   refine nN K (an b9 (tn 2)) ?_
   exact arv [.ren [16] []] ⟨(a1.getD bi.toNat (Ty.dflt B2)),rfl,h⟩
  refine nR K (tn 2) ?_
  refine cnd h ?_ ?_<;>intro h
  ·obtain⟨ba,bb,h⟩:=gT h
   refine nR K (pu 1 (an ba (an bb (tn 2)))) <| VW.block <| lop (fun k s=>∃U V W X Y Z a4 a5 P a6 Q,s=⟨[(15, .lf (.ptr 0 0 0 0)),(16,hh 1),(72,Vv B2 P),(73,I a6),(74,I Q)],[bx [zi U,zs V,zi W,zi X,zi Y,zb Z, .v B1 a4] 51,ar 0 B1 a5 .tp]⟩∧F67_l0 N k U V W X Y Z a4 a5 P a6 Q=some r) N [.nilS 16 B1 .tp, .ren [15,16,72,73,74] [1,2]] ⟨(a2.getD a3.toNat D50).1,(a2.getD a3.toNat D50).2.1,(a2.getD a3.toNat D50).2.2.1,(a2.getD a3.toNat D50).2.2.2.1,(a2.getD a3.toNat D50).2.2.2.2.1,(a2.getD a3.toNat D50).2.2.2.2.2.1,(a2.getD a3.toNat D50).2.2.2.2.2.2,[],(a.getD ((0:Int).toNat) (Ty.dflt B2)),((a.getD ((0:Int).toNat) (Ty.dflt B2)).length:Int),(0:Int),rfl,h⟩ ?_
   rintro aq s ⟨U,V,W,X,Y,Z,a4,a5,P,a6,Q,rfl,h⟩
   cases aq with
   | zero=>exact nv h
   | succ aq =>
    rw [F67_l0_s,F67_l0_b] at h
    refine nR K (tn 1) <| sq ?_
    refine cnd h ?_ ?_<;>intro h
    ·refine VW.skip ?_
     refine VW.join (fun s=>∃al,s=⟨[(15, .lf (.ptr 0 0 0 0)),(16,hh 1),(72,Vv B2 P),(73,I a6),(74,I Q)],[bx [zi U,zs V,zi W,zi X,zi Y,zb Z, .v B1 a4] 51,ar 0 B1 al .tp]⟩∧F67_j1 N (F67_l0 N aq) U V W X Y Z a4 P a6 Q al=some r) ?_ ?_
     ·refine VW.block ?_
      obtain⟨bc,h⟩:=gS h
      refine nR K (an bc (tn 2)) <| sq ?_
      obtain⟨bd,h⟩:=gS h
      obtain⟨bj,hy932,h⟩:=aS h
      refine dr K [(6, .cl [] (some 84) [.lf (.v .bool bj)])] [(6,0)] [] [15,16,18,72,73,74,84] [0,1] (pu 4 (an bd (tn 2))) ⟨qC false [.t Y50, .t B0] [] [] (some 84) K (ok119 N _ _ hy932),trivial⟩ ?_
      refine cnd h ?_ ?_<;>intro h
      ·obtain⟨be,h⟩:=gS h
       refine nE K (pu 3 (an be (tn 1))) ?_
       exact arv [.ren [15,16,72,73,74] [0,1]] ⟨(a5++([(P.getD Q.toNat (Ty.dflt B1))])),rfl,h⟩
      refine VW.skip ?_
      exact arv [.ren [15,16,72,73,74] [0,1]] ⟨a5,rfl,h⟩
     rintro s ⟨al,rfl,h⟩
     unfold F67_j1 at h
     refine nE K (tn 2) ?_
     exact aro [.ren [15,16,72,73,74] [0,1]] ⟨U,V,W,X,Y,Z,a4,al,P,a6,(wr (Q+(1:Int))),rfl,h⟩
    refine VW.exit ?_
    exact arv [.frz 1, .ren [16] []] ⟨a5,rfl,h⟩
  refine nR K (tn 2) ?_
  refine cnd h ?_ ?_<;>intro h
  ·obtain⟨bf,bg,h⟩:=gT h
   refine nR K (pu 1 (an bf (an bg (tn 2)))) <| VW.block <| lop (fun k s=>∃i j l m n o e p z D A,s=⟨[(15, .lf (.ptr 0 0 0 0)),(16,hh 1),(94,Vv B2 z),(95,I D),(96,I A)],[bx [zi i,zs j,zi l,zi m,zi n,zb o, .v B1 e] 51,ar 0 B1 p .dp]⟩∧F67_l2 N k i j l m n o e p z D A=some r) N [.nilS 16 B1 .dp, .ren [15,16,94,95,96] [1,2]] ⟨(a2.getD a3.toNat D50).1,(a2.getD a3.toNat D50).2.1,(a2.getD a3.toNat D50).2.2.1,(a2.getD a3.toNat D50).2.2.2.1,(a2.getD a3.toNat D50).2.2.2.2.1,(a2.getD a3.toNat D50).2.2.2.2.2.1,(a2.getD a3.toNat D50).2.2.2.2.2.2,[],(a.getD ((0:Int).toNat) (Ty.dflt B2)),((a.getD ((0:Int).toNat) (Ty.dflt B2)).length:Int),(0:Int),rfl,h⟩ ?_
   rintro a7 s ⟨i,j,l,m,n,o,e,p,z,D,A,rfl,h⟩
   cases a7 with
   | zero=>exact nv h
   | succ a7 =>
    rw [F67_l2_s,F67_l2_b] at h
    refine nR K (tn 1) <| sq ?_
    refine cnd h ?_ ?_<;>intro h
    ·refine VW.skip ?_
     refine VW.join (fun s=>∃ae,s=⟨[(15, .lf (.ptr 0 0 0 0)),(16,hh 1),(94,Vv B2 z),(95,I D),(96,I A)],[bx [zi i,zs j,zi l,zi m,zi n,zb o, .v B1 e] 51,ar 0 B1 ae .dp]⟩∧F67_j2 N (F67_l2 N a7) i j l m n o e z D A ae=some r) ?_ ?_
     ·refine VW.block ?_
      obtain⟨aC,h⟩:=gS h
      refine nR K (an aC (tn 2)) <| nR K (tn 1) ?_
      refine VW.join (fun s=>∃L,s=⟨[(15, .lf (.ptr 0 0 0 0)),(16,hh 1),(21,hh 2),(94,Vv B2 z),(95,I D),(96,I A)],[bx [zi i,zs j,zi l,zi m,zi n,zb o, .v B1 e] 51,ar 0 B1 p .dp,ar 0 B0 L .dp]⟩∧F67_j3 N (F67_l2 N a7) i j l m n o e p z D A L=some r) ?_ ?_
      ·refine nR K (tn 4) <| VW.block <| lop (fun k s=>∃a9 aa af ab,s=⟨[(15, .lf (.ptr 0 0 0 0)),(16,hh 1),(20,Vv B1 a9),(21,hh 2),(94,Vv B2 z),(95,I D),(96,I A),(101,Vv B1 e),(102,I af),(103,I ab)],[bx [zi i,zs j,zi l,zi m,zi n,zb o, .v B1 e] 51,ar 0 B1 p .dp,ar 0 B0 aa .dp]⟩∧F67_l1 N (F67_l2 N a7) i j l m n o e p z D A k a9 aa af ab=some r) N [.nilS 21 B0 .dp, .ren [15,16,20,21,94,95,96,101,102,103] [0,1,2]] ⟨(z.getD A.toNat (Ty.dflt B1)),[],(e.length:Int),(0:Int),rfl,h⟩ ?_
       rintro ay s ⟨a9,aa,af,ab,rfl,h⟩
       cases ay with
       | zero=>exact nv h
       | succ ay =>
        rw [F67_l1_s,F67_l1_b] at h
        refine nR K (tn 1) <| sq ?_
        refine cnd h ?_ ?_<;>intro h
        ·refine VW.skip <| sq <| VW.block ?_
         obtain⟨aE,h⟩:=gS h
         refine nR K (an aE (tn 2)) ?_
         obtain⟨aF,aG,h⟩:=gT h
         refine nE K (pu 3 (an aF (pu 2 (an aG (tn 1))))) <| nE K (tn 2) ?_
         exact aro [.ren [15,16,20,21,94,95,96,101,102,103] [0,1,2]] ⟨a9,(aa++([(a9.getD (e.getD ab.toNat (Ty.dflt B0)).toNat (Ty.dflt B0))])),af,(wr (ab+(1:Int))),rfl,h⟩
        refine VW.exit ?_
        exact arv [.ren [15,16,21,94,95,96] [0,1,2]] ⟨aa,rfl,h⟩
      rintro s ⟨L,rfl,h⟩
      unfold F67_j3 at h
      refine VW.region <| nG K 2 (tn 2) <| VO.litA (d:=117) (v:=hh 3) (H':=[bx [zi i,zs j,zi l,zi m,zi n,zb o, .v B1 e] 51,ar 0 B1 p .dp,none,ar 0 B1 ([L]) .dp]) K (by kernel_rfl) ?_
      obtain⟨aD,h⟩:=gS h
      refine VO.appM (d:=118) (φ:=p.length+([L]).length≤lim (.sl (.int .i64))) (v:= .lf (.hd 1 1 none)) (H':=[bx [zi i,zs j,zi l,zi m,zi n,zb o, .v B1 e] 51,ar 1 B1 (p++([L])) .dp,none,none]) K (by kernel_rfl) aD <| nN K (tn 1) ?_
      exact arv [.ren [15,16,94,95,96] [0,1]] ⟨(p++([L])),rfl,h⟩
     rintro s ⟨ae,rfl,h⟩
     unfold F67_j2 at h
     refine nE K (tn 2) ?_
     exact aro [.ren [15,16,94,95,96] [0,1]] ⟨i,j,l,m,n,o,e,ae,z,D,(wr (A+(1:Int))),rfl,h⟩
    refine VW.exit ?_
    exact arv [.frz 1, .ren [16] []] ⟨p,rfl,h⟩
  refine nR K (tn 2) ?_
  refine cnd h ?_ ?_<;>intro h
  ·obtain⟨aH,aI,h⟩:=gT h
   refine nR K (pu 1 (an aH (an aI (tn 2)))) <| VW.block <| lop (fun k s=>∃q u f w g x y ac B E C,s=⟨[(10,hh 0),(15, .lf (.ptr 1 0 0 0)),(16,hh 2),(124,Vv B2 B),(125,I E),(126,I C)],[ar 0 B2 a .tp,bx [zi q,zs u,zi f,zi w,zi g,zb x, .v B1 y] 51,ar 0 B1 ac .dp]⟩∧F67_l4 N a k q u f w g x y ac B E C=some r) N [.nilS 16 B1 .dp, .ren [10,15,16,124,125,126] [0,1,2]] ⟨(a2.getD a3.toNat D50).1,(a2.getD a3.toNat D50).2.1,(a2.getD a3.toNat D50).2.2.1,(a2.getD a3.toNat D50).2.2.2.1,(a2.getD a3.toNat D50).2.2.2.2.1,(a2.getD a3.toNat D50).2.2.2.2.2.1,(a2.getD a3.toNat D50).2.2.2.2.2.2,[],(a.getD ((0:Int).toNat) (Ty.dflt B2)),((a.getD ((0:Int).toNat) (Ty.dflt B2)).length:Int),(0:Int),rfl,h⟩ ?_
   rintro a8 s ⟨q,u,f,w,g,x,y,ac,B,E,C,rfl,h⟩
   cases a8 with
   | zero=>exact nv h
   | succ a8 =>
    rw [F67_l4_s,F67_l4_b] at h
    refine nR K (tn 1) <| sq ?_
    refine cnd h ?_ ?_<;>intro h
    ·refine VW.skip ?_
     refine VW.join (fun s=>∃ag,s=⟨[(10,hh 0),(15, .lf (.ptr 1 0 0 0)),(16,hh 2),(124,Vv B2 B),(125,I E),(126,I C)],[ar 0 B2 a .tp,bx [zi q,zs u,zi f,zi w,zi g,zb x, .v B1 y] 51,ar 0 B1 ag .dp]⟩∧F67_j4 N (F67_l4 N a a8) q u f w g x y B E C ag=some r) ?_ ?_
     ·refine VW.block ?_
      obtain⟨aJ,h⟩:=gS h
      refine nR K (an aJ (tn 2)) ?_
      obtain⟨aK,aL,h⟩:=gT h
      refine nR K (pu 1 (an aK (an aL (tn 2)))) <| VW.block <| lop (fun k s=>∃F G H R J,s=⟨[(10,hh 0),(15, .lf (.ptr 1 0 0 0)),(16,hh 2),(25,Vv B1 G),(124,Vv B2 B),(125,I E),(126,I C),(132,Vv B2 H),(133,I R),(134,I J)],[ar 0 B2 a .tp,bx [zi q,zs u,zi f,zi w,zi g,zb x, .v B1 y] 51,ar 0 B1 F .dp]⟩∧F67_l3 N (F67_l4 N a a8) q u f w g x y B E C k F G H R J=some r) N [.ren [10,15,16,25,124,125,126,132,133,134] [0,1,2]] ⟨ac,(B.getD C.toNat (Ty.dflt B1)),(a.getD ((1:Int).toNat) (Ty.dflt B2)),((a.getD ((1:Int).toNat) (Ty.dflt B2)).length:Int),(0:Int),rfl,h⟩ ?_
      rintro ao s ⟨F,G,H,R,J,rfl,h⟩
      cases ao with
      | zero=>exact nv h
      | succ ao =>
       rw [F67_l3_s,F67_l3_b] at h
       refine nR K (tn 1) <| sq ?_
       refine cnd h ?_ ?_<;>intro h
       ·refine VW.skip ?_
        refine VW.join (fun s=>∃ah,s=⟨[(10,hh 0),(15, .lf (.ptr 1 0 0 0)),(16,hh 2),(25,Vv B1 G),(124,Vv B2 B),(125,I E),(126,I C),(132,Vv B2 H),(133,I R),(134,I J)],[ar 0 B2 a .tp,bx [zi q,zs u,zi f,zi w,zi g,zb x, .v B1 y] 51,ar 0 B1 ah .dp]⟩∧F67_j5 N (F67_l3 N (F67_l4 N a a8) q u f w g x y B E C ao) G H R J ah=some r) ?_ ?_
        ·refine VW.block ?_
         obtain⟨aM,h⟩:=gS h
         refine nR K (an aM (tn 2)) <| sq ?_
         obtain⟨aw,ax,h⟩:=gT h
         rcases Bool.eq_false_or_eq_true ((G.getD f.toNat (Ty.dflt B0)) == ((H.getD J.toNat (Ty.dflt B1)).getD g.toNat (Ty.dflt B0))) with hb1672 | hb1672
         ·replace h:=cond_t h hb1672
          obtain⟨aN,h⟩:=gS h
          refine dr K [(11, .lit true)] [(11,0)] [] [10,15,16,25,27,124,125,126,132,133,134,156] [0,1,2] (pu 3 (an aw (pu 4 (an ax (pu 6 (an aN (tn 3))))))) ⟨qB 149 hb1672 K trivial,trivial⟩ ?_
          refine cnd h ?_ ?_<;>intro h
          ·refine VW.region <| nG K 4 (tn 4) ?_
           obtain⟨am,hy,h⟩:=aS h
           refine clc true [.t B2] [] (some 161) K (ok120 N _ hy) <| VO.litA (d:=162) (v:=hh 5) (H':=[ar 0 B2 a .tp,bx [zi q,zs u,zi f,zi w,zi g,zb x, .v B1 y] 51,ar 0 B1 F .dp,ar 0 B1 ([G,(H.getD J.toNat (Ty.dflt B1))]) .tp,none,ar 0 B1 ([am]) .dp]) K (by kernel_rfl) ?_
           obtain⟨aO,h⟩:=gS h
           refine VO.appM (d:=163) (φ:=F.length+([am]).length≤lim (.sl (.int .i64))) (v:= .lf (.hd 2 1 none)) (H':=[ar 0 B2 a .tp,bx [zi q,zs u,zi f,zi w,zi g,zb x, .v B1 y] 51,ar 1 B1 (F++([am])) .dp,ar 0 B1 ([G,(H.getD J.toNat (Ty.dflt B1))]) .tp,none,none]) K (by kernel_rfl) aO ?_
           refine nN K (tn 1) ?_
           exact arv [.ren [10,15,16,25,124,125,126,132,133,134] [0,1,2]] ⟨(F++([am])),rfl,h⟩
          refine VW.skip ?_
          exact arv [.ren [10,15,16,25,124,125,126,132,133,134] [0,1,2]] ⟨F,rfl,h⟩
         replace h:=cond_f h hb1672
         refine dr K [(11, .lit false)] [(11,0)] [] [10,15,16,25,27,124,125,126,132,133,134,156] [0,1,2] (pu 3 (an aw (pu 4 (an ax (tn 10))))) ⟨qB 149 hb1672 K trivial,trivial⟩ ?_
         refine VW.cond (b:=false) (by kernel_rfl) (fun h'=>nomatch h') (fun _=>?_)
         refine VW.skip ?_
         exact arv [.ren [10,15,16,25,124,125,126,132,133,134] [0,1,2]] ⟨F,rfl,h⟩
        rintro s ⟨ah,rfl,h⟩
        unfold F67_j5 at h
        refine nE K (tn 2) ?_
        exact aro [.ren [10,15,16,25,124,125,126,132,133,134] [0,1,2]] ⟨ah,G,H,R,(wr (J+(1:Int))),rfl,h⟩
       refine VW.exit ?_
       exact arv [.ren [10,15,16,124,125,126] [0,1,2]] ⟨F,rfl,h⟩
     rintro s ⟨ag,rfl,h⟩
     unfold F67_j4 at h
     refine nE K (tn 2) ?_
     exact aro [.ren [10,15,16,124,125,126] [0,1,2]] ⟨q,u,f,w,g,x,y,ag,B,E,(wr (C+(1:Int))),rfl,h⟩
    refine VW.exit ?_
    exact arv [.frz 2, .ren [16] []] ⟨ac,rfl,h⟩
  refine nR K (tn 2) ?_
  refine cnd h ?_ ?_<;>intro h
  ·obtain⟨aP,aQ,aR,aT,h⟩:=gV h
   obtain⟨aA,hy1680,h⟩:=aS h
   refine dr K [(7, .cl [2] (some 175) [.lf (.own B1 aA .tp)])] [(7,1)] [6,7] [16] [3] (pu 1 (an aP (an aQ (pu 1 (an aR (an aT (tn 3))))))) ⟨qC false [.t B3] [] [2] (some 175) K (ok121 N _ hy1680),trivial⟩ ?_
   exact arv [.frz 0, .ren [16] []] ⟨aA,rfl,h⟩
  refine nR K (tn 2) ?_
  refine cnd h ?_ ?_<;>intro h
  ·refine sq <| VW.region ?_
   obtain⟨aU,aV,h⟩:=gT h
   refine nG K 3 (pu 1 (an aU (an aV (tn 0)))) ?_
   obtain⟨bk,hy,h⟩:=aS h
   refine clc false [.t B2] [] (some 181) K (ok122 N _ hy) <| nN K (tn 1) <| VW.region <| nG K 2 (tn 2) ?_
   obtain⟨aB,hy,h⟩:=aS h
   refine VO.ghl [.frzB 1 Y50] <| VO.callM [2] [.t B2, .c] (d:=some 184) (by kernel_rfl) (by kernel_rfl) (ok123_c1 N _ 124 (a2.getD a3.toNat D50) (fun z0 z1=>F124 N z0 z1 (a2.getD a3.toNat D50)) (fun z0 z1 _ hz=>ok124 N z0 z1 _ hz) hy) (by kernel_rfl) <| sN K [16] [2] ⟨[(16,hh 0)],[ar 0 B1 aB .tp]⟩ (tn 0) ?_
   exact arv [.frz 0, .ren [16] []] ⟨aB,rfl,h⟩
  refine nR K (tn 2) ?_
  refine cnd h ?_ ?_<;>intro h
  ·obtain⟨aW,aX,aY,aZ,b0,h⟩:=gW h
   refine dr K [] [] [] [16] [] (pu 1 (an aW (an aX (pu 3 (an aY (an aZ (pu 2 (an b0 (tn 1))))))))) trivial ?_
   exact arv [.ren [16] []] ⟨((a.getD ((0:Int).toNat) (Ty.dflt B2)).take (if (((a.getD ((0:Int).toNat) (Ty.dflt B2)).length:Int):Int) < (a2.getD a3.toNat D50).2.2.2.2.1 then ((a.getD ((0:Int).toNat) (Ty.dflt B2)).length:Int) else (a2.getD a3.toNat D50).2.2.2.2.1).toNat),rfl,h⟩
  refine nR K (tn 2) ?_
  refine cnd h ?_ ?_<;>intro h
  ·obtain⟨b1,b2,h⟩:=gT h
   refine nR K (pu 1 (an b1 (an b2 (tn 2)))) <| VW.block <| lop (fun k s=>∃S M T O,s=⟨[(16,hh 0),(202,Vv B2 M),(203,I T),(204,I O)],[ar 0 B1 S .tp]⟩∧F67_l5 N k S M T O=some r) N [.nilS 16 B1 .tp, .ren [16,202,203,204] [2]] ⟨[],(a.getD ((0:Int).toNat) (Ty.dflt B2)),((a.getD ((0:Int).toNat) (Ty.dflt B2)).length:Int),(0:Int),rfl,h⟩ ?_
   rintro ap s ⟨S,M,T,O,rfl,h⟩
   cases ap with
   | zero=>exact nv h
   | succ ap =>
    rw [F67_l5_s,F67_l5_b] at h
    refine nR K (tn 1) <| sq ?_
    refine cnd h ?_ ?_<;>intro h
    ·refine VW.skip ?_
     refine VW.join (fun s=>∃ai,s=⟨[(16,hh 0),(202,Vv B2 M),(203,I T),(204,I O)],[ar 0 B1 ai .tp]⟩∧F67_j6 N (F67_l5 N ap) M T O ai=some r) ?_ ?_
     ·refine VW.block ?_
      obtain⟨b3,h⟩:=gS h
      refine nR K (an b3 (tn 2)) <| sq <| VW.region <| nG K 2 (tn 2) ?_
      obtain⟨bl,hy,h⟩:=aS h
      refine clc true [.t B2, .t B1] [] (some 210) K (ok126 N _ _ hy) <| nN K (tn 1) ?_
      refine cnd h ?_ ?_<;>intro h
      ·obtain⟨b4,h⟩:=gS h
       refine nE K (pu 3 (an b4 (tn 1))) ?_
       exact arv [.ren [16,202,203,204] [0]] ⟨(S++([(M.getD O.toNat (Ty.dflt B1))])),rfl,h⟩
      refine VW.skip ?_
      exact arv [.ren [16,202,203,204] [0]] ⟨S,rfl,h⟩
     rintro s ⟨ai,rfl,h⟩
     unfold F67_j6 at h
     refine nE K (tn 2) ?_
     exact aro [.ren [16,202,203,204] [0]] ⟨ai,M,T,(wr (O+(1:Int))),rfl,h⟩
    refine VW.exit ?_
    exact arv [.frz 0, .ren [16] []] ⟨S,rfl,h⟩
  refine VW.skip ?_
  exact arv [.nilV 16 B1, .ren [16] []] ⟨[],rfl,h⟩
 rintro s ⟨au,rfl,h⟩
 unfold F67_j0 at h
 refine nR K (tn 6) ?_
 cases h;exact VW.ret (rt [])
def F67_r (N:Nat):=loopF (F67_b N) (fun _ _ _ _=>none)
theorem F67_s {N k} (hk:0 < k:=by omega):F67_r N k=F67_b N (F67_r N (k - 1)):=lS hk
def F67 (N:Nat):(List Z99)→L3→(List Z50)→Int→Option (L2×Bool):=F67_r N N
theorem ok67_k (N:Nat):∀(k:Nat) (a0:(List Z99)) (a1:L3) (a2:(List Z50)) (a3:Int) (r:L2×Bool),loopF (F67_b N) (fun _ _ _ _=>none) k a0 a1 a2 a3=some r→Con prog 67 [Vv (.sl Y99) a0,Vv B3 a1,Vv (.sl Y50) a2,I a3] [.lf (.v B2 r.1), .lf (.v .bool r.2)]
 | 0,a0,a1,a2,a3,r,h=>nomatch (show (none:Option (L2×Bool))=some r from h)
 | k+1,a0,a1,a2,a3,r,h=>ok67_b N _ (ok67_k N k) a0 a1 a2 a3 h
theorem ok67 N a0 a1 a2 a3 {r} (h:F67 N a0 a1 a2 a3=some r):Con prog 67 [Vv (.sl Y99) a0,Vv B3 a1,Vv (.sl Y50) a2,I a3] [.lf (.v B2 r.1), .lf (.v .bool r.2)]:=ok67_k N N a0 a1 a2 a3 r h
def F68_j0 (N:Nat) (a:L2):Option (L2) :=
  some a
def F68_l0_b (N:Nat) (a0:L2) (e:L2→Int→Int→Option (L2)) (b:L2) (c:Int) (a:Int):Option (L2) :=
  cond (decide (a < c)) (gd (InR a a0.length) (andO (F79 N (a0.getD a.toNat (Ty.dflt B1))) fun d=>gd (b.length+([d]).length≤lim (.sl (.int .i64))) (e (b++([d])) c (IntKind.i64.wrap (a+(1:Int)))))) (F68_j0 N b)
def F68_l0 (N:Nat) (a0:L2):=loopF (F68_l0_b N a0) (fun _ _ _=>none)
theorem F68_l0_s {N a0 k} (hk:0 < k:=by omega):F68_l0 N a0 k=F68_l0_b N a0 (F68_l0 N a0 (k - 1)):=lS hk
def F68 (N:Nat) (a0:L2):Option (L2) :=
  F68_l0 N a0 N ([]) (a0.length:Int) (0:Int)
theorem ok68 N a0 {r} (h:F68 N a0=some r):Con prog 68 [Vv B2 a0] [.lf (.own B1 r .dp)]:=by
 refine ctr [.lf (.own B1 .dp)] K func68 rfl fun w0 E0 ht=>?_
 unfold F68 at h
 show VW _ _ _ _ _ (retQ _ _ _ _) _
 refine nR K (tn 1) <| nR K (tn 1) ?_
 refine VW.join (fun s=>∃f,s=⟨[(3,hh 0)],[ar 0 B1 f .dp]⟩∧F68_j0 N f=some r) ?_ ?_
 ·refine nR K (tn 3) <| VW.block <| lop (fun k s=>∃a b c,s=⟨[(3,hh 0),(6,Vv B2 a0),(7,I b),(8,I c)],[ar 0 B1 a .dp]⟩∧F68_l0 N a0 k a b c=some r) N [.nilS 3 B1 .dp, .ren [3,6,7,8] [0]] ⟨[],(a0.length:Int),(0:Int),rfl,h⟩ ?_
  rintro g s ⟨a,b,c,rfl,h⟩
  cases g with
  | zero=>exact nv h
  | succ g =>
   rw [F68_l0_s,F68_l0_b] at h
   refine nR K (tn 1) <| sq ?_
   refine cnd h ?_ ?_<;>intro h
   ·refine VW.skip <| sq <| VW.block ?_
    obtain⟨i,h⟩:=gS h
    refine nR K (an i (tn 2)) <| VW.region <| nG K 2 (tn 2) ?_
    obtain⟨e,hy,h⟩:=aS h
    refine clc false [.t B1] [] (some 14) K (ok79 N _ hy) <| VO.litA (d:=15) (v:=hh 2) (H':=[ar 0 B1 a .dp,none,ar 0 B1 ([e]) .dp]) K (by kernel_rfl) ?_
    obtain⟨j,h⟩:=gS h
    refine VO.appM (d:=16) (φ:=a.length+([e]).length≤lim (.sl (.int .i64))) (v:= .lf (.hd 0 1 none)) (H':=[ar 1 B1 (a++([e])) .dp,none,none]) K (by kernel_rfl) j <| nN K (tn 1) <| nE K (tn 2) ?_
    exact aro [.ren [3,6,7,8] [0]] ⟨(a++([e])),b,(wr (c+(1:Int))),rfl,h⟩
   refine VW.exit ?_
   exact arv [.ren [3] [0]] ⟨a,rfl,h⟩
 rintro s ⟨f,rfl,h⟩
 unfold F68_j0 at h
 refine nR K (tn 2) ?_
 cases h;exact VW.ret (rt [some 0])
def F25 (N:Nat) (a0:(List Z99)) (a1:L3) (a2:(List Z50)):Option (L2×Int) :=
  andO (F65 N a0 a1) fun b=>cond (!b) (some ([],(1:Int))) (andO (F66 N a0 a2) fun c=>cond (!c) (some ([],(1:Int))) (andO (F45 N a2) fun d=>cond d (some ([],(1:Int))) (andO (F67 N a0 a1 a2 (0:Int)) fun a=>cond (!a.2) (some ([],(2:Int))) (andO (F68 N a.1) fun e=>some (e,(0:Int))))))
theorem ok25 N a0 a1 a2 {r} (h:F25 N a0 a1 a2=some r):Con prog 25 [Vv (.sl Y99) a0,Vv B3 a1,Vv (.sl Y50) a2] [.lf (.own B1 r.1 .dp), .lf (.v B0 r.2)]:=by
 refine ctr [.lf (.own B1 .dp), .lf (.v B0)] K func25 rfl fun w0 E0 ht=>?_
 unfold F25 at h
 show VW _ _ _ _ _ (retQ _ _ _ _) _
 refine nR K (tn 2) <| sq <| sq <| VW.region <| nG K 2 (tn 2) ?_
 obtain⟨a,hy,h⟩:=aS h
 refine clc false [.t (.sl Y99), .t B3] [] (some 12) K (ok65 N _ _ hy) <| nG K 2 (tn 2) ?_
 refine spC 14 h ?_ ?_<;>intro h
 ·refine nN K (tn 9) ?_
  refine VW.cond (b:=true) (by kernel_rfl) (fun _=>?_) (fun h'=>nomatch h')
  refine nR K (tn 2) ?_
  cases h;exact VW.ret (rt [none])
 refine nG K 2 (tn 2) <| VO.on (j:=4) (want:=false) (d:=14) (b:=false) rfl rfl rfl (by kernel_rfl) rfl ?_
 obtain⟨c,hy,h⟩:=aS h
 refine clc false [.t (.sl Y99), .t (.sl Y50)] [] (some 17) K (ok66 N _ _ hy) <| nG K 3 (tn 3) ?_
 refine spC 20 h ?_ ?_<;>intro h
 ·refine nN K (tn 3) ?_
  refine VW.cond (b:=true) (by kernel_rfl) (fun _=>?_) (fun h'=>nomatch h')
  refine nR K (tn 2) ?_
  cases h;exact VW.ret (rt [none])
 refine nG K 1 (tn 1) <| VO.on (j:=10) (want:=false) (d:=20) (b:=false) rfl rfl rfl (by kernel_rfl) rfl ?_
 obtain⟨e,hy,h⟩:=aS h
 refine clc false [.t (.sl Y50)] [] (some 22) K (ok45 N _ hy) <| nN K (tn 1) ?_
 refine cnd h ?_ ?_<;>intro h
 ·refine nR K (tn 2) ?_
  cases h;exact VW.ret (rt [none])
 refine VW.skip <| sq <| VW.region <| nG K 3 (tn 3) ?_
 obtain⟨f,hy,h⟩:=aS h
 refine clc false [.t (.sl Y99), .t B3, .t (.sl Y50), .t B0] [] (some 28) K (ok67 N _ _ _ _ hy) <| nN K (tn 5) <| sq <| nR K (tn 2) ?_
 refine cnd h ?_ ?_<;>intro h
 ·refine nR K (tn 2) ?_
  cases h;exact VW.ret (rt [none])
 refine VW.skip <| sq <| VW.region <| nG K 1 (tn 1) ?_
 obtain⟨g,hy,h⟩:=aS h
 refine clc false [.t B2] [] (some 34) K (ok68 N _ hy) <| nN K (tn 2) ?_
 cases h;exact VW.ret (rt [some 0])
def F69_j0 (N:Nat):Option (Bool) :=
  some true
def F69_l0_b (N:Nat) (a0:L2) (a1:L2) (p2:L1→L1→Option (Bool)) (c:Int→Int→Option (Bool)) (b:Int) (a:Int):Option (Bool) :=
  cond (decide (a < b)) (gd (InR a a0.length) (gd (InR a a1.length) (andO (p2 (a0.getD a.toNat (Ty.dflt B1)) (a1.getD a.toNat (Ty.dflt B1))) fun d=>cond (!d) (some false) (c b (IntKind.i64.wrap (a+(1:Int))))))) (F69_j0 N)
def F69_l0 (N:Nat) (a0:L2) (a1:L2) (p2:L1→L1→Option (Bool)):=loopF (F69_l0_b N a0 a1 p2) (fun _ _=>none)
theorem F69_l0_s {N a0 a1} {p2:L1→L1→Option (Bool)} {k} (hk:0 < k:=by omega):F69_l0 N a0 a1 p2 k=F69_l0_b N a0 a1 p2 (F69_l0 N a0 a1 p2 (k - 1)):=lS hk
def F69 (N:Nat) (a0:L2) (a1:L2) (p2:L1→L1→Option (Bool)):Option (Bool) :=
  cond ((a0.length:Int) != (a1.length:Int)) (some false) (F69_l0 N a0 a1 p2 N (a0.length:Int) (0:Int))
theorem ok69 N a0 a1 (c:FuncId) (p2:L1→L1→Option (Bool)) (hp2:∀(z0:L1) (z1:L1) (r:Bool),p2 z0 z1=some r→Con prog c [Vv B1 z0,Vv B1 z1] [.lf (.v .bool r)]) {r} (h:F69 N a0 a1 p2=some r):Con prog 69 [Vv B2 a0,Vv B2 a1, .clo c []] [.lf (.v .bool r)]:=by
 refine ctr [.lf (.v .bool)] K func69 rfl fun w0 E0 ht=>?_
 unfold F69 at h
 show VW _ _ _ _ _ (retQ _ _ _ _) _
 refine nR K (tn 1) <| sq <| nR K (tn 5) ?_
 refine cnd h ?_ ?_<;>intro h
 ·refine nR K (tn 1) ?_
  cases h;exact VW.ret (rt [])
 refine VW.skip ?_
 refine VW.join (fun s=>s=⟨[],[]⟩∧F69_j0 N=some r) ?_ ?_
 ·refine nR K (tn 3) <| VW.block <| lop (fun k s=>∃a b,s=⟨[(1,Vv B2 a1),(2, .clo c []),(15,Vv B2 a0),(16,I a),(17,I b)],[]⟩∧F69_l0 N a0 a1 p2 k a b=some r) N [.ren [1,2,15,16,17] []] ⟨(a0.length:Int),(0:Int),rfl,h⟩ ?_
  rintro d s ⟨a,b,rfl,h⟩
  cases d with
  | zero=>exact nv h
  | succ d =>
   rw [F69_l0_s,F69_l0_b] at h
   refine nR K (tn 1) <| sq ?_
   refine cnd h ?_ ?_<;>intro h
   ·refine VW.skip <| sq <| VW.block ?_
    obtain⟨e,h⟩:=gS h
    refine nR K (pu 1 (an e (tn 3))) ?_
    obtain⟨f,h⟩:=gS h
    refine nR K (pu 2 (an f (tn 2))) <| sq <| VW.region <| nG K 3 (tn 3) ?_
    obtain⟨g,hy,h⟩:=aS h
    refine clc false [.t B1, .t B1] [] (some 29) K (hp2 _ _ _ hy) <| nN K (tn 1) ?_
    refine cnd h ?_ ?_<;>intro h
    ·refine nR K (tn 1) ?_
     cases h;exact VW.ret (rt [])
    refine VW.skip <| nE K (tn 2) ?_
    exact aro [.ren [1,2,15,16,17] []] ⟨a,(wr (b+(1:Int))),rfl,h⟩
   refine VW.exit ?_
   exact arv [.ren [] []] ⟨rfl,h⟩
 rintro s ⟨rfl,h⟩
 unfold F69_j0 at h
 refine nR K (tn 1) ?_
 cases h;exact VW.ret (rt [])
def F26 (N:Nat) (a0:L2) (a1:L2):Option (Bool) :=
  andO (F69 N a0 a1 (fun z0 z1=>F70 N z0 z1)) fun a=>some a
theorem ok26 N a0 a1 {r} (h:F26 N a0 a1=some r):Con prog 26 [Vv B2 a0,Vv B2 a1] [.lf (.v .bool r)]:=by
 refine ctr [.lf (.v .bool)] K func26 rfl fun w0 E0 ht=>?_
 unfold F26 at h
 show VW _ _ _ _ _ (retQ _ _ _ _) _
 refine nR K (tn 1) <| sq <| VW.region <| nG K 2 (tn 2) ?_
 obtain⟨a,hy,h⟩:=aS h
 refine clc false [.t B2, .t B2, .clo []] [] (some 7) K (ok69 N _ _ 70  (fun z0 z1=>F70 N z0 z1) (fun z0 z1 _ hz=>ok70 N z0 z1 hz) hy) <| nN K (tn 1) ?_
 cases h;exact VW.ret (rt [])
def F28_j0 (N:Nat) (a:L1):Option (L1) :=
  some a
def F28_l0_b (N:Nat) (a0:(List Z99)) (a1:L3) (a2:(List Z50)) (e:L1→Int→Int→Option (L1)) (a:L1) (c:Int) (b:Int):Option (L1) :=
  cond (decide (b < c)) (andO (F67 N a0 a1 a2 b) fun d=>gd (a.length+([(d.1.length:Int)]).length≤lim (.int .i64)) (e (a++([(d.1.length:Int)])) c (IntKind.i64.wrap (b+(1:Int))))) (F28_j0 N a)
def F28_l0 (N:Nat) (a0:(List Z99)) (a1:L3) (a2:(List Z50)):=loopF (F28_l0_b N a0 a1 a2) (fun _ _ _=>none)
theorem F28_l0_s {N a0 a1 a2 k} (hk:0 < k:=by omega):F28_l0 N a0 a1 a2 k=F28_l0_b N a0 a1 a2 (F28_l0 N a0 a1 a2 (k - 1)):=lS hk
def F28 (N:Nat) (a0:(List Z99)) (a1:L3) (a2:(List Z50)):Option (L1) :=
  andO (F25 N a0 a1 a2) fun a=>cond (a.2 != (0:Int)) (some ([])) (F28_l0 N a0 a1 a2 N ([]) (a2.length:Int) (0:Int))
theorem ok28 N a0 a1 a2 {r} (h:F28 N a0 a1 a2=some r):Con prog 28 [Vv (.sl Y99) a0,Vv B3 a1,Vv (.sl Y50) a2] [.lf (.own B0 r .dp)]:=by
 refine ctr [.lf (.own B0 .dp)] K func28 rfl fun w0 E0 ht=>?_
 unfold F28 at h
 show VW _ _ _ _ _ (retQ _ _ _ _) _
 refine nR K (tn 1) <| sq <| sq <| VW.region <| nG K 3 (tn 3) ?_
 obtain⟨i,hy,h⟩:=aS h
 refine clc false [.t (.sl Y99), .t B3, .t (.sl Y50)] [] (some 17) K (ok25 N _ _ _ hy) <| nN K (tn 5) <| nR K (tn 2) ?_
 refine cnd h ?_ ?_<;>intro h
 ·refine nR K (tn 1) ?_
  cases h;exact VW.ret (rt [none])
 refine VW.skip <| nR K (tn 1) ?_
 refine VW.join (fun s=>∃d,s=⟨[(9,hh 0)],[ar 0 B0 d .dp]⟩∧F28_j0 N d=some r) ?_ ?_
 ·refine nR K (tn 3) <| VW.block <| lop (fun k s=>∃a b c,s=⟨[(0,Vv (.sl Y99) a0),(1,Vv B3 a1),(2,Vv (.sl Y50) a2),(9,hh 0),(23,I b),(24,I c)],[ar 0 B0 a .dp]⟩∧F28_l0 N a0 a1 a2 k a b c=some r) N [.nilS 9 B0 .dp, .ren [0,1,2,9,23,24] [1]] ⟨[],(a2.length:Int),(0:Int),rfl,h⟩ ?_
  rintro e s ⟨a,b,c,rfl,h⟩
  cases e with
  | zero=>exact nv h
  | succ e =>
   rw [F28_l0_s,F28_l0_b] at h
   refine nR K (tn 1) <| sq ?_
   refine cnd h ?_ ?_<;>intro h
   ·refine VW.skip <| sq <| VW.block <| nR K (tn 2) <| sq <| VW.region <| nG K 4 (tn 4) ?_
    obtain⟨g,hy,h⟩:=aS h
    refine clc false [.t (.sl Y99), .t B3, .t (.sl Y50), .t B0] [] (some 32) K (ok67 N _ _ _ _ hy) <| nN K (tn 5) ?_
    obtain⟨f,h⟩:=gS h
    refine nE K (pu 4 (an f (tn 1))) <| nE K (tn 2) ?_
    exact aro [.ren [0,1,2,9,23,24] [0]] ⟨(a++([(g.1.length:Int)])),b,(wr (c+(1:Int))),rfl,h⟩
   refine VW.exit ?_
   exact arv [.ren [9] [0]] ⟨a,rfl,h⟩
 rintro s ⟨d,rfl,h⟩
 unfold F28_j0 at h
 refine nR K (tn 2) ?_
 cases h;exact VW.ret (rt [some 0])
def F29_j0 (N:Nat) (a:L1):Option (L1) :=
  some a
def F29_l0_b (N:Nat) (a0:(List Z99)) (a1:L3) (a2:(List Z50)) (d:L1→Int→Option (L1)) (a:L1) (b:Int):Option (L1) :=
  cond (decide (b < (a2.length:Int))) (andO (F63 N a0 a1 a2 b) fun c=>gd (a.length+([(c.1.length:Int)]).length≤lim (.int .i64)) (d (a++([(c.1.length:Int)])) (IntKind.i64.wrap (b+(1:Int))))) (F29_j0 N a)
def F29_l0 (N:Nat) (a0:(List Z99)) (a1:L3) (a2:(List Z50)):=loopF (F29_l0_b N a0 a1 a2) (fun _ _=>none)
theorem F29_l0_s {N a0 a1 a2 k} (hk:0 < k:=by omega):F29_l0 N a0 a1 a2 k=F29_l0_b N a0 a1 a2 (F29_l0 N a0 a1 a2 (k - 1)):=lS hk
def F29 (N:Nat) (a0:(List Z99)) (a1:L3) (a2:(List Z50)):Option (L1) :=
  andO (F24 N a0 a1 a2) fun a=>cond (a.2 != (0:Int)) (some ([])) (F29_l0 N a0 a1 a2 N ([]) (0:Int))
theorem ok29 N a0 a1 a2 {r} (h:F29 N a0 a1 a2=some r):Con prog 29 [Vv (.sl Y99) a0,Vv B3 a1,Vv (.sl Y50) a2] [.lf (.own B0 r .dp)]:=by
 refine ctr [.lf (.own B0 .dp)] K func29 rfl fun w0 E0 ht=>?_
 unfold F29 at h
 show VW _ _ _ _ _ (retQ _ _ _ _) _
 refine nR K (tn 1) <| nR K (tn 2) <| sq <| sq <| VW.region <| nG K 3 (tn 3) ?_
 obtain⟨g,hy,h⟩:=aS h
 refine clc false [.t (.sl Y99), .t B3, .t (.sl Y50)] [] (some 18) K (ok24 N _ _ _ hy) <| nN K (tn 5) <| nR K (tn 2) ?_
 refine cnd h ?_ ?_<;>intro h
 ·refine nR K (tn 1) ?_
  cases h;exact VW.ret (rt [none])
 refine VW.skip ?_
 refine VW.join (fun s=>∃c,s=⟨[(7,hh 0)],[ar 0 B0 c .dp]⟩∧F29_j0 N c=some r) ?_ ?_
 ·refine nR K (tn 1) <| VW.block <| lop (fun k s=>∃a b,s=⟨[(0,Vv (.sl Y99) a0),(1,Vv B3 a1),(2,Vv (.sl Y50) a2),(7,hh 0),(10,I b)],[ar 0 B0 a .dp]⟩∧F29_l0 N a0 a1 a2 k a b=some r) N [.nilS 7 B0 .dp, .ren [0,1,2,7,10] [1]] ⟨[],(0:Int),rfl,h⟩ ?_
  rintro d s ⟨a,b,rfl,h⟩
  cases d with
  | zero=>exact nv h
  | succ d =>
   rw [F29_l0_s,F29_l0_b] at h
   refine sq <| nR K (tn 4) ?_
   refine cnd h ?_ ?_<;>intro h
   ·refine VW.skip <| sq <| VW.block <| sq <| VW.region <| nG K 4 (tn 4) ?_
    obtain⟨f,hy,h⟩:=aS h
    refine clc false [.t (.sl Y99), .t B3, .t (.sl Y50), .t B0] [] (some 34) K (ok63 N _ _ _ _ hy) <| nN K (tn 5) ?_
    obtain⟨e,h⟩:=gS h
    refine nE K (pu 4 (an e (tn 1))) <| nE K (tn 3) ?_
    exact aro [.ren [0,1,2,7,10] [0]] ⟨(a++([(f.1.length:Int)])),(wr (b+(1:Int))),rfl,h⟩
   refine VW.exit ?_
   exact arv [.ren [7] [0]] ⟨a,rfl,h⟩
 rintro s ⟨c,rfl,h⟩
 unfold F29_j0 at h
 refine nR K (tn 2) ?_
 cases h;exact VW.ret (rt [some 0])
def F73 (N:Nat) (a0:(List Z50)) (a1:Int):Option (Bool) :=
  andO (F54 N a0) fun a=>cond a (andO (F96 N a1 (0:Int) (IntKind.i64.wrap ((a0.length:Int) - (1:Int)))) fun b=>some b) (some false)
theorem ok73 N a0 a1 {r} (h:F73 N a0 a1=some r):Con prog 73 [Vv (.sl Y50) a0,I a1] [.lf (.v .bool r)]:=by
 refine ctr [.lf (.v .bool)] K func73 rfl fun w0 E0 ht=>?_
 unfold F73 at h
 show VW _ _ _ _ _ (retQ _ _ _ _) _
 refine nR K (tn 1) <| sq <| VW.region <| nG K 1 (tn 1) ?_
 obtain⟨a,hy,h⟩:=aS h
 refine clc false [.t (.sl Y50)] [] (some 6) K (ok54 N _ hy) <| nG K 1 (tn 1) ?_
 refine spC 7 h ?_ ?_<;>intro h
 ·refine nG K 4 (tn 4) <| VO.on (j:=2) (want:=true) (d:=7) (b:=true) rfl rfl rfl (by kernel_rfl) rfl ?_
  obtain⟨c,hy,h⟩:=aS h
  refine clc false [.t B0, .t B0, .t B0] [] (some 12) K (ok96 N _ _ _ hy) <| nN K (tn 2) ?_
  cases h;exact VW.ret (rt [])
 refine nN K (tn 7) ?_
 cases h;exact VW.ret (rt [])
def F30 (N:Nat) (a0:(List Z50)) (a1:Int):Option (L1) :=
  andO (F73 N a0 a1) fun a=>cond (!a) (some ([])) (andO (F74 N a0 a1) fun b=>some b)
theorem ok30 N a0 a1 {r} (h:F30 N a0 a1=some r):Con prog 30 [Vv (.sl Y50) a0,I a1] [.lf (.own B0 r .dp)]:=by
 refine ctr [.lf (.own B0 .dp)] K func30 rfl fun w0 E0 ht=>?_
 unfold F30 at h
 show VW _ _ _ _ _ (retQ _ _ _ _) _
 refine nR K (tn 1) <| sq <| sq <| VW.region <| nG K 2 (tn 2) ?_
 obtain⟨a,hy,h⟩:=aS h
 refine clc false [.t (.sl Y50), .t B0] [] (some 7) K (ok73 N _ _ hy) <| nN K (tn 1) ?_
 refine cnd h ?_ ?_<;>intro h
 ·refine nR K (tn 1) ?_
  cases h;exact VW.ret (rt [none])
 refine VW.skip <| sq <| VW.region <| nG K 2 (tn 2) ?_
 obtain⟨b,hy,h⟩:=aS h
 refine clc false [.t (.sl Y50), .t B0] [] (some 11) K (ok74 N _ _ hy) <| nN K (tn 1) ?_
 cases h;exact VW.ret (rt [some 0])
theorem cmpw_done {x y:List Int} {k n m:Nat} (hn:x.length=n) (hm:y.length=m) (hk:n≤k):cmpL (x.drop k) (y.drop k)=if k < m then -1 else 0:=by
 rw [List.drop_eq_nil_of_le (by omega)]
 split
 ·rw [List.drop_eq_getElem_cons (by omega)];rfl
 rw [List.drop_eq_nil_of_le (by omega)];rfl
theorem cmpw_out {x y:List Int} {k} (hk:k < x.length) (hm:y.length≤k):cmpL (x.drop k) (y.drop k)=1:=by
 rw [List.drop_eq_getElem_cons hk,List.drop_eq_nil_of_le hm];rfl
theorem cmpw_in {x y:List Int} {k} {u v:Int} (h1:x[k]? =some u) (h2:y[k]? =some v):cmpL (x.drop k) (y.drop k)=if u < v then -1 else if u > v then 1 else cmpL (x.drop (k+1)) (y.drop (k+1)):=by
 obtain ⟨a1,rfl⟩:=List.getElem?_eq_some_iff.1 h1
 obtain ⟨a2,rfl⟩:=List.getElem?_eq_some_iff.1 h2
 rw [List.drop_eq_getElem_cons a1,List.drop_eq_getElem_cons a2];rfl
set_option maxHeartbeats 2000000 in
theorem cmpw (x y:List Int) (a b:Value) (w:World) (hx:x.length < 4611686018427387904) (hy:y.length < 4611686018427387904) (ha:HdrIs w a x) (hb:HdrIs w b y):Calls prog 76 #[a,b] w fun e w'=>e= .returned (.int .i64 (cmpL x y))∧w'=w:=by
 have cC:=fun u v=>Go.Proofs.Tryz.cmp_Compare_int u v w
 have hxa:∃p c,a= .slice p x.length c∧∀j,j < x.length→∃b1 o1 v,p=some ⟨b1,o1,none⟩∧x[j]? =some v∧w.cell? ⟨b1,o1+j,none⟩=some (.int .i64 v):=by
  rcases ha with ⟨rfl,p,c,rfl⟩ | ⟨b1,o1,c,rfl,h⟩
  ·exact ⟨p,c,rfl,fun j hj=>absurd hj (Nat.not_lt_zero _)⟩
  exact ⟨_,c,rfl,fun j hj=>⟨b1,o1,_,rfl,List.getElem?_eq_getElem hj,h j hj⟩⟩
 have hyb:∃p c,b= .slice p y.length c∧∀j,j < y.length→∃b1 o1 v,p=some ⟨b1,o1,none⟩∧y[j]? =some v∧w.cell? ⟨b1,o1+j,none⟩=some (.int .i64 v):=by
  rcases hb with ⟨rfl,p,c,rfl⟩ | ⟨b1,o1,c,rfl,h⟩
  ·exact ⟨p,c,rfl,fun j hj=>absurd hj (Nat.not_lt_zero _)⟩
  exact ⟨_,c,rfl,fun j hj=>⟨b1,o1,_,rfl,List.getElem?_eq_getElem hj,h j hj⟩⟩
 clear ha hb
 obtain ⟨p1,c1,rfl,h1⟩:=hxa
 obtain ⟨p2,c2,rfl,h2⟩:=hyb
 generalize hn:x.length=n at hx h1 ⊢
 generalize hm:y.length=m at hy h2 ⊢
 have A1:Aside (∀j,j < n→∃b1 o1 v,p1=some ⟨b1,o1,none⟩∧x[j]? =some v∧w.cell? ⟨b1,o1+j,none⟩=some (.int .i64 v)):=h1
 have A2:Aside (∀j,j < m→∃b1 o1 v,p2=some ⟨b1,o1,none⟩∧y[j]? =some v∧w.cell? ⟨b1,o1+j,none⟩=some (.int .i64 v)):=h2
 clear h1 h2
 go_enter func76,Go.Proofs.Tryz.ntmps76
 go_wp2
 go_loopg [11] n (fun gg s11 wr=>∃k:Nat,k≤n∧n - k≤gg∧s11= .int .i64 k∧wr=w∧cmpL x y=cmpL (x.drop k) (y.drop k))
 case atStart=>exact ⟨0,Nat.zero_le _,by omega,rfl,rfl,rfl⟩
 case round =>
  obtain ⟨k,hk,hgg,rfl,rfl,heq⟩:=hrel
  by_cases hlt:k < n
  ·obtain ⟨b1,o1,u,e1,e2,e3⟩:=A1.out k hlt
   subst e1
   by_cases hlm:k < m
   ·obtain ⟨b2,o2,v,e4,e5,e6⟩:=A2.out k hlm
    subst e4
    have hin:=cmpw_in e2 e5
    have cv:=cC u v
    by_cases q1:u < v
    ·rw [if_pos q1] at hin
     have ec:Lib.compareInt u v= -1:=by simp [Lib.compareInt,q1]
     rw [ec] at cv
     go_wp2_with (go_at_call 125;refine cv.mono ?_;rintro e w' ⟨rfl,rfl⟩)
     go_ret
     exact ⟨by rw [heq,hin];rfl,rfl⟩
    rw [if_neg q1] at hin
    by_cases q2:u > v
    ·rw [if_pos q2] at hin
     have ec:Lib.compareInt u v=1:=by simp [Lib.compareInt,q1,q2]
     rw [ec] at cv
     go_wp2_with (go_at_call 125;refine cv.mono ?_;rintro e w' ⟨rfl,rfl⟩)
     go_ret
     exact ⟨by rw [heq,hin];rfl,rfl⟩
    rw [if_neg q2] at hin
    have ec:Lib.compareInt u v=0:=by simp [Lib.compareInt,q1,q2]
    rw [ec] at cv
    go_wp2_with (go_at_call 125;refine cv.mono ?_;rintro e w' ⟨rfl,rfl⟩)
    go_roundg (n - (k+1))
    case measure=>omega
    case rel=>exact ⟨k+1,by omega,by omega,by go_num,rfl,by rw [heq,hin]⟩
   have hout:=cmpw_out (x:=x) (y:=y) (k:=k) (by omega) (by omega)
   go_wp2
   go_ret
   exact ⟨by rw [heq,hout];rfl,rfl⟩
  have:k=n:=by omega
  subst this
  have hd:=cmpw_done hn hm (Nat.le_refl _)
  by_cases hlm:k < m
  ·rw [if_pos hlm] at hd
   go_wp2
   go_ret
   exact ⟨by rw [heq,hd];rfl,rfl⟩
  rw [if_neg hlm] at hd
  go_wp2
  go_ret
  exact ⟨by rw [heq,hd];rfl,rfl⟩
def F75 (N:Nat) (a0:L2) (p1:L1→L1→Option (Int)):Option (L2) :=
  gd (a0.length < 4611686018427387904∧∀x∈a0,x.length < 4611686018427387904) (some (a0.mergeSort leL))
theorem ok75 N a0 (p1:L1→L1→Option (Int)) {r} (h:F75 N a0 p1=some r):ConM prog 75 [some (.arr 0 B1 a0 .tp)] [.lf (.hd 0 0 none), .clo 76 []] [] [some (.arr 0 B1 r .tp)]:=by
 obtain ⟨g,h⟩:=gd_some h
 cases h
 exact con_sortRows (enters_of func75 rfl (by decide)) (enters_of func76 rfl (by decide)) g.1 g.2 (fun p c w=>Go.Proofs.Tryz.slices_SortFunc_none (α:=Nat) p c _ w) (fun enc cf b c d w h1 hO hc hH hb hd=>Go.Proofs.Tryz.slices_SortFunc enc h1 cf hO 76 #[] b 0 c d w (enters_of func76 rfl (by decide)) hc hH hb hd) (fun x y a b w h1 h2 h3 h4=>cmpw x y a b w h1 h2 h3 h4)
def F76_j0 (N:Nat) (a0:L1) (a1:L1):Option (Int) :=
  cond (decide ((a0.length:Int) < (a1.length:Int))) (some (-1:Int)) (some (0:Int))
def F76_l0_b (N:Nat) (a0:L1) (a1:L1) (d:Int→Int→Option (Int)) (b:Int) (a:Int):Option (Int) :=
  cond (decide (a < b)) (gd (InR a a0.length) (cond (decide (a≥(a1.length:Int))) (some (1:Int)) (gd (InR a a1.length) (andO (F125 N (a0.getD a.toNat (Ty.dflt B0)) (a1.getD a.toNat (Ty.dflt B0))) fun c=>cond (c != (0:Int)) (some c) (d b (IntKind.i64.wrap (a+(1:Int)))))))) (F76_j0 N a0 a1)
def F76_l0 (N:Nat) (a0:L1) (a1:L1):=loopF (F76_l0_b N a0 a1) (fun _ _=>none)
def F76 (N:Nat) (a0:L1) (a1:L1):Option (Int) :=
  F76_l0 N a0 a1 N (a0.length:Int) (0:Int)
def F31 (N:Nat) (a0:L2):Option (L2) :=
  cond (decide ((a0.length:Int) > (200:Int))) (some ([])) (andO (F68 N a0) fun a=>andO (F75 N a (fun z0 z1=>F76 N z0 z1)) fun b=>some b)
theorem ok31 N a0 {r} (h:F31 N a0=some r):Con prog 31 [Vv B2 a0] [.lf (.own B1 r .tp)]:=by
 refine ctr [.lf (.own B1 .tp)] K func31 rfl fun w0 E0 ht=>?_
 unfold F31 at h
 show VW _ _ _ _ _ (retQ _ _ _ _) _
 refine nR K (tn 1) <| sq <| nR K (tn 3) ?_
 refine cnd h ?_ ?_<;>intro h
 ·refine nR K (tn 1) ?_
  cases h;exact VW.ret (rt [none])
 refine VW.skip <| sq <| VW.region <| nG K 1 (tn 1) ?_
 obtain⟨a,hy,h⟩:=aS h
 refine clc false [.t B2] [] (some 8) K (ok68 N _ hy) <| nN K (tn 1) <| sq <| VW.region <| nG K 1 (tn 1) ?_
 obtain⟨b,hy,h⟩:=aS h
 refine VO.ghl [.wk 0] <| VO.callM [0] [.t B2, .c] (d:=some 10) (by kernel_rfl) (by kernel_rfl) (ok75 N _ _ hy) (by kernel_rfl) <| nN K (tn 0) <| nR K (tn 2) ?_
 cases h;exact VW.ret (rt [some 0])
def F32 (N:Nat) (a0:L2) (a1:L2):Option (Bool) :=
  cond (decide ((a0.length:Int)≤(200:Int))) (cond (decide ((a1.length:Int)≤(200:Int))) (andO (F31 N a0) fun a=>andO (F31 N a1) fun b=>andO (F26 N a b) fun c=>some c) (some false)) (some false)
theorem ok32 N a0 a1 {r} (h:F32 N a0 a1=some r):Con prog 32 [Vv B2 a0,Vv B2 a1] [.lf (.v .bool r)]:=by
 refine ctr [.lf (.v .bool)] K func32 rfl fun w0 E0 ht=>?_
 unfold F32 at h
 show VW _ _ _ _ _ (retQ _ _ _ _) _
 refine nR K (tn 1) <| sq <| VW.region <| nG K 4 (tn 4) ?_
 refine spC 8 h ?_ ?_<;>intro h
 ·refine nG K 5 (tn 5) ?_
  refine spC 13 h ?_ ?_<;>intro h
  ·refine nG K 1 (tn 1) <| VO.on (j:=8) (want:=true) (d:=13) (b:=true) rfl rfl rfl (by kernel_rfl) rfl ?_
   obtain⟨a,hy,h⟩:=aS h
   refine clc false [.t B2] [] (some 15) K (ok31 N _ hy) <| nG K 1 (tn 1) <| VO.on (j:=8) (want:=true) (d:=13) (b:=true) rfl rfl rfl (by kernel_rfl) rfl ?_
   obtain⟨c,hy,h⟩:=aS h
   refine clc false [.t B2] [] (some 17) K (ok31 N _ hy) <| VO.on (j:=8) (want:=true) (d:=13) (b:=true) rfl rfl rfl (by kernel_rfl) rfl ?_
   obtain⟨e,hy,h⟩:=aS h
   refine clc true [.t B2, .t B2] [] (some 18) K (ok26 N _ _ hy) <| nN K (tn 2) ?_
   cases h;exact VW.ret (rt [])
  refine nN K (tn 7) ?_
  cases h;exact VW.ret (rt [])
 refine nN K (tn 12) ?_
 cases h;exact VW.ret (rt [])
def F4_j0 (N:Nat) (a:L2):Option (Bool) :=
  andO (F31 N a) fun b=>andO (F32 N b a) fun c=>cond c (some ((b.length:Int) == (a.length:Int))) (some false)
def F4_j1 (N:Nat) (a:Int→Option (Bool)) (b:Int):Option (Bool) :=
  a (IntKind.i64.wrap (b+(1:Int)))
def F4_j2 (N:Nat) (d:Int→Option (Bool)) (c:Int) (e:Int) (a:L1) (b:L1) (f:Bool):Option (Bool) :=
  cond f (gd (InR c a.length) (gd (c.toNat < a.length) (gd (InR (0:Int) b.length) (gd ((0:Int).toNat < b.length) (gd (InR (b.getD ((0:Int).toNat) (Ty.dflt B0)) a.length) (gd ((b.getD ((0:Int).toNat) (Ty.dflt B0)).toNat < a.length) (cond ((a.getD c.toNat (Ty.dflt B0)) != (a.getD ((b.getD ((0:Int).toNat) (Ty.dflt B0)).toNat) (Ty.dflt B0))) (some false) (F4_j1 N d c)))))))) (cond (e == (4:Int)) (gd (InR c a.length) (gd (c.toNat < a.length) (gd (InR (0:Int) b.length) (gd ((0:Int).toNat < b.length) (gd (InR (b.getD ((0:Int).toNat) (Ty.dflt B0)) a.length) (gd ((b.getD ((0:Int).toNat) (Ty.dflt B0)).toNat < a.length) (gd (InR (1:Int) b.length) (gd ((1:Int).toNat < b.length) (gd (InR (b.getD ((1:Int).toNat) (Ty.dflt B0)) a.length) (gd ((b.getD ((1:Int).toNat) (Ty.dflt B0)).toNat < a.length) (cond ((a.getD c.toNat (Ty.dflt B0)) != (IntKind.i64.wrap ((a.getD ((b.getD ((0:Int).toNat) (Ty.dflt B0)).toNat) (Ty.dflt B0))+(a.getD ((b.getD ((1:Int).toNat) (Ty.dflt B0)).toNat) (Ty.dflt B0))))) (some false) (F4_j1 N d c)))))))))))) (F4_j1 N d c))
def F4_j3 (N:Nat) (e:Int→Option (Bool)) (c:Int) (a:L1) (b:L1) (d:Int) (f:Bool):Option (Bool) :=
  cond f (gd (InR c a.length) (gd (c.toNat < a.length) (gd (InR (0:Int) b.length) (gd ((0:Int).toNat < b.length) (gd (InR (b.getD ((0:Int).toNat) (Ty.dflt B0)) a.length) (gd ((b.getD ((0:Int).toNat) (Ty.dflt B0)).toNat < a.length) (cond (decide ((a.getD c.toNat (Ty.dflt B0)) > (a.getD ((b.getD ((0:Int).toNat) (Ty.dflt B0)).toNat) (Ty.dflt B0)))) (some false) (F4_j1 N e c)))))))) (cond (d == (5:Int)) (F4_j2 N e c d a b (d == (5:Int))) (F4_j2 N e c d a b (d == (2:Int))))
def F4_l0_b (N:Nat) (b:(List Z50)) (f:L2) (d:L1) (c:Int→Option (Bool)) (a:Int):Option (Bool) :=
  cond (decide (a < (b.length:Int))) (andO (F30 N b a) fun e=>gd (InR a b.length) (gd (a.toNat < b.length) (cond (((b.getD a.toNat (Ty.dflt Y50)).1) == (1:Int)) (F4_j3 N c a d e ((b.getD a.toNat (Ty.dflt Y50)).1) (((b.getD a.toNat (Ty.dflt Y50)).1) == (1:Int))) (cond (((b.getD a.toNat (Ty.dflt Y50)).1) == (7:Int)) (F4_j3 N c a d e ((b.getD a.toNat (Ty.dflt Y50)).1) (((b.getD a.toNat (Ty.dflt Y50)).1) == (7:Int))) (F4_j3 N c a d e ((b.getD a.toNat (Ty.dflt Y50)).1) (((b.getD a.toNat (Ty.dflt Y50)).1) == (6:Int))))))) (F4_j0 N f)
def F4_l0 (N:Nat) (a:(List Z50)) (b:L2) (c:L1):=loopF (F4_l0_b N a b c) (fun _=>none)
theorem F4_l0_s {N a b c k} (hk:0 < k:=by omega):F4_l0 N a b c k=F4_l0_b N a b c (F4_l0 N a b c (k - 1)):=lS hk
def F4_j4 (N:Nat) (c:(List Z99)) (d:L3) (b:(List Z50)) (e:L2):Option (Bool) :=
  andO (F28 N c d b) fun a=>cond ((a.length:Int) != (b.length:Int)) (some false) (andO (F29 N c d b) fun f=>andO (F10 N a f) fun g=>cond (!g) (some false) (gd (InR (0:Int) a.length) (gd ((0:Int).toNat < a.length) (cond ((a.getD ((0:Int).toNat) (Ty.dflt B0)) != (e.length:Int)) (some false) (F4_l0 N b e a N (0:Int))))))
def F4_l1_b (N:Nat) (g:Int) (f:(List Z99)→L3→(List Z50)→L2→Int→Option (Bool)) (c:(List Z99)) (d:L3) (e:(List Z50)) (a:L2) (b:Int):Option (Bool) :=
  cond (decide (b < (a.length:Int))) (gd (InR b a.length) (gd (b.toNat < a.length) (cond (((a.getD b.toNat (Ty.dflt B1)).length:Int) != g) (some false) (f c d e a (IntKind.i64.wrap (b+(1:Int))))))) (F4_j4 N c d e a)
def F4_l1 (N:Nat) (a:Int):=loopF (F4_l1_b N a) (fun _ _ _ _ _=>none)
theorem F4_l1_s {N a k} (hk:0 < k:=by omega):F4_l1 N a k=F4_l1_b N a (F4_l1 N a (k - 1)):=lS hk
def F4 (N:Nat) (a0:L1):Option (Bool) :=
  andO (F5 N a0) fun d=>cond d (some true) (andO (F23 N a0) fun a=>andO (F24 N a.1 a.2.1 a.2.2) fun c=>andO (F25 N a.1 a.2.1 a.2.2) fun b=>cond (b.2 != c.2) (some false) (andO (F26 N b.1 c.1) fun e=>cond (!e) (some false) (cond (c.2 != (0:Int)) (some ((b.1.length:Int) == (0:Int))) (andO (F27 N a.1 a.2.2) fun f=>F4_l1 N f N a.1 a.2.1 a.2.2 b.1 (0:Int)))))
theorem ok4 N a0 {r} (h:F4 N a0=some r):Con prog 4 [Vv (.sl (.int .u8)) a0] [.lf (.v .bool r)]:=by
 refine ctr [.lf (.v .bool)] K func4 rfl fun w0 E0 ht=>?_
 unfold F4 at h
 show VW _ _ _ _ _ (retQ _ _ _ _) _
 refine nR K (tn 1) <| sq <| sq <| VW.region <| nG K 1 (tn 1) ?_
 obtain⟨y2,hy,h⟩:=aS h
 refine clc false [.t (.sl (.int .u8))] [] (some 17) K (ok5 N _ hy) <| nN K (tn 0) ?_
 refine cnd h ?_ ?_<;>intro h
 ·refine nR K (tn 1) ?_
  cases h;exact VW.ret (rt [])
 refine VW.skip <| sq <| VW.region <| nG K 1 (tn 1) ?_
 obtain⟨i,hy,h⟩:=aS h
 refine clc false [.t (.sl (.int .u8))] [] (some 20) K (ok23 N _ hy) <| nN K (tn 7) <| sq <| VW.region <| nG K 3 (tn 3) ?_
 obtain⟨y4,hy,h⟩:=aS h
 refine clc true [.t (.sl Y99), .t B3, .t (.sl Y50)] [] (some 28) K (ok24 N _ _ _ hy) <| nN K (tn 5) <| sq <| VW.region <| nG K 3 (tn 3) ?_
 obtain⟨A,hy,h⟩:=aS h
 refine clc true [.t (.sl Y99), .t B3, .t (.sl Y50)] [] (some 35) K (ok25 N _ _ _ hy) <| nN K (tn 5) <| sq <| sq <| VW.region <| nG K 4 (tn 4) ?_
 refine spC 41 h ?_ ?_<;>intro h
 ·refine nN K (tn 5) ?_
  refine VW.cond (b:=true) (by kernel_rfl) (fun _=>?_) (fun h'=>nomatch h')
  refine nR K (tn 1) ?_
  cases h;exact VW.ret (rt [])
 refine nG K 2 (tn 2) <| VO.on (j:=3) (want:=false) (d:=41) (b:=false) rfl rfl rfl (by kernel_rfl) rfl ?_
 obtain⟨y7,hy,h⟩:=aS h
 refine clc true [.t B2, .t B2] [] (some 44) K (ok26 N _ _ hy) <| nN K (tn 2) ?_
 refine cnd h ?_ ?_<;>intro h
 ·refine nR K (tn 1) ?_
  cases h;exact VW.ret (rt [])
 refine VW.skip <| sq <| nR K (tn 2) ?_
 refine cnd h ?_ ?_<;>intro h
 ·refine sR K [2] [] ⟨[(2,B ((A.1.length:Int) == (0:Int)))],[]⟩ (tn 4) ?_
  cases h;exact VW.ret (rt [])
 refine VW.skip <| sq <| VW.region <| sG K 2 [3,4,5,8,52,53] [0,1,3] ⟨[(3,Vv (.sl Y99) i.1),(4,hh 0),(5,hh 1),(8,hh 2),(52,Vv (.sl Y99) i.1),(53,hh 1)],[ar 0 B2 i.2.1 .dp,ar 0 Y50 i.2.2 .tp,ar 0 B1 A.1 .dp]⟩ (tn 2) ?_
 obtain⟨D,hy,h⟩:=aS h
 refine clc true [.t (.sl Y99), .t (.sl Y50)] [] (some 54) K (ok27 N _ _ hy) <| nN K (tn 1) ?_
 refine VW.join (fun s=>∃(w:(List Z99)) (x:L3) (a:(List Z50)) (e:L2),s=⟨[(3,Vv (.sl Y99) w),(4,hh 0),(5,hh 1),(8,hh 2)],[ar 0 B2 x .dp,ar 0 Y50 a .tp,ar 0 B1 e .tp]⟩∧F4_j4 N w x a e=some r) ?_ ?_
 ·refine nR K (tn 1) <| VW.block <| lop (fun k s=>∃(m:(List Z99)) (n:L3) (o:(List Z50)) (p:L2) (q:Int),s=⟨[(3,Vv (.sl Y99) m),(4,hh 0),(5,hh 1),(8,hh 2),(10,I D),(11,I q)],[ar 0 B2 n .dp,ar 0 Y50 o .tp,ar 0 B1 p .tp]⟩∧F4_l1 N D k m n o p q=some r) N [.wk 2, .ren [3,4,5,8,10,11] [0,1,2]] ⟨i.1,i.2.1,i.2.2,A.1,(0:Int),rfl,h⟩ ?_
  rintro C s ⟨m,n,o,p,q,rfl,h⟩
  cases C with
  | zero=>exact nv h
  | succ C =>
   rw [F4_l1_s,F4_l1_b] at h
   refine sq <| nR K (tn 4) ?_
   refine cnd h ?_ ?_<;>intro h
   ·refine VW.skip <| sq <| VW.block ?_
    obtain⟨a8,a9,h⟩:=gT h
    refine nR K (pu 2 (an a8 (an a9 (tn 3)))) ?_
    refine cnd h ?_ ?_<;>intro h
    ·refine nR K (tn 1) ?_
     cases h;exact VW.ret (rt [])
    refine VW.skip <| nE K (tn 3) ?_
    exact aro [.ren [3,4,5,8,10,11] [0,1,2]] ⟨m,n,o,p,(wr (q+(1:Int))),rfl,h⟩
   refine VW.exit ?_
   exact arv [.ren [3,4,5,8] [0,1,2]] ⟨m,n,o,p,rfl,h⟩
 rintro s ⟨w,x,a,e,rfl,h⟩
 unfold F4_j4 at h
 refine sq <| VW.region <| nG K 3 (tn 3) ?_
 obtain⟨f,hy,h⟩:=aS h
 refine clc true [.t (.sl Y99), .t B3, .t (.sl Y50)] [] (some 71) K (ok28 N _ _ _ hy) <| nN K (tn 1) <| sq <| sq <| VW.region <| nG K 6 (tn 6) ?_
 refine spC 77 h ?_ ?_<;>intro h
 ·refine nN K (tn 16) ?_
  refine VW.cond (b:=true) (by kernel_rfl) (fun _=>?_) (fun h'=>nomatch h')
  refine nR K (tn 1) ?_
  cases h;exact VW.ret (rt [])
 refine nG K 4 (tn 4) <| VO.on (j:=5) (want:=false) (d:=77) (b:=false) rfl rfl rfl (by kernel_rfl) rfl ?_
 obtain⟨ae,hy,h⟩:=aS h
 refine clc true [.t (.sl Y99), .t B3, .t (.sl Y50)] [] (some 82) K (ok29 N _ _ _ hy) <| VO.on (j:=5) (want:=false) (d:=77) (b:=false) rfl rfl rfl (by kernel_rfl) rfl ?_
 obtain⟨af,hy,h⟩:=aS h
 refine clc true [.t B1, .t B1] [] (some 83) K (ok10 N _ _ hy) <| nG K 3 (tn 3) ?_
 refine spC 86 h ?_ ?_<;>intro h
 ·refine nN K (tn 7) ?_
  refine VW.cond (b:=true) (by kernel_rfl) (fun _=>?_) (fun h'=>nomatch h')
  refine nR K (tn 1) ?_
  cases h;exact VW.ret (rt [])
 obtain⟨a6,a7,h⟩:=gT h
 refine nN K (pu 1 (an a6 (an a7 (tn 4)))) ?_
 refine cnd h ?_ ?_<;>intro h
 ·refine nR K (tn 1) ?_
  cases h;exact VW.ret (rt [])
 refine VW.skip ?_
 refine VW.join (fun s=>s=⟨[(8,hh 0)],[ar 0 B1 e .tp]⟩∧F4_j0 N e=some r) ?_ ?_
 ·refine nR K (tn 1) <| VW.block <| lop (fun k s=>∃c,s=⟨[(5,hh 0),(8,hh 1),(12,hh 2),(13,I c)],[ar 0 Y50 a .tp,ar 0 B1 e .tp,ar 0 B0 f .dp]⟩∧F4_l0 N a e f k c=some r) N [.ren [5,8,12,13] [1,2,3]] ⟨(0:Int),rfl,h⟩ ?_
  rintro l s ⟨c,rfl,h⟩
  cases l with
  | zero=>exact nv h
  | succ l =>
   rw [F4_l0_s,F4_l0_b] at h
   refine sq <| nR K (tn 4) ?_
   refine cnd h ?_ ?_<;>intro h
   ·refine VW.skip ?_
    refine VW.join (fun s=>s=⟨[(5,hh 0),(8,hh 1),(12,hh 2),(13,I c)],[ar 0 Y50 a .tp,ar 0 B1 e .tp,ar 0 B0 f .dp]⟩∧F4_j1 N (F4_l0 N a e f l) c=some r) ?_ ?_
    ·refine VW.block <| sq <| VW.region <| nG K 2 (tn 2) ?_
     obtain⟨u,hy,h⟩:=aS h
     refine clc true [.t (.sl Y50), .t B0] [] (some 102) K (ok30 N _ _ hy) <| nN K (tn 1) ?_
     obtain⟨E,F,h⟩:=gT h
     refine nR K (pu 2 (an E (pu 1 (an F (tn 0))))) <| VW.block ?_
     refine VW.join (fun s=>∃g y,s=⟨[(5,hh 0),(8,hh 1),(12,hh 2),(13,I c),(14,hh 3),(107,I g),(108,B y)],[ar 0 Y50 a .tp,ar 0 B1 e .tp,ar 0 B0 f .dp,ar 0 B0 u .dp]⟩∧F4_j3 N (F4_l0 N a e f l) c f u g y=some r) ?_ ?_
     ·refine nR K (tn 2) ?_
      refine cnd h ?_ ?_<;>intro h
      ·refine VW.skip ?_
       exact arv [.ren [5,8,12,13,14,107,108] [0,1,2,3]] ⟨(a.getD c.toNat D50).1,(((a.getD c.toNat D50).1) == (1:Int)),rfl,h⟩
      refine nR K (tn 2) ?_
      refine cnd h ?_ ?_<;>intro h
      ·refine VW.skip ?_
       exact arv [.ren [5,8,12,13,14,107,108] [0,1,2,3]] ⟨(a.getD c.toNat D50).1,(((a.getD c.toNat D50).1) == (7:Int)),rfl,h⟩
      refine nE K (tn 2) ?_
      exact arv [.ren [5,8,12,13,14,107,108] [0,1,2,3]] ⟨(a.getD c.toNat D50).1,(((a.getD c.toNat D50).1) == (6:Int)),rfl,h⟩
     rintro s ⟨g,y,rfl,h⟩
     unfold F4_j3 at h
     refine cnd h ?_ ?_<;>intro h
     ·refine sq ?_
      obtain⟨G,H,J,L,M,h⟩:=gW h
      obtain⟨O,h⟩:=gS h
      refine dr K [] [] [] [5,8,12,13,122] [0,1,2] (pu 2 (an G (an H (pu 2 (an J (an L (an M (an O (tn 1))))))))) trivial ?_
      refine cnd h ?_ ?_<;>intro h
      ·refine nR K (tn 1) ?_
       cases h;exact VW.ret (rt [])
      refine VW.skip ?_
      exact arv [.ren [5,8,12,13] [0,1,2]] ⟨rfl,h⟩
     refine VW.join (fun s=>∃z,s=⟨[(5,hh 0),(8,hh 1),(12,hh 2),(13,I c),(14,hh 3),(107,I g),(123,B z)],[ar 0 Y50 a .tp,ar 0 B1 e .tp,ar 0 B0 f .dp,ar 0 B0 u .dp]⟩∧F4_j2 N (F4_l0 N a e f l) c g f u z=some r) ?_ ?_
     ·refine nR K (tn 2) ?_
      refine cnd h ?_ ?_<;>intro h
      ·refine VW.skip ?_
       exact arv [.ren [5,8,12,13,14,107,123] [0,1,2,3]] ⟨(g == (5:Int)),rfl,h⟩
      refine nE K (tn 2) ?_
      exact arv [.ren [5,8,12,13,14,107,123] [0,1,2,3]] ⟨(g == (2:Int)),rfl,h⟩
     rintro s ⟨z,rfl,h⟩
     unfold F4_j2 at h
     refine cnd h ?_ ?_<;>intro h
     ·refine sq ?_
      obtain⟨P,Q,R,S,T,h⟩:=gW h
      obtain⟨U,h⟩:=gS h
      refine dr K [] [] [] [5,8,12,13,136] [0,1,2] (pu 2 (an P (an Q (pu 2 (an R (an S (an T (an U (tn 1))))))))) trivial ?_
      refine cnd h ?_ ?_<;>intro h
      ·refine nR K (tn 1) ?_
       cases h;exact VW.ret (rt [])
      refine VW.skip ?_
      exact arv [.ren [5,8,12,13] [0,1,2]] ⟨rfl,h⟩
     refine nR K (tn 2) ?_
     refine cnd h ?_ ?_<;>intro h
     ·refine sq ?_
      obtain⟨V,W,X,Y,Z,h⟩:=gW h
      obtain⟨a1,a2,a3,a4,a5,h⟩:=gW h
      refine dr K [] [] [] [5,8,12,13,156] [0,1,2] (pu 2 (an V (an W (pu 2 (an X (an Y (an Z (an a1 (pu 2 (an a2 (an a3 (an a4 (an a5 (tn 2)))))))))))))) trivial ?_
      refine cnd h ?_ ?_<;>intro h
      ·refine nR K (tn 1) ?_
       cases h;exact VW.ret (rt [])
      refine VW.skip ?_
      exact arv [.ren [5,8,12,13] [0,1,2]] ⟨rfl,h⟩
     refine VW.skip ?_
     exact arv [.ren [5,8,12,13] [0,1,2]] ⟨rfl,h⟩
    rintro s ⟨rfl,h⟩
    unfold F4_j1 at h
    refine nE K (tn 3) ?_
    exact aro [.ren [5,8,12,13] [0,1,2]] ⟨(wr (c+(1:Int))),rfl,h⟩
   refine VW.exit ?_
   exact arv [.ren [8] [1]] ⟨rfl,h⟩
 rintro s ⟨rfl,h⟩
 unfold F4_j0 at h
 refine sq <| VW.region <| nG K 1 (tn 1) ?_
 obtain⟨ab,hy,h⟩:=aS h
 refine VO.ghl [.frz 0] <| clc false [.t B2] [] (some 158) K (ok31 N _ hy) <| nN K (tn 1) <| sq <| VW.region <| nG K 2 (tn 2) ?_
 obtain⟨ac,hy,h⟩:=aS h
 refine clc true [.t B2, .t B2] [] (some 161) K (ok32 N _ _ hy) <| nG K 1 (tn 1) ?_
 refine spC 162 h ?_ ?_<;>intro h
 ·refine nN K (tn 7) ?_
  cases h;exact VW.ret (rt [])
 refine nN K (tn 7) ?_
 cases h;exact VW.ret (rt [])
end Go.Proofs.YtmkhmpcealeidaaGreat.Vc
