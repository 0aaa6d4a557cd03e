/- Plain lemmas on what the functions compute, and the law. -/
import Derived.Test.YtmkhmpcealeidaaGreatZa
namespace Go.Proofs.YtmkhmpcealeidaaGreat.Vc
open Go Go.RowKit Go.Lib
set_option linter.unusedVariables false
set_option linter.unusedSimpArgs false
def FewO (n:Nat) (t:List Rw):Prop:=t.length≤n∧∀r∈t,r.length≤8
def FewS (n:Nat) (l:List (List Rw)):Prop:=l.length≤10∧∀t∈l,FewO n t
theorem FewO.mono {n m:Nat} {t:List Rw} (h:FewO n t) (hm:n≤m):FewO m t:=⟨Nat.le_trans h.1 hm,h.2⟩
theorem FewO.app {n m:Nat} {t u:List Rw} (h:FewO n t) (k:FewO m u):FewO (n+m) (t++u):=by
 refine ⟨by rw [List.length_append];exact Nat.add_le_add h.1 k.1,fun r hr=>?_⟩
 rcases List.mem_append.1 hr with hr | hr
 ·exact h.2 r hr
 ·exact k.2 r hr
theorem FewO.set {n:Nat} {t:List Rw} (h:FewO n t) (i:Nat) {r:Rw} (hr:r.length≤8):FewO n (t.set i r):=by
 refine ⟨by rw [List.length_set];exact h.1,fun x hx=>?_⟩
 rcases List.mem_or_eq_of_mem_set hx with hx | rfl
 ·exact h.2 x hx
 ·exact hr
theorem FewS.mono {n m:Nat} {l:List (List Rw)} (h:FewS n l) (hm:n≤m):FewS m l:=⟨h.1,fun t ht=>(h.2 t ht).mono hm⟩
theorem FewS.set {n:Nat} {l:List (List Rw)} (h:FewS n l) (i:Nat) {t:List Rw} (ht:FewO n t):FewS n (l.set i t):=by
 refine ⟨by rw [List.length_set];exact h.1,fun x hx=>?_⟩
 rcases List.mem_or_eq_of_mem_set hx with hx | rfl
 ·exact h.2 x hx
 ·exact ht
theorem FewS.fits {n:Nat} {l:List (List Rw)} (h:FewS n l) (hn:n≤1048576):FitsR l :=
 ⟨by have:=h.1;omega,fun t ht=>by have:=(h.2 t ht).1;omega,fun t ht r hr=>by have:=(h.2 t ht).2 r hr;omega⟩
theorem set_self {α:Type} (l:List α) (i:Nat) (d:α):l.set i (l.getD i d)=l:=by
 apply List.ext_getElem
 ·rw [List.length_set]
 ·intro j h1 h2
  rw [List.getElem_set]
  split
  ·rename_i e
   subst e
   rw [getD_at h2]
  ·rfl
theorem rowsD_l0 {N:Nat} {w:Int} (hw:w≤8) (nx:List Int→Int→Int→List (List Int)→Int→Option (Cur×List (List Int))) (out:List Rw) (i:Int):∀(d k j:Nat) (c:Cur) (row:Rw),CurOk c→8≤j+d→row.length=j→j≤8→d < k→
  ∃(c':Cur) (row':Rw),F102_l0 N w nx out i k c.1 c.2.1 c.2.2 row (j:Int)=F102_j2 N nx out i c'.1 c'.2.1 c'.2.2 row'∧CurOk c'∧row'.length≤8:=by
 have hlim:=lim_i64
 intro d
 induction d with
 | zero =>
  intro k j c row hc h1 h2 h3 hk
  rw [F102_l0_s,F102_l0_b,decide_eq_false (show ¬(j:Int) < w by omega),cond_false]
  exact ⟨c,row,rfl,hc,by omega⟩
 | succ d ih =>
  intro k j c row hc h1 h2 h3 hk
  rw [F102_l0_s,F102_l0_b]
  by_cases hj:(j:Int) < w
  ·obtain ⟨c1,x,e1,hc1,_⟩:=l01Below_v N hc (n:=5) (by omega)
   obtain ⟨c2,b,e2,hc2⟩:=l01Once_v N hc1 (n:=8) (by omega)
   rw [decide_eq_true hj,cond_true,show ((c.1,(c.2.1,c.2.2)):Cur)=c from rfl,e1,andO_of]
   simp only [e2,andO_of]
   have step:∀v:Int,∃(c':Cur) (row':Rw),F102_j3 N (F102_l0 N w nx out i (k - 1)) row (j:Int) c2.1 c2.2.1 c2.2.2 v=F102_j2 N nx out i c'.1 c'.2.1 c'.2.2 row'∧CurOk c'∧row'.length≤8:=fun v=>by
    unfold F102_j3
    rw [gd_true (by rw [List.length_singleton];omega),w6,ip1 j]
    exact ih (k - 1) (j+1) c2 _ hc2 (by omega) (by rw [List.length_append,List.length_singleton];omega) (by omega) (by omega)
   cases b with
   | true=>exact step _
   | false=>exact step _
  ·rw [decide_eq_false hj,cond_false]
   exact ⟨c,row,rfl,hc,by omega⟩
theorem rowsD_l1 {N:Nat} (hN:1048576 < N) {w n:Int} (hw:w≤8):∀(d k i:Nat) (c:Cur) (out:List Rw),CurOk c→n≤(i:Int)+(d:Int)→i+d≤100→FewO i out→d < k→
  ∃(c':Cur) (t:List Rw),F102_l1 N w n k c.1 c.2.1 c.2.2 out (i:Int)=some (c',t)∧CurOk c'∧FewO 100 t:=by
 have hlim:=lim_rw
 intro d
 induction d with
 | zero =>
  intro k i c out hc hn h1 ho hk
  rw [F102_l1_s,F102_l1_b,decide_eq_false (show ¬(i:Int) < n by omega),cond_false]
  exact ⟨c,out,rfl,hc,ho.mono (by omega)⟩
 | succ d ih =>
  intro k i c out hc hn h1 ho hk
  rw [F102_l1_s,F102_l1_b]
  by_cases hi:(i:Int) < n
  ·obtain ⟨c1,row,e1,hc1,hr⟩:=rowsD_l0 (N:=N) hw (F102_l1 N w n (k - 1)) out (i:Int) 8 N 0 c [] hc (by omega) rfl (by omega) (by omega)
   rw [z0] at e1
   have hol:=ho.1
   rw [decide_eq_true hi,cond_true,e1,F102_j2,gd_true ls1,F102_j1,w6,ip1 i]
   exact ih (k - 1) (i+1) c1 _ hc1 (by omega) (by omega) (ho.app ⟨by simp,fun r hr'=>by rw [List.mem_singleton.1 hr'];exact hr⟩) (by omega)
  ·rw [decide_eq_false hi,cond_false]
   exact ⟨c,out,rfl,hc,ho.mono (by omega)⟩
theorem rowsD_v {N:Nat} (hN:1048576 < N) {c:Cur} (hc:CurOk c) {w n:Int} (hw:w≤8) (hn:n≤100):∃(c':Cur) (t:List Rw),F102 N c w n=some (c',t)∧CurOk c'∧FewO 100 t :=
 rowsD_l1 hN hw 100 N 0 c [] hc (by omega) (by omega) ⟨by simp,fun r hr=>by cases hr⟩ (by omega)
def DrawnS (r:Option (Cur×List (List Rw))):Prop:=∃c l,r=some (c,l)∧CurOk c∧FewS 300 l
theorem store_j0 {N:Nat} {c:Cur} (hc:CurOk c) {l:List (List Rw)} (hl:FewS 300 l):DrawnS (F58_j0 N l c.1 c.2.1 c.2.2):=⟨c,l,rfl,hc,hl⟩
theorem store_j1 {N:Nat} (hN:1048576 < N) {s:List Tb} (hs:FewT s) {c:Cur} (hc:CurOk c) {l:List (List Rw)} (hl:FewS 100 l) (he:l.length=s.length):DrawnS (F58_j1 N s c.1 c.2.1 c.2.2 l):=by
 have hlim:=lim_rw
 have hl3:FewS 300 l:=hl.mono (by omega)
 obtain ⟨c1,b,e1,hc1⟩:=l01Once_v N hc (n:=15) (by omega)
 unfold F58_j1
 rw [show ((c.1,(c.2.1,c.2.2)):Cur)=c from rfl,e1,andO_of]
 cases b with
 | false=>exact store_j0 (N:=N) hc1 hl3
 | true =>
  simp only [cond_true]
  by_cases h0:(l.length:Int) > 0
  ·have h10:=hl.1
   obtain ⟨c2,x,e2,hc2,x0,x1,_⟩:=l01Below_v N hc1 (n:=(l.length:Int)) (by omega)
   have x1:=x1 (by omega)
   obtain ⟨c3,y,e3,hc3,_⟩:=l01Below_v N hc2 (n:=3) (by omega)
   have hx:x.toNat < l.length:=by omega
   have hxs:x.toNat < s.length:=by omega
   have hg:FewO 100 (l.getD x.toNat []):=by rw [getD_at hx];exact hl.2 _ (List.getElem_mem hx)
   have hgl:=hg.1
   simp only [decide_eq_true h0,cond_true,e2,e3,andO_of,gd_true (show 0≤x∧x.toNat < l.length from ⟨x0,hx⟩),set_self]
   generalize l.getD x.toNat []=t at hg hgl ⊢
   by_cases y0:y=0
   ·simp only [show (y == 0)=true from by rw [beq_iff_eq];exact y0,cond_true]
    rw [gd_true ls1]
    exact store_j0 (N:=N) hc3 (hl3.set _ ((hg.app (m:=1) (u:=[[(1:Int)]]) ⟨by simp,fun r hr=>by rw [List.mem_singleton.1 hr];simp⟩).mono (by omega)))
   ·simp only [show (y == 0)=false from by rw [beq_eq_false_iff_ne];exact y0,cond_false]
    by_cases y1:y=1
    ·obtain ⟨c4,z,e4,hc4,z0,z1,_⟩:=l01Below_v N hc3 (n:=6) (by omega)
     have z1:=z1 (by omega)
     obtain ⟨c5,u,e5,hc5,hu⟩:=rowsD_v hN hc4 (w:=s[x.toNat].2) (n:=36+z) (hs.2 _ (List.getElem_mem hxs)).2 (by omega)
     have hul:=hu.1
     simp only [show (y == 1)=true from by rw [beq_iff_eq];exact y1,cond_true]
     rw [gd_true (by simp only [InR];omega),e4,andO_of]
     simp only [getD_at hxs]
     rw [w64 (x:=36+z) (by omega) (by omega),e5,andO_of,gd_true (by show t.length+u.length≤_;omega)]
     exact store_j0 (N:=N) hc5 (hl3.set _ ((hg.app hu).mono (by omega)))
    ·simp only [show (y == 1)=false from by rw [beq_eq_false_iff_ne];exact y1,cond_false]
     by_cases y2:y=2
     ·simp only [show (y == 2)=true from by rw [beq_iff_eq];exact y2,cond_true]
      by_cases t0:0 < t.length
      ·obtain ⟨c4,z,e4,hc4,_⟩:=l01PickInt_v N hc3 (l:=[(1000000:Int),(1000001:Int),(-1000000:Int)]) (by simp) (by simp)
       have hr:(t.getD 0 []).length≤8:=by rw [getD_at t0];exact hg.2 _ (List.getElem_mem t0)
       simp only [decide_eq_true t0,decide_eq_true (show (t.length:Int) > 0 by omega),cond_true,gd_true t0]
       generalize t.getD 0 []=r at hr ⊢
       by_cases r0:(r.length:Int) > 0
       ·simp only [decide_eq_true r0,cond_true,e4,andO_of,gd_true (show InR (0:Int) r.length by simp only [InR];omega),gd_true (show (0:Int).toNat < r.length by show 0 < _;omega)]
        exact store_j0 (N:=N) hc4 (hl3.set _ ((hg.set 0 (by rw [List.length_set];exact hr)).mono (by omega)))
       ·simp only [decide_eq_false r0,cond_false]
        exact store_j0 (N:=N) hc3 hl3
      ·simp only [decide_eq_false t0,decide_eq_false (show ¬(t.length:Int) > 0 by omega),cond_false]
       exact store_j0 (N:=N) hc3 hl3
     ·simp only [show (y == 2)=false from by rw [beq_eq_false_iff_ne];exact y2,cond_false]
      exact store_j0 (N:=N) hc3 hl3
  ·rw [decide_eq_false h0,cond_false]
   exact store_j0 (N:=N) hc1 hl3
theorem storeD_l {N:Nat} (hN:1048576 < N) {s:List Tb} (hs:FewT s):∀(d k i:Nat) (c:Cur) (l:List (List Rw)),CurOk c→FewS 100 l→l.length=i→i+d=s.length→d < k→DrawnS (F58_l0 N s k c.1 c.2.1 c.2.2 l (i:Int)):=by
 have hlim:=lim_rr
 have hs10:=hs.1
 intro d
 induction d with
 | zero =>
  intro k i c l hc hl h1 h2 hk
  rw [F58_l0_s,F58_l0_b,decide_eq_false (show ¬(i:Int) < (s.length:Int) by omega),cond_false]
  exact store_j1 hN hs hc hl (by omega)
 | succ d ih =>
  intro k i c l hc hl h1 h2 hk
  have hi:i < s.length:=by omega
  rw [F58_l0_s,F58_l0_b,decide_eq_true (show (i:Int) < (s.length:Int) by omega),cond_true,gd_true (inR hi)]
  simp only [Int.toNat_natCast,getD_at hi,l01In_v,andO_of]
  have step:∀w:Int,w≤8→DrawnS (F58_j2 N (F58_l0 N s (k - 1)) c.1 c.2.1 c.2.2 l (i:Int) w):=fun w hw=>by
   obtain ⟨c1,x,e1,hc1,x0,x1,_⟩:=l01Below_v N hc (n:=5) (by omega)
   have x1:=x1 (by omega)
   obtain ⟨c2,t,e2,hc2,ht⟩:=rowsD_v hN hc1 (w:=w) (n:=x) hw (by omega)
   unfold F58_j2
   rw [show ((c.1,(c.2.1,c.2.2)):Cur)=c from rfl,e1,andO_of]
   simp only [e2,andO_of]
   rw [gd_true (by rw [List.length_singleton];omega),w6,ip1 i]
   refine ih (k - 1) (i+1) c2 _ hc2 ⟨by rw [List.length_append,List.length_singleton];omega,fun u hu=>?_⟩ (by rw [List.length_append,List.length_singleton];omega) (by omega) (by omega)
   rcases List.mem_append.1 hu with hu | hu
   ·exact hl.2 u hu
   ·rw [List.mem_singleton.1 hu];exact ht
  have hsi:=(hs.2 _ (List.getElem_mem hi)).2
  cases decide (0≤s[i].2∧s[i].2≤8) with
  | true=>exact step _ hsi
  | false=>exact step 1 (by omega)
theorem storeD_v {N:Nat} (hN:1048576 < N) {s:List Tb} (hs:FewT s) {c:Cur} (hc:CurOk c):DrawnS (F58 N c s) :=
 storeD_l hN hs s.length N 0 c [] hc ⟨by simp,fun t ht=>by cases ht⟩ rfl (by omega) (by have:=hs.1;omega)
theorem drawEval_j {N:Nat} (hN:1048576 < N) {a:List Int} (ha:a.length≤2000000) {c:Cur} (hc:CurOk c) {s:List Tb} (hs:FewT s):∃rows p,F23_j1 N a c.1 c.2.1 c.2.2 s=some (s,rows,p)∧FitsR rows∧Fits p:=by
 obtain ⟨c1,rows,e1,hc1,hr⟩:=storeD_v hN hs hc
 obtain ⟨c2,p,e2,hc2,hp⟩:=deep_v hN ha hc1
 obtain ⟨c3,b,e3,hc3⟩:=l01Once_v N hc2 (n:=4) (by omega)
 unfold F23_j1
 rw [show ((c.1,(c.2.1,c.2.2)):Cur)=c from rfl,e1,andO_of]
 simp only [e2,e3,andO_of]
 cases b with
 | false=>exact ⟨rows,p,rfl,hr.fits (by omega),hp.fits (by omega)⟩
 | true =>
  obtain ⟨c4,q,e4,hc4,hq⟩:=break_v hN hc3 hp (by omega)
  simp only [cond_true,e4,andO_of]
  exact ⟨rows,q,rfl,hr.fits (by omega),hq.fits (by omega)⟩
theorem drawEval_v {N:Nat} (hN:2000000 < N) {a:List Int} (ha:a.length≤2000000):∃s rows p,F23 N a=some (s,rows,p)∧FitsT s∧FitsR rows∧Fits p:=by
 obtain ⟨c1,e1,hc1⟩:=l01New_v (N:=N) ha hN
 obtain ⟨c2,b,e2,hc2⟩:=l01Once_v N hc1 (n:=8) (by omega)
 have h3:FewT [((⟨#[116,49]⟩:ByteArray),(2:Int)),((⟨#[116,50]⟩:ByteArray),(3:Int)),((⟨#[116,51]⟩:ByteArray),(1:Int))]:=by
  refine ⟨by simp,fun t ht=>?_⟩
  simp only [List.mem_cons,List.not_mem_nil,or_false] at ht
  rcases ht with rfl | rfl | rfl <;> decide
 unfold F23 F56
 rw [e1,andO_of,andO_of,e2,andO_of]
 cases b with
 | false =>
  obtain ⟨rows,p,e,h1,h2⟩:=drawEval_j (N:=N) (by omega) ha hc2 h3
  exact ⟨_,rows,p,e,h3.fits,h1,h2⟩
 | true =>
  obtain ⟨c3,s,e3,hc3,hs⟩:=schemaD_v (N:=N) (by omega) hc2
  obtain ⟨rows,p,e,h1,h2⟩:=drawEval_j (N:=N) (by omega) ha hc3 hs
  simp only [cond_true,e3,andO_of]
  exact ⟨s,rows,p,e,hs.fits,h1,h2⟩
end Go.Proofs.YtmkhmpcealeidaaGreat.Vc
namespace Go.Proofs.YtmkhmpcealeidaaGreat.Vc
open Go Go.RowKit
set_option linter.unusedVariables false
set_option linter.unusedSimpArgs false
theorem sameRows_l (N:Nat) (a:List Rw) (hs:a.length≤1048576) (hr:∀x∈a,x.length≤1048576) (hN:1048576 < N):∀(d k i:Nat),i+d=a.length→d < k→
  F69_l0 N a a (fun z0 z1=>F70 N z0 z1) k (a.length:Int) (i:Int)=some true:=by
 intro d
 induction d with
 | zero =>
  intro k i h hk
  rw [F69_l0_s,F69_l0_b,dF,cond_false]
  rfl
 | succ d ih =>
  intro k i h hk
  have hi:i < a.length:=by omega
  have hm:=hr _ (List.getElem_mem hi)
  rw [F69_l0_s,F69_l0_b,dT,cond_true,gd_true (inR hi),gd_true (inR hi)]
  simp only [Int.toNat_natCast,getD_at hi]
  rw [equalI_v (by omega) (by omega),andO_of,decide_eq_true rfl,Bool.not_true,cond_false,w6,ip1 i]
  exact ih (k - 1) (i+1) (by omega) (by omega)
theorem sameRows_r {N:Nat} {a:List Rw} (hs:a.length≤1048576) (hr:∀x∈a,x.length≤1048576) (hN:1048576 < N):F26 N a a=some true:=by
 have h:=sameRows_l N a hs hr hN a.length N 0 (by omega) (by omega)
 rw [z0] at h
 unfold F26 F69
 rw [bne_self_eq_false,cond_false,h,andO_of]
theorem sortRows_v {N:Nat} {a:List Rw} (hs:a.length≤200) (hr:∀x∈a,x.length≤100) (hN:1048576 < N):F31 N a=some (a.mergeSort leL):=by
 unfold F31 F75
 rw [decide_eq_false (show ¬(a.length:Int) > 200 by omega),cond_false,ownRows_v a (by omega) (fun x hx=>by have:=hr x hx;omega) (by omega),andO_of,gd_true ⟨by omega,fun x hx=>by have:=hr x hx;omega⟩,andO_of]
theorem sorted_again (a:List Rw):(a.mergeSort leL).mergeSort leL=a.mergeSort leL :=
 List.mergeSort_of_pairwise (List.pairwise_mergeSort leL_trans leL_total a)
theorem mean_j0 {N:Nat} {a:List Rw} (hs:a.length≤200) (hr:∀x∈a,x.length≤100) (hN:1048576 < N):F4_j0 N a=some true:=by
 have hl:(a.mergeSort leL).length=a.length:=List.length_mergeSort _
 have hm:∀x∈a.mergeSort leL,x.length≤100:=fun x hx=>hr x (List.mem_mergeSort.1 hx)
 have h1:=sortRows_v hs hr hN
 have h2:=sortRows_v (N:=N) (a:=a.mergeSort leL) (by omega) hm hN
 rw [sorted_again] at h2
 have h3:=sameRows_r (N:=N) (a:=a.mergeSort leL) (by omega) (fun x hx=>by have:=hm x hx;omega) hN
 unfold F4_j0 F32
 rw [h1,andO_of,hl,decide_eq_true (show (a.length:Int)≤200 by omega),cond_true,cond_true]
 simp only [h2,andO_of,h3,cond_true,beq_self_eq_true]
theorem mean_l0 {N:Nat} {s:List Tb} {rows:List (List Rw)} {p:List Nd} {got:List Rw} (hs:TabW s) (hst:StP s rows) (h:Tr p) (hN:1048576 < N) (hw:0≤W s p 0) (ht:(E s rows p 0).2=true) (hf:Fits p) (hp:F54 N p=some true) (q:List Int) (hq:q.length=p.length) (hqa:∀j (hj:j < q.length),q[j]=(szE s rows p j:Int)):∀(d k i:Nat),i+d=p.length→d < k→
  F4_l0 N p got q k (i:Int)=F4_j0 N got:=by
 have hpl:=h.len
 intro d
 induction d with
 | zero =>
  intro k i hh hk
  rw [F4_l0_s,F4_l0_b,dF,cond_false]
 | succ d ih =>
  intro k i hh hk
  have hi:i < p.length:=by omega
  have hi':i < q.length:=by omega
  obtain ⟨z1,z2,z3⟩:=sizes_k hs hst h hN hw ht hi
  have hk7:=kind_of (h.at hi)
  have hkl:=kids_len h hi
  have hkm:∀c∈kids p i,c < q.length∧szE s rows p c≤40000:=fun c hc=>by
   have:=kids_mem h hi hc
   exact ⟨by omega,szE_le hs hst h hN this.2 (allW hs h hN hw this.2)⟩
  have nxt:F4_j1 N (F4_l0 N p got q (k - 1)) (i:Int)=F4_j0 N got:=by
   rw [F4_j1,w6,ip1 i]
   exact ih (k - 1) (i+1) (by omega) (by omega)
  rw [F4_l0_s,F4_l0_b,dT,cond_true,childrenS_v hf h hN hp hi,andO_of,gd_true (inR hi)]
  simp only [Int.toNat_natCast,getD_at hi,gd_true hi]
  rw [getD_at hi] at z1 z2 z3 hk7 hkl
  generalize p[i].1=kd at z1 z2 z3 hk7 hkl ⊢
  generalize F4_l0 N p got q (k - 1)=nx at nxt ⊢
  generalize kids p i=K at z1 z2 z3 hkl hkm ⊢
  have hcase:kd=0∨kd=1∨kd=2∨kd=3∨kd=4∨kd=5∨kd=6∨kd=7:=by omega
  have one:arN kd=1→∃c:Nat,K=[c]:=fun e=>by
   rw [e] at hkl
   obtain ⟨c,hc⟩:=List.length_eq_one_iff.1 hkl
   exact ⟨c,hc⟩
  rcases hcase with e | e | e | e | e | e | e | e
  ·simp only [e,F4_j3,F4_j2,show ((0:Int) == 1)=false from rfl,show ((0:Int) == 7)=false from rfl,show ((0:Int) == 6)=false from rfl,show ((0:Int) == 5)=false from rfl,show ((0:Int) == 2)=false from rfl,show ((0:Int) == 4)=false from rfl,cond_false,nxt]
  ·obtain ⟨c,rfl⟩:=one (by rw [e];rfl)
   obtain ⟨hc,hcm⟩:=hkm c List.mem_cons_self
   have z:=z1 (.inl e)
   rw [List.getD_cons_zero] at z
   simp only [e,List.map_cons,List.map_nil,F4_j3,beq_self_eq_true,cond_true,gd_true (inR hi'),Int.toNat_natCast,gd_true hi',gd_true in0,gd_true lt0,gt0,gd_true (inR hc),gd_true hc,getD_at hi',getD_at hc,hqa]
   rw [decide_eq_false (by omega),cond_false,nxt]
  ·obtain ⟨c,rfl⟩:=one (by rw [e];rfl)
   obtain ⟨hc,hcm⟩:=hkm c List.mem_cons_self
   have z:=z2 (.inr e)
   rw [List.getD_cons_zero] at z
   simp only [e,List.map_cons,List.map_nil,F4_j3,F4_j2,show ((2:Int) == 1)=false from rfl,show ((2:Int) == 7)=false from rfl,show ((2:Int) == 6)=false from rfl,show ((2:Int) == 5)=false from rfl,beq_self_eq_true,cond_false,cond_true,gd_true (inR hi'),Int.toNat_natCast,gd_true hi',gd_true in0,gd_true lt0,gt0,gd_true (inR hc),gd_true hc,getD_at hi',getD_at hc,hqa,z,bne_self_eq_false,nxt]
  ·simp only [e,F4_j3,F4_j2,show ((3:Int) == 1)=false from rfl,show ((3:Int) == 7)=false from rfl,show ((3:Int) == 6)=false from rfl,show ((3:Int) == 5)=false from rfl,show ((3:Int) == 2)=false from rfl,show ((3:Int) == 4)=false from rfl,cond_false,nxt]
  ·have hK:∃c d:Nat,K=[c,d]:=by
    rw [e] at hkl
    match K,hkl with
    | [c,d],_=>exact ⟨c,d,rfl⟩
   obtain ⟨c,d',rfl⟩:=hK
   obtain ⟨hc,hcm⟩:=hkm c List.mem_cons_self
   obtain ⟨hd,hdm⟩:=hkm d' (by simp)
   have z:=z3 e
   rw [List.getD_cons_zero,List.getD_cons_succ,List.getD_cons_zero] at z
   simp only [e,List.map_cons,List.map_nil,F4_j3,F4_j2,show ((4:Int) == 1)=false from rfl,show ((4:Int) == 7)=false from rfl,show ((4:Int) == 6)=false from rfl,show ((4:Int) == 5)=false from rfl,show ((4:Int) == 2)=false from rfl,beq_self_eq_true,cond_false,cond_true,gd_true (inR hi'),Int.toNat_natCast,gd_true hi',gd_true in0,gd_true lt0,gt0,gd_true in1,gd_true lt1,gt1,gd_true (inR hc),gd_true hc,gd_true (inR hd),gd_true hd,getD_at hi',getD_at hc,getD_at hd,hqa]
   rw [w6,z,show (((szE s rows p c+szE s rows p d':Nat)):Int)=(szE s rows p c:Int)+(szE s rows p d':Int) by omega,bne_self_eq_false,cond_false,nxt]
  ·obtain ⟨c,rfl⟩:=one (by rw [e];rfl)
   obtain ⟨hc,hcm⟩:=hkm c List.mem_cons_self
   have z:=z2 (.inl e)
   rw [List.getD_cons_zero] at z
   simp only [e,List.map_cons,List.map_nil,F4_j3,F4_j2,show ((5:Int) == 1)=false from rfl,show ((5:Int) == 7)=false from rfl,show ((5:Int) == 6)=false from rfl,beq_self_eq_true,cond_false,cond_true,gd_true (inR hi'),Int.toNat_natCast,gd_true hi',gd_true in0,gd_true lt0,gt0,gd_true (inR hc),gd_true hc,getD_at hi',getD_at hc,hqa,z,bne_self_eq_false,nxt]
  ·obtain ⟨c,rfl⟩:=one (by rw [e];rfl)
   obtain ⟨hc,hcm⟩:=hkm c List.mem_cons_self
   have z:=z1 (.inr (.inr e))
   rw [List.getD_cons_zero] at z
   simp only [e,List.map_cons,List.map_nil,F4_j3,show ((6:Int) == 1)=false from rfl,show ((6:Int) == 7)=false from rfl,beq_self_eq_true,cond_false,cond_true,gd_true (inR hi'),Int.toNat_natCast,gd_true hi',gd_true in0,gd_true lt0,gt0,gd_true (inR hc),gd_true hc,getD_at hi',getD_at hc,hqa]
   rw [decide_eq_false (by omega),cond_false,nxt]
  ·obtain ⟨c,rfl⟩:=one (by rw [e];rfl)
   obtain ⟨hc,hcm⟩:=hkm c List.mem_cons_self
   have z:=z1 (.inr (.inl e))
   rw [List.getD_cons_zero] at z
   simp only [e,List.map_cons,List.map_nil,F4_j3,show ((7:Int) == 1)=false from rfl,beq_self_eq_true,cond_false,cond_true,gd_true (inR hi'),Int.toNat_natCast,gd_true hi',gd_true in0,gd_true lt0,gt0,gd_true (inR hc),gd_true hc,getD_at hi',getD_at hc,hqa]
   rw [decide_eq_false (by omega),cond_false,nxt]
theorem mean_l1 (N:Nat) (w:Int) (s:List Tb) (rows:List (List Rw)) (p:List Nd) (got:List Rw) (hl:got.length≤200) (ho:Of w got):∀(d k i:Nat),i+d=got.length→d < k→
  F4_l1 N w k s rows p got (i:Int)=F4_j4 N s rows p got:=by
 intro d
 induction d with
 | zero =>
  intro k i hh hk
  rw [F4_l1_s,F4_l1_b,dF,cond_false]
 | succ d ih =>
  intro k i hh hk
  have hi:i < got.length:=by omega
  rw [F4_l1_s,F4_l1_b,dT,cond_true,gd_true (inR hi)]
  simp only [Int.toNat_natCast,gd_true hi,getD_at hi]
  rw [ho _ (List.getElem_mem hi),bne_self_eq_false,cond_false,w6,ip1 i]
  exact ih (k - 1) (i+1) (by omega) (by omega)
theorem lawFnMeaning (a:List Int) (h:(Ty.sl (.int .u8)).wf a):∃N,F4 N a=some true:=by
 refine ⟨3000000,?_⟩
 unfold F4 F5
 rw [andO_of]
 by_cases hl:(a.length:Int) > 1048576
 ·rw [decide_eq_true hl,cond_true]
 ·obtain ⟨s,rows,p,e1,hfs,hfr,hf⟩:=drawEval_v (N:=3000000) (a:=a) (by omega) (by omega)
  have hN:1048576 < 3000000:=by omega
  obtain ⟨r,e2,e3,e4⟩:=evalPlan_w hfs hfr hf hN
  rw [decide_eq_false hl,cond_false,e1,andO_of]
  simp only [e2,e3,andO_of,bne_self_eq_false,cond_false]
  rcases e4 with ⟨h1,h2⟩ | ⟨h1,hs,hst,ht,hw,hwo,hpo,hb,hr,hof,hlen,hw64⟩
  ·have hnil:=sameRows_r (N:=3000000) (a:=[]) (by simp) (fun x hx=>by cases hx) hN
   rw [h2,hnil,andO_of,Bool.not_true,cond_false,show (r.2 != (0:Int))=true by simp [h1],cond_true]
   rfl
  ·have hrow:∀x∈r.1,x.length≤100:=fun x hx=>by have:=hof x hx;omega
   have hsame:=sameRows_r (N:=3000000) (a:=r.1) (by omega) (fun x hx=>by have:=hrow x hx;omega) hN
   have hp:=ht.len
   have h0:0 < p.length:=by have:=(en_le p 10 0 _ ht.whole).1;omega
   have k1:F28 3000000 s rows p=some (szL s rows p 0 p.length):=by
    unfold F28
    rw [e2,andO_of,show (r.2 != (0:Int))=false by rw [h1];rfl,cond_false]
    have:=iSizes_l hs hst ht hN hw p.length 3000000 0 [] (by omega) (by omega) (by simp)
    rw [List.nil_append] at this
    exact this
   have k2:F29 3000000 s rows p=some (szL s rows p 0 p.length):=by
    unfold F29
    rw [e3,andO_of,show (r.2 != (0:Int))=false by rw [h1];rfl,cond_false]
    have:=sSizes_l hs hst ht hN hw p.length 3000000 0 [] (by omega) (by omega) (by simp)
    rw [List.nil_append] at this
    exact this
   have hq:(szL s rows p 0 p.length).length=p.length:=szL_len _ _
   have hqa:∀j (hj:j < (szL s rows p 0 p.length).length),(szL s rows p 0 p.length)[j]=(szE s rows p j:Int):=fun j hj=>by
    have:=szL_get (s:=s) (rows:=rows) (p:=p) p.length 0 j (by omega)
    rw [getD_at hj,Nat.zero_add] at this
    exact this
   generalize szL s rows p 0 p.length=q at k1 k2 hq hqa
   have hq0:0 < q.length:=by omega
   have k3:=same_r (N:=3000000) (a:=q) (by omega) (by omega)
   have k4:=mean_l1 3000000 (W s p 0) s rows p r.1 hlen hof r.1.length 3000000 0 (by omega) (by omega)
   have k5:=mean_l0 (got:=r.1) hs hst ht hN hw hb hf hpo q hq hqa p.length 3000000 0 (by omega) (by omega)
   rw [z0] at k4 k5
   rw [hsame,andO_of,Bool.not_true,cond_false,show (r.2 != (0:Int))=false by rw [h1];rfl,cond_false,hwo,andO_of,k4,F4_j4,k1,andO_of,hq,bne_self_eq_false,cond_false,k2,andO_of,k3,andO_of,Bool.not_true,cond_false,gd_true (by simp only [InR];omega),gd_true (show (0:Int).toNat < p.length from h0),show (0:Int).toNat=0 from rfl,getD_at hq0,hqa,szE,hr,bne_self_eq_false,cond_false]
   rw [hr] at k5
   rw [k5]
   exact mean_j0 (by rw [←hr];exact hlen) (by rw [←hr];exact hrow) hN
end Go.Proofs.YtmkhmpcealeidaaGreat.Vc
