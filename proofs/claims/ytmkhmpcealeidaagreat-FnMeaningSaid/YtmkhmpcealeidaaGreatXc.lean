/- A calculus of values over the model: what a walk keeps as plain values, and the rules for the forms of code. It speaks of any program. -/
import Derived.Test.YtmkhmpcealeidaaGreatXb
import Derived.Shelf.SlSortCmp.Whole1
import Derived.Lib.Small
import Derived.WalkKit
import Derived.Deep.LoopGhost
import Derived.Lib.Walk
namespace Go.Proofs.YtmkhmpcealeidaaGreat.Vc
open Go Go.RowKit
set_option linter.unusedVariables false
set_option linter.unusedSimpArgs false
def hdE (E:Env) (id b0 k0 b3:Nat):Env:=⟨E.S,fun c=>if c=b3 then some (.id id, .inside b0 k0) else if E.κ c=some (.id id, .inside b0 k0) then none else E.κ c⟩
section
variable {P:Program} {T:Tab} {n:Nat} {w0:World} {E0:Env0} {s s' s'':St} {ops:Array Oper} {Q:Exit→St→Prop} {rest:List Oper}
variable {w w':World} {E E':Env} {μ μ':Nat→Value} {H H':Heap}
theorem indexAt_any (hT:TabOk P T) {t:TypeId} {e:Ty} (h:elemIs T t e=true) {b o len cap:Nat} {kk:IntKind} {z:Int} (h0:0≤z) (h1:z < (len:Int)) (w:World) :
  (Instr.indexAt t (.slice (some ⟨b,o,none⟩) len cap) (.int kk z)).run P w= .ok (.pointer (some ⟨b,o+z.toNat*e.lv,none⟩)) w:=by
 obtain ⟨ti,ej,_,_,hu,he,hej⟩:=elemIs_under hT h
 have htiny:(match (TypeDesc.slice ti.elem:TypeDesc) with | .array .. =>true | _=>false)=false:=rfl
 simp [Instr.indexAt,asIntOf,run_underlying hu,h0,h1,hT.size he,add_at,hej]
theorem fieldAt_any (hT:TabOk P T) {t:TypeId} {f o:Nat} (ho:offOf T t f=some o) (b q:Nat) (w:World):(Instr.fieldAt t (.pointer (some ⟨b,q,none⟩)) f).run P w= .ok (.pointer (some ⟨b,q+o,none⟩)) w:=by
 unfold offOf at ho
 split at ho
 ·rename_i ti hi
  split at ho
  ·rename_i a c hty
   have hu:=(hT t ti hi).under
   rw [hty] at hu
   obtain ⟨fs,h1,h2,_⟩:=hu
   obtain ⟨fl,info',h3,h4,h5,h6⟩:=h2 f o ho
   simp only [Instr.fieldAt,Sem.run_bind,run_underlying h1,Result.andThen_ok,h3,Instr.sureAddr,Sem.run_pure,fieldPlace,run_sizeOf' h5,if_neg h6,h4,add_at]
  ·simp at ho
 ·simp at ho
theorem hdr_mr (hM:MR w E μ H 0) {id cur i j b0:Nat} {e:Ty} {xs:List e.den} (hH:H[id]? =some (some (.arr cur e xs .dp))) (hi:i < xs.length) {t':Ty} {ys ys':List t'.den} {x':e.den} {c0:Nat} {arr0 arr4:Array Value} {ty0:TypeId}
  (hμ:μ id= .slice (some ⟨b0,0,none⟩) xs.length c0) (hcap:xs.length≤c0) (hheap:w.heap[b0]? =some (.cells arr0 ty0 (0,0))) (hsz:arr0.size=c0*e.lv) (hκ0:E.κ b0=some (.id id, .top))
  (hrows:∀i (h:i < xs.length),Rep w E (.id id) e xs[i] .dp (fun j=> .inside b0 (i*e.lv+j)) (fun j=>cellAt w b0 (i*e.lv+j)))
  (hj:j < e.lv) (hget:(leafs e xs[i] .fz)[j]? =some (.v (.sl t') ys)) (hset:setLf e xs[i] j (.v (.sl t') ys') .fz=some x') {b3:Nat} {y3:Value}
  (hos:w'.os=w.os) (htp:w'.tape=w.tape) (hout:w'.output=w.output) (hle:w.heap.size≤w'.heap.size) (hb30:b3≠b0) (hb3:E.κ b3=some (.id id, .inside b0 (i*e.lv+j))∨w.heap.size≤b3) (hb3l:b3 < w'.heap.size)
  (hb0:w'.heap[b0]? =some (.cells arr4 ty0 (0,0))) (hsz4:arr4.size=arr0.size) (hcell:∀q,q≠i*e.lv+j→arr4[q]? =arr0[q]?) (hcellk:arr4[i*e.lv+j]? =some y3) (hoth:∀c,c < w.heap.size→c≠b0→c≠b3→w'.heap[c]? =w.heap[c]?)
  (hnew:Rep w' (hdE E id b0 (i*e.lv+j) b3) (.id id) (.sl t') ys' .dp (fun _=> .inside b0 (i*e.lv+j)) (at0 y3)) :
  MR w' (hdE E id b0 (i*e.lv+j) b3) μ (H.set id (some (.arr cur e (xs.set i x') .dp))) 0∧Ext w E w' (hdE E id b0 (i*e.lv+j) b3)∧(∀b,E.S b→(hdE E id b0 (i*e.lv+j) b3).S b∧w'.heap[b]? =w.heap[b]?)∧KpH μ μ H (H.set id (some (.arr cur e (xs.set i x') .dp))):=by
 have hidlt:id < H.length:=(List.getElem?_eq_some_iff.1 hH).1
 have hb3n:∀c,c < w.heap.size→E.κ c≠some (.id id, .inside b0 (i*e.lv+j))→c≠b3:=by
  intro c hc hk e
  subst e
  rcases hb3 with h | h
  ·exact hk h
  ·omega
 have hSne:∀c,E.S c→c≠b0∧c≠b3:=fun c hc=>by
  have hk:=hM.apart c hc
  refine ⟨fun e=>?_,hb3n c (hM.ltS c hc) (by rw [hk];simp)⟩
  subst e
  rw [hκ0] at hk
  simp at hk
 have hS:∀b,E.S b→(hdE E id b0 (i*e.lv+j) b3).S b∧w'.heap[b]? =w.heap[b]? :=fun b hb=>⟨hb,hoth b (hM.ltS b hb) (hSne b hb).1 (hSne b hb).2⟩
 have hkeep:∀c r q,E.κ c=some (r,q)→(r,q)≠(.id id, .inside b0 (i*e.lv+j))→(hdE E id b0 (i*e.lv+j) b3).κ c=some (r,q)∧c≠b3:=by
  intro c r q hc hne
  have h3:c≠b3:=hb3n c (hM.ltκ c (by simp [hc])) (by rw [hc];simpa using hne)
  refine ⟨?_,h3⟩
  simp only [hdE,if_neg h3,hc]
  rw [if_neg (by simpa using hne)]
 have hnone:∀c,E.κ c=none→c≠b3→(hdE E id b0 (i*e.lv+j) b3).κ c=none:=by
  intro c hc h3
  simp only [hdE,if_neg h3,hc]
  simp
 have hK:KpH μ μ H (H.set id (some (.arr cur e (xs.set i x') .dp))):=by
  intro q c hc
  by_cases hq:q=id
  ·subst hq
   rw [hH] at hc
   simp only [Option.some.injEq] at hc
   subst hc
   exact ⟨_,List.getElem?_set_self hidlt, .inr ⟨rfl,rfl,by simp,rfl⟩⟩
  ·exact ⟨c,by rw [List.getElem?_set_ne (Ne.symm hq)];exact hc,Kp.refl _ _⟩
 -- positions that stay
 let A:Pos→Prop:=fun p=>∃b k,p= .inside b k∧¬(b=b0∧k=i*e.lv+j)
 have hκA:∀b q,A q→E.κ b=some (.id id,q)→(hdE E id b0 (i*e.lv+j) b3).κ b=some (.id id,q)∧w'.heap[b]? =w.heap[b]?∧∀k,A (.inside b k):=by
  rintro b q ⟨b',k',rfl,hne⟩ hb
  have hb0':b≠b0:=by
   intro e
   subst e
   rw [hκ0] at hb
   simp at hb
  obtain ⟨h1,h2⟩:=hkeep b _ _ hb (by
   intro e
   simp only [Prod.mk.injEq,true_and,Pos.inside.injEq] at e
   exact hne e)
  exact ⟨h1,hoth b (hM.ltκ b (by simp [hb])) hb0' h2,fun k=>⟨b,k,rfl,fun h=>hb0' h.1⟩⟩
 have hcw:∀q,cellAt w' b0 q=arr4[q]? :=fun q=>by simp only [cellAt,World.cell?,hb0,Option.isSome_none,Bool.false_eq_true,if_false]
 have hcw0:∀q,cellAt w b0 q=arr0[q]? :=fun q=>by simp only [cellAt,World.cell?,hheap,Option.isSome_none,Bool.false_eq_true,if_false]
 have hsame:∀q,q≠i*e.lv+j→∀v,cellAt w b0 q=some v→cellAt w' b0 q=some v:=fun q hq v hv=>by rw [hcw,hcell q hq,←hcw0];exact hv
 have hMR:MR w' (hdE E id b0 (i*e.lv+j) b3) μ (H.set id (some (.arr cur e (xs.set i x') .dp))) 0:=by
  refine MR.step hM (fun c hc=>hnone c (hM.apart c hc) (hSne c hc).2) (fun c hc=>Nat.lt_of_lt_of_le (hM.ltS c hc) hle) (fun c hc=>?_) (fun c r q hc=>?_) hS hK (fun q blk hq=>?_)
  ·by_cases h3:c=b3
   ·rw [h3];exact hb3l
   ·cases hE:E.κ c with
    | none=>exact absurd (hnone c hE h3) hc
    | some x=>exact Nat.lt_of_lt_of_le (hM.ltκ c (by simp [hE])) hle
  ·simp only [hdE] at hc
   split at hc
   ·simp only [Option.some.injEq,Prod.mk.injEq] at hc
    exact .inl ⟨id,hc.1.symm,by simpa using hidlt⟩
   ·split at hc
    ·simp at hc
    ·simpa using hM.roots c r q hc
  ·by_cases hid:q=id
   ·subst hid
    rw [List.getElem?_set_self hidlt] at hq
    simp only [Option.some.injEq] at hq
    subst hq
    refine .inr ⟨by simp,?_⟩
    have hk0:(hdE E q b0 (i*e.lv+j) b3).κ b0=some (.id q, .top):=(hkeep b0 _ _ hκ0 (by simp)).1
    refine ⟨μ q,by simp only [at0,if_true], .inr ⟨by simp, .inr ⟨b0,c0,arr4,ty0,by rw [List.length_set];exact hμ,by rw [List.length_set];exact hcap,hb0,by rw [hsz4];exact hsz,hk0,fun r hr0=>?_⟩⟩⟩
    have hr:r < xs.length:=by simpa using hr0
    by_cases hri:r=i
    ·subst hri
     have hx:(xs.set r x')[r]'hr0=x':=by simp
     rw [hx]
     refine leaf_set A hS hκA e xs[r] j t' ys ys' x' _ _ _ hget hset (fun k hk hkj=>⟨b0,_,rfl,fun h=>hkj (by omega)⟩) (fun k v hk hkj hv=>hsame _ (by omega) v hv) (hrows r hr) ?_
     obtain ⟨v,hv,hrep⟩:=hnew
     simp only [at0,if_true,Option.some.injEq] at hv
     subst hv
     refine ⟨y3,?_,?_⟩
     ·show cellAt w' b0 (r*e.lv+(0+j))=some y3
      rw [Nat.zero_add,hcw]
      exact hcellk
     ·simp only [Nat.zero_add]
      exact hrep
    ·have hx:(xs.set i x')[r]'(by simpa using hr)=xs[r]:=by simp [List.getElem_set,Ne.symm hri]
     rw [hx]
     have hne:∀k,k < e.lv→r*e.lv+k≠i*e.lv+j:=by
      intro k hk h
      have h1:(r*e.lv+k) / e.lv=r:=by rw [Nat.mul_comm,Nat.mul_add_div (lv_pos e),Nat.div_eq_of_lt hk,Nat.add_zero]
      have h2:(i*e.lv+j) / e.lv=i:=by rw [Nat.mul_comm,Nat.mul_add_div (lv_pos e),Nat.div_eq_of_lt hj,Nat.add_zero]
      rw [h,h2] at h1
      exact hri h1.symm
     exact Rep.stay A hS hκA (fun k hk=>⟨b0,_,rfl,fun h=>hne k hk h.2⟩) (fun k v hk hv=>hsame _ (hne k hk) v hv) (hrows r hr)
   ·rw [List.getElem?_set_ne (Ne.symm hid)] at hq
    refine .inl ⟨hq,rfl,fun b p hb=>?_⟩
    obtain ⟨h1,h2⟩:=hkeep b _ _ hb (by simp [hid])
    refine ⟨h1,hoth b (hM.ltκ b (by simp [hb])) (fun e=>?_) h2⟩
    subst e
    rw [hκ0] at hb
    simp only [Option.some.injEq,Prod.mk.injEq,Root.id.injEq] at hb
    exact hid hb.1.symm
 refine ⟨hMR,⟨hos,htp,hout,hle,fun b hb hn=>?_,fun b hb=>hb,fun b hb=> .inl hb,fun b hb=>?_⟩,hS,hK⟩
 ·refine hoth b hb (fun e=>?_) (hb3n b hb (by rw [hn];simp))
  subst e
  rw [hκ0] at hn
  simp at hn
 ·by_cases h3:b=b3
  ·subst h3
   rcases hb3 with h | h
   ·exact .inl (by simp [h])
   ·exact .inr h
  ·cases hE:E.κ b with
   | none=>exact absurd (hnone b hE h3) hb
   | some x=>exact .inl (by simp)
theorem app_one {k:IntKind} {ti:TI} {t:TypeId} (hT:TabOk P T) (he:elemTy T t=some (ti, .int k)) (rt:TypeId) {w:World} {r:Root} {ys:List Int} {p:Nat→Pos} {g:Nat→Option Value} {y:Value} (hr:Rep w E r (.sl (.int k)) ys .dp p g) (hy:g 0=some y) {c:Int} {ga:Nat}
  (hga:ga < w.heap.size) (hgc:w.heap[ga]? =some (.cells #[.int k c] ti.elem (0,0))) (hl:ys.length+1≤lim (.int k)) :
  ∃b3 cap3 arr3 ty3 w3,(Builtin.append_ #[t,t] rt #[y, .slice (some ⟨ga,0,none⟩) 1 1]).run P w= .ok (.slice (some ⟨b3,0,none⟩) (ys.length+1) cap3) w3∧ys.length+1≤cap3∧
   w3.heap[b3]? =some (.cells arr3 ty3 (0,0))∧arr3.size=cap3∧(∀q (h:q < (ys++[c]).length),arr3[q]? =some (.int k (ys++[c])[q]))∧w3.os=w.os∧w3.tape=w.tape∧w3.output=w.output∧w.heap.size≤w3.heap.size∧b3 < w3.heap.size∧
   (∀c,c < w.heap.size→c≠b3→w3.heap[c]? =w.heap[c]?)∧(E.κ b3=some (r,p 0)∨w.heap.size≤b3):=by
 obtain ⟨f1,ej,f2,f3⟩:=elemTy_under hT he
 obtain ⟨info,g1,g2,g3,_,g5,g6⟩:=(hT _ _ f2).info
 rw [f3] at g2 g3 g6
 obtain ⟨z,hz,hz'⟩:=Option.map_eq_some_iff.1 g3
 have hlv:(Ty.int k).lv=1:=rfl
 have hzs:z.cells.size=1:=by rw [←Array.length_toList,hz',zeros_length];rfl
 have hlim0:lim (.int k)≤140737488355328:=Nat.div_le_self _ _
 have hfit:(ys.length+1)*info.bytes≤140737488355328:=by
  have a2:lim (.int k)*(24*(Ty.int k).lv)≤140737488355328:=Nat.div_mul_le_self _ _
  have a3:(ys.length+1)*info.bytes≤lim (.int k)*(24*(Ty.int k).lv):=Nat.mul_le_mul hl (by omega)
  omega
 obtain ⟨v,hv,hr⟩:=hr
 rw [hy] at hv
 simp only [Option.some.injEq] at hv
 subst hv
 obtain ⟨base,sCap,ty,b1,b2,b4⟩:∃(base:Option Addr) (sCap:Nat) (ty:TypeId),y= .slice base ys.length sCap∧ys.length≤sCap∧
   ((sCap=0∧ys.map (Value.int k)=[])∨∃g cur,base=some ⟨g,0,none⟩∧w.heap[g]? =some (.cells cur ty (0,0))∧cur.size=sCap∧(∀(j:Nat) v,(ys.map (Value.int k))[j]? =some v→cur[j]? =some v)∧E.κ g=some (r,p 0)):=by
  rcases hr with ⟨h,_⟩ | ⟨_,⟨rfl,a,rfl⟩ | ⟨b,c',arr,ty,rfl,h2,h3,h4,h5,h6⟩⟩
  ·cases h
  ·exact ⟨a,0,0,rfl,by simp, .inl ⟨rfl,rfl⟩⟩
  ·rw [hlv,Nat.mul_one] at h4
   refine ⟨some ⟨b,0,none⟩,c',ty,rfl,h2, .inr ⟨b,arr,rfl,h3,h4,fun j v hv=>?_,h5⟩⟩
   rw [List.getElem?_map,Option.map_eq_some_iff] at hv
   obtain ⟨x,hx,rfl⟩:=hv
   obtain ⟨hj,rfl⟩:=List.getElem?_eq_some_iff.1 hx
   have:=h6 j hj
   simp only [Rep,hlv,Nat.mul_one,Nat.add_zero,cellAt,World.cell?,h3,Option.isSome_none,Bool.false_eq_true,if_false] at this
   exact this
 subst b1
 have hnews:∀(j:Nat) v,([Value.int k c]:List Value)[j]? =some v→w.cell? ((⟨ga,0,none⟩:Addr).add j)=some v:=by
  intro j v hv
  cases j with
  | zero =>
   simp only [List.getElem?_cons_zero,Option.some.injEq] at hv
   subst hv
   rw [add_at]
   simp [World.cell?,hgc]
  | succ j=>simp at hv
 obtain ⟨y',w',hrun,hcase⟩:=append_run (P:=P) (w:=w) (ty:=ty) (ti:=ti) f1 g1 hz (lv:=1) g2 hzs (by omega) rt (base:=base) (sLen:=ys.length) (sCap:=sCap) (olds:=ys.map (Value.int k)) (by simp) b2
  (b4.imp id (fun ⟨g,cur,h1,h2,h3,h4,_⟩=>⟨g,cur,h1,h2,by rw [h3,Nat.mul_one],fun j v hv=>by rw [add_at,Nat.zero_add];simp only [World.cell?,h2,Option.isSome_none,Bool.false_eq_true,if_false];exact h4 j v hv⟩)) (ad:=some ⟨ga,0,none⟩) (m:=1) (c:=1) (news:=[.int k c]) (by simp)
  (fun _=>⟨_,rfl,hnews⟩) (by intro v hv;simp at hv;subst hv;rfl) (by simpa using hfit) (by omega)
 have hval:∀(arr:Array Value) (tail:List Value),arr.toList=ys.map (Value.int k)++[.int k c]++tail→∀q (h:q < (ys++[c]).length),arr[q]? =some (.int k (ys++[c])[q]):=by
  intro arr tail ha q hq
  rw [←Array.getElem?_toList,ha,List.getElem?_append_left (by simpa using hq)]
  rw [show ys.map (Value.int k)++[Value.int k c]=(ys++[c]).map (Value.int k) by simp,List.getElem?_map,List.getElem?_eq_getElem hq]
  rfl
 rcases hcase with ⟨h0,_,_⟩ | ⟨_,g,cur,hbg,hcur,hcs,hroom,rfl,rfl⟩ | ⟨_,cap',cells,hcap,rfl,rfl,hcs,tail,htail⟩
 ·omega
 ·rcases b4 with ⟨z1,z2⟩ | ⟨g',cur',p1,p2,p3,p4,p5⟩
  ·omega
  ·rw [hbg] at p1
   simp only [Option.some.injEq,Addr.mk.injEq,and_true] at p1
   subst p1
   rw [hcur] at p2
   simp only [Option.some.injEq,Obj.cells.injEq,and_true] at p2
   subst p2
   subst hbg
   have hgs:g < w.heap.size:=(Array.getElem?_eq_some_iff.1 hcur).1
   have hol:(cur.toList.take (ys.length*1))=ys.map (Value.int k):=by
    refine List.ext_getElem? fun q=>?_
    rw [List.getElem?_take,Array.getElem?_toList]
    by_cases hq:q < ys.length
    ·rw [if_pos (by omega)]
     obtain ⟨v,hv⟩:∃v,(ys.map (Value.int k))[q]? =some v:=⟨_,List.getElem?_eq_getElem (by simpa using hq)⟩
     rw [hv,p4 q v hv]
    ·rw [if_neg (by omega),List.getElem?_eq_none (by simpa using hq)]
   rw [hol] at hrun
   refine ⟨g,sCap,_,ty,_,hrun,hroom,setRow_this w g cur _ ty _ hcur,?_,hval _ (cur.toList.drop (ys.length*1+1)) (by simp),rfl,rfl,rfl,by simp,by simpa using hgs,fun c hc hne=>setRow_other w g c _ hne, .inl p5⟩
   simp only [List.size_toArray,List.length_append,List.length_drop,Array.length_toList,List.length_map,List.length_singleton,Nat.mul_one]
   omega
 ·have hnew:(w.drew.alloc (.cells cells ti.elem)).heap[w.heap.size]? =some (.cells cells ti.elem (0,0)):=by rw [drew_alloc_heap];simp
  have hnsz:(w.drew.alloc (.cells cells ti.elem)).heap.size=w.heap.size+1:=by rw [drew_alloc_heap];simp
  exact ⟨w.heap.size,cap',cells,ti.elem,_,hrun,hcap,hnew,by rw [hcs,Nat.mul_one],hval _ _ htail,rfl,rfl,rfl,by rw [hnsz];omega,by rw [hnsz];omega,fun c hc _=>alloc_old w.drew _ hc, .inr (Nat.le_refl _)⟩
theorem setRow_len (w:World) (g:Nat) (arr:Array Value):(w.setRow g arr).heap.size=w.heap.size:=by simp [World.setRow]
theorem At.any {a:Act} (hA:At n w0 E0 s a w E μ) {d:Nat} {y:Value} (hd:d < n) (hy:y.oneCell'=true):At n w0 E0 ⟨(d, .lf .any)::s.sl,s.H⟩ (a.put (some d) y) w E μ :=
 hA.put hd hA.mr (Ext.refl w E) (fun b hb=>⟨hb,rfl⟩) (KpH.refl μ s.H) hy
theorem eval_put {a:Act} {d d':Nat} {y:Value} (h:d < a.tmps.size):(a.put (some d) y).eval (.tmp d')=if d'=d then y else a.eval (.tmp d'):=by
 by_cases hd:d'=d
 ·subst hd
  simp [Act.eval,Act.put,Array.getD_eq_getD_getElem?,Array.getElem?_setIfInBounds,h]
 ·simp [Act.eval,Act.put,Array.getD_eq_getD_getElem?,Array.getElem?_setIfInBounds,Ne.symm hd,hd]
theorem VO.colApp (hT:TabOk P T) {o1 o2 o3 o4 o5 o6:Oper} {t ts tf:TypeId} {ti:TI} {ad x xi:Operand} {cl:Call} {parts:Array (Nat×Operand)} {d1 d2 d3 d4 d5 id cur i j fld:Nat} {z c:Int} {kk k:IntKind} {e:Ty} {xs:List e.den} {ys:List Int} {x':e.den}
  (h1:o1.guard=none∧o1.dst=some d1∧o1.op= .load t ad) (h2:o2.guard=none∧o2.dst=some d2∧o2.op= .buildSlice t 1 parts) (hparts:parts= #[(0, .const (.int k c))])
  (h3:o3.guard=none∧o3.dst=some d3∧o3.op= .call cl) (hcl:cl.callee= .builtin .append∧cl.args= #[.tmp d1, .tmp d2]∧cl.argTypes= #[t,t])
  (h4:o4.guard=none∧o4.dst=some d4∧o4.op= .indexAddr ts x xi) (h5:o5.guard=none∧o5.dst=some d5∧o5.op= .fieldAddr tf (.tmp d4) fld) (h6:o6.guard=none∧o6.dst=none∧o6.op= .store t (.tmp d5) (.tmp d3))
  (hd:(Nat.blt d1 n && Nat.blt d2 n && Nat.blt d3 n && Nat.blt d4 n && Nat.blt d5 n && !Nat.beq d1 d2 && !Nat.beq d3 d4 && !Nat.beq d3 d5)=true)
  (hel:elemTy T t=some (ti, .int k)) (hes:elemIs T ts e=true) (hof:offOf T tf fld=some j)
  (had:opnd s.sl ad=some (.lf (.ptr id cur i j))) (hx:opnd ((d3, .lf .any)::(d2, .lf .any)::(d1, .lf .any)::s.sl) x=some (.lf (.hd id cur none))) (hxi:opnd ((d3, .lf .any)::(d2, .lf .any)::(d1, .lf .any)::s.sl) xi=some (.lf (.v (.int kk) z)))
  (hH:s.H[id]? =some (some (.arr cur e xs .dp))) (hget:(leafs e (xs.getD i e.dflt) .fz)[j]? =some (.v (.sl (.int k)) ys)) (hset:setLf e (xs.getD i e.dflt) j (.v (.sl (.int k)) (ys++[c])) .fz=some x')
  (hz:0≤z∧z.toNat=i) (hi:i < xs.length∧ys.length+1≤lim (.int k))
  (kont:VO P n w0 E0 ops Q rest ⟨(d5, .lf .any)::(d4, .lf .any)::(d3, .lf .any)::(d2, .lf .any)::(d1, .lf .any)::s.sl,s.H.set id (some (.arr cur e (xs.set i x') .dp))⟩):VO P n w0 E0 ops Q (o1::o2::o3::o4::o5::o6::rest) s:=by
 simp only [Bool.and_eq_true,Bool.not_eq_true'] at hd
 obtain ⟨⟨⟨⟨⟨⟨⟨n1,n2⟩,n3⟩,n4⟩,n5⟩,e12⟩,e34⟩,e35⟩:=hd
 have n1:d1 < n:=by simpa [Nat.blt_eq] using n1
 have n2:d2 < n:=by simpa [Nat.blt_eq] using n2
 have n3:d3 < n:=by simpa [Nat.blt_eq] using n3
 have n4:d4 < n:=by simpa [Nat.blt_eq] using n4
 have n5:d5 < n:=by simpa [Nat.blt_eq] using n5
 have e12:d1≠d2:=fun e=>by subst e;simp at e12
 have e34:d3≠d4:=fun e=>by subst e;simp at e34
 have e35:d3≠d5:=fun e=>by subst e;simp at e35
 obtain ⟨ti',hti,hty⟩:∃ti',T t=some ti'∧ti'.ty= .sl (.int k):=by
  unfold elemTy at hel
  split at hel
  ·rename_i i1 h1
   split at hel
   ·rename_i e' he'
    simp only [Option.some.injEq,Prod.mk.injEq] at hel
    exact ⟨i1,h1,by rw [he',hel.2]⟩
   ·simp at hel
  ·simp at hel
 intro a w hs
 obtain ⟨E,μ,hA⟩:=hs.at
 have hp:=(hA.opnd had).2
 rw [hH] at hp
 obtain ⟨b0,nn,cc,m1,m2⟩:=hp.2 rfl
 obtain ⟨_,hrow⟩:=hA.mr.arr hH
 rcases hrow with ⟨rfl,_⟩ | ⟨b0',c0,arr0,ty0,f1,f2,f3,f4,f5,f6⟩
 ·simp at hi
 rw [m1] at f1
 simp only [Value.slice.injEq,Option.some.injEq,Addr.mk.injEq,and_true] at f1
 obtain ⟨rfl,rfl,rfl⟩:=f1
 have hxx:xs.getD i e.dflt=xs[i]'hi.1:=by simp [List.getD,hi.1]
 rw [hxx] at hget hset
 have hj:j < e.lv:=by
  have:=(List.getElem?_eq_some_iff.1 hget).1
  rwa [leafs_length] at this
 have hsub:=leaf_sl e (xs[i]'hi.1) j (.int k) ys _ _ hget (f6 i hi.1)
 obtain ⟨y,hy⟩:∃y,cellAt w b0 (i*e.lv+j)=some y:=by
  obtain ⟨v,hv,_⟩:=hsub
  exact ⟨v,by simpa using hv⟩
 have hone:y.oneCell'=true:=rep_sl_one hsub (v:=y) (by simpa using hy)
 have hld:(loadVar t ⟨b0,i*e.lv+j,none⟩).run P w= .ok y w:=by
  have:=hT.loadVar hti w b0 (i*e.lv+j) [y] (by rw [hty];rfl) (fun q v hq=>by
   cases q with
   | zero=>simp only [List.getElem?_cons_zero,Option.some.injEq] at hq;subst hq;exact hy
   | succ q=>simp at hq)
  rw [hty] at this
  simpa [Ty.isPair] using this
 -- 1: the slice
 refine wpList_value (y:=y) (w':=w) h1.1 (by simp only [execOp,h1.2.2,m2,Instr.loadAt,Instr.sureAddr,Sem.run_bind,Sem.run_pure,Result.andThen_ok,hld]) ?_
 rw [h1.2.1]
 have hA1:=hA.any (y:=y) n1 hone
 have z1:a.tmps.size=n:=hA.size.1
 have z2:(a.put (some d1) y).tmps.size=n:=hA1.size.1
 -- 2: the number that comes
 obtain ⟨u1,ej,u2,u3⟩:=elemTy_under hT hel
 obtain ⟨info,g1,g2,g3,_,_,_⟩:=(hT _ _ u2).info
 rw [u3] at g2 g3
 obtain ⟨zv,hzv,hz'⟩:=Option.map_eq_some_iff.1 g3
 have g2':info.size=1:=g2
 have hrun2:(execOp (a.put (some d1) y).eval o2).run P w= .ok (.value (.slice (some ⟨w.heap.size,0,none⟩) 1 1)) (w.alloc (.cells #[.int k c] ti.elem)):=by
  have:=run_buildSlice w t ti.elem 1 (parts.map fun (i,x)=>(i,(a.put (some d1) y).eval x)) #[.int k c] info zv u1 g1 hzv (by rw [g2'];omega) (by rw [g2'];omega) (by
   have hp':(parts.map fun (i,x)=>(i,(a.put (some d1) y).eval x)).toList=([Value.int k c].zipIdx 0).map fun x=>(x.2,x.1):=by subst hparts;simp [Act.eval]
   rw [hp',g2']
   rw [Great.fill_whole (s:=1) (by omega) [Value.int k c] _ (by intro v hv;simp at hv;subst hv;rfl) (by simp)]
   simp [Value.cells])
  simp only [execOp,h2.2.2,Sem.run_bind,this,Result.andThen_ok,Sem.run_pure]
 refine wpList_value h2.1 hrun2 ?_
 rw [h2.2.1]
 have hA2:=hA1.any (y:= .slice (some ⟨w.heap.size,0,none⟩) 1 1) n2 rfl
 have z3:=hA2.size.1
 have v1:((a.put (some d1) y).put (some d2) (.slice (some ⟨w.heap.size,0,none⟩) 1 1)).eval (.tmp d1)=y:=by
  rw [eval_put (by rw [z2];exact n2),if_neg e12,eval_put (by rw [z1];exact n1),if_pos rfl]
 have v2:((a.put (some d1) y).put (some d2) (.slice (some ⟨w.heap.size,0,none⟩) 1 1)).eval (.tmp d2)= .slice (some ⟨w.heap.size,0,none⟩) 1 1:=by
  rw [eval_put (by rw [z2];exact n2),if_pos rfl]
 generalize ((a.put (some d1) y).put (some d2) (.slice (some ⟨w.heap.size,0,none⟩) 1 1))=a2 at hA2 v1 v2 z3 ⊢
 have hold1:∀c',c' < w.heap.size→(w.alloc (.cells #[.int k c] ti.elem)).heap[c']? =w.heap[c']? :=fun c' hc'=>alloc_old w _ hc'
 have hnew1:(w.alloc (.cells #[.int k c] ti.elem)).heap[w.heap.size]? =some (.cells #[.int k c] ti.elem (0,0)):=by rw [alloc_heap];simp
 have hsz1:(w.alloc (.cells #[.int k c] ti.elem)).heap.size=w.heap.size+1:=by rw [alloc_heap];simp
 -- 3: the append
 have hsub1:Rep (w.alloc (.cells #[.int k c] ti.elem)) E (.id id) (.sl (.int k)) ys .dp (fun q=> .inside b0 (i*e.lv+(q+j))) (fun q=>cellAt w b0 (i*e.lv+(q+j))) :=
  Rep.move (E:=E) (E':=E) (fun _=>True) (fun q=>q) (fun b hb=>⟨hb,hold1 b (hA.mr.ltS b hb)⟩) (fun b q _ hq=>⟨hq,hold1 b (hA.mr.ltκ b (by simp [hq])),fun _=>⟨trivial,rfl⟩⟩) (.sl (.int k)) ys .dp _ _ _ _ (fun _=>⟨fun _=>trivial,fun _=>rfl⟩) (fun _ _ _ h=>h) hsub
 obtain ⟨b3,cap3,arr3,ty3,w3,r1,r2,r3,r4,r5,r6,r7,r8,r9,r10,r11,r12⟩:=app_one hT hel o3.type hsub1 (y:=y) (by simpa using hy) (c:=c) (ga:=w.heap.size) (by rw [hsz1];omega) hnew1 hi.2
 refine wpList_value (y:= .slice (some ⟨b3,0,none⟩) (ys.length+1) cap3) (w':=w3) h3.1 (by
  simp only [execOp,h3.2.2,resolve,hcl.1,hcl.2.1,hcl.2.2,Sem.run_bind,Sem.run_pure,Result.andThen_ok,invoke,builtin]
  simp only [List.map_toArray,List.map_cons,List.map_nil,v1,v2,r1,Result.andThen_ok]) ?_
 rw [h3.2.1]
 have hA3:=hA2.any (y:= .slice (some ⟨b3,0,none⟩) (ys.length+1) cap3) n3 rfl
 have z4:=hA3.size.1
 have v3:(a2.put (some d3) (.slice (some ⟨b3,0,none⟩) (ys.length+1) cap3)).eval (.tmp d3)= .slice (some ⟨b3,0,none⟩) (ys.length+1) cap3:=by rw [eval_put (by rw [z3];exact n3),if_pos rfl]
 generalize (a2.put (some d3) (.slice (some ⟨b3,0,none⟩) (ys.length+1) cap3))=a3 at hA3 v3 z4 ⊢
 -- 4,5: the place
 have ex:a3.eval x= .slice (some ⟨b0,0,none⟩) xs.length cc:=by
  have:=(hA3.opnd hx).2
  simp only at this
  rw [hH] at this
  exact (this.2 rfl).trans m1
 have exi:a3.eval xi= .int kk z:=by
  have h:=hA3.opnd hxi
  simpa [AR,LR,Rep,at0] using h
 have hzl:z < (xs.length:Int):=by
  have:=hi.1
  omega
 have q4:=indexAt_any hT hes (b:=b0) (o:=0) (len:=xs.length) (cap:=cc) (kk:=kk) hz.1 hzl w3
 rw [hz.2,Nat.zero_add] at q4
 refine wpList_value (y:= .pointer (some ⟨b0,i*e.lv,none⟩)) (w':=w3) h4.1 (by simp only [execOp,h4.2.2,ex,exi,Sem.run_bind,Sem.run_pure,q4,Result.andThen_ok]) ?_
 rw [h4.2.1]
 have hA4:=hA3.any (y:= .pointer (some ⟨b0,i*e.lv,none⟩)) n4 rfl
 have z5:=hA4.size.1
 have v4:(a3.put (some d4) (.pointer (some ⟨b0,i*e.lv,none⟩))).eval (.tmp d4)= .pointer (some ⟨b0,i*e.lv,none⟩):=by rw [eval_put (by rw [z4];exact n4),if_pos rfl]
 have v34:(a3.put (some d4) (.pointer (some ⟨b0,i*e.lv,none⟩))).eval (.tmp d3)= .slice (some ⟨b3,0,none⟩) (ys.length+1) cap3:=by rw [eval_put (by rw [z4];exact n4),if_neg e34,v3]
 generalize (a3.put (some d4) (.pointer (some ⟨b0,i*e.lv,none⟩)))=a4 at hA4 v4 v34 z5 ⊢
 refine wpList_value (y:= .pointer (some ⟨b0,i*e.lv+j,none⟩)) (w':=w3) h5.1 (by simp only [execOp,h5.2.2,v4,Sem.run_bind,Sem.run_pure,fieldAt_any hT hof,Result.andThen_ok]) ?_
 rw [h5.2.1]
 have hA5:=hA4.any (y:= .pointer (some ⟨b0,i*e.lv+j,none⟩)) n5 rfl
 have v5:(a4.put (some d5) (.pointer (some ⟨b0,i*e.lv+j,none⟩))).eval (.tmp d5)= .pointer (some ⟨b0,i*e.lv+j,none⟩):=by rw [eval_put (by rw [z5];exact n5),if_pos rfl]
 have v35:(a4.put (some d5) (.pointer (some ⟨b0,i*e.lv+j,none⟩))).eval (.tmp d3)= .slice (some ⟨b3,0,none⟩) (ys.length+1) cap3:=by rw [eval_put (by rw [z5];exact n5),if_neg e35,v34]
 generalize (a4.put (some d5) (.pointer (some ⟨b0,i*e.lv+j,none⟩)))=a5 at hA5 v5 v35 ⊢
 -- 6: the header
 have hb0w:b0 < w.heap.size:=(Array.getElem?_eq_some_iff.1 f3).1
 have hb30:b3≠b0:=by
  intro e1
  subst e1
  rcases r12 with h | h
  ·rw [f5] at h
   simp at h
  ·omega
 have hb0w3:w3.heap[b0]? =some (.cells arr0 ty0 (0,0)):=by
  rw [r11 b0 (by omega) (Ne.symm hb30),hold1 b0 hb0w]
  exact f3
 have hkl:i*e.lv+j < arr0.size:=by
  have hmul:(i+1)*e.lv≤cc*e.lv:=Nat.mul_le_mul_right _ (by have:=hi.1;omega)
  rw [Nat.add_mul,Nat.one_mul] at hmul
  omega
 have hst:=storeVar_run hT hti (b:=b0) (o:=i*e.lv+j) hb0w3 (y:= .slice (some ⟨b3,0,none⟩) (ys.length+1) cap3) (by rw [hty];rfl) (by show i*e.lv+j+1≤arr0.size;omega) (by intro v hv;simp [Value.cells] at hv;subst hv;rfl)
 generalize hnew:(arr0.toList.take (i*e.lv+j)++(Value.slice (some ⟨b3,0,none⟩) (ys.length+1) cap3).cells.toList++arr0.toList.drop (i*e.lv+j+(Value.slice (some ⟨b3,0,none⟩) (ys.length+1) cap3).cells.size)).toArray=arr4 at hst
 have hnew':arr4=(arr0.toList.take (i*e.lv+j)++[Value.slice (some ⟨b3,0,none⟩) (ys.length+1) cap3]++arr0.toList.drop (i*e.lv+j+1)).toArray:=hnew.symm
 refine wpList_skip (w':=w3.setRow b0 arr4) h6.1 (by
  simp only [execOp,h6.2.2,Instr.storeAt,v5,v35,Instr.sureAddr,Sem.run_bind,Sem.run_pure,Result.andThen_ok,hst]) ?_
 rw [h6.2.1]
 have hthis:=setRow_this w3 b0 arr0 arr4 ty0 _ hb0w3
 have hoth:∀c',c'≠b0→(w3.setRow b0 arr4).heap[c']? =w3.heap[c']? :=fun c' hc'=>setRow_other w3 b0 c' arr4 hc'
 have hcells:∀q,arr4[q]? =if q=i*e.lv+j then some (.slice (some ⟨b3,0,none⟩) (ys.length+1) cap3) else arr0[q]? :=by
  intro q
  rw [hnew',List.getElem?_toArray,List.append_assoc,List.getElem?_append,List.length_take,Array.length_toList,Nat.min_eq_left (by omega)]
  by_cases q1:q < i*e.lv+j
  ·rw [if_pos q1,if_neg (by omega),List.getElem?_take,if_pos q1,Array.getElem?_toList]
  ·rw [if_neg q1]
   by_cases q2:q=i*e.lv+j
   ·rw [if_pos q2,q2,Nat.sub_self];rfl
   ·rw [if_neg q2,List.getElem?_append_right (by simp;omega),List.getElem?_drop,Array.getElem?_toList,List.length_singleton]
    congr 1
    omega
 have hsz4:arr4.size=arr0.size:=by
  rw [hnew']
  simp only [List.size_toArray,List.length_append,List.length_take,List.length_drop,Array.length_toList,List.length_singleton]
  omega
 have hrep:Rep (w3.setRow b0 arr4) (hdE E id b0 (i*e.lv+j) b3) (.id id) (.sl (.int k)) (ys++[c]) .dp (fun _=> .inside b0 (i*e.lv+j)) (at0 (.slice (some ⟨b3,0,none⟩) (ys.length+1) cap3)):=by
  have hb:(w3.setRow b0 arr4).heap[b3]? =some (.cells arr3 ty3 (0,0)):=by rw [hoth b3 hb30];exact r3
  refine ⟨.slice (some ⟨b3,0,none⟩) (ys.length+1) cap3,by simp only [at0,if_true], .inr ⟨by simp, .inr ⟨b3,cap3,arr3,ty3,by simp,by simpa using r2,hb,by rw [r4];exact (Nat.mul_one _).symm,by simp only [hdE,if_true],fun q hq=>?_⟩⟩⟩
  show cellAt (w3.setRow b0 arr4) b3 (q*1+0)=some (.int k (ys++[c])[q])
  rw [Nat.mul_one,Nat.add_zero]
  simp only [cellAt,World.cell?,hb,Option.isSome_none,Bool.false_eq_true,if_false]
  exact r5 q hq
 obtain ⟨p1,p2,p3,p4⟩:=hdr_mr hA.mr hH hi.1 m1 f2 f3 f4 f5 f6 hj hget hset (w':=w3.setRow b0 arr4) (b3:=b3) (arr4:=arr4) (y3:= .slice (some ⟨b3,0,none⟩) (ys.length+1) cap3)
  (by show w3.os=_;rw [r6];rfl) (by show w3.tape=_;rw [r7];rfl) (by show w3.output=_;rw [r8];rfl) (by rw [setRow_len];omega) hb30 (r12.imp (fun h=>by simpa using h) (fun h=>by omega)) (by rw [setRow_len];exact r10) hthis hsz4 (fun q hq=>by rw [hcells q,if_neg hq]) (by rw [hcells,if_pos rfl])
  (fun c' hc' h0 h3'=>by rw [hoth c' h0,r11 c' (by omega) h3',hold1 c' hc']) hrep
 exact kont _ _ (hA5.unput p1 p2 p3 p4).rel
end
end Go.Proofs.YtmkhmpcealeidaaGreat.Vc
namespace Go.Proofs.YtmkhmpcealeidaaGreat.Vc
open Go Go.RowKit
set_option linter.unusedVariables false
set_option linter.unusedSimpArgs false
section
variable {P:Program} {T:Tab} {n:Nat} {w0:World} {E0:Env0} {s:St} {ops:Array Oper} {Q:Exit→St→Prop} {rest:List Oper}
variable {w w':World} {E E':Env} {μ μ':Nat→Value} {H H':Heap}
end
end Go.Proofs.YtmkhmpcealeidaaGreat.Vc
namespace Go.Proofs.YtmkhmpcealeidaaGreat.Vc
open Go Go.RowKit
set_option linter.unusedVariables false
set_option linter.unusedSimpArgs false
inductive Bel (E:Env) (id b0 k0:Nat):Nat→Prop
 | top {b:Nat}:E.κ b=some (.id id, .inside b0 k0)→Bel E id b0 k0 b
 | sub {b b' k:Nat}:Bel E id b0 k0 b'→E.κ b=some (.id id, .inside b' k)→Bel E id b0 k0 b
def toTop (b0 k0:Nat) (q:Pos):Pos:=if q= .inside b0 k0 then .top else q
def ofTop (b0 k0:Nat) (q:Pos):Pos:=if q= .top then .inside b0 k0 else q
open Classical in
noncomputable def lnF (E:Env) (id b0 k0 idr:Nat):Env:=⟨E.S,fun c=>match E.κ c with
 | some (.id q,p)=>if q=id then (if Bel E id b0 k0 c then some (.id idr,toTop b0 k0 p) else none) else some (.id q,p)
 | o=>o⟩
open Classical in
noncomputable def bkF (E E':Env) (id b0 k0 idr:Nat):Env:=⟨E'.S,fun c=>if c=b0 then some (.id id, .top) else match E'.κ c with
 | some (.id q,p)=>if q=idr then some (.id id,ofTop b0 k0 p) else some (.id q,p)
 | some (.res q,p)=>some (.res q,p)
 | none=>match E.κ c with
  | some (.id q,p)=>if q=id∧¬Bel E id b0 k0 c then some (.id id,p) else none
  | _=>none⟩
section
variable {P:Program} {T:Tab} {n:Nat} {w0:World} {E0:Env0} {s s' s'':St} {ops:Array Oper} {Q:Exit→St→Prop} {rest:List Oper}
variable {w w' w2:World} {E E':Env} {μ μ':Nat→Value} {H H':Heap} {id b0 k0 idr:Nat}
theorem Bel.lab {b:Nat} (h:Bel E id b0 k0 b):∃b' k,E.κ b=some (.id id, .inside b' k):=by
 cases h with
 | top h=>exact ⟨_,_,h⟩
 | sub _ h=>exact ⟨_,_,h⟩
theorem Bel.ne {b:Nat} (h:Bel E id b0 k0 b) (h0:E.κ b0=some (.id id, .top)):b≠b0:=by
 rintro rfl
 obtain ⟨_,_,h1⟩:=h.lab
 rw [h0] at h1
 simp at h1
theorem lnF_bel {c:Nat} {p:Pos} (h:Bel E id b0 k0 c) (hc:E.κ c=some (.id id,p)):(lnF E id b0 k0 idr).κ c=some (.id idr,toTop b0 k0 p):=by
 simp only [lnF,hc,if_true,if_pos h]
theorem lnF_fr {c:Nat} {p:Pos} (h:¬Bel E id b0 k0 c) (hc:E.κ c=some (.id id,p)):(lnF E id b0 k0 idr).κ c=none:=by
 simp only [lnF,hc,if_true,if_neg h]
theorem lnF_oth {c q:Nat} {p:Pos} (h:q≠id) (hc:E.κ c=some (.id q,p)):(lnF E id b0 k0 idr).κ c=some (.id q,p):=by
 simp only [lnF,hc,if_neg h]
theorem lnF_none {c:Nat} (hc:E.κ c=none):(lnF E id b0 k0 idr).κ c=none:=by simp only [lnF,hc]
theorem lnF_own {c:Nat} (h:(lnF E id b0 k0 idr).κ c≠none):E.κ c≠none:=fun e=>h (lnF_none e)
theorem lnF_inv {c:Nat} {r:Root} {p:Pos} (h:(lnF E id b0 k0 idr).κ c=some (r,p)):E.κ c=some (r,p)∨r= .id idr:=by
 cases hc:E.κ c with
 | none=>rw [lnF_none hc] at h;simp at h
 | some x =>
  obtain ⟨r',p'⟩:=x
  cases r' with
  | res q =>
   left
   simp only [lnF,hc] at h
   exact h
  | id q =>
   by_cases hq:q=id
   ·subst hq
    by_cases hb:Bel E q b0 k0 c
    ·rw [lnF_bel hb hc] at h
     simp only [Option.some.injEq,Prod.mk.injEq] at h
     exact .inr h.1.symm
    ·rw [lnF_fr hb hc] at h
     simp at h
   ·rw [lnF_oth hq hc] at h
    exact .inl h
theorem bkF_top:(bkF E E' id b0 k0 idr).κ b0=some (.id id, .top):=by simp [bkF]
theorem bkF_row {c:Nat} {p:Pos} (h:c≠b0) (hc:E'.κ c=some (.id idr,p)):(bkF E E' id b0 k0 idr).κ c=some (.id id,ofTop b0 k0 p):=by
 simp only [bkF,if_neg h,hc,if_true]
theorem bkF_oth {c q:Nat} {p:Pos} (h:c≠b0) (hq:q≠idr) (hc:E'.κ c=some (.id q,p)):(bkF E E' id b0 k0 idr).κ c=some (.id q,p):=by
 simp only [bkF,if_neg h,hc,if_neg hq]
theorem bkF_fr {c:Nat} {p:Pos} (h:c≠b0) (hc:E'.κ c=none) (he:E.κ c=some (.id id,p)) (hb:¬Bel E id b0 k0 c):(bkF E E' id b0 k0 idr).κ c=some (.id id,p):=by
 simp only [bkF,if_neg h,hc,he]
 rw [if_pos ⟨rfl,hb⟩]
theorem bkF_inv {c:Nat} {r:Root} {p:Pos} (h:(bkF E E' id b0 k0 idr).κ c=some (r,p)):c=b0∧r= .id id∨(∃p',E'.κ c=some (.id idr,p'))∧r= .id id∨E'.κ c=some (r,p)∨(E'.κ c=none∧E.κ c=some (.id id,p)∧r= .id id):=by
 by_cases h0:c=b0
 ·subst h0
  rw [bkF_top] at h
  simp only [Option.some.injEq,Prod.mk.injEq] at h
  exact .inl ⟨rfl,h.1.symm⟩
 ·simp only [bkF,if_neg h0] at h
  split at h
  ·rename_i q p' hq
   split at h
   ·rename_i hi
    subst hi
    simp only [Option.some.injEq,Prod.mk.injEq] at h
    exact .inr (.inl ⟨⟨_,hq⟩,h.1.symm⟩)
   ·exact .inr (.inr (.inl (hq.trans h)))
  ·rename_i q p' hq
   exact .inr (.inr (.inl (hq.trans h)))
  ·rename_i hq
   split at h
   ·rename_i q p' he
    split at h
    ·rename_i hi
     obtain ⟨rfl,_⟩:=hi
     simp only [Option.some.injEq,Prod.mk.injEq] at h
     obtain ⟨h1,rfl⟩:=h
     exact .inr (.inr (.inr ⟨hq,he,h1.symm⟩))
    ·simp at h
   ·simp at h
structure Lent (w:World) (E:Env) (μ:Nat→Value) (id i:Nat) (t':Ty) (xs:List (List t'.den)) (b0 c0:Nat) (arr0:Array Value) (ty0:TypeId):Prop where
 f1:μ id= .slice (some ⟨b0,0,none⟩) xs.length c0
 f2:xs.length≤c0
 f3:w.heap[b0]? =some (.cells arr0 ty0 (0,0))
 f4:arr0.size=c0
 f5:E.κ b0=some (.id id, .top)
 f6:∀r (h:r < xs.length),Rep w E (.id id) (.sl t') xs[r] .dp (fun j=> .inside b0 (r+j)) (fun j=>cellAt w b0 (r+j))
theorem MR.lent (hM:MR w E μ H 0) {t':Ty} {xs:List (List t'.den)} {cur i:Nat} (hH:H[id]? =some (some (.arr cur (.sl t') xs .dp))) (hi:i < xs.length):∃b0 c0 arr0 ty0,Lent w E μ id i t' xs b0 c0 arr0 ty0:=by
 obtain ⟨_,hrow⟩:=hM.arr hH
 rcases hrow with ⟨rfl,_⟩ | ⟨b0,c0,arr0,ty0,f1,f2,f3,f4,f5,f6⟩
 ·simp at hi
 ·exact ⟨b0,c0,arr0,ty0,f1,f2,f3,by rw [f4];exact Nat.mul_one _,f5,fun r h=>by
   have:=f6 r h
   have e:r*(Ty.sl t').lv=r:=Nat.mul_one r
   rw [e] at this
   exact this⟩
theorem getS_gv {g:Nat} (hg:gb≤g) {E0 E1:Env0} {y:Value} (he:E1.gv=fun k=>if k=g then y else E0.gv k) {a:Act} {k:Nat} (hk:k≠g):getS E1 a k=getS E0 a k:=by
 unfold getS
 split
 ·rfl
 ·simp only [he,if_neg hk]
theorem getS_g {g:Nat} (hg:gb≤g) {E1:Env0} {y:Value} {E0:Env0} (he:E1.gv=fun k=>if k=g then y else E0.gv k) {a:Act}:getS E1 a g=some y:=by
 unfold getS
 rw [if_neg (by omega)]
 simp only [he,if_true]
theorem At.lend {a:Act} (hA:At n w0 E0 s a w E μ) {k5 g cur i:Nat} {t':Ty} {xs:List (List t'.den)} (hH:s.H[id]? =some (some (.arr cur (.sl t') xs .dp))) (h5:look s.sl k5=some (.lf (.hd id cur none))) (hg:gb≤g) (h5g:k5≠g) (hgn:look s.sl g=none) (hi:i < xs.length)
  {c0:Nat} {arr0:Array Value} {ty0:TypeId} (hL:Lent w E μ id i t' xs b0 c0 arr0 ty0):∃y,arr0[i]? =some y∧y.oneCell'=true∧
   At n w ⟨lnF E id b0 i s.H.length,fun k=>if k=g then y else E0.gv k⟩ ⟨(k5, .lf (.raw (.slice (some ⟨b0,0,none⟩) xs.length c0)))::(g, .lf (.hd s.H.length 0 none))::s.sl,s.H.set id (some (.arr (cur+1) (.sl t') [] .dp))++[some (.arr 0 t' (xs[i]'hi) .dp)]⟩ a w (lnF E id b0 i s.H.length) (fun q=>if q=s.H.length then y else if q=id then .slice none 0 0 else μ q):=by
 have hM:=hA.mr
 have hidlt:id < s.H.length:=(List.getElem?_eq_some_iff.1 hH).1
 have hrow:=hL.f6 i hi
 obtain ⟨y,hy,hy2⟩:=hrow
 have hcell:arr0[i]? =some y:=by
  have:cellAt w b0 (i+0)=some y:=hy
  simpa only [cellAt,World.cell?,hL.f3,Option.isSome_none,Bool.false_eq_true,if_false,Nat.add_zero] using this
 have hone:y.oneCell'=true:=rep_sl_one (hL.f6 i hi) (v:=y) hy
 refine ⟨y,hcell,hone,?_⟩
 have hS:∀b,E.S b→(lnF E id b0 i s.H.length).S b∧w.heap[b]? =w.heap[b]? :=fun b hb=>⟨hb,rfl⟩
 have hK:KpH μ (fun q=>if q=s.H.length then y else if q=id then .slice none 0 0 else μ q) s.H (s.H.set id (some (.arr (cur+1) (.sl t') [] .dp))++[some (.arr 0 t' (xs[i]'hi) .dp)]):=by
  intro q c hc
  have hq:=(List.getElem?_eq_some_iff.1 hc).1
  by_cases hqi:q=id
  ·subst hqi
   rw [hH] at hc
   simp only [Option.some.injEq] at hc
   subst hc
   exact ⟨some (.arr (cur+1) (.sl t') [] .dp),by rw [List.getElem?_append_left (by simpa using hq),List.getElem?_set_self hq], .inl (by omega)⟩
  ·refine ⟨c,by rw [List.getElem?_append_left (by simpa using hq),List.getElem?_set_ne (Ne.symm hqi)];exact hc,?_⟩
   simp only [if_neg hqi,if_neg (Nat.ne_of_lt hq)]
   exact Kp.refl _ _
 have hnew:Rep w (lnF E id b0 i s.H.length) (.id s.H.length) (.sl t') xs[i] .dp (fun _=> .top) (at0 y):=by
  have h0:Rep w E (.id id) (.sl t') xs[i] .dp (fun _=> .inside b0 i) (at0 y):=⟨y,by simp [at0],hy2⟩
  refine Rep.move (fun q=>q= .inside b0 i∨∃b k,Bel E id b0 i b∧q= .inside b k) (toTop b0 i) hS (fun b q hq hb=>?_) _ _ _ _ _ _ _ (fun _=>⟨fun _=> .inl rfl,fun _=>by simp [toTop]⟩) (fun _ _ _ h=>h) h0
  have hbel:Bel E id b0 i b:=by
   rcases hq with rfl | ⟨b',k,h1,rfl⟩
   ·exact .top hb
   ·exact .sub h1 hb
  refine ⟨lnF_bel hbel hb,rfl,fun k=>⟨.inr ⟨b,k,hbel,rfl⟩,?_⟩⟩
  have:=hbel.ne hL.f5
  simp [toTop,this]
 refine ⟨hA.size,hA.defers,fun b hb=>lnF_none (hM.apart b hb),?_,Ext.refl w _,fun k v hv=>?_⟩
 ·refine MR.step hM (fun b hb=>lnF_none (hM.apart b hb)) hM.ltS (fun b hb=>hM.ltκ b (lnF_own hb)) (fun b r q hb=>?_) hS hK (fun q blk hq=>?_)
  ·rcases lnF_inv hb with h | rfl
   ·rcases hM.roots b r q h with ⟨m,h1,h2⟩ | ⟨m,_,h2⟩
    ·exact .inl ⟨m,h1,by simp;omega⟩
    ·omega
   ·exact .inl ⟨_,rfl,by simp⟩
  ·by_cases hql:q=s.H.length
   ·subst hql
    rw [List.getElem?_append_right (by simp)] at hq
    simp only [List.length_set,Nat.sub_self,List.getElem?_cons_zero,Option.some.injEq] at hq
    subst hq
    refine .inr ⟨by simp,?_⟩
    simp only [if_true]
    exact hnew
   ·have hlt:q < s.H.length:=by
     have:=(List.getElem?_eq_some_iff.1 hq).1
     simp only [List.length_append,List.length_set,List.length_singleton] at this
     omega
    rw [List.getElem?_append_left (by simpa using hlt)] at hq
    by_cases hqi:q=id
    ·subst hqi
     rw [List.getElem?_set_self hlt] at hq
     simp only [Option.some.injEq] at hq
     subst hq
     refine .inr ⟨by simp, .slice none 0 0,by simp only [if_neg hql,if_true,at0], .inr ⟨by simp, .inl ⟨rfl,none,rfl⟩⟩⟩
    ·rw [List.getElem?_set_ne (Ne.symm hqi)] at hq
     exact .inl ⟨hq,by simp only [if_neg hql,if_neg hqi],fun b p hb=>⟨lnF_oth hqi hb,rfl⟩⟩
 ·rw [look_put] at hv
  by_cases hk5:k5=k
  ·subst hk5
   simp only [if_true,Option.some.injEq] at hv
   subst hv
   obtain ⟨z,h1,h2⟩:=hA.slots _ _ h5
   refine ⟨z,by rw [getS_gv hg rfl h5g];exact h1,?_⟩
   simp only [AR,LR,hH] at h2
   have h3:=h2.2.2 trivial
   simp only [HdR,hL.f1] at h3
   exact ⟨h3,h2.1⟩
  ·rw [if_neg hk5,look_put] at hv
   by_cases hkg:g=k
   ·subst hkg
    simp only [if_true,Option.some.injEq] at hv
    subst hv
    refine ⟨y,getS_g hg rfl,hone,?_⟩
    rw [List.getElem?_append_right (by simp)]
    simp only [List.length_set,Nat.sub_self,List.getElem?_cons_zero]
    exact ⟨Nat.le_refl _,fun _=>by simp [HdR]⟩
   ·rw [if_neg hkg] at hv
    obtain ⟨z,h1,h2⟩:=hA.slots k v hv
    exact ⟨z,by rw [getS_gv hg rfl (Ne.symm hkg)];exact h1,AR.keep hS hK _ _ h2⟩
theorem At.lend_ext {a:Act} (hA:At n w0 E0 s a w E μ):Ext w0 E0 w (lnF E id b0 k0 idr):=by
 have hX:=hA.ext
 exact ⟨hX.os,hX.tape,hX.output,hX.size,hX.block,hX.grow,hX.from_,fun b hb=>hX.own b (lnF_own hb)⟩
theorem At.back {a a':Act} (hA:At n w0 E0 s a w E μ) {k5 g cur i ver v1:Nat} {t' t1:Ty} {xs1:List t1.den} {m1:Md} {xs:List (List t'.den)} (hH:s.H[id]? =some (some (.arr cur (.sl t') xs .dp))) (hg:gb≤g) (h5g:k5≠g) (hi:i < xs.length)
  {c0:Nat} {arr0:Array Value} {ty0:TypeId} (hL:Lent w E μ id i t' xs b0 c0 arr0 ty0) {y:Value} (hA':At n w ⟨lnF E id b0 i s.H.length,fun k=>if k=g then y else E0.gv k⟩ s' a' w' E' μ')
  (h5:look s'.sl k5=some (.lf (.raw (.slice (some ⟨b0,0,none⟩) xs.length c0)))) (h1:s'.H[id]? =some (some (.arr v1 t1 xs1 m1))) {ys':List t'.den} (h2:s'.H[s.H.length]? =some (some (.arr ver t' ys' .dp)))
  {arr4:Array Value} (hos:w2.os=w'.os) (htp:w2.tape=w'.tape) (hout:w2.output=w'.output) (hsz:w2.heap.size=w'.heap.size) (hb0:w2.heap[b0]? =some (.cells arr4 ty0 (0,0))) (hs4:arr4.size=arr0.size) (hc4:∀q,q≠i→arr4[q]? =arr0[q]?) (hc4i:arr4[i]? =some (μ' s.H.length)) (hoth:∀c,c≠b0→w2.heap[c]? =w'.heap[c]?)
  {slf:List (Nat×AV)} (hsl:∀k v,look slf k=some v→look s'.sl k=some v∧k≠g) :
  At n w0 E0 ⟨(k5, .lf (.hd id (v1+1) none))::slf,(s'.H.set s.H.length none).set id (some (.arr (v1+1) (.sl t') (xs.set i ys') .dp))⟩ a' w2 (bkF E E' id b0 i s.H.length) (fun q=>if q=id then μ id else μ' q):=by
 have hM:=hA.mr
 have hM':=hA'.mr
 have hX:=hA'.ext
 have hidlt:id < s.H.length:=(List.getElem?_eq_some_iff.1 hH).1
 have hrlt:s.H.length < s'.H.length:=(List.getElem?_eq_some_iff.1 h2).1
 have hidr:id≠s.H.length:=Nat.ne_of_lt hidlt
 have hfr0:¬Bel E id b0 i b0:=fun h=>h.ne hL.f5 rfl
 have hb0w:b0 < w.heap.size:=(Array.getElem?_eq_some_iff.1 hL.f3).1
 -- what was framed
 have hfrm:∀c,c < w.heap.size→(lnF E id b0 i s.H.length).κ c=none→E'.κ c=none∧w'.heap[c]? =w.heap[c]? :=fun c hc hn=>by
  refine ⟨?_,hX.block c hc hn⟩
  cases he:E'.κ c with
  | none=>rfl
  | some x =>
   rcases hX.own c (by simp [he]) with h | h
   ·exact absurd hn h
   ·omega
 have hk0:=hfrm b0 hb0w (lnF_fr hfr0 hL.f5)
 have hS0:∀b,E'.S b→b≠b0:=by
  rintro b hb rfl
  rcases hX.from_ b hb with h | h | h
  ·have:=hM.apart b h
   rw [hL.f5] at this
   simp at this
  ·exact h (lnF_fr hfr0 hL.f5)
  ·omega
 have hS:∀b,E'.S b→(bkF E E' id b0 i s.H.length).S b∧w2.heap[b]? =w'.heap[b]? :=fun b hb=>⟨hb,hoth b (hS0 b hb)⟩
 have hapart:∀b,E'.S b→(bkF E E' id b0 i s.H.length).κ b=none:=fun b hb=>by
  have h0:=hS0 b hb
  have h3:=hM'.apart b hb
  cases hk:(bkF E E' id b0 i s.H.length).κ b with
  | none=>rfl
  | some x =>
   obtain ⟨r,p⟩:=x
   rcases bkF_inv hk with ⟨h,_⟩ | ⟨⟨p',h⟩,_⟩ | h | ⟨_,h,_⟩
   ·exact absurd h h0
   ·rw [h3] at h;simp at h
   ·rw [h3] at h;simp at h
   ·exfalso
    rcases hX.from_ b hb with h' | h' | h'
    ·have:=hM.apart b h'
     rw [h] at this
     simp at this
    ·by_cases hb':Bel E id b0 i b
     ·simp only [bkF,if_neg h0,h3,h] at hk
      rw [if_neg (fun h=>h.2 hb')] at hk
      simp at hk
     ·exact h' (lnF_fr hb' h)
    ·have:=hM.ltκ b (by simp [h])
     omega
 have hK:KpH μ' (fun q=>if q=id then μ id else μ' q) s'.H ((s'.H.set s.H.length none).set id (some (.arr (v1+1) (.sl t') (xs.set i ys') .dp))):=by
  intro q c hc
  have hq:=(List.getElem?_eq_some_iff.1 hc).1
  by_cases hqi:q=id
  ·subst hqi
   rw [h1] at hc
   simp only [Option.some.injEq] at hc
   subst hc
   exact ⟨some (.arr (v1+1) (.sl t') (xs.set i ys') .dp),List.getElem?_set_self (by simpa using hq), .inl (by omega)⟩
  ·by_cases hqr:q=s.H.length
   ·subst hqr
    exact ⟨none,by rw [List.getElem?_set_ne (Ne.symm hqi),List.getElem?_set_self hq],by simp [Kp]⟩
   ·refine ⟨c,by rw [List.getElem?_set_ne (Ne.symm hqi),List.getElem?_set_ne (Ne.symm hqr)];exact hc,?_⟩
    simp only [if_neg hqi]
    exact Kp.refl _ _
 have hcw:∀q,cellAt w2 b0 q=arr4[q]? :=fun q=>by simp only [cellAt,World.cell?,hb0,Option.isSome_none,Bool.false_eq_true,if_false]
 have hcw0:∀q,cellAt w b0 q=arr0[q]? :=fun q=>by simp only [cellAt,World.cell?,hL.f3,Option.isSome_none,Bool.false_eq_true,if_false]
 have hMR:MR w2 (bkF E E' id b0 i s.H.length) (fun q=>if q=id then μ id else μ' q) ((s'.H.set s.H.length none).set id (some (.arr (v1+1) (.sl t') (xs.set i ys') .dp))) 0:=by
  refine MR.step hM' hapart (fun b hb=>by rw [hsz];exact hM'.ltS b hb) (fun b hb=>?_) (fun b r q hb=>?_) hS hK (fun q blk hq=>?_)
  ·rw [hsz]
   have hwle:=hX.size
   cases hk:(bkF E E' id b0 i s.H.length).κ b with
   | none=>exact absurd hk hb
   | some x =>
    obtain ⟨r,p⟩:=x
    rcases bkF_inv hk with ⟨rfl,_⟩ | ⟨⟨p',h⟩,_⟩ | h | ⟨_,h,_⟩
    ·omega
    ·exact hM'.ltκ b (by simp [h])
    ·exact hM'.ltκ b (by simp [h])
    ·have:=hM.ltκ b (by simp [h])
     omega
  ·simp only [List.length_set]
   rcases bkF_inv hb with ⟨_,rfl⟩ | ⟨_,rfl⟩ | h | ⟨_,_,rfl⟩
   ·exact .inl ⟨id,rfl,by omega⟩
   ·exact .inl ⟨id,rfl,by omega⟩
   ·exact hM'.roots b r q h
   ·exact .inl ⟨id,rfl,by omega⟩
  ·by_cases hqi:q=id
   ·subst hqi
    rw [List.getElem?_set_self (by simp;omega)] at hq
    simp only [Option.some.injEq] at hq
    subst hq
    refine .inr ⟨by simp,μ q,by simp only [at0,if_true], .inr ⟨by simp, .inr ⟨b0,c0,arr4,ty0,by rw [List.length_set];exact hL.f1,by rw [List.length_set];exact hL.f2,hb0,by rw [hs4,hL.f4];exact (Nat.mul_one _).symm,bkF_top,fun r hr0=>?_⟩⟩⟩
    have hr:r < xs.length:=by simpa using hr0
    show Rep w2 (bkF E E' q b0 i s.H.length) (.id q) (.sl t') (xs.set i ys')[r] .dp (fun j=> .inside b0 (r*1+j)) (fun j=>cellAt w2 b0 (r*1+j))
    rw [Nat.mul_one]
    by_cases hri:r=i
    ·subst hri
     have hx:(xs.set r ys')[r]'hr0=ys':=by simp
     rw [hx]
     have h0:Rep w' E' (.id s.H.length) (.sl t') ys' .dp (fun _=> .top) (at0 (μ' s.H.length)):=(hM'.blks _ _ h2).2
     have h0':Rep w2 (bkF E E' q b0 r s.H.length) (.id q) (.sl t') ys' .dp (fun _=> .inside b0 r) (fun j=>cellAt w2 b0 (r+j)):=by
      refine Rep.move (fun _=>True) (ofTop b0 r) hS (fun b p _ hb=>?_) _ _ _ _ _ _ _ (fun _=>⟨fun _=>trivial,fun _=>by simp [ofTop]⟩) (fun j v _ hv=>?_) h0
      ·have hbn:b≠b0:=by
        rintro rfl
        rw [hk0.1] at hb
        simp at hb
       exact ⟨bkF_row hbn hb,hoth b hbn,fun k=>⟨trivial,by simp [ofTop]⟩⟩
      ·simp only [at0] at hv
       split at hv
       ·rename_i hj
        subst hj
        rw [hcw,Nat.add_zero,hc4i]
        exact hv
       ·simp at hv
     obtain ⟨v,hv,hrep⟩:=h0'
     exact ⟨v,hv,hrep⟩
    ·have hx:(xs.set i ys')[r]'hr0=xs[r]:=by simp [List.getElem_set,Ne.symm hri]
     rw [hx]
     have h0:=hL.f6 r hr
     have h0':Rep w E (.id q) (.sl t') xs[r] .dp (fun _=> .inside b0 r) (at0 ((cellAt w b0 r).getD undef)):=by
      obtain ⟨v,hv,hrep⟩:=h0
      have hv':cellAt w b0 r=some v:=hv
      exact ⟨v,by simp [at0,hv'],hrep⟩
     have h1':Rep w2 (bkF E E' q b0 i s.H.length) (.id q) (.sl t') xs[r] .dp (fun _=> .inside b0 r) (fun j=>cellAt w2 b0 (r+j)):=by
      refine Rep.move (fun p=>(∃k,p= .inside b0 k∧k≠i)∨∃b k,¬Bel E q b0 i b∧b≠b0∧p= .inside b k) (fun p=>p) (fun b hb=>?_) (fun b p hp hb=>?_) _ _ _ _ _ _ _ (fun _=>⟨fun _=> .inl ⟨r,rfl,hri⟩,fun _=>rfl⟩) (fun j v _ hv=>?_) h0'
      ·have hb':=hX.grow b hb
       refine ⟨hb',?_⟩
       rw [hoth b (hS0 b hb')]
       exact hX.block b (hM.ltS b hb) (lnF_none (hM.apart b hb))
      ·have hnb:¬Bel E q b0 i b:=by
        intro hbel
        cases hbel with
        | top h =>
         rw [hb] at h
         simp only [Option.some.injEq,Prod.mk.injEq,true_and] at h
         subst h
         rcases hp with ⟨k,h,hk⟩ | ⟨b',k,h,h',h''⟩
         ·simp only [Pos.inside.injEq,true_and] at h
          exact hk h.symm
         ·simp only [Pos.inside.injEq] at h''
          exact h' h''.1.symm
        | sub hb' h =>
         rw [hb] at h
         simp only [Option.some.injEq,Prod.mk.injEq,true_and] at h
         subst h
         rcases hp with ⟨k,h,hk⟩ | ⟨b',k,h,h',h''⟩
         ·simp only [Pos.inside.injEq] at h
          exact hb'.ne hL.f5 h.1
         ·simp only [Pos.inside.injEq] at h''
          rw [h''.1] at hb'
          exact h hb'
       have hbn:b≠b0:=by
        rintro rfl
        rw [hL.f5] at hb
        simp only [Option.some.injEq,Prod.mk.injEq,true_and] at hb
        subst hb
        rcases hp with ⟨k,h,_⟩ | ⟨_,_,_,_,h⟩ <;> simp at h
       obtain ⟨e1,e2⟩:=hfrm b (hM.ltκ b (by simp [hb])) (lnF_fr hnb hb)
       exact ⟨bkF_fr hbn e1 hb hnb,(hoth b hbn).trans e2,fun k=>⟨.inr ⟨b,k,hnb,hbn,rfl⟩,rfl⟩⟩
      ·simp only [at0] at hv
       split at hv
       ·rename_i hj
        subst hj
        rw [hcw,Nat.add_zero,hc4 r hri,←hcw0]
        obtain ⟨v',hv',_⟩:=h0
        have hv'':cellAt w b0 r=some v':=hv'
        rw [hv''] at hv ⊢
        exact hv
       ·simp at hv
     obtain ⟨v,hv,hrep⟩:=h1'
     exact ⟨v,hv,hrep⟩
   ·have hqr:q≠s.H.length:=by
     rintro rfl
     rw [List.getElem?_set_ne (Ne.symm hqi),List.getElem?_set_self hrlt] at hq
     simp at hq
    rw [List.getElem?_set_ne (Ne.symm hqi),List.getElem?_set_ne (Ne.symm hqr)] at hq
    refine .inl ⟨hq,by simp only [if_neg hqi],fun b p hb=>?_⟩
    have hbn:b≠b0:=by
     rintro rfl
     rw [hk0.1] at hb
     simp at hb
    exact ⟨bkF_oth hbn hqr hb,hoth b hbn⟩
 refine ⟨hA'.size,hA'.defers,hA.apart,hMR,hA.ext.trans hA.apart ⟨hos.trans hX.os,htp.trans hX.tape,hout.trans hX.output,by rw [hsz];exact hX.size,fun b hb hn=>?_,fun b hb=>hX.grow b hb,fun b hb=>?_,fun b hb=>?_⟩,fun k v hv=>?_⟩
 ·have hbn:b≠b0:=by
   rintro rfl
   rw [hL.f5] at hn
   simp at hn
  rw [hoth b hbn]
  exact hX.block b hb (lnF_none hn)
 ·rcases hX.from_ b hb with h | h | h
  ·exact .inl h
  ·exact .inr (.inl (lnF_own h))
  ·exact .inr (.inr h)
 ·cases hk:(bkF E E' id b0 i s.H.length).κ b with
  | none=>exact absurd hk hb
  | some x =>
   obtain ⟨r,p⟩:=x
   have hf:E'.κ b≠none→E.κ b≠none∨w.heap.size≤b:=fun h=>(hX.own b h).imp lnF_own (fun h=>h)
   rcases bkF_inv hk with ⟨rfl,_⟩ | ⟨⟨p',h⟩,_⟩ | h | ⟨_,h,_⟩
   ·exact .inl (by simp [hL.f5])
   ·exact hf (by simp [h])
   ·exact hf (by simp [h])
   ·exact .inl (by simp [h])
 ·rw [look_put] at hv
  by_cases hk5:k5=k
  ·subst hk5
   simp only [if_true,Option.some.injEq] at hv
   subst hv
   obtain ⟨z,z1,z2⟩:=hA'.slots _ _ h5
   rw [getS_gv hg rfl h5g] at z1
   obtain ⟨rfl,z3⟩:=(show z=_∧z.oneCell'=true from z2)
   refine ⟨_,z1,z3,?_⟩
   rw [List.getElem?_set_self (by simp;omega)]
   refine ⟨Nat.le_refl _,fun _=>?_⟩
   simp only [HdR,if_true]
   exact hL.f1.symm
  ·rw [if_neg hk5] at hv
   obtain ⟨h3,h4⟩:=hsl k v hv
   obtain ⟨z,z1,z2⟩:=hA'.slots k v h3
   rw [getS_gv hg rfl h4] at z1
   exact ⟨z,z1,AR.keep hS hK _ _ z2⟩
end
end Go.Proofs.YtmkhmpcealeidaaGreat.Vc
namespace Go.Proofs.YtmkhmpcealeidaaGreat.Vc
open Go Go.RowKit
set_option linter.unusedVariables false
set_option linter.unusedSimpArgs false
section
variable {P:Program} {T:Tab} {n:Nat} {w0:World} {E0:Env0} {s s' s'':St} {ops:Array Oper} {Q:Exit→St→Prop} {rest:List Oper} {view:List (Nat×AV)} {H:Heap}
variable {w w' w2:World} {E E':Env} {μ μ':Nat→Value}
theorem list_last {o:Oper} {R R':Exit→Act→World→Prop} (hg:o.guard=none) (hne:∀e a w,e≠ .normal→R' e a w→R e a w) (hz:∀a w,R' .normal a w→o.wp P a w (R .normal) R) :
  ∀(l:List Oper) (a:Act) (w:World),wpList P ops R' l a w→wpList P ops R (l++[o]) a w
 | [],a,w,h=>by
  refine wpList_plain hg fun K hK=>?_
  exact Oper.wp_mono (fun a w h=>hK a w h) (hz a w h)
 | o'::l,a,w,h=>by
  simp only [List.cons_append]
  unfold wpList at h ⊢
  split
  ·rename_i hw
   rw [if_pos hw] at h
   rcases h with h | ⟨h1,a1,w1,h2⟩
   ·exact .inl (Oper.wp_mono (fun a w h=>list_last hg hne hz l a w h) (wp_swap hne h))
   ·exact .inr ⟨h1,a1,w1,hne _ _ _ (by simp) h2⟩
  ·rename_i hw
   rw [if_neg hw] at h
   exact list_last hg hne hz l _ w h
theorem ready_full {listed:Array Bool} (hs:listed.size=ops.size) (h:∀i,i < ops.size→listed.getD i false=true):Region.ready .any ops listed=[]:=by
 rw [List.eq_nil_iff_forall_not_mem]
 intro i hi
 rw [mem_ready] at hi
 obtain ⟨h1,o,ho,_⟩:=hi
 have hlt:=(Array.getElem?_eq_some_iff.1 ho).1
 have:=h i hlt
 have hi':i < listed.size:=by omega
 simp only [Array.getD_eq_getD_getElem?,Array.getElem?_eq_getElem hi',Option.getD_some] at this h1
 rw [this] at h1
 simp at h1
theorem ready_none (hlow:∀i,i < ops.size→∀j∈aft ops i,j < i) {listed:Array Bool} (hs:listed.size=ops.size) (hr:Region.ready .any ops listed=[]):∀i,i < ops.size→listed.getD i false=true:=by
 intro i
 induction i using Nat.strongRecOn with
 | _ i ih =>
  intro hi
  cases hl:listed.getD i false with
  | true=>rfl
  | false =>
   exfalso
   have:i∈Region.ready .any ops listed:=by
    rw [mem_ready]
    have hi':i < listed.size:=by omega
    refine ⟨?_,ops[i],by simp [hi],fun e he hb=>?_⟩
    ·simp only [Array.getD_eq_getD_getElem?,Array.getElem?_eq_getElem hi',Option.getD_some] at hl ⊢
     exact hl
    ·have hm:e.on∈aft ops i:=(aft_of (by simp [hi])).2 ⟨e,he,hb,rfl⟩
     exact ih e.on (hlow i hi e.on hm) (by have:=hlow i hi e.on hm;omega)
   rw [hr] at this
   simp at this
theorem any_last {ops':Array Oper} {o:Oper} {R R':Exit→Act→World→Prop} (hops:ops=ops'.push o) (hlow:∀i,i < ops'.size→∀j∈aft ops' i,j < i) (hall:∀j,j < ops'.size→j∈aft ops ops'.size) (hlz:∀j∈aft ops ops'.size,j < ops'.size) (hgs:∀(i:Nat) (o':Oper),ops'[i]? =some o'→o'.guard=none)
  (hg:o.guard=none) (hne:∀e a w,e≠ .normal→R' e a w→R e a w) (hz:∀a w,R' .normal a w→o.wp P a w (R .normal) R) :
  ∀(fuel:Nat) (listed:Array Bool) (a:Act) (w:World),listed.size=ops'.size→wpAny P .any ops' R' fuel listed a w→wpAny P .any ops R (fuel+1) (listed.push false) a w:=by
 have hsz:ops.size=ops'.size+1:=by rw [hops];simp
 have hlt:∀i,i < ops'.size→ops[i]? =ops'[i]? :=fun i hi=>by rw [hops,Array.getElem?_push];simp [Nat.ne_of_lt hi]
 have hoz:ops[ops'.size]? =some o:=by rw [hops];simp
 have gd:∀(listed:Array Bool) (i:Nat) (b:Bool),listed.size=ops'.size→i < ops'.size→(listed.push false).getD i b=listed.getD i b:=by
  intro listed i b hs hi
  rw [Array.getD_eq_getD_getElem?,Array.getD_eq_getD_getElem?,Array.getElem?_push]
  simp [show i≠listed.size by omega]
 have down:∀(listed:Array Bool) i,listed.size=ops'.size→i < ops'.size→(i∈Region.ready .any ops (listed.push false)↔i∈Region.ready .any ops' listed):=by
  intro listed i hs hi
  rw [mem_ready,mem_ready,gd listed i true hs hi,hlt i hi]
  refine and_congr_right fun _=>exists_congr fun o'=>and_congr_right fun ho'=>forall_congr' fun e=>forall_congr' fun he=>forall_congr' fun hb=>?_
  have hm:e.on∈aft ops' i:=(aft_of ho').2 ⟨e,he,hb,rfl⟩
  have:=hlow i hi _ hm
  rw [gd listed e.on false hs (by omega)]
 have atz:∀(listed:Array Bool),listed.size=ops'.size→ops'.size∈Region.ready .any ops (listed.push false)→∀j,j < ops'.size→listed.getD j false=true:=by
  intro listed hs hz' j hj
  rw [mem_ready] at hz'
  obtain ⟨_,o',ho',h⟩:=hz'
  obtain ⟨e,h1,h2,rfl⟩:=(aft_of ho').1 (hall j hj)
  rw [←gd listed e.on false hs hj]
  exact h e h1 h2
 have lastw:∀(listed:Array Bool) (a:Act) (w:World) (fuel:Nat),listed.size=ops'.size→(∀j,j < ops'.size→listed.getD j false=true)→R' .normal a w→wpOp P ops R ops'.size (wpAny P .any ops R fuel ((listed.push false).setIfInBounds ops'.size true)) a w:=by
  intro listed a w fuel hs hl hr
  unfold wpOp
  rw [hoz]
  simp only [Region.wanted,hg,if_true]
  refine .inl (Oper.wp_mono (fun a w h=>wpAny_done (ready_full (by simp [hs,hsz]) fun i hi=>?_) h fuel) (hz a w hr))
  rw [Array.getD_eq_getD_getElem?,Array.getElem?_setIfInBounds]
  by_cases hi':i=ops'.size
  ·rw [if_pos hi'.symm,if_pos (by simp [hs])];rfl
  ·rw [if_neg (Ne.symm hi'),←Array.getD_eq_getD_getElem?,gd listed i false hs (by omega)]
   exact hl i (by omega)
 have nonil:∀(listed:Array Bool),listed.size=ops'.size→Region.ready .any ops (listed.push false)=[]→False:=by
  intro listed hs hr
  have h0:Region.ready .any ops' listed=[]:=by
   rw [List.eq_nil_iff_forall_not_mem]
   intro i hi
   have hi':i < ops'.size:=by
    rw [mem_ready] at hi
    obtain ⟨_,o',ho',_⟩:=hi
    exact (Array.getElem?_eq_some_iff.1 ho').1
   have:=(down listed i hs hi').2 hi
   rw [hr] at this
   simp at this
  have hl:=ready_none hlow hs h0
  have:ops'.size∈Region.ready .any ops (listed.push false):=by
   rw [mem_ready]
   refine ⟨?_,o,hoz,fun e he hb=>?_⟩
   ·rw [Array.getD_eq_getD_getElem?,Array.getElem?_push]
    simp [hs]
   ·have hm:e.on∈aft ops ops'.size:=(aft_of hoz).2 ⟨e,he,hb,rfl⟩
    have hz':=hlz _ hm
    rw [gd listed e.on false hs hz']
    exact hl _ hz'
  rw [hr] at this
  simp at this
 intro fuel
 induction fuel with
 | zero =>
  intro listed a w hs h
  obtain ⟨h0,h1⟩:=h
  have hl:=ready_none hlow hs h0
  refine ⟨fun hr=>(nonil listed hs hr).elim,fun i hi=>?_⟩
  by_cases hi':i < ops'.size
  ·have:=(down listed i hs hi').1 hi
   rw [h0] at this
   simp at this
  ·have:i=ops'.size:=by
    have hi2:=hi
    rw [mem_ready] at hi2
    obtain ⟨_,o',ho',_⟩:=hi2
    have:=(Array.getElem?_eq_some_iff.1 ho').1
    omega
   subst this
   exact lastw listed a w 0 hs hl h1
 | succ fuel ih =>
  intro listed a w hs h
  obtain ⟨h0,h1⟩:=h
  refine ⟨fun hr=>(nonil listed hs hr).elim,fun i hi=>?_⟩
  by_cases hi':i < ops'.size
  ·have h2:=h1 i ((down listed i hs hi').1 hi)
   have e:(listed.push false).setIfInBounds i true=(listed.setIfInBounds i true).push false:=by
    apply Array.ext_getElem?
    intro k
    simp only [Array.getElem?_setIfInBounds,Array.getElem?_push,Array.size_push,Array.size_setIfInBounds]
    by_cases h3:i=k
    ·subst h3
     rw [if_pos rfl,if_pos (by omega),if_neg (by omega),if_pos rfl,if_pos (by omega)]
    ·rw [if_neg h3,if_neg h3]
   rw [e]
   unfold wpOp at h2 ⊢
   rw [hlt i hi']
   obtain ⟨o',ho'⟩:∃o',ops'[i]? =some o':=⟨_,Array.getElem?_eq_getElem hi'⟩
   have hgo:=hgs i o' ho'
   simp only [ho',Region.wanted,hgo,if_true] at h2 ⊢
   rcases h2 with h2 | ⟨h2,a1,w1,h3⟩
   ·exact .inl (Oper.wp_mono (fun a w h=>ih _ a w (by simpa using hs) h) (wp_swap hne h2))
   ·exact .inr ⟨h2,a1,w1,hne _ _ _ (by simp) h3⟩
  ·have:i=ops'.size:=by
    have hi2:=hi
    rw [mem_ready] at hi2
    obtain ⟨_,o',ho',_⟩:=hi2
    have:=(Array.getElem?_eq_some_iff.1 ho').1
    omega
   subst this
   have hl:=atz listed hs hi
   exact lastw listed a w (fuel+1) hs hl (h0 (ready_full hs hl))
structure LentB (w0:World) (E0:Env0) (w1:World) (E1:Env0) (g i n b0 c0:Nat) (arr0:Array Value) (ty0:TypeId) (y:Value):Prop where
 ext:Ext w0 E0.toEnv w1 E1.toEnv
 heap:w1.heap[b0]? =some (.cells arr0 ty0 (0,0))
 free:E1.κ b0=none
 cell:arr0[i]? =some y
 one:y.oneCell'=true
 gv:E1.gv=fun k=>if k=g then y else E0.gv k
 cap:n≤c0
def pickS:List Nat→List (Nat×AV)→Option (List (Nat×AV))
 | [],_=>some []
 | k::l,sl=>match look sl k,pickS l sl with
  | some v,some r=>some ((k,v)::r)
  | _,_=>none
def lentQ (h0:Nat) (Q:Exit→St→Prop) (id i k5:Nat) (ks:List Nat) (V:Value) (t':Ty) (xs:List (List t'.den)) (kr:Nat→AV→St→Prop):Exit→St→Prop:=fun e s' =>
 e= .normal∧∃ver v1 t1 xs1 m1 ys' sv,look s'.sl k5=some (.lf (.raw V))∧s'.H[id]? =some (some (.arr v1 t1 xs1 m1))∧s'.H[h0]? =some (some (.arr ver t' ys' .dp))∧
  kr h0 (.lf (.hd h0 ver none)) s'∧pickS ks s'.sl=some sv∧Q .normal ⟨(k5, .lf (.hd id (v1+1) none))::sv,(s'.H.set h0 none).set id (some (.arr (v1+1) (.sl t') (xs.set i ys') .dp))⟩
theorem hsl_of {g:Nat} {sl:List (Nat×AV)}:∀{ks:List Nat} {sv:List (Nat×AV)},pickS ks sl=some sv→(ks.all fun k=> !Nat.beq k g)=true→∀k v,look sv k=some v→look sl k=some v∧k≠g
 | [],sv,h,_,k,v,hv=>by
  simp only [pickS,Option.some.injEq] at h
  subst h
  simp [look] at hv
 | q::ks,sv,h,hg,k,v,hv=>by
  simp only [pickS] at h
  simp only [List.all_cons,Bool.and_eq_true,Bool.not_eq_true'] at hg
  split at h
  ·rename_i u r h1 h2
   simp only [Option.some.injEq] at h
   subst h
   rw [look_put] at hv
   split at hv
   ·rename_i e
    subst e
    simp only [Option.some.injEq] at hv
    subst hv
    refine ⟨h1,fun e=>?_⟩
    subst e
    have:=hg.1
    rw [show Nat.beq q q=true from Nat.beq_refl q] at this
    simp at this
   ·exact hsl_of h2 hg.2 k v hv
  ·simp at h
theorem VW.lend {c:Code} (k5 g:Nat) (ks:List Nat) {id cur i:Nat} {t':Ty} {xs:List (List t'.den)} (hH:s.H[id]? =some (some (.arr cur (.sl t') xs .dp))) (h5:look s.sl k5=some (.lf (.hd id cur none))) (hg:gb≤g) (h5g:k5≠g) (h1g:(ks.all fun k=> !Nat.beq k g)=true) (hgn:look s.sl g=none) (hi:i < xs.length)
  (k:∀(w1:World) (E1:Env0) (b0 c0:Nat) (arr0:Array Value) (ty0:TypeId) (y:Value),LentB w0 E0 w1 E1 g i xs.length b0 c0 arr0 ty0 y→
   VW P n w1 E1 c (lentQ s.H.length Q id i k5 ks (.slice (some ⟨b0,0,none⟩) xs.length c0) t' xs fun _ v s'=>look s'.sl g=some v) ⟨(k5, .lf (.raw (.slice (some ⟨b0,0,none⟩) xs.length c0)))::(g, .lf (.hd s.H.length 0 none))::s.sl,s.H.set id (some (.arr (cur+1) (.sl t') [] .dp))++[some (.arr 0 t' (xs.getD i []) .dp)]⟩):VW P n w0 E0 c Q s:=by
 intro a w hs
 obtain ⟨E,μ,hA⟩:=hs.at
 obtain ⟨b0,c0,arr0,ty0,hL⟩:=hA.mr.lent hH hi
 obtain ⟨y,y1,y2,hA1⟩:=hA.lend hH h5 hg h5g hgn hi hL
 have hx:xs.getD i []=xs[i]:=by simp [List.getD,hi]
 have hfr:¬Bel E id b0 i b0:=fun h=>h.ne hL.f5 rfl
 have hk:=k w ⟨lnF E id b0 i s.H.length,fun k=>if k=g then y else E0.gv k⟩ b0 c0 arr0 ty0 y ⟨hA.lend_ext,hL.f3,lnF_fr hfr hL.f5,y1,y2,rfl,hL.f2⟩
 rw [hx] at hk
 refine wp_mono (hk a w hA1.rel) ?_
 rintro e a' w' ⟨s',h1,rfl,ver,v1,t1,xs1,m1,ys',sv,q1,q2,q3,q4,q5,q6⟩
 obtain ⟨E',μ',hA'⟩:=h1.at
 have hb0':w'.heap[b0]? =some (.cells arr0 ty0 (0,0)):=by
  rw [hA'.ext.block b0 (Array.getElem?_eq_some_iff.1 hL.f3).1 (lnF_fr hfr hL.f5)]
  exact hL.f3
 have hμ:μ' s.H.length=y:=by
  obtain ⟨z,z1,z2⟩:=hA'.slots _ _ q4
  rw [getS_g hg (E0:=E0) rfl] at z1
  simp only [Option.some.injEq] at z1
  subst z1
  simp only [AR,LR,q3] at z2
  have:=z2.2.2 trivial
  simp only [HdR] at this
  exact this.symm
 exact ⟨_,(hA.back hH hg h5g hi hL hA' q1 q2 q3 rfl rfl rfl rfl hb0' rfl (fun _ _=>rfl) (by rw [hμ];exact y1) (fun _ _=>rfl) (hsl_of q5 h1g)).rel,q6⟩
theorem last_store (hT:TabOk P T) {a a':Act} (hA:At n w0 E0 s a w E μ) {k5 g id cur i b0:Nat} {ks:List Nat} {t':Ty} {xs:List (List t'.den)} (hH:s.H[id]? =some (some (.arr cur (.sl t') xs .dp))) (hg:gb≤g) (h5g:k5≠g) (h1g:(ks.all fun k=> !Nat.beq k g)=true) (hi:i < xs.length)
  {c0:Nat} {arr0:Array Value} {ty0:TypeId} (hL:Lent w E μ id i t' xs b0 c0 arr0 ty0) {y:Value} {o:Oper} {t:TypeId} {ti:TI} {k16 k17:Nat} (ho:o.guard=none∧o.dst=none∧o.op= .store t (.tmp k17) (.tmp k16)) (hel:elemTy T t=some (ti,t'))
  {R:Exit→Act→World→Prop} (hR:∀a w s,SRel n w0 E0 s a w→Q .normal s→R .normal a w)
  (h1:SRel n w ⟨lnF E id b0 i s.H.length,fun k=>if k=g then y else E0.gv k⟩ s' a' w')
  (hq:lentQ s.H.length Q id i k5 ks (.slice (some ⟨b0,0,none⟩) xs.length c0) t' xs (fun _ v s'=>opnd s'.sl (.tmp k16)=some v∧opnd s'.sl (.tmp k17)=some (.lf (.raw (.pointer (some ⟨b0,i,none⟩))))) .normal s'):o.wp P a' w' (R .normal) R:=by
 obtain ⟨_,ver,v1,t1,xs1,m1,ys',sv,q1,q2,q3,⟨q4,q4'⟩,q5,q6⟩:=hq
 obtain ⟨E',μ',hA'⟩:=h1.at
 have hfr:¬Bel E id b0 i b0:=fun h=>h.ne hL.f5 rfl
 have hb0':w'.heap[b0]? =some (.cells arr0 ty0 (0,0)):=by
  rw [hA'.ext.block b0 (Array.getElem?_eq_some_iff.1 hL.f3).1 (lnF_fr hfr hL.f5)]
  exact hL.f3
 have e17:a'.eval (.tmp k17)= .pointer (some ⟨b0,i,none⟩):=(hA'.opnd q4').1
 have h16:=hA'.opnd q4
 have one16:(a'.eval (.tmp k16)).oneCell'=true:=h16.1
 have e16:a'.eval (.tmp k16)=μ' s.H.length:=by
  simp only [AR,LR,q3] at h16
  have:=h16.2.2 trivial
  simpa only [HdR] using this
 rw [e16] at one16
 obtain ⟨ti',hti,hty⟩:∃ti',T t=some ti'∧ti'.ty= .sl t':=by
  unfold elemTy at hel
  split at hel
  ·rename_i i1 h1
   split at hel
   ·rename_i e' he'
    simp only [Option.some.injEq,Prod.mk.injEq] at hel
    exact ⟨i1,h1,by rw [he',hel.2]⟩
   ·simp at hel
  ·simp at hel
 have hcs:=one_cells one16
 have hi0:i < arr0.size:=by
  have h2:=hL.f4
  have h3:=hL.f2
  omega
 have hst:=storeVar_run hT hti (b:=b0) (o:=i) hb0' (y:=μ' s.H.length) (by rw [hty,hcs];rfl) (by rw [hcs];show i+1≤arr0.size;omega) (by rw [hcs];intro v hv;simp at hv;subst hv;exact one16)
 rw [hcs] at hst
 generalize hnew:(arr0.toList.take i++(#[μ' s.H.length]:Array Value).toList++arr0.toList.drop (i+(#[μ' s.H.length]:Array Value).size)).toArray=arr4 at hst
 have hnew':arr4=(arr0.toList.take i++[μ' s.H.length]++arr0.toList.drop (i+1)).toArray:=hnew.symm
 have hcells:∀q,arr4[q]? =if q=i then some (μ' s.H.length) else arr0[q]? :=by
  intro q
  rw [hnew',List.getElem?_toArray,List.append_assoc,List.getElem?_append,List.length_take,Array.length_toList,Nat.min_eq_left (by omega)]
  by_cases q1:q < i
  ·rw [if_pos q1,if_neg (by omega),List.getElem?_take,if_pos q1,Array.getElem?_toList]
  ·rw [if_neg q1]
   by_cases q2:q=i
   ·rw [if_pos q2,q2,Nat.sub_self];rfl
   ·rw [if_neg q2,List.getElem?_append_right (by simp;omega),List.getElem?_drop,Array.getElem?_toList,List.length_singleton]
    congr 1
    omega
 have hsz4:arr4.size=arr0.size:=by
  rw [hnew']
  simp only [List.size_toArray,List.length_append,List.length_take,List.length_drop,Array.length_toList,List.length_singleton]
  omega
 have hrun:(execOp a'.eval o).run P w'= .ok .skip (w'.setRow b0 arr4):=by
  simp only [execOp,ho.2.2,Instr.storeAt,e17,e16,Instr.sureAddr,Sem.run_bind,Sem.run_pure,Result.andThen_ok,hst]
 have hfin:=(hA.back hH hg h5g hi hL hA' q1 q2 q3 (w2:=w'.setRow b0 arr4) rfl rfl rfl (setRow_len _ _ _) (setRow_this w' b0 arr0 arr4 ty0 _ hb0') hsz4 (fun q hq=>by rw [hcells,if_neg hq]) (by rw [hcells,if_pos rfl]) (fun c hc=>setRow_other w' b0 c arr4 hc) (hsl_of q5 h1g)).rel
 simp only [Oper.wp,hrun,Oper.upon]
 rw [ho.2.1]
 exact hR _ _ _ hfin q6
def VA (P:Program) (n:Nat) (w0:World) (E0:Env0) (ops:Array Oper) (Q:Exit→St→Prop) (s:St):Prop :=
 ∀a w,SRel n w0 E0 s a w→wpAny P .any ops (fun e a' w'=>∃s',SRel n w0 E0 s' a' w'∧Q e s') ops.size (Array.replicate ops.size false) a { w with drawn:=w.drawn+1 }
theorem VA.drawn (es:List (Option (Nat×AV))) (ns:List Nat) (Hs:List Heap) (L:List (Nat×Nat)) (keep π:List Nat) (hok:drawOk ops es ns L=true) (h0:(Hs[0]?).getD []=s.H)
  (hst:AllP (StpAt P n w0 E0 ops Q s.sl es ns Hs) L) (he:(bif nodup π then some ((⟨fin ops es s.sl,(Hs[ns.length]?).getD []⟩:St).ren keep π) else none)=some s') (k:Q .normal s'):VA P n w0 E0 ops Q s:=by
 intro a w hs
 have hrep:∀x,(Array.replicate ops.size false).getD x false=false:=by
  intro x
  rw [Array.getD_eq_getD_getElem?,Array.getElem?_replicate]
  split <;> rfl
 refine drawn_all hok hst ?_ ops.size _ a _ 0 s.sl ⟨by simp,Nat.zero_le _,?_,?_,?_,?_,?_⟩ ?_
 ·intro a' w' hr
  cases hn:nodup π with
  | false=>rw [hn] at he;simp at he
  | true =>
   rw [hn] at he
   simp only [cond_true,Option.some.injEq] at he
   subst he
   exact ⟨_,Gh.ren keep π hn a' w' hr,k⟩
 ·intro j x hx
  rw [hrep]
  simp
 ·rw [h0]
  exact hs.drew
 ·intro i d v hi
  rw [hrep] at hi
  simp at hi
 ·exact fun k v hv _=>hv
 ·intro x hx
  rw [hrep] at hx
  simp at hx
 ·exact Nat.le_trans (List.length_filter_le _ _) (by simp)
theorem VO.lendS {o:Oper} (k5 g k16 k17:Nat) (ks:List Nat) (hT:TabOk P T) {id cur i:Nat} {t':Ty} {xs:List (List t'.den)} (hH:s.H[id]? =some (some (.arr cur (.sl t') xs .dp))) (h5:look s.sl k5=some (.lf (.hd id cur none))) (hg:gb≤g) (h5g:k5≠g) (h1g:(ks.all fun k=> !Nat.beq k g)=true) (hgn:look s.sl g=none) (hi:i < xs.length)
  {t:TypeId} {ti:TI} (hback:rest.getLast? =some o) (ho:o.guard=none∧o.dst=none∧o.op= .store t (.tmp k17) (.tmp k16)) (hel:elemTy T t=some (ti,t'))
  (k:∀(w1:World) (E1:Env0) (b0 c0:Nat) (arr0:Array Value) (ty0:TypeId) (y:Value),LentB w0 E0 w1 E1 g i xs.length b0 c0 arr0 ty0 y→
   VO P n w1 E1 ops (lentQ s.H.length Q id i k5 ks (.slice (some ⟨b0,0,none⟩) xs.length c0) t' xs fun _ v s'=>opnd s'.sl (.tmp k16)=some v∧opnd s'.sl (.tmp k17)=some (.lf (.raw (.pointer (some ⟨b0,i,none⟩))))) rest.dropLast ⟨(k5, .lf (.raw (.slice (some ⟨b0,0,none⟩) xs.length c0)))::(g, .lf (.hd s.H.length 0 none))::s.sl,s.H.set id (some (.arr (cur+1) (.sl t') [] .dp))++[some (.arr 0 t' (xs.getD i []) .dp)]⟩):VO P n w0 E0 ops Q rest s:=by
 intro a w hs
 obtain ⟨E,μ,hA⟩:=hs.at
 obtain ⟨b0,c0,arr0,ty0,hL⟩:=hA.mr.lent hH hi
 obtain ⟨y,y1,y2,hA1⟩:=hA.lend hH h5 hg h5g hgn hi hL
 have hx:xs.getD i []=xs[i]:=by simp [List.getD,hi]
 have hfr:¬Bel E id b0 i b0:=fun h=>h.ne hL.f5 rfl
 have hk:=k w ⟨lnF E id b0 i s.H.length,fun k=>if k=g then y else E0.gv k⟩ b0 c0 arr0 ty0 y ⟨hA.lend_ext,hL.f3,lnF_fr hfr hL.f5,y1,y2,rfl,hL.f2⟩
 rw [hx] at hk
 have hr:rest=rest.dropLast++[o]:=by
  obtain ⟨ys,rfl⟩:=List.getLast?_eq_some_iff.1 hback
  simp
 rw [hr]
 refine list_last ho.1 ?_ ?_ rest.dropLast a w (hk a w hA1.rel)
 ·rintro e a' w' hne ⟨s',_,h,_⟩
  exact absurd h hne
 ·rintro a' w' ⟨s',h1,h2⟩
  exact last_store (R:=fun e a' w'=>∃s',SRel n w0 E0 s' a' w'∧Q e s') hT hA hH hg h5g h1g hi hL ho hel (fun a w s h1 h2=>⟨s,h1,h2⟩) h1 h2
theorem pop_push {o:Oper} (h:ops.back? =some o):ops=ops.pop.push o:=by
 obtain ⟨l⟩:=ops
 simp only [List.back?_toArray] at h
 obtain ⟨ys,rfl⟩:=List.getLast?_eq_some_iff.1 h
 simp
theorem VW.eqs {c:Code} (h:s=s') (k:VW P n w0 E0 c Q s'):VW P n w0 E0 c Q s:=by subst h;exact k
theorem LentB.up {w1 w2:World} {E1 E2:Env0} {g i m b0 c0 g' i' m' b1 c1:Nat} {arr0 arr1:Array Value} {ty0 ty1:TypeId} {y y':Value} (h:LentB w0 E0 w1 E1 g i m b0 c0 arr0 ty0 y) (h':LentB w1 E1 w2 E2 g' i' m' b1 c1 arr1 ty1 y') :
  w2.heap[b0]? =some (.cells arr0 ty0 (0,0))∧E2.κ b0=none:=by
 have hlt:=(Array.getElem?_eq_some_iff.1 h.heap).1
 refine ⟨by rw [h'.ext.block b0 hlt h.free];exact h.heap,?_⟩
 cases hk:E2.κ b0 with
 | none=>rfl
 | some x =>
  rcases h'.ext.own b0 (by simp [hk]) with h1 | h1
  ·exact absurd h.free h1
  ·omega
theorem VW.lendS {rid:Nat} {o:Oper} (hm:P.follows .mixedOrders=true) (k5 g k16 k17:Nat) (ks:List Nat) (hT:TabOk P T) {id cur i:Nat} {t':Ty} {xs:List (List t'.den)} (hH:s.H[id]? =some (some (.arr cur (.sl t') xs .dp))) (h5:look s.sl k5=some (.lf (.hd id cur none))) (hg:gb≤g) (h5g:k5≠g) (h1g:(ks.all fun k=> !Nat.beq k g)=true) (hgn:look s.sl g=none) (hi:i < xs.length)
  {t:TypeId} {ti:TI} (hback:ops.back? =some o) (hok:(((List.range ops.pop.size).all fun i=>(aft ops.pop i).all fun j=>Nat.blt j i) && ((List.range ops.pop.size).all fun j=>memN j (aft ops ops.pop.size)) && ((aft ops ops.pop.size).all fun j=>Nat.blt j ops.pop.size) && ops.pop.toList.all fun o=>o.guard.isNone)=true)
  (ho:o.guard=none∧o.dst=none∧o.op= .store t (.tmp k17) (.tmp k16)) (hel:elemTy T t=some (ti,t'))
  (k:∀(w1:World) (E1:Env0) (b0 c0:Nat) (arr0:Array Value) (ty0:TypeId) (y:Value),LentB w0 E0 w1 E1 g i xs.length b0 c0 arr0 ty0 y→
   VA P n w1 E1 ops.pop (lentQ s.H.length Q id i k5 ks (.slice (some ⟨b0,0,none⟩) xs.length c0) t' xs fun _ v s'=>opnd s'.sl (.tmp k16)=some v∧opnd s'.sl (.tmp k17)=some (.lf (.raw (.pointer (some ⟨b0,i,none⟩))))) ⟨(k5, .lf (.raw (.slice (some ⟨b0,0,none⟩) xs.length c0)))::(g, .lf (.hd s.H.length 0 none))::s.sl,s.H.set id (some (.arr (cur+1) (.sl t') [] .dp))++[some (.arr 0 t' (xs.getD i []) .dp)]⟩):VW P n w0 E0 (.region rid ops true) Q s:=by
 intro a w hs
 obtain ⟨E,μ,hA⟩:=hs.at
 obtain ⟨b0,c0,arr0,ty0,hL⟩:=hA.mr.lent hH hi
 obtain ⟨y,y1,y2,hA1⟩:=hA.lend hH h5 hg h5g hgn hi hL
 have hx:xs.getD i []=xs[i]:=by simp [List.getD,hi]
 have hfr:¬Bel E id b0 i b0:=fun h=>h.ne hL.f5 rfl
 have hk:=k w ⟨lnF E id b0 i s.H.length,fun k=>if k=g then y else E0.gv k⟩ b0 c0 arr0 ty0 y ⟨hA.lend_ext,hL.f3,lnF_fr hfr hL.f5,y1,y2,rfl,hL.f2⟩
 rw [hx] at hk
 simp only [Bool.and_eq_true,List.all_eq_true,List.mem_range] at hok
 obtain ⟨⟨⟨k1',k2'⟩,k3'⟩,k4'⟩:=hok
 refine wp_region_any hm ?_
 have hops:=pop_push hback
 have hsz:ops.size=ops.pop.size+1:=by
  have:=congrArg Array.size hops
  simpa only [Array.size_push] using this
 have hrep:Array.replicate ops.size false=(Array.replicate ops.pop.size false).push false:=by rw [hsz,Array.replicate_succ]
 rw [hrep,hsz]
 refine any_last hops (fun i hi j hj=>by simpa [Nat.blt_eq] using k1' i hi j hj) (fun j hj=>memN_iff.1 (k2' j hj)) (fun j hj=>by simpa [Nat.blt_eq] using k3' j hj) (fun i o' ho'=>?_) ho.1 ?_ ?_ ops.pop.size _ a _ (by simp) (hk a w hA1.rel)
 ·have:=k4' o' (Array.mem_toList_iff.2 (Array.mem_of_getElem? ho'))
  simpa using this
 ·rintro e a' w' hne ⟨s',_,h,_⟩
  exact absurd h hne
 ·rintro a' w' ⟨s',h1,h2⟩
  exact last_store (R:=fun e a' w'=>∃s',SRel n w0 E0 s' a' w'∧Q e s') hT hA hH hg h5g h1g hi hL ho hel (fun a w s h1 h2=>⟨s,h1,h2⟩) h1 h2
theorem VO.ixRaw (hT:TabOk P T) {o:Oper} {d b len cap i:Nat} {t:TypeId} {x xi:Operand} {e:Ty} {kk:IntKind} {z:Int} (ho:o.guard=none∧o.dst=some d∧o.op= .indexAddr t x xi) (hd:d < n) (hel:elemIs T t e=true) (hlv:e.lv=1)
  (hx:opnd s.sl x=some (.lf (.raw (.slice (some ⟨b,0,none⟩) len cap)))) (hxi:opnd s.sl xi=some (.lf (.v (.int kk) z))) (hz:0≤z∧z.toNat=i) (hi:i < len)
  (k:VO P n w0 E0 ops Q rest ⟨(d, .lf (.raw (.pointer (some ⟨b,i,none⟩))))::s.sl,s.H⟩):VO P n w0 E0 ops Q (o::rest) s:=by
 intro a w hs
 obtain ⟨E,μ,hA⟩:=hs.at
 have e1:a.eval x= .slice (some ⟨b,0,none⟩) len cap:=(hA.opnd hx).1
 have e2:a.eval xi= .int kk z:=by simpa [AR,LR,Rep,at0] using hA.opnd hxi
 have q4:=indexAt_any hT hel (b:=b) (o:=0) (len:=len) (cap:=cap) (kk:=kk) hz.1 (by omega) w
 rw [hz.2,hlv,Nat.zero_add,Nat.mul_one] at q4
 refine wpList_value (y:= .pointer (some ⟨b,i,none⟩)) (w':=w) ho.1 (by simp only [execOp,ho.2.2,e1,e2,Sem.run_bind,Sem.run_pure,q4,Result.andThen_ok]) ?_
 rw [ho.2.1]
 exact k _ _ (hA.put hd hA.mr (Ext.refl w E) (fun b hb=>⟨hb,rfl⟩) (KpH.refl μ s.H) (v:= .lf (.raw (.pointer (some ⟨b,i,none⟩)))) ⟨rfl,rfl⟩).rel
theorem VO.lenRaw (hT:TabOk P T) {o:Oper} {d len cap:Nat} {b:Option Addr} {cl:Call} {t:TypeId} {x:Operand} {e:Ty} (ho:o.guard=none∧o.dst=some d∧o.op= .call cl) (hcl:cl.callee= .builtin .len∧cl.args= #[x]∧cl.argTypes= #[t]) (hd:d < n) (hel:elemIs T t e=true)
  (hx:opnd s.sl x=some (.lf (.raw (.slice b len cap)))) (k:VO P n w0 E0 ops Q rest ⟨(d, .lf (.v (.int .i64) (len:Int)))::s.sl,s.H⟩):VO P n w0 E0 ops Q (o::rest) s:=by
 intro a w hs
 obtain ⟨E,μ,hA⟩:=hs.at
 have e1:a.eval x= .slice b len cap:=(hA.opnd hx).1
 obtain ⟨ti,ej,_,_,hu,_,_⟩:=elemIs_under hT hel
 refine wpList_value (y:= .int .i64 len) (w':=w) ho.1 (by
  simp only [execOp,ho.2.2,resolve,hcl.1,hcl.2.1,hcl.2.2,Sem.run_bind,Sem.run_pure,Result.andThen_ok,invoke,builtin]
  simp [e1,Builtin.len_,run_underlying hu,goInt]) ?_
 rw [ho.2.1]
 exact k _ _ (hA.put hd hA.mr (Ext.refl w E) (fun b hb=>⟨hb,rfl⟩) (KpH.refl μ s.H) (v:= .lf (.v (.int .i64) (len:Int))) (AR_int _ _)).rel
theorem VO.ldRaw (hT:TabOk P T) (g:Nat) {o:Oper} {d b i:Nat} {t:TypeId} {ti:TI} {x:Operand} {e:Ty} {arr:Array Value} {ty:TypeId} {y:Value} {v:AV} (ho:o.guard=none∧o.dst=some d∧o.op= .load t x) (hd:d < n) (hel:elemTy T t=some (ti,e))
  (hx:opnd s.sl x=some (.lf (.raw (.pointer (some ⟨b,i,none⟩))))) (hb:w0.heap[b]? =some (.cells arr ty (0,0))) (hκ:E0.κ b=none) (hy:arr[i]? =some y) (hone:y.oneCell'=true) (hg:gb≤g) (hgv:E0.gv g=y) (hv:look s.sl g=some v)
  (k:VO P n w0 E0 ops Q rest ⟨(d,v)::s.sl,s.H⟩):VO P n w0 E0 ops Q (o::rest) s:=by
 intro a w hs
 obtain ⟨E,μ,hA⟩:=hs.at
 have e1:a.eval x= .pointer (some ⟨b,i,none⟩):=(hA.opnd hx).1
 obtain ⟨ti',hti,hty⟩:∃ti',T t=some ti'∧ti'.ty= .sl e:=by
  unfold elemTy at hel
  split at hel
  ·rename_i i1 h1
   split at hel
   ·rename_i e' he'
    simp only [Option.some.injEq,Prod.mk.injEq] at hel
    exact ⟨i1,h1,by rw [he',hel.2]⟩
   ·simp at hel
  ·simp at hel
 have hbw:w.heap[b]? =some (.cells arr ty (0,0)):=by
  rw [hA.ext.block b (Array.getElem?_eq_some_iff.1 hb).1 hκ]
  exact hb
 have hcy:cellAt w b (i+0)=some y:=by
  simp only [cellAt,World.cell?,hbw,Option.isSome_none,Bool.false_eq_true,if_false,Nat.add_zero]
  exact hy
 have hld:(loadVar t ⟨b,i,none⟩).run P w= .ok y w:=by
  have:=hT.loadVar hti w b i [y] (by rw [hty];rfl) (fun q v hq=>by
   cases q with
   | zero=>simp only [List.getElem?_cons_zero,Option.some.injEq] at hq;subst hq;exact hcy
   | succ q=>simp at hq)
  rw [hty] at this
  simpa [Ty.isPair] using this
 refine wpList_value (y:=y) (w':=w) ho.1 (by simp only [execOp,ho.2.2,e1,Instr.loadAt,Instr.sureAddr,Sem.run_bind,Sem.run_pure,Result.andThen_ok,hld]) ?_
 rw [ho.2.1]
 obtain ⟨z,z1,z2⟩:=hA.slots _ _ hv
 have:z=y:=by
  unfold getS at z1
  rw [if_neg (by omega),hgv] at z1
  simpa using z1.symm
 subst this
 exact k _ _ (hA.put hd hA.mr (Ext.refl w E) (fun b hb=>⟨hb,rfl⟩) (KpH.refl μ s.H) z2).rel
theorem Stp.ixRaw (hT:TabOk P T) {o:Oper} {d b len cap i:Nat} {t:TypeId} {x xi:Operand} {e:Ty} {kk:IntKind} {z:Int} (ho:o.guard=none∧o.dst=some d∧o.op= .indexAddr t x xi) (hd:d < n) (hel:elemIs T t e=true) (hlv:e.lv=1)
  (hx:opnd view x=some (.lf (.raw (.slice (some ⟨b,0,none⟩) len cap)))) (hxi:opnd view xi=some (.lf (.v (.int kk) z))) (hz:0≤z∧z.toNat=i) (hi:i < len):Stp P n w0 E0 ops Q o view H (some (d, .lf (.raw (.pointer (some ⟨b,i,none⟩))))) H :=
 fun sl hle=>VO.ixRaw hT (s:=⟨sl,H⟩) ho hd hel hlv (hle.opnd hx) (hle.opnd hxi) hz hi (VO.nil rfl)
theorem Stp.ldRaw (hT:TabOk P T) (g:Nat) {o:Oper} {d b i:Nat} {t:TypeId} {ti:TI} {x:Operand} {e:Ty} {arr:Array Value} {ty:TypeId} {y:Value} {v:AV} (ho:o.guard=none∧o.dst=some d∧o.op= .load t x) (hd:d < n) (hel:elemTy T t=some (ti,e))
  (hx:opnd view x=some (.lf (.raw (.pointer (some ⟨b,i,none⟩))))) (hb:w0.heap[b]? =some (.cells arr ty (0,0))) (hκ:E0.κ b=none) (hy:arr[i]? =some y) (hone:y.oneCell'=true) (hg:gb≤g) (hgv:E0.gv g=y) (hv:look view g=some v):Stp P n w0 E0 ops Q o view H (some (d,v)) H :=
 fun sl hle=>VO.ldRaw hT g (s:=⟨sl,H⟩) ho hd hel (hle.opnd hx) hb hκ hy hone hg hgv (hle g v hv) (VO.nil rfl)
theorem Stp.appY {o:Oper} {d:Nat} {φ:Prop} {v:AV} {H':Heap} (hT:TabOk P T) (h:evAppY T n ⟨view,H⟩ o=some (d,φ,v,H')) (hφ:φ):Stp P n w0 E0 ops Q o view H (some (d,v)) H':=by
 intro sl hle
 have h2:evAppY T n ⟨sl,H⟩ o=some (d,φ,v,H'):=by
  unfold evAppY at h ⊢
  split at h
  ·rename_i d' args argTypes hg hd ho
   cases hb:Nat.blt d' n with
   | false=>rw [hb] at h;simp at h
   | true =>
    rw [hb] at h
    simp only [cond_true] at h ⊢
    split at h
    ·rename_i x y t t' ha ht
     cases hc:Nat.beq t t' with
     | false=>rw [hc] at h;simp at h
     | true =>
      rw [hc] at h
      simp only [cond_true] at h ⊢
      split at h
      ·rename_i ti e id ver l vl he h1 h2
       simp only [he,hle.opnd h1,hle.opnd h2]
       exact h
      ·simp at h
    ·simp at h
  ·simp at h
 exact VO.appY hT h2 hφ (VO.nil rfl)
end
end Go.Proofs.YtmkhmpcealeidaaGreat.Vc
namespace Go.Proofs.YtmkhmpcealeidaaGreat.Vc
open Go Go.RowKit Go.Sort Go.Shelf
set_option linter.unusedVariables false
set_option linter.unusedSimpArgs false
def cmpL:List Int→List Int→Int
 | [],[]=>0
 | [],_::_=> -1
 | _::_,[]=>1
 | x::xs,y::ys=>if x < y then -1 else if x > y then 1 else cmpL xs ys
def leL (x y:List Int):Bool:=decide (cmpL x y≤0)
theorem cmpL_neg:∀x y:List Int,cmpL y x= -cmpL x y
 | [],[]=>rfl
 | [],_::_=>rfl
 | _::_,[]=>rfl
 | x::xs,y::ys=>by
  simp only [cmpL]
  have:=cmpL_neg xs ys
  by_cases h1:x < y
  ·rw [if_pos h1,if_neg (show ¬y < x by omega),if_pos h1];rfl
  ·by_cases h2:y < x
   ·simp [h1,h2]
   ·rw [if_neg h1,if_neg h2,if_neg h2,if_neg h1,this]
theorem cmpL_zero:∀{x y:List Int},cmpL x y=0→x=y
 | [],[],_=>rfl
 | [],_::_,h=>by simp [cmpL] at h
 | _::_,[],h=>by simp [cmpL] at h
 | x::xs,y::ys,h=>by
  simp only [cmpL] at h
  split at h
  ·simp at h
  ·split at h
   ·simp at h
   ·rw [cmpL_zero h,show x=y by omega]
theorem cmpL_trans:∀{x y z:List Int},cmpL x y≤0→cmpL y z≤0→cmpL x z≤0
 | [],_,[],_,_=>by simp [cmpL]
 | [],_,_::_,_,_=>by simp [cmpL]
 | _::_,[],_,h,_=>by simp [cmpL] at h
 | _::_,_::_,[],_,h=>by simp [cmpL] at h
 | x::xs,y::ys,z::zs,h1,h2=>by
  simp only [cmpL] at h1 h2 ⊢
  by_cases a1:x < y
  ·by_cases a2:y < z
   ·rw [if_pos (by omega)];omega
   ·rw [if_neg a2] at h2
    by_cases a3:y > z
    ·rw [if_pos a3] at h2;omega
    ·rw [if_pos (by omega)];omega
  ·rw [if_neg a1] at h1
   by_cases a2:x > y
   ·rw [if_pos a2] at h1;omega
   ·rw [if_neg a2] at h1
    have e:x=y:=by omega
    subst e
    by_cases a3:x < z
    ·rw [if_pos a3];omega
    ·rw [if_neg a3] at h2 ⊢
     by_cases a4:x > z
     ·rw [if_pos a4] at h2;omega
     ·rw [if_neg a4] at h2 ⊢
      exact cmpL_trans h1 h2
theorem leL_trans (a b c:List Int) (h1:leL a b=true) (h2:leL b c=true):leL a c=true:=by
 simp only [leL,decide_eq_true_eq] at *
 exact cmpL_trans h1 h2
theorem leL_total (a b:List Int):(leL a b || leL b a)=true:=by
 simp only [leL,Bool.or_eq_true,decide_eq_true_eq]
 have:=cmpL_neg a b
 omega
theorem leL_anti (a b:List Int) (h1:leL a b=true) (h2:leL b a=true):a=b:=by
 simp only [leL,decide_eq_true_eq] at *
 have:=cmpL_neg a b
 exact cmpL_zero (by omega)
theorem sorted_one {xs zs:List (List Int)} (hp:zs.Perm xs) (hs:zs.Pairwise fun a b=>leL a b=true):zs=xs.mergeSort leL :=
 List.Perm.eq_of_pairwise (le:=fun a b=>leL a b=true) (fun a b _ _ h1 h2=>leL_anti a b h1 h2) hs (List.pairwise_mergeSort leL_trans leL_total xs) (hp.trans (List.mergeSort_perm xs leL).symm)
theorem swo_rows (r:Nat→List Int):SWO (ltOf fun i j=>cmpL (r i) (r j)) where
 irrefl x:=by
  have:=cmpL_neg (r x) (r x)
  simp only [ltOf,decide_eq_false_iff_not]
  omega
 trans x y z h1 h2:=by
  simp only [ltOf,decide_eq_true_eq] at *
  have h3:cmpL (r x) (r z)≤0:=cmpL_trans (y:=r y) (by omega) (by omega)
  rcases Int.lt_or_eq_of_le h3 with h | h
  ·exact h
  ·have e:=cmpL_zero h
   have:=cmpL_neg (r x) (r y)
   rw [e] at h1 this
   omega
 ntrans x y z h1 h2:=by
  simp only [ltOf,decide_eq_false_iff_not] at *
  have a1:=cmpL_neg (r x) (r y)
  have a2:=cmpL_neg (r y) (r z)
  have a3:=cmpL_neg (r x) (r z)
  have:cmpL (r z) (r x)≤0:=cmpL_trans (y:=r y) (by omega) (by omega)
  omega
def HdrIs (w:World) (v:Value) (xs:List Int):Prop :=
 (xs=[]∧∃a c,v= .slice a 0 c)∨∃b o c,v= .slice (some ⟨b,o,none⟩) xs.length c∧∀j (h:j < xs.length),w.cell? ⟨b,o+j,none⟩=some (.int .i64 xs[j])
section
variable {P:Program} {w w':World} {E E':Env} {μ μ':Nat→Value} {H H':Heap}
theorem args2M {args:Array Value} {p q:AV} (h:All2 (AR w E μ H) [p,q] args.toList):∃y z,args= #[y,z]∧AR w E μ H p y∧AR w E μ H q z:=by
 obtain ⟨l⟩:=args
 cases h with
 | cons h1 h2 =>
  cases h2 with
  | cons h2 h3 =>
   cases h3
   exact ⟨_,_,rfl,h1,h2⟩
theorem sortWorld_heap {α:Type} [Inhabited α] (enc:α→Value) {b n:Nat} {d:Array α} {os:Array Obj} {cur:Array Value} {ty:TypeId} (hb:w.heap[b]? =some (.cells cur ty (0,0))) :
  (sortWorld enc w b 0 n d os).heap[b]? =some (.cells (putCells enc 0 d cur) ty (0,0)):=by
 have hg:b < w.heap.size:=(Array.getElem?_eq_some_iff.1 hb).1
 unfold sortWorld
 rw [heap_grow_old _ _ (by simpa using hg)]
 simp [putRow,mapBlock,Sort.ahead,Array.getElem?_modify,hb,onCells]
theorem sortWorld_other {α:Type} [Inhabited α] (enc:α→Value) {b n k:Nat} {d:Array α} {os:Array Obj} (hk:k < w.heap.size) (hne:k≠b):(sortWorld enc w b 0 n d os).heap[k]? =w.heap[k]? :=by
 unfold sortWorld
 rw [heap_grow_old _ _ (by simpa using hk)]
 simp [putRow,mapBlock,Sort.ahead,Array.getElem?_modify,Ne.symm hne]
theorem sortWorld_size {α:Type} [Inhabited α] (enc:α→Value) {b n:Nat} {d:Array α} {os:Array Obj}:w.heap.size≤(sortWorld enc w b 0 n d os).heap.size:=by
 unfold sortWorld
 simp [grow,putRow,mapBlock,Sort.ahead]
theorem con_sortRows {f g:FuncId} (he:∀args w,(callFunc f args).run P w= .ok (.enter f args) w) (hg0:∀args w,(callFunc g args).run P w= .ok (.enter g args) w) {xs:List (List Int)} (hsz:xs.length < 4611686018427387904) (hrl:∀x∈xs,x.length < 4611686018427387904)
  (h0:∀(p:Option Addr) (c:Nat) w,Calls P f #[.slice p 0 c, .func (.func g) #[] #[]] w fun e w'=>e= .returned (.tuple #[])∧w'=w)
  (h:∀(enc:Nat→Value) (cf:Nat→Nat→Int) (b c:Nat) (d:Array Nat) (w:World),OneCell enc→SWO (ltOf cf)→CmpLays1 P g #[] enc cf b 0 d.size w→Holds enc w b 0 d→b < w.heap.size→d.size < 4611686018427387904→
   Calls P f #[.slice (some ⟨b,0,none⟩) d.size c, .func (.func g) #[] #[]] w fun e w'=>e= .returned (.tuple #[])∧∃d' n os,PermIn 0 d.size d d'∧SortedIn (ltOf cf) 0 d.size d'∧w'=sortWorld enc w b 0 n d' os)
  (hg:∀(x y:List Int) (a b:Value) (w:World),x.length < 4611686018427387904→y.length < 4611686018427387904→HdrIs w a x→HdrIs w b y→Calls P g #[a,b] w fun e w'=>e= .returned (.int .i64 (cmpL x y))∧w'=w) :
  ConM P f [some (.arr 0 (.sl (.int .i64)) xs .tp)] [.lf (.hd 0 0 none), .clo g []] [] [some (.arr 0 (.sl (.int .i64)) (xs.mergeSort leL) .tp)]:=by
 refine ⟨he,fun w E μ args hM ht hargs=>?_⟩
 obtain ⟨y,z,rfl,hy,hz⟩:=args2M hargs
 have hy:y=μ 0:=hy.2.2 rfl
 subst hy
 obtain ⟨ca,rfl,hca⟩:=hz
 have hca0:ca= #[]:=by
  obtain ⟨l⟩:=ca
  cases hca
  rfl
 subst hca0
 have hl:(xs.mergeSort leL).length=xs.length:=List.length_mergeSort _
 obtain ⟨_,ha⟩:=hM.arr (id:=0) rfl
 rcases ha with ⟨rfl,a,ha⟩ | ⟨b,c,arr,ty,h1,h2,h3,h4,h5,h6⟩
 ·rw [ha]
  refine (h0 a 0 w).mono ?_
  rintro e w' ⟨rfl,rfl⟩
  rw [show ([]:List (List Int)).mergeSort leL=[] by simp]
  exact ⟨_,E,μ,rfl,Ext.refl _ _,hM,fun _ _ _=>rfl, #[],rfl,trivial⟩
 ·rw [h1]
  have hlt:b < w.heap.size:=(Array.getElem?_eq_some_iff.1 h3).1
  have h4:arr.size=c:=by simpa [Ty.lv] using h4
  have h6:∀i (hi:i < xs.length),Rep w E (.id 0) (.sl (.int .i64)) xs[i] .fz (fun j=> .inside b (i+j)) (fun j=>arr[i+j]?):=fun i hi=>by
   have:=h6 i hi
   have e:i*(Ty.sl (.int .i64)).lv=i:=Nat.mul_one i
   rw [e] at this
   refine Rep.fz (fun b hb=>⟨hb,rfl⟩) _ _ (fun j v _ hv=>?_) this
   simpa only [cellAt,World.cell?,h3,Option.isSome_none,Bool.false_eq_true,if_false] using hv
  let r:Nat→List Int:=fun i=>xs.getD i []
  let enc:Nat→Value:=fun i=>if i < xs.length then (arr[i]?).getD (.slice none 0 0) else .slice none 0 0
  have hrep:∀i,i < xs.length→arr[i]? =some (enc i)∧Rep w E (.id 0) (.sl (.int .i64)) (r i) .fz (fun _=> .top) (at0 (enc i)):=by
   intro i hi
   obtain ⟨v,hv,hv2⟩:=h6 i hi
   have hv:arr[i]? =some v:=by simpa using hv
   have e1:enc i=v:=by simp only [enc,if_pos hi,hv,Option.getD_some]
   have e2:r i=xs[i]:=by simp [r,List.getD,hi]
   rw [e1,e2]
   refine ⟨hv,v,by simp [at0],?_⟩
   rcases hv2 with ⟨a1,a2⟩ | ⟨a1,_⟩
   ·refine .inl ⟨rfl,a2.imp id ?_⟩
    rintro ⟨b',o',c',q1,q2,q3,q4⟩
    exact ⟨b',o',c',q1,q2,q3,fun k hk=>q4 k hk⟩
   ·exact absurd rfl a1
  have hlen:∀i,(r i).length < 4611686018427387904:=by
   intro i
   by_cases hi:i < xs.length
   ·have:r i=xs[i]:=by simp [r,List.getD,hi]
    rw [this]
    exact hrl _ (List.getElem_mem hi)
   ·have:r i=[]:=by simp [r,List.getD,hi]
    rw [this]
    decide
  have one:OneCell enc:=by
   intro i
   by_cases hi:i < xs.length
   ·exact rep_sl_one (hrep i hi).2 (v:=enc i) (by simp [at0])
   ·simp only [enc,if_neg hi]
    rfl
  have hdr:∀(W:World),(∀k,k < w.heap.size→k≠b→W.heap[k]? =w.heap[k]?)→∀i,HdrIs W (enc i) (r i):=by
   intro W hW i
   by_cases hi:i < xs.length
   ·obtain ⟨v,hv,hv2⟩:=(hrep i hi).2
    simp only [at0,if_true,Option.some.injEq] at hv
    subst hv
    rcases hv2 with ⟨_,a2⟩ | ⟨a1,_⟩
    ·rcases a2 with ⟨q1,a,c',q2⟩ | ⟨b',o',c',q1,q2,q3,q4⟩
     ·exact .inl ⟨q1,a,c',q2⟩
     ·refine .inr ⟨b',o',c',q1,fun j hj=>?_⟩
      have hb':b'≠b:=by
       rintro rfl
       have:=hM.apart _ q3
       rw [h5] at this
       simp at this
      have:=q4 j hj
      simp only [Rep,Ty.lv,Nat.mul_one,Nat.add_zero,cellAt] at this
      simp only [World.cell?,hW b' (hM.ltS b' q3) hb'] at this ⊢
      exact this
    ·exact absurd rfl a1
   ·refine .inl ⟨by simp [r,List.getD,hi],none,0,by simp only [enc,if_neg hi]⟩
  have hds:(Array.range xs.length).size=xs.length:=by simp
  have hcmp:CmpLays1 P g #[] enc (fun i j=>cmpL (r i) (r j)) b 0 (Array.range xs.length).size w:=by
   intro m os dk hdk x y
   refine (hg (r x) (r y) (enc x) (enc y) _ (hlen x) (hlen y) (hdr _ (fun k hk hne=>sortWorld_other enc hk hne) x) (hdr _ (fun k hk hne=>sortWorld_other enc hk hne) y)).mono ?_
   rintro e w' ⟨rfl,rfl⟩
   exact ⟨rfl,0, #[],by rw [grow_empty];rfl⟩
  have hH:Holds enc w b 0 (Array.range xs.length):=by
   intro j hj
   have hj':j < xs.length:=by simpa using hj
   refine ⟨?_,by simp [World.frozen?,h3]⟩
   rw [getElem!_pos (Array.range xs.length) j hj]
   simp only [World.cell?,h3,Nat.zero_add,Option.isSome_none,Bool.false_eq_true,if_false,Array.getElem_range]
   exact (hrep j hj').1
  have hc:=h enc (fun i j=>cmpL (r i) (r j)) b c (Array.range xs.length) w one (swo_rows r) hcmp hH hlt (by rw [hds];exact hsz)
  rw [hds] at hc
  refine hc.mono ?_
  rintro e w' ⟨rfl,d',m,os,hP,hS,rfl⟩
  obtain ⟨p1,_,p3⟩:=hP
  rw [hds] at p1
  have e1:d'.extract 0 xs.length=d':=by rw [←p1];exact Array.extract_size
  have e2:(Array.range xs.length).extract 0 xs.length=Array.range xs.length:=by
   conv=>lhs;arg 3;rw [←hds]
   exact Array.extract_size
  rw [e1,e2] at p3
  -- the rows,sorted
  have hmap:(List.range xs.length).map r=xs:=by
   apply List.ext_getElem
   ·simp
   ·intro i a1 a2
    simp [r,List.getD,a2]
  have hperm:(d'.toList.map r).Perm xs:=by
   have:=p3.map r
   rwa [Array.toList_range,hmap] at this
  have hsort:(d'.toList.map r).Pairwise fun a b=>leL a b=true:=by
   rw [List.pairwise_iff_getElem]
   intro i j a1 a2 hij
   have hi':i < d'.size:=by simpa using a1
   have hj':j < d'.size:=by simpa using a2
   have:=hS i j (Nat.zero_le _) hij (by omega)
   rw [getElem!_pos d' j hj',getElem!_pos d' i hi'] at this
   simp only [ltOf,decide_eq_false_iff_not] at this
   have e:=cmpL_neg (r d'[i]) (r d'[j])
   simp only [List.getElem_map,Array.getElem_toList,leL,decide_eq_true_eq]
   omega
  have hzs:=sorted_one hperm hsort
  have hin:∀k (hk:k < d'.size),d'[k] < xs.length:=by
   intro k hk
   have:d'[k]∈d'.toList:=by simp
   have:=p3.mem_iff.1 this
   simpa using this
  have hbw:=sortWorld_heap enc (n:=m) (d:=d') (os:=os) h3
  have hoth:∀k,k < w.heap.size→k≠b→(sortWorld enc w b 0 m d' os).heap[k]? =w.heap[k]? :=fun k hk hne=>sortWorld_other enc hk hne
  have hwsz:=sortWorld_size enc (w:=w) (b:=b) (n:=m) (d:=d') (os:=os)
  have hX:Ext w E (sortWorld enc w b 0 m d' os) E:=⟨rfl,rfl,rfl,hwsz,fun c hc hn=>hoth c hc (fun e=>by rw [e,h5] at hn;cases hn),fun _ h=>h,fun _ h=> .inl h,fun _ h=> .inl h⟩
  have hSk:∀c,E.S c→E.S c∧(sortWorld enc w b 0 m d' os).heap[c]? =w.heap[c]? :=fun c hc=>⟨hc,hoth c (hM.ltS c hc) (fun e=>by
   have:=hM.apart c hc
   rw [e,h5] at this
   cases this)⟩
  refine ⟨_,E,μ,rfl,hX,⟨hM.apart,fun c hc=>Nat.lt_of_lt_of_le (hM.ltS c hc) hwsz,fun c hc=>Nat.lt_of_lt_of_le (hM.ltκ c hc) hwsz,fun c r q hc=>?_,fun i blk hi=>?_⟩,fun _ _ _=>rfl, #[],rfl,trivial⟩
  ·rcases hM.roots c r q hc with ⟨m,g1,g2⟩ | ⟨m,_,g2⟩
   ·exact .inl ⟨m,g1,by simpa using g2⟩
   ·omega
  ·cases i with
   | zero =>
    simp only [List.getElem?_cons_zero,Option.some.injEq] at hi
    subst hi
    refine ⟨by simp,μ 0,by simp [at0], .inr ⟨by simp, .inr ⟨b,c,putCells enc 0 d' arr,ty,by rw [h1,hl],by omega,hbw,by simpa [Ty.lv,putCells] using h4,h5,fun j hj=>?_⟩⟩⟩
    have hj':j < d'.size:=by omega
    have hcell:(putCells enc 0 d' arr)[j]? =some (enc d'[j]):=by
     have hja:j < arr.size:=by omega
     simp only [putCells,Array.getElem?_mapIdx,Array.getElem?_eq_getElem hja,Option.map_some]
     rw [if_pos ⟨Nat.zero_le _,by omega⟩,Nat.sub_zero,getElem!_pos d' j hj']
    have hz:(xs.mergeSort leL)[j]=r d'[j]:=by
     have:(xs.mergeSort leL)[j]? =(d'.toList.map r)[j]? :=by rw [hzs]
     rw [List.getElem?_eq_getElem hj,List.getElem?_map,Array.getElem?_toList,Array.getElem?_eq_getElem hj'] at this
     simpa using this
    rw [hz]
    show Rep _ E (.id 0) (.sl (.int .i64)) (r d'[j]) .fz (fun k=> .inside b (j*1+k)) (fun k=>cellAt _ b (j*1+k))
    rw [Nat.mul_one]
    refine Rep.fz hSk _ _ (fun k v _ hv=>?_) (hrep _ (hin j hj')).2
    simp only [at0] at hv
    split at hv
    ·rename_i hk
     subst hk
     simp only [cellAt,World.cell?,hbw,Option.isSome_none,Bool.false_eq_true,if_false,Nat.add_zero,hcell]
     exact hv
    ·simp at hv
   | succ i=>simp at hi
end
end Go.Proofs.YtmkhmpcealeidaaGreat.Vc
