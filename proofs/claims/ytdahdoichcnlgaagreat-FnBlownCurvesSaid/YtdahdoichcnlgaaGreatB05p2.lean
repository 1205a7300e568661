import Derived.Test.YtdahdoichcnlgaaGreatB04p2
import Derived.Test.YtdahdoichcnlgaaGreatB01p2
import Derived.Test.YtdahdoichcnlgaaGreatB03p2
set_option linter.all false
set_option maxRecDepth 100000
set_option maxHeartbeats 1000000
open Bool renaming and_eq_true->zh,false_eq_true->yL
open Int renaming toNat_natCast->zV
open List renaming all_eq_true->yn,append_assoc->zU,append_nil->yv,cons_append->yb,contains_iff_mem->zcy,drop_of_length_le->kF,ext_getElem?->yH,find?_eq_none->Jq,find?_range_eq_some->jZ,getD_cons_succ->qG,getD_cons_zero->ji,getD_eq_getElem?_getD->zd,getElem?_append_left->zQ,getElem?_append_right->zR,getElem?_eq_getElem->zg,getElem?_eq_none->zG,getElem?_replicate->km,getElem_mem->yN,idxOf_append->ze0,idxOf_lt_length_iff->zaK,length_append->zp,length_cons->zi,length_drop->yE,length_nil->zq,length_pos_iff->QF,length_replicate->zE,length_singleton->yj,length_tail->Qm,map_cons->yP,mem_append->yW,mem_append_left->KC,mem_cons->zH,mem_cons_of_mem->zB,mem_iff_getElem->yM,mem_map->ua,mem_range->kr,mem_singleton->yF,replicate_append_replicate->qS,replicate_succ->yw,replicate_succ'->qM,sum_cons->KK,take_succ_cons->uW
open Nat renaming add_comm->Za,add_div_right->JR,add_mod_right->JQ,add_mul->jc,add_sub_cancel->yQ,div_eq_of_lt->zcb,dvd_refl->Kg,gcd_pos_of_pos_left->jE,gcd_self_add_right->JD,le_of_ble_eq_true->ze,le_refl->zt,mod_eq_of_lt->ZU,mul_comm->uw,mul_le_mul_right->yT,sub_self->kY,sub_zero->kz
open Option renaming bind_some->yS
open Option.some renaming injEq->za
open Prod.mk renaming injEq->zb
/-
 Branches as lists of natural numbers;their sequences;strict transforms. No conditions but those of the theorems.
-/
namespace Go.Ax
open Go.Proofs
theorem zkk{a b:Nat}(ha:0<a)(hb:0<b):qU (a:Int) (b:Int)=((Nat.gcd a b:Nat):Int):=by
 rw[qU,zdU (by omega),zdU (by omega),zi0 _ _ _ (zt _) (by omega) (by omega),zV,zV]
theorem zul:∀(l:List Nat) (p e:Nat),1<=p->p<=2000->1<=e->(zgm (p:Int) (e:Int) (yc l)=true↔YS p e l)
 |[],p,e,_,_,_=>by
  simp only[yc,List.map_nil,zgm,YS,beq_iff_eq];omega
 |t::l,p,e,hp,hp2,he=>by
  have hw:IntKind.wrap .i64 ((p:Int)+1)=(p:Int)+1:=zk (by omega) (by omega);simp only[yc,yP,zgm,YS,hw];by_cases h:p<t/\t<=2000
  ·have hi:yu (t:Int) ((p:Int)+1) 2000=true:=by
    simp only[yu,zh,decide_eq_true_eq];omega
   rw[hi,zkk (by omega) (by omega)];have ih:=zul l t (Nat.gcd e t) (by omega) h.2 (jE t (by omega));rw[yc]at ih;by_cases hg:Nat.gcd e t=e
   ·have hb:(((Nat.gcd e t:Nat):Int)==(e:Int))=true:=(by rw[hg];simp);rw[hb];simp[hg]
   ·have hb:(((Nat.gcd e t:Nat):Int)==(e:Int))=false:=by
     rw[beq_eq_false_iff_ne];omega
    rw[hb];simp only[Bool.not_true,cond_false,ih];exact⟨fun h2=>⟨h.1,h.2,hg,h2⟩,fun h2=>h2.2.2.2⟩
  ·have hi:yu (t:Int) ((p:Int)+1) 2000=false:=by
    rw[<-Bool.not_eq_true];simp only[yu,zh,decide_eq_true_eq];omega
   rw[hi];simp only[Bool.not_false,cond_true,yL,false_iff];exact fun h2=>h ⟨h2.1,h2.2.1⟩
theorem zto{n:Nat}{l:List Nat}:YW (yc (n::l))=true↔BrN n l:=by
 have h0:(((yc (n::l)).length:Int)==0)=false:=by
  rw[beq_eq_false_iff_ne,qO];simp only[zi];omega
 have h1:(yc (n::l)).getD 0 0=(n:Int):=rfl;have h2:(yc (n::l)).drop 1=yc l:=rfl;rw[<-ztp,zfe,h0,h1,h2];by_cases h:1<=n/\n<=64
 ·have hi:yu (n:Int) 1 64=true:=by
   simp only[yu,zh,decide_eq_true_eq];omega
  rw[hi];simp only[cond_false,Bool.not_true];rw[zul l n n h.1 (by omega) h.1];exact⟨fun h3=>⟨h.1,h.2,h3⟩,fun h3=>h3.val⟩
 ·have hi:yu (n:Int) 1 64=false:=by
   rw[<-Bool.not_eq_true];simp only[yu,zh,decide_eq_true_eq];omega
  rw[hi];simp only[cond_false,Bool.not_false,cond_true,yL,false_iff];exact fun h3=>h ⟨h3.lo,h3.hi⟩
theorem zkc{n:Nat}{l:List Nat}(h:BrN n l):Br (yc (n::l)):=jz (zto.2 h)
theorem zBZ{xs:List Int}(h:∀x∈xs,0<=x):yc (zb6 xs)=xs:=by
 rw[yc,zb6,List.map_map]
 conv=>rhs;rw[<-List.map_id xs]
 refine List.map_congr_left fun x hx=>?_;have:=h x hx;simp only[Function.comp,id];omega
theorem zDt{xs:List Int}(h:Br xs):∃n l,xs=yc (n::l)/\BrN n l:=by
 have h1:yc (zb6 xs)=xs:=zBZ fun x hx=>by
  obtain⟨i,hi,rfl⟩:=yM.1 hx;have:=h.low i hi;rw[zd,zg hi]at this;simp only[Option.getD_some]at this;omega
 have h2:=h.pos
 match hx:zb6 xs,h1 with
 |[],h1=>rw[<-h1]at h2;simp[yc]at h2
 |n::l,h1=>exact⟨n,l,h1.symm,zto.1 (by rw[h1];exact h.is)⟩
theorem zrm:∀(l:List Int) (d:Int) (i:Nat),i+1<l.length->(Zv d l).getD (i+1) 0=qU ((Zv d l).getD i 0) (l.getD (i+1) 0)
 |[],d,i,h=>by simp at h
 |[x],d,i,h=>by simp at h
 |x::y::l,d,0,h=>rfl
 |x::y::l,d,i+1,h=>by
  have:=zrm (y::l) (qU d x) i (by simpa using h);simpa [Zv]using this
theorem zwk(a b:Nat):exI (a:Int) (b:Int)=yc (ex a b):=by
 rw[exI,zV,zV];rfl
theorem zvO{n:Nat}{l0:List Nat}:∀(l pre:List Nat) (p e:Nat),n::l0=pre++l->pre≠[]->0<e->(dv (yc (n::l0))).getD (pre.length-1) 0=(e:Int)->(if pre.length=1 then 0 else pre.getD (pre.length-1) 0)=p->YS p e l->
 (List.range' (pre.length-1) l.length).flatMap (zhq (yc (n::l0)))=yc (jD p e l)
 |[],pre,p,e,_,_,_,_,_,_=>rfl
 |t::l,pre,p,e,hx,hne,he,hd,hp,hv=>by
  obtain⟨h1,h2,h3,h4⟩:=hv;have hpl:0<pre.length:=QF.2 hne;have hlen:(n::l0).length=pre.length+(l.length+1):=by rw[hx,zp];rfl
  have hgt:(n::l0).getD pre.length 0=t:=by
   rw[hx,zd,zR (zt _),kY];rfl
  have hgp:pre.length≠1->(n::l0).getD (pre.length-1) 0=p:=fun h5=>by
   rw[if_neg h5]at hp;rw[hx,zd,zQ (by omega),<-zd,hp]
  have hnl:(yc (n::l0)).length=pre.length+(l.length+1):=by rw[qO,hlen]
  have hk:Kb (yc (n::l0)) (pre.length-1)=((t-p:Nat):Int):=by
   have e1:(yc (n::l0)).getD (pre.length-1+1) 0=(t:Int):=by
    rw[show pre.length-1+1=pre.length by omega];have:=YN (n::l0) pre.length 0;rw[hgt]at this;exact this
   rw[Kb,e1];by_cases h5:pre.length=1
   ·rw[if_pos (by omega)];rw[if_pos h5]at hp;omega
   ·rw[if_neg (by omega)];have:=YN (n::l0) (pre.length-1) 0;rw[hgp h5]at this;have e2:(yc (n::l0)).getD (pre.length-1) 0=(p:Int):=this;rw[e2];omega
  have hrun:zhq (yc (n::l0)) (pre.length-1)=yc (ex (t-p) e):=by rw[zhq,hk,hd,zwk]
  have hd2:(dv (yc (n::l0))).getD ((pre++[t]).length-1) 0=((Nat.gcd e t:Nat):Int):=by
   rw[zp,yj,show pre.length+1-1=(pre.length-1)+1 by omega,dv,zrm _ _ _ (by omega),<-dv,hd];have:=YN (n::l0) pre.length 0;rw[hgt]at this;have e2:(yc (n::l0)).getD (pre.length-1+1) 0=(t:Int):=(by rw[show pre.length-1+1=pre.length by omega];exact this);rw[e2,zkk he (by omega)]
  have ih:=zvO l (pre++[t]) t (Nat.gcd e t) (by rw[hx];simp) (by simp) (jE t he) hd2 (by
   rw[if_neg (by rw[zp,yj];omega),zp,yj,yQ,zd,zR (zt _),kY];rfl) h4
  rw[zp,yj,show pre.length+1-1=pre.length-1+1 by omega]at ih;rw[zi,List.range'_succ,List.flatMap_cons,hrun,ih,jD,YO]
theorem zpc{n:Nat}{l:List Nat}(h:BrN n l):jn (yc (n::l))=yc (jD 0 n l):=by
 have h1:=h.lo
 have hd:(dv (yc (n::l))).getD 0 0=(n:Int):=by
  have:=(zkc h).d0;rw[this];rfl
 have:=zvO l [n] 0 n rfl (by simp) (by omega) hd rfl (h.val.weak (by omega));rw[jn,zcL,qO,zi,yQ,List.range_eq_range'];exact this
theorem zvM{n:Nat}{l:List Nat}(h:BrN n l):qY (yc (n::l))=yc (if l=[]then[1]else jD 0 n l):=by
 rw[qY,qO,zi,zpc h]
 cases l with
 |nil=>rfl
 |cons t l=>rw[if_neg (by simp),if_neg (by simp)]
def QI(xs:List Int):List Int:=yc (match zb6 xs with
 |[]=>[]
 |n::l=>zzO n l)
theorem JV{xs:List Int}(h:Br xs):Br (QI xs)/\∃n l,QI xs=yc (n::l)/\zhE n l ((qY xs++[1]).drop 1):=by
 obtain⟨n,l,rfl,hb⟩:=zDt h;obtain⟨n',l',h1,h2,m,h3⟩:=zCU hb;have hs:QI (yc (n::l))=yc (n'::l'):=by rw[QI,KT];simp only[h1]
 refine⟨by rw[hs];exact zkc h2,n',l',hs,h2,?_,m,?_⟩
 ·rw[zvM hb]
  have h4:0<(yc (if l=[]then[1]else jD 0 n l)).length:=by
   rw[qO];split
   ·simp
   ·rename_i hne
    match l,hne with
    |t::l,_=>
     have h5:=hb.val.1;have h6:0<t/n:=Nat.div_pos (by omega) hb.lo;rw[jD,kg hb.lo,kz,zp,zp,zE];omega
  intro h5;have h6:=congrArg List.length h5;rw[yE,zp]at h6;simp only[yj,zq]at h6;omega
 ·rw[zvM hb,<-h3];split
  ·rfl
  ·simp[yc,List.map_drop]
theorem zEt{l:List Int}{t:Nat}(h:t<l.length):l.getD t 0∈l:=by
 rw[zd,zg h];exact yN h
def zdN(f:List V->Int->Int)(q:List V->Int->Prop):zN:=fun
 |[.slc false 2 (.int .i64 0) a0,.int .i64 a1]=>some ([q a0 a1],.int .i64 (f a0 a1))
 |_=>none
def idx(ls:List Int)(x:Int):Int:=match (List.range ls.length).find? fun t=>ls.getD t 0==x with
 |some t=>t
 |none=> -1
theorem zwb{ls:List Int}{x:Int}:decide (0<=idx ls x)=ls.contains x:=by
 rw[Bool.eq_iff_iff,decide_eq_true_eq,zcy,idx]
 cases hf:(List.range ls.length).find? fun t=>ls.getD t 0==x with
 |some t=>
  rw[jZ]at hf;simp only[beq_iff_eq,kr]at hf;exact⟨fun _=>by rw[<-hf.1];exact zEt hf.2.1,fun _=>by simp only;omega⟩
 |none=>
  rw[Jq]at hf;refine⟨fun h=>by simp only at h;omega,fun h=>?_⟩;obtain⟨t,ht,he⟩:=yM.1 h;refine absurd ?_ (hf t (by simpa using ht));rw[zd,zg ht];simpa using he
def zc2(a:List V)(x:Int):Int:=idx (qj a) x
def zb1(a:List V)(_:Int):Prop:=uf a
theorem zgP:yI Tryz.prog 124 (zdN zc2 zb1):=by
 intro args ps r h hp;unfold zdN at h;split at h
 ·rename_i a0 a1;cases h;obtain⟨⟨ls,hls⟩,hll⟩:zb1 a0 a1:=(zm.1 hp).1;have hal:a0.length=ls.length:=by rw[hls,zj]
  rw[hal]at hll;have gl:∀k,a0.getD k (.int .i64 0)=.int .i64 (ls.getD k 0):=fun k=>by rw[hls,zO]
  have hf0:zc2 a0 a1=idx ls a1:=by rw[zc2,hls,zr]
  refine zC (T:=tab) (B:=[]) (Bi:=[]) [0,1,4,5] Tryz.func124 rfl rfl (by kernel_rfl) (ze rfl) mixed zP (by exact zA) (by exact zx) (by kernel_rfl) ?_;intro L lp rr hL hr hf hlp
  conv=>cbv
  refine hlp (Int) _ _ _ [0,1,5] (fun x=>[(0,none,.val (.slc false 2 (.int .i64 0) a0)),(1,none,.val (.int .i64 a1)),(5,none,.val (.int .i64 x))])
   (fun x=>0<=x/\x<=ls.length/\∀t,t<x.toNat->ls.getD t 0≠a1) (fun x=>(ls.length-x).toNat) (0) (by subst hL;rfl) ?_ ?_
  ·exact⟨by simp,by simp,fun t ht=>by simp at ht⟩
  rintro i ⟨i0,i1,hI⟩ hfx ag hag
  conv=>cbv
  simp only[zo hL,sQ,hal,gl];refine⟨fun h2=>⟨i0,by omega,fun h3=>?_,fun h3=>?_⟩,fun h2=>?_⟩
  ·have hfi:((List.range ls.length).find? fun t=>ls.getD t 0==a1)=some i.toNat:=by
    rw[jZ];refine⟨by simpa using h3,by simp only[kr];omega,fun t ht=>?_⟩;have:=hI t ht;simpa using this
   rw[hr,hf0,idx,hfi];simp only;rw[show((i.toNat:Nat):Int)=i by omega]
  ·rw[zk (n:=i+1) (by omega) (by omega)];refine hag (i+1) ⟨by omega,by omega,fun t ht=>?_⟩ (by omega)
   by_cases hti:t=i.toNat
   ·rw[hti];exact h3
   ·exact hI t (by omega)
  ·have hfi:((List.range ls.length).find? fun t=>ls.getD t 0==a1)=none:=by
    rw[Jq];intro t ht;simp only[kr]at ht;have:=hI t (by omega);simpa using this
   rw[hr,hf0,idx,hfi]
 ·cases h
def zdO(f:List V->Int->Bool)(q:List V->Int->Prop):zN:=fun
 |[.slc false 2 (.int .i64 0) a0,.int .i64 a1]=>some ([q a0 a1],.bool (f a0 a1))
 |_=>none
def zei(a:List V)(x:Int):Bool:=(qj a).contains x
theorem zjB:yI Tryz.prog 98 (zdO zei zb1):=by
 intro args ps r h hp;unfold zdO at h;split at h
 ·rename_i a0 a1;cases h;have hq:zb1 a0 a1:=(zm.1 hp).1;have g0:V.frzs a0=a0:=by obtain⟨⟨ls,hls⟩,_⟩:=hq;rw[hls,zD]
  generalize Kk:zc2=zfA;generalize uI:zb1=Kn;refine zC (T:=tab) (B:=[(124,zdN zfA Kn)]) (Bi:=[]) [0,1,4] Tryz.func98 rfl rfl (by kernel_rfl) (ze rfl) mixed zP (by subst Kk uI;exact(zn zgP zA)) (by subst Kk uI;exact zx) (by kernel_rfl) ?_;intro L lp rr hL hr hf hlp
  conv=>cbv
  simp only[zo hL,sQ,g0];subst Kk uI;exact⟨hq,by rw[hr,zei,<-zwb];rfl⟩
 ·cases h
theorem zrE:yI Tryz.prog 123 (zdN zc2 zb1):=by
 intro args ps r h hp;unfold zdN at h;split at h
 ·rename_i a0 a1;cases h;obtain⟨⟨ls,hls⟩,hll⟩:zb1 a0 a1:=(zm.1 hp).1;have hal:a0.length=ls.length:=by rw[hls,zj]
  rw[hal]at hll;have gl:∀k,a0.getD k (.int .i64 0)=.int .i64 (ls.getD k 0):=fun k=>by rw[hls,zO]
  have hf0:zc2 a0 a1=idx ls a1:=by rw[zc2,hls,zr]
  obtain⟨n,hn⟩:∃n:Int,n=ls.length:=⟨_,rfl⟩;refine zC (T:=tab) (B:=[]) (Bi:=[]) [0,1,4,5,7,8] Tryz.func123 rfl rfl (by kernel_rfl) (ze rfl) mixed zP (by exact zA) (by exact zx) (by kernel_rfl) ?_;intro L lp rr hL hr hf hlp
  conv=>cbv
  refine hlp (Int) _ _ _ [0,1,7,8] (fun x=>[(0,none,.val (.slc false 2 (.int .i64 0) a0)),(1,none,.val (.int .i64 a1)),(7,none,.val (.int .i64 n)),(8,none,.val (.int .i64 x))])
   (fun x=>0<=x/\x<=n/\∀t,t<x.toNat->ls.getD t 0≠a1) (fun x=>(n-x).toNat) (0) (by subst hL;rw[hn,<-hal];rfl) ?_ ?_
  ·exact⟨by simp,by omega,fun t ht=>by simp at ht⟩
  rintro i ⟨i0,i1,hI⟩ hfx ag hag
  conv=>cbv
  simp only[zo hL,sQ,hal,gl];refine⟨fun h2=>⟨i0,by omega,fun h3=>?_,fun h3=>?_⟩,fun h2=>?_⟩
  ·have hfi:((List.range ls.length).find? fun t=>ls.getD t 0==a1)=some i.toNat:=by
    rw[jZ];refine⟨by simpa using h3.symm,by simp only[kr];omega,fun t ht=>?_⟩;have:=hI t ht;simpa using this
   rw[hr,hf0,idx,hfi];simp only;rw[show((i.toNat:Nat):Int)=i by omega]
  ·rw[zk (n:=i+1) (by omega) (by omega)];refine hag (i+1) ⟨by omega,by omega,fun t ht=>?_⟩ (by omega)
   by_cases hti:t=i.toNat
   ·rw[hti];exact fun h=>h3 h.symm
   ·exact hI t (by omega)
  ·have hfi:((List.range ls.length).find? fun t=>ls.getD t 0==a1)=none:=by
    rw[Jq];intro t ht;simp only[kr]at ht;have:=hI t (by omega);simpa using this
   rw[hr,hf0,idx,hfi]
 ·cases h
theorem zmH:yI Tryz.prog 97 (zdO zei zb1):=by
 intro args ps r h hp;unfold zdO at h;split at h
 ·rename_i a0 a1;cases h;have hq:zb1 a0 a1:=(zm.1 hp).1;have g0:V.frzs a0=a0:=by obtain⟨⟨ls,hls⟩,_⟩:=hq;rw[hls,zD]
  generalize Kk:zc2=zfA;generalize uI:zb1=Kn;refine zC (T:=tab) (B:=[(123,zdN zfA Kn)]) (Bi:=[]) [0,1,4] Tryz.func97 rfl rfl (by kernel_rfl) (ze rfl) mixed zP (by subst Kk uI;exact(zn zrE zA)) (by subst Kk uI;exact zx) (by kernel_rfl) ?_;intro L lp rr hL hr hf hlp
  conv=>cbv
  simp only[zo hL,sQ,g0];subst Kk uI;exact⟨hq,by rw[hr,zei,<-zwb];rfl⟩
 ·cases h
def qm(L:List Int)(x:Int):Nat->List Int
 |0=>[]
 |n+1=>if L.getD n 0=x then qm L x n++[(n:Int)]else qm L x n
theorem zbu(L:List Int)(x:Int):∀n,InL n (qm L x n)/\(qm L x n).length<=n
 |0=>⟨fun k hk=>by simp[qm]at hk,by simp[qm]⟩
 |n+1=>by
  obtain⟨h1,h2⟩:=zbu L x n;rw[qm];split
  ·refine⟨fun k hk=>?_,by simp;omega⟩;rw[zp,yj]at hk;by_cases hkn:k<(qm L x n).length
   ·have:=h1 k hkn;rw[zd,zQ hkn,<-zd];omega
   ·rw[zd,zR (by omega),show k-(qm L x n).length=0 by omega];simp;omega
  ·exact⟨fun k hk=>by have:=h1 k hk;omega,by omega⟩
theorem ziz(ms:List (List Int)):∀i (x:Int),0<=x->x<(yh ms i).2->x∈(yh ms i).1
 |0,x,h0,h1=>by simp[yh]at h1;omega
 |i+1,x,h0,h1=>by
  cases ht:tk ms i with
  |some k=>
   simp only[yh,ht]at h1 ⊢;exact KC _ (ziz ms i x h0 h1)
  |none=>
   simp only[yh,ht]at h1 ⊢;by_cases hx:x<(yh ms i).2
   ·exact KC _ (ziz ms i x h0 hx)
   ·exact List.mem_append_right _ (by simp;omega)
theorem zjx(ms:List (List Int))(i:Nat)(x:Int)(h:0<=x):(yh ms i).1.contains x=decide (x<(yh ms i).2):=by
 rw[Bool.eq_iff_iff,zcy,decide_eq_true_eq];refine⟨fun hm=>?_,ziz ms i x h⟩;obtain⟨h1,_,_,h4⟩:=ul ms i;obtain⟨k,hk,he⟩:=yM.1 hm;rw[gAt hk]at he;have:=h4 k (by omega);omega
def okS(x:List Int):Bool:=decide ((qY x).length<=399)
def QZ(bs:List (List Int))(ls:List Int)(j:Nat):List (List Int):=qD (fun k=>if k<j then QI (bs.getD (ls.getD k 0).toNat [])else bs.getD (ls.getD k 0).toNat []) ls.length
def dcR(ms:List (List Int))(ls:List Int)(i c:Nat):List Int:=qD (fun k=>if k<c/\k≠i then mm ms (ls.getD i 0).toNat (ls.getD k 0).toNat-1 else mm ms (ls.getD i 0).toNat (ls.getD k 0).toNat) ls.length
def Zj(ms:List (List Int))(ls:List Int)(j c:Nat):List (List Int):=qD (fun i=>dcR ms ls i (if i<j then ls.length else if i=j then c else 0)) ls.length
theorem zpI{α:Type}(f:Int->α)(l:List Int):l.map f=qD (fun k=>f (l.getD k 0)) l.length:=by
 apply yH;intro j;by_cases hj:j<l.length
 ·rw[uM _ _ _ hj,List.getElem?_map,zg hj,gAt hj];rfl
 ·rw[zG (by rw[List.length_map];omega),zG (by rw[yR];omega)]
theorem zss(bs:List (List Int))(ls:List Int):zac bs ls=QZ bs ls 0:=by
 rw[zac,zpI,QZ];exact qA fun i _=>by rw[if_neg (by omega)]
theorem zso(ms:List (List Int))(ls:List Int):zlh ms ls=Zj ms ls 0 0:=by
 rw[zlh,zpI,Zj];refine qA fun i _=>?_;rw[zpI,dcR];refine qA fun k _=>?_;rw[if_neg (by split<;>(try split)<;>omega)]
theorem zvL{bs:List (List Int)}{ls:List Int}{j:Nat}(h:j<ls.length):(QZ bs ls j).getD j []=bs.getD (ls.getD j 0).toNat []:=by
 rw[QZ,js _ _ _ _ h,if_neg (by omega)]
theorem kV(bs:List (List Int))(ls:List Int)(j:Nat):(QZ bs ls j).length=ls.length:=yR _ _
theorem zcj(ms:List (List Int))(ls:List Int)(j c:Nat):(Zj ms ls j c).length=ls.length:=yR _ _
theorem zie(ms:List (List Int))(ls:List Int)(j c:Nat):(dcR ms ls j c).length=ls.length:=yR _ _
theorem zvJ{bs:List (List Int)}{ls:List Int}{j:Nat}:(QZ bs ls j).set j (QI (bs.getD (ls.getD j 0).toNat []))=QZ bs ls (j+1):=by
 rw[QZ,zk6,QZ];refine qA fun i _=>?_;by_cases hij:i=j
 ·rw[if_pos hij,hij,if_pos (by omega)]
 ·rw[if_neg hij];by_cases h2:i<j
  ·rw[if_pos h2,if_pos (by omega)]
  ·rw[if_neg h2,if_neg (by omega)]
theorem zvF{ms:List (List Int)}{ls:List Int}{j c:Nat}(h:j<ls.length):(Zj ms ls j c).getD j []=dcR ms ls j c:=by
 rw[Zj,js _ _ _ _ h,if_neg (by omega),if_pos rfl]
theorem zwu{ms:List (List Int)}{ls:List Int}{j c:Nat}(h:c<ls.length):(dcR ms ls j c).getD c 0=mm ms (ls.getD j 0).toNat (ls.getD c 0).toNat:=by
 rw[dcR,js _ _ _ _ h,if_neg (by omega)]
theorem zCp{ms:List (List Int)}{ls:List Int}{j c:Nat}(hc:c≠j):(dcR ms ls j c).set c (mm ms (ls.getD j 0).toNat (ls.getD c 0).toNat-1)=dcR ms ls j (c+1):=by
 rw[dcR,zk6,dcR];refine qA fun k _=>?_;by_cases hkc:k=c
 ·rw[if_pos hkc,hkc,if_pos ⟨by omega,hc⟩]
 ·rw[if_neg hkc];by_cases h2:k<c/\k≠j
  ·rw[if_pos h2,if_pos ⟨by omega,h2.2⟩]
  ·rw[if_neg h2,if_neg (by omega)]
theorem zvD{ms:List (List Int)}{ls:List Int}{j c:Nat}(hc:c≠j):(Zj ms ls j c).set j ((dcR ms ls j c).set c (mm ms (ls.getD j 0).toNat (ls.getD c 0).toNat-1))=Zj ms ls j (c+1):=by
 rw[zCp hc,Zj,zk6,Zj];refine qA fun i _=>?_;by_cases hij:i=j
 ·rw[if_pos hij,hij,if_neg (by omega),if_pos rfl]
 ·rw[if_neg hij];by_cases h2:i<j
  ·rw[if_pos h2,if_pos h2]
  ·rw[if_neg h2,if_neg h2,if_neg hij,if_neg hij]
theorem zAH(ms:List (List Int))(ls:List Int)(j:Nat):dcR ms ls j j=dcR ms ls j (j+1):=by
 rw[dcR,dcR];refine qA fun k _=>?_;by_cases h2:k<j/\k≠j
 ·rw[if_pos h2,if_pos ⟨by omega,h2.2⟩]
 ·rw[if_neg h2,if_neg (by omega)]
theorem zsp(ms:List (List Int))(ls:List Int)(j:Nat):Zj ms ls j j=Zj ms ls j (j+1):=by
 rw[Zj,Zj];refine qA fun i _=>?_;by_cases hij:i=j
 ·rw[hij];simp only[Nat.lt_irrefl,if_false,if_true];exact zAH ms ls j
 ·rw[if_neg hij,if_neg hij]
theorem zsq(ms:List (List Int))(ls:List Int)(j:Nat):Zj ms ls j ls.length=Zj ms ls (j+1) 0:=by
 rw[Zj,Zj];refine qA fun i _=>?_;by_cases hij:i=j
 ·rw[hij,if_neg (by omega),if_pos rfl,if_pos (by omega)]
 ·rw[if_neg hij];by_cases h2:i<j
  ·rw[if_pos h2,if_pos (by omega)]
  ·rw[if_neg h2,if_neg (by omega)];split<;>rfl
abbrev KN:Type:=List (List Int)×List (List Int)
def CC(o:Bool)(l:List KN):List V:=l.map fun p=>.agg [.slc o 57 (.agg [.slc o 2 (.int .i64 0) []]) (BB o p.1),.slc o 29 (.slc o 2 (.int .i64 0) []) (II o p.2)]
theorem zrC(o:Bool)(a b:List KN):CC o (a++b)=CC o a++CC o b:=by simp[CC]
theorem zaY(o:Bool)(a:List KN):(CC o a).length=a.length:=by simp[CC]
def Qf(bs ms:List (List Int))(L:List Int):Nat->Option (List KN)
 |0=>some []
 |t+1=>(Qf bs ms L t).bind fun o=>if(qm L t L.length).all (fun i=>okS (bs.getD i.toNat []))then some (o++[(QZ bs (qm L t L.length) (qm L t L.length).length,Zj ms (qm L t L.length) (qm L t L.length).length 0)])else none
theorem znd{bs ms:List (List Int)}{L:List Int}{t:Nat}(h:Qf bs ms L t=none):∀k,Qf bs ms L (t+k)=none
 |0=>h
 |k+1=>by rw[<-Nat.add_assoc,Qf,znd h k];rfl
theorem ziq{bs ms:List (List Int)}{L:List Int}:∀(t:Nat) {o:List KN},Qf bs ms L t=some o->o.length=t
 |0,o,h=>by simp only[Qf,za]at h;subst h;rfl
 |t+1,o,h=>by
  rw[Qf]at h
  cases h1:Qf bs ms L t with
  |none=>rw[h1]at h;cases h
  |some o'=>
   rw[h1,yS]at h;split at h
   ·simp only[za]at h;subst h;rw[zp,ziq t h1];rfl
   ·cases h
theorem zwA{bs ms:List (List Int)}{L:List Int}{t:Nat}{j:Nat}(hj:j<(qm L t L.length).length)(hb:399<(qY (bs.getD ((qm L t L.length).getD j 0).toNat [])).length):Qf bs ms L (t+1)=none:=by
 rw[Qf]
 cases Qf bs ms L t with
 |none=>rfl
 |some o=>
  rw[yS,if_neg];intro h;rw[yn]at h;have:=h _ (yN hj);rw[gAt hj,okS,decide_eq_true_eq]at this;omega
theorem zuq{bs ms:List (List Int)}{L:List Int}{t:Nat}{o:List KN}(h:Qf bs ms L t=some o)(hb:∀j,j<(qm L t L.length).length->(qY (bs.getD ((qm L t L.length).getD j 0).toNat [])).length<=399):
 Qf bs ms L (t+1)=some (o++[(QZ bs (qm L t L.length) (qm L t L.length).length,Zj ms (qm L t L.length) (qm L t L.length).length 0)]):=by
 rw[Qf,h,yS,if_pos];rw[yn];intro x hx;obtain⟨j,hj,rfl⟩:=yM.1 hx;rw[gAt hj,okS,decide_eq_true_eq];exact hb j hj
def bl(bs ms:List (List Int))(n:Nat):Option (List KN):=Qf bs ms (yh ms n).1 (yh ms n).2.toNat
def znc:Option (List KN)->List V×Int
 |some o=>(CC true o,0)
 |none=>([],3)
def zp3:Option (List KN)->List V×Bool
 |some o=>(CC true o,true)
 |none=>([],false)
def zfi(a b:List V):List V×Int:=znc (bl (kv a) (uL b) a.length)
def zeG(a b:List V):List V×Bool:=zp3 (bl (kv a) (uL b) a.length)
def QN(P S Q:List Int):List Int:=qD (exL P S Q) P.length
def zr6(P S Q:List Int):Bool:=(QN P S Q).all fun x=>decide (0<=x)
def zc5(a b c:List V):Bool:=zr6 (qj a) (qj b) (qj c)
theorem zri{pm:List (List Int)}{w:List Int}(hw:∀i,-100000<=w.getD i 0/\w.getD i 0<=100000):∀(j:Nat) (a:Nat),j<=24->-(100000*((j:Int)+1))<=Kr pm w j a/\Kr pm w j a<=100000*((j:Int)+1)
 |0,a,_=>by
  have:=hw a;rw[Kr];omega
 |j+1,a,hj=>by
  have h1:=zri (pm:=pm) hw j a (by omega);have h2:=hw j;rw[Kr];split
  ·have e:W (Kr pm w j a-w.getD j 0)=Kr pm w j a-w.getD j 0:=zk (by omega) (by omega);rw[e];omega
  ·omega
theorem zy4{P S Q:List Int}(h:ClP P S Q)(a:Nat): -2500000<=exL P S Q a/\exL P S Q a<=2500000:=by
 have n24:=h.n24
 have hw:∀i,-100000<=Q.getD i 0/\Q.getD i 0<=100000:=fun i=>by
  by_cases hi:i<P.length
  ·exact h.q i hi
  ·rw[zd,zG (by rw[h.ql];omega)];simp
 have:=zri (pm:=cpx P S P.length P.length) hw P.length a (by omega);rw[exL];omega
theorem ziC:yI Tryz.prog 136 (zfj zc5 zeS):=by
 intro args ps r h hp;unfold zfj at h;split at h
 ·rename_i a0 a1 a2;cases h;have hqv:zeS a0 a1 a2:=(zm.1 hp).1;obtain⟨⟨⟨P,hP⟩,⟨S,hS⟩,⟨Q,hQ⟩⟩,hcl⟩:=id hqv;rw[hP,hS,hQ,zr,zr,zr]at hcl;have g0:V.frzs a0=a0:=by rw[hP,zD]
  have g1:V.frzs a1=a1:=by rw[hS,zD]
  have g2:V.frzs a2=a2:=by rw[hQ,zD]
  have hpl:a0.length=P.length:=by rw[hP,zj]
  have hsl:a1.length=P.length:=by rw[hS,zj,hcl.sl]
  have hql:a2.length=P.length:=by rw[hQ,zj,hcl.ql]
  have gp:∀k,a0.getD k (.int .i64 0)=.int .i64 (P.getD k 0):=fun k=>by rw[hP,zO]
  have gs:∀k,a1.getD k (.int .i64 0)=.int .i64 (S.getD k 0):=fun k=>by rw[hS,zO]
  have gq:∀k,a2.getD k (.int .i64 0)=.int .i64 (Q.getD k 0):=fun k=>by rw[hQ,zO]
  obtain⟨n,hn⟩:∃n:Int,n=P.length:=⟨_,rfl⟩;have n1:=hcl.n1;have n24:=hcl.n24;have low:=fun t ht=>hcl.low (i:=t) ht;have hf0:zc5 a0 a1 a2=zr6 P S Q:=by rw[zc5,hP,hS,hQ,zr,zr,zr]
  have hfe:zc3 a0 a1 a2 a2=I (QN P S Q):=by rw[zc3,hpl,hP,hS,hQ,zr,zr,zr];rfl
  obtain⟨vs,hvs⟩:∃vs,vs=I (QN P S Q):=⟨_,rfl⟩;rw[<-hvs]at hfe;have hvl:vs.length=P.length:=by rw[hvs,zj,QN,yR]
  have gv:∀k,vs.getD k (.int .i64 0)=.int .i64 ((QN P S Q).getD k 0):=fun k=>by rw[hvs,zO]
  have hel:(QN P S Q).length=P.length:=yR _ _;generalize zcg:zc3=zgA;generalize zd1:zrV=zit;refine zC (T:=tab) (B:=[(146,zgj zgA zit)]) (Bi:=[]) [0,1,2,3,4] Tryz.func136 rfl rfl (by kernel_rfl) (ze rfl) mixed zP (by subst zcg zd1;exact(zn zfM zA)) (by subst zcg zd1;exact zx) (by kernel_rfl) ?_;intro L lp rr hL hr hf hlp;have Ee:zgA a0 a1 a2 a2=vs:=by rw[<-zcg];exact hfe
  have Qe:zit a0 a1 a2 a2:=by rw[<-zd1];exact⟨hqv,rfl⟩
  conv=>cbv
  simp only[zo hL,sQ,g0,g1,g2,Ee];refine⟨Qe,?_⟩
  refine hlp (Int) _ _ _ [3,4] (fun x=>[(3,none,.val (.slc true 2 (.int .i64 0) vs)),(4,none,.val (.int .i64 x))])
   (fun x=>0<=x/\x<=P.length/\∀t,t<x.toNat->0<=(QN P S Q).getD t 0) (fun x=>(P.length-x).toNat) (0) (by subst hL;rfl) ?_ ?_
  ·exact⟨by simp,by simp,fun t ht=>by simp at ht⟩
  rintro i ⟨i0,i1,hI⟩ hfx ag hag
  conv=>cbv
  simp only[zo hL,sQ,hvl,gv];refine⟨fun h2=>⟨i0,h2,by omega,fun h3=>?_,fun h3=>?_⟩,fun h2=>?_⟩
  ·rw[hr,hf0,zr6]
   have:(QN P S Q).all (fun x=>decide (0<=x))=false:=by
    rw[List.all_eq_false];refine⟨_,zmX (l:=QN P S Q) (t:=i.toNat) (by omega),?_⟩;simpa using h3
   rw[this]
  ·rw[zk (n:=i+1) (by omega) (by omega)];refine hag (i+1) ⟨by omega,by omega,fun t ht=>?_⟩ (by omega)
   by_cases h4:t<i.toNat
   ·exact hI t h4
   ·rw[show t=i.toNat by omega];omega
  ·rw[hr,hf0,zr6]
   have:(QN P S Q).all (fun x=>decide (0<=x))=true:=by
    rw[yn];intro x hx;obtain⟨t,ht,rfl⟩:=zDc hx;simpa using hI t (by omega)
   rw[this]
 ·cases h
def zaA(l:List Int):Nat->List (List Int)
 |0=>[]
 |i+1=>zaA l i++if 0<l.getD i 0 then[[(i:Int),l.getD i 0]]else[]
theorem zm6(l:List Int):∀i,(zaA l i).length<=i
 |0=>by simp[zaA]
 |i+1=>by
  have:=zm6 l i;rw[zaA,zp];split<;>simp<;>omega
def zh9(a b c:List V):List V:=II true (zaA (QN (qj a) (qj b) (qj c)) a.length)
theorem zzu(xs:List Int):II true [xs]=[.slc true 2 (.int .i64 0) (I xs)]:=rfl
theorem zlN:yI Tryz.prog 137 (zx7 zh9 zeS):=by
 intro args ps r h hp;unfold zx7 at h;split at h
 ·rename_i a0 a1 a2;cases h;have hqv:zeS a0 a1 a2:=(zm.1 hp).1;obtain⟨⟨⟨P,hP⟩,⟨S,hS⟩,⟨Q,hQ⟩⟩,hcl⟩:=id hqv;rw[hP,hS,hQ,zr,zr,zr]at hcl;have g0:V.frzs a0=a0:=by rw[hP,zD]
  have g1:V.frzs a1=a1:=by rw[hS,zD]
  have g2:V.frzs a2=a2:=by rw[hQ,zD]
  have hpl:a0.length=P.length:=by rw[hP,zj]
  have hsl:a1.length=P.length:=by rw[hS,zj,hcl.sl]
  have hql:a2.length=P.length:=by rw[hQ,zj,hcl.ql]
  have gp:∀k,a0.getD k (.int .i64 0)=.int .i64 (P.getD k 0):=fun k=>by rw[hP,zO]
  have gs:∀k,a1.getD k (.int .i64 0)=.int .i64 (S.getD k 0):=fun k=>by rw[hS,zO]
  have gq:∀k,a2.getD k (.int .i64 0)=.int .i64 (Q.getD k 0):=fun k=>by rw[hQ,zO]
  obtain⟨n,hn⟩:∃n:Int,n=P.length:=⟨_,rfl⟩;have n1:=hcl.n1;have n24:=hcl.n24;have low:=fun t ht=>hcl.low (i:=t) ht;have hf0:zh9 a0 a1 a2=II true (zaA (QN P S Q) P.length):=by rw[zh9,hpl,hP,hS,hQ,zr,zr,zr]
  have hfe:zc3 a0 a1 a2 a2=I (QN P S Q):=by rw[zc3,hpl,hP,hS,hQ,zr,zr,zr];rfl
  obtain⟨E,hE⟩:∃E,E=QN P S Q:=⟨_,rfl⟩;rw[<-hE]at hf0 hfe;obtain⟨vs,hvs⟩:∃vs,vs=I E:=⟨_,rfl⟩;rw[<-hvs]at hfe;have hvl:vs.length=P.length:=by rw[hvs,zj,hE,QN,yR]
  have gv:∀k,vs.getD k (.int .i64 0)=.int .i64 (E.getD k 0):=fun k=>by rw[hvs,zO]
  generalize zcg:zc3=zgA;generalize zd1:zrV=zit;refine zC (T:=tab) (B:=[(146,zgj zgA zit)]) (Bi:=[]) [0,1,2,3,4,5] Tryz.func137 rfl rfl (by kernel_rfl) (ze rfl) mixed zP (by subst zcg zd1;exact(zn zfM zA)) (by subst zcg zd1;exact zx) (by kernel_rfl) ?_;intro L lp rr hL hr hf hlp;have Ee:zgA a0 a1 a2 a2=vs:=by rw[<-zcg];exact hfe
  have Qe:zit a0 a1 a2 a2:=by rw[<-zd1];exact⟨hqv,rfl⟩
  conv=>cbv
  simp only[zo hL,sQ,g0,g1,g2,Ee,hvl,<-hn];refine⟨Qe,?_⟩
  refine hlp (List V×Int) _ _ _ [3,4,5] (fun x=>[(3,none,.val (.slc true 2 (.int .i64 0) vs)),(4,none,.val (.slc true 29 (.slc true 2 (.int .i64 0) []) x.1)),(5,none,.val (.int .i64 x.2))])
   (fun x=>0<=x.2/\x.2<=n/\x.1=II true (zaA E x.2.toNat)) (fun x=>(n-x.2).toNat) (([],0)) (by subst hL;rfl) ?_ ?_
  ·exact⟨by simp,by simp only;omega,rfl⟩
  rintro⟨os,i⟩ ⟨i0,i1,hO⟩ hfx ag hag;simp only at i0 i1 hO
  have hol:os.length<=24:=by
   have:=zm6 E i.toNat
   rw[hO,ye];omega
  conv=>cbv
  simp only[zo hL,sQ,gv,hvl,<-hn];refine⟨fun h2=>?_,fun h2=>?_⟩
  ·rw[zk (n:=i+1) (by omega) (by omega)];refine⟨i0,by omega,by omega,fun h3=>?_,fun h3=>?_⟩
   ·have hnx:os++[V.slc true 2 (.int .i64 0) [V.int .i64 i,V.int .i64 (E.getD i.toNat 0)]]=II true (zaA E (i.toNat+1)):=by
     rw[zaA,if_pos h3,hO,show((i.toNat:Nat):Int)=i by omega,ZK,zzu];rfl
    (repeat' first|(exact yr _)|(exact je rfl)|(exact yV _)|(apply And.intro)|(intro _))<;>(try first|exact True.intro|omega|rfl|(simp only[zi,zq,zj];omega))
    refine hag (_,i+1) ⟨by simp only;omega,by simp only;omega,?_⟩ (by simp only;omega);simp only[zL i0];exact hnx
   ·refine hag (os,i+1) ⟨by simp only;omega,by simp only;omega,?_⟩ (by simp only;omega);simp only[zL i0];rw[zaA,if_neg h3,yv];exact hO
  ·rw[hr,hf0,hO,show i.toNat=P.length by omega]
 ·cases h
def shN(a b:List Int):Nat:=(a.filter fun x=>decide (x∈b)).length
theorem zzW{a b:List Int}{i:Nat}(h:i<a.length):shN (a.take (i+1)) b=shN (a.take i) b+if a.getD i 0∈b then 1 else 0:=by
 rw[shN,shN,List.take_succ_eq_append_getElem h,List.filter_append,zp,zwd h];congr 1;by_cases hb:a.getD i 0∈b
 ·rw[List.filter_cons_of_pos (by simpa using hb),if_pos hb];rfl
 ·rw[List.filter_cons_of_neg (by simpa using hb),if_neg hb];rfl
theorem zCZ(a b:List Int):shN a b<=a.length:=List.length_filter_le _ _
theorem zzX{a b:List Int}(ha:a.Nodup)(hb:b.Nodup):shN a b=shN b a:=by
 have hp:(a.filter fun x=>decide (x∈b)).Perm (b.filter fun x=>decide (x∈a)):=by
  rw[List.perm_ext_iff_of_nodup (ha.filter _) (hb.filter _)];intro x;simp only[List.mem_filter,decide_eq_true_eq];exact⟨fun h=>⟨h.2,h.1⟩,fun h=>⟨h.2,h.1⟩⟩
 exact hp.length_eq
def KW:Nat->List Nat->Nat
 |_,[]=>0
 |t,c::cs=>if c=t then KW (t+1) cs+1 else 0
def mC:List Nat->List Nat
 |[]=>[1]
 |_::cs=>((mC cs).take (KW 2 cs+1)).sum::mC cs
theorem Je:∀cs:List Nat,(mC cs).length=cs.length+1
 |[]=>rfl
 |_::cs=>by rw[mC,zi,Je cs,zi]
theorem zv7:∀(cs:List Nat) (t:Nat),KW t cs<=cs.length
 |[],_=>zt _
 |c::cs,t=>by
  rw[KW];split
  ·have:=zv7 cs (t+1);simp only[zi];omega
  ·exact Nat.zero_le _
theorem ztf:∀(cs:List Nat),∀x∈mC cs,1<=x
 |[],x,h=>by simp only[mC,yF]at h;omega
 |c::cs,x,h=>by
  rw[mC]at h;rcases zH.1 h with h|h
  ·have hl:=Je cs
   cases hm:mC cs with
   |nil=>rw[hm]at hl;simp at hl
   |cons y l=>
    have:=ztf cs y (by rw[hm];simp);rw[h,hm,uW,KK];omega
  ·exact ztf cs x h
theorem zv5:∀(cs:List Nat) (t q:Nat),2<=t->q<=KW t cs->∀j,j<q->(mC cs).getD j 0=(mC cs).getD 0 0
 |[],t,q,_,hq,j,hj=>by rw[KW]at hq;omega
 |c::cs,t,q,ht,hq,j,hj=>by
  rw[KW]at hq;split at hq
  ·rename_i hc
   cases j with
   |zero=>rfl
   |succ j=>
    have ih:=zv5 cs (t+1) (q-1) (by omega) (by omega) j (by omega);rw[mC,qG,ih,ji]
    have h0:KW 2 cs=0:=by
     cases cs with
     |nil=>rfl
     |cons d cs=>
      rw[KW]at hq ⊢;split at hq
      ·rw[if_neg (by omega)]
      ·omega
    have hl:=Je cs;rw[h0]
    cases hm:mC cs with
    |nil=>rw[hm]at hl;simp at hl
    |cons y l=>simp
  ·omega
theorem YS.up:∀(l:List Nat) {p e s:Nat},e ∣ s->(∀t∈l,t+s<=2000)->YS p e l->YS (p+s) e (l.map (·+s))/\jD (p+s) e (l.map (·+s))=jD p e l
 |[],p,e,s,_,_,h=>⟨h,rfl⟩
 |t::l,p,e,s,he,hs,h=>by
  obtain⟨h1,h2,h3,h4⟩:=h
  have hg:Nat.gcd e (t+s)=Nat.gcd e t:=by
   obtain⟨k,rfl⟩:=he;rw[uw,Nat.gcd_add_mul_right_right]
  obtain⟨i1,i2⟩:=YS.up l (s:=s) (Nat.dvd_trans (Nat.gcd_dvd_left e t) he) (fun x hx=>hs x (zB _ hx)) h4;have hb:=hs t (by simp);refine⟨⟨show p+s<t+s by omega,hb,by rw[hg];exact h3,by rw[hg];exact i1⟩,?_⟩;simp only[yP,jD];rw[hg,i2,show t+s-(p+s)=t-p by omega]
theorem zsk{a b:Nat}{x:List Nat}:∀k:Nat,(List.replicate k a++b::x).take (k+1)=List.replicate k a++[b]
 |0=>rfl
 |k+1=>by rw[yw,yb,uW,zsk k];rfl
theorem zvB(a b:Nat):∀k:Nat,(List.replicate k a++[b]).sum=k*a+b
 |0=>by simp
 |k+1=>by rw[yw,yb,KK,zvB a b k,jc];omega
theorem zqR{a:Nat}:∀(k:Nat) (L:List Nat),k<L.length->(∀j,j<k->L.getD j 0=a)->∃b x,L=List.replicate k a++b::x
 |_,[],h,_=>by simp at h
 |0,y::L,_,_=>⟨y,L,rfl⟩
 |k+1,y::L,h,hs=>by
  obtain⟨b,x,hx⟩:=zqR k L (by simpa using h) (fun j hj=>by simpa using hs (j+1) (by omega));have h0:y=a:=by simpa using hs 0 (by omega)
  exact⟨b,x,by rw[hx,h0,yw];rfl⟩
theorem zqY{a r b:Nat}(hr:r≠a){X x:List Nat}:∀(k q:Nat),List.replicate q a++r::X=List.replicate k a++b::x->(k<q/\b=a)\/(k=q/\b=r)
 |0,0,h=>by simp at h;exact .inr ⟨rfl,h.1.symm⟩
 |0,q+1,h=>by rw[yw]at h;simp at h;exact .inl ⟨by omega,h.1.symm⟩
 |k+1,0,h=>by rw[yw]at h;simp at h;exact absurd h.1 hr
 |k+1,q+1,h=>by
  rw[yw,yw]at h;simp only[yb,List.cons.injEq,true_and]at h;have:=zqY hr k q h;omega
theorem zyO:∀(cs:List Nat),cs.length<=30->(∀x∈mC cs,x<=64)->∃n l m,BrN n l/\mC cs=jD 0 n l++List.replicate m 1/\(mC cs).getD 0 0=n/\∀t∈l,t<=64*(cs.length+1)
 |[],_,_=>⟨1,[],1,⟨by omega,by omega,rfl⟩,rfl,rfl,fun t ht=>by cases ht⟩
 |c::cs,hl,hb=>by
  rw[mC]at hb;simp only[zi]at hl ⊢;obtain⟨a,l,m,hB,hL,ha,ht⟩:=zyO cs (by omega) (fun x hx=>hb x (zB _ hx));have hlen:=Je cs;have hle:=zv7 cs 2;obtain⟨k,hk⟩:∃k,k=KW 2 cs:=⟨_,rfl⟩;rw[<-hk]at hle;have hsame:∀j,j<k->(mC cs).getD j 0=a:=fun j hj=>by rw[zv5 cs 2 k (by omega) (by omega) j hj,ha]
  obtain⟨b,x,hx⟩:=zqR k (mC cs) (by omega) hsame;have hn:((mC cs).take (k+1)).sum=k*a+b:=by rw[hx,zsk,zvB]
  obtain⟨n,hnn⟩:∃n,n=k*a+b:=⟨_,rfl⟩;have hn64:n<=64:=by rw[hnn,<-hn,hk];exact hb _ (by simp)
  have hb1:1<=b:=ztf cs b (by rw[hx];simp);have hb64:b<=64:=hb b (zB _ (by rw[hx];simp));have ha1:=hB.lo;have ha64:=hB.hi;rw[mC,<-hk,hn,<-hnn];by_cases hk0:k=0
  ·
    subst hk0;have hba:b=a:=(by rw[<-ha,hx];rfl);have hna:n=a:=(by rw[hnn,hba];omega);rw[hna]
    cases l with
    |nil=>
     have h1:a=1:=hB.val;subst h1;exact⟨1,[],m+1,hB,by rw[hL];rfl,rfl,fun t ht=>by cases ht⟩
    |cons t l=>
     have ht0:=ht t (by simp);obtain⟨v1,v2⟩:=YS.up (t::l) (p:=a) (e:=a) (s:=a) (Kg a) (fun y hy=>by have:=ht y hy;omega) hB.val;refine⟨a,(t::l).map (·+a),m,⟨ha1,ha64,v1.weak (by omega)⟩,?_,rfl,fun y hy=>?_⟩
     ·have v0:=(YS.up (t::l) (p:=0) (e:=a) (s:=a) (Kg a) (fun y hy=>by have:=ht y hy;omega) (hB.val.weak (by omega))).2;rw[hL,<-v0];simp only[yP,jD,kz]
      have e1:ex (t+a) a=a::ex (t+a-(0+a)) a:=by
       rw[show t+a-(0+a)=t by omega,kg (by omega),kg (show 0<a by omega),JR _ (by omega),JQ,yw,yb]
      rw[e1];rfl
     ·obtain⟨z,hz,rfl⟩:=ua.1 hy;have:=ht z hz;omega
  ·cases l with
   |nil=>
    have h1:a=1:=hB.val;subst h1
    have hall:∀y∈mC cs,y=1:=fun y hy=>by
     rw[hL]at hy;simp only[jD,List.nil_append]at hy;exact List.eq_of_mem_replicate hy
    have hbe:b=1:=hall b (by rw[hx];simp);have hn1:n=k+1:=by rw[hnn,hbe];omega
    have hm:m=cs.length+1:=by
     rw[<-hlen,hL];simp[jD]
    refine⟨n,[n+1],m-n,⟨by omega,hn64,by omega,by omega,?_,?_⟩,?_,rfl,fun y hy=>?_⟩
    ·rw[JD];simp;omega
    ·rw[JD];simp[YS]
    ·rw[hL];simp only[jD,kz,yv,List.nil_append]
     have e1:ex (n+1) n=n::List.replicate n 1:=by
      rw[kg (by omega),Za n 1,JR _ (by omega),JQ,zcb (by omega),ZU (by omega),kg (by omega),Nat.div_one,Nat.mod_one,zbe];simp
     rw[e1,yb,qS,show n+(m-n)=m by omega]
    ·simp only[yF]at hy;omega
   |cons t l=>
    have hv:=hB.val;obtain⟨v1,v2,v3,v4⟩:=id hv
    have hnd:¬a ∣ t:=by
     intro hd;exact v3 (Nat.gcd_eq_left hd)
    obtain⟨X,hX,hr0,hr1⟩:=zia (show 0<a by omega) hnd;obtain⟨q,hq⟩:∃q,q=t/a:=⟨_,rfl⟩;obtain⟨r,hr⟩:∃r,r=t%a:=⟨_,rfl⟩;rw[<-hq,<-hr]at hX;rw[<-hr]at hr0 hr1;have htq:t=q*a+r:=by rw[hq,hr,uw];exact(Nat.div_add_mod t a).symm
    have hL2:mC cs=List.replicate q a++r::(X++(jD t (Nat.gcd a t) l++List.replicate m 1)):=by
     rw[hL,jD,kz,hX];simp
    have ht2:∀y∈t::l,y+a<=2000:=fun y hy=>(by have:=ht y hy;omega);have hcase:=zqY (by omega) k q (hL2.symm.trans hx);have htb:=ht t (by simp);rcases hcase with⟨hkq,hba⟩|⟨hkq,hbr⟩
    ·
      have hn1:n=(k+1)*a:=by rw[hnn,hba,jc];omega
      have hlt:n+a<=t+a:=by
       have:(k+1)*a<=q*a:=yT a (by omega);omega
      have hlt2:n<t:=by
       have:(k+1)*a<=q*a:=yT a (by omega);omega
      have hna:a<n:=by
       have:2*a<=(k+1)*a:=yT a (by omega);omega
      have hgcd:Nat.gcd n (n+a)=a:=by
       rw[JD,hn1,Nat.gcd_comm,Nat.gcd_mul_left_right]
      obtain⟨u1,u2⟩:=YS.up (t::l) (p:=n) (e:=a) (s:=a) (Kg a) ht2 ⟨hlt2,v2,v3,v4⟩;refine⟨n,(n+a)::(t::l).map (·+a),m,⟨by omega,hn64,by omega,by omega,by rw[hgcd];omega,by rw[hgcd];exact u1⟩,?_,rfl,fun y hy=>?_⟩
      ·rw[jD,kz,hgcd,u2]
       have e1:ex (n+a) n=n::List.replicate (k+1) a:=by
        rw[kg (by omega),Za n a,JR _ (by omega),JQ,zcb hna,ZU hna,kg (by omega),hn1,Nat.mul_div_cancel _ (by omega),Nat.mul_mod_left,zbe];simp
       have e2:ex t a=List.replicate (k+1) a++ex (t-n) a:=by
        have e3:t=(t-n)+a*(k+1):=(by rw[uw,<-hn1];omega);rw[kg (by omega),kg (show 0<a by omega) (a:=t-n)]
        conv=>lhs;rw[e3]
        rw[Nat.add_mul_div_left _ _ (by omega),Nat.add_mul_mod_self_left,Za,<-qS,zU]
       rw[e1,hL,jD,jD,kz,e2];simp
      ·rcases zH.1 hy with rfl|hy
       ·omega
       ·obtain⟨z,hz,rfl⟩:=ua.1 hy;have:=ht z hz;omega
    ·
      have hn1:n=t:=(by rw[hnn,hkq,hbr];exact htq.symm);have hgcd:Nat.gcd n (n+a)=Nat.gcd a t:=(by rw[JD,hn1,Nat.gcd_comm]);obtain⟨u1,u2⟩:=YS.up l (p:=t) (e:=Nat.gcd a t) (s:=a) (Nat.gcd_dvd_left a t) (fun y hy=>ht2 y (zB _ hy)) v4;have hga:Nat.gcd a t<=a:=Nat.gcd_le_left t (by omega);refine⟨n,(n+a)::l.map (·+a),m,⟨by omega,hn64,by omega,by omega,by rw[hgcd];omega,by rw[hgcd,hn1];exact u1⟩,?_,rfl,fun y hy=>?_⟩
      ·have e1:ex (n+a) n=n::ex t a:=by
        rw[kg (by omega),Za n a,JR _ (by omega),JQ,zcb (by omega),ZU (by omega),hn1];simp
       rw[jD,kz,hgcd,e1,hL,jD,kz];rw[hn1]at*;rw[u2];simp
      ·rcases zH.1 hy with rfl|hy
       ·omega
       ·obtain⟨z,hz,rfl⟩:=ua.1 hy;have:=ht z (zB _ hz);omega
def VC(cs:List Nat):Prop:=∀i,i<cs.length->cs.getD i 0=0\/(1<=i/\(cs.getD i 0=2\/(3<=cs.getD i 0/\cs.getD (i-1) 0+1=cs.getD i 0)))
theorem VC.le{cs:List Nat}(h:VC cs):∀i,i<cs.length->cs.getD i 0<=i+1/\cs.getD i 0≠1
 |0,hi=>by rcases h 0 hi with h|⟨h,_⟩<;>omega
 |i+1,hi=>by
  have ih:=VC.le h i (by omega);rcases h (i+1) hi with h|⟨_,h|⟨h1,h2⟩⟩
  ·omega
  ·omega
  ·simp only[yQ]at h2;omega
def hdM(cs:List Nat):Nat:=(mC cs).getD 0 0
def QM(cs:List Nat)(j i:Nat):Nat:=((mC (cs.drop j)).tail.take (KW (j+1-i) (cs.drop j))).sum
def Yo(cs:List Nat)(j:Nat):List Nat:=qD (fun i=>if i<j then QM cs j i else hdM (cs.drop i)) (cs.length+1)
theorem zb3(cs:List Nat)(j:Nat):(Yo cs j).length=cs.length+1:=yR _ _
theorem zat{cs:List Nat}{j i:Nat}(h:i<=cs.length):(Yo cs j).getD i 0=if i<j then QM cs j i else hdM (cs.drop i):=js _ _ _ _ (by omega)
theorem za5(cs:List Nat):mC cs=hdM cs::(mC cs).tail:=by
 have hl:=Je cs;rw[hdM]
 cases hm:mC cs with
 |nil=>rw[hm]at hl;simp at hl
 |cons x l=>rfl
theorem zic{cs:List Nat}{j:Nat}(h:j<cs.length):cs.drop j=cs.getD j 0::cs.drop (j+1):=by
 rw[List.drop_eq_getElem_cons h,zd,zg h];rfl
theorem zhZ:∀(cs:List Nat) (j:Nat),j<=cs.length->(mC cs).getD j 0=hdM (cs.drop j)
 |cs,0,_=>rfl
 |[],j+1,h=>by simp at h
 |c::cs,j+1,h=>by
  rw[mC,qG,List.drop_succ_cons];exact zhZ cs j (by simpa using h)
theorem zAg(cs:List Nat):Yo cs 0=mC cs:=by
 apply yH;intro i;by_cases hi:i<=cs.length
 ·have h1:=zat (j:=0) hi;rw[if_neg (by omega),<-zhZ cs i hi]at h1;rw[zd,zd,zg (by rw[zb3];omega),zg (by rw[Je];omega)]at h1;rw[zg (by rw[zb3];omega),zg (by rw[Je];omega)];exact congrArg some h1
 ·rw[zG (by rw[zb3];omega),zG (by rw[Je];omega)]
theorem zp4{cs:List Nat}{j:Nat}(h:j<cs.length):QM cs (j+1) j+hdM (cs.drop (j+1))=hdM (cs.drop j):=by
 rw[QM,show j+1+1-j=2 by omega,zic h]
 have h1:hdM (cs.getD j 0::cs.drop (j+1))=((mC (cs.drop (j+1))).take (KW 2 (cs.drop (j+1))+1)).sum:=by
  rw[hdM,mC];rfl
 rw[h1]
 conv=>rhs;rw[za5]
 rw[uW,KK];omega
theorem zDB{cs:List Nat}{j i:Nat}(h:j<cs.length)(hi:i<j)(hc:cs.getD j 0=j+1-i):QM cs (j+1) i+hdM (cs.drop (j+1))=QM cs j i:=by
 rw[QM,QM,zic h,mC,List.tail_cons,KW,if_pos hc,show j+1-i+1=j+1+1-i by omega]
 conv=>rhs;rw[za5]
 rw[uW,KK];omega
theorem zwE{cs:List Nat}(hv:VC cs){j i:Nat}(h:j<cs.length)(hi:i<j)(hc:cs.getD j 0≠j+1-i):QM cs j i=0/\QM cs (j+1) i=0:=by
 constructor
 ·rw[QM,zic h,KW,if_neg hc];simp
 ·rw[QM];by_cases h1:j+1<cs.length
  ·rw[zic h1,KW,if_neg]
   ·simp
   ·intro h2;rcases hv (j+1) h1 with h3|⟨_,h3|⟨h3,h4⟩⟩
    ·omega
    ·omega
    ·simp only[yQ]at h4;omega
  ·rw[kF (by omega)];simp[KW]
theorem zpa{α:Type}(f:Nat->α){n i:Nat}(x:α)(h:i<n):(qD f n).set i x=qD (fun t=>if t=i then x else f t) n:=by
 apply yH;intro j;rw[List.getElem?_set];by_cases hj:j<n
 ·rw[uM _ _ _ hj,uM _ _ _ hj];by_cases h1:i=j
  ·rw[if_pos h1,if_pos (by rw[yR];exact h),if_pos h1.symm]
  ·rw[if_neg h1,if_neg (Ne.symm h1)]
 ·rw[if_neg (by omega),zG (by rw[yR];omega),zG (by rw[yR];omega)]
theorem zyL{cs:List Nat}(hv:VC cs){j:Nat}(h:j<cs.length)(hc:cs.getD j 0=0):(Yo cs (j+1)).set j ((Yo cs (j+1)).getD j 0+(Yo cs (j+1)).getD (j+1) 0)=Yo cs j:=by
 rw[zat (by omega),zat (by omega),if_pos (by omega),if_neg (by omega),zp4 h,Yo,zpa _ _ (by omega),Yo];refine qA fun i hi=>?_;by_cases h1:i=j
 ·rw[if_pos h1,if_neg (by omega),h1]
 ·rw[if_neg h1];by_cases h2:i<j
  ·obtain⟨q1,q2⟩:=zwE hv h h2 (by omega);rw[if_pos (by omega),if_pos h2,q1,q2]
  ·rw[if_neg (by omega),if_neg h2]
theorem zAf{cs:List Nat}(hv:VC cs){j c:Nat}(h:j<cs.length)(hc:cs.getD j 0=c)(h0:c≠0):
 ((Yo cs (j+1)).set j ((Yo cs (j+1)).getD j 0+(Yo cs (j+1)).getD (j+1) 0)).set (j+1-c) ((Yo cs (j+1)).getD (j+1-c) 0+(Yo cs (j+1)).getD (j+1) 0)=Yo cs j/\j+1-c<j/\c<=j+1:=by
 have hle:=hv.le j h;rw[hc]at hle;refine⟨?_,by omega,by omega⟩;have hlt:j+1-c<j:=by omega
 have e:=zDB h hlt (show cs.getD j 0=j+1-(j+1-c) by omega);rw[zat (by omega),zat (by omega),zat (by omega),if_pos (by omega),if_neg (by omega),if_pos (by omega),zp4 h,e,Yo,zpa _ _ (by omega),zpa _ _ (by omega),Yo];refine qA fun i hi=>?_;by_cases h1:i=j+1-c
 ·rw[if_pos h1,if_pos (by omega),h1]
 ·rw[if_neg h1];by_cases h3:i=j
  ·rw[if_pos h3,if_neg (by omega),h3]
  ·rw[if_neg h3];by_cases h2:i<j
   ·obtain⟨q1,q2⟩:=zwE hv h h2 (by omega);rw[if_pos (by omega),if_pos h2,q1,q2]
   ·rw[if_neg (by omega),if_neg h2]
theorem zxG(cs:List Nat):Yo cs cs.length=List.replicate cs.length 0++[1]:=by
 apply yH;intro i;rw[Yo];by_cases hi:i<cs.length
 ·rw[uM _ _ _ (by omega),if_pos hi,zQ (by simpa using hi),km,if_pos hi,QM,kF (by omega)];simp[mC]
 ·by_cases h2:i=cs.length
  ·rw[uM _ _ _ (by omega),if_neg hi,h2,zR (by simp),kF (by omega)];simp[hdM,mC]
  ·rw[zG (by rw[yR];omega),zG (by simp;omega)]
theorem zqQ{B:Nat}:∀(l:List Nat),(∀x∈l,x<=B)->l.sum<=B*l.length
 |[],_=>by simp
 |x::l,h=>by
  have h1:=h x (by simp);have h2:=zqQ l (fun y hy=>h y (zB _ hy));rw[KK,zi,Nat.mul_add];omega
theorem zxH{cs:List Nat}{j:Nat}(hj:j<=cs.length)(h:∀i,j<i->i<=cs.length->hdM (cs.drop i)<=64):∀i,i<=cs.length->(Yo cs j).getD i 0<=64*(cs.length+1):=by
 have hall:∀x∈(mC (cs.drop j)).tail,x<=64:=by
  intro x hx;obtain⟨t,ht,rfl⟩:=yM.1 hx;have hl:=Je (cs.drop j);simp only[Qm,yE]at ht hl;have h1:=zhZ (cs.drop j) (t+1) (by rw[yE];omega);rw[List.drop_drop]at h1;have h2:=h (j+(t+1)) (by omega) (by omega);rw[<-h1,za5,qG,zd,zg (by rw[Qm];omega)]at h2;exact h2
 have hlen:(mC (cs.drop j)).tail.length<=cs.length:=by
  rw[Qm,Je,yE];omega
 have htake:∀q,((mC (cs.drop j)).tail.take q).sum<=64*cs.length:=fun q=>by
  have h1:=zqQ ((mC (cs.drop j)).tail.take q) (fun x hx=>hall x (List.mem_of_mem_take hx));have h2:((mC (cs.drop j)).tail.take q).length<=cs.length:=by rw[List.length_take];omega
  have:=Nat.mul_le_mul_left 64 h2;omega
 intro i hi;rw[zat hi];split
 ·rw[QM];have:=htake (KW (j+1-i) (cs.drop j));omega
 ·by_cases h2:i=j
  ·rw[h2];by_cases h3:j<cs.length
   ·have h4:=zp4 h3;have h5:=h (j+1) (by omega) (by omega)
    have h6:QM cs (j+1) j<=64*cs.length:=by
     rw[QM];have hd:=zic h3;have:(mC (cs.drop j)).tail=mC (cs.drop (j+1)):=(by rw[hd,mC,List.tail_cons]);have h7:=htake (KW (j+1+1-j) (cs.drop (j+1))+1);rw[this,za5,uW,KK]at h7;omega
    omega
   ·rw[kF (by omega)];simp only[hdM,mC,ji];omega
  ·have:=h i (by omega) hi;omega
def upL(P:List Int):Nat->Int->List Int
 |0,_=>[]
 |f+1,i=>if i<0 then[]else i::upL P f (P.getD i.toNat 0)
def yK(P:List Int)(i:Int):List Int:=(upL P 32 i).reverse
section
variable {P S Q:List Int}
theorem znI(h:ClP P S Q):∀(f:Nat) (i:Int),i<P.length->i<f->-1<=i->∀g,f<=g->upL P g i=upL P f i
 |0,i,_,h2,_,g,_=>by
  have:i= -1:=by omega
  subst this
  cases g with
  |zero=>rfl
  |succ g=>
   have:upL P (g+1) (-1)=[]:=(by rw[upL];exact if_pos (by omega));rw[this];rfl
 |f+1,i,h1,h2,h3,g,hg=>by
  obtain⟨k,rfl⟩:∃k,g=k+1:=⟨g-1,by omega⟩;rw[upL,upL];by_cases h0:i<0
  ·rw[if_pos h0,if_pos h0]
  ·rw[if_neg h0,if_neg h0];have hl:=h.low (i:=i.toNat) (by omega);rw[znI h f _ (by omega) (by omega) (by omega) k (by omega)]
theorem zsQ:yK P (-1)=[]:=by
 rw[yK,upL,if_pos (by omega)];rfl
theorem Jb(h:ClP P S Q){i:Int}(h0:0<=i)(h1:i<P.length):yK P i=yK P (P.getD i.toNat 0)++[i]:=by
 have hl:=h.low (i:=i.toNat) (by omega);have hn:=h.n24;rw[yK,yK,upL,if_neg (by omega),List.reverse_cons,znI h 31 _ (by omega) (by omega) (by omega) 32 (by omega)]
theorem zsR(h:ClP P S Q){p:Int->Prop}(hn:p (-1))(hs:∀i:Int,0<=i->i<P.length->p (P.getD i.toNat 0)->p i):∀i:Int,-1<=i->i<P.length->p i:=by
 have key:∀(n:Nat) (i:Int),i<n->-1<=i->i<P.length->p i:=by
  intro n
  induction n with
  |zero=>
   intro i h1 h2 _;have:i= -1:=(by omega);rw[this];exact hn
  |succ n ih=>
   intro i h1 h2 h3;by_cases h0:i<0
   ·have:i= -1:=(by omega);rw[this];exact hn
   ·have hl:=h.low (i:=i.toNat) (by omega);exact hs i (by omega) h3 (ih _ (by omega) (by omega) (by omega))
 exact fun i h1 h2=>key (i+1).toNat i (by omega) h1 h2
theorem zfT(h:ClP P S Q):∀i:Int,-1<=i->i<P.length->(∀x∈yK P i,0<=x/\x<=i)/\(yK P i).Pairwise (·< ·):=by
 refine zsR h ?_ (fun i h0 h1 ih=>?_)
 ·rw[zsQ];exact⟨fun x hx=>(by cases hx),List.Pairwise.nil⟩
 ·have hl:=h.low (i:=i.toNat) (by omega);rw[Jb h h0 h1];refine⟨fun x hx=>?_,?_⟩
  ·rcases yW.1 hx with hx|hx
   ·have:=ih.1 x hx;omega
   ·rw[yF]at hx;omega
  ·rw[List.pairwise_append];refine⟨ih.2,by simp,fun a ha b hb=>?_⟩;rw[yF]at hb;have:=ih.1 a ha;omega
theorem ziL(h:ClP P S Q){i:Int}(h0: -1<=i)(h1:i<P.length):(yK P i).Nodup:=(zfT h i h0 h1).2.imp (fun h=>by omega)
theorem zdA(h:ClP P S Q){i:Int}(h0: -1<=i)(h1:i<P.length):(yK P i).length<=24:=by
 have h2:=zfT h i h0 h1;have h3:=zq7 (yK P i) (n:=P.length) (ziL h h0 h1) (fun x hx=>by have:=h2.1 x hx;omega);have:=h.n24;omega
theorem zki{l:List Int}{x:Int}(h:x∈l):idx l x=(l.idxOf x:Nat):=by
 rw[idx];have hlt:=zaK.2 h
 have:((List.range l.length).find? fun t=>l.getD t 0==x)=some (l.idxOf x):=by
  rw[jZ];refine⟨?_,by simpa using hlt,fun t ht=>?_⟩
  ·rw[zd,zg hlt];simp
  ·rw[zd,zg (by omega)];have:=List.not_of_lt_findIdx (p:=(·==x)) (xs:=l) (i:=t) ht;simpa using this
 rw[this]
def KZ(S p:List Int)(j:Nat):Nat:=if 0<=S.getD (p.getD j 0).toNat 0 then((j:Int)-idx p (S.getD (p.getD j 0).toNat 0)).toNat else 0
def cdN(S p:List Int):List Nat:=qD (fun t=>KZ S p (t+1)) (p.length-1)
theorem zih(S p:List Int):(cdN S p).length=p.length-1:=yR _ _
theorem zwc{l l':List Int}{x:Int}(h:x∈l):idx (l++l') x=idx l x:=by
 rw[zki h,zki (yW.2 (.inl h)),ze0,if_pos h]
theorem zAv{l l':List Int}{j:Nat}(h:j<l.length):(l++l').getD j 0=l.getD j 0:=by
 rw[zd,zd,zQ h]
theorem zrg(l:List Int)(x:Int):(l++[x]).getD l.length 0=x:=by simp[zd]
theorem zAM{S p:List Int}{i:Int}(hp:∀x∈p,0<=S.getD x.toNat 0->S.getD x.toNat 0∈p){j:Nat}(hj:j<p.length):KZ S (p++[i]) j=KZ S p j:=by
 rw[KZ,KZ,zAv hj];split
 ·rename_i h0;rw[zwc (hp _ (by rw[zd,zg hj];exact yN _) h0)]
 ·rfl
theorem zCy{S p:List Int}{i:Int}(hp:∀x∈p,0<=S.getD x.toNat 0->S.getD x.toNat 0∈p)(hne:p≠[]):cdN S (p++[i])=cdN S p++[KZ S (p++[i]) p.length]:=by
 have hl:=QF.2 hne;rw[cdN,zp,yj,yQ,show p.length=(p.length-1)+1 by omega,zbY];congr 1;exact qA fun t ht=>zAM hp (by omega)
theorem zq2(h:ClP P S Q):∀i:Int,-1<=i->i<P.length->(∀x∈yK P i,0<=S.getD x.toNat 0->S.getD x.toNat 0∈yK P i)/\VC (cdN S (yK P i)):=by
 refine zsR h ?_ (fun i h0 h1 ih=>?_)
 ·rw[zsQ];exact⟨fun x hx=>by(cases hx),fun i hi=>by(rw[zih]at hi;simp at hi)⟩
 ·have hl:=h.low (i:=i.toNat) (by omega);obtain⟨ih1,ih2⟩:=ih;rw[Jb h h0 h1];obtain⟨q,hq⟩:∃q,q=P.getD i.toNat 0:=⟨_,rfl⟩;rw[<-hq]at ih1 ih2 hl ⊢
  have hsec:0<=S.getD i.toNat 0->0<=q/\(S.getD i.toNat 0=P.getD q.toNat 0\/S.getD i.toNat 0=S.getD q.toNat 0):=fun h2=>by
   have hi0:i.toNat≠0:=fun h3=>(by have:=(hl.2.2.2.2.2 h3).2;omega);have h3:=(zfV hi0).1 (h.place i.toNat (by omega));rw[<-hq]at h3;refine⟨h3.1.1,?_⟩;rcases h3.2 with h4|h4
   ·omega
   ·exact h4.2
  have hin:0<=S.getD i.toNat 0->S.getD i.toNat 0∈yK P q:=fun h2=>by
   obtain⟨q0,h3⟩:=hsec h2;have hql:=h.low (i:=q.toNat) (by omega);rcases h3 with h3|h3
   ·rw[h3,Jb h q0 (by omega),Jb h (i:=P.getD q.toNat 0) (by omega) (by omega)];simp
   ·rw[h3];refine ih1 q ?_ (by omega);rw[Jb h q0 (by omega)];simp
  refine⟨fun x hx h2=>?_,?_⟩
  ·refine yW.2 (.inl ?_);rcases yW.1 hx with hx|hx
   ·exact ih1 x hx h2
   ·rw[yF]at hx;rw[hx]at h2 ⊢;exact hin h2
  ·by_cases hne:yK P q=[]
   ·rw[hne];intro t ht;rw[zih]at ht;simp at ht
   ·rw[zCy ih1 hne];obtain⟨m,hm⟩:∃m,m=(yK P q).length:=⟨_,rfl⟩;have hm1:1<=m:=(by rw[hm];exact QF.2 hne);have hcl:(cdN S (yK P q)).length=m-1:=(by rw[zih,hm]);intro t ht;rw[zp,yj,hcl]at ht
    have hold:∀t,t<m-1->(cdN S (yK P q)++[KZ S (yK P q++[i]) (yK P q).length]).getD t 0=(cdN S (yK P q)).getD t 0:=fun t ht=>by
     rw[zd,zd,zQ (by omega)]
    by_cases ht1:t<m-1
    ·have h3:=ih2 t (by omega);rw[hold t ht1,hold (t-1) (by omega)];exact h3
    ·have ht2:t=m-1:=(by omega);subst ht2
     have hnew:(cdN S (yK P q)++[KZ S (yK P q++[i]) (yK P q).length]).getD (m-1) 0=KZ S (yK P q++[i]) m:=by
      rw[zd,zR (by omega),hcl,kY,<-hm];rfl
     rw[hnew];have hlast:(yK P q++[i]).getD m 0=i:=(by rw[hm];exact zrg _ _);rw[KZ,hlast];by_cases h2:0<=S.getD i.toNat 0
     ·rw[if_pos h2];right;obtain⟨q0,h3⟩:=hsec h2;have hql:=h.low (i:=q.toNat) (by omega);have hps:=Jb h q0 (show q<P.length by omega);obtain⟨r,hr⟩:∃r,r=yK P (P.getD q.toNat 0):=⟨_,rfl⟩;rw[<-hr]at hps;have hrm:m=r.length+1:=(by rw[hm,hps];simp);have hmem:=hin h2;rw[zwc hmem,zki hmem];by_cases h4:S.getD i.toNat 0=P.getD q.toNat 0
      ·have hr2:=Jb h (i:=P.getD q.toNat 0) (by omega) (by omega);rw[<-hr]at hr2;obtain⟨r2,hr3⟩:∃r2,r2=yK P (P.getD (P.getD q.toNat 0).toNat 0):=⟨_,rfl⟩;rw[<-hr3]at hr2
       have hni:P.getD q.toNat 0∉r2:=fun hx=>by
        have hl2:=h.low (i:=(P.getD q.toNat 0).toNat) (by omega);rw[hr3]at hx;have:=(zfT h _ (by omega) (by omega)).1 _ hx;omega
       have hk:(yK P q).idxOf (S.getD i.toNat 0)=r2.length:=by
        rw[h4,hps,hr2,zU,ze0,if_neg hni];simp
       have hrl:r.length=r2.length+1:=(by rw[hr2];simp);rw[hk];refine⟨by omega,.inl (by omega)⟩
      ·have h5:S.getD i.toNat 0=S.getD q.toNat 0:=h3.resolve_left h4;have hq0:q.toNat≠0:=fun h6=>by have:=(hql.2.2.2.2.2 h6).2;omega
       have hr0:r≠[]:=fun h6=>by
        have h7:=Jb h (i:=P.getD q.toNat 0) (by omega) (by omega);rw[<-hr,h6]at h7;simp at h7
       have hrl:=QF.2 hr0
       have hsq:S.getD i.toNat 0∈r:=by
        have h6:=hmem;rw[hps]at h6;rcases yW.1 h6 with h6|h6
        ·exact h6
        ·rw[yF]at h6;omega
       have hk:(yK P q).idxOf (S.getD i.toNat 0)<r.length:=by
        rw[hps,ze0,if_pos hsq];exact zaK.2 hsq
       have hcq:(cdN S (yK P q)).getD (m-2) 0=m-1-(yK P q).idxOf (S.getD i.toNat 0):=by
        rw[cdN,js _ _ _ _ (by omega),show m-2+1=m-1 by omega,KZ]
        have h6:(yK P q).getD (m-1) 0=q:=by
         rw[hps,show m-1=r.length by omega];exact zrg _ _
        rw[h6,if_pos (by omega),<-h5,zki hmem];omega
       have hle:=ih2.le (m-2) (by omega);rw[hcq]at hle;refine⟨by omega,.inr ⟨by omega,?_⟩⟩;rw[hold (m-1-1) (by omega),show m-1-1=m-2 by omega,hcq];omega
     ·rw[if_neg h2];exact .inl rfl
end
theorem zs8(l:List Nat)(i n:Nat):(yc l).set i (n:Int)=yc (l.set i n):=by
 simp only[yc,List.map_set]
theorem zdE(l:List Nat)(i:Nat):(yc l).getD i 0=((l.getD i 0:Nat):Int):=YN l i 0
theorem ziA{α:Type}{l:List α}{i j:Nat}{x z:α}(hi:i<l.length):(l.set i x).getD j z=if j=i then x else l.getD j z:=by
 simp only[zd,List.getElem?_set];by_cases h:j=i
 ·rw[h,if_pos rfl,if_pos rfl,if_pos hi];rfl
 ·rw[if_neg (Ne.symm h),if_neg h]
theorem zBQ(m:Nat):List.replicate m (V.int .i64 0)=I (yc (List.replicate m 0)):=by
 rw[I,yc,List.map_replicate,List.map_replicate];rfl
theorem zz0(m k:Nat):(List.replicate m (V.int .i64 0)).getD k (V.int .i64 0)=V.int .i64 0:=by
 rw[zd,km];split<;>rfl
def zt6(f:List V->List V×Bool)(q:List V->Prop):zN:=fun
 |[.slc false 2 (.int .i64 0) a0]=>some ([q a0],.tup [.slc true 2 (.int .i64 0) ((f a0).1),.bool ((f a0).2)])
 |_=>none
def cvm(cs:List Nat):List V×Bool:=if(mC cs).tail.all (fun x=>decide (x<=64))=true then(I (yc (mC cs)),decide (hdM cs<=64))else([],false)
def zlr(a:List V):List V×Bool:=cvm (zb6 (qj a))
def ze9(a:List V):Prop:=∃cs,a=I (yc cs)/\VC cs/\cs.length<=30
theorem zCs{cs:List Nat}{j:Nat}(h1:1<=j)(h2:j<=cs.length)(h:64<hdM (cs.drop j)):cvm cs=([],false):=by
 rw[cvm,if_neg];intro ha;rw[yn]at ha;have hl:=Je cs;have h3:=zhZ cs j h2;obtain⟨t,rfl⟩:∃t,j=t+1:=⟨j-1,by omega⟩;rw[za5,qG]at h3;have ht:t<(mC cs).tail.length:=by rw[Qm];omega
 have h4:=ha _ (yN ht);rw[zd,zg ht]at h3;simp only[Option.getD_some]at h3;simp only[decide_eq_true_eq]at h4;omega
theorem zAI{cs:List Nat}(h:∀i,1<=i->i<=cs.length->hdM (cs.drop i)<=64):cvm cs=(I (yc (mC cs)),decide (hdM cs<=64)):=by
 rw[cvm,if_pos];rw[yn];intro x hx;obtain⟨t,ht,rfl⟩:=yM.1 hx;have hl:=Je cs;rw[Qm]at ht;have h1:=zhZ cs (t+1) (by omega);have h2:=h (t+1) (by omega) (by omega);rw[<-h1,za5,qG,zd,zg (by rw[Qm];omega)]at h2;simpa using h2
def zcV(cs:List Nat)(j:Nat):List Nat:=if j=0 then[]else if cs.getD (j-1) 0=0 then[j-1]else[j-cs.getD (j-1) 0,j-1]
def zpX(f:List V->Int->List V)(q:List V->Int->Prop):zN:=fun
 |[.slc false 2 (.int .i64 0) a0,.int .i64 a1]=>some ([q a0 a1],.slc true 2 (.int .i64 0) (f a0 a1))
 |_=>none
def zlo(a:List V)(j:Int):List V:=I (yc (zcV (zb6 (qj a)) j.toNat))
def zrS(a:List V)(j:Int):Prop:=∃cs,a=I (yc cs)/\VC cs/\cs.length<=30/\0<=j/\j<=cs.length
theorem ziD:yI Tryz.prog 156 (zpX zlo zrS):=by
 intro args ps r h hp;unfold zpX at h;split at h
 ·rename_i a0 j;cases h;obtain⟨cs,hcs,hv,hl,j0,j1⟩:zrS a0 j:=(zm.1 hp).1;have g0:V.frzs a0=a0:=by rw[hcs,zD]
  have hal:a0.length=cs.length:=by rw[hcs,zj,qO]
  have ga:∀k,a0.getD k (.int .i64 0)=.int .i64 ((cs.getD k 0:Nat):Int):=fun k=>by rw[hcs,zO,zdE]
  have hf0:zlo a0 j=I (yc (zcV cs j.toNat)):=by rw[zlo,hcs,zr,KT]
  refine zC (T:=tab) (B:=[]) (Bi:=[]) [0,1,4] Tryz.func156 rfl rfl (by kernel_rfl) (ze rfl) mixed zP (by exact zA) (by exact zx) (by kernel_rfl) ?_;intro L lp rr hL hr hf hlp
  conv=>cbv
  simp only[zo hL,sQ,g0,hal,ga];refine⟨fun h1=>?_,fun h1=>?_⟩
  ·rw[hr,hf0,zcV,if_pos (by omega)];rfl
  ·obtain⟨t,ht⟩:∃t:Nat,j=t+1:=⟨(j-1).toNat,by omega⟩;have he:j.toNat=t+1:=(by omega);have e1:IntKind.wrap .i64 (j-1)=(t:Int):=(by rw[zk (by omega) (by omega)];omega);have hle:=hv.le t (by omega);rw[hr,hf0,zcV,if_neg (by omega),he,yQ];simp only[e1,zV];refine⟨by omega,by omega,fun h2=>?_,fun h2=>⟨by omega,by omega,?_⟩⟩
   ·rw[if_pos (by omega)];rfl
   ·have e4:IntKind.wrap .i64 (j-((cs.getD t 0:Nat):Int))=((t+1-cs.getD t 0:Nat):Int):=(by rw[zk (by omega) (by omega)];omega);rw[if_neg (by omega),e4];rfl
 ·cases h
def zca(A:List Nat)(j:Nat)(nl:List Nat):Nat->List Nat
 |0=>A
 |i+1=>(zca A j nl i).set (nl.getD i 0) ((zca A j nl i).getD (nl.getD i 0) 0+(zca A j nl i).getD j 0)
theorem zwC{A:List Nat}{j:Nat}{nl:List Nat}(h:∀i,i<nl.length->nl.getD i 0≠j/\nl.getD i 0<A.length):∀i,i<=nl.length->(zca A j nl i).length=A.length/\(zca A j nl i).getD j 0=A.getD j 0/\∀x,(zca A j nl i).getD x 0<=A.getD x 0+i*A.getD j 0
 |0,_=>⟨rfl,rfl,fun x=>by simp[zca]⟩
 |i+1,hi=>by
  obtain⟨h1,h2,h3⟩:=zwC h i (by omega);obtain⟨h4,h5⟩:=h i (by omega);refine⟨by rw[zca,List.length_set,h1],?_,fun x=>?_⟩
  ·rw[zca,ziA (by rw[h1];exact h5),if_neg (Ne.symm h4)];exact h2
  ·rw[zca,ziA (by rw[h1];exact h5),jc];have:=h3 x;split
   ·rename_i hx;rw[<-hx,h2];omega
   ·omega
theorem zAV{cs:List Nat}(hv:VC cs){t:Nat}(h:t<cs.length):zca (Yo cs (t+1)) (t+1) (zcV cs (t+1)) (zcV cs (t+1)).length=Yo cs t:=by
 rw[zcV,if_neg (by omega),yQ];by_cases hc:cs.getD t 0=0
 ·rw[if_pos hc];exact zyL hv h hc
 ·rw[if_neg hc];obtain⟨h1,h2,h3⟩:=zAf hv h rfl hc;have hl:=zb3 cs (t+1);simp only[zi,zq,zca,ji,qG];rw[ziA (by omega),if_neg (by omega),ziA (by omega),if_neg (by omega),List.set_comm _ _ (by omega)];exact h1
theorem zjS:yI Tryz.prog 154 (zt6 zlr ze9):=by
 intro args ps r h hp;unfold zt6 at h;split at h
 ·rename_i a0;cases h;obtain⟨cs,hcs,hv,hl⟩:ze9 a0:=(zm.1 hp).1;have g0:V.frzs a0=a0:=by rw[hcs,zD]
  have hal:a0.length=cs.length:=by rw[hcs,zj,qO]
  have ga:∀k,a0.getD k (.int .i64 0)=.int .i64 ((cs.getD k 0:Nat):Int):=fun k=>by rw[hcs,zO,zdE]
  have hf0:zlr a0=cvm cs:=by rw[zlr,hcs,zr,KT]
  have hfp:∀j,zlo a0 j=I (yc (zcV cs j.toNat)):=fun j=>by rw[zlo,hcs,zr,KT]
  have hqp:∀j:Int,0<=j->j<=cs.length->zrS a0 j:=fun j h0 h1=>⟨cs,hcs,hv,hl,h0,h1⟩;obtain⟨n,hn⟩:∃n:Int,n=cs.length:=⟨_,rfl⟩;generalize zql:zlo=zwQ;generalize zp8:zrS=zwJ;refine zC (T:=tab) (B:=[(1000000002,zil),(156,zpX zwQ zwJ)]) (Bi:=[]) [2000014056,0,3,4,5,6,7,8] Tryz.func154 rfl rfl (by kernel_rfl) (ze rfl) mixed zP (by subst zql zp8;exact(zn zpv (zn ziD zA))) (by subst zql zp8;exact zx) (by kernel_rfl) ?_;intro L lp rr hL hr hf hlp;have Ep:∀j,zwQ a0 j=I (yc (zcV cs j.toNat)):=by rw[<-zql];exact hfp
  have Qp:∀j:Int,0<=j->j<=cs.length->zwJ a0 j:=by rw[<-zp8];exact hqp
  conv=>cbv
  simp only[zo hL,sQ,g0,hal,<-hn];rw[zk (n:=n+1) (by omega) (by omega),zk (n:=n+1-1) (by omega) (by omega),show n+1-1=n by omega];obtain⟨s0,hs0⟩:∃s0,s0=(List.replicate (n+1).toNat (V.int IntKind.i64 0)).set n.toNat (V.int IntKind.i64 1):=⟨_,rfl⟩
  have hs00:s0=I (yc (Yo cs cs.length)):=by
   rw[hs0,zxG,show(n+1).toNat=cs.length+1 by omega,show n.toNat=cs.length by omega];have e:=zBQ (cs.length+1)
   have e2:(List.replicate (cs.length+1) 0).set cs.length 1=List.replicate cs.length 0++[1]:=by
    rw[qM,List.set_append_right _ _ (by simp)];simp
   rw[e,zam,show(1:Int)=((1:Nat):Int)from rfl,zs8,e2]
  rw[<-hs0,zz0,zE];refine⟨by omega,by omega,by omega,by omega,by omega,by omega,rfl,?_⟩
  refine hlp (List V×Int) _ _ _ [0,5,6] (fun x=>[(0,none,.val (.slc false 2 (.int .i64 0) a0)),(5,none,.val (.slc true 2 (.int .i64 0) x.1)),(6,none,.val (.int .i64 x.2))])
   (fun x=>0<=x.2/\x.2<=n/\x.1=I (yc (Yo cs x.2.toNat))/\∀i:Nat,x.2<i->i<=cs.length->hdM (cs.drop i)<=64) (fun x=>x.2.toNat) ((s0,n)) (by subst hL;rfl) ?_ ?_
  ·exact⟨by omega,by simp,by rw[hs00,hn];rfl,fun i h1 h2=>by simp only at h1;omega⟩
  rintro⟨ms,j⟩ ⟨j0,j1,hM,hbd⟩ hfx ag hag;simp only at j0 j1 hM hbd;have hml:ms.length=cs.length+1:=by rw[hM,zj,qO,zb3]
  have gm:∀k,ms.getD k (.int .i64 0)=.int .i64 (((Yo cs j.toNat).getD k 0:Nat):Int):=fun k=>by rw[hM,zO,zdE]
  conv=>cbv
  simp only[zo hL,sQ,g0,hal,ga,gm,hml,Ep];refine⟨fun h2=>?_,fun h2=>?_⟩
  ·obtain⟨t,ht⟩:∃t:Nat,j=t+1:=⟨(j-1).toNat,by omega⟩;have he:j.toNat=t+1:=(by omega);obtain⟨A,hA⟩:∃A,A=Yo cs (t+1):=⟨_,rfl⟩;rw[he,<-hA]at hM gm
   have hsm:∀i,A.getD i 0<=1984:=fun i=>by
    by_cases hi:i<=cs.length
    ·rw[hA];have:=zxH (cs:=cs) (j:=t+1) (by omega) (fun i h1 h2=>hbd i (by omega) h2) i hi;omega
    ·rw[zd,zG (by rw[hA,zb3];omega)];exact Nat.zero_le _
   have hA1:A.getD (t+1) 0=hdM (cs.drop (t+1)):=(by rw[hA,zat (by omega),if_neg (by omega)]);have hAl:A.length=cs.length+1:=(by rw[hA,zb3]);obtain⟨nl,hnl⟩:∃nl,nl=zcV cs (t+1):=⟨_,rfl⟩;obtain⟨vn,hvn⟩:∃vn,vn=I (yc nl):=⟨_,rfl⟩
   have hnok:nl.length<=2/\∀i,i<nl.length->nl.getD i 0≠t+1/\nl.getD i 0<A.length:=by
    have hle:=hv.le t (by omega);rw[hnl,zcV,if_neg (by omega),yQ];split
    ·refine⟨by simp,fun i hi=>?_⟩;have:i=0:=(by simp at hi;omega);subst this;simp only[ji];omega
    ·refine⟨by simp,fun i hi=>?_⟩;have:i=0\/i=1:=(by simp at hi;omega);rcases this with rfl|rfl
     ·simp only[ji];omega
     ·simp only[qG,ji];omega
   have hvl:vn.length=nl.length:=(by rw[hvn,zj,qO]);have gvn:∀k,vn.getD k (.int .i64 0)=.int .i64 ((nl.getD k 0:Nat):Int):=fun k=>(by rw[hvn,zO,zdE]);have hend:=zAV hv (t:=t) (by omega);rw[<-hA,<-hnl]at hend;simp only[he,<-hA,<-hnl,<-hvn];refine⟨j0,by omega,by omega,fun h3=>?_,fun h3=>⟨Qp j j0 (by omega),?_⟩⟩
   ·rw[hr,hf0,zCs (j:=t+1) (by omega) (by omega) (by rw[<-hA1];omega)]
   have h3':A.getD (t+1) 0<=64:=by omega
   refine hlp (List V×Int) _ _ _ [0,5,6,7,8] (fun x=>[(0,none,.val (.slc false 2 (.int .i64 0) a0)),(5,none,.val (.slc true 2 (.int .i64 0) x.1)),(6,none,.val (.int .i64 j)),(7,none,.val (.slc true 2 (.int .i64 0) vn)),(8,none,.val (.int .i64 x.2))])
    (fun x=>0<=x.2/\x.2<=nl.length/\x.1=I (yc (zca A (t+1) nl x.2.toNat))) (fun x=>(nl.length-x.2).toNat) ((ms,0)) (by subst hL;rfl) ?_ ?_
   ·exact⟨by simp,by simp,hM⟩
   rintro⟨bs,i⟩ ⟨i0,i1,hB⟩ hfx2 ag2 hag2;simp only at i0 i1 hB;obtain⟨B,hBB⟩:∃B,B=zca A (t+1) nl i.toNat:=⟨_,rfl⟩;obtain⟨b1,b2,b3⟩:=zwC hnok.2 i.toNat (by omega);rw[<-hBB]at hB b1 b2 b3;have hbl:bs.length=cs.length+1:=(by rw[hB,zj,qO,b1,hAl]);have gb:∀k,bs.getD k (.int .i64 0)=.int .i64 ((B.getD k 0:Nat):Int):=fun k=>by rw[hB,zO,zdE]
   have hBs:∀k,B.getD k 0<=2112:=fun k=>by
    have h4:=b3 k;have h5:=hsm k;have h6:i.toNat*A.getD (t+1) 0<=2*64:=Nat.mul_le_mul (by omega) h3';omega
   conv=>cbv
   simp only[zo hL,sQ,gvn,hvl,gb,hbl];refine⟨fun h4=>?_,fun h4=>?_⟩
   ·obtain⟨k,hk⟩:∃k,k=nl.getD i.toNat 0:=⟨_,rfl⟩;obtain⟨k1,k2⟩:=hnok.2 i.toNat (by omega);rw[<-hk]at k1 k2;simp only[<-hk,he,zV];have hk2:=hBs k;have hk3:=hBs (t+1)
    have e5:IntKind.wrap .i64 (((B.getD k 0:Nat):Int)+((B.getD (t+1) 0:Nat):Int))=((B.getD k 0+B.getD (t+1) 0:Nat):Int):=by
     rw[zk (by omega) (by omega)];omega
    rw[e5,zk (n:=i+1) (by omega) (by omega)];refine⟨by omega,by omega,by omega,by omega,by omega,by omega,by omega,by omega,by omega,by omega,by omega,by omega,by omega,by omega,by omega,?_⟩;refine hag2 (_,i+1) ⟨by simp only;omega,by simp only;omega,?_⟩ (by simp only;omega);simp only[zL i0];rw[zca,<-hBB,<-hk,hB,zam,zs8]
   ·rw[zk (n:=j-1) (by omega) (by omega)];refine hag (bs,j-1) ⟨by simp only;omega,by simp only;omega,?_,fun q h5 h6=>?_⟩ (by simp only;omega)
    ·simp only;rw[hB,hBB,show i.toNat=nl.length by omega,hend,show(j-1).toNat=t by omega]
    ·simp only at h5;by_cases h7:q=t+1
     ·rw[h7,<-hA1];omega
     ·exact hbd q (by omega) h6
  ·have h3:j=0:=(by omega);have e0:j.toNat=0:=(by omega);rw[e0]at hM;refine⟨by omega,by omega,by omega,?_⟩;rw[hr,hf0,zAI (fun i h1 h2=>hbd i (by omega) h2),hM,e0,zAg]
   have e6:decide ((((mC cs).getD 0 0:Nat):Int)<=64)=decide (hdM cs<=64):=by
    rw[hdM];exact decide_eq_decide.2 (by omega)
   rw[e6]
 ·cases h
def zt7(f:List V->Bool)(q:List V->Prop):zN:=fun
 |[.slc false 2 (.int .i64 0) a0]=>some ([q a0],.bool (f a0))
 |_=>none
def ztF(_:List V):Bool:=true
theorem zsC:yI Tryz.prog 153 (zt7 ztF ze9):=by
 intro args ps r h hp;unfold zt7 at h;split at h
 ·rename_i a0;cases h;obtain⟨cs,hcs,hv,hl⟩:ze9 a0:=(zm.1 hp).1;have g0:V.frzs a0=a0:=by rw[hcs,zD]
  have hal:a0.length=cs.length:=by rw[hcs,zj,qO]
  have ga:∀k,a0.getD k (.int .i64 0)=.int .i64 ((cs.getD k 0:Nat):Int):=fun k=>by rw[hcs,zO,zdE]
  refine zC (T:=tab) (B:=[]) (Bi:=[]) [0,2,3] Tryz.func153 rfl rfl (by kernel_rfl) (ze rfl) mixed zP (by exact zA) (by exact zx) (by kernel_rfl) ?_;intro L lp rr hL hr hf hlp
  conv=>cbv
  refine hlp (Int) _ _ _ [0,3] (fun x=>[(0,none,.val (.slc false 2 (.int .i64 0) a0)),(3,none,.val (.int .i64 x))])
   (fun x=>0<=x/\x<=cs.length) (fun x=>(cs.length-x).toNat) (0) (by subst hL;rfl) ?_ ?_
  ·exact⟨by simp,by simp⟩
  rintro i ⟨i0,i1⟩ hfx ag hag
  conv=>cbv
  simp only[zo hL,sQ,g0,hal,ga]
  have hnx:i<cs.length->ag [(0,none,A.val (V.slc false 2 (V.int .i64 0) a0)),(3,none,A.val (V.int .i64 (IntKind.wrap .i64 (i+1))))]:=fun h=>by
   rw[zk (n:=i+1) (by omega) (by omega)];exact hag (i+1) ⟨by omega,by omega⟩ (by omega)
  refine⟨fun h2=>⟨i0,h2,fun h3=>hnx h2,fun h3=>?_⟩,fun h2=>?_⟩
  ·have hvi:=hv i.toNat (by omega);have e1:i≠0->IntKind.wrap .i64 (i-1)=i-1:=fun h=>zk (by omega) (by omega);rcases hvi with h4|⟨h4,h5⟩
   ·omega
   ·rw[e1 (by omega),show(i-1).toNat=i.toNat-1 by omega];refine⟨fun h6=>by omega,fun h6=>⟨i0,h2,fun h7=>hnx h2,fun h7=>?_⟩⟩;rcases h5 with h5|⟨h5,h8⟩
    ·omega
    have hle:=hv.le i.toNat (by omega)
    have e2:IntKind.wrap .i64 (((cs.getD (i.toNat-1) 0:Nat):Int)+1)=((cs.getD i.toNat 0:Nat):Int):=by
     rw[zk (by omega) (by omega)];omega
    rw[e2];refine⟨by omega,by omega,fun _=>i0,fun _=>h2,fun _=>trivial,fun _=>by omega,fun _=>by omega,fun _=>trivial,fun h9=>?_,fun h9=>hnx h2⟩;rcases h9 with h9|h9
    ·omega
    ·exact absurd rfl h9
  ·rw[hr,ztF];have:decide ((cs.length:Int)<400)=true:=(by rw[decide_eq_true_eq];omega);rw[this]
 ·cases h
def zt9(f:Int->List V)(q:Int->Prop):zN:=fun
 |[.int .i64 a0]=>some ([q a0],.slc true 2 (.int .i64 0) (f a0))
 |_=>none
def zh5(k:Int):List V:=I (yc (List.replicate k.toNat 1))
def zsO(k:Int):Prop:=0<=k/\k<=1000
theorem zpj:yI Tryz.prog 155 (zt9 zh5 zsO):=by
 intro args ps r h hp;unfold zt9 at h;split at h
 ·rename_i k;cases h;obtain⟨k0,k1⟩:zsO k:=(zm.1 hp).1;refine zC (T:=tab) (B:=[]) (Bi:=[]) [0,2,3] Tryz.func155 rfl rfl (by kernel_rfl) (ze rfl) mixed zP (by exact zA) (by exact zx) (by kernel_rfl) ?_;intro L lp rr hL hr hf hlp
  conv=>cbv
  refine hlp (List V×Int) _ _ _ [0,3] (fun x=>[(0,none,.val (.int .i64 x.2)),(3,none,.val (.slc true 2 (.int .i64 0) x.1))])
   (fun x=>0<=x.2/\x.2<=k/\x.1=I (yc (List.replicate (k-x.2).toNat 1))) (fun x=>x.2.toNat) (([],k)) (by subst hL;rfl) ?_ ?_
  ·exact⟨by simp only;omega,by simp,by simp[yc,I]⟩
  rintro⟨os,j⟩ ⟨j0,j1,hO⟩ hfx ag hag;simp only at j0 j1 hO;have hol:os.length<=1000:=by rw[hO,zj,qO,zE];omega
  conv=>cbv
  simp only[zo hL,sQ,true_and];refine⟨fun h2=>?_,fun h2=>?_⟩
  ·rw[zk (n:=j-1) (by omega) (by omega)]
   (repeat' first|(exact yr _)|(exact je rfl)|(exact yV _)|(apply And.intro)|(intro _))<;>(try first|exact True.intro|omega|rfl|(simp only[zi,zq,zj];omega))
   refine hag (_,j-1) ⟨by simp only;omega,by simp only;omega,?_⟩ (by simp only;omega);simp only;rw[hO,show(k-(j-1)).toNat=(k-j).toNat+1 by omega,qM,YO,<-jb];rfl
  ·rw[hr,zh5,hO,show(k-j).toNat=k.toNat by omega]
 ·cases h
def zlz(f:List V->List V->List V->Int->List V)(q:List V->List V->List V->Int->Prop):zN:=fun
 |[.agg [.slc false 2 (.int .i64 0) a0,.slc false 2 (.int .i64 0) a1,.slc false 2 (.int .i64 0) a2],.int .i64 a3]=>some ([q a0 a1 a2 a3],.slc true 2 (.int .i64 0) (f a0 a1 a2 a3))
 |_=>none
def zeF(a _ _:List V)(i:Int):List V:=I (yK (qj a) i)
def zj5(a b c:List V)(i:Int):Prop:=zeS a b c/\0<=i/\i<a.length
theorem zBD{P S Q:List Int}(h:ClP P S Q){i:Int}(h0:0<=i)(h1:i<P.length):upL P 32 i=i::upL P 32 (P.getD i.toNat 0):=by
 have h2:=congrArg List.reverse (Jb h h0 h1);rw[yK,yK,List.reverse_reverse,List.reverse_append,List.reverse_reverse]at h2;simpa using h2
theorem zCO(P:List Int){i:Int}(h:i<0):upL P 32 i=[]:=by rw[upL,if_pos h]
theorem zCP{P S Q:List Int}(h:ClP P S Q){i:Int}(h0: -1<=i)(h1:i<P.length):(upL P 32 i).length<=24:=by
 have:=zdA h h0 h1
 rwa [yK,List.length_reverse]at this
theorem zhP:yI Tryz.prog 139 (zlz zeF zj5):=by
 intro args ps r h hp;unfold zlz at h;split at h
 ·rename_i a0 a1 a2 i;cases h;obtain⟨hqv,i0,i1⟩:zj5 a0 a1 a2 i:=(zm.1 hp).1;obtain⟨⟨⟨P,hP⟩,⟨S,hS⟩,⟨Q,hQ⟩⟩,hcl⟩:=id hqv;rw[hP,hS,hQ,zr,zr,zr]at hcl;have g0:V.frzs a0=a0:=by rw[hP,zD]
  have g1:V.frzs a1=a1:=by rw[hS,zD]
  have g2:V.frzs a2=a2:=by rw[hQ,zD]
  have hpl:a0.length=P.length:=by rw[hP,zj]
  have gp:∀k,a0.getD k (.int .i64 0)=.int .i64 (P.getD k 0):=fun k=>by rw[hP,zO]
  have n24:=hcl.n24;have hf0:zeF a0 a1 a2 i=I (yK P i):=by rw[zeF,hP,zr]
  rw[hpl]at i1;refine zC (T:=tab) (B:=[]) (Bi:=[]) [0,1,2,4,5] Tryz.func139 rfl rfl (by kernel_rfl) (ze rfl) mixed zP (by exact zA) (by exact zx) (by kernel_rfl) ?_;intro L lp rr hL hr hf hlp
  conv=>cbv
  refine hlp (List V×Int) _ _ _ [1,2,5] (fun x=>[(1,none,.val (.int .i64 x.2)),(2,none,.val (.box 31 (.agg [.slc false 2 (.int .i64 0) a0,.slc false 2 (.int .i64 0) a1,.slc false 2 (.int .i64 0) a2]))),(5,none,.val (.slc true 2 (.int .i64 0) x.1))])
   (fun x=> -1<=x.2/\x.2<P.length/\∃ls,x.1=I ls.reverse/\ls++upL P 32 x.2=upL P 32 i) (fun x=>(x.2+1).toNat) (([],i)) (by subst hL;rfl) ?_ ?_
  ·exact⟨by simp only;omega,by simp only;exact i1,[],rfl,rfl⟩
  rintro⟨os,j⟩ ⟨j0,j1,ls,hO,hU⟩ hfx ag hag;simp only at j0 j1 hO hU;have hul:=zCP hcl (show-1<=i by omega) i1;have hll:ls.length<=24:=by rw[<-hU,zp]at hul;omega
  have hol:os.length=ls.length:=by rw[hO,zj,List.length_reverse]
  conv=>cbv
  simp only[zo hL,sQ,g0,g1,g2,gp,hpl];refine⟨fun h2=>?_,fun h2=>?_⟩
  ·have hlow:=hcl.low (i:=j.toNat) (by omega);refine⟨by rw[hO];exact zjm _,by rw[hol];simp only[zi,zq];omega,by rw[hO];exact zlE _,h2,by omega,?_⟩;refine hag (_,P.getD j.toNat 0) ⟨by simp only;omega,by simp only;omega,ls++[j],?_,?_⟩ (by simp only;omega)
   ·simp only;rw[hO,List.reverse_append,<-jb];rfl
   ·simp only;rw[zU,List.singleton_append,<-zBD hcl h2 j1];exact hU
  ·rw[zCO P (by omega),yv]at hU;rw[hr,hf0,hO,hU,yK]
 ·cases h
def zlu(_ b _ d:List V):List V:=I (yc (cdN (qj b) (qj d)))
def zrU(a b c d:List V):Prop:=zeS a b c/\∃i,d=I (yK (qj a) i)/\0<=i/\i<a.length
theorem zsX{P S Q:List Int}(h:ClP P S Q){i:Int}(h0:0<=i)(h1:i<P.length){j:Nat}(hj:j<(yK P i).length):0<=(yK P i).getD j 0/\(yK P i).getD j 0<P.length:=by
 have:=(zfT h i (by omega) h1).1 _ (show(yK P i).getD j 0∈yK P i by rw[zd,zg hj];exact yN _);omega
theorem zAL{P S Q:List Int}(h:ClP P S Q){i:Int}(h0:0<=i)(h1:i<P.length){j:Nat}(hj:j<(yK P i).length)(hs:0<=S.getD ((yK P i).getD j 0).toNat 0):
 0<=idx (yK P i) (S.getD ((yK P i).getD j 0).toNat 0)/\idx (yK P i) (S.getD ((yK P i).getD j 0).toNat 0)<24/\(j:Int)-idx (yK P i) (S.getD ((yK P i).getD j 0).toNat 0)=(KZ S (yK P i) j:Nat):=by
 have hm:=(zq2 h i (by omega) h1).1 _ (show(yK P i).getD j 0∈yK P i by rw[zd,zg hj];exact yN _) hs;obtain⟨k,hk⟩:∃k,k=(yK P i).idxOf (S.getD ((yK P i).getD j 0).toNat 0):=⟨_,rfl⟩;have hi:=zki hm;rw[<-hk]at hi;have hkl:k<(yK P i).length:=by rw[hk];exact zaK.2 hm
 have hlen:=zdA h (show-1<=i by omega) h1
 have hlt:k<j:=by
  have hp:=List.pairwise_iff_getElem.1 (zfT h i (by omega) h1).2
  have hpk:(yK P i)[k]=S.getD ((yK P i).getD j 0).toNat 0:=by
   simp only[hk];exact List.getElem_idxOf _
  have hpj:(yK P i)[j]=(yK P i).getD j 0:=by rw[zd,zg hj];rfl
  have hg:=zsX h h0 h1 hj;have hl:=h.low (i:=((yK P i).getD j 0).toNat) (by omega);have h00:((yK P i).getD j 0).toNat≠0:=fun e=>by have:=(hl.2.2.2.2.2 e).2;omega
  have h4:=hl.2.2.2.1 (by omega);rcases Nat.lt_trichotomy k j with h5|h5|h5
  ·exact h5
  ·subst h5;rw[hpj]at hpk;omega
  ·have:=hp j k hj hkl h5;rw[hpj,hpk]at this;omega
 rw[hi,KZ,if_pos hs,hi];omega
theorem zpg:yI Tryz.prog 149 (zgj zlu zrU):=by
 intro args ps r h hp;unfold zgj at h;split at h
 ·rename_i a0 a1 a2 a3;cases h;obtain⟨hqv,i,hpi,i0,i1⟩:zrU a0 a1 a2 a3:=(zm.1 hp).1;obtain⟨⟨⟨P,hP⟩,⟨S,hS⟩,⟨Q,hQ⟩⟩,hcl⟩:=id hqv;rw[hP,hS,hQ,zr,zr,zr]at hcl;have g0:V.frzs a0=a0:=by rw[hP,zD]
  have g1:V.frzs a1=a1:=by rw[hS,zD]
  have g2:V.frzs a2=a2:=by rw[hQ,zD]
  have hpl:a0.length=P.length:=by rw[hP,zj]
  have hsl:a1.length=P.length:=by rw[hS,zj,hcl.sl]
  rw[hpl]at i1;obtain⟨p,hpp⟩:∃p,p=yK P i:=⟨_,rfl⟩;rw[hP,zr,<-hpp]at hpi;have g3:V.frzs a3=a3:=by rw[hpi,zD]
  have hal:a3.length=p.length:=by rw[hpi,zj]
  have ga:∀k,a3.getD k (.int .i64 0)=.int .i64 (p.getD k 0):=fun k=>by rw[hpi,zO]
  have gs:∀k,a1.getD k (.int .i64 0)=.int .i64 (S.getD k 0):=fun k=>by rw[hS,zO]
  have n24:=hcl.n24;have hlen:=zdA hcl (show-1<=i by omega) i1;rw[<-hpp]at hlen;have hpg:=fun j hj=>zsX hcl i0 i1 (j:=j) hj;have hc1:=fun j hj hs=>zAL hcl i0 i1 (j:=j) hj hs;rw[<-hpp]at hpg hc1;have hf0:zlu a0 a1 a2 a3=I (yc (cdN S p)):=by rw[zlu,hpi,hS,zr,zr]
  have hfi:∀x,zc2 a3 x=idx p x:=fun x=>by rw[zc2,hpi,zr]
  have hqi:∀x,zb1 a3 x:=fun x=>⟨⟨p,hpi⟩,by rw[hal];omega⟩;generalize Kk:zc2=zfA;generalize uI:zb1=Kn;refine zC (T:=tab) (B:=[(124,zdN zfA Kn)]) (Bi:=[]) [0,1,2,4,5,6,7,8] Tryz.func149 rfl rfl (by kernel_rfl) (ze rfl) mixed zP (by subst Kk uI;exact(zn zgP zA)) (by subst Kk uI;exact zx) (by kernel_rfl) ?_;intro L lp rr hL hr hf hlp;have Ei:∀x,zfA a3 x=idx p x:=by rw[<-Kk];exact hfi
  have Qi:∀x,Kn a3 x:=by rw[<-uI];exact hqi
  conv=>cbv
  refine hlp (List V×Int) _ _ _ [1,2,5,6] (fun x=>[(1,none,.val (.slc false 2 (.int .i64 0) a3)),(2,none,.val (.box 31 (.agg [.slc false 2 (.int .i64 0) a0,.slc false 2 (.int .i64 0) a1,.slc false 2 (.int .i64 0) a2]))),(5,none,.val (.slc true 2 (.int .i64 0) x.1)),(6,none,.val (.int .i64 x.2))])
   (fun x=>1<=x.2/\(x.2<=p.length\/x.2=1)/\x.1=I (yc (qD (fun t=>KZ S p (t+1)) (x.2-1).toNat))) (fun x=>(p.length-x.2).toNat) (([],1)) (by subst hL;rfl) ?_ ?_
  ·exact⟨by simp,.inr rfl,rfl⟩
  rintro⟨os,j⟩ ⟨j0,j1,hO⟩ hfx ag hag;simp only at j0 j1 hO
  conv=>cbv
  simp only[zo hL,sQ,g0,g1,g2,g3,ga,gs,hal,hsl,Ei];refine⟨fun h2=>?_,fun h2=>?_⟩
  ·have hol:os.length=j.toNat-1:=(by rw[hO,zj,qO,yR];omega);have hg:=hpg j.toNat (by omega)
   have hnx:∀c:Nat,c=KZ S p j.toNat->0<=j->(1<=j+1/\(j+1<=p.length\/j+1=1)/\os++[V.int .i64 (c:Int)]=I (yc (qD (fun t=>KZ S p (t+1)) (j+1-1).toNat))):=fun c hc _=>by
    refine⟨by omega,.inl (by omega),?_⟩;rw[hO,show(j+1-1).toNat=(j-1).toNat+1 by omega,zbY,YO,<-jb,show(j-1).toNat+1=j.toNat by omega,hc];rfl
   rw[zk (n:=j+1) (by omega) (by omega)];refine⟨by omega,h2,hg.1,hg.2,fun h3=>?_,fun h3=>?_⟩
   ·obtain⟨c1,c2,c3⟩:=hc1 j.toNat (by omega) h3
    have e1:IntKind.wrap .i64 (j-idx p (S.getD (p.getD j.toNat 0).toNat 0))=(KZ S p j.toNat:Nat):=by
     rw[zk (by omega) (by omega),<-c3];omega
    rw[e1];refine⟨Qi _,rfl,by simp only[zi,zq];omega,fun x hx=>by(simp only[yF]at hx;subst hx;rfl),?_⟩;exact hag (_,j+1) (hnx _ rfl (by omega)) (by simp only;omega)
   ·refine⟨rfl,by simp only[zi,zq];omega,fun x hx=>by(simp only[yF]at hx;subst hx;rfl),?_⟩;exact hag (_,j+1) (hnx 0 (by rw[KZ,if_neg h3]) (by omega)) (by simp only;omega)
  ·have he:(j-1).toNat=p.length-1:=(by omega);rw[hr,hf0,hO,he,cdN]
 ·cases h
end Go.Ax
