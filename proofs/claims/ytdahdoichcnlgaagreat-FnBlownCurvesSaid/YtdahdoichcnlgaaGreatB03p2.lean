import Derived.Test.YtdahdoichcnlgaaGreatB02p2
import Derived.Test.YtdahdoichcnlgaaGreatB01p2
import Derived.Test.YtdahdoichcnlgaaGreatProg
import Derived.Sort.Row
set_option linter.all false
set_option maxRecDepth 100000
set_option maxHeartbeats 1000000
open Bool renaming and_eq_true->zh
open Int renaming mul_le_mul->qX,mul_le_mul_of_nonneg_left->yD,toNat_natCast->zV
open List renaming cons_append->yb,ext_getElem?->yH,getD_cons_succ->qG,getD_cons_zero->ji,getD_eq_getElem?_getD->zd,getElem?_eq_getElem->zg,getElem?_eq_none->zG,length_append->zp,length_cons->zi,length_nil->zq,mem_cons->zH,mem_singleton->yF,nil_append->qr,nodup_cons->zhe,nodup_nil->zir,not_mem_nil->KB,take_of_length_le->zy,take_succ_eq_append_getElem->zJ
open Nat renaming le_of_ble_eq_true->ze,le_refl->zt
open Option.some renaming injEq->za
open Prod.mk renaming injEq->zb
/-
 Draws:branches of Newton pairs. No conditions but those of the contracts.
-/
namespace Go.Ax
open Go.Proofs
def ue:List (List Int)->Int
 |[]=>1
 |p::l=>p.getD 1 0*ue l
structure Prs (ps:List (List Int)):Prop where
 len:ps.length<=3
 two:∀p∈ps,∃c o,p=[c,o]/\1<=c/\c<=100/\2<=o/\o<=5
 pr:ue ps<=64
theorem Prs.tail{p:List Int}{l:List (List Int)}(h:Prs (p::l)):Prs l/\∃c o,p=[c,o]/\1<=c/\c<=100/\2<=o/\o<=5/\1<=ue l/\ue (p::l)=o*ue l/\ue l<=o*ue l:=by
 have pos:∀l:List (List Int),(∀p∈l,∃c o,p=[c,o]/\1<=c/\c<=100/\2<=o/\o<=5)->1<=ue l:=by
  intro l
  induction l with
  |nil=>intro _;decide
  |cons p l ih=>
   intro h;obtain⟨c,o,rfl,_,_,h3,_⟩:=h p (by simp);have:=ih (fun q hq=>h q (by simp[hq]));simp only[ue,qG,ji];have:1*1<=o*ue l:=qX (by omega) this (by omega) (by omega);omega
 obtain⟨c,o,rfl,h1,h2,h3,h4⟩:=h.two p (by simp);have hp:=pos l (fun q hq=>h.two q (by simp[hq]));have hm:1*ue l<=o*ue l:=Int.mul_le_mul_of_nonneg_right (by omega) (by omega);have hpr:=h.pr;simp only[ue,qG,ji]at hpr;refine⟨⟨by have:=h.len;simp at this;omega,fun q hq=>h.two q (by simp[hq]),by omega⟩,c,o,rfl,h1,h2,h3,h4,hp,rfl,by omega⟩
theorem Prs.drop{ps:List (List Int)}(h:Prs ps):∀i,Prs (ps.drop i):=by
 intro i
 induction i generalizing ps with
 |zero=>exact h
 |succ i ih=>
  cases ps with
  |nil=>simpa using h
  |cons p l=>simpa using ih h.tail.1
theorem ziN(a b:List (List Int)):ue (a++b)=ue a*ue b:=by
 induction a with
 |nil=>simp[ue]
 |cons p l ih=>simp only[yb,ue,ih,Int.mul_assoc]
theorem Prs.at{ps:List (List Int)}(h:Prs ps){i:Nat}(hi:i<ps.length):∃c o,ps.getD i []=[c,o]/\1<=c/\c<=100/\2<=o/\o<=5/\ps.drop i=[c,o]::ps.drop (i+1)/\1<=ue (ps.drop (i+1))/\ue (ps.drop (i+1))<=64/\ue (ps.drop i)=o*ue (ps.drop (i+1))/\ue (ps.drop i)<=64/\
 ue (ps.take (i+1))=ue (ps.take i)*o:=by
 have hd:ps.drop i=ps.getD i []::ps.drop (i+1):=by rw[YQ [] hi]
 have hi':=h.drop i;have h6:=hi'.pr;rw[hd]at hi';obtain⟨h1,c,o,h2,h3,h4,h5,h7,h8,h9,h10⟩:=hi'.tail;refine⟨c,o,h2,h3,h4,h5,h7,by rw[hd,h2],h8,h1.pr,by rw[hd,h9],h6,?_⟩;rw[zJ hi,ziN];have:ps[i]=[c,o]:=by rw[<-h2,zd,zg hi];rfl
 rw[this];simp[ue]
theorem Prs.pos{ps:List (List Int)}(h:Prs ps):1<=ue ps:=by
 cases ps with
 |nil=>decide
 |cons p l=>
  obtain⟨_,c,o,_,_,_,_,_,h1,h2,h3⟩:=h.tail;omega
theorem Prs.take_le{ps:List (List Int)}(h:Prs ps):∀i,i<=ps.length->1<=ue (ps.take i)/\ue (ps.take i)<=64:=by
 intro i hi;have h1:ue (ps.take i)*ue (ps.drop i)=ue ps:=by rw[<-ziN,List.take_append_drop]
 have h2:=(h.drop i).pos;have h3:=h.pr;have h4:=h.pos
 have h5:1<=ue (ps.take i):=by
  by_cases hc:1<=ue (ps.take i)
  ·exact hc
  ·exfalso;have:ue (ps.take i)*ue (ps.drop i)<=0:=Int.mul_nonpos_of_nonpos_of_nonneg (by omega) (by omega);omega
 refine⟨h5,?_⟩;have:ue (ps.take i)*1<=ue (ps.take i)*ue (ps.drop i):=yD h2 (by omega);omega
def zle(a:List V):Prop:=∃ps,a=II false ps/\Prs ps
def zx4(f:List V->Int)(q:List V->Prop):zN:=fun
 |[.slc false 29 (.slc false 2 (.int .i64 0) []) a0]=>some ([q a0],.int .i64 (f a0))
 |_=>none
def zlp(a:List V):Int:=ue (uL a)
theorem znW:yI Tryz.prog 150 (zx4 zlp zle):=by
 intro args ps r h hp;unfold zx4 at h;split at h
 ·rename_i a0;cases h;obtain⟨ps,hps,hP⟩:zle a0:=(zm.1 hp).1;obtain⟨n,hn⟩:∃n:Int,n=a0.length:=⟨_,rfl⟩;have hpl:a0.length=ps.length:=by rw[hps,ye]
  have hlen:=hP.len;have gx:∀k,a0.getD k (.slc false 2 (.int .i64 0) [])=.slc false 2 (.int .i64 0) (I (ps.getD k [])):=fun k=>by rw[hps,qo]
  have hf0:zlp a0=ue ps:=by rw[zlp,hps,yd]
  generalize yk:yu=qR;refine zC (T:=tab) (B:=[(82,qW qR)]) (Bi:=[]) [0,2,3,4] Tryz.func150 rfl rfl (by kernel_rfl) (ze rfl) mixed zP (by subst yk;exact(zn Ym zA)) (by subst yk;exact zx) (by kernel_rfl) ?_;intro L lp rr hL hr hf hlp
  conv=>cbv
  simp only[zo hL,sQ,<-hn];refine⟨fun h=>by omega,fun _=>?_⟩
  refine hlp (Int×Int) _ _ _ [0,3,4] (fun x=>[(0,none,.val (.slc false 29 (.slc false 2 (.int .i64 0) []) a0)),(3,none,.val (.int .i64 x.1)),(4,none,.val (.int .i64 x.2))])
   (fun x=>0<=x.2/\x.2<=n/\x.1=ue (ps.take x.2.toNat)) (fun x=>(n-x.2).toNat) ((1,0)) (by subst hL;rfl) ?_ ?_
  ·exact⟨by simp,by simp only;omega,rfl⟩
  rintro⟨v,i⟩ ⟨i0,i1,hI⟩ hfx ag hag;simp only at i0 i1 hI
  conv=>cbv
  simp only[zo hL,sQ,<-hn,gx];refine⟨fun h2=>?_,fun h2=>?_⟩
  ·obtain⟨c,o,e1,e2,e3,e4,e5,e6,e7,e8,e9,e10,e11⟩:=hP.at (i:=i.toNat) (by omega);have hb:=hP.take_le (i.toNat+1) (by omega);have r1:qR c 1 2000=true:=(by rw[<-yk];simp[yu];omega);have r2:qR o 1 2000=true:=(by rw[<-yk];simp[yu];omega);have w1:IntKind.wrap .i64 (v*o)=v*o:=zk (by rw[hI,<-e11];omega) (by rw[hI,<-e11];omega);have e12:v*o=ue (ps.take (i.toNat+1)):=(by rw[e11,hI]);have l2:((0+1+1:Nat):Int)=2:=rfl;have g0:[c,o].getD 0 0=c:=rfl;have g1:[c,o].getD 1 0=o:=rfl;simp only[e1,zj,zi,zq,zO,uV,w1,l2,g0,g1,r1,r2,Bool.true_eq_false,not_true,or_self,false_imp_iff,true_imp_iff,and_self,true_and]
   (repeat' first|(exact yr _)|(exact je rfl)|(exact yV _)|(apply And.intro)|(intro _))<;>(try first|exact True.intro|omega|rfl|(simp only[zi,zq,zj];omega))
   ·rw[zk (n:=i+1) (by omega) (by omega)];exact hag (_,i+1) ⟨by simp only;omega,by simp only;omega,by simp only;rw[show(i+1).toNat=i.toNat+1 by omega,e12]⟩ (by simp only;omega)
  ·rw[hr,hf0,hI,show i.toNat=ps.length by omega,List.take_length]
 ·cases h
theorem znY:yI Tryz.prog 151 (zcw Kf zdz):=by
 intro args ps r h hp;unfold zcw at h;split at h
 ·rename_i a0 a1;cases h;obtain⟨⟨xs,hxs,hl,hrl⟩,⟨ys,hys⟩⟩:zdz a0 a1:=(zm.1 hp).1;obtain⟨n,hn⟩:∃n:Int,n=a0.length:=⟨_,rfl⟩;obtain⟨m,hm⟩:∃m:Int,m=a1.length:=⟨_,rfl⟩;have hxl:a0.length=xs.length:=by rw[hxs,ye]
  have hyl:a1.length=ys.length:=by rw[hys,ye]
  have gx:∀k,a0.getD k (.slc false 2 (.int .i64 0) [])=.slc false 2 (.int .i64 0) (I (xs.getD k [])):=fun k=>by rw[hxs,qo]
  have gy:∀k,a1.getD k (.slc false 2 (.int .i64 0) [])=.slc false 2 (.int .i64 0) (I (ys.getD k [])):=fun k=>by rw[hys,qo]
  have hf0:Kf a0 a1=decide (xs=ys):=by rw[Kf,hxs,hys,yd,yd]
  generalize Zi:YH=zaW;generalize Qq:zj6=zeM;refine zC (T:=tab) (B:=[(119,YI zaW zeM)]) (Bi:=[]) [0,1,4,5] Tryz.func151 rfl rfl (by kernel_rfl) (ze rfl) mixed zP (by subst Zi Qq;exact(zn zhQ zA)) (by subst Zi Qq;exact zx) (by kernel_rfl) ?_;intro L lp rr hL hr hf hlp
  conv=>cbv
  simp only[zo hL,sQ,<-hn,<-hm];refine⟨fun h=>?_,fun h=>?_⟩
  ·rw[hr,hf0,decide_eq_false (fun e=>h (by rw[hn,hm,hxl,hyl,e]))]
  have hlen:xs.length=ys.length:=by omega
  refine hlp (Int) _ _ _ [0,1,5] (fun x=>[(0,none,.val (.slc false 29 (.slc false 2 (.int .i64 0) []) a0)),(1,none,.val (.slc false 29 (.slc false 2 (.int .i64 0) []) a1)),(5,none,.val (.int .i64 x))])
   (fun x=>0<=x/\x<=n/\xs.take x.toNat=ys.take x.toNat) (fun x=>(n-x).toNat) (0) (by subst hL;rfl) ?_ ?_
  ·exact⟨by simp,by omega,rfl⟩
  rintro i ⟨i0,i1,hI⟩ hfx ag hag;have Ef:∀u v:List Int,zaW (I u) (I v)=decide (u=v):=fun u v=>by rw[<-Zi,YH,zr,zr]
  have Ql:∀u v:List Int,zeM (I u) (I v):=fun u v=>by rw[<-Qq];exact⟨⟨_,rfl⟩,⟨_,rfl⟩⟩
  conv=>cbv
  simp only[zo hL,sQ,<-hn,<-hm,gx,gy,Ef];refine⟨fun h2=>?_,fun h2=>?_⟩
  ·have h4:i.toNat<xs.length:=(by omega);have h5:i.toNat<ys.length:=(by omega);refine⟨i0,h2,i0,by omega,Ql _ _,fun h3=>?_,fun h3=>?_⟩
   ·rw[hr,hf0,decide_eq_false (fun e=>h3 (by rw[e]))]
   ·rw[zk (n:=i+1) (by omega) (by omega)];refine hag (i+1) ⟨by omega,by omega,?_⟩ (by omega);rw[zd,zg h4,zd,zg h5]at h3;rw[show(i+1).toNat=i.toNat+1 by omega,zJ h4,zJ h5,hI];exact congrArg (fun z=>List.take i.toNat ys++[z]) h3
  ·have h4:xs=ys:=(by rwa [zy (by omega),zy (by omega)]at hI);rw[hr,hf0,decide_eq_true h4]
 ·cases h
def zoh(xs:List Int)(i:Nat):List Int:=[W ((if i=0 then xs.getD (i+1) 0 else W (xs.getD (i+1) 0-xs.getD i 0)).tdiv ((dv xs).getD (i+1) 0)),W (((dv xs).getD i 0).tdiv ((dv xs).getD (i+1) 0))]
def nwt(xs:List Int):List (List Int):=qD (zoh xs) (xs.length-1)
def zx8(f:List V->List V)(q:List V->Prop):zN:=fun
 |[.agg [.slc false 2 (.int .i64 0) a0]]=>some ([q a0],.slc true 29 (.slc true 2 (.int .i64 0) []) (f a0))
 |_=>none
def zoB(a:List V):List V:=II true (nwt (qj a))
theorem zmG:yI Tryz.prog 152 (zx8 zoB ur):=by
 intro args ps r h hp;unfold zx8 at h;split at h
 ·rename_i a0;cases h;have hq:ur a0:=(zm.1 hp).1;have hqP:=hq.isP;obtain⟨xs,hxs,hb⟩:=hq;have g1:V.frzs a0=a0:=by rw[hxs,zD]
  have e2:zoB a0=II true (nwt xs):=by rw[zoB,hxs,zr]
  have e3:JO a0=I (dv xs):=by rw[JO,hxs,zr]
  have gx:∀k,a0.getD k (.int .i64 0)=.int .i64 (xs.getD k 0):=fun k=>by rw[hxs,zO]
  obtain⟨ds,hds⟩:∃ds,ds=I (dv xs):=⟨_,rfl⟩;have gd:∀k,ds.getD k (.int .i64 0)=.int .i64 ((dv xs).getD k 0):=fun k=>by rw[hds,zO]
  obtain⟨n,hn⟩:∃n:Int,n=a0.length:=⟨_,rfl⟩;obtain⟨m,hm⟩:∃m:Int,m=ds.length:=⟨_,rfl⟩;have hxl:a0.length=xs.length:=by rw[hxs,zj]
  have hdl:ds.length=xs.length:=by rw[hds,zj,hb.dlen]
  have hmn:m=n:=by omega
  have h1:=hb.len;have h2:=hb.pos;generalize ZX:JO=KU;generalize zjr:IsP=zyg;refine zC (T:=tab) (B:=[(142,zr8 KU zyg)]) (Bi:=[]) [2000008048,0,1,2,3,4,5,6] Tryz.func152 rfl rfl (by kernel_rfl) (ze rfl) mixed zP (by subst ZX zjr;exact(zn zex zA)) (by subst ZX zjr;exact zx) (by kernel_rfl) ?_;intro L lp rr hL hr hf hlp
  conv=>cbv
  simp only[zo hL,sQ,g1];subst ZX zjr;simp only[e3,<-hds];refine⟨hqP,?_⟩
  refine hlp (List V×Int) _ _ _ [1,3,4,5] (fun x=>[(1,none,.val (.box 57 (.agg [.slc false 2 (.int .i64 0) a0]))),(3,none,.val (.slc true 2 (.int .i64 0) ds)),(4,none,.val (.slc true 29 (.slc true 2 (.int .i64 0) []) x.1)),(5,none,.val (.int .i64 x.2))])
   (fun x=>1<=x.2/\x.2<=n/\x.1=II true (qD (zoh xs) (x.2-1).toNat)) (fun x=>(n-x.2).toNat) (([],1)) (by subst hL;rfl) ?_ ?_
  ·exact⟨by simp,by simp only;omega,rfl⟩
  rintro⟨es,i⟩ ⟨i0,i1,hes⟩ hfx ag hag;simp only at i0 i1 hes;obtain⟨el,hel0⟩:∃el:Int,el=es.length:=⟨_,rfl⟩;have hel:el=i-1:=by rw[hel0,hes,ye,yR];omega
  have w1:IntKind.wrap .i64 (i-1)=i-1:=zk (by omega) (by omega)
  conv=>cbv
  simp only[zo hL,sQ,<-hn,<-hm,<-hel0,gx,gd,w1]
  have p1:=hb.dpos i.toNat
  have fin:∀v:Int,v=(if(i-1).toNat=0 then xs.getD ((i-1).toNat+1) 0 else W (xs.getD ((i-1).toNat+1) 0-xs.getD (i-1).toNat 0))->II true (qD (zoh xs) (i-1).toNat)++[V.slc true 2 (.int .i64 0) [.int .i64 (IntKind.wrap .i64 (v.tdiv ((dv xs).getD i.toNat 0))),.int .i64 (IntKind.wrap .i64 (((dv xs).getD (i-1).toNat 0).tdiv ((dv xs).getD i.toNat 0)))]]=II true (qD (zoh xs) (i+1-1).toNat):=by
   intro v hv;obtain⟨k,hk⟩:∃k:Nat,i=k+1:=⟨(i-1).toNat,by omega⟩;subst hk;rw[show((k:Int)+1+1-1).toNat=k+1 by omega,zbY,ZK];rw[show((k:Int)+1-1).toNat=k by omega]at hv;rw[show((k:Int)+1).toNat=k+1 by omega,show((k:Int)+1-1).toNat=k by omega];rw[hv];rfl
  have wi:IntKind.wrap .i64 (i+1)=i+1:=zk (by omega) (by omega);refine⟨fun h=>?_,fun h=>?_⟩
  ·(repeat' first|(exact yr _)|(exact je rfl)|(exact yV _)|(apply And.intro)|(intro _))<;>(try first|exact True.intro|omega|rfl|(simp only[zi,zq,zj];omega))
   ·rw[wi,hes];exact hag (_,i+1) ⟨by simp only;omega,by simp only;omega,fin _ (by rw[if_neg (by omega),show(i-1).toNat+1=i.toNat by omega])⟩ (by simp only;omega)
   ·rw[wi,hes];exact hag (_,i+1) ⟨by simp only;omega,by simp only;omega,fin _ (by rw[if_pos (by omega),show(i-1).toNat+1=i.toNat by omega])⟩ (by simp only;omega)
  ·rw[hr,e2,hes,show(i-1).toNat=xs.length-1 by omega];rfl
 ·cases h
def zg8(la:Int):List (List Int)->List Int
 |[]=>[]
 |p::l=>(la+p.getD 0 0*ue l)::zg8 (la+p.getD 0 0*ue l) l
def QO(ps:List (List Int)):List Int:=ue ps::zg8 0 ps
theorem zg7:∀(l:List (List Int)) (la:Int),(zg8 la l).length=l.length
 |[],_=>rfl
 |_::l,_=>by simp[zg8,zg7 l]
def okT(ps:List (List Int)):Bool:=YW (QO ps)&&decide (nwt (QO ps)=ps)
def zt5(f:List V->List V×Int)(q:List V->Prop):zN:=fun
 |[.slc false 29 (.slc false 2 (.int .i64 0) []) a0]=>some ([q a0],.tup [.agg [.slc true 2 (.int .i64 0) ((f a0).1)],.int .i64 ((f a0).2)])
 |_=>none
def zoE(a:List V):List V×Int:=if okT (uL a)=true then(I (QO (uL a)),0)else([],5)
theorem zhU:yI Tryz.prog 140 (zt5 zoE zle):=by
 intro args ps r h hp;unfold zt5 at h;split at h
 ·rename_i a0;cases h;have hq:zle a0:=(zm.1 hp).1;have hq0:=hq;obtain⟨ps,hps,hP⟩:=hq;obtain⟨n,hn⟩:∃n:Int,n=a0.length:=⟨_,rfl⟩;have hpl:a0.length=ps.length:=by rw[hps,ye]
  have hlen:=hP.len;have gx:∀k,a0.getD k (.slc false 2 (.int .i64 0) [])=.slc false 2 (.int .i64 0) (I (ps.getD k [])):=fun k=>by rw[hps,qo]
  have hfr:V.frzs a0=a0:=by rw[hps,qy]
  have hf0:zoE a0=if okT ps=true then(I (QO ps),0)else([],5):=by rw[zoE,hps,yd]
  obtain⟨N,hN⟩:∃N:Int,N=ue ps:=⟨_,rfl⟩;have e1:zlp a0=N:=by rw[zlp,hps,yd,hN]
  have N1:=hP.pos;have N2:=hP.pr;generalize zqn:zlp=zCJ;generalize zd0:zle=zis;generalize qn:kW=jF;generalize yA:uf=jq;generalize zqp:zoB=zwT;generalize yO:ur=kh;generalize zaQ:Kf=zhi;generalize zaO:zdz=zkY;refine zC (T:=tab) (B:=[(150,zx4 zCJ zis),(81,YF jF jq),(152,zx8 zwT kh),(151,zcw zhi zkY)]) (Bi:=[]) [2000011653,0,2,3,4,5,6,7,8] Tryz.func140 rfl rfl (by kernel_rfl) (ze rfl) mixed zP (by subst zqn zd0 qn yA zqp yO zaQ zaO;exact(zn znW (zn zao (zn zmG (zn znY zA))))) (by subst zqn zd0 qn yA zqp yO zaQ zaO;exact zx) (by kernel_rfl) ?_;intro L lp rr hL hr hf hlp
  conv=>cbv
  simp only[zo hL,sQ,hfr];subst zqn;simp only[e1];have qF:zis a0:=by rw[<-zd0];exact hq0
  refine⟨qF,fun h=>by omega,fun _=>?_⟩
  refine hlp (List V×Int×Int×Int) _ _ _ [0,2,5,6,7,8] (fun x=>[(0,none,.val (.slc false 29 (.slc false 2 (.int .i64 0) []) a0)),(2,none,.val (.box 57 (.agg [.slc true 2 (.int .i64 0) []]))),(5,none,.val (.box 57 (.agg [.slc true 2 (.int .i64 0) x.1]))),(6,none,.val (.int .i64 x.2.1)),(7,none,.val (.int .i64 x.2.2.1)),(8,none,.val (.int .i64 x.2.2.2))])
   (fun x=>0<=x.2.2.2/\x.2.2.2<=n/\x.2.1=ue (ps.drop x.2.2.2.toNat)/\0<=x.2.2.1/\x.2.2.1<=6400*x.2.2.2/\∃pre:List Int,x.1=I (N::pre)/\pre.length=x.2.2.2.toNat/\pre++zg8 x.2.2.1 (ps.drop x.2.2.2.toNat)=zg8 0 ps) (fun x=>(n-x.2.2.2).toNat) (([.int .i64 N],N,0,0)) (by subst hL;rfl) ?_ ?_
  ·exact⟨by simp,by simp only;omega,hN,by simp,by simp,[],rfl,rfl,rfl⟩
  rintro⟨es,e,la,i⟩ ⟨i0,i1,he,l0,l1,pre,h1,h2,h3⟩ hfx ag hag;simp only at i0 i1 he l0 l1 h1 h2 h3;obtain⟨el,hel0⟩:∃el:Int,el=es.length:=⟨_,rfl⟩;have hel:el=i+1:=by rw[hel0,h1,zj,zi];omega
  conv=>cbv
  simp only[zo hL,sQ,<-hn,<-hel0,gx];refine⟨fun h=>?_,fun h=>?_⟩
  ·obtain⟨c,o,e1,e2,e3,e4,e5,e6,e7,e8,e9,e10,e11⟩:=hP.at (i:=i.toNat) (by omega);have g0:[c,o].getD 0 0=c:=rfl;have g1:[c,o].getD 1 0=o:=rfl;have hed:e.tdiv o=ue (ps.drop (i.toNat+1)):=(by rw[he,e9,Int.mul_tdiv_cancel_left _ (by omega)]);obtain⟨P,hPP⟩:∃P:Int,P=ue (ps.drop (i.toNat+1)):=⟨_,rfl⟩;rw[<-hPP]at hed e7 e8;have wd:IntKind.wrap .i64 P=P:=zk (by omega) (by omega);have c0:0<=c*P:=Int.mul_nonneg (by omega) (by omega);have c1:c*P<=100*64:=qX (by omega) (by omega) (by omega) (by omega);have wm:IntKind.wrap .i64 (c*P)=c*P:=zk (by omega) (by omega);have wl:IntKind.wrap .i64 (la+c*P)=la+c*P:=zk (by omega) (by omega);have wi:IntKind.wrap .i64 (i+1)=i+1:=zk (by omega) (by omega);simp only[e1,zj,zi,zq,g0,g1,hed,wd,wm,wl,wi]
   (repeat' first|(exact yr _)|(exact je rfl)|(exact yV _)|(apply And.intro)|(intro _))<;>(try first|exact True.intro|omega|rfl|(simp only[zi,zq,zj];omega))
   refine hag (_,_,_,i+1) ⟨by simp only;omega,by simp only;omega,by simp only;rw[hPP,show(i+1).toNat=i.toNat+1 by omega],by simp only;omega,by simp only;omega,pre++[la+c*P],by simp only;rw[h1];simp[I],by simp only[zp,zi,zq];omega,?_⟩ (by simp only;omega);simp only;rw[show(i+1).toNat=i.toNat+1 by omega,List.append_assoc,<-h3,e6];simp only[zg8,ji,List.singleton_append,<-hPP]
  ·have hes:es=I (QO ps):=by
    rw[List.drop_of_length_le (by omega)]at h3;simp only[zg8,List.append_nil]at h3;rw[h1,h3,hN];rfl
   have Eb:jF (I (QO ps))=YW (QO ps):=(by rw[<-qn,kW,zr]);have En:zwT (I (QO ps))=II true (nwt (QO ps)):=(by rw[<-zqp,zoB,zr]);have El:zhi (II false (nwt (QO ps))) a0=decide (nwt (QO ps)=ps):=(by rw[<-zaQ,Kf,yd,hps,yd]);have tl:(QO ps).length<=4:=(by simp only[QO,zi,zg7];omega);rw[hes];simp only[zD,Eb,En,qy,hfr,El];refine⟨by rw[<-yA];exact⟨⟨_,rfl⟩,by rw[zj];omega⟩,fun h1=>by rw[<-yO];exact⟨_,rfl,jz h1⟩,fun _=>zjn _,fun _=>?_,fun h1=>?_,fun h1=>?_⟩
   ·rw[<-zaO];refine⟨⟨_,rfl,by rw[nwt,yR];omega,fun r hr=>?_⟩,_,hps⟩;simp only[nwt,qD,List.mem_map]at hr;obtain⟨k,_,rfl⟩:=hr;simp[zoh]
   ·rw[hr,hf0,if_neg];intro h2;simp only[okT,zh]at h2;rcases h1 with h1|h1
    ·rw[h1]at h2;cases h2.1
    ·rw[h1]at h2;cases h2.2
   ·rw[hr,hf0,if_pos];simp only[okT,zh];exact h1
 ·cases h
def cpU(o:Int):Nat->Int->Int
 |0,c=>c
 |k+1,c=>if qU c o>1 then cpU o k (c+1)else c
def cpT(c o:Int):Int:=c+(1-c)%o
def cpo(c o:Int):Int:=cpU o ((cpT c o-c).toNat+1) c
theorem zoJ{c o:Int}(ho:2<=o):c<=cpT c o/\cpT c o<c+o:=by
 have h1:=Int.emod_nonneg (1-c) (show o≠0 by omega);have h2:=Int.emod_lt_of_pos (1-c) (show 0<o by omega);rw[cpT];omega
theorem zwv{c o:Int}(hc:1<=c)(ho:2<=o):qU (cpT c o) o=1:=by
 have h0:=(zoJ (c:=c) ho).1
 have h1:cpT c o%o=1:=by
  rw[cpT,Int.add_emod,Int.emod_emod,<-Int.add_emod,show c+(1-c)=1 by omega,Int.emod_eq_of_lt (by omega) (by omega)]
 rw[zm0 (by omega) (by omega)];obtain⟨t,ht⟩:∃t:Nat,cpT c o=t:=⟨(cpT c o).toNat,by omega⟩;obtain⟨p,hp⟩:∃p:Nat,o=p:=⟨o.toNat,by omega⟩;rw[ht,hp]at h1;rw[ht,hp,zV,zV,Nat.gcd_comm,Nat.gcd_rec];have:t%p=1:=by exact_mod_cast h1
 rw[this,Nat.gcd_one_left];rfl
theorem zzi(o:Int):∀(k:Nat) (c:Int),c<=cpU o k c/\cpU o k c<=c+k
 |0,c=>by simp[cpU]
 |k+1,c=>by
  have:=zzi o k (c+1);simp only[cpU];split<;>omega
theorem zzg{c o:Int}(ho:2<=o):c<=cpo c o/\cpo c o<=c+o:=by
 have h1:=zzi o ((cpT c o-c).toNat+1) c;have h2:=zoJ (c:=c) ho;rw[cpo];omega
abbrev kw(es:List V)(σ:Int×Int)(n:Int):Int:=jT es σ.1 σ.2 n
abbrev qa(es:List V)(σ:Int×Int)(n:Int):Int×Int:=(ky es σ.1 σ.2 n,kS es σ.1 σ.2 n)
abbrev Yn(es:List V)(σ:Int×Int)(l:List Int):Int:=QE es σ.1 σ.2 (I l)
abbrev KH(es:List V)(σ:Int×Int)(l:List Int):Int×Int:=(Jk es σ.1 σ.2 (I l),Jj es σ.1 σ.2 (I l))
theorem zeA{es:List V}{σ:Int×Int}{n:Int}(hq:yi es σ.1 σ.2)(hn:1<=n):0<=kw es σ n/\kw es σ n<n:=YZ hq hn
theorem kb{es:List V}{σ:Int×Int}{n:Int}(hq:yi es σ.1 σ.2):yi es (qa es σ n).1 (qa es σ n).2:=uE hq
theorem zaZ{es:List V}{σ:Int×Int}{l:List Int}(hq:yi es σ.1 σ.2):yi es (KH es σ l).1 (KH es σ l).2:=uE hq
theorem zfX{es:List V}{σ:Int×Int}{l:List Int}(hq:yi es σ.1 σ.2)(hl:l≠[]):Yn es σ l∈l:=by
 have h1:1<=(l.length:Int):=by
  cases l with
  |nil=>exact absurd rfl hl
  |cons x l=>simp only[zi];omega
 have h2:=YZ (n:=(I l).length) hq (by rw[zj];exact h1);rw[Yn,QE,zr];rw[zj]at h2 ⊢;have h3:(jT es σ.1 σ.2 l.length).toNat<l.length:=by omega
 rw[zd,zg h3];exact List.getElem_mem h3
abbrev SmS:Type:=List (List Int)×Int×Int×Int
def smR(es:List V)(most:Int)(s:SmS):SmS:=
 let σ0:=(s.2.2.1,s.2.2.2)
 let own:=2+kw es σ0 4
 let σ1:=qa es σ0 4
 if most<s.2.1*own then(s.1,s.2.1,σ1)else
 let m:=Yn es σ1 [4,8,12]
 let σ2:=KH es σ1 [4,8,12]
 let c0:=1+kw es σ2 m
 let σ3:=qa es σ2 m
 let c1:=cpo c0 own
 let c2:=if s.1.length=0 then cpo (c1+own) own else c1
 (s.1++[[c2,own]],s.2.1*own,σ3)
def smN(es:List V)(most:Int):Nat->SmS->SmS
 |0,s=>s
 |k+1,s=>smN es most k (smR es most s)
structure SmOk (es:List V) (most:Int) (s:SmS) (k:Nat):Prop where
 len:s.1.length+k<=3
 two:∀p∈s.1,∃c o,p=[c,o]/\1<=c/\c<=100/\2<=o/\o<=5
 pr:ue s.1=s.2.1
 n1:1<=s.2.1
 n2:s.2.1<=most
 src:yi es s.2.2.1 s.2.2.2
theorem zz9(l:List (List Int))(c o:Int):ue (l++[[c,o]])=ue l*o:=by
 rw[ziN];simp[ue]
theorem SmOk.round{es:List V}{most:Int}{s:SmS}{k:Nat}(h:SmOk es most s (k+1)):SmOk es most (smR es most s) k:=by
 obtain⟨ps,n,a,b⟩:=s;obtain⟨h1,h2,h3,h4,h5,h6⟩:=h;simp only at h1 h2 h3 h4 h5 h6;have ho:=zeA (σ:=(a,b)) (n:=4) h6 (by decide);have hs:=kb (σ:=(a,b)) (n:=4) h6;unfold smR;simp only;split
 ·exact⟨by simp only;omega,h2,h3,h4,h5,hs⟩
 ·rename_i hm;have hs2:=zaZ (σ:=qa es (a,b) 4) (l:=[4,8,12]) hs;have hp:=zfX (σ:=qa es (a,b) 4) (l:=[4,8,12]) hs (by simp);obtain⟨m,hmm⟩:∃m,m=Yn es (qa es (a,b) 4) [4,8,12]:=⟨_,rfl⟩;rw[<-hmm]at hp ⊢;have hm2:1<=m/\m<=12:=by simp at hp;omega
  have hc:=zeA (σ:=KH es (qa es (a,b) 4) [4,8,12]) (n:=m) hs2 (by omega);have hs3:=kb (σ:=KH es (qa es (a,b) 4) [4,8,12]) (n:=m) hs2;obtain⟨o,hoo⟩:∃o,o=2+kw es (a,b) 4:=⟨_,rfl⟩;obtain⟨c0,hc0⟩:∃c0,c0=1+kw es (KH es (qa es (a,b) 4) [4,8,12]) m:=⟨_,rfl⟩;rw[<-hoo]at hm ⊢;rw[<-hc0];have l1:=zzg (c:=c0) (o:=o) (by omega);have l2:=zzg (c:=cpo c0 o+o) (o:=o) (by omega);have hno:1*1<=n*o:=qX (by omega) (by omega) (by omega) (by omega);refine⟨by simp only[zp,zi,zq];omega,fun p hp=>?_,by simp only;rw[zz9,h3],by simp only;omega,by simp only;omega,hs3⟩;rcases List.mem_append.1 hp with hp|hp
  ·exact h2 p hp
  ·simp only[yF]at hp;refine⟨_,_,hp,?_⟩;split<;>omega
theorem SmOk.run{es:List V}{most:Int}:∀{k:Nat} {s:SmS},SmOk es most s k->SmOk es most (smN es most k s) 0
 |0,_,h=>h
 |k+1,_,h=>h.round.run
theorem SmOk.prs{es:List V}{most:Int}{s:SmS}{k:Nat}(h:SmOk es most s k)(hm:most<=64):Prs s.1:=⟨by have:=h.len;omega,h.two,by have:=h.pr;have:=h.n2;omega⟩
abbrev zhl(es:List V)(σ:Int×Int):List Int×Int×Int:=([Yn es σ [1,2,3]],KH es σ [1,2,3])
def smF(es:List V)(a h most term:Int):List Int×Int×Int:=
 let s:=smN es most (1+kw es (a,h) 3).toNat ([],1,qa es (a,h) 3)
 if okT s.1=true then
  if term<(QO s.1).getD s.1.length 0 then zhl es s.2.2
  else if kw es s.2.2 12=0 then zhl es (qa es s.2.2 12)
  else(QO s.1,qa es s.2.2 12)
 else zhl es s.2.2
def zkn(es:List V)(a h most term:Int):List V×Int×Int:=(I (smF es a h most term).1,(smF es a h most term).2)
def zmK(es:List V)(a h most _:Int):Prop:=yi es a h/\1<=most/\most<=64
def zrY(f:List V->Int->Int->Int->Int->List V×Int×Int)(q:List V->Int->Int->Int->Int->Prop):uk:=fun
 |[.box 101 (.agg [.slc false 5 (.int .u8 0) a0,.int .i64 a1,.int .u64 a2]),.int .i64 a3,.int .i64 a4]=>some ([q a0 a1 a2 a3 a4],.agg [.slc true 2 (.int .i64 0) (f a0 a1 a2 a3 a4).1],.box 101 (.agg [.slc false 5 (.int .u8 0) a0,.int .i64 (f a0 a1 a2 a3 a4).2.1,.int .u64 (f a0 a1 a2 a3 a4).2.2]))
 |_=>none
theorem zgO:zgp Tryz.prog 116 1000 (zrY zkn zmK):=by
 intro args ps r y h hp;unfold zrY at h;split at h
 ·rename_i a0 a1 a2 a3 a4;cases h;obtain⟨hq,m1,m2⟩:zmK a0 a1 a2 a3 a4:=(zm.1 hp).1;obtain⟨s0,hs0⟩:∃s0:SmS,s0=([],1,qa a0 (a1,a2) 3):=⟨_,rfl⟩;have hk:=zeA (σ:=(a1,a2)) (n:=3) hq (by decide);obtain⟨k0,hk0⟩:∃k0:Int,k0=1+kw a0 (a1,a2) 3:=⟨_,rfl⟩;obtain⟨sE,hsE⟩:∃sE:SmS,sE=smN a0 a3 k0.toNat s0:=⟨_,rfl⟩
  have ok0:SmOk a0 a3 s0 k0.toNat:=by
   rw[hs0];exact⟨by simp only[zq];omega,by simp,rfl,by simp,by simp only;omega,kb (σ:=(a1,a2)) hq⟩
  generalize yZ:jT=jS;generalize yY:ky=jR;generalize yX:kS=jQ;generalize jj:zfS=Zb;generalize jL:QE=ZF;generalize jK:Jk=ZE;generalize jJ:Jj=ZD;generalize kP:zfR=YK;generalize kQ:qU=Qx;generalize jp:zdg=ZB;generalize zqz:zoE=zwZ;generalize zd0:zle=zis;refine zh2 (T:=tab) (B:=[(112,zaE Qx ZB),(140,zt5 zwZ zis)]) (Bi:=[(41,0,false,zc0 jS jR jQ Zb),(42,0,false,zff ZF ZE ZD YK)]) 0 [2000007832,2000018888,0,1,2,6,7,8,9,10,11,12,13] Tryz.func116 rfl rfl (by kernel_rfl) (ze rfl) mixed zP (by subst yZ yY yX jj jL jK jJ kP kQ jp zqz zd0;exact(zn zbN (zn zhU zA))) (by subst yZ yY yX jj jL jK jJ kP kQ jp zqz zd0;exact(ja uJ (ja ZS zx))) (by kernel_rfl) rfl rfl zcJ rfl ?_;intro L lp rr yy hL hr hy hf hlp
  conv=>cbv
  obtain⟨b1,hb1⟩:∃b1,b1=ky a0 a1 a2 3:=⟨_,rfl⟩;obtain⟨b2,hb2⟩:∃b2,b2=kS a0 a1 a2 3:=⟨_,rfl⟩;have e0:jS a0 a1 a2 3=k0-1:=by rw[<-yZ];show kw a0 (a1,a2) 3=_;omega
  have e1:jR a0 a1 a2 3=b1:=by rw[<-yY,hb1]
  have e2:jQ a0 a1 a2 3=b2:=by rw[<-yX,hb2]
  have Qn:∀a h n,yi a0 a h->Zb a0 a h n:=fun a h n hs=>by rw[<-jj];exact hs
  have hs0':s0=([],1,b1,b2):=by rw[hs0,hb1,hb2]
  simp only[zo hL,sQ,true_and,e0,e1,e2,show 1+(k0-1)=k0 by omega,zk (n:=k0) (by omega) (by omega)];refine⟨Qn _ _ _ hq,?_⟩
  refine hlp (List V×Int×Int×Int×Int) _ _ _ [0,1,2,6,7,8,9] (fun x=>[(0,none,.val (.box 101 (.agg [.slc false 5 (.int .u8 0) a0,.int .i64 x.2.2.1,.int .u64 x.2.2.2.1]))),(1,none,.val (.int .i64 a3)),(2,none,.val (.int .i64 a4)),(6,none,.val (.box 57 (.agg [.slc true 2 (.int .i64 0) []]))),(7,none,.val (.slc true 29 (.slc true 2 (.int .i64 0) []) x.1)),(8,none,.val (.int .i64 x.2.1)),(9,none,.val (.int .i64 x.2.2.2.2))])
   (fun x=>0<=x.2.2.2.2/\∃ps,x.1=II true ps/\SmOk a0 a3 (ps,x.2.1,x.2.2.1,x.2.2.2.1) x.2.2.2.2.toNat/\smN a0 a3 x.2.2.2.2.toNat (ps,x.2.1,x.2.2.1,x.2.2.2.1)=sE) (fun x=>x.2.2.2.2.toNat) (([],1,b1,b2,k0)) (by subst hL;rfl) ?_ ?_
  ·exact⟨by simp only;omega,[],rfl,by simp only;rw[<-hs0'];exact ok0,by simp only;rw[<-hs0',hsE]⟩
  rintro⟨es,n,a,h,k⟩ ⟨i0,ps,hes,hok,hsm⟩ hfx ag hag;simp only at i0 hes hok hsm;obtain⟨pl,hpl⟩:∃pl:Int,pl=es.length:=⟨_,rfl⟩;have hpl2:pl=ps.length:=by rw[hpl,hes,ye]
  have hsrc:yi a0 a h:=hok.src;obtain⟨o,ho⟩:∃o,o=2+kw a0 (a,h) 4:=⟨_,rfl⟩;obtain⟨A1,hA1⟩:∃A1,A1=ky a0 a h 4:=⟨_,rfl⟩;obtain⟨H1,hH1⟩:∃H1,H1=kS a0 a h 4:=⟨_,rfl⟩;obtain⟨m,hm⟩:∃m,m=QE a0 A1 H1 (I [4,8,12]):=⟨_,rfl⟩;obtain⟨A2,hA2⟩:∃A2,A2=Jk a0 A1 H1 (I [4,8,12]):=⟨_,rfl⟩;obtain⟨H2,hH2⟩:∃H2,H2=Jj a0 A1 H1 (I [4,8,12]):=⟨_,rfl⟩;obtain⟨c0,hc0⟩:∃c0,c0=1+jT a0 A2 H2 m:=⟨_,rfl⟩;obtain⟨A3,hA3⟩:∃A3,A3=ky a0 A2 H2 m:=⟨_,rfl⟩;obtain⟨H3,hH3⟩:∃H3,H3=kS a0 A2 H2 m:=⟨_,rfl⟩
  have hR:smR a0 a3 (ps,n,a,h)=if a3<n*o then(ps,n,A1,H1)else(ps++[[if ps.length=0 then cpo (cpo c0 o+o) o else cpo c0 o,o]],n*o,A3,H3):=by
   subst hA3 hH3 hc0 hA2 hH2 hm hA1 hH1 ho;rfl
  have o1:=zeA (σ:=(a,h)) (n:=4) hsrc (by decide);have s1:yi a0 A1 H1:=by rw[hA1,hH1];exact uE hsrc
  have mp:m∈[4,8,12]:=by rw[hm];exact zfX (σ:=(A1,H1)) (l:=[4,8,12]) s1 (by simp)
  have m12:1<=m/\m<=12:=by simp at mp;omega
  have s2:yi a0 A2 H2:=by rw[hA2,hH2];exact uE s1
  have c1:=YZ (n:=m) s2 (by omega);have s3:yi a0 A3 H3:=by rw[hA3,hH3];exact uE s2
  have n1:1<=n:=hok.n1;have n2:n<=a3:=hok.n2;have no0:n*2<=n*o:=yD (by omega) (by omega);have no1:n*o<=64*5:=qX (by omega) (by omega) (by omega) (by omega);have g0:jS a0 a h 4=o-2:=by rw[<-yZ];show kw a0 (a,h) 4=_;omega
  have g1:jR a0 a h 4=A1:=by rw[<-yY,hA1]
  have g2:jQ a0 a h 4=H1:=by rw[<-yX,hH1]
  have g3:∀l,l=I [4,8,12]->ZF a0 A1 H1 l=m/\ZE a0 A1 H1 l=A2/\ZD a0 A1 H1 l=H2/\YK a0 A1 H1 l:=by
   intro l hl;rw[hl,<-jL,<-jK,<-jJ,<-kP,hm,hA2,hH2];exact⟨rfl,rfl,rfl,s1,⟨_,rfl⟩,by simp,by simp⟩
  obtain⟨g4,g5,g6,g7⟩:=g3 (V.frzs (V.frzs [V.int IntKind.i64 4,V.int IntKind.i64 8,V.int IntKind.i64 12])) rfl;have g8:jS a0 A2 H2 m=c0-1:=by rw[<-yZ];omega
  have g9:jR a0 A2 H2 m=A3:=by rw[<-yY,hA3]
  have g10:jQ a0 A2 H2 m=H3:=by rw[<-yX,hH3]
  have Eg:∀x,Qx x o=qU x o:=fun x=>by rw[<-kQ]
  have Qa:∀x,ZB x o:=fun x=>by rw[<-jp];trivial
  have wo:IntKind.wrap .i64 (2+(o-2))=o:=by rw[show 2+(o-2)=o by omega];exact zk (by omega) (by omega)
  have wno:IntKind.wrap .i64 (n*o)=n*o:=zk (by omega) (by omega);have wc0:IntKind.wrap .i64 (1+(c0-1))=c0:=by rw[show 1+(c0-1)=c0 by omega];exact zk (by omega) (by omega)
  have hst:0<k->SmOk a0 a3 (smR a0 a3 (ps,n,a,h)) (k-1).toNat/\smN a0 a3 (k-1).toNat (smR a0 a3 (ps,n,a,h))=sE:=by
   intro hk;have e:k.toNat=(k-1).toNat+1:=(by omega);rw[e]at hok hsm;exact⟨hok.round,hsm⟩
  have kl:=hok.len;simp only at kl;have cT1:=zoJ (c:=c0) (o:=o) (by omega)
  conv=>cbv
  simp only[zo hL,sQ,true_and,<-hpl,g0,g1,g2,g4,g5,g6,g7,g8,g9,g10,wo,wno,wc0];refine⟨fun h1=>⟨Qn _ _ _ hsrc,fun h2=>?_,fun h2=>⟨Qn _ _ _ s2,?_⟩⟩,fun h1=>?_⟩
  ·rw[zk (n:=k-1) (by omega) (by omega)];obtain⟨t1,t2⟩:=hst h1;rw[hR,if_pos h2]at t1 t2;exact hag (es,n,A1,H1,k-1) ⟨by simp only;omega,ps,hes,t1,t2⟩ (by simp only;omega)
  ·obtain⟨t1,t2⟩:=hst h1;rw[hR,if_neg h2]at t1 t2
   refine hlp (Int) _ _ _ [0,1,2,6,7,8,9,10,11] (fun x=>[(0,none,.val (.box 101 (.agg [.slc false 5 (.int .u8 0) a0,.int .i64 A3,.int .u64 H3]))),(1,none,.val (.int .i64 a3)),(2,none,.val (.int .i64 a4)),(6,none,.val (.box 57 (.agg [.slc true 2 (.int .i64 0) []]))),(7,none,.val (.slc true 29 (.slc true 2 (.int .i64 0) []) es)),(8,none,.val (.int .i64 n)),(9,none,.val (.int .i64 k)),(10,none,.val (.int .i64 o)),(11,none,.val (.int .i64 x))])
    (fun x=>c0<=x/\x<=cpT c0 o/\cpU o ((cpT c0 o-x).toNat+1) x=cpo c0 o) (fun x=>(cpT c0 o-x).toNat) (c0) (by subst hL;rfl) ?_ ?_
   ·exact⟨by omega,by omega,rfl⟩
   rintro z ⟨x0,x1,hx⟩ hfx2 ag2 hag2
   conv=>cbv
   simp only[zo hL,sQ,true_and,<-hpl,Eg];refine⟨Qa _,fun h3=>?_,fun h3=>?_⟩
   ·rw[zk (n:=z+1) (by omega) (by omega)]
    have hne:z≠cpT c0 o:=fun e=>by
     rw[e,zwv (by omega) (by omega)]at h3;omega
    refine hag2 (z+1) ⟨by omega,by omega,?_⟩ (by omega);rw[<-hx,show(cpT c0 o-z).toNat=(cpT c0 o-(z+1)).toNat+1 by omega];exact(if_pos (show qU z o>1 from h3)).symm
   ·have hx2:cpo c0 o=z:=by
     rw[<-hx];exact if_neg (show ¬qU z o>1 from h3)
    rw[hx2]at t1 t2;have wk:IntKind.wrap .i64 (k-1)=k-1:=zk (by omega) (by omega);refine⟨fun h4=>?_,fun h4=>?_⟩
    ·have hp0:ps.length=0:=(by omega);rw[if_pos hp0]at t1 t2;have cT2:=zoJ (c:=z+o) (o:=o) (by omega);rw[zk (n:=z+o) (by omega) (by omega)]
     refine hlp (Int) _ _ _ [0,1,2,6,7,8,9,10,11] (fun x=>[(0,none,.val (.box 101 (.agg [.slc false 5 (.int .u8 0) a0,.int .i64 A3,.int .u64 H3]))),(1,none,.val (.int .i64 a3)),(2,none,.val (.int .i64 a4)),(6,none,.val (.box 57 (.agg [.slc true 2 (.int .i64 0) []]))),(7,none,.val (.slc true 29 (.slc true 2 (.int .i64 0) []) es)),(8,none,.val (.int .i64 n)),(9,none,.val (.int .i64 k)),(10,none,.val (.int .i64 o)),(11,none,.val (.int .i64 x))])
      (fun x=>z+o<=x/\x<=cpT (z+o) o/\cpU o ((cpT (z+o) o-x).toNat+1) x=cpo (z+o) o) (fun x=>(cpT (z+o) o-x).toNat) (z+o) (by subst hL;rfl) ?_ ?_
     ·exact⟨by omega,by omega,rfl⟩
     rintro y ⟨y0,y1,hy1⟩ hfx3 ag3 hag3
     conv=>cbv
     simp only[zo hL,sQ,true_and,<-hpl,Eg];refine⟨Qa _,fun h5=>?_,fun h5=>?_⟩
     ·rw[zk (n:=y+1) (by omega) (by omega)]
      have hne:y≠cpT (z+o) o:=fun e=>by
       rw[e,zwv (by omega) (by omega)]at h5;omega
      refine hag3 (y+1) ⟨by omega,by omega,?_⟩ (by omega);rw[<-hy1,show(cpT (z+o) o-y).toNat=(cpT (z+o) o-(y+1)).toNat+1 by omega];exact(if_pos (show qU y o>1 from h5)).symm
     ·have hy2:cpo (z+o) o=y:=by
       rw[<-hy1];exact if_neg (show ¬qU y o>1 from h5)
      rw[hy2]at t1 t2;simp only[wno,wk]
      (repeat' first|(exact yr _)|(exact je rfl)|(exact yV _)|(apply And.intro)|(intro _))<;>(try first|exact True.intro|omega|rfl|(simp only[zi,zq,zj];omega))
      exact hag (_,n*o,A3,H3,k-1) ⟨by simp only;omega,ps++[[y,o]],by simp only;rw[ZK,hes];rfl,t1,t2⟩ (by simp only;omega)
    ·have hp0:¬ps.length=0:=(by omega);rw[if_neg hp0]at t1 t2;simp only[wno,wk]
     (repeat' first|(exact yr _)|(exact je rfl)|(exact yV _)|(apply And.intro)|(intro _))<;>(try first|exact True.intro|omega|rfl|(simp only[zi,zq,zj];omega))
     exact hag (_,n*o,A3,H3,k-1) ⟨by simp only;omega,ps++[[z,o]],by simp only;rw[ZK,hes];rfl,t1,t2⟩ (by simp only;omega)
  ·have hkz:k.toNat=0:=(by omega);rw[hkz]at hsm hok;have hsm':sE=(ps,n,a,h):=hsm.symm
   have hF:smF a0 a1 a2 a3 a4=if okT ps=true then(if a4<(QO ps).getD ps.length 0 then zhl a0 (a,h)else if kw a0 (a,h) 12=0 then zhl a0 (qa a0 (a,h) 12)else(QO ps,qa a0 (a,h) 12))else zhl a0 (a,h):=by
    unfold smF;simp only;rw[<-hs0,<-hk0,<-hsE,hsm']
   have hP:Prs ps:=hok.prs (by omega);have hfz:V.frzs es=II false ps:=(by rw[hes,qy]);have bl:(QO ps).length=ps.length+1:=(by simp only[QO,zi,zg7]);have Qb:zis (II false ps):=(by rw[<-zd0];exact⟨ps,rfl,hP⟩);have Eb:zwZ (II false ps)=if okT ps=true then(I (QO ps),0)else([],5):=(by rw[<-zqz,zoE,yd]);subst yZ yY yX jj jL jK jJ kP;rw[hfz,Eb];have Qp:∀σ:Int×Int,yi a0 σ.1 σ.2->zfR a0 σ.1 σ.2 (V.frzs (V.frzs [V.int IntKind.i64 1,V.int IntKind.i64 2,V.int IntKind.i64 3])):=fun σ hs=>⟨hs,⟨[1,2,3],rfl⟩,by decide,by decide⟩
   have fin:∀(l:List Int) (A H:Int),smF a0 a1 a2 a3 a4=(l,A,H)->V.agg [V.slc true 2 (.int .i64 0) (I l)]=rr/\V.box 101 (V.agg [.slc false 5 (.int .u8 0) a0,.int .i64 A,.int .u64 H])=yy:=by
    intro l A H e;rw[hr,hy,zkn,e];exact⟨rfl,rfl⟩
   have h50:((5:Int)=0)=False:=eq_false (by decide);have pl3:=hP.len
   cases hT:okT ps with
   |false=>
    rw[hT,if_neg (by decide)]at hF;simp only[Bool.false_eq_true,if_false,h50,false_and,false_imp_iff,not_false_eq_true,true_or,true_imp_iff,and_false,true_and,and_true];exact⟨Qb,rfl,Qp (a,h) hsrc,fin [Yn a0 (a,h) [1,2,3]] _ _ hF⟩
   |true=>
    rw[hT,if_pos rfl]at hF;have wl:IntKind.wrap .i64 ((ps.length+1:Nat)-1:Int)=ps.length:=(by rw[show((ps.length+1:Nat)-1:Int)=ps.length by omega];exact zk (by omega) (by omega));simp only[zo hL,sQ,if_true,zj,bl,wl,zO,zV,true_and,not_true,false_or];refine⟨Qb,zdV _,fun _=>by omega,fun _=>by omega,fun _=>by omega,fun h2=>⟨h2,hsrc,fun h3=>?_,fun h3=>?_⟩,fun h2=>⟨fun h3=>?_,fun h3=>absurd h2 h3.1⟩⟩
    ·have h4:kw a0 (a,h) 12=0:=h3.resolve_left h2;rw[if_neg h2,if_pos h4]at hF;exact⟨Qp (qa a0 (a,h) 12) (kb hsrc),fin [Yn a0 (qa a0 (a,h) 12) [1,2,3]] _ _ hF⟩
    ·rw[if_neg h2,if_neg (show ¬kw a0 (a,h) 12=0 from h3.2)]at hF;exact fin _ _ _ hF
    ·rw[if_pos h2]at hF;exact⟨Qp (a,h) hsrc,fin [Yn a0 (a,h) [1,2,3]] _ _ hF⟩
 ·cases h
theorem zk9{es:List V}{a h most term:Int}(hq:zmK es a h most term):yi es (smF es a h most term).2.1 (smF es a h most term).2.2/\1<=(smF es a h most term).1.length/\(smF es a h most term).1.length<=4:=by
 obtain⟨hs,m1,m2⟩:=hq;have hk:=zeA (σ:=(a,h)) (n:=3) hs (by decide);have ok0:SmOk es most (([],1,qa es (a,h) 3):SmS) (1+kw es (a,h) 3).toNat:=⟨by simp only[zq];omega,by simp,rfl,by simp,by simp only;omega,kb (σ:=(a,h)) hs⟩;have hr:=ok0.run;unfold smF;simp only;generalize smN es most (1+kw es (a,h) 3).toNat ([],1,qa es (a,h) 3)=s at hr ⊢;have h1:=hr.src;have h2:=hr.len;have pk:∀σ:Int×Int,yi es σ.1 σ.2->yi es (zhl es σ).2.1 (zhl es σ).2.2/\1<=(zhl es σ).1.length/\(zhl es σ).1.length<=4:=fun σ hσ=>⟨zaZ hσ,by simp,by simp⟩;split
 ·split
  ·exact pk _ h1
  ·split
   ·exact pk _ (kb h1)
   ·exact⟨kb h1,by simp only[QO,zi];omega,by simp only[QO,zi,zg7];omega⟩
 ·exact pk _ h1
def drF(es:List V)(a h:Int):List Int×Int×Int:=
 let σ:=KH es (a,h) [6,12,30,64]
 let s:=smF es σ.1 σ.2 (Yn es (a,h) [6,12,30,64]) 400
 if s.1.length=1/\1<s.1.getD 0 0 then
  ([s.1.getD 0 0,W (W (s.1.getD 0 0*W (1+kw es s.2 9))+1)],qa es s.2 9)
 else s
theorem zwp{es:List V}{a h:Int}(hq:yi es a h):yi es (drF es a h).2.1 (drF es a h).2.2/\1<=(drF es a h).1.length/\(drF es a h).1.length<=4:=by
 have hp:=zfX (σ:=(a,h)) (l:=[6,12,30,64]) hq (by simp);have h1:=zk9 (most:=Yn es (a,h) [6,12,30,64]) (term:=400) ⟨zaZ (σ:=(a,h)) (l:=[6,12,30,64]) hq,by simp at hp;omega,by simp at hp;omega⟩;unfold drF;simp only;split
 ·exact⟨kb (σ:=(smF es _ _ _ _).2) h1.1,by simp,by simp⟩
 ·exact h1
def ztK(es:List V)(a h:Int):List V×Int×Int:=(I (drF es a h).1,(drF es a h).2)
def zxR(f:List V->Int->Int->List V×Int×Int)(q:List V->Int->Int->Prop):uk:=fun
 |[.box 101 (.agg [.slc false 5 (.int .u8 0) a0,.int .i64 a1,.int .u64 a2])]=>some ([q a0 a1 a2],.agg [.slc true 2 (.int .i64 0) (f a0 a1 a2).1],.box 101 (.agg [.slc false 5 (.int .u8 0) a0,.int .i64 (f a0 a1 a2).2.1,.int .u64 (f a0 a1 a2).2.2]))
 |_=>none
theorem zpn:zgp Tryz.prog 118 1000 (zxR ztK yi):=by
 intro args ps r y h hp;unfold zxR at h;split at h
 ·rename_i a0 a1 a2;cases h;have hq:yi a0 a1 a2:=(zm.1 hp).1;obtain⟨m,hm⟩:∃m,m=QE a0 a1 a2 (I [6,12,30,64]):=⟨_,rfl⟩;obtain⟨A1,hA1⟩:∃A1,A1=Jk a0 a1 a2 (I [6,12,30,64]):=⟨_,rfl⟩;obtain⟨H1,hH1⟩:∃H1,H1=Jj a0 a1 a2 (I [6,12,30,64]):=⟨_,rfl⟩;obtain⟨S,hS⟩:∃S,S=smF a0 A1 H1 m 400:=⟨_,rfl⟩
  have hF:drF a0 a1 a2=if S.1.length=1/\1<S.1.getD 0 0 then([S.1.getD 0 0,W (W (S.1.getD 0 0*W (1+kw a0 S.2 9))+1)],qa a0 S.2 9)else S:=by
   subst hS hA1 hH1 hm;rfl
  have mp:m∈[6,12,30,64]:=by rw[hm];exact zfX (σ:=(a1,a2)) (l:=[6,12,30,64]) hq (by simp)
  have s1:yi a0 A1 H1:=by rw[hA1,hH1];exact uE hq
  have qs:zmK a0 A1 H1 m 400:=⟨s1,by simp at mp;omega,by simp at mp;omega⟩;have hS2:=zk9 qs;rw[<-hS]at hS2;obtain⟨sl,A2,H2⟩:=S;simp only at hF hS2;have Es:zkn a0 A1 H1 m 400=(I sl,A2,H2):=by rw[zkn,<-hS]
  obtain⟨bl,hbl⟩:∃bl,bl=I sl:=⟨_,rfl⟩;obtain⟨n,hn⟩:∃n:Int,n=bl.length:=⟨_,rfl⟩;have hnl:n=sl.length:=by rw[hn,hbl,zj]
  have gx:∀k,bl.getD k (.int .i64 0)=.int .i64 (sl.getD k 0):=fun k=>by rw[hbl,zO]
  generalize yZ:jT=jS;generalize yY:ky=jR;generalize yX:kS=jQ;generalize jj:zfS=Zb;generalize jL:QE=ZF;generalize jK:Jk=ZE;generalize jJ:Jj=ZD;generalize kP:zfR=YK;generalize zgv:zkn=zuW;generalize zgs:zmK=zuN;refine zh2 (T:=tab) (B:=[]) (Bi:=[(41,0,false,zc0 jS jR jQ Zb),(42,0,false,zff ZF ZE ZD YK),(116,1000,false,zrY zuW zuN)]) 0 [2000001806,2000003033,2000003800,2000003820,2000003821,2000003822,2000003823,2000003824,2000003825,2000003826,2000003827,2000003829,2000003999,0,2,3] Tryz.func118 rfl rfl (by kernel_rfl) (ze rfl) mixed zP (by subst yZ yY yX jj jL jK jJ kP zgv zgs;exact zA) (by subst yZ yY yX jj jL jK jJ kP zgv zgs;exact(ja uJ (ja ZS (ja zgO zx)))) (by kernel_rfl) rfl rfl zcJ rfl ?_;intro L lp rr yy hL hr hy hf hlp
  conv=>cbv
  subst yZ yY yX jj jL jK jJ kP zgv zgs;have p0:QE a0 a1 a2 (V.frzs (V.frzs [V.int IntKind.i64 6,V.int IntKind.i64 12,V.int IntKind.i64 30,V.int IntKind.i64 64]))=m:=hm.symm;have p1:Jk a0 a1 a2 (V.frzs (V.frzs [V.int IntKind.i64 6,V.int IntKind.i64 12,V.int IntKind.i64 30,V.int IntKind.i64 64]))=A1:=hA1.symm;have p2:Jj a0 a1 a2 (V.frzs (V.frzs [V.int IntKind.i64 6,V.int IntKind.i64 12,V.int IntKind.i64 30,V.int IntKind.i64 64]))=H1:=hH1.symm;have p3:zfR a0 a1 a2 (V.frzs (V.frzs [V.int IntKind.i64 6,V.int IntKind.i64 12,V.int IntKind.i64 30,V.int IntKind.i64 64])):=⟨hq,⟨[6,12,30,64],rfl⟩,by decide,by decide⟩;simp only[p0,p1,p2,Es,<-hbl,gx,zo hL,sQ,true_and,<-hn]
  have fin:∀(l:List Int) (A H:Int),drF a0 a1 a2=(l,A,H)->V.agg [V.slc true 2 (.int .i64 0) (I l)]=rr/\V.box 101 (V.agg [.slc false 5 (.int .u8 0) a0,.int .i64 A,.int .u64 H])=yy:=by
   intro l A H e;rw[hr,hy,ztK,e];exact⟨rfl,rfl⟩
  refine⟨p3,qs,fun _=>by omega,fun _=>by omega,fun _=>by omega,fun _=>trivial,fun h=>?_,fun h=>?_⟩
  ·rw[if_pos ⟨by omega,h.2⟩]at hF;exact⟨by omega,by omega,by omega,by omega,by omega,by omega,hS2.1,fin [_,_] _ _ hF⟩
  ·rw[if_neg (fun h'=>by omega)]at hF;rw[hbl];exact fin _ _ _ hF
 ·cases h
def spF(es:List V)(a h:Int):List Int×Int×Int:=
 let s:=drF es a h
 let v:=kw es s.2 30
 let σ:=qa es s.2 30
 if v=0 then(s.1.set 0 (Yn es σ [0,-1,65,2]),KH es σ [0,-1,65,2])
 else if v=1 then(s.1++[Yn es σ [2001,1999,5,1099511627776]],KH es σ [2001,1999,5,1099511627776])
 else if v=2 then(s.1.drop 1,σ)else(s.1,σ)
theorem zBM{es:List V}{a h:Int}(hq:yi es a h):yi es (spF es a h).2.1 (spF es a h).2.2/\(spF es a h).1.length<=5:=by
 obtain⟨h1,h2,h3⟩:=zwp hq;have h4:=kb (σ:=(drF es a h).2) (n:=30) h1;unfold spF;simp only;split
 ·exact⟨zaZ (σ:=qa es (drF es a h).2 30) h4,by simp only[List.length_set];omega⟩
 ·split
  ·exact⟨zaZ (σ:=qa es (drF es a h).2 30) h4,by simp only[zp,zi,zq];omega⟩
  ·split
   ·refine⟨h4,?_⟩;simp only[List.length_drop];omega
   ·refine⟨h4,?_⟩;show(drF es a h).1.length<=5;omega
def ztG(es:List V)(a h:Int):List V×Int×Int:=(I (spF es a h).1,(spF es a h).2)
def zxQ(f:List V->Int->Int->List V×Int×Int)(q:List V->Int->Int->Prop):uk:=fun
 |[.box 101 (.agg [.slc false 5 (.int .u8 0) a0,.int .i64 a1,.int .u64 a2])]=>some ([q a0 a1 a2],.agg [.slc false 2 (.int .i64 0) (f a0 a1 a2).1],.box 101 (.agg [.slc false 5 (.int .u8 0) a0,.int .i64 (f a0 a1 a2).2.1,.int .u64 (f a0 a1 a2).2.2]))
 |_=>none
theorem znV:zgp Tryz.prog 79 1000 (zxQ ztG yi):=by
 intro args ps r y h hp;unfold zxQ at h;split at h
 ·rename_i a0 a1 a2;cases h;have hq:yi a0 a1 a2:=(zm.1 hp).1;obtain⟨S,hS⟩:∃S,S=drF a0 a1 a2:=⟨_,rfl⟩;have hS2:=zwp hq;rw[<-hS]at hS2
  have hF:spF a0 a1 a2=if kw a0 S.2 30=0 then(S.1.set 0 (Yn a0 (qa a0 S.2 30) [0,-1,65,2]),KH a0 (qa a0 S.2 30) [0,-1,65,2])
   else if kw a0 S.2 30=1 then(S.1++[Yn a0 (qa a0 S.2 30) [2001,1999,5,1099511627776]],KH a0 (qa a0 S.2 30) [2001,1999,5,1099511627776])
   else if kw a0 S.2 30=2 then(S.1.drop 1,qa a0 S.2 30)else(S.1,qa a0 S.2 30):=by
   subst hS;rfl
  obtain⟨sl,A2,H2⟩:=S;simp only at hF hS2;have Es:ztK a0 a1 a2=(I sl,A2,H2):=by rw[ztK,<-hS]
  obtain⟨bl,hbl⟩:∃bl,bl=I sl:=⟨_,rfl⟩;obtain⟨n,hn⟩:∃n:Int,n=bl.length:=⟨_,rfl⟩;have hnl:n=sl.length:=by rw[hn,hbl,zj]
  have gx:∀k,bl.getD k (.int .i64 0)=.int .i64 (sl.getD k 0):=fun k=>by rw[hbl,zO]
  generalize yZ:jT=jS;generalize yY:ky=jR;generalize yX:kS=jQ;generalize jj:zfS=Zb;generalize jL:QE=ZF;generalize jK:Jk=ZE;generalize jJ:Jj=ZD;generalize kP:zfR=YK;generalize zuG:ztK=zDM;generalize ZV:yi=zcz;refine zh2 (T:=tab) (B:=[]) (Bi:=[(41,0,false,zc0 jS jR jQ Zb),(42,0,false,zff ZF ZE ZD YK),(118,1000,false,zxR zDM zcz)]) 0 [1000008003,1000009003,2000004800,2000004810,2000004811,2000004813,2000004814,2000004999,2000006800,2000006818,2000006819,2000006821,2000006822,2000006999,0,2,3,7] Tryz.func79 rfl rfl (by kernel_rfl) (ze rfl) mixed zP (by subst yZ yY yX jj jL jK jJ kP zuG ZV;exact zA) (by subst yZ yY yX jj jL jK jJ kP zuG ZV;exact(ja uJ (ja ZS (ja zpn zx)))) (by kernel_rfl) rfl rfl zcJ rfl ?_;intro L lp rr yy hL hr hy hf hlp
  conv=>cbv
  subst yZ yY yX jj jL jK jJ kP zuG ZV;simp only[Es,zo hL,sQ,true_and];have s0:yi a0 A2 H2:=hS2.1;have s1:yi a0 (ky a0 A2 H2 30) (kS a0 A2 H2 30):=uE s0;have n1:1<=sl.length:=hS2.2.1;have n2:sl.length<=4:=hS2.2.2
  have fin:∀(l:List Int) (A H:Int),spF a0 a1 a2=(l,A,H)->V.agg [V.slc false 2 (.int .i64 0) (I l)]=rr/\V.box 101 (V.agg [.slc false 5 (.int .u8 0) a0,.int .i64 A,.int .u64 H])=yy:=by
   intro l A H e;rw[hr,hy,ztG,e];exact⟨rfl,rfl⟩
  have hF':spF a0 a1 a2=if jT a0 A2 H2 30=0 then(sl.set 0 (Yn a0 (qa a0 (A2,H2) 30) [0,-1,65,2]),KH a0 (qa a0 (A2,H2) 30) [0,-1,65,2])
   else if jT a0 A2 H2 30=1 then(sl++[Yn a0 (qa a0 (A2,H2) 30) [2001,1999,5,1099511627776]],KH a0 (qa a0 (A2,H2) 30) [2001,1999,5,1099511627776])
   else if jT a0 A2 H2 30=2 then(sl.drop 1,qa a0 (A2,H2) 30)else(sl,qa a0 (A2,H2) 30):=hF
  refine⟨hq,s0,fun h=>?_,fun h=>⟨fun h'=>?_,fun h'=>⟨fun h2=>?_,fun h2=>?_⟩⟩⟩
  ·rw[if_pos h]at hF';refine⟨⟨s1,⟨[0,-1,65,2],rfl⟩,by decide,by decide⟩,by omega,by omega,by omega,?_⟩;have e:V.frzs ((I sl).set 0 (V.int .i64 (Yn a0 (qa a0 (A2,H2) 30) [0,-1,65,2])))=I (sl.set 0 (Yn a0 (qa a0 (A2,H2) 30) [0,-1,65,2])):=(by rw[zam,zD]);have f:=fin _ _ _ hF';rw[<-e]at f;exact f
  ·rw[if_neg h,if_pos h']at hF';refine⟨⟨s1,⟨[2001,1999,5,1099511627776],rfl⟩,by decide,by decide⟩,rfl,?_,yr _,?_⟩
   ·rw[List.length_singleton];omega
   have e:V.frzs (I sl++[V.int .i64 (Yn a0 (qa a0 (A2,H2) 30) [2001,1999,5,1099511627776])])=I (sl++[Yn a0 (qa a0 (A2,H2) 30) [2001,1999,5,1099511627776]]):=by
    rw[show[V.int .i64 (Yn a0 (qa a0 (A2,H2) 30) [2001,1999,5,1099511627776])]=I [Yn a0 (qa a0 (A2,H2) 30) [2001,1999,5,1099511627776]]from rfl,jb,zD]
   have f:=fin _ _ _ hF';rw[<-e]at f;exact f
  ·rw[if_neg h,if_neg h',if_pos h2]at hF';refine⟨by omega,by omega,by omega,?_⟩;have f:=fin _ _ _ hF';rw[zV,show List.take sl.length (I sl)=I sl from zy (by rw[zj];exact zt _),zkM];rw[zD];exact f
  ·rw[if_neg h,if_neg h',if_neg h2]at hF';exact fin _ _ _ hF'
 ·cases h
def zxx(es:List V):Prop:=∃xs:List Int,es=U8 xs/\∀x∈xs,0<=x/\x<=255
def zEj(_:List V):Bool:=true
theorem zwD:∀xs:List Int,V.frzs (U8 xs)=U8 xs
 |[]=>rfl
 |x::xs=>by
  have:=zwD xs;simp only[U8]at this;simp only[U8,List.map_cons,V.frzs,V.frz,this]
theorem zDs{a:List V}(h:zxx a)(hb:zlw a=false):IsU a:=by
 obtain⟨xs,hxs,hr⟩:=h;refine⟨xs,hxs,hr,?_⟩;have hl:a.length=xs.length:=by rw[hxs,U8,List.length_map]
 simp only[zlw,decide_eq_false_iff_not]at hb;omega
end Go.Ax
namespace Go.Proofs.YtdahdoichcnlgaaGreat
open Go.ChangeShapes Go.WideShapes Go.ChangeAt Go.RowKit Go.Ax
theorem zBB{x:V}(h:Wt tab 5 x):∃n,x=.int .u8 n/\0<=n/\n<=255:=by
 cases h with
 |int _ ti k n h hk hn=>
  cases h;cases hk;refine⟨n,rfl,?_⟩;simp[Lit.wf]at hn;have h1:IntKind.u8.min=0:=rfl;have h2:IntKind.u8.max=255:=rfl;omega
 |bool _ ti b h hk=>cases h;cases hk
 |str _ ti b h hk=>cases h;cases hk
 |slc _ ti e es h hk=>cases h;cases hk
 |agg _ ti e es h hk=>cases h;cases hk
theorem zzE{x:V}(h:Wt tab 22 x):∃es,x=.slc false 5 (.int .u8 0) es/\zxx es:=by
 cases h with
 |int _ ti k n h hk hn=>cases h;cases hk
 |bool _ ti b h hk=>cases h;cases hk
 |str _ ti b h hk=>cases h;cases hk
 |slc _ ti e es h hk hl he=>
  cases h;cases hk;refine⟨es,rfl,?_⟩;clear hl
  induction es with
  |nil=>exact⟨[],rfl,by simp⟩
  |cons y es ih=>
   obtain⟨l,hl,hr⟩:=ih (fun i y hy=>he (i+1) y (by simpa using hy));obtain⟨n,hn,h0,h1⟩:=zBB (he 0 y rfl);refine⟨n::l,by rw[hl,hn];rfl,fun x hx=>?_⟩;rcases zH.1 hx with rfl|hx
   ·exact⟨h0,h1⟩
   ·exact hr x hx
 |agg _ ti e es h hk=>cases h;cases hk
end Go.Proofs.YtdahdoichcnlgaaGreat
namespace Go.Ax
open Go.Proofs
def zbt(P S:List Int)(i:Nat):Bool:=if i=0 then decide (P.getD 0 0= -1)&&decide (S.getD 0 0= -1)else
 (decide (0<=P.getD i 0)&&decide (P.getD i 0<i))&&(decide (S.getD i 0= -1)||decide (0<=S.getD i 0)&&(decide (S.getD i 0=P.getD (P.getD i 0).toNat 0)||decide (S.getD i 0=S.getD (P.getD i 0).toNat 0)))
def zek(P S:List Int)(i j:Nat):Bool:= !(decide (0<=S.getD i 0)&&decide (S.getD i 0=S.getD j 0)&&decide (P.getD i 0=P.getD j 0))
structure ClP (P S Q:List Int):Prop where
 n1:1<=P.length
 n24:P.length<=24
 sl:S.length=P.length
 ql:Q.length=P.length
 q:∀i,i<P.length->-100000<=Q.getD i 0/\Q.getD i 0<=100000
 place:∀i,i<P.length->zbt P S i=true
 diff:∀i j,i<P.length->j<i->zek P S i j=true
noncomputable def zpM(P S Q:List Int):Bool:= @decide (ClP P S Q) (Classical.propDecidable _)
theorem zf8{P S Q:List Int}:zpM P S Q=true↔ClP P S Q:=by
 rw[zpM];exact@decide_eq_true_iff _ (Classical.propDecidable _)
theorem zB8{P S Q:List Int}(h:¬ClP P S Q):zpM P S Q=false:=by
 cases hb:zpM P S Q with
 |false=>rfl
 |true=>exact absurd (zf8.1 hb) h
theorem zfW{P S:List Int}:zbt P S 0=true↔P.getD 0 0= -1/\S.getD 0 0= -1:=by
 rw[zbt,if_pos rfl];simp only[zh,decide_eq_true_eq]
theorem zfV{P S:List Int}{i:Nat}(hi:i≠0):zbt P S i=true↔(0<=P.getD i 0/\P.getD i 0<i)/\(S.getD i 0= -1\/0<=S.getD i 0/\(S.getD i 0=P.getD (P.getD i 0).toNat 0\/S.getD i 0=S.getD (P.getD i 0).toNat 0)):=by
 rw[zbt,if_neg hi];simp only[zh,Bool.or_eq_true,decide_eq_true_eq]
theorem zq1{P S:List Int}{i:Nat}(h:∀t,t<=i->zbt P S t=true):∀t,t<=i->-1<=P.getD t 0/\P.getD t 0<t/\-1<=S.getD t 0/\(0<t->S.getD t 0<t):=by
 intro t
 induction t using Nat.strongRecOn with
 |ind t ih=>
  intro ht;have hp:=h t ht;by_cases h0:t=0
  ·subst h0;obtain⟨h1,h2⟩:=zfW.1 hp;omega
  ·obtain⟨⟨h1,h2⟩,h3⟩:=(zfV h0).1 hp;have h4:=ih (P.getD t 0).toNat (by omega) (by omega);refine⟨by omega,h2,by omega,fun _=>?_⟩;rcases h3 with h3|⟨_,h3|h3⟩
   ·omega
   ·omega
   ·by_cases h5:(P.getD t 0).toNat=0
    ·have:=zfW.1 (h 0 (by omega));rw[h5]at h3;omega
    ·have:=h4.2.2.2 (by omega);omega
def zfj(f:List V->List V->List V->Bool)(q:List V->List V->List V->Prop):zN:=fun
 |[.agg [.slc false 2 (.int .i64 0) a0,.slc false 2 (.int .i64 0) a1,.slc false 2 (.int .i64 0) a2]]=>some ([q a0 a1 a2],.bool (f a0 a1 a2))
 |_=>none
noncomputable def uh(a b c:List V):Bool:=zpM (qj a) (qj b) (qj c)
def q_K(a b c:List V):Prop:=JJ a/\JJ b/\JJ c
def zp0(f:List V->List V->List V->Int->Int->Bool)(q:List V->List V->List V->Int->Int->Prop):zN:=fun
 |[.agg [.slc false 2 (.int .i64 0) a0,.slc false 2 (.int .i64 0) a1,.slc false 2 (.int .i64 0) a2],.int .i64 a3,.int .i64 a4]=>some ([q a0 a1 a2 a3 a4],.bool (f a0 a1 a2 a3 a4))
 |_=>none
def ztH(a b _:List V)(i j:Int):Bool:=decide (0<=j)&&(decide ((qj a).getD i.toNat 0=j)||decide ((qj b).getD i.toNat 0=j))
def zz2(a b c:List V)(i _:Int):Prop:=JJ a/\JJ b/\JJ c/\0<=i/\i<a.length/\b.length=a.length
theorem zpi:yI Tryz.prog 145 (zp0 ztH zz2):=by
 intro args ps r h hp;unfold zp0 at h;split at h
 ·rename_i a0 a1 a2 i j;cases h;obtain⟨⟨P,hP⟩,⟨S,hS⟩,⟨Q,hQ⟩,i0,i1,hsl⟩:zz2 a0 a1 a2 i j:=(zm.1 hp).1;have g0:V.frzs a0=a0:=by rw[hP,zD]
  have g1:V.frzs a1=a1:=by rw[hS,zD]
  have g2:V.frzs a2=a2:=by rw[hQ,zD]
  have hpl:a0.length=P.length:=by rw[hP,zj]
  have hsl2:a1.length=P.length:=by rw[hsl,hpl]
  have gp:∀k,a0.getD k (.int .i64 0)=.int .i64 (P.getD k 0):=fun k=>by rw[hP,zO]
  have gs:∀k,a1.getD k (.int .i64 0)=.int .i64 (S.getD k 0):=fun k=>by rw[hS,zO]
  have hf0:ztH a0 a1 a2 i j=(decide (0<=j)&&(decide (P.getD i.toNat 0=j)||decide (S.getD i.toNat 0=j))):=by rw[ztH,hP,hS,zr,zr]
  rw[hpl]at i1;refine zC (T:=tab) (B:=[]) (Bi:=[]) [0,1,2,3,6] Tryz.func145 rfl rfl (by kernel_rfl) (ze rfl) mixed zP (by exact zA) (by exact zx) (by kernel_rfl) ?_;intro L lp rr hL hr hf hlp
  conv=>cbv
  simp only[zo hL,sQ,g0,g1,g2,hpl,hsl2,gp,gs];refine⟨fun _=>i0,fun _=>i1,fun _=>trivial,fun _=>i0,fun _=>i1,fun _=>trivial,fun h2 h3=>⟨h2,h3⟩,?_⟩;rw[hr,hf0];rfl
 ·cases h
theorem zcP:yI Tryz.prog 132 (zfj uh q_K):=by
 intro args ps r h hp;unfold zfj at h;split at h
 ·rename_i a0 a1 a2;cases h;have hq:q_K a0 a1 a2:=(zm.1 hp).1;obtain⟨⟨P,hP⟩,⟨S,hS⟩,⟨Q,hQ⟩⟩:=id hq;have g0:V.frzs a0=a0:=by rw[hP,zD]
  have g1:V.frzs a1=a1:=by rw[hS,zD]
  have g2:V.frzs a2=a2:=by rw[hQ,zD]
  have hpl:a0.length=P.length:=by rw[hP,zj]
  have hsl:a1.length=S.length:=by rw[hS,zj]
  have hql:a2.length=Q.length:=by rw[hQ,zj]
  have gp:∀k,a0.getD k (.int .i64 0)=.int .i64 (P.getD k 0):=fun k=>by rw[hP,zO]
  have gs:∀k,a1.getD k (.int .i64 0)=.int .i64 (S.getD k 0):=fun k=>by rw[hS,zO]
  have gq:∀k,a2.getD k (.int .i64 0)=.int .i64 (Q.getD k 0):=fun k=>by rw[hQ,zO]
  have hf0:uh a0 a1 a2=zpM P S Q:=by rw[uh,hP,hS,hQ,zr,zr,zr]
  have hno:¬ClP P S Q->uh a0 a1 a2=false:=fun h=>by rw[hf0,zB8 h]
  obtain⟨n,hn⟩:∃n:Int,n=P.length:=⟨_,rfl⟩;generalize yk:yu=qR;generalize zuE:ztH=zzz;generalize zux:zz2=zDH;refine zC (T:=tab) (B:=[(82,qW qR),(145,zp0 zzz zDH)]) (Bi:=[]) [0,1,2,3,4,5] Tryz.func132 rfl rfl (by kernel_rfl) (ze rfl) mixed zP (by subst yk zuE zux;exact(zn Ym (zn zpi zA))) (by subst yk zuE zux;exact zx) (by kernel_rfl) ?_;intro L lp rr hL hr hf hlp;have Er:∀x a b,qR x a b=(decide (a<=x)&&decide (x<=b)):=fun x a b=>by rw[<-yk,yu]
  have En:∀i j,zzz a0 a1 a2 i j=(decide (0<=j)&&(decide (P.getD i.toNat 0=j)||decide (S.getD i.toNat 0=j))):=fun i j=>by rw[<-zuE,ztH,hP,hS,zr,zr]
  conv=>cbv
  simp only[zo hL,sQ,g0,g1,g2,hpl,hsl,hql,<-hn,Er,gp,gs];refine⟨fun h=>by omega,fun h=>by omega,fun _=>trivial,fun h=>by omega,fun h=>by omega,fun _=>trivial,fun h=>?_,fun h=>?_⟩
  ·rw[hr,hno (fun c=>?_)];have c1:=c.n1;have c2:=c.n24;have c3:=c.sl;have c4:=c.ql;have c5:=zfW.1 (c.place 0 (by omega));omega
  obtain⟨⟨⟨⟨⟨n1,n24⟩,hsl2⟩,hql2⟩,hp0⟩,hs0⟩:=h;have hSl:S.length=P.length:=by omega
  have hQl:Q.length=P.length:=by omega
  refine hlp (Int) _ _ _ [1,3,4] (fun x=>[(1,none,.val (.box 31 (.agg [.slc false 2 (.int .i64 0) a0,.slc false 2 (.int .i64 0) a1,.slc false 2 (.int .i64 0) a2]))),(3,none,.val (.int .i64 n)),(4,none,.val (.int .i64 x))])
   (fun x=>0<=x/\x<=n/\(∀i,i<x.toNat->-100000<=Q.getD i 0/\Q.getD i 0<=100000)/\(∀i,i<x.toNat->zbt P S i=true)/\(∀i j,i<x.toNat->j<i->zek P S i j=true)) (fun x=>(n-x).toNat) (0) (by subst hL;rfl) ?_ ?_
  ·exact⟨by omega,by omega,fun i hi=>by simp at hi,fun i hi=>by simp at hi,fun i j hi=>by simp at hi⟩
  intro i ⟨i0,i1,hqr,hpl1,hdf1⟩ hfx ag hag
  conv=>cbv
  simp only[zo hL,sQ,g0,g1,g2,hpl,hsl,hql,<-hn,Er,En,gp,gs,gq];refine⟨fun h2=>?_,fun h2=>?_⟩
  ·have hwi:IntKind.wrap .i64 (i+1)=i+1:=zk (by omega) (by omega)
   have hag':(-100000<=Q.getD i.toNat 0/\Q.getD i.toNat 0<=100000)->zbt P S i.toNat=true->(∀j,j<i.toNat->zek P S i.toNat j=true)->(0<=i+1/\i+1<=n/\(∀t,t<(i+1).toNat->-100000<=Q.getD t 0/\Q.getD t 0<=100000)/\(∀t,t<(i+1).toNat->zbt P S t=true)/\(∀t j,t<(i+1).toNat->j<t->zek P S t j=true)):=fun u1 u2 u3=>by
    refine⟨by omega,by omega,fun t ht=>?_,fun t ht=>?_,fun t j ht hj=>?_⟩
    ·by_cases e:t=i.toNat
     ·rw[e];exact u1
     ·exact hqr t (by omega)
    ·by_cases e:t=i.toNat
     ·rw[e];exact u2
     ·exact hpl1 t (by omega)
    ·by_cases e:t=i.toNat
     ·rw[e];exact u3 j (by omega)
     ·exact hdf1 t j (by omega) hj
   rw[hwi];refine⟨i0,by omega,fun h3=>?_,fun h3=>⟨fun h4=>?_,fun h4=>⟨i0,h2,?_⟩⟩⟩
   ·rw[hr,hno (fun c=>by have:=c.q i.toNat (by omega);omega)]
   ·have e0:i.toNat=0:=(by omega);refine hag (i+1) (hag' h3 ?_ ?_) (by omega)
    ·rw[e0];exact zfW.2 ⟨hp0,hs0⟩
    ·intro j hj;omega
   have hwm:IntKind.wrap .i64 (i-1)=i-1:=zk (by omega) (by omega);have hi0:¬i.toNat=0:=(by omega);rw[hwm];obtain⟨p,hpp⟩:∃p,p=P.getD i.toNat 0:=⟨_,rfl⟩;obtain⟨s,hss⟩:∃s,s=S.getD i.toNat 0:=⟨_,rfl⟩;have hpb:= @zfV P S i.toNat hi0;rw[<-hpp,<-hss]at hpb;rw[<-hpp,<-hss]
   have hlow:ClP P S Q->(0<=p/\p<i)/\s<i/\(s= -1\/0<=s/\(s=P.getD p.toNat 0\/s=S.getD p.toNat 0)):=fun c=>by
    have:=zq1 (i:=i.toNat) (fun t ht=>c.place t (by omega)) i.toNat (zt _);rw[<-hpp,<-hss]at this;have h5:=hpb.1 (c.place i.toNat (by omega));exact⟨by omega,by omega,h5.2⟩
   have hdneg:s= -1->∀j,zek P S i.toNat j=true:=fun h j=>by
    rw[zek,<-hss,decide_eq_false (show ¬0<=s by omega)];rfl
   refine⟨fun h5=>?_,fun h5=>⟨i0,by omega,fun h6=>?_,fun h6=>?_⟩⟩
   ·rw[hr,hno (fun c=>by have:=hlow c;omega)]
   ·exact hag (i+1) (hag' h3 (hpb.2 ⟨by omega,.inl h6⟩) (fun j _=>hdneg h6 j)) (by omega)
   refine⟨i0,by omega,fun _=>i0,fun _=>h2,fun _=>trivial,fun _=>i0,fun _=>by omega,fun _=>trivial,fun _=>?_,fun h7=>?_,fun h7=>?_⟩
   ·rw[<-zux];exact⟨hq.1,hq.2.1,hq.2.2,h5.1,by omega,by omega⟩
   ·rw[hr,hno (fun c=>?_)];obtain⟨c1,c2,c3⟩:=hlow c;rcases c3 with c3|⟨c3,c4⟩
    ·exact h6 c3
    ·rcases h7 with(h7|h7)|h7|h7
     ·exact h7 c3
     ·omega
     ·exact h7 c3
     ·rcases c4 with c4|c4
      ·exact h7.1 c4.symm
      ·exact h7.2 c4.symm
   ·obtain⟨⟨s0,s1⟩,_,s3⟩:=h7;have hpl2:zbt P S i.toNat=true:=hpb.2 ⟨by omega,.inr ⟨s0,s3.imp Eq.symm Eq.symm⟩⟩
    refine hlp (Int) _ _ _ [1,3,4,5] (fun x=>[(1,none,.val (.box 31 (.agg [.slc false 2 (.int .i64 0) a0,.slc false 2 (.int .i64 0) a1,.slc false 2 (.int .i64 0) a2]))),(3,none,.val (.int .i64 n)),(4,none,.val (.int .i64 i)),(5,none,.val (.int .i64 x))])
     (fun x=>1<=x/\x<=i/\∀j,j<x.toNat->zek P S i.toNat j=true) (fun x=>(i-x).toNat) (1) (by subst hL;rfl) ?_ ?_
    ·refine⟨by omega,by omega,fun j hj=>?_⟩;have:j=0:=(by omega);subst this;rw[zek,hs0,<-hss,decide_eq_false (show ¬s= -1 by omega)];cases decide (0<=s)<;>rfl
    intro j ⟨j0,j1,hdj⟩ hfx2 ag2 hag2
    conv=>cbv
    simp only[zo hL,sQ,g0,g1,g2,hpl,hsl,hql,<-hn,gp,gs];rw[<-hpp,<-hss];refine⟨fun h8=>?_,fun h8=>?_⟩
    ·have j0':0<=j:=(by omega);refine⟨j0',by omega,i0,h2,fun _=>j0',fun _=>by omega,fun _=>trivial,fun _=>i0,fun _=>by omega,fun _=>trivial,fun h9=>?_,fun h9=>?_⟩
     ·rw[hr,hno (fun c=>?_)];have:=c.diff i.toNat j.toNat (by omega) (by omega);rw[zek,<-hss,<-hpp,decide_eq_true s0,decide_eq_true h9.2.symm,decide_eq_true h9.1.symm]at this;cases this
     ·rw[zk (n:=j+1) (by omega) (by omega)];refine hag2 (j+1) ⟨by omega,by omega,fun t ht=>?_⟩ (by omega);rw[zL j0']at ht
      by_cases htj:t=j.toNat
      ·rw[htj,zek,<-hss,<-hpp];rcases h9 with h9|h9
       ·rw[decide_eq_false (show ¬p=P.getD j.toNat 0 from fun e=>h9 e.symm),Bool.and_false];rfl
       ·rw[decide_eq_false (show ¬s=S.getD j.toNat 0 from fun e=>h9 e.symm),Bool.and_false];rfl
      ·exact hdj t (by omega)
    ·rw[hwi];exact hag (i+1) (hag' h3 hpl2 (fun t ht=>hdj t (by omega))) (by omega)
  ·have hcl:ClP P S Q:=⟨by omega,by omega,hSl,hQl,fun k hk=>hqr k (by omega),fun k hk=>hpl1 k (by omega),fun k j hk hj=>hdf1 k j (by omega) hj⟩;rw[hr,hf0,zf8.2 hcl]
 ·cases h
inductive Cn (es:List (List Int)):Int->Int->Prop
 |refl (u:Int):Cn es u u
 |tail {u v w:Int} (h:Cn es u v) (hw:w∈zs7 es v):Cn es u w
structure Bfs (n:Nat) (es:List (List Int)) (root:Int) (ord par:List Int) (i k:Nat):Prop where
 nd:ord.Nodup
 inr:∀x∈ord,0<=x/\x<n
 pl:par.length=n
 ne:0<ord.length
 hd:ord.getD 0 0=root
 rp:gI par root= -1
 tree:∀t,0<t->t<ord.length->∃s,s<t/\s<=i/\gI par (ord.getD t 0)=ord.getD s 0/\ord.getD t 0∈zs7 es (ord.getD s 0)/\(s=i->ord.getD t 0∈(zs7 es (ord.getD i 0)).take k)
 done:∀t,t<i->∀x∈zs7 es (ord.getD t 0),x∈ord
 cur:∀x∈(zs7 es (ord.getD i 0)).take k,x∈ord
 ile:i<=ord.length
theorem zmX{l:List Int}{t:Nat}(h:t<l.length):l.getD t 0∈l:=by
 rw[zd,zg h];exact List.getElem_mem _
theorem zwd{l:List Int}{k:Nat}(h:k<l.length):l[k]=l.getD k 0:=by
 rw[zd,zg h];rfl
theorem zDc{l:List Int}{x:Int}(h:x∈l):∃t,t<l.length/\l.getD t 0=x:=by
 obtain⟨t,ht,rfl⟩:=List.mem_iff_getElem.1 h;exact⟨t,ht,by rw[zd,zg ht];rfl⟩
theorem zq7:∀{n:Nat} (l:List Int),l.Nodup->(∀x∈l,0<=x/\x<n)->l.length<=n
 |0,l,_,hl=>by
  cases l with
  |nil=>simp
  |cons x l=>have:=hl x (by simp);omega
 |n+1,l,hn,hl=>by
  have h1:=zq7 (n:=n) (l.filter fun x=>x !=(n:Int)) (hn.filter _) (fun x hx=>by
   have h2:=List.mem_filter.1 hx;have h3:=hl x h2.1;have h4:x≠n:=by simpa using h2.2
   omega)
  have h2:∀l:List Int,l.Nodup->l.length<=(l.filter fun x=>x !=(n:Int)).length+1:=by
   intro l
   induction l with
   |nil=>simp
   |cons y l ih=>
    intro hy;have hy2:=zhe.1 hy;have ih2:=ih hy2.2;by_cases hyn:y=n
    ·have h3:(l.filter fun x=>x !=(n:Int))=l:=by
      rw[List.filter_eq_self];intro a ha;have:a≠n:=fun h=>hy2.1 (by rw[hyn,<-h];exact ha);simpa using this
     rw[List.filter_cons,hyn];simp[h3]
    ·rw[List.filter_cons];simp[hyn];omega
  have h3:=h2 l hn;omega
theorem zsl{α:Type}(f:Nat->α){n i:Nat}(x:α)(h:i<n):(qD f n).set i x=qD (fun t=>if t=i then x else f t) n:=by
 apply yH;intro j;rw[List.getElem?_set];by_cases hj:j<n
 ·rw[uM _ _ _ hj,uM _ _ _ hj];by_cases h1:i=j
  ·rw[if_pos h1,if_pos (by rw[yR];exact h),if_pos h1.symm]
  ·rw[if_neg h1,if_neg (Ne.symm h1)]
 ·rw[if_neg (by omega),zG (by rw[yR];omega),zG (by rw[yR];omega)]
def T2(n:Nat)(f:Nat->Nat->Int):List (List Int):=qD (fun i=>qD (f i) n) n
end Go.Ax
namespace Go.Proofs
end Go.Proofs
namespace Go.Ax
open Go.Proofs Go.Sort Go.RowKit
open Go.Proofs
theorem ClP.low{P S Q:List Int}(h:ClP P S Q){i:Nat}(hi:i<P.length): -1<=P.getD i 0/\P.getD i 0<i/\-1<=S.getD i 0/\(0<i->S.getD i 0<i)/\(0<i->0<=P.getD i 0)/\(i=0->P.getD i 0= -1/\S.getD i 0= -1):=by
 obtain⟨h1,h2,h3,h4⟩:=zq1 (i:=i) (fun t ht=>h.place t (by omega)) i (zt _);refine⟨h1,h2,h3,h4,fun h0=>?_,fun h0=>?_⟩
 ·exact((zfV (by omega)).1 (h.place i hi)).1.1
 ·subst h0;exact zfW.1 (h.place 0 hi)
def zeS(a b c:List V):Prop:=q_K a b c/\ClP (qj a) (qj b) (qj c)
theorem zvV{a b c:List V}(h:q_K a b c)(h2:uh a b c=true):zeS a b c:=⟨h,zf8.1 h2⟩
def zlg(P S:List Int)(i:Nat):List Int:=if i=0 then[]else(if 0<=S.getD i 0 then[S.getD i 0]else[])++[P.getD i 0]
def cpx(P S:List Int)(k n:Nat):List (List Int):=qD (fun i=>if i<k then zlg P S i else[]) n
def zx7(f:List V->List V->List V->List V)(q:List V->List V->List V->Prop):zN:=fun
 |[.agg [.slc false 2 (.int .i64 0) a0,.slc false 2 (.int .i64 0) a1,.slc false 2 (.int .i64 0) a2]]=>some ([q a0 a1 a2],.slc true 29 (.slc true 2 (.int .i64 0) []) (f a0 a1 a2))
 |_=>none
theorem zyM{P S Q:List Int}(h:ClP P S Q){k b:Nat}(hk:k<P.length):(b:Int)∈zlg P S k↔P.getD k 0=b\/S.getD k 0=b:=by
 obtain⟨l1,l2,l3,l4,l5,l6⟩:=h.low hk;rw[zlg];by_cases h0:k=0
 ·rw[if_pos h0];obtain⟨h1,h2⟩:=l6 h0;simp only[KB,false_iff];omega
 ·rw[if_neg h0];by_cases h1:0<=S.getD k 0
  ·rw[if_pos h1];simp only[yb,qr,zH,KB,or_false];omega
  ·rw[if_neg h1];simp only[qr,zH,KB,or_false];omega
structure GrN (n:Nat) (es:List (List Int)):Prop where
 n1:1<=n
 n2:n<=40
 el:es.length<=400
 eok:zr4 n none es=true
 ed:∀e∈es,zDO n e
 lt:∀e∈es,e0 e<e1 e
def zue(f:List V->List V->List V->Int->Int)(q:List V->List V->List V->Int->Prop):zN:=fun
 |[.agg [.slc false 2 (.int .i64 0) a0,.slc false 2 (.int .i64 0) a1,.slc false 2 (.int .i64 0) a2],.int .i64 a3]=>some ([q a0 a1 a2 a3],.int .i64 (f a0 a1 a2 a3))
 |_=>none
theorem zvh{P S Q:List Int}(h:ClP P S Q){k:Nat}(hk:k<P.length):(zlg P S k).Nodup:=by
 obtain⟨l1,l2,l3,l4,l5,l6⟩:=h.low hk;rw[zlg];by_cases h0:k=0
 ·rw[if_pos h0];exact zir
 ·rw[if_neg h0];by_cases h1:0<=S.getD k 0
  ·rw[if_pos h1]
   have hne:S.getD k 0≠P.getD k 0:=by
    have h5:=l5 (by omega);obtain⟨_,h3⟩:=(zfV h0).1 (h.place k hk);obtain⟨m1,m2,m3,m4,m5,m6⟩:=h.low (i:=(P.getD k 0).toNat) (by omega);by_cases hz:(P.getD k 0).toNat=0
    ·have:=m6 hz;omega
    ·have:=m4 (by omega);omega
   simp only[yb,qr,zhe,yF,KB,not_false_eq_true,zir,and_true];exact hne
  ·rw[if_neg h1];simp
def Kr(pm:List (List Int))(w:List Int):Nat->Nat->Int
 |0,a=>w.getD a 0
 |j+1,a=>if(a:Int)∈pm.getD j []then W (Kr pm w j a-w.getD j 0)else Kr pm w j a
def exL(P S Q:List Int)(a:Nat):Int:=Kr (cpx P S P.length P.length) Q P.length a
def zgj(f:List V->List V->List V->List V->List V)(q:List V->List V->List V->List V->Prop):zN:=fun
 |[.agg [.slc false 2 (.int .i64 0) a0,.slc false 2 (.int .i64 0) a1,.slc false 2 (.int .i64 0) a2],.slc false 2 (.int .i64 0) a3]=>some ([q a0 a1 a2 a3],.slc true 2 (.int .i64 0) (f a0 a1 a2 a3))
 |_=>none
def zc3(a b _ d:List V):List V:=I (qD (exL (qj a) (qj b) (qj d)) a.length)
def zrV(a b c d:List V):Prop:=zeS a b c/\d=c
theorem zfM:yI Tryz.prog 146 (zgj zc3 zrV):=by
 intro args ps r h hp;unfold zgj at h;split at h
 ·rename_i a0 a1 a2 a3;cases h;obtain⟨hqv,h3⟩:zrV a0 a1 a2 a3:=(zm.1 hp).1;subst h3;obtain⟨⟨⟨P,hP⟩,⟨S,hS⟩,⟨Q,hQ⟩⟩,hcl⟩:=id hqv;rw[hP,hS,hQ,zr,zr,zr]at hcl;have g0:V.frzs a0=a0:=by rw[hP,zD]
  have g1:V.frzs a1=a1:=by rw[hS,zD]
  have g2:V.frzs a3=a3:=by rw[hQ,zD]
  have hpl:a0.length=P.length:=by rw[hP,zj]
  have hsl:a1.length=P.length:=by rw[hS,zj,hcl.sl]
  have hql:a3.length=P.length:=by rw[hQ,zj,hcl.ql]
  have gp:∀k,a0.getD k (.int .i64 0)=.int .i64 (P.getD k 0):=fun k=>by rw[hP,zO]
  have gs:∀k,a1.getD k (.int .i64 0)=.int .i64 (S.getD k 0):=fun k=>by rw[hS,zO]
  have gq:∀k,a3.getD k (.int .i64 0)=.int .i64 (Q.getD k 0):=fun k=>by rw[hQ,zO]
  obtain⟨n,hn⟩:∃n:Int,n=P.length:=⟨_,rfl⟩;have n1:=hcl.n1;have n24:=hcl.n24;have low:=fun t ht=>hcl.low (i:=t) ht;obtain⟨pm,hpm⟩:∃pm,pm=cpx P S P.length P.length:=⟨_,rfl⟩;have hf0:zc3 a0 a1 a3 a3=I (qD (Kr pm Q P.length) P.length):=by rw[zc3,hpl,hP,hS,hQ,zr,zr,zr,hpm];rfl
  have hmem:∀j a:Nat,j<P.length->((a:Int)∈pm.getD j []↔P.getD j 0=a\/S.getD j 0=a):=fun j a hj=>by
   rw[hpm,cpx,js _ _ _ _ hj,if_pos hj];exact zyM hcl hj
  generalize uc:same=YJ;generalize yA:uf=jq;refine zC (T:=tab) (B:=[(141,uQ YJ jq)]) (Bi:=[]) [0,1,2,4,5,6] Tryz.func146 rfl rfl (by kernel_rfl) (ze rfl) mixed zP (by subst uc yA;exact(zn zeR zA)) (by subst uc yA;exact zx) (by kernel_rfl) ?_;intro L lp rr hL hr hf hlp;have Es:YJ a3=a3:=by rw[<-uc,same]
  conv=>cbv
  simp only[zo hL,sQ,g0,g1,g2,Es];refine⟨by rw[<-yA];exact⟨⟨_,hQ⟩,by omega⟩,?_⟩
  refine hlp (List V×Int) _ _ _ [1,2,5,6] (fun x=>[(1,none,.val (.slc false 2 (.int .i64 0) a3)),(2,none,.val (.box 31 (.agg [.slc false 2 (.int .i64 0) a0,.slc false 2 (.int .i64 0) a1,.slc false 2 (.int .i64 0) a3]))),(5,none,.val (.slc true 2 (.int .i64 0) x.1)),(6,none,.val (.int .i64 x.2))])
   (fun x=>1<=x.2/\x.2<=n/\x.1=I (qD (Kr pm Q x.2.toNat) P.length)) (fun x=>(n-x.2).toNat) ((a3,1)) (by subst hL;rfl) ?_ ?_
  ·refine⟨by simp,by simp only;omega,?_⟩;simp only;rw[hQ];congr 1;obtain⟨l1,l2,l3,l4,l5,l6⟩:=low 0 (by omega);apply yH;intro j;by_cases hj:j<P.length
   ·rw[uM _ _ _ hj,zg (by have:=hcl.ql;omega),show(1:Int).toNat=0+1 from rfl,Kr,if_neg (by rw[hmem 0 j (by omega)];have:=l6 rfl;omega)];simp[Kr,zd,zg (show j<Q.length by have:=hcl.ql;omega)]
   ·rw[zG (by have:=hcl.ql;omega),zG (by rw[yR];omega)]
  rintro⟨ls,j⟩ ⟨j0,j1,hJ⟩ hfx ag hag;simp only at j0 j1 hJ;have hll:ls.length=P.length:=by rw[hJ,zj,yR]
  have gls:∀k,ls.getD k (.int .i64 0)=.int .i64 ((qD (Kr pm Q j.toNat) P.length).getD k 0):=fun k=>by rw[hJ,zO]
  conv=>cbv
  simp only[zo hL,sQ,g0,g1,g2,hpl,hsl,hql,<-hn,gp,gs,gq,hll,gls];refine⟨fun h2=>?_,fun h2=>?_⟩
  ·obtain⟨jt,hjt⟩:∃jt,jt=j.toNat:=⟨_,rfl⟩;have hjn:jt<P.length:=(by omega);rw[<-hjt]at hJ;simp only[<-hjt];obtain⟨l1,l2,l3,l4,l5,l6⟩:=low jt hjn;have h5:=l5 (by omega);have h4:=l4 (by omega);have hm1:=fun a:Nat=>hmem jt a hjn;obtain⟨pp,hpp⟩:∃pp,pp=P.getD jt 0:=⟨_,rfl⟩;obtain⟨ss,hss⟩:∃ss,ss=S.getD jt 0:=⟨_,rfl⟩
   have hne:0<=ss->ss≠pp:=fun h0=>by
    have:=zvh hcl hjn;rw[zlg,if_neg (by omega),<-hss,<-hpp,if_pos h0]at this;simp only[yb,qr,zhe,yF,KB,not_false_eq_true,zir,and_true]at this;exact this
   simp only[<-hpp,<-hss]at l1 l2 l3 h4 h5 hm1 ⊢;obtain⟨p,hp9⟩:∃p,p=pp.toNat:=⟨_,rfl⟩;obtain⟨s,hs9⟩:∃s,s=ss.toNat:=⟨_,rfl⟩;have hpn:p<P.length:=(by omega);have hpc:(p:Int)=pp:=(by omega);simp only[<-hp9,<-hs9];have hgv:(qD (Kr pm Q jt) P.length).getD p 0=Kr pm Q jt p:=js _ _ _ _ hpn;rw[hgv];obtain⟨l2',hl2'⟩:∃l2',l2'=ls.set p (.int .i64 (IntKind.wrap .i64 (Kr pm Q jt p-Q.getD jt 0))):=⟨_,rfl⟩;have hl2e:l2'=I (qD (fun a=>if a=p then W (Kr pm Q jt p-Q.getD jt 0)else Kr pm Q jt a) P.length):=(by rw[hl2',hJ,zam,zsl _ _ hpn]);have hl2l:l2'.length=P.length:=(by rw[hl2e,zj,yR]);have gl2:∀k,l2'.getD k (.int .i64 0)=.int .i64 ((qD (fun a=>if a=p then W (Kr pm Q jt p-Q.getD jt 0)else Kr pm Q jt a) P.length).getD k 0):=fun k=>(by rw[hl2e,zO]);rw[<-hl2'];simp only[gl2,hl2l,zas,uV];have hwj:IntKind.wrap .i64 (j+1)=j+1:=zk (by omega) (by omega);rw[hwj];have j0':0<=j:=(by omega);have hpn2:pp<n:=(by omega);refine⟨j0',h2,j0',h2,h5,hpn2,hpn,j0',h2,h5,hpn2,hpn,j0',h2,fun h6=>?_,fun h6=>?_⟩
   ·have hsn:s<P.length:=(by omega);have hsc:(s:Int)=ss:=(by omega);have hsp:s≠p:=(by have:=hne h6;omega);have hgs:(qD (fun a=>if a=p then W (Kr pm Q jt p-Q.getD jt 0)else Kr pm Q jt a) P.length).getD s 0=Kr pm Q jt s:=(by rw[js _ _ _ _ hsn,if_neg hsp]);rw[hgs];refine⟨j0',h2,j0',h2,h6,by omega,hsn,trivial,j0',h2,h6,by omega,hsn,trivial,?_⟩;refine hag (_,j+1) ⟨by simp only;omega,by simp only;omega,?_⟩ (by simp only;omega);simp only[zL j0'];rw[<-hjt,hl2e,zam,zsl _ _ hsn];congr 1;refine qA fun a ha=>?_;rw[Kr];by_cases h8:a=s
    ·rw[if_pos h8,if_pos ((hm1 a).2 (.inr (by omega))),h8]
    ·rw[if_neg h8];by_cases h7:a=p
     ·rw[if_pos h7,if_pos ((hm1 a).2 (.inl (by omega))),h7]
     ·rw[if_neg h7,if_neg (fun h=>by rcases (hm1 a).1 h with h|h<;>omega)]
   ·refine hag (l2',j+1) ⟨by simp only;omega,by simp only;omega,?_⟩ (by simp only;omega);simp only[zL j0'];rw[<-hjt,hl2e];congr 1;refine qA fun a ha=>?_;rw[Kr];by_cases h7:a=p
    ·rw[if_pos h7,if_pos ((hm1 a).2 (.inl (by omega))),h7]
    ·rw[if_neg h7,if_neg (fun h=>by rcases (hm1 a).1 h with h|h<;>omega)]
  ·rw[hr,hf0,hJ,show j.toNat=P.length by omega]
 ·cases h
def zyd(es:List V):Prop:=∃xss,es=BB false xss/\xss.length<=2147483647/\∀xs∈xss,xs.length<=2147483647
theorem zyd.isBB{es:List V}(h:zyd es):zDE false es:=by
 obtain⟨x,h,_⟩:=h;exact⟨x,h⟩
end Go.Ax
