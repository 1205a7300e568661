import Derived.Test.YtiepfglppnhpgaaGreatB02p3
import Derived.Test.YtiepfglppnhpgaaGreatB01p3
import Derived.Shelf.SlLaysM
import Derived.Test.YtiepfglppnhpgaaGreatProg
import Derived.Sort.Row
import Derived.Shelf.SortM.Plain
import Derived.Shelf.SortM.SortNone
set_option linter.all false
set_option maxRecDepth 100000
set_option maxHeartbeats 1000000
open Bool renaming and_eq_true->zh,and_false->uu
open Int renaming mul_le_mul->Yk,mul_le_mul_of_nonneg_left->Kd,toNat_natCast->zL
open List renaming all_eq_true->yc,eq_replicate_iff->zc5,ext_getElem?->yB,getD_cons_succ->yT,getD_cons_zero->qh,getD_eq_getElem?_getD->zd,getElem?_eq_getElem->ze,getElem?_eq_none->zy,getElem?_map->zK,getElem?_set->Qj,getElem_mem->yq,length_append->zr,length_cons->zj,length_nil->zu,length_set->yj,mem_iff_getElem->qS,mem_map->jC,take_of_length_le->zB,take_succ_eq_append_getElem->zQ
open Nat renaming le_of_ble_eq_true->yh,le_refl->zw
open Option.some renaming injEq->za
open Prod.mk renaming injEq->zb
/-
 Draws:branches of Newton pairs. No conditions but those of the contracts.
-/
namespace Go.Ax
open Go.Proofs
def kX:List (List Int)->Int
 |[]=>1
 |p::l=>p.getD 1 0*kX l
structure Prs (ps:List (List Int)):Prop where
 len:ps.length<=3
 two:∀p∈ps,∃c o,p=[c,o]/\1<=c/\c<=100/\2<=o/\o<=5
 pr:kX ps<=64
theorem Prs.tail{p:List Int}{l:List (List Int)}(h:Prs (p::l)):Prs l/\∃c o,p=[c,o]/\1<=c/\c<=100/\2<=o/\o<=5/\1<=kX l/\kX (p::l)=o*kX l/\kX l<=o*kX l:=by
 have pos:∀l:List (List Int),(∀p∈l,∃c o,p=[c,o]/\1<=c/\c<=100/\2<=o/\o<=5)->1<=kX l:=by
  intro l
  induction l with
  |nil=>intro _;decide
  |cons p l ih=>
   intro h;obtain⟨c,o,rfl,_,_,h3,_⟩:=h p (by simp);have:=ih (fun q hq=>h q (by simp[hq]));simp only[kX,yT,qh];have:1*1<=o*kX l:=Yk (by omega) this (by omega) (by omega);omega
 obtain⟨c,o,rfl,h1,h2,h3,h4⟩:=h.two p (by simp);have hp:=pos l (fun q hq=>h.two q (by simp[hq]));have hm:1*kX l<=o*kX l:=Int.mul_le_mul_of_nonneg_right (by omega) (by omega);have hpr:=h.pr;simp only[kX,yT,qh]at hpr;refine⟨⟨by have:=h.len;simp at this;omega,fun q hq=>h.two q (by simp[hq]),by omega⟩,c,o,rfl,h1,h2,h3,h4,hp,rfl,by omega⟩
theorem Prs.drop{ps:List (List Int)}(h:Prs ps):∀i,Prs (ps.drop i):=by
 intro i
 induction i generalizing ps with
 |zero=>exact h
 |succ i ih=>
  cases ps with
  |nil=>simpa using h
  |cons p l=>simpa using ih h.tail.1
theorem zjR(a b:List (List Int)):kX (a++b)=kX a*kX b:=by
 induction a with
 |nil=>simp[kX]
 |cons p l ih=>simp only[List.cons_append,kX,ih,Int.mul_assoc]
theorem Prs.at{ps:List (List Int)}(h:Prs ps){i:Nat}(hi:i<ps.length):∃c o,ps.getD i []=[c,o]/\1<=c/\c<=100/\2<=o/\o<=5/\ps.drop i=[c,o]::ps.drop (i+1)/\1<=kX (ps.drop (i+1))/\kX (ps.drop (i+1))<=64/\kX (ps.drop i)=o*kX (ps.drop (i+1))/\kX (ps.drop i)<=64/\
 kX (ps.take (i+1))=kX (ps.take i)*o:=by
 have hd:ps.drop i=ps.getD i []::ps.drop (i+1):=by rw[YF [] hi]
 have hi':=h.drop i;have h6:=hi'.pr;rw[hd]at hi';obtain⟨h1,c,o,h2,h3,h4,h5,h7,h8,h9,h10⟩:=hi'.tail;refine⟨c,o,h2,h3,h4,h5,h7,by rw[hd,h2],h8,h1.pr,by rw[hd,h9],h6,?_⟩;rw[zQ hi,zjR];have:ps[i]=[c,o]:=by rw[<-h2,zd,ze hi];rfl
 rw[this];simp[kX]
theorem Prs.pos{ps:List (List Int)}(h:Prs ps):1<=kX ps:=by
 cases ps with
 |nil=>decide
 |cons p l=>
  obtain⟨_,c,o,_,_,_,_,_,h1,h2,h3⟩:=h.tail;omega
theorem Prs.take_le{ps:List (List Int)}(h:Prs ps):∀i,i<=ps.length->1<=kX (ps.take i)/\kX (ps.take i)<=64:=by
 intro i hi;have h1:kX (ps.take i)*kX (ps.drop i)=kX ps:=by rw[<-zjR,List.take_append_drop]
 have h2:=(h.drop i).pos;have h3:=h.pr;have h4:=h.pos
 have h5:1<=kX (ps.take i):=by
  by_cases hc:1<=kX (ps.take i)
  ·exact hc
  ·exfalso;have:kX (ps.take i)*kX (ps.drop i)<=0:=Int.mul_nonpos_of_nonpos_of_nonneg (by omega) (by omega);omega
 refine⟨h5,?_⟩;have:kX (ps.take i)*1<=kX (ps.take i)*kX (ps.drop i):=Kd h2 (by omega);omega
def zl3(a:List V):Prop:=∃ps,a=II false ps/\Prs ps
def zyN(f:List V->Int)(q:List V->Prop):zO:=fun
 |[.slc false 24 (.slc false 2 (.int .i64 0) []) a0]=>some ([q a0],.int .i64 (f a0))
 |_=>none
def zmg(a:List V):Int:=kX (zbR a)
theorem zoi:yM Tryz.prog 146 (zyN zmg zl3):=by
 intro args ps r h hp;unfold zyN at h;split at h
 ·rename_i a0;cases h;obtain⟨ps,hps,hP⟩:zl3 a0:=(zp.1 hp).1;obtain⟨n,hn⟩:=qEI a0.length;have hpl:a0.length=ps.length:=by rw[hps,ye]
  have hlen:=hP.len;have gx:∀k,a0.getD k (.slc false 2 (.int .i64 0) [])=.slc false 2 (.int .i64 0) (I (ps.getD k [])):=fun k=>by rw[hps,qu]
  have hf0:zmg a0=kX ps:=by rw[zmg,hps,qB]
  generalize yG:yn=qd;refine zH (B:=[(71,qM qd)]) (Bi:=[]) [0,2,3,4] Tryz.func146 rfl rfl (by subst yG;exact(zm QG zF)) zA ?_;intro L lp rr hL hr hf hlp
  conv=>cbv
  simp only[zo hL,sQ,<-hn];refine⟨fun h=>by omega,fun _=>?_⟩
  refine hlp (Int×Int) _ _ _ [0,3,4] (fun x=>[(0,none,.val (.slc false 24 (.slc false 2 (.int .i64 0) []) a0)),(wJ0 3 x.1),(wJ0 4 x.2)])
   (fun x=>0<=x.2/\x.2<=n/\x.1=kX (ps.take x.2.toNat)) (fun x=>(n-x.2).toNat) ((1,0)) (by subst hL;rfl) ?_ ?_
  ·exact⟨by simp,by simp only;omega,rfl⟩
  rintro⟨v,i⟩ ⟨i0,i1,hI⟩ hfx ag hag;simp only at i0 i1 hI
  conv=>cbv
  simp only[zo hL,sQ,<-hn,gx];refine⟨fun h2=>?_,fun h2=>?_⟩
  ·obtain⟨c,o,e1,e2,e3,e4,e5,e6,e7,e8,e9,e10,e11⟩:=hP.at (i:=i.toNat) (by omega);have hb:=hP.take_le (i.toNat+1) (by omega);have r1:qd c 1 2000=true:=(by rw[<-yG];simp[yn];omega);have r2:qd o 1 2000=true:=(by rw[<-yG];simp[yn];omega);have w1:IntKind.wrap .i64 (v*o)=v*o:=zn (by rw[hI,<-e11];omega) (by rw[hI,<-e11];omega);have e12:v*o=kX (ps.take (i.toNat+1)):=(by rw[e11,hI]);have l2:((0+1+1:Nat):Int)=2:=rfl;have g0:[c,o].getD 0 0=c:=rfl;have g1:[c,o].getD 1 0=o:=rfl;simp only[e1,zg,zj,zu,zG,uy,w1,l2,g0,g1,r1,r2,Bool.true_eq_false,not_true,or_self,false_imp_iff,true_imp_iff,and_self,true_and]
   (repeat' first|(exact yL _)|(exact jY rfl)|(exact qG _)|(apply And.intro)|(intro _))<;>(try first|exact True.intro|omega|rfl|(simp only[zj,zu,zg];omega))
   ·rw[zn (n:=i+1)];exact hag (_,i+1) ⟨by simp only;omega,by simp only;omega,by simp only;rw[show(i+1).toNat=i.toNat+1 by omega,e12]⟩ (by simp only;omega)
  ·rw[hr,hf0,hI,show i.toNat=ps.length by omega,List.take_length]
 ·cases h
theorem zok:yM Tryz.prog 147 (zc2 Kw zei):=by
 intro args ps r h hp;unfold zc2 at h;split at h
 ·rename_i a0 a1;cases h;obtain⟨⟨xs,hxs,hl,hrl⟩,⟨ys,hys⟩⟩:zei a0 a1:=(zp.1 hp).1;obtain⟨n,hn⟩:=qEI a0.length;obtain⟨m,hm⟩:=qEI a1.length;have hxl:a0.length=xs.length:=by rw[hxs,ye]
  have hyl:a1.length=ys.length:=by rw[hys,ye]
  have gx:∀k,a0.getD k (.slc false 2 (.int .i64 0) [])=.slc false 2 (.int .i64 0) (I (xs.getD k [])):=fun k=>by rw[hxs,qu]
  have gy:∀k,a1.getD k (.slc false 2 (.int .i64 0) [])=.slc false 2 (.int .i64 0) (I (ys.getD k [])):=fun k=>by rw[hys,qu]
  have hf0:Kw a0 a1=decide (xs=ys):=by rw[Kw,hxs,hys,qB,qB]
  generalize ZP:Zh=JW,JE:zjM=zck;refine zH (B:=[(122,YH JW zck)]) (Bi:=[]) [0,1,4,5] Tryz.func147 rfl rfl (by subst ZP JE;exact(zm ziv zF)) zA ?_;intro L lp rr hL hr hf hlp
  conv=>cbv
  simp only[zo hL,sQ,<-hn,<-hm];refine⟨fun h=>?_,fun h=>?_⟩
  ·rw[hr,hf0,decide_eq_false (fun e=>h (by rw[hn,hm,hxl,hyl,e]))]
  have hlen:xs.length=ys.length:=by omega
  refine hlp (Int) _ _ _ [0,1,5] (fun x=>[(0,none,.val (.slc false 24 (.slc false 2 (.int .i64 0) []) a0)),(1,none,.val (.slc false 24 (.slc false 2 (.int .i64 0) []) a1)),(wJ0 5 x)])
   (fun x=>0<=x/\x<=n/\xs.take x.toNat=ys.take x.toNat) (fun x=>(n-x).toNat) (0) (by subst hL;rfl) ?_ ?_
  ·exact⟨by simp,by omega,rfl⟩
  rintro i ⟨i0,i1,hI⟩ hfx ag hag;have Ef:∀u v:List Int,JW (I u) (I v)=decide (u=v):=fun u v=>by rw[<-ZP,Zh,zl,zl]
  have Ql:∀u v:List Int,zck (I u) (I v):=fun u v=>by rw[<-JE];exact⟨⟨_,rfl⟩,⟨_,rfl⟩⟩
  conv=>cbv
  simp only[zo hL,sQ,<-hn,<-hm,gx,gy,Ef];refine⟨fun h2=>?_,fun h2=>?_⟩
  ·have h4:i.toNat<xs.length:=(by omega);have h5:i.toNat<ys.length:=(by omega);refine⟨i0,h2,i0,by omega,Ql _ _,fun h3=>?_,fun h3=>?_⟩
   ·rw[hr,hf0,decide_eq_false (fun e=>h3 (by rw[e]))]
   ·rw[zn (n:=i+1)];refine hag (i+1) ⟨by omega,by omega,?_⟩ (by omega);rw[zd,ze h4,zd,ze h5]at h3;rw[show(i+1).toNat=i.toNat+1 by omega,zQ h4,zQ h5,hI];exact congrArg (fun z=>List.take i.toNat ys++[z]) h3
  ·have h4:xs=ys:=(by rwa [zB (by omega),zB (by omega)]at hI);rw[hr,hf0,decide_eq_true h4]
 ·cases h
def zoD(xs:List Int)(i:Nat):List Int:=[W ((if i=0 then xs.getD (i+1) 0 else W (xs.getD (i+1) 0-xs.getD i 0)).tdiv ((dv xs).getD (i+1) 0)),W (((dv xs).getD i 0).tdiv ((dv xs).getD (i+1) 0))]
def nwt(xs:List Int):List (List Int):=yQ (zoD xs) (xs.length-1)
def zyS(f:List V->List V)(q:List V->Prop):zO:=fun
 |[.agg [.slc false 2 (.int .i64 0) a0]]=>some ([q a0],.slc true 24 (.slc true 2 (.int .i64 0) []) (f a0))
 |_=>none
def zo0(a:List V):List V:=II true (nwt (yD a))
theorem znl:yM Tryz.prog 148 (zyS zo0 Qt):=by
 intro args ps r h hp;unfold zyS at h;split at h
 ·rename_i a0;cases h;have hq:Qt a0:=(zp.1 hp).1;have hqP:=hq.isP;obtain⟨xs,hxs,hb⟩:=hq;have g1:V.frzs a0=a0:=by rw[hxs,zt]
  have e2:zo0 a0=II true (nwt xs):=by rw[zo0,hxs,zl]
  have e3:Kj a0=I (dv xs):=by rw[Kj,hxs,zl]
  have gx:∀k,a0.getD k (.int .i64 0)=.int .i64 (xs.getD k 0):=fun k=>by rw[hxs,zG]
  obtain⟨ds,hds⟩:=qEx (I (dv xs));have gd:∀k,ds.getD k (.int .i64 0)=.int .i64 ((dv xs).getD k 0):=fun k=>by rw[hds,zG]
  obtain⟨n,hn⟩:=qEI a0.length;obtain⟨m,hm⟩:=qEI ds.length;have hxl:a0.length=xs.length:=by rw[hxs,zg]
  have hdl:ds.length=xs.length:=by rw[hds,zg,hb.dlen]
  have hmn:m=n:=by omega
  have h1:=hb.len;have h2:=hb.pos;generalize Jq:Kj=zaw,zps:IsP=zy2;refine zH (B:=[(142,zr6 zaw zy2)]) (Bi:=[]) [2000008048,0,1,2,3,4,5,6] Tryz.func148 rfl rfl (by subst Jq zps;exact(zm zeX zF)) zA ?_;intro L lp rr hL hr hf hlp
  conv=>cbv
  simp only[zo hL,sQ,g1];subst Jq zps;simp only[e3,<-hds];refine⟨hqP,?_⟩
  refine hlp (List V×Int) _ _ _ [1,3,4,5] (fun x=>[(wJ8 1 a0),(wJ2 3 ds),(4,none,.val (.slc true 24 (.slc true 2 (.int .i64 0) []) x.1)),(wJ0 5 x.2)])
   (fun x=>1<=x.2/\x.2<=n/\x.1=II true (yQ (zoD xs) (x.2-1).toNat)) (fun x=>(n-x.2).toNat) (([],1)) (by subst hL;rfl) ?_ ?_
  ·exact⟨by simp,by simp only;omega,rfl⟩
  rintro⟨es,i⟩ ⟨i0,i1,hes⟩ hfx ag hag;simp only at i0 i1 hes;obtain⟨el,hel0⟩:=qEI es.length;have hel:el=i-1:=by rw[hel0,hes,ye,yi];omega
  have w1:IntKind.wrap .i64 (i-1)=i-1:=zn (by omega) (by omega)
  conv=>cbv
  simp only[zo hL,sQ,<-hn,<-hm,<-hel0,gx,gd,w1]
  have p1:=hb.dpos i.toNat
  have fin:∀v:Int,v=(if(i-1).toNat=0 then xs.getD ((i-1).toNat+1) 0 else W (xs.getD ((i-1).toNat+1) 0-xs.getD (i-1).toNat 0))->II true (yQ (zoD xs) (i-1).toNat)++[V.slc true 2 (.int .i64 0) [.int .i64 (IntKind.wrap .i64 (v.tdiv ((dv xs).getD i.toNat 0))),.int .i64 (IntKind.wrap .i64 (((dv xs).getD (i-1).toNat 0).tdiv ((dv xs).getD i.toNat 0)))]]=II true (yQ (zoD xs) (i+1-1).toNat):=by
   intro v hv;obtain⟨k,hk⟩:∃k:Nat,i=k+1:=⟨(i-1).toNat,by omega⟩;subst hk;rw[show((k:Int)+1+1-1).toNat=k+1 by omega,QF,Zv];rw[show((k:Int)+1-1).toNat=k by omega]at hv;rw[show((k:Int)+1).toNat=k+1 by omega,show((k:Int)+1-1).toNat=k by omega];rw[hv];rfl
  have wi:IntKind.wrap .i64 (i+1)=i+1:=zn (by omega) (by omega);refine⟨fun h=>?_,fun h=>?_⟩
  ·(repeat' first|(exact yL _)|(exact jY rfl)|(exact qG _)|(apply And.intro)|(intro _))<;>(try first|exact True.intro|omega|rfl|(simp only[zj,zu,zg];omega))
   ·rw[wi,hes];exact hag (_,i+1) ⟨by simp only;omega,by simp only;omega,fin _ (by rw[if_neg (by omega),show(i-1).toNat+1=i.toNat by omega])⟩ (by simp only;omega)
   ·rw[wi,hes];exact hag (_,i+1) ⟨by simp only;omega,by simp only;omega,fin _ (by rw[if_pos (by omega),show(i-1).toNat+1=i.toNat by omega])⟩ (by simp only;omega)
  ·rw[hr,e2,hes,show(i-1).toNat=xs.length-1 by omega];rfl
 ·cases h
def zhQ(la:Int):List (List Int)->List Int
 |[]=>[]
 |p::l=>(la+p.getD 0 0*kX l)::zhQ (la+p.getD 0 0*kX l) l
def Ji(ps:List (List Int)):List Int:=kX ps::zhQ 0 ps
theorem zhP:∀(l:List (List Int)) (la:Int),(zhQ la l).length=l.length
 |[],_=>rfl
 |_::l,_=>by simp[zhQ,zhP l]
def okT(ps:List (List Int)):Bool:=uE (Ji ps)&&decide (nwt (Ji ps)=ps)
def zuj(f:List V->List V×Int)(q:List V->Prop):zO:=fun
 |[.slc false 24 (.slc false 2 (.int .i64 0) []) a0]=>some ([q a0],.tup [.agg [.slc true 2 (.int .i64 0) ((f a0).1)],.int .i64 ((f a0).2)])
 |_=>none
def zo5(a:List V):List V×Int:=if okT (zbR a)=true then(I (Ji (zbR a)),0)else([],5)
theorem ziy:yM Tryz.prog 130 (zuj zo5 zl3):=by
 intro args ps r h hp;unfold zuj at h;split at h
 ·rename_i a0;cases h;have hq:zl3 a0:=(zp.1 hp).1;have hq0:=hq;obtain⟨ps,hps,hP⟩:=hq;obtain⟨n,hn⟩:=qEI a0.length;have hpl:a0.length=ps.length:=by rw[hps,ye]
  have hlen:=hP.len;have gx:∀k,a0.getD k (.slc false 2 (.int .i64 0) [])=.slc false 2 (.int .i64 0) (I (ps.getD k [])):=fun k=>by rw[hps,qu]
  have hfr:V.frzs a0=a0:=by rw[hps,jy]
  have hf0:zo5 a0=if okT ps=true then(I (Ji ps),0)else([],5):=by rw[zo5,hps,qB]
  obtain⟨N,hN⟩:=qEI (kX ps);have e1:zmg a0=N:=by rw[zmg,hps,qB,hN]
  have N1:=hP.pos;have N2:=hP.pr;generalize zw9:zmg=zEC,zf7:zl3=zjp,ji:kA=kw,yu:qU=yP,zxc:zo0=zxB,Jb:Qt=zd7,zfb:Kw=zh0,ze9:zei=zlS;refine zH (B:=[(146,zyN zEC zjp),(73,YY kw yP),(148,zyS zxB zd7),(147,zc2 zh0 zlS)]) (Bi:=[]) [2000011653,0,2,3,4,5,6,7,8] Tryz.func130 rfl rfl (by subst zw9 zf7 ji yu zxc Jb zfb ze9;exact(zm zoi (zm zaQ (zm znl (zm zok zF))))) zA ?_;intro L lp rr hL hr hf hlp
  conv=>cbv
  simp only[zo hL,sQ,hfr];subst zw9;simp only[e1];have qF:zjp a0:=by rw[<-zf7];exact hq0
  refine⟨qF,fun h=>by omega,fun _=>?_⟩
  refine hlp (List V×Int×Int×Int) _ _ _ [0,2,5,6,7,8] (fun x=>[(0,none,.val (.slc false 24 (.slc false 2 (.int .i64 0) []) a0)),(wJ7 2),(wJ9 5 x.1),(wJ0 6 x.2.1),(wJ0 7 x.2.2.1),(wJ0 8 x.2.2.2)])
   (fun x=>0<=x.2.2.2/\x.2.2.2<=n/\x.2.1=kX (ps.drop x.2.2.2.toNat)/\0<=x.2.2.1/\x.2.2.1<=6400*x.2.2.2/\∃pre:List Int,x.1=I (N::pre)/\pre.length=x.2.2.2.toNat/\pre++zhQ x.2.2.1 (ps.drop x.2.2.2.toNat)=zhQ 0 ps) (fun x=>(n-x.2.2.2).toNat) (([.int .i64 N],N,0,0)) (by subst hL;rfl) ?_ ?_
  ·exact⟨by simp,by simp only;omega,hN,by simp,by simp,[],rfl,rfl,rfl⟩
  rintro⟨es,e,la,i⟩ ⟨i0,i1,he,l0,l1,pre,h1,h2,h3⟩ hfx ag hag;simp only at i0 i1 he l0 l1 h1 h2 h3;obtain⟨el,hel0⟩:=qEI es.length;have hel:el=i+1:=by rw[hel0,h1,zg,zj];omega
  conv=>cbv
  simp only[zo hL,sQ,<-hn,<-hel0,gx];refine⟨fun h=>?_,fun h=>?_⟩
  ·obtain⟨c,o,e1,e2,e3,e4,e5,e6,e7,e8,e9,e10,e11⟩:=hP.at (i:=i.toNat) (by omega);have g0:[c,o].getD 0 0=c:=rfl;have g1:[c,o].getD 1 0=o:=rfl;have hed:e.tdiv o=kX (ps.drop (i.toNat+1)):=(by rw[he,e9,Int.mul_tdiv_cancel_left _ (by omega)]);obtain⟨P,hPP⟩:=qEI (kX (ps.drop (i.toNat+1)));rw[<-hPP]at hed e7 e8;have wd:IntKind.wrap .i64 P=P:=zn (by omega) (by omega);have c0:0<=c*P:=Int.mul_nonneg (by omega) (by omega);have c1:c*P<=100*64:=Yk (by omega) (by omega) (by omega) (by omega);have wm:IntKind.wrap .i64 (c*P)=c*P:=zn (by omega) (by omega);have wl:IntKind.wrap .i64 (la+c*P)=la+c*P:=zn (by omega) (by omega);have wi:IntKind.wrap .i64 (i+1)=i+1:=zn (by omega) (by omega);simp only[e1,zg,zj,zu,g0,g1,hed,wd,wm,wl,wi]
   (repeat' first|(exact yL _)|(exact jY rfl)|(exact qG _)|(apply And.intro)|(intro _))<;>(try first|exact True.intro|omega|rfl|(simp only[zj,zu,zg];omega))
   refine hag (_,_,_,i+1) ⟨by simp only;omega,by simp only;omega,by simp only;rw[hPP,show(i+1).toNat=i.toNat+1 by omega],by simp only;omega,by simp only;omega,pre++[la+c*P],by simp only;rw[h1];simp[I],by simp only[zr,zj,zu];omega,?_⟩ (by simp only;omega);simp only;rw[show(i+1).toNat=i.toNat+1 by omega,List.append_assoc,<-h3,e6];simp only[zhQ,qh,List.singleton_append,<-hPP]
  ·have hes:es=I (Ji ps):=by
    rw[List.drop_of_length_le (by omega)]at h3;simp only[zhQ,List.append_nil]at h3;rw[h1,h3,hN];rfl
   have Eb:kw (I (Ji ps))=uE (Ji ps):=(by rw[<-ji,kA,zl]);have En:zxB (I (Ji ps))=II true (nwt (Ji ps)):=(by rw[<-zxc,zo0,zl]);have El:zh0 (II false (nwt (Ji ps))) a0=decide (nwt (Ji ps)=ps):=(by rw[<-zfb,Kw,qB,hps,qB]);have tl:(Ji ps).length<=4:=(by simp only[Ji,zj,zhP];omega);rw[hes];simp only[zt,Eb,En,jy,hfr,El];refine⟨by rw[<-yu];exact⟨⟨_,rfl⟩,by rw[zg];omega⟩,fun h1=>by rw[<-Jb];exact⟨_,rfl,zaK h1⟩,fun _=>zuL _,fun _=>?_,fun h1=>?_,fun h1=>?_⟩
   ·rw[<-ze9];refine⟨⟨_,rfl,by rw[nwt,yi];omega,fun r hr=>?_⟩,_,hps⟩;simp only[nwt,yQ,jC]at hr;obtain⟨k,_,rfl⟩:=hr;simp[zoD]
   ·rw[hr,hf0,if_neg];intro h2;simp only[okT,zh]at h2;rcases h1 with h1|h1
    ·rw[h1]at h2;cases h2.1
    ·rw[h1]at h2;cases h2.2
   ·rw[hr,hf0,if_pos];simp only[okT,zh];exact h1
 ·cases h
def cpU(o:Int):Nat->Int->Int
 |0,c=>c
 |k+1,c=>if jq c o>1 then cpU o k (c+1)else c
def cpT(c o:Int):Int:=c+(1-c)%o
def cpo(c o:Int):Int:=cpU o ((cpT c o-c).toNat+1) c
theorem zo7{c o:Int}(ho:2<=o):c<=cpT c o/\cpT c o<c+o:=by
 have h1:=Int.emod_nonneg (1-c) (show o≠0 by omega);have h2:=Int.emod_lt_of_pos (1-c) (show 0<o by omega);rw[cpT];omega
theorem zwJ{c o:Int}(hc:1<=c)(ho:2<=o):jq (cpT c o) o=1:=by
 have h0:=(zo7 (c:=c) ho).1
 have h1:cpT c o%o=1:=by
  rw[cpT,Int.add_emod,Int.emod_emod,<-Int.add_emod,show c+(1-c)=1 by omega,Int.emod_eq_of_lt (by omega) (by omega)]
 rw[ztC (by omega) (by omega)];obtain⟨t,ht⟩:∃t:Nat,cpT c o=t:=⟨(cpT c o).toNat,by omega⟩;obtain⟨p,hp⟩:∃p:Nat,o=p:=⟨o.toNat,by omega⟩;rw[ht,hp]at h1;rw[ht,hp,zL,zL,Nat.gcd_comm,Nat.gcd_rec];have:t%p=1:=by exact_mod_cast h1
 rw[this,Nat.gcd_one_left];rfl
theorem zAg(o:Int):∀(k:Nat) (c:Int),c<=cpU o k c/\cpU o k c<=c+k
 |0,c=>by simp[cpU]
 |k+1,c=>by
  have:=zAg o k (c+1);simp only[cpU];split<;>omega
theorem zAe{c o:Int}(ho:2<=o):c<=cpo c o/\cpo c o<=c+o:=by
 have h1:=zAg o ((cpT c o-c).toNat+1) c;have h2:=zo7 (c:=c) ho;rw[cpo];omega
abbrev ja(es:List V)(σ:Int×Int)(n:Int):Int:=qI es σ.1 σ.2 n
abbrev yN(es:List V)(σ:Int×Int)(n:Int):Int×Int:=(qT es σ.1 σ.2 n,qY es σ.1 σ.2 n)
abbrev uz(es:List V)(σ:Int×Int)(l:List Int):Int:=kN es σ.1 σ.2 (I l)
abbrev QI(es:List V)(σ:Int×Int)(l:List Int):Int×Int:=(uq es σ.1 σ.2 (I l),uo es σ.1 σ.2 (I l))
theorem zdu{es:List V}{σ:Int×Int}{n:Int}(hq:zR es σ.1 σ.2)(hn:1<=n):0<=ja es σ n/\ja es σ n<n:=ZJ hq hn
theorem jS{es:List V}{σ:Int×Int}{n:Int}(hq:zR es σ.1 σ.2):zR es (yN es σ n).1 (yN es σ n).2:=js hq
theorem zbu{es:List V}{σ:Int×Int}{l:List Int}(hq:zR es σ.1 σ.2):zR es (QI es σ l).1 (QI es σ l).2:=js hq
theorem zdt{es:List V}{σ:Int×Int}{l:List Int}(hq:zR es σ.1 σ.2)(hl:l≠[]):uz es σ l∈l:=by
 have h1:1<=(l.length:Int):=by
  cases l with
  |nil=>exact absurd rfl hl
  |cons x l=>simp only[zj];omega
 have h2:=ZJ (n:=(I l).length) hq (by rw[zg];exact h1);rw[uz,kN,zl];rw[zg]at h2 ⊢;have h3:(qI es σ.1 σ.2 l.length).toNat<l.length:=by omega
 rw[zd,ze h3];exact yq h3
abbrev SmS:Type:=List (List Int)×Int×Int×Int
def smR(es:List V)(most:Int)(s:SmS):SmS:=
 let σ0:=(s.2.2.1,s.2.2.2)
 let own:=2+ja es σ0 4
 let σ1:=yN es σ0 4
 if most<s.2.1*own then(s.1,s.2.1,σ1)else
 let m:=uz es σ1 [4,8,12]
 let σ2:=QI es σ1 [4,8,12]
 let c0:=1+ja es σ2 m
 let σ3:=yN es σ2 m
 let c1:=cpo c0 own
 let c2:=if s.1.length=0 then cpo (c1+own) own else c1
 (s.1++[[c2,own]],s.2.1*own,σ3)
def smN(es:List V)(most:Int):Nat->SmS->SmS
 |0,s=>s
 |k+1,s=>smN es most k (smR es most s)
structure SmOk (es:List V) (most:Int) (s:SmS) (k:Nat):Prop where
 len:s.1.length+k<=3
 two:∀p∈s.1,∃c o,p=[c,o]/\1<=c/\c<=100/\2<=o/\o<=5
 pr:kX s.1=s.2.1
 n1:1<=s.2.1
 n2:s.2.1<=most
 src:zR es s.2.2.1 s.2.2.2
theorem zBP(l:List (List Int))(c o:Int):kX (l++[[c,o]])=kX l*o:=by
 rw[zjR];simp[kX]
theorem SmOk.round{es:List V}{most:Int}{s:SmS}{k:Nat}(h:SmOk es most s (k+1)):SmOk es most (smR es most s) k:=by
 obtain⟨ps,n,a,b⟩:=s;obtain⟨h1,h2,h3,h4,h5,h6⟩:=h;simp only at h1 h2 h3 h4 h5 h6;have ho:=zdu (σ:=(a,b)) (n:=4) h6 (by decide);have hs:=jS (σ:=(a,b)) (n:=4) h6;unfold smR;simp only;split
 ·exact⟨by simp only;omega,h2,h3,h4,h5,hs⟩
 ·rename_i hm;have hs2:=zbu (σ:=yN es (a,b) 4) (l:=[4,8,12]) hs;have hp:=zdt (σ:=yN es (a,b) 4) (l:=[4,8,12]) hs (by simp);obtain⟨m,hmm⟩:=qEx (uz es (yN es (a,b) 4) [4,8,12]);rw[<-hmm]at hp ⊢;have hm2:1<=m/\m<=12:=by simp at hp;omega
  have hc:=zdu (σ:=QI es (yN es (a,b) 4) [4,8,12]) (n:=m) hs2 (by omega);have hs3:=jS (σ:=QI es (yN es (a,b) 4) [4,8,12]) (n:=m) hs2;obtain⟨o,hoo⟩:=qEx (2+ja es (a,b) 4);obtain⟨c0,hc0⟩:=qEx (1+ja es (QI es (yN es (a,b) 4) [4,8,12]) m);rw[<-hoo]at hm ⊢;rw[<-hc0];have l1:=zAe (c:=c0) (o:=o) (by omega);have l2:=zAe (c:=cpo c0 o+o) (o:=o) (by omega);have hno:1*1<=n*o:=Yk (by omega) (by omega) (by omega) (by omega);refine⟨by simp only[zr,zj,zu];omega,fun p hp=>?_,by simp only;rw[zBP,h3],by simp only;omega,by simp only;omega,hs3⟩;rcases List.mem_append.1 hp with hp|hp
  ·exact h2 p hp
  ·simp only[List.mem_singleton]at hp;refine⟨_,_,hp,?_⟩;split<;>omega
theorem SmOk.run{es:List V}{most:Int}:∀{k:Nat} {s:SmS},SmOk es most s k->SmOk es most (smN es most k s) 0
 |0,_,h=>h
 |k+1,_,h=>h.round.run
theorem SmOk.prs{es:List V}{most:Int}{s:SmS}{k:Nat}(h:SmOk es most s k)(hm:most<=64):Prs s.1:=⟨by have:=h.len;omega,h.two,by have:=h.pr;have:=h.n2;omega⟩
abbrev zh3(es:List V)(σ:Int×Int):List Int×Int×Int:=([uz es σ [1,2,3]],QI es σ [1,2,3])
def smF(es:List V)(a h most term:Int):List Int×Int×Int:=
 let s:=smN es most (1+ja es (a,h) 3).toNat ([],1,yN es (a,h) 3)
 if okT s.1=true then
  if term<(Ji s.1).getD s.1.length 0 then zh3 es s.2.2
  else if ja es s.2.2 12=0 then zh3 es (yN es s.2.2 12)
  else(Ji s.1,yN es s.2.2 12)
 else zh3 es s.2.2
def zls(es:List V)(a h most term:Int):List V×Int×Int:=(I (smF es a h most term).1,(smF es a h most term).2)
def znr(es:List V)(a h most _:Int):Prop:=zR es a h/\1<=most/\most<=64
def zrZ(f:List V->Int->Int->Int->Int->List V×Int×Int)(q:List V->Int->Int->Int->Int->Prop):kj:=fun
 |[.box 91 (.agg [.slc false 5 (.int .u8 0) a0,.int .i64 a1,.int .u64 a2]),.int .i64 a3,.int .i64 a4]=>some ([q a0 a1 a2 a3 a4],.agg [.slc true 2 (.int .i64 0) (f a0 a1 a2 a3 a4).1],.box 91 (.agg [.slc false 5 (.int .u8 0) a0,.int .i64 (f a0 a1 a2 a3 a4).2.1,.int .u64 (f a0 a1 a2 a3 a4).2.2]))
 |_=>none
theorem zhq:zbX Tryz.prog 118 1000 (zrZ zls znr):=by
 intro args ps r y h hp;unfold zrZ at h;split at h
 ·rename_i a0 a1 a2 a3 a4;cases h;obtain⟨hq,m1,m2⟩:znr a0 a1 a2 a3 a4:=(zp.1 hp).1;obtain⟨s0,hs0⟩:∃s0:SmS,s0=([],1,yN a0 (a1,a2) 3):=⟨_,rfl⟩;have hk:=zdu (σ:=(a1,a2)) (n:=3) hq (by decide);obtain⟨k0,hk0⟩:=qEI (1+ja a0 (a1,a2) 3);obtain⟨sE,hsE⟩:∃sE:SmS,sE=smN a0 a3 k0.toNat s0:=⟨_,rfl⟩
  have ok0:SmOk a0 a3 s0 k0.toNat:=by
   rw[hs0];exact⟨by simp only[zu];omega,by simp,rfl,by simp,by simp only;omega,jS (σ:=(a1,a2)) hq⟩
  generalize yx:qI=yY,yw:qT=yX,yv:qY=yW,qg:zcA=jE,qf:kN=jz,qk:uq=jM,qj:uo=jL,qP:zay=kx,YK:jq=zbq,uV:zgW=JX,zqD:zo5=zxK,zf7:zl3=zjp;refine zcY (T:=tab) (B:=[(104,zdO zbq JX),(130,zuj zxK zjp)]) (Bi:=[(26,1000,false,Ki yY yX yW jE),(29,1000,false,zaF jz jM jL kx)]) 0 [2000007832,2000018888,0,1,2,6,7,8,9,10,11,12,13] Tryz.func118 rfl rfl (by kernel_rfl) (yh rfl) mixed Zy (by subst yx yw yv qg qf qk qj qP YK uV zqD zf7;exact(zm zfi (zm ziy zF))) (by subst yx yw yv qg qf qk qj qP YK uV zqD zf7;exact(yE jH (yE kz zA))) (by kernel_rfl) rfl rfl zah rfl ?_;intro L lp rr yy hL hr hy hf hlp
  conv=>cbv
  obtain⟨b1,hb1⟩:=qEx (qT a0 a1 a2 3);obtain⟨b2,hb2⟩:=qEx (qY a0 a1 a2 3);have e0:yY a0 a1 a2 3=k0-1:=by rw[<-yx];show ja a0 (a1,a2) 3=_;omega
  have e1:yX a0 a1 a2 3=b1:=by rw[<-yw,hb1]
  have e2:yW a0 a1 a2 3=b2:=by rw[<-yv,hb2]
  have Qn:∀a h n,zR a0 a h->jE a0 a h n:=fun a h n hs=>by rw[<-qg];exact hs
  have hs0':s0=([],1,b1,b2):=by rw[hs0,hb1,hb2]
  simp only[zo hL,sQ,true_and,e0,e1,e2,show 1+(k0-1)=k0 by omega,zn (n:=k0)];refine⟨Qn _ _ _ hq,?_⟩
  refine hlp (List V×Int×Int×Int×Int) _ _ _ [0,1,2,6,7,8,9] (fun x=>[(wJ5 0 a0 x.2.2.1 x.2.2.2.1),(wJ0 1 a3),(wJ0 2 a4),(wJ7 6),(7,none,.val (.slc true 24 (.slc true 2 (.int .i64 0) []) x.1)),(wJ0 8 x.2.1),(wJ0 9 x.2.2.2.2)])
   (fun x=>0<=x.2.2.2.2/\∃ps,x.1=II true ps/\SmOk a0 a3 (ps,x.2.1,x.2.2.1,x.2.2.2.1) x.2.2.2.2.toNat/\smN a0 a3 x.2.2.2.2.toNat (ps,x.2.1,x.2.2.1,x.2.2.2.1)=sE) (fun x=>x.2.2.2.2.toNat) (([],1,b1,b2,k0)) (by subst hL;rfl) ?_ ?_
  ·exact⟨by simp only;omega,[],rfl,by simp only;rw[<-hs0'];exact ok0,by simp only;rw[<-hs0',hsE]⟩
  rintro⟨es,n,a,h,k⟩ ⟨i0,ps,hes,hok,hsm⟩ hfx ag hag;simp only at i0 hes hok hsm;obtain⟨pl,hpl⟩:=qEI es.length;have hpl2:pl=ps.length:=by rw[hpl,hes,ye]
  have hsrc:zR a0 a h:=hok.src;obtain⟨o,ho⟩:=qEx (2+ja a0 (a,h) 4);obtain⟨A1,hA1⟩:=qEx (qT a0 a h 4);obtain⟨H1,hH1⟩:=qEx (qY a0 a h 4);obtain⟨m,hm⟩:=qEx (kN a0 A1 H1 (I [4,8,12]));obtain⟨A2,hA2⟩:=qEx (uq a0 A1 H1 (I [4,8,12]));obtain⟨H2,hH2⟩:=qEx (uo a0 A1 H1 (I [4,8,12]));obtain⟨c0,hc0⟩:=qEx (1+qI a0 A2 H2 m);obtain⟨A3,hA3⟩:=qEx (qT a0 A2 H2 m);obtain⟨H3,hH3⟩:=qEx (qY a0 A2 H2 m)
  have hR:smR a0 a3 (ps,n,a,h)=if a3<n*o then(ps,n,A1,H1)else(ps++[[if ps.length=0 then cpo (cpo c0 o+o) o else cpo c0 o,o]],n*o,A3,H3):=by
   subst hA3 hH3 hc0 hA2 hH2 hm hA1 hH1 ho;rfl
  have o1:=zdu (σ:=(a,h)) (n:=4) hsrc (by decide);have s1:zR a0 A1 H1:=by rw[hA1,hH1];exact js hsrc
  have mp:m∈[4,8,12]:=by rw[hm];exact zdt (σ:=(A1,H1)) (l:=[4,8,12]) s1 (by simp)
  have m12:1<=m/\m<=12:=by simp at mp;omega
  have s2:zR a0 A2 H2:=by rw[hA2,hH2];exact js s1
  have c1:=ZJ (n:=m) s2 (by omega);have s3:zR a0 A3 H3:=by rw[hA3,hH3];exact js s2
  have n1:1<=n:=hok.n1;have n2:n<=a3:=hok.n2;have no0:n*2<=n*o:=Kd (by omega) (by omega);have no1:n*o<=64*5:=Yk (by omega) (by omega) (by omega) (by omega);have g0:yY a0 a h 4=o-2:=by rw[<-yx];show ja a0 (a,h) 4=_;omega
  have g1:yX a0 a h 4=A1:=by rw[<-yw,hA1]
  have g2:yW a0 a h 4=H1:=by rw[<-yv,hH1]
  have g3:∀l,l=I [4,8,12]->jz a0 A1 H1 l=m/\jM a0 A1 H1 l=A2/\jL a0 A1 H1 l=H2/\kx a0 A1 H1 l:=by
   intro l hl;rw[hl,<-qf,<-qk,<-qj,<-qP,hm,hA2,hH2];exact⟨rfl,rfl,rfl,s1,⟨_,rfl⟩,by simp,by simp⟩
  obtain⟨g4,g5,g6,g7⟩:=g3 (V.frzs (V.frzs [V.int IntKind.i64 4,V.int IntKind.i64 8,V.int IntKind.i64 12])) rfl;have g8:yY a0 A2 H2 m=c0-1:=by rw[<-yx];omega
  have g9:yX a0 A2 H2 m=A3:=by rw[<-yw,hA3]
  have g10:yW a0 A2 H2 m=H3:=by rw[<-yv,hH3]
  have Eg:∀x,zbq x o=jq x o:=fun x=>by rw[<-YK]
  have Qa:∀x,JX x o:=fun x=>by rw[<-uV];trivial
  have wo:IntKind.wrap .i64 (2+(o-2))=o:=by rw[show 2+(o-2)=o by omega];exact zn (by omega) (by omega)
  have wno:IntKind.wrap .i64 (n*o)=n*o:=zn (by omega) (by omega);have wc0:IntKind.wrap .i64 (1+(c0-1))=c0:=by rw[show 1+(c0-1)=c0 by omega];exact zn (by omega) (by omega)
  have hst:0<k->SmOk a0 a3 (smR a0 a3 (ps,n,a,h)) (k-1).toNat/\smN a0 a3 (k-1).toNat (smR a0 a3 (ps,n,a,h))=sE:=by
   intro hk;have e:k.toNat=(k-1).toNat+1:=(by omega);rw[e]at hok hsm;exact⟨hok.round,hsm⟩
  have kl:=hok.len;simp only at kl;have cT1:=zo7 (c:=c0) (o:=o) (by omega)
  conv=>cbv
  simp only[zo hL,sQ,true_and,<-hpl,g0,g1,g2,g4,g5,g6,g7,g8,g9,g10,wo,wno,wc0];refine⟨fun h1=>⟨Qn _ _ _ hsrc,fun h2=>?_,fun h2=>⟨Qn _ _ _ s2,?_⟩⟩,fun h1=>?_⟩
  ·rw[zn (n:=k-1)];obtain⟨t1,t2⟩:=hst h1;rw[hR,if_pos h2]at t1 t2;exact hag (es,n,A1,H1,k-1) ⟨by simp only;omega,ps,hes,t1,t2⟩ (by simp only;omega)
  ·obtain⟨t1,t2⟩:=hst h1;rw[hR,if_neg h2]at t1 t2
   refine hlp (Int) _ _ _ [0,1,2,6,7,8,9,10,11] (fun x=>[(wJ5 0 a0 A3 H3),(wJ0 1 a3),(wJ0 2 a4),(wJ7 6),(7,none,.val (.slc true 24 (.slc true 2 (.int .i64 0) []) es)),(wJ0 8 n),(wJ0 9 k),(wJ0 10 o),(wJ0 11 x)])
    (fun x=>c0<=x/\x<=cpT c0 o/\cpU o ((cpT c0 o-x).toNat+1) x=cpo c0 o) (fun x=>(cpT c0 o-x).toNat) (c0) (by subst hL;rfl) ?_ ?_
   ·exact⟨by omega,by omega,rfl⟩
   rintro z ⟨x0,x1,hx⟩ hfx2 ag2 hag2
   conv=>cbv
   simp only[zo hL,sQ,true_and,<-hpl,Eg];refine⟨Qa _,fun h3=>?_,fun h3=>?_⟩
   ·rw[zn (n:=z+1)]
    have hne:z≠cpT c0 o:=fun e=>by
     rw[e,zwJ (by omega) (by omega)]at h3;omega
    refine hag2 (z+1) ⟨by omega,by omega,?_⟩ (by omega);rw[<-hx,show(cpT c0 o-z).toNat=(cpT c0 o-(z+1)).toNat+1 by omega];exact(if_pos (show jq z o>1 from h3)).symm
   ·have hx2:cpo c0 o=z:=by
     rw[<-hx];exact if_neg (show ¬jq z o>1 from h3)
    rw[hx2]at t1 t2;have wk:IntKind.wrap .i64 (k-1)=k-1:=zn (by omega) (by omega);refine⟨fun h4=>?_,fun h4=>?_⟩
    ·have hp0:ps.length=0:=(by omega);rw[if_pos hp0]at t1 t2;have cT2:=zo7 (c:=z+o) (o:=o) (by omega);rw[zn (n:=z+o)]
     refine hlp (Int) _ _ _ [0,1,2,6,7,8,9,10,11] (fun x=>[(wJ5 0 a0 A3 H3),(wJ0 1 a3),(wJ0 2 a4),(wJ7 6),(7,none,.val (.slc true 24 (.slc true 2 (.int .i64 0) []) es)),(wJ0 8 n),(wJ0 9 k),(wJ0 10 o),(wJ0 11 x)])
      (fun x=>z+o<=x/\x<=cpT (z+o) o/\cpU o ((cpT (z+o) o-x).toNat+1) x=cpo (z+o) o) (fun x=>(cpT (z+o) o-x).toNat) (z+o) (by subst hL;rfl) ?_ ?_
     ·exact⟨by omega,by omega,rfl⟩
     rintro y ⟨y0,y1,hy1⟩ hfx3 ag3 hag3
     conv=>cbv
     simp only[zo hL,sQ,true_and,<-hpl,Eg];refine⟨Qa _,fun h5=>?_,fun h5=>?_⟩
     ·rw[zn (n:=y+1)]
      have hne:y≠cpT (z+o) o:=fun e=>by
       rw[e,zwJ (by omega) (by omega)]at h5;omega
      refine hag3 (y+1) ⟨by omega,by omega,?_⟩ (by omega);rw[<-hy1,show(cpT (z+o) o-y).toNat=(cpT (z+o) o-(y+1)).toNat+1 by omega];exact(if_pos (show jq y o>1 from h5)).symm
     ·have hy2:cpo (z+o) o=y:=by
       rw[<-hy1];exact if_neg (show ¬jq y o>1 from h5)
      rw[hy2]at t1 t2;simp only[wno,wk]
      (repeat' first|(exact yL _)|(exact jY rfl)|(exact qG _)|(apply And.intro)|(intro _))<;>(try first|exact True.intro|omega|rfl|(simp only[zj,zu,zg];omega))
      exact hag (_,n*o,A3,H3,k-1) ⟨by simp only;omega,ps++[[y,o]],by simp only;rw[Zv,hes];rfl,t1,t2⟩ (by simp only;omega)
    ·have hp0:¬ps.length=0:=(by omega);rw[if_neg hp0]at t1 t2;simp only[wno,wk]
     (repeat' first|(exact yL _)|(exact jY rfl)|(exact qG _)|(apply And.intro)|(intro _))<;>(try first|exact True.intro|omega|rfl|(simp only[zj,zu,zg];omega))
     exact hag (_,n*o,A3,H3,k-1) ⟨by simp only;omega,ps++[[z,o]],by simp only;rw[Zv,hes];rfl,t1,t2⟩ (by simp only;omega)
  ·have hkz:k.toNat=0:=(by omega);rw[hkz]at hsm hok;have hsm':sE=(ps,n,a,h):=hsm.symm
   have hF:smF a0 a1 a2 a3 a4=if okT ps=true then(if a4<(Ji ps).getD ps.length 0 then zh3 a0 (a,h)else if ja a0 (a,h) 12=0 then zh3 a0 (yN a0 (a,h) 12)else(Ji ps,yN a0 (a,h) 12))else zh3 a0 (a,h):=by
    unfold smF;simp only;rw[<-hs0,<-hk0,<-hsE,hsm']
   have hP:Prs ps:=hok.prs (by omega);have hfz:V.frzs es=II false ps:=(by rw[hes,jy]);have bl:(Ji ps).length=ps.length+1:=(by simp only[Ji,zj,zhP]);have Qb:zjp (II false ps):=(by rw[<-zf7];exact⟨ps,rfl,hP⟩);have Eb:zxK (II false ps)=if okT ps=true then(I (Ji ps),0)else([],5):=(by rw[<-zqD,zo5,qB]);subst yx yw yv qg qf qk qj qP;rw[hfz,Eb];have Qp:∀σ:Int×Int,zR a0 σ.1 σ.2->zay a0 σ.1 σ.2 (V.frzs (V.frzs [V.int IntKind.i64 1,V.int IntKind.i64 2,V.int IntKind.i64 3])):=fun σ hs=>⟨hs,⟨[1,2,3],rfl⟩,by decide,by decide⟩
   have fin:∀(l:List Int) (A H:Int),smF a0 a1 a2 a3 a4=(l,A,H)->V.agg [V.slc true 2 (.int .i64 0) (I l)]=rr/\V.box 91 (V.agg [.slc false 5 (.int .u8 0) a0,.int .i64 A,.int .u64 H])=yy:=by
    intro l A H e;rw[hr,hy,zls,e];exact⟨rfl,rfl⟩
   have h50:((5:Int)=0)=False:=eq_false (by decide);have pl3:=hP.len
   cases hT:okT ps with
   |false=>
    rw[hT,if_neg (by decide)]at hF;simp only[Bool.false_eq_true,if_false,h50,false_and,false_imp_iff,not_false_eq_true,true_or,true_imp_iff,and_false,true_and,and_true];exact⟨Qb,rfl,Qp (a,h) hsrc,fin [uz a0 (a,h) [1,2,3]] _ _ hF⟩
   |true=>
    rw[hT,if_pos rfl]at hF;have wl:IntKind.wrap .i64 ((ps.length+1:Nat)-1:Int)=ps.length:=(by rw[show((ps.length+1:Nat)-1:Int)=ps.length by omega];exact zn (by omega) (by omega));simp only[zo hL,sQ,if_true,zg,bl,wl,zG,zL,true_and,not_true,false_or];refine⟨Qb,ZR _,fun _=>by omega,fun _=>by omega,fun _=>by omega,fun h2=>⟨h2,hsrc,fun h3=>?_,fun h3=>?_⟩,fun h2=>⟨fun h3=>?_,fun h3=>absurd h2 h3.1⟩⟩
    ·have h4:ja a0 (a,h) 12=0:=h3.resolve_left h2;rw[if_neg h2,if_pos h4]at hF;exact⟨Qp (yN a0 (a,h) 12) (jS hsrc),fin [uz a0 (yN a0 (a,h) 12) [1,2,3]] _ _ hF⟩
    ·rw[if_neg h2,if_neg (show ¬ja a0 (a,h) 12=0 from h3.2)]at hF;exact fin _ _ _ hF
    ·rw[if_pos h2]at hF;exact⟨Qp (a,h) hsrc,fin [uz a0 (a,h) [1,2,3]] _ _ hF⟩
 ·cases h
theorem zlX{es:List V}{a h most term:Int}(hq:znr es a h most term):zR es (smF es a h most term).2.1 (smF es a h most term).2.2/\1<=(smF es a h most term).1.length/\(smF es a h most term).1.length<=4:=by
 obtain⟨hs,m1,m2⟩:=hq;have hk:=zdu (σ:=(a,h)) (n:=3) hs (by decide);have ok0:SmOk es most (([],1,yN es (a,h) 3):SmS) (1+ja es (a,h) 3).toNat:=⟨by simp only[zu];omega,by simp,rfl,by simp,by simp only;omega,jS (σ:=(a,h)) hs⟩;have hr:=ok0.run;unfold smF;simp only;generalize smN es most (1+ja es (a,h) 3).toNat ([],1,yN es (a,h) 3)=s at hr ⊢;have h1:=hr.src;have h2:=hr.len;have pk:∀σ:Int×Int,zR es σ.1 σ.2->zR es (zh3 es σ).2.1 (zh3 es σ).2.2/\1<=(zh3 es σ).1.length/\(zh3 es σ).1.length<=4:=fun σ hσ=>⟨zbu hσ,by simp,by simp⟩;split
 ·split
  ·exact pk _ h1
  ·split
   ·exact pk _ (jS h1)
   ·exact⟨jS h1,by simp only[Ji,zj];omega,by simp only[Ji,zj,zhP];omega⟩
 ·exact pk _ h1
def drF(es:List V)(a h:Int):List Int×Int×Int:=
 let σ:=QI es (a,h) [6,12,30,64]
 let s:=smF es σ.1 σ.2 (uz es (a,h) [6,12,30,64]) 400
 if s.1.length=1/\1<s.1.getD 0 0 then
  ([s.1.getD 0 0,W (W (s.1.getD 0 0*W (1+ja es s.2 9))+1)],yN es s.2 9)
 else s
theorem zwD{es:List V}{a h:Int}(hq:zR es a h):zR es (drF es a h).2.1 (drF es a h).2.2/\1<=(drF es a h).1.length/\(drF es a h).1.length<=4:=by
 have hp:=zdt (σ:=(a,h)) (l:=[6,12,30,64]) hq (by simp);have h1:=zlX (most:=uz es (a,h) [6,12,30,64]) (term:=400) ⟨zbu (σ:=(a,h)) (l:=[6,12,30,64]) hq,by simp at hp;omega,by simp at hp;omega⟩;unfold drF;simp only;split
 ·exact⟨jS (σ:=(smF es _ _ _ _).2) h1.1,by simp,by simp⟩
 ·exact h1
def ztT(es:List V)(a h:Int):List V×Int×Int:=(I (drF es a h).1,(drF es a h).2)
def zyy(f:List V->Int->Int->List V×Int×Int)(q:List V->Int->Int->Prop):kj:=fun
 |[.box 91 (.agg [.slc false 5 (.int .u8 0) a0,.int .i64 a1,.int .u64 a2])]=>some ([q a0 a1 a2],.agg [.slc true 2 (.int .i64 0) (f a0 a1 a2).1],.box 91 (.agg [.slc false 5 (.int .u8 0) a0,.int .i64 (f a0 a1 a2).2.1,.int .u64 (f a0 a1 a2).2.2]))
 |_=>none
theorem zpI:zbX Tryz.prog 103 1000 (zyy ztT zR):=by
 intro args ps r y h hp;unfold zyy at h;split at h
 ·rename_i a0 a1 a2;cases h;have hq:zR a0 a1 a2:=(zp.1 hp).1;obtain⟨m,hm⟩:=qEx (kN a0 a1 a2 (I [6,12,30,64]));obtain⟨A1,hA1⟩:=qEx (uq a0 a1 a2 (I [6,12,30,64]));obtain⟨H1,hH1⟩:=qEx (uo a0 a1 a2 (I [6,12,30,64]));obtain⟨S,hS⟩:=qEx (smF a0 A1 H1 m 400)
  have hF:drF a0 a1 a2=if S.1.length=1/\1<S.1.getD 0 0 then([S.1.getD 0 0,W (W (S.1.getD 0 0*W (1+ja a0 S.2 9))+1)],yN a0 S.2 9)else S:=by
   subst hS hA1 hH1 hm;rfl
  have mp:m∈[6,12,30,64]:=by rw[hm];exact zdt (σ:=(a1,a2)) (l:=[6,12,30,64]) hq (by simp)
  have s1:zR a0 A1 H1:=by rw[hA1,hH1];exact js hq
  have qs:znr a0 A1 H1 m 400:=⟨s1,by simp at mp;omega,by simp at mp;omega⟩;have hS2:=zlX qs;rw[<-hS]at hS2;obtain⟨sl,A2,H2⟩:=S;simp only at hF hS2;have Es:zls a0 A1 H1 m 400=(I sl,A2,H2):=by rw[zls,<-hS]
  obtain⟨bl,hbl⟩:=qEx (I sl);obtain⟨n,hn⟩:=qEI bl.length;have hnl:n=sl.length:=by rw[hn,hbl,zg]
  have gx:∀k,bl.getD k (.int .i64 0)=.int .i64 (sl.getD k 0):=fun k=>by rw[hbl,zG]
  generalize yx:qI=yY,yw:qT=yX,yv:qY=yW,qg:zcA=jE,qf:kN=jz,qk:uq=jM,qj:uo=jL,qP:zay=kx,zjh:zls=zvd,zjb:znr=zu9;refine zcY (T:=tab) (B:=[]) (Bi:=[(26,1000,false,Ki yY yX yW jE),(29,1000,false,zaF jz jM jL kx),(118,1000,false,zrZ zvd zu9)]) 0 [2000001806,2000003033,2000003800,2000003820,2000003821,2000003822,2000003823,2000003824,2000003825,2000003826,2000003827,2000003829,2000003999,0,2,3] Tryz.func103 rfl rfl (by kernel_rfl) (yh rfl) mixed Zy zF (by subst yx yw yv qg qf qk qj qP zjh zjb;exact(yE jH (yE kz (yE zhq zA)))) (by kernel_rfl) rfl rfl zah rfl ?_;intro L lp rr yy hL hr hy hf hlp
  conv=>cbv
  subst yx yw yv qg qf qk qj qP zjh zjb;have p0:kN a0 a1 a2 (V.frzs (V.frzs [V.int IntKind.i64 6,V.int IntKind.i64 12,V.int IntKind.i64 30,V.int IntKind.i64 64]))=m:=hm.symm;have p1:uq a0 a1 a2 (V.frzs (V.frzs [V.int IntKind.i64 6,V.int IntKind.i64 12,V.int IntKind.i64 30,V.int IntKind.i64 64]))=A1:=hA1.symm;have p2:uo a0 a1 a2 (V.frzs (V.frzs [V.int IntKind.i64 6,V.int IntKind.i64 12,V.int IntKind.i64 30,V.int IntKind.i64 64]))=H1:=hH1.symm;have p3:zay a0 a1 a2 (V.frzs (V.frzs [V.int IntKind.i64 6,V.int IntKind.i64 12,V.int IntKind.i64 30,V.int IntKind.i64 64])):=⟨hq,⟨[6,12,30,64],rfl⟩,by decide,by decide⟩;simp only[p0,p1,p2,Es,<-hbl,gx,zo hL,sQ,true_and,<-hn]
  have fin:∀(l:List Int) (A H:Int),drF a0 a1 a2=(l,A,H)->V.agg [V.slc true 2 (.int .i64 0) (I l)]=rr/\V.box 91 (V.agg [.slc false 5 (.int .u8 0) a0,.int .i64 A,.int .u64 H])=yy:=by
   intro l A H e;rw[hr,hy,ztT,e];exact⟨rfl,rfl⟩
  refine⟨p3,qs,fun _=>by omega,fun _=>by omega,fun _=>by omega,fun _=>trivial,fun h=>?_,fun h=>?_⟩
  ·rw[if_pos ⟨by omega,h.2⟩]at hF;exact⟨by omega,by omega,by omega,by omega,by omega,by omega,hS2.1,fin [_,_] _ _ hF⟩
  ·rw[if_neg (fun h'=>by omega)]at hF;rw[hbl];exact fin _ _ _ hF
 ·cases h
def spF(es:List V)(a h:Int):List Int×Int×Int:=
 let s:=drF es a h
 let v:=ja es s.2 30
 let σ:=yN es s.2 30
 if v=0 then(s.1.set 0 (uz es σ [0,-1,65,2]),QI es σ [0,-1,65,2])
 else if v=1 then(s.1++[uz es σ [2001,1999,5,1099511627776]],QI es σ [2001,1999,5,1099511627776])
 else if v=2 then(s.1.drop 1,σ)else(s.1,σ)
theorem zvX{es:List V}{a h:Int}(hq:zR es a h):zR es (spF es a h).2.1 (spF es a h).2.2/\(spF es a h).1.length<=5:=by
 obtain⟨h1,h2,h3⟩:=zwD hq;have h4:=jS (σ:=(drF es a h).2) (n:=30) h1;unfold spF;simp only;split
 ·exact⟨zbu (σ:=yN es (drF es a h).2 30) h4,by simp only[yj];omega⟩
 ·split
  ·exact⟨zbu (σ:=yN es (drF es a h).2 30) h4,by simp only[zr,zj,zu];omega⟩
  ·split
   ·refine⟨h4,?_⟩;simp only[List.length_drop];omega
   ·refine⟨h4,?_⟩;show(drF es a h).1.length<=5;omega
def znL(es:List V)(a h:Int):List V×Int×Int:=(I (spF es a h).1,(spF es a h).2)
def zrY(f:List V->Int->Int->List V×Int×Int)(q:List V->Int->Int->Prop):kj:=fun
 |[.box 91 (.agg [.slc false 5 (.int .u8 0) a0,.int .i64 a1,.int .u64 a2])]=>some ([q a0 a1 a2],.agg [.slc false 2 (.int .i64 0) (f a0 a1 a2).1],.box 91 (.agg [.slc false 5 (.int .u8 0) a0,.int .i64 (f a0 a1 a2).2.1,.int .u64 (f a0 a1 a2).2.2]))
 |_=>none
theorem zhp:zbX Tryz.prog 72 1000 (zrY znL zR):=by
 intro args ps r y h hp;unfold zrY at h;split at h
 ·rename_i a0 a1 a2;cases h;have hq:zR a0 a1 a2:=(zp.1 hp).1;obtain⟨S,hS⟩:=qEx (drF a0 a1 a2);have hS2:=zwD hq;rw[<-hS]at hS2
  have hF:spF a0 a1 a2=if ja a0 S.2 30=0 then(S.1.set 0 (uz a0 (yN a0 S.2 30) [0,-1,65,2]),QI a0 (yN a0 S.2 30) [0,-1,65,2])
   else if ja a0 S.2 30=1 then(S.1++[uz a0 (yN a0 S.2 30) [2001,1999,5,1099511627776]],QI a0 (yN a0 S.2 30) [2001,1999,5,1099511627776])
   else if ja a0 S.2 30=2 then(S.1.drop 1,yN a0 S.2 30)else(S.1,yN a0 S.2 30):=by
   subst hS;rfl
  obtain⟨sl,A2,H2⟩:=S;simp only at hF hS2;have Es:ztT a0 a1 a2=(I sl,A2,H2):=by rw[ztT,<-hS]
  obtain⟨bl,hbl⟩:=qEx (I sl);obtain⟨n,hn⟩:=qEI bl.length;have hnl:n=sl.length:=by rw[hn,hbl,zg]
  have gx:∀k,bl.getD k (.int .i64 0)=.int .i64 (sl.getD k 0):=fun k=>by rw[hbl,zG]
  generalize yx:qI=yY,yw:qT=yX,yv:qY=yW,qg:zcA=jE,qf:kN=jz,qk:uq=jM,qj:uo=jL,qP:zay=kx,zAT:ztT=zFO,ut:zR=QE;refine zcY (T:=tab) (B:=[]) (Bi:=[(26,1000,false,Ki yY yX yW jE),(29,1000,false,zaF jz jM jL kx),(103,1000,false,zyy zFO QE)]) 0 [1000008003,1000009003,2000004800,2000004810,2000004811,2000004813,2000004814,2000004999,2000006800,2000006818,2000006819,2000006821,2000006822,2000006999,0,2,3,7] Tryz.func72 rfl rfl (by kernel_rfl) (yh rfl) mixed Zy zF (by subst yx yw yv qg qf qk qj qP zAT ut;exact(yE jH (yE kz (yE zpI zA)))) (by kernel_rfl) rfl rfl zah rfl ?_;intro L lp rr yy hL hr hy hf hlp
  conv=>cbv
  subst yx yw yv qg qf qk qj qP zAT ut;simp only[Es,zo hL,sQ,true_and];have s0:zR a0 A2 H2:=hS2.1;have s1:zR a0 (qT a0 A2 H2 30) (qY a0 A2 H2 30):=js s0;have n1:1<=sl.length:=hS2.2.1;have n2:sl.length<=4:=hS2.2.2
  have fin:∀(l:List Int) (A H:Int),spF a0 a1 a2=(l,A,H)->V.agg [V.slc false 2 (.int .i64 0) (I l)]=rr/\V.box 91 (V.agg [.slc false 5 (.int .u8 0) a0,.int .i64 A,.int .u64 H])=yy:=by
   intro l A H e;rw[hr,hy,znL,e];exact⟨rfl,rfl⟩
  have hF':spF a0 a1 a2=if qI a0 A2 H2 30=0 then(sl.set 0 (uz a0 (yN a0 (A2,H2) 30) [0,-1,65,2]),QI a0 (yN a0 (A2,H2) 30) [0,-1,65,2])
   else if qI a0 A2 H2 30=1 then(sl++[uz a0 (yN a0 (A2,H2) 30) [2001,1999,5,1099511627776]],QI a0 (yN a0 (A2,H2) 30) [2001,1999,5,1099511627776])
   else if qI a0 A2 H2 30=2 then(sl.drop 1,yN a0 (A2,H2) 30)else(sl,yN a0 (A2,H2) 30):=hF
  refine⟨hq,s0,fun h=>?_,fun h=>⟨fun h'=>?_,fun h'=>⟨fun h2=>?_,fun h2=>?_⟩⟩⟩
  ·rw[if_pos h]at hF';refine⟨⟨s1,⟨[0,-1,65,2],rfl⟩,by decide,by decide⟩,by omega,by omega,by omega,?_⟩;have e:V.frzs ((I sl).set 0 (V.int .i64 (uz a0 (yN a0 (A2,H2) 30) [0,-1,65,2])))=I (sl.set 0 (uz a0 (yN a0 (A2,H2) 30) [0,-1,65,2])):=(by rw[ua,zt]);have f:=fin _ _ _ hF';rw[<-e]at f;exact f
  ·rw[if_neg h,if_pos h']at hF';refine⟨⟨s1,⟨[2001,1999,5,1099511627776],rfl⟩,by decide,by decide⟩,rfl,?_,yL _,?_⟩
   ·rw[List.length_singleton];omega
   have e:V.frzs (I sl++[V.int .i64 (uz a0 (yN a0 (A2,H2) 30) [2001,1999,5,1099511627776])])=I (sl++[uz a0 (yN a0 (A2,H2) 30) [2001,1999,5,1099511627776]]):=by
    rw[show[V.int .i64 (uz a0 (yN a0 (A2,H2) 30) [2001,1999,5,1099511627776])]=I [uz a0 (yN a0 (A2,H2) 30) [2001,1999,5,1099511627776]]from rfl,qW,zt]
   have f:=fin _ _ _ hF';rw[<-e]at f;exact f
  ·rw[if_neg h,if_neg h',if_pos h2]at hF';refine⟨by omega,by omega,by omega,?_⟩;have f:=fin _ _ _ hF';rw[zL,show List.take sl.length (I sl)=I sl from zB (by rw[zg];exact zw _),zpq];rw[zt];exact f
  ·rw[if_neg h,if_neg h',if_neg h2]at hF';exact fin _ _ _ hF'
 ·cases h
def zyd(es:List V):Prop:=∃xs:List Int,es=U8 xs/\∀x∈xs,0<=x/\x<=255
def zGn(_:List V):Bool:=true
theorem zwQ:∀xs:List Int,V.frzs (U8 xs)=U8 xs
 |[]=>rfl
 |x::xs=>by
  have:=zwQ xs;simp only[U8]at this;simp only[U8,List.map_cons,V.frzs,V.frz,this]
theorem zFq{a:List V}(h:zyd a)(hb:zml a=false):IsU a:=by
 obtain⟨xs,hxs,hr⟩:=h;refine⟨xs,hxs,hr,?_⟩;have hl:a.length=xs.length:=by rw[hxs,U8,List.length_map]
 simp only[zml,decide_eq_false_iff_not]at hb;omega
def zyL(f:List V->List V)(q:List V->Prop):zO:=fun
 |[.slc false 5 (.int .u8 0) a0]=>some ([q a0],.agg [.slc false 2 (.int .i64 0) (f a0)])
 |_=>none
def zyF(a:List V):List V:=I (spF a 0 (Za a)).1
end Go.Ax
namespace Go.Proofs.YtiepfglppnhpgaaGreat
open Go.ChangeShapes Go.WideShapes Go.ChangeAt Go.RowKit Go.Ax
theorem zDu{x:V}(h:Wt tab 5 x):∃n,x=.int .u8 n/\0<=n/\n<=255:=by
 cases h with
 |int _ ti k n h hk hn=>
  cases h;cases hk;refine⟨n,rfl,?_⟩;simp[Lit.wf]at hn;have h1:IntKind.u8.min=0:=rfl;have h2:IntKind.u8.max=255:=rfl;omega
 |bool _ ti b h hk=>cases h;cases hk
 |str _ ti b h hk=>cases h;cases hk
 |slc _ ti e es h hk=>cases h;cases hk
 |agg _ ti e es h hk=>cases h;cases hk
theorem zBc{x:V}(h:Wt tab 22 x):∃es,x=.slc false 5 (.int .u8 0) es/\zyd es:=by
 cases h with
 |int _ ti k n h hk hn=>cases h;cases hk
 |bool _ ti b h hk=>cases h;cases hk
 |str _ ti b h hk=>cases h;cases hk
 |slc _ ti e es h hk hl he=>
  cases h;cases hk;refine⟨es,rfl,?_⟩;clear hl
  induction es with
  |nil=>exact⟨[],rfl,by simp⟩
  |cons y es ih=>
   obtain⟨l,hl,hr⟩:=ih (fun i y hy=>he (i+1) y (by simpa using hy));obtain⟨n,hn,h0,h1⟩:=zDu (he 0 y rfl);refine⟨n::l,by rw[hl,hn];rfl,fun x hx=>?_⟩;rcases List.mem_cons.1 hx with rfl|hx
   ·exact⟨h0,h1⟩
   ·exact hr x hx
 |agg _ ti e es h hk=>cases h;cases hk
end Go.Proofs.YtiepfglppnhpgaaGreat
namespace Go.Ax
open Go.Proofs
def ZZ(P S:List Int)(i:Nat):Bool:=if i=0 then decide (P.getD 0 0= -1)&&decide (S.getD 0 0= -1)else
 (decide (0<=P.getD i 0)&&decide (P.getD i 0<i))&&(decide (S.getD i 0= -1)||decide (0<=S.getD i 0)&&(decide (S.getD i 0=P.getD (P.getD i 0).toNat 0)||decide (S.getD i 0=S.getD (P.getD i 0).toNat 0)))
def Jc(P S:List Int)(i j:Nat):Bool:= !(decide (0<=S.getD i 0)&&decide (S.getD i 0=S.getD j 0)&&decide (P.getD i 0=P.getD j 0))
structure ClP (P S Q:List Int):Prop where
 n1:1<=P.length
 n24:P.length<=24
 sl:S.length=P.length
 ql:Q.length=P.length
 q:∀i,i<P.length->-100000<=Q.getD i 0/\Q.getD i 0<=100000
 place:∀i,i<P.length->ZZ P S i=true
 diff:∀i j,i<P.length->j<i->Jc P S i j=true
noncomputable def zgE(P S Q:List Int):Bool:= @decide (ClP P S Q) (Classical.propDecidable _)
theorem QJ{P S Q:List Int}:zgE P S Q=true↔ClP P S Q:=by
 rw[zgE];exact@decide_eq_true_iff _ (Classical.propDecidable _)
theorem zwl{P S Q:List Int}(h:¬ClP P S Q):zgE P S Q=false:=by
 cases hb:zgE P S Q with
 |false=>rfl
 |true=>exact absurd (QJ.1 hb) h
theorem zcC{P S:List Int}:ZZ P S 0=true↔P.getD 0 0= -1/\S.getD 0 0= -1:=by
 rw[ZZ,if_pos rfl];simp only[zh,decide_eq_true_eq]
theorem zaT{P S:List Int}{i:Nat}(hi:i≠0):ZZ P S i=true↔(0<=P.getD i 0/\P.getD i 0<i)/\(S.getD i 0= -1\/0<=S.getD i 0/\(S.getD i 0=P.getD (P.getD i 0).toNat 0\/S.getD i 0=S.getD (P.getD i 0).toNat 0)):=by
 rw[ZZ,if_neg hi];simp only[zh,Bool.or_eq_true,decide_eq_true_eq]
theorem zk9{P S:List Int}{i:Nat}(h:∀t,t<=i->ZZ P S t=true):∀t,t<=i->-1<=P.getD t 0/\P.getD t 0<t/\-1<=S.getD t 0/\(0<t->S.getD t 0<t):=by
 intro t
 induction t using Nat.strongRecOn with
 |ind t ih=>
  intro ht;have hp:=h t ht;by_cases h0:t=0
  ·subst h0;obtain⟨h1,h2⟩:=zcC.1 hp;omega
  ·obtain⟨⟨h1,h2⟩,h3⟩:=(zaT h0).1 hp;have h4:=ih (P.getD t 0).toNat (by omega) (by omega);refine⟨by omega,h2,by omega,fun _=>?_⟩;rcases h3 with h3|⟨_,h3|h3⟩
   ·omega
   ·omega
   ·by_cases h5:(P.getD t 0).toNat=0
    ·have:=zcC.1 (h 0 (by omega));rw[h5]at h3;omega
    ·have:=h4.2.2.2 (by omega);omega
def Yv(f:List V->List V->List V->Bool)(q:List V->List V->List V->Prop):zO:=fun
 |[.agg [.slc false 2 (.int .i64 0) a0,.slc false 2 (.int .i64 0) a1,.slc false 2 (.int .i64 0) a2]]=>some ([q a0 a1 a2],.bool (f a0 a1 a2))
 |_=>none
noncomputable def yZ(a b c:List V):Bool:=zgE (yD a) (yD b) (yD c)
def Yn(a b c:List V):Prop:=Yo a/\Yo b/\Yo c
def zuq(f:List V->List V->List V->Int->Bool)(q:List V->List V->List V->Int->Prop):zO:=fun
 |[.agg [.slc false 2 (.int .i64 0) a0,.slc false 2 (.int .i64 0) a1,.slc false 2 (.int .i64 0) a2],.int .i64 a3]=>some ([q a0 a1 a2 a3],.bool (f a0 a1 a2 a3))
 |_=>none
def ziO(a b _:List V)(i:Int):Bool:=ZZ (yD a) (yD b) i.toNat
def zpP(a b c:List V)(i:Int):Prop:=Yo a/\Yo b/\Yo c/\0<=i/\i<a.length/\a.length<=24/\b.length=a.length
theorem zpN:yM Tryz.prog 80 (zuq ziO zpP):=by
 intro args ps r h hp;unfold zuq at h;split at h
 ·rename_i a0 a1 a2 i;cases h;obtain⟨⟨P,hP⟩,⟨S,hS⟩,⟨Q,hQ⟩,i0,i1,h24,hsl⟩:zpP a0 a1 a2 i:=(zp.1 hp).1;have g0:V.frzs a0=a0:=by rw[hP,zt]
  have g1:V.frzs a1=a1:=by rw[hS,zt]
  have g2:V.frzs a2=a2:=by rw[hQ,zt]
  have hpl:a0.length=P.length:=by rw[hP,zg]
  have hsl2:a1.length=P.length:=by rw[hsl,hpl]
  have gp:∀k,a0.getD k (.int .i64 0)=.int .i64 (P.getD k 0):=fun k=>by rw[hP,zG]
  have gs:∀k,a1.getD k (.int .i64 0)=.int .i64 (S.getD k 0):=fun k=>by rw[hS,zG]
  have hf0:ziO a0 a1 a2 i=ZZ P S i.toNat:=by rw[ziO,hP,hS,zl,zl]
  rw[hpl]at i1 h24;generalize yG:yn=qd;refine zH (B:=[(34,qM qd)]) (Bi:=[]) [0,1,2,4,5,6] Tryz.func80 rfl rfl (by subst yG;exact(zm Ye zF)) zA ?_;intro L lp rr hL hr hf hlp;have E1:∀x a b,qd x a b=yn x a b:=fun x a b=>by rw[<-yG]
  conv=>cbv
  have hw:i≠0->IntKind.wrap .i64 (i-1)=i-1:=fun _=>zn (by omega) (by omega);simp only[zo hL,sQ,g0,g1,g2,hpl,hsl2,gp,gs,E1];refine⟨i0,i1,i0,i1,fun h0=>?_,fun h0=>?_⟩
  ·have e:i.toNat=0:=(by omega);rw[hr,hf0,e,ZZ,if_pos rfl];rfl
  have hi0:¬i.toNat=0:=by omega
  rw[hw h0,yn];refine⟨fun h1=>?_,fun h1=>?_⟩
  ·rw[hr,hf0,ZZ,if_neg hi0,show decide (P.getD i.toNat 0<(i.toNat:Int))=decide (P.getD i.toNat 0<=i-1)from decide_eq_decide.2 (by omega),h1];rfl
  simp only[zh,decide_eq_true_eq]at h1;obtain⟨p0,p1⟩:=h1;obtain⟨p,hpp⟩:=qEx (P.getD i.toNat 0);obtain⟨s,hss⟩:=qEx (S.getD i.toNat 0);rw[<-hpp]at p0 p1 ⊢;rw[<-hss];refine⟨fun _=>p0,fun _=>by omega,fun _=>trivial,fun _=>p0,fun _=>by omega,fun _=>trivial,fun h2 h3=>⟨h2,h3⟩,fun h2 h3=>⟨h2,h3⟩,?_⟩;rw[hr,hf0,ZZ,if_neg hi0,<-hpp,<-hss,decide_eq_true p0,decide_eq_true (show p<(i.toNat:Int) by omega),Bool.and_self,Bool.true_and];rfl
 ·cases h
theorem KN:yM Tryz.prog 31 (Yv yZ Yn):=by
 intro args ps r h hp;unfold Yv at h;split at h
 ·rename_i a0 a1 a2;cases h;have hq:Yn a0 a1 a2:=(zp.1 hp).1;obtain⟨⟨P,hP⟩,⟨S,hS⟩,⟨Q,hQ⟩⟩:=id hq;have g0:V.frzs a0=a0:=by rw[hP,zt]
  have g1:V.frzs a1=a1:=by rw[hS,zt]
  have g2:V.frzs a2=a2:=by rw[hQ,zt]
  have hpl:a0.length=P.length:=by rw[hP,zg]
  have hsl:a1.length=S.length:=by rw[hS,zg]
  have hql:a2.length=Q.length:=by rw[hQ,zg]
  have gp:∀k,a0.getD k (.int .i64 0)=.int .i64 (P.getD k 0):=fun k=>by rw[hP,zG]
  have gs:∀k,a1.getD k (.int .i64 0)=.int .i64 (S.getD k 0):=fun k=>by rw[hS,zG]
  have hf0:yZ a0 a1 a2=zgE P S Q:=by rw[yZ,hP,hS,hQ,zl,zl,zl]
  have hno:¬ClP P S Q->yZ a0 a1 a2=false:=fun h=>by rw[hf0,zwl h]
  obtain⟨n,hn⟩:=qEI P.length;generalize JF:JO=zbJ,zhX:Yo=zkv,zry:ziO=zrB,zrv:zpP=zAY;refine zH (B:=[(69,zal zbJ zkv),(80,zuq zrB zAY)]) (Bi:=[]) [0,1,2,3,4,5,33,34,41,42] Tryz.func31 rfl rfl (by subst JF zhX zry zrv;exact(zm zfk (zm zpN zF))) zA ?_;intro L lp rr hL hr hf hlp;have Ew:∀x y,zbJ a2 x y=jk Q x y:=fun x y=>by rw[<-JF,JO,hQ,zl]
  have Ep:∀i,zrB a0 a1 a2 i=ZZ P S i.toNat:=fun i=>by rw[<-zry,ziO,hP,hS,zl,zl]
  conv=>cbv
  simp only[zo hL,sQ,g0,g1,g2,hpl,hsl,hql,<-hn,Ew];refine⟨fun h=>?_,fun h=>⟨?_,fun hw=>?_,fun hw=>?_⟩⟩
  ·rw[hr,hno (fun c=>by have:=c.n1;have:=c.n24;have:=c.sl;have:=c.ql;omega)]
  ·rw[<-zhX];exact hq.2.2
  ·rw[hr,hno (fun c=>?_)]
   have hw':jk Q (-100000) 100000=true:=by
    rw[jk,yc];intro x hx;obtain⟨i,hi,rfl⟩:=qS.1 hx;have:=c.q i (by have:=c.ql;omega);rw[zd,ze hi]at this;simp only[Option.getD_some]at this;simp only[yn,zh,decide_eq_true_eq];exact this
   rw[hw']at hw;cases hw
  obtain⟨⟨⟨n1,n24⟩,hsl2⟩,hql2⟩:=h;have hSl:S.length=P.length:=by omega
  have hQl:Q.length=P.length:=by omega
  have hqr:∀i,i<P.length->-100000<=Q.getD i 0/\Q.getD i 0<=100000:=fun i hi=>by
   rw[jk,yc]at hw;have:=hw (Q.getD i 0) (by rw[zd,ze (by omega)];exact yq _);simpa only[yn,zh,decide_eq_true_eq]using this
  refine hlp (Int) _ _ _ [1,33,34] (fun x=>[(wJ1 1 a0 a1 a2),(wJ0 33 n),(wJ0 34 x)])
   (fun x=>0<=x/\x<=n/\(∀i,i<x.toNat->ZZ P S i=true)/\(∀i j,i<x.toNat->j<i->Jc P S i j=true)) (fun x=>(n-x).toNat) (0) (by subst hL;rfl) ?_ ?_
  ·exact⟨by omega,by omega,fun i hi=>by simp at hi,fun i j hi=>by simp at hi⟩
  intro i ⟨i0,i1,hpl1,hdf1⟩ hfx ag hag
  conv=>cbv
  simp only[zo hL,sQ,g0,g1,g2,hpl,hsl,hql,<-hn,Ep,gp,gs];refine⟨fun h2=>⟨?_,fun h3=>?_,fun h3=>?_⟩,fun h2=>?_⟩
  ·rw[<-zrv];exact⟨hq.1,hq.2.1,hq.2.2,i0,by omega,by omega,by omega⟩
  ·rw[hr,hno (fun c=>by have:=c.place i.toNat (by omega);rw[this]at h3;cases h3)]
  ·refine hlp (Int) _ _ _ [1,4,33,34,41,42] (fun x=>[(wJ1 1 a0 a1 a2),(wJ0 4 i),(wJ0 33 n),(wJ0 34 i),(wJ0 41 i),(wJ0 42 x)])
    (fun x=>0<=x/\x<=i/\∀j,j<x.toNat->Jc P S i.toNat j=true) (fun x=>(i-x).toNat) (0) (by subst hL;rfl) ?_ ?_
   ·exact⟨by omega,by omega,fun i hi=>by simp at hi⟩
   intro j ⟨j0,j1,hdj⟩ hfx2 ag2 hag2
   conv=>cbv
   simp only[zo hL,sQ,g0,g1,g2,hpl,hsl,hql,<-hn,gp,gs];refine⟨fun h4=>?_,fun h4=>?_⟩
   ·refine⟨i0,by omega,fun _=>i0,fun _=>by omega,fun _=>trivial,fun _=>j0,fun _=>by omega,fun _=>trivial,fun _=>i0,fun _=>h2,fun _=>trivial,fun _=>j0,fun _=>by omega,fun _=>trivial,fun⟨⟨h5,h6⟩,h7⟩=>?_,fun h5=>?_⟩
    ·rw[hr,hno (fun c=>?_)];have:=c.diff i.toNat j.toNat (by omega) (by omega);rw[Jc,decide_eq_true h5,decide_eq_true h6,decide_eq_true h7]at this;cases this
    ·rw[zn (n:=j+1)];refine hag2 (j+1) ⟨by omega,by omega,fun t ht=>?_⟩ (by omega);rw[ya j0]at ht
     by_cases htj:t=j.toNat
     ·rw[htj,Jc];rcases h5 with(h5|h5)|h5
      ·rw[decide_eq_false h5];rfl
      ·rw[decide_eq_false h5,uu];rfl
      ·rw[decide_eq_false h5,uu];rfl
     ·exact hdj t (by omega)
   ·rw[zn (n:=i+1)];refine hag (i+1) ⟨by omega,by omega,fun t ht=>?_,fun t u ht hu=>?_⟩ (by omega)
    ·rw[ya i0]at ht
     by_cases hti:t=i.toNat
     ·rw[hti];exact h3
     ·exact hpl1 t (by omega)
    ·rw[ya i0]at ht
     by_cases hti:t=i.toNat
     ·rw[hti];exact hdj u (by omega)
     ·exact hdf1 t u (by omega) hu
  ·have hcl:ClP P S Q:=⟨by omega,by omega,hSl,hQl,hqr,fun k hk=>hpl1 k (by omega),fun k j hk hj=>hdf1 k j (by omega) hj⟩;rw[hr,hf0,QJ.2 hcl]
 ·cases h
def zql(f:List V->List V->List V->Int->Int->Bool)(q:List V->List V->List V->Int->Int->Prop):zO:=fun
 |[.agg [.slc false 2 (.int .i64 0) a0,.slc false 2 (.int .i64 0) a1,.slc false 2 (.int .i64 0) a2],.int .i64 a3,.int .i64 a4]=>some ([q a0 a1 a2 a3 a4],.bool (f a0 a1 a2 a3 a4))
 |_=>none
def ztP(a b _:List V)(i j:Int):Bool:=decide (0<=j)&&(decide ((yD a).getD i.toNat 0=j)||decide ((yD b).getD i.toNat 0=j))
def zBB(a b c:List V)(i _:Int):Prop:=Yo a/\Yo b/\Yo c/\0<=i/\i<a.length/\b.length=a.length
theorem zpF:yM Tryz.prog 88 (zql ztP zBB):=by
 intro args ps r h hp;unfold zql at h;split at h
 ·rename_i a0 a1 a2 i j;cases h;obtain⟨⟨P,hP⟩,⟨S,hS⟩,⟨Q,hQ⟩,i0,i1,hsl⟩:zBB a0 a1 a2 i j:=(zp.1 hp).1;have g0:V.frzs a0=a0:=by rw[hP,zt]
  have g1:V.frzs a1=a1:=by rw[hS,zt]
  have g2:V.frzs a2=a2:=by rw[hQ,zt]
  have hpl:a0.length=P.length:=by rw[hP,zg]
  have hsl2:a1.length=P.length:=by rw[hsl,hpl]
  have gp:∀k,a0.getD k (.int .i64 0)=.int .i64 (P.getD k 0):=fun k=>by rw[hP,zG]
  have gs:∀k,a1.getD k (.int .i64 0)=.int .i64 (S.getD k 0):=fun k=>by rw[hS,zG]
  have hf0:ztP a0 a1 a2 i j=(decide (0<=j)&&(decide (P.getD i.toNat 0=j)||decide (S.getD i.toNat 0=j))):=by rw[ztP,hP,hS,zl,zl]
  rw[hpl]at i1;refine zH (B:=[]) (Bi:=[]) [0,1,2,3,6] Tryz.func88 rfl rfl zF zA ?_;intro L lp rr hL hr hf hlp
  conv=>cbv
  simp only[zo hL,sQ,g0,g1,g2,hpl,hsl2,gp,gs];refine⟨fun _=>i0,fun _=>i1,fun _=>trivial,fun _=>i0,fun _=>i1,fun _=>trivial,fun h2 h3=>⟨h2,h3⟩,?_⟩;rw[hr,hf0];rfl
 ·cases h
theorem Ko:yM Tryz.prog 40 (Yv yZ Yn):=by
 intro args ps r h hp;unfold Yv at h;split at h
 ·rename_i a0 a1 a2;cases h;have hq:Yn a0 a1 a2:=(zp.1 hp).1;obtain⟨⟨P,hP⟩,⟨S,hS⟩,⟨Q,hQ⟩⟩:=id hq;have g0:V.frzs a0=a0:=by rw[hP,zt]
  have g1:V.frzs a1=a1:=by rw[hS,zt]
  have g2:V.frzs a2=a2:=by rw[hQ,zt]
  have hpl:a0.length=P.length:=by rw[hP,zg]
  have hsl:a1.length=S.length:=by rw[hS,zg]
  have hql:a2.length=Q.length:=by rw[hQ,zg]
  have gp:∀k,a0.getD k (.int .i64 0)=.int .i64 (P.getD k 0):=fun k=>by rw[hP,zG]
  have gs:∀k,a1.getD k (.int .i64 0)=.int .i64 (S.getD k 0):=fun k=>by rw[hS,zG]
  have gq:∀k,a2.getD k (.int .i64 0)=.int .i64 (Q.getD k 0):=fun k=>by rw[hQ,zG]
  have hf0:yZ a0 a1 a2=zgE P S Q:=by rw[yZ,hP,hS,hQ,zl,zl,zl]
  have hno:¬ClP P S Q->yZ a0 a1 a2=false:=fun h=>by rw[hf0,zwl h]
  obtain⟨n,hn⟩:=qEI P.length;generalize yG:yn=qd,zAP:ztP=zA3,zAC:zBB=zFD;refine zH (B:=[(71,qM qd),(88,zql zA3 zFD)]) (Bi:=[]) [0,1,2,3,4,5] Tryz.func40 rfl rfl (by subst yG zAP zAC;exact(zm QG (zm zpF zF))) zA ?_;intro L lp rr hL hr hf hlp;have Er:∀x a b,qd x a b=(decide (a<=x)&&decide (x<=b)):=fun x a b=>by rw[<-yG,yn]
  have En:∀i j,zA3 a0 a1 a2 i j=(decide (0<=j)&&(decide (P.getD i.toNat 0=j)||decide (S.getD i.toNat 0=j))):=fun i j=>by rw[<-zAP,ztP,hP,hS,zl,zl]
  conv=>cbv
  simp only[zo hL,sQ,g0,g1,g2,hpl,hsl,hql,<-hn,Er,gp,gs];refine⟨fun h=>by omega,fun h=>by omega,fun _=>trivial,fun h=>by omega,fun h=>by omega,fun _=>trivial,fun h=>?_,fun h=>?_⟩
  ·rw[hr,hno (fun c=>?_)];have c1:=c.n1;have c2:=c.n24;have c3:=c.sl;have c4:=c.ql;have c5:=zcC.1 (c.place 0 (by omega));omega
  obtain⟨⟨⟨⟨⟨n1,n24⟩,hsl2⟩,hql2⟩,hp0⟩,hs0⟩:=h;have hSl:S.length=P.length:=by omega
  have hQl:Q.length=P.length:=by omega
  refine hlp (Int) _ _ _ [1,3,4] (fun x=>[(wJ1 1 a0 a1 a2),(wJ0 3 n),(wJ0 4 x)])
   (fun x=>0<=x/\x<=n/\(∀i,i<x.toNat->-100000<=Q.getD i 0/\Q.getD i 0<=100000)/\(∀i,i<x.toNat->ZZ P S i=true)/\(∀i j,i<x.toNat->j<i->Jc P S i j=true)) (fun x=>(n-x).toNat) (0) (by subst hL;rfl) ?_ ?_
  ·exact⟨by omega,by omega,fun i hi=>by simp at hi,fun i hi=>by simp at hi,fun i j hi=>by simp at hi⟩
  intro i ⟨i0,i1,hqr,hpl1,hdf1⟩ hfx ag hag
  conv=>cbv
  simp only[zo hL,sQ,g0,g1,g2,hpl,hsl,hql,<-hn,Er,En,gp,gs,gq];refine⟨fun h2=>?_,fun h2=>?_⟩
  ·have hwi:IntKind.wrap .i64 (i+1)=i+1:=zn (by omega) (by omega)
   have hag':(-100000<=Q.getD i.toNat 0/\Q.getD i.toNat 0<=100000)->ZZ P S i.toNat=true->(∀j,j<i.toNat->Jc P S i.toNat j=true)->(0<=i+1/\i+1<=n/\(∀t,t<(i+1).toNat->-100000<=Q.getD t 0/\Q.getD t 0<=100000)/\(∀t,t<(i+1).toNat->ZZ P S t=true)/\(∀t j,t<(i+1).toNat->j<t->Jc P S t j=true)):=fun u1 u2 u3=>by
    refine⟨by omega,by omega,fun t ht=>?_,fun t ht=>?_,fun t j ht hj=>?_⟩
    ·by_cases e:t=i.toNat
     ·rw[e];exact u1
     ·exact hqr t (by omega)
    ·by_cases e:t=i.toNat
     ·rw[e];exact u2
     ·exact hpl1 t (by omega)
    ·by_cases e:t=i.toNat
     ·rw[e];exact u3 j (by omega)
     ·exact hdf1 t j (by omega) hj
   rw[hwi];refine⟨i0,by omega,fun h3=>?_,fun h3=>⟨fun h4=>?_,fun h4=>⟨i0,h2,?_⟩⟩⟩
   ·rw[hr,hno (fun c=>by have:=c.q i.toNat (by omega);omega)]
   ·have e0:i.toNat=0:=(by omega);refine hag (i+1) (hag' h3 ?_ ?_) (by omega)
    ·rw[e0];exact zcC.2 ⟨hp0,hs0⟩
    ·intro j hj;omega
   have hwm:IntKind.wrap .i64 (i-1)=i-1:=zn (by omega) (by omega);have hi0:¬i.toNat=0:=(by omega);rw[hwm];obtain⟨p,hpp⟩:=qEx (P.getD i.toNat 0);obtain⟨s,hss⟩:=qEx (S.getD i.toNat 0);have hpb:= @zaT P S i.toNat hi0;rw[<-hpp,<-hss]at hpb;rw[<-hpp,<-hss]
   have hlow:ClP P S Q->(0<=p/\p<i)/\s<i/\(s= -1\/0<=s/\(s=P.getD p.toNat 0\/s=S.getD p.toNat 0)):=fun c=>by
    have:=zk9 (i:=i.toNat) (fun t ht=>c.place t (by omega)) i.toNat (zw _);rw[<-hpp,<-hss]at this;have h5:=hpb.1 (c.place i.toNat (by omega));exact⟨by omega,by omega,h5.2⟩
   have hdneg:s= -1->∀j,Jc P S i.toNat j=true:=fun h j=>by
    rw[Jc,<-hss,decide_eq_false (show ¬0<=s by omega)];rfl
   refine⟨fun h5=>?_,fun h5=>⟨i0,by omega,fun h6=>?_,fun h6=>?_⟩⟩
   ·rw[hr,hno (fun c=>by have:=hlow c;omega)]
   ·exact hag (i+1) (hag' h3 (hpb.2 ⟨by omega,.inl h6⟩) (fun j _=>hdneg h6 j)) (by omega)
   refine⟨i0,by omega,fun _=>i0,fun _=>h2,fun _=>trivial,fun _=>i0,fun _=>by omega,fun _=>trivial,fun _=>?_,fun h7=>?_,fun h7=>?_⟩
   ·rw[<-zAC];exact⟨hq.1,hq.2.1,hq.2.2,h5.1,by omega,by omega⟩
   ·rw[hr,hno (fun c=>?_)];obtain⟨c1,c2,c3⟩:=hlow c;rcases c3 with c3|⟨c3,c4⟩
    ·exact h6 c3
    ·rcases h7 with(h7|h7)|h7|h7
     ·exact h7 c3
     ·omega
     ·exact h7 c3
     ·rcases c4 with c4|c4
      ·exact h7.1 c4.symm
      ·exact h7.2 c4.symm
   ·obtain⟨⟨s0,s1⟩,_,s3⟩:=h7;have hpl2:ZZ P S i.toNat=true:=hpb.2 ⟨by omega,.inr ⟨s0,s3.imp Eq.symm Eq.symm⟩⟩
    refine hlp (Int) _ _ _ [1,3,4,5] (fun x=>[(wJ1 1 a0 a1 a2),(wJ0 3 n),(wJ0 4 i),(wJ0 5 x)])
     (fun x=>1<=x/\x<=i/\∀j,j<x.toNat->Jc P S i.toNat j=true) (fun x=>(i-x).toNat) (1) (by subst hL;rfl) ?_ ?_
    ·refine⟨by omega,by omega,fun j hj=>?_⟩;have:j=0:=(by omega);subst this;rw[Jc,hs0,<-hss,decide_eq_false (show ¬s= -1 by omega)];cases decide (0<=s)<;>rfl
    intro j ⟨j0,j1,hdj⟩ hfx2 ag2 hag2
    conv=>cbv
    simp only[zo hL,sQ,g0,g1,g2,hpl,hsl,hql,<-hn,gp,gs];rw[<-hpp,<-hss];refine⟨fun h8=>?_,fun h8=>?_⟩
    ·have j0':0<=j:=(by omega);refine⟨j0',by omega,i0,h2,fun _=>j0',fun _=>by omega,fun _=>trivial,fun _=>i0,fun _=>by omega,fun _=>trivial,fun h9=>?_,fun h9=>?_⟩
     ·rw[hr,hno (fun c=>?_)];have:=c.diff i.toNat j.toNat (by omega) (by omega);rw[Jc,<-hss,<-hpp,decide_eq_true s0,decide_eq_true h9.2.symm,decide_eq_true h9.1.symm]at this;cases this
     ·rw[zn (n:=j+1)];refine hag2 (j+1) ⟨by omega,by omega,fun t ht=>?_⟩ (by omega);rw[ya j0']at ht
      by_cases htj:t=j.toNat
      ·rw[htj,Jc,<-hss,<-hpp];rcases h9 with h9|h9
       ·rw[decide_eq_false (show ¬p=P.getD j.toNat 0 from fun e=>h9 e.symm),uu];rfl
       ·rw[decide_eq_false (show ¬s=S.getD j.toNat 0 from fun e=>h9 e.symm),uu];rfl
      ·exact hdj t (by omega)
    ·rw[hwi];exact hag (i+1) (hag' h3 hpl2 (fun t ht=>hdj t (by omega))) (by omega)
  ·have hcl:ClP P S Q:=⟨by omega,by omega,hSl,hQl,fun k hk=>hqr k (by omega),fun k hk=>hpl1 k (by omega),fun k j hk hj=>hdf1 k j (by omega) hj⟩;rw[hr,hf0,QJ.2 hcl]
 ·cases h
inductive Cn (es:List (List Int)):Int->Int->Prop
 |refl (u:Int):Cn es u u
 |tail {u v w:Int} (h:Cn es u v) (hw:w∈zcE es v):Cn es u w
structure Bfs (n:Nat) (es:List (List Int)) (root:Int) (ord par:List Int) (i k:Nat):Prop where
 nd:ord.Nodup
 inr:∀x∈ord,0<=x/\x<n
 pl:par.length=n
 ne:0<ord.length
 hd:ord.getD 0 0=root
 rp:gI par root= -1
 tree:∀t,0<t->t<ord.length->∃s,s<t/\s<=i/\gI par (ord.getD t 0)=ord.getD s 0/\ord.getD t 0∈zcE es (ord.getD s 0)/\(s=i->ord.getD t 0∈(zcE es (ord.getD i 0)).take k)
 done:∀t,t<i->∀x∈zcE es (ord.getD t 0),x∈ord
 cur:∀x∈(zcE es (ord.getD i 0)).take k,x∈ord
 ile:i<=ord.length
theorem ky{l:List Int}{t:Nat}(h:t<l.length):l.getD t 0∈l:=by
 rw[zd,ze h];exact yq _
theorem zwq{l:List Int}{k:Nat}(h:k<l.length):l[k]=l.getD k 0:=by
 rw[zd,ze h];rfl
theorem zE8{l:List Int}{x:Int}(h:x∈l):∃t,t<l.length/\l.getD t 0=x:=by
 obtain⟨t,ht,rfl⟩:=qS.1 h;exact⟨t,ht,by rw[zd,ze ht];rfl⟩
theorem zq5:∀{n:Nat} (l:List Int),l.Nodup->(∀x∈l,0<=x/\x<n)->l.length<=n
 |0,l,_,hl=>by
  cases l with
  |nil=>simp
  |cons x l=>have:=hl x (by simp);omega
 |n+1,l,hn,hl=>by
  have h1:=zq5 (n:=n) (l.filter fun x=>x !=(n:Int)) (hn.filter _) (fun x hx=>by
   have h2:=List.mem_filter.1 hx;have h3:=hl x h2.1;have h4:x≠n:=by simpa using h2.2
   omega)
  have h2:∀l:List Int,l.Nodup->l.length<=(l.filter fun x=>x !=(n:Int)).length+1:=by
   intro l
   induction l with
   |nil=>simp
   |cons y l ih=>
    intro hy;have hy2:=List.nodup_cons.1 hy;have ih2:=ih hy2.2;by_cases hyn:y=n
    ·have h3:(l.filter fun x=>x !=(n:Int))=l:=by
      rw[List.filter_eq_self];intro a ha;have:a≠n:=fun h=>hy2.1 (by rw[hyn,<-h];exact ha);simpa using this
     rw[List.filter_cons,hyn];simp[h3]
    ·rw[List.filter_cons];simp[hyn];omega
  have h3:=h2 l hn;omega
theorem zed{α:Type}(f:Nat->α){n i:Nat}(x:α)(h:i<n):(yQ f n).set i x=yQ (fun t=>if t=i then x else f t) n:=by
 apply yB;intro j;rw[Qj];by_cases hj:j<n
 ·rw[kU _ _ _ hj,kU _ _ _ hj];by_cases h1:i=j
  ·rw[if_pos h1,if_pos (by rw[yi];exact h),if_pos h1.symm]
  ·rw[if_neg h1,if_neg (Ne.symm h1)]
 ·rw[if_neg (by omega),zy (by rw[yi];omega),zy (by rw[yi];omega)]
def T2(n:Nat)(f:Nat->Nat->Int):List (List Int):=yQ (fun i=>yQ (f i) n) n
theorem zgY(n:Nat)(f:Nat->Nat->Int):(T2 n f).length=n:=yi _ _
theorem ze5{n i:Nat}(f:Nat->Nat->Int)(h:i<n):(T2 n f).getD i []=yQ (f i) n:=jp _ _ _ _ h
theorem zpn{n i k:Nat}(f:Nat->Nat->Int)(h:i<n)(h2:k<n):((T2 n f).getD i []).getD k 0=f i k:=by rw[ze5 f h,jp _ _ _ _ h2]
theorem zcK{n:Nat}{f g:Nat->Nat->Int}(h:∀i k,i<n->k<n->f i k=g i k):T2 n f=T2 n g:=qE fun i hi=>qE fun k hk=>h i k hi hk
theorem zuI{n i k:Nat}{f g:Nat->Nat->Int}{v:Int}(h:i<n)(h2:k<n)(hv:v=g i k)(hg:∀a b,a<n->b<n->(a≠i\/b≠k)->g a b=f a b):(T2 n f).set i (((T2 n f).getD i []).set k v)=T2 n g:=by
 rw[ze5 f h,zed _ _ h2,T2,zed _ _ h];refine qE fun a ha=>?_;by_cases e:a=i
 ·subst e;rw[if_pos rfl];refine qE fun b hb=>?_;by_cases e2:b=k
  ·subst e2;rw[if_pos rfl,hv]
  ·rw[if_neg e2,hg a b ha hb (.inr e2)]
 ·rw[if_neg e];exact qE fun b hb=>(hg a b ha hb (.inl e)).symm
theorem zwR(n:Nat):List.replicate n (List.replicate n (0:Int))=T2 n fun _ _=>0:=by
 rw[eq_comm,zc5];refine⟨yi _ _,fun b hb=>?_⟩;simp only[T2,yQ,jC,List.mem_range]at hb;obtain⟨x,hx,rfl⟩:=hb;rw[zc5];exact⟨by simp,by simp⟩
end Go.Ax
namespace Go.Proofs
open Go.Shelf
def zzH:Go.Shelf.Ren:=⟨fun|5=>101|8=>121|7=>120|19=>140|20=>141|10=>131|11=>132|12=>133|13=>134|14=>135|15=>136|16=>137|17=>138|18=>139|30=>149|31=>150|32=>151|33=>152|34=>153|35=>154|40=>155|n=>n,fun|23=>24|25=>2|3=>3|32=>92|22=>24|0=>0|44=>139|46=>89|4=>4|36=>131|35=>130|41=>136|5=>5|9=>9|53=>144|57=>148|63=>151|64=>152|n=>n,fun|n=>n⟩
theorem zDe:Go.Proofs.SlLaysM.n5 Tryz.prog zzH:={
 mixed:=by kernel_rfl
 f5:=⟨Tryz.f101.name,by decide,Tryz.func101.trans (congrArg some (by kernel_rfl))⟩
 f7:=⟨Tryz.f120.name,by decide,Tryz.func120.trans (congrArg some (by kernel_rfl))⟩
 f8:=Tryz.func121.trans (congrArg some (by kernel_rfl))
 f10:=⟨Tryz.f131.name,by decide,Tryz.func131.trans (congrArg some (by kernel_rfl))⟩
 f11:=⟨Tryz.f132.name,by decide,Tryz.func132.trans (congrArg some (by kernel_rfl))⟩
 f12:=⟨Tryz.f133.name,by decide,Tryz.func133.trans (congrArg some (by kernel_rfl))⟩
 f13:=⟨Tryz.f134.name,by decide,Tryz.func134.trans (congrArg some (by kernel_rfl))⟩
 f14:=⟨Tryz.f135.name,by decide,Tryz.func135.trans (congrArg some (by kernel_rfl))⟩
 f15:=⟨Tryz.f136.name,by decide,Tryz.func136.trans (congrArg some (by kernel_rfl))⟩
 f16:=⟨Tryz.f137.name,by decide,Tryz.func137.trans (congrArg some (by kernel_rfl))⟩
 f17:=⟨Tryz.f138.name,by decide,Tryz.func138.trans (congrArg some (by kernel_rfl))⟩
 f18:=⟨Tryz.f139.name,by decide,Tryz.func139.trans (congrArg some (by kernel_rfl))⟩
 f19:=Tryz.func140.trans (congrArg some (by kernel_rfl))
 f20:=Tryz.func141.trans (congrArg some (by kernel_rfl))
 f30:=⟨Tryz.f149.name,by decide,Tryz.func149.trans (congrArg some (by kernel_rfl))⟩
 f31:=Tryz.func150.trans (congrArg some (by kernel_rfl))
 f32:=Tryz.func151.trans (congrArg some (by kernel_rfl))
 f33:=⟨Tryz.f152.name,by decide,Tryz.func152.trans (congrArg some (by kernel_rfl))⟩
 f34:=⟨Tryz.f153.name,by decide,Tryz.func153.trans (congrArg some (by kernel_rfl))⟩
 f35:=⟨Tryz.f154.name,by decide,Tryz.func154.trans (congrArg some (by kernel_rfl))⟩
 f40:=⟨Tryz.f155.name,by decide,Tryz.func155.trans (congrArg some (by kernel_rfl))⟩
 t0:=Tryz.underlying0
 a0:=Tryz.isAgg0
 z0:=Tryz.sizeOf0
 v0:=Tryz.zeroValue0
 t3:=Tryz.underlying3
 a3:=Tryz.isAgg3
 z3:=Tryz.sizeOf3
 v3:=Tryz.zeroValue3
 t4:=Tryz.underlying4
 a4:=Tryz.isAgg4
 z4:=Tryz.sizeOf4
 v4:=Tryz.zeroValue4
 t5:=Tryz.underlying5
 a5:=Tryz.isAgg5
 z5:=Tryz.sizeOf5
 v5:=Tryz.zeroValue5
 t9:=Tryz.underlying9
 a9:=Tryz.isAgg9
 z9:=Tryz.sizeOf9
 v9:=Tryz.zeroValue9
 t22:=Tryz.underlying24
 a22:=Tryz.isAgg24
 z22:=Tryz.sizeOf24
 v22:=Tryz.zeroValue24
 t23:=Tryz.underlying24
 a23:=Tryz.isAgg24
 z23:=Tryz.sizeOf24
 v23:=Tryz.zeroValue24
 t25:=Tryz.underlying2
 a25:=Tryz.isAgg2
 z25:=Tryz.sizeOf2
 v25:=Tryz.zeroValue2
 t32:=Tryz.underlying92
 a32:=Tryz.isAgg92
 z32:=Tryz.sizeOf92
 v32:=Tryz.zeroValue92
 t35:=Tryz.underlying130
 a35:=Tryz.isAgg130
 z35:=Tryz.sizeOf130
 v35:=Tryz.zeroValue130
 t36:=Tryz.underlying131
 a36:=Tryz.isAgg131
 z36:=Tryz.sizeOf131
 v36:=Tryz.zeroValue131
 t41:=Tryz.underlying136
 a41:=Tryz.isAgg136
 z41:=Tryz.sizeOf136
 v41:=Tryz.zeroValue136
 t44:=Tryz.underlying139
 a44:=Tryz.isAgg139
 z44:=Tryz.sizeOf139
 v44:=Tryz.zeroValue139
 t46:=Tryz.underlying89
 a46:=Tryz.isAgg89
 z46:=Tryz.sizeOf89
 v46:=Tryz.zeroValue89
 t53:=Tryz.underlying144
 a53:=Tryz.isAgg144
 z53:=Tryz.sizeOf144
 v53:=Tryz.zeroValue144
 t57:=Tryz.underlying148
 a57:=Tryz.isAgg148
 z57:=Tryz.sizeOf148
 v57:=Tryz.zeroValue148
 t63:=Tryz.underlying151
 a63:=Tryz.isAgg151
 z63:=Tryz.sizeOf151
 v63:=Tryz.zeroValue151
 t64:=Tryz.underlying152
 a64:=Tryz.isAgg152
 z64:=Tryz.sizeOf152
 v64:=Tryz.zeroValue152}
end Go.Proofs
namespace Go.Ax
open Go.Proofs Go.Sort Go.RowKit
theorem zCZ{xs:List Int}{j:Nat}(h:j<xs.length):xs.toArray[j]! =xs.getD j 0:=by
 rw[getElem!_pos xs.toArray j (by simpa using h)];simp[zd,ze h]
theorem cz1: Tryz.prog.cellsOf 2 =1:=by kernel_rfl
theorem zDH{cz:TypeId->Nat}{w:World}{F O:Nat->Prop}{k:IntKind}{n:Int}{cs:List Value}(h:Rep cz w F (.int k n) cs O):cs=[.int k n]:=by
 cases h;rfl
theorem zvH{w:World}{blk:Nat}{cur:Array Value}{t:TypeId}{fz:Nat×Nat}(hb:w.heap[blk]? =some (.cells cur t fz))(d:Array Int):
 (putRow (Value.int .i64) w blk 0 d).heap[blk]? =some (.cells (putCells (Value.int .i64) 0 d cur) t fz):=by
 simp[putRow,mapBlock,Array.getElem?_modify,hb,onCells]
theorem zpZ{w:World}{blk k:Nat}(hk:k≠blk)(d:Array Int):(putRow (Value.int .i64) w blk 0 d).heap[k]? =w.heap[k]? :=by
 simp[putRow,mapBlock,Array.getElem?_modify,Ne.symm hk]
def srt(xs:List Int):List Int:=xs.mergeSort fun x y=>decide (x<=y)
def zke(es:List V):List V:=I (srt (yD es))
def zpY(f1:List V->List V)(q:List V->Prop):kj:=fun
 |[.slc true 2 (.int .i64 0) a0]=>some ([q a0],.tup [],.slc true 2 (.int .i64 0) (f1 a0))
 |_=>none
theorem zlW(xs:List Int):(srt xs).length=xs.length:=List.length_mergeSort _
theorem zEU:zbX Tryz.prog 101 0 (zpY zke qU):=by
 intro args ps r y h hp;unfold zpY at h;split at h
 ·rename_i a0;cases h;obtain⟨⟨xs,hxs⟩,hl⟩:qU a0:=(zp.1 hp).1;have hxl:a0.length=xs.length:=by rw[hxs,zg]
  refine⟨⟨_,Tryz.func101,by kernel_rfl,rfl⟩,⟨_,rfl,by rw[hxs,zke,zl];exact Sh.ints (zlW xs).symm,fun h=>absurd h (by decide)⟩,fun ym w F Oj css hsz hv hF hO hG=>?_⟩;obtain⟨hreg,hrep⟩:=hv 0 _ rfl;rw[if_pos rfl]at hrep
  have hvs:ym= #[ym.getD 0 undef]:=by
   apply Array.ext
   ·simpa using hsz
   ·intro i h1 h2;have:i=0:=(by simp at h2;omega);subst this;simp[Array.getD,show 0<ym.size by omega]
  have hreg':ym.getD 0 undef=(css 0).headD undef:=hreg;generalize css 0=cs0 at*;generalize ym.getD 0 undef=v0 at*
  cases hrep with
  |own0=>
   have hxn:xs=[]:=by
    cases xs with
    |nil=>rfl
    |cons x l=>simp[I]at hxs
   have hv0:v0=.slice none 0 0:=hreg';rw[hvs,hv0];intro cs;obtain⟨e,w',fr,⟨k1,k2⟩,k3⟩:=AnyM.slices_Sort_int_none zDe none 0 w cs;refine⟨e,w',fr,⟨.tuple #[],[.tuple #[]],fun _=>False,fun _=>False,fun _=>False,k1,rfl,.tup [] #[] (fun _=>[]) (fun _ _=>False) _ rfl (fun _ _ h=>h) (fun _ _ _ _ h=>h.elim) (fun i x h=>by simp at h) (fun i x h=>by simp at h),by rw[hv0]at hreg;rw[zke,hxs,zl,hxn];exact hreg,?_,?_⟩,k3⟩
   ·rw[zke,hxs,zl,hxn];have hn:I (srt [])=[]:=(by simp[srt]);rw[hn];exact .own0 _ _ _
   ·rw[k2];exact⟨zw _,rfl,rfl,⟨rfl,zw _⟩,fun _ _ _=>rfl,fun b hb=>hb.elim False.elim False.elim,fun b hb=>hb.elim,fun b hb=>hb.elim,fun b hb=>hb.elim,fun _ _ _ _ _ _ h=>h⟩
  |own e d es b len cap cur cs Os O hb hcz hln hc hm hOb hOs hdis hcs hr=>
   have hv0:v0=.slice (some ⟨b,0,none⟩) len cap:=hreg';have hbs:b<w.heap.size:=(Array.getElem?_eq_some_iff.1 hb).1;have hce: Tryz.prog.cellsOf 2 =1:=cz1
   have hcell:∀i,i<xs.length->cs i=[.int .i64 (xs.getD i 0)]:=fun i hi=>by
    refine zDH (hr i _ ?_);rw[hxs,I,zK,ze hi,zd,ze hi];rfl
   have hH:Go.Sort.Holds (Value.int .i64) w b 0 xs.toArray:=fun j hj=>by
    have hj':j<xs.length:=(by simpa using hj);refine⟨?_,?_⟩
    ·have h1:=(hcs j (by omega)).2 0 (.int .i64 (xs.getD j 0)) (by rw[hcell j hj'];rfl);rw[hce]at h1;rw[show(0:Nat)+j=j*1+0 by omega,h1];refine congrArg (fun z=>some (Value.int .i64 z)) ?_;exact(zCZ hj').symm
    ·simp[World.frozen?,hb]
   have hsz2:xs.length<4611686018427387904:=(by omega);have hlx:len=xs.length:=(by rw[hln,hxl]);rw[hvs,hv0,hlx];intro cs1;obtain⟨e1,w',fr,⟨k1,n,os,k2⟩,k3⟩:=AnyM.slices_Sort_int zDe b 0 cap xs w hH hbs hsz2 cs1;have hH1:Go.Sort.Holds (Value.int .i64) (Sort.ahead w n) b 0 xs.toArray:=hH;obtain⟨ys,hys⟩:=qEx (srt xs);have hyl:ys.length=xs.length:=(by rw[hys,zlW]);have hyd:(xs.mergeSort fun x y=>decide (x<=y))=ys:=hys.symm;rw[hyd]at k2;have hH2:=holds_putRow (Value.int .i64) (Sort.ahead w n) b 0 xs.toArray ys.toArray hH1 (by simp[hyl])
   have hb2:w'.heap[b]? =some (.cells (putCells (Value.int .i64) 0 ys.toArray cur) 2 (0,0)):=by
    rw[k2,heap_grow_old _ _ (by rw[size_putRow];exact hbs)];exact zvH (w:=Sort.ahead w n) hb _
   refine⟨e1,w',fr,⟨.tuple #[],[.tuple #[]],fun _=>False,fun _=>False,fun x=>x=b,k1,rfl,.tup [] #[] (fun _=>[]) (fun _ _=>False) _ rfl (fun _ _ h=>h) (fun _ _ _ _ h=>h.elim) (fun i x h=>by simp at h) (fun i x h=>by simp at h),?_,?_,?_⟩,k3⟩
   ·exact rfl
   ·rw[zke,hxs,zl,<-hys];refine .own _ _ _ b _ cap (putCells (Value.int .i64) 0 ys.toArray cur) (fun i=>[.int .i64 (ys.getD i 0)]) (fun _ _=>False) _ hb2 ?_ (by rw[zg];omega) (by rw[zg];omega) hm rfl (fun _ _ h=>h.elim) (fun _ _ _ _ h=>h.elim) (fun i hi=>?_) (fun i x hx=>?_) (fun h=>by cases h)
    ·rw[putCells,Array.size_mapIdx];exact hcz
    ·rw[zg]at hi;refine⟨by rw[hce];rfl,fun k v hk=>?_⟩
     cases k with
     |succ k=>simp at hk
     |zero=>
      simp only[List.getElem?_cons_zero,za]at hk;subst hk;have h1:=(hH2 i (by simpa using hi)).1;rw[hce,k2,cell?_grow _ _ _ (by rw[size_putRow];exact hbs),show i*1+0=0+i by omega,h1];refine congrArg (fun z=>some (Value.int .i64 z)) ?_;exact zCZ hi
    ·rw[I,zK]at hx
     cases hyi:ys[i]? with
     |none=>rw[hyi]at hx;cases hx
     |some z=>
      rw[hyi]at hx;simp only[Option.map_some,za]at hx;subst hx;rw[zd,hyi];exact .int _ _ _
   ·refine⟨by rw[k2,size_grow,size_putRow];exact Nat.le_add_right _ _,by rw[k2];rfl,by rw[k2];rfl,by rw[k2];exact⟨rfl,Nat.le_add_right _ _⟩,fun k hk hx=>?_,fun b hb=>hb.elim False.elim False.elim,fun x hx=>.inl (by rw[hx];exact hOb),fun b hb=>hb.elim,fun b hb=>⟨fun h=>h,fun h=>h⟩,fun _ k off u hx hu hcu=>?_⟩
    ·rw[k2,heap_grow_old _ _ (by rw[size_putRow];exact hk),zpZ (fun h=>hx (by rw[h];exact hOb))];rfl
    ·have hks:=hO k hx;rw[k2,cell?_grow _ _ _ (by rw[size_putRow];exact hks.1),cell?_putRow_other]
     ·exact hcu
     ·by_cases hkb:k=b
      ·by_cases hof:off<xs.length
       ·exfalso;have h1:=(hH off (by simpa using hof)).1;rw[hkb]at hcu;rw[show(0:Nat)+off=off by omega]at h1;rw[h1]at hcu;simp only[za]at hcu;rw[<-hcu]at hu;simp[Jv]at hu
       ·refine .inr (.inr ?_);simp only[List.size_toArray];omega
      ·exact .inl hkb
 ·cases h
open Go.Proofs
theorem zsQ:∀(l l':List Int),l.Nodup->(∀x∈l,x∈l')->l'.length<=l.length->l.Perm l'
 |[],l',_,_,h=>by
  have:l'=[]:=List.eq_nil_of_length_eq_zero (by simpa using h);rw[this]
 |x::t,l',hn,hs,hl=>by
  obtain⟨h1,h2⟩:=List.nodup_cons.1 hn;have hx:x∈l':=hs x (by simp);have hp:=List.perm_cons_erase hx;have hlen:=hp.length_eq;refine(List.Perm.cons x (zsQ t (l'.erase x) h2 (fun y hy=>?_) ?_)).trans hp.symm
  ·refine(List.mem_erase_of_ne (fun e=>h1 (by rw[<-e];exact hy))).2 (hs y (by simp[hy]))
  ·simp only[zj]at hlen hl;omega
theorem zlm(n:Nat):(zbT n).Pairwise (·< ·):=by
 rw[zbT,yQ,List.pairwise_map];exact List.pairwise_lt_range.imp fun h=>by omega
theorem zj3{n:Nat}{x:Int}:x∈zbT n↔0<=x/\x<n:=by
 simp only[zbT,yQ,jC,List.mem_range];constructor
 ·rintro⟨k,hk,rfl⟩;omega
 ·intro h;exact⟨x.toNat,by omega,by omega⟩
def PmP(ls:List Int):Prop:=∀t:Nat,t<ls.length->(t:Int)∈ls
theorem PmP.perm{ls:List Int}(h:PmP ls):(zbT ls.length).Perm ls:=by
 refine zsQ _ _ ((zlm _).imp fun h=>by omega) (fun x hx=>?_) (by rw[ztq];exact zw _);obtain⟨h1,h2⟩:=zj3.1 hx;have:=h x.toNat (by omega)
 rwa [show((x.toNat:Nat):Int)=x by omega]at this
theorem PmP.inr{ls:List Int}(h:PmP ls):∀k,k<ls.length->0<=ls.getD k 0/\ls.getD k 0<ls.length:=fun k hk=>by
 refine zj3.1 (h.perm.mem_iff.2 ?_);rw[zd,ze hk];exact yq _
theorem PmP.inj{ls:List Int}(h:PmP ls){s t:Nat}(hs:s<ls.length)(ht:t<ls.length)(he:ls.getD s 0=ls.getD t 0):s=t:=by
 have hn:ls.Nodup:=h.perm.nodup_iff.1 ((zlm _).imp fun h=>by omega);rw[zd,ze hs,zd,ze ht]at he;have hp:=List.pairwise_iff_getElem.1 hn;rcases Nat.lt_trichotomy s t with h1|h1|h1
 ·exact absurd he (hp s t hs ht h1)
 ·exact h1
 ·exact absurd he.symm (hp t s ht hs h1)
theorem PmP.sur{ls:List Int}(h:PmP ls){j:Nat}(hj:j<ls.length):∃t,t<ls.length/\ls.getD t 0=j:=by
 obtain⟨t,ht,he⟩:=qS.1 (h j hj);exact⟨t,ht,by rw[zd,ze ht];exact he⟩
def Zz{α:Type}(ls:List Int)(f:Nat->α)(z:α)(n:Nat):Nat->List α
 |0=>List.replicate n z
 |k+1=>(Zz ls f z n k).set (ls.getD k 0).toNat (f k)
theorem Yg{α:Type}(ls:List Int)(f:Nat->α)(z:α)(n:Nat):∀k,(Zz ls f z n k).length=n
 |0=>List.length_replicate
 |k+1=>by rw[Zz,yj];exact Yg ls f z n k
theorem zgi{α:Type}{l:List α}{i j:Nat}{x z:α}(hi:i<l.length):(l.set i x).getD j z=if j=i then x else l.getD j z:=by
 rw[zd,Qj,zd];by_cases h:i=j
 ·rw[if_pos h,if_pos hi,if_pos h.symm];rfl
 ·rw[if_neg h,if_neg (Ne.symm h)]
theorem zjO{α:Type}{ls:List Int}(h:PmP ls)(f:Nat->α)(z:α):∀k,k<=ls.length->(∀t,t<k->(Zz ls f z ls.length k).getD (ls.getD t 0).toNat z=f t)/\(∀t,k<=t->t<ls.length->(Zz ls f z ls.length k).getD (ls.getD t 0).toNat z=z)
 |0,_=>⟨fun t ht=>absurd ht (by omega),fun t _ ht=>by
  rw[Zz,zd,List.getElem?_replicate];split<;>rfl⟩
 |k+1,hk=>by
  obtain⟨h1,h2⟩:=zjO h f z k (by omega);have hb:=h.inr k (by omega)
  have hs:∀t,t<ls.length->((ls.getD t 0).toNat=(ls.getD k 0).toNat↔t=k):=fun t ht=>by
   have:=h.inr t ht;exact⟨fun e=>h.inj ht (by omega) (by omega),fun e=>by rw[e]⟩
  refine⟨fun t ht=>?_,fun t ht htl=>?_⟩
  ·rw[Zz,zgi (by rw[Yg];omega)];by_cases htk:t=k
   ·rw[if_pos ((hs t (by omega)).2 htk),htk]
   ·rw[if_neg (fun e=>htk ((hs t (by omega)).1 e))];exact h1 t (by omega)
  ·rw[Zz,zgi (by rw[Yg];omega),if_neg (fun e=>by have:=(hs t htl).1 e;omega)];exact h2 t (by omega) htl
def Zs(ls:List Int):List Int:=Zz ls (fun k=>(k:Int)) 0 ls.length ls.length
theorem ztA{α:Type}{l l':List α}{n:Nat}(z:α)(h1:l.length=n)(h2:l'.length=n)(h:∀j,j<n->l.getD j z=l'.getD j z):l=l':=by
 apply yB;intro j;by_cases hj:j<n
 ·have:=h j hj;rw[zd,zd,ze (by omega),ze (by omega)]at this;rw[ze (by omega),ze (by omega)];exact congrArg some this
 ·rw[zy (by omega),zy (by omega)]
theorem JL(ls:List Int):(Zs ls).length=ls.length:=Yg _ _ _ _ _
theorem zl7{ls:List Int}(h:PmP ls){t:Nat}(ht:t<ls.length):(Zs ls).getD (ls.getD t 0).toNat 0=t:=(zjO h (fun k=>(k:Int)) 0 ls.length (zw _)).1 t ht
theorem zk5{α:Type}{ls:List Int}(h:PmP ls)(f:Nat->α)(z:α):Zz ls f z ls.length ls.length=(Zs ls).map fun i=>f i.toNat:=by
 refine ztA z (Yg _ _ _ _ _) (by rw[List.length_map,JL]) fun j hj=>?_;obtain⟨t,ht,he⟩:=h.sur hj;have h1:=(zjO h f z ls.length (zw _)).1 t ht;have h2:=zl7 h ht;rw[he,zL]at h1 h2;rw[h1,zd,zK];rw[zd,ze (by rw[JL];exact hj)]at h2;rw[ze (by rw[JL];exact hj)];simp only[Option.map_some,Option.getD_some]at h2 ⊢;rw[h2,zL]
theorem zzq{α:Type}{ls:List Int}(h:PmP ls)(f:Nat->α)(z:α){k:Nat}(hk:k<ls.length):(Zz ls f z ls.length k).set (ls.getD k 0).toNat z=Zz ls f z ls.length k:=by
 have hb:=h.inr k hk;refine ztA z (by rw[yj,Yg]) (Yg _ _ _ _ _) fun j hj=>?_;rw[zgi (by rw[Yg];omega)];split
 ·rename_i e;rw[e,(zjO h f z k (by omega)).2 k (zw _) hk]
 ·rfl
theorem zDQ{ls:List Int}(h:PmP ls):∀k,k<(Zs ls).length->0<=(Zs ls).getD k 0/\(Zs ls).getD k 0<ls.length:=fun k hk=>by
 rw[JL]at hk;obtain⟨t,ht,he⟩:=h.sur hk;have h2:=zl7 h ht;rw[he,zL]at h2;omega
def zaZ(n:Int)(ls:List Int):Bool:=decide (n=ls.length)&&(zbT ls.length).all fun x=>ls.contains x
theorem zaY{n:Int}{ls:List Int}:zaZ n ls=true↔n=ls.length/\PmP ls:=by
 simp only[zaZ,zh,decide_eq_true_eq,yc,List.contains_iff_mem];constructor
 ·rintro⟨h1,h2⟩;exact⟨h1,fun t ht=>h2 t (zj3.2 ⟨by omega,by omega⟩)⟩
 ·rintro⟨h1,h2⟩;refine⟨h1,fun x hx=>?_⟩;obtain⟨h3,h4⟩:=zj3.1 hx;have:=h2 x.toNat (by omega)
  rwa [show((x.toNat:Nat):Int)=x by omega]at this
theorem zEO{xs ys:List Int}(hp:xs.Perm ys)(hs:ys.Pairwise (·< ·)):srt xs=ys:=by
 refine List.Perm.eq_of_pairwise (le:=fun x y=>x<=y) (fun a b _ _ h1 h2=>by omega) ?_ (hs.imp fun h=>by omega) ((List.mergeSort_perm _ _).trans hp);have h:=List.pairwise_mergeSort (le:=fun x y:Int=>decide (x<=y)) (fun a b c h1 h2=>by simp only[decide_eq_true_eq]at*;omega) (fun a b=>by simp only[Bool.or_eq_true,decide_eq_true_eq];omega) xs;exact h.imp fun h=>by simpa using h
theorem zDU{xs:List Int}{x:Int}:x∈srt xs↔x∈xs:=(List.mergeSort_perm _ _).mem_iff
theorem PmP.srt{ls:List Int}(h:PmP ls):srt ls=zbT ls.length:=zEO h.perm.symm (zlm _)
theorem zzy{ls:List Int}(h:∀t:Nat,t<ls.length->(Go.Ax.srt ls).getD t 0=t):PmP ls:=fun t ht=>by
 have h1:=h t ht;rw[<-zDU,<-h1];rw[zd,ze (by rw[zlW];exact ht)];exact yq _
end Go.Ax
