import Derived.Test.YtiepfglppnhpgaaGreatB06p3
import Derived.Test.YtiepfglppnhpgaaGreatB05p3
import Derived.Test.YtiepfglppnhpgaaGreatB02p3
import Derived.Test.YtiepfglppnhpgaaGreatB04p3
import Derived.Test.YtiepfglppnhpgaaGreatB01p3
import Derived.Test.YtiepfglppnhpgaaGreatB03p3
set_option linter.all false
set_option maxRecDepth 100000
set_option maxHeartbeats 4000000
open Int renaming mul_comm->zlQ,toNat_natCast->zL,zero_mul->zg3
open List renaming all_eq_true->yc,append_assoc->zU,append_nil->yp,flatMap_append->ku,getD_cons_succ->yT,getD_cons_zero->qh,getD_eq_getElem?_getD->zd,getElem?_eq_getElem->ze,getElem?_eq_none->zy,getElem?_map->zK,getElem_inj->uH,length_append->zr,length_cons->zj,length_drop->yF,length_nil->zu,length_replicate->zx,length_singleton->zW,mem_filter->jJ,mem_iff_getElem->qS,mem_range->jr,mem_singleton->yd,replicate_succ'->qm,sum_nil->zlN
open Nat renaming add_sub_cancel->qJ,le_refl->zw,strongRecOn->zd0
open Option renaming getD_some->qv
open Option.some renaming injEq->za
open Prod.mk renaming injEq->zb
/-
 Branches at points of clusters:impl.branchAt,spec.BranchAtPoint. No conditions but those of the contracts.
-/
namespace Go.Ax
open Go.Proofs
def zqo(f:List V->List V->List V->Int->List V×Int)(q:List V->List V->List V->Int->Prop):zO:=fun
 |[.agg [.slc false 2 (.int .i64 0) a0,.slc false 2 (.int .i64 0) a1,.slc false 2 (.int .i64 0) a2],.int .i64 a3]=>some ([q a0 a1 a2 a3],.tup [.agg [.slc true 2 (.int .i64 0) ((f a0 a1 a2 a3).1)],.int .i64 ((f a0 a1 a2 a3).2)])
 |_=>none
def jc(P S:List Int)(i:Int):List Nat:=cdN S (zC P i)
def za3(cs:List Nat):List V×Int:=bif okC cs then(I (YG cs),0)else([],5)
def zeR(a b _:List V)(i:Int):List V×Int:=za3 (jc (yD a) (yD b) i)
theorem zro(cs:List Nat):V.noFzs (za3 cs).1=true:=by
 rw[za3]
 cases okC cs with
 |true=>exact ZR _
 |false=>rfl
theorem zub(cs:List Nat):V.frzs (za3 cs).1=(za3 cs).1:=by
 rw[za3]
 cases okC cs with
 |true=>exact zt _
 |false=>rfl
theorem zwK{P S Q:List Int}(h:ClP P S Q){i:Int}(h0:0<=i)(h1:i<P.length):KP (I (yg (jc P S i)))/\zeQ (I (yg (jc P S i)))=za3 (jc P S i):=by
 refine⟨⟨_,rfl,(zcT h i (by omega) h1).2,?_⟩,by rw[zeQ,zl,Jm,za3]⟩;have:=uD h (show-1<=i by omega) h1;rw[jc,Yj];omega
theorem zoo:yM Tryz.prog 35 (zqo zeR zcB):=by
 intro args ps r h hp;unfold zqo at h;split at h
 ·rename_i a0 a1 a2 i;cases h;have hqp:zcB a0 a1 a2 i:=(zp.1 hp).1;obtain⟨hqv,i0,i1⟩:=id hqp;obtain⟨⟨⟨P,hP⟩,⟨S,hS⟩,⟨Q,hQ⟩⟩,hcl⟩:=id hqv;rw[hP,hS,hQ,zl,zl,zl]at hcl;have g0:V.frzs a0=a0:=by rw[hP,zt]
  have g1:V.frzs a1=a1:=by rw[hS,zt]
  have g2:V.frzs a2=a2:=by rw[hQ,zt]
  have hpl:a0.length=P.length:=by rw[hP,zg]
  have hsl:a1.length=P.length:=by rw[hS,zg,hcl.sl]
  rw[hpl]at i1;obtain⟨p,hpp⟩:=qEx (zC P i);obtain⟨a3,hpi⟩:=qEx (I p);have hfp:Qg a0 a1 a2 i=a3:=by rw[Qg,hP,zl,<-hpp,hpi]
  have g3:V.frzs a3=a3:=by rw[hpi,zt]
  have hal:a3.length=p.length:=by rw[hpi,zg]
  have ga:∀k,a3.getD k (.int .i64 0)=.int .i64 (p.getD k 0):=fun k=>by rw[hpi,zG]
  have gs:∀k,a1.getD k (.int .i64 0)=.int .i64 (S.getD k 0):=fun k=>by rw[hS,zG]
  have n24:=hcl.n24;have hlen:=uD hcl (show-1<=i by omega) i1;rw[<-hpp]at hlen;have hpg:=fun j hj=>zjS hcl i0 i1 (j:=j) hj;have hc1:=fun j hj hs=>zud hcl i0 i1 (j:=j) hj hs;rw[<-hpp]at hpg hc1;have hf0:zeR a0 a1 a2 i=za3 (jc P S i):=by rw[zeR,hP,hS,zl,zl]
  have hcd:jc P S i=cdN S p:=by rw[jc,<-hpp]
  obtain⟨ck1,ck2⟩:=zwK hcl i0 i1;rw[hcd]at ck1 ck2 hf0;have hfi:∀x,zaH a3 x=idx p x:=fun x=>by rw[zaH,hpi,zl]
  have hqi:∀x,JJ a3 x:=fun x=>⟨⟨p,hpi⟩,by rw[hal];omega⟩;generalize Ja:Qg=JV,zbk:zcB=KC,KB:zaH=zbL,uI:JJ=Zw,zjk:zeQ=zmx,KA:KP=zbI;refine zH (B:=[(37,zc3 JV KC),(83,zc1 zbL Zw),(84,zi3 zmx zbI)]) (Bi:=[]) [0,1,2,4,5,6,7,8,9,10] Tryz.func35 rfl rfl (by subst Ja zbk KB uI zjk KA;exact(zm zkD (zm zkB (zm zom zF)))) zA ?_;intro L lp rr hL hr hf hlp;have Qp:KC a0 a1 a2 i:=by rw[<-zbk];exact hqp
  have Ep:JV a0 a1 a2 i=a3:=by rw[<-Ja];exact hfp
  have Ei:∀x,zbL a3 x=idx p x:=by rw[<-KB];exact hfi
  have Qi:∀x,Zw a3 x:=by rw[<-uI];exact hqi
  have Ec:zmx (I (yg (cdN S p)))=za3 (cdN S p):=by rw[<-zjk];exact ck2
  have Qc:zbI (I (yg (cdN S p))):=by rw[<-KA];exact ck1
  conv=>cbv
  simp only[zo hL,sQ,g0,g1,g2,Ep];refine⟨Qp,?_⟩
  refine hlp (List V×Int) _ _ _ [2,4,6,7,8] (fun x=>[(wJ1 2 a0 a1 a2),(wJ7 4),(wJ2 6 a3),(wJ2 7 x.1),(wJ0 8 x.2)])
   (fun x=>1<=x.2/\(x.2<=p.length\/x.2=1)/\x.1=I (yg (yQ (fun t=>YX S p (t+1)) (x.2-1).toNat))) (fun x=>(p.length-x.2).toNat) (([],1)) (by subst hL;rfl) ?_ ?_
  ·exact⟨by simp,.inr rfl,rfl⟩
  rintro⟨os,j⟩ ⟨j0,j1,hO⟩ hfx ag hag;simp only at j0 j1 hO
  conv=>cbv
  simp only[zo hL,sQ,g0,g1,g2,g3,ga,gs,hal,hsl,Ei];refine⟨fun h2=>?_,fun h2=>?_⟩
  ·have hol:os.length=j.toNat-1:=(by rw[hO,zg,qD,yi];omega);have hg:=hpg j.toNat (by omega)
   have hnx:∀c:Nat,c=YX S p j.toNat->0<=j->(1<=j+1/\(j+1<=p.length\/j+1=1)/\os++[V.int .i64 (c:Int)]=I (yg (yQ (fun t=>YX S p (t+1)) (j+1-1).toNat))):=fun c hc _=>by
    refine⟨by omega,.inl (by omega),?_⟩;rw[hO,show(j+1-1).toNat=(j-1).toNat+1 by omega,QF,Ys,<-qW,show(j-1).toNat+1=j.toNat by omega,hc];rfl
   rw[zn (n:=j+1)];refine⟨by omega,h2,by omega,hg.1,hg.2,fun h3=>?_,fun h3=>?_⟩
   ·obtain⟨c1,c2,c3⟩:=hc1 j.toNat (by omega) h3
    have e1:IntKind.wrap .i64 (j-idx p (S.getD (p.getD j.toNat 0).toNat 0))=(YX S p j.toNat:Nat):=by
     rw[zn (by omega) (by omega),<-c3];omega
    rw[e1];refine⟨Qi _,rfl,by simp only[zj,zu];omega,fun x hx=>by(simp only[yd]at hx;subst hx;rfl),?_⟩;exact hag (_,j+1) (hnx _ rfl (by omega)) (by simp only;omega)
   ·refine⟨rfl,by simp only[zj,zu];omega,fun x hx=>by(simp only[yd]at hx;subst hx;rfl),?_⟩;exact hag (_,j+1) (hnx 0 (by rw[YX,if_neg h3]) (by omega)) (by simp only;omega)
  ·have he:(j-1).toNat=p.length-1:=(by omega);have hO2:os=I (yg (cdN S p)):=(by rw[hO,he,cdN]);rw[hO2,zt,Ec];refine⟨Qc,zro _,?_⟩;rw[hr,hf0]
 ·cases h
def zCf(a b c:List V)(i:Int):Int:=0
theorem zof:yM Tryz.prog 90 (zup zCf zcB):=by
 intro args ps r h hp;unfold zup at h;split at h
 ·rename_i a0 a1 a2 i;cases h;have hqp:zcB a0 a1 a2 i:=(zp.1 hp).1;obtain⟨hqv,i0,i1⟩:=id hqp;obtain⟨⟨⟨P,hP⟩,⟨S,hS⟩,⟨Q,hQ⟩⟩,hcl⟩:=id hqv;rw[hP,hS,hQ,zl,zl,zl]at hcl;have g0:V.frzs a0=a0:=by rw[hP,zt]
  have g1:V.frzs a1=a1:=by rw[hS,zt]
  have g2:V.frzs a2=a2:=by rw[hQ,zt]
  have hpl:a0.length=P.length:=by rw[hP,zg]
  have n24:=hcl.n24;have hf2:yZ a0 a1 a2=true:=by rw[yZ,hP,hS,hQ,zl,zl,zl];exact QJ.2 hcl
  rw[hpl]at i1;generalize qC:yZ=kW,jX:Yn=uP,yG:yn=qd;refine zH (B:=[(40,Yv kW uP),(71,qM qd)]) (Bi:=[]) [0,1,2,4] Tryz.func90 rfl rfl (by subst qC jX yG;exact(zm Ko (zm QG zF))) zA ?_;intro L lp rr hL hr hf hlp;have E1:∀x a b,qd x a b=yn x a b:=fun x a b=>by rw[<-yG]
  conv=>cbv
  simp only[zo hL,sQ,g0,g1,g2,hpl,E1];rw[<-qC,<-jX,hf2,zn (by omega) (by omega)];refine⟨hqv.1,fun h=>(nomatch h),fun _=>⟨fun h=>?_,fun _=>?_⟩⟩
  ·rw[yn,Bool.and_eq_false_iff,decide_eq_false_iff_not,decide_eq_false_iff_not]at h;omega
  ·rw[hr,zCf]
 ·cases h
def zqp(f:List V->List V->List V->Int->List V×Int)(q:List V->List V->List V->Int->Prop):zO:=fun
 |[.agg [.slc false 2 (.int .i64 0) a0,.slc false 2 (.int .i64 0) a1,.slc false 2 (.int .i64 0) a2],.int .i64 a3]=>some ([q a0 a1 a2 a3],.tup [.agg [.slc false 2 (.int .i64 0) ((f a0 a1 a2 a3).1)],.int .i64 ((f a0 a1 a2 a3).2)])
 |_=>none
theorem zjE:yM Tryz.prog 43 (zqp zeR zcB):=by
 intro args ps r h hp;unfold zqp at h;split at h
 ·rename_i a0 a1 a2 i;cases h;have hqp:zcB a0 a1 a2 i:=(zp.1 hp).1;obtain⟨hqv,i0,i1⟩:=id hqp;obtain⟨⟨⟨P,hP⟩,⟨S,hS⟩,⟨Q,hQ⟩⟩,hcl⟩:=id hqv;rw[hP,hS,hQ,zl,zl,zl]at hcl;have g0:V.frzs a0=a0:=by rw[hP,zt]
  have g1:V.frzs a1=a1:=by rw[hS,zt]
  have g2:V.frzs a2=a2:=by rw[hQ,zt]
  have hpl:a0.length=P.length:=by rw[hP,zg]
  have hi1:=i1;rw[hpl]at i1;have hfp:Qg a0 a1 a2 i=I (zC P i):=by rw[Qg,hP,zl]
  have hfc:zmi a0 a1 a2 (I (zC P i))=I (yg (jc P S i)):=by rw[zmi,hS,zl,zl,jc]
  have hqc:zrT a0 a1 a2 (I (zC P i)):=⟨hqv,i,by rw[hP,zl],i0,hi1⟩;obtain⟨ck1,ck2⟩:=zwK hcl i0 i1;have hf0:zeR a0 a1 a2 i=za3 (jc P S i):=by rw[zeR,hP,hS,zl,zl]
  generalize zAL:zCf=zFJ,zbk:zcB=KC,Ja:Qg=JV,zxk:zmi=zEF,zwZ:zrT=zEx,zjk:zeQ=zmx,KA:KP=zbI;refine QA (B:=[(90,zup zFJ KC),(44,zc3 JV KC),(92,zgS zEF zEx),(91,zi3 zmx zbI),(2000000091,zew)]) (Bi:=[]) [2000004807,2000004824,2000004998,0,1,2,4,5,6,7,8] Tryz.func43 rfl rfl (by subst zAL zbk Ja zxk zwZ zjk KA;exact(zm zof (zm zir (zm zpE (zm ziw (zm ziE zF)))))) zA ?_;intro L lp rr hL hr hf hlp
  conv=>cbv
  simp only[zo hL,sQ,g0,g1,g2];subst zAL zbk Ja zxk zwZ zjk KA;rw[hfp,zt,hfc,zt,ck2];refine⟨hqp,fun h=>absurd rfl h,fun _=>⟨hqp,hqc,ZR _,ck1,zro _,?_⟩⟩;rw[zub,zub,hr,hf0]
 ·cases h
def zlC(k:Nat):List Int:=yQ (fun j=>(j:Int)-1) k
def zeh(M:Nat->Nat)(j:Nat):Int:=if 1<(prs M j j).length then((prs M j j).getD 0 0:Nat)else-1
def zlB(xs:List Int)(k:Nat):List Int:=yQ (zeh (mul xs)) k
theorem zCv(k:Nat):(zlC k).length=k:=yi _ _
theorem zCu(xs:List Int)(k:Nat):(zlB xs k).length=k:=yi _ _
theorem zBN{M:Nat->Nat}(h:GoodM M)(j:Nat):prs M (j+1) (j+1)=[j]\/∃a,a<j/\JQ M a (j+1)/\prs M (j+1) (j+1)=[a,j]:=by
 have h1:=zek (M:=M) (i:=j) (j:=j+1) (by omega);have h2:qL M j (j+1-j)<=M j:=zsN h j;rw[if_pos h2]at h1
 cases hh:prs M j (j+1)with
 |nil=>rw[h1,hh];exact .inl rfl
 |cons a l=>
  have ha:a∈prs M j (j+1):=by rw[hh];simp
  have hl:l=[]:=by
   cases hl:l with
   |nil=>rfl
   |cons b l'=>
    exfalso;have hb:b∈prs M j (j+1):=by rw[hh,hl];simp
    have hp:(prs M j (j+1)).Pairwise (·< ·):=by
     rw[prs];exact(List.pairwise_lt_range).filter _
    rw[hh,hl]at hp;have hab:a<b:=(List.pairwise_cons.1 hp).1 b (by simp);simp only[prs,jJ,jr,prx,decide_eq_true_eq]at ha hb;exact zhy h hab (by omega) ha.2 hb.2
  simp only[prs,jJ,jr,prx,decide_eq_true_eq]at ha;rw[h1,hh,hl];exact .inr ⟨a,by omega,ha.2,rfl⟩
theorem zBL(M:Nat->Nat):prs M 0 0=[]:=by simp[prs]
theorem zzj(M:Nat->Nat):zeh M 0= -1:=by rw[zeh,zBL];rfl
theorem zkT{M:Nat->Nat}(h:GoodM M)(j:Nat):(zeh M (j+1)= -1/\prs M (j+1) (j+1)=[j])\/∃a,a<j/\JQ M a (j+1)/\zeh M (j+1)=a/\prs M (j+1) (j+1)=[a,j]:=by
 rcases zBN h j with e|⟨a,h1,h2,e⟩
 ·exact .inl ⟨by rw[zeh,e];rfl,e⟩
 ·exact .inr ⟨a,h1,h2,by rw[zeh,e];rfl,e⟩
theorem zDF{M:Nat->Nat}(h:GoodM M){a j:Nat}(h1:a<j)(hp:JQ M a (j+1)):zeh M (j+1)=a:=by
 rcases zkT h j with⟨_,e⟩|⟨b,h3,h4,h5,e⟩
 ·exfalso
  have:a∈prs M (j+1) (j+1):=by
   simp only[prs,jJ,jr,prx,decide_eq_true_eq];exact⟨by omega,hp⟩
  rw[e]at this;simp at this;omega
 ·rcases Nat.lt_trichotomy a b with hab|hab|hab
  ·exact absurd h4 (zhy h hab (by omega) hp)
  ·rw[h5,hab]
  ·exact absurd hp (zhy h hab (by omega) h4)
theorem zwi:∀(cs:List Nat) (t u:Nat),u<Yi t cs->cs.getD u 0=t+u
 |[],_,u,h=>by simp[Yi]at h
 |c::cs,t,u,h=>by
  rw[Yi]at h;split at h
  ·rename_i e
   cases u with
   |zero=>simpa using e
   |succ u=>
    rw[yT,zwi cs (t+1) u (by omega)];omega
  ·omega
theorem take_le{M:Nat->Nat}{i:Nat}:∀(q:Nat) (X:List Nat),(∀t,t<q->X.getD t 0<=M (i+1+t))->(X.take q).sum<=qL M i q
 |0,_,_=>by simp[qL]
 |q+1,X,h=>by
  have h1:=take_le q X (fun t ht=>h t (by omega));have h2:=h q (by omega);rw[List.take_add_one,List.sum_append,qL];rw[zd]at h2
  cases hx:X[q]? with
  |none=>simp only[Option.toList_none,zlN];omega
  |some x=>
   rw[hx,qv]at h2;simp only[Option.toList_some,List.sum_cons,zlN];omega
def zqm(f:List V->List V->List V->Int->Bool)(q:List V->List V->List V->Int->Prop):zO:=fun
 |[.agg [.slc false 2 (.int .i64 0) a0,.slc false 2 (.int .i64 0) a1,.slc false 2 (.int .i64 0) a2],.int .i64 a3]=>some ([q a0 a1 a2 a3],.bool (f a0 a1 a2 a3))
 |_=>none
def ziT(a _ _:List V)(i:Int):Bool:=decide (0<=i)&&decide (i<=(a.length:Int)-1)
def ziF(a b c:List V)(_:Int):Prop:=Yn a b c/\a.length<=1000
theorem zpM:yM Tryz.prog 54 (zqm ziT ziF):=by
 intro args ps r h hp;unfold zqm at h;split at h
 ·rename_i a0 a1 a2 i;cases h;obtain⟨h0,h2⟩:ziF a0 a1 a2 i:=(zp.1 hp).1;have g0:=h0.1.frz;have g1:=h0.2.1.frz;have g2:=h0.2.2.frz;generalize yG:yn=qd;refine zH (B:=[(34,qM qd)]) (Bi:=[]) [0,1,2,4] Tryz.func54 rfl rfl (by subst yG;exact(zm Ye zF)) zA ?_;intro L lp rr hL hr hf hlp;have Er:∀x y z,qd x y z=yn x y z:=fun x y z=>by rw[<-yG]
  conv=>cbv
  simp only[zo hL,g0,g1,g2,Er];rw[zn (by omega) (by omega),hr];rfl
 ·cases h
structure PSt where
 P:List Int
 S:List Int
 Q:List Int
 own:List Int
def zGq(xs own:List Int)(j:Nat):Int:=if 0<j/\cd (mul xs) j j≠0 then own.getD ((j:Int)-cd (mul xs) j j).toNat 0 else-1
def zGs(own:List Int)(j:Nat):Int:=if 0<j then own.getD (j-1) 0 else-1
def zFa(bs ms:List (List Int))(i:Nat):Nat:=(zF4 bs ms i).toNat
structure ClOk (bs ms:List (List Int)) (i:Nat) (s:PSt) (names:List (List Int)):Prop where
 sl:s.S.length=s.P.length
 ql:s.Q.length=s.P.length
 nl:names.length=i
 rl:∀k,k<i->(names.getD k []).length=zFa bs ms k
 rin:∀(k j:Nat),k<i->j<zFa bs ms k->0<=(names.getD k []).getD j 0/\(names.getD k []).getD j 0<s.P.length
 cmp:∀(k k' j:Nat),k<i->k'<i->k≠k'->(j:Int)<mm ms k k'->(names.getD k []).getD j 0=(names.getD k' []).getD j 0
structure OwnOk (ms names:List (List Int)) (i:Nat) (s:PSt) (j:Nat):Prop where
 ol:s.own.length=j
 oin:∀t,t<j->0<=s.own.getD t 0/\s.own.getD t 0<s.P.length
 ocmp:∀(k t:Nat),k<i->t<j->(t:Int)<mm ms i k->s.own.getD t 0=(names.getD k []).getD t 0
theorem zrg{l:List Int}{x:Int}{t:Nat}(h:t<=l.length):(l++[x]).getD t 0=if t=l.length then x else l.getD t 0:=by
 simp only[zd];by_cases h1:t=l.length
 ·rw[if_pos h1,h1,List.getElem?_append_right (zw _)];simp
 ·rw[if_neg h1,List.getElem?_append_left (by omega)]
def sg(f:Nat->Int):Nat->Int
 |0=>0
 |n+1=>sg f n+f n
theorem kV{f g:Nat->Int}:∀{n:Nat},(∀t,t<n->f t=g t)->sg f n=sg g n
 |0,_=>rfl
 |n+1,h=>by rw[sg,sg,kV (n:=n) fun t ht=>h t (by omega),h n (by omega)]
theorem zsq(f g:Nat->Int):∀n,sg (fun t=>f t+g t) n=sg f n+sg g n
 |0=>rfl
 |n+1=>by simp only[sg];rw[zsq f g n];omega
theorem zzg(f g:Nat->Int):∀n,sg (fun t=>f t-g t) n=sg f n-sg g n
 |0=>rfl
 |n+1=>by simp only[sg];rw[zzg f g n];omega
theorem zap{f:Nat->Int}:∀{n:Nat},(∀t,t<n->f t=0)->sg f n=0
 |0,_=>rfl
 |n+1,h=>by rw[sg,zap (n:=n) fun t ht=>h t (by omega),h n (by omega)];rfl
theorem zsp(c:Int)(f:Nat->Int):∀n,sg (fun t=>c*f t) n=c*sg f n
 |0=>by simp[sg]
 |n+1=>by simp only[sg];rw[zsp c f n,Int.mul_add]
theorem zpy(f:Nat->Nat->Int):∀n m,sg (fun i=>sg (fun j=>f i j) m) n=sg (fun j=>sg (fun i=>f i j) n) m
 |0,m=>by
  rw[sg];exact(zap fun _ _=>rfl).symm
 |n+1,m=>by
  simp only[sg];rw[zpy f n m,zsq]
theorem zin{f:Nat->Int}:∀{n p:Nat},p<n->(∀t,t<n->t≠p->f t=0)->sg f n=f p
 |0,p,hp,_=>by omega
 |n+1,p,hp,h=>by
  rw[sg];by_cases e:p=n
  ·subst e;rw[zap fun t ht=>h t (by omega) (by omega)];omega
  ·rw[zin (n:=n) (p:=p) (by omega) fun t ht hne=>h t (by omega) hne,h n (by omega) (by omega)];omega
theorem zzh{f:Nat->Int}{m:Nat}:∀{n:Nat},m<=n->(∀t,m<=t->t<n->f t=0)->sg f n=sg f m
 |0,h,_=>by rw[show m=0 by omega]
 |n+1,h,hz=>by
  by_cases e:m=n+1
  ·rw[e]
  ·rw[sg,zzh (n:=n) (by omega) fun t h1 h2=>hz t h1 (by omega),hz n (by omega) (by omega)];omega
theorem zrM{f:Nat->Int}:∀{n:Nat},(∀t,t<n->0<=f t)->0<=sg f n
 |0,_=>by simp[sg]
 |n+1,h=>by
  have:=zrM (n:=n) fun t ht=>h t (by omega);have:=h n (by omega);rw[sg];omega
theorem zC2{f:Nat->Int}{b:Int}:∀{n:Nat},(∀t,t<n->f t<=b)->sg f n<=b*n
 |0,_=>by simp[sg]
 |n+1,h=>by
  have h1:=zC2 (n:=n) fun t ht=>h t (by omega);have h2:=h n (by omega);rw[sg,show((n+1:Nat):Int)=(n:Int)+1 by omega,Int.mul_add];omega
def fW(M r:Nat->Nat->Nat)(len:Nat->Nat)(i q:Nat):Int:=sg (fun j=>if r i j=q then(M i j:Int)else 0) (len i)
def wSm(M r:Nat->Nat->Nat)(len:Nat->Nat)(n q:Nat):Int:=sg (fun i=>fW M r len i q) n
structure RowsOk (n N:Nat) (len:Nat->Nat) (r c:Nat->Nat->Nat):Prop where
 lt:∀i j,i<n->j<len i->r i j<N
 sep:∀i k j j',i<n->k<n->j<len i->j'<len k->r i j=r k j'->j=j'/\(i=k\/j<c i k)
 cmp:∀i k j,i<n->k<n->i≠k->j<c i k->r i j=r k j
 cle:∀i k,i<n->k<n->i≠k->c i k<=len i/\c i k<=len k
theorem zDh{n N:Nat}{len:Nat->Nat}{M r c:Nat->Nat->Nat}(h:RowsOk n N len r c){i j:Nat}(hi:i<n)(hj:j<len i):fW M r len i (r i j)=M i j:=by
 rw[fW,zin hj fun t ht hne=>?_,if_pos rfl];exact if_neg fun e=>hne (h.sep i i t j hi hi ht hj e).1
theorem zzZ{M r:Nat->Nat->Nat}{len:Nat->Nat}{i q:Nat}(h:∀j,j<len i->r i j≠q):fW M r len i q=0:=zap fun t ht=>if_neg (h t ht)
theorem zze{n N:Nat}{len:Nat->Nat}{r c:Nat->Nat->Nat}(M:Nat->Nat->Nat)(h:RowsOk n N len r c)(g:Nat->Int){i:Nat}(hi:i<n):
 sg (fun q=>g q*fW M r len i q) N=sg (fun j=>g (r i j)*M i j) (len i):=by
 have e1:sg (fun q=>g q*fW M r len i q) N=sg (fun q=>sg (fun j=>if r i j=q then g (r i j)*(M i j:Int)else 0) (len i)) N:=kV fun q _=>by
  rw[fW,<-zsp];refine kV fun j _=>?_;by_cases e:r i j=q
  ·rw[if_pos e,if_pos e,e]
  ·rw[if_neg e,if_neg e,Int.mul_zero]
 rw[e1,zpy];refine kV fun j hj=>?_;rw[zin (h.lt i j hi hj) fun t _ hne=>if_neg fun e=>hne e.symm,if_pos rfl]
theorem zF9{n N:Nat}{len:Nat->Nat}{r c:Nat->Nat->Nat}(M:Nat->Nat->Nat)(h:RowsOk n N len r c){i k:Nat}(hi:i<n)(hk:k<n)(hne:i≠k):
 sg (fun j=>fW M r len k (r i j)*(M i j:Int)) (len i)=sg (fun j=>(M i j:Int)*(M k j:Int)) (c i k):=by
 rw[zzh (h.cle i k hi hk hne).1 fun t h1 h2=>?_]
 ·refine kV fun j hj=>?_;have hl:=h.cle i k hi hk hne;rw[h.cmp i k j hi hk hne hj,zDh h hk (by omega),zlQ]
 ·rw[zzZ fun j hj e=>?_,zg3];obtain⟨e1,e2⟩:=h.sep i k t j hi hk h2 hj e.symm;rcases e2 with e2|e2
  ·exact hne e2
  ·omega
theorem zFf{n N:Nat}{len:Nat->Nat}{r c M:Nat->Nat->Nat}(h:RowsOk n N len r c)(zcE:Nat->Nat->Prop)[∀p q,Decidable (zcE p q)](Px:Nat->Nat->Nat->Prop)[∀i a j,Decidable (Px i a j)]
 (hpos:∀i,i<n->0<len i)
 (hn:∀i j p,i<n->j<len i->(zcE p (r i j)↔∃a,a<j/\p=r i a/\Px i a j))
 (hx:∀i a,i<n->a<len i->sg (fun j=>if a<j/\Px i a j then(M i j:Int)else 0) (len i)=(M i a:Int)-if a+1=len i then 1 else 0)
 (p:Nat):wSm M r len n p-sg (fun q=>if zcE p q then wSm M r len n q else 0) N=sg (fun i=>if r i (len i-1)=p then 1 else 0) n:=by
 have e1:sg (fun q=>if zcE p q then wSm M r len n q else 0) N=sg (fun i=>sg (fun q=>(if zcE p q then 1 else 0)*fW M r len i q) N) n:=by
  rw[zpy];refine kV fun q _=>?_;rw[zsp];by_cases e:zcE p q
  ·rw[if_pos e,if_pos e,Int.one_mul];rfl
  ·rw[if_neg e,if_neg e,zg3]
 rw[e1,wSm,<-zzg];refine kV fun i hi=>?_;rw[zze M h (fun q=>if zcE p q then 1 else 0) hi];have hl:=hpos i hi;by_cases hp:∃a,a<len i/\p=r i a
 ·obtain⟨a,ha,rfl⟩:=hp
  have e2:sg (fun j=>(if zcE (r i a) (r i j)then(1:Int)else 0)*(M i j:Int)) (len i)=sg (fun j=>if a<j/\Px i a j then(M i j:Int)else 0) (len i):=kV fun j hj=>by
   have hiff:zcE (r i a) (r i j)↔a<j/\Px i a j:=by
    rw[hn i j _ hi hj];constructor
    ·rintro⟨b,hb,e,hP⟩;obtain⟨e',_⟩:=h.sep i i a b hi hi ha (by omega) e;subst e';exact⟨hb,hP⟩
    ·rintro⟨h1,h2⟩;exact⟨a,h1,rfl,h2⟩
   by_cases hc:a<j/\Px i a j
   ·rw[if_pos hc,if_pos (hiff.2 hc),Int.one_mul]
   ·rw[if_neg hc,if_neg (fun e=>hc (hiff.1 e)),zg3]
  rw[e2,hx i a hi ha,zDh h hi ha];by_cases hc:a+1=len i
  ·rw[if_pos hc,if_pos (by rw[show len i-1=a by omega])];omega
  ·rw[if_neg hc,if_neg fun e=>hc (by have:=(h.sep i i (len i-1) a hi hi (by omega) ha e).1;omega)];omega
 ·rw[zzZ fun j hj e=>hp ⟨j,hj,e.symm⟩,if_neg fun e=>hp ⟨_,by omega,e.symm⟩];rw[zap fun j hj=>?_]
  ·rfl
  ·rw[if_neg,zg3];intro e;obtain⟨b,hb,e2,_⟩:=(hn i j p hi hj).1 e;exact hp ⟨b,by omega,e2⟩
theorem zyg{M:Nat->Nat}(h:GoodM M)(a:Nat):∃k,1<=k/\qL M a k=M a:=by
 by_cases e:M (a+1)<M a
 ·obtain⟨c,r,e1,e2,e3,e4,e5⟩:=h.drop a e;have hc:=znc c e4;by_cases hr:0<r
  ·refine⟨c+1,by omega,?_⟩;have h1:qL M a (c+1)=qL M a c+M (a+1+c):=rfl;rw[h1,hc,e5 hr,e1]
  ·exact⟨c,e3,by rw[hc,e1];omega⟩
 ·have:=h.fall a;refine⟨1,by omega,?_⟩;have h1:qL M a 1=0+M (a+1+0):=rfl;rw[h1,Nat.add_zero];omega
theorem zjQ{M:Nat->Nat}(h:GoodM M){a k j:Nat}(hk:qL M a k=M a)(hj:a<j):JQ M a j↔j-a<=k:=by
 unfold JQ;rw[<-hk];constructor
 ·intro h1
  exact Classical.byContradiction fun hn=>by
   have:=Js h a (k:=k) (k':=j-a) (by omega);omega
 ·intro h1;by_cases e:j-a=k
  ·rw[e];exact zw _
  ·exact Nat.le_of_lt (Js h a (by omega))
instance {M:Nat->Nat} {a j:Nat}:Decidable (JQ M a j):=inferInstanceAs (Decidable (qL M a (j-a)<=M a))
theorem zvZ{M:Nat->Nat}(h:GoodM M){a k:Nat}(hk:qL M a k=M a):∀t,sg (fun j=>if a<j/\JQ M a j then(M j:Int)else 0) (a+1+t)=(qL M a (min t k):Nat)
 |0=>by
  rw[show min 0 k=0 by omega];rw[zap fun j hj=>if_neg fun e=>by omega];rfl
 |t+1=>by
  rw[show a+1+(t+1)=a+1+t+1 by omega,sg,zvZ h hk t];by_cases e:t+1<=k
  ·rw[if_pos ⟨by omega,(zjQ h hk (by omega)).2 (by omega)⟩,show min t k=t by omega,show min (t+1) k=t+1 by omega];have h1:qL M a (t+1)=qL M a t+M (a+1+t):=rfl;rw[h1];omega
  ·rw[if_neg fun e2=>e (by have:=(zjQ h hk (by omega)).1 e2.2;omega),show min t k=k by omega,show min (t+1) k=k by omega];omega
theorem zBO{M:Nat->Nat}(h:GoodM M){n a:Nat}(ha:a<n)(hl:M (n-1)=1)(hs:a+1<n->M a<=qL M a (n-1-a)):
 sg (fun j=>if a<j/\JQ M a j then(M j:Int)else 0) n=(M a:Int)-if a+1=n then 1 else 0:=by
 obtain⟨k,h1,hk⟩:=zyg h a;have e:=zvZ h hk (n-(a+1));rw[show a+1+(n-(a+1))=n by omega]at e;rw[e];by_cases hc:a+1=n
 ·rw[if_pos hc,show min (n-(a+1)) k=0 by omega];rw[show n-1=a by omega]at hl;rw[hl];rfl
 ·rw[if_neg hc];have h2:=hs (by omega)
  have h3:k<=n-1-a:=Classical.byContradiction fun hn=>by
   have:=Js h a (k:=n-1-a) (k':=k) (by omega);omega
  rw[show min (n-(a+1)) k=k by omega,hk];omega
theorem zqQ{l:List Nat}(i:Nat):∀k,i+1+k<=l.length->qL (fun t=>l.getD t 1) i k=((l.drop (i+1)).take k).sum
 |0,_=>by simp[qL]
 |k+1,h=>by
  have hk:k<(l.drop (i+1)).length:=by rw[yF];omega
  rw[qL,zqQ i k (by omega),List.take_succ_eq_append_getElem hk,List.sum_append,List.getElem_drop];simp only[List.sum_cons,zlN,Nat.add_zero];rw[zd,ze (by omega)];rfl
theorem zDy{M:Nat->Nat}(h:GoodM M)(a:Nat){k k':Nat}(hk:k<=k'):qL M a k<=qL M a k':=by
 by_cases e:k=k'
 ·rw[e];exact zw _
 ·exact Nat.le_of_lt (Js h a (by omega))
def nW(bs:List (List Int))(R:Nat->List Int)(L:Nat->Nat)(m:Nat)(q:Int):Int:=sg (fun k=>sg (fun t=>if(R k).getD t 0=q then(mul (bs.getD k []) t:Int)else 0) (L k)) m
structure Pts (bs ms:List (List Int)) (m:Nat) (R:Nat->List Int) (L:Nat->Nat) (P S Q:List Int):Prop where
 sl:S.length=P.length
 ql:Q.length=P.length
 hin:∀k t,k<m->t<L k->0<=(R k).getD t 0/\(R k).getD t 0<P.length
 sep:∀k k' t t',k<m->k'<m->t<L k->t'<L k'->(R k).getD t 0=(R k').getD t' 0->t=t'/\(k=k'\/(t:Int)<mm ms k k')
 par:∀k t,k<m->t<L k->P.getD ((R k).getD t 0).toNat 0=zGs (R k) t
 sec:∀k t,k<m->t<L k->S.getD ((R k).getD t 0).toNat 0=zGq (bs.getD k []) (R k) t
 wt:∀q:Nat,q<P.length->Q.getD q 0=nW bs R L m q
 sur:∀q:Nat,q<P.length->∃k t,k<m/\t<L k/\(R k).getD t 0=q
 Ky:∀k t,k<m->t+1<L k->(R k).getD t 0<(R k).getD (t+1) 0
 zero:∀k,k<m->0<L k->(R k).getD 0 0=0
structure RowGrow (i j:Nat) (R R':Nat->List Int) (L L':Nat->Nat) (v:Int):Prop where
 lj:L i=j
 rl:(R i).length=j
 r':R' i=R i++[v]
 l':L' i=j+1
 ro:∀k,k<i->R' k=R k
 lo:∀k,k<i->L' k=L k
def sqS:List Int->Int
 |[]=>0
 |m::l=>m*m+sqS l
section
variable {xs:List Int}{k:Nat}
structure Semi (xs ys:List Int) (k e r q L:Nat):Prop where
 e1:(dv xs).getD k 0=(e:Int)
 hr:0<r
 re:r<e
 kk:Kt xs k=((q*e+r:Nat):Int)
 low:∀i,i<L->mul xs i=e*mul ys i
 atL:mul xs L=r
 one:∀i,L<=i->mul ys i=1
 pos:1<=L
 last:mul ys (L-1)=1
 sq:sqS ((Zr xs).take L)=zDp xs k+q*(e*e)
 len:L<(Zr xs).length
end
def dS(M N:Nat->Nat):Nat->Int
 |0=>0
 |n+1=>dS M N n+(M n:Int)*(N n:Int)
theorem zyG{M N:Nat->Nat}(hM:∀i,M i<=64)(hN:∀i,N i<=64):∀n,0<=dS M N n/\dS M N n<=4096*n
 |0=>by simp[dS]
 |n+1=>by
  have ih:=zyG hM hN n;have h1:0<=(M n:Int)*(N n:Int):=Int.mul_nonneg (by omega) (by omega);have h2:(M n:Int)*(N n:Int)<=64*64:=Int.mul_le_mul (by have:=hM n;omega) (by have:=hN n;omega) (by omega) (by omega);simp only[dS];omega
theorem zDV{xs ys:List Int}(hx:Br xs)(hy:Br ys){c:Nat}(hc:c<=1000000):zs8 xs ys c=dS (mul xs) (mul ys) c:=by
 have key:∀n,n<=c->zgO (kB xs c) (kB ys c) n=dS (mul xs) (mul ys) n:=by
  intro n
  induction n with
  |zero=>intro _;rfl
  |succ n ih=>
   intro hn;have b1:=zyG (zdw hx) (zdw hy) n;have b2:=zyG (zdw hx) (zdw hy) (n+1);have h1:0<=(mul xs n:Int)*(mul ys n:Int):=Int.mul_nonneg (by omega) (by omega);have h2:(mul xs n:Int)*(mul ys n:Int)<=64*64:=Int.mul_le_mul (by have:=zdw hx n;omega) (by have:=zdw hy n;omega) (by omega) (by omega);simp only[dS]at b2;simp only[zgO,dS];rw[ih (by omega),zdD,zdD,jp _ _ _ _ (by omega),jp _ _ _ _ (by omega),W,W,zn (n:=(mul xs n:Int)*(mul ys n:Int)),zn (by omega) (by omega)]
 exact key c (zw _)
theorem zAq{M:Nat->Nat}(h:GoodM M)(t:Nat):(zeh M (t+1)= -1/\cd M (t+1) (t+1)=0/\prs M (t+1) (t+1)=[t])\/
 ∃a,a<t/\JQ M a (t+1)/\zeh M (t+1)=a/\cd M (t+1) (t+1)=((t+1:Nat):Int)-a/\prs M (t+1) (t+1)=[a,t]:=by
 have e:=zqh h (i:=t+1) (j:=t+1) (by omega) (zw _);rcases zkT h t with⟨e1,e2⟩|⟨a,h1,h2,h3,h4⟩
 ·refine .inl ⟨e1,?_,e2⟩;rw[e,e2];rfl
 ·refine .inr ⟨a,h1,h2,h3,?_,h4⟩;rw[e,h4];rfl
section
variable {bs ms:List (List Int)}{P S Q:List Int}{R:Nat->List Int}
end
theorem zDl(M N:Nat->Nat):∀n,dS M N n=sg (fun j=>(M j:Int)*(N j:Int)) n
 |0=>rfl
 |n+1=>by rw[dS,sg,zDl M N n]
def dlt(bs ms:List (List Int))(l:List Int):Int:=sg (fun t=>zCl (Zr (bs.getD (l.getD t 0).toNat []))+sg (fun u=>zeM bs ms (l.getD t 0).toNat (l.getD u 0).toNat) t) l.length
def dlC(bs ms:List (List Int))(n:Nat):Int:=sg (fun i=>zCl (Zr (bs.getD i []))+sg (fun k=>zeM bs ms i k) i) n
structure WSt where
 r:Nat
 q:Nat
 sat:Bool
 a:Nat
 fl:Bool
def wty(s:WSt)(m:Nat):Nat:=if s.sat=true then(if s.q<s.r then 1 else if s.r<s.q then 2 else 0)else(if m<s.r then 1 else 0)
def wnx(p:Nat)(s:WSt)(m:Nat):WSt:=
 if wty s m=1 then⟨s.r-m,m,true,if s.sat=true/\s.fl=true then s.a else p-1,true⟩
 else if wty s m=2 then⟨m,s.q-m,true,if s.fl=true then p-1 else s.a,false⟩
 else⟨m,0,false,0,false⟩
def wst(M:Nat->Nat):Nat->WSt
 |0=>⟨M 0,0,false,0,false⟩
 |p+1=>wnx (p+1) (wst M p) (M (p+1))
structure WIn (M:Nat->Nat) (p:Nat) (s:WSt):Prop where
 ns:s.sat=false->s.r=M (p-1)/\s.q=0/\s.a=0/\s.fl=false/\∀a,a+1<p->¬JQ M a p
 ys:s.sat=true->s.a+1<p/\JQ M s.a p/\(s.fl=true->s.r+qL M s.a (p-1-s.a)=M s.a/\s.q=M (p-1))/\(s.fl=false->s.q+qL M s.a (p-1-s.a)=M s.a/\s.r=M (p-1))
theorem zBi(M:Nat->Nat)(a:Nat):qL M a 1=M (a+1):=by
 show 0+M (a+1+0)=_;rw[Nat.zero_add]
structure WLike (s t:WSt):Prop where
 sat:s.sat=t.sat
 a:s.a=t.a
 fl:s.fl=t.fl
def tl(M N:Nat->Nat):Nat->Nat->Int
 |_,0=>0
 |p,n+1=>(M p:Int)*N p+tl M N (p+1) n
structure ShrP (M N:Nat->Nat) (c:Nat):Prop where
 c1:1<=c
 eq:∀t,1<=t->t<c->cd M t t=cd N t t
 ne:cd M c c≠cd N c c\/cd M c c=0
def wt1(M:Nat->Nat)(p:Nat):Nat:=wty (wst M p) (M (p+1))
structure Nums (M:Nat->Nat) (p:Nat) (r q m:Int):Prop where
 er:r=(wst M p).r
 eq:q=(wst M p).q
 em:m=M (p+1)
 m1:1<=m
 mr:m<=r
 q0:0<=q
 ty:(wt1 M p=0/\r=m)\/(wt1 M p=1/\m<r)\/(wt1 M p=2/\r=m/\m<q)
 s1:(wst M p).sat=true->(wt1 M p≠2->q=m)/\m<=q
 s0:(wst M p).sat=false->wt1 M p≠2/\q=0
structure KS where
 w:Int
 u:Int
 v:Int
 g:Int
 al:Int
 be:Int
structure KOk (k:KS) (sat:Bool):Prop where
 w:1<=k.w
 u:1<=k.u
 v:0<=k.v
 g:1<=k.g
 al:1<=k.al
 be:0<=k.be
 b0:sat=false->k.be=0
def jP(fs:List (List Int)):List Int:=fs.flatMap fun r=>List.replicate (r.getD 1 0).toNat (r.getD 0 0)
def zee:List (List Int)->Int
 |[]=>0
 |r::fs=>r.getD 1 0+zee fs
structure FacOk (n:Nat) (fs:List (List Int)):Prop where
 len:fs.length<=24
 row:∀r∈fs,r.length=2/\0<=r.getD 0 0/\r.getD 0 0<n/\0<r.getD 1 0/\r.getD 1 0<=2500000
theorem ztL{l:List Int}:∀{i:Nat} {r:List Int},r∈kC l i->∃k,k<i/\r=[(k:Int),l.getD k 0]/\0<l.getD k 0
 |0,r,h=>by simp[kC]at h
 |i+1,r,h=>by
  rw[kC]at h;rcases List.mem_append.1 h with h|h
  ·obtain⟨k,h1,h2⟩:=ztL h;exact⟨k,by omega,h2⟩
  ·by_cases h0:0<l.getD i 0
   ·rw[if_pos h0,yd]at h;exact⟨i,by omega,h,h0⟩
   ·rw[if_neg h0]at h;cases h
theorem Kv{P S Q:List Int}(h:ClP P S Q):FacOk P.length (kC (jA P S Q) P.length):=by
 refine⟨Nat.le_trans (zkc _ _) h.n24,fun r hr=>?_⟩;obtain⟨k,h1,rfl,h3⟩:=ztL hr;have h4:=zz0 h k;have h5:(jA P S Q).getD k 0=exL P S Q k:=jp _ _ _ _ h1;have e0:([(k:Int),(jA P S Q).getD k 0]:List Int).getD 0 0=k:=rfl;have e1:([(k:Int),(jA P S Q).getD k 0]:List Int).getD 1 0=exL P S Q k:=h5;rw[h5]at h3;rw[e0,e1];exact⟨rfl,by omega,by omega,by omega,by omega⟩
theorem zqR(r:List Int):∀fs:List (List Int),zee (fs++[r])=zee fs+r.getD 1 0
 |[]=>by simp[zee]
 |x::fs=>by rw[List.cons_append,zee,zee,zqR r fs];omega
theorem zhx(fs:List (List Int))(r:List Int):jP (fs++[r])=jP fs++List.replicate (r.getD 1 0).toNat (r.getD 0 0):=by
 rw[jP,ku,<-jP];simp
theorem znd{n:Nat}:∀{fs:List (List Int)},(∀r∈fs,r.length=2/\0<=r.getD 0 0/\r.getD 0 0<n/\0<r.getD 1 0/\r.getD 1 0<=2500000)->zee fs=(jP fs).length/\0<=zee fs/\zee fs<=2500000*fs.length
 |[],_=>by simp[zee,jP]
 |r::fs,h=>by
  obtain⟨h1,h2,h3⟩:=znd (fs:=fs) (fun x hx=>h x (List.mem_cons_of_mem _ hx));have h4:=h r (by simp);have h5:jP (r::fs)=List.replicate (r.getD 1 0).toNat (r.getD 0 0)++jP fs:=rfl;rw[zee,h5,zr,zx,h1,zj];rw[h1]at h3;omega
theorem FacOk.take{n:Nat}{fs:List (List Int)}(h:FacOk n fs)(i:Nat):FacOk n (fs.take i):=⟨by rw[List.length_take];have:=h.len;omega,fun r hr=>h.row r (List.mem_of_mem_take hr)⟩
theorem FacOk.get{n:Nat}{fs:List (List Int)}(h:FacOk n fs){i:Nat}(hi:i<fs.length):(fs.getD i []).length=2/\0<=(fs.getD i []).getD 0 0/\(fs.getD i []).getD 0 0<n/\0<(fs.getD i []).getD 1 0/\(fs.getD i []).getD 1 0<=2500000:=
 h.row _ (zcF hi)
theorem zkQ{fs:List (List Int)}{i:Nat}(hi:i<fs.length):fs.take (i+1)=fs.take i++[fs.getD i []]:=zky fs i hi
theorem zBH(fs:List (List Int))(i:Nat):∃t,jP fs=jP (fs.take i)++t:=by
 refine⟨jP (fs.drop i),?_⟩
 conv=>lhs;rw[<-List.take_append_drop i fs]
 rw[jP,ku];rfl
theorem zby{n:Nat}{fs:List (List Int)}(h:FacOk n fs):∀x∈jP fs,0<=x/\x<n:=by
 intro x hx;rw[jP,List.mem_flatMap]at hx;obtain⟨r,hr,hx⟩:=hx;have h1:=h.row r hr;have h2:=List.eq_of_mem_replicate hx;omega
theorem zBI{n:Nat}{fs:List (List Int)}(h:FacOk n fs){i:Nat}(hi:i<fs.length):(fs.getD i []).getD 0 0∈jP fs:=by
 have h1:=h.get hi;rw[jP,List.mem_flatMap];exact⟨_,zcF hi,List.mem_replicate.2 ⟨by omega,rfl⟩⟩
def qZ(P S:List Int)(x:Int):List Int:=YG (jc P S x)
def Kb(P S:List Int)(x:Int):Bool:=okC (jc P S x)
theorem zua{P S:List Int}{x:Int}(h:Kb P S x=true):za3 (jc P S x)=(I (qZ P S x),0):=by rw[za3,show okC (jc P S x)=true from h];rfl
theorem zwI{P S:List Int}{x:Int}(h:Kb P S x=false):za3 (jc P S x)=([],5):=by rw[za3,show okC (jc P S x)=false from h];rfl
theorem znP{P S Q:List Int}(h:ClP P S Q){x:Int}(h0:0<=x)(h1:x<P.length)(hok:Kb P S x=true):(qZ P S x).length<=3000:=by
 have hl:=uD h (show-1<=x by omega) h1;have hcl:(jc P S x).length<=30:=by rw[jc,Yj];omega
 obtain⟨⟨n,l,hs⟩,_⟩:=znh hcl hok 0;rw[List.replicate_zero,yp]at hs;rw[qZ,YG,zf6 hs,qD,zj];have hv:=zlV l n n hs.1.val (by have:=hs.1.hi;omega);omega
def Jf(P:List Int)(ps:List Int)(i k:Nat):Int:=if i=k then 0 else(JY (zC P (ps.getD i 0)) (zC P (ps.getD k 0)):Nat)
def zfo(P S:List Int)(ps:List Int):List V×List V×Int:=if ps.length=0\/6<ps.length then([],[],3)else bif ps.all (Kb P S)then(BB true (ps.map (qZ P S)),II true (T2 ps.length (Jf P ps)),0)else([],[],5)
noncomputable def uN(a b c:List V):List V×List V×Int:=bif yZ a b c then(bif uR a b c then zfo (yD a) (yD b) (jP (kC (jA (yD a) (yD b) (yD c)) a.length))else([],[],5))else([],[],1)
def Qo(P ps:List Int)(i k a b:Nat):Int:=if a<i\/(a=i/\b<k)then Jf P ps a b else 0
theorem zAi(P ps:List Int)(n:Nat):List.replicate n (List.replicate n (0:Int))=T2 n (Qo P ps 0 0):=by
 rw[zwR];exact zcK fun a b _ _=>by rw[Qo,if_neg (by omega)]
theorem zCq(P ps:List Int)(i n:Nat):T2 n (Qo P ps i n)=T2 n (Qo P ps (i+1) 0):=zcK fun a b ha hb=>by
 rw[Qo,Qo];by_cases h:a<i+1
 ·rw[if_pos (by omega),if_pos (by omega)]
 ·rw[if_neg (by omega),if_neg (by omega)]
theorem zCr(P ps:List Int)(n:Nat):T2 n (Qo P ps n 0)=T2 n (Jf P ps):=zcK fun a b ha hb=>by rw[Qo,if_pos (by omega)]
theorem zCp{P ps:List Int}{i k n:Nat}(hi:i<n)(hk:k<n)(h:i≠k):(T2 n (Qo P ps i k)).set i (((T2 n (Qo P ps i k)).getD i []).set k (JY (zC P (ps.getD i 0)) (zC P (ps.getD k 0)):Nat))=T2 n (Qo P ps i (k+1)):=by
 refine zuI hi hk ?_ fun a b ha hb hab=>?_
 ·rw[Qo,if_pos (by omega),Jf,if_neg h]
 ·rw[Qo,Qo];by_cases h1:a<i\/(a=i/\b<k)
  ·rw[if_pos (by omega),if_pos h1]
  ·rw[if_neg (by omega),if_neg h1]
theorem zAj{P ps:List Int}{i n:Nat}:T2 n (Qo P ps i i)=T2 n (Qo P ps i (i+1)):=zcK fun a b ha hb=>by
 rw[Qo,Qo];by_cases h1:a<i\/(a=i/\b<i)
 ·rw[if_pos h1,if_pos (by omega)]
 ·by_cases h2:a=i/\b=i
  ·rw[if_neg h1,if_pos (by omega),Jf,if_pos (by omega)]
  ·rw[if_neg h1,if_neg (by omega)]
theorem zf4{cs:List Nat}(hl:cs.length<=30)(ho:okC cs=true):Br (YG cs)/\∀j,mul (YG cs) j=(mC cs).getD j 1:=by
 obtain⟨n,l,m,h1,h2⟩:=zwb hl ho;have hs:zlL n l (yg (mC cs)):=⟨h1,by rw[yg];simp[zDd],m,by rw[h2]⟩;have e:YG cs=yg (n::l):=by rw[YG,zf6 hs]
 refine⟨by rw[e];exact zld h1,fun j=>?_⟩;have e1:=zni (YG cs) j;rw[e,zv1 h1]at e1;have e3:((yg (uw 0 n l)).getD j 1:Int)=(yg (uw 0 n l)++List.replicate m 1).getD j 1:=(zhH _ m j).symm;have e4:yg (uw 0 n l)++List.replicate m 1=yg (mC cs):=by rw[h2,Ys];congr 1;simp[yg]
 have e5:=YC (mC cs) j 1;rw[e3,e4]at e1;rw[e];have:((1:Nat):Int)=1:=rfl;rw[this]at e5;omega
theorem ztf:∀(cs:List Nat) (j:Nat),j<=cs.length->(mC cs).drop j=mC (cs.drop j)
 |cs,0,_=>rfl
 |[],j+1,h=>by simp at h
 |c::cs,j+1,h=>by
  rw[mC,List.drop_succ_cons,List.drop_succ_cons];exact ztf cs j (by simpa using h)
theorem zte(cs:List Nat){i:Nat}(h:cs.length<=i):(mC cs).getD i 1=1:=by
 by_cases e:i=cs.length
 ·have h1:=zep cs cs.length (zw _);rw[List.drop_length]at h1;have h2:Kc []=1:=rfl;rw[h2]at h1;rw[e,zd,ze (by rw[ZI];omega)];rw[zd,ze (by rw[ZI];omega)]at h1;exact h1
 ·rw[zd,zy (by rw[ZI];omega)];rfl
theorem zzE(cs:List Nat)(i:Nat):qL (fun t=>(mC cs).getD t 1) i (Yi 2 (cs.drop (i+1))+1)=(mC cs).getD i 1:=by
 by_cases h:i<cs.length
 ·have hlen:(mC cs).length=cs.length+1:=ZI cs;have h1:=zmb (cs.drop (i+1)) 2;rw[yF]at h1;rw[zqQ i _ (by rw[hlen];omega),ztf cs (i+1) (by omega)];have h2:=zep cs i (by omega);rw[zf3 h]at h2;have h3:Kc (cs.getD i 0::cs.drop (i+1))=((mC (cs.drop (i+1))).take (Yi 2 (cs.drop (i+1))+1)).sum:=by rw[Kc,mC];rfl
  rw[<-h3,<-h2,zd,zd,ze (by omega)];rfl
 ·rw[List.drop_of_length_le (by omega)];show qL (fun t=>(mC cs).getD t 1) i 1=_;rw[zBi,zte cs (by omega),zte cs (by omega)]
theorem zwh:∀(cs:List Nat) (s n:Nat),n<=cs.length->(∀u,u<n->cs.getD u 0=s+u)->n<=Yi s cs
 |[],s,n,h,_=>by
  have h0:n=0:=by simpa using h
  rw[h0];exact Nat.zero_le _
 |c::cs,s,0,_,_=>Nat.zero_le _
 |c::cs,s,n+1,h,hu=>by
  have h0:=hu 0 (by omega);rw[qh]at h0
  have ih:=zwh cs (s+1) n (by simpa using h) fun u hun=>by
   have:=hu (u+1) (by omega);rw[yT]at this;omega
  rw[Yi,if_pos (by omega)];omega
theorem zrh(cs:List Nat)(k u:Nat):(cs.drop k).getD u 0=cs.getD (k+u) 0:=by
 rw[zd,List.getElem?_drop,zd]
theorem VC.run{cs:List Nat}(hv:VC cs){t:Nat}(ht:t<cs.length)(h0:cs.getD t 0≠0):∀u,u+2<=cs.getD t 0->cs.getD (t-u) 0+u=cs.getD t 0
 |0,_=>rfl
 |u+1,hu=>by
  have ih:=VC.run hv ht h0 u (by omega);have hle:=(hv.le t ht).1;rcases hv (t-u) (by omega)with h|⟨h1,h|⟨h2,h3⟩⟩
  ·omega
  ·omega
  ·rw[show t-(u+1)=t-u-1 by omega];omega
theorem znO{cs:List Nat}(hl:cs.length<=30)(hv:VC cs)(ho:okC cs=true)(t:Nat):cd (mul (YG cs)) (t+1) (t+1)=(cs.getD t 0:Nat):=by
 obtain⟨hb,hm⟩:=zf4 hl ho;have hg:=(KU hb).1;have hM:mul (YG cs)=fun t=>(mC cs).getD t 1:=funext hm;have hk:∀i,qL (mul (YG cs)) i (Yi 2 (cs.drop (i+1))+1)=mul (YG cs) i:=fun i=>by rw[hM];exact zzE cs i
 rcases zAq hg t with⟨e1,e2,_⟩|⟨a,a1,a2,a3,a4,_⟩
 ·rw[e2];refine Classical.byContradiction fun hne=>?_;have h0:cs.getD t 0≠0:=fun h=>hne (by rw[h];rfl);have ht:t<cs.length:=Classical.byContradiction fun h=>h0 (by rw[zd,zy (by omega)];rfl);obtain⟨c1,c2⟩:=hv.le t ht;obtain⟨a,ha⟩:∃a,a+cs.getD t 0=t+1:=⟨t+1-cs.getD t 0,by omega⟩
  have hlead:=zwh (cs.drop (a+1)) 2 (t-a) (by rw[yF];omega) fun u hu=>by
   rw[zrh];have:=VC.run hv ht h0 (t-(a+1+u)) (by omega);rw[show t-(t-(a+1+u))=a+1+u by omega]at this;omega
  have hp:JQ (mul (YG cs)) a (t+1):=(zjQ hg (hk a) (by omega)).2 (by omega);have:=zDF hg (a:=a) (j:=t) (by omega) hp;omega
 ·rw[a4];have h1:=(zjQ hg (hk a) (by omega)).1 a2;have h2:=zwi (cs.drop (a+1)) 2 (t-a-1) (by omega);rw[zrh,show a+1+(t-a-1)=t by omega]at h2;omega
theorem mul_zero{xs:List Int}(h:Br xs):(mul xs 0:Int)=xs.getD 0 0:=by
 have h1:=h.low 0 h.pos;by_cases hl:xs.length=1
 ·have h2:=h.dlast;have h3:=h.d0;rw[hl]at h2;have e:zle xs=[]:=by rw[zle,hl];rfl
  have:mul xs 0=1:=by rw[mul,e];rfl
  rw[this];simp only[Nat.sub_self]at h2;omega
 ·obtain⟨n,hn⟩:∃n,xs.length-1=n+1:=⟨xs.length-2,by have:=h.pos;omega⟩;have h2:xs.getD 0 0<xs.getD 1 0:=h.up 0 (by omega);have e:zle xs=ex (kkN xs 0) (ddN xs 0)++zdT (blk xs 1 n):=by rw[zle,hn];rfl
  have hd:ddN xs 0=(xs.getD 0 0).toNat:=by rw[ddN,h.d0]
  have hk:kkN xs 0=(xs.getD 1 0).toNat:=by rw[kkN,Kt,if_pos rfl];simp
  have hpos:0<ddN xs 0:=by omega
  have hq:0<kkN xs 0/ddN xs 0:=Nat.div_pos (by rw[hd,hk];omega) hpos;have:mul xs 0=ddN xs 0:=by rw[mul,e,uS hpos,zU,zgH,if_pos hq]
  rw[this,hd];omega
theorem zEj(M N:Nat->Nat):∀n,dS M N n=dS N M n
 |0=>rfl
 |n+1=>by rw[dS,dS,zEj M N n,zlQ]
structure LstOk (n:Nat) (l:List Int):Prop where
 n1:1<=l.length
 inn:InL n l
 Ky:∀i j,i<j->j<l.length->l.getD i 0<l.getD j 0
def sL(f:Nat->Int)(l:List Int):Int:=sg (fun t=>f (l.getD t 0).toNat) l.length
theorem zDD(g:Int->Nat->Int)(l:List Int)(x:Int):sg (fun t=>g ((l++[x]).getD t 0) t) (l++[x]).length=sg (fun t=>g (l.getD t 0) t) l.length+g x l.length:=by
 have e:(l++[x]).length=l.length+1:=by simp
 rw[e,sg,zrg (zw _),if_pos rfl];rw[kV (n:=l.length) fun t ht=>by rw[zrg (by omega),if_neg (by omega)]]
theorem zDG(f:Nat->Int)(l:List Int)(x:Int):sL f (l++[x])=sL f l+f x.toNat:=zDD (fun y _=>f y.toNat) l x
def crs(bs ms:List (List Int))(a b:List Int):Int:=sL (fun i=>sL (fun k=>zeM bs ms i k) b) a
structure SpOk (bs ms:List (List Int)) (r:Nat) (a b:List Int):Prop where
 all:∀f:Nat->Int,sg f r=sL f a+sL f b
 ina:InL r a
 inb:InL r b
 asca:∀i j,i<j->j<a.length->a.getD i 0<a.getD j 0
 ascb:∀i j,i<j->j<b.length->b.getD i 0<b.getD j 0
 len:a.length+b.length=r
 dl:dlC bs ms r=dlt bs ms a+dlt bs ms b+crs bs ms a b
theorem zs2(bs:List (List Int)):∀n,zcq bs n=sg (fun i=>(bs.getD i []).getD 0 0) n
 |0=>rfl
 |n+1=>by rw[zcq,sg,zs2 bs n]
structure CvW (bs ms:List (List Int)):Prop where
 n6:bs.length<=6
 len:ms.length=bs.length
 br:∀i,i<bs.length->Br (bs.getD i [])
 rl:∀k,k<bs.length->(ms.getD k []).length=bs.length
 ent:∀i k,i<bs.length->k<bs.length->i≠k->1<=mm ms i k/\mm ms i k<=200
theorem zGb{xs ys:List Int}{c:Nat}(h:ShrP (mul xs) (mul ys) c)(c2:c<=200):shr xs ys c=true:=by
 have c1:=h.c1;rw[shr,zev,Bool.and_eq_true,decide_eq_true_eq,zbG xs (c:=c-1) (k:=201) (by omega),zbG ys (c:=c-1) (k:=201) (by omega),zc0 xs (k:=201) (by omega),zc0 ys (k:=201) (by omega),show c-1+1=c by omega];refine⟨?_,by simpa using h.ne⟩;rw[jv,jv];exact qE fun t ht=>h.eq (t+1) (by omega) (by omega)
section
variable {P S Q:List Int}
theorem zl5(h:ClP P S Q):∀i:Int,-1<=i->i<P.length->∀z∈zC P i,∃r,zC P i=zC P z++r:=by
 refine znt h (fun z hz=>by rw[zjP]at hz;cases hz) (fun i h0 h1 ih z hz=>?_);rw[uv h h0 h1]at hz ⊢;rcases List.mem_append.1 hz with hz|hz
 ·obtain⟨r,hr⟩:=ih z hz;exact⟨r++[i],by rw[hr,zU]⟩
 ·rw[yd]at hz;exact⟨[],by rw[hz,yp,uv h h0 h1]⟩
theorem JK(h:ClP P S Q){i:Int}(h0:0<=i)(h1:i<P.length):1<=(zC P i).length/\(zC P i).getD ((zC P i).length-1) 0=i/\i∈zC P i:=by
 rw[uv h h0 h1];refine⟨by simp,?_,by simp⟩;rw[show(zC P (P.getD i.toNat 0)++[i]).length-1=(zC P (P.getD i.toNat 0)).length by simp];exact zlo _ _
theorem ZG(h:ClP P S Q){i:Int}(h0:0<=i)(h1:i<P.length){t:Nat}(ht:t<(zC P i).length):0<=(zC P i).getD t 0/\(zC P i).getD t 0<P.length/\(zC P i).getD t 0∈zC P i:=by
 obtain⟨x1,x2⟩:=zjS h h0 h1 ht;refine⟨x1,x2,?_⟩;rw[zd,ze ht];exact List.getElem_mem _
theorem ziG(h:ClP P S Q){i:Int}(h0:0<=i)(h1:i<P.length){t:Nat}(ht:t<(zC P i).length):(zC P ((zC P i).getD t 0)).length=t+1:=by
 obtain⟨x1,x2,x3⟩:=ZG h h0 h1 ht;obtain⟨r,hr⟩:=zl5 h i (by omega) h1 _ x3;obtain⟨l1,l2,_⟩:=JK h x1 x2;have hn:=Zn h (i:=i) (by omega) h1;obtain⟨z,hz⟩:=qEx ((zC P i).getD t 0);rw[<-hz]at hr l1 l2 ⊢;have hlt:(zC P z).length-1<(zC P i).length:=by rw[hr,zr];omega
 have e1:(zC P i).getD ((zC P z).length-1) 0=z:=by rw[hr,zgI (by omega)];exact l2
 have e2:(zC P i)[(zC P z).length-1]=(zC P i)[t]:=by rw[Qz hlt,Qz ht,e1,hz]
 have:=(uH hn).1 e2;omega
theorem zl6(h:ClP P S Q){i:Int}(h0:0<=i)(h1:i<P.length){t:Nat}(ht:t+1<(zC P i).length):P.getD ((zC P i).getD (t+1) 0).toNat 0=(zC P i).getD t 0:=by
 obtain⟨x1,x2,x3⟩:=ZG h h0 h1 ht;obtain⟨r,hr⟩:=zl5 h i (by omega) h1 _ x3;have hl:=ziG h h0 h1 ht;obtain⟨z,hz⟩:=qEx ((zC P i).getD (t+1) 0);rw[<-hz]at hr hl x1 x2 ⊢;have hstep:=uv h x1 x2;have hw:=h.low (i:=z.toNat) (by omega);obtain⟨w,hw0⟩:=qEx (P.getD z.toNat 0);rw[<-hw0]at hstep hw ⊢;have hwl:(zC P w).length=t+1:=by rw[hstep]at hl;simpa using hl
 have w0:0<=w:=Classical.byContradiction fun hn=>by
  have:w= -1:=by omega
  rw[this,zjP]at hwl;simp at hwl
 obtain⟨_,l2,_⟩:=JK h w0 (by omega);rw[hwl,qJ]at l2;rw[hr,hstep,zU,zgI (by omega),l2]
structure ShC (a b:List Int) (c:Nat):Prop where
 ca:c<=a.length
 cb:c<=b.length
 eq:∀t,t<c->a.getD t 0=b.getD t 0
 na:∀t,c<=t->t<a.length->a.getD t 0∉b
 nb:∀t,c<=t->t<b.length->b.getD t 0∉a
theorem zyC{a b:List Int}{c:Nat}(hc:c<=a.length)(h1:∀t,t<c->a.getD t 0∈b)(h2:∀t,c<=t->t<a.length->a.getD t 0∉b):JY a b=c:=by
 have key:∀n,n<=a.length->JY (a.take n) b=min n c:=by
  intro n
  induction n with
  |zero=>intro _;simp[JY]
  |succ n ih=>
   intro hn;rw[zng (by omega),ih (by omega)];by_cases e:n<c
   ·rw[if_pos (h1 n e)];omega
   ·rw[if_neg (h2 n (by omega) (by omega))];omega
 have:=key a.length (zw _);rw[List.take_length]at this;omega
theorem zcR(h:ClP P S Q){i k:Int}(i0:0<=i)(i1:i<P.length)(k0:0<=k)(k1:k<P.length):ShC (zC P i) (zC P k) (JY (zC P i) (zC P k))/\1<=JY (zC P i) (zC P k):=by
 have zero:∀{j:Int},0<=j->j<P.length->(zC P j).getD 0 0=0:=fun{j} j0 j1=>by
  obtain⟨l1,_,_⟩:=JK h j0 j1;have hl:=ziG h j0 j1 (t:=0) (by omega);obtain⟨x1,x2,_⟩:=ZG h j0 j1 (t:=0) (by omega);obtain⟨z,hz⟩:=qEx ((zC P j).getD 0 0);rw[<-hz]at hl x1 x2 ⊢;have hs:=uv h x1 x2;have hw:=h.low (i:=z.toNat) (by omega);refine Classical.byContradiction fun hne=>?_;have hp:=hw.2.2.2.2.1 (by omega);obtain⟨m1,_,_⟩:=JK h hp (by omega);rw[hs,zr,zW]at hl;omega
 have same:∀{j l:Int},0<=j->j<P.length->0<=l->l<P.length->∀t,t<(zC P j).length->(zC P j).getD t 0∈zC P l->∀u,u<=t->(zC P j).getD u 0=(zC P l).getD u 0/\u<(zC P l).length:=fun{j l} j0 j1 l0 l1 t ht hm u hu=>by
  obtain⟨x1,x2,x3⟩:=ZG h j0 j1 ht;obtain⟨r,hr⟩:=zl5 h j (by omega) j1 _ x3;obtain⟨s,hs⟩:=zl5 h l (by omega) l1 _ hm;have hl:=ziG h j0 j1 ht;refine⟨?_,by rw[hs,zr];omega⟩;rw[hs]
  conv=>lhs;rw[hr]
  rw[zgI (by omega),zgI (by omega)]
 have ex:∀n,n<=(zC P i).length->∃c,c<=n/\(∀t,t<c->(zC P i).getD t 0∈zC P k)/\∀t,c<=t->t<n->(zC P i).getD t 0∉zC P k:=by
  intro n
  induction n with
  |zero=>exact fun _=>⟨0,zw _,fun t ht=>by omega,fun t _ ht=>by omega⟩
  |succ n ih=>
   intro hn;obtain⟨c,c1,c2,c3⟩:=ih (by omega);by_cases hm:(zC P i).getD n 0∈zC P k
   ·refine⟨n+1,zw _,fun t ht=>?_,fun t h1 h2=>by omega⟩;obtain⟨e,hlt⟩:=same i0 i1 k0 k1 n (by omega) hm t (by omega);rw[e];exact(ZG h k0 k1 hlt).2.2
   ·refine⟨c,by omega,c2,fun t h1 h2=>?_⟩;by_cases e:t=n
    ·rw[e];exact hm
    ·exact c3 t h1 (by omega)
 obtain⟨c,c1,c2,c3⟩:=ex _ (zw _);have e:=zyC c1 c2 c3;rw[e];have eqq:∀t,t<c->(zC P i).getD t 0=(zC P k).getD t 0/\t<(zC P k).length:=fun t ht=>same i0 i1 k0 k1 t (by omega) (c2 t ht) t (zw _)
 have hck:c<=(zC P k).length:=by
  by_cases hc0:c=0
  ·omega
  ·have:=(eqq (c-1) (by omega)).2;omega
 have hpos:1<=c:=by
  refine Classical.byContradiction fun hn=>?_;obtain⟨l1,_,_⟩:=JK h i0 i1;obtain⟨m1,_,_⟩:=JK h k0 k1;refine c3 0 (by omega) (by omega) ?_;rw[zero i0 i1,<-zero k0 k1];exact(ZG h k0 k1 (t:=0) (by omega)).2.2
 refine⟨⟨c1,hck,fun t ht=>(eqq t ht).1,c3,fun t h1 h2 hm=>?_⟩,hpos⟩;obtain⟨e2,hlt⟩:=same k0 k1 i0 i1 t h2 hm t (zw _);refine c3 t h1 hlt ?_;rw[<-e2];exact(ZG h k0 k1 h2).2.2
theorem zf5(h:ClP P S Q){i:Int}(i0:0<=i)(i1:i<P.length){t:Nat}(ht:t+1<(zC P i).length):
 (S.getD ((zC P i).getD (t+1) 0).toNat 0<0/\(jc P S i).getD t 0=0)\/∃a,a<t/\S.getD ((zC P i).getD (t+1) 0).toNat 0=(zC P i).getD a 0/\(jc P S i).getD t 0+a=t+1:=by
 have e:(jc P S i).getD t 0=YX S (zC P i) (t+1):=by rw[jc,cdN,jp _ _ _ _ (by omega)]
 rw[e,YX];by_cases hs:0<=S.getD ((zC P i).getD (t+1) 0).toNat 0
 ·right;rw[if_pos hs];obtain⟨x1,x2,x3⟩:=ZG h i0 i1 ht;have hm:=(zcT h i (by omega) i1).1 _ x3 hs;obtain⟨z,hz⟩:=qEx ((zC P i).getD (t+1) 0);rw[<-hz]at hs hm x1 x2 ⊢;obtain⟨s,hs0⟩:=qEx (S.getD z.toNat 0);rw[<-hs0]at hs hm ⊢;obtain⟨a,ha,hae⟩:=qS.1 hm;rw[Qz ha]at hae;have hn:=Zn h (i:=i) (by omega) i1
  have hidx:idx (zC P i) s=a:=by
   rw[ziM hm];have h2:=List.idxOf_lt_length_of_mem hm;have h3:=List.getElem_idxOf h2;have h4:(zC P i)[(zC P i).idxOf s]=(zC P i)[a]:=(by rw[h3,Qz ha,hae]);have:=(uH hn).1 h4;omega
  have hlt:a<t:=by
   have hw:=h.low (i:=z.toNat) (by omega);have hz0:0<z.toNat:=Classical.byContradiction fun hn=>(by have:=(hw.2.2.2.2.2 (by omega)).2;omega);have hpl:=(zaT (by omega)).1 (h.place z.toNat (by omega));have hpar:=zl6 h i0 i1 ht;rw[<-hz]at hpar
   have hsp:s<P.getD z.toNat 0:=by
    rw[<-hs0]at hpl;obtain⟨⟨q0,q1⟩,q2⟩:=hpl;have hwp:=h.low (i:=(P.getD z.toNat 0).toNat) (by omega);rcases q2 with q2|⟨_,q2|q2⟩
    ·omega
    ·rw[q2];omega
    ·rw[q2];by_cases hp0:(P.getD z.toNat 0).toNat=0
     ·have:=(hwp.2.2.2.2.2 hp0).2;omega
     ·have:=hwp.2.2.2.1 (by omega);omega
   have hasc:=(zej h i (by omega) i1).2;rw[hpar]at hsp;refine Classical.byContradiction fun hn=>?_
   have:(zC P i).getD t 0<=(zC P i).getD a 0:=by
    by_cases e2:a=t
    ·rw[e2];exact Int.le_refl _
    ·have h5:=List.pairwise_iff_getElem.1 hasc t a (by omega) ha (by omega);rw[Qz ha,Qz (by omega)]at h5;omega
   omega
  refine⟨a,hlt,hae.symm,?_⟩;rw[hidx];omega
 ·left;rw[if_neg hs];exact⟨by omega,rfl⟩
theorem zAd(h:ClP P S Q){i k:Int}(i0:0<=i)(i1:i<P.length)(k0:0<=k)(k1:k<P.length)(oi:Kb P S i=true)(ok:Kb P S k=true):ShrP (mul (qZ P S i)) (mul (qZ P S k)) (JY (zC P i) (zC P k)):=by
 obtain⟨⟨ca,cb,ceq,na,nb⟩,c1⟩:=zcR h i0 i1 k0 k1;have li:=uD h (i:=i) (by omega) i1;have lk:=uD h (i:=k) (by omega) k1;have cli:(jc P S i).length<=30:=by rw[jc,Yj];omega
 have clk:(jc P S k).length<=30:=by rw[jc,Yj];omega
 have vi:=(zcT h i (by omega) i1).2;have vk:=(zcT h k (by omega) k1).2;obtain⟨c,hc⟩:=qEx (JY (zC P i) (zC P k));rw[<-hc]at ca cb ceq na nb c1 ⊢;have code:∀t,cd (mul (qZ P S i)) (t+1) (t+1)=((jc P S i).getD t 0:Nat):=fun t=>znO cli vi oi t;have codk:∀t,cd (mul (qZ P S k)) (t+1) (t+1)=((jc P S k).getD t 0:Nat):=fun t=>znO clk vk ok t;refine⟨c1,fun t t1 t2=>?_,?_⟩
 ·obtain⟨u,rfl⟩:∃u,t=u+1:=⟨t-1,by omega⟩;rw[code,codk];have e0:=ceq (u+1) (by omega);rcases zf5 h i0 i1 (t:=u) (by omega)with⟨x1,x2⟩|⟨a,a1,a2,a3⟩<;>rcases zf5 h k0 k1 (t:=u) (by omega)with⟨y1,y2⟩|⟨b,b1,b2,b3⟩
  ·rw[x2,y2]
  ·rw[e0,b2]at x1;have:=(ZG h k0 k1 (t:=b) (by omega)).1;omega
  ·rw[<-e0,a2]at y1;have:=(ZG h i0 i1 (t:=a) (by omega)).1;omega
  ·rw[e0,b2,<-ceq b (by omega)]at a2;have hn:=Zn h (i:=i) (by omega) i1;have e2:(zC P i)[b]=(zC P i)[a]:=(by rw[Qz (by omega),Qz (by omega),a2]);have:=(uH hn).1 e2;omega
 ·obtain⟨u,hu⟩:∃u,c=u+1:=⟨c-1,by omega⟩;rw[hu,code,codk];by_cases hi:u+1<(zC P i).length
  ·by_cases hk:u+1<(zC P k).length
   ·
     rcases zf5 h i0 i1 hi with⟨x1,x2⟩|⟨a,a1,a2,a3⟩
     ·right;rw[x2];rfl
     ·rcases zf5 h k0 k1 hk with⟨y1,y2⟩|⟨b,b1,b2,b3⟩
      ·left;rw[y2];omega
      ·left;intro hcd;have hab:a=b:=(by omega);subst hab;have pi:=zl6 h i0 i1 hi;have pk:=zl6 h k0 k1 hk;have zi:=ZG h i0 i1 hi;have zk:=ZG h k0 k1 hk;have hne:(zC P i).getD (u+1) 0≠(zC P k).getD (u+1) 0:=fun e=>na (u+1) (by omega) hi (by rw[e];exact zk.2.2);have ha0:=(ZG h i0 i1 (t:=a) (by omega)).1;rw[ceq u (by omega)]at pi;have eS:S.getD ((zC P i).getD (u+1) 0).toNat 0=S.getD ((zC P k).getD (u+1) 0).toNat 0:=(by rw[a2,b2,ceq a (by omega)]);have eP:P.getD ((zC P i).getD (u+1) 0).toNat 0=P.getD ((zC P k).getD (u+1) 0).toNat 0:=by rw[pi,pk]
       have fin:∀x y:Nat,x<P.length->y<x->0<=S.getD x 0->S.getD x 0=S.getD y 0->P.getD x 0=P.getD y 0->False:=fun x y hx hy hs e1 e2=>by
        have:=h.diff x y hx hy;rw[Jc,decide_eq_true hs,decide_eq_true e1,decide_eq_true e2]at this;cases this
       rcases Nat.lt_trichotomy ((zC P i).getD (u+1) 0).toNat ((zC P k).getD (u+1) 0).toNat with hl|hl|hl
       ·exact fin _ _ (by omega) hl (by rw[<-eS,a2];exact ha0) eS.symm eP.symm
       ·omega
       ·exact fin _ _ (by omega) hl (by rw[a2];exact ha0) eS eP
   ·
     have e0:(jc P S k).getD u 0=0:=(by rw[zd,zy (by rw[jc,Yj];omega)];rfl);rw[e0];by_cases e1:(jc P S i).getD u 0=0
     ·right;rw[e1];rfl
     ·left;omega
  ·right;rw[zd,zy (by rw[jc,Yj];omega)];rfl
theorem zFn(h:ClP P S Q){ps:List Int}(h1:1<=ps.length)(h6:ps.length<=6)(hin:∀x∈ps,0<=x/\x<P.length)(hok:ps.all (Kb P S)=true):CvP (ps.map (qZ P S)) (T2 ps.length (Jf P ps)):=by
 have hp:∀i,i<ps.length->0<=ps.getD i 0/\ps.getD i 0<P.length/\Kb P S (ps.getD i 0)=true:=fun i hi=>by
  have hm:ps.getD i 0∈ps:=ky hi;have:=hin _ hm;rw[yc]at hok;exact⟨this.1,this.2,hok _ hm⟩
 have hl:(ps.map (qZ P S)).length=ps.length:=List.length_map _
 have gb:∀i,i<ps.length->(ps.map (qZ P S)).getD i []=qZ P S (ps.getD i 0):=fun i hi=>by
  rw[zd,zK,ze hi];simp only[Option.map_some,qv];rw[Qz hi]
 have gm:∀i k,i<ps.length->k<ps.length->mm (T2 ps.length (Jf P ps)) i k=Jf P ps i k:=fun i k hi hk=>by rw[mm,zpn _ hi hk]
 have gc:∀i k,i<ps.length->k<ps.length->i≠k->Jf P ps i k=(JY (zC P (ps.getD i 0)) (zC P (ps.getD k 0)):Nat)/\1<=Jf P ps i k/\Jf P ps i k<=24:=fun i k hi hk hne=>by
  obtain⟨a1,a2,_⟩:=hp i hi;obtain⟨b1,b2,_⟩:=hp k hk;have hs:=(zcR h a1 a2 b1 b2).2;have hle:=zoc (zC P (ps.getD i 0)) (zC P (ps.getD k 0));have hlen:=uD h (i:=ps.getD i 0) (by omega) a2;rw[Jf,if_neg hne];exact⟨rfl,by omega,by omega⟩
 have hsym:∀i k,i<ps.length->k<ps.length->Jf P ps k i=Jf P ps i k:=fun i k hi hk=>by
  by_cases e:i=k
  ·rw[e]
  ·obtain⟨a1,a2,_⟩:=hp i hi;obtain⟨b1,b2,_⟩:=hp k hk;rw[(gc i k hi hk e).1,(gc k i hk hi fun x=>e x.symm).1,zso (Zn h (by omega) b2) (Zn h (by omega) a2)]
 refine⟨by rw[hl];exact h1,by rw[hl];exact h6,⟨by rw[hl,zgY],fun i hi=>?_,fun i hi k hk=>?_⟩,fun i hi=>?_,fun i k hi hk hne=>?_,fun i k j hi hk hj hik hji hjk=>?_⟩
 ·rw[hl]at hi ⊢;refine⟨by rw[ze5 _ hi];exact yi _ _,fun k hk=>?_⟩;rw[gm i k hi hk];refine⟨fun e=>by rw[Jf,if_pos e],fun e=>?_⟩;have:=gc i k hi hk e;omega
 ·rw[hl]at hi hk;rw[gm i k hi hk,gm k i hk hi];exact hsym i k hi hk
 ·rw[hl]at hi;rw[gb i hi];obtain⟨a1,a2,a3⟩:=hp i hi;have hlen:=uD h (i:=ps.getD i 0) (by omega) a2;exact(zf4 (cs:=jc P S (ps.getD i 0)) (by rw[jc,Yj];omega) a3).1.is
 ·rw[hl]at hi hk;rw[gb i hi,gb k hk,gm i k hi hk];obtain⟨a1,a2,a3⟩:=hp i hi;obtain⟨b1,b2,b3⟩:=hp k hk;obtain⟨c1,c2,c3⟩:=gc i k hi hk hne;rw[c1,zL];exact zGb (zAd h a1 a2 b1 b2 a3 b3) (by omega)
 ·rw[hl]at hi hk hj;rw[gm i k hi hk,gm i j hi hj,gm j k hj hk];obtain⟨a1,a2,_⟩:=hp i hi;obtain⟨b1,b2,_⟩:=hp k hk;obtain⟨d1,d2,_⟩:=hp j hj;rw[(gc i k hi hk hik).1,(gc i j hi hj fun e=>hji e.symm).1,(gc j k hj hk hjk).1];intro hlt;obtain⟨s1,_⟩:=zcR h a1 a2 b1 b2;obtain⟨s2,_⟩:=zcR h a1 a2 d1 d2;obtain⟨s3,_⟩:=zcR h d1 d2 b1 b2;obtain⟨x,hx⟩:=qEx (JY (zC P (ps.getD i 0)) (zC P (ps.getD k 0)));rw[<-hx]at s1 hlt;have hxa:x<(zC P (ps.getD i 0)).length:=by have:=s2.ca;omega
  refine s1.na x (zw _) hxa ?_;rw[s2.eq x (by omega),s3.eq x (by omega)];exact(ZG h b1 b2 (t:=x) (by have:=s3.cb;omega)).2.2
end
section
variable {P S Q:List Int}
def exF(P S:List Int)(w:Nat->Int)(k:Nat):Int:=w k-sg (fun q=>if(k:Int)∈yR P S q then w q else 0) P.length
theorem ztX(h:ClP P S Q){w v:Nat->Int}(he:∀k,k<P.length->exF P S w k=exF P S v k):∀k,k<P.length->w k=v k:=by
 have key:∀n k,k<P.length->P.length<=k+n->w k=v k:=by
  intro n
  induction n with
  |zero=>intro k h1 h2;omega
  |succ n ih=>
   intro k h1 h2;have e:=he k h1;rw[exF,exF]at e
   have e2:sg (fun q=>if(k:Int)∈yR P S q then w q else 0) P.length=sg (fun q=>if(k:Int)∈yR P S q then v q else 0) P.length:=kV fun q hq=>by
    by_cases hm:(k:Int)∈yR P S q
    ·have:=QH h hq hm;rw[if_pos hm,if_pos hm,ih q hq (by omega)]
    ·rw[if_neg hm,if_neg hm]
   omega
 exact fun k hk=>key P.length k hk (by omega)
theorem zwx(w v:Nat->Int)(k:Nat):exF P S (fun q=>w q+v q) k=exF P S w k+exF P S v k:=by
 have e:sg (fun q=>if(k:Int)∈yR P S q then w q+v q else 0) P.length=sg (fun q=>if(k:Int)∈yR P S q then w q else 0) P.length+sg (fun q=>if(k:Int)∈yR P S q then v q else 0) P.length:=by
  rw[<-zsq];refine kV fun q _=>?_;split<;>omega
 rw[exF,exF,exF,e];omega
theorem zCj(k:Nat):exF P S (fun _=>0) k=0:=by
 rw[exF,zap fun q _=>?_]
 ·rfl
 ·split<;>rfl
def Jr(i k:Nat):Int:=if k=i then 1 else 0
theorem zFg{i:Nat}(hi:i<P.length)(k:Nat):exF P S (Jr i) k=Jr i k-if(k:Int)∈yR P S i then 1 else 0:=by
 rw[exF];congr 1;rw[zin hi fun t _ hne=>?_]
 ·simp only[Jr,if_pos]
 ·simp only[Jr,if_neg hne];split<;>rfl
def suF(f:Nat->Nat->Int)(l:List Int)(k:Nat):Int:=sL (fun x=>f x k) l
theorem zz1(f:Nat->Nat->Int)(k:Nat):∀l:List Int,exF P S (suF f l) k=sL (fun x=>exF P S (f x) k) l:=by
 intro l
 have key:∀n,n<=l.length->exF P S (fun q=>sg (fun t=>f (l.getD t 0).toNat q) n) k=sg (fun t=>exF P S (f (l.getD t 0).toNat) k) n:=by
  intro n
  induction n with
  |zero=>exact fun _=>zCj k
  |succ n ih=>
   intro hn;have e:(fun q=>sg (fun t=>f (l.getD t 0).toNat q) (n+1))=fun q=>sg (fun t=>f (l.getD t 0).toNat q) n+f (l.getD n 0).toNat q:=rfl;rw[e,zwx,ih (by omega),sg]
 exact key l.length (zw _)
structure InvR (P S:List Int) (n:Nat) (R:Nat->Nat->Int):Prop where
 step:∀i,i<n->∀k,R i k=Jr i k+suF R (yR P S i) k
theorem zzO(h:ClP P S Q){R:Nat->Nat->Int}{n:Nat}(hn:n<=P.length)(hR:InvR P S n R):∀i,i<n->∀k,exF P S (R i) k=Jr i k:=by
 intro i
 induction i using zd0 with
 |ind i ih=>
 intro hi k;have e:R i=fun q=>Jr i q+suF R (yR P S i) q:=funext fun q=>hR.step i hi q;rw[e,zwx,zFg (by omega),zz1]
 have e2:sL (fun x=>exF P S (R x) k) (yR P S i)=sL (fun x=>Jr x k) (yR P S i):=kV fun t ht=>by
  have hm:(yR P S i).getD t 0∈yR P S i:=ky ht;have:=QH h (by omega) hm;exact ih _ (by omega) (by omega) k
 rw[e2];have hnd:=zh7 h (k:=i) (by omega)
 have e3:sL (fun x=>Jr x k) (yR P S i)=if(k:Int)∈yR P S i then 1 else 0:=by
  by_cases hm:(k:Int)∈yR P S i
  ·rw[if_pos hm];obtain⟨t,ht,het⟩:=qS.1 hm;rw[sL,zin ht fun u hu hne=>?_]
   ·rw[Qz ht]at het;show Jr ((yR P S i).getD t 0).toNat k=1;rw[Jr,if_pos (by omega)]
   ·show Jr ((yR P S i).getD u 0).toNat k=0;rw[Jr,if_neg];intro e4;have hu2:=QH h (by omega) (ky hu);have e5:(yR P S i)[u]=(yR P S i)[t]:=(by rw[het,Qz hu];omega);exact hne ((uH hnd).1 e5)
  ·rw[if_neg hm];refine zap fun t ht=>?_;show Jr ((yR P S i).getD t 0).toNat k=0;rw[Jr,if_neg];intro e4;have hu2:=QH h (by omega) (ky ht);exact hm (by rw[show(k:Int)=(yR P S i).getD t 0 by omega];exact ky ht)
 rw[e3];omega
def pW(P S:List Int)(x:Int)(q:Nat):Int:=sg (fun t=>if((zC P x).getD t 0).toNat=q then(mul (qZ P S x) t:Int)else 0) (zC P x).length
theorem zFY(h:ClP P S Q){x:Int}(x0:0<=x)(x1:x<P.length)(ok:Kb P S x=true){k:Nat}:exF P S (pW P S x) k=Jr x.toNat k:=by
 have hlen:=uD h (i:=x) (by omega) x1;have hcl:(jc P S x).length<=30:=by rw[jc,Yj];omega
 obtain⟨hb,hm⟩:=zf4 hcl ok;have hX:YG (jc P S x)=qZ P S x:=rfl;rw[hX]at hb hm;have hg:=(KU hb).1;have hv:=(zcT h x (by omega) x1).2;obtain⟨l1,l2,l3⟩:=JK h x0 x1;have hnd:=Zn h (i:=x) (by omega) x1;have hat:=fun t (ht:t<(zC P x).length)=>ZG h x0 x1 ht
 have hrow:RowsOk 1 P.length (fun _=>(zC P x).length) (fun _ t=>((zC P x).getD t 0).toNat) (fun _ _=>0):=by
  refine⟨fun i j _ hj=>?_,fun i k j j' hi hk hj hj' e=>⟨?_,.inl (by omega)⟩,fun i k j hi hk hne=>absurd hne (by omega),fun i k hi hk hne=>absurd hne (by omega)⟩
  ·have:=hat j hj;omega
  ·have a1:=hat j hj;have a2:=hat j' hj';have e2:(zC P x)[j]=(zC P x)[j']:=(by rw[Qz hj,Qz hj'];omega);exact(uH hnd).1 e2
 have key:=zFf (M:=fun _ t=>mul (qZ P S x) t) hrow (fun p q=>(p:Int)∈yR P S q) (fun _ a j=>JQ (mul (qZ P S x)) a j) (fun _ _=>l1) ?_ ?_ k
 ·have e1:∀q,wSm (fun _ t=>mul (qZ P S x) t) (fun _ t=>((zC P x).getD t 0).toNat) (fun _=>(zC P x).length) 1 q=pW P S x q:=fun q=>by
   show 0+fW _ _ _ 0 q=_;rw[Int.zero_add];rfl
  rw[e1]at key;have e2:sg (fun q=>if(k:Int)∈yR P S q then wSm (fun _ t=>mul (qZ P S x) t) (fun _ t=>((zC P x).getD t 0).toNat) (fun _=>(zC P x).length) 1 q else 0) P.length=sg (fun q=>if(k:Int)∈yR P S q then pW P S x q else 0) P.length:=kV fun q _=>by rw[e1]
  rw[e2]at key;rw[exF,key];show 0+_=_;rw[l2,Jr];by_cases e:x.toNat=k
  ·rw[if_pos e,if_pos e.symm];rfl
  ·rw[if_neg e,if_neg fun e2=>e e2.symm];rfl
 ·intro i j p _ hj;try dsimp only
  have hj':=hat j hj;rw[zq8 h (by omega)]
  cases j with
  |zero=>
   constructor
   ·intro e;exfalso;have hl:=h.low (i:=((zC P x).getD 0 0).toNat) (by omega);have hz:(zC P ((zC P x).getD 0 0)).length=1:=ziG h x0 x1 (t:=0) hj;have hs:=uv h hj'.1 hj'.2.1;by_cases hw:((zC P x).getD 0 0).toNat=0
    ·have:=hl.2.2.2.2.2 hw;omega
    ·have hp:=hl.2.2.2.2.1 (by omega);have m1:=(JK h hp (by omega)).1;rw[hs,zr,zW]at hz;omega
   ·rintro⟨a,ha,_⟩;omega
  |succ t=>
   have hpar:=zl6 h x0 x1 hj;have hcod:cd (mul (qZ P S x)) (t+1) (t+1)=((jc P S x).getD t 0:Nat):=znO hcl hv ok t;have ht0:=hat t (by omega)
   have hmem:∀a,(a<t+1/\JQ (mul (qZ P S x)) a (t+1))↔a∈prs (mul (qZ P S x)) (t+1) (t+1):=fun a=>by
    simp only[prs,jJ,jr,prx,decide_eq_true_eq,JQ];rw[show min (t+1) (t+1)=t+1 by omega]
   have hex:(∃a,a<t+1/\p=((zC P x).getD a 0).toNat/\JQ (mul (qZ P S x)) a (t+1))↔∃a,a∈prs (mul (qZ P S x)) (t+1) (t+1)/\p=((zC P x).getD a 0).toNat:=
    ⟨fun⟨a,u,y,z⟩=>⟨a,(hmem a).1 ⟨u,z⟩,y⟩,fun⟨a,u,y⟩=>⟨a,((hmem a).2 u).1,y,((hmem a).2 u).2⟩⟩
   rw[hex,hpar];rcases zAq hg t with⟨_,e2,e3⟩|⟨a,a1,a2,_,a4,a5⟩
   ·rw[e3];simp only[yd,exists_eq_left];rcases zf5 h x0 x1 hj with⟨s1,s2⟩|⟨b,b1,b2,b3⟩
    ·omega
    ·exfalso;have:cd (mul (qZ P S x)) (t+1) (t+1)=((jc P S x).getD t 0:Nat):=hcod;omega
   ·rw[a5];simp only[List.mem_cons,List.not_mem_nil,or_false,or_and_right,exists_or,exists_eq_left];have hcc:cd (mul (qZ P S x)) (t+1) (t+1)=((jc P S x).getD t 0:Nat):=hcod;have ha0:=hat a (by omega);rcases zf5 h x0 x1 hj with⟨s1,s2⟩|⟨b,b1,b2,b3⟩
    ·omega
    ·have hab:b=a:=(by omega);rw[b2,hab];omega
 ·intro i a _ ha;have hle:(jc P S x).length=(zC P x).length-1:=by rw[jc,Yj]
  refine zBO hg ha ?_ fun hx=>?_
  ·rw[hm,zte _ (by omega)]
  ·have h1:=zmb ((jc P S x).drop (a+1)) 2;rw[yF]at h1;have h2:=zzE (jc P S x) a;have h3:(fun t=>(mC (jc P S x)).getD t 1)=mul (qZ P S x):=(funext hm).symm;rw[h3,<-hm a]at h2;have h4:=zDy hg a (k:=Yi 2 ((jc P S x).drop (a+1))+1) (k':=(zC P x).length-1-a) (by omega);omega
theorem ztr(h:ClP P S Q){R:Nat->Nat->Int}(hR:InvR P S P.length R){x:Int}(x0:0<=x)(x1:x<P.length)(ok:Kb P S x=true):∀k,k<P.length->R x.toNat k=pW P S x k:=
 ztX h fun k _=>by rw[zzO h (zw _) hR x.toNat (by omega) k,zFY h x0 x1 ok]
theorem zDO(h:ClP P S Q){x y:Int}(x0:0<=x)(x1:x<P.length)(y0:0<=y)(y1:y<P.length):sg (fun q=>pW P S x q*pW P S y q) P.length=dS (mul (qZ P S x)) (mul (qZ P S y)) (JY (zC P x) (zC P y)):=by
 obtain⟨⟨ca,cb,ceq,na,nb⟩,c1⟩:=zcR h x0 x1 y0 y1;obtain⟨c,hc⟩:=qEx (JY (zC P x) (zC P y));rw[<-hc]at ca cb ceq na nb c1 ⊢;have hnx:=Zn h (i:=x) (by omega) x1;have hny:=Zn h (i:=y) (by omega) y1;have hatx:=fun t (ht:t<(zC P x).length)=>ZG h x0 x1 ht;have haty:=fun t (ht:t<(zC P y).length)=>ZG h y0 y1 ht
 have hrow:RowsOk 2 P.length (fun i=>if i=0 then(zC P x).length else(zC P y).length) (fun i t=>if i=0 then((zC P x).getD t 0).toNat else((zC P y).getD t 0).toNat) (fun _ _=>c):=by
  refine⟨fun i j hi hj=>?_,fun i k j j' hi hk hj hj' e=>?_,fun i k j hi hk hne hj=>?_,fun i k hi hk hne=>?_⟩
  ·try dsimp only at hj ⊢
   by_cases e:i=0
   ·rw[if_pos e]at hj ⊢;have:=hatx j hj;omega
   ·rw[if_neg e]at hj ⊢;have:=haty j hj;omega
  ·try dsimp only at hj hj' e ⊢
   have mix:∀u v,u<(zC P x).length->v<(zC P y).length->((zC P x).getD u 0).toNat=((zC P y).getD v 0).toNat->u=v/\u<c:=fun u v hu hv e=>by
    have a1:=hatx u hu;have a2:=haty v hv;have e2:(zC P x).getD u 0=(zC P y).getD v 0:=(by omega);have hlt:u<c:=Classical.byContradiction fun hn=>na u (by omega) hu (by rw[e2];exact a2.2.2);refine⟨?_,hlt⟩;rw[ceq u hlt]at e2;have e3:(zC P y)[u]=(zC P y)[v]:=(by rw[Qz (by omega),Qz hv];exact e2);exact(uH hny).1 e3
   by_cases ei:i=0<;>by_cases ek:k=0
   ·rw[if_pos ei]at hj e;rw[if_pos ek]at hj' e;have a1:=hatx j hj;have a2:=hatx j' hj';have e3:(zC P x)[j]=(zC P x)[j']:=(by rw[Qz hj,Qz hj'];omega);exact⟨(uH hnx).1 e3,.inl (by omega)⟩
   ·rw[if_pos ei]at hj e;rw[if_neg ek]at hj' e;obtain⟨b1,b2⟩:=mix j j' hj hj' e;exact⟨b1,.inr b2⟩
   ·rw[if_neg ei]at hj e;rw[if_pos ek]at hj' e;obtain⟨b1,b2⟩:=mix j' j hj' hj e.symm;exact⟨b1.symm,.inr (by omega)⟩
   ·rw[if_neg ei]at hj e;rw[if_neg ek]at hj' e;have a1:=haty j hj;have a2:=haty j' hj';have e3:(zC P y)[j]=(zC P y)[j']:=(by rw[Qz hj,Qz hj'];omega);exact⟨(uH hny).1 e3,.inl (by omega)⟩
  ·try dsimp only
   by_cases ei:i=0<;>by_cases ek:k=0
   ·omega
   ·rw[if_pos ei,if_neg ek,ceq j hj]
   ·rw[if_neg ei,if_pos ek,ceq j hj]
   ·omega
  ·try dsimp only
   constructor<;>split<;>omega
 have e0:∀q,fW (fun i t=>if i=0 then mul (qZ P S x) t else mul (qZ P S y) t) (fun i t=>if i=0 then((zC P x).getD t 0).toNat else((zC P y).getD t 0).toNat) (fun i=>if i=0 then(zC P x).length else(zC P y).length) 0 q=pW P S x q:=fun q=>rfl;have e1:∀q,fW (fun i t=>if i=0 then mul (qZ P S x) t else mul (qZ P S y) t) (fun i t=>if i=0 then((zC P x).getD t 0).toNat else((zC P y).getD t 0).toNat) (fun i=>if i=0 then(zC P x).length else(zC P y).length) 1 q=pW P S y q:=fun q=>rfl;have k1:=zze (fun i t=>if i=0 then mul (qZ P S x) t else mul (qZ P S y) t) hrow (fun q=>pW P S x q) (i:=1) (by omega);have k2:=zF9 (fun i t=>if i=0 then mul (qZ P S x) t else mul (qZ P S y) t) hrow (i:=1) (k:=0) (by omega) (by omega) (by omega);rw[show sg (fun q=>pW P S x q*pW P S y q) P.length=sg (fun q=>pW P S x q*fW (fun i t=>if i=0 then mul (qZ P S x) t else mul (qZ P S y) t) (fun i t=>if i=0 then((zC P x).getD t 0).toNat else((zC P y).getD t 0).toNat) (fun i=>if i=0 then(zC P x).length else(zC P y).length) 1 q) P.length from rfl,k1];refine Eq.trans k2 ?_;rw[zDl];refine kV fun t _=>?_;exact zlQ _ _
end
section
variable {P S Q:List Int}
def zny(P S:List Int):Nat->Nat->Nat->Int
 |0,_,_=>0
 |f+1,i,k=>Jr i k+sL (fun x=>zny P S f x k) (yR P S i)
def uT(P S:List Int)(i k:Nat):Int:=zny P S (i+1) i k
theorem zvF(h:ClP P S Q):∀i,i<P.length->∀f g,i<f->i<g->∀k,zny P S f i k=zny P S g i k:=by
 intro i
 induction i using zd0 with
 |ind i ih=>
 intro hi f g hf hg k;obtain⟨f,rfl⟩:∃a,f=a+1:=⟨f-1,by omega⟩;obtain⟨g,rfl⟩:∃a,g=a+1:=⟨g-1,by omega⟩;rw[zny,zny];congr 1;refine kV fun t ht=>?_;have hx:=QH h hi (ky ht);exact ih _ (by omega) (by omega) f g (by omega) (by omega) k
theorem zfU(h:ClP P S Q):InvR P S P.length (uT P S):=by
 refine⟨fun i hi k=>?_⟩;rw[uT,zny];congr 1;refine kV fun t ht=>?_;have hx:=QH h hi (ky ht);exact zvF h _ (by omega) _ _ (by omega) (by omega) k
theorem zmc(h:ClP P S Q):∀i,i<P.length->∀k,0<=uT P S i k/\uT P S i k<=((2^i:Nat):Int)/\(i<k->uT P S i k=0):=by
 intro i
 induction i using zd0 with
 |ind i ih=>
 intro hi k;rw[(zfU h).step i hi k,suF,sL];have hl:=zk7 P S i;have hx:=fun t (ht:t<(yR P S i).length)=>QH h hi (ky ht);have hv:=fun t (ht:t<(yR P S i).length)=>ih ((yR P S i).getD t 0).toNat (by have:=hx t ht;omega) (by have:=hx t ht;omega) k;by_cases h0:i=0
 ·have e:yR P S i=[]:=by rw[yR,if_pos h0]
  rw[e,h0];simp only[zu,sg,Jr];refine⟨by split<;>omega,by split<;>simp,fun hk=>by rw[if_neg (by omega)];rfl⟩
 ·have hpow:∀j,j<i->((2^j:Nat):Int)<=((2^(i-1):Nat):Int):=fun j hj=>by
   have:=Nat.pow_le_pow_right (n:=2) (by omega) (show j<=i-1 by omega);omega
  have hdbl:((2^i:Nat):Int)=2*((2^(i-1):Nat):Int):=by
   obtain⟨j,rfl⟩:∃j,i=j+1:=⟨i-1,by omega⟩;rw[qJ,Nat.pow_succ];omega
  have h1:1<=((2^(i-1):Nat):Int):=by have:=Nat.one_le_two_pow (n:=i-1);omega
  have nn:=zrM (f:=fun t=>uT P S ((yR P S i).getD t 0).toNat k) (n:=(yR P S i).length) fun t ht=>(hv t ht).1
  have le:=zC2 (f:=fun t=>uT P S ((yR P S i).getD t 0).toNat k) (b:=((2^(i-1):Nat):Int)) (n:=(yR P S i).length) fun t ht=>by
   have a1:=(hv t ht).2.1;have a2:=hpow ((yR P S i).getD t 0).toNat (by have:=hx t ht;omega);omega
  have le2:((2^(i-1):Nat):Int)*((yR P S i).length:Int)<=((2^(i-1):Nat):Int)*2:=Int.mul_le_mul_of_nonneg_left (by omega) (by omega);by_cases hk:i=k
  ·
    have z:sg (fun t=>uT P S ((yR P S i).getD t 0).toNat k) (yR P S i).length=0:=zap fun t ht=>(hv t ht).2.2 (by have:=hx t ht;omega);rw[z,Jr,if_pos hk.symm];exact⟨by omega,by omega,fun h=>by omega⟩
  ·rw[Jr,if_neg fun e=>hk e.symm];refine⟨by omega,by omega,fun hlt=>?_⟩;rw[zap fun t ht=>(hv t ht).2.2 (by have:=hx t ht;omega)];rfl
theorem zwy{pr:List (List Int)}{w:List Int}{p:Nat}(hw:∀q,-100000<=w.getD q 0/\w.getD q 0<=100000):∀j,j<=24->
 Ya pr w j p=w.getD p 0-sg (fun q=>if(p:Int)∈pr.getD q []then w.getD q 0 else 0) j/\-(100000*(j:Int))<=sg (fun q=>if(p:Int)∈pr.getD q []then w.getD q 0 else 0) j/\sg (fun q=>if(p:Int)∈pr.getD q []then w.getD q 0 else 0) j<=100000*j
 |0,_=>by simp[Ya,sg]
 |j+1,hj=>by
  obtain⟨h1,h2,h3⟩:=zwy (pr:=pr) (p:=p) hw j (by omega);have h4:=hw j;have h5:=hw p;rw[Ya,sg];split
  ·rw[h1,show W (w.getD p 0-sg (fun q=>if(p:Int)∈pr.getD q []then w.getD q 0 else 0) j-w.getD j 0)=w.getD p 0-sg (fun q=>if(p:Int)∈pr.getD q []then w.getD q 0 else 0) j-w.getD j 0 from zn (by omega) (by omega)];omega
  ·rw[h1];omega
theorem zEc(h:ClP P S Q){k:Nat}:exL P S Q k=exF P S (fun q=>Q.getD q 0) k:=by
 have hw:∀q,-100000<=Q.getD q 0/\Q.getD q 0<=100000:=fun q=>by
  by_cases hq:q<P.length
  ·exact h.q q hq
  ·have:=h.ql;rw[zd,zy (by omega)];simp
 rw[exL,(zwy hw P.length h.n24).1,exF];congr 1;refine kV fun q hq=>?_;rw[QB,jp _ _ _ _ hq,if_pos hq]
theorem zqT(f:Nat->Int)(l:List Int):∀m:Nat,∀x:Int,sL f (l++List.replicate m x)=sL f l+m*f x.toNat
 |0,x=>by simp
 |m+1,x=>by
  rw[qm,<-zU,zDG,zqT f l m x]
  have:((m+1:Nat):Int)*f x.toNat=(m:Int)*f x.toNat+f x.toNat:=by
   rw[show((m+1:Nat):Int)=(m:Int)+1 by omega,Int.add_mul,Int.one_mul]
  omega
theorem zv8(l:List Int)(k:Nat):∀n,sL (fun x=>Jr x k) (jP (kC l n))=if k<n/\0<l.getD k 0 then l.getD k 0 else 0
 |0=>by
  rw[if_neg (by omega)];rfl
 |n+1=>by
  have ih:=zv8 l k n;rw[kC];split
  ·rename_i hpos;rw[zhx,zqT,ih];simp only[qh,yT];rw[zL,Jr];by_cases e:k=n
   ·subst e;rw[if_neg (by omega),if_pos rfl,if_pos ⟨by omega,hpos⟩];omega
   ·rw[if_neg e,Int.mul_zero];by_cases e2:k<n/\0<l.getD k 0
    ·rw[if_pos e2,if_pos ⟨by omega,e2.2⟩];omega
    ·rw[if_neg e2,if_neg fun e3=>e2 ⟨by omega,e3.2⟩];rfl
  ·rename_i hpos;rw[yp,ih];by_cases e2:k<n/\0<l.getD k 0
   ·rw[if_pos e2,if_pos ⟨by omega,e2.2⟩]
   ·rw[if_neg e2,if_neg];rintro⟨e3,e4⟩;by_cases e:k=n
    ·subst e;exact hpos e4
    ·exact e2 ⟨by omega,e4⟩
theorem zy4(h:ClP P S Q)(hc:zaJ P S Q=true):∀k,k<P.length->Q.getD k 0=suF (uT P S) (jP (kC (jA P S Q) P.length)) k:=by
 refine ztX h fun k hk=>?_;have hR:=zfU h;have hF:=zby (Kv h);rw[<-zEc h,zz1]
 have e:sL (fun x=>exF P S (uT P S x) k) (jP (kC (jA P S Q) P.length))=sL (fun x=>Jr x k) (jP (kC (jA P S Q) P.length)):=kV fun t ht=>by
  have:=hF _ (ky ht);exact zzO h (zw _) hR _ (by omega) k
 rw[e,zv8];have hex:(jA P S Q).getD k 0=exL P S Q k:=by rw[jA,jp _ _ _ _ hk]
 rw[zaJ,yc]at hc;have hnn:=hc (exL P S Q k) (by rw[<-hex];exact ky (by rw[jA,yi];exact hk));rw[decide_eq_true_eq]at hnn;rw[hex];split
 ·rfl
 ·rename_i hn;have:¬0<exL P S Q k:=fun h2=>hn ⟨hk,h2⟩;omega
theorem zBR(h:ClP P S Q){x:Int}(x0:0<=x)(x1:x<P.length):pW P S x 0=mul (qZ P S x) 0:=by
 obtain⟨l1,_,_⟩:=JK h x0 x1;have hnd:=Zn h (i:=x) (by omega) x1
 have hz:(zC P x).getD 0 0=0:=by
  have hl:=ziG h x0 x1 (t:=0) (by omega);obtain⟨y1,y2,_⟩:=ZG h x0 x1 (t:=0) (by omega);obtain⟨z,hz⟩:=qEx ((zC P x).getD 0 0);rw[<-hz]at hl y1 y2 ⊢;have hs:=uv h y1 y2;have hw:=h.low (i:=z.toNat) (by omega);refine Classical.byContradiction fun hne=>?_;have hp:=hw.2.2.2.2.1 (by omega);obtain⟨m1,_,_⟩:=JK h hp (by omega);rw[hs,zr,zW]at hl;omega
 rw[pW,zin (p:=0) (by omega) fun t ht hne=>?_,if_pos (by rw[hz];rfl)];refine if_neg fun e=>hne ?_;have hx:=ZG h x0 x1 ht;have e2:(zC P x)[t]=(zC P x)[0]:=by rw[Qz ht,Qz (by omega),hz];omega
 exact(uH hnd).1 e2
theorem zCt(h:ClP P S Q)(hc:zaJ P S Q=true){ps:List Int}(hps:ps=jP (kC (jA P S Q) P.length))(hok:ps.all (Kb P S)=true):zcq (ps.map (qZ P S)) ps.length=Q.getD 0 0:=by
 have hin:=zby (Kv h);rw[<-hps]at hin;have hn:=h.n1;rw[zy4 h hc 0 (by omega),<-hps,zs2,suF,sL];refine kV fun t ht=>?_;have hx:=hin _ (ky ht);have ho:Kb P S (ps.getD t 0)=true:=by rw[yc]at hok;exact hok _ (ky ht)
 have hlen:=uD h (i:=ps.getD t 0) (by omega) hx.2;have hb:=(zf4 (cs:=jc P S (ps.getD t 0)) (by rw[jc,Yj];omega) ho).1
 have e1:(ps.map (qZ P S)).getD t []=qZ P S (ps.getD t 0):=by
  rw[zd,zK,ze ht];simp only[Option.map_some,qv];rw[Qz ht]
 rw[e1,ztr h (zfU h) hx.1 hx.2 ho 0 (by omega),zBR h hx.1 hx.2];exact(mul_zero hb).symm
end
abbrev PtS:Type:=List Int×List Int×Int×Int
def ptD(es:List V)(P S:List Int)(σ:Int×Int):Int×Int×Int×Int:=
 let l:=[1,1,2,(P.length:Int)]
 let m:=min (P.length:Int) (uz es σ l)
 let par:=(P.length:Int)-1-ja es (QI es σ l) m
 let τ:=yN es (QI es σ l) m
 if ja es τ 2=0 then
  if 0<=S.getD par.toNat 0 then(par,if ja es (yN es τ 2) 2=0 then S.getD par.toNat 0 else P.getD par.toNat 0,yN es (yN es τ 2) 2)
  else(par,P.getD par.toNat 0,yN es τ 2)
 else(par,-1,yN es τ 2)
def ptC(P S:List Int)(par s:Int):Nat->Int
 |0=>s
 |j+1=>if 0<=ptC P S par s j/\P.getD (j+1) 0=par/\S.getD (j+1) 0=ptC P S par s j then-1 else ptC P S par s j
def ptR(es:List V)(x:PtS):PtS:=
 let d:=ptD es x.1 x.2.1 x.2.2
 (x.1++[d.1],x.2.1++[ptC x.1 x.2.1 d.1 d.2.1 (x.1.length-1)],d.2.2)
def ptN(es:List V):Nat->PtS->PtS
 |0,x=>x
 |k+1,x=>ptN es k (ptR es x)
def JZ(es:List V)(σ:Int×Int)(most:Int):PtS:=ptN es (ja es σ most).toNat ([-1],[-1],yN es σ most)
structure PtOk (es:List V) (x:PtS) (k:Nat):Prop where
 n1:1<=x.1.length
 n:x.1.length+k<=24
 sl:x.2.1.length=x.1.length
 src:zR es x.2.2.1 x.2.2.2
theorem zzu{es:List V}{P S:List Int}{σ:Int×Int}(hq:zR es σ.1 σ.2)(hn:1<=P.length):0<=(ptD es P S σ).1/\(ptD es P S σ).1<P.length/\zR es (ptD es P S σ).2.2.1 (ptD es P S σ).2.2.2:=by
 have hp:=zdt (σ:=σ) (l:=[1,1,2,(P.length:Int)]) hq (by simp);have h1:=zbu (σ:=σ) (l:=[1,1,2,(P.length:Int)]) hq;have h2:1<=min (P.length:Int) (uz es σ [1,1,2,(P.length:Int)]):=by simp at hp;omega
 have h3:=zdu (σ:=QI es σ [1,1,2,(P.length:Int)]) h1 h2;have h4:=jS (σ:=QI es σ [1,1,2,(P.length:Int)]) (n:=min (P.length:Int) (uz es σ [1,1,2,(P.length:Int)])) h1;have h5:=jS (σ:=yN es (QI es σ [1,1,2,(P.length:Int)]) (min (P.length:Int) (uz es σ [1,1,2,(P.length:Int)]))) (n:=2) h4;have h6:=jS (σ:=yN es (yN es (QI es σ [1,1,2,(P.length:Int)]) (min (P.length:Int) (uz es σ [1,1,2,(P.length:Int)]))) 2) (n:=2) h5;unfold ptD;simp only;split
 ·split
  ·exact⟨by simp only;omega,by simp only;omega,h6⟩
  ·exact⟨by simp only;omega,by simp only;omega,h5⟩
 ·exact⟨by simp only;omega,by simp only;omega,h5⟩
theorem PtOk.round{es:List V}{x:PtS}{k:Nat}(h:PtOk es x (k+1)):PtOk es (ptR es x) k:=by
 obtain⟨h1,h2,h3,h4⟩:=h;have h5:=zzu (S:=x.2.1) (σ:=x.2.2) h4 h1;refine⟨?_,?_,?_,h5.2.2⟩<;>simp only[ptR,zr,zj,zu]<;>omega
theorem PtOk.run{es:List V}:∀{k:Nat} {x:PtS},PtOk es x k->PtOk es (ptN es k x) 0
 |0,_,h=>h
 |_+1,_,h=>h.round.run
theorem zgt{es:List V}{σ:Int×Int}{most:Int}(hq:zR es σ.1 σ.2)(h1:1<=most)(h2:most<=24):PtOk es (JZ es σ most) 0:=by
 have h3:=zdu (σ:=σ) hq h1;exact PtOk.run ⟨by simp,by simp;omega,rfl,jS (σ:=σ) hq⟩
def zcr(es:List V)(a h m:Int):List V×List V×List V×Int×Int:=
 (I (JZ es (a,h) m).1,I (JZ es (a,h) m).2.1,I (List.replicate (JZ es (a,h) m).1.length 0),(JZ es (a,h) m).2.2)
def zdr(es:List V)(a h m:Int):Prop:=zR es a h/\1<=m/\m<=24
def zdC(f:List V->Int->Int->Int->List V×List V×List V×Int×Int)(q:List V->Int->Int->Int->Prop):kj:=fun
 |[.box 91 (.agg [.slc false 5 (.int .u8 0) a0,.int .i64 a1,.int .u64 a2]),.int .i64 a3]=>some ([q a0 a1 a2 a3],.agg [.slc true 2 (.int .i64 0) (f a0 a1 a2 a3).1,.slc true 2 (.int .i64 0) (f a0 a1 a2 a3).2.1,.slc true 2 (.int .i64 0) (f a0 a1 a2 a3).2.2.1],.box 91 (.agg [.slc false 5 (.int .u8 0) a0,.int .i64 (f a0 a1 a2 a3).2.2.2.1,.int .u64 (f a0 a1 a2 a3).2.2.2.2]))
 |_=>none
theorem KM:zbX Tryz.prog 28 1000 (zdC zcr zdr):=by
 intro args ps r y h hp;unfold zdC at h;split at h
 ·rename_i a0 a1 a2 a3;cases h;obtain⟨hq,m1,m2⟩:zdr a0 a1 a2 a3:=(zp.1 hp).1;obtain⟨k0,hk0⟩:=qEI (ja a0 (a1,a2) a3);have hk:=zdu (σ:=(a1,a2)) (n:=a3) hq m1;rw[<-hk0]at hk;obtain⟨E,hE⟩:=qEx (JZ a0 (a1,a2) a3);generalize yx:qI=yY,yw:qT=yX,yv:qY=yW,qg:zcA=jE,qf:kN=jz,qk:uq=jM,qj:uo=jL,qP:zay=kx;refine zcY (T:=tab) (B:=[]) (Bi:=[(26,1000,false,Ki yY yX yW jE),(29,1000,false,zaF jz jM jL kx)]) 0 [2000006831,0,1,4,5,6,7,8,9,10] Tryz.func28 rfl rfl (by kernel_rfl) (Nat.le_of_ble_eq_true rfl) mixed Zy zF (by subst yx yw yv qg qf qk qj qP;exact(yE jH (yE kz zA))) (by kernel_rfl) rfl rfl zah rfl ?_;intro L lp rr yy hL hr hy hf hlp
  conv=>cbv
  obtain⟨b1,hb1⟩:=qEx (qT a0 a1 a2 a3);obtain⟨b2,hb2⟩:=qEx (qY a0 a1 a2 a3);have e0:yY a0 a1 a2 a3=k0:=by rw[<-yx,hk0]
  have e1:yX a0 a1 a2 a3=b1:=by rw[<-yw,hb1]
  have e2:yW a0 a1 a2 a3=b2:=by rw[<-yv,hb2]
  have Qn:∀a h n,zR a0 a h->jE a0 a h n:=fun a h n hs=>by rw[<-qg];exact hs
  have ok0:PtOk a0 ([-1],[-1],b1,b2) k0.toNat:=⟨by simp,by simp;omega,rfl,by rw[hb1,hb2];exact js hq⟩;have hE0:ptN a0 k0.toNat ([-1],[-1],b1,b2)=E:=by rw[hE,hb1,hb2,hk0];rfl
  simp only[zo hL,sQ,true_and,e0,e1,e2];refine⟨Qn _ _ _ hq,?_⟩
  refine hlp (List V×List V×List V×Int×Int×Int) _ _ _ [0,4,5,6] (fun x=>[(wJ5 0 a0 x.2.2.2.1 x.2.2.2.2.1),(wJ4 4),(wJ6 5 x.1 x.2.1 x.2.2.1),(wJ0 6 x.2.2.2.2.2)])
   (fun x=>0<=x.2.2.2.2.2/\∃P S:List Int,x.1=I P/\x.2.1=I S/\x.2.2.1=I (List.replicate P.length 0)/\PtOk a0 (P,S,x.2.2.2.1,x.2.2.2.2.1) x.2.2.2.2.2.toNat/\ptN a0 x.2.2.2.2.2.toNat (P,S,x.2.2.2.1,x.2.2.2.2.1)=E) (fun x=>x.2.2.2.2.2.toNat) ((I [-1],I [-1],I [0],b1,b2,k0)) (by subst hL;rfl) ?_ ?_
  ·exact⟨by simp only;omega,[-1],[-1],rfl,rfl,rfl,ok0,hE0⟩
  rintro⟨vp,vs,vw,a,h,k⟩ ⟨i0,P,S,hP,hS,hW,hok,hN⟩ hfx ag hag;simp only at i0 hP hS hW hok hN;have hsrc:zR a0 a h:=hok.src;have hn1:=hok.n1;have hn24:=hok.n;have hsl:=hok.sl;simp only at hsrc hn1 hn24 hsl;obtain⟨il,hil⟩:=qEI P.length;have hvl:vp.length=P.length:=by rw[hP,zg]
  have hsl2:vs.length=P.length:=by rw[hS,zg,hsl]
  have hwl:vw.length=P.length:=by rw[hW,zg,zx]
  have gP:∀k,vp.getD k (.int .i64 0)=.int .i64 (P.getD k 0):=fun k=>by rw[hP,zG]
  have gS:∀k,vs.getD k (.int .i64 0)=.int .i64 (S.getD k 0):=fun k=>by rw[hS,zG]
  obtain⟨m,hm⟩:=qEx (kN a0 a h (I [1,1,2,il]));obtain⟨A1,hA1⟩:=qEx (uq a0 a h (I [1,1,2,il]));obtain⟨H1,hH1⟩:=qEx (uo a0 a h (I [1,1,2,il]));obtain⟨mi,hmi⟩:=qEx (min il m);obtain⟨par,hpar⟩:=qEx (il-1-qI a0 A1 H1 mi);obtain⟨A2,hA2⟩:=qEx (qT a0 A1 H1 mi);obtain⟨H2,hH2⟩:=qEx (qY a0 A1 H1 mi);obtain⟨u,hu⟩:=qEx (qI a0 A2 H2 2);obtain⟨A3,hA3⟩:=qEx (qT a0 A2 H2 2);obtain⟨H3,hH3⟩:=qEx (qY a0 A2 H2 2);obtain⟨v,hv⟩:=qEx (qI a0 A3 H3 2);obtain⟨A4,hA4⟩:=qEx (qT a0 A3 H3 2);obtain⟨H4,hH4⟩:=qEx (qY a0 A3 H3 2)
  have hD:ptD a0 P S (a,h)=if u=0 then(if 0<=S.getD par.toNat 0 then(par,if v=0 then S.getD par.toNat 0 else P.getD par.toNat 0,A4,H4)else(par,P.getD par.toNat 0,A3,H3))else(par,-1,A3,H3):=by
   subst hH4 hA4 hv hH3 hA3 hu hH2 hA2 hpar hmi hH1 hA1 hm hil;rfl
  have mp:m∈[1,1,2,il]:=by rw[hm];exact zdt (σ:=(a,h)) (l:=[1,1,2,il]) hsrc (by simp)
  have s1:zR a0 A1 H1:=by rw[hA1,hH1];exact js hsrc
  have m1:1<=mi:=by simp at mp;omega
  have d1:=ZJ (n:=mi) s1 m1;have s2:zR a0 A2 H2:=by rw[hA2,hH2];exact js s1
  have s3:zR a0 A3 H3:=by rw[hA3,hH3];exact js s2
  have s4:zR a0 A4 H4:=by rw[hA4,hH4];exact js s3
  have g3:∀l,l=I [1,1,2,il]->jz a0 a h l=m/\jM a0 a h l=A1/\jL a0 a h l=H1/\kx a0 a h l:=by
   intro l hl;rw[hl,<-qf,<-qk,<-qj,<-qP,hm,hA1,hH1];exact⟨rfl,rfl,rfl,hsrc,⟨_,rfl⟩,by simp,by simp⟩
  obtain⟨g4,g5,g6,g7⟩:=g3 (V.frzs (V.frzs [V.int IntKind.i64 1,V.int IntKind.i64 1,V.int IntKind.i64 2,V.int IntKind.i64 il])) rfl;have g8:yY a0 A1 H1 mi=il-1-par:=by rw[<-yx];omega
  have g9:yX a0 A1 H1 mi=A2:=by rw[<-yw,hA2]
  have g10:yW a0 A1 H1 mi=H2:=by rw[<-yv,hH2]
  have g11:yY a0 A2 H2 2=u:=by rw[<-yx,hu]
  have g12:yX a0 A2 H2 2=A3:=by rw[<-yw,hA3]
  have g13:yW a0 A2 H2 2=H3:=by rw[<-yv,hH3]
  have g14:yY a0 A3 H3 2=v:=by rw[<-yx,hv]
  have g15:yX a0 A3 H3 2=A4:=by rw[<-yw,hA4]
  have g16:yW a0 A3 H3 2=H4:=by rw[<-yv,hH4]
  have wi:IntKind.wrap .i64 (il-1)=il-1:=zn (by omega) (by omega);have wp:IntKind.wrap .i64 (il-1-(il-1-par))=par:=by rw[show il-1-(il-1-par)=par by omega];exact zn (by omega) (by omega)
  conv=>cbv
  simp only[zo hL,sQ,true_and,hvl,hsl2,hwl,<-hil,g4,g5,g6,g7,<-hmi,g8,g9,g10,g11,g12,g13,g14,g15,g16,wi,wp,gP,gS]
  have hR:∀sec A H,ptD a0 P S (a,h)=(par,sec,A,H)->0<k->PtOk a0 (P++[par],S++[ptC P S par sec (P.length-1)],A,H) (k-1).toNat/\ptN a0 (k-1).toNat (P++[par],S++[ptC P S par sec (P.length-1)],A,H)=E:=by
   intro sec A H e hk;have e2:k.toNat=(k-1).toNat+1:=(by omega);have e3:ptR a0 (P,S,a,h)=(P++[par],S++[ptC P S par sec (P.length-1)],A,H):=(by simp only[ptR,e]);rw[e2]at hok hN;rw[<-e3];exact⟨hok.round,hN⟩
  have wk:IntKind.wrap .i64 (k-1)=k-1:=zn (by omega) (by omega);refine⟨fun hk=>⟨Qn _ _ _ s1,Qn _ _ _ s2,fun u0=>⟨by omega,by omega,by omega,by omega,by omega,by omega,fun sp=>⟨sp,Qn _ _ _ s3,fun v0=>⟨by omega,by omega,by omega,?a⟩,fun v0=>?b⟩,fun sp=>⟨fun hh=>absurd hh.1 sp,fun _=>?c⟩⟩,fun u0=>?d⟩,fun hk=>?e⟩
  case' a=>
   have hD5:ptD a0 P S (a,h)=(par,S.getD par.toNat 0,A4,H4):=(by rw[hD,if_pos u0,if_pos sp,if_pos v0.2]);obtain⟨sec,hsec⟩:=qEx (S.getD par.toNat 0);obtain⟨A5,hA5⟩:=qEx A4;obtain⟨H5,hH5⟩:=qEx H4;rw[<-hsec,<-hA5,<-hH5]at hD5 ⊢
  case' b=>
   have hD5:ptD a0 P S (a,h)=(par,P.getD par.toNat 0,A4,H4):=(by rw[hD,if_pos u0,if_pos sp,if_neg (by omega)]);obtain⟨sec,hsec⟩:=qEx (P.getD par.toNat 0);obtain⟨A5,hA5⟩:=qEx A4;obtain⟨H5,hH5⟩:=qEx H4;rw[<-hsec,<-hA5,<-hH5]at hD5 ⊢
  case' c=>
   have hD5:ptD a0 P S (a,h)=(par,P.getD par.toNat 0,A3,H3):=(by rw[hD,if_pos u0,if_neg sp]);obtain⟨sec,hsec⟩:=qEx (P.getD par.toNat 0);obtain⟨A5,hA5⟩:=qEx A3;obtain⟨H5,hH5⟩:=qEx H3;rw[<-hsec,<-hA5,<-hH5]at hD5 ⊢
  case' d=>
   have hD5:ptD a0 P S (a,h)=(par,-1,A3,H3):=(by rw[hD,if_neg u0]);obtain⟨sec,hsec⟩:=qEI ( -1);obtain⟨A5,hA5⟩:=qEx A3;obtain⟨H5,hH5⟩:=qEx H3;rw[<-hsec]at hD5;rw[<-hA5,<-hH5]at hD5 ⊢
  case e=>
   have hk0:k.toNat=0:=(by omega);rw[hk0]at hN;rw[hr,hy,zcr,<-hE,<-hN,hP,hS,hW];exact⟨rfl,rfl⟩
  all_goals
   clear hN hok hE0 ok0 e0 e1 e2 g3 g4 g5 g6 g7 g8 g9 g10 g11 g12 g13 g14 g15 g16 hD hm hA1 hH1 hmi hpar hA2 hH2 hu hA3 hH3 hv hA4 hH4 mp s1 m1 d1 s2 s3 s4 hE hb1 hb2 hk0 hq Qn wi wp hA5 hH5
   refine hlp (Int×Int) _ _ _ [0,4,5,6,7,8,9,10] (fun x=>[(wJ5 0 a0 A5 H5),(wJ4 4),(wJ6 5 vp vs vw),(wJ0 6 k),(wJ0 7 il),(wJ0 8 par),(wJ0 9 x.1),(wJ0 10 x.2)])
    (fun x=>1<=x.2/\x.2<=il/\x.1=ptC P S par sec (x.2-1).toNat) (fun x=>(il-x.2).toNat) ((sec,1)) (by subst hL;first|rfl|(rw[hsec];rfl)) ?_ ?_
   ·exact⟨by simp,by simp only;omega,rfl⟩
   rintro⟨sx,j⟩ ⟨j1,j2,hJ⟩ hfx2 ag2 hag2;simp only at j1 j2 hJ;have wj:IntKind.wrap .i64 (j+1)=j+1:=zn (by omega) (by omega)
   have hst:ptC P S par sec (j+1-1).toNat=if 0<=sx/\P.getD j.toNat 0=par/\S.getD j.toNat 0=sx then-1 else sx:=by
    rw[show(j+1-1).toNat=(j-1).toNat+1 by omega,ptC,<-hJ,show(j-1).toNat+1=j.toNat by omega]
   conv=>cbv
   simp only[zo hL,sQ,true_and,hvl,hsl2,hwl,gP,gS,wj,wk];refine⟨fun h2=>⟨fun _=>by omega,fun _=>by omega,fun _=>by omega,fun _=>trivial,fun _=>by omega,fun _=>by omega,fun _=>by omega,fun _=>trivial,fun h3=>?_,fun h3=>?_⟩,fun h2=>?_⟩
   ·refine hag2 (-1,j+1) ⟨by simp only;omega,by simp only;omega,?_⟩ (by simp only;omega);simp only;rw[hst,if_pos ⟨h3.1.1,h3.1.2,h3.2⟩]
   ·refine hag2 (sx,j+1) ⟨by simp only;omega,by simp only;omega,?_⟩ (by simp only;omega);simp only
    rw[hst,if_neg (fun h4=>by
     rcases h3 with(h3|h3)|h3
     ·exact h3 h4.1
     ·exact h3 h4.2.1
     ·exact h3 h4.2.2)]
   ·obtain⟨t1,t2⟩:=hR sec A5 H5 hD5 hk;rw[show(j-1).toNat=P.length-1 by omega]at hJ;rw[<-hJ]at t1 t2;refine⟨rfl,by simp only[zj,zu];omega,yL _,rfl,by simp only[zj,zu];omega,yL _,rfl,by simp only[zj,zu];omega,yL _,?_⟩;refine hag (_,_,_,A5,H5,k-1) ⟨by simp only;omega,_,_,?_,?_,?_,t1,t2⟩ (by simp only;omega)
    ·simp only;rw[hP,<-qW];rfl
    ·simp only;rw[hS,<-qW];rfl
    ·simp only;rw[hW,zr,zW,qm,<-qW];rfl
 ·cases h
end Go.Ax
