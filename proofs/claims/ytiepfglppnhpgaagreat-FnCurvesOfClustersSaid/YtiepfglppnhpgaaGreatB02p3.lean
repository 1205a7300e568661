import Derived.Test.YtiepfglppnhpgaaGreatB01p3
set_option linter.all false
set_option maxRecDepth 100000
set_option maxHeartbeats 1000000
open Int renaming eq_ofNat_of_zero_le->Jl,natCast_add->zhW,natCast_nonneg->jD,tmod_lt_of_pos->uc,tmod_nonneg->zhV,toNat_natCast->zL
open List renaming append_assoc->zU,append_nil->yp,drop_zero->ur,ext_getElem?->yB,flatMap_append->ku,flatMap_cons->uU,flatMap_nil->QY,getD_eq_getElem?_getD->zd,getElem?_eq_getElem->ze,getElem?_eq_none->zy,getElem?_map->zK,getElem?_replicate->jQ,getElem?_set_self->Zj,getElem?_take_of_lt->zbd,length_append->zr,length_cons->zj,length_map->zS,length_nil->zu,length_replicate->zx,length_take->zV,mem_range->jr,range_succ->JC,replicate_succ'->qm,take_append_drop->jI,take_of_length_le->zB,take_succ_eq_append_getElem->zQ
open Nat renaming le_of_ble_eq_true->yh,le_refl->zw,le_trans->je
open Option.some renaming injEq->za
open Prod.mk renaming injEq->zb
/-
 Sequences of multiplicities of branches:steps,runs,first multiplicities. No conditions but those of the contracts.
-/
namespace Go.Ax
open Go.Proofs
def KE(a b:Int):List (List Int):=(stp a.toNat b.toNat).map fun p=>[(p.1:Int),(p.2:Int)]
theorem zim:∀(n a b:Nat),b<=n->(stp a b).length<=b
 |0,a,b,h=>by obtain rfl:b=0:=by omega
              rw[zjy];simp
 |n+1,a,b,h=>by
  by_cases hb:0<b
  ·rw[zpw hb,zj];have h1:a%b<b:=Nat.mod_lt _ hb;have:=zim n b (a%b) (by omega);omega
  ·obtain rfl:b=0:=(by omega);rw[zjy];simp
theorem zvU{a b:Int}(ha:0<=a)(hb:0<b):KE a b=[a.tdiv b,b]::KE b (a.tmod b):=by
 obtain⟨a,rfl⟩:=Jl ha;obtain⟨b,rfl⟩:=Jl (Int.le_of_lt hb);rw[KE,zL,zL,zpw (by omega),List.map_cons,KE,<-Int.ofNat_tdiv,<-Int.ofNat_tmod,zL,zL]
theorem zsj(a:Int){b:Int}(hb:¬0<b):KE a b=[]:=by
 rw[KE,show b.toNat=0 by omega,zjy];rfl
def zi5(f:Int->Int->List V)(q:Int->Int->Prop):zO:=fun
 |[.int .i64 a0,.int .i64 a1]=>some ([q a0 a1],.slc true 24 (.slc true 2 (.int .i64 0) []) (f a0 a1))
 |_=>none
def zkd(a b:Int):List V:=II true (KE a b)
def zjL(a b:Int):Prop:=0<=a/\a<=1000000/\0<=b/\b<=1000000
abbrev sQ:=(⟨@imp_self,@true_and,@and_true,@zFr,@zEo,@Bool.or_eq_true,@Bool.or_eq_false_iff,@Bool.and_eq_true,@Bool.and_eq_false_iff,@decide_eq_true_eq,@decide_eq_false_iff_not,@Bool.not_eq_true',@Bool.not_eq_false',@beq_iff_eq.{0},@beq_eq_false_iff_ne.{0},@ne_eq.{1},@zEK,@zEJ,@Kq,@uy,@zt,@zg,@zG,@ziI,@zcQ⟩: _/\_/\_/\_/\_/\_/\_/\_/\_/\_/\_/\_/\_/\_/\_/\_/\_/\_/\_/\_/\_/\_/\_/\_/\_)
theorem zsu:yM Tryz.prog 144 (zi5 zkd zjL):=by
 intro args ps r h hp;unfold zi5 at h;split at h
 ·rename_i a0 a1;cases h;obtain⟨q1,q2,q3,q4⟩:zjL a0 a1:=(zp.1 hp).1;refine zH (B:=[]) (Bi:=[]) [0,1,4,5] Tryz.func144 rfl rfl zF zA ?_;intro L lp rr hL hr hf hlp
  conv=>cbv
  refine hlp (Int×Int×List V) _ _ _ [0,1,5] (fun x=>[(wJ0 0 x.1),(wJ0 1 x.2.1),(5,none,.val (.slc true 24 (.slc true 2 (.int .i64 0) []) x.2.2))])
   (fun x=>0<=x.1/\x.1<=1000000/\0<=x.2.1/\x.2.1<=1000000/\∃L,x.2.2=II true L/\L++KE x.1 x.2.1=KE a0 a1) (fun x=>x.2.1.toNat) ((a0,a1,[])) (by subst hL;rfl) ?_ ?_
  ·exact⟨q1,q2,q3,q4,[],rfl,rfl⟩
  rintro⟨a,b,es⟩ ⟨p1,p2,p3,p4,L,hes,hI⟩ hfx ag hag;simp only at p1 p2 p3 p4 hes hI
  have hel:es.length<=1000000:=by
   have h1:=congrArg List.length hI;have h2:=zim a1.toNat a0.toNat a1.toNat (zw _);rw[zr,KE,KE,zS,zS]at h1;rw[hes,ye];omega
  conv=>cbv
  simp only[zo hL,sQ,hel];refine⟨fun h=>?_,fun h=>?_⟩
  ·have h1:0<=a.tdiv b/\a.tdiv b<=a:=⟨Int.tdiv_nonneg p1 p3,Int.tdiv_le_self b p1⟩;have h2:0<=a.tmod b/\a.tmod b<b:=⟨zhV b p1,uc a h⟩;have hw:IntKind.wrap .i64 (a.tdiv b)=a.tdiv b:=zn (by omega) (by omega)
   (repeat' first|(exact yL _)|(exact jY rfl)|(exact qG _)|(apply And.intro)|(intro _))<;>(try first|exact True.intro|omega|rfl|(simp only[zj,zu,zg];omega))
   refine hag (b,a.tmod b,_) ⟨by simp only;omega,by simp only;omega,by simp only;omega,by simp only;omega,L++[[a.tdiv b,b]],?_,?_⟩ (by simp only;omega)
   ·simp only;rw[Zv,hes,hw];rfl
   ·simp only;rw[zU,<-hI,zvU p1 h];rfl
  ·rw[hr,zkd,<-hI,zsj a h,yp,hes]
 ·cases h
theorem zoj:yM Tryz.prog 143 (zi5 zkd zjL):=by
 intro args ps r h hp;unfold zi5 at h;split at h
 ·rename_i a0 a1;cases h;obtain⟨q1,q2,q3,q4⟩:zjL a0 a1:=(zp.1 hp).1;refine zH (B:=[]) (Bi:=[]) [0,1,4,5,6] Tryz.func143 rfl rfl zF zA ?_;intro L lp rr hL hr hf hlp
  conv=>cbv
  refine hlp (Int×Int×List V) _ _ _ [0,1,5] (fun x=>[(wJ0 0 x.1),(wJ0 1 x.2.1),(5,none,.val (.slc true 24 (.slc true 2 (.int .i64 0) []) x.2.2))])
   (fun x=>0<=x.1/\x.1<=1000000/\0<=x.2.1/\x.2.1<=1000000/\∃L,x.2.2=II true L/\L++KE x.1 x.2.1=KE a0 a1) (fun x=>x.2.1.toNat) ((a0,a1,[])) (by subst hL;rfl) ?_ ?_
  ·exact⟨q1,q2,q3,q4,[],rfl,rfl⟩
  rintro⟨a,b,es⟩ ⟨p1,p2,p3,p4,L,hes,hI⟩ hfx ag hag;simp only at p1 p2 p3 p4 hes hI
  have hel:es.length<=1000000:=by
   have h1:=congrArg List.length hI;have h2:=zim a1.toNat a0.toNat a1.toNat (zw _);rw[zr,KE,KE,zS,zS]at h1;rw[hes,ye];omega
  conv=>cbv
  simp only[zo hL,sQ,hel];refine⟨fun h=>?_,fun h=>?_⟩
  ·have h1:0<=a.tdiv b/\a.tdiv b<=a:=⟨Int.tdiv_nonneg p1 p3,Int.tdiv_le_self b p1⟩;have h2:0<=a.tmod b/\a.tmod b<b:=⟨zhV b p1,uc a h⟩;have hw:IntKind.wrap .i64 (a.tdiv b)=a.tdiv b:=zn (by omega) (by omega)
   (repeat' first|(exact yL _)|(exact jY rfl)|(exact qG _)|(apply And.intro)|(intro _))<;>(try first|exact True.intro|omega|rfl|(simp only[zj,zu,zg];omega))
   refine hag (b,a.tmod b,_) ⟨by simp only;omega,by simp only;omega,by simp only;omega,by simp only;omega,L++[[a.tdiv b,b]],?_,?_⟩ (by simp only;omega)
   ·simp only;rw[Zv,hes,hw];rfl
   ·simp only;rw[zU,<-hI,zvU p1 h];rfl
  ·rw[hr,zkd,<-hI,zsj a h,yp,hes]
 ·cases h
def jF(S:List (List Int)):List Int:=S.flatMap fun s=>List.replicate (s.getD 0 0).toNat (s.getD 1 0)
theorem zj8(S:List (List Int))(k:Nat)(h:k<S.length):jF (S.take (k+1))=jF (S.take k)++List.replicate ((S.getD k []).getD 0 0).toNat ((S.getD k []).getD 1 0):=by
 rw[zky _ _ h,jF,jF,ku,uU,QY,yp]
def exI(a b:Int):List Int:=(ex a.toNat b.toNat).map fun(n:Nat)=>(n:Int)
theorem zlr(a b:Int):jF (KE a b)=exI a b:=by
 rw[jF,KE,exI,ex,List.flatMap_map,List.map_flatMap];congr 1
 funext p
 simp
theorem ztW:∀(n a b:Nat),b<=n->(ex a b).length<=a+b
 |0,a,b,h=>by obtain rfl:b=0:=by omega
              rw[zf0];simp
 |n+1,a,b,h=>by
  by_cases hb:0<b
  ·rw[uS hb,zr,zx];have h1:a%b<b:=Nat.mod_lt _ hb;have h2:=ztW n b (a%b) (by omega);have h3:=Nat.div_add_mod a b;have h4:a/b<=b*(a/b):=Nat.le_mul_of_pos_left _ hb;omega
  ·obtain rfl:b=0:=(by omega);rw[zf0];simp
theorem zvV{a b:Int}{s:List Int}(h:s∈KE a b):s.length=2/\0<=s.getD 0 0/\0<=s.getD 1 0:=by
 simp only[KE,List.mem_map]at h;obtain⟨p,_,rfl⟩:=h;exact⟨rfl,jD _,jD _⟩
def zmm(f:List V->Int->Int->List V)(q:List V->Int->Int->Prop):kj:=fun
 |[.slc true 2 (.int .i64 0) a0,.int .i64 a1,.int .i64 a2]=>some ([q a0 a1 a2],.slc true 2 (.int .i64 0) (f a0 a1 a2),.hole 0)
 |_=>none
def zfY(es:List V)(k e:Int):List V:=es++I (exI k e)
def zlZ(es:List V)(k e:Int):Prop:=es.length<=100000000/\zjL k e
theorem zkY:zCG Tryz.prog 124 0 (zmm zfY zlZ):=by
 intro args ps r y h hp;unfold zmm at h;split at h
 ·rename_i a0 a1 a2;cases h;obtain⟨q0,hq⟩:zlZ a0 a1 a2:=(zp.1 hp).1;obtain⟨q1,q2,q3,q4⟩:=hq;generalize zjf:zkd=zda,zja:zjL=zmt;refine zD7 (T:=tab) (B:=[(144,zi5 zda zmt)]) (Bi:=[]) 0 [0,1,2,6,8,9,12,13,14] Tryz.func124 rfl rfl (by kernel_rfl) (yh rfl) mixed Zy (by subst zjf zja;exact(zm zsu zF)) zA (by kernel_rfl) (yh rfl) ?_;intro L lp rr hL hr hf hlp
  conv=>cbv
  obtain⟨S,hS⟩:=qEx (KE a1 a2);obtain⟨ss,hss⟩:=qEx (II true S);have hF:zda a1 a2=ss:=by rw[<-zjf,zkd,hss,hS]
  have hsl:ss.length=S.length:=by rw[hss,ye]
  have hSl:S.length<=1000000:=by
   have:=zim a2.toNat a1.toNat a2.toNat (zw _);rw[hS,KE,zS];omega
  have gss:∀k,ss.getD k (.slc true 2 (.int .i64 0) [])=.slc true 2 (.int .i64 0) (I (S.getD k [])):=fun k=>by rw[hss,qu]
  have hfl:(exI a1 a2).length<=2000000:=by
   have:=ztW a2.toNat a1.toNat a2.toNat (zw _);rw[exI,zS];omega
  have hpre:∀k,(jF (S.take k)).length<=2000000:=fun k=>by
   have h1:jF S=jF (S.take k)++jF (S.drop k):=by
    rw[jF,jF,jF,<-ku,jI]
   have h2:=congrArg List.length h1;rw[hS,zlr,zr,<-hS]at h2;omega
  simp only[zo hL,sQ,hF,hsl];refine⟨by rw[<-zja];exact⟨q1,q2,q3,q4⟩,?_⟩
  refine hlp (List V×Int) _ _ _ [0,12,13,14] (fun x=>[(wJ2 0 x.1),(12,none,.val (.slc true 24 (.slc true 2 (.int .i64 0) []) ss)),(wJ0 13 S.length),(wJ0 14 x.2)])
   (fun x=>0<=x.2/\x.2<=S.length/\x.1=a0++I (jF (S.take x.2.toNat))) (fun x=>(S.length-x.2).toNat) ((a0,0)) (by subst hL;rfl) ?_ ?_
  ·exact⟨by simp,by simp only;omega,by simp[jF,I]⟩
  rintro⟨es,i⟩ ⟨i0,i1,hI⟩ hfx ag hag;simp only at i0 i1 hI
  have hst:=zj8 S i.toNat
  have hmem:=fun h=>zvV (a:=a1) (b:=a2) (s:=S.getD i.toNat []) (by rw[<-hS];exact zcF h);have hp1:=hpre (i.toNat+1);generalize hE:S.getD i.toNat []=E at hst hmem;obtain⟨m,hm⟩:=qEI S.length;simp only[<-hm]
  conv=>cbv
  simp only[zo hL,sQ,hsl,gss,hE];refine⟨fun h=>?_,fun h=>?_⟩
  ·obtain⟨hEl,hE0,hE1⟩:=hmem (by omega);have hst':=hst (by omega);have hip:i.toNat<S.length:=(by omega);refine⟨i0,by omega,by omega,?_⟩
   refine hlp (List V×Int) _ _ _ [0,8,9,12,13,14] (fun x=>[(wJ2 0 x.1),(8,none,.rf 12 0 [i.toNat]),(wJ0 9 x.2),(12,none,.val (.slc true 24 (.slc true 2 (.int .i64 0) []) ss)),(wJ0 13 m),(wJ0 14 i)])
    (fun x=>0<=x.2/\x.2<=E.getD 0 0/\x.1=es++I (List.replicate x.2.toNat (E.getD 1 0))) (fun x=>(E.getD 0 0-x.2).toNat) (es,0) (by subst hL;rfl) ?_ ?_
   ·exact⟨by simp,hE0,by simp[I]⟩
   rintro⟨es2,j⟩ ⟨j0,j1,hI2⟩ hfx2 ag2 hag2;simp only at j0 j1 hI2;obtain⟨it,hit⟩:=qEx i.toNat;simp only[<-hit]at hE ⊢
   conv=>cbv
   simp only[zo hL,sQ,hsl,gss,hE]
   have hl2:es2.length<=102000000:=by
    rw[hst',zr,zx]at hp1;rw[hI2,hI,zr,zg,zr,zg,zx];omega
   have hEb:E.getD 0 0<=2000000:=by
    rw[hst',zr,zx]at hp1;omega
   have hti:it<S.length:=(by omega);subst hit;refine⟨hti,by omega,by omega,hti,by omega,fun hj=>?_,fun hj=>?_⟩
   ·rw[zn (n:=j+1)]
    (repeat' first|(exact yL _)|(exact jY rfl)|(exact qG _)|(apply And.intro)|(intro _))<;>(try first|exact True.intro|omega|rfl|(simp only[zj,zu,zg];omega))
    refine hag2 (_,j+1) ⟨by simp only;omega,by simp only;omega,?_⟩ (by simp only;omega);simp only[ya j0];rw[qm,hI2,zU,<-qW];rfl
   ·rw[zn (n:=i+1)];subst hm;refine hag (_,i+1) ⟨by simp only;omega,by simp only;omega,?_⟩ (by simp only;omega);simp only[ya i0];rw[hst',hI2,hI,zU,qW,show j=E.getD 0 0 by omega]
  ·rw[hr,zfY,hI,zB (by omega),hS,zlr]
 ·cases h
def Kt(xs:List Int)(i:Nat):Int:=xs.getD (i+1) 0-(if i=0 then 0 else xs.getD i 0)
def zh6(xs:List Int)(i:Nat):List Int:=exI (Kt xs i) ((dv xs).getD i 0)
def zeg(xs:List Int)(n:Nat):List Int:=(List.range n).flatMap (zh6 xs)
def Zr(xs:List Int):List Int:=zeg xs (xs.length-1)
theorem zhn(xs:List Int)(n:Nat):zeg xs (n+1)=zeg xs n++zh6 xs n:=by
 rw[zeg,zeg,JC,ku,uU,QY,yp]
theorem zlh{xs:List Int}(h:Br xs){i:Nat}(hi:i+1<xs.length):1<=Kt xs i/\Kt xs i<=2000:=by
 have h1:=h.up i hi;have h2:=h.high (i+1) hi;have h3:=h.low i (by omega);have h4:=h.low (i+1) hi;rw[Kt];split<;>omega
theorem zBu{xs:List Int}(h:Br xs){i:Nat}(hi:i+1<xs.length):(zh6 xs i).length<=3000:=by
 have h1:=zlh h hi;have h2:=h.dhi i (by omega);have h3:=h.dpos i (by omega);have:=ztW _ (Kt xs i).toNat ((dv xs).getD i 0).toNat (zw _);rw[zh6,exI,zS];omega
theorem zgk{xs:List Int}(h:Br xs):∀n,n+1<=xs.length->(zeg xs n).length<=3000*n
 |0,_=>by simp[zeg]
 |n+1,hn=>by
  have:=zgk h n (by omega);have:=zBu h (i:=n) (by omega);rw[zhn,zr];omega
def sq1(xs:List Int):List Int:=if xs.length=1 then[1]else Zr xs
def zme(es:List V):List V:=I (sq1 (yD es))
theorem zol:yM Tryz.prog 117 (zyT zme Qt):=by
 intro args ps r h hp;unfold zyT at h;split at h
 ·rename_i a0;cases h;have hq:Qt a0:=(zp.1 hp).1;have hqi:=hq.isIs;obtain⟨xs,hxs,hb⟩:=hq;have g1:V.frzs a0=a0:=by rw[hxs,zt]
  have e1:zki a0=xs.length-1:=by
   have:=hb.len;rw[zki,hxs,zg];exact zn (by omega) (by omega)
  have e2:zme a0=I (sq1 xs):=by rw[zme,hxs,zl]
  have e3:Kj a0=I (dv xs):=by rw[Kj,hxs,zl]
  generalize zks:zki=zpu,Jq:Kj=zaw,yu:qU=yP,zbl:zfY=zhZ,zbh:zlZ=zlR;refine zH (B:=[(129,zyQ zpu),(116,zr5 zaw yP)]) (Bi:=[(124,0,true,zmm zhZ zlR)]) [2000009999,0,1,2,3,4,5,6] Tryz.func117 rfl rfl (by subst zks Jq yu zbl zbh;exact(zm zpJ (zm zht zF))) (by subst zks Jq yu zbl zbh;exact(zrs zkY zA)) ?_;intro L lp rr hL hr hf hlp
  conv=>cbv
  obtain⟨ds,hds⟩:=qEx (I (dv xs));have l1:ds.length=xs.length:=by rw[hds,zg,hb.dlen]
  have hF:zaw a0=ds:=by rw[<-Jq,e3,hds]
  have hF2:zpu a0=xs.length-1:=by rw[<-zks,e1]
  simp only[zo hL,sQ,hF,hF2,g1];have hp1:=hb.pos;have hl1:=hb.len;refine⟨fun h=>?_,fun h=>?_⟩
  ·rw[hr,e2,sq1,if_pos (by omega)];rfl
  refine⟨by rw[<-yu];exact hqi,?_⟩
  refine hlp (List V×Int×Int) _ _ _ [1,3,4,5,6] (fun x=>[(wJ8 1 a0),(wJ2 3 ds),(wJ2 4 x.1),(wJ0 5 x.2.1),(wJ0 6 x.2.2)])
   (fun x=>1<=x.2.2/\x.2.2<=xs.length/\x.1=I (zeg xs (x.2.2-1).toNat)/\x.2.1=(if(x.2.2-1).toNat=0 then 0 else xs.getD (x.2.2-1).toNat 0)) (fun x=>(xs.length-x.2.2).toNat) (([],0,1)) (by subst hL;rfl) ?_ ?_
  ·exact⟨by simp,by simp only;omega,rfl,rfl⟩
  rintro⟨es,t,i⟩ ⟨i0,i1,hI,hT⟩ hfx ag hag;simp only at i0 i1 hI hT
  conv=>cbv
  have hlen:es.length<=200000:=by
   have:=zgk hb (i-1).toNat (by omega);rw[hI,zg];omega
  have ga:∀k,a0.getD k (.int .i64 0)=.int .i64 (xs.getD k 0):=fun k=>by rw[hxs,zG]
  have gd:∀k,ds.getD k (.int .i64 0)=.int .i64 ((dv xs).getD k 0):=fun k=>by rw[hds,zG]
  have al:a0.length=xs.length:=by rw[hxs,zg]
  have w1:IntKind.wrap .i64 (i-1)=i-1:=zn (by omega) (by omega);simp only[zo hL,sQ,l1,al,ga,gd,w1];obtain⟨k,rfl⟩:∃k:Nat,i=k+1:=⟨(i-1).toNat,by omega⟩;rw[show((k:Int)+1-1).toNat=k by omega]at hI hT;rw[show((k:Int)+1-1).toNat=k by omega,show((k:Int)+1).toNat=k+1 by omega];refine⟨fun h2=>?_,fun h2=>?_⟩
  ·have hk:xs.getD (k+1) 0-t=Kt xs k:=(by rw[Kt,hT]);have hkk:=zlh hb (i:=k) (by omega);have hd1:=hb.dpos k (by omega);have hd2:=hb.dhi k (by omega);rw[hk,zn (n:=Kt xs k),zn (n:=(k:Int)+1+1)];refine⟨by omega,by omega,by omega,by omega,by omega,by rw[<-zbh];exact⟨by omega,by omega,by omega,by omega,by omega⟩,by omega,by omega,?_⟩;refine hag (_,_,(k:Int)+1+1) ⟨by simp only;omega,by simp only;omega,?_,?_⟩ (by simp only;omega)
   ·simp only;rw[show((k:Int)+1+1-1).toNat=k+1 by omega,zhn,<-zbl,zfY,hI,qW];rfl
   ·simp only;rw[show((k:Int)+1+1-1).toNat=k+1 by omega,if_neg (by omega)];rfl
  ·rw[hr,e2,sq1,if_neg (by omega),hI,Zr,show xs.length-1=k by omega]
 ·cases h
def kB(xs:List Int)(k:Nat):List Int:=yQ (fun i=>(Zr xs).getD i 1) k
theorem Jy(xs:List Int)(k:Nat):(kB xs k).length=k:=yi _ _
theorem zDB(xs:List Int)(i:Nat):(sq1 xs).getD i 1=(Zr xs).getD i 1:=by
 rw[sq1];split
 ·rename_i h;have:Zr xs=[]:=by rw[Zr,h];rfl
  rw[this]
  cases i with
  |zero=>rfl
  |succ i=>rfl
 ·rfl
theorem zhH(l:List Int)(n i:Nat):(l++List.replicate n 1).getD i 1=l.getD i 1:=by
 simp only[zd];by_cases h:i<l.length
 ·rw[List.getElem?_append_left h]
 ·rw[List.getElem?_append_right (by omega),zy (l:=l) (by omega),jQ];split<;>rfl
theorem zxP{l:List Int}{xs:List Int}{n k:Nat}(hl:∀i,l.getD i 1=(Zr xs).getD i 1)(h:k<=(l++List.replicate n 1).length):(l++List.replicate n 1).take k=kB xs k:=by
 apply yB;intro i;by_cases hi:i<k
 ·rw[zbd hi,kB,kU _ _ _ hi,<-hl i,<-zhH l n i,zd,ze (by omega)];rfl
 ·rw[zy (by rw[zV];omega),zy (by rw[Jy];omega)]
def zpb(f:List V->Int->List V)(q:List V->Int->Prop):zO:=fun
 |[.agg [.slc false 2 (.int .i64 0) a0],.int .i64 a1]=>some ([q a0 a1],.slc false 2 (.int .i64 0) (f a0 a1))
 |_=>none
def ze4(f:List V->Int->List V)(q:List V->Int->Prop):zO:=fun
 |[.agg [.slc false 2 (.int .i64 0) a0],.int .i64 a1]=>some ([q a0 a1],.slc true 2 (.int .i64 0) (f a0 a1))
 |_=>none
def uA(es:List V)(k:Int):List V:=I (kB (yD es) k.toNat)
def Yf(es:List V)(k:Int):Prop:=Qt es/\1<=k/\k<=1000000
theorem zDA{xs:List Int}(h:Br xs):(sq1 xs).length<=200000:=by
 have h1:=h.len;have h2:=h.pos;have:=zgk h (xs.length-1) (by omega);rw[sq1];split
 ·simp
 ·rw[Zr];omega
theorem ziz:yM Tryz.prog 96 (zpb uA Yf):=by
 intro args ps r h hp;unfold zpb at h;split at h
 ·rename_i a0 a1;cases h;obtain⟨hq,k1,k2⟩:Yf a0 a1:=(zp.1 hp).1;have hqb:=hq;obtain⟨xs,hxs,hb⟩:=hq;have g1:V.frzs a0=a0:=by rw[hxs,zt]
  obtain⟨ss,hss⟩:=qEx (I (sq1 xs));have e1:zme a0=ss:=by rw[zme,hxs,zl,hss]
  have e2:uA a0 a1=I (kB xs a1.toNat):=by rw[uA,hxs,zl]
  have hsl:ss.length<=200000:=by rw[hss,zg];exact zDA hb
  generalize zw5:zme=zxx,Jb:Qt=zd7;refine zH (B:=[(117,zyT zxx zd7)]) (Bi:=[]) [0,1,2,4,5] Tryz.func96 rfl rfl (by subst zw5 Jb;exact(zm zol zF)) zA ?_;intro L lp rr hL hr hf hlp
  conv=>cbv
  have hF:zxx a0=ss:=by rw[<-zw5,e1]
  simp only[zo hL,sQ,hF,g1];refine⟨by rw[<-Jb];exact hqb,?_⟩
  refine hlp (List V×Nat) _ _ _ [1,5] (fun x=>[(wJ0 1 a1),(wJ2 5 x.1)])
   (fun x=>x.1=I (sq1 xs++List.replicate x.2 1)/\x.1.length<=1200000) (fun x=>a1.toNat-x.1.length) ((ss,0)) (by subst hL;rfl) ?_ ?_
  ·exact⟨by simp[hss],by simp only;omega⟩
  rintro⟨es,n⟩ ⟨hI,hl⟩ hfx ag hag;simp only at hI hl
  conv=>cbv
  simp only[zo hL,sQ,];refine⟨fun h=>?_,fun h=>?_⟩
  ·(repeat' first|(exact yL _)|(exact jY rfl)|(exact qG _)|(apply And.intro)|(intro _))<;>(try first|exact True.intro|omega|rfl|(simp only[zj,zu,zg];omega))
   refine hag (_,n+1) ⟨?_,?_⟩ ?_
   ·simp only;rw[qm,<-zU,<-qW,hI];rfl
   ·simp only[zr,zj,zu];omega
   ·simp only[zr,zj,zu];omega
  ·refine⟨by omega,by omega,by omega,by omega,?_⟩;rw[hr,e2,ur,hI,zt,zbg,zxP (zDB xs) (by rw[hI,zg]at h;omega)]
 ·cases h
theorem zCK(xss:List (List Int)):∀x∈II true xss,x.solid=true:=by
 intro x h;simp only[II,List.mem_map]at h;obtain⟨xs,_,rfl⟩:=h;rfl
def zdo(xs:List Int)(n:Nat):List (List Int):=(List.range n).flatMap fun i=>KE (Kt xs i) ((dv xs).getD i 0)
def zdp(xs:List Int):List (List Int):=zdo xs (xs.length-1)
theorem zjK(xs:List Int)(n:Nat):zdo xs (n+1)=zdo xs n++KE (Kt xs n) ((dv xs).getD n 0):=by
 rw[zdo,zdo,JC,ku,uU,QY,yp]
theorem zfL(xs:List Int):∀n,jF (zdo xs n)=zeg xs n
 |0=>rfl
 |n+1=>by
  have h:∀a b:List (List Int),jF (a++b)=jF a++jF b:=fun a b=>by rw[jF,ku];rfl
  rw[zjK,zhn,h,zfL xs n,zlr,zh6]
theorem zvW{xs:List Int}(h:Br xs){i:Nat}(hi:i+1<xs.length):(KE (Kt xs i) ((dv xs).getD i 0)).length<=64:=by
 have h2:=h.dhi i (by omega);have h3:=h.dpos i (by omega);have:=zim _ (Kt xs i).toNat ((dv xs).getD i 0).toNat (zw _);rw[KE,zS];omega
theorem zhu{xs:List Int}(h:Br xs):∀n,n+1<=xs.length->(zdo xs n).length<=64*n
 |0,_=>by simp[zdo]
 |n+1,hn=>by
  have:=zhu h n (by omega);have:=zvW h (i:=n) (by omega);rw[zjK,zr];omega
theorem zqU{xs:List Int}:∀n,∀s∈zdo xs n,s.length=2/\0<=s.getD 0 0/\0<=s.getD 1 0:=by
 intro n s h;simp only[zdo,List.mem_flatMap]at h;obtain⟨i,_,h⟩:=h;exact zvV h
def zpd(f:List V->List V)(q:List V->Prop):zO:=fun
 |[.agg [.slc false 2 (.int .i64 0) a0]]=>some ([q a0],.slc true 24 (.slc true 2 (.int .i64 0) []) (f a0))
 |_=>none
def zdE(es:List V):List V:=II true (zdp (yD es))
theorem ziu:yM Tryz.prog 123 (zpd zdE Qt):=by
 intro args ps r h hp;unfold zpd at h;split at h
 ·rename_i a0;cases h;have hq:Qt a0:=(zp.1 hp).1;have hqp:=hq.isP;obtain⟨xs,hxs,hb⟩:=hq;have g1:V.frzs a0=a0:=by rw[hxs,zt]
  have e2:zdE a0=II true (zdp xs):=by rw[zdE,hxs,zl]
  have e3:Kj a0=I (dv xs):=by rw[Kj,hxs,zl]
  generalize Jq:Kj=zaw,zps:IsP=zy2,zjf:zkd=zda,zja:zjL=zmt;refine zH (B:=[(142,zr6 zaw zy2),(143,zi5 zda zmt)]) (Bi:=[]) [0,1,2,3,4,5,6] Tryz.func123 rfl rfl (by subst Jq zps zjf zja;exact(zm zeX (zm zoj zF))) zA ?_;intro L lp rr hL hr hf hlp
  conv=>cbv
  obtain⟨ds,hds⟩:=qEx (I (dv xs));have l1:ds.length=xs.length:=by rw[hds,zg,hb.dlen]
  have hF:zaw a0=ds:=by rw[<-Jq,e3,hds]
  simp only[zo hL,sQ,hF,g1];refine⟨by rw[<-zps];exact hqp,?_⟩;have hp1:=hb.pos;have hl1:=hb.len
  refine hlp (List V×Int) _ _ _ [1,3,4,5] (fun x=>[(wJ8 1 a0),(wJ2 3 ds),(4,none,.val (.slc true 24 (.slc true 2 (.int .i64 0) []) x.1)),(wJ0 5 x.2)])
   (fun x=>1<=x.2/\x.2<=xs.length/\x.1=II true (zdo xs (x.2-1).toNat)) (fun x=>(xs.length-x.2).toNat) (([],1)) (by subst hL;rfl) ?_ ?_
  ·exact⟨by simp,by simp only;omega,rfl⟩
  rintro⟨es,i⟩ ⟨i0,i1,hI⟩ hfx ag hag;simp only at i0 i1 hI
  conv=>cbv
  have ga:∀k,a0.getD k (.int .i64 0)=.int .i64 (xs.getD k 0):=fun k=>by rw[hxs,zG]
  have gd:∀k,ds.getD k (.int .i64 0)=.int .i64 ((dv xs).getD k 0):=fun k=>by rw[hds,zG]
  have al:a0.length=xs.length:=by rw[hxs,zg]
  have w1:IntKind.wrap .i64 (i-1)=i-1:=zn (by omega) (by omega);simp only[zo hL,sQ,l1,al,ga,gd,w1];obtain⟨k,rfl⟩:∃k:Nat,i=k+1:=⟨(i-1).toNat,by omega⟩;rw[show((k:Int)+1-1).toNat=k by omega]at hI;rw[show((k:Int)+1-1).toNat=k by omega,show((k:Int)+1).toNat=k+1 by omega]
  have fin:(k:Int)+1<xs.length->∀z,z=Kt xs k->zmt z ((dv xs).getD k 0)/\(es.length:Int)+(zda z ((dv xs).getD k 0)).length<=2147483647/\(∀x∈zda z ((dv xs).getD k 0),x.solid=true)/\ag (Yt [1,3,4,5] [(wJ8 1 a0),(wJ2 3 ds),(4,none,.val (.slc true 24 (.slc true 2 (.int .i64 0) []) (es++zda z ((dv xs).getD k 0)))),(wJ0 5 (k+1+1))]):=by
   intro h z hz;have hkk:=zlh hb (i:=k) (by omega);have hd1:=hb.dpos k (by omega);have hd2:=hb.dhi k (by omega);have hlr:=zhu hb k (by omega);have hls:=zvW hb (i:=k) (by omega);have hfz:zda z ((dv xs).getD k 0)=II true (KE (Kt xs k) ((dv xs).getD k 0)):=(by rw[<-zjf,hz];rfl);rw[hfz];refine⟨by rw[<-zja,hz];exact⟨by omega,by omega,by omega,by omega⟩,by rw[hI,ye,ye];omega,zCK _,?_⟩;refine hag (_,(k:Int)+1+1) ⟨by simp only;omega,by simp only;omega,?_⟩ (by simp only;omega);simp only;rw[show((k:Int)+1+1-1).toNat=k+1 by omega,zjK,hI,Zv]
  refine⟨fun h=>⟨by omega,by omega,fun h2=>?_,fun h2=>?_⟩,fun h=>?_⟩
  ·have hz:IntKind.wrap .i64 (xs.getD (k+1) 0-xs.getD k 0)=Kt xs k:=by
    have hkk:=zlh hb (i:=k) (by omega);have e:xs.getD (k+1) 0-xs.getD k 0=Kt xs k:=(by rw[Kt,if_neg (by omega)]);rw[e,zn (by omega) (by omega)]
   obtain⟨f1,f2,f3,f4⟩:=fin h _ hz;rw[zn (n:=(k:Int)+1+1)];exact⟨by omega,by omega,by omega,by omega,by omega,f1,f2,f3,f4⟩
  ·have hz:xs.getD (k+1) 0=Kt xs k:=by
    rw[Kt,if_pos (by omega)];omega
   obtain⟨f1,f2,f3,f4⟩:=fin h _ hz;rw[zn (n:=(k:Int)+1+1)];exact⟨by omega,by omega,by omega,f1,f2,f3,f4⟩
  ·rw[hr,e2,hI,zdp,show xs.length-1=k by omega]
 ·cases h
theorem zzc{xs:List Int}{k n:Nat}(h:((Zr xs).take k++List.replicate n 1).length=k):(Zr xs).take k++List.replicate n 1=kB xs k:=by
 apply yB;intro i;by_cases hi:i<k
 ·have h1:((Zr xs).take k++List.replicate n 1).getD i 1=(Zr xs).getD i 1:=by
   rw[zhH,zd,zbd hi,<-zd]
  rw[kB,kU _ _ _ hi,<-h1,zd,ze (by omega)];rfl
 ·rw[zy (by omega),zy (by rw[Jy];omega)]
theorem zza{l:List Int}{k:Nat}(x:Int)(h:(l.take k).length<k):l.take k++[x]=(l++[x]).take k:=by
 rw[zV]at h;rw[zB (by omega),zB (by simp;omega)]
theorem zzb{l:List Int}{k:Nat}(m:List Int)(h:¬(l.take k).length<k):l.take k=(l++m).take k:=by
 rw[zV]at h;rw[List.take_append_of_le_length (by omega)]
theorem zeW:yM Tryz.prog 107 (ze4 uA Yf):=by
 intro args ps r h hp;unfold ze4 at h;split at h
 ·rename_i a0 a1;cases h;obtain⟨hq,k1,k2⟩:Yf a0 a1:=(zp.1 hp).1;have hqb:=hq;obtain⟨xs,hxs,hb⟩:=hq;have g1:V.frzs a0=a0:=by rw[hxs,zt]
  obtain⟨S,hS⟩:=qEx (zdp xs);obtain⟨ss,hss⟩:=qEx (II true S);have e1:zdE a0=ss:=by rw[zdE,hxs,zl,hss,hS]
  have e2:uA a0 a1=I (kB xs a1.toNat):=by rw[uA,hxs,zl]
  have hsl:ss.length=S.length:=by rw[hss,ye]
  have hSl:S.length<=5000:=by
   have h1:=hb.len;have h2:=hb.pos;have:=zhu hb (xs.length-1) (by omega);rw[hS,zdp];omega
  have gss:∀k,ss.getD k (.slc true 2 (.int .i64 0) [])=.slc true 2 (.int .i64 0) (I (S.getD k [])):=fun k=>by rw[hss,qu]
  generalize zg8:zdE=zhe,Jb:Qt=zd7;refine zH (B:=[(123,zpd zhe zd7)]) (Bi:=[]) [0,1,2,4,5,6,7,8] Tryz.func107 rfl rfl (by subst zg8 Jb;exact(zm ziu zF)) zA ?_;intro L lp rr hL hr hf hlp
  conv=>cbv
  have hF:zhe a0=ss:=by rw[<-zg8,e1]
  simp only[zo hL,sQ,hF,g1];refine⟨by rw[<-Jb];exact hqb,?_⟩
  refine hlp (List V×Int) _ _ _ [1,5,6,7] (fun x=>[(wJ0 1 a1),(wJ2 5 x.1),(6,none,.val (.slc true 24 (.slc true 2 (.int .i64 0) []) ss)),(wJ0 7 x.2)])
   (fun x=>0<=x.2/\x.2<=S.length/\x.1=I ((jF (S.take x.2.toNat)).take a1.toNat)) (fun x=>(S.length-x.2).toNat) (([],0)) (by subst hL;rfl) ?_ ?_
  ·exact⟨by simp,by simp only;omega,by simp[jF,I]⟩
  rintro⟨es,i⟩ ⟨i0,i1,hI⟩ hfx ag hag;simp only at i0 i1 hI
  have hst:=zj8 S i.toNat
  have hmem:=fun(h:i.toNat<S.length)=>zqU (xs:=xs) (xs.length-1) (S.getD i.toNat []) (by have:=zcF h;rwa [hS,zdp]at this ⊢);generalize hE:S.getD i.toNat []=E at hst hmem;have hl:es.length<=a1.toNat:=by rw[hI,zg,zV];omega
  conv=>cbv
  simp only[zo hL,sQ,hsl,gss,hE];refine⟨fun h=>?_,fun h=>?_⟩
  ·obtain⟨hEl,hE0,hE1⟩:=hmem (by omega);have hst':=hst (by omega);obtain⟨it,hit⟩:=qEx i.toNat;simp only[<-hit]at hE hst' hI ⊢;have hti:it<S.length:=by omega
   have hEb:E.getD 0 0<=200000:=by
    have h1:jF S=jF (S.take (it+1))++jF (S.drop (it+1)):=by
     rw[jF,jF,jF,<-ku,jI]
    have h2:=congrArg List.length h1;have h3:=hb.pos;have h4:=hb.len;have h5:=zgk hb (xs.length-1) (by omega);have h6:jF S=zeg xs (xs.length-1):=(by rw[hS,zdp,zfL]);rw[h6,zr,hst',zr,zx]at h2;omega
   refine⟨by omega,by omega,hti,hti,by omega,by omega,hti,by omega,?_⟩
   refine hlp (List V×Int) _ _ _ [1,5,6,7,8] (fun x=>[(wJ0 1 a1),(wJ2 5 x.1),(6,none,.val (.slc true 24 (.slc true 2 (.int .i64 0) []) ss)),(wJ0 7 i),(wJ0 8 x.2)])
    (fun x=>0<=x.2/\x.2<=E.getD 0 0/\x.1=I ((jF (S.take it)++List.replicate (E.getD 0 0-x.2).toNat (E.getD 1 0)).take a1.toNat)) (fun x=>x.2.toNat) ((es,E.getD 0 0)) (by subst hL;rfl) ?_ ?_
   ·exact⟨by simp only;omega,by simp,by simp[hI]⟩
   rintro⟨es2,q⟩ ⟨j0,j1,hI2⟩ hfx2 ag2 hag2;simp only at j0 j1 hI2;have hl2:es2.length<=a1.toNat:=by rw[hI2,zg,zV];omega
   conv=>cbv
   simp only[zo hL,sQ,hsl,gss,<-hit,hE];refine⟨fun hj=>?_,fun hj=>?_⟩
   ·rw[zn (n:=q-1)];refine⟨by omega,by omega,hti,hti,by omega,by omega,hti,by omega,qG _,by simp only[zj,zu];omega,yL _,?_⟩;refine hag2 (_,q-1) ⟨by simp only;omega,by simp only;omega,?_⟩ (by simp only;omega);simp only
    have hlt:((jF (S.take it)++List.replicate (E.getD 0 0-q).toNat (E.getD 1 0)).take a1.toNat).length<a1.toNat:=by
     have:=hj.2;rw[hI2,zg]at this;omega
    rw[show(E.getD 0 0-(q-1)).toNat=(E.getD 0 0-q).toNat+1 by omega,qm,<-zU,<-zza _ hlt,hI2,<-qW];rfl
   ·rw[zn (n:=i+1)];refine hag (_,i+1) ⟨by simp only;omega,by simp only;omega,?_⟩ (by simp only;omega);simp only[ya i0,<-hit];rw[hst',hI2];by_cases hq0:q=0
    ·rw[show(E.getD 0 0-q).toNat=(E.getD 0 0).toNat by omega]
    ·have hfl:¬((jF (S.take it)++List.replicate (E.getD 0 0-q).toNat (E.getD 1 0)).take a1.toNat).length<a1.toNat:=by
      have:=hj.resolve_left (by omega);rw[hI2,zg]at this;omega
     rw[zzb (List.replicate q.toNat (E.getD 1 0)) hfl,zU,List.replicate_append_replicate,show(E.getD 0 0-q).toNat+q.toNat=(E.getD 0 0).toNat by omega]
  ·have hI':es=I ((Zr xs).take a1.toNat):=by
    rw[hI,zB (l:=S) (by omega),hS,zdp,zfL,Zr]
   clear hst hmem hI
   refine hlp (List V×Nat) _ _ _ [1,5] (fun x=>[(wJ0 1 a1),(wJ2 5 x.1)])
    (fun x=>x.1=I ((Zr xs).take a1.toNat++List.replicate x.2 1)/\x.1.length<=a1.toNat) (fun x=>a1.toNat-x.1.length) ((es,0)) (by subst hL;rfl) ?_ ?_
   ·exact⟨by simp[hI'],hl⟩
   rintro⟨es2,n⟩ ⟨hI2,hl2⟩ hfx2 ag2 hag2;simp only at hI2 hl2
   conv=>cbv
   simp only[zo hL,sQ,];refine⟨fun h=>?_,fun h=>?_⟩
   ·(repeat' first|(exact yL _)|(exact jY rfl)|(exact qG _)|(apply And.intro)|(intro _))<;>(try first|exact True.intro|omega|rfl|(simp only[zj,zu,zg];omega))
    refine hag2 (_,n+1) ⟨?_,?_⟩ ?_
    ·simp only;rw[qm,<-zU,<-qW,hI2];rfl
    ·simp only[zr,zj,zu];omega
    ·simp only[zr,zj,zu];omega
   ·rw[hr,e2,hI2,zzc (by rw[hI2,zg]at h hl2;omega)]
 ·cases h
theorem zqe:∀(l:List Int) (d:Int) (i:Nat),i<l.length->(ZL d l).getD i 0=jq (if i=0 then d else(ZL d l).getD (i-1) 0) (l.getD i 0)
 |[],_,i,h=>by simp at h
 |t::l,d,0,_=>rfl
 |t::l,d,1,h=>by
  have:=zqe l (jq d t) 0 (by simpa using h);simpa [ZL]using this
 |t::l,d,i+2,h=>by
  have:=zqe l (jq d t) (i+1) (by simp at h;omega);simpa [ZL]using this
theorem ztC{a b:Int}(ha:0<a)(hb:0<b):jq a b=(Nat.gcd a.toNat b.toNat:Int):=by
 rw[jq,zey ha,zey hb,zj5 _ a b (zw _) (by omega) (by omega)]
def ddN(xs:List Int)(i:Nat):Nat:=((dv xs).getD i 0).toNat
def kkN(xs:List Int)(i:Nat):Nat:=(Kt xs i).toNat
theorem zwF{xs:List Int}(h:Br xs){i:Nat}(hi:i+1<xs.length):ddN xs (i+1)=Nat.gcd (ddN xs i) (xs.getD (i+1) 0).toNat:=by
 have h1:=zqe xs 0 (i+1) hi;have h2:=h.dpos i (by omega);have h3:=h.low (i+1) hi;rw[if_neg (by omega),show i+1-1=i by omega]at h1;have h4:(dv xs).getD (i+1) 0=jq ((dv xs).getD i 0) (xs.getD (i+1) 0):=h1;rw[ztC (by omega) (by omega)]at h4;rw[ddN,h4,zL,ddN]
theorem zEi{xs:List Int}(h:Br xs):∀{i:Nat},i<xs.length->ddN xs i ∣ (xs.getD i 0).toNat
 |0,_=>by rw[ddN,h.d0];exact Nat.dvd_refl _
 |i+1,hi=>by rw[zwF h hi];exact Nat.gcd_dvd_right _ _
theorem zFl{xs:List Int}(h:Br xs){i:Nat}(hi:i+1<xs.length):Nat.gcd (ddN xs i) (kkN xs i)=ddN xs (i+1):=by
 rw[zwF h hi,kkN,Kt];by_cases h0:i=0
 ·rw[if_pos h0];congr 1;omega
 ·rw[if_neg h0];obtain⟨c,hc⟩:=zEi h (i:=i) (by omega);have h1:=h.up i hi;have h2:=h.low i (by omega);rw[show(xs.getD (i+1) 0).toNat=(xs.getD (i+1) 0-xs.getD i 0).toNat+ddN xs i*c by omega,Nat.mul_comm (ddN xs i) c,Nat.gcd_add_mul_right_right]
def blk(xs:List Int)(i:Nat):Nat->List (Nat×Nat)
 |0=>[]
 |n+1=>(kkN xs i,ddN xs i)::blk xs (i+1) n
theorem zrt{xs:List Int}(h:Br xs):∀(n i:Nat),i+n+1=xs.length->zy3 (ddN xs i) (blk xs i n)
 |0,i,hi=>by
  have:=h.dlast;rw[show xs.length-1=i by omega]at this;show ddN xs i=1;rw[ddN,this];rfl
 |n+1,i,hi=>by
  have:=h.dpos i (by omega);refine⟨rfl,by rw[ddN];omega,?_⟩;rw[zFl h (by omega)];exact zrt h n (i+1) (by omega)
def KT(l:List Nat):List Int:=l.map fun(n:Nat)=>(n:Int)
theorem zwM(xs:List Int):∀(n i:Nat),KT (zdT (blk xs i n))=(List.range' i n).flatMap (zh6 xs)
 |0,i=>rfl
 |n+1,i=>by
  have:=zwM xs n (i+1);rw[List.range'_succ,uU,<-this,blk,zdT,KT,List.map_append];rfl
def zle(xs:List Int):List Nat:=zdT (blk xs 0 (xs.length-1))
def mul(xs:List Int)(i:Nat):Nat:=(zle xs).getD i 1
theorem zBs(xs:List Int):Zr xs=KT (zle xs):=by
 rw[zle,zwM,Zr,zeg,List.range_eq_range']
theorem zni(xs:List Int)(i:Nat):(Zr xs).getD i 1=mul xs i:=by
 rw[zBs,KT,mul,zd,zd,zK];cases (zle xs)[i]? <;>rfl
theorem KU{xs:List Int}(h:Br xs):GoodM (mul xs)/\mul xs 0<=64:=by
 have h1:=h.pos;have hc:=zrt h (xs.length-1) 0 (by omega);obtain⟨g1,g2,_⟩:=zm3 _ _ hc;refine⟨zB9 g1,je g2 ?_⟩;have:=h.dhi 0 h1;rw[ddN];omega
theorem zdw{xs:List Int}(h:Br xs):∀i,mul xs i<=64
 |0=>(KU h).2
 |i+1=>je ((KU h).1.fall i) (zdw h i)
theorem zdD(xs:List Int)(k:Nat):kB xs k=yQ (fun i=>(mul xs i:Int)) k:=qE fun i _=>zni xs i
def prx(M:Nat->Nat)(i j:Nat):Bool:=decide (qL M i (j-i)<=M i)
def prs(M:Nat->Nat)(i j:Nat):List Nat:=(List.range (min i j)).filter fun a=>prx M a j
theorem zBM{M:Nat->Nat}{i j:Nat}(h:j<=i):prs M (i+1) j=prs M i j:=by
 rw[prs,prs,show min (i+1) j=min i j by omega]
theorem zek{M:Nat->Nat}{i j:Nat}(h:i<j):prs M (i+1) j=prs M i j++(if qL M i (j-i)<=M i then[i]else[]):=by
 rw[prs,prs,show min (i+1) j=i+1 by omega,show min i j=i by omega,JC,List.filter_append];congr 1;by_cases hp:qL M i (j-i)<=M i<;>simp[prx,hp]
theorem zsM{M:Nat->Nat}(h:GoodM M){i j j':Nat}(hij:i<j)(hj:j<=j')(hn:¬qL M i (j-i)<=M i):¬qL M i (j'-i)<=M i:=by
 by_cases e:j=j'
 ·subst e;exact hn
 ·have:=Js h i (k:=j-i) (k':=j'-i) (by omega);omega
def cd(M:Nat->Nat)(i j:Nat):Int:=match prs M (min i (j-1)) j with
 |[]=>0
 |a::_=>(j:Int)-a
theorem zEl{M:Nat->Nat}(h:GoodM M){i j:Nat}(hij:i+1<j)(hp:qL M i (j-i)<=M i):cd M (i+1) j=(j:Int)-i:=by
 have h1:prs M i j=[]:=by
  cases hh:prs M i j with
  |nil=>rfl
  |cons a l=>
   have ha:a∈prs M i j:=(by rw[hh];simp);simp only[prs,List.mem_filter,jr,prx,decide_eq_true_eq]at ha;exact absurd hp (zhy h (i:=a) (i':=i) (j:=j) (by omega) hij ha.2)
 rw[cd,show min (i+1) (j-1)=i+1 by omega,zek (by omega),h1,if_pos hp];rfl
theorem zqg{M:Nat->Nat}{i j:Nat}(hp:¬(i+1<j/\qL M i (j-i)<=M i)):cd M (i+1) j=cd M i j:=by
 rw[cd,cd];by_cases hij:i+1<j
 ·rw[show min (i+1) (j-1)=i+1 by omega,show min i (j-1)=i by omega,zek (by omega),if_neg (fun h=>hp ⟨hij,h⟩),yp]
 ·rw[show min (i+1) (j-1)=j-1 by omega,show min i (j-1)=j-1 by omega]
theorem zqh{M:Nat->Nat}(h:GoodM M){i j:Nat}(hj:1<=j)(hi:j<=i):cd M i j=if 1<(prs M j j).length then(j:Int)-((prs M j j).getD 0 0:Nat)else 0:=by
 obtain⟨j,rfl⟩:∃k,j=k+1:=⟨j-1,by omega⟩;have h1:=zek (M:=M) (i:=j) (j:=j+1) (by omega);have h2:qL M j (j+1-j)<=M j:=zsN h j;rw[if_pos h2]at h1;rw[cd,show min i (j+1-1)=j by omega,h1]
 cases prs M j (j+1)with
 |nil=>simp
 |cons a l=>simp
theorem zn7{M M':Nat->Nat}{i:Nat}:∀{k:Nat},(∀t,t<=i+k->M t=M' t)->qL M i k=qL M' i k
 |0,_=>rfl
 |k+1,h=>by rw[qL,qL,zn7 (fun t ht=>h t (by omega)),h _ (by omega)]
theorem zzx{M M':Nat->Nat}{i j:Nat}(h:∀t,t<=j->M t=M' t):prs M i j=prs M' i j:=by
 rw[prs,prs];apply List.filter_congr;intro a ha;have ha:=jr.1 ha;rw[prx,prx,zn7 (fun t ht=>h t (by omega)),h a (by omega)]
def ofL(l:List Int)(i:Nat):Nat:=(l.getD i 1).toNat
theorem zzD(xs:List Int)(k i:Nat)(h:i<k):ofL (kB xs k) i=mul xs i:=by
 rw[ofL,zdD,jp _ _ _ _ h,zL]
def zfF(l:List Int):List (List Int):=yQ (fun j=>KT (prs (ofL l) j j)) l.length
theorem zaq(xs:List Int)(k:Nat):zfF (kB xs k)=yQ (fun j=>KT (prs (mul xs) j j)) k:=by
 rw[zfF,Jy];exact qE fun j hj=>by rw[zzx fun t ht=>zzD xs k t (by omega)]
def zmn(f:List V->List V)(q:List V->Prop):zO:=fun
 |[.slc false 2 (.int .i64 0) a0]=>some ([q a0],.slc true 24 (.slc true 2 (.int .i64 0) []) (f a0))
 |_=>none
def zlu(es:List V):List V:=II true (zfF (yD es))
def zsI(es:List V):Prop:=∃xs k,Br xs/\es=I (kB xs k)/\k<=1000000
theorem zDM(M:Nat->Nat)(i j:Nat):(prs M i j).length<=j:=by
 have:=List.length_filter_le (fun a=>prx M a j) (List.range (min i j));rw[List.length_range]at this;rw[prs];omega
theorem zBh{α:Type}(f:Nat->α){n i:Nat}(x:α)(h:i<n):(yQ f n).set i x=yQ (fun t=>if t=i then x else f t) n:=by
 apply yB;intro t;by_cases ht:t<n
 ·rw[kU _ _ _ ht];by_cases hti:t=i
  ·subst hti;rw[Zj (by rw[yi];exact ht),if_pos rfl]
  ·rw[List.getElem?_set_ne (by omega),kU _ _ _ ht,if_neg hti]
 ·rw[zy (by rw[List.length_set,yi];omega),zy (by rw[yi];omega)]
theorem zmB:yM Tryz.prog 95 (zmn zlu zsI):=by
 intro args ps r h hp;unfold zmn at h;split at h
 ·rename_i a0;cases h;obtain⟨xs,k,hb,hm,hk⟩:zsI a0:=(zp.1 hp).1;have al:a0.length=k:=by rw[hm,zg,Jy]
  have e1:zlu a0=II true (yQ (fun j=>KT (prs (mul xs) j j)) k):=by rw[zlu,hm,zl,zaq]
  have ga:∀i,i<k->a0.getD i (.int .i64 0)=.int .i64 (mul xs i):=fun i hi=>by rw[hm,zG,zdD,jp _ _ _ _ hi]
  obtain⟨hg,_⟩:=KU hb;have h64:=zdw hb;refine zH (B:=[]) (Bi:=[]) [0,2,3,4,5,6,11,12] Tryz.func95 rfl rfl zF zA ?_;intro L lp rr hL hr hf hlp
  conv=>cbv
  simp only[zo hL,sQ,al];refine⟨by omega,by omega,by omega,?_⟩;obtain⟨K,hK⟩:=qEI k;rw[<-hK]
  refine hlp (List V×Int) _ _ _ [0,3,11,12] (fun x=>[(wJ3 0 a0),(3,none,.val (.slc true 24 (.slc true 2 (.int .i64 0) []) x.1)),(wJ0 11 K),(wJ0 12 x.2)])
   (fun x=>0<=x.2/\x.2<=k/\x.1=II true (yQ (fun j=>KT (prs (mul xs) x.2.toNat j)) k)) (fun x=>(k-x.2).toNat) ((_,0)) (by subst hL;rfl) ?_ ?_
  ·refine⟨by simp,by simp only;omega,?_⟩;simp only;rw[show K.toNat=k by omega,show(V.slc true 2 (.int .i64 0) [])=.slc true 2 (.int .i64 0) (I [])from rfl,<-zg6];congr 1;apply yB;intro t;by_cases ht:t<k
   ·rw[kU _ _ _ ht,jQ,if_pos ht];simp[prs,KT]
   ·rw[zy (by rw[zx];omega),zy (by rw[yi];omega)]
  rintro⟨es,i⟩ ⟨i0,i1,hI⟩ hfx ag hag;simp only at i0 i1 hI
  conv=>cbv
  simp only[zo hL,sQ,];obtain⟨n,hn⟩:∃n:Nat,n=i.toNat:=⟨i.toNat,rfl⟩;rw[<-hn]at hI;refine⟨fun h=>?_,fun h=>?_⟩
  ·rw[zn (n:=i+1)]
   refine hlp (List V×Int×Int) _ _ _ [0,3,4,5,6,11,12] (fun x=>[(wJ3 0 a0),(3,none,.val (.slc true 24 (.slc true 2 (.int .i64 0) []) x.1)),(wJ0 4 i),(wJ0 5 x.2.1),(wJ0 6 x.2.2),(wJ0 11 K),(wJ0 12 i)])
    (fun x=>i+1<=x.2.2/\x.2.2<=k/\x.2.1=(qL (mul xs) n (x.2.2.toNat-(n+1)):Nat)/\x.2.1<=mul xs n/\x.1=II true (yQ (fun t=>KT (prs (mul xs) (if t<x.2.2.toNat then n+1 else n) t)) k)) (fun x=>(k-x.2.2).toNat) ((es,0,i+1)) (by subst hL;rfl) ?_ ?_
   ·refine⟨by simp,by simp only;omega,?_,?_,?_⟩
    ·simp only;rw[show(i+1).toNat-(n+1)=0 by omega];rfl
    ·simp only;omega
    ·simp only;rw[hI];congr 1;refine qE fun t _=>?_;split
     ·rw[zBM (by omega)]
     ·rfl
   rintro⟨es2,sm,j⟩ ⟨j0,j1,hS,hM,hI2⟩ hfx2 ag2 hag2;simp only at j0 j1 hS hM hI2;have hMn:=h64 n
   have hMj:=h64 j.toNat
   have hl2:es2.length=k:=(by rw[hI2,ye,yi]);have gn:=ga i.toNat (by omega);rw[<-hn]at gn
   have ge:es2.getD j.toNat (.slc true 2 (.int .i64 0) [])=.slc true 2 (.int .i64 0) (I (KT (prs (mul xs) n j.toNat)))\/¬j.toNat<k:=by
    by_cases hj:j.toNat<k
    ·left;rw[hI2,qu,jp _ _ _ _ hj,if_neg (by omega)]
    ·exact .inr hj
   conv=>cbv
   simp only[zo hL,sQ,al,hl2,<-hn,gn];refine⟨fun hj=>?_,fun hj=>?_⟩
   ·have gj:=ga j.toNat (by omega);have ge:=ge.resolve_right (by omega)
    have hs1:qL (mul xs) n (j.toNat-n)=qL (mul xs) n (j.toNat-(n+1))+mul xs j.toNat:=by
     rw[show j.toNat-n=(j.toNat-(n+1))+1 by omega,qL,show n+1+(j.toNat-(n+1))=j.toNat by omega]
    simp only[zo hL,sQ,gj,ge,List.length_set,hl2];rw[zn (n:=sm+mul xs j.toNat),zn (n:=j+1),zn (n:=i+1)];refine⟨by omega,by omega,by omega,by omega,fun hlt=>?_,fun hge=>?_⟩
    ·refine hag (_,i+1) ⟨by simp only;omega,by simp only;omega,?_⟩ (by simp only;omega);simp only;rw[show(i+1).toNat=n+1 by omega,hI2];congr 1;refine qE fun t _=>?_;split
     ·rfl
     ·rename_i htj;rw[zek (by omega),if_neg (zsM hg (j:=j.toNat) (by omega) (by omega) (by omega)),yp]
    ·have hpl:=zDM (mul xs) n j.toNat
     refine⟨by omega,by omega,by omega,by omega,qG _,by rw[KT,zS];simp only[zj,zu];omega,yL _,by omega,by omega,by omega,?_,?_⟩
     ·rw[zd,Zj (by omega)];exact .inr ⟨.slc true 2 (.int .i64 0) [],rfl,rfl,rfl⟩
     ·refine hag2 (_,_,j+1) ⟨by simp only;omega,by simp only;omega,?_,by simp only;omega,?_⟩ (by simp only;omega)
      ·simp only;rw[show(j+1).toNat-(n+1)=j.toNat-n by omega,hs1,hS,zhW]
      ·simp only
       have e:I (KT (prs (mul xs) n j.toNat))++[V.int .i64 i]=I (KT (prs (mul xs) (n+1) j.toNat)):=by
        rw[zek (by omega),if_pos (by omega),KT,KT,List.map_append,show i=(n:Int) by omega,<-qW];rfl
       rw[e,List.set_set,hI2,zd5,zBh _ _ (by omega)];congr 1;refine qE fun t _=>?_
       by_cases htj:t=j.toNat
       ·rw[if_pos htj,if_pos (by omega),htj]
       ·rw[if_neg htj]
        by_cases htl:t<j.toNat
        ·rw[if_pos htl,if_pos (by omega)]
        ·rw[if_neg htl,if_neg (by omega)]
   ·rw[zn (n:=i+1)];refine hag (_,i+1) ⟨by simp only;omega,by simp only;omega,?_⟩ (by simp only;omega);simp only;rw[show(i+1).toNat=n+1 by omega,hI2];congr 1;refine qE fun t ht=>?_;rw[if_pos (by omega)]
  ·rw[hr,e1,hI,show n=k by omega];congr 2;refine qE fun t ht=>?_;rw[prs,prs,show min k t=min t t by omega]
 ·cases h
def ziZ(xss:List (List Int))(j:Nat):Int:=if 1<(xss.getD (j+1) []).length then(j:Int)+1-(xss.getD (j+1) []).getD 0 0 else 0
def zo8(xss:List (List Int)):List Int:=yQ (ziZ xss) (xss.length-1)
def zyM(f:List V->List V)(q:List V->Prop):zO:=fun
 |[.slc false 24 (.slc false 2 (.int .i64 0) []) a0]=>some ([q a0],.slc true 2 (.int .i64 0) (f a0))
 |_=>none
def zlw(es:List V):List V:=I (zo8 (zbR es))
def zou(es:List V):Prop:=∃xss,es=II false xss/\1<=xss.length/\xss.length<=1000000/\∀j,j<xss.length->0<=(xss.getD j []).getD 0 0/\(xss.getD j []).getD 0 0<=1000000
theorem zrG:yM Tryz.prog 51 (zyM zlw zou):=by
 intro args ps r h hp;unfold zyM at h;split at h
 ·rename_i a0;cases h;obtain⟨xss,hx,n1,n2,hb⟩:zou a0:=(zp.1 hp).1;have al:a0.length=xss.length:=by rw[hx,ye]
  have e1:zlw a0=I (zo8 xss):=by rw[zlw,hx,qB]
  have ga:∀i,a0.getD i (.slc false 2 (.int .i64 0) [])=.slc false 2 (.int .i64 0) (I (xss.getD i [])):=fun i=>by rw[hx,qu]
  refine zH (B:=[]) (Bi:=[]) [0,2,3,4,5] Tryz.func51 rfl rfl zF zA ?_;intro L lp rr hL hr hf hlp
  conv=>cbv
  refine hlp (List V×Int) _ _ _ [0,3,4] (fun x=>[(0,none,.val (.slc false 24 (.slc false 2 (.int .i64 0) []) a0)),(wJ2 3 x.1),(wJ0 4 x.2)])
   (fun x=>1<=x.2/\x.2<=xss.length/\x.1=I (yQ (ziZ xss) (x.2-1).toNat)) (fun x=>(xss.length-x.2).toNat) (([],1)) (by subst hL;rfl) ?_ ?_
  ·exact⟨by simp,by simp only;omega,rfl⟩
  rintro⟨es,i⟩ ⟨i0,i1,hI⟩ hfx ag hag;simp only at i0 i1 hI;have hel:es.length=(i-1).toNat:=by rw[hI,zg,yi]
  conv=>cbv
  obtain⟨E,hE⟩:=qEx (xss.getD i.toNat []);simp only[zo hL,sQ,al,ga,<-hE,ziI]
  have hco:ziZ xss (i-1).toNat=if 1<E.length then i-E.getD 0 0 else 0:=by
   rw[ziZ,show(i-1).toNat+1=i.toNat by omega,<-hE,show((i-1).toNat:Int)+1=i by omega]
  have fin:∀z,i<xss.length->z=ziZ xss (i-1).toNat->ag (Yt [0,3,4] [(0,none,.val (.slc false 24 (.slc false 2 (.int .i64 0) []) a0)),(wJ2 3 (es++[V.int .i64 z])),(wJ0 4 (i+1))]):=by
   intro z h hz;refine hag (_,i+1) ⟨by simp only;omega,by simp only;omega,?_⟩ (by simp only;omega);simp only;rw[show(i+1-1).toNat=(i-1).toNat+1 by omega,QF,hI,<-qW,hz];rfl
  refine⟨fun h=>?_,fun h=>?_⟩
  ·have hbb:=hb i.toNat (by omega);rw[<-hE]at hbb;rw[zn (n:=i+1)];have hes:=hel;refine⟨by omega,h,fun h2=>?_,fun h2=>?_⟩
   ·rw[zn (n:=i-E.getD 0 0)];refine⟨by omega,h,by omega,by omega,qG _,by simp only[zj,zu];omega,yL _,?_⟩;exact fin _ h (by rw[hco,if_pos (by omega)])
   ·refine⟨qG _,by simp only[zj,zu];omega,yL _,?_⟩;exact fin _ h (by rw[hco,if_neg (by omega)])
  ·rw[hr,e1,hI,zo8,show(i-1).toNat=xss.length-1 by omega]
 ·cases h
def jv(xs:List Int)(k:Nat):List Int:=yQ (fun j=>cd (mul xs) (j+1) (j+1)) (k-1)
theorem zq6(l:List Nat)(i:Nat):(KT l).getD i 0=(l.getD i 0:Nat):=by
 rw[KT,zd,zd,zK];cases l[i]? <;>rfl
theorem zyI{xs:List Int}(h:Br xs)(k:Nat):zo8 (zfF (kB xs k))=jv xs k:=by
 rw[zaq,zo8,jv,yi];refine qE fun j hj=>?_;rw[ziZ,jp _ _ _ _ (by omega),zqh (KU h).1 (by omega) (by omega),zq6,KT,zS,zhW];rfl
theorem zzw{M:Nat->Nat}{i j:Nat}:∀a∈prs M i j,a<j:=by
 intro a ha;simp only[prs,List.mem_filter,jr]at ha;omega
theorem zGa(M:Nat->Nat)(i j:Nat):0<=cd M i j/\cd M i j<=j:=by
 rw[cd];split
 ·omega
 ·rename_i a l h;have:=zzw a (by rw[h];simp);omega
theorem zvx(xs:List Int){k:Nat}(h1:1<=k)(h2:k<=1000000):zou (II false (zfF (kB xs k))):=by
 refine⟨_,rfl,?_,?_,?_⟩
 ·rw[zaq,yi];exact h1
 ·rw[zaq,yi];exact h2
 ·intro j hj;rw[zaq,yi]at hj;rw[zaq,jp _ _ _ _ hj,zq6]
  cases hh:prs (mul xs) j j with
  |nil=>simp
  |cons a l=>
   have:=zzw a (by rw[hh];simp:a∈prs (mul xs) j j);simp;omega
def cdP(xs:List Int)(i:Nat)(k:Nat):List Int:=yQ (fun t=>cd (mul xs) i (t+1)) (k-1)
def Kx(es:List V)(k:Int):List V:=I (jv (yD es) k.toNat)
theorem zit:yM Tryz.prog 106 (ze4 Kx Yf):=by
 intro args ps r h hp;unfold ze4 at h;split at h
 ·rename_i a0 a1;cases h;obtain⟨hq,k1,k2⟩:Yf a0 a1:=(zp.1 hp).1;have hqb:=hq;obtain⟨xs,hxs,hb⟩:=hq;have g1:V.frzs a0=a0:=by rw[hxs,zt]
  obtain⟨k,hk⟩:∃k:Nat,k=a1.toNat:=⟨_,rfl⟩;obtain⟨ms,hms⟩:=qEx (I (kB xs k));have e1:uA a0 a1=ms:=by rw[uA,hxs,zl,hms,hk]
  have e2:Kx a0 a1=I (jv xs k):=by rw[Kx,hxs,zl,hk]
  have ml:ms.length=k:=by rw[hms,zg,Jy]
  have gm:∀i,i<k->ms.getD i (.int .i64 0)=.int .i64 (mul xs i):=fun i hi=>by rw[hms,zG,zdD,jp _ _ _ _ hi]
  obtain⟨hg,_⟩:=KU hb;have h64:=zdw hb;generalize YL:uA=QD,ud:Yf=uY;refine zH (B:=[(107,ze4 QD uY)]) (Bi:=[]) [0,1,2,4,5,6,7,8,9] Tryz.func106 rfl rfl (by subst YL ud;exact(zm zeW zF)) zA ?_;intro L lp rr hL hr hf hlp
  conv=>cbv
  have hF:QD a0 a1=ms:=by rw[<-YL,e1]
  simp only[zo hL,sQ,hF,g1];have w0:IntKind.wrap .i64 (a1-1)=a1-1:=zn (by omega) (by omega);rw[w0];refine⟨by omega,by omega,by omega,by rw[<-ud];exact⟨hqb,k1,k2⟩,?_⟩
  refine hlp (List V×Int) _ _ _ [1,5,6,7] (fun x=>[(wJ0 1 a1),(wJ2 5 x.1),(wJ2 6 ms),(wJ0 7 x.2)])
   (fun x=>0<=x.2/\x.2<=k/\x.1=I (cdP xs x.2.toNat k)) (fun x=>(k-x.2).toNat) ((_,0)) (by subst hL;rfl) ?_ ?_
  ·refine⟨by simp,by simp only;omega,?_⟩;simp only;rw[show(a1-1).toNat=k-1 by omega];apply yB;intro t;by_cases ht:t<k-1
   ·rw[jQ,if_pos ht,I,zK,cdP,kU _ _ _ ht];simp[cd,prs]
   ·rw[zy (by rw[zx];omega),zy (by rw[zg,cdP,yi];omega)]
  rintro⟨es,i⟩ ⟨i0,i1,hI⟩ hfx ag hag;simp only at i0 i1 hI
  conv=>cbv
  simp only[zo hL,sQ,];obtain⟨n,hn⟩:∃n:Nat,n=i.toNat:=⟨i.toNat,rfl⟩;rw[<-hn]at hI;refine⟨fun h=>?_,fun h=>?_⟩
  ·rw[zn (n:=i+1)]
   refine hlp (List V×Int×Int) _ _ _ [1,5,6,7,8,9] (fun x=>[(wJ0 1 a1),(wJ2 5 x.1),(wJ2 6 ms),(wJ0 7 i),(wJ0 8 x.2.1),(wJ0 9 x.2.2)])
    (fun x=>i+1<=x.2.2/\x.2.2<=k/\x.2.1=(qL (mul xs) n (x.2.2.toNat-(n+1)):Nat)/\x.2.1<=mul xs n/\x.1=I (yQ (fun t=>cd (mul xs) (if t+1<x.2.2.toNat then n+1 else n) (t+1)) (k-1))) (fun x=>(k-x.2.2).toNat) ((es,0,i+1)) (by subst hL;rfl) ?_ ?_
   ·refine⟨by simp,by simp only;omega,?_,?_,?_⟩
    ·simp only;rw[show(i+1).toNat-(n+1)=0 by omega];rfl
    ·simp only;omega
    ·simp only;rw[hI,cdP];congr 1;refine qE fun t _=>?_;split
     ·rw[zqg (by omega)]
     ·rfl
   rintro⟨es2,sm,j⟩ ⟨j0,j1,hS,hM,hI2⟩ hfx2 ag2 hag2;simp only at j0 j1 hS hM hI2;have hMn:=h64 n
   have hMj:=h64 j.toNat
   have hl2:es2.length=k-1:=(by rw[hI2,zg,yi]);have gn:=gm i.toNat (by omega);rw[<-hn]at gn;have ge:∀t,es2.getD t (.int .i64 0)=.int .i64 ((yD es2).getD t 0):=fun t=>by rw[hI2,zG,zl]
   conv=>cbv
   simp only[zo hL,sQ,ml,hl2,<-hn,gn];refine⟨fun hj=>?_,fun hj=>?_⟩
   ·have gj:=gm j.toNat (by omega)
    have hs1:qL (mul xs) n (j.toNat-n)=qL (mul xs) n (j.toNat-(n+1))+mul xs j.toNat:=by
     rw[show j.toNat-n=(j.toNat-(n+1))+1 by omega,qL,show n+1+(j.toNat-(n+1))=j.toNat by omega]
    simp only[zo hL,sQ,gj,ge];rw[zn (n:=sm+mul xs j.toNat),zn (n:=j+1),zn (n:=i+1),zn (n:=j-1),zn (n:=j-i)]
    have nxt:sm+mul xs j.toNat=(qL (mul xs) n ((j+1).toNat-(n+1)):Nat):=by
     rw[show(j+1).toNat-(n+1)=j.toNat-n by omega,hs1,hS,zhW]
    refine⟨by omega,by omega,by omega,by omega,by omega,by omega,fun hlt=>?_,fun hge=>⟨fun h3=>?_,fun h3=>?_⟩⟩
    ·refine hag (_,i+1) ⟨by simp only;omega,by simp only;omega,?_⟩ (by simp only;omega);simp only;rw[show(i+1).toNat=n+1 by omega,hI2,cdP];congr 1;refine qE fun t _=>?_;split
     ·rfl
     ·rename_i htj;rw[zqg];rintro⟨h5,h6⟩;exact zsM hg (j:=j.toNat) (j':=t+1) (by omega) (by omega) (by omega) h6
    ·refine⟨by omega,by omega,by omega,?_⟩;refine hag2 (_,_,j+1) ⟨by simp only;omega,by simp only;omega,nxt,by simp only;omega,?_⟩ (by simp only;omega);simp only;have hc:=zEl hg (i:=n) (j:=j.toNat) (by omega) (by omega);rw[hI2,ua,zDx];congr 1;refine qE fun t _=>?_
     by_cases htj:t=(j-1).toNat
     ·rw[if_pos htj,if_pos (by omega),show t+1=j.toNat by omega,hc];omega
     ·rw[if_neg htj]
      by_cases htl:t+1<j.toNat
      ·rw[if_pos htl,if_pos (by omega)]
      ·rw[if_neg htl,if_neg (by omega)]
    ·refine hag2 (_,_,j+1) ⟨by simp only;omega,by simp only;omega,nxt,by simp only;omega,?_⟩ (by simp only;omega);simp only;rw[hI2];congr 1;refine qE fun t _=>?_
     by_cases htl:t+1<j.toNat
     ·rw[if_pos htl,if_pos (by omega)]
     ·rw[if_neg htl]
      by_cases htl2:t+1<(j+1).toNat
      ·rw[if_pos htl2,zqg (by omega)]
      ·rw[if_neg htl2]
   ·rw[zn (n:=i+1)];refine hag (_,i+1) ⟨by simp only;omega,by simp only;omega,?_⟩ (by simp only;omega);simp only;rw[show(i+1).toNat=n+1 by omega,hI2,cdP];congr 1;refine qE fun t ht=>?_;rw[if_pos (by omega)]
  ·rw[hr,e2,hI,show n=k by omega,jv,cdP];congr 2;refine qE fun t ht=>?_;rw[cd,cd,show min k (t+1-1)=min (t+1) (t+1-1) by omega]
 ·cases h
def tri(m:Int):Int:=(m*(m-1)).tdiv 2
def zCl:List Int->Int
 |[]=>0
 |m::l=>tri m+zCl l
theorem zp4(S:List (List Int))(i:Nat):(jF (S.take i)).length<=(jF S).length:=by
 conv=>rhs;rw[<-jI i S]
 rw[jF,jF,ku,zr];omega
theorem zmW(xs:List Int):jF (zdp xs)=Zr xs:=zfL xs _
theorem zBt{xs:List Int}(h:Br xs):(Zr xs).length<=200000:=by
 have h1:=h.len;have h2:=h.pos;have:=zgk h (xs.length-1) (by omega);rw[Zr];omega
def zyU(f:List V->Int)(q:List V->Prop):zO:=fun
 |[.agg [.slc false 2 (.int .i64 0) a0]]=>some ([q a0],.int .i64 (f a0))
 |_=>none
theorem zF7{a b:Nat}(ha:0<a)(hb:0<b):1<=(ex a b).length:=by
 rw[uS hb,zr,zx];by_cases h:a/b=0
 ·have hab:a<b:=(Nat.div_eq_zero_iff.1 h).resolve_left (by omega);rw[Nat.mod_eq_of_lt hab,uS ha,zr,zx];have:1<=b/a:=Nat.div_pos (by omega) ha;omega
 ·have:1<=a/b:=Nat.one_le_iff_ne_zero.2 h;omega
theorem zDE{xs:List Int}(h:Br xs)(h1:xs.length≠1):1<=(Zr xs).length:=by
 have hp:=h.pos;obtain⟨n,hn⟩:∃n,xs.length-1=n+1:=⟨xs.length-2,by omega⟩;rw[Zr,hn,zhn,zr];have k1:=zlh h (i:=n) (by omega);have k2:=h.dpos n (by omega);have:=zF7 (a:=(Kt xs n).toNat) (b:=((dv xs).getD n 0).toNat) (by omega) (by omega);rw[zh6,exI,zS];omega
theorem zxZ{xs:List Int}(h:Br xs):((sq1 xs).length:Int)=max ((Zr xs).length:Int) 1:=by
 rw[sq1];split
 ·rename_i h1;rw[Zr,h1];simp only[zeg,List.range_zero,QY,Nat.sub_self,zu,zj];omega
 ·rename_i h1;have:=zDE h h1;omega
def zmj(a:List V):Int:=(sq1 (yD a)).length
theorem zp5{S:List (List Int)}{i:Nat}(hi:i<S.length)(h0:0<=(S.getD i []).getD 0 0):((jF (S.take (i+1))).length:Int)=(jF (S.take i)).length+(S.getD i []).getD 0 0:=by
 rw[zj8 S i hi,zr,zx];omega
theorem zoh:yM Tryz.prog 119 (zyU zmj Qt):=by
 intro args ps r h hp;unfold zyU at h;split at h
 ·rename_i a0;cases h;have hq:Qt a0:=(zp.1 hp).1;obtain⟨xs,hxs,hb⟩:=id hq;have g1:V.frzs a0=a0:=by rw[hxs,zt]
  have hf0:zmj a0=(sq1 xs).length:=by rw[zmj,hxs,zl]
  obtain⟨S,hS⟩:=qEx (zdp xs);obtain⟨vs,hvs⟩:=qEx (II true S);have e1:zdE a0=vs:=by rw[zdE,hxs,zl,hvs,hS]
  have hsl:S.length<=4096:=by
   have:=zhu hb (xs.length-1) (by have:=hb.pos;omega);have:=hb.len;rw[hS,zdp];omega
  have vl:vs.length=S.length:=by rw[hvs,ye]
  have gs:∀k,vs.getD k (.slc true 2 (.int .i64 0) [])=.slc true 2 (.int .i64 0) (I (S.getD k [])):=fun k=>by rw[hvs,qu]
  have hS0:∀i,i<S.length->(S.getD i []).length=2/\0<=(S.getD i []).getD 0 0:=fun i hi=>by
   have hm:=zcF hi;rw[hS]at hm ⊢;have h1:=zqU _ _ hm;exact⟨h1.1,h1.2.1⟩
  have hlen:∀i,(jF (S.take i)).length<=200000:=fun i=>by
   have h1:=zp4 S i;have h2:(jF S).length<=200000:=(by rw[hS,zmW];exact zBt hb);omega
  generalize zg8:zdE=zhe,Jb:Qt=zd7;refine zH (B:=[(123,zpd zhe zd7)]) (Bi:=[]) [0,1,2,3,4,5] Tryz.func119 rfl rfl (by subst zg8 Jb;exact(zm ziu zF)) zA ?_;intro L lp rr hL hr hf hlp
  conv=>cbv
  have F1:zhe a0=vs:=by rw[<-zg8,e1]
  simp only[zo hL,sQ,g1,F1];refine⟨by rw[<-Jb];exact hq,?_⟩
  refine hlp (Int×Int) _ _ _ [3,4,5] (fun x=>[(3,none,.val (.slc true 24 (.slc true 2 (.int .i64 0) []) vs)),(wJ0 4 x.1),(wJ0 5 x.2)])
   (fun x=>0<=x.2/\x.2<=S.length/\x.1=(jF (S.take x.2.toNat)).length) (fun x=>(S.length-x.2).toNat) ((0,0)) (by subst hL;rfl) ?_ ?_
  ·exact⟨by simp,by simp,rfl⟩
  rintro⟨s,i⟩ ⟨i0,i1,hI⟩ hfx ag hag;simp only at i0 i1 hI
  conv=>cbv
  simp only[zo hL,sQ,vl,gs];refine⟨fun h2=>?_,fun h2=>?_⟩
  ·have hil:i.toNat<S.length:=(by omega);have hst:=zp5 hil (hS0 _ hil).2;obtain⟨r,hR⟩:=qEx (S.getD i.toNat []);have hr0:=hS0 _ hil;rw[<-hR]at hr0 hst ⊢
   have hl1:=hlen i.toNat
   have hl2:=hlen (i.toNat+1);have hrl:=hr0.1;rw[zn (n:=s+r.getD 0 0),zn (n:=i+1)]
   (repeat' first|(exact yL _)|(exact jY rfl)|(exact qG _)|(apply And.intro)|(intro _))<;>(try first|exact True.intro|omega|rfl|(simp only[zj,zu,zg];omega))
   refine hag (s+r.getD 0 0,i+1) ⟨by simp only;omega,by simp only;omega,?_⟩ (by simp only;omega);simp only[ya i0];omega
  ·rw[hr,hf0,hI,zB (by omega),hS,zmW,zxZ hb]
 ·cases h
section
variable {xs:List Int}
def zDp(xs:List Int):Nat->Int
 |0=>0
 |n+1=>zDp xs n+Kt xs n*(dv xs).getD n 0
end
def U8(xs:List Int):List V:=xs.map (.int .u8)
theorem zms(xs:List Int)(i:Nat):(U8 xs).getD i (.int .u8 0)=.int .u8 (xs.getD i 0):=by
 simp only[U8,zd,zK];cases xs[i]? <;>rfl
def IsU(es:List V):Prop:=∃xs:List Int,es=U8 xs/\(∀x∈xs,0<=x/\x<=255)/\xs.length<=4096
def nxH(h:Int):Int:=IntKind.u64.wrap (IntKind.u64.wrap (h*6364136223846793005)+1442695040888963407)
def nxX(h:Int):Int:=IntKind.i64.wrap (zdU .u64 (zgg .u64 (nxH h) 33) 16777215)
theorem zAu(a:Int):0<=zdU .u64 a 16777215/\zdU .u64 a 16777215<=16777215:=by
 have h:(BitVec.ofInt IntKind.u64.bits a&&&BitVec.ofInt IntKind.u64.bits 16777215).toNat<=16777215:=by
  rw[BitVec.toNat_and];exact je Nat.and_le_right (by decide)
 rw[zdU,IntWalk.u64_in _ ⟨by omega,by omega⟩];omega
def qI(es:List V)(a h n:Int):Int:=if n<1 then 0 else(if a<es.length then IntKind.i64.wrap (nxX h+IntKind.i64.wrap ((es.getD a.toNat (.int .u8 0)).toI))else nxX h).tmod n
def qT(es:List V)(a _ n:Int):Int:=if n<1 then a else if a<es.length then a+1 else a
def qY(_:List V)(_ h n:Int):Int:=if n<1 then h else nxH h
def zR(es:List V)(a _:Int):Prop:=IsU es/\0<=a/\a<=es.length
def zcA(es:List V)(a h _:Int):Prop:=zR es a h
def Ki(f0 f1 f2:List V->Int->Int->Int->Int)(q:List V->Int->Int->Int->Prop):kj:=fun
 |[.box 91 (.agg [.slc false 5 (.int .u8 0) a0,.int .i64 a1,.int .u64 a2]),.int .i64 a3]=>some ([q a0 a1 a2 a3],.int .i64 (f0 a0 a1 a2 a3),.box 91 (.agg [.slc false 5 (.int .u8 0) a0,.int .i64 (f1 a0 a1 a2 a3),.int .u64 (f2 a0 a1 a2 a3)]))
 |_=>none
theorem zEr{es:List V}(h:IsU es)(i:Nat):0<=(es.getD i (.int .u8 0)).toI/\(es.getD i (.int .u8 0)).toI<=255:=by
 obtain⟨xs,hxs,hb,_⟩:=h;rw[hxs,zms];show 0<=xs.getD i 0/\xs.getD i 0<=255;rw[zd];by_cases hi:i<xs.length
 ·rw[ze hi];exact hb _ (List.getElem_mem hi)
 ·rw[zy (by omega)];exact⟨by decide,by decide⟩
theorem ZJ{es:List V}{a h n:Int}(hq:zR es a h)(hn:1<=n):0<=qI es a h n/\qI es a h n<n:=by
 have h1:=zAu (zgg .u64 (nxH h) 33)
 have h2:=zEr hq.1 a.toNat
 have hx:nxX h=zdU .u64 (zgg .u64 (nxH h) 33) 16777215:=by rw[nxX,IntWalk.i64_in _ ⟨by omega,by omega⟩]
 rw[qI,if_neg (by omega)];have key:∀x:Int,0<=x->0<=x.tmod n/\x.tmod n<n:=fun x hx0=>⟨zhV _ hx0,uc _ (by omega)⟩;split
 ·rw[IntWalk.i64_in (es.getD a.toNat (.int .u8 0)).toI ⟨by omega,by omega⟩,IntWalk.i64_in _ ⟨by omega,by omega⟩];exact key _ (by omega)
 ·exact key _ (by omega)
theorem js{es:List V}{a h n:Int}(hq:zR es a h):zR es (qT es a h n) (qY es a h n):=by
 obtain⟨h1,h2,h3⟩:=hq;refine⟨h1,?_,?_⟩
 ·rw[qT];split<;>(try split)<;>omega
 ·rw[qT];split<;>(try split)<;>omega
def kN(es:List V)(a h:Int)(l:List V):Int:=(yD l).getD (qI es a h l.length).toNat 0
def uq(es:List V)(a h:Int)(l:List V):Int:=qT es a h l.length
def uo(es:List V)(a h:Int)(l:List V):Int:=qY es a h l.length
def zay(es:List V)(a h:Int)(l:List V):Prop:=zR es a h/\Yo l/\1<=l.length/\l.length<=2147483647
def zaF(f0 f1 f2:List V->Int->Int->List V->Int)(q:List V->Int->Int->List V->Prop):kj:=fun
 |[.box 91 (.agg [.slc false 5 (.int .u8 0) a0,.int .i64 a1,.int .u64 a2]),.slc false 2 (.int .i64 0) a3]=>some ([q a0 a1 a2 a3],.int .i64 (f0 a0 a1 a2 a3),.box 91 (.agg [.slc false 5 (.int .u8 0) a0,.int .i64 (f1 a0 a1 a2 a3),.int .u64 (f2 a0 a1 a2 a3)]))
 |_=>none
theorem zah{t:TypeId}{c:V}{a a' h h':Int}:Sh (.box t (.agg [c,.int .i64 a,.int .u64 h])) (.box t (.agg [c,.int .i64 a',.int .u64 h'])):=
 .box _ _ _ (.agg _ _ rfl fun i x y hx hy=>by
  match i with
  |0=>simp at hx hy;subst hx;subst hy;exact .refl _
  |1=>simp at hx hy;subst hx;subst hy;exact .scal _ _ rfl rfl
  |2=>simp at hx hy;subst hx;subst hy;exact .scal _ _ rfl rfl
  |n+3=>simp at hx)
theorem jH:zbX Tryz.prog 26 1000 (Ki qI qT qY zcA):=by
 intro args ps r y h hp;unfold Ki at h;split at h
 ·rename_i a0 a1 a2 a3;cases h;have hq:zR a0 a1 a2:=(zp.1 hp).1;refine zcY (T:=tab) (B:=[]) (Bi:=[]) 0 [0,1,4,5] Tryz.func26 rfl rfl (by kernel_rfl) (yh rfl) mixed Zy zF zA (by kernel_rfl) rfl rfl zah rfl ?_;intro L lp rr yy hL hr hy hf hlp
  conv=>cbv
  simp only[zo hL,sQ,true_and];obtain⟨⟨xs,hxs,hb,hl⟩,h0,h1⟩:=hq;have hal:a0.length=xs.length:=by rw[hxs,U8,zS]
  refine⟨fun h=>?_,fun h=>⟨by decide,fun h2=>⟨h0,h2,?_,by omega,?_⟩,fun h2=>⟨by omega,?_⟩⟩⟩
  ·rw[hr,hy,qI,qT,qY,if_pos h,if_pos h,if_pos h];exact⟨rfl,rfl⟩
  ·rw[hxs,zms];rfl
  ·rw[hr,hy,qI,qT,qY,if_neg h,if_neg h,if_neg h,if_pos h2,if_pos h2,zn (n:=a1+1)];exact⟨rfl,rfl⟩
  ·rw[hr,hy,qI,qT,qY,if_neg h,if_neg h,if_neg h,if_neg h2,if_neg h2];exact⟨rfl,rfl⟩
 ·cases h
theorem kz:zbX Tryz.prog 29 1000 (zaF kN uq uo zay):=by
 intro args ps r y h hp;unfold zaF at h;split at h
 ·rename_i a0 a1 a2 a3;cases h;have hq:zay a0 a1 a2 a3:=(zp.1 hp).1;obtain⟨n,hn⟩:=qEI a3.length;generalize yx:qI=yY,yw:qT=yX,yv:qY=yW,qg:zcA=jE;refine zcY (T:=tab) (B:=[]) (Bi:=[(26,1000,false,Ki yY yX yW jE)]) 0 [0,1,4] Tryz.func29 rfl rfl (by kernel_rfl) (yh rfl) mixed Zy zF (by subst yx yw yv qg;exact(yE jH zA)) (by kernel_rfl) rfl rfl zah rfl ?_;intro L lp rr yy hL hr hy hf hlp
  conv=>cbv
  simp only[zo hL,sQ,<-hn];subst yx yw yv qg;obtain⟨h1,⟨l,hl⟩,h2,h3⟩:=hq;obtain⟨k1,k2⟩:=ZJ (n:=n) h1 (by omega);refine⟨h1,k1,k2,by rw[hl,zG];rfl,?_,?_⟩
  ·rw[hr,kN,<-hn,hl,zG,zl];rfl
  ·rw[hy,uq,uo,<-hn]
 ·cases h
def frS(h b:Int):Int:=IntKind.u64.wrap (IntKind.u64.wrap (IntKind.u64.wrap (h*1099511628211)+IntKind.u64.wrap b)+11)
def frH(xs:List Int)(n:Nat):Int:=(xs.take n).foldl frS (IntKind.u64.wrap (9341+IntKind.u64.wrap xs.length))
theorem zCa{xs:List Int}{n:Nat}(h:n<xs.length):frH xs (n+1)=frS (frH xs n) (xs.getD n 0):=by
 rw[frH,zQ h,List.foldl_append,<-frH,zd,ze h];rfl
def Za(a:List V):Int:=frH (a.map V.toI) a.length
def zi6(f0:List V->Int)(q:List V->Prop):zO:=fun
 |[.slc false 5 (.int .u8 0) a0]=>some ([q a0],.box 91 (.agg [.slc false 5 (.int .u8 0) a0,.int .i64 0,.int .u64 (f0 a0)]))
 |_=>none
theorem zbv:yM Tryz.prog 25 (zi6 Za IsU):=by
 intro args ps r h hp;unfold zi6 at h;split at h
 ·rename_i a0;cases h;have hq:IsU a0:=(zp.1 hp).1;obtain⟨n,hn⟩:=qEI a0.length;obtain⟨h0,hh0⟩:=qEI (IntKind.u64.wrap (9341+IntKind.u64.wrap n));obtain⟨xs,hxs,hb,hl⟩:=hq;have hal:a0.length=xs.length:=by rw[hxs,U8,zS]
  refine zH (B:=[]) (Bi:=[]) [0,2,3,4] Tryz.func25 rfl rfl zF zA ?_;intro L lp rr hL hr hf hlp
  conv=>cbv
  simp only[zo hL,sQ,<-hn,<-hh0]
  refine hlp (Int×Int) _ _ _ [0,3,4] (fun x=>[(wJ11 0 a0),(3,none,.val (.box 91 (.agg [.slc false 5 (.int .u8 0) a0,.int .i64 0,.int .u64 x.1]))),(wJ0 4 x.2)])
   (fun x=>0<=x.2/\x.2<=n/\x.1=frH xs x.2.toNat) (fun x=>(n-x.2).toNat) ((h0,0)) (by subst hL;rfl) ?_ ?_
  ·refine⟨by simp,by simp only;omega,?_⟩;simp only[frH,hh0,hn,hal];rfl
  rintro⟨hh,i⟩ ⟨i0,i1,hI⟩ hfx ag hag;simp only at i0 i1 hI
  conv=>cbv
  simp only[zo hL,sQ,<-hn];refine⟨fun h=>⟨i0,h.1,by rw[hxs,zms];rfl,?_⟩,fun h=>?_⟩
  ·rw[zn (n:=i+1)];refine hag (_,i+1) ⟨by simp only;omega,by simp only;omega,?_⟩ (by simp only;omega);simp only;rw[show(i+1).toNat=i.toNat+1 by omega,zCa (by omega),<-hI,hxs,zms];rfl
  ·have hm:(U8 xs).map V.toI=xs:=(by simp[U8,Function.comp_def,V.toI]);rw[hr,Za,hI,show i.toNat=a0.length by omega,hxs,hm]
 ·cases h
def zo9(f:List V->Bool)(q:List V->Prop):zO:=fun
 |[.slc false 5 (.int .u8 0) a0]=>some ([q a0],.bool (f a0))
 |_=>none
def zml(a:List V):Bool:=decide ((4096:Int)<a.length)
def zC8(_:List V):Prop:=True
theorem zx1:yM Tryz.prog 4 (zo9 zml zC8):=by
 intro args ps r h hp;unfold zo9 at h;split at h
 ·rename_i a0;cases h;obtain⟨n,hn⟩:=qEI a0.length;refine zH (B:=[]) (Bi:=[]) [0,2] Tryz.func4 rfl rfl zF zA ?_;intro L lp rr hL hr hf hlp
  conv=>cbv
  simp only[zo hL,sQ,<-hn];rw[hr,zml,<-hn]
 ·cases h
def zdG(a b:List V):Bool:=decide (yD a=yD b)
def zk4(a b:List V):Prop:=Yo a/\Yo b/\a.length<=2147483647
theorem zdm:yM Tryz.prog 18 (YH zdG zk4):=by
 intro args ps r h hp;unfold YH at h;split at h
 ·rename_i a0 a1;cases h;obtain⟨⟨xs,hxs⟩,⟨ys,hys⟩,hl⟩:zk4 a0 a1:=(zp.1 hp).1;obtain⟨n,hn⟩:=qEI a0.length;obtain⟨m,hm⟩:=qEI a1.length;have hxl:a0.length=xs.length:=by rw[hxs,zg]
  have hyl:a1.length=ys.length:=by rw[hys,zg]
  have gx:∀k,a0.getD k (.int .i64 0)=.int .i64 (xs.getD k 0):=fun k=>by rw[hxs,zG]
  have gy:∀k,a1.getD k (.int .i64 0)=.int .i64 (ys.getD k 0):=fun k=>by rw[hys,zG]
  have hf0:zdG a0 a1=decide (xs=ys):=by rw[zdG,hxs,hys,zl,zl]
  refine zH (B:=[]) (Bi:=[]) [0,1,4,5] Tryz.func18 rfl rfl zF zA ?_;intro L lp rr hL hr hf hlp
  conv=>cbv
  simp only[zo hL,sQ,<-hn,<-hm];refine⟨fun h=>?_,fun h=>?_⟩
  ·rw[hr,hf0,decide_eq_false (fun e=>h (by rw[hn,hm,hxl,hyl,e]))]
  have hlen:xs.length=ys.length:=by omega
  refine hlp (Int) _ _ _ [0,1,5] (fun x=>[(wJ3 0 a0),(wJ3 1 a1),(wJ0 5 x)])
   (fun x=>0<=x/\x<=n/\xs.take x.toNat=ys.take x.toNat) (fun x=>(n-x).toNat) (0) (by subst hL;rfl) ?_ ?_
  ·exact⟨by simp,by omega,rfl⟩
  rintro i ⟨i0,i1,hI⟩ hfx ag hag
  conv=>cbv
  simp only[zo hL,sQ,<-hn,<-hm,gx,gy];refine⟨fun h2=>⟨i0,h2,i0,by omega,fun h3=>?_,fun h3=>?_⟩,fun h2=>?_⟩
  ·rw[hr,hf0,decide_eq_false (fun e=>h3 (by rw[e]))]
  ·rw[zn (n:=i+1)];have h4:i.toNat<xs.length:=(by omega);have h5:i.toNat<ys.length:=(by omega);refine hag (i+1) ⟨by omega,by omega,?_⟩ (by omega);rw[zd,ze h4,zd,ze h5]at h3;rw[show(i+1).toNat=i.toNat+1 by omega,zQ h4,zQ h5,hI];exact congrArg (fun z=>List.take i.toNat ys++[z]) h3
  ·have h4:xs=ys:=(by rwa [zB (by omega),zB (by omega)]at hI);rw[hr,hf0,decide_eq_true h4]
 ·cases h
def zc2(f:List V->List V->Bool)(q:List V->List V->Prop):zO:=fun
 |[.slc false 24 (.slc false 2 (.int .i64 0) []) a0,.slc false 24 (.slc false 2 (.int .i64 0) []) a1]=>some ([q a0 a1],.bool (f a0 a1))
 |_=>none
def Kw(a b:List V):Bool:=decide (zbR a=zbR b)
def zei(a b:List V):Prop:=(∃l,a=II false l/\l.length<=2147483647/\∀r∈l,r.length<=2147483647)/\∃l,b=II false l
theorem znn:yM Tryz.prog 47 (zc2 Kw zei):=by
 intro args ps r h hp;unfold zc2 at h;split at h
 ·rename_i a0 a1;cases h;obtain⟨⟨xs,hxs,hl,hrl⟩,⟨ys,hys⟩⟩:zei a0 a1:=(zp.1 hp).1;obtain⟨n,hn⟩:=qEI a0.length;obtain⟨m,hm⟩:=qEI a1.length;have hxl:a0.length=xs.length:=by rw[hxs,ye]
  have hyl:a1.length=ys.length:=by rw[hys,ye]
  have gx:∀k,a0.getD k (.slc false 2 (.int .i64 0) [])=.slc false 2 (.int .i64 0) (I (xs.getD k [])):=fun k=>by rw[hxs,qu]
  have gy:∀k,a1.getD k (.slc false 2 (.int .i64 0) [])=.slc false 2 (.int .i64 0) (I (ys.getD k [])):=fun k=>by rw[hys,qu]
  have hf0:Kw a0 a1=decide (xs=ys):=by rw[Kw,hxs,hys,qB,qB]
  generalize zbn:zdG=zbr,zbj:zk4=zbp;refine zH (B:=[(18,YH zbr zbp)]) (Bi:=[]) [0,1,4,5] Tryz.func47 rfl rfl (by subst zbn zbj;exact(zm zdm zF)) zA ?_;intro L lp rr hL hr hf hlp
  conv=>cbv
  simp only[zo hL,sQ,<-hn,<-hm];refine⟨fun h=>?_,fun h=>?_⟩
  ·rw[hr,hf0,decide_eq_false (fun e=>h (by rw[hn,hm,hxl,hyl,e]))]
  have hlen:xs.length=ys.length:=by omega
  refine hlp (Int) _ _ _ [0,1,5] (fun x=>[(0,none,.val (.slc false 24 (.slc false 2 (.int .i64 0) []) a0)),(1,none,.val (.slc false 24 (.slc false 2 (.int .i64 0) []) a1)),(wJ0 5 x)])
   (fun x=>0<=x/\x<=n/\xs.take x.toNat=ys.take x.toNat) (fun x=>(n-x).toNat) (0) (by subst hL;rfl) ?_ ?_
  ·exact⟨by simp,by omega,rfl⟩
  rintro i ⟨i0,i1,hI⟩ hfx ag hag;have Ef:∀u v:List Int,zbr (I u) (I v)=decide (u=v):=fun u v=>by rw[<-zbn,zdG,zl,zl]
  conv=>cbv
  simp only[zo hL,sQ,<-hn,<-hm,gx,gy,Ef];refine⟨fun h2=>?_,fun h2=>?_⟩
  ·have h4:i.toNat<xs.length:=(by omega);have h5:i.toNat<ys.length:=by omega
   have Ql:zbp (I (xs.getD i.toNat [])) (I (ys.getD i.toNat [])):=by
    rw[<-zbj];refine⟨⟨_,rfl⟩,⟨_,rfl⟩,?_⟩;rw[zg,zd,ze h4];exact hrl _ (List.getElem_mem h4)
   refine⟨i0,h2,i0,by omega,Ql,fun h3=>?_,fun h3=>?_⟩
   ·rw[hr,hf0,decide_eq_false (fun e=>h3 (by rw[e]))]
   ·rw[zn (n:=i+1)];refine hag (i+1) ⟨by omega,by omega,?_⟩ (by omega);rw[zd,ze h4,zd,ze h5]at h3;rw[show(i+1).toNat=i.toNat+1 by omega,zQ h4,zQ h5,hI];exact congrArg (fun z=>List.take i.toNat ys++[z]) h3
  ·have h4:xs=ys:=(by rwa [zB (by omega),zB (by omega)]at hI);rw[hr,hf0,decide_eq_true h4]
 ·cases h
def zuy(f:List V->Int->List V)(q:List V->Int->Prop):zO:=fun
 |[.agg [.slc false 2 (.int .i64 0) a0],.int .i64 a1]=>some ([q a0 a1],.slc true 24 (.slc true 2 (.int .i64 0) []) (f a0 a1))
 |_=>none
def zr1(es:List V)(k:Int):List V:=II true (zfF (kB (yD es) k.toNat))
theorem zkI:yM Tryz.prog 52 (zuy zr1 Yf):=by
 intro args ps r h hp;unfold zuy at h;split at h
 ·rename_i a0 a1;cases h;obtain⟨hq,k1,k2⟩:Yf a0 a1:=(zp.1 hp).1;have hqb:=hq;obtain⟨xs,hxs,hb⟩:=hq;have g1:V.frzs a0=a0:=by rw[hxs,zt]
  obtain⟨ms,hms⟩:=qEx (I (kB xs a1.toNat));have e1:uA a0 a1=ms:=by rw[uA,hxs,zl,hms]
  have g2:V.frzs ms=ms:=by rw[hms,zt]
  generalize YL:uA=QD,ud:Yf=uY,zuU:zlu=zCP,zuN:zsI=zCL;refine zH (B:=[(96,zpb QD uY),(95,zmn zCP zCL)]) (Bi:=[]) [0,1,2,4] Tryz.func52 rfl rfl (by subst YL ud zuU zuN;exact(zm ziz (zm zmB zF))) zA ?_;intro L lp rr hL hr hf hlp
  conv=>cbv
  have hF:QD a0 a1=ms:=by rw[<-YL,e1]
  simp only[zo hL,sQ,g1,hF,g2];refine⟨by rw[<-ud];exact⟨hqb,k1,k2⟩,by rw[<-zuN];exact⟨xs,_,hb,hms,by omega⟩,?_⟩;rw[hr,zr1,<-zuU,zlu,hms,zl,hxs,zl]
 ·cases h
theorem nf:∀l:List Int,V.noFzs (I l)=true
 |[]=>rfl
 |x::l=>by
  have:=nf l;simpa [I,V.noFzs,V.noFz]using this
def zGy(X Y:List Int):Option Nat:=(List.range X.length).find? fun t=>X.getD t 0 !=Y.getD t 0
def gc(xs ys:List Int):Int×Int:=match zGy (jv xs 201) (jv ys 201)with
 |some i=>((i:Int)+1,0)
 |none=>(0,4)
theorem zhN(xs:List Int)(k:Nat):(jv xs k).length=k-1:=yi _ _
def zgO(X Y:List Int):Nat->Int
 |0=>0
 |n+1=>W (zgO X Y n+W (X.getD n 0*Y.getD n 0))
def zkl(f:List V->List V->Int)(q:List V->List V->Prop):zO:=fun
 |[.slc false 2 (.int .i64 0) a0,.slc false 2 (.int .i64 0) a1]=>some ([q a0 a1],.int .i64 (f a0 a1))
 |_=>none
def zfN(a b:List V):Int:=zgO (yD a) (yD b) a.length
def zot(a b:List V):Prop:=Yo a/\Yo b/\a.length<=b.length
theorem zkC:yM Tryz.prog 58 (zkl zfN zot):=by
 intro args ps r h hp;unfold zkl at h;split at h
 ·rename_i a0 a1;cases h;obtain⟨⟨xs,hxs⟩,⟨ys,hys⟩,hll⟩:zot a0 a1:=(zp.1 hp).1;have hxl:a0.length=xs.length:=by rw[hxs,zg]
  have hyl:a1.length=ys.length:=by rw[hys,zg]
  have hf0:zfN a0 a1=zgO xs ys xs.length:=by rw[zfN,hxl,hxs,hys,zl,zl]
  have gx:∀i,a0.getD i (.int .i64 0)=.int .i64 (xs.getD i 0):=fun i=>by rw[hxs,zG]
  have gy:∀i,a1.getD i (.int .i64 0)=.int .i64 (ys.getD i 0):=fun i=>by rw[hys,zG]
  refine zH (B:=[]) (Bi:=[]) [0,1,4,5,6,7,8,9,10] Tryz.func58 rfl rfl zF zA ?_;intro L lp rr hL hr hf hlp;have hlen:=hf.1.1;obtain⟨n,hn⟩:=qEI xs.length
  conv=>cbv
  refine hlp (Int×Int) _ _ _ [1,5,8,9,10] (fun x=>[(wJ3 1 a1),(wJ0 5 x.1),(wJ3 8 a0),(wJ0 9 n),(wJ0 10 x.2)])
   (fun x=>0<=x.2/\x.2<=xs.length/\x.1=zgO xs ys x.2.toNat) (fun x=>(xs.length-x.2).toNat) ((0,0)) (by subst hL;rw[hn,<-hxl];rfl) ?_ ?_
  ·exact⟨by simp,by simp,rfl⟩
  rintro⟨s,i⟩ ⟨i0,i1,hI⟩ hfx ag hag;simp only at i0 i1 hI
  conv=>cbv
  simp only[zo hL,sQ,hxl,hyl,gx,gy];refine⟨fun h2=>⟨i0,by omega,i0,by omega,?_⟩,fun h2=>?_⟩
  ·rw[zn (n:=i+1)];refine hag (W (s+W (xs.getD i.toNat 0*ys.getD i.toNat 0)),i+1) ⟨by simp only;omega,by simp only;omega,?_⟩ (by simp only;omega);simp only[ya i0];rw[zgO,hI]
  ·rw[hr,hf0,hI,show i.toNat=xs.length by omega]
 ·cases h
theorem zfj:yM Tryz.prog 97 (YH Zh zjM):=by
 intro args ps r h hp;unfold YH at h;split at h
 ·rename_i a0 a1;cases h;obtain⟨⟨xs,hxs⟩,ys,hys⟩:zjM a0 a1:=(zp.1 hp).1;have hxl:a0.length=xs.length:=by rw[hxs,zg]
  have hyl:a1.length=ys.length:=by rw[hys,zg]
  have hf0:Zh a0 a1=decide (xs=ys):=by rw[Zh,hxs,hys,zl,zl]
  have gx:∀i,a0.getD i (.int .i64 0)=.int .i64 (xs.getD i 0):=fun i=>by rw[hxs,zG]
  have gy:∀i,a1.getD i (.int .i64 0)=.int .i64 (ys.getD i 0):=fun i=>by rw[hys,zG]
  refine zH (B:=[]) (Bi:=[]) [0,1,4,5,12,13] Tryz.func97 rfl rfl zF zA ?_;intro L lp rr hL hr hf hlp;have hlen:=hf.1.1;obtain⟨n,hn⟩:=qEI xs.length
  conv=>cbv
  simp only[zo hL,sQ,hxl,hyl];refine⟨fun h=>?_,fun h=>?_⟩
  ·rw[hr,hf0,decide_eq_false];rintro rfl;omega
  refine hlp Int _ _ _ [0,1,12,13] (fun x=>[(wJ3 0 a0),(wJ3 1 a1),(wJ0 12 n),(wJ0 13 x)])
   (fun x=>0<=x/\x<=xs.length/\xs.take x.toNat=ys.take x.toNat) (fun x=>(xs.length-x).toNat) 0 (by subst hL;rw[hn,<-hxl];rfl) (by simp) ?_
  rintro i ⟨i0,i1,hI⟩ hfx ag hag
  conv=>cbv
  simp only[zo hL,sQ,hxl,hyl,gx,gy];refine⟨fun h2=>⟨i0,by omega,i0,by omega,fun h4=>?_,fun h4=>?_⟩,fun h2=>?_⟩
  ·rw[hr,hf0,decide_eq_false];rintro rfl;exact h4 rfl
  ·rw[zn (n:=i+1)];refine hag (i+1) ⟨by omega,by omega,?_⟩ (by omega);have e1:i.toNat<xs.length:=(by omega);have e2:i.toNat<ys.length:=(by omega);rw[ya i0,zQ e1,zQ e2,hI];simp only[zd,ze e1,ze e2,Option.getD_some]at h4;rw[h4]
  ·rw[zB (by omega),zB (by omega)]at hI;rw[hr,hf0,decide_eq_true hI]
 ·cases h
theorem ziv:yM Tryz.prog 122 (YH Zh zjM):=by
 intro args ps r h hp;unfold YH at h;split at h
 ·rename_i a0 a1;cases h;obtain⟨⟨xs,hxs⟩,ys,hys⟩:zjM a0 a1:=(zp.1 hp).1;have hxl:a0.length=xs.length:=by rw[hxs,zg]
  have hyl:a1.length=ys.length:=by rw[hys,zg]
  have hf0:Zh a0 a1=decide (xs=ys):=by rw[Zh,hxs,hys,zl,zl]
  have gx:∀i,a0.getD i (.int .i64 0)=.int .i64 (xs.getD i 0):=fun i=>by rw[hxs,zG]
  have gy:∀i,a1.getD i (.int .i64 0)=.int .i64 (ys.getD i 0):=fun i=>by rw[hys,zG]
  refine zH (B:=[]) (Bi:=[]) [0,1,4,5] Tryz.func122 rfl rfl zF zA ?_;intro L lp rr hL hr hf hlp;have hlen:=hf.1.1
  conv=>cbv
  simp only[zo hL,sQ,hxl,hyl];refine⟨fun h=>?_,fun h=>?_⟩
  ·rw[hr,hf0,decide_eq_false];rintro rfl;omega
  refine hlp (Int) _ _ _ [0,1,5] (fun x=>[(wJ3 0 a0),(wJ3 1 a1),(wJ0 5 x)])
   (fun x=>0<=x/\x<=xs.length/\xs.take x.toNat=ys.take x.toNat) (fun x=>(xs.length-x).toNat) (0) (by subst hL;rfl) ?_ ?_
  ·simp
  rintro i ⟨i0,i1,hI⟩ hfx ag hag
  conv=>cbv
  simp only[zo hL,sQ,hxl,hyl,gx,gy];refine⟨fun h2=>⟨i0,by omega,i0,by omega,fun h4=>?_,fun h4=>?_⟩,fun h2=>?_⟩
  ·rw[hr,hf0,decide_eq_false];rintro rfl;exact h4 rfl
  ·rw[zn (n:=i+1)];refine hag (i+1) ⟨by omega,by omega,?_⟩ (by omega);have e1:i.toNat<xs.length:=(by omega);have e2:i.toNat<ys.length:=(by omega);rw[ya i0,zQ e1,zQ e2,hI];simp only[zd,ze e1,ze e2,Option.getD_some]at h4;rw[h4]
  ·rw[zB (by omega),zB (by omega)]at hI;rw[hr,hf0,decide_eq_true hI]
 ·cases h
def zev(X Y:List Int)(c:Nat):Bool:=decide (X.take (c-1)=Y.take (c-1))&&(X.getD (c-1) 0 !=Y.getD (c-1) 0||X.getD (c-1) 0==0)
def zqi(f:List V->List V->Int->Bool)(q:List V->List V->Int->Prop):zO:=fun
 |[.slc false 2 (.int .i64 0) a0,.slc false 2 (.int .i64 0) a1,.int .i64 a2]=>some ([q a0 a1 a2],.bool (f a0 a1 a2))
 |_=>none
def zo3(a b:List V)(c:Int):Bool:=zev (yD a) (yD b) c.toNat
def zyc(a b:List V)(c:Int):Prop:=Yo a/\Yo b/\1<=c/\c<=a.length/\c<=b.length
theorem zon:yM Tryz.prog 53 (zqi zo3 zyc):=by
 intro args ps r h hp;unfold zqi at h;split at h
 ·rename_i a0 a1 a2;cases h;obtain⟨⟨xs,hxs⟩,⟨ys,hys⟩,c1,c2,c3⟩:zyc a0 a1 a2:=(zp.1 hp).1;have hxl:a0.length=xs.length:=by rw[hxs,zg]
  have hyl:a1.length=ys.length:=by rw[hys,zg]
  have hf0:zo3 a0 a1 a2=zev xs ys a2.toNat:=by rw[zo3,hxs,hys,zl,zl]
  have gx:∀i,a0.getD i (.int .i64 0)=.int .i64 (xs.getD i 0):=fun i=>by rw[hxs,zG]
  have gy:∀i,a1.getD i (.int .i64 0)=.int .i64 (ys.getD i 0):=fun i=>by rw[hys,zG]
  generalize ZP:Zh=JW,JE:zjM=zck;refine zH (B:=[(97,YH JW zck)]) (Bi:=[]) [0,1,2,6] Tryz.func53 rfl rfl (by subst ZP JE;exact(zm zfj zF)) zA ?_;intro L lp rr hL hr hf hlp;have hlen:=hf.1.1;have hlen2:=hf.2.1.1
  conv=>cbv
  have w0:IntKind.wrap .i64 (a2-1)=a2-1:=zn (by omega) (by omega);simp only[zo hL,sQ,hxl,hyl,gx,gy,w0,ur];subst ZP JE;have e1:V.frzs (a0.take (a2-1).toNat)=I (xs.take (a2-1).toNat):=by rw[hxs,zbg,zt]
  have e2:V.frzs (a1.take (a2-1).toNat)=I (ys.take (a2-1).toNat):=by rw[hys,zbg,zt]
  rw[e1,e2,hr,hf0]
  (repeat' first|(exact yL _)|(exact jY rfl)|(exact qG _)|(apply And.intro)|(intro _))<;>(try first|exact True.intro|omega|rfl|(simp only[zj,zu,zg];omega))
  all_goals first|assumption|exact⟨_,rfl⟩|skip
  rw[zev,Zh,zl,zl,show(a2-1).toNat=a2.toNat-1 by omega];rfl
 ·cases h
def shr(xs ys:List Int)(c:Nat):Bool:=zev (jv xs 201) (jv ys 201) c
theorem zbG(xs:List Int){c k:Nat}(h:c<=k-1):(jv xs k).take c=jv xs (c+1):=by
 rw[jv,zBg _ _ _ h,jv,Nat.add_sub_cancel]
theorem zc0(xs:List Int){c k:Nat}(h:c<k-1):(jv xs k).getD c 0=cd (mul xs) (c+1) (c+1):=jp _ _ _ _ h
theorem zES(xs ys:List Int){c k:Nat}(h1:1<=c)(h2:c<=200)(hk:c+1<=k):zev (jv xs k) (jv ys k) c=shr xs ys c:=by
 rw[shr,zev,zev,zbG xs (c:=c-1) (k:=k) (by omega),zbG ys (c:=c-1) (k:=k) (by omega),zbG xs (c:=c-1) (k:=201) (by omega),zbG ys (c:=c-1) (k:=201) (by omega),
  zc0 xs (k:=k) (by omega),zc0 ys (k:=k) (by omega),zc0 xs (k:=201) (by omega),zc0 ys (k:=201) (by omega)]
theorem zBr(xs ys:List Int)(c:Nat):shr xs ys c=shr ys xs c:=by
 rw[shr,shr,zev,zev];by_cases h:(jv xs 201).getD (c-1) 0=(jv ys 201).getD (c-1) 0
 ·rw[h,decide_eq_decide.2 (eq_comm)]
 ·have h':¬(jv ys 201).getD (c-1) 0=(jv xs 201).getD (c-1) 0:=fun e=>h e.symm;simp only[bne_iff_ne.2 h,bne_iff_ne.2 h',Bool.true_or,Bool.and_true];rw[decide_eq_decide.2 (eq_comm)]
def zs8(xs ys:List Int)(c:Nat):Int:=zgO (kB xs c) (kB ys c) c
def zqt(f:List V->List V->Int->Int)(q:List V->List V->Int->Prop):zO:=fun
 |[.agg [.slc false 2 (.int .i64 0) a0],.agg [.slc false 2 (.int .i64 0) a1],.int .i64 a2]=>some ([q a0 a1 a2],.int .i64 (f a0 a1 a2))
 |_=>none
def ziR(a b:List V)(c:Int):Int:=zs8 (yD a) (yD b) c.toNat
def zos(a b:List V)(c:Int):Prop:=Qt a/\Qt b/\1<=c/\c<=1000000
theorem zkK:yM Tryz.prog 99 (zqt ziR zos):=by
 intro args ps r h hp;unfold zqt at h;split at h
 ·rename_i a0 a1 a2;cases h;obtain⟨hq,hq1,c1,c2⟩:zos a0 a1 a2:=(zp.1 hp).1;have hqb:=hq;have hqb1:=hq1;obtain⟨xs,hxs,hb⟩:=hq;obtain⟨ys,hys,hb1⟩:=hq1;have g1:V.frzs a0=a0:=by rw[hxs,zt]
  have g2:V.frzs a1=a1:=by rw[hys,zt]
  obtain⟨vx,hvx⟩:=qEx (I (kB xs a2.toNat));obtain⟨vy,hvy⟩:=qEx (I (kB ys a2.toNat));have e1:uA a0 a2=vx:=by rw[uA,hxs,zl,hvx]
  have e2:uA a1 a2=vy:=by rw[uA,hys,zl,hvy]
  have e4:ziR a0 a1 a2=zfN vx vy:=by rw[ziR,hxs,hys,zl,zl,zfN,hvx,hvy,zl,zl,zg,Jy,zs8]
  have hqd:zot vx vy:=⟨⟨_,hvx⟩,⟨_,hvy⟩,by rw[hvx,hvy,zg,zg,Jy,Jy];omega⟩;have fx:V.frzs vx=vx:=by rw[hvx,zt]
  have fy:V.frzs vy=vy:=by rw[hvy,zt]
  have nx:V.noFzs vx=true:=by rw[hvx];exact nf _
  have ny:V.noFzs vy=true:=by rw[hvy];exact nf _
  generalize YL:uA=QD,ud:Yf=uY,zji:zfN=zqI,zjc:zot=zqF;refine zH (B:=[(96,zpb QD uY),(58,zkl zqI zqF)]) (Bi:=[]) [0,1,2,3,4,6] Tryz.func99 rfl rfl (by subst YL ud zji zjc;exact(zm ziz (zm zkC zF))) zA ?_;intro L lp rr hL hr hf hlp
  conv=>cbv
  subst YL ud zji zjc;simp only[zo hL,sQ,g1,g2,e1,e2,fx,fy];rw[hr,e4]
  (repeat' first|(exact yL _)|(exact jY rfl)|(exact qG _)|(apply And.intro)|(intro _))<;>(try first|exact True.intro|omega|rfl|(simp only[zj,zu,zg];omega))
  all_goals first|exact hqb|exact hqb1|exact hqd.1|exact hqd.2.1|exact hqd.2.2|exact nx|exact ny
 ·cases h
def zqu(f:List V->List V->Int->Bool)(q:List V->List V->Int->Prop):zO:=fun
 |[.agg [.slc false 2 (.int .i64 0) a0],.agg [.slc false 2 (.int .i64 0) a1],.int .i64 a2]=>some ([q a0 a1 a2],.bool (f a0 a1 a2))
 |_=>none
def zoW(a b:List V)(c:Int):Bool:=shr (yD a) (yD b) c.toNat
def zx6(a b:List V)(c:Int):Prop:=Qt a/\Qt b/\1<=c/\c<=200
theorem zpB:yM Tryz.prog 102 (zqu zoW zx6):=by
 intro args ps r h hp;unfold zqu at h;split at h
 ·rename_i a0 a1 a2;cases h;obtain⟨hq,hq1,c1,c2⟩:zx6 a0 a1 a2:=(zp.1 hp).1;have hqb:=hq;have hqb1:=hq1;obtain⟨xs,hxs,hb⟩:=hq;obtain⟨ys,hys,hb1⟩:=hq1;have g1:V.frzs a0=a0:=by rw[hxs,zt]
  have g2:V.frzs a1=a1:=by rw[hys,zt]
  obtain⟨k,hk⟩:∃k:Nat,k=(a2+1).toNat:=⟨_,rfl⟩;obtain⟨X,hX⟩:=qEx (jv xs k);obtain⟨Y,hY⟩:=qEx (jv ys k);obtain⟨vx,hvx⟩:=qEx (I X);obtain⟨vy,hvy⟩:=qEx (I Y);have e1:Kx a0 (a2+1)=vx:=by rw[Kx,hxs,zl,hvx,hX,hk]
  have e2:Kx a1 (a2+1)=vy:=by rw[Kx,hys,zl,hvy,hY,hk]
  have e4:zoW a0 a1 a2=zev X Y a2.toNat:=by rw[zoW,hxs,hys,zl,zl,hX,hY,zES xs ys (by omega) (by omega) (by omega)]
  have xl:vx.length=k-1:=by rw[hvx,zg,hX,zhN]
  have yl:vy.length=k-1:=by rw[hvy,zg,hY,zhN]
  have gx:∀t,vx.getD t (.int .i64 0)=.int .i64 (X.getD t 0):=fun t=>by rw[hvx,zG]
  have gy:∀t,vy.getD t (.int .i64 0)=.int .i64 (Y.getD t 0):=fun t=>by rw[hvy,zG]
  have w0:IntKind.wrap .i64 (a2-1)=a2-1:=zn (by omega) (by omega);have w1:IntKind.wrap .i64 (a2+1)=a2+1:=zn (by omega) (by omega);generalize zc8:Kx=zdc,ud:Yf=uY,ZP:Zh=JW,JE:zjM=zck;refine zH (B:=[(106,ze4 zdc uY),(122,YH JW zck)]) (Bi:=[]) [1000002007,1000002008,0,1,2,3,4,6,7,8] Tryz.func102 rfl rfl (by subst zc8 ud ZP JE;exact(zm zit (zm ziv zF))) zA ?_;intro L lp rr hL hr hf hlp
  conv=>cbv
  have F1:zdc a0 (a2+1)=vx:=by rw[<-zc8,e1]
  have F2:zdc a1 (a2+1)=vy:=by rw[<-zc8,e2]
  have fx:V.frzs vx=vx:=by rw[hvx,zt]
  have fy:V.frzs vy=vy:=by rw[hvy,zt]
  simp only[zo hL,sQ,g1,g2,w0,w1,F1,F2,fx,fy,xl,yl,gx,gy,ur];subst ZP JE ud;have e1:V.frzs (vx.take (a2-1).toNat)=I (X.take (a2-1).toNat):=by rw[hvx,zbg,zt]
  have e2:V.frzs (vy.take (a2-1).toNat)=I (Y.take (a2-1).toNat):=by rw[hvy,zbg,zt]
  rw[e1,e2,hr,e4];refine⟨⟨hqb,by omega,by omega⟩,⟨hqb1,by omega,by omega⟩,by omega,by omega,by omega,by omega,by omega,by omega,⟨⟨_,rfl⟩,⟨_,rfl⟩⟩,fun h=>?_,fun h=>?_⟩
  ·rw[Zh,zl,zl,show(a2-1).toNat=a2.toNat-1 by omega]at h;rw[zev,h];rfl
  ·rw[Zh,zl,zl,show(a2-1).toNat=a2.toNat-1 by omega]at h;rw[zev,h,show(a2-1).toNat=a2.toNat-1 by omega];refine⟨by omega,by omega,by omega,by omega,fun _=>by omega,fun _=>by omega,fun _=>trivial,?_⟩;rfl
 ·cases h
end Go.Ax
