import Derived.Test.YtdahdoichcnlgaaGreatB01p1
set_option linter.all false
set_option maxRecDepth 100000
set_option maxHeartbeats 1000000
open Int renaming eq_ofNat_of_zero_le->Qq,natCast_add->zgf,natCast_nonneg->kP,tdiv_eq_ediv_of_nonneg->Kl,tmod_lt_of_pos->kN,tmod_nonneg->zge,toNat_natCast->zW
open List renaming append_assoc->zZ,append_nil->yx,ext_getElem?->yC,flatMap_append->kz,flatMap_cons->uA,flatMap_nil->YU,getD_eq_getElem?_getD->zd,getElem?_eq_getElem->zg,getElem?_eq_none->zD,getElem?_map->zN,getElem?_replicate->jX,getElem?_set_self->ud,getElem?_take_of_lt->zae,length_append->zq,length_cons->zi,length_map->zQ,length_nil->zp,length_replicate->zS,length_take->yb,mem_iff_getElem->qK,mem_range->ka,range_succ->Ys,replicate_succ'->jb,take_append_drop->kG,take_of_length_le->zG,take_succ_eq_append_getElem->zP
open Nat renaming le_of_ble_eq_true->ze,le_refl->zt,le_trans->qJ
open Option.some renaming injEq->za
open Prod.mk renaming injEq->zb
/-
 Sequences of multiplicities of branches:steps,runs,first multiplicities. No conditions but those of the contracts.
-/
namespace Go.Ax
open Go.Proofs
def JR(a b:Int):List (List Int):=(stp a.toNat b.toNat).map fun p=>[(p.1:Int),(p.2:Int)]
theorem zgB:∀(n a b:Nat),b<=n->(stp a b).length<=b
 |0,a,b,h=>by obtain rfl:b=0:=by omega
              rw[zhi];simp
 |n+1,a,b,h=>by
  by_cases hb:0<b
  ·rw[znS hb,zi];have h1:a%b<b:=Nat.mod_lt _ hb;have:=zgB n b (a%b) (by omega);omega
  ·obtain rfl:b=0:=(by omega);rw[zhi];simp
theorem zuM{a b:Int}(ha:0<=a)(hb:0<b):JR a b=[a.tdiv b,b]::JR b (a.tmod b):=by
 obtain⟨a,rfl⟩:=Qq ha;obtain⟨b,rfl⟩:=Qq (Int.le_of_lt hb);rw[JR,zW,zW,znS (by omega),List.map_cons,JR,<-Int.ofNat_tdiv,<-Int.ofNat_tmod,zW,zW]
theorem zre(a:Int){b:Int}(hb:¬0<b):JR a b=[]:=by
 rw[JR,show b.toNat=0 by omega,zhi];rfl
def zg5(f:Int->Int->List V)(q:Int->Int->Prop):zK:=fun
 |[.int .i64 a0,.int .i64 a1]=>some ([q a0 a1],.slc true 29 (.slc true 2 (.int .i64 0) []) (f a0 a1))
 |_=>none
def zhO(a b:Int):List V:=II true (JR a b)
def zhr(a b:Int):Prop:=0<=a/\a<=1000000/\0<=b/\b<=1000000
abbrev sQ:=(⟨@imp_self,@true_and,@and_true,@zCZ,@zBZ,@Bool.or_eq_true,@Bool.or_eq_false_iff,@Bool.and_eq_true,@Bool.and_eq_false_iff,@decide_eq_true_eq,@decide_eq_false_iff_not,@Bool.not_eq_true',@Bool.not_eq_false',@beq_iff_eq.{0},@beq_eq_false_iff_ne.{0},@ne_eq.{1},@zCm,@zCl,@Zb,@kS,@zA,@zj,@zE,@zoj,@zcp⟩: _/\_/\_/\_/\_/\_/\_/\_/\_/\_/\_/\_/\_/\_/\_/\_/\_/\_/\_/\_/\_/\_/\_/\_/\_)
theorem zro:yJ Tryz.prog 129 (zg5 zhO zhr):=by
 intro args ps r h hp;unfold zg5 at h;split at h
 ·rename_i a0 a1;simp only[za,zb]at h;obtain⟨rfl,rfl⟩:=h;obtain⟨q1,q2,q3,q4⟩:zhr a0 a1:=(zm.1 hp).1;refine zI (T:=tab) (B:=[]) (Bi:=[]) [0,1,4,5] Tryz.func129 rfl rfl (by kernel_rfl) (ze rfl) mixed zR (by exact zB) (by exact zy) (by kernel_rfl) ?_;intro L lp rr hL hr hf hlp
  conv=>cbv
  refine hlp (Int×Int×List V) _ _ _ [0,1,5] (fun x=>[(0,none,.val (.int .i64 x.1)),(1,none,.val (.int .i64 x.2.1)),(5,none,.val (.slc true 29 (.slc true 2 (.int .i64 0) []) x.2.2))])
   (fun x=>0<=x.1/\x.1<=1000000/\0<=x.2.1/\x.2.1<=1000000/\∃L,x.2.2=II true L/\L++JR x.1 x.2.1=JR a0 a1) (fun x=>x.2.1.toNat) ((a0,a1,[])) (by subst hL;rfl) ?_ ?_
  ·exact⟨q1,q2,q3,q4,[],rfl,rfl⟩
  rintro⟨a,b,es⟩ ⟨p1,p2,p3,p4,L,hes,hI⟩ hfx ag hag;simp only at p1 p2 p3 p4 hes hI
  have hel:es.length<=1000000:=by
   have h1:=congrArg List.length hI;have h2:=zgB a1.toNat a0.toNat a1.toNat (zt _);rw[zq,JR,JR,zQ,zQ]at h1;rw[hes,yf];omega
  conv=>cbv
  simp only[zo hL,sQ,hel];refine⟨fun h=>?_,fun h=>?_⟩
  ·have h1:0<=a.tdiv b/\a.tdiv b<=a:=⟨Int.tdiv_nonneg p1 p3,Int.tdiv_le_self b p1⟩;have h2:0<=a.tmod b/\a.tmod b<b:=⟨zge b p1,kN a h⟩;have hw:IntKind.wrap .i64 (a.tdiv b)=a.tdiv b:=zl (by omega) (by omega)
   (repeat' first|(exact yY _)|(exact jT rfl)|(exact qO _)|(apply And.intro)|(intro _))<;>(try first|exact True.intro|omega|rfl|(simp only[zi,zp,zj];omega))
   refine hag (b,a.tmod b,_) ⟨by simp only;omega,by simp only;omega,by simp only;omega,by simp only;omega,L++[[a.tdiv b,b]],?_,?_⟩ (by simp only;omega)
   ·simp only;rw[uP,hes,hw];rfl
   ·simp only;rw[zZ,<-hI,zuM p1 h];rfl
  ·rw[hr,zhO,<-hI,zre a h,yx,hes]
 ·cases h
theorem zmz:yJ Tryz.prog 143 (zg5 zhO zhr):=by
 intro args ps r h hp;unfold zg5 at h;split at h
 ·rename_i a0 a1;simp only[za,zb]at h;obtain⟨rfl,rfl⟩:=h;obtain⟨q1,q2,q3,q4⟩:zhr a0 a1:=(zm.1 hp).1;refine zI (T:=tab) (B:=[]) (Bi:=[]) [0,1,4,5,6] Tryz.func143 rfl rfl (by kernel_rfl) (ze rfl) mixed zR (by exact zB) (by exact zy) (by kernel_rfl) ?_;intro L lp rr hL hr hf hlp
  conv=>cbv
  refine hlp (Int×Int×List V) _ _ _ [0,1,5] (fun x=>[(0,none,.val (.int .i64 x.1)),(1,none,.val (.int .i64 x.2.1)),(5,none,.val (.slc true 29 (.slc true 2 (.int .i64 0) []) x.2.2))])
   (fun x=>0<=x.1/\x.1<=1000000/\0<=x.2.1/\x.2.1<=1000000/\∃L,x.2.2=II true L/\L++JR x.1 x.2.1=JR a0 a1) (fun x=>x.2.1.toNat) ((a0,a1,[])) (by subst hL;rfl) ?_ ?_
  ·exact⟨q1,q2,q3,q4,[],rfl,rfl⟩
  rintro⟨a,b,es⟩ ⟨p1,p2,p3,p4,L,hes,hI⟩ hfx ag hag;simp only at p1 p2 p3 p4 hes hI
  have hel:es.length<=1000000:=by
   have h1:=congrArg List.length hI;have h2:=zgB a1.toNat a0.toNat a1.toNat (zt _);rw[zq,JR,JR,zQ,zQ]at h1;rw[hes,yf];omega
  conv=>cbv
  simp only[zo hL,sQ,hel];refine⟨fun h=>?_,fun h=>?_⟩
  ·have h1:0<=a.tdiv b/\a.tdiv b<=a:=⟨Int.tdiv_nonneg p1 p3,Int.tdiv_le_self b p1⟩;have h2:0<=a.tmod b/\a.tmod b<b:=⟨zge b p1,kN a h⟩;have hw:IntKind.wrap .i64 (a.tdiv b)=a.tdiv b:=zl (by omega) (by omega)
   (repeat' first|(exact yY _)|(exact jT rfl)|(exact qO _)|(apply And.intro)|(intro _))<;>(try first|exact True.intro|omega|rfl|(simp only[zi,zp,zj];omega))
   refine hag (b,a.tmod b,_) ⟨by simp only;omega,by simp only;omega,by simp only;omega,by simp only;omega,L++[[a.tdiv b,b]],?_,?_⟩ (by simp only;omega)
   ·simp only;rw[uP,hes,hw];rfl
   ·simp only;rw[zZ,<-hI,zuM p1 h];rfl
  ·rw[hr,zhO,<-hI,zre a h,yx,hes]
 ·cases h
def jk(S:List (List Int)):List Int:=S.flatMap fun s=>List.replicate (s.getD 0 0).toNat (s.getD 1 0)
theorem zhK(S:List (List Int))(k:Nat)(h:k<S.length):jk (S.take (k+1))=jk (S.take k)++List.replicate ((S.getD k []).getD 0 0).toNat ((S.getD k []).getD 1 0):=by
 rw[zid _ _ h,jk,jk,kz,uA,YU,yx]
def exI(a b:Int):List Int:=(ex a.toNat b.toNat).map fun(n:Nat)=>(n:Int)
theorem zi1(a b:Int):jk (JR a b)=exI a b:=by
 rw[jk,JR,exI,ex,List.flatMap_map,List.map_flatMap];congr 1
 funext p
 simp
theorem zsI:∀(n a b:Nat),b<=n->(ex a b).length<=a+b
 |0,a,b,h=>by obtain rfl:b=0:=by omega
              rw[zbz];simp
 |n+1,a,b,h=>by
  by_cases hb:0<b
  ·rw[kL hb,zq,zS];have h1:a%b<b:=Nat.mod_lt _ hb;have h2:=zsI n b (a%b) (by omega);have h3:=Nat.div_add_mod a b;have h4:a/b<=b*(a/b):=Nat.le_mul_of_pos_left _ hb;omega
  ·obtain rfl:b=0:=(by omega);rw[zbz];simp
theorem zuN{a b:Int}{s:List Int}(h:s∈JR a b):s.length=2/\0<=s.getD 0 0/\0<=s.getD 1 0:=by
 simp only[JR,List.mem_map]at h;obtain⟨p,_,rfl⟩:=h;exact⟨rfl,kP _,kP _⟩
def zoE(f:List V->Int->Int->List V)(q:List V->Int->Int->Prop):kQ:=fun
 |[.slc true 2 (.int .i64 0) a0,.int .i64 a1,.int .i64 a2]=>some ([q a0 a1 a2],.slc true 2 (.int .i64 0) (f a0 a1 a2),.hole 0)
 |_=>none
def zjS(es:List V)(k e:Int):List V:=es++I (exI k e)
def zoc(es:List V)(k e:Int):Prop:=es.length<=100000000/\zhr k e
theorem zrp:zAn Tryz.prog 107 0 (zoE zjS zoc):=by
 intro args ps r y h hp;unfold zoE at h;split at h
 ·rename_i a0 a1 a2;simp only[za,zb]at h;obtain⟨rfl,rfl,rfl⟩:=h;obtain⟨q0,hq⟩:zoc a0 a1 a2:=(zm.1 hp).1;obtain⟨q1,q2,q3,q4⟩:=hq;generalize zcO:zhO=zbC;generalize zcK:zhr=zkh;refine zBF (T:=tab) (B:=[(129,zg5 zbC zkh)]) (Bi:=[]) 0 [0,1,2,6,8,9,12,13,14] Tryz.func107 rfl rfl (by kernel_rfl) (ze rfl) mixed zR (by subst zcO zcK;exact(zn zro zB)) (by subst zcO zcK;exact zy) (by kernel_rfl) (ze rfl) ?_;intro L lp rr hL hr hf hlp
  conv=>cbv
  obtain⟨S,hS⟩:∃S,S=JR a1 a2:=⟨_,rfl⟩;obtain⟨ss,hss⟩:∃ss,ss=II true S:=⟨_,rfl⟩;have hF:zbC a1 a2=ss:=by rw[<-zcO,zhO,hss,hS]
  have hsl:ss.length=S.length:=by rw[hss,yf]
  have hSl:S.length<=1000000:=by
   have:=zgB a2.toNat a1.toNat a2.toNat (zt _);rw[hS,JR,zQ];omega
  have gss:∀k,ss.getD k (.slc true 2 (.int .i64 0) [])=.slc true 2 (.int .i64 0) (I (S.getD k [])):=fun k=>by rw[hss,qM]
  have hfl:(exI a1 a2).length<=2000000:=by
   have:=zsI a2.toNat a1.toNat a2.toNat (zt _);rw[exI,zQ];omega
  have hpre:∀k,(jk (S.take k)).length<=2000000:=fun k=>by
   have h1:jk S=jk (S.take k)++jk (S.drop k):=by
    rw[jk,jk,jk,<-kz,kG]
   have h2:=congrArg List.length h1;rw[hS,zi1,zq,<-hS]at h2;omega
  simp only[zo hL,sQ,hF,hsl];refine⟨by rw[<-zcK];exact⟨q1,q2,q3,q4⟩,?_⟩
  refine hlp (List V×Int) _ _ _ [0,12,13,14] (fun x=>[(0,none,.val (.slc true 2 (.int .i64 0) x.1)),(12,none,.val (.slc true 29 (.slc true 2 (.int .i64 0) []) ss)),(13,none,.val (.int .i64 S.length)),(14,none,.val (.int .i64 x.2))])
   (fun x=>0<=x.2/\x.2<=S.length/\x.1=a0++I (jk (S.take x.2.toNat))) (fun x=>(S.length-x.2).toNat) ((a0,0)) (by subst hL;rfl) ?_ ?_
  ·exact⟨by simp,by simp only;omega,by simp[jk,I]⟩
  rintro⟨es,i⟩ ⟨i0,i1,hI⟩ hfx ag hag;simp only at i0 i1 hI
  have hst:=zhK S i.toNat
  have hmem:=fun h=>zuN (a:=a1) (b:=a2) (s:=S.getD i.toNat []) (by rw[<-hS];exact zcx h);have hp1:=hpre (i.toNat+1);generalize hE:S.getD i.toNat []=E at hst hmem;obtain⟨m,hm⟩:∃m:Int,m=S.length:=⟨_,rfl⟩;simp only[<-hm]
  conv=>cbv
  simp only[zo hL,sQ,hsl,gss,hE];refine⟨fun h=>?_,fun h=>?_⟩
  ·obtain⟨hEl,hE0,hE1⟩:=hmem (by omega);have hst':=hst (by omega);have hip:i.toNat<S.length:=(by omega);refine⟨i0,by omega,by omega,?_⟩
   refine hlp (List V×Int) _ _ _ [0,8,9,12,13,14] (fun x=>[(0,none,.val (.slc true 2 (.int .i64 0) x.1)),(8,none,.rf 12 0 [i.toNat]),(9,none,.val (.int .i64 x.2)),(12,none,.val (.slc true 29 (.slc true 2 (.int .i64 0) []) ss)),(13,none,.val (.int .i64 m)),(14,none,.val (.int .i64 i))])
    (fun x=>0<=x.2/\x.2<=E.getD 0 0/\x.1=es++I (List.replicate x.2.toNat (E.getD 1 0))) (fun x=>(E.getD 0 0-x.2).toNat) (es,0) (by subst hL;rfl) ?_ ?_
   ·exact⟨by simp,hE0,by simp[I]⟩
   rintro⟨es2,j⟩ ⟨j0,j1,hI2⟩ hfx2 ag2 hag2;simp only at j0 j1 hI2;obtain⟨it,hit⟩:∃it,it=i.toNat:=⟨_,rfl⟩;simp only[<-hit]at hE ⊢
   conv=>cbv
   simp only[zo hL,sQ,hsl,gss,hE]
   have hl2:es2.length<=102000000:=by
    rw[hst',zq,zS]at hp1;rw[hI2,hI,zq,zj,zq,zj,zS];omega
   have hEb:E.getD 0 0<=2000000:=by
    rw[hst',zq,zS]at hp1;omega
   have hti:it<S.length:=(by omega);subst hit;refine⟨hti,by omega,by omega,hti,by omega,fun hj=>?_,fun hj=>?_⟩
   ·rw[zl (n:=j+1) (by omega) (by omega)]
    (repeat' first|(exact yY _)|(exact jT rfl)|(exact qO _)|(apply And.intro)|(intro _))<;>(try first|exact True.intro|omega|rfl|(simp only[zi,zp,zj];omega))
    refine hag2 (_,j+1) ⟨by simp only;omega,by simp only;omega,?_⟩ (by simp only;omega);simp only[zF j0];rw[jb,hI2,zZ,<-jY];rfl
   ·rw[zl (n:=i+1) (by omega) (by omega)];subst hm;refine hag (_,i+1) ⟨by simp only;omega,by simp only;omega,?_⟩ (by simp only;omega);simp only[zF i0];rw[hst',hI2,hI,zZ,jY,show j=E.getD 0 0 by omega]
  ·rw[hr,zjS,hI,zG (by omega),hS,zi1]
 ·cases h
def JJ(xs:List Int)(i:Nat):Int:=xs.getD (i+1) 0-(if i=0 then 0 else xs.getD i 0)
def zdE(xs:List Int)(i:Nat):List Int:=exI (JJ xs i) ((dv xs).getD i 0)
def za7(xs:List Int)(n:Nat):List Int:=(List.range n).flatMap (zdE xs)
def jE(xs:List Int):List Int:=za7 xs (xs.length-1)
theorem zfG(xs:List Int)(n:Nat):za7 xs (n+1)=za7 xs n++zdE xs n:=by
 rw[za7,za7,Ys,kz,uA,YU,yx]
theorem zeT{xs:List Int}(h:Br xs){i:Nat}(hi:i+1<xs.length):1<=JJ xs i/\JJ xs i<=2000:=by
 have h1:=h.up i hi;have h2:=h.high (i+1) hi;have h3:=h.low i (by omega);have h4:=h.low (i+1) hi;rw[JJ];split<;>omega
theorem zzf{xs:List Int}(h:Br xs){i:Nat}(hi:i+1<xs.length):(zdE xs i).length<=3000:=by
 have h1:=zeT h hi;have h2:=h.dhi i (by omega);have h3:=h.dpos i (by omega);have:=zsI _ (JJ xs i).toNat ((dv xs).getD i 0).toNat (zt _);rw[zdE,exI,zQ];omega
theorem zew{xs:List Int}(h:Br xs):∀n,n+1<=xs.length->(za7 xs n).length<=3000*n
 |0,_=>by simp[za7]
 |n+1,hn=>by
  have:=zew h n (by omega);have:=zzf h (i:=n) (by omega);rw[zfG,zq];omega
def YG(xs:List Int):List Int:=if xs.length=1 then[1]else jE xs
def zc3(es:List V):List V:=I (YG (yO es))
theorem zbR:yJ Tryz.prog 71 (zns zc3 Yz):=by
 intro args ps r h hp;unfold zns at h;split at h
 ·rename_i a0;simp only[za,zb]at h;obtain⟨rfl,rfl⟩:=h;have hq:Yz a0:=(zm.1 hp).1;have hqi:=hq.isIs;obtain⟨xs,hxs,hb⟩:=hq;have g1:V.frzs a0=a0:=by rw[hxs,zA]
  have e1:zhQ a0=xs.length-1:=by
   have:=hb.len;rw[zhQ,hxs,zj];exact zl (by omega) (by omega)
  have e2:zc3 a0=I (YG xs):=by rw[zc3,hxs,zr]
  have e3:Jx a0=I (dv xs):=by rw[Jx,hxs,zr]
  generalize zh1:zhQ=znP;generalize ZN:Jx=Kr;generalize yP:ub=ki;generalize zjy:zjS=zyM;generalize zju:zoc=zyI;refine zI (T:=tab) (B:=[(105,zxd znP),(106,zqV Kr ki)]) (Bi:=[(107,0,true,zoE zyM zyI)]) [2000009999,0,1,2,3,4,5,6] Tryz.func71 rfl rfl (by kernel_rfl) (ze rfl) mixed zR (by subst zh1 ZN yP zjy zju;exact(zn zn5 (zn zfO zB))) (by subst zh1 ZN yP zjy zju;exact(zyz zrp zy)) (by kernel_rfl) ?_;intro L lp rr hL hr hf hlp
  conv=>cbv
  obtain⟨ds,hds⟩:∃ds,ds=I (dv xs):=⟨_,rfl⟩;have l1:ds.length=xs.length:=by rw[hds,zj,hb.dlen]
  have hF:Kr a0=ds:=by rw[<-ZN,e3,hds]
  have hF2:znP a0=xs.length-1:=by rw[<-zh1,e1]
  simp only[zo hL,sQ,hF,hF2,g1];have hp1:=hb.pos;have hl1:=hb.len;refine⟨fun h=>?_,fun h=>?_⟩
  ·rw[hr,e2,YG,if_pos (by omega)];rfl
  refine⟨by rw[<-yP];exact hqi,?_⟩
  refine hlp (List V×Int×Int) _ _ _ [1,3,4,5,6] (fun x=>[(1,none,.val (.box 57 (.agg [.slc false 2 (.int .i64 0) a0]))),(3,none,.val (.slc true 2 (.int .i64 0) ds)),(4,none,.val (.slc true 2 (.int .i64 0) x.1)),(5,none,.val (.int .i64 x.2.1)),(6,none,.val (.int .i64 x.2.2))])
   (fun x=>1<=x.2.2/\x.2.2<=xs.length/\x.1=I (za7 xs (x.2.2-1).toNat)/\x.2.1=(if(x.2.2-1).toNat=0 then 0 else xs.getD (x.2.2-1).toNat 0)) (fun x=>(xs.length-x.2.2).toNat) (([],0,1)) (by subst hL;rfl) ?_ ?_
  ·exact⟨by simp,by simp only;omega,rfl,rfl⟩
  rintro⟨es,t,i⟩ ⟨i0,i1,hI,hT⟩ hfx ag hag;simp only at i0 i1 hI hT
  conv=>cbv
  have hlen:es.length<=200000:=by
   have:=zew hb (i-1).toNat (by omega);rw[hI,zj];omega
  have ga:∀k,a0.getD k (.int .i64 0)=.int .i64 (xs.getD k 0):=fun k=>by rw[hxs,zE]
  have gd:∀k,ds.getD k (.int .i64 0)=.int .i64 ((dv xs).getD k 0):=fun k=>by rw[hds,zE]
  have al:a0.length=xs.length:=by rw[hxs,zj]
  have w1:IntKind.wrap .i64 (i-1)=i-1:=zl (by omega) (by omega);simp only[zo hL,sQ,l1,al,ga,gd,w1];obtain⟨k,rfl⟩:∃k:Nat,i=k+1:=⟨(i-1).toNat,by omega⟩;rw[show((k:Int)+1-1).toNat=k by omega]at hI hT;rw[show((k:Int)+1-1).toNat=k by omega,show((k:Int)+1).toNat=k+1 by omega];refine⟨fun h2=>?_,fun h2=>?_⟩
  ·have hk:xs.getD (k+1) 0-t=JJ xs k:=(by rw[JJ,hT]);have hkk:=zeT hb (i:=k) (by omega);have hd1:=hb.dpos k (by omega);have hd2:=hb.dhi k (by omega);rw[hk,zl (n:=JJ xs k) (by omega) (by omega),zl (n:=(k:Int)+1+1) (by omega) (by omega)];refine⟨by omega,by omega,by omega,by omega,by omega,by rw[<-zju];exact⟨by omega,by omega,by omega,by omega,by omega⟩,by omega,by omega,?_⟩;refine hag (_,_,(k:Int)+1+1) ⟨by simp only;omega,by simp only;omega,?_,?_⟩ (by simp only;omega)
   ·simp only;rw[show((k:Int)+1+1-1).toNat=k+1 by omega,zfG,<-zjy,zjS,hI,jY];rfl
   ·simp only;rw[show((k:Int)+1+1-1).toNat=k+1 by omega,if_neg (by omega)];rfl
  ·rw[hr,e2,YG,if_neg (by omega),hI,jE,show xs.length-1=k by omega]
 ·cases h
def qX(xs:List Int)(k:Nat):List Int:=yI (fun i=>(jE xs).getD i 1) k
theorem ZT(xs:List Int)(k:Nat):(qX xs k).length=k:=yo _ _
theorem zuQ(xs:List Int)(i:Nat):(YG xs).getD i 1=(jE xs).getD i 1:=by
 rw[YG];split
 ·rename_i h;have:jE xs=[]:=by rw[jE,h];rfl
  rw[this]
  cases i with
  |zero=>rfl
  |succ i=>rfl
 ·rfl
theorem ziY(l:List Int)(n i:Nat):(l++List.replicate n 1).getD i 1=l.getD i 1:=by
 simp only[zd];by_cases h:i<l.length
 ·rw[List.getElem?_append_left h]
 ·rw[List.getElem?_append_right (by omega),zD (l:=l) (by omega),jX];split<;>rfl
theorem zv6{l:List Int}{xs:List Int}{n k:Nat}(hl:∀i,l.getD i 1=(jE xs).getD i 1)(h:k<=(l++List.replicate n 1).length):(l++List.replicate n 1).take k=qX xs k:=by
 apply yC;intro i;by_cases hi:i<k
 ·rw[zae hi,qX,uz _ _ _ hi,<-hl i,<-ziY l n i,zd,zg (by omega)];rfl
 ·rw[zD (by rw[yb];omega),zD (by rw[ZT];omega)]
def zjh(f:List V->Int->List V)(q:List V->Int->Prop):zK:=fun
 |[.agg [.slc false 2 (.int .i64 0) a0],.int .i64 a1]=>some ([q a0 a1],.slc false 2 (.int .i64 0) (f a0 a1))
 |_=>none
def zdr(f:List V->Int->List V)(q:List V->Int->Prop):zK:=fun
 |[.agg [.slc false 2 (.int .i64 0) a0],.int .i64 a1]=>some ([q a0 a1],.slc true 2 (.int .i64 0) (f a0 a1))
 |_=>none
def uc(es:List V)(k:Int):List V:=I (qX (yO es) k.toNat)
def ZH(es:List V)(k:Int):Prop:=Yz es/\1<=k/\k<=1000000
theorem zuP{xs:List Int}(h:Br xs):(YG xs).length<=200000:=by
 have h1:=h.len;have h2:=h.pos;have:=zew h (xs.length-1) (by omega);rw[YG];split
 ·simp
 ·rw[jE];omega
theorem zcq:yJ Tryz.prog 73 (zjh uc ZH):=by
 intro args ps r h hp;unfold zjh at h;split at h
 ·rename_i a0 a1;simp only[za,zb]at h;obtain⟨rfl,rfl⟩:=h;obtain⟨hq,k1,k2⟩:ZH a0 a1:=(zm.1 hp).1;have hqb:=hq;obtain⟨xs,hxs,hb⟩:=hq;have g1:V.frzs a0=a0:=by rw[hxs,zA]
  obtain⟨ss,hss⟩:∃ss,ss=I (YG xs):=⟨_,rfl⟩;have e1:zc3 a0=ss:=by rw[zc3,hxs,zr,hss]
  have e2:uc a0 a1=I (qX xs a1.toNat):=by rw[uc,hxs,zr]
  have hsl:ss.length<=200000:=by rw[hss,zj];exact zuP hb
  generalize JQ:zc3=zbD;generalize jQ:Yz=ZF;refine zI (T:=tab) (B:=[(71,zns zbD ZF)]) (Bi:=[]) [0,1,2,4,5] Tryz.func73 rfl rfl (by kernel_rfl) (ze rfl) mixed zR (by subst JQ jQ;exact(zn zbR zB)) (by subst JQ jQ;exact zy) (by kernel_rfl) ?_;intro L lp rr hL hr hf hlp
  conv=>cbv
  have hF:zbD a0=ss:=by rw[<-JQ,e1]
  simp only[zo hL,sQ,hF,g1];refine⟨by rw[<-jQ];exact hqb,?_⟩
  refine hlp (List V×Nat) _ _ _ [1,5] (fun x=>[(1,none,.val (.int .i64 a1)),(5,none,.val (.slc true 2 (.int .i64 0) x.1))])
   (fun x=>x.1=I (YG xs++List.replicate x.2 1)/\x.1.length<=1200000) (fun x=>a1.toNat-x.1.length) ((ss,0)) (by subst hL;rfl) ?_ ?_
  ·exact⟨by simp[hss],by simp only;omega⟩
  rintro⟨es,n⟩ ⟨hI,hl⟩ hfx ag hag;simp only at hI hl
  conv=>cbv
  simp only[zo hL,sQ,];refine⟨fun h=>?_,fun h=>?_⟩
  ·(repeat' first|(exact yY _)|(exact jT rfl)|(exact qO _)|(apply And.intro)|(intro _))<;>(try first|exact True.intro|omega|rfl|(simp only[zi,zp,zj];omega))
   refine hag (_,n+1) ⟨?_,?_⟩ ?_
   ·simp only;rw[jb,<-zZ,<-jY,hI];rfl
   ·simp only[zq,zi,zp];omega
   ·simp only[zq,zi,zp];omega
  ·refine⟨by omega,by omega,by omega,by omega,?_⟩;rw[hr,e2,List.drop_zero,hI,zA,zjs,zv6 (zuQ xs) (by rw[hI,zj]at h;omega)]
 ·cases h
theorem zAr(xss:List (List Int)):∀x∈II true xss,x.solid=true:=by
 intro x h;simp only[II,List.mem_map]at h;obtain⟨xs,_,rfl⟩:=h;rfl
def zbS(xs:List Int)(n:Nat):List (List Int):=(List.range n).flatMap fun i=>JR (JJ xs i) ((dv xs).getD i 0)
def zbT(xs:List Int):List (List Int):=zbS xs (xs.length-1)
theorem zhq(xs:List Int)(n:Nat):zbS xs (n+1)=zbS xs n++JR (JJ xs n) ((dv xs).getD n 0):=by
 rw[zbS,zbS,Ys,kz,uA,YU,yx]
theorem zea(xs:List Int):∀n,jk (zbS xs n)=za7 xs n
 |0=>rfl
 |n+1=>by
  have h:∀a b:List (List Int),jk (a++b)=jk a++jk b:=fun a b=>by rw[jk,kz];rfl
  rw[zhq,zfG,h,zea xs n,zi1,zdE]
theorem zuO{xs:List Int}(h:Br xs){i:Nat}(hi:i+1<xs.length):(JR (JJ xs i) ((dv xs).getD i 0)).length<=64:=by
 have h2:=h.dhi i (by omega);have h3:=h.dpos i (by omega);have:=zgB _ (JJ xs i).toNat ((dv xs).getD i 0).toNat (zt _);rw[JR,zQ];omega
theorem zfP{xs:List Int}(h:Br xs):∀n,n+1<=xs.length->(zbS xs n).length<=64*n
 |0,_=>by simp[zbS]
 |n+1,hn=>by
  have:=zfP h n (by omega);have:=zuO h (i:=n) (by omega);rw[zhq,zq];omega
theorem zpM{xs:List Int}:∀n,∀s∈zbS xs n,s.length=2/\0<=s.getD 0 0/\0<=s.getD 1 0:=by
 intro n s h;simp only[zbS,List.mem_flatMap]at h;obtain⟨i,_,h⟩:=h;exact zuN h
def znr(f:List V->List V)(q:List V->Prop):zK:=fun
 |[.agg [.slc false 2 (.int .i64 0) a0]]=>some ([q a0],.slc true 29 (.slc true 2 (.int .i64 0) []) (f a0))
 |_=>none
def zb3(es:List V):List V:=II true (zbT (yO es))
theorem zgG:yJ Tryz.prog 120 (znr zb3 Yz):=by
 intro args ps r h hp;unfold znr at h;split at h
 ·rename_i a0;simp only[za,zb]at h;obtain⟨rfl,rfl⟩:=h;have hq:Yz a0:=(zm.1 hp).1;have hqp:=hq.isP;obtain⟨xs,hxs,hb⟩:=hq;have g1:V.frzs a0=a0:=by rw[hxs,zA]
  have e2:zb3 a0=II true (zbT xs):=by rw[zb3,hxs,zr]
  have e3:Jx a0=I (dv xs):=by rw[Jx,hxs,zr]
  generalize ZN:Jx=Kr;generalize zh4:IsP=zxn;generalize zcO:zhO=zbC;generalize zcK:zhr=zkh;refine zI (T:=tab) (B:=[(142,zqW Kr zxn),(143,zg5 zbC zkh)]) (Bi:=[]) [0,1,2,3,4,5,6] Tryz.func120 rfl rfl (by kernel_rfl) (ze rfl) mixed zR (by subst ZN zh4 zcO zcK;exact(zn zdd (zn zmz zB))) (by subst ZN zh4 zcO zcK;exact zy) (by kernel_rfl) ?_;intro L lp rr hL hr hf hlp
  conv=>cbv
  obtain⟨ds,hds⟩:∃ds,ds=I (dv xs):=⟨_,rfl⟩;have l1:ds.length=xs.length:=by rw[hds,zj,hb.dlen]
  have hF:Kr a0=ds:=by rw[<-ZN,e3,hds]
  simp only[zo hL,sQ,hF,g1];refine⟨by rw[<-zh4];exact hqp,?_⟩;have hp1:=hb.pos;have hl1:=hb.len
  refine hlp (List V×Int) _ _ _ [1,3,4,5] (fun x=>[(1,none,.val (.box 57 (.agg [.slc false 2 (.int .i64 0) a0]))),(3,none,.val (.slc true 2 (.int .i64 0) ds)),(4,none,.val (.slc true 29 (.slc true 2 (.int .i64 0) []) x.1)),(5,none,.val (.int .i64 x.2))])
   (fun x=>1<=x.2/\x.2<=xs.length/\x.1=II true (zbS xs (x.2-1).toNat)) (fun x=>(xs.length-x.2).toNat) (([],1)) (by subst hL;rfl) ?_ ?_
  ·exact⟨by simp,by simp only;omega,rfl⟩
  rintro⟨es,i⟩ ⟨i0,i1,hI⟩ hfx ag hag;simp only at i0 i1 hI
  conv=>cbv
  have ga:∀k,a0.getD k (.int .i64 0)=.int .i64 (xs.getD k 0):=fun k=>by rw[hxs,zE]
  have gd:∀k,ds.getD k (.int .i64 0)=.int .i64 ((dv xs).getD k 0):=fun k=>by rw[hds,zE]
  have al:a0.length=xs.length:=by rw[hxs,zj]
  have w1:IntKind.wrap .i64 (i-1)=i-1:=zl (by omega) (by omega);simp only[zo hL,sQ,l1,al,ga,gd,w1];obtain⟨k,rfl⟩:∃k:Nat,i=k+1:=⟨(i-1).toNat,by omega⟩;rw[show((k:Int)+1-1).toNat=k by omega]at hI;rw[show((k:Int)+1-1).toNat=k by omega,show((k:Int)+1).toNat=k+1 by omega]
  have fin:(k:Int)+1<xs.length->∀z,z=JJ xs k->zkh z ((dv xs).getD k 0)/\(es.length:Int)+(zbC z ((dv xs).getD k 0)).length<=2147483647/\(∀x∈zbC z ((dv xs).getD k 0),x.solid=true)/\ag (ZS [1,3,4,5] [(1,none,.val (.box 57 (.agg [.slc false 2 (.int .i64 0) a0]))),(3,none,.val (.slc true 2 (.int .i64 0) ds)),(4,none,.val (.slc true 29 (.slc true 2 (.int .i64 0) []) (es++zbC z ((dv xs).getD k 0)))),(5,none,.val (.int .i64 (k+1+1)))]):=by
   intro h z hz;have hkk:=zeT hb (i:=k) (by omega);have hd1:=hb.dpos k (by omega);have hd2:=hb.dhi k (by omega);have hlr:=zfP hb k (by omega);have hls:=zuO hb (i:=k) (by omega);have hfz:zbC z ((dv xs).getD k 0)=II true (JR (JJ xs k) ((dv xs).getD k 0)):=(by rw[<-zcO,hz];rfl);rw[hfz];refine⟨by rw[<-zcK,hz];exact⟨by omega,by omega,by omega,by omega⟩,by rw[hI,yf,yf];omega,zAr _,?_⟩;refine hag (_,(k:Int)+1+1) ⟨by simp only;omega,by simp only;omega,?_⟩ (by simp only;omega);simp only;rw[show((k:Int)+1+1-1).toNat=k+1 by omega,zhq,hI,uP]
  refine⟨fun h=>⟨by omega,by omega,fun h2=>?_,fun h2=>?_⟩,fun h=>?_⟩
  ·have hz:IntKind.wrap .i64 (xs.getD (k+1) 0-xs.getD k 0)=JJ xs k:=by
    have hkk:=zeT hb (i:=k) (by omega);have e:xs.getD (k+1) 0-xs.getD k 0=JJ xs k:=(by rw[JJ,if_neg (by omega)]);rw[e,zl (by omega) (by omega)]
   obtain⟨f1,f2,f3,f4⟩:=fin h _ hz;rw[zl (n:=(k:Int)+1+1) (by omega) (by omega)];exact⟨by omega,by omega,by omega,by omega,by omega,f1,f2,f3,f4⟩
  ·have hz:xs.getD (k+1) 0=JJ xs k:=by
    rw[JJ,if_pos (by omega)];omega
   obtain⟨f1,f2,f3,f4⟩:=fin h _ hz;rw[zl (n:=(k:Int)+1+1) (by omega) (by omega)];exact⟨by omega,by omega,by omega,f1,f2,f3,f4⟩
  ·rw[hr,e2,hI,zbT,show xs.length-1=k by omega]
 ·cases h
theorem zxx{xs:List Int}{k n:Nat}(h:((jE xs).take k++List.replicate n 1).length=k):(jE xs).take k++List.replicate n 1=qX xs k:=by
 apply yC;intro i;by_cases hi:i<k
 ·have h1:((jE xs).take k++List.replicate n 1).getD i 1=(jE xs).getD i 1:=by
   rw[ziY,zd,zae hi,<-zd]
  rw[qX,uz _ _ _ hi,<-h1,zd,zg (by omega)];rfl
 ·rw[zD (by omega),zD (by rw[ZT];omega)]
theorem zxv{l:List Int}{k:Nat}(x:Int)(h:(l.take k).length<k):l.take k++[x]=(l++[x]).take k:=by
 rw[yb]at h;rw[zG (by omega),zG (by simp;omega)]
theorem zxw{l:List Int}{k:Nat}(m:List Int)(h:¬(l.take k).length<k):l.take k=(l++m).take k:=by
 rw[yb]at h;rw[List.take_append_of_le_length (by omega)]
theorem zdc:yJ Tryz.prog 84 (zdr uc ZH):=by
 intro args ps r h hp;unfold zdr at h;split at h
 ·rename_i a0 a1;simp only[za,zb]at h;obtain⟨rfl,rfl⟩:=h;obtain⟨hq,k1,k2⟩:ZH a0 a1:=(zm.1 hp).1;have hqb:=hq;obtain⟨xs,hxs,hb⟩:=hq;have g1:V.frzs a0=a0:=by rw[hxs,zA]
  obtain⟨S,hS⟩:∃S,S=zbT xs:=⟨_,rfl⟩;obtain⟨ss,hss⟩:∃ss,ss=II true S:=⟨_,rfl⟩;have e1:zb3 a0=ss:=by rw[zb3,hxs,zr,hss,hS]
  have e2:uc a0 a1=I (qX xs a1.toNat):=by rw[uc,hxs,zr]
  have hsl:ss.length=S.length:=by rw[hss,yf]
  have hSl:S.length<=5000:=by
   have h1:=hb.len;have h2:=hb.pos;have:=zfP hb (xs.length-1) (by omega);rw[hS,zbT];omega
  have gss:∀k,ss.getD k (.slc true 2 (.int .i64 0) [])=.slc true 2 (.int .i64 0) (I (S.getD k [])):=fun k=>by rw[hss,qM]
  generalize zbl:zb3=zfz;generalize jQ:Yz=ZF;refine zI (T:=tab) (B:=[(120,znr zfz ZF)]) (Bi:=[]) [0,1,2,4,5,6,7,8] Tryz.func84 rfl rfl (by kernel_rfl) (ze rfl) mixed zR (by subst zbl jQ;exact(zn zgG zB)) (by subst zbl jQ;exact zy) (by kernel_rfl) ?_;intro L lp rr hL hr hf hlp
  conv=>cbv
  have hF:zfz a0=ss:=by rw[<-zbl,e1]
  simp only[zo hL,sQ,hF,g1];refine⟨by rw[<-jQ];exact hqb,?_⟩
  refine hlp (List V×Int) _ _ _ [1,5,6,7] (fun x=>[(1,none,.val (.int .i64 a1)),(5,none,.val (.slc true 2 (.int .i64 0) x.1)),(6,none,.val (.slc true 29 (.slc true 2 (.int .i64 0) []) ss)),(7,none,.val (.int .i64 x.2))])
   (fun x=>0<=x.2/\x.2<=S.length/\x.1=I ((jk (S.take x.2.toNat)).take a1.toNat)) (fun x=>(S.length-x.2).toNat) (([],0)) (by subst hL;rfl) ?_ ?_
  ·exact⟨by simp,by simp only;omega,by simp[jk,I]⟩
  rintro⟨es,i⟩ ⟨i0,i1,hI⟩ hfx ag hag;simp only at i0 i1 hI
  have hst:=zhK S i.toNat
  have hmem:=fun(h:i.toNat<S.length)=>zpM (xs:=xs) (xs.length-1) (S.getD i.toNat []) (by have:=zcx h;rwa [hS,zbT]at this ⊢);generalize hE:S.getD i.toNat []=E at hst hmem;have hl:es.length<=a1.toNat:=by rw[hI,zj,yb];omega
  conv=>cbv
  simp only[zo hL,sQ,hsl,gss,hE];refine⟨fun h=>?_,fun h=>?_⟩
  ·obtain⟨hEl,hE0,hE1⟩:=hmem (by omega);have hst':=hst (by omega);obtain⟨it,hit⟩:∃it,it=i.toNat:=⟨_,rfl⟩;simp only[<-hit]at hE hst' hI ⊢;have hti:it<S.length:=by omega
   have hEb:E.getD 0 0<=200000:=by
    have h1:jk S=jk (S.take (it+1))++jk (S.drop (it+1)):=by
     rw[jk,jk,jk,<-kz,kG]
    have h2:=congrArg List.length h1;have h3:=hb.pos;have h4:=hb.len;have h5:=zew hb (xs.length-1) (by omega);have h6:jk S=za7 xs (xs.length-1):=(by rw[hS,zbT,zea]);rw[h6,zq,hst',zq,zS]at h2;omega
   refine⟨by omega,by omega,hti,hti,by omega,by omega,hti,by omega,?_⟩
   refine hlp (List V×Int) _ _ _ [1,5,6,7,8] (fun x=>[(1,none,.val (.int .i64 a1)),(5,none,.val (.slc true 2 (.int .i64 0) x.1)),(6,none,.val (.slc true 29 (.slc true 2 (.int .i64 0) []) ss)),(7,none,.val (.int .i64 i)),(8,none,.val (.int .i64 x.2))])
    (fun x=>0<=x.2/\x.2<=E.getD 0 0/\x.1=I ((jk (S.take it)++List.replicate (E.getD 0 0-x.2).toNat (E.getD 1 0)).take a1.toNat)) (fun x=>x.2.toNat) ((es,E.getD 0 0)) (by subst hL;rfl) ?_ ?_
   ·exact⟨by simp only;omega,by simp,by simp[hI]⟩
   rintro⟨es2,q⟩ ⟨j0,j1,hI2⟩ hfx2 ag2 hag2;simp only at j0 j1 hI2;have hl2:es2.length<=a1.toNat:=by rw[hI2,zj,yb];omega
   conv=>cbv
   simp only[zo hL,sQ,hsl,gss,<-hit,hE];refine⟨fun hj=>?_,fun hj=>?_⟩
   ·rw[zl (n:=q-1) (by omega) (by omega)];refine⟨by omega,by omega,hti,hti,by omega,by omega,hti,by omega,qO _,by simp only[zi,zp];omega,yY _,?_⟩;refine hag2 (_,q-1) ⟨by simp only;omega,by simp only;omega,?_⟩ (by simp only;omega);simp only
    have hlt:((jk (S.take it)++List.replicate (E.getD 0 0-q).toNat (E.getD 1 0)).take a1.toNat).length<a1.toNat:=by
     have:=hj.2;rw[hI2,zj]at this;omega
    rw[show(E.getD 0 0-(q-1)).toNat=(E.getD 0 0-q).toNat+1 by omega,jb,<-zZ,<-zxv _ hlt,hI2,<-jY];rfl
   ·rw[zl (n:=i+1) (by omega) (by omega)];refine hag (_,i+1) ⟨by simp only;omega,by simp only;omega,?_⟩ (by simp only;omega);simp only[zF i0,<-hit];rw[hst',hI2];by_cases hq0:q=0
    ·rw[show(E.getD 0 0-q).toNat=(E.getD 0 0).toNat by omega]
    ·have hfl:¬((jk (S.take it)++List.replicate (E.getD 0 0-q).toNat (E.getD 1 0)).take a1.toNat).length<a1.toNat:=by
      have:=hj.resolve_left (by omega);rw[hI2,zj]at this;omega
     rw[zxw (List.replicate q.toNat (E.getD 1 0)) hfl,zZ,List.replicate_append_replicate,show(E.getD 0 0-q).toNat+q.toNat=(E.getD 0 0).toNat by omega]
  ·have hI':es=I ((jE xs).take a1.toNat):=by
    rw[hI,zG (l:=S) (by omega),hS,zbT,zea,jE]
   clear hst hmem hI
   refine hlp (List V×Nat) _ _ _ [1,5] (fun x=>[(1,none,.val (.int .i64 a1)),(5,none,.val (.slc true 2 (.int .i64 0) x.1))])
    (fun x=>x.1=I ((jE xs).take a1.toNat++List.replicate x.2 1)/\x.1.length<=a1.toNat) (fun x=>a1.toNat-x.1.length) ((es,0)) (by subst hL;rfl) ?_ ?_
   ·exact⟨by simp[hI'],hl⟩
   rintro⟨es2,n⟩ ⟨hI2,hl2⟩ hfx2 ag2 hag2;simp only at hI2 hl2
   conv=>cbv
   simp only[zo hL,sQ,];refine⟨fun h=>?_,fun h=>?_⟩
   ·(repeat' first|(exact yY _)|(exact jT rfl)|(exact qO _)|(apply And.intro)|(intro _))<;>(try first|exact True.intro|omega|rfl|(simp only[zi,zp,zj];omega))
    refine hag2 (_,n+1) ⟨?_,?_⟩ ?_
    ·simp only;rw[jb,<-zZ,<-jY,hI2];rfl
    ·simp only[zq,zi,zp];omega
    ·simp only[zq,zi,zp];omega
   ·rw[hr,e2,hI2,zxx (by rw[hI2,zj]at h hl2;omega)]
 ·cases h
end Go.Ax
namespace Go.Ax
open Go.Proofs
theorem zoy:∀(l:List Int) (d:Int) (i:Nat),i<l.length->(Zg d l).getD i 0=qZ (if i=0 then d else(Zg d l).getD (i-1) 0) (l.getD i 0)
 |[],_,i,h=>by simp at h
 |t::l,d,0,_=>rfl
 |t::l,d,1,h=>by
  have:=zoy l (qZ d t) 0 (by simpa using h);simpa [Zg]using this
 |t::l,d,i+2,h=>by
  have:=zoy l (qZ d t) (i+1) (by simp at h;omega);simpa [Zg]using this
theorem zso{a b:Int}(ha:0<a)(hb:0<b):qZ a b=(Nat.gcd a.toNat b.toNat:Int):=by
 rw[qZ,zcH ha,zcH hb,zhG _ a b (zt _) (by omega) (by omega)]
def ddN(xs:List Int)(i:Nat):Nat:=((dv xs).getD i 0).toNat
def kkN(xs:List Int)(i:Nat):Nat:=(JJ xs i).toNat
theorem zvt{xs:List Int}(h:Br xs){i:Nat}(hi:i+1<xs.length):ddN xs (i+1)=Nat.gcd (ddN xs i) (xs.getD (i+1) 0).toNat:=by
 have h1:=zoy xs 0 (i+1) hi;have h2:=h.dpos i (by omega);have h3:=h.low (i+1) hi;rw[if_neg (by omega),show i+1-1=i by omega]at h1;have h4:(dv xs).getD (i+1) 0=qZ ((dv xs).getD i 0) (xs.getD (i+1) 0):=h1;rw[zso (by omega) (by omega)]at h4;rw[ddN,h4,zW,ddN]
theorem zBQ{xs:List Int}(h:Br xs):∀{i:Nat},i<xs.length->ddN xs i ∣ (xs.getD i 0).toNat
 |0,_=>by rw[ddN,h.d0];exact Nat.dvd_refl _
 |i+1,hi=>by rw[zvt h hi];exact Nat.gcd_dvd_right _ _
theorem zCS{xs:List Int}(h:Br xs){i:Nat}(hi:i+1<xs.length):Nat.gcd (ddN xs i) (kkN xs i)=ddN xs (i+1):=by
 rw[zvt h hi,kkN,JJ];by_cases h0:i=0
 ·rw[if_pos h0];congr 1;omega
 ·rw[if_neg h0];obtain⟨c,hc⟩:=zBQ h (i:=i) (by omega);have h1:=h.up i hi;have h2:=h.low i (by omega);rw[show(xs.getD (i+1) 0).toNat=(xs.getD (i+1) 0-xs.getD i 0).toNat+ddN xs i*c by omega,Nat.mul_comm (ddN xs i) c,Nat.gcd_add_mul_right_right]
def blk(xs:List Int)(i:Nat):Nat->List (Nat×Nat)
 |0=>[]
 |n+1=>(kkN xs i,ddN xs i)::blk xs (i+1) n
theorem zjl{xs:List Int}(h:Br xs):∀(n i:Nat),i+n+1=xs.length->zq2 (ddN xs i) (blk xs i n)
 |0,i,hi=>by
  have:=h.dlast;rw[show xs.length-1=i by omega]at this;show ddN xs i=1;rw[ddN,this];rfl
 |n+1,i,hi=>by
  have:=h.dpos i (by omega);refine⟨rfl,by rw[ddN];omega,?_⟩;rw[zCS h (by omega)];exact zjl h n (i+1) (by omega)
def Zc(l:List Nat):List Int:=l.map fun(n:Nat)=>(n:Int)
theorem zvy(xs:List Int):∀(n i:Nat),Zc (JM (blk xs i n))=(List.range' i n).flatMap (zdE xs)
 |0,i=>rfl
 |n+1,i=>by
  have:=zvy xs n (i+1);rw[List.range'_succ,uA,<-this,blk,JM,Zc,List.map_append];rfl
def Yh(xs:List Int):List Nat:=JM (blk xs 0 (xs.length-1))
def mul(xs:List Int)(i:Nat):Nat:=(Yh xs).getD i 1
theorem zla(xs:List Int):jE xs=Zc (Yh xs):=by
 rw[Yh,zvy,jE,za7,List.range_eq_range']
theorem zex(xs:List Int)(i:Nat):(jE xs).getD i 1=mul xs i:=by
 rw[zla,Zc,mul,zd,zd,zN];cases (Yh xs)[i]? <;>rfl
theorem Yw{xs:List Int}(h:Br xs):GoodM (mul xs)/\mul xs 0<=64:=by
 have h1:=h.pos;have hc:=zjl h (xs.length-1) 0 (by omega);obtain⟨g1,g2,_⟩:=zkW _ _ hc;refine⟨zzS g1,qJ g2 ?_⟩;have:=h.dhi 0 h1;rw[ddN];omega
theorem Yg{xs:List Int}(h:Br xs):∀i,mul xs i<=64
 |0=>(Yw h).2
 |i+1=>qJ ((Yw h).1.fall i) (Yg h i)
theorem Kb(xs:List Int)(k:Nat):qX xs k=yI (fun i=>(mul xs i:Int)) k:=jd fun i _=>zex xs i
def prx(M:Nat->Nat)(i j:Nat):Bool:=decide (qy M i (j-i)<=M i)
def prs(M:Nat->Nat)(i j:Nat):List Nat:=(List.range (min i j)).filter fun a=>prx M a j
theorem zzs{M:Nat->Nat}{i j:Nat}(h:j<=i):prs M (i+1) j=prs M i j:=by
 rw[prs,prs,show min (i+1) j=min i j by omega]
theorem zcs{M:Nat->Nat}{i j:Nat}(h:i<j):prs M (i+1) j=prs M i j++(if qy M i (j-i)<=M i then[i]else[]):=by
 rw[prs,prs,show min (i+1) j=i+1 by omega,show min i j=i by omega,Ys,List.filter_append];congr 1;by_cases hp:qy M i (j-i)<=M i<;>simp[prx,hp]
theorem zlm{M:Nat->Nat}(h:GoodM M){i j j':Nat}(hij:i<j)(hj:j<=j')(hn:¬qy M i (j-i)<=M i):¬qy M i (j'-i)<=M i:=by
 by_cases e:j=j'
 ·subst e;exact hn
 ·have:=QE h i (k:=j-i) (k':=j'-i) (by omega);omega
def cd(M:Nat->Nat)(i j:Nat):Int:=match prs M (min i (j-1)) j with
 |[]=>0
 |a::_=>(j:Int)-a
theorem zBW{M:Nat->Nat}(h:GoodM M){i j:Nat}(hij:i+1<j)(hp:qy M i (j-i)<=M i):cd M (i+1) j=(j:Int)-i:=by
 have h1:prs M i j=[]:=by
  cases hh:prs M i j with
  |nil=>rfl
  |cons a l=>
   have ha:a∈prs M i j:=(by rw[hh];simp);simp only[prs,List.mem_filter,ka,prx,decide_eq_true_eq]at ha;exact absurd hp (zfS h (i:=a) (i':=i) (j:=j) (by omega) hij ha.2)
 rw[cd,show min (i+1) (j-1)=i+1 by omega,zcs (by omega),h1,if_pos hp];rfl
theorem zoC{M:Nat->Nat}{i j:Nat}(hp:¬(i+1<j/\qy M i (j-i)<=M i)):cd M (i+1) j=cd M i j:=by
 rw[cd,cd];by_cases hij:i+1<j
 ·rw[show min (i+1) (j-1)=i+1 by omega,show min i (j-1)=i by omega,zcs (by omega),if_neg (fun h=>hp ⟨hij,h⟩),yx]
 ·rw[show min (i+1) (j-1)=j-1 by omega,show min i (j-1)=j-1 by omega]
theorem zoD{M:Nat->Nat}(h:GoodM M){i j:Nat}(hj:1<=j)(hi:j<=i):cd M i j=if 1<(prs M j j).length then(j:Int)-((prs M j j).getD 0 0:Nat)else 0:=by
 obtain⟨j,rfl⟩:∃k,j=k+1:=⟨j-1,by omega⟩;have h1:=zcs (M:=M) (i:=j) (j:=j+1) (by omega);have h2:qy M j (j+1-j)<=M j:=zrE h j;rw[if_pos h2]at h1;rw[cd,show min i (j+1-1)=j by omega,h1]
 cases prs M j (j+1)with
 |nil=>simp
 |cons a l=>simp
theorem zmn{M M':Nat->Nat}{i:Nat}:∀{k:Nat},(∀t,t<=i+k->M t=M' t)->qy M i k=qy M' i k
 |0,_=>rfl
 |k+1,h=>by rw[qy,qy,zmn (fun t ht=>h t (by omega)),h _ (by omega)]
theorem zxM{M M':Nat->Nat}{i j:Nat}(h:∀t,t<=j->M t=M' t):prs M i j=prs M' i j:=by
 rw[prs,prs];apply List.filter_congr;intro a ha;have ha:=ka.1 ha;rw[prx,prx,zmn (fun t ht=>h t (by omega)),h a (by omega)]
def ofL(l:List Int)(i:Nat):Nat:=(l.getD i 1).toNat
theorem zxS(xs:List Int)(k i:Nat)(h:i<k):ofL (qX xs k) i=mul xs i:=by
 rw[ofL,Kb,jx _ _ _ _ h,zW]
def zd2(l:List Int):List (List Int):=yI (fun j=>Zc (prs (ofL l) j j)) l.length
theorem Je(xs:List Int)(k:Nat):zd2 (qX xs k)=yI (fun j=>Zc (prs (mul xs) j j)) k:=by
 rw[zd2,ZT];exact jd fun j hj=>by rw[zxM fun t ht=>zxS xs k t (by omega)]
def zhT(f:List V->List V)(q:List V->Prop):zK:=fun
 |[.slc false 2 (.int .i64 0) a0]=>some ([q a0],.slc true 29 (.slc true 2 (.int .i64 0) []) (f a0))
 |_=>none
def zeX(es:List V):List V:=II true (zd2 (yO es))
def zmH(es:List V):Prop:=∃xs k,Br xs/\es=I (qX xs k)/\k<=1000000
theorem zog(M:Nat->Nat)(i j:Nat):(prs M i j).length<=j:=by
 have:=List.length_filter_le (fun a=>prx M a j) (List.range (min i j));rw[List.length_range]at this;rw[prs];omega
theorem zq9{α:Type}(f:Nat->α){n i:Nat}(x:α)(h:i<n):(yI f n).set i x=yI (fun t=>if t=i then x else f t) n:=by
 apply yC;intro t;by_cases ht:t<n
 ·rw[uz _ _ _ ht];by_cases hti:t=i
  ·subst hti;rw[ud (by rw[yo];exact ht),if_pos rfl]
  ·rw[List.getElem?_set_ne (by omega),uz _ _ _ ht,if_neg hti]
 ·rw[zD (by rw[List.length_set,yo];omega),zD (by rw[yo];omega)]
theorem zdN:yJ Tryz.prog 80 (zhT zeX zmH):=by
 intro args ps r h hp;unfold zhT at h;split at h
 ·rename_i a0;simp only[za,zb]at h;obtain⟨rfl,rfl⟩:=h;obtain⟨xs,k,hb,hm,hk⟩:zmH a0:=(zm.1 hp).1;have al:a0.length=k:=by rw[hm,zj,ZT]
  have e1:zeX a0=II true (yI (fun j=>Zc (prs (mul xs) j j)) k):=by rw[zeX,hm,zr,Je]
  have ga:∀i,i<k->a0.getD i (.int .i64 0)=.int .i64 (mul xs i):=fun i hi=>by rw[hm,zE,Kb,jx _ _ _ _ hi]
  obtain⟨hg,_⟩:=Yw hb;have h64:=Yg hb;refine zI (T:=tab) (B:=[]) (Bi:=[]) [0,2,3,4,5,6,11,12] Tryz.func80 rfl rfl (by kernel_rfl) (ze rfl) mixed zR (by exact zB) (by exact zy) (by kernel_rfl) ?_;intro L lp rr hL hr hf hlp
  conv=>cbv
  simp only[zo hL,sQ,al];refine⟨by omega,by omega,by omega,?_⟩;obtain⟨K,hK⟩:∃K:Int,K=k:=⟨_,rfl⟩;rw[<-hK]
  refine hlp (List V×Int) _ _ _ [0,3,11,12] (fun x=>[(0,none,.val (.slc false 2 (.int .i64 0) a0)),(3,none,.val (.slc true 29 (.slc true 2 (.int .i64 0) []) x.1)),(11,none,.val (.int .i64 K)),(12,none,.val (.int .i64 x.2))])
   (fun x=>0<=x.2/\x.2<=k/\x.1=II true (yI (fun j=>Zc (prs (mul xs) x.2.toNat j)) k)) (fun x=>(k-x.2).toNat) ((_,0)) (by subst hL;rfl) ?_ ?_
  ·refine⟨by simp,by simp only;omega,?_⟩;simp only;rw[show K.toNat=k by omega,show(V.slc true 2 (.int .i64 0) [])=.slc true 2 (.int .i64 0) (I [])from rfl,<-zjt];congr 1;apply yC;intro t;by_cases ht:t<k
   ·rw[uz _ _ _ ht,jX,if_pos ht];simp[prs,Zc]
   ·rw[zD (by rw[zS];omega),zD (by rw[yo];omega)]
  rintro⟨es,i⟩ ⟨i0,i1,hI⟩ hfx ag hag;simp only at i0 i1 hI
  conv=>cbv
  simp only[zo hL,sQ,];obtain⟨n,hn⟩:∃n:Nat,n=i.toNat:=⟨i.toNat,rfl⟩;rw[<-hn]at hI;refine⟨fun h=>?_,fun h=>?_⟩
  ·rw[zl (n:=i+1) (by omega) (by omega)]
   refine hlp (List V×Int×Int) _ _ _ [0,3,4,5,6,11,12] (fun x=>[(0,none,.val (.slc false 2 (.int .i64 0) a0)),(3,none,.val (.slc true 29 (.slc true 2 (.int .i64 0) []) x.1)),(4,none,.val (.int .i64 i)),(5,none,.val (.int .i64 x.2.1)),(6,none,.val (.int .i64 x.2.2)),(11,none,.val (.int .i64 K)),(12,none,.val (.int .i64 i))])
    (fun x=>i+1<=x.2.2/\x.2.2<=k/\x.2.1=(qy (mul xs) n (x.2.2.toNat-(n+1)):Nat)/\x.2.1<=mul xs n/\x.1=II true (yI (fun t=>Zc (prs (mul xs) (if t<x.2.2.toNat then n+1 else n) t)) k)) (fun x=>(k-x.2.2).toNat) ((es,0,i+1)) (by subst hL;rfl) ?_ ?_
   ·refine⟨by simp,by simp only;omega,?_,?_,?_⟩
    ·simp only;rw[show(i+1).toNat-(n+1)=0 by omega];rfl
    ·simp only;omega
    ·simp only;rw[hI];congr 1;refine jd fun t _=>?_;split
     ·rw[zzs (by omega)]
     ·rfl
   rintro⟨es2,sm,j⟩ ⟨j0,j1,hS,hM,hI2⟩ hfx2 ag2 hag2;simp only at j0 j1 hS hM hI2;have hMn:=h64 n
   have hMj:=h64 j.toNat
   have hl2:es2.length=k:=(by rw[hI2,yf,yo]);have gn:=ga i.toNat (by omega);rw[<-hn]at gn
   have ge:es2.getD j.toNat (.slc true 2 (.int .i64 0) [])=.slc true 2 (.int .i64 0) (I (Zc (prs (mul xs) n j.toNat)))\/¬j.toNat<k:=by
    by_cases hj:j.toNat<k
    ·left;rw[hI2,qM,jx _ _ _ _ hj,if_neg (by omega)]
    ·exact .inr hj
   conv=>cbv
   simp only[zo hL,sQ,al,hl2,<-hn,gn];refine⟨fun hj=>?_,fun hj=>?_⟩
   ·have gj:=ga j.toNat (by omega);have ge:=ge.resolve_right (by omega)
    have hs1:qy (mul xs) n (j.toNat-n)=qy (mul xs) n (j.toNat-(n+1))+mul xs j.toNat:=by
     rw[show j.toNat-n=(j.toNat-(n+1))+1 by omega,qy,show n+1+(j.toNat-(n+1))=j.toNat by omega]
    simp only[zo hL,sQ,gj,ge,List.length_set,hl2];rw[zl (n:=sm+mul xs j.toNat) (by omega) (by omega),zl (n:=j+1) (by omega) (by omega),zl (n:=i+1) (by omega) (by omega)];refine⟨by omega,by omega,by omega,by omega,fun hlt=>?_,fun hge=>?_⟩
    ·refine hag (_,i+1) ⟨by simp only;omega,by simp only;omega,?_⟩ (by simp only;omega);simp only;rw[show(i+1).toNat=n+1 by omega,hI2];congr 1;refine jd fun t _=>?_;split
     ·rfl
     ·rename_i htj;rw[zcs (by omega),if_neg (zlm hg (j:=j.toNat) (by omega) (by omega) (by omega)),yx]
    ·have hpl:=zog (mul xs) n j.toNat
     refine⟨by omega,by omega,by omega,by omega,qO _,by rw[Zc,zQ];simp only[zi,zp];omega,yY _,by omega,by omega,by omega,?_,?_⟩
     ·rw[zd,ud (by omega)];exact .inr ⟨.slc true 2 (.int .i64 0) [],rfl,rfl,rfl⟩
     ·refine hag2 (_,_,j+1) ⟨by simp only;omega,by simp only;omega,?_,by simp only;omega,?_⟩ (by simp only;omega)
      ·simp only;rw[show(j+1).toNat-(n+1)=j.toNat-n by omega,hs1,hS,zgf]
      ·simp only
       have e:I (Zc (prs (mul xs) n j.toNat))++[V.int .i64 i]=I (Zc (prs (mul xs) (n+1) j.toNat)):=by
        rw[zcs (by omega),if_pos (by omega),Zc,Zc,List.map_append,show i=(n:Int) by omega,<-jY];rfl
       rw[e,List.set_set,hI2,znH,zq9 _ _ (by omega)];congr 1;refine jd fun t _=>?_
       by_cases htj:t=j.toNat
       ·rw[if_pos htj,if_pos (by omega),htj]
       ·rw[if_neg htj]
        by_cases htl:t<j.toNat
        ·rw[if_pos htl,if_pos (by omega)]
        ·rw[if_neg htl,if_neg (by omega)]
   ·rw[zl (n:=i+1) (by omega) (by omega)];refine hag (_,i+1) ⟨by simp only;omega,by simp only;omega,?_⟩ (by simp only;omega);simp only;rw[show(i+1).toNat=n+1 by omega,hI2];congr 1;refine jd fun t ht=>?_;rw[if_pos (by omega)]
  ·rw[hr,e1,hI,show n=k by omega];congr 2;refine jd fun t ht=>?_;rw[prs,prs,show min k t=min t t by omega]
 ·cases h
def zg3(xss:List (List Int))(j:Nat):Int:=if 1<(xss.getD (j+1) []).length then(j:Int)+1-(xss.getD (j+1) []).getD 0 0 else 0
def znp(xss:List (List Int)):List Int:=yI (zg3 xss) (xss.length-1)
def zxa(f:List V->List V)(q:List V->Prop):zK:=fun
 |[.slc false 29 (.slc false 2 (.int .i64 0) []) a0]=>some ([q a0],.slc true 2 (.int .i64 0) (f a0))
 |_=>none
def zi6(es:List V):List V:=I (znp (qS es))
def zmK(es:List V):Prop:=∃xss,es=II false xss/\1<=xss.length/\xss.length<=1000000/\∀j,j<xss.length->0<=(xss.getD j []).getD 0 0/\(xss.getD j []).getD 0 0<=1000000
theorem zqz:yJ Tryz.prog 50 (zxa zi6 zmK):=by
 intro args ps r h hp;unfold zxa at h;split at h
 ·rename_i a0;simp only[za,zb]at h;obtain⟨rfl,rfl⟩:=h;obtain⟨xss,hx,n1,n2,hb⟩:zmK a0:=(zm.1 hp).1;have al:a0.length=xss.length:=by rw[hx,yf]
  have e1:zi6 a0=I (znp xss):=by rw[zi6,hx,yq]
  have ga:∀i,a0.getD i (.slc false 2 (.int .i64 0) [])=.slc false 2 (.int .i64 0) (I (xss.getD i [])):=fun i=>by rw[hx,qM]
  refine zI (T:=tab) (B:=[]) (Bi:=[]) [0,2,3,4,5] Tryz.func50 rfl rfl (by kernel_rfl) (ze rfl) mixed zR (by exact zB) (by exact zy) (by kernel_rfl) ?_;intro L lp rr hL hr hf hlp
  conv=>cbv
  refine hlp (List V×Int) _ _ _ [0,3,4] (fun x=>[(0,none,.val (.slc false 29 (.slc false 2 (.int .i64 0) []) a0)),(3,none,.val (.slc true 2 (.int .i64 0) x.1)),(4,none,.val (.int .i64 x.2))])
   (fun x=>1<=x.2/\x.2<=xss.length/\x.1=I (yI (zg3 xss) (x.2-1).toNat)) (fun x=>(xss.length-x.2).toNat) (([],1)) (by subst hL;rfl) ?_ ?_
  ·exact⟨by simp,by simp only;omega,rfl⟩
  rintro⟨es,i⟩ ⟨i0,i1,hI⟩ hfx ag hag;simp only at i0 i1 hI;have hel:es.length=(i-1).toNat:=by rw[hI,zj,yo]
  conv=>cbv
  obtain⟨E,hE⟩:∃E,E=xss.getD i.toNat []:=⟨_,rfl⟩;simp only[zo hL,sQ,al,ga,<-hE,zoj]
  have hco:zg3 xss (i-1).toNat=if 1<E.length then i-E.getD 0 0 else 0:=by
   rw[zg3,show(i-1).toNat+1=i.toNat by omega,<-hE,show((i-1).toNat:Int)+1=i by omega]
  have fin:∀z,i<xss.length->z=zg3 xss (i-1).toNat->ag (ZS [0,3,4] [(0,none,.val (.slc false 29 (.slc false 2 (.int .i64 0) []) a0)),(3,none,.val (.slc true 2 (.int .i64 0) (es++[V.int .i64 z]))),(4,none,.val (.int .i64 (i+1)))]):=by
   intro z h hz;refine hag (_,i+1) ⟨by simp only;omega,by simp only;omega,?_⟩ (by simp only;omega);simp only;rw[show(i+1-1).toNat=(i-1).toNat+1 by omega,JX,hI,<-jY,hz];rfl
  refine⟨fun h=>?_,fun h=>?_⟩
  ·have hbb:=hb i.toNat (by omega);rw[<-hE]at hbb;rw[zl (n:=i+1) (by omega) (by omega)];have hes:=hel;refine⟨by omega,h,fun h2=>?_,fun h2=>?_⟩
   ·rw[zl (n:=i-E.getD 0 0) (by omega) (by omega)];refine⟨by omega,h,by omega,by omega,qO _,by simp only[zi,zp];omega,yY _,?_⟩;exact fin _ h (by rw[hco,if_pos (by omega)])
   ·refine⟨qO _,by simp only[zi,zp];omega,yY _,?_⟩;exact fin _ h (by rw[hco,if_neg (by omega)])
  ·rw[hr,e1,hI,znp,show(i-1).toNat=xss.length-1 by omega]
 ·cases h
def jR(xs:List Int)(k:Nat):List Int:=yI (fun j=>cd (mul xs) (j+1) (j+1)) (k-1)
theorem ziR(l:List Nat)(i:Nat):(Zc l).getD i 0=(l.getD i 0:Nat):=by
 rw[Zc,zd,zd,zN];cases l[i]? <;>rfl
theorem zw7{xs:List Int}(h:Br xs)(k:Nat):znp (zd2 (qX xs k))=jR xs k:=by
 rw[Je,znp,jR,yo];refine jd fun j hj=>?_;rw[zg3,jx _ _ _ _ (by omega),zoD (Yw h).1 (by omega) (by omega),ziR,Zc,zQ,zgf];rfl
theorem zmN{M:Nat->Nat}{i j:Nat}:∀a∈prs M i j,a<j:=by
 intro a ha;simp only[prs,List.mem_filter,ka]at ha;omega
theorem zAY(M:Nat->Nat)(i j:Nat):0<=cd M i j/\cd M i j<=j:=by
 rw[cd];split
 ·omega
 ·rename_i a l h;have:=zmN a (by rw[h];simp);omega
theorem zur(xs:List Int){k:Nat}(h1:1<=k)(h2:k<=1000000):zmK (II false (zd2 (qX xs k))):=by
 refine⟨_,rfl,?_,?_,?_⟩
 ·rw[Je,yo];exact h1
 ·rw[Je,yo];exact h2
 ·intro j hj;rw[Je,yo]at hj;rw[Je,jx _ _ _ _ hj,ziR]
  cases hh:prs (mul xs) j j with
  |nil=>simp
  |cons a l=>
   have:=zmN a (by rw[hh];simp:a∈prs (mul xs) j j);simp;omega
def cdP(xs:List Int)(i:Nat)(k:Nat):List Int:=yI (fun t=>cd (mul xs) i (t+1)) (k-1)
def Kq(es:List V)(k:Int):List V:=I (jR (yO es) k.toNat)
theorem zgF:yJ Tryz.prog 85 (zdr Kq ZH):=by
 intro args ps r h hp;unfold zdr at h;split at h
 ·rename_i a0 a1;simp only[za,zb]at h;obtain⟨rfl,rfl⟩:=h;obtain⟨hq,k1,k2⟩:ZH a0 a1:=(zm.1 hp).1;have hqb:=hq;obtain⟨xs,hxs,hb⟩:=hq;have g1:V.frzs a0=a0:=by rw[hxs,zA]
  obtain⟨k,hk⟩:∃k:Nat,k=a1.toNat:=⟨_,rfl⟩;obtain⟨ms,hms⟩:∃ms,ms=I (qX xs k):=⟨_,rfl⟩;have e1:uc a0 a1=ms:=by rw[uc,hxs,zr,hms,hk]
  have e2:Kq a0 a1=I (jR xs k):=by rw[Kq,hxs,zr,hk]
  have ml:ms.length=k:=by rw[hms,zj,ZT]
  have gm:∀i,i<k->ms.getD i (.int .i64 0)=.int .i64 (mul xs i):=fun i hi=>by rw[hms,zE,Kb,jx _ _ _ _ hi]
  obtain⟨hg,_⟩:=Yw hb;have h64:=Yg hb;generalize kg:uc=uQ;generalize qC:ZH=kR;refine zI (T:=tab) (B:=[(84,zdr uQ kR)]) (Bi:=[]) [0,1,2,4,5,6,7,8,9] Tryz.func85 rfl rfl (by kernel_rfl) (ze rfl) mixed zR (by subst kg qC;exact(zn zdc zB)) (by subst kg qC;exact zy) (by kernel_rfl) ?_;intro L lp rr hL hr hf hlp
  conv=>cbv
  have hF:uQ a0 a1=ms:=by rw[<-kg,e1]
  simp only[zo hL,sQ,hF,g1];have w0:IntKind.wrap .i64 (a1-1)=a1-1:=zl (by omega) (by omega);rw[w0];refine⟨by omega,by omega,by omega,by rw[<-qC];exact⟨hqb,k1,k2⟩,?_⟩
  refine hlp (List V×Int) _ _ _ [1,5,6,7] (fun x=>[(1,none,.val (.int .i64 a1)),(5,none,.val (.slc true 2 (.int .i64 0) x.1)),(6,none,.val (.slc true 2 (.int .i64 0) ms)),(7,none,.val (.int .i64 x.2))])
   (fun x=>0<=x.2/\x.2<=k/\x.1=I (cdP xs x.2.toNat k)) (fun x=>(k-x.2).toNat) ((_,0)) (by subst hL;rfl) ?_ ?_
  ·refine⟨by simp,by simp only;omega,?_⟩;simp only;rw[show(a1-1).toNat=k-1 by omega];apply yC;intro t;by_cases ht:t<k-1
   ·rw[jX,if_pos ht,I,zN,cdP,uz _ _ _ ht];simp[cd,prs]
   ·rw[zD (by rw[zS];omega),zD (by rw[zj,cdP,yo];omega)]
  rintro⟨es,i⟩ ⟨i0,i1,hI⟩ hfx ag hag;simp only at i0 i1 hI
  conv=>cbv
  simp only[zo hL,sQ,];obtain⟨n,hn⟩:∃n:Nat,n=i.toNat:=⟨i.toNat,rfl⟩;rw[<-hn]at hI;refine⟨fun h=>?_,fun h=>?_⟩
  ·rw[zl (n:=i+1) (by omega) (by omega)]
   refine hlp (List V×Int×Int) _ _ _ [1,5,6,7,8,9] (fun x=>[(1,none,.val (.int .i64 a1)),(5,none,.val (.slc true 2 (.int .i64 0) x.1)),(6,none,.val (.slc true 2 (.int .i64 0) ms)),(7,none,.val (.int .i64 i)),(8,none,.val (.int .i64 x.2.1)),(9,none,.val (.int .i64 x.2.2))])
    (fun x=>i+1<=x.2.2/\x.2.2<=k/\x.2.1=(qy (mul xs) n (x.2.2.toNat-(n+1)):Nat)/\x.2.1<=mul xs n/\x.1=I (yI (fun t=>cd (mul xs) (if t+1<x.2.2.toNat then n+1 else n) (t+1)) (k-1))) (fun x=>(k-x.2.2).toNat) ((es,0,i+1)) (by subst hL;rfl) ?_ ?_
   ·refine⟨by simp,by simp only;omega,?_,?_,?_⟩
    ·simp only;rw[show(i+1).toNat-(n+1)=0 by omega];rfl
    ·simp only;omega
    ·simp only;rw[hI,cdP];congr 1;refine jd fun t _=>?_;split
     ·rw[zoC (by omega)]
     ·rfl
   rintro⟨es2,sm,j⟩ ⟨j0,j1,hS,hM,hI2⟩ hfx2 ag2 hag2;simp only at j0 j1 hS hM hI2;have hMn:=h64 n
   have hMj:=h64 j.toNat
   have hl2:es2.length=k-1:=(by rw[hI2,zj,yo]);have gn:=gm i.toNat (by omega);rw[<-hn]at gn;have ge:∀t,es2.getD t (.int .i64 0)=.int .i64 ((yO es2).getD t 0):=fun t=>by rw[hI2,zE,zr]
   conv=>cbv
   simp only[zo hL,sQ,ml,hl2,<-hn,gn];refine⟨fun hj=>?_,fun hj=>?_⟩
   ·have gj:=gm j.toNat (by omega)
    have hs1:qy (mul xs) n (j.toNat-n)=qy (mul xs) n (j.toNat-(n+1))+mul xs j.toNat:=by
     rw[show j.toNat-n=(j.toNat-(n+1))+1 by omega,qy,show n+1+(j.toNat-(n+1))=j.toNat by omega]
    simp only[zo hL,sQ,gj,ge];rw[zl (n:=sm+mul xs j.toNat) (by omega) (by omega),zl (n:=j+1) (by omega) (by omega),zl (n:=i+1) (by omega) (by omega),zl (n:=j-1) (by omega) (by omega),zl (n:=j-i) (by omega) (by omega)]
    have nxt:sm+mul xs j.toNat=(qy (mul xs) n ((j+1).toNat-(n+1)):Nat):=by
     rw[show(j+1).toNat-(n+1)=j.toNat-n by omega,hs1,hS,zgf]
    refine⟨by omega,by omega,by omega,by omega,by omega,by omega,fun hlt=>?_,fun hge=>⟨fun h3=>?_,fun h3=>?_⟩⟩
    ·refine hag (_,i+1) ⟨by simp only;omega,by simp only;omega,?_⟩ (by simp only;omega);simp only;rw[show(i+1).toNat=n+1 by omega,hI2,cdP];congr 1;refine jd fun t _=>?_;split
     ·rfl
     ·rename_i htj;rw[zoC];rintro⟨h5,h6⟩;exact zlm hg (j:=j.toNat) (j':=t+1) (by omega) (by omega) (by omega) h6
    ·refine⟨by omega,by omega,by omega,?_⟩;refine hag2 (_,_,j+1) ⟨by simp only;omega,by simp only;omega,nxt,by simp only;omega,?_⟩ (by simp only;omega);simp only;have hc:=zBW hg (i:=n) (j:=j.toNat) (by omega) (by omega);rw[hI2,JB,zBa];congr 1;refine jd fun t _=>?_
     by_cases htj:t=(j-1).toNat
     ·rw[if_pos htj,if_pos (by omega),show t+1=j.toNat by omega,hc];omega
     ·rw[if_neg htj]
      by_cases htl:t+1<j.toNat
      ·rw[if_pos htl,if_pos (by omega)]
      ·rw[if_neg htl,if_neg (by omega)]
    ·refine hag2 (_,_,j+1) ⟨by simp only;omega,by simp only;omega,nxt,by simp only;omega,?_⟩ (by simp only;omega);simp only;rw[hI2];congr 1;refine jd fun t _=>?_
     by_cases htl:t+1<j.toNat
     ·rw[if_pos htl,if_pos (by omega)]
     ·rw[if_neg htl]
      by_cases htl2:t+1<(j+1).toNat
      ·rw[if_pos htl2,zoC (by omega)]
      ·rw[if_neg htl2]
   ·rw[zl (n:=i+1) (by omega) (by omega)];refine hag (_,i+1) ⟨by simp only;omega,by simp only;omega,?_⟩ (by simp only;omega);simp only;rw[show(i+1).toNat=n+1 by omega,hI2,cdP];congr 1;refine jd fun t ht=>?_;rw[if_pos (by omega)]
  ·rw[hr,e2,hI,show n=k by omega,jR,cdP];congr 2;refine jd fun t ht=>?_;rw[cd,cd,show min k (t+1-1)=min (t+1) (t+1-1) by omega]
 ·cases h
end Go.Ax
namespace Go.Ax
open Go.Proofs
def KG(m:Int):Int:=(m*(m-1)).tdiv 2
def jI:List Int->Int
 |[]=>0
 |m::l=>KG m+jI l
theorem zkU:∀a b:List Int,jI (a++b)=jI a+jI b
 |[],b=>by simp[jI]
 |x::a,b=>by simp only[List.cons_append,jI,zkU a b];omega
theorem zxr{m:Int}(h1:1<=m)(h2:m<=64):0<=m*(m-1)/\m*(m-1)<=4032/\0<=KG m/\KG m<=2016:=by
 have k1:0<=m*(m-1):=Int.mul_nonneg (by omega) (by omega);have k2:m*(m-1)<=64*63:=Int.mul_le_mul h2 (by omega) (by omega) (by omega);refine⟨k1,by omega,?_,?_⟩
 ·rw[KG,Kl k1];omega
 ·rw[KG,Kl k1];omega
def Low(l:List Int):Prop:=∀m∈l,1<=m/\m<=64
theorem zoz:∀l:List Int,Low l->0<=jI l/\jI l<=2016*l.length
 |[],_=>by simp[jI]
 |m::l,h=>by
  have h1:=zxr (h m (by simp)).1 (h m (by simp)).2;have h2:=zoz l (fun x hx=>h x (by simp[hx]));simp only[jI,zi];omega
theorem Low.take{l:List Int}(h:Low l)(n:Nat):Low (l.take n):=fun m hm=>h m (List.mem_of_mem_take hm)
theorem zf2(l:List Int)(i:Nat)(h:i<l.length):jI (l.take (i+1))=jI (l.take i)+KG (l.getD i 0):=by
 rw[zP h,zkU,zd,zg h];simp[jI]
theorem Low.at{l:List Int}(h:Low l){i:Nat}(hi:i<l.length):1<=l.getD i 0/\l.getD i 0<=64:=by
 rw[zd,zg hi];exact h _ (List.getElem_mem hi)
theorem zBd{xs:List Int}(h:Br xs):Low (YG xs):=by
 intro m hm;obtain⟨i,hi,rfl⟩:=qK.1 hm;have h1:=zuQ xs i;rw[zex,zd,zg hi,Option.getD_some]at h1;rw[h1];have h2:=Yg h i;have h3:=(Yw h).1.pos i;omega
def zek(f:List V->Int)(q:List V->Prop):zK:=fun
 |[.slc false 2 (.int .i64 0) a0]=>some ([q a0],.int .i64 (f a0))
 |_=>none
def KT(a:List V):Int:=jI (yO a)
def zww(a:List V):Prop:=∃l,a=I l/\l.length<=200000/\Low l
theorem zn9:yJ Tryz.prog 57 (zek KT zww):=by
 intro args ps r h hp;unfold zek at h;split at h
 ·rename_i a0;simp only[za,zb]at h;obtain⟨rfl,rfl⟩:=h;obtain⟨xs,hxs,hl,hlow⟩:zww a0:=(zm.1 hp).1;have hxl:a0.length=xs.length:=by rw[hxs,zj]
  have hf0:KT a0=jI xs:=by rw[KT,hxs,zr]
  have gx:∀i,a0.getD i (.int .i64 0)=.int .i64 (xs.getD i 0):=fun i=>by rw[hxs,zE]
  obtain⟨n,hn⟩:∃n:Int,n=xs.length:=⟨_,rfl⟩;refine zI (T:=tab) (B:=[]) (Bi:=[]) [0,2,3,5,6,7,8] Tryz.func57 rfl rfl (by kernel_rfl) (ze rfl) mixed zR (by exact zB) (by exact zy) (by kernel_rfl) ?_;intro L lp rr hL hr hf hlp
  conv=>cbv
  refine hlp (Int×Int) _ _ _ [3,6,7,8] (fun x=>[(3,none,.val (.int .i64 x.1)),(6,none,.val (.slc false 2 (.int .i64 0) a0)),(7,none,.val (.int .i64 n)),(8,none,.val (.int .i64 x.2))])
   (fun x=>0<=x.2/\x.2<=n/\x.1=jI (xs.take x.2.toNat)) (fun x=>(n-x.2).toNat) ((0,0)) (by subst hL;rw[hn,<-hxl];rfl) ?_ ?_
  ·exact⟨by simp,by simp only;omega,rfl⟩
  rintro⟨s,i⟩ ⟨i0,i1,hI⟩ hfx ag hag;simp only at i0 i1 hI
  conv=>cbv
  simp only[zo hL,sQ,hxl,gx];refine⟨fun h2=>⟨i0,by omega,by omega,?_⟩,fun h2=>?_⟩
  ·have hil:i.toNat<xs.length:=(by omega);obtain⟨m,hm⟩:∃m,m=xs.getD i.toNat 0:=⟨_,rfl⟩;have hmb:=hlow.at hil;rw[<-hm]at hmb;have ht:=zxr hmb.1 hmb.2;have hd:=zoz _ (hlow.take i.toNat);have hdl:(xs.take i.toNat).length=i.toNat:=(by rw[yb];omega);rw[hdl,<-hI]at hd;have e3:jI (xs.take (i.toNat+1))=s+KG m:=(by rw[zf2 _ _ hil,<-hI,hm]);rw[<-hm,zl (n:=m-1) (by omega) (by omega),zl (n:=m*(m-1)) (by omega) (by omega)];rw[show(m*(m-1)).tdiv 2=KG m from rfl,zl (n:=KG m) (by omega) (by omega),zl (n:=s+KG m) (by omega) (by omega),zl (n:=i+1) (by omega) (by omega)];refine hag (s+KG m,i+1) ⟨by simp only;omega,by simp only;omega,?_⟩ (by simp only;omega);simp only[zF i0];exact e3.symm
  ·rw[hr,hf0,hI,zG (by omega)]
 ·cases h
theorem zot(S:List (List Int))(i:Nat):(jk (S.take i)).length<=(jk S).length:=by
 conv=>rhs;rw[<-kG i S]
 rw[jk,jk,kz,zq];omega
theorem zkP(xs:List Int):jk (zbT xs)=jE xs:=zea xs _
theorem zz2(xs:List Int):jI (YG xs)=jI (jE xs):=by
 rw[YG];split
 ·rename_i h;rw[jE,h];simp[za7,jI,KG]
 ·rfl
theorem zrk{xs:List Int}(h:Br xs):(jE xs).length<=200000:=by
 have h1:=h.len;have h2:=h.pos;have:=zew h (xs.length-1) (by omega);rw[jE];omega
theorem zzc{xs:List Int}(h:Br xs):Low (jE xs):=by
 intro m hm;obtain⟨i,hi,rfl⟩:=qK.1 hm;have h1:=zex xs i;rw[zd,zg hi,Option.getD_some]at h1;rw[h1];have h2:=Yg h i;have h3:=(Yw h).1.pos i;omega
def zqY(f:List V->Int)(q:List V->Prop):zK:=fun
 |[.agg [.slc false 2 (.int .i64 0) a0]]=>some ([q a0],.int .i64 (f a0))
 |_=>none
theorem zDw{a b:Nat}(ha:0<a)(hb:0<b):1<=(ex a b).length:=by
 rw[kL hb,zq,zS];by_cases h:a/b=0
 ·have hab:a<b:=(Nat.div_eq_zero_iff.1 h).resolve_left (by omega);rw[Nat.mod_eq_of_lt hab,kL ha,zq,zS];have:1<=b/a:=Nat.div_pos (by omega) ha;omega
 ·have:1<=a/b:=Nat.one_le_iff_ne_zero.2 h;omega
theorem zBi{xs:List Int}(h:Br xs)(h1:xs.length≠1):1<=(jE xs).length:=by
 have hp:=h.pos;obtain⟨n,hn⟩:∃n,xs.length-1=n+1:=⟨xs.length-2,by omega⟩;rw[jE,hn,zfG,zq];have k1:=zeT h (i:=n) (by omega);have k2:=h.dpos n (by omega);have:=zDw (a:=(JJ xs n).toNat) (b:=((dv xs).getD n 0).toNat) (by omega) (by omega);rw[zdE,exI,zQ];omega
theorem zms{xs:List Int}(h:Br xs):((YG xs).length:Int)=max ((jE xs).length:Int) 1:=by
 rw[YG];split
 ·rename_i h1;rw[jE,h1];simp only[za7,List.range_zero,YU,Nat.sub_self,zp,zi];omega
 ·rename_i h1;have:=zBi h h1;omega
def zf1(a:List V):Int:=(YG (yO a)).length
theorem zou{S:List (List Int)}{i:Nat}(hi:i<S.length)(h0:0<=(S.getD i []).getD 0 0):((jk (S.take (i+1))).length:Int)=(jk (S.take i)).length+(S.getD i []).getD 0 0:=by
 rw[zhK S i hi,zq,zS];omega
theorem zfJ:yJ Tryz.prog 87 (zqY zf1 Yz):=by
 intro args ps r h hp;unfold zqY at h;split at h
 ·rename_i a0;simp only[za,zb]at h;obtain⟨rfl,rfl⟩:=h;have hq:Yz a0:=(zm.1 hp).1;obtain⟨xs,hxs,hb⟩:=id hq;have g1:V.frzs a0=a0:=by rw[hxs,zA]
  have hf0:zf1 a0=(YG xs).length:=by rw[zf1,hxs,zr]
  obtain⟨S,hS⟩:∃S,S=zbT xs:=⟨_,rfl⟩;obtain⟨vs,hvs⟩:∃vs,vs=II true S:=⟨_,rfl⟩;have e1:zb3 a0=vs:=by rw[zb3,hxs,zr,hvs,hS]
  have hsl:S.length<=4096:=by
   have:=zfP hb (xs.length-1) (by have:=hb.pos;omega);have:=hb.len;rw[hS,zbT];omega
  have vl:vs.length=S.length:=by rw[hvs,yf]
  have gs:∀k,vs.getD k (.slc true 2 (.int .i64 0) [])=.slc true 2 (.int .i64 0) (I (S.getD k [])):=fun k=>by rw[hvs,qM]
  have hS0:∀i,i<S.length->(S.getD i []).length=2/\0<=(S.getD i []).getD 0 0:=fun i hi=>by
   have hm:=zcx hi;rw[hS]at hm ⊢;have h1:=zpM _ _ hm;exact⟨h1.1,h1.2.1⟩
  have hlen:∀i,(jk (S.take i)).length<=200000:=fun i=>by
   have h1:=zot S i;have h2:(jk S).length<=200000:=(by rw[hS,zkP];exact zrk hb);omega
  generalize zbl:zb3=zfz;generalize jQ:Yz=ZF;refine zI (T:=tab) (B:=[(120,znr zfz ZF)]) (Bi:=[]) [0,1,2,3,4,5] Tryz.func87 rfl rfl (by kernel_rfl) (ze rfl) mixed zR (by subst zbl jQ;exact(zn zgG zB)) (by subst zbl jQ;exact zy) (by kernel_rfl) ?_;intro L lp rr hL hr hf hlp
  conv=>cbv
  have F1:zfz a0=vs:=by rw[<-zbl,e1]
  simp only[zo hL,sQ,g1,F1];refine⟨by rw[<-jQ];exact hq,?_⟩
  refine hlp (Int×Int) _ _ _ [3,4,5] (fun x=>[(3,none,.val (.slc true 29 (.slc true 2 (.int .i64 0) []) vs)),(4,none,.val (.int .i64 x.1)),(5,none,.val (.int .i64 x.2))])
   (fun x=>0<=x.2/\x.2<=S.length/\x.1=(jk (S.take x.2.toNat)).length) (fun x=>(S.length-x.2).toNat) ((0,0)) (by subst hL;rfl) ?_ ?_
  ·exact⟨by simp,by simp,rfl⟩
  rintro⟨s,i⟩ ⟨i0,i1,hI⟩ hfx ag hag;simp only at i0 i1 hI
  conv=>cbv
  simp only[zo hL,sQ,vl,gs];refine⟨fun h2=>?_,fun h2=>?_⟩
  ·have hil:i.toNat<S.length:=(by omega);have hst:=zou hil (hS0 _ hil).2;obtain⟨r,hR⟩:∃r,r=S.getD i.toNat []:=⟨_,rfl⟩;have hr0:=hS0 _ hil;rw[<-hR]at hr0 hst ⊢
   have hl1:=hlen i.toNat
   have hl2:=hlen (i.toNat+1);have hrl:=hr0.1;rw[zl (n:=s+r.getD 0 0) (by omega) (by omega),zl (n:=i+1) (by omega) (by omega)]
   (repeat' first|(exact yY _)|(exact jT rfl)|(exact qO _)|(apply And.intro)|(intro _))<;>(try first|exact True.intro|omega|rfl|(simp only[zi,zp,zj];omega))
   refine hag (s+r.getD 0 0,i+1) ⟨by simp only;omega,by simp only;omega,?_⟩ (by simp only;omega);simp only[zF i0];omega
  ·rw[hr,hf0,hI,zG (by omega),hS,zkP,zms hb]
 ·cases h
end Go.Ax
namespace Go.Ax
open Go.Proofs
section
variable {xs:List Int}
def zA0(xs:List Int):Nat->Int
 |0=>0
 |n+1=>zA0 xs n+JJ xs n*(dv xs).getD n 0
end
end Go.Ax
namespace Go.Ax
open Go.Proofs
def U8(xs:List Int):List V:=xs.map (.int .u8)
theorem zcI(xs:List Int)(i:Nat):(U8 xs).getD i (.int .u8 0)=.int .u8 (xs.getD i 0):=by
 simp only[U8,zd,zN];cases xs[i]? <;>rfl
def IsU(es:List V):Prop:=∃xs:List Int,es=U8 xs/\(∀x∈xs,0<=x/\x<=255)/\xs.length<=4096
def nxH(h:Int):Int:=IntKind.u64.wrap (IntKind.u64.wrap (h*6364136223846793005)+1442695040888963407)
def nxX(h:Int):Int:=IntKind.i64.wrap (zcd .u64 (zeu .u64 (nxH h) 33) 16777215)
theorem zyB(a:Int):0<=zcd .u64 a 16777215/\zcd .u64 a 16777215<=16777215:=by
 have h:(BitVec.ofInt IntKind.u64.bits a&&&BitVec.ofInt IntKind.u64.bits 16777215).toNat<=16777215:=by
  rw[BitVec.toNat_and];exact qJ Nat.and_le_right (by decide)
 rw[zcd,IntWalk.u64_in _ ⟨by omega,by omega⟩];omega
def jo(es:List V)(a h n:Int):Int:=if n<1 then 0 else(if a<es.length then IntKind.i64.wrap (nxX h+IntKind.i64.wrap ((es.getD a.toNat (.int .u8 0)).toI))else nxX h).tmod n
def jK(es:List V)(a _ n:Int):Int:=if n<1 then a else if a<es.length then a+1 else a
def jU(_:List V)(_ h n:Int):Int:=if n<1 then h else nxH h
def yh(es:List V)(a _:Int):Prop:=IsU es/\0<=a/\a<=es.length
def zeF(es:List V)(a h _:Int):Prop:=yh es a h
def zc1(f0 f1 f2:List V->Int->Int->Int->Int)(q:List V->Int->Int->Int->Prop):kQ:=fun
 |[.box 101 (.agg [.slc false 5 (.int .u8 0) a0,.int .i64 a1,.int .u64 a2]),.int .i64 a3]=>some ([q a0 a1 a2 a3],.int .i64 (f0 a0 a1 a2 a3),.box 101 (.agg [.slc false 5 (.int .u8 0) a0,.int .i64 (f1 a0 a1 a2 a3),.int .u64 (f2 a0 a1 a2 a3)]))
 |_=>none
theorem zB2{es:List V}(h:IsU es)(i:Nat):0<=(es.getD i (.int .u8 0)).toI/\(es.getD i (.int .u8 0)).toI<=255:=by
 obtain⟨xs,hxs,hb,_⟩:=h;rw[hxs,zcI];show 0<=xs.getD i 0/\xs.getD i 0<=255;rw[zd];by_cases hi:i<xs.length
 ·rw[zg hi];exact hb _ (List.getElem_mem hi)
 ·rw[zD (by omega)];exact⟨by decide,by decide⟩
theorem Jj{es:List V}{a h n:Int}(hq:yh es a h)(hn:1<=n):0<=jo es a h n/\jo es a h n<n:=by
 have h1:=zyB (zeu .u64 (nxH h) 33)
 have h2:=zB2 hq.1 a.toNat
 have hx:nxX h=zcd .u64 (zeu .u64 (nxH h) 33) 16777215:=by rw[nxX,IntWalk.i64_in _ ⟨by omega,by omega⟩]
 rw[jo,if_neg (by omega)];have key:∀x:Int,0<=x->0<=x.tmod n/\x.tmod n<n:=fun x hx0=>⟨zge _ hx0,kN _ (by omega)⟩;split
 ·rw[IntWalk.i64_in (es.getD a.toNat (.int .u8 0)).toI ⟨by omega,by omega⟩,IntWalk.i64_in _ ⟨by omega,by omega⟩];exact key _ (by omega)
 ·exact key _ (by omega)
theorem uo{es:List V}{a h n:Int}(hq:yh es a h):yh es (jK es a h n) (jU es a h n):=by
 obtain⟨h1,h2,h3⟩:=hq;refine⟨h1,?_,?_⟩
 ·rw[jK];split<;>(try split)<;>omega
 ·rw[jK];split<;>(try split)<;>omega
def Yp(es:List V)(a h:Int)(l:List V):Int:=(yO l).getD (jo es a h l.length).toNat 0
def QQ(es:List V)(a h:Int)(l:List V):Int:=jK es a h l.length
def QP(es:List V)(a h:Int)(l:List V):Int:=jU es a h l.length
def zeE(es:List V)(a h:Int)(l:List V):Prop:=yh es a h/\YB l/\1<=l.length/\l.length<=2147483647
def zd8(f0 f1 f2:List V->Int->Int->List V->Int)(q:List V->Int->Int->List V->Prop):kQ:=fun
 |[.box 101 (.agg [.slc false 5 (.int .u8 0) a0,.int .i64 a1,.int .u64 a2]),.slc false 2 (.int .i64 0) a3]=>some ([q a0 a1 a2 a3],.int .i64 (f0 a0 a1 a2 a3),.box 101 (.agg [.slc false 5 (.int .u8 0) a0,.int .i64 (f1 a0 a1 a2 a3),.int .u64 (f2 a0 a1 a2 a3)]))
 |_=>none
theorem zbK{t:TypeId}{c:V}{a a' h h':Int}:Sh (.box t (.agg [c,.int .i64 a,.int .u64 h])) (.box t (.agg [c,.int .i64 a',.int .u64 h'])):=
 .box _ _ _ (.agg _ _ rfl fun i x y hx hy=>by
  match i with
  |0=>simp at hx hy;subst hx;subst hy;exact .refl _
  |1=>simp at hx hy;subst hx;subst hy;exact .scal _ _ rfl rfl
  |2=>simp at hx hy;subst hx;subst hy;exact .scal _ _ rfl rfl
  |n+3=>simp at hx)
theorem uK:zfe Tryz.prog 41 0 (zc1 jo jK jU zeF):=by
 intro args ps r y h hp;unfold zc1 at h;split at h
 ·rename_i a0 a1 a2 a3;simp only[za,zb]at h;obtain⟨rfl,rfl,rfl⟩:=h;have hq:yh a0 a1 a2:=(zm.1 hp).1;refine zos (T:=tab) (B:=[]) (Bi:=[]) 0 [0,1,4,5] Tryz.func41 rfl rfl (by kernel_rfl) (ze rfl) mixed zR (by exact zB) (by exact zy) (by kernel_rfl) rfl rfl rfl zbK rfl ?_;intro L lp rr yy hL hr hy hf hlp
  conv=>cbv
  simp only[zo hL,sQ,true_and];obtain⟨⟨xs,hxs,hb,hl⟩,h0,h1⟩:=hq;have hal:a0.length=xs.length:=by rw[hxs,U8,zQ]
  refine⟨fun h=>?_,fun h=>⟨by decide,fun h2=>⟨h0,h2,?_,by omega,?_⟩,fun h2=>⟨by omega,?_⟩⟩⟩
  ·rw[hr,hy,jo,jK,jU,if_pos h,if_pos h,if_pos h];exact⟨rfl,rfl⟩
  ·rw[hxs,zcI];rfl
  ·rw[hr,hy,jo,jK,jU,if_neg h,if_neg h,if_neg h,if_pos h2,if_pos h2,zl (n:=a1+1) (by omega) (by omega)];exact⟨rfl,rfl⟩
  ·rw[hr,hy,jo,jK,jU,if_neg h,if_neg h,if_neg h,if_neg h2,if_neg h2];exact⟨rfl,rfl⟩
 ·cases h
theorem ZG:zfe Tryz.prog 42 0 (zd8 Yp QQ QP zeE):=by
 intro args ps r y h hp;unfold zd8 at h;split at h
 ·rename_i a0 a1 a2 a3;simp only[za,zb]at h;obtain⟨rfl,rfl,rfl⟩:=h;have hq:zeE a0 a1 a2 a3:=(zm.1 hp).1;obtain⟨n,hn⟩:∃n:Int,n=a3.length:=⟨_,rfl⟩;generalize yR:jo=jJ;generalize yN:jK=jD;generalize yM:jU=jC;generalize qU:zeF=uH;refine zos (T:=tab) (B:=[]) (Bi:=[(41,0,false,zc1 jJ jD jC uH)]) 0 [0,1,4] Tryz.func42 rfl rfl (by kernel_rfl) (ze rfl) mixed zR (by subst yR yN yM qU;exact zB) (by subst yR yN yM qU;exact(jg uK zy)) (by kernel_rfl) rfl rfl rfl zbK rfl ?_;intro L lp rr yy hL hr hy hf hlp
  conv=>cbv
  simp only[zo hL,sQ,<-hn];subst yR yN yM qU;obtain⟨h1,⟨l,hl⟩,h2,h3⟩:=hq;obtain⟨k1,k2⟩:=Jj (n:=n) h1 (by omega);refine⟨h1,k1,k2,by rw[hl,zE];rfl,?_,?_⟩
  ·rw[hr,Yp,<-hn,hl,zE,zr];rfl
  ·rw[hy,QQ,QP,<-hn]
 ·cases h
def frS(h b:Int):Int:=IntKind.u64.wrap (IntKind.u64.wrap (IntKind.u64.wrap (h*1099511628211)+IntKind.u64.wrap b)+11)
def frH(xs:List Int)(n:Nat):Int:=(xs.take n).foldl frS (IntKind.u64.wrap (9341+IntKind.u64.wrap xs.length))
theorem zzU{xs:List Int}{n:Nat}(h:n<xs.length):frH xs (n+1)=frS (frH xs n) (xs.getD n 0):=by
 rw[frH,zP h,List.foldl_append,<-frH,zd,zg h];rfl
def zei(a:List V):Int:=frH (a.map V.toI) a.length
def zs8(f0:List V->Int)(q:List V->Prop):zK:=fun
 |[.slc false 5 (.int .u8 0) a0]=>some ([q a0],.box 101 (.agg [.slc false 5 (.int .u8 0) a0,.int .i64 0,.int .u64 (f0 a0)]))
 |_=>none
theorem zn3:yJ Tryz.prog 39 (zs8 zei IsU):=by
 intro args ps r h hp;unfold zs8 at h;split at h
 ·rename_i a0;simp only[za,zb]at h;obtain⟨rfl,rfl⟩:=h;have hq:IsU a0:=(zm.1 hp).1;obtain⟨n,hn⟩:∃n:Int,n=a0.length:=⟨_,rfl⟩;obtain⟨h0,hh0⟩:∃h0:Int,h0=IntKind.u64.wrap (9341+IntKind.u64.wrap n):=⟨_,rfl⟩;obtain⟨xs,hxs,hb,hl⟩:=hq;have hal:a0.length=xs.length:=by rw[hxs,U8,zQ]
  refine zI (T:=tab) (B:=[]) (Bi:=[]) [0,2,3,4] Tryz.func39 rfl rfl (by kernel_rfl) (ze rfl) mixed zR (by exact zB) (by exact zy) (by kernel_rfl) ?_;intro L lp rr hL hr hf hlp
  conv=>cbv
  simp only[zo hL,sQ,<-hn,<-hh0]
  refine hlp (Int×Int) _ _ _ [0,3,4] (fun x=>[(0,none,.val (.slc false 5 (.int .u8 0) a0)),(3,none,.val (.box 101 (.agg [.slc false 5 (.int .u8 0) a0,.int .i64 0,.int .u64 x.1]))),(4,none,.val (.int .i64 x.2))])
   (fun x=>0<=x.2/\x.2<=n/\x.1=frH xs x.2.toNat) (fun x=>(n-x.2).toNat) ((h0,0)) (by subst hL;rfl) ?_ ?_
  ·refine⟨by simp,by simp only;omega,?_⟩;simp only[frH,hh0,hn,hal];rfl
  rintro⟨hh,i⟩ ⟨i0,i1,hI⟩ hfx ag hag;simp only at i0 i1 hI
  conv=>cbv
  simp only[zo hL,sQ,<-hn];refine⟨fun h=>⟨i0,h.1,by rw[hxs,zcI];rfl,?_⟩,fun h=>?_⟩
  ·rw[zl (n:=i+1) (by omega) (by omega)];refine hag (_,i+1) ⟨by simp only;omega,by simp only;omega,?_⟩ (by simp only;omega);simp only;rw[show(i+1).toNat=i.toNat+1 by omega,zzU (by omega),<-hI,hxs,zcI];rfl
  ·have hm:(U8 xs).map V.toI=xs:=(by simp[U8,Function.comp_def,V.toI]);rw[hr,zei,hI,show i.toNat=a0.length by omega,hxs,hm]
 ·cases h
end Go.Ax
namespace Go.Ax
open Go.Proofs
def znq(f:List V->Bool)(q:List V->Prop):zK:=fun
 |[.slc false 5 (.int .u8 0) a0]=>some ([q a0],.bool (f a0))
 |_=>none
def zj1(a:List V):Bool:=decide ((4096:Int)<a.length)
def zAM(_:List V):Prop:=True
theorem zwh:yJ Tryz.prog 5 (znq zj1 zAM):=by
 intro args ps r h hp;unfold znq at h;split at h
 ·rename_i a0;simp only[za,zb]at h;obtain⟨rfl,rfl⟩:=h;obtain⟨n,hn⟩:∃n:Int,n=a0.length:=⟨_,rfl⟩;refine zI (T:=tab) (B:=[]) (Bi:=[]) [0,2] Tryz.func5 rfl rfl (by kernel_rfl) (ze rfl) mixed zR (by exact zB) (by exact zy) (by kernel_rfl) ?_;intro L lp rr hL hr hf hlp
  conv=>cbv
  simp only[zo hL,sQ,<-hn];rw[hr,zj1,<-hn]
 ·cases h
def zaU(a b:List V):Bool:=decide (yO a=yO b)
def zdf(a b:List V):Prop:=YB a/\YB b/\a.length<=2147483647
theorem zfM:yJ Tryz.prog 14 (KW zaU zdf):=by
 intro args ps r h hp;unfold KW at h;split at h
 ·rename_i a0 a1;simp only[za,zb]at h;obtain⟨rfl,rfl⟩:=h;obtain⟨⟨xs,hxs⟩,⟨ys,hys⟩,hl⟩:zdf a0 a1:=(zm.1 hp).1;obtain⟨n,hn⟩:∃n:Int,n=a0.length:=⟨_,rfl⟩;obtain⟨m,hm⟩:∃m:Int,m=a1.length:=⟨_,rfl⟩;have hxl:a0.length=xs.length:=by rw[hxs,zj]
  have hyl:a1.length=ys.length:=by rw[hys,zj]
  have gx:∀k,a0.getD k (.int .i64 0)=.int .i64 (xs.getD k 0):=fun k=>by rw[hxs,zE]
  have gy:∀k,a1.getD k (.int .i64 0)=.int .i64 (ys.getD k 0):=fun k=>by rw[hys,zE]
  have hf0:zaU a0 a1=decide (xs=ys):=by rw[zaU,hxs,hys,zr,zr]
  refine zI (T:=tab) (B:=[]) (Bi:=[]) [0,1,4,5] Tryz.func14 rfl rfl (by kernel_rfl) (ze rfl) mixed zR (by exact zB) (by exact zy) (by kernel_rfl) ?_;intro L lp rr hL hr hf hlp
  conv=>cbv
  simp only[zo hL,sQ,<-hn,<-hm];refine⟨fun h=>?_,fun h=>?_⟩
  ·rw[hr,hf0,decide_eq_false (fun e=>h (by rw[hn,hm,hxl,hyl,e]))]
  have hlen:xs.length=ys.length:=by omega
  refine hlp (Int) _ _ _ [0,1,5] (fun x=>[(0,none,.val (.slc false 2 (.int .i64 0) a0)),(1,none,.val (.slc false 2 (.int .i64 0) a1)),(5,none,.val (.int .i64 x))])
   (fun x=>0<=x/\x<=n/\xs.take x.toNat=ys.take x.toNat) (fun x=>(n-x).toNat) (0) (by subst hL;rfl) ?_ ?_
  ·exact⟨by simp,by omega,rfl⟩
  rintro i ⟨i0,i1,hI⟩ hfx ag hag
  conv=>cbv
  simp only[zo hL,sQ,<-hn,<-hm,gx,gy];refine⟨fun h2=>⟨i0,h2,i0,by omega,fun h3=>?_,fun h3=>?_⟩,fun h2=>?_⟩
  ·rw[hr,hf0,decide_eq_false (fun e=>h3 (by rw[e]))]
  ·rw[zl (n:=i+1) (by omega) (by omega)];have h4:i.toNat<xs.length:=(by omega);have h5:i.toNat<ys.length:=(by omega);refine hag (i+1) ⟨by omega,by omega,?_⟩ (by omega);rw[zd,zg h4,zd,zg h5]at h3;rw[show(i+1).toNat=i.toNat+1 by omega,zP h4,zP h5,hI];exact congrArg (fun z=>List.take i.toNat ys++[z]) h3
  ·have h4:xs=ys:=(by rwa [zG (by omega),zG (by omega)]at hI);rw[hr,hf0,decide_eq_true h4]
 ·cases h
def zjg(f:List V->List V->Bool)(q:List V->List V->Prop):zK:=fun
 |[.slc false 29 (.slc false 2 (.int .i64 0) []) a0,.slc false 29 (.slc false 2 (.int .i64 0) []) a1]=>some ([q a0 a1],.bool (f a0 a1))
 |_=>none
def zgY(a b:List V):Bool:=decide (qS a=qS b)
def zof(a b:List V):Prop:=(∃l,a=II false l/\l.length<=2147483647/\∀r∈l,r.length<=2147483647)/\∃l,b=II false l
end Go.Ax
namespace Go.Ax
open Go.Proofs
def ztl(f:List V->Int->List V)(q:List V->Int->Prop):zK:=fun
 |[.agg [.slc false 2 (.int .i64 0) a0],.int .i64 a1]=>some ([q a0 a1],.slc true 29 (.slc true 2 (.int .i64 0) []) (f a0 a1))
 |_=>none
def zqQ(es:List V)(k:Int):List V:=II true (zd2 (qX (yO es) k.toNat))
theorem zio:yJ Tryz.prog 51 (ztl zqQ ZH):=by
 intro args ps r h hp;unfold ztl at h;split at h
 ·rename_i a0 a1;simp only[za,zb]at h;obtain⟨rfl,rfl⟩:=h;obtain⟨hq,k1,k2⟩:ZH a0 a1:=(zm.1 hp).1;have hqb:=hq;obtain⟨xs,hxs,hb⟩:=hq;have g1:V.frzs a0=a0:=by rw[hxs,zA]
  obtain⟨ms,hms⟩:∃ms,ms=I (qX xs a1.toNat):=⟨_,rfl⟩;have e1:uc a0 a1=ms:=by rw[uc,hxs,zr,hms]
  have g2:V.frzs ms=ms:=by rw[hms,zA]
  generalize kg:uc=uQ;generalize qC:ZH=kR;generalize zbm:zeX=zh6;generalize zbk:zmH=zh5;refine zI (T:=tab) (B:=[(73,zjh uQ kR),(80,zhT zh6 zh5)]) (Bi:=[]) [0,1,2,4] Tryz.func51 rfl rfl (by kernel_rfl) (ze rfl) mixed zR (by subst kg qC zbm zbk;exact(zn zcq (zn zdN zB))) (by subst kg qC zbm zbk;exact zy) (by kernel_rfl) ?_;intro L lp rr hL hr hf hlp
  conv=>cbv
  have hF:uQ a0 a1=ms:=by rw[<-kg,e1]
  simp only[zo hL,sQ,g1,hF,g2];refine⟨by rw[<-qC];exact⟨hqb,k1,k2⟩,by rw[<-zbk];exact⟨xs,_,hb,hms,by omega⟩,?_⟩;rw[hr,zqQ,<-zbm,zeX,hms,zr,hxs,zr]
 ·cases h
theorem nf:∀l:List Int,V.noFzs (I l)=true
 |[]=>rfl
 |x::l=>by
  have:=nf l;simpa [I,V.noFzs,V.noFz]using this
def zDT(X Y:List Int):Option Nat:=(List.range X.length).find? fun t=>X.getD t 0 !=Y.getD t 0
def gc(xs ys:List Int):Int×Int:=match zDT (jR xs 201) (jR ys 201)with
 |some i=>((i:Int)+1,0)
 |none=>(0,4)
theorem zf4(xs:List Int)(k:Nat):(jR xs k).length=k-1:=yo _ _
end Go.Ax
