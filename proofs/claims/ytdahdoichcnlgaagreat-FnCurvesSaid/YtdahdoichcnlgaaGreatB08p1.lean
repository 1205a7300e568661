import Derived.Test.YtdahdoichcnlgaaGreatB07p1
import Derived.Test.YtdahdoichcnlgaaGreatB02p1
import Derived.Test.YtdahdoichcnlgaaGreatB03p1
import Derived.Test.YtdahdoichcnlgaaGreatB04p1
import Derived.Test.YtdahdoichcnlgaaGreatB01p1
import Derived.Test.YtdahdoichcnlgaaGreatB06p1
import Derived.Test.YtdahdoichcnlgaaGreatB05p1
set_option linter.all false
set_option maxRecDepth 100000
set_option maxHeartbeats 4000000
open Int renaming le_refl->ue,mul_nonneg->YL,toNat_natCast->zW
open List renaming all_eq_true->yd,append_assoc->zZ,getD_eq_getElem?_getD->zd,getElem?_eq_getElem->zg,getElem?_map->zN,getElem_mem->yE,length_append->zq,length_cons->zi,length_map->zQ,length_nil->zp,length_replicate->zS,length_set->yA,length_take->yb,map_set->JN,mem_iff_getElem->qK,mem_singleton->ya,replicate_succ'->jb,take_of_length_le->zG
open Nat renaming le_of_ble_eq_true->ze
open Option.some renaming injEq->za
open Prod.mk renaming injEq->zb
/-
 PointDiscrepancies. No conditions but those of the contracts.
-/
namespace Go.Ax
open Go.Proofs
def zoL(f:List V->List V->List V->List V×Int)(q:List V->List V->List V->Prop):zK:=fun
 |[.agg [.slc false 2 (.int .i64 0) a0,.slc false 2 (.int .i64 0) a1,.slc false 2 (.int .i64 0) a2]]=>some ([q a0 a1 a2],.tup [.slc true 2 (.int .i64 0) ((f a0 a1 a2).1),.int .i64 ((f a0 a1 a2).2)])
 |_=>none
end Go.Ax
namespace Go.Ax
open Go.Proofs
end Go.Ax
namespace Go.Ax
open Go.Proofs
theorem zuI{m:Int}(h1: -100000<=m)(h2:m<=100000):0<=m*(m-1)/\m*(m-1)<=10000100000/\0<=KG m/\KG m<=5000050000:=by
 have e1:m*(m-1)=m*m-m:=by rw[Int.mul_sub,Int.mul_one]
 have h3:=YL (show 0<=100000+m by omega) (show 0<=100001-m by omega);rw[Int.mul_sub,Int.add_mul,Int.add_mul]at h3
 have h0:0<=m*(m-1):=by
  by_cases h:1<=m
  ·exact YL (by omega) (by omega)
  ·have:=YL (show 0<=-m by omega) (show 0<=-(m-1) by omega)
   rwa [Int.neg_mul_neg]at this
 have h4:m*(m-1)<=10000100000:=by omega
 have e2:KG m=m*(m-1)/2:=by rw[KG,Int.tdiv_eq_ediv_of_nonneg h0]
 omega
def zmJ(a:List V):Prop:=∃l:List Int,a=I l/\l.length<=24/\∀i,i<l.length->-100000<=l.getD i 0/\l.getD i 0<=100000
theorem zsP{l:List Int}(h:∀i,i<l.length->-100000<=l.getD i 0/\l.getD i 0<=100000):∀i,i<=l.length->0<=jI (l.take i)/\jI (l.take i)<=5000050000*i
 |0,_=>by simp[jI]
 |i+1,hi=>by
  have h1:=zsP h i (by omega);have h2:=h i (by omega);have h3:=zuI h2.1 h2.2;rw[zf2 l i (by omega)];omega
theorem zwj:yJ Tryz.prog 57 (zek KT zmJ):=by
 intro args ps r h hp;unfold zek at h;split at h
 ·rename_i a0;simp only[za,zb]at h;obtain⟨rfl,rfl⟩:=h;obtain⟨xs,hxs,hl,hlow⟩:zmJ a0:=(zm.1 hp).1;have hxl:a0.length=xs.length:=by rw[hxs,zj]
  have hf0:KT a0=jI xs:=by rw[KT,hxs,zr]
  have gx:∀i,a0.getD i (.int .i64 0)=.int .i64 (xs.getD i 0):=fun i=>by rw[hxs,zE]
  obtain⟨n,hn⟩:∃n:Int,n=xs.length:=⟨_,rfl⟩;refine zI (T:=tab) (B:=[]) (Bi:=[]) [0,2,3,5,6,7,8] Tryz.func57 rfl rfl (by kernel_rfl) (ze rfl) mixed zR (by exact zB) (by exact zy) (by kernel_rfl) ?_;intro L lp rr hL hr hf hlp
  conv=>cbv
  refine hlp (Int×Int) _ _ _ [3,6,7,8] (fun x=>[(3,none,.val (.int .i64 x.1)),(6,none,.val (.slc false 2 (.int .i64 0) a0)),(7,none,.val (.int .i64 n)),(8,none,.val (.int .i64 x.2))])
   (fun x=>0<=x.2/\x.2<=n/\x.1=jI (xs.take x.2.toNat)) (fun x=>(n-x.2).toNat) ((0,0)) (by subst hL;rw[hn,<-hxl];rfl) ?_ ?_
  ·exact⟨by simp,by simp only;omega,rfl⟩
  rintro⟨s,i⟩ ⟨i0,i1,hI⟩ hfx ag hag;simp only at i0 i1 hI
  conv=>cbv
  simp only[zo hL,sQ,hxl,gx];refine⟨fun h2=>⟨i0,by omega,by omega,?_⟩,fun h2=>?_⟩
  ·have hil:i.toNat<xs.length:=(by omega);obtain⟨m,hm⟩:∃m,m=xs.getD i.toNat 0:=⟨_,rfl⟩;have hmb:=hlow i.toNat hil;rw[<-hm]at hmb;have ht:=zuI hmb.1 hmb.2;have hd:=zsP hlow i.toNat (by omega);rw[<-hI]at hd;have e3:jI (xs.take (i.toNat+1))=s+KG m:=(by rw[zf2 _ _ hil,<-hI,hm]);rw[<-hm,zl (n:=m-1) (by omega) (by omega),zl (n:=m*(m-1)) (by omega) (by omega)];rw[show(m*(m-1)).tdiv 2=KG m from rfl,zl (n:=KG m) (by omega) (by omega),zl (n:=s+KG m) (by omega) (by omega),zl (n:=i+1) (by omega) (by omega)];refine hag (s+KG m,i+1) ⟨by simp only;omega,by simp only;omega,?_⟩ (by simp only;omega);simp only[zF i0];exact e3.symm
  ·rw[hr,hf0,hI,zG (by omega)]
 ·cases h
def zoM(f:List V->List V->List V->Int×Int)(q:List V->List V->List V->Prop):zK:=fun
 |[.agg [.slc false 2 (.int .i64 0) a0,.slc false 2 (.int .i64 0) a1,.slc false 2 (.int .i64 0) a2]]=>some ([q a0 a1 a2],.tup [.int .i64 ((f a0 a1 a2).1),.int .i64 ((f a0 a1 a2).2)])
 |_=>none
noncomputable def zsG(a b c:List V):Int×Int:=bif qH a b c then(KT c,0)else(0,1)
theorem zgN:yJ Tryz.prog 20 (zoM zsG Qc):=by
 intro args ps r h hp;unfold zoM at h;split at h
 ·rename_i a0 a1 a2;simp only[za,zb]at h;obtain⟨rfl,rfl⟩:=h;have hq:Qc a0 a1 a2:=(zm.1 hp).1;have g0:=hq.1.frz;have g1:=hq.2.1.frz;have g2:=hq.2.2.frz
  have hQ:qH a0 a1 a2=true->zmJ a2:=fun h=>by
   obtain⟨l,hl⟩:=hq.2.2;have hc:=KO.1 h;rw[hl,zr]at hc;refine⟨l,hl,by have:=hc.ql;have:=hc.n24;omega,fun i hi=>hc.q i (by have:=hc.ql;omega)⟩
  generalize qQ:qH=Zp;generalize jV:Qc=ZZ;generalize zbr:KT=zh9;generalize zl0:zmJ=zAv;refine zI (T:=tab) (B:=[(56,QW Zp ZZ),(57,zek zh9 zAv)]) (Bi:=[]) [0,1,2,3] Tryz.func20 rfl rfl (by kernel_rfl) (ze rfl) mixed zR (by subst qQ jV zbr zl0;exact(zn za8 (zn zwj zB))) (by subst qQ jV zbr zl0;exact zy) (by kernel_rfl) ?_;intro L lp rr hL hr hf hlp
  conv=>cbv
  simp only[zo hL,sQ,g0,g1,g2];subst qQ jV zbr zl0;refine⟨hq,fun h=>?_,fun h=>⟨hQ h,?_⟩⟩
  ·rw[hr,zsG,h];rfl
  ·rw[hr,zsG,h];rfl
 ·cases h
noncomputable def zsF(a b c:List V):List V×Int:=bif qH a b c then(zb5 a b c,0)else([],1)
theorem zkq:yJ Tryz.prog 22 (zoL zsF Qc):=by
 intro args ps r h hp;unfold zoL at h;split at h
 ·rename_i a0 a1 a2;simp only[za,zb]at h;obtain⟨rfl,rfl⟩:=h;have hq:Qc a0 a1 a2:=(zm.1 hp).1;have g0:=hq.1.frz;have g1:=hq.2.1.frz;have g2:=hq.2.2.frz;generalize qQ:qH=Zp;generalize jV:Qc=ZZ;generalize zbq:zb5=zme;generalize Zn:Qd=zak;refine zI (T:=tab) (B:=[(56,QW Zp ZZ),(59,zqX zme zak)]) (Bi:=[]) [0,1,2,3] Tryz.func22 rfl rfl (by kernel_rfl) (ze rfl) mixed zR (by subst qQ jV zbq Zn;exact(zn za8 (zn zfN zB))) (by subst qQ jV zbq Zn;exact zy) (by kernel_rfl) ?_;intro L lp rr hL hr hf hlp
  conv=>cbv
  simp only[zo hL,sQ,g0,g1,g2];subst qQ jV zbq Zn;refine⟨hq,fun h=>?_,fun h=>⟨zjK hq h,?_⟩⟩
  ·rw[hr,zsF,h];rfl
  ·rw[hr,zsF,h];rfl
 ·cases h
end Go.Ax
namespace Go.Ax
open Go.Proofs
abbrev PtS:Type:=List Int×List Int×Int×Int
def ptD(es:List V)(P S:List Int)(σ:Int×Int):Int×Int×Int×Int:=
 let l:=[1,1,2,(P.length:Int)]
 let m:=min (P.length:Int) (Yf es σ l)
 let par:=(P.length:Int)-1-kC es (KI es σ l) m
 let τ:=qf es (KI es σ l) m
 if kC es τ 2=0 then
  if 0<=S.getD par.toNat 0 then(par,if kC es (qf es τ 2) 2=0 then S.getD par.toNat 0 else P.getD par.toNat 0,qf es (qf es τ 2) 2)
  else(par,P.getD par.toNat 0,qf es τ 2)
 else(par,-1,qf es τ 2)
def ptC(P S:List Int)(par s:Int):Nat->Int
 |0=>s
 |j+1=>if 0<=ptC P S par s j/\P.getD (j+1) 0=par/\S.getD (j+1) 0=ptC P S par s j then-1 else ptC P S par s j
def ptR(es:List V)(x:PtS):PtS:=
 let d:=ptD es x.1 x.2.1 x.2.2
 (x.1++[d.1],x.2.1++[ptC x.1 x.2.1 d.1 d.2.1 (x.1.length-1)],d.2.2)
def ptN(es:List V):Nat->PtS->PtS
 |0,x=>x
 |k+1,x=>ptN es k (ptR es x)
def ptF(es:List V)(σ:Int×Int)(most:Int):PtS:=ptN es (kC es σ most).toNat ([-1],[-1],qf es σ most)
structure PtOk (es:List V) (x:PtS) (k:Nat):Prop where
 n1:1<=x.1.length
 n:x.1.length+k<=24
 sl:x.2.1.length=x.1.length
 src:yh es x.2.2.1 x.2.2.2
theorem zCz{es:List V}{P S:List Int}{σ:Int×Int}(hq:yh es σ.1 σ.2)(hn:1<=P.length):0<=(ptD es P S σ).1/\(ptD es P S σ).1<P.length/\yh es (ptD es P S σ).2.2.1 (ptD es P S σ).2.2.2:=by
 have hp:=zeI (σ:=σ) (l:=[1,1,2,(P.length:Int)]) hq (by simp);have h1:=zbu (σ:=σ) (l:=[1,1,2,(P.length:Int)]) hq;have h2:1<=min (P.length:Int) (Yf es σ [1,1,2,(P.length:Int)]):=by simp at hp;omega
 have h3:=zdj (σ:=KI es σ [1,1,2,(P.length:Int)]) h1 h2;have h4:=kB (σ:=KI es σ [1,1,2,(P.length:Int)]) (n:=min (P.length:Int) (Yf es σ [1,1,2,(P.length:Int)])) h1;have h5:=kB (σ:=qf es (KI es σ [1,1,2,(P.length:Int)]) (min (P.length:Int) (Yf es σ [1,1,2,(P.length:Int)]))) (n:=2) h4;have h6:=kB (σ:=qf es (qf es (KI es σ [1,1,2,(P.length:Int)]) (min (P.length:Int) (Yf es σ [1,1,2,(P.length:Int)]))) 2) (n:=2) h5;unfold ptD;simp only;split
 ·split
  ·exact⟨by simp only;omega,by simp only;omega,h6⟩
  ·exact⟨by simp only;omega,by simp only;omega,h5⟩
 ·exact⟨by simp only;omega,by simp only;omega,h5⟩
theorem PtOk.round{es:List V}{x:PtS}{k:Nat}(h:PtOk es x (k+1)):PtOk es (ptR es x) k:=by
 obtain⟨h1,h2,h3,h4⟩:=h;have h5:=zCz (S:=x.2.1) (σ:=x.2.2) h4 h1;refine⟨?_,?_,?_,h5.2.2⟩<;>simp only[ptR,zq,zi,zp]<;>omega
theorem PtOk.run{es:List V}:∀{k:Nat} {x:PtS},PtOk es x k->PtOk es (ptN es k x) 0
 |0,_,h=>h
 |_+1,_,h=>h.round.run
theorem zxL{es:List V}{σ:Int×Int}{most:Int}(hq:yh es σ.1 σ.2)(h1:1<=most)(h2:most<=24):PtOk es (ptF es σ most) 0:=by
 have h3:=zdj (σ:=σ) hq h1;exact PtOk.run ⟨by simp,by simp;omega,rfl,kB (σ:=σ) hq⟩
def zqP(es:List V)(a h m:Int):List V×List V×List V×Int×Int:=
 (I (ptF es (a,h) m).1,I (ptF es (a,h) m).2.1,I (List.replicate (ptF es (a,h) m).1.length 0),(ptF es (a,h) m).2.2)
def zwq(es:List V)(a h m:Int):Prop:=yh es a h/\1<=m/\m<=24
def zsi(f:List V->Int->Int->Int->List V×List V×List V×Int×Int)(q:List V->Int->Int->Int->Prop):kQ:=fun
 |[.box 101 (.agg [.slc false 5 (.int .u8 0) a0,.int .i64 a1,.int .u64 a2]),.int .i64 a3]=>some ([q a0 a1 a2 a3],.agg [.slc true 2 (.int .i64 0) (f a0 a1 a2 a3).1,.slc true 2 (.int .i64 0) (f a0 a1 a2 a3).2.1,.slc true 2 (.int .i64 0) (f a0 a1 a2 a3).2.2.1],.box 101 (.agg [.slc false 5 (.int .u8 0) a0,.int .i64 (f a0 a1 a2 a3).2.2.2.1,.int .u64 (f a0 a1 a2 a3).2.2.2.2]))
 |_=>none
theorem zld:zfe Tryz.prog 113 1000 (zsi zqP zwq):=by
 intro args ps r y h hp;unfold zsi at h;split at h
 ·rename_i a0 a1 a2 a3;simp only[za,zb]at h;obtain⟨rfl,rfl,rfl⟩:=h;obtain⟨hq,m1,m2⟩:zwq a0 a1 a2 a3:=(zm.1 hp).1;obtain⟨k0,hk0⟩:∃k0:Int,k0=kC a0 (a1,a2) a3:=⟨_,rfl⟩;have hk:=zdj (σ:=(a1,a2)) (n:=a3) hq m1;rw[<-hk0]at hk;obtain⟨E,hE⟩:∃E,E=ptF a0 (a1,a2) a3:=⟨_,rfl⟩;generalize yR:jo=jJ;generalize yN:jK=jD;generalize yM:jU=jC;generalize qU:zeF=uH;generalize jB:Yp=Zs;generalize jA:QQ=Zr;generalize jz:QP=Zq;generalize kw:zeE=YE;refine zjR (T:=tab) (B:=[]) (Bi:=[(41,0,false,zc1 jJ jD jC uH),(42,0,false,zd8 Zs Zr Zq YE)]) 0 [2000006831,0,1,4,5,6,7,8,9,10] Tryz.func113 rfl rfl (by kernel_rfl) (ze rfl) mixed zR (by subst yR yN yM qU jB jA jz kw;exact zB) (by subst yR yN yM qU jB jA jz kw;exact(jg uK (jg ZG zy))) (by kernel_rfl) rfl rfl zbK rfl ?_;intro L lp rr yy hL hr hy hf hlp
  conv=>cbv
  obtain⟨b1,hb1⟩:∃b1,b1=jK a0 a1 a2 a3:=⟨_,rfl⟩;obtain⟨b2,hb2⟩:∃b2,b2=jU a0 a1 a2 a3:=⟨_,rfl⟩;have e0:jJ a0 a1 a2 a3=k0:=by rw[<-yR,hk0]
  have e1:jD a0 a1 a2 a3=b1:=by rw[<-yN,hb1]
  have e2:jC a0 a1 a2 a3=b2:=by rw[<-yM,hb2]
  have Qn:∀a h n,yh a0 a h->uH a0 a h n:=fun a h n hs=>by rw[<-qU];exact hs
  have ok0:PtOk a0 ([-1],[-1],b1,b2) k0.toNat:=⟨by simp,by simp;omega,rfl,by rw[hb1,hb2];exact uo hq⟩;have hE0:ptN a0 k0.toNat ([-1],[-1],b1,b2)=E:=by rw[hE,hb1,hb2,hk0];rfl
  simp only[zo hL,sQ,true_and,e0,e1,e2];refine⟨Qn _ _ _ hq,?_⟩
  refine hlp (List V×List V×List V×Int×Int×Int) _ _ _ [0,4,5,6] (fun x=>[(0,none,.val (.box 101 (.agg [.slc false 5 (.int .u8 0) a0,.int .i64 x.2.2.2.1,.int .u64 x.2.2.2.2.1]))),(4,none,.val (.box 31 (.agg [.slc true 2 (.int .i64 0) [],.slc true 2 (.int .i64 0) [],.slc true 2 (.int .i64 0) []]))),(5,none,.val (.box 31 (.agg [.slc true 2 (.int .i64 0) x.1,.slc true 2 (.int .i64 0) x.2.1,.slc true 2 (.int .i64 0) x.2.2.1]))),(6,none,.val (.int .i64 x.2.2.2.2.2))])
   (fun x=>0<=x.2.2.2.2.2/\∃P S:List Int,x.1=I P/\x.2.1=I S/\x.2.2.1=I (List.replicate P.length 0)/\PtOk a0 (P,S,x.2.2.2.1,x.2.2.2.2.1) x.2.2.2.2.2.toNat/\ptN a0 x.2.2.2.2.2.toNat (P,S,x.2.2.2.1,x.2.2.2.2.1)=E) (fun x=>x.2.2.2.2.2.toNat) ((I [-1],I [-1],I [0],b1,b2,k0)) (by subst hL;rfl) ?_ ?_
  ·exact⟨by simp only;omega,[-1],[-1],rfl,rfl,rfl,ok0,hE0⟩
  rintro⟨vp,vs,vw,a,h,k⟩ ⟨i0,P,S,hP,hS,hW,hok,hN⟩ hfx ag hag;simp only at i0 hP hS hW hok hN;have hsrc:yh a0 a h:=hok.src;have hn1:=hok.n1;have hn24:=hok.n;have hsl:=hok.sl;simp only at hsrc hn1 hn24 hsl;obtain⟨il,hil⟩:∃il:Int,il=P.length:=⟨_,rfl⟩;have hvl:vp.length=P.length:=by rw[hP,zj]
  have hsl2:vs.length=P.length:=by rw[hS,zj,hsl]
  have hwl:vw.length=P.length:=by rw[hW,zj,zS]
  have gP:∀k,vp.getD k (.int .i64 0)=.int .i64 (P.getD k 0):=fun k=>by rw[hP,zE]
  have gS:∀k,vs.getD k (.int .i64 0)=.int .i64 (S.getD k 0):=fun k=>by rw[hS,zE]
  obtain⟨m,hm⟩:∃m,m=Yp a0 a h (I [1,1,2,il]):=⟨_,rfl⟩;obtain⟨A1,hA1⟩:∃A1,A1=QQ a0 a h (I [1,1,2,il]):=⟨_,rfl⟩;obtain⟨H1,hH1⟩:∃H1,H1=QP a0 a h (I [1,1,2,il]):=⟨_,rfl⟩;obtain⟨mi,hmi⟩:∃mi,mi=min il m:=⟨_,rfl⟩;obtain⟨par,hpar⟩:∃par,par=il-1-jo a0 A1 H1 mi:=⟨_,rfl⟩;obtain⟨A2,hA2⟩:∃A2,A2=jK a0 A1 H1 mi:=⟨_,rfl⟩;obtain⟨H2,hH2⟩:∃H2,H2=jU a0 A1 H1 mi:=⟨_,rfl⟩;obtain⟨u,hu⟩:∃u,u=jo a0 A2 H2 2:=⟨_,rfl⟩;obtain⟨A3,hA3⟩:∃A3,A3=jK a0 A2 H2 2:=⟨_,rfl⟩;obtain⟨H3,hH3⟩:∃H3,H3=jU a0 A2 H2 2:=⟨_,rfl⟩;obtain⟨v,hv⟩:∃v,v=jo a0 A3 H3 2:=⟨_,rfl⟩;obtain⟨A4,hA4⟩:∃A4,A4=jK a0 A3 H3 2:=⟨_,rfl⟩;obtain⟨H4,hH4⟩:∃H4,H4=jU a0 A3 H3 2:=⟨_,rfl⟩
  have hD:ptD a0 P S (a,h)=if u=0 then(if 0<=S.getD par.toNat 0 then(par,if v=0 then S.getD par.toNat 0 else P.getD par.toNat 0,A4,H4)else(par,P.getD par.toNat 0,A3,H3))else(par,-1,A3,H3):=by
   subst hH4 hA4 hv hH3 hA3 hu hH2 hA2 hpar hmi hH1 hA1 hm hil;rfl
  have mp:m∈[1,1,2,il]:=by rw[hm];exact zeI (σ:=(a,h)) (l:=[1,1,2,il]) hsrc (by simp)
  have s1:yh a0 A1 H1:=by rw[hA1,hH1];exact uo hsrc
  have m1:1<=mi:=by simp at mp;omega
  have d1:=Jj (n:=mi) s1 m1;have s2:yh a0 A2 H2:=by rw[hA2,hH2];exact uo s1
  have s3:yh a0 A3 H3:=by rw[hA3,hH3];exact uo s2
  have s4:yh a0 A4 H4:=by rw[hA4,hH4];exact uo s3
  have g3:∀l,l=I [1,1,2,il]->Zs a0 a h l=m/\Zr a0 a h l=A1/\Zq a0 a h l=H1/\YE a0 a h l:=by
   intro l hl;rw[hl,<-jB,<-jA,<-jz,<-kw,hm,hA1,hH1];exact⟨rfl,rfl,rfl,hsrc,⟨_,rfl⟩,by simp,by simp⟩
  obtain⟨g4,g5,g6,g7⟩:=g3 (V.frzs (V.frzs [V.int IntKind.i64 1,V.int IntKind.i64 1,V.int IntKind.i64 2,V.int IntKind.i64 il])) rfl;have g8:jJ a0 A1 H1 mi=il-1-par:=by rw[<-yR];omega
  have g9:jD a0 A1 H1 mi=A2:=by rw[<-yN,hA2]
  have g10:jC a0 A1 H1 mi=H2:=by rw[<-yM,hH2]
  have g11:jJ a0 A2 H2 2=u:=by rw[<-yR,hu]
  have g12:jD a0 A2 H2 2=A3:=by rw[<-yN,hA3]
  have g13:jC a0 A2 H2 2=H3:=by rw[<-yM,hH3]
  have g14:jJ a0 A3 H3 2=v:=by rw[<-yR,hv]
  have g15:jD a0 A3 H3 2=A4:=by rw[<-yN,hA4]
  have g16:jC a0 A3 H3 2=H4:=by rw[<-yM,hH4]
  have wi:IntKind.wrap .i64 (il-1)=il-1:=zl (by omega) (by omega);have wp:IntKind.wrap .i64 (il-1-(il-1-par))=par:=by rw[show il-1-(il-1-par)=par by omega];exact zl (by omega) (by omega)
  conv=>cbv
  simp only[zo hL,sQ,true_and,hvl,hsl2,hwl,<-hil,g4,g5,g6,g7,<-hmi,g8,g9,g10,g11,g12,g13,g14,g15,g16,wi,wp,gP,gS]
  have hR:∀sec A H,ptD a0 P S (a,h)=(par,sec,A,H)->0<k->PtOk a0 (P++[par],S++[ptC P S par sec (P.length-1)],A,H) (k-1).toNat/\ptN a0 (k-1).toNat (P++[par],S++[ptC P S par sec (P.length-1)],A,H)=E:=by
   intro sec A H e hk;have e2:k.toNat=(k-1).toNat+1:=(by omega);have e3:ptR a0 (P,S,a,h)=(P++[par],S++[ptC P S par sec (P.length-1)],A,H):=(by simp only[ptR,e]);rw[e2]at hok hN;rw[<-e3];exact⟨hok.round,hN⟩
  have wk:IntKind.wrap .i64 (k-1)=k-1:=zl (by omega) (by omega);refine⟨fun hk=>⟨Qn _ _ _ s1,Qn _ _ _ s2,fun u0=>⟨by omega,by omega,by omega,by omega,by omega,by omega,fun sp=>⟨sp,Qn _ _ _ s3,fun v0=>⟨by omega,by omega,by omega,?a⟩,fun v0=>?b⟩,fun sp=>⟨fun hh=>absurd hh.1 sp,fun _=>?c⟩⟩,fun u0=>?d⟩,fun hk=>?e⟩
  case' a=>
   have hD5:ptD a0 P S (a,h)=(par,S.getD par.toNat 0,A4,H4):=(by rw[hD,if_pos u0,if_pos sp,if_pos v0.2]);obtain⟨sec,hsec⟩:∃sec,sec=S.getD par.toNat 0:=⟨_,rfl⟩;obtain⟨A5,hA5⟩:∃A5,A5=A4:=⟨_,rfl⟩;obtain⟨H5,hH5⟩:∃H5,H5=H4:=⟨_,rfl⟩;rw[<-hsec,<-hA5,<-hH5]at hD5 ⊢
  case' b=>
   have hD5:ptD a0 P S (a,h)=(par,P.getD par.toNat 0,A4,H4):=(by rw[hD,if_pos u0,if_pos sp,if_neg (by omega)]);obtain⟨sec,hsec⟩:∃sec,sec=P.getD par.toNat 0:=⟨_,rfl⟩;obtain⟨A5,hA5⟩:∃A5,A5=A4:=⟨_,rfl⟩;obtain⟨H5,hH5⟩:∃H5,H5=H4:=⟨_,rfl⟩;rw[<-hsec,<-hA5,<-hH5]at hD5 ⊢
  case' c=>
   have hD5:ptD a0 P S (a,h)=(par,P.getD par.toNat 0,A3,H3):=(by rw[hD,if_pos u0,if_neg sp]);obtain⟨sec,hsec⟩:∃sec,sec=P.getD par.toNat 0:=⟨_,rfl⟩;obtain⟨A5,hA5⟩:∃A5,A5=A3:=⟨_,rfl⟩;obtain⟨H5,hH5⟩:∃H5,H5=H3:=⟨_,rfl⟩;rw[<-hsec,<-hA5,<-hH5]at hD5 ⊢
  case' d=>
   have hD5:ptD a0 P S (a,h)=(par,-1,A3,H3):=(by rw[hD,if_neg u0]);obtain⟨sec,hsec⟩:∃sec:Int,sec= -1:=⟨_,rfl⟩;obtain⟨A5,hA5⟩:∃A5,A5=A3:=⟨_,rfl⟩;obtain⟨H5,hH5⟩:∃H5,H5=H3:=⟨_,rfl⟩;rw[<-hsec]at hD5;rw[<-hA5,<-hH5]at hD5 ⊢
  case e=>
   have hk0:k.toNat=0:=(by omega);rw[hk0]at hN;rw[hr,hy,zqP,<-hE,<-hN,hP,hS,hW];exact⟨rfl,rfl⟩
  all_goals
   clear hN hok hE0 ok0 e0 e1 e2 g3 g4 g5 g6 g7 g8 g9 g10 g11 g12 g13 g14 g15 g16 hD hm hA1 hH1 hmi hpar hA2 hH2 hu hA3 hH3 hv hA4 hH4 mp s1 m1 d1 s2 s3 s4 hE hb1 hb2 hk0 hq Qn wi wp hA5 hH5
   refine hlp (Int×Int) _ _ _ [0,4,5,6,7,8,9,10] (fun x=>[(0,none,.val (.box 101 (.agg [.slc false 5 (.int .u8 0) a0,.int .i64 A5,.int .u64 H5]))),(4,none,.val (.box 31 (.agg [.slc true 2 (.int .i64 0) [],.slc true 2 (.int .i64 0) [],.slc true 2 (.int .i64 0) []]))),(5,none,.val (.box 31 (.agg [.slc true 2 (.int .i64 0) vp,.slc true 2 (.int .i64 0) vs,.slc true 2 (.int .i64 0) vw]))),(6,none,.val (.int .i64 k)),(7,none,.val (.int .i64 il)),(8,none,.val (.int .i64 par)),(9,none,.val (.int .i64 x.1)),(10,none,.val (.int .i64 x.2))])
    (fun x=>1<=x.2/\x.2<=il/\x.1=ptC P S par sec (x.2-1).toNat) (fun x=>(il-x.2).toNat) ((sec,1)) (by subst hL;first|rfl|(rw[hsec];rfl)) ?_ ?_
   ·exact⟨by simp,by simp only;omega,rfl⟩
   rintro⟨sx,j⟩ ⟨j1,j2,hJ⟩ hfx2 ag2 hag2;simp only at j1 j2 hJ;have wj:IntKind.wrap .i64 (j+1)=j+1:=zl (by omega) (by omega)
   have hst:ptC P S par sec (j+1-1).toNat=if 0<=sx/\P.getD j.toNat 0=par/\S.getD j.toNat 0=sx then-1 else sx:=by
    rw[show(j+1-1).toNat=(j-1).toNat+1 by omega,ptC,<-hJ,show(j-1).toNat+1=j.toNat by omega]
   conv=>cbv
   simp only[zo hL,sQ,true_and,hvl,hsl2,hwl,gP,gS,wj,wk];refine⟨fun h2=>⟨fun _=>by omega,fun _=>by omega,fun _=>by omega,fun _=>trivial,fun _=>by omega,fun _=>by omega,fun _=>by omega,fun _=>trivial,fun h3=>?_,fun h3=>?_⟩,fun h2=>?_⟩
   ·refine hag2 (-1,j+1) ⟨by simp only;omega,by simp only;omega,?_⟩ (by simp only;omega);simp only;rw[hst,if_pos ⟨h3.1.1,h3.1.2,h3.2⟩]
   ·refine hag2 (sx,j+1) ⟨by simp only;omega,by simp only;omega,?_⟩ (by simp only;omega);simp only
    rw[hst,if_neg (fun h4=>by
     rcases h3 with(h3|h3)|h3
     ·exact h3 h4.1
     ·exact h3 h4.2.1
     ·exact h3 h4.2.2)]
   ·obtain⟨t1,t2⟩:=hR sec A5 H5 hD5 hk;rw[show(j-1).toNat=P.length-1 by omega]at hJ;rw[<-hJ]at t1 t2;refine⟨rfl,by simp only[zi,zp];omega,yY _,rfl,by simp only[zi,zp];omega,yY _,rfl,by simp only[zi,zp];omega,yY _,?_⟩;refine hag (_,_,_,A5,H5,k-1) ⟨by simp only;omega,_,_,?_,?_,?_,t1,t2⟩ (by simp only;omega)
    ·simp only;rw[hP,<-jY];rfl
    ·simp only;rw[hS,<-jY];rfl
    ·simp only;rw[hW,zq,List.length_singleton,jb,<-jY];rfl
 ·cases h
end Go.Ax
namespace Go.Ax
open Go.Proofs
def zk9(o:List Int)(p x:Int):List Int:=o.set p.toNat (W (o.getD p.toNat 0+x))
def zk8(P S:List Int):Nat->List Int->List Int
 |0,o=>o
 |n+1,o=>
  let o1:=zk9 o (P.getD (n+1) 0) (o.getD (n+1) 0)
  zk8 P S n (if 0<=S.getD (n+1) 0 then zk9 o1 (S.getD (n+1) 0) (o1.getD (n+1) 0)else o1)
def zk7(P S:List Int)(i:Nat):List Int:=zk8 P S i ((List.replicate P.length 0).set i 1)
theorem zy6(o:List Int)(p x:Int):(zk9 o p x).length=o.length:=yA
theorem zrg(P S:List Int):∀(n:Nat) (o:List Int),(zk8 P S n o).length=o.length
 |0,_=>rfl
 |n+1,o=>by
  rw[zk8,zrg P S n];split<;>simp only[zy6]
def zta(f:List V->List V->List V->Int->List V)(q:List V->List V->List V->Int->Prop):zK:=fun
 |[.agg [.slc false 2 (.int .i64 0) a0,.slc false 2 (.int .i64 0) a1,.slc false 2 (.int .i64 0) a2],.int .i64 a3]=>some ([q a0 a1 a2 a3],.slc true 2 (.int .i64 0) (f a0 a1 a2 a3))
 |_=>none
def znc(a b _:List V)(i:Int):List V:=I (zk7 (yO a) (yO b) i.toNat)
def zwo(a b c:List V)(i:Int):Prop:=Qd a b c/\0<=i/\i<a.length
theorem zlc:yJ Tryz.prog 133 (zta znc zwo):=by
 intro args ps r h hp;unfold zta at h;split at h
 ·rename_i a0 a1 a2 a3;simp only[za,zb]at h;obtain⟨rfl,rfl⟩:=h;obtain⟨hqv,i0,i1⟩:zwo a0 a1 a2 a3:=(zm.1 hp).1;obtain⟨⟨⟨P,hP⟩,⟨S,hS⟩,⟨Q,hQ⟩⟩,hcl⟩:=id hqv;rw[hP,hS,hQ,zr,zr,zr]at hcl;have hpl:a0.length=P.length:=by rw[hP,zj]
  have hsl:a1.length=P.length:=by rw[hS,zj,hcl.sl]
  have gp:∀k,a0.getD k (.int .i64 0)=.int .i64 (P.getD k 0):=fun k=>by rw[hP,zE]
  have gs:∀k,a1.getD k (.int .i64 0)=.int .i64 (S.getD k 0):=fun k=>by rw[hS,zE]
  have hf0:znc a0 a1 a2 a3=I (zk7 P S a3.toNat):=by rw[znc,hP,hS,zr,zr]
  obtain⟨n,hn⟩:∃n:Int,n=P.length:=⟨_,rfl⟩;have n1:=hcl.n1;have n24:=hcl.n24;have low:=fun t ht=>hcl.low (i:=t) ht;rw[hpl]at i1;refine zI (T:=tab) (B:=[]) (Bi:=[]) [0,1,2,4,5,6] Tryz.func133 rfl rfl (by kernel_rfl) (ze rfl) mixed zR (by exact zB) (by exact zy) (by kernel_rfl) ?_;intro L lp rr hL hr hf hlp
  conv=>cbv
  simp only[zo hL,sQ,zc8,JB,zS,hpl,hsl,<-hn];refine⟨by omega,ue _,by omega,i0,by omega,by omega,?_⟩;obtain⟨vz,hvz⟩:∃vz,vz=I ((List.replicate n.toNat 0).set a3.toNat 1):=⟨_,rfl⟩;obtain⟨E,hE⟩:∃E,E=zk7 P S a3.toNat:=⟨_,rfl⟩;rw[<-hvz]
  refine hlp (List V×Int) _ _ _ [2,5,6] (fun x=>[(2,none,.val (.box 31 (.agg [.slc false 2 (.int .i64 0) a0,.slc false 2 (.int .i64 0) a1,.slc false 2 (.int .i64 0) a2]))),(5,none,.val (.slc true 2 (.int .i64 0) x.1)),(6,none,.val (.int .i64 x.2))])
   (fun x=>0<=x.2/\x.2<=a3/\∃o,x.1=I o/\o.length=P.length/\zk8 P S x.2.toNat o=E) (fun x=>x.2.toNat) ((vz,a3)) (by subst hL;rfl) ?_ ?_
  ·refine⟨i0,ue _,_,hvz,by rw[yA,zS];omega,?_⟩;rw[hE,hn];rfl
  rintro⟨vl,j⟩ ⟨j0,j1,o,hO,hol,hoE⟩ hfx ag hag;simp only at j0 j1 hO hol hoE;have hvl:vl.length=P.length:=by rw[hO,zj,hol]
  have go:∀k,vl.getD k (.int .i64 0)=.int .i64 (o.getD k 0):=fun k=>by rw[hO,zE]
  have gset:∀k x,vl.set k (.int .i64 x)=I (o.set k x):=fun k x=>by rw[hO,JB]
  conv=>cbv
  simp only[zo hL,sQ,hpl,hsl,hvl,gp,gs,go,gset,JB,yA,hol];rw[zl (n:=j-1) (by omega) (by omega)];refine⟨fun h=>?_,fun h=>?_⟩
  ·obtain⟨l1,l2,l3,l4,l5,l6⟩:=low j.toNat (by omega);have l4:=l4 (by omega);have l5:=l5 (by omega)
   have hst:zk8 P S j.toNat o=zk8 P S (j-1).toNat (if 0<=S.getD j.toNat 0 then zk9 (zk9 o (P.getD j.toNat 0) (o.getD j.toNat 0)) (S.getD j.toNat 0) ((zk9 o (P.getD j.toNat 0) (o.getD j.toNat 0)).getD j.toNat 0)else zk9 o (P.getD j.toNat 0) (o.getD j.toNat 0)):=by
    rw[show j.toNat=(j-1).toNat+1 by omega];rfl
   rw[hoE]at hst;obtain⟨p,hp0⟩:∃p,p=P.getD j.toNat 0:=⟨_,rfl⟩;obtain⟨q,hq0⟩:∃q,q=S.getD j.toNat 0:=⟨_,rfl⟩;simp only[<-hp0,<-hq0]at l1 l2 l3 l4 l5 hst ⊢;refine⟨by omega,by omega,by omega,by omega,by omega,by omega,by omega,by omega,by omega,by omega,by omega,by omega,by omega,by omega,by omega,fun h2=>⟨by omega,by omega,by omega,by omega,by omega,by omega,by omega,by omega,by omega,by omega,by omega,by omega,by omega,?_⟩,fun h2=>?_⟩
   ·rw[if_pos h2]at hst;exact hag (_,j-1) ⟨by simp only;omega,by simp only;omega,_,rfl,by simp only[yA,hol],hst.symm⟩ (by simp only;omega)
   ·rw[if_neg h2]at hst;exact hag (_,j-1) ⟨by simp only;omega,by simp only;omega,_,rfl,by simp only[yA,hol],hst.symm⟩ (by simp only;omega)
  ·rw[hr,hf0,<-hE,<-hoE,show j.toNat=0 by omega,hO];rfl
 ·cases h
def zs9(f:List V->List V->List V->List V->List V×List V×List V)(q:List V->List V->List V->List V->Prop):zK:=fun
 |[.agg [.slc false 2 (.int .i64 0) a0,.slc false 2 (.int .i64 0) a1,.slc false 2 (.int .i64 0) a2],.slc false 2 (.int .i64 0) a3]=>some ([q a0 a1 a2 a3],.agg [.slc false 2 (.int .i64 0) ((f a0 a1 a2 a3).1),.slc false 2 (.int .i64 0) ((f a0 a1 a2 a3).2.1),.slc false 2 (.int .i64 0) ((f a0 a1 a2 a3).2.2)])
 |_=>none
def zyc(a b _ d:List V):List V×List V×List V:=(a,b,d)
def zrA(a b c d:List V):Prop:=ub a/\ub b/\YB c/\YB d
theorem znZ:yJ Tryz.prog 135 (zs9 zyc zrA):=by
 intro args ps r h hp;unfold zs9 at h;split at h
 ·rename_i a0 a1 a2 a3;simp only[za,zb]at h;obtain⟨rfl,rfl⟩:=h;obtain⟨h0,h1,h2,h3⟩:zrA a0 a1 a2 a3:=(zm.1 hp).1;obtain⟨P,hP⟩:=h0.1;obtain⟨S,hS⟩:=h1.1;obtain⟨Q,hQ⟩:=h3;have g0:V.frzs a0=a0:=by rw[hP,zA]
  have g1:V.frzs a1=a1:=by rw[hS,zA]
  have g3:V.frzs a3=a3:=by rw[hQ,zA]
  generalize kI:same=YD;generalize yP:ub=ki;refine KR (T:=tab) (B:=[(141,ui YD ki)]) (Bi:=[]) [2000001007,2000001010,0,1,2,4] Tryz.func135 rfl rfl (by kernel_rfl) (ze rfl) mixed zR (by subst kI yP;exact(zn zdB zB)) (by subst kI yP;exact zy) (by kernel_rfl) ?_;intro L lp rr hL hr hf hlp
  conv=>cbv
  subst kI yP;simp only[zo hL,sQ,same,g0,g1,g3];exact⟨h0,h1,hr.symm⟩
 ·cases h
def ztf(f:List V->List V->List V->List V×List V×List V×Int)(q:List V->List V->List V->Prop):zK:=fun
 |[.agg [.slc false 2 (.int .i64 0) a0,.slc false 2 (.int .i64 0) a1,.slc false 2 (.int .i64 0) a2]]=>some ([q a0 a1 a2],.tup [.agg [.slc false 2 (.int .i64 0) ((f a0 a1 a2).1),.slc false 2 (.int .i64 0) ((f a0 a1 a2).2.1),.slc false 2 (.int .i64 0) ((f a0 a1 a2).2.2.1)],.int .i64 ((f a0 a1 a2).2.2.2)])
 |_=>none
noncomputable def KC(a b c:List V):List V×List V×List V×Int:=bif qH a b c then(a,b,c,0)else([],[],[],3)
theorem zqu:yJ Tryz.prog 134 (ztf KC Qc):=by
 intro args ps r h hp;unfold ztf at h;split at h
 ·rename_i a0 a1 a2;simp only[za,zb]at h;obtain⟨rfl,rfl⟩:=h;have hq:Qc a0 a1 a2:=(zm.1 hp).1;obtain⟨⟨P,hP⟩,⟨S,hS⟩,⟨Q,hQ⟩⟩:=id hq;have g0:V.frzs a0=a0:=by rw[hP,zA]
  have g1:V.frzs a1=a1:=by rw[hS,zA]
  have g2:V.frzs a2=a2:=by rw[hQ,zA]
  generalize qQ:qH=Zp;generalize jV:Qc=ZZ;refine KR (T:=tab) (B:=[(132,QW Zp ZZ)]) (Bi:=[]) [0,1,2,3] Tryz.func134 rfl rfl (by kernel_rfl) (ze rfl) mixed zR (by subst qQ jV;exact(zn zbP zB)) (by subst qQ jV;exact zy) (by kernel_rfl) ?_;intro L lp rr hL hr hf hlp
  conv=>cbv
  subst qQ jV;simp only[zo hL,sQ,g0,g1,g2];refine⟨hq,fun h=>?_,fun h=>?_⟩
  ·rw[hr,KC,h];rfl
  ·rw[hr,KC,h];rfl
 ·cases h
def zhX(e:Int)(own:List Int):Nat->List Int->List Int
 |0,w=>w
 |k+1,w=>(zhX e own k w).set k (W ((zhX e own k w).getD k 0+W (e*own.getD k 0)))
def zdy(P S d:List Int):Nat->List Int
 |0=>List.replicate d.length 0
 |i+1=>zhX (d.getD i 0) (zk7 P S i) P.length (zdy P S d i)
theorem zlT(e:Int)(own:List Int):∀(k:Nat) (w:List Int),(zhX e own k w).length=w.length
 |0,_=>rfl
 |k+1,w=>by rw[zhX,yA,zlT e own k]
theorem zk1(P S d:List Int):∀i,(zdy P S d i).length=d.length
 |0=>zS
 |i+1=>by rw[zdy,zlT,zk1 P S d i]
def zhR(d:List Int):Bool:=d.all fun x=>decide (-1000<=x)&&decide (x<=1000)
theorem zBK{d:List Int}{i:Nat}(hi:i<d.length)(h:¬(-1000<=d.getD i 0/\d.getD i 0<=1000)):zhR d=false:=by
 rw[zhR,List.all_eq_false];refine⟨d.getD i 0,?_,by simpa [Int.not_le]using h⟩;rw[zd,zg hi];exact yE _
theorem zzZ{d:List Int}(h:∀i,i<d.length->-1000<=d.getD i 0/\d.getD i 0<=1000):zhR d=true:=by
 rw[zhR,yd];intro x hx;obtain⟨i,hi,rfl⟩:=qK.1 hx;have:=h i hi;rw[zd,zg hi]at this;simpa using this
def zoI(f:List V->List V->List V->List V->List V×List V×List V×Int)(q:List V->List V->List V->List V->Prop):zK:=fun
 |[.agg [.slc false 2 (.int .i64 0) a0,.slc false 2 (.int .i64 0) a1,.slc false 2 (.int .i64 0) a2],.slc false 2 (.int .i64 0) a3]=>some ([q a0 a1 a2 a3],.tup [.agg [.slc false 2 (.int .i64 0) ((f a0 a1 a2 a3).1),.slc false 2 (.int .i64 0) ((f a0 a1 a2 a3).2.1),.slc false 2 (.int .i64 0) ((f a0 a1 a2 a3).2.2.1)],.int .i64 ((f a0 a1 a2 a3).2.2.2)])
 |_=>none
noncomputable def uS(a b c d:List V):List V×List V×List V×Int:=
 bif qH a b c then(bif decide (d.length=a.length)&&zhR (yO d)then KC a b (I (zdy (yO a) (yO b) (yO d) d.length))else([],[],[],2))else([],[],[],1)
def zwy(a b c d:List V):Prop:=Qc a b c/\YB d
theorem zeA:yJ Tryz.prog 114 (zoI uS zwy):=by
 intro args ps r h hp;unfold zoI at h;split at h
 ·rename_i a0 a1 a2 a3;simp only[za,zb]at h;obtain⟨rfl,rfl⟩:=h;obtain⟨hq,D,hD⟩:zwy a0 a1 a2 a3:=(zm.1 hp).1;obtain⟨⟨P,hP⟩,⟨S,hS⟩,⟨Q,hQ⟩⟩:=id hq;have g0:V.frzs a0=a0:=by rw[hP,zA]
  have g1:V.frzs a1=a1:=by rw[hS,zA]
  have g2:V.frzs a2=a2:=by rw[hQ,zA]
  have hpl:a0.length=P.length:=by rw[hP,zj]
  have hdl:a3.length=D.length:=by rw[hD,zj]
  have gd:∀k,a3.getD k (.int .i64 0)=.int .i64 (D.getD k 0):=fun k=>by rw[hD,zE]
  obtain⟨n,hn⟩:∃n:Int,n=P.length:=⟨_,rfl⟩;obtain⟨m,hm⟩:∃m:Int,m=D.length:=⟨_,rfl⟩;have hf1:qH a0 a1 a2=false->uS a0 a1 a2 a3=([],[],[],1):=fun h=>by rw[uS,h];rfl
  have hf2:qH a0 a1 a2=true->(D.length≠P.length\/zhR D=false)->uS a0 a1 a2 a3=([],[],[],2):=fun h h2=>by
   rw[uS,h,hdl,hpl,hD,zr];rcases h2 with h2|h2
   ·rw[decide_eq_false h2];rfl
   ·rw[h2,Bool.and_false];rfl
  have hf3:qH a0 a1 a2=true->D.length=P.length->zhR D=true->uS a0 a1 a2 a3=KC a0 a1 (I (zdy P S D P.length)):=fun h h2 h3=>by
   rw[uS,h,hdl,hpl,hD,zr,h3,decide_eq_true h2,hP,hS,zr,zr,h2];rfl
  generalize qQ:qH=Zp;generalize jV:Qc=ZZ;generalize yp:yi=qP;generalize zo9:znc=zpA;generalize zoT:zwo=zvF;generalize zl3:zyc=ztW;generalize zlU:zrA=ztQ;generalize zkg:KC=zkk;refine KR (T:=tab) (B:=[(132,QW Zp ZZ),(82,qW qP),(133,zta zpA zvF),(135,zs9 ztW ztQ),(134,ztf zkk ZZ)]) (Bi:=[]) [1000019007,0,1,2,4,5,6,7,8,9,10,11,12] Tryz.func114 rfl rfl (by kernel_rfl) (ze rfl) mixed zR (by subst qQ jV yp zo9 zoT zl3 zlU zkg;exact(zn zbP (zn JE (zn zlc (zn znZ (zn zqu zB)))))) (by subst qQ jV yp zo9 zoT zl3 zlU zkg;exact zy) (by kernel_rfl) ?_;intro L lp rr hL hr hf hlp;have Ef:Zp a0 a1 a2=qH a0 a1 a2:=by rw[<-qQ]
  have Ei:∀x,qP x (-1000) 1000=(decide (-1000<=x)&&decide (x<=1000)):=fun x=>by rw[<-yp];rfl
  conv=>cbv
  simp only[zo hL,sQ,g0,g1,g2,Ef,hpl,hdl,<-hn,<-hm];refine⟨by rw[<-jV];exact hq,fun h=>?_,fun hcl0=>⟨fun h=>?_,fun hmn=>?_⟩⟩
  ·rw[hr,hf1 h];rfl
  ·rw[hr,hf2 hcl0 (.inl (by omega))];rfl
  have hqv:Qd a0 a1 a2:=zjK hq hcl0;have hcl:ClP P S Q:=by have:=hqv.2;rwa [hP,hS,hQ,zr,zr,zr]at this
  have n24:=hcl.n24
  refine hlp (Int) _ _ _ [1,2,4,6] (fun x=>[(1,none,.val (.slc false 2 (.int .i64 0) a3)),(2,none,.val (.box 31 (.agg [.slc false 2 (.int .i64 0) a0,.slc false 2 (.int .i64 0) a1,.slc false 2 (.int .i64 0) a2]))),(4,none,.val (.box 31 (.agg [.slc true 2 (.int .i64 0) [],.slc true 2 (.int .i64 0) [],.slc true 2 (.int .i64 0) []]))),(6,none,.val (.int .i64 x))])
   (fun x=>0<=x/\x<=m/\∀t:Nat,t<x.toNat->-1000<=D.getD t 0/\D.getD t 0<=1000) (fun x=>(m-x).toNat) (0) (by subst hL;rfl) ?_ ?_
  ·exact⟨by simp,by omega,fun t ht=>by simp at ht⟩
  rintro i ⟨i0,i1,hI⟩ hfx ag hag
  conv=>cbv
  simp only[zo hL,sQ,g0,g1,g2,hdl,gd,Ei,<-hm];rw[zl (n:=i+1) (by omega) (by omega)];refine⟨fun h2=>⟨i0,h2,fun h3=>?_,fun h3=>?_⟩,fun h2=>?_⟩
  ·rw[hr,hf2 hcl0 (.inr (zBK (i:=i.toNat) (by omega) (fun h4=>by omega)))];rfl
  ·refine hag (i+1) ⟨by omega,by omega,fun t ht=>?_⟩ (by omega)
   by_cases e:t=i.toNat
   ·rw[e];exact h3
   ·exact hI t (by omega)
  have hex:zhR D=true:=zzZ fun t ht=>hI t (by omega);have hf0:=hf3 hcl0 (by omega) hex;have hdp:D.length=P.length:=by omega
  refine⟨by omega,ue _,by omega,?_⟩;obtain⟨vz,hvz⟩:∃vz,vz=List.replicate m.toNat (V.int .i64 0):=⟨_,rfl⟩;rw[<-hvz];have hvz2:vz=I (zdy P S D 0):=by rw[hvz,zc8,zdy,hm,zW]
  have Es:∀x:Int,0<=x->zpA a0 a1 a2 x=I (zk7 P S x.toNat):=fun x _=>by rw[<-zo9,znc,hP,hS,zr,zr]
  have Qs:∀x:Int,0<=x->x<n->zvF a0 a1 a2 x:=by
   rw[<-zoT];exact fun x h1 h2=>⟨hqv,h1,by rw[hpl];omega⟩
  have Ew:∀d,ztW a0 a1 a2 d=(a0,a1,d):=fun d=>by rw[<-zl3];rfl
  have Qw:∀d,YB d->ztQ a0 a1 a2 d:=by
   rw[<-zlU];exact fun d h=>⟨⟨⟨P,hP⟩,by rw[hpl];omega⟩,⟨⟨S,hS⟩,by rw[hS,zj,hcl.sl];omega⟩,⟨Q,hQ⟩,h⟩
  clear hag hfx ag
  refine hlp (List V×Int) _ _ _ [1,2,4,7,8] (fun x=>[(1,none,.val (.slc false 2 (.int .i64 0) a3)),(2,none,.val (.box 31 (.agg [.slc false 2 (.int .i64 0) a0,.slc false 2 (.int .i64 0) a1,.slc false 2 (.int .i64 0) a2]))),(4,none,.val (.box 31 (.agg [.slc true 2 (.int .i64 0) [],.slc true 2 (.int .i64 0) [],.slc true 2 (.int .i64 0) []]))),(7,none,.val (.slc true 2 (.int .i64 0) x.1)),(8,none,.val (.int .i64 x.2))])
   (fun x=>0<=x.2/\x.2<=m/\x.1=I (zdy P S D x.2.toNat)) (fun x=>(m-x.2).toNat) ((vz,0)) (by subst hL;rfl) ?_ ?_
  ·exact⟨by simp,by simp only;omega,hvz2⟩
  rintro⟨vl,j⟩ ⟨j0,j1,hJ⟩ hfx ag hag;simp only at j0 j1 hJ;have hvl:vl.length=D.length:=by rw[hJ,zj,zk1]
  have hfv:V.frzs vl=vl:=by rw[hJ,zA]
  obtain⟨vo,hvo⟩:∃vo,vo=zpA a0 a1 a2 j:=⟨_,rfl⟩
  conv=>cbv
  simp only[zo hL,sQ,g0,g1,g2,hdl,<-hm,hvl,hfv,Ew,<-hvo];refine⟨fun h3=>⟨Qs _ j0 (by omega),?_⟩,fun h3=>?_⟩
  ·rw[Es j j0]at hvo;obtain⟨own,hown⟩:∃own,own=zk7 P S j.toNat:=⟨_,rfl⟩;obtain⟨w,hw⟩:∃w,w=zdy P S D j.toNat:=⟨_,rfl⟩;rw[<-hown]at hvo;rw[<-hw]at hJ;have hwl:w.length=P.length:=(by rw[hw,zk1];omega);have hol:own.length=P.length:=(by rw[hown,zk7,zrg,yA,zS]);have hvol:vo.length=P.length:=(by rw[hvo,zj,hol]);have go:∀k,vo.getD k (.int .i64 0)=.int .i64 (own.getD k 0):=fun k=>(by rw[hvo,zE]);have hnx:zdy P S D (j.toNat+1)=zhX (D.getD j.toNat 0) own P.length w:=(by rw[zdy,<-hown,<-hw]);obtain⟨e,he⟩:∃e,e=D.getD j.toNat 0:=⟨_,rfl⟩;rw[<-he]at hnx
   refine hlp (List V×Int) _ _ _ [1,2,4,7,8,9,10] (fun x=>[(1,none,.val (.slc false 2 (.int .i64 0) a3)),(2,none,.val (.box 31 (.agg [.slc false 2 (.int .i64 0) a0,.slc false 2 (.int .i64 0) a1,.slc false 2 (.int .i64 0) a2]))),(4,none,.val (.box 31 (.agg [.slc true 2 (.int .i64 0) [],.slc true 2 (.int .i64 0) [],.slc true 2 (.int .i64 0) []]))),(7,none,.val (.slc true 2 (.int .i64 0) x.1)),(8,none,.val (.int .i64 j)),(9,none,.val (.slc true 2 (.int .i64 0) vo)),(10,none,.val (.int .i64 x.2))])
    (fun x=>0<=x.2/\x.2<=n/\x.1=I (zhX e own x.2.toNat w)) (fun x=>(n-x.2).toNat) ((vl,0)) (by subst hL;rfl) ?_ ?_
   ·exact⟨by simp,by simp only;omega,hJ⟩
   rintro⟨vk,k⟩ ⟨k0,k1,hK⟩ hfx2 ag2 hag2;simp only at k0 k1 hK;have hvk:vk.length=P.length:=(by rw[hK,zj,zlT,hwl]);have gk:∀k',vk.getD k' (.int .i64 0)=.int .i64 ((zhX e own k.toNat w).getD k' 0):=fun k'=>by rw[hK,zE]
   conv=>cbv
   simp only[zo hL,sQ,hdl,<-hm,<-hn,hvk,hvol,go,gk,gd,<-he];rw[zl (n:=k+1) (by omega) (by omega)];refine⟨fun h4=>?_,fun h4=>?_⟩
   ·iterate 14 try refine⟨by omega,?_⟩
    refine hag2 (_,k+1) ⟨by simp only;omega,by simp only;omega,?_⟩ (by simp only;omega);simp only;rw[show(k+1).toNat=k.toNat+1 by omega,zhX,hK,JB]
   ·rw[zl (n:=j+1) (by omega) (by omega)];refine hag (vk,j+1) ⟨by simp only;omega,by simp only;omega,?_⟩ (by simp only;omega);simp only;rw[show(j+1).toNat=j.toNat+1 by omega,hnx,hK,show k.toNat=P.length by omega]
  ·rw[hr,hf0];have hJ2:vl=I (zdy P S D P.length):=(by rw[hJ,show j.toNat=P.length by omega]);refine⟨Qw _ ⟨_,hJ⟩,by rw[<-jV];exact⟨⟨P,hP⟩,⟨S,hS⟩,⟨_,hJ⟩⟩,?_⟩
   have hffz:V.frzs (zkk a0 a1 vl).1=(KC a0 a1 vl).1/\V.frzs (zkk a0 a1 vl).2.1=(KC a0 a1 vl).2.1/\V.frzs (zkk a0 a1 vl).2.2.1=(KC a0 a1 vl).2.2.1:=by
    rw[<-zkg,KC]
    cases qH a0 a1 vl with
    |false=>exact⟨rfl,rfl,rfl⟩
    |true=>exact⟨g0,g1,hfv⟩
   rw[hffz.1,hffz.2.1,hffz.2.2,<-zkg,<-hJ2]
 ·cases h
end Go.Ax
namespace Go.Ax
open Go.Proofs
def zbV(fs:List (List Int)):List Int:=fs.flatMap fun r=>List.replicate (r.getD 1 0).toNat (r.getD 0 0)
structure FacOk (n:Nat) (fs:List (List Int)):Prop where
 len:fs.length<=24
 row:∀r∈fs,r.length=2/\0<=r.getD 0 0/\r.getD 0 0<n/\0<r.getD 1 0/\r.getD 1 0<=2500000
theorem zsv{l:List Int}:∀{i:Nat} {r:List Int},r∈KS l i->∃k,k<i/\r=[(k:Int),l.getD k 0]/\0<l.getD k 0
 |0,r,h=>by simp[KS]at h
 |i+1,r,h=>by
  rw[KS]at h;rcases List.mem_append.1 h with h|h
  ·obtain⟨k,h1,h2⟩:=zsv h;exact⟨k,by omega,h2⟩
  ·by_cases h0:0<l.getD i 0
   ·rw[if_pos h0,ya]at h;exact⟨i,by omega,h,h0⟩
   ·rw[if_neg h0]at h;cases h
theorem zvl{P S Q:List Int}(h:ClP P S Q):FacOk P.length (KS (Zd P S Q) P.length):=by
 refine⟨Nat.le_trans (zlH _ _) h.n24,fun r hr=>?_⟩;obtain⟨k,h1,rfl,h3⟩:=zsv hr;have h4:=zye h k;have h5:(Zd P S Q).getD k 0=exL P S Q k:=jx _ _ _ _ h1;have e0:([(k:Int),(Zd P S Q).getD k 0]:List Int).getD 0 0=k:=rfl;have e1:([(k:Int),(Zd P S Q).getD k 0]:List Int).getD 1 0=exL P S Q k:=h5;rw[h5]at h3;rw[e0,e1];exact⟨rfl,by omega,by omega,by omega,by omega⟩
theorem zxJ(fs:List (List Int))(r:List Int):zbV (fs++[r])=zbV fs++List.replicate (r.getD 1 0).toNat (r.getD 0 0):=by
 rw[zbV,List.flatMap_append,<-zbV];simp
theorem FacOk.get{n:Nat}{fs:List (List Int)}(h:FacOk n fs){i:Nat}(hi:i<fs.length):(fs.getD i []).length=2/\0<=(fs.getD i []).getD 0 0/\(fs.getD i []).getD 0 0<n/\0<(fs.getD i []).getD 1 0/\(fs.getD i []).getD 1 0<=2500000:=
 h.row _ (zcx hi)
theorem zxu{fs:List (List Int)}{i:Nat}(hi:i<fs.length):fs.take (i+1)=fs.take i++[fs.getD i []]:=zid fs i hi
theorem zu1{n:Nat}{fs:List (List Int)}(h:FacOk n fs):∀x∈zbV fs,0<=x/\x<n:=by
 intro x hx;rw[zbV,List.mem_flatMap]at hx;obtain⟨r,hr,hx⟩:=hx;have h1:=h.row r hr;have h2:=List.eq_of_mem_replicate hx;omega
def zjd(P S:List Int)(x:Int):List Int:=zje (KV P S x)
def okX(P S:List Int)(x:Int):Bool:=okC (KV P S x)
theorem zz7{P S:List Int}{x:Int}(h:okX P S x=true):zb9 (KV P S x)=(I (zjd P S x),0):=by rw[zb9,show okC (KV P S x)=true from h];rfl
theorem zBT{P S:List Int}{x:Int}(h:okX P S x=false):zb9 (KV P S x)=([],5):=by rw[zb9,show okC (KV P S x)=false from h];rfl
theorem zz6{P S Q:List Int}(h:ClP P S Q){x:Int}(h0:0<=x)(h1:x<P.length)(hok:okX P S x=true):(zjd P S x).length<=3000:=by
 have hl:=zcr h (show-1<=x by omega) h1;have hcl:(KV P S x).length<=30:=by rw[KV,zg4];omega
 obtain⟨⟨n,l,hs⟩,_⟩:=zrj hcl hok 0;rw[List.replicate_zero,List.append_nil]at hs;rw[zjd,zje,zkc hs,ug,zi];have hv:=znQ l n n hs.1.val (by have:=hs.1.hi;omega);omega
def com(P:List Int)(ps:List Int)(i k:Nat):Int:=if i=k then 0 else(shN (yG P (ps.getD i 0)) (yG P (ps.getD k 0)):Nat)
def zoA(P S:List Int)(ps:List Int):List V×List V×Int:=if ps.length=0\/6<ps.length then([],[],3)else bif ps.all (okX P S)then(BB true (ps.map (zjd P S)),II true (T2 ps.length (com P ps)),0)else([],[],5)
noncomputable def zb8(a b c:List V):List V×List V×Int:=bif qH a b c then(bif YR a b c then zoA (yO a) (yO b) (zbV (KS (Zd (yO a) (yO b) (yO c)) a.length))else([],[],5))else([],[],1)
end Go.Ax
namespace Go.Ax
open Go.Proofs
theorem zv7{pp:List Int}{x:Int}{t:Nat}(h:((pp++List.replicate t x).take 7).length<=6):(pp++List.replicate t x).take 7++[x]=(pp++List.replicate (t+1) x).take 7:=by
 rw[yb]at h;have h2:(pp++List.replicate t x).length<=6:=by omega
 rw[zG (by omega),jb,<-zZ,zG (by rw[zq];simp only[zi,zp];omega)]
theorem zxy{pp:List Int}{x:Int}{t c:Nat}(ht:t<=c)(h:t=c\/6<((pp++List.replicate t x).take 7).length):(pp++List.replicate t x).take 7=(pp++List.replicate c x).take 7:=by
 rcases h with h|h
 ·rw[h]
 ·rw[yb]at h
  have e:pp++List.replicate c x=(pp++List.replicate t x)++List.replicate (c-t) x:=by
   rw[zZ,List.replicate_append_replicate,show t+(c-t)=c by omega]
  rw[e];exact(List.take_append_of_le_length (by omega)).symm
end Go.Ax
namespace Go.Ax
open Go.Proofs
noncomputable def YY(a b c:List V):List V×List V×Int:=(V.frzs (zb8 a b c).1,(zb8 a b c).2.1,(zb8 a b c).2.2)
def zte(f:List V->List V->List V->List V×List V×Int)(q:List V->List V->List V->Prop):zK:=fun
 |[.agg [.slc false 2 (.int .i64 0) a0,.slc false 2 (.int .i64 0) a1,.slc false 2 (.int .i64 0) a2]]=>some ([q a0 a1 a2],.tup [.agg [.slc true 57 (.agg [.slc false 2 (.int .i64 0) []]) ((f a0 a1 a2).1),.slc true 29 (.slc true 2 (.int .i64 0) []) ((f a0 a1 a2).2.1)],.int .i64 ((f a0 a1 a2).2.2)])
 |_=>none
theorem zgk:yJ Tryz.prog 115 (zte YY Qc):=by
 intro args ps r h hp;unfold zte at h;split at h
 ·rename_i a0 a1 a2;simp only[za,zb]at h;obtain⟨rfl,rfl⟩:=h;have hq:Qc a0 a1 a2:=(zm.1 hp).1;obtain⟨⟨P,hP⟩,⟨S,hS⟩,⟨Q,hQ⟩⟩:=id hq;have g0:V.frzs a0=a0:=by rw[hP,zA]
  have g1:V.frzs a1=a1:=by rw[hS,zA]
  have g2:V.frzs a2=a2:=by rw[hQ,zA]
  have hpl:a0.length=P.length:=by rw[hP,zj]
  have hf1:qH a0 a1 a2=false->zb8 a0 a1 a2=([],[],1):=fun h=>by rw[zb8,h];rfl
  have hf2:qH a0 a1 a2=true->YR a0 a1 a2=false->zb8 a0 a1 a2=([],[],5):=fun h h2=>by rw[zb8,h,h2];rfl
  obtain⟨fs,hfs⟩:∃fs,fs=KS (Zd P S Q) P.length:=⟨_,rfl⟩;have hf3:qH a0 a1 a2=true->YR a0 a1 a2=true->zb8 a0 a1 a2=zoA P S (zbV fs):=fun h h2=>by rw[zb8,h,h2,hpl,hP,hS,hQ,zr,zr,zr,hfs];rfl
  have hff:zgZ a0 a1 a2=II true fs:=by rw[zgZ,hpl,hP,hS,hQ,zr,zr,zr,hfs]
  obtain⟨vf,hvf⟩:∃vf,vf=II true fs:=⟨_,rfl⟩;rw[<-hvf]at hff;have hvl:vf.length=fs.length:=by rw[hvf,yf]
  have gvf:∀k,vf.getD k (.slc true 2 (.int .i64 0) [])=.slc true 2 (.int .i64 0) (I (fs.getD k [])):=fun k=>by rw[hvf,qM]
  obtain⟨n,hn⟩:∃n:Int,n=fs.length:=⟨_,rfl⟩;generalize qQ:qH=Zp;generalize jV:Qc=ZZ;generalize zaj:YR=zmf;generalize Zn:Qd=zak;generalize zmb:zgZ=zt3;generalize zpy:znk=zv4;generalize zft:ziL=zhc;generalize zbn:zdo=zh7;generalize zpi:zqS=zvU;generalize zah:ziK=zfy;refine zzV (T:=tab) (B:=[(132,QW Zp ZZ),(136,QW zmf zak),(137,zj7 zt3 zak),(138,zoK zv4 zhc),(3000000138,zg6),(139,zj6 zh7 zhc),(98,zoF zvU zfy)]) (Bi:=[]) [1000016708,2000019811,2000019884,2000019998,2000023101,0,1,2,3,4,5,6,7,8,9,10,11,12,13,14,15,16,17] Tryz.func115 rfl rfl (by kernel_rfl) (ze rfl) mixed zR (by subst qQ jV zaj Zn zmb zpy zft zbn zpi zah;exact(zn zbP (zn zhl (zn zkm (zn zho (zn zoa (zn zgE (zn zqv zB)))))))) (by subst qQ jV zaj Zn zmb zpy zft zbn zpi zah;exact zy) (by kernel_rfl) ?_;intro L lp rr hL hr hf hlp;have Ef:zt3 a0 a1 a2=vf:=by rw[<-zmb];exact hff
  conv=>cbv
  simp only[zo hL,sQ,g0,g1,g2,Ef,hvl,<-hn];refine⟨by rw[<-jV];exact hq,fun h=>?_,fun hcl0=>?_⟩
  ·rw[hr,YY,hf1 (by rw[<-h,<-qQ])]
  have hcl1:qH a0 a1 a2=true:=by rw[<-hcl0,<-qQ]
  have hqv:Qd a0 a1 a2:=zjK hq hcl1;have hcl:ClP P S Q:=by have:=hqv.2;rwa [hP,hS,hQ,zr,zr,zr]at this
  have Qv:zak a0 a1 a2:=by rw[<-Zn];exact hqv
  have hfo:FacOk P.length fs:=by rw[hfs];exact zvl hcl
  have hl24:=hfo.len;refine⟨Qv,fun h=>?_,fun hco0=>?_⟩
  ·rw[hr,YY,hf2 hcl1 (by rw[<-h,<-zaj])]
  have hco1:YR a0 a1 a2=true:=by rw[<-hco0,<-zaj]
  have hf0:=hf3 hcl1 hco1;refine⟨Qv,?_⟩
  refine hlp (List V×Int) _ _ _ [1,2,4,5,6] (fun x=>[(1,none,.val (.box 31 (.agg [.slc false 2 (.int .i64 0) a0,.slc false 2 (.int .i64 0) a1,.slc false 2 (.int .i64 0) a2]))),(2,none,.val (.box 27 (.agg [.slc true 57 (.agg [.slc true 2 (.int .i64 0) []]) [],.slc true 29 (.slc true 2 (.int .i64 0) []) []]))),(4,none,.val (.slc true 29 (.slc true 2 (.int .i64 0) []) vf)),(5,none,.val (.slc true 2 (.int .i64 0) x.1)),(6,none,.val (.int .i64 x.2))])
   (fun x=>0<=x.2/\x.2<=n/\x.1=I ((zbV (fs.take x.2.toNat)).take 7)) (fun x=>(n-x.2).toNat) (([],0)) (by subst hL;rfl) ?_ ?_
  ·exact⟨by simp,by simp only;omega,rfl⟩
  rintro⟨vp,i⟩ ⟨i0,i1,hI⟩ hfx ag hag;simp only at i0 i1 hI;obtain⟨ni,hni⟩:∃ni:Nat,ni=i.toNat:=⟨_,rfl⟩;rw[<-hni]at hI;have hvpl:vp.length=((zbV (fs.take ni)).take 7).length:=by rw[hI,zj]
  conv=>cbv
  simp only[zo hL,sQ,g0,g1,g2,hvl,gvf,<-hn,zE,zj,<-hni];refine⟨fun h2=>?_,fun h2=>?_⟩
  ·obtain⟨r1,r2,r3,r4,r5⟩:=hfo.get (i:=ni) (by omega);obtain⟨xx,hx⟩:∃xx,xx=(fs.getD ni []).getD 0 0:=⟨_,rfl⟩;rw[<-hx]at r2 r3;obtain⟨c,hc⟩:∃c,c=(fs.getD ni []).getD 1 0:=⟨_,rfl⟩;rw[<-hc]at r4 r5;obtain⟨pp,hpp⟩:∃pp,pp=zbV (fs.take ni):=⟨_,rfl⟩;rw[<-hpp]at hI;have hnx:zbV (fs.take (ni+1))=pp++List.replicate c.toNat xx:=(by rw[zxu (by omega),zxJ,<-hpp,<-hx,<-hc]);simp only[<-hc];refine⟨i0,h2,by omega,by omega,by omega,by omega,by omega,by omega,?_⟩
   refine hlp (List V×Int) _ _ _ [1,2,4,5,6,7] (fun x=>[(1,none,.val (.box 31 (.agg [.slc false 2 (.int .i64 0) a0,.slc false 2 (.int .i64 0) a1,.slc false 2 (.int .i64 0) a2]))),(2,none,.val (.box 27 (.agg [.slc true 57 (.agg [.slc true 2 (.int .i64 0) []]) [],.slc true 29 (.slc true 2 (.int .i64 0) []) []]))),(4,none,.val (.slc true 29 (.slc true 2 (.int .i64 0) []) vf)),(5,none,.val (.slc true 2 (.int .i64 0) x.1)),(6,none,.val (.int .i64 i)),(7,none,.val (.int .i64 x.2))])
    (fun x=>0<=x.2/\x.2<=c/\x.1=I ((pp++List.replicate (c-x.2).toNat xx).take 7)) (fun x=>x.2.toNat) ((vp,c)) (by subst hL;rfl) ?_ ?_
   ·exact⟨by simp only;omega,by simp,by simp only;rw[hI];simp⟩
   rintro⟨vp2,e⟩ ⟨e0,e1,hI2⟩ hfx2 ag2 hag2;simp only at e0 e1 hI2;have hvl2:vp2.length=((pp++List.replicate (c-e).toNat xx).take 7).length:=(by rw[hI2,zj]);have hv7:vp2.length<=7:=by rw[hvl2,yb];omega
   conv=>cbv
   simp only[zo hL,sQ,hvl,gvf,<-hn,zE,zj,<-hni,<-hx];refine⟨fun h5=>⟨i0,h2,by omega,by omega,by omega,by omega,by omega,by omega,rfl,by simp only[zi,zp];omega,fun z hz=>by(simp only[ya]at hz;subst hz;rfl),?_⟩,fun h5=>?_⟩
   ·rw[zl (n:=e-1) (by omega) (by omega)];refine hag2 (_,e-1) ⟨by simp only;omega,by simp only;omega,?_⟩ (by simp only;omega);simp only;rw[show(c-(e-1)).toNat=(c-e).toNat+1 by omega,<-zv7 (by rw[<-hvl2];omega),<-jY,<-hI2];rfl
   ·rw[zl (n:=i+1) (by omega) (by omega)];refine hag (vp2,i+1) ⟨by simp only;omega,by simp only;omega,?_⟩ (by simp only;omega);simp only
    rw[show(i+1).toNat=ni+1 by omega,hnx,hI2,zxy (t:=(c-e).toNat) (c:=c.toNat) (by omega) (by
     rcases h5 with h5|h5
     ·exact .inl (by omega)
     ·exact .inr (by rw[<-hvl2];omega))]
  have htk:fs.take ni=fs:=zG (by omega);obtain⟨ps,hps⟩:∃ps,ps=zbV fs:=⟨_,rfl⟩;rw[htk,<-hps]at hI hvpl;rw[<-hps]at hf0;rw[yb]at hvpl;refine⟨fun h3=>?_,fun h3=>?_⟩
  ·have h4:ps.length=0\/6<ps.length:=(by omega);rw[hr,YY,hf0,zoA,if_pos h4]
  have hp6:1<=ps.length/\ps.length<=6:=by omega
  have hf4:zoA P S ps=bif ps.all (okX P S)then(BB true (ps.map (zjd P S)),II true (T2 ps.length (com P ps)),0)else([],[],5):=by rw[zoA,if_neg (by omega)]
  rw[zG (by omega)]at hI;have hvl3:vp.length=ps.length:=by rw[hI,zj]
  have gvp:∀k,vp.getD k (.int .i64 0)=.int .i64 (ps.getD k 0):=fun k=>by rw[hI,zE]
  have hbatx:∀x:Int,0<=x->x<P.length->zv4 a0 a1 a2 x=zb9 (KV P S x):=fun x h1 h2=>by rw[<-zpy,znk,hP,hS,zr,zr]
  have Qp:∀x:Int,0<=x->x<P.length->zhc a0 a1 a2 x:=by
   rw[<-zft];exact fun x h1 h2=>⟨hqv,h1,by rw[hpl];exact h2⟩
  have Ep:∀x:Int,zh7 a0 a1 a2 x=I (yG P x):=fun x=>by rw[<-zbn,zdo,hP,zr]
  have hpin:∀k,k<ps.length->0<=ps.getD k 0/\ps.getD k 0<P.length:=fun k hk=>zu1 hfo (ps.getD k 0) (by rw[<-hps];exact zlz hk);obtain⟨m,hm⟩:∃m:Int,m=ps.length:=⟨_,rfl⟩;clear hag hfx ag
  refine hlp ((List V×List V)×Int) _ _ _ [1,2,5,8,9,10] (fun x=>[(1,none,.val (.box 31 (.agg [.slc false 2 (.int .i64 0) a0,.slc false 2 (.int .i64 0) a1,.slc false 2 (.int .i64 0) a2]))),(2,none,.val (.box 27 (.agg [.slc true 57 (.agg [.slc true 2 (.int .i64 0) []]) [],.slc true 29 (.slc true 2 (.int .i64 0) []) []]))),(5,none,.val (.slc true 2 (.int .i64 0) vp)),(8,none,.val (.box 27 (.agg [.slc true 57 (.agg [.slc false 2 (.int .i64 0) []]) x.1.1,.slc true 29 (.slc true 2 (.int .i64 0) []) []]))),(9,none,.val (.slc true 29 (.slc true 2 (.int .i64 0) []) x.1.2)),(10,none,.val (.int .i64 x.2))])
   (fun x=>0<=x.2/\x.2<=m/\x.1.1=BB false ((ps.take x.2.toNat).map (zjd P S))/\x.1.2=II true ((ps.take x.2.toNat).map (yG P))/\∀y∈ps.take x.2.toNat,okX P S y=true) (fun x=>(m-x.2).toNat) ((([],[]),0)) (by subst hL;rfl) ?_ ?_
  ·exact⟨by simp,by simp only;omega,rfl,rfl,fun y hy=>by cases hy⟩
  rintro⟨⟨bs,qs⟩,j⟩ ⟨j0,j1,hB,hQ2,hok⟩ hfx ag hag;simp only at j0 j1 hB hQ2 hok;obtain⟨nj,hnj⟩:∃nj:Nat,nj=j.toNat:=⟨_,rfl⟩;rw[<-hnj]at hB hQ2 hok;have hbl:bs.length<=6:=by rw[hB,jj,zQ,yb];omega
  have hql:qs.length<=6:=by rw[hQ2,yf,zQ,yb];omega
  conv=>cbv
  simp only[zo hL,sQ,g0,g1,g2,hvl3,gvp,<-hm,<-hnj,Ep];refine⟨fun h4=>?_,fun h4=>?_⟩
  ·have hnl:nj<ps.length:=(by omega);obtain⟨x,hx⟩:∃x,x=ps.getD nj 0:=⟨_,rfl⟩;obtain⟨x0,x1⟩:=hpin nj hnl;rw[<-hx]at x0 x1;simp only[<-hx,hbatx x x0 x1];have hxm:x∈ps:=(by rw[hx];exact zlz hnl);have htk2:ps.take (nj+1)=ps.take nj++[x]:=(by rw[List.take_succ_eq_append_getElem hnl,zvg hnl,hx]);refine⟨j0,h4,hnl,Qp x x0 x1,?_⟩
   cases hox:okX P S x with
   |false=>
    rw[zBT hox];refine⟨fun _=>?_,fun h=>by cases h⟩;have hall:ps.all (okX P S)=false:=(by rw[List.all_eq_false];exact⟨x,hxm,by rw[hox];simp⟩);rw[hr,YY,hf0,hf4,hall];rfl
   |true=>
    rw[zz7 hox,zl (n:=j+1) (by omega) (by omega)];refine⟨fun h=>absurd rfl h,fun _=>⟨by simp only[zi,zp];omega,fun z hz=>by(simp only[ya]at hz;subst hz;rfl),j0,h4,hnl,Qp x x0 x1,by simp only[zi,zp];omega,fun z hz=>by(simp only[ya]at hz;subst hz;rfl),?_⟩⟩;refine hag ((_,_),j+1) ⟨by simp only;omega,by simp only;omega,?_,?_,fun y hy=>?_⟩ (by simp only;omega)
    ·simp only;rw[show(j+1).toNat=nj+1 by omega,htk2,List.map_append,hB];simp[BB]
    ·simp only;rw[show(j+1).toNat=nj+1 by omega,htk2,List.map_append,hQ2];simp[II]
    ·simp only at hy;rw[show(j+1).toNat=nj+1 by omega,htk2]at hy;rcases List.mem_append.1 hy with hy|hy
     ·exact hok y hy
     ·rw[ya]at hy;rw[hy];exact hox
  have htj:ps.take nj=ps:=zG (by omega);rw[htj]at hB hQ2 hok;have hall:ps.all (okX P S)=true:=by rw[yd];exact hok
  have hf5:zb8 a0 a1 a2=(BB true (ps.map (zjd P S)),II true (T2 ps.length (com P ps)),0):=by rw[hf0,hf4,hall];rfl
  have hqsl:qs.length=ps.length:=by rw[hQ2,yf,zQ]
  have gqs:∀k,k<ps.length->qs.getD k (.slc true 2 (.int .i64 0) [])=.slc true 2 (.int .i64 0) (I (yG P (ps.getD k 0))):=fun k hk=>by
   rw[hQ2,qM];congr 2;rw[zd,zN,zg hk,zd,zg hk];rfl
  have Eh:∀(xs:List Int) (y:Int),zvU (I xs) y=decide (y∈xs):=fun xs y=>by rw[<-zpi,zqS,zr];rw[Bool.eq_iff_iff];simp
  have hplen:∀k,k<ps.length->(yG P (ps.getD k 0)).length<=24:=fun k hk=>zcr hcl (by have:=hpin k hk;omega) (hpin k hk).2
  have Qh:∀(k:Nat) (y:Int),k<ps.length->zfy (I (yG P (ps.getD k 0))) y:=by
   rw[<-zah];exact fun k y hk=>⟨⟨_,rfl⟩,by rw[zj];have:=hplen k hk;omega⟩
  clear hag hfx ag
  refine hlp (List V×Int) _ _ _ [2,5,8,9,13] (fun x=>[(2,none,.val (.box 27 (.agg [.slc true 57 (.agg [.slc true 2 (.int .i64 0) []]) [],.slc true 29 (.slc true 2 (.int .i64 0) []) []]))),(5,none,.val (.slc true 2 (.int .i64 0) vp)),(8,none,.val (.box 27 (.agg [.slc true 57 (.agg [.slc false 2 (.int .i64 0) []]) bs,.slc true 29 (.slc true 2 (.int .i64 0) []) x.1]))),(9,none,.val (.slc true 29 (.slc true 2 (.int .i64 0) []) qs)),(13,none,.val (.int .i64 x.2))])
   (fun x=>0<=x.2/\x.2<=m/\x.1=II true (yI (fun a=>yI (com P ps a) ps.length) x.2.toNat)) (fun x=>(m-x.2).toNat) (([],0)) (by subst hL;rfl) ?_ ?_
  ·exact⟨by simp,by simp only;omega,rfl⟩
  rintro⟨ms,i⟩ ⟨i0,i1,hM⟩ hfx ag hag;simp only at i0 i1 hM;obtain⟨ni,hni⟩:∃ni:Nat,ni=i.toNat:=⟨_,rfl⟩;rw[<-hni]at hM;have hml:ms.length=ni:=by rw[hM,yf,yo]
  conv=>cbv
  simp only[zo hL,sQ,hvl3,<-hm,<-hni];refine⟨fun h5=>?_,fun h5=>?_⟩
  ·have hnil:ni<ps.length:=by omega
   refine hlp (List V×Int) _ _ _ [2,5,8,9,13,14,15] (fun x=>[(2,none,.val (.box 27 (.agg [.slc true 57 (.agg [.slc true 2 (.int .i64 0) []]) [],.slc true 29 (.slc true 2 (.int .i64 0) []) []]))),(5,none,.val (.slc true 2 (.int .i64 0) vp)),(8,none,.val (.box 27 (.agg [.slc true 57 (.agg [.slc false 2 (.int .i64 0) []]) bs,.slc true 29 (.slc true 2 (.int .i64 0) []) ms]))),(9,none,.val (.slc true 29 (.slc true 2 (.int .i64 0) []) qs)),(13,none,.val (.int .i64 i)),(14,none,.val (.slc true 2 (.int .i64 0) x.1)),(15,none,.val (.int .i64 x.2))])
    (fun x=>0<=x.2/\x.2<=m/\x.1=I (yI (com P ps ni) x.2.toNat)) (fun x=>(m-x.2).toNat) (([],0)) (by subst hL;rfl) ?_ ?_
   ·exact⟨by simp,by simp only;omega,rfl⟩
   rintro⟨rs,k⟩ ⟨k0,k1,hR⟩ hfx2 ag2 hag2;simp only at k0 k1 hR;obtain⟨nk,hnk⟩:∃nk:Nat,nk=k.toNat:=⟨_,rfl⟩;rw[<-hnk]at hR;have hrl:rs.length=nk:=by rw[hR,zj,yo]
   conv=>cbv
   simp only[zo hL,sQ,hvl3,<-hm,<-hnk];refine⟨fun h6=>?_,fun h6=>?_⟩
   ·have hkl:nk<ps.length:=by omega
    refine hlp (Int×Int) _ _ _ [2,5,8,9,13,14,15,16,17] (fun x=>[(2,none,.val (.box 27 (.agg [.slc true 57 (.agg [.slc true 2 (.int .i64 0) []]) [],.slc true 29 (.slc true 2 (.int .i64 0) []) []]))),(5,none,.val (.slc true 2 (.int .i64 0) vp)),(8,none,.val (.box 27 (.agg [.slc true 57 (.agg [.slc false 2 (.int .i64 0) []]) bs,.slc true 29 (.slc true 2 (.int .i64 0) []) ms]))),(9,none,.val (.slc true 29 (.slc true 2 (.int .i64 0) []) qs)),(13,none,.val (.int .i64 i)),(14,none,.val (.slc true 2 (.int .i64 0) rs)),(15,none,.val (.int .i64 k)),(16,none,.val (.int .i64 x.1)),(17,none,.val (.int .i64 x.2))])
     (fun x=>0<=x.2/\x.2<=24/\(i=k->x.2=0)/\x.1=(shN ((yG P (ps.getD nk 0)).take x.2.toNat) (yG P (ps.getD ni 0)):Nat)) (fun x=>(24-x.2).toNat) ((0,0)) (by subst hL;rfl) ?_ ?_
    ·exact⟨by simp,by simp,fun _=>rfl,by simp[shN]⟩
    rintro⟨s,j⟩ ⟨j0',j1',hjk,hS2⟩ hfx3 ag3 hag3;simp only at j0' j1' hjk hS2
    conv=>cbv
    simp only[zo hL,sQ,hqsl,<-hm,<-hnk,<-hni,gqs nk hkl,gqs ni hnil,zE,zj,Eh];have hpk:=hplen nk hkl;refine⟨k0,h6,hkl,hkl,fun h7=>⟨i0,h5,hnil,k0,h6,hkl,hkl,j0',h7.1,hkl,by omega,hnil,Qh ni _ hnil,?_⟩,fun h7=>⟨rfl,by simp only[zi,zp];omega,fun z hz=>by(simp only[ya]at hz;subst hz;rfl),?_⟩⟩
    ·have hst:=zy8 (b:=yG P (ps.getD ni 0)) (show j.toNat<(yG P (ps.getD nk 0)).length by omega);have hsl:=zCs ((yG P (ps.getD nk 0)).take j.toNat) (yG P (ps.getD ni 0));rw[yb]at hsl;have hj1:(j+1).toNat=j.toNat+1:=(by omega);refine⟨fun h8=>?_,fun h8=>?_⟩
     ·rw[if_pos h8]at hst;rw[zl (n:=s+1) (by omega) (by omega),zl (n:=j+1) (by omega) (by omega)];exact hag3 (s+1,j+1) ⟨by simp only;omega,by simp only;omega,fun h9=>absurd h9 h7.2,by simp only;rw[hj1,hst,hS2];simp⟩ (by simp only;omega)
     ·rw[if_neg h8]at hst;rw[zl (n:=j+1) (by omega) (by omega)];exact hag3 (s,j+1) ⟨by simp only;omega,by simp only;omega,fun h9=>absurd h9 h7.2,by simp only;rw[hj1,hst,hS2];simp⟩ (by simp only;omega)
    ·have hsv:s=com P ps ni nk:=by
      by_cases hik:i=k
      ·have h8:=hjk hik;rw[com,if_pos (by omega),hS2,h8];rfl
      ·have h8:(yG P (ps.getD nk 0)).length<=j.toNat:=by
        rcases h7 with h7|h7
        ·omega
        ·exact absurd h7 hik
       have h9:=hpin ni hnil;have h10:=hpin nk hkl;rw[com,if_neg (by omega),hS2,zG h8,zy9 (zhs hcl (by omega) h10.2) (zhs hcl (by omega) h9.2)]
     rw[zl (n:=k+1) (by omega) (by omega)];refine hag2 (_,k+1) ⟨by simp only;omega,by simp only;omega,?_⟩ (by simp only;omega);simp only;rw[show(k+1).toNat=nk+1 by omega,JX,<-jY,<-hR,<-hsv];rfl
   ·rw[zl (n:=i+1) (by omega) (by omega)];refine⟨by simp only[zi,zp];omega,jT (by simp[V.solid]),?_⟩;refine hag (_,i+1) ⟨by simp only;omega,by simp only;omega,?_⟩ (by simp only;omega);simp only;rw[show(i+1).toNat=ni+1 by omega,JX,uP,<-hM,zyH,hR,show nk=ps.length by omega]
  ·have hin:ni=ps.length:=(by omega);rw[hr,YY,hf5,hM,hB,hin];simp only[uf];rfl
 ·cases h
end Go.Ax
namespace Go.Ax
open Go.Proofs
def zua(A B:List V):Prop:=∃bs ms:List (List Int),A=BB false bs/\B=II true ms/\1<=bs.length/\bs.length<=6/\ms.length=bs.length/\(∀i,i<bs.length->(bs.getD i []).length<=3000)/\∀i,i<bs.length->(ms.getD i []).length=bs.length
theorem zsC{a b c:List V}(h:(YY a b c).2.2=0):zua (YY a b c).1 (YY a b c).2.1:=by
 simp only[YY,zb8]at h ⊢
 cases hh:qH a b c with
 |false=>rw[hh]at h;cases h
 |true=>
  rw[hh]at h
  cases h2:YR a b c with
  |false=>rw[h2]at h;cases h
  |true=>
   rw[h2]at h;have hc:ClP (yO a) (yO b) (yO c):=KO.1 hh;have hal:a.length=(yO a).length:=(by rw[yO,zQ]);have hfo:=zvl hc;rw[hal]at h ⊢;obtain⟨ps,hps⟩:∃ps,ps=zbV (KS (Zd (yO a) (yO b) (yO c)) (yO a).length):=⟨_,rfl⟩;simp only[cond_true,<-hps,zoA]at h ⊢;by_cases hn:ps.length=0\/6<ps.length
   ·rw[if_pos hn]at h;cases h
   ·rw[if_neg hn]at h;rw[if_neg hn]
    cases ha:ps.all (okX (yO a) (yO b))with
    |false=>rw[ha]at h;cases h
    |true=>
     rw[yd]at ha;refine⟨ps.map (zjd (yO a) (yO b)),T2 ps.length (com (yO a) ps),by simp only[cond_true];rw[uf],rfl,by rw[zQ];omega,by rw[zQ];omega,by rw[zQ,T2,yo],fun i hi=>?_,fun i hi=>?_⟩
     ·rw[zQ]at hi;rw[zd,zN,zg hi];have hm:=yE hi;have:=zu1 hfo _ (by rw[<-hps];exact hm);exact zz6 hc this.1 this.2 (ha _ hm)
     ·rw[zQ]at hi ⊢;rw[T2,jx _ _ _ _ hi,yo]
def dwL(es:List V)(n:Int):Nat->List Int×Int×Int->List Int×Int×Int
 |0,x=>x
 |k+1,x=>dwL es n k (x.1.set (kC es x.2 n).toNat (W (x.1.getD (kC es x.2 n).toNat 0+1)),qf es x.2 n)
abbrev CvR:Type:=List V×List V×Int×Int
noncomputable def dwU(es:List V)(P S:List Int)(σ:Int×Int):Option (List V×List V)×Int×Int:=
 let l:=dwL es P.length (1+kC es σ 4).toNat (List.replicate P.length 0,qf es σ 4)
 let d:=uS (I P) (I S) (I (List.replicate P.length 0)) (I l.1)
 if d.2.2.2=0 then
  if 0<kC es l.2 5/\(YY d.1 d.2.1 d.2.2.1).2.2=0 then(some ((YY d.1 d.2.1 d.2.2.1).1,(YY d.1 d.2.1 d.2.2.1).2.1),qf es l.2 5)else(none,qf es l.2 5)
 else(none,l.2)
noncomputable def dwT(es:List V)(σ:Int×Int):Option (List V×List V)×Int×Int:=
 let p:=ptF es (KI es σ [3,5,8]) (Yf es σ [3,5,8])
 dwU es p.1 p.2.1 p.2.2
theorem zBI{a b c:List V}(h:Qc a b c):Qc (KC a b c).1 (KC a b c).2.1 (KC a b c).2.2.1:=by
 rw[KC]
 cases qH a b c with
 |false=>exact⟨⟨[],rfl⟩,⟨[],rfl⟩,⟨[],rfl⟩⟩
 |true=>exact h
theorem zBJ{a b c d:List V}(h:Qc a b c):Qc (uS a b c d).1 (uS a b c d).2.1 (uS a b c d).2.2.1:=by
 rw[uS]
 cases qH a b c with
 |false=>exact⟨⟨[],rfl⟩,⟨[],rfl⟩,⟨[],rfl⟩⟩
 |true=>
  cases decide (d.length=a.length)&&zhR (yO d)with
  |false=>exact⟨⟨[],rfl⟩,⟨[],rfl⟩,⟨[],rfl⟩⟩
  |true=>exact zBI ⟨h.1,h.2.1,⟨_,rfl⟩⟩
def dwB(l:List Int):List Int:=if YO l=true then l else[2,3]
def dwE(es:List V)(σ:Int×Int):CvR:=
 let s:=smF es σ.1 σ.2 8 40
 let b:=dwB s.1
 let τ:=qf es s.2 2
 if kC es s.2 2=0 then(BB false [b],II true [[0]],τ)
 else(BB false [b,b],II true [[0,W ((YG b).length+kC es τ 3)],[W ((YG b).length+kC es τ 3),0]],qf es τ 3)
noncomputable def dwN(es:List V):Nat->Int×Int->CvR
 |0,σ=>dwE es σ
 |k+1,σ=>match (dwT es σ).1 with
  |some r=>(r.1,r.2,(dwT es σ).2)
  |none=>dwN es k (dwT es σ).2
noncomputable def zb6(es:List V)(a h:Int):CvR:=dwN es 4 (a,h)
theorem zyi{es:List V}{n:Int}(h1:1<=n):∀(k:Nat) {x:List Int×Int×Int},yh es x.2.1 x.2.2->yh es (dwL es n k x).2.1 (dwL es n k x).2.2/\(dwL es n k x).1.length=x.1.length
 |0,_,h=>⟨h,rfl⟩
 |k+1,x,h=>by
  have:=zyi h1 k (x:=(x.1.set (kC es x.2 n).toNat (W (x.1.getD (kC es x.2 n).toNat 0+1)),qf es x.2 n)) (kB (σ:=x.2) h);simpa [dwL]using this
theorem zBN{es:List V}{P S:List Int}{σ:Int×Int}(h:yh es σ.1 σ.2)(hn:1<=P.length):yh es (dwU es P S σ).2.1 (dwU es P S σ).2.2:=by
 have h1:=kB (σ:=σ) (n:=4) h;have h2:=(zyi (n:=P.length) (by omega) (1+kC es σ 4).toNat (x:=(List.replicate P.length 0,qf es σ 4)) h1).1;have h3:=kB (n:=5) h2;unfold dwU;simp only;split
 ·split<;>exact h3
 ·exact h2
theorem zCQ{es:List V}{P S:List Int}{σ:Int×Int}{r:List V×List V}(h:(dwU es P S σ).1=some r):zua r.1 r.2:=by
 unfold dwU at h;simp only at h;split at h
 ·split at h
  ·rename_i h2;simp only[za]at h;subst h;exact zsC h2.2
  ·cases h
 ·cases h
theorem zwE{es:List V}{σ:Int×Int}(h:yh es σ.1 σ.2):1<=Yf es σ [3,5,8]/\Yf es σ [3,5,8]<=24:=by
 have:=zeI (σ:=σ) (l:=[3,5,8]) h (by simp);simp at this;omega
theorem zBO{es:List V}{σ:Int×Int}(h:yh es σ.1 σ.2):yh es (dwT es σ).2.1 (dwT es σ).2.2:=by
 have h1:=zxL (zbu (σ:=σ) (l:=[3,5,8]) h) (zwE h).1 (zwE h).2;exact zBN h1.src h1.n1
theorem zsL(l:List Int):Br (dwB l):=by
 unfold dwB;split
 ·rename_i h;exact jL h
 ·exact jL (by decide+kernel)
theorem zCR{es:List V}{σ:Int×Int}(h:yh es σ.1 σ.2):zua (dwE es σ).1 (dwE es σ).2.1/\yh es (dwE es σ).2.2.1 (dwE es σ).2.2.2:=by
 have h1:=(zjF (most:=8) (term:=40) ⟨h,by omega,by omega⟩).1;have h2:=kB (n:=2) h1;have h3:=kB (n:=3) h2;have hb:=(zsL (smF es σ.1 σ.2 8 40).1).len;unfold dwE;simp only;split
 ·refine⟨⟨_,_,rfl,rfl,by simp,by simp,rfl,fun i hi=>?_,fun i hi=>?_⟩,h2⟩
  ·simp only[zi,zp]at hi;obtain rfl:i=0:=(by omega);show(dwB _).length<=3000;omega
  ·simp only[zi,zp]at hi;obtain rfl:i=0:=(by omega);rfl
 ·refine⟨⟨_,_,rfl,rfl,by simp,by simp,rfl,fun i hi=>?_,fun i hi=>?_⟩,h3⟩
  ·simp only[zi,zp]at hi;rcases (show i=0\/i=1 by omega)with rfl|rfl
   ·show(dwB _).length<=3000;omega
   ·show(dwB _).length<=3000;omega
  ·simp only[zi,zp]at hi;rcases (show i=0\/i=1 by omega)with rfl|rfl<;>rfl
theorem zyh{es:List V}:∀(k:Nat) {σ:Int×Int},yh es σ.1 σ.2->zua (dwN es k σ).1 (dwN es k σ).2.1/\yh es (dwN es k σ).2.2.1 (dwN es k σ).2.2.2
 |0,σ,h=>zCR h
 |k+1,σ,h=>by
  have h1:=zBO h;rw[dwN];split
  ·rename_i r hr;exact⟨zCQ hr,h1⟩
  ·exact zyh k h1
theorem zsA{es:List V}{a h:Int}(hq:yh es a h):zua (zb6 es a h).1 (zb6 es a h).2.1/\yh es (zb6 es a h).2.2.1 (zb6 es a h).2.2.2:=zyh 4 (σ:=(a,h)) hq
def zsj(f:List V->Int->Int->List V×List V×Int×Int)(q:List V->Int->Int->Prop):kQ:=fun
 |[.box 101 (.agg [.slc false 5 (.int .u8 0) a0,.int .i64 a1,.int .u64 a2])]=>some ([q a0 a1 a2],.agg [.slc true 57 (.agg [.slc false 2 (.int .i64 0) []]) (f a0 a1 a2).1,.slc true 29 (.slc true 2 (.int .i64 0) []) (f a0 a1 a2).2.1],.box 101 (.agg [.slc false 5 (.int .u8 0) a0,.int .i64 (f a0 a1 a2).2.2.1,.int .u64 (f a0 a1 a2).2.2.2]))
 |_=>none
theorem znX:zfe Tryz.prog 78 1000 (zsj zb6 yh):=by
 intro args ps r y h hp;unfold zsj at h;split at h
 ·rename_i a0 a1 a2;simp only[za,zb]at h;obtain⟨rfl,rfl,rfl⟩:=h;have hq:yh a0 a1 a2:=(zm.1 hp).1;obtain⟨E,hE⟩:∃E,E=zb6 a0 a1 a2:=⟨_,rfl⟩;have hE0:dwN a0 4 (a1,a2)=E:=hE.symm;generalize yR:jo=jJ;generalize yN:jK=jD;generalize yM:jU=jC;generalize qU:zeF=uH;generalize jB:Yp=Zs;generalize jA:QQ=Zr;generalize jz:QP=Zq;generalize kw:zeE=YE;generalize zpc:zqP=zvQ;generalize zoW:zwq=zvI;generalize zpr:uS=zvZ;generalize zo3:zwy=zB6;generalize zpt:YY=zv0;generalize jV:Qc=ZZ;generalize zfu:zi2=ztY;generalize zfp:zlk=ztS;generalize kh:uM=uR;generalize yP:ub=ki;generalize zcS:zf1=zkl;generalize jQ:Yz=ZF;generalize kI:same=YD;refine zBG (T:=tab) (B:=[(114,zoI zvZ zB6),(115,zte zv0 ZZ),(81,Ke uR ki),(87,zqY zkl ZF),(117,zj5 YD ki)]) (Bi:=[(41,0,false,zc1 jJ jD jC uH),(42,0,false,zd8 Zs Zr Zq YE),(113,1000,false,zsi zvQ zvI),(116,1000,false,zqN ztY ztS)]) 0 [1000011004,1000011005,1000022012,2000004820,2000022089,2000022090,2000022092,2000022094,2000022095,0,2,3,4,5,6,7,8,9,10,11,12,13] Tryz.func78 rfl rfl (by kernel_rfl) (ze rfl) mixed zR (by subst yR yN yM qU jB jA jz kw zpc zoW zpr zo3 zpt jV zfu zfp kh yP zcS jQ kI;exact(zn zeA (zn zgk (zn zbQ (zn zfJ (zn zqt zB)))))) (by subst yR yN yM qU jB jA jz kw zpc zoW zpr zo3 zpt jV zfu zfp kh yP zcS jQ kI;exact(jg uK (jg ZG (jg zld (jg zfK zy))))) (by kernel_rfl) rfl rfl zbK rfl ?_;intro L lp rr yy hL hr hy hf hlp;have Qn:∀a h n,yh a0 a h->uH a0 a h n:=fun a h n hs=>by rw[<-qU];exact hs
  conv=>cbv
  refine hlp (Int×Int×Int) _ _ _ [0,2,3] (fun x=>[(0,none,.val (.box 101 (.agg [.slc false 5 (.int .u8 0) a0,.int .i64 x.1,.int .u64 x.2.1]))),(2,none,.val (.box 27 (.agg [.slc true 57 (.agg [.slc true 2 (.int .i64 0) []]) [],.slc true 29 (.slc true 2 (.int .i64 0) []) []]))),(3,none,.val (.int .i64 x.2.2))])
   (fun x=>0<=x.2.2/\x.2.2<=4/\yh a0 x.1 x.2.1/\dwN a0 (4-x.2.2).toNat (x.1,x.2.1)=E) (fun x=>(4-x.2.2).toNat) ((a1,a2,0)) (by subst hL;rfl) ?_ ?_
  ·exact⟨by simp,by simp,hq,hE0⟩
  rintro⟨a,h,k⟩ ⟨k0,k1,hs,hN⟩ hfx ag hag;simp only at k0 k1 hs hN;obtain⟨m,hm⟩:∃m,m=Yp a0 a h (I [3,5,8]):=⟨_,rfl⟩;obtain⟨A1,hA1⟩:∃A1,A1=QQ a0 a h (I [3,5,8]):=⟨_,rfl⟩;obtain⟨H1,hH1⟩:∃H1,H1=QP a0 a h (I [3,5,8]):=⟨_,rfl⟩;have hm24:1<=m/\m<=24:=by rw[hm];exact zwE (σ:=(a,h)) hs
  have s1:yh a0 A1 H1:=by rw[hA1,hH1];exact uo hs
  obtain⟨⟨P,S,A2,H2⟩,hpt⟩:∃z:PtS,z=ptF a0 (A1,H1) m:=⟨_,rfl⟩;have hok:=zxL (σ:=(A1,H1)) s1 hm24.1 hm24.2;rw[<-hpt]at hok;have n1:=hok.n1;have n24:=hok.n;have nsl:=hok.sl;have s2:yh a0 A2 H2:=hok.src;simp only at n1 n24 nsl
  have hT:dwT a0 (a,h)=dwU a0 P S (A2,H2):=by
   have:ptF a0 (KI a0 (a,h) [3,5,8]) (Yf a0 (a,h) [3,5,8])=(P,S,A2,H2):=(by rw[hpt,hA1,hH1,hm]);rw[dwT,this]
  obtain⟨n,hn⟩:∃n:Int,n=P.length:=⟨_,rfl⟩;obtain⟨c,hc⟩:∃c,c=1+jo a0 A2 H2 4:=⟨_,rfl⟩;have c1:=Jj (n:=4) s2 (by omega);obtain⟨A3,hA3⟩:∃A3,A3=jK a0 A2 H2 4:=⟨_,rfl⟩;obtain⟨H3,hH3⟩:∃H3,H3=jU a0 A2 H2 4:=⟨_,rfl⟩;have s3:yh a0 A3 H3:=by rw[hA3,hH3];exact uo s2
  obtain⟨EL,hEL⟩:∃EL,EL=dwL a0 n c.toNat (List.replicate P.length 0,A3,H3):=⟨_,rfl⟩
  have hU:dwU a0 P S (A2,H2)=if(uS (I P) (I S) (I (List.replicate P.length 0)) (I EL.1)).2.2.2=0 then
   (if 0<kC a0 EL.2 5/\(YY (uS (I P) (I S) (I (List.replicate P.length 0)) (I EL.1)).1 (uS (I P) (I S) (I (List.replicate P.length 0)) (I EL.1)).2.1 (uS (I P) (I S) (I (List.replicate P.length 0)) (I EL.1)).2.2.1).2.2=0 then
    (some ((YY (uS (I P) (I S) (I (List.replicate P.length 0)) (I EL.1)).1 (uS (I P) (I S) (I (List.replicate P.length 0)) (I EL.1)).2.1 (uS (I P) (I S) (I (List.replicate P.length 0)) (I EL.1)).2.2.1).1,(YY (uS (I P) (I S) (I (List.replicate P.length 0)) (I EL.1)).1 (uS (I P) (I S) (I (List.replicate P.length 0)) (I EL.1)).2.1 (uS (I P) (I S) (I (List.replicate P.length 0)) (I EL.1)).2.2.1).2.1),qf a0 EL.2 5)else(none,qf a0 EL.2 5))else(none,EL.2):=by
   rw[hEL,hA3,hH3,hc,hn];rfl
  obtain⟨vp,hvp⟩:∃vp,vp=I P:=⟨_,rfl⟩;obtain⟨vs,hvs⟩:∃vs,vs=I S:=⟨_,rfl⟩;obtain⟨vw,hvw⟩:∃vw,vw=I (List.replicate P.length 0):=⟨_,rfl⟩;rw[<-hvp,<-hvs,<-hvw]at hU;have hvpl:vp.length=P.length:=by rw[hvp,zj]
  have fvp:V.frzs vp=vp:=by rw[hvp,zA]
  have fvs:V.frzs vs=vs:=by rw[hvs,zA]
  have fvw:V.frzs vw=vw:=by rw[hvw,zA]
  have g3:∀l,l=I [3,5,8]->Zs a0 a h l=m/\Zr a0 a h l=A1/\Zq a0 a h l=H1/\YE a0 a h l:=by
   intro l hl;rw[hl,<-jB,<-jA,<-jz,<-kw,hm,hA1,hH1];exact⟨rfl,rfl,rfl,hs,⟨_,rfl⟩,by simp,by simp⟩
  obtain⟨g4,g5,g6,g7⟩:=g3 (V.frzs (V.frzs [V.int IntKind.i64 3,V.int IntKind.i64 5,V.int IntKind.i64 8])) rfl;have g8:zvQ a0 A1 H1 m=(vp,vs,vw,A2,H2):=by rw[<-zpc,zqP,<-hpt,hvp,hvs,hvw]
  have g9:zvI a0 A1 H1 m:=by rw[<-zoW];exact⟨s1,hm24.1,hm24.2⟩
  have g10:jJ a0 A2 H2 4=c-1:=by rw[<-yR];omega
  have g11:jD a0 A2 H2 4=A3:=by rw[<-yN,hA3]
  have g12:jC a0 A2 H2 4=H3:=by rw[<-yM,hH3]
  conv=>cbv
  simp only[zo hL,sQ,g4,g5,g6,g7,g8,g9,g10,g11,g12,hvpl,<-hn,show 1+(c-1)=c by omega,zl (n:=c) (by omega) (by omega)];refine⟨fun hk=>?_,fun hk=>?_⟩
  ·refine⟨by omega,ue _,by omega,Qn _ _ _ s2,?_⟩;obtain⟨vz,hvz⟩:∃vz,vz=List.replicate n.toNat (V.int .i64 0):=⟨_,rfl⟩;have hvz2:vz=I (List.replicate P.length 0):=(by rw[hvz,zc8,hn,zW]);rw[<-hvz]
   refine hlp (List V×Int×Int×Int) _ _ _ [0,2,3,4,5,6] (fun x=>[(0,none,.val (.box 101 (.agg [.slc false 5 (.int .u8 0) a0,.int .i64 x.2.1,.int .u64 x.2.2.1]))),(2,none,.val (.box 27 (.agg [.slc true 57 (.agg [.slc true 2 (.int .i64 0) []]) [],.slc true 29 (.slc true 2 (.int .i64 0) []) []]))),(3,none,.val (.int .i64 k)),(4,none,.val (.box 31 (.agg [.slc true 2 (.int .i64 0) vp,.slc true 2 (.int .i64 0) vs,.slc true 2 (.int .i64 0) vw]))),(5,none,.val (.slc true 2 (.int .i64 0) x.1)),(6,none,.val (.int .i64 x.2.2.2))])
    (fun x=>0<=x.2.2.2/\x.2.2.2<=4/\∃l:List Int,x.1=I l/\l.length=P.length/\yh a0 x.2.1 x.2.2.1/\dwL a0 n x.2.2.2.toNat (l,x.2.1,x.2.2.1)=EL) (fun x=>x.2.2.2.toNat) ((vz,A3,H3,c)) (by subst hL;rfl) ?_ ?_
   ·exact⟨by simp only;omega,by simp only;omega,_,hvz2,zS,s3,hEL.symm⟩
   rintro⟨vl,b,g,i⟩ ⟨i0,i4,l,hl,hll,hsl,hdl⟩ hfx2 ag2 hag2;simp only at i0 i4 hl hll hsl hdl;have hvll:vl.length=P.length:=(by rw[hl,zj,hll]);have fvl:V.frzs vl=vl:=(by rw[hl,zA]);obtain⟨t,ht⟩:∃t,t=jo a0 b g n:=⟨_,rfl⟩;obtain⟨B1,hB1⟩:∃B1,B1=jK a0 b g n:=⟨_,rfl⟩;obtain⟨G1,hG1⟩:∃G1,G1=jU a0 b g n:=⟨_,rfl⟩;have t1:=Jj (n:=n) hsl (by omega);have sB:yh a0 B1 G1:=(by rw[hB1,hG1];exact uo hsl);have gl:∀j,vl.getD j (.int .i64 0)=.int .i64 (l.getD j 0):=fun j=>(by rw[hl,zE]);have gset:∀j x,vl.set j (.int .i64 x)=I (l.set j x):=fun j x=>(by rw[hl,JB]);have e0:jJ a0 b g n=t:=(by rw[<-yR,ht]);have e1:jD a0 b g n=B1:=(by rw[<-yN,hB1]);have e2:jC a0 b g n=G1:=(by rw[<-yM,hG1]);obtain⟨⟨D1,D2,D3,code⟩,hD⟩:∃d,d=uS vp vs vw vl:=⟨_,rfl⟩;obtain⟨⟨cb,cm,bad⟩,hC⟩:∃d,d=YY D1 D2 D3:=⟨_,rfl⟩;obtain⟨v,hv⟩:∃v,v=jo a0 b g 5:=⟨_,rfl⟩;obtain⟨B5,hB5⟩:∃B5,B5=jK a0 b g 5:=⟨_,rfl⟩;obtain⟨G5,hG5⟩:∃G5,G5=jU a0 b g 5:=⟨_,rfl⟩;have e3:zvZ vp vs vw vl=(D1,D2,D3,code):=(by rw[<-zpr,hD]);have e4:zv0 D1 D2 D3=(cb,cm,bad):=(by rw[<-zpt,hC]);have e5:jJ a0 b g 5=v:=(by rw[<-yR,hv]);have e6:jD a0 b g 5=B5:=(by rw[<-yN,hB5]);have e7:jC a0 b g 5=G5:=(by rw[<-yM,hG5]);have hDK:=zBJ (a:=vp) (b:=vs) (c:=vw) (d:=vl) ⟨⟨_,hvp⟩,⟨_,hvs⟩,⟨_,hvw⟩⟩;rw[<-hD]at hDK;simp only at hDK;obtain⟨x1,fD1⟩:∃x,D1=I x:=hDK.1;obtain⟨x2,fD2⟩:∃x,D2=I x:=hDK.2.1;obtain⟨x3,fD3⟩:∃x,D3=I x:=hDK.2.2;have fD1:V.frzs D1=D1:=(by rw[fD1,zA]);have fD2:V.frzs D2=D2:=(by rw[fD2,zA]);have fD3:V.frzs D3=D3:=(by rw[fD3,zA]);clear g3 g4 g5 g6 g7 g8 g9 g10 g11 g12 hm hA1 hH1 hA3 hH3 hpt
   conv=>cbv
   simp only[zo hL,sQ,e0,e1,e2,e3,e4,e5,e6,e7,hvll,hvpl,<-hn,gl,gset,fvp,fvs,fvw,fvl,fD1,fD2,fD3];have wk:IntKind.wrap .i64 (k+1)=k+1:=zl (by omega) (by omega);rw[zl (n:=i-1) (by omega) (by omega),wk];refine⟨fun h2=>?_,fun h2=>?_⟩
   ·refine⟨Qn _ _ _ hsl,by omega,by omega,by omega,by omega,by omega,by omega,?_⟩;refine hag2 (_,B1,G1,i-1) ⟨by simp only;omega,by simp only;omega,_,rfl,by rw[yA,hll],sB,?_⟩ (by simp only;omega);simp only;rw[show i.toNat=(i-1).toNat+1 by omega,dwL]at hdl;rw[ht,hB1,hG1];exact hdl
   have hEL2:EL=(l,b,g):=by rw[<-hdl,show i.toNat=0 by omega];rfl
   have hU2:dwU a0 P S (A2,H2)=if code=0 then(if 0<v/\bad=0 then(some (cb,cm),B5,G5)else(none,B5,G5))else(none,b,g):=by
    subst hG5 hB5 hv;rw[hU,hEL2];simp only[<-hl,<-hD,<-hC]
   have hN2:(match (dwT a0 (a,h)).1 with
    |some r=>(r.1,r.2,(dwT a0 (a,h)).2)
    |none=>dwN a0 (4-(k+1)).toNat (dwT a0 (a,h)).2)=E:=by
    rw[show(4-k).toNat=(4-(k+1)).toNat+1 by omega]at hN;exact hN
   rw[hT,hU2]at hN2;have s5:yh a0 B5 G5:=(by rw[hB5,hG5];exact uo hsl);refine⟨by rw[<-zo3];exact⟨⟨⟨_,hvp⟩,⟨_,hvs⟩,⟨_,hvw⟩⟩,⟨_,hl⟩⟩,fun hc0=>⟨hc0,Qn _ _ _ hsl,fun h3=>⟨by rw[<-jV];exact hDK,fun hb0=>?_,fun hb0=>?_⟩,fun h3=>?_⟩,fun hc0=>⟨fun h3=>absurd h3.1 hc0,fun _=>?_⟩⟩
   ·rw[if_pos hc0,if_pos ⟨h3.2,hb0⟩]at hN2;obtain⟨bs',ms',q1,_⟩:=zsC (a:=D1) (b:=D2) (c:=D3) (by rw[<-hC];exact hb0);rw[<-hC]at q1;simp only at q1;rw[hr,hy,<-hE,<-hN2,show V.frzs cb=cb by rw[q1,uf]];exact⟨rfl,rfl⟩
   ·rw[if_pos hc0,if_neg (fun h4=>hb0 h4.2)]at hN2;exact hag (B5,G5,k+1) ⟨by simp only;omega,by simp only;omega,s5,hN2⟩ (by simp only;omega)
   ·rw[if_pos hc0,if_neg (fun h4=>by omega)]at hN2;exact hag (B5,G5,k+1) ⟨by simp only;omega,by simp only;omega,s5,hN2⟩ (by simp only;omega)
   ·rw[if_neg hc0]at hN2;exact hag (b,g,k+1) ⟨by simp only;omega,by simp only;omega,hsl,hN2⟩ (by simp only;omega)
  ·have hk4:(4-k).toNat=0:=(by omega);rw[hk4]at hN;obtain⟨⟨sl,A6,H6⟩,hsm⟩:∃z,z=smF a0 a h 8 40:=⟨_,rfl⟩;have hqs:zlk a0 a h 8 40:=⟨hs,by omega,by omega⟩;have hs6:=zjF hqs;rw[<-hsm]at hs6;obtain⟨s6,l6,l7⟩:=hs6;simp only at s6 l6 l7;have Esm:zi2 a0 a h 8 40=(I sl,A6,H6):=(by rw[zi2,<-hsm]);have Eb:uM (I sl)=YO sl:=(by rw[uM,zr]);have hN3:(dwE a0 (a,h))=E:=hN;rw[dwE]at hN3;simp only[<-hsm]at hN3;subst yR yN yM qU zfu zfp kh yP zcS jQ kI;have e23:V.frzs [V.int .i64 2,V.int .i64 3]=I [2,3]:=rfl;have Ec:∀l:List Int,zf1 (I l)=((YG l).length:Int):=fun l=>by rw[zf1,zr]
   have fin:∀(b:List Int),dwB sl=b->(jo a0 A6 H6 2=0->(BB false [b],II true [[0]],qf a0 (A6,H6) 2)=E)/\
    (¬jo a0 A6 H6 2=0->(BB false [b,b],II true [[0,W ((YG b).length+kC a0 (qf a0 (A6,H6) 2) 3)],[W ((YG b).length+kC a0 (qf a0 (A6,H6) 2) 3),0]],qf a0 (qf a0 (A6,H6) 2) 3)=E):=by
    intro b hb;rw[hb]at hN3;exact⟨fun h=>by rw[<-hN3];exact(if_pos h).symm,fun h=>by rw[<-hN3];exact(if_neg h).symm⟩
   simp only[Esm,zA,Eb,e23,Ec,same];have isl:∀l:List Int,l.length<=4->ub (I l):=fun l h=>⟨⟨l,rfl⟩,by rw[zj];omega⟩;refine⟨hqs,isl sl l7,fun hb=>?_,fun hb=>?_⟩
   ·have hd:dwB sl=[2,3]:=(by rw[dwB,if_neg (by rw[hb];decide)]);obtain⟨f1,f2⟩:=fin _ hd;refine⟨s6,fun h5=>?_,fun h5=>⟨⟨_,rfl,by rw[<-hd];exact zsL sl⟩,uo s6,isl _ (by decide),?_⟩⟩
    ·rw[hr,hy,<-hE,<-f1 h5];exact⟨rfl,rfl⟩
    ·rw[hr,hy,<-hE,<-f2 h5];exact⟨rfl,rfl⟩
   ·have hd:dwB sl=sl:=(by rw[dwB,if_pos (by simpa using hb)]);obtain⟨f1,f2⟩:=fin _ hd;have eb1:V.frzs [V.agg [V.slc true 2 (V.int IntKind.i64 0) (I sl)]]=BB false [sl]:=uf true [sl]
    have eb2:V.frzs [V.agg [V.slc false 2 (V.int IntKind.i64 0) (I sl)],V.agg [V.slc true 2 (V.int IntKind.i64 0) (I sl)]]=BB false [sl,sl]:=by
     simp only[V.frzs,V.frz,zA];rfl
    refine⟨s6,fun h5=>?_,fun h5=>⟨⟨_,rfl,by rw[<-hd];exact zsL sl⟩,uo s6,isl _ l7,?_⟩⟩
    ·rw[hr,hy,<-hE,<-f1 h5,eb1];exact⟨rfl,rfl⟩
    ·rw[hr,hy,<-hE,<-f2 h5,eb2];exact⟨rfl,rfl⟩
 ·cases h
end Go.Ax
namespace Go.Ax
open Go.Proofs
theorem ztw:∀xs:List Int,V.frzs (U8 xs)=U8 xs
 |[]=>rfl
 |x::xs=>by
  have:=ztw xs;simp only[U8]at this;simp only[U8,List.map_cons,V.frzs,V.frz,this]
end Go.Ax
namespace Go.Ax
open Go.Proofs
def zev(ms:List (List Int))(i k x:Int):List (List Int):=ms.set i.toNat ((ms.getD i.toNat []).set k.toNat x)
abbrev CvS:Type:=List (List Int)×List (List Int)×Int×Int
def spC(es:List V)(bs ms:List (List Int))(τ:Int×Int):CvS:=
 let r:Int:=bs.length
 let v:=kC es τ 30
 let τ1:=qf es τ 30
 let i:=kC es τ1 r
 let τ2:=qf es τ1 r
 let k:=kC es τ2 r
 let τ3:=qf es τ2 r
 if v=0 then(bs,zev ms i k (Yf es τ3 [0,1,2,201,-1]),KI es τ3 [0,1,2,201,-1])
 else if v=1 then(bs.set i.toNat (spF es τ2.1 τ2.2).1,ms,(spF es τ2.1 τ2.2).2)
 else if v=2 then(bs,ms.drop 1,τ1)
 else if v=3 then
  (if i=k then(bs,ms,qf es τ3 4)else(bs,zev (zev ms i k (1+kC es τ3 4)) k i (1+kC es τ3 4),qf es τ3 4))
 else(bs,ms,τ1)
structure CvD (es:List V) (z:CvS):Prop where
 n1:1<=z.1.length
 n6:z.1.length<=6
 row:∀x∈z.1,x.length<=3000
 m6:z.2.1.length<=6
 mrow:∀x∈z.2.1,x.length<=6
 src:yh es z.2.2.1 z.2.2.2
theorem znV{ms:List (List Int)}{i k x:Int}(h6:ms.length<=6)(h:∀x∈ms,x.length<=6):(zev ms i k x).length<=6/\∀y∈zev ms i k x,y.length<=6:=by
 refine⟨by rw[zev,yA];exact h6,fun y hy=>?_⟩;rw[zev]at hy;rcases List.mem_or_eq_of_mem_set hy with hy|rfl
 ·exact h y hy
 ·rw[yA,zd];by_cases hi:i.toNat<ms.length
  ·rw[zg hi];exact h _ (yE hi)
  ·rw[List.getElem?_eq_none (by omega)];simp
theorem zCq{es:List V}{bs ms:List (List Int)}{τ:Int×Int}(hs:yh es τ.1 τ.2)(h1:1<=bs.length)(h6:bs.length<=6)(hr:∀x∈bs,x.length<=3000)(hm:ms.length<=6)(hmr:∀x∈ms,x.length<=6):CvD es (spC es bs ms τ):=by
 have s1:=kB (n:=30) hs;have s2:=kB (n:=bs.length) s1;have s3:=kB (n:=bs.length) s2;unfold spC;simp only;split
 ·obtain⟨a,b⟩:=znV (i:=kC es (qf es τ 30) bs.length) (k:=kC es (qf es (qf es τ 30) bs.length) bs.length) (x:=Yf es (qf es (qf es (qf es τ 30) bs.length) bs.length) [0,1,2,201,-1]) hm hmr;exact⟨h1,h6,hr,a,b,zbu s3⟩
 ·split
  ·obtain⟨a,b⟩:=zBf s2;refine⟨by simpa using h1,by simpa using h6,fun x hx=>?_,hm,hmr,a⟩;rcases List.mem_or_eq_of_mem_set hx with hx|rfl
   ·exact hr x hx
   ·exact Nat.le_trans b (by decide)
  ·split
   ·exact⟨h1,h6,hr,by simp only[List.length_drop];omega,fun x hx=>hmr x (List.mem_of_mem_drop hx),s1⟩
   ·split
    ·split
     ·exact⟨h1,h6,hr,hm,hmr,kB s3⟩
     ·obtain⟨a,b⟩:=znV (i:=kC es (qf es τ 30) bs.length) (k:=kC es (qf es (qf es τ 30) bs.length) bs.length) (x:=1+kC es (qf es (qf es (qf es τ 30) bs.length) bs.length) 4) hm hmr;obtain⟨a,b⟩:=znV (k:=kC es (qf es τ 30) bs.length) (i:=kC es (qf es (qf es τ 30) bs.length) bs.length) (x:=1+kC es (qf es (qf es (qf es τ 30) bs.length) bs.length) 4) a b;exact⟨h1,h6,hr,a,b,kB s3⟩
    ·exact⟨h1,h6,hr,hm,hmr,s1⟩
noncomputable def zgh(es:List V)(a h:Int):CvS:=spC es (jq (zb6 es a h).1) (qS (zb6 es a h).2.1) (zb6 es a h).2.2
theorem zBe{es:List V}{a h:Int}(hq:yh es a h):CvD es (zgh es a h):=by
 obtain⟨⟨bs,ms,e1,e2,h1,h6,hm,hb,hr⟩,hs⟩:=zsA hq;rw[zgh,e1,e2,yK,yq];refine zCq hs h1 h6 (fun x hx=>?_) (by omega) (fun x hx=>?_)
 ·obtain⟨i,hi,rfl⟩:=qK.1 hx;have:=hb i hi
  rwa [zd,zg hi]at this
 ·obtain⟨i,hi,rfl⟩:=qK.1 hx;have:=hr i (by omega);rw[zd,zg hi]at this;simp only[Option.getD_some]at this;omega
noncomputable def znb(es:List V)(a h:Int):List V×List V×Int×Int:=(BB false (zgh es a h).1,II false (zgh es a h).2.1,(zgh es a h).2.2)
def zsh(f:List V->Int->Int->List V×List V×Int×Int)(q:List V->Int->Int->Prop):kQ:=fun
 |[.box 101 (.agg [.slc false 5 (.int .u8 0) a0,.int .i64 a1,.int .u64 a2])]=>some ([q a0 a1 a2],.agg [.slc false 57 (.agg [.slc false 2 (.int .i64 0) []]) (f a0 a1 a2).1,.slc false 29 (.slc false 2 (.int .i64 0) []) (f a0 a1 a2).2.1],.box 101 (.agg [.slc false 5 (.int .u8 0) a0,.int .i64 (f a0 a1 a2).2.2.1,.int .u64 (f a0 a1 a2).2.2.2]))
 |_=>none
theorem zmv:zfe Tryz.prog 40 1000 (zsh znb yh):=by
 intro args ps r y h hp;unfold zsh at h;split at h
 ·rename_i a0 a1 a2;simp only[za,zb]at h;obtain⟨rfl,rfl,rfl⟩:=h;have hq:yh a0 a1 a2:=(zm.1 hp).1;obtain⟨⟨bs,ms,hb,hm,h1,h6,hml,hbl,hrl⟩,hs⟩:=zsA hq;obtain⟨⟨vb,vm,A,H⟩,hd⟩:∃d,d=zb6 a0 a1 a2:=⟨_,rfl⟩;rw[<-hd]at hb hm hs;simp only at hb hm hs;have hS:zgh a0 a1 a2=spC a0 bs ms (A,H):=by rw[zgh,<-hd];simp only[hb,hm,yK,yq]
  obtain⟨r,hr0⟩:∃r:Int,r=bs.length:=⟨_,rfl⟩;have hvb:vb.length=bs.length:=by rw[hb,jj]
  have hvm:vm.length=ms.length:=by rw[hm,yf]
  have gm:∀k,vm.getD k (.slc true 2 (.int .i64 0) [])=.slc true 2 (.int .i64 0) (I (ms.getD k [])):=fun k=>by rw[hm,qM]
  generalize yR:jo=jJ;generalize yN:jK=jD;generalize yM:jU=jC;generalize qU:zeF=uH;generalize jB:Yp=Zs;generalize jA:QQ=Zr;generalize jz:QP=Zq;generalize kw:zeE=YE;generalize zpk:zb6=zCc;generalize JP:yh=zem;generalize ztB:zsx=zDd;refine zBH (T:=tab) (B:=[]) (Bi:=[(41,0,false,zc1 jJ jD jC uH),(42,0,false,zd8 Zs Zr Zq YE),(78,1000,false,zsj zCc zem),(79,1000,false,zwY zDd zem)]) 0 [1000010003,2000005800,2000005820,2000005821,2000005824,2000005995,2000006832,2000008800,2000008837,2000008838,2000008841,2000008843,2000008995,2000015069,2000015074,3000008005,3000015007,0,2,3,4,5,6,7,8,9,10,17] Tryz.func40 rfl rfl (by kernel_rfl) (ze rfl) mixed zR (by subst yR yN yM qU jB jA jz kw zpk JP ztB;exact zB) (by subst yR yN yM qU jB jA jz kw zpk JP ztB;exact(jg uK (jg ZG (jg znX (jg zmx zy))))) (by kernel_rfl) rfl rfl zbK rfl ?_;intro L lp rr yy hL hr hy hf hlp
  conv=>cbv
  subst yR yN yM qU jB jA jz kw zpk JP ztB;obtain⟨v,hv⟩:∃v,v=jo a0 A H 30:=⟨_,rfl⟩;obtain⟨A1,hA1⟩:∃A1,A1=jK a0 A H 30:=⟨_,rfl⟩;obtain⟨H1,hH1⟩:∃H1,H1=jU a0 A H 30:=⟨_,rfl⟩;obtain⟨i,hi⟩:∃i,i=jo a0 A1 H1 r:=⟨_,rfl⟩;obtain⟨A2,hA2⟩:∃A2,A2=jK a0 A1 H1 r:=⟨_,rfl⟩;obtain⟨H2,hH2⟩:∃H2,H2=jU a0 A1 H1 r:=⟨_,rfl⟩;obtain⟨k,hk⟩:∃k,k=jo a0 A2 H2 r:=⟨_,rfl⟩;obtain⟨A3,hA3⟩:∃A3,A3=jK a0 A2 H2 r:=⟨_,rfl⟩;obtain⟨H3,hH3⟩:∃H3,H3=jU a0 A2 H2 r:=⟨_,rfl⟩;have s1:yh a0 A1 H1:=by rw[hA1,hH1];exact uo hs
  have s2:yh a0 A2 H2:=by rw[hA2,hH2];exact uo s1
  have s3:yh a0 A3 H3:=by rw[hA3,hH3];exact uo s2
  have i1:=Jj (n:=r) s1 (by omega);have k1:=Jj (n:=r) s2 (by omega);rw[<-hi]at i1;rw[<-hk]at k1;obtain⟨x,hx⟩:∃x,x=Yp a0 A3 H3 (I [0,1,2,201,-1]):=⟨_,rfl⟩;obtain⟨A4,hA4⟩:∃A4,A4=QQ a0 A3 H3 (I [0,1,2,201,-1]):=⟨_,rfl⟩;obtain⟨H4,hH4⟩:∃H4,H4=QP a0 A3 H3 (I [0,1,2,201,-1]):=⟨_,rfl⟩;obtain⟨n,hn⟩:∃n,n=1+jo a0 A3 H3 4:=⟨_,rfl⟩;obtain⟨A5,hA5⟩:∃A5,A5=jK a0 A3 H3 4:=⟨_,rfl⟩;obtain⟨H5,hH5⟩:∃H5,H5=jU a0 A3 H3 4:=⟨_,rfl⟩;have n1:=Jj (n:=4) s3 (by omega);obtain⟨⟨sl,A6,H6⟩,hsp⟩:∃z,z=spF a0 A2 H2:=⟨_,rfl⟩
  have hS2:zgh a0 a1 a2=if v=0 then(bs,zev ms i k x,A4,H4)else if v=1 then(bs.set i.toNat sl,ms,A6,H6)else if v=2 then(bs,ms.drop 1,A1,H1)
   else if v=3 then(if i=k then(bs,ms,A5,H5)else(bs,zev (zev ms i k n) k i n,A5,H5))else(bs,ms,A1,H1):=by
   have e1:sl=(spF a0 A2 H2).1:=(by rw[<-hsp]);have e2:(A6,H6)=(spF a0 A2 H2).2:=(by rw[<-hsp]);rw[hS,e1,e2,hn,hA5,hH5,hx,hA4,hH4,hk,hA3,hH3,hi,hA2,hH2,hv,hA1,hH1,hr0];rfl
  have fin:∀(xs ys:List (List Int)) (B G:Int),zgh a0 a1 a2=(xs,ys,B,G)->V.agg [V.slc false 57 (V.agg [V.slc false 2 (V.int IntKind.i64 0) []]) (BB false xs),V.slc false 29 (V.slc false 2 (V.int IntKind.i64 0) []) (II false ys)]=rr/\
   V.box 101 (V.agg [V.slc false 5 (V.int IntKind.u8 0) a0,V.int IntKind.i64 B,V.int IntKind.u64 G])=yy:=by
   intro xs ys B G e;rw[hr,hy,znb,e];exact⟨rfl,rfl⟩
  have hset:∀(j:Nat) (l:List Int),vm.set j (.slc true 2 (.int .i64 0) (I l))=II true (ms.set j l):=fun j l=>by rw[hm,II,II,JN]
  have hbset:∀(j:Nat) (l:List Int),vb.set j (.agg [.slc false 2 (.int .i64 0) (I l)])=BB false (bs.set j l):=fun j l=>by rw[hb,BB,BB,JN]
  have gb:∀j,vb.getD j (.agg [.slc false 2 (.int .i64 0) []])=.agg [.slc false 2 (.int .i64 0) (I (bs.getD j []))]:=fun j=>by rw[hb,QA]
  have gset:∀j l,(II true l).getD j (.slc true 2 (.int .i64 0) [])=.slc true 2 (.int .i64 0) (I (l.getD j [])):=fun j l=>qM true l j;have fvb:V.frzs vb=BB false bs:=by rw[hb,uf]
  have fvm:V.frzs vm=II false ms:=by rw[hm,ke]
  have fpk:∀l,l=I [0,1,2,201,-1]->Yp a0 A3 H3 l=x/\QQ a0 A3 H3 l=A4/\QP a0 A3 H3 l=H4:=fun l hl=>by rw[hl,hx,hA4,hH4];exact⟨rfl,rfl,rfl⟩
  obtain⟨p0,p1,p2⟩:=fpk (V.frzs (V.frzs [V.int IntKind.i64 0,V.int IntKind.i64 1,V.int IntKind.i64 2,V.int IntKind.i64 201,V.int IntKind.i64 (-1)])) rfl;have fsp:zsx a0 A2 H2=(I sl,A6,H6):=by rw[zsx,<-hsp]
  have hn2:jo a0 A3 H3 4=n-1:=by omega
  have wn:IntKind.wrap .i64 (1+(n-1))=n:=by rw[show 1+(n-1)=n by omega];exact zl (by omega) (by omega)
  simp only[zo hL,sQ,<-hd,hvb,<-hr0,hvm,gm,<-hv,<-hA1,<-hH1,<-hi,<-hA2,<-hH2,<-hk,<-hA3,<-hH3,hn2,<-hA5,<-hH5,p0,p1,p2,fsp,hset,hbset,gb,gset,JB,Qt,fvb,fvm,uf,ke,wn,yf,yA];have hri:=hrl i.toNat (by omega);have hrk:=hrl k.toNat (by omega)
  have hgk:i≠k->∀l,(ms.set i.toNat l).getD k.toNat []=ms.getD k.toNat []:=fun hne l=>by
   rw[zd,List.getElem?_set_ne (by omega),<-zd]
  refine⟨hq,hs,fun h=>?_,fun h=>⟨fun h2=>?_,fun h2=>⟨fun h3=>?_,fun h3=>⟨fun h4=>⟨s1,s2,s3,fun h5=>?_,fun h5=>?_⟩,fun h4=>?_⟩⟩⟩⟩
  ·rw[if_pos h]at hS2;exact⟨s1,i1.1,by omega,by omega,s2,⟨s3,⟨[0,1,2,201,-1],rfl⟩,by decide,by decide⟩,by omega,k1.1,by omega,by omega,by omega,fin _ _ _ _ hS2⟩
  ·rw[if_neg h,if_pos h2]at hS2;exact⟨s1,s2,i1.1,i1.2,by omega,fin _ _ _ _ hS2⟩
  ·rw[if_neg h,if_neg h2,if_pos h3]at hS2;refine⟨by omega,by omega,ue _,?_⟩
   have e:V.frzs (List.drop 1 (List.take ((ms.length:Int)).toNat (II false ms)))=II false (ms.drop 1):=by
    rw[zW,zG (by rw[yf];exact Nat.le_refl _),show List.drop 1 (II false ms)=II false (ms.drop 1) by rw[II,II,List.map_drop],ke]
   rw[e];exact fin _ _ _ _ hS2
  ·rw[if_neg h,if_neg h2,if_neg h3,if_pos h4,if_neg h5]at hS2;simp only[hgk h5]
   iterate 20 try refine⟨by omega,?_⟩
   have hset2:∀(X:List (List Int)) (j:Nat) (l:List Int),(II true X).set j (.slc true 2 (.int .i64 0) (I l))=II true (X.set j l):=fun X j l=>(by rw[II,II,JN]);simp only[zev,hgk h5]at hS2;rw[hset2,ke];exact fin _ _ _ _ hS2
  ·rw[if_neg h,if_neg h2,if_neg h3,if_pos h4,if_pos h5]at hS2;exact fin _ _ _ _ hS2
  ·rw[if_neg h,if_neg h2,if_neg h3,if_neg h4]at hS2;exact fin _ _ _ _ hS2
 ·cases h
end Go.Ax
namespace Go.Ax
open Go.Proofs
noncomputable def dsp(es:List V):CvS:=zgh es 0 (zei es)
theorem zyj{es:List V}(hq:IsU es):CvD es (dsp es):=zBe ⟨hq,ue _,Int.natCast_nonneg _⟩
def zw9(f:List V->List V×List V)(q:List V->Prop):zK:=fun
 |[.slc false 5 (.int .u8 0) a0]=>some ([q a0],.agg [.slc false 57 (.agg [.slc false 2 (.int .i64 0) []]) ((f a0).1),.slc false 29 (.slc false 2 (.int .i64 0) []) ((f a0).2)])
 |_=>none
theorem zwH{ms:List (List Int)}{l r:List Int}(h:r∈ZQ ms l):r.length=l.length:=by
 obtain⟨i,_,rfl⟩:=List.mem_map.1 h;exact zQ _
end Go.Ax
