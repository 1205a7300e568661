import Derived.Test.YtiepfglppnhpgaaGreatB08p3
import Derived.Test.YtiepfglppnhpgaaGreatB03p3
import Derived.Test.YtiepfglppnhpgaaGreatB02p3
import Derived.Test.YtiepfglppnhpgaaGreatB05p3
import Derived.Test.YtiepfglppnhpgaaGreatB04p3
set_option linter.all false
set_option maxRecDepth 100000
set_option maxHeartbeats 4000000
open Int renaming le_refl->qN,natCast_nonneg->jD,toNat_natCast->zL
open List renaming getD_eq_getElem?_getD->zd,getElem?_eq_getElem->ze,length_append->zr,length_cons->zj,length_nil->zu,length_replicate->zx,length_set->yj,length_singleton->zW,map_set->QW,mem_iff_getElem->qS,take_of_length_le->zB
open Nat renaming le_of_ble_eq_true->yh,le_refl->zw
open Option.some renaming injEq->za
open Prod.mk renaming injEq->zb
/-
 The cluster of a branch:the reference's side. No conditions but those of the contracts.
-/
namespace Go.Ax
open Go.Proofs
def zpc(f:List V->Int->List V×List V×List V)(q:List V->Int->Prop):zO:=fun
 |[.agg [.slc false 2 (.int .i64 0) a0],.int .i64 a1]=>some ([q a0 a1],.agg [.slc true 2 (.int .i64 0) ((f a0 a1).1),.slc true 2 (.int .i64 0) ((f a0 a1).2.1),.slc true 2 (.int .i64 0) ((f a0 a1).2.2)])
 |_=>none
def zkf(a:List V)(k:Int):List V×List V×List V:=(I (zlC k.toNat),I (zlB (yD a) k.toNat),I (kB (yD a) k.toNat))
def zrR(a:List V)(k:Int):Prop:=Qt a/\1<=k/\k<=24
theorem zAk{xs:List Int}(hx:Br xs){k j:Nat}(hj:j<k):zeh (mul xs) j=if 0<j/\(jv xs k).getD (j-1) 0≠0 then(j:Int)-(jv xs k).getD (j-1) 0 else-1:=by
 have hg:=(KU hx).1
 cases j with
 |zero=>rw[zzj,if_neg (by omega)]
 |succ j=>
  have e:(jv xs k).getD (j+1-1) 0=cd (mul xs) (j+1) (j+1):=by
   rw[jv,jp _ _ _ _ (by omega),show j+1-1+1=j+1 by omega]
  rw[e,zqh hg (by omega) (zw _)];rcases zkT hg j with⟨h1,h2⟩|⟨a,h3,_,h5,h2⟩
  ·rw[h1,h2,if_neg (by simp)]
  ·rw[h5,h2];simp only[zj,zu,List.getD_cons_zero];rw[if_pos (by omega),if_pos (by omega)];omega
theorem zgm:yM Tryz.prog 77 (zpc zkf zrR):=by
 intro args ps r h hp;unfold zpc at h;split at h
 ·rename_i a0 a1;cases h;obtain⟨⟨xs,hxs,hb⟩,k1,k2⟩:zrR a0 a1:=(zp.1 hp).1;have g1:V.frzs a0=a0:=by rw[hxs,zt]
  have hqf:Yf a0 a1:=⟨⟨xs,hxs,hb⟩,k1,by omega⟩;obtain⟨m,hm⟩:=qEx (I (kB xs a1.toNat));have efm:uA a0 a1=m:=by rw[hxs,uA,zl,hm]
  obtain⟨c,hc⟩:=qEx (I (jv xs a1.toNat));have efc:Kx a0 a1=c:=by rw[hxs,Kx,zl,hc]
  have hcl:c.length=a1.toNat-1:=by rw[hc,zg,jv,yi]
  have gc:∀k,c.getD k (.int .i64 0)=.int .i64 ((jv xs a1.toNat).getD k 0):=fun k=>by rw[hc,zG]
  have hnm:V.noFzs m=true:=by rw[hm];exact ZR _
  have hnc:V.noFzs c=true:=by rw[hc];exact ZR _
  have hf0:zkf a0 a1=(I (zlC a1.toNat),I (zlB xs a1.toNat),m):=by rw[zkf,hxs,zl,hm]
  generalize zc8:Kx=zdc,ud:Yf=uY,YL:uA=QD;refine zH (B:=[(106,ze4 zdc uY),(107,ze4 QD uY)]) (Bi:=[]) [2000001011,2000001014,0,1,2,4,5,6,7,8] Tryz.func77 rfl rfl (by subst zc8 ud YL;exact(zm zit (zm zeW zF))) zA ?_;intro L lp rr hL hr hf hlp;have Ef:QD a0 a1=m:=by rw[<-YL,efm]
  have Ec:zdc a0 a1=c:=by rw[<-zc8,efc]
  have Qf:uY a0 a1:=by rw[<-ud];exact hqf
  conv=>cbv
  simp only[zo hL,sQ,true_and,g1,Ef,Ec];refine⟨Qf,Qf,?_⟩
  refine hlp ((List V×List V)×Int) _ _ _ [1,2,4,5,6,7] (fun x=>[(wJ0 1 a1),(wJ8 2 a0),(wJ4 4),(wJ2 5 c),(wJ6 6 x.1.1 x.1.2 m),(wJ0 7 x.2)])
   (fun x=>0<=x.2/\x.2<=a1/\x.1.1=I (zlC x.2.toNat)/\x.1.2=I (zlB xs x.2.toNat)) (fun x=>(a1-x.2).toNat) ((([],[]),0)) (by subst hL;rfl) ?_ ?_
  ·exact⟨by simp,by simp only;omega,rfl,rfl⟩
  rintro⟨⟨ps,ss⟩,j⟩ ⟨j0,j1,hP,hS⟩ hfx ag hag;simp only at j0 j1 hP hS
  conv=>cbv
  simp only[zo hL,sQ,gc,hcl];refine⟨fun h4=>?_,fun h4=>?_⟩
  ·have hpl:ps.length=j.toNat:=(by rw[hP,zg,zCv]);have hsl:ss.length=j.toNat:=(by rw[hS,zg,zCu]);have hsc:=zAk hb (k:=a1.toNat) (j:=j.toNat) (by omega);rw[show j.toNat-1=(j-1).toNat by omega]at hsc
   have hcin:0<j->0<=(jv xs a1.toNat).getD (j-1).toNat 0/\(jv xs a1.toNat).getD (j-1).toNat 0<=24:=fun h0=>by
    rw[jv,jp _ _ _ _ (by omega)];have:=zGa (mul xs) ((j-1).toNat+1) ((j-1).toNat+1);omega
   have hnx:∀s:Int,s=zeh (mul xs) j.toNat->0<=j+1/\j+1<=a1/\ps++[V.int .i64 (j-1)]=I (zlC (j+1).toNat)/\ss++[V.int .i64 s]=I (zlB xs (j+1).toNat):=fun s hs=>by
    refine⟨by omega,by omega,?_,?_⟩
    ·rw[hP,show(j+1).toNat=j.toNat+1 by omega,zAo,<-qW,show((j.toNat:Nat):Int)=j by omega];rfl
    ·rw[hS,show(j+1).toNat=j.toNat+1 by omega,zAn,<-qW,hs];rfl
   have one:∀z:Int,∀x∈[V.int .i64 z],V.solid x=true:=fun z x hx=>by
    simp only[List.mem_singleton]at hx;subst hx;rfl
   rw[zn (n:=j-1),zn (n:=j+1)];refine⟨rfl,by simp only[zj,zu];omega,one _,fun h0=>by omega,fun h0=>by omega,fun h0=>by omega,fun _=>trivial,fun h5=>?_,fun h5=>?_⟩
   ·have hw:=hcin h5.1;rw[zn (n:=j-(jv xs a1.toNat).getD (j-1).toNat 0)];refine⟨by omega,by omega,by omega,rfl,by simp only[zj,zu];omega,one _,?_⟩;exact hag ((_,_),j+1) (hnx _ (by rw[hsc,if_pos ⟨by omega,h5.2⟩];omega)) (by simp only;omega)
   ·refine⟨rfl,by simp only[zj,zu];omega,one _,?_⟩;exact hag ((_,_),j+1) (hnx _ (by rw[hsc,if_neg (by omega)])) (by simp only;omega)
  ·have hjn:j.toNat=a1.toNat:=(by omega);rw[hr,hf0,hP,hS,hjn]
 ·cases h
theorem zgX:∀xs:List Int,V.frzs (U8 xs)=U8 xs
 |[]=>rfl
 |x::xs=>by
  have:=zgX xs;simp only[U8]at this;simp only[U8,List.map_cons,V.frzs,V.frz,this]
def zgj(ms:List (List Int))(i k x:Int):List (List Int):=ms.set i.toNat ((ms.getD i.toNat []).set k.toNat x)
abbrev CvS:Type:=List (List Int)×List (List Int)×Int×Int
def spC(es:List V)(bs ms:List (List Int))(τ:Int×Int):CvS:=
 let r:Int:=bs.length
 let v:=ja es τ 30
 let τ1:=yN es τ 30
 let i:=ja es τ1 r
 let τ2:=yN es τ1 r
 let k:=ja es τ2 r
 let τ3:=yN es τ2 r
 if v=0 then(bs,zgj ms i k (uz es τ3 [0,1,2,201,-1]),QI es τ3 [0,1,2,201,-1])
 else if v=1 then(bs.set i.toNat (spF es τ2.1 τ2.2).1,ms,(spF es τ2.1 τ2.2).2)
 else if v=2 then(bs,ms.drop 1,τ1)
 else if v=3 then
  (if i=k then(bs,ms,yN es τ3 4)else(bs,zgj (zgj ms i k (1+ja es τ3 4)) k i (1+ja es τ3 4),yN es τ3 4))
 else(bs,ms,τ1)
structure CvD (es:List V) (z:CvS):Prop where
 n1:1<=z.1.length
 n6:z.1.length<=6
 row:∀x∈z.1,x.length<=3000
 m6:z.2.1.length<=6
 mrow:∀x∈z.2.1,x.length<=6
 src:zR es z.2.2.1 z.2.2.2
theorem zpA{ms:List (List Int)}{i k x:Int}(h6:ms.length<=6)(h:∀x∈ms,x.length<=6):(zgj ms i k x).length<=6/\∀y∈zgj ms i k x,y.length<=6:=by
 refine⟨by rw[zgj,yj];exact h6,fun y hy=>?_⟩;rw[zgj]at hy;rcases List.mem_or_eq_of_mem_set hy with hy|rfl
 ·exact h y hy
 ·rw[yj,zd];by_cases hi:i.toNat<ms.length
  ·rw[ze hi];exact h _ (List.getElem_mem hi)
  ·rw[List.getElem?_eq_none (by omega)];simp
theorem zEP{es:List V}{bs ms:List (List Int)}{τ:Int×Int}(hs:zR es τ.1 τ.2)(h1:1<=bs.length)(h6:bs.length<=6)(hr:∀x∈bs,x.length<=3000)(hm:ms.length<=6)(hmr:∀x∈ms,x.length<=6):CvD es (spC es bs ms τ):=by
 have s1:=jS (n:=30) hs;have s2:=jS (n:=bs.length) s1;have s3:=jS (n:=bs.length) s2;unfold spC;simp only;split
 ·obtain⟨a,b⟩:=zpA (i:=ja es (yN es τ 30) bs.length) (k:=ja es (yN es (yN es τ 30) bs.length) bs.length) (x:=uz es (yN es (yN es (yN es τ 30) bs.length) bs.length) [0,1,2,201,-1]) hm hmr;exact⟨h1,h6,hr,a,b,zbu s3⟩
 ·split
  ·obtain⟨a,b⟩:=zvX s2;refine⟨by simpa using h1,by simpa using h6,fun x hx=>?_,hm,hmr,a⟩;rcases List.mem_or_eq_of_mem_set hx with hx|rfl
   ·exact hr x hx
   ·exact Nat.le_trans b (by decide)
  ·split
   ·exact⟨h1,h6,hr,by simp only[List.length_drop];omega,fun x hx=>hmr x (List.mem_of_mem_drop hx),s1⟩
   ·split
    ·split
     ·exact⟨h1,h6,hr,hm,hmr,jS s3⟩
     ·obtain⟨a,b⟩:=zpA (i:=ja es (yN es τ 30) bs.length) (k:=ja es (yN es (yN es τ 30) bs.length) bs.length) (x:=1+ja es (yN es (yN es (yN es τ 30) bs.length) bs.length) 4) hm hmr;obtain⟨a,b⟩:=zpA (k:=ja es (yN es τ 30) bs.length) (i:=ja es (yN es (yN es τ 30) bs.length) bs.length) (x:=1+ja es (yN es (yN es (yN es τ 30) bs.length) bs.length) 4) a b;exact⟨h1,h6,hr,a,b,jS s3⟩
    ·exact⟨h1,h6,hr,hm,hmr,s1⟩
noncomputable def zh2(es:List V)(a h:Int):CvS:=spC es (zga (zdK es a h).1) (zbR (zdK es a h).2.1) (zdK es a h).2.2
theorem zDC{es:List V}{a h:Int}(hq:zR es a h):CvD es (zh2 es a h):=by
 obtain⟨⟨bs,ms,e1,e2,h1,h6,hm,hb,hr⟩,hs⟩:=ztS hq;rw[zh2,e1,e2,jG,qB];refine zEP hs h1 h6 (fun x hx=>?_) (by omega) (fun x hx=>?_)
 ·obtain⟨i,hi,rfl⟩:=qS.1 hx;have:=hb i hi
  rwa [zd,ze hi]at this
 ·obtain⟨i,hi,rfl⟩:=qS.1 hx;have:=hr i (by omega);rw[zd,ze hi]at this;simp only[Option.getD_some]at this;omega
noncomputable def zhK(es:List V)(a h:Int):List V×List V×Int×Int:=(BB false (zh2 es a h).1,II false (zh2 es a h).2.1,(zh2 es a h).2.2)
def zoR(f:List V->Int->Int->List V×List V×Int×Int)(q:List V->Int->Int->Prop):kj:=fun
 |[.box 91 (.agg [.slc false 5 (.int .u8 0) a0,.int .i64 a1,.int .u64 a2])]=>some ([q a0 a1 a2],.agg [.slc false 49 (.agg [.slc false 2 (.int .i64 0) []]) (f a0 a1 a2).1,.slc false 24 (.slc false 2 (.int .i64 0) []) (f a0 a1 a2).2.1],.box 91 (.agg [.slc false 5 (.int .u8 0) a0,.int .i64 (f a0 a1 a2).2.2.1,.int .u64 (f a0 a1 a2).2.2.2]))
 |_=>none
theorem zho:zbX Tryz.prog 61 1000 (zoR zhK zR):=by
 intro args ps r y h hp;unfold zoR at h;split at h
 ·rename_i a0 a1 a2;cases h;have hq:zR a0 a1 a2:=(zp.1 hp).1;obtain⟨⟨bs,ms,hb,hm,h1,h6,hml,hbl,hrl⟩,hs⟩:=ztS hq;obtain⟨⟨vb,vm,A,H⟩,hd⟩:=qEx (zdK a0 a1 a2);rw[<-hd]at hb hm hs;simp only at hb hm hs;have hS:zh2 a0 a1 a2=spC a0 bs ms (A,H):=by rw[zh2,<-hd];simp only[hb,hm,jG,qB]
  obtain⟨r,hr0⟩:=qEI bs.length;have hvb:vb.length=bs.length:=by rw[hb,qw]
  have hvm:vm.length=ms.length:=by rw[hm,ye]
  have gm:∀k,vm.getD k (.slc true 2 (.int .i64 0) [])=.slc true 2 (.int .i64 0) (I (ms.getD k [])):=fun k=>by rw[hm,qu]
  generalize yx:qI=yY,yw:qT=yX,yv:qY=yW,qg:zcA=jE,qf:kN=jz,qk:uq=jM,qj:uo=jL,qP:zay=kx,zxf:zdK=zEE,ut:zR=QE,zjg:znL=zvc;refine zp3 (T:=tab) (B:=[]) (Bi:=[(26,1000,false,Ki yY yX yW jE),(29,1000,false,zaF jz jM jL kx),(100,1000,false,ztx zEE QE),(72,1000,false,zrY zvc QE)]) 0 [1000010003,2000005800,2000005820,2000005821,2000005824,2000005995,2000006832,2000008800,2000008837,2000008838,2000008841,2000008843,2000008995,2000015069,2000015074,3000008005,3000015007,0,2,3,4,5,6,7,8,9,10,17] Tryz.func61 rfl rfl (by kernel_rfl) (yh rfl) mixed Zy zF (by subst yx yw yv qg qf qk qj qP zxf ut zjg;exact(yE jH (yE kz (yE zpC (yE zhp zA))))) (by kernel_rfl) rfl rfl zah rfl ?_;intro L lp rr yy hL hr hy hf hlp
  conv=>cbv
  subst yx yw yv qg qf qk qj qP zxf ut zjg;obtain⟨v,hv⟩:=qEx (qI a0 A H 30);obtain⟨A1,hA1⟩:=qEx (qT a0 A H 30);obtain⟨H1,hH1⟩:=qEx (qY a0 A H 30);obtain⟨i,hi⟩:=qEx (qI a0 A1 H1 r);obtain⟨A2,hA2⟩:=qEx (qT a0 A1 H1 r);obtain⟨H2,hH2⟩:=qEx (qY a0 A1 H1 r);obtain⟨k,hk⟩:=qEx (qI a0 A2 H2 r);obtain⟨A3,hA3⟩:=qEx (qT a0 A2 H2 r);obtain⟨H3,hH3⟩:=qEx (qY a0 A2 H2 r);have s1:zR a0 A1 H1:=by rw[hA1,hH1];exact js hs
  have s2:zR a0 A2 H2:=by rw[hA2,hH2];exact js s1
  have s3:zR a0 A3 H3:=by rw[hA3,hH3];exact js s2
  have i1:=ZJ (n:=r) s1 (by omega);have k1:=ZJ (n:=r) s2 (by omega);rw[<-hi]at i1;rw[<-hk]at k1;obtain⟨x,hx⟩:=qEx (kN a0 A3 H3 (I [0,1,2,201,-1]));obtain⟨A4,hA4⟩:=qEx (uq a0 A3 H3 (I [0,1,2,201,-1]));obtain⟨H4,hH4⟩:=qEx (uo a0 A3 H3 (I [0,1,2,201,-1]));obtain⟨n,hn⟩:=qEx (1+qI a0 A3 H3 4);obtain⟨A5,hA5⟩:=qEx (qT a0 A3 H3 4);obtain⟨H5,hH5⟩:=qEx (qY a0 A3 H3 4);have n1:=ZJ (n:=4) s3 (by omega);obtain⟨⟨sl,A6,H6⟩,hsp⟩:=qEx (spF a0 A2 H2)
  have hS2:zh2 a0 a1 a2=if v=0 then(bs,zgj ms i k x,A4,H4)else if v=1 then(bs.set i.toNat sl,ms,A6,H6)else if v=2 then(bs,ms.drop 1,A1,H1)
   else if v=3 then(if i=k then(bs,ms,A5,H5)else(bs,zgj (zgj ms i k n) k i n,A5,H5))else(bs,ms,A1,H1):=by
   have e1:sl=(spF a0 A2 H2).1:=(by rw[<-hsp]);have e2:(A6,H6)=(spF a0 A2 H2).2:=(by rw[<-hsp]);rw[hS,e1,e2,hn,hA5,hH5,hx,hA4,hH4,hk,hA3,hH3,hi,hA2,hH2,hv,hA1,hH1,hr0];rfl
  have fin:∀(xs ys:List (List Int)) (B G:Int),zh2 a0 a1 a2=(xs,ys,B,G)->V.agg [V.slc false 49 (V.agg [V.slc false 2 (V.int IntKind.i64 0) []]) (BB false xs),V.slc false 24 (V.slc false 2 (V.int IntKind.i64 0) []) (II false ys)]=rr/\
   V.box 91 (V.agg [V.slc false 5 (V.int IntKind.u8 0) a0,V.int IntKind.i64 B,V.int IntKind.u64 G])=yy:=by
   intro xs ys B G e;rw[hr,hy,zhK,e];exact⟨rfl,rfl⟩
  have hset:∀(j:Nat) (l:List Int),vm.set j (.slc true 2 (.int .i64 0) (I l))=II true (ms.set j l):=fun j l=>by rw[hm,II,II,QW]
  have hbset:∀(j:Nat) (l:List Int),vb.set j (.agg [.slc false 2 (.int .i64 0) (I l)])=BB false (bs.set j l):=fun j l=>by rw[hb,BB,BB,QW]
  have gb:∀j,vb.getD j (.agg [.slc false 2 (.int .i64 0) []])=.agg [.slc false 2 (.int .i64 0) (I (bs.getD j []))]:=fun j=>by rw[hb,YT]
  have gset:∀j l,(II true l).getD j (.slc true 2 (.int .i64 0) [])=.slc true 2 (.int .i64 0) (I (l.getD j [])):=fun j l=>qu true l j;have fvb:V.frzs vb=BB false bs:=by rw[hb,ko]
  have fvm:V.frzs vm=II false ms:=by rw[hm,jy]
  have fpk:∀l,l=I [0,1,2,201,-1]->kN a0 A3 H3 l=x/\uq a0 A3 H3 l=A4/\uo a0 A3 H3 l=H4:=fun l hl=>by rw[hl,hx,hA4,hH4];exact⟨rfl,rfl,rfl⟩
  obtain⟨p0,p1,p2⟩:=fpk (V.frzs (V.frzs [V.int IntKind.i64 0,V.int IntKind.i64 1,V.int IntKind.i64 2,V.int IntKind.i64 201,V.int IntKind.i64 (-1)])) rfl;have fsp:znL a0 A2 H2=(I sl,A6,H6):=by rw[znL,<-hsp]
  have hn2:qI a0 A3 H3 4=n-1:=by omega
  have wn:IntKind.wrap .i64 (1+(n-1))=n:=by rw[show 1+(n-1)=n by omega];exact zn (by omega) (by omega)
  simp only[zo hL,sQ,<-hd,hvb,<-hr0,hvm,gm,<-hv,<-hA1,<-hH1,<-hi,<-hA2,<-hH2,<-hk,<-hA3,<-hH3,hn2,<-hA5,<-hH5,p0,p1,p2,fsp,hset,hbset,gb,gset,ua,Yh,fvb,fvm,ko,jy,wn,ye,yj];have hri:=hrl i.toNat (by omega);have hrk:=hrl k.toNat (by omega)
  have hgk:i≠k->∀l,(ms.set i.toNat l).getD k.toNat []=ms.getD k.toNat []:=fun hne l=>by
   rw[zd,List.getElem?_set_ne (by omega),<-zd]
  refine⟨hq,hs,fun h=>?_,fun h=>⟨fun h2=>?_,fun h2=>⟨fun h3=>?_,fun h3=>⟨fun h4=>⟨s1,s2,s3,fun h5=>?_,fun h5=>?_⟩,fun h4=>?_⟩⟩⟩⟩
  ·rw[if_pos h]at hS2;exact⟨s1,i1.1,by omega,by omega,s2,⟨s3,⟨[0,1,2,201,-1],rfl⟩,by decide,by decide⟩,by omega,k1.1,by omega,by omega,by omega,fin _ _ _ _ hS2⟩
  ·rw[if_neg h,if_pos h2]at hS2;exact⟨s1,s2,i1.1,i1.2,by omega,fin _ _ _ _ hS2⟩
  ·rw[if_neg h,if_neg h2,if_pos h3]at hS2;refine⟨by omega,by omega,qN _,?_⟩
   have e:V.frzs (List.drop 1 (List.take ((ms.length:Int)).toNat (II false ms)))=II false (ms.drop 1):=by
    rw[zL,zB (by rw[ye];exact zw _),show List.drop 1 (II false ms)=II false (ms.drop 1) by rw[II,II,List.map_drop],jy]
   rw[e];exact fin _ _ _ _ hS2
  ·rw[if_neg h,if_neg h2,if_neg h3,if_pos h4,if_neg h5]at hS2;simp only[hgk h5]
   iterate 20 try refine⟨by omega,?_⟩
   have hset2:∀(X:List (List Int)) (j:Nat) (l:List Int),(II true X).set j (.slc true 2 (.int .i64 0) (I l))=II true (X.set j l):=fun X j l=>(by rw[II,II,QW]);simp only[zgj,hgk h5]at hS2;rw[hset2,jy];exact fin _ _ _ _ hS2
  ·rw[if_neg h,if_neg h2,if_neg h3,if_pos h4,if_pos h5]at hS2;exact fin _ _ _ _ hS2
  ·rw[if_neg h,if_neg h2,if_neg h3,if_neg h4]at hS2;exact fin _ _ _ _ hS2
 ·cases h
def odN(es:List V):Nat->List Int×Int×Int->List Int×Int×Int
 |0,x=>x
 |k+1,x=>
  let y:=odN es k x
  let at0:=ja es y.2 ((k:Int)+1)
  (y.1.take at0.toNat++((k:Int)::y.1.drop at0.toNat),yN es y.2 ((k:Int)+1))
def zoZ(es:List V)(a h r:Int):List V×Int×Int:=(I (odN es r.toNat ([],a,h)).1,(odN es r.toNat ([],a,h)).2)
theorem zsW{es:List V}:∀(k:Nat) {x:List Int×Int×Int},zR es x.2.1 x.2.2->x.1=[]->zR es (odN es k x).2.1 (odN es k x).2.2/\(odN es k x).1.Perm (zbT k)
 |0,x,h,hx=>⟨h,by rw[odN,hx];exact .refl _⟩
 |k+1,x,h,hx=>by
  obtain⟨h1,h2⟩:=zsW k h hx;refine⟨jS h1,?_⟩;simp only[odN];have h3:zbT (k+1)=zbT k++[(k:Int)]:=QF _ _;rw[h3];have h4:=List.perm_middle (a:=(k:Int)) (l₁:=(odN es k x).1.take (ja es (odN es k x).2 ((k:Int)+1)).toNat) (l₂:=(odN es k x).1.drop (ja es (odN es k x).2 ((k:Int)+1)).toNat);refine h4.trans ?_;rw[List.take_append_drop];exact(List.Perm.cons _ h2).trans (List.perm_append_comm (l₁:=[(k:Int)]))
def zx7(es:List V)(a h r:Int):Prop:=zR es a h/\0<=r/\r<=6
def ztw(f:List V->Int->Int->Int->List V×Int×Int)(q:List V->Int->Int->Int->Prop):kj:=fun
 |[.box 91 (.agg [.slc false 5 (.int .u8 0) a0,.int .i64 a1,.int .u64 a2]),.int .i64 a3]=>some ([q a0 a1 a2 a3],.slc true 2 (.int .i64 0) (f a0 a1 a2 a3).1,.box 91 (.agg [.slc false 5 (.int .u8 0) a0,.int .i64 (f a0 a1 a2 a3).2.1,.int .u64 (f a0 a1 a2 a3).2.2]))
 |_=>none
theorem zoe:zbX Tryz.prog 62 1000 (ztw zoZ zx7):=by
 intro args ps r y h hp;unfold ztw at h;split at h
 ·rename_i a0 a1 a2 a3;cases h;obtain⟨hq,r0,r6⟩:zx7 a0 a1 a2 a3:=(zp.1 hp).1;generalize yx:qI=yY,yw:qT=yX,yv:qY=yW,qg:zcA=jE;refine zcY (T:=tab) (B:=[]) (Bi:=[(26,1000,false,Ki yY yX yW jE)]) 0 [0,1,4,5,6,7,8] Tryz.func62 rfl rfl (by kernel_rfl) (yh rfl) mixed Zy zF (by subst yx yw yv qg;exact(yE jH zA)) (by kernel_rfl) rfl rfl zah rfl ?_;intro L lp rr yy hL hr hy hf hlp;have Qn:∀a h n,zR a0 a h->jE a0 a h n:=fun a h n hs=>by rw[<-qg];exact hs
  conv=>cbv
  refine hlp (List V×Int×Int×Int) _ _ _ [0,1,5,6] (fun x=>[(wJ5 0 a0 x.2.1 x.2.2.1),(wJ0 1 a3),(wJ2 5 x.1),(wJ0 6 x.2.2.2)])
   (fun x=>0<=x.2.2.2/\x.2.2.2<=a3/\∃l:List Int,x.1=I l/\(l,x.2.1,x.2.2.1)=odN a0 x.2.2.2.toNat ([],a1,a2)) (fun x=>(a3-x.2.2.2).toNat) (([],a1,a2,0)) (by subst hL;rfl) ?_ ?_
  ·exact⟨by simp,by simp only;omega,[],rfl,rfl⟩
  rintro⟨vl,a,h,i⟩ ⟨i0,i1,l,hl,hz⟩ hfx ag hag;simp only at i0 i1 hl hz;obtain⟨hs,hpm⟩:=zsW (es:=a0) i.toNat (x:=([],a1,a2)) hq rfl;rw[<-hz]at hs hpm;simp only at hs hpm;have hll:l.length=i.toNat:=by rw[hpm.length_eq,ztq]
  have hvl:vl.length=l.length:=by rw[hl,zg]
  have fvl:V.frzs vl=vl:=by rw[hl,zt]
  have w1:IntKind.wrap .i64 (i+1)=i+1:=zn (by omega) (by omega);obtain⟨t,ht⟩:=qEx (qI a0 a h (i+1));obtain⟨B1,hB1⟩:=qEx (qT a0 a h (i+1));obtain⟨G1,hG1⟩:=qEx (qY a0 a h (i+1));have t1:=ZJ (n:=i+1) hs (by omega);have e0:yY a0 a h (i+1)=t:=by rw[<-yx,ht]
  have e1:yX a0 a h (i+1)=B1:=by rw[<-yw,hB1]
  have e2:yW a0 a h (i+1)=G1:=by rw[<-yv,hG1]
  have hnx:odN a0 (i.toNat+1) ([],a1,a2)=(l.take t.toNat++(i::l.drop t.toNat),B1,G1):=by
   simp only[odN,<-hz];rw[show((i.toNat:Nat):Int)=i by omega,ht,hB1,hG1]
  have d1:List.drop t.toNat (List.take ((l.length:Int)).toNat vl)=I (l.drop t.toNat):=by rw[zL,zB (by omega),hl,zpq]
  have d2:List.drop 0 (List.take t.toNat vl)=I (l.take t.toNat):=by rw[List.drop_zero,hl,zbg]
  have d3:∀xs:List Int,[V.int IntKind.i64 i]++I xs=I (i::xs):=fun xs=>rfl;have d4:∀xs:List V,([]:List V)++xs=xs:=fun xs=>rfl;have dl:(l.drop t.toNat).length<=6:=by rw[List.length_drop];omega
  have tl:(l.take t.toNat).length<=6:=by rw[List.length_take];omega
  conv=>cbv
  simp only[zo hL,sQ,hvl,fvl,w1,e0,e1,e2,d1,d2,d3,d4,qW,zg5,zj,zu];refine⟨fun h2=>?_,fun h2=>?_⟩
  ·refine⟨Qn _ _ _ hs,by omega,by omega,qN _,qN _,by omega,zeA _,by omega,by omega,by omega,by omega,zeA _,by omega,zeA _,?_⟩;refine hag (_,B1,G1,i+1) ⟨by simp only;omega,by simp only;omega,_,rfl,?_⟩ (by simp only;omega);simp only;rw[show(i+1).toNat=i.toNat+1 by omega,hnx]
  ·rw[hr,hy,zoZ,show a3.toNat=i.toNat by omega,<-hz,hl];exact⟨rfl,rfl⟩
 ·cases h
noncomputable def ztR(es:List V)(a h m:Int):List V×List V×List V×Int×Int:=
 (I (kdF es (a,h) m).1,I (kdF es (a,h) m).2.1,I (kdF es (a,h) m).2.2.1,(kdF es (a,h) m).2.2.2)
theorem zDm:zkf (I [2,3]) 3=(I [-1,0,1],I [-1,-1,0],I [2,1,1]):=by
 rw[zkf,zl];have h1:zlC (3:Int).toNat=[-1,0,1]:=by decide+kernel
 have h2:zlB [2,3] (3:Int).toNat=[-1,-1,0]:=by decide+kernel
 have h3:kB [2,3] (3:Int).toNat=[2,1,1]:=by decide+kernel
 rw[h1,h2,h3]
theorem zAc:Qt (I [2,3]):=⟨_,rfl,zaK (by decide+kernel)⟩
theorem zpG:zbX Tryz.prog 108 1000 (zdC ztR zdr):=by
 intro args ps r y h hp;unfold zdC at h;split at h
 ·rename_i a0 a1 a2 a3;cases h;obtain⟨hq,m1,m2⟩:zdr a0 a1 a2 a3:=(zp.1 hp).1;obtain⟨⟨P,S,A,H⟩,hpt⟩:∃z:PtS,z=JZ a0 (a1,a2) a3:=⟨_,rfl⟩;have hok:=zgt (σ:=(a1,a2)) hq m1 m2;have hcl:=zzt (σ:=(a1,a2)) hq m1 m2;rw[<-hpt]at hok hcl;simp only at hcl;have n1:=hok.n1;have n24:=hok.n;have nsl:=hok.sl;have s0:zR a0 A H:=hok.src;simp only at n1 n24 nsl;obtain⟨n,hn⟩:=qEI P.length;obtain⟨v,hv⟩:=qEx (qI a0 A H 2);obtain⟨A1,hA1⟩:=qEx (qT a0 A H 2);obtain⟨H1,hH1⟩:=qEx (qY a0 A H 2);have s1:zR a0 A1 H1:=by rw[hA1,hH1];exact js s0
  obtain⟨E,hE⟩:=qEx (kdF a0 (a1,a2) a3)
  have hE0:v=0->E=(P,S,wrN a0 P.length 0 (List.replicate P.length 0,A1,H1)):=fun h=>by
   rw[hE,kdF,<-hpt,if_pos (by rw[ja,<-hv,h]),yN,<-hA1,<-hH1]
  have hE1:¬v=0->E=kdC P S (evN a0 P S P.length 0 (List.replicate P.length 0,A1,H1)).1 (evN a0 P S P.length 0 (List.replicate P.length 0,A1,H1)).2:=fun h=>by
   rw[hE,kdF,<-hpt,if_neg (by rw[ja,<-hv];exact h),yN,<-hA1,<-hH1]
  obtain⟨vp,hvp⟩:=qEx (I P);obtain⟨vs,hvs⟩:=qEx (I S);obtain⟨vw,hvw⟩:=qEx (I (List.replicate P.length 0));have hvpl:vp.length=P.length:=by rw[hvp,zg]
  have hvsl:vs.length=P.length:=by rw[hvs,zg,nsl]
  have fvp:V.frzs vp=vp:=by rw[hvp,zt]
  have fvs:V.frzs vs=vs:=by rw[hvs,zt]
  have g8:zcr a0 a1 a2 a3=(vp,vs,vw,A,H):=by rw[zcr,<-hpt,hvp,hvs,hvw]
  have hqv:Zd vp vs vw:=⟨⟨⟨_,hvp⟩,⟨_,hvs⟩,⟨_,hvw⟩⟩,by rw[hvp,hvs,hvw,zl,zl,zl];exact hcl⟩;generalize yx:qI=yY,yw:qT=yX,yv:qY=yW,qg:zcA=jE,qf:kN=jz,qk:uq=jM,qj:uo=jL,qP:zay=kx,Yl:zcr=KD,uO:zdr=Ym,zav:zfM=zbK,zau:zor=zc9,qC:yZ=kW,jX:Yn=uP,zeF:zkf=zjs,zeB:zrR=zjo;refine zcY (T:=tab) (B:=[(75,zlE zbK zc9),(40,Yv kW uP),(77,zpc zjs zjo)]) (Bi:=[(26,1000,false,Ki yY yX yW jE),(29,1000,false,zaF jz jM jL kx),(28,1000,false,zdC KD Ym)]) 0 [2000006800,2000006824,2000006825,2000006826,2000006828,2000006995,2000011843,0,1,4,5,6,7,8,9,10] Tryz.func108 rfl rfl (by kernel_rfl) (yh rfl) mixed Zy (by subst yx yw yv qg qf qk qj qP Yl uO zav zau qC jX zeF zeB;exact(zm zcz (zm Ko (zm zgm zF)))) (by subst yx yw yv qg qf qk qj qP Yl uO zav zau qC jX zeF zeB;exact(yE jH (yE kz (yE KM zA)))) (by kernel_rfl) rfl rfl zah rfl ?_;intro L lp rr yy hL hr hy hf hlp;have Qn:∀a h n,zR a0 a h->jE a0 a h n:=fun a h n hs=>by rw[<-qg];exact hs
  have g9:KD a0 a1 a2 a3=(vp,vs,vw,A,H):=by rw[<-Yl,g8]
  have g10:yY a0 A H 2=v:=by rw[<-yx,hv]
  have g11:yX a0 A H 2=A1:=by rw[<-yw,hA1]
  have g12:yW a0 A H 2=H1:=by rw[<-yv,hH1]
  have g13:Ym a0 a1 a2 a3:=by rw[<-uO];exact⟨hq,m1,m2⟩
  have g14:∀l,l=I [2,3]->zjs l 3=(I [-1,0,1],I [-1,-1,0],I [2,1,1])/\zjo l 3:=fun l hl=>by rw[hl,<-zeF,<-zeB];exact⟨zDm,zAc,by omega,by omega⟩
  have fin:∀(p s w:List Int) (x y:Int),E=(p,s,w,x,y)->V.agg [V.slc true 2 (V.int IntKind.i64 0) (I p),V.slc true 2 (V.int IntKind.i64 0) (I s),V.slc true 2 (V.int IntKind.i64 0) (I w)]=rr/\
   V.box 91 (V.agg [V.slc false 5 (V.int IntKind.u8 0) a0,V.int IntKind.i64 x,V.int IntKind.u64 y])=yy:=by
   intro p s w x y e;rw[hr,hy,ztR,<-hE,e];exact⟨rfl,rfl⟩
  conv=>cbv
  simp only[zo hL,sQ,g9,g10,g11,g12];refine⟨g13,Qn _ _ _ s0,fun h0=>?_,fun h0=>?_⟩
  ·have hE0:=hE0 h0
   refine hlp (List V×Int×Int×Int) _ _ _ [0,4,5,6] (fun x=>[(wJ5 0 a0 x.2.1 x.2.2.1),(wJ4 4),(wJ6 5 vp vs x.1),(wJ0 6 x.2.2.2)])
    (fun x=>0<=x.2.2.2/\x.2.2.2<=n/\∃w:List Int,x.1=I w/\w.length=P.length/\zR a0 x.2.1 x.2.2.1/\wrN a0 (n-x.2.2.2).toNat x.2.2.2.toNat (w,x.2.1,x.2.2.1)=E.2.2) (fun x=>(n-x.2.2.2).toNat) ((vw,A1,H1,0)) (by subst hL;rfl) ?_ ?_
   ·exact⟨by simp,by simp only;omega,_,hvw,zx,s1,by rw[hE0,hn];simp⟩
   rintro⟨vl,a,h,i⟩ ⟨i0,i1,w,hw,hwl,hs,hN⟩ hfx ag hag;simp only at i0 i1 hw hwl hs hN;have hvl:vl.length=P.length:=(by rw[hw,zg,hwl]);have fvl:V.frzs vl=vl:=(by rw[hw,zt]);have gset:∀j x,vl.set j (.int .i64 x)=I (w.set j x):=fun j x=>(by rw[hw,ua]);obtain⟨t,ht⟩:=qEx (qI a0 a h 8);obtain⟨B,hB⟩:=qEx (qT a0 a h 8);obtain⟨G,hG⟩:=qEx (qY a0 a h 8);have sB:zR a0 B G:=(by rw[hB,hG];exact js hs);have e0:yY a0 a h 8=t:=(by rw[<-yx,ht]);have e1:yX a0 a h 8=B:=(by rw[<-yw,hB]);have e2:yW a0 a h 8=G:=by rw[<-yv,hG]
   conv=>cbv
   simp only[zo hL,sQ,e0,e1,e2,hvl,<-hn,fvp,fvs,fvl,gset];refine⟨fun h2=>⟨Qn _ _ _ hs,i0,h2,by omega,by rw[hw,zG];rfl,?_⟩,fun h2=>?_⟩
   ·rw[zn (n:=i+1)];refine hag (_,B,G,i+1) ⟨by simp only;omega,by simp only;omega,_,rfl,by rw[yj,hwl],sB,?_⟩ (by simp only;omega);simp only;rw[show(n-i).toNat=(n-(i+1)).toNat+1 by omega,wrN]at hN;rw[show(i+1).toNat=i.toNat+1 by omega,ht,hB,hG];exact hN
   ·rw[show(n-i).toNat=0 by omega,wrN]at hN;rw[hvp,hvs,hw];refine fin P S w a h ?_;rw[hE0]at hN;have hN2:(w,a,h)=wrN a0 P.length 0 (List.replicate P.length 0,A1,H1):=hN;rw[hE0,<-hN2]
  ·have hE1:=hE1 h0
   refine hlp (List V×Int×Int×Int) _ _ _ [0,4,5,7] (fun x=>[(wJ5 0 a0 x.2.1 x.2.2.1),(wJ4 4),(wJ6 5 vp vs x.1),(wJ0 7 x.2.2.2)])
    (fun x=>0<=x.2.2.2/\x.2.2.2<=n/\∃w:List Int,x.1=I w/\w.length=P.length/\zR a0 x.2.1 x.2.2.1/\evN a0 P S (n-x.2.2.2).toNat x.2.2.2.toNat (w,x.2.1,x.2.2.1)=evN a0 P S P.length 0 (List.replicate P.length 0,A1,H1)) (fun x=>(n-x.2.2.2).toNat) ((vw,A1,H1,0)) (by subst hL;rfl) ?_ ?_
   ·exact⟨by simp,by simp only;omega,_,hvw,zx,s1,by rw[hn];simp⟩
   rintro⟨vl,a,h,i⟩ ⟨i0,i1,w,hw,hwl,hs,hN⟩ hfx ag hag;simp only at i0 i1 hw hwl hs hN;have hvl:vl.length=P.length:=(by rw[hw,zg,hwl]);have fvl:V.frzs vl=vl:=(by rw[hw,zt]);obtain⟨t,ht⟩:=qEx (kN a0 a h (I [0,0,1,1,2]));obtain⟨B,hB⟩:=qEx (uq a0 a h (I [0,0,1,1,2]));obtain⟨G,hG⟩:=qEx (uo a0 a h (I [0,0,1,1,2]));have sB:zR a0 B G:=by rw[hB,hG];exact js hs
   have g3:∀l,l=I [0,0,1,1,2]->jz a0 a h l=t/\jM a0 a h l=B/\jL a0 a h l=G/\kx a0 a h l:=by
    intro l hl;rw[hl,<-qf,<-qk,<-qj,<-qP,ht,hB,hG];exact⟨rfl,rfl,rfl,hs,⟨_,rfl⟩,by simp,by simp⟩
   obtain⟨g4,g5,g6,g7⟩:=g3 (V.frzs (V.frzs [V.int IntKind.i64 0,V.int IntKind.i64 0,V.int IntKind.i64 1,V.int IntKind.i64 1,V.int IntKind.i64 2])) rfl;obtain⟨own,hown⟩:=qEx (zef P S i.toNat);have hol:own.length=P.length:=(by rw[hown,zef,zjz,yj,zx]);obtain⟨vo,hvo⟩:=qEx (I own);have hvol:vo.length=P.length:=(by rw[hvo,zg,hol]);have go:∀k,vo.getD k (.int .i64 0)=.int .i64 (own.getD k 0):=fun k=>(by rw[hvo,zG]);have Es:zbK vp vs vl i=vo:=(by rw[<-zav,zfM,hvp,hvs,zl,zl,hvo,hown]);have Qs:i<n->zc9 vp vs vl i:=fun h2=>by rw[<-zau];exact⟨⟨_,hqv⟩,⟨_,hw⟩,i0,by rw[hvpl];omega⟩
   conv=>cbv
   simp only[zo hL,sQ,hvl,<-hn,fvp,fvs,fvl,Es,g4,g5,g6,g7,hvol,hvpl,hvsl,true_and];have g15:=g14 (V.frzs [V.int IntKind.i64 2,V.int IntKind.i64 3]) rfl;rw[g15.1];refine⟨fun h2=>⟨Qs h2,by rw[hvo];exact ZR _,?_⟩,fun h2=>⟨by rw[<-jX];exact⟨⟨_,hvp⟩,⟨_,hvs⟩,⟨_,hw⟩⟩,fun h3=>⟨g15.2,ZR _,ZR _,ZR _,?_⟩,fun h3=>?_⟩⟩
   ·have hnx:evN a0 P S (n-(i+1)).toNat (i+1).toNat (zaa t own P.length w,B,G)=evN a0 P S P.length 0 (List.replicate P.length 0,A1,H1):=by
     rw[<-hN,show(n-i).toNat=(n-(i+1)).toNat+1 by omega,evN,show(i+1).toNat=i.toNat+1 by omega,ht,hB,hG,hown]
    clear g3 g4 g5 g6 g7 g8 g9 g10 g11 g12 g13 g14 g15 hE1 hN hE0 Es Qs hpt hok ht hB hG
    refine hlp (List V×Int) _ _ _ [0,4,5,7,8,9,10] (fun x=>[(wJ5 0 a0 B G),(wJ4 4),(wJ6 5 vp vs x.1),(wJ0 7 i),(wJ2 8 vo),(wJ0 9 t),(wJ0 10 x.2)])
     (fun x=>0<=x.2/\x.2<=n/\x.1=I (zaa t own x.2.toNat w)) (fun x=>(n-x.2).toNat) ((vl,0)) (by subst hL;rfl) ?_ ?_
    ·exact⟨by simp,by simp only;omega,hw⟩
    rintro⟨vk,k⟩ ⟨k0,k1,hK⟩ hfx2 ag2 hag2;simp only at k0 k1 hK;have hvk:vk.length=P.length:=(by rw[hK,zg,za5,hwl]);have gk:∀k',vk.getD k' (.int .i64 0)=.int .i64 ((zaa t own k.toNat w).getD k' 0):=fun k'=>by rw[hK,zG]
    conv=>cbv
    simp only[zo hL,sQ,hvk,hvol,go,gk,<-hn];rw[zn (n:=k+1)];refine⟨fun h4=>?_,fun h4=>?_⟩
    ·iterate 16 try refine⟨by omega,?_⟩
     refine hag2 (_,k+1) ⟨by simp only;omega,by simp only;omega,?_⟩ (by simp only;omega);simp only;rw[show(k+1).toNat=k.toNat+1 by omega,zaa,hK,ua]
    ·rw[zn (n:=i+1)];refine hag (vk,B,G,i+1) ⟨by simp only;omega,by simp only;omega,_,hK,by rw[za5,hwl],sB,?_⟩ (by simp only;omega);simp only;rw[show k.toNat=P.length by omega];exact hnx
   ·rw[show(n-i).toNat=0 by omega,evN]at hN;refine fin _ _ _ a h ?_;rw[hE1,<-hN,kdC,if_neg];rw[<-qC,yZ,hvp,hvs,hw,zl,zl,zl]at h3;rw[h3];decide
   ·rw[show(n-i).toNat=0 by omega,evN]at hN;rw[hvp,hvs,hw];refine fin P S w a h ?_;rw[<-qC,yZ,hvp,hvs,hw,zl,zl,zl]at h3;rw[hE1,<-hN,kdC,if_pos h3]
 ·cases h
noncomputable def zCg(es:List V)(a h:Int):List V×List V×List V×Int×Int:=(I (ksF es (a,h)).1,I (ksF es (a,h)).2.1,I (ksF es (a,h)).2.2.1,(ksF es (a,h)).2.2.2)
def zyw(f:List V->Int->Int->List V×List V×List V×Int×Int)(q:List V->Int->Int->Prop):kj:=fun
 |[.box 91 (.agg [.slc false 5 (.int .u8 0) a0,.int .i64 a1,.int .u64 a2])]=>some ([q a0 a1 a2],.agg [.slc false 2 (.int .i64 0) (f a0 a1 a2).1,.slc false 2 (.int .i64 0) (f a0 a1 a2).2.1,.slc false 2 (.int .i64 0) (f a0 a1 a2).2.2.1],.box 91 (.agg [.slc false 5 (.int .u8 0) a0,.int .i64 (f a0 a1 a2).2.2.2.1,.int .u64 (f a0 a1 a2).2.2.2.2]))
 |_=>none
theorem zog:zbX Tryz.prog 78 1000 (zyw zCg zR):=by
 intro args ps r y h hp;unfold zyw at h;split at h
 ·rename_i a0 a1 a2;cases h;have hq:zR a0 a1 a2:=(zp.1 hp).1;obtain⟨m,hm⟩:=qEx (kN a0 a1 a2 (I [4,8,12,24]));obtain⟨A0,hA0⟩:=qEx (uq a0 a1 a2 (I [4,8,12,24]));obtain⟨H0,hH0⟩:=qEx (uo a0 a1 a2 (I [4,8,12,24]));have s0:zR a0 A0 H0:=by rw[hA0,hH0];exact js hq
  have hm24:1<=m/\m<=24:=by rw[hm];exact zE3 (σ:=(a1,a2)) hq
  obtain⟨⟨P,S,w,A,H⟩,hkd⟩:∃z:KdS,z=kdF a0 (A0,H0) m:=⟨_,rfl⟩;have hok:=zFb (σ:=(A0,H0)) s0 hm24.1 hm24.2;rw[<-hkd]at hok;obtain⟨n1,n24,nsl,nwl,hs⟩:=hok;simp only at n1 n24 nsl nwl hs;obtain⟨n,hn⟩:=qEI P.length;obtain⟨vp,hvp⟩:=qEx (I P);obtain⟨vs,hvs⟩:=qEx (I S);obtain⟨vw,hvw⟩:=qEx (I w);have hvpl:vp.length=P.length:=by rw[hvp,zg]
  have hvsl:vs.length=P.length:=by rw[hvs,zg,nsl]
  have hvwl:vw.length=P.length:=by rw[hvw,zg,nwl]
  have fvp:V.frzs vp=vp:=by rw[hvp,zt]
  have fvs:V.frzs vs=vs:=by rw[hvs,zt]
  have fvw:V.frzs vw=vw:=by rw[hvw,zt]
  have hS:ksF a0 (a1,a2)=ksC a0 (P,S,w,A,H):=by rw[ksF,hkd,hm,hA0,hH0]
  generalize yx:qI=yY,yw:qT=yX,yv:qY=yW,qg:zcA=jE,qf:kN=jz,qk:uq=jM,qj:uo=jL,qP:zay=kx,zAR:ztR=zFN,uO:zdr=Ym;refine zp3 (T:=tab) (B:=[]) (Bi:=[(26,1000,false,Ki yY yX yW jE),(29,1000,false,zaF jz jM jL kx),(108,1000,false,zdC zFN Ym)]) 0 [1000011003,2000001807,2000005024,2000005800,2000005817,2000005818,2000005821,2000005824,2000005825,2000005995,2000007036,2000007800,2000007829,2000007830,2000007833,2000007836,2000007837,2000007995,2000009047,2000009800,2000009841,2000009842,2000009845,2000009847,2000009848,2000009995,3000005005,3000005006,3000007005,3000007006,3000009005,0,2,3,4,14] Tryz.func78 rfl rfl (by kernel_rfl) (yh rfl) mixed Zy zF (by subst yx yw yv qg qf qk qj qP zAR uO;exact(yE jH (yE kz (yE zpG zA)))) (by kernel_rfl) rfl rfl zah rfl ?_;intro L lp rr yy hL hr hy hf hlp
  conv=>cbv
  subst yx yw yv qg qf qk qj qP zAR uO;have Ed:ztR a0 A0 H0 m=(vp,vs,vw,A,H):=by rw[ztR,<-hkd,hvp,hvs,hvw]
  obtain⟨v,hv⟩:=qEx (qI a0 A H 30);obtain⟨A1,hA1⟩:=qEx (qT a0 A H 30);obtain⟨H1,hH1⟩:=qEx (qY a0 A H 30);obtain⟨i,hi⟩:=qEx (qI a0 A1 H1 n);obtain⟨A2,hA2⟩:=qEx (qT a0 A1 H1 n);obtain⟨H2,hH2⟩:=qEx (qY a0 A1 H1 n);have s1:zR a0 A1 H1:=by rw[hA1,hH1];exact js hs
  have s2:zR a0 A2 H2:=by rw[hA2,hH2];exact js s1
  have i1:=ZJ (n:=n) s1 (by omega);rw[<-hi]at i1;have fp0:∀l,l=I [4,8,12,24]->kN a0 a1 a2 l=m/\uq a0 a1 a2 l=A0/\uo a0 a1 a2 l=H0:=fun l hl=>by rw[hl,hm,hA0,hH0];exact⟨rfl,rfl,rfl⟩
  obtain⟨p0,p1,p2⟩:=fp0 (I [4,8,12,24]) rfl;have b1:V.frzs (V.frzs [V.int IntKind.i64 (-1),V.int IntKind.i64 0,V.int IntKind.i64 n])=I [-1,0,n]:=rfl;have b2:V.frzs (V.frzs [V.int IntKind.i64 (-2),V.int IntKind.i64 0,V.int IntKind.i64 1,V.int IntKind.i64 n])=I [-2,0,1,n]:=rfl;have b3:V.frzs (V.frzs [V.int IntKind.i64 100000,V.int IntKind.i64 (-100000),V.int IntKind.i64 100001,V.int IntKind.i64 (-4611686018427387904)])=I [100000,-100000,100001,-4611686018427387904]:=rfl;have b4:V.frzs (V.frzs [V.int IntKind.i64 4,V.int IntKind.i64 8,V.int IntKind.i64 12,V.int IntKind.i64 24])=I [4,8,12,24]:=rfl
  have hS2:ksF a0 (a1,a2)=if v=0 then(P.set i.toNat (kN a0 A2 H2 (I [-1,0,n])),S,w,uq a0 A2 H2 (I [-1,0,n]),uo a0 A2 H2 (I [-1,0,n]))
   else if v=1 then(P,S.set i.toNat (kN a0 A2 H2 (I [-2,0,1,n])),w,uq a0 A2 H2 (I [-2,0,1,n]),uo a0 A2 H2 (I [-2,0,1,n]))
   else if v=2 then(P,S,w.set i.toNat (kN a0 A2 H2 (I [100000,-100000,100001,-4611686018427387904])),uq a0 A2 H2 (I [100000,-100000,100001,-4611686018427387904]),uo a0 A2 H2 (I [100000,-100000,100001,-4611686018427387904]))
   else if v=3 then(P,S,w.drop 1,A1,H1)else(P,S,w,A1,H1):=by
   rw[hS,hi,hA2,hH2,hv,hA1,hH1,hn];rfl
  have fin:∀(p s w:List Int) (x y:Int),ksF a0 (a1,a2)=(p,s,w,x,y)->V.agg [V.slc false 2 (V.int IntKind.i64 0) (I p),V.slc false 2 (V.int IntKind.i64 0) (I s),V.slc false 2 (V.int IntKind.i64 0) (I w)]=rr/\
   V.box 91 (V.agg [V.slc false 5 (V.int IntKind.u8 0) a0,V.int IntKind.i64 x,V.int IntKind.u64 y])=yy:=by
   intro p s w x y e;rw[hr,hy,zCg,e];exact⟨rfl,rfl⟩
  simp only[zo hL,sQ,p0,p1,p2,Ed,hvpl,hvsl,hvwl,<-hn,<-hv,<-hA1,<-hH1,<-hi,<-hA2,<-hH2,fvp,fvs,fvw,b1,b2,b3,b4];have qp:∀(B G:Int) (l:List Int),zR a0 B G->1<=l.length->l.length<=10->zay a0 B G (I l):=fun B G l hs h1 h2=>⟨hs,⟨_,rfl⟩,by rw[zg];exact h1,by rw[zg];omega⟩;refine⟨qp _ _ _ hq (by simp) (by simp),⟨s0,hm24⟩,hs,fun h=>?_,fun h=>⟨fun h2=>?_,fun h2=>⟨fun h3=>?_,fun h3=>⟨fun h4=>?_,fun h4=>?_⟩⟩⟩⟩
  ·rw[if_pos h]at hS2;refine⟨s1,qp _ _ _ s2 (by simp) (by simp),i1.1,i1.2,by omega,by rw[hvp,zG];rfl,?_⟩;rw[hvp,ua,zt,hvs,hvw];exact fin _ _ _ _ _ hS2
  ·rw[if_neg h,if_pos h2]at hS2;refine⟨s1,qp _ _ _ s2 (by simp) (by simp),i1.1,i1.2,by omega,by rw[hvs,zG];rfl,?_⟩;rw[hvs,ua,zt,hvp,hvw];exact fin _ _ _ _ _ hS2
  ·rw[if_neg h,if_neg h2,if_pos h3]at hS2;refine⟨s1,qp _ _ _ s2 (by simp) (by simp),i1.1,i1.2,by omega,by rw[hvw,zG];rfl,?_⟩;rw[hvw,ua,zt,hvp,hvs];exact fin _ _ _ _ _ hS2
  ·rw[if_neg h,if_neg h2,if_neg h3,if_pos h4]at hS2;refine⟨by omega,by omega,qN _,?_⟩;rw[hvw,zB (by rw[zg];omega),show List.drop 1 (I w)=I (w.drop 1) by rw[I,I,List.map_drop],zt,hvp,hvs];exact fin _ _ _ _ _ hS2
  ·rw[if_neg h,if_neg h2,if_neg h3,if_neg h4]at hS2;rw[hvp,hvs,hvw];exact fin _ _ _ _ _ hS2
 ·cases h
noncomputable def ztQ(es:List V)(a h m:Int):List V×List V×List V×Int×Int:=(I (keF es (a,h) m).1,I (keF es (a,h) m).2.1,I (keF es (a,h) m).2.2.1,(keF es (a,h) m).2.2.2)
def zyx(f:List V->Int->Int->Int->List V×List V×List V×Int×Int)(q:List V->Int->Int->Int->Prop):kj:=fun
 |[.box 91 (.agg [.slc false 5 (.int .u8 0) a0,.int .i64 a1,.int .u64 a2]),.int .i64 a3]=>some ([q a0 a1 a2 a3],.agg [.slc false 2 (.int .i64 0) (f a0 a1 a2 a3).1,.slc false 2 (.int .i64 0) (f a0 a1 a2 a3).2.1,.slc false 2 (.int .i64 0) (f a0 a1 a2 a3).2.2.1],.box 91 (.agg [.slc false 5 (.int .u8 0) a0,.int .i64 (f a0 a1 a2 a3).2.2.2.1,.int .u64 (f a0 a1 a2 a3).2.2.2.2]))
 |_=>none
theorem zpD:zbX Tryz.prog 27 1000 (zyx ztQ zdr):=by
 intro args ps r y h hp;unfold zyx at h;split at h
 ·rename_i a0 a1 a2 a3;cases h;obtain⟨hq,m1,m2⟩:zdr a0 a1 a2 a3:=(zp.1 hp).1;obtain⟨⟨P,S,A,H⟩,hpt⟩:∃z:PtS,z=JZ a0 (a1,a2) a3:=⟨_,rfl⟩;have hok:=zgt (σ:=(a1,a2)) hq m1 m2;have hcl:=zzt (σ:=(a1,a2)) hq m1 m2;rw[<-hpt]at hok hcl;simp only at hcl;have n1:=hok.n1;have n24:=hok.n;have nsl:=hok.sl;have s0:zR a0 A H:=hok.src;simp only at n1 n24 nsl;obtain⟨n,hn⟩:=qEI P.length;obtain⟨E,hE⟩:=qEx (keF a0 (a1,a2) a3);obtain⟨R,hR⟩:=qEx (evN a0 P S P.length 0 (List.replicate P.length 0,A,H))
  have hE1:E=if zgE P S R.1=true then(if ja a0 R.2 16=0 then ksF a0 (yN a0 R.2 16)else(P,S,R.1,yN a0 R.2 16))else([-1,0,1],[-1,-1,0],[2,1,1],R.2):=by
   rw[hE,keF,<-hpt,hR]
  obtain⟨vp,hvp⟩:=qEx (I P);obtain⟨vs,hvs⟩:=qEx (I S);obtain⟨vw,hvw⟩:=qEx (I (List.replicate P.length 0));have hvpl:vp.length=P.length:=by rw[hvp,zg]
  have hvsl:vs.length=P.length:=by rw[hvs,zg,nsl]
  have hvwl:vw.length=P.length:=by rw[hvw,zg,zx]
  have fvp:V.frzs vp=vp:=by rw[hvp,zt]
  have fvs:V.frzs vs=vs:=by rw[hvs,zt]
  have fvw:V.frzs vw=vw:=by rw[hvw,zt]
  have g8:zcr a0 a1 a2 a3=(vp,vs,vw,A,H):=by rw[zcr,<-hpt,hvp,hvs,hvw]
  have hqv:Zd vp vs vw:=⟨⟨⟨_,hvp⟩,⟨_,hvs⟩,⟨_,hvw⟩⟩,by rw[hvp,hvs,hvw,zl,zl,zl];exact hcl⟩;generalize yx:qI=yY,yw:qT=yX,yv:qY=yW,qg:zcA=jE,qf:kN=jz,qk:uq=jM,qj:uo=jL,qP:zay=kx,Yl:zcr=KD,uO:zdr=Ym,zav:zfM=zbK,zau:zor=zc9,qC:yZ=kW,jX:Yn=uP,zeF:zkf=zjs,zeB:zrR=zjo,zeD:ztN=zhd,zad:zgr=zcL,zuZ:zCg=zA5,ut:zR=QE;refine zp3 (T:=tab) (B:=[(75,zlE zbK zc9),(40,Yv kW uP),(77,zpc zjs zjo),(76,zpa zhd zcL)]) (Bi:=[(26,1000,false,Ki yY yX yW jE),(29,1000,false,zaF jz jM jL kx),(28,1000,false,zdC KD Ym),(78,1000,false,zyw zA5 QE)]) 0 [1000011005,1000011006,2000006829,0,1,4,5,6,7,8,9,10,11] Tryz.func27 rfl rfl (by kernel_rfl) (yh rfl) mixed Zy (by subst yx yw yv qg qf qk qj qP Yl uO zav zau qC jX zeF zeB zeD zad zuZ ut;exact(zm zcz (zm Ko (zm zgm (zm zis zF))))) (by subst yx yw yv qg qf qk qj qP Yl uO zav zau qC jX zeF zeB zeD zad zuZ ut;exact(yE jH (yE kz (yE KM (yE zog zA))))) (by kernel_rfl) rfl rfl zah rfl ?_;intro L lp rr yy hL hr hy hf hlp;have Qn:∀a h n,zR a0 a h->jE a0 a h n:=fun a h n hs=>by rw[<-qg];exact hs
  have g9:KD a0 a1 a2 a3=(vp,vs,vw,A,H):=by rw[<-Yl,g8]
  have g13:Ym a0 a1 a2 a3:=by rw[<-uO];exact⟨hq,m1,m2⟩
  have g14:∀l,l=I [2,3]->zjs l 3=(I [-1,0,1],I [-1,-1,0],I [2,1,1])/\zjo l 3:=fun l hl=>by rw[hl,<-zeF,<-zeB];exact⟨zDm,zAc,by omega,by omega⟩
  have fin:∀(p s w:List Int) (x y:Int),E=(p,s,w,x,y)->V.agg [V.slc false 2 (V.int IntKind.i64 0) (I p),V.slc false 2 (V.int IntKind.i64 0) (I s),V.slc false 2 (V.int IntKind.i64 0) (I w)]=rr/\
   V.box 91 (V.agg [V.slc false 5 (V.int IntKind.u8 0) a0,V.int IntKind.i64 x,V.int IntKind.u64 y])=yy:=by
   intro p s w x y e;rw[hr,hy,ztQ,<-hE,e];exact⟨rfl,rfl⟩
  conv=>cbv
  simp only[zo hL,sQ,g9,hvwl,<-hn];refine⟨g13,by omega,by omega,by omega,?_⟩;obtain⟨vz,hvz⟩:=qEx (List.replicate n.toNat (V.int .i64 0));have hvz2:vz=I (List.replicate P.length 0):=by rw[hvz,JT,hn,zL]
  rw[<-hvz]
  refine hlp (List V×Int×Int×Int) _ _ _ [0,4,5,6,7] (fun x=>[(wJ5 0 a0 x.2.1 x.2.2.1),(wJ4 4),(wJ6 5 vp vs vw),(wJ2 6 x.1),(wJ0 7 x.2.2.2)])
   (fun x=>0<=x.2.2.2/\x.2.2.2<=n/\∃w:List Int,x.1=I w/\w.length=P.length/\zR a0 x.2.1 x.2.2.1/\evN a0 P S (n-x.2.2.2).toNat x.2.2.2.toNat (w,x.2.1,x.2.2.1)=R) (fun x=>(n-x.2.2.2).toNat) ((vz,A,H,0)) (by subst hL;rfl) ?_ ?_
  ·exact⟨by simp,by simp only;omega,_,hvz2,zx,s0,by rw[hn,hR];simp⟩
  rintro⟨vl,a,h,i⟩ ⟨i0,i1,w,hw,hwl,hs,hN⟩ hfx ag hag;simp only at i0 i1 hw hwl hs hN;have hvl:vl.length=P.length:=by rw[hw,zg,hwl]
  have fvl:V.frzs vl=vl:=by rw[hw,zt]
  obtain⟨t,ht⟩:=qEx (kN a0 a h (I [0,0,1,1,2]));obtain⟨B,hB⟩:=qEx (uq a0 a h (I [0,0,1,1,2]));obtain⟨G,hG⟩:=qEx (uo a0 a h (I [0,0,1,1,2]));have sB:zR a0 B G:=by rw[hB,hG];exact js hs
  have g3:∀l,l=I [0,0,1,1,2]->jz a0 a h l=t/\jM a0 a h l=B/\jL a0 a h l=G/\kx a0 a h l:=by
   intro l hl;rw[hl,<-qf,<-qk,<-qj,<-qP,ht,hB,hG];exact⟨rfl,rfl,rfl,hs,⟨_,rfl⟩,by simp,by simp⟩
  obtain⟨g4,g5,g6,g7⟩:=g3 (V.frzs (V.frzs [V.int IntKind.i64 0,V.int IntKind.i64 0,V.int IntKind.i64 1,V.int IntKind.i64 1,V.int IntKind.i64 2])) rfl;obtain⟨own,hown⟩:=qEx (zef P S i.toNat);have hol:own.length=P.length:=by rw[hown,zef,zjz,yj,zx]
  obtain⟨vo,hvo⟩:=qEx (I own);have hvol:vo.length=P.length:=by rw[hvo,zg,hol]
  have go:∀k,vo.getD k (.int .i64 0)=.int .i64 (own.getD k 0):=fun k=>by rw[hvo,zG]
  have Es:zbK vp vs vw i=vo:=by rw[<-zav,zfM,hvp,hvs,zl,zl,hvo,hown]
  have Qs:i<n->zc9 vp vs vw i:=fun h2=>by rw[<-zau];exact⟨⟨_,hqv⟩,⟨_,hvw⟩,i0,by rw[hvpl];omega⟩
  have Ew:zhd vp vs vw vl=(vp,vs,vl):=by rw[<-zeD];rfl
  have Qw:zcL vp vs vw vl:=by
   rw[<-zad];exact⟨⟨⟨P,hvp⟩,by rw[hvpl];omega⟩,⟨⟨S,hvs⟩,by rw[hvsl];omega⟩,⟨_,hvw⟩,⟨_,hw⟩⟩
  obtain⟨u,hu⟩:=qEx (qI a0 a h 16);obtain⟨B6,hB6⟩:=qEx (qT a0 a h 16);obtain⟨G6,hG6⟩:=qEx (qY a0 a h 16);have s6:zR a0 B6 G6:=by rw[hB6,hG6];exact js hs
  have e0:yY a0 a h 16=u:=by rw[<-yx,hu]
  have e1:yX a0 a h 16=B6:=by rw[<-yw,hB6]
  have e2:yW a0 a h 16=G6:=by rw[<-yv,hG6]
  have e3:zA5 a0 B6 G6=(I (ksF a0 (B6,G6)).1,I (ksF a0 (B6,G6)).2.1,I (ksF a0 (B6,G6)).2.2.1,(ksF a0 (B6,G6)).2.2.2):=by rw[<-zuZ];rfl
  conv=>cbv
  simp only[zo hL,sQ,hvl,<-hn,fvp,fvs,fvl,Es,g4,g5,g6,g7,hvol,hvpl,hvsl,true_and,Ew,e0,e1,e2,e3,fvw];have g15:=g14 (V.frzs [V.int IntKind.i64 2,V.int IntKind.i64 3]) rfl;rw[g15.1];refine⟨fun h2=>⟨Qs h2,by rw[hvo];exact ZR _,?_⟩,fun h2=>⟨Qw,by rw[<-jX];exact⟨⟨_,hvp⟩,⟨_,hvs⟩,⟨_,hw⟩⟩,fun h3=>⟨g15.2,ZR _,ZR _,ZR _,?_⟩,fun h3=>⟨Qn _ _ _ hs,fun h4=>⟨by rw[<-ut];exact s6,?_⟩,fun h4=>?_⟩⟩⟩
  ·have hnx:evN a0 P S (n-(i+1)).toNat (i+1).toNat (zaa t own P.length w,B,G)=R:=by
    rw[<-hN,show(n-i).toNat=(n-(i+1)).toNat+1 by omega,evN,show(i+1).toNat=i.toNat+1 by omega,ht,hB,hG,hown]
   clear g3 g4 g5 g6 g7 g8 g9 g13 g14 g15 hE1 hN hE Es Qs hpt hok ht hB hG hu hB6 hG6 e0 e1 e2 e3 Ew Qw hR
   refine hlp (List V×Int) _ _ _ [0,4,5,6,7,8,9,10] (fun x=>[(wJ5 0 a0 B G),(wJ4 4),(wJ6 5 vp vs vw),(wJ2 6 x.1),(wJ0 7 i),(wJ2 8 vo),(wJ0 9 t),(wJ0 10 x.2)])
    (fun x=>0<=x.2/\x.2<=n/\x.1=I (zaa t own x.2.toNat w)) (fun x=>(n-x.2).toNat) ((vl,0)) (by subst hL;rfl) ?_ ?_
   ·exact⟨by simp,by simp only;omega,hw⟩
   rintro⟨vk,k⟩ ⟨k0,k1,hK⟩ hfx2 ag2 hag2;simp only at k0 k1 hK;have hvk:vk.length=P.length:=(by rw[hK,zg,za5,hwl]);have gk:∀k',vk.getD k' (.int .i64 0)=.int .i64 ((zaa t own k.toNat w).getD k' 0):=fun k'=>by rw[hK,zG]
   conv=>cbv
   simp only[zo hL,sQ,hvk,hvol,go,gk,<-hn];rw[zn (n:=k+1)];refine⟨fun h4=>?_,fun h4=>?_⟩
   ·iterate 16 try refine⟨by omega,?_⟩
    refine hag2 (_,k+1) ⟨by simp only;omega,by simp only;omega,?_⟩ (by simp only;omega);simp only;rw[show(k+1).toNat=k.toNat+1 by omega,zaa,hK,ua]
   ·rw[zn (n:=i+1)];refine hag (vk,B,G,i+1) ⟨by simp only;omega,by simp only;omega,_,hK,by rw[za5,hwl],sB,?_⟩ (by simp only;omega);simp only;rw[show k.toNat=P.length by omega];exact hnx
  all_goals
   rw[show(n-i).toNat=0 by omega,evN]at hN;rw[<-hN]at hE1;rw[<-qC,yZ,hvp,hvs,hw,zl,zl,zl]at h3
  ·simp only[zt];refine fin _ _ _ a h ?_;rw[hE1,if_neg (by rw[h3];decide)]
  ·refine fin _ _ _ _ _ ?_;rw[hE1,if_pos h3,if_pos (by rw[ja,<-hu];exact h4),yN,<-hB6,<-hG6]
  ·rw[hvp,hvs,hw];refine fin P S w B6 G6 ?_;rw[hE1,if_pos h3,if_neg (by rw[ja,<-hu];exact h4),yN,<-hB6,<-hG6]
 ·cases h
def zyK(f:List V->List V×List V×List V)(q:List V->Prop):zO:=fun
 |[.slc false 5 (.int .u8 0) a0]=>some ([q a0],.agg [.slc false 2 (.int .i64 0) ((f a0).1),.slc false 2 (.int .i64 0) ((f a0).2.1),.slc false 2 (.int .i64 0) ((f a0).2.2)])
 |_=>none
theorem zfC:yM Tryz.prog 5 (zyK kcF IsU):=by
 intro args ps r h hp;unfold zyK at h;split at h
 ·rename_i a0;cases h;have hq:IsU a0:=(zp.1 hp).1
  have hfr:V.frzs a0=a0:=by
   obtain⟨xs,hxs,_⟩:=hq;rw[hxs,zgX]
  have s0:zR a0 0 (Za a0):=⟨hq,qN _,jD _⟩;obtain⟨H,hH⟩:=qEx (Za a0);rw[<-hH]at s0;obtain⟨v,hv⟩:=qEx (qI a0 0 H 4);obtain⟨A1,hA1⟩:=qEx (qT a0 0 H 4);obtain⟨H1,hH1⟩:=qEx (qY a0 0 H 4);have s1:zR a0 A1 H1:=by rw[hA1,hH1];exact js s0
  obtain⟨m,hm⟩:=qEx (kN a0 A1 H1 (I [3,5,8,12]));obtain⟨A2,hA2⟩:=qEx (uq a0 A1 H1 (I [3,5,8,12]));obtain⟨H2,hH2⟩:=qEx (uo a0 A1 H1 (I [3,5,8,12]));have s2:zR a0 A2 H2:=by rw[hA2,hH2];exact js s1
  have hm24:1<=m/\m<=24:=by
   have:=zdt (es:=a0) (σ:=(A1,H1)) (l:=[3,5,8,12]) s1 (by simp);rw[uz,<-hm]at this;simp at this;omega
  obtain⟨⟨P,S,A,G⟩,hpt⟩:∃z:PtS,z=JZ a0 (A2,H2) m:=⟨_,rfl⟩;have hok:=zgt (σ:=(A2,H2)) s2 hm24.1 hm24.2;rw[<-hpt]at hok;have n1:=hok.n1;have n24:=hok.n;have nsl:=hok.sl;have s3:zR a0 A G:=hok.src;simp only at n1 n24 nsl;obtain⟨n,hn⟩:=qEI P.length;obtain⟨c,hc⟩:=qEx (qI a0 A G 6);obtain⟨A3,hA3⟩:=qEx (qT a0 A G 6);obtain⟨H3,hH3⟩:=qEx (qY a0 A G 6);have s4:zR a0 A3 H3:=by rw[hA3,hH3];exact js s3
  have c1:=ZJ (n:=6) s3 (by omega);rw[<-hc]at c1;obtain⟨EL,hEL⟩:=qEx (dwL a0 n c.toNat (List.replicate P.length 0,A3,H3));obtain⟨vp,hvp⟩:=qEx (I P);obtain⟨vs,hvs⟩:=qEx (I S);obtain⟨vw,hvw⟩:=qEx (I (List.replicate P.length 0));have hvpl:vp.length=P.length:=by rw[hvp,zg]
  have fvp:V.frzs vp=vp:=by rw[hvp,zt]
  have fvs:V.frzs vs=vs:=by rw[hvs,zt]
  have fvw:V.frzs vw=vw:=by rw[hvw,zt]
  have hE0:v=0->kcF a0=(I (keF a0 (A1,H1) 6).1,I (keF a0 (A1,H1) 6).2.1,I (keF a0 (A1,H1) 6).2.2.1):=fun h=>by
   rw[kcF,if_pos (by rw[ja,<-hH,<-hv];exact h),yN,<-hH,<-hA1,<-hH1]
  have hE1:¬v=0->kcF a0=if(ug vp vs vw (I EL.1)).2.2.2=0 then((ug vp vs vw (I EL.1)).1,(ug vp vs vw (I EL.1)).2.1,(ug vp vs vw (I EL.1)).2.2.1)else(vp,vs,vw):=fun h=>by
   simp only[kcF,ja,yN,uz,QI,<-hH,<-hv,<-hA1,<-hH1,if_neg h,<-hm,<-hA2,<-hH2,<-hpt,<-hc,<-hA3,<-hH3,<-hn,<-hEL,<-hvp,<-hvs,<-hvw]
  generalize uK:Za=JG,Je:IsU=zbM,yx:qI=yY,yw:qT=yX,yv:qY=yW,qg:zcA=jE,qf:kN=jz,qk:uq=jM,qj:uo=jL,qP:zay=kx,Yl:zcr=KD,uO:zdr=Ym,zu0:ztQ=zA6,zeG:ug=zju,zeC:zrS=zqG;refine QA (B:=[(25,zi6 JG zbM),(30,zmo zju zqG)]) (Bi:=[(26,1000,false,Ki yY yX yW jE),(29,1000,false,zaF jz jM jL kx),(28,1000,false,zdC KD Ym),(27,1000,false,zyx zA6 Ym)]) [1000011004,1000011005,2000004819,0,2,3,4,5,6,7,8,9] Tryz.func5 rfl rfl (by subst uK Je yx yw yv qg qf qk qj qP Yl uO zu0 zeG zeC;exact(zm zbv (zm zaR zF))) (by subst uK Je yx yw yv qg qf qk qj qP Yl uO zu0 zeG zeC;exact(yE jH (yE kz (yE KM (yE zpD zA))))) ?_;intro L lp rr hL hr hf hlp;have Qn:∀a h n,zR a0 a h->jE a0 a h n:=fun a h n hs=>by rw[<-qg];exact hs
  have fp0:∀l,l=I [3,5,8,12]->jz a0 A1 H1 l=m/\jM a0 A1 H1 l=A2/\jL a0 A1 H1 l=H2/\kx a0 A1 H1 l:=fun l hl=>by
   rw[hl,<-qf,<-qk,<-qj,<-qP,hm,hA2,hH2];exact⟨rfl,rfl,rfl,s1,⟨_,rfl⟩,by simp,by simp⟩
  obtain⟨p0,p1,p2,p3⟩:=fp0 (V.frzs (V.frzs [V.int IntKind.i64 3,V.int IntKind.i64 5,V.int IntKind.i64 8,V.int IntKind.i64 12])) rfl;have e0:JG a0=H:=by rw[<-uK,hH]
  have e1:yY a0 0 H 4=v:=by rw[<-yx,hv]
  have e2:yX a0 0 H 4=A1:=by rw[<-yw,hA1]
  have e3:yW a0 0 H 4=H1:=by rw[<-yv,hH1]
  have e4:KD a0 A2 H2 m=(vp,vs,vw,A,G):=by rw[<-Yl,zcr,<-hpt,hvp,hvs,hvw]
  have e5:Ym a0 A2 H2 m:=by rw[<-uO];exact⟨s2,hm24⟩
  have e6:Ym a0 A1 H1 6:=by rw[<-uO];exact⟨s1,by omega,by omega⟩
  have e7:yY a0 A G 6=c:=by rw[<-yx,hc]
  have e8:yX a0 A G 6=A3:=by rw[<-yw,hA3]
  have e9:yW a0 A G 6=H3:=by rw[<-yv,hH3]
  have e10:zA6 a0 A1 H1 6=ztQ a0 A1 H1 6:=by rw[<-zu0]
  conv=>cbv
  simp only[zo hL,sQ,hfr,e0,e1,e2,e3,e4,e7,e8,e9,e10,p0,p1,p2,hvpl,<-hn];refine⟨by rw[<-Je];exact hq,Qn _ _ _ s0,fun h0=>⟨e6,?_⟩,fun h0=>⟨p3,e5,by omega,qN _,by omega,Qn _ _ _ s3,?_⟩⟩
  ·rw[hr,hE0 h0];simp only[ztQ,zt]
  obtain⟨vz,hvz⟩:=qEx (List.replicate n.toNat (V.int .i64 0));have hvz2:vz=I (List.replicate P.length 0):=by rw[hvz,JT,hn,zL]
  rw[<-hvz];have hE1:=hE1 h0;clear p0 p1 p2 p3 e0 e1 e2 e3 e4 e5 e6 e7 e8 e9 e10 fp0 hE0 hpt hok hm hA2 hH2 hv hA1 hH1 hA3 hH3 hc
  refine hlp (List V×Int×Int×Int) _ _ _ [2,3,4,5,6] (fun x=>[(wJ4 2),(wJ5 3 a0 x.2.1 x.2.2.1),(wJ6 4 vp vs vw),(wJ2 5 x.1),(wJ0 6 x.2.2.2)])
   (fun x=>0<=x.2.2.2/\x.2.2.2<=6/\∃l:List Int,x.1=I l/\l.length=P.length/\zR a0 x.2.1 x.2.2.1/\dwL a0 n x.2.2.2.toNat (l,x.2.1,x.2.2.1)=EL) (fun x=>x.2.2.2.toNat) ((vz,A3,H3,c)) (by subst hL;rfl) ?_ ?_
  ·exact⟨by simp only;omega,by simp only;omega,_,hvz2,zx,s4,hEL.symm⟩
  rintro⟨vl,b,g,i⟩ ⟨i0,i4,l,hl,hll,hsl,hdl⟩ hfx2 ag2 hag2;simp only at i0 i4 hl hll hsl hdl;have hvll:vl.length=P.length:=by rw[hl,zg,hll]
  have fvl:V.frzs vl=vl:=by rw[hl,zt]
  obtain⟨t,ht⟩:=qEx (qI a0 b g n);obtain⟨B1,hB1⟩:=qEx (qT a0 b g n);obtain⟨G1,hG1⟩:=qEx (qY a0 b g n);have t1:=ZJ (n:=n) hsl (by omega);have sB:zR a0 B1 G1:=by rw[hB1,hG1];exact js hsl
  have gl:∀j,vl.getD j (.int .i64 0)=.int .i64 (l.getD j 0):=fun j=>by rw[hl,zG]
  have gset:∀j x,vl.set j (.int .i64 x)=I (l.set j x):=fun j x=>by rw[hl,ua]
  have e0:yY a0 b g n=t:=by rw[<-yx,ht]
  have e1:yX a0 b g n=B1:=by rw[<-yw,hB1]
  have e2:yW a0 b g n=G1:=by rw[<-yv,hG1]
  obtain⟨⟨D1,D2,D3,code⟩,hD⟩:=qEx (ug vp vs vw vl);have e3:zju vp vs vw vl=(D1,D2,D3,code):=by rw[<-zeG,hD]
  have hDK:=zqb (a:=vp) (b:=vs) (c:=vw) (d:=vl) ⟨⟨_,hvp⟩,⟨_,hvs⟩,⟨_,hvw⟩⟩;rw[<-hD]at hDK;simp only at hDK;obtain⟨x1,fD1⟩:∃x,D1=I x:=hDK.1;obtain⟨x2,fD2⟩:∃x,D2=I x:=hDK.2.1;obtain⟨x3,fD3⟩:∃x,D3=I x:=hDK.2.2;have fD1:V.frzs D1=D1:=by rw[fD1,zt]
  have fD2:V.frzs D2=D2:=by rw[fD2,zt]
  have fD3:V.frzs D3=D3:=by rw[fD3,zt]
  conv=>cbv
  simp only[zo hL,sQ,e0,e1,e2,e3,hvll,hvpl,<-hn,gl,gset,fvp,fvs,fvw,fvl,fD1,fD2,fD3];rw[zn (n:=i-1)];refine⟨fun h2=>⟨Qn _ _ _ hsl,by omega,by omega,by omega,by omega,by omega,by omega,?_⟩,fun h2=>⟨by rw[<-zeC];exact⟨⟨⟨_,hvp⟩,⟨_,hvs⟩,⟨_,hvw⟩⟩,⟨_,hl⟩⟩,fun h3=>?_,fun h3=>?_⟩⟩
  ·refine hag2 (_,B1,G1,i-1) ⟨by simp only;omega,by simp only;omega,_,rfl,by rw[yj,hll],sB,?_⟩ (by simp only;omega);simp only;rw[show i.toNat=(i-1).toNat+1 by omega,dwL]at hdl;rw[ht,hB1,hG1];exact hdl
  all_goals
   rw[show i.toNat=0 by omega,dwL]at hdl;rw[<-hdl]at hE1;simp only at hE1;rw[<-hl,<-hD]at hE1;simp only at hE1
  ·rw[hr,hE1,if_neg h3]
  ·rw[hr,hE1,if_pos h3]
 ·cases h
noncomputable def dsp(es:List V):CvS:=zh2 es 0 (Za es)
theorem zgM{es:List V}(hq:IsU es):CvD es (dsp es):=zDC ⟨hq,qN _,jD _⟩
theorem zoz{ms:List (List Int)}{l r:List Int}(h:r∈Kf ms l):r.length=l.length:=by
 obtain⟨i,_,rfl⟩:=List.mem_map.1 h;exact List.length_map _
noncomputable def drO(es:List V):List Int×Int×Int:=odN es (dsp es).1.length ([],(dsp es).2.2)
noncomputable def drP(es:List V):List Int:=
 if ja es (drO es).2 16=0 then(drO es).1.set 0 (uz es (yN es (drO es).2 16) [0,-1,6])
 else if ja es (drO es).2 16=1 then(drO es).1++[0]else(drO es).1
def zi0(f:List V->List V×List V×List V)(q:List V->Prop):zO:=fun
 |[.slc false 5 (.int .u8 0) a0]=>some ([q a0],.tup [.agg [.slc false 49 (.agg [.slc false 2 (.int .i64 0) []]) ((f a0).1),.slc false 24 (.slc false 2 (.int .i64 0) []) ((f a0).2.1)],.slc false 2 (.int .i64 0) ((f a0).2.2)])
 |_=>none
noncomputable def zr2(a:List V):List V×List V×List V:=(BB false (dsp a).1,II false (dsp a).2.1,I (drP a))
theorem zz8{es:List V}(hq:IsU es):zR es (drO es).2.1 (drO es).2.2/\(drO es).1.Perm (zbT (dsp es).1.length)/\(drO es).1.length=(dsp es).1.length:=by
 have h:=zsW (dsp es).1.length (x:=([],(dsp es).2.2)) (zgM hq).src rfl;refine⟨h.1,h.2,?_⟩;have h2:=h.2.length_eq;have h3:(zbT (dsp es).1.length).length=(dsp es).1.length:=yi _ _;rw[drO,h2,h3]
theorem zEg{es:List V}(hq:IsU es):(drP es).length<=7:=by
 have h:=(zz8 hq).2.2;have h6:=(zgM hq).n6;unfold drP;split
 ·rw[yj];omega
 ·split
  ·rw[zr,zW];omega
  ·omega
theorem zgn:yM Tryz.prog 15 (zi0 zr2 IsU):=by
 intro args ps r h hp;unfold zi0 at h;split at h
 ·rename_i a0;cases h;have hq:IsU a0:=(zp.1 hp).1
  have hfr:V.frzs a0=a0:=by
   obtain⟨xs,hxs,_⟩:=hq;rw[hxs,zgX]
  have s0:zR a0 0 (Za a0):=⟨hq,qN _,jD _⟩;obtain⟨⟨bs,ms,A,H⟩,hd⟩:=qEx (dsp a0);have hok:=zgM hq;have hdo:=zz8 hq;obtain⟨⟨o,A1,H1⟩,ho⟩:=qEx (drO a0);rw[<-hd]at hok;rw[<-ho,<-hd]at hdo;have n1:=hok.n1;have n6:=hok.n6;have hs:=hok.src;have s1:zR a0 A1 H1:=hdo.1;have hol:o.length=bs.length:=hdo.2.2;simp only at n1 n6 hs;have Es:zhK a0 0 (Za a0)=(BB false bs,II false ms,A,H):=by rw[zhK,<-dsp,<-hd]
  obtain⟨r,hr0⟩:=qEI bs.length;have Eo:zoZ a0 A H r=(I o,A1,H1):=by rw[zoZ,hr0,zL,show odN a0 bs.length ([],A,H)=(o,A1,H1) by rw[ho,drO,<-hd]]
  obtain⟨vb,hvb⟩:=qEx (BB false bs);obtain⟨vm,hvm⟩:=qEx (II false ms);obtain⟨vo,hvo⟩:=qEx (I o);have hvl:vb.length=bs.length:=by rw[hvb,qw]
  have hvol:vo.length=bs.length:=by rw[hvo,zg,hol]
  have fvb:V.frzs vb=vb:=by rw[hvb,ko]
  have fvm:V.frzs vm=vm:=by rw[hvm,jy]
  have fvo:V.frzs vo=vo:=by rw[hvo,zt]
  rw[<-hvb,<-hvm]at Es;rw[<-hvo]at Eo;generalize uK:Za=JG,Je:IsU=zbM,yx:qI=yY,yw:qT=yX,yv:qY=yW,qg:zcA=jE,qf:kN=jz,qk:uq=jM,qj:uo=jL,qP:zay=kx,zeE:zhK=zmv,ut:zR=QE,zqz:zoZ=zED,zqw:zx7=zEu;refine QA (B:=[(25,zi6 JG zbM)]) (Bi:=[(26,1000,false,Ki yY yX yW jE),(29,1000,false,zaF jz jM jL kx),(61,1000,false,zoR zmv QE),(62,1000,false,ztw zED zEu)]) [2000006822,0,2,3,4,5,6,17] Tryz.func15 rfl rfl (by subst uK Je yx yw yv qg qf qk qj qP zeE ut zqz zqw;exact(zm zbv zF)) (by subst uK Je yx yw yv qg qf qk qj qP zeE ut zqz zqw;exact(yE jH (yE kz (yE zho (yE zoe zA))))) ?_;intro L lp rr hL hr hf hlp
  conv=>cbv
  subst uK Je yx yw yv qg zeE ut qf qk qj qP zqz zqw;obtain⟨v,hv⟩:=qEx (qI a0 A1 H1 16);obtain⟨A2,hA2⟩:=qEx (qT a0 A1 H1 16);obtain⟨H2,hH2⟩:=qEx (qY a0 A1 H1 16);have s2:zR a0 A2 H2:=by rw[hA2,hH2];exact js s1
  have b4:V.frzs (V.frzs [V.int IntKind.i64 0,V.int IntKind.i64 (-1),V.int IntKind.i64 6])=I [0,-1,6]:=rfl
  have hP:drP a0=if v=0 then o.set 0 (kN a0 A2 H2 (I [0,-1,6]))else if v=1 then o++[0]else o:=by
   simp only[drP,<-ho,ja,yN,uz,<-hv,<-hA2,<-hH2]
  simp only[zo hL,sQ,hfr,Es,hvl,<-hr0,fvb,fvm,fvo,Eo,<-hv,<-hA2,<-hH2,b4]
  have fin:∀p:List Int,drP a0=p->V.tup [V.agg [V.slc false 49 (V.agg [V.slc false 2 (V.int IntKind.i64 0) []]) vb,V.slc false 24 (V.slc false 2 (V.int IntKind.i64 0) []) vm],V.slc false 2 (V.int IntKind.i64 0) (I p)]=rr:=by
   intro p e;rw[hr,zr2,<-hd,e,hvb,hvm]
  have qp:zay a0 A2 H2 (I [0,-1,6]):=⟨s2,⟨_,rfl⟩,by simp[zg],by simp[zg]⟩;refine⟨hq,s0,⟨hs,by omega,by omega⟩,s1,fun h=>?_,fun h=>⟨fun h2=>⟨rfl,by simp only[zW];omega,yL _,?_⟩,fun h2=>?_⟩⟩
  ·rw[if_pos h]at hP;refine⟨qp,qN _,by omega,by omega,by rw[hvo,zG];rfl,?_⟩;rw[hvo,ua,zt];exact fin _ hP
  ·rw[if_neg h,if_pos h2]at hP;rw[hvo,show I o++[V.int .i64 0]=I (o++[0]) by rw[<-qW];rfl,zt];exact fin _ hP
  ·rw[if_neg h,if_neg h2]at hP;rw[hvo];exact fin _ hP
 ·cases h
def dpL(es:List V):Nat->Nat->List Int×Int×Int->List Int×Int×Int
 |0,_,x=>x
 |k+1,i,x=>dpL es k (i+1) (if 0<ja es x.2 3 then(x.1++[(i:Int)],yN es x.2 3)else(x.1,yN es x.2 3))
theorem zt6{es:List V}:∀(k i:Nat) {x:List Int×Int×Int},zR es x.2.1 x.2.2->zR es (dpL es k i x).2.1 (dpL es k i x).2.2/\(dpL es k i x).1.length<=x.1.length+k
 |0,_,_,h=>⟨h,zw _⟩
 |k+1,i,x,h=>by
  have h1:=jS (n:=3) h;rw[dpL];split
  ·have:=zt6 k (i+1) (x:=(x.1++[(i:Int)],yN es x.2 3)) h1;rw[zr,zW]at this;exact⟨this.1,by omega⟩
  ·have:=zt6 k (i+1) (x:=(x.1,yN es x.2 3)) h1;exact⟨this.1,by have:=this.2;simp only at this;omega⟩
noncomputable def dpO(es:List V):List Int×Int×Int:=dpL es (dsp es).1.length 0 ([],(dsp es).2.2)
noncomputable def dpP(es:List V):List Int:=
 if ja es (dpO es).2 16=0 then(dpO es).1++[uz es (yN es (dpO es).2 16) [0,-1,6]]else(dpO es).1
theorem zEh{es:List V}(hq:IsU es):(dpP es).length<=7:=by
 have h:=(zt6 (dsp es).1.length 0 (x:=([],(dsp es).2.2)) (zgM hq).src).2;have h6:=(zgM hq).n6;rw[<-dpO,zu]at h;unfold dpP;split
 ·rw[zr,zW];omega
 ·omega
noncomputable def zo2(a:List V):List V×List V×List V:=(BB false (dsp a).1,II false (dsp a).2.1,I (dpP a))
theorem zh5:yM Tryz.prog 19 (zi0 zo2 IsU):=by
 intro args ps r h hp;unfold zi0 at h;split at h
 ·rename_i a0;cases h;have hq:IsU a0:=(zp.1 hp).1
  have hfr:V.frzs a0=a0:=by
   obtain⟨xs,hxs,_⟩:=hq;rw[hxs,zgX]
  have s0:zR a0 0 (Za a0):=⟨hq,qN _,jD _⟩;obtain⟨⟨bs,ms,A,H⟩,hd⟩:=qEx (dsp a0);have hok:=zgM hq;rw[<-hd]at hok;have n1:=hok.n1;have n6:=hok.n6;have hs:=hok.src;simp only at n1 n6 hs;have Es:zhK a0 0 (Za a0)=(BB false bs,II false ms,A,H):=by rw[zhK,<-dsp,<-hd]
  obtain⟨r,hr0⟩:=qEI bs.length;obtain⟨R,hR⟩:=qEx (dpO a0);have hR0:dpL a0 bs.length 0 ([],A,H)=R:=by rw[hR,dpO,<-hd]
  obtain⟨vb,hvb⟩:=qEx (BB false bs);obtain⟨vm,hvm⟩:=qEx (II false ms);have hvl:vb.length=bs.length:=by rw[hvb,qw]
  have fvb:V.frzs vb=vb:=by rw[hvb,ko]
  have fvm:V.frzs vm=vm:=by rw[hvm,jy]
  rw[<-hvb,<-hvm]at Es;generalize uK:Za=JG,Je:IsU=zbM,yx:qI=yY,yw:qT=yX,yv:qY=yW,qg:zcA=jE,qf:kN=jz,qk:uq=jM,qj:uo=jL,qP:zay=kx,zeE:zhK=zmv,ut:zR=QE;refine QA (B:=[(25,zi6 JG zbM)]) (Bi:=[(26,1000,false,Ki yY yX yW jE),(29,1000,false,zaF jz jM jL kx),(61,1000,false,zoR zmv QE)]) [2000010832,0,2,3,4,5,6,7] Tryz.func19 rfl rfl (by subst uK Je yx yw yv qg qf qk qj qP zeE ut;exact(zm zbv zF)) (by subst uK Je yx yw yv qg qf qk qj qP zeE ut;exact(yE jH (yE kz (yE zho zA)))) ?_;intro L lp rr hL hr hf hlp;have Qn:∀a h n,zR a0 a h->jE a0 a h n:=fun a h n hs=>by rw[<-qg];exact hs
  obtain⟨h0,hh0⟩:=qEx (Za a0);have e0:JG a0=h0:=by rw[<-uK,hh0]
  have e1:zmv a0 0 h0=(vb,vm,A,H):=by rw[<-zeE,hh0,Es]
  have e2:QE a0 0 h0:=by rw[<-ut,hh0];exact s0
  conv=>cbv
  simp only[zo hL,sQ,hfr,e0,e1];refine⟨by rw[<-Je];exact hq,e2,?_⟩
  refine hlp (List V×Int×Int×Int) _ _ _ [2,4,5,6,7] (fun x=>[(2,none,.val (.box 31 (.agg [.slc true 49 (.agg [.slc true 2 (.int .i64 0) []]) [],.slc true 24 (.slc true 2 (.int .i64 0) []) []]))),(wJ5 4 a0 x.2.1 x.2.2.1),(5,none,.val (.box 31 (.agg [.slc false 49 (.agg [.slc false 2 (.int .i64 0) []]) vb,.slc false 24 (.slc false 2 (.int .i64 0) []) vm]))),(wJ2 6 x.1),(wJ0 7 x.2.2.2)])
   (fun x=>0<=x.2.2.2/\x.2.2.2<=r/\∃l:List Int,x.1=I l/\l.length<=x.2.2.2/\zR a0 x.2.1 x.2.2.1/\dpL a0 (r-x.2.2.2).toNat x.2.2.2.toNat (l,x.2.1,x.2.2.1)=R) (fun x=>(r-x.2.2.2).toNat) (([],A,H,0)) (by subst hL;rfl) ?_ ?_
  ·exact⟨by simp,by simp only;omega,[],rfl,by simp,hs,by rw[<-hR0,hr0];simp⟩
  rintro⟨vl,a,h,i⟩ ⟨i0,i1,l,hl,hll,hsl,hN⟩ hfx ag hag;simp only at i0 i1 hl hll hsl hN;have hvll:vl.length=l.length:=by rw[hl,zg]
  have fvl:V.frzs vl=vl:=by rw[hl,zt]
  obtain⟨t,ht⟩:=qEx (qI a0 a h 3);obtain⟨B,hB⟩:=qEx (qT a0 a h 3);obtain⟨G,hG⟩:=qEx (qY a0 a h 3);have sB:zR a0 B G:=by rw[hB,hG];exact js hsl
  have e3:yY a0 a h 3=t:=by rw[<-yx,ht]
  have e4:yX a0 a h 3=B:=by rw[<-yw,hB]
  have e5:yW a0 a h 3=G:=by rw[<-yv,hG]
  conv=>cbv
  obtain⟨v,hv⟩:=qEx (qI a0 a h 16);obtain⟨B6,hB6⟩:=qEx (qT a0 a h 16);obtain⟨G6,hG6⟩:=qEx (qY a0 a h 16);have s6:zR a0 B6 G6:=by rw[hB6,hG6];exact js hsl
  have e6:yY a0 a h 16=v:=by rw[<-yx,hv]
  have e7:yX a0 a h 16=B6:=by rw[<-yw,hB6]
  have e8:yW a0 a h 16=G6:=by rw[<-yv,hG6]
  have b4:V.frzs (V.frzs [V.int IntKind.i64 0,V.int IntKind.i64 (-1),V.int IntKind.i64 6])=I [0,-1,6]:=rfl;have e9:jz a0 B6 G6 (I [0,-1,6])=kN a0 B6 G6 (I [0,-1,6]):=by rw[<-qf]
  have qp:kx a0 B6 G6 (I [0,-1,6]):=by rw[<-qP];exact⟨s6,⟨_,rfl⟩,by simp[zg],by simp[zg]⟩
  have one:∀x:Int,vl++[V.int .i64 x]=I (l++[x]):=fun x=>by rw[hl,<-qW];rfl
  have fin:∀p:List Int,dpP a0=p->V.tup [V.agg [V.slc false 49 (V.agg [V.slc false 2 (V.int IntKind.i64 0) []]) vb,V.slc false 24 (V.slc false 2 (V.int IntKind.i64 0) []) vm],V.slc false 2 (V.int IntKind.i64 0) (I p)]=rr:=by
   intro p e;rw[hr,zo2,<-hd,e,hvb,hvm]
  simp only[zo hL,sQ,hvl,<-hr0,e3,e4,e5,e6,e7,e8,e9,b4,fvb,fvm,fvl,one,zt];rw[zn (n:=i+1)]
  have hnx:i<r->∀l2,(if 0<t then l++[i]else l)=l2->dpL a0 (r-(i+1)).toNat (i+1).toNat (l2,B,G)=R:=fun h2 l2 e=>by
   rw[<-hN,show(r-i).toNat=(r-(i+1)).toNat+1 by omega,dpL,show(i+1).toNat=i.toNat+1 by omega,ja,<-ht,yN,<-hB,<-hG,<-e,show((i.toNat:Nat):Int)=i by omega];split<;>rfl
  refine⟨fun h2=>⟨Qn _ _ _ hsl,fun h3=>⟨rfl,by simp only[zW];omega,yL _,?_⟩,fun h3=>?_⟩,fun h2=>⟨Qn _ _ _ hsl,fun h3=>?_,fun h3=>?_⟩⟩
  ·refine hag (_,B,G,i+1) ⟨by simp only;omega,by simp only;omega,_,rfl,by simp only[zr,zW];omega,sB,?_⟩ (by simp only;omega);exact hnx h2 _ (if_pos h3)
  ·refine hag (vl,B,G,i+1) ⟨by simp only;omega,by simp only;omega,_,hl,by simp only;omega,sB,?_⟩ (by simp only;omega);exact hnx h2 _ (if_neg h3)
  all_goals
   rw[show(r-i).toNat=0 by omega,dpL]at hN
   have hP:dpP a0=if v=0 then l++[kN a0 B6 G6 (I [0,-1,6])]else l:=by
    simp only[dpP,<-hR,<-hN,ja,yN,uz,<-hv,<-hB6,<-hG6]
  ·rw[if_pos h3]at hP
   (repeat' first|(exact yL _)|(exact jY rfl)|(exact qG _)|(apply And.intro)|(intro _))<;>(try first|exact True.intro|omega|rfl|(simp only[zj,zu,zg];omega))
   exact fin _ hP
  ·rw[if_neg h3]at hP;rw[hl];exact fin _ hP
 ·cases h
theorem zgo:yM Tryz.prog 22 (zyL zyF IsU):=by
 intro args ps r h hp;unfold zyL at h;split at h
 ·rename_i a0;cases h;have hq:IsU a0:=(zp.1 hp).1
  have hfr:V.frzs a0=a0:=by
   obtain⟨xs,hxs,_⟩:=hq;rw[hxs,zgX]
  generalize uK:Za=JG,Je:IsU=zbM,zjg:znL=zvc,ut:zR=QE;refine QA (B:=[(25,zi6 JG zbM)]) (Bi:=[(72,1000,false,zrY zvc QE)]) [0,2] Tryz.func22 rfl rfl (by subst uK Je zjg ut;exact(zm zbv zF)) (by subst uK Je zjg ut;exact(yE zhp zA)) ?_;intro L lp rr hL hr hf hlp
  conv=>cbv
  subst uK Je zjg ut;simp only[zo hL,sQ,hfr];refine⟨hq,⟨hq,qN _,jD _⟩,?_⟩;rw[hr,znL,zt];rfl
 ·cases h
def zhL(a b l:List V):List V×List V:=uF a b (I (Zs (yD l)))
def zC6(a b l:List V):Prop:=zns a b/\∃xs,l=I xs/\PmP xs/\xs.length=a.length
def zx4(ms:List (List Int))(ls:List Int)(i:Nat):List Int:=Zz ls (fun k=>mm ms i k) 0 ls.length ls.length
theorem zmA:yM Tryz.prog 64 (zce zhL zC6):=by
 intro args ps r h hp;unfold zce at h;split at h
 ·rename_i a0 a1 a2;cases h;obtain⟨⟨⟨⟨bs,hbs,hb1,hb2⟩,⟨ms,hms,hm1,hm2⟩⟩,hcv⟩,⟨ls,hls,hpm,hll⟩⟩:=(zp.1 hp).1;rw[hbs,hms,jG,qB]at hcv;have g1:V.frzs a0=a0:=by rw[hbs,ko]
  have g2:V.frzs a1=a1:=by rw[hms,jy]
  have hbl:a0.length=bs.length:=by rw[hbs,qw]
  have hml:a1.length=ms.length:=by rw[hms,ye]
  have gb:∀k,a0.getD k (.agg [.slc false 2 (.int .i64 0) []])=.agg [.slc false 2 (.int .i64 0) (I (bs.getD k []))]:=fun k=>by rw[hbs,YT]
  have gm:∀k,a1.getD k (.slc false 2 (.int .i64 0) [])=.slc false 2 (.int .i64 0) (I (ms.getD k [])):=fun k=>by rw[hms,qu]
  have hm0:∀x y:Nat,(ms.getD x []).getD y 0=mm ms x y:=fun _ _=>rfl;obtain⟨n,hn⟩:=qEI bs.length;have n1:=hcv.n1;have n6:=hcv.n6;have hmn:ms.length=bs.length:=hcv.tab.len;have hbr:∀i,i<bs.length->Br (bs.getD i []):=fun i hi=>zaK (hcv.br i hi);have rl:∀k,k<bs.length->(ms.getD k []).length=bs.length:=fun k hk=>(hcv.tab.row k hk).1;have mmr:∀i k,i<bs.length->k<bs.length->0<=mm ms i k/\mm ms i k<=200:=fun i k hi hk=>hcv.tab.range hi hk;have mmo:∀i k,i<bs.length->k<bs.length->i≠k->1<=mm ms i k/\mm ms i k<=200:=fun i k hi hk hne=>((hcv.tab.row i hi).2 k hk).2 hne;rw[hbl]at hll;have hf0:zhL a0 a1 a2=(BB true (Yr bs (Zs ls)),II true (Kf ms (Zs ls))):=by rw[zhL,uF,hbs,hms,hls,jG,qB,zl,zl]
  have hal:a2.length=ls.length:=by rw[hls,zg]
  have gl:∀k,a2.getD k (.int .i64 0)=.int .i64 (ls.getD k 0):=fun k=>by rw[hls,zG]
  have hin:=hpm.inr;obtain⟨m,hm⟩:=qEI ls.length;generalize qO:same=jK,yu:qU=yP,Zl:Jz=ZE,zd6:q_n=zhY;refine zH (B:=[(36,zdP jK yP),(38,zi1 ZE zhY)]) (Bi:=[]) [2000001012,2000001015,0,1,2,4,5,6,7,8,9,18,19,20,38,39,40] Tryz.func64 rfl rfl (by subst qO yu Zl zd6;exact(zm Ke (zm zcn zF))) zA ?_;intro L lp rr hL hr hf hlp;have qcp:∀x,Br x->yP (I x):=fun x hx=>by rw[<-yu];exact⟨⟨_,rfl⟩,by rw[zg];have:=hx.len;omega⟩
  have ecp:∀x,jK (I x)=I x:=fun x=>by rw[<-qO];rfl
  have Esq:ZE m=II true (List.replicate ls.length (List.replicate ls.length 0)):=by rw[<-Zl,Jz,hm,zL]
  conv=>cbv
  simp only[zo hL,sQ,hal,<-hm,Esq];obtain⟨fs0,hfs0⟩:=qEx (List.replicate m.toNat (V.agg [V.slc true 2 (V.int IntKind.i64 0) []]));obtain⟨gs0,hgs0⟩:=qEx (II true (List.replicate ls.length (List.replicate ls.length 0)))
  have hF0:fs0=BB true (Zz ls (fun i=>bs.getD i []) [] ls.length 0):=by
   rw[hfs0,Zz,zvj,hm,zL];rfl
  have hG0:gs0=II true (Zz ls (zx4 ms ls) (List.replicate ls.length 0) ls.length 0):=by rw[hgs0,Zz]
  rw[<-hfs0,<-hgs0];refine⟨by omega,by omega,by omega,by rw[<-zd6];exact⟨by omega,by omega⟩,?_⟩
  refine hlp ((List V×List V)×Int) _ _ _ [1,2,4,5,18,19,20] (fun x=>[(wJ3 1 a2),(2,none,.val (.box 31 (.agg [.slc false 49 (.agg [.slc false 2 (.int .i64 0) []]) a0,.slc false 24 (.slc false 2 (.int .i64 0) []) a1]))),(4,none,.val (.box 31 (.agg [.slc true 49 (.agg [.slc true 2 (.int .i64 0) []]) [],.slc true 24 (.slc true 2 (.int .i64 0) []) []]))),(5,none,.val (.box 31 (.agg [.slc true 49 (.agg [.slc true 2 (.int .i64 0) []]) x.1.1,.slc true 24 (.slc true 2 (.int .i64 0) []) x.1.2]))),(wJ10 18 a0),(wJ0 19 n),(wJ0 20 x.2)])
   (fun x=>0<=x.2/\x.2<=n/\x.1.1=BB true (Zz ls (fun i=>bs.getD i []) [] ls.length x.2.toNat)/\x.1.2=II true (Zz ls (zx4 ms ls) (List.replicate ls.length 0) ls.length x.2.toNat)) (fun x=>(n-x.2).toNat) (((fs0,gs0),0)) (by subst hL;rw[hn,<-hbl];rfl) ?_ ?_
  ·exact⟨by simp,by simp only;omega,hF0,hG0⟩
  rintro⟨⟨fs,gs⟩,i⟩ ⟨i0,i1,hI,hJ⟩ hfx ag hag;simp only at i0 i1 hI hJ;have hfl:fs.length=ls.length:=by rw[hI,qw,Yg]
  have hgl:gs.length=ls.length:=by rw[hJ,ye,Yg]
  obtain⟨fsg,hfsg⟩:∃fsg:Nat->List Int,∀k,fs.getD k (V.agg [V.slc true 2 (V.int IntKind.i64 0) []])=V.agg [V.slc true 2 (V.int IntKind.i64 0) (I (fsg k))]:=⟨fun k=>(Zz ls (fun i=>bs.getD i []) [] ls.length i.toNat).getD k [],fun k=>by rw[hI,YT]⟩
  conv=>cbv
  simp only[zo hL,sQ,hbl,hml,gb,gm,Yh,KK,KY,hal,gl,ecp,hfl,hgl,hfsg,<-hn];refine⟨fun h2=>?_,fun h2=>?_⟩
  ·have hil:i.toNat<ls.length:=(by omega);have hxi:=hin _ hil;have hbx:=hbr i.toNat (by omega);have hrx:=rl i.toNat (by omega);have qx:=qcp _ hbx;obtain⟨fs',hfs'⟩:=qEx (fs.set (ls.getD i.toNat 0).toNat (V.agg [.slc true 2 (.int .i64 0) (I (bs.getD i.toNat []))]));obtain⟨vr,hvr⟩:=qEx (I (ms.getD i.toNat []));have hvl:vr.length=ls.length:=(by rw[hvr,zg];omega);have gv:∀k,vr.getD k (.int .i64 0)=.int .i64 (mm ms i.toNat k):=fun k=>(by rw[hvr,zG,hm0]);obtain⟨r,hrr⟩:=qEI ((ms.getD i.toNat []).length);have hrn:r=n:=(by omega);obtain⟨G,hG⟩:=qEx (Zz ls (zx4 ms ls) (List.replicate ls.length 0) ls.length i.toNat);have hGl:G.length=ls.length:=(by rw[hG,Yg]);rw[<-hG]at hJ;rw[<-hfs',<-hvr];refine⟨i0,h2,i0,by omega,qx,hxi.1,hxi.2,by omega,.inl (Yh _ _ _),i0,by omega,?_⟩;obtain⟨x,hx⟩:=qEx (ls.getD i.toNat 0)
   refine hlp (List V×Int) _ _ _ [1,2,4,5,6,18,19,20,38,39,40] (fun y=>[(wJ3 1 a2),(2,none,.val (.box 31 (.agg [.slc false 49 (.agg [.slc false 2 (.int .i64 0) []]) a0,.slc false 24 (.slc false 2 (.int .i64 0) []) a1]))),(4,none,.val (.box 31 (.agg [.slc true 49 (.agg [.slc true 2 (.int .i64 0) []]) [],.slc true 24 (.slc true 2 (.int .i64 0) []) []]))),(5,none,.val (.box 31 (.agg [.slc true 49 (.agg [.slc true 2 (.int .i64 0) []]) fs',.slc true 24 (.slc true 2 (.int .i64 0) []) y.1]))),(wJ0 6 i),(wJ10 18 a0),(wJ0 19 n),(wJ0 20 i),(wJ3 38 vr),(wJ0 39 r),(wJ0 40 y.2)])
    (fun y=>0<=y.2/\y.2<=n/\y.1=II true (G.set x.toNat (Zz ls (fun k=>mm ms i.toNat k) 0 ls.length y.2.toNat))) (fun y=>(n-y.2).toNat) ((gs,0)) (by subst hL;rw[hrr];rfl) ?_ ?_
   ·refine⟨by simp,by simp only;omega,?_⟩;simp only;have e0:Zz ls (fun k=>mm ms i.toNat k) 0 ls.length (0:Int).toNat=List.replicate ls.length 0:=rfl;rw[hJ,e0,hG,hx,zzq hpm _ _ hil]
   rintro⟨ks,k⟩ ⟨k0,k1,hK⟩ hfx2 ag2 hag2;simp only at k0 k1 hK;have hln:(ls.length:Int)=n:=(by omega);have hn6:n<=6:=(by omega);have hxn:x.toNat<ls.length:=(by omega);have hx0:0<=x/\x<ls.length:=(by rw[hx];exact hxi);clear hb1 hm1 hb2 hm2 hll n1 n6 hmn hbl hml hn hm hfl hgl hrr hrx hcv mmr mmo hbx rl hbr hxi;have hkl:ks.length=ls.length:=(by rw[hK,ye,yj,hGl]);obtain⟨R,hR⟩:=qEx (Zz ls (fun k=>mm ms i.toNat k) 0 ls.length k.toNat);have hRl:R.length=ls.length:=(by rw[hR,Yg]);rw[<-hR]at hK
   have gk:ks.getD x.toNat (.slc true 2 (.int .i64 0) [])=.slc true 2 (.int .i64 0) (I R):=by
    rw[hK,qu,zgi (by omega),if_pos rfl]
   conv=>cbv
   simp only[zo hL,sQ,hvl,gv,hal,gl,<-hx,hkl,gk];refine⟨fun h3=>?_,fun h3=>?_⟩
   ·have hkl2:k.toNat<ls.length:=(by omega);have hyk:=hin _ hkl2;rw[zn (n:=k+1)]
    (repeat' first|(exact yL _)|(exact jY rfl)|(exact qG _)|(apply And.intro)|(intro _))<;>(try first|exact True.intro|omega|rfl|(simp only[zj,zu,zg];omega))
    refine hag2 (_,k+1) ⟨by simp only;omega,by simp only;omega,?_⟩ (by simp only;omega);simp only[ya k0];rw[hK,ua,zd5,List.set_set,hR,Zz]
   ·rw[zn (n:=i+1)];refine hag ((fs',ks),i+1) ⟨by simp only;omega,by simp only;omega,?_,?_⟩ (by simp only;omega)
    ·simp only[ya i0];rw[hfs',hI,zFR,Zz]
    ·simp only[ya i0];rw[hK,hR,Zz,<-hG,show k.toNat=ls.length by omega,<-hx];rfl
  ·rw[hr,hf0,hI,hJ,show i.toNat=ls.length by omega,zk5 hpm,zk5 hpm];rw[show(zx4 ms ls)=fun i=>(Zs ls).map fun k=>mm ms i k.toNat from funext fun i=>zk5 hpm _ _];rfl
 ·cases h
def zp8(a:List V)(n:Int):Bool:=zaZ n (yD a)
theorem zjG:yM Tryz.prog 63 (zas zp8 JJ):=by
 intro args ps r h hp;unfold zas at h;split at h
 ·rename_i a0 a1;cases h;obtain⟨⟨ls,hls⟩,hll⟩:JJ a0 a1:=(zp.1 hp).1;have hq:qU a0:=⟨⟨ls,hls⟩,hll⟩;have hal:a0.length=ls.length:=by rw[hls,zg]
  rw[hal]at hll;have g0:V.frzs a0=a0:=by rw[hls,zt]
  have hf0:zp8 a0 a1=zaZ a1 ls:=by rw[zp8,hls,zl]
  obtain⟨ss,hss⟩:=qEx (srt ls);obtain⟨vs,hvs⟩:=qEx (I ss);have hvl:vs.length=ls.length:=by rw[hvs,zg,hss,zlW]
  have gv:∀k,vs.getD k (.int .i64 0)=.int .i64 (ss.getD k 0):=fun k=>by rw[hvs,zG]
  obtain⟨m,hm⟩:=qEI ls.length;generalize qO:same=jK,yu:qU=yP,zqy:zke=zxv;refine zH (B:=[(85,kD jK yP)]) (Bi:=[(101,0,false,zpY zxv yP)]) [0,1,4,5,6,7,12,13,14] Tryz.func63 rfl rfl (by subst qO yu zqy;exact(zm zlY zF)) (by subst qO yu zqy;exact(yE zEU zA)) ?_;intro L lp rr hL hr hf hlp;have Es:zxv a0=vs:=by rw[<-zqy,zke,hls,zl,hvs,hss]
  have Ec:jK a0=a0:=by rw[<-qO];rfl
  have Qa:yP a0:=by rw[<-yu];exact hq
  conv=>cbv
  simp only[zo hL,sQ,g0,Ec,Es,hvl,<-hm];refine⟨Qa,Qa,?_⟩
  refine hlp (Int) _ _ _ [0,1,5,12,13,14] (fun x=>[(wJ3 0 a0),(wJ0 1 a1),(wJ2 5 vs),(12,none,.rf 5 0 []),(wJ0 13 m),(wJ0 14 x)])
   (fun x=>0<=x/\x<=m/\∀t:Nat,t<x.toNat->ss.getD t 0=t) (fun x=>(m-x).toNat) (0) (by subst hL;rw[hm,<-hvl];rfl) ?_ ?_
  ·exact⟨by simp,by omega,fun t ht=>by simp at ht⟩
  rintro i ⟨i0,i1,hI⟩ hfx ag hag
  conv=>cbv
  simp only[zo hL,sQ,hvl,gv,hal];refine⟨fun h2=>⟨i0,by omega,by omega,fun h3=>?_,fun h3=>?_⟩,fun h2=>?_⟩
  ·rw[hr,hf0]
   cases hb:zaZ a1 ls with
   |false=>rfl
   |true=>
    exfalso;have hp:=(zaY.1 hb).2;rw[hss,hp.srt,zB5 _ _ (by omega)]at h3;omega
  ·rw[zn (n:=i+1)];refine hag (i+1) ⟨by omega,by omega,fun t ht=>?_⟩ (by omega)
   by_cases hti:t=i.toNat
   ·rw[hti];omega
   ·exact hI t (by omega)
  ·have hp:PmP ls:=zzy fun t ht=>(by rw[<-hss];exact hI t (by omega));rw[hr,hf0]
   have:zaZ a1 ls=((ls.length:Int)==a1):=by
    rw[Bool.eq_iff_iff,zaY,beq_iff_eq];exact⟨fun h=>h.1.symm,fun h=>⟨h.symm,hp⟩⟩
   rw[this]
 ·cases h
def zul(f:Int->List V->Bool)(q:Int->List V->Prop):zO:=fun
 |[.int .i64 a0,.slc false 2 (.int .i64 0) a1]=>some ([q a0 a1],.bool (f a0 a1))
 |_=>none
def zoY(n:Int)(a:List V):Bool:=zaZ n (yD a)
def zBE(n:Int)(a:List V):Prop:=qU a/\n<=2147483647
theorem zio:yM Tryz.prog 66 (zul zoY zBE):=by
 intro args ps r h hp;unfold zul at h;split at h
 ·rename_i a0 a1;cases h;obtain⟨⟨⟨ls,hls⟩,hll⟩,hn⟩:zBE a0 a1:=(zp.1 hp).1;have hq:∀x,JJ a1 x:=fun _=>⟨⟨ls,hls⟩,hll⟩;have hal:a1.length=ls.length:=by rw[hls,zg]
  rw[hal]at hll;have g1:V.frzs a1=a1:=by rw[hls,zt]
  have hf0:zoY a0 a1=zaZ a0 ls:=by rw[zoY,hls,zl]
  generalize zc7:zdH=zdb,uI:JJ=Zw;refine zH (B:=[(45,zas zdb Zw)]) (Bi:=[]) [0,1,4,5] Tryz.func66 rfl rfl (by subst zc7 uI;exact(zm zkA zF)) zA ?_;intro L lp rr hL hr hf hlp;have Eh:∀x,zdb a1 x=ls.contains x:=fun x=>by rw[<-zc7,zdH,hls,zl]
  have Qh:∀x,Zw a1 x:=by rw[<-uI];exact hq
  conv=>cbv
  refine hlp (Int) _ _ _ [0,1,5] (fun x=>[(wJ0 0 a0),(wJ3 1 a1),(wJ0 5 x)])
   (fun x=>0<=x/\(x=0\/x<=a0)/\(∀t:Nat,t<x.toNat->(t:Int)∈ls)) (fun x=>(a0-x).toNat) (0) (by subst hL;rfl) ?_ ?_
  ·exact⟨by simp,.inl rfl,fun t ht=>by simp at ht⟩
  rintro i ⟨i0,i1,hI⟩ hfx ag hag
  conv=>cbv
  simp only[zo hL,sQ,g1,hal,Eh];refine⟨fun h2=>⟨Qh i,fun h3=>?_,fun h3=>?_⟩,fun h2=>?_⟩
  ·rw[hr,hf0]
   cases hb:zaZ a0 ls with
   |false=>rfl
   |true=>
    exfalso;obtain⟨k1,k2⟩:=zaY.1 hb;have:=k2 i.toNat (by omega);rw[show((i.toNat:Nat):Int)=i by omega]at this;simp[this]at h3
  ·rw[zn (n:=i+1)];refine hag (i+1) ⟨by omega,by omega,fun t ht=>?_⟩ (by omega)
   by_cases hti:t=i.toNat
   ·rw[hti,show((i.toNat:Nat):Int)=i by omega];simpa using h3
   ·exact hI t (by omega)
  ·rw[hr,hf0]
   have:zaZ a0 ls=((ls.length:Int)==a0):=by
    rw[Bool.eq_iff_iff,zaY,beq_iff_eq];exact⟨fun h=>h.1.symm,fun h=>⟨h.symm,fun t ht=>hI t (by omega)⟩⟩
   rw[this]
 ·cases h
noncomputable def zdF(a b l:List V):List V×List V×Int:=bif jZ a b then(bif zaZ a.length (yD l)then((zhL a b l).1,(zhL a b l).2,0)else([],[],2))else([],[],1)
theorem zjI:yM Tryz.prog 16 (Jo zdF zjN):=by
 intro args ps r h hp;unfold Jo at h;split at h
 ·rename_i a0 a1 a2;cases h;obtain⟨hq,⟨ls,hls⟩,hll⟩:zjN a0 a1 a2:=(zp.1 hp).1;have g1:=zfW hq.1.isBB;have g2:=zfV hq.2.isII;have g3:V.frzs a2=a2:=by rw[hls,zt]
  have hal:a2.length=ls.length:=by rw[hls,zg]
  have e1:zp8 a2 a0.length=zaZ a0.length ls:=by rw[zp8,hls,zl]
  generalize kK:jZ=uW,YS:q_C=zae,zAM:zp8=zFK,uI:JJ=Zw,zw6:zhL=zEB,zwU:zC6=zEt;refine zH (B:=[(11,zdR uW zae),(63,zas zFK Zw),(64,zce zEB zEt)]) (Bi:=[]) [0,1,2,4,5] Tryz.func16 rfl rfl (by subst kK YS zAM uI zw6 zwU;exact(zm Kp (zm zjG (zm zmA zF)))) zA ?_;intro L lp rr hL hr hf hlp
  conv=>cbv
  simp only[zo hL,sQ,g1,g2,g3];subst kK YS zAM uI zw6 zwU;simp only[e1];refine⟨hq,fun h=>?_,fun h=>⟨⟨⟨ls,hls⟩,hll⟩,fun h2=>?_,fun h2=>⟨⟨zfR hq h,ls,hls,(zaY.1 h2).2,by have:=(zaY.1 h2).1;omega⟩,?_⟩⟩⟩
  ·rw[hr,zdF,h];rfl
  ·rw[hr,zdF,h,hls,zl,h2];rfl
  ·have hx:zaZ a0.length (yD a2)=true:=(by rw[hls,zl];exact h2);rw[hr,zdF,h,hx];rfl
 ·cases h
theorem zjC:yM Tryz.prog 17 (Jo zdF zjN):=by
 intro args ps r h hp;unfold Jo at h;split at h
 ·rename_i a0 a1 a2;cases h;obtain⟨hq,⟨ls,hls⟩,hll⟩:zjN a0 a1 a2:=(zp.1 hp).1;have g1:=zfW hq.1.isBB;have g2:=zfV hq.2.isII;have g3:V.frzs a2=a2:=by rw[hls,zt]
  have hal:a2.length=ls.length:=by rw[hls,zg]
  rw[hal]at hll;have gl:∀k,a2.getD k (.int .i64 0)=.int .i64 (ls.getD k 0):=fun k=>by rw[hls,zG]
  obtain⟨n,hn⟩:=qEI a0.length
  have hnl:a0.length<=2147483647:=by
   obtain⟨bs,hbs,h1,_⟩:=hq.1;rw[hbs,qw];exact h1
  have hf1:jZ a0 a1=false->zdF a0 a1 a2=([],[],1):=fun h=>by rw[zdF,h];rfl
  have hf2:jZ a0 a1=true->zaZ n ls=false->zdF a0 a1 a2=([],[],2):=fun h h2=>by rw[zdF,h,hls,zl,<-hn,h2];rfl
  have hf3:jZ a0 a1=true->zaZ n ls=true->zdF a0 a1 a2=((uF a0 a1 (I (Zs ls))).1,(uF a0 a1 (I (Zs ls))).2,0):=fun h h2=>by
   rw[zdF,h,hls,zl,<-hn,h2,zhL,zl];rfl
  generalize kK:jZ=uW,YS:q_C=zae,zxb:zoY=zxA,zAG:zBE=zFH,zbm:uF=zcN,zbi:zgs=zcM;refine zH (B:=[(65,zdR uW zae),(66,zul zxA zFH),(67,zce zcN zcM)]) (Bi:=[]) [0,1,2,4,5,6,7] Tryz.func17 rfl rfl (by subst kK YS zxb zAG zbm zbi;exact(zm zkU (zm zio (zm ziq zF)))) zA ?_;intro L lp rr hL hr hf hlp;have E1:uW a0 a1=jZ a0 a1:=by rw[kK]
  have E2:zxA n a2=zaZ n ls:=by rw[<-zxb,zoY,hls,zl]
  have Ep:∀l,zcN a0 a1 l=uF a0 a1 l:=fun l=>by rw[zbm]
  have Qp:∀l,zgs a0 a1 l->zcM a0 a1 l:=fun l h=>by rw[<-zbi];exact h
  conv=>cbv
  simp only[zo hL,sQ,g1,g2,g3,hal,<-hn,E1,E2];subst YS zAG;refine⟨hq,fun h=>?_,fun h=>⟨⟨⟨⟨ls,hls⟩,by omega⟩,by omega⟩,fun h2=>?_,fun h2=>⟨by omega,by omega,by omega,?_⟩⟩⟩
  ·rw[hr,hf1 h]
  ·rw[hr,hf2 h h2]
  obtain⟨hnn,hpm⟩:=zaY.1 h2;have hin:=hpm.inr;obtain⟨os0,hos0⟩:∃os0:List V,os0=List.replicate (ls.length:Int).toNat (V.int IntKind.i64 0):=⟨_,rfl⟩;rw[<-hos0]
  refine hlp (List V×Int) _ _ _ [1,2,4,6,7] (fun x=>[(wJ3 1 a2),(2,none,.val (.box 31 (.agg [.slc false 49 (.agg [.slc false 2 (.int .i64 0) []]) a0,.slc false 24 (.slc false 2 (.int .i64 0) []) a1]))),(4,none,.val (.box 31 (.agg [.slc true 49 (.agg [.slc true 2 (.int .i64 0) []]) [],.slc true 24 (.slc true 2 (.int .i64 0) []) []]))),(wJ2 6 x.1),(wJ0 7 x.2)])
   (fun x=>0<=x.2/\x.2<=ls.length/\x.1=I (Zz ls (fun k=>(k:Int)) 0 ls.length x.2.toNat)) (fun x=>(ls.length-x.2).toNat) ((os0,0)) (by subst hL;rfl) ?_ ?_
  ·refine⟨by simp,by simp,?_⟩;simp only;have e0:Zz ls (fun k=>(k:Int)) 0 ls.length (0:Int).toNat=List.replicate ls.length 0:=rfl;rw[hos0,zL,e0];exact JT ls.length 0
  rintro⟨os,i⟩ ⟨i0,i1,hI⟩ hfx ag hag;simp only at i0 i1 hI;have hol:os.length=ls.length:=by rw[hI,zg,Yg]
  conv=>cbv
  have gq:∀k,os.getD k (.int .i64 0)=.int .i64 ((yD os).getD k 0):=fun k=>by rw[hI,zG,zl]
  simp only[zo hL,sQ,hal,gl,hol,g1,g2,g3,Ep,gq];refine⟨fun h3=>?_,fun h3=>?_⟩
  ·have hxi:=hin i.toNat (by omega);rw[zn (n:=i+1)]
   (repeat' first|(exact yL _)|(exact jY rfl)|(exact qG _)|(apply And.intro)|(intro _))<;>(try first|exact True.intro|omega|rfl|(simp only[zj,zu,zg];omega))
   refine hag (_,i+1) ⟨by simp only;omega,by simp only;omega,?_⟩ (by simp only;omega);simp only[ya i0];rw[Zz,hI,ua,show((i.toNat:Nat):Int)=i by omega]
  ·have ho:os=I (Zs ls):=(by rw[hI,show i.toNat=ls.length by omega];rfl);have hfo:V.frzs os=os:=(by rw[ho,zt]);have hxl:yD a0=yD a0:=rfl
   have n6:ls.length<=6/\uF a0 a1 (I (Zs ls))=(BB true (Yr (zga a0) (Zs ls)),II true (Kf (zbR a1) (Zs ls))):=by
    obtain⟨bs,hbs,_⟩:=hq.1;have h6:=(za0.1 h).n6;rw[hbs,jG]at h6;refine⟨?_,by rw[uF,zl]⟩;have:a0.length=bs.length:=(by rw[hbs,qw]);omega
   rw[hfo,ho,n6.2];refine⟨Qp _ ⟨zfR hq h,Zs ls,rfl,fun k hk=>?_,by rw[JL];omega⟩,zCW _,zuL _,?_⟩
   ·have:=zDQ hpm k hk;omega
   ·rw[hr,hf3 h h2,n6.2]
 ·cases h
end Go.Ax
