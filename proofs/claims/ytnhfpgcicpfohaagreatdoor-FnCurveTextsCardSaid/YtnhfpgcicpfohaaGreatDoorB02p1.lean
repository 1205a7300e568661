import Derived.Test.YtnhfpgcicpfohaaGreatDoorB01p1
set_option linter.all false
set_option maxRecDepth 100000
set_option maxHeartbeats 1000000
open Int renaming eq_ofNat_of_zero_le→Qq,natCast_add→Zz,natCast_nonneg→jG,tmod_lt_of_pos→kD,toNat_natCast→zV
open List renaming append_assoc→zS,append_nil→yh,drop_zero→qY,ext_getElem?→yF,flatMap_append→js,flatMap_cons→ZB,flatMap_nil→YV,getD_cons_succ→qn,getD_cons_zero→yL,getD_eq_getElem?_getD→zd,getElem?_eq_getElem→ze,getElem?_eq_none→zG,getElem?_map→zJ,getElem?_replicate→jR,getElem?_set_self→uP,getElem?_take_of_lt→zah,length_append→zk,length_cons→zi,length_map→zy,length_nil→zq,length_replicate→zU,length_take→zD,mem_map→yD,mem_range→yX,range_succ→ux,replicate_succ'→qN,take_append_drop→jq,take_of_length_le→zu,take_succ_eq_append_getElem→zC
open Nat renaming le_of_ble_eq_true→zh,le_refl→zn
open Option.some renaming injEq→za
open Prod.mk renaming injEq→zb
/-
 Sequences of multiplicities of branches:steps,runs,first multiplicities. No conditions but those of the contracts.
-/
namespace Go.Ax
open Go.Proofs
def JS(a b:Int):List (List Int):=(stp a.toNat b.toNat).map fun p=>[(p.1:Int),(p.2:Int)]
theorem zhd:∀(n a b:Nat),b≤n→(stp a b).length≤b
 |0,a,b,h=>by obtain rfl:b=0:=by omega
              rw[zh6];simp
 |n+1,a,b,h=>by
  by_cases hb:0<b
  ·rw[zow hb,zi]
   have h1:a%b<b:=Nat.mod_lt _ hb
   have:=zhd n b (a%b) (by omega)
   omega
  ·obtain rfl:b=0:=by omega
   rw[zh6];simp
theorem zuO{a b:Int}(ha:0≤a)(hb:0<b):JS a b=[a.tdiv b,b]::JS b (a.tmod b):=by
 obtain⟨a,rfl⟩:=Qq ha
 obtain⟨b,rfl⟩:=Qq (Int.le_of_lt hb)
 rw[JS,zV,zV,zow (by omega),List.map_cons,JS,←Int.ofNat_tdiv,←Int.ofNat_tmod,zV,zV]
theorem zrM(a:Int){b:Int}(hb:¬0<b):JS a b=[]:=by
 rw[JS,show b.toNat=0 by omega,zh6];rfl
def zhK(f:Int→Int→List V)(q:Int→Int→Prop):zQ:=fun
 |[.int .i64 a0,.int .i64 a1]=>some ([q a0 a1],.slc true 44 (.slc true 2 (.int .i64 0) []) (f a0 a1))
 |_=>none
def ziI(a b:Int):List V:=II true (JS a b)
def zif(a b:Int):Prop:=0≤a∧a≤1000000∧0≤b∧b≤1000000
theorem zrV:yZ Tryz.prog 111 (zhK ziI zif):=by
 intro args ps r h hp
 unfold zhK at h
 split at h
 ·rename_i a0 a1
  simp only[za,zb]at h
  obtain⟨rfl,rfl⟩:=h
  obtain⟨q1,q2,q3,q4⟩:zif a0 a1:=(zo.1 hp).1
  refine zO (T:=tab) (B:=[]) (Bi:=[]) [0,1,4,5] Tryz.func111 rfl rfl (by kernel_rfl) (zh rfl) mixed yd (by exact zH) (by exact zE) (by kernel_rfl) ?_
  intro L lp rr hL hr hf hlp
  conv=>cbv
  refine hlp (Int×Int×List V) _ _ _ [0,1,5] (fun x=>[(0,none,.val (.int .i64 x.1)),(1,none,.val (.int .i64 x.2.1)),(5,none,.val (.slc true 44 (.slc true 2 (.int .i64 0) []) x.2.2))])
   (fun x=>0≤x.1∧x.1≤1000000∧0≤x.2.1∧x.2.1≤1000000∧∃L,x.2.2=II true L∧L++JS x.1 x.2.1=JS a0 a1) (fun x=>x.2.1.toNat) ((a0,a1,[])) (by subst hL;rfl) ?_ ?_
  ·exact⟨q1,q2,q3,q4,[],rfl,rfl⟩
  rintro⟨a,b,es⟩ ⟨p1,p2,p3,p4,L,hes,hI⟩ hfx ag hag
  simp only at p1 p2 p3 p4 hes hI
  have hel:es.length≤1000000:=by
   have h1:=congrArg List.length hI
   have h2:=zhd a1.toNat a0.toNat a1.toNat (zn _)
   rw[zk,JS,JS,zy,zy]at h1
   rw[hes,yz]
   omega
  conv=>cbv
  simp only[zr hL,sQ,hel]
  refine⟨fun h=>?_,fun h=>?_⟩
  ·have h1:0≤a.tdiv b∧a.tdiv b≤a:=⟨Int.tdiv_nonneg p1 p3,Int.tdiv_le_self b p1⟩
   have h2:0≤a.tmod b∧a.tmod b<b:=⟨Int.tmod_nonneg b p1,kD a h⟩
   have hw:IntKind.wrap .i64 (a.tdiv b)=a.tdiv b:=zl (by omega) (by omega)
   (repeat' first|(exact qJ _)|(exact Yf rfl)|(exact kn _)|(apply And.intro)|(intro _))<;>(try first|exact True.intro|omega|rfl|(simp only[zi,zq,zm];omega))
   refine hag (b,a.tmod b,_) ⟨by simp only;omega,by simp only;omega,by simp only;omega,by simp only;omega,L++[[a.tdiv b,b]],?_,?_⟩ (by simp only;omega)
   ·simp only
    rw[YK,hes,hw]
    rfl
   ·simp only
    rw[zS,←hI,zuO p1 h]
    rfl
  ·rw[hr,ziI,←hI,zrM a h,yh,hes]
 ·cases h
theorem znm:yZ Tryz.prog 99 (zhK ziI zif):=by
 intro args ps r h hp
 unfold zhK at h
 split at h
 ·rename_i a0 a1
  simp only[za,zb]at h
  obtain⟨rfl,rfl⟩:=h
  obtain⟨q1,q2,q3,q4⟩:zif a0 a1:=(zo.1 hp).1
  refine zO (T:=tab) (B:=[]) (Bi:=[]) [0,1,4,5,6] Tryz.func99 rfl rfl (by kernel_rfl) (zh rfl) mixed yd (by exact zH) (by exact zE) (by kernel_rfl) ?_
  intro L lp rr hL hr hf hlp
  conv=>cbv
  refine hlp (Int×Int×List V) _ _ _ [0,1,5] (fun x=>[(0,none,.val (.int .i64 x.1)),(1,none,.val (.int .i64 x.2.1)),(5,none,.val (.slc true 44 (.slc true 2 (.int .i64 0) []) x.2.2))])
   (fun x=>0≤x.1∧x.1≤1000000∧0≤x.2.1∧x.2.1≤1000000∧∃L,x.2.2=II true L∧L++JS x.1 x.2.1=JS a0 a1) (fun x=>x.2.1.toNat) ((a0,a1,[])) (by subst hL;rfl) ?_ ?_
  ·exact⟨q1,q2,q3,q4,[],rfl,rfl⟩
  rintro⟨a,b,es⟩ ⟨p1,p2,p3,p4,L,hes,hI⟩ hfx ag hag
  simp only at p1 p2 p3 p4 hes hI
  have hel:es.length≤1000000:=by
   have h1:=congrArg List.length hI
   have h2:=zhd a1.toNat a0.toNat a1.toNat (zn _)
   rw[zk,JS,JS,zy,zy]at h1
   rw[hes,yz]
   omega
  conv=>cbv
  simp only[zr hL,sQ,hel]
  refine⟨fun h=>?_,fun h=>?_⟩
  ·have h1:0≤a.tdiv b∧a.tdiv b≤a:=⟨Int.tdiv_nonneg p1 p3,Int.tdiv_le_self b p1⟩
   have h2:0≤a.tmod b∧a.tmod b<b:=⟨Int.tmod_nonneg b p1,kD a h⟩
   have hw:IntKind.wrap .i64 (a.tdiv b)=a.tdiv b:=zl (by omega) (by omega)
   (repeat' first|(exact qJ _)|(exact Yf rfl)|(exact kn _)|(apply And.intro)|(intro _))<;>(try first|exact True.intro|omega|rfl|(simp only[zi,zq,zm];omega))
   refine hag (b,a.tmod b,_) ⟨by simp only;omega,by simp only;omega,by simp only;omega,by simp only;omega,L++[[a.tdiv b,b]],?_,?_⟩ (by simp only;omega)
   ·simp only
    rw[YK,hes,hw]
    rfl
   ·simp only
    rw[zS,←hI,zuO p1 h]
    rfl
  ·rw[hr,ziI,←hI,zrM a h,yh,hes]
 ·cases h
def jk(S:List (List Int)):List Int:=S.flatMap fun s=>List.replicate (s.getD 0 0).toNat (s.getD 1 0)
theorem ziD(S:List (List Int))(k:Nat)(h:k<S.length):jk (S.take (k+1))=jk (S.take k)++List.replicate ((S.getD k []).getD 0 0).toNat ((S.getD k []).getD 1 0):=by
 rw[zi7 _ _ h,jk,jk,js,ZB,YV,yh]
def exI(a b:Int):List Int:=(ex a.toNat b.toNat).map fun(n:Nat)=>(n:Int)
theorem zjZ(a b:Int):jk (JS a b)=exI a b:=by
 rw[jk,JS,exI,ex,List.flatMap_map,List.map_flatMap]
 congr 1
 funext p
 simp
theorem zs5:∀(n a b:Nat),b≤n→(ex a b).length≤a+b
 |0,a,b,h=>by obtain rfl:b=0:=by omega
              rw[zeN];simp
 |n+1,a,b,h=>by
  by_cases hb:0<b
  ·rw[uK hb,zk,zU]
   have h1:a%b<b:=Nat.mod_lt _ hb
   have h2:=zs5 n b (a%b) (by omega)
   have h3:=Nat.div_add_mod a b
   have h4:a/b≤b*(a/b):=Nat.le_mul_of_pos_left _ hb
   omega
  ·obtain rfl:b=0:=by omega
   rw[zeN];simp
theorem zuP{a b:Int}{s:List Int}(h:s∈JS a b):s.length=2∧0≤s.getD 0 0∧0≤s.getD 1 0:=by
 simp only[JS,yD]at h
 obtain⟨p,_,rfl⟩:=h
 exact⟨rfl,jG _,jG _⟩
def zpf(f:List V→Int→Int→List V)(q:List V→Int→Int→Prop):kF:=fun
 |[.slc true 2 (.int .i64 0) a0,.int .i64 a1,.int .i64 a2]=>some ([q a0 a1 a2],.slc true 2 (.int .i64 0) (f a0 a1 a2),.hole 0)
 |_=>none
def zkZ(es:List V)(k e:Int):List V:=es++I (exI k e)
def zoO(es:List V)(k e:Int):Prop:=es.length≤100000000∧zif k e
theorem zrW:zAq Tryz.prog 102 0 (zpf zkZ zoO):=by
 intro args ps r y h hp
 unfold zpf at h
 split at h
 ·rename_i a0 a1 a2
  simp only[za,zb]at h
  obtain⟨rfl,rfl,rfl⟩:=h
  obtain⟨q0,hq⟩:zoO a0 a1 a2:=(zo.1 hp).1
  obtain⟨q1,q2,q3,q4⟩:=hq
  generalize zdm:ziI=zb3
  generalize zdh:zif=zll
  refine zBB (T:=tab) (B:=[(111,zhK zb3 zll)]) (Bi:=[]) 0 [0,1,2,6,8,9,12,13,14] Tryz.func102 rfl rfl (by kernel_rfl) (zh rfl) mixed yd (by subst zdm zdh;exact(zt zrV zH)) (by subst zdm zdh;exact zE) (by kernel_rfl) (zh rfl) ?_
  intro L lp rr hL hr hf hlp
  conv=>cbv
  obtain⟨S,hS⟩:∃S,S=JS a1 a2:=⟨_,rfl⟩
  obtain⟨ss,hss⟩:∃ss,ss=II true S:=⟨_,rfl⟩
  have hF:zb3 a1 a2=ss:=by rw[←zdm,ziI,hss,hS]
  have hsl:ss.length=S.length:=by rw[hss,yz]
  have hSl:S.length≤1000000:=by
   have:=zhd a2.toNat a1.toNat a2.toNat (zn _)
   rw[hS,JS,zy];omega
  have gss:∀k,ss.getD k (.slc true 2 (.int .i64 0) [])=.slc true 2 (.int .i64 0) (I (S.getD k [])):=fun k=>by rw[hss,jf]
  have hfl:(exI a1 a2).length≤2000000:=by
   have:=zs5 a2.toNat a1.toNat a2.toNat (zn _)
   rw[exI,zy];omega
  have hpre:∀k,(jk (S.take k)).length≤2000000:=fun k=>by
   have h1:jk S=jk (S.take k)++jk (S.drop k):=by
    rw[jk,jk,jk,←js,jq]
   have h2:=congrArg List.length h1
   rw[hS,zjZ,zk,←hS]at h2
   omega
  simp only[zr hL,sQ,hF,hsl]
  refine⟨by rw[←zdh];exact⟨q1,q2,q3,q4⟩,?_⟩
  refine hlp (List V×Int) _ _ _ [0,12,13,14] (fun x=>[(0,none,.val (.slc true 2 (.int .i64 0) x.1)),(12,none,.val (.slc true 44 (.slc true 2 (.int .i64 0) []) ss)),(13,none,.val (.int .i64 S.length)),(14,none,.val (.int .i64 x.2))])
   (fun x=>0≤x.2∧x.2≤S.length∧x.1=a0++I (jk (S.take x.2.toNat))) (fun x=>(S.length-x.2).toNat) ((a0,0)) (by subst hL;rfl) ?_ ?_
  ·exact⟨by simp,by simp only;omega,by simp[jk,I]⟩
  rintro⟨es,i⟩ ⟨i0,i1,hI⟩ hfx ag hag
  simp only at i0 i1 hI
  have hst:=ziD S i.toNat
  have hmem:=fun h=>zuP (a:=a1) (b:=a2) (s:=S.getD i.toNat []) (by rw[←hS];exact zcY h)
  have hp1:=hpre (i.toNat+1)
  generalize hE:S.getD i.toNat []=E at hst hmem
  obtain⟨m,hm⟩:∃m:Int,m=S.length:=⟨_,rfl⟩
  simp only[←hm]
  conv=>cbv
  simp only[zr hL,sQ,hsl,gss,hE]
  refine⟨fun h=>?_,fun h=>?_⟩
  ·obtain⟨hEl,hE0,hE1⟩:=hmem (by omega)
   have hst':=hst (by omega)
   have hip:i.toNat<S.length:=by omega
   refine⟨i0,by omega,by omega,?_⟩
   refine hlp (List V×Int) _ _ _ [0,8,9,12,13,14] (fun x=>[(0,none,.val (.slc true 2 (.int .i64 0) x.1)),(8,none,.rf 12 0 [i.toNat]),(9,none,.val (.int .i64 x.2)),(12,none,.val (.slc true 44 (.slc true 2 (.int .i64 0) []) ss)),(13,none,.val (.int .i64 m)),(14,none,.val (.int .i64 i))])
    (fun x=>0≤x.2∧x.2≤E.getD 0 0∧x.1=es++I (List.replicate x.2.toNat (E.getD 1 0))) (fun x=>(E.getD 0 0-x.2).toNat) (es,0) (by subst hL;rfl) ?_ ?_
   ·exact⟨by simp,hE0,by simp[I]⟩
   rintro⟨es2,j⟩ ⟨j0,j1,hI2⟩ hfx2 ag2 hag2
   simp only at j0 j1 hI2
   obtain⟨it,hit⟩:∃it,it=i.toNat:=⟨_,rfl⟩
   simp only[←hit]at hE ⊢
   conv=>cbv
   simp only[zr hL,sQ,hsl,gss,hE]
   have hl2:es2.length≤102000000:=by
    rw[hst',zk,zU]at hp1
    rw[hI2,hI,zk,zm,zk,zm,zU]
    omega
   have hEb:E.getD 0 0≤2000000:=by
    rw[hst',zk,zU]at hp1
    omega
   have hti:it<S.length:=by omega
   subst hit
   refine⟨hti,by omega,by omega,hti,by omega,fun hj=>?_,fun hj=>?_⟩
   ·rw[zl (n:=j+1) (by omega) (by omega)]
    (repeat' first|(exact qJ _)|(exact Yf rfl)|(exact kn _)|(apply And.intro)|(intro _))<;>(try first|exact True.intro|omega|rfl|(simp only[zi,zq,zm];omega))
    refine hag2 (_,j+1) ⟨by simp only;omega,by simp only;omega,?_⟩ (by simp only;omega)
    simp only[yj j0]
    rw[qN,hI2,zS,←jS]
    rfl
   ·rw[zl (n:=i+1) (by omega) (by omega)]
    subst hm
    refine hag (_,i+1) ⟨by simp only;omega,by simp only;omega,?_⟩ (by simp only;omega)
    simp only[yj i0]
    rw[hst',hI2,hI,zS,jS,show j=E.getD 0 0 by omega]
  ·rw[hr,zkZ,hI,zu (by omega),hS,zjZ]
 ·cases h
def KG(xs:List Int)(i:Nat):Int:=xs.getD (i+1) 0-(if i=0 then 0 else xs.getD i 0)
def zgT(xs:List Int)(i:Nat):List Int:=exI (KG xs i) ((dv xs).getD i 0)
def zcR(xs:List Int)(n:Nat):List Int:=(List.range n).flatMap (zgT xs)
def ZN(xs:List Int):List Int:=zcR xs (xs.length-1)
theorem zf4(xs:List Int)(n:Nat):zcR xs (n+1)=zcR xs n++zgT xs n:=by
 rw[zcR,zcR,ux,js,ZB,YV,yh]
theorem zjO{xs:List Int}(h:Br xs){i:Nat}(hi:i+1<xs.length):1≤KG xs i∧KG xs i≤2000:=by
 have h1:=h.up i hi
 have h2:=h.high (i+1) hi
 have h3:=h.low i (by omega)
 have h4:=h.low (i+1) hi
 rw[KG]
 split<;>omega
theorem zzr{xs:List Int}(h:Br xs){i:Nat}(hi:i+1<xs.length):(zgT xs i).length≤3000:=by
 have h1:=zjO h hi
 have h2:=h.dhi i (by omega)
 have h3:=h.dpos i (by omega)
 have:=zs5 _ (KG xs i).toNat ((dv xs).getD i 0).toNat (zn _)
 rw[zgT,exI,zy]
 omega
theorem ze2{xs:List Int}(h:Br xs):∀n,n+1≤xs.length→(zcR xs n).length≤3000*n
 |0,_=>by simp[zcR]
 |n+1,hn=>by
  have:=ze2 h n (by omega)
  have:=zzr h (i:=n) (by omega)
  rw[zf4,zk]
  omega
def sq1(xs:List Int):List Int:=if xs.length=1 then[1]else ZN xs
def zkY(es:List V):List V:=I (sq1 (yV es))
theorem zno:yZ Tryz.prog 84 (zxm zkY JM):=by
 intro args ps r h hp
 unfold zxm at h
 split at h
 ·rename_i a0
  simp only[za,zb]at h
  obtain⟨rfl,rfl⟩:=h
  have hq:JM a0:=(zo.1 hp).1
  have hqi:=hq.isIs
  obtain⟨xs,hxs,hb⟩:=hq
  have g1:V.frzs a0=a0:=by rw[hxs,zN]
  have e1:ziM a0=xs.length-1:=by
   have:=hb.len
   rw[ziM,hxs,zm];exact zl (by omega) (by omega)
  have e2:zkY a0=I (sq1 xs):=by rw[zkY,hxs,zB]
  have e3:Jt a0=I (dv xs):=by rw[Jt,hxs,zB]
  generalize zi0:ziM=zou
  generalize ZS:Jt=Kx
  generalize qj:uU=km
  generalize zkz:zkZ=zy2
  generalize zku:zoO=zyZ
  refine zO (T:=tab) (B:=[(101,zxi zou),(83,zrt Kx km)]) (Bi:=[(102,0,true,zpf zy2 zyZ)]) [2000009999,0,1,2,3,4,5,6] Tryz.func84 rfl rfl (by kernel_rfl) (zh rfl) mixed yd (by subst zi0 ZS qj zkz zku;exact(zt zoH (zt zgd zH))) (by subst zi0 ZS qj zkz zku;exact(zyQ zrW zE)) (by kernel_rfl) ?_
  intro L lp rr hL hr hf hlp
  conv=>cbv
  obtain⟨ds,hds⟩:∃ds,ds=I (dv xs):=⟨_,rfl⟩
  have l1:ds.length=xs.length:=by rw[hds,zm,hb.dlen]
  have hF:Kx a0=ds:=by rw[←ZS,e3,hds]
  have hF2:zou a0=xs.length-1:=by rw[←zi0,e1]
  simp only[zr hL,sQ,hF,hF2,g1]
  have hp1:=hb.pos
  have hl1:=hb.len
  refine⟨fun h=>?_,fun h=>?_⟩
  ·rw[hr,e2,sq1,if_pos (by omega)];rfl
  refine⟨by rw[←qj];exact hqi,?_⟩
  refine hlp (List V×Int×Int) _ _ _ [1,3,4,5,6] (fun x=>[(1,none,.val (.box 46 (.agg [.slc false 2 (.int .i64 0) a0]))),(3,none,.val (.slc true 2 (.int .i64 0) ds)),(4,none,.val (.slc true 2 (.int .i64 0) x.1)),(5,none,.val (.int .i64 x.2.1)),(6,none,.val (.int .i64 x.2.2))])
   (fun x=>1≤x.2.2∧x.2.2≤xs.length∧x.1=I (zcR xs (x.2.2-1).toNat)∧x.2.1=(if(x.2.2-1).toNat=0 then 0 else xs.getD (x.2.2-1).toNat 0)) (fun x=>(xs.length-x.2.2).toNat) (([],0,1)) (by subst hL;rfl) ?_ ?_
  ·exact⟨by simp,by simp only;omega,rfl,rfl⟩
  rintro⟨es,t,i⟩ ⟨i0,i1,hI,hT⟩ hfx ag hag
  simp only at i0 i1 hI hT
  conv=>cbv
  have hlen:es.length≤200000:=by
   have:=ze2 hb (i-1).toNat (by omega)
   rw[hI,zm];omega
  have ga:∀k,a0.getD k (.int .i64 0)=.int .i64 (xs.getD k 0):=fun k=>by rw[hxs,zT]
  have gd:∀k,ds.getD k (.int .i64 0)=.int .i64 ((dv xs).getD k 0):=fun k=>by rw[hds,zT]
  have al:a0.length=xs.length:=by rw[hxs,zm]
  have w1:IntKind.wrap .i64 (i-1)=i-1:=zl (by omega) (by omega)
  simp only[zr hL,sQ,l1,al,ga,gd,w1]
  obtain⟨k,rfl⟩:∃k:Nat,i=k+1:=⟨(i-1).toNat,by omega⟩
  rw[show((k:Int)+1-1).toNat=k by omega]at hI hT
  rw[show((k:Int)+1-1).toNat=k by omega,show((k:Int)+1).toNat=k+1 by omega]
  refine⟨fun h2=>?_,fun h2=>?_⟩
  ·have hk:xs.getD (k+1) 0-t=KG xs k:=by rw[KG,hT]
   have hkk:=zjO hb (i:=k) (by omega)
   have hd1:=hb.dpos k (by omega)
   have hd2:=hb.dhi k (by omega)
   rw[hk,zl (n:=KG xs k) (by omega) (by omega),zl (n:=(k:Int)+1+1) (by omega) (by omega)]
   refine⟨by omega,by omega,by omega,by omega,by omega,by rw[←zku];exact⟨by omega,by omega,by omega,by omega,by omega⟩,by omega,by omega,?_⟩
   refine hag (_,_,(k:Int)+1+1) ⟨by simp only;omega,by simp only;omega,?_,?_⟩ (by simp only;omega)
   ·simp only
    rw[show((k:Int)+1+1-1).toNat=k+1 by omega,zf4,←zkz,zkZ,hI,jS]
    rfl
   ·simp only
    rw[show((k:Int)+1+1-1).toNat=k+1 by omega,if_neg (by omega)]
    rfl
  ·rw[hr,e2,sq1,if_neg (by omega),hI,ZN,show xs.length-1=k by omega]
 ·cases h
def uY(xs:List Int)(k:Nat):List Int:=qu (fun i=>(ZN xs).getD i 1) k
theorem zcq(xs:List Int)(k:Nat):(uY xs k).length=k:=yA _ _
theorem zA8(xs:List Int)(i:Nat):(sq1 xs).getD i 1=(ZN xs).getD i 1:=by
 rw[sq1]
 split
 ·rename_i h
  have:ZN xs=[]:=by rw[ZN,h];rfl
  rw[this]
  cases i with
  |zero=>rfl
  |succ i=>rfl
 ·rfl
theorem zjX(l:List Int)(n i:Nat):(l++List.replicate n 1).getD i 1=l.getD i 1:=by
 simp only[zd]
 by_cases h:i<l.length
 ·rw[List.getElem?_append_left h]
 ·rw[List.getElem?_append_right (by omega),zG (l:=l) (by omega),jR]
  split<;>rfl
theorem zwe{l:List Int}{xs:List Int}{n k:Nat}(hl:∀i,l.getD i 1=(ZN xs).getD i 1)(h:k≤(l++List.replicate n 1).length):(l++List.replicate n 1).take k=uY xs k:=by
 apply yF
 intro i
 by_cases hi:i<k
 ·rw[zah hi,uY,ur _ _ _ hi,←hl i,←zjX l n i,zd,ze (by omega)]
  rfl
 ·rw[zG (by rw[zD];omega),zG (by rw[zcq];omega)]
def ztF(f:List V→Int→List V)(q:List V→Int→Prop):zQ:=fun
 |[.agg [.slc false 2 (.int .i64 0) a0],.int .i64 a1]=>some ([q a0 a1],.slc false 2 (.int .i64 0) (f a0 a1))
 |_=>none
def zhM(f:List V→Int→List V)(q:List V→Int→Prop):zQ:=fun
 |[.agg [.slc false 2 (.int .i64 0) a0],.int .i64 a1]=>some ([q a0 a1],.slc true 2 (.int .i64 0) (f a0 a1))
 |_=>none
def Qx(es:List V)(k:Int):List V:=I (uY (yV es) k.toNat)
def Qt(es:List V)(k:Int):Prop:=JM es∧1≤k∧k≤1000000
theorem zuR{xs:List Int}(h:Br xs):(sq1 xs).length≤200000:=by
 have h1:=h.len
 have h2:=h.pos
 have:=ze2 h (xs.length-1) (by omega)
 rw[sq1]
 split
 ·simp
 ·rw[ZN];omega
theorem zoJ:yZ Tryz.prog 61 (ztF Qx Qt):=by
 intro args ps r h hp
 unfold ztF at h
 split at h
 ·rename_i a0 a1
  simp only[za,zb]at h
  obtain⟨rfl,rfl⟩:=h
  obtain⟨hq,k1,k2⟩:Qt a0 a1:=(zo.1 hp).1
  have hqb:=hq
  obtain⟨xs,hxs,hb⟩:=hq
  have g1:V.frzs a0=a0:=by rw[hxs,zN]
  obtain⟨ss,hss⟩:∃ss,ss=I (sq1 xs):=⟨_,rfl⟩
  have e1:zkY a0=ss:=by rw[zkY,hxs,zB,hss]
  have e2:Qx a0 a1=I (uY xs a1.toNat):=by rw[Qx,hxs,zB]
  have hsl:ss.length≤200000:=by rw[hss,zm];exact zuR hb
  generalize zpH:zkY=zvV
  generalize ZA:JM=zcH
  refine zO (T:=tab) (B:=[(84,zxm zvV zcH)]) (Bi:=[]) [0,1,2,4,5] Tryz.func61 rfl rfl (by kernel_rfl) (zh rfl) mixed yd (by subst zpH ZA;exact(zt zno zH)) (by subst zpH ZA;exact zE) (by kernel_rfl) ?_
  intro L lp rr hL hr hf hlp
  conv=>cbv
  have hF:zvV a0=ss:=by rw[←zpH,e1]
  simp only[zr hL,sQ,hF,g1]
  refine⟨by rw[←ZA];exact hqb,?_⟩
  refine hlp (List V×Nat) _ _ _ [1,5] (fun x=>[(1,none,.val (.int .i64 a1)),(5,none,.val (.slc true 2 (.int .i64 0) x.1))])
   (fun x=>x.1=I (sq1 xs++List.replicate x.2 1)∧x.1.length≤1200000) (fun x=>a1.toNat-x.1.length) ((ss,0)) (by subst hL;rfl) ?_ ?_
  ·exact⟨by simp[hss],by simp only;omega⟩
  rintro⟨es,n⟩ ⟨hI,hl⟩ hfx ag hag
  simp only at hI hl
  conv=>cbv
  simp only[zr hL,sQ,]
  refine⟨fun h=>?_,fun h=>?_⟩
  ·(repeat' first|(exact qJ _)|(exact Yf rfl)|(exact kn _)|(apply And.intro)|(intro _))<;>(try first|exact True.intro|omega|rfl|(simp only[zi,zq,zm];omega))
   refine hag (_,n+1) ⟨?_,?_⟩ ?_
   ·simp only
    rw[qN,←zS,←jS,hI]
    rfl
   ·simp only[zk,zi,zq];omega
   ·simp only[zk,zi,zq];omega
  ·refine⟨by omega,by omega,by omega,by omega,?_⟩
   rw[hr,e2,qY,hI,zN,zkr,zwe (zA8 xs) (by rw[hI,zm]at h;omega)]
 ·cases h
theorem zAt(xss:List (List Int)):∀x∈II true xss,x.solid=true:=by
 intro x h
 simp only[II,yD]at h
 obtain⟨xs,_,rfl⟩:=h
 rfl
def zcf(xs:List Int)(n:Nat):List (List Int):=(List.range n).flatMap fun i=>JS (KG xs i) ((dv xs).getD i 0)
def zcg(xs:List Int):List (List Int):=zcf xs (xs.length-1)
theorem zid(xs:List Int)(n:Nat):zcf xs (n+1)=zcf xs n++JS (KG xs n) ((dv xs).getD n 0):=by
 rw[zcf,zcf,ux,js,ZB,YV,yh]
theorem zeD(xs:List Int):∀n,jk (zcf xs n)=zcR xs n
 |0=>rfl
 |n+1=>by
  have h:∀a b:List (List Int),jk (a++b)=jk a++jk b:=fun a b=>by rw[jk,js];rfl
  rw[zid,zf4,h,zeD xs n,zjZ,zgT]
theorem zuQ{xs:List Int}(h:Br xs){i:Nat}(hi:i+1<xs.length):(JS (KG xs i) ((dv xs).getD i 0)).length≤64:=by
 have h2:=h.dhi i (by omega)
 have h3:=h.dpos i (by omega)
 have:=zhd _ (KG xs i).toNat ((dv xs).getD i 0).toNat (zn _)
 rw[JS,zy]
 omega
theorem zgf{xs:List Int}(h:Br xs):∀n,n+1≤xs.length→(zcf xs n).length≤64*n
 |0,_=>by simp[zcf]
 |n+1,hn=>by
  have:=zgf h n (by omega)
  have:=zuQ h (i:=n) (by omega)
  rw[zid,zk]
  omega
theorem zqh{xs:List Int}:∀n,∀s∈zcf xs n,s.length=2∧0≤s.getD 0 0∧0≤s.getD 1 0:=by
 intro n s h
 simp only[zcf,List.mem_flatMap]at h
 obtain⟨i,_,h⟩:=h
 exact zuP h
def zof(f:List V→List V)(q:List V→Prop):zQ:=fun
 |[.agg [.slc false 2 (.int .i64 0) a0]]=>some ([q a0],.slc true 44 (.slc true 2 (.int .i64 0) []) (f a0))
 |_=>none
def zcr(es:List V):List V:=II true (zcg (yV es))
theorem zhi:yZ Tryz.prog 81 (zof zcr JM):=by
 intro args ps r h hp
 unfold zof at h
 split at h
 ·rename_i a0
  simp only[za,zb]at h
  obtain⟨rfl,rfl⟩:=h
  have hq:JM a0:=(zo.1 hp).1
  have hqp:=hq.isP
  obtain⟨xs,hxs,hb⟩:=hq
  have g1:V.frzs a0=a0:=by rw[hxs,zN]
  have e2:zcr a0=II true (zcg xs):=by rw[zcr,hxs,zB]
  have e3:Jt a0=I (dv xs):=by rw[Jt,hxs,zB]
  generalize ZS:Jt=Kx
  generalize zi2:IsP=zxw
  generalize zdm:ziI=zb3
  generalize zdh:zif=zll
  refine zO (T:=tab) (B:=[(98,zru Kx zxw),(99,zhK zb3 zll)]) (Bi:=[]) [0,1,2,3,4,5,6] Tryz.func81 rfl rfl (by kernel_rfl) (zh rfl) mixed yd (by subst ZS zi2 zdm zdh;exact(zt zdO (zt znm zH))) (by subst ZS zi2 zdm zdh;exact zE) (by kernel_rfl) ?_
  intro L lp rr hL hr hf hlp
  conv=>cbv
  obtain⟨ds,hds⟩:∃ds,ds=I (dv xs):=⟨_,rfl⟩
  have l1:ds.length=xs.length:=by rw[hds,zm,hb.dlen]
  have hF:Kx a0=ds:=by rw[←ZS,e3,hds]
  simp only[zr hL,sQ,hF,g1]
  refine⟨by rw[←zi2];exact hqp,?_⟩
  have hp1:=hb.pos
  have hl1:=hb.len
  refine hlp (List V×Int) _ _ _ [1,3,4,5] (fun x=>[(1,none,.val (.box 46 (.agg [.slc false 2 (.int .i64 0) a0]))),(3,none,.val (.slc true 2 (.int .i64 0) ds)),(4,none,.val (.slc true 44 (.slc true 2 (.int .i64 0) []) x.1)),(5,none,.val (.int .i64 x.2))])
   (fun x=>1≤x.2∧x.2≤xs.length∧x.1=II true (zcf xs (x.2-1).toNat)) (fun x=>(xs.length-x.2).toNat) (([],1)) (by subst hL;rfl) ?_ ?_
  ·exact⟨by simp,by simp only;omega,rfl⟩
  rintro⟨es,i⟩ ⟨i0,i1,hI⟩ hfx ag hag
  simp only at i0 i1 hI
  conv=>cbv
  have ga:∀k,a0.getD k (.int .i64 0)=.int .i64 (xs.getD k 0):=fun k=>by rw[hxs,zT]
  have gd:∀k,ds.getD k (.int .i64 0)=.int .i64 ((dv xs).getD k 0):=fun k=>by rw[hds,zT]
  have al:a0.length=xs.length:=by rw[hxs,zm]
  have w1:IntKind.wrap .i64 (i-1)=i-1:=zl (by omega) (by omega)
  simp only[zr hL,sQ,l1,al,ga,gd,w1]
  obtain⟨k,rfl⟩:∃k:Nat,i=k+1:=⟨(i-1).toNat,by omega⟩
  rw[show((k:Int)+1-1).toNat=k by omega]at hI
  rw[show((k:Int)+1-1).toNat=k by omega,show((k:Int)+1).toNat=k+1 by omega]
  have fin:(k:Int)+1<xs.length→∀z,z=KG xs k→zll z ((dv xs).getD k 0)∧(es.length:Int)+(zb3 z ((dv xs).getD k 0)).length≤2147483647∧(∀x∈zb3 z ((dv xs).getD k 0),x.solid=true)∧ag (ZY [1,3,4,5] [(1,none,.val (.box 46 (.agg [.slc false 2 (.int .i64 0) a0]))),(3,none,.val (.slc true 2 (.int .i64 0) ds)),(4,none,.val (.slc true 44 (.slc true 2 (.int .i64 0) []) (es++zb3 z ((dv xs).getD k 0)))),(5,none,.val (.int .i64 (k+1+1)))]):=by
   intro h z hz
   have hkk:=zjO hb (i:=k) (by omega)
   have hd1:=hb.dpos k (by omega)
   have hd2:=hb.dhi k (by omega)
   have hlr:=zgf hb k (by omega)
   have hls:=zuQ hb (i:=k) (by omega)
   have hfz:zb3 z ((dv xs).getD k 0)=II true (JS (KG xs k) ((dv xs).getD k 0)):=by rw[←zdm,hz];rfl
   rw[hfz]
   refine⟨by rw[←zdh,hz];exact⟨by omega,by omega,by omega,by omega⟩,by rw[hI,yz,yz];omega,zAt _,?_⟩
   refine hag (_,(k:Int)+1+1) ⟨by simp only;omega,by simp only;omega,?_⟩ (by simp only;omega)
   simp only
   rw[show((k:Int)+1+1-1).toNat=k+1 by omega,zid,hI,YK]
  refine⟨fun h=>⟨by omega,by omega,fun h2=>?_,fun h2=>?_⟩,fun h=>?_⟩
  ·have hz:IntKind.wrap .i64 (xs.getD (k+1) 0-xs.getD k 0)=KG xs k:=by
    have hkk:=zjO hb (i:=k) (by omega)
    have e:xs.getD (k+1) 0-xs.getD k 0=KG xs k:=by rw[KG,if_neg (by omega)]
    rw[e,zl (by omega) (by omega)]
   obtain⟨f1,f2,f3,f4⟩:=fin h _ hz
   rw[zl (n:=(k:Int)+1+1) (by omega) (by omega)]
   exact⟨by omega,by omega,by omega,by omega,by omega,f1,f2,f3,f4⟩
  ·have hz:xs.getD (k+1) 0=KG xs k:=by
    rw[KG,if_pos (by omega)]
    omega
   obtain⟨f1,f2,f3,f4⟩:=fin h _ hz
   rw[zl (n:=(k:Int)+1+1) (by omega) (by omega)]
   exact⟨by omega,by omega,by omega,f1,f2,f3,f4⟩
  ·rw[hr,e2,hI,zcg,show xs.length-1=k by omega]
 ·cases h
theorem zxG{xs:List Int}{k n:Nat}(h:((ZN xs).take k++List.replicate n 1).length=k):(ZN xs).take k++List.replicate n 1=uY xs k:=by
 apply yF
 intro i
 by_cases hi:i<k
 ·have h1:((ZN xs).take k++List.replicate n 1).getD i 1=(ZN xs).getD i 1:=by
   rw[zjX,zd,zah hi,←zd]
  rw[uY,ur _ _ _ hi,←h1,zd,ze (by omega)]
  rfl
 ·rw[zG (by omega),zG (by rw[zcq];omega)]
theorem zxE{l:List Int}{k:Nat}(x:Int)(h:(l.take k).length<k):l.take k++[x]=(l++[x]).take k:=by
 rw[zD]at h
 rw[zu (by omega),zu (by simp;omega)]
theorem zxF{l:List Int}{k:Nat}(m:List Int)(h:¬(l.take k).length<k):l.take k=(l++m).take k:=by
 rw[zD]at h
 rw[List.take_append_of_le_length (by omega)]
theorem zjw:yZ Tryz.prog 88 (zhM Qx Qt):=by
 intro args ps r h hp
 unfold zhM at h
 split at h
 ·rename_i a0 a1
  simp only[za,zb]at h
  obtain⟨rfl,rfl⟩:=h
  obtain⟨hq,k1,k2⟩:Qt a0 a1:=(zo.1 hp).1
  have hqb:=hq
  obtain⟨xs,hxs,hb⟩:=hq
  have g1:V.frzs a0=a0:=by rw[hxs,zN]
  obtain⟨S,hS⟩:∃S,S=zcg xs:=⟨_,rfl⟩
  obtain⟨ss,hss⟩:∃ss,ss=II true S:=⟨_,rfl⟩
  have e1:zcr a0=ss:=by rw[zcr,hxs,zB,hss,hS]
  have e2:Qx a0 a1=I (uY xs a1.toNat):=by rw[Qx,hxs,zB]
  have hsl:ss.length=S.length:=by rw[hss,yz]
  have hSl:S.length≤5000:=by
   have h1:=hb.len
   have h2:=hb.pos
   have:=zgf hb (xs.length-1) (by omega)
   rw[hS,zcg];omega
  have gss:∀k,ss.getD k (.slc true 2 (.int .i64 0) [])=.slc true 2 (.int .i64 0) (I (S.getD k [])):=fun k=>by rw[hss,jf]
  generalize zbH:zcr=zfV
  generalize ZA:JM=zcH
  refine zO (T:=tab) (B:=[(81,zof zfV zcH)]) (Bi:=[]) [0,1,2,4,5,6,7,8] Tryz.func88 rfl rfl (by kernel_rfl) (zh rfl) mixed yd (by subst zbH ZA;exact(zt zhi zH)) (by subst zbH ZA;exact zE) (by kernel_rfl) ?_
  intro L lp rr hL hr hf hlp
  conv=>cbv
  have hF:zfV a0=ss:=by rw[←zbH,e1]
  simp only[zr hL,sQ,hF,g1]
  refine⟨by rw[←ZA];exact hqb,?_⟩
  refine hlp (List V×Int) _ _ _ [1,5,6,7] (fun x=>[(1,none,.val (.int .i64 a1)),(5,none,.val (.slc true 2 (.int .i64 0) x.1)),(6,none,.val (.slc true 44 (.slc true 2 (.int .i64 0) []) ss)),(7,none,.val (.int .i64 x.2))])
   (fun x=>0≤x.2∧x.2≤S.length∧x.1=I ((jk (S.take x.2.toNat)).take a1.toNat)) (fun x=>(S.length-x.2).toNat) (([],0)) (by subst hL;rfl) ?_ ?_
  ·exact⟨by simp,by simp only;omega,by simp[jk,I]⟩
  rintro⟨es,i⟩ ⟨i0,i1,hI⟩ hfx ag hag
  simp only at i0 i1 hI
  have hst:=ziD S i.toNat
  have hmem:=fun(h:i.toNat<S.length)=>zqh (xs:=xs) (xs.length-1) (S.getD i.toNat []) (by have:=zcY h;rwa [hS,zcg]at this ⊢)
  generalize hE:S.getD i.toNat []=E at hst hmem
  have hl:es.length≤a1.toNat:=by rw[hI,zm,zD];omega
  conv=>cbv
  simp only[zr hL,sQ,hsl,gss,hE]
  refine⟨fun h=>?_,fun h=>?_⟩
  ·obtain⟨hEl,hE0,hE1⟩:=hmem (by omega)
   have hst':=hst (by omega)
   obtain⟨it,hit⟩:∃it,it=i.toNat:=⟨_,rfl⟩
   simp only[←hit]at hE hst' hI ⊢
   have hti:it<S.length:=by omega
   have hEb:E.getD 0 0≤200000:=by
    have h1:jk S=jk (S.take (it+1))++jk (S.drop (it+1)):=by
     rw[jk,jk,jk,←js,jq]
    have h2:=congrArg List.length h1
    have h3:=hb.pos
    have h4:=hb.len
    have h5:=ze2 hb (xs.length-1) (by omega)
    have h6:jk S=zcR xs (xs.length-1):=by rw[hS,zcg,zeD]
    rw[h6,zk,hst',zk,zU]at h2
    omega
   refine⟨by omega,by omega,hti,hti,by omega,by omega,hti,by omega,?_⟩
   refine hlp (List V×Int) _ _ _ [1,5,6,7,8] (fun x=>[(1,none,.val (.int .i64 a1)),(5,none,.val (.slc true 2 (.int .i64 0) x.1)),(6,none,.val (.slc true 44 (.slc true 2 (.int .i64 0) []) ss)),(7,none,.val (.int .i64 i)),(8,none,.val (.int .i64 x.2))])
    (fun x=>0≤x.2∧x.2≤E.getD 0 0∧x.1=I ((jk (S.take it)++List.replicate (E.getD 0 0-x.2).toNat (E.getD 1 0)).take a1.toNat)) (fun x=>x.2.toNat) ((es,E.getD 0 0)) (by subst hL;rfl) ?_ ?_
   ·exact⟨by simp only;omega,by simp,by simp[hI]⟩
   rintro⟨es2,q⟩ ⟨j0,j1,hI2⟩ hfx2 ag2 hag2
   simp only at j0 j1 hI2
   have hl2:es2.length≤a1.toNat:=by rw[hI2,zm,zD];omega
   conv=>cbv
   simp only[zr hL,sQ,hsl,gss,←hit,hE]
   refine⟨fun hj=>?_,fun hj=>?_⟩
   ·rw[zl (n:=q-1) (by omega) (by omega)]
    refine⟨by omega,by omega,hti,hti,by omega,by omega,hti,by omega,kn _,by simp only[zi,zq];omega,qJ _,?_⟩
    refine hag2 (_,q-1) ⟨by simp only;omega,by simp only;omega,?_⟩ (by simp only;omega)
    simp only
    have hlt:((jk (S.take it)++List.replicate (E.getD 0 0-q).toNat (E.getD 1 0)).take a1.toNat).length<a1.toNat:=by
     have:=hj.2
     rw[hI2,zm]at this
     omega
    rw[show(E.getD 0 0-(q-1)).toNat=(E.getD 0 0-q).toNat+1 by omega,qN,←zS,←zxE _ hlt,hI2,←jS]
    rfl
   ·rw[zl (n:=i+1) (by omega) (by omega)]
    refine hag (_,i+1) ⟨by simp only;omega,by simp only;omega,?_⟩ (by simp only;omega)
    simp only[yj i0,←hit]
    rw[hst',hI2]
    by_cases hq0:q=0
    ·rw[show(E.getD 0 0-q).toNat=(E.getD 0 0).toNat by omega]
    ·have hfl:¬((jk (S.take it)++List.replicate (E.getD 0 0-q).toNat (E.getD 1 0)).take a1.toNat).length<a1.toNat:=by
      have:=hj.resolve_left (by omega)
      rw[hI2,zm]at this
      omega
     rw[zxF (List.replicate q.toNat (E.getD 1 0)) hfl,zS,List.replicate_append_replicate,show(E.getD 0 0-q).toNat+q.toNat=(E.getD 0 0).toNat by omega]
  ·have hI':es=I ((ZN xs).take a1.toNat):=by
    rw[hI,zu (l:=S) (by omega),hS,zcg,zeD,ZN]
   clear hst hmem hI
   refine hlp (List V×Nat) _ _ _ [1,5] (fun x=>[(1,none,.val (.int .i64 a1)),(5,none,.val (.slc true 2 (.int .i64 0) x.1))])
    (fun x=>x.1=I ((ZN xs).take a1.toNat++List.replicate x.2 1)∧x.1.length≤a1.toNat) (fun x=>a1.toNat-x.1.length) ((es,0)) (by subst hL;rfl) ?_ ?_
   ·exact⟨by simp[hI'],hl⟩
   rintro⟨es2,n⟩ ⟨hI2,hl2⟩ hfx2 ag2 hag2
   simp only at hI2 hl2
   conv=>cbv
   simp only[zr hL,sQ,]
   refine⟨fun h=>?_,fun h=>?_⟩
   ·(repeat' first|(exact qJ _)|(exact Yf rfl)|(exact kn _)|(apply And.intro)|(intro _))<;>(try first|exact True.intro|omega|rfl|(simp only[zi,zq,zm];omega))
    refine hag2 (_,n+1) ⟨?_,?_⟩ ?_
    ·simp only
     rw[qN,←zS,←jS,hI2]
     rfl
    ·simp only[zk,zi,zq];omega
    ·simp only[zk,zi,zq];omega
   ·rw[hr,e2,hI2,zxG (by rw[hI2,zm]at h hl2;omega)]
 ·cases h
end Go.Ax
namespace Go.Ax
open Go.Proofs
theorem zo8:∀(l:List Int) (d:Int) (i:Nat),i<l.length→(Zp d l).getD i 0=jc (if i=0 then d else(Zp d l).getD (i-1) 0) (l.getD i 0)
 |[],_,i,h=>by simp at h
 |t::l,d,0,_=>rfl
 |t::l,d,1,h=>by
  have:=zo8 l (jc d t) 0 (by simpa using h)
  simpa [Zp]using this
 |t::l,d,i+2,h=>by
  have:=zo8 l (jc d t) (i+1) (by simp at h;omega)
  simpa [Zp]using this
theorem zsP{a b:Int}(ha:0<a)(hb:0<b):jc a b=(Nat.gcd a.toNat b.toNat:Int):=by
 rw[jc,zde ha,zde hb,ziz _ a b (zn _) (by omega) (by omega)]
def ddN(xs:List Int)(i:Nat):Nat:=((dv xs).getD i 0).toNat
def kkN(xs:List Int)(i:Nat):Nat:=(KG xs i).toNat
theorem zvA{xs:List Int}(h:Br xs){i:Nat}(hi:i+1<xs.length):ddN xs (i+1)=Nat.gcd (ddN xs i) (xs.getD (i+1) 0).toNat:=by
 have h1:=zo8 xs 0 (i+1) hi
 have h2:=h.dpos i (by omega)
 have h3:=h.low (i+1) hi
 rw[if_neg (by omega),show i+1-1=i by omega]at h1
 have h4:(dv xs).getD (i+1) 0=jc ((dv xs).getD i 0) (xs.getD (i+1) 0):=h1
 rw[zsP (by omega) (by omega)]at h4
 rw[ddN,h4,zV,ddN]
theorem zBN{xs:List Int}(h:Br xs):∀{i:Nat},i<xs.length→ddN xs i ∣ (xs.getD i 0).toNat
 |0,_=>by rw[ddN,h.d0];exact Nat.dvd_refl _
 |i+1,hi=>by rw[zvA h hi];exact Nat.gcd_dvd_right _ _
theorem zCV{xs:List Int}(h:Br xs){i:Nat}(hi:i+1<xs.length):Nat.gcd (ddN xs i) (kkN xs i)=ddN xs (i+1):=by
 rw[zvA h hi,kkN,KG]
 by_cases h0:i=0
 ·rw[if_pos h0]
  congr 1
  omega
 ·rw[if_neg h0]
  obtain⟨c,hc⟩:=zBN h (i:=i) (by omega)
  have h1:=h.up i hi
  have h2:=h.low i (by omega)
  rw[show(xs.getD (i+1) 0).toNat=(xs.getD (i+1) 0-xs.getD i 0).toNat+ddN xs i*c by omega,Nat.mul_comm (ddN xs i) c,Nat.gcd_add_mul_right_right]
def blk(xs:List Int)(i:Nat):Nat→List (Nat×Nat)
 |0=>[]
 |n+1=>(kkN xs i,ddN xs i)::blk xs (i+1) n
theorem zqS{xs:List Int}(h:Br xs):∀(n i:Nat),i+n+1=xs.length→zxx (ddN xs i) (blk xs i n)
 |0,i,hi=>by
  have:=h.dlast
  rw[show xs.length-1=i by omega]at this
  show ddN xs i=1
  rw[ddN,this];rfl
 |n+1,i,hi=>by
  have:=h.dpos i (by omega)
  refine⟨rfl,by rw[ddN];omega,?_⟩
  rw[zCV h (by omega)]
  exact zqS h n (i+1) (by omega)
def Kf(l:List Nat):List Int:=l.map fun(n:Nat)=>(n:Int)
theorem zvH(xs:List Int):∀(n i:Nat),Kf (zdZ (blk xs i n))=(List.range' i n).flatMap (zgT xs)
 |0,i=>rfl
 |n+1,i=>by
  have:=zvH xs n (i+1)
  rw[List.range'_succ,ZB,←this,blk,zdZ,Kf,List.map_append]
  rfl
def zwR(xs:List Int):List Nat:=zdZ (blk xs 0 (xs.length-1))
def mul(xs:List Int)(i:Nat):Nat:=(zwR xs).getD i 1
theorem zzp(xs:List Int):ZN xs=Kf (zwR xs):=by
 rw[zwR,zvH,ZN,zcR,List.range_eq_range']
theorem zrR(xs:List Int)(i:Nat):(ZN xs).getD i 1=mul xs i:=by
 rw[zzp,Kf,mul,zd,zd,zJ]
 cases (zwR xs)[i]? <;>rfl
theorem zcX{xs:List Int}(h:Br xs):GoodM (mul xs)∧mul xs 0≤64:=by
 have h1:=h.pos
 have hc:=zqS h (xs.length-1) 0 (by omega)
 obtain⟨g1,g2,_⟩:=zlY _ _ hc
 refine⟨zzY g1,Nat.le_trans g2 ?_⟩
 have:=h.dhi 0 h1
 rw[ddN];omega
theorem zsr{xs:List Int}(h:Br xs):∀i,mul xs i≤64
 |0=>(zcX h).2
 |i+1=>Nat.le_trans ((zcX h).1.fall i) (zsr h i)
theorem ziF(xs:List Int)(k:Nat):uY xs k=qu (fun i=>(mul xs i:Int)) k:=qQ fun i _=>zrR xs i
def prx(M:Nat→Nat)(i j:Nat):Bool:=decide (kA M i (j-i)≤M i)
def prs(M:Nat→Nat)(i j:Nat):List Nat:=(List.range (min i j)).filter fun a=>prx M a j
theorem zzB{M:Nat→Nat}{i j:Nat}(h:j≤i):prs M (i+1) j=prs M i j:=by
 rw[prs,prs,show min (i+1) j=min i j by omega]
theorem ze7{M:Nat→Nat}{i j:Nat}(h:i<j):prs M (i+1) j=prs M i j++(if kA M i (j-i)≤M i then[i]else[]):=by
 rw[prs,prs,show min (i+1) j=i+1 by omega,show min i j=i by omega,ux,List.filter_append]
 congr 1
 by_cases hp:kA M i (j-i)≤M i<;>simp[prx,hp]
theorem zsa{M:Nat→Nat}(h:GoodM M){i j j':Nat}(hij:i<j)(hj:j≤j')(hn:¬kA M i (j-i)≤M i):¬kA M i (j'-i)≤M i:=by
 by_cases e:j=j'
 ·subst e;exact hn
 ·have:=zdN h i (k:=j-i) (k':=j'-i) (by omega)
  omega
def cd(M:Nat→Nat)(i j:Nat):Int:=match prs M (min i (j-1)) j with
 |[]=>0
 |a::_=>(j:Int)-a
theorem zBU{M:Nat→Nat}(h:GoodM M){i j:Nat}(hij:i+1<j)(hp:kA M i (j-i)≤M i):cd M (i+1) j=(j:Int)-i:=by
 have h1:prs M i j=[]:=by
  cases hh:prs M i j with
  |nil=>rfl
  |cons a l=>
   have ha:a∈prs M i j:=by rw[hh];simp
   simp only[prs,List.mem_filter,yX,prx,decide_eq_true_eq]at ha
   exact absurd hp (zxY h (i:=a) (i':=i) (j:=j) (by omega) hij ha.2)
 rw[cd,show min (i+1) (j-1)=i+1 by omega,ze7 (by omega),h1,if_pos hp]
 rfl
theorem zpd{M:Nat→Nat}{i j:Nat}(hp:¬(i+1<j∧kA M i (j-i)≤M i)):cd M (i+1) j=cd M i j:=by
 rw[cd,cd]
 by_cases hij:i+1<j
 ·rw[show min (i+1) (j-1)=i+1 by omega,show min i (j-1)=i by omega,ze7 (by omega),if_neg (fun h=>hp ⟨hij,h⟩),yh]
 ·rw[show min (i+1) (j-1)=j-1 by omega,show min i (j-1)=j-1 by omega]
theorem zBV{M:Nat→Nat}(h:GoodM M){i j:Nat}(hj:1≤j)(hi:j≤i):cd M i j=if 1<(prs M j j).length then(j:Int)-((prs M j j).getD 0 0:Nat)else 0:=by
 obtain⟨j,rfl⟩:∃k,j=k+1:=⟨j-1,by omega⟩
 have h1:=ze7 (M:=M) (i:=j) (j:=j+1) (by omega)
 have h2:kA M j (j+1-j)≤M j:=zzC h j
 rw[if_pos h2]at h1
 rw[cd,show min i (j+1-1)=j by omega,h1]
 cases prs M j (j+1)with
 |nil=>simp
 |cons a l=>simp
theorem znb{M M':Nat→Nat}{i:Nat}:∀{k:Nat},(∀t,t≤i+k→M t=M' t)→kA M i k=kA M' i k
 |0,_=>rfl
 |k+1,h=>by rw[kA,kA,znb (fun t ht=>h t (by omega)),h _ (by omega)]
theorem zxX{M M':Nat→Nat}{i j:Nat}(h:∀t,t≤j→M t=M' t):prs M i j=prs M' i j:=by
 rw[prs,prs]
 apply List.filter_congr
 intro a ha
 have ha:=yX.1 ha
 rw[prx,prx,znb (fun t ht=>h t (by omega)),h a (by omega)]
def ofL(l:List Int)(i:Nat):Nat:=(l.getD i 1).toNat
theorem zx4(xs:List Int)(k i:Nat)(h:i<k):ofL (uY xs k) i=mul xs i:=by
 rw[ofL,ziF,uA _ _ _ _ h,zV]
def zex(l:List Int):List (List Int):=qu (fun j=>Kf (prs (ofL l) j j)) l.length
theorem Ku(xs:List Int)(k:Nat):zex (uY xs k)=qu (fun j=>Kf (prs (mul xs) j j)) k:=by
 rw[zex,zcq]
 exact qQ fun j hj=>by rw[zxX fun t ht=>zx4 xs k t (by omega)]
def zld(f:List V→List V)(q:List V→Prop):zQ:=fun
 |[.slc false 2 (.int .i64 0) a0]=>some ([q a0],.slc true 44 (.slc true 2 (.int .i64 0) []) (f a0))
 |_=>none
def zj1(es:List V):List V:=II true (zex (yV es))
def zr5(es:List V):Prop:=∃xs k,Br xs∧es=I (uY xs k)∧k≤1000000
theorem zBh(M:Nat→Nat)(i j:Nat):(prs M i j).length≤j:=by
 have:=List.length_filter_le (fun a=>prx M a j) (List.range (min i j))
 rw[List.length_range]at this
 rw[prs];omega
theorem zzc{α:Type}(f:Nat→α){n i:Nat}(x:α)(h:i<n):(qu f n).set i x=qu (fun t=>if t=i then x else f t) n:=by
 apply yF
 intro t
 by_cases ht:t<n
 ·rw[ur _ _ _ ht]
  by_cases hti:t=i
  ·subst hti
   rw[uP (by rw[yA];exact ht),if_pos rfl]
  ·rw[List.getElem?_set_ne (by omega),ur _ _ _ ht,if_neg hti]
 ·rw[zG (by rw[List.length_set,yA];omega),zG (by rw[yA];omega)]
theorem zls:yZ Tryz.prog 60 (zld zj1 zr5):=by
 intro args ps r h hp
 unfold zld at h
 split at h
 ·rename_i a0
  simp only[za,zb]at h
  obtain⟨rfl,rfl⟩:=h
  obtain⟨xs,k,hb,hm,hk⟩:zr5 a0:=(zo.1 hp).1
  have al:a0.length=k:=by rw[hm,zm,zcq]
  have e1:zj1 a0=II true (qu (fun j=>Kf (prs (mul xs) j j)) k):=by rw[zj1,hm,zB,Ku]
  have ga:∀i,i<k→a0.getD i (.int .i64 0)=.int .i64 (mul xs i):=fun i hi=>by rw[hm,zT,ziF,uA _ _ _ _ hi]
  obtain⟨hg,_⟩:=zcX hb
  have h64:=zsr hb
  refine zO (T:=tab) (B:=[]) (Bi:=[]) [0,2,3,4,5,6,11,12] Tryz.func60 rfl rfl (by kernel_rfl) (zh rfl) mixed yd (by exact zH) (by exact zE) (by kernel_rfl) ?_
  intro L lp rr hL hr hf hlp
  conv=>cbv
  simp only[zr hL,sQ,al]
  refine⟨by omega,by omega,by omega,?_⟩
  obtain⟨K,hK⟩:∃K:Int,K=k:=⟨_,rfl⟩
  rw[←hK]
  refine hlp (List V×Int) _ _ _ [0,3,11,12] (fun x=>[(0,none,.val (.slc false 2 (.int .i64 0) a0)),(3,none,.val (.slc true 44 (.slc true 2 (.int .i64 0) []) x.1)),(11,none,.val (.int .i64 K)),(12,none,.val (.int .i64 x.2))])
   (fun x=>0≤x.2∧x.2≤k∧x.1=II true (qu (fun j=>Kf (prs (mul xs) x.2.toNat j)) k)) (fun x=>(k-x.2).toNat) ((_,0)) (by subst hL;rfl) ?_ ?_
  ·refine⟨by simp,by simp only;omega,?_⟩
   simp only
   rw[show K.toNat=k by omega,show(V.slc true 2 (.int .i64 0) [])=.slc true 2 (.int .i64 0) (I [])from rfl,←zks]
   congr 1
   apply yF
   intro t
   by_cases ht:t<k
   ·rw[ur _ _ _ ht,jR,if_pos ht]
    simp[prs,Kf]
   ·rw[zG (by rw[zU];omega),zG (by rw[yA];omega)]
  rintro⟨es,i⟩ ⟨i0,i1,hI⟩ hfx ag hag
  simp only at i0 i1 hI
  conv=>cbv
  simp only[zr hL,sQ,]
  obtain⟨n,hn⟩:∃n:Nat,n=i.toNat:=⟨i.toNat,rfl⟩
  rw[←hn]at hI
  refine⟨fun h=>?_,fun h=>?_⟩
  ·rw[zl (n:=i+1) (by omega) (by omega)]
   refine hlp (List V×Int×Int) _ _ _ [0,3,4,5,6,11,12] (fun x=>[(0,none,.val (.slc false 2 (.int .i64 0) a0)),(3,none,.val (.slc true 44 (.slc true 2 (.int .i64 0) []) x.1)),(4,none,.val (.int .i64 i)),(5,none,.val (.int .i64 x.2.1)),(6,none,.val (.int .i64 x.2.2)),(11,none,.val (.int .i64 K)),(12,none,.val (.int .i64 i))])
    (fun x=>i+1≤x.2.2∧x.2.2≤k∧x.2.1=(kA (mul xs) n (x.2.2.toNat-(n+1)):Nat)∧x.2.1≤mul xs n∧x.1=II true (qu (fun t=>Kf (prs (mul xs) (if t<x.2.2.toNat then n+1 else n) t)) k)) (fun x=>(k-x.2.2).toNat) ((es,0,i+1)) (by subst hL;rfl) ?_ ?_
   ·refine⟨by simp,by simp only;omega,?_,?_,?_⟩
    ·simp only;rw[show(i+1).toNat-(n+1)=0 by omega];rfl
    ·simp only;omega
    ·simp only
     rw[hI]
     congr 1
     refine qQ fun t _=>?_
     split
     ·rw[zzB (by omega)]
     ·rfl
   rintro⟨es2,sm,j⟩ ⟨j0,j1,hS,hM,hI2⟩ hfx2 ag2 hag2
   simp only at j0 j1 hS hM hI2
   have hMn:=h64 n
   have hMj:=h64 j.toNat
   have hl2:es2.length=k:=by rw[hI2,yz,yA]
   have gn:=ga i.toNat (by omega)
   rw[←hn]at gn
   have ge:es2.getD j.toNat (.slc true 2 (.int .i64 0) [])=.slc true 2 (.int .i64 0) (I (Kf (prs (mul xs) n j.toNat)))∨¬j.toNat<k:=by
    by_cases hj:j.toNat<k
    ·left
     rw[hI2,jf,uA _ _ _ _ hj,if_neg (by omega)]
    ·exact .inr hj
   conv=>cbv
   simp only[zr hL,sQ,al,hl2,←hn,gn]
   refine⟨fun hj=>?_,fun hj=>?_⟩
   ·have gj:=ga j.toNat (by omega)
    have ge:=ge.resolve_right (by omega)
    have hs1:kA (mul xs) n (j.toNat-n)=kA (mul xs) n (j.toNat-(n+1))+mul xs j.toNat:=by
     rw[show j.toNat-n=(j.toNat-(n+1))+1 by omega,kA,show n+1+(j.toNat-(n+1))=j.toNat by omega]
    simp only[zr hL,sQ,gj,ge,List.length_set,hl2]
    rw[zl (n:=sm+mul xs j.toNat) (by omega) (by omega),zl (n:=j+1) (by omega) (by omega),zl (n:=i+1) (by omega) (by omega)]
    refine⟨by omega,by omega,by omega,by omega,fun hlt=>?_,fun hge=>?_⟩
    ·refine hag (_,i+1) ⟨by simp only;omega,by simp only;omega,?_⟩ (by simp only;omega)
     simp only
     rw[show(i+1).toNat=n+1 by omega,hI2]
     congr 1
     refine qQ fun t _=>?_
     split
     ·rfl
     ·rename_i htj
      rw[ze7 (by omega),if_neg (zsa hg (j:=j.toNat) (by omega) (by omega) (by omega)),yh]
    ·have hpl:=zBh (mul xs) n j.toNat
     refine⟨by omega,by omega,by omega,by omega,kn _,by rw[Kf,zy];simp only[zi,zq];omega,qJ _,by omega,by omega,by omega,?_,?_⟩
     ·rw[zd,uP (by omega)]
      exact .inr ⟨.slc true 2 (.int .i64 0) [],rfl,rfl,rfl⟩
     ·refine hag2 (_,_,j+1) ⟨by simp only;omega,by simp only;omega,?_,by simp only;omega,?_⟩ (by simp only;omega)
      ·simp only
       rw[show(j+1).toNat-(n+1)=j.toNat-n by omega,hs1,hS,Zz]
      ·simp only
       have e:I (Kf (prs (mul xs) n j.toNat))++[V.int .i64 i]=I (Kf (prs (mul xs) (n+1) j.toNat)):=by
        rw[ze7 (by omega),if_pos (by omega),Kf,Kf,List.map_append,show i=(n:Int) by omega,←jS]
        rfl
       rw[e,List.set_set,hI2,zd2,zzc _ _ (by omega)]
       congr 1
       refine qQ fun t _=>?_
       by_cases htj:t=j.toNat
       ·rw[if_pos htj,if_pos (by omega),htj]
       ·rw[if_neg htj]
        by_cases htl:t<j.toNat
        ·rw[if_pos htl,if_pos (by omega)]
        ·rw[if_neg htl,if_neg (by omega)]
   ·rw[zl (n:=i+1) (by omega) (by omega)]
    refine hag (_,i+1) ⟨by simp only;omega,by simp only;omega,?_⟩ (by simp only;omega)
    simp only
    rw[show(i+1).toNat=n+1 by omega,hI2]
    congr 1
    refine qQ fun t ht=>?_
    rw[if_pos (by omega)]
  ·rw[hr,e1,hI,show n=k by omega]
   congr 2
   refine qQ fun t ht=>?_
   rw[prs,prs,show min k t=min t t by omega]
 ·cases h
def zhI(xss:List (List Int))(j:Nat):Int:=if 1<(xss.getD (j+1) []).length then(j:Int)+1-(xss.getD (j+1) []).getD 0 0 else 0
def zn8(xss:List (List Int)):List Int:=qu (zhI xss) (xss.length-1)
def zlb(f:List V→List V)(q:List V→Prop):zQ:=fun
 |[.slc false 44 (.slc false 2 (.int .i64 0) []) a0]=>some ([q a0],.slc true 2 (.int .i64 0) (f a0))
 |_=>none
def zj2(es:List V):List V:=I (zn8 (Ka es))
def znw(es:List V):Prop:=∃xss,es=II false xss∧1≤xss.length∧xss.length≤1000000∧∀j,j<xss.length→0≤(xss.getD j []).getD 0 0∧(xss.getD j []).getD 0 0≤1000000
theorem zq3:yZ Tryz.prog 35 (zlb zj2 znw):=by
 intro args ps r h hp
 unfold zlb at h
 split at h
 ·rename_i a0
  simp only[za,zb]at h
  obtain⟨rfl,rfl⟩:=h
  obtain⟨xss,hx,n1,n2,hb⟩:znw a0:=(zo.1 hp).1
  have al:a0.length=xss.length:=by rw[hx,yz]
  have e1:zj2 a0=I (zn8 xss):=by rw[zj2,hx,qC]
  have ga:∀i,a0.getD i (.slc false 2 (.int .i64 0) [])=.slc false 2 (.int .i64 0) (I (xss.getD i [])):=fun i=>by rw[hx,jf]
  refine zO (T:=tab) (B:=[]) (Bi:=[]) [0,2,3,4,5] Tryz.func35 rfl rfl (by kernel_rfl) (zh rfl) mixed yd (by exact zH) (by exact zE) (by kernel_rfl) ?_
  intro L lp rr hL hr hf hlp
  conv=>cbv
  refine hlp (List V×Int) _ _ _ [0,3,4] (fun x=>[(0,none,.val (.slc false 44 (.slc false 2 (.int .i64 0) []) a0)),(3,none,.val (.slc true 2 (.int .i64 0) x.1)),(4,none,.val (.int .i64 x.2))])
   (fun x=>1≤x.2∧x.2≤xss.length∧x.1=I (qu (zhI xss) (x.2-1).toNat)) (fun x=>(xss.length-x.2).toNat) (([],1)) (by subst hL;rfl) ?_ ?_
  ·exact⟨by simp,by simp only;omega,rfl⟩
  rintro⟨es,i⟩ ⟨i0,i1,hI⟩ hfx ag hag
  simp only at i0 i1 hI
  have hel:es.length=(i-1).toNat:=by rw[hI,zm,yA]
  conv=>cbv
  obtain⟨E,hE⟩:∃E,E=xss.getD i.toNat []:=⟨_,rfl⟩
  simp only[zr hL,sQ,al,ga,←hE,zkQ]
  have hco:zhI xss (i-1).toNat=if 1<E.length then i-E.getD 0 0 else 0:=by
   rw[zhI,show(i-1).toNat+1=i.toNat by omega,←hE,show((i-1).toNat:Int)+1=i by omega]
  have fin:∀z,i<xss.length→z=zhI xss (i-1).toNat→ag (ZY [0,3,4] [(0,none,.val (.slc false 44 (.slc false 2 (.int .i64 0) []) a0)),(3,none,.val (.slc true 2 (.int .i64 0) (es++[V.int .i64 z]))),(4,none,.val (.int .i64 (i+1)))]):=by
   intro z h hz
   refine hag (_,i+1) ⟨by simp only;omega,by simp only;omega,?_⟩ (by simp only;omega)
   simp only
   rw[show(i+1-1).toNat=(i-1).toNat+1 by omega,zbs,hI,←jS,hz]
   rfl
  refine⟨fun h=>?_,fun h=>?_⟩
  ·have hbb:=hb i.toNat (by omega)
   rw[←hE]at hbb
   rw[zl (n:=i+1) (by omega) (by omega)]
   have hes:=hel
   refine⟨by omega,h,fun h2=>?_,fun h2=>?_⟩
   ·rw[zl (n:=i-E.getD 0 0) (by omega) (by omega)]
    refine⟨by omega,h,by omega,by omega,kn _,by simp only[zi,zq];omega,qJ _,?_⟩
    exact fin _ h (by rw[hco,if_pos (by omega)])
   ·refine⟨kn _,by simp only[zi,zq];omega,qJ _,?_⟩
    exact fin _ h (by rw[hco,if_neg (by omega)])
  ·rw[hr,e1,hI,zn8,show(i-1).toNat=xss.length-1 by omega]
 ·cases h
def kN(xs:List Int)(k:Nat):List Int:=qu (fun j=>cd (mul xs) (j+1) (j+1)) (k-1)
theorem zqu(l:List Nat)(i:Nat):(Kf l).getD i 0=(l.getD i 0:Nat):=by
 rw[Kf,zd,zd,zJ]
 cases l[i]? <;>rfl
theorem zxc{xs:List Int}(h:Br xs)(k:Nat):zn8 (zex (uY xs k))=kN xs k:=by
 rw[Ku,zn8,kN,yA]
 refine qQ fun j hj=>?_
 rw[zhI,uA _ _ _ _ (by omega),zBV (zcX h).1 (by omega) (by omega),zqu,Kf,zy,Zz]
 rfl
theorem zCC{M:Nat→Nat}{i j:Nat}:∀a∈prs M i j,a<j:=by
 intro a ha
 simp only[prs,List.mem_filter,yX]at ha
 omega
theorem zuo(xs:List Int){k:Nat}(h1:1≤k)(h2:k≤1000000):znw (II false (zex (uY xs k))):=by
 refine⟨_,rfl,?_,?_,?_⟩
 ·rw[Ku,yA];exact h1
 ·rw[Ku,yA];exact h2
 ·intro j hj
  rw[Ku,yA]at hj
  rw[Ku,uA _ _ _ _ hj,zqu]
  cases hh:prs (mul xs) j j with
  |nil=>simp
  |cons a l=>
   have:=zCC a (by rw[hh];simp:a∈prs (mul xs) j j)
   simp
   omega
def cdP(xs:List Int)(i:Nat)(k:Nat):List Int:=qu (fun t=>cd (mul xs) i (t+1)) (k-1)
def zbT(es:List V)(k:Int):List V:=I (kN (yV es) k.toNat)
theorem zoF:yZ Tryz.prog 68 (zhM zbT Qt):=by
 intro args ps r h hp
 unfold zhM at h
 split at h
 ·rename_i a0 a1
  simp only[za,zb]at h
  obtain⟨rfl,rfl⟩:=h
  obtain⟨hq,k1,k2⟩:Qt a0 a1:=(zo.1 hp).1
  have hqb:=hq
  obtain⟨xs,hxs,hb⟩:=hq
  have g1:V.frzs a0=a0:=by rw[hxs,zN]
  obtain⟨k,hk⟩:∃k:Nat,k=a1.toNat:=⟨_,rfl⟩
  obtain⟨ms,hms⟩:∃ms,ms=I (uY xs k):=⟨_,rfl⟩
  have e1:Qx a0 a1=ms:=by rw[Qx,hxs,zB,hms,hk]
  have e2:zbT a0 a1=I (kN xs k):=by rw[zbT,hxs,zB,hk]
  have ml:ms.length=k:=by rw[hms,zm,zcq]
  have gm:∀i,i<k→ms.getD i (.int .i64 0)=.int .i64 (mul xs i):=fun i hi=>by rw[hms,zT,ziF,uA _ _ _ _ hi]
  obtain⟨hg,_⟩:=zcX hb
  have h64:=zsr hb
  generalize zap:Qx=zd6
  generalize uh:Qt=JY
  refine zO (T:=tab) (B:=[(88,zhM zd6 JY)]) (Bi:=[]) [0,1,2,4,5,6,7,8,9] Tryz.func68 rfl rfl (by kernel_rfl) (zh rfl) mixed yd (by subst zap uh;exact(zt zjw zH)) (by subst zap uh;exact zE) (by kernel_rfl) ?_
  intro L lp rr hL hr hf hlp
  conv=>cbv
  have hF:zd6 a0 a1=ms:=by rw[←zap,e1]
  simp only[zr hL,sQ,hF,g1]
  have w0:IntKind.wrap .i64 (a1-1)=a1-1:=zl (by omega) (by omega)
  rw[w0]
  refine⟨by omega,by omega,by omega,by rw[←uh];exact⟨hqb,k1,k2⟩,?_⟩
  refine hlp (List V×Int) _ _ _ [1,5,6,7] (fun x=>[(1,none,.val (.int .i64 a1)),(5,none,.val (.slc true 2 (.int .i64 0) x.1)),(6,none,.val (.slc true 2 (.int .i64 0) ms)),(7,none,.val (.int .i64 x.2))])
   (fun x=>0≤x.2∧x.2≤k∧x.1=I (cdP xs x.2.toNat k)) (fun x=>(k-x.2).toNat) ((_,0)) (by subst hL;rfl) ?_ ?_
  ·refine⟨by simp,by simp only;omega,?_⟩
   simp only
   rw[show(a1-1).toNat=k-1 by omega]
   apply yF
   intro t
   by_cases ht:t<k-1
   ·rw[jR,if_pos ht,I,zJ,cdP,ur _ _ _ ht]
    simp[cd,prs]
   ·rw[zG (by rw[zU];omega),zG (by rw[zm,cdP,yA];omega)]
  rintro⟨es,i⟩ ⟨i0,i1,hI⟩ hfx ag hag
  simp only at i0 i1 hI
  conv=>cbv
  simp only[zr hL,sQ,]
  obtain⟨n,hn⟩:∃n:Nat,n=i.toNat:=⟨i.toNat,rfl⟩
  rw[←hn]at hI
  refine⟨fun h=>?_,fun h=>?_⟩
  ·rw[zl (n:=i+1) (by omega) (by omega)]
   refine hlp (List V×Int×Int) _ _ _ [1,5,6,7,8,9] (fun x=>[(1,none,.val (.int .i64 a1)),(5,none,.val (.slc true 2 (.int .i64 0) x.1)),(6,none,.val (.slc true 2 (.int .i64 0) ms)),(7,none,.val (.int .i64 i)),(8,none,.val (.int .i64 x.2.1)),(9,none,.val (.int .i64 x.2.2))])
    (fun x=>i+1≤x.2.2∧x.2.2≤k∧x.2.1=(kA (mul xs) n (x.2.2.toNat-(n+1)):Nat)∧x.2.1≤mul xs n∧x.1=I (qu (fun t=>cd (mul xs) (if t+1<x.2.2.toNat then n+1 else n) (t+1)) (k-1))) (fun x=>(k-x.2.2).toNat) ((es,0,i+1)) (by subst hL;rfl) ?_ ?_
   ·refine⟨by simp,by simp only;omega,?_,?_,?_⟩
    ·simp only;rw[show(i+1).toNat-(n+1)=0 by omega];rfl
    ·simp only;omega
    ·simp only
     rw[hI,cdP]
     congr 1
     refine qQ fun t _=>?_
     split
     ·rw[zpd (by omega)]
     ·rfl
   rintro⟨es2,sm,j⟩ ⟨j0,j1,hS,hM,hI2⟩ hfx2 ag2 hag2
   simp only at j0 j1 hS hM hI2
   have hMn:=h64 n
   have hMj:=h64 j.toNat
   have hl2:es2.length=k-1:=by rw[hI2,zm,yA]
   have gn:=gm i.toNat (by omega)
   rw[←hn]at gn
   have ge:∀t,es2.getD t (.int .i64 0)=.int .i64 ((yV es2).getD t 0):=fun t=>by rw[hI2,zT,zB]
   conv=>cbv
   simp only[zr hL,sQ,ml,hl2,←hn,gn]
   refine⟨fun hj=>?_,fun hj=>?_⟩
   ·have gj:=gm j.toNat (by omega)
    have hs1:kA (mul xs) n (j.toNat-n)=kA (mul xs) n (j.toNat-(n+1))+mul xs j.toNat:=by
     rw[show j.toNat-n=(j.toNat-(n+1))+1 by omega,kA,show n+1+(j.toNat-(n+1))=j.toNat by omega]
    simp only[zr hL,sQ,gj,ge]
    rw[zl (n:=sm+mul xs j.toNat) (by omega) (by omega),zl (n:=j+1) (by omega) (by omega),zl (n:=i+1) (by omega) (by omega),zl (n:=j-1) (by omega) (by omega),zl (n:=j-i) (by omega) (by omega)]
    have nxt:sm+mul xs j.toNat=(kA (mul xs) n ((j+1).toNat-(n+1)):Nat):=by
     rw[show(j+1).toNat-(n+1)=j.toNat-n by omega,hs1,hS,Zz]
    refine⟨by omega,by omega,by omega,by omega,by omega,by omega,fun hlt=>?_,fun hge=>⟨fun h3=>?_,fun h3=>?_⟩⟩
    ·refine hag (_,i+1) ⟨by simp only;omega,by simp only;omega,?_⟩ (by simp only;omega)
     simp only
     rw[show(i+1).toNat=n+1 by omega,hI2,cdP]
     congr 1
     refine qQ fun t _=>?_
     split
     ·rfl
     ·rename_i htj
      rw[zpd]
      rintro⟨h5,h6⟩
      exact zsa hg (j:=j.toNat) (j':=t+1) (by omega) (by omega) (by omega) h6
    ·refine⟨by omega,by omega,by omega,?_⟩
     refine hag2 (_,_,j+1) ⟨by simp only;omega,by simp only;omega,nxt,by simp only;omega,?_⟩ (by simp only;omega)
     simp only
     have hc:=zBU hg (i:=n) (j:=j.toNat) (by omega) (by omega)
     rw[hI2,Jz,zA6]
     congr 1
     refine qQ fun t _=>?_
     by_cases htj:t=(j-1).toNat
     ·rw[if_pos htj,if_pos (by omega),show t+1=j.toNat by omega,hc]
      omega
     ·rw[if_neg htj]
      by_cases htl:t+1<j.toNat
      ·rw[if_pos htl,if_pos (by omega)]
      ·rw[if_neg htl,if_neg (by omega)]
    ·refine hag2 (_,_,j+1) ⟨by simp only;omega,by simp only;omega,nxt,by simp only;omega,?_⟩ (by simp only;omega)
     simp only
     rw[hI2]
     congr 1
     refine qQ fun t _=>?_
     by_cases htl:t+1<j.toNat
     ·rw[if_pos htl,if_pos (by omega)]
     ·rw[if_neg htl]
      by_cases htl2:t+1<(j+1).toNat
      ·rw[if_pos htl2,zpd (by omega)]
      ·rw[if_neg htl2]
   ·rw[zl (n:=i+1) (by omega) (by omega)]
    refine hag (_,i+1) ⟨by simp only;omega,by simp only;omega,?_⟩ (by simp only;omega)
    simp only
    rw[show(i+1).toNat=n+1 by omega,hI2,cdP]
    congr 1
    refine qQ fun t ht=>?_
    rw[if_pos (by omega)]
  ·rw[hr,e2,hI,show n=k by omega,kN,cdP]
   congr 2
   refine qQ fun t ht=>?_
   rw[cd,cd,show min k (t+1-1)=min (t+1) (t+1-1) by omega]
 ·cases h
end Go.Ax
namespace Go.Ax
open Go.Proofs
def ztE(f:List V→Int→List V)(q:List V→Int→Prop):zQ:=fun
 |[.agg [.slc false 2 (.int .i64 0) a0],.int .i64 a1]=>some ([q a0 a1],.slc true 44 (.slc true 2 (.int .i64 0) []) (f a0 a1))
 |_=>none
def zro(es:List V)(k:Int):List V:=II true (zex (uY (yV es) k.toNat))
theorem zjl:yZ Tryz.prog 36 (ztE zro Qt):=by
 intro args ps r h hp
 unfold ztE at h
 split at h
 ·rename_i a0 a1
  simp only[za,zb]at h
  obtain⟨rfl,rfl⟩:=h
  obtain⟨hq,k1,k2⟩:Qt a0 a1:=(zo.1 hp).1
  have hqb:=hq
  obtain⟨xs,hxs,hb⟩:=hq
  have g1:V.frzs a0=a0:=by rw[hxs,zN]
  obtain⟨ms,hms⟩:∃ms,ms=I (uY xs a1.toNat):=⟨_,rfl⟩
  have e1:Qx a0 a1=ms:=by rw[Qx,hxs,zB,hms]
  have g2:V.frzs ms=ms:=by rw[hms,zN]
  generalize zap:Qx=zd6
  generalize uh:Qt=JY
  generalize zmX:zj1=zAz
  generalize zmR:zr5=zAw
  refine zO (T:=tab) (B:=[(61,ztF zd6 JY),(60,zld zAz zAw)]) (Bi:=[]) [0,1,2,4] Tryz.func36 rfl rfl (by kernel_rfl) (zh rfl) mixed yd (by subst zap uh zmX zmR;exact(zt zoJ (zt zls zH))) (by subst zap uh zmX zmR;exact zE) (by kernel_rfl) ?_
  intro L lp rr hL hr hf hlp
  conv=>cbv
  have hF:zd6 a0 a1=ms:=by rw[←zap,e1]
  simp only[zr hL,sQ,g1,hF,g2]
  refine⟨by rw[←uh];exact⟨hqb,k1,k2⟩,by rw[←zmR];exact⟨xs,_,hb,hms,by omega⟩,?_⟩
  rw[hr,zro,←zmX,zj1,hms,zB,hxs,zB]
 ·cases h
def zD8(X Y:List Int):Option Nat:=(List.range X.length).find? fun t=>X.getD t 0 !=Y.getD t 0
def gc(xs ys:List Int):Int×Int:=match zD8 (kN xs 201) (kN ys 201)with
 |some i=>((i:Int)+1,0)
 |none=>(0,4)
theorem zgx(xs:List Int)(k:Nat):(kN xs k).length=k-1:=yA _ _
end Go.Ax
namespace Go.Ax
open Go.Proofs
theorem zq0:yZ Tryz.prog 62 (KZ JI zmo):=by
 intro args ps r h hp
 unfold KZ at h
 split at h
 ·rename_i a0 a1
  simp only[za,zb]at h
  obtain⟨rfl,rfl⟩:=h
  obtain⟨⟨xs,hxs⟩,ys,hys⟩:zmo a0 a1:=(zo.1 hp).1
  have hxl:a0.length=xs.length:=by rw[hxs,zm]
  have hyl:a1.length=ys.length:=by rw[hys,zm]
  have hf0:JI a0 a1=decide (xs=ys):=by rw[JI,hxs,hys,zB,zB]
  have gx:∀i,a0.getD i (.int .i64 0)=.int .i64 (xs.getD i 0):=fun i=>by rw[hxs,zT]
  have gy:∀i,a1.getD i (.int .i64 0)=.int .i64 (ys.getD i 0):=fun i=>by rw[hys,zT]
  refine zO (T:=tab) (B:=[]) (Bi:=[]) [0,1,4,5,12,13] Tryz.func62 rfl rfl (by kernel_rfl) (zh rfl) mixed yd (by exact zH) (by exact zE) (by kernel_rfl) ?_
  intro L lp rr hL hr hf hlp
  have hlen:=hf.1.1
  obtain⟨n,hn⟩:∃n:Int,n=xs.length:=⟨_,rfl⟩
  conv=>cbv
  simp only[zr hL,sQ,hxl,hyl]
  refine⟨fun h=>?_,fun h=>?_⟩
  ·rw[hr,hf0,decide_eq_false]
   rintro rfl
   omega
  refine hlp Int _ _ _ [0,1,12,13] (fun x=>[(0,none,.val (.slc false 2 (.int .i64 0) a0)),(1,none,.val (.slc false 2 (.int .i64 0) a1)),(12,none,.val (.int .i64 n)),(13,none,.val (.int .i64 x))])
   (fun x=>0≤x∧x≤xs.length∧xs.take x.toNat=ys.take x.toNat) (fun x=>(xs.length-x).toNat) 0 (by subst hL;rw[hn,←hxl];rfl) (by simp) ?_
  rintro i ⟨i0,i1,hI⟩ hfx ag hag
  conv=>cbv
  simp only[zr hL,sQ,hxl,hyl,gx,gy]
  refine⟨fun h2=>⟨i0,by omega,i0,by omega,fun h4=>?_,fun h4=>?_⟩,fun h2=>?_⟩
  ·rw[hr,hf0,decide_eq_false]
   rintro rfl
   exact h4 rfl
  ·rw[zl (n:=i+1) (by omega) (by omega)]
   refine hag (i+1) ⟨by omega,by omega,?_⟩ (by omega)
   have e1:i.toNat<xs.length:=by omega
   have e2:i.toNat<ys.length:=by omega
   rw[yj i0,zC e1,zC e2,hI]
   simp only[zd,ze e1,ze e2,Option.getD_some]at h4
   rw[h4]
  ·rw[zu (by omega),zu (by omega)]at hI
   rw[hr,hf0,decide_eq_true hI]
 ·cases h
theorem zhk:yZ Tryz.prog 69 (KZ JI zmo):=by
 intro args ps r h hp
 unfold KZ at h
 split at h
 ·rename_i a0 a1
  simp only[za,zb]at h
  obtain⟨rfl,rfl⟩:=h
  obtain⟨⟨xs,hxs⟩,ys,hys⟩:zmo a0 a1:=(zo.1 hp).1
  have hxl:a0.length=xs.length:=by rw[hxs,zm]
  have hyl:a1.length=ys.length:=by rw[hys,zm]
  have hf0:JI a0 a1=decide (xs=ys):=by rw[JI,hxs,hys,zB,zB]
  have gx:∀i,a0.getD i (.int .i64 0)=.int .i64 (xs.getD i 0):=fun i=>by rw[hxs,zT]
  have gy:∀i,a1.getD i (.int .i64 0)=.int .i64 (ys.getD i 0):=fun i=>by rw[hys,zT]
  refine zO (T:=tab) (B:=[]) (Bi:=[]) [0,1,4,5] Tryz.func69 rfl rfl (by kernel_rfl) (zh rfl) mixed yd (by exact zH) (by exact zE) (by kernel_rfl) ?_
  intro L lp rr hL hr hf hlp
  have hlen:=hf.1.1
  conv=>cbv
  simp only[zr hL,sQ,hxl,hyl]
  refine⟨fun h=>?_,fun h=>?_⟩
  ·rw[hr,hf0,decide_eq_false]
   rintro rfl
   omega
  refine hlp (Int) _ _ _ [0,1,5] (fun x=>[(0,none,.val (.slc false 2 (.int .i64 0) a0)),(1,none,.val (.slc false 2 (.int .i64 0) a1)),(5,none,.val (.int .i64 x))])
   (fun x=>0≤x∧x≤xs.length∧xs.take x.toNat=ys.take x.toNat) (fun x=>(xs.length-x).toNat) (0) (by subst hL;rfl) ?_ ?_
  ·simp
  rintro i ⟨i0,i1,hI⟩ hfx ag hag
  conv=>cbv
  simp only[zr hL,sQ,hxl,hyl,gx,gy]
  refine⟨fun h2=>⟨i0,by omega,i0,by omega,fun h4=>?_,fun h4=>?_⟩,fun h2=>?_⟩
  ·rw[hr,hf0,decide_eq_false]
   rintro rfl
   exact h4 rfl
  ·rw[zl (n:=i+1) (by omega) (by omega)]
   refine hag (i+1) ⟨by omega,by omega,?_⟩ (by omega)
   have e1:i.toNat<xs.length:=by omega
   have e2:i.toNat<ys.length:=by omega
   rw[yj i0,zC e1,zC e2,hI]
   simp only[zd,ze e1,ze e2,Option.getD_some]at h4
   rw[h4]
  ·rw[zu (by omega),zu (by omega)]at hI
   rw[hr,hf0,decide_eq_true hI]
 ·cases h
def zei(X Y:List Int)(c:Nat):Bool:=decide (X.take (c-1)=Y.take (c-1))&&(X.getD (c-1) 0 !=Y.getD (c-1) 0||X.getD (c-1) 0==0)
def zph(f:List V→List V→Int→Bool)(q:List V→List V→Int→Prop):zQ:=fun
 |[.slc false 2 (.int .i64 0) a0,.slc false 2 (.int .i64 0) a1,.int .i64 a2]=>some ([q a0 a1 a2],.bool (f a0 a1 a2))
 |_=>none
def zn1(a b:List V)(c:Int):Bool:=zei (yV a) (yV b) c.toNat
def zwH(a b:List V)(c:Int):Prop:=IsI a∧IsI b∧1≤c∧c≤a.length∧c≤b.length
theorem znq:yZ Tryz.prog 37 (zph zn1 zwH):=by
 intro args ps r h hp
 unfold zph at h
 split at h
 ·rename_i a0 a1 a2
  simp only[za,zb]at h
  obtain⟨rfl,rfl⟩:=h
  obtain⟨⟨xs,hxs⟩,⟨ys,hys⟩,c1,c2,c3⟩:zwH a0 a1 a2:=(zo.1 hp).1
  have hxl:a0.length=xs.length:=by rw[hxs,zm]
  have hyl:a1.length=ys.length:=by rw[hys,zm]
  have hf0:zn1 a0 a1 a2=zei xs ys a2.toNat:=by rw[zn1,hxs,hys,zB,zB]
  have gx:∀i,a0.getD i (.int .i64 0)=.int .i64 (xs.getD i 0):=fun i=>by rw[hxs,zT]
  have gy:∀i,a1.getD i (.int .i64 0)=.int .i64 (ys.getD i 0):=fun i=>by rw[hys,zT]
  generalize YX:JI=zdt
  generalize zan:zmo=zhX
  refine zO (T:=tab) (B:=[(62,KZ zdt zhX)]) (Bi:=[]) [0,1,2,6] Tryz.func37 rfl rfl (by kernel_rfl) (zh rfl) mixed yd (by subst YX zan;exact(zt zq0 zH)) (by subst YX zan;exact zE) (by kernel_rfl) ?_
  intro L lp rr hL hr hf hlp
  have hlen:=hf.1.1
  have hlen2:=hf.2.1.1
  conv=>cbv
  have w0:IntKind.wrap .i64 (a2-1)=a2-1:=zl (by omega) (by omega)
  simp only[zr hL,sQ,hxl,hyl,gx,gy,w0,qY]
  subst YX zan
  have e1:V.frzs (a0.take (a2-1).toNat)=I (xs.take (a2-1).toNat):=by rw[hxs,zkr,zN]
  have e2:V.frzs (a1.take (a2-1).toNat)=I (ys.take (a2-1).toNat):=by rw[hys,zkr,zN]
  rw[e1,e2,hr,hf0]
  (repeat' first|(exact qJ _)|(exact Yf rfl)|(exact kn _)|(apply And.intro)|(intro _))<;>(try first|exact True.intro|omega|rfl|(simp only[zi,zq,zm];omega))
  all_goals first|assumption|exact⟨_,rfl⟩|skip
  rw[zei,JI,zB,zB,show(a2-1).toNat=a2.toNat-1 by omega]
  rfl
 ·cases h
def shr(xs ys:List Int)(c:Nat):Bool:=zei (kN xs 201) (kN ys 201) c
theorem zeF(xs:List Int){c k:Nat}(h:c≤k-1):(kN xs k).take c=kN xs (c+1):=by
 rw[kN,zzb _ _ _ h,kN,Nat.add_sub_cancel]
theorem zgy(xs:List Int){c k:Nat}(h:c<k-1):(kN xs k).getD c 0=cd (mul xs) (c+1) (c+1):=uA _ _ _ _ h
theorem zCt(xs ys:List Int){c k:Nat}(h1:1≤c)(h2:c≤200)(hk:c+1≤k):zei (kN xs k) (kN ys k) c=shr xs ys c:=by
 rw[shr,zei,zei,zeF xs (c:=c-1) (k:=k) (by omega),zeF ys (c:=c-1) (k:=k) (by omega),zeF xs (c:=c-1) (k:=201) (by omega),zeF ys (c:=c-1) (k:=201) (by omega),
  zgy xs (k:=k) (by omega),zgy ys (k:=k) (by omega),zgy xs (k:=201) (by omega),zgy ys (k:=201) (by omega)]
theorem zzl(xs ys:List Int)(c:Nat):shr xs ys c=shr ys xs c:=by
 rw[shr,shr,zei,zei]
 by_cases h:(kN xs 201).getD (c-1) 0=(kN ys 201).getD (c-1) 0
 ·rw[h,decide_eq_decide.2 (eq_comm)]
 ·have h':¬(kN ys 201).getD (c-1) 0=(kN xs 201).getD (c-1) 0:=fun e=>h e.symm
  simp only[bne_iff_ne.2 h,bne_iff_ne.2 h',Bool.true_or,Bool.and_true]
  rw[decide_eq_decide.2 (eq_comm)]
def zpm(f:List V→List V→Int→Bool)(q:List V→List V→Int→Prop):zQ:=fun
 |[.agg [.slc false 2 (.int .i64 0) a0],.agg [.slc false 2 (.int .i64 0) a1],.int .i64 a2]=>some ([q a0 a1 a2],.bool (f a0 a1 a2))
 |_=>none
def znY(a b:List V)(c:Int):Bool:=shr (yV a) (yV b) c.toNat
def zwy(a b:List V)(c:Int):Prop:=JM a∧JM b∧1≤c∧c≤200
theorem zoA:yZ Tryz.prog 44 (zpm znY zwy):=by
 intro args ps r h hp
 unfold zpm at h
 split at h
 ·rename_i a0 a1 a2
  simp only[za,zb]at h
  obtain⟨rfl,rfl⟩:=h
  obtain⟨hq,hq1,c1,c2⟩:zwy a0 a1 a2:=(zo.1 hp).1
  have hqb:=hq
  have hqb1:=hq1
  obtain⟨xs,hxs,hb⟩:=hq
  obtain⟨ys,hys,hb1⟩:=hq1
  have g1:V.frzs a0=a0:=by rw[hxs,zN]
  have g2:V.frzs a1=a1:=by rw[hys,zN]
  obtain⟨k,hk⟩:∃k:Nat,k=(a2+1).toNat:=⟨_,rfl⟩
  obtain⟨X,hX⟩:∃X,X=kN xs k:=⟨_,rfl⟩
  obtain⟨Y,hY⟩:∃Y,Y=kN ys k:=⟨_,rfl⟩
  obtain⟨vx,hvx⟩:∃vx,vx=I X:=⟨_,rfl⟩
  obtain⟨vy,hvy⟩:∃vy,vy=I Y:=⟨_,rfl⟩
  have e1:zbT a0 (a2+1)=vx:=by rw[zbT,hxs,zB,hvx,hX,hk]
  have e2:zbT a1 (a2+1)=vy:=by rw[zbT,hys,zB,hvy,hY,hk]
  have e4:znY a0 a1 a2=zei X Y a2.toNat:=by rw[znY,hxs,hys,zB,zB,hX,hY,zCt xs ys (by omega) (by omega) (by omega)]
  have xl:vx.length=k-1:=by rw[hvx,zm,hX,zgx]
  have yl:vy.length=k-1:=by rw[hvy,zm,hY,zgx]
  have gx:∀t,vx.getD t (.int .i64 0)=.int .i64 (X.getD t 0):=fun t=>by rw[hvx,zT]
  have gy:∀t,vy.getD t (.int .i64 0)=.int .i64 (Y.getD t 0):=fun t=>by rw[hvy,zT]
  have w0:IntKind.wrap .i64 (a2-1)=a2-1:=zl (by omega) (by omega)
  have w1:IntKind.wrap .i64 (a2+1)=a2+1:=zl (by omega) (by omega)
  generalize zgN:zbT=zkE
  generalize uh:Qt=JY
  generalize YX:JI=zdt
  generalize zan:zmo=zhX
  refine zO (T:=tab) (B:=[(68,zhM zkE JY),(69,KZ zdt zhX)]) (Bi:=[]) [1000002007,1000002008,0,1,2,3,4,6,7,8] Tryz.func44 rfl rfl (by kernel_rfl) (zh rfl) mixed yd (by subst zgN uh YX zan;exact(zt zoF (zt zhk zH))) (by subst zgN uh YX zan;exact zE) (by kernel_rfl) ?_
  intro L lp rr hL hr hf hlp
  conv=>cbv
  have F1:zkE a0 (a2+1)=vx:=by rw[←zgN,e1]
  have F2:zkE a1 (a2+1)=vy:=by rw[←zgN,e2]
  have fx:V.frzs vx=vx:=by rw[hvx,zN]
  have fy:V.frzs vy=vy:=by rw[hvy,zN]
  simp only[zr hL,sQ,g1,g2,w0,w1,F1,F2,fx,fy,xl,yl,gx,gy,qY]
  subst YX zan uh
  have e1:V.frzs (vx.take (a2-1).toNat)=I (X.take (a2-1).toNat):=by rw[hvx,zkr,zN]
  have e2:V.frzs (vy.take (a2-1).toNat)=I (Y.take (a2-1).toNat):=by rw[hvy,zkr,zN]
  rw[e1,e2,hr,e4]
  refine⟨⟨hqb,by omega,by omega⟩,⟨hqb1,by omega,by omega⟩,by omega,by omega,by omega,by omega,by omega,by omega,⟨⟨_,rfl⟩,⟨_,rfl⟩⟩,fun h=>?_,fun h=>?_⟩
  ·rw[JI,zB,zB,show(a2-1).toNat=a2.toNat-1 by omega]at h
   rw[zei,h];rfl
  ·rw[JI,zB,zB,show(a2-1).toNat=a2.toNat-1 by omega]at h
   rw[zei,h,show(a2-1).toNat=a2.toNat-1 by omega]
   refine⟨by omega,by omega,by omega,by omega,fun _=>by omega,fun _=>by omega,fun _=>trivial,?_⟩
   rfl
 ·cases h
end Go.Ax
namespace Go.Ax
open Go.Proofs
def kz:List (List Int)→Int
 |[]=>1
 |p::l=>p.getD 1 0*kz l
structure Prs (ps:List (List Int)):Prop where
 len:ps.length≤3
 two:∀p∈ps,∃c o,p=[c,o]∧1≤c∧c≤100∧2≤o∧o≤5
 pr:kz ps≤64
theorem Prs.tail{p:List Int}{l:List (List Int)}(h:Prs (p::l)):Prs l∧∃c o,p=[c,o]∧1≤c∧c≤100∧2≤o∧o≤5∧1≤kz l∧kz (p::l)=o*kz l∧kz l≤o*kz l:=by
 have pos:∀l:List (List Int),(∀p∈l,∃c o,p=[c,o]∧1≤c∧c≤100∧2≤o∧o≤5)→1≤kz l:=by
  intro l
  induction l with
  |nil=>intro _;decide
  |cons p l ih=>
   intro h
   obtain⟨c,o,rfl,_,_,h3,_⟩:=h p (by simp)
   have:=ih (fun q hq=>h q (by simp[hq]))
   simp only[kz,qn,yL]
   have:1*1≤o*kz l:=Int.mul_le_mul (by omega) this (by omega) (by omega)
   omega
 obtain⟨c,o,rfl,h1,h2,h3,h4⟩:=h.two p (by simp)
 have hp:=pos l (fun q hq=>h.two q (by simp[hq]))
 have hm:1*kz l≤o*kz l:=Int.mul_le_mul_of_nonneg_right (by omega) (by omega)
 have hpr:=h.pr
 simp only[kz,qn,yL]at hpr
 refine⟨⟨by have:=h.len;simp at this;omega,fun q hq=>h.two q (by simp[hq]),by omega⟩,c,o,rfl,h1,h2,h3,h4,hp,rfl,by omega⟩
theorem Prs.drop{ps:List (List Int)}(h:Prs ps):∀i,Prs (ps.drop i):=by
 intro i
 induction i generalizing ps with
 |zero=>exact h
 |succ i ih=>
  cases ps with
  |nil=>simpa using h
  |cons p l=>simpa using ih h.tail.1
theorem zij(a b:List (List Int)):kz (a++b)=kz a*kz b:=by
 induction a with
 |nil=>simp[kz]
 |cons p l ih=>simp only[List.cons_append,kz,ih,Int.mul_assoc]
theorem Prs.at{ps:List (List Int)}(h:Prs ps){i:Nat}(hi:i<ps.length):∃c o,ps.getD i []=[c,o]∧1≤c∧c≤100∧2≤o∧o≤5∧ps.drop i=[c,o]::ps.drop (i+1)∧1≤kz (ps.drop (i+1))∧kz (ps.drop (i+1))≤64∧kz (ps.drop i)=o*kz (ps.drop (i+1))∧kz (ps.drop i)≤64∧
 kz (ps.take (i+1))=kz (ps.take i)*o:=by
 have hd:ps.drop i=ps.getD i []::ps.drop (i+1):=by rw[YH [] hi]
 have hi':=h.drop i
 have h6:=hi'.pr
 rw[hd]at hi'
 obtain⟨h1,c,o,h2,h3,h4,h5,h7,h8,h9,h10⟩:=hi'.tail
 refine⟨c,o,h2,h3,h4,h5,h7,by rw[hd,h2],h8,h1.pr,by rw[hd,h9],h6,?_⟩
 rw[zC hi,zij]
 have:ps[i]=[c,o]:=by rw[←h2,zd,ze hi];rfl
 rw[this]
 simp[kz]
theorem Prs.pos{ps:List (List Int)}(h:Prs ps):1≤kz ps:=by
 cases ps with
 |nil=>decide
 |cons p l=>
  obtain⟨_,c,o,_,_,_,_,_,h1,h2,h3⟩:=h.tail
  omega
theorem Prs.take_le{ps:List (List Int)}(h:Prs ps):∀i,i≤ps.length→1≤kz (ps.take i)∧kz (ps.take i)≤64:=by
 intro i hi
 have h1:kz (ps.take i)*kz (ps.drop i)=kz ps:=by rw[←zij,jq]
 have h2:=(h.drop i).pos
 have h3:=h.pr
 have h4:=h.pos
 have h5:1≤kz (ps.take i):=by
  by_cases hc:1≤kz (ps.take i)
  ·exact hc
  ·exfalso
   have:kz (ps.take i)*kz (ps.drop i)≤0:=Int.mul_nonpos_of_nonpos_of_nonneg (by omega) (by omega)
   omega
 refine⟨h5,?_⟩
 have:kz (ps.take i)*1≤kz (ps.take i)*kz (ps.drop i):=Int.mul_le_mul_of_nonneg_left h2 (by omega)
 omega
def zkM(a:List V):Prop:=∃ps,a=II false ps∧Prs ps
def zxg(f:List V→Int)(q:List V→Prop):zQ:=fun
 |[.slc false 44 (.slc false 2 (.int .i64 0) []) a0]=>some ([q a0],.int .i64 (f a0))
 |_=>none
def zk1(a:List V):Int:=kz (Ka a)
theorem znl:yZ Tryz.prog 95 (zxg zk1 zkM):=by
 intro args ps r h hp
 unfold zxg at h
 split at h
 ·rename_i a0
  simp only[za,zb]at h
  obtain⟨rfl,rfl⟩:=h
  obtain⟨ps,hps,hP⟩:zkM a0:=(zo.1 hp).1
  obtain⟨n,hn⟩:∃n:Int,n=a0.length:=⟨_,rfl⟩
  have hpl:a0.length=ps.length:=by rw[hps,yz]
  have hlen:=hP.len
  have gx:∀k,a0.getD k (.slc false 2 (.int .i64 0) [])=.slc false 2 (.int .i64 0) (I (ps.getD k [])):=fun k=>by rw[hps,jf]
  have hf0:zk1 a0=kz ps:=by rw[zk1,hps,qC]
  generalize yO:yE=jP
  refine zO (T:=tab) (B:=[(43,jI jP)]) (Bi:=[]) [0,2,3,4] Tryz.func95 rfl rfl (by kernel_rfl) (zh rfl) mixed yd (by subst yO;exact(zt JD zH)) (by subst yO;exact zE) (by kernel_rfl) ?_
  intro L lp rr hL hr hf hlp
  conv=>cbv
  simp only[zr hL,sQ,←hn]
  refine⟨fun h=>by omega,fun _=>?_⟩
  refine hlp (Int×Int) _ _ _ [0,3,4] (fun x=>[(0,none,.val (.slc false 44 (.slc false 2 (.int .i64 0) []) a0)),(3,none,.val (.int .i64 x.1)),(4,none,.val (.int .i64 x.2))])
   (fun x=>0≤x.2∧x.2≤n∧x.1=kz (ps.take x.2.toNat)) (fun x=>(n-x.2).toNat) ((1,0)) (by subst hL;rfl) ?_ ?_
  ·exact⟨by simp,by simp only;omega,rfl⟩
  rintro⟨v,i⟩ ⟨i0,i1,hI⟩ hfx ag hag
  simp only at i0 i1 hI
  conv=>cbv
  simp only[zr hL,sQ,←hn,gx]
  refine⟨fun h2=>?_,fun h2=>?_⟩
  ·obtain⟨c,o,e1,e2,e3,e4,e5,e6,e7,e8,e9,e10,e11⟩:=hP.at (i:=i.toNat) (by omega)
   have hb:=hP.take_le (i.toNat+1) (by omega)
   have r1:jP c 1 2000=true:=by rw[←yO];simp[yE];omega
   have r2:jP o 1 2000=true:=by rw[←yO];simp[yE];omega
   have w1:IntKind.wrap .i64 (v*o)=v*o:=zl (by rw[hI,←e11];omega) (by rw[hI,←e11];omega)
   have e12:v*o=kz (ps.take (i.toNat+1)):=by rw[e11,hI]
   have l2:((0+1+1:Nat):Int)=2:=rfl
   have g0:[c,o].getD 0 0=c:=rfl
   have g1:[c,o].getD 1 0=o:=rfl
   simp only[e1,zm,zi,zq,zT,uz,w1,l2,g0,g1,r1,r2,Bool.true_eq_false,not_true,or_self,false_imp_iff,true_imp_iff,and_self,true_and]
   (repeat' first|(exact qJ _)|(exact Yf rfl)|(exact kn _)|(apply And.intro)|(intro _))<;>(try first|exact True.intro|omega|rfl|(simp only[zi,zq,zm];omega))
   ·rw[zl (n:=i+1) (by omega) (by omega)]
    exact hag (_,i+1) ⟨by simp only;omega,by simp only;omega,by simp only;rw[show(i+1).toNat=i.toNat+1 by omega,e12]⟩ (by simp only;omega)
  ·rw[hr,hf0,hI,show i.toNat=ps.length by omega,List.take_length]
 ·cases h
theorem znn:yZ Tryz.prog 96 (zbW JH zcT):=by
 intro args ps r h hp
 unfold zbW at h
 split at h
 ·rename_i a0 a1
  simp only[za,zb]at h
  obtain⟨rfl,rfl⟩:=h
  obtain⟨⟨xs,hxs,hl,hrl⟩,⟨ys,hys⟩⟩:zcT a0 a1:=(zo.1 hp).1
  obtain⟨n,hn⟩:∃n:Int,n=a0.length:=⟨_,rfl⟩
  obtain⟨m,hm⟩:∃m:Int,m=a1.length:=⟨_,rfl⟩
  have hxl:a0.length=xs.length:=by rw[hxs,yz]
  have hyl:a1.length=ys.length:=by rw[hys,yz]
  have gx:∀k,a0.getD k (.slc false 2 (.int .i64 0) [])=.slc false 2 (.int .i64 0) (I (xs.getD k [])):=fun k=>by rw[hxs,jf]
  have gy:∀k,a1.getD k (.slc false 2 (.int .i64 0) [])=.slc false 2 (.int .i64 0) (I (ys.getD k [])):=fun k=>by rw[hys,jf]
  have hf0:JH a0 a1=decide (xs=ys):=by rw[JH,hxs,hys,qC,qC]
  generalize YX:JI=zdt
  generalize zan:zmo=zhX
  refine zO (T:=tab) (B:=[(69,KZ zdt zhX)]) (Bi:=[]) [0,1,4,5] Tryz.func96 rfl rfl (by kernel_rfl) (zh rfl) mixed yd (by subst YX zan;exact(zt zhk zH)) (by subst YX zan;exact zE) (by kernel_rfl) ?_
  intro L lp rr hL hr hf hlp
  conv=>cbv
  simp only[zr hL,sQ,←hn,←hm]
  refine⟨fun h=>?_,fun h=>?_⟩
  ·rw[hr,hf0,decide_eq_false (fun e=>h (by rw[hn,hm,hxl,hyl,e]))]
  have hlen:xs.length=ys.length:=by omega
  refine hlp (Int) _ _ _ [0,1,5] (fun x=>[(0,none,.val (.slc false 44 (.slc false 2 (.int .i64 0) []) a0)),(1,none,.val (.slc false 44 (.slc false 2 (.int .i64 0) []) a1)),(5,none,.val (.int .i64 x))])
   (fun x=>0≤x∧x≤n∧xs.take x.toNat=ys.take x.toNat) (fun x=>(n-x).toNat) (0) (by subst hL;rfl) ?_ ?_
  ·exact⟨by simp,by omega,rfl⟩
  rintro i ⟨i0,i1,hI⟩ hfx ag hag
  have Ef:∀u v:List Int,zdt (I u) (I v)=decide (u=v):=fun u v=>by rw[←YX,JI,zB,zB]
  have Ql:∀u v:List Int,zhX (I u) (I v):=fun u v=>by rw[←zan];exact⟨⟨_,rfl⟩,⟨_,rfl⟩⟩
  conv=>cbv
  simp only[zr hL,sQ,←hn,←hm,gx,gy,Ef]
  refine⟨fun h2=>?_,fun h2=>?_⟩
  ·have h4:i.toNat<xs.length:=by omega
   have h5:i.toNat<ys.length:=by omega
   refine⟨i0,h2,i0,by omega,Ql _ _,fun h3=>?_,fun h3=>?_⟩
   ·rw[hr,hf0,decide_eq_false (fun e=>h3 (by rw[e]))]
   ·rw[zl (n:=i+1) (by omega) (by omega)]
    refine hag (i+1) ⟨by omega,by omega,?_⟩ (by omega)
    rw[zd,ze h4,zd,ze h5]at h3
    rw[show(i+1).toNat=i.toNat+1 by omega,zC h4,zC h5,hI]
    exact congrArg (fun z=>List.take i.toNat ys++[z]) h3
  ·have h4:xs=ys:=by rwa [zu (by omega),zu (by omega)]at hI
   rw[hr,hf0,decide_eq_true h4]
 ·cases h
def znD(xs:List Int)(i:Nat):List Int:=[W ((if i=0 then xs.getD (i+1) 0 else W (xs.getD (i+1) 0-xs.getD i 0)).tdiv ((dv xs).getD (i+1) 0)),W (((dv xs).getD i 0).tdiv ((dv xs).getD (i+1) 0))]
def nwt(xs:List Int):List (List Int):=qu (znD xs) (xs.length-1)
def zxl(f:List V→List V)(q:List V→Prop):zQ:=fun
 |[.agg [.slc false 2 (.int .i64 0) a0]]=>some ([q a0],.slc true 44 (.slc true 2 (.int .i64 0) []) (f a0))
 |_=>none
def znZ(a:List V):List V:=II true (nwt (yV a))
theorem zmh:yZ Tryz.prog 97 (zxl znZ JM):=by
 intro args ps r h hp
 unfold zxl at h
 split at h
 ·rename_i a0
  simp only[za,zb]at h
  obtain⟨rfl,rfl⟩:=h
  have hq:JM a0:=(zo.1 hp).1
  have hqP:=hq.isP
  obtain⟨xs,hxs,hb⟩:=hq
  have g1:V.frzs a0=a0:=by rw[hxs,zN]
  have e2:znZ a0=II true (nwt xs):=by rw[znZ,hxs,zB]
  have e3:Jt a0=I (dv xs):=by rw[Jt,hxs,zB]
  have gx:∀k,a0.getD k (.int .i64 0)=.int .i64 (xs.getD k 0):=fun k=>by rw[hxs,zT]
  obtain⟨ds,hds⟩:∃ds,ds=I (dv xs):=⟨_,rfl⟩
  have gd:∀k,ds.getD k (.int .i64 0)=.int .i64 ((dv xs).getD k 0):=fun k=>by rw[hds,zT]
  obtain⟨n,hn⟩:∃n:Int,n=a0.length:=⟨_,rfl⟩
  obtain⟨m,hm⟩:∃m:Int,m=ds.length:=⟨_,rfl⟩
  have hxl:a0.length=xs.length:=by rw[hxs,zm]
  have hdl:ds.length=xs.length:=by rw[hds,zm,hb.dlen]
  have hmn:m=n:=by omega
  have h1:=hb.len
  have h2:=hb.pos
  generalize ZS:Jt=Kx
  generalize zi2:IsP=zxw
  refine zO (T:=tab) (B:=[(98,zru Kx zxw)]) (Bi:=[]) [2000008048,0,1,2,3,4,5,6] Tryz.func97 rfl rfl (by kernel_rfl) (zh rfl) mixed yd (by subst ZS zi2;exact(zt zdO zH)) (by subst ZS zi2;exact zE) (by kernel_rfl) ?_
  intro L lp rr hL hr hf hlp
  conv=>cbv
  simp only[zr hL,sQ,g1]
  subst ZS zi2
  simp only[e3,←hds]
  refine⟨hqP,?_⟩
  refine hlp (List V×Int) _ _ _ [1,3,4,5] (fun x=>[(1,none,.val (.box 46 (.agg [.slc false 2 (.int .i64 0) a0]))),(3,none,.val (.slc true 2 (.int .i64 0) ds)),(4,none,.val (.slc true 44 (.slc true 2 (.int .i64 0) []) x.1)),(5,none,.val (.int .i64 x.2))])
   (fun x=>1≤x.2∧x.2≤n∧x.1=II true (qu (znD xs) (x.2-1).toNat)) (fun x=>(n-x.2).toNat) (([],1)) (by subst hL;rfl) ?_ ?_
  ·exact⟨by simp,by simp only;omega,rfl⟩
  rintro⟨es,i⟩ ⟨i0,i1,hes⟩ hfx ag hag
  simp only at i0 i1 hes
  obtain⟨el,hel0⟩:∃el:Int,el=es.length:=⟨_,rfl⟩
  have hel:el=i-1:=by rw[hel0,hes,yz,yA];omega
  have w1:IntKind.wrap .i64 (i-1)=i-1:=zl (by omega) (by omega)
  conv=>cbv
  simp only[zr hL,sQ,←hn,←hm,←hel0,gx,gd,w1]
  have p1:=hb.dpos i.toNat
  have fin:∀v:Int,v=(if(i-1).toNat=0 then xs.getD ((i-1).toNat+1) 0 else W (xs.getD ((i-1).toNat+1) 0-xs.getD (i-1).toNat 0))→II true (qu (znD xs) (i-1).toNat)++[V.slc true 2 (.int .i64 0) [.int .i64 (IntKind.wrap .i64 (v.tdiv ((dv xs).getD i.toNat 0))),.int .i64 (IntKind.wrap .i64 (((dv xs).getD (i-1).toNat 0).tdiv ((dv xs).getD i.toNat 0)))]]=II true (qu (znD xs) (i+1-1).toNat):=by
   intro v hv
   obtain⟨k,hk⟩:∃k:Nat,i=k+1:=⟨(i-1).toNat,by omega⟩
   subst hk
   rw[show((k:Int)+1+1-1).toNat=k+1 by omega,zbs,YK]
   rw[show((k:Int)+1-1).toNat=k by omega]at hv
   rw[show((k:Int)+1).toNat=k+1 by omega,show((k:Int)+1-1).toNat=k by omega]
   rw[hv]
   rfl
  have wi:IntKind.wrap .i64 (i+1)=i+1:=zl (by omega) (by omega)
  refine⟨fun h=>?_,fun h=>?_⟩
  ·(repeat' first|(exact qJ _)|(exact Yf rfl)|(exact kn _)|(apply And.intro)|(intro _))<;>(try first|exact True.intro|omega|rfl|(simp only[zi,zq,zm];omega))
   ·rw[wi,hes]
    exact hag (_,i+1) ⟨by simp only;omega,by simp only;omega,fin _ (by rw[if_neg (by omega),show(i-1).toNat+1=i.toNat by omega])⟩ (by simp only;omega)
   ·rw[wi,hes]
    exact hag (_,i+1) ⟨by simp only;omega,by simp only;omega,fin _ (by rw[if_pos (by omega),show(i-1).toNat+1=i.toNat by omega])⟩ (by simp only;omega)
  ·rw[hr,e2,hes,show(i-1).toNat=xs.length-1 by omega]
   rfl
 ·cases h
def zgC(la:Int):List (List Int)→List Int
 |[]=>[]
 |p::l=>(la+p.getD 0 0*kz l)::zgC (la+p.getD 0 0*kz l) l
def Qj(ps:List (List Int)):List Int:=kz ps::zgC 0 ps
theorem zgB:∀(l:List (List Int)) (la:Int),(zgC la l).length=l.length
 |[],_=>rfl
 |_::l,_=>by simp[zgC,zgB l]
def okT(ps:List (List Int)):Bool:=qK (Qj ps)&&decide (nwt (Qj ps)=ps)
def ztr(f:List V→List V×Int)(q:List V→Prop):zQ:=fun
 |[.slc false 44 (.slc false 2 (.int .i64 0) []) a0]=>some ([q a0],.tup [.agg [.slc true 2 (.int .i64 0) ((f a0).1)],.int .i64 ((f a0).2)])
 |_=>none
def zn2(a:List V):List V×Int:=if okT (Ka a)=true then(I (Qj (Ka a)),0)else([],5)
theorem zho:yZ Tryz.prog 80 (ztr zn2 zkM):=by
 intro args ps r h hp
 unfold ztr at h
 split at h
 ·rename_i a0
  simp only[za,zb]at h
  obtain⟨rfl,rfl⟩:=h
  have hq:zkM a0:=(zo.1 hp).1
  have hq0:=hq
  obtain⟨ps,hps,hP⟩:=hq
  obtain⟨n,hn⟩:∃n:Int,n=a0.length:=⟨_,rfl⟩
  have hpl:a0.length=ps.length:=by rw[hps,yz]
  have hlen:=hP.len
  have gx:∀k,a0.getD k (.slc false 2 (.int .i64 0) [])=.slc false 2 (.int .i64 0) (I (ps.getD k [])):=fun k=>by rw[hps,jf]
  have hfr:V.frzs a0=a0:=by rw[hps,jg]
  have hf0:zn2 a0=if okT ps=true then(I (Qj ps),0)else([],5):=by rw[zn2,hps,qC]
  obtain⟨N,hN⟩:∃N:Int,N=kz ps:=⟨_,rfl⟩
  have e1:zk1 a0=N:=by rw[zk1,hps,qC,hN]
  have N1:=hP.pos
  have N2:=hP.pr
  generalize zpK:zk1=zCc
  generalize zdk:zkM=zhU
  generalize qG:kP=jv
  generalize qj:uU=km
  generalize zpN:znZ=zv0
  generalize ZA:JM=zcH
  generalize zao:JH=zgO
  generalize zal:zcT=zkC
  refine zO (T:=tab) (B:=[(95,zxg zCc zhU),(42,YP jv km),(97,zxl zv0 zcH),(96,zbW zgO zkC)]) (Bi:=[]) [2000011653,0,2,3,4,5,6,7,8] Tryz.func80 rfl rfl (by kernel_rfl) (zh rfl) mixed yd (by subst zpK zdk qG qj zpN ZA zao zal;exact(zt znl (zt KM (zt zmh (zt znn zH))))) (by subst zpK zdk qG qj zpN ZA zao zal;exact zE) (by kernel_rfl) ?_
  intro L lp rr hL hr hf hlp
  conv=>cbv
  simp only[zr hL,sQ,hfr]
  subst zpK
  simp only[e1]
  have qF:zhU a0:=by rw[←zdk];exact hq0
  refine⟨qF,fun h=>by omega,fun _=>?_⟩
  refine hlp (List V×Int×Int×Int) _ _ _ [0,2,5,6,7,8] (fun x=>[(0,none,.val (.slc false 44 (.slc false 2 (.int .i64 0) []) a0)),(2,none,.val (.box 46 (.agg [.slc true 2 (.int .i64 0) []]))),(5,none,.val (.box 46 (.agg [.slc true 2 (.int .i64 0) x.1]))),(6,none,.val (.int .i64 x.2.1)),(7,none,.val (.int .i64 x.2.2.1)),(8,none,.val (.int .i64 x.2.2.2))])
   (fun x=>0≤x.2.2.2∧x.2.2.2≤n∧x.2.1=kz (ps.drop x.2.2.2.toNat)∧0≤x.2.2.1∧x.2.2.1≤6400*x.2.2.2∧∃pre:List Int,x.1=I (N::pre)∧pre.length=x.2.2.2.toNat∧pre++zgC x.2.2.1 (ps.drop x.2.2.2.toNat)=zgC 0 ps) (fun x=>(n-x.2.2.2).toNat) (([.int .i64 N],N,0,0)) (by subst hL;rfl) ?_ ?_
  ·exact⟨by simp,by simp only;omega,hN,by simp,by simp,[],rfl,rfl,rfl⟩
  rintro⟨es,e,la,i⟩ ⟨i0,i1,he,l0,l1,pre,h1,h2,h3⟩ hfx ag hag
  simp only at i0 i1 he l0 l1 h1 h2 h3
  obtain⟨el,hel0⟩:∃el:Int,el=es.length:=⟨_,rfl⟩
  have hel:el=i+1:=by rw[hel0,h1,zm,zi];omega
  conv=>cbv
  simp only[zr hL,sQ,←hn,←hel0,gx]
  refine⟨fun h=>?_,fun h=>?_⟩
  ·obtain⟨c,o,e1,e2,e3,e4,e5,e6,e7,e8,e9,e10,e11⟩:=hP.at (i:=i.toNat) (by omega)
   have g0:[c,o].getD 0 0=c:=rfl
   have g1:[c,o].getD 1 0=o:=rfl
   have hed:e.tdiv o=kz (ps.drop (i.toNat+1)):=by rw[he,e9,Int.mul_tdiv_cancel_left _ (by omega)]
   obtain⟨P,hPP⟩:∃P:Int,P=kz (ps.drop (i.toNat+1)):=⟨_,rfl⟩
   rw[←hPP]at hed e7 e8
   have wd:IntKind.wrap .i64 P=P:=zl (by omega) (by omega)
   have c0:0≤c*P:=Int.mul_nonneg (by omega) (by omega)
   have c1:c*P≤100*64:=Int.mul_le_mul (by omega) (by omega) (by omega) (by omega)
   have wm:IntKind.wrap .i64 (c*P)=c*P:=zl (by omega) (by omega)
   have wl:IntKind.wrap .i64 (la+c*P)=la+c*P:=zl (by omega) (by omega)
   have wi:IntKind.wrap .i64 (i+1)=i+1:=zl (by omega) (by omega)
   simp only[e1,zm,zi,zq,g0,g1,hed,wd,wm,wl,wi]
   (repeat' first|(exact qJ _)|(exact Yf rfl)|(exact kn _)|(apply And.intro)|(intro _))<;>(try first|exact True.intro|omega|rfl|(simp only[zi,zq,zm];omega))
   refine hag (_,_,_,i+1) ⟨by simp only;omega,by simp only;omega,by simp only;rw[hPP,show(i+1).toNat=i.toNat+1 by omega],by simp only;omega,by simp only;omega,pre++[la+c*P],by simp only;rw[h1];simp[I],by simp only[zk,zi,zq];omega,?_⟩ (by simp only;omega)
   simp only
   rw[show(i+1).toNat=i.toNat+1 by omega,zS,←h3,e6]
   simp only[zgC,yL,List.singleton_append,←hPP]
  ·have hes:es=I (Qj ps):=by
    rw[List.drop_of_length_le (by omega)]at h3
    simp only[zgC,yh]at h3
    rw[h1,h3,hN]
    rfl
   have Eb:jv (I (Qj ps))=qK (Qj ps):=by rw[←qG,kP,zB]
   have En:zv0 (I (Qj ps))=II true (nwt (Qj ps)):=by rw[←zpN,znZ,zB]
   have El:zgO (II false (nwt (Qj ps))) a0=decide (nwt (Qj ps)=ps):=by rw[←zao,JH,qC,hps,qC]
   have tl:(Qj ps).length≤4:=by simp only[Qj,zi,zgB];omega
   rw[hes]
   simp only[zN,Eb,En,jg,hfr,El]
   refine⟨by rw[←qj];exact⟨⟨_,rfl⟩,by rw[zm];omega⟩,fun h1=>by rw[←ZA];exact⟨_,rfl,Kl h1⟩,fun _=>zAu _,fun _=>?_,fun h1=>?_,fun h1=>?_⟩
   ·rw[←zal]
    refine⟨⟨_,rfl,by rw[nwt,yA];omega,fun r hr=>?_⟩,_,hps⟩
    simp only[nwt,qu,yD]at hr
    obtain⟨k,_,rfl⟩:=hr
    simp[znD]
   ·rw[hr,hf0,if_neg]
    intro h2
    simp only[okT,Bool.and_eq_true]at h2
    rcases h1 with h1|h1
    ·rw[h1]at h2;cases h2.1
    ·rw[h1]at h2;cases h2.2
   ·rw[hr,hf0,if_pos]
    simp only[okT,Bool.and_eq_true]
    exact h1
 ·cases h
end Go.Ax
