import Derived.Test.YtlkdpcjakfhnoaaGreatB05q4
import Derived.Test.YtlkdpcjakfhnoaaGreatB04q4
import Derived.Test.YtlkdpcjakfhnoaaGreatB03q4
import Derived.Test.YtlkdpcjakfhnoaaGreatB02q4
import Derived.Test.YtlkdpcjakfhnoaaGreatAxP4q4
set_option linter.all false
set_option maxRecDepth 100000
set_option maxHeartbeats 8000000
open Bool renaming eq_iff_iff→Jh,true_eq_false→zaJ
open List renaming getD_eq_getElem?_getD→zd,getElem?_eq_getElem→ze,length_append→zk,length_cons→zi,length_nil→zr,mem_iff_getElem→qk,take_of_length_le→zB,take_succ_eq_append_getElem→zF
open Nat renaming le_of_ble_eq_true→zg
open Option.some renaming injEq→za
open Prod.mk renaming injEq→zb
/-
 CurveEquality,the reference's search. No conditions but those of the contracts.
-/
namespace Go.Ax
open Go.Proofs
def gdB(base:Bool)(ms ns:List (List Int))(p:List Int)(i y k:Nat):Bool:=base&&(List.range k).all fun t=>mm ms i t==mm ns y (p.getD t 0).toNat
theorem ztW(base:Bool)(ms ns:List (List Int))(p:List Int)(i y k:Nat):gdB base ms ns p i y (k+1)=(gdB base ms ns p i y k&&(mm ms i k==mm ns y (p.getD k 0).toNat)):=by
 rw[gdB,gdB,List.range_succ,List.all_append,Bool.and_assoc]
 simp
theorem zzs{base:Bool}{ms ns:List (List Int)}{p:List Int}{i y:Nat}:∀{k j:Nat},k≤j→gdB base ms ns p i y k=false→gdB base ms ns p i y j=false
 |k,0,h,h0=>by have:k=0:=by omega
               rw[this]at h0;exact h0
 |k,j+1,h,h0=>by
  by_cases e:k=j+1
  ·rw[e]at h0;exact h0
  ·rw[ztW,zzs (by omega) h0];rfl
theorem zwy(bs ms ds ns:List (List Int))(p:List Int)(y:Nat):gdB (!p.contains (y:Int)&&(bs.getD p.length []==ds.getD y [])) ms ns p p.length y p.length=(!p.contains (y:Int)&&ZQ bs ms ds ns p y):=by
 rw[gdB,ZQ,Bool.and_assoc,Int.toNat_natCast]
def zcL(a b c d l:List V):List V:=I (kh (ZQ (ur a) (kw b) (ur c) (kw d)) a.length (a.length-l.length) (qb l))
def ziQ(m:Nat)(a b c d l:List V):Prop:=ZN a b∧ZN c d∧a.length=c.length∧∃p,l=I p∧p.length+m=a.length∧∀x∈p,0≤x∧x<a.length
def zbt(f:List V→List V→List V→List V→List V→List V)(q:List V→List V→List V→List V→List V→Prop):jz:=fun
 |[.agg [.slc false 68 (.agg [.slc false 2 (.int .i64 0) []]) a0,.slc false 30 (.slc false 2 (.int .i64 0) []) a1],.agg [.slc false 68 (.agg [.slc false 2 (.int .i64 0) []]) a2,.slc false 30 (.slc false 2 (.int .i64 0) []) a3],.slc true 2 (.int .i64 0) a4]=>some ([q a0 a1 a2 a3 a4],.slc true 2 (.int .i64 0) (f a0 a1 a2 a3 a4),.hole 0)
 |_=>none
theorem zmm(m:Nat)(qq:List V→List V→List V→List V→List V→Prop)(ih:zdC Tryz.prog 35 2 (zbt zcL qq))(hqq:∀m' a b c d l,m=m'+1→ziQ m' a b c d l→qq a b c d l):zdC Tryz.prog 35 2 (zbt zcL (ziQ m)):=by
 intro args ps r y h hp
 unfold zbt at h
 split at h
 ·rename_i a0 a1 a2 a3 a4
  simp only[za,zb]at h
  obtain⟨rfl,rfl,rfl⟩:=h
  obtain⟨hqa,hqb,hlen,p,hP,hpm,hin⟩:ziQ m a0 a1 a2 a3 a4:=(zl.1 hp).1
  obtain⟨⟨⟨bs,hbs,hb1,hb2⟩,⟨ms,hms,hm1,hm2⟩⟩,hv1⟩:=id hqa
  obtain⟨⟨⟨ds,hds,hd1,hd2⟩,⟨ns,hns,hn1,hn2⟩⟩,hv2⟩:=id hqb
  rw[hbs,hms,zW,zO]at hv1
  rw[hds,hns,zW,zO]at hv2
  have g0:V.frzs a0=a0:=by rw[hbs,yL]
  have g1:V.frzs a1=a1:=by rw[hms,yF]
  have g2:V.frzs a2=a2:=by rw[hds,yL]
  have g3:V.frzs a3=a3:=by rw[hns,yF]
  have g4:V.frzs a4=a4:=by rw[hP,zG]
  have hbl:a0.length=bs.length:=by rw[hbs,yK]
  have hdl:a2.length=ds.length:=by rw[hds,yK]
  have hml:a1.length=ms.length:=by rw[hms,yk]
  have hnl:a3.length=ns.length:=by rw[hns,yk]
  have hpl:a4.length=p.length:=by rw[hP,zj]
  rw[hbl]at hpm hin
  rw[hbl,hdl]at hlen
  have gb:∀k,a0.getD k (.agg [.slc false 2 (.int .i64 0) []])=.agg [.slc false 2 (.int .i64 0) (I (bs.getD k []))]:=fun k=>by rw[hbs,uo]
  have gm:∀k,a1.getD k (.slc false 2 (.int .i64 0) [])=.slc false 2 (.int .i64 0) (I (ms.getD k [])):=fun k=>by rw[hms,qB]
  have gd:∀k,a2.getD k (.agg [.slc false 2 (.int .i64 0) []])=.agg [.slc false 2 (.int .i64 0) (I (ds.getD k []))]:=fun k=>by rw[hds,uo]
  have gn:∀k,a3.getD k (.slc false 2 (.int .i64 0) [])=.slc false 2 (.int .i64 0) (I (ns.getD k [])):=fun k=>by rw[hns,qB]
  have gp:∀k,a4.getD k (.int .i64 0)=.int .i64 (p.getD k 0):=fun k=>by rw[hP,zR]
  have hf0:zcL a0 a1 a2 a3 a4=I (kh (ZQ bs ms ds ns) bs.length m p):=by
   rw[zcL,hbl,hpl,hbs,hms,hds,hns,hP,zW,zO,zW,zO,zq,show bs.length-p.length=m by omega]
  obtain⟨n,hn⟩:∃n:Int,n=bs.length:=⟨_,rfl⟩
  obtain⟨pl,hpl2⟩:∃pl:Int,pl=p.length:=⟨_,rfl⟩
  have n1:=hv1.n1
  have n6:=hv1.n6
  generalize JU:zha=zcn
  generalize ux:zdj=Qx
  generalize kQ:Yi=Zw
  generalize kq:zbU=Qy
  generalize qu:same=jB
  generalize yv:jU=qA
  generalize KL:zcL=ziv
  generalize znB:qq=zBC
  refine zp9 (T:=tab) (B:=[(68,zch zcn Qx),(69,Yj Zw Qy),(70,jJ jB qA)]) (Bi:=[(35,2,true,zbt ziv zBC)]) 2 [2000013078,2000013080,2000013081,2000013082,2000013782,2000013996,0,1,2,3,4,6,7,8,9,10,11] Tryz.func35 rfl rfl (by kernel_rfl) (zg rfl) zP zQ (by subst JU ux kQ kq qu yv KL znB;exact(zm zeI (zm zde (zm Kw zy)))) (by subst JU ux kQ kq qu yv KL znB;exact(zev ih zu)) (by kernel_rfl) (zg rfl) ?_
  intro L lp rr hL hr hf hlp
  conv=>cbv
  simp only[zp hL,sQ,g0,g1,g2,g3,g4,hbl,hdl,hml,hnl,hpl,←hn,←hpl2]
  refine⟨fun h=>?_,fun h=>?_⟩
  ·rw[hr,←KL,hf0,show m=0 by omega,kh,hP]
  obtain⟨m',rfl⟩:∃m',m=m'+1:=⟨m-1,by omega⟩
  obtain⟨g,hg⟩:∃g:Nat→List Int,g=fun y:Nat=>if !p.contains (y:Int)&&ZQ bs ms ds ns p y then kh (ZQ bs ms ds ns) bs.length m' (p++[(y:Int)])else[]:=⟨_,rfl⟩
  have hF:kh (ZQ bs ms ds ns) bs.length (m'+1) p=za0 g bs.length:=by rw[hg];rfl
  have Eh:∀x,zcn a4 x=p.contains x:=fun x=>by rw[←JU,zha,hP,zq]
  have Qh:∀x,Qx a4 x:=fun x=>by rw[←ux];exact⟨⟨p,hP⟩,by rw[hpl];omega⟩
  have Ee:∀u v:List Int,Zw (I u) (I v)=(u==v):=fun u v=>by rw[←kQ,Yi,zq,zq];cases h:u==v<;>simp_all
  have Qe:∀u v:List Int,Qy (I u) (I v):=fun u v=>by rw[←kq];exact⟨⟨u,rfl⟩,⟨v,rfl⟩⟩
  have Eo:jB a4=a4:=by rw[←qu];rfl
  have Qo:qA a4:=by rw[←yv];exact⟨⟨p,hP⟩,by rw[hpl];omega⟩
  refine hlp (Int) _ _ _ [2,3,4,7,8] (fun x=>[(2,none,.val (.slc true 2 (.int .i64 0) a4)),(3,none,.val (.box 27 (.agg [.slc false 68 (.agg [.slc false 2 (.int .i64 0) []]) a0,.slc false 30 (.slc false 2 (.int .i64 0) []) a1]))),(4,none,.val (.box 27 (.agg [.slc false 68 (.agg [.slc false 2 (.int .i64 0) []]) a2,.slc false 30 (.slc false 2 (.int .i64 0) []) a3]))),(7,none,.val (.int .i64 pl)),(8,none,.val (.int .i64 x))])
   (fun x=>0≤x∧x≤n∧∀t:Nat,t<x.toNat→g t=[]) (fun x=>(n-x).toNat) (0) (by subst hL;rfl) ?_ ?_
  ·exact⟨by simp,by omega,fun t ht=>by simp at ht⟩
  rintro y ⟨y0,y1,hY⟩ hfx ag hag
  conv=>cbv
  simp only[zp hL,sQ,g0,g1,g2,g3,g4,hbl,hdl,hml,hnl,hpl,gb,gd,ut,uv,Eh]
  refine⟨fun h2=>?_,fun h2=>?_⟩
  ·refine⟨Qh y,fun _=>by omega,fun _=>by omega,fun _=>uk _ _ _,fun _=>trivial,fun _=>y0,fun _=>by omega,fun _=>uk _ _ _,fun _=>trivial,fun _=>Qe _ _,?_⟩
   obtain⟨bb,hbb⟩:∃bb:Bool,bb=(!p.contains y&&Zw (I (bs.getD pl.toNat [])) (I (ds.getD y.toNat []))):=⟨_,rfl⟩
   have hbb2:bb=(!p.contains y&&(bs.getD p.length []==ds.getD y.toNat [])):=by rw[hbb,Ee,show pl.toNat=p.length by omega]
   refine hlp (Bool×Int) _ _ _ [2,3,4,7,8,9,10] (fun w=>[(2,none,.val (.slc true 2 (.int .i64 0) a4)),(3,none,.val (.box 27 (.agg [.slc false 68 (.agg [.slc false 2 (.int .i64 0) []]) a0,.slc false 30 (.slc false 2 (.int .i64 0) []) a1]))),(4,none,.val (.box 27 (.agg [.slc false 68 (.agg [.slc false 2 (.int .i64 0) []]) a2,.slc false 30 (.slc false 2 (.int .i64 0) []) a3]))),(7,none,.val (.int .i64 pl)),(8,none,.val (.int .i64 y)),(9,none,.val (.bool w.1)),(10,none,.val (.int .i64 w.2))])
    (fun w=>0≤w.2∧w.2≤pl∧w.1=gdB bb ms ns p p.length y.toNat w.2.toNat) (fun w=>(pl-w.2).toNat) ((bb,0)) (by subst hL;rw[hbb];rfl) ?_ ?_
   ·exact⟨by simp,by simp only;omega,by simp[gdB]⟩
   rintro⟨b,k⟩ ⟨k0,k1,hB⟩ hfx2 ag2 hag2
   simp only at k0 k1 hB
   conv=>cbv
   simp only[zp hL,sQ,g0,g1,g2,g3,g4,hbl,hdl,hml,hnl,hpl,gm,gn,gp]
   have hplN:pl.toNat=p.length:=by omega
   have hyl:y.toNat<bs.length:=by omega
   have rlm:=(hv1.tab.row p.length (by omega)).1
   have rln:=(hv2.tab.row y.toNat (by omega)).1
   have hmsl:=hv1.tab.len
   have hnsl:=hv2.tab.len
   refine⟨fun h3=>?_,fun h3=>⟨fun h4=>?_,fun h4=>?_⟩⟩
   ·obtain⟨h3,h4⟩:=h3
    have hkp:k.toNat<p.length:=by omega
    have hpk:=hin (p.getD k.toNat 0) (by
     rw[zd,ze hkp]
     exact List.getElem_mem _)
    rw[hplN,rlm,rln]
    rw[zo (n:=k+1) (by omega) (by omega)]
    refine⟨by omega,by omega,k0,by omega,y0,by omega,k0,by omega,hkp,hpk.1,by omega,?_⟩
    refine hag2 (_,k+1) ⟨by simp only;omega,by simp only;omega,?_⟩ (by simp only;omega)
    simp only[zU k0]
    rw[ztW,←hB,h4,Bool.true_and]
    rfl
   ·have hkl:k.toNat=p.length:=by
     rcases h3 with h3|h3
     ·omega
     ·rw[h3]at h4;cases h4
    have hgd:=zwy bs ms ds ns p y.toNat
    rw[show((y.toNat:Nat):Int)=y by omega,←hbb2]at hgd
    rw[hkl,hgd,h4]at hB
    have hgy:g y.toNat=kh (ZQ bs ms ds ns) bs.length m' (p++[y]):=by
     rw[hg]
     simp only[show((y.toNat:Nat):Int)=y by omega]
     rw[if_pos hB.symm]
    have hB2:=hB.symm
    simp only[Bool.and_eq_true]at hB2
    have hap:jB a4++[V.int .i64 y]=I (p++[y]):=by rw[Eo,hP,←qr];rfl
    rw[hap]
    have hq:ziQ m' a0 a1 a2 a3 (I (p++[y])):=⟨hqa,hqb,by rw[hbl,hdl];exact hlen,_,rfl,by rw[zk,hbl];simp only[zi,zr];omega,fun x hx=>by
     rw[hbl]
     rcases List.mem_append.1 hx with hx|hx
     ·exact hin x hx
     ·simp only[List.mem_singleton]at hx
      omega⟩
    have hfr:ziv a0 a1 a2 a3 (I (p++[y]))=I (g y.toNat):=by
     rw[←KL,zcL,hbl,zj,zk,hbs,hms,hds,hns,zW,zO,zW,zO,zq,hgy]
     simp only[zi,zr]
     rw[show bs.length-(p.length+1)=m' by omega]
    rw[hfr]
    refine⟨Qo,by rw[Eo,hP];exact JP _,rfl,by rw[Eo,hpl];simp only[zi,zr];omega,yR _,by rw[←znB];exact hqq m' _ _ _ _ _ rfl hq,fun h5=>?_,fun h5=>?_⟩
    ·have hne:g y.toNat≠[]:=fun e=>by rw[e]at h5;simp at h5
     rw[hr,←KL,hf0,hF,zoW hyl hY hne]
    ·have he:g y.toNat=[]:=by
      cases hh:g y.toNat with
      |nil=>rfl
      |cons _ _=>rw[hh]at h5;exact absurd (by simp) h5
     rw[zo (n:=y+1) (by omega) (by omega)]
     refine hag (y+1) ⟨by omega,by omega,fun t ht=>?_⟩ (by omega)
     by_cases e:t=y.toNat
     ·rw[e];exact he
     ·exact hY t (by omega)
   ·have hB3:gdB bb ms ns p p.length y.toNat p.length=false:=zzs (k:=k.toNat) (by omega) (by rw[←hB,h4])
    have hgd:=zwy bs ms ds ns p y.toNat
    rw[show((y.toNat:Nat):Int)=y by omega,←hbb2]at hgd
    rw[hgd]at hB3
    have he:g y.toNat=[]:=by
     rw[hg]
     simp only[show((y.toNat:Nat):Int)=y by omega]
     rw[if_neg (by rw[hB3];simp)]
    rw[zo (n:=y+1) (by omega) (by omega)]
    refine hag (y+1) ⟨by omega,by omega,fun t ht=>?_⟩ (by omega)
    by_cases e:t=y.toNat
    ·rw[e];exact he
    ·exact hY t (by omega)
  ·rw[hr,←KL,hf0,hF,zoV (fun t ht=>hY t (by omega))]
   rfl
 ·cases h
def zwe(_ _ _ _ _:List V):Prop:=False
theorem zvA:zdC Tryz.prog 35 2 (zbt zcL zwe):=by
 intro args ps r y h hp
 unfold zbt at h
 split at h
 ·simp only[za,zb]at h
  obtain⟨rfl,rfl,rfl⟩:=h
  exact((zl.1 hp).1:False).elim
 ·cases h
theorem zhP:∀m:Nat,zdC Tryz.prog 35 2 (zbt zcL (ziQ m))
 |0=>zmm 0 zwe zvA fun m' _ _ _ _ _ h=>by omega
 |m+1=>zmm (m+1) (ziQ m) (zhP m) fun m' _ _ _ _ _ h hq=>by
  have:m'=m:=by omega
  rw[this]at hq
  exact hq
def zpT(a b c d l:List V):Prop:=l=[]∧ziQ a.length a b c d l
theorem zCi:zdC Tryz.prog 35 2 (zbt zcL zpT):=by
 intro args ps r y h hp
 have h0:=h
 unfold zbt at h
 split at h
 ·rename_i a0 a1 a2 a3 a4
  simp only[za,zb]at h
  obtain⟨rfl,rfl,rfl⟩:=h
  obtain⟨_,hq⟩:zpT a0 a1 a2 a3 a4:=(zl.1 hp).1
  exact zhP a0.length _ _ _ _ rfl (zl.2 ⟨hq,fun q hq=>by cases hq⟩)
 ·cases h
theorem ziG:yT Tryz.prog 7 (zfB zbM zs8):=by
 intro args ps r h hp
 unfold zfB at h
 split at h
 ·rename_i a0 a1 a2 a3
  simp only[za,zb]at h
  obtain⟨rfl,rfl⟩:=h
  obtain⟨hqa,hqb⟩:zs8 a0 a1 a2 a3:=(zl.1 hp).1
  have g0:=uV hqa.1.isBB
  have g1:=uU hqa.2.isII
  have g2:=uV hqb.1.isBB
  have g3:=uU hqb.2.isII
  have hfm:zcL a0 a1 a2 a3 []=I (Kl a0 a1 a2 a3):=rfl
  generalize zY:yB=ji
  generalize qf:uj=jR
  generalize KL:zcL=ziv
  generalize zk8:zpT=zzX
  refine zD (T:=tab) (B:=[(24,Jc ji jR)]) (Bi:=[(35,2,true,zbt ziv zzX)]) [0,1,2,3,4,5,6] Tryz.func7 rfl rfl (by kernel_rfl) (zg rfl) zP zQ (by subst zY qf KL zk8;exact(zm zaa zy)) (by subst zY qf KL zk8;exact(zev zCi zu)) (by kernel_rfl) ?_
  intro L lp rr hL hr hf hlp
  have Em:ziv a0 a1 a2 a3 []=I (Kl a0 a1 a2 a3):=by rw[←KL,hfm]
  obtain⟨zs,hzs⟩:∃zs,zs=I (Kl a0 a1 a2 a3):=⟨_,rfl⟩
  rw[←hzs]at Em
  have hzl:zs.length=(Kl a0 a1 a2 a3).length:=by rw[hzs,zj]
  conv=>cbv
  simp only[zp hL,sQ,g0,g1,g2,g3,Em]
  refine⟨by rw[←qf];exact hqa,fun _=>by rw[←qf];exact hqb,fun h=>?_,fun h=>⟨fun h2=>?_,fun h2=>⟨?_,fun h3=>?_,fun h3=>?_⟩⟩⟩
  ·rw[hr,zkM (by rw[zY];exact h)]
  ·rw[hr,zkL (by rw[zY];exact h.1) (by rw[zY];exact h.2) (by omega)]
  ·rw[←zk8]
   refine⟨rfl,⟨hqa,?_⟩,⟨hqb,?_⟩,by omega,[],rfl,by simp,fun x hx=>by cases hx⟩
   ·exact Zm.1 (by have:=h.1;rw[←zY]at this;exact this)
   ·exact Zm.1 (by have:=h.2;rw[←zY]at this;exact this)
  ·have he:Kl a0 a1 a2 a3=[]:=List.eq_nil_of_length_eq_zero (by omega)
   rw[hr,zhb (by rw[zY];exact h.1) (by rw[zY];exact h.2) (by omega),he]
   rfl
  ·have he:(Kl a0 a1 a2 a3).isEmpty=false:=by
    cases hh:Kl a0 a1 a2 a3 with
    |nil=>rw[hh]at hzl;exact absurd (by rw[hzl];rfl) h3
    |cons _ _=>rfl
   rw[hr,zhb (by rw[zY];exact h.1) (by rw[zY];exact h.2) (by omega),he,hzs]
   rfl
 ·cases h
end Go.Ax
namespace Go.Ax
open Go.Proofs
def zqc(a:List V)(n:Int):Bool:=zhD n (qb a)
theorem ziK:yT Tryz.prog 40 (zch zqc zdj):=by
 intro args ps r h hp
 unfold zch at h
 split at h
 ·rename_i a0 a1
  simp only[za,zb]at h
  obtain⟨rfl,rfl⟩:=h
  obtain⟨⟨ls,hls⟩,hll⟩:zdj a0 a1:=(zl.1 hp).1
  have hq:jU a0:=⟨⟨ls,hls⟩,hll⟩
  have hal:a0.length=ls.length:=by rw[hls,zj]
  rw[hal]at hll
  have g0:V.frzs a0=a0:=by rw[hls,zG]
  have hf0:zqc a0 a1=zhD a1 ls:=by rw[zqc,hls,zq]
  obtain⟨ss,hss⟩:∃ss,ss=srt ls:=⟨_,rfl⟩
  obtain⟨vs,hvs⟩:∃vs,vs=I ss:=⟨_,rfl⟩
  have hvl:vs.length=ls.length:=by rw[hvs,zj,hss,zln]
  have gv:∀k,vs.getD k (.int .i64 0)=.int .i64 (ss.getD k 0):=fun k=>by rw[hvs,zR]
  obtain⟨m,hm⟩:∃m:Int,m=ls.length:=⟨_,rfl⟩
  generalize qu:same=jB
  generalize yv:jU=qA
  generalize zqK:zjh=zw5
  refine zD (T:=tab) (B:=[(75,jJ jB qA)]) (Bi:=[(76,0,false,zp7 zw5 qA)]) [0,1,4,5,6,7,12,13,14] Tryz.func40 rfl rfl (by kernel_rfl) (zg rfl) zP zQ (by subst qu yv zqK;exact(zm zpP zy)) (by subst qu yv zqK;exact(qg zDB zu)) (by kernel_rfl) ?_
  intro L lp rr hL hr hf hlp
  have Es:zw5 a0=vs:=by rw[←zqK,zjh,hls,zq,hvs,hss]
  have Ec:jB a0=a0:=by rw[←qu];rfl
  have Qa:qA a0:=by rw[←yv];exact hq
  conv=>cbv
  simp only[zp hL,sQ,g0,Ec,Es,hvl,←hm]
  refine⟨Qa,Qa,?_⟩
  refine hlp (Int) _ _ _ [0,1,5,12,13,14] (fun x=>[(0,none,.val (.slc false 2 (.int .i64 0) a0)),(1,none,.val (.int .i64 a1)),(5,none,.val (.slc true 2 (.int .i64 0) vs)),(12,none,.rf 5 0 []),(13,none,.val (.int .i64 m)),(14,none,.val (.int .i64 x))])
   (fun x=>0≤x∧x≤m∧∀t:Nat,t<x.toNat→ss.getD t 0=t) (fun x=>(m-x).toNat) (0) (by subst hL;rw[hm,←hvl];rfl) ?_ ?_
  ·exact⟨by simp,by omega,fun t ht=>by simp at ht⟩
  rintro i ⟨i0,i1,hI⟩ hfx ag hag
  conv=>cbv
  simp only[zp hL,sQ,hvl,gv,hal]
  refine⟨fun h2=>⟨i0,by omega,by omega,fun h3=>?_,fun h3=>?_⟩,fun h2=>?_⟩
  ·rw[hr,hf0]
   cases hb:zhD a1 ls with
   |false=>rfl
   |true=>
    exfalso
    have hp:=(zga.1 hb).2
    rw[hss,hp.srt,Kh _ _ (by omega)]at h3
    omega
  ·rw[zo (n:=i+1) (by omega) (by omega)]
   refine hag (i+1) ⟨by omega,by omega,fun t ht=>?_⟩ (by omega)
   by_cases hti:t=i.toNat
   ·rw[hti];omega
   ·exact hI t (by omega)
  ·have hp:KC ls:=zy7 fun t ht=>by rw[←hss];exact hI t (by omega)
   rw[hr,hf0]
   have:zhD a1 ls=((ls.length:Int)==a1):=by
    rw[Jh,zga,beq_iff_eq]
    exact⟨fun h=>h.1.symm,fun h=>⟨h.symm,hp⟩⟩
   rw[this]
 ·cases h
noncomputable def zkE(a b l:List V):List V×List V×Int:=bif yB a b then(bif zhD a.length (qb l)then((za2 a b l).1,(za2 a b l).2,0)else([],[],2))else([],[],1)
theorem ziL:yT Tryz.prog 12 (zqr zkE zAC):=by
 intro args ps r h hp
 unfold zqr at h
 split at h
 ·rename_i a0 a1 a2
  simp only[za,zb]at h
  obtain⟨rfl,rfl⟩:=h
  obtain⟨hq,⟨ls,hls⟩,hll⟩:zAC a0 a1 a2:=(zl.1 hp).1
  have g1:=uV hq.1.isBB
  have g2:=uU hq.2.isII
  have g3:V.frzs a2=a2:=by rw[hls,zG]
  have hal:a2.length=ls.length:=by rw[hls,zj]
  have e1:zqc a2 a0.length=zhD a0.length ls:=by rw[zqc,hls,zq]
  generalize zY:yB=ji
  generalize qf:uj=jR
  generalize zu1:zqc=zEi
  generalize ux:zdj=Qx
  generalize JS:za2=za4
  generalize JQ:zsf=zin
  refine zD (T:=tab) (B:=[(29,Jc ji jR),(40,zch zEi Qx),(33,zbx za4 zin)]) (Bi:=[]) [0,1,2,4,5] Tryz.func12 rfl rfl (by kernel_rfl) (zg rfl) zP zQ (by subst zY qf zu1 ux JS JQ;exact(zm uT (zm ziK (zm za9 zy)))) (by subst zY qf zu1 ux JS JQ;exact zu) (by kernel_rfl) ?_
  intro L lp rr hL hr hf hlp
  conv=>cbv
  simp only[zp hL,sQ,g1,g2,g3]
  subst zY qf zu1 ux JS JQ
  simp only[e1]
  refine⟨hq,fun h=>?_,fun h=>⟨⟨⟨ls,hls⟩,hll⟩,fun h2=>?_,fun h2=>⟨⟨KI hq h,ls,hls,(zga.1 h2).2,by have:=(zga.1 h2).1;omega⟩,?_⟩⟩⟩
  ·rw[hr,zkE,h];rfl
  ·rw[hr,zkE,h,hls,zq,h2];rfl
  ·have hx:zhD a0.length (qb a2)=true:=by rw[hls,zq];exact h2
   rw[hr,zkE,h,hx];rfl
 ·cases h
end Go.Ax
namespace Go.Ax
open Go.Proofs
def zuB(f:List V→List V→Bool)(q:List V→List V→Prop):zN:=fun
 |[.slc false 68 (.agg [.slc false 2 (.int .i64 0) []]) a0,.slc false 68 (.agg [.slc false 2 (.int .i64 0) []]) a1]=>some ([q a0 a1],.bool (f a0 a1))
 |_=>none
def zfw(a b:List V):Bool:=decide (ur a=ur b)
def zhW(a b:List V):Prop:=(∃l,a=BB false l∧l.length≤2147483647∧∀r∈l,r.length≤2147483647)∧∃l,b=BB false l
theorem ziI:yT Tryz.prog 38 (zuB zfw zhW):=by
 intro args ps r h hp
 unfold zuB at h
 split at h
 ·rename_i a0 a1
  simp only[za,zb]at h
  obtain⟨rfl,rfl⟩:=h
  obtain⟨⟨xs,hxs,hl,hrl⟩,⟨ys,hys⟩⟩:zhW a0 a1:=(zl.1 hp).1
  obtain⟨n,hn⟩:∃n:Int,n=a0.length:=⟨_,rfl⟩
  obtain⟨m,hm⟩:∃m:Int,m=a1.length:=⟨_,rfl⟩
  have hxl:a0.length=xs.length:=by rw[hxs,yK]
  have hyl:a1.length=ys.length:=by rw[hys,yK]
  have gx:∀k,a0.getD k (.agg [.slc false 2 (.int .i64 0) []])=.agg [.slc false 2 (.int .i64 0) (I (xs.getD k []))]:=fun k=>by rw[hxs,uo]
  have gy:∀k,a1.getD k (.agg [.slc false 2 (.int .i64 0) []])=.agg [.slc false 2 (.int .i64 0) (I (ys.getD k []))]:=fun k=>by rw[hys,uo]
  have hf0:zfw a0 a1=decide (xs=ys):=by rw[zfw,hxs,hys,zW,zW]
  generalize Qu:zcM=zaG
  generalize Qj:zka=zaD
  refine zD (T:=tab) (B:=[(8,Yj zaG zaD)]) (Bi:=[]) [0,1,4,5] Tryz.func38 rfl rfl (by kernel_rfl) (zg rfl) zP zQ (by subst Qu Qj;exact(zm zcB zy)) (by subst Qu Qj;exact zu) (by kernel_rfl) ?_
  intro L lp rr hL hr hf hlp
  conv=>cbv
  simp only[zp hL,sQ,←hn,←hm]
  refine⟨fun h=>?_,fun h=>?_⟩
  ·rw[hr,hf0,decide_eq_false (fun e=>h (by rw[hn,hm,hxl,hyl,e]))]
  have hlen:xs.length=ys.length:=by omega
  refine hlp (Int) _ _ _ [0,1,5] (fun x=>[(0,none,.val (.slc false 68 (.agg [.slc false 2 (.int .i64 0) []]) a0)),(1,none,.val (.slc false 68 (.agg [.slc false 2 (.int .i64 0) []]) a1)),(5,none,.val (.int .i64 x))])
   (fun x=>0≤x∧x≤n∧xs.take x.toNat=ys.take x.toNat) (fun x=>(n-x).toNat) (0) (by subst hL;rfl) ?_ ?_
  ·exact⟨by simp,by omega,rfl⟩
  rintro i ⟨i0,i1,hI⟩ hfx ag hag
  have Ef:∀u v:List Int,zaG (I u) (I v)=decide (u=v):=fun u v=>by rw[←Qu,zcM,zq,zq]
  conv=>cbv
  simp only[zp hL,sQ,←hn,←hm,gx,gy,uk,ut,uv,Ef]
  refine⟨fun h2=>?_,fun h2=>?_⟩
  ·have h4:i.toNat<xs.length:=by omega
   have h5:i.toNat<ys.length:=by omega
   have Ql:zaD (I (xs.getD i.toNat [])) (I (ys.getD i.toNat [])):=by
    rw[←Qj]
    refine⟨⟨_,rfl⟩,⟨_,rfl⟩,?_⟩
    rw[zj,zd,ze h4]
    exact hrl _ (List.getElem_mem h4)
   refine⟨i0,h2,i0,by omega,Ql,fun h3=>?_,fun h3=>?_⟩
   ·rw[hr,hf0,decide_eq_false (fun e=>h3 (by rw[e]))]
   ·rw[zo (n:=i+1) (by omega) (by omega)]
    refine hag (i+1) ⟨by omega,by omega,?_⟩ (by omega)
    rw[zd,ze h4,zd,ze h5]at h3
    rw[show(i+1).toNat=i.toNat+1 by omega,zF h4,zF h5,hI]
    exact congrArg (fun z=>List.take i.toNat ys++[z]) h3
  ·have h4:xs=ys:=by rwa [zB (by omega),zB (by omega)]at hI
   rw[hr,hf0,decide_eq_true h4]
 ·cases h
def zkV(f:List V→List V→List V→List V→Bool)(q:List V→List V→List V→List V→Prop):zN:=fun
 |[.agg [.slc false 68 (.agg [.slc false 2 (.int .i64 0) []]) a0,.slc false 30 (.slc false 2 (.int .i64 0) []) a1],.agg [.slc false 68 (.agg [.slc false 2 (.int .i64 0) []]) a2,.slc false 30 (.slc false 2 (.int .i64 0) []) a3]]=>some ([q a0 a1 a2 a3],.bool (f a0 a1 a2 a3))
 |_=>none
def zlE(a b c d:List V):Bool:=zfw a c&&JJ b d
def zpU(a b c d:List V):Prop:=zhW a c∧zb8 b d
theorem zl6:yT Tryz.prog 11 (zkV zlE zpU):=by
 intro args ps r h hp
 unfold zkV at h
 split at h
 ·rename_i a0 a1 a2 a3
  simp only[za,zb]at h
  obtain⟨rfl,rfl⟩:=h
  obtain⟨hq1,hq2⟩:zpU a0 a1 a2 a3:=(zl.1 hp).1
  have g0:V.frzs a0=a0:=by obtain⟨l,h,_⟩:=hq1.1;rw[h,yL]
  have g1:V.frzs a1=a1:=by obtain⟨l,h,_⟩:=hq2.1;rw[h,yF]
  have g2:V.frzs a2=a2:=by obtain⟨l,h⟩:=hq1.2;rw[h,yL]
  have g3:V.frzs a3=a3:=by obtain⟨l,h⟩:=hq2.2;rw[h,yF]
  generalize zle:zfw=zz4
  generalize zla:zhW=zzY
  generalize zaC:JJ=zhp
  generalize zaA:zb8=zlh
  refine zD (T:=tab) (B:=[(38,zuB zz4 zzY),(39,zci zhp zlh)]) (Bi:=[]) [0,1,2,3,4] Tryz.func11 rfl rfl (by kernel_rfl) (zg rfl) zP zQ (by subst zle zla zaC zaA;exact(zm ziI (zm zmX zy))) (by subst zle zla zaC zaA;exact zu) (by kernel_rfl) ?_
  intro L lp rr hL hr hf hlp
  conv=>cbv
  subst zle zla zaC zaA
  simp only[zp hL,sQ,g0,g1,g2,g3]
  refine⟨hq1,fun _=>hq2,?_⟩
  rw[hr,zlE]
 ·cases h
end Go.Ax
namespace Go.Ax
open Go.Proofs
theorem zen(bs ms:List (List Int)):JM bs ms bs.length (lcR bs ms):=zkn
structure EqF (bs ms ds ns:List (List Int)) (p:List Int) (one:Int):Prop where
 code:one=0∨one=4
 same:one=0↔lcR bs ms=lcR ds ns
 pm:one=0→KC p∧p.length=bs.length∧partB bs (qj p)=ds∧partM ms (qj p)=ns
theorem zrY{bs ms ds ns:List (List Int)}(h1:Yx bs ms=true)(h2:Yx ds ns=true):
 ∃p one,zbM (BB false bs) (II false ms) (BB false ds) (II false ns)=(I p,one)∧p.length≤6∧EqF bs ms ds ns p one:=by
 have c1:=Zm.1 h1
 have c2:=Zm.1 h2
 have e1:yB (BB false bs) (II false ms)=true:=by rw[yB,zW,zO,h1]
 have e2:yB (BB false ds) (II false ns)=true:=by rw[yB,zW,zO,h2]
 by_cases hl:bs.length=ds.length
 ·have e3:Kl (BB false bs) (II false ms) (BB false ds) (II false ns)=kh (ZQ bs ms ds ns) bs.length bs.length []:=by rw[Kl,yK,zW,zO,zW,zO]
  have m1:=zx8 (bs:=bs) (ms:=ms) (ds:=ds) (ns:=ns) rfl hl.symm c1.tab (by rw[hl];exact c2.tab) c1.n1 (zen bs ms) (by rw[hl];exact zen ds ns)
  have m2:=zzf (bs:=bs) (ms:=ms) (ds:=ds) (ns:=ns) rfl hl.symm c1.tab (by rw[hl];exact c2.tab) c1.n1
  rw[zhb e1 e2 (by rw[yK,yK,hl]),e3]
  obtain⟨q,hq⟩:∃q,q=kh (ZQ bs ms ds ns) bs.length bs.length []:=⟨_,rfl⟩
  rw[←hq]at m1 m2 ⊢
  cases q with
  |nil=>
   refine⟨[],4,rfl,by simp,.inr rfl,⟨fun h=>(by cases h),fun h=>?_⟩,fun h=>(by cases h)⟩
   exact absurd rfl (m1.2 h)
  |cons x l=>
   obtain⟨k1,k2,k3⟩:=m2 (by simp)
   obtain⟨k4,k5⟩:=ul k1
   refine⟨x::l,0,rfl,by rw[k5];exact c1.n6,.inl rfl,⟨fun _=>m1.1 (by simp),fun _=>rfl⟩,fun _=>⟨k4,k5,k2,k3⟩⟩
 ·rw[zkL e1 e2 (by rw[yK,yK];exact hl)]
  refine⟨[],4,rfl,by simp,.inr rfl,⟨fun h=>(by cases h),fun h=>?_⟩,fun h=>by cases h⟩
  have l1:=(zen bs ms).len
  have l2:=(zen ds ns).len
  rw[h]at l1
  exact absurd (l1.symm.trans l2) hl
theorem zzM{bs ms ds ns:List (List Int)}(h:¬(Yx bs ms=true∧Yx ds ns=true)):zbM (BB false bs) (II false ms) (BB false ds) (II false ns)=([],1):=by
 refine zkM ?_
 rw[yB,yB,zW,zO,zW,zO]
 cases h1:Yx bs ms with
 |false=>exact .inl rfl
 |true=>
  cases h2:Yx ds ns with
  |false=>exact .inr rfl
  |true=>exact absurd ⟨h1,h2⟩ h
def Sm(l:List (List Int)):Prop:=l.length≤6∧∀x∈l,x.length≤3000
theorem Sm.get{l:List (List Int)}(h:Sm l)(i:Nat):(l.getD i []).length≤3000:=by
 rw[zd]
 cases hi:l[i]? with
 |none=>simp
 |some x=>exact h.2 x (List.mem_of_getElem? hi)
theorem Sm.partB{bs:List (List Int)}(h:Sm bs){l:List Int}(hl:l.length≤6):Sm (partB bs l):=by
 refine⟨by rw[kB];exact hl,fun x hx=>?_⟩
 obtain⟨i,_,rfl⟩:=List.mem_map.1 hx
 exact h.get _
theorem Sm.partM{ms:List (List Int)}{l:List Int}(hl:l.length≤6):Sm (partM ms l):=by
 refine⟨by rw[ub];exact hl,fun x hx=>?_⟩
 rw[ZE hx];omega
theorem Sm.likes{l l':List (List Int)}(h:Sm l):zb8 (II false l) (II false l'):=⟨⟨l,rfl,by have:=h.1;omega,fun x hx=>by have:=h.2 x hx;omega⟩,⟨l',rfl⟩⟩
theorem Sm.likeB{l l':List (List Int)}(h:Sm l):zhW (BB false l) (BB false l'):=⟨⟨l,rfl,by have:=h.1;omega,fun x hx=>by have:=h.2 x hx;omega⟩,⟨l',rfl⟩⟩
theorem Sm.qC{l m:List (List Int)}(h:Sm l)(h':Sm m):uj (BB false l) (II false m):=
 ⟨⟨l,rfl,by have:=h.1;omega,fun x hx=>by have:=h.2 x hx;omega⟩,⟨m,rfl,by have:=h'.1;omega,fun x hx=>by have:=h'.2 x hx;omega⟩⟩
theorem CvD.sm{es:List V}{z:CvS}(h:CvD es z):Sm z.1∧Sm z.2.1:=⟨⟨h.n6,h.row⟩,⟨h.m6,fun x hx=>by have:=h.mrow x hx;omega⟩⟩
theorem znY.sm{A B:List V}(h:znY A B):Sm (ur A)∧Sm (kw B):=by
 obtain⟨bs,ms,e1,e2,h1,h6,hm,hb,hr⟩:=h
 rw[e1,e2,zW,zO]
 refine⟨⟨h6,fun x hx=>?_⟩,⟨by omega,fun x hx=>?_⟩⟩
 ·obtain⟨i,hi,rfl⟩:=qk.1 hx
  have:=hb i hi
  rwa [zd,ze hi]at this
 ·obtain⟨i,hi,rfl⟩:=qk.1 hx
  have:=hr i (by omega)
  rw[zd,ze hi]at this
  simp only[Option.getD_some]at this
  omega
theorem Sm.setM{ms:List (List Int)}(h:Sm ms)(i k x:Int):Sm (setM ms i k x):=by
 refine⟨by rw[Go.Ax.setM,List.length_set];exact h.1,fun y hy=>?_⟩
 rw[Go.Ax.setM]at hy
 rcases List.mem_or_eq_of_mem_set hy with hy|rfl
 ·exact h.2 y hy
 ·rw[List.length_set];exact h.get _
theorem zD1{es:List V}(hq:IsU es):(Sm (ceF es).1.1∧Sm (ceF es).1.2.1)∧Sm (ceF es).2.1∧Sm (ceF es).2.2:=by
 have h:=zo9 hq
 have h1:=h.sm
 have hs:=h.src
 unfold ceF
 simp only
 split
 ·have hp:=(zoA (es:=es) (Jt es).1.length (x:=([],(qa es (Jt es).2.2 5).1,(qa es (Jt es).2.2 5).2)) (show yi es (qa es (Jt es).2.2 5).1 (qa es (Jt es).2.2 5).2 from jv hs) rfl).2
  have hl:(odN es (Jt es).1.length ([],(qa es (Jt es).2.2 5).1,(qa es (Jt es).2.2 5).2)).1.length≤6:=by rw[hp.length_eq,qd];exact h.n6
  split
  ·exact⟨h1,h1.1.partB hl,((Sm.partM hl).setM _ _ _).setM _ _ _⟩
  ·exact⟨h1,h1.1.partB hl,Sm.partM hl⟩
 ·refine⟨h1,?_⟩
  split
  ·exact(zgg (jv (n:=5) hs)).1.sm
  ·exact(zgg hs).1.sm
theorem ztG{bs ms:List (List Int)}(h:Yx bs ms=true)(hs:Sm bs):zhG (BB false bs) (II false ms)=(BB true (lcR bs ms).1,II true (lcR bs ms).2,0)∧Sm (lcR bs ms).1∧Sm (lcR bs ms).2:=by
 have c1:=Zm.1 h
 refine⟨by rw[zhG,yB,Km,zW,zO,h];rfl,?_⟩
 obtain⟨⟨q,hq,e⟩,_⟩:=zen bs ms
 have hl:q.length≤6:=by rw[hq.length_eq,qd];exact c1.n6
 rw[e]
 exact⟨hs.partB hl,Sm.partM hl⟩
theorem zAy{bs ms ds ns:List (List Int)}{p:List Int}(h:Yx bs ms=true)(hp:KC p)(hl:p.length=bs.length)(e1:partB bs (qj p)=ds)(e2:partM ms (qj p)=ns):
 zkE (BB false bs) (II false ms) (I p)=(BB true ds,II true ns,0):=by
 have:zhD ((BB false bs).length:Nat) p=true:=zga.2 ⟨by rw[yK,hl],hp⟩
 rw[zkE,yB,zW,zO,h,zq,this,za2,Yh,zW,zO,zq,zq,e1,e2]
 rfl
end Go.Ax
namespace Go.Ax
def zgi:Nat→Code→Code×Code
 |0,c=>(.skip,c)
 |n+1,.seq a b=>(.seq a (zgi n b).1,(zgi n b).2)
 |_+1,c=>(.skip,c)
theorem zvw(f g:yd→Prop)(Q:ZY):zbE f (zbE g Q)=zbE f Q:=by
 funext e S
 cases e<;>rfl
theorem zvW(L:Alg)(T:kc)(lp:Je)(B:jW)(Bi:qT)(nt:Nat)(ks:List Nat)(Q:ZY):∀(n:Nat) (c:Code) (S:yd),Zj L T lp B Bi nt ks c Q S=Zj L T lp B Bi nt ks (zgi n c).1 (zbE (Zj L T lp B Bi nt ks (zgi n c).2 Q) Q) S
 |0,c,S=>rfl
 |n+1,c,S=>by
  cases c with
  |seq a b=>
   show Zj L T lp B Bi nt ks a (zbE (Zj L T lp B Bi nt ks b Q) Q) S=Zj L T lp B Bi nt ks a (zbE (Zj L T lp B Bi nt ks (zgi n b).1 (zbE (Zj L T lp B Bi nt ks (zgi n b).2 Q) Q)) (zbE (Zj L T lp B Bi nt ks (zgi n b).2 Q) Q)) S
   rw[zvw,show Zj L T lp B Bi nt ks b Q=Zj L T lp B Bi nt ks (zgi n b).1 (zbE (Zj L T lp B Bi nt ks (zgi n b).2 Q) Q)from funext fun S=>zvW L T lp B Bi nt ks Q n b S]
  |_=>rfl
theorem zn0(L:Alg)(T:kc)(lp:Je)(B:jW)(Bi:qT)(nt:Nat)(ks:List Nat)(Q:ZY)(n:Nat)(c:Code)(S:yd)
 (h:∀K:yd→Prop,K=Zj L T lp B Bi nt ks (zgi n c).2 Q→Zj L T lp B Bi nt ks (zgi n c).1 (zbE K Q) S):Zj L T lp B Bi nt ks c Q S:=by
 rw[zvW L T lp B Bi nt ks Q n c S]
 exact h _ rfl
end Go.Ax
namespace Go.Ax
open Go.Proofs
theorem W_W(x:Int):W (W x)=W x:=by simp only[W,IntKind.wrap_i64];omega
theorem zD7(x y z:Int):W (W (x-y)-z)=W (x-W (y+z)):=by simp only[W,IntKind.wrap_i64];omega
theorem ziJ:yT Tryz.prog 3 (zpd zEO zxU):=by
 intro args ps r h hp
 unfold zpd at h
 split at h
 ·rename_i a0
  simp only[za,zb]at h
  obtain⟨rfl,rfl⟩:=h
  have hq:zxU a0:=(zl.1 hp).1
  have hfr:V.frzs a0=a0:=by
   obtain⟨xs,hxs,_⟩:=hq
   rw[hxs,zwU]
  obtain⟨⟨⟨bs,ms,σ⟩,ds,ns⟩,hce⟩:∃z,z=ceF a0:=⟨_,rfl⟩
  obtain⟨vb,hvb⟩:∃vb,vb=BB false bs:=⟨_,rfl⟩
  obtain⟨vm,hvm⟩:∃vm,vm=II false ms:=⟨_,rfl⟩
  obtain⟨vd,hvd⟩:∃vd,vd=BB false ds:=⟨_,rfl⟩
  obtain⟨vn,hvn⟩:∃vn,vn=II false ns:=⟨_,rfl⟩
  have hdce:zo2 a0=(vb,vm,vd,vn):=by rw[zo2,←hce,hvb,hvm,hvd,hvn]
  obtain⟨⟨vp,one⟩,hco⟩:∃z,z=zbM vb vm vd vn:=⟨_,rfl⟩
  obtain⟨⟨xb,xm,xc⟩,hlx⟩:∃z,z=zhG vb vm:=⟨_,rfl⟩
  obtain⟨⟨yb,ym,yc⟩,hly⟩:∃z,z=zhG vd vn:=⟨_,rfl⟩
  obtain⟨⟨tb,tm,tc⟩,hrc⟩:∃z,z=zkE vb vm vp:=⟨_,rfl⟩
  have fvb:V.frzs vb=vb:=by rw[hvb,yL]
  have fvm:V.frzs vm=vm:=by rw[hvm,yF]
  have fvd:V.frzs vd=vd:=by rw[hvd,yL]
  have fvn:V.frzs vn=vn:=by rw[hvn,yF]
  obtain⟨p,hvp,hp6⟩:∃p,vp=I p∧p.length≤6:=by
   by_cases h:Yx bs ms=true∧Yx ds ns=true
   ·obtain⟨p,o,e,h6,_⟩:=zrY h.1 h.2
    rw[hvb,hvm,hvd,hvn,e]at hco
    exact⟨p,congrArg Prod.fst hco,h6⟩
   ·rw[hvb,hvm,hvd,hvn,zzM h]at hco
    exact⟨[],congrArg Prod.fst hco,by simp⟩
  have fvp:V.frzs vp=vp:=by rw[hvp,zG]
  have hyes:(one=0∨one=4)→Yx bs ms=true∧Yx ds ns=true∧EqF bs ms ds ns p one:=by
   intro h0
   by_cases h:Yx bs ms=true∧Yx ds ns=true
   ·obtain⟨p',o,e,h6,hF⟩:=zrY h.1 h.2
    rw[hvb,hvm,hvd,hvn,e]at hco
    have e1:vp=I p':=congrArg Prod.fst hco
    have e2:one=o:=congrArg Prod.snd hco
    have e3:p=p':=by
     have:=congrArg qb (hvp.symm.trans e1)
     rwa [zq,zq]at this
    rw[e2,e3]
    exact⟨h.1,h.2,hF⟩
   ·rw[hvb,hvm,hvd,hvn,zzM h]at hco
    have e2:one=1:=congrArg Prod.snd hco
    omega
  obtain⟨⟨wb,wm⟩,hdpn⟩:∃z,z=zst a0:=⟨_,rfl⟩
  have hw:wb=BB false (Jt a0).1∧wm=II false (Jt a0).2.1:=by
   rw[zst]at hdpn
   exact⟨congrArg Prod.fst hdpn,congrArg Prod.snd hdpn⟩
  have fwb:V.frzs wb=wb:=by rw[hw.1,yL]
  have fwm:V.frzs wm=wm:=by rw[hw.2,yF]
  obtain⟨⟨pn,pc⟩,hpn⟩:∃z,z=zji wb wm:=⟨_,rfl⟩
  obtain⟨⟨mu,muc⟩,hem⟩:∃z,z=zqd wb wm:=⟨_,rfl⟩
  obtain⟨⟨mm0,mc⟩,hcm⟩:∃z,z=zeN wb wm:=⟨_,rfl⟩
  have hpol:pc=0→muc=0∧mc=0∧pn=W (W (mu+mm0)-1):=by
   intro h
   rw[zji]at hpn
   rw[zqd]at hem
   rw[zeN]at hcm
   cases hc:yB wb wm with
   |false=>
    rw[hc]at hpn
    have:pc=1:=congrArg Prod.snd hpn
    omega
   |true=>
    rw[hc]at hpn hem hcm
    have e1:pn=W (W (zfk wb wm+zan wb wm)-1):=congrArg Prod.fst hpn
    have e2:mu=zfk wb wm:=congrArg Prod.fst hem
    have e3:mm0=zan wb wm:=congrArg Prod.fst hcm
    exact⟨congrArg Prod.snd hem,congrArg Prod.snd hcm,by rw[e1,e2,e3]⟩
  have hpol2:pc=0→((¬muc=0∨¬mc=0)∨¬pn=IntKind.wrap .i64 (IntKind.wrap .i64 (mu+mm0)-1))→False:=by
   intro h5 h6
   obtain⟨p1,p2,p3⟩:=hpol h5
   rcases h6 with(h6|h6)|h6
   ·exact h6 p1
   ·exact h6 p2
   ·exact h6 p3
  obtain⟨ti,hti⟩:∃z,z=(atF a0).1:=⟨_,rfl⟩
  have hdti:zss a0=(wb,wm,ti):=by rw[zss,hw.1,hw.2,hti]
  obtain⟨⟨tt,tz⟩,htt⟩:∃z,z=za1 wb wm ti:=⟨_,rfl⟩
  obtain⟨T,M,T0,TS,TW,htot⟩:∃T M:Nat→Int,T 0=0∧(∀k,T (k+1)=if k=ti.toNat then T k else W (T k+M k))∧(∀k,W (T k)=T k)∧
   (tz=0→tt=T wb.length∧0≤ti∧∀k:Nat,k<wb.length→(k:Int)≠ti→zkG wb wm ti k=(M k,0)):=by
   refine⟨zdb (ur wb) (kw wm) ti.toNat,fun k=>zbJ (ur wb) (kw wm) ti.toNat k,rfl,fun k=>rfl,fun k=>?_,fun h=>?_⟩
   ·induction k with
    |zero=>rfl
    |succ k ih=>
     rw[zdb]
     split
     ·exact ih
     ·exact W_W _
   rw[za1]at htt
   cases hc:yB wb wm with
   |false=>
    rw[hc]at htt
    have:tz=1:=congrArg Prod.snd htt
    omega
   |true=>
    rw[hc]at htt
    cases ho:JG wb.length ti with
    |false=>
     rw[ho]at htt
     have:tz=2:=congrArg Prod.snd htt
     omega
    |true=>
     rw[ho]at htt
     refine⟨congrArg Prod.fst htt,(zdt.1 ho).1,fun k hk hne=>?_⟩
     have hk2:JG wb.length (k:Int)=true:=zdt.2 ⟨by omega,by omega⟩
     rw[zkG,hc,ho,hk2,show(ti==(k:Int))=false by rw[beq_eq_false_iff_ne];exact fun e=>hne e.symm,zjk]
     rfl
  obtain⟨r,hr0⟩:∃r:Int,r=wb.length:=⟨_,rfl⟩
  generalize zra:zlM=zxk
  generalize zqH:zBU=zw3
  generalize zqY:zo2=zxe
  generalize YL:IsU=zbQ
  generalize zq6:zbM=zrj
  generalize zuW:zs8=zvi
  generalize Qu:zcM=zaG
  generalize Qj:zka=zaD
  generalize zpt:zhG=zpv
  generalize qf:uj=jR
  generalize zld:zlE=zaF
  generalize zk9:zpU=zeA
  generalize zuY:zkE=zz2
  generalize zuU:zAC=zz0
  generalize zqW:zst=zxc
  generalize zu0:zji=zvm
  generalize zu4:zqd=zz6
  generalize zgH:zeN=zlj
  generalize zqV:zss=zxb
  generalize zqJ:za1=zrf
  generalize zuV:zAD=zvh
  generalize zu3:zkG=zz5
  generalize zqI:zBV=zw4
  refine zD (T:=tab) (B:=[(4,zpd zxk zw3),(5,zur zxe zbQ),(6,zfB zrj zvi),(7,zfB zrj zvi),(8,Yj zaG zaD),(9,zfA zpv jR),(10,zfA zpv jR),(11,zkV zaF zeA),(12,zqr zz2 zz0),(13,zyt zxc zbQ),(14,YW zvm jR),(15,YW zvm jR),(16,YW zz6 jR),(17,YW zlj jR),(18,zuq zxb zbQ),(19,zfz zrf zvh),(20,zfz zrf zvh),(21,znw zz5 zw4)]) (Bi:=[]) [0,2,3,4,5,6,7,8,9,10,11,12,13,14,15,16,17,18,19,20,21,22,23,24,25,26,27,28,29,30,31,32,33,34] Tryz.func3 rfl rfl (by kernel_rfl) (zg rfl) zP zQ (by subst zra zqH zqY YL zq6 zuW Qu Qj zpt qf zld zk9 zuY zuU zqW zu0 zu4 zgH zqV zqJ zuV zu3 zqI;exact(zm zxB (zm zfO (zm ziM (zm ziG (zm zcB (zm zma (zm zl5 (zm zl6 (zm ziL (zm zhu (zm zj2 (zm zj0 (zm zj3 (zm zfT (zm zdg (zm zfS (zm zfN (zm ze9 zy))))))))))))))))))) (by subst zra zqH zqY YL zq6 zuW Qu Qj zpt qf zld zk9 zuY zuU zqW zu0 zu4 zgH zqV zqJ zuV zu3 zqI;exact zu) (by kernel_rfl) ?_
  intro L lp rr hL hr hf hlp
  have E6:zxc a0=(wb,wm):=by rw[←zqW,hdpn]
  have E7:zvm wb wm=(pn,pc):=by rw[←zu0,hpn]
  have E0:zxk a0=zlM a0:=by rw[←zra]
  have E1:zxe a0=(vb,vm,vd,vn):=by rw[←zqY,hdce]
  have E2:zrj vb vm vd vn=(vp,one):=by rw[←zq6,hco]
  have E3:zpv vb vm=(xb,xm,xc):=by rw[←zpt,hlx]
  have E4:zpv vd vn=(yb,ym,yc):=by rw[←zpt,hly]
  have E5:zz2 vb vm vp=(tb,tm,tc):=by rw[←zuY,hrc]
  have Qi:zw3 a0:=by rw[←zqH];trivial
  have yes:rr=.bool true:=hr
  refine zn0 L tab lp _ _ _ _ _ 12 _ _ fun K1 hK1=>?_
  conv=>cbv
  have Elp:zaG vp vp=true:=by rw[←Qu,zcM];simp
  simp only[zp hL,sQ,hfr,E0,E1,E2,E3,E4,E5,E6,E7,fvb,fvm,fvd,fvn,fvp,fwb,fwm,Elp,not_true,false_or,zaJ,true_imp_iff,false_imp_iff]
  refine⟨Qi,fun _=>yes.symm,fun h1=>?_⟩
  have hu:=zD2 hq h1
  obtain⟨⟨m1,m2⟩,m3,m4⟩:=zD1 hu
  rw[←hce]at m1 m2 m3 m4
  simp only at m1 m2 m3 m4
  have qC1:uj vb vm:=by rw[hvb,hvm];exact m1.qC m2
  have qC2:uj vd vn:=by rw[hvd,hvn];exact m3.qC m4
  have QU:zbQ a0:=by rw[←YL];exact hu
  have QCC:zvi vb vm vd vn:=by rw[←zuW];exact⟨qC1,qC2⟩
  have Ql:zaD vp vp:=by rw[←Qj];exact⟨⟨p,hvp⟩,⟨p,hvp⟩,by rw[hvp,zj];omega⟩
  have QC1:jR vb vm:=by rw[←qf];exact qC1
  have QC2:jR vd vn:=by rw[←qf];exact qC2
  have Qr:zz0 vb vm vp:=by rw[←zuU];exact⟨qC1,⟨p,hvp⟩,by rw[hvp,zj];omega⟩
  refine⟨QU,QCC,QCC,Ql,?_⟩
  have lk:∀A B C D:List (List Int),zaF (BB false A) (II false B) (BB false C) (II false D)=(decide (A=C)&&decide (B=D)):=fun A B C D=>by rw[←zld,zlE,zfw,JJ,zW,zW,zO,zO]
  have Qk:∀A B C D:List (List Int),Sm A→Sm B→zeA (BB false A) (II false B) (BB false C) (II false D):=by
   rw[←zk9]
   exact fun A B C D h h'=>⟨h.likeB,h'.likes⟩
  have hpm:=(zo9 hu).sm
  have qCw:uj wb wm:=by rw[hw.1,hw.2];exact hpm.1.qC hpm.2
  have QCw:jR wb wm:=by rw[←qf];exact qCw
  refine⟨fun h0=>?kA,fun h0=>⟨fun h=>absurd h h0.1,fun _=>⟨QU,QCw,QCw,?k1⟩⟩⟩
  case' kA=>
   obtain⟨hc1,hc2,hF⟩:=hyes h0
   obtain⟨l1,R1,R2⟩:=ztG hc1 m1
   obtain⟨l2,S1,S2⟩:=ztG hc2 m3
   rw[hvb,hvm,l1]at hlx
   rw[hvd,hvn,l2]at hly
   obtain⟨R,hR⟩:∃R,R=lcR bs ms:=⟨_,rfl⟩
   obtain⟨S,hS⟩:∃S,S=lcR ds ns:=⟨_,rfl⟩
   rw[←hR]at hlx R1 R2
   rw[←hS]at hly S1 S2
   have ex1:xb=BB true R.1:=congrArg Prod.fst hlx
   have ex2:xm=II true R.2:=congrArg (fun z=>z.2.1) hlx
   have ex3:xc=0:=congrArg (fun z=>z.2.2) hlx
   have ey1:yb=BB true S.1:=congrArg Prod.fst hly
   have ey2:ym=II true S.2:=congrArg (fun z=>z.2.1) hly
   have ey3:yc=0:=congrArg (fun z=>z.2.2) hly
   have hsm:one=0↔R=S:=by rw[hR,hS];exact hF.same
   have kxx:zaF (BB false R.1) (II false R.2) (BB false R.1) (II false R.2)=true:=by rw[lk];simp
   have kxy:zaF (BB false R.1) (II false R.2) (BB false S.1) (II false S.2)=decide (one=0):=by
    rw[lk,Jh]
    simp only[Bool.and_eq_true,decide_eq_true_eq,hsm]
    exact⟨fun h=>Prod.ext h.1 h.2,fun h=>by rw[h];exact⟨rfl,rfl⟩⟩
   have kxx':zaF (V.frzs xb) (V.frzs xm) (V.frzs xb) (V.frzs xm)=true:=by rw[ex1,ex2,yL,yF];exact kxx
   have kxy':zaF (V.frzs xb) (V.frzs xm) (V.frzs yb) (V.frzs ym)=decide (one=0):=by rw[ex1,ex2,ey1,ey2,yL,yF,yL,yF];exact kxy
   have qxx:zeA (V.frzs xb) (V.frzs xm) (V.frzs xb) (V.frzs xm):=by rw[ex1,ex2,yL,yF];exact Qk _ _ _ _ R1 R2
   have qxy:zeA (V.frzs xb) (V.frzs xm) (V.frzs yb) (V.frzs ym):=by rw[ex1,ex2,ey1,ey2,yL,yF,yL,yF];exact Qk _ _ _ _ R1 R2
   have hde:decide (one=0)=(one==0):=by rw[Jh];simp
   simp only[ex3,ey3,kxx',kxy',hde,true_and,and_true,true_imp_iff,not_true,false_or,or_false,zaJ,false_imp_iff]
   refine⟨QC1,QC2,QC1,qxx,qxy,fun h=>⟨Qr,?_⟩,fun h=>⟨QU,QCw,QCw,?k2⟩⟩
   obtain⟨t1,t2,t3,t4⟩:=hF.pm h
   rw[hvb,hvm,hvp,zAy hc1 t1 t2 t3 t4]at hrc
   have et1:tb=BB true ds:=congrArg Prod.fst hrc
   have et2:tm=II true ns:=congrArg (fun z=>z.2.1) hrc
   have et3:tc=0:=congrArg (fun z=>z.2.2) hrc
   have ktt:zaF (V.frzs tb) (V.frzs tm) vd vn=true:=by rw[et1,et2,hvd,hvn,yL,yF,lk];simp
   have qtt:zeA (V.frzs tb) (V.frzs tm) vd vn:=by rw[et1,et2,hvd,hvn,yL,yF];exact Qk _ _ _ _ m3 m4
   simp only[et3,ktt,true_and,and_true,true_imp_iff,not_true,false_or,or_false,zaJ,false_imp_iff]
   refine⟨by rw[et1];exact zaL _,by rw[et2];exact Kt _,qtt,QU,QCw,QCw,?k3⟩
  all_goals
   clear hlx hly hrc hco E2 E3 E4 E5
   rw[hK1]
   clear hK1
   refine zn0 L tab lp _ _ _ _ _ 3 _ _ fun K2 hK2=>?_
   have E8:zz6 wb wm=(mu,muc):=by rw[←zu4,hem]
   have E9:zlj wb wm=(mm0,mc):=by rw[←zgH,hcm]
   have E10:zxb a0=(wb,wm,ti):=by rw[←zqV,hdti]
   have E11:zrf wb wm ti=(tt,tz):=by rw[←zqJ,htt]
   have E12:∀k,zz5 wb wm ti k=zkG wb wm ti k:=fun k=>by rw[←zu3]
   have QCi:zvh wb wm ti:=by rw[←zuV];exact qCw
   have QIn:∀k,zw4 wb wm ti k:=by rw[←zqI];exact fun _=>qCw
   conv=>cbv
   simp only[zp hL,sQ,E8,E9,E10,fwb,fwm,hfr,true_imp_iff,not_true,false_or,or_false,false_imp_iff]
   refine⟨fun h5=>⟨QCw,QCw,fun h6=>(hpol2 h5 h6).elim,fun h6=>⟨QU,QCi,?_⟩⟩,fun h5=>⟨QU,QCi,?_⟩⟩
  all_goals
   rw[hK2]
   clear hK2
   conv=>cbv
   simp only[zp hL,sQ,E10,E11,fwb,fwm,hfr,true_imp_iff,not_true,false_or,or_false,false_imp_iff]
   refine⟨QCi,?_⟩
   refine hlp (Int×Int) _ _ _ [26,27,28,29,32] (fun x=>[(26,none,.val (.box 27 (.agg [.slc false 68 (.agg [.slc false 2 (.int .i64 0) []]) wb,.slc false 30 (.slc false 2 (.int .i64 0) []) wm]))),(27,none,.val (.int .i64 ti)),(28,none,.val (.int .i64 x.1)),(29,none,.val (.int .i64 tz)),(32,none,.val (.int .i64 x.2))])
    (fun x=>0≤x.2∧x.2≤r∧(tz=0→x.1=W (tt-T x.2.toNat))) (fun x=>(r-x.2).toNat) ((tt,0)) (by subst hL;rfl) ?_ ?_
   ·refine⟨by simp,by simp only;omega,fun h4=>?_⟩
    simp only[show(0:Int).toNat=0 from rfl,T0]
    rw[(htot h4).1,Int.sub_zero,TW]
   rintro⟨tot,k⟩ ⟨k0,k1,hI⟩ hfx ag hag
   simp only at k0 k1 hI
   have wk:k<r→IntKind.wrap .i64 (k+1)=k+1:=fun h=>by
    obtain⟨l,hl,h6,_⟩:=qCw.1
    have:wb.length≤2147483647:=by rw[hl,yK];exact h6
    exact zo (by omega) (by omega)
   have kk:((k.toNat:Nat):Int)=k:=by omega
   have hst:=TS k.toNat
   conv=>cbv
   simp only[zp hL,sQ,fwb,fwm,←hr0,E12]
   refine⟨fun h7=>?_,fun h7=>?_⟩
   ·obtain⟨u1,u2,u3⟩:=htot h7.2
    have hI2:=hI h7.2
    rw[wk h7.1]
    refine⟨fun h8=>?_,fun h8=>?_⟩
    ·have hin:=u3 k.toNat (by omega) (by omega)
     rw[kk]at hin
     simp only[hin]
     refine⟨QIn _,fun h=>absurd trivial h,fun _=>?_⟩
     refine hag (_,k+1) ⟨by simp only;omega,by simp only;omega,fun _=>?_⟩ (by simp only;omega)
     simp only
     rw[show(k+1).toNat=k.toNat+1 by omega,hst,if_neg (by omega),hI2]
     exact zD7 _ _ _
    ·refine hag (tot,k+1) ⟨by simp only;omega,by simp only;omega,fun _=>?_⟩ (by simp only;omega)
     simp only
     rw[show(k+1).toNat=k.toNat+1 by omega,hst,if_pos (by omega),hI2]
   ·rw[yes]
    by_cases h8:tz=0
    ·have h9:tot=0:=by
      rw[hI h8,(htot h8).1,show k.toNat=wb.length by omega,Int.sub_self];rfl
     rw[h8,h9];rfl
    ·rw[show(tz==0)=false by rw[beq_eq_false_iff_ne];exact h8];rfl
 ·cases h
end Go.Ax
