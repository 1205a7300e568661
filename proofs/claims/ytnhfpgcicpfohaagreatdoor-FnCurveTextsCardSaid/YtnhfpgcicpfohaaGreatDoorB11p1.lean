import Derived.Test.YtnhfpgcicpfohaaGreatDoorB01p1
import Derived.Test.YtnhfpgcicpfohaaGreatDoorB05p1
import Derived.Test.YtnhfpgcicpfohaaGreatDoorB04p1
import Derived.Test.YtnhfpgcicpfohaaGreatDoorB03p1
import Derived.Test.YtnhfpgcicpfohaaGreatDoorB07p1
import Derived.Test.YtnhfpgcicpfohaaGreatDoorB08p1
import Derived.Test.YtnhfpgcicpfohaaGreatDoorB09p1
import Derived.Test.YtnhfpgcicpfohaaGreatDoorB10p1
set_option linter.all false
set_option maxRecDepth 100000
set_option maxHeartbeats 4000000
open List renaming getD_eq_getElem?_getD→zd,getElem?_eq_getElem→ze,mem_iff_getElem→ym,take_of_length_le→zu,take_succ_eq_append_getElem→zC
open Nat renaming le_of_ble_eq_true→zh
open Option.some renaming injEq→za
open Prod.mk renaming injEq→zb
/-
 Tests of laws with draws:lists of branches,curves. No conditions but those of the contracts.
-/
namespace Go.Ax
open Go.Proofs
def zty(f:List V→List V→Bool)(q:List V→List V→Prop):zQ:=fun
 |[.slc false 46 (.agg [.slc false 2 (.int .i64 0) []]) a0,.slc false 46 (.agg [.slc false 2 (.int .i64 0) []]) a1]=>some ([q a0 a1],.bool (f a0 a1))
 |_=>none
def zeM(a b:List V):Bool:=decide (zcO a=zcO b)
def zkK(a b:List V):Prop:=(∃l,a=BB false l∧l.length≤2147483647∧∀r∈l,r.length≤2147483647)∧∃l,b=BB false l
theorem zic:yZ Tryz.prog 23 (zty zeM zkK):=by
 intro args ps r h hp
 unfold zty at h
 split at h
 ·rename_i a0 a1
  simp only[za,zb]at h
  obtain⟨rfl,rfl⟩:=h
  obtain⟨⟨xs,hxs,hl,hrl⟩,⟨ys,hys⟩⟩:zkK a0 a1:=(zo.1 hp).1
  obtain⟨n,hn⟩:∃n:Int,n=a0.length:=⟨_,rfl⟩
  obtain⟨m,hm⟩:∃m:Int,m=a1.length:=⟨_,rfl⟩
  have hxl:a0.length=xs.length:=by rw[hxs,YL]
  have hyl:a1.length=ys.length:=by rw[hys,YL]
  have gx:∀k,a0.getD k (.agg [.slc false 2 (.int .i64 0) []])=.agg [.slc false 2 (.int .i64 0) (I (xs.getD k []))]:=fun k=>by rw[hxs,zdw]
  have gy:∀k,a1.getD k (.agg [.slc false 2 (.int .i64 0) []])=.agg [.slc false 2 (.int .i64 0) (I (ys.getD k []))]:=fun k=>by rw[hys,zdw]
  have hf0:zeM a0 a1=decide (xs=ys):=by rw[zeM,hxs,hys,ka,ka]
  generalize zbK:zfo=zfX
  generalize zbG:znv=zfT
  refine zO (T:=tab) (B:=[(48,KZ zfX zfT)]) (Bi:=[]) [0,1,4,5] Tryz.func23 rfl rfl (by kernel_rfl) (zh rfl) mixed yd (by subst zbK zbG;exact(zt zgb zH)) (by subst zbK zbG;exact zE) (by kernel_rfl) ?_
  intro L lp rr hL hr hf hlp
  conv=>cbv
  simp only[zr hL,sQ,←hn,←hm]
  refine⟨fun h=>?_,fun h=>?_⟩
  ·rw[hr,hf0,decide_eq_false (fun e=>h (by rw[hn,hm,hxl,hyl,e]))]
  have hlen:xs.length=ys.length:=by omega
  refine hlp (Int) _ _ _ [0,1,5] (fun x=>[(0,none,.val (.slc false 46 (.agg [.slc false 2 (.int .i64 0) []]) a0)),(1,none,.val (.slc false 46 (.agg [.slc false 2 (.int .i64 0) []]) a1)),(5,none,.val (.int .i64 x))])
   (fun x=>0≤x∧x≤n∧xs.take x.toNat=ys.take x.toNat) (fun x=>(n-x).toNat) (0) (by subst hL;rfl) ?_ ?_
  ·exact⟨by simp,by omega,rfl⟩
  rintro i ⟨i0,i1,hI⟩ hfx ag hag
  have Ef:∀u v:List Int,zfX (I u) (I v)=decide (u=v):=fun u v=>by rw[←zbK,zfo,zB,zB]
  conv=>cbv
  simp only[zr hL,sQ,←hn,←hm,gx,gy,zcV,zcP,zc9,Ef]
  refine⟨fun h2=>?_,fun h2=>?_⟩
  ·have h4:i.toNat<xs.length:=by omega
   have h5:i.toNat<ys.length:=by omega
   have Ql:zfT (I (xs.getD i.toNat [])) (I (ys.getD i.toNat [])):=by
    rw[←zbG]
    refine⟨⟨_,rfl⟩,⟨_,rfl⟩,?_⟩
    rw[zm,zd,ze h4]
    exact hrl _ (List.getElem_mem h4)
   refine⟨i0,h2,i0,by omega,Ql,fun h3=>?_,fun h3=>?_⟩
   ·rw[hr,hf0,decide_eq_false (fun e=>h3 (by rw[e]))]
   ·rw[zl (n:=i+1) (by omega) (by omega)]
    refine hag (i+1) ⟨by omega,by omega,?_⟩ (by omega)
    rw[zd,ze h4,zd,ze h5]at h3
    rw[show(i+1).toNat=i.toNat+1 by omega,zC h4,zC h5,hI]
    exact congrArg (fun z=>List.take i.toNat ys++[z]) h3
  ·have h4:xs=ys:=by rwa [zu (by omega),zu (by omega)]at hI
   rw[hr,hf0,decide_eq_true h4]
 ·cases h
def zkd(f:List V→List V→List V→List V→Bool)(q:List V→List V→List V→List V→Prop):zQ:=fun
 |[.agg [.slc false 46 (.agg [.slc false 2 (.int .i64 0) []]) a0,.slc false 44 (.slc false 2 (.int .i64 0) []) a1],.agg [.slc false 46 (.agg [.slc false 2 (.int .i64 0) []]) a2,.slc false 44 (.slc false 2 (.int .i64 0) []) a3]]=>some ([q a0 a1 a2 a3],.bool (f a0 a1 a2 a3))
 |_=>none
def zhC(a b c d:List V):Bool:=zeM a c&&JH b d
def zoP(a b c d:List V):Prop:=zkK a c∧zcT b d
theorem zlr:yZ Tryz.prog 9 (zkd zhC zoP):=by
 intro args ps r h hp
 unfold zkd at h
 split at h
 ·rename_i a0 a1 a2 a3
  simp only[za,zb]at h
  obtain⟨rfl,rfl⟩:=h
  obtain⟨hq1,hq2⟩:zoP a0 a1 a2 a3:=(zo.1 hp).1
  have g0:V.frzs a0=a0:=by obtain⟨l,h,_⟩:=hq1.1;rw[h,jh]
  have g1:V.frzs a1=a1:=by obtain⟨l,h,_⟩:=hq2.1;rw[h,jg]
  have g2:V.frzs a2=a2:=by obtain⟨l,h⟩:=hq1.2;rw[h,jh]
  have g3:V.frzs a3=a3:=by obtain⟨l,h⟩:=hq2.2;rw[h,jg]
  generalize zkB:zeM=zy4
  generalize zkw:zkK=zy0
  generalize zao:JH=zgO
  generalize zal:zcT=zkC
  refine zO (T:=tab) (B:=[(23,zty zy4 zy0),(24,zbW zgO zkC)]) (Bi:=[]) [0,1,2,3,4] Tryz.func9 rfl rfl (by kernel_rfl) (zh rfl) mixed yd (by subst zkB zkw zao zal;exact(zt zic (zt zmk zH))) (by subst zkB zkw zao zal;exact zE) (by kernel_rfl) ?_
  intro L lp rr hL hr hf hlp
  conv=>cbv
  subst zkB zkw zao zal
  simp only[zr hL,sQ,g0,g1,g2,g3]
  refine⟨hq1,fun _=>hq2,?_⟩
  rw[hr,zhC]
 ·cases h
end Go.Ax
namespace Go.Ax
open Go.Proofs
section
variable {xs:List Int}
end
end Go.Ax
namespace Go.Ax
open Go.Proofs
def zwJ(es:List V):Prop:=∃xs:List Int,es=U8 xs∧∀x∈xs,0≤x∧x≤255
def zDP(_:List V):Bool:=true
theorem zvL:∀xs:List Int,V.frzs (U8 xs)=U8 xs
 |[]=>rfl
 |x::xs=>by
  have:=zvL xs
  simp only[U8]at this
  simp only[U8,List.map_cons,V.frzs,V.frz,this]
theorem zCZ{a:List V}(h:zwJ a)(hb:zk8 a=false):IsU a:=by
 obtain⟨xs,hxs,hr⟩:=h
 refine⟨xs,hxs,hr,?_⟩
 have hl:a.length=xs.length:=by rw[hxs,U8,List.length_map]
 simp only[zk8,decide_eq_false_iff_not]at hb
 omega
end Go.Ax
namespace Go.Ax
open Go.Proofs
theorem zwO{l:By}:(kq l→zbk (T l)=(BB true (uM (qH l)),II true (uG (qH l).length (kR l)),0))∧(¬kq l→zbk (T l)=([],[],6)):=by
 have h:=zkk l
 refine⟨fun g=>?_,fun g=>?_⟩
 ·rw[zqJ (by rw[h];exact g),h]
 ·exact zs0 (by rw[h];exact g)
theorem zAM{l:By}:(kq l→zcs (T l)=(BB false (uM (qH l)),II false (uG (qH l).length (kR l)),0))∧(¬kq l→zcs (T l)=([],[],6)):=by
 have h:=zkk l
 refine⟨fun g=>?_,fun g=>?_⟩
 ·rw[zqI (by rw[h];exact g),h]
 ·exact zsZ (by rw[h];exact g)
theorem zwW(bs ms:List (List Int)):zhC (BB false bs) (II false ms) (BB false bs) (II false ms)=true:=by
 rw[zhC,zeM,JH]
 simp
theorem CvP.short{bs ms:List (List Int)}(h:CvP bs ms):(∀x∈bs,x.length≤64)∧(∀x∈ms,x.length≤6):=by
 refine⟨fun x hx=>?_,fun x hx=>?_⟩
 ·obtain⟨t,ht,rfl⟩:=ym.1 hx
  have:=h.br t ht
  rw[zd,ze ht]at this
  exact(Kl this).len
 ·obtain⟨t,ht,rfl⟩:=ym.1 hx
  have h1:=h.tab.len
  have:=(h.tab.row t (by omega)).1
  rw[zd,ze ht]at this
  have:=h.n6
  simp only[Option.getD_some]at*
  omega
theorem zjk:yZ Tryz.prog 3 (zoa zDP zwJ):=by
 intro args ps r h hp
 unfold zoa at h
 split at h
 ·rename_i a0
  simp only[za,zb]at h
  obtain⟨rfl,rfl⟩:=h
  have hq:zwJ a0:=(zo.1 hp).1
  have hfr:V.frzs a0=a0:=by
   obtain⟨xs,hxs,_⟩:=hq
   rw[hxs,zvL]
  obtain⟨⟨bs,ms⟩,hbm⟩:∃z:List (List Int)×List (List Int),z=((zaN a0 0 (kc a0)).1,(zaN a0 0 (kc a0)).2.1):=⟨_,rfl⟩
  obtain⟨r,hrd⟩:∃r,r=ztc a0:=⟨_,rfl⟩
  obtain⟨vt,hvt⟩:∃vt,vt=T r:=⟨_,rfl⟩
  obtain⟨vb,hvb⟩:∃vb,vb=BB false bs:=⟨_,rfl⟩
  obtain⟨vm,hvm⟩:∃vm,vm=II false ms:=⟨_,rfl⟩
  obtain⟨⟨pb,pm,pc⟩,hpo⟩:∃z,z=zbk vt:=⟨_,rfl⟩
  obtain⟨⟨qb,qm,qc⟩,hpv⟩:∃z,z=zcs vt:=⟨_,rfl⟩
  obtain⟨⟨ct,cc⟩,hct⟩:∃z,z=zfp vb vm:=⟨_,rfl⟩
  obtain⟨⟨bb,bm,bc⟩,hback⟩:∃z,z=zbk ct:=⟨_,rfl⟩
  generalize zp4:zk8=zv9
  generalize zpD:zAL=zvT
  generalize zpT:zxa=zv3
  generalize zcG:IsU=zi4
  generalize zor:zfp=zh1
  generalize Yp:q_C=zaF
  generalize zlj:zbk=zp8
  generalize jr:ZU=uo
  generalize zpM:zcs=zvZ
  generalize zkA:zhC=zd5
  generalize zkv:zoP=zkD
  generalize zpQ:zrq=zv2
  refine zO (T:=tab) (B:=[(4,zoa zv9 zvT),(5,zxf zv3 zi4),(6,zhL zh1 zaF),(7,zhL zh1 zaF),(8,zto zp8 uo),(11,ztn zvZ uo),(9,zkd zd5 zkD),(10,zxe zv2 zi4)]) (Bi:=[]) [0,2,3,4,5,6,7,8,9,10,11,12,13,14,15,16] Tryz.func3 rfl rfl (by kernel_rfl) (zh rfl) mixed yd (by subst zp4 zpD zpT zcG zor Yp zlj jr zpM zkA zkv zpQ;exact(zt zwq (zt zia (zt zmm (zt zmj (zt zlv (zt zlq (zt zlr (zt zhm zH))))))))) (by subst zp4 zpD zpT zcG zor Yp zlj jr zpM zkA zkv zpQ;exact zE) (by kernel_rfl) ?_
  intro L lp rr hL hr hf hlp
  have yes:rr=.bool true:=hr
  have E0:zv3 a0=(vb,vm):=by
   rw[←zpT,zxa,hvb,hvm]
   simp only[zb]at hbm
   rw[hbm.1,hbm.2]
  have E1:zh1 vb vm=(ct,cc):=by rw[←zor,←hct]
  have E2:zp8 ct=(bb,bm,bc):=by rw[←zlj,←hback]
  have E3:zv2 a0=vt:=by rw[←zpQ,zrq,←hrd,hvt]
  have E4:zp8 vt=(pb,pm,pc):=by rw[←zlj,←hpo]
  have E5:zvZ vt=(qb,qm,qc):=by rw[←zpM,←hpv]
  have E6:zv9 a0=zk8 a0:=by rw[←zp4]
  have Qi:zvT a0:=by rw[←zpD];trivial
  conv=>cbv
  have g0:V.frzs vb=vb:=by rw[hvb,jh]
  have g1:V.frzs vm=vm:=by rw[hvm,jg]
  simp only[zr hL,sQ,true_and,hfr,E0,g0,g1,E1,E2,E3,E4,E5,E6]
  refine⟨Qi,fun _=>yes.symm,fun h1=>?_⟩
  have hu:=zCZ hq h1
  have QU:zi4 a0:=by rw[←zcG];exact hu
  simp only[zb]at hbm
  have hD:=zA9 (a:=0) (h:=kc a0) (es:=a0) ⟨hu,Int.le_refl _,Int.natCast_nonneg _⟩
  have QC:q_C vb vm:=by
   rw[hvb,hvm,hbm.1,hbm.2]
   exact⟨⟨_,rfl,by have:=hD.n6;omega,fun x hx=>by have:=hD.row x hx;omega⟩,⟨_,rfl,by have:=hD.m6;omega,fun x hx=>by have:=hD.mrow x hx;omega⟩⟩
  have hrl:r.length≤2000000000:=by rw[hrd];exact(ztb hu).1
  have Qv:uo vt:=by rw[←jr];show vt.size≤_;rw[hvt,qy];exact hrl
  have QC':zaF vb vm:=by rw[←Yp];exact QC
  have Ect:zfp vb vm=bif zc5 bs ms then(T (YI bs ms),0)else(⟨⟨[]⟩⟩,1):=by
   rw[zfp,ud,Jq,hvb,hvm,ka,qC]
  refine⟨QU,QC',QC',fun h=>?_,?_⟩
  ·simp at h
  have likeQ:∀us ns:List (List Int),us.length≤6→ns.length≤6→(∀x∈us,x.length≤64)→(∀x∈ns,x.length≤6)→zkD (BB false us) (II false ns) (BB false us) (II false ns):=fun us ns k1 k2 k3 k4=>by
   rw[←zkv]
   exact⟨⟨⟨us,rfl,by omega,fun x hx=>by have:=k3 x hx;omega⟩,⟨us,rfl⟩⟩,⟨⟨ns,rfl,by omega,fun x hx=>by have:=k4 x hx;omega⟩,⟨ns,rfl⟩⟩⟩
  have likeE:∀us ns:List (List Int),zd5 (BB false us) (II false ns) (BB false us) (II false ns)=true:=fun us ns=>by
   rw[←zkA]
   exact zwW us ns
  have tail:(pc=qc→zkD (V.frzs pb) (V.frzs pm) (V.frzs qb) (V.frzs qm))∧(¬pc=qc∨zd5 (V.frzs pb) (V.frzs pm) (V.frzs qb) (V.frzs qm)=false→V.bool false=rr)∧(pc=qc∧zd5 (V.frzs pb) (V.frzs pm) (V.frzs qb) (V.frzs qm)=true→(¬pc=0→V.bool true=rr)∧(pc=0→zaF (V.frzs pb) (V.frzs pm)∧V.bool ((zh1 (V.frzs pb) (V.frzs pm)).2==0&&(zh1 (V.frzs pb) (V.frzs pm)).1.toList==vt.toList)=rr)):=by
   by_cases hg:kq r
   ·have k1:(pb,pm,pc)=(BB true (uM (qH r)),II true (uG (qH r).length (kR r)),0):=by rw[hpo,hvt];exact zwO.1 hg
    have k2:(qb,qm,qc)=(BB false (uM (qH r)),II false (uG (qH r).length (kR r)),0):=by rw[hpv,hvt];exact zAM.1 hg
    simp only[zb]at k1 k2
    obtain⟨p1,p2,p3⟩:=k1
    obtain⟨q1,q2,q3⟩:=k2
    have hP:=Jb.1 hg.2.2.2
    have gt:=zjV hg
    obtain⟨B,hB⟩:∃B,B=uM (qH r):=⟨_,rfl⟩
    obtain⟨M,hM⟩:∃M,M=uG (qH r).length (kR r):=⟨_,rfl⟩
    rw[←hB,←hM]at hP gt
    rw[p1,p2,p3,q1,q2,q3,←hB,←hM,jh,jg,jh,jg]
    obtain⟨s1,s2⟩:=hP.short
    have n6:=hP.n6
    have ml:=hP.tab.len
    have Ec:zh1 (BB false B) (II false M)=(T r,0):=by
     rw[←zor,zfp,ud,Jq,ka,qC,Jb.2 hP,cond_true,gt]
    have QB:zaF (BB false B) (II false M):=by
     rw[←Yp]
     exact⟨⟨_,rfl,by omega,fun x hx=>by have:=s1 x hx;omega⟩,⟨_,rfl,by omega,fun x hx=>by have:=s2 x hx;omega⟩⟩
    rw[likeE,Ec]
    refine⟨fun _=>likeQ B M n6 (by omega) s1 s2,fun h=>?_,fun _=>⟨fun h=>absurd rfl h,fun _=>⟨QB,?_⟩⟩⟩
    ·rcases h with h|h
     ·exact absurd rfl h
     ·cases h
    ·rw[yes,hvt]
     simp
   ·have k1:(pb,pm,pc)=([],[],6):=by rw[hpo,hvt];exact zwO.2 hg
    have k2:(qb,qm,qc)=([],[],6):=by rw[hpv,hvt];exact zAM.2 hg
    simp only[zb]at k1 k2
    obtain⟨p1,p2,p3⟩:=k1
    obtain⟨q1,q2,q3⟩:=k2
    rw[p1,p2,p3,q1,q2,q3,show V.frzs []=[]from rfl]
    have e0:zd5 [] [] [] []=true:=likeE [] []
    rw[e0]
    refine⟨fun _=>likeQ [] [] (by simp) (by simp) (fun x hx=>by cases hx) (fun x hx=>by cases hx),fun h=>?_,fun _=>⟨fun _=>yes.symm,fun h=>absurd h (by decide)⟩⟩
    rcases h with h|h
    ·exact absurd rfl h
    ·cases h
  refine fun _=>⟨fun hc=>?_,fun _=>⟨QU,Qv,Qv,tail⟩⟩
  rw[Ect]at hct
  cases hcv:zc5 bs ms with
  |false=>
   rw[hcv,cond_false]at hct
   simp only[zb]at hct
   rw[hct.2]at hc
   exact absurd hc (by decide)
  |true=>
   rw[hcv,cond_true]at hct
   simp only[zb]at hct
   obtain⟨t1,t2,t3⟩:=zxC hcv
   have hP:=Jb.1 hcv
   obtain⟨s1,s2⟩:=hP.short
   have n6:=hP.n6
   have ml:=hP.tab.len
   have hcl:=zvC hP.w
   have kb:(bb,bm,bc)=(BB true bs,II true ms,0):=by
    rw[hback,hct.1,zwO.1 t1,t2,t3]
   simp only[zb]at kb
   obtain⟨b1,b2,b3⟩:=kb
   rw[b1,b2,b3,jh,jg,hvb,hvm,likeE]
   refine⟨by rw[←jr];show ct.size≤_;rw[hct.1,qy];omega,fun _=>likeQ bs ms n6 (by omega) s1 s2,fun h=>?_,fun _=>⟨QU,Qv,Qv,tail⟩⟩
   rcases h with h|h
   ·exact absurd rfl h
   ·cases h
 ·cases h
end Go.Ax
namespace Go.Proofs.YtnhfpgcicpfohaaGreatDoor
open Go.ChangeShapes Go.WideShapes Go.ChangeAt Go.RowKit Go.Ax
theorem zA1{x:V}(h:Wt tab 5 x):∃n,x=.int .u8 n∧0≤n∧n≤255:=by
 cases h with
 |int _ ti k n h hk hn=>
  cases h;cases hk
  refine⟨n,rfl,?_⟩
  simp[Lit.wf]at hn
  have h1:IntKind.u8.min=0:=rfl
  have h2:IntKind.u8.max=255:=rfl
  omega
 |bool _ ti b h hk=>cases h;cases hk
 |str _ ti b h hk=>cases h;cases hk
 |slc _ ti e es h hk=>cases h;cases hk
 |agg _ ti e es h hk=>cases h;cases hk
theorem zy7{x:V}(h:Wt tab 22 x):∃es,x=.slc false 5 (.int .u8 0) es∧zwJ es:=by
 cases h with
 |int _ ti k n h hk hn=>cases h;cases hk
 |bool _ ti b h hk=>cases h;cases hk
 |str _ ti b h hk=>cases h;cases hk
 |slc _ ti e es h hk hl he=>
  cases h;cases hk
  refine⟨es,rfl,?_⟩
  clear hl
  induction es with
  |nil=>exact⟨[],rfl,by simp⟩
  |cons y es ih=>
   obtain⟨l,hl,hr⟩:=ih (fun i y hy=>he (i+1) y (by simpa using hy))
   obtain⟨n,hn,h0,h1⟩:=zA1 (he 0 y rfl)
   refine⟨n::l,by rw[hl,hn];rfl,fun x hx=>?_⟩
   rcases List.mem_cons.1 hx with rfl|hx
   ·exact⟨h0,h1⟩
   ·exact hr x hx
 |agg _ ti e es h hk=>cases h;cases hk
end Go.Proofs.YtnhfpgcicpfohaaGreatDoor
