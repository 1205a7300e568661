import Derived.Test.YtdahdoichcnlgaaGreatB09p2
import Derived.Test.YtdahdoichcnlgaaGreatB03p2
set_option linter.all false
set_option maxRecDepth 100000
set_option maxHeartbeats 8000000
open Bool renaming true_eq_false->Jr
open Int renaming toNat_natCast->zV
/-
 The law of blown up curves,at all that is drawn. No conditions but those of the contracts.
-/
namespace Go.Ax
open Go.Proofs
theorem zzK(bs ms:List (List Int)):∃(tl:List Int) (w:Int),zhz (BB false bs) (II false ms)=(I tl,w)/\tl.length<=6/\(CvP bs ms->tl=(yh ms bs.length).1/\w=0):=by
 by_cases hc:CvP bs ms
 ·have hi:qu (BB false bs) (II false ms)=true:=by rw[qu,yo,yd];exact zax.2 hc
  refine⟨(yh ms bs.length).1,0,by rw[zhz,hi,zag,yd,yz];rfl,by rw[(ul ms bs.length).1];exact hc.n6,fun _=>⟨rfl,rfl⟩⟩
 ·have hi:qu (BB false bs) (II false ms)=false:=by rw[qu,yo,yd];exact zeH hc
  exact⟨[],1,by rw[zhz,hi];rfl,by simp,fun h=>absurd h hc⟩
theorem zze{bs ms:List (List Int)}(hc:CvP bs ms){i k:Int}(hi:0<=i)(hi2:i<bs.length)(hk:0<=k)(hk2:k<bs.length)(hne:i≠k):
 ∃g t u:Int,0<g/\qz bs ms i.toNat k.toNat=g*t/\(bs.getD i.toNat []).getD 0 0*(bs.getD k.toNat []).getD 0 0=g*u/\0<t/\0<u/\t<=819200/\u<=4096/\zbb (BB false bs) (II false ms) i k=(t,u,0):=by
 have bi:=jz (hc.br i.toNat (by omega));have bk:=jz (hc.br k.toNat (by omega));have his:qu (BB false bs) (II false ms)=true:=by rw[qu,yo,yd];exact zax.2 hc
 have hin:ZN (BB false bs) (II false ms) i k=(qz bs ms i.toNat k.toNat,0):=by
  rw[ZN,his,yz,YC.2 ⟨hi,hi2⟩,YC.2 ⟨hk,hk2⟩,show(i==k)=false by rw[beq_eq_false_iff_ne];exact hne,KY,yo,yd];rfl
 have hm:=ziU hc (i:=i.toNat) (k:=k.toNat) (by omega) (by omega);have hE:=((hc.tab.row i.toNat (by omega)).2 k.toNat (by omega)).2 (by omega)
 have hpos:0<qz bs ms i.toNat k.toNat:=by
  have:=(zpH bi bk (c:=(mm ms i.toNat k.toNat).toNat) (by omega)).1;rw[qz];omega
 have a1:=bi.low 0 bi.pos;have a2:=bi.first;have a3:=bk.low 0 bk.pos;have a4:=bk.first;have h1:0<(bs.getD i.toNat []).getD 0 0*(bs.getD k.toNat []).getD 0 0:=Int.mul_pos (by omega) (by omega);have h2:(bs.getD i.toNat []).getD 0 0*(bs.getD k.toNat []).getD 0 0<=64*64:=Int.mul_le_mul a2 a4 (by omega) (by omega);obtain⟨g,t,u,g0,e1,e2,t0,u0,t1,u1,e⟩:=zC1 hpos h1 (by omega) (by omega);refine⟨g,t,u,g0,e1,e2,t0,u0,by omega,by omega,?_⟩;rw[zbb,hin,if_pos rfl,yo,e]
theorem ziG:yI Tryz.prog 4 (zoM zEj zxx):=by
 intro args ps r h hp;unfold zoM at h;split at h
 ·rename_i a0;simp only[Option.some.injEq,Prod.mk.injEq]at h;obtain⟨rfl,rfl⟩:=h;have hq:zxx a0:=(zm.1 hp).1
  have hfr:V.frzs a0=a0:=by
   obtain⟨xs,hxs,_⟩:=hq;rw[hxs,zwD]
  obtain⟨bs,hbs⟩:∃z,z=(dsp a0).1:=⟨_,rfl⟩;obtain⟨ms,hms⟩:∃z,z=(dsp a0).2.1:=⟨_,rfl⟩;obtain⟨vb,hvb⟩:∃vb,vb=BB false bs:=⟨_,rfl⟩;obtain⟨vm,hvm⟩:∃vm,vm=II false ms:=⟨_,rfl⟩;have hdpn:zr2 a0=(vb,vm):=by rw[zr2,hvb,hvm,hbs,hms]
  obtain⟨o,w1,hbu,hlk,hok1⟩:=zBc bs ms;obtain⟨tL,w2,hto,htl6,htan⟩:=zzK bs ms;obtain⟨⟨dr,w3⟩,hmd⟩:∃z,z=zkp vb vm:=⟨_,rfl⟩;rw[<-hvb,<-hvm]at hbu hto;obtain⟨lo,hlo⟩:∃z,z=CC true o:=⟨_,rfl⟩;obtain⟨lf,hlf⟩:∃z,z=CC false o:=⟨_,rfl⟩;obtain⟨tn,htn⟩:∃z,z=I tL:=⟨_,rfl⟩;rw[<-hlo]at hbu;rw[<-htn]at hto;rw[<-hlf]at hlk;have fb:V.frzs vb=vb:=by rw[hvb,qH]
  have fm:V.frzs vm=vm:=by rw[hvm,qy]
  have flo:V.frzs lo=lf:=by rw[hlo,hlf,zw5]
  have fnlo:V.noFzs lo=true:=by rw[hlo];exact zBb o
  have ftn:V.frzs tn=tn:=by rw[htn,zD]
  have lkv:∀v,zbC v v=true:=fun v=>by rw[zbC];simp
  obtain⟨⟨ti,tk⟩,hat0⟩:∃z,z=atF a0:=⟨_,rfl⟩;have hat:zks a0=(vb,vm,ti,tk):=by rw[zks,<-hat0,hvb,hvm,hbs,hms]
  obtain⟨⟨ft,fbo,w4⟩,hds⟩:∃z,z=zbb vb vm ti tk:=⟨_,rfl⟩;obtain⟨r,hr0⟩:∃r:Int,r=vb.length:=⟨_,rfl⟩;generalize zqB:zlw=zw1;generalize zqi:zBm=zwO;generalize zqr:zr2=zwU;generalize KE:IsU=zfn;generalize zuJ:zhA=zu1;generalize jG:Zs=uD;generalize zuA:zhz=zuU;generalize zuF:zkp=zuX;generalize zp5:zBe=zwG;generalize zno:zj3=zuO;generalize Qu:zbC=zaU;generalize YG:zj4=KF;generalize zuI:ztM=zzB;generalize yU:qu=ko;generalize Ki:zah=zcA;generalize yO:ur=kh;generalize KM:ZN=zdr;generalize Yy:ziK=Ko;generalize zgx:zks=zo4;generalize zlG:zbb=zlK;refine zC (T:=tab) (B:=[(5,zoM zw1 zwO),(27,zx2 zwU zfn),(28,zbE zu1 uD),(29,zbE zu1 uD),(30,zin zuU uD),(31,zin zuU uD),(32,zc9 zuX uD),(33,zc9 zuX uD),(34,zua zwG zuO),(14,YI zaU KF),(19,zc9 zzB uD),(15,zak ko uD),(35,zgk zcA kh),(26,zb9 zdr Ko),(36,zfy zo4 zfn),(37,zdR zlK Ko),(38,zdR zlK Ko)]) (Bi:=[]) [0,2,3,4,5,6,7,8,9,10,11,12,13,14,15,16,17,18,19,20,21,22,23,24,25,26,27,28,29,30,31,32,33,34,35,36,37,38,39,40] Tryz.func4 rfl rfl (by kernel_rfl) (Nat.le_of_ble_eq_true rfl) mixed zP (by subst zqB zqi zqr KE zuJ jG zuA zuF zp5 zno Qu YG zuI yU Ki yO KM Yy zgx zlG;exact(zn zxi (zn zho (zn zjY (zn zjT (zn zlU (zn zlP (zn zgF (zn zgD (zn zjU (zn zcQ (zn zfP (zn YT (zn zbs (zn zab (zn zhS (zn zlV (zn zlQ zA)))))))))))))))))) (by subst zqB zqi zqr KE zuJ jG zuA zuF zp5 zno Qu YG zuI yU Ki yO KM Yy zgx zlG;exact zx) (by kernel_rfl) ?_;intro L lp rr hL hr hf hlp;have E0:zw1 a0=zlw a0:=by rw[<-zqB]
  have E1:zwU a0=(vb,vm):=by rw[<-zqr,hdpn]
  have E2:zu1 vb vm=(lo,w1):=by rw[<-zuJ,hbu]
  have E3:zuU vb vm=(tn,w2):=by rw[<-zuA,hto]
  have E4:zuX vb vm=(dr,w3):=by rw[<-zuF,hmd]
  have E5:zwG lf lf=true:=by rw[<-zp5];rfl
  have E6:∀v,zaU v v=true:=fun v=>by rw[<-Qu,lkv]
  have Qi:zwO a0:=by rw[<-zqi];trivial
  have yes:rr=.bool true:=hr;refine znF L tab lp _ _ _ _ _ 10 _ _ fun K1 hK1=>?_
  conv=>cbv
  simp only[zo hL,sQ,hfr,E0,E1,E2,E3,E4,E5,E6,fb,fm,flo,fnlo,ftn,not_true,false_or,or_false,Jr,true_imp_iff,false_imp_iff];refine⟨Qi,fun _=>yes.symm,fun h1=>?_⟩;have hu:=zDs hq h1;have hdo:=zy8 hu
  have dq:Zs vb vm:=by
   have x1:=hdo.row;have x2:=hdo.mrow;have x3:=hdo.n6;have x4:=hdo.m6;rw[hvb,hvm,hbs,hms];exact⟨⟨_,rfl,by omega,fun x hx=>by have:=x1 x hx;omega⟩,⟨_,rfl,by omega,fun x hx=>by have:=x2 x hx;omega⟩⟩
  have QU:zfn a0:=by rw[<-KE];exact hu
  have QC:uD vb vm:=by rw[<-jG];exact dq
  have Q5:zuO lf lf:=by rw[<-zno];exact hlk
  have Qt:KF tn tn:=by rw[<-YG,htn];exact⟨⟨_,rfl⟩,⟨_,rfl⟩,by rw[zj];omega⟩
  simp only[QU,QC,Q5,Qt,true_and,and_true,true_imp_iff];rw[hK1];clear hK1;refine znF L tab lp _ _ _ _ _ 1 _ _ fun K2 hK2=>?_;obtain⟨mB,hmB⟩:∃z,z=JK bs bs.length:=⟨_,rfl⟩;have hbl:vb.length=bs.length:=by rw[hvb,yz]
  have gb:∀k,vb.getD k (.agg [.slc false 2 (.int .i64 0) []])=.agg [.slc false 2 (.int .i64 0) (I (bs.getD k []))]:=fun k=>by rw[hvb,ku]
  have gtn:∀i,tn.getD i (.int .i64 0)=.int .i64 (tL.getD i 0):=fun i=>by rw[htn,zO]
  have glo:=fun i=>hlo▸ziv true o i;obtain⟨nT,hnT⟩:∃z:Int,z=lo.length:=⟨_,rfl⟩;obtain⟨nn,hnn⟩:∃z:Int,z=tn.length:=⟨_,rfl⟩
  conv=>cbv
  simp only[zo hL,sQ,fb,fm,QC,true_and,and_true,true_imp_iff];refine⟨fun hw=>?kc,fun hw=>?kd⟩
  case' kc=>
   obtain⟨hcv,hblo⟩:=hok1 hw;have h6:=hcv.n6;have hi:qu vb vm=true:=(by rw[qu,hvb,hvm,yo,yd];exact zax.2 hcv);have E7:zzB vb vm=(mB,0):=by rw[<-zuI,ztM,hi,zh6,hbl,hvb,yo,hmB];rfl
   obtain⟨rfl,rfl⟩:dr=QH mB/\w3=0:=by
    have hh:zkp vb vm=(QH mB,0):=by
     rw[zkp,hi,zbn,hbl,hvb,hvm,yo,yd,hblo,hmB,<-zD1 hcv hblo];rfl
    rw[hh]at hmd;exact⟨congrArg Prod.fst hmd,congrArg Prod.snd hmd⟩
   obtain⟨htL,rfl⟩:=htan hcv;have hmb:=zmQ (fun i hi=>jz (hcv.br i hi)) bs.length (Nat.le_refl _);rw[<-hmB]at hmb;have ht2:=zBG (m:=mB) (by omega) (by omega)
   have w5:IntKind.wrap .i64 ((IntKind.wrap .i64 (mB*IntKind.wrap .i64 (mB-1))).tdiv 2)=QH mB:=by
    rw[zk (n:=mB-1) (by omega) (by omega),zk (n:=mB*(mB-1)) (by omega) (by omega),show(mB*(mB-1)).tdiv 2=QH mB from rfl,zk (by omega) (by omega)]
   simp only[zo hL,sQ,E7,w5,not_true,false_or,or_false,true_and,true_imp_iff,false_imp_iff];refine⟨by decide,?_⟩;obtain⟨t1,t2,t3,t4⟩:=ul ms bs.length;rw[bl]at hblo;obtain⟨o1,o2⟩:=zgn _ hblo;rw[t1]at o2;obtain⟨nb,hnb⟩:∃z:Int,z=bs.length:=⟨_,rfl⟩;have hnT2:nT=o.length:=(by rw[hnT,hlo,zaY]);have hnn2:nn=nb:=by rw[hnn,htn,zj,htL,t1,hnb]
   refine hlp (Int) _ _ _ [0,3,4,8,18] (fun x=>[(0,none,.val (.slc false 5 (.int .u8 0) a0)),(3,none,.val (.box 27 (.agg [.slc false 57 (.agg [.slc false 2 (.int .i64 0) []]) vb,.slc false 29 (.slc false 2 (.int .i64 0) []) vm]))),(4,none,.val (.slc true 27 (.agg [.slc true 57 (.agg [.slc true 2 (.int .i64 0) []]) [],.slc true 29 (.slc true 2 (.int .i64 0) []) []]) lo)),(8,none,.val (.slc true 2 (.int .i64 0) tn)),(18,none,.val (.int .i64 x))])
    (fun x=>0<=x/\x<=nT) (fun x=>(nT-x).toNat) (0) (by subst hL;rfl) ?_ ?_
   ·exact⟨by simp,by omega⟩
   rintro t ⟨i0,i1⟩ hfx ag hag
   conv=>cbv
   simp only[zo hL,sQ,<-hnT,glo,zhX,zh4,zh3,qH,qy];refine⟨fun h2=>?kt,fun h2=>?_⟩
   case kt=>
    have htt:((t.toNat:Nat):Int)=t:=(by omega);obtain⟨hl,hg2⟩:=zgJ hcv (t:=t.toNat) (by omega);obtain⟨hpp,hsq⟩:=o2 t.toNat (by omega);rw[htt]at hl hg2 hpp hsq;obtain⟨ls,hls⟩:∃z,z=qm (yh ms bs.length).1 t bs.length:=⟨_,rfl⟩;rw[<-hls]at hl hg2 hpp hsq;rw[<-htL]at hls;obtain⟨pb,hpb⟩:∃z,z=QZ bs ls ls.length:=⟨_,rfl⟩;obtain⟨pm,hpm⟩:∃z,z=Zj ms ls ls.length 0:=⟨_,rfl⟩;rw[<-hpb,<-hpm]at hpp;have hpc:=zvZ hcv hl hg2;rw[<-hpb,<-hpm]at hpc;have hpl:pb.length=ls.length:=(by rw[hpb,kV]);have hll:=hl.len;have isP:qu (BB false pb) (II false pm)=true:=(by rw[qu,yo,yd];exact zax.2 hpc);have Ei:ko (BB false pb) (II false pm)=true:=by rw[<-yU,isP]
    have qP:Zs (BB false pb) (II false pm):=by
     refine⟨⟨_,rfl,by omega,fun xs hx=>?_⟩,⟨_,rfl,by rw[hpc.tab.len];omega,fun xs hx=>?_⟩⟩
     ·rw[hpb]at hx;have:=zvK (fun i hi=>jz (hcv.br i hi)) hl.inn xs hx;omega
     ·rw[hpm]at hx;rw[zvE xs hx];omega
    have Qp:uD (BB false pb) (II false pm):=(by rw[<-jG];exact qP);simp only[hpp,Ei,Qp,true_and,Jr,false_imp_iff,true_imp_iff];refine⟨i0,h2,by omega,by omega,by omega,?_⟩;obtain⟨np,hnp⟩:∃z:Int,z=ls.length:=⟨_,rfl⟩
    refine hlp (Int×Int) _ _ _ [0,3,4,8,18,19,20] (fun x=>[(0,none,.val (.slc false 5 (.int .u8 0) a0)),(3,none,.val (.box 27 (.agg [.slc false 57 (.agg [.slc false 2 (.int .i64 0) []]) vb,.slc false 29 (.slc false 2 (.int .i64 0) []) vm]))),(4,none,.val (.slc true 27 (.agg [.slc true 57 (.agg [.slc true 2 (.int .i64 0) []]) [],.slc true 29 (.slc true 2 (.int .i64 0) []) []]) lo)),(8,none,.val (.slc true 2 (.int .i64 0) tn)),(18,none,.val (.int .i64 t)),(19,none,.val (.int .i64 x.1)),(20,none,.val (.int .i64 x.2))])
     (fun x=>0<=x.2/\x.2<=nb/\x.1=(qm tL t x.2.toNat).length) (fun x=>(nb-x.2).toNat) ((0,0)) (by subst hL;rfl) ?_ ?_
    ·exact⟨by simp,by simp only;omega,rfl⟩
    rintro⟨at0,i⟩ ⟨j0,j1,hA⟩ hfx2 ag2 hag2;simp only at j0 j1 hA
    conv=>cbv
    simp only[zo hL,sQ,<-hnn,hnn2,gtn,gb,glo,hpp,zhX,uy,um,uq,zh4,zh3,qH,qy,yz,hpl,ku];have tlt:t<(lo.length:Int):=(by omega);have tln:t.toNat<lo.length:=(by omega);refine⟨fun h4=>?ki,fun h4=>?_⟩
    case ki=>
     have hib:i.toNat<bs.length:=(by omega);have bi:=jz (hcv.br i.toNat hib);rw[zk (n:=i+1) (by omega) (by omega)];refine⟨j0,h4,by omega,fun h5=>?_,fun h5=>?_⟩
     ·refine hag2 (at0,i+1) ⟨by simp only;omega,by simp only;omega,?_⟩ (by simp only;omega);simp only[zL j0];rw[zsU h5,hA]
     ·obtain⟨x1,x2,x3⟩:=zpB hib h5;rw[<-hls]at x1 x2;have hat9:at0.toNat=(qm tL t i.toNat).length:=(by omega);rw[<-hat9]at x1 x2;have ale:¬(ls.length:Int)<=at0:=(by omega);have a0l:0<=at0:=(by omega);have alt:at0<(ls.length:Int):=(by omega);have hsl:(qY (bs.getD i.toNat [])).length<=399:=(by have:=hsq at0.toNat x1;rwa [x2,zV]at this);obtain⟨sb,hsb⟩:∃z,z=QI (bs.getD i.toNat []):=⟨_,rfl⟩;have Est:zcA (I (bs.getD i.toNat []))=(I sb,0):=(by rw[<-Ki,zah,zr,if_neg (by omega),hsb]);have hrow:pb.getD at0.toNat []=sb:=(by rw[hpb,zeu x1,x2,zV,hsb]);have QB:kh (I (bs.getD i.toNat [])):=by rw[<-yO];exact⟨_,rfl,bi⟩
      have Ql:KF (I sb) (I sb):=by
       rw[<-YG];refine⟨⟨_,rfl⟩,⟨_,rfl⟩,?_⟩;rw[zj,hsb];have:=(JV bi).1.len;omega
      obtain⟨vs,hvs⟩:∃z,z=I sb:=⟨_,rfl⟩;rw[<-hvs]at Est Ql;have fvs:V.frzs vs=vs:=(by rw[hvs,zD]);have bx:i<(vb.length:Int):=(by omega);simp only[Est,hrow,<-hvs,fvs,E6,Ql,QB,ale,a0l,alt,x1,tlt,tln,i0,j0,bx,not_true,not_false_iff,and_true,true_and,or_false,false_or,Jr,true_imp_iff,false_imp_iff]
      refine hlp (Int×Int) _ _ _ [0,3,4,8,18,19,20,23,24] (fun x=>[(0,none,.val (.slc false 5 (.int .u8 0) a0)),(3,none,.val (.box 27 (.agg [.slc false 57 (.agg [.slc false 2 (.int .i64 0) []]) vb,.slc false 29 (.slc false 2 (.int .i64 0) []) vm]))),(4,none,.val (.slc true 27 (.agg [.slc true 57 (.agg [.slc true 2 (.int .i64 0) []]) [],.slc true 29 (.slc true 2 (.int .i64 0) []) []]) lo)),(8,none,.val (.slc true 2 (.int .i64 0) tn)),(18,none,.val (.int .i64 t)),(19,none,.val (.int .i64 at0)),(20,none,.val (.int .i64 i)),(23,none,.val (.int .i64 x.1)),(24,none,.val (.int .i64 x.2))])
       (fun x=>0<=x.2/\x.2<=i/\x.1=(qm tL t x.2.toNat).length) (fun x=>(i-x.2).toNat) ((0,0)) (by subst hL;rfl) ?_ ?_
      ·exact⟨by simp,by simp only;omega,rfl⟩
      rintro⟨bf,k⟩ ⟨k0,k1,hB⟩ hfx3 ag3 hag3;simp only at k0 k1 hB
      conv=>cbv
      simp only[zo hL,sQ,<-hnn,hnn2,gtn,gb,glo,hpp,zhX,uy,um,uq,zh4,zh3,qH,qy,yz,hpl,ku,fb,fm,tlt,tln,i0,j0];refine⟨fun h6=>?_,fun h6=>?_⟩
      ·have hkb:k.toNat<bs.length:=(by omega);rw[zk (n:=k+1) (by omega) (by omega)];refine⟨k0,by omega,by omega,fun h7=>?_,fun h7=>?_⟩
       ·refine hag3 (bf,k+1) ⟨by simp only;omega,by simp only;omega,?_⟩ (by simp only;omega);simp only[zL k0];rw[zsU h7,hB]
       ·obtain⟨y1,y2,y3⟩:=zpB (L:=tL) (x:=t) (m:=k.toNat) (n:=i.toNat) (by omega) h7;obtain⟨z1,z2,_⟩:=zpB hkb h7;rw[<-hls]at z1 z2;have hbf:bf.toNat=(qm tL t k.toNat).length:=(by omega);rw[<-hbf]at y1 y3 z1 z2;rw[<-hat9]at y1;have bk:=jz (hcv.br k.toNat hkb);have pmt:=zq3 hcv hl hg2 (i:=at0.toNat) (k:=bf.toNat) x1 z1 (by omega);rw[x2,z2,zV,zV,<-hpb,<-hpm,Kw bi,Kw bk]at pmt;have b1:=ziU hcv hib hkb;have b2:=ziU hpc (i:=at0.toNat) (k:=bf.toNat) (by omega) (by omega)
        have r1:zdr vb vm i k=(qz bs ms i.toNat k.toNat,0):=by
         rw[<-KM,ZN,hi,hbl,YC.2 ⟨j0,by omega⟩,YC.2 ⟨k0,by omega⟩,show(i==k)=false by rw[beq_eq_false_iff_ne];omega,KY,hvb,hvm,yo,yd];rfl
        have r2:zdr (BB false pb) (II false pm) at0 bf=(qz pb pm at0.toNat bf.toNat,0):=by
         rw[<-KM,ZN,isP,yz,YC.2 ⟨a0l,by omega⟩,YC.2 ⟨by omega,by omega⟩,show(at0==bf)=false by rw[beq_eq_false_iff_ne];omega,KY,yo,yd];rfl
        have q1:Ko vb vm i k:=(by rw[<-Yy];exact dq);have q2:Ko (BB false pb) (II false pm) at0 bf:=(by rw[<-Yy];exact qP);have p1:0<((bs.getD i.toNat []).length:Int):=(by have:=bi.pos;omega);have p2:0<((bs.getD k.toNat []).length:Int):=(by have:=bk.pos;omega);have kx:k<(vb.length:Int):=by omega
        have hw9:IntKind.wrap .i64 (qz bs ms i.toNat k.toNat-qz pb pm at0.toNat bf.toNat)=IntKind.wrap .i64 ((bs.getD i.toNat []).getD 0 0*(bs.getD k.toNat []).getD 0 0):=by
         congr 1;omega
        simp only[r1,r2,q1,q2,p1,p2,kx,bx,k0,hw9,Int.le_refl,not_true,not_false_iff,and_true,true_and,or_false,false_or,Jr,true_imp_iff,false_imp_iff];rw[zk (n:=bf+1) (by omega) (by omega)];refine hag3 (bf+1,k+1) ⟨by simp only;omega,by simp only;omega,?_⟩ (by simp only;omega);simp only[zL k0];omega
      ·rw[zk (n:=at0+1) (by omega) (by omega),zk (n:=i+1) (by omega) (by omega)];refine hag2 (at0+1,i+1) ⟨by simp only;omega,by simp only;omega,?_⟩ (by simp only;omega);simp only[zL j0];omega
    have hin:i.toNat=bs.length:=(by omega);rw[hin,<-hls]at hA;refine⟨i0,tlt,tln,tln,tln,fun h=>absurd hA h,fun _=>?_⟩;rw[zk (n:=t+1) (by omega) (by omega)];exact hag (t+1) ⟨by omega,by omega⟩ (by omega)
  all_goals
   rw[hK2];clear hK2;have E8:zo4 a0=(vb,vm,ti,tk):=(by rw[<-zgx,hat]);have E9:zlK vb vm ti tk=(ft,fbo,w4):=(by rw[<-zlG,hds]);have Q8:Ko vb vm ti tk:=by rw[<-Yy];exact dq
   conv=>cbv
   simp only[zo hL,sQ,hfr,E8,E9,fb,fm,QU,Q8,true_and,and_true,true_imp_iff,not_true,false_or,or_false,false_imp_iff];refine⟨fun _=>yes.symm,fun hw4=>?_⟩
   have hfd:(ZN vb vm ti tk).2=0:=by
    refine Classical.byContradiction fun hn=>?_;rw[zbb,if_neg hn]at hds;have:w4=(ZN vb vm ti tk).2:=congrArg (fun z=>z.2.2) hds;omega
   obtain⟨⟨⟨_,hcv5⟩,u0,u1,v0,v1,hne⟩,_⟩:=ztI dq hfd;have hcv:CvP bs ms:=(by rw[hvb,hvm,yo,yd]at hcv5;exact hcv5);rw[hbl]at u1 v1;have h6:=hcv.n6;obtain⟨g3,t3,s3,g30,m3,e3,t30,s30,t3b,s3b,hd3⟩:=zze hcv u0 u1 v0 v1 hne;rw[<-hvb,<-hvm,<-hds]at hd3;obtain rfl:ft=t3:=congrArg Prod.fst hd3;obtain rfl:fbo=s3:=congrArg (fun z=>z.2.1) hd3
   refine hlp (Int) _ _ _ [29,30,31,32,36] (fun x=>[(29,none,.val (.box 27 (.agg [.slc false 57 (.agg [.slc false 2 (.int .i64 0) []]) vb,.slc false 29 (.slc false 2 (.int .i64 0) []) vm]))),(30,none,.val (.int .i64 ti)),(31,none,.val (.int .i64 tk)),(32,none,.val (.box 63 (.agg [.int .i64 ft,.int .i64 fbo]))),(36,none,.val (.int .i64 x))])
    (fun x=>0<=x/\x<=r) (fun x=>(r-x).toNat) (0) (by subst hL;rfl) ?_ ?_
   ·exact⟨by simp,by omega⟩
   rintro j ⟨j0,j1⟩ hfx ag hag;have Qj:∀p q,Ko vb vm p q:=by rw[<-Yy];exact fun _ _=>dq
   have dis:∀p q:Int,0<=p->p<bs.length->0<=q->q<bs.length->p≠q->∃g t u:Int,0<g/\qz bs ms p.toNat q.toNat=g*t/\(bs.getD p.toNat []).getD 0 0*(bs.getD q.toNat []).getD 0 0=g*u/\0<t/\0<u/\t<=819200/\u<=4096/\zlK vb vm p q=(t,u,0):=fun p q p0 p1 q0 q1 hpq=>by
    obtain⟨g,t,u,x1,x2,x3,x4,x5,x6,x7,x8⟩:=zze hcv p0 p1 q0 q1 hpq;exact⟨g,t,u,x1,x2,x3,x4,x5,x6,x7,by rw[<-zlG,hvb,hvm];exact x8⟩
   conv=>cbv
   simp only[zo hL,sQ,fb,fm,<-hr0,Qj,true_and];refine⟨fun h7=>?_,fun _=>yes.symm⟩;rw[zk (n:=j+1) (by omega) (by omega)];refine⟨fun h8=>hag (j+1) ⟨by omega,by omega⟩ (by omega),fun h8=>?_⟩;obtain⟨g1,t1,s1,g10,m1,e1,t10,s10,t1b,s1b,hd1⟩:=dis ti j u0 u1 j0 (by omega) (fun e=>h8.1 e.symm);obtain⟨g2,t2,s2,g20,m2,e2,t20,s20,t2b,s2b,hd2⟩:=dis j tk j0 (by omega) v0 v1 h8.2
   have pr:∀{x y:Int},0<x->x<=819200->0<y->y<=4096->IntKind.wrap .i64 (x*y)=x*y:=fun{x y} a b c d=>by
    have h1:0<x*y:=Int.mul_pos a c;have h2:x*y<=819200*4096:=Int.mul_le_mul b d (by omega) (by omega);exact zk (by omega) (by omega)
   simp only[hd1,hd2,not_true,false_or,or_false,and_self,true_and,false_imp_iff,true_imp_iff];rw[pr t30 t3b s10 s1b,pr t10 t1b s30 s3b,pr t30 t3b s20 s2b,pr t20 t2b s30 s3b];refine⟨fun h9=>?_,fun _=>hag (j+1) ⟨by omega,by omega⟩ (by omega)⟩;exfalso;exact zzd hcv (i:=ti.toNat) (j:=j.toNat) (k:=tk.toNat) (by omega) (by omega) (by omega) (by omega) (by omega) (by omega) ⟨zyx g30 g10 m3 e3 m1 e1 h9.1,zyx g30 g20 m3 e3 m2 e2 h9.2⟩
 ·cases h
end Go.Ax
