import Derived.Test.YtiepfglppnhpgaaGreatB05p3
import Derived.Test.YtiepfglppnhpgaaGreatB01p3
import Derived.Test.YtiepfglppnhpgaaGreatB04p3
import Derived.Test.YtiepfglppnhpgaaGreatB02p3
set_option linter.all false
set_option maxRecDepth 100000
set_option maxHeartbeats 4000000
open Int renaming natCast_nonneg->jD,toNat_natCast->zL
open List renaming all_eq_true->yc,append_assoc->zU,append_nil->yp,cons_append->yf,drop_drop->Zu,drop_zero->ur,eq_nil_of_length_eq_zero->yS,ext_getElem?->yB,getD_cons_succ->yT,getD_cons_zero->qh,getD_eq_getElem?_getD->zd,getElem?_append_right->yr,getElem?_drop->zZ,getElem?_eq_getElem->ze,getElem?_eq_none->zy,getElem?_eq_some_iff->zq,getElem?_set->Qj,getElem_mem->yq,length_append->zr,length_cons->zj,length_nil->zu,length_replicate->zx,length_reverse->zeb,length_set->yj,length_singleton->zW,length_tail->QX,length_take->zV,mem_singleton->yd,nil_append->yV,replicate_append_replicate->jx,replicate_succ->yI,replicate_succ'->qm,replicate_zero->Yb,set_append_right->Zt,singleton_append->zc4,take_append_drop->jI,take_of_length_le->zB
open List.cons renaming injEq->kG
open Nat renaming add_sub_cancel->qJ,add_zero->yk,gcd_comm->Zi,gcd_dvd_left->QT,gcd_dvd_right->Kl,gcd_one_left->zac,gcd_pos_of_pos_left->ue,le_refl->zw,lt_or_ge->zd2,sub_self->kF
open Option.some renaming injEq->za
open Prod.mk renaming injEq->zb
/-
 Multiplicities of curvettes:impl.curvetteMultiplicities,spec.l06Curvette. No conditions but those of the contracts.
-/
namespace Go.Ax
open Go.Proofs
theorem zem(l:List Nat)(i n:Nat):(yg l).set i (n:Int)=yg (l.set i n):=by
 simp only[yg,List.map_set]
theorem zaV(l:List Nat)(i:Nat):(yg l).getD i 0=((l.getD i 0:Nat):Int):=YC l i 0
theorem zgh{α:Type}{l:List α}{i j:Nat}{x z:α}(hi:i<l.length):(l.set i x).getD j z=if j=i then x else l.getD j z:=by
 simp only[zd,Qj];by_cases h:j=i
 ·rw[h,if_pos rfl,if_pos rfl,if_pos hi];rfl
 ·rw[if_neg (Ne.symm h),if_neg h]
theorem zv3(m:Nat):List.replicate m (V.int .i64 0)=I (yg (List.replicate m 0)):=by
 rw[I,yg,List.map_replicate,List.map_replicate];rfl
theorem zsF(m k:Nat):(List.replicate m (V.int .i64 0)).getD k (V.int .i64 0)=V.int .i64 0:=by
 rw[zd,List.getElem?_replicate];split<;>rfl
def zi2(f:List V->List V×Bool)(q:List V->Prop):zO:=fun
 |[.slc false 2 (.int .i64 0) a0]=>some ([q a0],.tup [.slc true 2 (.int .i64 0) ((f a0).1),.bool ((f a0).2)])
 |_=>none
def cvm(cs:List Nat):List V×Bool:=if(mC cs).tail.all (fun x=>decide (x<=64))=true then(I (yg (mC cs)),decide (Kc cs<=64))else([],false)
def zcs(a:List V):List V×Bool:=cvm (zgF (yD a))
def KP(a:List V):Prop:=∃cs,a=I (yg cs)/\VC cs/\cs.length<=30
theorem zwH{cs:List Nat}{j:Nat}(h1:1<=j)(h2:j<=cs.length)(h:64<Kc (cs.drop j)):cvm cs=([],false):=by
 rw[cvm,if_neg];intro ha;rw[yc]at ha;have hl:=ZI cs;have h3:=zep cs j h2;obtain⟨t,rfl⟩:∃t,j=t+1:=⟨j-1,by omega⟩;rw[zbA,yT]at h3;have ht:t<(mC cs).tail.length:=by rw[QX];omega
 have h4:=ha _ (yq ht);rw[zd,ze ht]at h3;simp only[Option.getD_some]at h3;simp only[decide_eq_true_eq]at h4;omega
theorem zt9{cs:List Nat}(h:∀i,1<=i->i<=cs.length->Kc (cs.drop i)<=64):cvm cs=(I (yg (mC cs)),decide (Kc cs<=64)):=by
 rw[cvm,if_pos];rw[yc];intro x hx;obtain⟨t,ht,rfl⟩:=List.mem_iff_getElem.1 hx;have hl:=ZI cs;rw[QX]at ht;have h1:=zep cs (t+1) (by omega);have h2:=h (t+1) (by omega) (by omega);rw[<-h1,zbA,yT,zd,ze (by rw[QX];omega)]at h2;simpa using h2
theorem zd8:yM Tryz.prog 110 (zi2 zcs KP):=by
 intro args ps r h hp;unfold zi2 at h;split at h
 ·rename_i a0;cases h;obtain⟨cs,hcs,hv,hl⟩:KP a0:=(zp.1 hp).1;have g0:V.frzs a0=a0:=by rw[hcs,zt]
  have hal:a0.length=cs.length:=by rw[hcs,zg,qD]
  have ga:∀k,a0.getD k (.int .i64 0)=.int .i64 ((cs.getD k 0:Nat):Int):=fun k=>by rw[hcs,zG,zaV]
  have hf0:zcs a0=cvm cs:=by rw[zcs,hcs,zl,Jm]
  obtain⟨n,hn⟩:=qEI cs.length;refine zH (B:=[(1000000002,zew)]) (Bi:=[]) [2000012056,0,3,4,5,6] Tryz.func110 rfl rfl (by exact(zm ziE zF)) zA ?_;intro L lp rr hL hr hf hlp
  conv=>cbv
  simp only[zo hL,sQ,g0,hal,<-hn];rw[zn (n:=n+1)];obtain⟨s0,hs0⟩:=qEx ((List.replicate (n+1).toNat (V.int IntKind.i64 0)).set n.toNat (V.int IntKind.i64 1))
  have hs00:s0=I (yg (ZA cs cs.length)):=by
   rw[hs0,zoI,show(n+1).toNat=cs.length+1 by omega,show n.toNat=cs.length by omega];have e:=zv3 (cs.length+1)
   have e2:(List.replicate (cs.length+1) 0).set cs.length 1=List.replicate cs.length 0++[1]:=by
    rw[qm,Zt _ _ (by simp)];simp
   rw[e,ua,show(1:Int)=((1:Nat):Int)from rfl,zem,e2]
  rw[<-hs0];rw[zsF,zx];refine⟨by omega,by omega,by omega,by omega,by omega,by omega,rfl,?_⟩
  refine hlp (List V×Int) _ _ _ [0,4,5] (fun x=>[(wJ3 0 a0),(wJ2 4 x.1),(wJ0 5 x.2)])
   (fun x=>0<=x.2/\x.2<=n/\x.1=I (yg (ZA cs x.2.toNat))/\∀i:Nat,x.2<i->i<=cs.length->Kc (cs.drop i)<=64) (fun x=>x.2.toNat) ((s0,n)) (by subst hL;rfl) ?_ ?_
  ·exact⟨by omega,by simp,by rw[hs00,hn];rfl,fun i h1 h2=>by simp only at h1;omega⟩
  rintro⟨ms,j⟩ ⟨j0,j1,hM,hbd⟩ hfx ag hag;simp only at j0 j1 hM hbd;have hml:ms.length=cs.length+1:=by rw[hM,zg,qD,KV]
  have gm:∀k,ms.getD k (.int .i64 0)=.int .i64 (((ZA cs j.toNat).getD k 0:Nat):Int):=fun k=>by rw[hM,zG,zaV]
  conv=>cbv
  simp only[zo hL,sQ,hal,ga,gm,hml];refine⟨fun h2=>?_,fun h2=>?_⟩
  ·obtain⟨t,ht⟩:∃t:Nat,j=t+1:=⟨(j-1).toNat,by omega⟩;have he:j.toNat=t+1:=(by omega);have e1:IntKind.wrap .i64 (j-1)=(t:Int):=(by rw[zn (by omega) (by omega)];omega);obtain⟨A,hA⟩:=qEx (ZA cs (t+1));rw[he,<-hA]at hM gm
   have hsm:∀i,i<=cs.length->A.getD i 0<=1984:=fun i hi=>by
    rw[hA];have:=zoJ (cs:=cs) (j:=t+1) (by omega) (fun i h1 h2=>hbd i (by omega) h2) i hi;omega
   have hA1:A.getD (t+1) 0=Kc (cs.drop (t+1)):=(by rw[hA,KW (by omega),if_neg (by omega)]);have hAl:A.length=cs.length+1:=by rw[hA,KV]
   have e3:IntKind.wrap .i64 (((A.getD t 0:Nat):Int)+((A.getD (t+1) 0:Nat):Int))=((A.getD t 0+A.getD (t+1) 0:Nat):Int):=by
    have h1:=hsm t (by omega);have h2:=hsm (t+1) (by omega);rw[zn (by omega) (by omega)];omega
   obtain⟨c,hc⟩:=qEx (cs.getD t 0);simp only[e1,he,<-hA,zL,e3,<-hc];refine⟨j0,by omega,by omega,fun h3=>?_,fun h3=>⟨by omega,by omega,by omega,by omega,by omega,by omega,by omega,by omega,by omega,by omega,by omega,fun h4=>?_,fun h4=>?_⟩⟩
   ·rw[hr,hf0,zwH (j:=t+1) (by omega) (by omega) (by rw[<-hA1];omega)]
   ·have hsat:=zs4 hv (j:=t) (c:=c) (by omega) hc.symm (by omega)
    rw[<-hA]at hsat
    obtain⟨hs1,hs2,hs3⟩:=hsat
    have e4:IntKind.wrap .i64 (j-(c:Int))=((t+1-c:Nat):Int):=by rw[zn (by omega) (by omega)];omega
    have hset:∀i,i≠t->i<cs.length+1->(ms.set t (V.int .i64 ((A.getD t 0+A.getD (t+1) 0:Nat):Int))).getD i (.int .i64 0)=.int .i64 ((A.getD i 0:Nat):Int):=fun i hi hi2=>by
     rw[zgh (by rw[hml];omega),if_neg hi,gm]
    simp only[e4,zL,yj,hml,hset (t+1-c) (by omega) (by omega),hset (t+1) (by omega) (by omega)]
    have e5:IntKind.wrap .i64 (((A.getD (t+1-c) 0:Nat):Int)+((A.getD (t+1) 0:Nat):Int))=((A.getD (t+1-c) 0+A.getD (t+1) 0:Nat):Int):=by
     have h1:=hsm (t+1-c) (by omega);have h2:=hsm (t+1) (by omega);rw[zn (by omega) (by omega)];omega
    refine⟨by omega,by omega,by omega,rfl,by omega,by omega,by omega,rfl,by omega,by omega,by omega,rfl,?_⟩;refine hag (_,(t:Int)) ⟨by simp only;omega,by simp only;omega,?_,fun i h5 h6=>?_⟩ (by simp only;omega)
    ·show(ms.set t _).set (t+1-c) (V.int .i64 (IntKind.wrap .i64 (((A.getD (t+1-c) 0:Nat):Int)+((A.getD (t+1) 0:Nat):Int))))=_;rw[e5,hM,ua,ua,zem,zem,hs1];rfl
    ·simp only at h5;by_cases h7:i=t+1
     ·rw[h7,<-hA1];omega
     ·exact hbd i (by omega) h6
   ·have hfr:=zq7 hv (j:=t) (by omega) (by rw[<-hc];omega);rw[<-hA]at hfr;refine hag (_,(t:Int)) ⟨by simp only;omega,by simp only;omega,?_,fun i h5 h6=>?_⟩ (by simp only;omega)
    ·simp only;rw[hM,ua,zem,hfr];rfl
    ·simp only at h5;by_cases h7:i=t+1
     ·rw[h7,<-hA1];omega
     ·exact hbd i (by omega) h6
  ·have h3:j=0:=(by omega);refine⟨by omega,by omega,by omega,?_⟩;have e0:j.toNat=0:=(by omega);rw[e0]at hM;rw[hr,hf0,zt9 (fun i h1 h2=>hbd i (by omega) h2),hM,e0,zs5]
   have e6:decide ((((mC cs).getD 0 0:Nat):Int)<=64)=decide (Kc cs<=64):=by
    rw[Kc];exact decide_eq_decide.2 (by omega)
   rw[e6]
 ·cases h
def zdv(cs:List Nat)(j:Nat):List Nat:=if j=0 then[]else if cs.getD (j-1) 0=0 then[j-1]else[j-cs.getD (j-1) 0,j-1]
def zqk(f:List V->Int->List V)(q:List V->Int->Prop):zO:=fun
 |[.slc false 2 (.int .i64 0) a0,.int .i64 a1]=>some ([q a0 a1],.slc true 2 (.int .i64 0) (f a0 a1))
 |_=>none
def zmf(a:List V)(j:Int):List V:=I (yg (zdv (zgF (yD a)) j.toNat))
def zrQ(a:List V)(j:Int):Prop:=∃cs,a=I (yg cs)/\VC cs/\cs.length<=30/\0<=j/\j<=cs.length
theorem zjB:yM Tryz.prog 127 (zqk zmf zrQ):=by
 intro args ps r h hp;unfold zqk at h;split at h
 ·rename_i a0 j;cases h;obtain⟨cs,hcs,hv,hl,j0,j1⟩:zrQ a0 j:=(zp.1 hp).1;have g0:V.frzs a0=a0:=by rw[hcs,zt]
  have hal:a0.length=cs.length:=by rw[hcs,zg,qD]
  have ga:∀k,a0.getD k (.int .i64 0)=.int .i64 ((cs.getD k 0:Nat):Int):=fun k=>by rw[hcs,zG,zaV]
  have hf0:zmf a0 j=I (yg (zdv cs j.toNat)):=by rw[zmf,hcs,zl,Jm]
  refine zH (B:=[]) (Bi:=[]) [0,1,4] Tryz.func127 rfl rfl zF zA ?_;intro L lp rr hL hr hf hlp
  conv=>cbv
  simp only[zo hL,sQ,g0,hal,ga];refine⟨fun h1=>?_,fun h1=>?_⟩
  ·rw[hr,hf0,zdv,if_pos (by omega)];rfl
  ·obtain⟨t,ht⟩:∃t:Nat,j=t+1:=⟨(j-1).toNat,by omega⟩;have he:j.toNat=t+1:=(by omega);have e1:IntKind.wrap .i64 (j-1)=(t:Int):=(by rw[zn (by omega) (by omega)];omega);have hle:=hv.le t (by omega);rw[hr,hf0,zdv,if_neg (by omega),he,qJ];simp only[e1,zL];refine⟨by omega,by omega,fun h2=>?_,fun h2=>⟨by omega,by omega,?_⟩⟩
   ·rw[if_pos (by omega)];rfl
   ·have e4:IntKind.wrap .i64 (j-((cs.getD t 0:Nat):Int))=((t+1-cs.getD t 0:Nat):Int):=(by rw[zn (by omega) (by omega)];omega);rw[if_neg (by omega),e4];rfl
 ·cases h
def zcJ(A:List Nat)(j:Nat)(nl:List Nat):Nat->List Nat
 |0=>A
 |i+1=>(zcJ A j nl i).set (nl.getD i 0) ((zcJ A j nl i).getD (nl.getD i 0) 0+(zcJ A j nl i).getD j 0)
theorem zwP{A:List Nat}{j:Nat}{nl:List Nat}(h:∀i,i<nl.length->nl.getD i 0≠j/\nl.getD i 0<A.length):∀i,i<=nl.length->(zcJ A j nl i).length=A.length/\(zcJ A j nl i).getD j 0=A.getD j 0/\∀x,(zcJ A j nl i).getD x 0<=A.getD x 0+i*A.getD j 0
 |0,_=>⟨rfl,rfl,fun x=>by simp[zcJ]⟩
 |i+1,hi=>by
  obtain⟨h1,h2,h3⟩:=zwP h i (by omega);obtain⟨h4,h5⟩:=h i (by omega);refine⟨by rw[zcJ,yj,h1],?_,fun x=>?_⟩
  ·rw[zcJ,zgh (by rw[h1];exact h5),if_neg (Ne.symm h4)];exact h2
  ·rw[zcJ,zgh (by rw[h1];exact h5),Nat.add_mul];have:=h3 x;split
   ·rename_i hx;rw[<-hx,h2];omega
   ·omega
theorem zCE{cs:List Nat}(hv:VC cs){t:Nat}(h:t<cs.length):zcJ (ZA cs (t+1)) (t+1) (zdv cs (t+1)) (zdv cs (t+1)).length=ZA cs t:=by
 rw[zdv,if_neg (by omega),qJ];by_cases hc:cs.getD t 0=0
 ·rw[if_pos hc];exact zq7 hv h hc
 ·rw[if_neg hc];obtain⟨h1,h2,h3⟩:=zs4 hv h rfl hc;have hl:=KV cs (t+1);simp only[zj,zu,zcJ,qh,yT];rw[zgh (by omega),if_neg (by omega),zgh (by omega),if_neg (by omega),List.set_comm _ _ (by omega)];exact h1
theorem zkV:yM Tryz.prog 113 (zi2 zcs KP):=by
 intro args ps r h hp;unfold zi2 at h;split at h
 ·rename_i a0;cases h;obtain⟨cs,hcs,hv,hl⟩:KP a0:=(zp.1 hp).1;have g0:V.frzs a0=a0:=by rw[hcs,zt]
  have hal:a0.length=cs.length:=by rw[hcs,zg,qD]
  have ga:∀k,a0.getD k (.int .i64 0)=.int .i64 ((cs.getD k 0:Nat):Int):=fun k=>by rw[hcs,zG,zaV]
  have hf0:zcs a0=cvm cs:=by rw[zcs,hcs,zl,Jm]
  have hfp:∀j,zmf a0 j=I (yg (zdv cs j.toNat)):=fun j=>by rw[zmf,hcs,zl,Jm]
  have hqp:∀j:Int,0<=j->j<=cs.length->zrQ a0 j:=fun j h0 h1=>⟨cs,hcs,hv,hl,h0,h1⟩;obtain⟨n,hn⟩:=qEI cs.length;generalize zw8:zmf=zxy,zwV:zrQ=zxr;refine zH (B:=[(1000000002,zew),(127,zqk zxy zxr)]) (Bi:=[]) [2000014056,0,3,4,5,6,7,8] Tryz.func113 rfl rfl (by subst zw8 zwV;exact(zm ziE (zm zjB zF))) zA ?_;intro L lp rr hL hr hf hlp;have Ep:∀j,zxy a0 j=I (yg (zdv cs j.toNat)):=by rw[<-zw8];exact hfp
  have Qp:∀j:Int,0<=j->j<=cs.length->zxr a0 j:=by rw[<-zwV];exact hqp
  conv=>cbv
  simp only[zo hL,sQ,g0,hal,<-hn];rw[zn (n:=n+1),zn (n:=n+1-1),show n+1-1=n by omega];obtain⟨s0,hs0⟩:=qEx ((List.replicate (n+1).toNat (V.int IntKind.i64 0)).set n.toNat (V.int IntKind.i64 1))
  have hs00:s0=I (yg (ZA cs cs.length)):=by
   rw[hs0,zoI,show(n+1).toNat=cs.length+1 by omega,show n.toNat=cs.length by omega];have e:=zv3 (cs.length+1)
   have e2:(List.replicate (cs.length+1) 0).set cs.length 1=List.replicate cs.length 0++[1]:=by
    rw[qm,Zt _ _ (by simp)];simp
   rw[e,ua,show(1:Int)=((1:Nat):Int)from rfl,zem,e2]
  rw[<-hs0,zsF,zx];refine⟨by omega,by omega,by omega,by omega,by omega,by omega,rfl,?_⟩
  refine hlp (List V×Int) _ _ _ [0,5,6] (fun x=>[(wJ3 0 a0),(wJ2 5 x.1),(wJ0 6 x.2)])
   (fun x=>0<=x.2/\x.2<=n/\x.1=I (yg (ZA cs x.2.toNat))/\∀i:Nat,x.2<i->i<=cs.length->Kc (cs.drop i)<=64) (fun x=>x.2.toNat) ((s0,n)) (by subst hL;rfl) ?_ ?_
  ·exact⟨by omega,by simp,by rw[hs00,hn];rfl,fun i h1 h2=>by simp only at h1;omega⟩
  rintro⟨ms,j⟩ ⟨j0,j1,hM,hbd⟩ hfx ag hag;simp only at j0 j1 hM hbd;have hml:ms.length=cs.length+1:=by rw[hM,zg,qD,KV]
  have gm:∀k,ms.getD k (.int .i64 0)=.int .i64 (((ZA cs j.toNat).getD k 0:Nat):Int):=fun k=>by rw[hM,zG,zaV]
  conv=>cbv
  simp only[zo hL,sQ,g0,hal,ga,gm,hml,Ep];refine⟨fun h2=>?_,fun h2=>?_⟩
  ·obtain⟨t,ht⟩:∃t:Nat,j=t+1:=⟨(j-1).toNat,by omega⟩;have he:j.toNat=t+1:=(by omega);obtain⟨A,hA⟩:=qEx (ZA cs (t+1));rw[he,<-hA]at hM gm
   have hsm:∀i,A.getD i 0<=1984:=fun i=>by
    by_cases hi:i<=cs.length
    ·rw[hA];have:=zoJ (cs:=cs) (j:=t+1) (by omega) (fun i h1 h2=>hbd i (by omega) h2) i hi;omega
    ·rw[zd,zy (by rw[hA,KV];omega)];exact Nat.zero_le _
   have hA1:A.getD (t+1) 0=Kc (cs.drop (t+1)):=(by rw[hA,KW (by omega),if_neg (by omega)]);have hAl:A.length=cs.length+1:=(by rw[hA,KV]);obtain⟨nl,hnl⟩:=qEx (zdv cs (t+1));obtain⟨vn,hvn⟩:=qEx (I (yg nl))
   have hnok:nl.length<=2/\∀i,i<nl.length->nl.getD i 0≠t+1/\nl.getD i 0<A.length:=by
    have hle:=hv.le t (by omega);rw[hnl,zdv,if_neg (by omega),qJ];split
    ·refine⟨by simp,fun i hi=>?_⟩;have:i=0:=(by simp at hi;omega);subst this;simp only[qh];omega
    ·refine⟨by simp,fun i hi=>?_⟩;have:i=0\/i=1:=(by simp at hi;omega);rcases this with rfl|rfl
     ·simp only[qh];omega
     ·simp only[yT,qh];omega
   have hvl:vn.length=nl.length:=(by rw[hvn,zg,qD]);have gvn:∀k,vn.getD k (.int .i64 0)=.int .i64 ((nl.getD k 0:Nat):Int):=fun k=>(by rw[hvn,zG,zaV]);have hend:=zCE hv (t:=t) (by omega);rw[<-hA,<-hnl]at hend;simp only[he,<-hA,<-hnl,<-hvn];refine⟨j0,by omega,by omega,fun h3=>?_,fun h3=>⟨Qp j j0 (by omega),?_⟩⟩
   ·rw[hr,hf0,zwH (j:=t+1) (by omega) (by omega) (by rw[<-hA1];omega)]
   have h3':A.getD (t+1) 0<=64:=by omega
   refine hlp (List V×Int) _ _ _ [0,5,6,7,8] (fun x=>[(wJ3 0 a0),(wJ2 5 x.1),(wJ0 6 j),(wJ2 7 vn),(wJ0 8 x.2)])
    (fun x=>0<=x.2/\x.2<=nl.length/\x.1=I (yg (zcJ A (t+1) nl x.2.toNat))) (fun x=>(nl.length-x.2).toNat) ((ms,0)) (by subst hL;rfl) ?_ ?_
   ·exact⟨by simp,by simp,hM⟩
   rintro⟨bs,i⟩ ⟨i0,i1,hB⟩ hfx2 ag2 hag2;simp only at i0 i1 hB;obtain⟨B,hBB⟩:=qEx (zcJ A (t+1) nl i.toNat);obtain⟨b1,b2,b3⟩:=zwP hnok.2 i.toNat (by omega);rw[<-hBB]at hB b1 b2 b3;have hbl:bs.length=cs.length+1:=(by rw[hB,zg,qD,b1,hAl]);have gb:∀k,bs.getD k (.int .i64 0)=.int .i64 ((B.getD k 0:Nat):Int):=fun k=>by rw[hB,zG,zaV]
   have hBs:∀k,B.getD k 0<=2112:=fun k=>by
    have h4:=b3 k;have h5:=hsm k;have h6:i.toNat*A.getD (t+1) 0<=2*64:=Nat.mul_le_mul (by omega) h3';omega
   conv=>cbv
   simp only[zo hL,sQ,gvn,hvl,gb,hbl];refine⟨fun h4=>?_,fun h4=>?_⟩
   ·obtain⟨k,hk⟩:=qEx (nl.getD i.toNat 0);obtain⟨k1,k2⟩:=hnok.2 i.toNat (by omega);rw[<-hk]at k1 k2;simp only[<-hk,he,zL];have hk2:=hBs k;have hk3:=hBs (t+1)
    have e5:IntKind.wrap .i64 (((B.getD k 0:Nat):Int)+((B.getD (t+1) 0:Nat):Int))=((B.getD k 0+B.getD (t+1) 0:Nat):Int):=by
     rw[zn (by omega) (by omega)];omega
    rw[e5,zn (n:=i+1)];refine⟨by omega,by omega,by omega,by omega,by omega,by omega,by omega,by omega,by omega,by omega,by omega,by omega,by omega,by omega,by omega,?_⟩;refine hag2 (_,i+1) ⟨by simp only;omega,by simp only;omega,?_⟩ (by simp only;omega);simp only[ya i0];rw[zcJ,<-hBB,<-hk,hB,ua,zem]
   ·rw[zn (n:=j-1)];refine hag (bs,j-1) ⟨by simp only;omega,by simp only;omega,?_,fun q h5 h6=>?_⟩ (by simp only;omega)
    ·simp only;rw[hB,hBB,show i.toNat=nl.length by omega,hend,show(j-1).toNat=t by omega]
    ·simp only at h5;by_cases h7:q=t+1
     ·rw[h7,<-hA1];omega
     ·exact hbd q (by omega) h6
  ·have h3:j=0:=(by omega);have e0:j.toNat=0:=(by omega);rw[e0]at hM;refine⟨by omega,by omega,by omega,?_⟩;rw[hr,hf0,zt9 (fun i h1 h2=>hbd i (by omega) h2),hM,e0,zs5]
   have e6:decide ((((mC cs).getD 0 0:Nat):Int)<=64)=decide (Kc cs<=64):=by
    rw[Kc];exact decide_eq_decide.2 (by omega)
   rw[e6]
 ·cases h
def zuk(f:List V->Bool)(q:List V->Prop):zO:=fun
 |[.slc false 2 (.int .i64 0) a0]=>some ([q a0],.bool (f a0))
 |_=>none
def ztM(_:List V):Bool:=true
theorem zst:yM Tryz.prog 112 (zuk ztM KP):=by
 intro args ps r h hp;unfold zuk at h;split at h
 ·rename_i a0;cases h;obtain⟨cs,hcs,hv,hl⟩:KP a0:=(zp.1 hp).1;have g0:V.frzs a0=a0:=by rw[hcs,zt]
  have hal:a0.length=cs.length:=by rw[hcs,zg,qD]
  have ga:∀k,a0.getD k (.int .i64 0)=.int .i64 ((cs.getD k 0:Nat):Int):=fun k=>by rw[hcs,zG,zaV]
  refine zH (B:=[]) (Bi:=[]) [0,2,3] Tryz.func112 rfl rfl zF zA ?_;intro L lp rr hL hr hf hlp
  conv=>cbv
  refine hlp (Int) _ _ _ [0,3] (fun x=>[(wJ3 0 a0),(wJ0 3 x)])
   (fun x=>0<=x/\x<=cs.length) (fun x=>(cs.length-x).toNat) (0) (by subst hL;rfl) ?_ ?_
  ·exact⟨by simp,by simp⟩
  rintro i ⟨i0,i1⟩ hfx ag hag
  conv=>cbv
  simp only[zo hL,sQ,g0,hal,ga]
  have hnx:i<cs.length->ag [(0,none,A.val (V.slc false 2 (V.int .i64 0) a0)),(3,none,A.val (V.int .i64 (IntKind.wrap .i64 (i+1))))]:=fun h=>by
   rw[zn (n:=i+1)];exact hag (i+1) ⟨by omega,by omega⟩ (by omega)
  refine⟨fun h2=>⟨i0,h2,fun h3=>hnx h2,fun h3=>?_⟩,fun h2=>?_⟩
  ·have hvi:=hv i.toNat (by omega);have e1:i≠0->IntKind.wrap .i64 (i-1)=i-1:=fun h=>zn (by omega) (by omega);rcases hvi with h4|⟨h4,h5⟩
   ·omega
   ·rw[e1 (by omega),show(i-1).toNat=i.toNat-1 by omega];refine⟨fun h6=>by omega,fun h6=>⟨i0,h2,fun h7=>hnx h2,fun h7=>?_⟩⟩;rcases h5 with h5|⟨h5,h8⟩
    ·omega
    have hle:=hv.le i.toNat (by omega)
    have e2:IntKind.wrap .i64 (((cs.getD (i.toNat-1) 0:Nat):Int)+1)=((cs.getD i.toNat 0:Nat):Int):=by
     rw[zn (by omega) (by omega)];omega
    rw[e2];refine⟨by omega,by omega,fun _=>i0,fun _=>h2,fun _=>trivial,fun _=>by omega,fun _=>by omega,fun _=>trivial,fun h9=>?_,fun h9=>hnx h2⟩;rcases h9 with h9|h9
    ·omega
    ·exact absurd rfl h9
  ·rw[hr,ztM];have:decide ((cs.length:Int)<400)=true:=(by rw[decide_eq_true_eq];omega);rw[this]
 ·cases h
def zum(f:Int->List V)(q:Int->Prop):zO:=fun
 |[.int .i64 a0]=>some ([q a0],.slc true 2 (.int .i64 0) (f a0))
 |_=>none
def ziP(k:Int):List V:=I (yg (List.replicate k.toNat 1))
def zsJ(k:Int):Prop:=0<=k/\k<=1000
theorem zpH:yM Tryz.prog 115 (zum ziP zsJ):=by
 intro args ps r h hp;unfold zum at h;split at h
 ·rename_i k;cases h;obtain⟨k0,k1⟩:zsJ k:=(zp.1 hp).1;refine zH (B:=[]) (Bi:=[]) [0,2,3] Tryz.func115 rfl rfl zF zA ?_;intro L lp rr hL hr hf hlp
  conv=>cbv
  refine hlp (List V×Int) _ _ _ [0,3] (fun x=>[(wJ0 0 x.2),(wJ2 3 x.1)])
   (fun x=>0<=x.2/\x.2<=k/\x.1=I (yg (List.replicate (k-x.2).toNat 1))) (fun x=>x.2.toNat) (([],k)) (by subst hL;rfl) ?_ ?_
  ·exact⟨by simp only;omega,by simp,by simp[yg,I]⟩
  rintro⟨os,j⟩ ⟨j0,j1,hO⟩ hfx ag hag;simp only at j0 j1 hO;have hol:os.length<=1000:=by rw[hO,zg,qD,zx];omega
  conv=>cbv
  simp only[zo hL,sQ,true_and];refine⟨fun h2=>?_,fun h2=>?_⟩
  ·rw[zn (n:=j-1)]
   (repeat' first|(exact yL _)|(exact jY rfl)|(exact qG _)|(apply And.intro)|(intro _))<;>(try first|exact True.intro|omega|rfl|(simp only[zj,zu,zg];omega))
   refine hag (_,j-1) ⟨by simp only;omega,by simp only;omega,?_⟩ (by simp only;omega);simp only;rw[hO,show(k-(j-1)).toNat=(k-j).toNat+1 by omega,qm,Ys,<-qW];rfl
  ·rw[hr,ziP,hO,show(k-j).toNat=k.toNat by omega]
 ·cases h
def zbS(k:Nat)(xs:List Int):List Int:=yQ (fun t=>if t<k\/xs.length-k<=t then xs.getD (xs.length-1-t) 0 else xs.getD t 0) xs.length
theorem znq(k:Nat)(xs:List Int):(zbS k xs).length=xs.length:=yi _ _
theorem zsz{k t:Nat}{xs:List Int}(h:t<xs.length):(zbS k xs).getD t 0=if t<k\/xs.length-k<=t then xs.getD (xs.length-1-t) 0 else xs.getD t 0:=by
 rw[zbS,jp _ _ _ _ h]
theorem zEV(xs:List Int):zbS 0 xs=xs:=by
 apply yB;intro j;by_cases hj:j<xs.length
 ·rw[zbS,kU _ _ _ hj,if_neg (by omega),zd,ze hj];rfl
 ·rw[zy (by rw[znq];omega),zy (by omega)]
theorem zBv{k:Nat}{xs:List Int}(h:xs.length<=2*k+1):zbS k xs=xs.reverse:=by
 apply yB;intro j;by_cases hj:j<xs.length
 ·rw[zbS,kU _ _ _ hj,List.getElem?_reverse hj];split
  ·rw[zd,ze (by omega)];rfl
  ·rw[show xs.length-1-j=j by omega,zd,ze hj];rfl
 ·rw[zy (by rw[znq];omega),zy (by rw[zeb];omega)]
theorem zsg{α:Type}(f:Nat->α){n i:Nat}(x:α)(h:i<n):(yQ f n).set i x=yQ (fun t=>if t=i then x else f t) n:=by
 apply yB;intro j;rw[Qj];by_cases hj:j<n
 ·rw[kU _ _ _ hj,kU _ _ _ hj];by_cases h1:i=j
  ·rw[if_pos h1,if_pos (by rw[yi];exact h),if_pos h1.symm]
  ·rw[if_neg h1,if_neg (Ne.symm h1)]
 ·rw[if_neg (by omega),zy (by rw[yi];omega),zy (by rw[yi];omega)]
theorem zzl{k l:Nat}{xs:List Int}(h:k<l)(hl:k+l+1=xs.length):((zbS k xs).set k (xs.getD l 0)).set l (xs.getD k 0)=zbS (k+1) xs:=by
 rw[zbS,zsg _ _ (by omega),zsg _ _ (by omega),zbS];refine qE fun j hj=>?_;by_cases e1:j=l
 ·subst e1;rw[if_pos rfl,if_pos (by omega),show xs.length-1-j=k by omega]
 ·rw[if_neg e1];by_cases e2:j=k
  ·subst e2;rw[if_pos rfl,if_pos (by omega),show xs.length-1-j=l by omega]
  ·rw[if_neg e2];by_cases e3:j<k\/xs.length-k<=j
   ·rw[if_pos e3,if_pos (by omega)]
   ·rw[if_neg e3,if_neg (by omega)]
def ztv(f1:List V->List V)(q:List V->Prop):kj:=fun
 |[.slc true 2 (.int .i64 0) a0]=>some ([q a0],.tup [],.slc true 2 (.int .i64 0) (f1 a0))
 |_=>none
def zoX(a:List V):List V:=I (yD a).reverse
theorem zzk:zbX Tryz.prog 86 0 (ztv zoX qU):=by
 intro args ps r y h hp;unfold ztv at h;split at h
 ·rename_i a0;cases h;obtain⟨⟨xs,hes⟩,hl⟩:qU a0:=(zp.1 hp).1;have hel:a0.length=xs.length:=by rw[hes,zg]
  rw[hel]at hl;refine zD8 (T:=tab) (B:=[]) (Bi:=[]) 0 [3000003002,3000003003,0,2,3] Tryz.func86 rfl rfl (by kernel_rfl) (Nat.le_of_ble_eq_true rfl) mixed Zy zF zA (by kernel_rfl) rfl rfl rfl (by rw[zoX,hes,zl];exact Sh.ints (by simp)) rfl rfl ?_;intro L lp rr yy hL hr hy hf hlp
  conv=>cbv
  simp only[zo hL,sQ,hel];rw[zn (n:=(xs.length:Int)-1)]
  refine hlp (List V×Int×Int) _ _ _ [0,2,3] (fun x=>[(wJ2 0 x.1),(wJ0 2 x.2.1),(wJ0 3 x.2.2)])
   (fun x=>0<=x.2.1/\x.2.1<=x.2.2+1/\x.2.1+x.2.2+1=xs.length/\x.1=I (zbS x.2.1.toNat xs)) (fun x=>(x.2.2-x.2.1+1).toNat) ((a0,0,(xs.length:Int)-1)) (by subst hL;rfl) ?_ ?_
  ·exact⟨by simp,by simp only;omega,by simp only;omega,by simp only;rw[show(0:Int).toNat=0 from rfl,zEV,hes]⟩
  rintro⟨os,i,j⟩ ⟨i0,i1,i2,hO⟩ hfx ag hag;simp only at i0 i1 i2 hO;have hol:os.length=xs.length:=by rw[hO,zg,znq]
  have gos:∀k,os.getD k (.int .i64 0)=.int .i64 ((zbS i.toNat xs).getD k 0):=fun k=>by rw[hO,zG]
  conv=>cbv
  simp only[zo hL,sQ,hol,gos,yj];rw[zn (n:=i+1),zn (n:=j-1)];refine⟨fun h2=>?_,fun h2=>?_⟩
  ·have hs:∀x,(os.set i.toNat x).getD j.toNat (.int .i64 0)=.int .i64 ((zbS i.toNat xs).getD j.toNat 0):=fun x=>by
    rw[zd,List.getElem?_set_ne (by omega),<-zd,gos]
   simp only[hs];have hgi:(zbS i.toNat xs).getD i.toNat 0=xs.getD i.toNat 0:=(by rw[zsz (by omega),if_neg (by omega)]);have hgj:(zbS i.toNat xs).getD j.toNat 0=xs.getD j.toNat 0:=(by rw[zsz (by omega),if_neg (by omega)]);rw[hgi,hgj];have b1:i.toNat<xs.length:=(by omega);have b2:j.toNat<xs.length:=(by omega);refine⟨by omega,by omega,b2,i0,by omega,b1,i0,by omega,b1,by omega,by omega,b2,rfl,?_⟩;refine hag (_,i+1,j-1) ⟨by simp only;omega,by simp only;omega,by simp only;omega,?_⟩ (by simp only;omega);simp only[ya i0];rw[hO,ua,ua,zzl (by omega) (by omega)]
  ·rw[hr,hy,hO,zBv (by omega),zoX,hes,zl];exact⟨rfl,rfl⟩
 ·cases h
def zc3(f:List V->List V->List V->Int->List V)(q:List V->List V->List V->Int->Prop):zO:=fun
 |[.agg [.slc false 2 (.int .i64 0) a0,.slc false 2 (.int .i64 0) a1,.slc false 2 (.int .i64 0) a2],.int .i64 a3]=>some ([q a0 a1 a2 a3],.slc true 2 (.int .i64 0) (f a0 a1 a2 a3))
 |_=>none
def Qg(a _ _:List V)(i:Int):List V:=I (zC (yD a) i)
def zcB(a b c:List V)(i:Int):Prop:=Zd a b c/\0<=i/\i<a.length
theorem zvS{P S Q:List Int}(h:ClP P S Q){i:Int}(h0:0<=i)(h1:i<P.length):upL P 32 i=i::upL P 32 (P.getD i.toNat 0):=by
 have h2:=congrArg List.reverse (uv h h0 h1);rw[zC,zC,List.reverse_reverse,List.reverse_append,List.reverse_reverse]at h2;simpa using h2
theorem zy8(P:List Int){i:Int}(h:i<0):upL P 32 i=[]:=by rw[upL,if_pos h]
theorem zy9{P S Q:List Int}(h:ClP P S Q){i:Int}(h0: -1<=i)(h1:i<P.length):(upL P 32 i).length<=24:=by
 have:=uD h h0 h1
 rwa [zC,zeb]at this
theorem zkD:yM Tryz.prog 37 (zc3 Qg zcB):=by
 intro args ps r h hp;unfold zc3 at h;split at h
 ·rename_i a0 a1 a2 i;cases h;obtain⟨hqv,i0,i1⟩:zcB a0 a1 a2 i:=(zp.1 hp).1;obtain⟨⟨⟨P,hP⟩,⟨S,hS⟩,⟨Q,hQ⟩⟩,hcl⟩:=id hqv;rw[hP,hS,hQ,zl,zl,zl]at hcl;have g0:V.frzs a0=a0:=by rw[hP,zt]
  have g1:V.frzs a1=a1:=by rw[hS,zt]
  have g2:V.frzs a2=a2:=by rw[hQ,zt]
  have hpl:a0.length=P.length:=by rw[hP,zg]
  have gp:∀k,a0.getD k (.int .i64 0)=.int .i64 (P.getD k 0):=fun k=>by rw[hP,zG]
  have n24:=hcl.n24;have hf0:Qg a0 a1 a2 i=I (zC P i):=by rw[Qg,hP,zl]
  rw[hpl]at i1;generalize zw7:zoX=zqH,yu:qU=yP;refine zH (B:=[]) (Bi:=[(86,0,false,ztv zqH yP)]) [0,1,2,4,5] Tryz.func37 rfl rfl zF (by subst zw7 yu;exact(yE zzk zA)) ?_;intro L lp rr hL hr hf hlp;have Er:∀xs:List Int,zqH (I xs)=I xs.reverse:=fun xs=>by rw[<-zw7,zoX,zl]
  conv=>cbv
  refine hlp (List V×Int) _ _ _ [1,2,5] (fun x=>[(wJ0 1 x.2),(wJ1 2 a0 a1 a2),(wJ2 5 x.1)])
   (fun x=> -1<=x.2/\x.2<P.length/\∃ls,x.1=I ls/\ls++upL P 32 x.2=upL P 32 i) (fun x=>(x.2+1).toNat) (([],i)) (by subst hL;rfl) ?_ ?_
  ·exact⟨by simp only;omega,by simp only;exact i1,[],rfl,rfl⟩
  rintro⟨os,j⟩ ⟨j0,j1,ls,hO,hU⟩ hfx ag hag;simp only at j0 j1 hO hU;have hul:=zy9 hcl (show-1<=i by omega) i1;have hll:ls.length<=24:=by rw[<-hU,zr]at hul;omega
  have hol:os.length=ls.length:=by rw[hO,zg]
  conv=>cbv
  simp only[zo hL,sQ,g0,g1,g2,gp,hpl];refine⟨fun h2=>?_,fun h2=>?_⟩
  ·have hlow:=hcl.low (i:=j.toNat) (by omega)
   (repeat' first|(exact yL _)|(exact jY rfl)|(exact qG _)|(apply And.intro)|(intro _))<;>(try first|exact True.intro|omega|rfl|(simp only[zj,zu,zg];omega))
   refine hag (_,P.getD j.toNat 0) ⟨by simp only;omega,by simp only;omega,ls++[j],?_,?_⟩ (by simp only;omega)
   ·simp only;rw[hO,<-qW];rfl
   ·simp only;rw[zU,zc4,<-zvS hcl h2 j1];exact hU
  ·rw[zy8 P (by omega),yp]at hU;have hEr:zqH os=I (zC P i):=(by rw[hO,Er,hU,zC]);rw[hEr];refine⟨by rw[<-yu,hO];exact⟨⟨_,rfl⟩,by rw[zg];omega⟩,?_⟩;rw[hr,hf0]
 ·cases h
theorem zir:yM Tryz.prog 44 (zc3 Qg zcB):=by
 intro args ps r h hp;unfold zc3 at h;split at h
 ·rename_i a0 a1 a2 i;cases h;obtain⟨hqv,i0,i1⟩:zcB a0 a1 a2 i:=(zp.1 hp).1;obtain⟨⟨⟨P,hP⟩,⟨S,hS⟩,⟨Q,hQ⟩⟩,hcl⟩:=id hqv;rw[hP,hS,hQ,zl,zl,zl]at hcl;have g0:V.frzs a0=a0:=by rw[hP,zt]
  have g1:V.frzs a1=a1:=by rw[hS,zt]
  have g2:V.frzs a2=a2:=by rw[hQ,zt]
  have hpl:a0.length=P.length:=by rw[hP,zg]
  have gp:∀k,a0.getD k (.int .i64 0)=.int .i64 (P.getD k 0):=fun k=>by rw[hP,zG]
  have n24:=hcl.n24;have hf0:Qg a0 a1 a2 i=I (zC P i):=by rw[Qg,hP,zl]
  rw[hpl]at i1;refine zH (B:=[]) (Bi:=[]) [0,1,2,4,5] Tryz.func44 rfl rfl zF zA ?_;intro L lp rr hL hr hf hlp
  conv=>cbv
  refine hlp (List V×Int) _ _ _ [1,2,5] (fun x=>[(wJ0 1 x.2),(wJ1 2 a0 a1 a2),(wJ2 5 x.1)])
   (fun x=> -1<=x.2/\x.2<P.length/\∃ls,x.1=I ls.reverse/\ls++upL P 32 x.2=upL P 32 i) (fun x=>(x.2+1).toNat) (([],i)) (by subst hL;rfl) ?_ ?_
  ·exact⟨by simp only;omega,by simp only;exact i1,[],rfl,rfl⟩
  rintro⟨os,j⟩ ⟨j0,j1,ls,hO,hU⟩ hfx ag hag;simp only at j0 j1 hO hU;have hul:=zy9 hcl (show-1<=i by omega) i1;have hll:ls.length<=24:=by rw[<-hU,zr]at hul;omega
  have hol:os.length=ls.length:=by rw[hO,zg,zeb]
  conv=>cbv
  simp only[zo hL,sQ,g0,g1,g2,gp,hpl];refine⟨fun h2=>?_,fun h2=>?_⟩
  ·have hlow:=hcl.low (i:=j.toNat) (by omega);refine⟨by rw[hO];exact zg5 _,by rw[hol];simp only[zj,zu];omega,by rw[hO];exact zeA _,h2,by omega,?_⟩;refine hag (_,P.getD j.toNat 0) ⟨by simp only;omega,by simp only;omega,ls++[j],?_,?_⟩ (by simp only;omega)
   ·simp only;rw[hO,List.reverse_append,<-qW];rfl
   ·simp only;rw[zU,zc4,<-zvS hcl h2 j1];exact hU
  ·rw[zy8 P (by omega),yp]at hU;rw[hr,hf0,hO,hU,zC]
 ·cases h
def zmi(_ b _ d:List V):List V:=I (yg (cdN (yD b) (yD d)))
def zrT(a b c d:List V):Prop:=Zd a b c/\∃i,d=I (zC (yD a) i)/\0<=i/\i<a.length
theorem zjS{P S Q:List Int}(h:ClP P S Q){i:Int}(h0:0<=i)(h1:i<P.length){j:Nat}(hj:j<(zC P i).length):0<=(zC P i).getD j 0/\(zC P i).getD j 0<P.length:=by
 have:=(zej h i (by omega) h1).1 _ (show(zC P i).getD j 0∈zC P i by rw[zd,ze hj];exact yq _);omega
theorem zud{P S Q:List Int}(h:ClP P S Q){i:Int}(h0:0<=i)(h1:i<P.length){j:Nat}(hj:j<(zC P i).length)(hs:0<=S.getD ((zC P i).getD j 0).toNat 0):
 0<=idx (zC P i) (S.getD ((zC P i).getD j 0).toNat 0)/\idx (zC P i) (S.getD ((zC P i).getD j 0).toNat 0)<24/\(j:Int)-idx (zC P i) (S.getD ((zC P i).getD j 0).toNat 0)=(YX S (zC P i) j:Nat):=by
 have hm:=(zcT h i (by omega) h1).1 _ (show(zC P i).getD j 0∈zC P i by rw[zd,ze hj];exact yq _) hs;obtain⟨k,hk⟩:=qEx ((zC P i).idxOf (S.getD ((zC P i).getD j 0).toNat 0));have hi:=ziM hm;rw[<-hk]at hi;have hkl:k<(zC P i).length:=by rw[hk];exact List.idxOf_lt_length_iff.2 hm
 have hlen:=uD h (show-1<=i by omega) h1
 have hlt:k<j:=by
  have hp:=List.pairwise_iff_getElem.1 (zej h i (by omega) h1).2
  have hpk:(zC P i)[k]=S.getD ((zC P i).getD j 0).toNat 0:=by
   simp only[hk];exact List.getElem_idxOf _
  have hpj:(zC P i)[j]=(zC P i).getD j 0:=by rw[zd,ze hj];rfl
  have hg:=zjS h h0 h1 hj;have hl:=h.low (i:=((zC P i).getD j 0).toNat) (by omega);have h00:((zC P i).getD j 0).toNat≠0:=fun e=>by have:=(hl.2.2.2.2.2 e).2;omega
  have h4:=hl.2.2.2.1 (by omega);rcases Nat.lt_trichotomy k j with h5|h5|h5
  ·exact h5
  ·subst h5;rw[hpj]at hpk;omega
  ·have:=hp j k hj hkl h5;rw[hpj,hpk]at this;omega
 rw[hi,YX,if_pos hs,hi];omega
theorem zpE:yM Tryz.prog 92 (zgS zmi zrT):=by
 intro args ps r h hp;unfold zgS at h;split at h
 ·rename_i a0 a1 a2 a3;cases h;obtain⟨hqv,i,hpi,i0,i1⟩:zrT a0 a1 a2 a3:=(zp.1 hp).1;obtain⟨⟨⟨P,hP⟩,⟨S,hS⟩,⟨Q,hQ⟩⟩,hcl⟩:=id hqv;rw[hP,hS,hQ,zl,zl,zl]at hcl;have g0:V.frzs a0=a0:=by rw[hP,zt]
  have g1:V.frzs a1=a1:=by rw[hS,zt]
  have g2:V.frzs a2=a2:=by rw[hQ,zt]
  have hpl:a0.length=P.length:=by rw[hP,zg]
  have hsl:a1.length=P.length:=by rw[hS,zg,hcl.sl]
  rw[hpl]at i1;obtain⟨p,hpp⟩:=qEx (zC P i);rw[hP,zl,<-hpp]at hpi;have g3:V.frzs a3=a3:=by rw[hpi,zt]
  have hal:a3.length=p.length:=by rw[hpi,zg]
  have ga:∀k,a3.getD k (.int .i64 0)=.int .i64 (p.getD k 0):=fun k=>by rw[hpi,zG]
  have gs:∀k,a1.getD k (.int .i64 0)=.int .i64 (S.getD k 0):=fun k=>by rw[hS,zG]
  have n24:=hcl.n24;have hlen:=uD hcl (show-1<=i by omega) i1;rw[<-hpp]at hlen;have hpg:=fun j hj=>zjS hcl i0 i1 (j:=j) hj;have hc1:=fun j hj hs=>zud hcl i0 i1 (j:=j) hj hs;rw[<-hpp]at hpg hc1;have hf0:zmi a0 a1 a2 a3=I (yg (cdN S p)):=by rw[zmi,hpi,hS,zl,zl]
  have hfi:∀x,zaH a3 x=idx p x:=fun x=>by rw[zaH,hpi,zl]
  have hqi:∀x,JJ a3 x:=fun x=>⟨⟨p,hpi⟩,by rw[hal];omega⟩;generalize KB:zaH=zbL,uI:JJ=Zw;refine zH (B:=[(93,zc1 zbL Zw)]) (Bi:=[]) [0,1,2,4,5,6,7,8] Tryz.func92 rfl rfl (by subst KB uI;exact(zm zhr zF)) zA ?_;intro L lp rr hL hr hf hlp;have Ei:∀x,zbL a3 x=idx p x:=by rw[<-KB];exact hfi
  have Qi:∀x,Zw a3 x:=by rw[<-uI];exact hqi
  conv=>cbv
  refine hlp (List V×Int) _ _ _ [1,2,5,6] (fun x=>[(wJ3 1 a3),(wJ1 2 a0 a1 a2),(wJ2 5 x.1),(wJ0 6 x.2)])
   (fun x=>1<=x.2/\(x.2<=p.length\/x.2=1)/\x.1=I (yg (yQ (fun t=>YX S p (t+1)) (x.2-1).toNat))) (fun x=>(p.length-x.2).toNat) (([],1)) (by subst hL;rfl) ?_ ?_
  ·exact⟨by simp,.inr rfl,rfl⟩
  rintro⟨os,j⟩ ⟨j0,j1,hO⟩ hfx ag hag;simp only at j0 j1 hO
  conv=>cbv
  simp only[zo hL,sQ,g0,g1,g2,g3,ga,gs,hal,hsl,Ei];refine⟨fun h2=>?_,fun h2=>?_⟩
  ·have hol:os.length=j.toNat-1:=(by rw[hO,zg,qD,yi];omega);have hg:=hpg j.toNat (by omega)
   have hnx:∀c:Nat,c=YX S p j.toNat->0<=j->(1<=j+1/\(j+1<=p.length\/j+1=1)/\os++[V.int .i64 (c:Int)]=I (yg (yQ (fun t=>YX S p (t+1)) (j+1-1).toNat))):=fun c hc _=>by
    refine⟨by omega,.inl (by omega),?_⟩;rw[hO,show(j+1-1).toNat=(j-1).toNat+1 by omega,QF,Ys,<-qW,show(j-1).toNat+1=j.toNat by omega,hc];rfl
   rw[zn (n:=j+1)];refine⟨by omega,h2,hg.1,hg.2,fun h3=>?_,fun h3=>?_⟩
   ·obtain⟨c1,c2,c3⟩:=hc1 j.toNat (by omega) h3
    have e1:IntKind.wrap .i64 (j-idx p (S.getD (p.getD j.toNat 0).toNat 0))=(YX S p j.toNat:Nat):=by
     rw[zn (by omega) (by omega),<-c3];omega
    rw[e1];refine⟨Qi _,rfl,by simp only[zj,zu];omega,fun x hx=>by(simp only[yd]at hx;subst hx;rfl),?_⟩;exact hag (_,j+1) (hnx _ rfl (by omega)) (by simp only;omega)
   ·refine⟨rfl,by simp only[zj,zu];omega,fun x hx=>by(simp only[yd]at hx;subst hx;rfl),?_⟩;exact hag (_,j+1) (hnx 0 (by rw[YX,if_neg h3]) (by omega)) (by simp only;omega)
  ·have he:(j-1).toNat=p.length-1:=(by omega);rw[hr,hf0,hO,he,cdN]
 ·cases h
def zr3(a b:List V):Bool:=decide (b.length<=a.length)&&Zh (a.take b.length) b
def zyf(a b:List V):Prop:=Yo a/\Yo b/\a.length<=1000000/\b.length<=1000000
theorem zrH:yM Tryz.prog 125 (YH zr3 zyf):=by
 intro args ps r h hp;unfold YH at h;split at h
 ·rename_i a0 a1;cases h;obtain⟨⟨ys,has⟩,⟨bs,hbs⟩,h1,h2⟩:zyf a0 a1:=(zp.1 hp).1;have g0:V.frzs a0=a0:=by rw[has,zt]
  have g1:V.frzs a1=a1:=by rw[hbs,zt]
  have g2:∀k,V.frzs (a0.take k)=a0.take k:=fun k=>by rw[has,zbg,zt]
  generalize ZP:Zh=JW,JE:zjM=zck;refine zH (B:=[(97,YH JW zck)]) (Bi:=[]) [0,1,4] Tryz.func125 rfl rfl (by subst ZP JE;exact(zm zfj zF)) zA ?_;intro L lp rr hL hr hf hlp
  conv=>cbv
  simp only[zo hL,sQ,g0,g1,ur,g2,zL];have h0:decide ((a1.length:Int)<=a0.length)=decide (a1.length<=a0.length):=by rw[decide_eq_decide];omega
  refine⟨fun _=>by omega,fun _=>by omega,fun _=>?_,?_⟩
  ·rw[<-JE];exact⟨⟨_,by rw[has,zbg]⟩,⟨_,hbs⟩⟩
  ·rw[hr,zr3,h0,<-ZP]
 ·cases h
theorem zsr{n:Nat}{l:List Nat}{L:List Int}(h:zlL n l L):L.getD 0 0=(n:Int)/\0<L.length:=by
 obtain⟨hb,hne,m,rfl⟩:=h;have hlo:=hb.lo;have hlen:0<(yg (uw 0 n l++List.replicate m 1)).length:=List.length_pos_iff.2 hne;refine⟨?_,hlen⟩
 have h0:(uw 0 n l++List.replicate m 1).getD 0 0=n:=by
  cases l with
  |nil=>
   have h1:n=1:=hb.val;subst h1
   cases m with
   |zero=>simp[uw,yg]at hne
   |succ m=>rfl
  |cons t l=>
   have h1:=hb.val.1;have h2:0<t/n:=Nat.div_pos (by omega) (by omega);rw[uw,uS (by omega),Nat.sub_zero,show t/n=(t/n-1)+1 by omega,yI];rfl
 have:=YC (uw 0 n l++List.replicate m 1) 0 0;rw[h0]at this;exact this
def zct(a:List V):List V×Bool:=(I (zuC (yD a)),true)
def zrU(a:List V):Prop:=∃n l L,a=I L/\zlL n l L/\L.length<=100000
def zi4(f:List V->List V×Bool)(q:List V->Prop):zO:=fun
 |[.slc false 2 (.int .i64 0) a0]=>some ([q a0],.tup [.agg [.slc true 2 (.int .i64 0) ((f a0).1)],.bool ((f a0).2)])
 |_=>none
theorem zhj:yM Tryz.prog 111 (zi4 zct zrU):=by
 intro args ps r h hp;unfold zi4 at h;split at h
 ·rename_i a0;cases h;obtain⟨n,l,ls,hL0,hs,hLl⟩:zrU a0:=(zp.1 hp).1;have g0:V.frzs a0=a0:=by rw[hL0,zt]
  have hal:a0.length=ls.length:=by rw[hL0,zg]
  have gal:∀k,a0.getD k (.int .i64 0)=.int .i64 (ls.getD k 0):=fun k=>by rw[hL0,zG]
  obtain⟨hh,hlen⟩:=zsr hs;have hf0:zct a0=(I (yg (n::l)),true):=by rw[zct,hL0,zl,zf6 hs]
  obtain⟨hb,hne,m,hLe⟩:=hs;have hlo:=hb.lo;have hhi:=hb.hi;obtain⟨ni,hni⟩:=qEI n;obtain⟨lm,hlm⟩:=qEI ls.length;have hh2:ls.getD 0 0=ni:=by rw[hh,hni]
  generalize zbl:zfY=zhZ,zbh:zlZ=zlR,zqE:zr3=zxN,zqx:zyf=zEA,YK:jq=zbq,uV:zgW=JX,ji:kA=kw,yu:qU=yP;refine zH (B:=[(125,YH zxN zEA),(126,zdO zbq JX),(50,YY kw yP)]) (Bi:=[(124,0,true,zmm zhZ zlR)]) [0,2,3,4,5,6,7,8,9,10,12,90,91,92] Tryz.func111 rfl rfl (by subst zbl zbh zqE zqx YK uV ji yu;exact(zm zrH (zm ziB (zm zdn zF)))) (by subst zbl zbh zqE zqx YK uV ji yu;exact(zrs zkY zA)) ?_;intro L lp rr hL hr hf hlp
  conv=>cbv
  simp only[zo hL,sQ,g0,hal,gal,hh2,<-hlm];refine⟨by omega,by omega,by omega,by omega,fun h1=>?_,fun h1=>?_⟩
  refine hlp (List V×Int×Int×Int) _ _ _ [0,2,4,5,6,7] (fun x=>[(wJ3 0 a0),(wJ7 2),(wJ9 4 x.1),(wJ0 5 x.2.1),(wJ0 6 x.2.2.1),(wJ0 7 x.2.2.2)])
   (fun x=>∃(pre rest:List Nat) (p e m:Nat),x.1=I (yg (n::pre))/\l=pre++rest/\x.2.1=(e:Int)/\x.2.2.1=(p:Int)/\0<e/\e<=64/\p<=2000/\e ∣ p/\Val p e rest/\0<=x.2.2.2/\x.2.2.2<=lm/\ls.drop x.2.2.2.toNat=yg (uw p e rest++List.replicate m 1)) (fun x=>x.2.1.toNat) (([V.int IntKind.i64 ni],ni,0,1)) (by subst hL;rfl) ?_ ?_
  rotate_left 2
  refine hlp (List V×Int×Int×Int) _ _ _ [0,2,4,5,6,7] (fun x=>[(wJ3 0 a0),(wJ7 2),(wJ9 4 x.1),(wJ0 5 x.2.1),(wJ0 6 x.2.2.1),(wJ0 7 x.2.2.2)])
   (fun x=>∃(pre rest:List Nat) (p e m:Nat),x.1=I (yg (n::pre))/\l=pre++rest/\x.2.1=(e:Int)/\x.2.2.1=(p:Int)/\0<e/\e<=64/\p<=2000/\e ∣ p/\Val p e rest/\0<=x.2.2.2/\x.2.2.2<=lm/\ls.drop x.2.2.2.toNat=yg (uw p e rest++List.replicate m 1)) (fun x=>x.2.1.toNat) (([V.int IntKind.i64 ni],ni,0,0)) (by subst hL;rfl) ?_ ?_
  ·exact⟨[],l,0,n,m,by rw[hni];rfl,rfl,hni,rfl,by omega,hhi,by omega,⟨0,rfl⟩,hb.val.weak (by omega),by simp,by simp only;omega,hLe⟩
  rotate_left 1
  ·have hn1:n=1:=by omega
   have hl0:l=[]:=by
    cases l with
    |nil=>rfl
    |cons t l=>
     have h3:=hb.val.2.2.1;rw[hn1,zac]at h3;exact absurd rfl h3
   refine⟨[],l,0,n,m-1,by rw[hni];rfl,rfl,hni,rfl,by omega,hhi,by omega,⟨0,rfl⟩,hb.val.weak (by omega),by simp,by simp only;omega,?_⟩;simp only;rw[show(1:Int).toNat=1 from rfl,hLe,hl0,uw,yV];cases m<;>rfl
  all_goals
   rintro⟨bs,e,la,ti⟩ ⟨pre,rest,p,e',m',hB,hl,he,hp,he0,he64,hp2,hd,hv,t0,t1,hD⟩ hfx ag hag;simp only at hB he hp t0 t1 hD;have hbl:bs.length=pre.length+1:=(by rw[hB,zg,qD];rfl);have hDl:(ls.drop ti.toNat).length=ls.length-ti.toNat:=List.length_drop ..
   have hgd:∀j,ls.getD (ti.toNat+j) 0=(ls.drop ti.toNat).getD j 0:=fun j=>by
    rw[zd,zd,zZ]
   conv=>cbv
   simp only[zo hL,sQ,g0,hal,<-hlm];refine⟨fun h2=>?_,fun h2=>?_⟩
   ·cases rest with
    |nil=>have h3:e'=1:=hv
          omega
    |cons t rest=>
     obtain⟨v1,v2,v3,v4⟩:=hv;obtain⟨X,hx,hr0,hr1⟩:=ziU he0 (zjW hd v1 v3);obtain⟨q,hq⟩:=qEx ((t-p)/e');obtain⟨r,hr9⟩:=qEx ((t-p)%e');rw[<-hq,<-hr9]at hx;rw[<-hr9]at hr0 hr1;have hk:q*e'+r=t-p:=(by rw[hq,hr9,Nat.mul_comm];exact Nat.div_add_mod _ _);obtain⟨Y,hY⟩:=qEx (uw t (Nat.gcd e' t) rest++List.replicate m' 1);have hD2:ls.drop ti.toNat=yg (ex (t-p) e'++Y):=(by rw[hD,uw,zU,hY]);have hD3:ls.drop ti.toNat=yg (List.replicate q e'++r::(X++Y)):=(by rw[hD2,hx];simp);have hDn:=congrArg List.length hD3;rw[hDl,qD,zr,zx,zj]at hDn;have hqlen:ti.toNat+q<ls.length:=by omega
     have hg1:∀c,c<q->ls.getD (ti.toNat+c) 0=(e':Int):=fun c hc=>by
      rw[hgd,hD3];have h8:=YC (List.replicate q e'++r::(X++Y)) c 0;rw[zd (l:=List.replicate q e'++r::(X++Y)),List.getElem?_append_left (by rw[zx];exact hc),List.getElem?_replicate_of_lt hc]at h8;exact h8
     have hg2:ls.getD (ti.toNat+q) 0=(r:Int):=by
      rw[hgd,hD3];have h8:=YC (List.replicate q e'++r::(X++Y)) q 0;rw[zd (l:=List.replicate q e'++r::(X++Y)),yr (by rw[zx];exact zw _),zx,kF]at h8;exact h8
     refine hlp (Int×Int) _ _ _ [0,2,4,5,6,7,8,9] (fun x=>[(wJ3 0 a0),(wJ7 2),(wJ9 4 bs),(wJ0 5 e),(wJ0 6 la),(wJ0 7 ti),(wJ0 8 x.1),(wJ0 9 x.2)])
      (fun x=>∃c:Nat,c<=q/\x.1=((c*e':Nat):Int)/\x.2=ti+c) (fun x=>(ti+q-x.2).toNat) ((0,ti)) (by subst hL;rfl) ?_ ?_
     ·exact⟨0,by omega,by simp,by simp⟩
     rintro⟨k,i⟩ ⟨c,c1,hk9,hi⟩ hfx2 ag2 hag2;simp only at hk9 hi;have hin:i.toNat=ti.toNat+c:=by omega
     conv=>cbv
     simp only[zo hL,sQ,g0,hal,gal,<-hlm];have hce:c*e'<=q*e':=Nat.mul_le_mul_right _ c1;refine⟨fun _=>by omega,fun _=>trivial,fun h3=>?_,fun h3=>?_⟩
     ·have hcq:c<q:=by
       rcases zd2 c q with h4|h4
       ·exact h4
       ·have h5:=h3.2;rw[hin,show c=q by omega,hg2]at h5;omega
      rw[zn (n:=k+e),zn (n:=i+1)];refine hag2 (k+e,i+1) ⟨c+1,by omega,?_,by simp only;omega⟩ (by simp only;omega);simp only;rw[Nat.add_mul,Nat.one_mul];omega
     ·have hcq:c=q:=by
       rcases zd2 c q with h4|h4
       ·exfalso;have h5:=hg1 c h4;rw[<-hin]at h5;rcases h3 with h3|h3
        ·omega
        ·exact h3 (by rw[h5,he])
       ·omega
      have hgi:ls.getD i.toNat 0=(r:Int):=(by rw[hin,hcq,hg2]);rw[hcq]at hk9;have hkr:k+(r:Int)=((t-p:Nat):Int):=(by omega);obtain⟨kk,hkk⟩:=qEI (k+(r:Int));have hkk2:kk=((t-p:Nat):Int):=(by omega);rw[hgi];rw[zn (n:=k+(r:Int)),<-hkk,zn (n:=la+kk)]
      have Er:zhZ [] kk e=I (yg (ex (t-p) e')):=by
       rw[<-zbl,zfY,yV,hkk2,he,zww]
      have Eg:zbq e kk=((Nat.gcd e' t:Nat):Int):=by
       rw[<-YK,hkk2,he,zlp he0 (by omega),zri hd (by omega)]
      obtain⟨xn,hxn⟩:=qEI ((ex (t-p) e').length);have hdn:(ls.drop ti.toNat).length=(ex (t-p) e').length+Y.length:=by rw[hD2,qD,zr]
      have hta:List.drop ti.toNat (List.take lm.toNat a0)=I (ls.drop ti.toNat):=by
       rw[hL0,zbg,zB (by omega),zpq]
      have Eb:zxN (I (ls.drop ti.toNat)) (I (yg (ex (t-p) e')))=true:=by
       rw[<-zqE,zr3,Zh,zg,zg,qD,zbg,zl,zl,hD2,Ys];rw[Bool.and_eq_true,decide_eq_true_eq,decide_eq_true_eq];refine⟨by rw[zr,qD];omega,?_⟩;rw[show(ex (t-p) e').length=(yg (ex (t-p) e')).length by rw[qD],List.take_left]
      simp only[Er,Eg,zg,qD,<-hxn,zt,hta,Eb];refine⟨fun _=>by omega,fun _=>by omega,fun _=>trivial,fun h5=>by omega,fun _=>⟨by omega,by omega,?_,by omega,by omega,by omega,?_,fun h5=>(by cases h5),fun _=>?_⟩⟩
      ·rw[<-zbh];exact⟨by simp,by omega,by omega,by omega,by omega⟩
      ·rw[<-zqx];exact⟨⟨_,rfl⟩,⟨_,rfl⟩,by rw[zg];omega,by rw[zg,qD];omega⟩
      ·have hpl:pre.length<=2000:=by
        have h9:=zlV l n n hb.val (by omega);rw[hl,zr]at h9;omega
       have hlt:la+kk=(t:Int):=(by omega);rw[hlt,zn (n:=ti+xn)];have hgp:=ue t he0;have hgl:=Nat.le_of_dvd he0 (QT e' t);refine⟨rfl,by simp only[zW];omega,yL _,by rw[<-uV];trivial,?_⟩;refine hag (_,((Nat.gcd e' t:Nat):Int),(t:Int),ti+xn) ⟨pre++[t],rest,t,Nat.gcd e' t,m',?_,by rw[hl];simp,rfl,rfl,hgp,by omega,v2,Kl e' t,v4,by simp only;omega,by simp only;omega,?_⟩ (by simp only;omega)
       ·simp only;rw[hB,show yg (n::(pre++[t]))=yg (n::pre)++[(t:Int)] by simp[yg],<-qW];rfl
       ·simp only;rw[show(ti+xn).toNat=ti.toNat+(yg (ex (t-p) e')).length by rw[qD];omega,<-Zu,hD2,Ys,List.drop_left,hY]
   ·have he1:e'=1:=by omega
    have hr0:rest=[]:=by
     cases rest with
     |nil=>rfl
     |cons t rest=>
      have h3:=hv.2.2.1;rw[he1,zac]at h3;exact absurd rfl h3
    have hD4:ls.drop ti.toNat=yg (List.replicate m' 1):=by rw[hD,hr0,uw,yV]
    have hta:List.drop ti.toNat (List.take lm.toNat a0)=I (yg (List.replicate m' 1)):=by
     rw[hL0,zbg,zB (by omega),zpq,hD4]
    obtain⟨vd,hvd⟩:=qEx (I (yg (List.replicate m' 1)));have hvl:vd.length=m':=by rw[hvd,zg,qD,zx]
    have gvd:∀k,k<m'->vd.getD k (.int .i64 0)=.int .i64 1:=fun k hk=>by
     rw[hvd,zG];have h8:=YC (List.replicate m' 1) k 0;rw[zd (l:=List.replicate m' 1),List.getElem?_replicate_of_lt hk]at h8;exact congrArg _ h8
    have hml:m'<=ls.length:=by
     have h9:=congrArg List.length hD4;rw[qD,zx]at h9;omega
    have hfb:V.frzs bs=bs:=(by rw[hB,zt]);have hbr:=zld hb;have hll:l=pre:=(by rw[hl,hr0,yp]);rw[<-hll]at hB;have Ei:kw bs=true:=(by rw[<-ji,kA,hB,zl];exact hbr.is);obtain⟨dm,hdm⟩:=qEI m';rw[hta,<-hvd,hvl,<-hdm];refine⟨by omega,by omega,by omega,?_⟩
    refine hlp (Int) _ _ _ [2,4,90,91,92] (fun x=>[(wJ7 2),(wJ9 4 bs),(wJ3 90 vd),(wJ0 91 dm),(wJ0 92 x)])
     (fun x=>0<=x/\x<=dm) (fun x=>(dm-x).toNat) (0) (by subst hL;rfl) ?_ ?_
    ·exact⟨by omega,by omega⟩
    intro j ⟨j0,j1⟩ hfx2 ag2 hag2
    conv=>cbv
    simp only[zo hL,sQ,hvl,hfb,Ei,<-hdm];refine⟨fun h8=>?_,fun h8=>⟨?_,?_⟩⟩
    ·rw[gvd j.toNat (by omega),zn (n:=j+1)];exact⟨j0,h8,rfl,fun h9=>absurd rfl h9,fun _=>hag2 (j+1) ⟨by omega,by omega⟩ (by omega)⟩
    ·rw[<-yu,hB];exact⟨⟨_,rfl⟩,by rw[zg];have:=hbr.len;omega⟩
    ·rw[hr,hf0,hB]
 ·cases h
def zi3(f:List V->List V×Int)(q:List V->Prop):zO:=fun
 |[.slc false 2 (.int .i64 0) a0]=>some ([q a0],.tup [.agg [.slc true 2 (.int .i64 0) ((f a0).1)],.int .i64 ((f a0).2)])
 |_=>none
theorem zsE{e r s:Nat}{x y:List Nat}(hr:r≠e)(hs:s≠e):∀a b:Nat,List.replicate a e++r::x=List.replicate b e++s::y->a=b/\r=s/\x=y
 |0,0,h=>by
  simp only[Yb,yV,kG]at h;exact⟨rfl,h⟩
 |0,b+1,h=>by
  simp only[Yb,yV,yI,yf,kG]at h;exact absurd h.1 hr
 |a+1,0,h=>by
  simp only[Yb,yV,yI,yf,kG]at h;exact absurd h.1.symm hs
 |a+1,b+1,h=>by
  simp only[yI,yf,kG,true_and]at h;obtain⟨h1,h2⟩:=zsE hr hs a b h;exact⟨by rw[h1],h2⟩
def OkB:List (Nat×Nat)->Prop
 |[]=>True
 |[_]=>True
 |p::q::l=>p.1≠q.1/\1<=q.2/\OkB (q::l)
def ZK(bl:List (Nat×Nat)):List Nat:=bl.flatMap fun p=>List.replicate p.2 p.1
def Jt(bl:List (Nat×Nat)):List (List Int):=bl.map fun p=>[(p.1:Int),(p.2:Int)]
theorem zqW(bl:List (Nat×Nat)):(Jt bl).length=bl.length:=by simp[Jt]
theorem zqX{bl:List (Nat×Nat)}{i:Nat}{p:Nat×Nat}(h:bl[i]? =some p):(Jt bl).getD i []=[(p.1:Int),(p.2:Int)]:=by
 rw[Jt,zd,List.getElem?_map,h];rfl
theorem zqV(bl:List (Nat×Nat))(i:Nat)(p:Nat×Nat):(Jt bl).set i [(p.1:Int),(p.2:Int)]=Jt (bl.set i p):=by
 rw[Jt,Jt,List.map_set]
theorem zsx(a b:List (Nat×Nat)):Jt (a++b)=Jt a++Jt b:=by simp[Jt]
theorem ZT(p:Nat×Nat)(l:List (Nat×Nat)):ZK (p::l)=List.replicate p.2 p.1++ZK l:=by simp[ZK]
theorem zeS(a b:List (Nat×Nat)):ZK (a++b)=ZK a++ZK b:=by simp[ZK]
theorem zuD{v c q r:Nat}{tl:List (Nat×Nat)}{X:List Nat}(ho:OkB ((v,c)::tl))(hr:r≠v)(h:ZK ((v,c)::tl)=List.replicate q v++r::X):
 c=q/\∃c1 tl',tl=(r,c1)::tl'/\OkB tl/\ZK tl=r::X:=by
 rw[ZT]at h
 match tl,ho with
 |[],_=>
  exfalso;have h1:r∈List.replicate q v++r::X:=by simp
  rw[<-h]at h1;simp only[ZK,List.flatMap_nil,yp]at h1;exact hr (List.mem_replicate.1 h1).2
 |(v1,c1)::tl',ho=>
  obtain⟨h1,h2,h3⟩:=ho
  have h4:ZK ((v1,c1)::tl')=v1::(List.replicate (c1-1) v1++ZK tl'):=by
   rw[ZT];simp only;rw[show c1=(c1-1)+1 by have:1<=c1:=h2;omega,yI];rfl
  rw[h4]at h;obtain⟨e1,e2,e3⟩:=zsE (Ne.symm h1) hr _ _ h;have e2:v1=r:=e2;refine⟨e1,c1,tl',by rw[e2],h3,by rw[h4,e3,e2]⟩
theorem zCz{v c k:Nat}{tl:List (Nat×Nat)}{Y:List Nat}(ho:OkB ((v,c)::tl))(h:ZK ((v,c)::tl)=List.replicate k v++Y):
 k<=c/\OkB ((v,c-k)::tl)/\ZK ((v,c-k)::tl)=Y:=by
 rw[ZT]at h
 have hk:k<=c:=by
  rcases zd2 c k with h1|h1
  ·exfalso;simp only at h;rw[show k=c+(k-c) by omega,<-jx,zU,List.append_cancel_left_eq,show k-c=(k-c-1)+1 by omega,yI,yf]at h
   match tl,ho with
   |[],_=>simp[ZK]at h
   |(v1,c1)::tl',ho=>
    obtain⟨h3,h4,_⟩:=ho;rw[ZT]at h;simp only at h h4;rw[show c1=(c1-1)+1 by omega,yI,yf,kG]at h;exact h3 h.1.symm
  ·exact h1
 refine⟨hk,?_,?_⟩
 ·cases tl with
  |nil=>trivial
  |cons p tl=>exact ho
 ·rw[ZT];simp only at h ⊢;rw[show c=k+(c-k) by omega,<-jx,zU,List.append_cancel_left_eq]at h;exact h
def zih(B:List (Nat×Nat))(x:Nat):List (Nat×Nat):=match B.getLast? with
 |some p=>if p.1=x then B.set (B.length-1) (p.1,p.2+1)else B++[(x,1)]
 |none=>[(x,1)]
def Jj(L:List Nat):List (Nat×Nat):=L.foldl zih []
theorem zlH(L:List Nat)(x:Nat):Jj (L++[x])=zih (Jj L) x:=by rw[Jj,Jj,List.foldl_append];rfl
theorem zoC:∀{B:List (Nat×Nat)} {p:Nat×Nat} {x:Nat},OkB (B++[p])->p.1≠x->OkB (B++[p]++[(x,1)])
 |[],p,x,_,h=>⟨h,zw _,trivial⟩
 |[q],p,x,h,h2=>⟨h.1,h.2.1,h2,zw _,trivial⟩
 |q::q2::B,p,x,h,h2=>⟨h.1,h.2.1,zoC (B:=q2::B) h.2.2 h2⟩
theorem zwc:∀{B:List (Nat×Nat)} {p:Nat×Nat},OkB (B++[p])->OkB (B++[(p.1,p.2+1)])
 |[],p,_=>trivial
 |[q],p,h=>⟨h.1,Nat.le_add_left _ _,trivial⟩
 |q::q2::B,p,h=>⟨h.1,h.2.1,zwc (B:=q2::B) h.2.2⟩
theorem zuE:∀(k:Nat) (L:List Nat),L.length=k->OkB (Jj L)/\ZK (Jj L)=L/\(L≠[]->∃B p,Jj L=B++[p]/\1<=p.2/\L.getLast? =some p.1)
 |0,L,h=>by
  obtain rfl:=yS h;exact⟨trivial,rfl,fun h=>absurd rfl h⟩
 |k+1,L0,h=>by
  obtain⟨L,x,rfl⟩:∃L x,L0=L++[x]:=by
   have hne:L0≠[]:=fun h2=>(by rw[h2]at h;simp at h);exact⟨L0.dropLast,L0.getLast hne,(List.dropLast_concat_getLast hne).symm⟩
  obtain⟨i1,i2,i3⟩:=zuE k L (by rw[zr,zW]at h;omega);rw[zlH];by_cases hL:L=[]
  ·subst hL;exact⟨trivial,rfl,fun _=>⟨[],(x,1),rfl,zw _,rfl⟩⟩
  ·obtain⟨B,p,hB,hp1,hp2⟩:=i3 hL;have hlast:(Jj L).getLast? =some p:=(by rw[hB];simp);rw[zih,hlast];simp only;by_cases hx:p.1=x
   ·rw[if_pos hx]
    have hset:(Jj L).set ((Jj L).length-1) (p.1,p.2+1)=B++[(p.1,p.2+1)]:=by
     rw[hB,zr,zW,qJ,Zt _ _ (zw _),kF];rfl
    rw[hset];refine⟨?_,?_,fun _=>⟨B,_,rfl,by simp only;omega,by simp[hx]⟩⟩
    ·rw[hB]at i1;exact zwc i1
    ·rw[<-i2,hB,zeS,zeS,zU,<-hx];congr 1;simp[ZK,qm]
   ·rw[if_neg hx];refine⟨?_,?_,fun _=>⟨Jj L,_,rfl,zw _,by simp⟩⟩
    ·rw[hB]at i1 ⊢;exact zoC i1 hx
    ·rw[zeS,i2];rfl
theorem zmq(L:List Nat):OkB (Jj L)/\ZK (Jj L)=L/\(L≠[]->∃B p,Jj L=B++[p]/\1<=p.2/\L.getLast? =some p.1):=zuE _ L rfl
theorem zqN:∀(l:List Nat) (p e:Nat),0<e->Val p e l->2^l.length<=e
 |[],p,e,he,_=>he
 |t::l,p,e,he,h=>by
  have hg:=ue t he;have ih:=zqN l t (Nat.gcd e t) hg h.2.2.2;obtain⟨c,hc⟩:=QT e t
  have hc2:2<=c:=by
   rcases zd2 c 2 with h1|h1
   ·exfalso;have:c=0\/c=1:=(by omega);rcases this with rfl|rfl
    ·omega
    ·exact h.2.2.1 (by omega)
   ·exact h1
  rw[zj,Nat.pow_succ];have h2:Nat.gcd e t*2<=Nat.gcd e t*c:=Nat.mul_le_mul_left _ hc2;omega
def zmk(a:List V):List V:=II true (Jt (Jj (zgF (yD a))))
def zye(a:List V):Prop:=∃L:List Nat,a=I (yg L)/\L.length<=100000
theorem znk:yM Tryz.prog 128 (zmn zmk zye):=by
 intro args ps r h hp;unfold zmn at h;split at h
 ·rename_i a0;cases h;obtain⟨ls,hls,hll⟩:zye a0:=(zp.1 hp).1;have g0:V.frzs a0=a0:=by rw[hls,zt]
  have hal:a0.length=ls.length:=by rw[hls,zg,qD]
  have gal:∀k,a0.getD k (.int .i64 0)=.int .i64 ((ls.getD k 0:Nat):Int):=fun k=>by rw[hls,zG];exact congrArg _ (YC ls k 0)
  have hf0:zmk a0=II true (Jt (Jj ls)):=by rw[zmk,hls,zl,Jm]
  obtain⟨n,hn⟩:=qEI ls.length;refine zH (B:=[]) (Bi:=[]) [0,2,3,4,5] Tryz.func128 rfl rfl zF zA ?_;intro L lp rr hL hr hf hlp
  conv=>cbv
  refine hlp (List V×Int) _ _ _ [0,3,4] (fun x=>[(wJ3 0 a0),(3,none,.val (.slc true 24 (.slc true 2 (.int .i64 0) []) x.1)),(wJ0 4 x.2)])
   (fun x=>0<=x.2/\x.2<=n/\x.1=II true (Jt (Jj (ls.take x.2.toNat)))/\x.1.length<=x.2.toNat) (fun x=>(n-x.2).toNat) (([],0)) (by subst hL;rfl) ?_ ?_
  ·exact⟨by simp,by simp only;omega,rfl,by simp⟩
  rintro⟨es,i⟩ ⟨i0,i1,hI,hel⟩ hfx ag hag;simp only at i0 i1 hI hel;obtain⟨bl,hbl⟩:=qEx (Jj (ls.take i.toNat));rw[<-hbl]at hI;have hesl:es.length=bl.length:=by rw[hI,ye,zqW]
  have b7:i<n->i.toNat<ls.length:=fun h3=>by omega
  obtain⟨x,hx⟩:=qEx (ls.getD i.toNat 0);obtain⟨es2,hes2⟩:=qEx (es++[V.slc true 2 (V.int IntKind.i64 0) [V.int IntKind.i64 (x:Int),V.int IntKind.i64 0]])
  have hel3:es.length<=100000:=by
   have h3:i.toNat<=100000:=(by omega);exact Nat.le_trans hel h3
  have b1:IntKind.wrap .i64 ((es.length:Int)+1-1)=(es.length:Int):=by
   have h3:(es.length:Int)+1-1=es.length:=(by clear hI hes2;omega);rw[h3];exact zn (by clear hI hes2;omega) (by clear hI hes2;omega)
  have b2:IntKind.wrap .i64 (i+1)=i+1:=zn (by omega) (by omega)
  have b3:0<es.length->IntKind.wrap .i64 ((es.length:Int)-1)=((es.length-1:Nat):Int):=fun h3=>by
   rw[zn (by omega) (by omega)];omega
  have h2l:es2.length=es.length+1:=by rw[hes2];simp
  have b4:¬i<n->ls.length<=i.toNat:=fun h3=>by omega
  have b5:IntKind.wrap .i64 (i-1)=i-1:=zn (by omega) (by omega);have b6:i<n->0<=i+1/\i+1<=n/\(n-(i+1)).toNat<(n-i).toNat:=fun h3=>by omega
  have h2g:es2.getD es.length (.slc true 2 (.int .i64 0) [])=.slc true 2 (.int .i64 0) (I [(x:Int),0]):=by
   rw[hes2,zd,yr (zw _),kF];rfl
  have hlast:∀h3:¬i=0,∃B p,bl=B++[p]/\p.1=ls.getD (i-1).toNat 0:=fun h3=>by
   obtain⟨_,_,h5⟩:=zmq (ls.take i.toNat);have hlt:i.toNat<=ls.length:=by omega
   obtain⟨B,p,h6,_,h7⟩:=h5 (fun h8=>by
    have:=congrArg List.length h8;rw[zV,zu]at this
    omega)
   refine⟨B,p,by rw[hbl,h6],?_⟩;rw[List.getLast?_eq_getElem?,zV,List.getElem?_take_of_lt (by omega),show min i.toNat ls.length-1=(i-1).toNat by omega]at h7;rw[zd,h7];rfl
  have hadd:(i=0\/¬((x:Int)=((ls.getD (i-1).toNat 0:Nat):Int)))->zih bl x=bl++[(x,1)]:=fun h3=>by
   by_cases h4:i=0
   ·have:bl=[]:=(by rw[hbl,h4];rfl);rw[this];rfl
   ·obtain⟨B,p,h5,h6⟩:=hlast h4
    have h7:¬p.1=x:=fun h8=>by
     rcases h3 with h3|h3
     ·exact h4 h3
     ·exact h3 (by rw[<-h6,h8])
    have h8:bl.getLast? =some p:=(by rw[h5];simp);rw[zih,h8];simp only;rw[if_neg h7]
  have htk:i<n->ls.take (i.toNat+1)=ls.take i.toNat++[x]:=fun h3=>by
   rw[List.take_succ,hx,zd,ze (b7 h3)];rfl
  have hsnoc:i<n->Jj (ls.take (i.toNat+1))=zih bl x:=fun h3=>by rw[htk h3,zlH,hbl]
  conv=>cbv
  simp only[zo hL,sQ,g0,hal,gal,<-hn,<-hx,<-hes2];refine⟨fun h2=>⟨fun _=>i0,fun _=>h2,fun _=>trivial,fun h3=>?_,fun h3=>?_,fun _=>trivial,fun h3=>?_,fun h3=>?_⟩,fun h2=>?_⟩
  ·rw[zn (by omega) (by omega)];omega
  ·rw[zn (by omega) (by omega)];omega
  ·have h2l3:(es2.length:Int)=es.length+1:=(by rw[h2l];rfl);rw[h2l3,b1,b2,zL];simp only[h2g,zcQ,h2l,zg,zG,uy];have hlt:es.length<es.length+1:=Nat.lt_succ_self _;have hl2:[(x:Int),0].length=2:=rfl;simp only[hl2];refine⟨i0,h2,?_,jY (by simp[V.solid]),jD _,Int.lt_succ _,hlt,rfl,hlt,rfl,by omega,by omega,hlt,rfl,by omega,rfl,?_⟩
   ·simp only[zW];have:(es.length:Int)<=100000:=Int.ofNat_le.2 hel3;omega
   refine⟨hlt,rfl,by omega,by omega,hlt,rfl,by omega,rfl,?_⟩;obtain⟨c1,c2,c3⟩:=b6 h2;rw[b5]at h3;refine hag (_,i+1) ⟨c1,c2,?_,?_⟩ c3
   ·simp only[ya i0];rw[hsnoc h2,hadd h3,zsx,Zv,hes2,Zt _ _ (zw _),kF,hI];rfl
   ·simp only[ya i0,yj,h2l];exact Nat.succ_le_succ hel
  ·have h30:¬i=0:=h3.1;have h31:=h3.2;rw[b5]at h31;obtain⟨B,p,h5,h6⟩:=hlast h30
   have hpx:p.1=x:=by
    have h32:(x:Int)=((ls.getD (i-1).toNat 0:Nat):Int):=h31;rw[h6];exact(Int.ofNat_inj.1 h32).symm
   have h8:bl.getLast? =some p:=(by rw[h5];simp);have hblen:bl.length=B.length+1:=(by rw[h5];simp);have hel4:es.length-1=B.length:=(by rw[hesl,hblen];rfl);have hpos:0<es.length:=by rw[hesl,hblen];exact Nat.succ_pos _
   have hadd2:zih bl x=bl.set B.length (p.1,p.2+1):=by
    rw[zih,h8];simp only;rw[if_pos hpx,hblen];rfl
   have hgp:bl[B.length]? =some p:=by rw[h5,yr (zw _),kF];rfl
   have hg:es.getD B.length (.slc true 2 (.int .i64 0) [])=.slc true 2 (.int .i64 0) (I [(p.1:Int),(p.2:Int)]):=by
    rw[hI,qu,zqX hgp]
   have hp2:p.2<=100000:=by
    have h9:=(zmq (ls.take i.toNat)).2.1;rw[<-hbl,h5,zeS]at h9;have h10:=congrArg List.length h9;rw[zr,zV,ZT,zr,zx]at h10;omega
   have hlt:B.length<es.length:=by rw[hesl,hblen];exact Nat.lt_succ_self _
   have hw:IntKind.wrap .i64 ((p.2:Int)+1)=((p.2+1:Nat):Int):=by
    rw[zn (by omega) (by omega)];rfl
   rw[b3 hpos,hel4,b2,zL];have hl2:[(p.1:Int),(p.2:Int)].length=2:=rfl;have hg1:[(p.1:Int),(p.2:Int)].getD 1 0=p.2:=rfl;simp only[hg,zcQ,zg,zG,uy,hl2,hg1,hw];obtain⟨c1,c2,c3⟩:=b6 h2;refine⟨jD _,Int.ofNat_lt.2 hlt,hlt,rfl,hlt,rfl,by omega,by omega,hlt,rfl,by omega,rfl,hlt,rfl,by omega,by omega,hlt,rfl,by omega,rfl,?_⟩;refine hag (_,i+1) ⟨c1,c2,?_,?_⟩ c3
   ·simp only[ya i0];rw[hsnoc h2,hadd2,<-zqV,<-zd5,hI];rfl
   ·simp only[ya i0,yj];exact Nat.le_succ_of_le hel
  ·have h5:ls.take i.toNat=ls:=zB (b4 h2);rw[hr,hf0,hI,hbl,h5]
 ·cases h
theorem zzi{n:Nat}{l:List Nat}{L:List Int}(h:zlL n l L):∀i,i+1<L.length->L.getD (i+1) 0<=L.getD i 0:=by
 obtain⟨hb,_,m,rfl⟩:=h;intro i hi;obtain⟨hg,_⟩:=KU (zld hb)
 have h1:∀j,j<(yg (uw 0 n l++List.replicate m 1)).length->(yg (uw 0 n l++List.replicate m 1)).getD j 0=(mul (yg (n::l)) j:Int):=fun j hj=>by
  have h2:(yg (uw 0 n l++List.replicate m 1)).getD j 0=(yg (uw 0 n l++List.replicate m 1)).getD j 1:=by
   rw[zd,ze hj,zd,ze hj];rfl
  have h3:yg (List.replicate m 1)=List.replicate m 1:=by simp[yg]
  rw[h2,Ys,h3,zhH,<-zv1 hb,zni]
 rw[h1 _ hi,h1 _ (by omega)];have:=hg.fall i;omega
theorem zsU:∀(l:List (Nat×Nat)) (p:Nat×Nat),OkB (p::l)->l.length<=(ZK l).length
 |[],_,_=>Nat.zero_le _
 |q::l,p,h=>by
  have ih:=zsU l q h.2.2;have h2:1<=q.2:=h.2.1;rw[ZT,zr,zx,zj];omega
theorem zAw{B:List (Nat×Nat)}(x:Nat)(h:B≠[]):(zih B x).head?.map Prod.fst=B.head?.map Prod.fst:=by
 rw[zih]
 match B,h with
 |[p],_=>
  simp only[List.getLast?_singleton];split<;>rfl
 |p::q::B,_=>
  cases h2:(p::q::B).getLast? with
  |none=>simp at h2
  |some r=>
   simp only;split
   ·rw[show(p::q::B).length-1=B.length+1 by simp];rfl
   ·rfl
theorem zpg:∀(k:Nat) (L:List Nat),L.length=k->(Jj L).head?.map Prod.fst=L.head?
 |0,L,h=>by
  obtain rfl:=yS h;rfl
 |k+1,L0,h=>by
  obtain⟨L,x,rfl⟩:∃L x,L0=L++[x]:=by
   have hne:L0≠[]:=fun h2=>(by rw[h2]at h;simp at h);exact⟨L0.dropLast,L0.getLast hne,(List.dropLast_concat_getLast hne).symm⟩
  have ih:=zpg k L (by rw[zr,zW]at h;omega);rw[zlH];by_cases hL:L=[]
  ·subst hL;rfl
  ·have hb:Jj L≠[]:=fun h2=>by
    have h3:=(zmq L).2.1;rw[h2]at h3;exact hL h3.symm
   rw[zAw x hb,ih]
   cases L with
   |nil=>exact absurd rfl hL
   |cons y L=>rfl
theorem zz7{α:Type}{l tl:List α}{k:Nat}{x y:α}(h:l.drop k=x::tl)(hk:k<l.length):(l.set k y).drop k=y::tl:=by
 have hsp:l=l.take k++x::tl:=by rw[<-h,jI]
 have hl:(l.take k).length=k:=by rw[zV];omega
 have h2:l.set k y=l.take k++y::tl:=by
  conv=>lhs;rw[hsp]
  rw[Zt _ _ (by omega),hl,kF];rfl
 rw[h2]
 conv=>lhs;rw[<-hl]
 rw[hl];have h3:=List.drop_left (l₁:=l.take k) (l₂:=y::tl);rw[hl]at h3;exact h3
def zya(a:List V):Prop:=∃n l L,a=I L/\zlL n l L/\L.length<=1000
theorem znj:yM Tryz.prog 114 (zi4 zct zya):=by
 intro args ps r h hp;unfold zi4 at h;split at h
 ·rename_i a0;cases h;obtain⟨n,l,ls,hL0,hs,hLl⟩:zya a0:=(zp.1 hp).1;have g0:V.frzs a0=a0:=by rw[hL0,zt]
  have hal:a0.length=ls.length:=by rw[hL0,zg]
  have gal:∀k,a0.getD k (.int .i64 0)=.int .i64 (ls.getD k 0):=fun k=>by rw[hL0,zG]
  have hfall:=zzi hs;obtain⟨hh,hlen⟩:=zsr hs;have hf0:zct a0=(I (yg (n::l)),true):=by rw[zct,hL0,zl,zf6 hs]
  obtain⟨hb,hne,m,hLe⟩:=hs;have hlo:=hb.lo;have hhi:=hb.hi;obtain⟨ni,hni⟩:=qEI n;obtain⟨lm,hlm⟩:=qEI ls.length;have hh2:ls.getD 0 0=ni:=by rw[hh,hni]
  obtain⟨N,hN⟩:=qEx (uw 0 n l++List.replicate m 1);rw[<-hN]at hLe;obtain⟨bl0,hbl0⟩:=qEx (Jj N);obtain⟨vb,hvb⟩:=qEx (II true (Jt bl0));have hfb:zmk a0=vb:=by rw[zmk,hL0,zl,hLe,Jm,<-hbl0,hvb]
  have hNl:N.length=ls.length:=by rw[hLe,qD]
  obtain⟨hok0,hex0,hlast0⟩:=zmq N;rw[<-hbl0]at hok0 hex0;have hbr:=zld hb;have hsm:=zqN l n n (by omega) hb.val;generalize zxm:zmk=zxL,zw1:zye=zEz,ji:kA=kw,yu:qU=yP;refine zH (B:=[(128,zmn zxL zEz),(73,YY kw yP)]) (Bi:=[]) [0,2,3,4,5,6,7,8,9,10,11] Tryz.func114 rfl rfl (by subst zxm zw1 ji yu;exact(zm znk (zm zaQ zF))) zA ?_;intro L lp rr hL hr hf hlp;have Eb:zxL a0=vb:=by rw[<-zxm,hfb]
  conv=>cbv
  refine hlp (Int) _ _ _ [0,2,4] (fun x=>[(wJ3 0 a0),(wJ7 2),(wJ0 4 x)])
   (fun x=>1<=x/\x<=lm) (fun x=>(lm-x).toNat) (1) (by subst hL;rfl) ?_ ?_
  ·exact⟨by omega,by omega⟩
  intro i ⟨i0,i1⟩ hfx ag hag
  have hfi:i<lm->ls.getD i.toNat 0<=ls.getD (i-1).toNat 0:=fun h=>by
   have:=hfall (i-1).toNat (by omega);rw[show(i-1).toNat+1=i.toNat by omega]at this;exact this
  have b1:IntKind.wrap .i64 (i-1)=i-1:=zn (by omega) (by omega);have b2:IntKind.wrap .i64 (i+1)=i+1:=zn (by omega) (by omega)
  conv=>cbv
  simp only[zo hL,sQ,g0,hal,gal,<-hlm,b1,b2,Eb,hh2];refine⟨fun h2=>⟨by omega,by omega,by omega,by omega,fun h3=>?_,fun h3=>hag (i+1) ⟨by omega,by omega⟩ (by omega)⟩,fun h2=>⟨?_,by omega,by omega,by omega,by omega,?_⟩⟩
  ·have:=hfi h2;omega
  ·rw[<-zw1];exact⟨N,by rw[hL0,hLe],by omega⟩
  clear hag hfx ag
  refine hlp (List V×List V×Int×Int×Int) _ _ _ [2,5,6,7,8,9] (fun x=>[(wJ7 2),(5,none,.val (.slc true 24 (.slc true 2 (.int .i64 0) []) x.1)),(wJ9 6 x.2.1),(wJ0 7 x.2.2.1),(wJ0 8 x.2.2.2.1),(wJ0 9 x.2.2.2.2)])
   (fun x=>∃(bl:List (Nat×Nat)) (pre rest:List Nat) (p e m a:Nat),x.1=II true (Jt bl)/\x.2.1=I (yg (n::pre))/\l=pre++rest/\x.2.2.1=(p:Int)/\x.2.2.2.1=(a:Int)/\x.2.2.2.2=(e:Int)/\0<e/\e<=64/\p<=2000/\e ∣ p/\Val p e rest/\bl.length<=2000/\(ZK (bl.drop a)).length<=1000/\OkB (bl.drop a)/\ZK (bl.drop a)=uw p e rest++List.replicate m 1/\(∀v c tl,bl.drop a=(v,c)::tl->v=e)) (fun x=>x.2.2.2.2.toNat) ((vb,[V.int IntKind.i64 ni],0,0,ni)) (by subst hL;rfl) ?_ ?_
  ·refine⟨bl0,[],l,0,n,m,0,hvb,by rw[hni];rfl,rfl,rfl,rfl,hni,by omega,hhi,by omega,⟨0,rfl⟩,hb.val.weak (by omega),?_,by rw[ur,hex0];omega,hok0,by rw[ur,hex0,hN],?_⟩
   ·cases hb9:bl0 with
    |nil=>simp
    |cons q9 l9=>
     rw[hb9]at hok0 hex0;have h3:=zsU l9 q9 hok0;have h4:=congrArg List.length hex0;rw[ZT,zr]at h4;simp only[zj];omega
   ·intro v c tl h3;rw[ur]at h3;have h4:=zpg _ N rfl;rw[<-hbl0,h3]at h4
    have h5:N.getD 0 0=n:=by
     have h6:=YC N 0 0;rw[<-hLe]at h6;have h7:ls.getD 0 0=((N.getD 0 0:Nat):Int):=h6;rw[hh]at h7;omega
    cases hN9:N with
    |nil=>rw[hN9]at h4;simp at h4
    |cons y N9=>
     rw[hN9]at h4 h5;simp only[List.head?_cons,Option.map_some,za]at h4;rw[h4];exact h5
  rintro⟨vs,bs,la,ti,e⟩ ⟨bl,pre,rest,p,e',m',a,hV,hB,hl,hp,ha,he,he0,he64,hp2,hd,hv,hbl,hel,hok,hex,hhd⟩ hfx ag hag;simp only at hV hB hp ha he;have hvl:vs.length=bl.length:=by rw[hV,ye,zqW]
  have hbsl:bs.length=pre.length+1:=by rw[hB,zg,qD];rfl
  have gvs:∀(k:Nat) (q:Nat×Nat),bl[k]? =some q->vs.getD k (.slc true 2 (.int .i64 0) [])=.slc true 2 (.int .i64 0) (I [(q.1:Int),(q.2:Int)]):=fun k q h=>by
   rw[hV,qu,zqX h]
  have hl2:∀x y:Int,[x,y].length=2:=fun _ _=>rfl;have hg0:∀x y:Int,[x,y].getD 0 0=x:=fun _ _=>rfl;have hg1:∀x y:Int,[x,y].getD 1 0=y:=fun _ _=>rfl;by_cases he1:1<e
  ·cases rest with
   |nil=>have h3:e'=1:=hv
         omega
   |cons t rest=>
    obtain⟨v1,v2,v3,v4⟩:=hv;obtain⟨X,hx,hr0,hr1⟩:=ziU he0 (zjW hd v1 v3);obtain⟨q,hq⟩:=qEx ((t-p)/e');obtain⟨r,hr9⟩:=qEx ((t-p)%e');obtain⟨Y,hY⟩:=qEx (uw t (Nat.gcd e' t) rest++List.replicate m' 1);have hxe:ex (t-p) e'=List.replicate q e'++ex e' r:=(by rw[uS he0,<-hq,<-hr9]);rw[<-hq,<-hr9]at hx;rw[<-hr9]at hr0 hr1;have hk:q*e'+r=t-p:=by rw[hq,hr9,Nat.mul_comm];exact Nat.div_add_mod _ _
    have hXe:ex e' r=r::X:=by
     have h3:=hxe.symm.trans hx;exact List.append_cancel_left h3
    have hex2:ZK (bl.drop a)=List.replicate q e'++r::(X++Y):=by
     rw[hex,uw,zU,<-hY,hx];simp
    obtain⟨c,tl,hdr⟩:∃c tl,bl.drop a=(e',c)::tl:=by
     match h3:bl.drop a with
     |[]=>
      rw[h3]at hex2;exfalso;have h4:=congrArg List.length hex2;simp[ZK]at h4
     |(v,c)::tl=>exact⟨c,tl,by rw[hhd v c tl h3]⟩
    rw[hdr]at hok hex2 hel;obtain⟨hcq,c1,tl',htl,hok2,hex3⟩:=zuD hok (by omega) hex2
    have hbA:bl[a]? =some (e',q):=by
     have h4:(bl.drop a)[0]? =some (e',c):=(by rw[hdr];rfl);rw[zZ,yk,hcq]at h4;exact h4
    have hdr1:bl.drop (a+1)=(r,c1)::tl':=by
     have h4:(bl.drop a).drop 1=tl:=(by rw[hdr];rfl);rw[Zu,htl]at h4;exact h4
    have hbB:bl[a+1]? =some (r,c1):=by
     have h4:(bl.drop (a+1))[0]? =some (r,c1):=(by rw[hdr1];rfl);rw[zZ,yk]at h4;exact h4
    have hal2:a+1<bl.length:=(zq.1 hbB).1;have ht1:ti.toNat=a:=(by omega);have ht2:(ti+1).toNat=a+1:=(by omega);have b3:IntKind.wrap .i64 (ti+1)=ti+1:=zn (by omega) (by omega);have hqe:q*e'<=2000:=(by omega);obtain⟨qe,hqe9⟩:=qEI (((q*e':Nat):Int))
    have b4:IntKind.wrap .i64 ((q:Int)*e)=qe:=by
     have h5:(q:Int)*e=((q*e':Nat):Int):=(by rw[he];push_cast;rfl);rw[h5,hqe9];exact zn (by omega) (by omega)
    have b5:IntKind.wrap .i64 (la+qe)=la+qe:=zn (by omega) (by omega)
    have b6:IntKind.wrap .i64 (la+qe+(r:Int))=(t:Int):=by
     rw[zn (by omega) (by omega)];omega
    have hpl:pre.length<=5:=by
     have h6:l.length=pre.length+(rest.length+1):=by rw[hl,zr];rfl
     have h7:l.length<=6:=by
      rcases zd2 6 l.length with h8|h8
      ·exfalso;have h9:2^7<=2^l.length:=Nat.pow_le_pow_right (by omega) (by omega);omega
      ·exact h8
     omega
    have gA:=gvs _ _ hbA;have gB:=gvs _ _ hbB
    conv=>cbv
    simp only[zo hL,sQ,hvl,b3,ht1,ht2,gA,gB,zcQ,zg,zG,uy,hl2,hg0,hg1,b4,b5,b6];refine⟨fun _=>⟨fun _=>by omega,fun _=>by omega,fun _=>by omega,fun _=>trivial,fun _=>by omega,fun _=>trivial,fun _=>by omega,fun _=>by omega,fun _=>by omega,fun _=>trivial,fun _=>by omega,fun _=>trivial,fun h3=>by omega,fun _=>⟨by omega,by omega,hal2,hal2,by omega,by omega,hal2,by omega,?_⟩⟩,fun h=>absurd he1 h⟩;obtain⟨bs2,hb2⟩:=qEx (bs++[V.int IntKind.i64 (t:Int)]);have hb2l:bs2.length=pre.length+2:=by rw[hb2,zr,hbsl];rfl
    have hB2:bs2=I (yg (n::(pre++[t]))):=by
     rw[hb2,hB,show yg (n::(pre++[t]))=yg (n::pre)++[(t:Int)] by simp[yg],<-qW];rfl
    simp only[<-hb2,hb2l];have hgp:=ue t he0;have hgl:=Nat.le_of_dvd he0 (QT e' t)
    have hgr:Nat.gcd e' r=Nat.gcd e' t:=by
     have h4:Nat.gcd e' (t-p)=Nat.gcd e' t:=zri hd (by omega);rw[<-h4,Nat.gcd_rec e' (t-p),<-hr9,Zi]
    refine⟨by omega,by omega,by omega,by omega,by omega,by omega,by omega,by omega,rfl,by simp only[zW];omega,yL _,fun h8=>by omega,fun _=>?_⟩
    refine hlp (Int×Int×Int) _ _ _ [2,5,6,7,8,9,10] (fun x=>[(wJ7 2),(5,none,.val (.slc true 24 (.slc true 2 (.int .i64 0) []) vs)),(wJ9 6 bs2),(wJ0 7 (t:Int)),(wJ0 8 x.1),(wJ0 9 x.2.1),(wJ0 10 x.2.2)])
     (fun x=>∃(a1 e1 r1 c:Nat) (tl:List (Nat×Nat)),(ZK ((r1,c)::tl)).length<=1000/\x.1=(a1:Int)/\x.2.1=(e1:Int)/\x.2.2=(r1:Int)/\0<r1/\r1<=64/\0<e1/\e1<=64/\Nat.gcd e1 r1=Nat.gcd e' t/\bl.drop a1=(r1,c)::tl/\OkB ((r1,c)::tl)/\ZK ((r1,c)::tl)=ex e1 r1++Y) (fun x=>x.2.2.toNat) ((ti+1,e,(r:Int))) (by subst hL;rfl) ?_ ?_
    ·have hel2:(ZK ((r,c1)::tl')).length<=1000:=by
      rw[<-htl];rw[ZT,zr]at hel;omega
     exact⟨a+1,e',r,c1,tl',hel2,by simp only;omega,he,rfl,hr0,by omega,he0,he64,hgr,hdr1,by rw[<-htl];exact hok2,by rw[<-htl,hex3,hXe];rfl⟩
    rintro⟨tj,f,s⟩ ⟨a1,e1,r1,c9,tl9,hel9,ha1,hf9,hs9,r0,r64,ee0,ee64,hgc,hdr9,hok9,hex9⟩ hfx2 ag2 hag2;simp only at ha1 hf9 hs9
    have hbA9:bl[a1]? =some (r1,c9):=by
     have h4:(bl.drop a1)[0]? =some (r1,c9):=(by rw[hdr9];rfl);rw[zZ,yk]at h4;exact h4
    have hA9:a1<bl.length:=(zq.1 hbA9).1;have ht9:tj.toNat=a1:=(by omega);have hm9:f.tmod s=((e1%r1:Nat):Int):=(by rw[hf9,hs9];exact(Int.ofNat_tmod e1 r1).symm);have hd9:f.tdiv s=((e1/r1:Nat):Int):=(by rw[hf9,hs9];exact(Int.ofNat_tdiv e1 r1).symm);have hdl:e1/r1<=e1:=Nat.div_le_self _ _;have hre:ex e1 r1=List.replicate (e1/r1) r1++ex r1 (e1%r1):=uS r0;have hfo:=fun h:¬e1%r1=0=>ziU r0 (k:=e1) (fun h2=>h (Nat.mod_eq_zero_of_dvd h2));obtain⟨k9,hk9e⟩:=qEx (e1/r1);rw[<-hk9e]at hd9 hdl hre;simp only[<-hk9e]at hfo;have b7:IntKind.wrap .i64 (k9:Int)=(k9:Int):=zn (by omega) (by omega);have b8:IntKind.wrap .i64 (tj+1)=tj+1:=zn (by omega) (by omega);have hs0:s≠0:=(by omega);have gA9:=gvs _ _ hbA9;by_cases hmod:e1%r1=0
    ·have hex10:ex e1 r1=List.replicate k9 r1:=(by rw[hre,hmod,zf0,yp]);rw[hex10]at hex9;obtain⟨hk9,hok10,hex11⟩:=zCz hok9 hex9;obtain⟨c10,hc10⟩:=qEx (c9-k9);rw[<-hc10]at hok10 hex11;have hm10:f.tmod s=0:=by rw[hm9,hmod];rfl
     have hc9:c9<=1000000:=by
      rw[ZT,zr,zx]at hel9;simp only at hel9;omega
     have hel10:(ZK ((r1,c10)::tl9)).length<=1000:=by
      rw[ZT,zr,zx]at hel9 ⊢;simp only at hel9 ⊢;omega
     have b9:IntKind.wrap .i64 ((c9:Int)-(k9:Int))=(c10:Int):=by
      rw[zn (by omega) (by omega)];omega
     obtain⟨vs2,hvs2⟩:=qEx (vs.set a1 (.slc true 2 (.int .i64 0) (I [(r1:Int),(c10:Int)])));have hset:(I [(r1:Int),(c9:Int)]).set 1 (V.int .i64 (c10:Int))=I [(r1:Int),(c10:Int)]:=rfl;have hv2l:vs2.length=bl.length:=by rw[hvs2,yj,hvl]
     have gA10:vs2.getD a1 (.slc true 2 (.int .i64 0) [])=.slc true 2 (.int .i64 0) (I [(r1:Int),(c10:Int)]):=by
      rw[hvs2,zd,List.getElem?_set_self (by omega)];rfl
     conv=>cbv
     simp only[zo hL,sQ,hvl,ht9,gA9,zcQ,zg,zG,uy,hl2,hg0,hg1,hm10,hd9,b7,b9,hset,<-hvs2,hv2l,gA10];refine⟨hs0,fun h=>absurd trivial h,fun _=>⟨by omega,by omega,hA9,hA9,by omega,by omega,hA9,by omega,hs0,hA9,by omega,by omega,hA9,by omega,?_⟩⟩;have hrg:r1=Nat.gcd e' t:=(by rw[<-hgc];exact(Nat.gcd_eq_right (Nat.dvd_of_mod_eq_zero hmod)).symm);have hsp:bl=bl.take a1++(r1,c9)::tl9:=by rw[<-hdr9,jI]
     have hdrs:(bl.set a1 (r1,c10)).drop a1=(r1,c10)::tl9:=by
      rw[zz7 hdr9 hA9]
     refine⟨hA9,by omega,by omega,hA9,by omega,fun h=>by omega,fun _=>?_⟩;refine hag (vs2,bs2,(t:Int),tj,s) ⟨bl.set a1 (r1,c10),pre++[t],rest,t,r1,m',a1,?_,hB2,by rw[hl];simp,rfl,ha1,hs9,r0,r64,v2,by rw[hrg];exact Kl e' t,by rw[hrg];exact v4,by rw[yj];exact hbl,by rw[hdrs];exact hel10,by rw[hdrs];exact hok10,by rw[hdrs,hex11,hY,hrg],?_⟩ ?_
     ·simp only;rw[hvs2,hV,zd5,<-zqV]
     ·intro v c tl h3;rw[hdrs]at h3;injection h3 with h3 _;injection h3 with h3 _;exact h3.symm
     ·simp only
      have h5:r1<e':=by
       rw[hrg];omega
      omega
    ·obtain⟨X2,hx2,hq0,hq1⟩:=hfo hmod;obtain⟨s1,hs1⟩:=qEx (e1%r1);rw[<-hs1]at hx2 hq0 hq1 hm9;have hex10:ZK ((r1,c9)::tl9)=List.replicate k9 r1++s1::(X2++Y):=(by rw[hex9,hx2];simp);obtain⟨hcq9,c2,tl2,htl9,hok10,hex11⟩:=zuD hok9 (by omega) hex10
     have hdr10:bl.drop (a1+1)=(s1,c2)::tl2:=by
      have h4:(bl.drop a1).drop 1=tl9:=(by rw[hdr9];rfl);rw[Zu,htl9]at h4;exact h4
     have hbB9:bl[a1+1]? =some (s1,c2):=by
      have h4:(bl.drop (a1+1))[0]? =some (s1,c2):=(by rw[hdr10];rfl);rw[zZ,yk]at h4;exact h4
     have hB9:a1+1<bl.length:=(zq.1 hbB9).1;have ht10:(tj+1).toNat=a1+1:=(by omega);have gB9:=gvs _ _ hbB9
     have hxe2:ex r1 s1=s1::X2:=by
      rw[hre,<-hs1]at hx2;exact List.append_cancel_left hx2
     rw[hcq9]at gA9
     conv=>cbv
     simp only[zo hL,sQ,hvl,b8,ht9,ht10,gA9,gB9,zcQ,zg,zG,uy,hl2,hg0,hg1,hm9,hd9,b7];refine⟨hs0,fun _=>⟨by omega,by omega,hA9,hA9,by omega,by omega,hA9,by omega,hs0,fun _=>by omega,fun _=>by omega,fun _=>hB9,fun _=>trivial,fun _=>hB9,fun _=>trivial,fun _=>by omega,fun _=>by omega,fun _=>hB9,fun _=>trivial,fun _=>by omega,fun _=>trivial,fun _=>hs0,fun h=>?_,fun _=>⟨by omega,by omega,hB9,hB9,by omega,by omega,hB9,by omega,?_⟩⟩,fun h=>by omega⟩
     ·rcases h with(h|h)|h
      ·exact absurd trivial h
      ·omega
      ·exact absurd trivial h
     ·have hgc2:Nat.gcd r1 s1=Nat.gcd e' t:=by
       rw[<-hgc,Zi e1 r1,Nat.gcd_rec r1 e1,<-hs1,Zi]
      have hel10:(ZK ((s1,c2)::tl2)).length<=1000:=by
       rw[<-htl9];rw[ZT,zr]at hel9;omega
      exact hag2 (tj+1,s,(s1:Int)) ⟨a1+1,r1,s1,c2,tl2,hel10,by simp only;omega,hs9,rfl,hq0,by omega,r0,r64,hgc2,hdr10,by rw[<-htl9];exact hok10,by rw[<-htl9,hex11,hxe2];rfl⟩ (by simp only;omega)
  ·have he9:e'=1:=by omega
   have hr0:rest=[]:=by
    cases rest with
    |nil=>rfl
    |cons t rest=>
     have h3:=hv.2.2.1;rw[he9,zac]at h3;exact absurd rfl h3
   have hfb2:V.frzs bs=bs:=(by rw[hB,zt]);have hll:l=pre:=(by rw[hl,hr0,yp]);rw[<-hll]at hB;have Ei:kw bs=true:=by rw[<-ji,kA,hB,zl];exact hbr.is
   conv=>cbv
   simp only[zo hL,sQ,hfb2,Ei];refine⟨fun h=>absurd h he1,fun _=>⟨?_,fun h=>(by cases h),fun _=>by rw[hr,hf0,hB]⟩⟩;rw[<-yu,hB];exact⟨⟨_,rfl⟩,by rw[zg];have:=hbr.len;omega⟩
 ·cases h
def okC(cs:List Nat):Bool:=(mC cs).all fun x=>decide (x<=64)
def YG(cs:List Nat):List Int:=zuC (yg (mC cs))
def zeQ(a:List V):List V×Int:=bif okC (zgF (yD a))then(I (YG (zgF (yD a))),0)else([],5)
theorem zwG{cs:List Nat}(h:okC cs=true):cvm cs=(I (yg (mC cs)),true):=by
 rw[okC,zbA,List.all_cons,Bool.and_eq_true,decide_eq_true_eq]at h;rw[cvm,if_pos h.2,decide_eq_true h.1]
theorem zAb{cs:List Nat}(h:okC cs=false):(cvm cs).2=false:=by
 rw[okC,zbA,List.all_cons,Bool.and_eq_false_iff,decide_eq_false_iff_not]at h;rw[cvm];split
 ·rename_i h2;rcases h with h|h
  ·exact decide_eq_false h
  ·rw[h2]at h;cases h
 ·rfl
theorem zwb{cs:List Nat}(hl:cs.length<=30)(h:okC cs=true):∃n l m,BrN n l/\mC cs=uw 0 n l++List.replicate m 1:=by
 obtain⟨n,l,m,h1,h2,_,_⟩:=zzF cs hl (fun x hx=>by
  rw[okC,yc]at h
  simpa using h x hx)
 exact⟨n,l,m,h1,h2⟩
theorem zDd(cs:List Nat):mC cs≠[]:=by rw[zbA];simp
theorem znh{cs:List Nat}(hl:cs.length<=30)(h:okC cs=true)(k:Nat):(∃n l,zlL n l (yg (mC cs++List.replicate k 1)))/\zuC (yg (mC cs++List.replicate k 1))=YG cs:=by
 obtain⟨n,l,m,h1,h2⟩:=zwb hl h
 have hne:∀k,yg (mC cs++List.replicate k 1)≠[]:=fun k=>by
  rw[yg];simp[zDd]
 have hs:∀k,zlL n l (yg (mC cs++List.replicate k 1)):=fun k=>⟨h1,hne k,m+k,by rw[h2,zU,jx]⟩;refine⟨⟨n,l,hs k⟩,?_⟩;have h0:=hs 0;rw[Yb,yp]at h0;rw[YG,zf6 (hs k),zf6 h0]
theorem zom:yM Tryz.prog 84 (zi3 zeQ KP):=by
 intro args ps r h hp;unfold zi3 at h;split at h
 ·rename_i a0;cases h;have hq:KP a0:=(zp.1 hp).1;obtain⟨cs,hcs,hv,hl⟩:=id hq;have g0:V.frzs a0=a0:=by rw[hcs,zt]
  have hf0:zeQ a0=bif okC cs then(I (YG cs),0)else([],5):=by rw[zeQ,hcs,zl,Jm]
  have hfm:zcs a0=cvm cs:=by rw[zcs,hcs,zl,Jm]
  have hbos:zct (I (yg (mC cs)))=(I (YG cs),true):=by rw[zct,zl,YG]
  have hqb:okC cs=true->zrU (I (yg (mC cs))):=fun h=>by
   obtain⟨⟨n,l,hs⟩,_⟩:=znh hl h 0;rw[Yb,yp]at hs;exact⟨n,l,_,rfl,hs,by rw[qD,ZI];omega⟩
  generalize zjj:zcs=zqJ,KA:KP=zbI,zjm:zct=zqK,zw0:zrU=zEy;refine zH (B:=[(110,zi2 zqJ zbI),(111,zi4 zqK zEy)]) (Bi:=[]) [0,2,3,4,5,6] Tryz.func84 rfl rfl (by subst zjj KA zjm zw0;exact(zm zd8 (zm zhj zF))) zA ?_;intro L lp rr hL hr hf hlp
  conv=>cbv
  simp only[zo hL,sQ,g0];subst zjj KA zjm zw0;rw[hfm]
  cases hok:okC cs with
  |true=>
   rw[zwG hok];dsimp only;rw[zt,hbos];refine⟨hq,fun h=>(by cases h),fun _=>⟨hqb hok,ZR _,fun h=>(by cases h),fun _=>?_⟩⟩;rw[hr,hf0,hok];rfl
  |false=>
   have h2:=zAb hok;refine⟨hq,fun _=>?_,fun h=>(nomatch (h.symm.trans h2:true=false))⟩;rw[hr,hf0,hok];rfl
 ·cases h
theorem ziw:yM Tryz.prog 91 (zi3 zeQ KP):=by
 intro args ps r h hp;unfold zi3 at h;split at h
 ·rename_i a0;cases h;have hq:KP a0:=(zp.1 hp).1;obtain⟨cs,hcs,hv,hl⟩:=id hq;have g0:V.frzs a0=a0:=by rw[hcs,zt]
  have hf0:zeQ a0=bif okC cs then(I (YG cs),0)else([],5):=by rw[zeQ,hcs,zl,Jm]
  have hfm:zcs a0=cvm cs:=by rw[zcs,hcs,zl,Jm]
  generalize zuS:ztM=zCO,KA:KP=zbI,zjj:zcs=zqJ,zuV:ziP=zCQ,zuO:zsJ=zCM,zjm:zct=zqK,zwW:zya=zEv;refine zH (B:=[(112,zuk zCO zbI),(113,zi2 zqJ zbI),(115,zum zCQ zCM),(114,zi4 zqK zEv)]) (Bi:=[]) [0,2,3,4,5,6,7] Tryz.func91 rfl rfl (by subst zuS KA zjj zuV zuO zjm zwW;exact(zm zst (zm zkV (zm zpH (zm znj zF))))) zA ?_;intro L lp rr hL hr hf hlp
  conv=>cbv
  simp only[zo hL,sQ,g0];subst zjj KA zjm zwW zuV zuO zuS;rw[hfm]
  cases hok:okC cs with
  |true=>
   rw[zwG hok]
   have e1:I (yg (mC cs))++ziP 64=I (yg (mC cs++List.replicate 64 1)):=by
    rw[ziP,qW,<-Ys];rfl
   obtain⟨⟨n,l,hs⟩,hb⟩:=znh hl hok 64;have e2:zct (I (yg (mC cs++List.replicate 64 1)))=(I (YG cs),true):=(by rw[zct,zl,hb]);dsimp only;rw[e1,zt,e2];have hone:ziP 64=I (yg (List.replicate 64 1)):=rfl;refine⟨hq,fun h=>(by cases h),fun _=>⟨hq,fun h=>(by cases h),fun _=>⟨⟨by omega,by omega⟩,(by rw[hone];exact zg5 _),?_,(by rw[hone];exact zeA _),⟨n,l,_,rfl,hs,?_⟩,ZR _,fun h=>(by cases h),fun _=>?_⟩⟩⟩
   ·rw[hone,zg,zg,qD,qD,ZI,zx];omega
   ·rw[qD,zr,ZI,zx];omega
   ·rw[hr,hf0,hok];rfl
  |false=>
   have h2:=zAb hok;refine⟨hq,fun h=>(by cases h),fun _=>⟨hq,fun _=>?_,fun h=>(nomatch (h.symm.trans h2:true=false))⟩⟩;rw[hr,hf0,hok];rfl
 ·cases h
end Go.Ax
