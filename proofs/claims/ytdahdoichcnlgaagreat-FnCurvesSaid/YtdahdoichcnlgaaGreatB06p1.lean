import Derived.Test.YtdahdoichcnlgaaGreatB05p1
import Derived.Test.YtdahdoichcnlgaaGreatB01p1
import Derived.Test.YtdahdoichcnlgaaGreatB04p1
import Derived.Test.YtdahdoichcnlgaaGreatB03p1
import Derived.Test.YtdahdoichcnlgaaGreatB02p1
set_option linter.all false
set_option maxRecDepth 100000
set_option maxHeartbeats 4000000
open Bool renaming and_eq_false_iff->jS
open Int renaming mul_comm->JO,natCast_nonneg->kP,toNat_natCast->zW,zero_mul->zfm
open List renaming all_eq_true->yd,append_assoc->zZ,append_nil->yx,cons_append->zV,drop_succ_cons->Kw,drop_zero->uw,eq_nil_of_length_eq_zero->yF,find?_range_eq_some->Zm,getD_cons_succ->yT,getD_cons_zero->qr,getD_eq_getElem?_getD->zd,getElem?_append_left->yj,getElem?_append_right->ye,getElem?_drop->zY,getElem?_eq_getElem->zg,getElem?_eq_none->zD,getElem?_eq_some_iff->zk,getElem_mem->yE,length_append->zq,length_cons->zi,length_nil->zp,length_replicate->zS,length_set->yA,length_singleton->qj,length_tail->YT,length_take->yb,mem_filter->jp,mem_range->ka,mem_singleton->ya,nil_append->yV,replicate_append_replicate->jc,replicate_succ->yw,replicate_succ'->jb,replicate_zero->ZD,set_append_right->Yr,sum_append->KD,take_append_drop->kG,take_of_length_le->zG
open List.cons renaming injEq->kf
open Nat renaming add_sub_cancel->qB,add_zero->zX,gcd_comm->jv,gcd_dvd_right->Jz,gcd_pos_of_pos_left->uy,gcd_rec->Jp,le_of_ble_eq_true->ze,le_refl->zt,lt_or_ge->zfg,sub_self->kF
open Option.some renaming injEq->za
open Prod.mk renaming injEq->zb
/-
 Multiplicities of curvettes:impl.curvetteMultiplicities,spec.l06Curvette. No conditions but those of the contracts.
-/
namespace Go.Ax
open Go.Proofs
theorem zrT(l:List Nat)(i n:Nat):(yu l).set i (n:Int)=yu (l.set i n):=by
 simp only[yu,List.map_set]
theorem zcw(l:List Nat)(i:Nat):(yu l).getD i 0=((l.getD i 0:Nat):Int):=KK l i 0
theorem zhk{α:Type}{l:List α}{i j:Nat}{x z:α}(hi:i<l.length):(l.set i x).getD j z=if j=i then x else l.getD j z:=by
 simp only[zd,List.getElem?_set];by_cases h:j=i
 ·rw[h,if_pos rfl,if_pos rfl,if_pos hi];rfl
 ·rw[if_neg (Ne.symm h),if_neg h]
theorem zBj(m:Nat):List.replicate m (V.int .i64 0)=I (yu (List.replicate m 0)):=by
 rw[I,yu,List.map_replicate,List.map_replicate];rfl
theorem zzi(m k:Nat):(List.replicate m (V.int .i64 0)).getD k (V.int .i64 0)=V.int .i64 0:=by
 rw[zd,List.getElem?_replicate];split<;>rfl
def zs3(f:List V->List V×Bool)(q:List V->Prop):zK:=fun
 |[.slc false 2 (.int .i64 0) a0]=>some ([q a0],.tup [.slc true 2 (.int .i64 0) ((f a0).1),.bool ((f a0).2)])
 |_=>none
def cvm(cs:List Nat):List V×Bool:=if(mC cs).tail.all (fun x=>decide (x<=64))=true then(I (yu (mC cs)),decide (hdM cs<=64))else([],false)
def zjW(a:List V):List V×Bool:=cvm (zeU (yO a))
def zd1(a:List V):Prop:=∃cs,a=I (yu cs)/\VC cs/\cs.length<=30
theorem zBS{cs:List Nat}{j:Nat}(h1:1<=j)(h2:j<=cs.length)(h:64<hdM (cs.drop j)):cvm cs=([],false):=by
 rw[cvm,if_neg];intro ha;rw[yd]at ha;have hl:=QI cs;have h3:=zgR cs j h2;obtain⟨t,rfl⟩:∃t,j=t+1:=⟨j-1,by omega⟩;rw[zas,yT]at h3;have ht:t<(mC cs).tail.length:=by rw[YT];omega
 have h4:=ha _ (yE ht);rw[zd,zg ht]at h3;simp only[Option.getD_some]at h3;simp only[decide_eq_true_eq]at h4;omega
theorem zz5{cs:List Nat}(h:∀i,1<=i->i<=cs.length->hdM (cs.drop i)<=64):cvm cs=(I (yu (mC cs)),decide (hdM cs<=64)):=by
 rw[cvm,if_pos];rw[yd];intro x hx;obtain⟨t,ht,rfl⟩:=List.mem_iff_getElem.1 hx;have hl:=QI cs;rw[YT]at ht;have h1:=zgR cs (t+1) (by omega);have h2:=h (t+1) (by omega) (by omega);rw[<-h1,zas,yT,zd,zg (by rw[YT];omega)]at h2;simpa using h2
def zbW(cs:List Nat)(j:Nat):List Nat:=if j=0 then[]else if cs.getD (j-1) 0=0 then[j-1]else[j-cs.getD (j-1) 0,j-1]
def zoH(f:List V->Int->List V)(q:List V->Int->Prop):zK:=fun
 |[.slc false 2 (.int .i64 0) a0,.int .i64 a1]=>some ([q a0 a1],.slc true 2 (.int .i64 0) (f a0 a1))
 |_=>none
def zjT(a:List V)(j:Int):List V:=I (yu (zbW (zeU (yO a)) j.toNat))
def zqH(a:List V)(j:Int):Prop:=∃cs,a=I (yu cs)/\VC cs/\cs.length<=30/\0<=j/\j<=cs.length
theorem zhm:yJ Tryz.prog 156 (zoH zjT zqH):=by
 intro args ps r h hp;unfold zoH at h;split at h
 ·rename_i a0 j;simp only[za,zb]at h;obtain⟨rfl,rfl⟩:=h;obtain⟨cs,hcs,hv,hl,j0,j1⟩:zqH a0 j:=(zm.1 hp).1;have g0:V.frzs a0=a0:=by rw[hcs,zA]
  have hal:a0.length=cs.length:=by rw[hcs,zj,ug]
  have ga:∀k,a0.getD k (.int .i64 0)=.int .i64 ((cs.getD k 0:Nat):Int):=fun k=>by rw[hcs,zE,zcw]
  have hf0:zjT a0 j=I (yu (zbW cs j.toNat)):=by rw[zjT,hcs,zr,zav]
  refine zI (T:=tab) (B:=[]) (Bi:=[]) [0,1,4] Tryz.func156 rfl rfl (by kernel_rfl) (ze rfl) mixed zR (by exact zB) (by exact zy) (by kernel_rfl) ?_;intro L lp rr hL hr hf hlp
  conv=>cbv
  simp only[zo hL,sQ,g0,hal,ga];refine⟨fun h1=>?_,fun h1=>?_⟩
  ·rw[hr,hf0,zbW,if_pos (by omega)];rfl
  ·obtain⟨t,ht⟩:∃t:Nat,j=t+1:=⟨(j-1).toNat,by omega⟩;have he:j.toNat=t+1:=(by omega);have e1:IntKind.wrap .i64 (j-1)=(t:Int):=(by rw[zl (by omega) (by omega)];omega);have hle:=hv.le t (by omega);rw[hr,hf0,zbW,if_neg (by omega),he,qB];simp only[e1,zW];refine⟨by omega,by omega,fun h2=>?_,fun h2=>⟨by omega,by omega,?_⟩⟩
   ·rw[if_pos (by omega)];rfl
   ·have e4:IntKind.wrap .i64 (j-((cs.getD t 0:Nat):Int))=((t+1-cs.getD t 0:Nat):Int):=(by rw[zl (by omega) (by omega)];omega);rw[if_neg (by omega),e4];rfl
 ·cases h
def zbi(A:List Nat)(j:Nat)(nl:List Nat):Nat->List Nat
 |0=>A
 |i+1=>(zbi A j nl i).set (nl.getD i 0) ((zbi A j nl i).getD (nl.getD i 0) 0+(zbi A j nl i).getD j 0)
theorem zvB{A:List Nat}{j:Nat}{nl:List Nat}(h:∀i,i<nl.length->nl.getD i 0≠j/\nl.getD i 0<A.length):∀i,i<=nl.length->(zbi A j nl i).length=A.length/\(zbi A j nl i).getD j 0=A.getD j 0/\∀x,(zbi A j nl i).getD x 0<=A.getD x 0+i*A.getD j 0
 |0,_=>⟨rfl,rfl,fun x=>by simp[zbi]⟩
 |i+1,hi=>by
  obtain⟨h1,h2,h3⟩:=zvB h i (by omega);obtain⟨h4,h5⟩:=h i (by omega);refine⟨by rw[zbi,yA,h1],?_,fun x=>?_⟩
  ·rw[zbi,zhk (by rw[h1];exact h5),if_neg (Ne.symm h4)];exact h2
  ·rw[zbi,zhk (by rw[h1];exact h5),Nat.add_mul];have:=h3 x;split
   ·rename_i hx;rw[<-hx,h2];omega
   ·omega
theorem zAl{cs:List Nat}(hv:VC cs){t:Nat}(h:t<cs.length):zbi (Yi cs (t+1)) (t+1) (zbW cs (t+1)) (zbW cs (t+1)).length=Yi cs t:=by
 rw[zbW,if_neg (by omega),qB];by_cases hc:cs.getD t 0=0
 ·rw[if_pos hc];exact zxT hv h hc
 ·rw[if_neg hc];obtain⟨h1,h2,h3⟩:=zzD hv h rfl hc;have hl:=zbb cs (t+1);simp only[zi,zp,zbi,qr,yT];rw[zhk (by omega),if_neg (by omega),zhk (by omega),if_neg (by omega),List.set_comm _ _ (by omega)];exact h1
theorem ziC:yJ Tryz.prog 154 (zs3 zjW zd1):=by
 intro args ps r h hp;unfold zs3 at h;split at h
 ·rename_i a0;simp only[za,zb]at h;obtain⟨rfl,rfl⟩:=h;obtain⟨cs,hcs,hv,hl⟩:zd1 a0:=(zm.1 hp).1;have g0:V.frzs a0=a0:=by rw[hcs,zA]
  have hal:a0.length=cs.length:=by rw[hcs,zj,ug]
  have ga:∀k,a0.getD k (.int .i64 0)=.int .i64 ((cs.getD k 0:Nat):Int):=fun k=>by rw[hcs,zE,zcw]
  have hf0:zjW a0=cvm cs:=by rw[zjW,hcs,zr,zav]
  have hfp:∀j,zjT a0 j=I (yu (zbW cs j.toNat)):=fun j=>by rw[zjT,hcs,zr,zav]
  have hqp:∀j:Int,0<=j->j<=cs.length->zqH a0 j:=fun j h0 h1=>⟨cs,hcs,hv,hl,h0,h1⟩;obtain⟨n,hn⟩:∃n:Int,n=cs.length:=⟨_,rfl⟩;generalize zpb:zjT=zvP;generalize zoV:zqH=zvH;refine zI (T:=tab) (B:=[(1000000002,zg6),(156,zoH zvP zvH)]) (Bi:=[]) [2000014056,0,3,4,5,6,7,8] Tryz.func154 rfl rfl (by kernel_rfl) (ze rfl) mixed zR (by subst zpb zoV;exact(zn zoa (zn zhm zB))) (by subst zpb zoV;exact zy) (by kernel_rfl) ?_;intro L lp rr hL hr hf hlp;have Ep:∀j,zvP a0 j=I (yu (zbW cs j.toNat)):=by rw[<-zpb];exact hfp
  have Qp:∀j:Int,0<=j->j<=cs.length->zvH a0 j:=by rw[<-zoV];exact hqp
  conv=>cbv
  simp only[zo hL,sQ,g0,hal,<-hn];rw[zl (n:=n+1) (by omega) (by omega),zl (n:=n+1-1) (by omega) (by omega),show n+1-1=n by omega];obtain⟨s0,hs0⟩:∃s0,s0=(List.replicate (n+1).toNat (V.int IntKind.i64 0)).set n.toNat (V.int IntKind.i64 1):=⟨_,rfl⟩
  have hs00:s0=I (yu (Yi cs cs.length)):=by
   rw[hs0,zwM,show(n+1).toNat=cs.length+1 by omega,show n.toNat=cs.length by omega];have e:=zBj (cs.length+1)
   have e2:(List.replicate (cs.length+1) 0).set cs.length 1=List.replicate cs.length 0++[1]:=by
    rw[jb,Yr _ _ (by simp)];simp
   rw[e,JB,show(1:Int)=((1:Nat):Int)from rfl,zrT,e2]
  rw[<-hs0,zzi,zS];refine⟨by omega,by omega,by omega,by omega,by omega,by omega,rfl,?_⟩
  refine hlp (List V×Int) _ _ _ [0,5,6] (fun x=>[(0,none,.val (.slc false 2 (.int .i64 0) a0)),(5,none,.val (.slc true 2 (.int .i64 0) x.1)),(6,none,.val (.int .i64 x.2))])
   (fun x=>0<=x.2/\x.2<=n/\x.1=I (yu (Yi cs x.2.toNat))/\∀i:Nat,x.2<i->i<=cs.length->hdM (cs.drop i)<=64) (fun x=>x.2.toNat) ((s0,n)) (by subst hL;rfl) ?_ ?_
  ·exact⟨by omega,by simp,by rw[hs00,hn];rfl,fun i h1 h2=>by simp only at h1;omega⟩
  rintro⟨ms,j⟩ ⟨j0,j1,hM,hbd⟩ hfx ag hag;simp only at j0 j1 hM hbd;have hml:ms.length=cs.length+1:=by rw[hM,zj,ug,zbb]
  have gm:∀k,ms.getD k (.int .i64 0)=.int .i64 (((Yi cs j.toNat).getD k 0:Nat):Int):=fun k=>by rw[hM,zE,zcw]
  conv=>cbv
  simp only[zo hL,sQ,g0,hal,ga,gm,hml,Ep];refine⟨fun h2=>?_,fun h2=>?_⟩
  ·obtain⟨t,ht⟩:∃t:Nat,j=t+1:=⟨(j-1).toNat,by omega⟩;have he:j.toNat=t+1:=(by omega);obtain⟨A,hA⟩:∃A,A=Yi cs (t+1):=⟨_,rfl⟩;rw[he,<-hA]at hM gm
   have hsm:∀i,A.getD i 0<=1984:=fun i=>by
    by_cases hi:i<=cs.length
    ·rw[hA];have:=zwN (cs:=cs) (j:=t+1) (by omega) (fun i h1 h2=>hbd i (by omega) h2) i hi;omega
    ·rw[zd,zD (by rw[hA,zbb];omega)];exact Nat.zero_le _
   have hA1:A.getD (t+1) 0=hdM (cs.drop (t+1)):=(by rw[hA,KL (by omega),if_neg (by omega)]);have hAl:A.length=cs.length+1:=(by rw[hA,zbb]);obtain⟨nl,hnl⟩:∃nl,nl=zbW cs (t+1):=⟨_,rfl⟩;obtain⟨vn,hvn⟩:∃vn,vn=I (yu nl):=⟨_,rfl⟩
   have hnok:nl.length<=2/\∀i,i<nl.length->nl.getD i 0≠t+1/\nl.getD i 0<A.length:=by
    have hle:=hv.le t (by omega);rw[hnl,zbW,if_neg (by omega),qB];split
    ·refine⟨by simp,fun i hi=>?_⟩;have:i=0:=(by simp at hi;omega);subst this;simp only[qr];omega
    ·refine⟨by simp,fun i hi=>?_⟩;have:i=0\/i=1:=(by simp at hi;omega);rcases this with rfl|rfl
     ·simp only[qr];omega
     ·simp only[yT,qr];omega
   have hvl:vn.length=nl.length:=(by rw[hvn,zj,ug]);have gvn:∀k,vn.getD k (.int .i64 0)=.int .i64 ((nl.getD k 0:Nat):Int):=fun k=>(by rw[hvn,zE,zcw]);have hend:=zAl hv (t:=t) (by omega);rw[<-hA,<-hnl]at hend;simp only[he,<-hA,<-hnl,<-hvn];refine⟨j0,by omega,by omega,fun h3=>?_,fun h3=>⟨Qp j j0 (by omega),?_⟩⟩
   ·rw[hr,hf0,zBS (j:=t+1) (by omega) (by omega) (by rw[<-hA1];omega)]
   have h3':A.getD (t+1) 0<=64:=by omega
   refine hlp (List V×Int) _ _ _ [0,5,6,7,8] (fun x=>[(0,none,.val (.slc false 2 (.int .i64 0) a0)),(5,none,.val (.slc true 2 (.int .i64 0) x.1)),(6,none,.val (.int .i64 j)),(7,none,.val (.slc true 2 (.int .i64 0) vn)),(8,none,.val (.int .i64 x.2))])
    (fun x=>0<=x.2/\x.2<=nl.length/\x.1=I (yu (zbi A (t+1) nl x.2.toNat))) (fun x=>(nl.length-x.2).toNat) ((ms,0)) (by subst hL;rfl) ?_ ?_
   ·exact⟨by simp,by simp,hM⟩
   rintro⟨bs,i⟩ ⟨i0,i1,hB⟩ hfx2 ag2 hag2;simp only at i0 i1 hB;obtain⟨B,hBB⟩:∃B,B=zbi A (t+1) nl i.toNat:=⟨_,rfl⟩;obtain⟨b1,b2,b3⟩:=zvB hnok.2 i.toNat (by omega);rw[<-hBB]at hB b1 b2 b3;have hbl:bs.length=cs.length+1:=(by rw[hB,zj,ug,b1,hAl]);have gb:∀k,bs.getD k (.int .i64 0)=.int .i64 ((B.getD k 0:Nat):Int):=fun k=>by rw[hB,zE,zcw]
   have hBs:∀k,B.getD k 0<=2112:=fun k=>by
    have h4:=b3 k;have h5:=hsm k;have h6:i.toNat*A.getD (t+1) 0<=2*64:=Nat.mul_le_mul (by omega) h3';omega
   conv=>cbv
   simp only[zo hL,sQ,gvn,hvl,gb,hbl];refine⟨fun h4=>?_,fun h4=>?_⟩
   ·obtain⟨k,hk⟩:∃k,k=nl.getD i.toNat 0:=⟨_,rfl⟩;obtain⟨k1,k2⟩:=hnok.2 i.toNat (by omega);rw[<-hk]at k1 k2;simp only[<-hk,he,zW];have hk2:=hBs k;have hk3:=hBs (t+1)
    have e5:IntKind.wrap .i64 (((B.getD k 0:Nat):Int)+((B.getD (t+1) 0:Nat):Int))=((B.getD k 0+B.getD (t+1) 0:Nat):Int):=by
     rw[zl (by omega) (by omega)];omega
    rw[e5,zl (n:=i+1) (by omega) (by omega)];refine⟨by omega,by omega,by omega,by omega,by omega,by omega,by omega,by omega,by omega,by omega,by omega,by omega,by omega,by omega,by omega,?_⟩;refine hag2 (_,i+1) ⟨by simp only;omega,by simp only;omega,?_⟩ (by simp only;omega);simp only[zF i0];rw[zbi,<-hBB,<-hk,hB,JB,zrT]
   ·rw[zl (n:=j-1) (by omega) (by omega)];refine hag (bs,j-1) ⟨by simp only;omega,by simp only;omega,?_,fun q h5 h6=>?_⟩ (by simp only;omega)
    ·simp only;rw[hB,hBB,show i.toNat=nl.length by omega,hend,show(j-1).toNat=t by omega]
    ·simp only at h5;by_cases h7:q=t+1
     ·rw[h7,<-hA1];omega
     ·exact hbd q (by omega) h6
  ·have h3:j=0:=(by omega);have e0:j.toNat=0:=(by omega);rw[e0]at hM;refine⟨by omega,by omega,by omega,?_⟩;rw[hr,hf0,zz5 (fun i h1 h2=>hbd i (by omega) h2),hM,e0,zzE]
   have e6:decide ((((mC cs).getD 0 0:Nat):Int)<=64)=decide (hdM cs<=64):=by
    rw[hdM];exact decide_eq_decide.2 (by omega)
   rw[e6]
 ·cases h
def zs4(f:List V->Bool)(q:List V->Prop):zK:=fun
 |[.slc false 2 (.int .i64 0) a0]=>some ([q a0],.bool (f a0))
 |_=>none
def zsw(_:List V):Bool:=true
theorem zrm:yJ Tryz.prog 153 (zs4 zsw zd1):=by
 intro args ps r h hp;unfold zs4 at h;split at h
 ·rename_i a0;simp only[za,zb]at h;obtain⟨rfl,rfl⟩:=h;obtain⟨cs,hcs,hv,hl⟩:zd1 a0:=(zm.1 hp).1;have g0:V.frzs a0=a0:=by rw[hcs,zA]
  have hal:a0.length=cs.length:=by rw[hcs,zj,ug]
  have ga:∀k,a0.getD k (.int .i64 0)=.int .i64 ((cs.getD k 0:Nat):Int):=fun k=>by rw[hcs,zE,zcw]
  refine zI (T:=tab) (B:=[]) (Bi:=[]) [0,2,3] Tryz.func153 rfl rfl (by kernel_rfl) (ze rfl) mixed zR (by exact zB) (by exact zy) (by kernel_rfl) ?_;intro L lp rr hL hr hf hlp
  conv=>cbv
  refine hlp (Int) _ _ _ [0,3] (fun x=>[(0,none,.val (.slc false 2 (.int .i64 0) a0)),(3,none,.val (.int .i64 x))])
   (fun x=>0<=x/\x<=cs.length) (fun x=>(cs.length-x).toNat) (0) (by subst hL;rfl) ?_ ?_
  ·exact⟨by simp,by simp⟩
  rintro i ⟨i0,i1⟩ hfx ag hag
  conv=>cbv
  simp only[zo hL,sQ,g0,hal,ga]
  have hnx:i<cs.length->ag [(0,none,A.val (V.slc false 2 (V.int .i64 0) a0)),(3,none,A.val (V.int .i64 (IntKind.wrap .i64 (i+1))))]:=fun h=>by
   rw[zl (n:=i+1) (by omega) (by omega)];exact hag (i+1) ⟨by omega,by omega⟩ (by omega)
  refine⟨fun h2=>⟨i0,h2,fun h3=>hnx h2,fun h3=>?_⟩,fun h2=>?_⟩
  ·have hvi:=hv i.toNat (by omega);have e1:i≠0->IntKind.wrap .i64 (i-1)=i-1:=fun h=>zl (by omega) (by omega);rcases hvi with h4|⟨h4,h5⟩
   ·omega
   ·rw[e1 (by omega),show(i-1).toNat=i.toNat-1 by omega];refine⟨fun h6=>by omega,fun h6=>⟨i0,h2,fun h7=>hnx h2,fun h7=>?_⟩⟩;rcases h5 with h5|⟨h5,h8⟩
    ·omega
    have hle:=hv.le i.toNat (by omega)
    have e2:IntKind.wrap .i64 (((cs.getD (i.toNat-1) 0:Nat):Int)+1)=((cs.getD i.toNat 0:Nat):Int):=by
     rw[zl (by omega) (by omega)];omega
    rw[e2];refine⟨by omega,by omega,fun _=>i0,fun _=>h2,fun _=>trivial,fun _=>by omega,fun _=>by omega,fun _=>trivial,fun h9=>?_,fun h9=>hnx h2⟩;rcases h9 with h9|h9
    ·omega
    ·exact absurd rfl h9
  ·rw[hr,zsw];have:decide ((cs.length:Int)<400)=true:=(by rw[decide_eq_true_eq];omega);rw[this]
 ·cases h
def zs7(f:Int->List V)(q:Int->Prop):zK:=fun
 |[.int .i64 a0]=>some ([q a0],.slc true 2 (.int .i64 0) (f a0))
 |_=>none
def zgV(k:Int):List V:=I (yu (List.replicate k.toNat 1))
def zrB(k:Int):Prop:=0<=k/\k<=1000
theorem zn1:yJ Tryz.prog 155 (zs7 zgV zrB):=by
 intro args ps r h hp;unfold zs7 at h;split at h
 ·rename_i k;simp only[za,zb]at h;obtain⟨rfl,rfl⟩:=h;obtain⟨k0,k1⟩:zrB k:=(zm.1 hp).1;refine zI (T:=tab) (B:=[]) (Bi:=[]) [0,2,3] Tryz.func155 rfl rfl (by kernel_rfl) (ze rfl) mixed zR (by exact zB) (by exact zy) (by kernel_rfl) ?_;intro L lp rr hL hr hf hlp
  conv=>cbv
  refine hlp (List V×Int) _ _ _ [0,3] (fun x=>[(0,none,.val (.int .i64 x.2)),(3,none,.val (.slc true 2 (.int .i64 0) x.1))])
   (fun x=>0<=x.2/\x.2<=k/\x.1=I (yu (List.replicate (k-x.2).toNat 1))) (fun x=>x.2.toNat) (([],k)) (by subst hL;rfl) ?_ ?_
  ·exact⟨by simp only;omega,by simp,by simp[yu,I]⟩
  rintro⟨os,j⟩ ⟨j0,j1,hO⟩ hfx ag hag;simp only at j0 j1 hO;have hol:os.length<=1000:=by rw[hO,zj,ug,zS];omega
  conv=>cbv
  simp only[zo hL,sQ,true_and];refine⟨fun h2=>?_,fun h2=>?_⟩
  ·rw[zl (n:=j-1) (by omega) (by omega)]
   (repeat' first|(exact yY _)|(exact jT rfl)|(exact qO _)|(apply And.intro)|(intro _))<;>(try first|exact True.intro|omega|rfl|(simp only[zi,zp,zj];omega))
   refine hag (_,j-1) ⟨by simp only;omega,by simp only;omega,?_⟩ (by simp only;omega);simp only;rw[hO,show(k-(j-1)).toNat=(k-j).toNat+1 by omega,jb,zaN,<-jY];rfl
  ·rw[hr,zgV,hO,show(k-j).toNat=k.toNat by omega]
 ·cases h
end Go.Ax
namespace Go.Ax
open Go.Proofs
end Go.Ax
namespace Go.Ax
open Go.Proofs
def zj6(f:List V->List V->List V->Int->List V)(q:List V->List V->List V->Int->Prop):zK:=fun
 |[.agg [.slc false 2 (.int .i64 0) a0,.slc false 2 (.int .i64 0) a1,.slc false 2 (.int .i64 0) a2],.int .i64 a3]=>some ([q a0 a1 a2 a3],.slc true 2 (.int .i64 0) (f a0 a1 a2 a3))
 |_=>none
def zdo(a _ _:List V)(i:Int):List V:=I (yG (yO a) i)
def ziL(a b c:List V)(i:Int):Prop:=Qd a b c/\0<=i/\i<a.length
theorem zA6{P S Q:List Int}(h:ClP P S Q){i:Int}(h0:0<=i)(h1:i<P.length):upL P 32 i=i::upL P 32 (P.getD i.toNat 0):=by
 have h2:=congrArg List.reverse (QG h h0 h1);rw[yG,yG,List.reverse_reverse,List.reverse_append,List.reverse_reverse]at h2;simpa using h2
theorem zCi(P:List Int){i:Int}(h:i<0):upL P 32 i=[]:=by rw[upL,if_pos h]
theorem zCj{P S Q:List Int}(h:ClP P S Q){i:Int}(h0: -1<=i)(h1:i<P.length):(upL P 32 i).length<=24:=by
 have:=zcr h h0 h1
 rwa [yG,List.length_reverse]at this
theorem zgE:yJ Tryz.prog 139 (zj6 zdo ziL):=by
 intro args ps r h hp;unfold zj6 at h;split at h
 ·rename_i a0 a1 a2 i;simp only[za,zb]at h;obtain⟨rfl,rfl⟩:=h;obtain⟨hqv,i0,i1⟩:ziL a0 a1 a2 i:=(zm.1 hp).1;obtain⟨⟨⟨P,hP⟩,⟨S,hS⟩,⟨Q,hQ⟩⟩,hcl⟩:=id hqv;rw[hP,hS,hQ,zr,zr,zr]at hcl;have g0:V.frzs a0=a0:=by rw[hP,zA]
  have g1:V.frzs a1=a1:=by rw[hS,zA]
  have g2:V.frzs a2=a2:=by rw[hQ,zA]
  have hpl:a0.length=P.length:=by rw[hP,zj]
  have gp:∀k,a0.getD k (.int .i64 0)=.int .i64 (P.getD k 0):=fun k=>by rw[hP,zE]
  have n24:=hcl.n24;have hf0:zdo a0 a1 a2 i=I (yG P i):=by rw[zdo,hP,zr]
  rw[hpl]at i1;refine zI (T:=tab) (B:=[]) (Bi:=[]) [0,1,2,4,5] Tryz.func139 rfl rfl (by kernel_rfl) (ze rfl) mixed zR (by exact zB) (by exact zy) (by kernel_rfl) ?_;intro L lp rr hL hr hf hlp
  conv=>cbv
  refine hlp (List V×Int) _ _ _ [1,2,5] (fun x=>[(1,none,.val (.int .i64 x.2)),(2,none,.val (.box 31 (.agg [.slc false 2 (.int .i64 0) a0,.slc false 2 (.int .i64 0) a1,.slc false 2 (.int .i64 0) a2]))),(5,none,.val (.slc true 2 (.int .i64 0) x.1))])
   (fun x=> -1<=x.2/\x.2<P.length/\∃ls,x.1=I ls.reverse/\ls++upL P 32 x.2=upL P 32 i) (fun x=>(x.2+1).toNat) (([],i)) (by subst hL;rfl) ?_ ?_
  ·exact⟨by simp only;omega,by simp only;exact i1,[],rfl,rfl⟩
  rintro⟨os,j⟩ ⟨j0,j1,ls,hO,hU⟩ hfx ag hag;simp only at j0 j1 hO hU;have hul:=zCj hcl (show-1<=i by omega) i1;have hll:ls.length<=24:=by rw[<-hU,zq]at hul;omega
  have hol:os.length=ls.length:=by rw[hO,zj,List.length_reverse]
  conv=>cbv
  simp only[zo hL,sQ,g0,g1,g2,gp,hpl];refine⟨fun h2=>?_,fun h2=>?_⟩
  ·have hlow:=hcl.low (i:=j.toNat) (by omega);refine⟨by rw[hO];exact zh0 _,by rw[hol];simp only[zi,zp];omega,by rw[hO];exact zkf _,h2,by omega,?_⟩;refine hag (_,P.getD j.toNat 0) ⟨by simp only;omega,by simp only;omega,ls++[j],?_,?_⟩ (by simp only;omega)
   ·simp only;rw[hO,List.reverse_append,<-jY];rfl
   ·simp only;rw[zZ,List.singleton_append,<-zA6 hcl h2 j1];exact hU
  ·rw[zCi P (by omega),yx]at hU;rw[hr,hf0,hO,hU,yG]
 ·cases h
def zjY(_ b _ d:List V):List V:=I (yu (cdN (yO b) (yO d)))
def zqJ(a b c d:List V):Prop:=Qd a b c/\∃i,d=I (yG (yO a) i)/\0<=i/\i<a.length
theorem zrI{P S Q:List Int}(h:ClP P S Q){i:Int}(h0:0<=i)(h1:i<P.length){j:Nat}(hj:j<(yG P i).length):0<=(yG P i).getD j 0/\(yG P i).getD j 0<P.length:=by
 have:=(zeG h i (by omega) h1).1 _ (show(yG P i).getD j 0∈yG P i by rw[zd,zg hj];exact yE _);omega
theorem zz9{P S Q:List Int}(h:ClP P S Q){i:Int}(h0:0<=i)(h1:i<P.length){j:Nat}(hj:j<(yG P i).length)(hs:0<=S.getD ((yG P i).getD j 0).toNat 0):
 0<=idx (yG P i) (S.getD ((yG P i).getD j 0).toNat 0)/\idx (yG P i) (S.getD ((yG P i).getD j 0).toNat 0)<24/\(j:Int)-idx (yG P i) (S.getD ((yG P i).getD j 0).toNat 0)=(Kv S (yG P i) j:Nat):=by
 have hm:=(zpW h i (by omega) h1).1 _ (show(yG P i).getD j 0∈yG P i by rw[zd,zg hj];exact yE _) hs;obtain⟨k,hk⟩:∃k,k=(yG P i).idxOf (S.getD ((yG P i).getD j 0).toNat 0):=⟨_,rfl⟩;have hi:=ziW hm;rw[<-hk]at hi;have hkl:k<(yG P i).length:=by rw[hk];exact List.idxOf_lt_length_iff.2 hm
 have hlen:=zcr h (show-1<=i by omega) h1
 have hlt:k<j:=by
  have hp:=List.pairwise_iff_getElem.1 (zeG h i (by omega) h1).2
  have hpk:(yG P i)[k]=S.getD ((yG P i).getD j 0).toNat 0:=by
   simp only[hk];exact List.getElem_idxOf _
  have hpj:(yG P i)[j]=(yG P i).getD j 0:=by rw[zd,zg hj];rfl
  have hg:=zrI h h0 h1 hj;have hl:=h.low (i:=((yG P i).getD j 0).toNat) (by omega);have h00:((yG P i).getD j 0).toNat≠0:=fun e=>by have:=(hl.2.2.2.2.2 e).2;omega
  have h4:=hl.2.2.2.1 (by omega);rcases Nat.lt_trichotomy k j with h5|h5|h5
  ·exact h5
  ·subst h5;rw[hpj]at hpk;omega
  ·have:=hp j k hj hkl h5;rw[hpj,hpk]at this;omega
 rw[hi,Kv,if_pos hs,hi];omega
theorem znY:yJ Tryz.prog 149 (zfa zjY zqJ):=by
 intro args ps r h hp;unfold zfa at h;split at h
 ·rename_i a0 a1 a2 a3;simp only[za,zb]at h;obtain⟨rfl,rfl⟩:=h;obtain⟨hqv,i,hpi,i0,i1⟩:zqJ a0 a1 a2 a3:=(zm.1 hp).1;obtain⟨⟨⟨P,hP⟩,⟨S,hS⟩,⟨Q,hQ⟩⟩,hcl⟩:=id hqv;rw[hP,hS,hQ,zr,zr,zr]at hcl;have g0:V.frzs a0=a0:=by rw[hP,zA]
  have g1:V.frzs a1=a1:=by rw[hS,zA]
  have g2:V.frzs a2=a2:=by rw[hQ,zA]
  have hpl:a0.length=P.length:=by rw[hP,zj]
  have hsl:a1.length=P.length:=by rw[hS,zj,hcl.sl]
  rw[hpl]at i1;obtain⟨p,hpp⟩:∃p,p=yG P i:=⟨_,rfl⟩;rw[hP,zr,<-hpp]at hpi;have g3:V.frzs a3=a3:=by rw[hpi,zA]
  have hal:a3.length=p.length:=by rw[hpi,zj]
  have ga:∀k,a3.getD k (.int .i64 0)=.int .i64 (p.getD k 0):=fun k=>by rw[hpi,zE]
  have gs:∀k,a1.getD k (.int .i64 0)=.int .i64 (S.getD k 0):=fun k=>by rw[hS,zE]
  have n24:=hcl.n24;have hlen:=zcr hcl (show-1<=i by omega) i1;rw[<-hpp]at hlen;have hpg:=fun j hj=>zrI hcl i0 i1 (j:=j) hj;have hc1:=fun j hj hs=>zz9 hcl i0 i1 (j:=j) hj hs;rw[<-hpp]at hpg hc1;have hf0:zjY a0 a1 a2 a3=I (yu (cdN S p)):=by rw[zjY,hpi,hS,zr,zr]
  have hfi:∀x,zhP a3 x=idx p x:=fun x=>by rw[zhP,hpi,zr]
  have hqi:∀x,ziK a3 x:=fun x=>⟨⟨p,hpi⟩,by rw[hal];omega⟩;generalize zcQ:zhP=zkj;generalize zah:ziK=zfy;refine zI (T:=tab) (B:=[(124,zj3 zkj zfy)]) (Bi:=[]) [0,1,2,4,5,6,7,8] Tryz.func149 rfl rfl (by kernel_rfl) (ze rfl) mixed zR (by subst zcQ zah;exact(zn zfL zB)) (by subst zcQ zah;exact zy) (by kernel_rfl) ?_;intro L lp rr hL hr hf hlp;have Ei:∀x,zkj a3 x=idx p x:=by rw[<-zcQ];exact hfi
  have Qi:∀x,zfy a3 x:=by rw[<-zah];exact hqi
  conv=>cbv
  refine hlp (List V×Int) _ _ _ [1,2,5,6] (fun x=>[(1,none,.val (.slc false 2 (.int .i64 0) a3)),(2,none,.val (.box 31 (.agg [.slc false 2 (.int .i64 0) a0,.slc false 2 (.int .i64 0) a1,.slc false 2 (.int .i64 0) a2]))),(5,none,.val (.slc true 2 (.int .i64 0) x.1)),(6,none,.val (.int .i64 x.2))])
   (fun x=>1<=x.2/\(x.2<=p.length\/x.2=1)/\x.1=I (yu (yI (fun t=>Kv S p (t+1)) (x.2-1).toNat))) (fun x=>(p.length-x.2).toNat) (([],1)) (by subst hL;rfl) ?_ ?_
  ·exact⟨by simp,.inr rfl,rfl⟩
  rintro⟨os,j⟩ ⟨j0,j1,hO⟩ hfx ag hag;simp only at j0 j1 hO
  conv=>cbv
  simp only[zo hL,sQ,g0,g1,g2,g3,ga,gs,hal,hsl,Ei];refine⟨fun h2=>?_,fun h2=>?_⟩
  ·have hol:os.length=j.toNat-1:=(by rw[hO,zj,ug,yo];omega);have hg:=hpg j.toNat (by omega)
   have hnx:∀c:Nat,c=Kv S p j.toNat->0<=j->(1<=j+1/\(j+1<=p.length\/j+1=1)/\os++[V.int .i64 (c:Int)]=I (yu (yI (fun t=>Kv S p (t+1)) (j+1-1).toNat))):=fun c hc _=>by
    refine⟨by omega,.inl (by omega),?_⟩;rw[hO,show(j+1-1).toNat=(j-1).toNat+1 by omega,JX,zaN,<-jY,show(j-1).toNat+1=j.toNat by omega,hc];rfl
   rw[zl (n:=j+1) (by omega) (by omega)];refine⟨by omega,h2,hg.1,hg.2,fun h3=>?_,fun h3=>?_⟩
   ·obtain⟨c1,c2,c3⟩:=hc1 j.toNat (by omega) h3
    have e1:IntKind.wrap .i64 (j-idx p (S.getD (p.getD j.toNat 0).toNat 0))=(Kv S p j.toNat:Nat):=by
     rw[zl (by omega) (by omega),<-c3];omega
    rw[e1];refine⟨Qi _,rfl,by simp only[zi,zp];omega,fun x hx=>by(simp only[ya]at hx;subst hx;rfl),?_⟩;exact hag (_,j+1) (hnx _ rfl (by omega)) (by simp only;omega)
   ·refine⟨rfl,by simp only[zi,zp];omega,fun x hx=>by(simp only[ya]at hx;subst hx;rfl),?_⟩;exact hag (_,j+1) (hnx 0 (by rw[Kv,if_neg h3]) (by omega)) (by simp only;omega)
  ·have he:(j-1).toNat=p.length-1:=(by omega);rw[hr,hf0,hO,he,cdN]
 ·cases h
end Go.Ax
namespace Go.Ax
open Go.Proofs
theorem zzb{n:Nat}{l:List Nat}{L:List Int}(h:zoR n l L):L.getD 0 0=(n:Int)/\0<L.length:=by
 obtain⟨hb,hne,m,rfl⟩:=h;have hlo:=hb.lo;have hlen:0<(yu (uO 0 n l++List.replicate m 1)).length:=List.length_pos_iff.2 hne;refine⟨?_,hlen⟩
 have h0:(uO 0 n l++List.replicate m 1).getD 0 0=n:=by
  cases l with
  |nil=>
   have h1:n=1:=hb.val;subst h1
   cases m with
   |zero=>simp[uO,yu]at hne
   |succ m=>rfl
  |cons t l=>
   have h1:=hb.val.1;have h2:0<t/n:=Nat.div_pos (by omega) (by omega);rw[uO,kL (by omega),Nat.sub_zero,show t/n=(t/n-1)+1 by omega,yw];rfl
 have:=KK (uO 0 n l++List.replicate m 1) 0 0;rw[h0]at this;exact this
def zjZ(a:List V):List V×Bool:=(I (zto (yO a)),true)
def zs6(f:List V->List V×Bool)(q:List V->Prop):zK:=fun
 |[.slc false 2 (.int .i64 0) a0]=>some ([q a0],.tup [.agg [.slc true 2 (.int .i64 0) ((f a0).1)],.bool ((f a0).2)])
 |_=>none
def zs5(f:List V->List V×Int)(q:List V->Prop):zK:=fun
 |[.slc false 2 (.int .i64 0) a0]=>some ([q a0],.tup [.agg [.slc true 2 (.int .i64 0) ((f a0).1)],.int .i64 ((f a0).2)])
 |_=>none
end Go.Ax
namespace Go.Ax
open Go.Proofs
theorem zrx{e r s:Nat}{x y:List Nat}(hr:r≠e)(hs:s≠e):∀a b:Nat,List.replicate a e++r::x=List.replicate b e++s::y->a=b/\r=s/\x=y
 |0,0,h=>by
  simp only[ZD,yV,kf]at h;exact⟨rfl,h⟩
 |0,b+1,h=>by
  simp only[ZD,yV,yw,zV,kf]at h;exact absurd h.1 hr
 |a+1,0,h=>by
  simp only[ZD,yV,yw,zV,kf]at h;exact absurd h.1.symm hs
 |a+1,b+1,h=>by
  simp only[yw,zV,kf,true_and]at h;obtain⟨h1,h2⟩:=zrx hr hs a b h;exact⟨by rw[h1],h2⟩
def OkB:List (Nat×Nat)->Prop
 |[]=>True
 |[_]=>True
 |p::q::l=>p.1≠q.1/\1<=q.2/\OkB (q::l)
def Ze(bl:List (Nat×Nat)):List Nat:=bl.flatMap fun p=>List.replicate p.2 p.1
def QF(bl:List (Nat×Nat)):List (List Int):=bl.map fun p=>[(p.1:Int),(p.2:Int)]
theorem zpO(bl:List (Nat×Nat)):(QF bl).length=bl.length:=by simp[QF]
theorem zpP{bl:List (Nat×Nat)}{i:Nat}{p:Nat×Nat}(h:bl[i]? =some p):(QF bl).getD i []=[(p.1:Int),(p.2:Int)]:=by
 rw[QF,zd,List.getElem?_map,h];rfl
theorem zpN(bl:List (Nat×Nat))(i:Nat)(p:Nat×Nat):(QF bl).set i [(p.1:Int),(p.2:Int)]=QF (bl.set i p):=by
 rw[QF,QF,List.map_set]
theorem zrs(a b:List (Nat×Nat)):QF (a++b)=QF a++QF b:=by simp[QF]
theorem Zv(p:Nat×Nat)(l:List (Nat×Nat)):Ze (p::l)=List.replicate p.2 p.1++Ze l:=by simp[Ze]
theorem zc4(a b:List (Nat×Nat)):Ze (a++b)=Ze a++Ze b:=by simp[Ze]
theorem ztp{v c q r:Nat}{tl:List (Nat×Nat)}{X:List Nat}(ho:OkB ((v,c)::tl))(hr:r≠v)(h:Ze ((v,c)::tl)=List.replicate q v++r::X):
 c=q/\∃c1 tl',tl=(r,c1)::tl'/\OkB tl/\Ze tl=r::X:=by
 rw[Zv]at h
 match tl,ho with
 |[],_=>
  exfalso;have h1:r∈List.replicate q v++r::X:=by simp
  rw[<-h]at h1;simp only[Ze,List.flatMap_nil,yx]at h1;exact hr (List.mem_replicate.1 h1).2
 |(v1,c1)::tl',ho=>
  obtain⟨h1,h2,h3⟩:=ho
  have h4:Ze ((v1,c1)::tl')=v1::(List.replicate (c1-1) v1++Ze tl'):=by
   rw[Zv];simp only;rw[show c1=(c1-1)+1 by have:1<=c1:=h2;omega,yw];rfl
  rw[h4]at h;obtain⟨e1,e2,e3⟩:=zrx (Ne.symm h1) hr _ _ h;have e2:v1=r:=e2;refine⟨e1,c1,tl',by rw[e2],h3,by rw[h4,e3,e2]⟩
theorem zAg{v c k:Nat}{tl:List (Nat×Nat)}{Y:List Nat}(ho:OkB ((v,c)::tl))(h:Ze ((v,c)::tl)=List.replicate k v++Y):
 k<=c/\OkB ((v,c-k)::tl)/\Ze ((v,c-k)::tl)=Y:=by
 rw[Zv]at h
 have hk:k<=c:=by
  rcases zfg c k with h1|h1
  ·exfalso;simp only at h;rw[show k=c+(k-c) by omega,<-jc,zZ,List.append_cancel_left_eq,show k-c=(k-c-1)+1 by omega,yw,zV]at h
   match tl,ho with
   |[],_=>simp[Ze]at h
   |(v1,c1)::tl',ho=>
    obtain⟨h3,h4,_⟩:=ho;rw[Zv]at h;simp only at h h4;rw[show c1=(c1-1)+1 by omega,yw,zV,kf]at h;exact h3 h.1.symm
  ·exact h1
 refine⟨hk,?_,?_⟩
 ·cases tl with
  |nil=>trivial
  |cons p tl=>exact ho
 ·rw[Zv];simp only at h ⊢;rw[show c=k+(c-k) by omega,<-jc,zZ,List.append_cancel_left_eq]at h;exact h
def zgu(B:List (Nat×Nat))(x:Nat):List (Nat×Nat):=match B.getLast? with
 |some p=>if p.1=x then B.set (B.length-1) (p.1,p.2+1)else B++[(x,1)]
 |none=>[(x,1)]
def Qm(L:List Nat):List (Nat×Nat):=L.foldl zgu []
theorem zjm(L:List Nat)(x:Nat):Qm (L++[x])=zgu (Qm L) x:=by rw[Qm,Qm,List.foldl_append];rfl
theorem zmQ:∀{B:List (Nat×Nat)} {p:Nat×Nat} {x:Nat},OkB (B++[p])->p.1≠x->OkB (B++[p]++[(x,1)])
 |[],p,x,_,h=>⟨h,zt _,trivial⟩
 |[q],p,x,h,h2=>⟨h.1,h.2.1,h2,zt _,trivial⟩
 |q::q2::B,p,x,h,h2=>⟨h.1,h.2.1,zmQ (B:=q2::B) h.2.2 h2⟩
theorem zu5:∀{B:List (Nat×Nat)} {p:Nat×Nat},OkB (B++[p])->OkB (B++[(p.1,p.2+1)])
 |[],p,_=>trivial
 |[q],p,h=>⟨h.1,Nat.le_add_left _ _,trivial⟩
 |q::q2::B,p,h=>⟨h.1,h.2.1,zu5 (B:=q2::B) h.2.2⟩
theorem ztq:∀(k:Nat) (L:List Nat),L.length=k->OkB (Qm L)/\Ze (Qm L)=L/\(L≠[]->∃B p,Qm L=B++[p]/\1<=p.2/\L.getLast? =some p.1)
 |0,L,h=>by
  obtain rfl:=yF h;exact⟨trivial,rfl,fun h=>absurd rfl h⟩
 |k+1,L0,h=>by
  obtain⟨L,x,rfl⟩:∃L x,L0=L++[x]:=by
   have hne:L0≠[]:=fun h2=>(by rw[h2]at h;simp at h);exact⟨L0.dropLast,L0.getLast hne,(List.dropLast_concat_getLast hne).symm⟩
  obtain⟨i1,i2,i3⟩:=ztq k L (by rw[zq,qj]at h;omega);rw[zjm];by_cases hL:L=[]
  ·subst hL;exact⟨trivial,rfl,fun _=>⟨[],(x,1),rfl,zt _,rfl⟩⟩
  ·obtain⟨B,p,hB,hp1,hp2⟩:=i3 hL;have hlast:(Qm L).getLast? =some p:=(by rw[hB];simp);rw[zgu,hlast];simp only;by_cases hx:p.1=x
   ·rw[if_pos hx]
    have hset:(Qm L).set ((Qm L).length-1) (p.1,p.2+1)=B++[(p.1,p.2+1)]:=by
     rw[hB,zq,qj,qB,Yr _ _ (zt _),kF];rfl
    rw[hset];refine⟨?_,?_,fun _=>⟨B,_,rfl,by simp only;omega,by simp[hx]⟩⟩
    ·rw[hB]at i1;exact zu5 i1
    ·rw[<-i2,hB,zc4,zc4,zZ,<-hx];congr 1;simp[Ze,jb]
   ·rw[if_neg hx];refine⟨?_,?_,fun _=>⟨Qm L,_,rfl,zt _,by simp⟩⟩
    ·rw[hB]at i1 ⊢;exact zmQ i1 hx
    ·rw[zc4,i2];rfl
theorem zkd(L:List Nat):OkB (Qm L)/\Ze (Qm L)=L/\(L≠[]->∃B p,Qm L=B++[p]/\1<=p.2/\L.getLast? =some p.1):=ztq _ L rfl
theorem zpE:∀(l:List Nat) (p e:Nat),0<e->Val p e l->2^l.length<=e
 |[],p,e,he,_=>he
 |t::l,p,e,he,h=>by
  have hg:=uy t he;have ih:=zpE l t (Nat.gcd e t) hg h.2.2.2;obtain⟨c,hc⟩:=Nat.gcd_dvd_left e t
  have hc2:2<=c:=by
   rcases zfg c 2 with h1|h1
   ·exfalso;have:c=0\/c=1:=(by omega);rcases this with rfl|rfl
    ·omega
    ·exact h.2.2.1 (by omega)
   ·exact h1
  rw[zi,Nat.pow_succ];have h2:Nat.gcd e t*2<=Nat.gcd e t*c:=Nat.mul_le_mul_left _ hc2;omega
end Go.Ax
namespace Go.Ax
open Go.Proofs
def zj0(a:List V):List V:=II true (QF (Qm (zeU (yO a))))
def zwA(a:List V):Prop:=∃L:List Nat,a=I (yu L)/\L.length<=100000
theorem zlf:yJ Tryz.prog 144 (zhT zj0 zwA):=by
 intro args ps r h hp;unfold zhT at h;split at h
 ·rename_i a0;simp only[za,zb]at h;obtain⟨rfl,rfl⟩:=h;obtain⟨ls,hls,hll⟩:zwA a0:=(zm.1 hp).1;have g0:V.frzs a0=a0:=by rw[hls,zA]
  have hal:a0.length=ls.length:=by rw[hls,zj,ug]
  have gal:∀k,a0.getD k (.int .i64 0)=.int .i64 ((ls.getD k 0:Nat):Int):=fun k=>by rw[hls,zE];exact congrArg _ (KK ls k 0)
  have hf0:zj0 a0=II true (QF (Qm ls)):=by rw[zj0,hls,zr,zav]
  obtain⟨n,hn⟩:∃n:Int,n=ls.length:=⟨_,rfl⟩;refine zI (T:=tab) (B:=[]) (Bi:=[]) [0,2,3,4,5] Tryz.func144 rfl rfl (by kernel_rfl) (ze rfl) mixed zR (by exact zB) (by exact zy) (by kernel_rfl) ?_;intro L lp rr hL hr hf hlp
  conv=>cbv
  refine hlp (List V×Int) _ _ _ [0,3,4] (fun x=>[(0,none,.val (.slc false 2 (.int .i64 0) a0)),(3,none,.val (.slc true 29 (.slc true 2 (.int .i64 0) []) x.1)),(4,none,.val (.int .i64 x.2))])
   (fun x=>0<=x.2/\x.2<=n/\x.1=II true (QF (Qm (ls.take x.2.toNat)))/\x.1.length<=x.2.toNat) (fun x=>(n-x.2).toNat) (([],0)) (by subst hL;rfl) ?_ ?_
  ·exact⟨by simp,by simp only;omega,rfl,by simp⟩
  rintro⟨es,i⟩ ⟨i0,i1,hI,hel⟩ hfx ag hag;simp only at i0 i1 hI hel;obtain⟨bl,hbl⟩:∃bl,bl=Qm (ls.take i.toNat):=⟨_,rfl⟩;rw[<-hbl]at hI;have hesl:es.length=bl.length:=by rw[hI,yf,zpO]
  have b7:i<n->i.toNat<ls.length:=fun h3=>by omega
  obtain⟨x,hx⟩:∃x,x=ls.getD i.toNat 0:=⟨_,rfl⟩;obtain⟨es2,hes2⟩:∃es2,es2=es++[V.slc true 2 (V.int IntKind.i64 0) [V.int IntKind.i64 (x:Int),V.int IntKind.i64 0]]:=⟨_,rfl⟩
  have hel3:es.length<=100000:=by
   have h3:i.toNat<=100000:=(by omega);exact Nat.le_trans hel h3
  have b1:IntKind.wrap .i64 ((es.length:Int)+1-1)=(es.length:Int):=by
   have h3:(es.length:Int)+1-1=es.length:=(by clear hI hes2;omega);rw[h3];exact zl (by clear hI hes2;omega) (by clear hI hes2;omega)
  have b2:IntKind.wrap .i64 (i+1)=i+1:=zl (by omega) (by omega)
  have b3:0<es.length->IntKind.wrap .i64 ((es.length:Int)-1)=((es.length-1:Nat):Int):=fun h3=>by
   rw[zl (by omega) (by omega)];omega
  have h2l:es2.length=es.length+1:=by rw[hes2];simp
  have b4:¬i<n->ls.length<=i.toNat:=fun h3=>by omega
  have b5:IntKind.wrap .i64 (i-1)=i-1:=zl (by omega) (by omega);have b6:i<n->0<=i+1/\i+1<=n/\(n-(i+1)).toNat<(n-i).toNat:=fun h3=>by omega
  have h2g:es2.getD es.length (.slc true 2 (.int .i64 0) [])=.slc true 2 (.int .i64 0) (I [(x:Int),0]):=by
   rw[hes2,zd,ye (zt _),kF];rfl
  have hlast:∀h3:¬i=0,∃B p,bl=B++[p]/\p.1=ls.getD (i-1).toNat 0:=fun h3=>by
   obtain⟨_,_,h5⟩:=zkd (ls.take i.toNat);have hlt:i.toNat<=ls.length:=by omega
   obtain⟨B,p,h6,_,h7⟩:=h5 (fun h8=>by
    have:=congrArg List.length h8;rw[yb,zp]at this
    omega)
   refine⟨B,p,by rw[hbl,h6],?_⟩;rw[List.getLast?_eq_getElem?,yb,List.getElem?_take_of_lt (by omega),show min i.toNat ls.length-1=(i-1).toNat by omega]at h7;rw[zd,h7];rfl
  have hadd:(i=0\/¬((x:Int)=((ls.getD (i-1).toNat 0:Nat):Int)))->zgu bl x=bl++[(x,1)]:=fun h3=>by
   by_cases h4:i=0
   ·have:bl=[]:=(by rw[hbl,h4];rfl);rw[this];rfl
   ·obtain⟨B,p,h5,h6⟩:=hlast h4
    have h7:¬p.1=x:=fun h8=>by
     rcases h3 with h3|h3
     ·exact h4 h3
     ·exact h3 (by rw[<-h6,h8])
    have h8:bl.getLast? =some p:=(by rw[h5];simp);rw[zgu,h8];simp only;rw[if_neg h7]
  have htk:i<n->ls.take (i.toNat+1)=ls.take i.toNat++[x]:=fun h3=>by
   rw[List.take_succ,hx,zd,zg (b7 h3)];rfl
  have hsnoc:i<n->Qm (ls.take (i.toNat+1))=zgu bl x:=fun h3=>by rw[htk h3,zjm,hbl]
  conv=>cbv
  simp only[zo hL,sQ,g0,hal,gal,<-hn,<-hx,<-hes2];refine⟨fun h2=>⟨fun _=>i0,fun _=>h2,fun _=>trivial,fun h3=>?_,fun h3=>?_,fun _=>trivial,fun h3=>?_,fun h3=>?_⟩,fun h2=>?_⟩
  ·rw[zl (by omega) (by omega)];omega
  ·rw[zl (by omega) (by omega)];omega
  ·have h2l3:(es2.length:Int)=es.length+1:=(by rw[h2l];rfl);rw[h2l3,b1,b2,zW];simp only[h2g,zcp,h2l,zj,zE,kS];have hlt:es.length<es.length+1:=Nat.lt_succ_self _;have hl2:[(x:Int),0].length=2:=rfl;simp only[hl2];refine⟨i0,h2,?_,jT (by simp[V.solid]),kP _,Int.lt_succ _,hlt,rfl,hlt,rfl,by omega,by omega,hlt,rfl,by omega,rfl,?_⟩
   ·simp only[qj];have:(es.length:Int)<=100000:=Int.ofNat_le.2 hel3;omega
   refine⟨hlt,rfl,by omega,by omega,hlt,rfl,by omega,rfl,?_⟩;obtain⟨c1,c2,c3⟩:=b6 h2;rw[b5]at h3;refine hag (_,i+1) ⟨c1,c2,?_,?_⟩ c3
   ·simp only[zF i0];rw[hsnoc h2,hadd h3,zrs,uP,hes2,Yr _ _ (zt _),kF,hI];rfl
   ·simp only[zF i0,yA,h2l];exact Nat.succ_le_succ hel
  ·have h30:¬i=0:=h3.1;have h31:=h3.2;rw[b5]at h31;obtain⟨B,p,h5,h6⟩:=hlast h30
   have hpx:p.1=x:=by
    have h32:(x:Int)=((ls.getD (i-1).toNat 0:Nat):Int):=h31;rw[h6];exact(Int.ofNat_inj.1 h32).symm
   have h8:bl.getLast? =some p:=(by rw[h5];simp);have hblen:bl.length=B.length+1:=(by rw[h5];simp);have hel4:es.length-1=B.length:=(by rw[hesl,hblen];rfl);have hpos:0<es.length:=by rw[hesl,hblen];exact Nat.succ_pos _
   have hadd2:zgu bl x=bl.set B.length (p.1,p.2+1):=by
    rw[zgu,h8];simp only;rw[if_pos hpx,hblen];rfl
   have hgp:bl[B.length]? =some p:=by rw[h5,ye (zt _),kF];rfl
   have hg:es.getD B.length (.slc true 2 (.int .i64 0) [])=.slc true 2 (.int .i64 0) (I [(p.1:Int),(p.2:Int)]):=by
    rw[hI,qM,zpP hgp]
   have hp2:p.2<=100000:=by
    have h9:=(zkd (ls.take i.toNat)).2.1;rw[<-hbl,h5,zc4]at h9;have h10:=congrArg List.length h9;rw[zq,yb,Zv,zq,zS]at h10;omega
   have hlt:B.length<es.length:=by rw[hesl,hblen];exact Nat.lt_succ_self _
   have hw:IntKind.wrap .i64 ((p.2:Int)+1)=((p.2+1:Nat):Int):=by
    rw[zl (by omega) (by omega)];rfl
   rw[b3 hpos,hel4,b2,zW];have hl2:[(p.1:Int),(p.2:Int)].length=2:=rfl;have hg1:[(p.1:Int),(p.2:Int)].getD 1 0=p.2:=rfl;simp only[hg,zcp,zj,zE,kS,hl2,hg1,hw];obtain⟨c1,c2,c3⟩:=b6 h2;refine⟨kP _,Int.ofNat_lt.2 hlt,hlt,rfl,hlt,rfl,by omega,by omega,hlt,rfl,by omega,rfl,hlt,rfl,by omega,by omega,hlt,rfl,by omega,rfl,?_⟩;refine hag (_,i+1) ⟨c1,c2,?_,?_⟩ c3
   ·simp only[zF i0];rw[hsnoc h2,hadd2,<-zpN,<-znH,hI];rfl
   ·simp only[zF i0,yA];exact Nat.le_succ_of_le hel
  ·have h5:ls.take i.toNat=ls:=zG (b4 h2);rw[hr,hf0,hI,hbl,h5]
 ·cases h
end Go.Ax
namespace Go.Ax
open Go.Proofs
theorem zxC{n:Nat}{l:List Nat}{L:List Int}(h:zoR n l L):∀i,i+1<L.length->L.getD (i+1) 0<=L.getD i 0:=by
 obtain⟨hb,_,m,rfl⟩:=h;intro i hi;obtain⟨hg,_⟩:=Yw (zrS hb)
 have h1:∀j,j<(yu (uO 0 n l++List.replicate m 1)).length->(yu (uO 0 n l++List.replicate m 1)).getD j 0=(mul (yu (n::l)) j:Int):=fun j hj=>by
  have h2:(yu (uO 0 n l++List.replicate m 1)).getD j 0=(yu (uO 0 n l++List.replicate m 1)).getD j 1:=by
   rw[zd,zg hj,zd,zg hj];rfl
  have h3:yu (List.replicate m 1)=List.replicate m 1:=by simp[yu]
  rw[h2,zaN,h3,ziY,<-zBh hb,zex]
 rw[h1 _ hi,h1 _ (by omega)];have:=hg.fall i;omega
theorem zrL:∀(l:List (Nat×Nat)) (p:Nat×Nat),OkB (p::l)->l.length<=(Ze l).length
 |[],_,_=>Nat.zero_le _
 |q::l,p,h=>by
  have ih:=zrL l q h.2.2;have h2:1<=q.2:=h.2.1;rw[Zv,zq,zS,zi];omega
theorem zyE{B:List (Nat×Nat)}(x:Nat)(h:B≠[]):(zgu B x).head?.map Prod.fst=B.head?.map Prod.fst:=by
 rw[zgu]
 match B,h with
 |[p],_=>
  simp only[List.getLast?_singleton];split<;>rfl
 |p::q::B,_=>
  cases h2:(p::q::B).getLast? with
  |none=>simp at h2
  |some r=>
   simp only;split
   ·rw[show(p::q::B).length-1=B.length+1 by simp];rfl
   ·rfl
theorem znw:∀(k:Nat) (L:List Nat),L.length=k->(Qm L).head?.map Prod.fst=L.head?
 |0,L,h=>by
  obtain rfl:=yF h;rfl
 |k+1,L0,h=>by
  obtain⟨L,x,rfl⟩:∃L x,L0=L++[x]:=by
   have hne:L0≠[]:=fun h2=>(by rw[h2]at h;simp at h);exact⟨L0.dropLast,L0.getLast hne,(List.dropLast_concat_getLast hne).symm⟩
  have ih:=znw k L (by rw[zq,qj]at h;omega);rw[zjm];by_cases hL:L=[]
  ·subst hL;rfl
  ·have hb:Qm L≠[]:=fun h2=>by
    have h3:=(zkd L).2.1;rw[h2]at h3;exact hL h3.symm
   rw[zyE x hb,ih]
   cases L with
   |nil=>exact absurd rfl hL
   |cons y L=>rfl
theorem zyl{α:Type}{l tl:List α}{k:Nat}{x y:α}(h:l.drop k=x::tl)(hk:k<l.length):(l.set k y).drop k=y::tl:=by
 have hsp:l=l.take k++x::tl:=by rw[<-h,kG]
 have hl:(l.take k).length=k:=by rw[yb];omega
 have h2:l.set k y=l.take k++y::tl:=by
  conv=>lhs;rw[hsp]
  rw[Yr _ _ (by omega),hl,kF];rfl
 rw[h2]
 conv=>lhs;rw[<-hl]
 rw[hl];have h3:=List.drop_left (l₁:=l.take k) (l₂:=y::tl);rw[hl]at h3;exact h3
def zwu(a:List V):Prop:=∃n l L,a=I L/\zoR n l L/\L.length<=1000
theorem zle:yJ Tryz.prog 126 (zs6 zjZ zwu):=by
 intro args ps r h hp;unfold zs6 at h;split at h
 ·rename_i a0;simp only[za,zb]at h;obtain⟨rfl,rfl⟩:=h;obtain⟨n,l,ls,hL0,hs,hLl⟩:zwu a0:=(zm.1 hp).1;have g0:V.frzs a0=a0:=by rw[hL0,zA]
  have hal:a0.length=ls.length:=by rw[hL0,zj]
  have gal:∀k,a0.getD k (.int .i64 0)=.int .i64 (ls.getD k 0):=fun k=>by rw[hL0,zE]
  have hfall:=zxC hs;obtain⟨hh,hlen⟩:=zzb hs;have hf0:zjZ a0=(I (yu (n::l)),true):=by rw[zjZ,hL0,zr,zkc hs]
  obtain⟨hb,hne,m,hLe⟩:=hs;have hlo:=hb.lo;have hhi:=hb.hi;obtain⟨ni,hni⟩:∃ni:Int,ni=n:=⟨_,rfl⟩;obtain⟨lm,hlm⟩:∃lm:Int,lm=ls.length:=⟨_,rfl⟩;have hh2:ls.getD 0 0=ni:=by rw[hh,hni]
  obtain⟨N,hN⟩:∃N,N=uO 0 n l++List.replicate m 1:=⟨_,rfl⟩;rw[<-hN]at hLe;obtain⟨bl0,hbl0⟩:∃bl0,bl0=Qm N:=⟨_,rfl⟩;obtain⟨vb,hvb⟩:∃vb,vb=II true (QF bl0):=⟨_,rfl⟩;have hfb:zj0 a0=vb:=by rw[zj0,hL0,zr,hLe,zav,<-hbl0,hvb]
  have hNl:N.length=ls.length:=by rw[hLe,ug]
  obtain⟨hok0,hex0,hlast0⟩:=zkd N;rw[<-hbl0]at hok0 hex0;have hbr:=zrS hb;have hsm:=zpE l n n (by omega) hb.val;generalize zpw:zj0=zv2;generalize zo5:zwA=zB8;generalize kh:uM=uR;generalize yP:ub=ki;refine zI (T:=tab) (B:=[(144,zhT zv2 zB8),(81,Ke uR ki)]) (Bi:=[]) [0,2,3,4,5,6,7,8,9,10,11] Tryz.func126 rfl rfl (by kernel_rfl) (ze rfl) mixed zR (by subst zpw zo5 kh yP;exact(zn zlf (zn zbQ zB))) (by subst zpw zo5 kh yP;exact zy) (by kernel_rfl) ?_;intro L lp rr hL hr hf hlp;have Eb:zv2 a0=vb:=by rw[<-zpw,hfb]
  conv=>cbv
  refine hlp (Int) _ _ _ [0,2,4] (fun x=>[(0,none,.val (.slc false 2 (.int .i64 0) a0)),(2,none,.val (.box 57 (.agg [.slc true 2 (.int .i64 0) []]))),(4,none,.val (.int .i64 x))])
   (fun x=>1<=x/\x<=lm) (fun x=>(lm-x).toNat) (1) (by subst hL;rfl) ?_ ?_
  ·exact⟨by omega,by omega⟩
  intro i ⟨i0,i1⟩ hfx ag hag
  have hfi:i<lm->ls.getD i.toNat 0<=ls.getD (i-1).toNat 0:=fun h=>by
   have:=hfall (i-1).toNat (by omega);rw[show(i-1).toNat+1=i.toNat by omega]at this;exact this
  have b1:IntKind.wrap .i64 (i-1)=i-1:=zl (by omega) (by omega);have b2:IntKind.wrap .i64 (i+1)=i+1:=zl (by omega) (by omega)
  conv=>cbv
  simp only[zo hL,sQ,g0,hal,gal,<-hlm,b1,b2,Eb,hh2];refine⟨fun h2=>⟨by omega,by omega,by omega,by omega,fun h3=>?_,fun h3=>hag (i+1) ⟨by omega,by omega⟩ (by omega)⟩,fun h2=>⟨?_,by omega,by omega,by omega,by omega,?_⟩⟩
  ·have:=hfi h2;omega
  ·rw[<-zo5];exact⟨N,by rw[hL0,hLe],by omega⟩
  clear hag hfx ag
  refine hlp (List V×List V×Int×Int×Int) _ _ _ [2,5,6,7,8,9] (fun x=>[(2,none,.val (.box 57 (.agg [.slc true 2 (.int .i64 0) []]))),(5,none,.val (.slc true 29 (.slc true 2 (.int .i64 0) []) x.1)),(6,none,.val (.box 57 (.agg [.slc true 2 (.int .i64 0) x.2.1]))),(7,none,.val (.int .i64 x.2.2.1)),(8,none,.val (.int .i64 x.2.2.2.1)),(9,none,.val (.int .i64 x.2.2.2.2))])
   (fun x=>∃(bl:List (Nat×Nat)) (pre rest:List Nat) (p e m a:Nat),x.1=II true (QF bl)/\x.2.1=I (yu (n::pre))/\l=pre++rest/\x.2.2.1=(p:Int)/\x.2.2.2.1=(a:Int)/\x.2.2.2.2=(e:Int)/\0<e/\e<=64/\p<=2000/\e ∣ p/\Val p e rest/\bl.length<=2000/\(Ze (bl.drop a)).length<=1000/\OkB (bl.drop a)/\Ze (bl.drop a)=uO p e rest++List.replicate m 1/\(∀v c tl,bl.drop a=(v,c)::tl->v=e)) (fun x=>x.2.2.2.2.toNat) ((vb,[V.int IntKind.i64 ni],0,0,ni)) (by subst hL;rfl) ?_ ?_
  ·refine⟨bl0,[],l,0,n,m,0,hvb,by rw[hni];rfl,rfl,rfl,rfl,hni,by omega,hhi,by omega,⟨0,rfl⟩,hb.val.weak (by omega),?_,by rw[uw,hex0];omega,hok0,by rw[uw,hex0,hN],?_⟩
   ·cases hb9:bl0 with
    |nil=>simp
    |cons q9 l9=>
     rw[hb9]at hok0 hex0;have h3:=zrL l9 q9 hok0;have h4:=congrArg List.length hex0;rw[Zv,zq]at h4;simp only[zi];omega
   ·intro v c tl h3;rw[uw]at h3;have h4:=znw _ N rfl;rw[<-hbl0,h3]at h4
    have h5:N.getD 0 0=n:=by
     have h6:=KK N 0 0;rw[<-hLe]at h6;have h7:ls.getD 0 0=((N.getD 0 0:Nat):Int):=h6;rw[hh]at h7;omega
    cases hN9:N with
    |nil=>rw[hN9]at h4;simp at h4
    |cons y N9=>
     rw[hN9]at h4 h5;simp only[List.head?_cons,Option.map_some,za]at h4;rw[h4];exact h5
  rintro⟨vs,bs,la,ti,e⟩ ⟨bl,pre,rest,p,e',m',a,hV,hB,hl,hp,ha,he,he0,he64,hp2,hd,hv,hbl,hel,hok,hex,hhd⟩ hfx ag hag;simp only at hV hB hp ha he;have hvl:vs.length=bl.length:=by rw[hV,yf,zpO]
  have hbsl:bs.length=pre.length+1:=by rw[hB,zj,ug];rfl
  have gvs:∀(k:Nat) (q:Nat×Nat),bl[k]? =some q->vs.getD k (.slc true 2 (.int .i64 0) [])=.slc true 2 (.int .i64 0) (I [(q.1:Int),(q.2:Int)]):=fun k q h=>by
   rw[hV,qM,zpP h]
  have hl2:∀x y:Int,[x,y].length=2:=fun _ _=>rfl;have hg0:∀x y:Int,[x,y].getD 0 0=x:=fun _ _=>rfl;have hg1:∀x y:Int,[x,y].getD 1 0=y:=fun _ _=>rfl;by_cases he1:1<e
  ·cases rest with
   |nil=>have h3:e'=1:=hv
         omega
   |cons t rest=>
    obtain⟨v1,v2,v3,v4⟩:=hv;obtain⟨X,hx,hr0,hr1⟩:=zj2 he0 (zmT hd v1 v3);obtain⟨q,hq⟩:∃q,q=(t-p)/e':=⟨_,rfl⟩;obtain⟨r,hr9⟩:∃r,r=(t-p)%e':=⟨_,rfl⟩;obtain⟨Y,hY⟩:∃Y,Y=uO t (Nat.gcd e' t) rest++List.replicate m' 1:=⟨_,rfl⟩;have hxe:ex (t-p) e'=List.replicate q e'++ex e' r:=(by rw[kL he0,<-hq,<-hr9]);rw[<-hq,<-hr9]at hx;rw[<-hr9]at hr0 hr1;have hk:q*e'+r=t-p:=by rw[hq,hr9,Nat.mul_comm];exact Nat.div_add_mod _ _
    have hXe:ex e' r=r::X:=by
     have h3:=hxe.symm.trans hx;exact List.append_cancel_left h3
    have hex2:Ze (bl.drop a)=List.replicate q e'++r::(X++Y):=by
     rw[hex,uO,zZ,<-hY,hx];simp
    obtain⟨c,tl,hdr⟩:∃c tl,bl.drop a=(e',c)::tl:=by
     match h3:bl.drop a with
     |[]=>
      rw[h3]at hex2;exfalso;have h4:=congrArg List.length hex2;simp[Ze]at h4
     |(v,c)::tl=>exact⟨c,tl,by rw[hhd v c tl h3]⟩
    rw[hdr]at hok hex2 hel;obtain⟨hcq,c1,tl',htl,hok2,hex3⟩:=ztp hok (by omega) hex2
    have hbA:bl[a]? =some (e',q):=by
     have h4:(bl.drop a)[0]? =some (e',c):=(by rw[hdr];rfl);rw[zY,zX,hcq]at h4;exact h4
    have hdr1:bl.drop (a+1)=(r,c1)::tl':=by
     have h4:(bl.drop a).drop 1=tl:=(by rw[hdr];rfl);rw[List.drop_drop,htl]at h4;exact h4
    have hbB:bl[a+1]? =some (r,c1):=by
     have h4:(bl.drop (a+1))[0]? =some (r,c1):=(by rw[hdr1];rfl);rw[zY,zX]at h4;exact h4
    have hal2:a+1<bl.length:=(zk.1 hbB).1;have ht1:ti.toNat=a:=(by omega);have ht2:(ti+1).toNat=a+1:=(by omega);have b3:IntKind.wrap .i64 (ti+1)=ti+1:=zl (by omega) (by omega);have hqe:q*e'<=2000:=(by omega);obtain⟨qe,hqe9⟩:∃qe:Int,qe=((q*e':Nat):Int):=⟨_,rfl⟩
    have b4:IntKind.wrap .i64 ((q:Int)*e)=qe:=by
     have h5:(q:Int)*e=((q*e':Nat):Int):=(by rw[he];push_cast;rfl);rw[h5,hqe9];exact zl (by omega) (by omega)
    have b5:IntKind.wrap .i64 (la+qe)=la+qe:=zl (by omega) (by omega)
    have b6:IntKind.wrap .i64 (la+qe+(r:Int))=(t:Int):=by
     rw[zl (by omega) (by omega)];omega
    have hpl:pre.length<=5:=by
     have h6:l.length=pre.length+(rest.length+1):=by rw[hl,zq];rfl
     have h7:l.length<=6:=by
      rcases zfg 6 l.length with h8|h8
      ·exfalso;have h9:2^7<=2^l.length:=Nat.pow_le_pow_right (by omega) (by omega);omega
      ·exact h8
     omega
    have gA:=gvs _ _ hbA;have gB:=gvs _ _ hbB
    conv=>cbv
    simp only[zo hL,sQ,hvl,b3,ht1,ht2,gA,gB,zcp,zj,zE,kS,hl2,hg0,hg1,b4,b5,b6];refine⟨fun _=>⟨fun _=>by omega,fun _=>by omega,fun _=>by omega,fun _=>trivial,fun _=>by omega,fun _=>trivial,fun _=>by omega,fun _=>by omega,fun _=>by omega,fun _=>trivial,fun _=>by omega,fun _=>trivial,fun h3=>by omega,fun _=>⟨by omega,by omega,hal2,hal2,by omega,by omega,hal2,by omega,?_⟩⟩,fun h=>absurd he1 h⟩;obtain⟨bs2,hb2⟩:∃bs2,bs2=bs++[V.int IntKind.i64 (t:Int)]:=⟨_,rfl⟩;have hb2l:bs2.length=pre.length+2:=by rw[hb2,zq,hbsl];rfl
    have hB2:bs2=I (yu (n::(pre++[t]))):=by
     rw[hb2,hB,show yu (n::(pre++[t]))=yu (n::pre)++[(t:Int)] by simp[yu],<-jY];rfl
    simp only[<-hb2,hb2l];have hgp:=uy t he0;have hgl:=Nat.le_of_dvd he0 (Nat.gcd_dvd_left e' t)
    have hgr:Nat.gcd e' r=Nat.gcd e' t:=by
     have h4:Nat.gcd e' (t-p)=Nat.gcd e' t:=zx7 hd (by omega);rw[<-h4,Jp e' (t-p),<-hr9,jv]
    refine⟨by omega,by omega,by omega,by omega,by omega,by omega,by omega,by omega,rfl,by simp only[qj];omega,yY _,fun h8=>by omega,fun _=>?_⟩
    refine hlp (Int×Int×Int) _ _ _ [2,5,6,7,8,9,10] (fun x=>[(2,none,.val (.box 57 (.agg [.slc true 2 (.int .i64 0) []]))),(5,none,.val (.slc true 29 (.slc true 2 (.int .i64 0) []) vs)),(6,none,.val (.box 57 (.agg [.slc true 2 (.int .i64 0) bs2]))),(7,none,.val (.int .i64 (t:Int))),(8,none,.val (.int .i64 x.1)),(9,none,.val (.int .i64 x.2.1)),(10,none,.val (.int .i64 x.2.2))])
     (fun x=>∃(a1 e1 r1 c:Nat) (tl:List (Nat×Nat)),(Ze ((r1,c)::tl)).length<=1000/\x.1=(a1:Int)/\x.2.1=(e1:Int)/\x.2.2=(r1:Int)/\0<r1/\r1<=64/\0<e1/\e1<=64/\Nat.gcd e1 r1=Nat.gcd e' t/\bl.drop a1=(r1,c)::tl/\OkB ((r1,c)::tl)/\Ze ((r1,c)::tl)=ex e1 r1++Y) (fun x=>x.2.2.toNat) ((ti+1,e,(r:Int))) (by subst hL;rfl) ?_ ?_
    ·have hel2:(Ze ((r,c1)::tl')).length<=1000:=by
      rw[<-htl];rw[Zv,zq]at hel;omega
     exact⟨a+1,e',r,c1,tl',hel2,by simp only;omega,he,rfl,hr0,by omega,he0,he64,hgr,hdr1,by rw[<-htl];exact hok2,by rw[<-htl,hex3,hXe];rfl⟩
    rintro⟨tj,f,s⟩ ⟨a1,e1,r1,c9,tl9,hel9,ha1,hf9,hs9,r0,r64,ee0,ee64,hgc,hdr9,hok9,hex9⟩ hfx2 ag2 hag2;simp only at ha1 hf9 hs9
    have hbA9:bl[a1]? =some (r1,c9):=by
     have h4:(bl.drop a1)[0]? =some (r1,c9):=(by rw[hdr9];rfl);rw[zY,zX]at h4;exact h4
    have hA9:a1<bl.length:=(zk.1 hbA9).1;have ht9:tj.toNat=a1:=(by omega);have hm9:f.tmod s=((e1%r1:Nat):Int):=(by rw[hf9,hs9];exact(Int.ofNat_tmod e1 r1).symm);have hd9:f.tdiv s=((e1/r1:Nat):Int):=(by rw[hf9,hs9];exact(Int.ofNat_tdiv e1 r1).symm);have hdl:e1/r1<=e1:=Nat.div_le_self _ _;have hre:ex e1 r1=List.replicate (e1/r1) r1++ex r1 (e1%r1):=kL r0;have hfo:=fun h:¬e1%r1=0=>zj2 r0 (k:=e1) (fun h2=>h (Nat.mod_eq_zero_of_dvd h2));obtain⟨k9,hk9e⟩:∃k9,k9=e1/r1:=⟨_,rfl⟩;rw[<-hk9e]at hd9 hdl hre;simp only[<-hk9e]at hfo;have b7:IntKind.wrap .i64 (k9:Int)=(k9:Int):=zl (by omega) (by omega);have b8:IntKind.wrap .i64 (tj+1)=tj+1:=zl (by omega) (by omega);have hs0:s≠0:=(by omega);have gA9:=gvs _ _ hbA9;by_cases hmod:e1%r1=0
    ·have hex10:ex e1 r1=List.replicate k9 r1:=(by rw[hre,hmod,zbz,yx]);rw[hex10]at hex9;obtain⟨hk9,hok10,hex11⟩:=zAg hok9 hex9;obtain⟨c10,hc10⟩:∃c10,c10=c9-k9:=⟨_,rfl⟩;rw[<-hc10]at hok10 hex11;have hm10:f.tmod s=0:=by rw[hm9,hmod];rfl
     have hc9:c9<=1000000:=by
      rw[Zv,zq,zS]at hel9;simp only at hel9;omega
     have hel10:(Ze ((r1,c10)::tl9)).length<=1000:=by
      rw[Zv,zq,zS]at hel9 ⊢;simp only at hel9 ⊢;omega
     have b9:IntKind.wrap .i64 ((c9:Int)-(k9:Int))=(c10:Int):=by
      rw[zl (by omega) (by omega)];omega
     obtain⟨vs2,hvs2⟩:∃vs2,vs2=vs.set a1 (.slc true 2 (.int .i64 0) (I [(r1:Int),(c10:Int)])):=⟨_,rfl⟩;have hset:(I [(r1:Int),(c9:Int)]).set 1 (V.int .i64 (c10:Int))=I [(r1:Int),(c10:Int)]:=rfl;have hv2l:vs2.length=bl.length:=by rw[hvs2,yA,hvl]
     have gA10:vs2.getD a1 (.slc true 2 (.int .i64 0) [])=.slc true 2 (.int .i64 0) (I [(r1:Int),(c10:Int)]):=by
      rw[hvs2,zd,List.getElem?_set_self (by omega)];rfl
     conv=>cbv
     simp only[zo hL,sQ,hvl,ht9,gA9,zcp,zj,zE,kS,hl2,hg0,hg1,hm10,hd9,b7,b9,hset,<-hvs2,hv2l,gA10];refine⟨hs0,fun h=>absurd trivial h,fun _=>⟨by omega,by omega,hA9,hA9,by omega,by omega,hA9,by omega,hs0,hA9,by omega,by omega,hA9,by omega,?_⟩⟩;have hrg:r1=Nat.gcd e' t:=(by rw[<-hgc];exact(Nat.gcd_eq_right (Nat.dvd_of_mod_eq_zero hmod)).symm);have hsp:bl=bl.take a1++(r1,c9)::tl9:=by rw[<-hdr9,kG]
     have hdrs:(bl.set a1 (r1,c10)).drop a1=(r1,c10)::tl9:=by
      rw[zyl hdr9 hA9]
     refine⟨hA9,by omega,by omega,hA9,by omega,fun h=>by omega,fun _=>?_⟩;refine hag (vs2,bs2,(t:Int),tj,s) ⟨bl.set a1 (r1,c10),pre++[t],rest,t,r1,m',a1,?_,hB2,by rw[hl];simp,rfl,ha1,hs9,r0,r64,v2,by rw[hrg];exact Jz e' t,by rw[hrg];exact v4,by rw[yA];exact hbl,by rw[hdrs];exact hel10,by rw[hdrs];exact hok10,by rw[hdrs,hex11,hY,hrg],?_⟩ ?_
     ·simp only;rw[hvs2,hV,znH,<-zpN]
     ·intro v c tl h3;rw[hdrs]at h3;injection h3 with h3 _;injection h3 with h3 _;exact h3.symm
     ·simp only
      have h5:r1<e':=by
       rw[hrg];omega
      omega
    ·obtain⟨X2,hx2,hq0,hq1⟩:=hfo hmod;obtain⟨s1,hs1⟩:∃s1,s1=e1%r1:=⟨_,rfl⟩;rw[<-hs1]at hx2 hq0 hq1 hm9;have hex10:Ze ((r1,c9)::tl9)=List.replicate k9 r1++s1::(X2++Y):=(by rw[hex9,hx2];simp);obtain⟨hcq9,c2,tl2,htl9,hok10,hex11⟩:=ztp hok9 (by omega) hex10
     have hdr10:bl.drop (a1+1)=(s1,c2)::tl2:=by
      have h4:(bl.drop a1).drop 1=tl9:=(by rw[hdr9];rfl);rw[List.drop_drop,htl9]at h4;exact h4
     have hbB9:bl[a1+1]? =some (s1,c2):=by
      have h4:(bl.drop (a1+1))[0]? =some (s1,c2):=(by rw[hdr10];rfl);rw[zY,zX]at h4;exact h4
     have hB9:a1+1<bl.length:=(zk.1 hbB9).1;have ht10:(tj+1).toNat=a1+1:=(by omega);have gB9:=gvs _ _ hbB9
     have hxe2:ex r1 s1=s1::X2:=by
      rw[hre,<-hs1]at hx2;exact List.append_cancel_left hx2
     rw[hcq9]at gA9
     conv=>cbv
     simp only[zo hL,sQ,hvl,b8,ht9,ht10,gA9,gB9,zcp,zj,zE,kS,hl2,hg0,hg1,hm9,hd9,b7];refine⟨hs0,fun _=>⟨by omega,by omega,hA9,hA9,by omega,by omega,hA9,by omega,hs0,fun _=>by omega,fun _=>by omega,fun _=>hB9,fun _=>trivial,fun _=>hB9,fun _=>trivial,fun _=>by omega,fun _=>by omega,fun _=>hB9,fun _=>trivial,fun _=>by omega,fun _=>trivial,fun _=>hs0,fun h=>?_,fun _=>⟨by omega,by omega,hB9,hB9,by omega,by omega,hB9,by omega,?_⟩⟩,fun h=>by omega⟩
     ·rcases h with(h|h)|h
      ·exact absurd trivial h
      ·omega
      ·exact absurd trivial h
     ·have hgc2:Nat.gcd r1 s1=Nat.gcd e' t:=by
       rw[<-hgc,jv e1 r1,Jp r1 e1,<-hs1,jv]
      have hel10:(Ze ((s1,c2)::tl2)).length<=1000:=by
       rw[<-htl9];rw[Zv,zq]at hel9;omega
      exact hag2 (tj+1,s,(s1:Int)) ⟨a1+1,r1,s1,c2,tl2,hel10,by simp only;omega,hs9,rfl,hq0,by omega,r0,r64,hgc2,hdr10,by rw[<-htl9];exact hok10,by rw[<-htl9,hex11,hxe2];rfl⟩ (by simp only;omega)
  ·have he9:e'=1:=by omega
   have hr0:rest=[]:=by
    cases rest with
    |nil=>rfl
    |cons t rest=>
     have h3:=hv.2.2.1;rw[he9,Nat.gcd_one_left]at h3;exact absurd rfl h3
   have hfb2:V.frzs bs=bs:=(by rw[hB,zA]);have hll:l=pre:=(by rw[hl,hr0,yx]);rw[<-hll]at hB;have Ei:uR bs=true:=by rw[<-kh,uM,hB,zr];exact hbr.is
   conv=>cbv
   simp only[zo hL,sQ,hfb2,Ei];refine⟨fun h=>absurd h he1,fun _=>⟨?_,fun h=>(by cases h),fun _=>by rw[hr,hf0,hB]⟩⟩;rw[<-yP,hB];exact⟨⟨_,rfl⟩,by rw[zj];have:=hbr.len;omega⟩
 ·cases h
end Go.Ax
namespace Go.Ax
open Go.Proofs
def okC(cs:List Nat):Bool:=(mC cs).all fun x=>decide (x<=64)
def zje(cs:List Nat):List Int:=zto (yu (mC cs))
def zjX(a:List V):List V×Int:=bif okC (zeU (yO a))then(I (zje (zeU (yO a))),0)else([],5)
theorem zBR{cs:List Nat}(h:okC cs=true):cvm cs=(I (yu (mC cs)),true):=by
 rw[okC,zas,List.all_cons,Bool.and_eq_true,decide_eq_true_eq]at h;rw[cvm,if_pos h.2,decide_eq_true h.1]
theorem zCU{cs:List Nat}(h:okC cs=false):(cvm cs).2=false:=by
 rw[okC,zas,List.all_cons,jS,decide_eq_false_iff_not]at h;rw[cvm];split
 ·rename_i h2;rcases h with h|h
  ·exact decide_eq_false h
  ·rw[h2]at h;cases h
 ·rfl
theorem zBq{cs:List Nat}(hl:cs.length<=30)(h:okC cs=true):∃n l m,BrN n l/\mC cs=uO 0 n l++List.replicate m 1:=by
 obtain⟨n,l,m,h1,h2,_,_⟩:=zxW cs hl (fun x hx=>by
  rw[okC,yd]at h
  simpa using h x hx)
 exact⟨n,l,m,h1,h2⟩
theorem zDu(cs:List Nat):mC cs≠[]:=by rw[zas];simp
theorem zrj{cs:List Nat}(hl:cs.length<=30)(h:okC cs=true)(k:Nat):(∃n l,zoR n l (yu (mC cs++List.replicate k 1)))/\zto (yu (mC cs++List.replicate k 1))=zje cs:=by
 obtain⟨n,l,m,h1,h2⟩:=zBq hl h
 have hne:∀k,yu (mC cs++List.replicate k 1)≠[]:=fun k=>by
  rw[yu];simp[zDu]
 have hs:∀k,zoR n l (yu (mC cs++List.replicate k 1)):=fun k=>⟨h1,hne k,m+k,by rw[h2,zZ,jc]⟩;refine⟨⟨n,l,hs k⟩,?_⟩;have h0:=hs 0;rw[ZD,yx]at h0;rw[zje,zkc (hs k),zkc h0]
theorem zgI:yJ Tryz.prog 148 (zs5 zjX zd1):=by
 intro args ps r h hp;unfold zs5 at h;split at h
 ·rename_i a0;simp only[za,zb]at h;obtain⟨rfl,rfl⟩:=h;have hq:zd1 a0:=(zm.1 hp).1;obtain⟨cs,hcs,hv,hl⟩:=id hq;have g0:V.frzs a0=a0:=by rw[hcs,zA]
  have hf0:zjX a0=bif okC cs then(I (zje cs),0)else([],5):=by rw[zjX,hcs,zr,zav]
  have hfm:zjW a0=cvm cs:=by rw[zjW,hcs,zr,zav]
  generalize zl2:zsw=zAw;generalize zcL:zd1=zki;generalize zpn:zjW=zCe;generalize zl6:zgV=zAy;generalize zlY:zrB=zAt;generalize zpu:zjZ=zCh;generalize zoY:zwu=zB3;refine zI (T:=tab) (B:=[(153,zs4 zAw zki),(154,zs3 zCe zki),(155,zs7 zAy zAt),(126,zs6 zCh zB3)]) (Bi:=[]) [0,2,3,4,5,6,7] Tryz.func148 rfl rfl (by kernel_rfl) (ze rfl) mixed zR (by subst zl2 zcL zpn zl6 zlY zpu zoY;exact(zn zrm (zn ziC (zn zn1 (zn zle zB))))) (by subst zl2 zcL zpn zl6 zlY zpu zoY;exact zy) (by kernel_rfl) ?_;intro L lp rr hL hr hf hlp
  conv=>cbv
  simp only[zo hL,sQ,g0];subst zpn zcL zpu zoY zl6 zlY zl2;rw[hfm]
  cases hok:okC cs with
  |true=>
   rw[zBR hok]
   have e1:I (yu (mC cs))++zgV 64=I (yu (mC cs++List.replicate 64 1)):=by
    rw[zgV,jY,<-zaN];rfl
   obtain⟨⟨n,l,hs⟩,hb⟩:=zrj hl hok 64;have e2:zjZ (I (yu (mC cs++List.replicate 64 1)))=(I (zje cs),true):=(by rw[zjZ,zr,hb]);dsimp only;rw[e1,zA,e2];have hone:zgV 64=I (yu (List.replicate 64 1)):=rfl;refine⟨hq,fun h=>(by cases h),fun _=>⟨hq,fun h=>(by cases h),fun _=>⟨⟨by omega,by omega⟩,(by rw[hone];exact zh0 _),?_,(by rw[hone];exact zkf _),⟨n,l,_,rfl,hs,?_⟩,zel _,fun h=>(by cases h),fun _=>?_⟩⟩⟩
   ·rw[hone,zj,zj,ug,ug,QI,zS];omega
   ·rw[ug,zq,QI,zS];omega
   ·rw[hr,hf0,hok];rfl
  |false=>
   have h2:=zCU hok;refine⟨hq,fun h=>(by cases h),fun _=>⟨hq,fun _=>?_,fun h=>(nomatch (h.symm.trans h2:true=false))⟩⟩;rw[hr,hf0,hok];rfl
 ·cases h
end Go.Ax
namespace Go.Ax
open Go.Proofs
def KV(P S:List Int)(i:Int):List Nat:=cdN S (yG P i)
def zb9(cs:List Nat):List V×Int:=bif okC cs then(I (zje cs),0)else([],5)
def znk(a b _:List V)(i:Int):List V×Int:=zb9 (KV (yO a) (yO b) i)
theorem zyp(cs:List Nat):V.noFzs (zb9 cs).1=true:=by
 rw[zb9]
 cases okC cs with
 |true=>exact zel _
 |false=>rfl
theorem zsT(cs:List Nat):V.frzs (zb9 cs).1=(zb9 cs).1:=by
 rw[zb9]
 cases okC cs with
 |true=>exact zA _
 |false=>rfl
theorem zBV{P S Q:List Int}(h:ClP P S Q){i:Int}(h0:0<=i)(h1:i<P.length):zd1 (I (yu (KV P S i)))/\zjX (I (yu (KV P S i)))=zb9 (KV P S i):=by
 refine⟨⟨_,rfl,(zpW h i (by omega) h1).2,?_⟩,by rw[zjX,zr,zav,zb9]⟩;have:=zcr h (show-1<=i by omega) h1;rw[KV,zg4];omega
def zzX(a b c:List V)(i:Int):Int:=0
theorem zmw:yJ Tryz.prog 147 (ztb zzX ziL):=by
 intro args ps r h hp;unfold ztb at h;split at h
 ·rename_i a0 a1 a2 i;simp only[za,zb]at h;obtain⟨rfl,rfl⟩:=h;have hqp:ziL a0 a1 a2 i:=(zm.1 hp).1;obtain⟨hqv,i0,i1⟩:=id hqp;obtain⟨⟨⟨P,hP⟩,⟨S,hS⟩,⟨Q,hQ⟩⟩,hcl⟩:=id hqv;rw[hP,hS,hQ,zr,zr,zr]at hcl;have g0:V.frzs a0=a0:=by rw[hP,zA]
  have g1:V.frzs a1=a1:=by rw[hS,zA]
  have g2:V.frzs a2=a2:=by rw[hQ,zA]
  have hpl:a0.length=P.length:=by rw[hP,zj]
  have n24:=hcl.n24;have hf2:qH a0 a1 a2=true:=by rw[qH,hP,hS,hQ,zr,zr,zr];exact KO.2 hcl
  rw[hpl]at i1;generalize qQ:qH=Zp;generalize jV:Qc=ZZ;generalize yp:yi=qP;refine zI (T:=tab) (B:=[(132,QW Zp ZZ),(82,qW qP)]) (Bi:=[]) [0,1,2,4] Tryz.func147 rfl rfl (by kernel_rfl) (ze rfl) mixed zR (by subst qQ jV yp;exact(zn zbP (zn JE zB))) (by subst qQ jV yp;exact zy) (by kernel_rfl) ?_;intro L lp rr hL hr hf hlp;have E1:∀x a b,qP x a b=yi x a b:=fun x a b=>by rw[<-yp]
  conv=>cbv
  simp only[zo hL,sQ,g0,g1,g2,hpl,E1];rw[<-qQ,<-jV,hf2,zl (by omega) (by omega)];refine⟨hqv.1,fun h=>(nomatch h),fun _=>⟨fun h=>?_,fun _=>?_⟩⟩
  ·rw[yi,jS,decide_eq_false_iff_not,decide_eq_false_iff_not]at h;omega
  ·rw[hr,zzX]
 ·cases h
def zoK(f:List V->List V->List V->Int->List V×Int)(q:List V->List V->List V->Int->Prop):zK:=fun
 |[.agg [.slc false 2 (.int .i64 0) a0,.slc false 2 (.int .i64 0) a1,.slc false 2 (.int .i64 0) a2],.int .i64 a3]=>some ([q a0 a1 a2 a3],.tup [.agg [.slc false 2 (.int .i64 0) ((f a0 a1 a2 a3).1)],.int .i64 ((f a0 a1 a2 a3).2)])
 |_=>none
theorem zho:yJ Tryz.prog 138 (zoK znk ziL):=by
 intro args ps r h hp;unfold zoK at h;split at h
 ·rename_i a0 a1 a2 i;simp only[za,zb]at h;obtain⟨rfl,rfl⟩:=h;have hqp:ziL a0 a1 a2 i:=(zm.1 hp).1;obtain⟨hqv,i0,i1⟩:=id hqp;obtain⟨⟨⟨P,hP⟩,⟨S,hS⟩,⟨Q,hQ⟩⟩,hcl⟩:=id hqv;rw[hP,hS,hQ,zr,zr,zr]at hcl;have g0:V.frzs a0=a0:=by rw[hP,zA]
  have g1:V.frzs a1=a1:=by rw[hS,zA]
  have g2:V.frzs a2=a2:=by rw[hQ,zA]
  have hpl:a0.length=P.length:=by rw[hP,zj]
  have hi1:=i1;rw[hpl]at i1;have hfp:zdo a0 a1 a2 i=I (yG P i):=by rw[zdo,hP,zr]
  have hfc:zjY a0 a1 a2 (I (yG P i))=I (yu (KV P S i)):=by rw[zjY,hS,zr,zr,KV]
  have hqc:zqJ a0 a1 a2 (I (yG P i)):=⟨hqv,i,by rw[hP,zr],i0,hi1⟩;obtain⟨ck1,ck2⟩:=zBV hcl i0 i1;have hf0:znk a0 a1 a2 i=zb9 (KV P S i):=by rw[znk,hP,hS,zr,zr]
  generalize ztC:zzX=zDe;generalize zft:ziL=zhc;generalize zbn:zdo=zh7;generalize zps:zjY=zCg;generalize zo4:zqJ=zB7;generalize zpo:zjX=zCf;generalize zcL:zd1=zki;refine KR (T:=tab) (B:=[(147,ztb zDe zhc),(139,zj6 zh7 zhc),(149,zfa zCg zB7),(148,zs5 zCf zki),(2000000148,zg6)]) (Bi:=[]) [2000004807,2000004824,2000004998,0,1,2,4,5,6,7,8] Tryz.func138 rfl rfl (by kernel_rfl) (ze rfl) mixed zR (by subst ztC zft zbn zps zo4 zpo zcL;exact(zn zmw (zn zgE (zn znY (zn zgI (zn zoa zB)))))) (by subst ztC zft zbn zps zo4 zpo zcL;exact zy) (by kernel_rfl) ?_;intro L lp rr hL hr hf hlp
  conv=>cbv
  simp only[zo hL,sQ,g0,g1,g2];subst ztC zft zbn zps zo4 zpo zcL;rw[hfp,zA,hfc,zA,ck2];refine⟨hqp,fun h=>absurd rfl h,fun _=>⟨hqp,hqc,zel _,ck1,zyp _,?_⟩⟩;rw[zsT,zsT,hr,hf0]
 ·cases h
end Go.Ax
namespace Go.Ax
open Go.Proofs
def zlb(M:Nat->Nat)(j:Nat):Int:=if 1<(prs M j j).length then((prs M j j).getD 0 0:Nat)else-1
theorem zzt{M:Nat->Nat}(h:GoodM M)(j:Nat):prs M (j+1) (j+1)=[j]\/∃a,a<j/\Jl M a (j+1)/\prs M (j+1) (j+1)=[a,j]:=by
 have h1:=zcs (M:=M) (i:=j) (j:=j+1) (by omega);have h2:qy M j (j+1-j)<=M j:=zrE h j;rw[if_pos h2]at h1
 cases hh:prs M j (j+1)with
 |nil=>rw[h1,hh];exact .inl rfl
 |cons a l=>
  have ha:a∈prs M j (j+1):=by rw[hh];simp
  have hl:l=[]:=by
   cases hl:l with
   |nil=>rfl
   |cons b l'=>
    exfalso;have hb:b∈prs M j (j+1):=by rw[hh,hl];simp
    have hp:(prs M j (j+1)).Pairwise (·< ·):=by
     rw[prs];exact(List.pairwise_lt_range).filter _
    rw[hh,hl]at hp;have hab:a<b:=(List.pairwise_cons.1 hp).1 b (by simp);simp only[prs,jp,ka,prx,decide_eq_true_eq]at ha hb;exact zfS h hab (by omega) ha.2 hb.2
  simp only[prs,jp,ka,prx,decide_eq_true_eq]at ha;rw[h1,hh,hl];exact .inr ⟨a,by omega,ha.2,rfl⟩
theorem zpL{M:Nat->Nat}(h:GoodM M)(j:Nat):(zlb M (j+1)= -1/\prs M (j+1) (j+1)=[j])\/∃a,a<j/\Jl M a (j+1)/\zlb M (j+1)=a/\prs M (j+1) (j+1)=[a,j]:=by
 rcases zzt h j with e|⟨a,h1,h2,e⟩
 ·exact .inl ⟨by rw[zlb,e];rfl,e⟩
 ·exact .inr ⟨a,h1,h2,by rw[zlb,e];rfl,e⟩
theorem zpT{M:Nat->Nat}(h:GoodM M){a j j':Nat}(h1:a<j)(h2:j<=j')(hp:Jl M a j'):Jl M a j:=by
 unfold Jl at hp ⊢;exact Classical.byContradiction fun hn=>zlm h h1 h2 hn hp
theorem zuV{M:Nat->Nat}(h:GoodM M){a j:Nat}(h1:a<j)(hp:Jl M a (j+1)):zlb M (j+1)=a:=by
 rcases zpL h j with⟨_,e⟩|⟨b,h3,h4,h5,e⟩
 ·exfalso
  have:a∈prs M (j+1) (j+1):=by
   simp only[prs,jp,ka,prx,decide_eq_true_eq];exact⟨by omega,hp⟩
  rw[e]at this;simp at this;omega
 ·rcases Nat.lt_trichotomy a b with hab|hab|hab
  ·exact absurd h4 (zfS h hab (by omega) hp)
  ·rw[h5,hab]
  ·exact absurd hp (zfS h hab (by omega) h4)
end Go.Ax
namespace Go.Ax
open Go.Proofs
def nmK(ms:List (List Int))(i j:Nat):Option Nat:=(List.range i).find? fun k=>decide ((j:Int)<mm ms i k)
theorem zhx{ms:List (List Int)}{i j k:Nat}(h:nmK ms i j=some k):k<i/\(j:Int)<mm ms i k:=by
 rw[nmK,Zm]at h;exact⟨by simpa using h.2.1,by simpa using h.1⟩
theorem zlp{ms:List (List Int)}{i j:Nat}(h:nmK ms i j=none):∀k,k<i->¬(j:Int)<mm ms i k:=by
 rw[nmK,List.find?_eq_none]at h;intro k hk;simpa using h k (by simpa using hk)
theorem zCG{ms:List (List Int)}{i j k:Nat}(hk:k<i)(hb:∀t,t<k->¬(j:Int)<mm ms i t)(hd:(j:Int)<mm ms i k):nmK ms i j=some k:=by
 rw[nmK,Zm];refine⟨by simpa using hd,by simpa using hk,fun t ht=>?_⟩;simpa using hb t ht
theorem zkI{ms:List (List Int)}{i j:Nat}(hb:∀t,t<i->¬(j:Int)<mm ms i t):nmK ms i j=none:=by
 rw[nmK,List.find?_eq_none];intro t ht;simpa using hb t (by simpa using ht)
structure PSt where
 P:List Int
 S:List Int
 Q:List Int
 own:List Int
def Jc(xs own:List Int)(j:Nat):Int:=if 0<j/\cd (mul xs) j j≠0 then own.getD ((j:Int)-cd (mul xs) j j).toNat 0 else-1
def YN(own:List Int)(j:Nat):Int:=if 0<j then own.getD (j-1) 0 else-1
def stJ(xs:List Int)(ms names:List (List Int))(i:Nat)(s:PSt)(j:Nat):PSt:=
 match nmK ms i j with
 |some k=>⟨s.P,s.S,s.Q.set ((names.getD k []).getD j 0).toNat (W (s.Q.getD ((names.getD k []).getD j 0).toNat 0+mul xs j)),s.own++[(names.getD k []).getD j 0]⟩
 |none=>⟨s.P++[YN s.own j],s.S++[Jc xs s.own j],s.Q++[(mul xs j:Int)],s.own++[(s.P.length:Int)]⟩
def js(xs:List Int)(ms names:List (List Int))(i:Nat)(s:PSt):Nat->PSt
 |0=>⟨s.P,s.S,s.Q,[]⟩
 |j+1=>stJ xs ms names i (js xs ms names i s j) j
def jm(bs ms:List (List Int))(i:Nat):Nat:=(Kz bs ms i).toNat
def yz(bs ms:List (List Int)):Nat->PSt×List (List Int)
 |0=>(⟨[],[],[],[]⟩,[])
 |i+1=>(js (bs.getD i []) ms (yz bs ms i).2 i (yz bs ms i).1 (jm bs ms i),(yz bs ms i).2++[(js (bs.getD i []) ms (yz bs ms i).2 i (yz bs ms i).1 (jm bs ms i)).own])
structure ClOk (bs ms:List (List Int)) (i:Nat) (s:PSt) (names:List (List Int)):Prop where
 sl:s.S.length=s.P.length
 ql:s.Q.length=s.P.length
 nl:names.length=i
 rl:∀k,k<i->(names.getD k []).length=jm bs ms k
 rin:∀(k j:Nat),k<i->j<jm bs ms k->0<=(names.getD k []).getD j 0/\(names.getD k []).getD j 0<s.P.length
 cmp:∀(k k' j:Nat),k<i->k'<i->k≠k'->(j:Int)<mm ms k k'->(names.getD k []).getD j 0=(names.getD k' []).getD j 0
structure OwnOk (ms names:List (List Int)) (i:Nat) (s:PSt) (j:Nat):Prop where
 ol:s.own.length=j
 oin:∀t,t<j->0<=s.own.getD t 0/\s.own.getD t 0<s.P.length
 ocmp:∀(k t:Nat),k<i->t<j->(t:Int)<mm ms i k->s.own.getD t 0=(names.getD k []).getD t 0
theorem zaO{bs ms:List (List Int)}(h:CvP bs ms){i k:Nat}(hi:i<bs.length)(hk:k<bs.length):(mm ms i k).toNat<=jm bs ms i:=by
 have hr:=(h.tab.row i hi).1;have hne:ms.getD i []≠[]:=fun e=>by rw[e]at hr;simp at hr;omega
 have h1:=(zxV hne).1 (mm ms i k) (by
  rw[mm,zd (l:=ms.getD i []),zg (by omega)]
  exact yE _)
 rw[jm,Kz];omega
theorem jG{l:List Int}{x:Int}{t:Nat}(h:t<=l.length):(l++[x]).getD t 0=if t=l.length then x else l.getD t 0:=by
 simp only[zd];by_cases h1:t=l.length
 ·rw[if_pos h1,h1,ye (zt _)];simp
 ·rw[if_neg h1,yj (by omega)]
theorem zxz{bs ms names:List (List Int)}(hc:CvP bs ms){i j:Nat}(hi:i<bs.length)(hj:j<jm bs ms i){s:PSt}(hk:ClOk bs ms i s names)(ho:OwnOk ms names i s j):
 ClOk bs ms i (stJ (bs.getD i []) ms names i s j) names/\OwnOk ms names i (stJ (bs.getD i []) ms names i s j) (j+1)/\s.P.length<=(stJ (bs.getD i []) ms names i s j).P.length:=by
 unfold stJ
 cases hn:nmK ms i j with
 |some k=>
  obtain⟨h1,h2⟩:=zhx hn;have hsym:=hc.tab.sym i hi k (by omega);have hmk:=zaO hc (i:=k) (k:=i) (by omega) hi;have hin:=hk.rin k j h1 (by omega);refine⟨⟨hk.sl,by simp[hk.ql],hk.nl,hk.rl,hk.rin,hk.cmp⟩,⟨by simp[ho.ol],fun t ht=>?_,fun k' t hk' ht htm=>?_⟩,zt _⟩
  ·rw[jG (by have:=ho.ol;omega),ho.ol];split
   ·exact hin
   ·exact ho.oin t (by omega)
  ·rw[jG (by have:=ho.ol;omega),ho.ol];split
   ·rename_i hte;rw[hte]at htm ⊢;by_cases hkk:k=k'
    ·rw[hkk]
    ·refine hk.cmp k k' j h1 hk' hkk ?_;have hu:=hc.ult k k' i (by omega) (by omega) hi hkk (by omega) (by omega);rw[hsym]at hu;omega
   ·exact ho.ocmp k' t hk' (by omega) htm
 |none=>
  have h1:=zlp hn;refine⟨⟨by simp[hk.sl],by simp[hk.ql],hk.nl,hk.rl,fun k t h2 h3=>?_,hk.cmp⟩,⟨by simp[ho.ol],fun t ht=>?_,fun k' t hk' ht htm=>?_⟩,by simp⟩
  ·have:=hk.rin k t h2 h3;simp only[zq,zi,zp];omega
  ·rw[jG (by have:=ho.ol;omega),ho.ol];simp only[zq,zi,zp];split
   ·omega
   ·have:=ho.oin t (by omega);omega
  ·rw[jG (by have:=ho.ol;omega),ho.ol];split
   ·rename_i hte;rw[hte]at htm;exact absurd htm (h1 k' hk')
   ·exact ho.ocmp k' t hk' (by omega) htm
theorem zao{bs ms names:List (List Int)}(hc:CvP bs ms){i:Nat}(hi:i<bs.length){s:PSt}(hk:ClOk bs ms i s names):∀j,j<=jm bs ms i->
 ClOk bs ms i (js (bs.getD i []) ms names i s j) names/\OwnOk ms names i (js (bs.getD i []) ms names i s j) j/\s.P.length<=(js (bs.getD i []) ms names i s j).P.length
 |0,_=>⟨⟨hk.sl,hk.ql,hk.nl,hk.rl,hk.rin,hk.cmp⟩,⟨rfl,fun t ht=>absurd ht (by omega),fun k t _ ht=>absurd ht (by omega)⟩,zt _⟩
 |j+1,hj=>by
  obtain⟨h1,h2,h3⟩:=zao hc hi hk j (by omega);obtain⟨h4,h5,h6⟩:=zxz hc hi (by omega) h1 h2;exact⟨h4,h5,by rw[js];omega⟩
theorem zb2{l:List (List Int)}{x:List Int}{t:Nat}(h:t<=l.length):(l++[x]).getD t []=if t=l.length then x else l.getD t []:=by
 simp only[zd];by_cases h1:t=l.length
 ·rw[if_pos h1,h1,ye (zt _)];simp
 ·rw[if_neg h1,yj (by omega)]
theorem ze6{bs ms:List (List Int)}(hc:CvP bs ms):∀i,i<=bs.length->ClOk bs ms i (yz bs ms i).1 (yz bs ms i).2
 |0,_=>⟨rfl,rfl,rfl,fun k hk=>absurd hk (by omega),fun k j hk=>absurd hk (by omega),fun k k' j hk=>absurd hk (by omega)⟩
 |i+1,hi=>by
  have h0:=ze6 hc i (by omega);obtain⟨h1,h2,h3⟩:=zao hc (i:=i) (by omega) h0 (jm bs ms i) (zt _);have hnl:=h0.nl;refine⟨h1.sl,h1.ql,by simp[yz,hnl],fun k hk=>?_,fun k j hk hj=>?_,fun k k' j hk hk' hne hm=>?_⟩
  ·simp only[yz];rw[zb2 (by omega),hnl];split
   ·rename_i e;rw[e];exact h2.ol
   ·exact h0.rl k (by omega)
  ·simp only[yz];rw[zb2 (by omega),hnl];split
   ·rename_i e;rw[e]at hj;exact h2.oin j hj
   ·exact h1.rin k j (by omega) hj
  ·simp only[yz];rw[zb2 (by omega),zb2 (by omega),hnl];by_cases e1:k=i
   ·have e2:¬k'=i:=(by omega);rw[if_pos e1,if_neg e2];rw[e1]at hm;have hl:=zaO hc (i:=i) (k:=k') (by omega) (by omega);exact h2.ocmp k' j (by omega) (by omega) hm
   ·rw[if_neg e1];by_cases e2:k'=i
    ·rw[if_pos e2];rw[e2,<-hc.tab.sym k (by omega) i (by omega)]at hm;have hl:=zaO hc (i:=i) (k:=k) (by omega) (by omega);exact(h2.ocmp k j (by omega) (by omega) hm).symm
    ·rw[if_neg e2];exact h0.cmp k k' j (by omega) (by omega) hne hm
theorem zsV{bs ms:List (List Int)}(hc:CvP bs ms){i:Nat}:∀d,i+d<=bs.length->(yz bs ms i).1.P.length<=(yz bs ms (i+d)).1.P.length
 |0,_=>zt _
 |d+1,h=>by
  have h1:=zsV hc (i:=i) d (by omega);obtain⟨_,_,h3⟩:=zao hc (i:=i+d) (by omega) (ze6 hc (i+d) (by omega)) (jm bs ms (i+d)) (zt _);have e:yz bs ms (i+(d+1))=yz bs ms (i+d+1):=rfl;rw[e];simp only[yz];omega
theorem zpQ{bs ms names:List (List Int)}(hc:CvP bs ms){i:Nat}(hi:i<bs.length){s:PSt}(hk:ClOk bs ms i s names){j:Nat}:∀d,j+d<=jm bs ms i->(js (bs.getD i []) ms names i s j).P.length<=(js (bs.getD i []) ms names i s (j+d)).P.length
 |0,_=>zt _
 |d+1,h=>by
  have h1:=zpQ hc hi hk (j:=j) d (by omega);obtain⟨k1,k2,_⟩:=zao hc hi hk (j+d) (by omega);have h3:=(zxz hc hi (by omega) k1 k2).2.2;have e:js (bs.getD i []) ms names i s (j+(d+1))=stJ (bs.getD i []) ms names i (js (bs.getD i []) ms names i s (j+d)) (j+d):=rfl;rw[e];omega
def znD(bs ms:List (List Int)):Prop:=(∃i,i<bs.length/\24<jm bs ms i)\/24<(yz bs ms bs.length).1.P.length
theorem zxt{bs ms:List (List Int)}(hc:CvP bs ms){i j:Nat}(hi:i<bs.length)(hj:j<=jm bs ms i)(h:24<(js (bs.getD i []) ms (yz bs ms i).2 i (yz bs ms i).1 j).P.length):znD bs ms:=by
 refine .inr ?_;have h0:=ze6 hc i (by omega);have h1:=zpQ hc hi h0 (j:=j) (jm bs ms i-j) (by omega);rw[show j+(jm bs ms i-j)=jm bs ms i by omega]at h1;have h2:=zsV hc (i:=i+1) (bs.length-(i+1)) (by omega);rw[show i+1+(bs.length-(i+1))=bs.length by omega]at h2;simp only[yz]at h2;omega
end Go.Ax
namespace Go.Ax
open Go.Proofs
def sg(f:Nat->Int):Nat->Int
 |0=>0
 |n+1=>sg f n+f n
theorem qk{f g:Nat->Int}:∀{n:Nat},(∀t,t<n->f t=g t)->sg f n=sg g n
 |0,_=>rfl
 |n+1,h=>by rw[sg,sg,qk (n:=n) fun t ht=>h t (by omega),h n (by omega)]
theorem ziB(f g:Nat->Int):∀n,sg (fun t=>f t+g t) n=sg f n+sg g n
 |0=>rfl
 |n+1=>by simp only[sg];rw[ziB f g n];omega
theorem zxB(f g:Nat->Int):∀n,sg (fun t=>f t-g t) n=sg f n-sg g n
 |0=>rfl
 |n+1=>by simp only[sg];rw[zxB f g n];omega
theorem Ko{f:Nat->Int}:∀{n:Nat},(∀t,t<n->f t=0)->sg f n=0
 |0,_=>rfl
 |n+1,h=>by rw[sg,Ko (n:=n) fun t ht=>h t (by omega),h n (by omega)];rfl
theorem ziA(c:Int)(f:Nat->Int):∀n,sg (fun t=>c*f t) n=c*sg f n
 |0=>by simp[sg]
 |n+1=>by simp only[sg];rw[ziA c f n,Int.mul_add]
theorem zuT(c:Int)(f:Nat->Int):∀n,sg (fun t=>f t*c) n=sg f n*c
 |0=>by simp[sg]
 |n+1=>by simp only[sg];rw[zuT c f n,Int.add_mul]
theorem zjG(f:Nat->Nat->Int):∀n m,sg (fun i=>sg (fun j=>f i j) m) n=sg (fun j=>sg (fun i=>f i j) n) m
 |0,m=>by
  rw[sg];exact(Ko fun _ _=>rfl).symm
 |n+1,m=>by
  simp only[sg];rw[zjG f n m,ziB]
theorem zgD{f:Nat->Int}:∀{n p:Nat},p<n->(∀t,t<n->t≠p->f t=0)->sg f n=f p
 |0,p,hp,_=>by omega
 |n+1,p,hp,h=>by
  rw[sg];by_cases e:p=n
  ·subst e;rw[Ko fun t ht=>h t (by omega) (by omega)];omega
  ·rw[zgD (n:=n) (p:=p) (by omega) fun t ht hne=>h t (by omega) hne,h n (by omega) (by omega)];omega
theorem zri{f:Nat->Int}{m:Nat}:∀{n:Nat},m<=n->(∀t,m<=t->t<n->f t=0)->sg f n=sg f m
 |0,h,_=>by rw[show m=0 by omega]
 |n+1,h,hz=>by
  by_cases e:m=n+1
  ·rw[e]
  ·rw[sg,zri (n:=n) (by omega) fun t h1 h2=>hz t h1 (by omega),hz n (by omega) (by omega)];omega
theorem zhj{f:Nat->Int}:∀{n:Nat},(∀t,t<n->0<=f t)->0<=sg f n
 |0,_=>by simp[sg]
 |n+1,h=>by
  have:=zhj (n:=n) fun t ht=>h t (by omega);have:=h n (by omega);rw[sg];omega
theorem zmt{f:Nat->Int}{b:Int}:∀{n:Nat},(∀t,t<n->f t<=b)->sg f n<=b*n
 |0,_=>by simp[sg]
 |n+1,h=>by
  have h1:=zmt (n:=n) fun t ht=>h t (by omega);have h2:=h n (by omega);rw[sg,show((n+1:Nat):Int)=(n:Int)+1 by omega,Int.mul_add];omega
def fW(M r:Nat->Nat->Nat)(len:Nat->Nat)(i q:Nat):Int:=sg (fun j=>if r i j=q then(M i j:Int)else 0) (len i)
def wSm(M r:Nat->Nat->Nat)(len:Nat->Nat)(n q:Nat):Int:=sg (fun i=>fW M r len i q) n
structure RowsOk (n N:Nat) (len:Nat->Nat) (r c:Nat->Nat->Nat):Prop where
 lt:∀i j,i<n->j<len i->r i j<N
 sep:∀i k j j',i<n->k<n->j<len i->j'<len k->r i j=r k j'->j=j'/\(i=k\/j<c i k)
 cmp:∀i k j,i<n->k<n->i≠k->j<c i k->r i j=r k j
 cle:∀i k,i<n->k<n->i≠k->c i k<=len i/\c i k<=len k
theorem zw5{n N:Nat}{len:Nat->Nat}{M r c:Nat->Nat->Nat}(h:RowsOk n N len r c){i j:Nat}(hi:i<n)(hj:j<len i):fW M r len i (r i j)=M i j:=by
 rw[fW,zgD hj fun t ht hne=>?_,if_pos rfl];exact if_neg fun e=>hne (h.sep i i t j hi hi ht hj e).1
theorem zyd{M r:Nat->Nat->Nat}{len:Nat->Nat}{i q:Nat}(h:∀j,j<len i->r i j≠q):fW M r len i q=0:=Ko fun t ht=>if_neg (h t ht)
theorem zra{n N:Nat}{len:Nat->Nat}{r c:Nat->Nat->Nat}(M:Nat->Nat->Nat)(h:RowsOk n N len r c)(g:Nat->Int){i:Nat}(hi:i<n):
 sg (fun q=>g q*fW M r len i q) N=sg (fun j=>g (r i j)*M i j) (len i):=by
 have e1:sg (fun q=>g q*fW M r len i q) N=sg (fun q=>sg (fun j=>if r i j=q then g (r i j)*(M i j:Int)else 0) (len i)) N:=qk fun q _=>by
  rw[fW,<-ziA];refine qk fun j _=>?_;by_cases e:r i j=q
  ·rw[if_pos e,if_pos e,e]
  ·rw[if_neg e,if_neg e,Int.mul_zero]
 rw[e1,zjG];refine qk fun j hj=>?_;rw[zgD (h.lt i j hi hj) fun t _ hne=>if_neg fun e=>hne e.symm,if_pos rfl]
theorem RowsOk.less{n N:Nat}{len:Nat->Nat}{r c:Nat->Nat->Nat}(h:RowsOk (n+1) N len r c):RowsOk n N len r c:=
 ⟨fun i j hi=>h.lt i j (by omega),fun i k j j' hi hk=>h.sep i k j j' (by omega) (by omega),fun i k j hi hk=>h.cmp i k j (by omega) (by omega),fun i k hi hk=>h.cle i k (by omega) (by omega)⟩
theorem zDA{n N:Nat}{len:Nat->Nat}{r c:Nat->Nat->Nat}(M:Nat->Nat->Nat)(h:RowsOk n N len r c){i k:Nat}(hi:i<n)(hk:k<n)(hne:i≠k):
 sg (fun j=>fW M r len k (r i j)*(M i j:Int)) (len i)=sg (fun j=>(M i j:Int)*(M k j:Int)) (c i k):=by
 rw[zri (h.cle i k hi hk hne).1 fun t h1 h2=>?_]
 ·refine qk fun j hj=>?_;have hl:=h.cle i k hi hk hne;rw[h.cmp i k j hi hk hne hj,zw5 h hk (by omega),JO]
 ·rw[zyd fun j hj e=>?_,zfm];obtain⟨e1,e2⟩:=h.sep i k t j hi hk h2 hj e.symm;rcases e2 with e2|e2
  ·exact hne e2
  ·omega
def tw(x:Int):Int:=x*(x-1)
theorem zCk(x y:Int):tw (x+y)=tw x+(tw y+2*(x*y)):=by
 simp only[tw,Int.mul_sub,Int.add_mul,Int.mul_add,Int.mul_one,JO y x];omega
theorem zAF{N:Nat}{len:Nat->Nat}{r c:Nat->Nat->Nat}(M:Nat->Nat->Nat):∀{n:Nat},RowsOk n N len r c->
 sg (fun q=>tw (wSm M r len n q)) N=sg (fun i=>sg (fun j=>tw (M i j)) (len i)+2*sg (fun k=>sg (fun j=>(M i j:Int)*(M k j:Int)) (c i k)) i) n
 |0,_=>by
  rw[sg];exact Ko fun q _=>by rw[wSm,sg,tw];rfl
 |n+1,h=>by
  have ih:=zAF M h.less;rw[sg,<-ih]
  have e1:sg (fun q=>tw (wSm M r len (n+1) q)) N=sg (fun q=>tw (wSm M r len n q)+(tw (fW M r len n q)+2*(wSm M r len n q*fW M r len n q))) N:=qk fun q _=>by
   rw[show wSm M r len (n+1) q=wSm M r len n q+fW M r len n q from rfl,zCk]
  rw[e1,ziB,ziB,ziA]
  have e2:sg (fun q=>tw (fW M r len n q)) N=sg (fun j=>tw (M n j)) (len n):=by
   have e3:sg (fun q=>tw (fW M r len n q)) N=sg (fun q=>(fW M r len n q-1)*fW M r len n q) N:=qk fun q _=>(by rw[tw,JO]);rw[e3,zra M h (fun q=>fW M r len n q-1) (by omega)];refine qk fun j hj=>?_;rw[zw5 h (by omega) hj,tw,JO]
  have e4:sg (fun q=>wSm M r len n q*fW M r len n q) N=sg (fun k=>sg (fun j=>(M n j:Int)*(M k j:Int)) (c n k)) n:=by
   rw[zra M h (fun q=>wSm M r len n q) (by omega)]
   have e5:sg (fun j=>wSm M r len n (r n j)*(M n j:Int)) (len n)=sg (fun j=>sg (fun k=>fW M r len k (r n j)*(M n j:Int)) n) (len n):=qk fun j _=>by
    rw[zuT];rfl
   rw[e5,zjG];exact qk fun k hk=>zDA M h (by omega) (by omega) (by omega)
  rw[e2,e4]
theorem zCM{n N:Nat}{len:Nat->Nat}{r c M:Nat->Nat->Nat}(h:RowsOk n N len r c)(zba:Nat->Nat->Prop)[∀p q,Decidable (zba p q)](Px:Nat->Nat->Nat->Prop)[∀i a j,Decidable (Px i a j)]
 (hpos:∀i,i<n->0<len i)
 (hn:∀i j p,i<n->j<len i->(zba p (r i j)↔∃a,a<j/\p=r i a/\Px i a j))
 (hx:∀i a,i<n->a<len i->sg (fun j=>if a<j/\Px i a j then(M i j:Int)else 0) (len i)=(M i a:Int)-if a+1=len i then 1 else 0)
 (p:Nat):wSm M r len n p-sg (fun q=>if zba p q then wSm M r len n q else 0) N=sg (fun i=>if r i (len i-1)=p then 1 else 0) n:=by
 have e1:sg (fun q=>if zba p q then wSm M r len n q else 0) N=sg (fun i=>sg (fun q=>(if zba p q then 1 else 0)*fW M r len i q) N) n:=by
  rw[zjG];refine qk fun q _=>?_;rw[ziA];by_cases e:zba p q
  ·rw[if_pos e,if_pos e,Int.one_mul];rfl
  ·rw[if_neg e,if_neg e,zfm]
 rw[e1,wSm,<-zxB];refine qk fun i hi=>?_;rw[zra M h (fun q=>if zba p q then 1 else 0) hi];have hl:=hpos i hi;by_cases hp:∃a,a<len i/\p=r i a
 ·obtain⟨a,ha,rfl⟩:=hp
  have e2:sg (fun j=>(if zba (r i a) (r i j)then(1:Int)else 0)*(M i j:Int)) (len i)=sg (fun j=>if a<j/\Px i a j then(M i j:Int)else 0) (len i):=qk fun j hj=>by
   have hiff:zba (r i a) (r i j)↔a<j/\Px i a j:=by
    rw[hn i j _ hi hj];constructor
    ·rintro⟨b,hb,e,hP⟩;obtain⟨e',_⟩:=h.sep i i a b hi hi ha (by omega) e;subst e';exact⟨hb,hP⟩
    ·rintro⟨h1,h2⟩;exact⟨a,h1,rfl,h2⟩
   by_cases hc:a<j/\Px i a j
   ·rw[if_pos hc,if_pos (hiff.2 hc),Int.one_mul]
   ·rw[if_neg hc,if_neg (fun e=>hc (hiff.1 e)),zfm]
  rw[e2,hx i a hi ha,zw5 h hi ha];by_cases hc:a+1=len i
  ·rw[if_pos hc,if_pos (by rw[show len i-1=a by omega])];omega
  ·rw[if_neg hc,if_neg fun e=>hc (by have:=(h.sep i i (len i-1) a hi hi (by omega) ha e).1;omega)];omega
 ·rw[zyd fun j hj e=>hp ⟨j,hj,e.symm⟩,if_neg fun e=>hp ⟨_,by omega,e.symm⟩];rw[Ko fun j hj=>?_]
  ·rfl
  ·rw[if_neg,zfm];intro e;obtain⟨b,hb,e2,_⟩:=(hn i j p hi hj).1 e;exact hp ⟨b,by omega,e2⟩
theorem zwC{M:Nat->Nat}(h:GoodM M)(a:Nat):∃k,1<=k/\qy M a k=M a:=by
 by_cases e:M (a+1)<M a
 ·obtain⟨c,r,e1,e2,e3,e4,e5⟩:=h.drop a e;have hc:=zk6 c e4;by_cases hr:0<r
  ·refine⟨c+1,by omega,?_⟩;have h1:qy M a (c+1)=qy M a c+M (a+1+c):=rfl;rw[h1,hc,e5 hr,e1]
  ·exact⟨c,e3,by rw[hc,e1];omega⟩
 ·have:=h.fall a;refine⟨1,by omega,?_⟩;have h1:qy M a 1=0+M (a+1+0):=rfl;rw[h1,zX];omega
theorem zrF{M:Nat->Nat}(h:GoodM M){a k j:Nat}(hk:qy M a k=M a)(hj:a<j):Jl M a j↔j-a<=k:=by
 unfold Jl;rw[<-hk];constructor
 ·intro h1
  exact Classical.byContradiction fun hn=>by
   have:=QE h a (k:=k) (k':=j-a) (by omega);omega
 ·intro h1;by_cases e:j-a=k
  ·rw[e];exact zt _
  ·exact Nat.le_of_lt (QE h a (by omega))
instance {M:Nat->Nat} {a j:Nat}:Decidable (Jl M a j):=inferInstanceAs (Decidable (qy M a (j-a)<=M a))
theorem zuS{M:Nat->Nat}(h:GoodM M){a k:Nat}(hk:qy M a k=M a):∀t,sg (fun j=>if a<j/\Jl M a j then(M j:Int)else 0) (a+1+t)=(qy M a (min t k):Nat)
 |0=>by
  rw[show min 0 k=0 by omega];rw[Ko fun j hj=>if_neg fun e=>by omega];rfl
 |t+1=>by
  rw[show a+1+(t+1)=a+1+t+1 by omega,sg,zuS h hk t];by_cases e:t+1<=k
  ·rw[if_pos ⟨by omega,(zrF h hk (by omega)).2 (by omega)⟩,show min t k=t by omega,show min (t+1) k=t+1 by omega];have h1:qy M a (t+1)=qy M a t+M (a+1+t):=rfl;rw[h1];omega
  ·rw[if_neg fun e2=>e (by have:=(zrF h hk (by omega)).1 e2.2;omega),show min t k=k by omega,show min (t+1) k=k by omega];omega
theorem zzv{M:Nat->Nat}(h:GoodM M){n a:Nat}(ha:a<n)(hl:M (n-1)=1)(hs:a+1<n->M a<=qy M a (n-1-a)):
 sg (fun j=>if a<j/\Jl M a j then(M j:Int)else 0) n=(M a:Int)-if a+1=n then 1 else 0:=by
 obtain⟨k,h1,hk⟩:=zwC h a;have e:=zuS h hk (n-(a+1));rw[show a+1+(n-(a+1))=n by omega]at e;rw[e];by_cases hc:a+1=n
 ·rw[if_pos hc,show min (n-(a+1)) k=0 by omega];rw[show n-1=a by omega]at hl;rw[hl];rfl
 ·rw[if_neg hc];have h2:=hs (by omega)
  have h3:k<=n-1-a:=Classical.byContradiction fun hn=>by
   have:=QE h a (k:=n-1-a) (k':=k) (by omega);omega
  rw[show min (n-(a+1)) k=k by omega,hk];omega
def CLs:List Nat->Prop
 |[]=>True
 |b::l=>(if l=[]then b<=1 else b<=l.sum)/\CLs l
theorem zsH:∀(n a b:Nat),b<=n->0<b->(ex a b).sum+Nat.gcd a b=a+b
 |0,a,b,h,hb=>by omega
 |n+1,a,b,h,hb=>by
  rw[kL hb,KD];have e0:=Nat.div_add_mod a b;have e1:(List.replicate (a/b) b).sum=a/b*b:=by simp
  have e2:Nat.gcd a b=Nat.gcd b (a%b):=by rw[jv a b,Jp b a,jv]
  rw[e1,Nat.mul_comm (a/b) b];by_cases hm:0<a%b
  ·have ih:=zsH n b (a%b) (by have:=Nat.mod_lt a hb;omega) hm;rw[e2];omega
  ·have h0:a%b=0:=(by omega);rw[e2,h0,zbz,Nat.gcd_zero_right];simp only[List.sum_nil];omega
def zff(g:Nat)(L:List Nat):Prop:=if L=[]then g<=1 else g<=L.sum
theorem zff.of{g:Nat}{L:List Nat}(h0:0<g)(h:g<=L.sum):zff g L:=by
 unfold zff;split
 ·rename_i e;rw[e]at h;simp at h;omega
 ·exact h
theorem zpC{b:Nat}{X:List Nat}(h0:zff b X)(hX:CLs X):∀q,CLs (List.replicate q b++X)/\zff b (List.replicate q b++X)
 |0=>⟨hX,h0⟩
 |q+1=>by
  obtain⟨h1,h2⟩:=zpC h0 hX q;rw[yw,zV];refine⟨⟨h2,h1⟩,?_⟩;unfold zff;rw[if_neg (by simp),List.sum_cons];omega
theorem zsn{a b:Nat}(hb:0<b):Nat.gcd a b<=b:=Nat.le_of_dvd hb (Jz a b)
theorem zyS{L:List Nat}(hL:CLs L):∀(n a b:Nat),b<=n->0<b->zff (Nat.gcd a b) L->CLs (ex a b++L)
 |0,a,b,h,hb,_=>by omega
 |n+1,a,b,h,hb,hg=>by
  have e2:Nat.gcd a b=Nat.gcd b (a%b):=by rw[jv a b,Jp b a,jv]
  rw[kL hb,zZ];by_cases hm:0<a%b
  ·have hlt:=Nat.mod_lt a hb;have hs:=zsH b b (a%b) (by omega) hm;have hgr:=zsn (a:=b) hm;have hX:=zyS hL n b (a%b) (by omega) hm (by rw[<-e2];exact hg);refine(zpC (zff.of hb ?_) hX _).1;rw[KD];omega
  ·have h0:a%b=0:=(by omega);rw[h0,zbz,yV];rw[e2,h0,Nat.gcd_zero_right]at hg;exact(zpC hg hL _).1
theorem znv:∀(l:List (Nat×Nat)) (g:Nat),zq2 g l->(∀p∈l,1<=p.1)->CLs (JM l)/\zff g (JM l)
 |[],g,h,_=>by
  have:g=1:=h;subst this;exact⟨trivial,by unfold zff;rw[if_pos (show JM []=[]from rfl)];omega⟩
 |(k,e)::l,g,h,hk=>by
  obtain⟨rfl,h1,h2⟩:=h;obtain⟨i1,i2⟩:=znv l _ h2 fun p hp=>hk p (List.mem_cons_of_mem _ hp);have hk1:1<=k:=hk (k,e) (by simp);have hg:Nat.gcd e k<=k:=zsn hk1;have hs:=zsH e k e (zt _) h1;rw[jv k e]at hs;refine⟨zyS i1 e k e (zt _) h1 (by rw[jv];exact i2),zff.of h1 ?_⟩;rw[JM,KD];omega
theorem zub:∀{l:List Nat},CLs l->∀i,i<l.length->(i+1=l.length->l.getD i 1<=1)/\(i+1<l.length->l.getD i 1<=(l.drop (i+1)).sum)
 |[],_,i,hi=>by simp at hi
 |b::l,h,0,_=>by
  obtain⟨h1,_⟩:=h;simp only[zi,qr,Kw,uw];constructor
  ·intro e;have:l=[]:=yF (by omega)
   rwa [if_pos this]at h1
  ·intro e;rw[if_neg (fun e2=>by rw[e2]at e;simp at e)]at h1;exact h1
 |b::l,h,i+1,hi=>by
  have:=zub h.2 i (by simpa using hi);simp only[zi,yT,Kw];exact⟨fun e=>this.1 (by omega),fun e=>this.2 (by omega)⟩
theorem zpH{l:List Nat}(i:Nat):∀k,i+1+k<=l.length->qy (fun t=>l.getD t 1) i k=((l.drop (i+1)).take k).sum
 |0,_=>by simp[qy]
 |k+1,h=>by
  have hk:k<(l.drop (i+1)).length:=by rw[List.length_drop];omega
  rw[qy,zpH i k (by omega),List.take_succ_eq_append_getElem hk,KD,List.getElem_drop];simp only[List.sum_cons,List.sum_nil,zX];rw[zd,zg (by omega)];rfl
theorem zzC{xs:List Int}(h:Br xs):CLs (Yh xs):=by
 have hp:=h.pos;have hc:=zjl h (xs.length-1) 0 (by omega);refine(znv _ _ hc ?_).1
 have key:∀(n i:Nat),i+n+1<=xs.length->∀p∈blk xs i n,1<=p.1:=by
  intro n
  induction n with
  |zero=>intro i _ p hp;cases hp
  |succ n ih=>
   intro i hi p hp;rcases List.mem_cons.1 hp with e|e
   ·rw[e];have:=zeT h (i:=i) (by omega);show 1<=kkN xs i;rw[kkN];omega
   ·exact ih (i+1) (by omega) p e
 exact key _ 0 (by omega)
theorem zuL{M:Nat->Nat}(h:GoodM M)(a:Nat){k k':Nat}(hk:k<=k'):qy M a k<=qy M a k':=by
 by_cases e:k=k'
 ·rw[e];exact zt _
 ·exact Nat.le_of_lt (QE h a (by omega))
theorem zzB{xs:List Int}(h:Br xs){n:Nat}(h1:1<=n)(hn:(Yh xs).length<=n):mul xs (n-1)=1/\∀a,a+1<n->mul xs a<=qy (mul xs) a (n-1-a):=by
 have hg:=(Yw h).1;have hc:=zzC h
 have hout:∀i,(Yh xs).length<=i->mul xs i=1:=fun i hi=>by
  rw[mul,zd,zD hi];rfl
 have hlast:∀i,(Yh xs).length<=i+1->mul xs i=1:=fun i hi=>by
  by_cases e:(Yh xs).length<=i
  ·exact hout i e
  ·have h2:=(zub hc i (by omega)).1 (by omega);have h3:=hg.pos i;have h4:(Yh xs).getD i 1=mul xs i:=rfl;omega
 refine⟨hlast _ (by omega),fun a ha=>?_⟩;by_cases e:(Yh xs).length<=a+1
 ·rw[hlast a e];have h2:=zuL hg a (k:=1) (k':=n-1-a) (by omega);have h3:qy (mul xs) a 1=0+mul xs (a+1+0):=rfl;have h4:=hg.pos (a+1+0);omega
 ·have h2:=(zub hc a (by omega)).2 (by omega);have h3:=zpH (l:=Yh xs) a ((Yh xs).length-(a+1)) (by omega);rw[zG (by rw[List.length_drop];omega)]at h3;have h4:=zuL hg a (k:=(Yh xs).length-(a+1)) (k':=n-1-a) (by omega);have h5:qy (fun t=>(Yh xs).getD t 1) a ((Yh xs).length-(a+1))=qy (mul xs) a ((Yh xs).length-(a+1)):=rfl;have h6:(Yh xs).getD a 1=mul xs a:=rfl;omega
end Go.Ax
