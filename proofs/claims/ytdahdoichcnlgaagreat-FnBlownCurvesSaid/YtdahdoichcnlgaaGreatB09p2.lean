import Derived.Test.YtdahdoichcnlgaaGreatB08p2
import Derived.Test.YtdahdoichcnlgaaGreatB02p2
import Derived.Test.YtdahdoichcnlgaaGreatB03p2
import Derived.Test.YtdahdoichcnlgaaGreatB04p2
import Derived.Test.YtdahdoichcnlgaaGreatB07p2
import Derived.Test.YtdahdoichcnlgaaGreatAxP4p2
set_option linter.all false
set_option maxRecDepth 100000
set_option maxHeartbeats 4000000
open Int renaming le_refl->qJ,mul_le_mul->qX,mul_le_mul_of_nonneg_left->yD,mul_nonneg->qk,mul_tdiv_cancel_left->ZA,natCast_nonneg->uj,toNat_natCast->zV
open List renaming append_assoc->zU,getD_eq_getElem?_getD->zd,getElem?_eq_getElem->zg,getElem?_map->zT,getElem_mem->yN,length_cons->zi,length_map->yf,length_nil->zq,length_set->yG,length_take->zZ,map_set->Qk,mem_iff_getElem->yM,mem_singleton->yF,take_of_length_le->zy,take_succ_eq_append_getElem->zJ
open Nat renaming le_mul_of_pos_left->zbH,le_of_ble_eq_true->ze,le_refl->zt
open Option.some renaming injEq->za
open Prod.mk renaming injEq->zb
/-
 Curves of clusters:spec.CurveOfCluster,with its own list of branches. No conditions but those of the contracts.
-/
namespace Go.Ax
open Go.Proofs
noncomputable def QD(a b c:List V):List V×List V×Int:=(V.frzs (zc6 a b c).1,(zc6 a b c).2.1,(zc6 a b c).2.2)
def zuf(f:List V->List V->List V->List V×List V×Int)(q:List V->List V->List V->Prop):zN:=fun
 |[.agg [.slc false 2 (.int .i64 0) a0,.slc false 2 (.int .i64 0) a1,.slc false 2 (.int .i64 0) a2]]=>some ([q a0 a1 a2],.tup [.agg [.slc true 57 (.agg [.slc false 2 (.int .i64 0) []]) ((f a0 a1 a2).1),.slc true 29 (.slc true 2 (.int .i64 0) []) ((f a0 a1 a2).2.1)],.int .i64 ((f a0 a1 a2).2.2)])
 |_=>none
theorem zhp:yI Tryz.prog 115 (zuf QD q_K):=by
 intro args ps r h hp;unfold zuf at h;split at h
 ·rename_i a0 a1 a2;cases h;have hq:q_K a0 a1 a2:=(zm.1 hp).1;obtain⟨⟨P,hP⟩,⟨S,hS⟩,⟨Q,hQ⟩⟩:=id hq;have g0:V.frzs a0=a0:=by rw[hP,zD]
  have g1:V.frzs a1=a1:=by rw[hS,zD]
  have g2:V.frzs a2=a2:=by rw[hQ,zD]
  have hpl:a0.length=P.length:=by rw[hP,zj]
  have hf1:uh a0 a1 a2=false->zc6 a0 a1 a2=([],[],1):=fun h=>by rw[zc6,h];rfl
  have hf2:uh a0 a1 a2=true->zc5 a0 a1 a2=false->zc6 a0 a1 a2=([],[],5):=fun h h2=>by rw[zc6,h,h2];rfl
  obtain⟨fs,hfs⟩:∃fs,fs=zaA (QN P S Q) P.length:=⟨_,rfl⟩;have hf3:uh a0 a1 a2=true->zc5 a0 a1 a2=true->zc6 a0 a1 a2=zpT P S (zcU fs):=fun h h2=>by rw[zc6,h,h2,hpl,hP,hS,hQ,zr,zr,zr,hfs];rfl
  have hff:zh9 a0 a1 a2=II true fs:=by rw[zh9,hpl,hP,hS,hQ,zr,zr,zr,hfs]
  obtain⟨vf,hvf⟩:∃vf,vf=II true fs:=⟨_,rfl⟩;rw[<-hvf]at hff;have hvl:vf.length=fs.length:=by rw[hvf,ye]
  have gvf:∀k,vf.getD k (.slc true 2 (.int .i64 0) [])=.slc true 2 (.int .i64 0) (I (fs.getD k [])):=fun k=>by rw[hvf,qo]
  obtain⟨n,hn⟩:∃n:Int,n=fs.length:=⟨_,rfl⟩;generalize uP:uh=zaV;generalize Yx:q_K=zeo;generalize zjo:zc5=zA8;generalize zuz:zeS=zuQ;generalize znx:zh9=zuY;generalize zqD:zoF=zw3;generalize zgt:zj5=ziu;generalize zce:zeF=zjt;generalize Kl:zei=zcD;generalize uI:zb1=Kn;refine zAx (T:=tab) (B:=[(132,zfj zaV zeo),(136,zfj zA8 zuQ),(137,zx7 zuY zuQ),(138,zp1 zw3 ziu),(3000000138,zil),(139,zlz zjt ziu),(98,zdO zcD Kn)]) (Bi:=[]) [1000016708,2000019811,2000019884,2000019998,2000023101,0,1,2,3,4,5,6,7,8,9,10,11,12,13,14,15,16,17] Tryz.func115 rfl rfl (by kernel_rfl) (ze rfl) mixed zP (by subst uP Yx zjo zuz znx zqD zgt zce Kl uI;exact(zn zcP (zn ziC (zn zlN (zn ziE (zn zpv (zn zhP (zn zjB zA)))))))) (by subst uP Yx zjo zuz znx zqD zgt zce Kl uI;exact zx) (by kernel_rfl) ?_;intro L lp rr hL hr hf hlp;have Ef:zuY a0 a1 a2=vf:=by rw[<-znx];exact hff
  conv=>cbv
  simp only[zo hL,sQ,g0,g1,g2,Ef,hvl,<-hn];refine⟨by rw[<-Yx];exact hq,fun h=>?_,fun hcl0=>?_⟩
  ·rw[hr,QD,hf1 (by rw[<-h,<-uP])]
  have hcl1:uh a0 a1 a2=true:=by rw[<-hcl0,<-uP]
  have hqv:zeS a0 a1 a2:=zvV hq hcl1;have hcl:ClP P S Q:=by have:=hqv.2;rwa [hP,hS,hQ,zr,zr,zr]at this
  have Qv:zuQ a0 a1 a2:=by rw[<-zuz];exact hqv
  have hfo:FacOk P.length fs:=by rw[hfs];exact zwi hcl
  have hl24:=hfo.len;refine⟨Qv,fun h=>?_,fun hco0=>?_⟩
  ·rw[hr,QD,hf2 hcl1 (by rw[<-h,<-zjo])]
  have hco1:zc5 a0 a1 a2=true:=by rw[<-hco0,<-zjo]
  have hf0:=hf3 hcl1 hco1;refine⟨Qv,?_⟩
  refine hlp (List V×Int) _ _ _ [1,2,4,5,6] (fun x=>[(1,none,.val (.box 31 (.agg [.slc false 2 (.int .i64 0) a0,.slc false 2 (.int .i64 0) a1,.slc false 2 (.int .i64 0) a2]))),(2,none,.val (.box 27 (.agg [.slc true 57 (.agg [.slc true 2 (.int .i64 0) []]) [],.slc true 29 (.slc true 2 (.int .i64 0) []) []]))),(4,none,.val (.slc true 29 (.slc true 2 (.int .i64 0) []) vf)),(5,none,.val (.slc true 2 (.int .i64 0) x.1)),(6,none,.val (.int .i64 x.2))])
   (fun x=>0<=x.2/\x.2<=n/\x.1=I ((zcU (fs.take x.2.toNat)).take 7)) (fun x=>(n-x.2).toNat) (([],0)) (by subst hL;rfl) ?_ ?_
  ·exact⟨by simp,by simp only;omega,rfl⟩
  rintro⟨vp,i⟩ ⟨i0,i1,hI⟩ hfx ag hag;simp only at i0 i1 hI;obtain⟨ni,hni⟩:∃ni:Nat,ni=i.toNat:=⟨_,rfl⟩;rw[<-hni]at hI;have hvpl:vp.length=((zcU (fs.take ni)).take 7).length:=by rw[hI,zj]
  conv=>cbv
  simp only[zo hL,sQ,g0,g1,g2,hvl,gvf,<-hn,zO,zj,<-hni];refine⟨fun h2=>?_,fun h2=>?_⟩
  ·obtain⟨r1,r2,r3,r4,r5⟩:=hfo.get (i:=ni) (by omega);obtain⟨xx,hx⟩:∃xx,xx=(fs.getD ni []).getD 0 0:=⟨_,rfl⟩;rw[<-hx]at r2 r3;obtain⟨c,hc⟩:∃c,c=(fs.getD ni []).getD 1 0:=⟨_,rfl⟩;rw[<-hc]at r4 r5;obtain⟨pp,hpp⟩:∃pp,pp=zcU (fs.take ni):=⟨_,rfl⟩;rw[<-hpp]at hI;have hnx:zcU (fs.take (ni+1))=pp++List.replicate c.toNat xx:=(by rw[zyk (by omega),zyB,<-hpp,<-hx,<-hc]);simp only[<-hc];refine⟨i0,h2,by omega,by omega,by omega,by omega,by omega,by omega,?_⟩
   refine hlp (List V×Int) _ _ _ [1,2,4,5,6,7] (fun x=>[(1,none,.val (.box 31 (.agg [.slc false 2 (.int .i64 0) a0,.slc false 2 (.int .i64 0) a1,.slc false 2 (.int .i64 0) a2]))),(2,none,.val (.box 27 (.agg [.slc true 57 (.agg [.slc true 2 (.int .i64 0) []]) [],.slc true 29 (.slc true 2 (.int .i64 0) []) []]))),(4,none,.val (.slc true 29 (.slc true 2 (.int .i64 0) []) vf)),(5,none,.val (.slc true 2 (.int .i64 0) x.1)),(6,none,.val (.int .i64 i)),(7,none,.val (.int .i64 x.2))])
    (fun x=>0<=x.2/\x.2<=c/\x.1=I ((pp++List.replicate (c-x.2).toNat xx).take 7)) (fun x=>x.2.toNat) ((vp,c)) (by subst hL;rfl) ?_ ?_
   ·exact⟨by simp only;omega,by simp,by simp only;rw[hI];simp⟩
   rintro⟨vp2,e⟩ ⟨e0,e1,hI2⟩ hfx2 ag2 hag2;simp only at e0 e1 hI2;have hvl2:vp2.length=((pp++List.replicate (c-e).toNat xx).take 7).length:=(by rw[hI2,zj]);have hv7:vp2.length<=7:=by rw[hvl2,zZ];omega
   conv=>cbv
   simp only[zo hL,sQ,hvl,gvf,<-hn,zO,zj,<-hni,<-hx];refine⟨fun h5=>⟨i0,h2,by omega,by omega,by omega,by omega,by omega,by omega,rfl,by simp only[zi,zq];omega,fun z hz=>by(simp only[yF]at hz;subst hz;rfl),?_⟩,fun h5=>?_⟩
   ·rw[zk (n:=e-1) (by omega) (by omega)];refine hag2 (_,e-1) ⟨by simp only;omega,by simp only;omega,?_⟩ (by simp only;omega);simp only;rw[show(c-(e-1)).toNat=(c-e).toNat+1 by omega,<-zw7 (by rw[<-hvl2];omega),<-jb,<-hI2];rfl
   ·rw[zk (n:=i+1) (by omega) (by omega)];refine hag (vp2,i+1) ⟨by simp only;omega,by simp only;omega,?_⟩ (by simp only;omega);simp only
    rw[show(i+1).toNat=ni+1 by omega,hnx,hI2,zyo (t:=(c-e).toNat) (c:=c.toNat) (by omega) (by
     rcases h5 with h5|h5
     ·exact .inl (by omega)
     ·exact .inr (by rw[<-hvl2];omega))]
  have htk:fs.take ni=fs:=zy (by omega);obtain⟨ps,hps⟩:∃ps,ps=zcU fs:=⟨_,rfl⟩;rw[htk,<-hps]at hI hvpl;rw[<-hps]at hf0;rw[zZ]at hvpl;refine⟨fun h3=>?_,fun h3=>?_⟩
  ·have h4:ps.length=0\/6<ps.length:=(by omega);rw[hr,QD,hf0,zpT,if_pos h4]
  have hp6:1<=ps.length/\ps.length<=6:=by omega
  have hf4:zpT P S ps=bif ps.all (okX P S)then(BB true (ps.map (zkx P S)),II true (T2 ps.length (com P ps)),0)else([],[],5):=by rw[zpT,if_neg (by omega)]
  rw[zy (by omega)]at hI;have hvl3:vp.length=ps.length:=by rw[hI,zj]
  have gvp:∀k,vp.getD k (.int .i64 0)=.int .i64 (ps.getD k 0):=fun k=>by rw[hI,zO]
  have hbatx:∀x:Int,0<=x->x<P.length->zw3 a0 a1 a2 x=zc7 (zaD P S x):=fun x h1 h2=>by rw[<-zqD,zoF,hP,hS,zr,zr]
  have Qp:∀x:Int,0<=x->x<P.length->ziu a0 a1 a2 x:=by
   rw[<-zgt];exact fun x h1 h2=>⟨hqv,h1,by rw[hpl];exact h2⟩
  have Ep:∀x:Int,zjt a0 a1 a2 x=I (yK P x):=fun x=>by rw[<-zce,zeF,hP,zr]
  have hpin:∀k,k<ps.length->0<=ps.getD k 0/\ps.getD k 0<P.length:=fun k hk=>zvW hfo (ps.getD k 0) (by rw[<-hps];exact zmX hk);obtain⟨m,hm⟩:∃m:Int,m=ps.length:=⟨_,rfl⟩;clear hag hfx ag
  refine hlp ((List V×List V)×Int) _ _ _ [1,2,5,8,9,10] (fun x=>[(1,none,.val (.box 31 (.agg [.slc false 2 (.int .i64 0) a0,.slc false 2 (.int .i64 0) a1,.slc false 2 (.int .i64 0) a2]))),(2,none,.val (.box 27 (.agg [.slc true 57 (.agg [.slc true 2 (.int .i64 0) []]) [],.slc true 29 (.slc true 2 (.int .i64 0) []) []]))),(5,none,.val (.slc true 2 (.int .i64 0) vp)),(8,none,.val (.box 27 (.agg [.slc true 57 (.agg [.slc false 2 (.int .i64 0) []]) x.1.1,.slc true 29 (.slc true 2 (.int .i64 0) []) []]))),(9,none,.val (.slc true 29 (.slc true 2 (.int .i64 0) []) x.1.2)),(10,none,.val (.int .i64 x.2))])
   (fun x=>0<=x.2/\x.2<=m/\x.1.1=BB false ((ps.take x.2.toNat).map (zkx P S))/\x.1.2=II true ((ps.take x.2.toNat).map (yK P))/\∀y∈ps.take x.2.toNat,okX P S y=true) (fun x=>(m-x.2).toNat) ((([],[]),0)) (by subst hL;rfl) ?_ ?_
  ·exact⟨by simp,by simp only;omega,rfl,rfl,fun y hy=>by cases hy⟩
  rintro⟨⟨bs,qs⟩,j⟩ ⟨j0,j1,hB,hQ2,hok⟩ hfx ag hag;simp only at j0 j1 hB hQ2 hok;obtain⟨nj,hnj⟩:∃nj:Nat,nj=j.toNat:=⟨_,rfl⟩;rw[<-hnj]at hB hQ2 hok;have hbl:bs.length<=6:=by rw[hB,yz,yf,zZ];omega
  have hql:qs.length<=6:=by rw[hQ2,ye,yf,zZ];omega
  conv=>cbv
  simp only[zo hL,sQ,g0,g1,g2,hvl3,gvp,<-hm,<-hnj,Ep];refine⟨fun h4=>?_,fun h4=>?_⟩
  ·have hnl:nj<ps.length:=(by omega);obtain⟨x,hx⟩:∃x,x=ps.getD nj 0:=⟨_,rfl⟩;obtain⟨x0,x1⟩:=hpin nj hnl;rw[<-hx]at x0 x1;simp only[<-hx,hbatx x x0 x1];have hxm:x∈ps:=(by rw[hx];exact zmX hnl);have htk2:ps.take (nj+1)=ps.take nj++[x]:=(by rw[zJ hnl,zwd hnl,hx]);refine⟨j0,h4,hnl,Qp x x0 x1,?_⟩
   cases hox:okX P S x with
   |false=>
    rw[zCt hox];refine⟨fun _=>?_,fun h=>by cases h⟩;have hall:ps.all (okX P S)=false:=(by rw[List.all_eq_false];exact⟨x,hxm,by rw[hox];simp⟩);rw[hr,QD,hf0,hf4,hall];rfl
   |true=>
    rw[zAK hox,zk (n:=j+1) (by omega) (by omega)];refine⟨fun h=>absurd rfl h,fun _=>⟨by simp only[zi,zq];omega,fun z hz=>by(simp only[yF]at hz;subst hz;rfl),j0,h4,hnl,Qp x x0 x1,by simp only[zi,zq];omega,fun z hz=>by(simp only[yF]at hz;subst hz;rfl),?_⟩⟩;refine hag ((_,_),j+1) ⟨by simp only;omega,by simp only;omega,?_,?_,fun y hy=>?_⟩ (by simp only;omega)
    ·simp only;rw[show(j+1).toNat=nj+1 by omega,htk2,List.map_append,hB];simp[BB]
    ·simp only;rw[show(j+1).toNat=nj+1 by omega,htk2,List.map_append,hQ2];simp[II]
    ·simp only at hy;rw[show(j+1).toNat=nj+1 by omega,htk2]at hy;rcases List.mem_append.1 hy with hy|hy
     ·exact hok y hy
     ·rw[yF]at hy;rw[hy];exact hox
  have htj:ps.take nj=ps:=zy (by omega);rw[htj]at hB hQ2 hok;have hall:ps.all (okX P S)=true:=by rw[List.all_eq_true];exact hok
  have hf5:zc6 a0 a1 a2=(BB true (ps.map (zkx P S)),II true (T2 ps.length (com P ps)),0):=by rw[hf0,hf4,hall];rfl
  have hqsl:qs.length=ps.length:=by rw[hQ2,ye,yf]
  have gqs:∀k,k<ps.length->qs.getD k (.slc true 2 (.int .i64 0) [])=.slc true 2 (.int .i64 0) (I (yK P (ps.getD k 0))):=fun k hk=>by
   rw[hQ2,qo];congr 2;rw[zd,zT,zg hk,zd,zg hk];rfl
  have Eh:∀(xs:List Int) (y:Int),zcD (I xs) y=decide (y∈xs):=fun xs y=>by rw[<-Kl,zei,zr];rw[Bool.eq_iff_iff];simp
  have hplen:∀k,k<ps.length->(yK P (ps.getD k 0)).length<=24:=fun k hk=>zdA hcl (by have:=hpin k hk;omega) (hpin k hk).2
  have Qh:∀(k:Nat) (y:Int),k<ps.length->Kn (I (yK P (ps.getD k 0))) y:=by
   rw[<-uI];exact fun k y hk=>⟨⟨_,rfl⟩,by rw[zj];have:=hplen k hk;omega⟩
  clear hag hfx ag
  refine hlp (List V×Int) _ _ _ [2,5,8,9,13] (fun x=>[(2,none,.val (.box 27 (.agg [.slc true 57 (.agg [.slc true 2 (.int .i64 0) []]) [],.slc true 29 (.slc true 2 (.int .i64 0) []) []]))),(5,none,.val (.slc true 2 (.int .i64 0) vp)),(8,none,.val (.box 27 (.agg [.slc true 57 (.agg [.slc false 2 (.int .i64 0) []]) bs,.slc true 29 (.slc true 2 (.int .i64 0) []) x.1]))),(9,none,.val (.slc true 29 (.slc true 2 (.int .i64 0) []) qs)),(13,none,.val (.int .i64 x.2))])
   (fun x=>0<=x.2/\x.2<=m/\x.1=II true (qD (fun a=>qD (com P ps a) ps.length) x.2.toNat)) (fun x=>(m-x.2).toNat) (([],0)) (by subst hL;rfl) ?_ ?_
  ·exact⟨by simp,by simp only;omega,rfl⟩
  rintro⟨ms,i⟩ ⟨i0,i1,hM⟩ hfx ag hag;simp only at i0 i1 hM;obtain⟨ni,hni⟩:∃ni:Nat,ni=i.toNat:=⟨_,rfl⟩;rw[<-hni]at hM;have hml:ms.length=ni:=by rw[hM,ye,yR]
  conv=>cbv
  simp only[zo hL,sQ,hvl3,<-hm,<-hni];refine⟨fun h5=>?_,fun h5=>?_⟩
  ·have hnil:ni<ps.length:=by omega
   refine hlp (List V×Int) _ _ _ [2,5,8,9,13,14,15] (fun x=>[(2,none,.val (.box 27 (.agg [.slc true 57 (.agg [.slc true 2 (.int .i64 0) []]) [],.slc true 29 (.slc true 2 (.int .i64 0) []) []]))),(5,none,.val (.slc true 2 (.int .i64 0) vp)),(8,none,.val (.box 27 (.agg [.slc true 57 (.agg [.slc false 2 (.int .i64 0) []]) bs,.slc true 29 (.slc true 2 (.int .i64 0) []) ms]))),(9,none,.val (.slc true 29 (.slc true 2 (.int .i64 0) []) qs)),(13,none,.val (.int .i64 i)),(14,none,.val (.slc true 2 (.int .i64 0) x.1)),(15,none,.val (.int .i64 x.2))])
    (fun x=>0<=x.2/\x.2<=m/\x.1=I (qD (com P ps ni) x.2.toNat)) (fun x=>(m-x.2).toNat) (([],0)) (by subst hL;rfl) ?_ ?_
   ·exact⟨by simp,by simp only;omega,rfl⟩
   rintro⟨rs,k⟩ ⟨k0,k1,hR⟩ hfx2 ag2 hag2;simp only at k0 k1 hR;obtain⟨nk,hnk⟩:∃nk:Nat,nk=k.toNat:=⟨_,rfl⟩;rw[<-hnk]at hR;have hrl:rs.length=nk:=by rw[hR,zj,yR]
   conv=>cbv
   simp only[zo hL,sQ,hvl3,<-hm,<-hnk];refine⟨fun h6=>?_,fun h6=>?_⟩
   ·have hkl:nk<ps.length:=by omega
    refine hlp (Int×Int) _ _ _ [2,5,8,9,13,14,15,16,17] (fun x=>[(2,none,.val (.box 27 (.agg [.slc true 57 (.agg [.slc true 2 (.int .i64 0) []]) [],.slc true 29 (.slc true 2 (.int .i64 0) []) []]))),(5,none,.val (.slc true 2 (.int .i64 0) vp)),(8,none,.val (.box 27 (.agg [.slc true 57 (.agg [.slc false 2 (.int .i64 0) []]) bs,.slc true 29 (.slc true 2 (.int .i64 0) []) ms]))),(9,none,.val (.slc true 29 (.slc true 2 (.int .i64 0) []) qs)),(13,none,.val (.int .i64 i)),(14,none,.val (.slc true 2 (.int .i64 0) rs)),(15,none,.val (.int .i64 k)),(16,none,.val (.int .i64 x.1)),(17,none,.val (.int .i64 x.2))])
     (fun x=>0<=x.2/\x.2<=24/\(i=k->x.2=0)/\x.1=(shN ((yK P (ps.getD nk 0)).take x.2.toNat) (yK P (ps.getD ni 0)):Nat)) (fun x=>(24-x.2).toNat) ((0,0)) (by subst hL;rfl) ?_ ?_
    ·exact⟨by simp,by simp,fun _=>rfl,by simp[shN]⟩
    rintro⟨s,j⟩ ⟨j0',j1',hjk,hS2⟩ hfx3 ag3 hag3;simp only at j0' j1' hjk hS2
    conv=>cbv
    simp only[zo hL,sQ,hqsl,<-hm,<-hnk,<-hni,gqs nk hkl,gqs ni hnil,zO,zj,Eh];have hpk:=hplen nk hkl;refine⟨k0,h6,hkl,hkl,fun h7=>⟨i0,h5,hnil,k0,h6,hkl,hkl,j0',h7.1,hkl,by omega,hnil,Qh ni _ hnil,?_⟩,fun h7=>⟨rfl,by simp only[zi,zq];omega,fun z hz=>by(simp only[yF]at hz;subst hz;rfl),?_⟩⟩
    ·have hst:=zzW (b:=yK P (ps.getD ni 0)) (show j.toNat<(yK P (ps.getD nk 0)).length by omega);have hsl:=zCZ ((yK P (ps.getD nk 0)).take j.toNat) (yK P (ps.getD ni 0));rw[zZ]at hsl;have hj1:(j+1).toNat=j.toNat+1:=(by omega);refine⟨fun h8=>?_,fun h8=>?_⟩
     ·rw[if_pos h8]at hst;rw[zk (n:=s+1) (by omega) (by omega),zk (n:=j+1) (by omega) (by omega)];exact hag3 (s+1,j+1) ⟨by simp only;omega,by simp only;omega,fun h9=>absurd h9 h7.2,by simp only;rw[hj1,hst,hS2];simp⟩ (by simp only;omega)
     ·rw[if_neg h8]at hst;rw[zk (n:=j+1) (by omega) (by omega)];exact hag3 (s,j+1) ⟨by simp only;omega,by simp only;omega,fun h9=>absurd h9 h7.2,by simp only;rw[hj1,hst,hS2];simp⟩ (by simp only;omega)
    ·have hsv:s=com P ps ni nk:=by
      by_cases hik:i=k
      ·have h8:=hjk hik;rw[com,if_pos (by omega),hS2,h8];rfl
      ·have h8:(yK P (ps.getD nk 0)).length<=j.toNat:=by
        rcases h7 with h7|h7
        ·omega
        ·exact absurd h7 hik
       have h9:=hpin ni hnil;have h10:=hpin nk hkl;rw[com,if_neg (by omega),hS2,zy h8,zzX (ziL hcl (by omega) h10.2) (ziL hcl (by omega) h9.2)]
     rw[zk (n:=k+1) (by omega) (by omega)];refine hag2 (_,k+1) ⟨by simp only;omega,by simp only;omega,?_⟩ (by simp only;omega);simp only;rw[show(k+1).toNat=nk+1 by omega,zbY,<-jb,<-hR,<-hsv];rfl
   ·rw[zk (n:=i+1) (by omega) (by omega)];refine⟨by simp only[zi,zq];omega,je (by simp[V.solid]),?_⟩;refine hag (_,i+1) ⟨by simp only;omega,by simp only;omega,?_⟩ (by simp only;omega);simp only;rw[show(i+1).toNat=ni+1 by omega,zbY,ZK,<-hM,zzu,hR,show nk=ps.length by omega]
  ·have hin:ni=ps.length:=(by omega);rw[hr,QD,hf5,hM,hB,hin];simp only[qH];rfl
 ·cases h
def zu2(A B:List V):Prop:=∃bs ms:List (List Int),A=BB false bs/\B=II true ms/\1<=bs.length/\bs.length<=6/\ms.length=bs.length/\(∀i,i<bs.length->(bs.getD i []).length<=3000)/\∀i,i<bs.length->(ms.getD i []).length=bs.length
theorem ztL{a b c:List V}(h:(QD a b c).2.2=0):zu2 (QD a b c).1 (QD a b c).2.1:=by
 simp only[QD,zc6]at h ⊢
 cases hh:uh a b c with
 |false=>rw[hh]at h;cases h
 |true=>
  rw[hh]at h
  cases h2:zc5 a b c with
  |false=>rw[h2]at h;cases h
  |true=>
   rw[h2]at h;have hc:ClP (qj a) (qj b) (qj c):=zf8.1 hh;have hal:a.length=(qj a).length:=(by rw[qj,yf]);have hfo:=zwi hc;rw[hal]at h ⊢;obtain⟨ps,hps⟩:∃ps,ps=zcU (zaA (QN (qj a) (qj b) (qj c)) (qj a).length):=⟨_,rfl⟩;simp only[cond_true,<-hps,zpT]at h ⊢;by_cases hn:ps.length=0\/6<ps.length
   ·rw[if_pos hn]at h;cases h
   ·rw[if_neg hn]at h;rw[if_neg hn]
    cases ha:ps.all (okX (qj a) (qj b))with
    |false=>rw[ha]at h;cases h
    |true=>
     rw[List.all_eq_true]at ha;refine⟨ps.map (zkx (qj a) (qj b)),T2 ps.length (com (qj a) ps),by simp only[cond_true];rw[qH],rfl,by rw[yf];omega,by rw[yf];omega,by rw[yf,T2,yR],fun i hi=>?_,fun i hi=>?_⟩
     ·rw[yf]at hi;rw[zd,zT,zg hi];have hm:=yN hi;have:=zvW hfo _ (by rw[<-hps];exact hm);exact zAJ hc this.1 this.2 (ha _ hm)
     ·rw[yf]at hi ⊢;rw[T2,js _ _ _ _ hi,yR]
def dwL(es:List V)(n:Int):Nat->List Int×Int×Int->List Int×Int×Int
 |0,x=>x
 |k+1,x=>dwL es n k (x.1.set (kw es x.2 n).toNat (W (x.1.getD (kw es x.2 n).toNat 0+1)),qa es x.2 n)
abbrev CvR:Type:=List V×List V×Int×Int
noncomputable def dwU(es:List V)(P S:List Int)(σ:Int×Int):Option (List V×List V)×Int×Int:=
 let l:=dwL es P.length (1+kw es σ 4).toNat (List.replicate P.length 0,qa es σ 4)
 let d:=Zm (I P) (I S) (I (List.replicate P.length 0)) (I l.1)
 if d.2.2.2=0 then
  if 0<kw es l.2 5/\(QD d.1 d.2.1 d.2.2.1).2.2=0 then(some ((QD d.1 d.2.1 d.2.2.1).1,(QD d.1 d.2.1 d.2.2.1).2.1),qa es l.2 5)else(none,qa es l.2 5)
 else(none,l.2)
noncomputable def dwT(es:List V)(σ:Int×Int):Option (List V×List V)×Int×Int:=
 let p:=ptF es (KH es σ [3,5,8]) (Yn es σ [3,5,8])
 dwU es p.1 p.2.1 p.2.2
theorem zCg{a b c:List V}(h:q_K a b c):q_K (zai a b c).1 (zai a b c).2.1 (zai a b c).2.2.1:=by
 rw[zai]
 cases uh a b c with
 |false=>exact⟨⟨[],rfl⟩,⟨[],rfl⟩,⟨[],rfl⟩⟩
 |true=>exact h
theorem zCh{a b c d:List V}(h:q_K a b c):q_K (Zm a b c d).1 (Zm a b c d).2.1 (Zm a b c d).2.2.1:=by
 rw[Zm]
 cases uh a b c with
 |false=>exact⟨⟨[],rfl⟩,⟨[],rfl⟩,⟨[],rfl⟩⟩
 |true=>
  cases decide (d.length=a.length)&&zja (qj d)with
  |false=>exact⟨⟨[],rfl⟩,⟨[],rfl⟩,⟨[],rfl⟩⟩
  |true=>exact zCg ⟨h.1,h.2.1,⟨_,rfl⟩⟩
def dwB(l:List Int):List Int:=if YW l=true then l else[2,3]
def dwE(es:List V)(σ:Int×Int):CvR:=
 let s:=smF es σ.1 σ.2 8 40
 let b:=dwB s.1
 let τ:=qa es s.2 2
 if kw es s.2 2=0 then(BB false [b],II true [[0]],τ)
 else(BB false [b,b],II true [[0,W ((qY b).length+kw es τ 3)],[W ((qY b).length+kw es τ 3),0]],qa es τ 3)
noncomputable def dwN(es:List V):Nat->Int×Int->CvR
 |0,σ=>dwE es σ
 |k+1,σ=>match (dwT es σ).1 with
  |some r=>(r.1,r.2,(dwT es σ).2)
  |none=>dwN es k (dwT es σ).2
noncomputable def zc4(es:List V)(a h:Int):CvR:=dwN es 4 (a,h)
theorem zy7{es:List V}{n:Int}(h1:1<=n):∀(k:Nat) {x:List Int×Int×Int},yi es x.2.1 x.2.2->yi es (dwL es n k x).2.1 (dwL es n k x).2.2/\(dwL es n k x).1.length=x.1.length
 |0,_,h=>⟨h,rfl⟩
 |k+1,x,h=>by
  have:=zy7 h1 k (x:=(x.1.set (kw es x.2 n).toNat (W (x.1.getD (kw es x.2 n).toNat 0+1)),qa es x.2 n)) (kb (σ:=x.2) h);simpa [dwL]using this
theorem zCl{es:List V}{P S:List Int}{σ:Int×Int}(h:yi es σ.1 σ.2)(hn:1<=P.length):yi es (dwU es P S σ).2.1 (dwU es P S σ).2.2:=by
 have h1:=kb (σ:=σ) (n:=4) h;have h2:=(zy7 (n:=P.length) (by omega) (1+kw es σ 4).toNat (x:=(List.replicate P.length 0,qa es σ 4)) h1).1;have h3:=kb (n:=5) h2;unfold dwU;simp only;split
 ·split<;>exact h3
 ·exact h2
theorem zDm{es:List V}{P S:List Int}{σ:Int×Int}{r:List V×List V}(h:(dwU es P S σ).1=some r):zu2 r.1 r.2:=by
 unfold dwU at h;simp only at h;split at h
 ·split at h
  ·rename_i h2;simp only[za]at h;subst h;exact ztL h2.2
  ·cases h
 ·cases h
theorem zxC{es:List V}{σ:Int×Int}(h:yi es σ.1 σ.2):1<=Yn es σ [3,5,8]/\Yn es σ [3,5,8]<=24:=by
 have:=zfX (σ:=σ) (l:=[3,5,8]) h (by simp);simp at this;omega
theorem zCm{es:List V}{σ:Int×Int}(h:yi es σ.1 σ.2):yi es (dwT es σ).2.1 (dwT es σ).2.2:=by
 have h1:=zyD (zaZ (σ:=σ) (l:=[3,5,8]) h) (zxC h).1 (zxC h).2;exact zCl h1.src h1.n1
theorem ztS(l:List Int):Br (dwB l):=by
 unfold dwB;split
 ·rename_i h;exact jz h
 ·exact jz (by decide+kernel)
theorem zDn{es:List V}{σ:Int×Int}(h:yi es σ.1 σ.2):zu2 (dwE es σ).1 (dwE es σ).2.1/\yi es (dwE es σ).2.2.1 (dwE es σ).2.2.2:=by
 have h1:=(zk9 (most:=8) (term:=40) ⟨h,by omega,by omega⟩).1;have h2:=kb (n:=2) h1;have h3:=kb (n:=3) h2;have hb:=(ztS (smF es σ.1 σ.2 8 40).1).len;unfold dwE;simp only;split
 ·refine⟨⟨_,_,rfl,rfl,by simp,by simp,rfl,fun i hi=>?_,fun i hi=>?_⟩,h2⟩
  ·simp only[zi,zq]at hi;obtain rfl:i=0:=(by omega);show(dwB _).length<=3000;omega
  ·simp only[zi,zq]at hi;obtain rfl:i=0:=(by omega);rfl
 ·refine⟨⟨_,_,rfl,rfl,by simp,by simp,rfl,fun i hi=>?_,fun i hi=>?_⟩,h3⟩
  ·simp only[zi,zq]at hi;rcases (show i=0\/i=1 by omega)with rfl|rfl
   ·show(dwB _).length<=3000;omega
   ·show(dwB _).length<=3000;omega
  ·simp only[zi,zq]at hi;rcases (show i=0\/i=1 by omega)with rfl|rfl<;>rfl
theorem zy6{es:List V}:∀(k:Nat) {σ:Int×Int},yi es σ.1 σ.2->zu2 (dwN es k σ).1 (dwN es k σ).2.1/\yi es (dwN es k σ).2.2.1 (dwN es k σ).2.2.2
 |0,σ,h=>zDn h
 |k+1,σ,h=>by
  have h1:=zCm h;rw[dwN];split
  ·rename_i r hr;exact⟨zDm hr,h1⟩
  ·exact zy6 k h1
theorem ztJ{es:List V}{a h:Int}(hq:yi es a h):zu2 (zc4 es a h).1 (zc4 es a h).2.1/\yi es (zc4 es a h).2.2.1 (zc4 es a h).2.2.2:=zy6 4 (σ:=(a,h)) hq
def ztt(f:List V->Int->Int->List V×List V×Int×Int)(q:List V->Int->Int->Prop):uk:=fun
 |[.box 101 (.agg [.slc false 5 (.int .u8 0) a0,.int .i64 a1,.int .u64 a2])]=>some ([q a0 a1 a2],.agg [.slc true 57 (.agg [.slc false 2 (.int .i64 0) []]) (f a0 a1 a2).1,.slc true 29 (.slc true 2 (.int .i64 0) []) (f a0 a1 a2).2.1],.box 101 (.agg [.slc false 5 (.int .u8 0) a0,.int .i64 (f a0 a1 a2).2.2.1,.int .u64 (f a0 a1 a2).2.2.2]))
 |_=>none
theorem zpf:zgp Tryz.prog 78 1000 (ztt zc4 yi):=by
 intro args ps r y h hp;unfold ztt at h;split at h
 ·rename_i a0 a1 a2;cases h;have hq:yi a0 a1 a2:=(zm.1 hp).1;obtain⟨E,hE⟩:∃E,E=zc4 a0 a1 a2:=⟨_,rfl⟩;have hE0:dwN a0 4 (a1,a2)=E:=hE.symm;generalize yZ:jT=jS;generalize yY:ky=jR;generalize yX:kS=jQ;generalize jj:zfS=Zb;generalize jL:QE=ZF;generalize jK:Jk=ZE;generalize jJ:Jj=ZD;generalize kP:zfR=YK;generalize zqm:zr0=zwR;generalize zp9:zxq=zwK;generalize zqw:Zm=zwX;generalize zqd:zxw=zCE;generalize zqy:QD=zwY;generalize Yx:q_K=zeo;generalize zgv:zkn=zuW;generalize zgs:zmK=zuN;generalize qn:kW=jF;generalize yA:uf=jq;generalize zd7:zg3=zlL;generalize yO:ur=kh;generalize uc:same=YJ;refine zCd (T:=tab) (B:=[(114,zpZ zwX zCE),(115,zuf zwY zeo),(81,YF jF jq),(87,zje zlL kh),(117,zjd YJ jq)]) (Bi:=[(41,0,false,zc0 jS jR jQ Zb),(42,0,false,zff ZF ZE ZD YK),(113,1000,false,zts zwR zwK),(116,1000,false,zrY zuW zuN)]) 0 [1000011004,1000011005,1000022012,2000004820,2000022089,2000022090,2000022092,2000022094,2000022095,0,2,3,4,5,6,7,8,9,10,11,12,13] Tryz.func78 rfl rfl (by kernel_rfl) (ze rfl) mixed zP (by subst yZ yY yX jj jL jK jJ kP zqm zp9 zqw zqd zqy Yx zgv zgs qn yA zd7 yO uc;exact(zn zfO (zn zhp (zn zao (zn zgN (zn zjA zA)))))) (by subst yZ yY yX jj jL jK jJ kP zqm zp9 zqw zqd zqy Yx zgv zgs qn yA zd7 yO uc;exact(ja uJ (ja ZS (ja zmE (ja zgO zx))))) (by kernel_rfl) rfl rfl zcJ rfl ?_;intro L lp rr yy hL hr hy hf hlp;have Qn:∀a h n,yi a0 a h->Zb a0 a h n:=fun a h n hs=>by rw[<-jj];exact hs
  conv=>cbv
  refine hlp (Int×Int×Int) _ _ _ [0,2,3] (fun x=>[(0,none,.val (.box 101 (.agg [.slc false 5 (.int .u8 0) a0,.int .i64 x.1,.int .u64 x.2.1]))),(2,none,.val (.box 27 (.agg [.slc true 57 (.agg [.slc true 2 (.int .i64 0) []]) [],.slc true 29 (.slc true 2 (.int .i64 0) []) []]))),(3,none,.val (.int .i64 x.2.2))])
   (fun x=>0<=x.2.2/\x.2.2<=4/\yi a0 x.1 x.2.1/\dwN a0 (4-x.2.2).toNat (x.1,x.2.1)=E) (fun x=>(4-x.2.2).toNat) ((a1,a2,0)) (by subst hL;rfl) ?_ ?_
  ·exact⟨by simp,by simp,hq,hE0⟩
  rintro⟨a,h,k⟩ ⟨k0,k1,hs,hN⟩ hfx ag hag;simp only at k0 k1 hs hN;obtain⟨m,hm⟩:∃m,m=QE a0 a h (I [3,5,8]):=⟨_,rfl⟩;obtain⟨A1,hA1⟩:∃A1,A1=Jk a0 a h (I [3,5,8]):=⟨_,rfl⟩;obtain⟨H1,hH1⟩:∃H1,H1=Jj a0 a h (I [3,5,8]):=⟨_,rfl⟩;have hm24:1<=m/\m<=24:=by rw[hm];exact zxC (σ:=(a,h)) hs
  have s1:yi a0 A1 H1:=by rw[hA1,hH1];exact uE hs
  obtain⟨⟨P,S,A2,H2⟩,hpt⟩:∃z:PtS,z=ptF a0 (A1,H1) m:=⟨_,rfl⟩;have hok:=zyD (σ:=(A1,H1)) s1 hm24.1 hm24.2;rw[<-hpt]at hok;have n1:=hok.n1;have n24:=hok.n;have nsl:=hok.sl;have s2:yi a0 A2 H2:=hok.src;simp only at n1 n24 nsl
  have hT:dwT a0 (a,h)=dwU a0 P S (A2,H2):=by
   have:ptF a0 (KH a0 (a,h) [3,5,8]) (Yn a0 (a,h) [3,5,8])=(P,S,A2,H2):=(by rw[hpt,hA1,hH1,hm]);rw[dwT,this]
  obtain⟨n,hn⟩:∃n:Int,n=P.length:=⟨_,rfl⟩;obtain⟨c,hc⟩:∃c,c=1+jT a0 A2 H2 4:=⟨_,rfl⟩;have c1:=YZ (n:=4) s2 (by omega);obtain⟨A3,hA3⟩:∃A3,A3=ky a0 A2 H2 4:=⟨_,rfl⟩;obtain⟨H3,hH3⟩:∃H3,H3=kS a0 A2 H2 4:=⟨_,rfl⟩;have s3:yi a0 A3 H3:=by rw[hA3,hH3];exact uE s2
  obtain⟨EL,hEL⟩:∃EL,EL=dwL a0 n c.toNat (List.replicate P.length 0,A3,H3):=⟨_,rfl⟩
  have hU:dwU a0 P S (A2,H2)=if(Zm (I P) (I S) (I (List.replicate P.length 0)) (I EL.1)).2.2.2=0 then
   (if 0<kw a0 EL.2 5/\(QD (Zm (I P) (I S) (I (List.replicate P.length 0)) (I EL.1)).1 (Zm (I P) (I S) (I (List.replicate P.length 0)) (I EL.1)).2.1 (Zm (I P) (I S) (I (List.replicate P.length 0)) (I EL.1)).2.2.1).2.2=0 then
    (some ((QD (Zm (I P) (I S) (I (List.replicate P.length 0)) (I EL.1)).1 (Zm (I P) (I S) (I (List.replicate P.length 0)) (I EL.1)).2.1 (Zm (I P) (I S) (I (List.replicate P.length 0)) (I EL.1)).2.2.1).1,(QD (Zm (I P) (I S) (I (List.replicate P.length 0)) (I EL.1)).1 (Zm (I P) (I S) (I (List.replicate P.length 0)) (I EL.1)).2.1 (Zm (I P) (I S) (I (List.replicate P.length 0)) (I EL.1)).2.2.1).2.1),qa a0 EL.2 5)else(none,qa a0 EL.2 5))else(none,EL.2):=by
   rw[hEL,hA3,hH3,hc,hn];rfl
  obtain⟨vp,hvp⟩:∃vp,vp=I P:=⟨_,rfl⟩;obtain⟨vs,hvs⟩:∃vs,vs=I S:=⟨_,rfl⟩;obtain⟨vw,hvw⟩:∃vw,vw=I (List.replicate P.length 0):=⟨_,rfl⟩;rw[<-hvp,<-hvs,<-hvw]at hU;have hvpl:vp.length=P.length:=by rw[hvp,zj]
  have fvp:V.frzs vp=vp:=by rw[hvp,zD]
  have fvs:V.frzs vs=vs:=by rw[hvs,zD]
  have fvw:V.frzs vw=vw:=by rw[hvw,zD]
  have g3:∀l,l=I [3,5,8]->ZF a0 a h l=m/\ZE a0 a h l=A1/\ZD a0 a h l=H1/\YK a0 a h l:=by
   intro l hl;rw[hl,<-jL,<-jK,<-jJ,<-kP,hm,hA1,hH1];exact⟨rfl,rfl,rfl,hs,⟨_,rfl⟩,by simp,by simp⟩
  obtain⟨g4,g5,g6,g7⟩:=g3 (V.frzs (V.frzs [V.int IntKind.i64 3,V.int IntKind.i64 5,V.int IntKind.i64 8])) rfl;have g8:zwR a0 A1 H1 m=(vp,vs,vw,A2,H2):=by rw[<-zqm,zr0,<-hpt,hvp,hvs,hvw]
  have g9:zwK a0 A1 H1 m:=by rw[<-zp9];exact⟨s1,hm24.1,hm24.2⟩
  have g10:jS a0 A2 H2 4=c-1:=by rw[<-yZ];omega
  have g11:jR a0 A2 H2 4=A3:=by rw[<-yY,hA3]
  have g12:jQ a0 A2 H2 4=H3:=by rw[<-yX,hH3]
  conv=>cbv
  simp only[zo hL,sQ,g4,g5,g6,g7,g8,g9,g10,g11,g12,hvpl,<-hn,show 1+(c-1)=c by omega,zk (n:=c) (by omega) (by omega)];refine⟨fun hk=>?_,fun hk=>?_⟩
  ·refine⟨by omega,qJ _,by omega,Qn _ _ _ s2,?_⟩;obtain⟨vz,hvz⟩:∃vz,vz=List.replicate n.toNat (V.int .i64 0):=⟨_,rfl⟩;have hvz2:vz=I (List.replicate P.length 0):=(by rw[hvz,zhI,hn,zV]);rw[<-hvz]
   refine hlp (List V×Int×Int×Int) _ _ _ [0,2,3,4,5,6] (fun x=>[(0,none,.val (.box 101 (.agg [.slc false 5 (.int .u8 0) a0,.int .i64 x.2.1,.int .u64 x.2.2.1]))),(2,none,.val (.box 27 (.agg [.slc true 57 (.agg [.slc true 2 (.int .i64 0) []]) [],.slc true 29 (.slc true 2 (.int .i64 0) []) []]))),(3,none,.val (.int .i64 k)),(4,none,.val (.box 31 (.agg [.slc true 2 (.int .i64 0) vp,.slc true 2 (.int .i64 0) vs,.slc true 2 (.int .i64 0) vw]))),(5,none,.val (.slc true 2 (.int .i64 0) x.1)),(6,none,.val (.int .i64 x.2.2.2))])
    (fun x=>0<=x.2.2.2/\x.2.2.2<=4/\∃l:List Int,x.1=I l/\l.length=P.length/\yi a0 x.2.1 x.2.2.1/\dwL a0 n x.2.2.2.toNat (l,x.2.1,x.2.2.1)=EL) (fun x=>x.2.2.2.toNat) ((vz,A3,H3,c)) (by subst hL;rfl) ?_ ?_
   ·exact⟨by simp only;omega,by simp only;omega,_,hvz2,List.length_replicate,s3,hEL.symm⟩
   rintro⟨vl,b,g,i⟩ ⟨i0,i4,l,hl,hll,hsl,hdl⟩ hfx2 ag2 hag2;simp only at i0 i4 hl hll hsl hdl;have hvll:vl.length=P.length:=(by rw[hl,zj,hll]);have fvl:V.frzs vl=vl:=(by rw[hl,zD]);obtain⟨t,ht⟩:∃t,t=jT a0 b g n:=⟨_,rfl⟩;obtain⟨B1,hB1⟩:∃B1,B1=ky a0 b g n:=⟨_,rfl⟩;obtain⟨G1,hG1⟩:∃G1,G1=kS a0 b g n:=⟨_,rfl⟩;have t1:=YZ (n:=n) hsl (by omega);have sB:yi a0 B1 G1:=(by rw[hB1,hG1];exact uE hsl);have gl:∀j,vl.getD j (.int .i64 0)=.int .i64 (l.getD j 0):=fun j=>(by rw[hl,zO]);have gset:∀j x,vl.set j (.int .i64 x)=I (l.set j x):=fun j x=>(by rw[hl,zam]);have e0:jS a0 b g n=t:=(by rw[<-yZ,ht]);have e1:jR a0 b g n=B1:=(by rw[<-yY,hB1]);have e2:jQ a0 b g n=G1:=(by rw[<-yX,hG1]);obtain⟨⟨D1,D2,D3,code⟩,hD⟩:∃d,d=Zm vp vs vw vl:=⟨_,rfl⟩;obtain⟨⟨cb,cm,bad⟩,hC⟩:∃d,d=QD D1 D2 D3:=⟨_,rfl⟩;obtain⟨v,hv⟩:∃v,v=jT a0 b g 5:=⟨_,rfl⟩;obtain⟨B5,hB5⟩:∃B5,B5=ky a0 b g 5:=⟨_,rfl⟩;obtain⟨G5,hG5⟩:∃G5,G5=kS a0 b g 5:=⟨_,rfl⟩;have e3:zwX vp vs vw vl=(D1,D2,D3,code):=(by rw[<-zqw,hD]);have e4:zwY D1 D2 D3=(cb,cm,bad):=(by rw[<-zqy,hC]);have e5:jS a0 b g 5=v:=(by rw[<-yZ,hv]);have e6:jR a0 b g 5=B5:=(by rw[<-yY,hB5]);have e7:jQ a0 b g 5=G5:=(by rw[<-yX,hG5]);have hDK:=zCh (a:=vp) (b:=vs) (c:=vw) (d:=vl) ⟨⟨_,hvp⟩,⟨_,hvs⟩,⟨_,hvw⟩⟩;rw[<-hD]at hDK;simp only at hDK;obtain⟨x1,fD1⟩:∃x,D1=I x:=hDK.1;obtain⟨x2,fD2⟩:∃x,D2=I x:=hDK.2.1;obtain⟨x3,fD3⟩:∃x,D3=I x:=hDK.2.2;have fD1:V.frzs D1=D1:=(by rw[fD1,zD]);have fD2:V.frzs D2=D2:=(by rw[fD2,zD]);have fD3:V.frzs D3=D3:=(by rw[fD3,zD]);clear g3 g4 g5 g6 g7 g8 g9 g10 g11 g12 hm hA1 hH1 hA3 hH3 hpt
   conv=>cbv
   simp only[zo hL,sQ,e0,e1,e2,e3,e4,e5,e6,e7,hvll,hvpl,<-hn,gl,gset,fvp,fvs,fvw,fvl,fD1,fD2,fD3];have wk:IntKind.wrap .i64 (k+1)=k+1:=zk (by omega) (by omega);rw[zk (n:=i-1) (by omega) (by omega),wk];refine⟨fun h2=>?_,fun h2=>?_⟩
   ·refine⟨Qn _ _ _ hsl,by omega,by omega,by omega,by omega,by omega,by omega,?_⟩;refine hag2 (_,B1,G1,i-1) ⟨by simp only;omega,by simp only;omega,_,rfl,by rw[yG,hll],sB,?_⟩ (by simp only;omega);simp only;rw[show i.toNat=(i-1).toNat+1 by omega,dwL]at hdl;rw[ht,hB1,hG1];exact hdl
   have hEL2:EL=(l,b,g):=by rw[<-hdl,show i.toNat=0 by omega];rfl
   have hU2:dwU a0 P S (A2,H2)=if code=0 then(if 0<v/\bad=0 then(some (cb,cm),B5,G5)else(none,B5,G5))else(none,b,g):=by
    subst hG5 hB5 hv;rw[hU,hEL2];simp only[<-hl,<-hD,<-hC]
   have hN2:(match (dwT a0 (a,h)).1 with
    |some r=>(r.1,r.2,(dwT a0 (a,h)).2)
    |none=>dwN a0 (4-(k+1)).toNat (dwT a0 (a,h)).2)=E:=by
    rw[show(4-k).toNat=(4-(k+1)).toNat+1 by omega]at hN;exact hN
   rw[hT,hU2]at hN2;have s5:yi a0 B5 G5:=(by rw[hB5,hG5];exact uE hsl);refine⟨by rw[<-zqd];exact⟨⟨⟨_,hvp⟩,⟨_,hvs⟩,⟨_,hvw⟩⟩,⟨_,hl⟩⟩,fun hc0=>⟨hc0,Qn _ _ _ hsl,fun h3=>⟨by rw[<-Yx];exact hDK,fun hb0=>?_,fun hb0=>?_⟩,fun h3=>?_⟩,fun hc0=>⟨fun h3=>absurd h3.1 hc0,fun _=>?_⟩⟩
   ·rw[if_pos hc0,if_pos ⟨h3.2,hb0⟩]at hN2;obtain⟨bs',ms',q1,_⟩:=ztL (a:=D1) (b:=D2) (c:=D3) (by rw[<-hC];exact hb0);rw[<-hC]at q1;simp only at q1;rw[hr,hy,<-hE,<-hN2,show V.frzs cb=cb by rw[q1,qH]];exact⟨rfl,rfl⟩
   ·rw[if_pos hc0,if_neg (fun h4=>hb0 h4.2)]at hN2;exact hag (B5,G5,k+1) ⟨by simp only;omega,by simp only;omega,s5,hN2⟩ (by simp only;omega)
   ·rw[if_pos hc0,if_neg (fun h4=>by omega)]at hN2;exact hag (B5,G5,k+1) ⟨by simp only;omega,by simp only;omega,s5,hN2⟩ (by simp only;omega)
   ·rw[if_neg hc0]at hN2;exact hag (b,g,k+1) ⟨by simp only;omega,by simp only;omega,hsl,hN2⟩ (by simp only;omega)
  ·have hk4:(4-k).toNat=0:=(by omega);rw[hk4]at hN;obtain⟨⟨sl,A6,H6⟩,hsm⟩:∃z,z=smF a0 a h 8 40:=⟨_,rfl⟩;have hqs:zmK a0 a h 8 40:=⟨hs,by omega,by omega⟩;have hs6:=zk9 hqs;rw[<-hsm]at hs6;obtain⟨s6,l6,l7⟩:=hs6;simp only at s6 l6 l7;have Esm:zkn a0 a h 8 40=(I sl,A6,H6):=(by rw[zkn,<-hsm]);have Eb:kW (I sl)=YW sl:=(by rw[kW,zr]);have hN3:(dwE a0 (a,h))=E:=hN;rw[dwE]at hN3;simp only[<-hsm]at hN3;subst yZ yY yX jj zgv zgs qn yA zd7 yO uc;have e23:V.frzs [V.int .i64 2,V.int .i64 3]=I [2,3]:=rfl;have Ec:∀l:List Int,zg3 (I l)=((qY l).length:Int):=fun l=>by rw[zg3,zr]
   have fin:∀(b:List Int),dwB sl=b->(jT a0 A6 H6 2=0->(BB false [b],II true [[0]],qa a0 (A6,H6) 2)=E)/\
    (¬jT a0 A6 H6 2=0->(BB false [b,b],II true [[0,W ((qY b).length+kw a0 (qa a0 (A6,H6) 2) 3)],[W ((qY b).length+kw a0 (qa a0 (A6,H6) 2) 3),0]],qa a0 (qa a0 (A6,H6) 2) 3)=E):=by
    intro b hb;rw[hb]at hN3;exact⟨fun h=>by rw[<-hN3];exact(if_pos h).symm,fun h=>by rw[<-hN3];exact(if_neg h).symm⟩
   simp only[Esm,zD,Eb,e23,Ec,same];have isl:∀l:List Int,l.length<=4->uf (I l):=fun l h=>⟨⟨l,rfl⟩,by rw[zj];omega⟩;refine⟨hqs,isl sl l7,fun hb=>?_,fun hb=>?_⟩
   ·have hd:dwB sl=[2,3]:=(by rw[dwB,if_neg (by rw[hb];decide)]);obtain⟨f1,f2⟩:=fin _ hd;refine⟨s6,fun h5=>?_,fun h5=>⟨⟨_,rfl,by rw[<-hd];exact ztS sl⟩,uE s6,isl _ (by decide),?_⟩⟩
    ·rw[hr,hy,<-hE,<-f1 h5];exact⟨rfl,rfl⟩
    ·rw[hr,hy,<-hE,<-f2 h5];exact⟨rfl,rfl⟩
   ·have hd:dwB sl=sl:=(by rw[dwB,if_pos (by simpa using hb)]);obtain⟨f1,f2⟩:=fin _ hd;have eb1:V.frzs [V.agg [V.slc true 2 (V.int IntKind.i64 0) (I sl)]]=BB false [sl]:=qH true [sl]
    have eb2:V.frzs [V.agg [V.slc false 2 (V.int IntKind.i64 0) (I sl)],V.agg [V.slc true 2 (V.int IntKind.i64 0) (I sl)]]=BB false [sl,sl]:=by
     simp only[V.frzs,V.frz,zD];rfl
    refine⟨s6,fun h5=>?_,fun h5=>⟨⟨_,rfl,by rw[<-hd];exact ztS sl⟩,uE s6,isl _ l7,?_⟩⟩
    ·rw[hr,hy,<-hE,<-f1 h5,eb1];exact⟨rfl,rfl⟩
    ·rw[hr,hy,<-hE,<-f2 h5,eb2];exact⟨rfl,rfl⟩
 ·cases h
theorem zjk:∀xs:List Int,V.frzs (U8 xs)=U8 xs
 |[]=>rfl
 |x::xs=>by
  have:=zjk xs;simp only[U8]at this;simp only[U8,List.map_cons,V.frzs,V.frz,this]
def cnF(es:List V)(σ:Int×Int)(most:Int):Int×Int×Int:=
 if kw es σ 14=0 then(Yn es (qa es σ 14) [-1,W (most+1),1099511627776,-4611686018427387904],KH es (qa es σ 14) [-1,W (most+1),1099511627776,-4611686018427387904])
 else(kw es (qa es σ 14) (W (most+1)),qa es (qa es σ 14) (W (most+1)))
def zm7(es:List V)(a h m:Int):Int×Int×Int:=cnF es (a,h) m
def zxS(f:List V->Int->Int->Int->Int×Int×Int)(q:List V->Int->Int->Int->Prop):uk:=fun
 |[.box 101 (.agg [.slc false 5 (.int .u8 0) a0,.int .i64 a1,.int .u64 a2]),.int .i64 a3]=>some ([q a0 a1 a2 a3],.int .i64 (f a0 a1 a2 a3).1,.box 101 (.agg [.slc false 5 (.int .u8 0) a0,.int .i64 (f a0 a1 a2 a3).2.1,.int .u64 (f a0 a1 a2 a3).2.2]))
 |_=>none
theorem znZ:zgp Tryz.prog 110 1000 (zxS zm7 zfS):=by
 intro args ps r y h hp;unfold zxS at h;split at h
 ·rename_i a0 a1 a2 a3;cases h;have hq:yi a0 a1 a2:=(zm.1 hp).1;generalize yZ:jT=jS;generalize yY:ky=jR;generalize yX:kS=jQ;generalize jj:zfS=Zb;generalize jL:QE=ZF;generalize jK:Jk=ZE;generalize jJ:Jj=ZD;generalize kP:zfR=YK;refine zh2 (T:=tab) (B:=[]) (Bi:=[(41,0,false,zc0 jS jR jQ Zb),(42,0,false,zff ZF ZE ZD YK)]) 0 [2000002811,0,1,4] Tryz.func110 rfl rfl (by kernel_rfl) (ze rfl) mixed zP (by subst yZ yY yX jj jL jK jJ kP;exact zA) (by subst yZ yY yX jj jL jK jJ kP;exact(ja uJ (ja ZS zx))) (by kernel_rfl) rfl rfl zcJ rfl ?_;intro L lp rr yy hL hr hy hf hlp
  conv=>cbv
  subst yZ yY yX jj jL jK jJ kP;simp only[zo hL,sQ,true_and];have s1:yi a0 (ky a0 a1 a2 14) (kS a0 a1 a2 14):=uE hq
  have fin:∀(l A H:Int),cnF a0 (a1,a2) a3=(l,A,H)->V.int .i64 l=rr/\V.box 101 (V.agg [.slc false 5 (.int .u8 0) a0,.int .i64 A,.int .u64 H])=yy:=by
   intro l A H e;rw[hr,hy,zm7,e];exact⟨rfl,rfl⟩
  refine⟨hq,fun h=>⟨⟨s1,⟨[-1,W (a3+1),1099511627776,-4611686018427387904],rfl⟩,(by show(1:Nat)<=4;decide),(by show(4:Nat)<=2147483647;decide)⟩,?_⟩,fun h=>⟨s1,?_⟩⟩
  ·have e:cnF a0 (a1,a2) a3=(Yn a0 (qa a0 (a1,a2) 14) [-1,W (a3+1),1099511627776,-4611686018427387904],KH a0 (qa a0 (a1,a2) 14) [-1,W (a3+1),1099511627776,-4611686018427387904]):=if_pos h;exact fin _ _ _ e
  ·have e:cnF a0 (a1,a2) a3=(kw a0 (qa a0 (a1,a2) 14) (W (a3+1)),qa a0 (qa a0 (a1,a2) 14) (W (a3+1))):=if_neg h;exact fin _ _ _ e
 ·cases h
def zfJ(ms:List (List Int))(i k x:Int):List (List Int):=ms.set i.toNat ((ms.getD i.toNat []).set k.toNat x)
abbrev CvS:Type:=List (List Int)×List (List Int)×Int×Int
def spC(es:List V)(bs ms:List (List Int))(τ:Int×Int):CvS:=
 let r:Int:=bs.length
 let v:=kw es τ 30
 let τ1:=qa es τ 30
 let i:=kw es τ1 r
 let τ2:=qa es τ1 r
 let k:=kw es τ2 r
 let τ3:=qa es τ2 r
 if v=0 then(bs,zfJ ms i k (Yn es τ3 [0,1,2,201,-1]),KH es τ3 [0,1,2,201,-1])
 else if v=1 then(bs.set i.toNat (spF es τ2.1 τ2.2).1,ms,(spF es τ2.1 τ2.2).2)
 else if v=2 then(bs,ms.drop 1,τ1)
 else if v=3 then
  (if i=k then(bs,ms,qa es τ3 4)else(bs,zfJ (zfJ ms i k (1+kw es τ3 4)) k i (1+kw es τ3 4),qa es τ3 4))
 else(bs,ms,τ1)
structure CvD (es:List V) (z:CvS):Prop where
 n1:1<=z.1.length
 n6:z.1.length<=6
 row:∀x∈z.1,x.length<=3000
 m6:z.2.1.length<=6
 mrow:∀x∈z.2.1,x.length<=6
 src:yi es z.2.2.1 z.2.2.2
theorem zpb{ms:List (List Int)}{i k x:Int}(h6:ms.length<=6)(h:∀x∈ms,x.length<=6):(zfJ ms i k x).length<=6/\∀y∈zfJ ms i k x,y.length<=6:=by
 refine⟨by rw[zfJ,yG];exact h6,fun y hy=>?_⟩;rw[zfJ]at hy;rcases List.mem_or_eq_of_mem_set hy with hy|rfl
 ·exact h y hy
 ·rw[yG,zd];by_cases hi:i.toNat<ms.length
  ·rw[zg hi];exact h _ (yN hi)
  ·rw[List.getElem?_eq_none (by omega)];simp
theorem zCX{es:List V}{bs ms:List (List Int)}{τ:Int×Int}(hs:yi es τ.1 τ.2)(h1:1<=bs.length)(h6:bs.length<=6)(hr:∀x∈bs,x.length<=3000)(hm:ms.length<=6)(hmr:∀x∈ms,x.length<=6):CvD es (spC es bs ms τ):=by
 have s1:=kb (n:=30) hs;have s2:=kb (n:=bs.length) s1;have s3:=kb (n:=bs.length) s2;unfold spC;simp only;split
 ·obtain⟨a,b⟩:=zpb (i:=kw es (qa es τ 30) bs.length) (k:=kw es (qa es (qa es τ 30) bs.length) bs.length) (x:=Yn es (qa es (qa es (qa es τ 30) bs.length) bs.length) [0,1,2,201,-1]) hm hmr;exact⟨h1,h6,hr,a,b,zaZ s3⟩
 ·split
  ·obtain⟨a,b⟩:=zBM s2;refine⟨by simpa using h1,by simpa using h6,fun x hx=>?_,hm,hmr,a⟩;rcases List.mem_or_eq_of_mem_set hx with hx|rfl
   ·exact hr x hx
   ·exact Nat.le_trans b (by decide)
  ·split
   ·exact⟨h1,h6,hr,by simp only[List.length_drop];omega,fun x hx=>hmr x (List.mem_of_mem_drop hx),s1⟩
   ·split
    ·split
     ·exact⟨h1,h6,hr,hm,hmr,kb s3⟩
     ·obtain⟨a,b⟩:=zpb (i:=kw es (qa es τ 30) bs.length) (k:=kw es (qa es (qa es τ 30) bs.length) bs.length) (x:=1+kw es (qa es (qa es (qa es τ 30) bs.length) bs.length) 4) hm hmr;obtain⟨a,b⟩:=zpb (k:=kw es (qa es τ 30) bs.length) (i:=kw es (qa es (qa es τ 30) bs.length) bs.length) (x:=1+kw es (qa es (qa es (qa es τ 30) bs.length) bs.length) 4) a b;exact⟨h1,h6,hr,a,b,kb s3⟩
    ·exact⟨h1,h6,hr,hm,hmr,s1⟩
noncomputable def zhk(es:List V)(a h:Int):CvS:=spC es (kv (zc4 es a h).1) (uL (zc4 es a h).2.1) (zc4 es a h).2.2
theorem zBL{es:List V}{a h:Int}(hq:yi es a h):CvD es (zhk es a h):=by
 obtain⟨⟨bs,ms,e1,e2,h1,h6,hm,hb,hr⟩,hs⟩:=ztJ hq;rw[zhk,e1,e2,yo,yd];refine zCX hs h1 h6 (fun x hx=>?_) (by omega) (fun x hx=>?_)
 ·obtain⟨i,hi,rfl⟩:=yM.1 hx;have:=hb i hi
  rwa [zd,zg hi]at this
 ·obtain⟨i,hi,rfl⟩:=yM.1 hx;have:=hr i (by omega);rw[zd,zg hi]at this;simp only[Option.getD_some]at this;omega
noncomputable def zi8(es:List V)(a h:Int):List V×List V×Int×Int:=(BB false (zhk es a h).1,II false (zhk es a h).2.1,(zhk es a h).2.2)
def zot(f:List V->Int->Int->List V×List V×Int×Int)(q:List V->Int->Int->Prop):uk:=fun
 |[.box 101 (.agg [.slc false 5 (.int .u8 0) a0,.int .i64 a1,.int .u64 a2])]=>some ([q a0 a1 a2],.agg [.slc false 57 (.agg [.slc false 2 (.int .i64 0) []]) (f a0 a1 a2).1,.slc false 29 (.slc false 2 (.int .i64 0) []) (f a0 a1 a2).2.1],.box 101 (.agg [.slc false 5 (.int .u8 0) a0,.int .i64 (f a0 a1 a2).2.2.1,.int .u64 (f a0 a1 a2).2.2.2]))
 |_=>none
theorem zgM:zgp Tryz.prog 40 1000 (zot zi8 yi):=by
 intro args ps r y h hp;unfold zot at h;split at h
 ·rename_i a0 a1 a2;cases h;have hq:yi a0 a1 a2:=(zm.1 hp).1;obtain⟨⟨bs,ms,hb,hm,h1,h6,hml,hbl,hrl⟩,hs⟩:=ztJ hq;obtain⟨⟨vb,vm,A,H⟩,hd⟩:∃d,d=zc4 a0 a1 a2:=⟨_,rfl⟩;rw[<-hd]at hb hm hs;simp only at hb hm hs;have hS:zhk a0 a1 a2=spC a0 bs ms (A,H):=by rw[zhk,<-hd];simp only[hb,hm,yo,yd]
  obtain⟨r,hr0⟩:∃r:Int,r=bs.length:=⟨_,rfl⟩;have hvb:vb.length=bs.length:=by rw[hb,yz]
  have hvm:vm.length=ms.length:=by rw[hm,ye]
  have gm:∀k,vm.getD k (.slc true 2 (.int .i64 0) [])=.slc true 2 (.int .i64 0) (I (ms.getD k [])):=fun k=>by rw[hm,qo]
  generalize yZ:jT=jS;generalize yY:ky=jR;generalize yX:kS=jQ;generalize jj:zfS=Zb;generalize jL:QE=ZF;generalize jK:Jk=ZE;generalize jJ:Jj=ZD;generalize kP:zfR=YK;generalize zqq:zc4=zCK;generalize ZV:yi=zcz;generalize zuB:ztG=zDJ;refine zCe (T:=tab) (B:=[]) (Bi:=[(41,0,false,zc0 jS jR jQ Zb),(42,0,false,zff ZF ZE ZD YK),(78,1000,false,ztt zCK zcz),(79,1000,false,zxQ zDJ zcz)]) 0 [1000010003,2000005800,2000005820,2000005821,2000005824,2000005995,2000006832,2000008800,2000008837,2000008838,2000008841,2000008843,2000008995,2000015069,2000015074,3000008005,3000015007,0,2,3,4,5,6,7,8,9,10,17] Tryz.func40 rfl rfl (by kernel_rfl) (ze rfl) mixed zP (by subst yZ yY yX jj jL jK jJ kP zqq ZV zuB;exact zA) (by subst yZ yY yX jj jL jK jJ kP zqq ZV zuB;exact(ja uJ (ja ZS (ja zpf (ja znV zx))))) (by kernel_rfl) rfl rfl zcJ rfl ?_;intro L lp rr yy hL hr hy hf hlp
  conv=>cbv
  subst yZ yY yX jj jL jK jJ kP zqq ZV zuB;obtain⟨v,hv⟩:∃v,v=jT a0 A H 30:=⟨_,rfl⟩;obtain⟨A1,hA1⟩:∃A1,A1=ky a0 A H 30:=⟨_,rfl⟩;obtain⟨H1,hH1⟩:∃H1,H1=kS a0 A H 30:=⟨_,rfl⟩;obtain⟨i,hi⟩:∃i,i=jT a0 A1 H1 r:=⟨_,rfl⟩;obtain⟨A2,hA2⟩:∃A2,A2=ky a0 A1 H1 r:=⟨_,rfl⟩;obtain⟨H2,hH2⟩:∃H2,H2=kS a0 A1 H1 r:=⟨_,rfl⟩;obtain⟨k,hk⟩:∃k,k=jT a0 A2 H2 r:=⟨_,rfl⟩;obtain⟨A3,hA3⟩:∃A3,A3=ky a0 A2 H2 r:=⟨_,rfl⟩;obtain⟨H3,hH3⟩:∃H3,H3=kS a0 A2 H2 r:=⟨_,rfl⟩;have s1:yi a0 A1 H1:=by rw[hA1,hH1];exact uE hs
  have s2:yi a0 A2 H2:=by rw[hA2,hH2];exact uE s1
  have s3:yi a0 A3 H3:=by rw[hA3,hH3];exact uE s2
  have i1:=YZ (n:=r) s1 (by omega);have k1:=YZ (n:=r) s2 (by omega);rw[<-hi]at i1;rw[<-hk]at k1;obtain⟨x,hx⟩:∃x,x=QE a0 A3 H3 (I [0,1,2,201,-1]):=⟨_,rfl⟩;obtain⟨A4,hA4⟩:∃A4,A4=Jk a0 A3 H3 (I [0,1,2,201,-1]):=⟨_,rfl⟩;obtain⟨H4,hH4⟩:∃H4,H4=Jj a0 A3 H3 (I [0,1,2,201,-1]):=⟨_,rfl⟩;obtain⟨n,hn⟩:∃n,n=1+jT a0 A3 H3 4:=⟨_,rfl⟩;obtain⟨A5,hA5⟩:∃A5,A5=ky a0 A3 H3 4:=⟨_,rfl⟩;obtain⟨H5,hH5⟩:∃H5,H5=kS a0 A3 H3 4:=⟨_,rfl⟩;have n1:=YZ (n:=4) s3 (by omega);obtain⟨⟨sl,A6,H6⟩,hsp⟩:∃z,z=spF a0 A2 H2:=⟨_,rfl⟩
  have hS2:zhk a0 a1 a2=if v=0 then(bs,zfJ ms i k x,A4,H4)else if v=1 then(bs.set i.toNat sl,ms,A6,H6)else if v=2 then(bs,ms.drop 1,A1,H1)
   else if v=3 then(if i=k then(bs,ms,A5,H5)else(bs,zfJ (zfJ ms i k n) k i n,A5,H5))else(bs,ms,A1,H1):=by
   have e1:sl=(spF a0 A2 H2).1:=(by rw[<-hsp]);have e2:(A6,H6)=(spF a0 A2 H2).2:=(by rw[<-hsp]);rw[hS,e1,e2,hn,hA5,hH5,hx,hA4,hH4,hk,hA3,hH3,hi,hA2,hH2,hv,hA1,hH1,hr0];rfl
  have fin:∀(xs ys:List (List Int)) (B G:Int),zhk a0 a1 a2=(xs,ys,B,G)->V.agg [V.slc false 57 (V.agg [V.slc false 2 (V.int IntKind.i64 0) []]) (BB false xs),V.slc false 29 (V.slc false 2 (V.int IntKind.i64 0) []) (II false ys)]=rr/\
   V.box 101 (V.agg [V.slc false 5 (V.int IntKind.u8 0) a0,V.int IntKind.i64 B,V.int IntKind.u64 G])=yy:=by
   intro xs ys B G e;rw[hr,hy,zi8,e];exact⟨rfl,rfl⟩
  have hset:∀(j:Nat) (l:List Int),vm.set j (.slc true 2 (.int .i64 0) (I l))=II true (ms.set j l):=fun j l=>by rw[hm,II,II,Qk]
  have hbset:∀(j:Nat) (l:List Int),vb.set j (.agg [.slc false 2 (.int .i64 0) (I l)])=BB false (bs.set j l):=fun j l=>by rw[hb,BB,BB,Qk]
  have gb:∀j,vb.getD j (.agg [.slc false 2 (.int .i64 0) []])=.agg [.slc false 2 (.int .i64 0) (I (bs.getD j []))]:=fun j=>by rw[hb,ku]
  have gset:∀j l,(II true l).getD j (.slc true 2 (.int .i64 0) [])=.slc true 2 (.int .i64 0) (I (l.getD j [])):=fun j l=>qo true l j;have fvb:V.frzs vb=BB false bs:=by rw[hb,qH]
  have fvm:V.frzs vm=II false ms:=by rw[hm,qy]
  have fpk:∀l,l=I [0,1,2,201,-1]->QE a0 A3 H3 l=x/\Jk a0 A3 H3 l=A4/\Jj a0 A3 H3 l=H4:=fun l hl=>by rw[hl,hx,hA4,hH4];exact⟨rfl,rfl,rfl⟩
  obtain⟨p0,p1,p2⟩:=fpk (V.frzs (V.frzs [V.int IntKind.i64 0,V.int IntKind.i64 1,V.int IntKind.i64 2,V.int IntKind.i64 201,V.int IntKind.i64 (-1)])) rfl;have fsp:ztG a0 A2 H2=(I sl,A6,H6):=by rw[ztG,<-hsp]
  have hn2:jT a0 A3 H3 4=n-1:=by omega
  have wn:IntKind.wrap .i64 (1+(n-1))=n:=by rw[show 1+(n-1)=n by omega];exact zk (by omega) (by omega)
  simp only[zo hL,sQ,<-hd,hvb,<-hr0,hvm,gm,<-hv,<-hA1,<-hH1,<-hi,<-hA2,<-hH2,<-hk,<-hA3,<-hH3,hn2,<-hA5,<-hH5,p0,p1,p2,fsp,hset,hbset,gb,gset,zam,uy,fvb,fvm,qH,qy,wn,ye,yG];have hri:=hrl i.toNat (by omega);have hrk:=hrl k.toNat (by omega)
  have hgk:i≠k->∀l,(ms.set i.toNat l).getD k.toNat []=ms.getD k.toNat []:=fun hne l=>by
   rw[zd,List.getElem?_set_ne (by omega),<-zd]
  refine⟨hq,hs,fun h=>?_,fun h=>⟨fun h2=>?_,fun h2=>⟨fun h3=>?_,fun h3=>⟨fun h4=>⟨s1,s2,s3,fun h5=>?_,fun h5=>?_⟩,fun h4=>?_⟩⟩⟩⟩
  ·rw[if_pos h]at hS2;exact⟨s1,i1.1,by omega,by omega,s2,⟨s3,⟨[0,1,2,201,-1],rfl⟩,by decide,by decide⟩,by omega,k1.1,by omega,by omega,by omega,fin _ _ _ _ hS2⟩
  ·rw[if_neg h,if_pos h2]at hS2;exact⟨s1,s2,i1.1,i1.2,by omega,fin _ _ _ _ hS2⟩
  ·rw[if_neg h,if_neg h2,if_pos h3]at hS2;refine⟨by omega,by omega,qJ _,?_⟩
   have e:V.frzs (List.drop 1 (List.take ((ms.length:Int)).toNat (II false ms)))=II false (ms.drop 1):=by
    rw[zV,zy (by rw[ye];exact zt _),show List.drop 1 (II false ms)=II false (ms.drop 1) by rw[II,II,List.map_drop],qy]
   rw[e];exact fin _ _ _ _ hS2
  ·rw[if_neg h,if_neg h2,if_neg h3,if_pos h4,if_neg h5]at hS2;simp only[hgk h5]
   iterate 20 try refine⟨by omega,?_⟩
   have hset2:∀(X:List (List Int)) (j:Nat) (l:List Int),(II true X).set j (.slc true 2 (.int .i64 0) (I l))=II true (X.set j l):=fun X j l=>(by rw[II,II,Qk]);simp only[zfJ,hgk h5]at hS2;rw[hset2,qy];exact fin _ _ _ _ hS2
  ·rw[if_neg h,if_neg h2,if_neg h3,if_pos h4,if_pos h5]at hS2;exact fin _ _ _ _ hS2
  ·rw[if_neg h,if_neg h2,if_neg h3,if_neg h4]at hS2;exact fin _ _ _ _ hS2
 ·cases h
noncomputable def dsp(es:List V):CvS:=zhk es 0 (zbd es)
theorem zy8{es:List V}(hq:IsU es):CvD es (dsp es):=zBL ⟨hq,qJ _,uj _⟩
noncomputable def atF(es:List V):Int×Int:=
 let c:=dsp es
 let r:Int:=c.1.length
 let i:=(cnF es c.2.2 (r-1)).1
 let τ:=(cnF es c.2.2 (r-1)).2
 if 1<r/\0<=i/\i<r then
  if 0<kw es τ 6 then(i,(i+1+kw es (qa es τ 6) (r-1)).tmod r)else(i,(cnF es (qa es τ 6) (r-1)).1)
 else(i,(cnF es τ (r-1)).1)
def zfy(f:List V->List V×List V×Int×Int)(q:List V->Prop):zN:=fun
 |[.slc false 5 (.int .u8 0) a0]=>some ([q a0],.tup [.agg [.slc false 57 (.agg [.slc false 2 (.int .i64 0) []]) ((f a0).1),.slc false 29 (.slc false 2 (.int .i64 0) []) ((f a0).2.1)],.int .i64 ((f a0).2.2.1),.int .i64 ((f a0).2.2.2)])
 |_=>none
noncomputable def zks(a:List V):List V×List V×Int×Int:=(BB false (dsp a).1,II false (dsp a).2.1,(atF a).1,(atF a).2)
theorem zCw{es:List V}{σ:Int×Int}{m:Int}(hq:yi es σ.1 σ.2):yi es (cnF es σ m).2.1 (cnF es σ m).2.2:=by
 unfold cnF;split
 ·exact zaZ (kb hq)
 ·exact kb (kb hq)
theorem zsB:yI Tryz.prog 74 (zfy zks IsU):=by
 intro args ps r h hp;unfold zfy at h;split at h
 ·rename_i a0;cases h;have hq:IsU a0:=(zm.1 hp).1
  have hfr:V.frzs a0=a0:=by
   obtain⟨xs,hxs,_⟩:=hq;rw[hxs,zjk]
  have s0:yi a0 0 (zbd a0):=⟨hq,qJ _,uj _⟩;obtain⟨⟨bs,ms,A,H⟩,hd⟩:∃d,d=dsp a0:=⟨_,rfl⟩;have hok:=zy8 hq;rw[<-hd]at hok;have n1:=hok.n1;have n6:=hok.n6;have hs:=hok.src;simp only at n1 n6 hs;have Es:zi8 a0 0 (zbd a0)=(BB false bs,II false ms,A,H):=by rw[zi8,<-dsp,<-hd]
  obtain⟨r,hr0⟩:∃r:Int,r=bs.length:=⟨_,rfl⟩;obtain⟨vb,hvb⟩:∃vb,vb=BB false bs:=⟨_,rfl⟩;obtain⟨vm,hvm⟩:∃vm,vm=II false ms:=⟨_,rfl⟩;have hvl:vb.length=bs.length:=by rw[hvb,yz]
  have fvb:V.frzs vb=vb:=by rw[hvb,qH]
  have fvm:V.frzs vm=vm:=by rw[hvm,qy]
  rw[<-hvb,<-hvm]at Es;generalize zaR:zbd=zk1;generalize KE:IsU=zfn;generalize yZ:jT=jS;generalize yY:ky=jR;generalize yX:kS=jQ;generalize jj:zfS=Zb;generalize zd4:zi8=zqI;generalize ZV:yi=zcz;generalize zuH:zm7=zDN;refine zb7 (T:=tab) (B:=[(39,zoN zk1 zfn)]) (Bi:=[(41,0,false,zc0 jS jR jQ Zb),(40,1000,false,zot zqI zcz),(110,1000,false,zxS zDN Zb)]) [2000006802,2000006805,2000006836,2000006839,2000006843,2000006844,2000006846,2000006995,2000006998,2000007805,2000007847,2000007852,2000007995,3000006001,3000006002,3000006009,3000007001,0,2,3,4,5,6,7,8] Tryz.func74 rfl rfl (by kernel_rfl) (ze rfl) mixed zP (by subst zaR KE yZ yY yX jj zd4 ZV zuH;exact(zn zhR zA)) (by subst zaR KE yZ yY yX jj zd4 ZV zuH;exact(ja uJ (ja zgM (ja znZ zx)))) (by kernel_rfl) ?_;intro L lp rr hL hr hf hlp
  conv=>cbv
  subst zaR KE yZ yY yX jj zd4 ZV zuH;have wr:IntKind.wrap .i64 (r-1)=r-1:=zk (by omega) (by omega);obtain⟨⟨i,B,G⟩,hc⟩:∃z,z=cnF a0 (A,H) (r-1):=⟨_,rfl⟩;have Ec:zm7 a0 A H (r-1)=(i,B,G):=by rw[zm7,<-hc]
  have sB:yi a0 B G:=by have:=zCw (m:=r-1) (σ:=(A,H)) hs;rw[<-hc]at this;exact this
  obtain⟨v,hv⟩:∃v,v=jT a0 B G 6:=⟨_,rfl⟩;obtain⟨B1,hB1⟩:∃B1,B1=ky a0 B G 6:=⟨_,rfl⟩;obtain⟨G1,hG1⟩:∃G1,G1=kS a0 B G 6:=⟨_,rfl⟩;have sB1:yi a0 B1 G1:=by rw[hB1,hG1];exact uE sB
  obtain⟨u,hu⟩:∃u,u=jT a0 B1 G1 (r-1):=⟨_,rfl⟩
  have hat:atF a0=if 1<r/\0<=i/\i<r then(if 0<v then(i,(i+1+u).tmod r)else(i,(zm7 a0 B1 G1 (r-1)).1))else(i,(zm7 a0 B G (r-1)).1):=by
   subst hu hG1 hB1 hv hr0;rw[atF,<-hd];simp only[<-hc];rfl
  have fin:∀i k,atF a0=(i,k)->V.tup [V.agg [V.slc false 57 (V.agg [V.slc false 2 (V.int IntKind.i64 0) []]) vb,V.slc false 29 (V.slc false 2 (V.int IntKind.i64 0) []) vm],V.int .i64 i,V.int .i64 k]=rr:=by
   intro i k e;rw[hr,zks,<-hd,e,hvb,hvm]
  simp only[zo hL,sQ,hfr,Es,hvl,<-hr0,fvb,fvm,wr,Ec,<-hv,<-hB1,<-hG1,<-hu];refine⟨hq,s0,hs,fun h=>⟨h,sB,fun h2=>⟨sB1,by omega,?_⟩,fun h2=>⟨sB1,?_⟩⟩,fun h=>⟨fun h2=>absurd h2.1 (by omega),fun h2=>⟨sB,?_⟩⟩⟩
  ·have u1:=YZ (n:=r-1) sB1 (by omega);rw[<-hu]at u1
   rw[if_pos ⟨h.1.1,h.1.2,h.2⟩,if_pos h2.2]at hat
   rw[zk (n:=i+1) (by omega) (by omega),zk (n:=i+1+u) (by omega) (by omega)]
   exact fin _ _ hat
  ·rw[if_pos ⟨h.1.1,h.1.2,h.2⟩,if_neg (by omega)]at hat
   exact fin _ _ hat
  ·rw[if_neg (by omega)]at hat
   exact fin _ _ hat
 ·cases h
def zx2(f:List V->List V×List V)(q:List V->Prop):zN:=fun
 |[.slc false 5 (.int .u8 0) a0]=>some ([q a0],.agg [.slc false 57 (.agg [.slc false 2 (.int .i64 0) []]) ((f a0).1),.slc false 29 (.slc false 2 (.int .i64 0) []) ((f a0).2)])
 |_=>none
noncomputable def zr2(a:List V):List V×List V:=(BB false (dsp a).1,II false (dsp a).2.1)
def zub(f:List V->List V->Bool)(q:List V->List V->Prop):zN:=fun
 |[.slc false 57 (.agg [.slc false 2 (.int .i64 0) []]) a0,.slc false 57 (.agg [.slc false 2 (.int .i64 0) []]) a1]=>some ([q a0 a1],.bool (f a0 a1))
 |_=>none
def zfw(a b:List V):Bool:=decide (kv a=kv b)
def zlc(a b:List V):Prop:=(∃l,a=BB false l/\l.length<=2147483647/\∀r∈l,r.length<=2147483647)/\∃l,b=BB false l
theorem ziF:yI Tryz.prog 103 (zub zfw zlc):=by
 intro args ps r h hp;unfold zub at h;split at h
 ·rename_i a0 a1;cases h;obtain⟨⟨xs,hxs,hl,hrl⟩,⟨ys,hys⟩⟩:zlc a0 a1:=(zm.1 hp).1;obtain⟨n,hn⟩:∃n:Int,n=a0.length:=⟨_,rfl⟩;obtain⟨m,hm⟩:∃m:Int,m=a1.length:=⟨_,rfl⟩;have hxl:a0.length=xs.length:=by rw[hxs,yz]
  have hyl:a1.length=ys.length:=by rw[hys,yz]
  have gx:∀k,a0.getD k (.agg [.slc false 2 (.int .i64 0) []])=.agg [.slc false 2 (.int .i64 0) (I (xs.getD k []))]:=fun k=>by rw[hxs,ku]
  have gy:∀k,a1.getD k (.agg [.slc false 2 (.int .i64 0) []])=.agg [.slc false 2 (.int .i64 0) (I (ys.getD k []))]:=fun k=>by rw[hys,ku]
  have hf0:zfw a0 a1=decide (xs=ys):=by rw[zfw,hxs,hys,yo,yo]
  generalize Qu:zbC=zaU;generalize YG:zj4=KF;refine zC (T:=tab) (B:=[(14,YI zaU KF)]) (Bi:=[]) [0,1,4,5] Tryz.func103 rfl rfl (by kernel_rfl) (ze rfl) mixed zP (by subst Qu YG;exact(zn zcQ zA)) (by subst Qu YG;exact zx) (by kernel_rfl) ?_;intro L lp rr hL hr hf hlp
  conv=>cbv
  simp only[zo hL,sQ,<-hn,<-hm];refine⟨fun h=>?_,fun h=>?_⟩
  ·rw[hr,hf0,decide_eq_false (fun e=>h (by rw[hn,hm,hxl,hyl,e]))]
  have hlen:xs.length=ys.length:=by omega
  refine hlp (Int) _ _ _ [0,1,5] (fun x=>[(0,none,.val (.slc false 57 (.agg [.slc false 2 (.int .i64 0) []]) a0)),(1,none,.val (.slc false 57 (.agg [.slc false 2 (.int .i64 0) []]) a1)),(5,none,.val (.int .i64 x))])
   (fun x=>0<=x/\x<=n/\xs.take x.toNat=ys.take x.toNat) (fun x=>(n-x).toNat) (0) (by subst hL;rfl) ?_ ?_
  ·exact⟨by simp,by omega,rfl⟩
  rintro i ⟨i0,i1,hI⟩ hfx ag hag;have Ef:∀u v:List Int,zaU (I u) (I v)=decide (u=v):=fun u v=>by rw[<-Qu,zbC,zr,zr]
  conv=>cbv
  simp only[zo hL,sQ,<-hn,<-hm,gx,gy,uy,um,uq,Ef];refine⟨fun h2=>?_,fun h2=>?_⟩
  ·have h4:i.toNat<xs.length:=(by omega);have h5:i.toNat<ys.length:=by omega
   have Ql:KF (I (xs.getD i.toNat [])) (I (ys.getD i.toNat [])):=by
    rw[<-YG];refine⟨⟨_,rfl⟩,⟨_,rfl⟩,?_⟩;rw[zj,zd,zg h4];exact hrl _ (yN h4)
   refine⟨i0,h2,i0,by omega,Ql,fun h3=>?_,fun h3=>?_⟩
   ·rw[hr,hf0,decide_eq_false (fun e=>h3 (by rw[e]))]
   ·rw[zk (n:=i+1) (by omega) (by omega)];refine hag (i+1) ⟨by omega,by omega,?_⟩ (by omega);rw[zd,zg h4,zd,zg h5]at h3;rw[show(i+1).toNat=i.toNat+1 by omega,zJ h4,zJ h5,hI];exact congrArg (fun z=>List.take i.toNat ys++[z]) h3
  ·have h4:xs=ys:=(by rwa [zy (by omega),zy (by omega)]at hI);rw[hr,hf0,decide_eq_true h4]
 ·cases h
def zkA(f:List V->List V->List V->List V->Bool)(q:List V->List V->List V->List V->Prop):zN:=fun
 |[.agg [.slc false 57 (.agg [.slc false 2 (.int .i64 0) []]) a0,.slc false 29 (.slc false 2 (.int .i64 0) []) a1],.agg [.slc false 57 (.agg [.slc false 2 (.int .i64 0) []]) a2,.slc false 29 (.slc false 2 (.int .i64 0) []) a3]]=>some ([q a0 a1 a2 a3],.bool (f a0 a1 a2 a3))
 |_=>none
def zlq(a b c d:List V):Bool:=zfw a c&&Kf b d
def zpy(a b c d:List V):Prop:=zlc a c/\zdz b d
theorem zlR:yI Tryz.prog 70 (zkA zlq zpy):=by
 intro args ps r h hp;unfold zkA at h;split at h
 ·rename_i a0 a1 a2 a3;cases h;obtain⟨hq1,hq2⟩:zpy a0 a1 a2 a3:=(zm.1 hp).1;have g0:V.frzs a0=a0:=by obtain⟨l,h,_⟩:=hq1.1;rw[h,qH]
  have g1:V.frzs a1=a1:=by obtain⟨l,h,_⟩:=hq2.1;rw[h,qy]
  have g2:V.frzs a2=a2:=by obtain⟨l,h⟩:=hq1.2;rw[h,qH]
  have g3:V.frzs a3=a3:=by obtain⟨l,h⟩:=hq2.2;rw[h,qy]
  generalize zkV:zfw=zzA;generalize zkQ:zlc=zzw;generalize zaQ:Kf=zhi;generalize zaO:zdz=zkY;refine zC (T:=tab) (B:=[(103,zub zzA zzw),(104,zcw zhi zkY)]) (Bi:=[]) [0,1,2,3,4] Tryz.func70 rfl rfl (by kernel_rfl) (ze rfl) mixed zP (by subst zkV zkQ zaQ zaO;exact(zn ziF (zn zmI zA))) (by subst zkV zkQ zaQ zaO;exact zx) (by kernel_rfl) ?_;intro L lp rr hL hr hf hlp
  conv=>cbv
  subst zkV zkQ zaQ zaO;simp only[zo hL,sQ,g0,g1,g2,g3];refine⟨hq1,fun _=>hq2,?_⟩;rw[hr,zlq]
 ·cases h
def zj3(a b:List V):Prop:=∃l:List KN,a=CC false l/\b=CC false l/\l.length<=1000/\∀i,i<l.length->(l.getD i ([],[])).1.length<=1000/\(l.getD i ([],[])).2.length<=1000/\(∀r∈(l.getD i ([],[])).1,r.length<=1000000)/\∀r∈(l.getD i ([],[])).2,r.length<=1000000
theorem zjU:yI Tryz.prog 34 (zua zBe zj3):=by
 intro args ps r h hp;unfold zua at h;split at h
 ·rename_i a0 a1;cases h;obtain⟨l,h0,h1,hl9,hlr⟩:zj3 a0 a1:=(zm.1 hp).1;have hl0:a0.length=l.length:=by rw[h0,zaY]
  have hl1:a1.length=l.length:=by rw[h1,zaY]
  have ga:=fun i=>h0▸ziv false l i;have gb:=fun i=>h1▸ziv false l i;generalize zkU:zlq=zrA;generalize zkP:zpy=zry;refine zC (T:=tab) (B:=[(70,zkA zrA zry)]) (Bi:=[]) [0,1,4,5] Tryz.func34 rfl rfl (by kernel_rfl) (ze rfl) mixed zP (by subst zkU zkP;exact(zn zlR zA)) (by subst zkU zkP;exact zx) (by kernel_rfl) ?_;intro L lp rr hL hr hf hlp;have Ee:∀b m,zrA (BB false b) (II false m) (BB false b) (II false m)=true:=fun b m=>by rw[<-zkU];simp[zlq,zfw,Kf]
  have Qe:∀i,i<l.length->zry (BB false (l.getD i ([],[])).1) (II false (l.getD i ([],[])).2) (BB false (l.getD i ([],[])).1) (II false (l.getD i ([],[])).2):=fun i hi=>by
   rw[<-zkP];obtain⟨x1,x2,x3,x4⟩:=hlr i hi;exact⟨⟨⟨_,rfl,by omega,fun r hr=>by have:=x3 r hr;omega⟩,⟨_,rfl⟩⟩,⟨_,rfl,by omega,fun r hr=>by have:=x4 r hr;omega⟩,⟨_,rfl⟩⟩
  conv=>cbv
  simp only[zo hL,sQ,hl0,hl1];refine⟨fun h=>absurd trivial h,fun _=>?_⟩
  refine hlp (Int) _ _ _ [0,1,5] (fun x=>[(0,none,.val (.slc false 27 (.agg [.slc false 57 (.agg [.slc false 2 (.int .i64 0) []]) [],.slc false 29 (.slc false 2 (.int .i64 0) []) []]) a0)),(1,none,.val (.slc false 27 (.agg [.slc false 57 (.agg [.slc false 2 (.int .i64 0) []]) [],.slc false 29 (.slc false 2 (.int .i64 0) []) []]) a1)),(5,none,.val (.int .i64 x))])
   (fun x=>0<=x/\x<=l.length) (fun x=>(l.length-x).toNat) (0) (by subst hL;rfl) ?_ ?_
  ·exact⟨by omega,by omega⟩
  rintro i ⟨i0,i1⟩ hfx ag hag
  conv=>cbv
  simp only[zo hL,sQ,hl0,hl1,ga,gb,zhX,zh4,zh3,qH,qy,Ee];refine⟨fun h2=>?_,fun h2=>?_⟩
  ·rw[zk (n:=i+1) (by omega) (by omega)];refine⟨i0,h2,i0,h2,Qe _ (by omega),fun h=>(by cases h),fun _=>hag (i+1) ⟨by omega,by omega⟩ (by omega)⟩
  ·rw[hr];rfl
 ·cases h
theorem zho:yI Tryz.prog 27 (zx2 zr2 IsU):=by
 intro args ps r h hp;unfold zx2 at h;split at h
 ·rename_i a0;cases h;have hq:IsU a0:=(zm.1 hp).1
  have hfr:V.frzs a0=a0:=by
   obtain⟨xs,hxs,_⟩:=hq;rw[hxs,zjk]
  have s0:yi a0 0 (zbd a0):=⟨hq,qJ _,uj _⟩;generalize zaR:zbd=zk1;generalize KE:IsU=zfn;generalize zd4:zi8=zqI;generalize ZV:yi=zcz;refine zb7 (T:=tab) (B:=[(39,zoN zk1 zfn)]) (Bi:=[(40,1000,false,zot zqI zcz)]) [0,2] Tryz.func27 rfl rfl (by kernel_rfl) (ze rfl) mixed zP (by subst zaR KE zd4 ZV;exact(zn zhR zA)) (by subst zaR KE zd4 ZV;exact(ja zgM zx)) (by kernel_rfl) ?_;intro L lp rr hL hr hf hlp
  conv=>cbv
  subst zaR KE zd4 ZV;have Es:zi8 a0 0 (zbd a0)=(BB false (dsp a0).1,II false (dsp a0).2.1,(dsp a0).2.2):=rfl;simp only[zo hL,sQ,hfr,Es,qH,qy];exact⟨hq,s0,hr.symm⟩
 ·cases h
theorem zhS:yI Tryz.prog 36 (zfy zks IsU):=by
 intro args ps r h hp;unfold zfy at h;split at h
 ·rename_i a0;cases h;have hq:IsU a0:=(zm.1 hp).1
  have hfr:V.frzs a0=a0:=by
   obtain⟨xs,hxs,_⟩:=hq;rw[hxs,zjk]
  generalize zgx:zks=zo4;generalize KE:IsU=zfn;refine zb7 (T:=tab) (B:=[(74,zfy zo4 zfn)]) (Bi:=[]) [0,2,3,4,5,6,7] Tryz.func36 rfl rfl (by kernel_rfl) (ze rfl) mixed zP (by subst zgx KE;exact(zn zsB zA)) (by subst zgx KE;exact zx) (by kernel_rfl) ?_;intro L lp rr hL hr hf hlp
  conv=>cbv
  subst zgx KE;have Es:zks a0=(BB false (dsp a0).1,II false (dsp a0).2.1,(atF a0).1,(atF a0).2):=rfl;simp only[zo hL,sQ,hfr,Es,qH,qy];exact⟨hq,hr.symm⟩
 ·cases h
theorem zwq{X Y:List Int}:∀n:Nat,n<=1000000->(∀i,i<n->1<=X.getD i 0/\X.getD i 0<=64/\1<=Y.getD i 0/\Y.getD i 0<=64)->(n:Int)<=zaB X Y n/\zaB X Y n<=4096*n
 |0,_,_=>by simp[zaB]
 |n+1,h,hX=>by
  obtain⟨k1,k2⟩:=zwq n (by omega) (fun i hi=>hX i (by omega));obtain⟨x1,x2,y1,y2⟩:=hX n (by omega);have p1:1*1<=X.getD n 0*Y.getD n 0:=qX x1 y1 (by omega) (by omega);have p2:X.getD n 0*Y.getD n 0<=64*64:=qX x2 y2 (by omega) (by omega);have w1:W (X.getD n 0*Y.getD n 0)=X.getD n 0*Y.getD n 0:=zk (by omega) (by omega);have w2:W (zaB X Y n+X.getD n 0*Y.getD n 0)=zaB X Y n+X.getD n 0*Y.getD n 0:=zk (by omega) (by omega);rw[zaB,w1,w2];omega
theorem zrh{xs:List Int}(h:Br xs){k i:Nat}(hi:i<k):1<=(jN xs k).getD i 0/\(jN xs k).getD i 0<=64:=by
 rw[zba,js _ _ _ _ hi];have h1:=Jd h i;have h2:=(uz h).1.pos i;omega
theorem zpH{xs ys:List Int}(h1:Br xs)(h2:Br ys){c:Nat}(hc:c<=1000000):(c:Int)<=zf3 xs ys c/\zf3 xs ys c<=4096*c:=
 zwq c hc fun i hi=>by
  have e1:=zrh h1 hi;have e2:=zrh h2 hi;exact⟨e1.1,e1.2,e2.1,e2.2⟩
def zik(f:Int->Int->Int×Int)(q:Int->Int->Prop):zN:=fun
 |[.int .i64 a0,.int .i64 a1]=>some ([q a0 a1],.agg [.int .i64 ((f a0 a1).1),.int .i64 ((f a0 a1).2)])
 |_=>none
def zbR(a b:Int):Int×Int:=(W (a.tdiv (qU a b)),W (b.tdiv (qU a b)))
def zpA(a b:Int):Prop:=0<a/\0<b
theorem zpp:yI Tryz.prog 75 (zik zbR zpA):=by
 intro args ps r h hp;unfold zik at h;split at h
 ·rename_i a0 a1;cases h;obtain⟨h1,h2⟩:zpA a0 a1:=(zm.1 hp).1;have hg:=(zlm h1 h2).1;generalize kQ:qU=Qx;generalize jp:zdg=ZB;refine zC (T:=tab) (B:=[(111,zaE Qx ZB)]) (Bi:=[]) [0,1,4,5] Tryz.func75 rfl rfl (by kernel_rfl) (ze rfl) mixed zP (by subst kQ jp;exact(zn zdy zA)) (by subst kQ jp;exact zx) (by kernel_rfl) ?_;intro L lp rr hL hr hf hlp
  conv=>cbv
  simp only[zo hL,sQ,];subst kQ jp;refine⟨fun h=>absurd h (by omega),fun _=>⟨trivial,by omega,by omega,?_⟩⟩;rw[hr];rfl
 ·cases h
theorem zpo:yI Tryz.prog 77 (zik zbR zpA):=by
 intro args ps r h hp;unfold zik at h;split at h
 ·rename_i a0 a1;cases h;obtain⟨h1,h2⟩:zpA a0 a1:=(zm.1 hp).1;have hg:=(zlm h1 h2).1;generalize kQ:qU=Qx;generalize jp:zdg=ZB;refine zC (T:=tab) (B:=[(112,zaE Qx ZB)]) (Bi:=[]) [0,1,4,5] Tryz.func77 rfl rfl (by kernel_rfl) (ze rfl) mixed zP (by subst kQ jp;exact(zn zbN zA)) (by subst kQ jp;exact zx) (by kernel_rfl) ?_;intro L lp rr hL hr hf hlp
  conv=>cbv
  simp only[zo hL,sQ,];subst kQ jp;refine⟨trivial,fun h=>absurd h (by omega),fun _=>⟨by omega,by omega,?_⟩⟩;rw[hr];rfl
 ·cases h
def zdR(f:List V->List V->Int->Int->Int×Int×Int)(q:List V->List V->Int->Int->Prop):zN:=fun
 |[.agg [.slc false 57 (.agg [.slc false 2 (.int .i64 0) []]) a0,.slc false 29 (.slc false 2 (.int .i64 0) []) a1],.int .i64 a2,.int .i64 a3]=>some ([q a0 a1 a2 a3],.tup [.agg [.int .i64 ((f a0 a1 a2 a3).1),.int .i64 ((f a0 a1 a2 a3).2.1)],.int .i64 ((f a0 a1 a2 a3).2.2)])
 |_=>none
noncomputable def zbb(a b:List V)(i k:Int):Int×Int×Int:=if(ZN a b i k).2=0 then((zbR (ZN a b i k).1 (((kv a).getD i.toNat []).getD 0 0*((kv a).getD k.toNat []).getD 0 0)).1,(zbR (ZN a b i k).1 (((kv a).getD i.toNat []).getD 0 0*((kv a).getD k.toNat []).getD 0 0)).2,0)else(0,0,(ZN a b i k).2)
theorem ztI{a b:List V}{i k:Int}(hq:Zs a b)(h:(ZN a b i k).2=0):zsP a b i k/\(ZN a b i k).1=KY a b i k:=by
 rw[ZN]at h ⊢
 cases h1:qu a b with
 |false=>simp[h1]at h
 |true=>
  rw[h1,cond_true]at h;rw[cond_true]
  cases h2:QL a.length i&&QL a.length k&& !(i==k)with
  |false=>simp[h2]at h
  |true=>
   simp only[Bool.and_eq_true,Bool.not_eq_true',beq_eq_false_iff_ne]at h2;have h3:=YC.1 h2.1.1;have h4:=YC.1 h2.1.2;exact⟨⟨JX hq h1,h3.1,h3.2,h4.1,h4.2,h2.2⟩,rfl⟩
theorem zlV:yI Tryz.prog 37 (zdR zbb ziK):=by
 intro args ps r h hp;unfold zdR at h;split at h
 ·rename_i a0 a1 a2 a3;cases h;have hq:Zs a0 a1:=(zm.1 hp).1;have g1:=Kd hq.1.isBB;have g2:=Kc hq.2.isII;obtain⟨v,cd,hvc⟩:∃v cd,(v,cd)=ZN a0 a1 a2 a3:=⟨_,_,rfl⟩;generalize KM:ZN=zdr;generalize Yy:ziK=Ko;generalize zd5:zbR=zqK;generalize zgu:zpA=zuR;refine zC (T:=tab) (B:=[(26,zb9 zdr Ko),(75,zik zqK zuR)]) (Bi:=[]) [0,1,2,3,6,7,8,9] Tryz.func37 rfl rfl (by kernel_rfl) (ze rfl) mixed zP (by subst KM Yy zd5 zgu;exact(zn zab (zn zpp zA))) (by subst KM Yy zd5 zgu;exact zx) (by kernel_rfl) ?_;intro L lp rr hL hr hf hlp
  conv=>cbv
  have E1:zdr a0 a1 a2 a3=(v,cd):=by rw[<-KM,hvc]
  simp only[zo hL,sQ,g1,g2,E1];subst Yy zd5 zgu;refine⟨hq,fun h=>?_,fun h=>?_⟩
  ·rw[hr,zbb,<-hvc,if_neg h]
  ·obtain⟨hm,hv⟩:=ztI hq (show(ZN a0 a1 a2 a3).2=0 by rw[<-hvc];exact h)
   have hd:zbb a0 a1 a2 a3=((zbR v (((kv a0).getD a2.toNat []).getD 0 0*((kv a0).getD a3.toNat []).getD 0 0)).1,(zbR v (((kv a0).getD a2.toNat []).getD 0 0*((kv a0).getD a3.toNat []).getD 0 0)).2,0):=by
    rw[zbb,<-hvc,if_pos h]
   rw[<-hvc]at hv;simp only at hv;have hp:qh [zsP a0 a1 a2 a3]:=zm.2 ⟨hm,fun q hq=>by cases hq⟩;clear g1 g2;obtain⟨⟨⟨⟨bs,hbs,hb1,hb2⟩,⟨ms,hms,hm1,hm2⟩⟩,hcv⟩,⟨x0,x1,x2,x3,x4⟩⟩:=(zm.1 hp).1;rw[hbs,hms,yo,yd]at hcv;have g1:V.frzs a0=a0:=(by rw[hbs,qH]);have g2:V.frzs a1=a1:=(by rw[hms,qy]);have hbl:a0.length=bs.length:=(by rw[hbs,yz]);have hml:a1.length=ms.length:=(by rw[hms,ye]);have gb:∀k,a0.getD k (.agg [.slc false 2 (.int .i64 0) []])=.agg [.slc false 2 (.int .i64 0) (I (bs.getD k []))]:=fun k=>(by rw[hbs,ku]);have gm:∀k,a1.getD k (.slc false 2 (.int .i64 0) [])=.slc false 2 (.int .i64 0) (I (ms.getD k [])):=fun k=>(by rw[hms,qo]);have hm0:∀x y:Nat,(ms.getD x []).getD y 0=mm ms x y:=fun _ _=>rfl;obtain⟨n,hn⟩:∃n:Int,n=bs.length:=⟨_,rfl⟩;have n1:=hcv.n1;have n6:=hcv.n6;have hmn:ms.length=bs.length:=hcv.tab.len;have hbr:∀i,i<bs.length->Br (bs.getD i []):=fun i hi=>jz (hcv.br i hi);have rl:∀k,k<bs.length->(ms.getD k []).length=bs.length:=fun k hk=>(hcv.tab.row k hk).1;have mmr:∀i k,i<bs.length->k<bs.length->0<=mm ms i k/\mm ms i k<=200:=fun i k hi hk=>hcv.tab.range hi hk;have mmo:∀i k,i<bs.length->k<bs.length->i≠k->1<=mm ms i k/\mm ms i k<=200:=fun i k hi hk hne=>((hcv.tab.row i hi).2 k hk).2 hne;rw[hbl]at x1 x3;have b1:=hbr a2.toNat (by omega);have b2:=hbr a3.toNat (by omega);have hmo:=mmo a2.toNat a3.toNat (by omega) (by omega) (by omega);have hmi:=zpH b1 b2 (c:=(mm ms a2.toNat a3.toNat).toNat) (by omega);rw[KY,hbs,hms,yo,yd,qz]at hv;rw[<-hv]at hmi;rw[hbs,yo,<-hbs]at hd;have p1:=b1.low 0 b1.pos;have p2:=b1.first;have p3:=b2.low 0 b2.pos;have p4:=b2.first;have l1:=b1.pos;have l2:=b2.pos;obtain⟨u,hu⟩:∃u,u=(bs.getD a2.toNat []).getD 0 0:=⟨_,rfl⟩;obtain⟨w,hw⟩:∃w,w=(bs.getD a3.toNat []).getD 0 0:=⟨_,rfl⟩;rw[<-hu]at p1 p2;rw[<-hw]at p3 p4;rw[<-hu,<-hw]at hd;have q1:1*1<=u*w:=qX p1 p3 (by omega) (by omega);have q2:u*w<=64*64:=qX p2 p4 (by omega) (by omega);simp only[zo hL,sQ,hbl,gb,uy,um,uq,<-hu,<-hw];rw[zk (n:=u*w) (by omega) (by omega),hr,hd];refine⟨x0,by omega,by omega,by omega,x2,by omega,by omega,by omega,⟨by omega,by omega⟩,rfl⟩
 ·cases h
theorem zlQ:yI Tryz.prog 38 (zdR zbb ziK):=by
 intro args ps r h hp;unfold zdR at h;split at h
 ·rename_i a0 a1 a2 a3;cases h;have hq:Zs a0 a1:=(zm.1 hp).1;have g1:=Kd hq.1.isBB;have g2:=Kc hq.2.isII;obtain⟨v,cd,hvc⟩:∃v cd,(v,cd)=ZN a0 a1 a2 a3:=⟨_,_,rfl⟩;generalize KM:ZN=zdr;generalize Yy:ziK=Ko;generalize zd5:zbR=zqK;generalize zgu:zpA=zuR;refine zC (T:=tab) (B:=[(76,zb9 zdr Ko),(77,zik zqK zuR)]) (Bi:=[]) [0,1,2,3,6,7,8,9] Tryz.func38 rfl rfl (by kernel_rfl) (ze rfl) mixed zP (by subst KM Yy zd5 zgu;exact(zn ze8 (zn zpo zA))) (by subst KM Yy zd5 zgu;exact zx) (by kernel_rfl) ?_;intro L lp rr hL hr hf hlp
  conv=>cbv
  have E1:zdr a0 a1 a2 a3=(v,cd):=by rw[<-KM,hvc]
  simp only[zo hL,sQ,g1,g2,E1];subst Yy zd5 zgu;refine⟨hq,fun h=>?_,fun h=>?_⟩
  ·rw[hr,zbb,<-hvc,if_neg h]
  ·obtain⟨hm,hv⟩:=ztI hq (show(ZN a0 a1 a2 a3).2=0 by rw[<-hvc];exact h)
   have hd:zbb a0 a1 a2 a3=((zbR v (((kv a0).getD a2.toNat []).getD 0 0*((kv a0).getD a3.toNat []).getD 0 0)).1,(zbR v (((kv a0).getD a2.toNat []).getD 0 0*((kv a0).getD a3.toNat []).getD 0 0)).2,0):=by
    rw[zbb,<-hvc,if_pos h]
   rw[<-hvc]at hv;simp only at hv;have hp:qh [zsP a0 a1 a2 a3]:=zm.2 ⟨hm,fun q hq=>by cases hq⟩;clear g1 g2;obtain⟨⟨⟨⟨bs,hbs,hb1,hb2⟩,⟨ms,hms,hm1,hm2⟩⟩,hcv⟩,⟨x0,x1,x2,x3,x4⟩⟩:=(zm.1 hp).1;rw[hbs,hms,yo,yd]at hcv;have g1:V.frzs a0=a0:=(by rw[hbs,qH]);have g2:V.frzs a1=a1:=(by rw[hms,qy]);have hbl:a0.length=bs.length:=(by rw[hbs,yz]);have hml:a1.length=ms.length:=(by rw[hms,ye]);have gb:∀k,a0.getD k (.agg [.slc false 2 (.int .i64 0) []])=.agg [.slc false 2 (.int .i64 0) (I (bs.getD k []))]:=fun k=>(by rw[hbs,ku]);have gm:∀k,a1.getD k (.slc false 2 (.int .i64 0) [])=.slc false 2 (.int .i64 0) (I (ms.getD k [])):=fun k=>(by rw[hms,qo]);have hm0:∀x y:Nat,(ms.getD x []).getD y 0=mm ms x y:=fun _ _=>rfl;obtain⟨n,hn⟩:∃n:Int,n=bs.length:=⟨_,rfl⟩;have n1:=hcv.n1;have n6:=hcv.n6;have hmn:ms.length=bs.length:=hcv.tab.len;have hbr:∀i,i<bs.length->Br (bs.getD i []):=fun i hi=>jz (hcv.br i hi);have rl:∀k,k<bs.length->(ms.getD k []).length=bs.length:=fun k hk=>(hcv.tab.row k hk).1;have mmr:∀i k,i<bs.length->k<bs.length->0<=mm ms i k/\mm ms i k<=200:=fun i k hi hk=>hcv.tab.range hi hk;have mmo:∀i k,i<bs.length->k<bs.length->i≠k->1<=mm ms i k/\mm ms i k<=200:=fun i k hi hk hne=>((hcv.tab.row i hi).2 k hk).2 hne;rw[hbl]at x1 x3;have b1:=hbr a2.toNat (by omega);have b2:=hbr a3.toNat (by omega);have hmo:=mmo a2.toNat a3.toNat (by omega) (by omega) (by omega);have hmi:=zpH b1 b2 (c:=(mm ms a2.toNat a3.toNat).toNat) (by omega);rw[KY,hbs,hms,yo,yd,qz]at hv;rw[<-hv]at hmi;rw[hbs,yo,<-hbs]at hd;have p1:=b1.low 0 b1.pos;have p2:=b1.first;have p3:=b2.low 0 b2.pos;have p4:=b2.first;have l1:=b1.pos;have l2:=b2.pos;obtain⟨u,hu⟩:∃u,u=(bs.getD a2.toNat []).getD 0 0:=⟨_,rfl⟩;obtain⟨w,hw⟩:∃w,w=(bs.getD a3.toNat []).getD 0 0:=⟨_,rfl⟩;rw[<-hu]at p1 p2;rw[<-hw]at p3 p4;rw[<-hu,<-hw]at hd;have q1:1*1<=u*w:=qX p1 p3 (by omega) (by omega);have q2:u*w<=64*64:=qX p2 p4 (by omega) (by omega);simp only[zo hL,sQ,hbl,gb,uy,um,uq,<-hu,<-hw];rw[zk (n:=u*w) (by omega) (by omega),hr,hd];refine⟨x0,by omega,by omega,by omega,x2,by omega,by omega,by omega,⟨by omega,by omega⟩,rfl⟩
 ·cases h
theorem zvY(L:List Int)(x:Int)(m:Nat):∀d,∃r,qm L x (m+d)=qm L x m++r
 |0=>⟨[],by simp⟩
 |d+1=>by
  obtain⟨r,hr⟩:=zvY L x m d;rw[<-Nat.add_assoc,qm];split
  ·exact⟨r++[((m+d:Nat):Int)],by rw[hr,zU]⟩
  ·exact⟨r,hr⟩
theorem zpB{L:List Int}{x:Int}{m n:Nat}(hm:m<n)(h:L.getD m 0=x):(qm L x m).length<(qm L x n).length/\(qm L x n).getD (qm L x m).length 0=m/\(qm L x (m+1)).length=(qm L x m).length+1:=by
 obtain⟨r,hr⟩:=zvY L x (m+1) (n-(m+1));rw[show m+1+(n-(m+1))=n by omega]at hr;have e:qm L x (m+1)=qm L x m++[(m:Int)]:=by rw[qm,if_pos h]
 rw[e]at hr;refine⟨by rw[hr];simp only[List.length_append,zi,zq];omega,?_,by rw[e];simp⟩;rw[hr,zd,zU,List.getElem?_append_right (zt _),Nat.sub_self];rfl
theorem zsU{L:List Int}{x:Int}{m:Nat}(h:L.getD m 0≠x):qm L x (m+1)=qm L x m:=by rw[qm,if_neg h]
theorem zvK{bs:List (List Int)}{ls:List Int}(hb:∀i,i<bs.length->Br (bs.getD i []))(hl:InL bs.length ls):∀r∈QZ bs ls ls.length,r.length<=64:=by
 intro r hr;obtain⟨i,hi,rfl⟩:=yM.1 hr;rw[zxT hi];rw[kV]at hi;rw[zeu hi];have:=hl i hi;exact(JV (hb _ (by omega))).1.len
theorem zvE{ms:List (List Int)}{ls:List Int}:∀r∈Zj ms ls ls.length 0,r.length=ls.length:=by
 intro r hr;obtain⟨i,hi,rfl⟩:=yM.1 hr;rw[zxT hi];rw[zcj]at hi;rw[Zj,js _ _ _ _ hi,zie]
theorem zBc(bs ms:List (List Int)):∃(o:List KN) (code:Int),zhA (BB false bs) (II false ms)=(CC true o,code)/\zj3 (CC false o) (CC false o)/\(code=0->CvP bs ms/\bl bs ms bs.length=some o):=by
 have nil:zj3 (CC false []) (CC false []):=⟨[],rfl,rfl,by simp,fun i hi=>by simp at hi⟩;by_cases hc:CvP bs ms
 ·have hi:qu (BB false bs) (II false ms)=true:=by rw[qu,yo,yd];exact zax.2 hc
  have hbu:zhA (BB false bs) (II false ms)=znc (bl bs ms bs.length):=by rw[zhA,hi,zfi,yo,yd,yz];rfl
  cases hb:bl bs ms bs.length with
  |none=>exact⟨[],3,by rw[hbu,hb];rfl,nil,fun h=>by omega⟩
  |some o=>
   refine⟨o,0,by rw[hbu,hb];rfl,⟨o,rfl,rfl,?_⟩,fun _=>⟨hc,rfl⟩⟩;obtain⟨t1,t2,t3,t4⟩:=ul ms bs.length;rw[bl]at hb;obtain⟨o1,o2⟩:=zgn _ hb;rw[t1]at o2;have h6:=hc.n6;refine⟨by omega,fun t ht=>?_⟩;obtain⟨hl,h2⟩:=zgJ hc (t:=t) (by omega);have hlen:=hl.len;rw[(o2 t (by omega)).1];simp only;refine⟨by rw[kV];omega,by rw[zcj];omega,fun r hr=>?_,fun r hr=>?_⟩
   ·have:=zvK (fun i hi=>jz (hc.br i hi)) hl.inn r hr;omega
   ·rw[zvE r hr];omega
 ·have hi:qu (BB false bs) (II false ms)=false:=by rw[qu,yo,yd];exact zeH hc
  exact⟨[],1,by rw[zhA,hi];rfl,nil,fun h=>by omega⟩
theorem zD1{bs ms:List (List Int)}(h:CvP bs ms){o:List KN}(ho:bl bs ms bs.length=some o):zhB (dOC bs ms bs.length) o o.length=QH (JK bs bs.length):=by
 have h6:=h.n6;obtain⟨d1,d2,d3⟩:=ztY h bs.length (zt _);have hd:=zCn h ho;obtain⟨t1,t2,t3,t4⟩:=ul ms bs.length;rw[bl]at ho;obtain⟨o1,o2⟩:=zgn _ ho;rw[t1]at o2
 have hcv:∀t,t<o.length->CvP (o.getD t ([],[])).1 (o.getD t ([],[])).2:=fun t ht=>by
  obtain⟨hl,h2⟩:=zgJ h (t:=t) (by omega);rw[(o2 t (by omega)).1];exact zvZ h hl h2
 have key:∀t,t<=o.length->zhB (dOC bs ms bs.length) o t=dlC bs ms bs.length-sg (fun t=>dlC (o.getD t ([],[])).1 (o.getD t ([],[])).2 (o.getD t ([],[])).1.length) t/\
  0<=sg (fun t=>dlC (o.getD t ([],[])).1 (o.getD t ([],[])).2 (o.getD t ([],[])).1.length) t/\sg (fun t=>dlC (o.getD t ([],[])).1 (o.getD t ([],[])).2 (o.getD t ([],[])).1.length) t<=6000000000*t:=by
  intro t
  induction t with
  |zero=>intro _;rw[zhB,d1];simp[sg]
  |succ t ih=>
   intro ht;obtain⟨i1,i2,i3⟩:=ih (by omega);have hp:=hcv t (by omega);obtain⟨p1,p2,p3⟩:=ztY hp _ (zt _);have hp6:=hp.n6;rw[zhB,i1,cdC,p1,sg,show W (dlC bs ms bs.length-sg (fun t=>dlC (o.getD t ([],[])).1 (o.getD t ([],[])).2 (o.getD t ([],[])).1.length) t-dlC (o.getD t ([],[])).1 (o.getD t ([],[])).2 (o.getD t ([],[])).1.length)=dlC bs ms bs.length-sg (fun t=>dlC (o.getD t ([],[])).1 (o.getD t ([],[])).2 (o.getD t ([],[])).1.length) t-dlC (o.getD t ([],[])).1 (o.getD t ([],[])).2 (o.getD t ([],[])).1.length from zk (by omega) (by omega)];omega
 have k:=(key o.length (zt _)).1;have ht:=zvx (JK bs bs.length);rw[k];omega
theorem zBG{m:Int}(h1: -100000<=m)(h2:m<=100000):0<=m*(m-1)/\m*(m-1)<=10000100000/\0<=QH m/\QH m<=5000050000:=by
 have e1:m*(m-1)=m*m-m:=by rw[Int.mul_sub,Int.mul_one]
 have h3:=qk (show 0<=100000+m by omega) (show 0<=100001-m by omega);rw[Int.mul_sub,Int.add_mul,Int.add_mul]at h3
 have h0:0<=m*(m-1):=by
  by_cases h:1<=m
  ·exact qk (by omega) (by omega)
  ·have:=qk (show 0<=-m by omega) (show 0<=-(m-1) by omega)
   rwa [Int.neg_mul_neg]at this
 have h4:m*(m-1)<=10000100000:=by omega
 have e2:QH m=m*(m-1)/2:=by rw[QH,Int.tdiv_eq_ediv_of_nonneg h0]
 omega
theorem zC1{a b:Int}(ha:0<a)(hb:0<b)(ha2:a<=1000000000)(hb2:b<=1000000000):∃g t u:Int,0<g/\a=g*t/\b=g*u/\0<t/\0<u/\t<=a/\u<=b/\zbR a b=(t,u):=by
 have hg:=zm0 ha hb
 obtain⟨t,ht⟩:=Nat.gcd_dvd_left a.toNat b.toNat
 obtain⟨u,hu⟩:=Nat.gcd_dvd_right a.toNat b.toNat
 obtain⟨g,hgg⟩:∃g,g=Nat.gcd a.toNat b.toNat:=⟨_,rfl⟩;rw[<-hgg]at ht hu hg;have g0:0<g:=by rw[hgg];exact Nat.gcd_pos_of_pos_left _ (by omega)
 have t0:0<t:=by
  rcases Nat.eq_zero_or_pos t with e|e
  ·rw[e]at ht;omega
  ·exact e
 have u0:0<u:=by
  rcases Nat.eq_zero_or_pos u with e|e
  ·rw[e]at hu;omega
  ·exact e
 have e1:a=(g:Int)*t:=by rw[<-Int.natCast_mul,<-ht];omega
 have e2:b=(g:Int)*u:=by rw[<-Int.natCast_mul,<-hu];omega
 have l1:t<=g*t:=zbH t g0;have l2:u<=g*u:=zbH u g0;refine⟨g,t,u,by omega,e1,e2,by omega,by omega,by omega,by omega,?_⟩;have q1:a.tdiv (g:Int)=t:=by rw[e1];exact ZA _ (by omega)
 have q2:b.tdiv (g:Int)=u:=by rw[e2];exact ZA _ (by omega)
 rw[zbR,hg,q1,q2,show W (t:Int)=t from zk (by omega) (by omega),show W (u:Int)=u from zk (by omega) (by omega)]
theorem zyx{a b c d t u v w g h:Int}(hg:0<g)(hh:0<h)(e1:a=g*t)(e2:b=g*u)(e3:c=h*v)(e4:d=h*w)(hl:t*w<v*u):a*d<c*b:=by
 have h1:(g*h)*(t*w)<(g*h)*(v*u):=Int.mul_lt_mul_of_pos_left hl (Int.mul_pos hg hh);have j1:a*d=(g*h)*(t*w):=by rw[e1,e4];grind
 have j2:c*b=(g*h)*(v*u):=by rw[e2,e3];grind
 rw[j1,j2];exact h1
theorem zzd{bs ms:List (List Int)}(h:CvP bs ms){i j k:Nat}(hi:i<bs.length)(hj:j<bs.length)(hk:k<bs.length)(hij:i≠j)(hjk:j≠k)(hik:i≠k):
 ¬(qz bs ms i k*((bs.getD i []).getD 0 0*(bs.getD j []).getD 0 0)<qz bs ms i j*((bs.getD i []).getD 0 0*(bs.getD k []).getD 0 0)/\
  qz bs ms i k*((bs.getD j []).getD 0 0*(bs.getD k []).getD 0 0)<qz bs ms j k*((bs.getD i []).getD 0 0*(bs.getD k []).getD 0 0)):=by
 rintro⟨h1,h2⟩;have bi:=jz (h.br i hi);have bj:=jz (h.br j hj);have bk:=jz (h.br k hk);have ri:=h.tab.range hi hj;have rj:=h.tab.range hj hk;have rk:=h.tab.range hi hk;have eij:=((h.tab.row i hi).2 j hj).2 hij;have ejk:=((h.tab.row j hj).2 k hk).2 hjk;have eik:=((h.tab.row i hi).2 k hk).2 hik;have s12:=zrO (h.shr i j hi hj hij) (by omega) (by omega);have s23:=zrO (h.shr j k hj hk hjk) (by omega) (by omega);have s13:=zrO (h.shr i k hi hk hik) (by omega) (by omega);have u1:=h.ult i k j hi hk hj hik (fun e=>hij e.symm) hjk;have u2:=h.ult j k i hj hk hi hjk hij hik;have u3:=h.ult i j k hi hj hk hij (fun e=>hik e.symm) (fun e=>hjk e.symm);have y1:=h.tab.sym j hj i hi;have y2:=h.tab.sym k hk j hj;have key:=zzI (uz bi).1 (uz bj).1 (uz bk).1 s12 s23 s13 (by omega) (by omega) (by omega);rw[qz,qz,zcm bi bk (by omega),zcm bi bj (by omega),<-Kw bi,<-Kw bj,<-Kw bk]at h1;rw[qz,qz,zcm bi bk (by omega),zcm bj bk (by omega),<-Kw bi,<-Kw bj,<-Kw bk]at h2;have p1:=(uz bi).1.pos 0;have p3:=(uz bk).1.pos 0;generalize dS (mul (bs.getD i [])) (mul (bs.getD k [])) (mm ms i k).toNat=D13 at h1 h2 key;generalize dS (mul (bs.getD i [])) (mul (bs.getD j [])) (mm ms i j).toNat=D12 at h1 h2 key;generalize dS (mul (bs.getD j [])) (mul (bs.getD k [])) (mm ms j k).toNat=D23 at h1 h2 key;obtain⟨m1,hm1⟩:∃z:Int,z=mul (bs.getD i []) 0:=⟨_,rfl⟩;obtain⟨m2,hm2⟩:∃z:Int,z=mul (bs.getD j []) 0:=⟨_,rfl⟩;obtain⟨m3,hm3⟩:∃z:Int,z=mul (bs.getD k []) 0:=⟨_,rfl⟩;rw[<-hm1,<-hm2,<-hm3]at h1 h2 key;rcases key with hh|hh
 ·have:m1*(D12*m3)<=m1*(D13*m2):=yD hh (by omega);have j1:D13*(m1*m2)=m1*(D13*m2):=by grind
  have j2:D12*(m1*m3)=m1*(D12*m3):=by grind
  rw[j1,j2]at h1;exact absurd this (Int.not_le.2 h1)
 ·have:m3*(D23*m1)<=m3*(D13*m2):=yD hh (by omega);have j1:D13*(m2*m3)=m3*(D13*m2):=by grind
  have j2:D23*(m1*m3)=m3*(D23*m1):=by grind
  rw[j1,j2]at h2;exact absurd this (Int.not_le.2 h2)
def zge:Nat->Code->Code×Code
 |0,c=>(.skip,c)
 |n+1,.seq a b=>(.seq a (zge n b).1,(zge n b).2)
 |_+1,c=>(.skip,c)
theorem zu5(f g:zY->Prop)(Q:Yf):zbL f (zbL g Q)=zbL f Q:=by
 funext e S
 cases e<;>rfl
theorem zvv(L:Alg)(T:kC)(lp:Jo)(B:kq)(Bi:qZ)(nt:Nat)(ks:List Nat)(Q:Yf):∀(n:Nat) (c:Code) (S:zY),Zq L T lp B Bi nt ks c Q S=Zq L T lp B Bi nt ks (zge n c).1 (zbL (Zq L T lp B Bi nt ks (zge n c).2 Q) Q) S
 |0,c,S=>rfl
 |n+1,c,S=>by
  cases c with
  |seq a b=>
   show Zq L T lp B Bi nt ks a (zbL (Zq L T lp B Bi nt ks b Q) Q) S=Zq L T lp B Bi nt ks a (zbL (Zq L T lp B Bi nt ks (zge n b).1 (zbL (Zq L T lp B Bi nt ks (zge n b).2 Q) Q)) (zbL (Zq L T lp B Bi nt ks (zge n b).2 Q) Q)) S;rw[zu5,show Zq L T lp B Bi nt ks b Q=Zq L T lp B Bi nt ks (zge n b).1 (zbL (Zq L T lp B Bi nt ks (zge n b).2 Q) Q)from funext fun S=>zvv L T lp B Bi nt ks Q n b S]
  |_=>rfl
theorem znF(L:Alg)(T:kC)(lp:Jo)(B:kq)(Bi:qZ)(nt:Nat)(ks:List Nat)(Q:Yf)(n:Nat)(c:Code)(S:zY)
 (h:∀K:zY->Prop,K=Zq L T lp B Bi nt ks (zge n c).2 Q->Zq L T lp B Bi nt ks (zge n c).1 (zbL K Q) S):Zq L T lp B Bi nt ks c Q S:=by
 rw[zvv L T lp B Bi nt ks Q n c S];exact h _ rfl
end Go.Ax
