import Derived.Test.YtdahdoichcnlgaaGreatB02p2
import Derived.Test.YtdahdoichcnlgaaGreatB03p2
import Derived.Test.YtdahdoichcnlgaaGreatB01p2
set_option linter.all false
set_option maxRecDepth 100000
set_option maxHeartbeats 1000000
open Bool renaming and_eq_false_iff->ud,and_false->ZY
open List renaming append_assoc->zU,cons_append->yb,find?_range_eq_some->jZ,getD_eq_getElem?_getD->zd,getElem?_append_right->zR,length_cons->zi,length_nil->zq,length_replicate->zE,length_take->zZ,map_append->uS,replicate_succ->yw,take_of_length_le->zy,take_succ_eq_append_getElem->zJ
open Nat renaming dvd_of_mod_eq_zero->JE,dvd_refl->Kg,gcd_dvd_left->jY,gcd_dvd_right->uO,gcd_eq_left->zdl,le_of_ble_eq_true->ze,sub_zero->kz
open Option.some renaming injEq->za
open Prod.mk renaming injEq->zb
/-
 What a curve is:the matrix of common points,IsCurve on both sides. No conditions but those of the contracts.
-/
namespace Go.Ax
open Go.Proofs
def mm(ms:List (List Int))(i k:Nat):Int:=(ms.getD i []).getD k 0
def zBa(i k:Nat)(c:Int):Prop:=(i=k->c=0)/\(i≠k->1<=c/\c<=200)
def zAY(ms:List (List Int))(n i:Nat):Prop:=(ms.getD i []).length=n/\∀k,k<n->zBa i k (mm ms i k)
def zDA(ms:List (List Int))(n i:Nat):Prop:=∀k,k<n->mm ms k i=mm ms i k
structure TabP (ms:List (List Int)) (n:Nat):Prop where
 len:ms.length=n
 row:∀i,i<n->zAY ms n i
 sym:∀i,i<n->zDA ms n i
noncomputable def zeE(es:List V)(n:Int):Bool:= @decide (TabP (uL es) n.toNat) (Classical.propDecidable _)
def zn4(es:List V)(n:Int):Prop:=zA0 false es/\0<=n/\n<=2147483647
theorem zAF{p:Prop}(h:p): @decide p (Classical.propDecidable _)=true:= @decide_eq_true p (Classical.propDecidable _) h
theorem zeH{p:Prop}(h:¬p): @decide p (Classical.propDecidable _)=false:= @decide_eq_false p (Classical.propDecidable _) h
def zt4(f:List V->Int->Bool)(q:List V->Int->Prop):zN:=fun
 |[.slc false 29 (.slc false 2 (.int .i64 0) []) a0,.int .i64 a1]=>some ([q a0 a1],.bool (f a0 a1))
 |_=>none
theorem zps:yI Tryz.prog 48 (zt4 zeE zn4):=by
 intro args ps r h hp;unfold zt4 at h;split at h
 ·rename_i a0 a1;cases h;obtain⟨⟨ms,hms⟩,n0,n1⟩:zn4 a0 a1:=(zm.1 hp).1;obtain⟨n,hn⟩:∃n:Nat,(n:Int)=a1:=⟨a1.toNat,by omega⟩;have hn':a1.toNat=n:=by omega
  have hml:a0.length=ms.length:=by rw[hms,ye]
  have gm:∀k,a0.getD k (.slc false 2 (.int .i64 0) [])=.slc false 2 (.int .i64 0) (I (ms.getD k [])):=fun k=>by rw[hms,qo]
  have hT:TabP ms n->zeE a0 a1=true:=fun h=>by rw[zeE,hms,yd,hn'];exact zAF h
  have hF:¬TabP ms n->zeE a0 a1=false:=fun h=>by rw[zeE,hms,yd,hn'];exact zeH h
  generalize yk:yu=qR;refine zC (T:=tab) (B:=[(88,qW qR)]) (Bi:=[]) [0,1,4,5,6,7,8,9,10,11,12,17,18,19,28,29,30,54,55,56,61,62,63] Tryz.func48 rfl rfl (by kernel_rfl) (ze rfl) mixed zP (by subst yk;exact(zn za1 zA)) (by subst yk;exact zx) (by kernel_rfl) ?_;intro L lp rr hL hr hf hlp;have hle:=hf.1.1
  conv=>cbv
  simp only[zo hL,sQ,hml];refine⟨fun h=>?_,fun h=>?_⟩
  ·rw[hr,hF];intro ht;have:=ht.len;omega
  have hmn:ms.length=n:=by omega
  refine hlp (Int) _ _ _ [0,1,17,18,19] (fun x=>[(0,none,.val (.slc false 29 (.slc false 2 (.int .i64 0) []) a0)),(1,none,.val (.int .i64 a1)),(17,none,.val (.slc false 29 (.slc false 2 (.int .i64 0) []) a0)),(18,none,.val (.int .i64 a1)),(19,none,.val (.int .i64 x))])
   (fun x=>0<=x/\x<=a1/\∀t:Nat,t<x.toNat->zAY ms n t) (fun x=>(a1-x).toNat) (0) (by subst hL;rw[h];rfl) ?_ ?_
  ·exact⟨by omega,by omega,fun t ht=>by simp at ht⟩
  rintro i ⟨i0,i1,hI⟩ hfx ag hag
  conv=>cbv
  simp only[zo hL,sQ,hml,gm];refine⟨fun h2=>?_,fun h2=>?_⟩
  ·obtain⟨r,hR⟩:∃r,r=ms.getD i.toNat []:=⟨_,rfl⟩;rw[<-hR];refine⟨i0,by omega,fun h3=>?_,fun h3=>?_⟩
   ·rw[hr,hF];intro ht;have:=(ht.row i.toNat (by omega)).1;rw[<-hR]at this;omega
   have hrl:r.length=n:=(by omega);obtain⟨vr,hvr⟩:∃vr,vr=I r:=⟨_,rfl⟩;have vrl:vr.length=n:=(by rw[hvr,zj,hrl]);have gr:∀t,vr.getD t (.int .i64 0)=.int .i64 (r.getD t 0):=fun t=>(by rw[hvr,zO]);rw[<-hvr]
   refine hlp (Int) _ _ _ [0,1,5,17,18,19,28,29,30] (fun x=>[(0,none,.val (.slc false 29 (.slc false 2 (.int .i64 0) []) a0)),(1,none,.val (.int .i64 a1)),(5,none,.val (.int .i64 i)),(17,none,.val (.slc false 29 (.slc false 2 (.int .i64 0) []) a0)),(18,none,.val (.int .i64 a1)),(19,none,.val (.int .i64 i)),(28,none,.val (.slc false 2 (.int .i64 0) vr)),(29,none,.val (.int .i64 a1)),(30,none,.val (.int .i64 x))])
    (fun x=>0<=x/\x<=a1/\∀t:Nat,t<x.toNat->zBa i.toNat t (r.getD t 0)) (fun x=>(a1-x).toNat) (0) (by subst hL;rw[hrl,hn];rfl) ?_ ?_
   ·exact⟨by omega,by omega,fun t ht=>by simp at ht⟩
   rintro k ⟨k0,k1,hK⟩ hfx2 ag2 hag2
   conv=>cbv
   subst yk;simp only[zo hL,sQ,vrl,gr];refine⟨fun h4=>⟨k0,by omega,fun h5 h6=>⟨h5,h6⟩,fun h5=>?_,fun h5=>?_⟩,fun h4=>?_⟩
   ·rw[hr,hF];intro ht;have hE:=(ht.row i.toNat (by omega)).2 k.toNat (by omega);rw[mm,<-hR]at hE;rcases h5 with⟨h5,h6⟩|⟨h5,h6⟩
    ·exact h6 (hE.1 (by omega))
    ·have:=hE.2 (by omega);simp only[yu,ud,decide_eq_false_iff_not]at h6;omega
   ·rw[zk (n:=k+1) (by omega) (by omega)];refine hag2 (k+1) ⟨by omega,by omega,fun t ht=>?_⟩ (by omega)
    by_cases htk:t=k.toNat
    ·rw[htk];refine⟨fun e=>h5.1.resolve_left (fun hne=>hne (by omega)),fun e=>?_⟩;have:=h5.2.resolve_left (fun h=>e (by omega));simpa [yu]using this
    ·exact hK t (by omega)
   ·rw[zk (n:=i+1) (by omega) (by omega)];refine hag (i+1) ⟨by omega,by omega,fun t ht=>?_⟩ (by omega)
    by_cases hti:t=i.toNat
    ·rw[hti];refine⟨by rw[<-hR];exact hrl,fun k' hk'=>?_⟩;rw[mm,<-hR];exact hK k' (by omega)
    ·exact hI t (by omega)
  ·have hrow:∀t,t<n->zAY ms n t:=fun t ht=>hI t (by omega)
   refine hlp (Int) _ _ _ [0,54,55,56] (fun x=>[(0,none,.val (.slc false 29 (.slc false 2 (.int .i64 0) []) a0)),(54,none,.val (.slc false 29 (.slc false 2 (.int .i64 0) []) a0)),(55,none,.val (.int .i64 a1)),(56,none,.val (.int .i64 x))])
    (fun x=>0<=x/\x<=a1/\∀t:Nat,t<x.toNat->zDA ms n t) (fun x=>(a1-x).toNat) (0) (by subst hL;rw[h];rfl) ?_ ?_
   ·exact⟨by omega,by omega,fun t ht=>by simp at ht⟩
   rintro i ⟨i0,i1,hI⟩ hfx ag hag
   conv=>cbv
   simp only[zo hL,sQ,hml,gm];refine⟨fun h2=>?_,fun h2=>?_⟩
   ·obtain⟨r,hR⟩:∃r,r=ms.getD i.toNat []:=⟨_,rfl⟩;have hrl:r.length=n:=(by rw[hR];exact(hrow i.toNat (by omega)).1);rw[<-hR];obtain⟨vr,hvr⟩:∃vr,vr=I r:=⟨_,rfl⟩;have vrl:vr.length=n:=(by rw[hvr,zj,hrl]);have gr:∀t,vr.getD t (.int .i64 0)=.int .i64 (r.getD t 0):=fun t=>(by rw[hvr,zO]);rw[<-hvr];refine⟨i0,by omega,?_⟩
    refine hlp (Int) _ _ _ [0,9,54,55,56,61,62,63] (fun x=>[(0,none,.val (.slc false 29 (.slc false 2 (.int .i64 0) []) a0)),(9,none,.val (.int .i64 i)),(54,none,.val (.slc false 29 (.slc false 2 (.int .i64 0) []) a0)),(55,none,.val (.int .i64 a1)),(56,none,.val (.int .i64 i)),(61,none,.val (.slc false 2 (.int .i64 0) vr)),(62,none,.val (.int .i64 a1)),(63,none,.val (.int .i64 x))])
     (fun x=>0<=x/\x<=a1/\∀t:Nat,t<x.toNat->mm ms t i.toNat=r.getD t 0) (fun x=>(a1-x).toNat) (0) (by subst hL;rw[hrl,hn];rfl) ?_ ?_
    ·exact⟨by omega,by omega,fun t ht=>by simp at ht⟩
    rintro k ⟨k0,k1,hK⟩ hfx2 ag2 hag2
    conv=>cbv
    simp only[zo hL,sQ,vrl,gr,hml,gm];refine⟨fun h4=>?_,fun h4=>?_⟩
    ·have hkl:(ms.getD k.toNat []).length=n:=(hrow k.toNat (by omega)).1;refine⟨k0,by omega,k0,by omega,i0,by omega,fun h5=>?_,fun h5=>?_⟩
     ·rw[hr,hF];intro ht;have:=ht.sym i.toNat (by omega) k.toNat (by omega);rw[mm,mm,<-hR]at this;exact h5 this
     ·rw[zk (n:=k+1) (by omega) (by omega)];refine hag2 (k+1) ⟨by omega,by omega,fun t ht=>?_⟩ (by omega)
      by_cases htk:t=k.toNat
      ·rw[htk];exact h5
      ·exact hK t (by omega)
    ·rw[zk (n:=i+1) (by omega) (by omega)];refine hag (i+1) ⟨by omega,by omega,fun t ht=>?_⟩ (by omega)
     by_cases hti:t=i.toNat
     ·rw[hti];intro k' hk';have:=hK k' (by omega);rw[this,hR];rfl
     ·exact hI t (by omega)
   ·rw[hr,hT];exact⟨hmn,hrow,fun t ht=>hI t (by omega)⟩
 ·cases h
structure CvP (bs ms:List (List Int)):Prop where
 n1:1<=bs.length
 n6:bs.length<=6
 tab:TabP ms bs.length
 br:∀i,i<bs.length->YW (bs.getD i [])=true
 shr:∀i k,i<bs.length->k<bs.length->i≠k->shr (bs.getD i []) (bs.getD k []) (mm ms i k).toNat=true
 ult:∀i k j,i<bs.length->k<bs.length->j<bs.length->i≠k->j≠i->j≠k->¬mm ms i k<min (mm ms i j) (mm ms j k)
noncomputable def zAq(bs ms:List (List Int)):Bool:= @decide (CvP bs ms) (Classical.propDecidable _)
theorem zax{bs ms:List (List Int)}:zAq bs ms=true↔CvP bs ms:=by
 rw[zAq];exact@decide_eq_true_iff _ (Classical.propDecidable _)
noncomputable def qu(a b:List V):Bool:=zAq (kv a) (uL b)
def Zs(a b:List V):Prop:=zyd a/\zyc b
def zDF(bs ms:List (List Int))(i k:Nat):Prop:=i≠k->shr (bs.getD i []) (bs.getD k []) (mm ms i k).toNat=true/\∀j,j<bs.length->j≠i->j≠k->¬mm ms i k<min (mm ms i j) (mm ms j k)
def zt1(bs:List (List Int))(n:Nat):List (List Int):=qD (fun i=>kI (bs.getD i []) 201) n
def zak(f:List V->List V->Bool)(q:List V->List V->Prop):zN:=fun
 |[.agg [.slc false 57 (.agg [.slc false 2 (.int .i64 0) []]) a0,.slc false 29 (.slc false 2 (.int .i64 0) []) a1]]=>some ([q a0 a1],.bool (f a0 a1))
 |_=>none
theorem YT:yI Tryz.prog 15 (zak qu Zs):=by
 intro args ps r h hp;unfold zak at h;split at h
 ·rename_i a0 a1;cases h;obtain⟨⟨bs,hbs,hb1,hb2⟩,⟨ms,hms,hm1,hm2⟩⟩:Zs a0 a1:=(zm.1 hp).1;have g1:V.frzs a0=a0:=by rw[hbs,qH]
  have g2:V.frzs a1=a1:=by rw[hms,qy]
  have hbl:a0.length=bs.length:=by rw[hbs,yz]
  have hml:a1.length=ms.length:=by rw[hms,ye]
  have gb:∀k,a0.getD k (.agg [.slc false 2 (.int .i64 0) []])=.agg [.slc false 2 (.int .i64 0) (I (bs.getD k []))]:=fun k=>by rw[hbs,ku]
  have gm:∀k,a1.getD k (.slc false 2 (.int .i64 0) [])=.slc false 2 (.int .i64 0) (I (ms.getD k [])):=fun k=>by rw[hms,qo]
  obtain⟨n,hn⟩:∃n:Int,n=bs.length:=⟨_,rfl⟩;have hT:CvP bs ms->qu a0 a1=true:=fun h=>by rw[qu,hbs,hms,yo,yd,zax];exact h
  have hF:¬CvP bs ms->qu a0 a1=false:=fun h=>by rw[qu,hbs,hms,yo,yd];exact zeH h
  have qt:zn4 a1 n:=⟨⟨ms,hms⟩,by omega,by omega⟩
  have et:zeE a1 n=true↔TabP ms bs.length:=by
   rw[zeE,hms,yd,show n.toNat=bs.length by omega];exact@decide_eq_true_iff _ (Classical.propDecidable _)
  generalize znt:zeE=zuV;generalize znl:zn4=zuM;generalize qn:kW=jF;generalize yA:uf=jq;generalize zqo:zr1=zwS;generalize qQ:ZT=uT;generalize znz:zkr=zu0;generalize znp:zn6=zuP;generalize zqv:zoD=zwW;generalize zqc:zxv=zwN;refine zC (T:=tab) (B:=[(48,zt4 zuV zuM),(49,YF jF jq),(51,zui zwS uT),(50,zx3 zu0 zuP),(52,zpW zwW zwN)]) (Bi:=[]) [0,1,2,3,4,6,7,8,9,28,29,30,44,45,48,49,73,74] Tryz.func15 rfl rfl (by kernel_rfl) (ze rfl) mixed zP (by subst znt znl qn yA zqo qQ znz znp zqv zqc;exact(zn zps (zn zcS (zn zjL (zn zrH (zn zn1 zA)))))) (by subst znt znl qn yA zqo qQ znz znp zqv zqc;exact zx) (by kernel_rfl) ?_;intro L lp rr hL hr hf hlp
  have hbI:∀i:Nat,i<bs.length->jq (I (bs.getD i [])):=fun i hi=>by
   rw[<-yA];exact⟨⟨_,rfl⟩,by rw[zj];exact hb2 _ (zau hi)⟩
  conv=>cbv
  have Q1:zuM a1 n:=by rw[<-znl];exact qt
  have E1:zuV a1 n=true↔TabP ms bs.length:=by rw[<-znt];exact et
  simp only[zo hL,sQ,g1,g2,hbl,<-hn];refine⟨fun _=>Q1,fun h=>?_,fun h=>?_⟩
  ·rw[hr,hF];intro hc;have h1:=hc.n1;have h6:=hc.n6;rcases h with(h|h)|h
   ·omega
   ·omega
   ·rw[E1.2 hc.tab]at h;cases h
  obtain⟨⟨n1,n6⟩,h3⟩:=h;have htab:=E1.1 h3;have hmn:=htab.len
  refine hlp (List V×Int) _ _ _ [1,3,4,28,29,30] (fun x=>[(1,none,.val (.box 27 (.agg [.slc false 57 (.agg [.slc false 2 (.int .i64 0) []]) a0,.slc false 29 (.slc false 2 (.int .i64 0) []) a1]))),(3,none,.val (.int .i64 n)),(4,none,.val (.slc true 29 (.slc true 2 (.int .i64 0) []) x.1)),(28,none,.val (.slc false 57 (.agg [.slc false 2 (.int .i64 0) []]) a0)),(29,none,.val (.int .i64 n)),(30,none,.val (.int .i64 x.2))])
   (fun x=>0<=x.2/\x.2<=n/\x.1=II true (zt1 bs x.2.toNat)/\∀t:Nat,t<x.2.toNat->YW (bs.getD t [])=true) (fun x=>(n-x.2).toNat) (([],0)) (by subst hL;rfl) ?_ ?_
  ·exact⟨by simp,by simp only;omega,rfl,fun t ht=>by simp at ht⟩
  rintro⟨es,i⟩ ⟨i0,i1,hI,hB⟩ hfx ag hag;simp only at i0 i1 hI hB
  conv=>cbv
  simp only[zo hL,sQ,hbl,gb,uy,um,uq];refine⟨fun h2=>?_,fun h2=>?_⟩
  ·have hil:i.toNat<bs.length:=(by omega);have eb:jF (I (bs.getD i.toNat []))=YW (bs.getD i.toNat []):=(by rw[<-qn,kW,zr]);rw[eb];refine⟨i0,by omega,hbI _ hil,fun h4=>?_,fun h4=>?_⟩
   ·rw[hr,hF];intro hc;rw[hc.br _ hil]at h4;cases h4
   ·have hbr:=jz h4;have qp:uT (I (bs.getD i.toNat [])) 201:=(by rw[<-qQ];exact⟨⟨_,rfl,hbr⟩,by omega,by omega⟩);have ep:V.frzs (zwS (I (bs.getD i.toNat [])) 201)=II false (zfa (jN (bs.getD i.toNat []) 201)):=(by rw[<-zqo,zr1,zr,qy];rfl);have qc:zuP (II false (zfa (jN (bs.getD i.toNat []) 201))):=(by rw[<-znp];exact zvf _ (by omega) (by omega));have ec:zu0 (II false (zfa (jN (bs.getD i.toNat []) 201)))=I (kI (bs.getD i.toNat []) 201):=(by rw[<-znz,zkr,yd,zx0 hbr]);simp only[ep,ec];have hes:es.length=i.toNat:=(by rw[hI,ye,zt1,yR]);rw[zk (n:=i+1) (by omega) (by omega)];refine⟨qp,qc,zdV _,by simp only[zi,zq];omega,je rfl,hag (_,i+1) ⟨by simp only;omega,by simp only;omega,?_,fun t ht=>?_⟩ (by simp only;omega)⟩
    ·simp only[zL i0];rw[zt1,zbY,ZK,hI];rfl
    ·simp only[zL i0]at ht
     by_cases hti:t=i.toNat
     ·rw[hti];exact h4
     ·exact hB t (by omega)
  ·have hbr:∀t,t<bs.length->YW (bs.getD t [])=true:=fun t ht=>hB t (by omega);have ht2:i.toNat=bs.length:=(by omega);rw[ht2]at hI;have hel:es.length=bs.length:=(by rw[hI,ye,zt1,yR]);have ge:∀k,k<bs.length->es.getD k (.slc true 2 (.int .i64 0) [])=.slc true 2 (.int .i64 0) (I (kI (bs.getD k []) 201)):=fun k hk=>(by rw[hI,qo,zt1,js _ _ _ _ hk]);have ecs:∀x y c,zwW (I (kI x 201)) (I (kI y 201)) c=shr x y c.toNat:=fun x y c=>(by rw[<-zqv,zoD,zr,zr,shr]);have qcs:∀x y c,1<=c->c<=200->zwN (I (kI x 201)) (I (kI y 201)) c:=fun x y c h1 h2=>(by rw[<-zqc];exact⟨⟨_,rfl⟩,⟨_,rfl⟩,h1,by rw[zj,zg4];omega,by rw[zj,zg4];omega⟩);have rl:∀k,k<bs.length->(ms.getD k []).length=bs.length:=fun k hk=>(htab.row k hk).1;have ent:∀i k,i<bs.length->k<bs.length->i≠k->1<=mm ms i k/\mm ms i k<=200:=fun i k hi hk hne=>((htab.row i hi).2 k hk).2 hne
   refine hlp (Int) _ _ _ [1,3,4,44,45] (fun x=>[(1,none,.val (.box 27 (.agg [.slc false 57 (.agg [.slc false 2 (.int .i64 0) []]) a0,.slc false 29 (.slc false 2 (.int .i64 0) []) a1]))),(3,none,.val (.int .i64 n)),(4,none,.val (.slc true 29 (.slc true 2 (.int .i64 0) []) es)),(44,none,.val (.int .i64 n)),(45,none,.val (.int .i64 x))])
    (fun x=>0<=x/\x<=n/\∀t:Nat,t<x.toNat->∀k,k<bs.length->zDF bs ms t k) (fun x=>(n-x).toNat) (0) (by subst hL;rfl) ?_ ?_
   ·exact⟨by omega,by omega,fun t ht=>by simp at ht⟩
   rintro i ⟨i0,i1,hP⟩ hfx ag hag
   conv=>cbv
   simp only[zo hL,sQ,];refine⟨fun h2=>?_,fun h2=>?_⟩
   ·refine hlp (Int) _ _ _ [1,3,4,7,44,45,48,49] (fun x=>[(1,none,.val (.box 27 (.agg [.slc false 57 (.agg [.slc false 2 (.int .i64 0) []]) a0,.slc false 29 (.slc false 2 (.int .i64 0) []) a1]))),(3,none,.val (.int .i64 n)),(4,none,.val (.slc true 29 (.slc true 2 (.int .i64 0) []) es)),(7,none,.val (.int .i64 i)),(44,none,.val (.int .i64 n)),(45,none,.val (.int .i64 i)),(48,none,.val (.int .i64 n)),(49,none,.val (.int .i64 x))])
     (fun x=>0<=x/\x<=n/\∀t:Nat,t<x.toNat->zDF bs ms i.toNat t) (fun x=>(n-x).toNat) (0) (by subst hL;rfl) ?_ ?_
    ·exact⟨by omega,by omega,fun t ht=>by simp at ht⟩
    rintro k ⟨k0,k1,hQ⟩ hfx2 ag2 hag2
    conv=>cbv
    simp only[zo hL,sQ,hml,hel,gm];refine⟨fun h3=>?_,fun h3=>?_⟩
    ·have hil:i.toNat<bs.length:=(by omega);have hkl:k.toNat<bs.length:=(by omega);have rli:=rl _ hil;have gei:=ge _ hil;have gek:=ge _ hkl;simp only[gei,gek,zo hL,sQ,ecs];have hmm:(ms.getD i.toNat []).getD k.toNat 0=mm ms i.toNat k.toNat:=rfl;refine⟨fun h4=>?_,fun h4=>?_⟩
     ·rw[zk (n:=k+1) (by omega) (by omega)];refine hag2 (k+1) ⟨by omega,by omega,fun t ht=>?_⟩ (by omega)
      by_cases htk:t=k.toNat
      ·intro hne;exact absurd (by omega) hne
      ·exact hQ t (by omega)
     have hne:i.toNat≠k.toNat:=(by omega);have hen:=ent _ _ hil hkl hne;obtain⟨c,hc⟩:∃c,c=mm ms i.toNat k.toNat:=⟨_,rfl⟩;rw[hmm,<-hc];rw[<-hc]at hen;have qi:=qcs (bs.getD i.toNat []) (bs.getD k.toNat []) c hen.1 hen.2;refine⟨i0,by omega,hil,k0,by omega,hkl,i0,by omega,k0,by omega,hil,hkl,qi,fun h5=>?_,fun h5=>?_⟩
     ·rw[hr,hF];intro hv;have:=hv.shr _ _ hil hkl hne;rw[<-hc,h5]at this;cases this
     refine hlp (Int) _ _ _ [1,3,4,7,8,44,45,48,49,73,74] (fun x=>[(1,none,.val (.box 27 (.agg [.slc false 57 (.agg [.slc false 2 (.int .i64 0) []]) a0,.slc false 29 (.slc false 2 (.int .i64 0) []) a1]))),(3,none,.val (.int .i64 n)),(4,none,.val (.slc true 29 (.slc true 2 (.int .i64 0) []) es)),(7,none,.val (.int .i64 i)),(8,none,.val (.int .i64 k)),(44,none,.val (.int .i64 n)),(45,none,.val (.int .i64 i)),(48,none,.val (.int .i64 n)),(49,none,.val (.int .i64 k)),(73,none,.val (.int .i64 n)),(74,none,.val (.int .i64 x))])
      (fun x=>0<=x/\x<=n/\∀j:Nat,j<x.toNat->j≠i.toNat->j≠k.toNat->¬mm ms i.toNat k.toNat<min (mm ms i.toNat j) (mm ms j k.toNat)) (fun x=>(n-x).toNat) (0) (by subst hL;rfl) ?_ ?_
     ·exact⟨by omega,by omega,fun t ht=>by simp at ht⟩
     rintro j ⟨j0,j1,hJ⟩ hfx3 ag3 hag3
     conv=>cbv
     simp only[zo hL,sQ,hml,gm];have hm1:∀x y:Nat,(ms.getD x []).getD y 0=mm ms x y:=fun _ _=>rfl;simp only[hm1];refine⟨fun h6=>?_,fun h6=>?_⟩
     ·have hjl:j.toNat<bs.length:=(by omega);have rlj:=rl _ hjl;simp only[rli,rlj];refine⟨fun _=>by first|trivial|omega,fun _=>by first|trivial|omega,fun _=>by first|trivial|omega,fun _=>by first|trivial|omega,fun _=>by first|trivial|omega,fun _=>by first|trivial|omega,fun _=>by first|trivial|omega,fun _=>by first|trivial|omega,fun _=>by first|trivial|omega,fun _=>by first|trivial|omega,fun _=>by first|trivial|omega,fun _=>by first|trivial|omega,fun _=>by first|trivial|omega,fun _=>by first|trivial|omega,fun _=>by first|trivial|omega,fun _=>by first|trivial|omega,fun _=>by first|trivial|omega,fun _=>by first|trivial|omega,fun h7=>?_,fun h7=>?_⟩
      ·rw[hr,hF];intro hv;exact hv.ult _ _ _ hil hkl hjl hne (by omega) (by omega) h7.2
      ·rw[zk (n:=j+1) (by omega) (by omega)];refine hag3 (j+1) ⟨by omega,by omega,fun t ht e1 e2=>?_⟩ (by omega)
       by_cases htj:t=j.toNat
       ·rw[htj];exact h7.resolve_left (by omega)
       ·exact hJ t (by omega) e1 e2
     ·rw[zk (n:=k+1) (by omega) (by omega)];refine hag2 (k+1) ⟨by omega,by omega,fun t ht=>?_⟩ (by omega)
      by_cases htk:t=k.toNat
      ·rw[htk];intro _;refine⟨by rw[<-hc];exact h5,fun j' hj' e1 e2=>hJ j' (by omega) e1 e2⟩
      ·exact hQ t (by omega)
    ·rw[zk (n:=i+1) (by omega) (by omega)];refine hag (i+1) ⟨by omega,by omega,fun t ht k' hk'=>?_⟩ (by omega)
     by_cases hti:t=i.toNat
     ·rw[hti];exact hQ k' (by omega)
     ·exact hP t (by omega) k' hk'
   ·rw[hr,hT];refine⟨by omega,by omega,htab,hbr,fun t k ht hk hne=>(hP t (by omega) k hk hne).1,fun t k j ht hk hj hne h1 h2=>(hP t (by omega) k hk hne).2 j hj h1 h2⟩
 ·cases h
def zqM(bs ms:List (List Int))(i k:Nat):Prop:=zBa i k (mm ms i k)/\(i≠k->mm ms i k=mm ms k i)/\(i<k->shr (bs.getD i []) (bs.getD k []) (mm ms i k).toNat=true)
def zAW(bs ms:List (List Int))(i k:Nat):Prop:=∀j,j<bs.length->i≠k->i≠j->j≠k->¬mm ms i k<min (mm ms i j) (mm ms j k)
theorem CvP.of{bs ms:List (List Int)}(h1:1<=bs.length)(h6:bs.length<=6)(hl:ms.length=bs.length)(hA:∀t,t<bs.length->YW (bs.getD t [])=true/\(ms.getD t []).length=bs.length)
 (hB:∀t,t<bs.length->∀k,k<bs.length->zqM bs ms t k) (hC:∀t,t<bs.length->∀k,k<bs.length->zAW bs ms t k):CvP bs ms:=by
 refine⟨h1,h6,⟨hl,fun i hi=>⟨(hA i hi).2,fun k hk=>(hB i hi k hk).1⟩,fun i hi k hk=>?_⟩,fun i hi=>(hA i hi).1,fun i k hi hk hne=>?_,fun i k j hi hk hj hne h1 h2=>hC i hi k hk j hj hne (Ne.symm h1) h2⟩
 ·by_cases h:i=k
  ·rw[h]
  ·exact((hB i hi k hk).2.1 h).symm
 ·by_cases h:i<k
  ·exact(hB i hi k hk).2.2 h
  ·have:=(hB k hk i hi).2.2 (by omega);rw[zzV,(hB i hi k hk).2.1 hne];exact this
theorem zcO:yI Tryz.prog 44 (zak qu Zs):=by
 intro args ps r h hp;unfold zak at h;split at h
 ·rename_i a0 a1;cases h;obtain⟨⟨bs,hbs,hb1,hb2⟩,⟨ms,hms,hm1,hm2⟩⟩:Zs a0 a1:=(zm.1 hp).1;have g1:V.frzs a0=a0:=by rw[hbs,qH]
  have g2:V.frzs a1=a1:=by rw[hms,qy]
  have hbl:a0.length=bs.length:=by rw[hbs,yz]
  have hml:a1.length=ms.length:=by rw[hms,ye]
  have gb:∀k,a0.getD k (.agg [.slc false 2 (.int .i64 0) []])=.agg [.slc false 2 (.int .i64 0) (I (bs.getD k []))]:=fun k=>by rw[hbs,ku]
  have gm:∀k,a1.getD k (.slc false 2 (.int .i64 0) [])=.slc false 2 (.int .i64 0) (I (ms.getD k [])):=fun k=>by rw[hms,qo]
  obtain⟨n,hn⟩:∃n:Int,n=bs.length:=⟨_,rfl⟩;have hT:CvP bs ms->qu a0 a1=true:=fun h=>by rw[qu,hbs,hms,yo,yd,zax];exact h
  have hF:¬CvP bs ms->qu a0 a1=false:=fun h=>by rw[qu,hbs,hms,yo,yd];exact zeH h
  have hm1:∀x y:Nat,(ms.getD x []).getD y 0=mm ms x y:=fun _ _=>rfl;generalize qn:kW=jF;generalize yA:uf=jq;generalize yk:yu=qR;generalize zqk:zoA=zwP;generalize zp7:zxp=zwI;refine zC (T:=tab) (B:=[(81,YF jF jq),(82,qW qR),(83,zp2 zwP zwI)]) (Bi:=[]) [0,1,2,3,4,5,6,7,8,9,10] Tryz.func44 rfl rfl (by kernel_rfl) (ze rfl) mixed zP (by subst qn yA yk zqk zp7;exact(zn zao (zn Ym (zn zpe zA)))) (by subst qn yA yk zqk zp7;exact zx) (by kernel_rfl) ?_;intro L lp rr hL hr hf hlp
  have hbI:∀i:Nat,i<bs.length->jq (I (bs.getD i [])):=fun i hi=>by
   rw[<-yA];exact⟨⟨_,rfl⟩,by rw[zj];exact hb2 _ (zau hi)⟩
  have eb:∀i:Nat,jF (I (bs.getD i []))=YW (bs.getD i []):=fun i=>by rw[<-qn,kW,zr]
  conv=>cbv
  simp only[zo hL,sQ,g1,g2,hbl,hml,<-hn];refine⟨fun h=>?_,fun h=>?_⟩
  ·rw[hr,hF];intro hc;have h1:=hc.n1;have h6:=hc.n6;have hl:=hc.tab.len;omega
  have hmn:ms.length=bs.length:=by omega
  refine hlp (Int) _ _ _ [1,3,4] (fun x=>[(1,none,.val (.box 27 (.agg [.slc false 57 (.agg [.slc false 2 (.int .i64 0) []]) a0,.slc false 29 (.slc false 2 (.int .i64 0) []) a1]))),(3,none,.val (.int .i64 n)),(4,none,.val (.int .i64 x))])
   (fun x=>0<=x/\x<=n/\∀t:Nat,t<x.toNat->YW (bs.getD t [])=true/\(ms.getD t []).length=bs.length) (fun x=>(n-x).toNat) (0) (by subst hL;rfl) ?_ ?_
  ·exact⟨by omega,by omega,fun t ht=>by simp at ht⟩
  rintro i ⟨i0,i1,hA⟩ hfx ag hag
  conv=>cbv
  simp only[zo hL,sQ,hbl,gb,uy,um,uq,eb,hml,gm];refine⟨fun h2=>?_,fun h2=>?_⟩
  ·have hil:i.toNat<bs.length:=(by omega);refine⟨i0,by omega,hbI _ hil,fun _=>i0,fun _=>by omega,fun _=>trivial,fun h3=>?_,fun h3=>?_⟩
   ·rw[hr,hF];intro hc;rcases h3 with h3|h3
    ·rw[hc.br _ hil]at h3;cases h3
    ·exact h3 (by rw[(hc.tab.row _ hil).1];omega)
   ·rw[zk (n:=i+1) (by omega) (by omega)];refine hag (i+1) ⟨by omega,by omega,fun t ht=>?_⟩ (by omega)
    by_cases hti:t=i.toNat
    ·rw[hti];exact⟨h3.1,by omega⟩
    ·exact hA t (by omega)
  have hA2:∀t,t<bs.length->YW (bs.getD t [])=true/\(ms.getD t []).length=bs.length:=fun t ht=>hA t (by omega);have rl:∀k,k<bs.length->(ms.getD k []).length=bs.length:=fun k hk=>(hA2 k hk).2
  have qsh:∀x y c,x<bs.length->y<bs.length->1<=c->c<=200->zwI (I (bs.getD x [])) (I (bs.getD y [])) c:=fun x y c hx hy h1 h2=>by
   rw[<-zp7];exact⟨⟨_,rfl,jz (hA2 x hx).1⟩,⟨_,rfl,jz (hA2 y hy).1⟩,h1,h2⟩
  have esh:∀x y c,zwP (I (bs.getD x [])) (I (bs.getD y [])) c=shr (bs.getD x []) (bs.getD y []) c.toNat:=fun x y c=>by rw[<-zqk,zoA,zr,zr]
  clear hA hag hfx ag
  refine hlp (Int) _ _ _ [1,3,5] (fun x=>[(1,none,.val (.box 27 (.agg [.slc false 57 (.agg [.slc false 2 (.int .i64 0) []]) a0,.slc false 29 (.slc false 2 (.int .i64 0) []) a1]))),(3,none,.val (.int .i64 n)),(5,none,.val (.int .i64 x))])
   (fun x=>0<=x/\x<=n/\∀t:Nat,t<x.toNat->∀k,k<bs.length->zqM bs ms t k) (fun x=>(n-x).toNat) (0) (by subst hL;rfl) ?_ ?_
  ·exact⟨by omega,by omega,fun t ht=>by simp at ht⟩
  rintro i ⟨i0,i1,hP⟩ hfx ag hag
  conv=>cbv
  simp only[zo hL,sQ,];refine⟨fun h2=>?_,fun h2=>?_⟩
  ·have hil:i.toNat<bs.length:=(by omega);have rli:=rl _ hil
   refine hlp (Int) _ _ _ [1,3,5,6] (fun x=>[(1,none,.val (.box 27 (.agg [.slc false 57 (.agg [.slc false 2 (.int .i64 0) []]) a0,.slc false 29 (.slc false 2 (.int .i64 0) []) a1]))),(3,none,.val (.int .i64 n)),(5,none,.val (.int .i64 i)),(6,none,.val (.int .i64 x))])
    (fun x=>0<=x/\x<=n/\∀t:Nat,t<x.toNat->zqM bs ms i.toNat t) (fun x=>(n-x).toNat) (0) (by subst hL;rfl) ?_ ?_
   ·exact⟨by omega,by omega,fun t ht=>by simp at ht⟩
   rintro k ⟨k0,k1,hQ⟩ hfx2 ag2 hag2
   conv=>cbv
   simp only[zo hL,sQ,hml,gm,hbl,gb,uy,um,uq,hm1,esh];refine⟨fun h3=>?_,fun h3=>?_⟩
   ·have hkl:k.toNat<bs.length:=(by omega);have rlk:=rl _ hkl
    have hgo:zqM bs ms i.toNat k.toNat->0<=k+1/\k+1<=n/\∀t:Nat,t<(k+1).toNat->zqM bs ms i.toNat t:=fun hb=>⟨by omega,by omega,fun t ht=>by
     by_cases htk:t=k.toNat
     ·rw[htk];exact hb
     ·exact hQ t (by omega)⟩
    obtain⟨c,hc⟩:∃c,c=mm ms i.toNat k.toNat:=⟨_,rfl⟩;simp only[rli,rlk,<-hc];subst yk;rw[zk (n:=k+1) (by omega) (by omega)];refine⟨i0,by omega,k0,by omega,fun h4=>⟨fun h5=>?_,fun h5=>?_⟩,fun h4=>⟨fun _=>by first|trivial|omega,fun _=>by first|trivial|omega,fun _=>by first|trivial|omega,fun _=>by first|trivial|omega,fun _=>by first|trivial|omega,fun _=>by first|trivial|omega,fun h5=>?_,fun h5=>⟨fun _=>by first|trivial|omega,fun _=>by first|trivial|omega,fun _=>by first|trivial|omega,fun _=>by first|trivial|omega,fun _=>by first|trivial|omega,fun _=>by first|trivial|omega,fun h6=>?_,fun h6=>?_,fun h6=>?_⟩⟩⟩
    ·rw[hr,hF];intro hv;exact h5 (by rw[hc];exact((hv.tab.row _ hil).2 _ hkl).1 (by omega))
    ·refine hag2 (k+1) (hgo ⟨⟨fun _=>by rw[<-hc];exact h5,fun hne=>absurd (by omega) hne⟩,fun hne=>absurd (by omega) hne,fun hlt=>absurd hlt (by omega)⟩) (by omega)
    ·rw[hr,hF];intro hv;have hE:=((hv.tab.row _ hil).2 _ hkl).2 (by omega);have hS:=hv.tab.sym _ hil _ hkl;rw[<-hc]at hE hS;rcases h5 with h5|h5
     ·simp only[yu,ud,decide_eq_false_iff_not]at h5;omega
     ·exact h5 hS.symm
    ·have hE:1<=c/\c<=200:=(by simpa [yu]using h5.1);exact qsh _ _ _ hil hkl hE.1 hE.2
    ·rw[hr,hF];intro hv;have:=hv.shr _ _ hil hkl (by omega);rw[<-hc,h6.2]at this;cases this
    ·have hE:1<=c/\c<=200:=(by simpa [yu]using h5.1);refine hag2 (k+1) (hgo ⟨⟨fun he=>absurd (by omega) h4,fun _=>by rw[<-hc];exact hE⟩,fun _=>by rw[<-hc];exact h5.2,fun hlt=>?_⟩) (by omega);rw[<-hc];exact h6.resolve_left (fun h=>h (by omega))
   ·rw[zk (n:=i+1) (by omega) (by omega)];refine hag (i+1) ⟨by omega,by omega,fun t ht k' hk'=>?_⟩ (by omega)
    by_cases hti:t=i.toNat
    ·rw[hti];exact hQ k' (by omega)
    ·exact hP t (by omega) k' hk'
  have hP2:∀t,t<bs.length->∀k,k<bs.length->zqM bs ms t k:=fun t ht=>hP t (by omega);clear hP hag hfx ag
  refine hlp (Int) _ _ _ [1,3,8] (fun x=>[(1,none,.val (.box 27 (.agg [.slc false 57 (.agg [.slc false 2 (.int .i64 0) []]) a0,.slc false 29 (.slc false 2 (.int .i64 0) []) a1]))),(3,none,.val (.int .i64 n)),(8,none,.val (.int .i64 x))])
   (fun x=>0<=x/\x<=n/\∀t:Nat,t<x.toNat->∀k,k<bs.length->zAW bs ms t k) (fun x=>(n-x).toNat) (0) (by subst hL;rfl) ?_ ?_
  ·exact⟨by omega,by omega,fun t ht=>by simp at ht⟩
  rintro i ⟨i0,i1,hP⟩ hfx ag hag
  conv=>cbv
  simp only[zo hL,sQ,];refine⟨fun h2=>?_,fun h2=>?_⟩
  ·have hil:i.toNat<bs.length:=(by omega);have rli:=rl _ hil
   refine hlp (Int) _ _ _ [1,3,8,9] (fun x=>[(1,none,.val (.box 27 (.agg [.slc false 57 (.agg [.slc false 2 (.int .i64 0) []]) a0,.slc false 29 (.slc false 2 (.int .i64 0) []) a1]))),(3,none,.val (.int .i64 n)),(8,none,.val (.int .i64 i)),(9,none,.val (.int .i64 x))])
    (fun x=>0<=x/\x<=n/\∀t:Nat,t<x.toNat->zAW bs ms i.toNat t) (fun x=>(n-x).toNat) (0) (by subst hL;rfl) ?_ ?_
   ·exact⟨by omega,by omega,fun t ht=>by simp at ht⟩
   rintro k ⟨k0,k1,hQ⟩ hfx2 ag2 hag2
   conv=>cbv
   simp only[zo hL,sQ,];refine⟨fun h3=>?_,fun h3=>?_⟩
   ·have hkl:k.toNat<bs.length:=by omega
    refine hlp (Int) _ _ _ [1,3,8,9,10] (fun x=>[(1,none,.val (.box 27 (.agg [.slc false 57 (.agg [.slc false 2 (.int .i64 0) []]) a0,.slc false 29 (.slc false 2 (.int .i64 0) []) a1]))),(3,none,.val (.int .i64 n)),(8,none,.val (.int .i64 i)),(9,none,.val (.int .i64 k)),(10,none,.val (.int .i64 x))])
     (fun x=>0<=x/\x<=n/\∀j:Nat,j<x.toNat->i.toNat≠k.toNat->i.toNat≠j->j≠k.toNat->¬mm ms i.toNat k.toNat<min (mm ms i.toNat j) (mm ms j k.toNat)) (fun x=>(n-x).toNat) (0) (by subst hL;rfl) ?_ ?_
    ·exact⟨by omega,by omega,fun t ht=>by simp at ht⟩
    rintro j ⟨j0,j1,hJ⟩ hfx3 ag3 hag3
    conv=>cbv
    simp only[zo hL,sQ,hml,gm,hm1];refine⟨fun h6=>?_,fun h6=>?_⟩
    ·have hjl:j.toNat<bs.length:=(by omega);have rlj:=rl _ hjl;simp only[rli,rlj];refine⟨fun _=>by first|trivial|omega,fun _=>by first|trivial|omega,fun _=>by first|trivial|omega,fun _=>by first|trivial|omega,fun _=>by first|trivial|omega,fun _=>by first|trivial|omega,fun _=>by first|trivial|omega,fun _=>by first|trivial|omega,fun _=>by first|trivial|omega,fun _=>by first|trivial|omega,fun _=>by first|trivial|omega,fun _=>by first|trivial|omega,fun _=>by first|trivial|omega,fun _=>by first|trivial|omega,fun _=>by first|trivial|omega,fun _=>by first|trivial|omega,fun _=>by first|trivial|omega,fun _=>by first|trivial|omega,fun h7=>?_,fun h7=>?_⟩
     ·rw[hr,hF];intro hv;exact hv.ult _ _ _ hil hkl hjl (by omega) (by omega) (by omega) h7.2
     ·rw[zk (n:=j+1) (by omega) (by omega)];refine hag3 (j+1) ⟨by omega,by omega,fun t ht e0 e1 e2=>?_⟩ (by omega)
      by_cases htj:t=j.toNat
      ·rw[htj];exact h7.resolve_left (by omega)
      ·exact hJ t (by omega) e0 e1 e2
    ·rw[zk (n:=k+1) (by omega) (by omega)];refine hag2 (k+1) ⟨by omega,by omega,fun t ht=>?_⟩ (by omega)
     by_cases htk:t=k.toNat
     ·rw[htk];exact fun j' hj'=>hJ j' (by omega)
     ·exact hQ t (by omega)
   ·rw[zk (n:=i+1) (by omega) (by omega)];refine hag (i+1) ⟨by omega,by omega,fun t ht k' hk'=>?_⟩ (by omega)
    by_cases hti:t=i.toNat
    ·rw[hti];exact hQ k' (by omega)
    ·exact hP t (by omega) k' hk'
  ·rw[hr,hT];exact CvP.of (by omega) (by omega) hmn hA2 hP2 (fun t ht=>hP t (by omega))
 ·cases h
theorem TabP.range{ms:List (List Int)}{n:Nat}(h:TabP ms n){i k:Nat}(hi:i<n)(hk:k<n):0<=mm ms i k/\mm ms i k<=200:=by
 have hE:=(h.row i hi).2 k hk;by_cases he:i=k
 ·have:=hE.1 he;omega
 ·have:=hE.2 he;omega
def Ju(a b:List V):Prop:=Zs a b/\CvP (kv a) (uL b)
theorem JX{a b:List V}(h:Zs a b)(hc:qu a b=true):Ju a b:=⟨h,zax.1 hc⟩
def JK(bs:List (List Int)):Nat->Int
 |0=>0
 |n+1=>JK bs n+(bs.getD n []).getD 0 0
theorem zmQ{bs:List (List Int)}(h:∀i,i<bs.length->Br (bs.getD i [])):∀n,n<=bs.length->0<=JK bs n/\JK bs n<=64*n
 |0,_=>by simp[JK]
 |n+1,hn=>by
  have h1:=zmQ h n (by omega);have h2:=(h n (by omega)).first;have h3:=(h n (by omega)).low 0 (h n (by omega)).pos;simp only[JK];omega
def zfk(f:List V->List V->Int)(q:List V->List V->Prop):zN:=fun
 |[.agg [.slc false 57 (.agg [.slc false 2 (.int .i64 0) []]) a0,.slc false 29 (.slc false 2 (.int .i64 0) []) a1]]=>some ([q a0 a1],.int .i64 (f a0 a1))
 |_=>none
def zh6(a _:List V):Int:=JK (kv a) a.length
theorem zjM:yI Tryz.prog 55 (zfk zh6 Ju):=by
 intro args ps r h hp;unfold zfk at h;split at h
 ·rename_i a0 a1;cases h;obtain⟨⟨⟨bs,hbs,hb1,hb2⟩,⟨ms,hms,hm1,hm2⟩⟩,hcv⟩:=(zm.1 hp).1;rw[hbs,hms,yo,yd]at hcv;have g1:V.frzs a0=a0:=by rw[hbs,qH]
  have g2:V.frzs a1=a1:=by rw[hms,qy]
  have hbl:a0.length=bs.length:=by rw[hbs,yz]
  have hml:a1.length=ms.length:=by rw[hms,ye]
  have gb:∀k,a0.getD k (.agg [.slc false 2 (.int .i64 0) []])=.agg [.slc false 2 (.int .i64 0) (I (bs.getD k []))]:=fun k=>by rw[hbs,ku]
  have gm:∀k,a1.getD k (.slc false 2 (.int .i64 0) [])=.slc false 2 (.int .i64 0) (I (ms.getD k [])):=fun k=>by rw[hms,qo]
  have hm0:∀x y:Nat,(ms.getD x []).getD y 0=mm ms x y:=fun _ _=>rfl;obtain⟨n,hn⟩:∃n:Int,n=bs.length:=⟨_,rfl⟩;have n1:=hcv.n1;have n6:=hcv.n6;have hmn:ms.length=bs.length:=hcv.tab.len;have hbr:∀i,i<bs.length->Br (bs.getD i []):=fun i hi=>jz (hcv.br i hi);have rl:∀k,k<bs.length->(ms.getD k []).length=bs.length:=fun k hk=>(hcv.tab.row k hk).1;have mmr:∀i k,i<bs.length->k<bs.length->0<=mm ms i k/\mm ms i k<=200:=fun i k hi hk=>hcv.tab.range hi hk;have mmo:∀i k,i<bs.length->k<bs.length->i≠k->1<=mm ms i k/\mm ms i k<=200:=fun i k hi hk hne=>((hcv.tab.row i hi).2 k hk).2 hne;have hf0:zh6 a0 a1=JK bs bs.length:=by rw[zh6,hbl,hbs,yo]
  refine zC (T:=tab) (B:=[]) (Bi:=[]) [0,1,2,3,5,7,8,9] Tryz.func55 rfl rfl (by kernel_rfl) (ze rfl) mixed zP (by exact zA) (by exact zx) (by kernel_rfl) ?_;intro L lp rr hL hr hf hlp
  conv=>cbv
  refine hlp (Int×Int) _ _ _ [3,7,8,9] (fun x=>[(3,none,.val (.int .i64 x.1)),(7,none,.val (.slc false 57 (.agg [.slc false 2 (.int .i64 0) []]) a0)),(8,none,.val (.int .i64 n)),(9,none,.val (.int .i64 x.2))])
   (fun x=>0<=x.2/\x.2<=n/\x.1=JK bs x.2.toNat) (fun x=>(n-x.2).toNat) ((0,0)) (by subst hL;rw[hn,<-hbl];rfl) ?_ ?_
  ·exact⟨by simp,by simp only;omega,rfl⟩
  rintro⟨s,i⟩ ⟨i0,i1,hI⟩ hfx ag hag;simp only at i0 i1 hI
  conv=>cbv
  simp only[zo hL,sQ,hbl,gb,uy,um,uq];refine⟨fun h2=>?_,fun h2=>?_⟩
  ·have hb:=hbr i.toNat (by omega);have hp:=hb.pos;have h64:=hb.first;have hlow:=hb.low 0 hp;have hmu:=zmQ hbr i.toNat (by omega);rw[zk (n:=s+(bs.getD i.toNat []).getD 0 0) (by omega) (by omega),zk (n:=i+1) (by omega) (by omega)]
   (repeat' first|(exact yr _)|(exact je rfl)|(exact yV _)|(apply And.intro)|(intro _))<;>(try first|exact True.intro|omega|rfl|(simp only[zi,zq,zj];omega))
   refine hag (_,i+1) ⟨by simp only;omega,by simp only;omega,?_⟩ (by simp only;omega);simp only[zL i0];rw[JK,hI]
  ·rw[hr,hf0,hI,show i.toNat=bs.length by omega]
 ·cases h
def zc9(f:List V->List V->Int×Int)(q:List V->List V->Prop):zN:=fun
 |[.agg [.slc false 57 (.agg [.slc false 2 (.int .i64 0) []]) a0,.slc false 29 (.slc false 2 (.int .i64 0) []) a1]]=>some ([q a0 a1],.tup [.int .i64 ((f a0 a1).1),.int .i64 ((f a0 a1).2)])
 |_=>none
noncomputable def ztM(a b:List V):Int×Int:=bif qu a b then(zh6 a b,0)else(0,1)
theorem zfP:yI Tryz.prog 19 (zc9 ztM Zs):=by
 intro args ps r h hp;unfold zc9 at h;split at h
 ·rename_i a0 a1;cases h;have hq:Zs a0 a1:=(zm.1 hp).1;have g1:=Kd hq.1.isBB;have g2:=Kc hq.2.isII;generalize yU:qu=ko;generalize jG:Zs=uD;generalize znw:zh6=zA7;generalize jv:Ju=Ys;refine zC (T:=tab) (B:=[(15,zak ko uD),(55,zfk zA7 Ys)]) (Bi:=[]) [0,1,2,3] Tryz.func19 rfl rfl (by kernel_rfl) (ze rfl) mixed zP (by subst yU jG znw jv;exact(zn YT (zn zjM zA))) (by subst yU jG znw jv;exact zx) (by kernel_rfl) ?_;intro L lp rr hL hr hf hlp
  conv=>cbv
  simp only[zo hL,sQ,g1,g2];subst yU jG znw jv;refine⟨hq,fun h=>?_,fun h=>⟨JX hq h,?_⟩⟩
  ·rw[hr,ztM,h];rfl
  ·rw[hr,ztM,h];rfl
 ·cases h
def qz(bs ms:List (List Int))(i k:Nat):Int:=zf3 (bs.getD i []) (bs.getD k []) (mm ms i k).toNat
def zfz(f:List V->List V->Int->Int->Int)(q:List V->List V->Int->Int->Prop):zN:=fun
 |[.agg [.slc false 57 (.agg [.slc false 2 (.int .i64 0) []]) a0,.slc false 29 (.slc false 2 (.int .i64 0) []) a1],.int .i64 a2,.int .i64 a3]=>some ([q a0 a1 a2 a3],.int .i64 (f a0 a1 a2 a3))
 |_=>none
def KY(a b:List V)(i k:Int):Int:=qz (kv a) (uL b) i.toNat k.toNat
def zsP(a b:List V)(i k:Int):Prop:=Ju a b/\0<=i/\i<a.length/\0<=k/\k<a.length/\i≠k
theorem zpr:yI Tryz.prog 64 (zfz KY zsP):=by
 intro args ps r h hp;unfold zfz at h;split at h
 ·rename_i a0 a1 a2 a3;cases h;obtain⟨⟨⟨⟨bs,hbs,hb1,hb2⟩,⟨ms,hms,hm1,hm2⟩⟩,hcv⟩,⟨x0,x1,x2,x3,x4⟩⟩:=(zm.1 hp).1;rw[hbs,hms,yo,yd]at hcv;have g1:V.frzs a0=a0:=by rw[hbs,qH]
  have g2:V.frzs a1=a1:=by rw[hms,qy]
  have hbl:a0.length=bs.length:=by rw[hbs,yz]
  have hml:a1.length=ms.length:=by rw[hms,ye]
  have gb:∀k,a0.getD k (.agg [.slc false 2 (.int .i64 0) []])=.agg [.slc false 2 (.int .i64 0) (I (bs.getD k []))]:=fun k=>by rw[hbs,ku]
  have gm:∀k,a1.getD k (.slc false 2 (.int .i64 0) [])=.slc false 2 (.int .i64 0) (I (ms.getD k [])):=fun k=>by rw[hms,qo]
  have hm0:∀x y:Nat,(ms.getD x []).getD y 0=mm ms x y:=fun _ _=>rfl;obtain⟨n,hn⟩:∃n:Int,n=bs.length:=⟨_,rfl⟩;have n1:=hcv.n1;have n6:=hcv.n6;have hmn:ms.length=bs.length:=hcv.tab.len;have hbr:∀i,i<bs.length->Br (bs.getD i []):=fun i hi=>jz (hcv.br i hi);have rl:∀k,k<bs.length->(ms.getD k []).length=bs.length:=fun k hk=>(hcv.tab.row k hk).1;have mmr:∀i k,i<bs.length->k<bs.length->0<=mm ms i k/\mm ms i k<=200:=fun i k hi hk=>hcv.tab.range hi hk;have mmo:∀i k,i<bs.length->k<bs.length->i≠k->1<=mm ms i k/\mm ms i k<=200:=fun i k hi hk hne=>((hcv.tab.row i hi).2 k hk).2 hne;rw[hbl]at x1 x3;have hf0:KY a0 a1 a2 a3=qz bs ms a2.toNat a3.toNat:=by rw[KY,hbs,hms,yo,yd]
  have h1:=hbr a2.toNat (by omega);have h2:=hbr a3.toNat (by omega);have h3:=mmo a2.toNat a3.toNat (by omega) (by omega) (by omega);have h4:=rl a2.toNat (by omega);obtain⟨u,hu⟩:∃u,u=bs.getD a2.toNat []:=⟨_,rfl⟩;obtain⟨v,hv⟩:∃v,v=bs.getD a3.toNat []:=⟨_,rfl⟩;rw[<-hu]at h1;rw[<-hv]at h2;rw[qz,<-hu,<-hv]at hf0;obtain⟨c,hc⟩:∃c,c=mm ms a2.toNat a3.toNat:=⟨_,rfl⟩;rw[<-hc]at h3 hf0;have hqm:zap (I u) (I v) c:=⟨⟨_,rfl,h1⟩,⟨_,rfl,h2⟩,by omega,by omega⟩;have hfm:Yq (I u) (I v) c=zf3 u v c.toNat:=by rw[Yq,zr,zr]
  generalize Zh:Yq=zaT;generalize Ze:zap=zaS;refine zC (T:=tab) (B:=[(96,zcx zaT zaS)]) (Bi:=[]) [0,1,2,3,6] Tryz.func64 rfl rfl (by kernel_rfl) (ze rfl) mixed zP (by subst Zh Ze;exact(zn zdt zA)) (by subst Zh Ze;exact zx) (by kernel_rfl) ?_;intro L lp rr hL hr hf hlp
  conv=>cbv
  simp only[zo hL,sQ,hbl,gb,uy,um,uq,<-hu,<-hv,gm,hml,h4,hm0,<-hc];subst Zh Ze;rw[hr,hf0,hfm]
  (repeat' first|(exact yr _)|(exact je rfl)|(exact yV _)|(apply And.intro)|(intro _))<;>(try first|exact True.intro|omega|rfl|(simp only[zi,zq,zj];omega))
  all_goals first|exact hqm.1|exact hqm.2.1|skip
 ·cases h
def QL(n:Nat)(i:Int):Bool:=yu i 0 ((n:Int)-1)
def zuh(f:List V->List V->Int->Bool)(q:List V->List V->Int->Prop):zN:=fun
 |[.agg [.slc false 57 (.agg [.slc false 2 (.int .i64 0) []]) a0,.slc false 29 (.slc false 2 (.int .i64 0) []) a1],.int .i64 a2]=>some ([q a0 a1 a2],.bool (f a0 a1 a2))
 |_=>none
def zxX(a _:List V)(i:Int):Bool:=QL a.length i
def zC3(a b:List V)(_:Int):Prop:=Ju a b
theorem zmJ:yI Tryz.prog 63 (zuh zxX zC3):=by
 intro args ps r h hp;unfold zuh at h;split at h
 ·rename_i a0 a1 a2;cases h;obtain⟨⟨⟨bs,hbs,hb1,hb2⟩,⟨ms,hms,hm1,hm2⟩⟩,hcv⟩:=(zm.1 hp).1;rw[hbs,hms,yo,yd]at hcv;have g1:V.frzs a0=a0:=by rw[hbs,qH]
  have g2:V.frzs a1=a1:=by rw[hms,qy]
  have hbl:a0.length=bs.length:=by rw[hbs,yz]
  have hml:a1.length=ms.length:=by rw[hms,ye]
  have gb:∀k,a0.getD k (.agg [.slc false 2 (.int .i64 0) []])=.agg [.slc false 2 (.int .i64 0) (I (bs.getD k []))]:=fun k=>by rw[hbs,ku]
  have gm:∀k,a1.getD k (.slc false 2 (.int .i64 0) [])=.slc false 2 (.int .i64 0) (I (ms.getD k [])):=fun k=>by rw[hms,qo]
  have hm0:∀x y:Nat,(ms.getD x []).getD y 0=mm ms x y:=fun _ _=>rfl;obtain⟨n,hn⟩:∃n:Int,n=bs.length:=⟨_,rfl⟩;have n1:=hcv.n1;have n6:=hcv.n6;have hmn:ms.length=bs.length:=hcv.tab.len;have hbr:∀i,i<bs.length->Br (bs.getD i []):=fun i hi=>jz (hcv.br i hi);have rl:∀k,k<bs.length->(ms.getD k []).length=bs.length:=fun k hk=>(hcv.tab.row k hk).1;have mmr:∀i k,i<bs.length->k<bs.length->0<=mm ms i k/\mm ms i k<=200:=fun i k hi hk=>hcv.tab.range hi hk;have mmo:∀i k,i<bs.length->k<bs.length->i≠k->1<=mm ms i k/\mm ms i k<=200:=fun i k hi hk hne=>((hcv.tab.row i hi).2 k hk).2 hne;have hf0:zxX a0 a1 a2=yu a2 0 (n-1):=by rw[zxX,QL,hbl,hn]
  generalize yk:yu=qR;refine zC (T:=tab) (B:=[(88,qW qR)]) (Bi:=[]) [0,1,2,4] Tryz.func63 rfl rfl (by kernel_rfl) (ze rfl) mixed zP (by subst yk;exact(zn za1 zA)) (by subst yk;exact zx) (by kernel_rfl) ?_;intro L lp rr hL hr hf hlp
  conv=>cbv
  simp only[zo hL,sQ,hbl,<-hn];subst yk;rw[zk (n:=n-1) (by omega) (by omega),hr,hf0]
 ·cases h
def zb9(f:List V->List V->Int->Int->Int×Int)(q:List V->List V->Int->Int->Prop):zN:=fun
 |[.agg [.slc false 57 (.agg [.slc false 2 (.int .i64 0) []]) a0,.slc false 29 (.slc false 2 (.int .i64 0) []) a1],.int .i64 a2,.int .i64 a3]=>some ([q a0 a1 a2 a3],.tup [.int .i64 ((f a0 a1 a2 a3).1),.int .i64 ((f a0 a1 a2 a3).2)])
 |_=>none
noncomputable def ZN(a b:List V)(i k:Int):Int×Int:=bif qu a b then(bif QL a.length i&&QL a.length k&& !(i==k)then(KY a b i k,0)else(0,2))else(0,1)
def ziK(a b:List V)(_ _:Int):Prop:=Zs a b
theorem YC{n:Nat}{i:Int}:QL n i=true↔0<=i/\i<n:=by
 simp only[QL,yu,Bool.and_eq_true,decide_eq_true_eq];omega
theorem zab:yI Tryz.prog 26 (zb9 ZN ziK):=by
 intro args ps r h hp;unfold zb9 at h;split at h
 ·rename_i a0 a1 a2 a3;cases h;have hq:Zs a0 a1:=(zm.1 hp).1;have g1:=Kd hq.1.isBB;have g2:=Kc hq.2.isII;generalize yU:qu=ko;generalize jG:Zs=uD;generalize zuD:zxX=zDL;generalize zuw:zC3=zDG;generalize zgw:KY=zo3;generalize zuy:zsP=zDI;refine zC (T:=tab) (B:=[(15,zak ko uD),(63,zuh zDL zDG),(64,zfz zo3 zDI)]) (Bi:=[]) [0,1,2,3,6,7] Tryz.func26 rfl rfl (by kernel_rfl) (ze rfl) mixed zP (by subst yU jG zuD zuw zgw zuy;exact(zn YT (zn zmJ (zn zpr zA)))) (by subst yU jG zuD zuw zgw zuy;exact zx) (by kernel_rfl) ?_;intro L lp rr hL hr hf hlp
  conv=>cbv
  simp only[zo hL,sQ,g1,g2];subst yU jG zuD zuw zgw zuy;refine⟨hq,fun h=>?_,fun h=>?_⟩
  ·rw[hr,ZN,h];rfl
  have hv:=JX hq h;refine⟨hv,fun _=>hv,fun h2=>?_,fun h2=>?_⟩
  ·have hz:(QL a0.length a2&&QL a0.length a3&& !(a2==a3))=false:=by
    rcases h2 with(h2|h2)|h2
    ·rw[show QL a0.length a2=false from h2];rfl
    ·rw[show QL a0.length a3=false from h2,ZY];rfl
    ·rw[beq_iff_eq.2 h2,Bool.not_true,ZY]
   rw[hr,ZN,h,hz];rfl
  ·obtain⟨⟨h3,h4⟩,h5⟩:=h2;have h3:QL a0.length a2=true:=h3;have h4:QL a0.length a3=true:=h4;have h3':=YC.1 h3;have h4':=YC.1 h4
   have hz:(QL a0.length a2&&QL a0.length a3&& !(a2==a3))=true:=by
    rw[h3,h4,beq_eq_false_iff_ne.2 h5];rfl
   refine⟨⟨hv,h3'.1,h3'.2,h4'.1,h4'.2,h5⟩,?_⟩;rw[hr,ZN,h,hz];rfl
 ·cases h
theorem ze8:yI Tryz.prog 76 (zb9 ZN ziK):=by
 intro args ps r h hp;unfold zb9 at h;split at h
 ·rename_i a0 a1 a2 a3;cases h;have hq:Zs a0 a1:=(zm.1 hp).1;have g1:=Kd hq.1.isBB;have g2:=Kc hq.2.isII;obtain⟨n,hn⟩:∃n:Int,n=a0.length:=⟨_,rfl⟩
  have hnl:a0.length<=2147483647:=by
   obtain⟨bs,hbs,h1,_⟩:=hq.1;rw[hbs,yz];exact h1
  have hof:∀i,yu i 0 (n-1)=QL a0.length i:=fun i=>by rw[QL,hn]
  have w1:IntKind.wrap .i64 (n-1)=n-1:=zk (by omega) (by omega);generalize yU:qu=ko;generalize jG:Zs=uD;generalize yk:yu=qR;generalize Zh:Yq=zaT;generalize Ze:zap=zaS;refine zC (T:=tab) (B:=[(44,zak ko uD),(82,qW qR),(102,zcx zaT zaS)]) (Bi:=[]) [0,1,2,3,6,7,8] Tryz.func76 rfl rfl (by kernel_rfl) (ze rfl) mixed zP (by subst yU jG yk Zh Ze;exact(zn zcO (zn Ym (zn zhO zA)))) (by subst yU jG yk Zh Ze;exact zx) (by kernel_rfl) ?_;intro L lp rr hL hr hf hlp
  conv=>cbv
  simp only[zo hL,sQ,g1,g2,<-hn,w1];subst yU jG yk;simp only[hof];refine⟨hq,fun h=>?_,fun h=>⟨fun h2=>?_,fun h2=>?_⟩⟩
  ·rw[hr,ZN,h];rfl
  ·have hz:(QL a0.length a2&&QL a0.length a3&& !(a2==a3))=false:=by
    rcases h2 with(h2|h2)|h2
    ·rw[h2];rfl
    ·rw[h2,ZY];rfl
    ·rw[beq_iff_eq.2 h2,Bool.not_true,ZY]
   rw[hr,ZN,h,hz];rfl
  ·obtain⟨⟨h3,h4⟩,h5⟩:=h2;have h3':=YC.1 h3;have h4':=YC.1 h4
   have hz:(QL a0.length a2&&QL a0.length a3&& !(a2==a3))=true:=by
    rw[h3,h4,beq_eq_false_iff_ne.2 h5];rfl
   have hp:qh [Ju a0 a1]:=zm.2 ⟨JX hq h,fun q hq=>by cases hq⟩;rw[hr,ZN,h,hz];obtain⟨⟨⟨bs,hbs,hb1,hb2⟩,⟨ms,hms,hm1,hm2⟩⟩,hcv⟩:=(zm.1 hp).1;rw[hbs,hms,yo,yd]at hcv;have g1:V.frzs a0=a0:=(by rw[hbs,qH]);have g2:V.frzs a1=a1:=(by rw[hms,qy]);have hbl:a0.length=bs.length:=(by rw[hbs,yz]);have hml:a1.length=ms.length:=(by rw[hms,ye]);have gb:∀k,a0.getD k (.agg [.slc false 2 (.int .i64 0) []])=.agg [.slc false 2 (.int .i64 0) (I (bs.getD k []))]:=fun k=>(by rw[hbs,ku]);have gm:∀k,a1.getD k (.slc false 2 (.int .i64 0) [])=.slc false 2 (.int .i64 0) (I (ms.getD k [])):=fun k=>(by rw[hms,qo]);have hm0:∀x y:Nat,(ms.getD x []).getD y 0=mm ms x y:=fun _ _=>rfl;obtain⟨n,hn⟩:∃n:Int,n=bs.length:=⟨_,rfl⟩;have n1:=hcv.n1;have n6:=hcv.n6;have hmn:ms.length=bs.length:=hcv.tab.len;have hbr:∀i,i<bs.length->Br (bs.getD i []):=fun i hi=>jz (hcv.br i hi);have rl:∀k,k<bs.length->(ms.getD k []).length=bs.length:=fun k hk=>(hcv.tab.row k hk).1;have mmr:∀i k,i<bs.length->k<bs.length->0<=mm ms i k/\mm ms i k<=200:=fun i k hi hk=>hcv.tab.range hi hk;have mmo:∀i k,i<bs.length->k<bs.length->i≠k->1<=mm ms i k/\mm ms i k<=200:=fun i k hi hk hne=>((hcv.tab.row i hi).2 k hk).2 hne;rw[hbl]at h3' h4';have hf0:KY a0 a1 a2 a3=qz bs ms a2.toNat a3.toNat:=(by rw[KY,hbs,hms,yo,yd]);have h1:=hbr a2.toNat (by omega);have h2:=hbr a3.toNat (by omega);have h3:=mmo a2.toNat a3.toNat (by omega) (by omega) (by omega);have h4:=rl a2.toNat (by omega);obtain⟨u,hu⟩:∃u,u=bs.getD a2.toNat []:=⟨_,rfl⟩;obtain⟨v,hv⟩:∃v,v=bs.getD a3.toNat []:=⟨_,rfl⟩;rw[<-hu]at h1;rw[<-hv]at h2;rw[qz,<-hu,<-hv]at hf0;obtain⟨c,hc⟩:∃c,c=mm ms a2.toNat a3.toNat:=⟨_,rfl⟩;rw[<-hc]at h3 hf0;have hqm:zap (I u) (I v) c:=⟨⟨_,rfl,h1⟩,⟨_,rfl,h2⟩,by omega,by omega⟩;have hfm:Yq (I u) (I v) c=zf3 u v c.toNat:=(by rw[Yq,zr,zr]);simp only[zo hL,sQ,hbl,gb,uy,um,uq,<-hu,<-hv,gm,hml,h4,hm0,<-hc];subst Zh Ze;rw[hf0,hfm]
   (repeat' first|(exact yr _)|(exact je rfl)|(exact yV _)|(apply And.intro)|(intro _))<;>(try first|exact True.intro|omega|rfl|(simp only[zi,zq,zj];omega))
   all_goals first|exact hqm.1|exact hqm.2.1|skip
 ·cases h
def dI(bs ms:List (List Int))(i:Nat)(s:Int):Nat->Int
 |0=>s
 |k+1=>W (dI bs ms i s k+qz bs ms i k)
def dOC(bs ms:List (List Int)):Nat->Int
 |0=>0
 |i+1=>dI bs ms i (W (dOC bs ms i+kf (jn (bs.getD i [])))) i
def zbn(a b:List V):Int:=dOC (kv a) (uL b) a.length
def zD4(bs ms:List (List Int))(i:Nat):Int:=max ((qY (bs.getD i [])).length:Int) (zEp (ms.getD i []))
def zg5(f:List V->List V->List V)(q:List V->List V->Prop):zN:=fun
 |[.agg [.slc false 57 (.agg [.slc false 2 (.int .i64 0) []]) a0,.slc false 29 (.slc false 2 (.int .i64 0) []) a1]]=>some ([q a0 a1],.slc true 2 (.int .i64 0) (f a0 a1))
 |_=>none
def zin(f:List V->List V->List V×Int)(q:List V->List V->Prop):zN:=fun
 |[.agg [.slc false 57 (.agg [.slc false 2 (.int .i64 0) []]) a0,.slc false 29 (.slc false 2 (.int .i64 0) []) a1]]=>some ([q a0 a1],.tup [.slc true 2 (.int .i64 0) ((f a0 a1).1),.int .i64 ((f a0 a1).2)])
 |_=>none
theorem gAt{l:List Int}{k:Nat}(h:k<l.length):l[k]=l.getD k 0:=by
 rw[zd,List.getElem?_eq_getElem h];rfl
def zac(bs:List (List Int))(l:List Int):List (List Int):=l.map fun i=>bs.getD i.toNat []
def zlh(ms:List (List Int))(l:List Int):List (List Int):=l.map fun i=>l.map fun k=>mm ms i.toNat k.toNat
def zim(f:List V->List V->List V->List V×List V)(q:List V->List V->List V->Prop):zN:=fun
 |[.agg [.slc false 57 (.agg [.slc false 2 (.int .i64 0) []]) a0,.slc false 29 (.slc false 2 (.int .i64 0) []) a1],.slc false 2 (.int .i64 0) a2]=>some ([q a0 a1 a2],.agg [.slc true 57 (.agg [.slc true 2 (.int .i64 0) []]) ((f a0 a1 a2).1),.slc true 29 (.slc true 2 (.int .i64 0) []) ((f a0 a1 a2).2)])
 |_=>none
def zbB(a b l:List V):List V×List V:=(BB true (zac (kv a) (qj l)),II true (zlh (uL b) (qj l)))
def InL(n:Nat)(l:List Int):Prop:=∀k,k<l.length->0<=l.getD k 0/\l.getD k 0<n
def zn5(a b l:List V):Prop:=Ju a b/\∃xs,l=I xs/\InL a.length xs/\xs.length<=1000
theorem zof(bs:List (List Int))(l:List Int)(i:Nat)(h:i<l.length):zac bs (l.take (i+1))=zac bs (l.take i)++[bs.getD (l.getD i 0).toNat []]:=by
 rw[zac,zJ h,uS,gAt h];rfl
def zfQ(ms:List (List Int))(l:List Int)(i:Int):List Int:=l.map fun k=>mm ms i.toNat k.toNat
theorem zqX(ms:List (List Int))(l:List Int)(x:Int)(i:Nat)(h:i<l.length):zfQ ms (l.take (i+1)) x=zfQ ms (l.take i) x++[mm ms x.toNat (l.getD i 0).toNat]:=by
 rw[zfQ,zJ h,uS,gAt h];rfl
def zar(ms:List (List Int))(l:List Int)(n:Nat):List (List Int):=(l.take n).map (zfQ ms l)
theorem zod(ms:List (List Int))(l:List Int)(i:Nat)(h:i<l.length):zar ms l (i+1)=zar ms l i++[zfQ ms l (l.getD i 0)]:=by
 rw[zar,zJ h,uS,gAt h];rfl
theorem zoe(ms:List (List Int))(l:List Int){n:Nat}(h:l.length<=n):zar ms l n=zlh ms l:=by
 rw[zar,zy h];rfl
theorem zq4(bs:List (List Int))(l:List Int):(zac bs l).length=l.length:=by simp[zac]
theorem zsH(ms:List (List Int))(l:List Int)(x:Int):(zfQ ms l x).length=l.length:=by simp[zfQ]
theorem zrG:yI Tryz.prog 62 (zim zbB zn5):=by
 intro args ps r h hp;unfold zim at h;split at h
 ·rename_i a0 a1 a2;cases h;obtain⟨⟨⟨⟨bs,hbs,hb1,hb2⟩,⟨ms,hms,hm1,hm2⟩⟩,hcv⟩,⟨ls,hls,hin,hll⟩⟩:=(zm.1 hp).1;rw[hbs,hms,yo,yd]at hcv;have g1:V.frzs a0=a0:=by rw[hbs,qH]
  have g2:V.frzs a1=a1:=by rw[hms,qy]
  have hbl:a0.length=bs.length:=by rw[hbs,yz]
  have hml:a1.length=ms.length:=by rw[hms,ye]
  have gb:∀k,a0.getD k (.agg [.slc false 2 (.int .i64 0) []])=.agg [.slc false 2 (.int .i64 0) (I (bs.getD k []))]:=fun k=>by rw[hbs,ku]
  have gm:∀k,a1.getD k (.slc false 2 (.int .i64 0) [])=.slc false 2 (.int .i64 0) (I (ms.getD k [])):=fun k=>by rw[hms,qo]
  have hm0:∀x y:Nat,(ms.getD x []).getD y 0=mm ms x y:=fun _ _=>rfl;obtain⟨n,hn⟩:∃n:Int,n=bs.length:=⟨_,rfl⟩;have n1:=hcv.n1;have n6:=hcv.n6;have hmn:ms.length=bs.length:=hcv.tab.len;have hbr:∀i,i<bs.length->Br (bs.getD i []):=fun i hi=>jz (hcv.br i hi);have rl:∀k,k<bs.length->(ms.getD k []).length=bs.length:=fun k hk=>(hcv.tab.row k hk).1;have mmr:∀i k,i<bs.length->k<bs.length->0<=mm ms i k/\mm ms i k<=200:=fun i k hi hk=>hcv.tab.range hi hk;have mmo:∀i k,i<bs.length->k<bs.length->i≠k->1<=mm ms i k/\mm ms i k<=200:=fun i k hi hk hne=>((hcv.tab.row i hi).2 k hk).2 hne;rw[hbl]at hin;have hf0:zbB a0 a1 a2=(BB true (zac bs ls),II true (zlh ms ls)):=by rw[zbB,hbs,hms,hls,yo,yd,zr]
  have hal:a2.length=ls.length:=by rw[hls,zj]
  have gl:∀k,a2.getD k (.int .i64 0)=.int .i64 (ls.getD k 0):=fun k=>by rw[hls,zO]
  obtain⟨m,hm⟩:∃m:Int,m=ls.length:=⟨_,rfl⟩;generalize uc:same=YJ;generalize yA:uf=jq;refine zC (T:=tab) (B:=[(95,zjd YJ jq)]) (Bi:=[]) [2000005025,0,1,2,4,5,7,8,10,12,13,14,30,31,32] Tryz.func62 rfl rfl (by kernel_rfl) (ze rfl) mixed zP (by subst uc yA;exact(zn zlT zA)) (by subst uc yA;exact zx) (by kernel_rfl) ?_;intro L lp rr hL hr hf hlp;have qcp:∀x,Br x->jq (I x):=fun x hx=>by rw[<-yA];exact⟨⟨_,rfl⟩,by rw[zj];have:=hx.len;omega⟩
  have ecp:∀x,YJ (I x)=I x:=fun x=>by rw[<-uc];rfl
  conv=>cbv
  refine hlp ((List V×List V)×Int) _ _ _ [1,2,4,5,12,13,14] (fun x=>[(1,none,.val (.slc false 2 (.int .i64 0) a2)),(2,none,.val (.box 27 (.agg [.slc false 57 (.agg [.slc false 2 (.int .i64 0) []]) a0,.slc false 29 (.slc false 2 (.int .i64 0) []) a1]))),(4,none,.val (.box 27 (.agg [.slc true 57 (.agg [.slc true 2 (.int .i64 0) []]) [],.slc true 29 (.slc true 2 (.int .i64 0) []) []]))),(5,none,.val (.box 27 (.agg [.slc true 57 (.agg [.slc true 2 (.int .i64 0) []]) x.1.1,.slc true 29 (.slc true 2 (.int .i64 0) []) x.1.2]))),(12,none,.val (.slc false 2 (.int .i64 0) a2)),(13,none,.val (.int .i64 m)),(14,none,.val (.int .i64 x.2))])
   (fun x=>0<=x.2/\x.2<=m/\x.1.1=BB true (zac bs (ls.take x.2.toNat))/\x.1.2=II true (zar ms ls x.2.toNat)) (fun x=>(m-x.2).toNat) ((([],[]),0)) (by subst hL;rw[hm,<-hal];rfl) ?_ ?_
  ·exact⟨by simp,by simp only;omega,rfl,rfl⟩
  rintro⟨⟨fs,gs⟩,i⟩ ⟨i0,i1,hI,hJ⟩ hfx ag hag;simp only at i0 i1 hI hJ
  conv=>cbv
  simp only[zo hL,sQ,hbl,gb,uy,um,uq,hal,gl,ecp];refine⟨fun h2=>?_,fun h2=>?_⟩
  ·have hil:i.toNat<ls.length:=(by omega);have hxi:=hin _ hil;obtain⟨x,hx⟩:∃x,x=ls.getD i.toNat 0:=⟨_,rfl⟩;rw[<-hx]at hxi;have hbx:=hbr x.toNat (by omega);have hrx:=rl x.toNat (by omega);have hfl:fs.length<=1000:=(by rw[hI,yz,zq4,zZ];omega);have hgl:gs.length<=1000:=(by rw[hJ,ye,zar,List.length_map,zZ];omega);have qx:=qcp _ hbx;rw[<-hx];obtain⟨fs',hfs'⟩:∃fs',fs'=fs++[V.agg [.slc true 2 (.int .i64 0) (I (bs.getD x.toNat []))]]:=⟨_,rfl⟩;rw[<-hfs'];refine⟨i0,by omega,hxi.1,by omega,qx,by simp only[zi,zq];omega,je rfl,?_⟩
   refine hlp (List V×Int) _ _ _ [1,2,4,5,7,8,12,13,14,30,31,32] (fun y=>[(1,none,.val (.slc false 2 (.int .i64 0) a2)),(2,none,.val (.box 27 (.agg [.slc false 57 (.agg [.slc false 2 (.int .i64 0) []]) a0,.slc false 29 (.slc false 2 (.int .i64 0) []) a1]))),(4,none,.val (.box 27 (.agg [.slc true 57 (.agg [.slc true 2 (.int .i64 0) []]) [],.slc true 29 (.slc true 2 (.int .i64 0) []) []]))),(5,none,.val (.box 27 (.agg [.slc true 57 (.agg [.slc true 2 (.int .i64 0) []]) fs',.slc true 29 (.slc true 2 (.int .i64 0) []) gs]))),(7,none,.val (.int .i64 x)),(8,none,.val (.slc true 2 (.int .i64 0) y.1)),(12,none,.val (.slc false 2 (.int .i64 0) a2)),(13,none,.val (.int .i64 m)),(14,none,.val (.int .i64 i)),(30,none,.val (.slc false 2 (.int .i64 0) a2)),(31,none,.val (.int .i64 m)),(32,none,.val (.int .i64 y.2))])
    (fun y=>0<=y.2/\y.2<=m/\y.1=I (zfQ ms (ls.take y.2.toNat) x)) (fun y=>(m-y.2).toNat) (([],0)) (by subst hL;rw[hm,<-hal];rfl) ?_ ?_
   ·exact⟨by simp,by simp only;omega,rfl⟩
   rintro⟨rs,k⟩ ⟨k0,k1,hK⟩ hfx2 ag2 hag2;simp only at k0 k1 hK
   conv=>cbv
   simp only[zo hL,sQ,hal,gl,gm,hml,hm0,hrx];refine⟨fun h3=>?_,fun h3=>?_⟩
   ·have hkl:k.toNat<ls.length:=(by omega);have hyk:=hin _ hkl;have hrs:rs.length<=1000:=(by rw[hK,zj,zsH,zZ];omega);rw[zk (n:=k+1) (by omega) (by omega)]
    (repeat' first|(exact yr _)|(exact je rfl)|(exact yV _)|(apply And.intro)|(intro _))<;>(try first|exact True.intro|omega|rfl|(simp only[zi,zq,zj];omega))
    refine hag2 (_,k+1) ⟨by simp only;omega,by simp only;omega,?_⟩ (by simp only;omega);simp only[zL k0];rw[zqX _ _ _ _ hkl,hK,<-jb];rfl
   ·have hrs:rs=I (zfQ ms ls x):=(by rw[hK,zy (by omega)]);rw[zk (n:=i+1) (by omega) (by omega)]
    have hff:fs'=BB true (zac bs (ls.take (i.toNat+1))):=by
     rw[zof _ _ _ hil,hfs',hI,<-hx];simp[BB]
    have hgg:gs++[V.slc true 2 (.int .i64 0) rs]=II true (zar ms ls (i.toNat+1)):=by
     rw[zod _ _ _ hil,ZK,hJ,hrs,<-hx];rfl
    refine⟨by simp only[zi,zq];omega,je rfl,hag ((fs',_),i+1) ⟨by simp only;omega,by simp only;omega,?_,?_⟩ (by simp only;omega)⟩
    ·simp only[zL i0];exact hff
    ·simp only[zL i0];exact hgg
  ·rw[hr,hf0,hI,hJ,zy (by omega),zoe _ _ (by omega)]
 ·cases h
theorem zpd:yI Tryz.prog 99 (zim zbB zn5):=by
 intro args ps r h hp;unfold zim at h;split at h
 ·rename_i a0 a1 a2;cases h;obtain⟨⟨⟨⟨bs,hbs,hb1,hb2⟩,⟨ms,hms,hm1,hm2⟩⟩,hcv⟩,⟨ls,hls,hin,hll⟩⟩:=(zm.1 hp).1;rw[hbs,hms,yo,yd]at hcv;have g1:V.frzs a0=a0:=by rw[hbs,qH]
  have g2:V.frzs a1=a1:=by rw[hms,qy]
  have hbl:a0.length=bs.length:=by rw[hbs,yz]
  have hml:a1.length=ms.length:=by rw[hms,ye]
  have gb:∀k,a0.getD k (.agg [.slc false 2 (.int .i64 0) []])=.agg [.slc false 2 (.int .i64 0) (I (bs.getD k []))]:=fun k=>by rw[hbs,ku]
  have gm:∀k,a1.getD k (.slc false 2 (.int .i64 0) [])=.slc false 2 (.int .i64 0) (I (ms.getD k [])):=fun k=>by rw[hms,qo]
  have hm0:∀x y:Nat,(ms.getD x []).getD y 0=mm ms x y:=fun _ _=>rfl;obtain⟨n,hn⟩:∃n:Int,n=bs.length:=⟨_,rfl⟩;have n1:=hcv.n1;have n6:=hcv.n6;have hmn:ms.length=bs.length:=hcv.tab.len;have hbr:∀i,i<bs.length->Br (bs.getD i []):=fun i hi=>jz (hcv.br i hi);have rl:∀k,k<bs.length->(ms.getD k []).length=bs.length:=fun k hk=>(hcv.tab.row k hk).1;have mmr:∀i k,i<bs.length->k<bs.length->0<=mm ms i k/\mm ms i k<=200:=fun i k hi hk=>hcv.tab.range hi hk;have mmo:∀i k,i<bs.length->k<bs.length->i≠k->1<=mm ms i k/\mm ms i k<=200:=fun i k hi hk hne=>((hcv.tab.row i hi).2 k hk).2 hne;rw[hbl]at hin;have hf0:zbB a0 a1 a2=(BB true (zac bs ls),II true (zlh ms ls)):=by rw[zbB,hbs,hms,hls,yo,yd,zr]
  have hal:a2.length=ls.length:=by rw[hls,zj]
  have gl:∀k,a2.getD k (.int .i64 0)=.int .i64 (ls.getD k 0):=fun k=>by rw[hls,zO]
  obtain⟨m,hm⟩:∃m:Int,m=ls.length:=⟨_,rfl⟩;generalize uc:same=YJ;generalize yA:uf=jq;refine zC (T:=tab) (B:=[(117,zjd YJ jq)]) (Bi:=[]) [2000010050,0,1,2,4,5,6,7,8] Tryz.func99 rfl rfl (by kernel_rfl) (ze rfl) mixed zP (by subst uc yA;exact(zn zjA zA)) (by subst uc yA;exact zx) (by kernel_rfl) ?_;intro L lp rr hL hr hf hlp;have qcp:∀x,Br x->jq (I x):=fun x hx=>by rw[<-yA];exact⟨⟨_,rfl⟩,by rw[zj];have:=hx.len;omega⟩
  have ecp:∀x,YJ (I x)=I x:=fun x=>by rw[<-uc];rfl
  conv=>cbv
  refine hlp ((List V×List V)×Int) _ _ _ [1,2,4,5,6] (fun x=>[(1,none,.val (.slc false 2 (.int .i64 0) a2)),(2,none,.val (.box 27 (.agg [.slc false 57 (.agg [.slc false 2 (.int .i64 0) []]) a0,.slc false 29 (.slc false 2 (.int .i64 0) []) a1]))),(4,none,.val (.box 27 (.agg [.slc true 57 (.agg [.slc true 2 (.int .i64 0) []]) [],.slc true 29 (.slc true 2 (.int .i64 0) []) []]))),(5,none,.val (.box 27 (.agg [.slc true 57 (.agg [.slc true 2 (.int .i64 0) []]) x.1.1,.slc true 29 (.slc true 2 (.int .i64 0) []) x.1.2]))),(6,none,.val (.int .i64 x.2))])
   (fun x=>0<=x.2/\x.2<=m/\x.1.1=BB true (zac bs (ls.take x.2.toNat))/\x.1.2=II true (zar ms ls x.2.toNat)) (fun x=>(m-x.2).toNat) ((([],[]),0)) (by subst hL;rfl) ?_ ?_
  ·exact⟨by simp,by simp only;omega,rfl,rfl⟩
  rintro⟨⟨fs,gs⟩,i⟩ ⟨i0,i1,hI,hJ⟩ hfx ag hag;simp only at i0 i1 hI hJ
  conv=>cbv
  simp only[zo hL,sQ,hal,gl,<-hm];refine⟨fun h2=>?_,fun h2=>?_⟩
  ·have hil:i.toNat<ls.length:=(by omega);have hxi:=hin _ hil;obtain⟨x,hx⟩:∃x,x=ls.getD i.toNat 0:=⟨_,rfl⟩;rw[<-hx]at hxi;have hbx:=hbr x.toNat (by omega);have hrx:=rl x.toNat (by omega);have hfl:fs.length<=1000:=(by rw[hI,yz,zq4,zZ];omega);have hgl:gs.length<=1000:=(by rw[hJ,ye,zar,List.length_map,zZ];omega);have qx:=qcp _ hbx
   refine hlp (List V×Int) _ _ _ [1,2,4,5,6,7,8] (fun y=>[(1,none,.val (.slc false 2 (.int .i64 0) a2)),(2,none,.val (.box 27 (.agg [.slc false 57 (.agg [.slc false 2 (.int .i64 0) []]) a0,.slc false 29 (.slc false 2 (.int .i64 0) []) a1]))),(4,none,.val (.box 27 (.agg [.slc true 57 (.agg [.slc true 2 (.int .i64 0) []]) [],.slc true 29 (.slc true 2 (.int .i64 0) []) []]))),(5,none,.val (.box 27 (.agg [.slc true 57 (.agg [.slc true 2 (.int .i64 0) []]) fs,.slc true 29 (.slc true 2 (.int .i64 0) []) gs]))),(6,none,.val (.int .i64 i)),(7,none,.val (.slc true 2 (.int .i64 0) y.1)),(8,none,.val (.int .i64 y.2))])
    (fun y=>0<=y.2/\y.2<=m/\y.1=I (zfQ ms (ls.take y.2.toNat) x)) (fun y=>(m-y.2).toNat) (([],0)) (by subst hL;rfl) ?_ ?_
   ·exact⟨by simp,by simp only;omega,rfl⟩
   rintro⟨rs,k⟩ ⟨k0,k1,hK⟩ hfx2 ag2 hag2;simp only at k0 k1 hK
   conv=>cbv
   simp only[zo hL,sQ,hal,gl,gm,hml,hm0,<-hx,hrx,<-hm,hbl,gb,uy,um,uq,ecp];refine⟨fun h3=>?_,fun h3=>?_⟩
   ·have hkl:k.toNat<ls.length:=(by omega);have hyk:=hin _ hkl;have hrs:rs.length<=1000:=(by rw[hK,zj,zsH,zZ];omega);rw[zk (n:=k+1) (by omega) (by omega)]
    (repeat' first|(exact yr _)|(exact je rfl)|(exact yV _)|(apply And.intro)|(intro _))<;>(try first|exact True.intro|omega|rfl|(simp only[zi,zq,zj];omega))
    refine hag2 (_,k+1) ⟨by simp only;omega,by simp only;omega,?_⟩ (by simp only;omega);simp only[zL k0];rw[zqX _ _ _ _ hkl,hK,<-jb];rfl
   ·have hrs:rs=I (zfQ ms ls x):=(by rw[hK,zy (by omega)]);obtain⟨fs',hfs'⟩:∃fs',fs'=fs++[V.agg [.slc true 2 (.int .i64 0) (I (bs.getD x.toNat []))]]:=⟨_,rfl⟩;rw[zk (n:=i+1) (by omega) (by omega),<-hfs']
    have hff:fs'=BB true (zac bs (ls.take (i.toNat+1))):=by
     rw[zof _ _ _ hil,hfs',hI,<-hx];simp[BB]
    have hgg:gs++[V.slc true 2 (.int .i64 0) rs]=II true (zar ms ls (i.toNat+1)):=by
     rw[zod _ _ _ hil,ZK,hJ,hrs,<-hx];rfl
    refine⟨i0,h2,hxi.1,hxi.2,qx,by simp only[zi,zq];omega,je rfl,by simp only[zi,zq];omega,je rfl,hag ((fs',_),i+1) ⟨by simp only;omega,by simp only;omega,?_,?_⟩ (by simp only;omega)⟩
    ·simp only[zL i0];exact hff
    ·simp only[zL i0];exact hgg
  ·rw[hr,hf0,hI,hJ,zy (by omega),zoe _ _ (by omega)]
 ·cases h
def okp(n:Nat)(l:List Int):Bool:= !(l.length==0)&&asc l&&jV l 0 ((n:Int)-1)
def tk(ms:List (List Int))(i:Nat):Option Nat:=(List.range i).find? fun k=>decide (2<=mm ms i k)
theorem zvy{ms:List (List Int)}{i k:Nat}(hk:k<i)(hb:∀t,t<k->¬2<=mm ms i t)(hd:2<=mm ms i k):tk ms i=some k:=by
 rw[tk,jZ];refine⟨by simpa using hd,by simpa using hk,fun j hj=>?_⟩;simpa using hb j hj
theorem zvz{ms:List (List Int)}{i:Nat}(hb:∀t,t<i->¬2<=mm ms i t):tk ms i=none:=by
 rw[tk,List.find?_eq_none];intro t ht;simpa using hb t (by simpa using ht)
def yh(ms:List (List Int)):Nat->List Int×Int
 |0=>([],0)
 |i+1=>match tk ms i with
  |some k=>((yh ms i).1++[(yh ms i).1.getD k 0],(yh ms i).2)
  |none=>((yh ms i).1++[(yh ms i).2],(yh ms i).2+1)
theorem zk5{ms:List (List Int)}{i k:Nat}(h:tk ms i=some k):k<i:=by
 rw[tk,jZ]at h;simpa using h.2.1
theorem ul(ms:List (List Int)):∀i,(yh ms i).1.length=i/\0<=(yh ms i).2/\(yh ms i).2<=i/\∀k,k<i->0<=(yh ms i).1.getD k 0/\(yh ms i).1.getD k 0<(yh ms i).2
 |0=>by simp[yh]
 |i+1=>by
  obtain⟨h1,h2,h3,h4⟩:=ul ms i
  have key:∀(x:Int) (k:Nat),k<i+1->((yh ms i).1++[x]).getD k 0=if k=i then x else(yh ms i).1.getD k 0:=fun x k hk=>by
   simp only[zd];by_cases hki:k=i
   ·rw[hki,if_pos rfl,zR (by omega),h1];simp
   ·rw[if_neg hki,List.getElem?_append_left (by omega)]
  cases ht:tk ms i with
  |some k=>
   have hk:=zk5 ht;have h5:=h4 k hk;refine⟨by simp[yh,ht,h1],by simp only[yh,ht];omega,by simp only[yh,ht];omega,fun k' hk'=>?_⟩;simp only[yh,ht];rw[key _ _ hk'];split
   ·exact h5
   ·exact h4 k' (by omega)
  |none=>
   refine⟨by simp[yh,ht,h1],by simp only[yh,ht];omega,by simp only[yh,ht];omega,fun k' hk'=>?_⟩;simp only[yh,ht];rw[key _ _ hk'];split
   ·omega
   ·have:=h4 k' (by omega);omega
def zag(a b:List V):List V:=I (yh (uL b) a.length).1
theorem zgQ:yI Tryz.prog 67 (zg5 zag Ju):=by
 intro args ps r h hp;unfold zg5 at h;split at h
 ·rename_i a0 a1;cases h;obtain⟨⟨⟨bs,hbs,hb1,hb2⟩,⟨ms,hms,hm1,hm2⟩⟩,hcv⟩:=(zm.1 hp).1;rw[hbs,hms,yo,yd]at hcv;have g1:V.frzs a0=a0:=by rw[hbs,qH]
  have g2:V.frzs a1=a1:=by rw[hms,qy]
  have hbl:a0.length=bs.length:=by rw[hbs,yz]
  have hml:a1.length=ms.length:=by rw[hms,ye]
  have gb:∀k,a0.getD k (.agg [.slc false 2 (.int .i64 0) []])=.agg [.slc false 2 (.int .i64 0) (I (bs.getD k []))]:=fun k=>by rw[hbs,ku]
  have gm:∀k,a1.getD k (.slc false 2 (.int .i64 0) [])=.slc false 2 (.int .i64 0) (I (ms.getD k [])):=fun k=>by rw[hms,qo]
  have hm0:∀x y:Nat,(ms.getD x []).getD y 0=mm ms x y:=fun _ _=>rfl;obtain⟨n,hn⟩:∃n:Int,n=bs.length:=⟨_,rfl⟩;have n1:=hcv.n1;have n6:=hcv.n6;have hmn:ms.length=bs.length:=hcv.tab.len;have hbr:∀i,i<bs.length->Br (bs.getD i []):=fun i hi=>jz (hcv.br i hi);have rl:∀k,k<bs.length->(ms.getD k []).length=bs.length:=fun k hk=>(hcv.tab.row k hk).1;have mmr:∀i k,i<bs.length->k<bs.length->0<=mm ms i k/\mm ms i k<=200:=fun i k hi hk=>hcv.tab.range hi hk;have mmo:∀i k,i<bs.length->k<bs.length->i≠k->1<=mm ms i k/\mm ms i k<=200:=fun i k hi hk hne=>((hcv.tab.row i hi).2 k hk).2 hne;have hf0:zag a0 a1=I (yh ms bs.length).1:=by rw[zag,hbl,hms,yd]
  refine zC (T:=tab) (B:=[]) (Bi:=[]) [0,1,2,3,4,5,6,7,11,12,16,17] Tryz.func67 rfl rfl (by kernel_rfl) (ze rfl) mixed zP (by exact zA) (by exact zx) (by kernel_rfl) ?_;intro L lp rr hL hr hf hlp
  conv=>cbv
  refine hlp (List V×Int×Int) _ _ _ [1,3,4,11,12] (fun x=>[(1,none,.val (.box 27 (.agg [.slc false 57 (.agg [.slc false 2 (.int .i64 0) []]) a0,.slc false 29 (.slc false 2 (.int .i64 0) []) a1]))),(3,none,.val (.slc true 2 (.int .i64 0) x.1)),(4,none,.val (.int .i64 x.2.1)),(11,none,.val (.int .i64 n)),(12,none,.val (.int .i64 x.2.2))])
   (fun x=>0<=x.2.2/\x.2.2<=n/\x.1=I (yh ms x.2.2.toNat).1/\x.2.1=(yh ms x.2.2.toNat).2) (fun x=>(n-x.2.2).toNat) (([],0,0)) (by subst hL;rw[hn,<-hbl];rfl) ?_ ?_
  ·exact⟨by simp,by simp only;omega,rfl,rfl⟩
  rintro⟨es,nx,i⟩ ⟨i0,i1,hI,hN⟩ hfx ag hag;simp only at i0 i1 hI hN
  conv=>cbv
  simp only[zo hL,sQ,];refine⟨fun h2=>?_,fun h2=>?_⟩
  ·have hri:=rl i.toNat (by omega)
   obtain⟨t1,t2,t3,t4⟩:=ul ms i.toNat
   have hel:es.length=i.toNat:=(by rw[hI,zj,t1]);have ge:∀k,es.getD k (.int .i64 0)=.int .i64 ((yh ms i.toNat).1.getD k 0):=fun k=>(by rw[hI,zO]);rw[<-hN]at t2 t3 t4
   have fin:∀v nx',yh ms (i.toNat+1)=((yh ms i.toNat).1++[v],nx')->ag [(1,none,.val (.box 27 (.agg [.slc false 57 (.agg [.slc false 2 (.int .i64 0) []]) a0,.slc false 29 (.slc false 2 (.int .i64 0) []) a1]))),(3,none,.val (.slc true 2 (.int .i64 0) (es++[V.int .i64 v]))),(4,none,.val (.int .i64 nx')),(11,none,.val (.int .i64 n)),(12,none,.val (.int .i64 (i+1)))]:=fun v nx' he=>
    hag (_,nx',i+1) ⟨by simp only;omega,by simp only;omega,by simp only[zL i0];rw[he,hI,<-jb];rfl,by simp only[zL i0];rw[he]⟩ (by simp only;omega)
   refine hlp (Int) _ _ _ [1,3,4,5,6,11,12,16,17] (fun x=>[(1,none,.val (.box 27 (.agg [.slc false 57 (.agg [.slc false 2 (.int .i64 0) []]) a0,.slc false 29 (.slc false 2 (.int .i64 0) []) a1]))),(3,none,.val (.slc true 2 (.int .i64 0) es)),(4,none,.val (.int .i64 nx)),(5,none,.val (.int .i64 i)),(6,none,.val (.int .i64 nx)),(11,none,.val (.int .i64 n)),(12,none,.val (.int .i64 i)),(16,none,.val (.int .i64 i)),(17,none,.val (.int .i64 x))])
    (fun x=>0<=x/\x<=i/\∀t:Nat,t<x.toNat->¬2<=mm ms i.toNat t) (fun x=>(i-x).toNat) (0) (by subst hL;rfl) ?_ ?_
   ·exact⟨by omega,by omega,fun t ht=>by simp at ht⟩
   rintro k ⟨k0,k1,hK⟩ hfx2 ag2 hag2
   conv=>cbv
   simp only[zo hL,sQ,gm,hml,hm0,hri,ge,hel];refine⟨fun h3=>⟨i0,by omega,k0,by omega,fun h4=>⟨k0,by omega,by omega,fun h5=>?_,fun h5=>?_⟩,fun h4=>?_⟩,fun h3=>⟨fun _=>?_,fun h=>absurd trivial h⟩⟩
   ·have:=t4 k.toNat (by omega);omega
   ·have hs:tk ms i.toNat=some k.toNat:=zvy (by omega) hK h4;rw[zk (n:=i+1) (by omega) (by omega)]
    (repeat' first|(exact yr _)|(exact je rfl)|(exact yV _)|(apply And.intro)|(intro _))<;>(try first|exact True.intro|omega|rfl|(simp only[zi,zq,zj];omega))
    refine fin _ _ ?_;simp only[yh,hs,hN]
   ·rw[zk (n:=k+1) (by omega) (by omega)];refine hag2 (k+1) ⟨by omega,by omega,fun t ht=>?_⟩ (by omega)
    by_cases htk:t=k.toNat
    ·rw[htk];exact h4
    ·exact hK t (by omega)
   ·have hs:tk ms i.toNat=none:=zvz (fun t ht=>hK t (by omega));rw[zk (n:=i+1) (by omega) (by omega),zk (n:=nx+1) (by omega) (by omega)]
    (repeat' first|(exact yr _)|(exact je rfl)|(exact yV _)|(apply And.intro)|(intro _))<;>(try first|exact True.intro|omega|rfl|(simp only[zi,zq,zj];omega))
    refine fin _ _ ?_;simp only[yh,hs,hN]
  ·rw[hr,hf0,hI,show i.toNat=bs.length by omega]
 ·cases h
def Own(ms:List (List Int))(L:List Int)(i:Nat)(own:Int)(k:Nat):Prop:=(own= -1/\∀t,t<k->¬2<=mm ms i t)\/∃c,tk ms i=some c/\own=L.getD c 0
theorem zev:yI Tryz.prog 68 (zg5 zag Ju):=by
 intro args ps r h hp;unfold zg5 at h;split at h
 ·rename_i a0 a1;cases h;obtain⟨⟨⟨bs,hbs,hb1,hb2⟩,⟨ms,hms,hm1,hm2⟩⟩,hcv⟩:=(zm.1 hp).1;rw[hbs,hms,yo,yd]at hcv;have g1:V.frzs a0=a0:=by rw[hbs,qH]
  have g2:V.frzs a1=a1:=by rw[hms,qy]
  have hbl:a0.length=bs.length:=by rw[hbs,yz]
  have hml:a1.length=ms.length:=by rw[hms,ye]
  have gb:∀k,a0.getD k (.agg [.slc false 2 (.int .i64 0) []])=.agg [.slc false 2 (.int .i64 0) (I (bs.getD k []))]:=fun k=>by rw[hbs,ku]
  have gm:∀k,a1.getD k (.slc false 2 (.int .i64 0) [])=.slc false 2 (.int .i64 0) (I (ms.getD k [])):=fun k=>by rw[hms,qo]
  have hm0:∀x y:Nat,(ms.getD x []).getD y 0=mm ms x y:=fun _ _=>rfl;obtain⟨n,hn⟩:∃n:Int,n=bs.length:=⟨_,rfl⟩;have n1:=hcv.n1;have n6:=hcv.n6;have hmn:ms.length=bs.length:=hcv.tab.len;have hbr:∀i,i<bs.length->Br (bs.getD i []):=fun i hi=>jz (hcv.br i hi);have rl:∀k,k<bs.length->(ms.getD k []).length=bs.length:=fun k hk=>(hcv.tab.row k hk).1;have mmr:∀i k,i<bs.length->k<bs.length->0<=mm ms i k/\mm ms i k<=200:=fun i k hi hk=>hcv.tab.range hi hk;have mmo:∀i k,i<bs.length->k<bs.length->i≠k->1<=mm ms i k/\mm ms i k<=200:=fun i k hi hk hne=>((hcv.tab.row i hi).2 k hk).2 hne;have hf0:zag a0 a1=I (yh ms bs.length).1:=by rw[zag,hbl,hms,yd]
  refine zC (T:=tab) (B:=[]) (Bi:=[]) [0,1,2,3,4,5,6,7] Tryz.func68 rfl rfl (by kernel_rfl) (ze rfl) mixed zP (by exact zA) (by exact zx) (by kernel_rfl) ?_;intro L lp rr hL hr hf hlp
  conv=>cbv
  refine hlp (List V×Int×Int) _ _ _ [1,3,4,5] (fun x=>[(1,none,.val (.box 27 (.agg [.slc false 57 (.agg [.slc false 2 (.int .i64 0) []]) a0,.slc false 29 (.slc false 2 (.int .i64 0) []) a1]))),(3,none,.val (.slc true 2 (.int .i64 0) x.1)),(4,none,.val (.int .i64 x.2.1)),(5,none,.val (.int .i64 x.2.2))])
   (fun x=>0<=x.2.2/\x.2.2<=n/\x.1=I (yh ms x.2.2.toNat).1/\x.2.1=(yh ms x.2.2.toNat).2) (fun x=>(n-x.2.2).toNat) (([],0,0)) (by subst hL;rfl) ?_ ?_
  ·exact⟨by simp,by simp only;omega,rfl,rfl⟩
  rintro⟨es,nx,i⟩ ⟨i0,i1,hI,hN⟩ hfx ag hag;simp only at i0 i1 hI hN
  conv=>cbv
  simp only[zo hL,sQ,hbl,<-hn];refine⟨fun h2=>?_,fun h2=>?_⟩
  ·have hri:=rl i.toNat (by omega)
   obtain⟨t1,t2,t3,t4⟩:=ul ms i.toNat
   have hel:es.length=i.toNat:=(by rw[hI,zj,t1]);have ge:∀k,es.getD k (.int .i64 0)=.int .i64 ((yh ms i.toNat).1.getD k 0):=fun k=>(by rw[hI,zO]);rw[<-hN]at t2 t3 t4
   have fin:∀v nx',yh ms (i.toNat+1)=((yh ms i.toNat).1++[v],nx')->ag [(1,none,.val (.box 27 (.agg [.slc false 57 (.agg [.slc false 2 (.int .i64 0) []]) a0,.slc false 29 (.slc false 2 (.int .i64 0) []) a1]))),(3,none,.val (.slc true 2 (.int .i64 0) (es++[V.int .i64 v]))),(4,none,.val (.int .i64 nx')),(5,none,.val (.int .i64 (i+1)))]:=fun v nx' he=>
    hag (_,nx',i+1) ⟨by simp only;omega,by simp only;omega,by simp only[zL i0];rw[he,hI,<-jb];rfl,by simp only[zL i0];rw[he]⟩ (by simp only;omega)
   refine hlp (Int×Int) _ _ _ [1,3,4,5,6,7] (fun x=>[(1,none,.val (.box 27 (.agg [.slc false 57 (.agg [.slc false 2 (.int .i64 0) []]) a0,.slc false 29 (.slc false 2 (.int .i64 0) []) a1]))),(3,none,.val (.slc true 2 (.int .i64 0) es)),(4,none,.val (.int .i64 nx)),(5,none,.val (.int .i64 i)),(6,none,.val (.int .i64 x.1)),(7,none,.val (.int .i64 x.2))])
    (fun x=>0<=x.2/\x.2<=i/\Own ms (yh ms i.toNat).1 i.toNat x.1 x.2.toNat) (fun x=>(i-x.2).toNat) ((-1,0)) (by subst hL;rfl) ?_ ?_
   ·exact⟨by simp,by simp only;omega,.inl ⟨rfl,fun t ht=>by simp at ht⟩⟩
   rintro⟨own,k⟩ ⟨k0,k1,hK⟩ hfx2 ag2 hag2;simp only at k0 k1 hK
   conv=>cbv
   simp only[zo hL,sQ,gm,hml,hm0,hri,ge,hel];refine⟨fun h3=>⟨i0,by omega,k0,by omega,fun h4=>?_,fun h4=>?_⟩,fun h3=>⟨fun h4=>?_,fun h4=>?_⟩⟩
   ·have hno:own= -1/\∀t,t<k.toNat->¬2<=mm ms i.toNat t:=by
     rcases hK with h|⟨c,hc,ho⟩
     ·exact h
     ·have:=t4 c (zk5 hc);omega
    rw[zk (n:=k+1) (by omega) (by omega)]
    (repeat' first|(exact yr _)|(exact je rfl)|(exact yV _)|(apply And.intro)|(intro _))<;>(try first|exact True.intro|omega|rfl|(simp only[zi,zq,zj];omega))
    refine hag2 (_,k+1) ⟨by simp only;omega,by simp only;omega,.inr ⟨k.toNat,zvy (by omega) hno.2 h4,rfl⟩⟩ (by simp only;omega)
   ·have hno:own= -1/\∀t,t<k.toNat->¬2<=mm ms i.toNat t:=by
     rcases hK with h|⟨c,hc,ho⟩
     ·exact h
     ·have:=t4 c (zk5 hc);omega
    rw[zk (n:=k+1) (by omega) (by omega)];refine hag2 (own,k+1) ⟨by simp only;omega,by simp only;omega,.inl ⟨hno.1,fun t ht=>?_⟩⟩ (by simp only;omega);simp only at ht
    by_cases htk:t=k.toNat
    ·rw[htk];exact h4
    ·exact hno.2 t (by omega)
   ·have hs:tk ms i.toNat=none:=by
     rcases hK with h|⟨c,hc,ho⟩
     ·exact zvz (fun t ht=>h.2 t (by omega))
     ·have:=t4 c (zk5 hc);omega
    rw[zk (n:=i+1) (by omega) (by omega),zk (n:=nx+1) (by omega) (by omega)]
    (repeat' first|(exact yr _)|(exact je rfl)|(exact yV _)|(apply And.intro)|(intro _))<;>(try first|exact True.intro|omega|rfl|(simp only[zi,zq,zj];omega))
    refine fin _ _ ?_;simp only[yh,hs,hN]
   ·obtain⟨c,hc,ho⟩:∃c,tk ms i.toNat=some c/\own=(yh ms i.toNat).1.getD c 0:=by
     rcases hK with h|h
     ·omega
     ·exact h
    rw[zk (n:=i+1) (by omega) (by omega)]
    (repeat' first|(exact yr _)|(exact je rfl)|(exact yV _)|(apply And.intro)|(intro _))<;>(try first|exact True.intro|omega|rfl|(simp only[zi,zq,zj];omega))
    refine fin _ _ ?_;simp only[yh,hc,hN,ho]
  ·rw[hr,hf0,hI,show i.toNat=bs.length by omega]
 ·cases h
noncomputable def zhz(a b:List V):List V×Int:=bif qu a b then(zag a b,0)else([],1)
theorem zlU:yI Tryz.prog 30 (zin zhz Zs):=by
 intro args ps r h hp;unfold zin at h;split at h
 ·rename_i a0 a1;cases h;have hq:Zs a0 a1:=(zm.1 hp).1;have g1:=Kd hq.1.isBB;have g2:=Kc hq.2.isII;generalize yU:qu=ko;generalize jG:Zs=uD;generalize ZW:zag=zbg;generalize jv:Ju=Ys;refine zC (T:=tab) (B:=[(15,zak ko uD),(67,zg5 zbg Ys)]) (Bi:=[]) [0,1,2,3] Tryz.func30 rfl rfl (by kernel_rfl) (ze rfl) mixed zP (by subst yU jG ZW jv;exact(zn YT (zn zgQ zA))) (by subst yU jG ZW jv;exact zx) (by kernel_rfl) ?_;intro L lp rr hL hr hf hlp
  conv=>cbv
  simp only[zo hL,sQ,g1,g2];subst yU jG ZW jv;refine⟨hq,fun h=>?_,fun h=>⟨JX hq h,?_⟩⟩
  ·rw[hr,zhz,h];rfl
  ·rw[hr,zhz,h];rfl
 ·cases h
theorem zlP:yI Tryz.prog 31 (zin zhz Zs):=by
 intro args ps r h hp;unfold zin at h;split at h
 ·rename_i a0 a1;cases h;have hq:Zs a0 a1:=(zm.1 hp).1;have g1:=Kd hq.1.isBB;have g2:=Kc hq.2.isII;generalize yU:qu=ko;generalize jG:Zs=uD;generalize ZW:zag=zbg;generalize jv:Ju=Ys;refine zC (T:=tab) (B:=[(44,zak ko uD),(68,zg5 zbg Ys)]) (Bi:=[]) [0,1,2,3] Tryz.func31 rfl rfl (by kernel_rfl) (ze rfl) mixed zP (by subst yU jG ZW jv;exact(zn zcO (zn zev zA))) (by subst yU jG ZW jv;exact zx) (by kernel_rfl) ?_;intro L lp rr hL hr hf hlp
  conv=>cbv
  simp only[zo hL,sQ,g1,g2];subst yU jG ZW jv;refine⟨hq,fun h=>?_,fun h=>⟨JX hq h,?_⟩⟩
  ·rw[hr,zhz,h];rfl
  ·rw[hr,zhz,h];rfl
 ·cases h
def YS:Nat->Nat->List Nat->Prop
 |_,e,[]=>e=1
 |p,e,t::l=>p<t/\t<=2000/\Nat.gcd e t≠e/\YS t (Nat.gcd e t) l
def jD:Nat->Nat->List Nat->List Nat
 |_,_,[]=>[]
 |p,e,t::l=>ex (t-p) e++jD t (Nat.gcd e t) l
theorem YS.weak{p p' e:Nat}{l:List Nat}(h:YS p e l)(hp:p'<=p):YS p' e l:=by
 cases l with
 |nil=>exact h
 |cons t l=>exact⟨by have:=h.1;omega,h.2⟩
theorem zcr{e t s:Nat}(he:e ∣ s)(hs:s<=t):Nat.gcd e (t-s)=Nat.gcd e t:=by
 obtain⟨k,rfl⟩:=he;have h:t=(t-e*k)+k*e:=by rw[Nat.mul_comm k e];omega
 conv=>rhs;rw[h]
 rw[Nat.gcd_add_mul_right_right]
theorem YS.shift:∀(l:List Nat) {p e s:Nat},e ∣ s->s<=p->YS p e l->YS (p-s) e (l.map (·-s))/\jD (p-s) e (l.map (·-s))=jD p e l
 |[],p,e,s,_,_,h=>⟨h,rfl⟩
 |t::l,p,e,s,he,hs,h=>by
  obtain⟨h1,h2,h3,h4⟩:=h;have hg:=zcr (t:=t) he (by omega);obtain⟨i1,i2⟩:=YS.shift l (s:=s) (Nat.dvd_trans (jY e t) he) (by omega) h4;have c1:p-s<t-s:=by omega
  have c2:t-s<=2000:=by omega
  refine⟨⟨c1,c2,by rw[hg];exact h3,by rw[hg];exact i1⟩,?_⟩;simp only[List.map_cons,jD];rw[hg,i2,show t-s-(p-s)=t-p by omega]
def zzO(n:Nat):List Nat->List Nat
 |[]=>[1]
 |t::l=>if 2*n<=t then n::(t-n)::l.map (·-n)else if n%(t-n)=0 then(t-n)::l.map (·-(t-n))else(t-n)::n::l.map (·-(t-n))
structure BrN (n:Nat) (l:List Nat):Prop where
 lo:1<=n
 hi:n<=64
 val:YS n n l
theorem zCU{n:Nat}{l:List Nat}(h:BrN n l):∃n' l',zzO n l=n'::l'/\BrN n' l'/\∃m,(if l=[]then[1]else(jD 0 n l++[1]).drop 1)=jD 0 n' l'++List.replicate m 1:=by
 cases l with
 |nil=>exact⟨1,[],rfl,⟨by omega,by omega,rfl⟩,1,rfl⟩
 |cons t l=>
  obtain⟨h1,h2,h3,h4,h5⟩:1<=n/\n<=64/\n<t/\t<=2000/\(Nat.gcd n t≠n/\YS t (Nat.gcd n t) l):=⟨h.lo,h.hi,h.val.1,h.val.2.1,h.val.2.2⟩;obtain⟨h5,h6⟩:=h5;have hgn:=jY n t;have hgt:=uO n t;rw[if_neg (by simp),zzO];by_cases hc:2*n<=t
  ·rw[if_pos hc]
   have hne:t≠2*n:=by
    rintro rfl;exact h5 (zdl (Nat.dvd_mul_left n 2))
   have hg:=zcr (e:=n) (t:=t) (s:=n) (Kg n) (by omega);obtain⟨i1,i2⟩:=YS.shift l hgn (by omega) h6;refine⟨n,_,rfl,⟨h1,h2,by omega,by omega,by rw[hg];exact h5,by rw[hg];exact i1⟩,1,?_⟩;simp only[jD,kz];rw[hg,i2]
   have e1:ex t n=n::ex (t-n) n:=by
    have h7:t/n=(t-n)/n+1:=by
     conv=>lhs;rw[show t=t-n+n by omega]
     rw[Nat.add_div_right _ (by omega)]
    have h8:t%n=(t-n)%n:=by
     conv=>lhs;rw[show t=t-n+n by omega]
     rw[Nat.add_mod_right]
    rw[kg (by omega),kg (show 0<n by omega),h7,h8,yw,yb]
   rw[e1];rfl
  ·rw[if_neg hc];obtain⟨r,hr⟩:∃r,r=t-n:=⟨_,rfl⟩;rw[<-hr];have hr1:1<=r:=by omega
   have hrn:r<n:=by
    rcases Nat.lt_or_ge r n with h7|h7
    ·exact h7
    ·omega
   have htn:t/n=1:=by
    rw[show t=n*1+r by omega,Nat.mul_add_div (by omega),Nat.div_eq_of_lt hrn]
   have htm:t%n=r:=by
    rw[show t=n*1+r by omega,Nat.mul_add_mod,Nat.mod_eq_of_lt hrn]
   have hgr:Nat.gcd n t=Nat.gcd r n:=by
    rw[Nat.gcd_comm r n,hr,zcr (Kg n) (by omega)]
   have hgd:Nat.gcd n t ∣ r:=(by rw[hgr];exact jY r n);obtain⟨i1,i2⟩:=YS.shift l hgd (by omega) h6;rw[show t-r=n by omega]at i1 i2
   have e1:ex t n=n::ex n r:=by
    rw[kg (by omega),htn,htm];rfl
   by_cases hd:n%r=0
   ·rw[if_pos hd];have hgr2:Nat.gcd n t=r:=(by rw[hgr];exact zdl (JE hd));rw[hgr2]at i1 i2 h6
    have e2:ex n r=List.replicate (n/r) r:=by
     rw[kg (by omega),hd,zbe,List.append_nil]
    refine⟨r,_,rfl,⟨hr1,by omega,i1.weak (by omega)⟩,?_⟩;simp only[jD,kz];rw[e1,e2,hgr2]
    cases l with
    |nil=>
     have h7:r=1:=h6;subst h7;exact⟨n+1,by simp[jD,List.replicate_succ']⟩
    |cons u l=>
     refine⟨1,?_⟩;have hu:=h6.1;have hg:=zcr (e:=r) (t:=u) (s:=r) (Kg r) (by omega);have i3:jD (u-r) (Nat.gcd r u) (l.map (·-r))=jD u (Nat.gcd r u) l:=(YS.shift l (jY r u) (by omega) h6.2.2.2).2;simp only[List.map_cons,jD,kz];rw[hg,i3]
     have e3:ex (u-r) r=List.replicate (n/r) r++ex (u-t) r:=by
      obtain⟨c,hc⟩:=JE hd;have h7:u-r=(u-t)+r*c:=(by omega);rw[kg (by omega),kg (show 0<r by omega) (a:=u-t),h7,Nat.add_mul_div_left _ _ (by omega),Nat.add_mul_mod_self_left,hc,Nat.mul_div_cancel_left _ (by omega),Nat.add_comm,<-List.replicate_append_replicate,zU]
     rw[e3];simp
   ·rw[if_neg hd];refine⟨r,_,rfl,⟨hr1,by omega,hrn,by omega,?_,?_⟩,1,?_⟩
    ·intro h7;exact hd (Nat.mod_eq_zero_of_dvd (by rw[<-h7];exact uO r n))
    ·rw[<-hgr];exact i1
    ·simp only[jD,kz];rw[<-hgr,i2,e1];rfl
theorem zia{k e:Nat}(he:0<e)(hd:¬e ∣ k):∃x,ex k e=List.replicate (k/e) e++(k%e)::x/\0<k%e/\k%e<e:=by
 have h1:0<k%e:=Nat.pos_of_ne_zero fun h=>hd (JE h);have h2:k%e<e:=Nat.mod_lt _ he;have h3:0<e/(k%e):=Nat.div_pos (by omega) h1;refine⟨List.replicate (e/(k%e)-1) (k%e)++ex (k%e) (e%(k%e)),?_,h1,h2⟩;rw[kg he,kg h1]
 conv=>lhs;rw[show e/(k%e)=(e/(k%e)-1)+1 by omega]
 rw[yw,yb]
theorem ziR{p e t:Nat}(hp:e ∣ p)(h:p<t)(hg:Nat.gcd e t≠e):¬e ∣ (t-p):=fun h2=>by
 refine hg (zdl ?_);have:=Nat.dvd_add h2 hp
 rwa [show t-p+p=t by omega]at this
def za7(e:Nat):List Nat->Nat
 |[]=>0
 |x::l=>if x=e then za7 e l+1 else 0
theorem ztj{e r:Nat}(h:r≠e)(x:List Nat):∀q,za7 e (List.replicate q e++r::x)=q
 |0=>by simp[za7,h]
 |q+1=>by rw[yw,yb,za7,if_pos rfl,ztj h x q]
def zsY:Nat->Nat->Nat->List Nat->List Nat
 |0,_,_,_=>[]
 |k+1,p,e,L=>if e<=1 then[]else
   (p+(za7 e L*e+L.getD (za7 e L) 0))::zsY k (p+(za7 e L*e+L.getD (za7 e L) 0)) (Nat.gcd e (p+(za7 e L*e+L.getD (za7 e L) 0))) (L.drop (ex (za7 e L*e+L.getD (za7 e L) 0) e).length)
theorem zyI:∀(l:List Nat) (p e:Nat),0<e->e ∣ p->YS p e l->∀(m k:Nat),l.length<k->zsY k p e (jD p e l++List.replicate m 1)=l
 |[],p,e,_,_,h,m,0,hk=>by simp at hk
 |[],p,e,_,_,h,m,k+1,_=>by
  have h1:e=1:=h;rw[zsY,if_pos (by omega)]
 |t::l,p,e,he,hp,h,m,0,hk=>by simp at hk
 |t::l,p,e,he,hp,h,m,k+1,hk=>by
  obtain⟨h1,h2,h3,h4⟩:=h
  have he2:¬e<=1:=fun h5=>h3 (by
   have:e=1:=(by omega);subst this
   exact Nat.gcd_one_left t)
  obtain⟨x,hx,hr0,hr1⟩:=zia he (ziR hp h1 h3);obtain⟨X,hX⟩:∃X,X=jD t (Nat.gcd e t) l++List.replicate m 1:=⟨_,rfl⟩;have hL:jD p e (t::l)++List.replicate m 1=ex (t-p) e++X:=by rw[jD,zU,hX]
  have hL2:ex (t-p) e++X=List.replicate ((t-p)/e) e++((t-p)%e)::(x++X):=by rw[hx];simp
  have hq:za7 e (ex (t-p) e++X)=(t-p)/e:=by rw[hL2,ztj (by omega)]
  have hg:(ex (t-p) e++X).getD ((t-p)/e) 0=(t-p)%e:=by
   rw[hL2,zd,zR (by rw[zE];exact Nat.le_refl _),zE,Nat.sub_self];rfl
  have hk2:(t-p)/e*e+(t-p)%e=t-p:=by rw[Nat.mul_comm];exact Nat.div_add_mod _ _
  rw[hL,zsY,if_neg he2,hq,hg,hk2,show p+(t-p)=t by omega,List.drop_left,hX,
   zyI l t (Nat.gcd e t) (Nat.gcd_pos_of_pos_left t he) (uO e t) h4 m k (by simpa using hk)]
def yc(l:List Nat):List Int:=l.map fun x:Nat=>(x:Int)
def zb6(l:List Int):List Nat:=l.map Int.toNat
theorem KT(l:List Nat):zb6 (yc l)=l:=by
 rw[zb6,yc,List.map_map]
 conv=>rhs;rw[<-List.map_id l]
 rfl
theorem qO(l:List Nat):(yc l).length=l.length:=by simp[yc]
theorem YO(a b:List Nat):yc (a++b)=yc a++yc b:=by simp[yc]
theorem YN(l:List Nat)(i d:Nat):(yc l).getD i (d:Int)=((l.getD i d:Nat):Int):=by
 simp only[yc,zd,List.getElem?_map];cases l[i]? <;>rfl
def zhE(n:Nat)(l:List Nat)(L:List Int):Prop:=BrN n l/\L≠[]/\∃m,L=yc (jD 0 n l++List.replicate m 1)
def zkF(L:List Int):List Int:=yc ((zb6 L).getD 0 0::zsY 3000 0 ((zb6 L).getD 0 0) (zb6 L))
theorem zk4:∀(l:List Nat) (p e:Nat),YS p e l->p<=2000->l.length+p<=2000
 |[],p,e,_,hp=>by simpa using hp
 |t::l,p,e,h,_=>by
  have:=zk4 l t _ h.2.2.2 h.2.1;have:=h.1;simp only[zi];omega
theorem zdS{n:Nat}{l:List Nat}{L:List Int}(h:zhE n l L):zkF L=yc (n::l):=by
 obtain⟨hb,hne,m,rfl⟩:=h;have hlo:=hb.lo;have hhi:=hb.hi
 have h0:(jD 0 n l++List.replicate m 1).getD 0 0=n:=by
  cases l with
  |nil=>
   have h1:n=1:=hb.val;subst h1
   cases m with
   |zero=>simp[jD,yc]at hne
   |succ m=>rfl
  |cons t l=>
   have h1:=hb.val.1;have h2:0<t/n:=Nat.div_pos (by omega) (by omega);rw[jD,kg (by omega),kz,show t/n=(t/n-1)+1 by omega,yw];rfl
 rw[zkF,KT,h0,zyI l 0 n (by omega) ⟨0,rfl⟩ (hb.val.weak (by omega)) m 3000 (by have:=zk4 l n n hb.val (by omega);omega)]
end Go.Ax
