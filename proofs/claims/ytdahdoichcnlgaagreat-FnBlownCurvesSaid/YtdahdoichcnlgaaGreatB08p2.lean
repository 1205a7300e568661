import Derived.Test.YtdahdoichcnlgaaGreatB04p2
import Derived.Test.YtdahdoichcnlgaaGreatB07p2
import Derived.Test.YtdahdoichcnlgaaGreatB03p2
import Derived.Test.YtdahdoichcnlgaaGreatB01p2
import Derived.Test.YtdahdoichcnlgaaGreatB06p2
import Derived.Test.YtdahdoichcnlgaaGreatB05p2
set_option linter.all false
set_option maxRecDepth 100000
set_option maxHeartbeats 4000000
open Int renaming le_refl->qJ,toNat_natCast->zV
open List renaming append_assoc->zU,find?_range_eq_some->jZ,getD_eq_getElem?_getD->zd,getElem?_append_left->zQ,getElem?_append_right->zR,getElem?_eq_getElem->zg,getElem_mem->yN,length_append->zp,length_cons->zi,length_nil->zq,length_replicate->zE,length_set->yG,length_singleton->yj,mem_iff_getElem->yM,mem_singleton->yF,replicate_succ'->qM,take_of_length_le->zy
open Nat renaming le_of_ble_eq_true->ze,le_refl->zt,lt_or_gt_of_ne->jO
open Option.some renaming injEq->za
open Prod.mk renaming injEq->zb
/-
 Delta invariants of what need not be curves in all;the parts of blown up curves. No conditions but those of the contracts.
-/
namespace Go.Ax
open Go.Proofs
structure CvW (bs ms:List (List Int)):Prop where
 n6:bs.length<=6
 len:ms.length=bs.length
 br:∀i,i<bs.length->Br (bs.getD i [])
 rl:∀k,k<bs.length->(ms.getD k []).length=bs.length
 ent:∀i k,i<bs.length->k<bs.length->i≠k->1<=mm ms i k/\mm ms i k<=200
theorem CvP.weak{bs ms:List (List Int)}(h:CvP bs ms):CvW bs ms:=
 ⟨h.n6,h.tab.len,fun i hi=>jz (h.br i hi),fun k hk=>(h.tab.row k hk).1,fun i k hi hk hne=>((h.tab.row i hi).2 k hk).2 hne⟩
def ziJ(a b:List V):Prop:=Zs a b/\CvW (kv a) (uL b)
def zxs(a b:List V)(i k:Int):Prop:=ziJ a b/\0<=i/\i<a.length/\0<=k/\k<a.length/\i≠k
theorem zsV(L:List Int)(x:Int):∀n k,k<(qm L x n).length->L.getD ((qm L x n).getD k 0).toNat 0=x
 |0,k,hk=>by simp[qm]at hk
 |n+1,k,hk=>by
  have ih:=zsV L x n k;rw[qm]at hk ⊢;split
  ·rename_i hx;rw[if_pos hx,zp,yj]at hk;by_cases hkn:k<(qm L x n).length
   ·rw[zd (l:=qm L x n++_),zQ hkn,<-zd];exact ih hkn
   ·rw[zd (l:=qm L x n++_),zR (by omega),show k-(qm L x n).length=0 by omega];simpa using hx
  ·rename_i hx;rw[if_neg hx]at hk;exact ih hk
theorem zpC(L:List Int)(x:Int):∀n i k,i<k->k<(qm L x n).length->(qm L x n).getD i 0<(qm L x n).getD k 0
 |0,i,k,_,hk=>by simp[qm]at hk
 |n+1,i,k,hik,hk=>by
  have ih:=zpC L x n i k hik;have hin:=(zbu L x n).1;rw[qm]at hk ⊢;split
  ·rename_i hx;rw[if_pos hx,zp,yj]at hk
   have hi:(qm L x n++[(n:Int)]).getD i 0=(qm L x n).getD i 0:=by
    rw[zd,zQ (by omega),<-zd]
   rw[hi];by_cases hkn:k<(qm L x n).length
   ·rw[zd (l:=qm L x n++_),zQ hkn,<-zd];exact ih hkn
   ·rw[zd (l:=qm L x n++_),zR (by omega),show k-(qm L x n).length=0 by omega];have:=hin i (by omega);simp only[List.getElem?_cons_zero,Option.getD_some];omega
  ·rename_i hx;rw[if_neg hx]at hk;exact ih hk
theorem Yz(ms:List (List Int)):∀(n i:Nat),i<=n->∀k,k<i->(yh ms n).1.getD k 0=(yh ms i).1.getD k 0
 |0,i,h,k,hk=>by omega
 |n+1,i,h,k,hk=>by
  by_cases hi:i=n+1
  ·rw[hi]
  ·have ih:=Yz ms n i (by omega) k hk;have hl:=(ul ms n).1;rw[<-ih]
   cases ht:tk ms n with
   |some c=>
    simp only[yh,ht,zd];rw[zQ (by omega)]
   |none=>
    simp only[yh,ht,zd];rw[zQ (by omega)]
theorem zqP(ms:List (List Int))(i:Nat):(yh ms (i+1)).1.getD i 0=match tk ms i with
 |some c=>(yh ms i).1.getD c 0
 |none=>(yh ms i).2:=by
 have hl:=(ul ms i).1
 cases ht:tk ms i with
 |some c=>
  simp only[yh,ht,zd];rw[zR (by omega),show i-(yh ms i).1.length=0 by omega];rfl
 |none=>
  simp only[yh,ht,zd];rw[zR (by omega),show i-(yh ms i).1.length=0 by omega];rfl
theorem zvA{bs ms:List (List Int)}(h:CvP bs ms):∀(i k:Nat),k<i->i<bs.length->(yh ms (i+1)).1.getD i 0=(yh ms (i+1)).1.getD k 0->2<=mm ms i k:=by
 intro i
 induction i using Nat.strongRecOn with
 |ind i ih=>
 intro k hk hi he;rw[zqP,Yz ms (i+1) i (by omega) k hk]at he
 have hsym:∀x y,x<bs.length->y<bs.length->mm ms x y=mm ms y x:=fun x y hx hy=>by
  by_cases hxy:x=y
  ·rw[hxy]
  ·exact((h.tab.sym y hy) x hx)
 cases ht:tk ms i with
 |none=>
  rw[ht]at he;simp only at he;have:=(ul ms i).2.2.2 k hk;omega
 |some c=>
  rw[ht]at he;simp only at he;have hc:=zk5 ht
  have h2:2<=mm ms i c:=by
   rw[tk,jZ]at ht;simpa using ht.1
  by_cases hck:c=k
  ·rw[<-hck];exact h2
  have h3:2<=mm ms c k:=by
   rcases jO hck with hlt|hlt
   ·have:=ih k hk c hlt (by omega) (by rw[<-Yz ms i (k+1) (by omega) k (by omega),<-Yz ms i (k+1) (by omega) c (by omega)];exact he.symm);rw[hsym c k (by omega) (by omega)];exact this
   ·exact ih c hc k hlt (by omega) (by rw[<-Yz ms i (c+1) (by omega) k (by omega),<-Yz ms i (c+1) (by omega) c (by omega)];exact he)
  have:=h.ult i k c hi (by omega) (by omega) (by omega) (by omega) hck;omega
theorem zsj{bs ms:List (List Int)}(h:CvP bs ms){i k:Nat}(hik:i≠k)(hi:i<bs.length)(hk:k<bs.length)(he:(yh ms bs.length).1.getD i 0=(yh ms bs.length).1.getD k 0):2<=mm ms i k:=by
 rcases jO hik with hlt|hlt
 ·rw[Yz ms _ (k+1) (by omega) i (by omega),Yz ms _ (k+1) (by omega) k (by omega)]at he;have:=zvA h k i hlt hk he.symm
  rwa [(h.tab.sym k hk) i hi]
 ·rw[Yz ms _ (i+1) (by omega) i (by omega),Yz ms _ (i+1) (by omega) k (by omega)]at he;exact zvA h i k hlt hi he
theorem zn0:yI Tryz.prog 64 (zfz KY zxs):=by
 intro args ps r h hp;unfold zfz at h;split at h
 ·rename_i a0 a1 a2 a3;cases h;have hqq:zxs a0 a1 a2 a3:=(zm.1 hp).1;have hq9:=hqq;obtain⟨⟨⟨bs,hbs,hb1,hb2⟩,⟨ms,hms,hm1,hm2⟩⟩,hcv⟩:=hqq.1;rw[hbs,hms,yo,yd]at hcv;have g1:V.frzs a0=a0:=by rw[hbs,qH]
  have g2:V.frzs a1=a1:=by rw[hms,qy]
  have hbl:a0.length=bs.length:=by rw[hbs,yz]
  have hml:a1.length=ms.length:=by rw[hms,ye]
  have gb:∀k,a0.getD k (.agg [.slc false 2 (.int .i64 0) []])=.agg [.slc false 2 (.int .i64 0) (I (bs.getD k []))]:=fun k=>by rw[hbs,ku]
  have gm:∀k,a1.getD k (.slc false 2 (.int .i64 0) [])=.slc false 2 (.int .i64 0) (I (ms.getD k [])):=fun k=>by rw[hms,qo]
  have hm0:∀x y:Nat,(ms.getD x []).getD y 0=mm ms x y:=fun _ _=>rfl;obtain⟨n,hn⟩:∃n:Int,n=bs.length:=⟨_,rfl⟩;have n6:=hcv.n6;have hmn:ms.length=bs.length:=hcv.len;have hbr:∀i,i<bs.length->Br (bs.getD i []):=fun i hi=>hcv.br i hi;have rl:∀k,k<bs.length->(ms.getD k []).length=bs.length:=fun k hk=>hcv.rl k hk;have mmo:∀i k,i<bs.length->k<bs.length->i≠k->1<=mm ms i k/\mm ms i k<=200:=fun i k hi hk hne=>hcv.ent i k hi hk hne;obtain⟨_,x0,x1,x2,x3,x4⟩:=hq9;rw[hbl]at x1 x3;have hf0:KY a0 a1 a2 a3=qz bs ms a2.toNat a3.toNat:=by rw[KY,hbs,hms,yo,yd]
  have h1:=hbr a2.toNat (by omega);have h2:=hbr a3.toNat (by omega);have h3:=mmo a2.toNat a3.toNat (by omega) (by omega) (by omega);have h4:=rl a2.toNat (by omega);obtain⟨u,hu⟩:∃u,u=bs.getD a2.toNat []:=⟨_,rfl⟩;obtain⟨v,hv⟩:∃v,v=bs.getD a3.toNat []:=⟨_,rfl⟩;rw[<-hu]at h1;rw[<-hv]at h2;rw[qz,<-hu,<-hv]at hf0;obtain⟨c,hc⟩:∃c,c=mm ms a2.toNat a3.toNat:=⟨_,rfl⟩;rw[<-hc]at h3 hf0;have hqm:zap (I u) (I v) c:=⟨⟨_,rfl,h1⟩,⟨_,rfl,h2⟩,by omega,by omega⟩;have hfm:Yq (I u) (I v) c=zf3 u v c.toNat:=by rw[Yq,zr,zr]
  generalize Zh:Yq=zaT;generalize Ze:zap=zaS;refine zC (T:=tab) (B:=[(96,zcx zaT zaS)]) (Bi:=[]) [0,1,2,3,6] Tryz.func64 rfl rfl (by kernel_rfl) (ze rfl) mixed zP (by subst Zh Ze;exact(zn zdt zA)) (by subst Zh Ze;exact zx) (by kernel_rfl) ?_;intro L lp rr hL hr hf hlp
  conv=>cbv
  simp only[zo hL,sQ,hbl,gb,uy,um,uq,<-hu,<-hv,gm,hml,h4,hm0,<-hc];subst Zh Ze;rw[hr,hf0,hfm]
  (repeat' first|(exact yr _)|(exact je rfl)|(exact yV _)|(apply And.intro)|(intro _))<;>(try first|exact True.intro|omega|rfl|(simp only[zi,zq,zj];omega))
  all_goals first|exact hqm.1|exact hqm.2.1|skip
 ·cases h
theorem zjX:yI Tryz.prog 53 (zfk zbn ziJ):=by
 intro args ps r h hp;unfold zfk at h;split at h
 ·rename_i a0 a1;cases h;have hv:ziJ a0 a1:=(zm.1 hp).1;obtain⟨⟨⟨bs,hbs,hb1,hb2⟩,⟨ms,hms,hm1,hm2⟩⟩,hcv⟩:=id hv;rw[hbs,hms,yo,yd]at hcv;have g1:V.frzs a0=a0:=by rw[hbs,qH]
  have g2:V.frzs a1=a1:=by rw[hms,qy]
  have hbl:a0.length=bs.length:=by rw[hbs,yz]
  have hml:a1.length=ms.length:=by rw[hms,ye]
  have gb:∀k,a0.getD k (.agg [.slc false 2 (.int .i64 0) []])=.agg [.slc false 2 (.int .i64 0) (I (bs.getD k []))]:=fun k=>by rw[hbs,ku]
  have gm:∀k,a1.getD k (.slc false 2 (.int .i64 0) [])=.slc false 2 (.int .i64 0) (I (ms.getD k [])):=fun k=>by rw[hms,qo]
  have hm0:∀x y:Nat,(ms.getD x []).getD y 0=mm ms x y:=fun _ _=>rfl;obtain⟨n,hn⟩:∃n:Int,n=bs.length:=⟨_,rfl⟩;have n6:=hcv.n6;have hmn:ms.length=bs.length:=hcv.len;have hbr:∀i,i<bs.length->Br (bs.getD i []):=fun i hi=>hcv.br i hi;have rl:∀k,k<bs.length->(ms.getD k []).length=bs.length:=fun k hk=>hcv.rl k hk;have mmo:∀i k,i<bs.length->k<bs.length->i≠k->1<=mm ms i k/\mm ms i k<=200:=fun i k hi hk hne=>hcv.ent i k hi hk hne;have hf0:zbn a0 a1=dOC bs ms bs.length:=by rw[zbn,hbl,hbs,hms,yo,yd]
  generalize Kj:zeh=zcC;generalize yO:ur=kh;generalize zny:zkq=zuZ;generalize zqb:zxu=zwM;generalize zgw:KY=zo3;generalize zqa:zxs=zwL;refine zC (T:=tab) (B:=[(71,zoP zcC kh),(57,zpY zuZ zwM),(64,zfz zo3 zwL)]) (Bi:=[]) [0,1,2,3,4,5,6,8,9,10,20,21] Tryz.func53 rfl rfl (by kernel_rfl) (ze rfl) mixed zP (by subst Kj yO zny zqb zgw zqa;exact(zn zcR (zn zpt (zn zn0 zA)))) (by subst Kj yO zny zqb zgw zqa;exact zx) (by kernel_rfl) ?_;intro L lp rr hL hr hf hlp;have esq:∀x,V.frzs (zcC (I x))=I (qY x):=fun x=>by rw[<-Kj,zeh,zr,zD]
  have qsq:∀x,Br x->kh (I x):=fun x hx=>by rw[<-yO];exact⟨_,rfl,hx⟩
  have edl:∀x,zuZ (I (qY x))=kf (jn x):=fun x=>by rw[<-zny,zkq,zr,zAD]
  have qdl:∀x,Br x->zwM (I (qY x)):=fun x hx=>by rw[<-zqb];exact⟨_,rfl,zfq hx,zBK hx⟩
  have hmt:∀i k,zo3 a0 a1 i k=qz bs ms i.toNat k.toNat:=fun i k=>by rw[<-zgw,KY,hbs,hms,yo,yd]
  have hqt:∀i k:Int,0<=i->i<n->0<=k->k<n->i≠k->zwL a0 a1 i k:=fun i k i0 i1 k0 k1 hne=>by rw[<-zqa];exact⟨hv,i0,by omega,k0,by omega,hne⟩
  conv=>cbv
  refine hlp (Int×Int) _ _ _ [1,3,8,9,10] (fun x=>[(1,none,.val (.box 27 (.agg [.slc false 57 (.agg [.slc false 2 (.int .i64 0) []]) a0,.slc false 29 (.slc false 2 (.int .i64 0) []) a1]))),(3,none,.val (.int .i64 x.1)),(8,none,.val (.slc false 57 (.agg [.slc false 2 (.int .i64 0) []]) a0)),(9,none,.val (.int .i64 n)),(10,none,.val (.int .i64 x.2))])
   (fun x=>0<=x.2/\x.2<=n/\x.1=dOC bs ms x.2.toNat) (fun x=>(n-x.2).toNat) ((0,0)) (by subst hL;rw[hn,<-hbl];rfl) ?_ ?_
  ·exact⟨by simp,by simp only;omega,rfl⟩
  rintro⟨s,i⟩ ⟨i0,i1,hI⟩ hfx ag hag;simp only at i0 i1 hI
  conv=>cbv
  simp only[zo hL,sQ,hbl,gb,uy,um,uq,esq,edl];refine⟨fun h2=>?_,fun h2=>?_⟩
  ·have hb:=hbr i.toNat (by omega);obtain⟨d,hd⟩:∃d,d=W (s+kf (jn (bs.getD i.toNat []))):=⟨_,rfl⟩;refine⟨i0,by omega,qsq _ hb,qdl _ hb,?_⟩;rw[show IntKind.wrap .i64 (s+kf (jn (bs.getD i.toNat [])))=d from hd.symm]
   refine hlp (Int×Int) _ _ _ [1,3,4,8,9,10,20,21] (fun x=>[(1,none,.val (.box 27 (.agg [.slc false 57 (.agg [.slc false 2 (.int .i64 0) []]) a0,.slc false 29 (.slc false 2 (.int .i64 0) []) a1]))),(3,none,.val (.int .i64 x.1)),(4,none,.val (.int .i64 i)),(8,none,.val (.slc false 57 (.agg [.slc false 2 (.int .i64 0) []]) a0)),(9,none,.val (.int .i64 n)),(10,none,.val (.int .i64 i)),(20,none,.val (.int .i64 i)),(21,none,.val (.int .i64 x.2))])
    (fun x=>0<=x.2/\x.2<=i/\x.1=dI bs ms i.toNat d x.2.toNat) (fun x=>(i-x.2).toNat) ((d,0)) (by subst hL;rfl) ?_ ?_
   ·exact⟨by simp,by simp only;omega,rfl⟩
   rintro⟨t,k⟩ ⟨k0,k1,hK⟩ hfx2 ag2 hag2;simp only at k0 k1 hK
   conv=>cbv
   simp only[zo hL,sQ,g1,g2,hmt];refine⟨fun h3=>⟨hqt _ _ i0 h2 k0 (by omega) (by omega),?_⟩,fun h3=>?_⟩
   ·rw[zk (n:=k+1) (by omega) (by omega)];refine hag2 (W (t+qz bs ms i.toNat k.toNat),k+1) ⟨by simp only;omega,by simp only;omega,?_⟩ (by simp only;omega);simp only[zL k0];rw[dI,hK]
   ·rw[zk (n:=i+1) (by omega) (by omega)];refine hag (t,i+1) ⟨by simp only;omega,by simp only;omega,?_⟩ (by simp only;omega);simp only[zL i0];rw[dOC,<-hI,<-hd,hK,show k.toNat=i.toNat by omega]
  ·rw[hr,hf0,hI,show i.toNat=bs.length by omega]
 ·cases h
theorem zmC:yI Tryz.prog 69 (zfk zbn ziJ):=by
 intro args ps r h hp;unfold zfk at h;split at h
 ·rename_i a0 a1;cases h;obtain⟨⟨⟨bs,hbs,hb1,hb2⟩,⟨ms,hms,hm1,hm2⟩⟩,hcv⟩:=(zm.1 hp).1;rw[hbs,hms,yo,yd]at hcv;have g1:V.frzs a0=a0:=by rw[hbs,qH]
  have g2:V.frzs a1=a1:=by rw[hms,qy]
  have hbl:a0.length=bs.length:=by rw[hbs,yz]
  have hml:a1.length=ms.length:=by rw[hms,ye]
  have gb:∀k,a0.getD k (.agg [.slc false 2 (.int .i64 0) []])=.agg [.slc false 2 (.int .i64 0) (I (bs.getD k []))]:=fun k=>by rw[hbs,ku]
  have gm:∀k,a1.getD k (.slc false 2 (.int .i64 0) [])=.slc false 2 (.int .i64 0) (I (ms.getD k [])):=fun k=>by rw[hms,qo]
  have hm0:∀x y:Nat,(ms.getD x []).getD y 0=mm ms x y:=fun _ _=>rfl;obtain⟨n,hn⟩:∃n:Int,n=bs.length:=⟨_,rfl⟩;have n6:=hcv.n6;have hmn:ms.length=bs.length:=hcv.len;have hbr:∀i,i<bs.length->Br (bs.getD i []):=fun i hi=>hcv.br i hi;have rl:∀k,k<bs.length->(ms.getD k []).length=bs.length:=fun k hk=>hcv.rl k hk;have mmo:∀i k,i<bs.length->k<bs.length->i≠k->1<=mm ms i k/\mm ms i k<=200:=fun i k hi hk hne=>hcv.ent i k hi hk hne;have hf0:zbn a0 a1=dOC bs ms bs.length:=by rw[zbn,hbl,hbs,hms,yo,yd]
  generalize zqs:zoC=zwV;generalize yO:ur=kh;generalize Zh:Yq=zaT;generalize Ze:zap=zaS;refine zC (T:=tab) (B:=[(101,zje zwV kh),(102,zcx zaT zaS)]) (Bi:=[]) [0,1,2,3,4,5] Tryz.func69 rfl rfl (by kernel_rfl) (ze rfl) mixed zP (by subst zqs yO Zh Ze;exact(zn znU (zn zhO zA))) (by subst zqs yO Zh Ze;exact zx) (by kernel_rfl) ?_;intro L lp rr hL hr hf hlp;have edl:∀x,zwV (I x)=kf (jn x):=fun x=>by rw[<-zqs,zoC,zr]
  have qsq:∀x,Br x->kh (I x):=fun x hx=>by rw[<-yO];exact⟨_,rfl,hx⟩
  have hmt:∀x y c,zaT (I x) (I y) c=zf3 x y c.toNat:=fun x y c=>by rw[<-Zh,Yq,zr,zr]
  have hqt:∀x y c,Br x->Br y->1<=c->c<=200->zaS (I x) (I y) c:=fun x y c hx hy h1 h2=>by rw[<-Ze];exact⟨⟨_,rfl,hx⟩,⟨_,rfl,hy⟩,h1,by omega⟩
  conv=>cbv
  refine hlp (Int×Int) _ _ _ [1,3,4] (fun x=>[(1,none,.val (.box 27 (.agg [.slc false 57 (.agg [.slc false 2 (.int .i64 0) []]) a0,.slc false 29 (.slc false 2 (.int .i64 0) []) a1]))),(3,none,.val (.int .i64 x.1)),(4,none,.val (.int .i64 x.2))])
   (fun x=>0<=x.2/\x.2<=n/\x.1=dOC bs ms x.2.toNat) (fun x=>(n-x.2).toNat) ((0,0)) (by subst hL;rfl) ?_ ?_
  ·exact⟨by simp,by simp only;omega,rfl⟩
  rintro⟨s,i⟩ ⟨i0,i1,hI⟩ hfx ag hag;simp only at i0 i1 hI
  conv=>cbv
  simp only[zo hL,sQ,hbl,gb,uy,um,uq,edl,<-hn];refine⟨fun h2=>?_,fun h2=>?_⟩
  ·have hb:=hbr i.toNat (by omega);have hri:=rl i.toNat (by omega);obtain⟨d,hd⟩:∃d,d=W (s+kf (jn (bs.getD i.toNat []))):=⟨_,rfl⟩;refine⟨i0,by omega,qsq _ hb,?_⟩;rw[show IntKind.wrap .i64 (s+kf (jn (bs.getD i.toNat [])))=d from hd.symm]
   refine hlp (Int×Int) _ _ _ [1,3,4,5] (fun x=>[(1,none,.val (.box 27 (.agg [.slc false 57 (.agg [.slc false 2 (.int .i64 0) []]) a0,.slc false 29 (.slc false 2 (.int .i64 0) []) a1]))),(3,none,.val (.int .i64 x.1)),(4,none,.val (.int .i64 i)),(5,none,.val (.int .i64 x.2))])
    (fun x=>0<=x.2/\x.2<=i/\x.1=dI bs ms i.toNat d x.2.toNat) (fun x=>(i-x.2).toNat) ((d,0)) (by subst hL;rfl) ?_ ?_
   ·exact⟨by simp,by simp only;omega,rfl⟩
   rintro⟨t,k⟩ ⟨k0,k1,hK⟩ hfx2 ag2 hag2;simp only at k0 k1 hK
   conv=>cbv
   simp only[zo hL,sQ,hbl,gb,uy,um,uq,gm,hml,hm0,hmt,hri];refine⟨fun h3=>?_,fun h3=>?_⟩
   ·have hmo:=mmo i.toNat k.toNat (by omega) (by omega) (by omega);have hqq:=hqt _ _ _ hb (hbr k.toNat (by omega)) hmo.1 hmo.2;rw[zk (n:=k+1) (by omega) (by omega)];refine⟨by omega,by omega,by omega,by omega,by omega,by omega,by omega,by omega,hqq,?_⟩;refine hag2 (W (t+qz bs ms i.toNat k.toNat),k+1) ⟨by simp only;omega,by simp only;omega,?_⟩ (by simp only;omega);simp only[zL k0];rw[dI,hK]
   ·rw[zk (n:=i+1) (by omega) (by omega)];refine hag (t,i+1) ⟨by simp only;omega,by simp only;omega,?_⟩ (by simp only;omega);simp only[zL i0];rw[dOC,<-hI,<-hd,hK,show k.toNat=i.toNat by omega]
  ·rw[hr,hf0,hI,show i.toNat=bs.length by omega]
 ·cases h
theorem zup{bs ms:List (List Int)}(h:CvP bs ms):∀(t:Nat) {o:List KN},Qf bs ms (yh ms bs.length).1 t=some o->∀p∈o,CvW p.1 p.2
 |0,o,ho=>by simp only[Qf,za]at ho;subst ho;intro p hp;cases hp
 |t+1,o,ho=>by
  rw[Qf]at ho
  cases h1:Qf bs ms (yh ms bs.length).1 t with
  |none=>rw[h1]at ho;cases ho
  |some o'=>
   rw[h1,Option.bind_some]at ho;split at ho
   ·simp only[za]at ho;subst ho;have ih:=zup h t h1;have tl:=(ul ms bs.length).1;obtain⟨hin,hle⟩:=zbu (yh ms bs.length).1 t (yh ms bs.length).1.length;have hat:=zsV (yh ms bs.length).1 t (yh ms bs.length).1.length;have hasc:=zpC (yh ms bs.length).1 t (yh ms bs.length).1.length;rw[tl]at hin hle hat hasc ⊢;generalize qm (yh ms bs.length).1 t bs.length=ls at hin hle hat hasc ⊢;have n6:=h.n6;have hbr:=fun i hi=>jz (h.br i hi);intro p hp;rcases List.mem_append.1 hp with hp|hp
    ·exact ih p hp
    ·rw[yF]at hp;subst hp;refine⟨by simp only;rw[kV];omega,by simp only;rw[zcj,kV],fun i hi=>?_,fun k hk=>?_,fun i k hi hk hne=>?_⟩
     ·simp only at hi ⊢;rw[kV]at hi;have:=hin i hi;rw[QZ,js _ _ _ _ hi,if_pos hi];exact(JV (hbr _ (by omega))).1
     ·simp only at hk ⊢;rw[kV]at hk ⊢;rw[Zj,js _ _ _ _ hk,zie]
     ·simp only at hi hk ⊢;rw[kV]at hi hk;have hi':=hin i hi;have hk':=hin k hk
      have e:mm (Zj ms ls ls.length 0) i k=mm ms (ls.getD i 0).toNat (ls.getD k 0).toNat-1:=by
       rw[mm,Zj,js _ _ _ _ hi,if_pos hi,dcR,js _ _ _ _ hk,if_pos ⟨hk,fun e=>hne e.symm⟩]
      rw[e]
      have hd:(ls.getD i 0).toNat≠(ls.getD k 0).toNat:=by
       rcases jO hne with hlt|hlt
       ·have:=hasc i k hlt hk;omega
       ·have:=hasc k i hlt hi;omega
      have h2:=zsj h hd (by omega) (by omega) (by rw[hat i hi,hat k hk]);have h3:=((h.tab.row (ls.getD i 0).toNat (by omega)).2 (ls.getD k 0).toNat (by omega)).2 hd;omega
   ·cases ho
def cdC(p:KN):Int:=dOC p.1 p.2 p.1.length
def zhB(s:Int)(o:List KN):Nat->Int
 |0=>s
 |i+1=>W (zhB s o i-cdC (o.getD i ([],[])))
def mdR(s:Int):Option (List KN)->Int×Int
 |some o=>(zhB s o o.length,0)
 |none=>(0,3)
noncomputable def zkp(a b:List V):Int×Int:=bif qu a b then mdR (zbn a b) (bl (kv a) (uL b) a.length)else(0,1)
theorem zxT{l:List (List Int)}{k:Nat}(h:k<l.length):l[k]=l.getD k []:=by
 rw[zd,zg h];rfl
theorem zyy{bs ms:List (List Int)}(h:CvP bs ms){o:List KN}(ho:bl bs ms bs.length=some o)(i:Nat)(hi:i<o.length):ziJ (BB false (o.getD i ([],[])).1) (II false (o.getD i ([],[])).2):=by
 have hm:o.getD i ([],[])∈o:=by rw[zd,zg hi];exact yN hi
 have hw:=zup h _ ho _ hm;have n6:=hw.n6;refine⟨⟨⟨_,rfl,by omega,fun xs hx=>?_⟩,⟨_,rfl,by rw[hw.len];omega,fun xs hx=>?_⟩⟩,by rw[yo,yd];exact hw⟩
 ·obtain⟨k,hk,rfl⟩:=yM.1 hx;have:=(hw.br k hk).len;rw[zxT hk];omega
 ·obtain⟨k,hk,rfl⟩:=yM.1 hx;have:=hw.rl k (by rw[hw.len]at hk;exact hk);rw[zxT hk];omega
theorem zgF:yI Tryz.prog 32 (zc9 zkp Zs):=by
 intro args ps r h hp;unfold zc9 at h;split at h
 ·rename_i a0 a1;cases h;have hq:Zs a0 a1:=(zm.1 hp).1;have g1:=Kd hq.1.isBB;have g2:=Kc hq.2.isII;have e0:zkp a0 a1=bif qu a0 a1 then mdR (zbn a0 a1) (bl (kv a0) (uL a1) a0.length)else(0,1):=rfl;have e1:zfi a0 a1=znc (bl (kv a0) (uL a1) a0.length):=rfl;obtain⟨cd,hcd⟩:∃cd,cd=zbn a0 a1:=⟨_,rfl⟩;obtain⟨⟨fo,code⟩,hfo⟩:∃p,p=zfi a0 a1:=⟨_,rfl⟩;generalize yU:qu=ko;generalize jG:Zs=uD;generalize zd8:zfi=zlM;generalize jv:Ju=Ys;generalize zdq:zbn=zgB;generalize zdp:ziJ=zkZ;refine zC (T:=tab) (B:=[(15,zak ko uD),(65,zbE zlM Ys),(53,zfk zgB zkZ)]) (Bi:=[]) [1000007004,0,1,2,3,4,5,6,8,22,23,24] Tryz.func32 rfl rfl (by kernel_rfl) (ze rfl) mixed zP (by subst yU jG zd8 jv zdq zdp;exact(zn YT (zn zhV (zn zjX zA)))) (by subst yU jG zd8 jv zdq zdp;exact zx) (by kernel_rfl) ?_;intro L lp rr hL hr hf hlp;have Ei:ko a0 a1=qu a0 a1:=by rw[<-yU]
  have Eb:zlM a0 a1=(fo,code):=by rw[<-zd8,hfo]
  have Ec:zgB a0 a1=cd:=by rw[<-zdq,hcd]
  conv=>cbv
  simp only[zo hL,sQ,g1,g2,Ei,Eb,Ec];refine⟨by rw[<-jG];exact hq,fun h=>by rw[hr,e0,h];rfl,fun h=>?_⟩;have hv:=JX hq h;have hcv:CvP (kv a0) (uL a1):=hv.2;have hal:a0.length=(kv a0).length:=by obtain⟨bs,hbs,_⟩:=hq.1;rw[hbs,yz,yo]
  rw[hal]at e0 e1;have hww:ziJ a0 a1:=⟨hq,hcv.weak⟩;refine⟨by rw[<-jv];exact hv,?_⟩
  cases hb:bl (kv a0) (uL a1) (kv a0).length with
  |none=>
   rw[e1,hb]at hfo;obtain⟨rfl,rfl⟩:=zb ..▸hfo;refine⟨fun _=>by rw[hr,e0,h,hb];rfl,fun h'=>absurd h' (by decide)⟩
  |some o=>
   rw[e1,hb]at hfo;obtain⟨hfo1,rfl⟩:=zb ..▸hfo;refine⟨fun h'=>absurd rfl h',fun _=>⟨by rw[<-zdp];exact hww,?_⟩⟩;have hw:=fun i hi=>zyy hcv hb i hi
   have ol:o.length<=6:=by
    obtain⟨t1,t2,t3,_⟩:=ul (uL a1) (kv a0).length;have h1:=ziq _ hb;have:=hcv.n6;omega
   obtain⟨n,hn⟩:∃n:Int,n=o.length:=⟨_,rfl⟩;obtain⟨fz,hfz⟩:∃fz,fz=CC false o:=⟨_,rfl⟩;have hfz2:V.frzs fo=fz:=(by rw[hfo1,zw5,hfz]);have hfl:fz.length=o.length:=(by rw[hfz,zaY]);have gz:=fun i=>hfz▸ziv false o i;rw[hfz2];have Ed:∀i:Int,zgB (BB false (o.getD i.toNat ([],[])).1) (II false (o.getD i.toNat ([],[])).2)=cdC (o.getD i.toNat ([],[])):=fun i=>(by rw[<-zdq,zbn,yo,yd,yz,cdC]);have Qd:∀i:Int,0<=i->i<n->zkZ (BB false (o.getD i.toNat ([],[])).1) (II false (o.getD i.toNat ([],[])).2):=fun i h0 h1=>by rw[<-zdp];exact hw _ (by omega)
   refine hlp (Int×Int) _ _ _ [6,22,23,24] (fun x=>[(6,none,.val (.int .i64 x.1)),(22,none,.val (.slc false 27 (.agg [.slc false 57 (.agg [.slc false 2 (.int .i64 0) []]) [],.slc false 29 (.slc false 2 (.int .i64 0) []) []]) fz)),(23,none,.val (.int .i64 n)),(24,none,.val (.int .i64 x.2))])
    (fun x=>0<=x.2/\x.2<=n/\x.1=zhB cd o x.2.toNat) (fun x=>(n-x.2).toNat) ((cd,0)) (by subst hL;rw[hn,<-hfl];rfl) ?_ ?_
   ·exact⟨by simp,by simp only;omega,rfl⟩
   rintro⟨s,i⟩ ⟨i0,i1,hs⟩ hfx ag hag;simp only at i0 i1 hs
   conv=>cbv
   simp only[zo hL,sQ,hfl,gz,zhX,zh4,zh3,qH,qy,Ed];refine⟨fun h2=>?_,fun h2=>?_⟩
   ·rw[zk (n:=i+1) (by omega) (by omega)];refine⟨i0,by omega,Qd _ i0 h2,hag (W (s-cdC (o.getD i.toNat ([],[]))),i+1) ⟨by simp only;omega,by simp only;omega,?_⟩ (by simp only;omega)⟩;simp only[zL i0];rw[zhB,<-hs]
   ·rw[hr,e0,h,hb,cond_true,mdR,hs,hcd,show i.toNat=o.length by omega]
 ·cases h
theorem zgD:yI Tryz.prog 33 (zc9 zkp Zs):=by
 intro args ps r h hp;unfold zc9 at h;split at h
 ·rename_i a0 a1;cases h;have hq:Zs a0 a1:=(zm.1 hp).1;have g1:=Kd hq.1.isBB;have g2:=Kc hq.2.isII;have e0:zkp a0 a1=bif qu a0 a1 then mdR (zbn a0 a1) (bl (kv a0) (uL a1) a0.length)else(0,1):=rfl;have e1:zeG a0 a1=zp3 (bl (kv a0) (uL a1) a0.length):=rfl;obtain⟨cd,hcd⟩:∃cd,cd=zbn a0 a1:=⟨_,rfl⟩;obtain⟨⟨fo,code⟩,hfo⟩:∃p,p=zeG a0 a1:=⟨_,rfl⟩;generalize yU:qu=ko;generalize jG:Zs=uD;generalize zch:zeG=zju;generalize jv:Ju=Ys;generalize zdq:zbn=zgB;generalize zdp:ziJ=zkZ;refine zC (T:=tab) (B:=[(44,zak ko uD),(66,zoO zju Ys),(69,zfk zgB zkZ)]) (Bi:=[]) [0,1,2,3,4,5,6,7] Tryz.func33 rfl rfl (by kernel_rfl) (ze rfl) mixed zP (by subst yU jG zch jv zdq zdp;exact(zn zcO (zn zfL (zn zmC zA)))) (by subst yU jG zch jv zdq zdp;exact zx) (by kernel_rfl) ?_;intro L lp rr hL hr hf hlp;have Ei:ko a0 a1=qu a0 a1:=by rw[<-yU]
  have Eb:zju a0 a1=(fo,code):=by rw[<-zch,hfo]
  have Ec:zgB a0 a1=cd:=by rw[<-zdq,hcd]
  conv=>cbv
  simp only[zo hL,sQ,g1,g2,Ei,Eb,Ec];refine⟨by rw[<-jG];exact hq,fun h=>by rw[hr,e0,h];rfl,fun h=>?_⟩;have hv:=JX hq h;have hcv:CvP (kv a0) (uL a1):=hv.2;have hal:a0.length=(kv a0).length:=by obtain⟨bs,hbs,_⟩:=hq.1;rw[hbs,yz,yo]
  rw[hal]at e0 e1;have hww:ziJ a0 a1:=⟨hq,hcv.weak⟩;refine⟨by rw[<-jv];exact hv,?_⟩
  cases hb:bl (kv a0) (uL a1) (kv a0).length with
  |none=>
   rw[e1,hb]at hfo;obtain⟨rfl,rfl⟩:=zb ..▸hfo;refine⟨fun _=>by rw[hr,e0,h,hb];rfl,fun h'=>(by cases h')⟩
  |some o=>
   rw[e1,hb]at hfo;obtain⟨hfo1,rfl⟩:=zb ..▸hfo;refine⟨fun h'=>(by cases h'),fun _=>⟨by rw[<-zdp];exact hww,?_⟩⟩;have hw:=fun i hi=>zyy hcv hb i hi
   have ol:o.length<=6:=by
    obtain⟨t1,t2,t3,_⟩:=ul (uL a1) (kv a0).length;have h1:=ziq _ hb;have:=hcv.n6;omega
   obtain⟨n,hn⟩:∃n:Int,n=o.length:=⟨_,rfl⟩;have hfl:fo.length=o.length:=(by rw[hfo1,zaY]);have gz:=fun i=>hfo1▸ziv true o i;have Ed:∀i:Int,zgB (BB false (o.getD i.toNat ([],[])).1) (II false (o.getD i.toNat ([],[])).2)=cdC (o.getD i.toNat ([],[])):=fun i=>(by rw[<-zdq,zbn,yo,yd,yz,cdC]);have Qd:∀i:Int,0<=i->i<n->zkZ (BB false (o.getD i.toNat ([],[])).1) (II false (o.getD i.toNat ([],[])).2):=fun i h0 h1=>by rw[<-zdp];exact hw _ (by omega)
   refine hlp (Int×Int) _ _ _ [4,6,7] (fun x=>[(4,none,.val (.slc true 27 (.agg [.slc true 57 (.agg [.slc true 2 (.int .i64 0) []]) [],.slc true 29 (.slc true 2 (.int .i64 0) []) []]) fo)),(6,none,.val (.int .i64 x.1)),(7,none,.val (.int .i64 x.2))])
    (fun x=>0<=x.2/\x.2<=n/\x.1=zhB cd o x.2.toNat) (fun x=>(n-x.2).toNat) ((cd,0)) (by subst hL;rfl) ?_ ?_
   ·exact⟨by simp,by simp only;omega,rfl⟩
   rintro⟨s,i⟩ ⟨i0,i1,hs⟩ hfx ag hag;simp only at i0 i1 hs
   conv=>cbv
   simp only[zo hL,sQ,hfl,gz,zhX,zh4,zh3,qH,qy,Ed,<-hn];refine⟨fun h2=>?_,fun h2=>?_⟩
   ·rw[zk (n:=i+1) (by omega) (by omega)];refine⟨i0,h2,by omega,by omega,by omega,Qd _ i0 h2,hag (W (s-cdC (o.getD i.toNat ([],[]))),i+1) ⟨by simp only;omega,by simp only;omega,?_⟩ (by simp only;omega)⟩;simp only[zL i0];rw[zhB,<-hs]
   ·rw[hr,e0,h,hb,cond_true,mdR,hs,hcd,show i.toNat=o.length by omega]
 ·cases h
theorem zhM{xs:List Int}(h:Br xs)(j:Nat):mul (QI xs) j=mul xs (j+1):=by
 obtain⟨h1,n,l,e,hb,hne,m,hm⟩:=JV h;have e1:=zb0 (QI xs) j;have e2:=zb0 xs (j+1);rw[e,zpc hb]at e1;have e3:((yc (jD 0 n l)).getD j 1:Int)=(yc (jD 0 n l)++List.replicate m 1).getD j 1:=(zeB _ m j).symm;have e4:yc (jD 0 n l)++List.replicate m 1=yc (jD 0 n l++List.replicate m 1):=by rw[YO];congr 1;simp[yc]
 rw[e3,e4,<-hm]at e1
 have e5:((qY xs++[1]).drop 1).getD j 1=(qY xs++[1]).getD (j+1) 1:=by
  rw[zd,List.getElem?_drop,zd,Nat.add_comm 1 j]
 have e6:(qY xs++[1]).getD (j+1) 1=(qY xs).getD (j+1) 1:=zeB _ 1 _;rw[e5,e6,zk8,e2]at e1;rw[e];omega
theorem znM{M N:Nat->Nat}(h:∀j,N j=M (j+1))(i:Nat):∀k,qE N i k=qE M (i+1) k
 |0=>rfl
 |k+1=>by
  have e1:qE N i (k+1)=qE N i k+N (i+1+k):=rfl;have e2:qE M (i+1) (k+1)=qE M (i+1) k+M (i+1+1+k):=rfl;rw[e1,e2,znM h i k,h,show i+1+k+1=i+1+1+k by omega]
theorem ziM{M N:Nat->Nat}(h:∀j,N j=M (j+1))(i j:Nat):Zy N i j↔Zy M (i+1) (j+1):=by
 unfold Zy;rw[znM h,h,show j+1-(i+1)=j-i by omega]
theorem zjc{M N:Nat->Nat}(hM:GoodM M)(hN:GoodM N)(h:∀j,N j=M (j+1))(t:Nat):cd N (t+1) (t+1)=if cd M (t+2) (t+2)=((t+2:Nat):Int)then 0 else cd M (t+2) (t+2):=by
 rcases zkz hM (t+1)with⟨b1,b2,b3⟩|⟨b,b1,b2,b3,b4,_⟩
 ·rw[show t+2=t+1+1 by omega,b2,if_neg (by omega)];rcases zkz hN t with⟨_,e,_⟩|⟨a,a1,a2,_⟩
  ·exact e
  ·exfalso;have:=zla hM (a:=a+1) (j:=t+1) (by omega) ((ziM h a (t+1)).1 a2);omega
 ·rw[show t+2=t+1+1 by omega,b4];rcases zkz hN t with⟨c1,e,_⟩|⟨a,a1,a2,_,a4,_⟩
  ·rw[e];by_cases h0:b=0
   ·rw[if_pos (by omega)]
   ·exfalso;have hp:Zy N (b-1) (t+1):=(ziM h (b-1) (t+1)).2 (by rw[show b-1+1=b by omega];exact b2);have:=zla hN (a:=b-1) (j:=t) (by omega) hp;omega
  ·have h2:=zla hM (a:=a+1) (j:=t+1) (by omega) ((ziM h a (t+1)).1 a2);rw[if_neg (by omega),a4];omega
theorem ShrP.shift{M M' N N':Nat->Nat}(hM:GoodM M)(hM':GoodM M')(hN:GoodM N)(hN':GoodM N')(sM:∀j,M' j=M (j+1))(sN:∀j,N' j=N (j+1)){c:Nat}(h:ShrP M N (c+1))(hc:1<=c):ShrP M' N' c:=by
 refine⟨hc,fun t t1 t2=>?_,?_⟩
 ·obtain⟨u,rfl⟩:∃u,t=u+1:=⟨t-1,by omega⟩;rw[zjc hM hM' sM,zjc hN hN' sN,h.eq (u+2) (by omega) (by omega)]
 ·obtain⟨u,rfl⟩:∃u,c=u+1:=⟨c-1,by omega⟩;rw[zjc hM hM' sM,zjc hN hN' sN];have:=h.ne;rw[show u+1+1=u+2 by omega]at this;by_cases e1:cd M (u+2) (u+2)=((u+2:Nat):Int)
  ·rw[if_pos e1];exact .inr rfl
  ·rw[if_neg e1];rcases this with e|e
   ·by_cases e2:cd N (u+2) (u+2)=((u+2:Nat):Int)
    ·rw[if_pos e2];by_cases e3:cd M (u+2) (u+2)=0
     ·exact .inr e3
     ·exact .inl e3
    ·rw[if_neg e2];exact .inl e
   ·exact .inr e
theorem zrO{xs ys:List Int}{c:Nat}(h:shr xs ys c=true)(c1:1<=c)(c2:c<=200):ShrP (mul xs) (mul ys) c:=
 ⟨c1,(zqS h c1 c2).1,(zqS h c1 c2).2⟩
theorem zD9{xs ys:List Int}{c:Nat}(h:ShrP (mul xs) (mul ys) c)(c2:c<=200):shr xs ys c=true:=by
 have c1:=h.c1;rw[shr,zc8,Bool.and_eq_true,decide_eq_true_eq,Jl xs (c:=c-1) (k:=201) (by omega),Jl ys (c:=c-1) (k:=201) (by omega),YR xs (k:=201) (by omega),YR ys (k:=201) (by omega),show c-1+1=c by omega];refine⟨?_,by simpa using h.ne⟩;rw[kI,kI];exact qA fun t ht=>h.eq (t+1) (by omega) (by omega)
theorem zet{ms:List (List Int)}{ls:List Int}{i k:Nat}(hi:i<ls.length)(hk:k<ls.length):mm (Zj ms ls ls.length 0) i k=if i=k then mm ms (ls.getD i 0).toNat (ls.getD k 0).toNat else mm ms (ls.getD i 0).toNat (ls.getD k 0).toNat-1:=by
 rw[mm,Zj,js _ _ _ _ hi,if_pos hi,dcR,js _ _ _ _ hk];by_cases e:i=k
 ·rw[if_neg (fun h=>h.2 e.symm),if_pos e]
 ·rw[if_pos ⟨hk,fun h=>e h.symm⟩,if_neg e]
theorem zeu{bs:List (List Int)}{ls:List Int}{i:Nat}(hi:i<ls.length):(QZ bs ls ls.length).getD i []=QI (bs.getD (ls.getD i 0).toNat []):=by
 rw[QZ,js _ _ _ _ hi,if_pos hi]
theorem zvZ{bs ms:List (List Int)}(h:CvP bs ms){ls:List Int}(hl:LstOk bs.length ls)(h2:∀i k,i<ls.length->k<ls.length->i≠k->2<=mm ms (ls.getD i 0).toNat (ls.getD k 0).toNat):
 CvP (QZ bs ls ls.length) (Zj ms ls ls.length 0):=by
 have hlen:=hl.len;have h6:=h.n6;have hin:∀i,i<ls.length->(ls.getD i 0).toNat<bs.length:=fun i hi=>by have:=hl.inn i hi;omega
 have hne:∀i k,i<ls.length->k<ls.length->i≠k->(ls.getD i 0).toNat≠(ls.getD k 0).toNat:=fun i k hi hk hik=>by
  have h1:=hl.inn i hi;have h2:=hl.inn k hk;rcases Nat.lt_or_ge i k with h3|h3
  ·have:=hl.asc i k h3 hk;omega
  ·have:=hl.asc k i (by omega) hi;omega
 have hbr:∀i,i<bs.length->Br (bs.getD i []):=fun i hi=>jz (h.br i hi);refine⟨by rw[kV];exact hl.n1,by rw[kV];omega,⟨by rw[zcj,kV],fun i hi=>?_,fun i hi k hk=>?_⟩,fun i hi=>?_,fun i k hi hk hik=>?_,fun i k j hi hk hj hik hji hjk=>?_⟩
 ·rw[kV]at hi ⊢;refine⟨by rw[Zj,js _ _ _ _ hi,zie],fun k hk=>?_⟩;have hr:=(h.tab.row _ (hin i hi)).2 _ (hin k hk);rw[zet hi hk];refine⟨fun e=>by rw[if_pos e];exact hr.1 (by rw[e]),fun e=>?_⟩;rw[if_neg e];have:=hr.2 (hne i k hi hk e);have:=h2 i k hi hk e;omega
 ·rw[kV]at hi hk;rw[zet hi hk,zet hk hi,h.tab.sym _ (hin i hi) _ (hin k hk)];by_cases e:i=k
  ·rw[if_pos e,if_pos e.symm]
  ·rw[if_neg e,if_neg (fun x=>e x.symm)]
 ·rw[kV]at hi;rw[zeu hi];exact(JV (hbr _ (hin i hi))).1.is
 ·rw[kV]at hi hk;have b1:=hbr _ (hin i hi);have b2:=hbr _ (hin k hk);have hr:=((h.tab.row _ (hin i hi)).2 _ (hin k hk)).2 (hne i k hi hk hik);have hg:=h2 i k hi hk hik;rw[zeu hi,zeu hk,zet hi hk,if_neg hik];refine zD9 ?_ (by omega);have hs:=zrO (h.shr _ _ (hin i hi) (hin k hk) (hne i k hi hk hik)) (by omega) (by omega);obtain⟨c,hc⟩:∃c:Nat,mm ms (ls.getD i 0).toNat (ls.getD k 0).toNat=(c+1:Nat):=⟨(mm ms (ls.getD i 0).toNat (ls.getD k 0).toNat).toNat-1,by omega⟩;rw[hc]at hs ⊢;rw[zV]at hs;rw[show(((c+1:Nat):Int)-1).toNat=c by omega];exact hs.shift (uz b1).1 (uz (JV b1).1).1 (uz b2).1 (uz (JV b2).1).1 (zhM b1) (zhM b2) (by omega)
 ·rw[kV]at hi hk hj;rw[zet hi hk,zet hi hj,zet hj hk,if_neg hik,if_neg (fun e=>hji e.symm),if_neg hjk];have:=h.ult _ _ _ (hin i hi) (hin k hk) (hin j hj) (hne i k hi hk hik) (hne j i hj hi hji) (hne j k hj hk hjk);omega
theorem ztX{M M' N N':Nat->Nat}(sM:∀j,M' j=M (j+1))(sN:∀j,N' j=N (j+1)):∀c,dS M N (c+1)=dS M' N' c+(M 0:Int)*N 0
 |0=>by show 0+(M 0:Int)*N 0=0+(M 0:Int)*N 0;rfl
 |c+1=>by
  have ih:=ztX sM sN c;rw[dS,ih,dS,sM,sN];omega
theorem zq3{bs ms:List (List Int)}(h:CvP bs ms){ls:List Int}(hl:LstOk bs.length ls)(h2:∀i k,i<ls.length->k<ls.length->i≠k->2<=mm ms (ls.getD i 0).toNat (ls.getD k 0).toNat){i k:Nat}(hi:i<ls.length)(hk:k<ls.length)(hik:i≠k):
 qz bs ms (ls.getD i 0).toNat (ls.getD k 0).toNat=qz (QZ bs ls ls.length) (Zj ms ls ls.length 0) i k+(mul (bs.getD (ls.getD i 0).toNat []) 0:Int)*(mul (bs.getD (ls.getD k 0).toNat []) 0):=by
 have hin:∀i,i<ls.length->(ls.getD i 0).toNat<bs.length:=fun i hi=>by have:=hl.inn i hi;omega
 have b1:=jz (h.br _ (hin i hi));have b2:=jz (h.br _ (hin k hk));have hr:=h.tab.range (hin i hi) (hin k hk);have hg:=h2 i k hi hk hik;obtain⟨c,hc⟩:∃c:Nat,mm ms (ls.getD i 0).toNat (ls.getD k 0).toNat=(c+1:Nat):=⟨(mm ms (ls.getD i 0).toNat (ls.getD k 0).toNat).toNat-1,by omega⟩;rw[qz,qz,zeu hi,zeu hk,zet hi hk,if_neg hik,zcm b1 b2 (by omega),zcm (JV b1).1 (JV b2).1 (by omega),hc,zV,show(((c+1:Nat):Int)-1).toNat=c by omega];exact ztX (zhM b1) (zhM b2) c
theorem zBI{xs:List Int}(h:Br xs):2*kf (jn xs)=2*kf (jn (QI xs))+tw (mul xs 0):=by
 have h1:=zwr (xs:=xs) (n:=(zbk xs).length+(zbk (QI xs)).length+1) (by omega);have h2:=zwr (xs:=QI xs) (n:=(zbk xs).length+(zbk (QI xs)).length) (by omega);rw[<-h1,<-h2];generalize (zbk xs).length+(zbk (QI xs)).length=n
 induction n with
 |zero=>simp only[sg]
 |succ n ih=>
  rw[sg,ih,sg,zhM h];omega
theorem zsF(f:Nat->Int)(L:List Int)(x:Int):∀n,sL f (qm L x n)=sg (fun k=>if L.getD k 0=x then f k else 0) n
 |0=>rfl
 |n+1=>by
  rw[qm,sg,<-zsF f L x n];split
  ·rw[zBP,zV]
  ·omega
def eL(D:Nat->Int)(G:Nat->Nat->Int)(l:List Int):Int:=sg (fun u=>D (l.getD u 0).toNat+sg (fun v=>G (l.getD u 0).toNat (l.getD v 0).toNat) u) l.length
theorem zCk(D:Nat->Int)(G:Nat->Nat->Int)(l:List Int)(x:Int):eL D G (l++[x])=eL D G l+(D x.toNat+sL (G x.toNat) l):=by
 rw[eL,eL,sL];have e:(l++[x]).length=l.length+1:=by simp
 rw[e,sg,zcq (zt _),if_pos rfl];congr 1
 ·refine ZR fun t ht=>?_;rw[zcq (by omega),if_neg (by omega)];congr 1;exact ZR fun u hu=>by rw[zcq (by omega),if_neg (by omega)]
 ·congr 1;exact ZR fun u hu=>by rw[zcq (by omega),if_neg (by omega)]
theorem ztR(D:Nat->Int)(G:Nat->Nat->Int)(L:List Int)(T:Nat):∀n,(∀i,i<n->0<=L.getD i 0/\L.getD i 0<T)->(∀i k,i<n->k<i->L.getD i 0≠L.getD k 0->G i k=0)->
 sg (fun t=>eL D G (qm L t n)) T=sg (fun i=>D i+sg (fun k=>G i k) i) n
 |0,_,_=>zo9 fun t _=>rfl
 |n+1,hL,hG=>by
  have ih:=ztR D G L T n (fun i hi=>hL i (by omega)) fun i k hi hk=>hG i k (by omega) hk;have hn:=hL n (by omega);rw[sg,<-ih]
  have e1:sg (fun t=>eL D G (qm L t (n+1))) T=sg (fun t=>eL D G (qm L t n)+(if L.getD n 0=(t:Int)then D n+sL (G n) (qm L t n)else 0)) T:=ZR fun t _=>by
   rw[qm];split
   ·rw[zCk,zV]
   ·omega
  rw[e1,zsw];congr 1;rw[zyr (p:=(L.getD n 0).toNat) (by omega) fun t _ hne=>if_neg fun e=>hne (by omega),if_pos (by omega),zsF];congr 1;refine ZR fun k hk=>?_;by_cases e:L.getD k 0=((L.getD n 0).toNat:Int)
  ·rw[if_pos e]
  ·rw[if_neg e,hG n k (by omega) hk (by omega)]
theorem zyj(m:Nat->Int):∀n,tw (sg m n)=sg (fun i=>tw (m i)+2*sg (fun k=>m i*m k) i) n
 |0=>rfl
 |n+1=>by
  rw[sg,zCQ,zyj m n];rw[show sg (fun i=>tw (m i)+2*sg (fun k=>m i*m k) i) (n+1)=sg (fun i=>tw (m i)+2*sg (fun k=>m i*m k) i) n+(tw (m n)+2*sg (fun k=>m n*m k) n)from rfl,znR,Int.mul_comm (sg m n) (m n)]
theorem zgJ{bs ms:List (List Int)}(h:CvP bs ms){t:Nat}(ht:(t:Int)<(yh ms bs.length).2):LstOk bs.length (qm (yh ms bs.length).1 t bs.length)/\
 ∀i k,i<(qm (yh ms bs.length).1 t bs.length).length->k<(qm (yh ms bs.length).1 t bs.length).length->i≠k->2<=mm ms ((qm (yh ms bs.length).1 t bs.length).getD i 0).toNat ((qm (yh ms bs.length).1 t bs.length).getD k 0).toNat:=by
 obtain⟨t1,t2,t3,t4⟩:=ul ms bs.length;have hm:=ziz ms bs.length t (by omega) ht;obtain⟨hin,hle⟩:=zbu (yh ms bs.length).1 t bs.length;have hat:=zsV (yh ms bs.length).1 t bs.length;have hasc:=zpC (yh ms bs.length).1 t bs.length
 have hpos:1<=(qm (yh ms bs.length).1 t bs.length).length:=by
  have e:=zsF (fun _=>1) (yh ms bs.length).1 t bs.length;refine Classical.byContradiction fun hn=>?_;have h0:qm (yh ms bs.length).1 t bs.length=[]:=List.eq_nil_of_length_eq_zero (by omega);rw[h0]at e;have e2:sL (fun _=>1) []=0:=rfl;rw[e2]at e;obtain⟨k,hk,hek⟩:=yM.1 hm;rw[gAt hk]at hek
  have hnn:∀n,n<=bs.length->k<n->1<=sg (fun k=>if(yh ms bs.length).1.getD k 0=(t:Int)then(1:Int)else 0) n:=by
   intro n
   induction n with
   |zero=>intro _ h;omega
   |succ n ih=>
    intro hn hkn;rw[sg];by_cases e3:k=n
    ·subst e3;rw[if_pos hek];have:=zBi (f:=fun k=>if(yh ms bs.length).1.getD k 0=(t:Int)then(1:Int)else 0) (n:=k) fun u _=>by split<;>omega
     omega
    ·have:=ih (by omega) (by omega);split<;>omega
  have:=hnn bs.length (zt _) (by omega);omega
 refine⟨⟨hpos,hin,hasc⟩,fun i k hi hk hne=>?_⟩;have hi':=hin i hi;have hk':=hin k hk
 have hd:((qm (yh ms bs.length).1 t bs.length).getD i 0).toNat≠((qm (yh ms bs.length).1 t bs.length).getD k 0).toNat:=by
  rcases jO hne with hlt|hlt
  ·have:=hasc i k hlt hk;omega
  ·have:=hasc k i hlt hi;omega
 exact zsj h hd (by omega) (by omega) (by rw[hat i hi,hat k hk])
theorem zBH{bs ms:List (List Int)}(h:CvP bs ms){i k:Nat}(hi:i<bs.length)(hk:k<i)(hne:(yh ms bs.length).1.getD i 0≠(yh ms bs.length).1.getD k 0):mm ms i k=1:=by
 have hr:=((h.tab.row i hi).2 k (by omega)).2 (by omega);refine Classical.byContradiction fun h1=>hne ?_;have hp:∀j,j<bs.length->(yh ms bs.length).1.getD j 0=(yh ms (j+1)).1.getD j 0:=fun j hj=>Yz ms bs.length (j+1) (by omega) j (by omega)
 have key:∀j,j<bs.length->∀l,l<j->2<=mm ms j l->(yh ms bs.length).1.getD j 0=(yh ms bs.length).1.getD l 0:=by
  intro j
  induction j using Nat.strongRecOn with
  |ind j ih=>
  intro hj l hl h2
  cases ht:tk ms j with
  |none=>
   rw[tk,List.find?_eq_none]at ht;have:=ht l (by simpa using hl);simp only[decide_eq_true_eq]at this;omega
  |some c=>
   have hc:=zk5 ht
   have hc2:2<=mm ms j c:=by
    rw[tk,jZ]at ht;simpa using ht.1
   have e1:(yh ms bs.length).1.getD j 0=(yh ms bs.length).1.getD c 0:=by
    rw[hp j hj,zqP,ht];simp only;rw[Yz ms bs.length j (by omega) c hc]
   by_cases hcl:c=l
   ·rw[e1,hcl]
   ·have hu:=h.ult c l j (by omega) (by omega) hj hcl (by omega) (by omega);have s1:=h.tab.sym j hj c (by omega);have h3:2<=mm ms c l:=(by omega);rw[e1];rcases jO hcl with hlt|hlt
    ·have s2:=h.tab.sym c (by omega) l (by omega);exact(ih l hl (by omega) c hlt (by omega)).symm
    ·exact ih c hc (by omega) l hlt h3
 exact key i hi k hk (by omega)
theorem zgn{bs ms:List (List Int)}{L:List Int}:∀(T:Nat) {o:List KN},Qf bs ms L T=some o->o.length=T/\∀t,t<T->o.getD t ([],[])=(QZ bs (qm L t L.length) (qm L t L.length).length,Zj ms (qm L t L.length) (qm L t L.length).length 0)/\∀j,j<(qm L t L.length).length->(qY (bs.getD ((qm L t L.length).getD j 0).toNat [])).length<=399
 |0,o,h=>by
  simp only[Qf,za]at h;subst h;exact⟨rfl,fun t ht=>absurd ht (by omega)⟩
 |T+1,o,h=>by
  rw[Qf]at h
  cases h1:Qf bs ms L T with
  |none=>rw[h1]at h;cases h
  |some o'=>
   rw[h1,Option.bind_some]at h;split at h
   ·rename_i hall;simp only[za]at h;subst h;obtain⟨i1,i2⟩:=zgn T h1;refine⟨by simp[i1],fun t ht=>?_⟩;by_cases e:t=T
    ·subst e;refine⟨by rw[zd,zR (by omega),i1];simp,fun j hj=>?_⟩;rw[List.all_eq_true]at hall;have:=hall _ (yN hj)
     rwa [gAt hj,okS,decide_eq_true_eq]at this
    ·obtain⟨k1,k2⟩:=i2 t (by omega);exact⟨by rw[zd,zQ (by omega),<-zd];exact k1,k2⟩
   ·cases h
theorem zEo{bs ms:List (List Int)}(h:CvP bs ms)(n:Nat)(hn:n<=bs.length):sg (fun i=>(mul (bs.getD i []) 0:Int)) n=JK bs n:=by
 rw[zs9];exact ZR fun i hi=>Kw (jz (h.br i (by omega)))
theorem zCn{bs ms:List (List Int)}(h:CvP bs ms){o:List KN}(ho:bl bs ms bs.length=some o):
 2*dlC bs ms bs.length=2*sg (fun t=>dlC (o.getD t ([],[])).1 (o.getD t ([],[])).2 (o.getD t ([],[])).1.length) o.length+tw (JK bs bs.length):=by
 obtain⟨t1,t2,t3,t4⟩:=ul ms bs.length;rw[bl]at ho;obtain⟨o1,o2⟩:=zgn _ ho;rw[t1]at o2;obtain⟨T,hT⟩:∃T,T=(yh ms bs.length).2.toNat:=⟨_,rfl⟩;rw[<-hT]at o1 o2;have hD:∀i,i<bs.length->Br (bs.getD i []):=fun i hi=>jz (h.br i hi)
 have e1:sg (fun t=>dlC (o.getD t ([],[])).1 (o.getD t ([],[])).2 (o.getD t ([],[])).1.length) o.length=
  sg (fun t=>eL (fun i=>kf (jn (QI (bs.getD i [])))) (fun i k=>qz bs ms i k-(mul (bs.getD i []) 0:Int)*(mul (bs.getD k []) 0)) (qm (yh ms bs.length).1 t bs.length)) T:=by
  rw[o1];refine ZR fun t ht=>?_;obtain⟨hl,h2⟩:=zgJ h (t:=t) (by omega);rw[(o2 t ht).1];simp only;rw[kV,dlC,eL];refine ZR fun u hu=>?_;rw[zeu hu];congr 1;refine ZR fun v hv=>?_;have:=zq3 h hl h2 hu (k:=v) (by omega) (by omega);omega
 have hG:∀i k,i<bs.length->k<i->(yh ms bs.length).1.getD i 0≠(yh ms bs.length).1.getD k 0->qz bs ms i k-(mul (bs.getD i []) 0:Int)*(mul (bs.getD k []) 0)=0:=fun i k hi hk hne=>by
  have e:=zBH h hi hk hne
  have e3:qz bs ms i k=(mul (bs.getD i []) 0:Int)*(mul (bs.getD k []) 0):=by
   rw[qz,e,zcm (hD i hi) (hD k (by omega)) (by decide)];show 0+(mul (bs.getD i []) 0:Int)*(mul (bs.getD k []) 0)=_;omega
  omega
 rw[e1,ztR _ _ _ T bs.length (fun i hi=>by have:=t4 i hi;omega) hG,<-zEo h _ (zt _),zyj,<-znR,<-zsw,dlC,<-znR];refine ZR fun i hi=>?_;have hd:=zBI (hD i hi);have e4:sg (fun k=>qz bs ms i k-(mul (bs.getD i []) 0:Int)*(mul (bs.getD k []) 0)) i=sg (fun k=>qz bs ms i k) i-sg (fun k=>(mul (bs.getD i []) 0:Int)*(mul (bs.getD k []) 0)) i:=zyq _ _ _;rw[e4];omega
abbrev PtS:Type:=List Int×List Int×Int×Int
def ptD(es:List V)(P S:List Int)(σ:Int×Int):Int×Int×Int×Int:=
 let l:=[1,1,2,(P.length:Int)]
 let m:=min (P.length:Int) (Yn es σ l)
 let par:=(P.length:Int)-1-kw es (KH es σ l) m
 let τ:=qa es (KH es σ l) m
 if kw es τ 2=0 then
  if 0<=S.getD par.toNat 0 then(par,if kw es (qa es τ 2) 2=0 then S.getD par.toNat 0 else P.getD par.toNat 0,qa es (qa es τ 2) 2)
  else(par,P.getD par.toNat 0,qa es τ 2)
 else(par,-1,qa es τ 2)
def ptC(P S:List Int)(par s:Int):Nat->Int
 |0=>s
 |j+1=>if 0<=ptC P S par s j/\P.getD (j+1) 0=par/\S.getD (j+1) 0=ptC P S par s j then-1 else ptC P S par s j
def ptR(es:List V)(x:PtS):PtS:=
 let d:=ptD es x.1 x.2.1 x.2.2
 (x.1++[d.1],x.2.1++[ptC x.1 x.2.1 d.1 d.2.1 (x.1.length-1)],d.2.2)
def ptN(es:List V):Nat->PtS->PtS
 |0,x=>x
 |k+1,x=>ptN es k (ptR es x)
def ptF(es:List V)(σ:Int×Int)(most:Int):PtS:=ptN es (kw es σ most).toNat ([-1],[-1],qa es σ most)
structure PtOk (es:List V) (x:PtS) (k:Nat):Prop where
 n1:1<=x.1.length
 n:x.1.length+k<=24
 sl:x.2.1.length=x.1.length
 src:yi es x.2.2.1 x.2.2.2
theorem zC6{es:List V}{P S:List Int}{σ:Int×Int}(hq:yi es σ.1 σ.2)(hn:1<=P.length):0<=(ptD es P S σ).1/\(ptD es P S σ).1<P.length/\yi es (ptD es P S σ).2.2.1 (ptD es P S σ).2.2.2:=by
 have hp:=zfX (σ:=σ) (l:=[1,1,2,(P.length:Int)]) hq (by simp);have h1:=zaZ (σ:=σ) (l:=[1,1,2,(P.length:Int)]) hq;have h2:1<=min (P.length:Int) (Yn es σ [1,1,2,(P.length:Int)]):=by simp at hp;omega
 have h3:=zeA (σ:=KH es σ [1,1,2,(P.length:Int)]) h1 h2;have h4:=kb (σ:=KH es σ [1,1,2,(P.length:Int)]) (n:=min (P.length:Int) (Yn es σ [1,1,2,(P.length:Int)])) h1;have h5:=kb (σ:=qa es (KH es σ [1,1,2,(P.length:Int)]) (min (P.length:Int) (Yn es σ [1,1,2,(P.length:Int)]))) (n:=2) h4;have h6:=kb (σ:=qa es (qa es (KH es σ [1,1,2,(P.length:Int)]) (min (P.length:Int) (Yn es σ [1,1,2,(P.length:Int)]))) 2) (n:=2) h5;unfold ptD;simp only;split
 ·split
  ·exact⟨by simp only;omega,by simp only;omega,h6⟩
  ·exact⟨by simp only;omega,by simp only;omega,h5⟩
 ·exact⟨by simp only;omega,by simp only;omega,h5⟩
theorem PtOk.round{es:List V}{x:PtS}{k:Nat}(h:PtOk es x (k+1)):PtOk es (ptR es x) k:=by
 obtain⟨h1,h2,h3,h4⟩:=h;have h5:=zC6 (S:=x.2.1) (σ:=x.2.2) h4 h1;refine⟨?_,?_,?_,h5.2.2⟩<;>simp only[ptR,zp,zi,zq]<;>omega
theorem PtOk.run{es:List V}:∀{k:Nat} {x:PtS},PtOk es x k->PtOk es (ptN es k x) 0
 |0,_,h=>h
 |_+1,_,h=>h.round.run
theorem zyD{es:List V}{σ:Int×Int}{most:Int}(hq:yi es σ.1 σ.2)(h1:1<=most)(h2:most<=24):PtOk es (ptF es σ most) 0:=by
 have h3:=zeA (σ:=σ) hq h1;exact PtOk.run ⟨by simp,by simp;omega,rfl,kb (σ:=σ) hq⟩
def zr0(es:List V)(a h m:Int):List V×List V×List V×Int×Int:=
 (I (ptF es (a,h) m).1,I (ptF es (a,h) m).2.1,I (List.replicate (ptF es (a,h) m).1.length 0),(ptF es (a,h) m).2.2)
def zxq(es:List V)(a h m:Int):Prop:=yi es a h/\1<=m/\m<=24
def zts(f:List V->Int->Int->Int->List V×List V×List V×Int×Int)(q:List V->Int->Int->Int->Prop):uk:=fun
 |[.box 101 (.agg [.slc false 5 (.int .u8 0) a0,.int .i64 a1,.int .u64 a2]),.int .i64 a3]=>some ([q a0 a1 a2 a3],.agg [.slc true 2 (.int .i64 0) (f a0 a1 a2 a3).1,.slc true 2 (.int .i64 0) (f a0 a1 a2 a3).2.1,.slc true 2 (.int .i64 0) (f a0 a1 a2 a3).2.2.1],.box 101 (.agg [.slc false 5 (.int .u8 0) a0,.int .i64 (f a0 a1 a2 a3).2.2.2.1,.int .u64 (f a0 a1 a2 a3).2.2.2.2]))
 |_=>none
theorem zmE:zgp Tryz.prog 113 1000 (zts zr0 zxq):=by
 intro args ps r y h hp;unfold zts at h;split at h
 ·rename_i a0 a1 a2 a3;cases h;obtain⟨hq,m1,m2⟩:zxq a0 a1 a2 a3:=(zm.1 hp).1;obtain⟨k0,hk0⟩:∃k0:Int,k0=kw a0 (a1,a2) a3:=⟨_,rfl⟩;have hk:=zeA (σ:=(a1,a2)) (n:=a3) hq m1;rw[<-hk0]at hk;obtain⟨E,hE⟩:∃E,E=ptF a0 (a1,a2) a3:=⟨_,rfl⟩;generalize yZ:jT=jS;generalize yY:ky=jR;generalize yX:kS=jQ;generalize jj:zfS=Zb;generalize jL:QE=ZF;generalize jK:Jk=ZE;generalize jJ:Jj=ZD;generalize kP:zfR=YK;refine zh2 (T:=tab) (B:=[]) (Bi:=[(41,0,false,zc0 jS jR jQ Zb),(42,0,false,zff ZF ZE ZD YK)]) 0 [2000006831,0,1,4,5,6,7,8,9,10] Tryz.func113 rfl rfl (by kernel_rfl) (ze rfl) mixed zP (by subst yZ yY yX jj jL jK jJ kP;exact zA) (by subst yZ yY yX jj jL jK jJ kP;exact(ja uJ (ja ZS zx))) (by kernel_rfl) rfl rfl zcJ rfl ?_;intro L lp rr yy hL hr hy hf hlp
  conv=>cbv
  obtain⟨b1,hb1⟩:∃b1,b1=ky a0 a1 a2 a3:=⟨_,rfl⟩;obtain⟨b2,hb2⟩:∃b2,b2=kS a0 a1 a2 a3:=⟨_,rfl⟩;have e0:jS a0 a1 a2 a3=k0:=by rw[<-yZ,hk0]
  have e1:jR a0 a1 a2 a3=b1:=by rw[<-yY,hb1]
  have e2:jQ a0 a1 a2 a3=b2:=by rw[<-yX,hb2]
  have Qn:∀a h n,yi a0 a h->Zb a0 a h n:=fun a h n hs=>by rw[<-jj];exact hs
  have ok0:PtOk a0 ([-1],[-1],b1,b2) k0.toNat:=⟨by simp,by simp;omega,rfl,by rw[hb1,hb2];exact uE hq⟩;have hE0:ptN a0 k0.toNat ([-1],[-1],b1,b2)=E:=by rw[hE,hb1,hb2,hk0];rfl
  simp only[zo hL,sQ,true_and,e0,e1,e2];refine⟨Qn _ _ _ hq,?_⟩
  refine hlp (List V×List V×List V×Int×Int×Int) _ _ _ [0,4,5,6] (fun x=>[(0,none,.val (.box 101 (.agg [.slc false 5 (.int .u8 0) a0,.int .i64 x.2.2.2.1,.int .u64 x.2.2.2.2.1]))),(4,none,.val (.box 31 (.agg [.slc true 2 (.int .i64 0) [],.slc true 2 (.int .i64 0) [],.slc true 2 (.int .i64 0) []]))),(5,none,.val (.box 31 (.agg [.slc true 2 (.int .i64 0) x.1,.slc true 2 (.int .i64 0) x.2.1,.slc true 2 (.int .i64 0) x.2.2.1]))),(6,none,.val (.int .i64 x.2.2.2.2.2))])
   (fun x=>0<=x.2.2.2.2.2/\∃P S:List Int,x.1=I P/\x.2.1=I S/\x.2.2.1=I (List.replicate P.length 0)/\PtOk a0 (P,S,x.2.2.2.1,x.2.2.2.2.1) x.2.2.2.2.2.toNat/\ptN a0 x.2.2.2.2.2.toNat (P,S,x.2.2.2.1,x.2.2.2.2.1)=E) (fun x=>x.2.2.2.2.2.toNat) ((I [-1],I [-1],I [0],b1,b2,k0)) (by subst hL;rfl) ?_ ?_
  ·exact⟨by simp only;omega,[-1],[-1],rfl,rfl,rfl,ok0,hE0⟩
  rintro⟨vp,vs,vw,a,h,k⟩ ⟨i0,P,S,hP,hS,hW,hok,hN⟩ hfx ag hag;simp only at i0 hP hS hW hok hN;have hsrc:yi a0 a h:=hok.src;have hn1:=hok.n1;have hn24:=hok.n;have hsl:=hok.sl;simp only at hsrc hn1 hn24 hsl;obtain⟨il,hil⟩:∃il:Int,il=P.length:=⟨_,rfl⟩;have hvl:vp.length=P.length:=by rw[hP,zj]
  have hsl2:vs.length=P.length:=by rw[hS,zj,hsl]
  have hwl:vw.length=P.length:=by rw[hW,zj,zE]
  have gP:∀k,vp.getD k (.int .i64 0)=.int .i64 (P.getD k 0):=fun k=>by rw[hP,zO]
  have gS:∀k,vs.getD k (.int .i64 0)=.int .i64 (S.getD k 0):=fun k=>by rw[hS,zO]
  obtain⟨m,hm⟩:∃m,m=QE a0 a h (I [1,1,2,il]):=⟨_,rfl⟩;obtain⟨A1,hA1⟩:∃A1,A1=Jk a0 a h (I [1,1,2,il]):=⟨_,rfl⟩;obtain⟨H1,hH1⟩:∃H1,H1=Jj a0 a h (I [1,1,2,il]):=⟨_,rfl⟩;obtain⟨mi,hmi⟩:∃mi,mi=min il m:=⟨_,rfl⟩;obtain⟨par,hpar⟩:∃par,par=il-1-jT a0 A1 H1 mi:=⟨_,rfl⟩;obtain⟨A2,hA2⟩:∃A2,A2=ky a0 A1 H1 mi:=⟨_,rfl⟩;obtain⟨H2,hH2⟩:∃H2,H2=kS a0 A1 H1 mi:=⟨_,rfl⟩;obtain⟨u,hu⟩:∃u,u=jT a0 A2 H2 2:=⟨_,rfl⟩;obtain⟨A3,hA3⟩:∃A3,A3=ky a0 A2 H2 2:=⟨_,rfl⟩;obtain⟨H3,hH3⟩:∃H3,H3=kS a0 A2 H2 2:=⟨_,rfl⟩;obtain⟨v,hv⟩:∃v,v=jT a0 A3 H3 2:=⟨_,rfl⟩;obtain⟨A4,hA4⟩:∃A4,A4=ky a0 A3 H3 2:=⟨_,rfl⟩;obtain⟨H4,hH4⟩:∃H4,H4=kS a0 A3 H3 2:=⟨_,rfl⟩
  have hD:ptD a0 P S (a,h)=if u=0 then(if 0<=S.getD par.toNat 0 then(par,if v=0 then S.getD par.toNat 0 else P.getD par.toNat 0,A4,H4)else(par,P.getD par.toNat 0,A3,H3))else(par,-1,A3,H3):=by
   subst hH4 hA4 hv hH3 hA3 hu hH2 hA2 hpar hmi hH1 hA1 hm hil;rfl
  have mp:m∈[1,1,2,il]:=by rw[hm];exact zfX (σ:=(a,h)) (l:=[1,1,2,il]) hsrc (by simp)
  have s1:yi a0 A1 H1:=by rw[hA1,hH1];exact uE hsrc
  have m1:1<=mi:=by simp at mp;omega
  have d1:=YZ (n:=mi) s1 m1;have s2:yi a0 A2 H2:=by rw[hA2,hH2];exact uE s1
  have s3:yi a0 A3 H3:=by rw[hA3,hH3];exact uE s2
  have s4:yi a0 A4 H4:=by rw[hA4,hH4];exact uE s3
  have g3:∀l,l=I [1,1,2,il]->ZF a0 a h l=m/\ZE a0 a h l=A1/\ZD a0 a h l=H1/\YK a0 a h l:=by
   intro l hl;rw[hl,<-jL,<-jK,<-jJ,<-kP,hm,hA1,hH1];exact⟨rfl,rfl,rfl,hsrc,⟨_,rfl⟩,by simp,by simp⟩
  obtain⟨g4,g5,g6,g7⟩:=g3 (V.frzs (V.frzs [V.int IntKind.i64 1,V.int IntKind.i64 1,V.int IntKind.i64 2,V.int IntKind.i64 il])) rfl;have g8:jS a0 A1 H1 mi=il-1-par:=by rw[<-yZ];omega
  have g9:jR a0 A1 H1 mi=A2:=by rw[<-yY,hA2]
  have g10:jQ a0 A1 H1 mi=H2:=by rw[<-yX,hH2]
  have g11:jS a0 A2 H2 2=u:=by rw[<-yZ,hu]
  have g12:jR a0 A2 H2 2=A3:=by rw[<-yY,hA3]
  have g13:jQ a0 A2 H2 2=H3:=by rw[<-yX,hH3]
  have g14:jS a0 A3 H3 2=v:=by rw[<-yZ,hv]
  have g15:jR a0 A3 H3 2=A4:=by rw[<-yY,hA4]
  have g16:jQ a0 A3 H3 2=H4:=by rw[<-yX,hH4]
  have wi:IntKind.wrap .i64 (il-1)=il-1:=zk (by omega) (by omega);have wp:IntKind.wrap .i64 (il-1-(il-1-par))=par:=by rw[show il-1-(il-1-par)=par by omega];exact zk (by omega) (by omega)
  conv=>cbv
  simp only[zo hL,sQ,true_and,hvl,hsl2,hwl,<-hil,g4,g5,g6,g7,<-hmi,g8,g9,g10,g11,g12,g13,g14,g15,g16,wi,wp,gP,gS]
  have hR:∀sec A H,ptD a0 P S (a,h)=(par,sec,A,H)->0<k->PtOk a0 (P++[par],S++[ptC P S par sec (P.length-1)],A,H) (k-1).toNat/\ptN a0 (k-1).toNat (P++[par],S++[ptC P S par sec (P.length-1)],A,H)=E:=by
   intro sec A H e hk;have e2:k.toNat=(k-1).toNat+1:=(by omega);have e3:ptR a0 (P,S,a,h)=(P++[par],S++[ptC P S par sec (P.length-1)],A,H):=(by simp only[ptR,e]);rw[e2]at hok hN;rw[<-e3];exact⟨hok.round,hN⟩
  have wk:IntKind.wrap .i64 (k-1)=k-1:=zk (by omega) (by omega);refine⟨fun hk=>⟨Qn _ _ _ s1,Qn _ _ _ s2,fun u0=>⟨by omega,by omega,by omega,by omega,by omega,by omega,fun sp=>⟨sp,Qn _ _ _ s3,fun v0=>⟨by omega,by omega,by omega,?a⟩,fun v0=>?b⟩,fun sp=>⟨fun hh=>absurd hh.1 sp,fun _=>?c⟩⟩,fun u0=>?d⟩,fun hk=>?e⟩
  case' a=>
   have hD5:ptD a0 P S (a,h)=(par,S.getD par.toNat 0,A4,H4):=(by rw[hD,if_pos u0,if_pos sp,if_pos v0.2]);obtain⟨sec,hsec⟩:∃sec,sec=S.getD par.toNat 0:=⟨_,rfl⟩;obtain⟨A5,hA5⟩:∃A5,A5=A4:=⟨_,rfl⟩;obtain⟨H5,hH5⟩:∃H5,H5=H4:=⟨_,rfl⟩;rw[<-hsec,<-hA5,<-hH5]at hD5 ⊢
  case' b=>
   have hD5:ptD a0 P S (a,h)=(par,P.getD par.toNat 0,A4,H4):=(by rw[hD,if_pos u0,if_pos sp,if_neg (by omega)]);obtain⟨sec,hsec⟩:∃sec,sec=P.getD par.toNat 0:=⟨_,rfl⟩;obtain⟨A5,hA5⟩:∃A5,A5=A4:=⟨_,rfl⟩;obtain⟨H5,hH5⟩:∃H5,H5=H4:=⟨_,rfl⟩;rw[<-hsec,<-hA5,<-hH5]at hD5 ⊢
  case' c=>
   have hD5:ptD a0 P S (a,h)=(par,P.getD par.toNat 0,A3,H3):=(by rw[hD,if_pos u0,if_neg sp]);obtain⟨sec,hsec⟩:∃sec,sec=P.getD par.toNat 0:=⟨_,rfl⟩;obtain⟨A5,hA5⟩:∃A5,A5=A3:=⟨_,rfl⟩;obtain⟨H5,hH5⟩:∃H5,H5=H3:=⟨_,rfl⟩;rw[<-hsec,<-hA5,<-hH5]at hD5 ⊢
  case' d=>
   have hD5:ptD a0 P S (a,h)=(par,-1,A3,H3):=(by rw[hD,if_neg u0]);obtain⟨sec,hsec⟩:∃sec:Int,sec= -1:=⟨_,rfl⟩;obtain⟨A5,hA5⟩:∃A5,A5=A3:=⟨_,rfl⟩;obtain⟨H5,hH5⟩:∃H5,H5=H3:=⟨_,rfl⟩;rw[<-hsec]at hD5;rw[<-hA5,<-hH5]at hD5 ⊢
  case e=>
   have hk0:k.toNat=0:=(by omega);rw[hk0]at hN;rw[hr,hy,zr0,<-hE,<-hN,hP,hS,hW];exact⟨rfl,rfl⟩
  all_goals
   clear hN hok hE0 ok0 e0 e1 e2 g3 g4 g5 g6 g7 g8 g9 g10 g11 g12 g13 g14 g15 g16 hD hm hA1 hH1 hmi hpar hA2 hH2 hu hA3 hH3 hv hA4 hH4 mp s1 m1 d1 s2 s3 s4 hE hb1 hb2 hk0 hq Qn wi wp hA5 hH5
   refine hlp (Int×Int) _ _ _ [0,4,5,6,7,8,9,10] (fun x=>[(0,none,.val (.box 101 (.agg [.slc false 5 (.int .u8 0) a0,.int .i64 A5,.int .u64 H5]))),(4,none,.val (.box 31 (.agg [.slc true 2 (.int .i64 0) [],.slc true 2 (.int .i64 0) [],.slc true 2 (.int .i64 0) []]))),(5,none,.val (.box 31 (.agg [.slc true 2 (.int .i64 0) vp,.slc true 2 (.int .i64 0) vs,.slc true 2 (.int .i64 0) vw]))),(6,none,.val (.int .i64 k)),(7,none,.val (.int .i64 il)),(8,none,.val (.int .i64 par)),(9,none,.val (.int .i64 x.1)),(10,none,.val (.int .i64 x.2))])
    (fun x=>1<=x.2/\x.2<=il/\x.1=ptC P S par sec (x.2-1).toNat) (fun x=>(il-x.2).toNat) ((sec,1)) (by subst hL;first|rfl|(rw[hsec];rfl)) ?_ ?_
   ·exact⟨by simp,by simp only;omega,rfl⟩
   rintro⟨sx,j⟩ ⟨j1,j2,hJ⟩ hfx2 ag2 hag2;simp only at j1 j2 hJ;have wj:IntKind.wrap .i64 (j+1)=j+1:=zk (by omega) (by omega)
   have hst:ptC P S par sec (j+1-1).toNat=if 0<=sx/\P.getD j.toNat 0=par/\S.getD j.toNat 0=sx then-1 else sx:=by
    rw[show(j+1-1).toNat=(j-1).toNat+1 by omega,ptC,<-hJ,show(j-1).toNat+1=j.toNat by omega]
   conv=>cbv
   simp only[zo hL,sQ,true_and,hvl,hsl2,hwl,gP,gS,wj,wk];refine⟨fun h2=>⟨fun _=>by omega,fun _=>by omega,fun _=>by omega,fun _=>trivial,fun _=>by omega,fun _=>by omega,fun _=>by omega,fun _=>trivial,fun h3=>?_,fun h3=>?_⟩,fun h2=>?_⟩
   ·refine hag2 (-1,j+1) ⟨by simp only;omega,by simp only;omega,?_⟩ (by simp only;omega);simp only;rw[hst,if_pos ⟨h3.1.1,h3.1.2,h3.2⟩]
   ·refine hag2 (sx,j+1) ⟨by simp only;omega,by simp only;omega,?_⟩ (by simp only;omega);simp only
    rw[hst,if_neg (fun h4=>by
     rcases h3 with(h3|h3)|h3
     ·exact h3 h4.1
     ·exact h3 h4.2.1
     ·exact h3 h4.2.2)]
   ·obtain⟨t1,t2⟩:=hR sec A5 H5 hD5 hk;rw[show(j-1).toNat=P.length-1 by omega]at hJ;rw[<-hJ]at t1 t2;refine⟨rfl,by simp only[zi,zq];omega,yr _,rfl,by simp only[zi,zq];omega,yr _,rfl,by simp only[zi,zq];omega,yr _,?_⟩;refine hag (_,_,_,A5,H5,k-1) ⟨by simp only;omega,_,_,?_,?_,?_,t1,t2⟩ (by simp only;omega)
    ·simp only;rw[hP,<-jb];rfl
    ·simp only;rw[hS,<-jb];rfl
    ·simp only;rw[hW,zp,yj,qM,<-jb];rfl
 ·cases h
def zmz(o:List Int)(p x:Int):List Int:=o.set p.toNat (W (o.getD p.toNat 0+x))
def zmy(P S:List Int):Nat->List Int->List Int
 |0,o=>o
 |n+1,o=>
  let o1:=zmz o (P.getD (n+1) 0) (o.getD (n+1) 0)
  zmy P S n (if 0<=S.getD (n+1) 0 then zmz o1 (S.getD (n+1) 0) (o1.getD (n+1) 0)else o1)
def zmx(P S:List Int)(i:Nat):List Int:=zmy P S i ((List.replicate P.length 0).set i 1)
theorem zzU(o:List Int)(p x:Int):(zmz o p x).length=o.length:=yG
theorem zsu(P S:List Int):∀(n:Nat) (o:List Int),(zmy P S n o).length=o.length
 |0,_=>rfl
 |n+1,o=>by
  rw[zmy,zsu P S n];split<;>simp only[zzU]
def zud(f:List V->List V->List V->Int->List V)(q:List V->List V->List V->Int->Prop):zN:=fun
 |[.agg [.slc false 2 (.int .i64 0) a0,.slc false 2 (.int .i64 0) a1,.slc false 2 (.int .i64 0) a2],.int .i64 a3]=>some ([q a0 a1 a2 a3],.slc true 2 (.int .i64 0) (f a0 a1 a2 a3))
 |_=>none
def zoz(a b _:List V)(i:Int):List V:=I (zmx (qj a) (qj b) i.toNat)
def zxo(a b c:List V)(i:Int):Prop:=zeS a b c/\0<=i/\i<a.length
theorem zmD:yI Tryz.prog 133 (zud zoz zxo):=by
 intro args ps r h hp;unfold zud at h;split at h
 ·rename_i a0 a1 a2 a3;cases h;obtain⟨hqv,i0,i1⟩:zxo a0 a1 a2 a3:=(zm.1 hp).1;obtain⟨⟨⟨P,hP⟩,⟨S,hS⟩,⟨Q,hQ⟩⟩,hcl⟩:=id hqv;rw[hP,hS,hQ,zr,zr,zr]at hcl;have hpl:a0.length=P.length:=by rw[hP,zj]
  have hsl:a1.length=P.length:=by rw[hS,zj,hcl.sl]
  have gp:∀k,a0.getD k (.int .i64 0)=.int .i64 (P.getD k 0):=fun k=>by rw[hP,zO]
  have gs:∀k,a1.getD k (.int .i64 0)=.int .i64 (S.getD k 0):=fun k=>by rw[hS,zO]
  have hf0:zoz a0 a1 a2 a3=I (zmx P S a3.toNat):=by rw[zoz,hP,hS,zr,zr]
  obtain⟨n,hn⟩:∃n:Int,n=P.length:=⟨_,rfl⟩;have n1:=hcl.n1;have n24:=hcl.n24;have low:=fun t ht=>hcl.low (i:=t) ht;rw[hpl]at i1;refine zC (T:=tab) (B:=[]) (Bi:=[]) [0,1,2,4,5,6] Tryz.func133 rfl rfl (by kernel_rfl) (ze rfl) mixed zP (by exact zA) (by exact zx) (by kernel_rfl) ?_;intro L lp rr hL hr hf hlp
  conv=>cbv
  simp only[zo hL,sQ,zhI,zam,zE,hpl,hsl,<-hn];refine⟨by omega,qJ _,by omega,i0,by omega,by omega,?_⟩;obtain⟨vz,hvz⟩:∃vz,vz=I ((List.replicate n.toNat 0).set a3.toNat 1):=⟨_,rfl⟩;obtain⟨E,hE⟩:∃E,E=zmx P S a3.toNat:=⟨_,rfl⟩;rw[<-hvz]
  refine hlp (List V×Int) _ _ _ [2,5,6] (fun x=>[(2,none,.val (.box 31 (.agg [.slc false 2 (.int .i64 0) a0,.slc false 2 (.int .i64 0) a1,.slc false 2 (.int .i64 0) a2]))),(5,none,.val (.slc true 2 (.int .i64 0) x.1)),(6,none,.val (.int .i64 x.2))])
   (fun x=>0<=x.2/\x.2<=a3/\∃o,x.1=I o/\o.length=P.length/\zmy P S x.2.toNat o=E) (fun x=>x.2.toNat) ((vz,a3)) (by subst hL;rfl) ?_ ?_
  ·refine⟨i0,qJ _,_,hvz,by rw[yG,zE];omega,?_⟩;rw[hE,hn];rfl
  rintro⟨vl,j⟩ ⟨j0,j1,o,hO,hol,hoE⟩ hfx ag hag;simp only at j0 j1 hO hol hoE;have hvl:vl.length=P.length:=by rw[hO,zj,hol]
  have go:∀k,vl.getD k (.int .i64 0)=.int .i64 (o.getD k 0):=fun k=>by rw[hO,zO]
  have gset:∀k x,vl.set k (.int .i64 x)=I (o.set k x):=fun k x=>by rw[hO,zam]
  conv=>cbv
  simp only[zo hL,sQ,hpl,hsl,hvl,gp,gs,go,gset,zam,yG,hol];rw[zk (n:=j-1) (by omega) (by omega)];refine⟨fun h=>?_,fun h=>?_⟩
  ·obtain⟨l1,l2,l3,l4,l5,l6⟩:=low j.toNat (by omega);have l4:=l4 (by omega);have l5:=l5 (by omega)
   have hst:zmy P S j.toNat o=zmy P S (j-1).toNat (if 0<=S.getD j.toNat 0 then zmz (zmz o (P.getD j.toNat 0) (o.getD j.toNat 0)) (S.getD j.toNat 0) ((zmz o (P.getD j.toNat 0) (o.getD j.toNat 0)).getD j.toNat 0)else zmz o (P.getD j.toNat 0) (o.getD j.toNat 0)):=by
    rw[show j.toNat=(j-1).toNat+1 by omega];rfl
   rw[hoE]at hst;obtain⟨p,hp0⟩:∃p,p=P.getD j.toNat 0:=⟨_,rfl⟩;obtain⟨q,hq0⟩:∃q,q=S.getD j.toNat 0:=⟨_,rfl⟩;simp only[<-hp0,<-hq0]at l1 l2 l3 l4 l5 hst ⊢;refine⟨by omega,by omega,by omega,by omega,by omega,by omega,by omega,by omega,by omega,by omega,by omega,by omega,by omega,by omega,by omega,fun h2=>⟨by omega,by omega,by omega,by omega,by omega,by omega,by omega,by omega,by omega,by omega,by omega,by omega,by omega,?_⟩,fun h2=>?_⟩
   ·rw[if_pos h2]at hst;exact hag (_,j-1) ⟨by simp only;omega,by simp only;omega,_,rfl,by simp only[yG,hol],hst.symm⟩ (by simp only;omega)
   ·rw[if_neg h2]at hst;exact hag (_,j-1) ⟨by simp only;omega,by simp only;omega,_,rfl,by simp only[yG,hol],hst.symm⟩ (by simp only;omega)
  ·rw[hr,hf0,<-hE,<-hoE,show j.toNat=0 by omega,hO];rfl
 ·cases h
def zuc(f:List V->List V->List V->List V->List V×List V×List V)(q:List V->List V->List V->List V->Prop):zN:=fun
 |[.agg [.slc false 2 (.int .i64 0) a0,.slc false 2 (.int .i64 0) a1,.slc false 2 (.int .i64 0) a2],.slc false 2 (.int .i64 0) a3]=>some ([q a0 a1 a2 a3],.agg [.slc false 2 (.int .i64 0) ((f a0 a1 a2 a3).1),.slc false 2 (.int .i64 0) ((f a0 a1 a2 a3).2.1),.slc false 2 (.int .i64 0) ((f a0 a1 a2 a3).2.2)])
 |_=>none
def zy3(a b _ d:List V):List V×List V×List V:=(a,b,d)
def zsM(a b c d:List V):Prop:=uf a/\uf b/\JJ c/\JJ d
theorem zph:yI Tryz.prog 135 (zuc zy3 zsM):=by
 intro args ps r h hp;unfold zuc at h;split at h
 ·rename_i a0 a1 a2 a3;cases h;obtain⟨h0,h1,h2,h3⟩:zsM a0 a1 a2 a3:=(zm.1 hp).1;obtain⟨P,hP⟩:=h0.1;obtain⟨S,hS⟩:=h1.1;obtain⟨Q,hQ⟩:=h3;have g0:V.frzs a0=a0:=by rw[hP,zD]
  have g1:V.frzs a1=a1:=by rw[hS,zD]
  have g3:V.frzs a3=a3:=by rw[hQ,zD]
  generalize uc:same=YJ;generalize yA:uf=jq;refine zb7 (T:=tab) (B:=[(141,uQ YJ jq)]) (Bi:=[]) [2000001007,2000001010,0,1,2,4] Tryz.func135 rfl rfl (by kernel_rfl) (ze rfl) mixed zP (by subst uc yA;exact(zn zeR zA)) (by subst uc yA;exact zx) (by kernel_rfl) ?_;intro L lp rr hL hr hf hlp
  conv=>cbv
  subst uc yA;simp only[zo hL,sQ,same,g0,g1,g3];exact⟨h0,h1,hr.symm⟩
 ·cases h
def zug(f:List V->List V->List V->List V×List V×List V×Int)(q:List V->List V->List V->Prop):zN:=fun
 |[.agg [.slc false 2 (.int .i64 0) a0,.slc false 2 (.int .i64 0) a1,.slc false 2 (.int .i64 0) a2]]=>some ([q a0 a1 a2],.tup [.agg [.slc false 2 (.int .i64 0) ((f a0 a1 a2).1),.slc false 2 (.int .i64 0) ((f a0 a1 a2).2.1),.slc false 2 (.int .i64 0) ((f a0 a1 a2).2.2.1)],.int .i64 ((f a0 a1 a2).2.2.2)])
 |_=>none
noncomputable def zai(a b c:List V):List V×List V×List V×Int:=bif uh a b c then(a,b,c,0)else([],[],[],3)
theorem zrD:yI Tryz.prog 134 (zug zai q_K):=by
 intro args ps r h hp;unfold zug at h;split at h
 ·rename_i a0 a1 a2;cases h;have hq:q_K a0 a1 a2:=(zm.1 hp).1;obtain⟨⟨P,hP⟩,⟨S,hS⟩,⟨Q,hQ⟩⟩:=id hq;have g0:V.frzs a0=a0:=by rw[hP,zD]
  have g1:V.frzs a1=a1:=by rw[hS,zD]
  have g2:V.frzs a2=a2:=by rw[hQ,zD]
  generalize uP:uh=zaV;generalize Yx:q_K=zeo;refine zb7 (T:=tab) (B:=[(132,zfj zaV zeo)]) (Bi:=[]) [0,1,2,3] Tryz.func134 rfl rfl (by kernel_rfl) (ze rfl) mixed zP (by subst uP Yx;exact(zn zcP zA)) (by subst uP Yx;exact zx) (by kernel_rfl) ?_;intro L lp rr hL hr hf hlp
  conv=>cbv
  subst uP Yx;simp only[zo hL,sQ,g0,g1,g2];refine⟨hq,fun h=>?_,fun h=>?_⟩
  ·rw[hr,zai,h];rfl
  ·rw[hr,zai,h];rfl
 ·cases h
def zji(e:Int)(own:List Int):Nat->List Int->List Int
 |0,w=>w
 |k+1,w=>(zji e own k w).set k (W ((zji e own k w).getD k 0+W (e*own.getD k 0)))
def zeO(P S d:List Int):Nat->List Int
 |0=>List.replicate d.length 0
 |i+1=>zji (d.getD i 0) (zmx P S i) P.length (zeO P S d i)
theorem znh(e:Int)(own:List Int):∀(k:Nat) (w:List Int),(zji e own k w).length=w.length
 |0,_=>rfl
 |k+1,w=>by rw[zji,yG,znh e own k]
theorem zms(P S d:List Int):∀i,(zeO P S d i).length=d.length
 |0=>zE
 |i+1=>by rw[zeO,znh,zms P S d i]
def zja(d:List Int):Bool:=d.all fun x=>decide (-1000<=x)&&decide (x<=1000)
theorem zCi{d:List Int}{i:Nat}(hi:i<d.length)(h:¬(-1000<=d.getD i 0/\d.getD i 0<=1000)):zja d=false:=by
 rw[zja,List.all_eq_false];refine⟨d.getD i 0,?_,by simpa [Int.not_le]using h⟩;rw[zd,zg hi];exact yN _
theorem zAB{d:List Int}(h:∀i,i<d.length->-1000<=d.getD i 0/\d.getD i 0<=1000):zja d=true:=by
 rw[zja,List.all_eq_true];intro x hx;obtain⟨i,hi,rfl⟩:=yM.1 hx;have:=h i hi;rw[zd,zg hi]at this;simpa using this
def zpZ(f:List V->List V->List V->List V->List V×List V×List V×Int)(q:List V->List V->List V->List V->Prop):zN:=fun
 |[.agg [.slc false 2 (.int .i64 0) a0,.slc false 2 (.int .i64 0) a1,.slc false 2 (.int .i64 0) a2],.slc false 2 (.int .i64 0) a3]=>some ([q a0 a1 a2 a3],.tup [.agg [.slc false 2 (.int .i64 0) ((f a0 a1 a2 a3).1),.slc false 2 (.int .i64 0) ((f a0 a1 a2 a3).2.1),.slc false 2 (.int .i64 0) ((f a0 a1 a2 a3).2.2.1)],.int .i64 ((f a0 a1 a2 a3).2.2.2)])
 |_=>none
noncomputable def Zm(a b c d:List V):List V×List V×List V×Int:=
 bif uh a b c then(bif decide (d.length=a.length)&&zja (qj d)then zai a b (I (zeO (qj a) (qj b) (qj d) d.length))else([],[],[],2))else([],[],[],1)
def zxw(a b c d:List V):Prop:=q_K a b c/\JJ d
theorem zfO:yI Tryz.prog 114 (zpZ Zm zxw):=by
 intro args ps r h hp;unfold zpZ at h;split at h
 ·rename_i a0 a1 a2 a3;cases h;obtain⟨hq,D,hD⟩:zxw a0 a1 a2 a3:=(zm.1 hp).1;obtain⟨⟨P,hP⟩,⟨S,hS⟩,⟨Q,hQ⟩⟩:=id hq;have g0:V.frzs a0=a0:=by rw[hP,zD]
  have g1:V.frzs a1=a1:=by rw[hS,zD]
  have g2:V.frzs a2=a2:=by rw[hQ,zD]
  have hpl:a0.length=P.length:=by rw[hP,zj]
  have hdl:a3.length=D.length:=by rw[hD,zj]
  have gd:∀k,a3.getD k (.int .i64 0)=.int .i64 (D.getD k 0):=fun k=>by rw[hD,zO]
  obtain⟨n,hn⟩:∃n:Int,n=P.length:=⟨_,rfl⟩;obtain⟨m,hm⟩:∃m:Int,m=D.length:=⟨_,rfl⟩;have hf1:uh a0 a1 a2=false->Zm a0 a1 a2 a3=([],[],[],1):=fun h=>by rw[Zm,h];rfl
  have hf2:uh a0 a1 a2=true->(D.length≠P.length\/zja D=false)->Zm a0 a1 a2 a3=([],[],[],2):=fun h h2=>by
   rw[Zm,h,hdl,hpl,hD,zr];rcases h2 with h2|h2
   ·rw[decide_eq_false h2];rfl
   ·rw[h2,Bool.and_false];rfl
  have hf3:uh a0 a1 a2=true->D.length=P.length->zja D=true->Zm a0 a1 a2 a3=zai a0 a1 (I (zeO P S D P.length)):=fun h h2 h3=>by
   rw[Zm,h,hdl,hpl,hD,zr,h3,decide_eq_true h2,hP,hS,zr,zr,h2];rfl
  generalize uP:uh=zaV;generalize Yx:q_K=zeo;generalize yk:yu=qR;generalize zqj:zoz=zqJ;generalize zp6:zxo=zwH;generalize zns:zy3=zuT;generalize znk:zsM=zuL;generalize zlF:zai=zlJ;refine zb7 (T:=tab) (B:=[(132,zfj zaV zeo),(82,qW qR),(133,zud zqJ zwH),(135,zuc zuT zuL),(134,zug zlJ zeo)]) (Bi:=[]) [1000019007,0,1,2,4,5,6,7,8,9,10,11,12] Tryz.func114 rfl rfl (by kernel_rfl) (ze rfl) mixed zP (by subst uP Yx yk zqj zp6 zns znk zlF;exact(zn zcP (zn Ym (zn zmD (zn zph (zn zrD zA)))))) (by subst uP Yx yk zqj zp6 zns znk zlF;exact zx) (by kernel_rfl) ?_;intro L lp rr hL hr hf hlp;have Ef:zaV a0 a1 a2=uh a0 a1 a2:=by rw[<-uP]
  have Ei:∀x,qR x (-1000) 1000=(decide (-1000<=x)&&decide (x<=1000)):=fun x=>by rw[<-yk];rfl
  conv=>cbv
  simp only[zo hL,sQ,g0,g1,g2,Ef,hpl,hdl,<-hn,<-hm];refine⟨by rw[<-Yx];exact hq,fun h=>?_,fun hcl0=>⟨fun h=>?_,fun hmn=>?_⟩⟩
  ·rw[hr,hf1 h];rfl
  ·rw[hr,hf2 hcl0 (.inl (by omega))];rfl
  have hqv:zeS a0 a1 a2:=zvV hq hcl0;have hcl:ClP P S Q:=by have:=hqv.2;rwa [hP,hS,hQ,zr,zr,zr]at this
  have n24:=hcl.n24
  refine hlp (Int) _ _ _ [1,2,4,6] (fun x=>[(1,none,.val (.slc false 2 (.int .i64 0) a3)),(2,none,.val (.box 31 (.agg [.slc false 2 (.int .i64 0) a0,.slc false 2 (.int .i64 0) a1,.slc false 2 (.int .i64 0) a2]))),(4,none,.val (.box 31 (.agg [.slc true 2 (.int .i64 0) [],.slc true 2 (.int .i64 0) [],.slc true 2 (.int .i64 0) []]))),(6,none,.val (.int .i64 x))])
   (fun x=>0<=x/\x<=m/\∀t:Nat,t<x.toNat->-1000<=D.getD t 0/\D.getD t 0<=1000) (fun x=>(m-x).toNat) (0) (by subst hL;rfl) ?_ ?_
  ·exact⟨by simp,by omega,fun t ht=>by simp at ht⟩
  rintro i ⟨i0,i1,hI⟩ hfx ag hag
  conv=>cbv
  simp only[zo hL,sQ,g0,g1,g2,hdl,gd,Ei,<-hm];rw[zk (n:=i+1) (by omega) (by omega)];refine⟨fun h2=>⟨i0,h2,fun h3=>?_,fun h3=>?_⟩,fun h2=>?_⟩
  ·rw[hr,hf2 hcl0 (.inr (zCi (i:=i.toNat) (by omega) (fun h4=>by omega)))];rfl
  ·refine hag (i+1) ⟨by omega,by omega,fun t ht=>?_⟩ (by omega)
   by_cases e:t=i.toNat
   ·rw[e];exact h3
   ·exact hI t (by omega)
  have hex:zja D=true:=zAB fun t ht=>hI t (by omega);have hf0:=hf3 hcl0 (by omega) hex;have hdp:D.length=P.length:=by omega
  refine⟨by omega,qJ _,by omega,?_⟩;obtain⟨vz,hvz⟩:∃vz,vz=List.replicate m.toNat (V.int .i64 0):=⟨_,rfl⟩;rw[<-hvz];have hvz2:vz=I (zeO P S D 0):=by rw[hvz,zhI,zeO,hm,zV]
  have Es:∀x:Int,0<=x->zqJ a0 a1 a2 x=I (zmx P S x.toNat):=fun x _=>by rw[<-zqj,zoz,hP,hS,zr,zr]
  have Qs:∀x:Int,0<=x->x<n->zwH a0 a1 a2 x:=by
   rw[<-zp6];exact fun x h1 h2=>⟨hqv,h1,by rw[hpl];omega⟩
  have Ew:∀d,zuT a0 a1 a2 d=(a0,a1,d):=fun d=>by rw[<-zns];rfl
  have Qw:∀d,JJ d->zuL a0 a1 a2 d:=by
   rw[<-znk];exact fun d h=>⟨⟨⟨P,hP⟩,by rw[hpl];omega⟩,⟨⟨S,hS⟩,by rw[hS,zj,hcl.sl];omega⟩,⟨Q,hQ⟩,h⟩
  clear hag hfx ag
  refine hlp (List V×Int) _ _ _ [1,2,4,7,8] (fun x=>[(1,none,.val (.slc false 2 (.int .i64 0) a3)),(2,none,.val (.box 31 (.agg [.slc false 2 (.int .i64 0) a0,.slc false 2 (.int .i64 0) a1,.slc false 2 (.int .i64 0) a2]))),(4,none,.val (.box 31 (.agg [.slc true 2 (.int .i64 0) [],.slc true 2 (.int .i64 0) [],.slc true 2 (.int .i64 0) []]))),(7,none,.val (.slc true 2 (.int .i64 0) x.1)),(8,none,.val (.int .i64 x.2))])
   (fun x=>0<=x.2/\x.2<=m/\x.1=I (zeO P S D x.2.toNat)) (fun x=>(m-x.2).toNat) ((vz,0)) (by subst hL;rfl) ?_ ?_
  ·exact⟨by simp,by simp only;omega,hvz2⟩
  rintro⟨vl,j⟩ ⟨j0,j1,hJ⟩ hfx ag hag;simp only at j0 j1 hJ;have hvl:vl.length=D.length:=by rw[hJ,zj,zms]
  have hfv:V.frzs vl=vl:=by rw[hJ,zD]
  obtain⟨vo,hvo⟩:∃vo,vo=zqJ a0 a1 a2 j:=⟨_,rfl⟩
  conv=>cbv
  simp only[zo hL,sQ,g0,g1,g2,hdl,<-hm,hvl,hfv,Ew,<-hvo];refine⟨fun h3=>⟨Qs _ j0 (by omega),?_⟩,fun h3=>?_⟩
  ·rw[Es j j0]at hvo;obtain⟨own,hown⟩:∃own,own=zmx P S j.toNat:=⟨_,rfl⟩;obtain⟨w,hw⟩:∃w,w=zeO P S D j.toNat:=⟨_,rfl⟩;rw[<-hown]at hvo;rw[<-hw]at hJ;have hwl:w.length=P.length:=(by rw[hw,zms];omega);have hol:own.length=P.length:=(by rw[hown,zmx,zsu,yG,zE]);have hvol:vo.length=P.length:=(by rw[hvo,zj,hol]);have go:∀k,vo.getD k (.int .i64 0)=.int .i64 (own.getD k 0):=fun k=>(by rw[hvo,zO]);have hnx:zeO P S D (j.toNat+1)=zji (D.getD j.toNat 0) own P.length w:=(by rw[zeO,<-hown,<-hw]);obtain⟨e,he⟩:∃e,e=D.getD j.toNat 0:=⟨_,rfl⟩;rw[<-he]at hnx
   refine hlp (List V×Int) _ _ _ [1,2,4,7,8,9,10] (fun x=>[(1,none,.val (.slc false 2 (.int .i64 0) a3)),(2,none,.val (.box 31 (.agg [.slc false 2 (.int .i64 0) a0,.slc false 2 (.int .i64 0) a1,.slc false 2 (.int .i64 0) a2]))),(4,none,.val (.box 31 (.agg [.slc true 2 (.int .i64 0) [],.slc true 2 (.int .i64 0) [],.slc true 2 (.int .i64 0) []]))),(7,none,.val (.slc true 2 (.int .i64 0) x.1)),(8,none,.val (.int .i64 j)),(9,none,.val (.slc true 2 (.int .i64 0) vo)),(10,none,.val (.int .i64 x.2))])
    (fun x=>0<=x.2/\x.2<=n/\x.1=I (zji e own x.2.toNat w)) (fun x=>(n-x.2).toNat) ((vl,0)) (by subst hL;rfl) ?_ ?_
   ·exact⟨by simp,by simp only;omega,hJ⟩
   rintro⟨vk,k⟩ ⟨k0,k1,hK⟩ hfx2 ag2 hag2;simp only at k0 k1 hK;have hvk:vk.length=P.length:=(by rw[hK,zj,znh,hwl]);have gk:∀k',vk.getD k' (.int .i64 0)=.int .i64 ((zji e own k.toNat w).getD k' 0):=fun k'=>by rw[hK,zO]
   conv=>cbv
   simp only[zo hL,sQ,hdl,<-hm,<-hn,hvk,hvol,go,gk,gd,<-he];rw[zk (n:=k+1) (by omega) (by omega)];refine⟨fun h4=>?_,fun h4=>?_⟩
   ·iterate 14 try refine⟨by omega,?_⟩
    refine hag2 (_,k+1) ⟨by simp only;omega,by simp only;omega,?_⟩ (by simp only;omega);simp only;rw[show(k+1).toNat=k.toNat+1 by omega,zji,hK,zam]
   ·rw[zk (n:=j+1) (by omega) (by omega)];refine hag (vk,j+1) ⟨by simp only;omega,by simp only;omega,?_⟩ (by simp only;omega);simp only;rw[show(j+1).toNat=j.toNat+1 by omega,hnx,hK,show k.toNat=P.length by omega]
  ·rw[hr,hf0];have hJ2:vl=I (zeO P S D P.length):=(by rw[hJ,show j.toNat=P.length by omega]);refine⟨Qw _ ⟨_,hJ⟩,by rw[<-Yx];exact⟨⟨P,hP⟩,⟨S,hS⟩,⟨_,hJ⟩⟩,?_⟩
   have hffz:V.frzs (zlJ a0 a1 vl).1=(zai a0 a1 vl).1/\V.frzs (zlJ a0 a1 vl).2.1=(zai a0 a1 vl).2.1/\V.frzs (zlJ a0 a1 vl).2.2.1=(zai a0 a1 vl).2.2.1:=by
    rw[<-zlF,zai]
    cases uh a0 a1 vl with
    |false=>exact⟨rfl,rfl,rfl⟩
    |true=>exact⟨g0,g1,hfv⟩
   rw[hffz.1,hffz.2.1,hffz.2.2,<-zlF,<-hJ2]
 ·cases h
def zcU(fs:List (List Int)):List Int:=fs.flatMap fun r=>List.replicate (r.getD 1 0).toNat (r.getD 0 0)
structure FacOk (n:Nat) (fs:List (List Int)):Prop where
 len:fs.length<=24
 row:∀r∈fs,r.length=2/\0<=r.getD 0 0/\r.getD 0 0<n/\0<r.getD 1 0/\r.getD 1 0<=2500000
theorem ztD{l:List Int}:∀{i:Nat} {r:List Int},r∈zaA l i->∃k,k<i/\r=[(k:Int),l.getD k 0]/\0<l.getD k 0
 |0,r,h=>by simp[zaA]at h
 |i+1,r,h=>by
  rw[zaA]at h;rcases List.mem_append.1 h with h|h
  ·obtain⟨k,h1,h2⟩:=ztD h;exact⟨k,by omega,h2⟩
  ·by_cases h0:0<l.getD i 0
   ·rw[if_pos h0,yF]at h;exact⟨i,by omega,h,h0⟩
   ·rw[if_neg h0]at h;cases h
theorem zwi{P S Q:List Int}(h:ClP P S Q):FacOk P.length (zaA (QN P S Q) P.length):=by
 refine⟨Nat.le_trans (zm6 _ _) h.n24,fun r hr=>?_⟩;obtain⟨k,h1,rfl,h3⟩:=ztD hr;have h4:=zy4 h k;have h5:(QN P S Q).getD k 0=exL P S Q k:=js _ _ _ _ h1;have e0:([(k:Int),(QN P S Q).getD k 0]:List Int).getD 0 0=k:=rfl;have e1:([(k:Int),(QN P S Q).getD k 0]:List Int).getD 1 0=exL P S Q k:=h5;rw[h5]at h3;rw[e0,e1];exact⟨rfl,by omega,by omega,by omega,by omega⟩
theorem zyB(fs:List (List Int))(r:List Int):zcU (fs++[r])=zcU fs++List.replicate (r.getD 1 0).toNat (r.getD 0 0):=by
 rw[zcU,List.flatMap_append,<-zcU];simp
theorem FacOk.get{n:Nat}{fs:List (List Int)}(h:FacOk n fs){i:Nat}(hi:i<fs.length):(fs.getD i []).length=2/\0<=(fs.getD i []).getD 0 0/\(fs.getD i []).getD 0 0<n/\0<(fs.getD i []).getD 1 0/\(fs.getD i []).getD 1 0<=2500000:=
 h.row _ (zau hi)
theorem zyk{fs:List (List Int)}{i:Nat}(hi:i<fs.length):fs.take (i+1)=fs.take i++[fs.getD i []]:=zjy fs i hi
theorem zvW{n:Nat}{fs:List (List Int)}(h:FacOk n fs):∀x∈zcU fs,0<=x/\x<n:=by
 intro x hx;rw[zcU,List.mem_flatMap]at hx;obtain⟨r,hr,hx⟩:=hx;have h1:=h.row r hr;have h2:=List.eq_of_mem_replicate hx;omega
def zkx(P S:List Int)(x:Int):List Int:=zky (zaD P S x)
def okX(P S:List Int)(x:Int):Bool:=okC (zaD P S x)
theorem zAK{P S:List Int}{x:Int}(h:okX P S x=true):zc7 (zaD P S x)=(I (zkx P S x),0):=by rw[zc7,show okC (zaD P S x)=true from h];rfl
theorem zCt{P S:List Int}{x:Int}(h:okX P S x=false):zc7 (zaD P S x)=([],5):=by rw[zc7,show okC (zaD P S x)=false from h];rfl
theorem zAJ{P S Q:List Int}(h:ClP P S Q){x:Int}(h0:0<=x)(h1:x<P.length)(hok:okX P S x=true):(zkx P S x).length<=3000:=by
 have hl:=zdA h (show-1<=x by omega) h1;have hcl:(zaD P S x).length<=30:=by rw[zaD,zih];omega
 obtain⟨⟨n,l,hs⟩,_⟩:=zsx hcl hok 0;rw[List.replicate_zero,List.append_nil]at hs;rw[zkx,zky,zdS hs,qO,zi];have hv:=zk4 l n n hs.1.val (by have:=hs.1.hi;omega);omega
def com(P:List Int)(ps:List Int)(i k:Nat):Int:=if i=k then 0 else(shN (yK P (ps.getD i 0)) (yK P (ps.getD k 0)):Nat)
def zpT(P S:List Int)(ps:List Int):List V×List V×Int:=if ps.length=0\/6<ps.length then([],[],3)else bif ps.all (okX P S)then(BB true (ps.map (zkx P S)),II true (T2 ps.length (com P ps)),0)else([],[],5)
noncomputable def zc6(a b c:List V):List V×List V×Int:=bif uh a b c then(bif zc5 a b c then zpT (qj a) (qj b) (zcU (zaA (QN (qj a) (qj b) (qj c)) a.length))else([],[],5))else([],[],1)
theorem zw7{pp:List Int}{x:Int}{t:Nat}(h:((pp++List.replicate t x).take 7).length<=6):(pp++List.replicate t x).take 7++[x]=(pp++List.replicate (t+1) x).take 7:=by
 rw[List.length_take]at h;have h2:(pp++List.replicate t x).length<=6:=by omega
 rw[zy (by omega),qM,<-zU,zy (by rw[zp];simp only[zi,zq];omega)]
theorem zyo{pp:List Int}{x:Int}{t c:Nat}(ht:t<=c)(h:t=c\/6<((pp++List.replicate t x).take 7).length):(pp++List.replicate t x).take 7=(pp++List.replicate c x).take 7:=by
 rcases h with h|h
 ·rw[h]
 ·rw[List.length_take]at h
  have e:pp++List.replicate c x=(pp++List.replicate t x)++List.replicate (c-t) x:=by
   rw[zU,List.replicate_append_replicate,show t+(c-t)=c by omega]
  rw[e];exact(List.take_append_of_le_length (by omega)).symm
end Go.Ax
