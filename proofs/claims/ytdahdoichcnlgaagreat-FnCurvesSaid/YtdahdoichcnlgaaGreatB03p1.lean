import Derived.Test.YtdahdoichcnlgaaGreatB02p1
import Derived.Test.YtdahdoichcnlgaaGreatB01p1
import Derived.Test.YtdahdoichcnlgaaGreatProg
import Derived.Sort.Row
set_option linter.all false
set_option maxRecDepth 100000
set_option maxHeartbeats 1000000
open Bool renaming and_eq_true->zh,and_false->ux
open Int renaming mul_le_mul->ZL,toNat_natCast->zW
open List renaming getD_cons_succ->yT,getD_cons_zero->qr,getD_eq_getElem?_getD->zd,getElem?_eq_getElem->zg,getElem?_eq_none->zD,getElem?_set->JA,getElem_mem->yE,length_append->zq,length_cons->zi,length_nil->zp,mem_iff_getElem->qK,take_of_length_le->zG,take_succ_eq_append_getElem->zP
open Nat renaming le_of_ble_eq_true->ze
open Option renaming getD_some->yZ
open Option.some renaming injEq->za
open Prod.mk renaming injEq->zb
/-
 Common points of two branches:whether they can share c points,their intersection numbers. No conditions but those of the contracts.
-/
namespace Go.Ax
open Go.Proofs
def zi9(X Y:List Int):Nat->Int
 |0=>0
 |n+1=>W (zi9 X Y n+W (X.getD n 0*Y.getD n 0))
def zlN(f:List V->List V->Int)(q:List V->List V->Prop):zK:=fun
 |[.slc false 2 (.int .i64 0) a0,.slc false 2 (.int .i64 0) a1]=>some ([q a0 a1],.int .i64 (f a0 a1))
 |_=>none
def zjV(a b:List V):Int:=zi9 (yO a) (yO b) a.length
def zqI(a b:List V):Prop:=YB a/\YB b/\a.length<=b.length
theorem zqx:yJ Tryz.prog 122 (zlN zjV zqI):=by
 intro args ps r h hp;unfold zlN at h;split at h
 ·rename_i a0 a1;simp only[za,zb]at h;obtain⟨rfl,rfl⟩:=h;obtain⟨⟨xs,hxs⟩,⟨ys,hys⟩,hll⟩:zqI a0 a1:=(zm.1 hp).1;have hxl:a0.length=xs.length:=by rw[hxs,zj]
  have hyl:a1.length=ys.length:=by rw[hys,zj]
  have hf0:zjV a0 a1=zi9 xs ys xs.length:=by rw[zjV,hxl,hxs,hys,zr,zr]
  have gx:∀i,a0.getD i (.int .i64 0)=.int .i64 (xs.getD i 0):=fun i=>by rw[hxs,zE]
  have gy:∀i,a1.getD i (.int .i64 0)=.int .i64 (ys.getD i 0):=fun i=>by rw[hys,zE]
  refine zI (T:=tab) (B:=[]) (Bi:=[]) [0,1,4,5,6,7,8,9,10] Tryz.func122 rfl rfl (by kernel_rfl) (ze rfl) mixed zR (by exact zB) (by exact zy) (by kernel_rfl) ?_;intro L lp rr hL hr hf hlp;have hlen:=hf.1.1;obtain⟨n,hn⟩:∃n:Int,n=xs.length:=⟨_,rfl⟩
  conv=>cbv
  refine hlp (Int×Int) _ _ _ [1,5,8,9,10] (fun x=>[(1,none,.val (.slc false 2 (.int .i64 0) a1)),(5,none,.val (.int .i64 x.1)),(8,none,.val (.slc false 2 (.int .i64 0) a0)),(9,none,.val (.int .i64 n)),(10,none,.val (.int .i64 x.2))])
   (fun x=>0<=x.2/\x.2<=xs.length/\x.1=zi9 xs ys x.2.toNat) (fun x=>(xs.length-x.2).toNat) ((0,0)) (by subst hL;rw[hn,<-hxl];rfl) ?_ ?_
  ·exact⟨by simp,by simp,rfl⟩
  rintro⟨s,i⟩ ⟨i0,i1,hI⟩ hfx ag hag;simp only at i0 i1 hI
  conv=>cbv
  simp only[zo hL,sQ,hxl,hyl,gx,gy];refine⟨fun h2=>⟨i0,by omega,i0,by omega,?_⟩,fun h2=>?_⟩
  ·rw[zl (n:=i+1) (by omega) (by omega)];refine hag (W (s+W (xs.getD i.toNat 0*ys.getD i.toNat 0)),i+1) ⟨by simp only;omega,by simp only;omega,?_⟩ (by simp only;omega);simp only[zF i0];rw[zi9,hI]
  ·rw[hr,hf0,hI,show i.toNat=xs.length by omega]
 ·cases h
theorem zqw:yJ Tryz.prog 90 (KW JL zll):=by
 intro args ps r h hp;unfold KW at h;split at h
 ·rename_i a0 a1;simp only[za,zb]at h;obtain⟨rfl,rfl⟩:=h;obtain⟨⟨xs,hxs⟩,ys,hys⟩:zll a0 a1:=(zm.1 hp).1;have hxl:a0.length=xs.length:=by rw[hxs,zj]
  have hyl:a1.length=ys.length:=by rw[hys,zj]
  have hf0:JL a0 a1=decide (xs=ys):=by rw[JL,hxs,hys,zr,zr]
  have gx:∀i,a0.getD i (.int .i64 0)=.int .i64 (xs.getD i 0):=fun i=>by rw[hxs,zE]
  have gy:∀i,a1.getD i (.int .i64 0)=.int .i64 (ys.getD i 0):=fun i=>by rw[hys,zE]
  refine zI (T:=tab) (B:=[]) (Bi:=[]) [0,1,4,5,12,13] Tryz.func90 rfl rfl (by kernel_rfl) (ze rfl) mixed zR (by exact zB) (by exact zy) (by kernel_rfl) ?_;intro L lp rr hL hr hf hlp;have hlen:=hf.1.1;obtain⟨n,hn⟩:∃n:Int,n=xs.length:=⟨_,rfl⟩
  conv=>cbv
  simp only[zo hL,sQ,hxl,hyl];refine⟨fun h=>?_,fun h=>?_⟩
  ·rw[hr,hf0,decide_eq_false];rintro rfl;omega
  refine hlp Int _ _ _ [0,1,12,13] (fun x=>[(0,none,.val (.slc false 2 (.int .i64 0) a0)),(1,none,.val (.slc false 2 (.int .i64 0) a1)),(12,none,.val (.int .i64 n)),(13,none,.val (.int .i64 x))])
   (fun x=>0<=x/\x<=xs.length/\xs.take x.toNat=ys.take x.toNat) (fun x=>(xs.length-x).toNat) 0 (by subst hL;rw[hn,<-hxl];rfl) (by simp) ?_
  rintro i ⟨i0,i1,hI⟩ hfx ag hag
  conv=>cbv
  simp only[zo hL,sQ,hxl,hyl,gx,gy];refine⟨fun h2=>⟨i0,by omega,i0,by omega,fun h4=>?_,fun h4=>?_⟩,fun h2=>?_⟩
  ·rw[hr,hf0,decide_eq_false];rintro rfl;exact h4 rfl
  ·rw[zl (n:=i+1) (by omega) (by omega)];refine hag (i+1) ⟨by omega,by omega,?_⟩ (by omega);have e1:i.toNat<xs.length:=(by omega);have e2:i.toNat<ys.length:=(by omega);rw[zF i0,zP e1,zP e2,hI];simp only[zd,zg e1,zg e2,yZ]at h4;rw[h4]
  ·rw[zG (by omega),zG (by omega)]at hI;rw[hr,hf0,decide_eq_true hI]
 ·cases h
theorem zgH:yJ Tryz.prog 119 (KW JL zll):=by
 intro args ps r h hp;unfold KW at h;split at h
 ·rename_i a0 a1;simp only[za,zb]at h;obtain⟨rfl,rfl⟩:=h;obtain⟨⟨xs,hxs⟩,ys,hys⟩:zll a0 a1:=(zm.1 hp).1;have hxl:a0.length=xs.length:=by rw[hxs,zj]
  have hyl:a1.length=ys.length:=by rw[hys,zj]
  have hf0:JL a0 a1=decide (xs=ys):=by rw[JL,hxs,hys,zr,zr]
  have gx:∀i,a0.getD i (.int .i64 0)=.int .i64 (xs.getD i 0):=fun i=>by rw[hxs,zE]
  have gy:∀i,a1.getD i (.int .i64 0)=.int .i64 (ys.getD i 0):=fun i=>by rw[hys,zE]
  refine zI (T:=tab) (B:=[]) (Bi:=[]) [0,1,4,5] Tryz.func119 rfl rfl (by kernel_rfl) (ze rfl) mixed zR (by exact zB) (by exact zy) (by kernel_rfl) ?_;intro L lp rr hL hr hf hlp;have hlen:=hf.1.1
  conv=>cbv
  simp only[zo hL,sQ,hxl,hyl];refine⟨fun h=>?_,fun h=>?_⟩
  ·rw[hr,hf0,decide_eq_false];rintro rfl;omega
  refine hlp (Int) _ _ _ [0,1,5] (fun x=>[(0,none,.val (.slc false 2 (.int .i64 0) a0)),(1,none,.val (.slc false 2 (.int .i64 0) a1)),(5,none,.val (.int .i64 x))])
   (fun x=>0<=x/\x<=xs.length/\xs.take x.toNat=ys.take x.toNat) (fun x=>(xs.length-x).toNat) (0) (by subst hL;rfl) ?_ ?_
  ·simp
  rintro i ⟨i0,i1,hI⟩ hfx ag hag
  conv=>cbv
  simp only[zo hL,sQ,hxl,hyl,gx,gy];refine⟨fun h2=>⟨i0,by omega,i0,by omega,fun h4=>?_,fun h4=>?_⟩,fun h2=>?_⟩
  ·rw[hr,hf0,decide_eq_false];rintro rfl;exact h4 rfl
  ·rw[zl (n:=i+1) (by omega) (by omega)];refine hag (i+1) ⟨by omega,by omega,?_⟩ (by omega);have e1:i.toNat<xs.length:=(by omega);have e2:i.toNat<ys.length:=(by omega);rw[zF i0,zP e1,zP e2,hI];simp only[zd,zg e1,zg e2,yZ]at h4;rw[h4]
  ·rw[zG (by omega),zG (by omega)]at hI;rw[hr,hf0,decide_eq_true hI]
 ·cases h
def zcF(X Y:List Int)(c:Nat):Bool:=decide (X.take (c-1)=Y.take (c-1))&&(X.getD (c-1) 0 !=Y.getD (c-1) 0||X.getD (c-1) 0==0)
def zoG(f:List V->List V->Int->Bool)(q:List V->List V->Int->Prop):zK:=fun
 |[.slc false 2 (.int .i64 0) a0,.slc false 2 (.int .i64 0) a1,.int .i64 a2]=>some ([q a0 a1 a2],.bool (f a0 a1 a2))
 |_=>none
def znh(a b:List V)(c:Int):Bool:=zcF (yO a) (yO b) c.toNat
def zwx(a b:List V)(c:Int):Prop:=YB a/\YB b/\1<=c/\c<=a.length/\c<=b.length
theorem zmC:yJ Tryz.prog 52 (zoG znh zwx):=by
 intro args ps r h hp;unfold zoG at h;split at h
 ·rename_i a0 a1 a2;simp only[za,zb]at h;obtain⟨rfl,rfl⟩:=h;obtain⟨⟨xs,hxs⟩,⟨ys,hys⟩,c1,c2,c3⟩:zwx a0 a1 a2:=(zm.1 hp).1;have hxl:a0.length=xs.length:=by rw[hxs,zj]
  have hyl:a1.length=ys.length:=by rw[hys,zj]
  have hf0:znh a0 a1 a2=zcF xs ys a2.toNat:=by rw[znh,hxs,hys,zr,zr]
  have gx:∀i,a0.getD i (.int .i64 0)=.int .i64 (xs.getD i 0):=fun i=>by rw[hxs,zE]
  have gy:∀i,a1.getD i (.int .i64 0)=.int .i64 (ys.getD i 0):=fun i=>by rw[hys,zE]
  generalize YV:JL=zcU;generalize zai:zll=zhd;refine zI (T:=tab) (B:=[(90,KW zcU zhd)]) (Bi:=[]) [0,1,2,6] Tryz.func52 rfl rfl (by kernel_rfl) (ze rfl) mixed zR (by subst YV zai;exact(zn zqw zB)) (by subst YV zai;exact zy) (by kernel_rfl) ?_;intro L lp rr hL hr hf hlp;have hlen:=hf.1.1;have hlen2:=hf.2.1.1
  conv=>cbv
  have w0:IntKind.wrap .i64 (a2-1)=a2-1:=zl (by omega) (by omega);simp only[zo hL,sQ,hxl,hyl,gx,gy,w0,List.drop_zero];subst YV zai;have e1:V.frzs (a0.take (a2-1).toNat)=I (xs.take (a2-1).toNat):=by rw[hxs,zjs,zA]
  have e2:V.frzs (a1.take (a2-1).toNat)=I (ys.take (a2-1).toNat):=by rw[hys,zjs,zA]
  rw[e1,e2,hr,hf0]
  (repeat' first|(exact yY _)|(exact jT rfl)|(exact qO _)|(apply And.intro)|(intro _))<;>(try first|exact True.intro|omega|rfl|(simp only[zi,zp,zj];omega))
  all_goals first|assumption|exact⟨_,rfl⟩|skip
  rw[zcF,JL,zr,zr,show(a2-1).toNat=a2.toNat-1 by omega];rfl
 ·cases h
def shr(xs ys:List Int)(c:Nat):Bool:=zcF (jR xs 201) (jR ys 201) c
theorem zay(xs:List Int){c k:Nat}(h:c<=k-1):(jR xs k).take c=jR xs (c+1):=by
 rw[jR,zyZ _ _ _ h,jR,Nat.add_sub_cancel]
theorem QV(xs:List Int){c k:Nat}(h:c<k-1):(jR xs k).getD c 0=cd (mul xs) (c+1) (c+1):=jx _ _ _ _ h
theorem zCr(xs ys:List Int){c k:Nat}(h1:1<=c)(h2:c<=200)(hk:c+1<=k):zcF (jR xs k) (jR ys k) c=shr xs ys c:=by
 rw[shr,zcF,zcF,zay xs (c:=c-1) (k:=k) (by omega),zay ys (c:=c-1) (k:=k) (by omega),zay xs (c:=c-1) (k:=201) (by omega),zay ys (c:=c-1) (k:=201) (by omega),
  QV xs (k:=k) (by omega),QV ys (k:=k) (by omega),QV xs (k:=201) (by omega),QV ys (k:=201) (by omega)]
theorem zy7(xs ys:List Int)(c:Nat):shr xs ys c=shr ys xs c:=by
 rw[shr,shr,zcF,zcF];by_cases h:(jR xs 201).getD (c-1) 0=(jR ys 201).getD (c-1) 0
 ·rw[h,decide_eq_decide.2 (eq_comm)]
 ·have h':¬(jR ys 201).getD (c-1) 0=(jR xs 201).getD (c-1) 0:=fun e=>h e.symm;simp only[bne_iff_ne.2 h,bne_iff_ne.2 h',Bool.true_or,Bool.and_true];rw[decide_eq_decide.2 (eq_comm)]
def zrZ(xs ys:List Int)(c:Nat):Int:=zi9 (qX xs c) (qX ys c) c
def zoP(f:List V->List V->Int->Int)(q:List V->List V->Int->Prop):zK:=fun
 |[.agg [.slc false 2 (.int .i64 0) a0],.agg [.slc false 2 (.int .i64 0) a1],.int .i64 a2]=>some ([q a0 a1 a2],.int .i64 (f a0 a1 a2))
 |_=>none
def zgX(a b:List V)(c:Int):Int:=zrZ (yO a) (yO b) c.toNat
def zmI(a b:List V)(c:Int):Prop:=Yz a/\Yz b/\1<=c/\c<=1000000
theorem zir:yJ Tryz.prog 96 (zoP zgX zmI):=by
 intro args ps r h hp;unfold zoP at h;split at h
 ·rename_i a0 a1 a2;simp only[za,zb]at h;obtain⟨rfl,rfl⟩:=h;obtain⟨hq,hq1,c1,c2⟩:zmI a0 a1 a2:=(zm.1 hp).1;have hqb:=hq;have hqb1:=hq1;obtain⟨xs,hxs,hb⟩:=hq;obtain⟨ys,hys,hb1⟩:=hq1;have g1:V.frzs a0=a0:=by rw[hxs,zA]
  have g2:V.frzs a1=a1:=by rw[hys,zA]
  obtain⟨vx,hvx⟩:∃vx,vx=I (qX xs a2.toNat):=⟨_,rfl⟩;obtain⟨vy,hvy⟩:∃vy,vy=I (qX ys a2.toNat):=⟨_,rfl⟩;have e1:uc a0 a2=vx:=by rw[uc,hxs,zr,hvx]
  have e2:uc a1 a2=vy:=by rw[uc,hys,zr,hvy]
  have e4:zgX a0 a1 a2=zjV vx vy:=by rw[zgX,hxs,hys,zr,zr,zjV,hvx,hvy,zr,zr,zj,ZT,zrZ]
  have hqd:zqI vx vy:=⟨⟨_,hvx⟩,⟨_,hvy⟩,by rw[hvx,hvy,zj,zj,ZT,ZT];omega⟩;have fx:V.frzs vx=vx:=by rw[hvx,zA]
  have fy:V.frzs vy=vy:=by rw[hvy,zA]
  have nx:V.noFzs vx=true:=by rw[hvx];exact nf _
  have ny:V.noFzs vy=true:=by rw[hvy];exact nf _
  generalize kg:uc=uQ;generalize qC:ZH=kR;generalize zpl:zjV=zCd;generalize zo0:zqI=zB5;refine zI (T:=tab) (B:=[(73,zjh uQ kR),(122,zlN zCd zB5)]) (Bi:=[]) [0,1,2,3,4,6] Tryz.func96 rfl rfl (by kernel_rfl) (ze rfl) mixed zR (by subst kg qC zpl zo0;exact(zn zcq (zn zqx zB))) (by subst kg qC zpl zo0;exact zy) (by kernel_rfl) ?_;intro L lp rr hL hr hf hlp
  conv=>cbv
  subst kg qC zpl zo0;simp only[zo hL,sQ,g1,g2,e1,e2,fx,fy];rw[hr,e4]
  (repeat' first|(exact yY _)|(exact jT rfl)|(exact qO _)|(apply And.intro)|(intro _))<;>(try first|exact True.intro|omega|rfl|(simp only[zi,zp,zj];omega))
  all_goals first|exact hqb|exact hqb1|exact hqd.1|exact hqd.2.1|exact hqd.2.2|exact nx|exact ny
 ·cases h
def zoQ(f:List V->List V->Int->Bool)(q:List V->List V->Int->Prop):zK:=fun
 |[.agg [.slc false 2 (.int .i64 0) a0],.agg [.slc false 2 (.int .i64 0) a1],.int .i64 a2]=>some ([q a0 a1 a2],.bool (f a0 a1 a2))
 |_=>none
def znd(a b:List V)(c:Int):Bool:=shr (yO a) (yO b) c.toNat
def zwp(a b:List V)(c:Int):Prop:=Yz a/\Yz b/\1<=c/\c<=200
theorem znW:yJ Tryz.prog 83 (zoQ znd zwp):=by
 intro args ps r h hp;unfold zoQ at h;split at h
 ·rename_i a0 a1 a2;simp only[za,zb]at h;obtain⟨rfl,rfl⟩:=h;obtain⟨hq,hq1,c1,c2⟩:zwp a0 a1 a2:=(zm.1 hp).1;have hqb:=hq;have hqb1:=hq1;obtain⟨xs,hxs,hb⟩:=hq;obtain⟨ys,hys,hb1⟩:=hq1;have g1:V.frzs a0=a0:=by rw[hxs,zA]
  have g2:V.frzs a1=a1:=by rw[hys,zA]
  obtain⟨k,hk⟩:∃k:Nat,k=(a2+1).toNat:=⟨_,rfl⟩;obtain⟨X,hX⟩:∃X,X=jR xs k:=⟨_,rfl⟩;obtain⟨Y,hY⟩:∃Y,Y=jR ys k:=⟨_,rfl⟩;obtain⟨vx,hvx⟩:∃vx,vx=I X:=⟨_,rfl⟩;obtain⟨vy,hvy⟩:∃vy,vy=I Y:=⟨_,rfl⟩;have e1:Kq a0 (a2+1)=vx:=by rw[Kq,hxs,zr,hvx,hX,hk]
  have e2:Kq a1 (a2+1)=vy:=by rw[Kq,hys,zr,hvy,hY,hk]
  have e4:znd a0 a1 a2=zcF X Y a2.toNat:=by rw[znd,hxs,hys,zr,zr,hX,hY,zCr xs ys (by omega) (by omega) (by omega)]
  have xl:vx.length=k-1:=by rw[hvx,zj,hX,zf4]
  have yl:vy.length=k-1:=by rw[hvy,zj,hY,zf4]
  have gx:∀t,vx.getD t (.int .i64 0)=.int .i64 (X.getD t 0):=fun t=>by rw[hvx,zE]
  have gy:∀t,vy.getD t (.int .i64 0)=.int .i64 (Y.getD t 0):=fun t=>by rw[hvy,zE]
  have w0:IntKind.wrap .i64 (a2-1)=a2-1:=zl (by omega) (by omega);have w1:IntKind.wrap .i64 (a2+1)=a2+1:=zl (by omega) (by omega);generalize JU:Kq=zbE;generalize qC:ZH=kR;generalize YV:JL=zcU;generalize zai:zll=zhd;refine zI (T:=tab) (B:=[(85,zdr zbE kR),(119,KW zcU zhd)]) (Bi:=[]) [1000002007,1000002008,0,1,2,3,4,6,7,8] Tryz.func83 rfl rfl (by kernel_rfl) (ze rfl) mixed zR (by subst JU qC YV zai;exact(zn zgF (zn zgH zB))) (by subst JU qC YV zai;exact zy) (by kernel_rfl) ?_;intro L lp rr hL hr hf hlp
  conv=>cbv
  have F1:zbE a0 (a2+1)=vx:=by rw[<-JU,e1]
  have F2:zbE a1 (a2+1)=vy:=by rw[<-JU,e2]
  have fx:V.frzs vx=vx:=by rw[hvx,zA]
  have fy:V.frzs vy=vy:=by rw[hvy,zA]
  simp only[zo hL,sQ,g1,g2,w0,w1,F1,F2,fx,fy,xl,yl,gx,gy,List.drop_zero];subst YV zai qC;have e1:V.frzs (vx.take (a2-1).toNat)=I (X.take (a2-1).toNat):=by rw[hvx,zjs,zA]
  have e2:V.frzs (vy.take (a2-1).toNat)=I (Y.take (a2-1).toNat):=by rw[hvy,zjs,zA]
  rw[e1,e2,hr,e4];refine⟨⟨hqb,by omega,by omega⟩,⟨hqb1,by omega,by omega⟩,by omega,by omega,by omega,by omega,by omega,by omega,⟨⟨_,rfl⟩,⟨_,rfl⟩⟩,fun h=>?_,fun h=>?_⟩
  ·rw[JL,zr,zr,show(a2-1).toNat=a2.toNat-1 by omega]at h;rw[zcF,h];rfl
  ·rw[JL,zr,zr,show(a2-1).toNat=a2.toNat-1 by omega]at h;rw[zcF,h,show(a2-1).toNat=a2.toNat-1 by omega];refine⟨by omega,by omega,by omega,by omega,fun _=>by omega,fun _=>by omega,fun _=>trivial,?_⟩;rfl
 ·cases h
end Go.Ax
namespace Go.Ax
open Go.Proofs
def kJ:List (List Int)->Int
 |[]=>1
 |p::l=>p.getD 1 0*kJ l
structure Prs (ps:List (List Int)):Prop where
 len:ps.length<=3
 two:∀p∈ps,∃c o,p=[c,o]/\1<=c/\c<=100/\2<=o/\o<=5
 pr:kJ ps<=64
theorem Prs.tail{p:List Int}{l:List (List Int)}(h:Prs (p::l)):Prs l/\∃c o,p=[c,o]/\1<=c/\c<=100/\2<=o/\o<=5/\1<=kJ l/\kJ (p::l)=o*kJ l/\kJ l<=o*kJ l:=by
 have pos:∀l:List (List Int),(∀p∈l,∃c o,p=[c,o]/\1<=c/\c<=100/\2<=o/\o<=5)->1<=kJ l:=by
  intro l
  induction l with
  |nil=>intro _;decide
  |cons p l ih=>
   intro h;obtain⟨c,o,rfl,_,_,h3,_⟩:=h p (by simp);have:=ih (fun q hq=>h q (by simp[hq]));simp only[kJ,yT,qr];have:1*1<=o*kJ l:=ZL (by omega) this (by omega) (by omega);omega
 obtain⟨c,o,rfl,h1,h2,h3,h4⟩:=h.two p (by simp);have hp:=pos l (fun q hq=>h.two q (by simp[hq]));have hm:1*kJ l<=o*kJ l:=Int.mul_le_mul_of_nonneg_right (by omega) (by omega);have hpr:=h.pr;simp only[kJ,yT,qr]at hpr;refine⟨⟨by have:=h.len;simp at this;omega,fun q hq=>h.two q (by simp[hq]),by omega⟩,c,o,rfl,h1,h2,h3,h4,hp,rfl,by omega⟩
theorem Prs.drop{ps:List (List Int)}(h:Prs ps):∀i,Prs (ps.drop i):=by
 intro i
 induction i generalizing ps with
 |zero=>exact h
 |succ i ih=>
  cases ps with
  |nil=>simpa using h
  |cons p l=>simpa using ih h.tail.1
theorem zht(a b:List (List Int)):kJ (a++b)=kJ a*kJ b:=by
 induction a with
 |nil=>simp[kJ]
 |cons p l ih=>simp only[List.cons_append,kJ,ih,Int.mul_assoc]
theorem Prs.at{ps:List (List Int)}(h:Prs ps){i:Nat}(hi:i<ps.length):∃c o,ps.getD i []=[c,o]/\1<=c/\c<=100/\2<=o/\o<=5/\ps.drop i=[c,o]::ps.drop (i+1)/\1<=kJ (ps.drop (i+1))/\kJ (ps.drop (i+1))<=64/\kJ (ps.drop i)=o*kJ (ps.drop (i+1))/\kJ (ps.drop i)<=64/\
 kJ (ps.take (i+1))=kJ (ps.take i)*o:=by
 have hd:ps.drop i=ps.getD i []::ps.drop (i+1):=by rw[uN [] hi]
 have hi':=h.drop i;have h6:=hi'.pr;rw[hd]at hi';obtain⟨h1,c,o,h2,h3,h4,h5,h7,h8,h9,h10⟩:=hi'.tail;refine⟨c,o,h2,h3,h4,h5,h7,by rw[hd,h2],h8,h1.pr,by rw[hd,h9],h6,?_⟩;rw[zP hi,zht];have:ps[i]=[c,o]:=by rw[<-h2,zd,zg hi];rfl
 rw[this];simp[kJ]
theorem Prs.pos{ps:List (List Int)}(h:Prs ps):1<=kJ ps:=by
 cases ps with
 |nil=>decide
 |cons p l=>
  obtain⟨_,c,o,_,_,_,_,_,h1,h2,h3⟩:=h.tail;omega
theorem Prs.take_le{ps:List (List Int)}(h:Prs ps):∀i,i<=ps.length->1<=kJ (ps.take i)/\kJ (ps.take i)<=64:=by
 intro i hi;have h1:kJ (ps.take i)*kJ (ps.drop i)=kJ ps:=by rw[<-zht,List.take_append_drop]
 have h2:=(h.drop i).pos;have h3:=h.pr;have h4:=h.pos
 have h5:1<=kJ (ps.take i):=by
  by_cases hc:1<=kJ (ps.take i)
  ·exact hc
  ·exfalso;have:kJ (ps.take i)*kJ (ps.drop i)<=0:=Int.mul_nonpos_of_nonpos_of_nonneg (by omega) (by omega);omega
 refine⟨h5,?_⟩;have:kJ (ps.take i)*1<=kJ (ps.take i)*kJ (ps.drop i):=Int.mul_le_mul_of_nonneg_left h2 (by omega);omega
def zjJ(a:List V):Prop:=∃ps,a=II false ps/\Prs ps
def zxb(f:List V->Int)(q:List V->Prop):zK:=fun
 |[.slc false 29 (.slc false 2 (.int .i64 0) []) a0]=>some ([q a0],.int .i64 (f a0))
 |_=>none
def zjU(a:List V):Int:=kJ (qS a)
theorem zmy:yJ Tryz.prog 150 (zxb zjU zjJ):=by
 intro args ps r h hp;unfold zxb at h;split at h
 ·rename_i a0;simp only[za,zb]at h;obtain⟨rfl,rfl⟩:=h;obtain⟨ps,hps,hP⟩:zjJ a0:=(zm.1 hp).1;obtain⟨n,hn⟩:∃n:Int,n=a0.length:=⟨_,rfl⟩;have hpl:a0.length=ps.length:=by rw[hps,yf]
  have hlen:=hP.len;have gx:∀k,a0.getD k (.slc false 2 (.int .i64 0) [])=.slc false 2 (.int .i64 0) (I (ps.getD k [])):=fun k=>by rw[hps,qM]
  have hf0:zjU a0=kJ ps:=by rw[zjU,hps,yq]
  generalize yp:yi=qP;refine zI (T:=tab) (B:=[(82,qW qP)]) (Bi:=[]) [0,2,3,4] Tryz.func150 rfl rfl (by kernel_rfl) (ze rfl) mixed zR (by subst yp;exact(zn JE zB)) (by subst yp;exact zy) (by kernel_rfl) ?_;intro L lp rr hL hr hf hlp
  conv=>cbv
  simp only[zo hL,sQ,<-hn];refine⟨fun h=>by omega,fun _=>?_⟩
  refine hlp (Int×Int) _ _ _ [0,3,4] (fun x=>[(0,none,.val (.slc false 29 (.slc false 2 (.int .i64 0) []) a0)),(3,none,.val (.int .i64 x.1)),(4,none,.val (.int .i64 x.2))])
   (fun x=>0<=x.2/\x.2<=n/\x.1=kJ (ps.take x.2.toNat)) (fun x=>(n-x.2).toNat) ((1,0)) (by subst hL;rfl) ?_ ?_
  ·exact⟨by simp,by simp only;omega,rfl⟩
  rintro⟨v,i⟩ ⟨i0,i1,hI⟩ hfx ag hag;simp only at i0 i1 hI
  conv=>cbv
  simp only[zo hL,sQ,<-hn,gx];refine⟨fun h2=>?_,fun h2=>?_⟩
  ·obtain⟨c,o,e1,e2,e3,e4,e5,e6,e7,e8,e9,e10,e11⟩:=hP.at (i:=i.toNat) (by omega);have hb:=hP.take_le (i.toNat+1) (by omega);have r1:qP c 1 2000=true:=(by rw[<-yp];simp[yi];omega);have r2:qP o 1 2000=true:=(by rw[<-yp];simp[yi];omega);have w1:IntKind.wrap .i64 (v*o)=v*o:=zl (by rw[hI,<-e11];omega) (by rw[hI,<-e11];omega);have e12:v*o=kJ (ps.take (i.toNat+1)):=(by rw[e11,hI]);have l2:((0+1+1:Nat):Int)=2:=rfl;have g0:[c,o].getD 0 0=c:=rfl;have g1:[c,o].getD 1 0=o:=rfl;simp only[e1,zj,zi,zp,zE,kS,w1,l2,g0,g1,r1,r2,Bool.true_eq_false,not_true,or_self,false_imp_iff,true_imp_iff,and_self,true_and]
   (repeat' first|(exact yY _)|(exact jT rfl)|(exact qO _)|(apply And.intro)|(intro _))<;>(try first|exact True.intro|omega|rfl|(simp only[zi,zp,zj];omega))
   ·rw[zl (n:=i+1) (by omega) (by omega)];exact hag (_,i+1) ⟨by simp only;omega,by simp only;omega,by simp only;rw[show(i+1).toNat=i.toNat+1 by omega,e12]⟩ (by simp only;omega)
  ·rw[hr,hf0,hI,show i.toNat=ps.length by omega,List.take_length]
 ·cases h
theorem zmA:yJ Tryz.prog 151 (zjg zgY zof):=by
 intro args ps r h hp;unfold zjg at h;split at h
 ·rename_i a0 a1;simp only[za,zb]at h;obtain⟨rfl,rfl⟩:=h;obtain⟨⟨xs,hxs,hl,hrl⟩,⟨ys,hys⟩⟩:zof a0 a1:=(zm.1 hp).1;obtain⟨n,hn⟩:∃n:Int,n=a0.length:=⟨_,rfl⟩;obtain⟨m,hm⟩:∃m:Int,m=a1.length:=⟨_,rfl⟩;have hxl:a0.length=xs.length:=by rw[hxs,yf]
  have hyl:a1.length=ys.length:=by rw[hys,yf]
  have gx:∀k,a0.getD k (.slc false 2 (.int .i64 0) [])=.slc false 2 (.int .i64 0) (I (xs.getD k [])):=fun k=>by rw[hxs,qM]
  have gy:∀k,a1.getD k (.slc false 2 (.int .i64 0) [])=.slc false 2 (.int .i64 0) (I (ys.getD k [])):=fun k=>by rw[hys,qM]
  have hf0:zgY a0 a1=decide (xs=ys):=by rw[zgY,hxs,hys,yq,yq]
  generalize YV:JL=zcU;generalize zai:zll=zhd;refine zI (T:=tab) (B:=[(119,KW zcU zhd)]) (Bi:=[]) [0,1,4,5] Tryz.func151 rfl rfl (by kernel_rfl) (ze rfl) mixed zR (by subst YV zai;exact(zn zgH zB)) (by subst YV zai;exact zy) (by kernel_rfl) ?_;intro L lp rr hL hr hf hlp
  conv=>cbv
  simp only[zo hL,sQ,<-hn,<-hm];refine⟨fun h=>?_,fun h=>?_⟩
  ·rw[hr,hf0,decide_eq_false (fun e=>h (by rw[hn,hm,hxl,hyl,e]))]
  have hlen:xs.length=ys.length:=by omega
  refine hlp (Int) _ _ _ [0,1,5] (fun x=>[(0,none,.val (.slc false 29 (.slc false 2 (.int .i64 0) []) a0)),(1,none,.val (.slc false 29 (.slc false 2 (.int .i64 0) []) a1)),(5,none,.val (.int .i64 x))])
   (fun x=>0<=x/\x<=n/\xs.take x.toNat=ys.take x.toNat) (fun x=>(n-x).toNat) (0) (by subst hL;rfl) ?_ ?_
  ·exact⟨by simp,by omega,rfl⟩
  rintro i ⟨i0,i1,hI⟩ hfx ag hag;have Ef:∀u v:List Int,zcU (I u) (I v)=decide (u=v):=fun u v=>by rw[<-YV,JL,zr,zr]
  have Ql:∀u v:List Int,zhd (I u) (I v):=fun u v=>by rw[<-zai];exact⟨⟨_,rfl⟩,⟨_,rfl⟩⟩
  conv=>cbv
  simp only[zo hL,sQ,<-hn,<-hm,gx,gy,Ef];refine⟨fun h2=>?_,fun h2=>?_⟩
  ·have h4:i.toNat<xs.length:=(by omega);have h5:i.toNat<ys.length:=(by omega);refine⟨i0,h2,i0,by omega,Ql _ _,fun h3=>?_,fun h3=>?_⟩
   ·rw[hr,hf0,decide_eq_false (fun e=>h3 (by rw[e]))]
   ·rw[zl (n:=i+1) (by omega) (by omega)];refine hag (i+1) ⟨by omega,by omega,?_⟩ (by omega);rw[zd,zg h4,zd,zg h5]at h3;rw[show(i+1).toNat=i.toNat+1 by omega,zP h4,zP h5,hI];exact congrArg (fun z=>List.take i.toNat ys++[z]) h3
  ·have h4:xs=ys:=(by rwa [zG (by omega),zG (by omega)]at hI);rw[hr,hf0,decide_eq_true h4]
 ·cases h
def zmR(xs:List Int)(i:Nat):List Int:=[W ((if i=0 then xs.getD (i+1) 0 else W (xs.getD (i+1) 0-xs.getD i 0)).tdiv ((dv xs).getD (i+1) 0)),W (((dv xs).getD i 0).tdiv ((dv xs).getD (i+1) 0))]
def nwt(xs:List Int):List (List Int):=yI (zmR xs) (xs.length-1)
def zxe(f:List V->List V)(q:List V->Prop):zK:=fun
 |[.agg [.slc false 2 (.int .i64 0) a0]]=>some ([q a0],.slc true 29 (.slc true 2 (.int .i64 0) []) (f a0))
 |_=>none
def zne(a:List V):List V:=II true (nwt (yO a))
theorem zlg:yJ Tryz.prog 152 (zxe zne Yz):=by
 intro args ps r h hp;unfold zxe at h;split at h
 ·rename_i a0;simp only[za,zb]at h;obtain⟨rfl,rfl⟩:=h;have hq:Yz a0:=(zm.1 hp).1;have hqP:=hq.isP;obtain⟨xs,hxs,hb⟩:=hq;have g1:V.frzs a0=a0:=by rw[hxs,zA]
  have e2:zne a0=II true (nwt xs):=by rw[zne,hxs,zr]
  have e3:Jx a0=I (dv xs):=by rw[Jx,hxs,zr]
  have gx:∀k,a0.getD k (.int .i64 0)=.int .i64 (xs.getD k 0):=fun k=>by rw[hxs,zE]
  obtain⟨ds,hds⟩:∃ds,ds=I (dv xs):=⟨_,rfl⟩;have gd:∀k,ds.getD k (.int .i64 0)=.int .i64 ((dv xs).getD k 0):=fun k=>by rw[hds,zE]
  obtain⟨n,hn⟩:∃n:Int,n=a0.length:=⟨_,rfl⟩;obtain⟨m,hm⟩:∃m:Int,m=ds.length:=⟨_,rfl⟩;have hxl:a0.length=xs.length:=by rw[hxs,zj]
  have hdl:ds.length=xs.length:=by rw[hds,zj,hb.dlen]
  have hmn:m=n:=by omega
  have h1:=hb.len;have h2:=hb.pos;generalize ZN:Jx=Kr;generalize zh4:IsP=zxn;refine zI (T:=tab) (B:=[(142,zqW Kr zxn)]) (Bi:=[]) [2000008048,0,1,2,3,4,5,6] Tryz.func152 rfl rfl (by kernel_rfl) (ze rfl) mixed zR (by subst ZN zh4;exact(zn zdd zB)) (by subst ZN zh4;exact zy) (by kernel_rfl) ?_;intro L lp rr hL hr hf hlp
  conv=>cbv
  simp only[zo hL,sQ,g1];subst ZN zh4;simp only[e3,<-hds];refine⟨hqP,?_⟩
  refine hlp (List V×Int) _ _ _ [1,3,4,5] (fun x=>[(1,none,.val (.box 57 (.agg [.slc false 2 (.int .i64 0) a0]))),(3,none,.val (.slc true 2 (.int .i64 0) ds)),(4,none,.val (.slc true 29 (.slc true 2 (.int .i64 0) []) x.1)),(5,none,.val (.int .i64 x.2))])
   (fun x=>1<=x.2/\x.2<=n/\x.1=II true (yI (zmR xs) (x.2-1).toNat)) (fun x=>(n-x.2).toNat) (([],1)) (by subst hL;rfl) ?_ ?_
  ·exact⟨by simp,by simp only;omega,rfl⟩
  rintro⟨es,i⟩ ⟨i0,i1,hes⟩ hfx ag hag;simp only at i0 i1 hes;obtain⟨el,hel0⟩:∃el:Int,el=es.length:=⟨_,rfl⟩;have hel:el=i-1:=by rw[hel0,hes,yf,yo];omega
  have w1:IntKind.wrap .i64 (i-1)=i-1:=zl (by omega) (by omega)
  conv=>cbv
  simp only[zo hL,sQ,<-hn,<-hm,<-hel0,gx,gd,w1]
  have p1:=hb.dpos i.toNat
  have fin:∀v:Int,v=(if(i-1).toNat=0 then xs.getD ((i-1).toNat+1) 0 else W (xs.getD ((i-1).toNat+1) 0-xs.getD (i-1).toNat 0))->II true (yI (zmR xs) (i-1).toNat)++[V.slc true 2 (.int .i64 0) [.int .i64 (IntKind.wrap .i64 (v.tdiv ((dv xs).getD i.toNat 0))),.int .i64 (IntKind.wrap .i64 (((dv xs).getD (i-1).toNat 0).tdiv ((dv xs).getD i.toNat 0)))]]=II true (yI (zmR xs) (i+1-1).toNat):=by
   intro v hv;obtain⟨k,hk⟩:∃k:Nat,i=k+1:=⟨(i-1).toNat,by omega⟩;subst hk;rw[show((k:Int)+1+1-1).toNat=k+1 by omega,JX,uP];rw[show((k:Int)+1-1).toNat=k by omega]at hv;rw[show((k:Int)+1).toNat=k+1 by omega,show((k:Int)+1-1).toNat=k by omega];rw[hv];rfl
  have wi:IntKind.wrap .i64 (i+1)=i+1:=zl (by omega) (by omega);refine⟨fun h=>?_,fun h=>?_⟩
  ·(repeat' first|(exact yY _)|(exact jT rfl)|(exact qO _)|(apply And.intro)|(intro _))<;>(try first|exact True.intro|omega|rfl|(simp only[zi,zp,zj];omega))
   ·rw[wi,hes];exact hag (_,i+1) ⟨by simp only;omega,by simp only;omega,fin _ (by rw[if_neg (by omega),show(i-1).toNat+1=i.toNat by omega])⟩ (by simp only;omega)
   ·rw[wi,hes];exact hag (_,i+1) ⟨by simp only;omega,by simp only;omega,fin _ (by rw[if_pos (by omega),show(i-1).toNat+1=i.toNat by omega])⟩ (by simp only;omega)
  ·rw[hr,e2,hes,show(i-1).toNat=xs.length-1 by omega];rfl
 ·cases h
def zf8(la:Int):List (List Int)->List Int
 |[]=>[]
 |p::l=>(la+p.getD 0 0*kJ l)::zf8 (la+p.getD 0 0*kJ l) l
def Qk(ps:List (List Int)):List Int:=kJ ps::zf8 0 ps
theorem zf7:∀(l:List (List Int)) (la:Int),(zf8 la l).length=l.length
 |[],_=>rfl
 |_::l,_=>by simp[zf8,zf7 l]
def okT(ps:List (List Int)):Bool:=YO (Qk ps)&&decide (nwt (Qk ps)=ps)
def zs2(f:List V->List V×Int)(q:List V->Prop):zK:=fun
 |[.slc false 29 (.slc false 2 (.int .i64 0) []) a0]=>some ([q a0],.tup [.agg [.slc true 2 (.int .i64 0) ((f a0).1)],.int .i64 ((f a0).2)])
 |_=>none
def znj(a:List V):List V×Int:=if okT (qS a)=true then(I (Qk (qS a)),0)else([],5)
theorem zgJ:yJ Tryz.prog 140 (zs2 znj zjJ):=by
 intro args ps r h hp;unfold zs2 at h;split at h
 ·rename_i a0;simp only[za,zb]at h;obtain⟨rfl,rfl⟩:=h;have hq:zjJ a0:=(zm.1 hp).1;have hq0:=hq;obtain⟨ps,hps,hP⟩:=hq;obtain⟨n,hn⟩:∃n:Int,n=a0.length:=⟨_,rfl⟩;have hpl:a0.length=ps.length:=by rw[hps,yf]
  have hlen:=hP.len;have gx:∀k,a0.getD k (.slc false 2 (.int .i64 0) [])=.slc false 2 (.int .i64 0) (I (ps.getD k [])):=fun k=>by rw[hps,qM]
  have hfr:V.frzs a0=a0:=by rw[hps,ke]
  have hf0:znj a0=if okT ps=true then(I (Qk ps),0)else([],5):=by rw[znj,hps,yq]
  obtain⟨N,hN⟩:∃N:Int,N=kJ ps:=⟨_,rfl⟩;have e1:zjU a0=N:=by rw[zjU,hps,yq,hN]
  have N1:=hP.pos;have N2:=hP.pr;generalize zpd:zjU=zCa;generalize zcM:zjJ=zha;generalize kh:uM=uR;generalize yP:ub=ki;generalize zpf:zne=zvS;generalize jQ:Yz=ZF;generalize zjA:zgY=zqq;generalize zjw:zof=zyK;refine zI (T:=tab) (B:=[(150,zxb zCa zha),(81,Ke uR ki),(152,zxe zvS ZF),(151,zjg zqq zyK)]) (Bi:=[]) [2000011653,0,2,3,4,5,6,7,8] Tryz.func140 rfl rfl (by kernel_rfl) (ze rfl) mixed zR (by subst zpd zcM kh yP zpf jQ zjA zjw;exact(zn zmy (zn zbQ (zn zlg (zn zmA zB))))) (by subst zpd zcM kh yP zpf jQ zjA zjw;exact zy) (by kernel_rfl) ?_;intro L lp rr hL hr hf hlp
  conv=>cbv
  simp only[zo hL,sQ,hfr];subst zpd;simp only[e1];have qF:zha a0:=by rw[<-zcM];exact hq0
  refine⟨qF,fun h=>by omega,fun _=>?_⟩
  refine hlp (List V×Int×Int×Int) _ _ _ [0,2,5,6,7,8] (fun x=>[(0,none,.val (.slc false 29 (.slc false 2 (.int .i64 0) []) a0)),(2,none,.val (.box 57 (.agg [.slc true 2 (.int .i64 0) []]))),(5,none,.val (.box 57 (.agg [.slc true 2 (.int .i64 0) x.1]))),(6,none,.val (.int .i64 x.2.1)),(7,none,.val (.int .i64 x.2.2.1)),(8,none,.val (.int .i64 x.2.2.2))])
   (fun x=>0<=x.2.2.2/\x.2.2.2<=n/\x.2.1=kJ (ps.drop x.2.2.2.toNat)/\0<=x.2.2.1/\x.2.2.1<=6400*x.2.2.2/\∃pre:List Int,x.1=I (N::pre)/\pre.length=x.2.2.2.toNat/\pre++zf8 x.2.2.1 (ps.drop x.2.2.2.toNat)=zf8 0 ps) (fun x=>(n-x.2.2.2).toNat) (([.int .i64 N],N,0,0)) (by subst hL;rfl) ?_ ?_
  ·exact⟨by simp,by simp only;omega,hN,by simp,by simp,[],rfl,rfl,rfl⟩
  rintro⟨es,e,la,i⟩ ⟨i0,i1,he,l0,l1,pre,h1,h2,h3⟩ hfx ag hag;simp only at i0 i1 he l0 l1 h1 h2 h3;obtain⟨el,hel0⟩:∃el:Int,el=es.length:=⟨_,rfl⟩;have hel:el=i+1:=by rw[hel0,h1,zj,zi];omega
  conv=>cbv
  simp only[zo hL,sQ,<-hn,<-hel0,gx];refine⟨fun h=>?_,fun h=>?_⟩
  ·obtain⟨c,o,e1,e2,e3,e4,e5,e6,e7,e8,e9,e10,e11⟩:=hP.at (i:=i.toNat) (by omega);have g0:[c,o].getD 0 0=c:=rfl;have g1:[c,o].getD 1 0=o:=rfl;have hed:e.tdiv o=kJ (ps.drop (i.toNat+1)):=(by rw[he,e9,Int.mul_tdiv_cancel_left _ (by omega)]);obtain⟨P,hPP⟩:∃P:Int,P=kJ (ps.drop (i.toNat+1)):=⟨_,rfl⟩;rw[<-hPP]at hed e7 e8;have wd:IntKind.wrap .i64 P=P:=zl (by omega) (by omega);have c0:0<=c*P:=Int.mul_nonneg (by omega) (by omega);have c1:c*P<=100*64:=ZL (by omega) (by omega) (by omega) (by omega);have wm:IntKind.wrap .i64 (c*P)=c*P:=zl (by omega) (by omega);have wl:IntKind.wrap .i64 (la+c*P)=la+c*P:=zl (by omega) (by omega);have wi:IntKind.wrap .i64 (i+1)=i+1:=zl (by omega) (by omega);simp only[e1,zj,zi,zp,g0,g1,hed,wd,wm,wl,wi]
   (repeat' first|(exact yY _)|(exact jT rfl)|(exact qO _)|(apply And.intro)|(intro _))<;>(try first|exact True.intro|omega|rfl|(simp only[zi,zp,zj];omega))
   refine hag (_,_,_,i+1) ⟨by simp only;omega,by simp only;omega,by simp only;rw[hPP,show(i+1).toNat=i.toNat+1 by omega],by simp only;omega,by simp only;omega,pre++[la+c*P],by simp only;rw[h1];simp[I],by simp only[zq,zi,zp];omega,?_⟩ (by simp only;omega);simp only;rw[show(i+1).toNat=i.toNat+1 by omega,List.append_assoc,<-h3,e6];simp only[zf8,qr,List.singleton_append,<-hPP]
  ·have hes:es=I (Qk ps):=by
    rw[List.drop_of_length_le (by omega)]at h3;simp only[zf8,List.append_nil]at h3;rw[h1,h3,hN];rfl
   have Eb:uR (I (Qk ps))=YO (Qk ps):=(by rw[<-kh,uM,zr]);have En:zvS (I (Qk ps))=II true (nwt (Qk ps)):=(by rw[<-zpf,zne,zr]);have El:zqq (II false (nwt (Qk ps))) a0=decide (nwt (Qk ps)=ps):=(by rw[<-zjA,zgY,yq,hps,yq]);have tl:(Qk ps).length<=4:=(by simp only[Qk,zi,zf7];omega);rw[hes];simp only[zA,Eb,En,ke,hfr,El];refine⟨by rw[<-yP];exact⟨⟨_,rfl⟩,by rw[zj];omega⟩,fun h1=>by rw[<-jQ];exact⟨_,rfl,jL h1⟩,fun _=>zty _,fun _=>?_,fun h1=>?_,fun h1=>?_⟩
   ·rw[<-zjw];refine⟨⟨_,rfl,by rw[nwt,yo];omega,fun r hr=>?_⟩,_,hps⟩;simp only[nwt,yI,List.mem_map]at hr;obtain⟨k,_,rfl⟩:=hr;simp[zmR]
   ·rw[hr,hf0,if_neg];intro h2;simp only[okT,zh]at h2;rcases h1 with h1|h1
    ·rw[h1]at h2;cases h2.1
    ·rw[h1]at h2;cases h2.2
   ·rw[hr,hf0,if_pos];simp only[okT,zh];exact h1
 ·cases h
end Go.Ax
namespace Go.Ax
open Go.Proofs
def cpU(o:Int):Nat->Int->Int
 |0,c=>c
 |k+1,c=>if qZ c o>1 then cpU o k (c+1)else c
def cpT(c o:Int):Int:=c+(1-c)%o
def cpo(c o:Int):Int:=cpU o ((cpT c o-c).toNat+1) c
theorem znn{c o:Int}(ho:2<=o):c<=cpT c o/\cpT c o<c+o:=by
 have h1:=Int.emod_nonneg (1-c) (show o≠0 by omega);have h2:=Int.emod_lt_of_pos (1-c) (show 0<o by omega);rw[cpT];omega
theorem zvv{c o:Int}(hc:1<=c)(ho:2<=o):qZ (cpT c o) o=1:=by
 have h0:=(znn (c:=c) ho).1
 have h1:cpT c o%o=1:=by
  rw[cpT,Int.add_emod,Int.emod_emod,<-Int.add_emod,show c+(1-c)=1 by omega,Int.emod_eq_of_lt (by omega) (by omega)]
 rw[zso (by omega) (by omega)];obtain⟨t,ht⟩:∃t:Nat,cpT c o=t:=⟨(cpT c o).toNat,by omega⟩;obtain⟨p,hp⟩:∃p:Nat,o=p:=⟨o.toNat,by omega⟩;rw[ht,hp]at h1;rw[ht,hp,zW,zW,Nat.gcd_comm,Nat.gcd_rec];have:t%p=1:=by exact_mod_cast h1
 rw[this,Nat.gcd_one_left];rfl
theorem zyt(o:Int):∀(k:Nat) (c:Int),c<=cpU o k c/\cpU o k c<=c+k
 |0,c=>by simp[cpU]
 |k+1,c=>by
  have:=zyt o k (c+1);simp only[cpU];split<;>omega
theorem zyr{c o:Int}(ho:2<=o):c<=cpo c o/\cpo c o<=c+o:=by
 have h1:=zyt o ((cpT c o-c).toNat+1) c;have h2:=znn (c:=c) ho;rw[cpo];omega
abbrev kC(es:List V)(σ:Int×Int)(n:Int):Int:=jo es σ.1 σ.2 n
abbrev qf(es:List V)(σ:Int×Int)(n:Int):Int×Int:=(jK es σ.1 σ.2 n,jU es σ.1 σ.2 n)
abbrev Yf(es:List V)(σ:Int×Int)(l:List Int):Int:=Yp es σ.1 σ.2 (I l)
abbrev KI(es:List V)(σ:Int×Int)(l:List Int):Int×Int:=(QQ es σ.1 σ.2 (I l),QP es σ.1 σ.2 (I l))
theorem zdj{es:List V}{σ:Int×Int}{n:Int}(hq:yh es σ.1 σ.2)(hn:1<=n):0<=kC es σ n/\kC es σ n<n:=Jj hq hn
theorem kB{es:List V}{σ:Int×Int}{n:Int}(hq:yh es σ.1 σ.2):yh es (qf es σ n).1 (qf es σ n).2:=uo hq
theorem zbu{es:List V}{σ:Int×Int}{l:List Int}(hq:yh es σ.1 σ.2):yh es (KI es σ l).1 (KI es σ l).2:=uo hq
theorem zeI{es:List V}{σ:Int×Int}{l:List Int}(hq:yh es σ.1 σ.2)(hl:l≠[]):Yf es σ l∈l:=by
 have h1:1<=(l.length:Int):=by
  cases l with
  |nil=>exact absurd rfl hl
  |cons x l=>simp only[zi];omega
 have h2:=Jj (n:=(I l).length) hq (by rw[zj];exact h1);rw[Yf,Yp,zr];rw[zj]at h2 ⊢;have h3:(jo es σ.1 σ.2 l.length).toNat<l.length:=by omega
 rw[zd,zg h3];exact yE h3
abbrev SmS:Type:=List (List Int)×Int×Int×Int
def smR(es:List V)(most:Int)(s:SmS):SmS:=
 let σ0:=(s.2.2.1,s.2.2.2)
 let own:=2+kC es σ0 4
 let σ1:=qf es σ0 4
 if most<s.2.1*own then(s.1,s.2.1,σ1)else
 let m:=Yf es σ1 [4,8,12]
 let σ2:=KI es σ1 [4,8,12]
 let c0:=1+kC es σ2 m
 let σ3:=qf es σ2 m
 let c1:=cpo c0 own
 let c2:=if s.1.length=0 then cpo (c1+own) own else c1
 (s.1++[[c2,own]],s.2.1*own,σ3)
def smN(es:List V)(most:Int):Nat->SmS->SmS
 |0,s=>s
 |k+1,s=>smN es most k (smR es most s)
structure SmOk (es:List V) (most:Int) (s:SmS) (k:Nat):Prop where
 len:s.1.length+k<=3
 two:∀p∈s.1,∃c o,p=[c,o]/\1<=c/\c<=100/\2<=o/\o<=5
 pr:kJ s.1=s.2.1
 n1:1<=s.2.1
 n2:s.2.1<=most
 src:yh es s.2.2.1 s.2.2.2
theorem zzw(l:List (List Int))(c o:Int):kJ (l++[[c,o]])=kJ l*o:=by
 rw[zht];simp[kJ]
theorem SmOk.round{es:List V}{most:Int}{s:SmS}{k:Nat}(h:SmOk es most s (k+1)):SmOk es most (smR es most s) k:=by
 obtain⟨ps,n,a,b⟩:=s;obtain⟨h1,h2,h3,h4,h5,h6⟩:=h;simp only at h1 h2 h3 h4 h5 h6;have ho:=zdj (σ:=(a,b)) (n:=4) h6 (by decide);have hs:=kB (σ:=(a,b)) (n:=4) h6;unfold smR;simp only;split
 ·exact⟨by simp only;omega,h2,h3,h4,h5,hs⟩
 ·rename_i hm;have hs2:=zbu (σ:=qf es (a,b) 4) (l:=[4,8,12]) hs;have hp:=zeI (σ:=qf es (a,b) 4) (l:=[4,8,12]) hs (by simp);obtain⟨m,hmm⟩:∃m,m=Yf es (qf es (a,b) 4) [4,8,12]:=⟨_,rfl⟩;rw[<-hmm]at hp ⊢;have hm2:1<=m/\m<=12:=by simp at hp;omega
  have hc:=zdj (σ:=KI es (qf es (a,b) 4) [4,8,12]) (n:=m) hs2 (by omega);have hs3:=kB (σ:=KI es (qf es (a,b) 4) [4,8,12]) (n:=m) hs2;obtain⟨o,hoo⟩:∃o,o=2+kC es (a,b) 4:=⟨_,rfl⟩;obtain⟨c0,hc0⟩:∃c0,c0=1+kC es (KI es (qf es (a,b) 4) [4,8,12]) m:=⟨_,rfl⟩;rw[<-hoo]at hm ⊢;rw[<-hc0];have l1:=zyr (c:=c0) (o:=o) (by omega);have l2:=zyr (c:=cpo c0 o+o) (o:=o) (by omega);have hno:1*1<=n*o:=ZL (by omega) (by omega) (by omega) (by omega);refine⟨by simp only[zq,zi,zp];omega,fun p hp=>?_,by simp only;rw[zzw,h3],by simp only;omega,by simp only;omega,hs3⟩;rcases List.mem_append.1 hp with hp|hp
  ·exact h2 p hp
  ·simp only[List.mem_singleton]at hp;refine⟨_,_,hp,?_⟩;split<;>omega
theorem SmOk.run{es:List V}{most:Int}:∀{k:Nat} {s:SmS},SmOk es most s k->SmOk es most (smN es most k s) 0
 |0,_,h=>h
 |k+1,_,h=>h.round.run
theorem SmOk.prs{es:List V}{most:Int}{s:SmS}{k:Nat}(h:SmOk es most s k)(hm:most<=64):Prs s.1:=⟨by have:=h.len;omega,h.two,by have:=h.pr;have:=h.n2;omega⟩
abbrev zgi(es:List V)(σ:Int×Int):List Int×Int×Int:=([Yf es σ [1,2,3]],KI es σ [1,2,3])
def smF(es:List V)(a h most term:Int):List Int×Int×Int:=
 let s:=smN es most (1+kC es (a,h) 3).toNat ([],1,qf es (a,h) 3)
 if okT s.1=true then
  if term<(Qk s.1).getD s.1.length 0 then zgi es s.2.2
  else if kC es s.2.2 12=0 then zgi es (qf es s.2.2 12)
  else(Qk s.1,qf es s.2.2 12)
 else zgi es s.2.2
def zi2(es:List V)(a h most term:Int):List V×Int×Int:=(I (smF es a h most term).1,(smF es a h most term).2)
def zlk(es:List V)(a h most _:Int):Prop:=yh es a h/\1<=most/\most<=64
def zqN(f:List V->Int->Int->Int->Int->List V×Int×Int)(q:List V->Int->Int->Int->Int->Prop):kQ:=fun
 |[.box 101 (.agg [.slc false 5 (.int .u8 0) a0,.int .i64 a1,.int .u64 a2]),.int .i64 a3,.int .i64 a4]=>some ([q a0 a1 a2 a3 a4],.agg [.slc true 2 (.int .i64 0) (f a0 a1 a2 a3 a4).1],.box 101 (.agg [.slc false 5 (.int .u8 0) a0,.int .i64 (f a0 a1 a2 a3 a4).2.1,.int .u64 (f a0 a1 a2 a3 a4).2.2]))
 |_=>none
theorem zfK:zfe Tryz.prog 116 1000 (zqN zi2 zlk):=by
 intro args ps r y h hp;unfold zqN at h;split at h
 ·rename_i a0 a1 a2 a3 a4;simp only[za,zb]at h;obtain⟨rfl,rfl,rfl⟩:=h;obtain⟨hq,m1,m2⟩:zlk a0 a1 a2 a3 a4:=(zm.1 hp).1;obtain⟨s0,hs0⟩:∃s0:SmS,s0=([],1,qf a0 (a1,a2) 3):=⟨_,rfl⟩;have hk:=zdj (σ:=(a1,a2)) (n:=3) hq (by decide);obtain⟨k0,hk0⟩:∃k0:Int,k0=1+kC a0 (a1,a2) 3:=⟨_,rfl⟩;obtain⟨sE,hsE⟩:∃sE:SmS,sE=smN a0 a3 k0.toNat s0:=⟨_,rfl⟩
  have ok0:SmOk a0 a3 s0 k0.toNat:=by
   rw[hs0];exact⟨by simp only[zp];omega,by simp,rfl,by simp,by simp only;omega,kB (σ:=(a1,a2)) hq⟩
  generalize yR:jo=jJ;generalize yN:jK=jD;generalize yM:jU=jC;generalize qU:zeF=uH;generalize jB:Yp=Zs;generalize jA:QQ=Zr;generalize jz:QP=Zq;generalize kw:zeE=YE;generalize YC:qZ=zdw;generalize uJ:zg7=zal;generalize zpv:znj=zv1;generalize zcM:zjJ=zha;refine zjR (T:=tab) (B:=[(112,zdq zdw zal),(140,zs2 zv1 zha)]) (Bi:=[(41,0,false,zc1 jJ jD jC uH),(42,0,false,zd8 Zs Zr Zq YE)]) 0 [2000007832,2000018888,0,1,2,6,7,8,9,10,11,12,13] Tryz.func116 rfl rfl (by kernel_rfl) (ze rfl) mixed zR (by subst yR yN yM qU jB jA jz kw YC uJ zpv zcM;exact(zn zdC (zn zgJ zB))) (by subst yR yN yM qU jB jA jz kw YC uJ zpv zcM;exact(jg uK (jg ZG zy))) (by kernel_rfl) rfl rfl zbK rfl ?_;intro L lp rr yy hL hr hy hf hlp
  conv=>cbv
  obtain⟨b1,hb1⟩:∃b1,b1=jK a0 a1 a2 3:=⟨_,rfl⟩;obtain⟨b2,hb2⟩:∃b2,b2=jU a0 a1 a2 3:=⟨_,rfl⟩;have e0:jJ a0 a1 a2 3=k0-1:=by rw[<-yR];show kC a0 (a1,a2) 3=_;omega
  have e1:jD a0 a1 a2 3=b1:=by rw[<-yN,hb1]
  have e2:jC a0 a1 a2 3=b2:=by rw[<-yM,hb2]
  have Qn:∀a h n,yh a0 a h->uH a0 a h n:=fun a h n hs=>by rw[<-qU];exact hs
  have hs0':s0=([],1,b1,b2):=by rw[hs0,hb1,hb2]
  simp only[zo hL,sQ,true_and,e0,e1,e2,show 1+(k0-1)=k0 by omega,zl (n:=k0) (by omega) (by omega)];refine⟨Qn _ _ _ hq,?_⟩
  refine hlp (List V×Int×Int×Int×Int) _ _ _ [0,1,2,6,7,8,9] (fun x=>[(0,none,.val (.box 101 (.agg [.slc false 5 (.int .u8 0) a0,.int .i64 x.2.2.1,.int .u64 x.2.2.2.1]))),(1,none,.val (.int .i64 a3)),(2,none,.val (.int .i64 a4)),(6,none,.val (.box 57 (.agg [.slc true 2 (.int .i64 0) []]))),(7,none,.val (.slc true 29 (.slc true 2 (.int .i64 0) []) x.1)),(8,none,.val (.int .i64 x.2.1)),(9,none,.val (.int .i64 x.2.2.2.2))])
   (fun x=>0<=x.2.2.2.2/\∃ps,x.1=II true ps/\SmOk a0 a3 (ps,x.2.1,x.2.2.1,x.2.2.2.1) x.2.2.2.2.toNat/\smN a0 a3 x.2.2.2.2.toNat (ps,x.2.1,x.2.2.1,x.2.2.2.1)=sE) (fun x=>x.2.2.2.2.toNat) (([],1,b1,b2,k0)) (by subst hL;rfl) ?_ ?_
  ·exact⟨by simp only;omega,[],rfl,by simp only;rw[<-hs0'];exact ok0,by simp only;rw[<-hs0',hsE]⟩
  rintro⟨es,n,a,h,k⟩ ⟨i0,ps,hes,hok,hsm⟩ hfx ag hag;simp only at i0 hes hok hsm;obtain⟨pl,hpl⟩:∃pl:Int,pl=es.length:=⟨_,rfl⟩;have hpl2:pl=ps.length:=by rw[hpl,hes,yf]
  have hsrc:yh a0 a h:=hok.src;obtain⟨o,ho⟩:∃o,o=2+kC a0 (a,h) 4:=⟨_,rfl⟩;obtain⟨A1,hA1⟩:∃A1,A1=jK a0 a h 4:=⟨_,rfl⟩;obtain⟨H1,hH1⟩:∃H1,H1=jU a0 a h 4:=⟨_,rfl⟩;obtain⟨m,hm⟩:∃m,m=Yp a0 A1 H1 (I [4,8,12]):=⟨_,rfl⟩;obtain⟨A2,hA2⟩:∃A2,A2=QQ a0 A1 H1 (I [4,8,12]):=⟨_,rfl⟩;obtain⟨H2,hH2⟩:∃H2,H2=QP a0 A1 H1 (I [4,8,12]):=⟨_,rfl⟩;obtain⟨c0,hc0⟩:∃c0,c0=1+jo a0 A2 H2 m:=⟨_,rfl⟩;obtain⟨A3,hA3⟩:∃A3,A3=jK a0 A2 H2 m:=⟨_,rfl⟩;obtain⟨H3,hH3⟩:∃H3,H3=jU a0 A2 H2 m:=⟨_,rfl⟩
  have hR:smR a0 a3 (ps,n,a,h)=if a3<n*o then(ps,n,A1,H1)else(ps++[[if ps.length=0 then cpo (cpo c0 o+o) o else cpo c0 o,o]],n*o,A3,H3):=by
   subst hA3 hH3 hc0 hA2 hH2 hm hA1 hH1 ho;rfl
  have o1:=zdj (σ:=(a,h)) (n:=4) hsrc (by decide);have s1:yh a0 A1 H1:=by rw[hA1,hH1];exact uo hsrc
  have mp:m∈[4,8,12]:=by rw[hm];exact zeI (σ:=(A1,H1)) (l:=[4,8,12]) s1 (by simp)
  have m12:1<=m/\m<=12:=by simp at mp;omega
  have s2:yh a0 A2 H2:=by rw[hA2,hH2];exact uo s1
  have c1:=Jj (n:=m) s2 (by omega);have s3:yh a0 A3 H3:=by rw[hA3,hH3];exact uo s2
  have n1:1<=n:=hok.n1;have n2:n<=a3:=hok.n2;have no0:n*2<=n*o:=Int.mul_le_mul_of_nonneg_left (by omega) (by omega);have no1:n*o<=64*5:=ZL (by omega) (by omega) (by omega) (by omega);have g0:jJ a0 a h 4=o-2:=by rw[<-yR];show kC a0 (a,h) 4=_;omega
  have g1:jD a0 a h 4=A1:=by rw[<-yN,hA1]
  have g2:jC a0 a h 4=H1:=by rw[<-yM,hH1]
  have g3:∀l,l=I [4,8,12]->Zs a0 A1 H1 l=m/\Zr a0 A1 H1 l=A2/\Zq a0 A1 H1 l=H2/\YE a0 A1 H1 l:=by
   intro l hl;rw[hl,<-jB,<-jA,<-jz,<-kw,hm,hA2,hH2];exact⟨rfl,rfl,rfl,s1,⟨_,rfl⟩,by simp,by simp⟩
  obtain⟨g4,g5,g6,g7⟩:=g3 (V.frzs (V.frzs [V.int IntKind.i64 4,V.int IntKind.i64 8,V.int IntKind.i64 12])) rfl;have g8:jJ a0 A2 H2 m=c0-1:=by rw[<-yR];omega
  have g9:jD a0 A2 H2 m=A3:=by rw[<-yN,hA3]
  have g10:jC a0 A2 H2 m=H3:=by rw[<-yM,hH3]
  have Eg:∀x,zdw x o=qZ x o:=fun x=>by rw[<-YC]
  have Qa:∀x,zal x o:=fun x=>by rw[<-uJ];trivial
  have wo:IntKind.wrap .i64 (2+(o-2))=o:=by rw[show 2+(o-2)=o by omega];exact zl (by omega) (by omega)
  have wno:IntKind.wrap .i64 (n*o)=n*o:=zl (by omega) (by omega);have wc0:IntKind.wrap .i64 (1+(c0-1))=c0:=by rw[show 1+(c0-1)=c0 by omega];exact zl (by omega) (by omega)
  have hst:0<k->SmOk a0 a3 (smR a0 a3 (ps,n,a,h)) (k-1).toNat/\smN a0 a3 (k-1).toNat (smR a0 a3 (ps,n,a,h))=sE:=by
   intro hk;have e:k.toNat=(k-1).toNat+1:=(by omega);rw[e]at hok hsm;exact⟨hok.round,hsm⟩
  have kl:=hok.len;simp only at kl;have cT1:=znn (c:=c0) (o:=o) (by omega)
  conv=>cbv
  simp only[zo hL,sQ,true_and,<-hpl,g0,g1,g2,g4,g5,g6,g7,g8,g9,g10,wo,wno,wc0];refine⟨fun h1=>⟨Qn _ _ _ hsrc,fun h2=>?_,fun h2=>⟨Qn _ _ _ s2,?_⟩⟩,fun h1=>?_⟩
  ·rw[zl (n:=k-1) (by omega) (by omega)];obtain⟨t1,t2⟩:=hst h1;rw[hR,if_pos h2]at t1 t2;exact hag (es,n,A1,H1,k-1) ⟨by simp only;omega,ps,hes,t1,t2⟩ (by simp only;omega)
  ·obtain⟨t1,t2⟩:=hst h1;rw[hR,if_neg h2]at t1 t2
   refine hlp (Int) _ _ _ [0,1,2,6,7,8,9,10,11] (fun x=>[(0,none,.val (.box 101 (.agg [.slc false 5 (.int .u8 0) a0,.int .i64 A3,.int .u64 H3]))),(1,none,.val (.int .i64 a3)),(2,none,.val (.int .i64 a4)),(6,none,.val (.box 57 (.agg [.slc true 2 (.int .i64 0) []]))),(7,none,.val (.slc true 29 (.slc true 2 (.int .i64 0) []) es)),(8,none,.val (.int .i64 n)),(9,none,.val (.int .i64 k)),(10,none,.val (.int .i64 o)),(11,none,.val (.int .i64 x))])
    (fun x=>c0<=x/\x<=cpT c0 o/\cpU o ((cpT c0 o-x).toNat+1) x=cpo c0 o) (fun x=>(cpT c0 o-x).toNat) (c0) (by subst hL;rfl) ?_ ?_
   ·exact⟨by omega,by omega,rfl⟩
   rintro z ⟨x0,x1,hx⟩ hfx2 ag2 hag2
   conv=>cbv
   simp only[zo hL,sQ,true_and,<-hpl,Eg];refine⟨Qa _,fun h3=>?_,fun h3=>?_⟩
   ·rw[zl (n:=z+1) (by omega) (by omega)]
    have hne:z≠cpT c0 o:=fun e=>by
     rw[e,zvv (by omega) (by omega)]at h3;omega
    refine hag2 (z+1) ⟨by omega,by omega,?_⟩ (by omega);rw[<-hx,show(cpT c0 o-z).toNat=(cpT c0 o-(z+1)).toNat+1 by omega];exact(if_pos (show qZ z o>1 from h3)).symm
   ·have hx2:cpo c0 o=z:=by
     rw[<-hx];exact if_neg (show ¬qZ z o>1 from h3)
    rw[hx2]at t1 t2;have wk:IntKind.wrap .i64 (k-1)=k-1:=zl (by omega) (by omega);refine⟨fun h4=>?_,fun h4=>?_⟩
    ·have hp0:ps.length=0:=(by omega);rw[if_pos hp0]at t1 t2;have cT2:=znn (c:=z+o) (o:=o) (by omega);rw[zl (n:=z+o) (by omega) (by omega)]
     refine hlp (Int) _ _ _ [0,1,2,6,7,8,9,10,11] (fun x=>[(0,none,.val (.box 101 (.agg [.slc false 5 (.int .u8 0) a0,.int .i64 A3,.int .u64 H3]))),(1,none,.val (.int .i64 a3)),(2,none,.val (.int .i64 a4)),(6,none,.val (.box 57 (.agg [.slc true 2 (.int .i64 0) []]))),(7,none,.val (.slc true 29 (.slc true 2 (.int .i64 0) []) es)),(8,none,.val (.int .i64 n)),(9,none,.val (.int .i64 k)),(10,none,.val (.int .i64 o)),(11,none,.val (.int .i64 x))])
      (fun x=>z+o<=x/\x<=cpT (z+o) o/\cpU o ((cpT (z+o) o-x).toNat+1) x=cpo (z+o) o) (fun x=>(cpT (z+o) o-x).toNat) (z+o) (by subst hL;rfl) ?_ ?_
     ·exact⟨by omega,by omega,rfl⟩
     rintro y ⟨y0,y1,hy1⟩ hfx3 ag3 hag3
     conv=>cbv
     simp only[zo hL,sQ,true_and,<-hpl,Eg];refine⟨Qa _,fun h5=>?_,fun h5=>?_⟩
     ·rw[zl (n:=y+1) (by omega) (by omega)]
      have hne:y≠cpT (z+o) o:=fun e=>by
       rw[e,zvv (by omega) (by omega)]at h5;omega
      refine hag3 (y+1) ⟨by omega,by omega,?_⟩ (by omega);rw[<-hy1,show(cpT (z+o) o-y).toNat=(cpT (z+o) o-(y+1)).toNat+1 by omega];exact(if_pos (show qZ y o>1 from h5)).symm
     ·have hy2:cpo (z+o) o=y:=by
       rw[<-hy1];exact if_neg (show ¬qZ y o>1 from h5)
      rw[hy2]at t1 t2;simp only[wno,wk]
      (repeat' first|(exact yY _)|(exact jT rfl)|(exact qO _)|(apply And.intro)|(intro _))<;>(try first|exact True.intro|omega|rfl|(simp only[zi,zp,zj];omega))
      exact hag (_,n*o,A3,H3,k-1) ⟨by simp only;omega,ps++[[y,o]],by simp only;rw[uP,hes];rfl,t1,t2⟩ (by simp only;omega)
    ·have hp0:¬ps.length=0:=(by omega);rw[if_neg hp0]at t1 t2;simp only[wno,wk]
     (repeat' first|(exact yY _)|(exact jT rfl)|(exact qO _)|(apply And.intro)|(intro _))<;>(try first|exact True.intro|omega|rfl|(simp only[zi,zp,zj];omega))
     exact hag (_,n*o,A3,H3,k-1) ⟨by simp only;omega,ps++[[z,o]],by simp only;rw[uP,hes];rfl,t1,t2⟩ (by simp only;omega)
  ·have hkz:k.toNat=0:=(by omega);rw[hkz]at hsm hok;have hsm':sE=(ps,n,a,h):=hsm.symm
   have hF:smF a0 a1 a2 a3 a4=if okT ps=true then(if a4<(Qk ps).getD ps.length 0 then zgi a0 (a,h)else if kC a0 (a,h) 12=0 then zgi a0 (qf a0 (a,h) 12)else(Qk ps,qf a0 (a,h) 12))else zgi a0 (a,h):=by
    unfold smF;simp only;rw[<-hs0,<-hk0,<-hsE,hsm']
   have hP:Prs ps:=hok.prs (by omega);have hfz:V.frzs es=II false ps:=(by rw[hes,ke]);have bl:(Qk ps).length=ps.length+1:=(by simp only[Qk,zi,zf7]);have Qb:zha (II false ps):=(by rw[<-zcM];exact⟨ps,rfl,hP⟩);have Eb:zv1 (II false ps)=if okT ps=true then(I (Qk ps),0)else([],5):=(by rw[<-zpv,znj,yq]);subst yR yN yM qU jB jA jz kw;rw[hfz,Eb];have Qp:∀σ:Int×Int,yh a0 σ.1 σ.2->zeE a0 σ.1 σ.2 (V.frzs (V.frzs [V.int IntKind.i64 1,V.int IntKind.i64 2,V.int IntKind.i64 3])):=fun σ hs=>⟨hs,⟨[1,2,3],rfl⟩,by decide,by decide⟩
   have fin:∀(l:List Int) (A H:Int),smF a0 a1 a2 a3 a4=(l,A,H)->V.agg [V.slc true 2 (.int .i64 0) (I l)]=rr/\V.box 101 (V.agg [.slc false 5 (.int .u8 0) a0,.int .i64 A,.int .u64 H])=yy:=by
    intro l A H e;rw[hr,hy,zi2,e];exact⟨rfl,rfl⟩
   have h50:((5:Int)=0)=False:=eq_false (by decide);have pl3:=hP.len
   cases hT:okT ps with
   |false=>
    rw[hT,if_neg (by decide)]at hF;simp only[Bool.false_eq_true,if_false,h50,false_and,false_imp_iff,not_false_eq_true,true_or,true_imp_iff,and_false,true_and,and_true];exact⟨Qb,rfl,Qp (a,h) hsrc,fin [Yf a0 (a,h) [1,2,3]] _ _ hF⟩
   |true=>
    rw[hT,if_pos rfl]at hF;have wl:IntKind.wrap .i64 ((ps.length+1:Nat)-1:Int)=ps.length:=(by rw[show((ps.length+1:Nat)-1:Int)=ps.length by omega];exact zl (by omega) (by omega));simp only[zo hL,sQ,if_true,zj,bl,wl,zE,zW,true_and,not_true,false_or];refine⟨Qb,zel _,fun _=>by omega,fun _=>by omega,fun _=>by omega,fun h2=>⟨h2,hsrc,fun h3=>?_,fun h3=>?_⟩,fun h2=>⟨fun h3=>?_,fun h3=>absurd h2 h3.1⟩⟩
    ·have h4:kC a0 (a,h) 12=0:=h3.resolve_left h2;rw[if_neg h2,if_pos h4]at hF;exact⟨Qp (qf a0 (a,h) 12) (kB hsrc),fin [Yf a0 (qf a0 (a,h) 12) [1,2,3]] _ _ hF⟩
    ·rw[if_neg h2,if_neg (show ¬kC a0 (a,h) 12=0 from h3.2)]at hF;exact fin _ _ _ hF
    ·rw[if_pos h2]at hF;exact⟨Qp (a,h) hsrc,fin [Yf a0 (a,h) [1,2,3]] _ _ hF⟩
 ·cases h
theorem zjF{es:List V}{a h most term:Int}(hq:zlk es a h most term):yh es (smF es a h most term).2.1 (smF es a h most term).2.2/\1<=(smF es a h most term).1.length/\(smF es a h most term).1.length<=4:=by
 obtain⟨hs,m1,m2⟩:=hq;have hk:=zdj (σ:=(a,h)) (n:=3) hs (by decide);have ok0:SmOk es most (([],1,qf es (a,h) 3):SmS) (1+kC es (a,h) 3).toNat:=⟨by simp only[zp];omega,by simp,rfl,by simp,by simp only;omega,kB (σ:=(a,h)) hs⟩;have hr:=ok0.run;unfold smF;simp only;generalize smN es most (1+kC es (a,h) 3).toNat ([],1,qf es (a,h) 3)=s at hr ⊢;have h1:=hr.src;have h2:=hr.len;have pk:∀σ:Int×Int,yh es σ.1 σ.2->yh es (zgi es σ).2.1 (zgi es σ).2.2/\1<=(zgi es σ).1.length/\(zgi es σ).1.length<=4:=fun σ hσ=>⟨zbu hσ,by simp,by simp⟩;split
 ·split
  ·exact pk _ h1
  ·split
   ·exact pk _ (kB h1)
   ·exact⟨kB h1,by simp only[Qk,zi];omega,by simp only[Qk,zi,zf7];omega⟩
 ·exact pk _ h1
end Go.Ax
namespace Go.Ax
open Go.Proofs
def drF(es:List V)(a h:Int):List Int×Int×Int:=
 let σ:=KI es (a,h) [6,12,30,64]
 let s:=smF es σ.1 σ.2 (Yf es (a,h) [6,12,30,64]) 400
 if s.1.length=1/\1<s.1.getD 0 0 then
  ([s.1.getD 0 0,W (W (s.1.getD 0 0*W (1+kC es s.2 9))+1)],qf es s.2 9)
 else s
theorem zvr{es:List V}{a h:Int}(hq:yh es a h):yh es (drF es a h).2.1 (drF es a h).2.2/\1<=(drF es a h).1.length/\(drF es a h).1.length<=4:=by
 have hp:=zeI (σ:=(a,h)) (l:=[6,12,30,64]) hq (by simp);have h1:=zjF (most:=Yf es (a,h) [6,12,30,64]) (term:=400) ⟨zbu (σ:=(a,h)) (l:=[6,12,30,64]) hq,by simp at hp;omega,by simp at hp;omega⟩;unfold drF;simp only;split
 ·exact⟨kB (σ:=(smF es _ _ _ _).2) h1.1,by simp,by simp⟩
 ·exact h1
def zsB(es:List V)(a h:Int):List V×Int×Int:=(I (drF es a h).1,(drF es a h).2)
def zwZ(f:List V->Int->Int->List V×Int×Int)(q:List V->Int->Int->Prop):kQ:=fun
 |[.box 101 (.agg [.slc false 5 (.int .u8 0) a0,.int .i64 a1,.int .u64 a2])]=>some ([q a0 a1 a2],.agg [.slc true 2 (.int .i64 0) (f a0 a1 a2).1],.box 101 (.agg [.slc false 5 (.int .u8 0) a0,.int .i64 (f a0 a1 a2).2.1,.int .u64 (f a0 a1 a2).2.2]))
 |_=>none
theorem zn2:zfe Tryz.prog 118 1000 (zwZ zsB yh):=by
 intro args ps r y h hp;unfold zwZ at h;split at h
 ·rename_i a0 a1 a2;simp only[za,zb]at h;obtain⟨rfl,rfl,rfl⟩:=h;have hq:yh a0 a1 a2:=(zm.1 hp).1;obtain⟨m,hm⟩:∃m,m=Yp a0 a1 a2 (I [6,12,30,64]):=⟨_,rfl⟩;obtain⟨A1,hA1⟩:∃A1,A1=QQ a0 a1 a2 (I [6,12,30,64]):=⟨_,rfl⟩;obtain⟨H1,hH1⟩:∃H1,H1=QP a0 a1 a2 (I [6,12,30,64]):=⟨_,rfl⟩;obtain⟨S,hS⟩:∃S,S=smF a0 A1 H1 m 400:=⟨_,rfl⟩
  have hF:drF a0 a1 a2=if S.1.length=1/\1<S.1.getD 0 0 then([S.1.getD 0 0,W (W (S.1.getD 0 0*W (1+kC a0 S.2 9))+1)],qf a0 S.2 9)else S:=by
   subst hS hA1 hH1 hm;rfl
  have mp:m∈[6,12,30,64]:=by rw[hm];exact zeI (σ:=(a1,a2)) (l:=[6,12,30,64]) hq (by simp)
  have s1:yh a0 A1 H1:=by rw[hA1,hH1];exact uo hq
  have qs:zlk a0 A1 H1 m 400:=⟨s1,by simp at mp;omega,by simp at mp;omega⟩;have hS2:=zjF qs;rw[<-hS]at hS2;obtain⟨sl,A2,H2⟩:=S;simp only at hF hS2;have Es:zi2 a0 A1 H1 m 400=(I sl,A2,H2):=by rw[zi2,<-hS]
  obtain⟨bl,hbl⟩:∃bl,bl=I sl:=⟨_,rfl⟩;obtain⟨n,hn⟩:∃n:Int,n=bl.length:=⟨_,rfl⟩;have hnl:n=sl.length:=by rw[hn,hbl,zj]
  have gx:∀k,bl.getD k (.int .i64 0)=.int .i64 (sl.getD k 0):=fun k=>by rw[hbl,zE]
  generalize yR:jo=jJ;generalize yN:jK=jD;generalize yM:jU=jC;generalize qU:zeF=uH;generalize jB:Yp=Zs;generalize jA:QQ=Zr;generalize jz:QP=Zq;generalize kw:zeE=YE;generalize zfu:zi2=ztY;generalize zfp:zlk=ztS;refine zjR (T:=tab) (B:=[]) (Bi:=[(41,0,false,zc1 jJ jD jC uH),(42,0,false,zd8 Zs Zr Zq YE),(116,1000,false,zqN ztY ztS)]) 0 [2000001806,2000003033,2000003800,2000003820,2000003821,2000003822,2000003823,2000003824,2000003825,2000003826,2000003827,2000003829,2000003999,0,2,3] Tryz.func118 rfl rfl (by kernel_rfl) (ze rfl) mixed zR (by subst yR yN yM qU jB jA jz kw zfu zfp;exact zB) (by subst yR yN yM qU jB jA jz kw zfu zfp;exact(jg uK (jg ZG (jg zfK zy)))) (by kernel_rfl) rfl rfl zbK rfl ?_;intro L lp rr yy hL hr hy hf hlp
  conv=>cbv
  subst yR yN yM qU jB jA jz kw zfu zfp;have p0:Yp a0 a1 a2 (V.frzs (V.frzs [V.int IntKind.i64 6,V.int IntKind.i64 12,V.int IntKind.i64 30,V.int IntKind.i64 64]))=m:=hm.symm;have p1:QQ a0 a1 a2 (V.frzs (V.frzs [V.int IntKind.i64 6,V.int IntKind.i64 12,V.int IntKind.i64 30,V.int IntKind.i64 64]))=A1:=hA1.symm;have p2:QP a0 a1 a2 (V.frzs (V.frzs [V.int IntKind.i64 6,V.int IntKind.i64 12,V.int IntKind.i64 30,V.int IntKind.i64 64]))=H1:=hH1.symm;have p3:zeE a0 a1 a2 (V.frzs (V.frzs [V.int IntKind.i64 6,V.int IntKind.i64 12,V.int IntKind.i64 30,V.int IntKind.i64 64])):=⟨hq,⟨[6,12,30,64],rfl⟩,by decide,by decide⟩;simp only[p0,p1,p2,Es,<-hbl,gx,zo hL,sQ,true_and,<-hn]
  have fin:∀(l:List Int) (A H:Int),drF a0 a1 a2=(l,A,H)->V.agg [V.slc true 2 (.int .i64 0) (I l)]=rr/\V.box 101 (V.agg [.slc false 5 (.int .u8 0) a0,.int .i64 A,.int .u64 H])=yy:=by
   intro l A H e;rw[hr,hy,zsB,e];exact⟨rfl,rfl⟩
  refine⟨p3,qs,fun _=>by omega,fun _=>by omega,fun _=>by omega,fun _=>trivial,fun h=>?_,fun h=>?_⟩
  ·rw[if_pos ⟨by omega,h.2⟩]at hF;exact⟨by omega,by omega,by omega,by omega,by omega,by omega,hS2.1,fin [_,_] _ _ hF⟩
  ·rw[if_neg (fun h'=>by omega)]at hF;rw[hbl];exact fin _ _ _ hF
 ·cases h
def spF(es:List V)(a h:Int):List Int×Int×Int:=
 let s:=drF es a h
 let v:=kC es s.2 30
 let σ:=qf es s.2 30
 if v=0 then(s.1.set 0 (Yf es σ [0,-1,65,2]),KI es σ [0,-1,65,2])
 else if v=1 then(s.1++[Yf es σ [2001,1999,5,1099511627776]],KI es σ [2001,1999,5,1099511627776])
 else if v=2 then(s.1.drop 1,σ)else(s.1,σ)
theorem zBf{es:List V}{a h:Int}(hq:yh es a h):yh es (spF es a h).2.1 (spF es a h).2.2/\(spF es a h).1.length<=5:=by
 obtain⟨h1,h2,h3⟩:=zvr hq;have h4:=kB (σ:=(drF es a h).2) (n:=30) h1;unfold spF;simp only;split
 ·exact⟨zbu (σ:=qf es (drF es a h).2 30) h4,by simp only[List.length_set];omega⟩
 ·split
  ·exact⟨zbu (σ:=qf es (drF es a h).2 30) h4,by simp only[zq,zi,zp];omega⟩
  ·split
   ·refine⟨h4,?_⟩;simp only[List.length_drop];omega
   ·refine⟨h4,?_⟩;show(drF es a h).1.length<=5;omega
def zsx(es:List V)(a h:Int):List V×Int×Int:=(I (spF es a h).1,(spF es a h).2)
def zwY(f:List V->Int->Int->List V×Int×Int)(q:List V->Int->Int->Prop):kQ:=fun
 |[.box 101 (.agg [.slc false 5 (.int .u8 0) a0,.int .i64 a1,.int .u64 a2])]=>some ([q a0 a1 a2],.agg [.slc false 2 (.int .i64 0) (f a0 a1 a2).1],.box 101 (.agg [.slc false 5 (.int .u8 0) a0,.int .i64 (f a0 a1 a2).2.1,.int .u64 (f a0 a1 a2).2.2]))
 |_=>none
theorem zmx:zfe Tryz.prog 79 1000 (zwY zsx yh):=by
 intro args ps r y h hp;unfold zwY at h;split at h
 ·rename_i a0 a1 a2;simp only[za,zb]at h;obtain⟨rfl,rfl,rfl⟩:=h;have hq:yh a0 a1 a2:=(zm.1 hp).1;obtain⟨S,hS⟩:∃S,S=drF a0 a1 a2:=⟨_,rfl⟩;have hS2:=zvr hq;rw[<-hS]at hS2
  have hF:spF a0 a1 a2=if kC a0 S.2 30=0 then(S.1.set 0 (Yf a0 (qf a0 S.2 30) [0,-1,65,2]),KI a0 (qf a0 S.2 30) [0,-1,65,2])
   else if kC a0 S.2 30=1 then(S.1++[Yf a0 (qf a0 S.2 30) [2001,1999,5,1099511627776]],KI a0 (qf a0 S.2 30) [2001,1999,5,1099511627776])
   else if kC a0 S.2 30=2 then(S.1.drop 1,qf a0 S.2 30)else(S.1,qf a0 S.2 30):=by
   subst hS;rfl
  obtain⟨sl,A2,H2⟩:=S;simp only at hF hS2;have Es:zsB a0 a1 a2=(I sl,A2,H2):=by rw[zsB,<-hS]
  obtain⟨bl,hbl⟩:∃bl,bl=I sl:=⟨_,rfl⟩;obtain⟨n,hn⟩:∃n:Int,n=bl.length:=⟨_,rfl⟩;have hnl:n=sl.length:=by rw[hn,hbl,zj]
  have gx:∀k,bl.getD k (.int .i64 0)=.int .i64 (sl.getD k 0):=fun k=>by rw[hbl,zE]
  generalize yR:jo=jJ;generalize yN:jK=jD;generalize yM:jU=jC;generalize qU:zeF=uH;generalize jB:Yp=Zs;generalize jA:QQ=Zr;generalize jz:QP=Zq;generalize kw:zeE=YE;generalize ztJ:zsB=zDg;generalize JP:yh=zem;refine zjR (T:=tab) (B:=[]) (Bi:=[(41,0,false,zc1 jJ jD jC uH),(42,0,false,zd8 Zs Zr Zq YE),(118,1000,false,zwZ zDg zem)]) 0 [1000008003,1000009003,2000004800,2000004810,2000004811,2000004813,2000004814,2000004999,2000006800,2000006818,2000006819,2000006821,2000006822,2000006999,0,2,3,7] Tryz.func79 rfl rfl (by kernel_rfl) (ze rfl) mixed zR (by subst yR yN yM qU jB jA jz kw ztJ JP;exact zB) (by subst yR yN yM qU jB jA jz kw ztJ JP;exact(jg uK (jg ZG (jg zn2 zy)))) (by kernel_rfl) rfl rfl zbK rfl ?_;intro L lp rr yy hL hr hy hf hlp
  conv=>cbv
  subst yR yN yM qU jB jA jz kw ztJ JP;simp only[Es,zo hL,sQ,true_and];have s0:yh a0 A2 H2:=hS2.1;have s1:yh a0 (jK a0 A2 H2 30) (jU a0 A2 H2 30):=uo s0;have n1:1<=sl.length:=hS2.2.1;have n2:sl.length<=4:=hS2.2.2
  have fin:∀(l:List Int) (A H:Int),spF a0 a1 a2=(l,A,H)->V.agg [V.slc false 2 (.int .i64 0) (I l)]=rr/\V.box 101 (V.agg [.slc false 5 (.int .u8 0) a0,.int .i64 A,.int .u64 H])=yy:=by
   intro l A H e;rw[hr,hy,zsx,e];exact⟨rfl,rfl⟩
  have hF':spF a0 a1 a2=if jo a0 A2 H2 30=0 then(sl.set 0 (Yf a0 (qf a0 (A2,H2) 30) [0,-1,65,2]),KI a0 (qf a0 (A2,H2) 30) [0,-1,65,2])
   else if jo a0 A2 H2 30=1 then(sl++[Yf a0 (qf a0 (A2,H2) 30) [2001,1999,5,1099511627776]],KI a0 (qf a0 (A2,H2) 30) [2001,1999,5,1099511627776])
   else if jo a0 A2 H2 30=2 then(sl.drop 1,qf a0 (A2,H2) 30)else(sl,qf a0 (A2,H2) 30):=hF
  refine⟨hq,s0,fun h=>?_,fun h=>⟨fun h'=>?_,fun h'=>⟨fun h2=>?_,fun h2=>?_⟩⟩⟩
  ·rw[if_pos h]at hF';refine⟨⟨s1,⟨[0,-1,65,2],rfl⟩,by decide,by decide⟩,by omega,by omega,by omega,?_⟩;have e:V.frzs ((I sl).set 0 (V.int .i64 (Yf a0 (qf a0 (A2,H2) 30) [0,-1,65,2])))=I (sl.set 0 (Yf a0 (qf a0 (A2,H2) 30) [0,-1,65,2])):=(by rw[JB,zA]);have f:=fin _ _ _ hF';rw[<-e]at f;exact f
  ·rw[if_neg h,if_pos h']at hF';refine⟨⟨s1,⟨[2001,1999,5,1099511627776],rfl⟩,by decide,by decide⟩,rfl,?_,yY _,?_⟩
   ·rw[List.length_singleton];omega
   have e:V.frzs (I sl++[V.int .i64 (Yf a0 (qf a0 (A2,H2) 30) [2001,1999,5,1099511627776])])=I (sl++[Yf a0 (qf a0 (A2,H2) 30) [2001,1999,5,1099511627776]]):=by
    rw[show[V.int .i64 (Yf a0 (qf a0 (A2,H2) 30) [2001,1999,5,1099511627776])]=I [Yf a0 (qf a0 (A2,H2) 30) [2001,1999,5,1099511627776]]from rfl,jY,zA]
   have f:=fin _ _ _ hF';rw[<-e]at f;exact f
  ·rw[if_neg h,if_neg h',if_pos h2]at hF';refine⟨by omega,by omega,by omega,?_⟩;have f:=fin _ _ _ hF';rw[zW,show List.take sl.length (I sl)=I sl from zG (by rw[zj];exact Nat.le_refl _),zC9];rw[zA];exact f
  ·rw[if_neg h,if_neg h',if_neg h2]at hF';exact fin _ _ _ hF'
 ·cases h
end Go.Ax
namespace Go.Ax
open Go.Proofs
def zwz(es:List V):Prop:=∃xs:List Int,es=U8 xs/\∀x∈xs,0<=x/\x<=255
def zDL(_:List V):Bool:=true
theorem zvC:∀xs:List Int,V.frzs (U8 xs)=U8 xs
 |[]=>rfl
 |x::xs=>by
  have:=zvC xs;simp only[U8]at this;simp only[U8,List.map_cons,V.frzs,V.frz,this]
theorem zCY{a:List V}(h:zwz a)(hb:zj1 a=false):IsU a:=by
 obtain⟨xs,hxs,hr⟩:=h;refine⟨xs,hxs,hr,?_⟩;have hl:a.length=xs.length:=by rw[hxs,U8,List.length_map]
 simp only[zj1,decide_eq_false_iff_not]at hb;omega
end Go.Ax
namespace Go.Proofs.YtdahdoichcnlgaaGreat
open Go.ChangeShapes Go.WideShapes Go.ChangeAt Go.RowKit Go.Ax
theorem zA4{x:V}(h:Wt tab 5 x):∃n,x=.int .u8 n/\0<=n/\n<=255:=by
 cases h with
 |int _ ti k n h hk hn=>
  cases h;cases hk;refine⟨n,rfl,?_⟩;simp[Lit.wf]at hn;have h1:IntKind.u8.min=0:=rfl;have h2:IntKind.u8.max=255:=rfl;omega
 |bool _ ti b h hk=>cases h;cases hk
 |str _ ti b h hk=>cases h;cases hk
 |slc _ ti e es h hk=>cases h;cases hk
 |agg _ ti e es h hk=>cases h;cases hk
theorem zyU{x:V}(h:Wt tab 22 x):∃es,x=.slc false 5 (.int .u8 0) es/\zwz es:=by
 cases h with
 |int _ ti k n h hk hn=>cases h;cases hk
 |bool _ ti b h hk=>cases h;cases hk
 |str _ ti b h hk=>cases h;cases hk
 |slc _ ti e es h hk hl he=>
  cases h;cases hk;refine⟨es,rfl,?_⟩;clear hl
  induction es with
  |nil=>exact⟨[],rfl,by simp⟩
  |cons y es ih=>
   obtain⟨l,hl,hr⟩:=ih (fun i y hy=>he (i+1) y (by simpa using hy));obtain⟨n,hn,h0,h1⟩:=zA4 (he 0 y rfl);refine⟨n::l,by rw[hl,hn];rfl,fun x hx=>?_⟩;rcases List.mem_cons.1 hx with rfl|hx
   ·exact⟨h0,h1⟩
   ·exact hr x hx
 |agg _ ti e es h hk=>cases h;cases hk
end Go.Proofs.YtdahdoichcnlgaaGreat
namespace Go.Ax
open Go.Proofs
end Go.Ax
namespace Go.Ax
open Go.Proofs
def Ye(P S:List Int)(i:Nat):Bool:=if i=0 then decide (P.getD 0 0= -1)&&decide (S.getD 0 0= -1)else
 (decide (0<=P.getD i 0)&&decide (P.getD i 0<i))&&(decide (S.getD i 0= -1)||decide (0<=S.getD i 0)&&(decide (S.getD i 0=P.getD (P.getD i 0).toNat 0)||decide (S.getD i 0=S.getD (P.getD i 0).toNat 0)))
def Kd(P S:List Int)(i j:Nat):Bool:= !(decide (0<=S.getD i 0)&&decide (S.getD i 0=S.getD j 0)&&decide (P.getD i 0=P.getD j 0))
structure ClP (P S Q:List Int):Prop where
 n1:1<=P.length
 n24:P.length<=24
 sl:S.length=P.length
 ql:Q.length=P.length
 q:∀i,i<P.length->-100000<=Q.getD i 0/\Q.getD i 0<=100000
 place:∀i,i<P.length->Ye P S i=true
 diff:∀i j,i<P.length->j<i->Kd P S i j=true
noncomputable def zlu(P S Q:List Int):Bool:= @decide (ClP P S Q) (Classical.propDecidable _)
theorem KO{P S Q:List Int}:zlu P S Q=true↔ClP P S Q:=by
 rw[zlu];exact@decide_eq_true_iff _ (Classical.propDecidable _)
theorem zvc{P S Q:List Int}(h:¬ClP P S Q):zlu P S Q=false:=by
 cases hb:zlu P S Q with
 |false=>rfl
 |true=>exact absurd (KO.1 hb) h
theorem zcv{P S:List Int}:Ye P S 0=true↔P.getD 0 0= -1/\S.getD 0 0= -1:=by
 rw[Ye,if_pos rfl];simp only[zh,decide_eq_true_eq]
theorem zcu{P S:List Int}{i:Nat}(hi:i≠0):Ye P S i=true↔(0<=P.getD i 0/\P.getD i 0<i)/\(S.getD i 0= -1\/0<=S.getD i 0/\(S.getD i 0=P.getD (P.getD i 0).toNat 0\/S.getD i 0=S.getD (P.getD i 0).toNat 0)):=by
 rw[Ye,if_neg hi];simp only[zh,Bool.or_eq_true,decide_eq_true_eq]
theorem zpV{P S:List Int}{i:Nat}(h:∀t,t<=i->Ye P S t=true):∀t,t<=i->-1<=P.getD t 0/\P.getD t 0<t/\-1<=S.getD t 0/\(0<t->S.getD t 0<t):=by
 intro t
 induction t using Nat.strongRecOn with
 |ind t ih=>
  intro ht;have hp:=h t ht;by_cases h0:t=0
  ·subst h0;obtain⟨h1,h2⟩:=zcv.1 hp;omega
  ·obtain⟨⟨h1,h2⟩,h3⟩:=(zcu h0).1 hp;have h4:=ih (P.getD t 0).toNat (by omega) (by omega);refine⟨by omega,h2,by omega,fun _=>?_⟩;rcases h3 with h3|⟨_,h3|h3⟩
   ·omega
   ·omega
   ·by_cases h5:(P.getD t 0).toNat=0
    ·have:=zcv.1 (h 0 (by omega));rw[h5]at h3;omega
    ·have:=h4.2.2.2 (by omega);omega
def QW(f:List V->List V->List V->Bool)(q:List V->List V->List V->Prop):zK:=fun
 |[.agg [.slc false 2 (.int .i64 0) a0,.slc false 2 (.int .i64 0) a1,.slc false 2 (.int .i64 0) a2]]=>some ([q a0 a1 a2],.bool (f a0 a1 a2))
 |_=>none
noncomputable def qH(a b c:List V):Bool:=zlu (yO a) (yO b) (yO c)
def Qc(a b c:List V):Prop:=YB a/\YB b/\YB c
def ztc(f:List V->List V->List V->Int->Bool)(q:List V->List V->List V->Int->Prop):zK:=fun
 |[.agg [.slc false 2 (.int .i64 0) a0,.slc false 2 (.int .i64 0) a1,.slc false 2 (.int .i64 0) a2],.int .i64 a3]=>some ([q a0 a1 a2 a3],.bool (f a0 a1 a2 a3))
 |_=>none
def zgU(a b _:List V)(i:Int):Bool:=Ye (yO a) (yO b) i.toNat
def zod(a b c:List V)(i:Int):Prop:=YB a/\YB b/\YB c/\0<=i/\i<a.length/\a.length<=24/\b.length=a.length
theorem zn7:yJ Tryz.prog 91 (ztc zgU zod):=by
 intro args ps r h hp;unfold ztc at h;split at h
 ·rename_i a0 a1 a2 i;simp only[za,zb]at h;obtain⟨rfl,rfl⟩:=h;obtain⟨⟨P,hP⟩,⟨S,hS⟩,⟨Q,hQ⟩,i0,i1,h24,hsl⟩:zod a0 a1 a2 i:=(zm.1 hp).1;have g0:V.frzs a0=a0:=by rw[hP,zA]
  have g1:V.frzs a1=a1:=by rw[hS,zA]
  have g2:V.frzs a2=a2:=by rw[hQ,zA]
  have hpl:a0.length=P.length:=by rw[hP,zj]
  have hsl2:a1.length=P.length:=by rw[hsl,hpl]
  have gp:∀k,a0.getD k (.int .i64 0)=.int .i64 (P.getD k 0):=fun k=>by rw[hP,zE]
  have gs:∀k,a1.getD k (.int .i64 0)=.int .i64 (S.getD k 0):=fun k=>by rw[hS,zE]
  have hf0:zgU a0 a1 a2 i=Ye P S i.toNat:=by rw[zgU,hP,hS,zr,zr]
  rw[hpl]at i1 h24;generalize yp:yi=qP;refine zI (T:=tab) (B:=[(88,qW qP)]) (Bi:=[]) [0,1,2,4,5,6] Tryz.func91 rfl rfl (by kernel_rfl) (ze rfl) mixed zR (by subst yp;exact(zn JF zB)) (by subst yp;exact zy) (by kernel_rfl) ?_;intro L lp rr hL hr hf hlp;have E1:∀x a b,qP x a b=yi x a b:=fun x a b=>by rw[<-yp]
  conv=>cbv
  have hw:i≠0->IntKind.wrap .i64 (i-1)=i-1:=fun _=>zl (by omega) (by omega);simp only[zo hL,sQ,g0,g1,g2,hpl,hsl2,gp,gs,E1];refine⟨i0,i1,i0,i1,fun h0=>?_,fun h0=>?_⟩
  ·have e:i.toNat=0:=(by omega);rw[hr,hf0,e,Ye,if_pos rfl];rfl
  have hi0:¬i.toNat=0:=by omega
  rw[hw h0,yi];refine⟨fun h1=>?_,fun h1=>?_⟩
  ·rw[hr,hf0,Ye,if_neg hi0,show decide (P.getD i.toNat 0<(i.toNat:Int))=decide (P.getD i.toNat 0<=i-1)from decide_eq_decide.2 (by omega),h1];rfl
  simp only[zh,decide_eq_true_eq]at h1;obtain⟨p0,p1⟩:=h1;obtain⟨p,hpp⟩:∃p,p=P.getD i.toNat 0:=⟨_,rfl⟩;obtain⟨s,hss⟩:∃s,s=S.getD i.toNat 0:=⟨_,rfl⟩;rw[<-hpp]at p0 p1 ⊢;rw[<-hss];refine⟨fun _=>p0,fun _=>by omega,fun _=>trivial,fun _=>p0,fun _=>by omega,fun _=>trivial,fun h2 h3=>⟨h2,h3⟩,fun h2 h3=>⟨h2,h3⟩,?_⟩;rw[hr,hf0,Ye,if_neg hi0,<-hpp,<-hss,decide_eq_true p0,decide_eq_true (show p<(i.toNat:Int) by omega),Bool.and_self,Bool.true_and];rfl
 ·cases h
theorem za8:yJ Tryz.prog 56 (QW qH Qc):=by
 intro args ps r h hp;unfold QW at h;split at h
 ·rename_i a0 a1 a2;simp only[za,zb]at h;obtain⟨rfl,rfl⟩:=h;have hq:Qc a0 a1 a2:=(zm.1 hp).1;obtain⟨⟨P,hP⟩,⟨S,hS⟩,⟨Q,hQ⟩⟩:=id hq;have g0:V.frzs a0=a0:=by rw[hP,zA]
  have g1:V.frzs a1=a1:=by rw[hS,zA]
  have g2:V.frzs a2=a2:=by rw[hQ,zA]
  have hpl:a0.length=P.length:=by rw[hP,zj]
  have hsl:a1.length=S.length:=by rw[hS,zj]
  have hql:a2.length=Q.length:=by rw[hQ,zj]
  have gp:∀k,a0.getD k (.int .i64 0)=.int .i64 (P.getD k 0):=fun k=>by rw[hP,zE]
  have gs:∀k,a1.getD k (.int .i64 0)=.int .i64 (S.getD k 0):=fun k=>by rw[hS,zE]
  have hf0:qH a0 a1 a2=zlu P S Q:=by rw[qH,hP,hS,hQ,zr,zr,zr]
  have hno:¬ClP P S Q->qH a0 a1 a2=false:=fun h=>by rw[hf0,zvc h]
  obtain⟨n,hn⟩:∃n:Int,n=P.length:=⟨_,rfl⟩;generalize Zo:Ji=zaz;generalize zcl:YB=zia;generalize zjz:zgU=zqp;generalize zjv:zod=zyJ;refine zI (T:=tab) (B:=[(61,Kj zaz zia),(91,ztc zqp zyJ)]) (Bi:=[]) [0,1,2,3,4,5,33,34,41,42] Tryz.func56 rfl rfl (by kernel_rfl) (ze rfl) mixed zR (by subst Zo zcl zjz zjv;exact(zn zdD (zn zn7 zB))) (by subst Zo zcl zjz zjv;exact zy) (by kernel_rfl) ?_;intro L lp rr hL hr hf hlp;have Ew:∀x y,zaz a2 x y=qG Q x y:=fun x y=>by rw[<-Zo,Ji,hQ,zr]
  have Ep:∀i,zqp a0 a1 a2 i=Ye P S i.toNat:=fun i=>by rw[<-zjz,zgU,hP,hS,zr,zr]
  conv=>cbv
  simp only[zo hL,sQ,g0,g1,g2,hpl,hsl,hql,<-hn,Ew];refine⟨fun h=>?_,fun h=>⟨?_,fun hw=>?_,fun hw=>?_⟩⟩
  ·rw[hr,hno (fun c=>by have:=c.n1;have:=c.n24;have:=c.sl;have:=c.ql;omega)]
  ·rw[<-zcl];exact hq.2.2
  ·rw[hr,hno (fun c=>?_)]
   have hw':qG Q (-100000) 100000=true:=by
    rw[qG,List.all_eq_true];intro x hx;obtain⟨i,hi,rfl⟩:=qK.1 hx;have:=c.q i (by have:=c.ql;omega);rw[zd,zg hi]at this;simp only[yZ]at this;simp only[yi,zh,decide_eq_true_eq];exact this
   rw[hw']at hw;cases hw
  obtain⟨⟨⟨n1,n24⟩,hsl2⟩,hql2⟩:=h;have hSl:S.length=P.length:=by omega
  have hQl:Q.length=P.length:=by omega
  have hqr:∀i,i<P.length->-100000<=Q.getD i 0/\Q.getD i 0<=100000:=fun i hi=>by
   rw[qG,List.all_eq_true]at hw;have:=hw (Q.getD i 0) (by rw[zd,zg (by omega)];exact yE _);simpa only[yi,zh,decide_eq_true_eq]using this
  refine hlp (Int) _ _ _ [1,33,34] (fun x=>[(1,none,.val (.box 31 (.agg [.slc false 2 (.int .i64 0) a0,.slc false 2 (.int .i64 0) a1,.slc false 2 (.int .i64 0) a2]))),(33,none,.val (.int .i64 n)),(34,none,.val (.int .i64 x))])
   (fun x=>0<=x/\x<=n/\(∀i,i<x.toNat->Ye P S i=true)/\(∀i j,i<x.toNat->j<i->Kd P S i j=true)) (fun x=>(n-x).toNat) (0) (by subst hL;rfl) ?_ ?_
  ·exact⟨by omega,by omega,fun i hi=>by simp at hi,fun i j hi=>by simp at hi⟩
  intro i ⟨i0,i1,hpl1,hdf1⟩ hfx ag hag
  conv=>cbv
  simp only[zo hL,sQ,g0,g1,g2,hpl,hsl,hql,<-hn,Ep,gp,gs];refine⟨fun h2=>⟨?_,fun h3=>?_,fun h3=>?_⟩,fun h2=>?_⟩
  ·rw[<-zjv];exact⟨hq.1,hq.2.1,hq.2.2,i0,by omega,by omega,by omega⟩
  ·rw[hr,hno (fun c=>by have:=c.place i.toNat (by omega);rw[this]at h3;cases h3)]
  ·refine hlp (Int) _ _ _ [1,4,33,34,41,42] (fun x=>[(1,none,.val (.box 31 (.agg [.slc false 2 (.int .i64 0) a0,.slc false 2 (.int .i64 0) a1,.slc false 2 (.int .i64 0) a2]))),(4,none,.val (.int .i64 i)),(33,none,.val (.int .i64 n)),(34,none,.val (.int .i64 i)),(41,none,.val (.int .i64 i)),(42,none,.val (.int .i64 x))])
    (fun x=>0<=x/\x<=i/\∀j,j<x.toNat->Kd P S i.toNat j=true) (fun x=>(i-x).toNat) (0) (by subst hL;rfl) ?_ ?_
   ·exact⟨by omega,by omega,fun i hi=>by simp at hi⟩
   intro j ⟨j0,j1,hdj⟩ hfx2 ag2 hag2
   conv=>cbv
   simp only[zo hL,sQ,g0,g1,g2,hpl,hsl,hql,<-hn,gp,gs];refine⟨fun h4=>?_,fun h4=>?_⟩
   ·refine⟨i0,by omega,fun _=>i0,fun _=>by omega,fun _=>trivial,fun _=>j0,fun _=>by omega,fun _=>trivial,fun _=>i0,fun _=>h2,fun _=>trivial,fun _=>j0,fun _=>by omega,fun _=>trivial,fun⟨⟨h5,h6⟩,h7⟩=>?_,fun h5=>?_⟩
    ·rw[hr,hno (fun c=>?_)];have:=c.diff i.toNat j.toNat (by omega) (by omega);rw[Kd,decide_eq_true h5,decide_eq_true h6,decide_eq_true h7]at this;cases this
    ·rw[zl (n:=j+1) (by omega) (by omega)];refine hag2 (j+1) ⟨by omega,by omega,fun t ht=>?_⟩ (by omega);rw[zF j0]at ht
     by_cases htj:t=j.toNat
     ·rw[htj,Kd];rcases h5 with(h5|h5)|h5
      ·rw[decide_eq_false h5];rfl
      ·rw[decide_eq_false h5,ux];rfl
      ·rw[decide_eq_false h5,ux];rfl
     ·exact hdj t (by omega)
   ·rw[zl (n:=i+1) (by omega) (by omega)];refine hag (i+1) ⟨by omega,by omega,fun t ht=>?_,fun t u ht hu=>?_⟩ (by omega)
    ·rw[zF i0]at ht
     by_cases hti:t=i.toNat
     ·rw[hti];exact h3
     ·exact hpl1 t (by omega)
    ·rw[zF i0]at ht
     by_cases hti:t=i.toNat
     ·rw[hti];exact hdj u (by omega)
     ·exact hdf1 t u (by omega) hu
  ·have hcl:ClP P S Q:=⟨by omega,by omega,hSl,hQl,hqr,fun k hk=>hpl1 k (by omega),fun k j hk hj=>hdf1 k j (by omega) hj⟩;rw[hr,hf0,KO.2 hcl]
 ·cases h
def zoJ(f:List V->List V->List V->Int->Int->Bool)(q:List V->List V->List V->Int->Int->Prop):zK:=fun
 |[.agg [.slc false 2 (.int .i64 0) a0,.slc false 2 (.int .i64 0) a1,.slc false 2 (.int .i64 0) a2],.int .i64 a3,.int .i64 a4]=>some ([q a0 a1 a2 a3 a4],.bool (f a0 a1 a2 a3 a4))
 |_=>none
def zsy(a b _:List V)(i j:Int):Bool:=decide (0<=j)&&(decide ((yO a).getD i.toNat 0=j)||decide ((yO b).getD i.toNat 0=j))
def zzk(a b c:List V)(i _:Int):Prop:=YB a/\YB b/\YB c/\0<=i/\i<a.length/\b.length=a.length
theorem zn0:yJ Tryz.prog 145 (zoJ zsy zzk):=by
 intro args ps r h hp;unfold zoJ at h;split at h
 ·rename_i a0 a1 a2 i j;simp only[za,zb]at h;obtain⟨rfl,rfl⟩:=h;obtain⟨⟨P,hP⟩,⟨S,hS⟩,⟨Q,hQ⟩,i0,i1,hsl⟩:zzk a0 a1 a2 i j:=(zm.1 hp).1;have g0:V.frzs a0=a0:=by rw[hP,zA]
  have g1:V.frzs a1=a1:=by rw[hS,zA]
  have g2:V.frzs a2=a2:=by rw[hQ,zA]
  have hpl:a0.length=P.length:=by rw[hP,zj]
  have hsl2:a1.length=P.length:=by rw[hsl,hpl]
  have gp:∀k,a0.getD k (.int .i64 0)=.int .i64 (P.getD k 0):=fun k=>by rw[hP,zE]
  have gs:∀k,a1.getD k (.int .i64 0)=.int .i64 (S.getD k 0):=fun k=>by rw[hS,zE]
  have hf0:zsy a0 a1 a2 i j=(decide (0<=j)&&(decide (P.getD i.toNat 0=j)||decide (S.getD i.toNat 0=j))):=by rw[zsy,hP,hS,zr,zr]
  rw[hpl]at i1;refine zI (T:=tab) (B:=[]) (Bi:=[]) [0,1,2,3,6] Tryz.func145 rfl rfl (by kernel_rfl) (ze rfl) mixed zR (by exact zB) (by exact zy) (by kernel_rfl) ?_;intro L lp rr hL hr hf hlp
  conv=>cbv
  simp only[zo hL,sQ,g0,g1,g2,hpl,hsl2,gp,gs];refine⟨fun _=>i0,fun _=>i1,fun _=>trivial,fun _=>i0,fun _=>i1,fun _=>trivial,fun h2 h3=>⟨h2,h3⟩,?_⟩;rw[hr,hf0];rfl
 ·cases h
theorem zbP:yJ Tryz.prog 132 (QW qH Qc):=by
 intro args ps r h hp;unfold QW at h;split at h
 ·rename_i a0 a1 a2;simp only[za,zb]at h;obtain⟨rfl,rfl⟩:=h;have hq:Qc a0 a1 a2:=(zm.1 hp).1;obtain⟨⟨P,hP⟩,⟨S,hS⟩,⟨Q,hQ⟩⟩:=id hq;have g0:V.frzs a0=a0:=by rw[hP,zA]
  have g1:V.frzs a1=a1:=by rw[hS,zA]
  have g2:V.frzs a2=a2:=by rw[hQ,zA]
  have hpl:a0.length=P.length:=by rw[hP,zj]
  have hsl:a1.length=S.length:=by rw[hS,zj]
  have hql:a2.length=Q.length:=by rw[hQ,zj]
  have gp:∀k,a0.getD k (.int .i64 0)=.int .i64 (P.getD k 0):=fun k=>by rw[hP,zE]
  have gs:∀k,a1.getD k (.int .i64 0)=.int .i64 (S.getD k 0):=fun k=>by rw[hS,zE]
  have gq:∀k,a2.getD k (.int .i64 0)=.int .i64 (Q.getD k 0):=fun k=>by rw[hQ,zE]
  have hf0:qH a0 a1 a2=zlu P S Q:=by rw[qH,hP,hS,hQ,zr,zr,zr]
  have hno:¬ClP P S Q->qH a0 a1 a2=false:=fun h=>by rw[hf0,zvc h]
  obtain⟨n,hn⟩:∃n:Int,n=P.length:=⟨_,rfl⟩;generalize yp:yi=qP;generalize ztE:zsy=zyN;generalize ztA:zzk=zDc;refine zI (T:=tab) (B:=[(82,qW qP),(145,zoJ zyN zDc)]) (Bi:=[]) [0,1,2,3,4,5] Tryz.func132 rfl rfl (by kernel_rfl) (ze rfl) mixed zR (by subst yp ztE ztA;exact(zn JE (zn zn0 zB))) (by subst yp ztE ztA;exact zy) (by kernel_rfl) ?_;intro L lp rr hL hr hf hlp;have Er:∀x a b,qP x a b=(decide (a<=x)&&decide (x<=b)):=fun x a b=>by rw[<-yp,yi]
  have En:∀i j,zyN a0 a1 a2 i j=(decide (0<=j)&&(decide (P.getD i.toNat 0=j)||decide (S.getD i.toNat 0=j))):=fun i j=>by rw[<-ztE,zsy,hP,hS,zr,zr]
  conv=>cbv
  simp only[zo hL,sQ,g0,g1,g2,hpl,hsl,hql,<-hn,Er,gp,gs];refine⟨fun h=>by omega,fun h=>by omega,fun _=>trivial,fun h=>by omega,fun h=>by omega,fun _=>trivial,fun h=>?_,fun h=>?_⟩
  ·rw[hr,hno (fun c=>?_)];have c1:=c.n1;have c2:=c.n24;have c3:=c.sl;have c4:=c.ql;have c5:=zcv.1 (c.place 0 (by omega));omega
  obtain⟨⟨⟨⟨⟨n1,n24⟩,hsl2⟩,hql2⟩,hp0⟩,hs0⟩:=h;have hSl:S.length=P.length:=by omega
  have hQl:Q.length=P.length:=by omega
  refine hlp (Int) _ _ _ [1,3,4] (fun x=>[(1,none,.val (.box 31 (.agg [.slc false 2 (.int .i64 0) a0,.slc false 2 (.int .i64 0) a1,.slc false 2 (.int .i64 0) a2]))),(3,none,.val (.int .i64 n)),(4,none,.val (.int .i64 x))])
   (fun x=>0<=x/\x<=n/\(∀i,i<x.toNat->-100000<=Q.getD i 0/\Q.getD i 0<=100000)/\(∀i,i<x.toNat->Ye P S i=true)/\(∀i j,i<x.toNat->j<i->Kd P S i j=true)) (fun x=>(n-x).toNat) (0) (by subst hL;rfl) ?_ ?_
  ·exact⟨by omega,by omega,fun i hi=>by simp at hi,fun i hi=>by simp at hi,fun i j hi=>by simp at hi⟩
  intro i ⟨i0,i1,hqr,hpl1,hdf1⟩ hfx ag hag
  conv=>cbv
  simp only[zo hL,sQ,g0,g1,g2,hpl,hsl,hql,<-hn,Er,En,gp,gs,gq];refine⟨fun h2=>?_,fun h2=>?_⟩
  ·have hwi:IntKind.wrap .i64 (i+1)=i+1:=zl (by omega) (by omega)
   have hag':(-100000<=Q.getD i.toNat 0/\Q.getD i.toNat 0<=100000)->Ye P S i.toNat=true->(∀j,j<i.toNat->Kd P S i.toNat j=true)->(0<=i+1/\i+1<=n/\(∀t,t<(i+1).toNat->-100000<=Q.getD t 0/\Q.getD t 0<=100000)/\(∀t,t<(i+1).toNat->Ye P S t=true)/\(∀t j,t<(i+1).toNat->j<t->Kd P S t j=true)):=fun u1 u2 u3=>by
    refine⟨by omega,by omega,fun t ht=>?_,fun t ht=>?_,fun t j ht hj=>?_⟩
    ·by_cases e:t=i.toNat
     ·rw[e];exact u1
     ·exact hqr t (by omega)
    ·by_cases e:t=i.toNat
     ·rw[e];exact u2
     ·exact hpl1 t (by omega)
    ·by_cases e:t=i.toNat
     ·rw[e];exact u3 j (by omega)
     ·exact hdf1 t j (by omega) hj
   rw[hwi];refine⟨i0,by omega,fun h3=>?_,fun h3=>⟨fun h4=>?_,fun h4=>⟨i0,h2,?_⟩⟩⟩
   ·rw[hr,hno (fun c=>by have:=c.q i.toNat (by omega);omega)]
   ·have e0:i.toNat=0:=(by omega);refine hag (i+1) (hag' h3 ?_ ?_) (by omega)
    ·rw[e0];exact zcv.2 ⟨hp0,hs0⟩
    ·intro j hj;omega
   have hwm:IntKind.wrap .i64 (i-1)=i-1:=zl (by omega) (by omega);have hi0:¬i.toNat=0:=(by omega);rw[hwm];obtain⟨p,hpp⟩:∃p,p=P.getD i.toNat 0:=⟨_,rfl⟩;obtain⟨s,hss⟩:∃s,s=S.getD i.toNat 0:=⟨_,rfl⟩;have hpb:= @zcu P S i.toNat hi0;rw[<-hpp,<-hss]at hpb;rw[<-hpp,<-hss]
   have hlow:ClP P S Q->(0<=p/\p<i)/\s<i/\(s= -1\/0<=s/\(s=P.getD p.toNat 0\/s=S.getD p.toNat 0)):=fun c=>by
    have:=zpV (i:=i.toNat) (fun t ht=>c.place t (by omega)) i.toNat (Nat.le_refl _);rw[<-hpp,<-hss]at this;have h5:=hpb.1 (c.place i.toNat (by omega));exact⟨by omega,by omega,h5.2⟩
   have hdneg:s= -1->∀j,Kd P S i.toNat j=true:=fun h j=>by
    rw[Kd,<-hss,decide_eq_false (show ¬0<=s by omega)];rfl
   refine⟨fun h5=>?_,fun h5=>⟨i0,by omega,fun h6=>?_,fun h6=>?_⟩⟩
   ·rw[hr,hno (fun c=>by have:=hlow c;omega)]
   ·exact hag (i+1) (hag' h3 (hpb.2 ⟨by omega,.inl h6⟩) (fun j _=>hdneg h6 j)) (by omega)
   refine⟨i0,by omega,fun _=>i0,fun _=>h2,fun _=>trivial,fun _=>i0,fun _=>by omega,fun _=>trivial,fun _=>?_,fun h7=>?_,fun h7=>?_⟩
   ·rw[<-ztA];exact⟨hq.1,hq.2.1,hq.2.2,h5.1,by omega,by omega⟩
   ·rw[hr,hno (fun c=>?_)];obtain⟨c1,c2,c3⟩:=hlow c;rcases c3 with c3|⟨c3,c4⟩
    ·exact h6 c3
    ·rcases h7 with(h7|h7)|h7|h7
     ·exact h7 c3
     ·omega
     ·exact h7 c3
     ·rcases c4 with c4|c4
      ·exact h7.1 c4.symm
      ·exact h7.2 c4.symm
   ·obtain⟨⟨s0,s1⟩,_,s3⟩:=h7;have hpl2:Ye P S i.toNat=true:=hpb.2 ⟨by omega,.inr ⟨s0,s3.imp Eq.symm Eq.symm⟩⟩
    refine hlp (Int) _ _ _ [1,3,4,5] (fun x=>[(1,none,.val (.box 31 (.agg [.slc false 2 (.int .i64 0) a0,.slc false 2 (.int .i64 0) a1,.slc false 2 (.int .i64 0) a2]))),(3,none,.val (.int .i64 n)),(4,none,.val (.int .i64 i)),(5,none,.val (.int .i64 x))])
     (fun x=>1<=x/\x<=i/\∀j,j<x.toNat->Kd P S i.toNat j=true) (fun x=>(i-x).toNat) (1) (by subst hL;rfl) ?_ ?_
    ·refine⟨by omega,by omega,fun j hj=>?_⟩;have:j=0:=(by omega);subst this;rw[Kd,hs0,<-hss,decide_eq_false (show ¬s= -1 by omega)];cases decide (0<=s)<;>rfl
    intro j ⟨j0,j1,hdj⟩ hfx2 ag2 hag2
    conv=>cbv
    simp only[zo hL,sQ,g0,g1,g2,hpl,hsl,hql,<-hn,gp,gs];rw[<-hpp,<-hss];refine⟨fun h8=>?_,fun h8=>?_⟩
    ·have j0':0<=j:=(by omega);refine⟨j0',by omega,i0,h2,fun _=>j0',fun _=>by omega,fun _=>trivial,fun _=>i0,fun _=>by omega,fun _=>trivial,fun h9=>?_,fun h9=>?_⟩
     ·rw[hr,hno (fun c=>?_)];have:=c.diff i.toNat j.toNat (by omega) (by omega);rw[Kd,<-hss,<-hpp,decide_eq_true s0,decide_eq_true h9.2.symm,decide_eq_true h9.1.symm]at this;cases this
     ·rw[zl (n:=j+1) (by omega) (by omega)];refine hag2 (j+1) ⟨by omega,by omega,fun t ht=>?_⟩ (by omega);rw[zF j0']at ht
      by_cases htj:t=j.toNat
      ·rw[htj,Kd,<-hss,<-hpp];rcases h9 with h9|h9
       ·rw[decide_eq_false (show ¬p=P.getD j.toNat 0 from fun e=>h9 e.symm),ux];rfl
       ·rw[decide_eq_false (show ¬s=S.getD j.toNat 0 from fun e=>h9 e.symm),ux];rfl
      ·exact hdj t (by omega)
    ·rw[hwi];exact hag (i+1) (hag' h3 hpl2 (fun t ht=>hdj t (by omega))) (by omega)
  ·have hcl:ClP P S Q:=⟨by omega,by omega,hSl,hQl,fun k hk=>hqr k (by omega),fun k hk=>hpl1 k (by omega),fun k j hk hj=>hdf1 k j (by omega) hj⟩;rw[hr,hf0,KO.2 hcl]
 ·cases h
end Go.Ax
namespace Go.Ax
open Go.Proofs
inductive Cn (es:List (List Int)):Int->Int->Prop
 |refl (u:Int):Cn es u u
 |tail {u v w:Int} (h:Cn es u v) (hw:w∈zba es v):Cn es u w
end Go.Ax
namespace Go.Ax
open Go.Proofs
structure Bfs (n:Nat) (es:List (List Int)) (root:Int) (ord par:List Int) (i k:Nat):Prop where
 nd:ord.Nodup
 inr:∀x∈ord,0<=x/\x<n
 pl:par.length=n
 ne:0<ord.length
 hd:ord.getD 0 0=root
 rp:gI par root= -1
 tree:∀t,0<t->t<ord.length->∃s,s<t/\s<=i/\gI par (ord.getD t 0)=ord.getD s 0/\ord.getD t 0∈zba es (ord.getD s 0)/\(s=i->ord.getD t 0∈(zba es (ord.getD i 0)).take k)
 done:∀t,t<i->∀x∈zba es (ord.getD t 0),x∈ord
 cur:∀x∈(zba es (ord.getD i 0)).take k,x∈ord
 ile:i<=ord.length
theorem zlz{l:List Int}{t:Nat}(h:t<l.length):l.getD t 0∈l:=by
 rw[zd,zg h];exact yE _
theorem zvg{l:List Int}{k:Nat}(h:k<l.length):l[k]=l.getD k 0:=by
 rw[zd,zg h];rfl
theorem zCH{l:List Int}{x:Int}(h:x∈l):∃t,t<l.length/\l.getD t 0=x:=by
 obtain⟨t,ht,rfl⟩:=qK.1 h;exact⟨t,ht,by rw[zd,zg ht];rfl⟩
theorem zp0:∀{n:Nat} (l:List Int),l.Nodup->(∀x∈l,0<=x/\x<n)->l.length<=n
 |0,l,_,hl=>by
  cases l with
  |nil=>simp
  |cons x l=>have:=hl x (by simp);omega
 |n+1,l,hn,hl=>by
  have h1:=zp0 (n:=n) (l.filter fun x=>x !=(n:Int)) (hn.filter _) (fun x hx=>by
   have h2:=List.mem_filter.1 hx;have h3:=hl x h2.1;have h4:x≠n:=by simpa using h2.2
   omega)
  have h2:∀l:List Int,l.Nodup->l.length<=(l.filter fun x=>x !=(n:Int)).length+1:=by
   intro l
   induction l with
   |nil=>simp
   |cons y l ih=>
    intro hy;have hy2:=List.nodup_cons.1 hy;have ih2:=ih hy2.2;by_cases hyn:y=n
    ·have h3:(l.filter fun x=>x !=(n:Int))=l:=by
      rw[List.filter_eq_self];intro a ha;have:a≠n:=fun h=>hy2.1 (by rw[hyn,<-h];exact ha);simpa using this
     rw[List.filter_cons,hyn];simp[h3]
    ·rw[List.filter_cons];simp[hyn];omega
  have h3:=h2 l hn;omega
end Go.Ax
namespace Go.Ax
open Go.Proofs
end Go.Ax
namespace Go.Ax
open Go.Proofs
theorem zhh{α:Type}(f:Nat->α){n i:Nat}(x:α)(h:i<n):(yI f n).set i x=yI (fun t=>if t=i then x else f t) n:=by
 apply List.ext_getElem?;intro j;rw[JA];by_cases hj:j<n
 ·rw[uz _ _ _ hj,uz _ _ _ hj];by_cases h1:i=j
  ·rw[if_pos h1,if_pos (by rw[yo];exact h),if_pos h1.symm]
  ·rw[if_neg h1,if_neg (Ne.symm h1)]
 ·rw[if_neg (by omega),zD (by rw[yo];omega),zD (by rw[yo];omega)]
def T2(n:Nat)(f:Nat->Nat->Int):List (List Int):=yI (fun i=>yI (f i) n) n
end Go.Ax
namespace Go.Ax
open Go.Proofs
end Go.Ax
namespace Go.Proofs
end Go.Proofs
namespace Go.Ax
open Go.Proofs Go.Sort Go.RowKit
end Go.Ax
namespace Go.Ax
open Go.Proofs Go.Sort Go.RowKit
end Go.Ax
namespace Go.Ax
open Go.Proofs
theorem zza{α:Type}{l:List α}{i j:Nat}{x z:α}(hi:i<l.length):(l.set i x).getD j z=if j=i then x else l.getD j z:=by
 rw[zd,JA,zd];by_cases h:i=j
 ·rw[if_pos h,if_pos hi,if_pos h.symm];rfl
 ·rw[if_neg h,if_neg (Ne.symm h)]
end Go.Ax
namespace Go.Ax
open Go.Proofs
end Go.Ax
