import Derived.Test.YtdahdoichcnlgaaGreatB05p2
import Derived.Test.YtdahdoichcnlgaaGreatB02p2
import Derived.Test.YtdahdoichcnlgaaGreatB04p2
set_option linter.all false
set_option maxRecDepth 100000
set_option maxHeartbeats 4000000
open Bool renaming and_eq_false_iff->ud,and_eq_true->zh
open Int renaming mul_comm->zdo,mul_tdiv_cancel_left->ZA,natCast_nonneg->uj,toNat_natCast->zV
open List renaming append_assoc->zU,append_nil->yv,cons_append->yb,drop_drop->Zl,drop_zero->uK,eq_nil_of_length_eq_zero->yC,getD_eq_getElem?_getD->zd,getElem?_append_left->zQ,getElem?_append_right->zR,getElem?_drop->zX,getElem?_eq_getElem->zg,getElem?_eq_some_iff->zl,length_append->zp,length_cons->zi,length_nil->zq,length_replicate->zE,length_set->yG,length_singleton->yj,length_take->zZ,mem_append->yW,mem_filter->jU,mem_range->kr,mem_replicate->Yr,nil_append->qr,replicate_append_replicate->qS,replicate_succ->yw,replicate_succ'->qM,replicate_zero->ZQ,set_append_right->Kh,take_append_drop->ke,take_of_length_le->zy
open List.cons renaming injEq->kA
open Nat renaming add_zero->ya,gcd_comm->uG,gcd_dvd_left->jY,gcd_dvd_right->uO,gcd_one_left->KA,gcd_pos_of_pos_left->jE,le_of_ble_eq_true->ze,le_of_dvd->zbW,le_refl->zt,lt_or_ge->Qg,sub_self->kY
open Option.some renaming injEq->za
open Prod.mk renaming injEq->zb
/-
 Branches of sequences:impl. No conditions but those of the contracts.
-/
namespace Go.Ax
open Go.Proofs
def zr3(a b:List V):Bool:=decide (b.length<=a.length)&&YH (a.take b.length) b
def zxA(a b:List V):Prop:=JJ a/\JJ b/\a.length<=1000000/\b.length<=1000000
theorem zrI:yI Tryz.prog 130 (YI zr3 zxA):=by
 intro args ps r h hp;unfold YI at h;split at h
 ·rename_i a0 a1;cases h;obtain⟨⟨ys,has⟩,⟨bs,hbs⟩,h1,h2⟩:zxA a0 a1:=(zm.1 hp).1;have g0:V.frzs a0=a0:=by rw[has,zD]
  have g1:V.frzs a1=a1:=by rw[hbs,zD]
  have g2:∀k,V.frzs (a0.take k)=a0.take k:=fun k=>by rw[has,zbK,zD]
  generalize Zi:YH=zaW;generalize Qq:zj6=zeM;refine zC (T:=tab) (B:=[(90,YI zaW zeM)]) (Bi:=[]) [0,1,4] Tryz.func130 rfl rfl (by kernel_rfl) (ze rfl) mixed zP (by subst Zi Qq;exact(zn zjC zA)) (by subst Zi Qq;exact zx) (by kernel_rfl) ?_;intro L lp rr hL hr hf hlp
  conv=>cbv
  simp only[zo hL,sQ,g0,g1,uK,g2,zV];have h0:decide ((a1.length:Int)<=a0.length)=decide (a1.length<=a0.length):=by rw[decide_eq_decide];omega
  refine⟨fun _=>by omega,fun _=>by omega,fun _=>?_,?_⟩
  ·rw[<-Qq];exact⟨⟨_,by rw[has,zbK]⟩,⟨_,hbs⟩⟩
  ·rw[hr,zr3,h0,<-Zi]
 ·cases h
theorem zmA{n:Nat}{l:List Nat}{L:List Int}(h:zhE n l L):L.getD 0 0=(n:Int)/\0<L.length:=by
 obtain⟨hb,hne,m,rfl⟩:=h;have hlo:=hb.lo;have hlen:0<(yc (jD 0 n l++List.replicate m 1)).length:=List.length_pos_iff.2 hne;refine⟨?_,hlen⟩
 have h0:(jD 0 n l++List.replicate m 1).getD 0 0=n:=by
  cases l with
  |nil=>
   have h1:n=1:=hb.val;subst h1
   cases m with
   |zero=>simp[jD,yc]at hne
   |succ m=>rfl
  |cons t l=>
   have h1:=hb.val.1;have h2:0<t/n:=Nat.div_pos (by omega) (by omega);rw[jD,kg (by omega),Nat.sub_zero,show t/n=(t/n-1)+1 by omega,yw];rfl
 have:=YN (jD 0 n l++List.replicate m 1) 0 0;rw[h0]at this;exact this
def zbc(a:List V):List V×Bool:=(I (zkF (qj a)),true)
def zxy(a:List V):Prop:=∃n l L,a=I L/\zhE n l L/\L.length<=100000
def zgi(f:List V->List V×Bool)(q:List V->Prop):zN:=fun
 |[.slc false 2 (.int .i64 0) a0]=>some ([q a0],.tup [.agg [.slc true 2 (.int .i64 0) ((f a0).1)],.bool ((f a0).2)])
 |_=>none
theorem zgE:yI Tryz.prog 109 (zgi zbc zxy):=by
 intro args ps r h hp;unfold zgi at h;split at h
 ·rename_i a0;cases h;obtain⟨n,l,ls,hL0,hs,hLl⟩:zxy a0:=(zm.1 hp).1;have g0:V.frzs a0=a0:=by rw[hL0,zD]
  have hal:a0.length=ls.length:=by rw[hL0,zj]
  have gal:∀k,a0.getD k (.int .i64 0)=.int .i64 (ls.getD k 0):=fun k=>by rw[hL0,zO]
  obtain⟨hh,hlen⟩:=zmA hs;have hf0:zbc a0=(I (yc (n::l)),true):=by rw[zbc,hL0,zr,zdS hs]
  obtain⟨hb,hne,m,hLe⟩:=hs;have hlo:=hb.lo;have hhi:=hb.hi;obtain⟨ni,hni⟩:∃ni:Int,ni=n:=⟨_,rfl⟩;obtain⟨lm,hlm⟩:∃lm:Int,lm=ls.length:=⟨_,rfl⟩;have hh2:ls.getD 0 0=ni:=by rw[hh,hni]
  generalize zaP:zfv=zhh;generalize zaN:zlb=zkX;generalize zqC:zr3=zw2;generalize zqh:zxA=zCI;generalize kQ:qU=Qx;generalize jp:zdg=ZB;generalize qn:kW=jF;generalize yA:uf=jq;refine zC (T:=tab) (B:=[(130,YI zw2 zCI),(111,zaE Qx ZB),(49,YF jF jq)]) (Bi:=[(107,0,true,zlx zhh zkX)]) [0,2,3,4,5,6,7,8,9,10,12,90,91,92] Tryz.func109 rfl rfl (by kernel_rfl) (ze rfl) mixed zP (by subst zaP zaN zqC zqh kQ jp qn yA;exact(zn zrI (zn zdy (zn zcS zA)))) (by subst zaP zaN zqC zqh kQ jp qn yA;exact(zrt zjV zx)) (by kernel_rfl) ?_;intro L lp rr hL hr hf hlp
  conv=>cbv
  simp only[zo hL,sQ,g0,hal,gal,hh2,<-hlm];refine⟨by omega,by omega,by omega,by omega,fun h1=>?_,fun h1=>?_⟩
  refine hlp (List V×Int×Int×Int) _ _ _ [0,2,4,5,6,7] (fun x=>[(0,none,.val (.slc false 2 (.int .i64 0) a0)),(2,none,.val (.box 57 (.agg [.slc true 2 (.int .i64 0) []]))),(4,none,.val (.box 57 (.agg [.slc true 2 (.int .i64 0) x.1]))),(5,none,.val (.int .i64 x.2.1)),(6,none,.val (.int .i64 x.2.2.1)),(7,none,.val (.int .i64 x.2.2.2))])
   (fun x=>∃(pre rest:List Nat) (p e m:Nat),x.1=I (yc (n::pre))/\l=pre++rest/\x.2.1=(e:Int)/\x.2.2.1=(p:Int)/\0<e/\e<=64/\p<=2000/\e ∣ p/\YS p e rest/\0<=x.2.2.2/\x.2.2.2<=lm/\ls.drop x.2.2.2.toNat=yc (jD p e rest++List.replicate m 1)) (fun x=>x.2.1.toNat) (([V.int IntKind.i64 ni],ni,0,1)) (by subst hL;rfl) ?_ ?_
  rotate_left 2
  refine hlp (List V×Int×Int×Int) _ _ _ [0,2,4,5,6,7] (fun x=>[(0,none,.val (.slc false 2 (.int .i64 0) a0)),(2,none,.val (.box 57 (.agg [.slc true 2 (.int .i64 0) []]))),(4,none,.val (.box 57 (.agg [.slc true 2 (.int .i64 0) x.1]))),(5,none,.val (.int .i64 x.2.1)),(6,none,.val (.int .i64 x.2.2.1)),(7,none,.val (.int .i64 x.2.2.2))])
   (fun x=>∃(pre rest:List Nat) (p e m:Nat),x.1=I (yc (n::pre))/\l=pre++rest/\x.2.1=(e:Int)/\x.2.2.1=(p:Int)/\0<e/\e<=64/\p<=2000/\e ∣ p/\YS p e rest/\0<=x.2.2.2/\x.2.2.2<=lm/\ls.drop x.2.2.2.toNat=yc (jD p e rest++List.replicate m 1)) (fun x=>x.2.1.toNat) (([V.int IntKind.i64 ni],ni,0,0)) (by subst hL;rfl) ?_ ?_
  ·exact⟨[],l,0,n,m,by rw[hni];rfl,rfl,hni,rfl,by omega,hhi,by omega,⟨0,rfl⟩,hb.val.weak (by omega),by simp,by simp only;omega,hLe⟩
  rotate_left 1
  ·have hn1:n=1:=by omega
   have hl0:l=[]:=by
    cases l with
    |nil=>rfl
    |cons t l=>
     have h3:=hb.val.2.2.1;rw[hn1,KA]at h3;exact absurd rfl h3
   refine⟨[],l,0,n,m-1,by rw[hni];rfl,rfl,hni,rfl,by omega,hhi,by omega,⟨0,rfl⟩,hb.val.weak (by omega),by simp,by simp only;omega,?_⟩;simp only;rw[show(1:Int).toNat=1 from rfl,hLe,hl0,jD,qr];cases m<;>rfl
  all_goals
   rintro⟨bs,e,la,ti⟩ ⟨pre,rest,p,e',m',hB,hl,he,hp,he0,he64,hp2,hd,hv,t0,t1,hD⟩ hfx ag hag;simp only at hB he hp t0 t1 hD;have hbl:bs.length=pre.length+1:=(by rw[hB,zj,qO];rfl);have hDl:(ls.drop ti.toNat).length=ls.length-ti.toNat:=List.length_drop ..
   have hgd:∀j,ls.getD (ti.toNat+j) 0=(ls.drop ti.toNat).getD j 0:=fun j=>by
    rw[zd,zd,zX]
   conv=>cbv
   simp only[zo hL,sQ,g0,hal,<-hlm];refine⟨fun h2=>?_,fun h2=>?_⟩
   ·cases rest with
    |nil=>have h3:e'=1:=hv
          omega
    |cons t rest=>
     obtain⟨v1,v2,v3,v4⟩:=hv;obtain⟨X,hx,hr0,hr1⟩:=zia he0 (ziR hd v1 v3);obtain⟨q,hq⟩:∃q,q=(t-p)/e':=⟨_,rfl⟩;obtain⟨r,hr9⟩:∃r,r=(t-p)%e':=⟨_,rfl⟩;rw[<-hq,<-hr9]at hx;rw[<-hr9]at hr0 hr1;have hk:q*e'+r=t-p:=(by rw[hq,hr9,Nat.mul_comm];exact Nat.div_add_mod _ _);obtain⟨Y,hY⟩:∃Y,Y=jD t (Nat.gcd e' t) rest++List.replicate m' 1:=⟨_,rfl⟩;have hD2:ls.drop ti.toNat=yc (ex (t-p) e'++Y):=(by rw[hD,jD,zU,hY]);have hD3:ls.drop ti.toNat=yc (List.replicate q e'++r::(X++Y)):=(by rw[hD2,hx];simp);have hDn:=congrArg List.length hD3;rw[hDl,qO,zp,zE,zi]at hDn;have hqlen:ti.toNat+q<ls.length:=by omega
     have hg1:∀c,c<q->ls.getD (ti.toNat+c) 0=(e':Int):=fun c hc=>by
      rw[hgd,hD3];have h8:=YN (List.replicate q e'++r::(X++Y)) c 0;rw[zd (l:=List.replicate q e'++r::(X++Y)),zQ (by rw[zE];exact hc),List.getElem?_replicate_of_lt hc]at h8;exact h8
     have hg2:ls.getD (ti.toNat+q) 0=(r:Int):=by
      rw[hgd,hD3];have h8:=YN (List.replicate q e'++r::(X++Y)) q 0;rw[zd (l:=List.replicate q e'++r::(X++Y)),zR (by rw[zE];exact zt _),zE,kY]at h8;exact h8
     refine hlp (Int×Int) _ _ _ [0,2,4,5,6,7,8,9] (fun x=>[(0,none,.val (.slc false 2 (.int .i64 0) a0)),(2,none,.val (.box 57 (.agg [.slc true 2 (.int .i64 0) []]))),(4,none,.val (.box 57 (.agg [.slc true 2 (.int .i64 0) bs]))),(5,none,.val (.int .i64 e)),(6,none,.val (.int .i64 la)),(7,none,.val (.int .i64 ti)),(8,none,.val (.int .i64 x.1)),(9,none,.val (.int .i64 x.2))])
      (fun x=>∃c:Nat,c<=q/\x.1=((c*e':Nat):Int)/\x.2=ti+c) (fun x=>(ti+q-x.2).toNat) ((0,ti)) (by subst hL;rfl) ?_ ?_
     ·exact⟨0,by omega,by simp,by simp⟩
     rintro⟨k,i⟩ ⟨c,c1,hk9,hi⟩ hfx2 ag2 hag2;simp only at hk9 hi;have hin:i.toNat=ti.toNat+c:=by omega
     conv=>cbv
     simp only[zo hL,sQ,g0,hal,gal,<-hlm];have hce:c*e'<=q*e':=Nat.mul_le_mul_right _ c1;refine⟨fun _=>by omega,fun _=>trivial,fun h3=>?_,fun h3=>?_⟩
     ·have hcq:c<q:=by
       rcases Qg c q with h4|h4
       ·exact h4
       ·have h5:=h3.2;rw[hin,show c=q by omega,hg2]at h5;omega
      rw[zk (n:=k+e) (by omega) (by omega),zk (n:=i+1) (by omega) (by omega)];refine hag2 (k+e,i+1) ⟨c+1,by omega,?_,by simp only;omega⟩ (by simp only;omega);simp only;rw[Nat.add_mul,Nat.one_mul];omega
     ·have hcq:c=q:=by
       rcases Qg c q with h4|h4
       ·exfalso;have h5:=hg1 c h4;rw[<-hin]at h5;rcases h3 with h3|h3
        ·omega
        ·exact h3 (by rw[h5,he])
       ·omega
      have hgi:ls.getD i.toNat 0=(r:Int):=(by rw[hin,hcq,hg2]);rw[hcq]at hk9;have hkr:k+(r:Int)=((t-p:Nat):Int):=(by omega);obtain⟨kk,hkk⟩:∃kk:Int,kk=k+(r:Int):=⟨_,rfl⟩;have hkk2:kk=((t-p:Nat):Int):=(by omega);rw[hgi];rw[zk (n:=k+(r:Int)) (by omega) (by omega),<-hkk,zk (n:=la+kk) (by omega) (by omega)]
      have Er:zhh [] kk e=I (yc (ex (t-p) e')):=by
       rw[<-zaP,zfv,qr,hkk2,he,zwk]
      have Eg:Qx e kk=((Nat.gcd e' t:Nat):Int):=by
       rw[<-kQ,hkk2,he,zkk he0 (by omega),zcr hd (by omega)]
      obtain⟨xn,hxn⟩:∃xn:Int,xn=(ex (t-p) e').length:=⟨_,rfl⟩;have hdn:(ls.drop ti.toNat).length=(ex (t-p) e').length+Y.length:=by rw[hD2,qO,zp]
      have hta:List.drop ti.toNat (List.take lm.toNat a0)=I (ls.drop ti.toNat):=by
       rw[hL0,zbK,zy (by omega),zkM]
      have Eb:zw2 (I (ls.drop ti.toNat)) (I (yc (ex (t-p) e')))=true:=by
       rw[<-zqC,zr3,YH,zj,zj,qO,zbK,zr,zr,hD2,YO];rw[zh,decide_eq_true_eq,decide_eq_true_eq];refine⟨by rw[zp,qO];omega,?_⟩;rw[show(ex (t-p) e').length=(yc (ex (t-p) e')).length by rw[qO],List.take_left]
      simp only[Er,Eg,zj,qO,<-hxn,zD,hta,Eb];refine⟨fun _=>by omega,fun _=>by omega,fun _=>trivial,fun h5=>by omega,fun _=>⟨by omega,by omega,?_,by omega,by omega,by omega,?_,fun h5=>(by cases h5),fun _=>?_⟩⟩
      ·rw[<-zaN];exact⟨by simp,by omega,by omega,by omega,by omega⟩
      ·rw[<-zqh];exact⟨⟨_,rfl⟩,⟨_,rfl⟩,by rw[zj];omega,by rw[zj,qO];omega⟩
      ·have hpl:pre.length<=2000:=by
        have h9:=zk4 l n n hb.val (by omega);rw[hl,zp]at h9;omega
       have hlt:la+kk=(t:Int):=(by omega);rw[hlt,zk (n:=ti+xn) (by omega) (by omega)];have hgp:=jE t he0;have hgl:=zbW he0 (jY e' t);refine⟨rfl,by simp only[yj];omega,yr _,by rw[<-jp];trivial,?_⟩;refine hag (_,((Nat.gcd e' t:Nat):Int),(t:Int),ti+xn) ⟨pre++[t],rest,t,Nat.gcd e' t,m',?_,by rw[hl];simp,rfl,rfl,hgp,by omega,v2,uO e' t,v4,by simp only;omega,by simp only;omega,?_⟩ (by simp only;omega)
       ·simp only;rw[hB,show yc (n::(pre++[t]))=yc (n::pre)++[(t:Int)] by simp[yc],<-jb];rfl
       ·simp only;rw[show(ti+xn).toNat=ti.toNat+(yc (ex (t-p) e')).length by rw[qO];omega,<-Zl,hD2,YO,List.drop_left,hY]
   ·have he1:e'=1:=by omega
    have hr0:rest=[]:=by
     cases rest with
     |nil=>rfl
     |cons t rest=>
      have h3:=hv.2.2.1;rw[he1,KA]at h3;exact absurd rfl h3
    have hD4:ls.drop ti.toNat=yc (List.replicate m' 1):=by rw[hD,hr0,jD,qr]
    have hta:List.drop ti.toNat (List.take lm.toNat a0)=I (yc (List.replicate m' 1)):=by
     rw[hL0,zbK,zy (by omega),zkM,hD4]
    obtain⟨vd,hvd⟩:∃vd,vd=I (yc (List.replicate m' 1)):=⟨_,rfl⟩;have hvl:vd.length=m':=by rw[hvd,zj,qO,zE]
    have gvd:∀k,k<m'->vd.getD k (.int .i64 0)=.int .i64 1:=fun k hk=>by
     rw[hvd,zO];have h8:=YN (List.replicate m' 1) k 0;rw[zd (l:=List.replicate m' 1),List.getElem?_replicate_of_lt hk]at h8;exact congrArg _ h8
    have hml:m'<=ls.length:=by
     have h9:=congrArg List.length hD4;rw[qO,zE]at h9;omega
    have hfb:V.frzs bs=bs:=(by rw[hB,zD]);have hbr:=zkc hb;have hll:l=pre:=(by rw[hl,hr0,yv]);rw[<-hll]at hB;have Ei:jF bs=true:=(by rw[<-qn,kW,hB,zr];exact hbr.is);obtain⟨dm,hdm⟩:∃dm:Int,dm=m':=⟨_,rfl⟩;rw[hta,<-hvd,hvl,<-hdm];refine⟨by omega,by omega,by omega,?_⟩
    refine hlp (Int) _ _ _ [2,4,90,91,92] (fun x=>[(2,none,.val (.box 57 (.agg [.slc true 2 (.int .i64 0) []]))),(4,none,.val (.box 57 (.agg [.slc true 2 (.int .i64 0) bs]))),(90,none,.val (.slc false 2 (.int .i64 0) vd)),(91,none,.val (.int .i64 dm)),(92,none,.val (.int .i64 x))])
     (fun x=>0<=x/\x<=dm) (fun x=>(dm-x).toNat) (0) (by subst hL;rfl) ?_ ?_
    ·exact⟨by omega,by omega⟩
    intro j ⟨j0,j1⟩ hfx2 ag2 hag2
    conv=>cbv
    simp only[zo hL,sQ,hvl,hfb,Ei,<-hdm];refine⟨fun h8=>?_,fun h8=>⟨?_,?_⟩⟩
    ·rw[gvd j.toNat (by omega),zk (n:=j+1) (by omega) (by omega)];exact⟨j0,h8,rfl,fun h9=>absurd rfl h9,fun _=>hag2 (j+1) ⟨by omega,by omega⟩ (by omega)⟩
    ·rw[<-yA,hB];exact⟨⟨_,rfl⟩,by rw[zj];have:=hbr.len;omega⟩
    ·rw[hr,hf0,hB]
 ·cases h
def zoG(a:List V):List V×Int:=(I (zkF (qj a)),0)
def zlf(a:List V):Prop:=∃n l L,a=I L/\zhE n l L/\L.length<=400
def zii(f:List V->List V×Int)(q:List V->Prop):zN:=fun
 |[.slc false 2 (.int .i64 0) a0]=>some ([q a0],.tup [.agg [.slc true 2 (.int .i64 0) ((f a0).1)],.int .i64 ((f a0).2)])
 |_=>none
def zt8(f:List V->Bool)(q:List V->Prop):zN:=fun
 |[.slc false 2 (.int .i64 0) a0]=>some ([q a0],.bool (f a0))
 |_=>none
def ztE(_:List V):Bool:=true
theorem ztO:∀(n a b:Nat),b<=n->∀x∈ex a b,1<=x/\x<=b
 |0,a,b,h,x,hx=>by
  obtain rfl:b=0:=by omega
  rw[zbe]at hx;cases hx
 |n+1,a,b,h,x,hx=>by
  by_cases hb:0<b
  ·rw[kg hb,yW]at hx;rcases hx with hx|hx
   ·have:=(Yr.1 hx).2;omega
   ·have h1:a%b<b:=Nat.mod_lt _ hb;have:=ztO n b (a%b) (by omega) x hx;omega
  ·obtain rfl:b=0:=(by omega);rw[zbe]at hx;cases hx
theorem zrr:∀(l:List Nat) (p e:Nat),0<e->∀x∈jD p e l,1<=x/\x<=e
 |[],p,e,_,x,hx=>by cases hx
 |t::l,p,e,he,x,hx=>by
  rw[jD,yW]at hx;rcases hx with hx|hx
  ·exact ztO e (t-p) e (zt _) x hx
  ·have h1:=zrr l t (Nat.gcd e t) (jE t he) x hx;have h2:=zbW he (jY e t);omega
theorem zyu{n:Nat}{l:List Nat}{L:List Int}(h:zhE n l L):∀x∈L,1<=x/\x<=64:=by
 obtain⟨hb,_,m,rfl⟩:=h;intro x hx;rw[yc,List.mem_map]at hx;obtain⟨y,hy,rfl⟩:=hx;rw[yW]at hy;have h1:=hb.lo;have h2:=hb.hi;rcases hy with hy|hy
 ·have:=zrr l 0 n (by omega) y hy;omega
 ·have:=(Yr.1 hy).2;omega
theorem zjW:yI Tryz.prog 108 (zt8 ztE zlf):=by
 intro args ps r h hp;unfold zt8 at h;split at h
 ·rename_i a0;cases h;obtain⟨n,l,ls,hL0,hs,hLl⟩:zlf a0:=(zm.1 hp).1;have g0:V.frzs a0=a0:=by rw[hL0,zD]
  have hal:a0.length=ls.length:=by rw[hL0,zj]
  have hlen:=(zmA hs).2
  have hw:jV ls 1 64=true:=by
   rw[jV,List.all_eq_true];intro x hx;have:=zyu hs x hx;rw[yu,zh,decide_eq_true_eq,decide_eq_true_eq];exact this
  generalize KD:zb8=zfm;generalize zjs:JJ=zsb;refine zC (T:=tab) (B:=[(61,zbU zfm zsb)]) (Bi:=[]) [0,2] Tryz.func108 rfl rfl (by kernel_rfl) (ze rfl) mixed zP (by subst KD zjs;exact(zn zjD zA)) (by subst KD zjs;exact zx) (by kernel_rfl) ?_;intro L lp rr hL hr hf hlp
  conv=>cbv
  have Ew:zfm a0 1 64=true:=by rw[<-KD,zb8,hL0,zr];exact hw
  simp only[zo hL,sQ,g0,hal,Ew];refine⟨fun _=>by rw[<-zjs];exact⟨_,hL0⟩,?_⟩;rw[hr,ztE,decide_eq_true (show(0:Int)<ls.length by omega),decide_eq_true (show(ls.length:Int)<=400 by omega)];rfl
 ·cases h
theorem zgG:yI Tryz.prog 72 (zii zoG zlf):=by
 intro args ps r h hp;unfold zii at h;split at h
 ·rename_i a0;cases h;obtain⟨n,l,ls,hL0,hs,hLl⟩:zlf a0:=(zm.1 hp).1;have g0:V.frzs a0=a0:=by rw[hL0,zD]
  have hf0:zoG a0=(I (zkF ls),0):=by rw[zoG,hL0,zr]
  obtain⟨vb,hvb⟩:∃vb,vb=I (zkF ls):=⟨_,rfl⟩;generalize znq:ztE=zuS;generalize zd2:zlf=zqH;generalize Km:zbc=zd9;generalize zqf:zxy=zCG;refine zC (T:=tab) (B:=[(108,zt8 zuS zqH),(109,zgi zd9 zCG)]) (Bi:=[]) [0,2,3,4,5] Tryz.func72 rfl rfl (by kernel_rfl) (ze rfl) mixed zP (by subst znq zd2 Km zqf;exact(zn zjW (zn zgE zA))) (by subst znq zd2 Km zqf;exact zx) (by kernel_rfl) ?_;intro L lp rr hL hr hf hlp;have Eb:zd9 a0=(vb,true):=by rw[<-Km,zbc,hL0,zr,hvb]
  have Ey:zuS a0=true:=by rw[<-znq];rfl
  conv=>cbv
  simp only[zo hL,sQ,g0,Eb,Ey];exact⟨by rw[<-zd2];exact⟨n,l,ls,hL0,hs,hLl⟩,fun h=>(by cases h),fun _=>⟨by rw[<-zqf];exact⟨n,l,ls,hL0,hs,by omega⟩,fun h=>(by cases h),fun _=>by rw[hr,hf0,hvb]⟩⟩
 ·cases h
def zgk(f:List V->List V×Int)(q:List V->Prop):zN:=fun
 |[.agg [.slc false 2 (.int .i64 0) a0]]=>some ([q a0],.tup [.agg [.slc true 2 (.int .i64 0) ((f a0).1)],.int .i64 ((f a0).2)])
 |_=>none
def zah(a:List V):List V×Int:=if 399<(qY (qj a)).length then([],3)else(I (QI (qj a)),0)
theorem zbs:yI Tryz.prog 35 (zgk zah ur):=by
 intro args ps r h hp;unfold zgk at h;split at h
 ·rename_i a0;cases h;have hq:ur a0:=(zm.1 hp).1;obtain⟨xs,hxs,hb⟩:=id hq;have g0:V.frzs a0=a0:=by rw[hxs,zD]
  obtain⟨sn,hsn⟩:∃sn:Int,sn=(qY xs).length:=⟨_,rfl⟩;have hsl:=zfq hb;obtain⟨vs,hvs⟩:∃vs,vs=I (qY xs):=⟨_,rfl⟩;have hvsl:vs.length=(qY xs).length:=by rw[hvs,zj]
  obtain⟨vf,hvf⟩:∃vf,vf=I (jN xs (sn+1).toNat):=⟨_,rfl⟩;generalize qn:kW=jF;generalize yA:uf=jq;generalize Kj:zeh=zcC;generalize yO:ur=kh;generalize kB:kH=ZL;generalize qQ:ZT=uT;generalize zqE:zoG=zw4;generalize zd2:zlf=zqH;refine zC (T:=tab) (B:=[(49,YF jF jq),(71,zoP zcC kh),(73,zkB ZL uT),(72,zii zw4 zqH)]) (Bi:=[]) [0,1,2,3,4] Tryz.func35 rfl rfl (by kernel_rfl) (ze rfl) mixed zP (by subst qn yA Kj yO kB qQ zqE zd2;exact(zn zcS (zn zcR (zn zdx (zn zgG zA))))) (by subst qn yA Kj yO kB qQ zqE zd2;exact zx) (by kernel_rfl) ?_;intro L lp rr hL hr hf hlp;have Ei:jF a0=true:=by rw[<-qn,kW,hxs,zr];exact hb.is
  have Es:zcC a0=vs:=by rw[<-Kj,zeh,hxs,zr,hvs]
  have Ef:ZL a0 (sn+1)=vf:=by rw[<-kB,kH,hxs,zr,hvf]
  conv=>cbv
  simp only[zo hL,sQ,g0,Ei,Es,hvsl,<-hsn];rw[zk (n:=sn+1) (by omega) (by omega)];rw[Ef];obtain⟨hbs,n,l,hstr,hseq⟩:=JV hb
  have hfk:jN xs (sn+1).toNat=qY xs++[1]:=by
   have h1:=znK (l:=qY xs) (xs:=xs) (n:=1) (k:=(qY xs).length+1) (zk8 xs) (by simp);rw[zy (by simp)]at h1;rw[show(sn+1).toNat=(qY xs).length+1 by omega,<-h1];rfl
  have hvl:vf.length=(qY xs).length+1:=by rw[hvf,zj,Zc];omega
  have hdr:V.frzs (List.drop 1 (List.take (vf.length:Int).toNat vf))=I ((qY xs++[1]).drop 1):=by
   rw[zV,List.take_length,hvf,hfk,zkM,zD]
  have EB:zw4 (I ((qY xs++[1]).drop 1))=(I (QI xs),0):=by rw[<-zqE,zoG,zr,zdS hseq,hstr]
  rw[hdr,EB];refine⟨by rw[<-yA];exact hq.isIs,fun h=>(by cases h),fun _=>⟨by rw[<-yO];exact hq,fun h=>?_,fun h=>⟨?_,by omega,by omega,by omega,?_,?_⟩⟩⟩
  ·rw[hr,zah,hxs,zr,if_pos (by omega)]
  ·rw[<-qQ];exact⟨hq,by omega,by omega⟩
  ·rw[<-zd2];exact⟨n,l,_,rfl,hseq,by rw[List.length_drop,zp,yj];omega⟩
  ·rw[hr,zah,hxs,zr,if_neg (by omega)]
 ·cases h
theorem zsJ{e r s:Nat}{x y:List Nat}(hr:r≠e)(hs:s≠e):∀a b:Nat,List.replicate a e++r::x=List.replicate b e++s::y->a=b/\r=s/\x=y
 |0,0,h=>by
  simp only[ZQ,qr,kA]at h;exact⟨rfl,h⟩
 |0,b+1,h=>by
  simp only[ZQ,qr,yw,yb,kA]at h;exact absurd h.1 hr
 |a+1,0,h=>by
  simp only[ZQ,qr,yw,yb,kA]at h;exact absurd h.1.symm hs
 |a+1,b+1,h=>by
  simp only[yw,yb,kA,true_and]at h;obtain⟨h1,h2⟩:=zsJ hr hs a b h;exact⟨by rw[h1],h2⟩
def OkB:List (Nat×Nat)->Prop
 |[]=>True
 |[_]=>True
 |p::q::l=>p.1≠q.1/\1<=q.2/\OkB (q::l)
def Zu(bl:List (Nat×Nat)):List Nat:=bl.flatMap fun p=>List.replicate p.2 p.1
def Ja(bl:List (Nat×Nat)):List (List Int):=bl.map fun p=>[(p.1:Int),(p.2:Int)]
theorem zqV(bl:List (Nat×Nat)):(Ja bl).length=bl.length:=by simp[Ja]
theorem zqW{bl:List (Nat×Nat)}{i:Nat}{p:Nat×Nat}(h:bl[i]? =some p):(Ja bl).getD i []=[(p.1:Int),(p.2:Int)]:=by
 rw[Ja,zd,List.getElem?_map,h];rfl
theorem zqU(bl:List (Nat×Nat))(i:Nat)(p:Nat×Nat):(Ja bl).set i [(p.1:Int),(p.2:Int)]=Ja (bl.set i p):=by
 rw[Ja,Ja,List.map_set]
theorem zsG(a b:List (Nat×Nat)):Ja (a++b)=Ja a++Ja b:=by simp[Ja]
theorem ZH(p:Nat×Nat)(l:List (Nat×Nat)):Zu (p::l)=List.replicate p.2 p.1++Zu l:=by simp[Zu]
theorem zej(a b:List (Nat×Nat)):Zu (a++b)=Zu a++Zu b:=by simp[Zu]
theorem zum{v c q r:Nat}{tl:List (Nat×Nat)}{X:List Nat}(ho:OkB ((v,c)::tl))(hr:r≠v)(h:Zu ((v,c)::tl)=List.replicate q v++r::X):
 c=q/\∃c1 tl',tl=(r,c1)::tl'/\OkB tl/\Zu tl=r::X:=by
 rw[ZH]at h
 match tl,ho with
 |[],_=>
  exfalso;have h1:r∈List.replicate q v++r::X:=by simp
  rw[<-h]at h1;simp only[Zu,List.flatMap_nil,yv]at h1;exact hr (Yr.1 h1).2
 |(v1,c1)::tl',ho=>
  obtain⟨h1,h2,h3⟩:=ho
  have h4:Zu ((v1,c1)::tl')=v1::(List.replicate (c1-1) v1++Zu tl'):=by
   rw[ZH];simp only;rw[show c1=(c1-1)+1 by have:1<=c1:=h2;omega,yw];rfl
  rw[h4]at h;obtain⟨e1,e2,e3⟩:=zsJ (Ne.symm h1) hr _ _ h;have e2:v1=r:=e2;refine⟨e1,c1,tl',by rw[e2],h3,by rw[h4,e3,e2]⟩
theorem zAQ{v c k:Nat}{tl:List (Nat×Nat)}{Y:List Nat}(ho:OkB ((v,c)::tl))(h:Zu ((v,c)::tl)=List.replicate k v++Y):
 k<=c/\OkB ((v,c-k)::tl)/\Zu ((v,c-k)::tl)=Y:=by
 rw[ZH]at h
 have hk:k<=c:=by
  rcases Qg c k with h1|h1
  ·exfalso;simp only at h;rw[show k=c+(k-c) by omega,<-qS,zU,List.append_cancel_left_eq,show k-c=(k-c-1)+1 by omega,yw,yb]at h
   match tl,ho with
   |[],_=>simp[Zu]at h
   |(v1,c1)::tl',ho=>
    obtain⟨h3,h4,_⟩:=ho;rw[ZH]at h;simp only at h h4;rw[show c1=(c1-1)+1 by omega,yw,yb,kA]at h;exact h3 h.1.symm
  ·exact h1
 refine⟨hk,?_,?_⟩
 ·cases tl with
  |nil=>trivial
  |cons p tl=>exact ho
 ·rw[ZH];simp only at h ⊢;rw[show c=k+(c-k) by omega,<-qS,zU,List.append_cancel_left_eq]at h;exact h
def zhD(B:List (Nat×Nat))(x:Nat):List (Nat×Nat):=match B.getLast? with
 |some p=>if p.1=x then B.set (B.length-1) (p.1,p.2+1)else B++[(x,1)]
 |none=>[(x,1)]
def QP(L:List Nat):List (Nat×Nat):=L.foldl zhD []
theorem zkG(L:List Nat)(x:Nat):QP (L++[x])=zhD (QP L) x:=by rw[QP,QP,List.foldl_append];rfl
theorem zog:∀{B:List (Nat×Nat)} {p:Nat×Nat} {x:Nat},OkB (B++[p])->p.1≠x->OkB (B++[p]++[(x,1)])
 |[],p,x,_,h=>⟨h,zt _,trivial⟩
 |[q],p,x,h,h2=>⟨h.1,h.2.1,h2,zt _,trivial⟩
 |q::q2::B,p,x,h,h2=>⟨h.1,h.2.1,zog (B:=q2::B) h.2.2 h2⟩
theorem zv2:∀{B:List (Nat×Nat)} {p:Nat×Nat},OkB (B++[p])->OkB (B++[(p.1,p.2+1)])
 |[],p,_=>trivial
 |[q],p,h=>⟨h.1,Nat.le_add_left _ _,trivial⟩
 |q::q2::B,p,h=>⟨h.1,h.2.1,zv2 (B:=q2::B) h.2.2⟩
theorem zun:∀(k:Nat) (L:List Nat),L.length=k->OkB (QP L)/\Zu (QP L)=L/\(L≠[]->∃B p,QP L=B++[p]/\1<=p.2/\L.getLast? =some p.1)
 |0,L,h=>by
  obtain rfl:=yC h;exact⟨trivial,rfl,fun h=>absurd rfl h⟩
 |k+1,L0,h=>by
  obtain⟨L,x,rfl⟩:∃L x,L0=L++[x]:=by
   have hne:L0≠[]:=fun h2=>(by rw[h2]at h;simp at h);exact⟨L0.dropLast,L0.getLast hne,(List.dropLast_concat_getLast hne).symm⟩
  obtain⟨i1,i2,i3⟩:=zun k L (by rw[zp,yj]at h;omega);rw[zkG];by_cases hL:L=[]
  ·subst hL;exact⟨trivial,rfl,fun _=>⟨[],(x,1),rfl,zt _,rfl⟩⟩
  ·obtain⟨B,p,hB,hp1,hp2⟩:=i3 hL;have hlast:(QP L).getLast? =some p:=(by rw[hB];simp);rw[zhD,hlast];simp only;by_cases hx:p.1=x
   ·rw[if_pos hx]
    have hset:(QP L).set ((QP L).length-1) (p.1,p.2+1)=B++[(p.1,p.2+1)]:=by
     rw[hB,zp,yj,Nat.add_sub_cancel,Kh _ _ (zt _),kY];rfl
    rw[hset];refine⟨?_,?_,fun _=>⟨B,_,rfl,by simp only;omega,by simp[hx]⟩⟩
    ·rw[hB]at i1;exact zv2 i1
    ·rw[<-i2,hB,zej,zej,zU,<-hx];congr 1;simp[Zu,qM]
   ·rw[if_neg hx];refine⟨?_,?_,fun _=>⟨QP L,_,rfl,zt _,by simp⟩⟩
    ·rw[hB]at i1 ⊢;exact zog i1 hx
    ·rw[zej,i2];rfl
theorem zlB(L:List Nat):OkB (QP L)/\Zu (QP L)=L/\(L≠[]->∃B p,QP L=B++[p]/\1<=p.2/\L.getLast? =some p.1):=zun _ L rfl
theorem zqN:∀(l:List Nat) (p e:Nat),0<e->YS p e l->2^l.length<=e
 |[],p,e,he,_=>he
 |t::l,p,e,he,h=>by
  have hg:=jE t he;have ih:=zqN l t (Nat.gcd e t) hg h.2.2.2;obtain⟨c,hc⟩:=jY e t
  have hc2:2<=c:=by
   rcases Qg c 2 with h1|h1
   ·exfalso;have:c=0\/c=1:=(by omega);rcases this with rfl|rfl
    ·omega
    ·exact h.2.2.1 (by omega)
   ·exact h1
  rw[zi,Nat.pow_succ];have h2:Nat.gcd e t*2<=Nat.gcd e t*c:=Nat.mul_le_mul_left _ hc2;omega
def zh8(es:List V)(k:Int):List V:=I (qY (qj es)++List.replicate k.toNat 1)
def zpz(es:List V)(k:Int):Prop:=ur es/\0<=k/\k<=1000
theorem zpm:yI Tryz.prog 127 (zbF zh8 zpz):=by
 intro args ps r h hp;unfold zbF at h;split at h
 ·rename_i a0 a1;cases h;obtain⟨hq,k1,k2⟩:zpz a0 a1:=(zm.1 hp).1;have hqb:=hq;obtain⟨xs,hxs,hb⟩:=hq;have g1:V.frzs a0=a0:=by rw[hxs,zD]
  obtain⟨S,hS⟩:∃S,S=QA xs:=⟨_,rfl⟩;obtain⟨ss,hss⟩:∃ss,ss=II true S:=⟨_,rfl⟩;have e1:YY a0=ss:=by rw[YY,hxs,zr,hss,hS]
  have e2:zh8 a0 a1=I (qY xs++List.replicate a1.toNat 1):=by rw[zh8,hxs,zr]
  have hsl:ss.length=S.length:=by rw[hss,ye]
  have hSl:S.length<=5000:=by
   have h1:=hb.len;have h2:=hb.pos;have:=zck hb (xs.length-1) (by omega);rw[hS,QA];omega
  have gss:∀k,ss.getD k (.slc true 2 (.int .i64 0) [])=.slc true 2 (.int .i64 0) (I (S.getD k [])):=fun k=>by rw[hss,qo]
  have hlen:∀i,(qw (S.take i)).length<=200000:=fun i=>by
   have h1:=zdK S i;have h2:(qw S).length<=200000:=(by rw[hS,Jz];exact ziB hb);omega
  have hfl:qw S=jn xs:=by rw[hS,Jz]
  generalize Zg:YY=Qy;generalize yO:ur=kh;refine zC (T:=tab) (B:=[(120,zio Qy kh)]) (Bi:=[]) [0,1,2,4,5,6,7,8] Tryz.func127 rfl rfl (by kernel_rfl) (ze rfl) mixed zP (by subst Zg yO;exact(zn za0 zA)) (by subst Zg yO;exact zx) (by kernel_rfl) ?_;intro L lp rr hL hr hf hlp
  conv=>cbv
  have hF:Qy a0=ss:=by rw[<-Zg,e1]
  simp only[zo hL,sQ,hF,g1];refine⟨by rw[<-yO];exact hqb,?_⟩
  refine hlp (List V×Int) _ _ _ [1,5,6,7] (fun x=>[(1,none,.val (.int .i64 a1)),(5,none,.val (.slc true 29 (.slc true 2 (.int .i64 0) []) ss)),(6,none,.val (.slc true 2 (.int .i64 0) x.1)),(7,none,.val (.int .i64 x.2))])
   (fun x=>0<=x.2/\x.2<=S.length/\x.1=I (qw (S.take x.2.toNat))) (fun x=>(S.length-x.2).toNat) (([],0)) (by subst hL;rfl) ?_ ?_
  ·exact⟨by simp,by simp only;omega,by simp[qw,I]⟩
  rintro⟨es,i⟩ ⟨i0,i1,hI⟩ hfx ag hag;simp only at i0 i1 hI
  have hst:=zc1 S i.toNat
  have hmem:=fun(h:i.toNat<S.length)=>zgS (xs:=xs) (xs.length-1) (S.getD i.toNat []) (by have:=zau h;rwa [hS,QA]at this ⊢);have hl2:=hlen (i.toNat+1);generalize hE:S.getD i.toNat []=E at hst hmem;have hl:es.length<=200000:=by rw[hI,zj];exact hlen _
  conv=>cbv
  simp only[zo hL,sQ,hsl,gss,hE];refine⟨fun h=>?_,fun h=>?_⟩
  ·obtain⟨hEl,hE0,hE1⟩:=hmem (by omega);have hst':=hst (by omega);obtain⟨it,hit⟩:∃it,it=i.toNat:=⟨_,rfl⟩;simp only[<-hit]at hE hst' hI hl2 ⊢;have hti:it<S.length:=(by omega);rw[hst',zp,zE]at hl2;have hesl:es.length=(qw (S.take it)).length:=(by rw[hI,zj]);refine⟨by omega,by omega,hti,hti,by omega,by omega,hti,by omega,?_⟩
   refine hlp (List V×Int) _ _ _ [1,5,6,7,8] (fun x=>[(1,none,.val (.int .i64 a1)),(5,none,.val (.slc true 29 (.slc true 2 (.int .i64 0) []) ss)),(6,none,.val (.slc true 2 (.int .i64 0) x.1)),(7,none,.val (.int .i64 i)),(8,none,.val (.int .i64 x.2))])
    (fun x=>0<=x.2/\x.2<=E.getD 0 0/\x.1=I (qw (S.take it)++List.replicate (E.getD 0 0-x.2).toNat (E.getD 1 0))) (fun x=>x.2.toNat) ((es,E.getD 0 0)) (by subst hL;rfl) ?_ ?_
   ·exact⟨by simp only;omega,by simp,by simp[hI]⟩
   rintro⟨es2,q⟩ ⟨j0,j1,hI2⟩ hfx2 ag2 hag2;simp only at j0 j1 hI2;have hes2:es2.length<=400000:=by rw[hI2,zj,zp,zE];omega
   conv=>cbv
   simp only[zo hL,sQ,hsl,gss,<-hit,hE];refine⟨fun hj=>?_,fun hj=>?_⟩
   ·rw[zk (n:=q-1) (by omega) (by omega)];refine⟨by omega,by omega,hti,hti,by omega,by omega,hti,by omega,yV _,by simp only[zi,zq];omega,yr _,?_⟩;refine hag2 (_,q-1) ⟨by simp only;omega,by simp only;omega,?_⟩ (by simp only;omega);simp only;rw[hI2,show(E.getD 0 0-(q-1)).toNat=(E.getD 0 0-q).toNat+1 by omega,qM,<-zU,<-jb (xs:=qw (S.take it)++List.replicate (E.getD 0 0-q).toNat (E.getD 1 0))];rfl
   ·rw[zk (n:=i+1) (by omega) (by omega)];refine hag (_,i+1) ⟨by simp only;omega,by simp only;omega,?_⟩ (by simp only;omega);simp only;rw[show(i+1).toNat=it+1 by omega,hst',hI2,show(E.getD 0 0-q).toNat=(E.getD 0 0).toNat by omega]
  ·have hes:es=I (jn xs):=by rw[hI,zy (by omega),hfl]
   have hsq:∀h2:¬es.length=0,es=I (qY xs):=fun h2=>by
    rw[qY,if_neg ?_,hes];intro h3;rw[hes,zj,jn,h3]at h2;exact h2 rfl
   have hsq1:es.length=0->es++[V.int IntKind.i64 1]=I (qY xs):=fun h2=>by
    rw[qY,if_pos ?_,yC h2]
    ·rfl
    ·rw[hes,zj]at h2;by_cases h3:xs.length=1
     ·exact h3
     ·have:=zvP hb h3;omega
   have hsl1:=zfq hb;clear hag hfx;refine⟨fun h2=>⟨rfl,by simp only[yj];omega,yr _,?_⟩,fun h2=>?_⟩;rw[hsq1 (by omega)]
   rotate_left
   rw[hsq (by omega)]
   all_goals
    refine hlp (List V×Int) _ _ _ [1,6] (fun x=>[(1,none,.val (.int .i64 x.2)),(6,none,.val (.slc true 2 (.int .i64 0) x.1))])
     (fun x=>0<=x.2/\x.2<=a1/\x.1=I (qY xs++List.replicate (a1-x.2).toNat 1)) (fun x=>x.2.toNat) ((I (qY xs),a1)) (by subst hL;rfl) ?_ ?_
    ·exact⟨by simp only;omega,by simp,by simp⟩
    rintro⟨es2,q⟩ ⟨j0,j1,hI2⟩ hfx2 ag2 hag2;simp only at j0 j1 hI2;have hes2:es2.length<=400000:=by rw[hI2,zj,zp,zE];omega
    conv=>cbv
    simp only[zo hL,sQ,hes2];refine⟨fun hj=>?_,fun hj=>?_⟩
    ·rw[zk (n:=q-1) (by omega) (by omega)];refine⟨yV _,by simp only[zi,zq];omega,yr _,?_⟩;refine hag2 (_,q-1) ⟨by simp only;omega,by simp only;omega,?_⟩ (by simp only;omega);simp only;rw[hI2,show(a1-(q-1)).toNat=(a1-q).toNat+1 by omega,qM,<-zU,<-jb (xs:=qY xs++List.replicate (a1-q).toNat 1)];rfl
    ·rw[hr,e2,hI2,show(a1-q).toNat=a1.toNat by omega]
 ·cases h
def zh7(es:List V)(k:Int):Int:=if 400<((qY (qj es)).length:Int)+k then 3 else 0
def zpx(es:List V)(k:Int):Prop:=ur es/\0<=k/\k<=400
def zuj(f:List V->Int->Int)(q:List V->Int->Prop):zN:=fun
 |[.agg [.slc false 2 (.int .i64 0) a0],.int .i64 a1]=>some ([q a0 a1],.int .i64 (f a0 a1))
 |_=>none
theorem zpl:yI Tryz.prog 125 (zuj zh7 zpx):=by
 intro args ps r h hp;unfold zuj at h;split at h
 ·rename_i a0 a1;cases h;obtain⟨hq,k1,k2⟩:zpx a0 a1:=(zm.1 hp).1;obtain⟨xs,hxs,hb⟩:=id hq;have g1:V.frzs a0=a0:=by rw[hxs,zD]
  have hlen:=zfq hb;generalize qn:kW=jF;generalize yA:uf=jq;generalize yk:yu=qR;generalize zd7:zg3=zlL;generalize yO:ur=kh;refine zC (T:=tab) (B:=[(81,YF jF jq),(82,qW qR),(87,zje zlL kh)]) (Bi:=[]) [0,1,2,4] Tryz.func125 rfl rfl (by kernel_rfl) (ze rfl) mixed zP (by subst qn yA yk zd7 yO;exact(zn zao (zn Ym (zn zgN zA)))) (by subst qn yA yk zd7 yO;exact zx) (by kernel_rfl) ?_;intro L lp rr hL hr hf hlp;have Ei:jF a0=true:=by rw[<-qn,kW,hxs,zr];exact hb.is
  have Er:qR a1 0 400=true:=by rw[<-yk,yu,zh,decide_eq_true_eq,decide_eq_true_eq];exact⟨k1,k2⟩
  have Ec:zlL a0=((qY xs).length:Int):=by rw[<-zd7,zg3,hxs,zr]
  conv=>cbv
  simp only[zo hL,sQ,g1,Ei,Er,Ec];rw[zk (n:=((qY xs).length:Int)+a1) (by omega) (by omega)];have hf0:zh7 a0 a1=if 400<((qY xs).length:Int)+a1 then 3 else 0:=by rw[zh7,hxs,zr]
  exact⟨by rw[<-yA];exact hq.isIs,fun h=>(by cases h),fun _=>⟨fun h=>(by cases h),fun _=>⟨by rw[<-yO];exact hq,fun h=>by rw[hr,hf0,if_pos h],fun h=>by rw[hr,hf0,if_neg h]⟩⟩⟩
 ·cases h
def zlv(a:List V):List V:=II true (Ja (QP (zb6 (qj a))))
def zxz(a:List V):Prop:=∃L:List Nat,a=I (yc L)/\L.length<=100000
theorem zmF:yI Tryz.prog 144 (zly zlv zxz):=by
 intro args ps r h hp;unfold zly at h;split at h
 ·rename_i a0;cases h;obtain⟨ls,hls,hll⟩:zxz a0:=(zm.1 hp).1;have g0:V.frzs a0=a0:=by rw[hls,zD]
  have hal:a0.length=ls.length:=by rw[hls,zj,qO]
  have gal:∀k,a0.getD k (.int .i64 0)=.int .i64 ((ls.getD k 0:Nat):Int):=fun k=>by rw[hls,zO];exact congrArg _ (YN ls k 0)
  have hf0:zlv a0=II true (Ja (QP ls)):=by rw[zlv,hls,zr,KT]
  obtain⟨n,hn⟩:∃n:Int,n=ls.length:=⟨_,rfl⟩;refine zC (T:=tab) (B:=[]) (Bi:=[]) [0,2,3,4,5] Tryz.func144 rfl rfl (by kernel_rfl) (ze rfl) mixed zP (by exact zA) (by exact zx) (by kernel_rfl) ?_;intro L lp rr hL hr hf hlp
  conv=>cbv
  refine hlp (List V×Int) _ _ _ [0,3,4] (fun x=>[(0,none,.val (.slc false 2 (.int .i64 0) a0)),(3,none,.val (.slc true 29 (.slc true 2 (.int .i64 0) []) x.1)),(4,none,.val (.int .i64 x.2))])
   (fun x=>0<=x.2/\x.2<=n/\x.1=II true (Ja (QP (ls.take x.2.toNat)))/\x.1.length<=x.2.toNat) (fun x=>(n-x.2).toNat) (([],0)) (by subst hL;rfl) ?_ ?_
  ·exact⟨by simp,by simp only;omega,rfl,by simp⟩
  rintro⟨es,i⟩ ⟨i0,i1,hI,hel⟩ hfx ag hag;simp only at i0 i1 hI hel;obtain⟨bl,hbl⟩:∃bl,bl=QP (ls.take i.toNat):=⟨_,rfl⟩;rw[<-hbl]at hI;have hesl:es.length=bl.length:=by rw[hI,ye,zqV]
  have b7:i<n->i.toNat<ls.length:=fun h3=>by omega
  obtain⟨x,hx⟩:∃x,x=ls.getD i.toNat 0:=⟨_,rfl⟩;obtain⟨es2,hes2⟩:∃es2,es2=es++[V.slc true 2 (V.int IntKind.i64 0) [V.int IntKind.i64 (x:Int),V.int IntKind.i64 0]]:=⟨_,rfl⟩
  have hel3:es.length<=100000:=by
   have h3:i.toNat<=100000:=(by omega);exact Nat.le_trans hel h3
  have b1:IntKind.wrap .i64 ((es.length:Int)+1-1)=(es.length:Int):=by
   have h3:(es.length:Int)+1-1=es.length:=(by clear hI hes2;omega);rw[h3];exact zk (by clear hI hes2;omega) (by clear hI hes2;omega)
  have b2:IntKind.wrap .i64 (i+1)=i+1:=zk (by omega) (by omega)
  have b3:0<es.length->IntKind.wrap .i64 ((es.length:Int)-1)=((es.length-1:Nat):Int):=fun h3=>by
   rw[zk (by omega) (by omega)];omega
  have h2l:es2.length=es.length+1:=by rw[hes2];simp
  have b4:¬i<n->ls.length<=i.toNat:=fun h3=>by omega
  have b5:IntKind.wrap .i64 (i-1)=i-1:=zk (by omega) (by omega);have b6:i<n->0<=i+1/\i+1<=n/\(n-(i+1)).toNat<(n-i).toNat:=fun h3=>by omega
  have h2g:es2.getD es.length (.slc true 2 (.int .i64 0) [])=.slc true 2 (.int .i64 0) (I [(x:Int),0]):=by
   rw[hes2,zd,zR (zt _),kY];rfl
  have hlast:∀h3:¬i=0,∃B p,bl=B++[p]/\p.1=ls.getD (i-1).toNat 0:=fun h3=>by
   obtain⟨_,_,h5⟩:=zlB (ls.take i.toNat);have hlt:i.toNat<=ls.length:=by omega
   obtain⟨B,p,h6,_,h7⟩:=h5 (fun h8=>by
    have:=congrArg List.length h8;rw[zZ,zq]at this
    omega)
   refine⟨B,p,by rw[hbl,h6],?_⟩;rw[List.getLast?_eq_getElem?,zZ,List.getElem?_take_of_lt (by omega),show min i.toNat ls.length-1=(i-1).toNat by omega]at h7;rw[zd,h7];rfl
  have hadd:(i=0\/¬((x:Int)=((ls.getD (i-1).toNat 0:Nat):Int)))->zhD bl x=bl++[(x,1)]:=fun h3=>by
   by_cases h4:i=0
   ·have:bl=[]:=(by rw[hbl,h4];rfl);rw[this];rfl
   ·obtain⟨B,p,h5,h6⟩:=hlast h4
    have h7:¬p.1=x:=fun h8=>by
     rcases h3 with h3|h3
     ·exact h4 h3
     ·exact h3 (by rw[<-h6,h8])
    have h8:bl.getLast? =some p:=(by rw[h5];simp);rw[zhD,h8];simp only;rw[if_neg h7]
  have htk:i<n->ls.take (i.toNat+1)=ls.take i.toNat++[x]:=fun h3=>by
   rw[List.take_succ,hx,zd,zg (b7 h3)];rfl
  have hsnoc:i<n->QP (ls.take (i.toNat+1))=zhD bl x:=fun h3=>by rw[htk h3,zkG,hbl]
  conv=>cbv
  simp only[zo hL,sQ,g0,hal,gal,<-hn,<-hx,<-hes2];refine⟨fun h2=>⟨fun _=>i0,fun _=>h2,fun _=>trivial,fun h3=>?_,fun h3=>?_,fun _=>trivial,fun h3=>?_,fun h3=>?_⟩,fun h2=>?_⟩
  ·rw[zk (by omega) (by omega)];omega
  ·rw[zk (by omega) (by omega)];omega
  ·have h2l3:(es2.length:Int)=es.length+1:=(by rw[h2l];rfl);rw[h2l3,b1,b2,zV];simp only[h2g,zfo,h2l,zj,zO,uV];have hlt:es.length<es.length+1:=Nat.lt_succ_self _;have hl2:[(x:Int),0].length=2:=rfl;simp only[hl2];refine⟨i0,h2,?_,je (by simp[V.solid]),uj _,Int.lt_succ _,hlt,rfl,hlt,rfl,by omega,by omega,hlt,rfl,by omega,rfl,?_⟩
   ·simp only[yj];have:(es.length:Int)<=100000:=Int.ofNat_le.2 hel3;omega
   refine⟨hlt,rfl,by omega,by omega,hlt,rfl,by omega,rfl,?_⟩;obtain⟨c1,c2,c3⟩:=b6 h2;rw[b5]at h3;refine hag (_,i+1) ⟨c1,c2,?_,?_⟩ c3
   ·simp only[zL i0];rw[hsnoc h2,hadd h3,zsG,ZK,hes2,Kh _ _ (zt _),kY,hI];rfl
   ·simp only[zL i0,yG,h2l];exact Nat.succ_le_succ hel
  ·have h30:¬i=0:=h3.1;have h31:=h3.2;rw[b5]at h31;obtain⟨B,p,h5,h6⟩:=hlast h30
   have hpx:p.1=x:=by
    have h32:(x:Int)=((ls.getD (i-1).toNat 0:Nat):Int):=h31;rw[h6];exact(Int.ofNat_inj.1 h32).symm
   have h8:bl.getLast? =some p:=(by rw[h5];simp);have hblen:bl.length=B.length+1:=(by rw[h5];simp);have hel4:es.length-1=B.length:=(by rw[hesl,hblen];rfl);have hpos:0<es.length:=by rw[hesl,hblen];exact Nat.succ_pos _
   have hadd2:zhD bl x=bl.set B.length (p.1,p.2+1):=by
    rw[zhD,h8];simp only;rw[if_pos hpx,hblen];rfl
   have hgp:bl[B.length]? =some p:=by rw[h5,zR (zt _),kY];rfl
   have hg:es.getD B.length (.slc true 2 (.int .i64 0) [])=.slc true 2 (.int .i64 0) (I [(p.1:Int),(p.2:Int)]):=by
    rw[hI,qo,zqW hgp]
   have hp2:p.2<=100000:=by
    have h9:=(zlB (ls.take i.toNat)).2.1;rw[<-hbl,h5,zej]at h9;have h10:=congrArg List.length h9;rw[zp,zZ,ZH,zp,zE]at h10;omega
   have hlt:B.length<es.length:=by rw[hesl,hblen];exact Nat.lt_succ_self _
   have hw:IntKind.wrap .i64 ((p.2:Int)+1)=((p.2+1:Nat):Int):=by
    rw[zk (by omega) (by omega)];rfl
   rw[b3 hpos,hel4,b2,zV];have hl2:[(p.1:Int),(p.2:Int)].length=2:=rfl;have hg1:[(p.1:Int),(p.2:Int)].getD 1 0=p.2:=rfl;simp only[hg,zfo,zj,zO,uV,hl2,hg1,hw];obtain⟨c1,c2,c3⟩:=b6 h2;refine⟨uj _,Int.ofNat_lt.2 hlt,hlt,rfl,hlt,rfl,by omega,by omega,hlt,rfl,by omega,rfl,hlt,rfl,by omega,by omega,hlt,rfl,by omega,rfl,?_⟩;refine hag (_,i+1) ⟨c1,c2,?_,?_⟩ c3
   ·simp only[zL i0];rw[hsnoc h2,hadd2,<-zqU,<-zkN,hI];rfl
   ·simp only[zL i0,yG];exact Nat.le_succ_of_le hel
  ·have h5:ls.take i.toNat=ls:=zy (b4 h2);rw[hr,hf0,hI,hbl,h5]
 ·cases h
theorem zyt{n:Nat}{l:List Nat}{L:List Int}(h:zhE n l L):∀i,i+1<L.length->L.getD (i+1) 0<=L.getD i 0:=by
 obtain⟨hb,_,m,rfl⟩:=h;intro i hi;obtain⟨hg,_⟩:=uz (zkc hb)
 have h1:∀j,j<(yc (jD 0 n l++List.replicate m 1)).length->(yc (jD 0 n l++List.replicate m 1)).getD j 0=(mul (yc (n::l)) j:Int):=fun j hj=>by
  have h2:(yc (jD 0 n l++List.replicate m 1)).getD j 0=(yc (jD 0 n l++List.replicate m 1)).getD j 1:=by
   rw[zd,zg hj,zd,zg hj];rfl
  have h3:yc (List.replicate m 1)=List.replicate m 1:=by simp[yc]
  rw[h2,YO,h3,zeB,<-zpc hb,zb0]
 rw[h1 _ hi,h1 _ (by omega)];have:=hg.fall i;omega
theorem zs0:∀(l:List (Nat×Nat)) (p:Nat×Nat),OkB (p::l)->l.length<=(Zu l).length
 |[],_,_=>Nat.zero_le _
 |q::l,p,h=>by
  have ih:=zs0 l q h.2.2;have h2:1<=q.2:=h.2.1;rw[ZH,zp,zE,zi];omega
theorem zzr{B:List (Nat×Nat)}(x:Nat)(h:B≠[]):(zhD B x).head?.map Prod.fst=B.head?.map Prod.fst:=by
 rw[zhD]
 match B,h with
 |[p],_=>
  simp only[List.getLast?_singleton];split<;>rfl
 |p::q::B,_=>
  cases h2:(p::q::B).getLast? with
  |none=>simp at h2
  |some r=>
   simp only;split
   ·rw[show(p::q::B).length-1=B.length+1 by simp];rfl
   ·rfl
theorem zoS:∀(k:Nat) (L:List Nat),L.length=k->(QP L).head?.map Prod.fst=L.head?
 |0,L,h=>by
  obtain rfl:=yC h;rfl
 |k+1,L0,h=>by
  obtain⟨L,x,rfl⟩:∃L x,L0=L++[x]:=by
   have hne:L0≠[]:=fun h2=>(by rw[h2]at h;simp at h);exact⟨L0.dropLast,L0.getLast hne,(List.dropLast_concat_getLast hne).symm⟩
  have ih:=zoS k L (by rw[zp,yj]at h;omega);rw[zkG];by_cases hL:L=[]
  ·subst hL;rfl
  ·have hb:QP L≠[]:=fun h2=>by
    have h3:=(zlB L).2.1;rw[h2]at h3;exact hL h3.symm
   rw[zzr x hb,ih]
   cases L with
   |nil=>exact absurd rfl hL
   |cons y L=>rfl
theorem zza{α:Type}{l tl:List α}{k:Nat}{x y:α}(h:l.drop k=x::tl)(hk:k<l.length):(l.set k y).drop k=y::tl:=by
 have hsp:l=l.take k++x::tl:=by rw[<-h,ke]
 have hl:(l.take k).length=k:=by rw[zZ];omega
 have h2:l.set k y=l.take k++y::tl:=by
  conv=>lhs;rw[hsp]
  rw[Kh _ _ (by omega),hl,kY];rfl
 rw[h2]
 conv=>lhs;rw[<-hl]
 rw[hl];have h3:=List.drop_left (l₁:=l.take k) (l₂:=y::tl);rw[hl]at h3;exact h3
def zrT(a:List V):Prop:=∃n l L,a=I L/\zhE n l L/\L.length<=1000
theorem zfN:yI Tryz.prog 126 (zgi zbc zrT):=by
 intro args ps r h hp;unfold zgi at h;split at h
 ·rename_i a0;cases h;obtain⟨n,l,ls,hL0,hs,hLl⟩:zrT a0:=(zm.1 hp).1;have g0:V.frzs a0=a0:=by rw[hL0,zD]
  have hal:a0.length=ls.length:=by rw[hL0,zj]
  have gal:∀k,a0.getD k (.int .i64 0)=.int .i64 (ls.getD k 0):=fun k=>by rw[hL0,zO]
  have hfall:=zyt hs;obtain⟨hh,hlen⟩:=zmA hs;have hf0:zbc a0=(I (yc (n::l)),true):=by rw[zbc,hL0,zr,zdS hs]
  obtain⟨hb,hne,m,hLe⟩:=hs;have hlo:=hb.lo;have hhi:=hb.hi;obtain⟨ni,hni⟩:∃ni:Int,ni=n:=⟨_,rfl⟩;obtain⟨lm,hlm⟩:∃lm:Int,lm=ls.length:=⟨_,rfl⟩;have hh2:ls.getD 0 0=ni:=by rw[hh,hni]
  obtain⟨N,hN⟩:∃N,N=jD 0 n l++List.replicate m 1:=⟨_,rfl⟩;rw[<-hN]at hLe;obtain⟨bl0,hbl0⟩:∃bl0,bl0=QP N:=⟨_,rfl⟩;obtain⟨vb,hvb⟩:∃vb,vb=II true (Ja bl0):=⟨_,rfl⟩;have hfb:zlv a0=vb:=by rw[zlv,hL0,zr,hLe,KT,<-hbl0,hvb]
  have hNl:N.length=ls.length:=by rw[hLe,qO]
  obtain⟨hok0,hex0,hlast0⟩:=zlB N;rw[<-hbl0]at hok0 hex0;have hbr:=zkc hb;have hsm:=zqN l n n (by omega) hb.val;generalize zqA:zlv=zw0;generalize zqg:zxz=zCH;generalize qn:kW=jF;generalize yA:uf=jq;refine zC (T:=tab) (B:=[(144,zly zw0 zCH),(81,YF jF jq)]) (Bi:=[]) [0,2,3,4,5,6,7,8,9,10,11] Tryz.func126 rfl rfl (by kernel_rfl) (ze rfl) mixed zP (by subst zqA zqg qn yA;exact(zn zmF (zn zao zA))) (by subst zqA zqg qn yA;exact zx) (by kernel_rfl) ?_;intro L lp rr hL hr hf hlp;have Eb:zw0 a0=vb:=by rw[<-zqA,hfb]
  conv=>cbv
  refine hlp (Int) _ _ _ [0,2,4] (fun x=>[(0,none,.val (.slc false 2 (.int .i64 0) a0)),(2,none,.val (.box 57 (.agg [.slc true 2 (.int .i64 0) []]))),(4,none,.val (.int .i64 x))])
   (fun x=>1<=x/\x<=lm) (fun x=>(lm-x).toNat) (1) (by subst hL;rfl) ?_ ?_
  ·exact⟨by omega,by omega⟩
  intro i ⟨i0,i1⟩ hfx ag hag
  have hfi:i<lm->ls.getD i.toNat 0<=ls.getD (i-1).toNat 0:=fun h=>by
   have:=hfall (i-1).toNat (by omega);rw[show(i-1).toNat+1=i.toNat by omega]at this;exact this
  have b1:IntKind.wrap .i64 (i-1)=i-1:=zk (by omega) (by omega);have b2:IntKind.wrap .i64 (i+1)=i+1:=zk (by omega) (by omega)
  conv=>cbv
  simp only[zo hL,sQ,g0,hal,gal,<-hlm,b1,b2,Eb,hh2];refine⟨fun h2=>⟨by omega,by omega,by omega,by omega,fun h3=>?_,fun h3=>hag (i+1) ⟨by omega,by omega⟩ (by omega)⟩,fun h2=>⟨?_,by omega,by omega,by omega,by omega,?_⟩⟩
  ·have:=hfi h2;omega
  ·rw[<-zqg];exact⟨N,by rw[hL0,hLe],by omega⟩
  clear hag hfx ag
  refine hlp (List V×List V×Int×Int×Int) _ _ _ [2,5,6,7,8,9] (fun x=>[(2,none,.val (.box 57 (.agg [.slc true 2 (.int .i64 0) []]))),(5,none,.val (.slc true 29 (.slc true 2 (.int .i64 0) []) x.1)),(6,none,.val (.box 57 (.agg [.slc true 2 (.int .i64 0) x.2.1]))),(7,none,.val (.int .i64 x.2.2.1)),(8,none,.val (.int .i64 x.2.2.2.1)),(9,none,.val (.int .i64 x.2.2.2.2))])
   (fun x=>∃(bl:List (Nat×Nat)) (pre rest:List Nat) (p e m a:Nat),x.1=II true (Ja bl)/\x.2.1=I (yc (n::pre))/\l=pre++rest/\x.2.2.1=(p:Int)/\x.2.2.2.1=(a:Int)/\x.2.2.2.2=(e:Int)/\0<e/\e<=64/\p<=2000/\e ∣ p/\YS p e rest/\bl.length<=2000/\(Zu (bl.drop a)).length<=1000/\OkB (bl.drop a)/\Zu (bl.drop a)=jD p e rest++List.replicate m 1/\(∀v c tl,bl.drop a=(v,c)::tl->v=e)) (fun x=>x.2.2.2.2.toNat) ((vb,[V.int IntKind.i64 ni],0,0,ni)) (by subst hL;rfl) ?_ ?_
  ·refine⟨bl0,[],l,0,n,m,0,hvb,by rw[hni];rfl,rfl,rfl,rfl,hni,by omega,hhi,by omega,⟨0,rfl⟩,hb.val.weak (by omega),?_,by rw[uK,hex0];omega,hok0,by rw[uK,hex0,hN],?_⟩
   ·cases hb9:bl0 with
    |nil=>simp
    |cons q9 l9=>
     rw[hb9]at hok0 hex0;have h3:=zs0 l9 q9 hok0;have h4:=congrArg List.length hex0;rw[ZH,zp]at h4;simp only[zi];omega
   ·intro v c tl h3;rw[uK]at h3;have h4:=zoS _ N rfl;rw[<-hbl0,h3]at h4
    have h5:N.getD 0 0=n:=by
     have h6:=YN N 0 0;rw[<-hLe]at h6;have h7:ls.getD 0 0=((N.getD 0 0:Nat):Int):=h6;rw[hh]at h7;omega
    cases hN9:N with
    |nil=>rw[hN9]at h4;simp at h4
    |cons y N9=>
     rw[hN9]at h4 h5;simp only[List.head?_cons,Option.map_some,za]at h4;rw[h4];exact h5
  rintro⟨vs,bs,la,ti,e⟩ ⟨bl,pre,rest,p,e',m',a,hV,hB,hl,hp,ha,he,he0,he64,hp2,hd,hv,hbl,hel,hok,hex,hhd⟩ hfx ag hag;simp only at hV hB hp ha he;have hvl:vs.length=bl.length:=by rw[hV,ye,zqV]
  have hbsl:bs.length=pre.length+1:=by rw[hB,zj,qO];rfl
  have gvs:∀(k:Nat) (q:Nat×Nat),bl[k]? =some q->vs.getD k (.slc true 2 (.int .i64 0) [])=.slc true 2 (.int .i64 0) (I [(q.1:Int),(q.2:Int)]):=fun k q h=>by
   rw[hV,qo,zqW h]
  have hl2:∀x y:Int,[x,y].length=2:=fun _ _=>rfl;have hg0:∀x y:Int,[x,y].getD 0 0=x:=fun _ _=>rfl;have hg1:∀x y:Int,[x,y].getD 1 0=y:=fun _ _=>rfl;by_cases he1:1<e
  ·cases rest with
   |nil=>have h3:e'=1:=hv
         omega
   |cons t rest=>
    obtain⟨v1,v2,v3,v4⟩:=hv;obtain⟨X,hx,hr0,hr1⟩:=zia he0 (ziR hd v1 v3);obtain⟨q,hq⟩:∃q,q=(t-p)/e':=⟨_,rfl⟩;obtain⟨r,hr9⟩:∃r,r=(t-p)%e':=⟨_,rfl⟩;obtain⟨Y,hY⟩:∃Y,Y=jD t (Nat.gcd e' t) rest++List.replicate m' 1:=⟨_,rfl⟩;have hxe:ex (t-p) e'=List.replicate q e'++ex e' r:=(by rw[kg he0,<-hq,<-hr9]);rw[<-hq,<-hr9]at hx;rw[<-hr9]at hr0 hr1;have hk:q*e'+r=t-p:=by rw[hq,hr9,Nat.mul_comm];exact Nat.div_add_mod _ _
    have hXe:ex e' r=r::X:=by
     have h3:=hxe.symm.trans hx;exact List.append_cancel_left h3
    have hex2:Zu (bl.drop a)=List.replicate q e'++r::(X++Y):=by
     rw[hex,jD,zU,<-hY,hx];simp
    obtain⟨c,tl,hdr⟩:∃c tl,bl.drop a=(e',c)::tl:=by
     match h3:bl.drop a with
     |[]=>
      rw[h3]at hex2;exfalso;have h4:=congrArg List.length hex2;simp[Zu]at h4
     |(v,c)::tl=>exact⟨c,tl,by rw[hhd v c tl h3]⟩
    rw[hdr]at hok hex2 hel;obtain⟨hcq,c1,tl',htl,hok2,hex3⟩:=zum hok (by omega) hex2
    have hbA:bl[a]? =some (e',q):=by
     have h4:(bl.drop a)[0]? =some (e',c):=(by rw[hdr];rfl);rw[zX,ya,hcq]at h4;exact h4
    have hdr1:bl.drop (a+1)=(r,c1)::tl':=by
     have h4:(bl.drop a).drop 1=tl:=(by rw[hdr];rfl);rw[Zl,htl]at h4;exact h4
    have hbB:bl[a+1]? =some (r,c1):=by
     have h4:(bl.drop (a+1))[0]? =some (r,c1):=(by rw[hdr1];rfl);rw[zX,ya]at h4;exact h4
    have hal2:a+1<bl.length:=(zl.1 hbB).1;have ht1:ti.toNat=a:=(by omega);have ht2:(ti+1).toNat=a+1:=(by omega);have b3:IntKind.wrap .i64 (ti+1)=ti+1:=zk (by omega) (by omega);have hqe:q*e'<=2000:=(by omega);obtain⟨qe,hqe9⟩:∃qe:Int,qe=((q*e':Nat):Int):=⟨_,rfl⟩
    have b4:IntKind.wrap .i64 ((q:Int)*e)=qe:=by
     have h5:(q:Int)*e=((q*e':Nat):Int):=(by rw[he];push_cast;rfl);rw[h5,hqe9];exact zk (by omega) (by omega)
    have b5:IntKind.wrap .i64 (la+qe)=la+qe:=zk (by omega) (by omega)
    have b6:IntKind.wrap .i64 (la+qe+(r:Int))=(t:Int):=by
     rw[zk (by omega) (by omega)];omega
    have hpl:pre.length<=5:=by
     have h6:l.length=pre.length+(rest.length+1):=by rw[hl,zp];rfl
     have h7:l.length<=6:=by
      rcases Qg 6 l.length with h8|h8
      ·exfalso;have h9:2^7<=2^l.length:=Nat.pow_le_pow_right (by omega) (by omega);omega
      ·exact h8
     omega
    have gA:=gvs _ _ hbA;have gB:=gvs _ _ hbB
    conv=>cbv
    simp only[zo hL,sQ,hvl,b3,ht1,ht2,gA,gB,zfo,zj,zO,uV,hl2,hg0,hg1,b4,b5,b6];refine⟨fun _=>⟨fun _=>by omega,fun _=>by omega,fun _=>by omega,fun _=>trivial,fun _=>by omega,fun _=>trivial,fun _=>by omega,fun _=>by omega,fun _=>by omega,fun _=>trivial,fun _=>by omega,fun _=>trivial,fun h3=>by omega,fun _=>⟨by omega,by omega,hal2,hal2,by omega,by omega,hal2,by omega,?_⟩⟩,fun h=>absurd he1 h⟩;obtain⟨bs2,hb2⟩:∃bs2,bs2=bs++[V.int IntKind.i64 (t:Int)]:=⟨_,rfl⟩;have hb2l:bs2.length=pre.length+2:=by rw[hb2,zp,hbsl];rfl
    have hB2:bs2=I (yc (n::(pre++[t]))):=by
     rw[hb2,hB,show yc (n::(pre++[t]))=yc (n::pre)++[(t:Int)] by simp[yc],<-jb];rfl
    simp only[<-hb2,hb2l];have hgp:=jE t he0;have hgl:=zbW he0 (jY e' t)
    have hgr:Nat.gcd e' r=Nat.gcd e' t:=by
     have h4:Nat.gcd e' (t-p)=Nat.gcd e' t:=zcr hd (by omega);rw[<-h4,Nat.gcd_rec e' (t-p),<-hr9,uG]
    refine⟨by omega,by omega,by omega,by omega,by omega,by omega,by omega,by omega,rfl,by simp only[yj];omega,yr _,fun h8=>by omega,fun _=>?_⟩
    refine hlp (Int×Int×Int) _ _ _ [2,5,6,7,8,9,10] (fun x=>[(2,none,.val (.box 57 (.agg [.slc true 2 (.int .i64 0) []]))),(5,none,.val (.slc true 29 (.slc true 2 (.int .i64 0) []) vs)),(6,none,.val (.box 57 (.agg [.slc true 2 (.int .i64 0) bs2]))),(7,none,.val (.int .i64 (t:Int))),(8,none,.val (.int .i64 x.1)),(9,none,.val (.int .i64 x.2.1)),(10,none,.val (.int .i64 x.2.2))])
     (fun x=>∃(a1 e1 r1 c:Nat) (tl:List (Nat×Nat)),(Zu ((r1,c)::tl)).length<=1000/\x.1=(a1:Int)/\x.2.1=(e1:Int)/\x.2.2=(r1:Int)/\0<r1/\r1<=64/\0<e1/\e1<=64/\Nat.gcd e1 r1=Nat.gcd e' t/\bl.drop a1=(r1,c)::tl/\OkB ((r1,c)::tl)/\Zu ((r1,c)::tl)=ex e1 r1++Y) (fun x=>x.2.2.toNat) ((ti+1,e,(r:Int))) (by subst hL;rfl) ?_ ?_
    ·have hel2:(Zu ((r,c1)::tl')).length<=1000:=by
      rw[<-htl];rw[ZH,zp]at hel;omega
     exact⟨a+1,e',r,c1,tl',hel2,by simp only;omega,he,rfl,hr0,by omega,he0,he64,hgr,hdr1,by rw[<-htl];exact hok2,by rw[<-htl,hex3,hXe];rfl⟩
    rintro⟨tj,f,s⟩ ⟨a1,e1,r1,c9,tl9,hel9,ha1,hf9,hs9,r0,r64,ee0,ee64,hgc,hdr9,hok9,hex9⟩ hfx2 ag2 hag2;simp only at ha1 hf9 hs9
    have hbA9:bl[a1]? =some (r1,c9):=by
     have h4:(bl.drop a1)[0]? =some (r1,c9):=(by rw[hdr9];rfl);rw[zX,ya]at h4;exact h4
    have hA9:a1<bl.length:=(zl.1 hbA9).1;have ht9:tj.toNat=a1:=(by omega);have hm9:f.tmod s=((e1%r1:Nat):Int):=(by rw[hf9,hs9];exact(Int.ofNat_tmod e1 r1).symm);have hd9:f.tdiv s=((e1/r1:Nat):Int):=(by rw[hf9,hs9];exact(Int.ofNat_tdiv e1 r1).symm);have hdl:e1/r1<=e1:=Nat.div_le_self _ _;have hre:ex e1 r1=List.replicate (e1/r1) r1++ex r1 (e1%r1):=kg r0;have hfo:=fun h:¬e1%r1=0=>zia r0 (k:=e1) (fun h2=>h (Nat.mod_eq_zero_of_dvd h2));obtain⟨k9,hk9e⟩:∃k9,k9=e1/r1:=⟨_,rfl⟩;rw[<-hk9e]at hd9 hdl hre;simp only[<-hk9e]at hfo;have b7:IntKind.wrap .i64 (k9:Int)=(k9:Int):=zk (by omega) (by omega);have b8:IntKind.wrap .i64 (tj+1)=tj+1:=zk (by omega) (by omega);have hs0:s≠0:=(by omega);have gA9:=gvs _ _ hbA9;by_cases hmod:e1%r1=0
    ·have hex10:ex e1 r1=List.replicate k9 r1:=(by rw[hre,hmod,zbe,yv]);rw[hex10]at hex9;obtain⟨hk9,hok10,hex11⟩:=zAQ hok9 hex9;obtain⟨c10,hc10⟩:∃c10,c10=c9-k9:=⟨_,rfl⟩;rw[<-hc10]at hok10 hex11;have hm10:f.tmod s=0:=by rw[hm9,hmod];rfl
     have hc9:c9<=1000000:=by
      rw[ZH,zp,zE]at hel9;simp only at hel9;omega
     have hel10:(Zu ((r1,c10)::tl9)).length<=1000:=by
      rw[ZH,zp,zE]at hel9 ⊢;simp only at hel9 ⊢;omega
     have b9:IntKind.wrap .i64 ((c9:Int)-(k9:Int))=(c10:Int):=by
      rw[zk (by omega) (by omega)];omega
     obtain⟨vs2,hvs2⟩:∃vs2,vs2=vs.set a1 (.slc true 2 (.int .i64 0) (I [(r1:Int),(c10:Int)])):=⟨_,rfl⟩;have hset:(I [(r1:Int),(c9:Int)]).set 1 (V.int .i64 (c10:Int))=I [(r1:Int),(c10:Int)]:=rfl;have hv2l:vs2.length=bl.length:=by rw[hvs2,yG,hvl]
     have gA10:vs2.getD a1 (.slc true 2 (.int .i64 0) [])=.slc true 2 (.int .i64 0) (I [(r1:Int),(c10:Int)]):=by
      rw[hvs2,zd,List.getElem?_set_self (by omega)];rfl
     conv=>cbv
     simp only[zo hL,sQ,hvl,ht9,gA9,zfo,zj,zO,uV,hl2,hg0,hg1,hm10,hd9,b7,b9,hset,<-hvs2,hv2l,gA10];refine⟨hs0,fun h=>absurd trivial h,fun _=>⟨by omega,by omega,hA9,hA9,by omega,by omega,hA9,by omega,hs0,hA9,by omega,by omega,hA9,by omega,?_⟩⟩;have hrg:r1=Nat.gcd e' t:=(by rw[<-hgc];exact(Nat.gcd_eq_right (Nat.dvd_of_mod_eq_zero hmod)).symm);have hsp:bl=bl.take a1++(r1,c9)::tl9:=by rw[<-hdr9,ke]
     have hdrs:(bl.set a1 (r1,c10)).drop a1=(r1,c10)::tl9:=by
      rw[zza hdr9 hA9]
     refine⟨hA9,by omega,by omega,hA9,by omega,fun h=>by omega,fun _=>?_⟩;refine hag (vs2,bs2,(t:Int),tj,s) ⟨bl.set a1 (r1,c10),pre++[t],rest,t,r1,m',a1,?_,hB2,by rw[hl];simp,rfl,ha1,hs9,r0,r64,v2,by rw[hrg];exact uO e' t,by rw[hrg];exact v4,by rw[yG];exact hbl,by rw[hdrs];exact hel10,by rw[hdrs];exact hok10,by rw[hdrs,hex11,hY,hrg],?_⟩ ?_
     ·simp only;rw[hvs2,hV,zkN,<-zqU]
     ·intro v c tl h3;rw[hdrs]at h3;injection h3 with h3 _;injection h3 with h3 _;exact h3.symm
     ·simp only
      have h5:r1<e':=by
       rw[hrg];omega
      omega
    ·obtain⟨X2,hx2,hq0,hq1⟩:=hfo hmod;obtain⟨s1,hs1⟩:∃s1,s1=e1%r1:=⟨_,rfl⟩;rw[<-hs1]at hx2 hq0 hq1 hm9;have hex10:Zu ((r1,c9)::tl9)=List.replicate k9 r1++s1::(X2++Y):=(by rw[hex9,hx2];simp);obtain⟨hcq9,c2,tl2,htl9,hok10,hex11⟩:=zum hok9 (by omega) hex10
     have hdr10:bl.drop (a1+1)=(s1,c2)::tl2:=by
      have h4:(bl.drop a1).drop 1=tl9:=(by rw[hdr9];rfl);rw[Zl,htl9]at h4;exact h4
     have hbB9:bl[a1+1]? =some (s1,c2):=by
      have h4:(bl.drop (a1+1))[0]? =some (s1,c2):=(by rw[hdr10];rfl);rw[zX,ya]at h4;exact h4
     have hB9:a1+1<bl.length:=(zl.1 hbB9).1;have ht10:(tj+1).toNat=a1+1:=(by omega);have gB9:=gvs _ _ hbB9
     have hxe2:ex r1 s1=s1::X2:=by
      rw[hre,<-hs1]at hx2;exact List.append_cancel_left hx2
     rw[hcq9]at gA9
     conv=>cbv
     simp only[zo hL,sQ,hvl,b8,ht9,ht10,gA9,gB9,zfo,zj,zO,uV,hl2,hg0,hg1,hm9,hd9,b7];refine⟨hs0,fun _=>⟨by omega,by omega,hA9,hA9,by omega,by omega,hA9,by omega,hs0,fun _=>by omega,fun _=>by omega,fun _=>hB9,fun _=>trivial,fun _=>hB9,fun _=>trivial,fun _=>by omega,fun _=>by omega,fun _=>hB9,fun _=>trivial,fun _=>by omega,fun _=>trivial,fun _=>hs0,fun h=>?_,fun _=>⟨by omega,by omega,hB9,hB9,by omega,by omega,hB9,by omega,?_⟩⟩,fun h=>by omega⟩
     ·rcases h with(h|h)|h
      ·exact absurd trivial h
      ·omega
      ·exact absurd trivial h
     ·have hgc2:Nat.gcd r1 s1=Nat.gcd e' t:=by
       rw[<-hgc,uG e1 r1,Nat.gcd_rec r1 e1,<-hs1,uG]
      have hel10:(Zu ((s1,c2)::tl2)).length<=1000:=by
       rw[<-htl9];rw[ZH,zp]at hel9;omega
      exact hag2 (tj+1,s,(s1:Int)) ⟨a1+1,r1,s1,c2,tl2,hel10,by simp only;omega,hs9,rfl,hq0,by omega,r0,r64,hgc2,hdr10,by rw[<-htl9];exact hok10,by rw[<-htl9,hex11,hxe2];rfl⟩ (by simp only;omega)
  ·have he9:e'=1:=by omega
   have hr0:rest=[]:=by
    cases rest with
    |nil=>rfl
    |cons t rest=>
     have h3:=hv.2.2.1;rw[he9,KA]at h3;exact absurd rfl h3
   have hfb2:V.frzs bs=bs:=(by rw[hB,zD]);have hll:l=pre:=(by rw[hl,hr0,yv]);rw[<-hll]at hB;have Ei:jF bs=true:=by rw[<-qn,kW,hB,zr];exact hbr.is
   conv=>cbv
   simp only[zo hL,sQ,hfb2,Ei];refine⟨fun h=>absurd h he1,fun _=>⟨?_,fun h=>(by cases h),fun _=>by rw[hr,hf0,hB]⟩⟩;rw[<-yA,hB];exact⟨⟨_,rfl⟩,by rw[zj];have:=hbr.len;omega⟩
 ·cases h
def okC(cs:List Nat):Bool:=(mC cs).all fun x=>decide (x<=64)
def zky(cs:List Nat):List Int:=zkF (yc (mC cs))
def zls(a:List V):List V×Int:=bif okC (zb6 (qj a))then(I (zky (zb6 (qj a))),0)else([],5)
theorem zCr{cs:List Nat}(h:okC cs=true):cvm cs=(I (yc (mC cs)),true):=by
 rw[okC,za5,List.all_cons,zh,decide_eq_true_eq]at h;rw[cvm,if_pos h.2,decide_eq_true h.1]
theorem zDp{cs:List Nat}(h:okC cs=false):(cvm cs).2=false:=by
 rw[okC,za5,List.all_cons,ud,decide_eq_false_iff_not]at h;rw[cvm];split
 ·rename_i h2;rcases h with h|h
  ·exact decide_eq_false h
  ·rw[h2]at h;cases h
 ·rfl
theorem zBY{cs:List Nat}(hl:cs.length<=30)(h:okC cs=true):∃n l m,BrN n l/\mC cs=jD 0 n l++List.replicate m 1:=by
 obtain⟨n,l,m,h1,h2,_,_⟩:=zyO cs hl (fun x hx=>by
  rw[okC,List.all_eq_true]at h
  simpa using h x hx)
 exact⟨n,l,m,h1,h2⟩
theorem zD3(cs:List Nat):mC cs≠[]:=by rw[za5];simp
theorem zsx{cs:List Nat}(hl:cs.length<=30)(h:okC cs=true)(k:Nat):(∃n l,zhE n l (yc (mC cs++List.replicate k 1)))/\zkF (yc (mC cs++List.replicate k 1))=zky cs:=by
 obtain⟨n,l,m,h1,h2⟩:=zBY hl h
 have hne:∀k,yc (mC cs++List.replicate k 1)≠[]:=fun k=>by
  rw[yc];simp[zD3]
 have hs:∀k,zhE n l (yc (mC cs++List.replicate k 1)):=fun k=>⟨h1,hne k,m+k,by rw[h2,zU,qS]⟩;refine⟨⟨n,l,hs k⟩,?_⟩;have h0:=hs 0;rw[ZQ,yv]at h0;rw[zky,zdS (hs k),zdS h0]
theorem zhT:yI Tryz.prog 148 (zii zls ze9):=by
 intro args ps r h hp;unfold zii at h;split at h
 ·rename_i a0;cases h;have hq:ze9 a0:=(zm.1 hp).1;obtain⟨cs,hcs,hv,hl⟩:=id hq;have g0:V.frzs a0=a0:=by rw[hcs,zD]
  have hf0:zls a0=bif okC cs then(I (zky cs),0)else([],5):=by rw[zls,hcs,zr,KT]
  have hfm:zlr a0=cvm cs:=by rw[zlr,hcs,zr,KT]
  generalize znr:ztF=zA4;generalize zdZ:ze9=zlI;generalize zqt:zlr=zCL;generalize znv:zh5=zA6;generalize znn:zsO=zA3;generalize Km:zbc=zd9;generalize zdX:zrT=zqF;refine zC (T:=tab) (B:=[(153,zt7 zA4 zlI),(154,zt6 zCL zlI),(155,zt9 zA6 zA3),(126,zgi zd9 zqF)]) (Bi:=[]) [0,2,3,4,5,6,7] Tryz.func148 rfl rfl (by kernel_rfl) (ze rfl) mixed zP (by subst znr zdZ zqt znv znn Km zdX;exact(zn zsC (zn zjS (zn zpj (zn zfN zA))))) (by subst znr zdZ zqt znv znn Km zdX;exact zx) (by kernel_rfl) ?_;intro L lp rr hL hr hf hlp
  conv=>cbv
  simp only[zo hL,sQ,g0];subst zqt zdZ Km zdX znv znn znr;rw[hfm]
  cases hok:okC cs with
  |true=>
   rw[zCr hok]
   have e1:I (yc (mC cs))++zh5 64=I (yc (mC cs++List.replicate 64 1)):=by
    rw[zh5,jb,<-YO];rfl
   obtain⟨⟨n,l,hs⟩,hb⟩:=zsx hl hok 64;have e2:zbc (I (yc (mC cs++List.replicate 64 1)))=(I (zky cs),true):=(by rw[zbc,zr,hb]);dsimp only;rw[e1,zD,e2];have hone:zh5 64=I (yc (List.replicate 64 1)):=rfl;refine⟨hq,fun h=>(by cases h),fun _=>⟨hq,fun h=>(by cases h),fun _=>⟨⟨by omega,by omega⟩,(by rw[hone];exact zjm _),?_,(by rw[hone];exact zlE _),⟨n,l,_,rfl,hs,?_⟩,zdV _,fun h=>(by cases h),fun _=>?_⟩⟩⟩
   ·rw[hone,zj,zj,qO,qO,Je,zE];omega
   ·rw[qO,zp,Je,zE];omega
   ·rw[hr,hf0,hok];rfl
  |false=>
   have h2:=zDp hok;refine⟨hq,fun h=>(by cases h),fun _=>⟨hq,fun _=>?_,fun h=>(nomatch (h.symm.trans h2:true=false))⟩⟩;rw[hr,hf0,hok];rfl
 ·cases h
def zaD(P S:List Int)(i:Int):List Nat:=cdN S (yK P i)
def zc7(cs:List Nat):List V×Int:=bif okC cs then(I (zky cs),0)else([],5)
def zoF(a b _:List V)(i:Int):List V×Int:=zc7 (zaD (qj a) (qj b) i)
theorem zzf(cs:List Nat):V.noFzs (zc7 cs).1=true:=by
 rw[zc7]
 cases okC cs with
 |true=>exact zdV _
 |false=>rfl
theorem ztZ(cs:List Nat):V.frzs (zc7 cs).1=(zc7 cs).1:=by
 rw[zc7]
 cases okC cs with
 |true=>exact zD _
 |false=>rfl
theorem zCv{P S Q:List Int}(h:ClP P S Q){i:Int}(h0:0<=i)(h1:i<P.length):ze9 (I (yc (zaD P S i)))/\zls (I (yc (zaD P S i)))=zc7 (zaD P S i):=by
 refine⟨⟨_,rfl,(zq2 h i (by omega) h1).2,?_⟩,by rw[zls,zr,KT,zc7]⟩;have:=zdA h (show-1<=i by omega) h1;rw[zaD,zih];omega
def zAz(a b c:List V)(i:Int):Int:=0
theorem znT:yI Tryz.prog 147 (zue zAz zj5):=by
 intro args ps r h hp;unfold zue at h;split at h
 ·rename_i a0 a1 a2 i;cases h;have hqp:zj5 a0 a1 a2 i:=(zm.1 hp).1;obtain⟨hqv,i0,i1⟩:=id hqp;obtain⟨⟨⟨P,hP⟩,⟨S,hS⟩,⟨Q,hQ⟩⟩,hcl⟩:=id hqv;rw[hP,hS,hQ,zr,zr,zr]at hcl;have g0:V.frzs a0=a0:=by rw[hP,zD]
  have g1:V.frzs a1=a1:=by rw[hS,zD]
  have g2:V.frzs a2=a2:=by rw[hQ,zD]
  have hpl:a0.length=P.length:=by rw[hP,zj]
  have n24:=hcl.n24;have hf2:uh a0 a1 a2=true:=by rw[uh,hP,hS,hQ,zr,zr,zr];exact zf8.2 hcl
  rw[hpl]at i1;generalize uP:uh=zaV;generalize Yx:q_K=zeo;generalize yk:yu=qR;refine zC (T:=tab) (B:=[(132,zfj zaV zeo),(82,qW qR)]) (Bi:=[]) [0,1,2,4] Tryz.func147 rfl rfl (by kernel_rfl) (ze rfl) mixed zP (by subst uP Yx yk;exact(zn zcP (zn Ym zA))) (by subst uP Yx yk;exact zx) (by kernel_rfl) ?_;intro L lp rr hL hr hf hlp;have E1:∀x a b,qR x a b=yu x a b:=fun x a b=>by rw[<-yk]
  conv=>cbv
  simp only[zo hL,sQ,g0,g1,g2,hpl,E1];rw[<-uP,<-Yx,hf2,zk (by omega) (by omega)];refine⟨hqv.1,fun h=>(nomatch h),fun _=>⟨fun h=>?_,fun _=>?_⟩⟩
  ·rw[yu,ud,decide_eq_false_iff_not,decide_eq_false_iff_not]at h;omega
  ·rw[hr,zAz]
 ·cases h
def zp1(f:List V->List V->List V->Int->List V×Int)(q:List V->List V->List V->Int->Prop):zN:=fun
 |[.agg [.slc false 2 (.int .i64 0) a0,.slc false 2 (.int .i64 0) a1,.slc false 2 (.int .i64 0) a2],.int .i64 a3]=>some ([q a0 a1 a2 a3],.tup [.agg [.slc false 2 (.int .i64 0) ((f a0 a1 a2 a3).1)],.int .i64 ((f a0 a1 a2 a3).2)])
 |_=>none
theorem ziE:yI Tryz.prog 138 (zp1 zoF zj5):=by
 intro args ps r h hp;unfold zp1 at h;split at h
 ·rename_i a0 a1 a2 i;cases h;have hqp:zj5 a0 a1 a2 i:=(zm.1 hp).1;obtain⟨hqv,i0,i1⟩:=id hqp;obtain⟨⟨⟨P,hP⟩,⟨S,hS⟩,⟨Q,hQ⟩⟩,hcl⟩:=id hqv;rw[hP,hS,hQ,zr,zr,zr]at hcl;have g0:V.frzs a0=a0:=by rw[hP,zD]
  have g1:V.frzs a1=a1:=by rw[hS,zD]
  have g2:V.frzs a2=a2:=by rw[hQ,zD]
  have hpl:a0.length=P.length:=by rw[hP,zj]
  have hi1:=i1;rw[hpl]at i1;have hfp:zeF a0 a1 a2 i=I (yK P i):=by rw[zeF,hP,zr]
  have hfc:zlu a0 a1 a2 (I (yK P i))=I (yc (zaD P S i)):=by rw[zlu,hS,zr,zr,zaD]
  have hqc:zrU a0 a1 a2 (I (yK P i)):=⟨hqv,i,by rw[hP,zr],i0,hi1⟩;obtain⟨ck1,ck2⟩:=zCv hcl i0 i1;have hf0:zoF a0 a1 a2 i=zc7 (zaD P S i):=by rw[zoF,hP,hS,zr,zr]
  generalize zuC:zAz=zDK;generalize zgt:zj5=ziu;generalize zce:zeF=zjt;generalize zqx:zlu=zCN;generalize zqe:zrU=zCF;generalize zqu:zls=zCM;generalize zdZ:ze9=zlI;refine zb7 (T:=tab) (B:=[(147,zue zDK ziu),(139,zlz zjt ziu),(149,zgj zCN zCF),(148,zii zCM zlI),(2000000148,zil)]) (Bi:=[]) [2000004807,2000004824,2000004998,0,1,2,4,5,6,7,8] Tryz.func138 rfl rfl (by kernel_rfl) (ze rfl) mixed zP (by subst zuC zgt zce zqx zqe zqu zdZ;exact(zn znT (zn zhP (zn zpg (zn zhT (zn zpv zA)))))) (by subst zuC zgt zce zqx zqe zqu zdZ;exact zx) (by kernel_rfl) ?_;intro L lp rr hL hr hf hlp
  conv=>cbv
  simp only[zo hL,sQ,g0,g1,g2];subst zuC zgt zce zqx zqe zqu zdZ;rw[hfp,zD,hfc,zD,ck2];refine⟨hqp,fun h=>absurd rfl h,fun _=>⟨hqp,hqc,zdV _,ck1,zzf _,?_⟩⟩;rw[ztZ,ztZ,hr,hf0]
 ·cases h
def zmB(M:Nat->Nat)(j:Nat):Int:=if 1<(prs M j j).length then((prs M j j).getD 0 0:Nat)else-1
theorem zz8{M:Nat->Nat}(h:GoodM M)(j:Nat):prs M (j+1) (j+1)=[j]\/∃a,a<j/\Zy M a (j+1)/\prs M (j+1) (j+1)=[a,j]:=by
 have h1:=zdB (M:=M) (i:=j) (j:=j+1) (by omega);have h2:qE M j (j+1-j)<=M j:=zsT h j;rw[if_pos h2]at h1
 cases hh:prs M j (j+1)with
 |nil=>rw[h1,hh];exact .inl rfl
 |cons a l=>
  have ha:a∈prs M j (j+1):=by rw[hh];simp
  have hl:l=[]:=by
   cases hl:l with
   |nil=>rfl
   |cons b l'=>
    exfalso;have hb:b∈prs M j (j+1):=by rw[hh,hl];simp
    have hp:(prs M j (j+1)).Pairwise (·< ·):=by
     rw[prs];exact(List.pairwise_lt_range).filter _
    rw[hh,hl]at hp;have hab:a<b:=(List.pairwise_cons.1 hp).1 b (by simp);simp only[prs,jU,kr,prx,decide_eq_true_eq]at ha hb;exact zaq h hab (by omega) ha.2 hb.2
  simp only[prs,jU,kr,prx,decide_eq_true_eq]at ha;rw[h1,hh,hl];exact .inr ⟨a,by omega,ha.2,rfl⟩
theorem zqT{M:Nat->Nat}(h:GoodM M)(j:Nat):(zmB M (j+1)= -1/\prs M (j+1) (j+1)=[j])\/∃a,a<j/\Zy M a (j+1)/\zmB M (j+1)=a/\prs M (j+1) (j+1)=[a,j]:=by
 rcases zz8 h j with e|⟨a,h1,h2,e⟩
 ·exact .inl ⟨by rw[zmB,e];rfl,e⟩
 ·exact .inr ⟨a,h1,h2,by rw[zmB,e];rfl,e⟩
theorem zyF{M:Nat->Nat}(h:GoodM M){a j j':Nat}(h1:a<j)(h2:j<=j')(hp:Zy M a j'):Zy M a j:=by
 unfold Zy at hp ⊢;exact Classical.byContradiction fun hn=>zmL h h1 h2 hn hp
theorem zla{M:Nat->Nat}(h:GoodM M){a j:Nat}(h1:a<j)(hp:Zy M a (j+1)):zmB M (j+1)=a:=by
 rcases zqT h j with⟨_,e⟩|⟨b,h3,h4,h5,e⟩
 ·exfalso
  have:a∈prs M (j+1) (j+1):=by
   simp only[prs,jU,kr,prx,decide_eq_true_eq];exact⟨by omega,hp⟩
  rw[e]at this;simp at this;omega
 ·rcases Nat.lt_trichotomy a b with hab|hab|hab
  ·exact absurd h4 (zaq h hab (by omega) hp)
  ·rw[h5,hab]
  ·exact absurd hp (zaq h hab (by omega) h4)
structure PSt where
 P:List Int
 S:List Int
 Q:List Int
 own:List Int
def zEk(xs own:List Int)(j:Nat):Int:=if 0<j/\cd (mul xs) j j≠0 then own.getD ((j:Int)-cd (mul xs) j j).toNat 0 else-1
def zEm(own:List Int)(j:Nat):Int:=if 0<j then own.getD (j-1) 0 else-1
def zDe(bs ms:List (List Int))(i:Nat):Nat:=(zD4 bs ms i).toNat
structure ClOk (bs ms:List (List Int)) (i:Nat) (s:PSt) (names:List (List Int)):Prop where
 sl:s.S.length=s.P.length
 ql:s.Q.length=s.P.length
 nl:names.length=i
 rl:∀k,k<i->(names.getD k []).length=zDe bs ms k
 rin:∀(k j:Nat),k<i->j<zDe bs ms k->0<=(names.getD k []).getD j 0/\(names.getD k []).getD j 0<s.P.length
 cmp:∀(k k' j:Nat),k<i->k'<i->k≠k'->(j:Int)<mm ms k k'->(names.getD k []).getD j 0=(names.getD k' []).getD j 0
structure OwnOk (ms names:List (List Int)) (i:Nat) (s:PSt) (j:Nat):Prop where
 ol:s.own.length=j
 oin:∀t,t<j->0<=s.own.getD t 0/\s.own.getD t 0<s.P.length
 ocmp:∀(k t:Nat),k<i->t<j->(t:Int)<mm ms i k->s.own.getD t 0=(names.getD k []).getD t 0
theorem zcq{l:List Int}{x:Int}{t:Nat}(h:t<=l.length):(l++[x]).getD t 0=if t=l.length then x else l.getD t 0:=by
 simp only[zd];by_cases h1:t=l.length
 ·rw[if_pos h1,h1,zR (zt _)];simp
 ·rw[if_neg h1,zQ (by omega)]
def sg(f:Nat->Int):Nat->Int
 |0=>0
 |n+1=>sg f n+f n
theorem ZR{f g:Nat->Int}:∀{n:Nat},(∀t,t<n->f t=g t)->sg f n=sg g n
 |0,_=>rfl
 |n+1,h=>by rw[sg,sg,ZR (n:=n) fun t ht=>h t (by omega),h n (by omega)]
theorem zsw(f g:Nat->Int):∀n,sg (fun t=>f t+g t) n=sg f n+sg g n
 |0=>rfl
 |n+1=>by simp only[sg];rw[zsw f g n];omega
theorem zyq(f g:Nat->Int):∀n,sg (fun t=>f t-g t) n=sg f n-sg g n
 |0=>rfl
 |n+1=>by simp only[sg];rw[zyq f g n];omega
theorem zo9{f:Nat->Int}:∀{n:Nat},(∀t,t<n->f t=0)->sg f n=0
 |0,_=>rfl
 |n+1,h=>by rw[sg,zo9 (n:=n) fun t ht=>h t (by omega),h n (by omega)];rfl
theorem znR(c:Int)(f:Nat->Int):∀n,sg (fun t=>c*f t) n=c*sg f n
 |0=>by simp[sg]
 |n+1=>by simp only[sg];rw[znR c f n,Int.mul_add]
theorem zyr{f:Nat->Int}:∀{n p:Nat},p<n->(∀t,t<n->t≠p->f t=0)->sg f n=f p
 |0,p,hp,_=>by omega
 |n+1,p,hp,h=>by
  rw[sg];by_cases e:p=n
  ·subst e;rw[zo9 fun t ht=>h t (by omega) (by omega)];omega
  ·rw[zyr (n:=n) (p:=p) (by omega) fun t ht hne=>h t (by omega) hne,h n (by omega) (by omega)];omega
theorem zys{f:Nat->Int}{m:Nat}:∀{n:Nat},m<=n->(∀t,m<=t->t<n->f t=0)->sg f n=sg f m
 |0,h,_=>by rw[show m=0 by omega]
 |n+1,h,hz=>by
  by_cases e:m=n+1
  ·rw[e]
  ·rw[sg,zys (n:=n) (by omega) fun t h1 h2=>hz t h1 (by omega),hz n (by omega) (by omega)];omega
theorem zBi{f:Nat->Int}:∀{n:Nat},(∀t,t<n->0<=f t)->0<=sg f n
 |0,_=>by simp[sg]
 |n+1,h=>by
  have:=zBi (n:=n) fun t ht=>h t (by omega);have:=h n (by omega);rw[sg];omega
structure RowsOk (n N:Nat) (len:Nat->Nat) (r c:Nat->Nat->Nat):Prop where
 lt:∀i j,i<n->j<len i->r i j<N
 sep:∀i k j j',i<n->k<n->j<len i->j'<len k->r i j=r k j'->j=j'/\(i=k\/j<c i k)
 cmp:∀i k j,i<n->k<n->i≠k->j<c i k->r i j=r k j
 cle:∀i k,i<n->k<n->i≠k->c i k<=len i/\c i k<=len k
def tw(x:Int):Int:=x*(x-1)
theorem zCQ(x y:Int):tw (x+y)=tw x+(tw y+2*(x*y)):=by
 simp only[tw,Int.mul_sub,Int.add_mul,Int.mul_add,Int.mul_one,zdo y x];omega
theorem zoa{M:Nat->Nat}(h:GoodM M)(a:Nat):∃k,1<=k/\qE M a k=M a:=by
 by_cases e:M (a+1)<M a
 ·obtain⟨c,r,e1,e2,e3,e4,e5⟩:=h.drop a e;have hc:=zmw c e4;by_cases hr:0<r
  ·refine⟨c+1,by omega,?_⟩;have h1:qE M a (c+1)=qE M a c+M (a+1+c):=rfl;rw[h1,hc,e5 hr,e1]
  ·exact⟨c,e3,by rw[hc,e1];omega⟩
 ·have:=h.fall a;refine⟨1,by omega,?_⟩;have h1:qE M a 1=0+M (a+1+0):=rfl;rw[h1,ya];omega
theorem zmM{M:Nat->Nat}(h:GoodM M){a k j:Nat}(hk:qE M a k=M a)(hj:a<j):Zy M a j↔j-a<=k:=by
 unfold Zy;rw[<-hk];constructor
 ·intro h1
  exact Classical.byContradiction fun hn=>by
   have:=QY h a (k:=k) (k':=j-a) (by omega);omega
 ·intro h1;by_cases e:j-a=k
  ·rw[e];exact zt _
  ·exact Nat.le_of_lt (QY h a (by omega))
instance {M:Nat->Nat} {a j:Nat}:Decidable (Zy M a j):=inferInstanceAs (Decidable (qE M a (j-a)<=M a))
theorem zqS{xs ys:List Int}{c:Nat}(h:shr xs ys c=true)(c1:1<=c)(c2:c<=200):
 (∀t,1<=t->t<c->cd (mul xs) t t=cd (mul ys) t t)/\(cd (mul xs) c c≠cd (mul ys) c c\/cd (mul xs) c c=0):=by
 rw[shr,zc8,zh,decide_eq_true_eq,Jl xs (c:=c-1) (k:=201) (by omega),Jl ys (c:=c-1) (k:=201) (by omega),YR xs (k:=201) (by omega),YR ys (k:=201) (by omega),show c-1+1=c by omega]at h;obtain⟨h1,h2⟩:=h;refine⟨fun t t1 t2=>?_,?_⟩
 ·have this:(kI xs c).getD (t-1) 0=(kI ys c).getD (t-1) 0:=by rw[h1]
  rw[YR xs (k:=c) (by omega),YR ys (k:=c) (by omega),show t-1+1=t by omega]at this;exact this
 ·simpa using h2
def nW(bs:List (List Int))(R:Nat->List Int)(L:Nat->Nat)(m:Nat)(q:Int):Int:=sg (fun k=>sg (fun t=>if(R k).getD t 0=q then(mul (bs.getD k []) t:Int)else 0) (L k)) m
structure Pts (bs ms:List (List Int)) (m:Nat) (R:Nat->List Int) (L:Nat->Nat) (P S Q:List Int):Prop where
 sl:S.length=P.length
 ql:Q.length=P.length
 hin:∀k t,k<m->t<L k->0<=(R k).getD t 0/\(R k).getD t 0<P.length
 sep:∀k k' t t',k<m->k'<m->t<L k->t'<L k'->(R k).getD t 0=(R k').getD t' 0->t=t'/\(k=k'\/(t:Int)<mm ms k k')
 par:∀k t,k<m->t<L k->P.getD ((R k).getD t 0).toNat 0=zEm (R k) t
 sec:∀k t,k<m->t<L k->S.getD ((R k).getD t 0).toNat 0=zEk (bs.getD k []) (R k) t
 wt:∀q:Nat,q<P.length->Q.getD q 0=nW bs R L m q
 sur:∀q:Nat,q<P.length->∃k t,k<m/\t<L k/\(R k).getD t 0=q
 asc:∀k t,k<m->t+1<L k->(R k).getD t 0<(R k).getD (t+1) 0
 zero:∀k,k<m->0<L k->(R k).getD 0 0=0
structure RowGrow (i j:Nat) (R R':Nat->List Int) (L L':Nat->Nat) (v:Int):Prop where
 lj:L i=j
 rl:(R i).length=j
 r':R' i=R i++[v]
 l':L' i=j+1
 ro:∀k,k<i->R' k=R k
 lo:∀k,k<i->L' k=L k
def sqS:List Int->Int
 |[]=>0
 |m::l=>m*m+sqS l
section
variable {xs:List Int}{k:Nat}
structure Semi (xs ys:List Int) (k e r q L:Nat):Prop where
 e1:(dv xs).getD k 0=(e:Int)
 hr:0<r
 re:r<e
 kk:Kb xs k=((q*e+r:Nat):Int)
 low:∀i,i<L->mul xs i=e*mul ys i
 atL:mul xs L=r
 one:∀i,L<=i->mul ys i=1
 pos:1<=L
 last:mul ys (L-1)=1
 sq:sqS ((jn xs).take L)=zBy xs k+q*(e*e)
 len:L<(jn xs).length
end
def dS(M N:Nat->Nat):Nat->Int
 |0=>0
 |n+1=>dS M N n+(M n:Int)*(N n:Int)
theorem zr5{M N:Nat->Nat}(hM:∀i,M i<=64)(hN:∀i,N i<=64):∀n,0<=dS M N n/\dS M N n<=4096*n
 |0=>by simp[dS]
 |n+1=>by
  have ih:=zr5 hM hN n;have h1:0<=(M n:Int)*(N n:Int):=Int.mul_nonneg (by omega) (by omega);have h2:(M n:Int)*(N n:Int)<=64*64:=Int.mul_le_mul (by have:=hM n;omega) (by have:=hN n;omega) (by omega) (by omega);simp only[dS];omega
theorem zcm{xs ys:List Int}(hx:Br xs)(hy:Br ys){c:Nat}(hc:c<=1000000):zf3 xs ys c=dS (mul xs) (mul ys) c:=by
 have key:∀n,n<=c->zaB (jN xs c) (jN ys c) n=dS (mul xs) (mul ys) n:=by
  intro n
  induction n with
  |zero=>intro _;rfl
  |succ n ih=>
   intro hn;have b1:=zr5 (Jd hx) (Jd hy) n;have b2:=zr5 (Jd hx) (Jd hy) (n+1);have h1:0<=(mul xs n:Int)*(mul ys n:Int):=Int.mul_nonneg (by omega) (by omega);have h2:(mul xs n:Int)*(mul ys n:Int)<=64*64:=Int.mul_le_mul (by have:=Jd hx n;omega) (by have:=Jd hy n;omega) (by omega) (by omega);simp only[dS]at b2;simp only[zaB,dS];rw[ih (by omega),zba,zba,js _ _ _ _ (by omega),js _ _ _ _ (by omega),W,W,zk (n:=(mul xs n:Int)*(mul ys n:Int)) (by omega) (by omega),zk (by omega) (by omega)]
 exact key c (zt _)
theorem zkz{M:Nat->Nat}(h:GoodM M)(t:Nat):(zmB M (t+1)= -1/\cd M (t+1) (t+1)=0/\prs M (t+1) (t+1)=[t])\/
 ∃a,a<t/\Zy M a (t+1)/\zmB M (t+1)=a/\cd M (t+1) (t+1)=((t+1:Nat):Int)-a/\prs M (t+1) (t+1)=[a,t]:=by
 have e:=zww h (i:=t+1) (j:=t+1) (by omega) (zt _);rcases zqT h t with⟨e1,e2⟩|⟨a,h1,h2,h3,h4⟩
 ·refine .inl ⟨e1,?_,e2⟩;rw[e,e2];rfl
 ·refine .inr ⟨a,h1,h2,h3,?_,h4⟩;rw[e,h4];rfl
section
variable {bs ms:List (List Int)}{P S Q:List Int}{R:Nat->List Int}
end
theorem zvx(m:Int):2*QH m=tw m:=by
 rw[QH,tw];rcases Int.emod_two_eq m with h|h
 ·obtain⟨k,rfl⟩:∃k,m=2*k:=⟨m/2,by omega⟩;rw[Int.mul_assoc,ZA _ (by omega)]
 ·obtain⟨k,rfl⟩:∃k,m=2*k+1:=⟨m/2,by omega⟩;rw[show(2*k+1)*(2*k+1-1)=2*((2*k+1)*k) by rw[show 2*k+1-1=2*k by omega,zdo (2*k+1) (2*k),Int.mul_assoc,zdo k],ZA _ (by omega)]
theorem zws(l:List Int):∀i,i<=l.length->2*kf (l.take i)=sg (fun q=>tw (l.getD q 0)) i
 |0,_=>by simp[kf,sg]
 |i+1,hi=>by
  rw[zrn l i (by omega),sg,<-zws l i (by omega),<-zvx];omega
theorem zAE(l:List Int):2*kf l=sg (fun q=>tw (l.getD q 0)) l.length:=by
 have:=zws l l.length (zt _)
 rwa [List.take_length]at this
theorem zwr{xs:List Int}{n:Nat}(hn:(zbk xs).length<=n):sg (fun j=>tw (mul xs j:Nat)) n=2*kf (jn xs):=by
 have e:(jn xs).length=(zbk xs).length:=by rw[zsy,JZ,List.length_map]
 rw[zAE,e,zys hn fun t h1 _=>?_]
 ·refine ZR fun t ht=>?_;have h2:=zb0 xs t;rw[zd,zg (by omega)]at h2 ⊢;simp only[Option.getD_some]at h2 ⊢;rw[h2]
 ·rw[mul,zd,List.getElem?_eq_none h1];rfl
def dlt(bs ms:List (List Int))(l:List Int):Int:=sg (fun t=>kf (jn (bs.getD (l.getD t 0).toNat []))+sg (fun u=>qz bs ms (l.getD t 0).toNat (l.getD u 0).toNat) t) l.length
def dlC(bs ms:List (List Int))(n:Nat):Int:=sg (fun i=>kf (jn (bs.getD i []))+sg (fun k=>qz bs ms i k) i) n
theorem ziU{bs ms:List (List Int)}(hc:CvP bs ms){i k:Nat}(hi:i<bs.length)(hk:k<bs.length):0<=qz bs ms i k/\qz bs ms i k<=819200:=by
 have h1:=(hc.tab.range hi hk)
 have h2:=zr5 (Jd (jz (hc.br i hi))) (Jd (jz (hc.br k hk))) (mm ms i k).toNat
 rw[qz,zcm (jz (hc.br i hi)) (jz (hc.br k hk)) (by omega)];omega
theorem zBu{bs ms:List (List Int)}(hc:CvP bs ms){i:Nat}(hi:i<bs.length){s:Int}(h0:0<=s)(h1:s<=100000000000):∀k,k<=i->dI bs ms i s k=s+sg (fun k=>qz bs ms i k) k/\0<=sg (fun k=>qz bs ms i k) k/\sg (fun k=>qz bs ms i k) k<=819200*k
 |0,_=>by simp[dI,sg]
 |k+1,hk=>by
  obtain⟨a1,a2,a3⟩:=zBu hc hi h0 h1 k (by omega);have h2:=ziU hc hi (k:=k) (by omega);have h6:=hc.n6;rw[dI,sg,a1,show W (s+sg (fun k=>qz bs ms i k) k+qz bs ms i k)=s+sg (fun k=>qz bs ms i k) k+qz bs ms i k from zk (by omega) (by omega)];omega
theorem ztY{bs ms:List (List Int)}(hc:CvP bs ms):∀n,n<=bs.length->dOC bs ms n=dlC bs ms n/\0<=dlC bs ms n/\dlC bs ms n<=1000000000*n
 |0,_=>by simp[dOC,dlC,sg]
 |n+1,hn=>by
  obtain⟨a1,a2,a3⟩:=ztY hc n (by omega);have hb:=jz (hc.br n (by omega));have h1:=zid _ (zsz hb);have h2:=ziB hb;have h6:=hc.n6;have e1:W (dOC bs ms n+kf (jn (bs.getD n [])))=dlC bs ms n+kf (jn (bs.getD n [])):=by rw[a1];exact zk (by omega) (by omega)
  obtain⟨b1,b2,b3⟩:=zBu hc (i:=n) (by omega) (s:=dlC bs ms n+kf (jn (bs.getD n []))) (by omega) (by omega) n (zt _);have e2:dlC bs ms (n+1)=dlC bs ms n+(kf (jn (bs.getD n []))+sg (fun k=>qz bs ms n k) n):=rfl;rw[dOC,e1,b1,e2];omega
end Go.Ax
