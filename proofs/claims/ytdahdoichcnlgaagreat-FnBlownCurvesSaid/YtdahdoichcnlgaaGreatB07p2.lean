import Derived.Test.YtdahdoichcnlgaaGreatB06p2
import Derived.Test.YtdahdoichcnlgaaGreatB01p2
import Derived.Test.YtdahdoichcnlgaaGreatB03p2
import Derived.Test.YtdahdoichcnlgaaGreatB04p2
import Derived.Test.YtdahdoichcnlgaaGreatB05p2
set_option linter.all false
set_option maxRecDepth 100000
set_option maxHeartbeats 1000000
open Int renaming le_refl->qJ,mul_assoc->QV,mul_le_mul_of_nonneg_left->yD,mul_le_mul_of_nonneg_right->jA,mul_nonneg->qk
open List renaming getD_eq_getElem?_getD->zd,getElem?_set_self->kD,length_cons->zi,length_nil->zq
open Nat renaming add_sub_cancel->yQ,le_of_ble_eq_true->ze,min_eq_left->zdk
open Option.some renaming injEq->za
open Prod.mk renaming injEq->zb
/-
 Words of branches:the numbers with the two divisors through each point,and how they go on. No conditions but those of the theorems.
-/
namespace Go.Ax
open Go.Proofs
structure WSt where
 r:Nat
 q:Nat
 sat:Bool
 a:Nat
 fl:Bool
def Kp(s:WSt)(m:Nat):Nat:=if s.sat=true then(if s.q<s.r then 1 else if s.r<s.q then 2 else 0)else(if m<s.r then 1 else 0)
def YV(p:Nat)(s:WSt)(m:Nat):WSt:=
 if Kp s m=1 then⟨s.r-m,m,true,if s.sat=true/\s.fl=true then s.a else p-1,true⟩
 else if Kp s m=2 then⟨m,s.q-m,true,if s.fl=true then p-1 else s.a,false⟩
 else⟨m,0,false,0,false⟩
def kL(M:Nat->Nat):Nat->WSt
 |0=>⟨M 0,0,false,0,false⟩
 |p+1=>YV (p+1) (kL M p) (M (p+1))
structure WIn (M:Nat->Nat) (p:Nat) (s:WSt):Prop where
 ns:s.sat=false->s.r=M (p-1)/\s.q=0/\s.a=0/\s.fl=false/\∀a,a+1<p->¬Zy M a p
 ys:s.sat=true->s.a+1<p/\Zy M s.a p/\(s.fl=true->s.r+qE M s.a (p-1-s.a)=M s.a/\s.q=M (p-1))/\(s.fl=false->s.q+qE M s.a (p-1-s.a)=M s.a/\s.r=M (p-1))
theorem zsm(M:Nat->Nat)(a:Nat):qE M a 1=M (a+1):=by
 show 0+M (a+1+0)=_;rw[Nat.zero_add]
theorem zsS{M:Nat->Nat}(h:GoodM M)(p:Nat):Zy M p (p+2)↔M (p+1)<M p:=by
 obtain⟨k,h1,hk⟩:=zoa h p;have h2:=zsm M p;have h3:=h.fall p;rw[zmM h hk (by omega)];constructor
 ·intro h4;have:=QY h p (k:=1) (k':=k) (by omega);omega
 ·intro h4;by_cases e:k=1
  ·rw[e]at hk;omega
  ·omega
theorem zey{M:Nat->Nat}(h:GoodM M){a p o:Nat}(ha:a+1<p)(hp:Zy M a p)(ho:o+qE M a (p-1-a)=M a):M p<=o/\qE M a (p-a)=qE M a (p-1-a)+M p/\(Zy M a (p+1)↔M p<o):=by
 obtain⟨k,h1,hk⟩:=zoa h a
 have e:qE M a (p-a)=qE M a (p-1-a)+M p:=by
  have e1:p-a=(p-1-a)+1:=by omega
  have e2:qE M a ((p-1-a)+1)=qE M a (p-1-a)+M (a+1+(p-1-a)):=rfl;rw[e1,e2,show a+1+(p-1-a)=p by omega]
 have hp':qE M a (p-a)<=M a:=hp;refine⟨by omega,e,?_⟩;have h2:=(zmM h hk (show a<p by omega)).1 hp;rw[zmM h hk (by omega)];constructor
 ·intro h3;have:=QY h a (k:=p-a) (k':=k) (by omega);omega
 ·intro h3;by_cases e3:p-a=k
  ·rw[<-e3]at hk;omega
  ·omega
theorem WIn.start(M:Nat->Nat):WIn M 1 (kL M 0):=⟨fun _=>⟨rfl,rfl,rfl,rfl,fun a ha=>by omega⟩,fun h=>by simp[kL]at h⟩
theorem WIn.least{M:Nat->Nat}(h:GoodM M){p:Nat}{s:WSt}(hw:WIn M p s)(hp:1<=p):(s.sat=true->M p=min s.r s.q)/\(s.sat=false->M p<=s.r)/\1<=M p:=by
 have hf:=h.fall (p-1);rw[show p-1+1=p by omega]at hf;refine⟨fun hs=>?_,fun hs=>by have:=(hw.ns hs).1;omega,h.pos p⟩;obtain⟨h1,h2,h3,h4⟩:=hw.ys hs
 have key:∀o,o+qE M s.a (p-1-s.a)=M s.a->M p=min o (M (p-1)):=fun o ho=>by
  obtain⟨k1,k2,k3⟩:=zey h h1 h2 ho;by_cases e:M p<M (p-1)
  ·have h5:=(zsS h (p-1)).2 (by rw[show p-1+1=p by omega];exact e);rw[show p-1+2=p+1 by omega]at h5;have h6:¬Zy M s.a (p+1):=fun h7=>zaq h (i:=s.a) (i':=p-1) (j:=p+1) (by omega) (by omega) h7 h5;have h8:¬M p<o:=fun h9=>h6 (k3.2 h9);have e2:M p=o:=(by omega);rw[<-e2];exact(zdk (by omega)).symm
  ·have e2:M p=M (p-1):=(by omega);rw[<-e2];exact(Nat.min_eq_right k1).symm
 cases hfl:s.fl with
 |true=>
  obtain⟨e1,e2⟩:=h3 hfl;rw[e2];exact key _ e1
 |false=>
  obtain⟨e1,e2⟩:=h4 hfl;rw[e2,Nat.min_comm];exact key _ e1
theorem YM(s:WSt)(m:Nat):Kp s m=0\/Kp s m=1\/Kp s m=2:=by
 unfold Kp;split<;>split
 ·exact .inr (.inl rfl)
 ·split
  ·exact .inr (.inr rfl)
  ·exact .inl rfl
 ·exact .inr (.inl rfl)
 ·exact .inl rfl
theorem WIn.ty{M:Nat->Nat}(h:GoodM M){p:Nat}{s:WSt}(hw:WIn M p s)(hp:1<=p):
 (Kp s (M p)=1->M p<s.r/\(s.sat=true->s.q=M p))/\(Kp s (M p)=2->s.sat=true/\M p<s.q/\s.r=M p)/\(Kp s (M p)=0->s.r=M p/\(s.sat=true->s.q=M p))/\(s.sat=false->s.q=0):=by
 obtain⟨h1,h2,h3⟩:=hw.least h hp;refine⟨fun h4=>?_,fun h4=>?_,fun h4=>?_,fun hs=>(hw.ns hs).2.1⟩
 ·unfold Kp at h4;split at h4
  ·rename_i hs;have h5:=h1 hs;split at h4
   ·rename_i h6;rw[h5];have:min s.r s.q=s.q:=Nat.min_eq_right (by omega);rw[this];exact⟨h6,fun _=>rfl⟩
   ·split at h4<;>omega
  ·rename_i hs;split at h4
   ·rename_i h6;exact⟨h6,fun hs2=>absurd hs2 hs⟩
   ·omega
 ·unfold Kp at h4;split at h4
  ·rename_i hs;have h5:=h1 hs;split at h4
   ·omega
   ·split at h4
    ·rename_i h6;have:min s.r s.q=s.r:=zdk (by omega);rw[h5,this];exact⟨hs,h6,rfl⟩
    ·omega
  ·split at h4<;>omega
 ·unfold Kp at h4;split at h4
  ·rename_i hs;have h5:=h1 hs;split at h4
   ·omega
   ·split at h4
    ·omega
    ·have e:s.r=s.q:=(by omega);have:min s.r s.q=s.r:=zdk (by omega);rw[h5,this];exact⟨rfl,fun _=>e.symm⟩
  ·rename_i hs;have hs':s.sat=false:=(by simpa using hs);have:=h2 hs';split at h4
   ·omega
   ·exact⟨by omega,fun hs2=>absurd hs2 hs⟩
theorem WIn.next{M:Nat->Nat}(h:GoodM M){p:Nat}{s:WSt}(hw:WIn M p s)(hp:1<=p):WIn M (p+1) (YV p s (M p)):=by
 obtain⟨m1,m2,m3⟩:=hw.least h hp;obtain⟨t1,t2,t0,t4⟩:=hw.ty h hp;have hf:=h.fall (p-1);rw[show p-1+1=p by omega]at hf
 have hpt:Zy M (p-1) (p+1)↔M p<M (p-1):=by
  have:=zsS h (p-1)
  rwa [show p-1+2=p+1 by omega,show p-1+1=p by omega]at this
 have hs1:qE M (p-1) (p-(p-1))=M p:=by rw[show p-(p-1)=1 by omega,zsm,show p-1+1=p by omega]
 have hfree:(s.sat=true->¬Zy M s.a (p+1))->¬Zy M (p-1) (p+1)->∀b,b+1<p+1->¬Zy M b (p+1):=fun k1 k2 b hb hpb=>by
  by_cases e:b=p-1
  ·rw[e]at hpb;exact k2 hpb
  ·have h5:=zyF h (a:=b) (j:=p) (j':=p+1) (by omega) (by omega) hpb
   cases hs:s.sat with
   |false=>exact(hw.ns hs).2.2.2.2 b (by omega) h5
   |true=>
    obtain⟨y1,y2,_⟩:=hw.ys hs;by_cases e2:b=s.a
    ·rw[e2]at hpb;exact k1 hs hpb
    ·rcases Nat.lt_or_ge b s.a with h6|h6
     ·exact zaq h h6 (by omega) h5 y2
     ·exact zaq h (i:=s.a) (i':=b) (by omega) (by omega) y2 h5
 rcases YM s (M p)with e|e|e
 ·
   have hn:YV p s (M p)=⟨M p,0,false,0,false⟩:=(by rw[YV,if_neg (by omega),if_neg (by omega)]);rw[hn];obtain⟨e1,e2⟩:=t0 e;refine⟨fun _=>⟨by rw[yQ],rfl,rfl,rfl,hfree (fun hs=>?_) ?_⟩,fun hs=>by simp at hs⟩
   ·obtain⟨y1,y2,y3,y4⟩:=hw.ys hs;have e3:=e2 hs
    cases hfl:s.fl with
    |true=>
     obtain⟨z1,z2⟩:=y3 hfl;rw[(zey h y1 y2 z1).2.2];omega
    |false=>
     obtain⟨z1,z2⟩:=y4 hfl;rw[(zey h y1 y2 z1).2.2];omega
   ·rw[hpt]
    cases hs:s.sat with
    |false=>have:=(hw.ns hs).1;omega
    |true=>
     obtain⟨y1,y2,y3,y4⟩:=hw.ys hs;have e3:=e2 hs
     cases hfl:s.fl with
     |true=>have:=y3 hfl;omega
     |false=>have:=y4 hfl;omega
 ·
   have hn:YV p s (M p)=⟨s.r-M p,M p,true,if s.sat=true/\s.fl=true then s.a else p-1,true⟩:=(by rw[YV,if_pos e]);rw[hn];obtain⟨e1,e2⟩:=t1 e;refine⟨fun hs=>by simp at hs,fun _=>?_⟩;simp only;by_cases hb:s.sat=true/\s.fl=true
   ·rw[if_pos hb];obtain⟨y1,y2,y3,y4⟩:=hw.ys hb.1;obtain⟨z1,z2⟩:=y3 hb.2;obtain⟨k1,k2,k3⟩:=zey h y1 y2 z1;refine⟨by omega,k3.2 e1,fun _=>⟨?_,by rw[yQ]⟩,fun hx=>by simp at hx⟩;rw[show p+1-1-s.a=p-s.a by omega,k2];omega
   ·rw[if_neg hb]
    have hr:s.r=M (p-1):=by
     cases hs:s.sat with
     |false=>exact(hw.ns hs).1
     |true=>
      have hfl:s.fl=false:=by
       cases hfl:s.fl with
       |false=>rfl
       |true=>exact absurd ⟨hs,hfl⟩ hb
      exact((hw.ys hs).2.2.2 hfl).2
    refine⟨by omega,hpt.2 (by omega),fun _=>⟨?_,by rw[yQ]⟩,fun hx=>by simp at hx⟩;rw[show p+1-1-(p-1)=p-(p-1) by omega,hs1];omega
 ·
   have hn:YV p s (M p)=⟨M p,s.q-M p,true,if s.fl=true then p-1 else s.a,false⟩:=(by rw[YV,if_neg (by omega),if_pos e]);rw[hn];obtain⟨e0,e1,e2⟩:=t2 e;obtain⟨y1,y2,y3,y4⟩:=hw.ys e0;refine⟨fun hs=>by simp at hs,fun _=>?_⟩;simp only
   cases hfl:s.fl with
   |true=>
    obtain⟨z1,z2⟩:=y3 hfl;rw[if_pos rfl];refine⟨by omega,hpt.2 (by omega),fun hx=>by simp at hx,fun _=>⟨?_,by rw[yQ]⟩⟩;rw[show p+1-1-(p-1)=p-(p-1) by omega,hs1];omega
   |false=>
    obtain⟨z1,z2⟩:=y4 hfl;rw[if_neg (by simp)];obtain⟨k1,k2,k3⟩:=zey h y1 y2 z1;refine⟨by omega,k3.2 e1,fun hx=>by simp at hx,fun _=>⟨?_,by rw[yQ]⟩⟩;rw[show p+1-1-s.a=p-s.a by omega,k2];omega
theorem zep{M:Nat->Nat}(h:GoodM M):∀p,WIn M (p+1) (kL M p)
 |0=>WIn.start M
 |p+1=>(zep h p).next h (by omega)
theorem WIn.code{M:Nat->Nat}(h:GoodM M){p:Nat}{s:WSt}(hw:WIn M (p+1) s):cd M (p+1) (p+1)=if s.sat=true then((p+1:Nat):Int)-s.a else 0:=by
 cases hs:s.sat with
 |false=>
  rw[if_neg (by simp)];rcases zkz h p with⟨_,e,_⟩|⟨a,a1,a2,_,_,_⟩
  ·exact e
  ·exact absurd a2 ((hw.ns hs).2.2.2.2 a (by omega))
 |true=>
  rw[if_pos rfl];obtain⟨y1,y2,_⟩:=hw.ys hs;have e0:=zla h (a:=s.a) (j:=p) (by omega) y2;rcases zkz h p with⟨e,_,_⟩|⟨a,a1,a2,a3,a4,_⟩
  ·omega
  ·rw[a4];omega
structure WLike (s t:WSt):Prop where
 sat:s.sat=t.sat
 a:s.a=t.a
 fl:s.fl=t.fl
theorem WIn.likeNext{M N:Nat->Nat}(hM:GoodM M)(hN:GoodM N){p:Nat}(hp:1<=p){s t:WSt}(hs:WIn M p s)(ht:WIn N p t)(hl:WLike s t):
 (cd M (p+1) (p+1)=cd N (p+1) (p+1)->Kp s (M p)=Kp t (N p)/\WLike (YV p s (M p)) (YV p t (N p)))/\
 ((cd M (p+1) (p+1)≠cd N (p+1) (p+1)\/cd M (p+1) (p+1)=0)->Kp s (M p)=Kp t (N p)->Kp s (M p)=0):=by
 have hs':=hs.next hM hp;have ht':=ht.next hN hp;have c1:=hs'.code hM;have c2:=ht'.code hN;obtain⟨l1,l2,l3⟩:=hl
 have nx:∀(z:WSt) (m:Nat),(Kp z m=0->(YV p z m).sat=false/\(YV p z m).a=0/\(YV p z m).fl=false)/\(Kp z m=1->(YV p z m).sat=true/\(YV p z m).a=(if z.sat=true/\z.fl=true then z.a else p-1)/\(YV p z m).fl=true)/\
  (Kp z m=2->(YV p z m).sat=true/\(YV p z m).a=(if z.fl=true then p-1 else z.a)/\(YV p z m).fl=false/\z.sat=true):=fun z m=>by
  refine⟨fun e=>?_,fun e=>?_,fun e=>?_⟩
  ·rw[YV,if_neg (by omega),if_neg (by omega)];exact⟨rfl,rfl,rfl⟩
  ·rw[YV,if_pos e];exact⟨rfl,rfl,rfl⟩
  ·rw[YV,if_neg (by omega),if_pos e];refine⟨rfl,rfl,rfl,?_⟩;unfold Kp at e;split at e
   ·assumption
   ·split at e<;>omega
 obtain⟨s0,s1,s2⟩:=nx s (M p);obtain⟨t0,t1,t2⟩:=nx t (N p)
 have hlike:Kp s (M p)=Kp t (N p)->WLike (YV p s (M p)) (YV p t (N p)):=fun e=>by
  rcases YM s (M p)with e1|e1|e1
  ·obtain⟨a1,a2,a3⟩:=s0 e1;obtain⟨b1,b2,b3⟩:=t0 (by omega);exact⟨by rw[a1,b1],by rw[a2,b2],by rw[a3,b3]⟩
  ·obtain⟨a1,a2,a3⟩:=s1 e1;obtain⟨b1,b2,b3⟩:=t1 (by omega);exact⟨by rw[a1,b1],by rw[a2,b2,l1,l2,l3],by rw[a3,b3]⟩
  ·obtain⟨a1,a2,a3,_⟩:=s2 e1;obtain⟨b1,b2,b3,_⟩:=t2 (by omega);exact⟨by rw[a1,b1],by rw[a2,b2,l2,l3],by rw[a3,b3]⟩
 have hmix:∀(x y:WSt),x.sat=true->y.sat=true->x.a=y.a->x.fl=y.fl->x.a+1<p->(if x.sat=true/\x.fl=true then x.a else p-1)≠(if y.fl=true then p-1 else y.a):=by
  intro x y hx hy ha hfl hlt;rw[<-hfl,<-ha]
  cases x.fl with
  |true=>rw[if_pos ⟨hx,rfl⟩,if_pos rfl];omega
  |false=>rw[if_neg (by simp),if_neg (by simp)];omega
 refine⟨fun hcd=>?_,fun hsep e=>?_⟩
 ·have e:Kp s (M p)=Kp t (N p):=by
   have hcc:=hcd;rw[c1,c2]at hcc;have hps:=fun(z:WSt) (hz:WIn M (p+1) z) (hh:z.sat=true)=>(hz.ys hh).1;have hpt:=fun(z:WSt) (hz:WIn N (p+1) z) (hh:z.sat=true)=>(hz.ys hh).1;rcases YM s (M p)with e1|e1|e1<;>rcases YM t (N p)with e2|e2|e2
   ·omega
   ·exfalso;obtain⟨a1,_⟩:=s0 e1;obtain⟨b1,_⟩:=t1 e2;have:=hpt _ ht' b1;rw[a1,b1,if_neg (by simp),if_pos rfl]at hcc;omega
   ·exfalso;obtain⟨a1,_⟩:=s0 e1;obtain⟨b1,_⟩:=t2 e2;have:=hpt _ ht' b1;rw[a1,b1,if_neg (by simp),if_pos rfl]at hcc;omega
   ·exfalso;obtain⟨a1,_⟩:=s1 e1;obtain⟨b1,_⟩:=t0 e2;have:=hps _ hs' a1;rw[a1,b1,if_pos rfl,if_neg (by simp)]at hcc;omega
   ·omega
   ·exfalso;obtain⟨a1,a2,_⟩:=s1 e1;obtain⟨b1,b2,_,b4⟩:=t2 e2;have hlt:=(ht.ys b4).1;rw[a1,b1,if_pos rfl,if_pos rfl,a2,b2]at hcc;exact hmix s t (by rw[l1];exact b4) b4 l2 l3 (by rw[l2];exact hlt) (by omega)
   ·exfalso;obtain⟨a1,_⟩:=s2 e1;obtain⟨b1,_⟩:=t0 e2;have:=hps _ hs' a1;rw[a1,b1,if_pos rfl,if_neg (by simp)]at hcc;omega
   ·exfalso;obtain⟨a1,a2,_,a4⟩:=s2 e1;obtain⟨b1,b2,_⟩:=t1 e2;have hlt:=(hs.ys a4).1;rw[a1,b1,if_pos rfl,if_pos rfl,a2,b2]at hcc;exact hmix t s (by rw[<-l1];exact a4) a4 l2.symm l3.symm (by rw[<-l2];exact hlt) (by omega)
   ·omega
  exact⟨e,hlike e⟩
 ·refine Classical.byContradiction fun h0=>?_;have hk:=hlike e
  have hsat:(YV p s (M p)).sat=true:=by
   rcases YM s (M p)with e1|e1|e1
   ·exact absurd e1 h0
   ·exact(s1 e1).1
   ·exact(s2 e1).1
  have hlt:=(hs'.ys hsat).1;rcases hsep with h1|h1
  ·refine h1 ?_;rw[c1,c2,hk.sat,hk.a]
  ·rw[c1,hsat,if_pos rfl]at h1;omega
def tl(M N:Nat->Nat):Nat->Nat->Int
 |_,0=>0
 |p,n+1=>(M p:Int)*N p+tl M N (p+1) n
theorem zrM(M N:Nat->Nat):∀n p,0<=tl M N p n
 |0,_=>qJ _
 |n+1,p=>by
  have h1:=zrM M N n (p+1);have h2:0<=(M p:Int)*(N p:Int):=qk (by omega) (by omega);rw[tl];omega
theorem zxY(M N:Nat->Nat):∀n p,dS M N (p+n)=dS M N p+tl M N p n
 |0,p=>by rw[tl,Nat.add_zero,Int.add_zero]
 |n+1,p=>by
  rw[show p+(n+1)=p+1+n by omega,zxY M N n (p+1),tl,dS];omega
structure ShrP (M N:Nat->Nat) (c:Nat):Prop where
 c1:1<=c
 eq:∀t,1<=t->t<c->cd M t t=cd N t t
 ne:cd M c c≠cd N c c\/cd M c c=0
theorem ShrP.symm{M N:Nat->Nat}{c:Nat}(h:ShrP M N c):ShrP N M c:=
 ⟨h.c1,fun t h1 h2=>(h.eq t h1 h2).symm,by
  have:=h.ne;by_cases e:cd M c c=cd N c c
  ·rw[<-e];exact .inr (this.resolve_left (fun h=>h e))
  ·exact .inl fun h=>e h.symm⟩
theorem Js{M N:Nat->Nat}(hM:GoodM M)(hN:GoodM N):∀p,(∀t,1<=t->t<=p+1->cd M t t=cd N t t)->WLike (kL M p) (kL N p)
 |0,_=>⟨rfl,rfl,rfl⟩
 |p+1,h=>by
  have ih:=Js hM hN p fun t h1 h2=>h t h1 (by omega)
  exact((zep hM p).likeNext hM hN (by omega) (zep hN p) ih).1 (h (p+1+1) (by omega) (Nat.le_refl _))|>.2
def YU(M:Nat->Nat)(p:Nat):Nat:=Kp (kL M p) (M (p+1))
theorem zix{M N:Nat->Nat}(hM:GoodM M)(hN:GoodM N){c p:Nat}(h:ShrP M N c)(hp:p+2<c):YU M p=YU N p:=
 ((zep hM p).likeNext hM hN (by omega) (zep hN p) (Js hM hN p fun t h1 h2=>h.eq t h1 (by omega))).1 (h.eq (p+1+1) (by omega) (by omega))|>.1
theorem zo6{M N:Nat->Nat}(hM:GoodM M)(hN:GoodM N){c p:Nat}(h:ShrP M N c)(hp:p+2=c):YU M p=YU N p->YU M p=0:=
 ((zep hM p).likeNext hM hN (by omega) (zep hN p) (Js hM hN p fun t h1 h2=>h.eq t h1 (by omega))).2 (by
   have:=h.ne;rw[<-hp]at this
   exact this)
theorem zsf(M:Nat->Nat)(p:Nat):(YU M p=1->kL M (p+1)=⟨(kL M p).r-M (p+1),M (p+1),true,if(kL M p).sat=true/\(kL M p).fl=true then(kL M p).a else p+1-1,true⟩)/\
 (YU M p=2->kL M (p+1)=⟨M (p+1),(kL M p).q-M (p+1),true,if(kL M p).fl=true then p+1-1 else(kL M p).a,false⟩)/\(YU M p=0->kL M (p+1)=⟨M (p+1),0,false,0,false⟩):=by
 refine⟨fun e=>?_,fun e=>?_,fun e=>?_⟩<;>rw[YU]at e
 ·show YV (p+1) (kL M p) (M (p+1))=_;rw[YV,if_pos e]
 ·show YV (p+1) (kL M p) (M (p+1))=_;rw[YV,if_neg (by omega),if_pos e]
 ·show YV (p+1) (kL M p) (M (p+1))=_;rw[YV,if_neg (by omega),if_neg (by omega)]
structure Nums (M:Nat->Nat) (p:Nat) (r q m:Int):Prop where
 er:r=(kL M p).r
 eq:q=(kL M p).q
 em:m=M (p+1)
 m1:1<=m
 mr:m<=r
 q0:0<=q
 ty:(YU M p=0/\r=m)\/(YU M p=1/\m<r)\/(YU M p=2/\r=m/\m<q)
 s1:(kL M p).sat=true->(YU M p≠2->q=m)/\m<=q
 s0:(kL M p).sat=false->YU M p≠2/\q=0
theorem zhs{M:Nat->Nat}(h:GoodM M)(p:Nat):∃r q m,Nums M p r q m:=by
 have hw:=zep h p;obtain⟨t1,t2,t0,t4⟩:=hw.ty h (by omega);obtain⟨m1,m2,m3⟩:=hw.least h (by omega);have hm3:=h.pos (p+1);refine⟨(kL M p).r,(kL M p).q,M (p+1),rfl,rfl,rfl,by omega,?_,by omega,?_,fun hs=>⟨fun h2=>?_,?_⟩,fun hs=>⟨fun h2=>?_,?_⟩⟩
 ·rcases YM (kL M p) (M (p+1))with e|e|e
  ·have:=t0 e;omega
  ·have:=t1 e;omega
  ·have:=t2 e;omega
 ·rcases YM (kL M p) (M (p+1))with e|e|e
  ·have:=t0 e;exact .inl ⟨e,by omega⟩
  ·have:=t1 e;exact .inr (.inl ⟨e,by omega⟩)
  ·have:=t2 e;exact .inr (.inr ⟨e,by omega,by omega⟩)
 ·rcases YM (kL M p) (M (p+1))with e|e|e
  ·have:=(t0 e).2 hs;omega
  ·have:=(t1 e).2 hs;omega
  ·exact absurd e h2
 ·have:=m1 hs;have h5:min (kL M p).r (kL M p).q<=(kL M p).q:=Nat.min_le_right _ _;omega
 ·have:=(t2 h2).1;rw[hs]at this;cases this
 ·have:=t4 hs;omega
theorem Nums.next{M:Nat->Nat}{p:Nat}{r q m r' q' m':Int}(h:Nums M p r q m)(h':Nums M (p+1) r' q' m'):
 (YU M p=1->r'=r-m/\q'=m/\(kL M (p+1)).sat=true)/\(YU M p=2->r'=m/\q'=q-m/\(kL M (p+1)).sat=true)/\(YU M p=0->r'=m/\q'=0/\(kL M (p+1)).sat=false):=by
 obtain⟨n1,n2,n0⟩:=zsf M p;have e1:=h'.er;have e2:=h'.eq;have e3:=h.er;have e4:=h.eq;have e5:=h.em;have e6:=h.mr;have e7:=h.ty;refine⟨fun e=>?_,fun e=>?_,fun e=>?_⟩
 ·rw[n1 e]at e1 e2 ⊢;simp only at e1 e2;exact⟨by omega,by omega,rfl⟩
 ·rw[n2 e]at e1 e2 ⊢;simp only at e1 e2;exact⟨by omega,by omega,rfl⟩
 ·rw[n0 e]at e1 e2 ⊢;simp only at e1 e2;exact⟨by omega,by omega,rfl⟩
theorem zAk{M N:Nat->Nat}(hM:GoodM M)(hN:GoodM N){c:Nat}(hc:ShrP M N c):∀n p,p+1+(n+1)=c->(kL M p).sat=true->∀r q m r' q' m',Nums M p r q m->Nums N p r' q' m'->
 min (r*q') (q*r')<=tl M N (p+1) (n+1)/\(r*q'≠q*r'->tl M N (p+1) (n+1)=min (r*q') (q*r'))
 |n,p,hn,hs,r,q,m,r',q',m',h,h'=>by
  have hlk:=Js hM hN p fun t h1 h2=>hc.eq t h1 (by omega);have hs':(kL N p).sat=true:=by rw[<-hlk.sat];exact hs
  obtain⟨a1,a2⟩:=h.s1 hs;obtain⟨b1,b2⟩:=h'.s1 hs';have hm1:=h.m1;have hm1':=h'.m1;have htl:tl M N (p+1) (n+1)=m*m'+tl M N (p+1+1) n:=by rw[tl,h.em,h'.em]
  have hnn:=zrM M N n (p+1+1)
  cases n with
  |zero=>
   have hpt:=zo6 hM hN hc (p:=p) (by omega);rw[htl,tl];rcases h.ty with⟨t,e⟩|⟨t,e⟩|⟨t,e,e2⟩<;>rcases h'.ty with⟨u,f⟩|⟨u,f⟩|⟨u,f,f2⟩
   ·have:=a1 (by omega);have:=b1 (by omega);subst_vars;exact⟨by omega,fun hh=>absurd rfl hh⟩
   ·have:=a1 (by omega);have:=b1 (by omega)
    subst_vars
    have:m*m'<=m*r':=yD (by omega) (by omega);omega
   ·have:=a1 (by omega)
    subst_vars
    have:m*m'<=m*q':=yD (by omega) (by omega);omega
   ·have:=a1 (by omega);have:=b1 (by omega)
    subst_vars
    have:m*m'<=r*m':=jA (by omega) (by omega);omega
   ·have:=hpt (by omega);omega
   ·have:=a1 (by omega)
    subst_vars
    have h8:m*m'<=m*q':=yD (by omega) (by omega);have h9:m*q'<=r*q':=jA (by omega) (by omega);omega
   ·have:=b1 (by omega)
    subst_vars
    have:m*m'<=q*m':=jA (by omega) (by omega);omega
   ·have:=b1 (by omega)
    subst_vars
    have h8:m*m'<=q*m':=jA (by omega) (by omega);have h9:q*m'<=q*r':=yD (by omega) (by omega);omega
   ·have:=hpt (by omega);omega
  |succ n=>
   have hty:=zix hM hN hc (p:=p) (by omega);obtain⟨x,y,z,hx⟩:=zhs hM (p+1);obtain⟨x',y',z',hx'⟩:=zhs hN (p+1);obtain⟨n1,n2,n0⟩:=h.next hx;obtain⟨k1,k2,k0⟩:=h'.next hx';rw[htl];rcases h.ty with⟨t,e⟩|⟨t,e⟩|⟨t,e,e2⟩
   ·have f1:=a1 (by omega);have f2:=b1 (by omega)
    have f3:r'=m':=by rcases h'.ty with u|u|u<;>omega
    subst f1 f2 f3 e;exact⟨by omega,fun hh=>absurd rfl hh⟩
   ·obtain⟨g1,g2,g3⟩:=n1 t;obtain⟨l1,l2,_⟩:=k1 (by omega);have f1:=a1 (by omega);have f2:=b1 (by omega);obtain⟨i1,i2⟩:=zAk hM hN hc n (p+1) (by omega) g3 x y z x' y' z' hx hx';rw[g1,g2,l1,l2]at i1 i2;rw[f1,f2];have e3:r*m'=(r-m)*m'+m*m':=(by grind);have e4:m*r'=m*(r'-m')+m*m':=(by grind);omega
   ·obtain⟨g1,g2,g3⟩:=n2 t;obtain⟨l1,l2,_⟩:=k2 (by omega)
    have f3:r'=m':=by rcases h'.ty with u|u|u<;>omega
    obtain⟨i1,i2⟩:=zAk hM hN hc n (p+1) (by omega) g3 x y z x' y' z' hx hx';rw[g1,g2,l1,l2]at i1 i2;rw[e,f3];have e3:m*q'=m*(q'-m')+m*m':=(by grind);have e4:q*m'=(q-m)*m'+m*m':=(by grind);omega
structure KS where
 w:Int
 u:Int
 v:Int
 g:Int
 al:Int
 be:Int
def kn(T:Nat)(k:KS):KS:=
 if T=1 then⟨k.w,k.u,k.v,k.g,k.al,k.al+k.be⟩
 else if T=2 then⟨k.w*(k.al+k.be),k.u*k.al,k.u+k.v*(k.al+k.be),k.g,k.al+k.be,k.be⟩
 else⟨k.w,k.u*k.al,k.u*(k.al+k.be)+k.v*((k.al+k.be)*(k.al+k.be)),k.g*(k.al+k.be),1,0⟩
structure KOk (k:KS) (sat:Bool):Prop where
 w:1<=k.w
 u:1<=k.u
 v:0<=k.v
 g:1<=k.g
 al:1<=k.al
 be:0<=k.be
 b0:sat=false->k.be=0
theorem zfs{a b:Int}(ha:1<=a)(hb:1<=b):1<=a*b:=by
 have:=Int.mul_le_mul ha hb (by omega) (by omega);omega
theorem KOk.next{k:KS}{sat:Bool}(h:KOk k sat){T:Nat}{sat':Bool}(hs:(T=0\/T=1\/T=2)/\(T≠0->sat'=true)):KOk (kn T k) sat':=by
 obtain⟨w,u,v,g,al,be,_⟩:=h;unfold kn;split
 ·rename_i e;exact⟨w,u,v,g,al,by simp only;omega,fun h0=>by rw[hs.2 (by omega)]at h0;cases h0⟩
 ·split
  ·rename_i e;have h1:=zfs w (show 1<=k.al+k.be by omega);have h2:=zfs u al;have h3:=qk v (show 0<=k.al+k.be by omega);exact⟨h1,h2,by simp only;omega,g,by simp only;omega,be,fun h0=>by rw[hs.2 (by omega)]at h0;cases h0⟩
  ·have h2:=zfs u al;have h3:=zfs u (show 1<=k.al+k.be by omega);have h4:=qk v (show 0<=(k.al+k.be)*(k.al+k.be)from qk (by omega) (by omega));have h5:=zfs g (show 1<=k.al+k.be by omega);exact⟨w,h2,by simp only;omega,h5,qJ _,qJ _,fun _=>rfl⟩
def zni(k:KS)(M:Nat->Nat)(p:Nat):Prop:=∀r q m,Nums M p r q m->(M 0:Int)=k.g*(k.al*r+k.be*q)
def znj(k:KS)(M N:Nat->Nat)(p n:Nat):Prop:=∀r q m r' q' m',Nums M p r q m->Nums N p r' q' m'->
 k.w*dS M N (p+1+n)=k.u*(k.al*tl M N (p+1) n+k.be*(q*q'))+k.v*((k.al*r+k.be*q)*(k.al*r'+k.be*q'))
theorem zni.next{k:KS}{M:Nat->Nat}(hM:GoodM M){p:Nat}(hk:KOk k (kL M p).sat)(h:zni k M p):zni (kn (YU M p) k) M (p+1):=by
 intro r' q' m' h';obtain⟨r,q,m,h0⟩:=zhs hM p;have e:=h r q m h0;obtain⟨n1,n2,n0⟩:=h0.next h'
 have hbq:YU M p≠2->k.be*q=k.be*m:=fun h2=>by
  cases hs:(kL M p).sat with
  |true=>rw[(h0.s1 hs).1 h2]
  |false=>rw[hk.b0 hs,Int.zero_mul,Int.zero_mul]
 rw[e];rcases h0.ty with⟨t,x⟩|⟨t,x⟩|⟨t,x,_⟩
 ·obtain⟨y1,y2,_⟩:=n0 t;have hb:=hbq (by omega);rw[t,kn,if_neg (by decide),if_neg (by decide)];simp only;rw[y1,y2,x];grind
 ·obtain⟨y1,y2,_⟩:=n1 t;have hb:=hbq (by omega);rw[t,kn,if_pos rfl];simp only;rw[y1,y2];grind
 ·obtain⟨y1,y2,_⟩:=n2 t;rw[t,kn,if_neg (by decide),if_pos rfl];simp only;rw[y1,y2,x];grind
theorem znj.next{k:KS}{M N:Nat->Nat}(hM:GoodM M)(hN:GoodM N){p n:Nat}(hk:KOk k (kL M p).sat)(hl:WLike (kL M p) (kL N p))(ht:YU M p=YU N p)(h:znj k M N p (n+1)):znj (kn (YU M p) k) M N (p+1) n:=by
 intro r' q' m' s' x' l' h' hx';obtain⟨r,q,m,h0⟩:=zhs hM p;obtain⟨s,x,l,hx⟩:=zhs hN p;have e:=h r q m s x l h0 hx;obtain⟨n1,n2,n0⟩:=h0.next h';obtain⟨k1,k2,k0⟩:=hx.next hx';have htl:tl M N (p+1) (n+1)=m*l+tl M N (p+1+1) n:=by rw[tl,h0.em,hx.em]
 rw[htl,show p+1+(n+1)=p+1+1+n by omega]at e;generalize tl M N (p+1+1) n=z at e ⊢;generalize dS M N (p+1+1+n)=d at e ⊢;rcases h0.ty with⟨t,o⟩|⟨t,o⟩|⟨t,o,_⟩
 ·obtain⟨y1,y2,_⟩:=n0 t;obtain⟨y3,y4,_⟩:=k0 (by omega)
  have o':s=l:=by rcases hx.ty with c|c|c<;>omega
  rw[t,kn,if_neg (by decide),if_neg (by decide)];simp only;rw[y1,y2,y3,y4]
  cases hs:(kL M p).sat with
  |true=>
   have f1:=(h0.s1 hs).1 (by omega);have f2:=(hx.s1 (by rw[<-hl.sat];exact hs)).1 (by omega);rw[o,o',f1,f2]at e;rw[e];grind
  |false=>
   have hb:=hk.b0 hs;rw[o,o',hb]at e;rw[e,hb];grind
 ·obtain⟨y1,y2,_⟩:=n1 t;obtain⟨y3,y4,_⟩:=k1 (by omega);rw[t,kn,if_pos rfl];simp only;rw[y1,y2,y3,y4]
  cases hs:(kL M p).sat with
  |true=>
   have f1:=(h0.s1 hs).1 (by omega);have f2:=(hx.s1 (by rw[<-hl.sat];exact hs)).1 (by omega);rw[f1,f2]at e;rw[e];grind
  |false=>
   have hb:=hk.b0 hs;rw[hb]at e;rw[e,hb];grind
 ·obtain⟨y1,y2,_⟩:=n2 t;obtain⟨y3,y4,_⟩:=k2 (by omega)
  have o':s=l:=by rcases hx.ty with c|c|c<;>omega
  rw[t,kn,if_neg (by decide),if_pos rfl];simp only;rw[y1,y2,y3,y4];rw[o,o']at e;have e2:k.w*(k.al+k.be)*d=(k.al+k.be)*(k.w*d):=by grind
  rw[e2,e];grind
theorem zzq{M1 M2 M3:Nat->Nat}(h1:GoodM M1)(h2:GoodM M2)(h3:GoodM M3){a b c:Nat}(h12:ShrP M1 M2 a)(h23:ShrP M2 M3 b)(h13:ShrP M1 M3 c):∀p,p+1<a->p+1<b->p+1<c->
 ∃k,KOk k (kL M1 p).sat/\zni k M1 p/\zni k M2 p/\zni k M3 p/\znj k M1 M2 p (a-(p+1))/\znj k M2 M3 p (b-(p+1))/\znj k M1 M3 p (c-(p+1))
 |0,ha,hb,hc=>by
  have hS:∀M:Nat->Nat,zni ⟨1,1,1,1,1,0⟩ M 0:=fun M r q m h=>by
   have e:r=(M 0:Int):=h.er;simp only;omega
  have hP:∀(M N:Nat->Nat) (n:Nat),znj ⟨1,1,1,1,1,0⟩ M N 0 n:=fun M N n r q m r' q' m' h h'=>by
   have e:r=(M 0:Int):=h.er;have e':r'=(N 0:Int):=h'.er;have e2:=zxY M N n 1;have e3:dS M N 1=0+(M 0:Int)*N 0:=rfl;simp only;rw[show 0+1+n=1+n by omega,e2,e3,e,e'];grind
  exact⟨⟨1,1,1,1,1,0⟩,⟨qJ _,qJ _,by decide,qJ _,qJ _,qJ _,fun _=>rfl⟩,hS _,hS _,hS _,hP _ _ _,hP _ _ _,hP _ _ _⟩
 |p+1,ha,hb,hc=>by
  obtain⟨k,hk,s1,s2,s3,p12,p23,p13⟩:=zzq h1 h2 h3 h12 h23 h13 p (by omega) (by omega) (by omega);have l12:=Js h1 h2 p fun t x y=>h12.eq t x (by omega);have l13:=Js h1 h3 p fun t x y=>h13.eq t x (by omega);have l23:=Js h2 h3 p fun t x y=>h23.eq t x (by omega);have t12:=zix h1 h2 h12 (p:=p) (by omega);have t13:=zix h1 h3 h13 (p:=p) (by omega);have hk2:KOk k (kL M2 p).sat:=by rw[<-l12.sat];exact hk
  have hk3:KOk k (kL M3 p).sat:=by rw[<-l13.sat];exact hk
  have hsat:YU M1 p≠0->(kL M1 (p+1)).sat=true:=fun h0=>by
   obtain⟨n1,n2,_⟩:=zsf M1 p;rcases YM (kL M1 p) (M1 (p+1))with e|e|e
   ·exact absurd e h0
   ·rw[n1 e]
   ·rw[n2 e]
  have r1:=s1.next h1 hk;have r2:=s2.next h2 hk2;have r3:=s3.next h3 hk3;have e12:a-(p+1)=(a-(p+1+1))+1:=by omega
  have e23:b-(p+1)=(b-(p+1+1))+1:=by omega
  have e13:c-(p+1)=(c-(p+1+1))+1:=by omega
  rw[e12]at p12;rw[e23]at p23;rw[e13]at p13;have q12:=p12.next h1 h2 hk l12 t12;have q13:=p13.next h1 h3 hk l13 t13;have q23:=p23.next h2 h3 hk2 l23 (by omega);rw[<-t12]at r2 q23;rw[<-t13]at r3;exact⟨kn (YU M1 p) k,hk.next ⟨YM _ _,hsat⟩,r1,r2,r3,q12,q23,q13⟩
theorem zdD{M N:Nat->Nat}(hM:GoodM M)(hN:GoodM N){p:Nat}(h:ShrP M N (p+2)){k:KS}(hk:KOk k (kL M p).sat){r q m r' q' m':Int}(h0:Nums M p r q m)(hx:Nums N p r' q' m'):
 (k.al+k.be)*(k.al*tl M N (p+1) 1+k.be*(q*q'))=(k.al*m+k.be*q)*(k.al*m'+k.be*q')/\(r=m\/r'=m'):=by
 have hl:=Js hM hN p fun t x y=>h.eq t x (by omega);have hpt:=zo6 hM hN h (p:=p) rfl;have htl:tl M N (p+1) 1=m*m':=by rw[tl,tl,h0.em,hx.em];omega
 rw[htl];have a0:=h0.ty;have b0:=hx.ty;constructor
 ·cases hs:(kL M p).sat with
  |false=>
   rw[hk.b0 hs];grind
  |true=>
   have a1:=(h0.s1 hs).1;have b1:=(hx.s1 (by rw[<-hl.sat];exact hs)).1
   have hor:q=m\/q'=m':=by
    by_cases e:YU M p=2
    ·right;exact b1 fun e2=>by have:=hpt (by omega);omega
    ·left;exact a1 e
   rcases hor with e|e
   ·rw[e];grind
   ·rw[e];grind
 ·by_cases e:YU M p=1
  ·right;rcases b0 with u|u|u
   ·exact u.2
   ·have:=hpt (by omega);omega
   ·exact u.2.1
  ·left;rcases a0 with u|u|u
   ·exact u.2
   ·omega
   ·exact u.2.1
theorem zAa{M N:Nat->Nat}(hM:GoodM M)(hN:GoodM N){c p n:Nat}(h:ShrP M N c)(hc:c=p+1+(n+1+1)){k:KS}(hk:KOk k (kL M p).sat){r q m r' q' m':Int}(h0:Nums M p r q m)(hx:Nums N p r' q' m'):
 YU M p=YU N p/\
 (YU M p≠1->r=m/\r'=m'/\(k.al*m+k.be*q)*(k.al*m'+k.be*q')<=(k.al+k.be)*(k.al*tl M N (p+1) (n+1+1)+k.be*(q*q')))/\
 (YU M p=1->min ((k.al*m+k.be*q)*(k.al*r'+k.be*q')) ((k.al*r+k.be*q)*(k.al*m'+k.be*q'))<=(k.al+k.be)*(k.al*tl M N (p+1) (n+1+1)+k.be*(q*q'))/\
  ((k.al*m+k.be*q)*(k.al*r'+k.be*q')≠(k.al*r+k.be*q)*(k.al*m'+k.be*q')->
    (k.al+k.be)*(k.al*tl M N (p+1) (n+1+1)+k.be*(q*q'))=min ((k.al*m+k.be*q)*(k.al*r'+k.be*q')) ((k.al*r+k.be*q)*(k.al*m'+k.be*q')))):=by
 have hl:=Js hM hN p fun t x y=>h.eq t x (by omega);have hty:=zix hM hN h (p:=p) (by omega);have htl:tl M N (p+1) (n+1+1)=m*m'+tl M N (p+1+1) (n+1):=by rw[tl,h0.em,hx.em]
 have hnn:=zrM M N (n+1) (p+1+1);have hal:=hk.al;have hbe:=hk.be;rw[htl];obtain⟨x,y,z,hx1⟩:=zhs hM (p+1);obtain⟨x',y',z',hx2⟩:=zhs hN (p+1);refine⟨hty,fun e=>?_,fun e=>?_⟩
 ·have f1:r=m:=by rcases h0.ty with u|u|u<;>omega
  have f2:r'=m':=by rcases hx.ty with u|u|u<;>omega
  refine⟨f1,f2,?_⟩;have g1:0<=(k.al+k.be)*(k.al*tl M N (p+1+1) (n+1)):=qk (by omega) (qk (by omega) hnn);generalize tl M N (p+1+1) (n+1)=w at g1 ⊢
  have g2:0<=k.al*k.be*((q-m)*(q'-m')):=by
   cases hs:(kL M p).sat with
   |false=>rw[hk.b0 hs];simp
   |true=>
    have a1:=(h0.s1 hs).2;have b1:=(hx.s1 (by rw[<-hl.sat];exact hs)).2;exact qk (qk (by omega) (by omega)) (qk (by omega) (by omega))
  have g3:(k.al+k.be)*(k.al*(m*m'+w)+k.be*(q*q'))=(k.al*m+k.be*q)*(k.al*m'+k.be*q')+(k.al+k.be)*(k.al*w)+k.al*k.be*((q-m)*(q'-m')):=by grind
  omega
 ·obtain⟨n1,_,_⟩:=h0.next hx1;obtain⟨k1,_,_⟩:=hx.next hx2;obtain⟨y1,y2,y3⟩:=n1 e;obtain⟨y4,y5,_⟩:=k1 (by omega);obtain⟨i1,i2⟩:=zAk hM hN h n (p+1) (by omega) y3 x y z x' y' z' hx1 hx2;rw[y1,y2,y4,y5]at i1 i2;generalize tl M N (p+1+1) (n+1)=w at i1 i2 ⊢
  have hbq:k.be*q=k.be*m/\k.be*q'=k.be*m':=by
   cases hs:(kL M p).sat with
   |false=>rw[hk.b0 hs];simp
   |true=>rw[(h0.s1 hs).1 (by omega),(hx.s1 (by rw[<-hl.sat];exact hs)).1 (by omega)];exact⟨rfl,rfl⟩
  obtain⟨b1,b2⟩:=hbq
  have hqq:k.be*(q*q')=k.be*(m*m'):=by
   rw[<-QV,b1,QV,Int.mul_left_comm,b2,Int.mul_left_comm]
  rw[hqq,b1,b2];have hG:0<(k.al+k.be)*k.al:=by have:=zfs (show 1<=k.al+k.be by omega) hal;omega
  have e1:(k.al*m+k.be*m)*(k.al*r'+k.be*m')=(k.al+k.be)*k.al*(m*(r'-m'))+(k.al+k.be)*(k.al+k.be)*(m*m'):=by grind
  have e2:(k.al*r+k.be*m)*(k.al*m'+k.be*m')=(k.al+k.be)*k.al*((r-m)*m')+(k.al+k.be)*(k.al+k.be)*(m*m'):=by grind
  have e3:(k.al+k.be)*(k.al*(m*m'+w)+k.be*(m*m'))=(k.al+k.be)*k.al*w+(k.al+k.be)*(k.al+k.be)*(m*m'):=by grind
  rw[e1,e2,e3];generalize (k.al+k.be)*k.al=G at hG ⊢;generalize (r-m)*m'=A at i1 i2 ⊢;generalize m*(r'-m')=B at i1 i2 ⊢;have mono:∀{s t:Int},s<=t->G*s<=G*t:=fun h=>yD h (by omega);rcases Int.lt_trichotomy A B with hab|hab|hab
  ·have hw:=i2 (by omega);have h5:w=A:=(by omega);have h6:G*A<=G*B:=mono (by omega);rw[h5];omega
  ·have h5:A<=w:=(by omega);have h6:=mono h5;rw[<-hab];exact⟨by omega,fun hh=>absurd rfl hh⟩
  ·have hw:=i2 (by omega);have h5:w=B:=(by omega);have h6:G*B<=G*A:=mono (by omega);rw[h5];omega
theorem zCf{L1 L2 L3 T1 T2 T3:Int}(t1:0<=T1)(t2:0<=T2)(t3:0<=T3)(l1:T1<=L1)(l2:T2<=L2)(l3:T3<=L3)(h12:T1=L1\/T2=L2)(h23:T2=L2\/T3=L3)(h13:T1=L1\/T3=L3):
 T1*T2*L3<=T1*T3*L2\/T2*T3*L1<=T1*T3*L2:=by
 have key:∀{x y z:Int},0<=x->y<=z->x*y<=x*z:=fun hx h=>yD h hx;by_cases e1:T1=L1
 ·by_cases e3:T3=L3
  ·left;have:=key (x:=T1*T3) (qk t1 t3) l2;have e:T1*T2*L3=T1*T3*T2:=(by rw[e3];grind);omega
  ·have e2:=h23.resolve_right e3;right;have e:T2*T3*L1=T1*T3*L2:=(by rw[e1,e2];grind);omega
 ·have e2:=h12.resolve_left e1;have e3:=h13.resolve_left e1;left;have e:T1*T2*L3=T1*T3*L2:=by rw[e2,e3];grind
  omega
def ShN(L1 L2 T1 T2 L3 T3 Y:Int):Prop:=(T1=L1/\T2=L2/\T1*T2<=Y)\/(T3=L3/\min (T1*L2) (L1*T2)<=Y/\(T1*L2≠L1*T2->Y=min (T1*L2) (L1*T2)))
theorem zpG{x y z:Int}(hz:0<=z)(h:x<=y):x*z<=y*z:=jA h hz
theorem zDj{L1 L2 L3 T1 T2 T3 Y:Int}(t1:0<=T1)(l1:T1<=L1)(l2:T2<=L2)(t2:0<=T2)(l3:T3<=L3)(t3:0<=T3)(h:ShN L1 L3 T1 T3 L2 T2 Y):T1*T2*L3<=Y*L2\/T2*T3*L1<=Y*L2:=by
 rcases h with⟨e1,e3,g⟩|⟨e2,g,_⟩
 ·left;have i2:=zpG (z:=L2) (by omega) g;have i3:T2*(T1*L3)<=L2*(T1*L3):=zpG (qk t1 (by omega)) l2;have j1:T1*T2*L3=T2*(T1*L3):=by grind
  have j2:T1*T3*L2=L2*(T1*L3):=by rw[e3];grind
  rw[j1];rw[j2]at i2;exact Int.le_trans i3 i2
 ·rw[e2];rcases Int.le_total (T1*L3) (L1*T3)with hh|hh
  ·left;rw[Int.min_eq_left hh]at g;have i2:=zpG (z:=L2) (by omega) g;have:T1*L2*L3=T1*L3*L2:=(by grind);rw[this];exact i2
  ·right;rw[Int.min_eq_right hh]at g;have i2:=zpG (z:=L2) (by omega) g;have:L2*T3*L1=L1*T3*L2:=(by grind);rw[this];exact i2
theorem zDi{L1 L2 L3 T1 T2 T3 Y:Int}(t1:0<=T1)(l1:T1<=L1)(h:ShN L2 L3 T2 T3 L1 T1 Y):T1*T2*L3<=T1*T3*L2\/Y*L1<=T1*T3*L2:=by
 rcases h with⟨e2,e3,_⟩|⟨e1,_,g⟩
 ·left;have:T1*T2*L3=T1*T3*L2:=by rw[e2,e3];grind
  rw[this];exact qJ _
 ·rw[e1];rcases (Classical.em (L2*T3<T2*L3)).imp_right Int.not_lt.1 with hh|hh
  ·right;have i3:=g (by intro e;rw[e]at hh;exact Int.lt_irrefl _ hh);rw[i3,Int.min_eq_right (Int.le_of_lt hh)];have:L2*T3*L1=L1*T3*L2:=(by grind);rw[this];exact qJ _
  ·left;have i5:=zpG (z:=L1) (by omega) hh;have j1:L1*T2*L3=T2*L3*L1:=(by grind);have j2:L1*T3*L2=L2*T3*L1:=(by grind);rw[j1,j2];exact i5
theorem zDk{L1 L2 L3 T1 T2 T3 Y:Int}(t3:0<=T3)(l3:T3<=L3)(h:ShN L1 L2 T1 T2 L3 T3 Y):Y*L3<=T1*T3*L2\/T2*T3*L1<=T1*T3*L2:=by
 rcases h with⟨e1,e2,_⟩|⟨e3,_,g⟩
 ·right;have:T2*T3*L1=T1*T3*L2:=by rw[e1,e2];grind
  rw[this];exact qJ _
 ·rw[e3];rcases (Classical.em (T1*L2<L1*T2)).imp_right Int.not_lt.1 with hh|hh
  ·left;have i3:=g (by intro e;rw[e]at hh;exact Int.lt_irrefl _ hh);rw[i3,Int.min_eq_left (Int.le_of_lt hh)];have:T1*L2*L3=T1*L3*L2:=(by grind);rw[this];exact qJ _
  ·right;have i5:=zpG (z:=L3) (by omega) hh;have j1:T2*L3*L1=L1*T2*L3:=(by grind);have j2:T1*L3*L2=T1*L2*L3:=(by grind);rw[j1,j2];exact i5
theorem zvQ{w u v g G D D' X X' P P' x y:Int}(hw:1<=w)(hu:1<=u)(hg:1<=g)(hG:1<=G)(d:w*D=u*X+v*P)(d':w*D'=u*X'+v*P')(hl:P*x=P'*y)(hh:G*X*x<=G*X'*y):D*(g*x)<=D'*(g*y):=by
 have k1:G*(X*x)<=G*(X'*y):=by rw[<-QV,<-QV];exact hh
 have k2:X*x<=X'*y:=Int.le_of_mul_le_mul_left k1 (by omega);have k3:u*(X*x)<=u*(X'*y):=yD k2 (by omega)
 have j1:w*(D*x)=u*(X*x)+v*(P*x):=by
  have:w*(D*x)=w*D*x:=by grind
  rw[this,d];grind
 have j2:w*(D'*y)=u*(X'*y)+v*(P'*y):=by
  have:w*(D'*y)=w*D'*y:=by grind
  rw[this,d'];grind
 have k4:w*(D*x)<=w*(D'*y):=by rw[j1,j2,hl];exact Int.add_le_add_right k3 _
 have k5:D*x<=D'*y:=Int.le_of_mul_le_mul_left k4 (by omega);have k6:g*(D*x)<=g*(D'*y):=yD k5 (by omega);have m1:D*(g*x)=g*(D*x):=by grind
 have m2:D'*(g*y)=g*(D'*y):=by grind
 rw[m1,m2];exact k6
theorem zmN{M N O:Nat->Nat}(hM:GoodM M)(hN:GoodM N)(hO:GoodM O){c p n:Nat}(h:ShrP M N c)(hc:c=p+1+(n+1+1))(ho:ShrP M O (p+2)){k:KS}(hk:KOk k (kL M p).sat){r q m r' q' m' s x l:Int}(h0:Nums M p r q m)(hx:Nums N p r' q' m')(hy:Nums O p s x l):
 ShN (k.al*r+k.be*q) (k.al*r'+k.be*q') (k.al*m+k.be*q) (k.al*m'+k.be*q') (k.al*s+k.be*x) (k.al*l+k.be*x) ((k.al+k.be)*(k.al*tl M N (p+1) (n+1+1)+k.be*(q*q'))):=by
 obtain⟨_,h1,h2⟩:=zAa hM hN h hc hk h0 hx;by_cases e:YU M p=1
 ·right;have hpt:=zo6 hM hO ho (p:=p) rfl
  have e2:s=l:=by
   rcases hy.ty with u|u|u
   ·exact u.2
   ·have:=hpt (by omega);omega
   ·exact u.2.1
  exact⟨by rw[e2],h2 e⟩
 ·left;obtain⟨f1,f2,f3⟩:=h1 e;exact⟨by rw[f1],by rw[f2],f3⟩
theorem Nums.pos{M:Nat->Nat}{p:Nat}{r q m:Int}(h:Nums M p r q m){al be:Int}(ha:1<=al)(hb:0<=be):0<=al*m+be*q/\al*m+be*q<=al*r+be*q/\(r=m->al*m+be*q=al*r+be*q):=by
 have y1:0<=al*m:=qk (by omega) (by have:=h.m1;omega);have y2:0<=be*q:=qk hb h.q0;have y3:al*m<=al*r:=yD h.mr (by omega);exact⟨by omega,by omega,fun h=>by rw[h]⟩
theorem zEq{M1 M2 M3:Nat->Nat}(h1:GoodM M1)(h2:GoodM M2)(h3:GoodM M3){p a b c:Nat}(h12:ShrP M1 M2 (p+2+a))(h23:ShrP M2 M3 (p+2+b))(h13:ShrP M1 M3 (p+2+c))(hz:(a=0/\b=0)\/(a=0/\c=0)\/(b=0/\c=0))
 {k:KS} (hk:KOk k (kL M1 p).sat) {r1 q1 m1 r2 q2 m2 r3 q3 m3:Int} (n1:Nums M1 p r1 q1 m1) (n2:Nums M2 p r2 q2 m2) (n3:Nums M3 p r3 q3 m3):
 (k.al+k.be)*(k.al*tl M1 M2 (p+1) (a+1)+k.be*(q1*q2))*(k.al*r3+k.be*q3)<=(k.al+k.be)*(k.al*tl M1 M3 (p+1) (c+1)+k.be*(q1*q3))*(k.al*r2+k.be*q2)\/
 (k.al+k.be)*(k.al*tl M2 M3 (p+1) (b+1)+k.be*(q2*q3))*(k.al*r1+k.be*q1)<=(k.al+k.be)*(k.al*tl M1 M3 (p+1) (c+1)+k.be*(q1*q3))*(k.al*r2+k.be*q2):=by
 have l12:=Js h1 h2 p fun t x y=>h12.eq t x (by omega);have hk2:KOk k (kL M2 p).sat:=by rw[<-l12.sat];exact hk
 obtain⟨v1,z1,o1⟩:=n1.pos hk.al hk.be;obtain⟨v2,z2,o2⟩:=n2.pos hk.al hk.be;obtain⟨v3,z3,o3⟩:=n3.pos hk.al hk.be
 cases a with
 |zero=>
  obtain⟨Y1,w1⟩:=zdD h1 h2 h12 hk n1 n2
  cases b with
  |zero=>
   obtain⟨Y2,w2⟩:=zdD h2 h3 h23 hk2 n2 n3
   cases c with
   |zero=>
    obtain⟨Y3,w3⟩:=zdD h1 h3 h13 hk n1 n3;rw[Y1,Y2,Y3];exact zCf v1 v2 v3 z1 z2 z3 (w1.imp o1 o2) (w2.imp o2 o3) (w3.imp o1 o3)
   |succ c=>
    have hS:=zmN h1 h3 h2 h13 (p:=p) (n:=c) (by omega) h12 hk n1 n3 n2;rw[Y1,Y2];exact zDj v1 z1 z2 v2 z3 v3 hS
  |succ b=>
   have hc0:c=0:=(by omega);subst hc0;obtain⟨Y3,w3⟩:=zdD h1 h3 h13 hk n1 n3;have hS:=zmN h2 h3 h1 h23 (p:=p) (n:=b) (by omega) h12.symm hk2 n2 n3 n1;rw[Y1,Y3];exact zDi v1 z1 hS
 |succ a=>
  have hb0:b=0:=by omega
  have hc0:c=0:=by omega
  subst hb0 hc0;obtain⟨Y2,w2⟩:=zdD h2 h3 h23 hk2 n2 n3;obtain⟨Y3,w3⟩:=zdD h1 h3 h13 hk n1 n3;have hS:=zmN h1 h2 h3 h12 (p:=p) (n:=a) (by omega) h13 hk n1 n2 n3;rw[Y2,Y3];exact zDk v3 z3 hS
theorem zD8{M N:Nat->Nat}{c:Nat}(h:1<=c):(M 0:Int)*N 0<=dS M N c:=by
 obtain⟨n,rfl⟩:∃n,c=1+n:=⟨c-1,by omega⟩;have h1:=zrM M N n 1;have h2:dS M N 1=0+(M 0:Int)*N 0:=rfl;rw[zxY];omega
theorem zBF{M1 M2 M3:Nat->Nat}{a b c:Nat}(c1:1<=c)(hone:a=1\/b=1):dS M1 M2 a*M3 0<=dS M1 M3 c*M2 0\/dS M2 M3 b*M1 0<=dS M1 M3 c*M2 0:=by
 have d1:∀M N:Nat->Nat,dS M N 1=(M 0:Int)*N 0:=fun M N=>by show 0+(M 0:Int)*N 0=_;omega
 have g:=zD8 (M:=M1) (N:=M3) c1;have g2:(M1 0:Int)*M3 0*M2 0<=dS M1 M3 c*M2 0:=jA g (by omega);rcases hone with e|e
 ·left;rw[e,d1];have:(M1 0:Int)*M2 0*M3 0=M1 0*M3 0*M2 0:=by grind
  rw[this];exact g2
 ·right;rw[e,d1];have:(M2 0:Int)*M3 0*M1 0=M1 0*M3 0*M2 0:=by grind
  rw[this];exact g2
theorem zzJ{M1 M2 M3:Nat->Nat}(h1:GoodM M1)(h2:GoodM M2)(h3:GoodM M3){p a b c:Nat}(h12:ShrP M1 M2 (p+2+a))(h23:ShrP M2 M3 (p+2+b))(h13:ShrP M1 M3 (p+2+c))(hz:(a=0/\b=0)\/(a=0/\c=0)\/(b=0/\c=0)):
 dS M1 M2 (p+2+a)*M3 0<=dS M1 M3 (p+2+c)*M2 0\/dS M2 M3 (p+2+b)*M1 0<=dS M1 M3 (p+2+c)*M2 0:=by
 obtain⟨k,hk,s1,s2,s3,p12,p23,p13⟩:=zzq h1 h2 h3 h12 h23 h13 p (by omega) (by omega) (by omega);obtain⟨r1,q1,m1,n1⟩:=zhs h1 p;obtain⟨r2,q2,m2,n2⟩:=zhs h2 p;obtain⟨r3,q3,m3,n3⟩:=zhs h3 p;have e12:=p12 _ _ _ _ _ _ n1 n2;have e23:=p23 _ _ _ _ _ _ n2 n3;have e13:=p13 _ _ _ _ _ _ n1 n3;have hal:=hk.al;have hbe:=hk.be;rw[show p+1+(p+2+a-(p+1))=p+2+a by omega,show p+2+a-(p+1)=a+1 by omega]at e12;rw[show p+1+(p+2+b-(p+1))=p+2+b by omega,show p+2+b-(p+1)=b+1 by omega]at e23;rw[show p+1+(p+2+c-(p+1))=p+2+c by omega,show p+2+c-(p+1)=c+1 by omega]at e13;rw[s1 _ _ _ n1,s2 _ _ _ n2,s3 _ _ _ n3];rcases zEq h1 h2 h3 h12 h23 h13 hz hk n1 n2 n3 with hh|hh
 ·left;exact zvQ hk.w hk.u hk.g (show 1<=k.al+k.be by omega) e12 e13 (by grind) hh
 ·right;exact zvQ hk.w hk.u hk.g (show 1<=k.al+k.be by omega) e23 e13 (by grind) hh
theorem zzI{M1 M2 M3:Nat->Nat}(h1:GoodM M1)(h2:GoodM M2)(h3:GoodM M3){a b c:Nat}(h12:ShrP M1 M2 a)(h23:ShrP M2 M3 b)(h13:ShrP M1 M3 c)(u1:min a b<=c)(u2:min a c<=b)(u3:min b c<=a):
 dS M1 M2 a*M3 0<=dS M1 M3 c*M2 0\/dS M2 M3 b*M1 0<=dS M1 M3 c*M2 0:=by
 have a1:=h12.c1;have b1:=h23.c1;have c1:=h13.c1;by_cases hone:a=1\/b=1
 ·exact zBF c1 hone
 ·obtain⟨p,hp⟩:∃p,p+2=min a (min b c):=⟨min a (min b c)-2,by omega⟩;obtain⟨a,rfl⟩:∃a',a=p+2+a':=⟨a-(p+2),by omega⟩;obtain⟨b,rfl⟩:∃b',b=p+2+b':=⟨b-(p+2),by omega⟩;obtain⟨c,rfl⟩:∃c',c=p+2+c':=⟨c-(p+2),by omega⟩;exact zzJ h1 h2 h3 h12 h23 h13 (by omega)
theorem Kw{xs:List Int}(h:Br xs):(mul xs 0:Int)=xs.getD 0 0:=by
 have h1:=h.low 0 h.pos;by_cases hl:xs.length=1
 ·have h2:=h.dlast;have h3:=h.d0;rw[hl]at h2;have e:zbk xs=[]:=by rw[zbk,hl];rfl
  have:mul xs 0=1:=by rw[mul,e];rfl
  rw[this];simp only[Nat.sub_self]at h2;omega
 ·obtain⟨n,hn⟩:∃n,xs.length-1=n+1:=⟨xs.length-2,by have:=h.pos;omega⟩;have h2:xs.getD 0 0<xs.getD 1 0:=h.up 0 (by omega);have e:zbk xs=ex (kkN xs 0) (ddN xs 0)++zdb (blk xs 1 n):=by rw[zbk,hn];rfl
  have hd:ddN xs 0=(xs.getD 0 0).toNat:=by rw[ddN,h.d0]
  have hk:kkN xs 0=(xs.getD 1 0).toNat:=by rw[kkN,Kb,if_pos rfl];simp
  have hpos:0<ddN xs 0:=by omega
  have hq:0<kkN xs 0/ddN xs 0:=Nat.div_pos (by rw[hd,hk];omega) hpos;have:mul xs 0=ddN xs 0:=by rw[mul,e,kg hpos,List.append_assoc,zga,if_pos hq]
  rw[this,hd];omega
theorem zCq(M N:Nat->Nat):∀n,dS M N n=dS N M n
 |0=>rfl
 |n+1=>by rw[dS,dS,zCq M N n,Int.mul_comm]
structure LstOk (n:Nat) (l:List Int):Prop where
 n1:1<=l.length
 inn:InL n l
 asc:∀i j,i<j->j<l.length->l.getD i 0<l.getD j 0
theorem LstOk.ge{n:Nat}{l:List Int}(h:LstOk n l):∀i,i<l.length->(i:Int)<=l.getD i 0
 |0,hi=>(h.inn 0 hi).1
 |i+1,hi=>by
  have h1:=LstOk.ge h i (by omega);have h2:=h.asc i (i+1) (by omega) hi;omega
theorem LstOk.len{n:Nat}{l:List Int}(h:LstOk n l):l.length<=n:=by
 have h0:=h.n1;have h1:=h.ge (l.length-1) (by omega);have h2:=h.inn (l.length-1) (by omega);omega
def sL(f:Nat->Int)(l:List Int):Int:=sg (fun t=>f (l.getD t 0).toNat) l.length
theorem zBN(g:Int->Nat->Int)(l:List Int)(x:Int):sg (fun t=>g ((l++[x]).getD t 0) t) (l++[x]).length=sg (fun t=>g (l.getD t 0) t) l.length+g x l.length:=by
 have e:(l++[x]).length=l.length+1:=by simp
 rw[e,sg,zcq (Nat.le_refl _),if_pos rfl];rw[ZR (n:=l.length) fun t ht=>by rw[zcq (by omega),if_neg (by omega)]]
theorem zBP(f:Nat->Int)(l:List Int)(x:Int):sL f (l++[x])=sL f l+f x.toNat:=zBN (fun y _=>f y.toNat) l x
def crs(bs ms:List (List Int))(a b:List Int):Int:=sL (fun i=>sL (fun k=>qz bs ms i k) b) a
structure SpOk (bs ms:List (List Int)) (r:Nat) (a b:List Int):Prop where
 all:∀f:Nat->Int,sg f r=sL f a+sL f b
 ina:InL r a
 inb:InL r b
 asca:∀i j,i<j->j<a.length->a.getD i 0<a.getD j 0
 ascb:∀i j,i<j->j<b.length->b.getD i 0<b.getD j 0
 len:a.length+b.length=r
 dl:dlC bs ms r=dlt bs ms a+dlt bs ms b+crs bs ms a b
theorem zs9(bs:List (List Int)):∀n,JK bs n=sg (fun i=>(bs.getD i []).getD 0 0) n
 |0=>rfl
 |n+1=>by rw[JK,sg,zs9 bs n]
def zbE(f:List V->List V->List V×Int)(q:List V->List V->Prop):zN:=fun
 |[.agg [.slc false 57 (.agg [.slc false 2 (.int .i64 0) []]) a0,.slc false 29 (.slc false 2 (.int .i64 0) []) a1]]=>some ([q a0 a1],.tup [.slc true 27 (.agg [.slc true 57 (.agg [.slc true 2 (.int .i64 0) []]) [],.slc true 29 (.slc true 2 (.int .i64 0) []) []]) ((f a0 a1).1),.int .i64 ((f a0 a1).2)])
 |_=>none
theorem zhV:yI Tryz.prog 65 (zbE zfi Ju):=by
 intro args ps r h hp;unfold zbE at h;split at h
 ·rename_i a0 a1;cases h;have hq0:Ju a0 a1:=(zm.1 hp).1;obtain⟨⟨⟨bs,hbs,hb1,hb2⟩,⟨ms,hms,hm1,hm2⟩⟩,hcv⟩:=(zm.1 hp).1;rw[hbs,hms,yo,yd]at hcv;have g1:V.frzs a0=a0:=by rw[hbs,qH]
  have g2:V.frzs a1=a1:=by rw[hms,qy]
  have hbl:a0.length=bs.length:=by rw[hbs,yz]
  have hml:a1.length=ms.length:=by rw[hms,ye]
  have gb:∀k,a0.getD k (.agg [.slc false 2 (.int .i64 0) []])=.agg [.slc false 2 (.int .i64 0) (I (bs.getD k []))]:=fun k=>by rw[hbs,ku]
  have gm:∀k,a1.getD k (.slc false 2 (.int .i64 0) [])=.slc false 2 (.int .i64 0) (I (ms.getD k [])):=fun k=>by rw[hms,qo]
  have hm0:∀x y:Nat,(ms.getD x []).getD y 0=mm ms x y:=fun _ _=>rfl;obtain⟨n,hn⟩:∃n:Int,n=bs.length:=⟨_,rfl⟩;have n1:=hcv.n1;have n6:=hcv.n6;have hmn:ms.length=bs.length:=hcv.tab.len;have hbr:∀i,i<bs.length->Br (bs.getD i []):=fun i hi=>jz (hcv.br i hi);have rl:∀k,k<bs.length->(ms.getD k []).length=bs.length:=fun k hk=>(hcv.tab.row k hk).1;have mmr:∀i k,i<bs.length->k<bs.length->0<=mm ms i k/\mm ms i k<=200:=fun i k hi hk=>hcv.tab.range hi hk;have mmo:∀i k,i<bs.length->k<bs.length->i≠k->1<=mm ms i k/\mm ms i k<=200:=fun i k hi hk hne=>((hcv.tab.row i hi).2 k hk).2 hne;obtain⟨tl,htl⟩:∃tl,tl=(yh ms bs.length).1:=⟨_,rfl⟩;obtain⟨tn,htn⟩:∃tn,tn=(yh ms bs.length).2:=⟨_,rfl⟩;have tlen:tl.length=bs.length:=by rw[htl];exact(ul ms _).1
  have tn0:0<=tn/\tn<=bs.length:=by rw[htn];exact⟨(ul ms _).2.1,(ul ms _).2.2.1⟩
  have hcon:∀x:Int,0<=x->tl.contains x=decide (x<tn):=fun x hx=>by rw[htl,htn];exact zjx ms _ x hx
  obtain⟨vt,hvt⟩:∃vt,vt=I tl:=⟨_,rfl⟩;have hvl:vt.length=bs.length:=by rw[hvt,zj,tlen]
  have gvt:∀k,vt.getD k (.int .i64 0)=.int .i64 (tl.getD k 0):=fun k=>by rw[hvt,zO]
  have g5:V.frzs vt=vt:=by rw[hvt,zD]
  have hf0:zfi a0 a1=znc (Qf bs ms tl tn.toNat):=by
   rw[zfi,bl,hbl,hbs,hms,yo,yd,<-htl,<-htn]
  generalize ZW:zag=zbg;generalize jv:Ju=Ys;generalize Kl:zei=zcD;generalize uI:zb1=Kn;generalize zcf:zbB=zgz;generalize zcd:zn5=znC;generalize Ki:zah=zcA;generalize yO:ur=kh;refine zC (T:=tab) (B:=[(67,zg5 zbg Ys),(97,zdO zcD Kn),(62,zim zgz znC),(35,zgk zcA kh)]) (Bi:=[]) [2000020997,0,1,2,3,4,5,6,7,8,9,10,11,12,13,14,15,25,26,27,44,45,46,66,67] Tryz.func65 rfl rfl (by kernel_rfl) (ze rfl) mixed zP (by subst ZW jv Kl uI zcf zcd Ki yO;exact(zn zgQ (zn zmH (zn zrG (zn zbs zA))))) (by subst ZW jv Kl uI zcf zcd Ki yO;exact zx) (by kernel_rfl) ?_;intro L lp rr hL hr hf hlp;have Et:zbg a0 a1=vt:=by rw[<-ZW,zag,hbl,hms,yd,hvt,htl]
  have Eh:∀x,0<=x->zcD vt x=decide (x<tn):=fun x hx=>by rw[<-Kl,zei,hvt,zr];exact hcon x hx
  conv=>cbv
  simp only[zo hL,sQ,g1,g2,Et];refine⟨by rw[<-jv];exact hq0,?_⟩
  refine hlp (List V×Int) _ _ _ [1,4,5,6] (fun x=>[(1,none,.val (.box 27 (.agg [.slc false 57 (.agg [.slc false 2 (.int .i64 0) []]) a0,.slc false 29 (.slc false 2 (.int .i64 0) []) a1]))),(4,none,.val (.slc true 2 (.int .i64 0) vt)),(5,none,.val (.slc true 27 (.agg [.slc true 57 (.agg [.slc true 2 (.int .i64 0) []]) [],.slc true 29 (.slc true 2 (.int .i64 0) []) []]) x.1)),(6,none,.val (.int .i64 x.2))])
   (fun x=>0<=x.2/\x.2<=tn/\∃o,Qf bs ms tl x.2.toNat=some o/\x.1=CC true o) (fun x=>(tn-x.2).toNat) (([],0)) (by subst hL;rfl) ?_ ?_
  ·exact⟨by simp,by simp only;omega,[],rfl,rfl⟩
  rintro⟨es,t⟩ ⟨t0,t1,o,ho,hes⟩ hfx ag hag;simp only at t0 t1 ho hes;have hel:es.length=t.toNat:=by rw[hes,zaY,ziq _ ho]
  conv=>cbv
  simp only[zo hL,sQ,g5,Eh t t0];refine⟨?_,fun h2=>?_,fun h2=>?_⟩
  ·rw[<-uI];exact⟨⟨_,hvt⟩,by rw[hvl];omega⟩
  ·refine hlp (List V×Int) _ _ _ [1,4,5,6,7,25,26,27] (fun y=>[(1,none,.val (.box 27 (.agg [.slc false 57 (.agg [.slc false 2 (.int .i64 0) []]) a0,.slc false 29 (.slc false 2 (.int .i64 0) []) a1]))),(4,none,.val (.slc true 2 (.int .i64 0) vt)),(5,none,.val (.slc true 27 (.agg [.slc true 57 (.agg [.slc true 2 (.int .i64 0) []]) [],.slc true 29 (.slc true 2 (.int .i64 0) []) []]) es)),(6,none,.val (.int .i64 t)),(7,none,.val (.slc true 2 (.int .i64 0) y.1)),(25,none,.rf 4 0 []),(26,none,.val (.int .i64 n)),(27,none,.val (.int .i64 y.2))])
    (fun y=>0<=y.2/\y.2<=n/\y.1=I (qm tl t y.2.toNat)) (fun y=>(n-y.2).toNat) (([],0)) (by subst hL;rw[hn,<-hvl];rfl) ?_ ?_
   ·exact⟨by simp,by simp only;omega,rfl⟩
   rintro⟨ps,k⟩ ⟨k0,k1,hps⟩ hfx2 ag2 hag2;simp only at k0 k1 hps
   conv=>cbv
   simp only[zo hL,sQ,hvl,gvt];refine⟨fun h3=>⟨k0,by omega,by omega,fun h4=>?_,fun h4=>?_⟩,fun h3=>?_⟩
   ·have hpl:ps.length<=1000:=(by rw[hps,zj];have:=(zbu tl t k.toNat).2;omega);rw[zk (n:=k+1) (by omega) (by omega)];refine⟨rfl,by simp only[zi,zq];omega,yr _,hag2 (_,k+1) ⟨by simp only;omega,by simp only;omega,?_⟩ (by simp only;omega)⟩;simp only[zL k0];rw[qm,if_pos h4,hps,<-jb,show((k.toNat:Nat):Int)=k by omega];rfl
   ·rw[zk (n:=k+1) (by omega) (by omega)];refine hag2 (_,k+1) ⟨by simp only;omega,by simp only;omega,?_⟩ (by simp only;omega);simp only[zL k0];rw[qm,if_neg h4,hps]
   obtain⟨ls,hls⟩:∃ls,ls=qm tl t tl.length:=⟨_,rfl⟩;have hps':ps=I ls:=(by rw[hps,hls,show k.toNat=tl.length by omega]);have lin:InL bs.length ls:=(by rw[hls,<-tlen];exact(zbu tl t _).1);have lle:ls.length<=bs.length:=(by rw[hls,<-tlen];exact(zbu tl t _).2);have htt:((t.toNat:Nat):Int)=t:=(by omega);have hls2:ls=qm tl (t.toNat:Nat) tl.length:=by rw[htt];exact hls
   have hbad:∀j:Nat,j<ls.length->399<(qY (bs.getD (ls.getD j 0).toNat [])).length->Qf bs ms tl tn.toNat=none:=by
    rw[hls2];intro j hj hb;have h1:=znd (zwA (bs:=bs) (ms:=ms) hj hb) (tn.toNat-(t.toNat+1))
    rwa [show t.toNat+1+(tn.toNat-(t.toNat+1))=tn.toNat by omega]at h1
   have hgood:(∀j,j<ls.length->(qY (bs.getD (ls.getD j 0).toNat [])).length<=399)->Qf bs ms tl (t.toNat+1)=some (o++[(QZ bs ls ls.length,Zj ms ls ls.length 0)]):=by
    rw[hls2];exact fun hb=>zuq ho hb
   obtain⟨m,hm⟩:∃m:Int,m=ls.length:=⟨_,rfl⟩;obtain⟨pb,hpb⟩:∃pb,pb=BB true (QZ bs ls 0):=⟨_,rfl⟩;obtain⟨pm,hpm⟩:∃pm,pm=II true (Zj ms ls 0 0):=⟨_,rfl⟩;have hpbl:pb.length=ls.length:=(by rw[hpb,yz,kV]);have Ep:zgz a0 a1 ps=(pb,pm):=(by rw[<-zcf,zbB,hbs,hms,hps',yo,yd,zr,hpb,hpm,zss,zso]);have gps:V.frzs ps=ps:=(by rw[hps',zD]);simp only[g1,g2,gps,Ep];refine⟨by rw[<-zcd];exact⟨hq0,ls,hps',by rwa [hbl],by omega⟩,by rw[hpb];exact znD _,by rw[hpm];exact zjn _,?_⟩
   refine hlp ((List V×List V)×Int) _ _ _ [1,4,5,6,10,44,45,46] (fun x=>[(1,none,.val (.box 27 (.agg [.slc false 57 (.agg [.slc false 2 (.int .i64 0) []]) a0,.slc false 29 (.slc false 2 (.int .i64 0) []) a1]))),(4,none,.val (.slc true 2 (.int .i64 0) vt)),(5,none,.val (.slc true 27 (.agg [.slc true 57 (.agg [.slc true 2 (.int .i64 0) []]) [],.slc true 29 (.slc true 2 (.int .i64 0) []) []]) es)),(6,none,.val (.int .i64 t)),(10,none,.val (.box 27 (.agg [.slc true 57 (.agg [.slc true 2 (.int .i64 0) []]) x.1.1,.slc true 29 (.slc true 2 (.int .i64 0) []) x.1.2]))),(44,none,.rf 10 0 [0,0]),(45,none,.val (.int .i64 m)),(46,none,.val (.int .i64 x.2))])
    (fun x=>0<=x.2/\x.2<=m/\x.1.1=BB true (QZ bs ls x.2.toNat)/\x.1.2=II true (Zj ms ls x.2.toNat 0)/\∀j:Nat,j<x.2.toNat->(qY (bs.getD (ls.getD j 0).toNat [])).length<=399) (fun x=>(m-x.2).toNat) (((pb,pm),0)) (by subst hL;rw[hm,<-hpbl];rfl) ?_ ?_
   ·exact⟨by simp,by simp only;omega,hpb,hpm,fun j hj=>by simp at hj⟩
   rintro⟨⟨fs,gs⟩,i⟩ ⟨i0,i1,hfs,hgs,hok⟩ hfx3 ag3 hag3;simp only at i0 i1 hfs hgs hok
   conv=>cbv
   simp only[zo hL,decide_eq_true_eq,decide_eq_false_iff_not];refine⟨fun h4=>?_,fun h4=>?_⟩
   ·have hil:i.toNat<ls.length:=(by omega);have hxl:=lin i.toNat hil;obtain⟨xi,hxi⟩:∃xi,xi=bs.getD (ls.getD i.toNat 0).toNat []:=⟨_,rfl⟩;have hbx:Br xi:=(by rw[hxi];exact hbr _ (by omega));have hfl:fs.length=ls.length:=(by rw[hfs,yz,kV]);have hgl:gs.length=ls.length:=(by rw[hgs,ye,zcj]);have gf:fs.getD i.toNat (.agg [.slc true 2 (.int .i64 0) []])=.agg [.slc true 2 (.int .i64 0) (I xi)]:=(by rw[hfs,ku,zvL hil,<-hxi]);have gst:∀x d:V,(fs.set i.toNat x).getD i.toNat d=x:=fun x d=>(by rw[zd,kD (by omega)];rfl);obtain⟨⟨vs,cs⟩,hvs⟩:∃p,p=zah (I xi):=⟨_,rfl⟩;have Es:zcA (I xi)=(vs,cs):=by rw[<-Ki,hvs]
    have hvf:V.noFzs vs=true/\(cs≠0->399<(qY xi).length/\cs=3)/\(cs=0->(qY xi).length<=399/\vs=I (QI xi)):=by
     rw[zah,zr]at hvs;split at hvs
     ·obtain⟨rfl,rfl⟩:=zb ..▸hvs;exact⟨rfl,fun _=>⟨by omega,rfl⟩,fun h=>absurd h (by decide)⟩
     ·obtain⟨rfl,rfl⟩:=zb ..▸hvs;exact⟨zdV _,fun h=>absurd rfl h,fun _=>⟨by omega,rfl⟩⟩
    simp only[zo hL,sQ,hfl,gf,uy,um,uq,gst,List.length_set,Es];refine⟨i0,by omega,hil,hil,by rw[<-yO];exact⟨xi,rfl,hbx⟩,hvf.1,fun hc=>?_,fun hc=>⟨i0,by omega,hil,.inr ⟨.agg [.slc true 2 (.int .i64 0) []],rfl,rfl,rfl⟩,?_⟩⟩
    ·have h5:=hvf.2.1 hc;rw[hr,hf0,hbad i.toNat hil (by rw[<-hxi];exact h5.1),znc,h5.2]
    obtain⟨hx399,hvs2⟩:=hvf.2.2 hc;obtain⟨fs2,hfs2⟩:∃fs2,fs2=(fs.set i.toNat (.agg [.hole 1])).set i.toNat (.agg [.slc true 2 (.int .i64 0) vs]):=⟨_,rfl⟩;have hfs3:fs2=BB true (QZ bs ls (i.toNat+1)):=(by rw[hfs2,List.set_set,hvs2,hfs,zzC,hxi,zvJ]);have hfs4:fs2.length=ls.length:=by rw[hfs3,yz,kV]
    refine hlp (List V×Int) _ _ _ [1,4,5,6,10,11,44,45,46,66,67] (fun w=>[(1,none,.val (.box 27 (.agg [.slc false 57 (.agg [.slc false 2 (.int .i64 0) []]) a0,.slc false 29 (.slc false 2 (.int .i64 0) []) a1]))),(4,none,.val (.slc true 2 (.int .i64 0) vt)),(5,none,.val (.slc true 27 (.agg [.slc true 57 (.agg [.slc true 2 (.int .i64 0) []]) [],.slc true 29 (.slc true 2 (.int .i64 0) []) []]) es)),(6,none,.val (.int .i64 t)),(10,none,.val (.box 27 (.agg [.slc true 57 (.agg [.slc true 2 (.int .i64 0) []]) fs2,.slc true 29 (.slc true 2 (.int .i64 0) []) w.1]))),(11,none,.val (.int .i64 i)),(44,none,.rf 10 0 [0,0]),(45,none,.val (.int .i64 m)),(46,none,.val (.int .i64 i)),(66,none,.val (.int .i64 m)),(67,none,.val (.int .i64 w.2))])
     (fun w=>0<=w.2/\w.2<=m/\w.1=II true (Zj ms ls i.toNat w.2.toNat)) (fun w=>(m-w.2).toNat) ((gs,0)) (by subst hL;rw[hm,<-hfs4,hfs2];rfl) ?_ ?_
    ·exact⟨by simp,by simp only;omega,hgs⟩
    rintro⟨hs,c⟩ ⟨c0,c1,hhs⟩ hfx4 ag4 hag4;simp only at c0 c1 hhs;have hhl:hs.length=ls.length:=(by rw[hhs,ye,zcj]);have gh:hs.getD i.toNat (.slc true 2 (.int .i64 0) [])=.slc true 2 (.int .i64 0) (I (dcR ms ls i.toNat c.toNat)):=(by rw[hhs,qo,zvF hil]);have hcl:c<m->c.toNat<ls.length:=fun _=>(by omega);obtain⟨z,hz⟩:∃z,z=mm ms (ls.getD i.toNat 0).toNat (ls.getD c.toNat 0).toNat:=⟨_,rfl⟩
    have hzr:c<m->0<=z/\z<=200:=fun hc=>by
     have hxc:=lin c.toNat (hcl hc);rw[hz];exact mmr _ _ (by omega) (by omega)
    have gz:c<m->(dcR ms ls i.toNat c.toNat).getD c.toNat 0=z:=fun hc=>by rw[zwu (hcl hc),hz]
    conv=>cbv
    simp only[zo hL,sQ,hhl,gh,zie];refine⟨fun h6=>⟨fun h7=>?_,fun h7=>?_⟩,fun h6=>?_⟩
    ·have hcl:=hcl h6;have hzr:=hzr h6;rw[gz h6,zk (n:=z-1) (by omega) (by omega),zk (n:=c+1) (by omega) (by omega)];refine⟨i0,by omega,hil,hil,c0,by omega,hil,hcl,hil,c0,by omega,hil,hcl,hag4 (_,c+1) ⟨by simp only;omega,by simp only;omega,?_⟩ (by simp only;omega)⟩;simp only[zL c0];rw[<-zvD (by omega),<-hz,hhs,<-zkN,<-zam]
    ·rw[zk (n:=c+1) (by omega) (by omega)];refine hag4 (_,c+1) ⟨by simp only;omega,by simp only;omega,?_⟩ (by simp only;omega);simp only[zL c0];rw[hhs,show c.toNat=i.toNat by omega,zsp]
    ·rw[zk (n:=i+1) (by omega) (by omega)];refine hag3 ((_,_),i+1) ⟨by simp only;omega,by simp only;omega,?_,?_,fun j hj=>?_⟩ (by simp only;omega)
     ·simp only[zL i0];exact hfs3
     ·simp only[zL i0];rw[hhs,show c.toNat=ls.length by omega,zsq]
     ·simp only[zL i0]at hj
      by_cases hji:j=i.toNat
      ·rw[hji,<-hxi];exact hx399
      ·exact hok j (by omega)
   ·have hgd:=hgood (fun j hj=>hok j (by omega));have hfs':fs=BB true (QZ bs ls ls.length):=(by rw[hfs,show i.toNat=ls.length by omega]);have hgs':gs=II true (Zj ms ls ls.length 0):=(by rw[hgs,show i.toNat=ls.length by omega]);rw[zk (n:=t+1) (by omega) (by omega)];refine⟨by simp only[zi,zq];omega,?_,hag (_,t+1) ⟨by simp only;omega,by simp only;omega,_,by simp only[zL t0];exact hgd,?_⟩ (by simp only;omega)⟩
    ·exact je rfl
    ·simp only;rw[zrC,hes,hfs',hgs'];rfl
  ·have:t=tn:=(by omega);rw[hr,hf0,<-this,ho,znc,hes]
 ·cases h
theorem zhn:yI Tryz.prog 100 (zgk zah ur):=by
 intro args ps r h hp;unfold zgk at h;split at h
 ·rename_i a0;cases h;have hq:ur a0:=(zm.1 hp).1;obtain⟨xs,hxs,hb⟩:=id hq;have g0:V.frzs a0=a0:=by rw[hxs,zD]
  obtain⟨sn,hsn⟩:∃sn:Int,sn=(qY xs).length:=⟨_,rfl⟩;have hsl:=zfq hb;obtain⟨code,hcode⟩:∃c:Int,c=if 400<sn+1 then 3 else 0:=⟨_,rfl⟩;obtain⟨vf,hvf⟩:∃vf,vf=I (qY xs++[1]):=⟨_,rfl⟩;have hvl:vf.length=(qY xs).length+1:=by rw[hvf,zj];simp
  have hvz:V.frzs vf=vf:=by rw[hvf,zD]
  obtain⟨hbs,n,l,hstr,hseq⟩:=JV hb;generalize zkT:zh7=zrz;generalize zkO:zpx=zzv;generalize zkW:zh8=zrB;generalize zkR:zpz=zzx;generalize Km:zbc=zd9;generalize zdX:zrT=zqF;refine zC (T:=tab) (B:=[(125,zuj zrz zzv),(127,zbF zrB zzx),(126,zgi zd9 zqF)]) (Bi:=[]) [2000004615,0,1,2,3,4,5] Tryz.func100 rfl rfl (by kernel_rfl) (ze rfl) mixed zP (by subst zkT zkO zkW zkR Km zdX;exact(zn zpl (zn zpm (zn zfN zA)))) (by subst zkT zkO zkW zkR Km zdX;exact zx) (by kernel_rfl) ?_;intro L lp rr hL hr hf hlp;have El:zrz a0 1=code:=by rw[<-zkT,zh7,hxs,zr,hcode,hsn]
  have Ef:zrB a0 1=vf:=by rw[<-zkW,zh8,hxs,zr,hvf];rfl
  have hdr:List.drop 1 (List.take (vf.length:Int).toNat vf)=I ((qY xs++[1]).drop 1):=by
   rw[Int.toNat_natCast,List.take_length,hvf,zkM]
  have EB:zd9 (I ((qY xs++[1]).drop 1))=(I (QI xs),true):=by rw[<-Km,zbc,zr,zdS hseq,hstr]
  conv=>cbv
  simp only[zo hL,sQ,g0,El,Ef,hvz];rw[hdr,zD,EB];have hf0:zah a0=if 399<(qY xs).length then([],3)else(I (QI xs),0):=by rw[zah,hxs,zr]
  refine⟨by rw[<-zkO];exact⟨hq,by omega,by omega⟩,fun h=>?_,fun h=>⟨?_,by omega,by omega,by omega,?_,?_⟩⟩
  ·have h2:400<sn+1:=by
    rcases Int.lt_or_le 400 (sn+1)with h3|h3
    ·exact h3
    ·rw[if_neg (by omega)]at hcode;exact absurd hcode h
   rw[if_pos h2]at hcode;rw[hr,hf0,if_pos (by omega),hcode]
  ·rw[<-zkR];exact⟨hq,by omega,by omega⟩
  ·have h2:¬400<sn+1:=fun h3=>by
    rw[if_pos h3]at hcode;omega
   rw[<-zdX];exact⟨n,l,_,rfl,hseq,by rw[List.length_drop,List.length_append,List.length_singleton];omega⟩
  ·have h2:¬400<sn+1:=fun h3=>by
    rw[if_pos h3]at hcode;omega
   rw[hr,hf0,if_neg (by omega)]
 ·cases h
def zoO(f:List V->List V->List V×Bool)(q:List V->List V->Prop):zN:=fun
 |[.agg [.slc false 57 (.agg [.slc false 2 (.int .i64 0) []]) a0,.slc false 29 (.slc false 2 (.int .i64 0) []) a1]]=>some ([q a0 a1],.tup [.slc true 27 (.agg [.slc true 57 (.agg [.slc true 2 (.int .i64 0) []]) [],.slc true 29 (.slc true 2 (.int .i64 0) []) []]) ((f a0 a1).1),.bool ((f a0 a1).2)])
 |_=>none
theorem zfL:yI Tryz.prog 66 (zoO zeG Ju):=by
 intro args ps r h hp;unfold zoO at h;split at h
 ·rename_i a0 a1;cases h;have hq0:Ju a0 a1:=(zm.1 hp).1;obtain⟨⟨⟨bs,hbs,hb1,hb2⟩,⟨ms,hms,hm1,hm2⟩⟩,hcv⟩:=(zm.1 hp).1;rw[hbs,hms,yo,yd]at hcv;have g1:V.frzs a0=a0:=by rw[hbs,qH]
  have g2:V.frzs a1=a1:=by rw[hms,qy]
  have hbl:a0.length=bs.length:=by rw[hbs,yz]
  have hml:a1.length=ms.length:=by rw[hms,ye]
  have gb:∀k,a0.getD k (.agg [.slc false 2 (.int .i64 0) []])=.agg [.slc false 2 (.int .i64 0) (I (bs.getD k []))]:=fun k=>by rw[hbs,ku]
  have gm:∀k,a1.getD k (.slc false 2 (.int .i64 0) [])=.slc false 2 (.int .i64 0) (I (ms.getD k [])):=fun k=>by rw[hms,qo]
  have hm0:∀x y:Nat,(ms.getD x []).getD y 0=mm ms x y:=fun _ _=>rfl;obtain⟨n,hn⟩:∃n:Int,n=bs.length:=⟨_,rfl⟩;have n1:=hcv.n1;have n6:=hcv.n6;have hmn:ms.length=bs.length:=hcv.tab.len;have hbr:∀i,i<bs.length->Br (bs.getD i []):=fun i hi=>jz (hcv.br i hi);have rl:∀k,k<bs.length->(ms.getD k []).length=bs.length:=fun k hk=>(hcv.tab.row k hk).1;have mmr:∀i k,i<bs.length->k<bs.length->0<=mm ms i k/\mm ms i k<=200:=fun i k hi hk=>hcv.tab.range hi hk;have mmo:∀i k,i<bs.length->k<bs.length->i≠k->1<=mm ms i k/\mm ms i k<=200:=fun i k hi hk hne=>((hcv.tab.row i hi).2 k hk).2 hne;obtain⟨tl,htl⟩:∃tl,tl=(yh ms bs.length).1:=⟨_,rfl⟩;obtain⟨tn,htn⟩:∃tn,tn=(yh ms bs.length).2:=⟨_,rfl⟩;have tlen:tl.length=bs.length:=by rw[htl];exact(ul ms _).1
  have tn0:0<=tn/\tn<=bs.length:=by rw[htn];exact⟨(ul ms _).2.1,(ul ms _).2.2.1⟩
  have hcon:∀x:Int,0<=x->tl.contains x=decide (x<tn):=fun x hx=>by rw[htl,htn];exact zjx ms _ x hx
  obtain⟨vt,hvt⟩:∃vt,vt=I tl:=⟨_,rfl⟩;have hvl:vt.length=bs.length:=by rw[hvt,zj,tlen]
  have gvt:∀k,vt.getD k (.int .i64 0)=.int .i64 (tl.getD k 0):=fun k=>by rw[hvt,zO]
  have g5:V.frzs vt=vt:=by rw[hvt,zD]
  have hf0:zeG a0 a1=zp3 (Qf bs ms tl tn.toNat):=by
   rw[zeG,bl,hbl,hbs,hms,yo,yd,<-htl,<-htn]
  generalize ZW:zag=zbg;generalize jv:Ju=Ys;generalize Kl:zei=zcD;generalize uI:zb1=Kn;generalize zcf:zbB=zgz;generalize zcd:zn5=znC;generalize Ki:zah=zcA;generalize yO:ur=kh;refine zC (T:=tab) (B:=[(68,zg5 zbg Ys),(98,zdO zcD Kn),(99,zim zgz znC),(100,zgk zcA kh)]) (Bi:=[]) [0,1,2,3,4,5,6,7,8,9,10,11,12,13,14] Tryz.func66 rfl rfl (by kernel_rfl) (ze rfl) mixed zP (by subst ZW jv Kl uI zcf zcd Ki yO;exact(zn zev (zn zjB (zn zpd (zn zhn zA))))) (by subst ZW jv Kl uI zcf zcd Ki yO;exact zx) (by kernel_rfl) ?_;intro L lp rr hL hr hf hlp;have Et:zbg a0 a1=vt:=by rw[<-ZW,zag,hbl,hms,yd,hvt,htl]
  have Eh:∀x,0<=x->zcD vt x=decide (x<tn):=fun x hx=>by rw[<-Kl,zei,hvt,zr];exact hcon x hx
  conv=>cbv
  simp only[zo hL,sQ,g1,g2,Et];refine⟨by rw[<-jv];exact hq0,?_⟩
  refine hlp (List V×Int) _ _ _ [1,4,5,6] (fun x=>[(1,none,.val (.box 27 (.agg [.slc false 57 (.agg [.slc false 2 (.int .i64 0) []]) a0,.slc false 29 (.slc false 2 (.int .i64 0) []) a1]))),(4,none,.val (.slc true 2 (.int .i64 0) vt)),(5,none,.val (.slc true 27 (.agg [.slc true 57 (.agg [.slc true 2 (.int .i64 0) []]) [],.slc true 29 (.slc true 2 (.int .i64 0) []) []]) x.1)),(6,none,.val (.int .i64 x.2))])
   (fun x=>0<=x.2/\x.2<=tn/\∃o,Qf bs ms tl x.2.toNat=some o/\x.1=CC true o) (fun x=>(tn-x.2).toNat) (([],0)) (by subst hL;rfl) ?_ ?_
  ·exact⟨by simp,by simp only;omega,[],rfl,rfl⟩
  rintro⟨es,t⟩ ⟨t0,t1,o,ho,hes⟩ hfx ag hag;simp only at t0 t1 ho hes;have hel:es.length=t.toNat:=by rw[hes,zaY,ziq _ ho]
  conv=>cbv
  simp only[zo hL,sQ,g5,Eh t t0];refine⟨?_,fun h2=>?_,fun h2=>?_⟩
  ·rw[<-uI];exact⟨⟨_,hvt⟩,by rw[hvl];omega⟩
  ·refine hlp (List V×Int) _ _ _ [1,4,5,6,7,8] (fun y=>[(1,none,.val (.box 27 (.agg [.slc false 57 (.agg [.slc false 2 (.int .i64 0) []]) a0,.slc false 29 (.slc false 2 (.int .i64 0) []) a1]))),(4,none,.val (.slc true 2 (.int .i64 0) vt)),(5,none,.val (.slc true 27 (.agg [.slc true 57 (.agg [.slc true 2 (.int .i64 0) []]) [],.slc true 29 (.slc true 2 (.int .i64 0) []) []]) es)),(6,none,.val (.int .i64 t)),(7,none,.val (.slc true 2 (.int .i64 0) y.1)),(8,none,.val (.int .i64 y.2))])
    (fun y=>0<=y.2/\y.2<=n/\y.1=I (qm tl t y.2.toNat)) (fun y=>(n-y.2).toNat) (([],0)) (by subst hL;rfl) ?_ ?_
   ·exact⟨by simp,by simp only;omega,rfl⟩
   rintro⟨ps,k⟩ ⟨k0,k1,hps⟩ hfx2 ag2 hag2;simp only at k0 k1 hps
   conv=>cbv
   simp only[zo hL,sQ,hvl,gvt];refine⟨fun h3=>⟨k0,by omega,by omega,fun h4=>?_,fun h4=>?_⟩,fun h3=>?_⟩
   ·have hpl:ps.length<=1000:=(by rw[hps,zj];have:=(zbu tl t k.toNat).2;omega);rw[zk (n:=k+1) (by omega) (by omega)];refine⟨rfl,by simp only[zi,zq];omega,yr _,hag2 (_,k+1) ⟨by simp only;omega,by simp only;omega,?_⟩ (by simp only;omega)⟩;simp only[zL k0];rw[qm,if_pos h4,hps,<-jb,show((k.toNat:Nat):Int)=k by omega];rfl
   ·rw[zk (n:=k+1) (by omega) (by omega)];refine hag2 (_,k+1) ⟨by simp only;omega,by simp only;omega,?_⟩ (by simp only;omega);simp only[zL k0];rw[qm,if_neg h4,hps]
   obtain⟨ls,hls⟩:∃ls,ls=qm tl t tl.length:=⟨_,rfl⟩;have hps':ps=I ls:=(by rw[hps,hls,show k.toNat=tl.length by omega]);have lin:InL bs.length ls:=(by rw[hls,<-tlen];exact(zbu tl t _).1);have lle:ls.length<=bs.length:=(by rw[hls,<-tlen];exact(zbu tl t _).2);have htt:((t.toNat:Nat):Int)=t:=(by omega);have hls2:ls=qm tl (t.toNat:Nat) tl.length:=by rw[htt];exact hls
   have hbad:∀j:Nat,j<ls.length->399<(qY (bs.getD (ls.getD j 0).toNat [])).length->Qf bs ms tl tn.toNat=none:=by
    rw[hls2];intro j hj hb;have h1:=znd (zwA (bs:=bs) (ms:=ms) hj hb) (tn.toNat-(t.toNat+1))
    rwa [show t.toNat+1+(tn.toNat-(t.toNat+1))=tn.toNat by omega]at h1
   have hgood:(∀j,j<ls.length->(qY (bs.getD (ls.getD j 0).toNat [])).length<=399)->Qf bs ms tl (t.toNat+1)=some (o++[(QZ bs ls ls.length,Zj ms ls ls.length 0)]):=by
    rw[hls2];exact fun hb=>zuq ho hb
   obtain⟨m,hm⟩:∃m:Int,m=ls.length:=⟨_,rfl⟩;obtain⟨pb,hpb⟩:∃pb,pb=BB true (QZ bs ls 0):=⟨_,rfl⟩;obtain⟨pm,hpm⟩:∃pm,pm=II true (Zj ms ls 0 0):=⟨_,rfl⟩;have hpbl:pb.length=ls.length:=(by rw[hpb,yz,kV]);have Ep:zgz a0 a1 ps=(pb,pm):=(by rw[<-zcf,zbB,hbs,hms,hps',yo,yd,zr,hpb,hpm,zss,zso]);have gps:V.frzs ps=ps:=(by rw[hps',zD]);have hpsl:ps.length=ls.length:=(by rw[hps',zj]);simp only[g1,g2,gps,Ep];refine⟨by rw[<-zcd];exact⟨hq0,ls,hps',by rwa [hbl],by omega⟩,by rw[hpb];exact znD _,by rw[hpm];exact zjn _,?_⟩
   refine hlp ((List V×List V)×Int) _ _ _ [1,4,5,6,7,9,10] (fun x=>[(1,none,.val (.box 27 (.agg [.slc false 57 (.agg [.slc false 2 (.int .i64 0) []]) a0,.slc false 29 (.slc false 2 (.int .i64 0) []) a1]))),(4,none,.val (.slc true 2 (.int .i64 0) vt)),(5,none,.val (.slc true 27 (.agg [.slc true 57 (.agg [.slc true 2 (.int .i64 0) []]) [],.slc true 29 (.slc true 2 (.int .i64 0) []) []]) es)),(6,none,.val (.int .i64 t)),(7,none,.val (.slc true 2 (.int .i64 0) ps)),(9,none,.val (.box 27 (.agg [.slc true 57 (.agg [.slc true 2 (.int .i64 0) []]) x.1.1,.slc true 29 (.slc true 2 (.int .i64 0) []) x.1.2]))),(10,none,.val (.int .i64 x.2))])
    (fun x=>0<=x.2/\x.2<=m/\x.1.1=BB true (QZ bs ls x.2.toNat)/\x.1.2=II true (Zj ms ls x.2.toNat 0)/\∀j:Nat,j<x.2.toNat->(qY (bs.getD (ls.getD j 0).toNat [])).length<=399) (fun x=>(m-x.2).toNat) (((pb,pm),0)) (by subst hL;rfl) ?_ ?_
   ·exact⟨by simp,by simp only;omega,hpb,hpm,fun j hj=>by simp at hj⟩
   rintro⟨⟨fs,gs⟩,i⟩ ⟨i0,i1,hfs,hgs,hok⟩ hfx3 ag3 hag3;simp only at i0 i1 hfs hgs hok
   conv=>cbv
   simp only[zo hL,decide_eq_true_eq,decide_eq_false_iff_not,hpsl,<-hm];refine⟨fun h4=>?_,fun h4=>?_⟩
   ·have hil:i.toNat<ls.length:=(by omega);have hxl:=lin i.toNat hil;obtain⟨xi,hxi⟩:∃xi,xi=bs.getD (ls.getD i.toNat 0).toNat []:=⟨_,rfl⟩;have hbx:Br xi:=(by rw[hxi];exact hbr _ (by omega));have hfl:fs.length=ls.length:=(by rw[hfs,yz,kV]);have hgl:gs.length=ls.length:=(by rw[hgs,ye,zcj]);have gf:fs.getD i.toNat (.agg [.slc true 2 (.int .i64 0) []])=.agg [.slc true 2 (.int .i64 0) (I xi)]:=(by rw[hfs,ku,zvL hil,<-hxi]);have gst:∀x d:V,(fs.set i.toNat x).getD i.toNat d=x:=fun x d=>(by rw[zd,kD (by omega)];rfl);obtain⟨⟨vs,cs⟩,hvs⟩:∃p,p=zah (I xi):=⟨_,rfl⟩;have Es:zcA (I xi)=(vs,cs):=by rw[<-Ki,hvs]
    have hvf:V.noFzs vs=true/\(cs≠0->399<(qY xi).length/\cs=3)/\(cs=0->(qY xi).length<=399/\vs=I (QI xi)):=by
     rw[zah,zr]at hvs;split at hvs
     ·obtain⟨rfl,rfl⟩:=zb ..▸hvs;exact⟨rfl,fun _=>⟨by omega,rfl⟩,fun h=>absurd h (by decide)⟩
     ·obtain⟨rfl,rfl⟩:=zb ..▸hvs;exact⟨zdV _,fun h=>absurd rfl h,fun _=>⟨by omega,rfl⟩⟩
    simp only[zo hL,sQ,hfl,gf,uy,um,uq,gst,List.length_set,Es];refine⟨i0,by omega,hil,hil,by rw[<-yO];exact⟨xi,rfl,hbx⟩,hvf.1,fun hc=>?_,fun hc=>⟨i0,by omega,hil,.inl (uy _ _ _),?_⟩⟩
    ·have h5:=hvf.2.1 hc;rw[hr,hf0,hbad i.toNat hil (by rw[<-hxi];exact h5.1),zp3]
    obtain⟨hx399,hvs2⟩:=hvf.2.2 hc;obtain⟨fs2,hfs2⟩:∃fs2,fs2=fs.set i.toNat (.agg [.slc true 2 (.int .i64 0) vs]):=⟨_,rfl⟩;have hfs3:fs2=BB true (QZ bs ls (i.toNat+1)):=(by rw[hfs2,hvs2,hfs,zzC,hxi,zvJ]);have hfs4:fs2.length=ls.length:=by rw[hfs3,yz,kV]
    refine hlp (List V×Int) _ _ _ [1,4,5,6,7,9,10,13] (fun w=>[(1,none,.val (.box 27 (.agg [.slc false 57 (.agg [.slc false 2 (.int .i64 0) []]) a0,.slc false 29 (.slc false 2 (.int .i64 0) []) a1]))),(4,none,.val (.slc true 2 (.int .i64 0) vt)),(5,none,.val (.slc true 27 (.agg [.slc true 57 (.agg [.slc true 2 (.int .i64 0) []]) [],.slc true 29 (.slc true 2 (.int .i64 0) []) []]) es)),(6,none,.val (.int .i64 t)),(7,none,.val (.slc true 2 (.int .i64 0) ps)),(9,none,.val (.box 27 (.agg [.slc true 57 (.agg [.slc true 2 (.int .i64 0) []]) fs2,.slc true 29 (.slc true 2 (.int .i64 0) []) w.1]))),(10,none,.val (.int .i64 i)),(13,none,.val (.int .i64 w.2))])
     (fun w=>0<=w.2/\w.2<=m/\w.1=II true (Zj ms ls i.toNat w.2.toNat)) (fun w=>(m-w.2).toNat) ((gs,0)) (by subst hL;rw[hfs2];rfl) ?_ ?_
    ·exact⟨by simp,by simp only;omega,hgs⟩
    rintro⟨hs,c⟩ ⟨c0,c1,hhs⟩ hfx4 ag4 hag4;simp only at c0 c1 hhs;have hhl:hs.length=ls.length:=(by rw[hhs,ye,zcj]);have gh:hs.getD i.toNat (.slc true 2 (.int .i64 0) [])=.slc true 2 (.int .i64 0) (I (dcR ms ls i.toNat c.toNat)):=(by rw[hhs,qo,zvF hil]);have hcl:c<m->c.toNat<ls.length:=fun _=>(by omega);obtain⟨z,hz⟩:∃z,z=mm ms (ls.getD i.toNat 0).toNat (ls.getD c.toNat 0).toNat:=⟨_,rfl⟩
    have hzr:c<m->0<=z/\z<=200:=fun hc=>by
     have hxc:=lin c.toNat (hcl hc);rw[hz];exact mmr _ _ (by omega) (by omega)
    have gz:c<m->(dcR ms ls i.toNat c.toNat).getD c.toNat 0=z:=fun hc=>by rw[zwu (hcl hc),hz]
    conv=>cbv
    simp only[zo hL,sQ,hhl,gh,zie,hpsl,<-hm];refine⟨fun h6=>⟨fun h7=>?_,fun h7=>?_⟩,fun h6=>?_⟩
    ·have hcl:=hcl h6;have hzr:=hzr h6;rw[gz h6,zk (n:=z-1) (by omega) (by omega),zk (n:=c+1) (by omega) (by omega)];refine⟨i0,by omega,hil,hil,c0,by omega,hil,hcl,hil,c0,by omega,hil,hcl,hag4 (_,c+1) ⟨by simp only;omega,by simp only;omega,?_⟩ (by simp only;omega)⟩;simp only[zL c0];rw[<-zvD (by omega),<-hz,hhs,<-zkN,<-zam]
    ·rw[zk (n:=c+1) (by omega) (by omega)];refine hag4 (_,c+1) ⟨by simp only;omega,by simp only;omega,?_⟩ (by simp only;omega);simp only[zL c0];rw[hhs,show c.toNat=i.toNat by omega,zsp]
    ·rw[zk (n:=i+1) (by omega) (by omega)];refine hag3 ((_,_),i+1) ⟨by simp only;omega,by simp only;omega,?_,?_,fun j hj=>?_⟩ (by simp only;omega)
     ·simp only[zL i0];exact hfs3
     ·simp only[zL i0];rw[hhs,show c.toNat=ls.length by omega,zsq]
     ·simp only[zL i0]at hj
      by_cases hji:j=i.toNat
      ·rw[hji,<-hxi];exact hx399
      ·exact hok j (by omega)
   ·have hgd:=hgood (fun j hj=>hok j (by omega));have hfs':fs=BB true (QZ bs ls ls.length):=(by rw[hfs,show i.toNat=ls.length by omega]);have hgs':gs=II true (Zj ms ls ls.length 0):=(by rw[hgs,show i.toNat=ls.length by omega]);rw[zk (n:=t+1) (by omega) (by omega)];refine⟨by simp only[zi,zq];omega,?_,hag (_,t+1) ⟨by simp only;omega,by simp only;omega,_,by simp only[zL t0];exact hgd,?_⟩ (by simp only;omega)⟩
    ·exact je rfl
    ·simp only;rw[zrC,hes,hfs',hgs'];rfl
  ·have:t=tn:=(by omega);rw[hr,hf0,<-this,ho,zp3,hes]
 ·cases h
def C1(o:Bool)(p:KN):V:=.agg [.slc o 57 (.agg [.slc o 2 (.int .i64 0) []]) (BB o p.1),.slc o 29 (.slc o 2 (.int .i64 0) []) (II o p.2)]
theorem zEa(o:Bool)(l:List KN):CC o l=l.map (C1 o):=rfl
theorem zhX(o o':Bool)(a b:List V):vw uN tab o 20 27 (.agg [.slc o' 57 (.agg [.slc o' 2 (.int .i64 0) []]) a,.slc o' 29 (.slc o' 2 (.int .i64 0) []) b])=some (.agg [.slc o 57 (.agg [.slc o 2 (.int .i64 0) []]) a,.slc o 29 (.slc o 2 (.int .i64 0) []) b]):=by cases o<;>rfl
theorem zh4(x y:V):uN.fld (.agg [x,y]) 0=x:=rfl
theorem zh3(x y:V):uN.fld (.agg [x,y]) 1=y:=rfl
theorem ziv(o:Bool)(l:List KN)(i:Nat):(CC o l).getD i (.agg [.slc o 57 (.agg [.slc o 2 (.int .i64 0) []]) [],.slc o 29 (.slc o 2 (.int .i64 0) []) []])=.agg [.slc o 57 (.agg [.slc o 2 (.int .i64 0) []]) (BB o (l.getD i ([],[])).1),.slc o 29 (.slc o 2 (.int .i64 0) []) (II o (l.getD i ([],[])).2)]:=by
 simp only[CC,zd,List.getElem?_map];cases l[i]? <;>rfl
theorem zDQ(o:Bool)(p:KN):(C1 o p).frz=C1 false p:=by
 simp[C1,V.frz,V.frzs,qH,qy]
theorem zw5(o:Bool)(l:List KN):V.frzs (CC o l)=CC false l:=by
 rw[V.frzs_eq];simp only[zEa,List.map_map];exact List.map_congr_left fun p _=>zDQ o p
theorem zBb(l:List KN):V.noFzs (CC true l)=true:=by
 rw[V.noFzs_eq];simp only[CC,List.all_map,List.all_eq_true];intro p _;simp[V.noFz,V.noFzs,znD,zjn]
def zua(f:List V->List V->Bool)(q:List V->List V->Prop):zN:=fun
 |[.slc false 27 (.agg [.slc false 57 (.agg [.slc false 2 (.int .i64 0) []]) [],.slc false 29 (.slc false 2 (.int .i64 0) []) []]) a,.slc false 27 (.agg [.slc false 57 (.agg [.slc false 2 (.int .i64 0) []]) [],.slc false 29 (.slc false 2 (.int .i64 0) []) []]) b]=>some ([q a b],.bool (f a b))
 |_=>none
def zBe(_ _:List V):Bool:=true
noncomputable def zhA(a b:List V):List V×Int:=bif qu a b then zfi a b else([],1)
theorem zjY:yI Tryz.prog 28 (zbE zhA Zs):=by
 intro args ps r h hp;unfold zbE at h;split at h
 ·rename_i a0 a1;cases h;have hq:Zs a0 a1:=(zm.1 hp).1;have g1:=Kd hq.1.isBB;have g2:=Kc hq.2.isII;generalize yU:qu=ko;generalize jG:Zs=uD;generalize zd8:zfi=zlM;generalize jv:Ju=Ys;refine zC (T:=tab) (B:=[(15,zak ko uD),(65,zbE zlM Ys)]) (Bi:=[]) [0,1,2,3] Tryz.func28 rfl rfl (by kernel_rfl) (ze rfl) mixed zP (by subst yU jG zd8 jv;exact(zn YT (zn zhV zA))) (by subst yU jG zd8 jv;exact zx) (by kernel_rfl) ?_;intro L lp rr hL hr hf hlp
  conv=>cbv
  simp only[zo hL,sQ,g1,g2];subst yU jG zd8 jv;refine⟨hq,fun h=>?_,fun h=>⟨JX hq h,?_⟩⟩
  ·rw[hr,zhA,h];rfl
  ·rw[hr,zhA,h];rfl
 ·cases h
theorem zjT:yI Tryz.prog 29 (zbE zhA Zs):=by
 intro args ps r h hp;unfold zbE at h;split at h
 ·rename_i a0 a1;cases h;have hq:Zs a0 a1:=(zm.1 hp).1;have g1:=Kd hq.1.isBB;have g2:=Kc hq.2.isII;generalize yU:qu=ko;generalize jG:Zs=uD;generalize zch:zeG=zju;generalize jv:Ju=Ys;refine zC (T:=tab) (B:=[(44,zak ko uD),(66,zoO zju Ys)]) (Bi:=[]) [0,1,2,3,4,5] Tryz.func29 rfl rfl (by kernel_rfl) (ze rfl) mixed zP (by subst yU jG zch jv;exact(zn zcO (zn zfL zA))) (by subst yU jG zch jv;exact zx) (by kernel_rfl) ?_;intro L lp rr hL hr hf hlp
  conv=>cbv
  simp only[zo hL,sQ,g1,g2];subst yU jG zch jv;have e0:zhA a0 a1=bif qu a0 a1 then znc (bl (kv a0) (uL a1) a0.length)else([],1):=rfl;have e1:zeG a0 a1=zp3 (bl (kv a0) (uL a1) a0.length):=rfl;rw[hr,e0,e1]
  cases bl (kv a0) (uL a1) a0.length with
  |none=>
   refine⟨hq,fun h=>?_,fun h=>⟨JX hq h,?_⟩⟩
   ·rw[h];rfl
   ·rw[h];exact⟨fun _=>rfl,fun h'=>(by cases h')⟩
  |some o=>
   refine⟨hq,fun h=>?_,fun h=>⟨JX hq h,?_⟩⟩
   ·rw[h];rfl
   ·rw[h];exact⟨fun h'=>(by cases h'),fun _=>rfl⟩
 ·cases h
end Go.Ax
