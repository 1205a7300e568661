import Derived.Test.YtdahdoichcnlgaaGreatB06p1
import Derived.Test.YtdahdoichcnlgaaGreatB03p1
import Derived.Test.YtdahdoichcnlgaaGreatB02p1
import Derived.Test.YtdahdoichcnlgaaGreatB05p1
import Derived.Test.YtdahdoichcnlgaaGreatB01p1
import Derived.Test.YtdahdoichcnlgaaGreatB04p1
set_option linter.all false
set_option maxRecDepth 100000
set_option maxHeartbeats 1000000
open Bool renaming not_eq_true'->yD
open Int renaming mul_comm->JO,mul_tdiv_cancel_left->zag,toNat_natCast->zW
open List renaming getD_eq_getElem?_getD->zd,getElem?_eq_getElem->zg,getElem?_eq_none->zD,getElem?_map->zN,length_append->zq,length_cons->zi,length_map->zQ,length_nil->zp,length_replicate->zS,mem_singleton->ya
open Nat renaming div_pos->YI,le_of_ble_eq_true->ze,le_refl->zt,sub_self->kF
open Option renaming getD_some->yZ,map_some->qb
open Option.some renaming injEq->za
open Prod.mk renaming injEq->zb
/-
 The points of a curve's cluster:places,parents,seconds and weights told by the rows of its branches. No conditions but those of the theorems.
-/
namespace Go.Ax
open Go.Proofs
theorem zpK{xs ys:List Int}{c:Nat}(h:shr xs ys c=true)(c1:1<=c)(c2:c<=200):
 (∀t,1<=t->t<c->cd (mul xs) t t=cd (mul ys) t t)/\(cd (mul xs) c c≠cd (mul ys) c c\/cd (mul xs) c c=0):=by
 rw[shr,zcF,Bool.and_eq_true,decide_eq_true_eq,zay xs (c:=c-1) (k:=201) (by omega),zay ys (c:=c-1) (k:=201) (by omega),QV xs (k:=201) (by omega),QV ys (k:=201) (by omega),show c-1+1=c by omega]at h;obtain⟨h1,h2⟩:=h;refine⟨fun t t1 t2=>?_,?_⟩
 ·have this:(jR xs c).getD (t-1) 0=(jR ys c).getD (t-1) 0:=by rw[h1]
  rw[QV xs (k:=c) (by omega),QV ys (k:=c) (by omega),show t-1+1=t by omega]at this;exact this
 ·simpa using h2
theorem zd4{a b:List Int}{t:Nat}(h:∀u,u<t->a.getD u 0=b.getD u 0):YN a t=YN b t:=by
 unfold YN;split
 ·exact h _ (by omega)
 ·rfl
theorem zdZ{xs ys a b:List Int}{t:Nat}(hc:cd (mul xs) t t=cd (mul ys) t t)(h:∀u,u<t->a.getD u 0=b.getD u 0):Jc xs a t=Jc ys b t:=by
 unfold Jc;rw[hc];split
 ·rename_i h1;have:=zAY (mul ys) t t;exact h _ (by omega)
 ·rfl
def nW(bs:List (List Int))(R:Nat->List Int)(L:Nat->Nat)(m:Nat)(q:Int):Int:=sg (fun k=>sg (fun t=>if(R k).getD t 0=q then(mul (bs.getD k []) t:Int)else 0) (L k)) m
structure Pts (bs ms:List (List Int)) (m:Nat) (R:Nat->List Int) (L:Nat->Nat) (P S Q:List Int):Prop where
 sl:S.length=P.length
 ql:Q.length=P.length
 hin:∀k t,k<m->t<L k->0<=(R k).getD t 0/\(R k).getD t 0<P.length
 sep:∀k k' t t',k<m->k'<m->t<L k->t'<L k'->(R k).getD t 0=(R k').getD t' 0->t=t'/\(k=k'\/(t:Int)<mm ms k k')
 par:∀k t,k<m->t<L k->P.getD ((R k).getD t 0).toNat 0=YN (R k) t
 sec:∀k t,k<m->t<L k->S.getD ((R k).getD t 0).toNat 0=Jc (bs.getD k []) (R k) t
 wt:∀q:Nat,q<P.length->Q.getD q 0=nW bs R L m q
 sur:∀q:Nat,q<P.length->∃k t,k<m/\t<L k/\(R k).getD t 0=q
 asc:∀k t,k<m->t+1<L k->(R k).getD t 0<(R k).getD (t+1) 0
 zero:∀k,k<m->0<L k->(R k).getD 0 0=0
theorem zrU{bs:List (List Int)}{R R':Nat->List Int}{L L':Nat->Nat}{m:Nat}{q:Int}(hR:∀k,k<m->R k=R' k)(hL:∀k,k<m->L k=L' k):nW bs R L m q=nW bs R' L' m q:=
 qk fun k hk=>by rw[hR k hk,hL k hk]
theorem Pts.congr{bs ms:List (List Int)}{m:Nat}{R R':Nat->List Int}{L L':Nat->Nat}{P S Q:List Int}(h:Pts bs ms m R L P S Q)(hR:∀k,k<m->R k=R' k)(hL:∀k,k<m->L k=L' k):Pts bs ms m R' L' P S Q:=by
 refine⟨h.sl,h.ql,fun k t hk ht=>?_,fun k k' t t' hk hk' ht ht'=>?_,fun k t hk ht=>?_,fun k t hk ht=>?_,fun q hq=>?_,fun q hq=>?_,fun k t hk ht=>?_,fun k hk h0=>?_⟩
 ·rw[<-hR k hk];exact h.hin k t hk (by rw[hL k hk];exact ht)
 ·rw[<-hR k hk,<-hR k' hk'];exact h.sep k k' t t' hk hk' (by rw[hL k hk];exact ht) (by rw[hL k' hk'];exact ht')
 ·rw[<-hR k hk];exact h.par k t hk (by rw[hL k hk];exact ht)
 ·rw[<-hR k hk];exact h.sec k t hk (by rw[hL k hk];exact ht)
 ·rw[h.wt q hq,zrU hR hL]
 ·obtain⟨k,t,hk,ht,e⟩:=h.sur q hq;exact⟨k,t,hk,by rw[<-hL k hk];exact ht,by rw[<-hR k hk];exact e⟩
 ·rw[<-hR k hk];exact h.asc k t hk (by rw[hL k hk];exact ht)
 ·rw[<-hR k hk];exact h.zero k hk (by rw[hL k hk];exact h0)
theorem Pts.more{bs ms:List (List Int)}{m:Nat}{R:Nat->List Int}{L:Nat->Nat}{P S Q:List Int}(h:Pts bs ms m R L P S Q)(h0:L m=0):Pts bs ms (m+1) R L P S Q:=by
 have hlt:∀{k t:Nat},k<m+1->t<L k->k<m:=fun{k t} hk ht=>by
  by_cases e:k=m
  ·rw[e,h0]at ht;omega
  ·omega
 refine⟨h.sl,h.ql,fun k t hk ht=>h.hin k t (hlt hk ht) ht,fun k k' t t' hk hk' ht ht'=>h.sep k k' t t' (hlt hk ht) (hlt hk' ht') ht ht',fun k t hk ht=>h.par k t (hlt hk ht) ht,fun k t hk ht=>h.sec k t (hlt hk ht) ht,fun q hq=>?_,fun q hq=>?_,fun k t hk ht=>h.asc k t (hlt hk ht) ht,fun k hk hp=>h.zero k (hlt hk hp) hp⟩
 ·rw[h.wt q hq,nW,nW,sg,h0,sg];omega
 ·obtain⟨k,t,hk,ht,e⟩:=h.sur q hq;exact⟨k,t,by omega,ht,e⟩
theorem zCt{f:Nat->Int}{M:Nat->Nat}(hM:∀t,M t<=64)(q:Int){n:Nat}(hi:∀t t',t<n->t'<n->f t=f t'->t=t'):0<=sg (fun t=>if f t=q then(M t:Int)else 0) n/\sg (fun t=>if f t=q then(M t:Int)else 0) n<=64:=by
 by_cases h:∃t,t<n/\f t=q
 ·obtain⟨t,ht,rfl⟩:=h;rw[zgD ht fun u hu hne=>if_neg fun e=>hne (hi u t hu ht e),if_pos rfl];have:=hM t;omega
 ·rw[Ko fun t ht=>if_neg fun e=>h ⟨t,ht,e⟩];omega
theorem Pts.wle{bs ms:List (List Int)}{m:Nat}{R:Nat->List Int}{L:Nat->Nat}{P S Q:List Int}(h:Pts bs ms m R L P S Q)(hb:∀k,k<m->Br (bs.getD k []))(q:Int):0<=nW bs R L m q/\nW bs R L m q<=64*m:=by
 have key:∀k,k<m->0<=sg (fun t=>if(R k).getD t 0=q then(mul (bs.getD k []) t:Int)else 0) (L k)/\sg (fun t=>if(R k).getD t 0=q then(mul (bs.getD k []) t:Int)else 0) (L k)<=64:=fun k hk=>
  zCt (f:=fun t=>(R k).getD t 0) (Yg (hb k hk)) q fun t t' ht ht' e=>(h.sep k k t t' hk hk ht ht' e).1
 exact⟨zhj fun k hk=>(key k hk).1,zmt fun k hk=>(key k hk).2⟩
structure RowGrow (i j:Nat) (R R':Nat->List Int) (L L':Nat->Nat) (v:Int):Prop where
 lj:L i=j
 rl:(R i).length=j
 r':R' i=R i++[v]
 l':L' i=j+1
 ro:∀k,k<i->R' k=R k
 lo:∀k,k<i->L' k=L k
theorem RowGrow.old{i j:Nat}{R R':Nat->List Int}{L L':Nat->Nat}{v:Int}(g:RowGrow i j R R' L L' v){k t:Nat}(hk:k<i+1)(ht:t<L k):(R' k).getD t 0=(R k).getD t 0:=by
 have:=g.rl;have:=g.lj;by_cases e:k=i
 ·subst e;rw[g.r',jG (by omega),if_neg (by omega)]
 ·rw[g.ro k (by omega)]
theorem RowGrow.new{i j:Nat}{R R':Nat->List Int}{L L':Nat->Nat}{v:Int}(g:RowGrow i j R R' L L' v):(R' i).getD j 0=v:=by
 have:=g.rl;rw[g.r',jG (by omega),if_pos (by omega)]
theorem RowGrow.cases{i j:Nat}{R R':Nat->List Int}{L L':Nat->Nat}{v:Int}(g:RowGrow i j R R' L L' v){k t:Nat}(hk:k<i+1)(ht:t<L' k):t<L k\/(k=i/\t=j):=by
 have:=g.lj;have:=g.l';by_cases e:k=i
 ·subst e;by_cases e2:t=j
  ·exact .inr ⟨rfl,e2⟩
  ·exact .inl (by omega)
 ·rw[g.lo k (by omega)]at ht;exact .inl ht
theorem RowGrow.nW{bs:List (List Int)}{i j:Nat}{R R':Nat->List Int}{L L':Nat->Nat}{v:Int}(g:RowGrow i j R R' L L' v)(q:Int):nW bs R' L' (i+1) q=nW bs R L (i+1) q+if v=q then(mul (bs.getD i []) j:Int)else 0:=by
 have e1:Go.Ax.nW bs R' L' i q=Go.Ax.nW bs R L i q:=zrU (fun k hk=>g.ro k hk) fun k hk=>g.lo k hk;have e2:∀(R:Nat->List Int) (L:Nat->Nat),Go.Ax.nW bs R L (i+1) q=Go.Ax.nW bs R L i q+sg (fun t=>if(R i).getD t 0=q then(mul (bs.getD i []) t:Int)else 0) (L i):=fun R L=>rfl;rw[e2,e2,e1,g.l',g.lj,sg,g.new];rw[qk (n:=j) fun t ht=>by rw[g.old (k:=i) (t:=t) (by omega) (by rw[g.lj];exact ht)]];omega
theorem RowGrow.sep{bs ms:List (List Int)}{P S Q:List Int}{i j:Nat}{R R':Nat->List Int}{L L':Nat->Nat}{v:Int}(g:RowGrow i j R R' L L' v)(h:Pts bs ms (i+1) R L P S Q)
 (hsym:∀k,k<i->mm ms k i=mm ms i k) (hA:∀k t,k<i+1->t<L k->(R k).getD t 0=v->t=j/\k<i/\(j:Int)<mm ms i k):
 ∀k k' t t',k<i+1->k'<i+1->t<L' k->t'<L' k'->(R' k).getD t 0=(R' k').getD t' 0->t=t'/\(k=k'\/(t:Int)<mm ms k k'):=by
 intro k k' t t' hk hk' ht ht' e;rcases g.cases hk ht with h1|⟨h1,h2⟩
 ·rw[g.old hk h1]at e;rcases g.cases hk' ht' with h3|⟨h3,h4⟩
  ·rw[g.old hk' h3]at e;exact h.sep k k' t t' hk hk' h1 h3 e
  ·rw[h3,h4,g.new]at e;obtain⟨a1,a2,a3⟩:=hA k t hk h1 e;rw[h3,h4,a1,hsym k a2];exact⟨rfl,.inr a3⟩
 ·rw[h1,h2,g.new]at e;rcases g.cases hk' ht' with h3|⟨h3,h4⟩
  ·rw[g.old hk' h3]at e;obtain⟨a1,a2,a3⟩:=hA k' t' hk' h3 e.symm;rw[h1,h2,a1];exact⟨rfl,.inr a3⟩
  ·rw[h1,h2,h3,h4];exact⟨rfl,.inl rfl⟩
theorem RowGrow.pre{i j:Nat}{R R':Nat->List Int}{L L':Nat->Nat}{v:Int}(g:RowGrow i j R R' L L' v){k t u:Nat}(hk:k<i+1)(ht:t<L' k)(hu:u<t):(R' k).getD u 0=(R k).getD u 0:=by
 rcases g.cases hk ht with h1|⟨h1,h2⟩
 ·exact g.old hk (by omega)
 ·have:=g.lj;exact g.old hk (by rw[h1];omega)
theorem zzo{bs ms:List (List Int)}(hc:CvP bs ms){P S Q:List Int}{i j k0:Nat}{R R':Nat->List Int}{L L':Nat->Nat}{v:Int}(hi:i<bs.length)(h:Pts bs ms (i+1) R L P S Q)(g:RowGrow i j R R' L L' v)
 (hk0:k0<i) (hm:(j:Int)<mm ms i k0) (hl0:j<L k0) (hv:v=(R k0).getD j 0) (hcmp:∀t,t<j->(R i).getD t 0=(R k0).getD t 0):
 Pts bs ms (i+1) R' L' P S (Q.set v.toNat (W (Q.getD v.toNat 0+mul (bs.getD i []) j))):=by
 have hsym:∀k,k<i->mm ms k i=mm ms i k:=fun k hk=>hc.tab.sym i hi k (by omega);have hin0:=h.hin k0 j (by omega) hl0;rw[<-hv]at hin0
 have hA:∀k t,k<i+1->t<L k->(R k).getD t 0=v->t=j/\k<i/\(j:Int)<mm ms i k:=fun k t hk ht e=>by
  rw[hv]at e;obtain⟨e1,e2⟩:=h.sep k k0 t j hk (by omega) ht hl0 e;have hki:k≠i:=fun e3=>by have:=g.lj;rw[e3]at ht;omega
  refine⟨e1,by omega,?_⟩;by_cases e3:k=k0
  ·rw[e3];exact hm
  ·have e4:(t:Int)<mm ms k k0:=e2.resolve_left e3;have hu:=hc.ult i k k0 hi (by omega) (by omega) (by omega) (by omega) (fun e=>e3 e.symm);have hs:=hc.tab.sym k (by omega) k0 (by omega);omega
 have hn0:∀u,u<j->(R' i).getD u 0=(R k0).getD u 0:=fun u hu=>by rw[g.old (by omega) (by rw[g.lj];exact hu),hcmp u hu]
 refine⟨h.sl,by rw[List.length_set];exact h.ql,fun k t hk ht=>?_,g.sep h hsym hA,fun k t hk ht=>?_,fun k t hk ht=>?_,fun q hq=>?_,fun q hq=>?_,fun k t hk ht=>?_,fun k hk h0=>?_⟩
 ·rcases g.cases hk ht with h1|⟨h1,h2⟩
  ·rw[g.old hk h1];exact h.hin k t hk h1
  ·rw[h1,h2,g.new];exact hin0
 ·rcases g.cases hk ht with h1|⟨h1,h2⟩
  ·rw[g.old hk h1,h.par k t hk h1];exact zd4 fun u hu=>(g.pre hk ht hu).symm
  ·rw[h1,h2,g.new,hv,h.par k0 j (by omega) hl0];exact zd4 fun u hu=>(hn0 u hu).symm
 ·rcases g.cases hk ht with h1|⟨h1,h2⟩
  ·rw[g.old hk h1,h.sec k t hk h1];exact zdZ rfl fun u hu=>(g.pre hk ht hu).symm
  ·rw[h1,h2,g.new,hv,h.sec k0 j (by omega) hl0];by_cases e0:j=0
   ·subst e0;rfl
   ·have hr:=(hc.tab.row i hi).2 k0 (by omega);have hs:=(zpK (hc.shr i k0 hi (by omega) (by omega)) (by omega) (by have:=hr.2 (by omega);omega)).1 j (by omega) (by omega);exact zdZ hs.symm fun u hu=>(hn0 u hu).symm
 ·have hw:=h.wle (fun k hk=>jL (hc.br k (by omega))) v;have hq2:=h.ql;have h6:=hc.n6;have hml:=Yg (jL (hc.br i hi)) j
  have e1:Q.getD v.toNat 0=nW bs R L (i+1) v:=by
   rw[h.wt v.toNat (by omega),show((v.toNat:Nat):Int)=v by omega]
  have e2:W (Q.getD v.toNat 0+mul (bs.getD i []) j)=Q.getD v.toNat 0+mul (bs.getD i []) j:=zl (by omega) (by omega);rw[g.nW,e2];by_cases e:v=q
  ·rw[if_pos e,<-e,zd,show q=v.toNat by omega,List.getElem?_set_self (by omega),<-e1];rfl
  ·rw[if_neg e,zd,List.getElem?_set_ne (by omega),<-zd,h.wt q hq];omega
 ·obtain⟨k,t,hk,ht,e⟩:=h.sur q hq;refine⟨k,t,hk,?_,by rw[g.old hk ht];exact e⟩;by_cases e2:k=i
  ·have:=g.lj;rw[e2]at ht ⊢;rw[g.l'];omega
  ·rw[g.lo k (by omega)];exact ht
 ·rcases g.cases hk ht with h1|⟨h1,h2⟩
  ·rw[g.old hk h1,g.old hk (by omega)];exact h.asc k t hk h1
  ·rw[h1,h2,g.new,hv,hn0 t (by omega),<-h2];exact h.asc k0 t (by omega) (by rw[h2];exact hl0)
 ·rcases g.cases hk h0 with h1|⟨h1,h2⟩
  ·rw[g.old hk h1];exact h.zero k hk h1
  ·rw[h1,h2,g.new,hv];rw[<-h2];exact h.zero k0 (by omega) (by omega)
theorem zzp{bs ms:List (List Int)}(hc:CvP bs ms){P S Q:List Int}{i j:Nat}{R R':Nat->List Int}{L L':Nat->Nat}{v:Int}(hi:i<bs.length)(h:Pts bs ms (i+1) R L P S Q)(g:RowGrow i j R R' L L' v)
 (hn:∀k,k<i->¬(j:Int)<mm ms i k) (hv:v=P.length):
 Pts bs ms (i+1) R' L' (P++[YN (R i) j]) (S++[Jc (bs.getD i []) (R i) j]) (Q++[(mul (bs.getD i []) j:Int)]):=by
 have hsl:=h.sl;have hql:=h.ql;have hsym:∀k,k<i->mm ms k i=mm ms i k:=fun k hk=>hc.tab.sym i hi k (by omega)
 have hA:∀k t,k<i+1->t<L k->(R k).getD t 0=v->t=j/\k<i/\(j:Int)<mm ms i k:=fun k t hk ht e=>by
  have:=h.hin k t hk ht;omega
 have hlen:(P++[YN (R i) j]).length=P.length+1:=by simp
 refine⟨by simp[h.sl],by simp[h.ql],fun k t hk ht=>?_,g.sep h hsym hA,fun k t hk ht=>?_,fun k t hk ht=>?_,fun q hq=>?_,fun q hq=>?_,fun k t hk ht=>?_,fun k hk h0=>?_⟩
 ·rw[hlen];rcases g.cases hk ht with h1|⟨h1,h2⟩
  ·rw[g.old hk h1];have:=h.hin k t hk h1;omega
  ·rw[h1,h2,g.new];omega
 ·rcases g.cases hk ht with h1|⟨h1,h2⟩
  ·have hh:=h.hin k t hk h1;rw[g.old hk h1,jG (by omega),if_neg (by omega),h.par k t hk h1];exact zd4 fun u hu=>(g.pre hk ht hu).symm
  ·subst h1 h2;rw[g.new,jG (by omega),if_pos (by omega)];exact zd4 fun u hu=>(g.pre hk ht hu).symm
 ·rcases g.cases hk ht with h1|⟨h1,h2⟩
  ·have hh:=h.hin k t hk h1;rw[g.old hk h1,jG (by omega),if_neg (by omega),h.sec k t hk h1];exact zdZ rfl fun u hu=>(g.pre hk ht hu).symm
  ·subst h1 h2;rw[g.new,jG (by omega),if_pos (by omega)];exact zdZ rfl fun u hu=>(g.pre hk ht hu).symm
 ·rw[hlen]at hq;rw[g.nW,jG (by omega)];by_cases e:q=Q.length
  ·rw[if_pos e,if_pos (by omega)]
   have:nW bs R L (i+1) q=0:=Ko fun k hk=>Ko fun t ht=>if_neg fun e2=>by
    have:=h.hin k t hk ht;omega
   rw[this];omega
  ·rw[if_neg e,if_neg (by omega),h.wt q (by omega)];omega
 ·rw[hlen]at hq;by_cases e:q=P.length
  ·exact⟨i,j,by omega,by rw[g.l'];omega,by rw[g.new];omega⟩
  ·obtain⟨k,t,hk,ht,e⟩:=h.sur q (by omega);refine⟨k,t,hk,?_,by rw[g.old hk ht];exact e⟩;by_cases e2:k=i
   ·have:=g.lj;rw[e2]at ht ⊢;rw[g.l'];omega
   ·rw[g.lo k (by omega)];exact ht
 ·rcases g.cases hk ht with h1|⟨h1,h2⟩
  ·rw[g.old hk h1,g.old hk (by omega)];exact h.asc k t hk h1
  ·have hlj:=g.lj;have hh:=h.hin i t (by omega) (by omega);rw[h1,h2,g.new,g.old (by omega) (by omega)];omega
 ·rcases g.cases hk h0 with h1|⟨h1,h2⟩
  ·rw[g.old hk h1];exact h.zero k hk h1
  ·rw[h1,h2,g.new,hv]
   have hi0:i=0:=Classical.byContradiction fun hne=>by
    have h3:=hn 0 (by omega);have h4:=(hc.tab.row i hi).2 0 (by omega);have h5:=h4.2 hne;omega
   by_cases hp:P.length=0
   ·omega
   ·obtain⟨k',t',hk',ht',_⟩:=h.sur 0 (by omega);have hlj:=g.lj;rw[show k'=i by omega,hlj]at ht';omega
def rwN(names:List (List Int))(own:List Int)(i k:Nat):List Int:=if k=i then own else names.getD k []
def lnA(bs ms:List (List Int))(i j k:Nat):Nat:=if k=i then j else jm bs ms k
theorem zrr{bs ms names:List (List Int)}{own:List Int}{i j:Nat}{v:Int}(ho:own.length=j):RowGrow i j (rwN names own i) (rwN names (own++[v]) i) (lnA bs ms i j) (lnA bs ms i (j+1)) v:=
 ⟨if_pos rfl,by rw[rwN,if_pos rfl];exact ho,by rw[rwN,rwN,if_pos rfl,if_pos rfl],if_pos rfl,fun k hk=>by rw[rwN,rwN,if_neg (by omega),if_neg (by omega)],fun k hk=>by rw[lnA,lnA,if_neg (by omega),if_neg (by omega)]⟩
theorem zrt{bs ms names:List (List Int)}(hc:CvP bs ms){i:Nat}(hi:i<bs.length){s:PSt}(hk:ClOk bs ms i s names)(h0:Pts bs ms i (fun k=>names.getD k []) (jm bs ms) s.P s.S s.Q):∀j,j<=jm bs ms i->
 Pts bs ms (i+1) (rwN names (js (bs.getD i []) ms names i s j).own i) (lnA bs ms i j) (js (bs.getD i []) ms names i s j).P (js (bs.getD i []) ms names i s j).S (js (bs.getD i []) ms names i s j).Q
 |0,_=>by
  have h1:Pts bs ms i (rwN names [] i) (lnA bs ms i 0) s.P s.S s.Q:=h0.congr (fun k hk=>by rw[rwN,if_neg (by omega)]) fun k hk=>by rw[lnA,if_neg (by omega)]
  exact h1.more (if_pos rfl)
 |j+1,hj=>by
  have ih:=zrt hc hi hk h0 j (by omega);obtain⟨k1,k2,_⟩:=zao hc hi hk j (by omega);rw[js];generalize js (bs.getD i []) ms names i s j=z at ih k1 k2 ⊢;have hoi:rwN names z.own i i=z.own:=if_pos rfl;unfold stJ
  cases hn:nmK ms i j with
  |some k0=>
   obtain⟨a1,a2⟩:=zhx hn;have hsym:=hc.tab.sym i hi k0 (by omega);have hmk:=zaO hc (i:=k0) (k:=i) (by omega) hi;have e0:rwN names z.own i k0=names.getD k0 []:=if_neg (by omega);have:=zzo hc hi ih (zrr (v:=(names.getD k0 []).getD j 0) k2.ol) a1 a2 (by rw[lnA,if_neg (by omega)];omega) (by rw[e0]) fun t ht=>(by rw[hoi,e0];exact k2.ocmp k0 t a1 ht (by omega));exact this
  |none=>
   have:=zzp hc hi ih (zrr (v:=(z.P.length:Int)) k2.ol) (zlp hn) rfl;rw[hoi]at this;exact this
theorem zvw{bs ms:List (List Int)}(hc:CvP bs ms):∀i,i<=bs.length->Pts bs ms i (fun k=>(yz bs ms i).2.getD k []) (jm bs ms) (yz bs ms i).1.P (yz bs ms i).1.S (yz bs ms i).1.Q
 |0,_=>⟨rfl,rfl,fun k t hk=>absurd hk (by omega),fun k k' t t' hk=>absurd hk (by omega),fun k t hk=>absurd hk (by omega),fun k t hk=>absurd hk (by omega),fun q hq=>absurd hq (by simp[yz]),fun q hq=>absurd hq (by simp[yz]),fun k t hk=>absurd hk (by omega),fun k hk=>absurd hk (by omega)⟩
 |i+1,hi=>by
  have h0:=ze6 hc i (by omega);have h1:=zrt hc (i:=i) (by omega) h0 (zvw hc i (by omega)) (jm bs ms i) (zt _);have hnl:=h0.nl;refine Pts.congr h1 (fun k hk=>?_) fun k hk=>?_
  ·rw[yz,zb2 (by omega),hnl,rwN]
  ·rw[lnA];split
   ·rename_i e;rw[e]
   ·rfl
end Go.Ax
namespace Go.Ax
open Go.Proofs
end Go.Ax
namespace Go.Ax
open Go.Proofs
def sqS:List Int->Int
 |[]=>0
 |m::l=>m*m+sqS l
section
variable {xs:List Int}{k:Nat}
structure Semi (xs ys:List Int) (k e r q L:Nat):Prop where
 e1:(dv xs).getD k 0=(e:Int)
 hr:0<r
 re:r<e
 kk:JJ xs k=((q*e+r:Nat):Int)
 low:∀i,i<L->mul xs i=e*mul ys i
 atL:mul xs L=r
 one:∀i,L<=i->mul ys i=1
 pos:1<=L
 last:mul ys (L-1)=1
 sq:sqS ((jE xs).take L)=zA0 xs k+q*(e*e)
 len:L<(jE xs).length
end
def dS(M N:Nat->Nat):Nat->Int
 |0=>0
 |n+1=>dS M N n+(M n:Int)*(N n:Int)
theorem zqU{M N:Nat->Nat}(hM:∀i,M i<=64)(hN:∀i,N i<=64):∀n,0<=dS M N n/\dS M N n<=4096*n
 |0=>by simp[dS]
 |n+1=>by
  have ih:=zqU hM hN n;have h1:0<=(M n:Int)*(N n:Int):=Int.mul_nonneg (by omega) (by omega);have h2:(M n:Int)*(N n:Int)<=64*64:=Int.mul_le_mul (by have:=hM n;omega) (by have:=hN n;omega) (by omega) (by omega);simp only[dS];omega
theorem zjO{xs ys:List Int}(hx:Br xs)(hy:Br ys){c:Nat}(hc:c<=1000000):zrZ xs ys c=dS (mul xs) (mul ys) c:=by
 have key:∀n,n<=c->zi9 (qX xs c) (qX ys c) n=dS (mul xs) (mul ys) n:=by
  intro n
  induction n with
  |zero=>intro _;rfl
  |succ n ih=>
   intro hn;have b1:=zqU (Yg hx) (Yg hy) n;have b2:=zqU (Yg hx) (Yg hy) (n+1);have h1:0<=(mul xs n:Int)*(mul ys n:Int):=Int.mul_nonneg (by omega) (by omega);have h2:(mul xs n:Int)*(mul ys n:Int)<=64*64:=Int.mul_le_mul (by have:=Yg hx n;omega) (by have:=Yg hy n;omega) (by omega) (by omega);simp only[dS]at b2;simp only[zi9,dS];rw[ih (by omega),Kb,Kb,jx _ _ _ _ (by omega),jx _ _ _ _ (by omega),W,W,zl (n:=(mul xs n:Int)*(mul ys n:Int)) (by omega) (by omega),zl (by omega) (by omega)]
 exact key c (zt _)
end Go.Ax
namespace Go.Ax
open Go.Proofs
theorem zjf{M:Nat->Nat}(h:GoodM M)(t:Nat):(zlb M (t+1)= -1/\cd M (t+1) (t+1)=0/\prs M (t+1) (t+1)=[t])\/
 ∃a,a<t/\Jl M a (t+1)/\zlb M (t+1)=a/\cd M (t+1) (t+1)=((t+1:Nat):Int)-a/\prs M (t+1) (t+1)=[a,t]:=by
 have e:=zoD h (i:=t+1) (j:=t+1) (by omega) (zt _);rcases zpL h t with⟨e1,e2⟩|⟨a,h1,h2,h3,h4⟩
 ·refine .inl ⟨e1,?_,e2⟩;rw[e,e2];rfl
 ·refine .inr ⟨a,h1,h2,h3,?_,h4⟩;rw[e,h4];rfl
theorem zfH(xs own:List Int):Jc xs own 0= -1:=by rw[Jc,if_neg (fun h=>absurd h.1 (Nat.lt_irrefl 0))]
theorem zpX(own:List Int):YN own 0= -1:=rfl
theorem zdh(own:List Int)(t:Nat):YN own (t+1)=own.getD t 0:=by rw[YN,if_pos (by omega),Nat.add_sub_cancel]
theorem zfI{xs own:List Int}{t:Nat}(h:cd (mul xs) (t+1) (t+1)=0):Jc xs own (t+1)= -1:=if_neg fun e=>e.2 h
theorem zey{xs own:List Int}{t a:Nat}(ha:a<t)(h:cd (mul xs) (t+1) (t+1)=((t+1:Nat):Int)-a):Jc xs own (t+1)=own.getD a 0:=by
 rw[Jc,if_pos ⟨by omega,by omega⟩,h];congr 1;omega
theorem zbe{bs ms:List (List Int)}(hc:CvP bs ms){i:Nat}(hi:i<bs.length):1<=jm bs ms i/\(Yh (bs.getD i [])).length<=jm bs ms i:=by
 have hb:=jL (hc.br i hi);have h1:=zms hb;have h2:(jE (bs.getD i [])).length=(Yh (bs.getD i [])).length:=by rw[zla,Zc,zQ]
 rw[jm,Kz];omega
section
variable {bs ms:List (List Int)}{P S Q:List Int}{R:Nat->List Int}
theorem Pts.rows(hc:CvP bs ms)(h:Pts bs ms bs.length R (jm bs ms) P S Q)(hcmp:∀i k j:Nat,i<bs.length->k<bs.length->i≠k->(j:Int)<mm ms i k->(R i).getD j 0=(R k).getD j 0):
 RowsOk bs.length P.length (jm bs ms) (fun i j=>((R i).getD j 0).toNat) (fun i k=>(mm ms i k).toNat):=by
 refine⟨fun i j hi hj=>?_,fun i k j j' hi hk hj hj' e=>?_,fun i k j hi hk hne hj=>?_,fun i k hi hk _=>⟨zaO hc hi hk,?_⟩⟩
 ·have:=h.hin i j hi hj;omega
 ·have h1:=h.hin i j hi hj;have h2:=h.hin k j' hk hj';obtain⟨e1,e2⟩:=h.sep i k j j' hi hk hj hj' (by omega);refine⟨e1,?_⟩;rcases e2 with e2|e2
  ·exact .inl e2
  ·exact .inr (by omega)
 ·rw[hcmp i k j hi hk hne (by omega)]
 ·have:=zaO hc hk hi;rw[hc.tab.sym k hk i hi];exact this
theorem Pts.wSm(h:Pts bs ms bs.length R (jm bs ms) P S Q){q:Nat}(hq:q<P.length):Q.getD q 0=wSm (fun i j=>mul (bs.getD i []) j) (fun i j=>((R i).getD j 0).toNat) (jm bs ms) bs.length q:=by
 rw[h.wt q hq];refine qk fun i hi=>qk fun j hj=>?_;have:=h.hin i j hi hj;dsimp only;by_cases e:(R i).getD j 0=q
 ·rw[if_pos e,if_pos (by omega)]
 ·rw[if_neg e,if_neg (by omega)]
theorem Pts.clP(hc:CvP bs ms)(h:Pts bs ms bs.length R (jm bs ms) P S Q)(hcmp:∀i k j:Nat,i<bs.length->k<bs.length->i≠k->(j:Int)<mm ms i k->(R i).getD j 0=(R k).getD j 0)(h24:P.length<=24):ClP P S Q:=by
 have h1:=hc.n1;have h6:=hc.n6;have hg:∀i,i<bs.length->GoodM (mul (bs.getD i [])):=fun i hi=>(Yw (jL (hc.br i hi))).1;refine⟨?_,h24,h.sl,h.ql,fun q hq=>?_,fun q hq=>?_,fun q q' hq hlt=>?_⟩
 ·have:=h.hin 0 0 (by omega) (by have:=(zbe hc (i:=0) (by omega)).1;omega);omega
 ·rw[h.wt q hq];have:=h.wle (fun k hk=>jL (hc.br k hk)) q;omega
 ·obtain⟨k,t,hk,ht,e⟩:=h.sur q hq;have hp:=h.par k t hk ht;have hs:=h.sec k t hk ht;have hz:=h.zero k hk (by omega);have eq:((R k).getD t 0).toNat=q:=by omega
  rw[eq]at hp hs
  cases t with
  |zero=>
   have:q=0:=(by omega);subst this;rw[zcv,hp,hs,zfH,zpX];exact⟨rfl,rfl⟩
  |succ t=>
   have ha:=h.asc k t hk ht;have hi:=h.hin k t hk (by omega);rw[zcu (by omega),hp,hs,zdh];refine⟨by omega,?_⟩;rcases zjf (hg k hk) t with⟨_,e2,_⟩|⟨a,a1,a2,_,a4,_⟩
   ·exact .inl (zfI e2)
   ·right;rw[zey a1 a4];have hia:=h.hin k a hk (by omega);refine⟨hia.1,?_⟩;rw[h.par k t hk (by omega),h.sec k t hk (by omega)];obtain⟨u,rfl⟩:∃u,t=u+1:=⟨t-1,by omega⟩;rw[zdh];by_cases hau:a=u
    ·left;rw[hau]
    ·right;rcases zjf (hg k hk) u with⟨b1,_,_⟩|⟨b,b1,b2,b3,b4,_⟩
     ·have:=zuV (hg k hk) (a:=a) (j:=u) (by omega) (zpT (hg k hk) (by omega) (by omega) a2);omega
     ·have:=zuV (hg k hk) (a:=a) (j:=u) (by omega) (zpT (hg k hk) (by omega) (by omega) a2);rw[zey b1 b4,show a=b by omega]
 ·rw[Kd];simp only[yD,Bool.and_eq_false_iff,decide_eq_false_iff_not];obtain⟨k,t,hk,ht,e⟩:=h.sur q hq;obtain⟨k',t',hk',ht',e'⟩:=h.sur q' (by omega);have hp:=h.par k t hk ht;have hs:=h.sec k t hk ht;have hp':=h.par k' t' hk' ht';have hs':=h.sec k' t' hk' ht';rw[show((R k).getD t 0).toNat=q by omega]at hp hs;rw[show((R k').getD t' 0).toNat=q' by omega]at hp' hs';rw[hp,hs,hp',hs'];refine Classical.byContradiction fun hcon=>?_;have hc1:0<=Jc (bs.getD k []) (R k) t:=Classical.byContradiction fun x=>hcon (.inl (.inl x));have hc2:Jc (bs.getD k []) (R k) t=Jc (bs.getD k' []) (R k') t':=Classical.byContradiction fun x=>hcon (.inl (.inr x));have hc3:YN (R k) t=YN (R k') t':=Classical.byContradiction fun x=>hcon (.inr x)
  cases t with
  |zero=>rw[zfH]at hc1;omega
  |succ t=>
   cases t' with
   |zero=>rw[zfH]at hc2;omega
   |succ t'=>
    rw[zdh,zdh]at hc3;obtain⟨rfl,d2⟩:=h.sep k k' t t' hk hk' (by omega) (by omega) hc3;have hne:k≠k':=fun e2=>(by subst e2;omega);have d3:=d2.resolve_left hne
    have d4:mm ms k k'=(t+1:Nat):=by
     by_cases d5:((t+1:Nat):Int)<mm ms k k'
     ·have:=hcmp k k' (t+1) hk hk' hne d5;omega
     ·omega
    rcases zjf (hg k hk) t with⟨_,e2,_⟩|⟨a,a1,a2,_,a4,_⟩
    ·rw[zfI e2]at hc1;omega
    ·rcases zjf (hg k' hk') t with⟨_,e3,_⟩|⟨b,b1,b2,_,b4,_⟩
     ·rw[zfI e3]at hc2;omega
     ·rw[zey a1 a4,zey b1 b4]at hc2;obtain⟨rfl,_⟩:=h.sep k k' a b hk hk' (by omega) (by omega) hc2;have hr:=(hc.tab.row k hk).2 k' hk';have hsh:=zpK (hc.shr k k' hk hk' hne) (by omega) (by have:=hr.2 hne;omega);rw[show(mm ms k k').toNat=t+1 by omega]at hsh;rcases hsh.2 with d6|d6
      ·exact d6 (by rw[a4,b4])
      ·omega
theorem zyf{pr:List (List Int)}{w:List Int}{p:Nat}(hw:∀q,0<=w.getD q 0/\w.getD q 0<=400):∀j,j<=24->
 ZC pr w j p=w.getD p 0-sg (fun q=>if(p:Int)∈pr.getD q []then w.getD q 0 else 0) j/\0<=sg (fun q=>if(p:Int)∈pr.getD q []then w.getD q 0 else 0) j/\sg (fun q=>if(p:Int)∈pr.getD q []then w.getD q 0 else 0) j<=400*j
 |0,_=>by simp[ZC,sg]
 |j+1,hj=>by
  obtain⟨h1,h2,h3⟩:=zyf (pr:=pr) (p:=p) hw j (by omega);have h4:=hw j;have h5:=hw p;rw[ZC,sg];split
  ·rw[h1,show W (w.getD p 0-sg (fun q=>if(p:Int)∈pr.getD q []then w.getD q 0 else 0) j-w.getD j 0)=w.getD p 0-sg (fun q=>if(p:Int)∈pr.getD q []then w.getD q 0 else 0) j-w.getD j 0 from zl (by omega) (by omega)];omega
  ·rw[h1];omega
theorem Pts.exc(hc:CvP bs ms)(h:Pts bs ms bs.length R (jm bs ms) P S Q)(hcmp:∀i k j:Nat,i<bs.length->k<bs.length->i≠k->(j:Int)<mm ms i k->(R i).getD j 0=(R k).getD j 0)(h24:P.length<=24){p:Nat}(hp:p<P.length):
 exL P S Q p=sg (fun i=>if(R i).getD (jm bs ms i-1) 0=p then 1 else 0) bs.length:=by
 have hcl:=h.clP hc hcmp h24;have hg:∀i,i<bs.length->GoodM (mul (bs.getD i [])):=fun i hi=>(Yw (jL (hc.br i hi))).1;have h6:=hc.n6;have hrow:=h.rows hc hcmp
 have hw:∀q,0<=Q.getD q 0/\Q.getD q 0<=400:=fun q=>by
  by_cases hq:q<P.length
  ·have:=h.wle (fun k hk=>jL (hc.br k hk)) q;rw[h.wt q hq];omega
  ·have:=h.ql;rw[zd,zD (by omega)];simp
 have hcp:∀q,q<P.length->(QT P S P.length P.length).getD q []=Js P S q:=fun q hq=>by rw[QT,jx _ _ _ _ hq,if_pos hq]
 rw[exL,(zyf hw P.length h24).1]
 have e1:sg (fun q=>if(p:Int)∈(QT P S P.length P.length).getD q []then Q.getD q 0 else 0) P.length=sg (fun q=>if(p:Int)∈Js P S q then Go.Ax.wSm (fun i j=>mul (bs.getD i []) j) (fun i j=>((R i).getD j 0).toNat) (jm bs ms) bs.length q else 0) P.length:=qk fun q hq=>by
  rw[hcp q hq,h.wSm hq]
 rw[e1,h.wSm hp]
 have key:=zCM (M:=fun i j=>mul (bs.getD i []) j) hrow (fun p q=>(p:Int)∈Js P S q) (fun i a j=>Jl (mul (bs.getD i [])) a j)
  (fun i hi=>by have:=(zbe hc hi).1;omega) ?_ ?_ p
 ·rw[key];refine qk fun i hi=>?_;have h3:=h.hin i (jm bs ms i-1) hi (by have:=(zbe hc hi).1;omega);by_cases e:(R i).getD (jm bs ms i-1) 0=p
  ·rw[if_pos e,if_pos (by omega)]
  ·rw[if_neg e,if_neg (by omega)]
 ·intro i j p hi hj;have h3:=h.hin i j hi hj;rw[zp1 hcl (by omega),h.par i j hi hj,h.sec i j hi hj]
  cases j with
  |zero=>
   rw[zpX,zfH];constructor
   ·intro e;omega
   ·rintro⟨a,ha,_⟩;omega
  |succ t=>
   have h4:=h.hin i t hi (by omega)
   have hmem:∀a,(a<t+1/\Jl (mul (bs.getD i [])) a (t+1))↔a∈prs (mul (bs.getD i [])) (t+1) (t+1):=fun a=>by
    simp only[prs,List.mem_filter,List.mem_range,prx,decide_eq_true_eq,Jl];rw[show min (t+1) (t+1)=t+1 by omega]
   have hex:(∃a,a<t+1/\p=((R i).getD a 0).toNat/\Jl (mul (bs.getD i [])) a (t+1))↔∃a,a∈prs (mul (bs.getD i [])) (t+1) (t+1)/\p=((R i).getD a 0).toNat:=
    ⟨fun⟨a,x,y,z⟩=>⟨a,(hmem a).1 ⟨x,z⟩,y⟩,fun⟨a,x,y⟩=>⟨a,((hmem a).2 x).1,y,((hmem a).2 x).2⟩⟩
   rw[hex,zdh];rcases zjf (hg i hi) t with⟨_,e2,e3⟩|⟨a,a1,a2,_,a4,a5⟩
   ·rw[zfI e2,e3];simp only[ya,exists_eq_left];omega
   ·have h5:=h.hin i a hi (by omega);rw[zey a1 a4,a5];simp only[List.mem_cons,List.not_mem_nil,or_false,or_and_right,exists_or,exists_eq_left];omega
 ·intro i a hi ha;obtain⟨t1,t2⟩:=zbe hc hi;obtain⟨m1,m2⟩:=zzB (jL (hc.br i hi)) t1 t2;exact zzv (hg i hi) ha m1 fun hx=>m2 a hx
end
theorem zA8(m:Int):2*KG m=tw m:=by
 rw[KG,tw];rcases Int.emod_two_eq m with h|h
 ·obtain⟨k,rfl⟩:∃k,m=2*k:=⟨m/2,by omega⟩;rw[Int.mul_assoc,zag _ (by omega)]
 ·obtain⟨k,rfl⟩:∃k,m=2*k+1:=⟨m/2,by omega⟩;rw[show(2*k+1)*(2*k+1-1)=2*((2*k+1)*k) by rw[show 2*k+1-1=2*k by omega,JO (2*k+1) (2*k),Int.mul_assoc,JO k],zag _ (by omega)]
theorem zvs(l:List Int):∀i,i<=l.length->2*jI (l.take i)=sg (fun q=>tw (l.getD q 0)) i
 |0,_=>by simp[jI,sg]
 |i+1,hi=>by
  rw[zf2 l i (by omega),sg,<-zvs l i (by omega),<-zA8];omega
theorem zsQ(l:List Int):2*jI l=sg (fun q=>tw (l.getD q 0)) l.length:=by
 have:=zvs l l.length (zt _)
 rwa [List.take_length]at this
theorem zBP{xs:List Int}{n:Nat}(hn:(Yh xs).length<=n):sg (fun j=>tw (mul xs j:Nat)) n=2*jI (jE xs):=by
 have e:(jE xs).length=(Yh xs).length:=by rw[zla,Zc,zQ]
 rw[zsQ,e,zri hn fun t h1 _=>?_]
 ·refine qk fun t ht=>?_;have h2:=zex xs t;rw[zd,zg (by omega)]at h2 ⊢;simp only[yZ]at h2 ⊢;rw[h2]
 ·rw[mul,zd,zD h1];rfl
theorem zAV(M N:Nat->Nat):∀n,dS M N n=sg (fun j=>(M j:Int)*(N j:Int)) n
 |0=>rfl
 |n+1=>by rw[dS,sg,zAV M N n]
def dlt(bs ms:List (List Int))(l:List Int):Int:=sg (fun t=>jI (jE (bs.getD (l.getD t 0).toNat []))+sg (fun u=>qD bs ms (l.getD t 0).toNat (l.getD u 0).toNat) t) l.length
def QS(bs ms:List (List Int))(n:Nat):Int:=sg (fun i=>jI (jE (bs.getD i []))+sg (fun k=>qD bs ms i k) i) n
theorem zlr{bs ms:List (List Int)}(hc:CvP bs ms){i k:Nat}(hi:i<bs.length)(hk:k<bs.length):0<=qD bs ms i k/\qD bs ms i k<=819200:=by
 have h1:=(hc.tab.range hi hk)
 have h2:=zqU (Yg (jL (hc.br i hi))) (Yg (jL (hc.br k hk))) (mm ms i k).toNat
 rw[qD,zjO (jL (hc.br i hi)) (jL (hc.br k hk)) (by omega)];omega
theorem zAW{bs ms:List (List Int)}(hc:CvP bs ms){i:Nat}(hi:i<bs.length){s:Int}(h0:0<=s)(h1:s<=100000000000):∀k,k<=i->dI bs ms i s k=s+sg (fun k=>qD bs ms i k) k/\0<=sg (fun k=>qD bs ms i k) k/\sg (fun k=>qD bs ms i k) k<=819200*k
 |0,_=>by simp[dI,sg]
 |k+1,hk=>by
  obtain⟨a1,a2,a3⟩:=zAW hc hi h0 h1 k (by omega);have h2:=zlr hc hi (k:=k) (by omega);have h6:=hc.n6;rw[dI,sg,a1,show W (s+sg (fun k=>qD bs ms i k) k+qD bs ms i k)=s+sg (fun k=>qD bs ms i k) k+qD bs ms i k from zl (by omega) (by omega)];omega
theorem zyo{bs ms:List (List Int)}(hc:CvP bs ms):∀n,n<=bs.length->dOC bs ms n=QS bs ms n/\0<=QS bs ms n/\QS bs ms n<=1000000000*n
 |0,_=>by simp[dOC,QS,sg]
 |n+1,hn=>by
  obtain⟨a1,a2,a3⟩:=zyo hc n (by omega);have hb:=jL (hc.br n (by omega));have h1:=zoz _ (zzc hb);have h2:=zrk hb;have h6:=hc.n6;have e1:W (dOC bs ms n+jI (jE (bs.getD n [])))=QS bs ms n+jI (jE (bs.getD n [])):=by rw[a1];exact zl (by omega) (by omega)
  obtain⟨b1,b2,b3⟩:=zAW hc (i:=n) (by omega) (s:=QS bs ms n+jI (jE (bs.getD n []))) (by omega) (by omega) n (zt _);have e2:QS bs ms (n+1)=QS bs ms n+(jI (jE (bs.getD n []))+sg (fun k=>qD bs ms n k) n):=rfl;rw[dOC,e1,b1,e2];omega
theorem Pts.delta{bs ms:List (List Int)}{P S Q:List Int}{R:Nat->List Int}(hc:CvP bs ms)(h:Pts bs ms bs.length R (jm bs ms) P S Q)(hcmp:∀i k j:Nat,i<bs.length->k<bs.length->i≠k->(j:Int)<mm ms i k->(R i).getD j 0=(R k).getD j 0):
 jI Q=QS bs ms bs.length:=by
 have hrow:=h.rows hc hcmp;have e1:=zAF (fun i j=>mul (bs.getD i []) j) hrow
 have e2:2*jI Q=sg (fun q=>tw (Go.Ax.wSm (fun i j=>mul (bs.getD i []) j) (fun i j=>((R i).getD j 0).toNat) (jm bs ms) bs.length q)) P.length:=by
  rw[zsQ,h.ql];exact qk fun q hq=>by rw[h.wSm hq]
 have e3:sg (fun i=>sg (fun j=>tw (mul (bs.getD i []) j:Nat)) (jm bs ms i)+2*sg (fun k=>sg (fun j=>(mul (bs.getD i []) j:Int)*(mul (bs.getD k []) j:Int)) (mm ms i k).toNat) i) bs.length=2*QS bs ms bs.length:=by
  rw[QS,<-ziA];refine qk fun i hi=>?_;rw[zBP (zbe hc hi).2,Int.mul_add];congr 2;refine qk fun k hk=>?_;have h1:=hc.tab.range hi (k:=k) (by omega);rw[qD,zjO (jL (hc.br i hi)) (jL (hc.br k (by omega))) (by omega),zAV]
 have e4:2*jI Q=2*QS bs ms bs.length:=by rw[e2,e1,e3]
 omega
end Go.Ax
namespace Go.Ax
open Go.Proofs
theorem zCN{a b:Nat}(ha:1<=a)(hb:1<=b):1<=(ex a b).length:=by
 rw[kL hb,zq,zS];by_cases h:b<=a
 ·have:=YI h hb;omega
 ·rw[Nat.mod_eq_of_lt (by omega),kL ha,zq,zS];have:=YI (show a<=b by omega) ha;generalize b/a=q at*;generalize a/b=q' at*;omega
theorem zBc{xs:List Int}(h:Br xs):1<=(YG xs).length:=by
 rw[YG];split
 ·simp
 ·rename_i hne;have h0:=h.pos;have hk:=zeT h (i:=0) (by omega);have hd:=h.dpos 0 h0;have hx:1<=(zdE xs 0).length:=by rw[zdE,exI,zQ];exact zCN (by omega) (by omega)
  obtain⟨n,hn⟩:∃n,xs.length-1=n+1:=⟨xs.length-2,by omega⟩;rw[jE,za7,hn,List.range_succ_eq_map,List.flatMap_cons,zq];omega
theorem zp6{bs ms:List (List Int)}(h:CvP bs ms){i:Nat}(hi:i<bs.length):1<=Kz bs ms i:=by
 have:=zBc (jL (h.br i hi));rw[Kz];omega
def ul(names:List (List Int)):List Int:=names.map fun l=>l.getD (l.length-1) 0
theorem zp7(names:List (List Int))(l:List Int):ul (names++[l])=ul names++[l.getD (l.length-1) 0]:=by simp[ul]
def AtP(ms names:List (List Int))(z:Int)(i j k:Nat)(a:Int):Prop:=
 (a=z/\∀t,t<k->¬(j:Int)<mm ms i t)\/∃t,t<k/\(j:Int)<mm ms i t/\a=(names.getD t []).getD j 0
theorem AtP.fin{bs ms names:List (List Int)}(hc:CvP bs ms){s:PSt}{z:Int}{i j:Nat}{a:Int}(hi:i<bs.length)(hk:ClOk bs ms i s names)(h:AtP ms names z i j i a):
 (nmK ms i j=none/\a=z)\/∃k,nmK ms i j=some k/\k<i/\(j:Int)<mm ms i k/\a=(names.getD k []).getD j 0:=by
 rcases h with⟨h1,h2⟩|⟨t,ht,hm,ha⟩
 ·exact .inl ⟨zkI h2,h1⟩
 ·refine .inr ?_
  cases hn:nmK ms i j with
  |none=>exact absurd hm (zlp hn t ht)
  |some k=>
   obtain⟨h1,h2⟩:=zhx hn;refine⟨k,rfl,h1,h2,?_⟩;rw[ha];by_cases hkt:k=t
   ·rw[hkt]
   ·refine(hk.cmp k t j h1 ht hkt ?_).symm;have hsym:=hc.tab.sym i hi k (by omega);have hu:=hc.ult k t i (by omega) (by omega) hi hkt (by omega) (by omega);rw[hsym]at hu;omega
theorem zrc{xs:List Int}{ms names:List (List Int)}{i j k:Nat}{s:PSt}(h:nmK ms i j=some k):stJ xs ms names i s j=⟨s.P,s.S,s.Q.set ((names.getD k []).getD j 0).toNat (W (s.Q.getD ((names.getD k []).getD j 0).toNat 0+mul xs j)),s.own++[(names.getD k []).getD j 0]⟩:=by rw[stJ,h]
theorem zrd{xs:List Int}{ms names:List (List Int)}{i j:Nat}{s:PSt}(h:nmK ms i j=none):stJ xs ms names i s j=⟨s.P++[YN s.own j],s.S++[Jc xs s.own j],s.Q++[(mul xs j:Int)],s.own++[(s.P.length:Int)]⟩:=by rw[stJ,h]
theorem zzd{xs:List Int}(h:Br xs)(own:List Int)(j:Nat):Jc xs own j=if 1<(prs (mul xs) j j).length then own.getD ((prs (mul xs) j j).getD 0 0) 0 else-1:=by
 rw[Jc];by_cases hj:0<j
 ·rw[zoD (Yw h).1 (by omega) (zt _)];by_cases h1:1<(prs (mul xs) j j).length
  ·have hm:(prs (mul xs) j j).getD 0 0∈prs (mul xs) j j:=by
    rw[zd,zg (by omega)];exact List.getElem_mem _
   have h2:=zmN _ hm;rw[if_pos h1,if_pos h1,if_pos ⟨hj,by omega⟩];congr 1;omega
  ·rw[if_neg h1,if_neg h1,if_neg (fun h=>h.2 rfl)]
 ·have:j=0:=by omega
  subst this;rw[if_neg (fun h=>hj h.1),if_neg (by have:=zog (mul xs) 0 0;omega)]
def zj9(f:List V->List V->List V×List V×List V×List V×Int)(q:List V->List V->Prop):zK:=fun
 |[.agg [.slc false 57 (.agg [.slc false 2 (.int .i64 0) []]) a0,.slc false 29 (.slc false 2 (.int .i64 0) []) a1]]=>some ([q a0 a1],.tup [.agg [.slc true 2 (.int .i64 0) ((f a0 a1).1),.slc true 2 (.int .i64 0) ((f a0 a1).2.1),.slc true 2 (.int .i64 0) ((f a0 a1).2.2.1)],.slc true 2 (.int .i64 0) ((f a0 a1).2.2.2.1),.int .i64 ((f a0 a1).2.2.2.2)])
 |_=>none
noncomputable def KH(bs ms:List (List Int)):Bool:= @decide (znD bs ms) (Classical.propDecidable _)
theorem zhg{bs ms:List (List Int)}:KH bs ms=true↔znD bs ms:=by
 rw[KH];exact@decide_eq_true_iff _ (Classical.propDecidable _)
noncomputable def zb7(a b:List V):List V×List V×List V×List V×Int:=bif KH (jq a) (qS b)then([],[],[],[],3)else
 (I (yz (jq a) (qS b) a.length).1.P,I (yz (jq a) (qS b) a.length).1.S,I (yz (jq a) (qS b) a.length).1.Q,I (ul (yz (jq a) (qS b) a.length).2),0)
theorem zde:yJ Tryz.prog 43 (zj9 zb7 ZI):=by
 intro args ps r h hp;unfold zj9 at h;split at h
 ·rename_i a0 a1;simp only[za,zb]at h;obtain⟨rfl,rfl⟩:=h;obtain⟨⟨⟨bs,hbs,hb1,hb2⟩,⟨ms,hms,hm1,hm2⟩⟩,hcv⟩:=(zm.1 hp).1;rw[hbs,hms,yK,yq]at hcv;have g1:V.frzs a0=a0:=by rw[hbs,uf]
  have g2:V.frzs a1=a1:=by rw[hms,ke]
  have hbl:a0.length=bs.length:=by rw[hbs,jj]
  have hml:a1.length=ms.length:=by rw[hms,yf]
  have gb:∀k,a0.getD k (.agg [.slc false 2 (.int .i64 0) []])=.agg [.slc false 2 (.int .i64 0) (I (bs.getD k []))]:=fun k=>by rw[hbs,QA]
  have gm:∀k,a1.getD k (.slc false 2 (.int .i64 0) [])=.slc false 2 (.int .i64 0) (I (ms.getD k [])):=fun k=>by rw[hms,qM]
  have hm0:∀x y:Nat,(ms.getD x []).getD y 0=mm ms x y:=fun _ _=>rfl;obtain⟨n,hn⟩:∃n:Int,n=bs.length:=⟨_,rfl⟩;have n1:=hcv.n1;have n6:=hcv.n6;have hmn:ms.length=bs.length:=hcv.tab.len;have hbr:∀i,i<bs.length->Br (bs.getD i []):=fun i hi=>jL (hcv.br i hi);have rl:∀k,k<bs.length->(ms.getD k []).length=bs.length:=fun k hk=>(hcv.tab.row k hk).1;have mmr:∀i k,i<bs.length->k<bs.length->0<=mm ms i k/\mm ms i k<=200:=fun i k hi hk=>hcv.tab.range hi hk;have mmo:∀i k,i<bs.length->k<bs.length->i≠k->1<=mm ms i k/\mm ms i k<=200:=fun i k hi hk hne=>((hcv.tab.row i hi).2 k hk).2 hne;have hqv:ZI a0 a1:=(zm.1 hp).1;have hf1:KH bs ms=true->zb7 a0 a1=([],[],[],[],3):=fun h=>by rw[zb7,hbs,hms,yK,yq,h];rfl
  have hf2:KH bs ms=false->zb7 a0 a1=(I (yz bs ms bs.length).1.P,I (yz bs ms bs.length).1.S,I (yz bs ms bs.length).1.Q,I (ul (yz bs ms bs.length).2),0):=fun h=>by
   rw[zb7,hbl,hbs,hms,yK,yq,h];rfl
  obtain⟨vl,hvl⟩:∃vl,vl=I (Qj bs ms bs.length):=⟨_,rfl⟩;have efl:Jw a0 a1=vl:=by rw[Jw,hbl,hbs,hms,yK,yq,hvl]
  have hvll:vl.length=bs.length:=by rw[hvl,zj,Qj,yo]
  obtain⟨ll,hll⟩:∃ll,ll=Qj bs ms bs.length:=⟨_,rfl⟩;have gvl:∀k,vl.getD k (.int .i64 0)=.int .i64 (ll.getD k 0):=fun k=>by rw[hvl,zE,hll]
  have gll:∀k,k<bs.length->ll.getD k 0=Kz bs ms k:=fun k hk=>by rw[hll,Qj,jx _ _ _ _ hk]
  generalize ZM:Jw=zaA;generalize qa:ZI=ur;generalize kg:uc=uQ;generalize qC:ZH=kR;generalize zbm:zeX=zh6;generalize zbk:zmH=zh5;refine zI (T:=tab) (B:=[(46,zf5 zaA ur),(73,zjh uQ kR),(80,zhT zh6 zh5)]) (Bi:=[]) [1000003507,1000034011,0,1,2,3,4,5,6,7,8,9,10,11,12,13,14,15,16,17,22,23,24,41,42,43,51,52] Tryz.func43 rfl rfl (by kernel_rfl) (ze rfl) mixed zR (by subst ZM qa kg qC zbm zbk;exact(zn zgL (zn zcq (zn zdN zB)))) (by subst ZM qa kg qC zbm zbk;exact zy) (by kernel_rfl) ?_;intro L lp rr hL hr hf hlp;have Ef:zaA a0 a1=vl:=by rw[<-ZM,efl]
  have E1:∀xs k,uQ (I xs) k=I (qX xs k.toNat):=fun xs k=>by rw[<-kg,uc,zr]
  have Q1:∀xs k,Br xs->1<=k->k<=1000000->kR (I xs) k:=fun xs k h h1 h2=>by rw[<-qC];exact⟨⟨xs,rfl,h⟩,h1,h2⟩
  conv=>cbv
  simp only[zo hL,sQ,g1,g2,Ef,hvll,<-hn];refine⟨by rw[<-qa];exact hqv,?_⟩
  refine hlp ((List V×List V×List V)×(List V×List V)×Int) _ _ _ [1,2,5,6,7,22,23,24] (fun x=>[(1,none,.val (.box 27 (.agg [.slc false 57 (.agg [.slc false 2 (.int .i64 0) []]) a0,.slc false 29 (.slc false 2 (.int .i64 0) []) a1]))),(2,none,.val (.box 31 (.agg [.slc true 2 (.int .i64 0) [],.slc true 2 (.int .i64 0) [],.slc true 2 (.int .i64 0) []]))),(5,none,.val (.box 31 (.agg [.slc true 2 (.int .i64 0) x.1.1,.slc true 2 (.int .i64 0) x.1.2.1,.slc true 2 (.int .i64 0) x.1.2.2]))),(6,none,.val (.slc true 2 (.int .i64 0) x.2.1.1)),(7,none,.val (.slc true 29 (.slc false 2 (.int .i64 0) []) x.2.1.2)),(22,none,.val (.slc true 2 (.int .i64 0) vl)),(23,none,.val (.int .i64 n)),(24,none,.val (.int .i64 x.2.2))])
   (fun x=>0<=x.2.2/\x.2.2<=n/\x.1.1=I (yz bs ms x.2.2.toNat).1.P/\x.1.2.1=I (yz bs ms x.2.2.toNat).1.S/\x.1.2.2=I (yz bs ms x.2.2.toNat).1.Q/\x.2.1.1=I (ul (yz bs ms x.2.2.toNat).2)/\x.2.1.2=II false (yz bs ms x.2.2.toNat).2/\(yz bs ms x.2.2.toNat).1.P.length<=24/\(∀k,k<x.2.2.toNat->Kz bs ms k<=24)) (fun x=>(n-x.2.2).toNat) ((([],[],[]),([],[]),0)) (by subst hL;rw[hn,<-hvll];rfl) ?_ ?_
  ·exact⟨by simp,by simp only;omega,rfl,rfl,rfl,rfl,rfl,by simp[yz],fun k hk=>by simp at hk⟩
  rintro⟨⟨ps,ss,qs⟩,⟨vs,ns⟩,i⟩ ⟨i0,i1,hP,hS,hQ,hV,hN,hle,hln⟩ hfx ag hag;simp only at i0 i1 hP hS hQ hV hN hle hln;have Ep:∀xs k,zh6 (I (qX xs k))=II true (yI (fun j=>Zc (prs (mul xs) j j)) k):=fun xs k=>by rw[<-zbm,zeX,zr,Je]
  have Qp:∀xs k,Br xs->k<=1000000->zh5 (I (qX xs k)):=fun xs k h1 h2=>by rw[<-zbk];exact⟨xs,k,h1,rfl,h2⟩
  conv=>cbv
  simp only[zo hL,sQ,hbl,gb,gvl,hvll,E1,Qt,YM,YQ,Ep];refine⟨fun h2=>?_,fun h2=>?_⟩
  ·have hil:i.toNat<bs.length:=(by omega);have hls:=gll _ hil;obtain⟨l,hl⟩:∃l,l=ll.getD i.toNat 0:=⟨_,rfl⟩;rw[<-hl]at hls ⊢;have hl1:1<=l:=(by rw[hls];exact zp6 hcv hil);obtain⟨xs,hxs⟩:∃xs,xs=bs.getD i.toNat []:=⟨_,rfl⟩;have hbx:Br xs:=(by rw[hxs];exact hbr _ hil);have hok:=ze6 hcv i.toNat (by omega);obtain⟨s,hs⟩:∃s,s=(yz bs ms i.toNat).1:=⟨_,rfl⟩;obtain⟨nm,hnm⟩:∃nm,nm=(yz bs ms i.toNat).2:=⟨_,rfl⟩;rw[<-hs]at hP hS hQ hle hok;rw[<-hnm]at hV hN hok;rw[<-hxs];have hlN:jm bs ms i.toNat=l.toNat:=(by rw[jm,hls]);refine⟨i0,by omega,hil,fun h3=>?_,fun h3=>?_⟩
   ·rw[hr,hf1 (zhg.2 (.inl ⟨i.toNat,hil,by rw[hlN];omega⟩))]
   obtain⟨row,hrow⟩:∃row,row=I (qX xs l.toNat):=⟨_,rfl⟩;have hrl:row.length=l.toNat:=(by rw[hrow,zj,ZT]);have grow:∀k,row.getD k (.int .i64 0)=.int .i64 ((qX xs l.toNat).getD k 0):=fun k=>(by rw[hrow,zE]);obtain⟨px,hpx⟩:∃px,px=II true (yI (fun j=>Zc (prs (mul xs) j j)) l.toNat):=⟨_,rfl⟩;have hpxl:px.length=l.toNat:=(by rw[hpx,yf,yo]);have gpx:∀k,px.getD k (.slc true 2 (.int .i64 0) [])=.slc true 2 (.int .i64 0) (I ((yI (fun j=>Zc (prs (mul xs) j j)) l.toNat).getD k [])):=fun k=>(by rw[hpx,qM]);have qpx:=Qp xs l.toNat hbx (by omega);rw[<-hrow]at qpx ⊢;rw[<-hpx];refine⟨i0,by omega,Q1 xs l hbx hl1 (by omega),qpx,?_⟩;have hpl:(px.length:Int)=l:=by omega
   refine hlp (((List V×List V×List V)×List V)×Int) _ _ _ [1,2,5,6,7,8,10,11,22,23,24,41,42,43] (fun y=>[(1,none,.val (.box 27 (.agg [.slc false 57 (.agg [.slc false 2 (.int .i64 0) []]) a0,.slc false 29 (.slc false 2 (.int .i64 0) []) a1]))),(2,none,.val (.box 31 (.agg [.slc true 2 (.int .i64 0) [],.slc true 2 (.int .i64 0) [],.slc true 2 (.int .i64 0) []]))),(5,none,.val (.box 31 (.agg [.slc true 2 (.int .i64 0) y.1.1.1,.slc true 2 (.int .i64 0) y.1.1.2.1,.slc true 2 (.int .i64 0) y.1.1.2.2]))),(6,none,.val (.slc true 2 (.int .i64 0) vs)),(7,none,.val (.slc true 29 (.slc false 2 (.int .i64 0) []) ns)),(8,none,.val (.int .i64 i)),(10,none,.val (.slc false 2 (.int .i64 0) row)),(11,none,.val (.slc true 2 (.int .i64 0) y.1.2)),(22,none,.val (.slc true 2 (.int .i64 0) vl)),(23,none,.val (.int .i64 n)),(24,none,.val (.int .i64 i)),(41,none,.val (.slc true 29 (.slc true 2 (.int .i64 0) []) px)),(42,none,.val (.int .i64 l)),(43,none,.val (.int .i64 y.2))])
    (fun y=>0<=y.2/\y.2<=l/\y.1.1.1=I (js xs ms nm i.toNat s y.2.toNat).P/\y.1.1.2.1=I (js xs ms nm i.toNat s y.2.toNat).S/\y.1.1.2.2=I (js xs ms nm i.toNat s y.2.toNat).Q/\y.1.2=I (js xs ms nm i.toNat s y.2.toNat).own/\(js xs ms nm i.toNat s y.2.toNat).P.length<=24) (fun y=>(l-y.2).toNat) ((((ps,ss,qs),[]),0)) (by subst hL;rw[<-hpl];rfl) ?_ ?_
   ·exact⟨by simp,by simp only;omega,hP,hS,hQ,rfl,hle⟩
   rintro⟨⟨⟨ps2,ss2,qs2⟩,os⟩,j⟩ ⟨j0,j1,hP2,hS2,hQ2,hO2,hle2⟩ hfx2 ag2 hag2;simp only at j0 j1 hP2 hS2 hQ2 hO2 hle2
   conv=>cbv
   simp only[zo hL,sQ,hpxl,gpx];refine⟨fun h4=>?_,fun h4=>?_⟩
   ·obtain⟨u,hu⟩:∃u,u=js xs ms nm i.toNat s j.toNat:=⟨_,rfl⟩;obtain⟨hcu,hou,hmu⟩:=zao hcv hil hok j.toNat (by omega);rw[<-hxs,<-hu]at hcu hou hmu;obtain⟨jt,hjt⟩:∃jt,jt=j.toNat:=⟨_,rfl⟩;have hjj:(jt:Int)=j:=(by omega);have hjl:jt<l.toNat:=(by omega);have hpr:(yI (fun j=>Zc (prs (mul xs) j j)) l.toNat).getD jt []=Zc (prs (mul xs) jt jt):=jx _ _ _ _ hjl;have hfm:(qX xs l.toNat).getD jt 0=mul xs jt:=(by rw[Kb,jx _ _ _ _ hjl]);have hjN:jt<jm bs ms i.toNat:=(by omega);have ho0:∀t,t<jt->0<=u.own.getD t 0/\u.own.getD t 0<u.P.length:=fun t ht=>hou.oin t (by omega);have hsu:js xs ms nm i.toNat s (j.toNat+1)=stJ xs ms nm i.toNat u j.toNat:=(by rw[js,<-hu]);rw[<-hu]at hP2 hS2 hQ2 hO2 hle2;have hpl2:ps2.length=u.P.length:=(by rw[hP2,zj]);have hsl2:ss2.length=u.P.length:=(by rw[hS2,zj,hcu.sl]);have hql2:qs2.length=u.P.length:=(by rw[hQ2,zj,hcu.ql]);have hol2:os.length=j.toNat:=(by rw[hO2,zj,hou.ol]);have gq2:∀k,qs2.getD k (.int .i64 0)=.int .i64 (u.Q.getD k 0):=fun k=>(by rw[hQ2,zE]);have go2:∀k,os.getD k (.int .i64 0)=.int .i64 (u.own.getD k 0):=fun k=>(by rw[hO2,zE]);have hnl:ns.length=i.toNat:=(by rw[hN,yf,hok.nl]);have gn:∀k,ns.getD k (.slc false 2 (.int .i64 0) [])=.slc false 2 (.int .i64 0) (I (nm.getD k [])):=fun k=>(by rw[hN,qM]);obtain⟨z,hz⟩:∃z:Int,z=u.P.length:=⟨_,rfl⟩;have hqz:(qs2.length:Int)=z:=(by omega);refine⟨j0,by omega,by omega,?_⟩
    refine hlp (Int×Int) _ _ _ [1,2,5,6,7,8,10,11,12,13,14,22,23,24,41,42,43,51,52] (fun w=>[(1,none,.val (.box 27 (.agg [.slc false 57 (.agg [.slc false 2 (.int .i64 0) []]) a0,.slc false 29 (.slc false 2 (.int .i64 0) []) a1]))),(2,none,.val (.box 31 (.agg [.slc true 2 (.int .i64 0) [],.slc true 2 (.int .i64 0) [],.slc true 2 (.int .i64 0) []]))),(5,none,.val (.box 31 (.agg [.slc true 2 (.int .i64 0) ps2,.slc true 2 (.int .i64 0) ss2,.slc true 2 (.int .i64 0) qs2]))),(6,none,.val (.slc true 2 (.int .i64 0) vs)),(7,none,.val (.slc true 29 (.slc false 2 (.int .i64 0) []) ns)),(8,none,.val (.int .i64 i)),(10,none,.val (.slc false 2 (.int .i64 0) row)),(11,none,.val (.slc true 2 (.int .i64 0) os)),(12,none,.val (.int .i64 j)),(13,none,.rf 41 0 [jt]),(14,none,.val (.int .i64 w.1)),(22,none,.val (.slc true 2 (.int .i64 0) vl)),(23,none,.val (.int .i64 n)),(24,none,.val (.int .i64 i)),(41,none,.val (.slc true 29 (.slc true 2 (.int .i64 0) []) px)),(42,none,.val (.int .i64 l)),(43,none,.val (.int .i64 j)),(51,none,.val (.int .i64 i)),(52,none,.val (.int .i64 w.2))])
     (fun w=>0<=w.2/\w.2<=i/\AtP ms nm z i.toNat jt w.2.toNat w.1) (fun w=>(i-w.2).toNat) ((z,0)) (by subst hL;rw[<-hqz,hjt];rfl) ?_ ?_
    ·exact⟨by simp,i0,.inl ⟨rfl,fun t ht=>by simp at ht⟩⟩
    rintro⟨a,k⟩ ⟨k0,k1,hA⟩ hfx3 ag3 hag3;simp only at k0 k1 hA;have snoc:∀(l:List Int) (x:Int),I l++[V.int .i64 x]=I (l++[x]):=fun l x=>(by simp[I]);have gos:∀k,(os++[V.int .i64 a]).getD k (.int .i64 0)=.int .i64 ((u.own++[a]).getD k 0):=fun k=>(by rw[hO2,snoc,zE]);have hosl:(os++[V.int .i64 a]).length=jt+1:=by rw[zq,hol2,hjt];rfl
    conv=>cbv
    simp only[zo hL,sQ,hml,gm,hm0,hnl,gn,hpxl,gpx,hol2,hql2,hpl2,hsl2,gq2,hrl,grow,<-hjt,hpr,hfm,gos,hosl,Zb]
    have sol:∀n:Int,∀x:V,x∈[V.int .i64 n]->x.solid=true:=fun n x hx=>by
     simp only[ya]at hx;subst hx;rfl
    refine⟨fun h5=>?_,fun h5=>?_⟩
    ·have hkn:k.toNat<i.toNat:=(by omega);have hrw:=rl _ hil;have hnlk:=hok.rl _ hkn;clear hfx3 gos hosl hpr hfm hqz hz hll hvl hls hpl2 hsl2 hql2 hol2;refine⟨i0,by omega,k0,by omega,fun h6=>?_,fun h6=>?_⟩
     ·have hsym:=hcv.tab.sym i.toNat hil k.toNat (by omega);have hml2:=zaO hcv (i:=k.toNat) (k:=i.toNat) (by omega) hil;rw[zl (n:=k+1) (by omega) (by omega)];refine⟨k0,by omega,hkn,j0,by omega,hag3 (_,k+1) ⟨by simp only;omega,by simp only;omega,?_⟩ (by simp only;omega)⟩;simp only[zF k0];exact .inr ⟨k.toNat,by omega,by omega,rfl⟩
     ·rw[zl (n:=k+1) (by omega) (by omega)];refine hag3 (a,k+1) ⟨by simp only;omega,by simp only;omega,?_⟩ (by simp only;omega);simp only[zF k0];rcases hA with⟨h7,h8⟩|⟨t,h7,h8,h9⟩
      ·refine .inl ⟨h7,fun t ht=>?_⟩
       by_cases htk:t=k.toNat
       ·rw[htk,hjj];exact h6
       ·exact h8 t (by omega)
      ·exact .inr ⟨t,by omega,h8,h9⟩
    ·have hA':=AtP.fin hcv hil hok (by rwa [show k.toNat=i.toNat by omega]at hA);rcases hA' with⟨hn0,haz⟩|⟨k0',hn1,hk0,hmk,haz⟩
     ·have hst:=zrd (xs:=xs) (names:=nm) (s:=u) hn0;refine⟨rfl,by simp only[zi,zp];omega,sol _,fun h6=>absurd h6 (by omega),fun _=>⟨fun h7=>?_,fun h7=>?_⟩⟩
      ·rw[hr,hf1 (zhg.2 ?_)];refine zxt hcv hil (j:=j.toNat+1) (by omega) ?_;rw[<-hxs,<-hnm,<-hs,hsu,<-hjt,hst];simp only[zq,zi,zp];omega
      have hu24:u.P.length<24:=(by omega);have hsj:=zzd hbx u.own jt;have hprl:(Zc (prs (mul xs) jt jt)).length=(prs (mul xs) jt jt).length:=(by rw[Zc,zQ]);have hprg:(Zc (prs (mul xs) jt jt)).getD 0 0=((prs (mul xs) jt jt).getD 0 0:Nat):=ziR _ _
      have hprm:1<(prs (mul xs) jt jt).length->(prs (mul xs) jt jt).getD 0 0<jt:=fun h=>zmN _ (by
       rw[zd,zg (by omega)];exact List.getElem_mem _)
      have gsn:∀t,t<jt->(u.own++[a]).getD t 0=u.own.getD t 0:=fun t ht=>by
       rw[jG (by rw[hou.ol];omega),if_neg (by rw[hou.ol];omega)]
      have hw1:0<j->IntKind.wrap .i64 (j-1)=j-1:=fun h=>zl (by omega) (by omega);have hwn:(j-1).toNat=jt-1:=(by omega);have hmul:=Yg hbx jt;simp only[hprl,hprg];obtain⟨pr,hprr⟩:∃pr,pr=prs (mul xs) jt jt:=⟨_,rfl⟩;rw[<-hprr]at hsj hprm ⊢
      have fin:∀p q:Int,p=YN u.own jt->q=Jc xs u.own jt->(0<=j+1/\j+1<=l/\ps2++[V.int .i64 p]=I (js xs ms nm i.toNat s (j+1).toNat).P/\ss2++[V.int .i64 q]=I (js xs ms nm i.toNat s (j+1).toNat).S/\qs2++[V.int .i64 (mul xs jt:Int)]=I (js xs ms nm i.toNat s (j+1).toNat).Q/\os++[V.int .i64 a]=I (js xs ms nm i.toNat s (j+1).toNat).own/\(js xs ms nm i.toNat s (j+1).toNat).P.length<=24):=fun p q hp hq=>by
       rw[zF j0,hsu,<-hjt,hst];refine⟨by omega,by omega,by rw[hP2,snoc,hp],by rw[hS2,snoc,hq],by rw[hQ2,snoc],by rw[hO2,snoc,haz,hz],?_⟩;simp only[zq,zi,zp];omega
      have hl1:∀v:V,(u.P.length:Int)+([v].length:Int)<=2147483647:=fun v=>by
       simp only[zi,zp];omega
      have hpl0:=zog (mul xs) jt jt;rw[<-hprr]at hpl0;have hwj:IntKind.wrap .i64 (j+1)=j+1:=zl (by omega) (by omega);rw[hwj];have hdec:(l-(j+1)).toNat<(l-j).toNat:=(by omega);have hjl2:j<(l.toNat:Int):=(by omega);clear hpr hfm gos hosl hqz hll hvl hls hql2 hsl2 hpl2 hprl hprg hfx3 hu24 hmul hol2 hpxl hrl hml hbl n6 n1 hmn hn hnl hpl;refine⟨fun h8=>?_,fun h8=>?_⟩
      ·have hpj:YN u.own jt=u.own.getD (jt-1) 0:=(by rw[YN,if_pos (by omega)]);rw[hw1 h8,hwn,gsn (jt-1) (by omega)];refine⟨by omega,by omega,by omega,hjl,fun h9=>?_,fun h9=>?_⟩
       ·have h10:=hprm (by omega);rw[if_pos (by omega)]at hsj;rw[zW,gsn _ h10];exact⟨hjl,by omega,by omega,hjl,by omega,by omega,by omega,by omega,rfl,hl1 _,sol _,rfl,hl1 _,sol _,j0,hjl2,rfl,hl1 _,sol _,hag2 (((_,_,_),_),j+1) (fin _ _ hpj.symm hsj.symm) hdec⟩
       ·rw[if_neg (by omega)]at hsj;exact⟨rfl,hl1 _,sol _,rfl,hl1 _,sol _,j0,hjl2,rfl,hl1 _,sol _,hag2 (((_,_,_),_),j+1) (fin _ _ hpj.symm hsj.symm) hdec⟩
      ·have hpj:YN u.own jt= -1:=(by rw[YN,if_neg (by omega)]);rw[if_neg (by omega)]at hsj;refine⟨hjl,fun h9=>absurd h9 (by omega),fun h9=>?_⟩;exact⟨rfl,hl1 _,sol _,rfl,hl1 _,sol _,j0,hjl2,rfl,hl1 _,sol _,hag2 (((_,_,_),_),j+1) (fin _ _ hpj.symm hsj.symm) hdec⟩
     ·have hst:=zrc (xs:=xs) (names:=nm) (s:=u) hn1;have hsym:=hcv.tab.sym i.toNat hil k0' (by omega);have hml2:=zaO hcv (i:=k0') (k:=i.toNat) (by omega) hil;have hin:=hok.rin k0' jt hk0 (by omega);rw[<-haz]at hst hin;have ha0:0<=a:=hin.1;have ha1:a<u.P.length:=(by omega);have hal:a.toNat<u.P.length:=(by omega);have ha2:0<=a:=ha0;clear hfx3 gos hosl hpr hql2 hsl2 hpl2 hqz hll hvl hls;refine⟨rfl,by simp only[zi,zp];omega,sol _,fun _=>?_,fun h6=>absurd ha1 h6⟩;rw[zl (n:=j+1) (by omega) (by omega)];refine⟨ha0,ha1,hal,j0,by omega,ha0,ha1,hal,?_⟩;refine hag2 (((ps2,ss2,_),_),j+1) ⟨by simp only;omega,by simp only;omega,?_,?_,?_,?_,?_⟩ (by simp only;omega)
      ·simp only[zF j0];rw[hsu,<-hjt,hst];exact hP2
      ·simp only[zF j0];rw[hsu,<-hjt,hst];exact hS2
      ·simp only[zF j0];rw[hsu,<-hjt,hst];simp only;rw[hQ2,JB]
      ·simp only[zF j0];rw[hsu,<-hjt,hst];simp only;rw[hO2,snoc]
      ·simp only[zF j0];rw[hsu,<-hjt,hst];exact hle2
   ·have hjl0:j.toNat=jm bs ms i.toNat:=(by omega);obtain⟨hcu,hou,hmu⟩:=zao hcv hil hok j.toNat (by omega);rw[<-hxs]at hcu hou hmu
    have hcl:yz bs ms (i.toNat+1)=(js xs ms nm i.toNat s j.toNat,nm++[(js xs ms nm i.toNat s j.toNat).own]):=by
     rw[yz,<-hxs,<-hs,<-hnm,<-hjl0]
    obtain⟨u,hu⟩:∃u,u=js xs ms nm i.toNat s j.toNat:=⟨_,rfl⟩;rw[<-hu]at hcl hcu hou hmu hP2 hS2 hQ2 hO2 hle2;have hfo:V.frzs os=os:=(by rw[hO2,zA]);have hol:os.length=l.toNat:=(by rw[hO2,zj,hou.ol];omega);have go:∀k,os.getD k (.int .i64 0)=.int .i64 (u.own.getD k 0):=fun k=>(by rw[hO2,zE]);have hnl:ns.length=i.toNat:=(by rw[hN,yf,hok.nl]);have hvsl:vs.length=i.toNat:=(by rw[hV,zj,ul,zQ,hok.nl]);have hw1:IntKind.wrap .i64 ((l.toNat:Int)-1)=l-1:=(by rw[zl (by omega) (by omega)];omega);simp only[hfo,hol,hw1,go,zo hL,sQ,Zb]
    have sol:∀n:Int,∀x:V,x∈[V.int .i64 n]->x.solid=true:=fun n x hx=>by
     simp only[ya]at hx;subst hx;rfl
    have sol2:∀x:V,x∈[V.slc false 2 (.int .i64 0) os]->x.solid=true:=fun x hx=>by
     simp only[ya]at hx;subst hx;rfl
    have hvq:(vs++[V.int .i64 (u.own.getD (l-1).toNat 0)])=I (ul (yz bs ms (i.toNat+1)).2):=by
     rw[hcl,zp7,hou.ol,hV,show(l-1).toNat=j.toNat-1 by omega];simp[I]
    have hnq:(ns++[V.slc false 2 (.int .i64 0) os])=II false (yz bs ms (i.toNat+1)).2:=by
     rw[hcl,uP,hN,hO2];rfl
    have hl1:∀v:V,(ns.length:Int)+([v].length:Int)<=2147483647:=fun v=>by
     simp only[zi,zp];omega
    have hl2:∀v:V,(vs.length:Int)+([v].length:Int)<=2147483647:=fun v=>by
     simp only[zi,zp];omega
    rw[hvq,hnq,zl (n:=i+1) (by omega) (by omega)];refine⟨hl1 _,sol2,by omega,by omega,rfl,hl2 _,sol _,hag ((_,_,_),(_,_),i+1) ⟨by simp only;omega,by simp only;omega,?_,?_,?_,?_,?_,?_,?_⟩ (by simp only;omega)⟩
    ·simp only[zF i0];rw[hcl];exact hP2
    ·simp only[zF i0];rw[hcl];exact hS2
    ·simp only[zF i0];rw[hcl];exact hQ2
    ·simp only[zF i0];rfl
    ·simp only[zF i0];rfl
    ·simp only[zF i0];rw[hcl];exact hle2
    ·intro k hk;simp only[zF i0]at hk
     by_cases hki:k=i.toNat
     ·rw[hki,<-hls];omega
     ·exact hln k (by omega)
  ·have hin:i.toNat=bs.length:=by omega
   have hnb:KH bs ms=false:=by
    cases hb:KH bs ms with
    |false=>rfl
    |true=>
     exfalso;rcases zhg.1 hb with⟨k,h3,h4⟩|h3
     ·have:=hln k (by omega);rw[jm]at h4;omega
     ·rw[hin]at hle;omega
   rw[hr,hf2 hnb,hP,hS,hQ,hV,hin]
 ·cases h
end Go.Ax
namespace Go.Ax
open Go.Proofs
def zka(f:List V->List V->List V×List V×List V×List V×Bool)(q:List V->List V->Prop):zK:=fun
 |[.agg [.slc false 57 (.agg [.slc false 2 (.int .i64 0) []]) a0,.slc false 29 (.slc false 2 (.int .i64 0) []) a1]]=>some ([q a0 a1],.tup [.agg [.slc false 2 (.int .i64 0) ((f a0 a1).1),.slc false 2 (.int .i64 0) ((f a0 a1).2.1),.slc false 2 (.int .i64 0) ((f a0 a1).2.2.1)],.slc false 2 (.int .i64 0) ((f a0 a1).2.2.2.1),.bool ((f a0 a1).2.2.2.2)])
 |_=>none
def zbh(bs ms:List (List Int)):Bool:=(List.range bs.length).any fun i=>decide (24<Kz bs ms i)
theorem zxh{bs ms:List (List Int)}(h:∀i,i<bs.length->Kz bs ms i<=24):zbh bs ms=false:=by
 rw[zbh,List.any_eq_false];intro i hi;have:=h i (by simpa using hi);simp only[decide_eq_true_eq];omega
theorem zyD{bs ms:List (List Int)}{i:Nat}(hi:i<bs.length)(h:24<Kz bs ms i):zbh bs ms=true:=by
 rw[zbh,List.any_eq_true];exact⟨i,by simpa using hi,by simpa using h⟩
theorem zuJ{bs ms:List (List Int)}:KH bs ms=(zbh bs ms|| !decide ((yz bs ms bs.length).1.P.length<=24)):=by
 rw[Bool.eq_iff_iff,zhg,Bool.or_eq_true,znD]
 have e1:(∃i,i<bs.length/\24<jm bs ms i)↔zbh bs ms=true:=by
  rw[zbh,List.any_eq_true];constructor
  ·rintro⟨i,h1,h2⟩;exact⟨i,by simpa using h1,by rw[jm]at h2;simp only[decide_eq_true_eq];omega⟩
  ·rintro⟨i,h1,h2⟩;exact⟨i,by simpa using h1,by rw[jm];simp only[decide_eq_true_eq]at h2;omega⟩
 rw[e1];constructor
 ·rintro(h|h)
  ·exact .inl h
  ·exact .inr (by simp only[yD,decide_eq_false_iff_not];omega)
 ·rintro(h|h)
  ·exact .inl h
  ·refine .inr ?_;simp only[yD,decide_eq_false_iff_not]at h;omega
def YF(a b:List V):List V×List V×List V×List V×Bool:=bif zbh (jq a) (qS b)then([],[],[],[],false)else
 (I (yz (jq a) (qS b) a.length).1.P,I (yz (jq a) (qS b) a.length).1.S,I (yz (jq a) (qS b) a.length).1.Q,I (ul (yz (jq a) (qS b) a.length).2),decide ((yz (jq a) (qS b) a.length).1.P.length<=24))
def NmP(ms names:List (List Int))(i j k:Nat)(a:Int):Prop:=
 (a= -1/\∀t,t<k->¬(j:Int)<mm ms i t)\/∃t,nmK ms i j=some t/\0<=a/\a=(names.getD t []).getD j 0
theorem zdM:yJ Tryz.prog 45 (zka YF ZI):=by
 intro args ps r h hp;unfold zka at h;split at h
 ·rename_i a0 a1;simp only[za,zb]at h;obtain⟨rfl,rfl⟩:=h;obtain⟨⟨⟨bs,hbs,hb1,hb2⟩,⟨ms,hms,hm1,hm2⟩⟩,hcv⟩:=(zm.1 hp).1;rw[hbs,hms,yK,yq]at hcv;have g1:V.frzs a0=a0:=by rw[hbs,uf]
  have g2:V.frzs a1=a1:=by rw[hms,ke]
  have hbl:a0.length=bs.length:=by rw[hbs,jj]
  have hml:a1.length=ms.length:=by rw[hms,yf]
  have gb:∀k,a0.getD k (.agg [.slc false 2 (.int .i64 0) []])=.agg [.slc false 2 (.int .i64 0) (I (bs.getD k []))]:=fun k=>by rw[hbs,QA]
  have gm:∀k,a1.getD k (.slc false 2 (.int .i64 0) [])=.slc false 2 (.int .i64 0) (I (ms.getD k [])):=fun k=>by rw[hms,qM]
  have hm0:∀x y:Nat,(ms.getD x []).getD y 0=mm ms x y:=fun _ _=>rfl;obtain⟨n,hn⟩:∃n:Int,n=bs.length:=⟨_,rfl⟩;have n1:=hcv.n1;have n6:=hcv.n6;have hmn:ms.length=bs.length:=hcv.tab.len;have hbr:∀i,i<bs.length->Br (bs.getD i []):=fun i hi=>jL (hcv.br i hi);have rl:∀k,k<bs.length->(ms.getD k []).length=bs.length:=fun k hk=>(hcv.tab.row k hk).1;have mmr:∀i k,i<bs.length->k<bs.length->0<=mm ms i k/\mm ms i k<=200:=fun i k hi hk=>hcv.tab.range hi hk;have mmo:∀i k,i<bs.length->k<bs.length->i≠k->1<=mm ms i k/\mm ms i k<=200:=fun i k hi hk hne=>((hcv.tab.row i hi).2 k hk).2 hne;have hqv:ZI a0 a1:=(zm.1 hp).1;have hf1:zbh bs ms=true->YF a0 a1=([],[],[],[],false):=fun h=>by rw[YF,hbs,hms,yK,yq,h];rfl
  have hf2:zbh bs ms=false->YF a0 a1=(I (yz bs ms bs.length).1.P,I (yz bs ms bs.length).1.S,I (yz bs ms bs.length).1.Q,I (ul (yz bs ms bs.length).2),decide ((yz bs ms bs.length).1.P.length<=24)):=fun h=>by
   rw[YF,hbl,hbs,hms,yK,yq,h];rfl
  obtain⟨vl,hvl⟩:∃vl,vl=I (Qj bs ms bs.length):=⟨_,rfl⟩;have efl:Jw a0 a1=vl:=by rw[Jw,hbl,hbs,hms,yK,yq,hvl]
  have hvll:vl.length=bs.length:=by rw[hvl,zj,Qj,yo]
  obtain⟨ll,hll⟩:∃ll,ll=Qj bs ms bs.length:=⟨_,rfl⟩;have gvl:∀k,vl.getD k (.int .i64 0)=.int .i64 (ll.getD k 0):=fun k=>by rw[hvl,zE,hll]
  have gll:∀k,k<bs.length->ll.getD k 0=Kz bs ms k:=fun k hk=>by rw[hll,Qj,jx _ _ _ _ hk]
  generalize ZM:Jw=zaA;generalize qa:ZI=ur;generalize kg:uc=uQ;generalize qC:ZH=kR;generalize JU:Kq=zbE;refine KR (T:=tab) (B:=[(47,zf5 zaA ur),(84,zdr uQ kR),(85,zdr zbE kR)]) (Bi:=[]) [1000003508,1000030012,1000032003,1000032006,1000032007,2000008045,2000008055,2000008056,2000032168,2000032802,2000032969,2000032970,2000032971,2000032972,2000032998,3000032001,0,1,2,3,4,5,6,7,8,9,10,11,12,13,14,15,16,17] Tryz.func45 rfl rfl (by kernel_rfl) (ze rfl) mixed zR (by subst ZM qa kg qC JU;exact(zn zdL (zn zdc (zn zgF zB)))) (by subst ZM qa kg qC JU;exact zy) (by kernel_rfl) ?_;intro L lp rr hL hr hf hlp;have Ef:zaA a0 a1=vl:=by rw[<-ZM,efl]
  have E1:∀xs k,uQ (I xs) k=I (qX xs k.toNat):=fun xs k=>by rw[<-kg,uc,zr]
  have E2:∀xs k,zbE (I xs) k=I (jR xs k.toNat):=fun xs k=>by rw[<-JU,Kq,zr]
  have Q1:∀xs k,Br xs->1<=k->k<=1000000->kR (I xs) k:=fun xs k h h1 h2=>by rw[<-qC];exact⟨⟨xs,rfl,h⟩,h1,h2⟩
  conv=>cbv
  simp only[zo hL,sQ,g1,g2,Ef];refine⟨by rw[<-qa];exact hqv,?_⟩
  refine hlp ((List V×List V×List V)×(List V×List V)×Int) _ _ _ [1,2,5,6,7,8,9] (fun x=>[(1,none,.val (.box 27 (.agg [.slc false 57 (.agg [.slc false 2 (.int .i64 0) []]) a0,.slc false 29 (.slc false 2 (.int .i64 0) []) a1]))),(2,none,.val (.box 31 (.agg [.slc true 2 (.int .i64 0) [],.slc true 2 (.int .i64 0) [],.slc true 2 (.int .i64 0) []]))),(5,none,.val (.slc true 2 (.int .i64 0) vl)),(6,none,.val (.box 31 (.agg [.slc true 2 (.int .i64 0) x.1.1,.slc true 2 (.int .i64 0) x.1.2.1,.slc true 2 (.int .i64 0) x.1.2.2]))),(7,none,.val (.slc true 2 (.int .i64 0) x.2.1.1)),(8,none,.val (.slc true 29 (.slc false 2 (.int .i64 0) []) x.2.1.2)),(9,none,.val (.int .i64 x.2.2))])
   (fun x=>0<=x.2.2/\x.2.2<=n/\x.1.1=I (yz bs ms x.2.2.toNat).1.P/\x.1.2.1=I (yz bs ms x.2.2.toNat).1.S/\x.1.2.2=I (yz bs ms x.2.2.toNat).1.Q/\x.2.1.1=I (ul (yz bs ms x.2.2.toNat).2)/\x.2.1.2=II false (yz bs ms x.2.2.toNat).2/\(yz bs ms x.2.2.toNat).1.P.length<=24*x.2.2/\(∀k,k<x.2.2.toNat->Kz bs ms k<=24)) (fun x=>(n-x.2.2).toNat) ((([],[],[]),([],[]),0)) (by subst hL;rfl) ?_ ?_
  ·exact⟨by simp,by simp only;omega,rfl,rfl,rfl,rfl,rfl,by simp[yz],fun k hk=>by simp at hk⟩
  rintro⟨⟨ps,ss,qs⟩,⟨vs,ns⟩,i⟩ ⟨i0,i1,hP,hS,hQ,hV,hN,hle,hln⟩ hfx ag hag;simp only at i0 i1 hP hS hQ hV hN hle hln;have hpl0:ps.length=(yz bs ms i.toNat).1.P.length:=by rw[hP,zj]
  conv=>cbv
  simp only[zo hL,sQ,hbl,gb,gvl,hvll,E1,E2,Qt,YM,YQ,<-hn,hpl0];refine⟨fun h2=>?_,fun h2=>?_⟩
  ·have hil:i.toNat<bs.length:=(by omega);have hls:=gll _ hil;obtain⟨l,hl⟩:∃l,l=ll.getD i.toNat 0:=⟨_,rfl⟩;rw[<-hl]at hls ⊢;have hl1:1<=l:=(by rw[hls];exact zp6 hcv hil);obtain⟨xs,hxs⟩:∃xs,xs=bs.getD i.toNat []:=⟨_,rfl⟩;have hbx:Br xs:=(by rw[hxs];exact hbr _ hil);have hok:=ze6 hcv i.toNat (by omega);obtain⟨s,hs⟩:∃s,s=(yz bs ms i.toNat).1:=⟨_,rfl⟩;obtain⟨nm,hnm⟩:∃nm,nm=(yz bs ms i.toNat).2:=⟨_,rfl⟩;rw[<-hs]at hP hS hQ hle hok;rw[<-hnm]at hV hN hok;rw[<-hxs];have hlN:jm bs ms i.toNat=l.toNat:=(by rw[jm,hls]);obtain⟨row,hrow⟩:∃row,row=I (qX xs l.toNat):=⟨_,rfl⟩;have hrl:row.length=l.toNat:=(by rw[hrow,zj,ZT]);have grow:∀k,row.getD k (.int .i64 0)=.int .i64 ((qX xs l.toNat).getD k 0):=fun k=>(by rw[hrow,zE]);obtain⟨vc,hvc⟩:∃vc,vc=I (jR xs l.toNat):=⟨_,rfl⟩;have hvcl:vc.length=l.toNat-1:=(by rw[hvc,zj,jR,yo]);have gvc:∀k,vc.getD k (.int .i64 0)=.int .i64 ((jR xs l.toNat).getD k 0):=fun k=>(by rw[hvc,zE]);rw[<-hrow,<-hvc];refine⟨i0,h2,hil,fun h3=>?_,fun h3=>?_⟩
   ·rw[hr,hf1 (zyD hil (by omega))];rfl
   have hqf:=Q1 xs l hbx hl1 (by omega);refine⟨i0,h2,i0,h2,hil,hqf,i0,h2,i0,h2,hil,hqf,?_⟩
   refine hlp (((List V×List V×List V)×List V)×Int) _ _ _ [1,2,5,6,7,8,9,10,11,12,13] (fun y=>[(1,none,.val (.box 27 (.agg [.slc false 57 (.agg [.slc false 2 (.int .i64 0) []]) a0,.slc false 29 (.slc false 2 (.int .i64 0) []) a1]))),(2,none,.val (.box 31 (.agg [.slc true 2 (.int .i64 0) [],.slc true 2 (.int .i64 0) [],.slc true 2 (.int .i64 0) []]))),(5,none,.val (.slc true 2 (.int .i64 0) vl)),(6,none,.val (.box 31 (.agg [.slc true 2 (.int .i64 0) y.1.1.1,.slc true 2 (.int .i64 0) y.1.1.2.1,.slc true 2 (.int .i64 0) y.1.1.2.2]))),(7,none,.val (.slc true 2 (.int .i64 0) vs)),(8,none,.val (.slc true 29 (.slc false 2 (.int .i64 0) []) ns)),(9,none,.val (.int .i64 i)),(10,none,.val (.slc true 2 (.int .i64 0) row)),(11,none,.val (.slc true 2 (.int .i64 0) vc)),(12,none,.val (.slc true 2 (.int .i64 0) y.1.2)),(13,none,.val (.int .i64 y.2))])
    (fun y=>0<=y.2/\y.2<=l/\y.1.1.1=I (js xs ms nm i.toNat s y.2.toNat).P/\y.1.1.2.1=I (js xs ms nm i.toNat s y.2.toNat).S/\y.1.1.2.2=I (js xs ms nm i.toNat s y.2.toNat).Q/\y.1.2=I (js xs ms nm i.toNat s y.2.toNat).own/\(js xs ms nm i.toNat s y.2.toNat).P.length<=24*i+y.2) (fun y=>(l-y.2).toNat) ((((ps,ss,qs),[]),0)) (by subst hL;rfl) ?_ ?_
   ·exact⟨by simp,by simp only;omega,hP,hS,hQ,rfl,by simp only;show(s.P.length:Int)<=24*i+0;omega⟩
   rintro⟨⟨⟨ps2,ss2,qs2⟩,os⟩,j⟩ ⟨j0,j1,hP2,hS2,hQ2,hO2,hle2⟩ hfx2 ag2 hag2;simp only at j0 j1 hP2 hS2 hQ2 hO2 hle2
   conv=>cbv
   simp only[zo hL,sQ,hvll,gvl,<-hl];refine⟨i0,by omega,hil,fun h4=>?_,fun h4=>?_⟩
   ·obtain⟨u,hu⟩:∃u,u=js xs ms nm i.toNat s j.toNat:=⟨_,rfl⟩;obtain⟨hcu,hou,hmu⟩:=zao hcv hil hok j.toNat (by omega);rw[<-hxs,<-hu]at hcu hou hmu;obtain⟨jt,hjt⟩:∃jt,jt=j.toNat:=⟨_,rfl⟩;have hjj:(jt:Int)=j:=(by omega);have hjl:jt<l.toNat:=(by omega);have hfm:(qX xs l.toNat).getD jt 0=mul xs jt:=(by rw[Kb,jx _ _ _ _ hjl]);have hjN:jt<jm bs ms i.toNat:=(by omega);have hsu:js xs ms nm i.toNat s (j.toNat+1)=stJ xs ms nm i.toNat u j.toNat:=(by rw[js,<-hu]);rw[<-hu]at hP2 hS2 hQ2 hO2 hle2;have hpl2:ps2.length=u.P.length:=(by rw[hP2,zj]);have hsl2:ss2.length=u.P.length:=(by rw[hS2,zj,hcu.sl]);have hql2:qs2.length=u.P.length:=(by rw[hQ2,zj,hcu.ql]);have hol2:os.length=j.toNat:=(by rw[hO2,zj,hou.ol]);have gq2:∀k,qs2.getD k (.int .i64 0)=.int .i64 (u.Q.getD k 0):=fun k=>(by rw[hQ2,zE]);have go2:∀k,os.getD k (.int .i64 0)=.int .i64 (u.own.getD k 0):=fun k=>(by rw[hO2,zE]);have hnl:ns.length=i.toNat:=(by rw[hN,yf,hok.nl]);have gn:∀k,ns.getD k (.slc false 2 (.int .i64 0) [])=.slc false 2 (.int .i64 0) (I (nm.getD k [])):=fun k=>(by rw[hN,qM]);obtain⟨z,hz⟩:∃z:Int,z=u.P.length:=⟨_,rfl⟩
    refine hlp (Int×Int) _ _ _ [1,2,5,6,7,8,9,10,11,12,13,14,15] (fun w=>[(1,none,.val (.box 27 (.agg [.slc false 57 (.agg [.slc false 2 (.int .i64 0) []]) a0,.slc false 29 (.slc false 2 (.int .i64 0) []) a1]))),(2,none,.val (.box 31 (.agg [.slc true 2 (.int .i64 0) [],.slc true 2 (.int .i64 0) [],.slc true 2 (.int .i64 0) []]))),(5,none,.val (.slc true 2 (.int .i64 0) vl)),(6,none,.val (.box 31 (.agg [.slc true 2 (.int .i64 0) ps2,.slc true 2 (.int .i64 0) ss2,.slc true 2 (.int .i64 0) qs2]))),(7,none,.val (.slc true 2 (.int .i64 0) vs)),(8,none,.val (.slc true 29 (.slc false 2 (.int .i64 0) []) ns)),(9,none,.val (.int .i64 i)),(10,none,.val (.slc true 2 (.int .i64 0) row)),(11,none,.val (.slc true 2 (.int .i64 0) vc)),(12,none,.val (.slc true 2 (.int .i64 0) os)),(13,none,.val (.int .i64 j)),(14,none,.val (.int .i64 w.1)),(15,none,.val (.int .i64 w.2))])
     (fun w=>0<=w.2/\w.2<=i/\NmP ms nm i.toNat jt w.2.toNat w.1) (fun w=>(i-w.2).toNat) ((-1,0)) (by subst hL;rfl) ?_ ?_
    ·exact⟨by simp,i0,.inl ⟨rfl,fun t ht=>by simp at ht⟩⟩
    rintro⟨a,k⟩ ⟨k0,k1,hA⟩ hfx3 ag3 hag3;simp only at k0 k1 hA;have snoc:∀(l:List Int) (x:Int),I l++[V.int .i64 x]=I (l++[x]):=fun l x=>by simp[I]
    conv=>cbv
    have hqz0:(qs2++[V.int .i64 0]).getD u.P.length (.int .i64 0)=.int .i64 0:=by
     rw[zd,List.getElem?_append_right (by omega),hql2,kF];rfl
    have hqzl:(qs2++[V.int .i64 0]).length=u.P.length+1:=by rw[zq,hql2];rfl
    have hqzs:∀v,(qs2++[V.int .i64 0]).set u.P.length v=qs2++[v]:=fun v=>by
     rw[List.set_append_right _ _ (by omega),hql2,kF];rfl
    simp only[zo hL,sQ,hml,gm,hm0,hnl,gn,hol2,hql2,hpl2,hsl2,gq2,go2,hrl,grow,<-hjt,hfm,Zb,gvc,hvcl,zW,hqz0,hqzl,hqzs]
    have sol:∀n:Int,∀x:V,x∈[V.int .i64 n]->x.solid=true:=fun n x hx=>by
     simp only[ya]at hx;subst hx;rfl
    have hwj:IntKind.wrap .i64 (j+1)=j+1:=zl (by omega) (by omega);rw[hwj];have hdec:(l-(j+1)).toNat<(l-j).toNat:=(by omega);refine⟨fun⟨h5,h5a⟩=>?_,fun h5=>?_⟩
    ·have hkn:k.toNat<i.toNat:=(by omega);have hrw:=rl _ hil;have hnlk:=hok.rl _ hkn;clear hfx3 hqz0 hqzl hqzs hz hll hvl hls hpl2 hsl2 hql2 hol2;rw[zl (n:=k+1) (by omega) (by omega)];refine⟨i0,by omega,k0,by omega,fun h6=>?_,fun h6=>?_⟩
     ·have hsym:=hcv.tab.sym i.toNat hil k.toNat (by omega);have hml2:=zaO hcv (i:=k.toNat) (k:=i.toNat) (by omega) hil;refine⟨k0,by omega,hkn,j0,by omega,hag3 (_,k+1) ⟨by simp only;omega,by simp only;omega,?_⟩ (by simp only;omega)⟩;simp only[zF k0];refine .inr ⟨k.toNat,?_,?_,rfl⟩
      ·refine zCG hkn (fun t ht=>?_) (by omega);rcases hA with⟨_,h8⟩|⟨_,_,h8,_⟩
       ·exact h8 t ht
       ·omega
      ·exact(hok.rin k.toNat jt hkn (by omega)).1
     ·refine hag3 (a,k+1) ⟨by simp only;omega,by simp only;omega,?_⟩ (by simp only;omega);simp only[zF k0];rcases hA with⟨h7,h8⟩|h7
      ·refine .inl ⟨h7,fun t ht=>?_⟩
       by_cases htk:t=k.toNat
       ·rw[htk,hjj];exact h6
       ·exact h8 t (by omega)
      ·exact .inr h7
    ·refine⟨fun h6=>?_,fun h6=>?_⟩
     ·have hn0:nmK ms i.toNat jt=none:=by
       rcases hA with⟨_,h8⟩|⟨_,_,h8,_⟩
       ·exact zkI fun t ht=>h8 t (by omega)
       ·omega
      have hst:=zrd (xs:=xs) (names:=nm) (s:=u) hn0;have hmul:=Yg hbx jt
      have fin:∀p q:Int,p=YN u.own jt->q=Jc xs u.own jt->(0<=j+1/\j+1<=l/\ps2++[V.int .i64 p]=I (js xs ms nm i.toNat s (j+1).toNat).P/\ss2++[V.int .i64 q]=I (js xs ms nm i.toNat s (j+1).toNat).S/\qs2++[V.int .i64 (IntKind.wrap .i64 (0+(mul xs jt:Int)))]=I (js xs ms nm i.toNat s (j+1).toNat).Q/\os++[V.int .i64 (u.P.length:Int)]=I (js xs ms nm i.toNat s (j+1).toNat).own/\(js xs ms nm i.toNat s (j+1).toNat).P.length<=24*i+(j+1)):=fun p q hp hq=>by
       rw[zF j0,hsu,<-hjt,hst,zl (by omega) (by omega)];refine⟨by omega,by omega,by rw[hP2,snoc,hp],by rw[hS2,snoc,hq],by rw[hQ2,snoc,Int.zero_add],by rw[hO2,snoc],?_⟩;simp only[zq,zi,zp];omega
      have hu1:(u.P.length:Int)<((u.P.length+1:Nat):Int):=by omega
      have hl1:∀v:V,(u.P.length:Int)+([v].length:Int)<=2147483647:=fun v=>by
       simp only[zi,zp];omega
      have hl2:∀v:V,(jt:Int)+([v].length:Int)<=2147483647:=fun v=>by
       simp only[zi,zp];omega
      have hw1:0<j->IntKind.wrap .i64 (j-1)=j-1:=fun h=>zl (by omega) (by omega);have hwn:(j-1).toNat=jt-1:=by omega
      have hcj:0<j->(jR xs l.toNat).getD (jt-1) 0=cd (mul xs) jt jt:=fun h=>by
       rw[QV xs (by omega),show jt-1+1=jt by omega]
      have hci:=zAY (mul xs) jt jt;obtain⟨cj,hcjj⟩:∃cj,cj=cd (mul xs) jt jt:=⟨_,rfl⟩;rw[<-hcjj]at hcj hci;have hsj:Jc xs u.own jt=if 0<jt/\cj≠0 then u.own.getD (j-cj).toNat 0 else-1:=(by rw[Jc,<-hcjj,hjj]);have hjl2:j<(l.toNat:Int):=(by omega);have hup0:0<=(u.P.length:Int):=(by omega);have hupn:u.P.length<u.P.length+1:=(by omega);clear hqz0 hqzl hqzs hll hvl hls hql2 hsl2 hpl2 hfx3 hmul hol2 hrl hml hbl n6 n1 hmn hn hnl;refine⟨fun h8=>?_,fun h8=>?_⟩
      ·have hpj:YN u.own jt=u.own.getD (jt-1) 0:=(by rw[YN,if_pos (by omega)]);rw[hw1 h8,hwn,hcj h8];have q1:0<=j-1:=(by omega);have q2:j-1<(jt:Int):=(by omega);have q3:jt-1<jt:=(by omega);have q4:j-1<((l.toNat-1:Nat):Int):=(by omega);have q5:jt-1<l.toNat-1:=(by omega);refine⟨q1,q2,q3,q1,q4,q5,fun h9=>?_,fun h9=>?_⟩
       ·rw[if_pos ⟨by omega,h9⟩]at hsj;rw[zl (n:=j-cj) (by omega) (by omega)];exact⟨q1,q4,q5,by omega,by omega,by omega,rfl,hl1 _,sol _,rfl,hl1 _,sol _,rfl,hl1 _,sol _,hup0,hu1,hupn,j0,hjl2,hjl,hup0,hu1,hupn,rfl,hl2 _,sol _,hag2 (((_,_,_),_),j+1) (fin _ _ hpj.symm hsj.symm) hdec⟩
       ·rw[if_neg (fun h=>h.2 h9)]at hsj;exact⟨rfl,hl1 _,sol _,rfl,hl1 _,sol _,rfl,hl1 _,sol _,hup0,hu1,hupn,j0,hjl2,hjl,hup0,hu1,hupn,rfl,hl2 _,sol _,hag2 (((_,_,_),_),j+1) (fin _ _ hpj.symm hsj.symm) hdec⟩
      ·have hpj:YN u.own jt= -1:=(by rw[YN,if_neg (by omega)]);rw[if_neg (by omega)]at hsj;exact⟨rfl,hl1 _,sol _,rfl,hl1 _,sol _,rfl,hl1 _,sol _,hup0,hu1,hupn,j0,hjl2,hjl,hup0,hu1,hupn,rfl,hl2 _,sol _,hag2 (((_,_,_),_),j+1) (fin _ _ hpj.symm hsj.symm) hdec⟩
     ·rcases hA with⟨h7,_⟩|⟨k0',hn1,ha0,haz⟩
      ·omega
      obtain⟨hk0,hmk⟩:=zhx hn1;have hst:=zrc (xs:=xs) (names:=nm) (s:=u) hn1;have hsym:=hcv.tab.sym i.toNat hil k0' (by omega);have hml2:=zaO hcv (i:=k0') (k:=i.toNat) (by omega) hil;have hin:=hok.rin k0' jt hk0 (by omega);rw[<-haz]at hst hin;have ha1:a<u.P.length:=(by omega);have hal:a.toNat<u.P.length:=by omega
      have hl2:∀v:V,(jt:Int)+([v].length:Int)<=2147483647:=fun v=>by
       simp only[zi,zp];omega
      have hjl2:j<(l.toNat:Int):=(by omega);clear hfx3 hqz0 hqzl hqzs hql2 hsl2 hpl2 hll hvl hls;refine⟨ha0,ha1,hal,j0,hjl2,hjl,ha0,ha1,hal,rfl,hl2 _,sol _,?_⟩;refine hag2 (((ps2,ss2,_),_),j+1) ⟨by simp only;omega,by simp only;omega,?_,?_,?_,?_,?_⟩ hdec
      ·simp only[zF j0];rw[hsu,<-hjt,hst];exact hP2
      ·simp only[zF j0];rw[hsu,<-hjt,hst];exact hS2
      ·simp only[zF j0];rw[hsu,<-hjt,hst];simp only;rw[hQ2,JB]
      ·simp only[zF j0];rw[hsu,<-hjt,hst];simp only;rw[hO2,snoc]
      ·simp only[zF j0];rw[hsu,<-hjt,hst];simp only;omega
   ·have hjl0:j.toNat=jm bs ms i.toNat:=(by omega);obtain⟨hcu,hou,hmu⟩:=zao hcv hil hok j.toNat (by omega);rw[<-hxs]at hcu hou hmu
    have hcl:yz bs ms (i.toNat+1)=(js xs ms nm i.toNat s j.toNat,nm++[(js xs ms nm i.toNat s j.toNat).own]):=by
     rw[yz,<-hxs,<-hs,<-hnm,<-hjl0]
    obtain⟨u,hu⟩:∃u,u=js xs ms nm i.toNat s j.toNat:=⟨_,rfl⟩;rw[<-hu]at hcl hcu hou hmu hP2 hS2 hQ2 hO2 hle2;have hfo:V.frzs os=os:=(by rw[hO2,zA]);have hol:os.length=l.toNat:=(by rw[hO2,zj,hou.ol];omega);have go:∀k,os.getD k (.int .i64 0)=.int .i64 (u.own.getD k 0):=fun k=>(by rw[hO2,zE]);have hnl:ns.length=i.toNat:=(by rw[hN,yf,hok.nl]);have hvsl:vs.length=i.toNat:=(by rw[hV,zj,ul,zQ,hok.nl]);have hw1:IntKind.wrap .i64 ((l.toNat:Int)-1)=l-1:=(by rw[zl (by omega) (by omega)];omega);simp only[hfo,hol,hw1,go,zo hL,sQ,Zb]
    have sol:∀n:Int,∀x:V,x∈[V.int .i64 n]->x.solid=true:=fun n x hx=>by
     simp only[ya]at hx;subst hx;rfl
    have sol2:∀x:V,x∈[V.slc false 2 (.int .i64 0) os]->x.solid=true:=fun x hx=>by
     simp only[ya]at hx;subst hx;rfl
    have hvq:(vs++[V.int .i64 (u.own.getD (l-1).toNat 0)])=I (ul (yz bs ms (i.toNat+1)).2):=by
     rw[hcl,zp7,hou.ol,hV,show(l-1).toNat=j.toNat-1 by omega];simp[I]
    have hnq:(ns++[V.slc false 2 (.int .i64 0) os])=II false (yz bs ms (i.toNat+1)).2:=by
     rw[hcl,uP,hN,hO2];rfl
    have hl1:∀v:V,(ns.length:Int)+([v].length:Int)<=2147483647:=fun v=>by
     simp only[zi,zp];omega
    have hl2:∀v:V,(vs.length:Int)+([v].length:Int)<=2147483647:=fun v=>by
     simp only[zi,zp];omega
    rw[hvq,hnq,zl (n:=i+1) (by omega) (by omega)];refine⟨hl1 _,sol2,by omega,by omega,rfl,hl2 _,sol _,hag ((_,_,_),(_,_),i+1) ⟨by simp only;omega,by simp only;omega,?_,?_,?_,?_,?_,?_,?_⟩ (by simp only;omega)⟩
    ·simp only[zF i0];rw[hcl];exact hP2
    ·simp only[zF i0];rw[hcl];exact hS2
    ·simp only[zF i0];rw[hcl];exact hQ2
    ·simp only[zF i0];rfl
    ·simp only[zF i0];rfl
    ·simp only[zF i0];rw[hcl];simp only;omega
    ·intro k hk;simp only[zF i0]at hk
     by_cases hki:k=i.toNat
     ·rw[hki,<-hls];omega
     ·exact hln k (by omega)
  ·have hin:i.toNat=bs.length:=(by omega);have hna:zbh bs ms=false:=zxh fun k hk=>hln k (by omega);rw[hr,hf2 hna,hP,hS,hQ,hV,hin];simp only[zA,zj];have hd:decide (((yz bs ms bs.length).1.P.length:Int)<=24)=decide ((yz bs ms bs.length).1.P.length<=24):=decide_eq_decide.2 (by omega);rw[hd]
 ·cases h
end Go.Ax
namespace Go.Ax
open Go.Proofs
noncomputable def zeZ(a b:List V):List V×Int:=bif qA a b then(bif KH (jq a) (qS b)then([],3)else(I (ul (yz (jq a) (qS b) a.length).2),0))else([],1)
theorem zpJ{bs ms:List (List Int)}:(KH bs ms=true->zbh bs ms=true\/(zbh bs ms=false/\decide ((yz bs ms bs.length).1.P.length<=24)=false))/\(KH bs ms=false->zbh bs ms=false/\decide ((yz bs ms bs.length).1.P.length<=24)=true):=by
 rw[zuJ];cases zbh bs ms<;>cases decide ((yz bs ms bs.length).1.P.length<=24)<;>simp
theorem zhp:yJ Tryz.prog 9 (zca zeZ uu):=by
 intro args ps r h hp;unfold zca at h;split at h
 ·rename_i a0 a1;simp only[za,zb]at h;obtain⟨rfl,rfl⟩:=h;have hq:uu a0 a1:=(zm.1 hp).1;have g1:=YK hq.1.isBB;have g2:=YJ hq.2.isII;generalize yn:qA=ji;generalize qn:uu=jM;generalize zcR:zb7=zpB;generalize qa:ZI=ur;refine zI (T:=tab) (B:=[(15,Yq ji jM),(43,zj9 zpB ur)]) (Bi:=[]) [0,1,2,3,5,6] Tryz.func9 rfl rfl (by kernel_rfl) (ze rfl) mixed zR (by subst yn qn zcR qa;exact(zn uv (zn zde zB))) (by subst yn qn zcR qa;exact zy) (by kernel_rfl) ?_;intro L lp rr hL hr hf hlp
  conv=>cbv
  simp only[zo hL,sQ,g1,g2];subst yn qn zcR qa;refine⟨hq,fun h=>?_,fun h=>⟨JG hq h,?_⟩⟩
  ·rw[hr,zeZ,h];rfl
  ·rw[hr,zeZ,h]
   cases hb:KH (jq a0) (qS a1)with
   |true=>simp only[zb7,hb,cond_true]
   |false=>simp only[zb7,hb,cond_true,cond_false]
 ·cases h
def zti(f:List V->List V->List V×Int)(q:List V->List V->Prop):zK:=fun
 |[.agg [.slc false 57 (.agg [.slc false 2 (.int .i64 0) []]) a0,.slc false 29 (.slc false 2 (.int .i64 0) []) a1]]=>some ([q a0 a1],.tup [.slc false 2 (.int .i64 0) ((f a0 a1).1),.int .i64 ((f a0 a1).2)])
 |_=>none
theorem zhn:yJ Tryz.prog 10 (zti zeZ uu):=by
 intro args ps r h hp;unfold zti at h;split at h
 ·rename_i a0 a1;simp only[za,zb]at h;obtain⟨rfl,rfl⟩:=h;have hq:uu a0 a1:=(zm.1 hp).1;have g1:=YK hq.1.isBB;have g2:=YJ hq.2.isII;have hal:a0.length=(jq a0).length:=by obtain⟨bs,hbs⟩:=hq.1.isBB;rw[hbs,yK,jj]
  generalize yn:qA=ji;generalize qn:uu=jM;generalize zcP:YF=zpz;generalize qa:ZI=ur;refine KR (T:=tab) (B:=[(44,Yq ji jM),(45,zka zpz ur)]) (Bi:=[]) [0,1,2,3,5,6] Tryz.func10 rfl rfl (by kernel_rfl) (ze rfl) mixed zR (by subst yn qn zcP qa;exact(zn zbO (zn zdM zB))) (by subst yn qn zcP qa;exact zy) (by kernel_rfl) ?_;intro L lp rr hL hr hf hlp
  conv=>cbv
  simp only[zo hL,sQ,g1,g2];subst yn qn zcP qa;refine⟨hq,fun h=>?_,fun h=>⟨JG hq h,?_⟩⟩
  ·rw[hr,zeZ,h];rfl
  ·rw[hr,zeZ,h];obtain⟨c1,c2⟩:= @zpJ (jq a0) (qS a1);rw[<-hal]at c1 c2
   cases hb:KH (jq a0) (qS a1)with
   |true=>
    rcases c1 hb with h1|⟨h1,h2⟩
    ·have e:YF a0 a1=([],[],[],[],false):=(by rw[YF,h1];rfl);rw[e];exact⟨fun _=>rfl,fun h=>absurd h (by simp)⟩
    ·have e:YF a0 a1=(I (yz (jq a0) (qS a1) a0.length).1.P,I (yz (jq a0) (qS a1) a0.length).1.S,I (yz (jq a0) (qS a1) a0.length).1.Q,I (ul (yz (jq a0) (qS a1) a0.length).2),false):=(by rw[YF,h1,h2];rfl);rw[e];exact⟨fun _=>rfl,fun h=>absurd h (by simp)⟩
   |false=>
    obtain⟨h1,h2⟩:=c2 hb;have e:YF a0 a1=(I (yz (jq a0) (qS a1) a0.length).1.P,I (yz (jq a0) (qS a1) a0.length).1.S,I (yz (jq a0) (qS a1) a0.length).1.Q,I (ul (yz (jq a0) (qS a1) a0.length).2),true):=(by rw[YF,h1,h2];rfl);rw[e];refine⟨fun h=>absurd h (by simp),fun _=>?_⟩;simp only[zA];rfl
 ·cases h
end Go.Ax
namespace Go.Ax
open Go.Proofs
noncomputable def ze1(a b:List V):List V×List V×List V×Int:=bif qA a b then(bif KH (jq a) (qS b)then([],[],[],3)else(I (yz (jq a) (qS b) a.length).1.P,I (yz (jq a) (qS b) a.length).1.S,I (yz (jq a) (qS b) a.length).1.Q,0))else([],[],[],1)
def ztj(f:List V->List V->List V×List V×List V×Int)(q:List V->List V->Prop):zK:=fun
 |[.agg [.slc false 57 (.agg [.slc false 2 (.int .i64 0) []]) a0,.slc false 29 (.slc false 2 (.int .i64 0) []) a1]]=>some ([q a0 a1],.tup [.agg [.slc true 2 (.int .i64 0) ((f a0 a1).1),.slc true 2 (.int .i64 0) ((f a0 a1).2.1),.slc true 2 (.int .i64 0) ((f a0 a1).2.2.1)],.int .i64 ((f a0 a1).2.2.2)])
 |_=>none
def ztk(f:List V->List V->List V×List V×List V×Int)(q:List V->List V->Prop):zK:=fun
 |[.agg [.slc false 57 (.agg [.slc false 2 (.int .i64 0) []]) a0,.slc false 29 (.slc false 2 (.int .i64 0) []) a1]]=>some ([q a0 a1],.tup [.agg [.slc false 2 (.int .i64 0) ((f a0 a1).1),.slc false 2 (.int .i64 0) ((f a0 a1).2.1),.slc false 2 (.int .i64 0) ((f a0 a1).2.2.1)],.int .i64 ((f a0 a1).2.2.2)])
 |_=>none
theorem zit:yJ Tryz.prog 7 (ztj ze1 uu):=by
 intro args ps r h hp;unfold ztj at h;split at h
 ·rename_i a0 a1;simp only[za,zb]at h;obtain⟨rfl,rfl⟩:=h;have hq:uu a0 a1:=(zm.1 hp).1;have g1:=YK hq.1.isBB;have g2:=YJ hq.2.isII;generalize yn:qA=ji;generalize qn:uu=jM;generalize zcR:zb7=zpB;generalize qa:ZI=ur;refine zI (T:=tab) (B:=[(15,Yq ji jM),(43,zj9 zpB ur)]) (Bi:=[]) [0,1,2,3,4,6] Tryz.func7 rfl rfl (by kernel_rfl) (ze rfl) mixed zR (by subst yn qn zcR qa;exact(zn uv (zn zde zB))) (by subst yn qn zcR qa;exact zy) (by kernel_rfl) ?_;intro L lp rr hL hr hf hlp
  conv=>cbv
  simp only[zo hL,sQ,g1,g2];subst yn qn zcR qa;refine⟨hq,fun h=>?_,fun h=>⟨JG hq h,?_⟩⟩
  ·rw[hr,ze1,h];rfl
  ·rw[hr,ze1,h]
   cases hb:KH (jq a0) (qS a1)with
   |true=>simp only[zb7,hb,cond_true]
   |false=>simp only[zb7,hb,cond_true,cond_false]
 ·cases h
theorem zim:yJ Tryz.prog 8 (ztk ze1 uu):=by
 intro args ps r h hp;unfold ztk at h;split at h
 ·rename_i a0 a1;simp only[za,zb]at h;obtain⟨rfl,rfl⟩:=h;have hq:uu a0 a1:=(zm.1 hp).1;have g1:=YK hq.1.isBB;have g2:=YJ hq.2.isII;have hal:a0.length=(jq a0).length:=by obtain⟨bs,hbs⟩:=hq.1.isBB;rw[hbs,yK,jj]
  generalize yn:qA=ji;generalize qn:uu=jM;generalize zcP:YF=zpz;generalize qa:ZI=ur;refine KR (T:=tab) (B:=[(44,Yq ji jM),(45,zka zpz ur)]) (Bi:=[]) [0,1,2,3,4,6] Tryz.func8 rfl rfl (by kernel_rfl) (ze rfl) mixed zR (by subst yn qn zcP qa;exact(zn zbO (zn zdM zB))) (by subst yn qn zcP qa;exact zy) (by kernel_rfl) ?_;intro L lp rr hL hr hf hlp
  conv=>cbv
  simp only[zo hL,sQ,g1,g2];subst yn qn zcP qa;refine⟨hq,fun h=>?_,fun h=>⟨JG hq h,?_⟩⟩
  ·rw[hr,ze1,h];rfl
  ·rw[hr,ze1,h];obtain⟨c1,c2⟩:= @zpJ (jq a0) (qS a1);rw[<-hal]at c1 c2
   cases hb:KH (jq a0) (qS a1)with
   |true=>
    rcases c1 hb with h1|⟨h1,h2⟩
    ·have e:YF a0 a1=([],[],[],[],false):=(by rw[YF,h1];rfl);rw[e];exact⟨fun _=>rfl,fun h=>absurd h (by simp)⟩
    ·have e:YF a0 a1=(I (yz (jq a0) (qS a1) a0.length).1.P,I (yz (jq a0) (qS a1) a0.length).1.S,I (yz (jq a0) (qS a1) a0.length).1.Q,I (ul (yz (jq a0) (qS a1) a0.length).2),false):=(by rw[YF,h1,h2];rfl);rw[e];exact⟨fun _=>rfl,fun h=>absurd h (by simp)⟩
   |false=>
    obtain⟨h1,h2⟩:=c2 hb;have e:YF a0 a1=(I (yz (jq a0) (qS a1) a0.length).1.P,I (yz (jq a0) (qS a1) a0.length).1.S,I (yz (jq a0) (qS a1) a0.length).1.Q,I (ul (yz (jq a0) (qS a1) a0.length).2),true):=(by rw[YF,h1,h2];rfl);rw[e];refine⟨fun h=>absurd h (by simp),fun _=>?_⟩;simp only[zA];rfl
 ·cases h
end Go.Ax
namespace Go.Ax
open Go.Proofs
theorem mul_zero{xs:List Int}(h:Br xs):(mul xs 0:Int)=xs.getD 0 0:=by
 have h1:=h.low 0 h.pos;by_cases hl:xs.length=1
 ·have h2:=h.dlast;have h3:=h.d0;rw[hl]at h2;have e:Yh xs=[]:=by rw[Yh,hl];rfl
  have:mul xs 0=1:=by rw[mul,e];rfl
  rw[this];simp only[kF]at h2;omega
 ·obtain⟨n,hn⟩:∃n,xs.length-1=n+1:=⟨xs.length-2,by have:=h.pos;omega⟩;have h2:xs.getD 0 0<xs.getD 1 0:=h.up 0 (by omega);have e:Yh xs=ex (kkN xs 0) (ddN xs 0)++JM (blk xs 1 n):=by rw[Yh,hn];rfl
  have hd:ddN xs 0=(xs.getD 0 0).toNat:=by rw[ddN,h.d0]
  have hk:kkN xs 0=(xs.getD 1 0).toNat:=by rw[kkN,JJ,if_pos rfl];simp
  have hpos:0<ddN xs 0:=by omega
  have hq:0<kkN xs 0/ddN xs 0:=YI (by rw[hd,hk];omega) hpos;have:mul xs 0=ddN xs 0:=by rw[mul,e,kL hpos,List.append_assoc,zeW,if_pos hq]
  rw[this,hd];omega
theorem zvu(M N:Nat->Nat):∀n,dS M N n=dS N M n
 |0=>rfl
 |n+1=>by rw[dS,dS,zvu M N n,JO]
theorem zwO{bs ms:List (List Int)}(hc:CvP bs ms){i k:Nat}(hi:i<bs.length)(hk:k<bs.length):qD bs ms i k=qD bs ms k i:=by
 have h1:=hc.tab.range hi hk;have h2:=hc.tab.range hk hi;rw[qD,qD,zjO (jL (hc.br i hi)) (jL (hc.br k hk)) (by omega),zjO (jL (hc.br k hk)) (jL (hc.br i hi)) (by omega),zvu,hc.tab.sym k hk i hi]
structure LstOk (n:Nat) (l:List Int):Prop where
 n1:1<=l.length
 inn:InL n l
 asc:∀i j,i<j->j<l.length->l.getD i 0<l.getD j 0
theorem LstOk.ge{n:Nat}{l:List Int}(h:LstOk n l):∀i,i<l.length->(i:Int)<=l.getD i 0
 |0,hi=>(h.inn 0 hi).1
 |i+1,hi=>by
  have h1:=LstOk.ge h i (by omega);have h2:=h.asc i (i+1) (by omega) hi;omega
theorem LstOk.len{n:Nat}{l:List Int}(h:LstOk n l):l.length<=n:=by
 have h0:=h.n1;have h1:=h.ge (l.length-1) (by omega);have h2:=h.inn (l.length-1) (by omega);omega
theorem zef{bs:List (List Int)}{l:List Int}{i:Nat}(hi:i<l.length):(uZ bs l).getD i []=bs.getD (l.getD i 0).toNat []:=by
 rw[uZ,zd,zN,zg hi];simp only[qb,yZ];rw[gAt hi]
theorem zu3{ms:List (List Int)}{l:List Int}{i:Nat}(hi:i<l.length):(ZQ ms l).getD i []=zeD ms l (l.getD i 0):=by
 rw[ZQ,zd,zN,zg hi];simp only[qb,yZ];rw[gAt hi];rfl
theorem KJ{ms:List (List Int)}{l:List Int}{i k:Nat}(hi:i<l.length)(hk:k<l.length):mm (ZQ ms l) i k=mm ms (l.getD i 0).toNat (l.getD k 0).toNat:=by
 rw[mm,zu3 hi,zeD,zd,zN,zg hk];simp only[qb,yZ];rw[gAt hk]
theorem LstOk.cv{bs ms:List (List Int)}(hc:CvP bs ms){l:List Int}(h:LstOk bs.length l):CvP (uZ bs l) (ZQ ms l):=by
 have hl:=h.len;have h6:=hc.n6;have hin:∀i,i<l.length->(l.getD i 0).toNat<bs.length:=fun i hi=>by have:=h.inn i hi;omega
 have hne:∀i k,i<l.length->k<l.length->i≠k->(l.getD i 0).toNat≠(l.getD k 0).toNat:=fun i k hi hk hik=>by
  have h1:=h.inn i hi;have h2:=h.inn k hk;rcases Nat.lt_or_ge i k with h3|h3
  ·have:=h.asc i k h3 hk;omega
  ·have:=h.asc k i (by omega) hi;omega
 refine⟨by rw[Zu];exact h.n1,by rw[Zu];omega,⟨by rw[ZQ,zQ,Zu],fun i hi=>?_,fun i hi k hk=>?_⟩,fun i hi=>?_,fun i k hi hk hik=>?_,fun i k j hi hk hj hik hji hjk=>?_⟩
 ·rw[Zu]at hi ⊢;refine⟨by rw[zu3 hi,zru],fun k hk=>?_⟩;have hr:=(hc.tab.row _ (hin i hi)).2 _ (hin k hk);rw[KJ hi hk];exact⟨fun e=>hr.1 (by rw[e]),fun e=>hr.2 (hne i k hi hk e)⟩
 ·rw[Zu]at hi hk;rw[KJ hi hk,KJ hk hi];exact hc.tab.sym _ (hin i hi) _ (hin k hk)
 ·rw[Zu]at hi;rw[zef hi];exact hc.br _ (hin i hi)
 ·rw[Zu]at hi hk;rw[zef hi,zef hk,KJ hi hk];exact hc.shr _ _ (hin i hi) (hin k hk) (hne i k hi hk hik)
 ·rw[Zu]at hi hk hj;rw[KJ hi hk,KJ hi hj,KJ hj hk];exact hc.ult _ _ _ (hin i hi) (hin k hk) (hin j hj) (hne i k hi hk hik) (hne j i hj hi hji) (hne j k hj hk hjk)
theorem zz1(bs ms:List (List Int))(l:List Int):QS (uZ bs l) (ZQ ms l) l.length=dlt bs ms l:=by
 refine qk fun i hi=>?_;rw[zef hi];congr 1;refine qk fun k hk=>?_;rw[qD,qD,zef hi,zef (by omega),KJ hi (by omega)]
def sL(f:Nat->Int)(l:List Int):Int:=sg (fun t=>f (l.getD t 0).toNat) l.length
theorem zBg(g:Int->Nat->Int)(l:List Int)(x:Int):sg (fun t=>g ((l++[x]).getD t 0) t) (l++[x]).length=sg (fun t=>g (l.getD t 0) t) l.length+g x l.length:=by
 have e:(l++[x]).length=l.length+1:=by simp
 rw[e,sg,jG (zt _),if_pos rfl];rw[qk (n:=l.length) fun t ht=>by rw[jG (by omega),if_neg (by omega)]]
theorem zjH(f:Nat->Int)(l:List Int)(x:Int):sL f (l++[x])=sL f l+f x.toNat:=zBg (fun y _=>f y.toNat) l x
def crs(bs ms:List (List Int))(a b:List Int):Int:=sL (fun i=>sL (fun k=>qD bs ms i k) b) a
theorem zDz(bs ms:List (List Int))(a b:List Int)(x:Int):crs bs ms (a++[x]) b=crs bs ms a b+sL (fun k=>qD bs ms x.toNat k) b:=zjH _ _ _
theorem zDy(bs ms:List (List Int))(a b:List Int)(x:Int):crs bs ms a (b++[x])=crs bs ms a b+sL (fun i=>qD bs ms i x.toNat) a:=by
 rw[crs,crs,sL,sL,sL,<-ziB];exact qk fun t _=>zjH _ _ _
theorem zsO(bs ms:List (List Int))(l:List Int)(x:Int):dlt bs ms (l++[x])=dlt bs ms l+(jI (jE (bs.getD x.toNat []))+sL (fun k=>qD bs ms x.toNat k) l):=by
 rw[dlt,dlt,sL];have e:(l++[x]).length=l.length+1:=by simp
 rw[e,sg,jG (zt _),if_pos rfl];congr 1
 ·refine qk fun t ht=>?_;rw[jG (by omega),if_neg (by omega)];congr 1;exact qk fun u hu=>by rw[jG (by omega),if_neg (by omega)]
 ·congr 1;exact qk fun u hu=>by rw[jG (by omega),if_neg (by omega)]
theorem zze{f g:Nat->Int}{n:Nat}{l:List Int}(hl:InL n l)(h:∀i,i<n->f i=g i):sL f l=sL g l:=qk fun t ht=>h _ (by have:=hl t ht;omega)
structure SpOk (bs ms:List (List Int)) (r:Nat) (a b:List Int):Prop where
 all:∀f:Nat->Int,sg f r=sL f a+sL f b
 ina:InL r a
 inb:InL r b
 asca:∀i j,i<j->j<a.length->a.getD i 0<a.getD j 0
 ascb:∀i j,i<j->j<b.length->b.getD i 0<b.getD j 0
 len:a.length+b.length=r
 dl:QS bs ms r=dlt bs ms a+dlt bs ms b+crs bs ms a b
theorem SpOk.start(bs ms:List (List Int)):SpOk bs ms 0 [] []:=
 ⟨fun _=>rfl,fun k hk=>absurd hk (by simp),fun k hk=>absurd hk (by simp),fun i j _ hj=>absurd hj (by simp),fun i j _ hj=>absurd hj (by simp),rfl,rfl⟩
theorem ztt{r:Nat}{a:List Int}(ha:InL r a)(h:∀i j,i<j->j<a.length->a.getD i 0<a.getD j 0):∀i j,i<j->j<(a++[(r:Int)]).length->(a++[(r:Int)]).getD i 0<(a++[(r:Int)]).getD j 0:=by
 intro i j hij hj;have e:(a++[(r:Int)]).length=a.length+1:=by simp
 rw[e]at hj;rw[jG (by omega),jG (by omega),if_neg (show ¬i=a.length by omega)];split
 ·exact(ha i (by omega)).2
 ·exact h i j hij (by omega)
theorem zsf{r:Nat}{a:List Int}(ha:InL r a):InL (r+1) (a++[(r:Int)]):=by
 intro k hk;have e:(a++[(r:Int)]).length=a.length+1:=by simp
 rw[e]at hk;rw[jG (by omega)];split
 ·omega
 ·have:=ha k (by omega);omega
theorem zse{r:Nat}{a:List Int}(ha:InL r a):InL (r+1) a:=fun k hk=>by have:=ha k hk;omega
theorem SpOk.left{bs ms:List (List Int)}{r:Nat}{a b:List Int}(h:SpOk bs ms r a b):SpOk bs ms (r+1) (a++[(r:Int)]) b:=by
 refine⟨fun f=>?_,zsf h.ina,zse h.inb,ztt h.ina h.asca,h.ascb,by have:=h.len;simp;omega,?_⟩
 ·rw[sg,h.all f,zjH,zW];omega
 ·have e:QS bs ms (r+1)=QS bs ms r+(jI (jE (bs.getD r []))+sg (fun k=>qD bs ms r k) r):=rfl;rw[e,h.dl,h.all,zsO,zDz,zW];omega
theorem SpOk.right{bs ms:List (List Int)}(hc:CvP bs ms){r:Nat}(hr:r<bs.length){a b:List Int}(h:SpOk bs ms r a b):SpOk bs ms (r+1) a (b++[(r:Int)]):=by
 refine⟨fun f=>?_,zse h.ina,zsf h.inb,h.asca,ztt h.inb h.ascb,by have:=h.len;simp;omega,?_⟩
 ·rw[sg,h.all f,zjH,zW];omega
 ·have e:QS bs ms (r+1)=QS bs ms r+(jI (jE (bs.getD r []))+sg (fun k=>qD bs ms r k) r):=rfl;have e2:sL (fun i=>qD bs ms i r) a=sL (fun k=>qD bs ms r k) a:=zze h.ina fun i hi=>zwO hc (by omega) hr;rw[e,h.dl,h.all,zsO,zDy,zW,e2];omega
theorem zAJ{f:Nat->Int}(hf:∀i,0<=f i){l:List Int}{t:Nat}(ht:t<l.length):f (l.getD t 0).toNat<=sL f l:=by
 have key:∀n,t<n->f (l.getD t 0).toNat<=sg (fun t=>f (l.getD t 0).toNat) n:=by
  intro n
  induction n with
  |zero=>intro h;omega
  |succ n ih=>
   intro h;rw[sg]
   have h0:=hf (l.getD n 0).toNat
   by_cases e:t=n
   ·subst e;have:=zhj (f:=fun t=>f (l.getD t 0).toNat) (n:=t) fun u _=>hf _;omega
   ·have:=ih (by omega);omega
 exact key _ ht
theorem SpOk.disj{bs ms:List (List Int)}{r:Nat}{a b:List Int}(h:SpOk bs ms r a b){u v:Nat}(hu:u<a.length)(hv:v<b.length):a.getD u 0≠b.getD v 0:=by
 intro e;have h1:=h.ina u hu;obtain⟨p,hp⟩:∃p,p=(a.getD u 0).toNat:=⟨_,rfl⟩;have hp2:(b.getD v 0).toNat=p:=by rw[hp,e]
 have h2:=h.all fun k=>if k=p then 1 else 0;have hf:∀k:Nat,(0:Int)<=(if k=p then 1 else 0):=fun k=>by split<;>omega
 have h3:=zAJ (f:=fun k=>if k=p then(1:Int)else 0) hf hu;have h4:=zAJ (f:=fun k=>if k=p then(1:Int)else 0) hf hv
 have e1:sg (fun k=>if k=p then(1:Int)else 0) r=1:=by
  have:=zgD (f:=fun k=>if k=p then(1:Int)else 0) (n:=r) (p:=p) (by omega) fun t _ hne=>if_neg hne;rw[this];exact if_pos rfl
 have e3:(1:Int)<=sL (fun k=>if k=p then(1:Int)else 0) a:=Int.le_trans (Int.le_of_eq (if_pos hp.symm).symm) h3;have e4:(1:Int)<=sL (fun k=>if k=p then(1:Int)else 0) b:=Int.le_trans (Int.le_of_eq (if_pos hp2).symm) h4;omega
theorem zxU{bs ms:List (List Int)}(hc:CvP bs ms):W (W (W (2*dOC bs ms bs.length)-(bs.length:Int))+1)=2*QS bs ms bs.length-bs.length+1/\0<=QS bs ms bs.length/\QS bs ms bs.length<=6000000000/\dOC bs ms bs.length=QS bs ms bs.length:=by
 obtain⟨h1,h2,h3⟩:=zyo hc bs.length (zt _);have h6:=hc.n6;rw[h1];refine⟨?_,h2,by omega,rfl⟩;rw[show W (2*QS bs ms bs.length)=2*QS bs ms bs.length from zl (by omega) (by omega),show W (2*QS bs ms bs.length-(bs.length:Int))=2*QS bs ms bs.length-(bs.length:Int)from zl (by omega) (by omega)];exact zl (by omega) (by omega)
theorem zrV(bs:List (List Int)):∀n,JZ bs n=sg (fun i=>(bs.getD i []).getD 0 0) n
 |0=>rfl
 |n+1=>by rw[JZ,sg,zrV bs n]
theorem Pts.first{bs ms:List (List Int)}{P S Q:List Int}{R:Nat->List Int}(hc:CvP bs ms)(h:Pts bs ms bs.length R (jm bs ms) P S Q):1<=Q.length/\Q.getD 0 0=JZ bs bs.length:=by
 have h1:=hc.n1;have hl:∀i,i<bs.length->1<=jm bs ms i:=fun i hi=>(zbe hc hi).1;have hP:1<=P.length:=by have:=h.hin 0 0 (by omega) (hl 0 (by omega));omega
 refine⟨by have:=h.ql;omega,?_⟩;rw[h.wt 0 hP,zrV];refine qk fun i hi=>?_;have hz:=h.zero i hi (hl i hi);rw[zgD (hl i hi) fun t ht hne=>if_neg fun e=>hne (h.sep i i t 0 hi hi ht (hl i hi) (by rw[e,hz];rfl)).1,if_pos (by rw[hz];rfl)];exact mul_zero (jL (hc.br i hi))
theorem zzI{names:List (List Int)}{i:Nat}(hi:i<names.length):(ul names).getD i 0=(names.getD i []).getD ((names.getD i []).length-1) 0:=by
 rw[ul,zd,zN,zg hi];simp only[qb,yZ];rw[zd (l:=names),zg hi];rfl
end Go.Ax
namespace Go.Ax
open Go.Proofs
theorem take_le{M:Nat->Nat}{i:Nat}:∀(q:Nat) (X:List Nat),(∀t,t<q->X.getD t 0<=M (i+1+t))->(X.take q).sum<=qy M i q
 |0,_,_=>by simp[qy]
 |q+1,X,h=>by
  have h1:=take_le q X (fun t ht=>h t (by omega));have h2:=h q (by omega);rw[List.take_add_one,List.sum_append,qy];rw[zd]at h2
  cases hx:X[q]? with
  |none=>simp only[Option.toList_none,List.sum_nil];omega
  |some x=>
   rw[hx,yZ]at h2;simp only[Option.toList_some,List.sum_cons,List.sum_nil];omega
end Go.Ax
namespace Go.Ax
open Go.Proofs
def ztd(f:List V->List V->List V->Bool×Int)(q:List V->List V->List V->Prop):zK:=fun
 |[.agg [.slc false 2 (.int .i64 0) a0,.slc false 2 (.int .i64 0) a1,.slc false 2 (.int .i64 0) a2]]=>some ([q a0 a1 a2],.tup [.bool ((f a0 a1 a2).1),.int .i64 ((f a0 a1 a2).2)])
 |_=>none
noncomputable def zsE(a b c:List V):Bool×Int:=bif qH a b c then(YR a b c,0)else(false,1)
theorem zis:yJ Tryz.prog 21 (ztd zsE Qc):=by
 intro args ps r h hp;unfold ztd at h;split at h
 ·rename_i a0 a1 a2;simp only[za,zb]at h;obtain⟨rfl,rfl⟩:=h;have hq:Qc a0 a1 a2:=(zm.1 hp).1;have g0:=hq.1.frz;have g1:=hq.2.1.frz;have g2:=hq.2.2.frz;generalize qQ:qH=Zp;generalize jV:Qc=ZZ;generalize zaj:YR=zmf;generalize Zn:Qd=zak;refine zI (T:=tab) (B:=[(56,QW Zp ZZ),(58,QW zmf zak)]) (Bi:=[]) [0,1,2,3] Tryz.func21 rfl rfl (by kernel_rfl) (ze rfl) mixed zR (by subst qQ jV zaj Zn;exact(zn za8 (zn zkp zB))) (by subst qQ jV zaj Zn;exact zy) (by kernel_rfl) ?_;intro L lp rr hL hr hf hlp
  conv=>cbv
  simp only[zo hL,sQ,g0,g1,g2];subst qQ jV zaj Zn;refine⟨hq,fun h=>?_,fun h=>⟨zjK hq h,?_⟩⟩
  ·rw[hr,zsE,h];rfl
  ·rw[hr,zsE,h];rfl
 ·cases h
end Go.Ax
namespace Go.Ax
open Go.Proofs
end Go.Ax
