import Derived.Test.YtdahdoichcnlgaaGreatB01p2
set_option linter.all false
set_option maxRecDepth 100000
set_option maxHeartbeats 1000000
open Int renaming natCast_add->zdn,tdiv_eq_ediv_of_nonneg->KL,toNat_natCast->zV
open List renaming ext_getElem?->yH,flatMap_append->ka,getD_eq_getElem?_getD->zd,getElem?_eq_getElem->zg,getElem?_eq_none->zG,getElem?_map->zT,getElem?_replicate->km,getElem?_set_self->kD,getElem_mem->yN,length_append->zp,length_cons->zi,length_map->yf,length_nil->zq,length_replicate->zE,mem_iff_getElem->yM,mem_range->kr,take_append_drop->ke,take_of_length_le->zy,take_succ_eq_append_getElem->zJ
open Nat renaming le_of_ble_eq_true->ze,le_refl->zt,le_trans->qV
open Option renaming getD_some->jo
open Option.some renaming injEq->za
open Prod.mk renaming injEq->zb
/-
 Proximate points and codes of branches. No conditions but those of the contracts.
-/
namespace Go.Ax
open Go.Proofs
theorem zpS:∀(l:List Int) (d:Int) (i:Nat),i<l.length->(Zv d l).getD i 0=qU (if i=0 then d else(Zv d l).getD (i-1) 0) (l.getD i 0)
 |[],_,i,h=>by simp at h
 |t::l,d,0,_=>rfl
 |t::l,d,1,h=>by
  have:=zpS l (qU d t) 0 (by simpa using h);simpa [Zv]using this
 |t::l,d,i+2,h=>by
  have:=zpS l (qU d t) (i+1) (by simp at h;omega);simpa [Zv]using this
theorem zm0{a b:Int}(ha:0<a)(hb:0<b):qU a b=(Nat.gcd a.toNat b.toNat:Int):=by
 rw[qU,zdU ha,zdU hb,zi0 _ a b (zt _) (by omega) (by omega)]
def ddN(xs:List Int)(i:Nat):Nat:=((dv xs).getD i 0).toNat
def kkN(xs:List Int)(i:Nat):Nat:=(Kb xs i).toNat
theorem zwt{xs:List Int}(h:Br xs){i:Nat}(hi:i+1<xs.length):ddN xs (i+1)=Nat.gcd (ddN xs i) (xs.getD (i+1) 0).toNat:=by
 have h1:=zpS xs 0 (i+1) hi;have h2:=h.dpos i (by omega);have h3:=h.low (i+1) hi;rw[if_neg (by omega),show i+1-1=i by omega]at h1;have h4:(dv xs).getD (i+1) 0=qU ((dv xs).getD i 0) (xs.getD (i+1) 0):=h1;rw[zm0 (by omega) (by omega)]at h4;rw[ddN,h4,zV,ddN]
theorem zCo{xs:List Int}(h:Br xs):∀{i:Nat},i<xs.length->ddN xs i ∣ (xs.getD i 0).toNat
 |0,_=>by rw[ddN,h.d0];exact Nat.dvd_refl _
 |i+1,hi=>by rw[zwt h hi];exact Nat.gcd_dvd_right _ _
theorem zDo{xs:List Int}(h:Br xs){i:Nat}(hi:i+1<xs.length):Nat.gcd (ddN xs i) (kkN xs i)=ddN xs (i+1):=by
 rw[zwt h hi,kkN,Kb];by_cases h0:i=0
 ·rw[if_pos h0];congr 1;omega
 ·rw[if_neg h0];obtain⟨c,hc⟩:=zCo h (i:=i) (by omega);have h1:=h.up i hi;have h2:=h.low i (by omega);rw[show(xs.getD (i+1) 0).toNat=(xs.getD (i+1) 0-xs.getD i 0).toNat+ddN xs i*c by omega,Nat.mul_comm (ddN xs i) c,Nat.gcd_add_mul_right_right]
def blk(xs:List Int)(i:Nat):Nat->List (Nat×Nat)
 |0=>[]
 |n+1=>(kkN xs i,ddN xs i)::blk xs (i+1) n
theorem zru{xs:List Int}(h:Br xs):∀(n i:Nat),i+n+1=xs.length->zyh (ddN xs i) (blk xs i n)
 |0,i,hi=>by
  have:=h.dlast;rw[show xs.length-1=i by omega]at this;show ddN xs i=1;rw[ddN,this];rfl
 |n+1,i,hi=>by
  have:=h.dpos i (by omega);refine⟨rfl,by rw[ddN];omega,?_⟩;rw[zDo h (by omega)];exact zru h n (i+1) (by omega)
def JZ(l:List Nat):List Int:=l.map fun(n:Nat)=>(n:Int)
theorem zwy(xs:List Int):∀(n i:Nat),JZ (zdb (blk xs i n))=(List.range' i n).flatMap (zhq xs)
 |0,i=>rfl
 |n+1,i=>by
  have:=zwy xs n (i+1);rw[List.range'_succ,List.flatMap_cons,<-this,blk,zdb,JZ,List.map_append];rfl
def zbk(xs:List Int):List Nat:=zdb (blk xs 0 (xs.length-1))
def mul(xs:List Int)(i:Nat):Nat:=(zbk xs).getD i 1
theorem zsy(xs:List Int):jn xs=JZ (zbk xs):=by
 rw[zbk,zwy,jn,zcL,List.range_eq_range']
theorem zb0(xs:List Int)(i:Nat):(jn xs).getD i 1=mul xs i:=by
 rw[zsy,JZ,mul,zd,zd,zT];cases (zbk xs)[i]? <;>rfl
theorem uz{xs:List Int}(h:Br xs):GoodM (mul xs)/\mul xs 0<=64:=by
 have h1:=h.pos;have hc:=zru h (xs.length-1) 0 (by omega);obtain⟨g1,g2,_⟩:=zmm _ _ hc;refine⟨zAu g1,qV g2 ?_⟩;have:=h.dhi 0 h1;rw[ddN];omega
theorem Jd{xs:List Int}(h:Br xs):∀i,mul xs i<=64
 |0=>(uz h).2
 |i+1=>qV ((uz h).1.fall i) (Jd h i)
theorem zba(xs:List Int)(k:Nat):jN xs k=qD (fun i=>(mul xs i:Int)) k:=qA fun i _=>zb0 xs i
def prx(M:Nat->Nat)(i j:Nat):Bool:=decide (qE M i (j-i)<=M i)
def prs(M:Nat->Nat)(i j:Nat):List Nat:=(List.range (min i j)).filter fun a=>prx M a j
theorem zz7{M:Nat->Nat}{i j:Nat}(h:j<=i):prs M (i+1) j=prs M i j:=by
 rw[prs,prs,show min (i+1) j=min i j by omega]
theorem zdB{M:Nat->Nat}{i j:Nat}(h:i<j):prs M (i+1) j=prs M i j++(if qE M i (j-i)<=M i then[i]else[]):=by
 rw[prs,prs,show min (i+1) j=i+1 by omega,show min i j=i by omega,List.range_succ,List.filter_append];congr 1;by_cases hp:qE M i (j-i)<=M i<;>simp[prx,hp]
theorem zmL{M:Nat->Nat}(h:GoodM M){i j j':Nat}(hij:i<j)(hj:j<=j')(hn:¬qE M i (j-i)<=M i):¬qE M i (j'-i)<=M i:=by
 by_cases e:j=j'
 ·subst e;exact hn
 ·have:=QY h i (k:=j-i) (k':=j'-i) (by omega);omega
def cd(M:Nat->Nat)(i j:Nat):Int:=match prs M (min i (j-1)) j with
 |[]=>0
 |a::_=>(j:Int)-a
theorem zCx{M:Nat->Nat}(h:GoodM M){i j:Nat}(hij:i+1<j)(hp:qE M i (j-i)<=M i):cd M (i+1) j=(j:Int)-i:=by
 have h1:prs M i j=[]:=by
  cases hh:prs M i j with
  |nil=>rfl
  |cons a l=>
   have ha:a∈prs M i j:=(by rw[hh];simp);simp only[prs,List.mem_filter,kr,prx,decide_eq_true_eq]at ha;exact absurd hp (zaq h (i:=a) (i':=i) (j:=j) (by omega) hij ha.2)
 rw[cd,show min (i+1) (j-1)=i+1 by omega,zdB (by omega),h1,if_pos hp];rfl
theorem zpV{M:Nat->Nat}{i j:Nat}(hp:¬(i+1<j/\qE M i (j-i)<=M i)):cd M (i+1) j=cd M i j:=by
 rw[cd,cd];by_cases hij:i+1<j
 ·rw[show min (i+1) (j-1)=i+1 by omega,show min i (j-1)=i by omega,zdB (by omega),if_neg (fun h=>hp ⟨hij,h⟩),List.append_nil]
 ·rw[show min (i+1) (j-1)=j-1 by omega,show min i (j-1)=j-1 by omega]
theorem zww{M:Nat->Nat}(h:GoodM M){i j:Nat}(hj:1<=j)(hi:j<=i):cd M i j=if 1<(prs M j j).length then(j:Int)-((prs M j j).getD 0 0:Nat)else 0:=by
 obtain⟨j,rfl⟩:∃k,j=k+1:=⟨j-1,by omega⟩;have h1:=zdB (M:=M) (i:=j) (j:=j+1) (by omega);have h2:qE M j (j+1-j)<=M j:=zsT h j;rw[if_pos h2]at h1;rw[cd,show min i (j+1-1)=j by omega,h1]
 cases prs M j (j+1)with
 |nil=>simp
 |cons a l=>simp
theorem znN{M M':Nat->Nat}{i:Nat}:∀{k:Nat},(∀t,t<=i+k->M t=M' t)->qE M i k=qE M' i k
 |0,_=>rfl
 |k+1,h=>by rw[qE,qE,znN (fun t ht=>h t (by omega)),h _ (by omega)]
theorem zyE{M M':Nat->Nat}{i j:Nat}(h:∀t,t<=j->M t=M' t):prs M i j=prs M' i j:=by
 rw[prs,prs];apply List.filter_congr;intro a ha;have ha:=kr.1 ha;rw[prx,prx,znN (fun t ht=>h t (by omega)),h a (by omega)]
def ofL(l:List Int)(i:Nat):Nat:=(l.getD i 1).toNat
theorem zyK(xs:List Int)(k i:Nat)(h:i<k):ofL (jN xs k) i=mul xs i:=by
 rw[ofL,zba,js _ _ _ _ h,zV]
def zfa(l:List Int):List (List Int):=qD (fun j=>JZ (prs (ofL l) j j)) l.length
theorem KQ(xs:List Int)(k:Nat):zfa (jN xs k)=qD (fun j=>JZ (prs (mul xs) j j)) k:=by
 rw[zfa,Zc];exact qA fun j hj=>by rw[zyE fun t ht=>zyK xs k t (by omega)]
def zly(f:List V->List V)(q:List V->Prop):zN:=fun
 |[.slc false 2 (.int .i64 0) a0]=>some ([q a0],.slc true 29 (.slc true 2 (.int .i64 0) []) (f a0))
 |_=>none
def zko(es:List V):List V:=II true (zfa (qj es))
def zsN(es:List V):Prop:=∃xs k,Br xs/\es=I (jN xs k)/\k<=1000000
theorem zBU(M:Nat->Nat)(i j:Nat):(prs M i j).length<=j:=by
 have:=List.length_filter_le (fun a=>prx M a j) (List.range (min i j));rw[List.length_range]at this;rw[prs];omega
theorem zzM{α:Type}(f:Nat->α){n i:Nat}(x:α)(h:i<n):(qD f n).set i x=qD (fun t=>if t=i then x else f t) n:=by
 apply yH;intro t;by_cases ht:t<n
 ·rw[uM _ _ _ ht];by_cases hti:t=i
  ·subst hti;rw[kD (by rw[yR];exact ht),if_pos rfl]
  ·rw[List.getElem?_set_ne (by omega),uM _ _ _ ht,if_neg hti]
 ·rw[zG (by rw[List.length_set,yR];omega),zG (by rw[yR];omega)]
theorem zlS:yI Tryz.prog 80 (zly zko zsN):=by
 intro args ps r h hp;unfold zly at h;split at h
 ·rename_i a0;cases h;obtain⟨xs,k,hb,hm,hk⟩:zsN a0:=(zm.1 hp).1;have al:a0.length=k:=by rw[hm,zj,Zc]
  have e1:zko a0=II true (qD (fun j=>JZ (prs (mul xs) j j)) k):=by rw[zko,hm,zr,KQ]
  have ga:∀i,i<k->a0.getD i (.int .i64 0)=.int .i64 (mul xs i):=fun i hi=>by rw[hm,zO,zba,js _ _ _ _ hi]
  obtain⟨hg,_⟩:=uz hb;have h64:=Jd hb;refine zC (T:=tab) (B:=[]) (Bi:=[]) [0,2,3,4,5,6,11,12] Tryz.func80 rfl rfl (by kernel_rfl) (ze rfl) mixed zP (by exact zA) (by exact zx) (by kernel_rfl) ?_;intro L lp rr hL hr hf hlp
  conv=>cbv
  simp only[zo hL,sQ,al];refine⟨by omega,by omega,by omega,?_⟩;obtain⟨K,hK⟩:∃K:Int,K=k:=⟨_,rfl⟩;rw[<-hK]
  refine hlp (List V×Int) _ _ _ [0,3,11,12] (fun x=>[(0,none,.val (.slc false 2 (.int .i64 0) a0)),(3,none,.val (.slc true 29 (.slc true 2 (.int .i64 0) []) x.1)),(11,none,.val (.int .i64 K)),(12,none,.val (.int .i64 x.2))])
   (fun x=>0<=x.2/\x.2<=k/\x.1=II true (qD (fun j=>JZ (prs (mul xs) x.2.toNat j)) k)) (fun x=>(k-x.2).toNat) ((_,0)) (by subst hL;rfl) ?_ ?_
  ·refine⟨by simp,by simp only;omega,?_⟩;simp only;rw[show K.toNat=k by omega,show(V.slc true 2 (.int .i64 0) [])=.slc true 2 (.int .i64 0) (I [])from rfl,<-zuv];congr 1;apply yH;intro t;by_cases ht:t<k
   ·rw[uM _ _ _ ht,km,if_pos ht];simp[prs,JZ]
   ·rw[zG (by rw[zE];omega),zG (by rw[yR];omega)]
  rintro⟨es,i⟩ ⟨i0,i1,hI⟩ hfx ag hag;simp only at i0 i1 hI
  conv=>cbv
  simp only[zo hL,sQ,];obtain⟨n,hn⟩:∃n:Nat,n=i.toNat:=⟨i.toNat,rfl⟩;rw[<-hn]at hI;refine⟨fun h=>?_,fun h=>?_⟩
  ·rw[zk (n:=i+1) (by omega) (by omega)]
   refine hlp (List V×Int×Int) _ _ _ [0,3,4,5,6,11,12] (fun x=>[(0,none,.val (.slc false 2 (.int .i64 0) a0)),(3,none,.val (.slc true 29 (.slc true 2 (.int .i64 0) []) x.1)),(4,none,.val (.int .i64 i)),(5,none,.val (.int .i64 x.2.1)),(6,none,.val (.int .i64 x.2.2)),(11,none,.val (.int .i64 K)),(12,none,.val (.int .i64 i))])
    (fun x=>i+1<=x.2.2/\x.2.2<=k/\x.2.1=(qE (mul xs) n (x.2.2.toNat-(n+1)):Nat)/\x.2.1<=mul xs n/\x.1=II true (qD (fun t=>JZ (prs (mul xs) (if t<x.2.2.toNat then n+1 else n) t)) k)) (fun x=>(k-x.2.2).toNat) ((es,0,i+1)) (by subst hL;rfl) ?_ ?_
   ·refine⟨by simp,by simp only;omega,?_,?_,?_⟩
    ·simp only;rw[show(i+1).toNat-(n+1)=0 by omega];rfl
    ·simp only;omega
    ·simp only;rw[hI];congr 1;refine qA fun t _=>?_;split
     ·rw[zz7 (by omega)]
     ·rfl
   rintro⟨es2,sm,j⟩ ⟨j0,j1,hS,hM,hI2⟩ hfx2 ag2 hag2;simp only at j0 j1 hS hM hI2;have hMn:=h64 n
   have hMj:=h64 j.toNat
   have hl2:es2.length=k:=(by rw[hI2,ye,yR]);have gn:=ga i.toNat (by omega);rw[<-hn]at gn
   have ge:es2.getD j.toNat (.slc true 2 (.int .i64 0) [])=.slc true 2 (.int .i64 0) (I (JZ (prs (mul xs) n j.toNat)))\/¬j.toNat<k:=by
    by_cases hj:j.toNat<k
    ·left;rw[hI2,qo,js _ _ _ _ hj,if_neg (by omega)]
    ·exact .inr hj
   conv=>cbv
   simp only[zo hL,sQ,al,hl2,<-hn,gn];refine⟨fun hj=>?_,fun hj=>?_⟩
   ·have gj:=ga j.toNat (by omega);have ge:=ge.resolve_right (by omega)
    have hs1:qE (mul xs) n (j.toNat-n)=qE (mul xs) n (j.toNat-(n+1))+mul xs j.toNat:=by
     rw[show j.toNat-n=(j.toNat-(n+1))+1 by omega,qE,show n+1+(j.toNat-(n+1))=j.toNat by omega]
    simp only[zo hL,sQ,gj,ge,List.length_set,hl2];rw[zk (n:=sm+mul xs j.toNat) (by omega) (by omega),zk (n:=j+1) (by omega) (by omega),zk (n:=i+1) (by omega) (by omega)];refine⟨by omega,by omega,by omega,by omega,fun hlt=>?_,fun hge=>?_⟩
    ·refine hag (_,i+1) ⟨by simp only;omega,by simp only;omega,?_⟩ (by simp only;omega);simp only;rw[show(i+1).toNat=n+1 by omega,hI2];congr 1;refine qA fun t _=>?_;split
     ·rfl
     ·rename_i htj;rw[zdB (by omega),if_neg (zmL hg (j:=j.toNat) (by omega) (by omega) (by omega)),List.append_nil]
    ·have hpl:=zBU (mul xs) n j.toNat
     refine⟨by omega,by omega,by omega,by omega,yV _,by rw[JZ,yf];simp only[zi,zq];omega,yr _,by omega,by omega,by omega,?_,?_⟩
     ·rw[zd,kD (by omega)];exact .inr ⟨.slc true 2 (.int .i64 0) [],rfl,rfl,rfl⟩
     ·refine hag2 (_,_,j+1) ⟨by simp only;omega,by simp only;omega,?_,by simp only;omega,?_⟩ (by simp only;omega)
      ·simp only;rw[show(j+1).toNat-(n+1)=j.toNat-n by omega,hs1,hS,zdn]
      ·simp only
       have e:I (JZ (prs (mul xs) n j.toNat))++[V.int .i64 i]=I (JZ (prs (mul xs) (n+1) j.toNat)):=by
        rw[zdB (by omega),if_pos (by omega),JZ,JZ,List.map_append,show i=(n:Int) by omega,<-jb];rfl
       rw[e,List.set_set,hI2,zkN,zzM _ _ (by omega)];congr 1;refine qA fun t _=>?_
       by_cases htj:t=j.toNat
       ·rw[if_pos htj,if_pos (by omega),htj]
       ·rw[if_neg htj]
        by_cases htl:t<j.toNat
        ·rw[if_pos htl,if_pos (by omega)]
        ·rw[if_neg htl,if_neg (by omega)]
   ·rw[zk (n:=i+1) (by omega) (by omega)];refine hag (_,i+1) ⟨by simp only;omega,by simp only;omega,?_⟩ (by simp only;omega);simp only;rw[show(i+1).toNat=n+1 by omega,hI2];congr 1;refine qA fun t ht=>?_;rw[if_pos (by omega)]
  ·rw[hr,e1,hI,show n=k by omega];congr 2;refine qA fun t ht=>?_;rw[prs,prs,show min k t=min t t by omega]
 ·cases h
def zig(xss:List (List Int))(j:Nat):Int:=if 1<(xss.getD (j+1) []).length then(j:Int)+1-(xss.getD (j+1) []).getD 0 0 else 0
def zoL(xss:List (List Int)):List Int:=qD (zig xss) (xss.length-1)
def zx3(f:List V->List V)(q:List V->Prop):zN:=fun
 |[.slc false 29 (.slc false 2 (.int .i64 0) []) a0]=>some ([q a0],.slc true 2 (.int .i64 0) (f a0))
 |_=>none
def zkr(es:List V):List V:=I (zoL (uL es))
def zn6(es:List V):Prop:=∃xss,es=II false xss/\1<=xss.length/\xss.length<=1000000/\∀j,j<xss.length->0<=(xss.getD j []).getD 0 0/\(xss.getD j []).getD 0 0<=1000000
theorem zrH:yI Tryz.prog 50 (zx3 zkr zn6):=by
 intro args ps r h hp;unfold zx3 at h;split at h
 ·rename_i a0;cases h;obtain⟨xss,hx,n1,n2,hb⟩:zn6 a0:=(zm.1 hp).1;have al:a0.length=xss.length:=by rw[hx,ye]
  have e1:zkr a0=I (zoL xss):=by rw[zkr,hx,yd]
  have ga:∀i,a0.getD i (.slc false 2 (.int .i64 0) [])=.slc false 2 (.int .i64 0) (I (xss.getD i [])):=fun i=>by rw[hx,qo]
  refine zC (T:=tab) (B:=[]) (Bi:=[]) [0,2,3,4,5] Tryz.func50 rfl rfl (by kernel_rfl) (ze rfl) mixed zP (by exact zA) (by exact zx) (by kernel_rfl) ?_;intro L lp rr hL hr hf hlp
  conv=>cbv
  refine hlp (List V×Int) _ _ _ [0,3,4] (fun x=>[(0,none,.val (.slc false 29 (.slc false 2 (.int .i64 0) []) a0)),(3,none,.val (.slc true 2 (.int .i64 0) x.1)),(4,none,.val (.int .i64 x.2))])
   (fun x=>1<=x.2/\x.2<=xss.length/\x.1=I (qD (zig xss) (x.2-1).toNat)) (fun x=>(xss.length-x.2).toNat) (([],1)) (by subst hL;rfl) ?_ ?_
  ·exact⟨by simp,by simp only;omega,rfl⟩
  rintro⟨es,i⟩ ⟨i0,i1,hI⟩ hfx ag hag;simp only at i0 i1 hI;have hel:es.length=(i-1).toNat:=by rw[hI,zj,yR]
  conv=>cbv
  obtain⟨E,hE⟩:∃E,E=xss.getD i.toNat []:=⟨_,rfl⟩;simp only[zo hL,sQ,al,ga,<-hE,zv1]
  have hco:zig xss (i-1).toNat=if 1<E.length then i-E.getD 0 0 else 0:=by
   rw[zig,show(i-1).toNat+1=i.toNat by omega,<-hE,show((i-1).toNat:Int)+1=i by omega]
  have fin:∀z,i<xss.length->z=zig xss (i-1).toNat->ag (Yc [0,3,4] [(0,none,.val (.slc false 29 (.slc false 2 (.int .i64 0) []) a0)),(3,none,.val (.slc true 2 (.int .i64 0) (es++[V.int .i64 z]))),(4,none,.val (.int .i64 (i+1)))]):=by
   intro z h hz;refine hag (_,i+1) ⟨by simp only;omega,by simp only;omega,?_⟩ (by simp only;omega);simp only;rw[show(i+1-1).toNat=(i-1).toNat+1 by omega,zbY,hI,<-jb,hz];rfl
  refine⟨fun h=>?_,fun h=>?_⟩
  ·have hbb:=hb i.toNat (by omega);rw[<-hE]at hbb;rw[zk (n:=i+1) (by omega) (by omega)];have hes:=hel;refine⟨by omega,h,fun h2=>?_,fun h2=>?_⟩
   ·rw[zk (n:=i-E.getD 0 0) (by omega) (by omega)];refine⟨by omega,h,by omega,by omega,yV _,by simp only[zi,zq];omega,yr _,?_⟩;exact fin _ h (by rw[hco,if_pos (by omega)])
   ·refine⟨yV _,by simp only[zi,zq];omega,yr _,?_⟩;exact fin _ h (by rw[hco,if_neg (by omega)])
  ·rw[hr,e1,hI,zoL,show(i-1).toNat=xss.length-1 by omega]
 ·cases h
def kI(xs:List Int)(k:Nat):List Int:=qD (fun j=>cd (mul xs) (j+1) (j+1)) (k-1)
theorem zq8(l:List Nat)(i:Nat):(JZ l).getD i 0=(l.getD i 0:Nat):=by
 rw[JZ,zd,zd,zT];cases l[i]? <;>rfl
theorem zx0{xs:List Int}(h:Br xs)(k:Nat):zoL (zfa (jN xs k))=kI xs k:=by
 rw[KQ,zoL,kI,yR];refine qA fun j hj=>?_;rw[zig,js _ _ _ _ (by omega),zww (uz h).1 (by omega) (by omega),zq8,JZ,yf,zdn];rfl
theorem zC7{M:Nat->Nat}{i j:Nat}:∀a∈prs M i j,a<j:=by
 intro a ha;simp only[prs,List.mem_filter,kr]at ha;omega
theorem zvf(xs:List Int){k:Nat}(h1:1<=k)(h2:k<=1000000):zn6 (II false (zfa (jN xs k))):=by
 refine⟨_,rfl,?_,?_,?_⟩
 ·rw[KQ,yR];exact h1
 ·rw[KQ,yR];exact h2
 ·intro j hj;rw[KQ,yR]at hj;rw[KQ,js _ _ _ _ hj,zq8]
  cases hh:prs (mul xs) j j with
  |nil=>simp
  |cons a l=>
   have:=zC7 a (by rw[hh];simp:a∈prs (mul xs) j j);simp;omega
def cdP(xs:List Int)(i:Nat)(k:Nat):List Int:=qD (fun t=>cd (mul xs) i (t+1)) (k-1)
def zct(es:List V)(k:Int):List V:=I (kI (qj es) k.toNat)
theorem zpk:yI Tryz.prog 85 (zbF zct ZT):=by
 intro args ps r h hp;unfold zbF at h;split at h
 ·rename_i a0 a1;cases h;obtain⟨hq,k1,k2⟩:ZT a0 a1:=(zm.1 hp).1;have hqb:=hq;obtain⟨xs,hxs,hb⟩:=hq;have g1:V.frzs a0=a0:=by rw[hxs,zD]
  obtain⟨k,hk⟩:∃k:Nat,k=a1.toNat:=⟨_,rfl⟩;obtain⟨ms,hms⟩:∃ms,ms=I (jN xs k):=⟨_,rfl⟩;have e1:kH a0 a1=ms:=by rw[kH,hxs,zr,hms,hk]
  have e2:zct a0 a1=I (kI xs k):=by rw[zct,hxs,zr,hk]
  have ml:ms.length=k:=by rw[hms,zj,Zc]
  have gm:∀i,i<k->ms.getD i (.int .i64 0)=.int .i64 (mul xs i):=fun i hi=>by rw[hms,zO,zba,js _ _ _ _ hi]
  obtain⟨hg,_⟩:=uz hb;have h64:=Jd hb;generalize kB:kH=ZL;generalize qQ:ZT=uT;refine zC (T:=tab) (B:=[(84,zbF ZL uT)]) (Bi:=[]) [0,1,2,4,5,6,7,8,9] Tryz.func85 rfl rfl (by kernel_rfl) (ze rfl) mixed zP (by subst kB qQ;exact(zn zew zA)) (by subst kB qQ;exact zx) (by kernel_rfl) ?_;intro L lp rr hL hr hf hlp
  conv=>cbv
  have hF:ZL a0 a1=ms:=by rw[<-kB,e1]
  simp only[zo hL,sQ,hF,g1];have w0:IntKind.wrap .i64 (a1-1)=a1-1:=zk (by omega) (by omega);rw[w0];refine⟨by omega,by omega,by omega,by rw[<-qQ];exact⟨hqb,k1,k2⟩,?_⟩
  refine hlp (List V×Int) _ _ _ [1,5,6,7] (fun x=>[(1,none,.val (.int .i64 a1)),(5,none,.val (.slc true 2 (.int .i64 0) x.1)),(6,none,.val (.slc true 2 (.int .i64 0) ms)),(7,none,.val (.int .i64 x.2))])
   (fun x=>0<=x.2/\x.2<=k/\x.1=I (cdP xs x.2.toNat k)) (fun x=>(k-x.2).toNat) ((_,0)) (by subst hL;rfl) ?_ ?_
  ·refine⟨by simp,by simp only;omega,?_⟩;simp only;rw[show(a1-1).toNat=k-1 by omega];apply yH;intro t;by_cases ht:t<k-1
   ·rw[km,if_pos ht,I,zT,cdP,uM _ _ _ ht];simp[cd,prs]
   ·rw[zG (by rw[zE];omega),zG (by rw[zj,cdP,yR];omega)]
  rintro⟨es,i⟩ ⟨i0,i1,hI⟩ hfx ag hag;simp only at i0 i1 hI
  conv=>cbv
  simp only[zo hL,sQ,];obtain⟨n,hn⟩:∃n:Nat,n=i.toNat:=⟨i.toNat,rfl⟩;rw[<-hn]at hI;refine⟨fun h=>?_,fun h=>?_⟩
  ·rw[zk (n:=i+1) (by omega) (by omega)]
   refine hlp (List V×Int×Int) _ _ _ [1,5,6,7,8,9] (fun x=>[(1,none,.val (.int .i64 a1)),(5,none,.val (.slc true 2 (.int .i64 0) x.1)),(6,none,.val (.slc true 2 (.int .i64 0) ms)),(7,none,.val (.int .i64 i)),(8,none,.val (.int .i64 x.2.1)),(9,none,.val (.int .i64 x.2.2))])
    (fun x=>i+1<=x.2.2/\x.2.2<=k/\x.2.1=(qE (mul xs) n (x.2.2.toNat-(n+1)):Nat)/\x.2.1<=mul xs n/\x.1=I (qD (fun t=>cd (mul xs) (if t+1<x.2.2.toNat then n+1 else n) (t+1)) (k-1))) (fun x=>(k-x.2.2).toNat) ((es,0,i+1)) (by subst hL;rfl) ?_ ?_
   ·refine⟨by simp,by simp only;omega,?_,?_,?_⟩
    ·simp only;rw[show(i+1).toNat-(n+1)=0 by omega];rfl
    ·simp only;omega
    ·simp only;rw[hI,cdP];congr 1;refine qA fun t _=>?_;split
     ·rw[zpV (by omega)]
     ·rfl
   rintro⟨es2,sm,j⟩ ⟨j0,j1,hS,hM,hI2⟩ hfx2 ag2 hag2;simp only at j0 j1 hS hM hI2;have hMn:=h64 n
   have hMj:=h64 j.toNat
   have hl2:es2.length=k-1:=(by rw[hI2,zj,yR]);have gn:=gm i.toNat (by omega);rw[<-hn]at gn;have ge:∀t,es2.getD t (.int .i64 0)=.int .i64 ((qj es2).getD t 0):=fun t=>by rw[hI2,zO,zr]
   conv=>cbv
   simp only[zo hL,sQ,ml,hl2,<-hn,gn];refine⟨fun hj=>?_,fun hj=>?_⟩
   ·have gj:=gm j.toNat (by omega)
    have hs1:qE (mul xs) n (j.toNat-n)=qE (mul xs) n (j.toNat-(n+1))+mul xs j.toNat:=by
     rw[show j.toNat-n=(j.toNat-(n+1))+1 by omega,qE,show n+1+(j.toNat-(n+1))=j.toNat by omega]
    simp only[zo hL,sQ,gj,ge];rw[zk (n:=sm+mul xs j.toNat) (by omega) (by omega),zk (n:=j+1) (by omega) (by omega),zk (n:=i+1) (by omega) (by omega),zk (n:=j-1) (by omega) (by omega),zk (n:=j-i) (by omega) (by omega)]
    have nxt:sm+mul xs j.toNat=(qE (mul xs) n ((j+1).toNat-(n+1)):Nat):=by
     rw[show(j+1).toNat-(n+1)=j.toNat-n by omega,hs1,hS,zdn]
    refine⟨by omega,by omega,by omega,by omega,by omega,by omega,fun hlt=>?_,fun hge=>⟨fun h3=>?_,fun h3=>?_⟩⟩
    ·refine hag (_,i+1) ⟨by simp only;omega,by simp only;omega,?_⟩ (by simp only;omega);simp only;rw[show(i+1).toNat=n+1 by omega,hI2,cdP];congr 1;refine qA fun t _=>?_;split
     ·rfl
     ·rename_i htj;rw[zpV];rintro⟨h5,h6⟩;exact zmL hg (j:=j.toNat) (j':=t+1) (by omega) (by omega) (by omega) h6
    ·refine⟨by omega,by omega,by omega,?_⟩;refine hag2 (_,_,j+1) ⟨by simp only;omega,by simp only;omega,nxt,by simp only;omega,?_⟩ (by simp only;omega);simp only;have hc:=zCx hg (i:=n) (j:=j.toNat) (by omega) (by omega);rw[hI2,zam,zk6];congr 1;refine qA fun t _=>?_
     by_cases htj:t=(j-1).toNat
     ·rw[if_pos htj,if_pos (by omega),show t+1=j.toNat by omega,hc];omega
     ·rw[if_neg htj]
      by_cases htl:t+1<j.toNat
      ·rw[if_pos htl,if_pos (by omega)]
      ·rw[if_neg htl,if_neg (by omega)]
    ·refine hag2 (_,_,j+1) ⟨by simp only;omega,by simp only;omega,nxt,by simp only;omega,?_⟩ (by simp only;omega);simp only;rw[hI2];congr 1;refine qA fun t _=>?_
     by_cases htl:t+1<j.toNat
     ·rw[if_pos htl,if_pos (by omega)]
     ·rw[if_neg htl]
      by_cases htl2:t+1<(j+1).toNat
      ·rw[if_pos htl2,zpV (by omega)]
      ·rw[if_neg htl2]
   ·rw[zk (n:=i+1) (by omega) (by omega)];refine hag (_,i+1) ⟨by simp only;omega,by simp only;omega,?_⟩ (by simp only;omega);simp only;rw[show(i+1).toNat=n+1 by omega,hI2,cdP];congr 1;refine qA fun t ht=>?_;rw[if_pos (by omega)]
  ·rw[hr,e2,hI,show n=k by omega,kI,cdP];congr 2;refine qA fun t ht=>?_;rw[cd,cd,show min k (t+1-1)=min (t+1) (t+1-1) by omega]
 ·cases h
def QH(m:Int):Int:=(m*(m-1)).tdiv 2
def kf:List Int->Int
 |[]=>0
 |m::l=>QH m+kf l
theorem zel:∀a b:List Int,kf (a++b)=kf a+kf b
 |[],b=>by simp[kf]
 |x::a,b=>by simp only[List.cons_append,kf,zel a b];omega
theorem zna(m:Int):∀n:Nat,kf (List.replicate n m)=n*QH m
 |0=>by simp[kf]
 |n+1=>by
  simp only[List.replicate_succ,kf,zna m n,zdn,Int.add_mul];omega
theorem zsi{m:Int}(h1:1<=m)(h2:m<=64):0<=m*(m-1)/\m*(m-1)<=4032/\0<=QH m/\QH m<=2016:=by
 have k1:0<=m*(m-1):=Int.mul_nonneg (by omega) (by omega);have k2:m*(m-1)<=64*63:=Int.mul_le_mul h2 (by omega) (by omega) (by omega);refine⟨k1,by omega,?_,?_⟩
 ·rw[QH,KL k1];omega
 ·rw[QH,KL k1];omega
def Low(l:List Int):Prop:=∀m∈l,1<=m/\m<=64
theorem zid:∀l:List Int,Low l->0<=kf l/\kf l<=2016*l.length
 |[],_=>by simp[kf]
 |m::l,h=>by
  have h1:=zsi (h m (by simp)).1 (h m (by simp)).2;have h2:=zid l (fun x hx=>h x (by simp[hx]));simp only[kf,zi];omega
theorem Low.take{l:List Int}(h:Low l)(n:Nat):Low (l.take n):=fun m hm=>h m (List.mem_of_mem_take hm)
theorem zrn(l:List Int)(i:Nat)(h:i<l.length):kf (l.take (i+1))=kf (l.take i)+QH (l.getD i 0):=by
 rw[zJ h,zel,zd,zg h];simp[kf]
theorem Low.at{l:List Int}(h:Low l){i:Nat}(hi:i<l.length):1<=l.getD i 0/\l.getD i 0<=64:=by
 rw[zd,zg hi];exact h _ (yN hi)
theorem zBK{xs:List Int}(h:Br xs):Low (qY xs):=by
 intro m hm;obtain⟨i,hi,rfl⟩:=yM.1 hm;have h1:=zk8 xs i;rw[zb0,zd,zg hi,jo]at h1;rw[h1];have h2:=Jd h i;have h3:=(uz h).1.pos i;omega
def zpY(f:List V->Int)(q:List V->Prop):zN:=fun
 |[.slc false 2 (.int .i64 0) a0]=>some ([q a0],.int .i64 (f a0))
 |_=>none
def zkq(a:List V):Int:=kf (qj a)
def zxu(a:List V):Prop:=∃l,a=I l/\l.length<=200000/\Low l
theorem zpt:yI Tryz.prog 57 (zpY zkq zxu):=by
 intro args ps r h hp;unfold zpY at h;split at h
 ·rename_i a0;cases h;obtain⟨xs,hxs,hl,hlow⟩:zxu a0:=(zm.1 hp).1;have hxl:a0.length=xs.length:=by rw[hxs,zj]
  have hf0:zkq a0=kf xs:=by rw[zkq,hxs,zr]
  have gx:∀i,a0.getD i (.int .i64 0)=.int .i64 (xs.getD i 0):=fun i=>by rw[hxs,zO]
  obtain⟨n,hn⟩:∃n:Int,n=xs.length:=⟨_,rfl⟩;refine zC (T:=tab) (B:=[]) (Bi:=[]) [0,2,3,5,6,7,8] Tryz.func57 rfl rfl (by kernel_rfl) (ze rfl) mixed zP (by exact zA) (by exact zx) (by kernel_rfl) ?_;intro L lp rr hL hr hf hlp
  conv=>cbv
  refine hlp (Int×Int) _ _ _ [3,6,7,8] (fun x=>[(3,none,.val (.int .i64 x.1)),(6,none,.val (.slc false 2 (.int .i64 0) a0)),(7,none,.val (.int .i64 n)),(8,none,.val (.int .i64 x.2))])
   (fun x=>0<=x.2/\x.2<=n/\x.1=kf (xs.take x.2.toNat)) (fun x=>(n-x.2).toNat) ((0,0)) (by subst hL;rw[hn,<-hxl];rfl) ?_ ?_
  ·exact⟨by simp,by simp only;omega,rfl⟩
  rintro⟨s,i⟩ ⟨i0,i1,hI⟩ hfx ag hag;simp only at i0 i1 hI
  conv=>cbv
  simp only[zo hL,sQ,hxl,gx];refine⟨fun h2=>⟨i0,by omega,by omega,?_⟩,fun h2=>?_⟩
  ·have hil:i.toNat<xs.length:=(by omega);obtain⟨m,hm⟩:∃m,m=xs.getD i.toNat 0:=⟨_,rfl⟩;have hmb:=hlow.at hil;rw[<-hm]at hmb;have ht:=zsi hmb.1 hmb.2;have hd:=zid _ (hlow.take i.toNat);have hdl:(xs.take i.toNat).length=i.toNat:=(by rw[List.length_take];omega);rw[hdl,<-hI]at hd;have e3:kf (xs.take (i.toNat+1))=s+QH m:=(by rw[zrn _ _ hil,<-hI,hm]);rw[<-hm,zk (n:=m-1) (by omega) (by omega),zk (n:=m*(m-1)) (by omega) (by omega)];rw[show(m*(m-1)).tdiv 2=QH m from rfl,zk (n:=QH m) (by omega) (by omega),zk (n:=s+QH m) (by omega) (by omega),zk (n:=i+1) (by omega) (by omega)];refine hag (s+QH m,i+1) ⟨by simp only;omega,by simp only;omega,?_⟩ (by simp only;omega);simp only[zL i0];exact e3.symm
  ·rw[hr,hf0,hI,zy (by omega)]
 ·cases h
theorem zvC:∀(n a b:Nat),b<=n->∀p∈stp a b,1<=p.2/\p.2<=b
 |n,a,b,hn,p,hp=>by
  by_cases hb:0<b
  ·rw[zk7 hb]at hp;rcases List.mem_cons.1 hp with rfl|hp
   ·exact⟨hb,zt _⟩
   ·have h1:=Nat.mod_lt a hb
    cases n with
    |zero=>omega
    |succ n=>
     have:=zvC n b (a%b) (by omega) p hp;omega
  ·rw[show b=0 by omega,zfH]at hp;simp at hp
theorem zyv{xs:List Int}(h:Br xs):∀s∈QA xs,1<=s.getD 1 0/\s.getD 1 0<=64:=by
 intro s hs;simp only[QA,zbO,List.mem_flatMap,kr]at hs;obtain⟨i,hi,hs⟩:=hs;simp only[JW,List.mem_map]at hs;obtain⟨p,hp,rfl⟩:=hs;have h1:=zvC _ _ _ (zt _) p hp;have h2:=h.dhi i (by omega);simp;omega
theorem zdK(S:List (List Int))(i:Nat):(qw (S.take i)).length<=(qw S).length:=by
 conv=>rhs;rw[<-ke i S]
 rw[qw,qw,ka,zp];omega
theorem Jz(xs:List Int):qw (QA xs)=jn xs:=zfh xs _
theorem zAD(xs:List Int):kf (qY xs)=kf (jn xs):=by
 rw[qY];split
 ·rename_i h;rw[jn,h];simp[zcL,kf,QH]
 ·rfl
theorem ziB{xs:List Int}(h:Br xs):(jn xs).length<=200000:=by
 have h1:=h.len;have h2:=h.pos;have:=zfK h (xs.length-1) (by omega);rw[jn];omega
theorem zsz{xs:List Int}(h:Br xs):Low (jn xs):=by
 intro m hm;obtain⟨i,hi,rfl⟩:=yM.1 hm;have h1:=zb0 xs i;rw[zd,zg hi,jo]at h1;rw[h1];have h2:=Jd h i;have h3:=(uz h).1.pos i;omega
def zoC(a:List V):Int:=kf (jn (qj a))
def zje(f:List V->Int)(q:List V->Prop):zN:=fun
 |[.agg [.slc false 2 (.int .i64 0) a0]]=>some ([q a0],.int .i64 (f a0))
 |_=>none
theorem znU:yI Tryz.prog 101 (zje zoC ur):=by
 intro args ps r h hp;unfold zje at h;split at h
 ·rename_i a0;cases h;have hq:ur a0:=(zm.1 hp).1;obtain⟨xs,hxs,hb⟩:=id hq;have g1:V.frzs a0=a0:=by rw[hxs,zD]
  have hf0:zoC a0=kf (jn xs):=by rw[zoC,hxs,zr]
  obtain⟨S,hS⟩:∃S,S=QA xs:=⟨_,rfl⟩;obtain⟨vs,hvs⟩:∃vs,vs=II true S:=⟨_,rfl⟩;have e1:YY a0=vs:=by rw[YY,hxs,zr,hvs,hS]
  have hsl:S.length<=4096:=by
   have:=zck hb (xs.length-1) (by have:=hb.pos;omega);have:=hb.len;rw[hS,QA];omega
  have vl:vs.length=S.length:=by rw[hvs,ye]
  have gs:∀k,vs.getD k (.slc true 2 (.int .i64 0) [])=.slc true 2 (.int .i64 0) (I (S.getD k [])):=fun k=>by rw[hvs,qo]
  have hS0:∀i,i<S.length->(S.getD i []).length=2/\0<=(S.getD i []).getD 0 0/\1<=(S.getD i []).getD 1 0/\(S.getD i []).getD 1 0<=64:=fun i hi=>by
   have hm:=zau hi;rw[hS]at hm ⊢;have h1:=zgS _ _ hm;have h2:=zyv hb _ hm;exact⟨h1.1,h1.2.1,h2⟩
  have hlow:∀i,Low (qw (S.take i)):=fun i m hm=>by
   refine zsz hb m ?_;rw[<-Jz,<-hS,<-ke i S,qw,ka];exact List.mem_append.2 (.inl hm)
  have hlen:∀i,(qw (S.take i)).length<=200000:=fun i=>by
   have h1:=zdK S i;have h2:(qw S).length<=200000:=(by rw[hS,Jz];exact ziB hb);omega
  generalize Zg:YY=Qy;generalize yO:ur=kh;refine zC (T:=tab) (B:=[(120,zio Qy kh)]) (Bi:=[]) [0,1,2,3,4,5] Tryz.func101 rfl rfl (by kernel_rfl) (ze rfl) mixed zP (by subst Zg yO;exact(zn za0 zA)) (by subst Zg yO;exact zx) (by kernel_rfl) ?_;intro L lp rr hL hr hf hlp
  conv=>cbv
  have F1:Qy a0=vs:=by rw[<-Zg,e1]
  simp only[zo hL,sQ,g1,F1];refine⟨by rw[<-yO];exact hq,?_⟩
  refine hlp (Int×Int) _ _ _ [3,4,5] (fun x=>[(3,none,.val (.slc true 29 (.slc true 2 (.int .i64 0) []) vs)),(4,none,.val (.int .i64 x.1)),(5,none,.val (.int .i64 x.2))])
   (fun x=>0<=x.2/\x.2<=S.length/\x.1=kf (qw (S.take x.2.toNat))) (fun x=>(S.length-x.2).toNat) ((0,0)) (by subst hL;rfl) ?_ ?_
  ·exact⟨by simp,by simp,rfl⟩
  rintro⟨s,i⟩ ⟨i0,i1,hI⟩ hfx ag hag;simp only at i0 i1 hI
  conv=>cbv
  simp only[zo hL,sQ,vl,gs];refine⟨fun h2=>?_,fun h2=>?_⟩
  ·have hil:i.toNat<S.length:=(by omega);obtain⟨r,hR⟩:∃r,r=S.getD i.toNat []:=⟨_,rfl⟩;have hr0:=hS0 _ hil;rw[<-hR]at hr0 ⊢;have hfl:=zc1 S i.toNat hil;rw[<-hR]at hfl;obtain⟨q,hqq⟩:∃q,q=r.getD 0 0:=⟨_,rfl⟩;obtain⟨m,hm⟩:∃m,m=r.getD 1 0:=⟨_,rfl⟩;rw[<-hqq,<-hm]at hr0 hfl;have ht:=zsi hr0.2.2.1 hr0.2.2.2;have hd:=zid _ (hlow i.toNat)
   have hl1:=hlen i.toNat
   have hd2:=zid _ (hlow (i.toNat+1));have hl2:=hlen (i.toNat+1);rw[hfl,zel,zna,<-hI,show((q.toNat:Nat):Int)=q by omega]at hd2;rw[hfl]at hl2;rw[<-hI]at hd;rw[zp,zE]at hl2 hd2;have hp0:0<=q*QH m:=Int.mul_nonneg (by omega) (by omega);have hrl:=hr0.1
   rw[<-hqq,<-hm,zk (n:=m-1) (by omega) (by omega),zk (n:=m*(m-1)) (by omega) (by omega),show(m*(m-1)).tdiv 2=QH m from rfl,
    zk (n:=QH m) (by omega) (by omega),zk (n:=q*QH m) (by omega) (by omega),zk (n:=s+q*QH m) (by omega) (by omega),zk (n:=i+1) (by omega) (by omega)]
   (repeat' first|(exact yr _)|(exact je rfl)|(exact yV _)|(apply And.intro)|(intro _))<;>(try first|exact True.intro|omega|rfl|(simp only[zi,zq,zj];omega))
   refine hag (s+q*QH m,i+1) ⟨by simp only;omega,by simp only;omega,?_⟩ (by simp only;omega);simp only[zL i0];rw[hfl,zel,zna,<-hI,show((q.toNat:Nat):Int)=q by omega]
  ·rw[hr,hf0,hI,zy (by omega),hS,Jz]
 ·cases h
theorem zD6{a b:Nat}(ha:0<a)(hb:0<b):1<=(ex a b).length:=by
 rw[kg hb,zp,zE];by_cases h:a/b=0
 ·have hab:a<b:=(Nat.div_eq_zero_iff.1 h).resolve_left (by omega);rw[Nat.mod_eq_of_lt hab,kg ha,zp,zE];have:1<=b/a:=Nat.div_pos (by omega) ha;omega
 ·have:1<=a/b:=Nat.one_le_iff_ne_zero.2 h;omega
theorem zvP{xs:List Int}(h:Br xs)(h1:xs.length≠1):1<=(jn xs).length:=by
 have hp:=h.pos;obtain⟨n,hn⟩:∃n,xs.length-1=n+1:=⟨xs.length-2,by omega⟩;rw[jn,hn,zgL,zp];have k1:=zkf h (i:=n) (by omega);have k2:=h.dpos n (by omega);have:=zD6 (a:=(Kb xs n).toNat) (b:=((dv xs).getD n 0).toNat) (by omega) (by omega);rw[zhq,exI,yf];omega
theorem zxg{xs:List Int}(h:Br xs):((qY xs).length:Int)=max ((jn xs).length:Int) 1:=by
 rw[qY];split
 ·rename_i h1;rw[jn,h1];simp only[zcL,List.range_zero,List.flatMap_nil,Nat.sub_self,zq,zi];omega
 ·rename_i h1;have:=zvP h h1;omega
def zg3(a:List V):Int:=(qY (qj a)).length
theorem zpQ{S:List (List Int)}{i:Nat}(hi:i<S.length)(h0:0<=(S.getD i []).getD 0 0):((qw (S.take (i+1))).length:Int)=(qw (S.take i)).length+(S.getD i []).getD 0 0:=by
 rw[zc1 S i hi,zp,zE];omega
theorem zgN:yI Tryz.prog 87 (zje zg3 ur):=by
 intro args ps r h hp;unfold zje at h;split at h
 ·rename_i a0;cases h;have hq:ur a0:=(zm.1 hp).1;obtain⟨xs,hxs,hb⟩:=id hq;have g1:V.frzs a0=a0:=by rw[hxs,zD]
  have hf0:zg3 a0=(qY xs).length:=by rw[zg3,hxs,zr]
  obtain⟨S,hS⟩:∃S,S=QA xs:=⟨_,rfl⟩;obtain⟨vs,hvs⟩:∃vs,vs=II true S:=⟨_,rfl⟩;have e1:YY a0=vs:=by rw[YY,hxs,zr,hvs,hS]
  have hsl:S.length<=4096:=by
   have:=zck hb (xs.length-1) (by have:=hb.pos;omega);have:=hb.len;rw[hS,QA];omega
  have vl:vs.length=S.length:=by rw[hvs,ye]
  have gs:∀k,vs.getD k (.slc true 2 (.int .i64 0) [])=.slc true 2 (.int .i64 0) (I (S.getD k [])):=fun k=>by rw[hvs,qo]
  have hS0:∀i,i<S.length->(S.getD i []).length=2/\0<=(S.getD i []).getD 0 0:=fun i hi=>by
   have hm:=zau hi;rw[hS]at hm ⊢;have h1:=zgS _ _ hm;exact⟨h1.1,h1.2.1⟩
  have hlen:∀i,(qw (S.take i)).length<=200000:=fun i=>by
   have h1:=zdK S i;have h2:(qw S).length<=200000:=(by rw[hS,Jz];exact ziB hb);omega
  generalize Zg:YY=Qy;generalize yO:ur=kh;refine zC (T:=tab) (B:=[(120,zio Qy kh)]) (Bi:=[]) [0,1,2,3,4,5] Tryz.func87 rfl rfl (by kernel_rfl) (ze rfl) mixed zP (by subst Zg yO;exact(zn za0 zA)) (by subst Zg yO;exact zx) (by kernel_rfl) ?_;intro L lp rr hL hr hf hlp
  conv=>cbv
  have F1:Qy a0=vs:=by rw[<-Zg,e1]
  simp only[zo hL,sQ,g1,F1];refine⟨by rw[<-yO];exact hq,?_⟩
  refine hlp (Int×Int) _ _ _ [3,4,5] (fun x=>[(3,none,.val (.slc true 29 (.slc true 2 (.int .i64 0) []) vs)),(4,none,.val (.int .i64 x.1)),(5,none,.val (.int .i64 x.2))])
   (fun x=>0<=x.2/\x.2<=S.length/\x.1=(qw (S.take x.2.toNat)).length) (fun x=>(S.length-x.2).toNat) ((0,0)) (by subst hL;rfl) ?_ ?_
  ·exact⟨by simp,by simp,rfl⟩
  rintro⟨s,i⟩ ⟨i0,i1,hI⟩ hfx ag hag;simp only at i0 i1 hI
  conv=>cbv
  simp only[zo hL,sQ,vl,gs];refine⟨fun h2=>?_,fun h2=>?_⟩
  ·have hil:i.toNat<S.length:=(by omega);have hst:=zpQ hil (hS0 _ hil).2;obtain⟨r,hR⟩:∃r,r=S.getD i.toNat []:=⟨_,rfl⟩;have hr0:=hS0 _ hil;rw[<-hR]at hr0 hst ⊢
   have hl1:=hlen i.toNat
   have hl2:=hlen (i.toNat+1);have hrl:=hr0.1;rw[zk (n:=s+r.getD 0 0) (by omega) (by omega),zk (n:=i+1) (by omega) (by omega)]
   (repeat' first|(exact yr _)|(exact je rfl)|(exact yV _)|(apply And.intro)|(intro _))<;>(try first|exact True.intro|omega|rfl|(simp only[zi,zq,zj];omega))
   refine hag (s+r.getD 0 0,i+1) ⟨by simp only;omega,by simp only;omega,?_⟩ (by simp only;omega);simp only[zL i0];omega
  ·rw[hr,hf0,hI,zy (by omega),hS,Jz,zxg hb]
 ·cases h
section
variable {xs:List Int}
def zBy(xs:List Int):Nat->Int
 |0=>0
 |n+1=>zBy xs n+Kb xs n*(dv xs).getD n 0
end
def U8(xs:List Int):List V:=xs.map (.int .u8)
theorem zlD(xs:List Int)(i:Nat):(U8 xs).getD i (.int .u8 0)=.int .u8 (xs.getD i 0):=by
 simp only[U8,zd,zT];cases xs[i]? <;>rfl
def IsU(es:List V):Prop:=∃xs:List Int,es=U8 xs/\(∀x∈xs,0<=x/\x<=255)/\xs.length<=4096
def nxH(h:Int):Int:=IntKind.u64.wrap (IntKind.u64.wrap (h*6364136223846793005)+1442695040888963407)
def nxX(h:Int):Int:=IntKind.i64.wrap (zdc .u64 (zfI .u64 (nxH h) 33) 16777215)
theorem zzp(a:Int):0<=zdc .u64 a 16777215/\zdc .u64 a 16777215<=16777215:=by
 have h:(BitVec.ofInt IntKind.u64.bits a&&&BitVec.ofInt IntKind.u64.bits 16777215).toNat<=16777215:=by
  rw[BitVec.toNat_and];exact qV Nat.and_le_right (by decide)
 rw[zdc,IntWalk.u64_in _ ⟨by omega,by omega⟩];omega
def jT(es:List V)(a h n:Int):Int:=if n<1 then 0 else(if a<es.length then IntKind.i64.wrap (nxX h+IntKind.i64.wrap ((es.getD a.toNat (.int .u8 0)).toI))else nxX h).tmod n
def ky(es:List V)(a _ n:Int):Int:=if n<1 then a else if a<es.length then a+1 else a
def kS(_:List V)(_ h n:Int):Int:=if n<1 then h else nxH h
def yi(es:List V)(a _:Int):Prop:=IsU es/\0<=a/\a<=es.length
def zfS(es:List V)(a h _:Int):Prop:=yi es a h
def zc0(f0 f1 f2:List V->Int->Int->Int->Int)(q:List V->Int->Int->Int->Prop):uk:=fun
 |[.box 101 (.agg [.slc false 5 (.int .u8 0) a0,.int .i64 a1,.int .u64 a2]),.int .i64 a3]=>some ([q a0 a1 a2 a3],.int .i64 (f0 a0 a1 a2 a3),.box 101 (.agg [.slc false 5 (.int .u8 0) a0,.int .i64 (f1 a0 a1 a2 a3),.int .u64 (f2 a0 a1 a2 a3)]))
 |_=>none
theorem zCD{es:List V}(h:IsU es)(i:Nat):0<=(es.getD i (.int .u8 0)).toI/\(es.getD i (.int .u8 0)).toI<=255:=by
 obtain⟨xs,hxs,hb,_⟩:=h;rw[hxs,zlD];show 0<=xs.getD i 0/\xs.getD i 0<=255;rw[zd];by_cases hi:i<xs.length
 ·rw[zg hi];exact hb _ (yN hi)
 ·rw[zG (by omega)];exact⟨by decide,by decide⟩
theorem YZ{es:List V}{a h n:Int}(hq:yi es a h)(hn:1<=n):0<=jT es a h n/\jT es a h n<n:=by
 have h1:=zzp (zfI .u64 (nxH h) 33)
 have h2:=zCD hq.1 a.toNat
 have hx:nxX h=zdc .u64 (zfI .u64 (nxH h) 33) 16777215:=by rw[nxX,IntWalk.i64_in _ ⟨by omega,by omega⟩]
 rw[jT,if_neg (by omega)];have key:∀x:Int,0<=x->0<=x.tmod n/\x.tmod n<n:=fun x hx0=>⟨Int.tmod_nonneg _ hx0,Int.tmod_lt_of_pos _ (by omega)⟩;split
 ·rw[IntWalk.i64_in (es.getD a.toNat (.int .u8 0)).toI ⟨by omega,by omega⟩,IntWalk.i64_in _ ⟨by omega,by omega⟩];exact key _ (by omega)
 ·exact key _ (by omega)
theorem uE{es:List V}{a h n:Int}(hq:yi es a h):yi es (ky es a h n) (kS es a h n):=by
 obtain⟨h1,h2,h3⟩:=hq;refine⟨h1,?_,?_⟩
 ·rw[ky];split<;>(try split)<;>omega
 ·rw[ky];split<;>(try split)<;>omega
def QE(es:List V)(a h:Int)(l:List V):Int:=(qj l).getD (jT es a h l.length).toNat 0
def Jk(es:List V)(a h:Int)(l:List V):Int:=ky es a h l.length
def Jj(es:List V)(a h:Int)(l:List V):Int:=kS es a h l.length
def zfR(es:List V)(a h:Int)(l:List V):Prop:=yi es a h/\JJ l/\1<=l.length/\l.length<=2147483647
def zff(f0 f1 f2:List V->Int->Int->List V->Int)(q:List V->Int->Int->List V->Prop):uk:=fun
 |[.box 101 (.agg [.slc false 5 (.int .u8 0) a0,.int .i64 a1,.int .u64 a2]),.slc false 2 (.int .i64 0) a3]=>some ([q a0 a1 a2 a3],.int .i64 (f0 a0 a1 a2 a3),.box 101 (.agg [.slc false 5 (.int .u8 0) a0,.int .i64 (f1 a0 a1 a2 a3),.int .u64 (f2 a0 a1 a2 a3)]))
 |_=>none
theorem zcJ{t:TypeId}{c:V}{a a' h h':Int}:Sh (.box t (.agg [c,.int .i64 a,.int .u64 h])) (.box t (.agg [c,.int .i64 a',.int .u64 h'])):=
 .box _ _ _ (.agg _ _ rfl fun i x y hx hy=>by
  match i with
  |0=>simp at hx hy;subst hx;subst hy;exact .refl _
  |1=>simp at hx hy;subst hx;subst hy;exact .scal _ _ rfl rfl
  |2=>simp at hx hy;subst hx;subst hy;exact .scal _ _ rfl rfl
  |n+3=>simp at hx)
theorem uJ:zgp Tryz.prog 41 0 (zc0 jT ky kS zfS):=by
 intro args ps r y h hp;unfold zc0 at h;split at h
 ·rename_i a0 a1 a2 a3;cases h;have hq:yi a0 a1 a2:=(zm.1 hp).1;refine zwg (T:=tab) (B:=[]) (Bi:=[]) 0 [0,1,4,5] Tryz.func41 rfl rfl (by kernel_rfl) (ze rfl) mixed zP (by exact zA) (by exact zx) (by kernel_rfl) rfl rfl rfl zcJ rfl ?_;intro L lp rr yy hL hr hy hf hlp
  conv=>cbv
  simp only[zo hL,sQ,true_and];obtain⟨⟨xs,hxs,hb,hl⟩,h0,h1⟩:=hq;have hal:a0.length=xs.length:=by rw[hxs,U8,yf]
  refine⟨fun h=>?_,fun h=>⟨by decide,fun h2=>⟨h0,h2,?_,by omega,?_⟩,fun h2=>⟨by omega,?_⟩⟩⟩
  ·rw[hr,hy,jT,ky,kS,if_pos h,if_pos h,if_pos h];exact⟨rfl,rfl⟩
  ·rw[hxs,zlD];rfl
  ·rw[hr,hy,jT,ky,kS,if_neg h,if_neg h,if_neg h,if_pos h2,if_pos h2,zk (n:=a1+1) (by omega) (by omega)];exact⟨rfl,rfl⟩
  ·rw[hr,hy,jT,ky,kS,if_neg h,if_neg h,if_neg h,if_neg h2,if_neg h2];exact⟨rfl,rfl⟩
 ·cases h
theorem ZS:zgp Tryz.prog 42 0 (zff QE Jk Jj zfR):=by
 intro args ps r y h hp;unfold zff at h;split at h
 ·rename_i a0 a1 a2 a3;cases h;have hq:zfR a0 a1 a2 a3:=(zm.1 hp).1;obtain⟨n,hn⟩:∃n:Int,n=a3.length:=⟨_,rfl⟩;generalize yZ:jT=jS;generalize yY:ky=jR;generalize yX:kS=jQ;generalize jj:zfS=Zb;refine zwg (T:=tab) (B:=[]) (Bi:=[(41,0,false,zc0 jS jR jQ Zb)]) 0 [0,1,4] Tryz.func42 rfl rfl (by kernel_rfl) (ze rfl) mixed zP (by subst yZ yY yX jj;exact zA) (by subst yZ yY yX jj;exact(ja uJ zx)) (by kernel_rfl) rfl rfl rfl zcJ rfl ?_;intro L lp rr yy hL hr hy hf hlp
  conv=>cbv
  simp only[zo hL,sQ,<-hn];subst yZ yY yX jj;obtain⟨h1,⟨l,hl⟩,h2,h3⟩:=hq;obtain⟨k1,k2⟩:=YZ (n:=n) h1 (by omega);refine⟨h1,k1,k2,by rw[hl,zO];rfl,?_,?_⟩
  ·rw[hr,QE,<-hn,hl,zO,zr];rfl
  ·rw[hy,Jk,Jj,<-hn]
 ·cases h
def frS(h b:Int):Int:=IntKind.u64.wrap (IntKind.u64.wrap (IntKind.u64.wrap (h*1099511628211)+IntKind.u64.wrap b)+11)
def frH(xs:List Int)(n:Nat):Int:=(xs.take n).foldl frS (IntKind.u64.wrap (9341+IntKind.u64.wrap xs.length))
theorem zAw{xs:List Int}{n:Nat}(h:n<xs.length):frH xs (n+1)=frS (frH xs n) (xs.getD n 0):=by
 rw[frH,zJ h,List.foldl_append,<-frH,zd,zg h];rfl
def zbd(a:List V):Int:=frH (a.map V.toI) a.length
def zoN(f0:List V->Int)(q:List V->Prop):zN:=fun
 |[.slc false 5 (.int .u8 0) a0]=>some ([q a0],.box 101 (.agg [.slc false 5 (.int .u8 0) a0,.int .i64 0,.int .u64 (f0 a0)]))
 |_=>none
theorem zhR:yI Tryz.prog 39 (zoN zbd IsU):=by
 intro args ps r h hp;unfold zoN at h;split at h
 ·rename_i a0;cases h;have hq:IsU a0:=(zm.1 hp).1;obtain⟨n,hn⟩:∃n:Int,n=a0.length:=⟨_,rfl⟩;obtain⟨h0,hh0⟩:∃h0:Int,h0=IntKind.u64.wrap (9341+IntKind.u64.wrap n):=⟨_,rfl⟩;obtain⟨xs,hxs,hb,hl⟩:=hq;have hal:a0.length=xs.length:=by rw[hxs,U8,yf]
  refine zC (T:=tab) (B:=[]) (Bi:=[]) [0,2,3,4] Tryz.func39 rfl rfl (by kernel_rfl) (ze rfl) mixed zP (by exact zA) (by exact zx) (by kernel_rfl) ?_;intro L lp rr hL hr hf hlp
  conv=>cbv
  simp only[zo hL,sQ,<-hn,<-hh0]
  refine hlp (Int×Int) _ _ _ [0,3,4] (fun x=>[(0,none,.val (.slc false 5 (.int .u8 0) a0)),(3,none,.val (.box 101 (.agg [.slc false 5 (.int .u8 0) a0,.int .i64 0,.int .u64 x.1]))),(4,none,.val (.int .i64 x.2))])
   (fun x=>0<=x.2/\x.2<=n/\x.1=frH xs x.2.toNat) (fun x=>(n-x.2).toNat) ((h0,0)) (by subst hL;rfl) ?_ ?_
  ·refine⟨by simp,by simp only;omega,?_⟩;simp only[frH,hh0,hn,hal];rfl
  rintro⟨hh,i⟩ ⟨i0,i1,hI⟩ hfx ag hag;simp only at i0 i1 hI
  conv=>cbv
  simp only[zo hL,sQ,<-hn];refine⟨fun h=>⟨i0,h.1,by rw[hxs,zlD];rfl,?_⟩,fun h=>?_⟩
  ·rw[zk (n:=i+1) (by omega) (by omega)];refine hag (_,i+1) ⟨by simp only;omega,by simp only;omega,?_⟩ (by simp only;omega);simp only;rw[show(i+1).toNat=i.toNat+1 by omega,zAw (by omega),<-hI,hxs,zlD];rfl
  ·have hm:(U8 xs).map V.toI=xs:=(by simp[U8,Function.comp_def,V.toI]);rw[hr,zbd,hI,show i.toNat=a0.length by omega,hxs,hm]
 ·cases h
def zoM(f:List V->Bool)(q:List V->Prop):zN:=fun
 |[.slc false 5 (.int .u8 0) a0]=>some ([q a0],.bool (f a0))
 |_=>none
def zlw(a:List V):Bool:=decide ((4096:Int)<a.length)
def zBm(_:List V):Prop:=True
theorem zxi:yI Tryz.prog 5 (zoM zlw zBm):=by
 intro args ps r h hp;unfold zoM at h;split at h
 ·rename_i a0;cases h;obtain⟨n,hn⟩:∃n:Int,n=a0.length:=⟨_,rfl⟩;refine zC (T:=tab) (B:=[]) (Bi:=[]) [0,2] Tryz.func5 rfl rfl (by kernel_rfl) (ze rfl) mixed zP (by exact zA) (by exact zx) (by kernel_rfl) ?_;intro L lp rr hL hr hf hlp
  conv=>cbv
  simp only[zo hL,sQ,<-hn];rw[hr,zlw,<-hn]
 ·cases h
def zbC(a b:List V):Bool:=decide (qj a=qj b)
def zj4(a b:List V):Prop:=JJ a/\JJ b/\a.length<=2147483647
theorem zcQ:yI Tryz.prog 14 (YI zbC zj4):=by
 intro args ps r h hp;unfold YI at h;split at h
 ·rename_i a0 a1;cases h;obtain⟨⟨xs,hxs⟩,⟨ys,hys⟩,hl⟩:zj4 a0 a1:=(zm.1 hp).1;obtain⟨n,hn⟩:∃n:Int,n=a0.length:=⟨_,rfl⟩;obtain⟨m,hm⟩:∃m:Int,m=a1.length:=⟨_,rfl⟩;have hxl:a0.length=xs.length:=by rw[hxs,zj]
  have hyl:a1.length=ys.length:=by rw[hys,zj]
  have gx:∀k,a0.getD k (.int .i64 0)=.int .i64 (xs.getD k 0):=fun k=>by rw[hxs,zO]
  have gy:∀k,a1.getD k (.int .i64 0)=.int .i64 (ys.getD k 0):=fun k=>by rw[hys,zO]
  have hf0:zbC a0 a1=decide (xs=ys):=by rw[zbC,hxs,hys,zr,zr]
  refine zC (T:=tab) (B:=[]) (Bi:=[]) [0,1,4,5] Tryz.func14 rfl rfl (by kernel_rfl) (ze rfl) mixed zP (by exact zA) (by exact zx) (by kernel_rfl) ?_;intro L lp rr hL hr hf hlp
  conv=>cbv
  simp only[zo hL,sQ,<-hn,<-hm];refine⟨fun h=>?_,fun h=>?_⟩
  ·rw[hr,hf0,decide_eq_false (fun e=>h (by rw[hn,hm,hxl,hyl,e]))]
  have hlen:xs.length=ys.length:=by omega
  refine hlp (Int) _ _ _ [0,1,5] (fun x=>[(0,none,.val (.slc false 2 (.int .i64 0) a0)),(1,none,.val (.slc false 2 (.int .i64 0) a1)),(5,none,.val (.int .i64 x))])
   (fun x=>0<=x/\x<=n/\xs.take x.toNat=ys.take x.toNat) (fun x=>(n-x).toNat) (0) (by subst hL;rfl) ?_ ?_
  ·exact⟨by simp,by omega,rfl⟩
  rintro i ⟨i0,i1,hI⟩ hfx ag hag
  conv=>cbv
  simp only[zo hL,sQ,<-hn,<-hm,gx,gy];refine⟨fun h2=>⟨i0,h2,i0,by omega,fun h3=>?_,fun h3=>?_⟩,fun h2=>?_⟩
  ·rw[hr,hf0,decide_eq_false (fun e=>h3 (by rw[e]))]
  ·rw[zk (n:=i+1) (by omega) (by omega)];have h4:i.toNat<xs.length:=(by omega);have h5:i.toNat<ys.length:=(by omega);refine hag (i+1) ⟨by omega,by omega,?_⟩ (by omega);rw[zd,zg h4,zd,zg h5]at h3;rw[show(i+1).toNat=i.toNat+1 by omega,zJ h4,zJ h5,hI];exact congrArg (fun z=>List.take i.toNat ys++[z]) h3
  ·have h4:xs=ys:=(by rwa [zy (by omega),zy (by omega)]at hI);rw[hr,hf0,decide_eq_true h4]
 ·cases h
def zcw(f:List V->List V->Bool)(q:List V->List V->Prop):zN:=fun
 |[.slc false 29 (.slc false 2 (.int .i64 0) []) a0,.slc false 29 (.slc false 2 (.int .i64 0) []) a1]=>some ([q a0 a1],.bool (f a0 a1))
 |_=>none
def Kf(a b:List V):Bool:=decide (uL a=uL b)
def zdz(a b:List V):Prop:=(∃l,a=II false l/\l.length<=2147483647/\∀r∈l,r.length<=2147483647)/\∃l,b=II false l
theorem zmI:yI Tryz.prog 104 (zcw Kf zdz):=by
 intro args ps r h hp;unfold zcw at h;split at h
 ·rename_i a0 a1;cases h;obtain⟨⟨xs,hxs,hl,hrl⟩,⟨ys,hys⟩⟩:zdz a0 a1:=(zm.1 hp).1;obtain⟨n,hn⟩:∃n:Int,n=a0.length:=⟨_,rfl⟩;obtain⟨m,hm⟩:∃m:Int,m=a1.length:=⟨_,rfl⟩;have hxl:a0.length=xs.length:=by rw[hxs,ye]
  have hyl:a1.length=ys.length:=by rw[hys,ye]
  have gx:∀k,a0.getD k (.slc false 2 (.int .i64 0) [])=.slc false 2 (.int .i64 0) (I (xs.getD k [])):=fun k=>by rw[hxs,qo]
  have gy:∀k,a1.getD k (.slc false 2 (.int .i64 0) [])=.slc false 2 (.int .i64 0) (I (ys.getD k [])):=fun k=>by rw[hys,qo]
  have hf0:Kf a0 a1=decide (xs=ys):=by rw[Kf,hxs,hys,yd,yd]
  generalize Qu:zbC=zaU;generalize YG:zj4=KF;refine zC (T:=tab) (B:=[(14,YI zaU KF)]) (Bi:=[]) [0,1,4,5] Tryz.func104 rfl rfl (by kernel_rfl) (ze rfl) mixed zP (by subst Qu YG;exact(zn zcQ zA)) (by subst Qu YG;exact zx) (by kernel_rfl) ?_;intro L lp rr hL hr hf hlp
  conv=>cbv
  simp only[zo hL,sQ,<-hn,<-hm];refine⟨fun h=>?_,fun h=>?_⟩
  ·rw[hr,hf0,decide_eq_false (fun e=>h (by rw[hn,hm,hxl,hyl,e]))]
  have hlen:xs.length=ys.length:=by omega
  refine hlp (Int) _ _ _ [0,1,5] (fun x=>[(0,none,.val (.slc false 29 (.slc false 2 (.int .i64 0) []) a0)),(1,none,.val (.slc false 29 (.slc false 2 (.int .i64 0) []) a1)),(5,none,.val (.int .i64 x))])
   (fun x=>0<=x/\x<=n/\xs.take x.toNat=ys.take x.toNat) (fun x=>(n-x).toNat) (0) (by subst hL;rfl) ?_ ?_
  ·exact⟨by simp,by omega,rfl⟩
  rintro i ⟨i0,i1,hI⟩ hfx ag hag;have Ef:∀u v:List Int,zaU (I u) (I v)=decide (u=v):=fun u v=>by rw[<-Qu,zbC,zr,zr]
  conv=>cbv
  simp only[zo hL,sQ,<-hn,<-hm,gx,gy,Ef];refine⟨fun h2=>?_,fun h2=>?_⟩
  ·have h4:i.toNat<xs.length:=(by omega);have h5:i.toNat<ys.length:=by omega
   have Ql:KF (I (xs.getD i.toNat [])) (I (ys.getD i.toNat [])):=by
    rw[<-YG];refine⟨⟨_,rfl⟩,⟨_,rfl⟩,?_⟩;rw[zj,zd,zg h4];exact hrl _ (yN h4)
   refine⟨i0,h2,i0,by omega,Ql,fun h3=>?_,fun h3=>?_⟩
   ·rw[hr,hf0,decide_eq_false (fun e=>h3 (by rw[e]))]
   ·rw[zk (n:=i+1) (by omega) (by omega)];refine hag (i+1) ⟨by omega,by omega,?_⟩ (by omega);rw[zd,zg h4,zd,zg h5]at h3;rw[show(i+1).toNat=i.toNat+1 by omega,zJ h4,zJ h5,hI];exact congrArg (fun z=>List.take i.toNat ys++[z]) h3
  ·have h4:xs=ys:=(by rwa [zy (by omega),zy (by omega)]at hI);rw[hr,hf0,decide_eq_true h4]
 ·cases h
def zui(f:List V->Int->List V)(q:List V->Int->Prop):zN:=fun
 |[.agg [.slc false 2 (.int .i64 0) a0],.int .i64 a1]=>some ([q a0 a1],.slc true 29 (.slc true 2 (.int .i64 0) []) (f a0 a1))
 |_=>none
def zr1(es:List V)(k:Int):List V:=II true (zfa (jN (qj es) k.toNat))
theorem zjL:yI Tryz.prog 51 (zui zr1 ZT):=by
 intro args ps r h hp;unfold zui at h;split at h
 ·rename_i a0 a1;cases h;obtain⟨hq,k1,k2⟩:ZT a0 a1:=(zm.1 hp).1;have hqb:=hq;obtain⟨xs,hxs,hb⟩:=hq;have g1:V.frzs a0=a0:=by rw[hxs,zD]
  obtain⟨ms,hms⟩:∃ms,ms=I (jN xs a1.toNat):=⟨_,rfl⟩;have e1:kH a0 a1=ms:=by rw[kH,hxs,zr,hms]
  have g2:V.frzs ms=ms:=by rw[hms,zD]
  generalize kB:kH=ZL;generalize qQ:ZT=uT;generalize znu:zko=zA5;generalize znm:zsN=zA2;refine zC (T:=tab) (B:=[(73,zkB ZL uT),(80,zly zA5 zA2)]) (Bi:=[]) [0,1,2,4] Tryz.func51 rfl rfl (by kernel_rfl) (ze rfl) mixed zP (by subst kB qQ znu znm;exact(zn zdx (zn zlS zA))) (by subst kB qQ znu znm;exact zx) (by kernel_rfl) ?_;intro L lp rr hL hr hf hlp
  conv=>cbv
  have hF:ZL a0 a1=ms:=by rw[<-kB,e1]
  simp only[zo hL,sQ,g1,hF,g2];refine⟨by rw[<-qQ];exact⟨hqb,k1,k2⟩,by rw[<-znm];exact⟨xs,_,hb,hms,by omega⟩,?_⟩;rw[hr,zr1,<-znu,zko,hms,zr,hxs,zr]
 ·cases h
theorem nf:∀l:List Int,V.noFzs (I l)=true
 |[]=>rfl
 |x::l=>by
  have:=nf l;simpa [I,V.noFzs,V.noFz]using this
def zEu(X Y:List Int):Option Nat:=(List.range X.length).find? fun t=>X.getD t 0 !=Y.getD t 0
def gc(xs ys:List Int):Int×Int:=match zEu (kI xs 201) (kI ys 201)with
 |some i=>((i:Int)+1,0)
 |none=>(0,4)
theorem zg4(xs:List Int)(k:Nat):(kI xs k).length=k-1:=yR _ _
def zaB(X Y:List Int):Nat->Int
 |0=>0
 |n+1=>W (zaB X Y n+W (X.getD n 0*Y.getD n 0))
def zdP(f:List V->List V->Int)(q:List V->List V->Prop):zN:=fun
 |[.slc false 2 (.int .i64 0) a0,.slc false 2 (.int .i64 0) a1]=>some ([q a0 a1],.int .i64 (f a0 a1))
 |_=>none
def zbS(a b:List V):Int:=zaB (qj a) (qj b) a.length
def zgV(a b:List V):Prop:=JJ a/\JJ b/\a.length<=b.length
theorem zrF:yI Tryz.prog 122 (zdP zbS zgV):=by
 intro args ps r h hp;unfold zdP at h;split at h
 ·rename_i a0 a1;cases h;obtain⟨⟨xs,hxs⟩,⟨ys,hys⟩,hll⟩:zgV a0 a1:=(zm.1 hp).1;have hxl:a0.length=xs.length:=by rw[hxs,zj]
  have hyl:a1.length=ys.length:=by rw[hys,zj]
  have hf0:zbS a0 a1=zaB xs ys xs.length:=by rw[zbS,hxl,hxs,hys,zr,zr]
  have gx:∀i,a0.getD i (.int .i64 0)=.int .i64 (xs.getD i 0):=fun i=>by rw[hxs,zO]
  have gy:∀i,a1.getD i (.int .i64 0)=.int .i64 (ys.getD i 0):=fun i=>by rw[hys,zO]
  refine zC (T:=tab) (B:=[]) (Bi:=[]) [0,1,4,5,6,7,8,9,10] Tryz.func122 rfl rfl (by kernel_rfl) (ze rfl) mixed zP (by exact zA) (by exact zx) (by kernel_rfl) ?_;intro L lp rr hL hr hf hlp;have hlen:=hf.1.1;obtain⟨n,hn⟩:∃n:Int,n=xs.length:=⟨_,rfl⟩
  conv=>cbv
  refine hlp (Int×Int) _ _ _ [1,5,8,9,10] (fun x=>[(1,none,.val (.slc false 2 (.int .i64 0) a1)),(5,none,.val (.int .i64 x.1)),(8,none,.val (.slc false 2 (.int .i64 0) a0)),(9,none,.val (.int .i64 n)),(10,none,.val (.int .i64 x.2))])
   (fun x=>0<=x.2/\x.2<=xs.length/\x.1=zaB xs ys x.2.toNat) (fun x=>(xs.length-x.2).toNat) ((0,0)) (by subst hL;rw[hn,<-hxl];rfl) ?_ ?_
  ·exact⟨by simp,by simp,rfl⟩
  rintro⟨s,i⟩ ⟨i0,i1,hI⟩ hfx ag hag;simp only at i0 i1 hI
  conv=>cbv
  simp only[zo hL,sQ,hxl,hyl,gx,gy];refine⟨fun h2=>⟨i0,by omega,i0,by omega,?_⟩,fun h2=>?_⟩
  ·rw[zk (n:=i+1) (by omega) (by omega)];refine hag (W (s+W (xs.getD i.toNat 0*ys.getD i.toNat 0)),i+1) ⟨by simp only;omega,by simp only;omega,?_⟩ (by simp only;omega);simp only[zL i0];rw[zaB,hI]
  ·rw[hr,hf0,hI,show i.toNat=xs.length by omega]
 ·cases h
theorem zlO:yI Tryz.prog 128 (zdP zbS zgV):=by
 intro args ps r h hp;unfold zdP at h;split at h
 ·rename_i a0 a1;cases h;obtain⟨⟨xs,hxs⟩,⟨ys,hys⟩,hll⟩:zgV a0 a1:=(zm.1 hp).1;have hxl:a0.length=xs.length:=by rw[hxs,zj]
  have hyl:a1.length=ys.length:=by rw[hys,zj]
  have hf0:zbS a0 a1=zaB xs ys xs.length:=by rw[zbS,hxl,hxs,hys,zr,zr]
  have gx:∀i,a0.getD i (.int .i64 0)=.int .i64 (xs.getD i 0):=fun i=>by rw[hxs,zO]
  have gy:∀i,a1.getD i (.int .i64 0)=.int .i64 (ys.getD i 0):=fun i=>by rw[hys,zO]
  refine zC (T:=tab) (B:=[]) (Bi:=[]) [0,1,4,5,6] Tryz.func128 rfl rfl (by kernel_rfl) (ze rfl) mixed zP (by exact zA) (by exact zx) (by kernel_rfl) ?_;intro L lp rr hL hr hf hlp;have hlen:=hf.1.1
  conv=>cbv
  refine hlp (Int×Int) _ _ _ [0,1,5,6] (fun x=>[(0,none,.val (.slc false 2 (.int .i64 0) a0)),(1,none,.val (.slc false 2 (.int .i64 0) a1)),(5,none,.val (.int .i64 x.1)),(6,none,.val (.int .i64 x.2))])
   (fun x=>0<=x.2/\x.2<=xs.length/\x.1=zaB xs ys x.2.toNat) (fun x=>(xs.length-x.2).toNat) ((0,0)) (by subst hL;rfl) ?_ ?_
  ·exact⟨by simp,by simp,rfl⟩
  rintro⟨s,i⟩ ⟨i0,i1,hI⟩ hfx ag hag;simp only at i0 i1 hI
  conv=>cbv
  simp only[zo hL,sQ,hxl,hyl,gx,gy];refine⟨fun h2=>⟨i0,by omega,i0,by omega,?_⟩,fun h2=>?_⟩
  ·rw[zk (n:=i+1) (by omega) (by omega)];refine hag (W (s+W (xs.getD i.toNat 0*ys.getD i.toNat 0)),i+1) ⟨by simp only;omega,by simp only;omega,?_⟩ (by simp only;omega);simp only[zL i0];rw[zaB,hI]
  ·rw[hr,hf0,hI,show i.toNat=xs.length by omega]
 ·cases h
theorem zjC:yI Tryz.prog 90 (YI YH zj6):=by
 intro args ps r h hp;unfold YI at h;split at h
 ·rename_i a0 a1;cases h;obtain⟨⟨xs,hxs⟩,ys,hys⟩:zj6 a0 a1:=(zm.1 hp).1;have hxl:a0.length=xs.length:=by rw[hxs,zj]
  have hyl:a1.length=ys.length:=by rw[hys,zj]
  have hf0:YH a0 a1=decide (xs=ys):=by rw[YH,hxs,hys,zr,zr]
  have gx:∀i,a0.getD i (.int .i64 0)=.int .i64 (xs.getD i 0):=fun i=>by rw[hxs,zO]
  have gy:∀i,a1.getD i (.int .i64 0)=.int .i64 (ys.getD i 0):=fun i=>by rw[hys,zO]
  refine zC (T:=tab) (B:=[]) (Bi:=[]) [0,1,4,5,12,13] Tryz.func90 rfl rfl (by kernel_rfl) (ze rfl) mixed zP (by exact zA) (by exact zx) (by kernel_rfl) ?_;intro L lp rr hL hr hf hlp;have hlen:=hf.1.1;obtain⟨n,hn⟩:∃n:Int,n=xs.length:=⟨_,rfl⟩
  conv=>cbv
  simp only[zo hL,sQ,hxl,hyl];refine⟨fun h=>?_,fun h=>?_⟩
  ·rw[hr,hf0,decide_eq_false];rintro rfl;omega
  refine hlp Int _ _ _ [0,1,12,13] (fun x=>[(0,none,.val (.slc false 2 (.int .i64 0) a0)),(1,none,.val (.slc false 2 (.int .i64 0) a1)),(12,none,.val (.int .i64 n)),(13,none,.val (.int .i64 x))])
   (fun x=>0<=x/\x<=xs.length/\xs.take x.toNat=ys.take x.toNat) (fun x=>(xs.length-x).toNat) 0 (by subst hL;rw[hn,<-hxl];rfl) (by simp) ?_
  rintro i ⟨i0,i1,hI⟩ hfx ag hag
  conv=>cbv
  simp only[zo hL,sQ,hxl,hyl,gx,gy];refine⟨fun h2=>⟨i0,by omega,i0,by omega,fun h4=>?_,fun h4=>?_⟩,fun h2=>?_⟩
  ·rw[hr,hf0,decide_eq_false];rintro rfl;exact h4 rfl
  ·rw[zk (n:=i+1) (by omega) (by omega)];refine hag (i+1) ⟨by omega,by omega,?_⟩ (by omega);have e1:i.toNat<xs.length:=(by omega);have e2:i.toNat<ys.length:=(by omega);rw[zL i0,zJ e1,zJ e2,hI];simp only[zd,zg e1,zg e2,jo]at h4;rw[h4]
  ·rw[zy (by omega),zy (by omega)]at hI;rw[hr,hf0,decide_eq_true hI]
 ·cases h
theorem zhQ:yI Tryz.prog 119 (YI YH zj6):=by
 intro args ps r h hp;unfold YI at h;split at h
 ·rename_i a0 a1;cases h;obtain⟨⟨xs,hxs⟩,ys,hys⟩:zj6 a0 a1:=(zm.1 hp).1;have hxl:a0.length=xs.length:=by rw[hxs,zj]
  have hyl:a1.length=ys.length:=by rw[hys,zj]
  have hf0:YH a0 a1=decide (xs=ys):=by rw[YH,hxs,hys,zr,zr]
  have gx:∀i,a0.getD i (.int .i64 0)=.int .i64 (xs.getD i 0):=fun i=>by rw[hxs,zO]
  have gy:∀i,a1.getD i (.int .i64 0)=.int .i64 (ys.getD i 0):=fun i=>by rw[hys,zO]
  refine zC (T:=tab) (B:=[]) (Bi:=[]) [0,1,4,5] Tryz.func119 rfl rfl (by kernel_rfl) (ze rfl) mixed zP (by exact zA) (by exact zx) (by kernel_rfl) ?_;intro L lp rr hL hr hf hlp;have hlen:=hf.1.1
  conv=>cbv
  simp only[zo hL,sQ,hxl,hyl];refine⟨fun h=>?_,fun h=>?_⟩
  ·rw[hr,hf0,decide_eq_false];rintro rfl;omega
  refine hlp (Int) _ _ _ [0,1,5] (fun x=>[(0,none,.val (.slc false 2 (.int .i64 0) a0)),(1,none,.val (.slc false 2 (.int .i64 0) a1)),(5,none,.val (.int .i64 x))])
   (fun x=>0<=x/\x<=xs.length/\xs.take x.toNat=ys.take x.toNat) (fun x=>(xs.length-x).toNat) (0) (by subst hL;rfl) ?_ ?_
  ·simp
  rintro i ⟨i0,i1,hI⟩ hfx ag hag
  conv=>cbv
  simp only[zo hL,sQ,hxl,hyl,gx,gy];refine⟨fun h2=>⟨i0,by omega,i0,by omega,fun h4=>?_,fun h4=>?_⟩,fun h2=>?_⟩
  ·rw[hr,hf0,decide_eq_false];rintro rfl;exact h4 rfl
  ·rw[zk (n:=i+1) (by omega) (by omega)];refine hag (i+1) ⟨by omega,by omega,?_⟩ (by omega);have e1:i.toNat<xs.length:=(by omega);have e2:i.toNat<ys.length:=(by omega);rw[zL i0,zJ e1,zJ e2,hI];simp only[zd,zg e1,zg e2,jo]at h4;rw[h4]
  ·rw[zy (by omega),zy (by omega)]at hI;rw[hr,hf0,decide_eq_true hI]
 ·cases h
def zc8(X Y:List Int)(c:Nat):Bool:=decide (X.take (c-1)=Y.take (c-1))&&(X.getD (c-1) 0 !=Y.getD (c-1) 0||X.getD (c-1) 0==0)
def zpW(f:List V->List V->Int->Bool)(q:List V->List V->Int->Prop):zN:=fun
 |[.slc false 2 (.int .i64 0) a0,.slc false 2 (.int .i64 0) a1,.int .i64 a2]=>some ([q a0 a1 a2],.bool (f a0 a1 a2))
 |_=>none
def zoD(a b:List V)(c:Int):Bool:=zc8 (qj a) (qj b) c.toNat
def zxv(a b:List V)(c:Int):Prop:=JJ a/\JJ b/\1<=c/\c<=a.length/\c<=b.length
theorem zn1:yI Tryz.prog 52 (zpW zoD zxv):=by
 intro args ps r h hp;unfold zpW at h;split at h
 ·rename_i a0 a1 a2;cases h;obtain⟨⟨xs,hxs⟩,⟨ys,hys⟩,c1,c2,c3⟩:zxv a0 a1 a2:=(zm.1 hp).1;have hxl:a0.length=xs.length:=by rw[hxs,zj]
  have hyl:a1.length=ys.length:=by rw[hys,zj]
  have hf0:zoD a0 a1 a2=zc8 xs ys a2.toNat:=by rw[zoD,hxs,hys,zr,zr]
  have gx:∀i,a0.getD i (.int .i64 0)=.int .i64 (xs.getD i 0):=fun i=>by rw[hxs,zO]
  have gy:∀i,a1.getD i (.int .i64 0)=.int .i64 (ys.getD i 0):=fun i=>by rw[hys,zO]
  generalize Zi:YH=zaW;generalize Qq:zj6=zeM;refine zC (T:=tab) (B:=[(90,YI zaW zeM)]) (Bi:=[]) [0,1,2,6] Tryz.func52 rfl rfl (by kernel_rfl) (ze rfl) mixed zP (by subst Zi Qq;exact(zn zjC zA)) (by subst Zi Qq;exact zx) (by kernel_rfl) ?_;intro L lp rr hL hr hf hlp;have hlen:=hf.1.1;have hlen2:=hf.2.1.1
  conv=>cbv
  have w0:IntKind.wrap .i64 (a2-1)=a2-1:=zk (by omega) (by omega);simp only[zo hL,sQ,hxl,hyl,gx,gy,w0,List.drop_zero];subst Zi Qq;have e1:V.frzs (a0.take (a2-1).toNat)=I (xs.take (a2-1).toNat):=by rw[hxs,zbK,zD]
  have e2:V.frzs (a1.take (a2-1).toNat)=I (ys.take (a2-1).toNat):=by rw[hys,zbK,zD]
  rw[e1,e2,hr,hf0]
  (repeat' first|(exact yr _)|(exact je rfl)|(exact yV _)|(apply And.intro)|(intro _))<;>(try first|exact True.intro|omega|rfl|(simp only[zi,zq,zj];omega))
  all_goals first|assumption|exact⟨_,rfl⟩|skip
  rw[zc8,YH,zr,zr,show(a2-1).toNat=a2.toNat-1 by omega];rfl
 ·cases h
def shr(xs ys:List Int)(c:Nat):Bool:=zc8 (kI xs 201) (kI ys 201) c
theorem Jl(xs:List Int){c k:Nat}(h:c<=k-1):(kI xs k).take c=kI xs (c+1):=by
 rw[kI,zzL _ _ _ h,kI,Nat.add_sub_cancel]
theorem YR(xs:List Int){c k:Nat}(h:c<k-1):(kI xs k).getD c 0=cd (mul xs) (c+1) (c+1):=js _ _ _ _ h
theorem zCY(xs ys:List Int){c k:Nat}(h1:1<=c)(h2:c<=200)(hk:c+1<=k):zc8 (kI xs k) (kI ys k) c=shr xs ys c:=by
 rw[shr,zc8,zc8,Jl xs (c:=c-1) (k:=k) (by omega),Jl ys (c:=c-1) (k:=k) (by omega),Jl xs (c:=c-1) (k:=201) (by omega),Jl ys (c:=c-1) (k:=201) (by omega),
  YR xs (k:=k) (by omega),YR ys (k:=k) (by omega),YR xs (k:=201) (by omega),YR ys (k:=201) (by omega)]
theorem zzV(xs ys:List Int)(c:Nat):shr xs ys c=shr ys xs c:=by
 rw[shr,shr,zc8,zc8];by_cases h:(kI xs 201).getD (c-1) 0=(kI ys 201).getD (c-1) 0
 ·rw[h,decide_eq_decide.2 (eq_comm)]
 ·have h':¬(kI ys 201).getD (c-1) 0=(kI xs 201).getD (c-1) 0:=fun e=>h e.symm;simp only[bne_iff_ne.2 h,bne_iff_ne.2 h',Bool.true_or,Bool.and_true];rw[decide_eq_decide.2 (eq_comm)]
def zf3(xs ys:List Int)(c:Nat):Int:=zaB (jN xs c) (jN ys c) c
def zcx(f:List V->List V->Int->Int)(q:List V->List V->Int->Prop):zN:=fun
 |[.agg [.slc false 2 (.int .i64 0) a0],.agg [.slc false 2 (.int .i64 0) a1],.int .i64 a2]=>some ([q a0 a1 a2],.int .i64 (f a0 a1 a2))
 |_=>none
def Yq(a b:List V)(c:Int):Int:=zf3 (qj a) (qj b) c.toNat
def zap(a b:List V)(c:Int):Prop:=ur a/\ur b/\1<=c/\c<=1000000
theorem zdt:yI Tryz.prog 96 (zcx Yq zap):=by
 intro args ps r h hp;unfold zcx at h;split at h
 ·rename_i a0 a1 a2;cases h;obtain⟨hq,hq1,c1,c2⟩:zap a0 a1 a2:=(zm.1 hp).1;have hqb:=hq;have hqb1:=hq1;obtain⟨xs,hxs,hb⟩:=hq;obtain⟨ys,hys,hb1⟩:=hq1;have g1:V.frzs a0=a0:=by rw[hxs,zD]
  have g2:V.frzs a1=a1:=by rw[hys,zD]
  obtain⟨vx,hvx⟩:∃vx,vx=I (jN xs a2.toNat):=⟨_,rfl⟩;obtain⟨vy,hvy⟩:∃vy,vy=I (jN ys a2.toNat):=⟨_,rfl⟩;have e1:kH a0 a2=vx:=by rw[kH,hxs,zr,hvx]
  have e2:kH a1 a2=vy:=by rw[kH,hys,zr,hvy]
  have e4:Yq a0 a1 a2=zbS vx vy:=by rw[Yq,hxs,hys,zr,zr,zbS,hvx,hvy,zr,zr,zj,Zc,zf3]
  have hqd:zgV vx vy:=⟨⟨_,hvx⟩,⟨_,hvy⟩,by rw[hvx,hvy,zj,zj,Zc,Zc];omega⟩;have fx:V.frzs vx=vx:=by rw[hvx,zD]
  have fy:V.frzs vy=vy:=by rw[hvy,zD]
  have nx:V.noFzs vx=true:=by rw[hvx];exact nf _
  have ny:V.noFzs vy=true:=by rw[hvy];exact nf _
  generalize kB:kH=ZL;generalize qQ:ZT=uT;generalize zd6:zbS=zqL;generalize zdY:zgV=zqG;refine zC (T:=tab) (B:=[(73,zkB ZL uT),(122,zdP zqL zqG)]) (Bi:=[]) [0,1,2,3,4,6] Tryz.func96 rfl rfl (by kernel_rfl) (ze rfl) mixed zP (by subst kB qQ zd6 zdY;exact(zn zdx (zn zrF zA))) (by subst kB qQ zd6 zdY;exact zx) (by kernel_rfl) ?_;intro L lp rr hL hr hf hlp
  conv=>cbv
  subst kB qQ zd6 zdY;simp only[zo hL,sQ,g1,g2,e1,e2,fx,fy];rw[hr,e4]
  (repeat' first|(exact yr _)|(exact je rfl)|(exact yV _)|(apply And.intro)|(intro _))<;>(try first|exact True.intro|omega|rfl|(simp only[zi,zq,zj];omega))
  all_goals first|exact hqb|exact hqb1|exact hqd.1|exact hqd.2.1|exact hqd.2.2|exact nx|exact ny
 ·cases h
theorem zhO:yI Tryz.prog 102 (zcx Yq zap):=by
 intro args ps r h hp;unfold zcx at h;split at h
 ·rename_i a0 a1 a2;cases h;obtain⟨hq,hq1,c1,c2⟩:zap a0 a1 a2:=(zm.1 hp).1;have hqb:=hq;have hqb1:=hq1;obtain⟨xs,hxs,hb⟩:=hq;obtain⟨ys,hys,hb1⟩:=hq1;have g1:V.frzs a0=a0:=by rw[hxs,zD]
  have g2:V.frzs a1=a1:=by rw[hys,zD]
  obtain⟨vx,hvx⟩:∃vx,vx=I (jN xs a2.toNat):=⟨_,rfl⟩;obtain⟨vy,hvy⟩:∃vy,vy=I (jN ys a2.toNat):=⟨_,rfl⟩;have e1:kH a0 a2=vx:=by rw[kH,hxs,zr,hvx]
  have e2:kH a1 a2=vy:=by rw[kH,hys,zr,hvy]
  have e4:Yq a0 a1 a2=zbS vx vy:=by rw[Yq,hxs,hys,zr,zr,zbS,hvx,hvy,zr,zr,zj,Zc,zf3]
  have hqd:zgV vx vy:=⟨⟨_,hvx⟩,⟨_,hvy⟩,by rw[hvx,hvy,zj,zj,Zc,Zc];omega⟩;have fx:V.frzs vx=vx:=by rw[hvx,zD]
  have fy:V.frzs vy=vy:=by rw[hvy,zD]
  have nx:V.noFzs vx=true:=by rw[hvx];exact nf _
  have ny:V.noFzs vy=true:=by rw[hvy];exact nf _
  generalize kB:kH=ZL;generalize qQ:ZT=uT;generalize zd6:zbS=zqL;generalize zdY:zgV=zqG;refine zC (T:=tab) (B:=[(84,zbF ZL uT),(128,zdP zqL zqG)]) (Bi:=[]) [0,1,2,3,4,6] Tryz.func102 rfl rfl (by kernel_rfl) (ze rfl) mixed zP (by subst kB qQ zd6 zdY;exact(zn zew (zn zlO zA))) (by subst kB qQ zd6 zdY;exact zx) (by kernel_rfl) ?_;intro L lp rr hL hr hf hlp
  conv=>cbv
  subst kB qQ zd6 zdY;simp only[zo hL,sQ,g1,g2,e1,e2,fx,fy];rw[hr,e4]
  (repeat' first|(exact yr _)|(exact je rfl)|(exact yV _)|(apply And.intro)|(intro _))<;>(try first|exact True.intro|omega|rfl|(simp only[zi,zq,zj];omega))
  all_goals first|exact hqb|exact hqb1|exact hqd.1|exact hqd.2.1|exact hqd.2.2|exact nx|exact ny
 ·cases h
def zp2(f:List V->List V->Int->Bool)(q:List V->List V->Int->Prop):zN:=fun
 |[.agg [.slc false 2 (.int .i64 0) a0],.agg [.slc false 2 (.int .i64 0) a1],.int .i64 a2]=>some ([q a0 a1 a2],.bool (f a0 a1 a2))
 |_=>none
def zoA(a b:List V)(c:Int):Bool:=shr (qj a) (qj b) c.toNat
def zxp(a b:List V)(c:Int):Prop:=ur a/\ur b/\1<=c/\c<=200
theorem zpe:yI Tryz.prog 83 (zp2 zoA zxp):=by
 intro args ps r h hp;unfold zp2 at h;split at h
 ·rename_i a0 a1 a2;cases h;obtain⟨hq,hq1,c1,c2⟩:zxp a0 a1 a2:=(zm.1 hp).1;have hqb:=hq;have hqb1:=hq1;obtain⟨xs,hxs,hb⟩:=hq;obtain⟨ys,hys,hb1⟩:=hq1;have g1:V.frzs a0=a0:=by rw[hxs,zD]
  have g2:V.frzs a1=a1:=by rw[hys,zD]
  obtain⟨k,hk⟩:∃k:Nat,k=(a2+1).toNat:=⟨_,rfl⟩;obtain⟨X,hX⟩:∃X,X=kI xs k:=⟨_,rfl⟩;obtain⟨Y,hY⟩:∃Y,Y=kI ys k:=⟨_,rfl⟩;obtain⟨vx,hvx⟩:∃vx,vx=I X:=⟨_,rfl⟩;obtain⟨vy,hvy⟩:∃vy,vy=I Y:=⟨_,rfl⟩;have e1:zct a0 (a2+1)=vx:=by rw[zct,hxs,zr,hvx,hX,hk]
  have e2:zct a1 (a2+1)=vy:=by rw[zct,hys,zr,hvy,hY,hk]
  have e4:zoA a0 a1 a2=zc8 X Y a2.toNat:=by rw[zoA,hxs,hys,zr,zr,hX,hY,zCY xs ys (by omega) (by omega) (by omega)]
  have xl:vx.length=k-1:=by rw[hvx,zj,hX,zg4]
  have yl:vy.length=k-1:=by rw[hvy,zj,hY,zg4]
  have gx:∀t,vx.getD t (.int .i64 0)=.int .i64 (X.getD t 0):=fun t=>by rw[hvx,zO]
  have gy:∀t,vy.getD t (.int .i64 0)=.int .i64 (Y.getD t 0):=fun t=>by rw[hvy,zO]
  have w0:IntKind.wrap .i64 (a2-1)=a2-1:=zk (by omega) (by omega);have w1:IntKind.wrap .i64 (a2+1)=a2+1:=zk (by omega) (by omega);generalize zhg:zct=zk0;generalize qQ:ZT=uT;generalize Zi:YH=zaW;generalize Qq:zj6=zeM;refine zC (T:=tab) (B:=[(85,zbF zk0 uT),(119,YI zaW zeM)]) (Bi:=[]) [1000002007,1000002008,0,1,2,3,4,6,7,8] Tryz.func83 rfl rfl (by kernel_rfl) (ze rfl) mixed zP (by subst zhg qQ Zi Qq;exact(zn zpk (zn zhQ zA))) (by subst zhg qQ Zi Qq;exact zx) (by kernel_rfl) ?_;intro L lp rr hL hr hf hlp
  conv=>cbv
  have F1:zk0 a0 (a2+1)=vx:=by rw[<-zhg,e1]
  have F2:zk0 a1 (a2+1)=vy:=by rw[<-zhg,e2]
  have fx:V.frzs vx=vx:=by rw[hvx,zD]
  have fy:V.frzs vy=vy:=by rw[hvy,zD]
  simp only[zo hL,sQ,g1,g2,w0,w1,F1,F2,fx,fy,xl,yl,gx,gy,List.drop_zero];subst Zi Qq qQ;have e1:V.frzs (vx.take (a2-1).toNat)=I (X.take (a2-1).toNat):=by rw[hvx,zbK,zD]
  have e2:V.frzs (vy.take (a2-1).toNat)=I (Y.take (a2-1).toNat):=by rw[hvy,zbK,zD]
  rw[e1,e2,hr,e4];refine⟨⟨hqb,by omega,by omega⟩,⟨hqb1,by omega,by omega⟩,by omega,by omega,by omega,by omega,by omega,by omega,⟨⟨_,rfl⟩,⟨_,rfl⟩⟩,fun h=>?_,fun h=>?_⟩
  ·rw[YH,zr,zr,show(a2-1).toNat=a2.toNat-1 by omega]at h;rw[zc8,h];rfl
  ·rw[YH,zr,zr,show(a2-1).toNat=a2.toNat-1 by omega]at h;rw[zc8,h,show(a2-1).toNat=a2.toNat-1 by omega];refine⟨by omega,by omega,by omega,by omega,fun _=>by omega,fun _=>by omega,fun _=>trivial,?_⟩;rfl
 ·cases h
end Go.Ax
