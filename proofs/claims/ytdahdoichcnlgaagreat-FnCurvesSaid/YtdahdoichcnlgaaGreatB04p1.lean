import Derived.Test.YtdahdoichcnlgaaGreatB03p1
import Derived.Test.YtdahdoichcnlgaaGreatB01p1
import Derived.Test.YtdahdoichcnlgaaGreatB02p1
set_option linter.all false
set_option maxRecDepth 100000
set_option maxHeartbeats 1000000
open Bool renaming and_eq_false_iff->jS
open List renaming cons_append->zV,ext_getElem?->yC,getD_eq_getElem?_getD->zd,getElem?_eq_getElem->zg,getElem?_eq_none->zD,length_cons->zi,length_nil->zp,mem_cons->zC,mem_singleton->ya,nil_append->yV,nodup_nil->zg8,not_mem_nil->kV
open Nat renaming le_of_ble_eq_true->ze
open Option.some renaming injEq->za
open Prod.mk renaming injEq->zb
/-
 Proximity and intersection matrices of clusters,both sides. No conditions but those of the contracts.
-/
namespace Go.Ax
open Go.Proofs
theorem ifc{a b:Prop}[Decidable a][Decidable b](h:a↔b){x y:Int}:(if a then x else y)=if b then x else y:=by
 by_cases ha:a
 ·rw[if_pos ha,if_pos (h.1 ha)]
 ·rw[if_neg ha,if_neg (fun hb=>ha (h.2 hb))]
theorem ClP.low{P S Q:List Int}(h:ClP P S Q){i:Nat}(hi:i<P.length): -1<=P.getD i 0/\P.getD i 0<i/\-1<=S.getD i 0/\(0<i->S.getD i 0<i)/\(0<i->0<=P.getD i 0)/\(i=0->P.getD i 0= -1/\S.getD i 0= -1):=by
 obtain⟨h1,h2,h3,h4⟩:=zpV (i:=i) (fun t ht=>h.place t (by omega)) i (Nat.le_refl _);refine⟨h1,h2,h3,h4,fun h0=>?_,fun h0=>?_⟩
 ·exact((zcu (by omega)).1 (h.place i hi)).1.1
 ·subst h0;exact zcv.1 (h.place 0 hi)
def Qd(a b c:List V):Prop:=Qc a b c/\ClP (yO a) (yO b) (yO c)
theorem zjK{a b c:List V}(h:Qc a b c)(h2:qH a b c=true):Qd a b c:=⟨h,KO.1 h2⟩
def Js(P S:List Int)(i:Nat):List Int:=if i=0 then[]else(if 0<=S.getD i 0 then[S.getD i 0]else[])++[P.getD i 0]
def QT(P S:List Int)(k n:Nat):List (List Int):=yI (fun i=>if i<k then Js P S i else[]) n
def zj7(f:List V->List V->List V->List V)(q:List V->List V->List V->Prop):zK:=fun
 |[.agg [.slc false 2 (.int .i64 0) a0,.slc false 2 (.int .i64 0) a1,.slc false 2 (.int .i64 0) a2]]=>some ([q a0 a1 a2],.slc true 29 (.slc true 2 (.int .i64 0) []) (f a0 a1 a2))
 |_=>none
def zni(a b _:List V):List V:=II true (QT (yO a) (yO b) a.length a.length)
theorem zz8{P S:List Int}{k n:Nat}(hk:k<n)(h0:k≠0):(QT P S k n).set k ((if 0<=S.getD k 0 then[S.getD k 0]else[])++[P.getD k 0])=QT P S (k+1) n:=by
 rw[QT,zhh _ _ hk,QT];refine jd fun j hj=>?_;by_cases h:j=k
 ·subst h;rw[if_pos rfl,if_pos (show j<j+1 by omega),Js,if_neg h0]
 ·rw[if_neg h];by_cases h2:j<k
  ·rw[if_pos h2,if_pos (by omega)]
  ·rw[if_neg h2,if_neg (by omega)]
theorem zCV{P S:List Int}{k n:Nat}(hk:k<n):(QT P S k n).getD k []=[]:=by rw[QT,jx _ _ _ _ hk,if_neg (Nat.lt_irrefl _)]
theorem zeB:yJ Tryz.prog 94 (zj7 zni Qd):=by
 intro args ps r h hp;unfold zj7 at h;split at h
 ·rename_i a0 a1 a2;simp only[za,zb]at h;obtain⟨rfl,rfl⟩:=h;have hqv:Qd a0 a1 a2:=(zm.1 hp).1;obtain⟨⟨⟨P,hP⟩,⟨S,hS⟩,⟨Q,hQ⟩⟩,hcl⟩:=id hqv;rw[hP,hS,hQ,zr,zr,zr]at hcl;have g0:V.frzs a0=a0:=by rw[hP,zA]
  have g1:V.frzs a1=a1:=by rw[hS,zA]
  have g2:V.frzs a2=a2:=by rw[hQ,zA]
  have hpl:a0.length=P.length:=by rw[hP,zj]
  have hsl:a1.length=P.length:=by rw[hS,zj,hcl.sl]
  have hql:a2.length=P.length:=by rw[hQ,zj,hcl.ql]
  have gp:∀k,a0.getD k (.int .i64 0)=.int .i64 (P.getD k 0):=fun k=>by rw[hP,zE]
  have gs:∀k,a1.getD k (.int .i64 0)=.int .i64 (S.getD k 0):=fun k=>by rw[hS,zE]
  have gq:∀k,a2.getD k (.int .i64 0)=.int .i64 (Q.getD k 0):=fun k=>by rw[hQ,zE]
  obtain⟨n,hn⟩:∃n:Int,n=P.length:=⟨_,rfl⟩;have n1:=hcl.n1;have n24:=hcl.n24;have low:=fun t ht=>hcl.low (i:=t) ht;have hf0:zni a0 a1 a2=II true (QT P S P.length P.length):=by rw[zni,hpl,hP,hS,zr,zr]
  refine zI (T:=tab) (B:=[]) (Bi:=[]) [3000006000,3000006001,3000007000,3000007001,0,1,2,3,4] Tryz.func94 rfl rfl (by kernel_rfl) (ze rfl) mixed zR (by exact zB) (by exact zy) (by kernel_rfl) ?_;intro L lp rr hL hr hf hlp
  conv=>cbv
  simp only[zo hL,sQ,hpl,<-hn];obtain⟨s0,hs0⟩:∃s0,s0=List.replicate n.toNat (V.slc true 2 (V.int IntKind.i64 0) []):=⟨_,rfl⟩
  have hs00:s0=II true (QT P S 1 P.length):=by
   have e:QT P S 1 P.length=List.replicate P.length []:=by
    rw[List.eq_replicate_iff];refine⟨yo _ _,fun b hb=>?_⟩;simp only[QT,yI,List.mem_map,List.mem_range]at hb;obtain⟨x,hx,rfl⟩:=hb;by_cases h:x<1
    ·rw[if_pos h,Js,if_pos (by omega)]
    ·rw[if_neg h]
   rw[hs0,e,zjt,hn,Int.toNat_natCast];rfl
  rw[<-hs0];refine⟨by omega,by omega,by omega,?_⟩
  refine hlp (List V×Int) _ _ _ [1,3,4] (fun x=>[(1,none,.val (.box 31 (.agg [.slc false 2 (.int .i64 0) a0,.slc false 2 (.int .i64 0) a1,.slc false 2 (.int .i64 0) a2]))),(3,none,.val (.slc true 29 (.slc true 2 (.int .i64 0) []) x.1)),(4,none,.val (.int .i64 x.2))])
   (fun x=>1<=x.2/\x.2<=n/\x.1=II true (QT P S x.2.toNat P.length)) (fun x=>(n-x.2).toNat) ((s0,1)) (by subst hL;rfl) ?_ ?_
  ·exact⟨by simp,by simp only;omega,hs00⟩
  rintro⟨ls,i⟩ ⟨i0,i1,hI⟩ hfx ag hag;simp only at i0 i1 hI;have hll:ls.length=P.length:=by rw[hI,yf,QT,yo]
  have gls:∀j,ls.getD j (.slc true 2 (.int .i64 0) [])=.slc true 2 (.int .i64 0) (I ((QT P S i.toNat P.length).getD j [])):=fun j=>by rw[hI,qM]
  conv=>cbv
  simp only[zo hL,sQ,hll,gls,gp,gs,hpl,hsl,<-hn];refine⟨fun h2=>?_,fun h2=>?_⟩
  ·have i0':0<=i:=(by omega);obtain⟨k,hk⟩:∃k,k=i.toNat:=⟨_,rfl⟩;have hkn:k<P.length:=(by omega);have hst:=zz8 (P:=P) (S:=S) hkn (by omega);have hat:=zCV (P:=P) (S:=S) hkn;have hs1:∀x,(ls.set k x).getD k (.slc true 2 (.int .i64 0) [])=x:=fun x=>(by rw[zza (by omega),if_pos rfl]);have snoc:∀(xs:List Int) (x:Int),I xs++[V.int .i64 x]=I (xs++[x]):=fun xs x=>(by simp[I]);have hole1:OkS tab 29 (V.hole 1):=.inr ⟨_,rfl,rfl,rfl⟩
   have sol:∀n:Int,∀x:V,x∈[V.int .i64 n]->x.solid=true:=fun n x hx=>by
    simp only[ya]at hx;subst hx;rfl
   rw[<-hk]at hI;simp only[<-hk,hat,List.set_set,List.length_set,hs1,snoc,zoj,zcp,zj,hll,true_and];rw[zl (n:=i+1) (by omega) (by omega)];have q1:∀v:V,(([]:List Int).length:Int)+([v].length:Int)<=2147483647:=fun v=>(by simp only[zi,zp];omega);have q2:∀(x:Int) (v:V),(([]++[x]:List Int).length:Int)+([v].length:Int)<=2147483647:=fun x v=>(by simp only[yV,zi,zp];omega);have hip:i<(P.length:Int):=by omega
   have fin:∀l:List Int,l=(if 0<=S.getD k 0 then[S.getD k 0]else[])++[P.getD k 0]->(1<=i+1/\i+1<=n/\ls.set k (.slc true 2 (.int .i64 0) (I l))=II true (QT P S (i+1).toNat P.length)):=fun l hl=>by
    rw[zF i0',<-hk,hI,znH,hl,hst];exact⟨by omega,by omega,rfl⟩
   refine⟨i0',h2,fun h3=>?_,fun h3=>?_⟩
   ·exact⟨i0',h2,hkn,i0',h2,hkn,rfl,q1 _,sol _,i0',hip,hkn,hole1,i0',hip,hkn,i0',h2,hkn,rfl,q2 _ _,sol _,i0',hip,hkn,hole1,hag (_,i+1) (fin _ (by rw[if_pos h3];rfl)) (by simp only;omega)⟩
   ·exact⟨i0',h2,hkn,i0',h2,hkn,rfl,q1 _,sol _,i0',hip,hkn,hole1,hag (_,i+1) (fin _ (by rw[if_neg h3])) (by simp only;omega)⟩
  ·rw[hr,hf0,hI,show i.toNat=P.length by omega]
 ·cases h
theorem zp1{P S Q:List Int}(h:ClP P S Q){k b:Nat}(hk:k<P.length):(b:Int)∈Js P S k↔P.getD k 0=b\/S.getD k 0=b:=by
 obtain⟨l1,l2,l3,l4,l5,l6⟩:=h.low hk;rw[Js];by_cases h0:k=0
 ·rw[if_pos h0];obtain⟨h1,h2⟩:=l6 h0;simp only[kV,false_iff];omega
 ·rw[if_neg h0];by_cases h1:0<=S.getD k 0
  ·rw[if_pos h1];simp only[zV,yV,zC,kV,or_false];omega
  ·rw[if_neg h1];simp only[yV,zC,kV,or_false];omega
theorem zzu{P S Q:List Int}(h:ClP P S Q){k:Nat}(hk:k<P.length){x:Int}(hx:x∈Js P S k):0<=x/\x<k:=by
 obtain⟨l1,l2,l3,l4,l5,l6⟩:=h.low hk;rw[Js]at hx;by_cases h0:k=0
 ·rw[if_pos h0]at hx;simp at hx
 ·rw[if_neg h0]at hx;have h4:=l4 (by omega);have h5:=l5 (by omega);by_cases h1:0<=S.getD k 0
  ·rw[if_pos h1]at hx;simp only[zV,yV,zC,kV,or_false]at hx;omega
  ·rw[if_neg h1]at hx;simp only[yV,zC,kV,or_false]at hx;omega
theorem zxN(P S:List Int)(k:Nat):(Js P S k).length<=2:=by
 rw[Js];split
 ·simp
 ·split<;>simp
def mt(p:Nat->Nat->Int)(i k:Nat):Nat->Int
 |0=>0
 |j+1=>W (mt p i k j-W (p j i*p j k))
def exc(p:Nat->Nat->Int)(n i k:Nat):Int:=mt p i k n
end Go.Ax
namespace Go.Ax
open Go.Proofs
end Go.Ax
namespace Go.Ax
open Go.Proofs
end Go.Ax
namespace Go.Ax
open Go.Proofs
end Go.Ax
namespace Go.Ax
open Go.Proofs
structure GrN (n:Nat) (es:List (List Int)):Prop where
 n1:1<=n
 n2:n<=40
 el:es.length<=400
 eok:zqT n none es=true
 ed:∀e∈es,zDh n e
 lt:∀e∈es,e0 e<e1 e
end Go.Ax
namespace Go.Ax
open Go.Proofs
end Go.Ax
namespace Go.Ax
open Go.Proofs
def ztb(f:List V->List V->List V->Int->Int)(q:List V->List V->List V->Int->Prop):zK:=fun
 |[.agg [.slc false 2 (.int .i64 0) a0,.slc false 2 (.int .i64 0) a1,.slc false 2 (.int .i64 0) a2],.int .i64 a3]=>some ([q a0 a1 a2 a3],.int .i64 (f a0 a1 a2 a3))
 |_=>none
end Go.Ax
namespace Go.Ax
open Go.Proofs
end Go.Ax
namespace Go.Ax
open Go.Proofs
theorem zkG{P S Q:List Int}(h:ClP P S Q){k:Nat}(hk:k<P.length):(Js P S k).Nodup:=by
 obtain⟨l1,l2,l3,l4,l5,l6⟩:=h.low hk;rw[Js];by_cases h0:k=0
 ·rw[if_pos h0];exact zg8
 ·rw[if_neg h0];by_cases h1:0<=S.getD k 0
  ·rw[if_pos h1]
   have hne:S.getD k 0≠P.getD k 0:=by
    have h5:=l5 (by omega);obtain⟨_,h3⟩:=(zcu h0).1 (h.place k hk);obtain⟨m1,m2,m3,m4,m5,m6⟩:=h.low (i:=(P.getD k 0).toNat) (by omega);by_cases hz:(P.getD k 0).toNat=0
    ·have:=m6 hz;omega
    ·have:=m4 (by omega);omega
   simp only[zV,yV,List.nodup_cons,ya,kV,not_false_eq_true,zg8,and_true];exact hne
  ·rw[if_neg h1];simp
def ZC(pm:List (List Int))(w:List Int):Nat->Nat->Int
 |0,a=>w.getD a 0
 |j+1,a=>if(a:Int)∈pm.getD j []then W (ZC pm w j a-w.getD j 0)else ZC pm w j a
def exB(pm:List (List Int))(w:List Int)(j y:Nat)(a:Nat):Int:=if(a:Int)∈(pm.getD j []).take y then W (ZC pm w j a-w.getD j 0)else ZC pm w j a
def zs0(f:List V->List V->List V)(q:List V->List V->Prop):zK:=fun
 |[.slc false 29 (.slc false 2 (.int .i64 0) []) a0,.slc false 2 (.int .i64 0) a1]=>some ([q a0 a1],.slc true 2 (.int .i64 0) (f a0 a1))
 |_=>none
def zng(a b:List V):List V:=I (yI (ZC (qS a) (yO b) a.length) b.length)
def zwv(a b:List V):Prop:=∃P S Q,ClP P S Q/\a=II false (QT P S P.length P.length)/\b=I Q
theorem zkn:yJ Tryz.prog 93 (zs0 zng zwv):=by
 intro args ps r h hp;unfold zs0 at h;split at h
 ·rename_i a0 a1;simp only[za,zb]at h;obtain⟨rfl,rfl⟩:=h;obtain⟨P,S,Q,hcl,ha0,ha1⟩:zwv a0 a1:=(zm.1 hp).1;obtain⟨pm,hpm⟩:∃pm,pm=QT P S P.length P.length:=⟨_,rfl⟩;rw[<-hpm]at ha0;have hpml:pm.length=P.length:=by rw[hpm,QT,yo]
  have g0:V.frzs a0=a0:=by rw[ha0,ke]
  have g1:V.frzs a1=a1:=by rw[ha1,zA]
  have hl0:a0.length=P.length:=by rw[ha0,yf,hpml]
  have hl1:a1.length=P.length:=by rw[ha1,zj,hcl.ql]
  have gpm:∀k,a0.getD k (.slc false 2 (.int .i64 0) [])=.slc false 2 (.int .i64 0) (I (pm.getD k [])):=fun k=>by rw[ha0,qM]
  have gq:∀k,a1.getD k (.int .i64 0)=.int .i64 (Q.getD k 0):=fun k=>by rw[ha1,zE]
  have hf0:zng a0 a1=I (yI (ZC pm Q P.length) P.length):=by rw[zng,hl0,hl1,ha0,ha1,yq,zr]
  obtain⟨n,hn⟩:∃n:Int,n=P.length:=⟨_,rfl⟩;have n1:=hcl.n1;have n24:=hcl.n24;generalize kI:same=YD;generalize yP:ub=ki;refine zI (T:=tab) (B:=[(121,ui YD ki)]) (Bi:=[]) [0,1,4,5,6,7,9,12,13,14,19,20,21] Tryz.func93 rfl rfl (by kernel_rfl) (ze rfl) mixed zR (by subst kI yP;exact(zn zuW zB)) (by subst kI yP;exact zy) (by kernel_rfl) ?_;intro L lp rr hL hr hf hlp;have Es:YD a1=a1:=by rw[<-kI,same]
  conv=>cbv
  simp only[zo hL,sQ,g0,g1,hl0,hl1,<-hn,Es];refine⟨by rw[<-yP];exact⟨⟨_,ha1⟩,by omega⟩,?_⟩
  refine hlp (List V×Int) _ _ _ [1,5,12,13,14] (fun x=>[(1,none,.val (.slc false 2 (.int .i64 0) a1)),(5,none,.val (.slc true 2 (.int .i64 0) x.1)),(12,none,.val (.slc false 29 (.slc false 2 (.int .i64 0) []) a0)),(13,none,.val (.int .i64 n)),(14,none,.val (.int .i64 x.2))])
   (fun x=>0<=x.2/\x.2<=n/\x.1=I (yI (ZC pm Q x.2.toNat) P.length)) (fun x=>(n-x.2).toNat) ((a1,0)) (by subst hL;rw[hn,<-hl0];rfl) ?_ ?_
  ·refine⟨by simp,by simp only;omega,?_⟩;simp only;rw[ha1];congr 1;apply yC;intro j;by_cases hj:j<P.length
   ·rw[uz _ _ _ hj,zg (by have:=hcl.ql;omega)];simp[ZC,zd,zg (show j<Q.length by have:=hcl.ql;omega)]
   ·rw[zD (by have:=hcl.ql;omega),zD (by rw[yo];omega)]
  rintro⟨ls,j⟩ ⟨j0,j1,hJ⟩ hfx ag hag;simp only at j0 j1 hJ
  conv=>cbv
  simp only[zo hL,sQ,hl0,hl1,gpm];refine⟨fun h2=>?_,fun h2=>?_⟩
  ·obtain⟨jt,hjt⟩:∃jt,jt=j.toNat:=⟨_,rfl⟩;have hjn:jt<P.length:=(by omega);rw[<-hjt]at hJ;obtain⟨px,hpx⟩:∃px,px=pm.getD jt []:=⟨_,rfl⟩;have hpp:px=Js P S jt:=(by rw[hpx,hpm,QT,jx _ _ _ _ hjn,if_pos hjn]);have hpl2:px.length<=2:=(by rw[hpp];exact zxN _ _ _);obtain⟨m,hm⟩:∃m:Int,m=px.length:=⟨_,rfl⟩;obtain⟨vx,hvx⟩:∃vx,vx=I px:=⟨_,rfl⟩;have hvxl:vx.length=px.length:=(by rw[hvx,zj]);have gvx:∀k,vx.getD k (.int .i64 0)=.int .i64 (px.getD k 0):=fun k=>(by rw[hvx,zE]);simp only[<-hjt,<-hpx,<-hm,<-hvx];refine⟨j0,by omega,?_⟩
   refine hlp (List V×Int) _ _ _ [1,5,6,12,13,14,19,20,21] (fun x=>[(1,none,.val (.slc false 2 (.int .i64 0) a1)),(5,none,.val (.slc true 2 (.int .i64 0) x.1)),(6,none,.val (.int .i64 j)),(12,none,.val (.slc false 29 (.slc false 2 (.int .i64 0) []) a0)),(13,none,.val (.int .i64 n)),(14,none,.val (.int .i64 j)),(19,none,.val (.slc false 2 (.int .i64 0) vx)),(20,none,.val (.int .i64 m)),(21,none,.val (.int .i64 x.2))])
    (fun x=>0<=x.2/\x.2<=m/\x.1=I (yI (exB pm Q jt x.2.toNat) P.length)) (fun x=>(m-x.2).toNat) ((ls,0)) (by subst hL;rfl) ?_ ?_
   ·refine⟨by simp,by simp only;omega,?_⟩;simp only;rw[hJ];congr 1
   rintro⟨rs,y⟩ ⟨y0,y1,hY⟩ hfx2 ag2 hag2;simp only at y0 y1 hY;have hrl:rs.length=P.length:=(by rw[hY,zj,yo]);have grs:∀k,rs.getD k (.int .i64 0)=.int .i64 ((yI (exB pm Q jt y.toNat) P.length).getD k 0):=fun k=>by rw[hY,zE]
   conv=>cbv
   simp only[zo hL,sQ,hl0,hl1,hrl,grs,gq,<-hjt,hvxl,gvx];refine⟨fun h3=>?_,fun h3=>?_⟩
   ·have hyl:y.toNat<px.length:=(by omega);obtain⟨tt,htt⟩:∃tt,tt=px.getD y.toNat 0:=⟨_,rfl⟩;have hin:=zzu hcl hjn (x:=tt) (by rw[<-hpp,htt,zd,zg hyl];exact List.getElem_mem _);obtain⟨t,ht⟩:∃t,t=tt.toNat:=⟨_,rfl⟩
    have htk:px.take (y.toNat+1)=px.take y.toNat++[tt]:=by
     rw[List.take_succ,htt,zd,zg hyl];rfl
    have hnd:(px.take y.toNat++[tt]).Nodup:=by
     rw[<-htk,hpp];exact(zkG hcl hjn).sublist (List.take_sublist _ _)
    have hnot:tt∉px.take y.toNat:=fun hm'=>(List.nodup_append.1 hnd).2.2 tt hm' tt (by simp) rfl;have htn:t<P.length:=(by omega);have hct:(t:Int)=tt:=(by omega);simp only[<-htt,<-ht]
    have hgv:(yI (exB pm Q jt y.toNat) P.length).getD t 0=ZC pm Q jt t:=by
     rw[jx _ _ _ _ htn,exB,<-hpx,hct,if_neg hnot]
    rw[zl (n:=y+1) (by omega) (by omega),hgv];refine⟨y0,by omega,hin.1,by omega,htn,j0,by omega,hin.1,by omega,htn,?_⟩;refine hag2 (_,y+1) ⟨by simp only;omega,by simp only;omega,?_⟩ (by simp only;omega);simp only[zF y0];rw[hY,JB,zhh _ _ htn];congr 1;refine jd fun a ha=>?_;rw[exB,exB,<-hpx,htk];by_cases h5:a=t
    ·rw[if_pos h5,h5,hct,if_pos (by simp)]
    ·rw[if_neg h5];refine ifc ?_;simp only[List.mem_append,ya];constructor
     ·exact .inl
     ·rintro(h|h)
      ·exact h
      ·omega
   ·rw[zl (n:=j+1) (by omega) (by omega)];refine hag (rs,j+1) ⟨by simp only;omega,by simp only;omega,?_⟩ (by simp only;omega);simp only[zF j0];rw[hY,<-hjt];congr 1;refine jd fun a ha=>?_;rw[exB,<-hpx,List.take_of_length_le (by omega),ZC,hpx]
  ·rw[hr,hf0,hJ,show j.toNat=P.length by omega]
 ·cases h
def zqX(f:List V->List V->List V->List V)(q:List V->List V->List V->Prop):zK:=fun
 |[.agg [.slc false 2 (.int .i64 0) a0,.slc false 2 (.int .i64 0) a1,.slc false 2 (.int .i64 0) a2]]=>some ([q a0 a1 a2],.slc true 2 (.int .i64 0) (f a0 a1 a2))
 |_=>none
def exL(P S Q:List Int)(a:Nat):Int:=ZC (QT P S P.length P.length) Q P.length a
def zb5(a b c:List V):List V:=I (yI (exL (yO a) (yO b) (yO c)) a.length)
theorem zfN:yJ Tryz.prog 59 (zqX zb5 Qd):=by
 intro args ps r h hp;unfold zqX at h;split at h
 ·rename_i a0 a1 a2;simp only[za,zb]at h;obtain⟨rfl,rfl⟩:=h;have hqv:Qd a0 a1 a2:=(zm.1 hp).1;obtain⟨⟨⟨P,hP⟩,⟨S,hS⟩,⟨Q,hQ⟩⟩,hcl⟩:=id hqv;rw[hP,hS,hQ,zr,zr,zr]at hcl;have g0:V.frzs a0=a0:=by rw[hP,zA]
  have g1:V.frzs a1=a1:=by rw[hS,zA]
  have g2:V.frzs a2=a2:=by rw[hQ,zA]
  have hpl:a0.length=P.length:=by rw[hP,zj]
  have hsl:a1.length=P.length:=by rw[hS,zj,hcl.sl]
  have hql:a2.length=P.length:=by rw[hQ,zj,hcl.ql]
  have gp:∀k,a0.getD k (.int .i64 0)=.int .i64 (P.getD k 0):=fun k=>by rw[hP,zE]
  have gs:∀k,a1.getD k (.int .i64 0)=.int .i64 (S.getD k 0):=fun k=>by rw[hS,zE]
  have gq:∀k,a2.getD k (.int .i64 0)=.int .i64 (Q.getD k 0):=fun k=>by rw[hQ,zE]
  obtain⟨n,hn⟩:∃n:Int,n=P.length:=⟨_,rfl⟩;have n1:=hcl.n1;have n24:=hcl.n24;have low:=fun t ht=>hcl.low (i:=t) ht;have hf0:zb5 a0 a1 a2=I (yI (exL P S Q) P.length):=by rw[zb5,hpl,hP,hS,hQ,zr,zr,zr]
  generalize zpq:zni=zvY;generalize Zn:Qd=zak;generalize zpj:zng=zvV;generalize zoZ:zwv=zB4;refine zI (T:=tab) (B:=[(94,zj7 zvY zak),(93,zs0 zvV zB4)]) (Bi:=[]) [0,1,2] Tryz.func59 rfl rfl (by kernel_rfl) (ze rfl) mixed zR (by subst zpq Zn zpj zoZ;exact(zn zeB (zn zkn zB))) (by subst zpq Zn zpj zoZ;exact zy) (by kernel_rfl) ?_;intro L lp rr hL hr hf hlp;have Ep:zvY a0 a1 a2=II true (QT P S P.length P.length):=by rw[<-zpq,zni,hpl,hP,hS,zr,zr]
  have Ex:zvV (II false (QT P S P.length P.length)) a2=I (yI (exL P S Q) P.length):=by rw[<-zpj,zng,yf,QT,yo,hql,hQ,yq,zr];rfl
  conv=>cbv
  simp only[zo hL,sQ,g0,g1,g2,Ep,ke,Ex];refine⟨by rw[<-Zn];exact hqv,by rw[<-zoZ];exact⟨P,S,Q,hcl,rfl,hQ⟩,by simp,?_⟩;rw[hr,hf0]
 ·cases h
def zfa(f:List V->List V->List V->List V->List V)(q:List V->List V->List V->List V->Prop):zK:=fun
 |[.agg [.slc false 2 (.int .i64 0) a0,.slc false 2 (.int .i64 0) a1,.slc false 2 (.int .i64 0) a2],.slc false 2 (.int .i64 0) a3]=>some ([q a0 a1 a2 a3],.slc true 2 (.int .i64 0) (f a0 a1 a2 a3))
 |_=>none
def zb4(a b _ d:List V):List V:=I (yI (exL (yO a) (yO b) (yO d)) a.length)
def zqK(a b c d:List V):Prop:=Qd a b c/\d=c
theorem zez:yJ Tryz.prog 146 (zfa zb4 zqK):=by
 intro args ps r h hp;unfold zfa at h;split at h
 ·rename_i a0 a1 a2 a3;simp only[za,zb]at h;obtain⟨rfl,rfl⟩:=h;obtain⟨hqv,h3⟩:zqK a0 a1 a2 a3:=(zm.1 hp).1;subst h3;obtain⟨⟨⟨P,hP⟩,⟨S,hS⟩,⟨Q,hQ⟩⟩,hcl⟩:=id hqv;rw[hP,hS,hQ,zr,zr,zr]at hcl;have g0:V.frzs a0=a0:=by rw[hP,zA]
  have g1:V.frzs a1=a1:=by rw[hS,zA]
  have g2:V.frzs a3=a3:=by rw[hQ,zA]
  have hpl:a0.length=P.length:=by rw[hP,zj]
  have hsl:a1.length=P.length:=by rw[hS,zj,hcl.sl]
  have hql:a3.length=P.length:=by rw[hQ,zj,hcl.ql]
  have gp:∀k,a0.getD k (.int .i64 0)=.int .i64 (P.getD k 0):=fun k=>by rw[hP,zE]
  have gs:∀k,a1.getD k (.int .i64 0)=.int .i64 (S.getD k 0):=fun k=>by rw[hS,zE]
  have gq:∀k,a3.getD k (.int .i64 0)=.int .i64 (Q.getD k 0):=fun k=>by rw[hQ,zE]
  obtain⟨n,hn⟩:∃n:Int,n=P.length:=⟨_,rfl⟩;have n1:=hcl.n1;have n24:=hcl.n24;have low:=fun t ht=>hcl.low (i:=t) ht;obtain⟨pm,hpm⟩:∃pm,pm=QT P S P.length P.length:=⟨_,rfl⟩;have hf0:zb4 a0 a1 a3 a3=I (yI (ZC pm Q P.length) P.length):=by rw[zb4,hpl,hP,hS,hQ,zr,zr,zr,hpm];rfl
  have hmem:∀j a:Nat,j<P.length->((a:Int)∈pm.getD j []↔P.getD j 0=a\/S.getD j 0=a):=fun j a hj=>by
   rw[hpm,QT,jx _ _ _ _ hj,if_pos hj];exact zp1 hcl hj
  generalize kI:same=YD;generalize yP:ub=ki;refine zI (T:=tab) (B:=[(141,ui YD ki)]) (Bi:=[]) [0,1,2,4,5,6] Tryz.func146 rfl rfl (by kernel_rfl) (ze rfl) mixed zR (by subst kI yP;exact(zn zdB zB)) (by subst kI yP;exact zy) (by kernel_rfl) ?_;intro L lp rr hL hr hf hlp;have Es:YD a3=a3:=by rw[<-kI,same]
  conv=>cbv
  simp only[zo hL,sQ,g0,g1,g2,Es];refine⟨by rw[<-yP];exact⟨⟨_,hQ⟩,by omega⟩,?_⟩
  refine hlp (List V×Int) _ _ _ [1,2,5,6] (fun x=>[(1,none,.val (.slc false 2 (.int .i64 0) a3)),(2,none,.val (.box 31 (.agg [.slc false 2 (.int .i64 0) a0,.slc false 2 (.int .i64 0) a1,.slc false 2 (.int .i64 0) a3]))),(5,none,.val (.slc true 2 (.int .i64 0) x.1)),(6,none,.val (.int .i64 x.2))])
   (fun x=>1<=x.2/\x.2<=n/\x.1=I (yI (ZC pm Q x.2.toNat) P.length)) (fun x=>(n-x.2).toNat) ((a3,1)) (by subst hL;rfl) ?_ ?_
  ·refine⟨by simp,by simp only;omega,?_⟩;simp only;rw[hQ];congr 1;obtain⟨l1,l2,l3,l4,l5,l6⟩:=low 0 (by omega);apply yC;intro j;by_cases hj:j<P.length
   ·rw[uz _ _ _ hj,zg (by have:=hcl.ql;omega),show(1:Int).toNat=0+1 from rfl,ZC,if_neg (by rw[hmem 0 j (by omega)];have:=l6 rfl;omega)];simp[ZC,zd,zg (show j<Q.length by have:=hcl.ql;omega)]
   ·rw[zD (by have:=hcl.ql;omega),zD (by rw[yo];omega)]
  rintro⟨ls,j⟩ ⟨j0,j1,hJ⟩ hfx ag hag;simp only at j0 j1 hJ;have hll:ls.length=P.length:=by rw[hJ,zj,yo]
  have gls:∀k,ls.getD k (.int .i64 0)=.int .i64 ((yI (ZC pm Q j.toNat) P.length).getD k 0):=fun k=>by rw[hJ,zE]
  conv=>cbv
  simp only[zo hL,sQ,g0,g1,g2,hpl,hsl,hql,<-hn,gp,gs,gq,hll,gls];refine⟨fun h2=>?_,fun h2=>?_⟩
  ·obtain⟨jt,hjt⟩:∃jt,jt=j.toNat:=⟨_,rfl⟩;have hjn:jt<P.length:=(by omega);rw[<-hjt]at hJ;simp only[<-hjt];obtain⟨l1,l2,l3,l4,l5,l6⟩:=low jt hjn;have h5:=l5 (by omega);have h4:=l4 (by omega);have hm1:=fun a:Nat=>hmem jt a hjn;obtain⟨pp,hpp⟩:∃pp,pp=P.getD jt 0:=⟨_,rfl⟩;obtain⟨ss,hss⟩:∃ss,ss=S.getD jt 0:=⟨_,rfl⟩
   have hne:0<=ss->ss≠pp:=fun h0=>by
    have:=zkG hcl hjn;rw[Js,if_neg (by omega),<-hss,<-hpp,if_pos h0]at this;simp only[zV,yV,List.nodup_cons,ya,kV,not_false_eq_true,zg8,and_true]at this;exact this
   simp only[<-hpp,<-hss]at l1 l2 l3 h4 h5 hm1 ⊢;obtain⟨p,hp9⟩:∃p,p=pp.toNat:=⟨_,rfl⟩;obtain⟨s,hs9⟩:∃s,s=ss.toNat:=⟨_,rfl⟩;have hpn:p<P.length:=(by omega);have hpc:(p:Int)=pp:=(by omega);simp only[<-hp9,<-hs9];have hgv:(yI (ZC pm Q jt) P.length).getD p 0=ZC pm Q jt p:=jx _ _ _ _ hpn;rw[hgv];obtain⟨l2',hl2'⟩:∃l2',l2'=ls.set p (.int .i64 (IntKind.wrap .i64 (ZC pm Q jt p-Q.getD jt 0))):=⟨_,rfl⟩;have hl2e:l2'=I (yI (fun a=>if a=p then W (ZC pm Q jt p-Q.getD jt 0)else ZC pm Q jt a) P.length):=(by rw[hl2',hJ,JB,zhh _ _ hpn]);have hl2l:l2'.length=P.length:=(by rw[hl2e,zj,yo]);have gl2:∀k,l2'.getD k (.int .i64 0)=.int .i64 ((yI (fun a=>if a=p then W (ZC pm Q jt p-Q.getD jt 0)else ZC pm Q jt a) P.length).getD k 0):=fun k=>(by rw[hl2e,zE]);rw[<-hl2'];simp only[gl2,hl2l,Zb,kS];have hwj:IntKind.wrap .i64 (j+1)=j+1:=zl (by omega) (by omega);rw[hwj];have j0':0<=j:=(by omega);have hpn2:pp<n:=(by omega);refine⟨j0',h2,j0',h2,h5,hpn2,hpn,j0',h2,h5,hpn2,hpn,j0',h2,fun h6=>?_,fun h6=>?_⟩
   ·have hsn:s<P.length:=(by omega);have hsc:(s:Int)=ss:=(by omega);have hsp:s≠p:=(by have:=hne h6;omega);have hgs:(yI (fun a=>if a=p then W (ZC pm Q jt p-Q.getD jt 0)else ZC pm Q jt a) P.length).getD s 0=ZC pm Q jt s:=(by rw[jx _ _ _ _ hsn,if_neg hsp]);rw[hgs];refine⟨j0',h2,j0',h2,h6,by omega,hsn,trivial,j0',h2,h6,by omega,hsn,trivial,?_⟩;refine hag (_,j+1) ⟨by simp only;omega,by simp only;omega,?_⟩ (by simp only;omega);simp only[zF j0'];rw[<-hjt,hl2e,JB,zhh _ _ hsn];congr 1;refine jd fun a ha=>?_;rw[ZC];by_cases h8:a=s
    ·rw[if_pos h8,if_pos ((hm1 a).2 (.inr (by omega))),h8]
    ·rw[if_neg h8];by_cases h7:a=p
     ·rw[if_pos h7,if_pos ((hm1 a).2 (.inl (by omega))),h7]
     ·rw[if_neg h7,if_neg (fun h=>by rcases (hm1 a).1 h with h|h<;>omega)]
   ·refine hag (l2',j+1) ⟨by simp only;omega,by simp only;omega,?_⟩ (by simp only;omega);simp only[zF j0'];rw[<-hjt,hl2e];congr 1;refine jd fun a ha=>?_;rw[ZC];by_cases h7:a=p
    ·rw[if_pos h7,if_pos ((hm1 a).2 (.inl (by omega))),h7]
    ·rw[if_neg h7,if_neg (fun h=>by rcases (hm1 a).1 h with h|h<;>omega)]
  ·rw[hr,hf0,hJ,show j.toNat=P.length by omega]
 ·cases h
end Go.Ax
namespace Go.Ax
open Go.Proofs
def zxk(es:List V):Prop:=∃xss,es=BB false xss/\xss.length<=2147483647/\∀xs∈xss,xs.length<=2147483647
theorem zxk.isBB{es:List V}(h:zxk es):zC8 false es:=by
 obtain⟨x,h,_⟩:=h;exact⟨x,h⟩
end Go.Ax
namespace Go.Ax
open Go.Proofs
def mm(ms:List (List Int))(i k:Nat):Int:=(ms.getD i []).getD k 0
def zAC(i k:Nat)(c:Int):Prop:=(i=k->c=0)/\(i≠k->1<=c/\c<=200)
def zAo(ms:List (List Int))(n i:Nat):Prop:=(ms.getD i []).length=n/\∀k,k<n->zAC i k (mm ms i k)
def zC5(ms:List (List Int))(n i:Nat):Prop:=∀k,k<n->mm ms k i=mm ms i k
structure TabP (ms:List (List Int)) (n:Nat):Prop where
 len:ms.length=n
 row:∀i,i<n->zAo ms n i
 sym:∀i,i<n->zC5 ms n i
noncomputable def zdn(es:List V)(n:Int):Bool:= @decide (TabP (qS es) n.toNat) (Classical.propDecidable _)
def zmG(es:List V)(n:Int):Prop:=zAq false es/\0<=n/\n<=2147483647
theorem zz3{p:Prop}(h:p): @decide p (Classical.propDecidable _)=true:= @decide_eq_true p (Classical.propDecidable _) h
theorem zf3{p:Prop}(h:¬p): @decide p (Classical.propDecidable _)=false:= @decide_eq_false p (Classical.propDecidable _) h
def zs1(f:List V->Int->Bool)(q:List V->Int->Prop):zK:=fun
 |[.slc false 29 (.slc false 2 (.int .i64 0) []) a0,.int .i64 a1]=>some ([q a0 a1],.bool (f a0 a1))
 |_=>none
theorem zn6:yJ Tryz.prog 48 (zs1 zdn zmG):=by
 intro args ps r h hp;unfold zs1 at h;split at h
 ·rename_i a0 a1;simp only[za,zb]at h;obtain⟨rfl,rfl⟩:=h;obtain⟨⟨ms,hms⟩,n0,n1⟩:zmG a0 a1:=(zm.1 hp).1;obtain⟨n,hn⟩:∃n:Nat,(n:Int)=a1:=⟨a1.toNat,by omega⟩;have hn':a1.toNat=n:=by omega
  have hml:a0.length=ms.length:=by rw[hms,yf]
  have gm:∀k,a0.getD k (.slc false 2 (.int .i64 0) [])=.slc false 2 (.int .i64 0) (I (ms.getD k [])):=fun k=>by rw[hms,qM]
  have hT:TabP ms n->zdn a0 a1=true:=fun h=>by rw[zdn,hms,yq,hn'];exact zz3 h
  have hF:¬TabP ms n->zdn a0 a1=false:=fun h=>by rw[zdn,hms,yq,hn'];exact zf3 h
  generalize yp:yi=qP;refine zI (T:=tab) (B:=[(88,qW qP)]) (Bi:=[]) [0,1,4,5,6,7,8,9,10,11,12,17,18,19,28,29,30,54,55,56,61,62,63] Tryz.func48 rfl rfl (by kernel_rfl) (ze rfl) mixed zR (by subst yp;exact(zn JF zB)) (by subst yp;exact zy) (by kernel_rfl) ?_;intro L lp rr hL hr hf hlp;have hle:=hf.1.1
  conv=>cbv
  simp only[zo hL,sQ,hml];refine⟨fun h=>?_,fun h=>?_⟩
  ·rw[hr,hF];intro ht;have:=ht.len;omega
  have hmn:ms.length=n:=by omega
  refine hlp (Int) _ _ _ [0,1,17,18,19] (fun x=>[(0,none,.val (.slc false 29 (.slc false 2 (.int .i64 0) []) a0)),(1,none,.val (.int .i64 a1)),(17,none,.val (.slc false 29 (.slc false 2 (.int .i64 0) []) a0)),(18,none,.val (.int .i64 a1)),(19,none,.val (.int .i64 x))])
   (fun x=>0<=x/\x<=a1/\∀t:Nat,t<x.toNat->zAo ms n t) (fun x=>(a1-x).toNat) (0) (by subst hL;rw[h];rfl) ?_ ?_
  ·exact⟨by omega,by omega,fun t ht=>by simp at ht⟩
  rintro i ⟨i0,i1,hI⟩ hfx ag hag
  conv=>cbv
  simp only[zo hL,sQ,hml,gm];refine⟨fun h2=>?_,fun h2=>?_⟩
  ·obtain⟨r,hR⟩:∃r,r=ms.getD i.toNat []:=⟨_,rfl⟩;rw[<-hR];refine⟨i0,by omega,fun h3=>?_,fun h3=>?_⟩
   ·rw[hr,hF];intro ht;have:=(ht.row i.toNat (by omega)).1;rw[<-hR]at this;omega
   have hrl:r.length=n:=(by omega);obtain⟨vr,hvr⟩:∃vr,vr=I r:=⟨_,rfl⟩;have vrl:vr.length=n:=(by rw[hvr,zj,hrl]);have gr:∀t,vr.getD t (.int .i64 0)=.int .i64 (r.getD t 0):=fun t=>(by rw[hvr,zE]);rw[<-hvr]
   refine hlp (Int) _ _ _ [0,1,5,17,18,19,28,29,30] (fun x=>[(0,none,.val (.slc false 29 (.slc false 2 (.int .i64 0) []) a0)),(1,none,.val (.int .i64 a1)),(5,none,.val (.int .i64 i)),(17,none,.val (.slc false 29 (.slc false 2 (.int .i64 0) []) a0)),(18,none,.val (.int .i64 a1)),(19,none,.val (.int .i64 i)),(28,none,.val (.slc false 2 (.int .i64 0) vr)),(29,none,.val (.int .i64 a1)),(30,none,.val (.int .i64 x))])
    (fun x=>0<=x/\x<=a1/\∀t:Nat,t<x.toNat->zAC i.toNat t (r.getD t 0)) (fun x=>(a1-x).toNat) (0) (by subst hL;rw[hrl,hn];rfl) ?_ ?_
   ·exact⟨by omega,by omega,fun t ht=>by simp at ht⟩
   rintro k ⟨k0,k1,hK⟩ hfx2 ag2 hag2
   conv=>cbv
   subst yp;simp only[zo hL,sQ,vrl,gr];refine⟨fun h4=>⟨k0,by omega,fun h5 h6=>⟨h5,h6⟩,fun h5=>?_,fun h5=>?_⟩,fun h4=>?_⟩
   ·rw[hr,hF];intro ht;have hE:=(ht.row i.toNat (by omega)).2 k.toNat (by omega);rw[mm,<-hR]at hE;rcases h5 with⟨h5,h6⟩|⟨h5,h6⟩
    ·exact h6 (hE.1 (by omega))
    ·have:=hE.2 (by omega);simp only[yi,jS,decide_eq_false_iff_not]at h6;omega
   ·rw[zl (n:=k+1) (by omega) (by omega)];refine hag2 (k+1) ⟨by omega,by omega,fun t ht=>?_⟩ (by omega)
    by_cases htk:t=k.toNat
    ·rw[htk];refine⟨fun e=>h5.1.resolve_left (fun hne=>hne (by omega)),fun e=>?_⟩;have:=h5.2.resolve_left (fun h=>e (by omega));simpa [yi]using this
    ·exact hK t (by omega)
   ·rw[zl (n:=i+1) (by omega) (by omega)];refine hag (i+1) ⟨by omega,by omega,fun t ht=>?_⟩ (by omega)
    by_cases hti:t=i.toNat
    ·rw[hti];refine⟨by rw[<-hR];exact hrl,fun k' hk'=>?_⟩;rw[mm,<-hR];exact hK k' (by omega)
    ·exact hI t (by omega)
  ·have hrow:∀t,t<n->zAo ms n t:=fun t ht=>hI t (by omega)
   refine hlp (Int) _ _ _ [0,54,55,56] (fun x=>[(0,none,.val (.slc false 29 (.slc false 2 (.int .i64 0) []) a0)),(54,none,.val (.slc false 29 (.slc false 2 (.int .i64 0) []) a0)),(55,none,.val (.int .i64 a1)),(56,none,.val (.int .i64 x))])
    (fun x=>0<=x/\x<=a1/\∀t:Nat,t<x.toNat->zC5 ms n t) (fun x=>(a1-x).toNat) (0) (by subst hL;rw[h];rfl) ?_ ?_
   ·exact⟨by omega,by omega,fun t ht=>by simp at ht⟩
   rintro i ⟨i0,i1,hI⟩ hfx ag hag
   conv=>cbv
   simp only[zo hL,sQ,hml,gm];refine⟨fun h2=>?_,fun h2=>?_⟩
   ·obtain⟨r,hR⟩:∃r,r=ms.getD i.toNat []:=⟨_,rfl⟩;have hrl:r.length=n:=(by rw[hR];exact(hrow i.toNat (by omega)).1);rw[<-hR];obtain⟨vr,hvr⟩:∃vr,vr=I r:=⟨_,rfl⟩;have vrl:vr.length=n:=(by rw[hvr,zj,hrl]);have gr:∀t,vr.getD t (.int .i64 0)=.int .i64 (r.getD t 0):=fun t=>(by rw[hvr,zE]);rw[<-hvr];refine⟨i0,by omega,?_⟩
    refine hlp (Int) _ _ _ [0,9,54,55,56,61,62,63] (fun x=>[(0,none,.val (.slc false 29 (.slc false 2 (.int .i64 0) []) a0)),(9,none,.val (.int .i64 i)),(54,none,.val (.slc false 29 (.slc false 2 (.int .i64 0) []) a0)),(55,none,.val (.int .i64 a1)),(56,none,.val (.int .i64 i)),(61,none,.val (.slc false 2 (.int .i64 0) vr)),(62,none,.val (.int .i64 a1)),(63,none,.val (.int .i64 x))])
     (fun x=>0<=x/\x<=a1/\∀t:Nat,t<x.toNat->mm ms t i.toNat=r.getD t 0) (fun x=>(a1-x).toNat) (0) (by subst hL;rw[hrl,hn];rfl) ?_ ?_
    ·exact⟨by omega,by omega,fun t ht=>by simp at ht⟩
    rintro k ⟨k0,k1,hK⟩ hfx2 ag2 hag2
    conv=>cbv
    simp only[zo hL,sQ,vrl,gr,hml,gm];refine⟨fun h4=>?_,fun h4=>?_⟩
    ·have hkl:(ms.getD k.toNat []).length=n:=(hrow k.toNat (by omega)).1;refine⟨k0,by omega,k0,by omega,i0,by omega,fun h5=>?_,fun h5=>?_⟩
     ·rw[hr,hF];intro ht;have:=ht.sym i.toNat (by omega) k.toNat (by omega);rw[mm,mm,<-hR]at this;exact h5 this
     ·rw[zl (n:=k+1) (by omega) (by omega)];refine hag2 (k+1) ⟨by omega,by omega,fun t ht=>?_⟩ (by omega)
      by_cases htk:t=k.toNat
      ·rw[htk];exact h5
      ·exact hK t (by omega)
    ·rw[zl (n:=i+1) (by omega) (by omega)];refine hag (i+1) ⟨by omega,by omega,fun t ht=>?_⟩ (by omega)
     by_cases hti:t=i.toNat
     ·rw[hti];intro k' hk';have:=hK k' (by omega);rw[this,hR];rfl
     ·exact hI t (by omega)
   ·rw[hr,hT];exact⟨hmn,hrow,fun t ht=>hI t (by omega)⟩
 ·cases h
structure CvP (bs ms:List (List Int)):Prop where
 n1:1<=bs.length
 n6:bs.length<=6
 tab:TabP ms bs.length
 br:∀i,i<bs.length->YO (bs.getD i [])=true
 shr:∀i k,i<bs.length->k<bs.length->i≠k->shr (bs.getD i []) (bs.getD k []) (mm ms i k).toNat=true
 ult:∀i k j,i<bs.length->k<bs.length->j<bs.length->i≠k->j≠i->j≠k->¬mm ms i k<min (mm ms i j) (mm ms j k)
noncomputable def zwX(bs ms:List (List Int)):Bool:= @decide (CvP bs ms) (Classical.propDecidable _)
theorem zbf{bs ms:List (List Int)}:zwX bs ms=true↔CvP bs ms:=by
 rw[zwX];exact@decide_eq_true_iff _ (Classical.propDecidable _)
noncomputable def qA(a b:List V):Bool:=zwX (jq a) (qS b)
def uu(a b:List V):Prop:=zxk a/\zxj b
def zDa(bs ms:List (List Int))(i k:Nat):Prop:=i≠k->shr (bs.getD i []) (bs.getD k []) (mm ms i k).toNat=true/\∀j,j<bs.length->j≠i->j≠k->¬mm ms i k<min (mm ms i j) (mm ms j k)
def zsW(bs:List (List Int))(n:Nat):List (List Int):=yI (fun i=>jR (bs.getD i []) 201) n
def Yq(f:List V->List V->Bool)(q:List V->List V->Prop):zK:=fun
 |[.agg [.slc false 57 (.agg [.slc false 2 (.int .i64 0) []]) a0,.slc false 29 (.slc false 2 (.int .i64 0) []) a1]]=>some ([q a0 a1],.bool (f a0 a1))
 |_=>none
theorem uv:yJ Tryz.prog 15 (Yq qA uu):=by
 intro args ps r h hp;unfold Yq at h;split at h
 ·rename_i a0 a1;simp only[za,zb]at h;obtain⟨rfl,rfl⟩:=h;obtain⟨⟨bs,hbs,hb1,hb2⟩,⟨ms,hms,hm1,hm2⟩⟩:uu a0 a1:=(zm.1 hp).1;have g1:V.frzs a0=a0:=by rw[hbs,uf]
  have g2:V.frzs a1=a1:=by rw[hms,ke]
  have hbl:a0.length=bs.length:=by rw[hbs,jj]
  have hml:a1.length=ms.length:=by rw[hms,yf]
  have gb:∀k,a0.getD k (.agg [.slc false 2 (.int .i64 0) []])=.agg [.slc false 2 (.int .i64 0) (I (bs.getD k []))]:=fun k=>by rw[hbs,QA]
  have gm:∀k,a1.getD k (.slc false 2 (.int .i64 0) [])=.slc false 2 (.int .i64 0) (I (ms.getD k [])):=fun k=>by rw[hms,qM]
  obtain⟨n,hn⟩:∃n:Int,n=bs.length:=⟨_,rfl⟩;have hT:CvP bs ms->qA a0 a1=true:=fun h=>by rw[qA,hbs,hms,yK,yq,zbf];exact h
  have hF:¬CvP bs ms->qA a0 a1=false:=fun h=>by rw[qA,hbs,hms,yK,yq];exact zf3 h
  have qt:zmG a1 n:=⟨⟨ms,hms⟩,by omega,by omega⟩
  have et:zdn a1 n=true↔TabP ms bs.length:=by
   rw[zdn,hms,yq,show n.toNat=bs.length by omega];exact@decide_eq_true_iff _ (Classical.propDecidable _)
  generalize zl4:zdn=ztX;generalize zlV:zmG=ztR;generalize kh:uM=uR;generalize yP:ub=ki;generalize zpe:zqQ=zvR;generalize qC:ZH=kR;generalize zmc:zi6=zt4;generalize zl1:zmK=ztU;generalize zpp:znh=zvX;generalize zo2:zwx=zvL;refine zI (T:=tab) (B:=[(48,zs1 ztX ztR),(49,Ke uR ki),(51,ztl zvR kR),(50,zxa zt4 ztU),(52,zoG zvX zvL)]) (Bi:=[]) [0,1,2,3,4,6,7,8,9,28,29,30,44,45,48,49,73,74] Tryz.func15 rfl rfl (by kernel_rfl) (ze rfl) mixed zR (by subst zl4 zlV kh yP zpe qC zmc zl1 zpp zo2;exact(zn zn6 (zn zmD (zn zio (zn zqz (zn zmC zB)))))) (by subst zl4 zlV kh yP zpe qC zmc zl1 zpp zo2;exact zy) (by kernel_rfl) ?_;intro L lp rr hL hr hf hlp
  have hbI:∀i:Nat,i<bs.length->ki (I (bs.getD i [])):=fun i hi=>by
   rw[<-yP];exact⟨⟨_,rfl⟩,by rw[zj];exact hb2 _ (zcx hi)⟩
  conv=>cbv
  have Q1:ztR a1 n:=by rw[<-zlV];exact qt
  have E1:ztX a1 n=true↔TabP ms bs.length:=by rw[<-zl4];exact et
  simp only[zo hL,sQ,g1,g2,hbl,<-hn];refine⟨fun _=>Q1,fun h=>?_,fun h=>?_⟩
  ·rw[hr,hF];intro hc;have h1:=hc.n1;have h6:=hc.n6;rcases h with(h|h)|h
   ·omega
   ·omega
   ·rw[E1.2 hc.tab]at h;cases h
  obtain⟨⟨n1,n6⟩,h3⟩:=h;have htab:=E1.1 h3;have hmn:=htab.len
  refine hlp (List V×Int) _ _ _ [1,3,4,28,29,30] (fun x=>[(1,none,.val (.box 27 (.agg [.slc false 57 (.agg [.slc false 2 (.int .i64 0) []]) a0,.slc false 29 (.slc false 2 (.int .i64 0) []) a1]))),(3,none,.val (.int .i64 n)),(4,none,.val (.slc true 29 (.slc true 2 (.int .i64 0) []) x.1)),(28,none,.val (.slc false 57 (.agg [.slc false 2 (.int .i64 0) []]) a0)),(29,none,.val (.int .i64 n)),(30,none,.val (.int .i64 x.2))])
   (fun x=>0<=x.2/\x.2<=n/\x.1=II true (zsW bs x.2.toNat)/\∀t:Nat,t<x.2.toNat->YO (bs.getD t [])=true) (fun x=>(n-x.2).toNat) (([],0)) (by subst hL;rfl) ?_ ?_
  ·exact⟨by simp,by simp only;omega,rfl,fun t ht=>by simp at ht⟩
  rintro⟨es,i⟩ ⟨i0,i1,hI,hB⟩ hfx ag hag;simp only at i0 i1 hI hB
  conv=>cbv
  simp only[zo hL,sQ,hbl,gb,Qt,YM,YQ];refine⟨fun h2=>?_,fun h2=>?_⟩
  ·have hil:i.toNat<bs.length:=(by omega);have eb:uR (I (bs.getD i.toNat []))=YO (bs.getD i.toNat []):=(by rw[<-kh,uM,zr]);rw[eb];refine⟨i0,by omega,hbI _ hil,fun h4=>?_,fun h4=>?_⟩
   ·rw[hr,hF];intro hc;rw[hc.br _ hil]at h4;cases h4
   ·have hbr:=jL h4;have qp:kR (I (bs.getD i.toNat [])) 201:=(by rw[<-qC];exact⟨⟨_,rfl,hbr⟩,by omega,by omega⟩);have ep:V.frzs (zvR (I (bs.getD i.toNat [])) 201)=II false (zd2 (qX (bs.getD i.toNat []) 201)):=(by rw[<-zpe,zqQ,zr,ke];rfl);have qc:ztU (II false (zd2 (qX (bs.getD i.toNat []) 201))):=(by rw[<-zl1];exact zur _ (by omega) (by omega));have ec:zt4 (II false (zd2 (qX (bs.getD i.toNat []) 201)))=I (jR (bs.getD i.toNat []) 201):=(by rw[<-zmc,zi6,yq,zw7 hbr]);simp only[ep,ec];have hes:es.length=i.toNat:=(by rw[hI,yf,zsW,yo]);rw[zl (n:=i+1) (by omega) (by omega)];refine⟨qp,qc,zel _,by simp only[zi,zp];omega,jT rfl,hag (_,i+1) ⟨by simp only;omega,by simp only;omega,?_,fun t ht=>?_⟩ (by simp only;omega)⟩
    ·simp only[zF i0];rw[zsW,JX,uP,hI];rfl
    ·simp only[zF i0]at ht
     by_cases hti:t=i.toNat
     ·rw[hti];exact h4
     ·exact hB t (by omega)
  ·have hbr:∀t,t<bs.length->YO (bs.getD t [])=true:=fun t ht=>hB t (by omega);have ht2:i.toNat=bs.length:=(by omega);rw[ht2]at hI;have hel:es.length=bs.length:=(by rw[hI,yf,zsW,yo]);have ge:∀k,k<bs.length->es.getD k (.slc true 2 (.int .i64 0) [])=.slc true 2 (.int .i64 0) (I (jR (bs.getD k []) 201)):=fun k hk=>(by rw[hI,qM,zsW,jx _ _ _ _ hk]);have ecs:∀x y c,zvX (I (jR x 201)) (I (jR y 201)) c=shr x y c.toNat:=fun x y c=>(by rw[<-zpp,znh,zr,zr,shr]);have qcs:∀x y c,1<=c->c<=200->zvL (I (jR x 201)) (I (jR y 201)) c:=fun x y c h1 h2=>(by rw[<-zo2];exact⟨⟨_,rfl⟩,⟨_,rfl⟩,h1,by rw[zj,zf4];omega,by rw[zj,zf4];omega⟩);have rl:∀k,k<bs.length->(ms.getD k []).length=bs.length:=fun k hk=>(htab.row k hk).1;have ent:∀i k,i<bs.length->k<bs.length->i≠k->1<=mm ms i k/\mm ms i k<=200:=fun i k hi hk hne=>((htab.row i hi).2 k hk).2 hne
   refine hlp (Int) _ _ _ [1,3,4,44,45] (fun x=>[(1,none,.val (.box 27 (.agg [.slc false 57 (.agg [.slc false 2 (.int .i64 0) []]) a0,.slc false 29 (.slc false 2 (.int .i64 0) []) a1]))),(3,none,.val (.int .i64 n)),(4,none,.val (.slc true 29 (.slc true 2 (.int .i64 0) []) es)),(44,none,.val (.int .i64 n)),(45,none,.val (.int .i64 x))])
    (fun x=>0<=x/\x<=n/\∀t:Nat,t<x.toNat->∀k,k<bs.length->zDa bs ms t k) (fun x=>(n-x).toNat) (0) (by subst hL;rfl) ?_ ?_
   ·exact⟨by omega,by omega,fun t ht=>by simp at ht⟩
   rintro i ⟨i0,i1,hP⟩ hfx ag hag
   conv=>cbv
   simp only[zo hL,sQ,];refine⟨fun h2=>?_,fun h2=>?_⟩
   ·refine hlp (Int) _ _ _ [1,3,4,7,44,45,48,49] (fun x=>[(1,none,.val (.box 27 (.agg [.slc false 57 (.agg [.slc false 2 (.int .i64 0) []]) a0,.slc false 29 (.slc false 2 (.int .i64 0) []) a1]))),(3,none,.val (.int .i64 n)),(4,none,.val (.slc true 29 (.slc true 2 (.int .i64 0) []) es)),(7,none,.val (.int .i64 i)),(44,none,.val (.int .i64 n)),(45,none,.val (.int .i64 i)),(48,none,.val (.int .i64 n)),(49,none,.val (.int .i64 x))])
     (fun x=>0<=x/\x<=n/\∀t:Nat,t<x.toNat->zDa bs ms i.toNat t) (fun x=>(n-x).toNat) (0) (by subst hL;rfl) ?_ ?_
    ·exact⟨by omega,by omega,fun t ht=>by simp at ht⟩
    rintro k ⟨k0,k1,hQ⟩ hfx2 ag2 hag2
    conv=>cbv
    simp only[zo hL,sQ,hml,hel,gm];refine⟨fun h3=>?_,fun h3=>?_⟩
    ·have hil:i.toNat<bs.length:=(by omega);have hkl:k.toNat<bs.length:=(by omega);have rli:=rl _ hil;have gei:=ge _ hil;have gek:=ge _ hkl;simp only[gei,gek,zo hL,sQ,ecs];have hmm:(ms.getD i.toNat []).getD k.toNat 0=mm ms i.toNat k.toNat:=rfl;refine⟨fun h4=>?_,fun h4=>?_⟩
     ·rw[zl (n:=k+1) (by omega) (by omega)];refine hag2 (k+1) ⟨by omega,by omega,fun t ht=>?_⟩ (by omega)
      by_cases htk:t=k.toNat
      ·intro hne;exact absurd (by omega) hne
      ·exact hQ t (by omega)
     have hne:i.toNat≠k.toNat:=(by omega);have hen:=ent _ _ hil hkl hne;obtain⟨c,hc⟩:∃c,c=mm ms i.toNat k.toNat:=⟨_,rfl⟩;rw[hmm,<-hc];rw[<-hc]at hen;have qi:=qcs (bs.getD i.toNat []) (bs.getD k.toNat []) c hen.1 hen.2;refine⟨i0,by omega,hil,k0,by omega,hkl,i0,by omega,k0,by omega,hil,hkl,qi,fun h5=>?_,fun h5=>?_⟩
     ·rw[hr,hF];intro hv;have:=hv.shr _ _ hil hkl hne;rw[<-hc,h5]at this;cases this
     refine hlp (Int) _ _ _ [1,3,4,7,8,44,45,48,49,73,74] (fun x=>[(1,none,.val (.box 27 (.agg [.slc false 57 (.agg [.slc false 2 (.int .i64 0) []]) a0,.slc false 29 (.slc false 2 (.int .i64 0) []) a1]))),(3,none,.val (.int .i64 n)),(4,none,.val (.slc true 29 (.slc true 2 (.int .i64 0) []) es)),(7,none,.val (.int .i64 i)),(8,none,.val (.int .i64 k)),(44,none,.val (.int .i64 n)),(45,none,.val (.int .i64 i)),(48,none,.val (.int .i64 n)),(49,none,.val (.int .i64 k)),(73,none,.val (.int .i64 n)),(74,none,.val (.int .i64 x))])
      (fun x=>0<=x/\x<=n/\∀j:Nat,j<x.toNat->j≠i.toNat->j≠k.toNat->¬mm ms i.toNat k.toNat<min (mm ms i.toNat j) (mm ms j k.toNat)) (fun x=>(n-x).toNat) (0) (by subst hL;rfl) ?_ ?_
     ·exact⟨by omega,by omega,fun t ht=>by simp at ht⟩
     rintro j ⟨j0,j1,hJ⟩ hfx3 ag3 hag3
     conv=>cbv
     simp only[zo hL,sQ,hml,gm];have hm1:∀x y:Nat,(ms.getD x []).getD y 0=mm ms x y:=fun _ _=>rfl;simp only[hm1];refine⟨fun h6=>?_,fun h6=>?_⟩
     ·have hjl:j.toNat<bs.length:=(by omega);have rlj:=rl _ hjl;simp only[rli,rlj];refine⟨fun _=>by first|trivial|omega,fun _=>by first|trivial|omega,fun _=>by first|trivial|omega,fun _=>by first|trivial|omega,fun _=>by first|trivial|omega,fun _=>by first|trivial|omega,fun _=>by first|trivial|omega,fun _=>by first|trivial|omega,fun _=>by first|trivial|omega,fun _=>by first|trivial|omega,fun _=>by first|trivial|omega,fun _=>by first|trivial|omega,fun _=>by first|trivial|omega,fun _=>by first|trivial|omega,fun _=>by first|trivial|omega,fun _=>by first|trivial|omega,fun _=>by first|trivial|omega,fun _=>by first|trivial|omega,fun h7=>?_,fun h7=>?_⟩
      ·rw[hr,hF];intro hv;exact hv.ult _ _ _ hil hkl hjl hne (by omega) (by omega) h7.2
      ·rw[zl (n:=j+1) (by omega) (by omega)];refine hag3 (j+1) ⟨by omega,by omega,fun t ht e1 e2=>?_⟩ (by omega)
       by_cases htj:t=j.toNat
       ·rw[htj];exact h7.resolve_left (by omega)
       ·exact hJ t (by omega) e1 e2
     ·rw[zl (n:=k+1) (by omega) (by omega)];refine hag2 (k+1) ⟨by omega,by omega,fun t ht=>?_⟩ (by omega)
      by_cases htk:t=k.toNat
      ·rw[htk];intro _;refine⟨by rw[<-hc];exact h5,fun j' hj' e1 e2=>hJ j' (by omega) e1 e2⟩
      ·exact hQ t (by omega)
    ·rw[zl (n:=i+1) (by omega) (by omega)];refine hag (i+1) ⟨by omega,by omega,fun t ht k' hk'=>?_⟩ (by omega)
     by_cases hti:t=i.toNat
     ·rw[hti];exact hQ k' (by omega)
     ·exact hP t (by omega) k' hk'
   ·rw[hr,hT];refine⟨by omega,by omega,htab,hbr,fun t k ht hk hne=>(hP t (by omega) k hk hne).1,fun t k j ht hk hj hne h1 h2=>(hP t (by omega) k hk hne).2 j hj h1 h2⟩
 ·cases h
end Go.Ax
namespace Go.Ax
open Go.Proofs
def zpD(bs ms:List (List Int))(i k:Nat):Prop:=zAC i k (mm ms i k)/\(i≠k->mm ms i k=mm ms k i)/\(i<k->shr (bs.getD i []) (bs.getD k []) (mm ms i k).toNat=true)
def zAm(bs ms:List (List Int))(i k:Nat):Prop:=∀j,j<bs.length->i≠k->i≠j->j≠k->¬mm ms i k<min (mm ms i j) (mm ms j k)
theorem CvP.of{bs ms:List (List Int)}(h1:1<=bs.length)(h6:bs.length<=6)(hl:ms.length=bs.length)(hA:∀t,t<bs.length->YO (bs.getD t [])=true/\(ms.getD t []).length=bs.length)
 (hB:∀t,t<bs.length->∀k,k<bs.length->zpD bs ms t k) (hC:∀t,t<bs.length->∀k,k<bs.length->zAm bs ms t k):CvP bs ms:=by
 refine⟨h1,h6,⟨hl,fun i hi=>⟨(hA i hi).2,fun k hk=>(hB i hi k hk).1⟩,fun i hi k hk=>?_⟩,fun i hi=>(hA i hi).1,fun i k hi hk hne=>?_,fun i k j hi hk hj hne h1 h2=>hC i hi k hk j hj hne (Ne.symm h1) h2⟩
 ·by_cases h:i=k
  ·rw[h]
  ·exact((hB i hi k hk).2.1 h).symm
 ·by_cases h:i<k
  ·exact(hB i hi k hk).2.2 h
  ·have:=(hB k hk i hi).2.2 (by omega);rw[zy7,(hB i hi k hk).2.1 hne];exact this
theorem zbO:yJ Tryz.prog 44 (Yq qA uu):=by
 intro args ps r h hp;unfold Yq at h;split at h
 ·rename_i a0 a1;simp only[za,zb]at h;obtain⟨rfl,rfl⟩:=h;obtain⟨⟨bs,hbs,hb1,hb2⟩,⟨ms,hms,hm1,hm2⟩⟩:uu a0 a1:=(zm.1 hp).1;have g1:V.frzs a0=a0:=by rw[hbs,uf]
  have g2:V.frzs a1=a1:=by rw[hms,ke]
  have hbl:a0.length=bs.length:=by rw[hbs,jj]
  have hml:a1.length=ms.length:=by rw[hms,yf]
  have gb:∀k,a0.getD k (.agg [.slc false 2 (.int .i64 0) []])=.agg [.slc false 2 (.int .i64 0) (I (bs.getD k []))]:=fun k=>by rw[hbs,QA]
  have gm:∀k,a1.getD k (.slc false 2 (.int .i64 0) [])=.slc false 2 (.int .i64 0) (I (ms.getD k [])):=fun k=>by rw[hms,qM]
  obtain⟨n,hn⟩:∃n:Int,n=bs.length:=⟨_,rfl⟩;have hT:CvP bs ms->qA a0 a1=true:=fun h=>by rw[qA,hbs,hms,yK,yq,zbf];exact h
  have hF:¬CvP bs ms->qA a0 a1=false:=fun h=>by rw[qA,hbs,hms,yK,yq];exact zf3 h
  have hm1:∀x y:Nat,(ms.getD x []).getD y 0=mm ms x y:=fun _ _=>rfl;generalize kh:uM=uR;generalize yP:ub=ki;generalize yp:yi=qP;generalize zpa:znd=zvO;generalize zoU:zwp=zvG;refine zI (T:=tab) (B:=[(81,Ke uR ki),(82,qW qP),(83,zoQ zvO zvG)]) (Bi:=[]) [0,1,2,3,4,5,6,7,8,9,10] Tryz.func44 rfl rfl (by kernel_rfl) (ze rfl) mixed zR (by subst kh yP yp zpa zoU;exact(zn zbQ (zn JE (zn znW zB)))) (by subst kh yP yp zpa zoU;exact zy) (by kernel_rfl) ?_;intro L lp rr hL hr hf hlp
  have hbI:∀i:Nat,i<bs.length->ki (I (bs.getD i [])):=fun i hi=>by
   rw[<-yP];exact⟨⟨_,rfl⟩,by rw[zj];exact hb2 _ (zcx hi)⟩
  have eb:∀i:Nat,uR (I (bs.getD i []))=YO (bs.getD i []):=fun i=>by rw[<-kh,uM,zr]
  conv=>cbv
  simp only[zo hL,sQ,g1,g2,hbl,hml,<-hn];refine⟨fun h=>?_,fun h=>?_⟩
  ·rw[hr,hF];intro hc;have h1:=hc.n1;have h6:=hc.n6;have hl:=hc.tab.len;omega
  have hmn:ms.length=bs.length:=by omega
  refine hlp (Int) _ _ _ [1,3,4] (fun x=>[(1,none,.val (.box 27 (.agg [.slc false 57 (.agg [.slc false 2 (.int .i64 0) []]) a0,.slc false 29 (.slc false 2 (.int .i64 0) []) a1]))),(3,none,.val (.int .i64 n)),(4,none,.val (.int .i64 x))])
   (fun x=>0<=x/\x<=n/\∀t:Nat,t<x.toNat->YO (bs.getD t [])=true/\(ms.getD t []).length=bs.length) (fun x=>(n-x).toNat) (0) (by subst hL;rfl) ?_ ?_
  ·exact⟨by omega,by omega,fun t ht=>by simp at ht⟩
  rintro i ⟨i0,i1,hA⟩ hfx ag hag
  conv=>cbv
  simp only[zo hL,sQ,hbl,gb,Qt,YM,YQ,eb,hml,gm];refine⟨fun h2=>?_,fun h2=>?_⟩
  ·have hil:i.toNat<bs.length:=(by omega);refine⟨i0,by omega,hbI _ hil,fun _=>i0,fun _=>by omega,fun _=>trivial,fun h3=>?_,fun h3=>?_⟩
   ·rw[hr,hF];intro hc;rcases h3 with h3|h3
    ·rw[hc.br _ hil]at h3;cases h3
    ·exact h3 (by rw[(hc.tab.row _ hil).1];omega)
   ·rw[zl (n:=i+1) (by omega) (by omega)];refine hag (i+1) ⟨by omega,by omega,fun t ht=>?_⟩ (by omega)
    by_cases hti:t=i.toNat
    ·rw[hti];exact⟨h3.1,by omega⟩
    ·exact hA t (by omega)
  have hA2:∀t,t<bs.length->YO (bs.getD t [])=true/\(ms.getD t []).length=bs.length:=fun t ht=>hA t (by omega);have rl:∀k,k<bs.length->(ms.getD k []).length=bs.length:=fun k hk=>(hA2 k hk).2
  have qsh:∀x y c,x<bs.length->y<bs.length->1<=c->c<=200->zvG (I (bs.getD x [])) (I (bs.getD y [])) c:=fun x y c hx hy h1 h2=>by
   rw[<-zoU];exact⟨⟨_,rfl,jL (hA2 x hx).1⟩,⟨_,rfl,jL (hA2 y hy).1⟩,h1,h2⟩
  have esh:∀x y c,zvO (I (bs.getD x [])) (I (bs.getD y [])) c=shr (bs.getD x []) (bs.getD y []) c.toNat:=fun x y c=>by rw[<-zpa,znd,zr,zr]
  clear hA hag hfx ag
  refine hlp (Int) _ _ _ [1,3,5] (fun x=>[(1,none,.val (.box 27 (.agg [.slc false 57 (.agg [.slc false 2 (.int .i64 0) []]) a0,.slc false 29 (.slc false 2 (.int .i64 0) []) a1]))),(3,none,.val (.int .i64 n)),(5,none,.val (.int .i64 x))])
   (fun x=>0<=x/\x<=n/\∀t:Nat,t<x.toNat->∀k,k<bs.length->zpD bs ms t k) (fun x=>(n-x).toNat) (0) (by subst hL;rfl) ?_ ?_
  ·exact⟨by omega,by omega,fun t ht=>by simp at ht⟩
  rintro i ⟨i0,i1,hP⟩ hfx ag hag
  conv=>cbv
  simp only[zo hL,sQ,];refine⟨fun h2=>?_,fun h2=>?_⟩
  ·have hil:i.toNat<bs.length:=(by omega);have rli:=rl _ hil
   refine hlp (Int) _ _ _ [1,3,5,6] (fun x=>[(1,none,.val (.box 27 (.agg [.slc false 57 (.agg [.slc false 2 (.int .i64 0) []]) a0,.slc false 29 (.slc false 2 (.int .i64 0) []) a1]))),(3,none,.val (.int .i64 n)),(5,none,.val (.int .i64 i)),(6,none,.val (.int .i64 x))])
    (fun x=>0<=x/\x<=n/\∀t:Nat,t<x.toNat->zpD bs ms i.toNat t) (fun x=>(n-x).toNat) (0) (by subst hL;rfl) ?_ ?_
   ·exact⟨by omega,by omega,fun t ht=>by simp at ht⟩
   rintro k ⟨k0,k1,hQ⟩ hfx2 ag2 hag2
   conv=>cbv
   simp only[zo hL,sQ,hml,gm,hbl,gb,Qt,YM,YQ,hm1,esh];refine⟨fun h3=>?_,fun h3=>?_⟩
   ·have hkl:k.toNat<bs.length:=(by omega);have rlk:=rl _ hkl
    have hgo:zpD bs ms i.toNat k.toNat->0<=k+1/\k+1<=n/\∀t:Nat,t<(k+1).toNat->zpD bs ms i.toNat t:=fun hb=>⟨by omega,by omega,fun t ht=>by
     by_cases htk:t=k.toNat
     ·rw[htk];exact hb
     ·exact hQ t (by omega)⟩
    obtain⟨c,hc⟩:∃c,c=mm ms i.toNat k.toNat:=⟨_,rfl⟩;simp only[rli,rlk,<-hc];subst yp;rw[zl (n:=k+1) (by omega) (by omega)];refine⟨i0,by omega,k0,by omega,fun h4=>⟨fun h5=>?_,fun h5=>?_⟩,fun h4=>⟨fun _=>by first|trivial|omega,fun _=>by first|trivial|omega,fun _=>by first|trivial|omega,fun _=>by first|trivial|omega,fun _=>by first|trivial|omega,fun _=>by first|trivial|omega,fun h5=>?_,fun h5=>⟨fun _=>by first|trivial|omega,fun _=>by first|trivial|omega,fun _=>by first|trivial|omega,fun _=>by first|trivial|omega,fun _=>by first|trivial|omega,fun _=>by first|trivial|omega,fun h6=>?_,fun h6=>?_,fun h6=>?_⟩⟩⟩
    ·rw[hr,hF];intro hv;exact h5 (by rw[hc];exact((hv.tab.row _ hil).2 _ hkl).1 (by omega))
    ·refine hag2 (k+1) (hgo ⟨⟨fun _=>by rw[<-hc];exact h5,fun hne=>absurd (by omega) hne⟩,fun hne=>absurd (by omega) hne,fun hlt=>absurd hlt (by omega)⟩) (by omega)
    ·rw[hr,hF];intro hv;have hE:=((hv.tab.row _ hil).2 _ hkl).2 (by omega);have hS:=hv.tab.sym _ hil _ hkl;rw[<-hc]at hE hS;rcases h5 with h5|h5
     ·simp only[yi,jS,decide_eq_false_iff_not]at h5;omega
     ·exact h5 hS.symm
    ·have hE:1<=c/\c<=200:=(by simpa [yi]using h5.1);exact qsh _ _ _ hil hkl hE.1 hE.2
    ·rw[hr,hF];intro hv;have:=hv.shr _ _ hil hkl (by omega);rw[<-hc,h6.2]at this;cases this
    ·have hE:1<=c/\c<=200:=(by simpa [yi]using h5.1);refine hag2 (k+1) (hgo ⟨⟨fun he=>absurd (by omega) h4,fun _=>by rw[<-hc];exact hE⟩,fun _=>by rw[<-hc];exact h5.2,fun hlt=>?_⟩) (by omega);rw[<-hc];exact h6.resolve_left (fun h=>h (by omega))
   ·rw[zl (n:=i+1) (by omega) (by omega)];refine hag (i+1) ⟨by omega,by omega,fun t ht k' hk'=>?_⟩ (by omega)
    by_cases hti:t=i.toNat
    ·rw[hti];exact hQ k' (by omega)
    ·exact hP t (by omega) k' hk'
  have hP2:∀t,t<bs.length->∀k,k<bs.length->zpD bs ms t k:=fun t ht=>hP t (by omega);clear hP hag hfx ag
  refine hlp (Int) _ _ _ [1,3,8] (fun x=>[(1,none,.val (.box 27 (.agg [.slc false 57 (.agg [.slc false 2 (.int .i64 0) []]) a0,.slc false 29 (.slc false 2 (.int .i64 0) []) a1]))),(3,none,.val (.int .i64 n)),(8,none,.val (.int .i64 x))])
   (fun x=>0<=x/\x<=n/\∀t:Nat,t<x.toNat->∀k,k<bs.length->zAm bs ms t k) (fun x=>(n-x).toNat) (0) (by subst hL;rfl) ?_ ?_
  ·exact⟨by omega,by omega,fun t ht=>by simp at ht⟩
  rintro i ⟨i0,i1,hP⟩ hfx ag hag
  conv=>cbv
  simp only[zo hL,sQ,];refine⟨fun h2=>?_,fun h2=>?_⟩
  ·have hil:i.toNat<bs.length:=(by omega);have rli:=rl _ hil
   refine hlp (Int) _ _ _ [1,3,8,9] (fun x=>[(1,none,.val (.box 27 (.agg [.slc false 57 (.agg [.slc false 2 (.int .i64 0) []]) a0,.slc false 29 (.slc false 2 (.int .i64 0) []) a1]))),(3,none,.val (.int .i64 n)),(8,none,.val (.int .i64 i)),(9,none,.val (.int .i64 x))])
    (fun x=>0<=x/\x<=n/\∀t:Nat,t<x.toNat->zAm bs ms i.toNat t) (fun x=>(n-x).toNat) (0) (by subst hL;rfl) ?_ ?_
   ·exact⟨by omega,by omega,fun t ht=>by simp at ht⟩
   rintro k ⟨k0,k1,hQ⟩ hfx2 ag2 hag2
   conv=>cbv
   simp only[zo hL,sQ,];refine⟨fun h3=>?_,fun h3=>?_⟩
   ·have hkl:k.toNat<bs.length:=by omega
    refine hlp (Int) _ _ _ [1,3,8,9,10] (fun x=>[(1,none,.val (.box 27 (.agg [.slc false 57 (.agg [.slc false 2 (.int .i64 0) []]) a0,.slc false 29 (.slc false 2 (.int .i64 0) []) a1]))),(3,none,.val (.int .i64 n)),(8,none,.val (.int .i64 i)),(9,none,.val (.int .i64 k)),(10,none,.val (.int .i64 x))])
     (fun x=>0<=x/\x<=n/\∀j:Nat,j<x.toNat->i.toNat≠k.toNat->i.toNat≠j->j≠k.toNat->¬mm ms i.toNat k.toNat<min (mm ms i.toNat j) (mm ms j k.toNat)) (fun x=>(n-x).toNat) (0) (by subst hL;rfl) ?_ ?_
    ·exact⟨by omega,by omega,fun t ht=>by simp at ht⟩
    rintro j ⟨j0,j1,hJ⟩ hfx3 ag3 hag3
    conv=>cbv
    simp only[zo hL,sQ,hml,gm,hm1];refine⟨fun h6=>?_,fun h6=>?_⟩
    ·have hjl:j.toNat<bs.length:=(by omega);have rlj:=rl _ hjl;simp only[rli,rlj];refine⟨fun _=>by first|trivial|omega,fun _=>by first|trivial|omega,fun _=>by first|trivial|omega,fun _=>by first|trivial|omega,fun _=>by first|trivial|omega,fun _=>by first|trivial|omega,fun _=>by first|trivial|omega,fun _=>by first|trivial|omega,fun _=>by first|trivial|omega,fun _=>by first|trivial|omega,fun _=>by first|trivial|omega,fun _=>by first|trivial|omega,fun _=>by first|trivial|omega,fun _=>by first|trivial|omega,fun _=>by first|trivial|omega,fun _=>by first|trivial|omega,fun _=>by first|trivial|omega,fun _=>by first|trivial|omega,fun h7=>?_,fun h7=>?_⟩
     ·rw[hr,hF];intro hv;exact hv.ult _ _ _ hil hkl hjl (by omega) (by omega) (by omega) h7.2
     ·rw[zl (n:=j+1) (by omega) (by omega)];refine hag3 (j+1) ⟨by omega,by omega,fun t ht e0 e1 e2=>?_⟩ (by omega)
      by_cases htj:t=j.toNat
      ·rw[htj];exact h7.resolve_left (by omega)
      ·exact hJ t (by omega) e0 e1 e2
    ·rw[zl (n:=k+1) (by omega) (by omega)];refine hag2 (k+1) ⟨by omega,by omega,fun t ht=>?_⟩ (by omega)
     by_cases htk:t=k.toNat
     ·rw[htk];exact fun j' hj'=>hJ j' (by omega)
     ·exact hQ t (by omega)
   ·rw[zl (n:=i+1) (by omega) (by omega)];refine hag (i+1) ⟨by omega,by omega,fun t ht k' hk'=>?_⟩ (by omega)
    by_cases hti:t=i.toNat
    ·rw[hti];exact hQ k' (by omega)
    ·exact hP t (by omega) k' hk'
  ·rw[hr,hT];exact CvP.of (by omega) (by omega) hmn hA2 hP2 (fun t ht=>hP t (by omega))
 ·cases h
theorem zn4:yJ Tryz.prog 16 (Yq qA uu):=by
 intro args ps r h hp;unfold Yq at h;split at h
 ·rename_i a0 a1;simp only[za,zb]at h;obtain⟨rfl,rfl⟩:=h;have hq:uu a0 a1:=(zm.1 hp).1;have g1:=YK hq.1.isBB;have g2:=YJ hq.2.isII;generalize yn:qA=ji;generalize qn:uu=jM;refine zI (T:=tab) (B:=[(44,Yq ji jM)]) (Bi:=[]) [0,1,2] Tryz.func16 rfl rfl (by kernel_rfl) (ze rfl) mixed zR (by subst yn qn;exact(zn zbO zB)) (by subst yn qn;exact zy) (by kernel_rfl) ?_;intro L lp rr hL hr hf hlp
  conv=>cbv
  simp only[zo hL,sQ,g1,g2];subst yn qn;exact⟨hq,hr.symm⟩
 ·cases h
end Go.Ax
namespace Go.Ax
open Go.Proofs
theorem TabP.range{ms:List (List Int)}{n:Nat}(h:TabP ms n){i k:Nat}(hi:i<n)(hk:k<n):0<=mm ms i k/\mm ms i k<=200:=by
 have hE:=(h.row i hi).2 k hk;by_cases he:i=k
 ·have:=hE.1 he;omega
 ·have:=hE.2 he;omega
def ZI(a b:List V):Prop:=uu a b/\CvP (jq a) (qS b)
theorem JG{a b:List V}(h:uu a b)(hc:qA a b=true):ZI a b:=⟨h,zbf.1 hc⟩
def JZ(bs:List (List Int)):Nat->Int
 |0=>0
 |n+1=>JZ bs n+(bs.getD n []).getD 0 0
theorem zrW{bs:List (List Int)}(h:∀i,i<bs.length->Br (bs.getD i [])):∀n,n<=bs.length->0<=JZ bs n/\JZ bs n<=64*n
 |0,_=>by simp[JZ]
 |n+1,hn=>by
  have h1:=zrW h n (by omega);have h2:=(h n (by omega)).first;have h3:=(h n (by omega)).low 0 (h n (by omega)).pos;simp only[JZ];omega
def zc5(f:List V->List V->Int)(q:List V->List V->Prop):zK:=fun
 |[.agg [.slc false 57 (.agg [.slc false 2 (.int .i64 0) []]) a0,.slc false 29 (.slc false 2 (.int .i64 0) []) a1]]=>some ([q a0 a1],.int .i64 (f a0 a1))
 |_=>none
def zgW(a _:List V):Int:=JZ (jq a) a.length
theorem ziq:yJ Tryz.prog 55 (zc5 zgW ZI):=by
 intro args ps r h hp;unfold zc5 at h;split at h
 ·rename_i a0 a1;simp only[za,zb]at h;obtain⟨rfl,rfl⟩:=h;obtain⟨⟨⟨bs,hbs,hb1,hb2⟩,⟨ms,hms,hm1,hm2⟩⟩,hcv⟩:=(zm.1 hp).1;rw[hbs,hms,yK,yq]at hcv;have g1:V.frzs a0=a0:=by rw[hbs,uf]
  have g2:V.frzs a1=a1:=by rw[hms,ke]
  have hbl:a0.length=bs.length:=by rw[hbs,jj]
  have hml:a1.length=ms.length:=by rw[hms,yf]
  have gb:∀k,a0.getD k (.agg [.slc false 2 (.int .i64 0) []])=.agg [.slc false 2 (.int .i64 0) (I (bs.getD k []))]:=fun k=>by rw[hbs,QA]
  have gm:∀k,a1.getD k (.slc false 2 (.int .i64 0) [])=.slc false 2 (.int .i64 0) (I (ms.getD k [])):=fun k=>by rw[hms,qM]
  have hm0:∀x y:Nat,(ms.getD x []).getD y 0=mm ms x y:=fun _ _=>rfl;obtain⟨n,hn⟩:∃n:Int,n=bs.length:=⟨_,rfl⟩;have n1:=hcv.n1;have n6:=hcv.n6;have hmn:ms.length=bs.length:=hcv.tab.len;have hbr:∀i,i<bs.length->Br (bs.getD i []):=fun i hi=>jL (hcv.br i hi);have rl:∀k,k<bs.length->(ms.getD k []).length=bs.length:=fun k hk=>(hcv.tab.row k hk).1;have mmr:∀i k,i<bs.length->k<bs.length->0<=mm ms i k/\mm ms i k<=200:=fun i k hi hk=>hcv.tab.range hi hk;have mmo:∀i k,i<bs.length->k<bs.length->i≠k->1<=mm ms i k/\mm ms i k<=200:=fun i k hi hk hne=>((hcv.tab.row i hi).2 k hk).2 hne;have hf0:zgW a0 a1=JZ bs bs.length:=by rw[zgW,hbl,hbs,yK]
  refine zI (T:=tab) (B:=[]) (Bi:=[]) [0,1,2,3,5,7,8,9] Tryz.func55 rfl rfl (by kernel_rfl) (ze rfl) mixed zR (by exact zB) (by exact zy) (by kernel_rfl) ?_;intro L lp rr hL hr hf hlp
  conv=>cbv
  refine hlp (Int×Int) _ _ _ [3,7,8,9] (fun x=>[(3,none,.val (.int .i64 x.1)),(7,none,.val (.slc false 57 (.agg [.slc false 2 (.int .i64 0) []]) a0)),(8,none,.val (.int .i64 n)),(9,none,.val (.int .i64 x.2))])
   (fun x=>0<=x.2/\x.2<=n/\x.1=JZ bs x.2.toNat) (fun x=>(n-x.2).toNat) ((0,0)) (by subst hL;rw[hn,<-hbl];rfl) ?_ ?_
  ·exact⟨by simp,by simp only;omega,rfl⟩
  rintro⟨s,i⟩ ⟨i0,i1,hI⟩ hfx ag hag;simp only at i0 i1 hI
  conv=>cbv
  simp only[zo hL,sQ,hbl,gb,Qt,YM,YQ];refine⟨fun h2=>?_,fun h2=>?_⟩
  ·have hb:=hbr i.toNat (by omega);have hp:=hb.pos;have h64:=hb.first;have hlow:=hb.low 0 hp;have hmu:=zrW hbr i.toNat (by omega);rw[zl (n:=s+(bs.getD i.toNat []).getD 0 0) (by omega) (by omega),zl (n:=i+1) (by omega) (by omega)]
   (repeat' first|(exact yY _)|(exact jT rfl)|(exact qO _)|(apply And.intro)|(intro _))<;>(try first|exact True.intro|omega|rfl|(simp only[zi,zp,zj];omega))
   refine hag (_,i+1) ⟨by simp only;omega,by simp only;omega,?_⟩ (by simp only;omega);simp only[zF i0];rw[JZ,hI]
  ·rw[hr,hf0,hI,show i.toNat=bs.length by omega]
 ·cases h
def zcb(f:List V->List V->Int×Int)(q:List V->List V->Prop):zK:=fun
 |[.agg [.slc false 57 (.agg [.slc false 2 (.int .i64 0) []]) a0,.slc false 29 (.slc false 2 (.int .i64 0) []) a1]]=>some ([q a0 a1],.tup [.int .i64 ((f a0 a1).1),.int .i64 ((f a0 a1).2)])
 |_=>none
noncomputable def zsD(a b:List V):Int×Int:=bif qA a b then(zgW a b,0)else(0,1)
theorem zeC:yJ Tryz.prog 19 (zcb zsD uu):=by
 intro args ps r h hp;unfold zcb at h;split at h
 ·rename_i a0 a1;simp only[za,zb]at h;obtain⟨rfl,rfl⟩:=h;have hq:uu a0 a1:=(zm.1 hp).1;have g1:=YK hq.1.isBB;have g2:=YJ hq.2.isII;generalize yn:qA=ji;generalize qn:uu=jM;generalize zl7:zgW=zAz;generalize qa:ZI=ur;refine zI (T:=tab) (B:=[(15,Yq ji jM),(55,zc5 zAz ur)]) (Bi:=[]) [0,1,2,3] Tryz.func19 rfl rfl (by kernel_rfl) (ze rfl) mixed zR (by subst yn qn zl7 qa;exact(zn uv (zn ziq zB))) (by subst yn qn zl7 qa;exact zy) (by kernel_rfl) ?_;intro L lp rr hL hr hf hlp
  conv=>cbv
  simp only[zo hL,sQ,g1,g2];subst yn qn zl7 qa;refine⟨hq,fun h=>?_,fun h=>⟨JG hq h,?_⟩⟩
  ·rw[hr,zsD,h];rfl
  ·rw[hr,zsD,h];rfl
 ·cases h
def qD(bs ms:List (List Int))(i k:Nat):Int:=zrZ (bs.getD i []) (bs.getD k []) (mm ms i k).toNat
def zj8(f:List V->List V->Int->Int->Int)(q:List V->List V->Int->Int->Prop):zK:=fun
 |[.agg [.slc false 57 (.agg [.slc false 2 (.int .i64 0) []]) a0,.slc false 29 (.slc false 2 (.int .i64 0) []) a1],.int .i64 a2,.int .i64 a3]=>some ([q a0 a1 a2 a3],.int .i64 (f a0 a1 a2 a3))
 |_=>none
def zi3(a b:List V)(i k:Int):Int:=qD (jq a) (qS b) i.toNat k.toNat
def zzl(a b:List V)(i k:Int):Prop:=ZI a b/\0<=i/\i<a.length/\0<=k/\k<a.length/\i≠k
theorem zgK:yJ Tryz.prog 64 (zj8 zi3 zzl):=by
 intro args ps r h hp;unfold zj8 at h;split at h
 ·rename_i a0 a1 a2 a3;simp only[za,zb]at h;obtain⟨rfl,rfl⟩:=h;obtain⟨⟨⟨⟨bs,hbs,hb1,hb2⟩,⟨ms,hms,hm1,hm2⟩⟩,hcv⟩,⟨x0,x1,x2,x3,x4⟩⟩:=(zm.1 hp).1;rw[hbs,hms,yK,yq]at hcv;have g1:V.frzs a0=a0:=by rw[hbs,uf]
  have g2:V.frzs a1=a1:=by rw[hms,ke]
  have hbl:a0.length=bs.length:=by rw[hbs,jj]
  have hml:a1.length=ms.length:=by rw[hms,yf]
  have gb:∀k,a0.getD k (.agg [.slc false 2 (.int .i64 0) []])=.agg [.slc false 2 (.int .i64 0) (I (bs.getD k []))]:=fun k=>by rw[hbs,QA]
  have gm:∀k,a1.getD k (.slc false 2 (.int .i64 0) [])=.slc false 2 (.int .i64 0) (I (ms.getD k [])):=fun k=>by rw[hms,qM]
  have hm0:∀x y:Nat,(ms.getD x []).getD y 0=mm ms x y:=fun _ _=>rfl;obtain⟨n,hn⟩:∃n:Int,n=bs.length:=⟨_,rfl⟩;have n1:=hcv.n1;have n6:=hcv.n6;have hmn:ms.length=bs.length:=hcv.tab.len;have hbr:∀i,i<bs.length->Br (bs.getD i []):=fun i hi=>jL (hcv.br i hi);have rl:∀k,k<bs.length->(ms.getD k []).length=bs.length:=fun k hk=>(hcv.tab.row k hk).1;have mmr:∀i k,i<bs.length->k<bs.length->0<=mm ms i k/\mm ms i k<=200:=fun i k hi hk=>hcv.tab.range hi hk;have mmo:∀i k,i<bs.length->k<bs.length->i≠k->1<=mm ms i k/\mm ms i k<=200:=fun i k hi hk hne=>((hcv.tab.row i hi).2 k hk).2 hne;rw[hbl]at x1 x3;have hf0:zi3 a0 a1 a2 a3=qD bs ms a2.toNat a3.toNat:=by rw[zi3,hbs,hms,yK,yq]
  have h1:=hbr a2.toNat (by omega);have h2:=hbr a3.toNat (by omega);have h3:=mmo a2.toNat a3.toNat (by omega) (by omega) (by omega);have h4:=rl a2.toNat (by omega);obtain⟨u,hu⟩:∃u,u=bs.getD a2.toNat []:=⟨_,rfl⟩;obtain⟨v,hv⟩:∃v,v=bs.getD a3.toNat []:=⟨_,rfl⟩;rw[<-hu]at h1;rw[<-hv]at h2;rw[qD,<-hu,<-hv]at hf0;obtain⟨c,hc⟩:∃c,c=mm ms a2.toNat a3.toNat:=⟨_,rfl⟩;rw[<-hc]at h3 hf0;have hqm:zmI (I u) (I v) c:=⟨⟨_,rfl,h1⟩,⟨_,rfl,h2⟩,by omega,by omega⟩;have hfm:zgX (I u) (I v) c=zrZ u v c.toNat:=by rw[zgX,zr,zr]
  generalize zl9:zgX=zAB;generalize zlZ:zmI=zAu;refine zI (T:=tab) (B:=[(96,zoP zAB zAu)]) (Bi:=[]) [0,1,2,3,6] Tryz.func64 rfl rfl (by kernel_rfl) (ze rfl) mixed zR (by subst zl9 zlZ;exact(zn zir zB)) (by subst zl9 zlZ;exact zy) (by kernel_rfl) ?_;intro L lp rr hL hr hf hlp
  conv=>cbv
  simp only[zo hL,sQ,hbl,gb,Qt,YM,YQ,<-hu,<-hv,gm,hml,h4,hm0,<-hc];subst zl9 zlZ;rw[hr,hf0,hfm]
  (repeat' first|(exact yY _)|(exact jT rfl)|(exact qO _)|(apply And.intro)|(intro _))<;>(try first|exact True.intro|omega|rfl|(simp only[zi,zp,zj];omega))
  all_goals first|exact hqm.1|exact hqm.2.1|skip
 ·cases h
def zb1(n:Nat)(i:Int):Bool:=yi i 0 ((n:Int)-1)
def zth(f:List V->List V->Int->Bool)(q:List V->List V->Int->Prop):zK:=fun
 |[.agg [.slc false 57 (.agg [.slc false 2 (.int .i64 0) []]) a0,.slc false 29 (.slc false 2 (.int .i64 0) []) a1],.int .i64 a2]=>some ([q a0 a1 a2],.bool (f a0 a1 a2))
 |_=>none
def zw4(a _:List V)(i:Int):Bool:=zb1 a.length i
def zCw(a b:List V)(_:Int):Prop:=ZI a b
theorem zli:yJ Tryz.prog 63 (zth zw4 zCw):=by
 intro args ps r h hp;unfold zth at h;split at h
 ·rename_i a0 a1 a2;simp only[za,zb]at h;obtain⟨rfl,rfl⟩:=h;obtain⟨⟨⟨bs,hbs,hb1,hb2⟩,⟨ms,hms,hm1,hm2⟩⟩,hcv⟩:=(zm.1 hp).1;rw[hbs,hms,yK,yq]at hcv;have g1:V.frzs a0=a0:=by rw[hbs,uf]
  have g2:V.frzs a1=a1:=by rw[hms,ke]
  have hbl:a0.length=bs.length:=by rw[hbs,jj]
  have hml:a1.length=ms.length:=by rw[hms,yf]
  have gb:∀k,a0.getD k (.agg [.slc false 2 (.int .i64 0) []])=.agg [.slc false 2 (.int .i64 0) (I (bs.getD k []))]:=fun k=>by rw[hbs,QA]
  have gm:∀k,a1.getD k (.slc false 2 (.int .i64 0) [])=.slc false 2 (.int .i64 0) (I (ms.getD k [])):=fun k=>by rw[hms,qM]
  have hm0:∀x y:Nat,(ms.getD x []).getD y 0=mm ms x y:=fun _ _=>rfl;obtain⟨n,hn⟩:∃n:Int,n=bs.length:=⟨_,rfl⟩;have n1:=hcv.n1;have n6:=hcv.n6;have hmn:ms.length=bs.length:=hcv.tab.len;have hbr:∀i,i<bs.length->Br (bs.getD i []):=fun i hi=>jL (hcv.br i hi);have rl:∀k,k<bs.length->(ms.getD k []).length=bs.length:=fun k hk=>(hcv.tab.row k hk).1;have mmr:∀i k,i<bs.length->k<bs.length->0<=mm ms i k/\mm ms i k<=200:=fun i k hi hk=>hcv.tab.range hi hk;have mmo:∀i k,i<bs.length->k<bs.length->i≠k->1<=mm ms i k/\mm ms i k<=200:=fun i k hi hk hne=>((hcv.tab.row i hi).2 k hk).2 hne;have hf0:zw4 a0 a1 a2=yi a2 0 (n-1):=by rw[zw4,zb1,hbl,hn]
  generalize yp:yi=qP;refine zI (T:=tab) (B:=[(88,qW qP)]) (Bi:=[]) [0,1,2,4] Tryz.func63 rfl rfl (by kernel_rfl) (ze rfl) mixed zR (by subst yp;exact(zn JF zB)) (by subst yp;exact zy) (by kernel_rfl) ?_;intro L lp rr hL hr hf hlp
  conv=>cbv
  simp only[zo hL,sQ,hbl,<-hn];subst yp;rw[zl (n:=n-1) (by omega) (by omega),hr,hf0]
 ·cases h
def zlO(f:List V->List V->Int->Int->Int×Int)(q:List V->List V->Int->Int->Prop):zK:=fun
 |[.agg [.slc false 57 (.agg [.slc false 2 (.int .i64 0) []]) a0,.slc false 29 (.slc false 2 (.int .i64 0) []) a1],.int .i64 a2,.int .i64 a3]=>some ([q a0 a1 a2 a3],.tup [.int .i64 ((f a0 a1 a2 a3).1),.int .i64 ((f a0 a1 a2 a3).2)])
 |_=>none
noncomputable def zow(a b:List V)(i k:Int):Int×Int:=bif qA a b then(bif zb1 a.length i&&zb1 a.length k&& !(i==k)then(zi3 a b i k,0)else(0,2))else(0,1)
def zAN(a b:List V)(_ _:Int):Prop:=uu a b
theorem zhD{n:Nat}{i:Int}:zb1 n i=true↔0<=i/\i<n:=by
 simp only[zb1,yi,Bool.and_eq_true,decide_eq_true_eq];omega
theorem zd0:yJ Tryz.prog 26 (zlO zow zAN):=by
 intro args ps r h hp;unfold zlO at h;split at h
 ·rename_i a0 a1 a2 a3;simp only[za,zb]at h;obtain⟨rfl,rfl⟩:=h;have hq:uu a0 a1:=(zm.1 hp).1;have g1:=YK hq.1.isBB;have g2:=YJ hq.2.isII;generalize yn:qA=ji;generalize qn:uu=jM;generalize ztD:zw4=zDf;generalize ztz:zCw=zDb;generalize zfv:zi3=znN;generalize zfs:zzl=znM;refine zI (T:=tab) (B:=[(15,Yq ji jM),(63,zth zDf zDb),(64,zj8 znN znM)]) (Bi:=[]) [0,1,2,3,6,7] Tryz.func26 rfl rfl (by kernel_rfl) (ze rfl) mixed zR (by subst yn qn ztD ztz zfv zfs;exact(zn uv (zn zli (zn zgK zB)))) (by subst yn qn ztD ztz zfv zfs;exact zy) (by kernel_rfl) ?_;intro L lp rr hL hr hf hlp
  conv=>cbv
  simp only[zo hL,sQ,g1,g2];subst yn qn ztD ztz zfv zfs;refine⟨hq,fun h=>?_,fun h=>?_⟩
  ·rw[hr,zow,h];rfl
  have hv:=JG hq h;refine⟨hv,fun _=>hv,fun h2=>?_,fun h2=>?_⟩
  ·have hz:(zb1 a0.length a2&&zb1 a0.length a3&& !(a2==a3))=false:=by
    rcases h2 with(h2|h2)|h2
    ·rw[show zb1 a0.length a2=false from h2];rfl
    ·rw[show zb1 a0.length a3=false from h2,Bool.and_false];rfl
    ·rw[beq_iff_eq.2 h2,Bool.not_true,Bool.and_false]
   rw[hr,zow,h,hz];rfl
  ·obtain⟨⟨h3,h4⟩,h5⟩:=h2;have h3:zb1 a0.length a2=true:=h3;have h4:zb1 a0.length a3=true:=h4;have h3':=zhD.1 h3;have h4':=zhD.1 h4
   have hz:(zb1 a0.length a2&&zb1 a0.length a3&& !(a2==a3))=true:=by
    rw[h3,h4,beq_eq_false_iff_ne.2 h5];rfl
   refine⟨⟨hv,h3'.1,h3'.2,h4'.1,h4'.2,h5⟩,?_⟩;rw[hr,zow,h,hz];rfl
 ·cases h
end Go.Ax
namespace Go.Ax
open Go.Proofs
def dI(bs ms:List (List Int))(i:Nat)(s:Int):Nat->Int
 |0=>s
 |k+1=>W (dI bs ms i s k+qD bs ms i k)
def dOC(bs ms:List (List Int)):Nat->Int
 |0=>0
 |i+1=>dI bs ms i (W (dOC bs ms i+jI (jE (bs.getD i [])))) i
def zgs(a b:List V):Int:=dOC (jq a) (qS b) a.length
theorem zdO:yJ Tryz.prog 53 (zc5 zgs ZI):=by
 intro args ps r h hp;unfold zc5 at h;split at h
 ·rename_i a0 a1;simp only[za,zb]at h;obtain⟨rfl,rfl⟩:=h;have hv:ZI a0 a1:=(zm.1 hp).1;obtain⟨⟨⟨bs,hbs,hb1,hb2⟩,⟨ms,hms,hm1,hm2⟩⟩,hcv⟩:=(zm.1 hp).1;rw[hbs,hms,yK,yq]at hcv;have g1:V.frzs a0=a0:=by rw[hbs,uf]
  have g2:V.frzs a1=a1:=by rw[hms,ke]
  have hbl:a0.length=bs.length:=by rw[hbs,jj]
  have hml:a1.length=ms.length:=by rw[hms,yf]
  have gb:∀k,a0.getD k (.agg [.slc false 2 (.int .i64 0) []])=.agg [.slc false 2 (.int .i64 0) (I (bs.getD k []))]:=fun k=>by rw[hbs,QA]
  have gm:∀k,a1.getD k (.slc false 2 (.int .i64 0) [])=.slc false 2 (.int .i64 0) (I (ms.getD k [])):=fun k=>by rw[hms,qM]
  have hm0:∀x y:Nat,(ms.getD x []).getD y 0=mm ms x y:=fun _ _=>rfl;obtain⟨n,hn⟩:∃n:Int,n=bs.length:=⟨_,rfl⟩;have n1:=hcv.n1;have n6:=hcv.n6;have hmn:ms.length=bs.length:=hcv.tab.len;have hbr:∀i,i<bs.length->Br (bs.getD i []):=fun i hi=>jL (hcv.br i hi);have rl:∀k,k<bs.length->(ms.getD k []).length=bs.length:=fun k hk=>(hcv.tab.row k hk).1;have mmr:∀i k,i<bs.length->k<bs.length->0<=mm ms i k/\mm ms i k<=200:=fun i k hi hk=>hcv.tab.range hi hk;have mmo:∀i k,i<bs.length->k<bs.length->i≠k->1<=mm ms i k/\mm ms i k<=200:=fun i k hi hk hne=>((hcv.tab.row i hi).2 k hk).2 hne;have hf0:zgs a0 a1=dOC bs ms bs.length:=by rw[zgs,hbl,hbs,hms,yK,yq]
  generalize JQ:zc3=zbD;generalize jQ:Yz=ZF;generalize zbr:KT=zh9;generalize zo1:zww=zvK;generalize zfv:zi3=znN;generalize zfs:zzl=znM;refine zI (T:=tab) (B:=[(71,zns zbD ZF),(57,zek zh9 zvK),(64,zj8 znN znM)]) (Bi:=[]) [0,1,2,3,4,5,6,8,9,10,20,21] Tryz.func53 rfl rfl (by kernel_rfl) (ze rfl) mixed zR (by subst JQ jQ zbr zo1 zfv zfs;exact(zn zbR (zn zn9 (zn zgK zB)))) (by subst JQ jQ zbr zo1 zfv zfs;exact zy) (by kernel_rfl) ?_;intro L lp rr hL hr hf hlp;have esq:∀x,V.frzs (zbD (I x))=I (YG x):=fun x=>by rw[<-JQ,zc3,zr,zA]
  have qsq:∀x,Br x->ZF (I x):=fun x hx=>by rw[<-jQ];exact⟨_,rfl,hx⟩
  have edl:∀x,zh9 (I (YG x))=jI (jE x):=fun x=>by rw[<-zbr,KT,zr,zz2]
  have qdl:∀x,Br x->zvK (I (YG x)):=fun x hx=>by rw[<-zo1];exact⟨_,rfl,zuP hx,zBd hx⟩
  have hmt:∀i k,znN a0 a1 i k=qD bs ms i.toNat k.toNat:=fun i k=>by rw[<-zfv,zi3,hbs,hms,yK,yq]
  have hqt:∀i k:Int,0<=i->i<n->0<=k->k<n->i≠k->znM a0 a1 i k:=fun i k i0 i1 k0 k1 hne=>by rw[<-zfs];exact⟨hv,i0,by omega,k0,by omega,hne⟩
  conv=>cbv
  refine hlp (Int×Int) _ _ _ [1,3,8,9,10] (fun x=>[(1,none,.val (.box 27 (.agg [.slc false 57 (.agg [.slc false 2 (.int .i64 0) []]) a0,.slc false 29 (.slc false 2 (.int .i64 0) []) a1]))),(3,none,.val (.int .i64 x.1)),(8,none,.val (.slc false 57 (.agg [.slc false 2 (.int .i64 0) []]) a0)),(9,none,.val (.int .i64 n)),(10,none,.val (.int .i64 x.2))])
   (fun x=>0<=x.2/\x.2<=n/\x.1=dOC bs ms x.2.toNat) (fun x=>(n-x.2).toNat) ((0,0)) (by subst hL;rw[hn,<-hbl];rfl) ?_ ?_
  ·exact⟨by simp,by simp only;omega,rfl⟩
  rintro⟨s,i⟩ ⟨i0,i1,hI⟩ hfx ag hag;simp only at i0 i1 hI
  conv=>cbv
  simp only[zo hL,sQ,hbl,gb,Qt,YM,YQ,esq,edl];refine⟨fun h2=>?_,fun h2=>?_⟩
  ·have hb:=hbr i.toNat (by omega);obtain⟨d,hd⟩:∃d,d=W (s+jI (jE (bs.getD i.toNat []))):=⟨_,rfl⟩;refine⟨i0,by omega,qsq _ hb,qdl _ hb,?_⟩;rw[show IntKind.wrap .i64 (s+jI (jE (bs.getD i.toNat [])))=d from hd.symm]
   refine hlp (Int×Int) _ _ _ [1,3,4,8,9,10,20,21] (fun x=>[(1,none,.val (.box 27 (.agg [.slc false 57 (.agg [.slc false 2 (.int .i64 0) []]) a0,.slc false 29 (.slc false 2 (.int .i64 0) []) a1]))),(3,none,.val (.int .i64 x.1)),(4,none,.val (.int .i64 i)),(8,none,.val (.slc false 57 (.agg [.slc false 2 (.int .i64 0) []]) a0)),(9,none,.val (.int .i64 n)),(10,none,.val (.int .i64 i)),(20,none,.val (.int .i64 i)),(21,none,.val (.int .i64 x.2))])
    (fun x=>0<=x.2/\x.2<=i/\x.1=dI bs ms i.toNat d x.2.toNat) (fun x=>(i-x.2).toNat) ((d,0)) (by subst hL;rfl) ?_ ?_
   ·exact⟨by simp,by simp only;omega,rfl⟩
   rintro⟨t,k⟩ ⟨k0,k1,hK⟩ hfx2 ag2 hag2;simp only at k0 k1 hK
   conv=>cbv
   simp only[zo hL,sQ,g1,g2,hmt];refine⟨fun h3=>⟨hqt _ _ i0 h2 k0 (by omega) (by omega),?_⟩,fun h3=>?_⟩
   ·rw[zl (n:=k+1) (by omega) (by omega)];refine hag2 (W (t+qD bs ms i.toNat k.toNat),k+1) ⟨by simp only;omega,by simp only;omega,?_⟩ (by simp only;omega);simp only[zF k0];rw[dI,hK]
   ·rw[zl (n:=i+1) (by omega) (by omega)];refine hag (t,i+1) ⟨by simp only;omega,by simp only;omega,?_⟩ (by simp only;omega);simp only[zF i0];rw[dOC,<-hI,<-hd,hK,show k.toNat=i.toNat by omega]
  ·rw[hr,hf0,hI,show i.toNat=bs.length by omega]
 ·cases h
def znf(a b:List V):Int:=W (W (W (2*zgs a b)-a.length)+1)
theorem ziD:yJ Tryz.prog 54 (zc5 znf ZI):=by
 intro args ps r h hp;unfold zc5 at h;split at h
 ·rename_i a0 a1;simp only[za,zb]at h;obtain⟨rfl,rfl⟩:=h;have hv:ZI a0 a1:=(zm.1 hp).1;have g1:=YK hv.1.1.isBB;have g2:=YJ hv.1.2.isII;generalize zfw:zgs=zt5;generalize qa:ZI=ur;refine zI (T:=tab) (B:=[(53,zc5 zt5 ur)]) (Bi:=[]) [0,1,2] Tryz.func54 rfl rfl (by kernel_rfl) (ze rfl) mixed zR (by subst zfw qa;exact(zn zdO zB)) (by subst zfw qa;exact zy) (by kernel_rfl) ?_;intro L lp rr hL hr hf hlp
  conv=>cbv
  simp only[zo hL,sQ,g1,g2];subst zfw qa;exact⟨hv,hr.symm⟩
 ·cases h
noncomputable def zsz(a b:List V):Int×Int:=bif qA a b then(zgs a b,0)else(0,1)
noncomputable def zlJ(a b:List V):Int×Int:=bif qA a b then(znf a b,0)else(0,1)
theorem zkr:yJ Tryz.prog 17 (zcb zsz uu):=by
 intro args ps r h hp;unfold zcb at h;split at h
 ·rename_i a0 a1;simp only[za,zb]at h;obtain⟨rfl,rfl⟩:=h;have hq:uu a0 a1:=(zm.1 hp).1;have g1:=YK hq.1.isBB;have g2:=YJ hq.2.isII;generalize yn:qA=ji;generalize qn:uu=jM;generalize zfw:zgs=zt5;generalize qa:ZI=ur;refine zI (T:=tab) (B:=[(15,Yq ji jM),(53,zc5 zt5 ur)]) (Bi:=[]) [0,1,2,3] Tryz.func17 rfl rfl (by kernel_rfl) (ze rfl) mixed zR (by subst yn qn zfw qa;exact(zn uv (zn zdO zB))) (by subst yn qn zfw qa;exact zy) (by kernel_rfl) ?_;intro L lp rr hL hr hf hlp
  conv=>cbv
  simp only[zo hL,sQ,g1,g2];subst yn qn zfw qa;refine⟨hq,fun h=>?_,fun h=>⟨JG hq h,?_⟩⟩
  ·rw[hr,zsz,h];rfl
  ·rw[hr,zsz,h];rfl
 ·cases h
theorem ziF:yJ Tryz.prog 18 (zcb zlJ uu):=by
 intro args ps r h hp;unfold zcb at h;split at h
 ·rename_i a0 a1;simp only[za,zb]at h;obtain⟨rfl,rfl⟩:=h;have hq:uu a0 a1:=(zm.1 hp).1;have g1:=YK hq.1.isBB;have g2:=YJ hq.2.isII;generalize yn:qA=ji;generalize qn:uu=jM;generalize zpg:znf=zCb;generalize qa:ZI=ur;refine zI (T:=tab) (B:=[(15,Yq ji jM),(54,zc5 zCb ur)]) (Bi:=[]) [0,1,2,3] Tryz.func18 rfl rfl (by kernel_rfl) (ze rfl) mixed zR (by subst yn qn zpg qa;exact(zn uv (zn ziD zB))) (by subst yn qn zpg qa;exact zy) (by kernel_rfl) ?_;intro L lp rr hL hr hf hlp
  conv=>cbv
  simp only[zo hL,sQ,g1,g2];subst yn qn zpg qa;refine⟨hq,fun h=>?_,fun h=>⟨JG hq h,?_⟩⟩
  ·rw[hr,zlJ,h];rfl
  ·rw[hr,zlJ,h];rfl
 ·cases h
end Go.Ax
