import Derived.Test.YtiepfglppnhpgaaGreatB03p3
import Derived.Test.YtiepfglppnhpgaaGreatB01p3
import Derived.Test.YtiepfglppnhpgaaGreatB02p3
set_option linter.all false
set_option maxRecDepth 100000
set_option maxHeartbeats 1000000
open Bool renaming and_eq_false_iff->jN
open List renaming cons_append->yf,ext_getElem?->yB,getD_eq_getElem?_getD->zd,getElem?_eq_getElem->ze,getElem?_eq_none->zy,length_cons->zj,length_nil->zu,mem_cons->zJ,mem_singleton->yd,nil_append->yV,nodup_nil->zi9,not_mem_nil->uh
open Option.some renaming injEq->za
open Prod.mk renaming injEq->zb
/-
 Proximity and intersection matrices of clusters,both sides. No conditions but those of the contracts.
-/
namespace Go.Ax
open Go.Proofs
theorem ifc{a b:Prop}[Decidable a][Decidable b](h:a↔b){x y:Int}:(if a then x else y)=if b then x else y:=by
 by_cases ha:a
 ·rw[if_pos ha,if_pos (h.1 ha)]
 ·rw[if_neg ha,if_neg (fun hb=>ha (h.2 hb))]
theorem ClP.low{P S Q:List Int}(h:ClP P S Q){i:Nat}(hi:i<P.length): -1<=P.getD i 0/\P.getD i 0<i/\-1<=S.getD i 0/\(0<i->S.getD i 0<i)/\(0<i->0<=P.getD i 0)/\(i=0->P.getD i 0= -1/\S.getD i 0= -1):=by
 obtain⟨h1,h2,h3,h4⟩:=zk9 (i:=i) (fun t ht=>h.place t (by omega)) i (Nat.le_refl _);refine⟨h1,h2,h3,h4,fun h0=>?_,fun h0=>?_⟩
 ·exact((zaT (by omega)).1 (h.place i hi)).1.1
 ·subst h0;exact zcC.1 (h.place 0 hi)
def Zd(a b c:List V):Prop:=Yn a b c/\ClP (yD a) (yD b) (yD c)
theorem zfS{a b c:List V}(h:Yn a b c)(h2:yZ a b c=true):Zd a b c:=⟨h,QJ.1 h2⟩
def yR(P S:List Int)(i:Nat):List Int:=if i=0 then[]else(if 0<=S.getD i 0 then[S.getD i 0]else[])++[P.getD i 0]
def QB(P S:List Int)(k n:Nat):List (List Int):=yQ (fun i=>if i<k then yR P S i else[]) n
def zdQ(f:List V->List V->List V->List V)(q:List V->List V->List V->Prop):zO:=fun
 |[.agg [.slc false 2 (.int .i64 0) a0,.slc false 2 (.int .i64 0) a1,.slc false 2 (.int .i64 0) a2]]=>some ([q a0 a1 a2],.slc true 24 (.slc true 2 (.int .i64 0) []) (f a0 a1 a2))
 |_=>none
def zkg(a b _:List V):List V:=II true (QB (yD a) (yD b) a.length a.length)
theorem zCo{P S:List Int}{k n:Nat}(hk:k<n)(h0:k≠0):(QB P S k n).set k ((if 0<=S.getD k 0 then[S.getD k 0]else[])++[P.getD k 0])=QB P S (k+1) n:=by
 rw[QB,zed _ _ hk,QB];refine qE fun j hj=>?_;by_cases h:j=k
 ·subst h;rw[if_pos rfl,if_pos (show j<j+1 by omega),yR,if_neg h0]
 ·rw[if_neg h];by_cases h2:j<k
  ·rw[if_pos h2,if_pos (by omega)]
  ·rw[if_neg h2,if_neg (by omega)]
theorem zFm{P S:List Int}{k n:Nat}(hk:k<n):(QB P S k n).getD k []=[]:=by rw[QB,jp _ _ _ _ hk,if_neg (Nat.lt_irrefl _)]
theorem zaS:yM Tryz.prog 98 (zdQ zkg Zd):=by
 intro args ps r h hp;unfold zdQ at h;split at h
 ·rename_i a0 a1 a2;cases h;have hqv:Zd a0 a1 a2:=(zp.1 hp).1;obtain⟨⟨⟨P,hP⟩,⟨S,hS⟩,⟨Q,hQ⟩⟩,hcl⟩:=id hqv;rw[hP,hS,hQ,zl,zl,zl]at hcl;have g0:V.frzs a0=a0:=by rw[hP,zt]
  have g1:V.frzs a1=a1:=by rw[hS,zt]
  have g2:V.frzs a2=a2:=by rw[hQ,zt]
  have hpl:a0.length=P.length:=by rw[hP,zg]
  have hsl:a1.length=P.length:=by rw[hS,zg,hcl.sl]
  have hql:a2.length=P.length:=by rw[hQ,zg,hcl.ql]
  have gp:∀k,a0.getD k (.int .i64 0)=.int .i64 (P.getD k 0):=fun k=>by rw[hP,zG]
  have gs:∀k,a1.getD k (.int .i64 0)=.int .i64 (S.getD k 0):=fun k=>by rw[hS,zG]
  have gq:∀k,a2.getD k (.int .i64 0)=.int .i64 (Q.getD k 0):=fun k=>by rw[hQ,zG]
  obtain⟨n,hn⟩:=qEI P.length;have n1:=hcl.n1;have n24:=hcl.n24;have low:=fun t ht=>hcl.low (i:=t) ht;have hf0:zkg a0 a1 a2=II true (QB P S P.length P.length):=by rw[zkg,hpl,hP,hS,zl,zl]
  refine zH (B:=[]) (Bi:=[]) [3000006000,3000006001,3000007000,3000007001,0,1,2,3,4] Tryz.func98 rfl rfl zF zA ?_;intro L lp rr hL hr hf hlp
  conv=>cbv
  simp only[zo hL,sQ,hpl,<-hn];obtain⟨s0,hs0⟩:=qEx (List.replicate n.toNat (V.slc true 2 (V.int IntKind.i64 0) []))
  have hs00:s0=II true (QB P S 1 P.length):=by
   have e:QB P S 1 P.length=List.replicate P.length []:=by
    rw[List.eq_replicate_iff];refine⟨yi _ _,fun b hb=>?_⟩;simp only[QB,yQ,List.mem_map,List.mem_range]at hb;obtain⟨x,hx,rfl⟩:=hb;by_cases h:x<1
    ·rw[if_pos h,yR,if_pos (by omega)]
    ·rw[if_neg h]
   rw[hs0,e,zg6,hn,Int.toNat_natCast];rfl
  rw[<-hs0];refine⟨by omega,by omega,by omega,?_⟩
  refine hlp (List V×Int) _ _ _ [1,3,4] (fun x=>[(wJ1 1 a0 a1 a2),(3,none,.val (.slc true 24 (.slc true 2 (.int .i64 0) []) x.1)),(wJ0 4 x.2)])
   (fun x=>1<=x.2/\x.2<=n/\x.1=II true (QB P S x.2.toNat P.length)) (fun x=>(n-x.2).toNat) ((s0,1)) (by subst hL;rfl) ?_ ?_
  ·exact⟨by simp,by simp only;omega,hs00⟩
  rintro⟨ls,i⟩ ⟨i0,i1,hI⟩ hfx ag hag;simp only at i0 i1 hI;have hll:ls.length=P.length:=by rw[hI,ye,QB,yi]
  have gls:∀j,ls.getD j (.slc true 2 (.int .i64 0) [])=.slc true 2 (.int .i64 0) (I ((QB P S i.toNat P.length).getD j [])):=fun j=>by rw[hI,qu]
  conv=>cbv
  simp only[zo hL,sQ,hll,gls,gp,gs,hpl,hsl,<-hn];refine⟨fun h2=>?_,fun h2=>?_⟩
  ·have i0':0<=i:=(by omega);obtain⟨k,hk⟩:=qEx i.toNat;have hkn:k<P.length:=(by omega);have hst:=zCo (P:=P) (S:=S) hkn (by omega);have hat:=zFm (P:=P) (S:=S) hkn;have hs1:∀x,(ls.set k x).getD k (.slc true 2 (.int .i64 0) [])=x:=fun x=>(by rw[zgi (by omega),if_pos rfl]);have snoc:∀(xs:List Int) (x:Int),I xs++[V.int .i64 x]=I (xs++[x]):=fun xs x=>(by simp[I]);have hole1:OkS tab 24 (V.hole 1):=.inr ⟨_,rfl,rfl,rfl⟩
   have sol:∀n:Int,∀x:V,x∈[V.int .i64 n]->x.solid=true:=fun n x hx=>by
    simp only[yd]at hx;subst hx;rfl
   rw[<-hk]at hI;simp only[<-hk,hat,List.set_set,List.length_set,hs1,snoc,ziI,zcQ,zg,hll,true_and];rw[zn (n:=i+1)];have q1:∀v:V,(([]:List Int).length:Int)+([v].length:Int)<=2147483647:=fun v=>(by simp only[zj,zu];omega);have q2:∀(x:Int) (v:V),(([]++[x]:List Int).length:Int)+([v].length:Int)<=2147483647:=fun x v=>(by simp only[yV,zj,zu];omega);have hip:i<(P.length:Int):=by omega
   have fin:∀l:List Int,l=(if 0<=S.getD k 0 then[S.getD k 0]else[])++[P.getD k 0]->(1<=i+1/\i+1<=n/\ls.set k (.slc true 2 (.int .i64 0) (I l))=II true (QB P S (i+1).toNat P.length)):=fun l hl=>by
    rw[ya i0',<-hk,hI,zd5,hl,hst];exact⟨by omega,by omega,rfl⟩
   refine⟨i0',h2,fun h3=>?_,fun h3=>?_⟩
   ·exact⟨i0',h2,hkn,i0',h2,hkn,rfl,q1 _,sol _,i0',hip,hkn,hole1,i0',hip,hkn,i0',h2,hkn,rfl,q2 _ _,sol _,i0',hip,hkn,hole1,hag (_,i+1) (fin _ (by rw[if_pos h3];rfl)) (by simp only;omega)⟩
   ·exact⟨i0',h2,hkn,i0',h2,hkn,rfl,q1 _,sol _,i0',hip,hkn,hole1,hag (_,i+1) (fin _ (by rw[if_neg h3])) (by simp only;omega)⟩
  ·rw[hr,hf0,hI,show i.toNat=P.length by omega]
 ·cases h
theorem zq8{P S Q:List Int}(h:ClP P S Q){k b:Nat}(hk:k<P.length):(b:Int)∈yR P S k↔P.getD k 0=b\/S.getD k 0=b:=by
 obtain⟨l1,l2,l3,l4,l5,l6⟩:=h.low hk;rw[yR];by_cases h0:k=0
 ·rw[if_pos h0];obtain⟨h1,h2⟩:=l6 h0;simp only[uh,false_iff];omega
 ·rw[if_neg h0];by_cases h1:0<=S.getD k 0
  ·rw[if_pos h1];simp only[yf,yV,zJ,uh,or_false];omega
  ·rw[if_neg h1];simp only[yV,zJ,uh,or_false];omega
theorem QH{P S Q:List Int}(h:ClP P S Q){k:Nat}(hk:k<P.length){x:Int}(hx:x∈yR P S k):0<=x/\x<k:=by
 obtain⟨l1,l2,l3,l4,l5,l6⟩:=h.low hk;rw[yR]at hx;by_cases h0:k=0
 ·rw[if_pos h0]at hx;simp at hx
 ·rw[if_neg h0]at hx;have h4:=l4 (by omega);have h5:=l5 (by omega);by_cases h1:0<=S.getD k 0
  ·rw[if_pos h1]at hx;simp only[yf,yV,zJ,uh,or_false]at hx;omega
  ·rw[if_neg h1]at hx;simp only[yV,zJ,uh,or_false]at hx;omega
theorem zk7(P S:List Int)(k:Nat):(yR P S k).length<=2:=by
 rw[yR];split
 ·simp
 ·split<;>simp
structure GrN (n:Nat) (es:List (List Int)):Prop where
 n1:1<=n
 n2:n<=40
 el:es.length<=400
 eok:zr4 n none es=true
 ed:∀e∈es,zFP n e
 lt:∀e∈es,e0 e<e1 e
def zup(f:List V->List V->List V->Int->Int)(q:List V->List V->List V->Int->Prop):zO:=fun
 |[.agg [.slc false 2 (.int .i64 0) a0,.slc false 2 (.int .i64 0) a1,.slc false 2 (.int .i64 0) a2],.int .i64 a3]=>some ([q a0 a1 a2 a3],.int .i64 (f a0 a1 a2 a3))
 |_=>none
theorem zh7{P S Q:List Int}(h:ClP P S Q){k:Nat}(hk:k<P.length):(yR P S k).Nodup:=by
 obtain⟨l1,l2,l3,l4,l5,l6⟩:=h.low hk;rw[yR];by_cases h0:k=0
 ·rw[if_pos h0];exact zi9
 ·rw[if_neg h0];by_cases h1:0<=S.getD k 0
  ·rw[if_pos h1]
   have hne:S.getD k 0≠P.getD k 0:=by
    have h5:=l5 (by omega);obtain⟨_,h3⟩:=(zaT h0).1 (h.place k hk);obtain⟨m1,m2,m3,m4,m5,m6⟩:=h.low (i:=(P.getD k 0).toNat) (by omega);by_cases hz:(P.getD k 0).toNat=0
    ·have:=m6 hz;omega
    ·have:=m4 (by omega);omega
   simp only[yf,yV,List.nodup_cons,yd,uh,not_false_eq_true,zi9,and_true];exact hne
  ·rw[if_neg h1];simp
def Ya(pm:List (List Int))(w:List Int):Nat->Nat->Int
 |0,a=>w.getD a 0
 |j+1,a=>if(a:Int)∈pm.getD j []then W (Ya pm w j a-w.getD j 0)else Ya pm w j a
def exB(pm:List (List Int))(w:List Int)(j y:Nat)(a:Nat):Int:=if(a:Int)∈(pm.getD j []).take y then W (Ya pm w j a-w.getD j 0)else Ya pm w j a
def zuh(f:List V->List V->List V)(q:List V->List V->Prop):zO:=fun
 |[.slc false 24 (.slc false 2 (.int .i64 0) []) a0,.slc false 2 (.int .i64 0) a1]=>some ([q a0 a1],.slc true 2 (.int .i64 0) (f a0 a1))
 |_=>none
def zo1(a b:List V):List V:=I (yQ (Ya (zbR a) (yD b) a.length) b.length)
def zyb(a b:List V):Prop:=∃P S Q,ClP P S Q/\a=II false (QB P S P.length P.length)/\b=I Q
theorem zmC:yM Tryz.prog 109 (zuh zo1 zyb):=by
 intro args ps r h hp;unfold zuh at h;split at h
 ·rename_i a0 a1;cases h;obtain⟨P,S,Q,hcl,ha0,ha1⟩:zyb a0 a1:=(zp.1 hp).1;obtain⟨pm,hpm⟩:=qEx (QB P S P.length P.length);rw[<-hpm]at ha0;have hpml:pm.length=P.length:=by rw[hpm,QB,yi]
  have g0:V.frzs a0=a0:=by rw[ha0,jy]
  have g1:V.frzs a1=a1:=by rw[ha1,zt]
  have hl0:a0.length=P.length:=by rw[ha0,ye,hpml]
  have hl1:a1.length=P.length:=by rw[ha1,zg,hcl.ql]
  have gpm:∀k,a0.getD k (.slc false 2 (.int .i64 0) [])=.slc false 2 (.int .i64 0) (I (pm.getD k [])):=fun k=>by rw[ha0,qu]
  have gq:∀k,a1.getD k (.int .i64 0)=.int .i64 (Q.getD k 0):=fun k=>by rw[ha1,zG]
  have hf0:zo1 a0 a1=I (yQ (Ya pm Q P.length) P.length):=by rw[zo1,hl0,hl1,ha0,ha1,qB,zl]
  obtain⟨n,hn⟩:=qEI P.length;have n1:=hcl.n1;have n24:=hcl.n24;generalize qO:same=jK,yu:qU=yP;refine zH (B:=[(85,kD jK yP)]) (Bi:=[]) [0,1,4,5,6,7,9,12,13,14,19,20,21] Tryz.func109 rfl rfl (by subst qO yu;exact(zm zlY zF)) zA ?_;intro L lp rr hL hr hf hlp;have Es:jK a1=a1:=by rw[<-qO,same]
  conv=>cbv
  simp only[zo hL,sQ,g0,g1,hl0,hl1,<-hn,Es];refine⟨by rw[<-yu];exact⟨⟨_,ha1⟩,by omega⟩,?_⟩
  refine hlp (List V×Int) _ _ _ [1,5,12,13,14] (fun x=>[(wJ3 1 a1),(wJ2 5 x.1),(12,none,.val (.slc false 24 (.slc false 2 (.int .i64 0) []) a0)),(wJ0 13 n),(wJ0 14 x.2)])
   (fun x=>0<=x.2/\x.2<=n/\x.1=I (yQ (Ya pm Q x.2.toNat) P.length)) (fun x=>(n-x.2).toNat) ((a1,0)) (by subst hL;rw[hn,<-hl0];rfl) ?_ ?_
  ·refine⟨by simp,by simp only;omega,?_⟩;simp only;rw[ha1];congr 1;apply yB;intro j;by_cases hj:j<P.length
   ·rw[kU _ _ _ hj,ze (by have:=hcl.ql;omega)];simp[Ya,zd,ze (show j<Q.length by have:=hcl.ql;omega)]
   ·rw[zy (by have:=hcl.ql;omega),zy (by rw[yi];omega)]
  rintro⟨ls,j⟩ ⟨j0,j1,hJ⟩ hfx ag hag;simp only at j0 j1 hJ
  conv=>cbv
  simp only[zo hL,sQ,hl0,hl1,gpm];refine⟨fun h2=>?_,fun h2=>?_⟩
  ·obtain⟨jt,hjt⟩:=qEx j.toNat;have hjn:jt<P.length:=(by omega);rw[<-hjt]at hJ;obtain⟨px,hpx⟩:=qEx (pm.getD jt []);have hpp:px=yR P S jt:=(by rw[hpx,hpm,QB,jp _ _ _ _ hjn,if_pos hjn]);have hpl2:px.length<=2:=(by rw[hpp];exact zk7 _ _ _);obtain⟨m,hm⟩:=qEI px.length;obtain⟨vx,hvx⟩:=qEx (I px);have hvxl:vx.length=px.length:=(by rw[hvx,zg]);have gvx:∀k,vx.getD k (.int .i64 0)=.int .i64 (px.getD k 0):=fun k=>(by rw[hvx,zG]);simp only[<-hjt,<-hpx,<-hm,<-hvx];refine⟨j0,by omega,?_⟩
   refine hlp (List V×Int) _ _ _ [1,5,6,12,13,14,19,20,21] (fun x=>[(wJ3 1 a1),(wJ2 5 x.1),(wJ0 6 j),(12,none,.val (.slc false 24 (.slc false 2 (.int .i64 0) []) a0)),(wJ0 13 n),(wJ0 14 j),(wJ3 19 vx),(wJ0 20 m),(wJ0 21 x.2)])
    (fun x=>0<=x.2/\x.2<=m/\x.1=I (yQ (exB pm Q jt x.2.toNat) P.length)) (fun x=>(m-x.2).toNat) ((ls,0)) (by subst hL;rfl) ?_ ?_
   ·refine⟨by simp,by simp only;omega,?_⟩;simp only;rw[hJ];congr 1
   rintro⟨rs,y⟩ ⟨y0,y1,hY⟩ hfx2 ag2 hag2;simp only at y0 y1 hY;have hrl:rs.length=P.length:=(by rw[hY,zg,yi]);have grs:∀k,rs.getD k (.int .i64 0)=.int .i64 ((yQ (exB pm Q jt y.toNat) P.length).getD k 0):=fun k=>by rw[hY,zG]
   conv=>cbv
   simp only[zo hL,sQ,hl0,hl1,hrl,grs,gq,<-hjt,hvxl,gvx];refine⟨fun h3=>?_,fun h3=>?_⟩
   ·have hyl:y.toNat<px.length:=(by omega);obtain⟨tt,htt⟩:=qEx (px.getD y.toNat 0);have hin:=QH hcl hjn (x:=tt) (by rw[<-hpp,htt,zd,ze hyl];exact List.getElem_mem _);obtain⟨t,ht⟩:=qEx tt.toNat
    have htk:px.take (y.toNat+1)=px.take y.toNat++[tt]:=by
     rw[List.take_succ,htt,zd,ze hyl];rfl
    have hnd:(px.take y.toNat++[tt]).Nodup:=by
     rw[<-htk,hpp];exact(zh7 hcl hjn).sublist (List.take_sublist _ _)
    have hnot:tt∉px.take y.toNat:=fun hm'=>(List.nodup_append.1 hnd).2.2 tt hm' tt (by simp) rfl;have htn:t<P.length:=(by omega);have hct:(t:Int)=tt:=(by omega);simp only[<-htt,<-ht]
    have hgv:(yQ (exB pm Q jt y.toNat) P.length).getD t 0=Ya pm Q jt t:=by
     rw[jp _ _ _ _ htn,exB,<-hpx,hct,if_neg hnot]
    rw[zn (n:=y+1),hgv];refine⟨y0,by omega,hin.1,by omega,htn,j0,by omega,hin.1,by omega,htn,?_⟩;refine hag2 (_,y+1) ⟨by simp only;omega,by simp only;omega,?_⟩ (by simp only;omega);simp only[ya y0];rw[hY,ua,zed _ _ htn];congr 1;refine qE fun a ha=>?_;rw[exB,exB,<-hpx,htk];by_cases h5:a=t
    ·rw[if_pos h5,h5,hct,if_pos (by simp)]
    ·rw[if_neg h5];refine ifc ?_;simp only[List.mem_append,yd];constructor
     ·exact .inl
     ·rintro(h|h)
      ·exact h
      ·omega
   ·rw[zn (n:=j+1)];refine hag (rs,j+1) ⟨by simp only;omega,by simp only;omega,?_⟩ (by simp only;omega);simp only[ya j0];rw[hY,<-hjt];congr 1;refine qE fun a ha=>?_;rw[exB,<-hpx,List.take_of_length_le (by omega),Ya,hpx]
  ·rw[hr,hf0,hJ,show j.toNat=P.length by omega]
 ·cases h
def zr7(f:List V->List V->List V->List V)(q:List V->List V->List V->Prop):zO:=fun
 |[.agg [.slc false 2 (.int .i64 0) a0,.slc false 2 (.int .i64 0) a1,.slc false 2 (.int .i64 0) a2]]=>some ([q a0 a1 a2],.slc true 2 (.int .i64 0) (f a0 a1 a2))
 |_=>none
def exL(P S Q:List Int)(a:Nat):Int:=Ya (QB P S P.length P.length) Q P.length a
def zdJ(a b c:List V):List V:=I (yQ (exL (yD a) (yD b) (yD c)) a.length)
theorem zhs:yM Tryz.prog 82 (zr7 zdJ Zd):=by
 intro args ps r h hp;unfold zr7 at h;split at h
 ·rename_i a0 a1 a2;cases h;have hqv:Zd a0 a1 a2:=(zp.1 hp).1;obtain⟨⟨⟨P,hP⟩,⟨S,hS⟩,⟨Q,hQ⟩⟩,hcl⟩:=id hqv;rw[hP,hS,hQ,zl,zl,zl]at hcl;have g0:V.frzs a0=a0:=by rw[hP,zt]
  have g1:V.frzs a1=a1:=by rw[hS,zt]
  have g2:V.frzs a2=a2:=by rw[hQ,zt]
  have hpl:a0.length=P.length:=by rw[hP,zg]
  have hsl:a1.length=P.length:=by rw[hS,zg,hcl.sl]
  have hql:a2.length=P.length:=by rw[hQ,zg,hcl.ql]
  have gp:∀k,a0.getD k (.int .i64 0)=.int .i64 (P.getD k 0):=fun k=>by rw[hP,zG]
  have gs:∀k,a1.getD k (.int .i64 0)=.int .i64 (S.getD k 0):=fun k=>by rw[hS,zG]
  have gq:∀k,a2.getD k (.int .i64 0)=.int .i64 (Q.getD k 0):=fun k=>by rw[hQ,zG]
  obtain⟨n,hn⟩:=qEI P.length;have n1:=hcl.n1;have n24:=hcl.n24;have low:=fun t ht=>hcl.low (i:=t) ht;have hf0:zdJ a0 a1 a2=I (yQ (exL P S Q) P.length):=by rw[zdJ,hpl,hP,hS,hQ,zl,zl,zl]
  generalize zjl:zkg=zjt,uJ:Zd=Zm,zxe:zo1=zxD,zwX:zyb=zEw;refine zH (B:=[(98,zdQ zjt Zm),(109,zuh zxD zEw)]) (Bi:=[]) [0,1,2] Tryz.func82 rfl rfl (by subst zjl uJ zxe zwX;exact(zm zaS (zm zmC zF))) zA ?_;intro L lp rr hL hr hf hlp;have Ep:zjt a0 a1 a2=II true (QB P S P.length P.length):=by rw[<-zjl,zkg,hpl,hP,hS,zl,zl]
  have Ex:zxD (II false (QB P S P.length P.length)) a2=I (yQ (exL P S Q) P.length):=by rw[<-zxe,zo1,ye,QB,yi,hql,hQ,qB,zl];rfl
  conv=>cbv
  simp only[zo hL,sQ,g0,g1,g2,Ep,jy,Ex];refine⟨by rw[<-uJ];exact hqv,by rw[<-zwX];exact⟨P,S,Q,hcl,rfl,hQ⟩,by simp,?_⟩;rw[hr,hf0]
 ·cases h
def zgS(f:List V->List V->List V->List V->List V)(q:List V->List V->List V->List V->Prop):zO:=fun
 |[.agg [.slc false 2 (.int .i64 0) a0,.slc false 2 (.int .i64 0) a1,.slc false 2 (.int .i64 0) a2],.slc false 2 (.int .i64 0) a3]=>some ([q a0 a1 a2 a3],.slc true 2 (.int .i64 0) (f a0 a1 a2 a3))
 |_=>none
def zdI(a b _ d:List V):List V:=I (yQ (exL (yD a) (yD b) (yD d)) a.length)
def zrV(a b c d:List V):Prop:=Zd a b c/\d=c
theorem zgl:yM Tryz.prog 89 (zgS zdI zrV):=by
 intro args ps r h hp;unfold zgS at h;split at h
 ·rename_i a0 a1 a2 a3;cases h;obtain⟨hqv,h3⟩:zrV a0 a1 a2 a3:=(zp.1 hp).1;subst h3;obtain⟨⟨⟨P,hP⟩,⟨S,hS⟩,⟨Q,hQ⟩⟩,hcl⟩:=id hqv;rw[hP,hS,hQ,zl,zl,zl]at hcl;have g0:V.frzs a0=a0:=by rw[hP,zt]
  have g1:V.frzs a1=a1:=by rw[hS,zt]
  have g2:V.frzs a3=a3:=by rw[hQ,zt]
  have hpl:a0.length=P.length:=by rw[hP,zg]
  have hsl:a1.length=P.length:=by rw[hS,zg,hcl.sl]
  have hql:a3.length=P.length:=by rw[hQ,zg,hcl.ql]
  have gp:∀k,a0.getD k (.int .i64 0)=.int .i64 (P.getD k 0):=fun k=>by rw[hP,zG]
  have gs:∀k,a1.getD k (.int .i64 0)=.int .i64 (S.getD k 0):=fun k=>by rw[hS,zG]
  have gq:∀k,a3.getD k (.int .i64 0)=.int .i64 (Q.getD k 0):=fun k=>by rw[hQ,zG]
  obtain⟨n,hn⟩:=qEI P.length;have n1:=hcl.n1;have n24:=hcl.n24;have low:=fun t ht=>hcl.low (i:=t) ht;obtain⟨pm,hpm⟩:=qEx (QB P S P.length P.length);have hf0:zdI a0 a1 a3 a3=I (yQ (Ya pm Q P.length) P.length):=by rw[zdI,hpl,hP,hS,hQ,zl,zl,zl,hpm];rfl
  have hmem:∀j a:Nat,j<P.length->((a:Int)∈pm.getD j []↔P.getD j 0=a\/S.getD j 0=a):=fun j a hj=>by
   rw[hpm,QB,jp _ _ _ _ hj,if_pos hj];exact zq8 hcl hj
  generalize qO:same=jK,yu:qU=yP;refine zH (B:=[(105,kD jK yP)]) (Bi:=[]) [0,1,2,4,5,6] Tryz.func89 rfl rfl (by subst qO yu;exact(zm zfh zF)) zA ?_;intro L lp rr hL hr hf hlp;have Es:jK a3=a3:=by rw[<-qO,same]
  conv=>cbv
  simp only[zo hL,sQ,g0,g1,g2,Es];refine⟨by rw[<-yu];exact⟨⟨_,hQ⟩,by omega⟩,?_⟩
  refine hlp (List V×Int) _ _ _ [1,2,5,6] (fun x=>[(wJ3 1 a3),(wJ1 2 a0 a1 a3),(wJ2 5 x.1),(wJ0 6 x.2)])
   (fun x=>1<=x.2/\x.2<=n/\x.1=I (yQ (Ya pm Q x.2.toNat) P.length)) (fun x=>(n-x.2).toNat) ((a3,1)) (by subst hL;rfl) ?_ ?_
  ·refine⟨by simp,by simp only;omega,?_⟩;simp only;rw[hQ];congr 1;obtain⟨l1,l2,l3,l4,l5,l6⟩:=low 0 (by omega);apply yB;intro j;by_cases hj:j<P.length
   ·rw[kU _ _ _ hj,ze (by have:=hcl.ql;omega),show(1:Int).toNat=0+1 from rfl,Ya,if_neg (by rw[hmem 0 j (by omega)];have:=l6 rfl;omega)];simp[Ya,zd,ze (show j<Q.length by have:=hcl.ql;omega)]
   ·rw[zy (by have:=hcl.ql;omega),zy (by rw[yi];omega)]
  rintro⟨ls,j⟩ ⟨j0,j1,hJ⟩ hfx ag hag;simp only at j0 j1 hJ;have hll:ls.length=P.length:=by rw[hJ,zg,yi]
  have gls:∀k,ls.getD k (.int .i64 0)=.int .i64 ((yQ (Ya pm Q j.toNat) P.length).getD k 0):=fun k=>by rw[hJ,zG]
  conv=>cbv
  simp only[zo hL,sQ,g0,g1,g2,hpl,hsl,hql,<-hn,gp,gs,gq,hll,gls];refine⟨fun h2=>?_,fun h2=>?_⟩
  ·obtain⟨jt,hjt⟩:=qEx j.toNat;have hjn:jt<P.length:=(by omega);rw[<-hjt]at hJ;simp only[<-hjt];obtain⟨l1,l2,l3,l4,l5,l6⟩:=low jt hjn;have h5:=l5 (by omega);have h4:=l4 (by omega);have hm1:=fun a:Nat=>hmem jt a hjn;obtain⟨pp,hpp⟩:=qEx (P.getD jt 0);obtain⟨ss,hss⟩:=qEx (S.getD jt 0)
   have hne:0<=ss->ss≠pp:=fun h0=>by
    have:=zh7 hcl hjn;rw[yR,if_neg (by omega),<-hss,<-hpp,if_pos h0]at this;simp only[yf,yV,List.nodup_cons,yd,uh,not_false_eq_true,zi9,and_true]at this;exact this
   simp only[<-hpp,<-hss]at l1 l2 l3 h4 h5 hm1 ⊢;obtain⟨p,hp9⟩:=qEx pp.toNat;obtain⟨s,hs9⟩:=qEx ss.toNat;have hpn:p<P.length:=(by omega);have hpc:(p:Int)=pp:=(by omega);simp only[<-hp9,<-hs9];have hgv:(yQ (Ya pm Q jt) P.length).getD p 0=Ya pm Q jt p:=jp _ _ _ _ hpn;rw[hgv];obtain⟨l2',hl2'⟩:=qEx (ls.set p (.int .i64 (IntKind.wrap .i64 (Ya pm Q jt p-Q.getD jt 0))));have hl2e:l2'=I (yQ (fun a=>if a=p then W (Ya pm Q jt p-Q.getD jt 0)else Ya pm Q jt a) P.length):=(by rw[hl2',hJ,ua,zed _ _ hpn]);have hl2l:l2'.length=P.length:=(by rw[hl2e,zg,yi]);have gl2:∀k,l2'.getD k (.int .i64 0)=.int .i64 ((yQ (fun a=>if a=p then W (Ya pm Q jt p-Q.getD jt 0)else Ya pm Q jt a) P.length).getD k 0):=fun k=>(by rw[hl2e,zG]);rw[<-hl2'];simp only[gl2,hl2l,Kq,uy];have hwj:IntKind.wrap .i64 (j+1)=j+1:=zn (by omega) (by omega);rw[hwj];have j0':0<=j:=(by omega);have hpn2:pp<n:=(by omega);refine⟨j0',h2,j0',h2,h5,hpn2,hpn,j0',h2,h5,hpn2,hpn,j0',h2,fun h6=>?_,fun h6=>?_⟩
   ·have hsn:s<P.length:=(by omega);have hsc:(s:Int)=ss:=(by omega);have hsp:s≠p:=(by have:=hne h6;omega);have hgs:(yQ (fun a=>if a=p then W (Ya pm Q jt p-Q.getD jt 0)else Ya pm Q jt a) P.length).getD s 0=Ya pm Q jt s:=(by rw[jp _ _ _ _ hsn,if_neg hsp]);rw[hgs];refine⟨j0',h2,j0',h2,h6,by omega,hsn,trivial,j0',h2,h6,by omega,hsn,trivial,?_⟩;refine hag (_,j+1) ⟨by simp only;omega,by simp only;omega,?_⟩ (by simp only;omega);simp only[ya j0'];rw[<-hjt,hl2e,ua,zed _ _ hsn];congr 1;refine qE fun a ha=>?_;rw[Ya];by_cases h8:a=s
    ·rw[if_pos h8,if_pos ((hm1 a).2 (.inr (by omega))),h8]
    ·rw[if_neg h8];by_cases h7:a=p
     ·rw[if_pos h7,if_pos ((hm1 a).2 (.inl (by omega))),h7]
     ·rw[if_neg h7,if_neg (fun h=>by rcases (hm1 a).1 h with h|h<;>omega)]
   ·refine hag (l2',j+1) ⟨by simp only;omega,by simp only;omega,?_⟩ (by simp only;omega);simp only[ya j0'];rw[<-hjt,hl2e];congr 1;refine qE fun a ha=>?_;rw[Ya];by_cases h7:a=p
    ·rw[if_pos h7,if_pos ((hm1 a).2 (.inl (by omega))),h7]
    ·rw[if_neg h7,if_neg (fun h=>by rcases (hm1 a).1 h with h|h<;>omega)]
  ·rw[hr,hf0,hJ,show j.toNat=P.length by omega]
 ·cases h
def zyZ(es:List V):Prop:=∃xss,es=BB false xss/\xss.length<=2147483647/\∀xs∈xss,xs.length<=2147483647
theorem zvj(o:Bool)(n:Nat)(xs:List Int):BB o (List.replicate n xs)=List.replicate n (.agg [.slc o 2 (.int .i64 0) (I xs)]):=by simp[BB,List.map_replicate]
theorem zyZ.isBB{es:List V}(h:zyZ es):zFA false es:=by
 obtain⟨x,h,_⟩:=h;exact⟨x,h⟩
def mm(ms:List (List Int))(i k:Nat):Int:=(ms.getD i []).getD k 0
def zCV(i k:Nat)(c:Int):Prop:=(i=k->c=0)/\(i≠k->1<=c/\c<=200)
def zCH(ms:List (List Int))(n i:Nat):Prop:=(ms.getD i []).length=n/\∀k,k<n->zCV i k (mm ms i k)
def zFx(ms:List (List Int))(n i:Nat):Prop:=∀k,k<n->mm ms k i=mm ms i k
structure TabP (ms:List (List Int)) (n:Nat):Prop where
 len:ms.length=n
 row:∀i,i<n->zCH ms n i
 sym:∀i,i<n->zFx ms n i
noncomputable def ze2(es:List V)(n:Int):Bool:= @decide (TabP (zbR es) n.toNat) (Classical.propDecidable _)
def zoq(es:List V)(n:Int):Prop:=zCJ false es/\0<=n/\n<=2147483647
theorem zCm{p:Prop}(h:p): @decide p (Classical.propDecidable _)=true:= @decide_eq_true p (Classical.propDecidable _) h
theorem zlA{p:Prop}(h:¬p): @decide p (Classical.propDecidable _)=false:= @decide_eq_false p (Classical.propDecidable _) h
def zui(f:List V->Int->Bool)(q:List V->Int->Prop):zO:=fun
 |[.slc false 24 (.slc false 2 (.int .i64 0) []) a0,.int .i64 a1]=>some ([q a0 a1],.bool (f a0 a1))
 |_=>none
theorem zpL:yM Tryz.prog 49 (zui ze2 zoq):=by
 intro args ps r h hp;unfold zui at h;split at h
 ·rename_i a0 a1;cases h;obtain⟨⟨ms,hms⟩,n0,n1⟩:zoq a0 a1:=(zp.1 hp).1;obtain⟨n,hn⟩:∃n:Nat,(n:Int)=a1:=⟨a1.toNat,by omega⟩;have hn':a1.toNat=n:=by omega
  have hml:a0.length=ms.length:=by rw[hms,ye]
  have gm:∀k,a0.getD k (.slc false 2 (.int .i64 0) [])=.slc false 2 (.int .i64 0) (I (ms.getD k [])):=fun k=>by rw[hms,qu]
  have hT:TabP ms n->ze2 a0 a1=true:=fun h=>by rw[ze2,hms,qB,hn'];exact zCm h
  have hF:¬TabP ms n->ze2 a0 a1=false:=fun h=>by rw[ze2,hms,qB,hn'];exact zlA h
  generalize yG:yn=qd;refine zH (B:=[(34,qM qd)]) (Bi:=[]) [0,1,4,5,6,7,8,9,10,11,12,17,18,19,28,29,30,54,55,56,61,62,63] Tryz.func49 rfl rfl (by subst yG;exact(zm Ye zF)) zA ?_;intro L lp rr hL hr hf hlp;have hle:=hf.1.1
  conv=>cbv
  simp only[zo hL,sQ,hml];refine⟨fun h=>?_,fun h=>?_⟩
  ·rw[hr,hF];intro ht;have:=ht.len;omega
  have hmn:ms.length=n:=by omega
  refine hlp (Int) _ _ _ [0,1,17,18,19] (fun x=>[(0,none,.val (.slc false 24 (.slc false 2 (.int .i64 0) []) a0)),(wJ0 1 a1),(17,none,.val (.slc false 24 (.slc false 2 (.int .i64 0) []) a0)),(wJ0 18 a1),(wJ0 19 x)])
   (fun x=>0<=x/\x<=a1/\∀t:Nat,t<x.toNat->zCH ms n t) (fun x=>(a1-x).toNat) (0) (by subst hL;rw[h];rfl) ?_ ?_
  ·exact⟨by omega,by omega,fun t ht=>by simp at ht⟩
  rintro i ⟨i0,i1,hI⟩ hfx ag hag
  conv=>cbv
  simp only[zo hL,sQ,hml,gm];refine⟨fun h2=>?_,fun h2=>?_⟩
  ·obtain⟨r,hR⟩:=qEx (ms.getD i.toNat []);rw[<-hR];refine⟨i0,by omega,fun h3=>?_,fun h3=>?_⟩
   ·rw[hr,hF];intro ht;have:=(ht.row i.toNat (by omega)).1;rw[<-hR]at this;omega
   have hrl:r.length=n:=(by omega);obtain⟨vr,hvr⟩:=qEx (I r);have vrl:vr.length=n:=(by rw[hvr,zg,hrl]);have gr:∀t,vr.getD t (.int .i64 0)=.int .i64 (r.getD t 0):=fun t=>(by rw[hvr,zG]);rw[<-hvr]
   refine hlp (Int) _ _ _ [0,1,5,17,18,19,28,29,30] (fun x=>[(0,none,.val (.slc false 24 (.slc false 2 (.int .i64 0) []) a0)),(wJ0 1 a1),(wJ0 5 i),(17,none,.val (.slc false 24 (.slc false 2 (.int .i64 0) []) a0)),(wJ0 18 a1),(wJ0 19 i),(wJ3 28 vr),(wJ0 29 a1),(wJ0 30 x)])
    (fun x=>0<=x/\x<=a1/\∀t:Nat,t<x.toNat->zCV i.toNat t (r.getD t 0)) (fun x=>(a1-x).toNat) (0) (by subst hL;rw[hrl,hn];rfl) ?_ ?_
   ·exact⟨by omega,by omega,fun t ht=>by simp at ht⟩
   rintro k ⟨k0,k1,hK⟩ hfx2 ag2 hag2
   conv=>cbv
   subst yG;simp only[zo hL,sQ,vrl,gr];refine⟨fun h4=>⟨k0,by omega,fun h5 h6=>⟨h5,h6⟩,fun h5=>?_,fun h5=>?_⟩,fun h4=>?_⟩
   ·rw[hr,hF];intro ht;have hE:=(ht.row i.toNat (by omega)).2 k.toNat (by omega);rw[mm,<-hR]at hE;rcases h5 with⟨h5,h6⟩|⟨h5,h6⟩
    ·exact h6 (hE.1 (by omega))
    ·have:=hE.2 (by omega);simp only[yn,jN,decide_eq_false_iff_not]at h6;omega
   ·rw[zn (n:=k+1)];refine hag2 (k+1) ⟨by omega,by omega,fun t ht=>?_⟩ (by omega)
    by_cases htk:t=k.toNat
    ·rw[htk];refine⟨fun e=>h5.1.resolve_left (fun hne=>hne (by omega)),fun e=>?_⟩;have:=h5.2.resolve_left (fun h=>e (by omega));simpa [yn]using this
    ·exact hK t (by omega)
   ·rw[zn (n:=i+1)];refine hag (i+1) ⟨by omega,by omega,fun t ht=>?_⟩ (by omega)
    by_cases hti:t=i.toNat
    ·rw[hti];refine⟨by rw[<-hR];exact hrl,fun k' hk'=>?_⟩;rw[mm,<-hR];exact hK k' (by omega)
    ·exact hI t (by omega)
  ·have hrow:∀t,t<n->zCH ms n t:=fun t ht=>hI t (by omega)
   refine hlp (Int) _ _ _ [0,54,55,56] (fun x=>[(0,none,.val (.slc false 24 (.slc false 2 (.int .i64 0) []) a0)),(54,none,.val (.slc false 24 (.slc false 2 (.int .i64 0) []) a0)),(wJ0 55 a1),(wJ0 56 x)])
    (fun x=>0<=x/\x<=a1/\∀t:Nat,t<x.toNat->zFx ms n t) (fun x=>(a1-x).toNat) (0) (by subst hL;rw[h];rfl) ?_ ?_
   ·exact⟨by omega,by omega,fun t ht=>by simp at ht⟩
   rintro i ⟨i0,i1,hI⟩ hfx ag hag
   conv=>cbv
   simp only[zo hL,sQ,hml,gm];refine⟨fun h2=>?_,fun h2=>?_⟩
   ·obtain⟨r,hR⟩:=qEx (ms.getD i.toNat []);have hrl:r.length=n:=(by rw[hR];exact(hrow i.toNat (by omega)).1);rw[<-hR];obtain⟨vr,hvr⟩:=qEx (I r);have vrl:vr.length=n:=(by rw[hvr,zg,hrl]);have gr:∀t,vr.getD t (.int .i64 0)=.int .i64 (r.getD t 0):=fun t=>(by rw[hvr,zG]);rw[<-hvr];refine⟨i0,by omega,?_⟩
    refine hlp (Int) _ _ _ [0,9,54,55,56,61,62,63] (fun x=>[(0,none,.val (.slc false 24 (.slc false 2 (.int .i64 0) []) a0)),(wJ0 9 i),(54,none,.val (.slc false 24 (.slc false 2 (.int .i64 0) []) a0)),(wJ0 55 a1),(wJ0 56 i),(wJ3 61 vr),(wJ0 62 a1),(wJ0 63 x)])
     (fun x=>0<=x/\x<=a1/\∀t:Nat,t<x.toNat->mm ms t i.toNat=r.getD t 0) (fun x=>(a1-x).toNat) (0) (by subst hL;rw[hrl,hn];rfl) ?_ ?_
    ·exact⟨by omega,by omega,fun t ht=>by simp at ht⟩
    rintro k ⟨k0,k1,hK⟩ hfx2 ag2 hag2
    conv=>cbv
    simp only[zo hL,sQ,vrl,gr,hml,gm];refine⟨fun h4=>?_,fun h4=>?_⟩
    ·have hkl:(ms.getD k.toNat []).length=n:=(hrow k.toNat (by omega)).1;refine⟨k0,by omega,k0,by omega,i0,by omega,fun h5=>?_,fun h5=>?_⟩
     ·rw[hr,hF];intro ht;have:=ht.sym i.toNat (by omega) k.toNat (by omega);rw[mm,mm,<-hR]at this;exact h5 this
     ·rw[zn (n:=k+1)];refine hag2 (k+1) ⟨by omega,by omega,fun t ht=>?_⟩ (by omega)
      by_cases htk:t=k.toNat
      ·rw[htk];exact h5
      ·exact hK t (by omega)
    ·rw[zn (n:=i+1)];refine hag (i+1) ⟨by omega,by omega,fun t ht=>?_⟩ (by omega)
     by_cases hti:t=i.toNat
     ·rw[hti];intro k' hk';have:=hK k' (by omega);rw[this,hR];rfl
     ·exact hI t (by omega)
   ·rw[hr,hT];exact⟨hmn,hrow,fun t ht=>hI t (by omega)⟩
 ·cases h
structure CvP (bs ms:List (List Int)):Prop where
 n1:1<=bs.length
 n6:bs.length<=6
 tab:TabP ms bs.length
 br:∀i,i<bs.length->uE (bs.getD i [])=true
 shr:∀i k,i<bs.length->k<bs.length->i≠k->shr (bs.getD i []) (bs.getD k []) (mm ms i k).toNat=true
 ult:∀i k j,i<bs.length->k<bs.length->j<bs.length->i≠k->j≠i->j≠k->¬mm ms i k<min (mm ms i j) (mm ms j k)
noncomputable def zto(bs ms:List (List Int)):Bool:= @decide (CvP bs ms) (Classical.propDecidable _)
theorem za0{bs ms:List (List Int)}:zto bs ms=true↔CvP bs ms:=by
 rw[zto];exact@decide_eq_true_iff _ (Classical.propDecidable _)
noncomputable def jZ(a b:List V):Bool:=zto (zga a) (zbR b)
def q_C(a b:List V):Prop:=zyZ a/\zyY b
def zFB(bs ms:List (List Int))(i k:Nat):Prop:=i≠k->shr (bs.getD i []) (bs.getD k []) (mm ms i k).toNat=true/\∀j,j<bs.length->j≠i->j≠k->¬mm ms i k<min (mm ms i j) (mm ms j k)
def zue(bs:List (List Int))(n:Nat):List (List Int):=yQ (fun i=>jv (bs.getD i []) 201) n
def zdR(f:List V->List V->Bool)(q:List V->List V->Prop):zO:=fun
 |[.agg [.slc false 49 (.agg [.slc false 2 (.int .i64 0) []]) a0,.slc false 24 (.slc false 2 (.int .i64 0) []) a1]]=>some ([q a0 a1],.bool (f a0 a1))
 |_=>none
theorem Kp:yM Tryz.prog 11 (zdR jZ q_C):=by
 intro args ps r h hp;unfold zdR at h;split at h
 ·rename_i a0 a1;cases h;obtain⟨⟨bs,hbs,hb1,hb2⟩,⟨ms,hms,hm1,hm2⟩⟩:q_C a0 a1:=(zp.1 hp).1;have g1:V.frzs a0=a0:=by rw[hbs,ko]
  have g2:V.frzs a1=a1:=by rw[hms,jy]
  have hbl:a0.length=bs.length:=by rw[hbs,qw]
  have hml:a1.length=ms.length:=by rw[hms,ye]
  have gb:∀k,a0.getD k (.agg [.slc false 2 (.int .i64 0) []])=.agg [.slc false 2 (.int .i64 0) (I (bs.getD k []))]:=fun k=>by rw[hbs,YT]
  have gm:∀k,a1.getD k (.slc false 2 (.int .i64 0) [])=.slc false 2 (.int .i64 0) (I (ms.getD k [])):=fun k=>by rw[hms,qu]
  obtain⟨n,hn⟩:=qEI bs.length;have hT:CvP bs ms->jZ a0 a1=true:=fun h=>by rw[jZ,hbs,hms,jG,qB,za0];exact h
  have hF:¬CvP bs ms->jZ a0 a1=false:=fun h=>by rw[jZ,hbs,hms,jG,qB];exact zlA h
  have qt:zoq a1 n:=⟨⟨ms,hms⟩,by omega,by omega⟩
  have et:ze2 a1 n=true↔TabP ms bs.length:=by
   rw[ze2,hms,qB,show n.toNat=bs.length by omega];exact@decide_eq_true_iff _ (Classical.propDecidable _)
  generalize zuT:ze2=zvb,zuM:zoq=zu8,ji:kA=kw,yu:qU=yP,zxa:zr1=zxz,ud:Yf=uY,zu3:zlw=zvh,zuQ:zou=zva,zxi:zo3=zxG,zwY:zyc=zxs;refine zH (B:=[(49,zui zvb zu8),(50,YY kw yP),(52,zuy zxz uY),(51,zyM zvh zva),(53,zqi zxG zxs)]) (Bi:=[]) [0,1,2,3,4,6,7,8,9,28,29,30,44,45,48,49,73,74] Tryz.func11 rfl rfl (by subst zuT zuM ji yu zxa ud zu3 zuQ zxi zwY;exact(zm zpL (zm zdn (zm zkI (zm zrG (zm zon zF)))))) zA ?_;intro L lp rr hL hr hf hlp
  have hbI:∀i:Nat,i<bs.length->yP (I (bs.getD i [])):=fun i hi=>by
   rw[<-yu];exact⟨⟨_,rfl⟩,by rw[zg];exact hb2 _ (zcF hi)⟩
  conv=>cbv
  have Q1:zu8 a1 n:=by rw[<-zuM];exact qt
  have E1:zvb a1 n=true↔TabP ms bs.length:=by rw[<-zuT];exact et
  simp only[zo hL,sQ,g1,g2,hbl,<-hn];refine⟨fun _=>Q1,fun h=>?_,fun h=>?_⟩
  ·rw[hr,hF];intro hc;have h1:=hc.n1;have h6:=hc.n6;rcases h with(h|h)|h
   ·omega
   ·omega
   ·rw[E1.2 hc.tab]at h;cases h
  obtain⟨⟨n1,n6⟩,h3⟩:=h;have htab:=E1.1 h3;have hmn:=htab.len
  refine hlp (List V×Int) _ _ _ [1,3,4,28,29,30] (fun x=>[(1,none,.val (.box 31 (.agg [.slc false 49 (.agg [.slc false 2 (.int .i64 0) []]) a0,.slc false 24 (.slc false 2 (.int .i64 0) []) a1]))),(wJ0 3 n),(4,none,.val (.slc true 24 (.slc true 2 (.int .i64 0) []) x.1)),(wJ10 28 a0),(wJ0 29 n),(wJ0 30 x.2)])
   (fun x=>0<=x.2/\x.2<=n/\x.1=II true (zue bs x.2.toNat)/\∀t:Nat,t<x.2.toNat->uE (bs.getD t [])=true) (fun x=>(n-x.2).toNat) (([],0)) (by subst hL;rfl) ?_ ?_
  ·exact⟨by simp,by simp only;omega,rfl,fun t ht=>by simp at ht⟩
  rintro⟨es,i⟩ ⟨i0,i1,hI,hB⟩ hfx ag hag;simp only at i0 i1 hI hB
  conv=>cbv
  simp only[zo hL,sQ,hbl,gb,Yh,KK,KY];refine⟨fun h2=>?_,fun h2=>?_⟩
  ·have hil:i.toNat<bs.length:=(by omega);have eb:kw (I (bs.getD i.toNat []))=uE (bs.getD i.toNat []):=(by rw[<-ji,kA,zl]);rw[eb];refine⟨i0,by omega,hbI _ hil,fun h4=>?_,fun h4=>?_⟩
   ·rw[hr,hF];intro hc;rw[hc.br _ hil]at h4;cases h4
   ·have hbr:=zaK h4;have qp:uY (I (bs.getD i.toNat [])) 201:=(by rw[<-ud];exact⟨⟨_,rfl,hbr⟩,by omega,by omega⟩);have ep:V.frzs (zxz (I (bs.getD i.toNat [])) 201)=II false (zfF (kB (bs.getD i.toNat []) 201)):=(by rw[<-zxa,zr1,zl,jy];rfl);have qc:zva (II false (zfF (kB (bs.getD i.toNat []) 201))):=(by rw[<-zuQ];exact zvx _ (by omega) (by omega));have ec:zvh (II false (zfF (kB (bs.getD i.toNat []) 201)))=I (jv (bs.getD i.toNat []) 201):=(by rw[<-zu3,zlw,qB,zyI hbr]);simp only[ep,ec];have hes:es.length=i.toNat:=(by rw[hI,ye,zue,yi]);rw[zn (n:=i+1)];refine⟨qp,qc,ZR _,by simp only[zj,zu];omega,jY rfl,hag (_,i+1) ⟨by simp only;omega,by simp only;omega,?_,fun t ht=>?_⟩ (by simp only;omega)⟩
    ·simp only[ya i0];rw[zue,QF,Zv,hI];rfl
    ·simp only[ya i0]at ht
     by_cases hti:t=i.toNat
     ·rw[hti];exact h4
     ·exact hB t (by omega)
  ·have hbr:∀t,t<bs.length->uE (bs.getD t [])=true:=fun t ht=>hB t (by omega);have ht2:i.toNat=bs.length:=(by omega);rw[ht2]at hI;have hel:es.length=bs.length:=(by rw[hI,ye,zue,yi]);have ge:∀k,k<bs.length->es.getD k (.slc true 2 (.int .i64 0) [])=.slc true 2 (.int .i64 0) (I (jv (bs.getD k []) 201)):=fun k hk=>(by rw[hI,qu,zue,jp _ _ _ _ hk]);have ecs:∀x y c,zxG (I (jv x 201)) (I (jv y 201)) c=shr x y c.toNat:=fun x y c=>(by rw[<-zxi,zo3,zl,zl,shr]);have qcs:∀x y c,1<=c->c<=200->zxs (I (jv x 201)) (I (jv y 201)) c:=fun x y c h1 h2=>(by rw[<-zwY];exact⟨⟨_,rfl⟩,⟨_,rfl⟩,h1,by rw[zg,zhN];omega,by rw[zg,zhN];omega⟩);have rl:∀k,k<bs.length->(ms.getD k []).length=bs.length:=fun k hk=>(htab.row k hk).1;have ent:∀i k,i<bs.length->k<bs.length->i≠k->1<=mm ms i k/\mm ms i k<=200:=fun i k hi hk hne=>((htab.row i hi).2 k hk).2 hne
   refine hlp (Int) _ _ _ [1,3,4,44,45] (fun x=>[(1,none,.val (.box 31 (.agg [.slc false 49 (.agg [.slc false 2 (.int .i64 0) []]) a0,.slc false 24 (.slc false 2 (.int .i64 0) []) a1]))),(wJ0 3 n),(4,none,.val (.slc true 24 (.slc true 2 (.int .i64 0) []) es)),(wJ0 44 n),(wJ0 45 x)])
    (fun x=>0<=x/\x<=n/\∀t:Nat,t<x.toNat->∀k,k<bs.length->zFB bs ms t k) (fun x=>(n-x).toNat) (0) (by subst hL;rfl) ?_ ?_
   ·exact⟨by omega,by omega,fun t ht=>by simp at ht⟩
   rintro i ⟨i0,i1,hP⟩ hfx ag hag
   conv=>cbv
   simp only[zo hL,sQ,];refine⟨fun h2=>?_,fun h2=>?_⟩
   ·refine hlp (Int) _ _ _ [1,3,4,7,44,45,48,49] (fun x=>[(1,none,.val (.box 31 (.agg [.slc false 49 (.agg [.slc false 2 (.int .i64 0) []]) a0,.slc false 24 (.slc false 2 (.int .i64 0) []) a1]))),(wJ0 3 n),(4,none,.val (.slc true 24 (.slc true 2 (.int .i64 0) []) es)),(wJ0 7 i),(wJ0 44 n),(wJ0 45 i),(wJ0 48 n),(wJ0 49 x)])
     (fun x=>0<=x/\x<=n/\∀t:Nat,t<x.toNat->zFB bs ms i.toNat t) (fun x=>(n-x).toNat) (0) (by subst hL;rfl) ?_ ?_
    ·exact⟨by omega,by omega,fun t ht=>by simp at ht⟩
    rintro k ⟨k0,k1,hQ⟩ hfx2 ag2 hag2
    conv=>cbv
    simp only[zo hL,sQ,hml,hel,gm];refine⟨fun h3=>?_,fun h3=>?_⟩
    ·have hil:i.toNat<bs.length:=(by omega);have hkl:k.toNat<bs.length:=(by omega);have rli:=rl _ hil;have gei:=ge _ hil;have gek:=ge _ hkl;simp only[gei,gek,zo hL,sQ,ecs];have hmm:(ms.getD i.toNat []).getD k.toNat 0=mm ms i.toNat k.toNat:=rfl;refine⟨fun h4=>?_,fun h4=>?_⟩
     ·rw[zn (n:=k+1)];refine hag2 (k+1) ⟨by omega,by omega,fun t ht=>?_⟩ (by omega)
      by_cases htk:t=k.toNat
      ·intro hne;exact absurd (by omega) hne
      ·exact hQ t (by omega)
     have hne:i.toNat≠k.toNat:=(by omega);have hen:=ent _ _ hil hkl hne;obtain⟨c,hc⟩:=qEx (mm ms i.toNat k.toNat);rw[hmm,<-hc];rw[<-hc]at hen;have qi:=qcs (bs.getD i.toNat []) (bs.getD k.toNat []) c hen.1 hen.2;refine⟨i0,by omega,hil,k0,by omega,hkl,i0,by omega,k0,by omega,hil,hkl,qi,fun h5=>?_,fun h5=>?_⟩
     ·rw[hr,hF];intro hv;have:=hv.shr _ _ hil hkl hne;rw[<-hc,h5]at this;cases this
     refine hlp (Int) _ _ _ [1,3,4,7,8,44,45,48,49,73,74] (fun x=>[(1,none,.val (.box 31 (.agg [.slc false 49 (.agg [.slc false 2 (.int .i64 0) []]) a0,.slc false 24 (.slc false 2 (.int .i64 0) []) a1]))),(wJ0 3 n),(4,none,.val (.slc true 24 (.slc true 2 (.int .i64 0) []) es)),(wJ0 7 i),(wJ0 8 k),(wJ0 44 n),(wJ0 45 i),(wJ0 48 n),(wJ0 49 k),(wJ0 73 n),(wJ0 74 x)])
      (fun x=>0<=x/\x<=n/\∀j:Nat,j<x.toNat->j≠i.toNat->j≠k.toNat->¬mm ms i.toNat k.toNat<min (mm ms i.toNat j) (mm ms j k.toNat)) (fun x=>(n-x).toNat) (0) (by subst hL;rfl) ?_ ?_
     ·exact⟨by omega,by omega,fun t ht=>by simp at ht⟩
     rintro j ⟨j0,j1,hJ⟩ hfx3 ag3 hag3
     conv=>cbv
     simp only[zo hL,sQ,hml,gm];have hm1:∀x y:Nat,(ms.getD x []).getD y 0=mm ms x y:=fun _ _=>rfl;simp only[hm1];refine⟨fun h6=>?_,fun h6=>?_⟩
     ·have hjl:j.toNat<bs.length:=(by omega);have rlj:=rl _ hjl;simp only[rli,rlj];refine⟨fun _=>by first|trivial|omega,fun _=>by first|trivial|omega,fun _=>by first|trivial|omega,fun _=>by first|trivial|omega,fun _=>by first|trivial|omega,fun _=>by first|trivial|omega,fun _=>by first|trivial|omega,fun _=>by first|trivial|omega,fun _=>by first|trivial|omega,fun _=>by first|trivial|omega,fun _=>by first|trivial|omega,fun _=>by first|trivial|omega,fun _=>by first|trivial|omega,fun _=>by first|trivial|omega,fun _=>by first|trivial|omega,fun _=>by first|trivial|omega,fun _=>by first|trivial|omega,fun _=>by first|trivial|omega,fun h7=>?_,fun h7=>?_⟩
      ·rw[hr,hF];intro hv;exact hv.ult _ _ _ hil hkl hjl hne (by omega) (by omega) h7.2
      ·rw[zn (n:=j+1)];refine hag3 (j+1) ⟨by omega,by omega,fun t ht e1 e2=>?_⟩ (by omega)
       by_cases htj:t=j.toNat
       ·rw[htj];exact h7.resolve_left (by omega)
       ·exact hJ t (by omega) e1 e2
     ·rw[zn (n:=k+1)];refine hag2 (k+1) ⟨by omega,by omega,fun t ht=>?_⟩ (by omega)
      by_cases htk:t=k.toNat
      ·rw[htk];intro _;refine⟨by rw[<-hc];exact h5,fun j' hj' e1 e2=>hJ j' (by omega) e1 e2⟩
      ·exact hQ t (by omega)
    ·rw[zn (n:=i+1)];refine hag (i+1) ⟨by omega,by omega,fun t ht k' hk'=>?_⟩ (by omega)
     by_cases hti:t=i.toNat
     ·rw[hti];exact hQ k' (by omega)
     ·exact hP t (by omega) k' hk'
   ·rw[hr,hT];refine⟨by omega,by omega,htab,hbr,fun t k ht hk hne=>(hP t (by omega) k hk hne).1,fun t k j ht hk hj hne h1 h2=>(hP t (by omega) k hk hne).2 j hj h1 h2⟩
 ·cases h
def zqL(bs ms:List (List Int))(i k:Nat):Prop:=zCV i k (mm ms i k)/\(i≠k->mm ms i k=mm ms k i)/\(i<k->shr (bs.getD i []) (bs.getD k []) (mm ms i k).toNat=true)
def zCF(bs ms:List (List Int))(i k:Nat):Prop:=∀j,j<bs.length->i≠k->i≠j->j≠k->¬mm ms i k<min (mm ms i j) (mm ms j k)
theorem CvP.of{bs ms:List (List Int)}(h1:1<=bs.length)(h6:bs.length<=6)(hl:ms.length=bs.length)(hA:∀t,t<bs.length->uE (bs.getD t [])=true/\(ms.getD t []).length=bs.length)
 (hB:∀t,t<bs.length->∀k,k<bs.length->zqL bs ms t k) (hC:∀t,t<bs.length->∀k,k<bs.length->zCF bs ms t k):CvP bs ms:=by
 refine⟨h1,h6,⟨hl,fun i hi=>⟨(hA i hi).2,fun k hk=>(hB i hi k hk).1⟩,fun i hi k hk=>?_⟩,fun i hi=>(hA i hi).1,fun i k hi hk hne=>?_,fun i k j hi hk hj hne h1 h2=>hC i hi k hk j hj hne (Ne.symm h1) h2⟩
 ·by_cases h:i=k
  ·rw[h]
  ·exact((hB i hi k hk).2.1 h).symm
 ·by_cases h:i<k
  ·exact(hB i hi k hk).2.2 h
  ·have:=(hB k hk i hi).2.2 (by omega);rw[zBr,(hB i hi k hk).2.1 hne];exact this
theorem zkU:yM Tryz.prog 65 (zdR jZ q_C):=by
 intro args ps r h hp;unfold zdR at h;split at h
 ·rename_i a0 a1;cases h;obtain⟨⟨bs,hbs,hb1,hb2⟩,⟨ms,hms,hm1,hm2⟩⟩:q_C a0 a1:=(zp.1 hp).1;have g1:V.frzs a0=a0:=by rw[hbs,ko]
  have g2:V.frzs a1=a1:=by rw[hms,jy]
  have hbl:a0.length=bs.length:=by rw[hbs,qw]
  have hml:a1.length=ms.length:=by rw[hms,ye]
  have gb:∀k,a0.getD k (.agg [.slc false 2 (.int .i64 0) []])=.agg [.slc false 2 (.int .i64 0) (I (bs.getD k []))]:=fun k=>by rw[hbs,YT]
  have gm:∀k,a1.getD k (.slc false 2 (.int .i64 0) [])=.slc false 2 (.int .i64 0) (I (ms.getD k [])):=fun k=>by rw[hms,qu]
  obtain⟨n,hn⟩:=qEI bs.length;have hT:CvP bs ms->jZ a0 a1=true:=fun h=>by rw[jZ,hbs,hms,jG,qB,za0];exact h
  have hF:¬CvP bs ms->jZ a0 a1=false:=fun h=>by rw[jZ,hbs,hms,jG,qB];exact zlA h
  have hm1:∀x y:Nat,(ms.getD x []).getD y 0=mm ms x y:=fun _ _=>rfl;generalize ji:kA=kw,yu:qU=yP,yG:yn=qd,zw4:zoW=zxw,zwT:zx6=zxq;refine zH (B:=[(73,YY kw yP),(71,qM qd),(102,zqu zxw zxq)]) (Bi:=[]) [0,1,2,3,4,5,6,7,8,9,10] Tryz.func65 rfl rfl (by subst ji yu yG zw4 zwT;exact(zm zaQ (zm QG (zm zpB zF)))) zA ?_;intro L lp rr hL hr hf hlp
  have hbI:∀i:Nat,i<bs.length->yP (I (bs.getD i [])):=fun i hi=>by
   rw[<-yu];exact⟨⟨_,rfl⟩,by rw[zg];exact hb2 _ (zcF hi)⟩
  have eb:∀i:Nat,kw (I (bs.getD i []))=uE (bs.getD i []):=fun i=>by rw[<-ji,kA,zl]
  conv=>cbv
  simp only[zo hL,sQ,g1,g2,hbl,hml,<-hn];refine⟨fun h=>?_,fun h=>?_⟩
  ·rw[hr,hF];intro hc;have h1:=hc.n1;have h6:=hc.n6;have hl:=hc.tab.len;omega
  have hmn:ms.length=bs.length:=by omega
  refine hlp (Int) _ _ _ [1,3,4] (fun x=>[(1,none,.val (.box 31 (.agg [.slc false 49 (.agg [.slc false 2 (.int .i64 0) []]) a0,.slc false 24 (.slc false 2 (.int .i64 0) []) a1]))),(wJ0 3 n),(wJ0 4 x)])
   (fun x=>0<=x/\x<=n/\∀t:Nat,t<x.toNat->uE (bs.getD t [])=true/\(ms.getD t []).length=bs.length) (fun x=>(n-x).toNat) (0) (by subst hL;rfl) ?_ ?_
  ·exact⟨by omega,by omega,fun t ht=>by simp at ht⟩
  rintro i ⟨i0,i1,hA⟩ hfx ag hag
  conv=>cbv
  simp only[zo hL,sQ,hbl,gb,Yh,KK,KY,eb,hml,gm];refine⟨fun h2=>?_,fun h2=>?_⟩
  ·have hil:i.toNat<bs.length:=(by omega);refine⟨i0,by omega,hbI _ hil,fun _=>i0,fun _=>by omega,fun _=>trivial,fun h3=>?_,fun h3=>?_⟩
   ·rw[hr,hF];intro hc;rcases h3 with h3|h3
    ·rw[hc.br _ hil]at h3;cases h3
    ·exact h3 (by rw[(hc.tab.row _ hil).1];omega)
   ·rw[zn (n:=i+1)];refine hag (i+1) ⟨by omega,by omega,fun t ht=>?_⟩ (by omega)
    by_cases hti:t=i.toNat
    ·rw[hti];exact⟨h3.1,by omega⟩
    ·exact hA t (by omega)
  have hA2:∀t,t<bs.length->uE (bs.getD t [])=true/\(ms.getD t []).length=bs.length:=fun t ht=>hA t (by omega);have rl:∀k,k<bs.length->(ms.getD k []).length=bs.length:=fun k hk=>(hA2 k hk).2
  have qsh:∀x y c,x<bs.length->y<bs.length->1<=c->c<=200->zxq (I (bs.getD x [])) (I (bs.getD y [])) c:=fun x y c hx hy h1 h2=>by
   rw[<-zwT];exact⟨⟨_,rfl,zaK (hA2 x hx).1⟩,⟨_,rfl,zaK (hA2 y hy).1⟩,h1,h2⟩
  have esh:∀x y c,zxw (I (bs.getD x [])) (I (bs.getD y [])) c=shr (bs.getD x []) (bs.getD y []) c.toNat:=fun x y c=>by rw[<-zw4,zoW,zl,zl]
  clear hA hag hfx ag
  refine hlp (Int) _ _ _ [1,3,5] (fun x=>[(1,none,.val (.box 31 (.agg [.slc false 49 (.agg [.slc false 2 (.int .i64 0) []]) a0,.slc false 24 (.slc false 2 (.int .i64 0) []) a1]))),(wJ0 3 n),(wJ0 5 x)])
   (fun x=>0<=x/\x<=n/\∀t:Nat,t<x.toNat->∀k,k<bs.length->zqL bs ms t k) (fun x=>(n-x).toNat) (0) (by subst hL;rfl) ?_ ?_
  ·exact⟨by omega,by omega,fun t ht=>by simp at ht⟩
  rintro i ⟨i0,i1,hP⟩ hfx ag hag
  conv=>cbv
  simp only[zo hL,sQ,];refine⟨fun h2=>?_,fun h2=>?_⟩
  ·have hil:i.toNat<bs.length:=(by omega);have rli:=rl _ hil
   refine hlp (Int) _ _ _ [1,3,5,6] (fun x=>[(1,none,.val (.box 31 (.agg [.slc false 49 (.agg [.slc false 2 (.int .i64 0) []]) a0,.slc false 24 (.slc false 2 (.int .i64 0) []) a1]))),(wJ0 3 n),(wJ0 5 i),(wJ0 6 x)])
    (fun x=>0<=x/\x<=n/\∀t:Nat,t<x.toNat->zqL bs ms i.toNat t) (fun x=>(n-x).toNat) (0) (by subst hL;rfl) ?_ ?_
   ·exact⟨by omega,by omega,fun t ht=>by simp at ht⟩
   rintro k ⟨k0,k1,hQ⟩ hfx2 ag2 hag2
   conv=>cbv
   simp only[zo hL,sQ,hml,gm,hbl,gb,Yh,KK,KY,hm1,esh];refine⟨fun h3=>?_,fun h3=>?_⟩
   ·have hkl:k.toNat<bs.length:=(by omega);have rlk:=rl _ hkl
    have hgo:zqL bs ms i.toNat k.toNat->0<=k+1/\k+1<=n/\∀t:Nat,t<(k+1).toNat->zqL bs ms i.toNat t:=fun hb=>⟨by omega,by omega,fun t ht=>by
     by_cases htk:t=k.toNat
     ·rw[htk];exact hb
     ·exact hQ t (by omega)⟩
    obtain⟨c,hc⟩:=qEx (mm ms i.toNat k.toNat);simp only[rli,rlk,<-hc];subst yG;rw[zn (n:=k+1)];refine⟨i0,by omega,k0,by omega,fun h4=>⟨fun h5=>?_,fun h5=>?_⟩,fun h4=>⟨fun _=>by first|trivial|omega,fun _=>by first|trivial|omega,fun _=>by first|trivial|omega,fun _=>by first|trivial|omega,fun _=>by first|trivial|omega,fun _=>by first|trivial|omega,fun h5=>?_,fun h5=>⟨fun _=>by first|trivial|omega,fun _=>by first|trivial|omega,fun _=>by first|trivial|omega,fun _=>by first|trivial|omega,fun _=>by first|trivial|omega,fun _=>by first|trivial|omega,fun h6=>?_,fun h6=>?_,fun h6=>?_⟩⟩⟩
    ·rw[hr,hF];intro hv;exact h5 (by rw[hc];exact((hv.tab.row _ hil).2 _ hkl).1 (by omega))
    ·refine hag2 (k+1) (hgo ⟨⟨fun _=>by rw[<-hc];exact h5,fun hne=>absurd (by omega) hne⟩,fun hne=>absurd (by omega) hne,fun hlt=>absurd hlt (by omega)⟩) (by omega)
    ·rw[hr,hF];intro hv;have hE:=((hv.tab.row _ hil).2 _ hkl).2 (by omega);have hS:=hv.tab.sym _ hil _ hkl;rw[<-hc]at hE hS;rcases h5 with h5|h5
     ·simp only[yn,jN,decide_eq_false_iff_not]at h5;omega
     ·exact h5 hS.symm
    ·have hE:1<=c/\c<=200:=(by simpa [yn]using h5.1);exact qsh _ _ _ hil hkl hE.1 hE.2
    ·rw[hr,hF];intro hv;have:=hv.shr _ _ hil hkl (by omega);rw[<-hc,h6.2]at this;cases this
    ·have hE:1<=c/\c<=200:=(by simpa [yn]using h5.1);refine hag2 (k+1) (hgo ⟨⟨fun he=>absurd (by omega) h4,fun _=>by rw[<-hc];exact hE⟩,fun _=>by rw[<-hc];exact h5.2,fun hlt=>?_⟩) (by omega);rw[<-hc];exact h6.resolve_left (fun h=>h (by omega))
   ·rw[zn (n:=i+1)];refine hag (i+1) ⟨by omega,by omega,fun t ht k' hk'=>?_⟩ (by omega)
    by_cases hti:t=i.toNat
    ·rw[hti];exact hQ k' (by omega)
    ·exact hP t (by omega) k' hk'
  have hP2:∀t,t<bs.length->∀k,k<bs.length->zqL bs ms t k:=fun t ht=>hP t (by omega);clear hP hag hfx ag
  refine hlp (Int) _ _ _ [1,3,8] (fun x=>[(1,none,.val (.box 31 (.agg [.slc false 49 (.agg [.slc false 2 (.int .i64 0) []]) a0,.slc false 24 (.slc false 2 (.int .i64 0) []) a1]))),(wJ0 3 n),(wJ0 8 x)])
   (fun x=>0<=x/\x<=n/\∀t:Nat,t<x.toNat->∀k,k<bs.length->zCF bs ms t k) (fun x=>(n-x).toNat) (0) (by subst hL;rfl) ?_ ?_
  ·exact⟨by omega,by omega,fun t ht=>by simp at ht⟩
  rintro i ⟨i0,i1,hP⟩ hfx ag hag
  conv=>cbv
  simp only[zo hL,sQ,];refine⟨fun h2=>?_,fun h2=>?_⟩
  ·have hil:i.toNat<bs.length:=(by omega);have rli:=rl _ hil
   refine hlp (Int) _ _ _ [1,3,8,9] (fun x=>[(1,none,.val (.box 31 (.agg [.slc false 49 (.agg [.slc false 2 (.int .i64 0) []]) a0,.slc false 24 (.slc false 2 (.int .i64 0) []) a1]))),(wJ0 3 n),(wJ0 8 i),(wJ0 9 x)])
    (fun x=>0<=x/\x<=n/\∀t:Nat,t<x.toNat->zCF bs ms i.toNat t) (fun x=>(n-x).toNat) (0) (by subst hL;rfl) ?_ ?_
   ·exact⟨by omega,by omega,fun t ht=>by simp at ht⟩
   rintro k ⟨k0,k1,hQ⟩ hfx2 ag2 hag2
   conv=>cbv
   simp only[zo hL,sQ,];refine⟨fun h3=>?_,fun h3=>?_⟩
   ·have hkl:k.toNat<bs.length:=by omega
    refine hlp (Int) _ _ _ [1,3,8,9,10] (fun x=>[(1,none,.val (.box 31 (.agg [.slc false 49 (.agg [.slc false 2 (.int .i64 0) []]) a0,.slc false 24 (.slc false 2 (.int .i64 0) []) a1]))),(wJ0 3 n),(wJ0 8 i),(wJ0 9 k),(wJ0 10 x)])
     (fun x=>0<=x/\x<=n/\∀j:Nat,j<x.toNat->i.toNat≠k.toNat->i.toNat≠j->j≠k.toNat->¬mm ms i.toNat k.toNat<min (mm ms i.toNat j) (mm ms j k.toNat)) (fun x=>(n-x).toNat) (0) (by subst hL;rfl) ?_ ?_
    ·exact⟨by omega,by omega,fun t ht=>by simp at ht⟩
    rintro j ⟨j0,j1,hJ⟩ hfx3 ag3 hag3
    conv=>cbv
    simp only[zo hL,sQ,hml,gm,hm1];refine⟨fun h6=>?_,fun h6=>?_⟩
    ·have hjl:j.toNat<bs.length:=(by omega);have rlj:=rl _ hjl;simp only[rli,rlj];refine⟨fun _=>by first|trivial|omega,fun _=>by first|trivial|omega,fun _=>by first|trivial|omega,fun _=>by first|trivial|omega,fun _=>by first|trivial|omega,fun _=>by first|trivial|omega,fun _=>by first|trivial|omega,fun _=>by first|trivial|omega,fun _=>by first|trivial|omega,fun _=>by first|trivial|omega,fun _=>by first|trivial|omega,fun _=>by first|trivial|omega,fun _=>by first|trivial|omega,fun _=>by first|trivial|omega,fun _=>by first|trivial|omega,fun _=>by first|trivial|omega,fun _=>by first|trivial|omega,fun _=>by first|trivial|omega,fun h7=>?_,fun h7=>?_⟩
     ·rw[hr,hF];intro hv;exact hv.ult _ _ _ hil hkl hjl (by omega) (by omega) (by omega) h7.2
     ·rw[zn (n:=j+1)];refine hag3 (j+1) ⟨by omega,by omega,fun t ht e0 e1 e2=>?_⟩ (by omega)
      by_cases htj:t=j.toNat
      ·rw[htj];exact h7.resolve_left (by omega)
      ·exact hJ t (by omega) e0 e1 e2
    ·rw[zn (n:=k+1)];refine hag2 (k+1) ⟨by omega,by omega,fun t ht=>?_⟩ (by omega)
     by_cases htk:t=k.toNat
     ·rw[htk];exact fun j' hj'=>hJ j' (by omega)
     ·exact hQ t (by omega)
   ·rw[zn (n:=i+1)];refine hag (i+1) ⟨by omega,by omega,fun t ht k' hk'=>?_⟩ (by omega)
    by_cases hti:t=i.toNat
    ·rw[hti];exact hQ k' (by omega)
    ·exact hP t (by omega) k' hk'
  ·rw[hr,hT];exact CvP.of (by omega) (by omega) hmn hA2 hP2 (fun t ht=>hP t (by omega))
 ·cases h
theorem TabP.range{ms:List (List Int)}{n:Nat}(h:TabP ms n){i k:Nat}(hi:i<n)(hk:k<n):0<=mm ms i k/\mm ms i k<=200:=by
 have hE:=(h.row i hi).2 k hk;by_cases he:i=k
 ·have:=hE.1 he;omega
 ·have:=hE.2 he;omega
def zns(a b:List V):Prop:=q_C a b/\CvP (zga a) (zbR b)
theorem zfR{a b:List V}(h:q_C a b)(hc:jZ a b=true):zns a b:=⟨h,za0.1 hc⟩
def zcq(bs:List (List Int)):Nat->Int
 |0=>0
 |n+1=>zcq bs n+(bs.getD n []).getD 0 0
theorem zs3{bs:List (List Int)}(h:∀i,i<bs.length->Br (bs.getD i [])):∀n,n<=bs.length->0<=zcq bs n/\zcq bs n<=64*n
 |0,_=>by simp[zcq]
 |n+1,hn=>by
  have h1:=zs3 h n (by omega);have h2:=(h n (by omega)).first;have h3:=(h n (by omega)).low 0 (h n (by omega)).pos;simp only[zcq];omega
def zyR(f:List V->List V->Int)(q:List V->List V->Prop):zO:=fun
 |[.agg [.slc false 49 (.agg [.slc false 2 (.int .i64 0) []]) a0,.slc false 24 (.slc false 2 (.int .i64 0) []) a1]]=>some ([q a0 a1],.int .i64 (f a0 a1))
 |_=>none
def ziQ(a _:List V):Int:=zcq (zga a) a.length
theorem zkJ:yM Tryz.prog 48 (zyR ziQ zns):=by
 intro args ps r h hp;unfold zyR at h;split at h
 ·rename_i a0 a1;cases h;obtain⟨⟨⟨bs,hbs,hb1,hb2⟩,⟨ms,hms,hm1,hm2⟩⟩,hcv⟩:=(zp.1 hp).1;rw[hbs,hms,jG,qB]at hcv;have g1:V.frzs a0=a0:=by rw[hbs,ko]
  have g2:V.frzs a1=a1:=by rw[hms,jy]
  have hbl:a0.length=bs.length:=by rw[hbs,qw]
  have hml:a1.length=ms.length:=by rw[hms,ye]
  have gb:∀k,a0.getD k (.agg [.slc false 2 (.int .i64 0) []])=.agg [.slc false 2 (.int .i64 0) (I (bs.getD k []))]:=fun k=>by rw[hbs,YT]
  have gm:∀k,a1.getD k (.slc false 2 (.int .i64 0) [])=.slc false 2 (.int .i64 0) (I (ms.getD k [])):=fun k=>by rw[hms,qu]
  have hm0:∀x y:Nat,(ms.getD x []).getD y 0=mm ms x y:=fun _ _=>rfl;obtain⟨n,hn⟩:=qEI bs.length;have n1:=hcv.n1;have n6:=hcv.n6;have hmn:ms.length=bs.length:=hcv.tab.len;have hbr:∀i,i<bs.length->Br (bs.getD i []):=fun i hi=>zaK (hcv.br i hi);have rl:∀k,k<bs.length->(ms.getD k []).length=bs.length:=fun k hk=>(hcv.tab.row k hk).1;have mmr:∀i k,i<bs.length->k<bs.length->0<=mm ms i k/\mm ms i k<=200:=fun i k hi hk=>hcv.tab.range hi hk;have mmo:∀i k,i<bs.length->k<bs.length->i≠k->1<=mm ms i k/\mm ms i k<=200:=fun i k hi hk hne=>((hcv.tab.row i hi).2 k hk).2 hne;have hf0:ziQ a0 a1=zcq bs bs.length:=by rw[ziQ,hbl,hbs,jG]
  refine zH (B:=[]) (Bi:=[]) [0,1,2,3,5,7,8,9] Tryz.func48 rfl rfl zF zA ?_;intro L lp rr hL hr hf hlp
  conv=>cbv
  refine hlp (Int×Int) _ _ _ [3,7,8,9] (fun x=>[(wJ0 3 x.1),(wJ10 7 a0),(wJ0 8 n),(wJ0 9 x.2)])
   (fun x=>0<=x.2/\x.2<=n/\x.1=zcq bs x.2.toNat) (fun x=>(n-x.2).toNat) ((0,0)) (by subst hL;rw[hn,<-hbl];rfl) ?_ ?_
  ·exact⟨by simp,by simp only;omega,rfl⟩
  rintro⟨s,i⟩ ⟨i0,i1,hI⟩ hfx ag hag;simp only at i0 i1 hI
  conv=>cbv
  simp only[zo hL,sQ,hbl,gb,Yh,KK,KY];refine⟨fun h2=>?_,fun h2=>?_⟩
  ·have hb:=hbr i.toNat (by omega);have hp:=hb.pos;have h64:=hb.first;have hlow:=hb.low 0 hp;have hmu:=zs3 hbr i.toNat (by omega);rw[zn (n:=s+(bs.getD i.toNat []).getD 0 0),zn (n:=i+1)]
   (repeat' first|(exact yL _)|(exact jY rfl)|(exact qG _)|(apply And.intro)|(intro _))<;>(try first|exact True.intro|omega|rfl|(simp only[zj,zu,zg];omega))
   refine hag (_,i+1) ⟨by simp only;omega,by simp only;omega,?_⟩ (by simp only;omega);simp only[ya i0];rw[zcq,hI]
  ·rw[hr,hf0,hI,show i.toNat=bs.length by omega]
 ·cases h
def zux(f:List V->List V->Int×Int)(q:List V->List V->Prop):zO:=fun
 |[.agg [.slc false 49 (.agg [.slc false 2 (.int .i64 0) []]) a0,.slc false 24 (.slc false 2 (.int .i64 0) []) a1]]=>some ([q a0 a1],.tup [.int .i64 ((f a0 a1).1),.int .i64 ((f a0 a1).2)])
 |_=>none
noncomputable def ztV(a b:List V):Int×Int:=bif jZ a b then(ziQ a b,0)else(0,1)
theorem zgp:yM Tryz.prog 10 (zux ztV q_C):=by
 intro args ps r h hp;unfold zux at h;split at h
 ·rename_i a0 a1;cases h;have hq:q_C a0 a1:=(zp.1 hp).1;have g1:=zfW hq.1.isBB;have g2:=zfV hq.2.isII;generalize kK:jZ=uW,YS:q_C=zae,zuW:ziQ=zCR,zAF:zns=zFG;refine zH (B:=[(11,zdR uW zae),(48,zyR zCR zFG)]) (Bi:=[]) [0,1,2,3] Tryz.func10 rfl rfl (by subst kK YS zuW zAF;exact(zm Kp (zm zkJ zF))) zA ?_;intro L lp rr hL hr hf hlp
  conv=>cbv
  simp only[zo hL,sQ,g1,g2];subst kK YS zuW zAF;refine⟨hq,fun h=>?_,fun h=>⟨zfR hq h,?_⟩⟩
  ·rw[hr,ztV,h];rfl
  ·rw[hr,ztV,h];rfl
 ·cases h
def zeM(bs ms:List (List Int))(i k:Nat):Int:=zs8 (bs.getD i []) (bs.getD k []) (mm ms i k).toNat
def zqs(f:List V->List V->Int->Int->Int)(q:List V->List V->Int->Int->Prop):zO:=fun
 |[.agg [.slc false 49 (.agg [.slc false 2 (.int .i64 0) []]) a0,.slc false 24 (.slc false 2 (.int .i64 0) []) a1],.int .i64 a2,.int .i64 a3]=>some ([q a0 a1 a2 a3],.int .i64 (f a0 a1 a2 a3))
 |_=>none
def zp9(a b:List V)(i k:Int):Int:=zeM (zga a) (zbR b) i.toNat k.toNat
def zEZ(a b:List V)(i k:Int):Prop:=zns a b/\0<=i/\i<a.length/\0<=k/\k<a.length/\i≠k
theorem zpK:yM Tryz.prog 60 (zqs zp9 zEZ):=by
 intro args ps r h hp;unfold zqs at h;split at h
 ·rename_i a0 a1 a2 a3;cases h;obtain⟨⟨⟨⟨bs,hbs,hb1,hb2⟩,⟨ms,hms,hm1,hm2⟩⟩,hcv⟩,⟨x0,x1,x2,x3,x4⟩⟩:=(zp.1 hp).1;rw[hbs,hms,jG,qB]at hcv;have g1:V.frzs a0=a0:=by rw[hbs,ko]
  have g2:V.frzs a1=a1:=by rw[hms,jy]
  have hbl:a0.length=bs.length:=by rw[hbs,qw]
  have hml:a1.length=ms.length:=by rw[hms,ye]
  have gb:∀k,a0.getD k (.agg [.slc false 2 (.int .i64 0) []])=.agg [.slc false 2 (.int .i64 0) (I (bs.getD k []))]:=fun k=>by rw[hbs,YT]
  have gm:∀k,a1.getD k (.slc false 2 (.int .i64 0) [])=.slc false 2 (.int .i64 0) (I (ms.getD k [])):=fun k=>by rw[hms,qu]
  have hm0:∀x y:Nat,(ms.getD x []).getD y 0=mm ms x y:=fun _ _=>rfl;obtain⟨n,hn⟩:=qEI bs.length;have n1:=hcv.n1;have n6:=hcv.n6;have hmn:ms.length=bs.length:=hcv.tab.len;have hbr:∀i,i<bs.length->Br (bs.getD i []):=fun i hi=>zaK (hcv.br i hi);have rl:∀k,k<bs.length->(ms.getD k []).length=bs.length:=fun k hk=>(hcv.tab.row k hk).1;have mmr:∀i k,i<bs.length->k<bs.length->0<=mm ms i k/\mm ms i k<=200:=fun i k hi hk=>hcv.tab.range hi hk;have mmo:∀i k,i<bs.length->k<bs.length->i≠k->1<=mm ms i k/\mm ms i k<=200:=fun i k hi hk hne=>((hcv.tab.row i hi).2 k hk).2 hne;rw[hbl]at x1 x3;have hf0:zp9 a0 a1 a2 a3=zeM bs ms a2.toNat a3.toNat:=by rw[zp9,hbs,hms,jG,qB]
  have h1:=hbr a2.toNat (by omega);have h2:=hbr a3.toNat (by omega);have h3:=mmo a2.toNat a3.toNat (by omega) (by omega) (by omega);have h4:=rl a2.toNat (by omega);obtain⟨u,hu⟩:=qEx (bs.getD a2.toNat []);obtain⟨v,hv⟩:=qEx (bs.getD a3.toNat []);rw[<-hu]at h1;rw[<-hv]at h2;rw[zeM,<-hu,<-hv]at hf0;obtain⟨c,hc⟩:=qEx (mm ms a2.toNat a3.toNat);rw[<-hc]at h3 hf0;have hqm:zos (I u) (I v) c:=⟨⟨_,rfl,h1⟩,⟨_,rfl,h2⟩,by omega,by omega⟩;have hfm:ziR (I u) (I v) c=zs8 u v c.toNat:=by rw[ziR,zl,zl]
  generalize zuY:ziR=zCT,zuP:zos=zCN;refine zH (B:=[(99,zqt zCT zCN)]) (Bi:=[]) [0,1,2,3,6] Tryz.func60 rfl rfl (by subst zuY zuP;exact(zm zkK zF)) zA ?_;intro L lp rr hL hr hf hlp
  conv=>cbv
  simp only[zo hL,sQ,hbl,gb,Yh,KK,KY,<-hu,<-hv,gm,hml,h4,hm0,<-hc];subst zuY zuP;rw[hr,hf0,hfm]
  (repeat' first|(exact yL _)|(exact jY rfl)|(exact qG _)|(apply And.intro)|(intro _))<;>(try first|exact True.intro|omega|rfl|(simp only[zj,zu,zg];omega))
  all_goals first|exact hqm.1|exact hqm.2.1|skip
 ·cases h
def zdB(n:Nat)(i:Int):Bool:=yn i 0 ((n:Int)-1)
def zuw(f:List V->List V->Int->Bool)(q:List V->List V->Int->Prop):zO:=fun
 |[.agg [.slc false 49 (.agg [.slc false 2 (.int .i64 0) []]) a0,.slc false 24 (.slc false 2 (.int .i64 0) []) a1],.int .i64 a2]=>some ([q a0 a1 a2],.bool (f a0 a1 a2))
 |_=>none
def zyE(a _:List V)(i:Int):Bool:=zdB a.length i
def zEY(a b:List V)(_:Int):Prop:=zns a b
theorem zno:yM Tryz.prog 59 (zuw zyE zEY):=by
 intro args ps r h hp;unfold zuw at h;split at h
 ·rename_i a0 a1 a2;cases h;obtain⟨⟨⟨bs,hbs,hb1,hb2⟩,⟨ms,hms,hm1,hm2⟩⟩,hcv⟩:=(zp.1 hp).1;rw[hbs,hms,jG,qB]at hcv;have g1:V.frzs a0=a0:=by rw[hbs,ko]
  have g2:V.frzs a1=a1:=by rw[hms,jy]
  have hbl:a0.length=bs.length:=by rw[hbs,qw]
  have hml:a1.length=ms.length:=by rw[hms,ye]
  have gb:∀k,a0.getD k (.agg [.slc false 2 (.int .i64 0) []])=.agg [.slc false 2 (.int .i64 0) (I (bs.getD k []))]:=fun k=>by rw[hbs,YT]
  have gm:∀k,a1.getD k (.slc false 2 (.int .i64 0) [])=.slc false 2 (.int .i64 0) (I (ms.getD k [])):=fun k=>by rw[hms,qu]
  have hm0:∀x y:Nat,(ms.getD x []).getD y 0=mm ms x y:=fun _ _=>rfl;obtain⟨n,hn⟩:=qEI bs.length;have n1:=hcv.n1;have n6:=hcv.n6;have hmn:ms.length=bs.length:=hcv.tab.len;have hbr:∀i,i<bs.length->Br (bs.getD i []):=fun i hi=>zaK (hcv.br i hi);have rl:∀k,k<bs.length->(ms.getD k []).length=bs.length:=fun k hk=>(hcv.tab.row k hk).1;have mmr:∀i k,i<bs.length->k<bs.length->0<=mm ms i k/\mm ms i k<=200:=fun i k hi hk=>hcv.tab.range hi hk;have mmo:∀i k,i<bs.length->k<bs.length->i≠k->1<=mm ms i k/\mm ms i k<=200:=fun i k hi hk hne=>((hcv.tab.row i hi).2 k hk).2 hne;have hf0:zyE a0 a1 a2=yn a2 0 (n-1):=by rw[zyE,zdB,hbl,hn]
  generalize yG:yn=qd;refine zH (B:=[(34,qM qd)]) (Bi:=[]) [0,1,2,4] Tryz.func59 rfl rfl (by subst yG;exact(zm Ye zF)) zA ?_;intro L lp rr hL hr hf hlp
  conv=>cbv
  simp only[zo hL,sQ,hbl,<-hn];subst yG;rw[zn (n:=n-1),hr,hf0]
 ·cases h
def znS(f:List V->List V->Int->Int->Int×Int)(q:List V->List V->Int->Int->Prop):zO:=fun
 |[.agg [.slc false 49 (.agg [.slc false 2 (.int .i64 0) []]) a0,.slc false 24 (.slc false 2 (.int .i64 0) []) a1],.int .i64 a2,.int .i64 a3]=>some ([q a0 a1 a2 a3],.tup [.int .i64 ((f a0 a1 a2 a3).1),.int .i64 ((f a0 a1 a2 a3).2)])
 |_=>none
noncomputable def zqa(a b:List V)(i k:Int):Int×Int:=bif jZ a b then(bif zdB a.length i&&zdB a.length k&& !(i==k)then(zp9 a b i k,0)else(0,2))else(0,1)
def zC9(a b:List V)(_ _:Int):Prop:=q_C a b
theorem zj2{n:Nat}{i:Int}:zdB n i=true↔0<=i/\i<n:=by
 simp only[zdB,yn,Bool.and_eq_true,decide_eq_true_eq];omega
theorem zfE:yM Tryz.prog 14 (znS zqa zC9):=by
 intro args ps r h hp;unfold znS at h;split at h
 ·rename_i a0 a1 a2 a3;cases h;have hq:q_C a0 a1:=(zp.1 hp).1;have g1:=zfW hq.1.isBB;have g2:=zfV hq.2.isII;generalize kK:jZ=uW,YS:q_C=zae,zAO:zyE=zFL,zAB:zEY=zFC,zAQ:zp9=zFM,zAE:zEZ=zFF;refine zH (B:=[(11,zdR uW zae),(59,zuw zFL zFC),(60,zqs zFM zFF)]) (Bi:=[]) [0,1,2,3,6,7] Tryz.func14 rfl rfl (by subst kK YS zAO zAB zAQ zAE;exact(zm Kp (zm zno (zm zpK zF)))) zA ?_;intro L lp rr hL hr hf hlp
  conv=>cbv
  simp only[zo hL,sQ,g1,g2];subst kK YS zAO zAB zAQ zAE;refine⟨hq,fun h=>?_,fun h=>?_⟩
  ·rw[hr,zqa,h];rfl
  have hv:=zfR hq h;refine⟨hv,fun _=>hv,fun h2=>?_,fun h2=>?_⟩
  ·have hz:(zdB a0.length a2&&zdB a0.length a3&& !(a2==a3))=false:=by
    rcases h2 with(h2|h2)|h2
    ·rw[show zdB a0.length a2=false from h2];rfl
    ·rw[show zdB a0.length a3=false from h2,Bool.and_false];rfl
    ·rw[beq_iff_eq.2 h2,Bool.not_true,Bool.and_false]
   rw[hr,zqa,h,hz];rfl
  ·obtain⟨⟨h3,h4⟩,h5⟩:=h2;have h3:zdB a0.length a2=true:=h3;have h4:zdB a0.length a3=true:=h4;have h3':=zj2.1 h3;have h4':=zj2.1 h4
   have hz:(zdB a0.length a2&&zdB a0.length a3&& !(a2==a3))=true:=by
    rw[h3,h4,beq_eq_false_iff_ne.2 h5];rfl
   refine⟨⟨hv,h3'.1,h3'.2,h4'.1,h4'.2,h5⟩,?_⟩;rw[hr,zqa,h,hz];rfl
 ·cases h
def zF4(bs ms:List (List Int))(i:Nat):Int:=max ((sq1 (bs.getD i [])).length:Int) (zGu (ms.getD i []))
end Go.Ax
