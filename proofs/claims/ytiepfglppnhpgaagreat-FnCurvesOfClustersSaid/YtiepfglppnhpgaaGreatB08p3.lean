import Derived.Test.YtiepfglppnhpgaaGreatB04p3
import Derived.Test.YtiepfglppnhpgaaGreatB01p3
import Derived.Test.YtiepfglppnhpgaaGreatB07p3
import Derived.Test.YtiepfglppnhpgaaGreatB03p3
import Derived.Test.YtiepfglppnhpgaaGreatB02p3
import Derived.Test.YtiepfglppnhpgaaGreatB05p3
set_option linter.all false
set_option maxRecDepth 100000
set_option maxHeartbeats 4000000
open Int renaming le_refl->qN,toNat_natCast->zL
open List renaming all_eq_true->yc,append_assoc->zU,getD_eq_getElem?_getD->zd,getElem?_eq_getElem->ze,getElem?_map->zK,getElem_mem->yq,length_append->zr,length_cons->zj,length_map->zS,length_nil->zu,length_replicate->zx,length_set->yj,length_singleton->zW,length_take->zV,mem_iff_getElem->qS,mem_singleton->yd,take_of_length_le->zB
open Option renaming getD_some->qv,map_some->qy
open Option.some renaming injEq->za
open Prod.mk renaming injEq->zb
/-
 Draws:simple clusters,clusters of excesses. No conditions but those of the contracts.
-/
namespace Go.Ax
open Go.Proofs
def znf(o:List Int)(p x:Int):List Int:=o.set p.toNat (W (o.getD p.toNat 0+x))
def zne(P S:List Int):Nat->List Int->List Int
 |0,o=>o
 |n+1,o=>
  let o1:=znf o (P.getD (n+1) 0) (o.getD (n+1) 0)
  zne P S n (if 0<=S.getD (n+1) 0 then znf o1 (S.getD (n+1) 0) (o1.getD (n+1) 0)else o1)
def zef(P S:List Int)(i:Nat):List Int:=zne P S i ((List.replicate P.length 0).set i 1)
theorem zBp(o:List Int)(p x:Int):(znf o p x).length=o.length:=yj
theorem zjz(P S:List Int):∀(n:Nat) (o:List Int),(zne P S n o).length=o.length
 |0,_=>rfl
 |n+1,o=>by
  rw[zne,zjz P S n];split<;>simp only[zBp]
def zlE(f:List V->List V->List V->Int->List V)(q:List V->List V->List V->Int->Prop):zO:=fun
 |[.agg [.slc false 2 (.int .i64 0) a0,.slc false 2 (.int .i64 0) a1,.slc false 2 (.int .i64 0) a2],.int .i64 a3]=>some ([q a0 a1 a2 a3],.slc true 2 (.int .i64 0) (f a0 a1 a2 a3))
 |_=>none
def zfM(a b _:List V)(i:Int):List V:=I (zef (yD a) (yD b) i.toNat)
def zor(a b c:List V)(i:Int):Prop:=(∃w,Zd a b w)/\Yo c/\0<=i/\i<a.length
theorem zcz:yM Tryz.prog 75 (zlE zfM zor):=by
 intro args ps r h hp;unfold zlE at h;split at h
 ·rename_i a0 a1 a2 a3;cases h;obtain⟨⟨w,hqv⟩,⟨Q,hQ⟩,i0,i1⟩:zor a0 a1 a2 a3:=(zp.1 hp).1;obtain⟨⟨⟨P,hP⟩,⟨S,hS⟩,⟨Q2,hQ2⟩⟩,hcl⟩:=id hqv;rw[hP,hS,hQ2,zl,zl,zl]at hcl;have hpl:a0.length=P.length:=by rw[hP,zg]
  have hsl:a1.length=P.length:=by rw[hS,zg,hcl.sl]
  have gp:∀k,a0.getD k (.int .i64 0)=.int .i64 (P.getD k 0):=fun k=>by rw[hP,zG]
  have gs:∀k,a1.getD k (.int .i64 0)=.int .i64 (S.getD k 0):=fun k=>by rw[hS,zG]
  have hf0:zfM a0 a1 a2 a3=I (zef P S a3.toNat):=by rw[zfM,hP,hS,zl,zl]
  obtain⟨n,hn⟩:=qEI P.length;have n1:=hcl.n1;have n24:=hcl.n24;have low:=fun t ht=>hcl.low (i:=t) ht;rw[hpl]at i1;refine zH (B:=[]) (Bi:=[]) [0,1,2,4,5,6] Tryz.func75 rfl rfl zF zA ?_;intro L lp rr hL hr hf hlp
  conv=>cbv
  simp only[zo hL,sQ,JT,ua,zx,hpl,hsl,<-hn];refine⟨by omega,qN _,by omega,i0,by omega,by omega,?_⟩;obtain⟨vz,hvz⟩:=qEx (I ((List.replicate n.toNat 0).set a3.toNat 1));obtain⟨E,hE⟩:=qEx (zef P S a3.toNat);rw[<-hvz]
  refine hlp (List V×Int) _ _ _ [2,5,6] (fun x=>[(wJ1 2 a0 a1 a2),(wJ2 5 x.1),(wJ0 6 x.2)])
   (fun x=>0<=x.2/\x.2<=a3/\∃o,x.1=I o/\o.length=P.length/\zne P S x.2.toNat o=E) (fun x=>x.2.toNat) ((vz,a3)) (by subst hL;rfl) ?_ ?_
  ·refine⟨i0,qN _,_,hvz,by rw[yj,zx];omega,?_⟩;rw[hE,hn];rfl
  rintro⟨vl,j⟩ ⟨j0,j1,o,hO,hol,hoE⟩ hfx ag hag;simp only at j0 j1 hO hol hoE;have hvl:vl.length=P.length:=by rw[hO,zg,hol]
  have go:∀k,vl.getD k (.int .i64 0)=.int .i64 (o.getD k 0):=fun k=>by rw[hO,zG]
  have gset:∀k x,vl.set k (.int .i64 x)=I (o.set k x):=fun k x=>by rw[hO,ua]
  conv=>cbv
  simp only[zo hL,sQ,hpl,hsl,hvl,gp,gs,go,gset,ua,yj,hol];rw[zn (n:=j-1)];refine⟨fun h=>?_,fun h=>?_⟩
  ·obtain⟨l1,l2,l3,l4,l5,l6⟩:=low j.toNat (by omega);have l4:=l4 (by omega);have l5:=l5 (by omega)
   have hst:zne P S j.toNat o=zne P S (j-1).toNat (if 0<=S.getD j.toNat 0 then znf (znf o (P.getD j.toNat 0) (o.getD j.toNat 0)) (S.getD j.toNat 0) ((znf o (P.getD j.toNat 0) (o.getD j.toNat 0)).getD j.toNat 0)else znf o (P.getD j.toNat 0) (o.getD j.toNat 0)):=by
    rw[show j.toNat=(j-1).toNat+1 by omega];rfl
   rw[hoE]at hst;obtain⟨p,hp0⟩:=qEx (P.getD j.toNat 0);obtain⟨q,hq0⟩:=qEx (S.getD j.toNat 0);simp only[<-hp0,<-hq0]at l1 l2 l3 l4 l5 hst ⊢;refine⟨by omega,by omega,by omega,by omega,by omega,by omega,by omega,by omega,by omega,by omega,by omega,by omega,by omega,by omega,by omega,fun h2=>⟨by omega,by omega,by omega,by omega,by omega,by omega,by omega,by omega,by omega,by omega,by omega,by omega,by omega,?_⟩,fun h2=>?_⟩
   ·rw[if_pos h2]at hst;exact hag (_,j-1) ⟨by simp only;omega,by simp only;omega,_,rfl,by simp only[yj,hol],hst.symm⟩ (by simp only;omega)
   ·rw[if_neg h2]at hst;exact hag (_,j-1) ⟨by simp only;omega,by simp only;omega,_,rfl,by simp only[yj,hol],hst.symm⟩ (by simp only;omega)
  ·rw[hr,hf0,<-hE,<-hoE,show j.toNat=0 by omega,hO];rfl
 ·cases h
def zpa(f:List V->List V->List V->List V->List V×List V×List V)(q:List V->List V->List V->List V->Prop):zO:=fun
 |[.agg [.slc false 2 (.int .i64 0) a0,.slc false 2 (.int .i64 0) a1,.slc false 2 (.int .i64 0) a2],.slc false 2 (.int .i64 0) a3]=>some ([q a0 a1 a2 a3],.agg [.slc false 2 (.int .i64 0) ((f a0 a1 a2 a3).1),.slc false 2 (.int .i64 0) ((f a0 a1 a2 a3).2.1),.slc false 2 (.int .i64 0) ((f a0 a1 a2 a3).2.2)])
 |_=>none
def ztN(a b _ d:List V):List V×List V×List V:=(a,b,d)
def zgr(a b c d:List V):Prop:=qU a/\qU b/\Yo c/\Yo d
theorem zis:yM Tryz.prog 76 (zpa ztN zgr):=by
 intro args ps r h hp;unfold zpa at h;split at h
 ·rename_i a0 a1 a2 a3;cases h;obtain⟨h0,h1,h2,h3⟩:zgr a0 a1 a2 a3:=(zp.1 hp).1;obtain⟨P,hP⟩:=h0.1;obtain⟨S,hS⟩:=h1.1;obtain⟨Q,hQ⟩:=h3;have g0:V.frzs a0=a0:=by rw[hP,zt]
  have g1:V.frzs a1=a1:=by rw[hS,zt]
  have g3:V.frzs a3=a3:=by rw[hQ,zt]
  generalize qO:same=jK,yu:qU=yP;refine QA (B:=[(105,kD jK yP)]) (Bi:=[]) [2000001007,2000001010,0,1,2,4] Tryz.func76 rfl rfl (by subst qO yu;exact(zm zfh zF)) zA ?_;intro L lp rr hL hr hf hlp
  conv=>cbv
  subst qO yu;simp only[zo hL,sQ,same,g0,g1,g3];exact⟨h0,h1,hr.symm⟩
 ·cases h
def zuu(f:List V->List V->List V->List V×List V×List V×Int)(q:List V->List V->List V->Prop):zO:=fun
 |[.agg [.slc false 2 (.int .i64 0) a0,.slc false 2 (.int .i64 0) a1,.slc false 2 (.int .i64 0) a2]]=>some ([q a0 a1 a2],.tup [.agg [.slc false 2 (.int .i64 0) ((f a0 a1 a2).1),.slc false 2 (.int .i64 0) ((f a0 a1 a2).2.1),.slc false 2 (.int .i64 0) ((f a0 a1 a2).2.2.1)],.int .i64 ((f a0 a1 a2).2.2.2)])
 |_=>none
noncomputable def zaI(a b c:List V):List V×List V×List V×Int:=bif yZ a b c then(a,b,c,0)else([],[],[],3)
theorem zrD:yM Tryz.prog 79 (zuu zaI Yn):=by
 intro args ps r h hp;unfold zuu at h;split at h
 ·rename_i a0 a1 a2;cases h;have hq:Yn a0 a1 a2:=(zp.1 hp).1;obtain⟨⟨P,hP⟩,⟨S,hS⟩,⟨Q,hQ⟩⟩:=id hq;have g0:V.frzs a0=a0:=by rw[hP,zt]
  have g1:V.frzs a1=a1:=by rw[hS,zt]
  have g2:V.frzs a2=a2:=by rw[hQ,zt]
  generalize qC:yZ=kW,jX:Yn=uP;refine QA (B:=[(40,Yv kW uP)]) (Bi:=[]) [0,1,2,3] Tryz.func79 rfl rfl (by subst qC jX;exact(zm Ko zF)) zA ?_;intro L lp rr hL hr hf hlp
  conv=>cbv
  subst qC jX;simp only[zo hL,sQ,g0,g1,g2];refine⟨hq,fun h=>?_,fun h=>?_⟩
  ·rw[hr,zaI,h];rfl
  ·rw[hr,zaI,h];rfl
 ·cases h
def zaa(e:Int)(own:List Int):Nat->List Int->List Int
 |0,w=>w
 |k+1,w=>(zaa e own k w).set k (W ((zaa e own k w).getD k 0+W (e*own.getD k 0)))
def zfd(P S d:List Int):Nat->List Int
 |0=>List.replicate d.length 0
 |i+1=>zaa (d.getD i 0) (zef P S i) P.length (zfd P S d i)
theorem za5(e:Int)(own:List Int):∀(k:Nat) (w:List Int),(zaa e own k w).length=w.length
 |0,_=>rfl
 |k+1,w=>by rw[zaa,yj,za5 e own k]
theorem zm8(P S d:List Int):∀i,(zfd P S d i).length=d.length
 |0=>zx
 |i+1=>by rw[zfd,za5,zm8 P S d i]
def zkj(d:List Int):Bool:=d.all fun x=>decide (-1000<=x)&&decide (x<=1000)
theorem zEb{d:List Int}{i:Nat}(hi:i<d.length)(h:¬(-1000<=d.getD i 0/\d.getD i 0<=1000)):zkj d=false:=by
 rw[zkj,List.all_eq_false];refine⟨d.getD i 0,?_,by simpa [Int.not_le]using h⟩;rw[zd,ze hi];exact yq _
theorem zCi{d:List Int}(h:∀i,i<d.length->-1000<=d.getD i 0/\d.getD i 0<=1000):zkj d=true:=by
 rw[zkj,yc];intro x hx;obtain⟨i,hi,rfl⟩:=qS.1 hx;have:=h i hi;rw[zd,ze hi]at this;simpa using this
def zmo(f:List V->List V->List V->List V->List V×List V×List V×Int)(q:List V->List V->List V->List V->Prop):zO:=fun
 |[.agg [.slc false 2 (.int .i64 0) a0,.slc false 2 (.int .i64 0) a1,.slc false 2 (.int .i64 0) a2],.slc false 2 (.int .i64 0) a3]=>some ([q a0 a1 a2 a3],.tup [.agg [.slc false 2 (.int .i64 0) ((f a0 a1 a2 a3).1),.slc false 2 (.int .i64 0) ((f a0 a1 a2 a3).2.1),.slc false 2 (.int .i64 0) ((f a0 a1 a2 a3).2.2.1)],.int .i64 ((f a0 a1 a2 a3).2.2.2)])
 |_=>none
noncomputable def ug(a b c d:List V):List V×List V×List V×Int:=
 bif yZ a b c then(bif decide (d.length=a.length)&&zkj (yD d)then zaI a b (I (zfd (yD a) (yD b) (yD d) d.length))else([],[],[],2))else([],[],[],1)
def zrS(a b c d:List V):Prop:=Yn a b c/\Yo d
theorem zaR:yM Tryz.prog 30 (zmo ug zrS):=by
 intro args ps r h hp;unfold zmo at h;split at h
 ·rename_i a0 a1 a2 a3;cases h;obtain⟨hq,D,hD⟩:zrS a0 a1 a2 a3:=(zp.1 hp).1;obtain⟨⟨P,hP⟩,⟨S,hS⟩,⟨Q,hQ⟩⟩:=id hq;have g0:V.frzs a0=a0:=by rw[hP,zt]
  have g1:V.frzs a1=a1:=by rw[hS,zt]
  have g2:V.frzs a2=a2:=by rw[hQ,zt]
  have hpl:a0.length=P.length:=by rw[hP,zg]
  have hdl:a3.length=D.length:=by rw[hD,zg]
  have gd:∀k,a3.getD k (.int .i64 0)=.int .i64 (D.getD k 0):=fun k=>by rw[hD,zG]
  obtain⟨n,hn⟩:=qEI P.length;obtain⟨m,hm⟩:=qEI D.length;have hf1:yZ a0 a1 a2=false->ug a0 a1 a2 a3=([],[],[],1):=fun h=>by rw[ug,h];rfl
  have hf2:yZ a0 a1 a2=true->(D.length≠P.length\/zkj D=false)->ug a0 a1 a2 a3=([],[],[],2):=fun h h2=>by
   rw[ug,h,hdl,hpl,hD,zl];rcases h2 with h2|h2
   ·rw[decide_eq_false h2];rfl
   ·rw[h2,Bool.and_false];rfl
  have hf3:yZ a0 a1 a2=true->D.length=P.length->zkj D=true->ug a0 a1 a2 a3=zaI a0 a1 (I (zfd P S D P.length)):=fun h h2 h3=>by
   rw[ug,h,hdl,hpl,hD,zl,h3,decide_eq_true h2,hP,hS,zl,zl,h2];rfl
  generalize qC:yZ=kW,jX:Yn=uP,yG:yn=qd,zav:zfM=zbK,zau:zor=zc9,zeD:ztN=zhd,zad:zgr=zcL,zqA:zaI=zmw;refine QA (B:=[(40,Yv kW uP),(71,qM qd),(75,zlE zbK zc9),(76,zpa zhd zcL),(79,zuu zmw uP)]) (Bi:=[]) [1000019007,0,1,2,4,5,6,7,8,9,10,11,12] Tryz.func30 rfl rfl (by subst qC jX yG zav zau zeD zad zqA;exact(zm Ko (zm QG (zm zcz (zm zis (zm zrD zF)))))) zA ?_;intro L lp rr hL hr hf hlp;have Ef:kW a0 a1 a2=yZ a0 a1 a2:=by rw[<-qC]
  have Ei:∀x,qd x (-1000) 1000=(decide (-1000<=x)&&decide (x<=1000)):=fun x=>by rw[<-yG];rfl
  conv=>cbv
  simp only[zo hL,sQ,g0,g1,g2,Ef,hpl,hdl,<-hn,<-hm];refine⟨by rw[<-jX];exact hq,fun h=>?_,fun hcl0=>⟨fun h=>?_,fun hmn=>?_⟩⟩
  ·rw[hr,hf1 h];rfl
  ·rw[hr,hf2 hcl0 (.inl (by omega))];rfl
  have hqv:Zd a0 a1 a2:=zfS hq hcl0;have hcl:ClP P S Q:=by have:=hqv.2;rwa [hP,hS,hQ,zl,zl,zl]at this
  have n24:=hcl.n24
  refine hlp (Int) _ _ _ [1,2,4,6] (fun x=>[(wJ3 1 a3),(wJ1 2 a0 a1 a2),(wJ4 4),(wJ0 6 x)])
   (fun x=>0<=x/\x<=m/\∀t:Nat,t<x.toNat->-1000<=D.getD t 0/\D.getD t 0<=1000) (fun x=>(m-x).toNat) (0) (by subst hL;rfl) ?_ ?_
  ·exact⟨by simp,by omega,fun t ht=>by simp at ht⟩
  rintro i ⟨i0,i1,hI⟩ hfx ag hag
  conv=>cbv
  simp only[zo hL,sQ,g0,g1,g2,hdl,gd,Ei,<-hm];rw[zn (n:=i+1)];refine⟨fun h2=>⟨i0,h2,fun h3=>?_,fun h3=>?_⟩,fun h2=>?_⟩
  ·rw[hr,hf2 hcl0 (.inr (zEb (i:=i.toNat) (by omega) (fun h4=>by omega)))];rfl
  ·refine hag (i+1) ⟨by omega,by omega,fun t ht=>?_⟩ (by omega)
   by_cases e:t=i.toNat
   ·rw[e];exact h3
   ·exact hI t (by omega)
  have hex:zkj D=true:=zCi fun t ht=>hI t (by omega);have hf0:=hf3 hcl0 (by omega) hex;have hdp:D.length=P.length:=by omega
  refine⟨by omega,qN _,by omega,?_⟩;obtain⟨vz,hvz⟩:=qEx (List.replicate m.toNat (V.int .i64 0));rw[<-hvz];have hvz2:vz=I (zfd P S D 0):=by rw[hvz,JT,zfd,hm,zL]
  have Es:∀x:Int,0<=x->zbK a0 a1 a2 x=I (zef P S x.toNat):=fun x _=>by rw[<-zav,zfM,hP,hS,zl,zl]
  have Qs:∀x:Int,0<=x->x<n->zc9 a0 a1 a2 x:=by
   rw[<-zau];exact fun x h1 h2=>⟨⟨_,hqv⟩,⟨Q,hQ⟩,h1,by rw[hpl];omega⟩
  have Ew:∀d,zhd a0 a1 a2 d=(a0,a1,d):=fun d=>by rw[<-zeD];rfl
  have Qw:∀d,Yo d->zcL a0 a1 a2 d:=by
   rw[<-zad];exact fun d h=>⟨⟨⟨P,hP⟩,by rw[hpl];omega⟩,⟨⟨S,hS⟩,by rw[hS,zg,hcl.sl];omega⟩,⟨Q,hQ⟩,h⟩
  clear hag hfx ag
  refine hlp (List V×Int) _ _ _ [1,2,4,7,8] (fun x=>[(wJ3 1 a3),(wJ1 2 a0 a1 a2),(wJ4 4),(wJ2 7 x.1),(wJ0 8 x.2)])
   (fun x=>0<=x.2/\x.2<=m/\x.1=I (zfd P S D x.2.toNat)) (fun x=>(m-x.2).toNat) ((vz,0)) (by subst hL;rfl) ?_ ?_
  ·exact⟨by simp,by simp only;omega,hvz2⟩
  rintro⟨vl,j⟩ ⟨j0,j1,hJ⟩ hfx ag hag;simp only at j0 j1 hJ;have hvl:vl.length=D.length:=by rw[hJ,zg,zm8]
  have hfv:V.frzs vl=vl:=by rw[hJ,zt]
  obtain⟨vo,hvo⟩:=qEx (zbK a0 a1 a2 j)
  conv=>cbv
  simp only[zo hL,sQ,g0,g1,g2,hdl,<-hm,hvl,hfv,Ew,<-hvo];refine⟨fun h3=>⟨Qs _ j0 (by omega),?_⟩,fun h3=>?_⟩
  ·rw[Es j j0]at hvo;obtain⟨own,hown⟩:=qEx (zef P S j.toNat);obtain⟨w,hw⟩:=qEx (zfd P S D j.toNat);rw[<-hown]at hvo;rw[<-hw]at hJ;have hwl:w.length=P.length:=(by rw[hw,zm8];omega);have hol:own.length=P.length:=(by rw[hown,zef,zjz,yj,zx]);have hvol:vo.length=P.length:=(by rw[hvo,zg,hol]);have go:∀k,vo.getD k (.int .i64 0)=.int .i64 (own.getD k 0):=fun k=>(by rw[hvo,zG]);have hnx:zfd P S D (j.toNat+1)=zaa (D.getD j.toNat 0) own P.length w:=(by rw[zfd,<-hown,<-hw]);obtain⟨e,he⟩:=qEx (D.getD j.toNat 0);rw[<-he]at hnx
   refine hlp (List V×Int) _ _ _ [1,2,4,7,8,9,10] (fun x=>[(wJ3 1 a3),(wJ1 2 a0 a1 a2),(wJ4 4),(wJ2 7 x.1),(wJ0 8 j),(wJ2 9 vo),(wJ0 10 x.2)])
    (fun x=>0<=x.2/\x.2<=n/\x.1=I (zaa e own x.2.toNat w)) (fun x=>(n-x.2).toNat) ((vl,0)) (by subst hL;rfl) ?_ ?_
   ·exact⟨by simp,by simp only;omega,hJ⟩
   rintro⟨vk,k⟩ ⟨k0,k1,hK⟩ hfx2 ag2 hag2;simp only at k0 k1 hK;have hvk:vk.length=P.length:=(by rw[hK,zg,za5,hwl]);have gk:∀k',vk.getD k' (.int .i64 0)=.int .i64 ((zaa e own k.toNat w).getD k' 0):=fun k'=>by rw[hK,zG]
   conv=>cbv
   simp only[zo hL,sQ,hdl,<-hm,<-hn,hvk,hvol,go,gk,gd,<-he];rw[zn (n:=k+1)];refine⟨fun h4=>?_,fun h4=>?_⟩
   ·iterate 14 try refine⟨by omega,?_⟩
    refine hag2 (_,k+1) ⟨by simp only;omega,by simp only;omega,?_⟩ (by simp only;omega);simp only;rw[show(k+1).toNat=k.toNat+1 by omega,zaa,hK,ua]
   ·rw[zn (n:=j+1)];refine hag (vk,j+1) ⟨by simp only;omega,by simp only;omega,?_⟩ (by simp only;omega);simp only;rw[show(j+1).toNat=j.toNat+1 by omega,hnx,hK,show k.toNat=P.length by omega]
  ·rw[hr,hf0];have hJ2:vl=I (zfd P S D P.length):=(by rw[hJ,show j.toNat=P.length by omega]);refine⟨Qw _ ⟨_,hJ⟩,by rw[<-jX];exact⟨⟨P,hP⟩,⟨S,hS⟩,⟨_,hJ⟩⟩,?_⟩
   have hffz:V.frzs (zmw a0 a1 vl).1=(zaI a0 a1 vl).1/\V.frzs (zmw a0 a1 vl).2.1=(zaI a0 a1 vl).2.1/\V.frzs (zmw a0 a1 vl).2.2.1=(zaI a0 a1 vl).2.2.1:=by
    rw[<-zqA,zaI]
    cases yZ a0 a1 vl with
    |false=>exact⟨rfl,rfl,rfl⟩
    |true=>exact⟨g0,g1,hfv⟩
   rw[hffz.1,hffz.2.1,hffz.2.2,<-zqA,<-hJ2]
 ·cases h
theorem zxQ{pp:List Int}{x:Int}{t:Nat}(h:((pp++List.replicate t x).take 7).length<=6):(pp++List.replicate t x).take 7++[x]=(pp++List.replicate (t+1) x).take 7:=by
 rw[zV]at h;have h2:(pp++List.replicate t x).length<=6:=by omega
 rw[zB (by omega),List.replicate_succ',<-zU,zB (by rw[zr];simp only[zj,zu];omega)]
theorem zzd{pp:List Int}{x:Int}{t c:Nat}(ht:t<=c)(h:t=c\/6<((pp++List.replicate t x).take 7).length):(pp++List.replicate t x).take 7=(pp++List.replicate c x).take 7:=by
 rcases h with h|h
 ·rw[h]
 ·rw[zV]at h
  have e:pp++List.replicate c x=(pp++List.replicate t x)++List.replicate (c-t) x:=by
   rw[zU,List.replicate_append_replicate,show t+(c-t)=c by omega]
  rw[e];exact(List.take_append_of_le_length (by omega)).symm
noncomputable def zo4(a b c:List V):List V×List V×Int:=(V.frzs (uN a b c).1,V.frzs (uN a b c).2.1,(uN a b c).2.2)
noncomputable def Qk(a b c:List V):List V×List V×Int:=(V.frzs (uN a b c).1,(uN a b c).2.1,(uN a b c).2.2)
def zus(f:List V->List V->List V->List V×List V×Int)(q:List V->List V->List V->Prop):zO:=fun
 |[.agg [.slc false 2 (.int .i64 0) a0,.slc false 2 (.int .i64 0) a1,.slc false 2 (.int .i64 0) a2]]=>some ([q a0 a1 a2],.tup [.agg [.slc true 49 (.agg [.slc false 2 (.int .i64 0) []]) ((f a0 a1 a2).1),.slc true 24 (.slc true 2 (.int .i64 0) []) ((f a0 a1 a2).2.1)],.int .i64 ((f a0 a1 a2).2.2)])
 |_=>none
theorem zb6:yM Tryz.prog 7 (zus Qk Yn):=by
 intro args ps r h hp;unfold zus at h;split at h
 ·rename_i a0 a1 a2;cases h;have hq:Yn a0 a1 a2:=(zp.1 hp).1;obtain⟨⟨P,hP⟩,⟨S,hS⟩,⟨Q,hQ⟩⟩:=id hq;have g0:V.frzs a0=a0:=by rw[hP,zt]
  have g1:V.frzs a1=a1:=by rw[hS,zt]
  have g2:V.frzs a2=a2:=by rw[hQ,zt]
  have hpl:a0.length=P.length:=by rw[hP,zg]
  have hf1:yZ a0 a1 a2=false->uN a0 a1 a2=([],[],1):=fun h=>by rw[uN,h];rfl
  have hf2:yZ a0 a1 a2=true->uR a0 a1 a2=false->uN a0 a1 a2=([],[],5):=fun h h2=>by rw[uN,h,h2];rfl
  obtain⟨fs,hfs⟩:=qEx (kC (jA P S Q) P.length);have hf3:yZ a0 a1 a2=true->uR a0 a1 a2=true->uN a0 a1 a2=zfo P S (jP fs):=fun h h2=>by rw[uN,h,h2,hpl,hP,hS,hQ,zl,zl,zl,hfs];rfl
  have hff:QP a0 a1 a2=II true fs:=by rw[QP,hpl,hP,hS,hQ,zl,zl,zl,hfs]
  obtain⟨vf,hvf⟩:=qEx (II true fs);rw[<-hvf]at hff;have hvl:vf.length=fs.length:=by rw[hvf,ye]
  have gvf:∀k,vf.getD k (.slc true 2 (.int .i64 0) [])=.slc true 2 (.int .i64 0) (I (fs.getD k [])):=fun k=>by rw[hvf,qu]
  obtain⟨n,hn⟩:=qEI fs.length;generalize qC:yZ=kW,jX:Yn=uP,JU:uR=zhg,uJ:Zd=Zm,zbo:QP=zcO,zjn:zeR=zjv,zbk:zcB=KC,Ja:Qg=JV,zc7:zdH=zdb,uI:JJ=Zw;refine zzX (B:=[(40,Yv kW uP),(41,Yv zhg Zm),(42,zdQ zcO Zm),(43,zqp zjv KC),(3000000043,zew),(44,zc3 JV KC),(45,zas zdb Zw)]) (Bi:=[]) [1000016708,2000019811,2000019884,2000019998,2000023101,0,1,2,3,4,5,6,7,8,9,10,11,12,13,14,15,16,17] Tryz.func7 rfl rfl (by subst qC jX JU uJ zbo zjn zbk Ja zc7 uI;exact(zm Ko (zm zjA (zm zmy (zm zjE (zm ziE (zm zir (zm zkA zF)))))))) zA ?_;intro L lp rr hL hr hf hlp;have Ef:zcO a0 a1 a2=vf:=by rw[<-zbo];exact hff
  conv=>cbv
  simp only[zo hL,sQ,g0,g1,g2,Ef,hvl,<-hn];refine⟨by rw[<-jX];exact hq,fun h=>?_,fun hcl0=>?_⟩
  ·rw[hr,Qk,hf1 (by rw[<-h,<-qC])]
  have hcl1:yZ a0 a1 a2=true:=by rw[<-hcl0,<-qC]
  have hqv:Zd a0 a1 a2:=zfS hq hcl1;have hcl:ClP P S Q:=by have:=hqv.2;rwa [hP,hS,hQ,zl,zl,zl]at this
  have Qv:Zm a0 a1 a2:=by rw[<-uJ];exact hqv
  have hfo:FacOk P.length fs:=by rw[hfs];exact Kv hcl
  have hl24:=hfo.len;refine⟨Qv,fun h=>?_,fun hco0=>?_⟩
  ·rw[hr,Qk,hf2 hcl1 (by rw[<-h,<-JU])]
  have hco1:uR a0 a1 a2=true:=by rw[<-hco0,<-JU]
  have hf0:=hf3 hcl1 hco1;refine⟨Qv,?_⟩
  refine hlp (List V×Int) _ _ _ [1,2,4,5,6] (fun x=>[(wJ1 1 a0 a1 a2),(2,none,.val (.box 31 (.agg [.slc true 49 (.agg [.slc true 2 (.int .i64 0) []]) [],.slc true 24 (.slc true 2 (.int .i64 0) []) []]))),(4,none,.val (.slc true 24 (.slc true 2 (.int .i64 0) []) vf)),(wJ2 5 x.1),(wJ0 6 x.2)])
   (fun x=>0<=x.2/\x.2<=n/\x.1=I ((jP (fs.take x.2.toNat)).take 7)) (fun x=>(n-x.2).toNat) (([],0)) (by subst hL;rfl) ?_ ?_
  ·exact⟨by simp,by simp only;omega,rfl⟩
  rintro⟨vp,i⟩ ⟨i0,i1,hI⟩ hfx ag hag;simp only at i0 i1 hI;obtain⟨ni,hni⟩:∃ni:Nat,ni=i.toNat:=⟨_,rfl⟩;rw[<-hni]at hI;have hvpl:vp.length=((jP (fs.take ni)).take 7).length:=by rw[hI,zg]
  conv=>cbv
  simp only[zo hL,sQ,g0,g1,g2,hvl,gvf,<-hn,zG,zg,<-hni];refine⟨fun h2=>?_,fun h2=>?_⟩
  ·obtain⟨r1,r2,r3,r4,r5⟩:=hfo.get (i:=ni) (by omega);obtain⟨xx,hx⟩:=qEx ((fs.getD ni []).getD 0 0);rw[<-hx]at r2 r3;obtain⟨c,hc⟩:=qEx ((fs.getD ni []).getD 1 0);rw[<-hc]at r4 r5;obtain⟨pp,hpp⟩:=qEx (jP (fs.take ni));rw[<-hpp]at hI;have hnx:jP (fs.take (ni+1))=pp++List.replicate c.toNat xx:=(by rw[zkQ (by omega),zhx,<-hpp,<-hx,<-hc]);simp only[<-hc];refine⟨i0,h2,by omega,by omega,by omega,by omega,by omega,by omega,?_⟩
   refine hlp (List V×Int) _ _ _ [1,2,4,5,6,7] (fun x=>[(wJ1 1 a0 a1 a2),(2,none,.val (.box 31 (.agg [.slc true 49 (.agg [.slc true 2 (.int .i64 0) []]) [],.slc true 24 (.slc true 2 (.int .i64 0) []) []]))),(4,none,.val (.slc true 24 (.slc true 2 (.int .i64 0) []) vf)),(wJ2 5 x.1),(wJ0 6 i),(wJ0 7 x.2)])
    (fun x=>0<=x.2/\x.2<=c/\x.1=I ((pp++List.replicate (c-x.2).toNat xx).take 7)) (fun x=>x.2.toNat) ((vp,c)) (by subst hL;rfl) ?_ ?_
   ·exact⟨by simp only;omega,by simp,by simp only;rw[hI];simp⟩
   rintro⟨vp2,e⟩ ⟨e0,e1,hI2⟩ hfx2 ag2 hag2;simp only at e0 e1 hI2;have hvl2:vp2.length=((pp++List.replicate (c-e).toNat xx).take 7).length:=(by rw[hI2,zg]);have hv7:vp2.length<=7:=by rw[hvl2,zV];omega
   conv=>cbv
   simp only[zo hL,sQ,hvl,gvf,<-hn,zG,zg,<-hni,<-hx];refine⟨fun h5=>⟨i0,h2,by omega,by omega,by omega,by omega,by omega,by omega,rfl,by simp only[zj,zu];omega,fun z hz=>by(simp only[yd]at hz;subst hz;rfl),?_⟩,fun h5=>?_⟩
   ·rw[zn (n:=e-1)];refine hag2 (_,e-1) ⟨by simp only;omega,by simp only;omega,?_⟩ (by simp only;omega);simp only;rw[show(c-(e-1)).toNat=(c-e).toNat+1 by omega,<-zxQ (by rw[<-hvl2];omega),<-qW,<-hI2];rfl
   ·rw[zn (n:=i+1)];refine hag (vp2,i+1) ⟨by simp only;omega,by simp only;omega,?_⟩ (by simp only;omega);simp only
    rw[show(i+1).toNat=ni+1 by omega,hnx,hI2,zzd (t:=(c-e).toNat) (c:=c.toNat) (by omega) (by
     rcases h5 with h5|h5
     ·exact .inl (by omega)
     ·exact .inr (by rw[<-hvl2];omega))]
  have htk:fs.take ni=fs:=zB (by omega);obtain⟨ps,hps⟩:=qEx (jP fs);rw[htk,<-hps]at hI hvpl;rw[<-hps]at hf0;rw[zV]at hvpl;refine⟨fun h3=>?_,fun h3=>?_⟩
  ·have h4:ps.length=0\/6<ps.length:=(by omega);rw[hr,Qk,hf0,zfo,if_pos h4]
  have hp6:1<=ps.length/\ps.length<=6:=by omega
  have hf4:zfo P S ps=bif ps.all (Kb P S)then(BB true (ps.map (qZ P S)),II true (T2 ps.length (Jf P ps)),0)else([],[],5):=by rw[zfo,if_neg (by omega)]
  rw[zB (by omega)]at hI;have hvl3:vp.length=ps.length:=by rw[hI,zg]
  have gvp:∀k,vp.getD k (.int .i64 0)=.int .i64 (ps.getD k 0):=fun k=>by rw[hI,zG]
  have hbatx:∀x:Int,0<=x->x<P.length->zjv a0 a1 a2 x=za3 (jc P S x):=fun x h1 h2=>by rw[<-zjn,zeR,hP,hS,zl,zl]
  have Qp:∀x:Int,0<=x->x<P.length->KC a0 a1 a2 x:=by
   rw[<-zbk];exact fun x h1 h2=>⟨hqv,h1,by rw[hpl];exact h2⟩
  have Ep:∀x:Int,JV a0 a1 a2 x=I (zC P x):=fun x=>by rw[<-Ja,Qg,hP,zl]
  have hpin:∀k,k<ps.length->0<=ps.getD k 0/\ps.getD k 0<P.length:=fun k hk=>zby hfo (ps.getD k 0) (by rw[<-hps];exact ky hk);obtain⟨m,hm⟩:=qEI ps.length;clear hag hfx ag
  refine hlp ((List V×List V)×Int) _ _ _ [1,2,5,8,9,10] (fun x=>[(wJ1 1 a0 a1 a2),(2,none,.val (.box 31 (.agg [.slc true 49 (.agg [.slc true 2 (.int .i64 0) []]) [],.slc true 24 (.slc true 2 (.int .i64 0) []) []]))),(wJ2 5 vp),(8,none,.val (.box 31 (.agg [.slc true 49 (.agg [.slc false 2 (.int .i64 0) []]) x.1.1,.slc true 24 (.slc true 2 (.int .i64 0) []) []]))),(9,none,.val (.slc true 24 (.slc true 2 (.int .i64 0) []) x.1.2)),(wJ0 10 x.2)])
   (fun x=>0<=x.2/\x.2<=m/\x.1.1=BB false ((ps.take x.2.toNat).map (qZ P S))/\x.1.2=II true ((ps.take x.2.toNat).map (zC P))/\∀y∈ps.take x.2.toNat,Kb P S y=true) (fun x=>(m-x.2).toNat) ((([],[]),0)) (by subst hL;rfl) ?_ ?_
  ·exact⟨by simp,by simp only;omega,rfl,rfl,fun y hy=>by cases hy⟩
  rintro⟨⟨bs,qs⟩,j⟩ ⟨j0,j1,hB,hQ2,hok⟩ hfx ag hag;simp only at j0 j1 hB hQ2 hok;obtain⟨nj,hnj⟩:∃nj:Nat,nj=j.toNat:=⟨_,rfl⟩;rw[<-hnj]at hB hQ2 hok;have hbl:bs.length<=6:=by rw[hB,qw,zS,zV];omega
  have hql:qs.length<=6:=by rw[hQ2,ye,zS,zV];omega
  conv=>cbv
  simp only[zo hL,sQ,g0,g1,g2,hvl3,gvp,<-hm,<-hnj,Ep];refine⟨fun h4=>?_,fun h4=>?_⟩
  ·have hnl:nj<ps.length:=(by omega);obtain⟨x,hx⟩:=qEx (ps.getD nj 0);obtain⟨x0,x1⟩:=hpin nj hnl;rw[<-hx]at x0 x1;simp only[<-hx,hbatx x x0 x1];have hxm:x∈ps:=(by rw[hx];exact ky hnl);have htk2:ps.take (nj+1)=ps.take nj++[x]:=(by rw[List.take_succ_eq_append_getElem hnl,zwq hnl,hx]);refine⟨j0,h4,hnl,Qp x x0 x1,?_⟩
   cases hox:Kb P S x with
   |false=>
    rw[zwI hox];refine⟨fun _=>?_,fun h=>by cases h⟩;have hall:ps.all (Kb P S)=false:=(by rw[List.all_eq_false];exact⟨x,hxm,by rw[hox];simp⟩);rw[hr,Qk,hf0,hf4,hall];rfl
   |true=>
    rw[zua hox,zn (n:=j+1)];refine⟨fun h=>absurd rfl h,fun _=>⟨by simp only[zj,zu];omega,fun z hz=>by(simp only[yd]at hz;subst hz;rfl),j0,h4,hnl,Qp x x0 x1,by simp only[zj,zu];omega,fun z hz=>by(simp only[yd]at hz;subst hz;rfl),?_⟩⟩;refine hag ((_,_),j+1) ⟨by simp only;omega,by simp only;omega,?_,?_,fun y hy=>?_⟩ (by simp only;omega)
    ·simp only;rw[show(j+1).toNat=nj+1 by omega,htk2,List.map_append,hB];simp[BB]
    ·simp only;rw[show(j+1).toNat=nj+1 by omega,htk2,List.map_append,hQ2];simp[II]
    ·simp only at hy;rw[show(j+1).toNat=nj+1 by omega,htk2]at hy;rcases List.mem_append.1 hy with hy|hy
     ·exact hok y hy
     ·rw[yd]at hy;rw[hy];exact hox
  have htj:ps.take nj=ps:=zB (by omega);rw[htj]at hB hQ2 hok;have hall:ps.all (Kb P S)=true:=by rw[yc];exact hok
  have hf5:uN a0 a1 a2=(BB true (ps.map (qZ P S)),II true (T2 ps.length (Jf P ps)),0):=by rw[hf0,hf4,hall];rfl
  have hqsl:qs.length=ps.length:=by rw[hQ2,ye,zS]
  have gqs:∀k,k<ps.length->qs.getD k (.slc true 2 (.int .i64 0) [])=.slc true 2 (.int .i64 0) (I (zC P (ps.getD k 0))):=fun k hk=>by
   rw[hQ2,qu];congr 2;rw[zd,zK,ze hk,zd,ze hk];rfl
  have Eh:∀(xs:List Int) (y:Int),zdb (I xs) y=decide (y∈xs):=fun xs y=>by rw[<-zc7,zdH,zl];rw[Bool.eq_iff_iff];simp
  have hplen:∀k,k<ps.length->(zC P (ps.getD k 0)).length<=24:=fun k hk=>uD hcl (by have:=hpin k hk;omega) (hpin k hk).2
  have Qh:∀(k:Nat) (y:Int),k<ps.length->Zw (I (zC P (ps.getD k 0))) y:=by
   rw[<-uI];exact fun k y hk=>⟨⟨_,rfl⟩,by rw[zg];have:=hplen k hk;omega⟩
  clear hag hfx ag
  refine hlp (List V×Int) _ _ _ [2,5,8,9,13] (fun x=>[(2,none,.val (.box 31 (.agg [.slc true 49 (.agg [.slc true 2 (.int .i64 0) []]) [],.slc true 24 (.slc true 2 (.int .i64 0) []) []]))),(wJ2 5 vp),(8,none,.val (.box 31 (.agg [.slc true 49 (.agg [.slc false 2 (.int .i64 0) []]) bs,.slc true 24 (.slc true 2 (.int .i64 0) []) x.1]))),(9,none,.val (.slc true 24 (.slc true 2 (.int .i64 0) []) qs)),(wJ0 13 x.2)])
   (fun x=>0<=x.2/\x.2<=m/\x.1=II true (yQ (fun a=>yQ (Jf P ps a) ps.length) x.2.toNat)) (fun x=>(m-x.2).toNat) (([],0)) (by subst hL;rfl) ?_ ?_
  ·exact⟨by simp,by simp only;omega,rfl⟩
  rintro⟨ms,i⟩ ⟨i0,i1,hM⟩ hfx ag hag;simp only at i0 i1 hM;obtain⟨ni,hni⟩:∃ni:Nat,ni=i.toNat:=⟨_,rfl⟩;rw[<-hni]at hM;have hml:ms.length=ni:=by rw[hM,ye,yi]
  conv=>cbv
  simp only[zo hL,sQ,hvl3,<-hm,<-hni];refine⟨fun h5=>?_,fun h5=>?_⟩
  ·have hnil:ni<ps.length:=by omega
   refine hlp (List V×Int) _ _ _ [2,5,8,9,13,14,15] (fun x=>[(2,none,.val (.box 31 (.agg [.slc true 49 (.agg [.slc true 2 (.int .i64 0) []]) [],.slc true 24 (.slc true 2 (.int .i64 0) []) []]))),(wJ2 5 vp),(8,none,.val (.box 31 (.agg [.slc true 49 (.agg [.slc false 2 (.int .i64 0) []]) bs,.slc true 24 (.slc true 2 (.int .i64 0) []) ms]))),(9,none,.val (.slc true 24 (.slc true 2 (.int .i64 0) []) qs)),(wJ0 13 i),(wJ2 14 x.1),(wJ0 15 x.2)])
    (fun x=>0<=x.2/\x.2<=m/\x.1=I (yQ (Jf P ps ni) x.2.toNat)) (fun x=>(m-x.2).toNat) (([],0)) (by subst hL;rfl) ?_ ?_
   ·exact⟨by simp,by simp only;omega,rfl⟩
   rintro⟨rs,k⟩ ⟨k0,k1,hR⟩ hfx2 ag2 hag2;simp only at k0 k1 hR;obtain⟨nk,hnk⟩:∃nk:Nat,nk=k.toNat:=⟨_,rfl⟩;rw[<-hnk]at hR;have hrl:rs.length=nk:=by rw[hR,zg,yi]
   conv=>cbv
   simp only[zo hL,sQ,hvl3,<-hm,<-hnk];refine⟨fun h6=>?_,fun h6=>?_⟩
   ·have hkl:nk<ps.length:=by omega
    refine hlp (Int×Int) _ _ _ [2,5,8,9,13,14,15,16,17] (fun x=>[(2,none,.val (.box 31 (.agg [.slc true 49 (.agg [.slc true 2 (.int .i64 0) []]) [],.slc true 24 (.slc true 2 (.int .i64 0) []) []]))),(wJ2 5 vp),(8,none,.val (.box 31 (.agg [.slc true 49 (.agg [.slc false 2 (.int .i64 0) []]) bs,.slc true 24 (.slc true 2 (.int .i64 0) []) ms]))),(9,none,.val (.slc true 24 (.slc true 2 (.int .i64 0) []) qs)),(wJ0 13 i),(wJ2 14 rs),(wJ0 15 k),(wJ0 16 x.1),(wJ0 17 x.2)])
     (fun x=>0<=x.2/\x.2<=24/\(i=k->x.2=0)/\x.1=(JY ((zC P (ps.getD nk 0)).take x.2.toNat) (zC P (ps.getD ni 0)):Nat)) (fun x=>(24-x.2).toNat) ((0,0)) (by subst hL;rfl) ?_ ?_
    ·exact⟨by simp,by simp,fun _=>rfl,by simp[JY]⟩
    rintro⟨s,j⟩ ⟨j0',j1',hjk,hS2⟩ hfx3 ag3 hag3;simp only at j0' j1' hjk hS2
    conv=>cbv
    simp only[zo hL,sQ,hqsl,<-hm,<-hnk,<-hni,gqs nk hkl,gqs ni hnil,zG,zg,Eh];have hpk:=hplen nk hkl;refine⟨k0,h6,hkl,hkl,fun h7=>⟨i0,h5,hnil,k0,h6,hkl,hkl,j0',h7.1,hkl,by omega,hnil,Qh ni _ hnil,?_⟩,fun h7=>⟨rfl,by simp only[zj,zu];omega,fun z hz=>by(simp only[yd]at hz;subst hz;rfl),?_⟩⟩
    ·have hst:=zng (b:=zC P (ps.getD ni 0)) (show j.toNat<(zC P (ps.getD nk 0)).length by omega);have hsl:=zoc ((zC P (ps.getD nk 0)).take j.toNat) (zC P (ps.getD ni 0));rw[zV]at hsl;have hj1:(j+1).toNat=j.toNat+1:=(by omega);refine⟨fun h8=>?_,fun h8=>?_⟩
     ·rw[if_pos h8]at hst;rw[zn (n:=s+1),zn (n:=j+1)];exact hag3 (s+1,j+1) ⟨by simp only;omega,by simp only;omega,fun h9=>absurd h9 h7.2,by simp only;rw[hj1,hst,hS2];simp⟩ (by simp only;omega)
     ·rw[if_neg h8]at hst;rw[zn (n:=j+1)];exact hag3 (s,j+1) ⟨by simp only;omega,by simp only;omega,fun h9=>absurd h9 h7.2,by simp only;rw[hj1,hst,hS2];simp⟩ (by simp only;omega)
    ·have hsv:s=Jf P ps ni nk:=by
      by_cases hik:i=k
      ·have h8:=hjk hik;rw[Jf,if_pos (by omega),hS2,h8];rfl
      ·have h8:(zC P (ps.getD nk 0)).length<=j.toNat:=by
        rcases h7 with h7|h7
        ·omega
        ·exact absurd h7 hik
       have h9:=hpin ni hnil;have h10:=hpin nk hkl;rw[Jf,if_neg (by omega),hS2,zB h8,zso (Zn hcl (by omega) h10.2) (Zn hcl (by omega) h9.2)]
     rw[zn (n:=k+1)];refine hag2 (_,k+1) ⟨by simp only;omega,by simp only;omega,?_⟩ (by simp only;omega);simp only;rw[show(k+1).toNat=nk+1 by omega,QF,<-qW,<-hR,<-hsv];rfl
   ·rw[zn (n:=i+1)];refine⟨by simp only[zj,zu];omega,jY (by simp[V.solid]),?_⟩;refine hag (_,i+1) ⟨by simp only;omega,by simp only;omega,?_⟩ (by simp only;omega);simp only;rw[show(i+1).toNat=ni+1 by omega,QF,Zv,<-hM,zuK,hR,show nk=ps.length by omega]
  ·have hin:ni=ps.length:=(by omega);rw[hr,Qk,hf5,hM,hB,hin];simp only[ko];rfl
 ·cases h
def zur(f:List V->List V->List V->List V×List V×Int)(q:List V->List V->List V->Prop):zO:=fun
 |[.agg [.slc false 2 (.int .i64 0) a0,.slc false 2 (.int .i64 0) a1,.slc false 2 (.int .i64 0) a2]]=>some ([q a0 a1 a2],.tup [.agg [.slc false 49 (.agg [.slc false 2 (.int .i64 0) []]) ((f a0 a1 a2).1),.slc false 24 (.slc false 2 (.int .i64 0) []) ((f a0 a1 a2).2.1)],.int .i64 ((f a0 a1 a2).2.2)])
 |_=>none
theorem zFo(a b c:List V):∃bs,(uN a b c).1=BB true bs:=by
 rw[uN]
 cases yZ a b c with
 |false=>exact⟨[],rfl⟩
 |true=>
  cases uR a b c with
  |false=>exact⟨[],rfl⟩
  |true=>
   simp only[cond_true,zfo];split
   ·exact⟨[],rfl⟩
   ·cases List.all _ _ with
    |false=>exact⟨[],rfl⟩
    |true=>exact⟨_,rfl⟩
theorem zix:yM Tryz.prog 7 (zur zo4 Yn):=by
 intro args ps r h hp;unfold zur at h;split at h
 ·rename_i a0 a1 a2;cases h;have h:=(zb6 [.agg [.slc false 2 (.int .i64 0) a0,.slc false 2 (.int .i64 0) a1,.slc false 2 (.int .i64 0) a2]] _ _ rfl hp).frz;obtain⟨bs,hbs⟩:=zFo a0 a1 a2;simp only[V.frz,V.frzs,Qk,hbs,ko]at h;simp only[zo4,hbs,ko];exact h
 ·cases h
end Go.Ax
namespace Go.Ax
open Go.Proofs
def zvi(A B:List V):Prop:=∃bs ms:List (List Int),A=BB false bs/\B=II true ms/\1<=bs.length/\bs.length<=6/\ms.length=bs.length/\(∀i,i<bs.length->(bs.getD i []).length<=3000)/\∀i,i<bs.length->(ms.getD i []).length=bs.length
theorem ztU{a b c:List V}(h:(Qk a b c).2.2=0):zvi (Qk a b c).1 (Qk a b c).2.1:=by
 simp only[Qk,uN]at h ⊢
 cases hh:yZ a b c with
 |false=>rw[hh]at h;cases h
 |true=>
  rw[hh]at h
  cases h2:uR a b c with
  |false=>rw[h2]at h;cases h
  |true=>
   rw[h2]at h;have hc:ClP (yD a) (yD b) (yD c):=QJ.1 hh;have hal:a.length=(yD a).length:=(by rw[yD,zS]);have hfo:=Kv hc;rw[hal]at h ⊢;obtain⟨ps,hps⟩:=qEx (jP (kC (jA (yD a) (yD b) (yD c)) (yD a).length));simp only[cond_true,<-hps,zfo]at h ⊢;by_cases hn:ps.length=0\/6<ps.length
   ·rw[if_pos hn]at h;cases h
   ·rw[if_neg hn]at h;rw[if_neg hn]
    cases ha:ps.all (Kb (yD a) (yD b))with
    |false=>rw[ha]at h;cases h
    |true=>
     rw[yc]at ha;refine⟨ps.map (qZ (yD a) (yD b)),T2 ps.length (Jf (yD a) ps),by simp only[cond_true];rw[ko],rfl,by rw[zS];omega,by rw[zS];omega,by rw[zS,T2,yi],fun i hi=>?_,fun i hi=>?_⟩
     ·rw[zS]at hi;rw[zd,zK,ze hi];have hm:=yq hi;have:=zby hfo _ (by rw[<-hps];exact hm);exact znP hc this.1 this.2 (ha _ hm)
     ·rw[zS]at hi ⊢;rw[T2,jp _ _ _ _ hi,yi]
def dwL(es:List V)(n:Int):Nat->List Int×Int×Int->List Int×Int×Int
 |0,x=>x
 |k+1,x=>dwL es n k (x.1.set (ja es x.2 n).toNat (W (x.1.getD (ja es x.2 n).toNat 0+1)),yN es x.2 n)
abbrev CvR:Type:=List V×List V×Int×Int
noncomputable def dwU(es:List V)(P S:List Int)(σ:Int×Int):Option (List V×List V)×Int×Int:=
 let l:=dwL es P.length (1+ja es σ 4).toNat (List.replicate P.length 0,yN es σ 4)
 let d:=ug (I P) (I S) (I (List.replicate P.length 0)) (I l.1)
 if d.2.2.2=0 then
  if 0<ja es l.2 5/\(Qk d.1 d.2.1 d.2.2.1).2.2=0 then(some ((Qk d.1 d.2.1 d.2.2.1).1,(Qk d.1 d.2.1 d.2.2.1).2.1),yN es l.2 5)else(none,yN es l.2 5)
 else(none,l.2)
noncomputable def dwT(es:List V)(σ:Int×Int):Option (List V×List V)×Int×Int:=
 let p:=JZ es (QI es σ [3,5,8]) (uz es σ [3,5,8])
 dwU es p.1 p.2.1 p.2.2
theorem zEa{a b c:List V}(h:Yn a b c):Yn (zaI a b c).1 (zaI a b c).2.1 (zaI a b c).2.2.1:=by
 rw[zaI]
 cases yZ a b c with
 |false=>exact⟨⟨[],rfl⟩,⟨[],rfl⟩,⟨[],rfl⟩⟩
 |true=>exact h
theorem zqb{a b c d:List V}(h:Yn a b c):Yn (ug a b c d).1 (ug a b c d).2.1 (ug a b c d).2.2.1:=by
 rw[ug]
 cases yZ a b c with
 |false=>exact⟨⟨[],rfl⟩,⟨[],rfl⟩,⟨[],rfl⟩⟩
 |true=>
  cases decide (d.length=a.length)&&zkj (yD d)with
  |false=>exact⟨⟨[],rfl⟩,⟨[],rfl⟩,⟨[],rfl⟩⟩
  |true=>exact zEa ⟨h.1,h.2.1,⟨_,rfl⟩⟩
def dwB(l:List Int):List Int:=if uE l=true then l else[2,3]
def dwE(es:List V)(σ:Int×Int):CvR:=
 let s:=smF es σ.1 σ.2 8 40
 let b:=dwB s.1
 let τ:=yN es s.2 2
 if ja es s.2 2=0 then(BB false [b],II true [[0]],τ)
 else(BB false [b,b],II true [[0,W ((sq1 b).length+ja es τ 3)],[W ((sq1 b).length+ja es τ 3),0]],yN es τ 3)
noncomputable def dwN(es:List V):Nat->Int×Int->CvR
 |0,σ=>dwE es σ
 |k+1,σ=>match (dwT es σ).1 with
  |some r=>(r.1,r.2,(dwT es σ).2)
  |none=>dwN es k (dwT es σ).2
noncomputable def zdK(es:List V)(a h:Int):CvR:=dwN es 4 (a,h)
theorem zz5{es:List V}{n:Int}(h1:1<=n):∀(k:Nat) {x:List Int×Int×Int},zR es x.2.1 x.2.2->zR es (dwL es n k x).2.1 (dwL es n k x).2.2/\(dwL es n k x).1.length=x.1.length
 |0,_,h=>⟨h,rfl⟩
 |k+1,x,h=>by
  have:=zz5 h1 k (x:=(x.1.set (ja es x.2 n).toNat (W (x.1.getD (ja es x.2 n).toNat 0+1)),yN es x.2 n)) (jS (σ:=x.2) h);simpa [dwL]using this
theorem zEe{es:List V}{P S:List Int}{σ:Int×Int}(h:zR es σ.1 σ.2)(hn:1<=P.length):zR es (dwU es P S σ).2.1 (dwU es P S σ).2.2:=by
 have h1:=jS (σ:=σ) (n:=4) h;have h2:=(zz5 (n:=P.length) (by omega) (1+ja es σ 4).toNat (x:=(List.replicate P.length 0,yN es σ 4)) h1).1;have h3:=jS (n:=5) h2;unfold dwU;simp only;split
 ·split<;>exact h3
 ·exact h2
theorem zFi{es:List V}{P S:List Int}{σ:Int×Int}{r:List V×List V}(h:(dwU es P S σ).1=some r):zvi r.1 r.2:=by
 unfold dwU at h;simp only at h;split at h
 ·split at h
  ·rename_i h2;simp only[za]at h;subst h;exact ztU h2.2
  ·cases h
 ·cases h
theorem zyi{es:List V}{σ:Int×Int}(h:zR es σ.1 σ.2):1<=uz es σ [3,5,8]/\uz es σ [3,5,8]<=24:=by
 have:=zdt (σ:=σ) (l:=[3,5,8]) h (by simp);simp at this;omega
theorem zEf{es:List V}{σ:Int×Int}(h:zR es σ.1 σ.2):zR es (dwT es σ).2.1 (dwT es σ).2.2:=by
 have h1:=zgt (zbu (σ:=σ) (l:=[3,5,8]) h) (zyi h).1 (zyi h).2;exact zEe h1.src h1.n1
theorem zt0(l:List Int):Br (dwB l):=by
 unfold dwB;split
 ·rename_i h;exact zaK h
 ·exact zaK (by decide+kernel)
theorem zFj{es:List V}{σ:Int×Int}(h:zR es σ.1 σ.2):zvi (dwE es σ).1 (dwE es σ).2.1/\zR es (dwE es σ).2.2.1 (dwE es σ).2.2.2:=by
 have h1:=(zlX (most:=8) (term:=40) ⟨h,by omega,by omega⟩).1;have h2:=jS (n:=2) h1;have h3:=jS (n:=3) h2;have hb:=(zt0 (smF es σ.1 σ.2 8 40).1).len;unfold dwE;simp only;split
 ·refine⟨⟨_,_,rfl,rfl,by simp,by simp,rfl,fun i hi=>?_,fun i hi=>?_⟩,h2⟩
  ·simp only[zj,zu]at hi;obtain rfl:i=0:=(by omega);show(dwB _).length<=3000;omega
  ·simp only[zj,zu]at hi;obtain rfl:i=0:=(by omega);rfl
 ·refine⟨⟨_,_,rfl,rfl,by simp,by simp,rfl,fun i hi=>?_,fun i hi=>?_⟩,h3⟩
  ·simp only[zj,zu]at hi;rcases (show i=0\/i=1 by omega)with rfl|rfl
   ·show(dwB _).length<=3000;omega
   ·show(dwB _).length<=3000;omega
  ·simp only[zj,zu]at hi;rcases (show i=0\/i=1 by omega)with rfl|rfl<;>rfl
theorem zz4{es:List V}:∀(k:Nat) {σ:Int×Int},zR es σ.1 σ.2->zvi (dwN es k σ).1 (dwN es k σ).2.1/\zR es (dwN es k σ).2.2.1 (dwN es k σ).2.2.2
 |0,σ,h=>zFj h
 |k+1,σ,h=>by
  have h1:=zEf h;rw[dwN];split
  ·rename_i r hr;exact⟨zFi hr,h1⟩
  ·exact zz4 k h1
theorem ztS{es:List V}{a h:Int}(hq:zR es a h):zvi (zdK es a h).1 (zdK es a h).2.1/\zR es (zdK es a h).2.2.1 (zdK es a h).2.2.2:=zz4 4 (σ:=(a,h)) hq
def ztx(f:List V->Int->Int->List V×List V×Int×Int)(q:List V->Int->Int->Prop):kj:=fun
 |[.box 91 (.agg [.slc false 5 (.int .u8 0) a0,.int .i64 a1,.int .u64 a2])]=>some ([q a0 a1 a2],.agg [.slc true 49 (.agg [.slc false 2 (.int .i64 0) []]) (f a0 a1 a2).1,.slc true 24 (.slc true 2 (.int .i64 0) []) (f a0 a1 a2).2.1],.box 91 (.agg [.slc false 5 (.int .u8 0) a0,.int .i64 (f a0 a1 a2).2.2.1,.int .u64 (f a0 a1 a2).2.2.2]))
 |_=>none
theorem zpC:zbX Tryz.prog 100 1000 (ztx zdK zR):=by
 intro args ps r y h hp;unfold ztx at h;split at h
 ·rename_i a0 a1 a2;cases h;have hq:zR a0 a1 a2:=(zp.1 hp).1;obtain⟨E,hE⟩:=qEx (zdK a0 a1 a2);have hE0:dwN a0 4 (a1,a2)=E:=hE.symm;generalize yx:qI=yY,yw:qT=yX,yv:qY=yW,qg:zcA=jE,qf:kN=jz,qk:uq=jM,qj:uo=jL,qP:zay=kx,Yl:zcr=KD,uO:zdr=Ym,zeG:ug=zju,zeC:zrS=zqG,zqB:Qk=zxJ,jX:Yn=uP,zjh:zls=zvd,zjb:znr=zu9,ji:kA=kw,yu:qU=yP,zqC:zmj=zEG,Jb:Qt=zd7,qO:same=jK;refine zD9 (T:=tab) (B:=[(30,zmo zju zqG),(7,zus zxJ uP),(73,YY kw yP),(119,zyU zEG zd7),(74,zdP jK yP)]) (Bi:=[(26,1000,false,Ki yY yX yW jE),(29,1000,false,zaF jz jM jL kx),(28,1000,false,zdC KD Ym),(118,1000,false,zrZ zvd zu9)]) 0 [1000011004,1000011005,1000022012,2000004820,2000022089,2000022090,2000022092,2000022094,2000022095,0,2,3,4,5,6,7,8,9,10,11,12,13] Tryz.func100 rfl rfl (by kernel_rfl) (Nat.le_of_ble_eq_true rfl) mixed Zy (by subst yx yw yv qg qf qk qj qP Yl uO zeG zeC zqB jX zjh zjb ji yu zqC Jb qO;exact(zm zaR (zm zb6 (zm zaQ (zm zoh (zm zfg zF)))))) (by subst yx yw yv qg qf qk qj qP Yl uO zeG zeC zqB jX zjh zjb ji yu zqC Jb qO;exact(yE jH (yE kz (yE KM (yE zhq zA))))) (by kernel_rfl) rfl rfl zah rfl ?_;intro L lp rr yy hL hr hy hf hlp;have Qn:∀a h n,zR a0 a h->jE a0 a h n:=fun a h n hs=>by rw[<-qg];exact hs
  conv=>cbv
  refine hlp (Int×Int×Int) _ _ _ [0,2,3] (fun x=>[(wJ5 0 a0 x.1 x.2.1),(2,none,.val (.box 31 (.agg [.slc true 49 (.agg [.slc true 2 (.int .i64 0) []]) [],.slc true 24 (.slc true 2 (.int .i64 0) []) []]))),(wJ0 3 x.2.2)])
   (fun x=>0<=x.2.2/\x.2.2<=4/\zR a0 x.1 x.2.1/\dwN a0 (4-x.2.2).toNat (x.1,x.2.1)=E) (fun x=>(4-x.2.2).toNat) ((a1,a2,0)) (by subst hL;rfl) ?_ ?_
  ·exact⟨by simp,by simp,hq,hE0⟩
  rintro⟨a,h,k⟩ ⟨k0,k1,hs,hN⟩ hfx ag hag;simp only at k0 k1 hs hN;obtain⟨m,hm⟩:=qEx (kN a0 a h (I [3,5,8]));obtain⟨A1,hA1⟩:=qEx (uq a0 a h (I [3,5,8]));obtain⟨H1,hH1⟩:=qEx (uo a0 a h (I [3,5,8]));have hm24:1<=m/\m<=24:=by rw[hm];exact zyi (σ:=(a,h)) hs
  have s1:zR a0 A1 H1:=by rw[hA1,hH1];exact js hs
  obtain⟨⟨P,S,A2,H2⟩,hpt⟩:∃z:PtS,z=JZ a0 (A1,H1) m:=⟨_,rfl⟩;have hok:=zgt (σ:=(A1,H1)) s1 hm24.1 hm24.2;rw[<-hpt]at hok;have n1:=hok.n1;have n24:=hok.n;have nsl:=hok.sl;have s2:zR a0 A2 H2:=hok.src;simp only at n1 n24 nsl
  have hT:dwT a0 (a,h)=dwU a0 P S (A2,H2):=by
   have:JZ a0 (QI a0 (a,h) [3,5,8]) (uz a0 (a,h) [3,5,8])=(P,S,A2,H2):=(by rw[hpt,hA1,hH1,hm]);rw[dwT,this]
  obtain⟨n,hn⟩:=qEI P.length;obtain⟨c,hc⟩:=qEx (1+qI a0 A2 H2 4);have c1:=ZJ (n:=4) s2 (by omega);obtain⟨A3,hA3⟩:=qEx (qT a0 A2 H2 4);obtain⟨H3,hH3⟩:=qEx (qY a0 A2 H2 4);have s3:zR a0 A3 H3:=by rw[hA3,hH3];exact js s2
  obtain⟨EL,hEL⟩:=qEx (dwL a0 n c.toNat (List.replicate P.length 0,A3,H3))
  have hU:dwU a0 P S (A2,H2)=if(ug (I P) (I S) (I (List.replicate P.length 0)) (I EL.1)).2.2.2=0 then
   (if 0<ja a0 EL.2 5/\(Qk (ug (I P) (I S) (I (List.replicate P.length 0)) (I EL.1)).1 (ug (I P) (I S) (I (List.replicate P.length 0)) (I EL.1)).2.1 (ug (I P) (I S) (I (List.replicate P.length 0)) (I EL.1)).2.2.1).2.2=0 then
    (some ((Qk (ug (I P) (I S) (I (List.replicate P.length 0)) (I EL.1)).1 (ug (I P) (I S) (I (List.replicate P.length 0)) (I EL.1)).2.1 (ug (I P) (I S) (I (List.replicate P.length 0)) (I EL.1)).2.2.1).1,(Qk (ug (I P) (I S) (I (List.replicate P.length 0)) (I EL.1)).1 (ug (I P) (I S) (I (List.replicate P.length 0)) (I EL.1)).2.1 (ug (I P) (I S) (I (List.replicate P.length 0)) (I EL.1)).2.2.1).2.1),yN a0 EL.2 5)else(none,yN a0 EL.2 5))else(none,EL.2):=by
   rw[hEL,hA3,hH3,hc,hn];rfl
  obtain⟨vp,hvp⟩:=qEx (I P);obtain⟨vs,hvs⟩:=qEx (I S);obtain⟨vw,hvw⟩:=qEx (I (List.replicate P.length 0));rw[<-hvp,<-hvs,<-hvw]at hU;have hvpl:vp.length=P.length:=by rw[hvp,zg]
  have fvp:V.frzs vp=vp:=by rw[hvp,zt]
  have fvs:V.frzs vs=vs:=by rw[hvs,zt]
  have fvw:V.frzs vw=vw:=by rw[hvw,zt]
  have g3:∀l,l=I [3,5,8]->jz a0 a h l=m/\jM a0 a h l=A1/\jL a0 a h l=H1/\kx a0 a h l:=by
   intro l hl;rw[hl,<-qf,<-qk,<-qj,<-qP,hm,hA1,hH1];exact⟨rfl,rfl,rfl,hs,⟨_,rfl⟩,by simp,by simp⟩
  obtain⟨g4,g5,g6,g7⟩:=g3 (V.frzs (V.frzs [V.int IntKind.i64 3,V.int IntKind.i64 5,V.int IntKind.i64 8])) rfl;have g8:KD a0 A1 H1 m=(vp,vs,vw,A2,H2):=by rw[<-Yl,zcr,<-hpt,hvp,hvs,hvw]
  have g9:Ym a0 A1 H1 m:=by rw[<-uO];exact⟨s1,hm24.1,hm24.2⟩
  have g10:yY a0 A2 H2 4=c-1:=by rw[<-yx];omega
  have g11:yX a0 A2 H2 4=A3:=by rw[<-yw,hA3]
  have g12:yW a0 A2 H2 4=H3:=by rw[<-yv,hH3]
  conv=>cbv
  simp only[zo hL,sQ,g4,g5,g6,g7,g8,g9,g10,g11,g12,hvpl,<-hn,show 1+(c-1)=c by omega,zn (n:=c)];refine⟨fun hk=>?_,fun hk=>?_⟩
  ·refine⟨by omega,qN _,by omega,Qn _ _ _ s2,?_⟩;obtain⟨vz,hvz⟩:=qEx (List.replicate n.toNat (V.int .i64 0));have hvz2:vz=I (List.replicate P.length 0):=(by rw[hvz,JT,hn,zL]);rw[<-hvz]
   refine hlp (List V×Int×Int×Int) _ _ _ [0,2,3,4,5,6] (fun x=>[(wJ5 0 a0 x.2.1 x.2.2.1),(2,none,.val (.box 31 (.agg [.slc true 49 (.agg [.slc true 2 (.int .i64 0) []]) [],.slc true 24 (.slc true 2 (.int .i64 0) []) []]))),(wJ0 3 k),(wJ6 4 vp vs vw),(wJ2 5 x.1),(wJ0 6 x.2.2.2)])
    (fun x=>0<=x.2.2.2/\x.2.2.2<=4/\∃l:List Int,x.1=I l/\l.length=P.length/\zR a0 x.2.1 x.2.2.1/\dwL a0 n x.2.2.2.toNat (l,x.2.1,x.2.2.1)=EL) (fun x=>x.2.2.2.toNat) ((vz,A3,H3,c)) (by subst hL;rfl) ?_ ?_
   ·exact⟨by simp only;omega,by simp only;omega,_,hvz2,zx,s3,hEL.symm⟩
   rintro⟨vl,b,g,i⟩ ⟨i0,i4,l,hl,hll,hsl,hdl⟩ hfx2 ag2 hag2;simp only at i0 i4 hl hll hsl hdl;have hvll:vl.length=P.length:=(by rw[hl,zg,hll]);have fvl:V.frzs vl=vl:=(by rw[hl,zt]);obtain⟨t,ht⟩:=qEx (qI a0 b g n);obtain⟨B1,hB1⟩:=qEx (qT a0 b g n);obtain⟨G1,hG1⟩:=qEx (qY a0 b g n);have t1:=ZJ (n:=n) hsl (by omega);have sB:zR a0 B1 G1:=(by rw[hB1,hG1];exact js hsl);have gl:∀j,vl.getD j (.int .i64 0)=.int .i64 (l.getD j 0):=fun j=>(by rw[hl,zG]);have gset:∀j x,vl.set j (.int .i64 x)=I (l.set j x):=fun j x=>(by rw[hl,ua]);have e0:yY a0 b g n=t:=(by rw[<-yx,ht]);have e1:yX a0 b g n=B1:=(by rw[<-yw,hB1]);have e2:yW a0 b g n=G1:=(by rw[<-yv,hG1]);obtain⟨⟨D1,D2,D3,code⟩,hD⟩:=qEx (ug vp vs vw vl);obtain⟨⟨cb,cm,bad⟩,hC⟩:=qEx (Qk D1 D2 D3);obtain⟨v,hv⟩:=qEx (qI a0 b g 5);obtain⟨B5,hB5⟩:=qEx (qT a0 b g 5);obtain⟨G5,hG5⟩:=qEx (qY a0 b g 5);have e3:zju vp vs vw vl=(D1,D2,D3,code):=(by rw[<-zeG,hD]);have e4:zxJ D1 D2 D3=(cb,cm,bad):=(by rw[<-zqB,hC]);have e5:yY a0 b g 5=v:=(by rw[<-yx,hv]);have e6:yX a0 b g 5=B5:=(by rw[<-yw,hB5]);have e7:yW a0 b g 5=G5:=(by rw[<-yv,hG5]);have hDK:=zqb (a:=vp) (b:=vs) (c:=vw) (d:=vl) ⟨⟨_,hvp⟩,⟨_,hvs⟩,⟨_,hvw⟩⟩;rw[<-hD]at hDK;simp only at hDK;obtain⟨x1,fD1⟩:∃x,D1=I x:=hDK.1;obtain⟨x2,fD2⟩:∃x,D2=I x:=hDK.2.1;obtain⟨x3,fD3⟩:∃x,D3=I x:=hDK.2.2;have fD1:V.frzs D1=D1:=(by rw[fD1,zt]);have fD2:V.frzs D2=D2:=(by rw[fD2,zt]);have fD3:V.frzs D3=D3:=(by rw[fD3,zt]);clear g3 g4 g5 g6 g7 g8 g9 g10 g11 g12 hm hA1 hH1 hA3 hH3 hpt
   conv=>cbv
   simp only[zo hL,sQ,e0,e1,e2,e3,e4,e5,e6,e7,hvll,hvpl,<-hn,gl,gset,fvp,fvs,fvw,fvl,fD1,fD2,fD3];have wk:IntKind.wrap .i64 (k+1)=k+1:=zn (by omega) (by omega);rw[zn (n:=i-1),wk];refine⟨fun h2=>?_,fun h2=>?_⟩
   ·refine⟨Qn _ _ _ hsl,by omega,by omega,by omega,by omega,by omega,by omega,?_⟩;refine hag2 (_,B1,G1,i-1) ⟨by simp only;omega,by simp only;omega,_,rfl,by rw[yj,hll],sB,?_⟩ (by simp only;omega);simp only;rw[show i.toNat=(i-1).toNat+1 by omega,dwL]at hdl;rw[ht,hB1,hG1];exact hdl
   have hEL2:EL=(l,b,g):=by rw[<-hdl,show i.toNat=0 by omega];rfl
   have hU2:dwU a0 P S (A2,H2)=if code=0 then(if 0<v/\bad=0 then(some (cb,cm),B5,G5)else(none,B5,G5))else(none,b,g):=by
    subst hG5 hB5 hv;rw[hU,hEL2];simp only[<-hl,<-hD,<-hC]
   have hN2:(match (dwT a0 (a,h)).1 with
    |some r=>(r.1,r.2,(dwT a0 (a,h)).2)
    |none=>dwN a0 (4-(k+1)).toNat (dwT a0 (a,h)).2)=E:=by
    rw[show(4-k).toNat=(4-(k+1)).toNat+1 by omega]at hN;exact hN
   rw[hT,hU2]at hN2;have s5:zR a0 B5 G5:=(by rw[hB5,hG5];exact js hsl);refine⟨by rw[<-zeC];exact⟨⟨⟨_,hvp⟩,⟨_,hvs⟩,⟨_,hvw⟩⟩,⟨_,hl⟩⟩,fun hc0=>⟨hc0,Qn _ _ _ hsl,fun h3=>⟨by rw[<-jX];exact hDK,fun hb0=>?_,fun hb0=>?_⟩,fun h3=>?_⟩,fun hc0=>⟨fun h3=>absurd h3.1 hc0,fun _=>?_⟩⟩
   ·rw[if_pos hc0,if_pos ⟨h3.2,hb0⟩]at hN2;obtain⟨bs',ms',q1,_⟩:=ztU (a:=D1) (b:=D2) (c:=D3) (by rw[<-hC];exact hb0);rw[<-hC]at q1;simp only at q1;rw[hr,hy,<-hE,<-hN2,show V.frzs cb=cb by rw[q1,ko]];exact⟨rfl,rfl⟩
   ·rw[if_pos hc0,if_neg (fun h4=>hb0 h4.2)]at hN2;exact hag (B5,G5,k+1) ⟨by simp only;omega,by simp only;omega,s5,hN2⟩ (by simp only;omega)
   ·rw[if_pos hc0,if_neg (fun h4=>by omega)]at hN2;exact hag (B5,G5,k+1) ⟨by simp only;omega,by simp only;omega,s5,hN2⟩ (by simp only;omega)
   ·rw[if_neg hc0]at hN2;exact hag (b,g,k+1) ⟨by simp only;omega,by simp only;omega,hsl,hN2⟩ (by simp only;omega)
  ·have hk4:(4-k).toNat=0:=(by omega);rw[hk4]at hN;obtain⟨⟨sl,A6,H6⟩,hsm⟩:=qEx (smF a0 a h 8 40);have hqs:znr a0 a h 8 40:=⟨hs,by omega,by omega⟩;have hs6:=zlX hqs;rw[<-hsm]at hs6;obtain⟨s6,l6,l7⟩:=hs6;simp only at s6 l6 l7;have Esm:zls a0 a h 8 40=(I sl,A6,H6):=(by rw[zls,<-hsm]);have Eb:kA (I sl)=uE sl:=(by rw[kA,zl]);have hN3:(dwE a0 (a,h))=E:=hN;rw[dwE]at hN3;simp only[<-hsm]at hN3;subst yx yw yv qg zjh zjb ji yu zqC Jb qO;have e23:V.frzs [V.int .i64 2,V.int .i64 3]=I [2,3]:=rfl;have Ec:∀l:List Int,zmj (I l)=((sq1 l).length:Int):=fun l=>by rw[zmj,zl]
   have fin:∀(b:List Int),dwB sl=b->(qI a0 A6 H6 2=0->(BB false [b],II true [[0]],yN a0 (A6,H6) 2)=E)/\
    (¬qI a0 A6 H6 2=0->(BB false [b,b],II true [[0,W ((sq1 b).length+ja a0 (yN a0 (A6,H6) 2) 3)],[W ((sq1 b).length+ja a0 (yN a0 (A6,H6) 2) 3),0]],yN a0 (yN a0 (A6,H6) 2) 3)=E):=by
    intro b hb;rw[hb]at hN3;exact⟨fun h=>by rw[<-hN3];exact(if_pos h).symm,fun h=>by rw[<-hN3];exact(if_neg h).symm⟩
   simp only[Esm,zt,Eb,e23,Ec,same];have isl:∀l:List Int,l.length<=4->qU (I l):=fun l h=>⟨⟨l,rfl⟩,by rw[zg];omega⟩;refine⟨hqs,isl sl l7,fun hb=>?_,fun hb=>?_⟩
   ·have hd:dwB sl=[2,3]:=(by rw[dwB,if_neg (by rw[hb];decide)]);obtain⟨f1,f2⟩:=fin _ hd;refine⟨s6,fun h5=>?_,fun h5=>⟨⟨_,rfl,by rw[<-hd];exact zt0 sl⟩,js s6,isl _ (by decide),?_⟩⟩
    ·rw[hr,hy,<-hE,<-f1 h5];exact⟨rfl,rfl⟩
    ·rw[hr,hy,<-hE,<-f2 h5];exact⟨rfl,rfl⟩
   ·have hd:dwB sl=sl:=(by rw[dwB,if_pos (by simpa using hb)]);obtain⟨f1,f2⟩:=fin _ hd;have eb1:V.frzs [V.agg [V.slc true 2 (V.int IntKind.i64 0) (I sl)]]=BB false [sl]:=ko true [sl]
    have eb2:V.frzs [V.agg [V.slc false 2 (V.int IntKind.i64 0) (I sl)],V.agg [V.slc true 2 (V.int IntKind.i64 0) (I sl)]]=BB false [sl,sl]:=by
     simp only[V.frzs,V.frz,zt];rfl
    refine⟨s6,fun h5=>?_,fun h5=>⟨⟨_,rfl,by rw[<-hd];exact zt0 sl⟩,js s6,isl _ l7,?_⟩⟩
    ·rw[hr,hy,<-hE,<-f1 h5,eb1];exact⟨rfl,rfl⟩
    ·rw[hr,hy,<-hE,<-f2 h5,eb2];exact⟨rfl,rfl⟩
 ·cases h
abbrev KdS:Type:=List Int×List Int×List Int×Int×Int
structure KdOk (es:List V) (x:KdS):Prop where
 n1:1<=x.1.length
 n24:x.1.length<=24
 sl:x.2.1.length=x.1.length
 wl:x.2.2.1.length=x.1.length
 src:zR es x.2.2.2.1 x.2.2.2.2
def wrN(es:List V):Nat->Nat->List Int×Int×Int->List Int×Int×Int
 |0,_,x=>x
 |k+1,i,x=>wrN es k (i+1) (x.1.set i (W (ja es x.2 8-1)),yN es x.2 8)
def evN(es:List V)(P S:List Int):Nat->Nat->List Int×Int×Int->List Int×Int×Int
 |0,_,x=>x
 |k+1,i,x=>evN es P S k (i+1) (zaa (uz es x.2 [0,0,1,1,2]) (zef P S i) P.length x.1,QI es x.2 [0,0,1,1,2])
theorem zy6{es:List V}:∀(k i:Nat) {x:List Int×Int×Int},zR es x.2.1 x.2.2->zR es (wrN es k i x).2.1 (wrN es k i x).2.2/\(wrN es k i x).1.length=x.1.length
 |0,_,_,h=>⟨h,rfl⟩
 |k+1,i,x,h=>by
  have:=zy6 k (i+1) (x:=(x.1.set i (W (ja es x.2 8-1)),yN es x.2 8)) (jS (σ:=x.2) h);simpa [wrN]using this
theorem zz3{es:List V}{P S:List Int}:∀(k i:Nat) {x:List Int×Int×Int},zR es x.2.1 x.2.2->zR es (evN es P S k i x).2.1 (evN es P S k i x).2.2/\(evN es P S k i x).1.length=x.1.length
 |0,_,_,h=>⟨h,rfl⟩
 |k+1,i,x,h=>by
  have:=zz3 (P:=P) (S:=S) k (i+1) (x:=(zaa (uz es x.2 [0,0,1,1,2]) (zef P S i) P.length x.1,QI es x.2 [0,0,1,1,2])) (zbu (σ:=x.2) h);rw[za5]at this;exact this
noncomputable def kdC(P S w:List Int)(σ:Int×Int):KdS:=if zgE P S w=true then(P,S,w,σ)else([-1,0,1],[-1,-1,0],[2,1,1],σ)
theorem zFc{es:List V}{P S w:List Int}{σ:Int×Int}(h1:1<=P.length)(h2:P.length<=24)(h3:S.length=P.length)(h4:w.length=P.length)(h5:zR es σ.1 σ.2):KdOk es (kdC P S w σ):=by
 unfold kdC;split
 ·exact⟨h1,h2,h3,h4,h5⟩
 ·exact⟨by simp,by simp,rfl,rfl,h5⟩
noncomputable def kdF(es:List V)(σ:Int×Int)(most:Int):KdS:=
 let p:=JZ es σ most
 let τ:=yN es p.2.2 2
 if ja es p.2.2 2=0 then(p.1,p.2.1,wrN es p.1.length 0 (List.replicate p.1.length 0,τ))
 else kdC p.1 p.2.1 (evN es p.1 p.2.1 p.1.length 0 (List.replicate p.1.length 0,τ)).1 (evN es p.1 p.2.1 p.1.length 0 (List.replicate p.1.length 0,τ)).2
theorem zFb{es:List V}{σ:Int×Int}{most:Int}(hq:zR es σ.1 σ.2)(h1:1<=most)(h2:most<=24):KdOk es (kdF es σ most):=by
 have h:=zgt (σ:=σ) hq h1 h2;have s1:=jS (n:=2) h.src;have a:=zy6 (JZ es σ most).1.length 0 (x:=(List.replicate (JZ es σ most).1.length 0,yN es (JZ es σ most).2.2 2)) s1;have b:=zz3 (P:=(JZ es σ most).1) (S:=(JZ es σ most).2.1) (JZ es σ most).1.length 0 (x:=(List.replicate (JZ es σ most).1.length 0,yN es (JZ es σ most).2.2 2)) s1;have n24:=h.n;rw[zx]at a b;unfold kdF;simp only;split
 ·exact⟨h.n1,by simp only;omega,h.sl,a.2,a.1⟩
 ·exact zFc h.n1 (by omega) h.sl b.2 b.1
def ksC(es:List V)(x:KdS):KdS:=
 let n:Int:=x.1.length
 let v:=ja es x.2.2.2 30
 let τ:=yN es x.2.2.2 30
 let i:=ja es τ n
 let ρ:=yN es τ n
 if v=0 then(x.1.set i.toNat (uz es ρ [-1,0,n]),x.2.1,x.2.2.1,QI es ρ [-1,0,n])
 else if v=1 then(x.1,x.2.1.set i.toNat (uz es ρ [-2,0,1,n]),x.2.2.1,QI es ρ [-2,0,1,n])
 else if v=2 then(x.1,x.2.1,x.2.2.1.set i.toNat (uz es ρ [100000,-100000,100001,-4611686018427387904]),QI es ρ [100000,-100000,100001,-4611686018427387904])
 else if v=3 then(x.1,x.2.1,x.2.2.1.drop 1,τ)
 else(x.1,x.2.1,x.2.2.1,τ)
noncomputable def ksF(es:List V)(σ:Int×Int):KdS:=ksC es (kdF es (QI es σ [4,8,12,24]) (uz es σ [4,8,12,24]))
structure KsOk (es:List V) (x:KdS):Prop where
 n1:1<=x.1.length
 n24:x.1.length<=24
 sl:x.2.1.length=x.1.length
 w1:x.2.2.1.length<=x.1.length
 w2:x.1.length<=x.2.2.1.length+1
 src:zR es x.2.2.2.1 x.2.2.2.2
theorem zE3{es:List V}{σ:Int×Int}(h:zR es σ.1 σ.2):1<=uz es σ [4,8,12,24]/\uz es σ [4,8,12,24]<=24:=by
 have:=zdt (σ:=σ) (l:=[4,8,12,24]) h (by simp);simp at this;omega
noncomputable def keF(es:List V)(σ:Int×Int)(most:Int):KdS:=
 let p:=JZ es σ most
 let w:=evN es p.1 p.2.1 p.1.length 0 (List.replicate p.1.length 0,p.2.2)
 if zgE p.1 p.2.1 w.1=true then
  if ja es w.2 16=0 then ksF es (yN es w.2 16)else(p.1,p.2.1,w.1,yN es w.2 16)
 else([-1,0,1],[-1,-1,0],[2,1,1],w.2)
noncomputable def kcF(es:List V):List V×List V×List V:=
 let σ:=(0,Za es)
 let τ:=yN es σ 4
 if ja es σ 4=0 then(I (keF es τ 6).1,I (keF es τ 6).2.1,I (keF es τ 6).2.2.1)
 else
  let p:=JZ es (QI es τ [3,5,8,12]) (uz es τ [3,5,8,12])
  let l:=dwL es p.1.length (ja es p.2.2 6).toNat (List.replicate p.1.length 0,yN es p.2.2 6)
  let d:=ug (I p.1) (I p.2.1) (I (List.replicate p.1.length 0)) (I l.1)
  if d.2.2.2=0 then(d.1,d.2.1,d.2.2.1)else(I p.1,I p.2.1,I (List.replicate p.1.length 0))
theorem zF5(es:List V):Yn (kcF es).1 (kcF es).2.1 (kcF es).2.2:=by
 unfold kcF;simp only;split
 ·exact⟨⟨_,rfl⟩,⟨_,rfl⟩,⟨_,rfl⟩⟩
 split
 ·exact zqb ⟨⟨_,rfl⟩,⟨_,rfl⟩,⟨_,rfl⟩⟩
 ·exact⟨⟨_,rfl⟩,⟨_,rfl⟩,⟨_,rfl⟩⟩
section
variable {P S Q:List Int}
def zaP(P S:List Int)(x:Int):List Int:=yQ (uT P S x.toNat) P.length
theorem zsn(P S:List Int)(x:Int):(zaP P S x).length=P.length:=yi _ _
theorem zgf{x:Int}{k:Nat}(hk:k<P.length):(zaP P S x).getD k 0=uT P S x.toNat k:=jp _ _ _ _ hk
theorem zC3{f:Nat->Int}:∀{n t:Nat},(∀t,t<n->0<=f t)->t<n->f t<=sg f n
 |0,_,_,h=>by omega
 |n+1,t,hn,h=>by
  have h0:=zrM (f:=f) (n:=n) fun t ht=>hn t (by omega);have h1:=hn n (by omega);rw[sg];by_cases e:t=n
  ·rw[e];omega
  ·have:=zC3 (f:=f) (n:=n) (t:=t) (fun t ht=>hn t (by omega)) (by omega);omega
theorem zsm(h:ClP P S Q)(hc:zaJ P S Q=true){x:Int}(hx:x∈jP (kC (jA P S Q) P.length)){k:Nat}(hk:k<P.length):0<=uT P S x.toNat k/\uT P S x.toNat k<=100000:=by
 obtain⟨ps,hps⟩:=qEx (jP (kC (jA P S Q) P.length));have hF:=zby (Kv h);have hw:=zy4 h hc k hk;rw[<-hps]at hF hx hw;obtain⟨t,ht,hxt⟩:=qS.1 hx;rw[Qz ht]at hxt;have nn:∀t,t<ps.length->0<=uT P S (ps.getD t 0).toNat k:=fun t ht=>(zmc h _ (by have:=hF _ (ky ht);omega) k).1;have h1:=zC3 (f:=fun t=>uT P S (ps.getD t 0).toNat k) nn ht;have h2:=h.q k hk;have h3:=nn t ht;rw[hxt]at h1 h3;rw[suF,sL]at hw;omega
theorem zER(h:ClP P S Q)(hc:zaJ P S Q=true){x:Int}(hx:x∈jP (kC (jA P S Q) P.length)):ClP P S (zaP P S x):=
 ⟨h.n1,h.n24,h.sl,zsn P S x,fun i hi=>by have:=zsm h hc hx hi;rw[zgf hi];omega,h.place,h.diff⟩
theorem zwE{X Y:List Int}:∀n:Nat,n<=24->(∀i,i<n->0<=X.getD i 0/\X.getD i 0<=100000/\0<=Y.getD i 0/\Y.getD i 0<=100000)->
 zgO X Y n=sg (fun q=>X.getD q 0*Y.getD q 0) n/\0<=sg (fun q=>X.getD q 0*Y.getD q 0) n/\sg (fun q=>X.getD q 0*Y.getD q 0) n<=10000000000*n
 |0,_,_=>⟨rfl,qN _,by simp[sg]⟩
 |n+1,hn,hb=>by
  obtain⟨h1,h2,h3⟩:=zwE n (by omega) fun i hi=>hb i (by omega);obtain⟨a1,a2,b1,b2⟩:=hb n (by omega);have p1:=Int.mul_nonneg a1 b1;have p2:=Int.mul_le_mul a2 b2 b1 (by omega:(0:Int)<=100000);rw[zgO,sg,h1];obtain⟨p,hp⟩:=qEx (X.getD n 0*Y.getD n 0);rw[<-hp]at p1 p2 ⊢;obtain⟨s,hs⟩:=qEx (sg (fun q=>X.getD q 0*Y.getD q 0) n);rw[<-hs]at h2 h3 ⊢;have w1:W p=p:=zn (by omega) (by omega);rw[w1];have w2:W (s+p)=s+p:=zn (by omega) (by omega);exact⟨w2,by omega,by omega⟩
theorem zBq(h:ClP P S Q)(hc:zaJ P S Q=true){ps:List Int}(hps:ps=jP (kC (jA P S Q) P.length))(hok:ps.all (Kb P S)=true){i k:Nat}(hi:i<ps.length)(hk:k<ps.length)(hne:i≠k):
 zgO (zaP P S (ps.getD i 0)) (zaP P S (ps.getD k 0)) P.length=zeM (ps.map (qZ P S)) (T2 ps.length (Jf P ps)) i k:=by
 have hF:=zby (Kv h);have mi:ps.getD i 0∈ps:=ky hi;have mk:ps.getD k 0∈ps:=ky hk;have oi:Kb P S (ps.getD i 0)=true:=by rw[yc]at hok;exact hok _ mi
 have ok:Kb P S (ps.getD k 0)=true:=by rw[yc]at hok;exact hok _ mk
 rw[<-hps]at hF;have fi:=hF _ mi;have fk:=hF _ mk;have li:∀q,q<P.length->0<=uT P S (ps.getD i 0).toNat q/\uT P S (ps.getD i 0).toNat q<=100000:=fun q hq=>zsm h hc (by rw[<-hps];exact mi) hq;have lk:∀q,q<P.length->0<=uT P S (ps.getD k 0).toNat q/\uT P S (ps.getD k 0).toNat q<=100000:=fun q hq=>zsm h hc (by rw[<-hps];exact mk) hq;rw[(zwE P.length h.n24 fun q hq=>by rw[zgf hq,zgf hq];have a:=li q hq;have b:=lk q hq;omega).1]
 have gb:∀i,i<ps.length->(ps.map (qZ P S)).getD i []=qZ P S (ps.getD i 0):=fun i hi=>by
  rw[zd,zK,ze hi];simp only[qy,qv];rw[Qz hi]
 have bi:=(zf4 (cs:=jc P S (ps.getD i 0)) (by have:=uD h (i:=ps.getD i 0) (by omega) fi.2;have:=h.n24;rw[jc,Yj];omega) oi).1;have bk:=(zf4 (cs:=jc P S (ps.getD k 0)) (by have:=uD h (i:=ps.getD k 0) (by omega) fk.2;have:=h.n24;rw[jc,Yj];omega) ok).1
 have hsh:(mm (T2 ps.length (Jf P ps)) i k).toNat=JY (zC P (ps.getD i 0)) (zC P (ps.getD k 0)):=by
  rw[mm,zpn _ hi hk,Jf,if_neg hne,zL]
 have hle:=zoc (zC P (ps.getD i 0)) (zC P (ps.getD k 0));have hlen:=uD h (i:=ps.getD i 0) (by omega) fi.2;have:=h.n24;rw[zeM,gb i hi,gb k hk,hsh,show qZ P S (ps.getD i 0)=YG (jc P S (ps.getD i 0))from rfl,show qZ P S (ps.getD k 0)=YG (jc P S (ps.getD k 0))from rfl,zDV bi bk (by omega)];rw[<-show qZ P S (ps.getD i 0)=YG (jc P S (ps.getD i 0))from rfl,<-show qZ P S (ps.getD k 0)=YG (jc P S (ps.getD k 0))from rfl,<-zDO h fi.1 fi.2 fk.1 fk.2];refine kV fun q hq=>?_;rw[zgf hq,zgf hq,ztr h (zfU h) fi.1 fi.2 oi q hq,ztr h (zfU h) fk.1 fk.2 ok q hq]
theorem ztK:∀(fs:List (List Int)),(∀r∈fs,0<=r.getD 1 0)->∀r∈fs,r.getD 1 0<=(jP fs).length
 |[],_,_,h=>by cases h
 |f::fs,hn,r,h=>by
  have e:jP (f::fs)=List.replicate (f.getD 1 0).toNat (f.getD 0 0)++jP fs:=by rw[jP,List.flatMap_cons];rfl
  rw[e,zr,zx];rcases List.mem_cons.1 h with rfl|h
  ·omega
  ·have:=ztK fs (fun r hr=>hn r (List.mem_cons_of_mem _ hr)) r h;omega
theorem zzm{bs ms:List (List Int)}{p:List Int}(hp:PmP p)(hl:p.length=bs.length){i k:Nat}(hi:i<p.length)(hk:k<p.length):
 (Yr bs (Zs p)).getD (p.getD i 0).toNat []=bs.getD i []/\mm (Kf ms (Zs p)) (p.getD i 0).toNat (p.getD k 0).toNat=mm ms i k:=by
 have a:=hp.inr i hi;have b:=hp.inr k hk;have hol:=JL p
 have gb:∀j,j<(Zs p).length->(Yr bs (Zs p)).getD j []=bs.getD ((Zs p).getD j 0).toNat []:=fun j hj=>by
  rw[Yr,zd,zK,ze hj];simp only[qy,qv];rw[Qz hj]
 have gm:∀j k,j<(Zs p).length->k<(Zs p).length->mm (Kf ms (Zs p)) j k=mm ms ((Zs p).getD j 0).toNat ((Zs p).getD k 0).toNat:=fun j k hj hk=>by
  rw[mm,Kf,zd (l:=List.map _ _),zK,ze hj];simp only[qy,qv];rw[zd,zK,ze hk];simp only[qy,qv];rw[Qz hj,Qz hk]
 rw[gb _ (by omega),gm _ _ (by omega) (by omega),zl7 hp hi,zl7 hp hk,zL,zL];exact⟨rfl,rfl⟩
end
def zqq(f:List V->List V->List V->List V×Int)(q:List V->List V->List V->Prop):zO:=fun
 |[.agg [.slc false 2 (.int .i64 0) a0,.slc false 2 (.int .i64 0) a1,.slc false 2 (.int .i64 0) a2]]=>some ([q a0 a1 a2],.tup [.slc true 24 (.slc true 2 (.int .i64 0) []) ((f a0 a1 a2).1),.int .i64 ((f a0 a1 a2).2)])
 |_=>none
noncomputable def zqd(a b c:List V):List V×Int:=bif yZ a b c then(bif uR a b c then(QP a b c,0)else([],5))else([],1)
theorem znp:yM Tryz.prog 9 (zqq zqd Yn):=by
 intro args ps r h hp;unfold zqq at h;split at h
 ·rename_i a0 a1 a2;cases h;have hq:Yn a0 a1 a2:=(zp.1 hp).1;have g0:=hq.1.frz;have g1:=hq.2.1.frz;have g2:=hq.2.2.frz;generalize qC:yZ=kW,jX:Yn=uP,JU:uR=zhg,uJ:Zd=Zm,zbo:QP=zcO;refine zH (B:=[(31,Yv kW uP),(32,Yv zhg Zm),(33,zdQ zcO Zm)]) (Bi:=[]) [0,1,2,3] Tryz.func9 rfl rfl (by subst qC jX JU uJ zbo;exact(zm KN (zm zfu (zm ziA zF)))) zA ?_;intro L lp rr hL hr hf hlp
  conv=>cbv
  simp only[zo hL,sQ,g0,g1,g2];subst qC jX JU uJ zbo;refine⟨hq,fun h=>?_,fun h=>⟨zfS hq h,fun h2=>?_,fun h2=>⟨zfS hq h,?_⟩⟩⟩
  ·rw[hr,zqd,h];rfl
  ·rw[hr,zqd,h,h2];rfl
  ·rw[hr,zqd,h,h2];rfl
 ·cases h
def zuo(f:List V->List V->List V->List V->List V×List V×List V)(q:List V->List V->List V->List V->Prop):zO:=fun
 |[.agg [.slc false 2 (.int .i64 0) a0,.slc false 2 (.int .i64 0) a1,.slc false 2 (.int .i64 0) a2],.slc false 2 (.int .i64 0) a3]=>some ([q a0 a1 a2 a3],.agg [.slc true 2 (.int .i64 0) ((f a0 a1 a2 a3).1),.slc true 2 (.int .i64 0) ((f a0 a1 a2 a3).2.1),.slc false 2 (.int .i64 0) ((f a0 a1 a2 a3).2.2)])
 |_=>none
def zCe(a b _ d:List V):List V×List V×List V:=(a,b,d)
theorem zkX:yM Tryz.prog 55 (zuo zCe zgr):=by
 intro args ps r h hp;unfold zuo at h;split at h
 ·rename_i a0 a1 a2 a3;cases h;obtain⟨h0,h1,h2,h3⟩:zgr a0 a1 a2 a3:=(zp.1 hp).1;have g0:V.frzs a0=a0:=by obtain⟨x,hx⟩:=h0.1;rw[hx,zt]
  have g1:V.frzs a1=a1:=by obtain⟨x,hx⟩:=h1.1;rw[hx,zt]
  have g2:V.frzs a2=a2:=by obtain⟨x,hx⟩:=h2;rw[hx,zt]
  have g3:V.frzs a3=a3:=by obtain⟨x,hx⟩:=h3;rw[hx,zt]
  generalize qO:same=jK,yu:qU=yP;refine zH (B:=[(85,kD jK yP)]) (Bi:=[]) [2000001007,2000001010,0,1,2,4] Tryz.func55 rfl rfl (by subst qO yu;exact(zm zlY zF)) zA ?_;intro L lp rr hL hr hf hlp
  conv=>cbv
  subst qO yu;simp only[zo hL,sQ,same,g0,g1,g2,g3];exact⟨h0,h1,hr.symm⟩
 ·cases h
def zbU(P S:List Int)(i t k:Nat):Int:=Jr i k+sg (fun s=>uT P S ((yR P S i).getD s 0).toNat k) t
def zie(P S:List Int)(i a b:Nat):Int:=if a<i then uT P S a b else 0
def QN(P S:List Int)(i t z a b:Nat):Int:=if a<i then uT P S a b else if a=i then(if b<z then zbU P S i (t+1) b else zbU P S i t b)else 0
section
variable {P S Q:List Int}
theorem zv0{f:Nat->Int}{t:Nat}:∀m,(∀s,s<t+m->0<=f s)->sg f t<=sg f (t+m)
 |0,_=>qN _
 |m+1,h=>by
  rw[<-Nat.add_assoc,sg];have h1:=zv0 (f:=f) (t:=t) m fun s hs=>h s (by omega);have h2:=h (t+m) (by omega);omega
theorem zts(h:ClP P S Q){i:Nat}(hi:i<P.length)(k:Nat):zbU P S i (yR P S i).length k=uT P S i k:=by
 rw[(zfU h).step i hi k];rfl
theorem zD5(h:ClP P S Q){i t:Nat}(hi:i<P.length)(ht:t<=(yR P S i).length)(k:Nat):0<=zbU P S i t k/\zbU P S i t k<=8388608:=by
 have hx:=fun s (hs:s<(yR P S i).length)=>QH h hi (ky hs);have nn:=fun s (hs:s<(yR P S i).length)=>(zmc h ((yR P S i).getD s 0).toNat (by have:=hx s hs;omega) k).1;have h1:=zrM (f:=fun s=>uT P S ((yR P S i).getD s 0).toNat k) (n:=t) fun s hs=>nn s (by omega);have h2:=zv0 (f:=fun s=>uT P S ((yR P S i).getD s 0).toNat k) (t:=t) ((yR P S i).length-t) fun s hs=>nn s (by omega);rw[show t+((yR P S i).length-t)=(yR P S i).length by omega]at h2;have h3:=zts h hi k;have h4:=(zmc h i hi k).2.1
 have h5:((2^i:Nat):Int)<=8388608:=by
  have:=Nat.pow_le_pow_right (n:=2) (by omega) (show i<=23 by have:=h.n24;omega);have e:(2:Nat)^23=8388608:=by decide
  omega
 have h6:0<=Jr i k:=by unfold Jr;split<;>omega
 rw[zbU]at h3 ⊢;omega
theorem zzP(h:ClP P S Q){i t:Nat}(hi:i<P.length)(ht:t<(yR P S i).length):T2 P.length (QN P S i t i)=T2 P.length (QN P S i (t+1) 0):=by
 refine zcK fun a b ha hb=>?_;rw[QN,QN];by_cases h1:a<i
 ·rw[if_pos h1,if_pos h1]
 ·rw[if_neg h1,if_neg h1];by_cases h2:a=i
  ·rw[if_pos h2,if_pos h2,if_neg (show ¬b<0 by omega)];by_cases h3:b<i
   ·rw[if_pos h3]
   ·rw[if_neg h3,zbU,zbU,sg];have hx:=QH h hi (ky ht);rw[(zmc h ((yR P S i).getD t 0).toNat (by omega) b).2.2 (by omega)];omega
  ·rw[if_neg h2,if_neg h2]
theorem zzQ(h:ClP P S Q){i:Nat}(hi:i<P.length):T2 P.length (QN P S i (yR P S i).length 0)=T2 P.length (zie P S (i+1)):=by
 refine zcK fun a b ha hb=>?_;rw[QN,zie];by_cases h1:a<i
 ·rw[if_pos h1,if_pos (by omega)]
 ·rw[if_neg h1];by_cases h2:a=i
  ·subst h2;rw[if_pos rfl,if_neg (by omega),if_pos (by omega),zts h hi]
  ·rw[if_neg h2,if_neg (by omega)]
end
def zut(f:List V->List V->List V->List V)(q:List V->List V->List V->Prop):zO:=fun
 |[.agg [.slc false 2 (.int .i64 0) a0,.slc false 2 (.int .i64 0) a1,.slc false 2 (.int .i64 0) a2]]=>some ([q a0 a1 a2],.slc false 24 (.slc false 2 (.int .i64 0) []) (f a0 a1 a2))
 |_=>none
def zmh(a b _:List V):List V:=II false (T2 a.length (uT (yD a) (yD b)))
theorem zhi:yM Tryz.prog 56 (zut zmh Zd):=by
 intro args ps r h hp;unfold zut at h;split at h
 ·rename_i a0 a1 a2;cases h;have hqv:Zd a0 a1 a2:=(zp.1 hp).1;obtain⟨⟨⟨P,hP⟩,⟨S,hS⟩,⟨Q,hQ⟩⟩,hcl⟩:=id hqv;rw[hP,hS,hQ,zl,zl,zl]at hcl;have g0:V.frzs a0=a0:=by rw[hP,zt]
  have g1:V.frzs a1=a1:=by rw[hS,zt]
  have g2:V.frzs a2=a2:=by rw[hQ,zt]
  have hpl:a0.length=P.length:=by rw[hP,zg]
  have hsl:a1.length=P.length:=by rw[hS,zg,hcl.sl]
  have hql:a2.length=P.length:=by rw[hQ,zg,hcl.ql]
  have gp:∀k,a0.getD k (.int .i64 0)=.int .i64 (P.getD k 0):=fun k=>by rw[hP,zG]
  have gs:∀k,a1.getD k (.int .i64 0)=.int .i64 (S.getD k 0):=fun k=>by rw[hS,zG]
  have gq:∀k,a2.getD k (.int .i64 0)=.int .i64 (Q.getD k 0):=fun k=>by rw[hQ,zG]
  obtain⟨n,hn⟩:=qEI P.length;have n1:=hcl.n1;have n24:=hcl.n24;have low:=fun t ht=>hcl.low (i:=t) ht;have hf0:zmh a0 a1 a2=II false (T2 P.length (uT P S)):=by rw[zmh,hpl,hP,hS,zl,zl]
  obtain⟨vp,hvp⟩:=qEx (II true (QB P S P.length P.length));have hvpl:vp.length=P.length:=by rw[hvp,ye,QB,yi]
  have gvp:∀j,vp.getD j (.slc true 2 (.int .i64 0) [])=.slc true 2 (.int .i64 0) (I ((QB P S P.length P.length).getD j [])):=fun j=>by rw[hvp,qu]
  generalize Zl:Jz=ZE,zd6:q_n=zhY,zjl:zkg=zjt,uJ:Zd=Zm;refine QA (B:=[(38,zi1 ZE zhY),(98,zdQ zjt Zm)]) (Bi:=[]) [0,1,2,3,4,5,7,8,14,15,16,27,28,29,33,34] Tryz.func56 rfl rfl (by subst Zl zd6 zjl uJ;exact(zm zcn (zm zaS zF))) zA ?_;intro L lp rr hL hr hf hlp;have Ep:zjt a0 a1 a2=vp:=by rw[<-zjl,zkg,hpl,hP,hS,zl,zl,hvp]
  have hsq:ZE n=II true (T2 P.length (zie P S 0)):=by
   rw[<-Zl,Jz,hn,zL,zwR];congr 1
  obtain⟨s0,hs0⟩:=qEx (II true (T2 P.length (zie P S 0)))
  conv=>cbv
  simp only[zo hL,sQ,g0,g1,g2,hpl,<-hn,hsq,Ep,hvpl];rw[<-hs0];refine⟨by rw[<-zd6];exact⟨by omega,by omega⟩,by rw[<-uJ];exact hqv,?_⟩
  refine hlp (List V×Int) _ _ _ [3,14,15,16] (fun x=>[(3,none,.val (.slc true 24 (.slc true 2 (.int .i64 0) []) x.1)),(14,none,.val (.slc true 24 (.slc true 2 (.int .i64 0) []) vp)),(wJ0 15 n),(wJ0 16 x.2)])
   (fun x=>0<=x.2/\x.2<=n/\x.1=II true (T2 P.length (zie P S x.2.toNat))) (fun x=>(n-x.2).toNat) ((s0,0)) (by subst hL;rw[hn,<-hvpl];rfl) ?_ ?_
  ·exact⟨by simp,by simp only;omega,hs0⟩
  rintro⟨ls,i⟩ ⟨i0,i1,hI⟩ hfx ag hag;simp only at i0 i1 hI;have hll:ls.length=P.length:=by rw[hI,ye,zgY]
  have gls:∀j,ls.getD j (.slc true 2 (.int .i64 0) [])=.slc true 2 (.int .i64 0) (I ((T2 P.length (zie P S i.toNat)).getD j [])):=fun j=>by rw[hI,qu]
  conv=>cbv
  simp only[zo hL,sQ,hll,gls,hvpl,gvp];refine⟨fun h2=>?_,fun h2=>?_⟩
  ·obtain⟨k,hk⟩:=qEx i.toNat;have hkn:k<P.length:=(by omega);have hki:(k:Int)=i:=(by omega);have hip:i<(P.length:Int):=(by omega);rw[<-hk]at hI;have hrl:((T2 P.length (zie P S k)).getD k []).length=P.length:=(by rw[ze5 _ hkn,yi]);obtain⟨px,hpx⟩:=qEx (yR P S k);have hcp:(QB P S P.length P.length).getD k []=px:=(by rw[QB,jp _ _ _ _ hkn,if_pos hkn,hpx]);have hpl2:px.length<=2:=(by rw[hpx];exact zk7 _ _ _);obtain⟨m,hm⟩:=qEI px.length;simp only[<-hk,hrl,hcp,<-hm];refine⟨i0,hip,hkn,i0,hip,hkn,hkn,i0,hip,hkn,hkn,hkn,?_⟩;obtain⟨s1,hs1⟩:=qEx (ls.set k (.slc true 2 (.int .i64 0) ((I ((T2 P.length (zie P S k)).getD k [])).set k (.int .i64 1))))
   have hs11:s1=II true (T2 P.length (QN P S k 0 0)):=by
    rw[hs1,hI,ua,zd5];congr 1;refine zuI hkn hkn ?_ (fun a b ha hb hab=>?_)
    ·rw[QN,if_neg (by omega),if_pos rfl,if_neg (by omega),zbU,sg,Jr,if_pos rfl];rfl
    ·rw[QN,zie];by_cases h1:a<k
     ·rw[if_pos h1,if_pos h1]
     ·rw[if_neg h1,if_neg h1];by_cases h3:a=k
      ·rw[if_pos h3,if_neg (by omega),zbU,sg,Jr,if_neg (by omega)];rfl
      ·rw[if_neg h3]
   rw[<-hs1]
   refine hlp (List V×Int) _ _ _ [3,4,14,15,16,27,28,29] (fun x=>[(3,none,.val (.slc true 24 (.slc true 2 (.int .i64 0) []) x.1)),(wJ0 4 i),(14,none,.val (.slc true 24 (.slc true 2 (.int .i64 0) []) vp)),(wJ0 15 n),(wJ0 16 i),(27,none,.rf 14 0 [k]),(wJ0 28 m),(wJ0 29 x.2)])
    (fun x=>0<=x.2/\x.2<=m/\x.1=II true (T2 P.length (QN P S k x.2.toNat 0))) (fun x=>(m-x.2).toNat) ((s1,0)) (by subst hL;rfl) ?_ ?_
   ·exact⟨by simp,by simp only;omega,hs11⟩
   rintro⟨rs,y⟩ ⟨y0,y1,hY⟩ hfx2 ag2 hag2;simp only at y0 y1 hY;have hrsl:rs.length=P.length:=by rw[hY,ye,zgY]
   conv=>cbv
   simp only[zo hL,sQ,hrsl,hvpl,gvp,hcp,<-hk];refine⟨fun h3=>?_,fun h3=>?_⟩
   ·have hyl:y.toNat<px.length:=(by omega);have hin:=QH hcl hkn (x:=px.getD y.toNat 0) (by rw[<-hpx,zd,ze hyl];exact yq _);obtain⟨tt,htt⟩:=qEx (px.getD y.toNat 0);rw[<-htt]at hin;simp only[<-htt]
    (repeat' first|(exact yL _)|(exact jY rfl)|(exact qG _)|(apply And.intro)|(intro _))<;>(try first|exact True.intro|omega|rfl|(simp only[zj,zu,zg];omega))
    rename_i h5
    refine hlp (List V×Int) _ _ _ [3,4,7,14,15,16,27,28,29,33,34] (fun x=>[(3,none,.val (.slc true 24 (.slc true 2 (.int .i64 0) []) x.1)),(wJ0 4 i),(wJ0 7 tt),(14,none,.val (.slc true 24 (.slc true 2 (.int .i64 0) []) vp)),(wJ0 15 n),(wJ0 16 i),(27,none,.rf 14 0 [k]),(wJ0 28 m),(wJ0 29 y),(wJ0 33 i),(wJ0 34 x.2)])
     (fun x=>0<=x.2/\x.2<=i/\x.1=II true (T2 P.length (QN P S k y.toNat x.2.toNat))) (fun x=>(i-x.2).toNat) ((rs,0)) (by subst hL;rfl) ?_ ?_
    ·exact⟨by simp,by simp only;omega,hY⟩
    rintro⟨zs,z⟩ ⟨z0,z1,hZ⟩ hfx3 ag3 hag3;simp only at z0 z1 hZ;have hzl:zs.length=P.length:=(by rw[hZ,ye,zgY]);have gzs:∀j,zs.getD j (.slc true 2 (.int .i64 0) [])=.slc true 2 (.int .i64 0) (I ((T2 P.length (QN P S k y.toNat z.toNat)).getD j [])):=fun j=>by rw[hZ,qu]
    conv=>cbv
    have hrk:((T2 P.length (QN P S k y.toNat z.toNat)).getD k []).length=P.length:=(by rw[ze5 _ hkn,yi]);have hrt:((T2 P.length (QN P S k y.toNat z.toNat)).getD tt.toNat []).length=P.length:=(by rw[ze5 _ (by omega),yi]);simp only[zo hL,sQ,hzl,gzs,hvpl,gvp,hcp,<-hk,hrk,hrt];refine⟨fun h6=>?_,fun h6=>?_⟩
    ·refine⟨i0,hip,hkn,hkn,z0,by omega,hkn,by omega,hin.1,by omega,by omega,by omega,z0,by omega,by omega,by omega,hkn,z0,by omega,hkn,by omega,?_⟩;have hzk:z.toNat<P.length:=(by omega);rw[zpn (QN P S k y.toNat z.toNat) hkn hzk,zpn (QN P S k y.toNat z.toNat) (show tt.toNat<P.length by omega) hzk];have e1:QN P S k y.toNat z.toNat k z.toNat=zbU P S k y.toNat z.toNat:=(by rw[QN,if_neg (by omega),if_pos rfl,if_neg (by omega)]);have e2:QN P S k y.toNat z.toNat tt.toNat z.toNat=uT P S tt.toNat z.toNat:=by rw[QN,if_pos (by omega)]
     have hb:=zD5 hcl hkn (t:=y.toNat+1) (by rw[<-hpx];omega) z.toNat
     have e3:zbU P S k (y.toNat+1) z.toNat=zbU P S k y.toNat z.toNat+uT P S tt.toNat z.toNat:=(by rw[zbU,zbU,sg,<-hpx,<-htt];omega);rw[e1,e2,<-e3,zn (n:=zbU P S k (y.toNat+1) z.toNat),zn (n:=z+1)];refine hag3 (_,z+1) ⟨by simp only;omega,by simp only;omega,?_⟩ (by simp only;omega);simp only[ya z0];rw[hZ,ua,zd5];congr 1;refine zuI hkn hzk ?_ (fun a b ha hb hab=>?_)
     ·rw[QN,if_neg (by omega),if_pos rfl,if_pos (by omega)]
     ·rw[QN,QN];by_cases h1:a<k
      ·rw[if_pos h1,if_pos h1]
      ·rw[if_neg h1,if_neg h1];by_cases h4:a=k
       ·rw[if_pos h4,if_pos h4]
        by_cases h5:b<z.toNat
        ·rw[if_pos h5,if_pos (by omega)]
        ·rw[if_neg h5,if_neg (by omega)]
       ·rw[if_neg h4,if_neg h4]
    ·rw[zn (n:=y+1)];refine hag2 (zs,y+1) ⟨by simp only;omega,by simp only;omega,?_⟩ (by simp only;omega);simp only[ya y0];rw[hZ,show z.toNat=k by omega,zzP hcl hkn (by rw[<-hpx];exact hyl)]
   ·rw[zn (n:=i+1)];refine hag (rs,i+1) ⟨by simp only;omega,by simp only;omega,?_⟩ (by simp only;omega);simp only[ya i0];rw[hY,show y.toNat=(yR P S k).length by rw[<-hpx];omega,zzQ hcl hkn,<-hk]
  ·rw[hr,hf0,hI,jy,show i.toNat=P.length by omega];congr 2;exact zcK fun a b ha hb=>by rw[zie,if_pos ha]
 ·cases h
def zqn(f:List V->List V->List V->Int->List V×List V×List V×Int)(q:List V->List V->List V->Int->Prop):zO:=fun
 |[.agg [.slc false 2 (.int .i64 0) a0,.slc false 2 (.int .i64 0) a1,.slc false 2 (.int .i64 0) a2],.int .i64 a3]=>some ([q a0 a1 a2 a3],.tup [.agg [.slc false 2 (.int .i64 0) ((f a0 a1 a2 a3).1),.slc false 2 (.int .i64 0) ((f a0 a1 a2 a3).2.1),.slc false 2 (.int .i64 0) ((f a0 a1 a2 a3).2.2.1)],.int .i64 ((f a0 a1 a2 a3).2.2.2)])
 |_=>none
noncomputable def zp7(a b c:List V)(i:Int):List V×List V×List V×Int:=bif yZ a b c then(bif ziT a b c i then(a,b,I (zaP (yD a) (yD b) i),0)else([],[],[],2))else([],[],[],1)
theorem zjH:yM Tryz.prog 12 (zqn zp7 ziF):=by
 intro args ps r h hp;unfold zqn at h;split at h
 ·rename_i a0 a1 a2 a3;cases h;have hqp:ziF a0 a1 a2 a3:=(zp.1 hp).1;have hq:=hqp.1;have g0:=hq.1.frz;have g1:=hq.2.1.frz;have g2:=hq.2.2.frz;have hiv:zmh a0 a1 a2=II false (T2 a0.length (uT (yD a0) (yD a1))):=rfl;obtain⟨vi,hvi⟩:=qEx (zmh a0 a1 a2);have hvil:vi.length=a0.length:=by rw[hvi,hiv,ye,zgY]
  have gvi:∀j,vi.getD j (.slc false 2 (.int .i64 0) [])=.slc false 2 (.int .i64 0) (I ((T2 a0.length (uT (yD a0) (yD a1))).getD j [])):=fun j=>by rw[hvi,hiv,qu]
  generalize qC:yZ=kW,jX:Yn=uP,zu1:ziT=zCU,zg7:ziF=zkt,zxd:zmh=zxC,uJ:Zd=Zm,zAH:zCe=zFI,zad:zgr=zcL;refine QA (B:=[(31,Yv kW uP),(54,zqm zCU zkt),(56,zut zxC Zm),(55,zuo zFI zcL)]) (Bi:=[]) [0,1,2,4,5] Tryz.func12 rfl rfl (by subst qC jX zu1 zg7 zxd uJ zAH zad;exact(zm KN (zm zpM (zm zhi (zm zkX zF))))) zA ?_;intro L lp rr hL hr hf hlp;have Ei:zxC a0 a1 a2=vi:=by rw[<-zxd,hvi]
  conv=>cbv
  simp only[zo hL,sQ,g0,g1,g2,Ei,hvil,gvi];subst qC jX zu1 zg7 uJ zAH zad;refine⟨hq,fun h=>?_,fun h=>⟨hqp,fun h2=>?_,fun h2=>?_⟩⟩
  ·rw[hr,zp7,h];rfl
  ·rw[hr,zp7,h,h2];rfl
  ·have h3:=h2;rw[ziT,Bool.and_eq_true,decide_eq_true_eq,decide_eq_true_eq]at h3;have hv:=zfS hq h;have hal:a0.length=(yD a0).length:=(by rw[yD,zS]);have hbl:a1.length=(yD a1).length:=(by rw[yD,zS]);have hsl:=hv.2.sl;have h24:=hv.2.n24;have e:(T2 a0.length (uT (yD a0) (yD a1))).getD a3.toNat []=zaP (yD a0) (yD a1) a3:=(by rw[ze5 _ (by omega),zaP,hal]);rw[e];refine⟨hv,h3.1,by omega,⟨⟨hq.1,by omega⟩,⟨hq.2.1,by omega⟩,hq.2.2,⟨_,rfl⟩⟩,?_⟩;rw[hr,zp7,h,h2];simp only[zCe,zt,g0,g1];rfl
 ·cases h
def zqr(f:List V->List V->List V->List V->List V->List V->Bool)(q:List V->List V->List V->List V->List V->List V->Prop):zO:=fun
 |[.agg [.slc false 2 (.int .i64 0) a0,.slc false 2 (.int .i64 0) a1,.slc false 2 (.int .i64 0) a2],.agg [.slc false 2 (.int .i64 0) a3,.slc false 2 (.int .i64 0) a4,.slc false 2 (.int .i64 0) a5]]=>some ([q a0 a1 a2 a3 a4 a5],.bool (f a0 a1 a2 a3 a4 a5))
 |_=>none
def znR(f:List V->List V->List V->List V->List V->List V->Int×Int)(q:List V->List V->List V->List V->List V->List V->Prop):zO:=fun
 |[.agg [.slc false 2 (.int .i64 0) a0,.slc false 2 (.int .i64 0) a1,.slc false 2 (.int .i64 0) a2],.agg [.slc false 2 (.int .i64 0) a3,.slc false 2 (.int .i64 0) a4,.slc false 2 (.int .i64 0) a5]]=>some ([q a0 a1 a2 a3 a4 a5],.tup [.int .i64 ((f a0 a1 a2 a3 a4 a5).1),.int .i64 ((f a0 a1 a2 a3 a4 a5).2)])
 |_=>none
def zkh(a b _ d e _:List V):Bool:=Zh a d&&Zh b e
def zl4(a b c d e f:List V):Prop:=Yn a b c/\Yn d e f
theorem zsw:yM Tryz.prog 57 (zqr zkh zl4):=by
 intro args ps r h hp;unfold zqr at h;split at h
 ·rename_i a0 a1 a2 a3 a4 a5;cases h;obtain⟨hq,hq2⟩:zl4 a0 a1 a2 a3 a4 a5:=(zp.1 hp).1;have g0:=hq.1.frz;have g1:=hq.2.1.frz;have g3:=hq2.1.frz;have g4:=hq2.2.1.frz;generalize ZP:Zh=JW,JE:zjM=zck;refine zH (B:=[(97,YH JW zck)]) (Bi:=[]) [0,1,2,3,4] Tryz.func57 rfl rfl (by subst ZP JE;exact(zm zfj zF)) zA ?_;intro L lp rr hL hr hf hlp
  conv=>cbv
  simp only[zo hL,sQ,g0,g1,g3,g4];subst ZP JE;exact⟨⟨hq.1,hq2.1⟩,fun _=>⟨hq.2.1,hq2.2.1⟩,by rw[hr,zkh]⟩
 ·cases h
noncomputable def zqc(a b c d e f:List V):Int×Int:=bif yZ a b c&&yZ d e f then(bif zkh a b c d e f then(zfN c f,0)else(0,2))else(0,1)
theorem zhk:yM Tryz.prog 13 (znR zqc zl4):=by
 intro args ps r h hp;unfold znR at h;split at h
 ·rename_i a0 a1 a2 a3 a4 a5;cases h;have hqq:zl4 a0 a1 a2 a3 a4 a5:=(zp.1 hp).1;obtain⟨hq,hq2⟩:=id hqq;have g0:=hq.1.frz;have g1:=hq.2.1.frz;have g2:=hq.2.2.frz;have g3:=hq2.1.frz;have g4:=hq2.2.1.frz;have g5:=hq2.2.2.frz;generalize qC:yZ=kW,jX:Yn=uP,zxo:zkh=zEH,zje:zl4=zmu,zji:zfN=zqI,zjc:zot=zqF;refine zH (B:=[(31,Yv kW uP),(57,zqr zEH zmu),(58,zkl zqI zqF)]) (Bi:=[]) [0,1,2,3,4,5] Tryz.func13 rfl rfl (by subst qC jX zxo zje zji zjc;exact(zm KN (zm zsw (zm zkC zF)))) zA ?_;intro L lp rr hL hr hf hlp
  conv=>cbv
  simp only[zo hL,sQ,g0,g1,g2,g3,g4,g5];subst qC jX zxo zje zji zjc;refine⟨hq,fun _=>hq2,fun h=>?_,fun h=>⟨hqq,fun h2=>?_,fun h2=>⟨?_,?_⟩⟩⟩
  ·rw[hr,zqc];rcases h with h|h
   ·rw[h];rfl
   ·rw[h,Bool.and_false];rfl
  ·rw[hr,zqc,h.1,h.2,h2];rfl
  ·refine⟨hq.2.2,hq2.2.2,?_⟩;have c1:=QJ.1 h.1;have c2:=QJ.1 h.2;rw[zkh,Bool.and_eq_true]at h2;have h3:=h2.1;simp only[Zh,decide_eq_true_eq]at h3;have l1:a2.length=(yD a2).length:=(by rw[yD,zS]);have l2:a5.length=(yD a5).length:=(by rw[yD,zS]);have:=c1.ql;have:=c2.ql;rw[l1,l2,c1.ql,c2.ql,h3];exact Nat.le_refl _
  ·rw[hr,zqc,h.1,h.2,h2];rfl
 ·cases h
theorem zyz{P:List Int}{x:Int}{i:Nat}:(P++[x]).getD i 0=if i<P.length then P.getD i 0 else if i=P.length then x else 0:=by
 simp only[zd];by_cases h:i<P.length
 ·rw[if_pos h,List.getElem?_append_left h]
 ·rw[if_neg h,List.getElem?_append_right (by omega)];by_cases h2:i=P.length
  ·rw[if_pos h2,h2];simp
  ·rw[if_neg h2,List.getElem?_eq_none (by simp;omega)];rfl
theorem zzv{P S:List Int}{par s:Int}:∀j,ptC P S par s j=s\/ptC P S par s j= -1
 |0=>.inl rfl
 |j+1=>by
  rw[ptC];split
  ·exact .inr rfl
  ·exact zzv j
theorem zsL{P S:List Int}{par s:Int}:∀j t,1<=t->t<=j->0<=ptC P S par s j->¬(P.getD t 0=par/\S.getD t 0=ptC P S par s j)
 |0,t,h1,h2,_=>by omega
 |j+1,t,h1,h2,h3=>by
  rw[ptC]at h3 ⊢;by_cases hc:0<=ptC P S par s j/\P.getD (j+1) 0=par/\S.getD (j+1) 0=ptC P S par s j
  ·rw[if_pos hc]at h3;omega
  ·rw[if_neg hc]at h3 ⊢;by_cases e:t=j+1
   ·subst e;exact fun h=>hc ⟨h3,h.1,h.2⟩
   ·exact zsL j t h1 (by omega) h3
structure PlOk (P S:List Int):Prop where
 n1:1<=P.length
 sl:S.length=P.length
 place:∀i,i<P.length->ZZ P S i=true
 diff:∀i j,i<P.length->j<i->Jc P S i j=true
theorem PlOk.step{P S:List Int}{par sec:Int}(h:PlOk P S)(h0:0<=par)(h1:par<P.length)(h2:sec= -1\/sec=P.getD par.toNat 0\/sec=S.getD par.toNat 0):
 PlOk (P++[par]) (S++[ptC P S par sec (P.length-1)]):=by
 obtain⟨n1,sl,hpl,hdf⟩:=h;obtain⟨c,hc⟩:=qEx (ptC P S par sec (P.length-1));have hor:=zzv (P:=P) (S:=S) (par:=par) (s:=sec) (P.length-1);have hfr:=zsL (P:=P) (S:=S) (par:=par) (s:=sec) (P.length-1);rw[<-hc]at hor hfr ⊢;have gP:∀i,i<P.length->(P++[par]).getD i 0=P.getD i 0:=fun i hi=>by rw[zyz,if_pos hi]
 have gS:∀i,i<P.length->(S++[c]).getD i 0=S.getD i 0:=fun i hi=>by rw[zyz,if_pos (by omega)]
 have eP:(P++[par]).getD P.length 0=par:=by rw[zyz,if_neg (by omega),if_pos rfl]
 have eS:(S++[c]).getD P.length 0=c:=by rw[zyz,if_neg (by omega),if_pos sl.symm]
 have low:=zk9 (i:=P.length-1) (fun t ht=>hpl t (by omega));have z:=zcC.1 (hpl 0 (by omega));refine⟨by simp,by simp[sl],fun i hi=>?_,fun i j hi hj=>?_⟩
 ·rw[zr,zW]at hi;by_cases e:i=P.length
  ·subst e;rw[zaT (by omega),eP,eS,gP par.toNat (by omega),gS par.toNat (by omega)];refine⟨⟨h0,h1⟩,?_⟩;have hl:=low par.toNat (by omega);rcases hor with hor|hor
   ·rw[hor];rcases h2 with h2|h2|h2
    ·exact .inl h2
    ·by_cases h3:sec= -1
     ·exact .inl h3
     ·exact .inr ⟨by omega,.inl h2⟩
    ·by_cases h3:sec= -1
     ·exact .inl h3
     ·exact .inr ⟨by omega,.inr h2⟩
   ·exact .inl hor
  ·have hp:=hpl i (by omega);by_cases e0:i=0
   ·subst e0;rw[zcC,gP 0 (by omega),gS 0 (by omega)];exact z
   ·rw[zaT e0]at hp ⊢;rw[gP i (by omega),gS i (by omega),gP (P.getD i 0).toNat (by omega),gS (P.getD i 0).toNat (by omega)];exact hp
 ·rw[zr,zW]at hi;by_cases e:i=P.length
  ·subst e;simp only[Jc,eP,eS,gP j hj,gS j hj,Bool.not_eq_true',Bool.and_eq_false_iff,decide_eq_false_iff_not];by_cases e0:j=0
   ·subst e0;by_cases c0:0<=c
    ·exact .inl (.inr (by rw[z.2];omega))
    ·exact .inl (.inl c0)
   ·by_cases c0:0<=c
    ·have:=hfr j (by omega) (by omega) c0;by_cases c1:c=S.getD j 0
     ·exact .inr (fun h=>this ⟨h.symm,c1.symm⟩)
     ·exact .inl (.inr c1)
    ·exact .inl (.inl c0)
  ·have:=hdf i j (by omega) hj;rw[Jc]at this ⊢;rw[gP i (by omega),gS i (by omega),gP j (by omega),gS j (by omega)];exact this
theorem zDL{es:List V}{P S:List Int}{σ:Int×Int}:(ptD es P S σ).2.1= -1\/(ptD es P S σ).2.1=P.getD (ptD es P S σ).1.toNat 0\/(ptD es P S σ).2.1=S.getD (ptD es P S σ).1.toNat 0:=by
 unfold ptD;simp only;split
 ·split
  ·simp only;split
   ·exact .inr (.inr rfl)
   ·exact .inr (.inl rfl)
  ·exact .inr (.inl rfl)
 ·exact .inl rfl
theorem zzs{es:List V}:∀{k:Nat} {x:PtS},PtOk es x k->PlOk x.1 x.2.1->PlOk (ptN es k x).1 (ptN es k x).2.1
 |0,_,_,h=>h
 |k+1,x,hk,h=>by
  have h1:=zzu (S:=x.2.1) (σ:=x.2.2) hk.src hk.n1;exact zzs (k:=k) hk.round (h.step h1.1 h1.2.1 zDL)
theorem zE2{es:List V}{σ:Int×Int}{most:Int}(hq:zR es σ.1 σ.2)(h1:1<=most)(h2:most<=24):PlOk (JZ es σ most).1 (JZ es σ most).2.1:=by
 have h3:=zdu (σ:=σ) hq h1;refine zzs (k:=(ja es σ most).toNat) (x:=([-1],[-1],yN es σ most)) ⟨by simp,by simp;omega,rfl,jS (σ:=σ) hq⟩ ⟨by simp,rfl,fun i hi=>?_,fun i j hi hj=>?_⟩
 ·simp only[zj,zu]at hi;obtain rfl:i=0:=by omega
  rfl
 ·simp only[zj,zu]at hi;omega
theorem PlOk.cl{P S:List Int}(h:PlOk P S)(h24:P.length<=24):ClP P S (List.replicate P.length 0):=by
 refine⟨h.n1,h24,h.sl,zx,fun i hi=>?_,h.place,h.diff⟩;rw[zd,List.getElem?_replicate,if_pos hi];simp
theorem zzt{es:List V}{σ:Int×Int}{most:Int}(hq:zR es σ.1 σ.2)(h1:1<=most)(h2:most<=24):ClP (JZ es σ most).1 (JZ es σ most).2.1 (List.replicate (JZ es σ most).1.length 0):=by
 have:=(zgt (σ:=σ) hq h1 h2).n;exact(zE2 hq h1 h2).cl (by omega)
theorem zAo(k:Nat):zlC (k+1)=zlC k++[(k:Int)-1]:=QF _ _
theorem zAn(xs:List Int)(k:Nat):zlB xs (k+1)=zlB xs k++[zeh (mul xs) k]:=QF _ _
end Go.Ax
