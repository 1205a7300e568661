import Derived.Test.YtiepfglppnhpgaaGreatB02p3
import Derived.Test.YtiepfglppnhpgaaGreatB04p3
import Derived.Test.YtiepfglppnhpgaaGreatB08p3
import Derived.Test.YtiepfglppnhpgaaGreatB09p3
import Derived.Test.YtiepfglppnhpgaaGreatB07p3
import Derived.Test.YtiepfglppnhpgaaGreatB01p3
import Derived.Test.YtiepfglppnhpgaaGreatB03p3
import Derived.Test.YtiepfglppnhpgaaGreatAxP4p3
set_option linter.all false
set_option maxRecDepth 100000
set_option maxHeartbeats 8000000
open Bool renaming false_eq_true->yJ,true_eq_false->zbt
open Int renaming le_refl->qN
open List renaming append_assoc->zU,getD_eq_getElem?_getD->zd,getElem?_eq_getElem->ze,getElem_mem->yq,length_append->zr,length_map->zS,length_replicate->zx,length_singleton->zW,mem_map->jC,mem_singleton->yd,replicate_succ'->qm,take_of_length_le->zB,take_succ_eq_append_getElem->zQ
open Option.some renaming injEq->za
open Prod.mk renaming injEq->zb
/-
 Tests of laws with draws:lists of branches,curves. No conditions but those of the contracts.
-/
namespace Go.Ax
open Go.Proofs
def zun(f:List V->List V->Bool)(q:List V->List V->Prop):zO:=fun
 |[.slc false 49 (.agg [.slc false 2 (.int .i64 0) []]) a0,.slc false 49 (.agg [.slc false 2 (.int .i64 0) []]) a1]=>some ([q a0 a1],.bool (f a0 a1))
 |_=>none
def zfZ(a b:List V):Bool:=decide (zga a=zga b)
def zl1(a b:List V):Prop:=(∃l,a=BB false l/\l.length<=2147483647/\∀r∈l,r.length<=2147483647)/\∃l,b=BB false l
theorem zjF:yM Tryz.prog 46 (zun zfZ zl1):=by
 intro args ps r h hp;unfold zun at h;split at h
 ·rename_i a0 a1;cases h;obtain⟨⟨xs,hxs,hl,hrl⟩,⟨ys,hys⟩⟩:zl1 a0 a1:=(zp.1 hp).1;obtain⟨n,hn⟩:=qEI a0.length;obtain⟨m,hm⟩:=qEI a1.length;have hxl:a0.length=xs.length:=by rw[hxs,qw]
  have hyl:a1.length=ys.length:=by rw[hys,qw]
  have gx:∀k,a0.getD k (.agg [.slc false 2 (.int .i64 0) []])=.agg [.slc false 2 (.int .i64 0) (I (xs.getD k []))]:=fun k=>by rw[hxs,YT]
  have gy:∀k,a1.getD k (.agg [.slc false 2 (.int .i64 0) []])=.agg [.slc false 2 (.int .i64 0) (I (ys.getD k []))]:=fun k=>by rw[hys,YT]
  have hf0:zfZ a0 a1=decide (xs=ys):=by rw[zfZ,hxs,hys,jG,jG]
  generalize zbn:zdG=zbr,zbj:zk4=zbp;refine zH (B:=[(18,YH zbr zbp)]) (Bi:=[]) [0,1,4,5] Tryz.func46 rfl rfl (by subst zbn zbj;exact(zm zdm zF)) zA ?_;intro L lp rr hL hr hf hlp
  conv=>cbv
  simp only[zo hL,sQ,<-hn,<-hm];refine⟨fun h=>?_,fun h=>?_⟩
  ·rw[hr,hf0,decide_eq_false (fun e=>h (by rw[hn,hm,hxl,hyl,e]))]
  have hlen:xs.length=ys.length:=by omega
  refine hlp (Int) _ _ _ [0,1,5] (fun x=>[(wJ10 0 a0),(wJ10 1 a1),(wJ0 5 x)])
   (fun x=>0<=x/\x<=n/\xs.take x.toNat=ys.take x.toNat) (fun x=>(n-x).toNat) (0) (by subst hL;rfl) ?_ ?_
  ·exact⟨by simp,by omega,rfl⟩
  rintro i ⟨i0,i1,hI⟩ hfx ag hag;have Ef:∀u v:List Int,zbr (I u) (I v)=decide (u=v):=fun u v=>by rw[<-zbn,zdG,zl,zl]
  conv=>cbv
  simp only[zo hL,sQ,<-hn,<-hm,gx,gy,Yh,KK,KY,Ef];refine⟨fun h2=>?_,fun h2=>?_⟩
  ·have h4:i.toNat<xs.length:=(by omega);have h5:i.toNat<ys.length:=by omega
   have Ql:zbp (I (xs.getD i.toNat [])) (I (ys.getD i.toNat [])):=by
    rw[<-zbj];refine⟨⟨_,rfl⟩,⟨_,rfl⟩,?_⟩;rw[zg,zd,ze h4];exact hrl _ (yq h4)
   refine⟨i0,h2,i0,by omega,Ql,fun h3=>?_,fun h3=>?_⟩
   ·rw[hr,hf0,decide_eq_false (fun e=>h3 (by rw[e]))]
   ·rw[zn (n:=i+1)];refine hag (i+1) ⟨by omega,by omega,?_⟩ (by omega);rw[zd,ze h4,zd,ze h5]at h3;rw[show(i+1).toNat=i.toNat+1 by omega,zQ h4,zQ h5,hI];exact congrArg (fun z=>List.take i.toNat ys++[z]) h3
  ·have h4:xs=ys:=(by rwa [zB (by omega),zB (by omega)]at hI);rw[hr,hf0,decide_eq_true h4]
 ·cases h
def zlD(f:List V->List V->List V->List V->Bool)(q:List V->List V->List V->List V->Prop):zO:=fun
 |[.agg [.slc false 49 (.agg [.slc false 2 (.int .i64 0) []]) a0,.slc false 24 (.slc false 2 (.int .i64 0) []) a1],.agg [.slc false 49 (.agg [.slc false 2 (.int .i64 0) []]) a2,.slc false 24 (.slc false 2 (.int .i64 0) []) a3]]=>some ([q a0 a1 a2 a3],.bool (f a0 a1 a2 a3))
 |_=>none
def ziS(a b c d:List V):Bool:=zfZ a c&&Kw b d
def zl0(a b c d:List V):Prop:=zl1 a c/\zei b d
theorem zmz:yM Tryz.prog 8 (zlD ziS zl0):=by
 intro args ps r h hp;unfold zlD at h;split at h
 ·rename_i a0 a1 a2 a3;cases h;obtain⟨hq1,hq2⟩:zl0 a0 a1 a2 a3:=(zp.1 hp).1;have g0:V.frzs a0=a0:=by obtain⟨l,h,_⟩:=hq1.1;rw[h,ko]
  have g1:V.frzs a1=a1:=by obtain⟨l,h,_⟩:=hq2.1;rw[h,jy]
  have g2:V.frzs a2=a2:=by obtain⟨l,h⟩:=hq1.2;rw[h,ko]
  have g3:V.frzs a3=a3:=by obtain⟨l,h⟩:=hq2.2;rw[h,jy]
  generalize zrA:zfZ=zA4,zrw:zl1=zAZ,zfb:Kw=zh0,ze9:zei=zlS;refine zH (B:=[(46,zun zA4 zAZ),(47,zc2 zh0 zlS)]) (Bi:=[]) [0,1,2,3,4] Tryz.func8 rfl rfl (by subst zrA zrw zfb ze9;exact(zm zjF (zm znn zF))) zA ?_;intro L lp rr hL hr hf hlp
  conv=>cbv
  subst zrA zrw zfb ze9;simp only[zo hL,sQ,g0,g1,g2,g3];refine⟨hq1,fun _=>hq2,?_⟩;rw[hr,ziS]
 ·cases h
structure SmC (bs ms:List (List Int)):Prop where
 b7:bs.length<=7
 m7:ms.length<=7
 br:∀x∈bs,x.length<=3000
 mr:∀x∈ms,x.length<=7
theorem SmC.q{bs ms:List (List Int)}(h:SmC bs ms):q_C (BB false bs) (II false ms):=
 ⟨⟨bs,rfl,by have:=h.b7;omega,fun x hx=>by have:=h.br x hx;omega⟩,⟨ms,rfl,by have:=h.m7;omega,fun x hx=>by have:=h.mr x hx;omega⟩⟩
theorem SmC.ql{bs ms:List (List Int)}(h:SmC bs ms):zl0 (BB false bs) (II false ms) (BB false bs) (II false ms):=
 ⟨⟨⟨bs,rfl,by have:=h.b7;omega,fun x hx=>by have:=h.br x hx;omega⟩,⟨bs,rfl⟩⟩,⟨⟨ms,rfl,by have:=h.m7;omega,fun x hx=>by have:=h.mr x hx;omega⟩,⟨ms,rfl⟩⟩⟩
theorem zyp(a b:List V):ziS a b a b=true:=by simp[ziS,zfZ,Kw]
theorem SmC.nil:SmC [] []:=⟨by simp,by simp,fun _ h=>(List.not_mem_nil h).elim,fun _ h=>(List.not_mem_nil h).elim⟩
theorem zym{α:Type}{f:α->List Int}{l:List α}{n:Nat}(h:∀x∈l,(f x).length<=n):∀y∈l.map f,y.length<=n:=by
 intro y hy;obtain⟨x,hx,rfl⟩:=jC.1 hy;exact h x hx
theorem zEs{n:Nat}{f:Nat->Nat->Int}{r:List Int}(h:r∈T2 n f):r.length=n:=by
 obtain⟨i,_,rfl⟩:=jC.1 h;exact yi _ _
theorem zAl(P S Q:List Int):∃(bs ms:List (List Int)) (w:Int),uN (I P) (I S) (I Q)=(BB true bs,II true ms,w)/\SmC bs ms/\
 (w=0->ClP P S Q/\zaJ P S Q=true/\∃ps,ps=jP (kC (jA P S Q) P.length)/\ps.all (Kb P S)=true/\1<=ps.length/\ps.length<=6/\bs=ps.map (qZ P S)/\ms=T2 ps.length (Jf P ps)/\CvP bs ms):=by
 rw[uN,yZ,uR,zl,zl,zl,zg]
 cases hcl:zgE P S Q with
 |false=>exact⟨[],[],1,rfl,.nil,fun h=>by omega⟩
 |true=>
  have h:=QJ.1 hcl
  cases hc:zaJ P S Q with
  |false=>exact⟨[],[],5,rfl,.nil,fun h=>by omega⟩
  |true=>
   obtain⟨ps,hps⟩:=qEx (jP (kC (jA P S Q) P.length));simp only[cond_true,<-hps,zfo];by_cases hn:ps.length=0\/6<ps.length
   ·rw[if_pos hn];exact⟨[],[],3,rfl,.nil,fun h=>by omega⟩
   ·rw[if_neg hn]
    cases hok:ps.all (Kb P S)with
    |false=>exact⟨[],[],5,rfl,.nil,fun h=>by omega⟩
    |true=>
     have hF:=zby (Kv h);rw[<-hps]at hF;have hok2:=hok;rw[List.all_eq_true]at hok2;refine⟨ps.map (qZ P S),T2 ps.length (Jf P ps),0,rfl,⟨by rw[zS];omega,by rw[zgY];omega,zym fun x hx=>znP h (hF x hx).1 (hF x hx).2 (hok2 x hx),fun x hx=>by rw[zEs hx];omega⟩,fun _=>⟨h,trivial,ps,rfl,hok,by omega,by omega,rfl,rfl,?_⟩⟩;exact zFn h (by omega) (by omega) hF hok
theorem zv9{bs ms:List (List Int)}(h:SmC bs ms){l:List Int}(hl:l.length<=7):SmC (Yr bs l) (Kf ms l):=by
 refine⟨by rw[zhz];exact hl,by rw[Kf,zS];exact hl,fun x hx=>?_,fun x hx=>by rw[zoz hx];exact hl⟩;obtain⟨j,_,rfl⟩:=jC.1 hx;rw[zd];by_cases hj:j.toNat<bs.length
 ·rw[ze hj];exact h.br _ (yq hj)
 ·rw[List.getElem?_eq_none (by omega)];simp
theorem zBy{bs ms:List (List Int)}(h:SmC bs ms){p:List Int}(hp:p.length<=7):∃(bs2 ms2:List (List Int)) (w:Int),zdF (BB false bs) (II false ms) (I p)=(BB true bs2,II true ms2,w)/\SmC bs2 ms2/\
 (w=0->PmP p/\p.length=bs.length/\CvP bs ms/\bs2=Yr bs (Zs p)/\ms2=Kf ms (Zs p)):=by
 rw[zdF,jZ,jG,qB,zl,qw]
 cases hcv:zto bs ms with
 |false=>exact⟨[],[],1,rfl,.nil,fun h=>by omega⟩
 |true=>
  cases hpm:zaZ bs.length p with
  |false=>exact⟨[],[],2,rfl,.nil,fun h=>by omega⟩
  |true=>
   obtain⟨e1,e2⟩:=zaY.1 hpm;refine⟨Yr bs (Zs p),Kf ms (Zs p),0,?_,zv9 h (by rw[JL];exact hp),fun _=>⟨e2,by omega,za0.1 hcv,rfl,rfl⟩⟩;rw[zhL,uF,jG,qB,zl,zl];rfl
theorem zBQ{bs ms:List (List Int)}(h:SmC bs ms){p:List Int}(hp:p.length<=7):∃(bs2 ms2:List (List Int)) (w:Int),zgK (BB false bs) (II false ms) (I p)=(BB true bs2,II true ms2,w)/\SmC bs2 ms2:=by
 rw[zgK,jZ,jG,qB,zl,qw]
 cases hcv:zto bs ms with
 |false=>exact⟨[],[],1,rfl,.nil⟩
 |true=>
  cases hpm:okp bs.length p with
  |false=>exact⟨[],[],2,rfl,.nil⟩
  |true=>
   refine⟨Yr bs p,Kf ms p,0,?_,zv9 h hp⟩;rw[uF,jG,qB,zl];rfl
theorem zAm{xs:List Int}(h:xs.length<=5):∃(bs ms:List (List Int)) (w:Int),zdN (I xs)=BB true bs/\zdM (I xs)=II true ms/\zdL (I xs)=w/\SmC bs ms:=by
 rw[zdN,zdM,zdL,zl]
 cases uE xs with
 |false=>exact⟨[],[],1,rfl,rfl,rfl,.nil⟩
 |true=>
  refine⟨[xs],[[0]],0,rfl,rfl,rfl,⟨by simp,by simp,fun x hx=>?_,fun x hx=>?_⟩⟩
  ·rw[yd.1 hx];omega
  ·rw[yd.1 hx];simp
theorem zFk{es:List V}(hq:IsU es):SmC (dsp es).1 (dsp es).2.1:=by
 have h:=zgM hq;exact⟨by have:=h.n6;omega,by have:=h.m6;omega,h.row,fun x hx=>by have:=h.mrow x hx;omega⟩
theorem zBG{fs:List (List Int)}{i:Nat}(h:i<fs.length):jP (fs.take (i+1))=jP (fs.take i)++List.replicate ((fs.getD i []).getD 1 0).toNat ((fs.getD i []).getD 0 0):=by
 have e:fs.getD i []=fs[i]:=by rw[zd,ze h];rfl
 rw[zQ h,zhx,e]
theorem zEQ{P S Q:List Int}(h:ClP P S Q){i:Nat}(hi:i<(kC (jA P S Q) P.length).length)(h6:(jP (kC (jA P S Q) P.length)).length<=6):
 ((kC (jA P S Q) P.length).getD i []).length=2/\1<=((kC (jA P S Q) P.length).getD i []).getD 1 0/\((kC (jA P S Q) P.length).getD i []).getD 1 0<=6:=by
 have hF:=Kv h
 have hm:(kC (jA P S Q) P.length).getD i []∈kC (jA P S Q) P.length:=by
  rw[zd,ze hi];exact yq hi
 have h1:=hF.row _ hm;have h2:=ztK (kC (jA P S Q) P.length) (fun r hr=>by have:=hF.row r hr;omega) _ hm;exact⟨h1.1,by omega,by omega⟩
def zuv(f:List V->List V->List V->List V×List V×Int)(q:List V->List V->List V->Prop):zO:=fun
 |[.agg [.slc false 2 (.int .i64 0) a0,.slc false 2 (.int .i64 0) a1,.slc false 2 (.int .i64 0) a2]]=>some ([q a0 a1 a2],.tup [.agg [.slc true 49 (.agg [.slc true 2 (.int .i64 0) []]) ((f a0 a1 a2).1),.slc true 24 (.slc true 2 (.int .i64 0) []) ((f a0 a1 a2).2.1)],.int .i64 ((f a0 a1 a2).2.2)])
 |_=>none
theorem ziD:yM Tryz.prog 6 (zuv uN Yn):=by
 intro args ps r h hp;unfold zuv at h;split at h
 ·rename_i a0 a1 a2;cases h;have hq:Yn a0 a1 a2:=(zp.1 hp).1;obtain⟨⟨P,hP⟩,⟨S,hS⟩,⟨Q,hQ⟩⟩:=id hq;have g0:V.frzs a0=a0:=by rw[hP,zt]
  have g1:V.frzs a1=a1:=by rw[hS,zt]
  have g2:V.frzs a2=a2:=by rw[hQ,zt]
  have hpl:a0.length=P.length:=by rw[hP,zg]
  have hf1:yZ a0 a1 a2=false->uN a0 a1 a2=([],[],1):=fun h=>by rw[uN,h];rfl
  have hf2:yZ a0 a1 a2=true->uR a0 a1 a2=false->uN a0 a1 a2=([],[],5):=fun h h2=>by rw[uN,h,h2];rfl
  obtain⟨fs,hfs⟩:=qEx (kC (jA P S Q) P.length);have hf3:yZ a0 a1 a2=true->uR a0 a1 a2=true->uN a0 a1 a2=zfo P S (jP fs):=fun h h2=>by rw[uN,h,h2,hpl,hP,hS,hQ,zl,zl,zl,hfs];rfl
  have hff:QP a0 a1 a2=II true fs:=by rw[QP,hpl,hP,hS,hQ,zl,zl,zl,hfs]
  obtain⟨vf,hvf⟩:=qEx (II true fs);rw[<-hvf]at hff;have hvl:vf.length=fs.length:=by rw[hvf,ye]
  have gvf:∀k,vf.getD k (.slc true 2 (.int .i64 0) [])=.slc true 2 (.int .i64 0) (I (fs.getD k [])):=fun k=>by rw[hvf,qu]
  obtain⟨n,hn⟩:=qEI fs.length;generalize qC:yZ=kW,jX:Yn=uP,JU:uR=zhg,uJ:Zd=Zm,zbo:QP=zcO,yG:yn=qd,zjn:zeR=zjv,zbk:zcB=KC,qO:same=jK,yu:qU=yP,Ja:Qg=JV,Zl:Jz=ZE,zd6:q_n=zhY,zAI:ztO=zA1,zAA:zBA=zAX;refine zH (B:=[(31,Yv kW uP),(32,Yv zhg Zm),(33,zdQ zcO Zm),(34,qM qd),(35,zqo zjv KC),(2000000035,zew),(36,zdP jK yP),(37,zc3 JV KC),(38,zi1 ZE zhY),(39,zqj zA1 zAX)]) (Bi:=[]) [2000017811,2000017858,2000017998,2000022071,2000023080,0,1,2,3,4,6,7,8,10,11,12,13,14,15,16,26,27,28,45,46,47,65,66,89,90,91,96,97,98] Tryz.func6 rfl rfl (by subst qC jX JU uJ zbo yG zjn zbk qO yu Ja Zl zd6 zAI zAA;exact(zm KN (zm zfu (zm ziA (zm Ye (zm zoo (zm ziE (zm Ke (zm zkD (zm zcn (zm zrE zF))))))))))) zA ?_;intro L lp rr hL hr hf hlp;have Ef:zcO a0 a1 a2=vf:=by rw[<-zbo];exact hff
  have Er:∀x y z,qd x y z=yn x y z:=fun x y z=>by rw[<-yG]
  conv=>cbv
  simp only[zo hL,sQ,g0,g1,g2,Ef,hvl,<-hn];refine⟨by rw[<-jX];exact hq,fun h=>?_,fun hcl0=>?_⟩
  ·rw[hr,hf1 (by rw[<-h,<-qC])]
  have hcl1:yZ a0 a1 a2=true:=by rw[<-hcl0,<-qC]
  have hqv:Zd a0 a1 a2:=zfS hq hcl1;have hcl:ClP P S Q:=by have:=hqv.2;rwa [hP,hS,hQ,zl,zl,zl]at this
  have Qv:Zm a0 a1 a2:=by rw[<-uJ];exact hqv
  have hfo:FacOk P.length fs:=by rw[hfs];exact Kv hcl
  have hl24:=hfo.len;refine⟨Qv,fun h=>?_,fun hco0=>?_⟩
  ·rw[hr,hf2 hcl1 (by rw[<-h,<-JU])]
  have hco1:uR a0 a1 a2=true:=by rw[<-hco0,<-JU]
  have hf0:=hf3 hcl1 hco1;refine⟨Qv,?_⟩
  refine hlp (Int×Int) _ _ _ [1,2,4,26,27,28] (fun x=>[(wJ1 1 a0 a1 a2),(2,none,.val (.box 31 (.agg [.slc true 49 (.agg [.slc true 2 (.int .i64 0) []]) [],.slc true 24 (.slc true 2 (.int .i64 0) []) []]))),(wJ0 4 x.1),(26,none,.val (.slc true 24 (.slc true 2 (.int .i64 0) []) vf)),(wJ0 27 n),(wJ0 28 x.2)])
   (fun x=>0<=x.2/\x.2<=n/\x.1=zee (fs.take x.2.toNat)) (fun x=>(n-x.2).toNat) ((0,0)) (by subst hL;rw[hn,<-hvl];rfl) ?_ ?_
  ·exact⟨by simp,by simp only;omega,rfl⟩
  rintro⟨s,i⟩ ⟨i0,i1,hI⟩ hfx ag hag;simp only at i0 i1 hI
  conv=>cbv
  simp only[zo hL,sQ,g0,g1,g2,Ef,Er,hvl,gvf,<-hn,zG,zg];refine⟨fun h2=>?_,fun h2=>?_⟩
  ·obtain⟨r1,r2,r3,r4,r5⟩:=hfo.get (i:=i.toNat) (by omega);have hss:=znd (fs:=fs.take i.toNat) (hfo.take i.toNat).row
   have hsl:zee (fs.take i.toNat)<=2500000*24:=by
    have:((fs.take i.toNat).length:Int)<=24:=(by have:=(hfo.take i.toNat).len;omega);omega
   rw[zn (n:=i+1),zn (n:=s+(fs.getD i.toNat []).getD 1 0)];refine⟨i0,h2,by omega,by omega,by omega,by omega,by omega,by omega,?_⟩;refine hag (_,i+1) ⟨by simp only;omega,by simp only;omega,?_⟩ (by simp only;omega);simp only[ya i0];rw[zkQ (by omega),zqR,hI]
  have htk:fs.take i.toNat=fs:=zB (by omega);rw[htk]at hI;have hss:=(znd hfo.row).1;obtain⟨ps,hps⟩:=qEx (jP fs);rw[<-hps]at hss hf0;refine⟨fun h3=>?_,fun h3=>⟨Qv,?_⟩⟩
  ·have h4:ps.length=0\/6<ps.length:=by
    rw[yn,Bool.and_eq_false_iff,decide_eq_false_iff_not,decide_eq_false_iff_not]at h3;omega
   rw[hr,hf0,zfo,if_pos h4]
  have hp6:1<=ps.length/\ps.length<=6:=by
   rw[yn,Bool.and_eq_true,decide_eq_true_eq,decide_eq_true_eq]at h3;omega
  have hf4:zfo P S ps=bif ps.all (Kb P S)then(BB true (ps.map (qZ P S)),II true (T2 ps.length (Jf P ps)),0)else([],[],5):=by rw[zfo,if_neg (by omega)]
  clear hag hfx ag
  refine hlp ((List V×List V)×Int) _ _ _ [1,2,7,8,45,46,47] (fun x=>[(wJ1 1 a0 a1 a2),(2,none,.val (.box 31 (.agg [.slc true 49 (.agg [.slc true 2 (.int .i64 0) []]) [],.slc true 24 (.slc true 2 (.int .i64 0) []) []]))),(7,none,.val (.box 31 (.agg [.slc true 49 (.agg [.slc true 2 (.int .i64 0) []]) x.1.1,.slc true 24 (.slc true 2 (.int .i64 0) []) []]))),(8,none,.val (.slc true 24 (.slc true 2 (.int .i64 0) []) x.1.2)),(45,none,.val (.slc true 24 (.slc true 2 (.int .i64 0) []) vf)),(wJ0 46 n),(wJ0 47 x.2)])
   (fun x=>0<=x.2/\x.2<=n/\x.1.1=BB true ((jP (fs.take x.2.toNat)).map (qZ P S))/\x.1.2=II true ((jP (fs.take x.2.toNat)).map (zC P))/\∀y∈jP (fs.take x.2.toNat),Kb P S y=true) (fun x=>(n-x.2).toNat) ((([],[]),0)) (by subst hL;rw[hn,<-hvl];rfl) ?_ ?_
  ·exact⟨by simp,by simp only;omega,rfl,rfl,fun y hy=>by cases hy⟩
  rintro⟨⟨bs,qs⟩,j⟩ ⟨j0,j1,hB,hQ2,hok⟩ hfx ag hag;simp only at j0 j1 hB hQ2 hok;have hbatx:∀x:Int,0<=x->x<P.length->zjv a0 a1 a2 x=za3 (jc P S x):=fun x h1 h2=>by rw[<-zjn,zeR,hP,hS,zl,zl]
  have hqpx:∀x:Int,0<=x->x<P.length->zcB a0 a1 a2 x:=fun x h1 h2=>⟨hqv,h1,by rw[hpl];exact h2⟩;have Qp:∀x:Int,0<=x->x<P.length->KC a0 a1 a2 x:=by rw[<-zbk];exact hqpx
  conv=>cbv
  simp only[zo hL,sQ,g0,g1,g2,Er,hvl,gvf,<-hn,zG,zg];refine⟨fun h4=>?_,fun h4=>?_⟩
  ·obtain⟨jn,hjn⟩:∃jn:Nat,jn=j.toNat:=⟨_,rfl⟩;obtain⟨r1,r2,r3,r4,r5⟩:=hfo.get (i:=jn) (by omega);obtain⟨x,hx⟩:=qEx ((fs.getD jn []).getD 0 0);rw[<-hx]at r2 r3;obtain⟨c,hc⟩:=qEx ((fs.getD jn []).getD 1 0);rw[<-hc]at r4 r5;simp only[<-hjn]at hB hQ2 hok;simp only[<-hjn,<-hx,<-hc,hbatx x r2 r3];obtain⟨pp,hpp⟩:=qEx (jP (fs.take jn));rw[<-hpp]at hB hQ2 hok;have hnx:jP (fs.take (jn+1))=pp++List.replicate c.toNat x:=(by rw[zkQ (by omega),zhx,<-hpp,<-hx,<-hc]);have hxm:x∈ps:=by rw[hps,hx];exact zBI hfo (by omega)
   have hpc:pp.length+c.toNat<=6:=by
    obtain⟨t,ht⟩:=zBH fs (jn+1);rw[<-hps,hnx]at ht;have:=congrArg List.length ht;simp only[zr,zx]at this;omega
   refine⟨j0,h4,by omega,by omega,by omega,by omega,by omega,by omega,Qp x r2 r3,?_⟩
   cases hox:Kb P S x with
   |false=>
    rw[zwI hox];refine⟨fun _=>?_,fun h=>by cases h⟩;have hall:ps.all (Kb P S)=false:=(by rw[List.all_eq_false];exact⟨x,hxm,by rw[hox];simp⟩);rw[hr,hf0,hf4,hall];rfl
   |true=>
    rw[zua hox];obtain⟨vb,hvb⟩:=qEx (I (qZ P S x));have gvb:V.frzs vb=vb:=(by rw[hvb,zt]);have hvbl:vb.length<=3000:=(by rw[hvb,zg];exact znP hcl r2 r3 hox);have Es:jK vb=vb:=(by rw[<-qO];rfl);have Qs:yP vb:=(by rw[<-yu];exact⟨⟨_,hvb⟩,by omega⟩);have Ep:JV a0 a1 a2 x=I (zC P x):=(by rw[<-Ja,Qg,hP,zl]);simp only[<-hvb,gvb];refine⟨fun h=>absurd trivial h,fun _=>⟨by omega,by omega,by omega,by omega,by omega,?_⟩⟩
    refine hlp ((List V×List V)×Int) _ _ _ [1,2,7,8,10,11,45,46,47,65,66] (fun y=>[(wJ1 1 a0 a1 a2),(2,none,.val (.box 31 (.agg [.slc true 49 (.agg [.slc true 2 (.int .i64 0) []]) [],.slc true 24 (.slc true 2 (.int .i64 0) []) []]))),(7,none,.val (.box 31 (.agg [.slc true 49 (.agg [.slc true 2 (.int .i64 0) []]) y.1.1,.slc true 24 (.slc true 2 (.int .i64 0) []) []]))),(8,none,.val (.slc true 24 (.slc true 2 (.int .i64 0) []) y.1.2)),(10,none,.rf 45 0 [jn]),(wJ8 11 vb),(45,none,.val (.slc true 24 (.slc true 2 (.int .i64 0) []) vf)),(wJ0 46 n),(wJ0 47 j),(wJ0 65 c),(wJ0 66 y.2)])
     (fun y=>0<=y.2/\y.2<=c/\y.1.1=BB true ((pp++List.replicate y.2.toNat x).map (qZ P S))/\y.1.2=II true ((pp++List.replicate y.2.toNat x).map (zC P))) (fun y=>(c-y.2).toNat) (((bs,qs),0)) (by subst hL;rfl) ?_ ?_
    ·exact⟨by simp,by simp only;omega,by simp only;rw[hB];simp,by simp only;rw[hQ2];simp⟩
    rintro⟨⟨bs2,qs2⟩,t⟩ ⟨t0,t1,hB2,hQ3⟩ hfx2 ag2 hag2;simp only at t0 t1 hB2 hQ3;have hbl2:bs2.length=pp.length+t.toNat:=(by rw[hB2,qw,zS,zr,zx]);have hql2:qs2.length=pp.length+t.toNat:=by rw[hQ3,ye,zS,zr,zx]
    conv=>cbv
    simp only[zo hL,sQ,g0,g1,g2,hvl,gvf,zG,zg,gvb,Es,<-hx,Ep];refine⟨fun h5=>?_,fun h5=>?_⟩
    ·rw[zn (n:=t+1)];have hrs:pp++List.replicate (t.toNat+1) x=(pp++List.replicate t.toNat x)++[x]:=(by rw[qm,zU]);refine⟨Qs,by simp only[List.length_cons,List.length_nil];omega,fun z hz=>by(simp only[yd]at hz;subst hz;rfl),by omega,by omega,by omega,by omega,by omega,Qp x r2 r3,by simp only[List.length_cons,List.length_nil];omega,fun z hz=>by(simp only[yd]at hz;subst hz;rfl),?_⟩;refine hag2 ((_,_),t+1) ⟨by simp only;omega,by simp only;omega,?_,?_⟩ (by simp only;omega)
     ·simp only[ya t0];rw[hrs,List.map_append,hB2,hvb];simp[BB]
     ·simp only[ya t0];rw[hrs,List.map_append,hQ3];simp[II]
    ·rw[zn (n:=j+1)];refine hag ((bs2,qs2),j+1) ⟨by simp only;omega,by simp only;omega,?_,?_,?_⟩ (by simp only;omega)
     ·simp only;rw[show(j+1).toNat=jn+1 by omega,hnx,show c.toNat=t.toNat by omega];exact hB2
     ·simp only;rw[show(j+1).toNat=jn+1 by omega,hnx,show c.toNat=t.toNat by omega];exact hQ3
     ·intro y hy;simp only at hy;rw[show(j+1).toNat=jn+1 by omega,hnx]at hy;rcases List.mem_append.1 hy with hy|hy
      ·exact hok y hy
      ·rw[List.eq_of_mem_replicate hy];exact hox
  have htj:fs.take j.toNat=fs:=zB (by omega);rw[htj,<-hps]at hB hQ2 hok;have hall:ps.all (Kb P S)=true:=by rw[List.all_eq_true];exact hok
  have hf5:uN a0 a1 a2=(BB true (ps.map (qZ P S)),II true (T2 ps.length (Jf P ps)),0):=by rw[hf0,hf4,hall];rfl
  have hqsl:qs.length=ps.length:=by rw[hQ2,ye,zS]
  obtain⟨m,hm⟩:=qEI ps.length
  have gqs:∀k,k<ps.length->qs.getD k (.slc true 2 (.int .i64 0) [])=.slc true 2 (.int .i64 0) (I (zC P (ps.getD k 0))):=fun k hk=>by
   rw[hQ2,qu];congr 2;rw[zd,List.getElem?_map,ze hk,zd,ze hk];rfl
  simp only[hqsl,<-hm];have hsq:ZE m=II true (T2 ps.length (Qo P ps 0 0)):=by rw[<-Zl,Jz,hm,Int.toNat_natCast,zAi]
  have Qn:zhY m:=by rw[<-zd6];exact⟨by omega,by omega⟩
  have Esh:∀xs ys:List Int,zA1 (I xs) (I ys)=(JY xs ys:Nat):=fun xs ys=>by rw[<-zAI,ztO,zl,zl]
  have Qsh:∀xs ys:List Int,xs.length<=24->ys.length<=24->zAX (I xs) (I ys):=by
   rw[<-zAA];exact fun xs ys h1 h2=>⟨⟨⟨_,rfl⟩,by rw[zg];omega⟩,⟨⟨_,rfl⟩,by rw[zg];omega⟩⟩
  have hpin:∀k,k<ps.length->(zC P (ps.getD k 0)).length<=24:=fun k hk=>by
   have h5:=zby hfo (ps.getD k 0) (by rw[<-hps];exact ky hk);exact uD hcl (by omega) h5.2
  clear hag hfx ag;obtain⟨c0,hc0⟩:=qEx (II true (T2 ps.length (Qo P ps 0 0)));rw[hsq,<-hc0];refine⟨Qn,?_⟩
  refine hlp (List V×Int) _ _ _ [2,7,8,89,90,91] (fun x=>[(2,none,.val (.box 31 (.agg [.slc true 49 (.agg [.slc true 2 (.int .i64 0) []]) [],.slc true 24 (.slc true 2 (.int .i64 0) []) []]))),(7,none,.val (.box 31 (.agg [.slc true 49 (.agg [.slc true 2 (.int .i64 0) []]) bs,.slc true 24 (.slc true 2 (.int .i64 0) []) x.1]))),(8,none,.val (.slc true 24 (.slc true 2 (.int .i64 0) []) qs)),(89,none,.rf 8 0 []),(wJ0 90 m),(wJ0 91 x.2)])
   (fun x=>0<=x.2/\x.2<=m/\x.1=II true (T2 ps.length (Qo P ps x.2.toNat 0))) (fun x=>(m-x.2).toNat) ((c0,0)) (by subst hL;rw[hm,<-hqsl];rfl) ?_ ?_
  ·exact⟨by simp,by simp only;omega,hc0⟩
  rintro⟨ms,i⟩ ⟨i0,i1,hM⟩ hfx ag hag;simp only at i0 i1 hM;obtain⟨ni,hni⟩:∃ni:Nat,ni=i.toNat:=⟨_,rfl⟩;rw[<-hni]at hM
  conv=>cbv
  simp only[zo hL,sQ,hqsl,<-hm,<-hni];refine⟨fun h5=>?_,fun h5=>?_⟩
  ·have hnl:ni<ps.length:=(by omega);refine⟨i0,h5,hnl,by rw[gqs ni hnl];rfl,?_⟩
   refine hlp (List V×Int) _ _ _ [2,7,8,13,14,89,90,91,96,97,98] (fun x=>[(2,none,.val (.box 31 (.agg [.slc true 49 (.agg [.slc true 2 (.int .i64 0) []]) [],.slc true 24 (.slc true 2 (.int .i64 0) []) []]))),(7,none,.val (.box 31 (.agg [.slc true 49 (.agg [.slc true 2 (.int .i64 0) []]) bs,.slc true 24 (.slc true 2 (.int .i64 0) []) x.1]))),(8,none,.val (.slc true 24 (.slc true 2 (.int .i64 0) []) qs)),(wJ0 13 i),(14,none,.rf 8 0 [ni]),(89,none,.rf 8 0 []),(wJ0 90 m),(wJ0 91 i),(96,none,.rf 8 0 []),(wJ0 97 m),(wJ0 98 x.2)])
    (fun x=>0<=x.2/\x.2<=m/\x.1=II true (T2 ps.length (Qo P ps ni x.2.toNat))) (fun x=>(m-x.2).toNat) ((ms,0)) (by subst hL;rw[hm,<-hqsl];rfl) ?_ ?_
   ·exact⟨by simp,by simp only;omega,hM⟩
   rintro⟨ms2,k⟩ ⟨k0,k1,hM2⟩ hfx2 ag2 hag2;simp only at k0 k1 hM2;obtain⟨nk,hnk⟩:∃nk:Nat,nk=k.toNat:=⟨_,rfl⟩;rw[<-hnk]at hM2;have hml2:ms2.length=ps.length:=(by rw[hM2,ye,zgY]);have gms:∀t,ms2.getD t (.slc true 2 (.int .i64 0) [])=.slc true 2 (.int .i64 0) (I ((T2 ps.length (Qo P ps ni nk)).getD t [])):=fun t=>by rw[hM2,qu]
   conv=>cbv
   simp only[zo hL,sQ,hqsl,<-hm,<-hnk,<-hni,gqs ni hnl,hml2,gms,zG,zg];refine⟨fun h6=>?_,fun h6=>?_⟩
   ·have hkl:nk<ps.length:=(by omega);simp only[gqs nk hkl,zcQ,zt,Esh];have hrow:((T2 ps.length (Qo P ps ni nk)).getD ni []).length=ps.length:=(by rw[ze5 _ hnl,yi]);rw[hrow,zn (n:=k+1)];refine⟨k0,h6,hkl,rfl,fun h7=>⟨i0,h5,hnl,hnl,hkl,rfl,Qsh _ _ (hpin ni hnl) (hpin nk hkl),hnl,k0,by omega,hnl,hkl,?_⟩,fun h7=>?_⟩
    ·refine hag2 (_,k+1) ⟨by simp only;omega,by simp only;omega,?_⟩ (by simp only;omega);simp only;rw[show(k+1).toNat=nk+1 by omega,ua,hM2,zd5,zCp hnl hkl (by omega)]
    ·refine hag2 (ms2,k+1) ⟨by simp only;omega,by simp only;omega,?_⟩ (by simp only;omega);simp only;have h8:nk=ni:=(by omega);rw[show(k+1).toNat=nk+1 by omega,hM2,h8];rw[zAj]
   ·rw[zn (n:=i+1)];refine hag (ms2,i+1) ⟨by simp only;omega,by simp only;omega,?_⟩ (by simp only;omega);simp only;rw[hM2,show nk=ps.length by omega,zCq,show(i+1).toNat=ni+1 by omega]
  ·have hin:ni=ps.length:=(by omega);rw[hr,hf5,hM,hin,zCr,hB]
 ·cases h
def zgP:Nat->Code->Code×Code
 |0,c=>(.skip,c)
 |n+1,.seq a b=>(.seq a (zgP n b).1,(zgP n b).2)
 |_+1,c=>(.skip,c)
theorem zvm(f g:yb->Prop)(Q:Yw):zcl f (zcl g Q)=zcl f Q:=by
 funext e S
 cases e<;>rfl
theorem zvP(L:Alg)(T:kH)(lp:YQ)(B:kn)(Bi:qV)(nt:Nat)(ks:List Nat)(Q:Yw):∀(n:Nat) (c:Code) (S:yb),Zq L T lp B Bi nt ks c Q S=Zq L T lp B Bi nt ks (zgP n c).1 (zcl (Zq L T lp B Bi nt ks (zgP n c).2 Q) Q) S
 |0,c,S=>rfl
 |n+1,c,S=>by
  cases c with
  |seq a b=>
   show Zq L T lp B Bi nt ks a (zcl (Zq L T lp B Bi nt ks b Q) Q) S=Zq L T lp B Bi nt ks a (zcl (Zq L T lp B Bi nt ks (zgP n b).1 (zcl (Zq L T lp B Bi nt ks (zgP n b).2 Q) Q)) (zcl (Zq L T lp B Bi nt ks (zgP n b).2 Q) Q)) S;rw[zvm,show Zq L T lp B Bi nt ks b Q=Zq L T lp B Bi nt ks (zgP n b).1 (zcl (Zq L T lp B Bi nt ks (zgP n b).2 Q) Q)from funext fun S=>zvP L T lp B Bi nt ks Q n b S]
  |_=>rfl
theorem zn1(L:Alg)(T:kH)(lp:YQ)(B:kn)(Bi:qV)(nt:Nat)(ks:List Nat)(Q:Yw)(n:Nat)(c:Code)(S:yb)
 (h:∀K:yb->Prop,K=Zq L T lp B Bi nt ks (zgP n c).2 Q->Zq L T lp B Bi nt ks (zgP n c).1 (zcl K Q) S):Zq L T lp B Bi nt ks c Q S:=by
 rw[zvP L T lp B Bi nt ks Q n c S];exact h _ rfl
theorem zfD:yM Tryz.prog 3 (zo9 zGn zyd):=by
 intro args ps r h hp;unfold zo9 at h;split at h
 ·rename_i a0;cases h;have hq:zyd a0:=(zp.1 hp).1
  have hfr:V.frzs a0=a0:=by
   obtain⟨xs,hxs,_⟩:=hq;rw[hxs,zwQ]
  obtain⟨⟨P,hP⟩,⟨S,hS⟩,⟨Q,hQ⟩⟩:=zF5 a0;obtain⟨cp,hcp⟩:=qEx (I P);obtain⟨cs,hcs⟩:=qEx (I S);obtain⟨cq,hcq⟩:=qEx (I Q);have hkc:kcF a0=(cp,cs,cq):=by rw[hcp,hcs,hcq,<-hP,<-hS,<-hQ]
  obtain⟨bs,ms,w1,e5,hsm,e8⟩:=zAl P S Q;rw[<-hcp,<-hcs,<-hcq]at e5;obtain⟨vbt,e3⟩:=qEx (BB true bs);obtain⟨vmt,e4⟩:=qEx (II true ms);obtain⟨vb,hvb⟩:=qEx (BB false bs);obtain⟨vm,hvm⟩:=qEx (II false ms);have fbt:V.frzs vbt=vb:=by rw[e3,ko,hvb]
  have fmt:V.frzs vmt=vm:=by rw[e4,jy,hvm]
  have fb:V.frzs vb=vb:=by rw[hvb,ko]
  have fm:V.frzs vm=vm:=by rw[hvm,jy]
  have fp:V.frzs cp=cp:=by rw[hcp,zt]
  have fs:V.frzs cs=cs:=by rw[hcs,zt]
  have fq:V.frzs cq=cq:=by rw[hcq,zt]
  rw[<-e3,<-e4]at e5;have e7:zo4 cp cs cq=(vb,vm,w1):=by rw[zo4,e5,fbt,fmt]
  generalize zxn:zml=zxM,zw2:zC8=zxt,zDr:kcF=zDs,Je:IsU=zbM,zxl:uN=zxI,jX:Yn=uP,zxj:zo4=zxH,zrz:ziS=zrC,zfa:zl0=zfc,zAW:zqd=zBa,zAU:ztV=zA8,YS:q_C=zae,kK:jZ=uW,zAJ:zp7=zA2,zg7:ziF=zkt,zAV:zqc=zA9,zje:zl4=zmu,zAS:zqa=zA7,zw3:zC9=zxu,zxg:zr2=zxE,zAK:zdF=zve,zuR:zjN=zjr,zbn:zdG=zbr,zbj:zk4=zbp,zu2:zo2=zvg,zAN:zgK=zvf,zxh:zyF=zxF,zu6:zdN=znY,zu5:zdM=znX,zu4:zdL=znW,yu:qU=yP;refine zH (B:=[(4,zo9 zxM zxt),(5,zyK zDs zbM),(6,zuv zxI uP),(7,zur zxH uP),(8,zlD zrC zfc),(9,zqq zBa uP),(10,zux zA8 zae),(11,zdR uW zae),(12,zqn zA2 zkt),(13,znR zA9 zmu),(14,znS zA7 zxu),(15,zi0 zxE zbM),(16,Jo zve zjr),(17,Jo zve zjr),(18,YH zbr zbp),(19,zi0 zvg zbM),(20,Jo zvf zjr),(21,Jo zvf zjr),(22,zyL zxF zbM),(23,YP znY znX znW yP),(24,YP znY znX znW yP)]) (Bi:=[]) [2000028816,2000028959,2000028998,2000032819,2000032973,2000032998,0,2,3,4,5,6,7,8,9,10,11,12,13,14,15,16,17,18,19,20,21,22,23,24,25,26,27,28,29,30,31,32,33,34,35,36,37,38,39,40,41,42,43] Tryz.func3 rfl rfl (by subst zxn zw2 zDr Je zxl jX zxj zrz zfa zAW zAU YS kK zAJ zg7 zAV zje zAS zw3 zxg zAK zuR zbn zbj zu2 zAN zxh zu6 zu5 zu4 yu;exact(zm zx1 (zm zfC (zm ziD (zm zix (zm zmz (zm znp (zm zgp (zm Kp (zm zjH (zm zhk (zm zfE (zm zgn (zm zjI (zm zjC (zm zdm (zm zh5 (zm zkZ (zm zkW (zm zgo (zm zjJ (zm zjD zF)))))))))))))))))))))) zA ?_;intro L lp rr hL hr hf hlp;have E0:zxM a0=zml a0:=by rw[<-zxn]
  have E1:zDs a0=(cp,cs,cq):=by rw[<-zDr,hkc]
  have E2:zxI cp cs cq=(vbt,vmt,w1):=by rw[<-zxl,e5]
  have E3:zxH cp cs cq=(vb,vm,w1):=by rw[<-zxj,e7]
  have E4:∀a b,zrC a b a b=true:=fun a b=>by rw[<-zrz,zyp]
  have Qi:zxt a0:=by rw[<-zw2];trivial
  have yes:rr=.bool true:=hr;refine zn1 L tab lp _ _ _ _ _ 7 _ _ fun K1 hK1=>?_
  conv=>cbv
  simp only[zo hL,sQ,hfr,E0,E1,E2,E3,E4,fbt,fmt,fb,fm,fp,fs,fq,not_true,false_or,or_false,zbt,true_imp_iff,false_imp_iff];refine⟨Qi,fun _=>yes.symm,fun h1=>?_⟩;have hu:=zFq hq h1;have QU:zbM a0:=by rw[<-Je];exact hu
  have QK:uP cp cs cq:=by rw[<-jX,hcp,hcs,hcq];exact⟨⟨_,rfl⟩,⟨_,rfl⟩,⟨_,rfl⟩⟩
  have QC:zae vb vm:=by rw[<-YS,hvb,hvm];exact hsm.q
  have QL:zfc vb vm vb vm:=by rw[<-zfa,hvb,hvm];exact hsm.ql
  simp only[QU,QK,QC,QL,true_and,and_true,true_imp_iff];obtain⟨b2,hb2⟩:=qEx ((dsp a0).1);obtain⟨m2,hm2⟩:=qEx ((dsp a0).2.1);obtain⟨p2,hp2⟩:=qEx (drP a0);obtain⟨p9,hp9⟩:=qEx (dpP a0);obtain⟨xs,hxs⟩:=qEx ((spF a0 0 (Za a0)).1);have b8:SmC b2 m2:=by rw[hb2,hm2];exact zFk hu
  have hl2:p2.length<=7:=by rw[hp2];exact zEg hu
  have hl9:p9.length<=7:=by rw[hp9];exact zEh hu
  have hl5:xs.length<=5:=by rw[hxs];exact(zvX (a:=0) (h:=Za a0) ⟨hu,qN _,Int.natCast_nonneg _⟩).2
  obtain⟨b3,m3,w2,hrc,b9,b6⟩:=zBy b8 hl2;obtain⟨b4,m4,w4,hpc,c4⟩:=zBQ b8 hl9;obtain⟨b5,m5,w5,hc0,hc1,hc2,c5⟩:=zAm hl5;obtain⟨vb2,c7⟩:=qEx (BB false b2);obtain⟨vm2,c8⟩:=qEx (II false m2);obtain⟨vp2,c9⟩:=qEx (I p2);obtain⟨vp9,d0⟩:=qEx (I p9);obtain⟨vx,hvx⟩:=qEx (I xs);obtain⟨tb3,d4⟩:=qEx (BB true b3);obtain⟨tm3,d5⟩:=qEx (II true m3);obtain⟨tb4,d6⟩:=qEx (BB true b4);obtain⟨tm4,d7⟩:=qEx (II true m4);obtain⟨tb5,d8⟩:=qEx (BB true b5);obtain⟨tm5,d9⟩:=qEx (II true m5);have f2b:V.frzs vb2=vb2:=by rw[c7,ko]
  have f2m:V.frzs vm2=vm2:=by rw[c8,jy]
  have f2p:V.frzs vp2=vp2:=by rw[c9,zt]
  have f9p:V.frzs vp9=vp9:=by rw[d0,zt]
  have fx:V.frzs vx=vx:=by rw[hvx,zt]
  have E10:zxE a0=(vb2,vm2,vp2):=by rw[<-zxg,zr2,c7,c8,c9,hb2,hm2,hp2]
  have E11:zve vb2 vm2 vp2=(tb3,tm3,w2):=by rw[<-zAK,c7,c8,c9,hrc,d4,d5]
  have E12:zvg a0=(vb2,vm2,vp9):=by rw[<-zu2,zo2,c7,c8,d0,hb2,hm2,hp9]
  have E13:zvf vb2 vm2 vp9=(tb4,tm4,w4):=by rw[<-zAN,c7,c8,d0,hpc,d6,d7]
  have E14:zxF a0=vx:=by rw[<-zxh,zyF,hvx,hxs]
  have E15:znY vx=tb5:=by rw[<-zu6,hvx,hc0,d8]
  have E16:znX vx=tm5:=by rw[<-zu5,hvx,hc1,d9]
  have E17:znW vx=w5:=by rw[<-zu4,hvx,hc2]
  have Q2:zjr vb2 vm2 vp2:=by rw[<-zuR,c7,c8,c9];exact⟨b8.q,⟨_,rfl⟩,by rw[zg];omega⟩
  have Q9:zjr vb2 vm2 vp9:=by rw[<-zuR,c7,c8,d0];exact⟨b8.q,⟨_,rfl⟩,by rw[zg];omega⟩
  have Q3:zfc (V.frzs tb3) (V.frzs tm3) (V.frzs tb3) (V.frzs tm3):=by rw[<-zfa,d4,d5,ko,jy];exact b9.ql
  have Q4:zfc (V.frzs tb4) (V.frzs tm4) (V.frzs tb4) (V.frzs tm4):=by rw[<-zfa,d6,d7,ko,jy];exact c4.ql
  have Q5:zfc (V.frzs tb5) (V.frzs tm5) (V.frzs tb5) (V.frzs tm5):=by rw[<-zfa,d8,d9,ko,jy];exact c5.ql
  have Qx:yP vx:=by rw[<-yu,hvx];exact⟨⟨_,rfl⟩,by rw[zg];omega⟩
  clear hp2 hp9 hxs hb2 hm2 hrc hpc hc0 hc1 hc2 hvx;refine⟨fun hw=>?ka,fun hw=>?kb⟩
  case' ka=>
   obtain⟨hcl,e9,ps,hps,hok,p1,p6,hbs,hms,hcv⟩:=e8 hw;obtain⟨fsL,hfs⟩:=qEx (kC (jA P S Q) P.length);obtain⟨vf,hvf⟩:=qEx (II true fsL);have hic:yZ cp cs cq=true:=(by rw[yZ,hcp,hcs,hcq,zl,zl,zl];exact QJ.2 hcl);have his:jZ vb vm=true:=(by rw[jZ,hvb,hvm,jG,qB];exact za0.2 hcv);have hco:uR cp cs cq=true:=(by rw[uR,hcp,hcs,hcq,zl,zl,zl];exact e9);have hbl:bs.length=ps.length:=by rw[hbs,zS]
   have E5:zBa cp cs cq=(vf,0):=by
    rw[<-zAW,zqd,hic,hco,QP,hcp,hcs,hcq,zl,zl,zl,zg,hvf,hfs];rfl
   have E6:zA8 vb vm=(Q.getD 0 0,0):=by
    rw[<-zAU,ztV,his,ziQ,hvb,jG,qw,hbl,hbs,zCt hcl e9 hps hok];rfl
   have E7:uW vb vm=true:=(by rw[<-kK,his]);have gq:∀i,cq.getD i (.int .i64 0)=.int .i64 (Q.getD i 0):=fun i=>(by rw[hcq,zG]);have n1:=hcl.n1;have n24:=hcl.n24;have hcql:cq.length=P.length:=(by rw[hcq,zg,hcl.ql]);simp only[zo hL,sQ,E5,E6,E7,gq,hcql,not_true,not_false_iff,false_or,or_false,true_and,and_true,true_imp_iff,false_imp_iff,yJ,zbt];refine⟨qN _,by omega,?_⟩;obtain⟨nf,hnf⟩:=qEI fsL.length;have hvfl:vf.length=fsL.length:=(by rw[hvf,ye]);have gvf:∀j,vf.getD j (.slc true 2 (.int .i64 0) [])=.slc true 2 (.int .i64 0) (I (fsL.getD j [])):=fun j=>(by rw[hvf,qu]);have hnf24:fsL.length<=24:=(by rw[hfs];exact(Kv hcl).len);have hvbl:vbt.length=bs.length:=(by rw[e3,qw]);obtain⟨nb,hnb⟩:=qEI bs.length;clear E0 E1 E2 E3 E5 E6 Qi hkc e5 e7
   refine hlp (List V×Int) _ _ _ [0,3,4,8,12,13] (fun x=>[(wJ11 0 a0),(wJ1 3 cp cs cq),(4,none,.val (.box 31 (.agg [.slc true 49 (.agg [.slc true 2 (.int .i64 0) []]) vbt,.slc true 24 (.slc true 2 (.int .i64 0) []) vmt]))),(8,none,.val (.slc true 24 (.slc true 2 (.int .i64 0) []) vf)),(wJ2 12 x.1),(wJ0 13 x.2)])
    (fun x=>0<=x.2/\x.2<=nf/\x.1=I (jP (fsL.take x.2.toNat))/\(x.1.length:Int)<=6*x.2) (fun x=>(nf-x.2).toNat) (([],0)) (by subst hL;rfl) ?_ ?_
   ·exact⟨by simp,by simp only;omega,rfl,by simp⟩
   rintro⟨vl,i⟩ ⟨i0,i1,hI,hIl⟩ hfx ag hag;simp only at i0 i1 hI hIl
   conv=>cbv
   simp only[zo hL,sQ,hvfl,gvf,<-hnf,zg,hvbl,<-hnb];refine⟨fun h2=>?kc,fun h2=>?kd⟩
   case' kc=>
    have h6:=zEQ hcl (i:=i.toNat) (by rw[<-hfs];omega) (by rw[<-hps];exact p6);have htk:=zBG (fs:=fsL) (i:=i.toNat) (by omega);rw[<-hfs]at h6;obtain⟨r,hr0⟩:=qEx (fsL.getD i.toNat []);rw[<-hr0]at h6 htk;obtain⟨hrl,e1,e6⟩:=h6;obtain⟨e0,he0⟩:=qEx (r.getD 1 0);obtain⟨x0,hx0⟩:=qEx (r.getD 0 0);rw[<-he0]at e1 e6;rw[<-he0,<-hx0]at htk;simp only[<-hr0,hrl,<-he0];refine⟨by omega,by omega,by omega,by omega,fun _=>by omega,fun _=>by omega,fun _=>by omega,fun _=>trivial,fun _=>by omega,fun _=>trivial,fun _=>by omega,fun _=>by omega,fun _=>by omega,fun _=>trivial,fun _=>by omega,fun _=>trivial,fun h=>by omega,fun _=>⟨by omega,by omega,by omega,by omega,by omega,by omega,by omega,by omega,?_⟩⟩
    refine hlp (List V×Int) _ _ _ [0,3,4,8,12,13,14] (fun x=>[(wJ11 0 a0),(wJ1 3 cp cs cq),(4,none,.val (.box 31 (.agg [.slc true 49 (.agg [.slc true 2 (.int .i64 0) []]) vbt,.slc true 24 (.slc true 2 (.int .i64 0) []) vmt]))),(8,none,.val (.slc true 24 (.slc true 2 (.int .i64 0) []) vf)),(wJ2 12 x.1),(wJ0 13 i),(wJ0 14 x.2)])
     (fun x=>0<=x.2/\x.2<=e0/\x.1=I (jP (fsL.take i.toNat)++List.replicate (e0-x.2).toNat x0)/\(x.1.length:Int)<=6*i+(e0-x.2)) (fun x=>x.2.toNat) ((vl,e0)) (by subst hL;rfl) ?_ ?_
    ·refine⟨by simp only;omega,by simp,?_,by simp only;omega⟩;simp only;rw[Int.sub_self,hI];simp
    rintro⟨vk,e⟩ ⟨k0,k1,hK,hKl⟩ hfx2 ag2 hag2;simp only at k0 k1 hK hKl
    conv=>cbv
    simp only[zo hL,sQ,hvfl,gvf,<-hnf,zg,<-hr0,hrl,<-hx0];refine⟨fun h4=>⟨by omega,by omega,by omega,by omega,by omega,by omega,by omega,by omega,rfl,by simp only[zW];omega,yL _,?_⟩,fun h4=>?_⟩
    ·rw[zn (n:=e-1)];refine hag2 (_,e-1) ⟨by simp only;omega,by simp only;omega,?_,by simp only[zr,zW];omega⟩ (by simp only;omega);simp only;rw[hK,show(e0-(e-1)).toNat=(e0-e).toNat+1 by omega,qm,<-zU];simp only[<-qW];rfl
    ·rw[zn (n:=i+1)];refine hag (vk,i+1) ⟨by simp only;omega,by simp only;omega,?_,by simp only;omega⟩ (by simp only;omega);simp only;rw[hK,show(i+1).toNat=i.toNat+1 by omega,htk,show(e0-e).toNat=e0.toNat by omega]
   case' kd=>
    have hvl:vl=I ps:=(by rw[hI,zB (by omega),hfs,<-hps]);have hvll:vl.length=ps.length:=(by rw[hvl,zg]);have gl:∀j,vl.getD j (.int .i64 0)=.int .i64 (ps.getD j 0):=fun j=>(by rw[hvl,zG]);refine⟨fun h3=>absurd (show(vl.length:Int)=nb by omega) h3,fun h3=>?_⟩;have hin:=zby (Kv hcl);rw[<-hps]at hin
    have hin2:∀j:Int,0<=j->j<nb->0<=ps.getD j.toNat 0/\ps.getD j.toNat 0<P.length/\ps.getD j.toNat 0∈ps:=fun j j0 j1=>by
     have hm:ps.getD j.toNat 0∈ps:=ky (by omega);exact⟨(hin _ hm).1,(hin _ hm).2,hm⟩
    have hcpl:cp.length=P.length:=(by rw[hcp,zg]);have hsim:∀x:Int,x∈ps->ClP P S (zaP P S x):=fun x hx=>zER hcl e9 (by rw[<-hps];exact hx)
    have ES:∀x:Int,x∈ps->zA2 cp cs cq x=(cp,cs,I (zaP P S x),0)/\zkt cp cs cq x:=fun x hx=>by
     have h5:=hin x hx;have h6:ziT cp cs cq x=true:=(by rw[ziT,Bool.and_eq_true,decide_eq_true_eq,decide_eq_true_eq];exact⟨h5.1,by omega⟩);rw[<-zAJ,<-zg7,zp7,hic,h6];refine⟨by rw[hcp,hcs,zl,zl];rfl,⟨⟨_,hcp⟩,⟨_,hcs⟩,⟨_,hcq⟩⟩,by omega⟩
    have EM:∀i k:Int,0<=i->i<nb->0<=k->k<nb->i≠k->zA9 cp cs (I (zaP P S (ps.getD i.toNat 0))) cp cs (I (zaP P S (ps.getD k.toNat 0)))=(zeM bs ms i.toNat k.toNat,0)/\zA7 vb vm i k=(zeM bs ms i.toNat k.toNat,0)/\zmu cp cs (I (zaP P S (ps.getD i.toNat 0))) cp cs (I (zaP P S (ps.getD k.toNat 0)))/\zxu vb vm i k:=fun i k a1 a2 b1 b2 hne=>by
     obtain⟨c1,c2,c3⟩:=hin2 i a1 a2;obtain⟨d1,d2,d3⟩:=hin2 k b1 b2;have g1:∀x:Int,x∈ps->yZ cp cs (I (zaP P S x))=true:=fun x hx=>(by rw[yZ,hcp,hcs,zl,zl,zl];exact QJ.2 (hsim x hx));have g2:∀x y:List V,zkh cp cs x cp cs y=true:=fun x y=>(by simp[zkh,Zh]);rw[<-zAV,<-zAS,<-zje,<-zw3];refine⟨?_,?_,⟨⟨⟨_,hcp⟩,⟨_,hcs⟩,⟨_,rfl⟩⟩,⟨⟨_,hcp⟩,⟨_,hcs⟩,⟨_,rfl⟩⟩⟩,by rw[hvb,hvm];exact hsm.q⟩
     ·have g3:=zBq hcl e9 hps hok (i:=i.toNat) (k:=k.toNat) (by omega) (by omega) (by omega);rw[zqc,g1 _ c3,g1 _ d3,g2,zfN,zl,zl,zg,zsn,g3,hbs,hms];rfl
     ·rw[zqa,his,hvb,qw,zj2.2 ⟨a1,by omega⟩,zj2.2 ⟨b1,by omega⟩,show(i==k)=false by rw[beq_eq_false_iff_ne];exact hne,zp9,jG,hvm,qB];rfl
    clear hag hfx ag hI hIl hnf hvfl gvf hvf
    refine hlp (Int) _ _ _ [0,3,4,12,15] (fun x=>[(wJ11 0 a0),(wJ1 3 cp cs cq),(4,none,.val (.box 31 (.agg [.slc true 49 (.agg [.slc true 2 (.int .i64 0) []]) vbt,.slc true 24 (.slc true 2 (.int .i64 0) []) vmt]))),(wJ2 12 vl),(wJ0 15 x)])
     (fun x=>0<=x/\x<=nb) (fun x=>(nb-x).toNat) (0) (by subst hL;rfl) ?_ ?_
    ·exact⟨qN _,by omega⟩
    rintro j ⟨j0,j1⟩ hfx ag hag;obtain⟨y,hy0⟩:=qEx (ps.getD j.toNat 0);obtain⟨vy,hvy⟩:=qEx (I (zaP P S y));have fvy:V.frzs vy=vy:=by rw[hvy,zt]
    conv=>cbv
    simp only[zo hL,sQ,hvll,gl,<-hy0,fp,fs,fq,fbt,fmt];refine⟨fun h7=>?kf,fun h7=>?kg⟩
    case' kf=>
     obtain⟨c1,c2,c3⟩:=hin2 j j0 (by omega);rw[<-hy0]at c1 c2 c3;obtain⟨E8,Q8⟩:=ES y c3;rw[<-hvy]at E8;simp only[E8,Q8,fp,fs,fvy];refine⟨j0,by omega,by omega,trivial,?_⟩
     refine hlp (Int) _ _ _ [0,3,4,12,15,16,17,18] (fun x=>[(wJ11 0 a0),(wJ1 3 cp cs cq),(4,none,.val (.box 31 (.agg [.slc true 49 (.agg [.slc true 2 (.int .i64 0) []]) vbt,.slc true 24 (.slc true 2 (.int .i64 0) []) vmt]))),(wJ2 12 vl),(wJ0 15 j),(wJ1 16 cp cs vy),(17,none,.val (.int .i64 0)),(wJ0 18 x)])
      (fun x=>0<=x/\x<=j) (fun x=>(j-x).toNat) (0) (by subst hL;rfl) ?_ ?_
     ·exact⟨qN _,j0⟩
     rintro k ⟨k0,k1⟩ hfx2 ag2 hag2;obtain⟨u,hu0⟩:=qEx (ps.getD k.toNat 0);obtain⟨vu,hvu⟩:=qEx (I (zaP P S u));have fvu:V.frzs vu=vu:=by rw[hvu,zt]
     conv=>cbv
     simp only[zo hL,sQ,hvll,gl,<-hu0,fp,fs,fq,fbt,fmt,fvy];refine⟨fun h8=>?kh,fun h8=>?ki⟩
     case' kh=>
      obtain⟨d1,d2,d3⟩:=hin2 k k0 (by omega);rw[<-hu0]at d1 d2 d3;obtain⟨E9,Q9⟩:=ES u d3;rw[<-hvu]at E9;obtain⟨M1,M2,M3,M4⟩:=EM j k j0 (by omega) k0 (by omega) (by omega);rw[<-hy0,<-hu0,<-hvy,<-hvu]at M1 M3;simp only[E9,Q9,fp,fs,fvu,M1,M2,M3,M4,not_true,false_or,or_false,true_and,and_true,true_imp_iff,false_imp_iff];rw[zn (n:=k+1)];exact⟨k0,by omega,by omega,hag2 (k+1) ⟨by omega,by omega⟩ (by omega)⟩
     case' ki=>
      rw[zn (n:=j+1)];exact hag (j+1) ⟨by omega,by omega⟩ (by omega)
  all_goals
   rw[hK1];clear hK1;refine zn1 L tab lp _ _ _ _ _ 5 _ _ fun K2 hK2=>?_
   conv=>cbv
   simp only[zo hL,sQ,hfr,E4,E10,E11,QU,Q2,Q3,f2b,f2m,f2p,not_true,false_or,or_false,true_and,and_true,true_imp_iff,false_imp_iff,yJ,zbt];refine⟨fun hw2=>?_,fun hw2=>?_⟩
   ·obtain⟨hpm,hpl,c6,hb3,hm3⟩:=b6 hw2;have h6:=c6.n6;obtain⟨np,g4⟩:=qEI p2.length;have g5:vp2.length=p2.length:=(by rw[c9,zg]);have a4:vb2.length=b2.length:=(by rw[c7,qw]);have a5:vm2.length=m2.length:=(by rw[c8,ye]);have a6:tb3.length=b3.length:=(by rw[d4,qw]);have a7:tm3.length=m3.length:=(by rw[d5,ye]);have a8:b3.length=p2.length:=(by rw[hb3,zhz,JL]);have a9:m3.length=p2.length:=(by rw[hm3,Kf,zS,JL]);have b0:m2.length=p2.length:=(by rw[hpl];exact c6.tab.len);have gp2:∀j,vp2.getD j (.int .i64 0)=.int .i64 (p2.getD j 0):=fun j=>(by rw[c9,zG]);have gb2:∀j,vb2.getD j (.agg [.slc false 2 (.int .i64 0) []])=.agg [.slc false 2 (.int .i64 0) (I (b2.getD j []))]:=fun j=>(by rw[c7,YT]);have gb3:∀j,tb3.getD j (.agg [.slc true 2 (.int .i64 0) []])=.agg [.slc true 2 (.int .i64 0) (I (b3.getD j []))]:=fun j=>(by rw[d4,YT]);have gm2:∀j,vm2.getD j (.slc false 2 (.int .i64 0) [])=.slc false 2 (.int .i64 0) (I (m2.getD j [])):=fun j=>(by rw[c8,qu]);have gm3:∀j,tm3.getD j (.slc true 2 (.int .i64 0) [])=.slc true 2 (.int .i64 0) (I (m3.getD j [])):=fun j=>by rw[d5,qu]
    refine hlp (Int) _ _ _ [0,25,26,27,31] (fun x=>[(wJ11 0 a0),(25,none,.val (.box 31 (.agg [.slc false 49 (.agg [.slc false 2 (.int .i64 0) []]) vb2,.slc false 24 (.slc false 2 (.int .i64 0) []) vm2]))),(wJ3 26 vp2),(27,none,.val (.box 31 (.agg [.slc true 49 (.agg [.slc true 2 (.int .i64 0) []]) tb3,.slc true 24 (.slc true 2 (.int .i64 0) []) tm3]))),(wJ0 31 x)])
     (fun x=>0<=x/\x<=np) (fun x=>(np-x).toNat) (0) (by subst hL;rfl) ?_ ?_
    ·exact⟨qN _,by omega⟩
    rintro j ⟨j0,j1⟩ hfx ag hag;obtain⟨q,hq0⟩:=qEx (p2.getD j.toNat 0)
    conv=>cbv
    simp only[zo hL,sQ,g5,a4,a6,a8,<-hpl,gp2,gb2,gb3,<-g4,<-hq0,zt];refine⟨fun h7=>?_,fun h7=>?_⟩
    ·have hq1:=hpm.inr j.toNat (by omega);rw[<-hq0]at hq1
     have hba:b3.getD q.toNat []=b2.getD j.toNat []:=by
      rw[hb3,hq0];exact(zzm (bs:=b2) (ms:=m2) hpm hpl (i:=j.toNat) (k:=j.toNat) (by omega) (by omega)).1
     have hma:∀k:Int,0<=k->k<np->mm m3 q.toNat (p2.getD k.toNat 0).toNat=mm m2 j.toNat k.toNat:=fun k a b=>by
      rw[hm3,hq0];exact(zzm (bs:=b2) (ms:=m2) hpm hpl (i:=j.toNat) (k:=k.toNat) (by omega) (by omega)).2
     obtain⟨xj,hxj⟩:=qEx (b2.getD j.toNat []);rw[<-hxj]at hba
     have hxl:xj.length<=3000:=by
      rw[hxj,zd,ze (by omega)];exact b8.br _ (yq _)
     have d3:∀x:List Int,V.frzs (uM.4 (uM.5 (V.agg [V.slc true 2 (.int .i64 0) (I x)]) 0))=I x:=fun x=>zt x;have d2:∀x:List Int,V.frzs (uM.4 (uM.5 (V.agg [V.slc false 2 (.int .i64 0) (I x)]) 0))=I x:=fun x=>zt x;have hlk:zbr (I xj) (I xj)=true:=(by rw[<-zbn,zdG];simp);have hqk:zbp (I xj) (I xj):=(by rw[<-zbj];exact⟨⟨_,rfl⟩,⟨_,rfl⟩,by rw[zg];omega⟩);simp only[<-hxj,hba,d3,d2,hlk,hqk];refine⟨j0,h7,hq1.1,by omega,by omega,Yh _ _ _,by omega,Yh _ _ _,j0,h7,Yh _ _ _,ziI _ _ _,by omega,Yh _ _ _,trivial,fun h=>absurd h (by decide),fun _=>?_⟩
     refine hlp (Int) _ _ _ [0,25,26,27,31,32] (fun x=>[(wJ11 0 a0),(25,none,.val (.box 31 (.agg [.slc false 49 (.agg [.slc false 2 (.int .i64 0) []]) vb2,.slc false 24 (.slc false 2 (.int .i64 0) []) vm2]))),(wJ3 26 vp2),(27,none,.val (.box 31 (.agg [.slc true 49 (.agg [.slc true 2 (.int .i64 0) []]) tb3,.slc true 24 (.slc true 2 (.int .i64 0) []) tm3]))),(wJ0 31 j),(wJ0 32 x)])
      (fun x=>0<=x/\x<=np) (fun x=>(np-x).toNat) (0) (by subst hL;rfl) ?_ ?_
     ·exact⟨qN _,by omega⟩
     rintro k ⟨k0,k1⟩ hfx2 ag2 hag2;obtain⟨u,hu0⟩:=qEx (p2.getD k.toNat 0)
     conv=>cbv
     have hr3:(m3.getD q.toNat []).length=p2.length:=by
      have hm:m3.getD q.toNat []∈m3:=by
       rw[zd,ze (by omega)];exact yq _
      rw[hm3]at hm;rw[zoz (by rw[<-hm3]at hm ⊢;exact hm),JL]
     have hr2:(m2.getD j.toNat []).length=p2.length:=(by rw[hpl];exact(c6.tab.row j.toNat (by omega)).1);simp only[zo hL,sQ,g5,a5,a7,a9,b0,gp2,gm2,gm3,<-g4,<-hq0,<-hu0,zg,hr3,hr2];refine⟨fun h8=>?_,fun h8=>?_⟩
     ·have hu1:=hpm.inr k.toNat (by omega);rw[<-hu0]at hu1;have he:=hma k k0 h8;rw[<-hu0]at he;refine⟨j0,h7,hq1.1,by omega,by omega,k0,h8,by omega,hu1.1,by omega,by omega,by omega,j0,h7,k0,by omega,fun h9=>absurd he h9,fun _=>?_⟩;rw[zn (n:=k+1)];exact hag2 (k+1) ⟨by omega,by omega⟩ (by omega)
     ·rw[zn (n:=j+1)];exact hag (j+1) ⟨by omega,by omega⟩ (by omega)
    ·rw[hK2];clear hK2
     conv=>cbv
     simp only[zo hL,sQ,hfr,E4,E12,E13,E14,E15,E16,E17,QU,Q9,Q4,Q5,Qx,f2b,f2m,f9p,fx,true_and,and_true,true_imp_iff];rw[yes];simp
   ·rw[hK2];clear hK2
    conv=>cbv
    simp only[zo hL,sQ,hfr,E4,E12,E13,E14,E15,E16,E17,QU,Q9,Q4,Q5,Qx,f2b,f2m,f9p,fx,true_and,and_true,true_imp_iff];rw[yes];simp
 ·cases h
end Go.Ax
