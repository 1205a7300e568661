import Derived.Test.YtdahdoichcnlgaaGreatB08p1
import Derived.Test.YtdahdoichcnlgaaGreatB07p1
import Derived.Test.YtdahdoichcnlgaaGreatB02p1
import Derived.Test.YtdahdoichcnlgaaGreatAxP4p1
import Derived.Test.YtdahdoichcnlgaaGreatB03p1
set_option linter.all false
set_option maxRecDepth 100000
set_option maxHeartbeats 8000000
open Bool renaming true_eq_false->zan
open Int renaming le_refl->ue,natCast_nonneg->kP
open List renaming getD_eq_getElem?_getD->zd,getElem?_eq_none->zD,length_cons->zi,length_map->zQ,length_nil->zp
open Nat renaming le_of_ble_eq_true->ze,le_refl->zt
open Option.some renaming injEq->za
open Prod.mk renaming injEq->zb
/-
 The draw of CurveCluster,and dice:numbers that follow from a code. No conditions but those of the contracts.
-/
namespace Go.Ax
open Go.Proofs
noncomputable def ze4(es:List V):List (List Int)×List (List Int):=
 let c:=dsp es
 if kC es c.2.2 24=0 then([[1],[1]],[[0,Yf es (qf es c.2.2 24) [22,24,25]],[Yf es (qf es c.2.2 24) [22,24,25],0]])else(c.1,c.2.1)
noncomputable def zeb(a:List V):List V×List V:=(BB false (ze4 a).1,II false (ze4 a).2)
theorem zCT{es:List V}(hq:IsU es):uu (zeb es).1 (zeb es).2/\(ze4 es).1.length<=6/\(ze4 es).2.length<=6/\(∀x∈(ze4 es).1,x.length<=3000)/\∀x∈(ze4 es).2,x.length<=6:=by
 have hok:=zyj hq
 have key:∀bs ms:List (List Int),bs.length<=6->ms.length<=6->(∀x∈bs,x.length<=3000)->(∀x∈ms,x.length<=6)->uu (BB false bs) (II false ms)/\bs.length<=6/\ms.length<=6/\(∀x∈bs,x.length<=3000)/\∀x∈ms,x.length<=6:=by
  intro bs ms h1 h2 h3 h4;exact⟨⟨⟨bs,rfl,by omega,fun x hx=>by have:=h3 x hx;omega⟩,⟨ms,rfl,by omega,fun x hx=>by have:=h4 x hx;omega⟩⟩,h1,h2,h3,h4⟩
 rw[zeb];unfold ze4;simp only;split
 ·refine key _ _ (by simp) (by simp) (fun x hx=>?_) (fun x hx=>?_)
  ·simp only[List.mem_cons,List.not_mem_nil,or_false,or_self]at hx;rw[hx];simp
  ·simp only[List.mem_cons,List.not_mem_nil,or_false]at hx;rcases hx with rfl|rfl<;>simp
 ·exact key _ _ hok.n6 hok.m6 hok.row hok.mrow
theorem zfC:yJ Tryz.prog 6 (zw9 zeb IsU):=by
 intro args ps r h hp;unfold zw9 at h;split at h
 ·rename_i a0;simp only[za,zb]at h;obtain⟨rfl,rfl⟩:=h;have hq:IsU a0:=(zm.1 hp).1
  have hfr:V.frzs a0=a0:=by
   obtain⟨xs,hxs,_⟩:=hq;rw[hxs,ztw]
  have s0:yh a0 0 (zei a0):=⟨hq,ue _,kP _⟩;obtain⟨⟨bs,ms,A,H⟩,hd⟩:∃d,d=dsp a0:=⟨_,rfl⟩;have hok:=zyj hq;rw[<-hd]at hok;have hs:=hok.src;simp only at hs;have Es:znb a0 0 (zei a0)=(BB false bs,II false ms,A,H):=by rw[znb,<-dsp,<-hd]
  obtain⟨vb,hvb⟩:∃vb,vb=BB false bs:=⟨_,rfl⟩;obtain⟨vm,hvm⟩:∃vm,vm=II false ms:=⟨_,rfl⟩;have fvb:V.frzs vb=vb:=by rw[hvb,uf]
  have fvm:V.frzs vm=vm:=by rw[hvm,ke]
  rw[<-hvb,<-hvm]at Es;generalize zjC:zei=zyR;generalize zh3:IsU=zq1;generalize yR:jo=jJ;generalize yN:jK=jD;generalize yM:jU=jC;generalize qU:zeF=uH;generalize jB:Yp=Zs;generalize jA:QQ=Zr;generalize jz:QP=Zq;generalize kw:zeE=YE;generalize zo8:znb=zB9;generalize JP:yh=zem;refine KR (T:=tab) (B:=[(39,zs8 zyR zq1)]) (Bi:=[(41,0,false,zc1 jJ jD jC uH),(42,0,false,zd8 Zs Zr Zq YE),(40,1000,false,zsh zB9 zem)]) [2000004814,0,2,3,4,5] Tryz.func6 rfl rfl (by kernel_rfl) (ze rfl) mixed zR (by subst zjC zh3 yR yN yM qU jB jA jz kw zo8 JP;exact(zn zn3 zB)) (by subst zjC zh3 yR yN yM qU jB jA jz kw zo8 JP;exact(jg uK (jg ZG (jg zmv zy)))) (by kernel_rfl) ?_;intro L lp rr hL hr hf hlp
  conv=>cbv
  subst zjC zh3 yR yN yM qU zo8 JP jB jA jz kw;obtain⟨v,hv⟩:∃v,v=jo a0 A H 24:=⟨_,rfl⟩;obtain⟨A1,hA1⟩:∃A1,A1=jK a0 A H 24:=⟨_,rfl⟩;obtain⟨H1,hH1⟩:∃H1,H1=jU a0 A H 24:=⟨_,rfl⟩;have s1:yh a0 A1 H1:=by rw[hA1,hH1];exact uo hs
  obtain⟨x,hx⟩:∃x,x=Yp a0 A1 H1 (I [22,24,25]):=⟨_,rfl⟩
  have hdc:ze4 a0=if v=0 then([[1],[1]],[[0,x],[x,0]])else(bs,ms):=by
   rw[hx,hA1,hH1,hv,ze4,<-hd]
  have fpk:∀l,l=I [22,24,25]->Yp a0 A1 H1 l=x:=fun l hl=>by rw[hl,hx]
  have p0:=fpk (V.frzs (V.frzs [V.int IntKind.i64 22,V.int IntKind.i64 24,V.int IntKind.i64 25])) rfl;simp only[zo hL,sQ,hfr,Es,fvb,fvm,<-hv,<-hA1,<-hH1,p0];refine⟨hq,s0,hs,fun h=>⟨⟨s1,⟨[22,24,25],rfl⟩,by decide,by decide⟩,?_⟩,fun h=>?_⟩
  ·rw[hr,zeb,hdc,if_pos h];rfl
  ·rw[hr,zeb,hdc,if_neg h,hvb,hvm]
 ·cases h
def rlS(h b:Int):Int:=IntKind.u64.wrap (IntKind.u64.wrap (IntKind.u64.wrap (h*1099511628211)+IntKind.u64.wrap b)+5)
def rlH(xs:List Int)(s:Int)(n:Nat):Int:=(xs.take n).foldl rlS (IntKind.u64.wrap (IntKind.u64.wrap (s*6257)+IntKind.u64.wrap xs.length))
theorem zzg{xs:List Int}{s:Int}{n:Nat}(h:n<xs.length):rlH xs s (n+1)=rlS (rlH xs s n) (xs.getD n 0):=by
 rw[rlH,List.take_succ_eq_append_getElem h,List.foldl_append,<-rlH,zd,List.getElem?_eq_getElem h];rfl
def zox(a:List V)(s:Int):Int:=rlH (a.map V.toI) s a.length
def zxF(a:List V)(_:Int):Prop:=IsU a
def zsZ(f0:List V->Int->Int)(q:List V->Int->Prop):zK:=fun
 |[.slc false 5 (.int .u8 0) a0,.int .u64 a1]=>some ([q a0 a1],.box 86 (.agg [.slc false 5 (.int .u8 0) a0,.int .i64 0,.int .u64 (f0 a0 a1)]))
 |_=>none
theorem zuk:yJ Tryz.prog 23 (zsZ zox zxF):=by
 intro args ps r h hp;unfold zsZ at h;split at h
 ·rename_i a0 a1;simp only[za,zb]at h;obtain⟨rfl,rfl⟩:=h;have hq:IsU a0:=(zm.1 hp).1;obtain⟨n,hn⟩:∃n:Int,n=a0.length:=⟨_,rfl⟩;obtain⟨h0,hh0⟩:∃h0:Int,h0=IntKind.u64.wrap (IntKind.u64.wrap (a1*6257)+IntKind.u64.wrap n):=⟨_,rfl⟩;obtain⟨xs,hxs,hb,hl⟩:=hq;have hal:a0.length=xs.length:=by rw[hxs,U8,zQ]
  refine zI (T:=tab) (B:=[]) (Bi:=[]) [0,1,4,5,6] Tryz.func23 rfl rfl (by kernel_rfl) (ze rfl) mixed zR (by exact zB) (by exact zy) (by kernel_rfl) ?_;intro L lp rr hL hr hf hlp
  conv=>cbv
  simp only[zo hL,sQ,<-hn,<-hh0]
  refine hlp (Int×Int) _ _ _ [0,5,6] (fun x=>[(0,none,.val (.slc false 5 (.int .u8 0) a0)),(5,none,.val (.box 86 (.agg [.slc false 5 (.int .u8 0) a0,.int .i64 0,.int .u64 x.1]))),(6,none,.val (.int .i64 x.2))])
   (fun x=>0<=x.2/\x.2<=n/\x.1=rlH xs a1 x.2.toNat) (fun x=>(n-x.2).toNat) ((h0,0)) (by subst hL;rfl) ?_ ?_
  ·refine⟨by simp,by simp only;omega,?_⟩;simp only[rlH,hh0,hn,hal];rfl
  rintro⟨hh,i⟩ ⟨i0,i1,hI⟩ hfx ag hag;simp only at i0 i1 hI
  conv=>cbv
  simp only[zo hL,sQ,<-hn];refine⟨fun h=>⟨i0,h,by rw[hxs,zcI];rfl,?_⟩,fun h=>?_⟩
  ·rw[zl (n:=i+1) (by omega) (by omega)];refine hag (_,i+1) ⟨by simp only;omega,by simp only;omega,?_⟩ (by simp only;omega);simp only;rw[show(i+1).toNat=i.toNat+1 by omega,zzg (by omega),<-hI,hxs,zcI];rfl
  ·have hm:(U8 xs).map V.toI=xs:=(by simp[U8,Function.comp_def,V.toI]);rw[hr,zox,hI,show i.toNat=a0.length by omega,hxs,hm]
 ·cases h
def zw0(f0 f1 f2:List V->Int->Int->Int->Int)(q:List V->Int->Int->Int->Prop):kQ:=fun
 |[.box 86 (.agg [.slc false 5 (.int .u8 0) a0,.int .i64 a1,.int .u64 a2]),.int .i64 a3]=>some ([q a0 a1 a2 a3],.int .i64 (f0 a0 a1 a2 a3),.box 86 (.agg [.slc false 5 (.int .u8 0) a0,.int .i64 (f1 a0 a1 a2 a3),.int .u64 (f2 a0 a1 a2 a3)]))
 |_=>none
theorem zrn:zfe Tryz.prog 24 0 (zw0 jo jK jU zeF):=by
 intro args ps r y h hp;unfold zw0 at h;split at h
 ·rename_i a0 a1 a2 a3;simp only[za,zb]at h;obtain⟨rfl,rfl,rfl⟩:=h;have hq:yh a0 a1 a2:=(zm.1 hp).1;refine zos (T:=tab) (B:=[]) (Bi:=[]) 0 [0,1,4,5] Tryz.func24 rfl rfl (by kernel_rfl) (ze rfl) mixed zR (by exact zB) (by exact zy) (by kernel_rfl) rfl rfl rfl zbK rfl ?_;intro L lp rr yy hL hr hy hf hlp
  conv=>cbv
  simp only[zo hL,sQ,true_and];obtain⟨⟨xs,hxs,hb,hl⟩,h0,h1⟩:=hq;have hal:a0.length=xs.length:=by rw[hxs,U8,zQ]
  refine⟨fun h=>?_,fun h=>⟨by decide,fun h2=>⟨h0,h2,?_,by omega,?_⟩,fun h2=>⟨by omega,?_⟩⟩⟩
  ·rw[hr,hy,jo,jK,jU,if_pos h,if_pos h,if_pos h];exact⟨rfl,rfl⟩
  ·rw[hxs,zcI];rfl
  ·rw[hr,hy,jo,jK,jU,if_neg h,if_neg h,if_neg h,if_pos h2,if_pos h2,zl (n:=a1+1) (by omega) (by omega)];exact⟨rfl,rfl⟩
  ·rw[hr,hy,jo,jK,jU,if_neg h,if_neg h,if_neg h,if_neg h2,if_neg h2];exact⟨rfl,rfl⟩
 ·cases h
end Go.Ax
namespace Go.Ax
open Go.Proofs
def zoN(f:List V->List V->List V->List V->List V->List V->Bool)(q:List V->List V->List V->List V->List V->List V->Prop):zK:=fun
 |[.agg [.slc false 2 (.int .i64 0) a0,.slc false 2 (.int .i64 0) a1,.slc false 2 (.int .i64 0) a2],.agg [.slc false 2 (.int .i64 0) a3,.slc false 2 (.int .i64 0) a4,.slc false 2 (.int .i64 0) a5]]=>some ([q a0 a1 a2 a3 a4 a5],.bool (f a0 a1 a2 a3 a4 a5))
 |_=>none
def zqR(a b c d e f:List V):Bool:=zaU a d&&(zaU b e&&zaU c f)
def zwt(a b c d e f:List V):Prop:=zdf a d/\zdf b e/\zdf c f
theorem zin:yJ Tryz.prog 13 (zoN zqR zwt):=by
 intro args ps r h hp;unfold zoN at h;split at h
 ·rename_i a0 a1 a2 a3 a4 a5;simp only[za,zb]at h;obtain⟨rfl,rfl⟩:=h;obtain⟨h1,h2,h3⟩:zwt a0 a1 a2 a3 a4 a5:=(zm.1 hp).1;have g0:V.frzs a0=a0:=by obtain⟨xs,hxs⟩:=h1.1;rw[hxs,zA]
  have g1:V.frzs a1=a1:=by obtain⟨xs,hxs⟩:=h2.1;rw[hxs,zA]
  have g2:V.frzs a2=a2:=by obtain⟨xs,hxs⟩:=h3.1;rw[hxs,zA]
  have g3:V.frzs a3=a3:=by obtain⟨xs,hxs⟩:=h1.2.1;rw[hxs,zA]
  have g4:V.frzs a4=a4:=by obtain⟨xs,hxs⟩:=h2.2.1;rw[hxs,zA]
  have g5:V.frzs a5=a5:=by obtain⟨xs,hxs⟩:=h3.2.1;rw[hxs,zA]
  generalize zbo:zaU=zh8;generalize Kh:zdf=zcT;refine zI (T:=tab) (B:=[(14,KW zh8 zcT)]) (Bi:=[]) [0,1,2,3,4] Tryz.func13 rfl rfl (by kernel_rfl) (ze rfl) mixed zR (by subst zbo Kh;exact(zn zfM zB)) (by subst zbo Kh;exact zy) (by kernel_rfl) ?_;intro L lp rr hL hr hf hlp
  conv=>cbv
  subst zbo Kh;simp only[zo hL,sQ,g0,g1,g2,g3,g4,g5];refine⟨h1,fun _=>h2,fun _=>h3,?_⟩;rw[hr,zqR,Bool.and_assoc]
 ·cases h
end Go.Ax
namespace Go.Ax
def ze5:Nat->Code->Code×Code
 |0,c=>(.skip,c)
 |n+1,.seq a b=>(.seq a (ze5 n b).1,(ze5 n b).2)
 |_+1,c=>(.skip,c)
theorem zue(f g:zU->Prop)(Q:ZW):zaX f (zaX g Q)=zaX f Q:=by
 funext e S
 cases e<;>rfl
theorem zuG(L:Alg)(T:kj)(lp:QZ)(B:jZ)(Bi:qN)(nt:Nat)(ks:List Nat)(Q:ZW):∀(n:Nat) (c:Code) (S:zU),uX L T lp B Bi nt ks c Q S=uX L T lp B Bi nt ks (ze5 n c).1 (zaX (uX L T lp B Bi nt ks (ze5 n c).2 Q) Q) S
 |0,c,S=>rfl
 |n+1,c,S=>by
  cases c with
  |seq a b=>
   show uX L T lp B Bi nt ks a (zaX (uX L T lp B Bi nt ks b Q) Q) S=uX L T lp B Bi nt ks a (zaX (uX L T lp B Bi nt ks (ze5 n b).1 (zaX (uX L T lp B Bi nt ks (ze5 n b).2 Q) Q)) (zaX (uX L T lp B Bi nt ks (ze5 n b).2 Q) Q)) S;rw[zue,show uX L T lp B Bi nt ks b Q=uX L T lp B Bi nt ks (ze5 n b).1 (zaX (uX L T lp B Bi nt ks (ze5 n b).2 Q) Q)from funext fun S=>zuG L T lp B Bi nt ks Q n b S]
  |_=>rfl
theorem zdU(L:Alg)(T:kj)(lp:QZ)(B:jZ)(Bi:qN)(nt:Nat)(ks:List Nat)(Q:ZW)(n:Nat)(c:Code)(S:zU)
 (h:∀K:zU->Prop,K=uX L T lp B Bi nt ks (ze5 n c).2 Q->uX L T lp B Bi nt ks (ze5 n c).1 (zaX K Q) S):uX L T lp B Bi nt ks c Q S:=by
 rw[zuG L T lp B Bi nt ks Q n c S];exact h _ rfl
end Go.Ax
namespace Go.Ax
open Go.Proofs
theorem zAb{bs ms:List (List Int)}(hc:CvP bs ms)(h24:(yz bs ms bs.length).1.P.length<=24):
 ClP (yz bs ms bs.length).1.P (yz bs ms bs.length).1.S (yz bs ms bs.length).1.Q/\jI (yz bs ms bs.length).1.Q=QS bs ms bs.length/\1<=(yz bs ms bs.length).1.Q.length/\(yz bs ms bs.length).1.Q.getD 0 0=JZ bs bs.length/\
 (ul (yz bs ms bs.length).2).length=bs.length/\(∀i,i<bs.length->0<=(ul (yz bs ms bs.length).2).getD i 0/\(ul (yz bs ms bs.length).2).getD i 0<(yz bs ms bs.length).1.P.length)/\
 (∀p,p<(yz bs ms bs.length).1.P.length->exL (yz bs ms bs.length).1.P (yz bs ms bs.length).1.S (yz bs ms bs.length).1.Q p=sg (fun i=>if(ul (yz bs ms bs.length).2).getD i 0=p then 1 else 0) bs.length)/\
 zec (yz bs ms bs.length).1.P (yz bs ms bs.length).1.S (yz bs ms bs.length).1.Q=true:=by
 have hpt:=zvw hc bs.length (zt _);have hok:=ze6 hc bs.length (zt _);generalize yz bs ms bs.length=z at hpt hok h24 ⊢;have hcmp:∀i k j:Nat,i<bs.length->k<bs.length->i≠k->(j:Int)<mm ms i k->(z.2.getD i []).getD j 0=(z.2.getD k []).getD j 0:=fun i k j hi hk hne hj=>hok.cmp i k j hi hk hne hj;have hnl:=hok.nl;have hlv:∀i,i<bs.length->(ul z.2).getD i 0=(z.2.getD i []).getD (jm bs ms i-1) 0:=fun i hi=>by rw[zzI (by omega),hok.rl i hi]
 have hex:∀p,p<z.1.P.length->exL z.1.P z.1.S z.1.Q p=sg (fun i=>if(ul z.2).getD i 0=p then 1 else 0) bs.length:=fun p hp=>by
  rw[hpt.exc hc hcmp h24 hp];exact qk fun i hi=>by rw[hlv i hi]
 obtain⟨f1,f2⟩:=hpt.first hc
 refine⟨hpt.clP hc hcmp h24,hpt.delta hc hcmp,f1,f2,by rw[ul,zQ,hnl],fun i hi=>?_,hex,?_⟩
 ·rw[hlv i hi];exact hpt.hin i _ hi (by have:=(zbe hc hi).1;omega)
 ·rw[zec,List.all_eq_true];intro y hy;rw[Zd]at hy;obtain⟨p,hp,rfl⟩:=List.mem_map.1 hy;rw[hex p (List.mem_range.1 hp),decide_eq_true_eq];exact zhj fun i _=>by split<;>omega
theorem zCD{n:Nat}{l:List Int}(h:LstOk n l):okp n l=true:=by
 have h1:=h.n1;have e1:(!(l.length==0))=true:=by simp;intro e;rw[e]at h1;simp at h1
 have e2:asc l=true:=zyC l fun i hi=>h.asc i (i+1) (by omega) hi
 have e3:qG l 0 ((n:Int)-1)=true:=by
  rw[qG,List.all_eq_true];intro x hx;obtain⟨i,hi,rfl⟩:=List.mem_iff_getElem.1 hx;have:=h.inn i hi;rw[gAt hi];simp only[yi,Bool.and_eq_true,decide_eq_true_eq];omega
 rw[okp,e2];simp only[Bool.and_true,Bool.and_eq_true];exact⟨e1,e3⟩
theorem zyq{bs ms:List (List Int)}(hc:CvP bs ms){a b:List Int}(ha:InL bs.length a)(hb:InL bs.length b)(hbl:b.length<=6):∀i,i<=a.length->∀t,t<=b.length->
 0<=sg (fun u=>qD bs ms (a.getD i 0).toNat (b.getD u 0).toNat) (if i<a.length then t else 0)/\sg (fun u=>qD bs ms (a.getD i 0).toNat (b.getD u 0).toNat) (if i<a.length then t else 0)<=4915200:=by
 intro i hi t ht;split
 ·rename_i h
  have key:∀u,u<t->0<=qD bs ms (a.getD i 0).toNat (b.getD u 0).toNat/\qD bs ms (a.getD i 0).toNat (b.getD u 0).toNat<=819200:=fun u hu=>by
   have h1:=ha i h;have h2:=hb u (by omega);exact zlr hc (by omega) (by omega)
  have h3:=zmt (n:=t) fun u hu=>(key u hu).2;refine⟨zhj fun u hu=>(key u hu).1,by omega⟩
 ·simp[sg]
theorem zAd(bs ms:List (List Int)):∃(P S Q lv ln:List Int) (w1 w2 w3:Int),ze1 (BB false bs) (II false ms)=(I P,I S,I Q,w1)/\zeZ (BB false bs) (II false ms)=(I lv,w2)/\ze0 (BB false bs) (II false ms)=(I ln,w3)/\
 P.length<=24/\S.length<=24/\Q.length<=24/\lv.length<=6/\ln.length<=6/\(w3=0->CvP bs ms)/\
 (CvP bs ms->w1=0->ClP P S Q/\jI Q=QS bs ms bs.length/\1<=Q.length/\Q.getD 0 0=JZ bs bs.length/\lv.length=bs.length/\(∀i,i<bs.length->0<=lv.getD i 0/\lv.getD i 0<P.length)/\
  (∀p,p<P.length->exL P S Q p=sg (fun i=>if lv.getD i 0=p then 1 else 0) bs.length)/\zec P S Q=true):=by
 by_cases hc:CvP bs ms
 ·have hi:qA (BB false bs) (II false ms)=true:=by rw[qA,yK,yq];exact zbf.2 hc
  have hl:ze0 (BB false bs) (II false ms)=(I (Qj bs ms bs.length),0):=by rw[ze0,hi,Jw,yK,yq,jj];rfl
  have hl6:(Qj bs ms bs.length).length<=6:=by rw[Qj,yo];exact hc.n6
  cases hb:KH bs ms with
  |true=>
   refine⟨[],[],[],[],Qj bs ms bs.length,3,3,0,?_,?_,hl,by simp,by simp,by simp,by simp,hl6,fun _=>hc,fun _ h=>by omega⟩
   ·rw[ze1,hi,yK,yq,hb];rfl
   ·rw[zeZ,hi,yK,yq,hb];rfl
  |false=>
   have h24:(yz bs ms bs.length).1.P.length<=24:=by
    have h1:=zuJ (bs:=bs) (ms:=ms);rw[hb]at h1;have h2:=Bool.or_eq_false_iff.1 h1.symm;simpa using h2.2
   have hF:=zAb hc h24;refine⟨(yz bs ms bs.length).1.P,(yz bs ms bs.length).1.S,(yz bs ms bs.length).1.Q,ul (yz bs ms bs.length).2,Qj bs ms bs.length,0,0,0,?_,?_,hl,h24,?_,?_,?_,hl6,fun _=>hc,fun _ _=>hF⟩
   ·rw[ze1,hi,yK,yq,hb,jj];rfl
   ·rw[zeZ,hi,yK,yq,hb,jj];rfl
   ·have:=hF.1.sl;omega
   ·have:=hF.1.ql;omega
   ·have:=hF.2.2.2.2.1;have:=hc.n6;omega
 ·have hi:qA (BB false bs) (II false ms)=false:=by rw[qA,yK,yq];exact zf3 hc
  refine⟨[],[],[],[],[],1,1,1,?_,?_,?_,by simp,by simp,by simp,by simp,by simp,fun h=>by omega,fun h=>absurd h hc⟩
  ·rw[ze1,hi];rfl
  ·rw[zeZ,hi];rfl
  ·rw[ze0,hi];rfl
def za5(lv:List Int)(n k:Nat):List Int:=yI (fun p=>sg (fun i=>if lv.getD i 0=(p:Int)then 1 else 0) k) n
theorem zep(lv:List Int)(n k:Nat):(za5 lv n k).length=n:=yo _ _
theorem zk3{lv:List Int}{n k p:Nat}(h:p<n):(za5 lv n k).getD p 0=sg (fun i=>if lv.getD i 0=(p:Int)then 1 else 0) k:=jx _ _ _ _ h
theorem zxs(lv:List Int)(n:Nat):za5 lv n 0=List.replicate n 0:=by
 rw[za5,yI];simp only[sg]
 induction n with
 |zero=>rfl
 |succ n ih=>rw[List.range_succ,List.map_append,ih,List.replicate_succ'];rfl
theorem zyY{lv:List Int}{n k:Nat}(h0:0<=lv.getD k 0)(h1:lv.getD k 0<n):(za5 lv n k).set (lv.getD k 0).toNat ((za5 lv n k).getD (lv.getD k 0).toNat 0+1)=za5 lv n (k+1):=by
 rw[zk3 (by omega),za5,zq9 _ _ (by omega),za5];refine jd fun p hp=>?_;rw[sg]
 by_cases e:p=(lv.getD k 0).toNat
 ·rw[if_pos e,if_pos (by omega),<-e]
 ·rw[if_neg e,if_neg (by omega)];omega
theorem zA9(lv:List Int){n k p:Nat}(hk:k<=6):0<=(za5 lv n k).getD p 0/\(za5 lv n k).getD p 0<=6:=by
 by_cases hp:p<n
 ·rw[zk3 hp];have h1:=zhj (f:=fun i=>if lv.getD i 0=(p:Int)then(1:Int)else 0) (n:=k) fun i _=>by split<;>omega
  have h2:=zmt (f:=fun i=>if lv.getD i 0=(p:Int)then(1:Int)else 0) (b:=1) (n:=k) fun i _=>by split<;>omega
  omega
 ·rw[zd,zD (by rw[zep];omega)];simp
theorem zmB:yJ Tryz.prog 3 (znq zDL zwz):=by
 intro args ps r h hp;unfold znq at h;split at h
 ·rename_i a0;simp only[za,zb]at h;obtain⟨rfl,rfl⟩:=h;have hq:zwz a0:=(zm.1 hp).1
  have hfr:V.frzs a0=a0:=by
   obtain⟨xs,hxs,_⟩:=hq;rw[hxs,zvC]
  obtain⟨bs,hbs⟩:∃z,z=(ze4 a0).1:=⟨_,rfl⟩;obtain⟨ms,hms⟩:∃z,z=(ze4 a0).2:=⟨_,rfl⟩;obtain⟨vb,hvb⟩:∃vb,vb=BB false bs:=⟨_,rfl⟩;obtain⟨vm,hvm⟩:∃vm,vm=II false ms:=⟨_,rfl⟩;have hdcc:zeb a0=(vb,vm):=by rw[zeb,hvb,hvm,hbs,hms]
  obtain⟨P,S,Q,lvL,lnL,w1,w2,w3,hcc,hlv,hlo,hPl,hSl,hQl,hvl6,hnl6,hcv0,hF0⟩:=zAd bs ms;rw[<-hvb,<-hvm]at hcc hlv hlo;obtain⟨cp,hcp⟩:∃z,z=I P:=⟨_,rfl⟩;obtain⟨cs,hcs⟩:∃z,z=I S:=⟨_,rfl⟩;obtain⟨cq,hcq⟩:∃z,z=I Q:=⟨_,rfl⟩;obtain⟨lv,hlvL⟩:∃z,z=I lvL:=⟨_,rfl⟩;obtain⟨ln,hlnL⟩:∃z,z=I lnL:=⟨_,rfl⟩;rw[<-hcp,<-hcs,<-hcq]at hcc;rw[<-hlvL]at hlv;rw[<-hlnL]at hlo;have fb:V.frzs vb=vb:=by rw[hvb,uf]
  have fm:V.frzs vm=vm:=by rw[hvm,ke]
  have fp:V.frzs cp=cp:=by rw[hcp,zA]
  have fs:V.frzs cs=cs:=by rw[hcs,zA]
  have fq:V.frzs cq=cq:=by rw[hcq,zA]
  have flv:V.frzs lv=lv:=by rw[hlvL,zA]
  have fln:V.frzs ln=ln:=by rw[hlnL,zA]
  have lkv:∀v,zaU v v=true:=fun v=>by rw[zaU];simp
  have lkq:∀l:List Int,l.length<=24->zdf (I l) (I l):=fun l hl=>⟨⟨_,rfl⟩,⟨_,rfl⟩,by rw[zj];omega⟩;obtain⟨r,hr0⟩:∃r:Int,r=vb.length:=⟨_,rfl⟩;generalize zpx:zj1=zv3;generalize zo6:zAM=zvM;generalize zpm:zeb=zvW;generalize zh3:IsU=zq1;generalize ztL:ze1=zt6;generalize qn:uu=jM;generalize ztF:zeZ=zt1;generalize ztG:ze0=zt2;generalize zph:zqR=zvT;generalize zoX:zwt=zvJ;generalize zbo:zaU=zh8;generalize Kh:zdf=zcT;generalize yn:qA=ji;generalize ztI:zsz=zyP;generalize zjB:zlJ=znO;generalize ztK:zsD=zyQ;generalize ztO:zsG=zt9;generalize jV:Qc=ZZ;generalize ztM:zsE=zt7;generalize ztN:zsF=zt8;generalize zqo:zox=zqr;generalize zlW:zxF=ztT;generalize yR:jo=jJ;generalize yN:jK=jD;generalize yM:jU=jC;generalize qU:zeF=uH;generalize znJ:zlI=ztZ;generalize znI:zwB=ztV;generalize ztH:zow=zyO;generalize zo7:zAN=zvN;refine zI (T:=tab) (B:=[(5,znq zv3 zvM),(6,zw9 zvW zq1),(7,ztj zt6 jM),(8,ztk zt6 jM),(9,zca zt1 jM),(10,zti zt1 jM),(11,zca zt2 jM),(12,zca zt2 jM),(13,zoN zvT zvJ),(14,KW zh8 zcT),(15,Yq ji jM),(16,Yq ji jM),(17,zcb zyP jM),(18,zcb znO jM),(19,zcb zyQ jM),(20,zoM zt9 ZZ),(21,ztd zt7 ZZ),(22,zoL zt8 ZZ),(23,zsZ zqr ztT),(25,zoO ztZ ztV),(26,zlO zyO zvN)]) (Bi:=[(24,0,false,zw0 jJ jD jC uH)]) [0,2,3,4,5,6,7,8,9,10,11,12,13,14,15,16,17,18,19,20,21,22,23,24,25,26,27,28,29,30,31,32,33,34,35,36,37,38,39,40,41,42,43,44,45,46,47] Tryz.func3 rfl rfl (by kernel_rfl) (ze rfl) mixed zR (by subst zpx zo6 zpm zh3 ztL qn ztF ztG zph zoX zbo Kh yn ztI zjB ztK ztO jV ztM ztN zqo zlW yR yN yM qU znJ znI ztH zo7;exact(zn zwh (zn zfC (zn zit (zn zim (zn zhp (zn zhn (zn zlj (zn zlh (zn zin (zn zfM (zn uv (zn zn4 (zn zkr (zn ziF (zn zeC (zn zgN (zn zis (zn zkq (zn zuk (zn ziE (zn zd0 zB)))))))))))))))))))))) (by subst zpx zo6 zpm zh3 ztL qn ztF ztG zph zoX zbo Kh yn ztI zjB ztK ztO jV ztM ztN zqo zlW yR yN yM qU znJ znI ztH zo7;exact(jg zrn zy)) (by kernel_rfl) ?_;intro L lp rr hL hr hf hlp;have E0:zv3 a0=zj1 a0:=by rw[<-zpx]
  have E1:zvW a0=(vb,vm):=by rw[<-zpm,hdcc]
  have E2:zt6 vb vm=(cp,cs,cq,w1):=by rw[<-ztL,hcc]
  have E3:zt1 vb vm=(lv,w2):=by rw[<-ztF,hlv]
  have E4:zt2 vb vm=(ln,w3):=by rw[<-ztG,hlo]
  have E5:zvT cp cs cq cp cs cq=true:=by rw[<-zph,zqR,lkv,lkv,lkv];rfl
  have E6:∀v,zh8 v v=true:=fun v=>by rw[<-zbo,lkv]
  have Qi:zvM a0:=by rw[<-zo6];trivial
  have yes:rr=.bool true:=hr;refine zdU L tab lp _ _ _ _ _ 11 _ _ fun K1 hK1=>?_
  conv=>cbv
  simp only[zo hL,sQ,hfr,E0,E1,E2,E3,E4,E5,E6,fb,fm,fp,fs,fq,flv,fln,not_true,false_or,or_false,zan,true_imp_iff,false_imp_iff];refine⟨Qi,fun _=>yes.symm,fun h1=>?_⟩;have hu:=zCY hq h1;obtain⟨dq,d1,d2,d3,d4⟩:=zCT hu;rw[hdcc]at dq;simp only at dq;have QU:zq1 a0:=by rw[<-zh3];exact hu
  have QC:jM vb vm:=by rw[<-qn];exact dq
  have Q5:zvJ cp cs cq cp cs cq:=by rw[<-zoX,hcp,hcs,hcq];exact⟨lkq P hPl,lkq S hSl,lkq Q hQl⟩
  have Qv:zcT lv lv:=by rw[<-Kh,hlvL];exact lkq _ (by omega)
  have Qn:zcT ln ln:=by rw[<-Kh,hlnL];exact lkq _ (by omega)
  simp only[QU,QC,Q5,Qv,Qn,true_and,and_true,true_imp_iff];refine⟨fun _=>yes.symm,fun hw3=>?_⟩;have hcv:=hcv0 hw3;have hi:zwX bs ms=true:=zbf.2 hcv;have his:qA vb vm=true:=by rw[qA,hvb,hvm,yK,yq];exact hi
  have hbl:vb.length=bs.length:=by rw[hvb,jj]
  have h6:=hcv.n6;have h1n:=hcv.n1;obtain⟨M1,M2,M3,M4⟩:=zxU hcv;obtain⟨dl,hdl⟩:∃z,z=QS bs ms bs.length:=⟨_,rfl⟩;obtain⟨mB,hmB⟩:∃z,z=JZ bs bs.length:=⟨_,rfl⟩;obtain⟨mu,hmu⟩:∃z,z=2*dl-r+1:=⟨_,rfl⟩;rw[<-hdl]at M1 M2 M3 M4;have hcd:zgs vb vm=dl:=by rw[zgs,hbl,hvb,hvm,yK,yq,M4]
  have E7:zyP vb vm=(dl,0):=by rw[<-ztI,zsz,his,hcd];rfl
  have E8:znO vb vm=(mu,0):=by
   rw[<-zjB,zlJ,his,znf,hcd,hbl,hmu,hr0,hbl,<-M1,M4];rfl
  have E9:zyQ vb vm=(mB,0):=by rw[<-ztK,zsD,his,zgW,hbl,hvb,yK,hmB];rfl
  have w1':IntKind.wrap .i64 (IntKind.wrap .i64 (IntKind.wrap .i64 (2*dl)-r)+1)=mu:=by
   rw[zl (n:=2*dl) (by omega) (by omega),zl (n:=2*dl-r) (by omega) (by omega),zl (by omega) (by omega),hmu]
  rw[hK1];clear hK1;refine zdU L tab lp _ _ _ _ _ 5 _ _ fun K2 hK2=>?_
  conv=>cbv
  simp only[zo hL,sQ,fb,fm,E7,E8,E9,<-hr0,w1',QC,not_true,false_or,or_false,true_and,and_true,true_imp_iff,false_imp_iff];rw[hK2];clear hK2;refine zdU L tab lp _ _ _ _ _ 1 _ _ fun K3 hK3=>?_
  have hcll:w1=0->∃exL0:List Int,zt9 cp cs cq=(dl,0)/\zt7 cp cs cq=(true,0)/\zt8 cp cs cq=(I exL0,0)/\exL0.length=P.length/\(∀p,p<P.length->exL0.getD p 0=sg (fun i=>if lvL.getD i 0=p then 1 else 0) bs.length):=fun hw=>by
   obtain⟨g1,g2,g3,g4,g5,g6,g7,g8⟩:=hF0 hcv hw;have hic:qH cp cs cq=true:=(by rw[qH,hcp,hcs,hcq,zr,zr,zr];exact KO.2 g1);refine⟨Zd P S Q,?_,?_,?_,yo _ _,fun p hp=>by rw[Zd,jx _ _ _ _ hp];exact g7 p hp⟩
   ·rw[<-ztO,zsG,hic,KT,hcq,zr,g2,hdl];rfl
   ·rw[<-ztM,zsE,hic,YR,hcp,hcs,hcq,zr,zr,zr,g8];rfl
   ·rw[<-ztN,zsF,hic,zb5,hcp,hcs,hcq,zr,zr,zr,zj];rfl
  have QK:ZZ cp cs cq:=by rw[<-jV,hcp,hcs,hcq];exact⟨⟨_,rfl⟩,⟨_,rfl⟩,⟨_,rfl⟩⟩
  obtain⟨exL0,hex⟩:∃exL0:List Int,w1=0->zt9 cp cs cq=(dl,0)/\zt7 cp cs cq=(true,0)/\zt8 cp cs cq=(I exL0,0)/\exL0.length=P.length/\(∀p,p<P.length->exL0.getD p 0=sg (fun i=>if lvL.getD i 0=p then 1 else 0) bs.length):=by
   by_cases hw:w1=0
   ·obtain⟨z,hz⟩:=hcll hw;exact⟨z,fun _=>hz⟩
   ·exact⟨[],fun h=>absurd h hw⟩
  obtain⟨ex,hexv⟩:∃z,z=I exL0:=⟨_,rfl⟩;have fex:V.frzs ex=ex:=by rw[hexv,zA]
  obtain⟨nq,hnq⟩:∃z:Int,z=cq.length:=⟨_,rfl⟩;obtain⟨nl,hnl⟩:∃z:Int,z=lv.length:=⟨_,rfl⟩;obtain⟨ne,hne⟩:∃z:Int,z=ex.length:=⟨_,rfl⟩;have gq:∀i,cq.getD i (.int .i64 0)=.int .i64 (Q.getD i 0):=fun i=>by rw[hcq,zE]
  have glv:∀i,lv.getD i (.int .i64 0)=.int .i64 (lvL.getD i 0):=fun i=>by rw[hlvL,zE]
  conv=>cbv
  simp only[zo hL,sQ,fp,fs,fq,fb,fm,QK,true_and,and_true,true_imp_iff];refine⟨fun hw=>?kc,fun hw=>?kd⟩
  case' kc=>
   obtain⟨D1,D2,D3,D4,D5⟩:=hex hw;rw[<-hexv]at D3;obtain⟨g1,g2,g3,g4,g5,g6,g7,g8⟩:=hF0 hcv hw;have c1:Q.getD 0 0=mB:=(by rw[hmB,g4]);have c2:nl=r:=(by rw[hnl,hr0,hbl,hlvL,zj,g5]);have c3:1<=nq:=(by rw[hnq,hcq,zj];omega);have c4:ne=P.length:=(by rw[hne,hexv,zj,D4]);simp only[zo hL,sQ,D1,D2,D3,fex,gq,glv,c1,c2,<-hnq,<-hnl,<-hne,not_true,not_false_iff,false_or,or_false,true_and,and_true,true_imp_iff,false_imp_iff,Bool.false_eq_true,zan];refine⟨by rw[hexv];exact zel _,?_⟩;refine⟨fun _=>ue _,fun _=>by omega,fun _=>by omega,fun _=>trivial,fun h=>absurd h (by omega),fun _=>⟨by omega,ue _,by omega,?_⟩⟩;obtain⟨z0,hz0⟩:∃z0:List V,z0=List.replicate ne.toNat (V.int IntKind.i64 0):=⟨_,rfl⟩;rw[<-hz0]
   refine hlp (List V×Int) _ _ _ [0,3,8,16,19,27,29,30] (fun x=>[(0,none,.val (.slc false 5 (.int .u8 0) a0)),(3,none,.val (.box 27 (.agg [.slc false 57 (.agg [.slc false 2 (.int .i64 0) []]) vb,.slc false 29 (.slc false 2 (.int .i64 0) []) vm]))),(8,none,.val (.slc true 2 (.int .i64 0) lv)),(16,none,.val (.int .i64 r)),(19,none,.val (.int .i64 mu)),(27,none,.val (.slc true 2 (.int .i64 0) ex)),(29,none,.val (.slc true 2 (.int .i64 0) x.1)),(30,none,.val (.int .i64 x.2))])
    (fun x=>0<=x.2/\x.2<=r/\x.1=I (za5 lvL P.length x.2.toNat)) (fun x=>(r-x.2).toNat) ((z0,0)) (by subst hL;rfl) ?_ ?_
   ·refine⟨by simp,by simp only;omega,?_⟩;simp only;rw[hz0,c4,Int.toNat_natCast,show(0:Int).toNat=0 from rfl,zxs];exact zc8 _ 0
   rintro⟨es,i⟩ ⟨i0,i1,hI⟩ hfx ag hag;simp only at i0 i1 hI;have hel:es.length=P.length:=(by rw[hI,zj,zep]);have ges:∀k,es.getD k (.int .i64 0)=.int .i64 ((za5 lvL P.length i.toNat).getD k 0):=fun k=>(by rw[hI,zE]);obtain⟨np,hnp⟩:∃np:Int,np=P.length:=⟨_,rfl⟩
   conv=>cbv
   simp only[zo hL,sQ,glv,ges,hel,<-hnl,c2,<-hnp];have lvl:lv.length=bs.length:=(by rw[hlvL,zj,g5]);refine⟨fun h2=>?kb,fun h2=>?_⟩
   case kb=>
    obtain⟨l0,l1⟩:=g6 i.toNat (by omega);have tin:=zA9 lvL (n:=P.length) (k:=i.toNat) (p:=(lvL.getD i.toNat 0).toNat) (by omega);refine⟨i0,h2,by omega,fun _=>i0,fun _=>h2,fun _=>by omega,fun _=>trivial,fun h=>by omega,fun _=>⟨i0,h2,by omega,by omega,by omega,by omega,by omega,by omega,by omega,?_⟩⟩;rw[zl (n:=(za5 lvL P.length i.toNat).getD (lvL.getD i.toNat 0).toNat 0+1) (by omega) (by omega),zl (n:=i+1) (by omega) (by omega)];refine hag (_,i+1) ⟨by simp only;omega,by simp only;omega,?_⟩ (by simp only;omega);simp only[zF i0];rw[hI,JB,zyY l0 l1]
   have hle:za5 lvL P.length i.toNat=exL0:=by
    rw[show i.toNat=bs.length by omega];refine List.ext_getElem (by rw[zep,D4]) fun p h3 h4=>?_;rw[zep]at h3;rw[gAt h4,gAt (by rw[zep];exact h3),zk3 h3,D5 p h3]
   have hfe:V.frzs es=ex:=(by rw[hI,hle,zA,hexv]);have Qe:zcT ex ex:=(by rw[<-Kh,hexv];exact lkq _ (by omega));simp only[hfe,fex,E6,zan,false_imp_iff,true_and,true_imp_iff];refine⟨Qe,?_⟩
  all_goals
   clear hcll hex hF0 E2 E3 E4 E5 E9;rw[hK3];clear hK3;refine zdU L tab lp _ _ _ _ _ 3 _ _ fun K4 hK4=>?_;have QR:ztT a0 914:=(by rw[<-zlW];exact hu);obtain⟨h0,hh0⟩:∃z,z=zqr a0 914:=⟨_,rfl⟩
   conv=>cbv
   simp only[zo hL,sQ,fb,fm,hfr,QR,<-hh0,true_and,true_imp_iff];refine⟨fun h3=>yes.symm,fun h3=>?_⟩;rw[hK4];clear hK4
   conv=>cbv
   refine hlp (List V×List V×Int×Int×Int) _ _ _ [3,16,19,31,32,33,34] (fun x=>[(3,none,.val (.box 27 (.agg [.slc false 57 (.agg [.slc false 2 (.int .i64 0) []]) vb,.slc false 29 (.slc false 2 (.int .i64 0) []) vm]))),(16,none,.val (.int .i64 r)),(19,none,.val (.int .i64 mu)),(31,none,.val (.box 86 (.agg [.slc false 5 (.int .u8 0) a0,.int .i64 x.2.2.1,.int .u64 x.2.2.2.1]))),(32,none,.val (.slc true 2 (.int .i64 0) x.1)),(33,none,.val (.slc true 2 (.int .i64 0) x.2.1)),(34,none,.val (.int .i64 x.2.2.2.2))])
    (fun x=>0<=x.2.2.2.2/\x.2.2.2.2<=r/\yh a0 x.2.2.1 x.2.2.2.1/\∃a b,x.1=I a/\x.2.1=I b/\SpOk bs ms x.2.2.2.2.toNat a b/\(0<x.2.2.2.2->1<=a.length)/\(x.2.2.2.2=r->1<=b.length)) (fun x=>(r-x.2.2.2.2).toNat) (([],[],0,h0,0)) (by subst hL;rfl) ?_ ?_
   ·exact⟨by simp,by simp only;omega,⟨hu,ue _,kP _⟩,[],[],rfl,rfl,SpOk.start bs ms,fun h=>absurd h (Int.lt_irrefl 0),fun h=>by simp only at h;omega⟩
   rintro⟨la,lb,A,H,i⟩ ⟨i0,i1,hs,a,b,ha,hb,hsp,hpa,hpb⟩ hfx ag hag;simp only at i0 i1 hs ha hb hsp hpa hpb;have hal:la.length=a.length:=(by rw[ha,zj]);have hbl2:lb.length=b.length:=by rw[hb,zj]
   conv=>cbv
   have wr:IntKind.wrap .i64 (r-1)=r-1:=zl (by omega) (by omega);have hsl:=hsp.len;have hii:((i.toNat:Nat):Int)=i:=(by omega);have hab:InL bs.length a/\InL bs.length b/\a.length+b.length<=bs.length:=⟨fun k hk=>by have:=hsp.ina k hk;omega,fun k hk=>by have:=hsp.inb k hk;omega,by omega⟩
   have Es:∀A' H',yh a0 A' H'->i<r->(i=0\/i<r-1)->ag _:=fun A' H' hs' h2 h3=>hag (la++[.int .i64 i],lb,A',H',i+1) ⟨by simp only;omega,by simp only;omega,hs',a++[i],b,by simp only;rw[ha];simp[I],hb,by
    have h4:=hsp.left;rw[hii]at h4;simp only[zF i0]
    exact h4,fun _=>by simp,fun h=>by simp only at h;omega⟩ (by simp only;omega)
   have Er:∀A' H',yh a0 A' H'->i<r->¬i=0->ag _:=fun A' H' hs' h2 h3=>hag (la,lb++[.int .i64 i],A',H',i+1) ⟨by simp only;omega,by simp only;omega,hs',a,b++[i],ha,by simp only;rw[hb];simp[I],by
    have h4:=hsp.right hcv (by omega);rw[hii]at h4;simp only[zF i0]
    exact h4,fun _=>hpa (by omega),fun _=>by simp⟩ (by simp only;omega)
   have Qs:uH a0 A H 2:=(by rw[<-qU];exact hs);have hsn:yh a0 (jD a0 A H 2) (jC a0 A H 2):=(by rw[<-yN,<-yM];exact uo hs);have fla:V.frzs la=la:=(by rw[ha,zA]);have flb:V.frzs lb=lb:=(by rw[hb,zA]);have wi:i<r->IntKind.wrap .i64 (i+1)=i+1:=fun h=>zl (by omega) (by omega);simp only[zo hL,sQ,hal,hbl2,wr,fla,flb,fb,fm];refine⟨fun h2=>?kr,fun h2=>?_⟩
   case kr=>
    rw[wi h2]
    refine⟨fun h4=>⟨h4,Qs,fun x y=>⟨x,y⟩,fun h5=>⟨rfl,by simp only[zi,zp];omega,jT rfl,Es _ _ hsn h2 (by omega)⟩,fun h5=>⟨rfl,by simp only[zi,zp];omega,jT rfl,Er _ _ hsn h2 h5.1⟩⟩,
     fun h4=>⟨fun x y=>⟨x,y⟩,fun h5=>⟨rfl,by simp only[zi,zp];omega,jT rfl,Es _ _ hs h2 (by omega)⟩,fun h5=>⟨rfl,by simp only[zi,zp];omega,jT rfl,Er _ _ hs h2 h5.1⟩⟩⟩
   have hir:i.toNat=bs.length:=(by omega);rw[hir]at hsp;have okA:LstOk bs.length a:=⟨hpa (by omega),hsp.ina,hsp.asca⟩;have okB:LstOk bs.length b:=⟨hpb (by omega),hsp.inb,hsp.ascb⟩;have q6:uu vb vm:=dq;have qcl:∀l:List Int,LstOk bs.length l->zwB vb vm (I l):=fun l hl=>⟨q6,⟨l,rfl⟩,by rw[zj];have:=hl.len;omega⟩
   have epc:∀l:List Int,LstOk bs.length l->zlI vb vm (I l)=(BB true (uZ bs l),II true (ZQ ms l),0):=fun l hl=>by
    rw[zlI,his,zr,hbl,zCD hl,zeY,hvb,hvm,yK,yq,zr];rfl
   have eem:∀l:List Int,LstOk bs.length l->zlJ (BB false (uZ bs l)) (II false (ZQ ms l))=(2*dlt bs ms l-l.length+1,0)/\0<=dlt bs ms l/\dlt bs ms l<=6000000000:=fun l hl=>by
    have hcp:=hl.cv hcv;obtain⟨x1,x2,x3,_⟩:=zxU hcp;rw[Zu,zz1]at x1 x2 x3;refine⟨?_,x2,x3⟩;have hc1:qA (BB false (uZ bs l)) (II false (ZQ ms l))=true:=(by rw[qA,yK,yq];exact zbf.2 hcp);rw[zlJ,hc1,znf,zgs,yK,yq,jj,Zu,<-x1];rfl
   have eqc:∀l:List Int,LstOk bs.length l->uu (BB false (uZ bs l)) (II false (ZQ ms l)):=fun l hl=>by
    have hlen:=hl.len;refine⟨⟨_,rfl,by rw[Zu];omega,fun xs hx=>?_⟩,⟨_,rfl,by rw[ZQ,zQ];omega,fun xs hx=>?_⟩⟩
    ·obtain⟨j,_,rfl⟩:=List.mem_map.1 hx;by_cases hj:j.toNat<bs.length
     ·have:=(jL (hcv.br j.toNat hj)).len;omega
     ·rw[zd,zD (by omega)];simp
    ·rw[zwH hx];omega
   obtain⟨dA,hdA⟩:∃z,z=dlt bs ms a:=⟨_,rfl⟩;obtain⟨dB,hdB⟩:∃z,z=dlt bs ms b:=⟨_,rfl⟩;obtain⟨a1,a2,a3⟩:=eem a okA;obtain⟨b1,b2,b3⟩:=eem b okB;rw[<-hdA]at a1 a2 a3;rw[<-hdB]at b1 b2 b3;have P1:ztZ vb vm la=(BB true (uZ bs a),II true (ZQ ms a),0):=(by rw[<-znJ,ha,epc a okA]);have P2:ztZ vb vm lb=(BB true (uZ bs b),II true (ZQ ms b),0):=(by rw[<-znJ,hb,epc b okB]);obtain⟨xa,hxa⟩:∃z:Int,z=2*dA-a.length+1:=⟨_,rfl⟩;obtain⟨xb,hxb⟩:∃z:Int,z=2*dB-b.length+1:=⟨_,rfl⟩;have P3:znO (BB false (uZ bs a)) (II false (ZQ ms a))=(xa,0):=(by rw[<-zjB,a1,hxa]);have P4:znO (BB false (uZ bs b)) (II false (ZQ ms b))=(xb,0):=(by rw[<-zjB,b1,hxb]);have Q1:ztV vb vm la:=(by rw[<-znI,ha];exact qcl a okA);have Q2:ztV vb vm lb:=(by rw[<-znI,hb];exact qcl b okB);have Q3:jM (BB false (uZ bs a)) (II false (ZQ ms a)):=(by rw[<-qn];exact eqc a okA);have Q4:jM (BB false (uZ bs b)) (II false (ZQ ms b)):=(by rw[<-qn];exact eqc b okB);simp only[P1,P2,uf,ke,P3,P4,Q1,Q2,Q3,Q4,zAD,zty,true_and,and_true,not_true,false_or,or_false,true_imp_iff,false_imp_iff];obtain⟨na,hna⟩:∃z:Int,z=la.length:=⟨_,rfl⟩;obtain⟨nb,hnb⟩:∃z:Int,z=lb.length:=⟨_,rfl⟩;have wx:IntKind.wrap .i64 (xa+xb)=xa+xb:=zl (by omega) (by omega);have wx2:IntKind.wrap .i64 (xa+xb-1)=xa+xb-1:=zl (by omega) (by omega);rw[wx,wx2]
   have hcr:∀u,u<=a.length->0<=sg (fun u=>sg (fun v=>qD bs ms (a.getD u 0).toNat (b.getD v 0).toNat) b.length) u/\sg (fun u=>sg (fun v=>qD bs ms (a.getD u 0).toNat (b.getD v 0).toNat) b.length) u<=4915200*u:=fun u hu=>by
    have key:∀u,u<a.length->0<=sg (fun v=>qD bs ms (a.getD u 0).toNat (b.getD v 0).toNat) b.length/\sg (fun v=>qD bs ms (a.getD u 0).toNat (b.getD v 0).toNat) b.length<=4915200:=fun u hu=>by
     have:=zyq hcv hab.1 hab.2.1 (by omega) u (by omega) b.length (zt _)
     rwa [if_pos hu]at this
    exact⟨zhj fun t ht=>(key t (by omega)).1,zmt fun t ht=>(key t (by omega)).2⟩
   clear P1 P2 P3 P4 Q1 Q2 Q3 Q4 eem epc eqc qcl a1 b1 Es Er Qs hsn wi wr q6 M1 hmB hPl hSl hQl hvl6 hnl6 hcv0 flv fln fp fs fq lkv lkq E0 E1 E6 E7 E8 QR hh0 d1 d2 d3 d4 Q5 Qv Qn fex hexv gq glv hnq hnl hne QK w1' hcp hcs hcq hcc hlv hlo hlvL hlnL hfr okA okB wx wx2 hag hfx hs
   refine hlp (Int×Int) _ _ _ [3,19,32,33,43,44] (fun x=>[(3,none,.val (.box 27 (.agg [.slc false 57 (.agg [.slc false 2 (.int .i64 0) []]) vb,.slc false 29 (.slc false 2 (.int .i64 0) []) vm]))),(19,none,.val (.int .i64 mu)),(32,none,.val (.slc true 2 (.int .i64 0) la)),(33,none,.val (.slc true 2 (.int .i64 0) lb)),(43,none,.val (.int .i64 x.1)),(44,none,.val (.int .i64 x.2))])
    (fun x=>0<=x.2/\x.2<=na/\x.1=xa+xb-1+2*sg (fun u=>sg (fun v=>qD bs ms (a.getD u 0).toNat (b.getD v 0).toNat) b.length) x.2.toNat) (fun x=>(na-x.2).toNat) ((xa+xb-1,0)) (by subst hL;rfl) ?_ ?_
   ·exact⟨by simp,by simp only;omega,by simp[sg]⟩
   rintro⟨t,u⟩ ⟨u0,u1,hT⟩ hfx3 ag3 hag3;simp only at u0 u1 hT;have gla:∀k,la.getD k (.int .i64 0)=.int .i64 (a.getD k 0):=fun k=>(by rw[ha,zE]);have glb:∀k,lb.getD k (.int .i64 0)=.int .i64 (b.getD k 0):=fun k=>by rw[hb,zE]
   conv=>cbv
   simp only[zo hL,sQ,<-hna];refine⟨fun h2=>?kv,fun h2=>?_⟩
   case kv=>
    refine hlp (Int×Int) _ _ _ [3,19,32,33,43,44,45] (fun x=>[(3,none,.val (.box 27 (.agg [.slc false 57 (.agg [.slc false 2 (.int .i64 0) []]) vb,.slc false 29 (.slc false 2 (.int .i64 0) []) vm]))),(19,none,.val (.int .i64 mu)),(32,none,.val (.slc true 2 (.int .i64 0) la)),(33,none,.val (.slc true 2 (.int .i64 0) lb)),(43,none,.val (.int .i64 x.1)),(44,none,.val (.int .i64 u)),(45,none,.val (.int .i64 x.2))])
     (fun x=>0<=x.2/\x.2<=nb/\x.1=t+2*sg (fun v=>qD bs ms (a.getD u.toNat 0).toNat (b.getD v 0).toNat) x.2.toNat) (fun x=>(nb-x.2).toNat) ((t,0)) (by subst hL;rfl) ?_ ?_
    ·exact⟨by simp,by simp only;omega,by simp[sg]⟩
    rintro⟨w,v⟩ ⟨v0,v1,hV⟩ hfx4 ag4 hag4;simp only at v0 v1 hV
    conv=>cbv
    simp only[zo hL,sQ,<-hna,<-hnb,gla,glb,fb,fm];have hcu:=hcr u.toNat (by omega);refine⟨fun h5=>?_,fun h5=>?_⟩
    ·have x1:=hab.1 u.toNat (by omega);have x2:=hab.2.1 v.toNat (by omega);have x3:=hsp.disj (u:=u.toNat) (v:=v.toNat) (by omega) (by omega);obtain⟨p,hp⟩:∃p,p=a.getD u.toNat 0:=⟨_,rfl⟩;obtain⟨q,hqq⟩:∃q,q=b.getD v.toNat 0:=⟨_,rfl⟩;rw[<-hp,<-hqq]at x3;rw[<-hp]at x1;rw[<-hqq]at x2;have hm:=zlr hcv (i:=p.toNat) (k:=q.toNat) (by omega) (by omega)
     have hin:zyO vb vm p q=(qD bs ms p.toNat q.toNat,0):=by
      rw[<-ztH,zow,his,hbl,zhD.2 ⟨x1.1,x1.2⟩,zhD.2 ⟨x2.1,x2.2⟩,show(p==q)=false by rw[beq_eq_false_iff_ne];exact x3,zi3,hvb,hvm,yK,yq];rfl
     have Qin:zvN vb vm p q:=(by rw[<-zo7];exact dq);have hcv2:=zyq hcv hab.1 hab.2.1 (by omega) u.toNat (by omega) v.toNat (by omega);rw[if_pos (by omega)]at hcv2;simp only[<-hp,<-hqq,hin,Qin,true_and,not_true,false_imp_iff,true_imp_iff];rw[zl (n:=2*qD bs ms p.toNat q.toNat) (by omega) (by omega),zl (n:=w+2*qD bs ms p.toNat q.toNat) (by omega) (by omega),zl (n:=v+1) (by omega) (by omega)]
     (repeat' first|(exact yY _)|(exact jT rfl)|(exact qO _)|(apply And.intro)|(intro _))<;>(try first|exact True.intro|omega|rfl|(simp only[zi,zp,zj];omega))
     refine hag4 (_,v+1) ⟨by simp only;omega,by simp only;omega,?_⟩ (by simp only;omega);simp only[zF v0];rw[sg,hV,<-hp,<-hqq];omega
    ·rw[zl (n:=u+1) (by omega) (by omega)];refine hag3 (_,u+1) ⟨by simp only;omega,by simp only;omega,?_⟩ (by simp only;omega);simp only[zF u0];rw[sg,hV,hT,show v.toNat=b.length by omega];omega
   have hcrs:crs bs ms a b=sg (fun u=>sg (fun v=>qD bs ms (a.getD u 0).toNat (b.getD v 0).toNat) b.length) a.length:=rfl;have hdl2:=hsp.dl;rw[<-hdl,<-hdA,<-hdB,hcrs]at hdl2;rw[show u.toNat=a.length by omega]at hT;rw[yes];have:t=mu:=(by omega);rw[this];simp
 ·cases h
end Go.Ax
