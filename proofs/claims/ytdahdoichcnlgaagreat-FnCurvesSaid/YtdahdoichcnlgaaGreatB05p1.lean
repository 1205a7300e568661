import Derived.Test.YtdahdoichcnlgaaGreatB04p1
import Derived.Test.YtdahdoichcnlgaaGreatB02p1
import Derived.Test.YtdahdoichcnlgaaGreatB01p1
import Derived.Test.YtdahdoichcnlgaaGreatB03p1
set_option linter.all false
set_option maxRecDepth 100000
set_option maxHeartbeats 1000000
open Bool renaming and_eq_true->zh,eq_iff_iff->Ja,false_eq_true->yB
open Int renaming toNat_natCast->zW
open List renaming all_eq_true->yd,append_assoc->zZ,cons_append->zV,drop_eq_nil_of_le->kn,drop_of_length_le->km,ext_getElem?->yC,find?_range_eq_some->Zm,getD_cons_succ->yT,getD_cons_zero->qr,getD_eq_getElem?_getD->zd,getElem?_append_left->yj,getElem?_append_right->ye,getElem?_eq_getElem->zg,getElem?_eq_none->zD,getElem_mem->yE,idxOf_append->zdQ,idxOf_lt_length_iff->zad,length_append->zq,length_cons->zi,length_drop->yH,length_nil->zp,length_pos_iff->ZE,length_replicate->zS,length_singleton->qj,length_tail->YT,length_take->yb,map_append->uj,map_cons->yX,mem_append->qz,mem_cons->zC,mem_cons_of_mem->zx,mem_iff_getElem->qK,mem_map->jP,mem_range->ka,mem_singleton->ya,replicate_append_replicate->jc,replicate_succ->yw,sum_cons->Zy,take_of_length_le->zG,take_succ_cons->uD,take_succ_eq_append_getElem->zP
open Nat renaming add_comm->Yl,add_div_right->zaI,add_mod_right->zaH,add_sub_cancel->qB,div_eq_of_lt->zfj,dvd_refl->zfi,gcd_add_mul_right_right->JT,gcd_pos_of_pos_left->uy,gcd_self_add_right->Jo,le_of_ble_eq_true->ze,le_refl->zt,mod_eq_of_lt->ZJ,mul_comm->ua,mul_le_mul_right->yU,sub_self->kF,sub_zero->Zi
open Option.some renaming injEq->za
open Prod.mk renaming injEq->zb
/-
 Lengths and tangents of curves,distances. No conditions but those of the contracts.
-/
namespace Go.Ax
open Go.Proofs
theorem zp2:∀(l:List Int) (m x:Int),YX l (max m x)=max m (YX l x)
 |[],_,_=>rfl
 |y::l,m,x=>by
  simp only[YX];rw[show max (max m x) y=max m (max x y) by omega,zp2 l m (max x y)]
theorem zBu{l:List Int}(h:l≠[])(m:Int):YX l m=max m (zeO l):=by
 cases l with
 |nil=>exact absurd rfl h
 |cons y l=>simp only[YX,zeO];exact zp2 l m y
def Kz(bs ms:List (List Int))(i:Nat):Int:=max ((YG (bs.getD i [])).length:Int) (zeO (ms.getD i []))
def Qj(bs ms:List (List Int))(n:Nat):List Int:=yI (Kz bs ms) n
def zf5(f:List V->List V->List V)(q:List V->List V->Prop):zK:=fun
 |[.agg [.slc false 57 (.agg [.slc false 2 (.int .i64 0) []]) a0,.slc false 29 (.slc false 2 (.int .i64 0) []) a1]]=>some ([q a0 a1],.slc true 2 (.int .i64 0) (f a0 a1))
 |_=>none
def Jw(a b:List V):List V:=I (Qj (jq a) (qS b) a.length)
theorem zgL:yJ Tryz.prog 46 (zf5 Jw ZI):=by
 intro args ps r h hp;unfold zf5 at h;split at h
 ·rename_i a0 a1;simp only[za,zb]at h;obtain⟨rfl,rfl⟩:=h;obtain⟨⟨⟨bs,hbs,hb1,hb2⟩,⟨ms,hms,hm1,hm2⟩⟩,hcv⟩:=(zm.1 hp).1;rw[hbs,hms,yK,yq]at hcv;have g1:V.frzs a0=a0:=by rw[hbs,uf]
  have g2:V.frzs a1=a1:=by rw[hms,ke]
  have hbl:a0.length=bs.length:=by rw[hbs,jj]
  have hml:a1.length=ms.length:=by rw[hms,yf]
  have gb:∀k,a0.getD k (.agg [.slc false 2 (.int .i64 0) []])=.agg [.slc false 2 (.int .i64 0) (I (bs.getD k []))]:=fun k=>by rw[hbs,QA]
  have gm:∀k,a1.getD k (.slc false 2 (.int .i64 0) [])=.slc false 2 (.int .i64 0) (I (ms.getD k [])):=fun k=>by rw[hms,qM]
  have hm0:∀x y:Nat,(ms.getD x []).getD y 0=mm ms x y:=fun _ _=>rfl;obtain⟨n,hn⟩:∃n:Int,n=bs.length:=⟨_,rfl⟩;have n1:=hcv.n1;have n6:=hcv.n6;have hmn:ms.length=bs.length:=hcv.tab.len;have hbr:∀i,i<bs.length->Br (bs.getD i []):=fun i hi=>jL (hcv.br i hi);have rl:∀k,k<bs.length->(ms.getD k []).length=bs.length:=fun k hk=>(hcv.tab.row k hk).1;have mmr:∀i k,i<bs.length->k<bs.length->0<=mm ms i k/\mm ms i k<=200:=fun i k hi hk=>hcv.tab.range hi hk;have mmo:∀i k,i<bs.length->k<bs.length->i≠k->1<=mm ms i k/\mm ms i k<=200:=fun i k hi hk hne=>((hcv.tab.row i hi).2 k hk).2 hne;have hf0:Jw a0 a1=I (Qj bs ms bs.length):=by rw[Jw,hbl,hbs,hms,yK,yq]
  generalize JQ:zc3=zbD;generalize jQ:Yz=ZF;generalize zma:zi5=zt0;generalize zfq:zoe=znL;refine zI (T:=tab) (B:=[(71,zns zbD ZF),(86,zj4 zt0 znL)]) (Bi:=[]) [0,1,2,3,4,5,8,9,10] Tryz.func46 rfl rfl (by kernel_rfl) (ze rfl) mixed zR (by subst JQ jQ zma zfq;exact(zn zbR (zn zuj zB))) (by subst JQ jQ zma zfq;exact zy) (by kernel_rfl) ?_;intro L lp rr hL hr hf hlp;have esq:∀x,(zbD (I x)).length=(YG x).length:=fun x=>by rw[<-JQ,zc3,zr,zj]
  have qsq:∀x,Br x->ZF (I x):=fun x hx=>by rw[<-jQ];exact⟨_,rfl,hx⟩
  have emx:∀x,zt0 (I x)=zeO x:=fun x=>by rw[<-zma,zi5,zr]
  have qmx:∀x,1<=x.length->znL (I x):=fun x hx=>by
   rw[<-zfq];refine⟨⟨_,rfl⟩,fun h=>?_⟩;have:=congrArg List.length h;rw[zj]at this;simp at this;simp[this]at hx
  conv=>cbv
  refine hlp (List V×Int) _ _ _ [1,3,8,9,10] (fun x=>[(1,none,.val (.box 27 (.agg [.slc false 57 (.agg [.slc false 2 (.int .i64 0) []]) a0,.slc false 29 (.slc false 2 (.int .i64 0) []) a1]))),(3,none,.val (.slc true 2 (.int .i64 0) x.1)),(8,none,.val (.slc false 57 (.agg [.slc false 2 (.int .i64 0) []]) a0)),(9,none,.val (.int .i64 n)),(10,none,.val (.int .i64 x.2))])
   (fun x=>0<=x.2/\x.2<=n/\x.1=I (Qj bs ms x.2.toNat)) (fun x=>(n-x.2).toNat) (([],0)) (by subst hL;rw[hn,<-hbl];rfl) ?_ ?_
  ·exact⟨by simp,by simp only;omega,rfl⟩
  rintro⟨es,i⟩ ⟨i0,i1,hI⟩ hfx ag hag;simp only at i0 i1 hI
  conv=>cbv
  simp only[zo hL,sQ,hbl,gb,Qt,YM,YQ,gm,hml,esq,emx];refine⟨fun h2=>?_,fun h2=>?_⟩
  ·have hb:=hbr i.toNat (by omega);have hri:=rl i.toNat (by omega);have hel:es.length<=6:=(by rw[hI,zj,Qj,yo];omega);have hq1:=qsq _ hb;have hq2:=qmx (ms.getD i.toNat []) (by omega);rw[zl (n:=i+1) (by omega) (by omega)]
   (repeat' first|(exact yY _)|(exact jT rfl)|(exact qO _)|(apply And.intro)|(intro _))<;>(try first|exact True.intro|omega|rfl|(simp only[zi,zp,zj];omega))
   all_goals first|exact hq1|exact hq2|skip
   refine hag (_,i+1) ⟨by simp only;omega,by simp only;omega,?_⟩ (by simp only;omega);simp only[zF i0];rw[Qj,JX,hI,<-jY];rfl
  ·rw[hr,hf0,hI,show i.toNat=bs.length by omega]
 ·cases h
theorem zdL:yJ Tryz.prog 47 (zf5 Jw ZI):=by
 intro args ps r h hp;unfold zf5 at h;split at h
 ·rename_i a0 a1;simp only[za,zb]at h;obtain⟨rfl,rfl⟩:=h;obtain⟨⟨⟨bs,hbs,hb1,hb2⟩,⟨ms,hms,hm1,hm2⟩⟩,hcv⟩:=(zm.1 hp).1;rw[hbs,hms,yK,yq]at hcv;have g1:V.frzs a0=a0:=by rw[hbs,uf]
  have g2:V.frzs a1=a1:=by rw[hms,ke]
  have hbl:a0.length=bs.length:=by rw[hbs,jj]
  have hml:a1.length=ms.length:=by rw[hms,yf]
  have gb:∀k,a0.getD k (.agg [.slc false 2 (.int .i64 0) []])=.agg [.slc false 2 (.int .i64 0) (I (bs.getD k []))]:=fun k=>by rw[hbs,QA]
  have gm:∀k,a1.getD k (.slc false 2 (.int .i64 0) [])=.slc false 2 (.int .i64 0) (I (ms.getD k [])):=fun k=>by rw[hms,qM]
  have hm0:∀x y:Nat,(ms.getD x []).getD y 0=mm ms x y:=fun _ _=>rfl;obtain⟨n,hn⟩:∃n:Int,n=bs.length:=⟨_,rfl⟩;have n1:=hcv.n1;have n6:=hcv.n6;have hmn:ms.length=bs.length:=hcv.tab.len;have hbr:∀i,i<bs.length->Br (bs.getD i []):=fun i hi=>jL (hcv.br i hi);have rl:∀k,k<bs.length->(ms.getD k []).length=bs.length:=fun k hk=>(hcv.tab.row k hk).1;have mmr:∀i k,i<bs.length->k<bs.length->0<=mm ms i k/\mm ms i k<=200:=fun i k hi hk=>hcv.tab.range hi hk;have mmo:∀i k,i<bs.length->k<bs.length->i≠k->1<=mm ms i k/\mm ms i k<=200:=fun i k hi hk hne=>((hcv.tab.row i hi).2 k hk).2 hne;have hf0:Jw a0 a1=I (Qj bs ms bs.length):=by rw[Jw,hbl,hbs,hms,yK,yq]
  generalize zcS:zf1=zkl;generalize jQ:Yz=ZF;refine zI (T:=tab) (B:=[(87,zqY zkl ZF)]) (Bi:=[]) [0,1,2,3,4,5,6] Tryz.func47 rfl rfl (by kernel_rfl) (ze rfl) mixed zR (by subst zcS jQ;exact(zn zfJ zB)) (by subst zcS jQ;exact zy) (by kernel_rfl) ?_;intro L lp rr hL hr hf hlp;have ecn:∀x,zkl (I x)=(YG x).length:=fun x=>by rw[<-zcS,zf1,zr]
  have qsq:∀x,Br x->ZF (I x):=fun x hx=>by rw[<-jQ];exact⟨_,rfl,hx⟩
  conv=>cbv
  refine hlp (List V×Int) _ _ _ [1,3,4] (fun x=>[(1,none,.val (.box 27 (.agg [.slc false 57 (.agg [.slc false 2 (.int .i64 0) []]) a0,.slc false 29 (.slc false 2 (.int .i64 0) []) a1]))),(3,none,.val (.slc true 2 (.int .i64 0) x.1)),(4,none,.val (.int .i64 x.2))])
   (fun x=>0<=x.2/\x.2<=n/\x.1=I (Qj bs ms x.2.toNat)) (fun x=>(n-x.2).toNat) (([],0)) (by subst hL;rfl) ?_ ?_
  ·exact⟨by simp,by simp only;omega,rfl⟩
  rintro⟨es,i⟩ ⟨i0,i1,hI⟩ hfx ag hag;simp only at i0 i1 hI
  conv=>cbv
  simp only[zo hL,sQ,hbl,gb,Qt,YM,YQ,ecn,<-hn];refine⟨fun h2=>?_,fun h2=>?_⟩
  ·have hb:=hbr i.toNat (by omega);have hri:=rl i.toNat (by omega);have hel:es.length<=6:=(by rw[hI,zj,Qj,yo];omega);obtain⟨c0,hc0⟩:∃c0:Int,c0=(YG (bs.getD i.toNat [])).length:=⟨_,rfl⟩;rw[<-hc0];refine⟨i0,by omega,qsq _ hb,?_⟩;obtain⟨r,hR⟩:∃r,r=ms.getD i.toNat []:=⟨_,rfl⟩;rw[<-hR]at hri
   refine hlp (Int×Int) _ _ _ [1,3,4,5,6] (fun x=>[(1,none,.val (.box 27 (.agg [.slc false 57 (.agg [.slc false 2 (.int .i64 0) []]) a0,.slc false 29 (.slc false 2 (.int .i64 0) []) a1]))),(3,none,.val (.slc true 2 (.int .i64 0) es)),(4,none,.val (.int .i64 i)),(5,none,.val (.int .i64 x.1)),(6,none,.val (.int .i64 x.2))])
    (fun x=>0<=x.2/\x.2<=n/\YX r c0=YX (r.drop x.2.toNat) x.1) (fun x=>(n-x.2).toNat) ((c0,0)) (by subst hL;rfl) ?_ ?_
   ·exact⟨by simp,by simp only;omega,rfl⟩
   rintro⟨t,k⟩ ⟨k0,k1,hK⟩ hfx2 ag2 hag2;simp only at k0 k1 hK
   conv=>cbv
   simp only[zo hL,sQ,hbl,gm,hml,<-hR,<-hn,hri];refine⟨fun h3=>?_,fun h3=>?_⟩
   ·rw[zl (n:=k+1) (by omega) (by omega)];refine⟨by omega,by omega,by omega,by omega,?_⟩;refine hag2 (max t (r.getD k.toNat 0),k+1) ⟨by simp only;omega,by simp only;omega,?_⟩ (by simp only;omega);simp only[zF k0];rw[hK,uN 0 (show k.toNat<r.length by omega),YX]
   ·rw[zl (n:=i+1) (by omega) (by omega)]
    have e1:t=Kz bs ms i.toNat:=by
     rw[kn (by omega)]at hK;have hne:r≠[]:=fun h=>(by rw[h]at hri;simp at hri;omega);rw[zBu hne,hc0,hR]at hK;exact hK.symm
    (repeat' first|(exact yY _)|(exact jT rfl)|(exact qO _)|(apply And.intro)|(intro _))<;>(try first|exact True.intro|omega|rfl|(simp only[zi,zp,zj];omega))
    refine hag (_,i+1) ⟨by simp only;omega,by simp only;omega,?_⟩ (by simp only;omega);simp only[zF i0];rw[Qj,JX,hI,<-jY,<-e1];rfl
  ·rw[hr,hf0,hI,show i.toNat=bs.length by omega]
 ·cases h
def zca(f:List V->List V->List V×Int)(q:List V->List V->Prop):zK:=fun
 |[.agg [.slc false 57 (.agg [.slc false 2 (.int .i64 0) []]) a0,.slc false 29 (.slc false 2 (.int .i64 0) []) a1]]=>some ([q a0 a1],.tup [.slc true 2 (.int .i64 0) ((f a0 a1).1),.int .i64 ((f a0 a1).2)])
 |_=>none
noncomputable def ze0(a b:List V):List V×Int:=bif qA a b then(Jw a b,0)else([],1)
theorem zlj:yJ Tryz.prog 11 (zca ze0 uu):=by
 intro args ps r h hp;unfold zca at h;split at h
 ·rename_i a0 a1;simp only[za,zb]at h;obtain⟨rfl,rfl⟩:=h;have hq:uu a0 a1:=(zm.1 hp).1;have g1:=YK hq.1.isBB;have g2:=YJ hq.2.isII;generalize yn:qA=ji;generalize qn:uu=jM;generalize ZM:Jw=zaA;generalize qa:ZI=ur;refine zI (T:=tab) (B:=[(15,Yq ji jM),(46,zf5 zaA ur)]) (Bi:=[]) [0,1,2,3] Tryz.func11 rfl rfl (by kernel_rfl) (ze rfl) mixed zR (by subst yn qn ZM qa;exact(zn uv (zn zgL zB))) (by subst yn qn ZM qa;exact zy) (by kernel_rfl) ?_;intro L lp rr hL hr hf hlp
  conv=>cbv
  simp only[zo hL,sQ,g1,g2];subst yn qn ZM qa;refine⟨hq,fun h=>?_,fun h=>⟨JG hq h,?_⟩⟩
  ·rw[hr,ze0,h];rfl
  ·rw[hr,ze0,h];rfl
 ·cases h
theorem zlh:yJ Tryz.prog 12 (zca ze0 uu):=by
 intro args ps r h hp;unfold zca at h;split at h
 ·rename_i a0 a1;simp only[za,zb]at h;obtain⟨rfl,rfl⟩:=h;have hq:uu a0 a1:=(zm.1 hp).1;have g1:=YK hq.1.isBB;have g2:=YJ hq.2.isII;generalize yn:qA=ji;generalize qn:uu=jM;generalize ZM:Jw=zaA;generalize qa:ZI=ur;refine zI (T:=tab) (B:=[(44,Yq ji jM),(47,zf5 zaA ur)]) (Bi:=[]) [0,1,2,3] Tryz.func12 rfl rfl (by kernel_rfl) (ze rfl) mixed zR (by subst yn qn ZM qa;exact(zn zbO (zn zdL zB))) (by subst yn qn ZM qa;exact zy) (by kernel_rfl) ?_;intro L lp rr hL hr hf hlp
  conv=>cbv
  simp only[zo hL,sQ,g1,g2];subst yn qn ZM qa;refine⟨hq,fun h=>?_,fun h=>⟨JG hq h,?_⟩⟩
  ·rw[hr,ze0,h];rfl
  ·rw[hr,ze0,h];rfl
 ·cases h
end Go.Ax
namespace Go.Ax
open Go.Proofs
theorem gAt{l:List Int}{k:Nat}(h:k<l.length):l[k]=l.getD k 0:=by
 rw[zd,zg h];rfl
def uZ(bs:List (List Int))(l:List Int):List (List Int):=l.map fun i=>bs.getD i.toNat []
def ZQ(ms:List (List Int))(l:List Int):List (List Int):=l.map fun i=>l.map fun k=>mm ms i.toNat k.toNat
def ztg(f:List V->List V->List V->List V×List V)(q:List V->List V->List V->Prop):zK:=fun
 |[.agg [.slc false 57 (.agg [.slc false 2 (.int .i64 0) []]) a0,.slc false 29 (.slc false 2 (.int .i64 0) []) a1],.slc false 2 (.int .i64 0) a2]=>some ([q a0 a1 a2],.agg [.slc true 57 (.agg [.slc true 2 (.int .i64 0) []]) ((f a0 a1 a2).1),.slc true 29 (.slc true 2 (.int .i64 0) []) ((f a0 a1 a2).2)])
 |_=>none
def zeY(a b l:List V):List V×List V:=(BB true (uZ (jq a) (yO l)),II true (ZQ (qS b) (yO l)))
def InL(n:Nat)(l:List Int):Prop:=∀k,k<l.length->0<=l.getD k 0/\l.getD k 0<n
def zxG(a b l:List V):Prop:=ZI a b/\∃xs,l=I xs/\InL a.length xs/\xs.length<=1000
theorem zwJ(bs:List (List Int))(l:List Int)(i:Nat)(h:i<l.length):uZ bs (l.take (i+1))=uZ bs (l.take i)++[bs.getD (l.getD i 0).toNat []]:=by
 rw[uZ,zP h,uj,gAt h];rfl
def zeD(ms:List (List Int))(l:List Int)(i:Int):List Int:=l.map fun k=>mm ms i.toNat k.toNat
theorem zxD(ms:List (List Int))(l:List Int)(x:Int)(i:Nat)(h:i<l.length):zeD ms (l.take (i+1)) x=zeD ms (l.take i) x++[mm ms x.toNat (l.getD i 0).toNat]:=by
 rw[zeD,zP h,uj,gAt h];rfl
def zdg(ms:List (List Int))(l:List Int)(n:Nat):List (List Int):=(l.take n).map (zeD ms l)
theorem zwG(ms:List (List Int))(l:List Int)(i:Nat)(h:i<l.length):zdg ms l (i+1)=zdg ms l i++[zeD ms l (l.getD i 0)]:=by
 rw[zdg,zP h,uj,gAt h];rfl
theorem zwI(ms:List (List Int))(l:List Int){n:Nat}(h:l.length<=n):zdg ms l n=ZQ ms l:=by
 rw[zdg,zG h];rfl
theorem Zu(bs:List (List Int))(l:List Int):(uZ bs l).length=l.length:=by simp[uZ]
theorem zru(ms:List (List Int))(l:List Int)(x:Int):(zeD ms l x).length=l.length:=by simp[zeD]
theorem zqy:yJ Tryz.prog 62 (ztg zeY zxG):=by
 intro args ps r h hp;unfold ztg at h;split at h
 ·rename_i a0 a1 a2;simp only[za,zb]at h;obtain⟨rfl,rfl⟩:=h;obtain⟨⟨⟨⟨bs,hbs,hb1,hb2⟩,⟨ms,hms,hm1,hm2⟩⟩,hcv⟩,⟨ls,hls,hin,hll⟩⟩:=(zm.1 hp).1;rw[hbs,hms,yK,yq]at hcv;have g1:V.frzs a0=a0:=by rw[hbs,uf]
  have g2:V.frzs a1=a1:=by rw[hms,ke]
  have hbl:a0.length=bs.length:=by rw[hbs,jj]
  have hml:a1.length=ms.length:=by rw[hms,yf]
  have gb:∀k,a0.getD k (.agg [.slc false 2 (.int .i64 0) []])=.agg [.slc false 2 (.int .i64 0) (I (bs.getD k []))]:=fun k=>by rw[hbs,QA]
  have gm:∀k,a1.getD k (.slc false 2 (.int .i64 0) [])=.slc false 2 (.int .i64 0) (I (ms.getD k [])):=fun k=>by rw[hms,qM]
  have hm0:∀x y:Nat,(ms.getD x []).getD y 0=mm ms x y:=fun _ _=>rfl;obtain⟨n,hn⟩:∃n:Int,n=bs.length:=⟨_,rfl⟩;have n1:=hcv.n1;have n6:=hcv.n6;have hmn:ms.length=bs.length:=hcv.tab.len;have hbr:∀i,i<bs.length->Br (bs.getD i []):=fun i hi=>jL (hcv.br i hi);have rl:∀k,k<bs.length->(ms.getD k []).length=bs.length:=fun k hk=>(hcv.tab.row k hk).1;have mmr:∀i k,i<bs.length->k<bs.length->0<=mm ms i k/\mm ms i k<=200:=fun i k hi hk=>hcv.tab.range hi hk;have mmo:∀i k,i<bs.length->k<bs.length->i≠k->1<=mm ms i k/\mm ms i k<=200:=fun i k hi hk hne=>((hcv.tab.row i hi).2 k hk).2 hne;rw[hbl]at hin;have hf0:zeY a0 a1 a2=(BB true (uZ bs ls),II true (ZQ ms ls)):=by rw[zeY,hbs,hms,hls,yK,yq,zr]
  have hal:a2.length=ls.length:=by rw[hls,zj]
  have gl:∀k,a2.getD k (.int .i64 0)=.int .i64 (ls.getD k 0):=fun k=>by rw[hls,zE]
  obtain⟨m,hm⟩:∃m:Int,m=ls.length:=⟨_,rfl⟩;generalize kI:same=YD;generalize yP:ub=ki;refine zI (T:=tab) (B:=[(95,zj5 YD ki)]) (Bi:=[]) [2000005025,0,1,2,4,5,7,8,10,12,13,14,30,31,32] Tryz.func62 rfl rfl (by kernel_rfl) (ze rfl) mixed zR (by subst kI yP;exact(zn zko zB)) (by subst kI yP;exact zy) (by kernel_rfl) ?_;intro L lp rr hL hr hf hlp;have qcp:∀x,Br x->ki (I x):=fun x hx=>by rw[<-yP];exact⟨⟨_,rfl⟩,by rw[zj];have:=hx.len;omega⟩
  have ecp:∀x,YD (I x)=I x:=fun x=>by rw[<-kI];rfl
  conv=>cbv
  refine hlp ((List V×List V)×Int) _ _ _ [1,2,4,5,12,13,14] (fun x=>[(1,none,.val (.slc false 2 (.int .i64 0) a2)),(2,none,.val (.box 27 (.agg [.slc false 57 (.agg [.slc false 2 (.int .i64 0) []]) a0,.slc false 29 (.slc false 2 (.int .i64 0) []) a1]))),(4,none,.val (.box 27 (.agg [.slc true 57 (.agg [.slc true 2 (.int .i64 0) []]) [],.slc true 29 (.slc true 2 (.int .i64 0) []) []]))),(5,none,.val (.box 27 (.agg [.slc true 57 (.agg [.slc true 2 (.int .i64 0) []]) x.1.1,.slc true 29 (.slc true 2 (.int .i64 0) []) x.1.2]))),(12,none,.val (.slc false 2 (.int .i64 0) a2)),(13,none,.val (.int .i64 m)),(14,none,.val (.int .i64 x.2))])
   (fun x=>0<=x.2/\x.2<=m/\x.1.1=BB true (uZ bs (ls.take x.2.toNat))/\x.1.2=II true (zdg ms ls x.2.toNat)) (fun x=>(m-x.2).toNat) ((([],[]),0)) (by subst hL;rw[hm,<-hal];rfl) ?_ ?_
  ·exact⟨by simp,by simp only;omega,rfl,rfl⟩
  rintro⟨⟨fs,gs⟩,i⟩ ⟨i0,i1,hI,hJ⟩ hfx ag hag;simp only at i0 i1 hI hJ
  conv=>cbv
  simp only[zo hL,sQ,hbl,gb,Qt,YM,YQ,hal,gl,ecp];refine⟨fun h2=>?_,fun h2=>?_⟩
  ·have hil:i.toNat<ls.length:=(by omega);have hxi:=hin _ hil;obtain⟨x,hx⟩:∃x,x=ls.getD i.toNat 0:=⟨_,rfl⟩;rw[<-hx]at hxi;have hbx:=hbr x.toNat (by omega);have hrx:=rl x.toNat (by omega);have hfl:fs.length<=1000:=(by rw[hI,jj,Zu,yb];omega);have hgl:gs.length<=1000:=(by rw[hJ,yf,zdg,List.length_map,yb];omega);have qx:=qcp _ hbx;rw[<-hx];obtain⟨fs',hfs'⟩:∃fs',fs'=fs++[V.agg [.slc true 2 (.int .i64 0) (I (bs.getD x.toNat []))]]:=⟨_,rfl⟩;rw[<-hfs'];refine⟨i0,by omega,hxi.1,by omega,qx,by simp only[zi,zp];omega,jT rfl,?_⟩
   refine hlp (List V×Int) _ _ _ [1,2,4,5,7,8,12,13,14,30,31,32] (fun y=>[(1,none,.val (.slc false 2 (.int .i64 0) a2)),(2,none,.val (.box 27 (.agg [.slc false 57 (.agg [.slc false 2 (.int .i64 0) []]) a0,.slc false 29 (.slc false 2 (.int .i64 0) []) a1]))),(4,none,.val (.box 27 (.agg [.slc true 57 (.agg [.slc true 2 (.int .i64 0) []]) [],.slc true 29 (.slc true 2 (.int .i64 0) []) []]))),(5,none,.val (.box 27 (.agg [.slc true 57 (.agg [.slc true 2 (.int .i64 0) []]) fs',.slc true 29 (.slc true 2 (.int .i64 0) []) gs]))),(7,none,.val (.int .i64 x)),(8,none,.val (.slc true 2 (.int .i64 0) y.1)),(12,none,.val (.slc false 2 (.int .i64 0) a2)),(13,none,.val (.int .i64 m)),(14,none,.val (.int .i64 i)),(30,none,.val (.slc false 2 (.int .i64 0) a2)),(31,none,.val (.int .i64 m)),(32,none,.val (.int .i64 y.2))])
    (fun y=>0<=y.2/\y.2<=m/\y.1=I (zeD ms (ls.take y.2.toNat) x)) (fun y=>(m-y.2).toNat) (([],0)) (by subst hL;rw[hm,<-hal];rfl) ?_ ?_
   ·exact⟨by simp,by simp only;omega,rfl⟩
   rintro⟨rs,k⟩ ⟨k0,k1,hK⟩ hfx2 ag2 hag2;simp only at k0 k1 hK
   conv=>cbv
   simp only[zo hL,sQ,hal,gl,gm,hml,hm0,hrx];refine⟨fun h3=>?_,fun h3=>?_⟩
   ·have hkl:k.toNat<ls.length:=(by omega);have hyk:=hin _ hkl;have hrs:rs.length<=1000:=(by rw[hK,zj,zru,yb];omega);rw[zl (n:=k+1) (by omega) (by omega)]
    (repeat' first|(exact yY _)|(exact jT rfl)|(exact qO _)|(apply And.intro)|(intro _))<;>(try first|exact True.intro|omega|rfl|(simp only[zi,zp,zj];omega))
    refine hag2 (_,k+1) ⟨by simp only;omega,by simp only;omega,?_⟩ (by simp only;omega);simp only[zF k0];rw[zxD _ _ _ _ hkl,hK,<-jY];rfl
   ·have hrs:rs=I (zeD ms ls x):=(by rw[hK,zG (by omega)]);rw[zl (n:=i+1) (by omega) (by omega)]
    have hff:fs'=BB true (uZ bs (ls.take (i.toNat+1))):=by
     rw[zwJ _ _ _ hil,hfs',hI,<-hx];simp[BB]
    have hgg:gs++[V.slc true 2 (.int .i64 0) rs]=II true (zdg ms ls (i.toNat+1)):=by
     rw[zwG _ _ _ hil,uP,hJ,hrs,<-hx];rfl
    refine⟨by simp only[zi,zp];omega,jT rfl,hag ((fs',_),i+1) ⟨by simp only;omega,by simp only;omega,?_,?_⟩ (by simp only;omega)⟩
    ·simp only[zF i0];exact hff
    ·simp only[zF i0];exact hgg
  ·rw[hr,hf0,hI,hJ,zG (by omega),zwI _ _ (by omega)]
 ·cases h
def okp(n:Nat)(l:List Int):Bool:= !(l.length==0)&&asc l&&qG l 0 ((n:Int)-1)
theorem zxp{l:List Int}{a b:Int}:qG l a b=true↔∀i,i<l.length->a<=l.getD i 0/\l.getD i 0<=b:=by
 simp only[qG,yd,yi,zh,decide_eq_true_eq];constructor
 ·intro h i hi;rw[<-gAt hi];exact h _ (yE hi)
 ·intro h x hx;obtain⟨i,hi,rfl⟩:=qK.1 hx;rw[gAt hi];exact h i hi
theorem zvz{l:List Int}(h:asc l=true):∀i,i<l.length->l.getD 0 0+i<=l.getD i 0
 |0,_=>by simp
 |i+1,hi=>by
  have h1:=zvz h i (by omega);have h2:=zlP l h i hi;omega
theorem zCE{n:Nat}{l:List Int}(h:okp n l=true):InL n l/\l.length<=n/\0<l.length:=by
 simp only[okp,zh,Bool.not_eq_true',beq_eq_false_iff_ne]at h;obtain⟨⟨h1,h2⟩,h3⟩:=h;have h4:=zxp.1 h3;have hp:0<l.length:=by omega
 have h5:=zvz h2 (l.length-1) (by omega);have h6:=h4 (l.length-1) (by omega);have h7:=h4 0 hp;refine⟨fun k hk=>by have:=h4 k hk;omega,by omega,hp⟩
theorem zyC:∀(l:List Int),(∀i,i+1<l.length->l.getD i 0<l.getD (i+1) 0)->asc l=true
 |[],_=>rfl
 |[x],_=>rfl
 |x::y::l,h=>by
  have h0:=h 0 (by simp);have h1:=zyC (y::l) (fun i hi=>by have:=h (i+1) (by simpa using hi);simpa using this);simp only[qr,yT]at h0;simp only[asc]at h1 ⊢;simp[h0,h1]
def zoO(f:List V->List V->List V->List V×List V×Int)(q:List V->List V->List V->Prop):zK:=fun
 |[.agg [.slc false 57 (.agg [.slc false 2 (.int .i64 0) []]) a0,.slc false 29 (.slc false 2 (.int .i64 0) []) a1],.slc false 2 (.int .i64 0) a2]=>some ([q a0 a1 a2],.tup [.agg [.slc true 57 (.agg [.slc true 2 (.int .i64 0) []]) ((f a0 a1 a2).1),.slc true 29 (.slc true 2 (.int .i64 0) []) ((f a0 a1 a2).2.1)],.int .i64 ((f a0 a1 a2).2.2)])
 |_=>none
noncomputable def zlI(a b l:List V):List V×List V×Int:=bif qA a b then(bif okp a.length (yO l)then((zeY a b l).1,(zeY a b l).2,0)else([],[],2))else([],[],1)
def zwB(a b l:List V):Prop:=uu a b/\ub l
theorem ziE:yJ Tryz.prog 25 (zoO zlI zwB):=by
 intro args ps r h hp;unfold zoO at h;split at h
 ·rename_i a0 a1 a2;simp only[za,zb]at h;obtain⟨rfl,rfl⟩:=h;obtain⟨hq,⟨ls,hls⟩,hll⟩:zwB a0 a1 a2:=(zm.1 hp).1;have g1:=YK hq.1.isBB;have g2:=YJ hq.2.isII;have g3:V.frzs a2=a2:=by rw[hls,zA]
  have hal:a2.length=ls.length:=by rw[hls,zj]
  obtain⟨n,hn⟩:∃n:Int,n=a0.length:=⟨_,rfl⟩
  have hnl:a0.length<=2147483647:=by
   obtain⟨bs,hbs,h1,_⟩:=hq.1;rw[hbs,jj];exact h1
  have e1:zdp a2=asc ls:=by rw[zdp,hls,zr]
  have e2:∀x y,Ji a2 x y=qG ls x y:=fun x y=>by rw[Ji,hls,zr]
  have eo:okp a0.length ls=(!((ls.length:Int)==0)&&asc ls&&qG ls 0 (n-1)):=by
   rw[okp,hn];congr 2;congr 1;rw[Ja,beq_iff_eq,beq_iff_eq];omega
  generalize yn:qA=ji;generalize qn:uu=jM;generalize zbs:zdp=zmg;generalize zcl:YB=zia;generalize Zo:Ji=zaz;generalize zl5:zeY=zAx;generalize zlX:zxG=zAs;refine zI (T:=tab) (B:=[(15,Yq ji jM),(60,zbg zmg zia),(61,Kj zaz zia),(62,ztg zAx zAs)]) (Bi:=[]) [0,1,2,4,5] Tryz.func25 rfl rfl (by kernel_rfl) (ze rfl) mixed zR (by subst yn qn zbs zcl Zo zl5 zlX;exact(zn uv (zn zgM (zn zdD (zn zqy zB))))) (by subst yn qn zbs zcl Zo zl5 zlX;exact zy) (by kernel_rfl) ?_;intro L lp rr hL hr hf hlp
  conv=>cbv
  simp only[zo hL,sQ,g1,g2,g3,hal,<-hn];subst yn qn zbs zcl Zo zl5 zlX;rw[zl (n:=n-1) (by omega) (by omega)];simp only[e1,e2];refine⟨hq,fun h=>?_,fun h=>⟨fun _=>⟨ls,hls⟩,fun _=>⟨ls,hls⟩,fun h2=>?_,fun h2=>?_⟩⟩
  ·rw[hr,zlI,h];rfl
  ·have:okp a0.length ls=false:=by
    rw[eo];rcases h2 with(h2|h2)|h2
    ·rw[h2];rfl
    ·rw[h2,Bool.and_false];rfl
    ·rw[h2,Bool.and_false]
   rw[hr,zlI,h,hls,zr,this];rfl
  ·have:okp a0.length ls=true:=by
    rw[eo,h2.1.2,h2.2,beq_eq_false_iff_ne.2 h2.1.1];rfl
   obtain⟨k1,k2,k3⟩:=zCE this;refine⟨⟨JG hq h,ls,hls,k1,?_⟩,?_⟩
   ·obtain⟨bs,hbs,_⟩:=hq.1;have:=(zbf.1 h).n6;rw[hbs,yK]at this;rw[hbs,jj]at k2;omega
   ·rw[hr,zlI,h];rw[show yO a2=ls by rw[hls,zr],this];rfl
 ·cases h
end Go.Ax
namespace Go.Ax
open Go.Proofs
def tk(ms:List (List Int))(i:Nat):Option Nat:=(List.range i).find? fun k=>decide (2<=mm ms i k)
def zix(ms:List (List Int)):Nat->List Int×Int
 |0=>([],0)
 |i+1=>match tk ms i with
  |some k=>((zix ms i).1++[(zix ms i).1.getD k 0],(zix ms i).2)
  |none=>((zix ms i).1++[(zix ms i).2],(zix ms i).2+1)
end Go.Ax
namespace Go.Ax
open Go.Proofs
def Val:Nat->Nat->List Nat->Prop
 |_,e,[]=>e=1
 |p,e,t::l=>p<t/\t<=2000/\Nat.gcd e t≠e/\Val t (Nat.gcd e t) l
def uO:Nat->Nat->List Nat->List Nat
 |_,_,[]=>[]
 |p,e,t::l=>ex (t-p) e++uO t (Nat.gcd e t) l
theorem Val.weak{p p' e:Nat}{l:List Nat}(h:Val p e l)(hp:p'<=p):Val p' e l:=by
 cases l with
 |nil=>exact h
 |cons t l=>exact⟨by have:=h.1;omega,h.2⟩
theorem zx7{e t s:Nat}(he:e ∣ s)(hs:s<=t):Nat.gcd e (t-s)=Nat.gcd e t:=by
 obtain⟨k,rfl⟩:=he;have h:t=(t-e*k)+k*e:=by rw[ua k e];omega
 conv=>rhs;rw[h]
 rw[JT]
def zDM(n:Nat):List Nat->List Nat
 |[]=>[1]
 |t::l=>if 2*n<=t then n::(t-n)::l.map (·-n)else if n%(t-n)=0 then(t-n)::l.map (·-(t-n))else(t-n)::n::l.map (·-(t-n))
structure BrN (n:Nat) (l:List Nat):Prop where
 lo:1<=n
 hi:n<=64
 val:Val n n l
theorem zj2{k e:Nat}(he:0<e)(hd:¬e ∣ k):∃x,ex k e=List.replicate (k/e) e++(k%e)::x/\0<k%e/\k%e<e:=by
 have h1:0<k%e:=Nat.pos_of_ne_zero fun h=>hd (Nat.dvd_of_mod_eq_zero h);have h2:k%e<e:=Nat.mod_lt _ he;have h3:0<e/(k%e):=Nat.div_pos (by omega) h1;refine⟨List.replicate (e/(k%e)-1) (k%e)++ex (k%e) (e%(k%e)),?_,h1,h2⟩;rw[kL he,kL h1]
 conv=>lhs;rw[show e/(k%e)=(e/(k%e)-1)+1 by omega]
 rw[yw,zV]
theorem zmT{p e t:Nat}(hp:e ∣ p)(h:p<t)(hg:Nat.gcd e t≠e):¬e ∣ (t-p):=fun h2=>by
 refine hg (Nat.gcd_eq_left ?_);have:=Nat.dvd_add h2 hp
 rwa [show t-p+p=t by omega]at this
def zau(e:Nat):List Nat->Nat
 |[]=>0
 |x::l=>if x=e then zau e l+1 else 0
theorem zr8{e r:Nat}(h:r≠e)(x:List Nat):∀q,zau e (List.replicate q e++r::x)=q
 |0=>by simp[zau,h]
 |q+1=>by rw[yw,zV,zau,if_pos rfl,zr8 h x q]
def zrJ:Nat->Nat->Nat->List Nat->List Nat
 |0,_,_,_=>[]
 |k+1,p,e,L=>if e<=1 then[]else
   (p+(zau e L*e+L.getD (zau e L) 0))::zrJ k (p+(zau e L*e+L.getD (zau e L) 0)) (Nat.gcd e (p+(zau e L*e+L.getD (zau e L) 0))) (L.drop (ex (zau e L*e+L.getD (zau e L) 0) e).length)
theorem zxQ:∀(l:List Nat) (p e:Nat),0<e->e ∣ p->Val p e l->∀(m k:Nat),l.length<k->zrJ k p e (uO p e l++List.replicate m 1)=l
 |[],p,e,_,_,h,m,0,hk=>by simp at hk
 |[],p,e,_,_,h,m,k+1,_=>by
  have h1:e=1:=h;rw[zrJ,if_pos (by omega)]
 |t::l,p,e,he,hp,h,m,0,hk=>by simp at hk
 |t::l,p,e,he,hp,h,m,k+1,hk=>by
  obtain⟨h1,h2,h3,h4⟩:=h
  have he2:¬e<=1:=fun h5=>h3 (by
   have:e=1:=(by omega);subst this
   exact Nat.gcd_one_left t)
  obtain⟨x,hx,hr0,hr1⟩:=zj2 he (zmT hp h1 h3);obtain⟨X,hX⟩:∃X,X=uO t (Nat.gcd e t) l++List.replicate m 1:=⟨_,rfl⟩;have hL:uO p e (t::l)++List.replicate m 1=ex (t-p) e++X:=by rw[uO,zZ,hX]
  have hL2:ex (t-p) e++X=List.replicate ((t-p)/e) e++((t-p)%e)::(x++X):=by rw[hx];simp
  have hq:zau e (ex (t-p) e++X)=(t-p)/e:=by rw[hL2,zr8 (by omega)]
  have hg:(ex (t-p) e++X).getD ((t-p)/e) 0=(t-p)%e:=by
   rw[hL2,zd,ye (by rw[zS];exact zt _),zS,kF];rfl
  have hk2:(t-p)/e*e+(t-p)%e=t-p:=by rw[ua];exact Nat.div_add_mod _ _
  rw[hL,zrJ,if_neg he2,hq,hg,hk2,show p+(t-p)=t by omega,List.drop_left,hX,
   zxQ l t (Nat.gcd e t) (uy t he) (Nat.gcd_dvd_right e t) h4 m k (by simpa using hk)]
def yu(l:List Nat):List Int:=l.map fun x:Nat=>(x:Int)
def zeU(l:List Int):List Nat:=l.map Int.toNat
theorem zav(l:List Nat):zeU (yu l)=l:=by
 rw[zeU,yu,List.map_map]
 conv=>rhs;rw[<-List.map_id l]
 rfl
theorem ug(l:List Nat):(yu l).length=l.length:=by simp[yu]
theorem zaN(a b:List Nat):yu (a++b)=yu a++yu b:=by simp[yu]
theorem KK(l:List Nat)(i d:Nat):(yu l).getD i (d:Int)=((l.getD i d:Nat):Int):=by
 simp only[yu,zd,List.getElem?_map];cases l[i]? <;>rfl
def zoR(n:Nat)(l:List Nat)(L:List Int):Prop:=BrN n l/\L≠[]/\∃m,L=yu (uO 0 n l++List.replicate m 1)
def zto(L:List Int):List Int:=yu ((zeU L).getD 0 0::zrJ 3000 0 ((zeU L).getD 0 0) (zeU L))
theorem znQ:∀(l:List Nat) (p e:Nat),Val p e l->p<=2000->l.length+p<=2000
 |[],p,e,_,hp=>by simpa using hp
 |t::l,p,e,h,_=>by
  have:=znQ l t _ h.2.2.2 h.2.1;have:=h.1;simp only[zi];omega
theorem zkc{n:Nat}{l:List Nat}{L:List Int}(h:zoR n l L):zto L=yu (n::l):=by
 obtain⟨hb,hne,m,rfl⟩:=h;have hlo:=hb.lo;have hhi:=hb.hi
 have h0:(uO 0 n l++List.replicate m 1).getD 0 0=n:=by
  cases l with
  |nil=>
   have h1:n=1:=hb.val;subst h1
   cases m with
   |zero=>simp[uO,yu]at hne
   |succ m=>rfl
  |cons t l=>
   have h1:=hb.val.1;have h2:0<t/n:=Nat.div_pos (by omega) (by omega);rw[uO,kL (by omega),Zi,show t/n=(t/n-1)+1 by omega,yw];rfl
 rw[zto,zav,h0,zxQ l 0 n (by omega) ⟨0,rfl⟩ (hb.val.weak (by omega)) m 3000 (by have:=znQ l n n hb.val (by omega);omega)]
end Go.Ax
namespace Go.Ax
open Go.Proofs
theorem zqd{a b:Nat}(ha:0<a)(hb:0<b):qZ (a:Int) (b:Int)=((Nat.gcd a b:Nat):Int):=by
 rw[qZ,zcH (by omega),zcH (by omega),zhG _ _ _ (zt _) (by omega) (by omega),zW,zW]
theorem ztn:∀(l:List Nat) (p e:Nat),1<=p->p<=2000->1<=e->(zfc (p:Int) (e:Int) (yu l)=true↔Val p e l)
 |[],p,e,_,_,_=>by
  simp only[yu,List.map_nil,zfc,Val,beq_iff_eq];omega
 |t::l,p,e,hp,hp2,he=>by
  have hw:IntKind.wrap .i64 ((p:Int)+1)=(p:Int)+1:=zl (by omega) (by omega);simp only[yu,yX,zfc,Val,hw];by_cases h:p<t/\t<=2000
  ·have hi:yi (t:Int) ((p:Int)+1) 2000=true:=by
    simp only[yi,zh,decide_eq_true_eq];omega
   rw[hi,zqd (by omega) (by omega)];have ih:=ztn l t (Nat.gcd e t) (by omega) h.2 (uy t (by omega));rw[yu]at ih;by_cases hg:Nat.gcd e t=e
   ·have hb:(((Nat.gcd e t:Nat):Int)==(e:Int))=true:=(by rw[hg];simp);rw[hb];simp[hg]
   ·have hb:(((Nat.gcd e t:Nat):Int)==(e:Int))=false:=by
     rw[beq_eq_false_iff_ne];omega
    rw[hb];simp only[Bool.not_true,cond_false,ih];exact⟨fun h2=>⟨h.1,h.2,hg,h2⟩,fun h2=>h2.2.2.2⟩
  ·have hi:yi (t:Int) ((p:Int)+1) 2000=false:=by
    rw[<-Bool.not_eq_true];simp only[yi,zh,decide_eq_true_eq];omega
   rw[hi];simp only[Bool.not_false,cond_true,yB,false_iff];exact fun h2=>h ⟨h2.1,h2.2.1⟩
theorem zzO{n:Nat}{l:List Nat}:YO (yu (n::l))=true↔BrN n l:=by
 have h0:(((yu (n::l)).length:Int)==0)=false:=by
  rw[beq_eq_false_iff_ne,ug];simp only[zi];omega
 have h1:(yu (n::l)).getD 0 0=(n:Int):=rfl;have h2:(yu (n::l)).drop 1=yu l:=rfl;rw[<-zsc,zd7,h0,h1,h2];by_cases h:1<=n/\n<=64
 ·have hi:yi (n:Int) 1 64=true:=by
   simp only[yi,zh,decide_eq_true_eq];omega
  rw[hi];simp only[cond_false,Bool.not_true];rw[ztn l n n h.1 (by omega) h.1];exact⟨fun h3=>⟨h.1,h.2,h3⟩,fun h3=>h3.val⟩
 ·have hi:yi (n:Int) 1 64=false:=by
   rw[<-Bool.not_eq_true];simp only[yi,zh,decide_eq_true_eq];omega
  rw[hi];simp only[cond_false,Bool.not_false,cond_true,yB,false_iff];exact fun h3=>h ⟨h3.lo,h3.hi⟩
theorem zrS{n:Nat}{l:List Nat}(h:BrN n l):Br (yu (n::l)):=jL (zzO.2 h)
theorem zqi:∀(l:List Int) (d:Int) (i:Nat),i+1<l.length->(Zg d l).getD (i+1) 0=qZ ((Zg d l).getD i 0) (l.getD (i+1) 0)
 |[],d,i,h=>by simp at h
 |[x],d,i,h=>by simp at h
 |x::y::l,d,0,h=>rfl
 |x::y::l,d,i+1,h=>by
  have:=zqi (y::l) (qZ d x) i (by simpa using h);simpa [Zg]using this
theorem zBL(a b:Nat):exI (a:Int) (b:Int)=yu (ex a b):=by
 rw[exI,zW,zW];rfl
theorem zuU{n:Nat}{l0:List Nat}:∀(l pre:List Nat) (p e:Nat),n::l0=pre++l->pre≠[]->0<e->(dv (yu (n::l0))).getD (pre.length-1) 0=(e:Int)->(if pre.length=1 then 0 else pre.getD (pre.length-1) 0)=p->Val p e l->
 (List.range' (pre.length-1) l.length).flatMap (zdE (yu (n::l0)))=yu (uO p e l)
 |[],pre,p,e,_,_,_,_,_,_=>rfl
 |t::l,pre,p,e,hx,hne,he,hd,hp,hv=>by
  obtain⟨h1,h2,h3,h4⟩:=hv;have hpl:0<pre.length:=ZE.2 hne;have hlen:(n::l0).length=pre.length+(l.length+1):=by rw[hx,zq];rfl
  have hgt:(n::l0).getD pre.length 0=t:=by
   rw[hx,zd,ye (zt _),kF];rfl
  have hgp:pre.length≠1->(n::l0).getD (pre.length-1) 0=p:=fun h5=>by
   rw[if_neg h5]at hp;rw[hx,zd,yj (by omega),<-zd,hp]
  have hnl:(yu (n::l0)).length=pre.length+(l.length+1):=by rw[ug,hlen]
  have hk:JJ (yu (n::l0)) (pre.length-1)=((t-p:Nat):Int):=by
   have e1:(yu (n::l0)).getD (pre.length-1+1) 0=(t:Int):=by
    rw[show pre.length-1+1=pre.length by omega];have:=KK (n::l0) pre.length 0;rw[hgt]at this;exact this
   rw[JJ,e1];by_cases h5:pre.length=1
   ·rw[if_pos (by omega)];rw[if_pos h5]at hp;omega
   ·rw[if_neg (by omega)];have:=KK (n::l0) (pre.length-1) 0;rw[hgp h5]at this;have e2:(yu (n::l0)).getD (pre.length-1) 0=(p:Int):=this;rw[e2];omega
  have hrun:zdE (yu (n::l0)) (pre.length-1)=yu (ex (t-p) e):=by rw[zdE,hk,hd,zBL]
  have hd2:(dv (yu (n::l0))).getD ((pre++[t]).length-1) 0=((Nat.gcd e t:Nat):Int):=by
   rw[zq,qj,show pre.length+1-1=(pre.length-1)+1 by omega,dv,zqi _ _ _ (by omega),<-dv,hd];have:=KK (n::l0) pre.length 0;rw[hgt]at this;have e2:(yu (n::l0)).getD (pre.length-1+1) 0=(t:Int):=(by rw[show pre.length-1+1=pre.length by omega];exact this);rw[e2,zqd he (by omega)]
  have ih:=zuU l (pre++[t]) t (Nat.gcd e t) (by rw[hx];simp) (by simp) (uy t he) hd2 (by
   rw[if_neg (by rw[zq,qj];omega),zq,qj,qB,zd,ye (zt _),kF];rfl) h4
  rw[zq,qj,show pre.length+1-1=pre.length-1+1 by omega]at ih;rw[zi,List.range'_succ,List.flatMap_cons,hrun,ih,uO,zaN]
theorem zBh{n:Nat}{l:List Nat}(h:BrN n l):jE (yu (n::l))=yu (uO 0 n l):=by
 have h1:=h.lo
 have hd:(dv (yu (n::l))).getD 0 0=(n:Int):=by
  have:=(zrS h).d0;rw[this];rfl
 have:=zuU l [n] 0 n rfl (by simp) (by omega) hd rfl (h.val.weak (by omega));rw[jE,za7,ug,zi,qB,List.range_eq_range'];exact this
def zDN(xs:List Int):List Int:=yu (match zeU xs with
 |[]=>[]
 |n::l=>zDM n l)
end Go.Ax
namespace Go.Ax
open Go.Proofs
theorem zDS{l:List Int}{t:Nat}(h:t<l.length):l.getD t 0∈l:=by
 rw[zd,zg h];exact yE h
def zj3(f:List V->Int->Int)(q:List V->Int->Prop):zK:=fun
 |[.slc false 2 (.int .i64 0) a0,.int .i64 a1]=>some ([q a0 a1],.int .i64 (f a0 a1))
 |_=>none
def idx(ls:List Int)(x:Int):Int:=match (List.range ls.length).find? fun t=>ls.getD t 0==x with
 |some t=>t
 |none=> -1
theorem zBD{ls:List Int}{x:Int}:decide (0<=idx ls x)=ls.contains x:=by
 rw[Ja,decide_eq_true_eq,List.contains_iff_mem,idx]
 cases hf:(List.range ls.length).find? fun t=>ls.getD t 0==x with
 |some t=>
  rw[Zm]at hf;simp only[beq_iff_eq,ka]at hf;exact⟨fun _=>by rw[<-hf.1];exact zDS hf.2.1,fun _=>by simp only;omega⟩
 |none=>
  rw[List.find?_eq_none]at hf;refine⟨fun h=>by simp only at h;omega,fun h=>?_⟩;obtain⟨t,ht,he⟩:=qK.1 h;refine absurd ?_ (hf t (by simpa using ht));rw[zd,zg ht];simpa using he
def zhP(a:List V)(x:Int):Int:=idx (yO a) x
def ziK(a:List V)(_:Int):Prop:=ub a
theorem zfL:yJ Tryz.prog 124 (zj3 zhP ziK):=by
 intro args ps r h hp;unfold zj3 at h;split at h
 ·rename_i a0 a1;simp only[za,zb]at h;obtain⟨rfl,rfl⟩:=h;obtain⟨⟨ls,hls⟩,hll⟩:ziK a0 a1:=(zm.1 hp).1;have hal:a0.length=ls.length:=by rw[hls,zj]
  rw[hal]at hll;have gl:∀k,a0.getD k (.int .i64 0)=.int .i64 (ls.getD k 0):=fun k=>by rw[hls,zE]
  have hf0:zhP a0 a1=idx ls a1:=by rw[zhP,hls,zr]
  refine zI (T:=tab) (B:=[]) (Bi:=[]) [0,1,4,5] Tryz.func124 rfl rfl (by kernel_rfl) (ze rfl) mixed zR (by exact zB) (by exact zy) (by kernel_rfl) ?_;intro L lp rr hL hr hf hlp
  conv=>cbv
  refine hlp (Int) _ _ _ [0,1,5] (fun x=>[(0,none,.val (.slc false 2 (.int .i64 0) a0)),(1,none,.val (.int .i64 a1)),(5,none,.val (.int .i64 x))])
   (fun x=>0<=x/\x<=ls.length/\∀t,t<x.toNat->ls.getD t 0≠a1) (fun x=>(ls.length-x).toNat) (0) (by subst hL;rfl) ?_ ?_
  ·exact⟨by simp,by simp,fun t ht=>by simp at ht⟩
  rintro i ⟨i0,i1,hI⟩ hfx ag hag
  conv=>cbv
  simp only[zo hL,sQ,hal,gl];refine⟨fun h2=>⟨i0,by omega,fun h3=>?_,fun h3=>?_⟩,fun h2=>?_⟩
  ·have hfi:((List.range ls.length).find? fun t=>ls.getD t 0==a1)=some i.toNat:=by
    rw[Zm];refine⟨by simpa using h3,by simp only[ka];omega,fun t ht=>?_⟩;have:=hI t ht;simpa using this
   rw[hr,hf0,idx,hfi];simp only;rw[show((i.toNat:Nat):Int)=i by omega]
  ·rw[zl (n:=i+1) (by omega) (by omega)];refine hag (i+1) ⟨by omega,by omega,fun t ht=>?_⟩ (by omega)
   by_cases hti:t=i.toNat
   ·rw[hti];exact h3
   ·exact hI t (by omega)
  ·have hfi:((List.range ls.length).find? fun t=>ls.getD t 0==a1)=none:=by
    rw[List.find?_eq_none];intro t ht;simp only[ka]at ht;have:=hI t (by omega);simpa using this
   rw[hr,hf0,idx,hfi]
 ·cases h
def zoF(f:List V->Int->Bool)(q:List V->Int->Prop):zK:=fun
 |[.slc false 2 (.int .i64 0) a0,.int .i64 a1]=>some ([q a0 a1],.bool (f a0 a1))
 |_=>none
def zqS(a:List V)(x:Int):Bool:=(yO a).contains x
theorem zqv:yJ Tryz.prog 98 (zoF zqS ziK):=by
 intro args ps r h hp;unfold zoF at h;split at h
 ·rename_i a0 a1;simp only[za,zb]at h;obtain⟨rfl,rfl⟩:=h;have hq:ziK a0 a1:=(zm.1 hp).1;have g0:V.frzs a0=a0:=by obtain⟨⟨ls,hls⟩,_⟩:=hq;rw[hls,zA]
  generalize zcQ:zhP=zkj;generalize zah:ziK=zfy;refine zI (T:=tab) (B:=[(124,zj3 zkj zfy)]) (Bi:=[]) [0,1,4] Tryz.func98 rfl rfl (by kernel_rfl) (ze rfl) mixed zR (by subst zcQ zah;exact(zn zfL zB)) (by subst zcQ zah;exact zy) (by kernel_rfl) ?_;intro L lp rr hL hr hf hlp
  conv=>cbv
  simp only[zo hL,sQ,g0];subst zcQ zah;exact⟨hq,by rw[hr,zqS,<-zBD];rfl⟩
 ·cases h
end Go.Ax
namespace Go.Ax
open Go.Proofs
def plN(L:List Int)(x:Int):Nat->List Int
 |0=>[]
 |n+1=>if L.getD n 0=x then plN L x n++[(n:Int)]else plN L x n
def okS(x:List Int):Bool:=decide ((YG x).length<=399)
def stB(bs:List (List Int))(ls:List Int)(j:Nat):List (List Int):=yI (fun k=>if k<j then zDN (bs.getD (ls.getD k 0).toNat [])else bs.getD (ls.getD k 0).toNat []) ls.length
def dcR(ms:List (List Int))(ls:List Int)(i c:Nat):List Int:=yI (fun k=>if k<c/\k≠i then mm ms (ls.getD i 0).toNat (ls.getD k 0).toNat-1 else mm ms (ls.getD i 0).toNat (ls.getD k 0).toNat) ls.length
def stM(ms:List (List Int))(ls:List Int)(j c:Nat):List (List Int):=yI (fun i=>dcR ms ls i (if i<j then ls.length else if i=j then c else 0)) ls.length
abbrev Cur:Type:=List (List Int)×List (List Int)
def blS(bs ms:List (List Int))(L:List Int):Nat->Option (List Cur)
 |0=>some []
 |t+1=>(blS bs ms L t).bind fun o=>if(plN L t L.length).all (fun i=>okS (bs.getD i.toNat []))then some (o++[(stB bs (plN L t L.length) (plN L t L.length).length,stM ms (plN L t L.length) (plN L t L.length).length 0)])else none
def bl(bs ms:List (List Int))(n:Nat):Option (List Cur):=blS bs ms (zix ms n).1 (zix ms n).2.toNat
end Go.Ax
namespace Go.Ax
open Go.Proofs
def zfU:List Int->Int->Int
 |[],m=>m
 |x::l,m=>zfU l (min m x)
def zol:List Int->Int
 |[]=>0
 |x::l=>zfU l x
theorem zrY:∀(l:List Int) (m:Int),0<=zfU l m↔0<=m/\∀x∈l,0<=x
 |[],m=>by simp[zfU]
 |x::l,m=>by
  rw[zfU,zrY l];simp only[zC,forall_eq_or_imp];constructor
  ·rintro⟨h1,h2⟩;exact⟨by omega,by omega,h2⟩
  ·rintro⟨h1,h2,h3⟩;exact⟨by omega,h3⟩
theorem zBs{l:List Int}(h:l≠[]):0<=zol l↔∀x∈l,0<=x:=by
 cases l with
 |nil=>exact absurd rfl h
 |cons x l=>rw[zol,zrY];simp
def zi4(a:List V):Int:=zol (yO a)
theorem zui:yJ Tryz.prog 92 (zj4 zi4 zoe):=by
 intro args ps r h hp;unfold zj4 at h;split at h
 ·rename_i a0;simp only[za,zb]at h;obtain⟨rfl,rfl⟩:=h;obtain⟨⟨xs,hxs⟩,hne⟩:zoe a0:=(zm.1 hp).1;have hxl:a0.length=xs.length:=by rw[hxs,zj]
  have hf0:zi4 a0=zol xs:=by rw[zi4,hxs,zr]
  have hpos:0<xs.length:=by
   cases xs with
   |nil=>exact absurd hxs hne
   |cons x l=>simp
  have hmx:zol xs=zfU (xs.drop 1) (xs.getD 0 0):=by
   cases xs with
   |nil=>simp at hpos
   |cons x l=>rfl
  refine zI (T:=tab) (B:=[]) (Bi:=[]) [0,2,3,4] Tryz.func92 rfl rfl (by kernel_rfl) (ze rfl) mixed zR (by exact zB) (by exact zy) (by kernel_rfl) ?_;intro L lp rr hL hr hf hlp;have hlen:=hf.1.1
  conv=>cbv
  simp only[zo hL,hxl];refine⟨fun h=>?_,fun h=>⟨by omega,by omega,?_⟩⟩
  ·simp only[decide_eq_true_eq]at h;omega
  obtain⟨m0,hm0⟩:∃m0,a0.getD (Int.toNat 0) (.int .i64 0)=.int .i64 m0/\m0=xs.getD 0 0:=⟨_,by rw[hxs,zE];rfl,rfl⟩;simp only[hm0.1,Zb,kS,true_and]
  refine hlp (Int×Int) _ _ _ [0,3,4] (fun x=>[(0,none,.val (.slc false 2 (.int .i64 0) a0)),(3,none,.val (.int .i64 x.1)),(4,none,.val (.int .i64 x.2))])
   (fun x=>0<=x.2/\x.2<=xs.length/\zol xs=zfU (xs.drop x.2.toNat) x.1) (fun x=>(xs.length-x.2).toNat) ((m0,1)) (by subst hL;rfl) ?_ ?_
  ·exact⟨by simp,by simp only;omega,by rw[hmx,hm0.2];rfl⟩
  rintro⟨m,i⟩ ⟨i0,i1,hI⟩ hfx ag hag
  conv=>cbv
  simp only at i0 i1 hI;rw[hxl]at hlen;subst hxs;simp only[zo hL,zj,zE,Zb,kS,imp_self,true_and,decide_eq_true_eq,decide_eq_false_iff_not];refine⟨fun h=>⟨i0,by omega,?_⟩,fun h=>?_⟩
  ·rw[zl (n:=i+1) (by omega) (by omega)];refine hag (_,i+1) ⟨by simp only;omega,by simp only;omega,?_⟩ (by simp only;omega);simp only[zF i0];rw[hI,uN 0 (show i.toNat<xs.length by omega),zfU]
  ·rw[hr,hf0,hI,kn (by omega)];rfl
 ·cases h
def Zd(P S Q:List Int):List Int:=yI (exL P S Q) P.length
def zec(P S Q:List Int):Bool:=(Zd P S Q).all fun x=>decide (0<=x)
def YR(a b c:List V):Bool:=zec (yO a) (yO b) (yO c)
theorem zqe{pm:List (List Int)}{w:List Int}(hw:∀i,-100000<=w.getD i 0/\w.getD i 0<=100000):∀(j:Nat) (a:Nat),j<=24->-(100000*((j:Int)+1))<=ZC pm w j a/\ZC pm w j a<=100000*((j:Int)+1)
 |0,a,_=>by
  have:=hw a;rw[ZC];omega
 |j+1,a,hj=>by
  have h1:=zqe (pm:=pm) hw j a (by omega);have h2:=hw j;rw[ZC];split
  ·have e:W (ZC pm w j a-w.getD j 0)=ZC pm w j a-w.getD j 0:=zl (by omega) (by omega);rw[e];omega
  ·omega
theorem zye{P S Q:List Int}(h:ClP P S Q)(a:Nat): -2500000<=exL P S Q a/\exL P S Q a<=2500000:=by
 have n24:=h.n24
 have hw:∀i,-100000<=Q.getD i 0/\Q.getD i 0<=100000:=fun i=>by
  by_cases hi:i<P.length
  ·exact h.q i hi
  ·rw[zd,zD (by rw[h.ql];omega)];simp
 have:=zqe (pm:=QT P S P.length P.length) hw P.length a (by omega);rw[exL];omega
theorem zkp:yJ Tryz.prog 58 (QW YR Qd):=by
 intro args ps r h hp;unfold QW at h;split at h
 ·rename_i a0 a1 a2;simp only[za,zb]at h;obtain⟨rfl,rfl⟩:=h;have hqv:Qd a0 a1 a2:=(zm.1 hp).1;obtain⟨⟨⟨P,hP⟩,⟨S,hS⟩,⟨Q,hQ⟩⟩,hcl⟩:=id hqv;rw[hP,hS,hQ,zr,zr,zr]at hcl;have g0:V.frzs a0=a0:=by rw[hP,zA]
  have g1:V.frzs a1=a1:=by rw[hS,zA]
  have g2:V.frzs a2=a2:=by rw[hQ,zA]
  have hpl:a0.length=P.length:=by rw[hP,zj]
  have hsl:a1.length=P.length:=by rw[hS,zj,hcl.sl]
  have hql:a2.length=P.length:=by rw[hQ,zj,hcl.ql]
  have gp:∀k,a0.getD k (.int .i64 0)=.int .i64 (P.getD k 0):=fun k=>by rw[hP,zE]
  have gs:∀k,a1.getD k (.int .i64 0)=.int .i64 (S.getD k 0):=fun k=>by rw[hS,zE]
  have gq:∀k,a2.getD k (.int .i64 0)=.int .i64 (Q.getD k 0):=fun k=>by rw[hQ,zE]
  obtain⟨n,hn⟩:∃n:Int,n=P.length:=⟨_,rfl⟩;have n1:=hcl.n1;have n24:=hcl.n24;have low:=fun t ht=>hcl.low (i:=t) ht;have hf0:YR a0 a1 a2=zec P S Q:=by rw[YR,hP,hS,hQ,zr,zr,zr]
  have hfe:zb5 a0 a1 a2=I (Zd P S Q):=by rw[zb5,hpl,hP,hS,hQ,zr,zr,zr];rfl
  have hne:Zd P S Q≠[]:=ZE.1 (by rw[Zd,yo];omega);generalize zbq:zb5=zme;generalize Zn:Qd=zak;generalize zl8:zi4=zAA;generalize zfq:zoe=znL;refine zI (T:=tab) (B:=[(59,zqX zme zak),(92,zj4 zAA znL)]) (Bi:=[]) [0,1,2] Tryz.func58 rfl rfl (by kernel_rfl) (ze rfl) mixed zR (by subst zbq Zn zl8 zfq;exact(zn zfN (zn zui zB))) (by subst zbq Zn zl8 zfq;exact zy) (by kernel_rfl) ?_;intro L lp rr hL hr hf hlp
  conv=>cbv
  simp only[zo hL,sQ,g0,g1,g2];subst zbq Zn zl8 zfq;rw[hfe,zA];refine⟨hqv,⟨⟨_,rfl⟩,?_⟩,?_⟩
  ·intro h;exact hne (by rw[<-zr (Zd P S Q),h];rfl)
  ·rw[hr,hf0,zi4,zr,zec];congr 1;rw[Ja,decide_eq_true_eq,zBs hne,yd];simp
 ·cases h
theorem zhl:yJ Tryz.prog 136 (QW YR Qd):=by
 intro args ps r h hp;unfold QW at h;split at h
 ·rename_i a0 a1 a2;simp only[za,zb]at h;obtain⟨rfl,rfl⟩:=h;have hqv:Qd a0 a1 a2:=(zm.1 hp).1;obtain⟨⟨⟨P,hP⟩,⟨S,hS⟩,⟨Q,hQ⟩⟩,hcl⟩:=id hqv;rw[hP,hS,hQ,zr,zr,zr]at hcl;have g0:V.frzs a0=a0:=by rw[hP,zA]
  have g1:V.frzs a1=a1:=by rw[hS,zA]
  have g2:V.frzs a2=a2:=by rw[hQ,zA]
  have hpl:a0.length=P.length:=by rw[hP,zj]
  have hsl:a1.length=P.length:=by rw[hS,zj,hcl.sl]
  have hql:a2.length=P.length:=by rw[hQ,zj,hcl.ql]
  have gp:∀k,a0.getD k (.int .i64 0)=.int .i64 (P.getD k 0):=fun k=>by rw[hP,zE]
  have gs:∀k,a1.getD k (.int .i64 0)=.int .i64 (S.getD k 0):=fun k=>by rw[hS,zE]
  have gq:∀k,a2.getD k (.int .i64 0)=.int .i64 (Q.getD k 0):=fun k=>by rw[hQ,zE]
  obtain⟨n,hn⟩:∃n:Int,n=P.length:=⟨_,rfl⟩;have n1:=hcl.n1;have n24:=hcl.n24;have low:=fun t ht=>hcl.low (i:=t) ht;have hf0:YR a0 a1 a2=zec P S Q:=by rw[YR,hP,hS,hQ,zr,zr,zr]
  have hfe:zb4 a0 a1 a2 a2=I (Zd P S Q):=by rw[zb4,hpl,hP,hS,hQ,zr,zr,zr];rfl
  obtain⟨vs,hvs⟩:∃vs,vs=I (Zd P S Q):=⟨_,rfl⟩;rw[<-hvs]at hfe;have hvl:vs.length=P.length:=by rw[hvs,zj,Zd,yo]
  have gv:∀k,vs.getD k (.int .i64 0)=.int .i64 ((Zd P S Q).getD k 0):=fun k=>by rw[hvs,zE]
  have hel:(Zd P S Q).length=P.length:=yo _ _;generalize zbp:zb4=zfA;generalize zcN:zqK=zhb;refine zI (T:=tab) (B:=[(146,zfa zfA zhb)]) (Bi:=[]) [0,1,2,3,4] Tryz.func136 rfl rfl (by kernel_rfl) (ze rfl) mixed zR (by subst zbp zcN;exact(zn zez zB)) (by subst zbp zcN;exact zy) (by kernel_rfl) ?_;intro L lp rr hL hr hf hlp;have Ee:zfA a0 a1 a2 a2=vs:=by rw[<-zbp];exact hfe
  have Qe:zhb a0 a1 a2 a2:=by rw[<-zcN];exact⟨hqv,rfl⟩
  conv=>cbv
  simp only[zo hL,sQ,g0,g1,g2,Ee];refine⟨Qe,?_⟩
  refine hlp (Int) _ _ _ [3,4] (fun x=>[(3,none,.val (.slc true 2 (.int .i64 0) vs)),(4,none,.val (.int .i64 x))])
   (fun x=>0<=x/\x<=P.length/\∀t,t<x.toNat->0<=(Zd P S Q).getD t 0) (fun x=>(P.length-x).toNat) (0) (by subst hL;rfl) ?_ ?_
  ·exact⟨by simp,by simp,fun t ht=>by simp at ht⟩
  rintro i ⟨i0,i1,hI⟩ hfx ag hag
  conv=>cbv
  simp only[zo hL,sQ,hvl,gv];refine⟨fun h2=>⟨i0,h2,by omega,fun h3=>?_,fun h3=>?_⟩,fun h2=>?_⟩
  ·rw[hr,hf0,zec]
   have:(Zd P S Q).all (fun x=>decide (0<=x))=false:=by
    rw[List.all_eq_false];refine⟨_,zlz (l:=Zd P S Q) (t:=i.toNat) (by omega),?_⟩;simpa using h3
   rw[this]
  ·rw[zl (n:=i+1) (by omega) (by omega)];refine hag (i+1) ⟨by omega,by omega,fun t ht=>?_⟩ (by omega)
   by_cases h4:t<i.toNat
   ·exact hI t h4
   ·rw[show t=i.toNat by omega];omega
  ·rw[hr,hf0,zec]
   have:(Zd P S Q).all (fun x=>decide (0<=x))=true:=by
    rw[yd];intro x hx;obtain⟨t,ht,rfl⟩:=zCH hx;simpa using hI t (by omega)
   rw[this]
 ·cases h
def KS(l:List Int):Nat->List (List Int)
 |0=>[]
 |i+1=>KS l i++if 0<l.getD i 0 then[[(i:Int),l.getD i 0]]else[]
theorem zlH(l:List Int):∀i,(KS l i).length<=i
 |0=>by simp[KS]
 |i+1=>by
  have:=zlH l i;rw[KS,zq];split<;>simp<;>omega
def zgZ(a b c:List V):List V:=II true (KS (Zd (yO a) (yO b) (yO c)) a.length)
theorem zyH(xs:List Int):II true [xs]=[.slc true 2 (.int .i64 0) (I xs)]:=rfl
theorem zkm:yJ Tryz.prog 137 (zj7 zgZ Qd):=by
 intro args ps r h hp;unfold zj7 at h;split at h
 ·rename_i a0 a1 a2;simp only[za,zb]at h;obtain⟨rfl,rfl⟩:=h;have hqv:Qd a0 a1 a2:=(zm.1 hp).1;obtain⟨⟨⟨P,hP⟩,⟨S,hS⟩,⟨Q,hQ⟩⟩,hcl⟩:=id hqv;rw[hP,hS,hQ,zr,zr,zr]at hcl;have g0:V.frzs a0=a0:=by rw[hP,zA]
  have g1:V.frzs a1=a1:=by rw[hS,zA]
  have g2:V.frzs a2=a2:=by rw[hQ,zA]
  have hpl:a0.length=P.length:=by rw[hP,zj]
  have hsl:a1.length=P.length:=by rw[hS,zj,hcl.sl]
  have hql:a2.length=P.length:=by rw[hQ,zj,hcl.ql]
  have gp:∀k,a0.getD k (.int .i64 0)=.int .i64 (P.getD k 0):=fun k=>by rw[hP,zE]
  have gs:∀k,a1.getD k (.int .i64 0)=.int .i64 (S.getD k 0):=fun k=>by rw[hS,zE]
  have gq:∀k,a2.getD k (.int .i64 0)=.int .i64 (Q.getD k 0):=fun k=>by rw[hQ,zE]
  obtain⟨n,hn⟩:∃n:Int,n=P.length:=⟨_,rfl⟩;have n1:=hcl.n1;have n24:=hcl.n24;have low:=fun t ht=>hcl.low (i:=t) ht;have hf0:zgZ a0 a1 a2=II true (KS (Zd P S Q) P.length):=by rw[zgZ,hpl,hP,hS,hQ,zr,zr,zr]
  have hfe:zb4 a0 a1 a2 a2=I (Zd P S Q):=by rw[zb4,hpl,hP,hS,hQ,zr,zr,zr];rfl
  obtain⟨E,hE⟩:∃E,E=Zd P S Q:=⟨_,rfl⟩;rw[<-hE]at hf0 hfe;obtain⟨vs,hvs⟩:∃vs,vs=I E:=⟨_,rfl⟩;rw[<-hvs]at hfe;have hvl:vs.length=P.length:=by rw[hvs,zj,hE,Zd,yo]
  have gv:∀k,vs.getD k (.int .i64 0)=.int .i64 (E.getD k 0):=fun k=>by rw[hvs,zE]
  generalize zbp:zb4=zfA;generalize zcN:zqK=zhb;refine zI (T:=tab) (B:=[(146,zfa zfA zhb)]) (Bi:=[]) [0,1,2,3,4,5] Tryz.func137 rfl rfl (by kernel_rfl) (ze rfl) mixed zR (by subst zbp zcN;exact(zn zez zB)) (by subst zbp zcN;exact zy) (by kernel_rfl) ?_;intro L lp rr hL hr hf hlp;have Ee:zfA a0 a1 a2 a2=vs:=by rw[<-zbp];exact hfe
  have Qe:zhb a0 a1 a2 a2:=by rw[<-zcN];exact⟨hqv,rfl⟩
  conv=>cbv
  simp only[zo hL,sQ,g0,g1,g2,Ee,hvl,<-hn];refine⟨Qe,?_⟩
  refine hlp (List V×Int) _ _ _ [3,4,5] (fun x=>[(3,none,.val (.slc true 2 (.int .i64 0) vs)),(4,none,.val (.slc true 29 (.slc true 2 (.int .i64 0) []) x.1)),(5,none,.val (.int .i64 x.2))])
   (fun x=>0<=x.2/\x.2<=n/\x.1=II true (KS E x.2.toNat)) (fun x=>(n-x.2).toNat) (([],0)) (by subst hL;rfl) ?_ ?_
  ·exact⟨by simp,by simp only;omega,rfl⟩
  rintro⟨os,i⟩ ⟨i0,i1,hO⟩ hfx ag hag;simp only at i0 i1 hO
  have hol:os.length<=24:=by
   have:=zlH E i.toNat
   rw[hO,yf];omega
  conv=>cbv
  simp only[zo hL,sQ,gv,hvl,<-hn];refine⟨fun h2=>?_,fun h2=>?_⟩
  ·rw[zl (n:=i+1) (by omega) (by omega)];refine⟨i0,by omega,by omega,fun h3=>?_,fun h3=>?_⟩
   ·have hnx:os++[V.slc true 2 (.int .i64 0) [V.int .i64 i,V.int .i64 (E.getD i.toNat 0)]]=II true (KS E (i.toNat+1)):=by
     rw[KS,if_pos h3,hO,show((i.toNat:Nat):Int)=i by omega,uP,zyH];rfl
    (repeat' first|(exact yY _)|(exact jT rfl)|(exact qO _)|(apply And.intro)|(intro _))<;>(try first|exact True.intro|omega|rfl|(simp only[zi,zp,zj];omega))
    refine hag (_,i+1) ⟨by simp only;omega,by simp only;omega,?_⟩ (by simp only;omega);simp only[zF i0];exact hnx
   ·refine hag (os,i+1) ⟨by simp only;omega,by simp only;omega,?_⟩ (by simp only;omega);simp only[zF i0];rw[KS,if_neg h3,List.append_nil];exact hO
  ·rw[hr,hf0,hO,show i.toNat=P.length by omega]
 ·cases h
def shN(a b:List Int):Nat:=(a.filter fun x=>decide (x∈b)).length
theorem zy8{a b:List Int}{i:Nat}(h:i<a.length):shN (a.take (i+1)) b=shN (a.take i) b+if a.getD i 0∈b then 1 else 0:=by
 rw[shN,shN,zP h,List.filter_append,zq,zvg h];congr 1;by_cases hb:a.getD i 0∈b
 ·rw[List.filter_cons_of_pos (by simpa using hb),if_pos hb];rfl
 ·rw[List.filter_cons_of_neg (by simpa using hb),if_neg hb];rfl
theorem zCs(a b:List Int):shN a b<=a.length:=List.length_filter_le _ _
theorem zy9{a b:List Int}(ha:a.Nodup)(hb:b.Nodup):shN a b=shN b a:=by
 have hp:(a.filter fun x=>decide (x∈b)).Perm (b.filter fun x=>decide (x∈a)):=by
  rw[List.perm_ext_iff_of_nodup (ha.filter _) (hb.filter _)];intro x;simp only[List.mem_filter,decide_eq_true_eq];exact⟨fun h=>⟨h.2,h.1⟩,fun h=>⟨h.2,h.1⟩⟩
 exact hp.length_eq
end Go.Ax
namespace Go.Ax
open Go.Proofs
def Kt:Nat->List Nat->Nat
 |_,[]=>0
 |t,c::cs=>if c=t then Kt (t+1) cs+1 else 0
def mC:List Nat->List Nat
 |[]=>[1]
 |_::cs=>((mC cs).take (Kt 2 cs+1)).sum::mC cs
theorem QI:∀cs:List Nat,(mC cs).length=cs.length+1
 |[]=>rfl
 |_::cs=>by rw[mC,zi,QI cs,zi]
theorem zva:∀(cs:List Nat) (t:Nat),Kt t cs<=cs.length
 |[],_=>zt _
 |c::cs,t=>by
  rw[Kt];split
  ·have:=zva cs (t+1);simp only[zi];omega
  ·exact Nat.zero_le _
theorem zr4:∀(cs:List Nat),∀x∈mC cs,1<=x
 |[],x,h=>by simp only[mC,ya]at h;omega
 |c::cs,x,h=>by
  rw[mC]at h;rcases zC.1 h with h|h
  ·have hl:=QI cs
   cases hm:mC cs with
   |nil=>rw[hm]at hl;simp at hl
   |cons y l=>
    have:=zr4 cs y (by rw[hm];simp);rw[h,hm,uD,Zy];omega
  ·exact zr4 cs x h
theorem zu8:∀(cs:List Nat) (t q:Nat),2<=t->q<=Kt t cs->∀j,j<q->(mC cs).getD j 0=(mC cs).getD 0 0
 |[],t,q,_,hq,j,hj=>by rw[Kt]at hq;omega
 |c::cs,t,q,ht,hq,j,hj=>by
  rw[Kt]at hq;split at hq
  ·rename_i hc
   cases j with
   |zero=>rfl
   |succ j=>
    have ih:=zu8 cs (t+1) (q-1) (by omega) (by omega) j (by omega);rw[mC,yT,ih,qr]
    have h0:Kt 2 cs=0:=by
     cases cs with
     |nil=>rfl
     |cons d cs=>
      rw[Kt]at hq ⊢;split at hq
      ·rw[if_neg (by omega)]
      ·omega
    have hl:=QI cs;rw[h0]
    cases hm:mC cs with
    |nil=>rw[hm]at hl;simp at hl
    |cons y l=>simp
  ·omega
theorem Val.up:∀(l:List Nat) {p e s:Nat},e ∣ s->(∀t∈l,t+s<=2000)->Val p e l->Val (p+s) e (l.map (·+s))/\uO (p+s) e (l.map (·+s))=uO p e l
 |[],p,e,s,_,_,h=>⟨h,rfl⟩
 |t::l,p,e,s,he,hs,h=>by
  obtain⟨h1,h2,h3,h4⟩:=h
  have hg:Nat.gcd e (t+s)=Nat.gcd e t:=by
   obtain⟨k,rfl⟩:=he;rw[ua,JT]
  obtain⟨i1,i2⟩:=Val.up l (s:=s) (Nat.dvd_trans (Nat.gcd_dvd_left e t) he) (fun x hx=>hs x (zx _ hx)) h4;have hb:=hs t (by simp);refine⟨⟨show p+s<t+s by omega,hb,by rw[hg];exact h3,by rw[hg];exact i1⟩,?_⟩;simp only[yX,uO];rw[hg,i2,show t+s-(p+s)=t-p by omega]
theorem zq8{a b:Nat}{x:List Nat}:∀k:Nat,(List.replicate k a++b::x).take (k+1)=List.replicate k a++[b]
 |0=>rfl
 |k+1=>by rw[yw,zV,uD,zq8 k];rfl
theorem zuK(a b:Nat):∀k:Nat,(List.replicate k a++[b]).sum=k*a+b
 |0=>by simp
 |k+1=>by rw[yw,zV,Zy,zuK a b k,Nat.add_mul];omega
theorem zpI{a:Nat}:∀(k:Nat) (L:List Nat),k<L.length->(∀j,j<k->L.getD j 0=a)->∃b x,L=List.replicate k a++b::x
 |_,[],h,_=>by simp at h
 |0,y::L,_,_=>⟨y,L,rfl⟩
 |k+1,y::L,h,hs=>by
  obtain⟨b,x,hx⟩:=zpI k L (by simpa using h) (fun j hj=>by simpa using hs (j+1) (by omega));have h0:y=a:=by simpa using hs 0 (by omega)
  exact⟨b,x,by rw[hx,h0,yw];rfl⟩
theorem zpR{a r b:Nat}(hr:r≠a){X x:List Nat}:∀(k q:Nat),List.replicate q a++r::X=List.replicate k a++b::x->(k<q/\b=a)\/(k=q/\b=r)
 |0,0,h=>by simp at h;exact .inr ⟨rfl,h.1.symm⟩
 |0,q+1,h=>by rw[yw]at h;simp at h;exact .inl ⟨by omega,h.1.symm⟩
 |k+1,0,h=>by rw[yw]at h;simp at h;exact absurd h.1 hr
 |k+1,q+1,h=>by
  rw[yw,yw]at h;simp only[zV,List.cons.injEq,true_and]at h;have:=zpR hr k q h;omega
theorem zxW:∀(cs:List Nat),cs.length<=30->(∀x∈mC cs,x<=64)->∃n l m,BrN n l/\mC cs=uO 0 n l++List.replicate m 1/\(mC cs).getD 0 0=n/\∀t∈l,t<=64*(cs.length+1)
 |[],_,_=>⟨1,[],1,⟨by omega,by omega,rfl⟩,rfl,rfl,fun t ht=>by cases ht⟩
 |c::cs,hl,hb=>by
  rw[mC]at hb;simp only[zi]at hl ⊢;obtain⟨a,l,m,hB,hL,ha,ht⟩:=zxW cs (by omega) (fun x hx=>hb x (zx _ hx));have hlen:=QI cs;have hle:=zva cs 2;obtain⟨k,hk⟩:∃k,k=Kt 2 cs:=⟨_,rfl⟩;rw[<-hk]at hle;have hsame:∀j,j<k->(mC cs).getD j 0=a:=fun j hj=>by rw[zu8 cs 2 k (by omega) (by omega) j hj,ha]
  obtain⟨b,x,hx⟩:=zpI k (mC cs) (by omega) hsame;have hn:((mC cs).take (k+1)).sum=k*a+b:=by rw[hx,zq8,zuK]
  obtain⟨n,hnn⟩:∃n,n=k*a+b:=⟨_,rfl⟩;have hn64:n<=64:=by rw[hnn,<-hn,hk];exact hb _ (by simp)
  have hb1:1<=b:=zr4 cs b (by rw[hx];simp);have hb64:b<=64:=hb b (zx _ (by rw[hx];simp));have ha1:=hB.lo;have ha64:=hB.hi;rw[mC,<-hk,hn,<-hnn];by_cases hk0:k=0
  ·
    subst hk0;have hba:b=a:=(by rw[<-ha,hx];rfl);have hna:n=a:=(by rw[hnn,hba];omega);rw[hna]
    cases l with
    |nil=>
     have h1:a=1:=hB.val;subst h1;exact⟨1,[],m+1,hB,by rw[hL];rfl,rfl,fun t ht=>by cases ht⟩
    |cons t l=>
     have ht0:=ht t (by simp);obtain⟨v1,v2⟩:=Val.up (t::l) (p:=a) (e:=a) (s:=a) (zfi a) (fun y hy=>by have:=ht y hy;omega) hB.val;refine⟨a,(t::l).map (·+a),m,⟨ha1,ha64,v1.weak (by omega)⟩,?_,rfl,fun y hy=>?_⟩
     ·have v0:=(Val.up (t::l) (p:=0) (e:=a) (s:=a) (zfi a) (fun y hy=>by have:=ht y hy;omega) (hB.val.weak (by omega))).2;rw[hL,<-v0];simp only[yX,uO,Zi]
      have e1:ex (t+a) a=a::ex (t+a-(0+a)) a:=by
       rw[show t+a-(0+a)=t by omega,kL (by omega),kL (show 0<a by omega),zaI _ (by omega),zaH,yw,zV]
      rw[e1];rfl
     ·obtain⟨z,hz,rfl⟩:=jP.1 hy;have:=ht z hz;omega
  ·cases l with
   |nil=>
    have h1:a=1:=hB.val;subst h1
    have hall:∀y∈mC cs,y=1:=fun y hy=>by
     rw[hL]at hy;simp only[uO,List.nil_append]at hy;exact List.eq_of_mem_replicate hy
    have hbe:b=1:=hall b (by rw[hx];simp);have hn1:n=k+1:=by rw[hnn,hbe];omega
    have hm:m=cs.length+1:=by
     rw[<-hlen,hL];simp[uO]
    refine⟨n,[n+1],m-n,⟨by omega,hn64,by omega,by omega,?_,?_⟩,?_,rfl,fun y hy=>?_⟩
    ·rw[Jo];simp;omega
    ·rw[Jo];simp[Val]
    ·rw[hL];simp only[uO,Zi,List.append_nil,List.nil_append]
     have e1:ex (n+1) n=n::List.replicate n 1:=by
      rw[kL (by omega),Yl n 1,zaI _ (by omega),zaH,zfj (by omega),ZJ (by omega),kL (by omega),Nat.div_one,Nat.mod_one,zbz];simp
     rw[e1,zV,jc,show n+(m-n)=m by omega]
    ·simp only[ya]at hy;omega
   |cons t l=>
    have hv:=hB.val;obtain⟨v1,v2,v3,v4⟩:=id hv
    have hnd:¬a ∣ t:=by
     intro hd;exact v3 (Nat.gcd_eq_left hd)
    obtain⟨X,hX,hr0,hr1⟩:=zj2 (show 0<a by omega) hnd;obtain⟨q,hq⟩:∃q,q=t/a:=⟨_,rfl⟩;obtain⟨r,hr⟩:∃r,r=t%a:=⟨_,rfl⟩;rw[<-hq,<-hr]at hX;rw[<-hr]at hr0 hr1;have htq:t=q*a+r:=by rw[hq,hr,ua];exact(Nat.div_add_mod t a).symm
    have hL2:mC cs=List.replicate q a++r::(X++(uO t (Nat.gcd a t) l++List.replicate m 1)):=by
     rw[hL,uO,Zi,hX];simp
    have ht2:∀y∈t::l,y+a<=2000:=fun y hy=>(by have:=ht y hy;omega);have hcase:=zpR (by omega) k q (hL2.symm.trans hx);have htb:=ht t (by simp);rcases hcase with⟨hkq,hba⟩|⟨hkq,hbr⟩
    ·
      have hn1:n=(k+1)*a:=by rw[hnn,hba,Nat.add_mul];omega
      have hlt:n+a<=t+a:=by
       have:(k+1)*a<=q*a:=yU a (by omega);omega
      have hlt2:n<t:=by
       have:(k+1)*a<=q*a:=yU a (by omega);omega
      have hna:a<n:=by
       have:2*a<=(k+1)*a:=yU a (by omega);omega
      have hgcd:Nat.gcd n (n+a)=a:=by
       rw[Jo,hn1,Nat.gcd_comm,Nat.gcd_mul_left_right]
      obtain⟨u1,u2⟩:=Val.up (t::l) (p:=n) (e:=a) (s:=a) (zfi a) ht2 ⟨hlt2,v2,v3,v4⟩;refine⟨n,(n+a)::(t::l).map (·+a),m,⟨by omega,hn64,by omega,by omega,by rw[hgcd];omega,by rw[hgcd];exact u1⟩,?_,rfl,fun y hy=>?_⟩
      ·rw[uO,Zi,hgcd,u2]
       have e1:ex (n+a) n=n::List.replicate (k+1) a:=by
        rw[kL (by omega),Yl n a,zaI _ (by omega),zaH,zfj hna,ZJ hna,kL (by omega),hn1,Nat.mul_div_cancel _ (by omega),Nat.mul_mod_left,zbz];simp
       have e2:ex t a=List.replicate (k+1) a++ex (t-n) a:=by
        have e3:t=(t-n)+a*(k+1):=(by rw[ua,<-hn1];omega);rw[kL (by omega),kL (show 0<a by omega) (a:=t-n)]
        conv=>lhs;rw[e3]
        rw[Nat.add_mul_div_left _ _ (by omega),Nat.add_mul_mod_self_left,Yl,<-jc,zZ]
       rw[e1,hL,uO,uO,Zi,e2];simp
      ·rcases zC.1 hy with rfl|hy
       ·omega
       ·obtain⟨z,hz,rfl⟩:=jP.1 hy;have:=ht z hz;omega
    ·
      have hn1:n=t:=(by rw[hnn,hkq,hbr];exact htq.symm);have hgcd:Nat.gcd n (n+a)=Nat.gcd a t:=(by rw[Jo,hn1,Nat.gcd_comm]);obtain⟨u1,u2⟩:=Val.up l (p:=t) (e:=Nat.gcd a t) (s:=a) (Nat.gcd_dvd_left a t) (fun y hy=>ht2 y (zx _ hy)) v4;have hga:Nat.gcd a t<=a:=Nat.gcd_le_left t (by omega);refine⟨n,(n+a)::l.map (·+a),m,⟨by omega,hn64,by omega,by omega,by rw[hgcd];omega,by rw[hgcd,hn1];exact u1⟩,?_,rfl,fun y hy=>?_⟩
      ·have e1:ex (n+a) n=n::ex t a:=by
        rw[kL (by omega),Yl n a,zaI _ (by omega),zaH,zfj (by omega),ZJ (by omega),hn1];simp
       rw[uO,Zi,hgcd,e1,hL,uO,Zi];rw[hn1]at*;rw[u2];simp
      ·rcases zC.1 hy with rfl|hy
       ·omega
       ·obtain⟨z,hz,rfl⟩:=jP.1 hy;have:=ht z (zx _ hz);omega
end Go.Ax
namespace Go.Ax
open Go.Proofs
def VC(cs:List Nat):Prop:=∀i,i<cs.length->cs.getD i 0=0\/(1<=i/\(cs.getD i 0=2\/(3<=cs.getD i 0/\cs.getD (i-1) 0+1=cs.getD i 0)))
theorem VC.le{cs:List Nat}(h:VC cs):∀i,i<cs.length->cs.getD i 0<=i+1/\cs.getD i 0≠1
 |0,hi=>by rcases h 0 hi with h|⟨h,_⟩<;>omega
 |i+1,hi=>by
  have ih:=VC.le h i (by omega);rcases h (i+1) hi with h|⟨_,h|⟨h1,h2⟩⟩
  ·omega
  ·omega
  ·simp only[qB]at h2;omega
def hdM(cs:List Nat):Nat:=(mC cs).getD 0 0
def QM(cs:List Nat)(j i:Nat):Nat:=((mC (cs.drop j)).tail.take (Kt (j+1-i) (cs.drop j))).sum
def Yi(cs:List Nat)(j:Nat):List Nat:=yI (fun i=>if i<j then QM cs j i else hdM (cs.drop i)) (cs.length+1)
theorem zbb(cs:List Nat)(j:Nat):(Yi cs j).length=cs.length+1:=yo _ _
theorem KL{cs:List Nat}{j i:Nat}(h:i<=cs.length):(Yi cs j).getD i 0=if i<j then QM cs j i else hdM (cs.drop i):=jx _ _ _ _ (by omega)
theorem zas(cs:List Nat):mC cs=hdM cs::(mC cs).tail:=by
 have hl:=QI cs;rw[hdM]
 cases hm:mC cs with
 |nil=>rw[hm]at hl;simp at hl
 |cons x l=>rfl
theorem zg1{cs:List Nat}{j:Nat}(h:j<cs.length):cs.drop j=cs.getD j 0::cs.drop (j+1):=by
 rw[List.drop_eq_getElem_cons h,zd,zg h];rfl
theorem zgR:∀(cs:List Nat) (j:Nat),j<=cs.length->(mC cs).getD j 0=hdM (cs.drop j)
 |cs,0,_=>rfl
 |[],j+1,h=>by simp at h
 |c::cs,j+1,h=>by
  rw[mC,yT,List.drop_succ_cons];exact zgR cs j (by simpa using h)
theorem zzE(cs:List Nat):Yi cs 0=mC cs:=by
 apply yC;intro i;by_cases hi:i<=cs.length
 ·have h1:=KL (j:=0) hi;rw[if_neg (by omega),<-zgR cs i hi]at h1;rw[zd,zd,zg (by rw[zbb];omega),zg (by rw[QI];omega)]at h1;rw[zg (by rw[zbb];omega),zg (by rw[QI];omega)];exact congrArg some h1
 ·rw[zD (by rw[zbb];omega),zD (by rw[QI];omega)]
theorem zoS{cs:List Nat}{j:Nat}(h:j<cs.length):QM cs (j+1) j+hdM (cs.drop (j+1))=hdM (cs.drop j):=by
 rw[QM,show j+1+1-j=2 by omega,zg1 h]
 have h1:hdM (cs.getD j 0::cs.drop (j+1))=((mC (cs.drop (j+1))).take (Kt 2 (cs.drop (j+1))+1)).sum:=by
  rw[hdM,mC];rfl
 rw[h1]
 conv=>rhs;rw[zas]
 rw[uD,Zy];omega
theorem zC6{cs:List Nat}{j i:Nat}(h:j<cs.length)(hi:i<j)(hc:cs.getD j 0=j+1-i):QM cs (j+1) i+hdM (cs.drop (j+1))=QM cs j i:=by
 rw[QM,QM,zg1 h,mC,List.tail_cons,Kt,if_pos hc,show j+1-i+1=j+1+1-i by omega]
 conv=>rhs;rw[zas]
 rw[uD,Zy];omega
theorem zvD{cs:List Nat}(hv:VC cs){j i:Nat}(h:j<cs.length)(hi:i<j)(hc:cs.getD j 0≠j+1-i):QM cs j i=0/\QM cs (j+1) i=0:=by
 constructor
 ·rw[QM,zg1 h,Kt,if_neg hc];simp
 ·rw[QM];by_cases h1:j+1<cs.length
  ·rw[zg1 h1,Kt,if_neg]
   ·simp
   ·intro h2;rcases hv (j+1) h1 with h3|⟨_,h3|⟨h3,h4⟩⟩
    ·omega
    ·omega
    ·simp only[qB]at h4;omega
  ·rw[km (by omega)];simp[Kt]
theorem znU{α:Type}(f:Nat->α){n i:Nat}(x:α)(h:i<n):(yI f n).set i x=yI (fun t=>if t=i then x else f t) n:=by
 apply yC;intro j;rw[List.getElem?_set];by_cases hj:j<n
 ·rw[uz _ _ _ hj,uz _ _ _ hj];by_cases h1:i=j
  ·rw[if_pos h1,if_pos (by rw[yo];exact h),if_pos h1.symm]
  ·rw[if_neg h1,if_neg (Ne.symm h1)]
 ·rw[if_neg (by omega),zD (by rw[yo];omega),zD (by rw[yo];omega)]
theorem zxT{cs:List Nat}(hv:VC cs){j:Nat}(h:j<cs.length)(hc:cs.getD j 0=0):(Yi cs (j+1)).set j ((Yi cs (j+1)).getD j 0+(Yi cs (j+1)).getD (j+1) 0)=Yi cs j:=by
 rw[KL (by omega),KL (by omega),if_pos (by omega),if_neg (by omega),zoS h,Yi,znU _ _ (by omega),Yi];refine jd fun i hi=>?_;by_cases h1:i=j
 ·rw[if_pos h1,if_neg (by omega),h1]
 ·rw[if_neg h1];by_cases h2:i<j
  ·obtain⟨q1,q2⟩:=zvD hv h h2 (by omega);rw[if_pos (by omega),if_pos h2,q1,q2]
  ·rw[if_neg (by omega),if_neg h2]
theorem zzD{cs:List Nat}(hv:VC cs){j c:Nat}(h:j<cs.length)(hc:cs.getD j 0=c)(h0:c≠0):
 ((Yi cs (j+1)).set j ((Yi cs (j+1)).getD j 0+(Yi cs (j+1)).getD (j+1) 0)).set (j+1-c) ((Yi cs (j+1)).getD (j+1-c) 0+(Yi cs (j+1)).getD (j+1) 0)=Yi cs j/\j+1-c<j/\c<=j+1:=by
 have hle:=hv.le j h;rw[hc]at hle;refine⟨?_,by omega,by omega⟩;have hlt:j+1-c<j:=by omega
 have e:=zC6 h hlt (show cs.getD j 0=j+1-(j+1-c) by omega);rw[KL (by omega),KL (by omega),KL (by omega),if_pos (by omega),if_neg (by omega),if_pos (by omega),zoS h,e,Yi,znU _ _ (by omega),znU _ _ (by omega),Yi];refine jd fun i hi=>?_;by_cases h1:i=j+1-c
 ·rw[if_pos h1,if_pos (by omega),h1]
 ·rw[if_neg h1];by_cases h3:i=j
  ·rw[if_pos h3,if_neg (by omega),h3]
  ·rw[if_neg h3];by_cases h2:i<j
   ·obtain⟨q1,q2⟩:=zvD hv h h2 (by omega);rw[if_pos (by omega),if_pos h2,q1,q2]
   ·rw[if_neg (by omega),if_neg h2]
theorem zwM(cs:List Nat):Yi cs cs.length=List.replicate cs.length 0++[1]:=by
 apply yC;intro i;rw[Yi];by_cases hi:i<cs.length
 ·rw[uz _ _ _ (by omega),if_pos hi,yj (by simpa using hi),List.getElem?_replicate,if_pos hi,QM,km (by omega)];simp[mC]
 ·by_cases h2:i=cs.length
  ·rw[uz _ _ _ (by omega),if_neg hi,h2,ye (by simp),km (by omega)];simp[hdM,mC]
  ·rw[zD (by rw[yo];omega),zD (by simp;omega)]
theorem zpG{B:Nat}:∀(l:List Nat),(∀x∈l,x<=B)->l.sum<=B*l.length
 |[],_=>by simp
 |x::l,h=>by
  have h1:=h x (by simp);have h2:=zpG l (fun y hy=>h y (zx _ hy));rw[Zy,zi,Nat.mul_add];omega
theorem zwN{cs:List Nat}{j:Nat}(hj:j<=cs.length)(h:∀i,j<i->i<=cs.length->hdM (cs.drop i)<=64):∀i,i<=cs.length->(Yi cs j).getD i 0<=64*(cs.length+1):=by
 have hall:∀x∈(mC (cs.drop j)).tail,x<=64:=by
  intro x hx;obtain⟨t,ht,rfl⟩:=qK.1 hx;have hl:=QI (cs.drop j);simp only[YT,yH]at ht hl;have h1:=zgR (cs.drop j) (t+1) (by rw[yH];omega);rw[List.drop_drop]at h1;have h2:=h (j+(t+1)) (by omega) (by omega);rw[<-h1,zas,yT,zd,zg (by rw[YT];omega)]at h2;exact h2
 have hlen:(mC (cs.drop j)).tail.length<=cs.length:=by
  rw[YT,QI,yH];omega
 have htake:∀q,((mC (cs.drop j)).tail.take q).sum<=64*cs.length:=fun q=>by
  have h1:=zpG ((mC (cs.drop j)).tail.take q) (fun x hx=>hall x (List.mem_of_mem_take hx));have h2:((mC (cs.drop j)).tail.take q).length<=cs.length:=by rw[yb];omega
  have:=Nat.mul_le_mul_left 64 h2;omega
 intro i hi;rw[KL hi];split
 ·rw[QM];have:=htake (Kt (j+1-i) (cs.drop j));omega
 ·by_cases h2:i=j
  ·rw[h2];by_cases h3:j<cs.length
   ·have h4:=zoS h3;have h5:=h (j+1) (by omega) (by omega)
    have h6:QM cs (j+1) j<=64*cs.length:=by
     rw[QM];have hd:=zg1 h3;have:(mC (cs.drop j)).tail=mC (cs.drop (j+1)):=(by rw[hd,mC,List.tail_cons]);have h7:=htake (Kt (j+1+1-j) (cs.drop (j+1))+1);rw[this,zas,uD,Zy]at h7;omega
    omega
   ·rw[km (by omega)];simp only[hdM,mC,qr];omega
  ·have:=h i (by omega) hi;omega
end Go.Ax
namespace Go.Ax
open Go.Proofs
def upL(P:List Int):Nat->Int->List Int
 |0,_=>[]
 |f+1,i=>if i<0 then[]else i::upL P f (P.getD i.toNat 0)
def yG(P:List Int)(i:Int):List Int:=(upL P 32 i).reverse
section
variable {P S Q:List Int}
theorem zmk(h:ClP P S Q):∀(f:Nat) (i:Int),i<P.length->i<f->-1<=i->∀g,f<=g->upL P g i=upL P f i
 |0,i,_,h2,_,g,_=>by
  have:i= -1:=by omega
  subst this
  cases g with
  |zero=>rfl
  |succ g=>
   have:upL P (g+1) (-1)=[]:=(by rw[upL];exact if_pos (by omega));rw[this];rfl
 |f+1,i,h1,h2,h3,g,hg=>by
  obtain⟨k,rfl⟩:∃k,g=k+1:=⟨g-1,by omega⟩;rw[upL,upL];by_cases h0:i<0
  ·rw[if_pos h0,if_pos h0]
  ·rw[if_neg h0,if_neg h0];have hl:=h.low (i:=i.toNat) (by omega);rw[zmk h f _ (by omega) (by omega) (by omega) k (by omega)]
theorem zrC:yG P (-1)=[]:=by
 rw[yG,upL,if_pos (by omega)];rfl
theorem QG(h:ClP P S Q){i:Int}(h0:0<=i)(h1:i<P.length):yG P i=yG P (P.getD i.toNat 0)++[i]:=by
 have hl:=h.low (i:=i.toNat) (by omega);have hn:=h.n24;rw[yG,yG,upL,if_neg (by omega),List.reverse_cons,zmk h 31 _ (by omega) (by omega) (by omega) 32 (by omega)]
theorem zrD(h:ClP P S Q){p:Int->Prop}(hn:p (-1))(hs:∀i:Int,0<=i->i<P.length->p (P.getD i.toNat 0)->p i):∀i:Int,-1<=i->i<P.length->p i:=by
 have key:∀(n:Nat) (i:Int),i<n->-1<=i->i<P.length->p i:=by
  intro n
  induction n with
  |zero=>
   intro i h1 h2 _;have:i= -1:=(by omega);rw[this];exact hn
  |succ n ih=>
   intro i h1 h2 h3;by_cases h0:i<0
   ·have:i= -1:=(by omega);rw[this];exact hn
   ·have hl:=h.low (i:=i.toNat) (by omega);exact hs i (by omega) h3 (ih _ (by omega) (by omega) (by omega))
 exact fun i h1 h2=>key (i+1).toNat i (by omega) h1 h2
theorem zeG(h:ClP P S Q):∀i:Int,-1<=i->i<P.length->(∀x∈yG P i,0<=x/\x<=i)/\(yG P i).Pairwise (·< ·):=by
 refine zrD h ?_ (fun i h0 h1 ih=>?_)
 ·rw[zrC];exact⟨fun x hx=>(by cases hx),List.Pairwise.nil⟩
 ·have hl:=h.low (i:=i.toNat) (by omega);rw[QG h h0 h1];refine⟨fun x hx=>?_,?_⟩
  ·rcases qz.1 hx with hx|hx
   ·have:=ih.1 x hx;omega
   ·rw[ya]at hx;omega
  ·rw[List.pairwise_append];refine⟨ih.2,by simp,fun a ha b hb=>?_⟩;rw[ya]at hb;have:=ih.1 a ha;omega
theorem zhs(h:ClP P S Q){i:Int}(h0: -1<=i)(h1:i<P.length):(yG P i).Nodup:=(zeG h i h0 h1).2.imp (fun h=>by omega)
theorem zcr(h:ClP P S Q){i:Int}(h0: -1<=i)(h1:i<P.length):(yG P i).length<=24:=by
 have h2:=zeG h i h0 h1;have h3:=zp0 (yG P i) (n:=P.length) (zhs h h0 h1) (fun x hx=>by have:=h2.1 x hx;omega);have:=h.n24;omega
theorem ziW{l:List Int}{x:Int}(h:x∈l):idx l x=(l.idxOf x:Nat):=by
 rw[idx];have hlt:=zad.2 h
 have:((List.range l.length).find? fun t=>l.getD t 0==x)=some (l.idxOf x):=by
  rw[Zm];refine⟨?_,by simpa using hlt,fun t ht=>?_⟩
  ·rw[zd,zg hlt];simp
  ·rw[zd,zg (by omega)];have:=List.not_of_lt_findIdx (p:=(·==x)) (xs:=l) (i:=t) ht;simpa using this
 rw[this]
def Kv(S p:List Int)(j:Nat):Nat:=if 0<=S.getD (p.getD j 0).toNat 0 then((j:Int)-idx p (S.getD (p.getD j 0).toNat 0)).toNat else 0
def cdN(S p:List Int):List Nat:=yI (fun t=>Kv S p (t+1)) (p.length-1)
theorem zg4(S p:List Int):(cdN S p).length=p.length-1:=yo _ _
theorem zvf{l l':List Int}{x:Int}(h:x∈l):idx (l++l') x=idx l x:=by
 rw[ziW h,ziW (qz.2 (.inl h)),zdQ,if_pos h]
theorem zzT{l l':List Int}{j:Nat}(h:j<l.length):(l++l').getD j 0=l.getD j 0:=by
 rw[zd,zd,yj h]
theorem zqc(l:List Int)(x:Int):(l++[x]).getD l.length 0=x:=by simp[zd]
theorem zAa{S p:List Int}{i:Int}(hp:∀x∈p,0<=S.getD x.toNat 0->S.getD x.toNat 0∈p){j:Nat}(hj:j<p.length):Kv S (p++[i]) j=Kv S p j:=by
 rw[Kv,Kv,zzT hj];split
 ·rename_i h0;rw[zvf (hp _ (by rw[zd,zg hj];exact yE _) h0)]
 ·rfl
theorem zBX{S p:List Int}{i:Int}(hp:∀x∈p,0<=S.getD x.toNat 0->S.getD x.toNat 0∈p)(hne:p≠[]):cdN S (p++[i])=cdN S p++[Kv S (p++[i]) p.length]:=by
 have hl:=ZE.2 hne;rw[cdN,zq,qj,qB,show p.length=(p.length-1)+1 by omega,JX];congr 1;exact jd fun t ht=>zAa hp (by omega)
theorem zpW(h:ClP P S Q):∀i:Int,-1<=i->i<P.length->(∀x∈yG P i,0<=S.getD x.toNat 0->S.getD x.toNat 0∈yG P i)/\VC (cdN S (yG P i)):=by
 refine zrD h ?_ (fun i h0 h1 ih=>?_)
 ·rw[zrC];exact⟨fun x hx=>by(cases hx),fun i hi=>by(rw[zg4]at hi;simp at hi)⟩
 ·have hl:=h.low (i:=i.toNat) (by omega);obtain⟨ih1,ih2⟩:=ih;rw[QG h h0 h1];obtain⟨q,hq⟩:∃q,q=P.getD i.toNat 0:=⟨_,rfl⟩;rw[<-hq]at ih1 ih2 hl ⊢
  have hsec:0<=S.getD i.toNat 0->0<=q/\(S.getD i.toNat 0=P.getD q.toNat 0\/S.getD i.toNat 0=S.getD q.toNat 0):=fun h2=>by
   have hi0:i.toNat≠0:=fun h3=>(by have:=(hl.2.2.2.2.2 h3).2;omega);have h3:=(zcu hi0).1 (h.place i.toNat (by omega));rw[<-hq]at h3;refine⟨h3.1.1,?_⟩;rcases h3.2 with h4|h4
   ·omega
   ·exact h4.2
  have hin:0<=S.getD i.toNat 0->S.getD i.toNat 0∈yG P q:=fun h2=>by
   obtain⟨q0,h3⟩:=hsec h2;have hql:=h.low (i:=q.toNat) (by omega);rcases h3 with h3|h3
   ·rw[h3,QG h q0 (by omega),QG h (i:=P.getD q.toNat 0) (by omega) (by omega)];simp
   ·rw[h3];refine ih1 q ?_ (by omega);rw[QG h q0 (by omega)];simp
  refine⟨fun x hx h2=>?_,?_⟩
  ·refine qz.2 (.inl ?_);rcases qz.1 hx with hx|hx
   ·exact ih1 x hx h2
   ·rw[ya]at hx;rw[hx]at h2 ⊢;exact hin h2
  ·by_cases hne:yG P q=[]
   ·rw[hne];intro t ht;rw[zg4]at ht;simp at ht
   ·rw[zBX ih1 hne];obtain⟨m,hm⟩:∃m,m=(yG P q).length:=⟨_,rfl⟩;have hm1:1<=m:=(by rw[hm];exact ZE.2 hne);have hcl:(cdN S (yG P q)).length=m-1:=(by rw[zg4,hm]);intro t ht;rw[zq,qj,hcl]at ht
    have hold:∀t,t<m-1->(cdN S (yG P q)++[Kv S (yG P q++[i]) (yG P q).length]).getD t 0=(cdN S (yG P q)).getD t 0:=fun t ht=>by
     rw[zd,zd,yj (by omega)]
    by_cases ht1:t<m-1
    ·have h3:=ih2 t (by omega);rw[hold t ht1,hold (t-1) (by omega)];exact h3
    ·have ht2:t=m-1:=(by omega);subst ht2
     have hnew:(cdN S (yG P q)++[Kv S (yG P q++[i]) (yG P q).length]).getD (m-1) 0=Kv S (yG P q++[i]) m:=by
      rw[zd,ye (by omega),hcl,kF,<-hm];rfl
     rw[hnew];have hlast:(yG P q++[i]).getD m 0=i:=(by rw[hm];exact zqc _ _);rw[Kv,hlast];by_cases h2:0<=S.getD i.toNat 0
     ·rw[if_pos h2];right;obtain⟨q0,h3⟩:=hsec h2;have hql:=h.low (i:=q.toNat) (by omega);have hps:=QG h q0 (show q<P.length by omega);obtain⟨r,hr⟩:∃r,r=yG P (P.getD q.toNat 0):=⟨_,rfl⟩;rw[<-hr]at hps;have hrm:m=r.length+1:=(by rw[hm,hps];simp);have hmem:=hin h2;rw[zvf hmem,ziW hmem];by_cases h4:S.getD i.toNat 0=P.getD q.toNat 0
      ·have hr2:=QG h (i:=P.getD q.toNat 0) (by omega) (by omega);rw[<-hr]at hr2;obtain⟨r2,hr3⟩:∃r2,r2=yG P (P.getD (P.getD q.toNat 0).toNat 0):=⟨_,rfl⟩;rw[<-hr3]at hr2
       have hni:P.getD q.toNat 0∉r2:=fun hx=>by
        have hl2:=h.low (i:=(P.getD q.toNat 0).toNat) (by omega);rw[hr3]at hx;have:=(zeG h _ (by omega) (by omega)).1 _ hx;omega
       have hk:(yG P q).idxOf (S.getD i.toNat 0)=r2.length:=by
        rw[h4,hps,hr2,zZ,zdQ,if_neg hni];simp
       have hrl:r.length=r2.length+1:=(by rw[hr2];simp);rw[hk];refine⟨by omega,.inl (by omega)⟩
      ·have h5:S.getD i.toNat 0=S.getD q.toNat 0:=h3.resolve_left h4;have hq0:q.toNat≠0:=fun h6=>by have:=(hql.2.2.2.2.2 h6).2;omega
       have hr0:r≠[]:=fun h6=>by
        have h7:=QG h (i:=P.getD q.toNat 0) (by omega) (by omega);rw[<-hr,h6]at h7;simp at h7
       have hrl:=ZE.2 hr0
       have hsq:S.getD i.toNat 0∈r:=by
        have h6:=hmem;rw[hps]at h6;rcases qz.1 h6 with h6|h6
        ·exact h6
        ·rw[ya]at h6;omega
       have hk:(yG P q).idxOf (S.getD i.toNat 0)<r.length:=by
        rw[hps,zdQ,if_pos hsq];exact zad.2 hsq
       have hcq:(cdN S (yG P q)).getD (m-2) 0=m-1-(yG P q).idxOf (S.getD i.toNat 0):=by
        rw[cdN,jx _ _ _ _ (by omega),show m-2+1=m-1 by omega,Kv]
        have h6:(yG P q).getD (m-1) 0=q:=by
         rw[hps,show m-1=r.length by omega];exact zqc _ _
        rw[h6,if_pos (by omega),<-h5,ziW hmem];omega
       have hle:=ih2.le (m-2) (by omega);rw[hcq]at hle;refine⟨by omega,.inr ⟨by omega,?_⟩⟩;rw[hold (m-1-1) (by omega),show m-1-1=m-2 by omega,hcq];omega
     ·rw[if_neg h2];exact .inl rfl
end
end Go.Ax
