import Derived.Test.YtnhfpgcicpfohaaGreatDoorB03p1
import Derived.Test.YtnhfpgcicpfohaaGreatDoorB01p1
import Derived.Test.YtnhfpgcicpfohaaGreatDoorB02p1
set_option linter.all false
set_option maxRecDepth 100000
set_option maxHeartbeats 2000000
open Bool renaming and_eq_true→zg,false_eq_true→yM
open Int renaming natCast_nonneg→jG,toNat_natCast→zV
open List renaming append_assoc→zS,cons_append→zL,drop_of_length_le→jY,ext_getElem?→yF,find?_range_eq_some→zai,getD_cons_succ→qn,getD_cons_zero→yL,getD_eq_getElem?_getD→zd,getElem?_append_left→yq,getElem?_append_right→yp,getElem?_eq_getElem→ze,getElem?_eq_none→zG,getElem?_replicate→jR,getElem_mem→ye,idxOf_append→zen,idxOf_lt_length_iff→zag,length_append→zk,length_cons→zi,length_drop→zP,length_nil→zq,length_pos_iff→qk,length_replicate→zU,length_set→yP,length_singleton→yr,length_tail→YU,length_take→zD,mem_append→yK,mem_iff_getElem→ym,mem_range→yX,mem_singleton→zX,nil_append→qf,nodup_nil→zhR,replicate_append_replicate→je,replicate_succ→yx,replicate_succ'→qN,replicate_zero→uB,set_append_right→Ym,sum_cons→Kq,take_of_length_le→zu,take_succ_cons→jO
open List.cons renaming injEq→jW
open Nat renaming add_sub_cancel→yQ,gcd_pos_of_pos_left→uq,le_of_ble_eq_true→zh,le_refl→zn,mul_le_mul_left→Qc,sub_self→kw
open Option.some renaming injEq→za
open Prod.mk renaming injEq→zb
/-
 Multiplicities of curvettes as they are reckoned,in plain Lean. No conditions but those of the theorems.
-/
namespace Go.Ax
open Go.Proofs
def VC(cs:List Nat):Prop:=∀i,i<cs.length→cs.getD i 0=0∨(1≤i∧(cs.getD i 0=2∨(3≤cs.getD i 0∧cs.getD (i-1) 0+1=cs.getD i 0)))
theorem VC.le{cs:List Nat}(h:VC cs):∀i,i<cs.length→cs.getD i 0≤i+1∧cs.getD i 0≠1
 |0,hi=>by rcases h 0 hi with h|⟨h,_⟩<;>omega
 |i+1,hi=>by
  have ih:=VC.le h i (by omega)
  rcases h (i+1) hi with h|⟨_,h|⟨h1,h2⟩⟩
  ·omega
  ·omega
  ·simp only[yQ]at h2
   omega
def hdM(cs:List Nat):Nat:=(mC cs).getD 0 0
def QM(cs:List Nat)(j i:Nat):Nat:=((mC (cs.drop j)).tail.take (Kz (j+1-i) (cs.drop j))).sum
def Yg(cs:List Nat)(j:Nat):List Nat:=qu (fun i=>if i<j then QM cs j i else hdM (cs.drop i)) (cs.length+1)
theorem zby(cs:List Nat)(j:Nat):(Yg cs j).length=cs.length+1:=yA _ _
theorem KR{cs:List Nat}{j i:Nat}(h:i≤cs.length):(Yg cs j).getD i 0=if i<j then QM cs j i else hdM (cs.drop i):=uA _ _ _ _ (by omega)
theorem zay(cs:List Nat):mC cs=hdM cs::(mC cs).tail:=by
 have hl:=QG cs
 rw[hdM]
 cases hm:mC cs with
 |nil=>rw[hm]at hl;simp at hl
 |cons x l=>rfl
theorem zhG{cs:List Nat}{j:Nat}(h:j<cs.length):cs.drop j=cs.getD j 0::cs.drop (j+1):=by
 rw[List.drop_eq_getElem_cons h,zd,ze h]
 rfl
theorem zhu:∀(cs:List Nat) (j:Nat),j≤cs.length→(mC cs).getD j 0=hdM (cs.drop j)
 |cs,0,_=>rfl
 |[],j+1,h=>by simp at h
 |c::cs,j+1,h=>by
  rw[mC,qn,List.drop_succ_cons]
  exact zhu cs j (by simpa using h)
theorem zzJ(cs:List Nat):Yg cs 0=mC cs:=by
 apply yF
 intro i
 by_cases hi:i≤cs.length
 ·have h1:=KR (j:=0) hi
  rw[if_neg (by omega),←zhu cs i hi]at h1
  rw[zd,zd,ze (by rw[zby];omega),ze (by rw[QG];omega)]at h1
  rw[ze (by rw[zby];omega),ze (by rw[QG];omega)]
  exact congrArg some h1
 ·rw[zG (by rw[zby];omega),zG (by rw[QG];omega)]
theorem zpq{cs:List Nat}{j:Nat}(h:j<cs.length):QM cs (j+1) j+hdM (cs.drop (j+1))=hdM (cs.drop j):=by
 rw[QM,show j+1+1-j=2 by omega,zhG h]
 have h1:hdM (cs.getD j 0::cs.drop (j+1))=((mC (cs.drop (j+1))).take (Kz 2 (cs.drop (j+1))+1)).sum:=by
  rw[hdM,mC];rfl
 rw[h1]
 conv=>rhs;rw[zay]
 rw[jO,Kq]
 omega
theorem zC8{cs:List Nat}{j i:Nat}(h:j<cs.length)(hi:i<j)(hc:cs.getD j 0=j+1-i):QM cs (j+1) i+hdM (cs.drop (j+1))=QM cs j i:=by
 rw[QM,QM,zhG h,mC,List.tail_cons,Kz,if_pos hc,show j+1-i+1=j+1+1-i by omega]
 conv=>rhs;rw[zay]
 rw[jO,Kq]
 omega
theorem zvM{cs:List Nat}(hv:VC cs){j i:Nat}(h:j<cs.length)(hi:i<j)(hc:cs.getD j 0≠j+1-i):QM cs j i=0∧QM cs (j+1) i=0:=by
 constructor
 ·rw[QM,zhG h,Kz,if_neg hc]
  simp
 ·rw[QM]
  by_cases h1:j+1<cs.length
  ·rw[zhG h1,Kz,if_neg]
   ·simp
   ·intro h2
    rcases hv (j+1) h1 with h3|⟨_,h3|⟨h3,h4⟩⟩
    ·omega
    ·omega
    ·simp only[yQ]at h4
     omega
  ·rw[jY (by omega)]
   simp[Kz]
theorem zoy{α:Type}(f:Nat→α){n i:Nat}(x:α)(h:i<n):(qu f n).set i x=qu (fun t=>if t=i then x else f t) n:=by
 apply yF
 intro j
 rw[List.getElem?_set]
 by_cases hj:j<n
 ·rw[ur _ _ _ hj,ur _ _ _ hj]
  by_cases h1:i=j
  ·rw[if_pos h1,if_pos (by rw[yA];exact h),if_pos h1.symm]
  ·rw[if_neg h1,if_neg (Ne.symm h1)]
 ·rw[if_neg (by omega),zG (by rw[yA];omega),zG (by rw[yA];omega)]
theorem zx7{cs:List Nat}(hv:VC cs){j:Nat}(h:j<cs.length)(hc:cs.getD j 0=0):(Yg cs (j+1)).set j ((Yg cs (j+1)).getD j 0+(Yg cs (j+1)).getD (j+1) 0)=Yg cs j:=by
 rw[KR (by omega),KR (by omega),if_pos (by omega),if_neg (by omega),zpq h,Yg,zoy _ _ (by omega),Yg]
 refine qQ fun i hi=>?_
 by_cases h1:i=j
 ·rw[if_pos h1,if_neg (by omega),h1]
 ·rw[if_neg h1]
  by_cases h2:i<j
  ·obtain⟨q1,q2⟩:=zvM hv h h2 (by omega)
   rw[if_pos (by omega),if_pos h2,q1,q2]
  ·rw[if_neg (by omega),if_neg h2]
theorem zzI{cs:List Nat}(hv:VC cs){j c:Nat}(h:j<cs.length)(hc:cs.getD j 0=c)(h0:c≠0):
 ((Yg cs (j+1)).set j ((Yg cs (j+1)).getD j 0+(Yg cs (j+1)).getD (j+1) 0)).set (j+1-c) ((Yg cs (j+1)).getD (j+1-c) 0+(Yg cs (j+1)).getD (j+1) 0)=Yg cs j∧j+1-c<j∧c≤j+1:=by
 have hle:=hv.le j h
 rw[hc]at hle
 refine⟨?_,by omega,by omega⟩
 have hlt:j+1-c<j:=by omega
 have e:=zC8 h hlt (show cs.getD j 0=j+1-(j+1-c) by omega)
 rw[KR (by omega),KR (by omega),KR (by omega),if_pos (by omega),if_neg (by omega),if_pos (by omega),zpq h,e,Yg,zoy _ _ (by omega),zoy _ _ (by omega),Yg]
 refine qQ fun i hi=>?_
 by_cases h1:i=j+1-c
 ·rw[if_pos h1,if_pos (by omega),h1]
 ·rw[if_neg h1]
  by_cases h3:i=j
  ·rw[if_pos h3,if_neg (by omega),h3]
  ·rw[if_neg h3]
   by_cases h2:i<j
   ·obtain⟨q1,q2⟩:=zvM hv h h2 (by omega)
    rw[if_pos (by omega),if_pos h2,q1,q2]
   ·rw[if_neg (by omega),if_neg h2]
theorem zwS(cs:List Nat):Yg cs cs.length=List.replicate cs.length 0++[1]:=by
 apply yF
 intro i
 rw[Yg]
 by_cases hi:i<cs.length
 ·rw[ur _ _ _ (by omega),if_pos hi,yq (by simpa using hi),jR,if_pos hi,QM,jY (by omega)]
  simp[mC]
 ·by_cases h2:i=cs.length
  ·rw[ur _ _ _ (by omega),if_neg hi,h2,yp (by simp),jY (by omega)]
   simp[hdM,mC]
  ·rw[zG (by rw[yA];omega),zG (by simp;omega)]
theorem zqd{B:Nat}:∀(l:List Nat),(∀x∈l,x≤B)→l.sum≤B*l.length
 |[],_=>by simp
 |x::l,h=>by
  have h1:=h x (by simp)
  have h2:=zqd l (fun y hy=>h y (List.mem_cons_of_mem _ hy))
  rw[Kq,zi,Nat.mul_add]
  omega
theorem zwT{cs:List Nat}{j:Nat}(hj:j≤cs.length)(h:∀i,j<i→i≤cs.length→hdM (cs.drop i)≤64):∀i,i≤cs.length→(Yg cs j).getD i 0≤64*(cs.length+1):=by
 have hall:∀x∈(mC (cs.drop j)).tail,x≤64:=by
  intro x hx
  obtain⟨t,ht,rfl⟩:=ym.1 hx
  have hl:=QG (cs.drop j)
  simp only[YU,zP]at ht hl
  have h1:=zhu (cs.drop j) (t+1) (by rw[zP];omega)
  rw[List.drop_drop]at h1
  have h2:=h (j+(t+1)) (by omega) (by omega)
  rw[←h1,zay,qn,zd,ze (by rw[YU];omega)]at h2
  exact h2
 have hlen:(mC (cs.drop j)).tail.length≤cs.length:=by
  rw[YU,QG,zP];omega
 have htake:∀q,((mC (cs.drop j)).tail.take q).sum≤64*cs.length:=fun q=>by
  have h1:=zqd ((mC (cs.drop j)).tail.take q) (fun x hx=>hall x (List.mem_of_mem_take hx))
  have h2:((mC (cs.drop j)).tail.take q).length≤cs.length:=by rw[zD];omega
  have:=Qc 64 h2
  omega
 intro i hi
 rw[KR hi]
 split
 ·rw[QM]
  have:=htake (Kz (j+1-i) (cs.drop j))
  omega
 ·by_cases h2:i=j
  ·rw[h2]
   by_cases h3:j<cs.length
   ·have h4:=zpq h3
    have h5:=h (j+1) (by omega) (by omega)
    have h6:QM cs (j+1) j≤64*cs.length:=by
     rw[QM]
     have hd:=zhG h3
     have:(mC (cs.drop j)).tail=mC (cs.drop (j+1)):=by rw[hd,mC,List.tail_cons]
     have h7:=htake (Kz (j+1+1-j) (cs.drop (j+1))+1)
     rw[this,zay,jO,Kq]at h7
     omega
    omega
   ·rw[jY (by omega)]
    simp only[hdM,mC,yL]
    omega
  ·have:=h i (by omega) hi
   omega
end Go.Ax
namespace Go.Ax
open Go.Proofs
theorem zD7{l:List Int}{t:Nat}(h:t<l.length):l.getD t 0∈l:=by
 rw[zd,ze h];exact ye h
def zlc(f:List V→Int→Int)(q:List V→Int→Prop):zQ:=fun
 |[.slc false 2 (.int .i64 0) a0,.int .i64 a1]=>some ([q a0 a1],.int .i64 (f a0 a1))
 |_=>none
def idx(ls:List Int)(x:Int):Int:=match (List.range ls.length).find? fun t=>ls.getD t 0==x with
 |some t=>t
 |none=> -1
theorem zBz{ls:List Int}{x:Int}:decide (0≤idx ls x)=ls.contains x:=by
 rw[Bool.eq_iff_iff,decide_eq_true_eq,List.contains_iff_mem,idx]
 cases hf:(List.range ls.length).find? fun t=>ls.getD t 0==x with
 |some t=>
  rw[zai]at hf
  simp only[beq_iff_eq,yX]at hf
  exact⟨fun _=>by rw[←hf.1];exact zD7 hf.2.1,fun _=>by simp only;omega⟩
 |none=>
  rw[List.find?_eq_none]at hf
  refine⟨fun h=>by simp only at h;omega,fun h=>?_⟩
  obtain⟨t,ht,he⟩:=ym.1 h
  refine absurd ?_ (hf t (by simpa using ht))
  rw[zd,ze ht]
  simpa using he
def ziK(a:List V)(x:Int):Int:=idx (yV a) x
def zjE(a:List V)(_:Int):Prop:=uU a
theorem zga:yZ Tryz.prog 94 (zlc ziK zjE):=by
 intro args ps r h hp
 unfold zlc at h
 split at h
 ·rename_i a0 a1
  simp only[za,zb]at h
  obtain⟨rfl,rfl⟩:=h
  obtain⟨⟨ls,hls⟩,hll⟩:zjE a0 a1:=(zo.1 hp).1
  have hal:a0.length=ls.length:=by rw[hls,zm]
  rw[hal]at hll
  have gl:∀k,a0.getD k (.int .i64 0)=.int .i64 (ls.getD k 0):=fun k=>by rw[hls,zT]
  have hf0:ziK a0 a1=idx ls a1:=by rw[ziK,hls,zB]
  refine zO (T:=tab) (B:=[]) (Bi:=[]) [0,1,4,5] Tryz.func94 rfl rfl (by kernel_rfl) (zh rfl) mixed yd (by exact zH) (by exact zE) (by kernel_rfl) ?_
  intro L lp rr hL hr hf hlp
  conv=>cbv
  refine hlp (Int) _ _ _ [0,1,5] (fun x=>[(0,none,.val (.slc false 2 (.int .i64 0) a0)),(1,none,.val (.int .i64 a1)),(5,none,.val (.int .i64 x))])
   (fun x=>0≤x∧x≤ls.length∧∀t,t<x.toNat→ls.getD t 0≠a1) (fun x=>(ls.length-x).toNat) (0) (by subst hL;rfl) ?_ ?_
  ·exact⟨by simp,by simp,fun t ht=>by simp at ht⟩
  rintro i ⟨i0,i1,hI⟩ hfx ag hag
  conv=>cbv
  simp only[zr hL,sQ,hal,gl]
  refine⟨fun h2=>⟨i0,by omega,fun h3=>?_,fun h3=>?_⟩,fun h2=>?_⟩
  ·have hfi:((List.range ls.length).find? fun t=>ls.getD t 0==a1)=some i.toNat:=by
    rw[zai]
    refine⟨by simpa using h3,by simp only[yX];omega,fun t ht=>?_⟩
    have:=hI t ht
    simpa using this
   rw[hr,hf0,idx,hfi]
   simp only
   rw[show((i.toNat:Nat):Int)=i by omega]
  ·rw[zl (n:=i+1) (by omega) (by omega)]
   refine hag (i+1) ⟨by omega,by omega,fun t ht=>?_⟩ (by omega)
   by_cases hti:t=i.toNat
   ·rw[hti];exact h3
   ·exact hI t (by omega)
  ·have hfi:((List.range ls.length).find? fun t=>ls.getD t 0==a1)=none:=by
    rw[List.find?_eq_none]
    intro t ht
    simp only[yX]at ht
    have:=hI t (by omega)
    simpa using this
   rw[hr,hf0,idx,hfi]
 ·cases h
def zpg(f:List V→Int→Bool)(q:List V→Int→Prop):zQ:=fun
 |[.slc false 2 (.int .i64 0) a0,.int .i64 a1]=>some ([q a0 a1],.bool (f a0 a1))
 |_=>none
def zrp(a:List V)(x:Int):Bool:=(yV a).contains x
theorem zqZ:yZ Tryz.prog 79 (zpg zrp zjE):=by
 intro args ps r h hp
 unfold zpg at h
 split at h
 ·rename_i a0 a1
  simp only[za,zb]at h
  obtain⟨rfl,rfl⟩:=h
  have hq:zjE a0 a1:=(zo.1 hp).1
  have g0:V.frzs a0=a0:=by obtain⟨⟨ls,hls⟩,_⟩:=hq;rw[hls,zN]
  generalize zdr:ziK=zln
  generalize zam:zjE=zfU
  refine zO (T:=tab) (B:=[(94,zlc zln zfU)]) (Bi:=[]) [0,1,4] Tryz.func79 rfl rfl (by kernel_rfl) (zh rfl) mixed yd (by subst zdr zam;exact(zt zga zH)) (by subst zdr zam;exact zE) (by kernel_rfl) ?_
  intro L lp rr hL hr hf hlp
  conv=>cbv
  simp only[zr hL,sQ,g0]
  subst zdr zam
  exact⟨hq,by rw[hr,zrp,←zBz];rfl⟩
 ·cases h
end Go.Ax
namespace Go.Ax
open Go.Proofs
def upL(P:List Int):Nat→Int→List Int
 |0,_=>[]
 |f+1,i=>if i<0 then[]else i::upL P f (P.getD i.toNat 0)
def yH(P:List Int)(i:Int):List Int:=(upL P 32 i).reverse
section
variable {P S Q:List Int}
theorem zm8(h:ClP P S Q):∀(f:Nat) (i:Int),i<P.length→i<f→-1≤i→∀g,f≤g→upL P g i=upL P f i
 |0,i,_,h2,_,g,_=>by
  have:i= -1:=by omega
  subst this
  cases g with
  |zero=>rfl
  |succ g=>
   have:upL P (g+1) (-1)=[]:=by rw[upL];exact if_pos (by omega)
   rw[this];rfl
 |f+1,i,h1,h2,h3,g,hg=>by
  obtain⟨k,rfl⟩:∃k,g=k+1:=⟨g-1,by omega⟩
  rw[upL,upL]
  by_cases h0:i<0
  ·rw[if_pos h0,if_pos h0]
  ·rw[if_neg h0,if_neg h0]
   have hl:=h.low (i:=i.toNat) (by omega)
   rw[zm8 h f _ (by omega) (by omega) (by omega) k (by omega)]
theorem zr8:yH P (-1)=[]:=by
 rw[yH,upL,if_pos (by omega)];rfl
theorem QE(h:ClP P S Q){i:Int}(h0:0≤i)(h1:i<P.length):yH P i=yH P (P.getD i.toNat 0)++[i]:=by
 have hl:=h.low (i:=i.toNat) (by omega)
 have hn:=h.n24
 rw[yH,yH,upL,if_neg (by omega),List.reverse_cons,zm8 h 31 _ (by omega) (by omega) (by omega) 32 (by omega)]
theorem zr9(h:ClP P S Q){p:Int→Prop}(hn:p (-1))(hs:∀i:Int,0≤i→i<P.length→p (P.getD i.toNat 0)→p i):∀i:Int,-1≤i→i<P.length→p i:=by
 have key:∀(n:Nat) (i:Int),i<n→-1≤i→i<P.length→p i:=by
  intro n
  induction n with
  |zero=>
   intro i h1 h2 _
   have:i= -1:=by omega
   rw[this];exact hn
  |succ n ih=>
   intro i h1 h2 h3
   by_cases h0:i<0
   ·have:i= -1:=by omega
    rw[this];exact hn
   ·have hl:=h.low (i:=i.toNat) (by omega)
    exact hs i (by omega) h3 (ih _ (by omega) (by omega) (by omega))
 exact fun i h1 h2=>key (i+1).toNat i (by omega) h1 h2
theorem ze6(h:ClP P S Q):∀i:Int,-1≤i→i<P.length→(∀x∈yH P i,0≤x∧x≤i)∧(yH P i).Pairwise (·< ·):=by
 refine zr9 h ?_ (fun i h0 h1 ih=>?_)
 ·rw[zr8];exact⟨fun x hx=>(by cases hx),List.Pairwise.nil⟩
 ·have hl:=h.low (i:=i.toNat) (by omega)
  rw[QE h h0 h1]
  refine⟨fun x hx=>?_,?_⟩
  ·rcases yK.1 hx with hx|hx
   ·have:=ih.1 x hx
    omega
   ·rw[zX]at hx
    omega
  ·rw[List.pairwise_append]
   refine⟨ih.2,by simp,fun a ha b hb=>?_⟩
   rw[zX]at hb
   have:=ih.1 a ha
   omega
theorem zii(h:ClP P S Q){i:Int}(h0: -1≤i)(h1:i<P.length):(yH P i).Nodup:=(ze6 h i h0 h1).2.imp (fun h=>by omega)
theorem KN(h:ClP P S Q){i:Int}(h0: -1≤i)(h1:i<P.length):(yH P i).length≤24:=by
 have h2:=ze6 h i h0 h1
 have h3:=zqt (yH P i) (n:=P.length) (zii h h0 h1) (fun x hx=>by have:=h2.1 x hx;omega)
 have:=h.n24
 omega
theorem zjS{l:List Int}{x:Int}(h:x∈l):idx l x=(l.idxOf x:Nat):=by
 rw[idx]
 have hlt:=zag.2 h
 have:((List.range l.length).find? fun t=>l.getD t 0==x)=some (l.idxOf x):=by
  rw[zai]
  refine⟨?_,by simpa using hlt,fun t ht=>?_⟩
  ·rw[zd,ze hlt]
   simp
  ·rw[zd,ze (by omega)]
   have:=List.not_of_lt_findIdx (p:=(·==x)) (xs:=l) (i:=t) ht
   simpa using this
 rw[this]
def KC(S p:List Int)(j:Nat):Nat:=if 0≤S.getD (p.getD j 0).toNat 0 then((j:Int)-idx p (S.getD (p.getD j 0).toNat 0)).toNat else 0
def cdN(S p:List Int):List Nat:=qu (fun t=>KC S p (t+1)) (p.length-1)
theorem zeP(S p:List Int):(cdN S p).length=p.length-1:=yA _ _
theorem zvj{l l':List Int}{x:Int}(h:x∈l):idx (l++l') x=idx l x:=by
 rw[zjS h,zjS (yK.2 (.inl h)),zen,if_pos h]
theorem zzZ{l l':List Int}{j:Nat}(h:j<l.length):(l++l').getD j 0=l.getD j 0:=by
 rw[zd,zd,yq h]
theorem zqG(l:List Int)(x:Int):(l++[x]).getD l.length 0=x:=by simp[zd]
theorem zAf{S p:List Int}{i:Int}(hp:∀x∈p,0≤S.getD x.toNat 0→S.getD x.toNat 0∈p){j:Nat}(hj:j<p.length):KC S (p++[i]) j=KC S p j:=by
 rw[KC,KC,zzZ hj]
 split
 ·rename_i h0
  rw[zvj (hp _ (by rw[zd,ze hj];exact ye _) h0)]
 ·rfl
theorem zBW{S p:List Int}{i:Int}(hp:∀x∈p,0≤S.getD x.toNat 0→S.getD x.toNat 0∈p)(hne:p≠[]):cdN S (p++[i])=cdN S p++[KC S (p++[i]) p.length]:=by
 have hl:=qk.2 hne
 rw[cdN,zk,yr,yQ,show p.length=(p.length-1)+1 by omega,zbs]
 congr 1
 exact qQ fun t ht=>zAf hp (by omega)
theorem zqq(h:ClP P S Q):∀i:Int,-1≤i→i<P.length→(∀x∈yH P i,0≤S.getD x.toNat 0→S.getD x.toNat 0∈yH P i)∧VC (cdN S (yH P i)):=by
 refine zr9 h ?_ (fun i h0 h1 ih=>?_)
 ·rw[zr8]
  exact⟨fun x hx=>by(cases hx),fun i hi=>by(rw[zeP]at hi;simp at hi)⟩
 ·have hl:=h.low (i:=i.toNat) (by omega)
  obtain⟨ih1,ih2⟩:=ih
  rw[QE h h0 h1]
  obtain⟨q,hq⟩:∃q,q=P.getD i.toNat 0:=⟨_,rfl⟩
  rw[←hq]at ih1 ih2 hl ⊢
  have hsec:0≤S.getD i.toNat 0→0≤q∧(S.getD i.toNat 0=P.getD q.toNat 0∨S.getD i.toNat 0=S.getD q.toNat 0):=fun h2=>by
   have hi0:i.toNat≠0:=fun h3=>by have:=(hl.2.2.2.2.2 h3).2;omega
   have h3:=(ze9 hi0).1 (h.place i.toNat (by omega))
   rw[←hq]at h3
   refine⟨h3.1.1,?_⟩
   rcases h3.2 with h4|h4
   ·omega
   ·exact h4.2
  have hin:0≤S.getD i.toNat 0→S.getD i.toNat 0∈yH P q:=fun h2=>by
   obtain⟨q0,h3⟩:=hsec h2
   have hql:=h.low (i:=q.toNat) (by omega)
   rcases h3 with h3|h3
   ·rw[h3,QE h q0 (by omega),QE h (i:=P.getD q.toNat 0) (by omega) (by omega)]
    simp
   ·rw[h3]
    refine ih1 q ?_ (by omega)
    rw[QE h q0 (by omega)]
    simp
  refine⟨fun x hx h2=>?_,?_⟩
  ·refine yK.2 (.inl ?_)
   rcases yK.1 hx with hx|hx
   ·exact ih1 x hx h2
   ·rw[zX]at hx
    rw[hx]at h2 ⊢
    exact hin h2
  ·by_cases hne:yH P q=[]
   ·rw[hne]
    intro t ht
    rw[zeP]at ht
    simp at ht
   ·rw[zBW ih1 hne]
    obtain⟨m,hm⟩:∃m,m=(yH P q).length:=⟨_,rfl⟩
    have hm1:1≤m:=by rw[hm];exact qk.2 hne
    have hcl:(cdN S (yH P q)).length=m-1:=by rw[zeP,hm]
    intro t ht
    rw[zk,yr,hcl]at ht
    have hold:∀t,t<m-1→(cdN S (yH P q)++[KC S (yH P q++[i]) (yH P q).length]).getD t 0=(cdN S (yH P q)).getD t 0:=fun t ht=>by
     rw[zd,zd,yq (by omega)]
    by_cases ht1:t<m-1
    ·have h3:=ih2 t (by omega)
     rw[hold t ht1,hold (t-1) (by omega)]
     exact h3
    ·have ht2:t=m-1:=by omega
     subst ht2
     have hnew:(cdN S (yH P q)++[KC S (yH P q++[i]) (yH P q).length]).getD (m-1) 0=KC S (yH P q++[i]) m:=by
      rw[zd,yp (by omega),hcl,kw,←hm]
      rfl
     rw[hnew]
     have hlast:(yH P q++[i]).getD m 0=i:=by rw[hm];exact zqG _ _
     rw[KC,hlast]
     by_cases h2:0≤S.getD i.toNat 0
     ·rw[if_pos h2]
      right
      obtain⟨q0,h3⟩:=hsec h2
      have hql:=h.low (i:=q.toNat) (by omega)
      have hps:=QE h q0 (show q<P.length by omega)
      obtain⟨r,hr⟩:∃r,r=yH P (P.getD q.toNat 0):=⟨_,rfl⟩
      rw[←hr]at hps
      have hrm:m=r.length+1:=by rw[hm,hps];simp
      have hmem:=hin h2
      rw[zvj hmem,zjS hmem]
      by_cases h4:S.getD i.toNat 0=P.getD q.toNat 0
      ·have hr2:=QE h (i:=P.getD q.toNat 0) (by omega) (by omega)
       rw[←hr]at hr2
       obtain⟨r2,hr3⟩:∃r2,r2=yH P (P.getD (P.getD q.toNat 0).toNat 0):=⟨_,rfl⟩
       rw[←hr3]at hr2
       have hni:P.getD q.toNat 0∉r2:=fun hx=>by
        have hl2:=h.low (i:=(P.getD q.toNat 0).toNat) (by omega)
        rw[hr3]at hx
        have:=(ze6 h _ (by omega) (by omega)).1 _ hx
        omega
       have hk:(yH P q).idxOf (S.getD i.toNat 0)=r2.length:=by
        rw[h4,hps,hr2,zS,zen,if_neg hni]
        simp
       have hrl:r.length=r2.length+1:=by rw[hr2];simp
       rw[hk]
       refine⟨by omega,.inl (by omega)⟩
      ·have h5:S.getD i.toNat 0=S.getD q.toNat 0:=h3.resolve_left h4
       have hq0:q.toNat≠0:=fun h6=>by have:=(hql.2.2.2.2.2 h6).2;omega
       have hr0:r≠[]:=fun h6=>by
        have h7:=QE h (i:=P.getD q.toNat 0) (by omega) (by omega)
        rw[←hr,h6]at h7
        simp at h7
       have hrl:=qk.2 hr0
       have hsq:S.getD i.toNat 0∈r:=by
        have h6:=hmem
        rw[hps]at h6
        rcases yK.1 h6 with h6|h6
        ·exact h6
        ·rw[zX]at h6
         omega
       have hk:(yH P q).idxOf (S.getD i.toNat 0)<r.length:=by
        rw[hps,zen,if_pos hsq]
        exact zag.2 hsq
       have hcq:(cdN S (yH P q)).getD (m-2) 0=m-1-(yH P q).idxOf (S.getD i.toNat 0):=by
        rw[cdN,uA _ _ _ _ (by omega),show m-2+1=m-1 by omega,KC]
        have h6:(yH P q).getD (m-1) 0=q:=by
         rw[hps,show m-1=r.length by omega];exact zqG _ _
        rw[h6,if_pos (by omega),←h5,zjS hmem]
        omega
       have hle:=ih2.le (m-2) (by omega)
       rw[hcq]at hle
       refine⟨by omega,.inr ⟨by omega,?_⟩⟩
       rw[hold (m-1-1) (by omega),show m-1-1=m-2 by omega,hcq]
       omega
     ·rw[if_neg h2]
      exact .inl rfl
end
end Go.Ax
namespace Go.Ax
open Go.Proofs
theorem zsq(l:List Nat)(i n:Nat):(yv l).set i (n:Int)=yv (l.set i n):=by
 simp only[yv,List.map_set]
theorem zcW(l:List Nat)(i:Nat):(yv l).getD i 0=((l.getD i 0:Nat):Int):=KQ l i 0
theorem zh7{α:Type}{l:List α}{i j:Nat}{x z:α}(hi:i<l.length):(l.set i x).getD j z=if j=i then x else l.getD j z:=by
 simp only[zd,List.getElem?_set]
 by_cases h:j=i
 ·rw[h,if_pos rfl,if_pos rfl,if_pos hi];rfl
 ·rw[if_neg (Ne.symm h),if_neg h]
theorem zBd(m:Nat):List.replicate m (V.int .i64 0)=I (yv (List.replicate m 0)):=by
 rw[I,yv,List.map_replicate,List.map_replicate]
 rfl
theorem zzu(m k:Nat):(List.replicate m (V.int .i64 0)).getD k (V.int .i64 0)=V.int .i64 0:=by
 rw[zd,jR]
 split<;>rfl
def zts(f:List V→List V×Bool)(q:List V→Prop):zQ:=fun
 |[.slc false 2 (.int .i64 0) a0]=>some ([q a0],.tup [.slc true 2 (.int .i64 0) ((f a0).1),.bool ((f a0).2)])
 |_=>none
def cvm(cs:List Nat):List V×Bool:=if(mC cs).tail.all (fun x=>decide (x≤64))=true then(I (yv (mC cs)),decide (hdM cs≤64))else([],false)
def zk2(a:List V):List V×Bool:=cvm (zfl (yV a))
def zew(a:List V):Prop:=∃cs,a=I (yv cs)∧VC cs∧cs.length≤30
theorem zBP{cs:List Nat}{j:Nat}(h1:1≤j)(h2:j≤cs.length)(h:64<hdM (cs.drop j)):cvm cs=([],false):=by
 rw[cvm,if_neg]
 intro ha
 rw[List.all_eq_true]at ha
 have hl:=QG cs
 have h3:=zhu cs j h2
 obtain⟨t,rfl⟩:∃t,j=t+1:=⟨j-1,by omega⟩
 rw[zay,qn]at h3
 have ht:t<(mC cs).tail.length:=by rw[YU];omega
 have h4:=ha _ (ye ht)
 rw[zd,ze ht]at h3
 simp only[Option.getD_some]at h3
 simp only[decide_eq_true_eq]at h4
 omega
theorem zAb{cs:List Nat}(h:∀i,1≤i→i≤cs.length→hdM (cs.drop i)≤64):cvm cs=(I (yv (mC cs)),decide (hdM cs≤64)):=by
 rw[cvm,if_pos]
 rw[List.all_eq_true]
 intro x hx
 obtain⟨t,ht,rfl⟩:=ym.1 hx
 have hl:=QG cs
 rw[YU]at ht
 have h1:=zhu cs (t+1) (by omega)
 have h2:=h (t+1) (by omega) (by omega)
 rw[←h1,zay,qn,zd,ze (by rw[YU];omega)]at h2
 simpa using h2
def zcj(cs:List Nat)(j:Nat):List Nat:=if j=0 then[]else if cs.getD (j-1) 0=0 then[j-1]else[j-cs.getD (j-1) 0,j-1]
def zpi(f:List V→Int→List V)(q:List V→Int→Prop):zQ:=fun
 |[.slc false 2 (.int .i64 0) a0,.int .i64 a1]=>some ([q a0 a1],.slc true 2 (.int .i64 0) (f a0 a1))
 |_=>none
def zk0(a:List V)(j:Int):List V:=I (yv (zcj (zfl (yV a)) j.toNat))
def zrd(a:List V)(j:Int):Prop:=∃cs,a=I (yv cs)∧VC cs∧cs.length≤30∧0≤j∧j≤cs.length
theorem zh9:yZ Tryz.prog 116 (zpi zk0 zrd):=by
 intro args ps r h hp
 unfold zpi at h
 split at h
 ·rename_i a0 j
  simp only[za,zb]at h
  obtain⟨rfl,rfl⟩:=h
  obtain⟨cs,hcs,hv,hl,j0,j1⟩:zrd a0 j:=(zo.1 hp).1
  have g0:V.frzs a0=a0:=by rw[hcs,zN]
  have hal:a0.length=cs.length:=by rw[hcs,zm,kV]
  have ga:∀k,a0.getD k (.int .i64 0)=.int .i64 ((cs.getD k 0:Nat):Int):=fun k=>by rw[hcs,zT,zcW]
  have hf0:zk0 a0 j=I (yv (zcj cs j.toNat)):=by rw[zk0,hcs,zB,zaB]
  refine zO (T:=tab) (B:=[]) (Bi:=[]) [0,1,4] Tryz.func116 rfl rfl (by kernel_rfl) (zh rfl) mixed yd (by exact zH) (by exact zE) (by kernel_rfl) ?_
  intro L lp rr hL hr hf hlp
  conv=>cbv
  simp only[zr hL,sQ,g0,hal,ga]
  refine⟨fun h1=>?_,fun h1=>?_⟩
  ·rw[hr,hf0,zcj,if_pos (by omega)]
   rfl
  ·obtain⟨t,ht⟩:∃t:Nat,j=t+1:=⟨(j-1).toNat,by omega⟩
   have he:j.toNat=t+1:=by omega
   have e1:IntKind.wrap .i64 (j-1)=(t:Int):=by rw[zl (by omega) (by omega)];omega
   have hle:=hv.le t (by omega)
   rw[hr,hf0,zcj,if_neg (by omega),he,yQ]
   simp only[e1,zV]
   refine⟨by omega,by omega,fun h2=>?_,fun h2=>⟨by omega,by omega,?_⟩⟩
   ·rw[if_pos (by omega)]
    rfl
   ·have e4:IntKind.wrap .i64 (j-((cs.getD t 0:Nat):Int))=((t+1-cs.getD t 0:Nat):Int):=by rw[zl (by omega) (by omega)];omega
    rw[if_neg (by omega),e4]
    rfl
 ·cases h
def zbD(A:List Nat)(j:Nat)(nl:List Nat):Nat→List Nat
 |0=>A
 |i+1=>(zbD A j nl i).set (nl.getD i 0) ((zbD A j nl i).getD (nl.getD i 0) 0+(zbD A j nl i).getD j 0)
theorem zvJ{A:List Nat}{j:Nat}{nl:List Nat}(h:∀i,i<nl.length→nl.getD i 0≠j∧nl.getD i 0<A.length):∀i,i≤nl.length→(zbD A j nl i).length=A.length∧(zbD A j nl i).getD j 0=A.getD j 0∧∀x,(zbD A j nl i).getD x 0≤A.getD x 0+i*A.getD j 0
 |0,_=>⟨rfl,rfl,fun x=>by simp[zbD]⟩
 |i+1,hi=>by
  obtain⟨h1,h2,h3⟩:=zvJ h i (by omega)
  obtain⟨h4,h5⟩:=h i (by omega)
  refine⟨by rw[zbD,yP,h1],?_,fun x=>?_⟩
  ·rw[zbD,zh7 (by rw[h1];exact h5),if_neg (Ne.symm h4)];exact h2
  ·rw[zbD,zh7 (by rw[h1];exact h5),Nat.add_mul]
   have:=h3 x
   split
   ·rename_i hx
    rw[←hx,h2]
    omega
   ·omega
theorem zAo{cs:List Nat}(hv:VC cs){t:Nat}(h:t<cs.length):zbD (Yg cs (t+1)) (t+1) (zcj cs (t+1)) (zcj cs (t+1)).length=Yg cs t:=by
 rw[zcj,if_neg (by omega),yQ]
 by_cases hc:cs.getD t 0=0
 ·rw[if_pos hc]
  exact zx7 hv h hc
 ·rw[if_neg hc]
  obtain⟨h1,h2,h3⟩:=zzI hv h rfl hc
  have hl:=zby cs (t+1)
  simp only[zi,zq,zbD,yL,qn]
  rw[zh7 (by omega),if_neg (by omega),zh7 (by omega),if_neg (by omega),List.set_comm _ _ (by omega)]
  exact h1
theorem zjx:yZ Tryz.prog 107 (zts zk2 zew):=by
 intro args ps r h hp
 unfold zts at h
 split at h
 ·rename_i a0
  simp only[za,zb]at h
  obtain⟨rfl,rfl⟩:=h
  obtain⟨cs,hcs,hv,hl⟩:zew a0:=(zo.1 hp).1
  have g0:V.frzs a0=a0:=by rw[hcs,zN]
  have hal:a0.length=cs.length:=by rw[hcs,zm,kV]
  have ga:∀k,a0.getD k (.int .i64 0)=.int .i64 ((cs.getD k 0:Nat):Int):=fun k=>by rw[hcs,zT,zcW]
  have hf0:zk2 a0=cvm cs:=by rw[zk2,hcs,zB,zaB]
  have hfp:∀j,zk0 a0 j=I (yv (zcj cs j.toNat)):=fun j=>by rw[zk0,hcs,zB,zaB]
  have hqp:∀j:Int,0≤j→j≤cs.length→zrd a0 j:=fun j h0 h1=>⟨cs,hcs,hv,hl,h0,h1⟩
  obtain⟨n,hn⟩:∃n:Int,n=cs.length:=⟨_,rfl⟩
  generalize zpI:zk0=zvW
  generalize zpt:zrd=zvQ
  refine zO (T:=tab) (B:=[(1000000002,zeQ),(116,zpi zvW zvQ)]) (Bi:=[]) [2000014056,0,3,4,5,6,7,8] Tryz.func107 rfl rfl (by kernel_rfl) (zh rfl) mixed yd (by subst zpI zpt;exact(zt zkJ (zt zh9 zH))) (by subst zpI zpt;exact zE) (by kernel_rfl) ?_
  intro L lp rr hL hr hf hlp
  have Ep:∀j,zvW a0 j=I (yv (zcj cs j.toNat)):=by rw[←zpI];exact hfp
  have Qp:∀j:Int,0≤j→j≤cs.length→zvQ a0 j:=by rw[←zpt];exact hqp
  conv=>cbv
  simp only[zr hL,sQ,g0,hal,←hn]
  rw[zl (n:=n+1) (by omega) (by omega),zl (n:=n+1-1) (by omega) (by omega),show n+1-1=n by omega]
  obtain⟨s0,hs0⟩:∃s0,s0=(List.replicate (n+1).toNat (V.int IntKind.i64 0)).set n.toNat (V.int IntKind.i64 1):=⟨_,rfl⟩
  have hs00:s0=I (yv (Yg cs cs.length)):=by
   rw[hs0,zwS,show(n+1).toNat=cs.length+1 by omega,show n.toNat=cs.length by omega]
   have e:=zBd (cs.length+1)
   have e2:(List.replicate (cs.length+1) 0).set cs.length 1=List.replicate cs.length 0++[1]:=by
    rw[qN,Ym _ _ (by simp)]
    simp
   rw[e,Jz,show(1:Int)=((1:Nat):Int)from rfl,zsq,e2]
  rw[←hs0,zzu,zU]
  refine⟨by omega,by omega,by omega,by omega,by omega,by omega,rfl,?_⟩
  refine hlp (List V×Int) _ _ _ [0,5,6] (fun x=>[(0,none,.val (.slc false 2 (.int .i64 0) a0)),(5,none,.val (.slc true 2 (.int .i64 0) x.1)),(6,none,.val (.int .i64 x.2))])
   (fun x=>0≤x.2∧x.2≤n∧x.1=I (yv (Yg cs x.2.toNat))∧∀i:Nat,x.2<i→i≤cs.length→hdM (cs.drop i)≤64) (fun x=>x.2.toNat) ((s0,n)) (by subst hL;rfl) ?_ ?_
  ·exact⟨by omega,by simp,by rw[hs00,hn];rfl,fun i h1 h2=>by simp only at h1;omega⟩
  rintro⟨ms,j⟩ ⟨j0,j1,hM,hbd⟩ hfx ag hag
  simp only at j0 j1 hM hbd
  have hml:ms.length=cs.length+1:=by rw[hM,zm,kV,zby]
  have gm:∀k,ms.getD k (.int .i64 0)=.int .i64 (((Yg cs j.toNat).getD k 0:Nat):Int):=fun k=>by rw[hM,zT,zcW]
  conv=>cbv
  simp only[zr hL,sQ,g0,hal,ga,gm,hml,Ep]
  refine⟨fun h2=>?_,fun h2=>?_⟩
  ·obtain⟨t,ht⟩:∃t:Nat,j=t+1:=⟨(j-1).toNat,by omega⟩
   have he:j.toNat=t+1:=by omega
   obtain⟨A,hA⟩:∃A,A=Yg cs (t+1):=⟨_,rfl⟩
   rw[he,←hA]at hM gm
   have hsm:∀i,A.getD i 0≤1984:=fun i=>by
    by_cases hi:i≤cs.length
    ·rw[hA]
     have:=zwT (cs:=cs) (j:=t+1) (by omega) (fun i h1 h2=>hbd i (by omega) h2) i hi
     omega
    ·rw[zd,zG (by rw[hA,zby];omega)]
     exact Nat.zero_le _
   have hA1:A.getD (t+1) 0=hdM (cs.drop (t+1)):=by rw[hA,KR (by omega),if_neg (by omega)]
   have hAl:A.length=cs.length+1:=by rw[hA,zby]
   obtain⟨nl,hnl⟩:∃nl,nl=zcj cs (t+1):=⟨_,rfl⟩
   obtain⟨vn,hvn⟩:∃vn,vn=I (yv nl):=⟨_,rfl⟩
   have hnok:nl.length≤2∧∀i,i<nl.length→nl.getD i 0≠t+1∧nl.getD i 0<A.length:=by
    have hle:=hv.le t (by omega)
    rw[hnl,zcj,if_neg (by omega),yQ]
    split
    ·refine⟨by simp,fun i hi=>?_⟩
     have:i=0:=by simp at hi;omega
     subst this
     simp only[yL]
     omega
    ·refine⟨by simp,fun i hi=>?_⟩
     have:i=0∨i=1:=by simp at hi;omega
     rcases this with rfl|rfl
     ·simp only[yL]
      omega
     ·simp only[qn,yL]
      omega
   have hvl:vn.length=nl.length:=by rw[hvn,zm,kV]
   have gvn:∀k,vn.getD k (.int .i64 0)=.int .i64 ((nl.getD k 0:Nat):Int):=fun k=>by rw[hvn,zT,zcW]
   have hend:=zAo hv (t:=t) (by omega)
   rw[←hA,←hnl]at hend
   simp only[he,←hA,←hnl,←hvn]
   refine⟨j0,by omega,by omega,fun h3=>?_,fun h3=>⟨Qp j j0 (by omega),?_⟩⟩
   ·rw[hr,hf0,zBP (j:=t+1) (by omega) (by omega) (by rw[←hA1];omega)]
   have h3':A.getD (t+1) 0≤64:=by omega
   refine hlp (List V×Int) _ _ _ [0,5,6,7,8] (fun x=>[(0,none,.val (.slc false 2 (.int .i64 0) a0)),(5,none,.val (.slc true 2 (.int .i64 0) x.1)),(6,none,.val (.int .i64 j)),(7,none,.val (.slc true 2 (.int .i64 0) vn)),(8,none,.val (.int .i64 x.2))])
    (fun x=>0≤x.2∧x.2≤nl.length∧x.1=I (yv (zbD A (t+1) nl x.2.toNat))) (fun x=>(nl.length-x.2).toNat) ((ms,0)) (by subst hL;rfl) ?_ ?_
   ·exact⟨by simp,by simp,hM⟩
   rintro⟨bs,i⟩ ⟨i0,i1,hB⟩ hfx2 ag2 hag2
   simp only at i0 i1 hB
   obtain⟨B,hBB⟩:∃B,B=zbD A (t+1) nl i.toNat:=⟨_,rfl⟩
   obtain⟨b1,b2,b3⟩:=zvJ hnok.2 i.toNat (by omega)
   rw[←hBB]at hB b1 b2 b3
   have hbl:bs.length=cs.length+1:=by rw[hB,zm,kV,b1,hAl]
   have gb:∀k,bs.getD k (.int .i64 0)=.int .i64 ((B.getD k 0:Nat):Int):=fun k=>by rw[hB,zT,zcW]
   have hBs:∀k,B.getD k 0≤2112:=fun k=>by
    have h4:=b3 k
    have h5:=hsm k
    have h6:i.toNat*A.getD (t+1) 0≤2*64:=Nat.mul_le_mul (by omega) h3'
    omega
   conv=>cbv
   simp only[zr hL,sQ,gvn,hvl,gb,hbl]
   refine⟨fun h4=>?_,fun h4=>?_⟩
   ·obtain⟨k,hk⟩:∃k,k=nl.getD i.toNat 0:=⟨_,rfl⟩
    obtain⟨k1,k2⟩:=hnok.2 i.toNat (by omega)
    rw[←hk]at k1 k2
    simp only[←hk,he,zV]
    have hk2:=hBs k
    have hk3:=hBs (t+1)
    have e5:IntKind.wrap .i64 (((B.getD k 0:Nat):Int)+((B.getD (t+1) 0:Nat):Int))=((B.getD k 0+B.getD (t+1) 0:Nat):Int):=by
     rw[zl (by omega) (by omega)];omega
    rw[e5,zl (n:=i+1) (by omega) (by omega)]
    refine⟨by omega,by omega,by omega,by omega,by omega,by omega,by omega,by omega,by omega,by omega,by omega,by omega,by omega,by omega,by omega,?_⟩
    refine hag2 (_,i+1) ⟨by simp only;omega,by simp only;omega,?_⟩ (by simp only;omega)
    simp only[yj i0]
    rw[zbD,←hBB,←hk,hB,Jz,zsq]
   ·rw[zl (n:=j-1) (by omega) (by omega)]
    refine hag (bs,j-1) ⟨by simp only;omega,by simp only;omega,?_,fun q h5 h6=>?_⟩ (by simp only;omega)
    ·simp only
     rw[hB,hBB,show i.toNat=nl.length by omega,hend,show(j-1).toNat=t by omega]
    ·simp only at h5
     by_cases h7:q=t+1
     ·rw[h7,←hA1];omega
     ·exact hbd q (by omega) h6
  ·have h3:j=0:=by omega
   have e0:j.toNat=0:=by omega
   rw[e0]at hM
   refine⟨by omega,by omega,by omega,?_⟩
   rw[hr,hf0,zAb (fun i h1 h2=>hbd i (by omega) h2),hM,e0,zzJ]
   have e6:decide ((((mC cs).getD 0 0:Nat):Int)≤64)=decide (hdM cs≤64):=by
    rw[hdM]
    exact decide_eq_decide.2 (by omega)
   rw[e6]
 ·cases h
def ztt(f:List V→Bool)(q:List V→Prop):zQ:=fun
 |[.slc false 2 (.int .i64 0) a0]=>some ([q a0],.bool (f a0))
 |_=>none
def zsX(_:List V):Bool:=true
theorem zrT:yZ Tryz.prog 106 (ztt zsX zew):=by
 intro args ps r h hp
 unfold ztt at h
 split at h
 ·rename_i a0
  simp only[za,zb]at h
  obtain⟨rfl,rfl⟩:=h
  obtain⟨cs,hcs,hv,hl⟩:zew a0:=(zo.1 hp).1
  have g0:V.frzs a0=a0:=by rw[hcs,zN]
  have hal:a0.length=cs.length:=by rw[hcs,zm,kV]
  have ga:∀k,a0.getD k (.int .i64 0)=.int .i64 ((cs.getD k 0:Nat):Int):=fun k=>by rw[hcs,zT,zcW]
  refine zO (T:=tab) (B:=[]) (Bi:=[]) [0,2,3] Tryz.func106 rfl rfl (by kernel_rfl) (zh rfl) mixed yd (by exact zH) (by exact zE) (by kernel_rfl) ?_
  intro L lp rr hL hr hf hlp
  conv=>cbv
  refine hlp (Int) _ _ _ [0,3] (fun x=>[(0,none,.val (.slc false 2 (.int .i64 0) a0)),(3,none,.val (.int .i64 x))])
   (fun x=>0≤x∧x≤cs.length) (fun x=>(cs.length-x).toNat) (0) (by subst hL;rfl) ?_ ?_
  ·exact⟨by simp,by simp⟩
  rintro i ⟨i0,i1⟩ hfx ag hag
  conv=>cbv
  simp only[zr hL,sQ,g0,hal,ga]
  have hnx:i<cs.length→ag [(0,none,A.val (V.slc false 2 (V.int .i64 0) a0)),(3,none,A.val (V.int .i64 (IntKind.wrap .i64 (i+1))))]:=fun h=>by
   rw[zl (n:=i+1) (by omega) (by omega)]
   exact hag (i+1) ⟨by omega,by omega⟩ (by omega)
  refine⟨fun h2=>⟨i0,h2,fun h3=>hnx h2,fun h3=>?_⟩,fun h2=>?_⟩
  ·have hvi:=hv i.toNat (by omega)
   have e1:i≠0→IntKind.wrap .i64 (i-1)=i-1:=fun h=>zl (by omega) (by omega)
   rcases hvi with h4|⟨h4,h5⟩
   ·omega
   ·rw[e1 (by omega),show(i-1).toNat=i.toNat-1 by omega]
    refine⟨fun h6=>by omega,fun h6=>⟨i0,h2,fun h7=>hnx h2,fun h7=>?_⟩⟩
    rcases h5 with h5|⟨h5,h8⟩
    ·omega
    have hle:=hv.le i.toNat (by omega)
    have e2:IntKind.wrap .i64 (((cs.getD (i.toNat-1) 0:Nat):Int)+1)=((cs.getD i.toNat 0:Nat):Int):=by
     rw[zl (by omega) (by omega)];omega
    rw[e2]
    refine⟨by omega,by omega,fun _=>i0,fun _=>h2,fun _=>trivial,fun _=>by omega,fun _=>by omega,fun _=>trivial,fun h9=>?_,fun h9=>hnx h2⟩
    rcases h9 with h9|h9
    ·omega
    ·exact absurd rfl h9
  ·rw[hr,zsX]
   have:decide ((cs.length:Int)<400)=true:=by rw[decide_eq_true_eq];omega
   rw[this]
 ·cases h
def ztx(f:Int→List V)(q:Int→Prop):zQ:=fun
 |[.int .i64 a0]=>some ([q a0],.slc true 2 (.int .i64 0) (f a0))
 |_=>none
def zhA(k:Int):List V:=I (yv (List.replicate k.toNat 1))
def zr6(k:Int):Prop:=0≤k∧k≤1000
theorem zoE:yZ Tryz.prog 109 (ztx zhA zr6):=by
 intro args ps r h hp
 unfold ztx at h
 split at h
 ·rename_i k
  simp only[za,zb]at h
  obtain⟨rfl,rfl⟩:=h
  obtain⟨k0,k1⟩:zr6 k:=(zo.1 hp).1
  refine zO (T:=tab) (B:=[]) (Bi:=[]) [0,2,3] Tryz.func109 rfl rfl (by kernel_rfl) (zh rfl) mixed yd (by exact zH) (by exact zE) (by kernel_rfl) ?_
  intro L lp rr hL hr hf hlp
  conv=>cbv
  refine hlp (List V×Int) _ _ _ [0,3] (fun x=>[(0,none,.val (.int .i64 x.2)),(3,none,.val (.slc true 2 (.int .i64 0) x.1))])
   (fun x=>0≤x.2∧x.2≤k∧x.1=I (yv (List.replicate (k-x.2).toNat 1))) (fun x=>x.2.toNat) (([],k)) (by subst hL;rfl) ?_ ?_
  ·exact⟨by simp only;omega,by simp,by simp[yv,I]⟩
  rintro⟨os,j⟩ ⟨j0,j1,hO⟩ hfx ag hag
  simp only at j0 j1 hO
  have hol:os.length≤1000:=by rw[hO,zm,kV,zU];omega
  conv=>cbv
  simp only[zr hL,sQ,true_and]
  refine⟨fun h2=>?_,fun h2=>?_⟩
  ·rw[zl (n:=j-1) (by omega) (by omega)]
   (repeat' first|(exact qJ _)|(exact Yf rfl)|(exact kn _)|(apply And.intro)|(intro _))<;>(try first|exact True.intro|omega|rfl|(simp only[zi,zq,zm];omega))
   refine hag (_,j-1) ⟨by simp only;omega,by simp only;omega,?_⟩ (by simp only;omega)
   simp only
   rw[hO,show(k-(j-1)).toNat=(k-j).toNat+1 by omega,qN,za0,←jS]
   rfl
  ·rw[hr,zhA,hO,show(k-j).toNat=k.toNat by omega]
 ·cases h
end Go.Ax
namespace Go.Ax
open Go.Proofs
end Go.Ax
namespace Go.Ax
open Go.Proofs
end Go.Ax
namespace Go.Ax
open Go.Proofs
end Go.Ax
namespace Go.Ax
open Go.Proofs
end Go.Ax
namespace Go.Ax
open Go.Proofs
end Go.Ax
namespace Go.Ax
open Go.Proofs
structure GrN (n:Nat) (es:List (List Int)):Prop where
 n1:1≤n
 n2:n≤40
 el:es.length≤400
 eok:zrr n none es=true
 ed:∀e∈es,zDh n e
 lt:∀e∈es,e0 e<e1 e
end Go.Ax
namespace Go.Ax
open Go.Proofs
end Go.Ax
namespace Go.Ax
open Go.Proofs
def ztB(f:List V→List V→List V→Int→Int)(q:List V→List V→List V→Int→Prop):zQ:=fun
 |[.agg [.slc false 2 (.int .i64 0) a0,.slc false 2 (.int .i64 0) a1,.slc false 2 (.int .i64 0) a2],.int .i64 a3]=>some ([q a0 a1 a2 a3],.int .i64 (f a0 a1 a2 a3))
 |_=>none
end Go.Ax
namespace Go.Ax
open Go.Proofs
end Go.Ax
namespace Go.Ax
open Go.Proofs
theorem zuq{P S Q:List Int}(h:ClP P S Q){k:Nat}(hk:k<P.length):(zkO P S k).Nodup:=by
 obtain⟨l1,l2,l3,l4,l5,l6⟩:=h.low hk
 rw[zkO]
 by_cases h0:k=0
 ·rw[if_pos h0];exact zhR
 ·rw[if_neg h0]
  by_cases h1:0≤S.getD k 0
  ·rw[if_pos h1]
   have hne:S.getD k 0≠P.getD k 0:=by
    have h5:=l5 (by omega)
    obtain⟨_,h3⟩:=(ze9 h0).1 (h.place k hk)
    obtain⟨m1,m2,m3,m4,m5,m6⟩:=h.low (i:=(P.getD k 0).toNat) (by omega)
    by_cases hz:(P.getD k 0).toNat=0
    ·have:=m6 hz
     omega
    ·have:=m4 (by omega)
     omega
   simp only[zL,qf,List.nodup_cons,zX,List.not_mem_nil,not_false_eq_true,zhR,and_true]
   exact hne
  ·rw[if_neg h1];simp
def JV(pm:List (List Int))(w:List Int):Nat→Nat→Int
 |0,a=>w.getD a 0
 |j+1,a=>if(a:Int)∈pm.getD j []then W (JV pm w j a-w.getD j 0)else JV pm w j a
def exL(P S Q:List Int)(a:Nat):Int:=JV (cpx P S P.length P.length) Q P.length a
def zfA(f:List V→List V→List V→List V→List V)(q:List V→List V→List V→List V→Prop):zQ:=fun
 |[.agg [.slc false 2 (.int .i64 0) a0,.slc false 2 (.int .i64 0) a1,.slc false 2 (.int .i64 0) a2],.slc false 2 (.int .i64 0) a3]=>some ([q a0 a1 a2 a3],.slc true 2 (.int .i64 0) (f a0 a1 a2 a3))
 |_=>none
def zct(a b _ d:List V):List V:=I (qu (exL (yV a) (yV b) (yV d)) a.length)
def zrg(a b c d:List V):Prop:=zee a b c∧d=c
theorem ze3:yZ Tryz.prog 90 (zfA zct zrg):=by
 intro args ps r h hp
 unfold zfA at h
 split at h
 ·rename_i a0 a1 a2 a3
  simp only[za,zb]at h
  obtain⟨rfl,rfl⟩:=h
  obtain⟨hqv,h3⟩:zrg a0 a1 a2 a3:=(zo.1 hp).1
  subst h3
  obtain⟨⟨⟨P,hP⟩,⟨S,hS⟩,⟨Q,hQ⟩⟩,hcl⟩:=id hqv
  rw[hP,hS,hQ,zB,zB,zB]at hcl
  have g0:V.frzs a0=a0:=by rw[hP,zN]
  have g1:V.frzs a1=a1:=by rw[hS,zN]
  have g2:V.frzs a3=a3:=by rw[hQ,zN]
  have hpl:a0.length=P.length:=by rw[hP,zm]
  have hsl:a1.length=P.length:=by rw[hS,zm,hcl.sl]
  have hql:a3.length=P.length:=by rw[hQ,zm,hcl.ql]
  have gp:∀k,a0.getD k (.int .i64 0)=.int .i64 (P.getD k 0):=fun k=>by rw[hP,zT]
  have gs:∀k,a1.getD k (.int .i64 0)=.int .i64 (S.getD k 0):=fun k=>by rw[hS,zT]
  have gq:∀k,a3.getD k (.int .i64 0)=.int .i64 (Q.getD k 0):=fun k=>by rw[hQ,zT]
  obtain⟨n,hn⟩:∃n:Int,n=P.length:=⟨_,rfl⟩
  have n1:=hcl.n1
  have n24:=hcl.n24
  have low:=fun t ht=>hcl.low (i:=t) ht
  obtain⟨pm,hpm⟩:∃pm,pm=cpx P S P.length P.length:=⟨_,rfl⟩
  have hf0:zct a0 a1 a3 a3=I (qu (JV pm Q P.length) P.length):=by rw[zct,hpl,hP,hS,hQ,zB,zB,zB,hpm];rfl
  have hmem:∀j a:Nat,j<P.length→((a:Int)∈pm.getD j []↔P.getD j 0=a∨S.getD j 0=a):=fun j a hj=>by
   rw[hpm,cpx,uA _ _ _ _ hj,if_pos hj]
   exact zx8 hcl hj
  generalize YW:same=zd3
  generalize qj:uU=km
  refine zO (T:=tab) (B:=[(82,QN zd3 km)]) (Bi:=[]) [0,1,2,4,5,6] Tryz.func90 rfl rfl (by kernel_rfl) (zh rfl) mixed yd (by subst YW qj;exact(zt zeb zH)) (by subst YW qj;exact zE) (by kernel_rfl) ?_
  intro L lp rr hL hr hf hlp
  have Es:zd3 a3=a3:=by rw[←YW,same]
  conv=>cbv
  simp only[zr hL,sQ,g0,g1,g2,Es]
  refine⟨by rw[←qj];exact⟨⟨_,hQ⟩,by omega⟩,?_⟩
  refine hlp (List V×Int) _ _ _ [1,2,5,6] (fun x=>[(1,none,.val (.slc false 2 (.int .i64 0) a3)),(2,none,.val (.box 77 (.agg [.slc false 2 (.int .i64 0) a0,.slc false 2 (.int .i64 0) a1,.slc false 2 (.int .i64 0) a3]))),(5,none,.val (.slc true 2 (.int .i64 0) x.1)),(6,none,.val (.int .i64 x.2))])
   (fun x=>1≤x.2∧x.2≤n∧x.1=I (qu (JV pm Q x.2.toNat) P.length)) (fun x=>(n-x.2).toNat) ((a3,1)) (by subst hL;rfl) ?_ ?_
  ·refine⟨by simp,by simp only;omega,?_⟩
   simp only
   rw[hQ]
   congr 1
   obtain⟨l1,l2,l3,l4,l5,l6⟩:=low 0 (by omega)
   apply yF
   intro j
   by_cases hj:j<P.length
   ·rw[ur _ _ _ hj,ze (by have:=hcl.ql;omega),show(1:Int).toNat=0+1 from rfl,JV,if_neg (by rw[hmem 0 j (by omega)];have:=l6 rfl;omega)]
    simp[JV,zd,ze (show j<Q.length by have:=hcl.ql;omega)]
   ·rw[zG (by have:=hcl.ql;omega),zG (by rw[yA];omega)]
  rintro⟨ls,j⟩ ⟨j0,j1,hJ⟩ hfx ag hag
  simp only at j0 j1 hJ
  have hll:ls.length=P.length:=by rw[hJ,zm,yA]
  have gls:∀k,ls.getD k (.int .i64 0)=.int .i64 ((qu (JV pm Q j.toNat) P.length).getD k 0):=fun k=>by rw[hJ,zT]
  conv=>cbv
  simp only[zr hL,sQ,g0,g1,g2,hpl,hsl,hql,←hn,gp,gs,gq,hll,gls]
  refine⟨fun h2=>?_,fun h2=>?_⟩
  ·obtain⟨jt,hjt⟩:∃jt,jt=j.toNat:=⟨_,rfl⟩
   have hjn:jt<P.length:=by omega
   rw[←hjt]at hJ
   simp only[←hjt]
   obtain⟨l1,l2,l3,l4,l5,l6⟩:=low jt hjn
   have h5:=l5 (by omega)
   have h4:=l4 (by omega)
   have hm1:=fun a:Nat=>hmem jt a hjn
   obtain⟨pp,hpp⟩:∃pp,pp=P.getD jt 0:=⟨_,rfl⟩
   obtain⟨ss,hss⟩:∃ss,ss=S.getD jt 0:=⟨_,rfl⟩
   have hne:0≤ss→ss≠pp:=fun h0=>by
    have:=zuq hcl hjn
    rw[zkO,if_neg (by omega),←hss,←hpp,if_pos h0]at this
    simp only[zL,qf,List.nodup_cons,zX,List.not_mem_nil,not_false_eq_true,zhR,and_true]at this
    exact this
   simp only[←hpp,←hss]at l1 l2 l3 h4 h5 hm1 ⊢
   obtain⟨p,hp9⟩:∃p,p=pp.toNat:=⟨_,rfl⟩
   obtain⟨s,hs9⟩:∃s,s=ss.toNat:=⟨_,rfl⟩
   have hpn:p<P.length:=by omega
   have hpc:(p:Int)=pp:=by omega
   simp only[←hp9,←hs9]
   have hgv:(qu (JV pm Q jt) P.length).getD p 0=JV pm Q jt p:=uA _ _ _ _ hpn
   rw[hgv]
   obtain⟨l2',hl2'⟩:∃l2',l2'=ls.set p (.int .i64 (IntKind.wrap .i64 (JV pm Q jt p-Q.getD jt 0))):=⟨_,rfl⟩
   have hl2e:l2'=I (qu (fun a=>if a=p then W (JV pm Q jt p-Q.getD jt 0)else JV pm Q jt a) P.length):=by rw[hl2',hJ,Jz,zh5 _ _ hpn]
   have hl2l:l2'.length=P.length:=by rw[hl2e,zm,yA]
   have gl2:∀k,l2'.getD k (.int .i64 0)=.int .i64 ((qu (fun a=>if a=p then W (JV pm Q jt p-Q.getD jt 0)else JV pm Q jt a) P.length).getD k 0):=fun k=>by rw[hl2e,zT]
   rw[←hl2']
   simp only[gl2,hl2l,KP,uz]
   have hwj:IntKind.wrap .i64 (j+1)=j+1:=zl (by omega) (by omega)
   rw[hwj]
   have j0':0≤j:=by omega
   have hpn2:pp<n:=by omega
   refine⟨j0',h2,j0',h2,h5,hpn2,hpn,j0',h2,h5,hpn2,hpn,j0',h2,fun h6=>?_,fun h6=>?_⟩
   ·have hsn:s<P.length:=by omega
    have hsc:(s:Int)=ss:=by omega
    have hsp:s≠p:=by have:=hne h6;omega
    have hgs:(qu (fun a=>if a=p then W (JV pm Q jt p-Q.getD jt 0)else JV pm Q jt a) P.length).getD s 0=JV pm Q jt s:=by rw[uA _ _ _ _ hsn,if_neg hsp]
    rw[hgs]
    refine⟨j0',h2,j0',h2,h6,by omega,hsn,trivial,j0',h2,h6,by omega,hsn,trivial,?_⟩
    refine hag (_,j+1) ⟨by simp only;omega,by simp only;omega,?_⟩ (by simp only;omega)
    simp only[yj j0']
    rw[←hjt,hl2e,Jz,zh5 _ _ hsn]
    congr 1
    refine qQ fun a ha=>?_
    rw[JV]
    by_cases h8:a=s
    ·rw[if_pos h8,if_pos ((hm1 a).2 (.inr (by omega))),h8]
    ·rw[if_neg h8]
     by_cases h7:a=p
     ·rw[if_pos h7,if_pos ((hm1 a).2 (.inl (by omega))),h7]
     ·rw[if_neg h7,if_neg (fun h=>by rcases (hm1 a).1 h with h|h<;>omega)]
   ·refine hag (l2',j+1) ⟨by simp only;omega,by simp only;omega,?_⟩ (by simp only;omega)
    simp only[yj j0']
    rw[←hjt,hl2e]
    congr 1
    refine qQ fun a ha=>?_
    rw[JV]
    by_cases h7:a=p
    ·rw[if_pos h7,if_pos ((hm1 a).2 (.inl (by omega))),h7]
    ·rw[if_neg h7,if_neg (fun h=>by rcases (hm1 a).1 h with h|h<;>omega)]
  ·rw[hr,hf0,hJ,show j.toNat=P.length by omega]
 ·cases h
end Go.Ax
namespace Go.Ax
open Go.Proofs
def zle(f:List V→List V→List V→Int→List V)(q:List V→List V→List V→Int→Prop):zQ:=fun
 |[.agg [.slc false 2 (.int .i64 0) a0,.slc false 2 (.int .i64 0) a1,.slc false 2 (.int .i64 0) a2],.int .i64 a3]=>some ([q a0 a1 a2 a3],.slc true 2 (.int .i64 0) (f a0 a1 a2 a3))
 |_=>none
def zdV(a _ _:List V)(i:Int):List V:=I (yH (yV a) i)
def zjF(a b c:List V)(i:Int):Prop:=zee a b c∧0≤i∧i<a.length
theorem zA3{P S Q:List Int}(h:ClP P S Q){i:Int}(h0:0≤i)(h1:i<P.length):upL P 32 i=i::upL P 32 (P.getD i.toNat 0):=by
 have h2:=congrArg List.reverse (QE h h0 h1)
 rw[yH,yH,List.reverse_reverse,List.reverse_append,List.reverse_reverse]at h2
 simpa using h2
theorem zCl(P:List Int){i:Int}(h:i<0):upL P 32 i=[]:=by rw[upL,if_pos h]
theorem zCm{P S Q:List Int}(h:ClP P S Q){i:Int}(h0: -1≤i)(h1:i<P.length):(upL P 32 i).length≤24:=by
 have:=KN h h0 h1
 rwa [yH,List.length_reverse]at this
theorem zhh:yZ Tryz.prog 78 (zle zdV zjF):=by
 intro args ps r h hp
 unfold zle at h
 split at h
 ·rename_i a0 a1 a2 i
  simp only[za,zb]at h
  obtain⟨rfl,rfl⟩:=h
  obtain⟨hqv,i0,i1⟩:zjF a0 a1 a2 i:=(zo.1 hp).1
  obtain⟨⟨⟨P,hP⟩,⟨S,hS⟩,⟨Q,hQ⟩⟩,hcl⟩:=id hqv
  rw[hP,hS,hQ,zB,zB,zB]at hcl
  have g0:V.frzs a0=a0:=by rw[hP,zN]
  have g1:V.frzs a1=a1:=by rw[hS,zN]
  have g2:V.frzs a2=a2:=by rw[hQ,zN]
  have hpl:a0.length=P.length:=by rw[hP,zm]
  have gp:∀k,a0.getD k (.int .i64 0)=.int .i64 (P.getD k 0):=fun k=>by rw[hP,zT]
  have n24:=hcl.n24
  have hf0:zdV a0 a1 a2 i=I (yH P i):=by rw[zdV,hP,zB]
  rw[hpl]at i1
  refine zO (T:=tab) (B:=[]) (Bi:=[]) [0,1,2,4,5] Tryz.func78 rfl rfl (by kernel_rfl) (zh rfl) mixed yd (by exact zH) (by exact zE) (by kernel_rfl) ?_
  intro L lp rr hL hr hf hlp
  conv=>cbv
  refine hlp (List V×Int) _ _ _ [1,2,5] (fun x=>[(1,none,.val (.int .i64 x.2)),(2,none,.val (.box 77 (.agg [.slc false 2 (.int .i64 0) a0,.slc false 2 (.int .i64 0) a1,.slc false 2 (.int .i64 0) a2]))),(5,none,.val (.slc true 2 (.int .i64 0) x.1))])
   (fun x=> -1≤x.2∧x.2<P.length∧∃ls,x.1=I ls.reverse∧ls++upL P 32 x.2=upL P 32 i) (fun x=>(x.2+1).toNat) (([],i)) (by subst hL;rfl) ?_ ?_
  ·exact⟨by simp only;omega,by simp only;exact i1,[],rfl,rfl⟩
  rintro⟨os,j⟩ ⟨j0,j1,ls,hO,hU⟩ hfx ag hag
  simp only at j0 j1 hO hU
  have hul:=zCm hcl (show-1≤i by omega) i1
  have hll:ls.length≤24:=by rw[←hU,zk]at hul;omega
  have hol:os.length=ls.length:=by rw[hO,zm,List.length_reverse]
  conv=>cbv
  simp only[zr hL,sQ,g0,g1,g2,gp,hpl]
  refine⟨fun h2=>?_,fun h2=>?_⟩
  ·have hlow:=hcl.low (i:=j.toNat) (by omega)
   refine⟨by rw[hO];exact zfM _,by rw[hol];simp only[zi,zq];omega,by rw[hO];exact zhS _,h2,by omega,?_⟩
   refine hag (_,P.getD j.toNat 0) ⟨by simp only;omega,by simp only;omega,ls++[j],?_,?_⟩ (by simp only;omega)
   ·simp only
    rw[hO,List.reverse_append,←jS]
    rfl
   ·simp only
    rw[zS,List.singleton_append,←zA3 hcl h2 j1]
    exact hU
  ·rw[zCl P (by omega),List.append_nil]at hU
   rw[hr,hf0,hO,hU,yH]
 ·cases h
def zk4(_ b _ d:List V):List V:=I (yv (cdN (yV b) (yV d)))
def zrf(a b c d:List V):Prop:=zee a b c∧∃i,d=I (yH (yV a) i)∧0≤i∧i<a.length
theorem zsd{P S Q:List Int}(h:ClP P S Q){i:Int}(h0:0≤i)(h1:i<P.length){j:Nat}(hj:j<(yH P i).length):0≤(yH P i).getD j 0∧(yH P i).getD j 0<P.length:=by
 have:=(ze6 h i (by omega) h1).1 _ (show(yH P i).getD j 0∈yH P i by rw[zd,ze hj];exact ye _)
 omega
theorem zAe{P S Q:List Int}(h:ClP P S Q){i:Int}(h0:0≤i)(h1:i<P.length){j:Nat}(hj:j<(yH P i).length)(hs:0≤S.getD ((yH P i).getD j 0).toNat 0):
 0≤idx (yH P i) (S.getD ((yH P i).getD j 0).toNat 0)∧idx (yH P i) (S.getD ((yH P i).getD j 0).toNat 0)<24∧(j:Int)-idx (yH P i) (S.getD ((yH P i).getD j 0).toNat 0)=(KC S (yH P i) j:Nat):=by
 have hm:=(zqq h i (by omega) h1).1 _ (show(yH P i).getD j 0∈yH P i by rw[zd,ze hj];exact ye _) hs
 obtain⟨k,hk⟩:∃k,k=(yH P i).idxOf (S.getD ((yH P i).getD j 0).toNat 0):=⟨_,rfl⟩
 have hi:=zjS hm
 rw[←hk]at hi
 have hkl:k<(yH P i).length:=by rw[hk];exact zag.2 hm
 have hlen:=KN h (show-1≤i by omega) h1
 have hlt:k<j:=by
  have hp:=List.pairwise_iff_getElem.1 (ze6 h i (by omega) h1).2
  have hpk:(yH P i)[k]=S.getD ((yH P i).getD j 0).toNat 0:=by
   simp only[hk]
   exact List.getElem_idxOf _
  have hpj:(yH P i)[j]=(yH P i).getD j 0:=by rw[zd,ze hj];rfl
  have hg:=zsd h h0 h1 hj
  have hl:=h.low (i:=((yH P i).getD j 0).toNat) (by omega)
  have h00:((yH P i).getD j 0).toNat≠0:=fun e=>by have:=(hl.2.2.2.2.2 e).2;omega
  have h4:=hl.2.2.2.1 (by omega)
  rcases Nat.lt_trichotomy k j with h5|h5|h5
  ·exact h5
  ·subst h5
   rw[hpj]at hpk
   omega
  ·have:=hp j k hj hkl h5
   rw[hpj,hpk]at this
   omega
 rw[hi,KC,if_pos hs,hi]
 omega
theorem zoB:yZ Tryz.prog 93 (zfA zk4 zrf):=by
 intro args ps r h hp
 unfold zfA at h
 split at h
 ·rename_i a0 a1 a2 a3
  simp only[za,zb]at h
  obtain⟨rfl,rfl⟩:=h
  obtain⟨hqv,i,hpi,i0,i1⟩:zrf a0 a1 a2 a3:=(zo.1 hp).1
  obtain⟨⟨⟨P,hP⟩,⟨S,hS⟩,⟨Q,hQ⟩⟩,hcl⟩:=id hqv
  rw[hP,hS,hQ,zB,zB,zB]at hcl
  have g0:V.frzs a0=a0:=by rw[hP,zN]
  have g1:V.frzs a1=a1:=by rw[hS,zN]
  have g2:V.frzs a2=a2:=by rw[hQ,zN]
  have hpl:a0.length=P.length:=by rw[hP,zm]
  have hsl:a1.length=P.length:=by rw[hS,zm,hcl.sl]
  rw[hpl]at i1
  obtain⟨p,hpp⟩:∃p,p=yH P i:=⟨_,rfl⟩
  rw[hP,zB,←hpp]at hpi
  have g3:V.frzs a3=a3:=by rw[hpi,zN]
  have hal:a3.length=p.length:=by rw[hpi,zm]
  have ga:∀k,a3.getD k (.int .i64 0)=.int .i64 (p.getD k 0):=fun k=>by rw[hpi,zT]
  have gs:∀k,a1.getD k (.int .i64 0)=.int .i64 (S.getD k 0):=fun k=>by rw[hS,zT]
  have n24:=hcl.n24
  have hlen:=KN hcl (show-1≤i by omega) i1
  rw[←hpp]at hlen
  have hpg:=fun j hj=>zsd hcl i0 i1 (j:=j) hj
  have hc1:=fun j hj hs=>zAe hcl i0 i1 (j:=j) hj hs
  rw[←hpp]at hpg hc1
  have hf0:zk4 a0 a1 a2 a3=I (yv (cdN S p)):=by rw[zk4,hpi,hS,zB,zB]
  have hfi:∀x,ziK a3 x=idx p x:=fun x=>by rw[ziK,hpi,zB]
  have hqi:∀x,zjE a3 x:=fun x=>⟨⟨p,hpi⟩,by rw[hal];omega⟩
  generalize zdr:ziK=zln
  generalize zam:zjE=zfU
  refine zO (T:=tab) (B:=[(94,zlc zln zfU)]) (Bi:=[]) [0,1,2,4,5,6,7,8] Tryz.func93 rfl rfl (by kernel_rfl) (zh rfl) mixed yd (by subst zdr zam;exact(zt zga zH)) (by subst zdr zam;exact zE) (by kernel_rfl) ?_
  intro L lp rr hL hr hf hlp
  have Ei:∀x,zln a3 x=idx p x:=by rw[←zdr];exact hfi
  have Qi:∀x,zfU a3 x:=by rw[←zam];exact hqi
  conv=>cbv
  refine hlp (List V×Int) _ _ _ [1,2,5,6] (fun x=>[(1,none,.val (.slc false 2 (.int .i64 0) a3)),(2,none,.val (.box 77 (.agg [.slc false 2 (.int .i64 0) a0,.slc false 2 (.int .i64 0) a1,.slc false 2 (.int .i64 0) a2]))),(5,none,.val (.slc true 2 (.int .i64 0) x.1)),(6,none,.val (.int .i64 x.2))])
   (fun x=>1≤x.2∧(x.2≤p.length∨x.2=1)∧x.1=I (yv (qu (fun t=>KC S p (t+1)) (x.2-1).toNat))) (fun x=>(p.length-x.2).toNat) (([],1)) (by subst hL;rfl) ?_ ?_
  ·exact⟨by simp,.inr rfl,rfl⟩
  rintro⟨os,j⟩ ⟨j0,j1,hO⟩ hfx ag hag
  simp only at j0 j1 hO
  conv=>cbv
  simp only[zr hL,sQ,g0,g1,g2,g3,ga,gs,hal,hsl,Ei]
  refine⟨fun h2=>?_,fun h2=>?_⟩
  ·have hol:os.length=j.toNat-1:=by rw[hO,zm,kV,yA];omega
   have hg:=hpg j.toNat (by omega)
   have hnx:∀c:Nat,c=KC S p j.toNat→0≤j→(1≤j+1∧(j+1≤p.length∨j+1=1)∧os++[V.int .i64 (c:Int)]=I (yv (qu (fun t=>KC S p (t+1)) (j+1-1).toNat))):=fun c hc _=>by
    refine⟨by omega,.inl (by omega),?_⟩
    rw[hO,show(j+1-1).toNat=(j-1).toNat+1 by omega,zbs,za0,←jS,show(j-1).toNat+1=j.toNat by omega,hc]
    rfl
   rw[zl (n:=j+1) (by omega) (by omega)]
   refine⟨by omega,h2,hg.1,hg.2,fun h3=>?_,fun h3=>?_⟩
   ·obtain⟨c1,c2,c3⟩:=hc1 j.toNat (by omega) h3
    have e1:IntKind.wrap .i64 (j-idx p (S.getD (p.getD j.toNat 0).toNat 0))=(KC S p j.toNat:Nat):=by
     rw[zl (by omega) (by omega),←c3];omega
    rw[e1]
    refine⟨Qi _,rfl,by simp only[zi,zq];omega,fun x hx=>by(simp only[zX]at hx;subst hx;rfl),?_⟩
    exact hag (_,j+1) (hnx _ rfl (by omega)) (by simp only;omega)
   ·refine⟨rfl,by simp only[zi,zq];omega,fun x hx=>by(simp only[zX]at hx;subst hx;rfl),?_⟩
    exact hag (_,j+1) (hnx 0 (by rw[KC,if_neg h3]) (by omega)) (by simp only;omega)
  ·have he:(j-1).toNat=p.length-1:=by omega
   rw[hr,hf0,hO,he,cdN]
 ·cases h
end Go.Ax
namespace Go.Ax
open Go.Proofs
theorem zqH{a b:Nat}(ha:0<a)(hb:0<b):jc (a:Int) (b:Int)=((Nat.gcd a b:Nat):Int):=by
 rw[jc,zde (by omega),zde (by omega),ziz _ _ _ (zn _) (by omega) (by omega),zV,zV]
theorem ztI:∀(l:List Nat) (p e:Nat),1≤p→p≤2000→1≤e→(zfB (p:Int) (e:Int) (yv l)=true↔Val p e l)
 |[],p,e,_,_,_=>by
  simp only[yv,List.map_nil,zfB,Val,beq_iff_eq]
  omega
 |t::l,p,e,hp,hp2,he=>by
  have hw:IntKind.wrap .i64 ((p:Int)+1)=(p:Int)+1:=zl (by omega) (by omega)
  simp only[yv,List.map_cons,zfB,Val,hw]
  by_cases h:p<t∧t≤2000
  ·have hi:yE (t:Int) ((p:Int)+1) 2000=true:=by
    simp only[yE,zg,decide_eq_true_eq]
    omega
   rw[hi,zqH (by omega) (by omega)]
   have ih:=ztI l t (Nat.gcd e t) (by omega) h.2 (uq t (by omega))
   rw[yv]at ih
   by_cases hg:Nat.gcd e t=e
   ·have hb:(((Nat.gcd e t:Nat):Int)==(e:Int))=true:=by rw[hg];simp
    rw[hb]
    simp[hg]
   ·have hb:(((Nat.gcd e t:Nat):Int)==(e:Int))=false:=by
     rw[beq_eq_false_iff_ne]
     omega
    rw[hb]
    simp only[Bool.not_true,cond_false,ih]
    exact⟨fun h2=>⟨h.1,h.2,hg,h2⟩,fun h2=>h2.2.2.2⟩
  ·have hi:yE (t:Int) ((p:Int)+1) 2000=false:=by
    rw[←Bool.not_eq_true]
    simp only[yE,zg,decide_eq_true_eq]
    omega
   rw[hi]
   simp only[Bool.not_false,cond_true,yM,false_iff]
   exact fun h2=>h ⟨h2.1,h2.2.1⟩
theorem zsF{n:Nat}{l:List Nat}:qK (yv (n::l))=true↔BrN n l:=by
 have h0:(((yv (n::l)).length:Int)==0)=false:=by
  rw[beq_eq_false_iff_ne,kV]
  simp only[zi]
  omega
 have h1:(yv (n::l)).getD 0 0=(n:Int):=rfl
 have h2:(yv (n::l)).drop 1=yv l:=rfl
 rw[←zsG,zeB,h0,h1,h2]
 by_cases h:1≤n∧n≤64
 ·have hi:yE (n:Int) 1 64=true:=by
   simp only[yE,zg,decide_eq_true_eq]
   omega
  rw[hi]
  simp only[cond_false,Bool.not_true]
  rw[ztI l n n h.1 (by omega) h.1]
  exact⟨fun h3=>⟨h.1,h.2,h3⟩,fun h3=>h3.val⟩
 ·have hi:yE (n:Int) 1 64=false:=by
   rw[←Bool.not_eq_true]
   simp only[yE,zg,decide_eq_true_eq]
   omega
  rw[hi]
  simp only[cond_false,Bool.not_false,cond_true,yM,false_iff]
  exact fun h3=>h ⟨h3.lo,h3.hi⟩
theorem zsp{n:Nat}{l:List Nat}(h:BrN n l):Br (yv (n::l)):=Kl (zsF.2 h)
theorem zqN:∀(l:List Int) (d:Int) (i:Nat),i+1<l.length→(Zp d l).getD (i+1) 0=jc ((Zp d l).getD i 0) (l.getD (i+1) 0)
 |[],d,i,h=>by simp at h
 |[x],d,i,h=>by simp at h
 |x::y::l,d,0,h=>rfl
 |x::y::l,d,i+1,h=>by
  have:=zqN (y::l) (jc d x) i (by simpa using h)
  simpa [Zp]using this
theorem zBI(a b:Nat):exI (a:Int) (b:Int)=yv (ex a b):=by
 rw[exI,zV,zV];rfl
theorem zuU{n:Nat}{l0:List Nat}:∀(l pre:List Nat) (p e:Nat),n::l0=pre++l→pre≠[]→0<e→(dv (yv (n::l0))).getD (pre.length-1) 0=(e:Int)→(if pre.length=1 then 0 else pre.getD (pre.length-1) 0)=p→Val p e l→
 (List.range' (pre.length-1) l.length).flatMap (zgT (yv (n::l0)))=yv (uZ p e l)
 |[],pre,p,e,_,_,_,_,_,_=>rfl
 |t::l,pre,p,e,hx,hne,he,hd,hp,hv=>by
  obtain⟨h1,h2,h3,h4⟩:=hv
  have hpl:0<pre.length:=qk.2 hne
  have hlen:(n::l0).length=pre.length+(l.length+1):=by rw[hx,zk];rfl
  have hgt:(n::l0).getD pre.length 0=t:=by
   rw[hx,zd,yp (zn _),kw];rfl
  have hgp:pre.length≠1→(n::l0).getD (pre.length-1) 0=p:=fun h5=>by
   rw[if_neg h5]at hp
   rw[hx,zd,yq (by omega),←zd,hp]
  have hnl:(yv (n::l0)).length=pre.length+(l.length+1):=by rw[kV,hlen]
  have hk:KG (yv (n::l0)) (pre.length-1)=((t-p:Nat):Int):=by
   have e1:(yv (n::l0)).getD (pre.length-1+1) 0=(t:Int):=by
    rw[show pre.length-1+1=pre.length by omega]
    have:=KQ (n::l0) pre.length 0
    rw[hgt]at this
    exact this
   rw[KG,e1]
   by_cases h5:pre.length=1
   ·rw[if_pos (by omega)]
    rw[if_pos h5]at hp
    omega
   ·rw[if_neg (by omega)]
    have:=KQ (n::l0) (pre.length-1) 0
    rw[hgp h5]at this
    have e2:(yv (n::l0)).getD (pre.length-1) 0=(p:Int):=this
    rw[e2]
    omega
  have hrun:zgT (yv (n::l0)) (pre.length-1)=yv (ex (t-p) e):=by rw[zgT,hk,hd,zBI]
  have hd2:(dv (yv (n::l0))).getD ((pre++[t]).length-1) 0=((Nat.gcd e t:Nat):Int):=by
   rw[zk,yr,show pre.length+1-1=(pre.length-1)+1 by omega,dv,zqN _ _ _ (by omega),←dv,hd]
   have:=KQ (n::l0) pre.length 0
   rw[hgt]at this
   have e2:(yv (n::l0)).getD (pre.length-1+1) 0=(t:Int):=by rw[show pre.length-1+1=pre.length by omega];exact this
   rw[e2,zqH he (by omega)]
  have ih:=zuU l (pre++[t]) t (Nat.gcd e t) (by rw[hx];simp) (by simp) (uq t he) hd2 (by
   rw[if_neg (by rw[zk,yr];omega),zk,yr,yQ,zd,yp (zn _),kw];rfl) h4
  rw[zk,yr,show pre.length+1-1=pre.length-1+1 by omega]at ih
  rw[zi,List.range'_succ,List.flatMap_cons,hrun,ih,uZ,za0]
theorem zBb{n:Nat}{l:List Nat}(h:BrN n l):ZN (yv (n::l))=yv (uZ 0 n l):=by
 have h1:=h.lo
 have hd:(dv (yv (n::l))).getD 0 0=(n:Int):=by
  have:=(zsp h).d0
  rw[this];rfl
 have:=zuU l [n] 0 n rfl (by simp) (by omega) hd rfl (h.val.weak (by omega))
 rw[ZN,zcR,kV,zi,yQ,List.range_eq_range']
 exact this
def zDT(xs:List Int):List Int:=yv (match zfl xs with
 |[]=>[]
 |n::l=>zDS n l)
end Go.Ax
namespace Go.Ax
open Go.Proofs
theorem zzo{n:Nat}{l:List Nat}{L:List Int}(h:zpp n l L):L.getD 0 0=(n:Int)∧0<L.length:=by
 obtain⟨hb,hne,m,rfl⟩:=h
 have hlo:=hb.lo
 have hlen:0<(yv (uZ 0 n l++List.replicate m 1)).length:=qk.2 hne
 refine⟨?_,hlen⟩
 have h0:(uZ 0 n l++List.replicate m 1).getD 0 0=n:=by
  cases l with
  |nil=>
   have h1:n=1:=hb.val
   subst h1
   cases m with
   |zero=>simp[uZ,yv]at hne
   |succ m=>rfl
  |cons t l=>
   have h1:=hb.val.1
   have h2:0<t/n:=Nat.div_pos (by omega) (by omega)
   rw[uZ,uK (by omega),Nat.sub_zero,show t/n=(t/n-1)+1 by omega,yx]
   rfl
 have:=KQ (uZ 0 n l++List.replicate m 1) 0 0
 rw[h0]at this
 exact this
def zk6(a:List V):List V×Bool:=(I (ztJ (yV a)),true)
def ztv(f:List V→List V×Bool)(q:List V→Prop):zQ:=fun
 |[.slc false 2 (.int .i64 0) a0]=>some ([q a0],.tup [.agg [.slc true 2 (.int .i64 0) ((f a0).1)],.bool ((f a0).2)])
 |_=>none
def ztu(f:List V→List V×Int)(q:List V→Prop):zQ:=fun
 |[.slc false 2 (.int .i64 0) a0]=>some ([q a0],.tup [.agg [.slc true 2 (.int .i64 0) ((f a0).1)],.int .i64 ((f a0).2)])
 |_=>none
end Go.Ax
namespace Go.Ax
open Go.Proofs
theorem zr1{e r s:Nat}{x y:List Nat}(hr:r≠e)(hs:s≠e):∀a b:Nat,List.replicate a e++r::x=List.replicate b e++s::y→a=b∧r=s∧x=y
 |0,0,h=>by
  simp only[uB,qf,jW]at h
  exact⟨rfl,h⟩
 |0,b+1,h=>by
  simp only[uB,qf,yx,zL,jW]at h
  exact absurd h.1 hr
 |a+1,0,h=>by
  simp only[uB,qf,yx,zL,jW]at h
  exact absurd h.1.symm hs
 |a+1,b+1,h=>by
  simp only[yx,zL,jW,true_and]at h
  obtain⟨h1,h2⟩:=zr1 hr hs a b h
  exact⟨by rw[h1],h2⟩
def OkB:List (Nat×Nat)→Prop
 |[]=>True
 |[_]=>True
 |p::q::l=>p.1≠q.1∧1≤q.2∧OkB (q::l)
def Zo(bl:List (Nat×Nat)):List Nat:=bl.flatMap fun p=>List.replicate p.2 p.1
def QD(bl:List (Nat×Nat)):List (List Int):=bl.map fun p=>[(p.1:Int),(p.2:Int)]
theorem zqj(bl:List (Nat×Nat)):(QD bl).length=bl.length:=by simp[QD]
theorem zqk{bl:List (Nat×Nat)}{i:Nat}{p:Nat×Nat}(h:bl[i]? =some p):(QD bl).getD i []=[(p.1:Int),(p.2:Int)]:=by
 rw[QD,zd,List.getElem?_map,h];rfl
theorem zqi(bl:List (Nat×Nat))(i:Nat)(p:Nat×Nat):(QD bl).set i [(p.1:Int),(p.2:Int)]=QD (bl.set i p):=by
 rw[QD,QD,List.map_set]
theorem zrY(a b:List (Nat×Nat)):QD (a++b)=QD a++QD b:=by simp[QD]
theorem ZE(p:Nat×Nat)(l:List (Nat×Nat)):Zo (p::l)=List.replicate p.2 p.1++Zo l:=by simp[Zo]
theorem zdD(a b:List (Nat×Nat)):Zo (a++b)=Zo a++Zo b:=by simp[Zo]
theorem ztK{v c q r:Nat}{tl:List (Nat×Nat)}{X:List Nat}(ho:OkB ((v,c)::tl))(hr:r≠v)(h:Zo ((v,c)::tl)=List.replicate q v++r::X):
 c=q∧∃c1 tl',tl=(r,c1)::tl'∧OkB tl∧Zo tl=r::X:=by
 rw[ZE]at h
 match tl,ho with
 |[],_=>
  exfalso
  have h1:r∈List.replicate q v++r::X:=by simp
  rw[←h]at h1
  simp only[Zo,List.flatMap_nil,List.append_nil]at h1
  exact hr (List.mem_replicate.1 h1).2
 |(v1,c1)::tl',ho=>
  obtain⟨h1,h2,h3⟩:=ho
  have h4:Zo ((v1,c1)::tl')=v1::(List.replicate (c1-1) v1++Zo tl'):=by
   rw[ZE]
   simp only
   rw[show c1=(c1-1)+1 by have:1≤c1:=h2;omega,yx]
   rfl
  rw[h4]at h
  obtain⟨e1,e2,e3⟩:=zr1 (Ne.symm h1) hr _ _ h
  have e2:v1=r:=e2
  refine⟨e1,c1,tl',by rw[e2],h3,by rw[h4,e3,e2]⟩
theorem zAj{v c k:Nat}{tl:List (Nat×Nat)}{Y:List Nat}(ho:OkB ((v,c)::tl))(h:Zo ((v,c)::tl)=List.replicate k v++Y):
 k≤c∧OkB ((v,c-k)::tl)∧Zo ((v,c-k)::tl)=Y:=by
 rw[ZE]at h
 have hk:k≤c:=by
  rcases Nat.lt_or_ge c k with h1|h1
  ·exfalso
   simp only at h
   rw[show k=c+(k-c) by omega,←je,zS,List.append_cancel_left_eq,show k-c=(k-c-1)+1 by omega,yx,zL]at h
   match tl,ho with
   |[],_=>simp[Zo]at h
   |(v1,c1)::tl',ho=>
    obtain⟨h3,h4,_⟩:=ho
    rw[ZE]at h
    simp only at h h4
    rw[show c1=(c1-1)+1 by omega,yx,zL,jW]at h
    exact h3 h.1.symm
  ·exact h1
 refine⟨hk,?_,?_⟩
 ·cases tl with
  |nil=>trivial
  |cons p tl=>exact ho
 ·rw[ZE]
  simp only at h ⊢
  rw[show c=k+(c-k) by omega,←je,zS,List.append_cancel_left_eq]at h
  exact h
def zg4(B:List (Nat×Nat))(x:Nat):List (Nat×Nat):=match B.getLast? with
 |some p=>if p.1=x then B.set (B.length-1) (p.1,p.2+1)else B++[(x,1)]
 |none=>[(x,1)]
def Qk(L:List Nat):List (Nat×Nat):=L.foldl zg4 []
theorem zkh(L:List Nat)(x:Nat):Qk (L++[x])=zg4 (Qk L) x:=by rw[Qk,Qk,List.foldl_append];rfl
theorem znB:∀{B:List (Nat×Nat)} {p:Nat×Nat} {x:Nat},OkB (B++[p])→p.1≠x→OkB (B++[p]++[(x,1)])
 |[],p,x,_,h=>⟨h,zn _,trivial⟩
 |[q],p,x,h,h2=>⟨h.1,h.2.1,h2,zn _,trivial⟩
 |q::q2::B,p,x,h,h2=>⟨h.1,h.2.1,znB (B:=q2::B) h.2.2 h2⟩
theorem zu4:∀{B:List (Nat×Nat)} {p:Nat×Nat},OkB (B++[p])→OkB (B++[(p.1,p.2+1)])
 |[],p,_=>trivial
 |[q],p,h=>⟨h.1,Nat.le_add_left _ _,trivial⟩
 |q::q2::B,p,h=>⟨h.1,h.2.1,zu4 (B:=q2::B) h.2.2⟩
theorem ztL:∀(k:Nat) (L:List Nat),L.length=k→OkB (Qk L)∧Zo (Qk L)=L∧(L≠[]→∃B p,Qk L=B++[p]∧1≤p.2∧L.getLast? =some p.1)
 |0,L,h=>by
  obtain rfl:=List.eq_nil_of_length_eq_zero h
  exact⟨trivial,rfl,fun h=>absurd rfl h⟩
 |k+1,L0,h=>by
  obtain⟨L,x,rfl⟩:∃L x,L0=L++[x]:=by
   have hne:L0≠[]:=fun h2=>by rw[h2]at h;simp at h
   exact⟨L0.dropLast,L0.getLast hne,(List.dropLast_concat_getLast hne).symm⟩
  obtain⟨i1,i2,i3⟩:=ztL k L (by rw[zk,yr]at h;omega)
  rw[zkh]
  by_cases hL:L=[]
  ·subst hL
   exact⟨trivial,rfl,fun _=>⟨[],(x,1),rfl,zn _,rfl⟩⟩
  ·obtain⟨B,p,hB,hp1,hp2⟩:=i3 hL
   have hlast:(Qk L).getLast? =some p:=by rw[hB];simp
   rw[zg4,hlast]
   simp only
   by_cases hx:p.1=x
   ·rw[if_pos hx]
    have hset:(Qk L).set ((Qk L).length-1) (p.1,p.2+1)=B++[(p.1,p.2+1)]:=by
     rw[hB,zk,yr,yQ,Ym _ _ (zn _),kw];rfl
    rw[hset]
    refine⟨?_,?_,fun _=>⟨B,_,rfl,by simp only;omega,by simp[hx]⟩⟩
    ·rw[hB]at i1;exact zu4 i1
    ·rw[←i2,hB,zdD,zdD,zS,←hx]
     congr 1
     simp[Zo,qN]
   ·rw[if_neg hx]
    refine⟨?_,?_,fun _=>⟨Qk L,_,rfl,zn _,by simp⟩⟩
    ·rw[hB]at i1 ⊢;exact znB i1 hx
    ·rw[zdD,i2];rfl
theorem zlf(L:List Nat):OkB (Qk L)∧Zo (Qk L)=L∧(L≠[]→∃B p,Qk L=B++[p]∧1≤p.2∧L.getLast? =some p.1):=ztL _ L rfl
theorem zqb:∀(l:List Nat) (p e:Nat),0<e→Val p e l→2^l.length≤e
 |[],p,e,he,_=>he
 |t::l,p,e,he,h=>by
  have hg:=uq t he
  have ih:=zqb l t (Nat.gcd e t) hg h.2.2.2
  obtain⟨c,hc⟩:=Nat.gcd_dvd_left e t
  have hc2:2≤c:=by
   rcases Nat.lt_or_ge c 2 with h1|h1
   ·exfalso
    have:c=0∨c=1:=by omega
    rcases this with rfl|rfl
    ·omega
    ·exact h.2.2.1 (by omega)
   ·exact h1
  rw[zi,Nat.pow_succ]
  have h2:Nat.gcd e t*2≤Nat.gcd e t*c:=Qc _ hc2
  omega
end Go.Ax
namespace Go.Ax
open Go.Proofs
theorem zo3(S:List (List Int))(i:Nat):(jk (S.take i)).length≤(jk S).length:=by
 conv=>rhs;rw[←List.take_append_drop i S]
 rw[jk,jk,List.flatMap_append,zk]
 omega
theorem zlS(xs:List Int):jk (zcg xs)=ZN xs:=zeD xs _
theorem zzq{xs:List Int}(h:Br xs):(ZN xs).length≤200000:=by
 have h1:=h.len
 have h2:=h.pos
 have:=ze2 h (xs.length-1) (by omega)
 rw[ZN];omega
def zxn(f:List V→Int)(q:List V→Prop):zQ:=fun
 |[.agg [.slc false 2 (.int .i64 0) a0]]=>some ([q a0],.int .i64 (f a0))
 |_=>none
theorem zDB{a b:Nat}(ha:0<a)(hb:0<b):1≤(ex a b).length:=by
 rw[uK hb,zk,zU]
 by_cases h:a/b=0
 ·have hab:a<b:=(Nat.div_eq_zero_iff.1 h).resolve_left (by omega)
  rw[Nat.mod_eq_of_lt hab,uK ha,zk,zU]
  have:1≤b/a:=Nat.div_pos (by omega) ha
  omega
 ·have:1≤a/b:=Nat.one_le_iff_ne_zero.2 h
  omega
theorem zBc{xs:List Int}(h:Br xs)(h1:xs.length≠1):1≤(ZN xs).length:=by
 have hp:=h.pos
 obtain⟨n,hn⟩:∃n,xs.length-1=n+1:=⟨xs.length-2,by omega⟩
 rw[ZN,hn,zf4,zk]
 have k1:=zjO h (i:=n) (by omega)
 have k2:=h.dpos n (by omega)
 have:=zDB (a:=(KG xs n).toNat) (b:=((dv xs).getD n 0).toNat) (by omega) (by omega)
 rw[zgT,exI,List.length_map]
 omega
theorem zwo{xs:List Int}(h:Br xs):((sq1 xs).length:Int)=max ((ZN xs).length:Int) 1:=by
 rw[sq1]
 split
 ·rename_i h1
  rw[ZN,h1]
  simp only[zcR,List.range_zero,List.flatMap_nil,kw,zq,zi]
  omega
 ·rename_i h1
  have:=zBc h h1
  omega
def zk5(a:List V):Int:=(sq1 (yV a)).length
theorem zo4{S:List (List Int)}{i:Nat}(hi:i<S.length)(h0:0≤(S.getD i []).getD 0 0):((jk (S.take (i+1))).length:Int)=(jk (S.take i)).length+(S.getD i []).getD 0 0:=by
 rw[ziD S i hi,zk,zU]
 omega
theorem znj:yZ Tryz.prog 53 (zxn zk5 JM):=by
 intro args ps r h hp
 unfold zxn at h
 split at h
 ·rename_i a0
  simp only[za,zb]at h
  obtain⟨rfl,rfl⟩:=h
  have hq:JM a0:=(zo.1 hp).1
  obtain⟨xs,hxs,hb⟩:=id hq
  have g1:V.frzs a0=a0:=by rw[hxs,zN]
  have hf0:zk5 a0=(sq1 xs).length:=by rw[zk5,hxs,zB]
  obtain⟨S,hS⟩:∃S,S=zcg xs:=⟨_,rfl⟩
  obtain⟨vs,hvs⟩:∃vs,vs=II true S:=⟨_,rfl⟩
  have e1:zcr a0=vs:=by rw[zcr,hxs,zB,hvs,hS]
  have hsl:S.length≤4096:=by
   have:=zgf hb (xs.length-1) (by have:=hb.pos;omega)
   have:=hb.len
   rw[hS,zcg];omega
  have vl:vs.length=S.length:=by rw[hvs,yz]
  have gs:∀k,vs.getD k (.slc true 2 (.int .i64 0) [])=.slc true 2 (.int .i64 0) (I (S.getD k [])):=fun k=>by rw[hvs,jf]
  have hS0:∀i,i<S.length→(S.getD i []).length=2∧0≤(S.getD i []).getD 0 0:=fun i hi=>by
   have hm:=zcY hi
   rw[hS]at hm ⊢
   have h1:=zqh _ _ hm
   exact⟨h1.1,h1.2.1⟩
  have hlen:∀i,(jk (S.take i)).length≤200000:=fun i=>by
   have h1:=zo3 S i
   have h2:(jk S).length≤200000:=by rw[hS,zlS];exact zzq hb
   omega
  generalize zbH:zcr=zfV
  generalize ZA:JM=zcH
  refine zO (T:=tab) (B:=[(81,zof zfV zcH)]) (Bi:=[]) [0,1,2,3,4,5] Tryz.func53 rfl rfl (by kernel_rfl) (zh rfl) mixed yd (by subst zbH ZA;exact(zt zhi zH)) (by subst zbH ZA;exact zE) (by kernel_rfl) ?_
  intro L lp rr hL hr hf hlp
  conv=>cbv
  have F1:zfV a0=vs:=by rw[←zbH,e1]
  simp only[zr hL,sQ,g1,F1]
  refine⟨by rw[←ZA];exact hq,?_⟩
  refine hlp (Int×Int) _ _ _ [3,4,5] (fun x=>[(3,none,.val (.slc true 44 (.slc true 2 (.int .i64 0) []) vs)),(4,none,.val (.int .i64 x.1)),(5,none,.val (.int .i64 x.2))])
   (fun x=>0≤x.2∧x.2≤S.length∧x.1=(jk (S.take x.2.toNat)).length) (fun x=>(S.length-x.2).toNat) ((0,0)) (by subst hL;rfl) ?_ ?_
  ·exact⟨by simp,by simp,rfl⟩
  rintro⟨s,i⟩ ⟨i0,i1,hI⟩ hfx ag hag
  simp only at i0 i1 hI
  conv=>cbv
  simp only[zr hL,sQ,vl,gs]
  refine⟨fun h2=>?_,fun h2=>?_⟩
  ·have hil:i.toNat<S.length:=by omega
   have hst:=zo4 hil (hS0 _ hil).2
   obtain⟨r,hR⟩:∃r,r=S.getD i.toNat []:=⟨_,rfl⟩
   have hr0:=hS0 _ hil
   rw[←hR]at hr0 hst ⊢
   have hl1:=hlen i.toNat
   have hl2:=hlen (i.toNat+1)
   have hrl:=hr0.1
   rw[zl (n:=s+r.getD 0 0) (by omega) (by omega),zl (n:=i+1) (by omega) (by omega)]
   (repeat' first|(exact qJ _)|(exact Yf rfl)|(exact kn _)|(apply And.intro)|(intro _))<;>(try first|exact True.intro|omega|rfl|(simp only[zi,zq,zm];omega))
   refine hag (s+r.getD 0 0,i+1) ⟨by simp only;omega,by simp only;omega,?_⟩ (by simp only;omega)
   simp only[yj i0]
   omega
  ·rw[hr,hf0,hI,zu (by omega),hS,zlS,zwo hb]
 ·cases h
end Go.Ax
namespace Go.Ax
open Go.Proofs
def zk7(a:List V):List V:=II true (QD (Qk (zfl (yV a))))
def zwK(a:List V):Prop:=∃L:List Nat,a=I (yv L)∧L.length≤100000
theorem zmg:yZ Tryz.prog 117 (zld zk7 zwK):=by
 intro args ps r h hp
 unfold zld at h
 split at h
 ·rename_i a0
  simp only[za,zb]at h
  obtain⟨rfl,rfl⟩:=h
  obtain⟨ls,hls,hll⟩:zwK a0:=(zo.1 hp).1
  have g0:V.frzs a0=a0:=by rw[hls,zN]
  have hal:a0.length=ls.length:=by rw[hls,zm,kV]
  have gal:∀k,a0.getD k (.int .i64 0)=.int .i64 ((ls.getD k 0:Nat):Int):=fun k=>by rw[hls,zT];exact congrArg _ (KQ ls k 0)
  have hf0:zk7 a0=II true (QD (Qk ls)):=by rw[zk7,hls,zB,zaB]
  obtain⟨n,hn⟩:∃n:Int,n=ls.length:=⟨_,rfl⟩
  refine zO (T:=tab) (B:=[]) (Bi:=[]) [0,2,3,4,5] Tryz.func117 rfl rfl (by kernel_rfl) (zh rfl) mixed yd (by exact zH) (by exact zE) (by kernel_rfl) ?_
  intro L lp rr hL hr hf hlp
  conv=>cbv
  refine hlp (List V×Int) _ _ _ [0,3,4] (fun x=>[(0,none,.val (.slc false 2 (.int .i64 0) a0)),(3,none,.val (.slc true 44 (.slc true 2 (.int .i64 0) []) x.1)),(4,none,.val (.int .i64 x.2))])
   (fun x=>0≤x.2∧x.2≤n∧x.1=II true (QD (Qk (ls.take x.2.toNat)))∧x.1.length≤x.2.toNat) (fun x=>(n-x.2).toNat) (([],0)) (by subst hL;rfl) ?_ ?_
  ·exact⟨by simp,by simp only;omega,rfl,by simp⟩
  rintro⟨es,i⟩ ⟨i0,i1,hI,hel⟩ hfx ag hag
  simp only at i0 i1 hI hel
  obtain⟨bl,hbl⟩:∃bl,bl=Qk (ls.take i.toNat):=⟨_,rfl⟩
  rw[←hbl]at hI
  have hesl:es.length=bl.length:=by rw[hI,yz,zqj]
  have b7:i<n→i.toNat<ls.length:=fun h3=>by omega
  obtain⟨x,hx⟩:∃x,x=ls.getD i.toNat 0:=⟨_,rfl⟩
  obtain⟨es2,hes2⟩:∃es2,es2=es++[V.slc true 2 (V.int IntKind.i64 0) [V.int IntKind.i64 (x:Int),V.int IntKind.i64 0]]:=⟨_,rfl⟩
  have hel3:es.length≤100000:=by
   have h3:i.toNat≤100000:=by omega
   exact Nat.le_trans hel h3
  have b1:IntKind.wrap .i64 ((es.length:Int)+1-1)=(es.length:Int):=by
   have h3:(es.length:Int)+1-1=es.length:=by clear hI hes2;omega
   rw[h3]
   exact zl (by clear hI hes2;omega) (by clear hI hes2;omega)
  have b2:IntKind.wrap .i64 (i+1)=i+1:=zl (by omega) (by omega)
  have b3:0<es.length→IntKind.wrap .i64 ((es.length:Int)-1)=((es.length-1:Nat):Int):=fun h3=>by
   rw[zl (by omega) (by omega)]
   omega
  have h2l:es2.length=es.length+1:=by rw[hes2];simp
  have b4:¬i<n→ls.length≤i.toNat:=fun h3=>by omega
  have b5:IntKind.wrap .i64 (i-1)=i-1:=zl (by omega) (by omega)
  have b6:i<n→0≤i+1∧i+1≤n∧(n-(i+1)).toNat<(n-i).toNat:=fun h3=>by omega
  have h2g:es2.getD es.length (.slc true 2 (.int .i64 0) [])=.slc true 2 (.int .i64 0) (I [(x:Int),0]):=by
   rw[hes2,zd,yp (zn _),kw];rfl
  have hlast:∀h3:¬i=0,∃B p,bl=B++[p]∧p.1=ls.getD (i-1).toNat 0:=fun h3=>by
   obtain⟨_,_,h5⟩:=zlf (ls.take i.toNat)
   have hlt:i.toNat≤ls.length:=by omega
   obtain⟨B,p,h6,_,h7⟩:=h5 (fun h8=>by
    have:=congrArg List.length h8
    rw[zD,zq]at this
    omega)
   refine⟨B,p,by rw[hbl,h6],?_⟩
   rw[List.getLast?_eq_getElem?,zD,List.getElem?_take_of_lt (by omega),show min i.toNat ls.length-1=(i-1).toNat by omega]at h7
   rw[zd,h7];rfl
  have hadd:(i=0∨¬((x:Int)=((ls.getD (i-1).toNat 0:Nat):Int)))→zg4 bl x=bl++[(x,1)]:=fun h3=>by
   by_cases h4:i=0
   ·have:bl=[]:=by rw[hbl,h4];rfl
    rw[this];rfl
   ·obtain⟨B,p,h5,h6⟩:=hlast h4
    have h7:¬p.1=x:=fun h8=>by
     rcases h3 with h3|h3
     ·exact h4 h3
     ·exact h3 (by rw[←h6,h8])
    have h8:bl.getLast? =some p:=by rw[h5];simp
    rw[zg4,h8]
    simp only
    rw[if_neg h7]
  have htk:i<n→ls.take (i.toNat+1)=ls.take i.toNat++[x]:=fun h3=>by
   rw[List.take_succ,hx,zd,ze (b7 h3)];rfl
  have hsnoc:i<n→Qk (ls.take (i.toNat+1))=zg4 bl x:=fun h3=>by rw[htk h3,zkh,hbl]
  conv=>cbv
  simp only[zr hL,sQ,g0,hal,gal,←hn,←hx,←hes2]
  refine⟨fun h2=>⟨fun _=>i0,fun _=>h2,fun _=>trivial,fun h3=>?_,fun h3=>?_,fun _=>trivial,fun h3=>?_,fun h3=>?_⟩,fun h2=>?_⟩
  ·rw[zl (by omega) (by omega)];omega
  ·rw[zl (by omega) (by omega)];omega
  ·have h2l3:(es2.length:Int)=es.length+1:=by rw[h2l];rfl
   rw[h2l3,b1,b2,zV]
   simp only[h2g,zeI,h2l,zm,zT,uz]
   have hlt:es.length<es.length+1:=Nat.lt_succ_self _
   have hl2:[(x:Int),0].length=2:=rfl
   simp only[hl2]
   refine⟨i0,h2,?_,Yf (by simp[V.solid]),jG _,Int.lt_succ _,hlt,rfl,hlt,rfl,by omega,by omega,hlt,rfl,by omega,rfl,?_⟩
   ·simp only[yr]
    have:(es.length:Int)≤100000:=Int.ofNat_le.2 hel3
    omega
   refine⟨hlt,rfl,by omega,by omega,hlt,rfl,by omega,rfl,?_⟩
   obtain⟨c1,c2,c3⟩:=b6 h2
   rw[b5]at h3
   refine hag (_,i+1) ⟨c1,c2,?_,?_⟩ c3
   ·simp only[yj i0]
    rw[hsnoc h2,hadd h3,zrY,YK,hes2,Ym _ _ (zn _),kw,hI]
    rfl
   ·simp only[yj i0,yP,h2l]
    exact Nat.succ_le_succ hel
  ·have h30:¬i=0:=h3.1
   have h31:=h3.2
   rw[b5]at h31
   obtain⟨B,p,h5,h6⟩:=hlast h30
   have hpx:p.1=x:=by
    have h32:(x:Int)=((ls.getD (i-1).toNat 0:Nat):Int):=h31
    rw[h6]
    exact(Int.ofNat_inj.1 h32).symm
   have h8:bl.getLast? =some p:=by rw[h5];simp
   have hblen:bl.length=B.length+1:=by rw[h5];simp
   have hel4:es.length-1=B.length:=by rw[hesl,hblen];rfl
   have hpos:0<es.length:=by rw[hesl,hblen];exact Nat.succ_pos _
   have hadd2:zg4 bl x=bl.set B.length (p.1,p.2+1):=by
    rw[zg4,h8]
    simp only
    rw[if_pos hpx,hblen];rfl
   have hgp:bl[B.length]? =some p:=by rw[h5,yp (zn _),kw];rfl
   have hg:es.getD B.length (.slc true 2 (.int .i64 0) [])=.slc true 2 (.int .i64 0) (I [(p.1:Int),(p.2:Int)]):=by
    rw[hI,jf,zqk hgp]
   have hp2:p.2≤100000:=by
    have h9:=(zlf (ls.take i.toNat)).2.1
    rw[←hbl,h5,zdD]at h9
    have h10:=congrArg List.length h9
    rw[zk,zD,ZE,zk,zU]at h10
    omega
   have hlt:B.length<es.length:=by rw[hesl,hblen];exact Nat.lt_succ_self _
   have hw:IntKind.wrap .i64 ((p.2:Int)+1)=((p.2+1:Nat):Int):=by
    rw[zl (by omega) (by omega)];rfl
   rw[b3 hpos,hel4,b2,zV]
   have hl2:[(p.1:Int),(p.2:Int)].length=2:=rfl
   have hg1:[(p.1:Int),(p.2:Int)].getD 1 0=p.2:=rfl
   simp only[hg,zeI,zm,zT,uz,hl2,hg1,hw]
   obtain⟨c1,c2,c3⟩:=b6 h2
   refine⟨jG _,Int.ofNat_lt.2 hlt,hlt,rfl,hlt,rfl,by omega,by omega,hlt,rfl,by omega,rfl,hlt,rfl,by omega,by omega,hlt,rfl,by omega,rfl,?_⟩
   refine hag (_,i+1) ⟨c1,c2,?_,?_⟩ c3
   ·simp only[yj i0]
    rw[hsnoc h2,hadd2,←zqi,←zd2,hI]
    rfl
   ·simp only[yj i0,yP]
    exact Nat.le_succ_of_le hel
  ·have h5:ls.take i.toNat=ls:=zu (b4 h2)
   rw[hr,hf0,hI,hbl,h5]
 ·cases h
end Go.Ax
