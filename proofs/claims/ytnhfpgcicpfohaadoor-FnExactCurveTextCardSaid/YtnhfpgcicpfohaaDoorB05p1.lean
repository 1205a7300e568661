import Derived.Test.YtnhfpgcicpfohaaDoorB04p1
/-
 Lists that are built in order;divisors of branches,ratios,generators;polar invariants. No conditions but those of the contracts.
-/
set_option linter.all false
namespace Go.Ax
open Go.Proofs
def tab' {α:Type} (f:Nat→α) (n:Nat):List α:=(List.range n).map f
theorem tab_len {α:Type} (f:Nat→α) (n:Nat):(tab' f n).length=n:=by simp [tab']
theorem tab_succ {α:Type} (f:Nat→α) (n:Nat):tab' f (n+1)=tab' f n++[f n]:=by simp [tab',List.range_succ]
theorem tab_get {α:Type} (f:Nat→α) (n i:Nat) (d:α) (h:i<n):(tab' f n).getD i d=f i:=by
 simp [tab',List.getD_eq_getElem?_getD,List.getElem?_map,List.getElem?_range h]
theorem tab_get? {α:Type} (f:Nat→α) (n i:Nat) (h:i<n):(tab' f n)[i]? =some (f i):=by
 simp [tab',List.getElem?_range h]
theorem tab_congr {α:Type} {f g:Nat→α} {n:Nat} (h:∀i,i<n→f i=g i):tab' f n=tab' g n:=by
 simp only [tab']
 apply List.map_congr_left
 intro i hi
 exact h i (by simpa using hi)
theorem take_tab {α:Type} (f:Nat→α) (n k:Nat) (h:k≤n):(tab' f n).take k=tab' f k:=by
 simp only [tab',←List.map_take,List.take_range,Nat.min_eq_left h]
theorem list_tab {α:Type} (l:List α) (d:α):l=tab' (fun i=>l.getD i d) l.length:=by
 apply List.ext_getElem?
 intro i
 by_cases h:i<l.length
 ·rw [tab_get? _ _ _ h,List.getElem?_eq_getElem h,List.getD_eq_getElem?_getD,List.getElem?_eq_getElem h]
  rfl
 ·rw [List.getElem?_eq_none (by omega),List.getElem?_eq_none (by rw [tab_len];omega)]
abbrev W (n:Int):Int:=IntKind.wrap .i64 n
theorem dec_step:∀(l:List Int),dec l=true→∀i,i+1<l.length→l.getD (i+1) 0<l.getD i 0
 |[],h,_,_=>by simp [dec] at h
 |[a],_,i,hi=>by simp at hi
 |a::b::l,h,i,hi=>by
  simp only [dec] at h
  cases hab:decide (a≤b) with
  |true=>rw [hab] at h;simp at h
  |false=>
   rw [hab] at h
   simp only [decide_eq_false_iff_not] at hab
   cases i with
   |zero=>simp;omega
   |succ i=>simpa using dec_step (b::l) h i (by simpa using hi)
theorem dec_last:∀(l:List Int),dec l=true→l≠[]∧l.getD (l.length-1) 0=1
 |[],h=>by simp [dec] at h
 |[a],h=>by simpa [dec] using h
 |a::b::l,h=>by
  simp only [dec] at h
  cases hab:decide (a≤b) with
  |true=>rw [hab] at h;simp at h
  |false=>
   rw [hab] at h
   refine ⟨by simp,?_⟩
   have:=(dec_last (b::l) h).2
   simpa using this
theorem asc_step:∀(l:List Int),asc l=true→∀i,i+1<l.length→l.getD i 0<l.getD (i+1) 0
 |[],_,_,hi=>by simp at hi
 |[a],_,i,hi=>by simp at hi
 |a::b::l,h,i,hi=>by
  simp only [asc] at h
  cases hab:decide (b≤a) with
  |true=>rw [hab] at h;simp at h
  |false=>
   rw [hab] at h
   simp only [decide_eq_false_iff_not] at hab
   cases i with
   |zero=>simp;omega
   |succ i=>simpa using asc_step (b::l) h i (by simpa using hi)
structure Br (xs:List Int):Prop where
 is:isBr xs=true
 pos:0<xs.length
 len:xs.length≤64
 low:∀i,i<xs.length→1≤xs.getD i 0
 high:∀i,i<xs.length→xs.getD i 0≤2000
 up:∀i,i+1<xs.length→xs.getD i 0<xs.getD (i+1) 0
 first:xs.getD 0 0≤64
 dlen:(dv xs).length=xs.length
 d0:(dv xs).getD 0 0=xs.getD 0 0
 dpos:∀i,i<xs.length→1≤(dv xs).getD i 0
 dhi:∀i,i<xs.length→(dv xs).getD i 0≤64
 dstep:∀i,i+1<xs.length→(dv xs).getD (i+1) 0<(dv xs).getD i 0
 dlast:(dv xs).getD (xs.length-1) 0=1
theorem br_of {xs:List Int} (h:isBr xs=true):Br xs:=by
 obtain ⟨t,l,hx,h1,h2,hw,hd⟩:=isBr_facts h
 have h':=h
 simp only [isBr,cond_and',Bool.and_eq_true] at h'
 obtain ⟨⟨⟨⟨_,_⟩,ha⟩,_⟩,hdec⟩:=h'
 have hdl:(dv xs).length=xs.length:=by rw [dv,dvGo_len]
 have hpos:0<xs.length:=by rw [hx];simp
 have hall:∀i,i<xs.length→1≤xs.getD i 0∧xs.getD i 0≤2000:=by
  intro i hi
  simp only [within,List.all_eq_true,inRange,Bool.and_eq_true,decide_eq_true_eq] at hw
  rw [List.getD_eq_getElem?_getD,List.getElem?_eq_getElem hi]
  exact hw _ (List.getElem_mem hi)
 have hd0:(dv xs).getD 0 0=xs.getD 0 0:=by rw [hx];simp [dv,dvGo,gcdW_zero (show 0<t by omega)]
 have hst:∀i,i+1<xs.length→(dv xs).getD (i+1) 0<(dv xs).getD i 0:=fun i hi=>dec_step _ hdec i (by omega)
 have hx0:xs.getD 0 0=t:=by rw [hx];rfl
 have hhi:∀i:Nat,i<xs.length→(dv xs).getD i 0≤64-i:=by
  intro i
  induction i with
  |zero=>intro _;rw [hd0,hx0];omega
  |succ i ih=>
   intro hi
   have:=ih (by omega)
   have:=hst i hi
   omega
 have hlast:=(dec_last _ hdec).2
 rw [hdl] at hlast
 refine ⟨h,hpos,?_,fun i hi=>(hall i hi).1,fun i hi=>(hall i hi).2,fun i hi=>asc_step _ ha i hi,by rw [hx0];omega,hdl,hd0,fun i hi=>hd i hi,fun i hi=>by have:=hhi i hi;omega,hst,hlast⟩
 have:=hhi (xs.length-1) (by omega)
 rw [hlast] at this
 omega
def IsBr (es:List V):Prop:=∃xs,es=I xs∧Br xs
theorem IsBr.isP {es:List V} (h:IsBr es):IsP es:=by
 obtain ⟨xs,rfl,hb⟩:=h
 obtain ⟨t,l,rfl,h1,_⟩:=isBr_facts hb.is
 exact ⟨t,l,rfl,by omega,by have:=hb.len;simp at this;omega⟩
theorem IsBr.isIs {es:List V} (h:IsBr es):IsIs es:=h.isP.isIs
def c_B_l (f:List V→List V) (q:List V→Prop):Contract:=fun
 |[.agg [.slc false 2 (.int .i64 0) a0]]=>some ([q a0],.slc true 2 (.int .i64 0) (f a0))
 |_=>none
end Go.Ax
set_option linter.all false
namespace Go.Ax
open Go.Proofs
end Go.Ax
set_option linter.all false
namespace Go.Ax
open Go.Proofs
def szGo:List (List Int)→Int→Int
 |[],left=>left
 |x::l,left=>bif decide (szL x.length left<0) then-1 else szGo l (szL x.length left)
def szSS (l:List (List Int)) (left:Int):Int:=bif decide (W (left-l.length)<0) then-1 else szGo l (W (left-l.length))
def c_mi_i (f:List V→Int→Int) (q:List V→Int→Prop):Contract:=fun
 |[.slc false 44 (.slc false 2 (.int .i64 0) []) a0,.int .i64 a1]=>some ([q a0 a1],.int .i64 (f a0 a1))
 |_=>none
def f_szSS (es:List V) (left:Int):Int:=szSS (unII es) left
def q_szSS (es:List V) (_:Int):Prop:=IsII false es
theorem lenOks_II {o:Bool} {xss:List (List Int)} (h:V.lenOks (II o xss)):∀i,i<xss.length→(xss.getD i []).length≤9223372036854775807:=by
 intro i hi
 have h1:=lenOks_iff.1 h (.slc o 2 (.int .i64 0) (I (xss.getD i []))) (by
  rw [II,List.mem_map]
  exact ⟨xss.getD i [],by rw [List.getD_eq_getElem?_getD,List.getElem?_eq_getElem hi];exact List.getElem_mem hi,rfl⟩)
 have h2:=h1.1
 rwa [I_length] at h2
set_option maxHeartbeats 1000000 in
set_option maxRecDepth 100000 in
theorem s_laws_szInt64SS:Sat Tryd.prog 10 (c_mi_i f_szSS q_szSS):=by
 intro args ps r h hp
 unfold c_mi_i at h
 split at h
 ·rename_i a0 a1
  simp only [Option.some.injEq,Prod.mk.injEq] at h
  obtain ⟨rfl,rfl⟩:=h
  obtain ⟨xss,hes⟩:IsII false a0:=(alls_cons.1 hp).1
  have hel:a0.length=xss.length:=by rw [hes,II_length]
  have hf0:f_szSS a0 a1=szSS xss a1:=by rw [f_szSS,hes,unII_II]
  generalize H_f0_sz:f0_sz=F_f0_sz
  refine fnOk_ofI (T:=tab) (B:=[(20,c_li_i F_f0_sz)]) (Bi:=[]) [0,1,4,5] Tryd.func10 rfl rfl (by kernel_rfl) (Nat.le_of_ble_eq_true rfl) mixed tabOk (by subst H_f0_sz;exact (bookCons s_laws_szInt64S bookNil)) (by subst H_f0_sz;exact bookINil) (by kernel_rfl) ?_
  intro L lp rr hL hr hf hlp
  have hlen:=hf.1.1
  rw [hel] at hlen
  conv=>cbv
  simp only [stdEqs hL,hel]
  refine ⟨fun h=> ?_,fun h=> ?_⟩
  ·rw [hr,hf0,szSS,h];rfl
  refine hlp (Int×Int) _ _ _ [0,1,5] (fun x=>[(0,none,.val (.slc false 44 (.slc false 2 (.int .i64 0) []) a0)),(1,none,.val (.int .i64 x.1)),(5,none,.val (.int .i64 x.2))])
   (fun x=>0≤x.2∧x.2≤xss.length∧szSS xss a1=szGo (xss.drop x.2.toNat) x.1) (fun x=>(xss.length-x.2).toNat) ((_,0)) (by subst hL;rfl) ?_ ?_
  ·refine ⟨by simp,by simp,?_⟩
   rw [szSS,h];rfl
  rintro ⟨left,i⟩ ⟨i0,i1,hI⟩ hfx ag hag
  conv=>cbv
  simp only at i0 i1 hI
  subst hes
  simp only [stdEqs hL,hel,II_getD,ok_ints,toL_slc,I_frzs,imp_self,true_and,decide_eq_true_eq,decide_eq_false_iff_not]
  subst H_f0_sz
  have e0:f0_sz (I (xss.getD i.toNat [])) left=szL (xss.getD i.toNat []).length left:=by rw [f0_sz,I_length]
  rw [e0]
  refine ⟨fun h=> ?_,fun h=> ?_⟩
  ·have hd:xss.drop i.toNat=xss.getD i.toNat []::xss.drop (i.toNat+1):=drop_cons [] (by omega)
   refine ⟨i0,by omega,fun h2=> ?_,fun h2=> ?_⟩
   ·rw [hr,hf0,hI,hd,szGo,decide_eq_true h2];rfl
   ·rw [wrap_id (n:=i+1) (by omega) (by omega)]
    refine hag (_,i+1) ⟨by simp only;omega,by simp only;omega,?_⟩ (by simp only;omega)
    simp only [toNat_succ i0]
    rw [hI,hd,szGo,decide_eq_false h2];rfl
  ·rw [hr,hf0,hI,List.drop_eq_nil_of_le (by omega)];rfl
 ·cases h
theorem szGo_neg:∀(l:List (List Int)) (left:Int),0≤left→szGo l left<0→szGo l left= -1
 |[],left,h,h'=>by simp only [szGo] at h';omega
 |x::l,left,h,h'=>by
  simp only [szGo] at h' ⊢
  cases hh:decide (szL x.length left<0) with
  |true=>rfl
  |false=>
   rw [hh] at h'
   exact szGo_neg l _ (by simpa using hh) h'
theorem szSS_neg {l:List (List Int)} {left:Int} (h:szSS l left<0):szSS l left= -1:=by
 unfold szSS at h ⊢
 cases hh:decide (W (left-l.length)<0) with
 |true=>rfl
 |false=>
  rw [hh] at h
  exact szGo_neg l _ (by simpa using hh) h
def c_m_m (f:List V→List V) (q:List V→Prop):Contract:=fun
 |[.slc false 44 (.slc false 2 (.int .i64 0) []) a0]=>some ([q a0],.slc true 44 (.slc true 2 (.int .i64 0) []) (f a0))
 |_=>none
def f_cpSS (es:List V):List V:=II true (unII es)
def IsIIs (es:List V):Prop:=∃xss,es=II false xss∧xss.length≤2147483647∧∀xs∈xss,xs.length≤2147483647
set_option maxHeartbeats 1000000 in
set_option maxRecDepth 100000 in
theorem s_laws_toInt64SS:Sat Tryd.prog 14 (c_m_m f_cpSS IsIIs):=by
 intro args ps r h hp
 unfold c_m_m at h
 split at h
 ·rename_i a0
  simp only [Option.some.injEq,Prod.mk.injEq] at h
  obtain ⟨rfl,rfl⟩:=h
  obtain ⟨xss,hes,hl1,hl2⟩:IsIIs a0:=(alls_cons.1 hp).1
  have hel:a0.length=xss.length:=by rw [hes,II_length]
  have hf0:f_cpSS a0=II true xss:=by rw [f_cpSS,hes,unII_II]
  generalize H_same:same=F_same
  generalize H_IsIs:IsIs=F_IsIs
  refine fnOk_ofI (T:=tab) (B:=[(27,c_laws_toInt64S F_same F_IsIs)]) (Bi:=[]) [0,2,3,4] Tryd.func14 rfl rfl (by kernel_rfl) (Nat.le_of_ble_eq_true rfl) mixed tabOk (by subst H_same H_IsIs;exact (bookCons s_laws_toInt64S bookNil)) (by subst H_same H_IsIs;exact bookINil) (by kernel_rfl) ?_
  intro L lp rr hL hr hf hlp
  conv=>cbv
  simp only [stdEqs hL,hel,true_and]
  refine ⟨by omega,by omega,by omega,?_⟩
  refine hlp (List V×Int) _ _ _ [0,3,4] (fun x=>[(0,none,.val (.slc false 44 (.slc false 2 (.int .i64 0) []) a0)),(3,none,.val (.slc true 44 (.slc true 2 (.int .i64 0) []) x.1)),(4,none,.val (.int .i64 x.2))])
   (fun x=>0≤x.2∧x.2≤xss.length∧x.1=II true (xss.take x.2.toNat++List.replicate (xss.length-x.2.toNat) [])) (fun x=>(xss.length-x.2).toNat) ((_,0)) (by subst hL;rfl) ?_ ?_
  ·simp [II_replicate]
  rintro ⟨es,i⟩ ⟨i0,i1,hI⟩ hfx ag hag
  conv=>cbv
  simp only at i0 i1 hI
  have hl:es.length=xss.length:=by rw [hI,II_length];simp;omega
  subst hes
  simp only [stdEqs hL,hel,hl,II_getD,ok_ints,toL_slc,I_frzs,imp_self,true_and,decide_eq_true_eq,decide_eq_false_iff_not]
  subst H_same H_IsIs
  refine ⟨fun h=> ?_,fun h=> ?_⟩
  ·have hm:xss.getD i.toNat []∈xss:=by
    rw [List.getD_eq_getElem?_getD,List.getElem?_eq_getElem (by omega)]
    exact List.getElem_mem _
   refine ⟨i0,by omega,⟨⟨_,rfl⟩,by rw [I_length];exact hl2 _ hm⟩,i0,by omega,by omega,by rw [hI,II_getD];exact .inl (ok_ints _ _ _),?_⟩
   rw [wrap_id (n:=i+1) (by omega) (by omega)]
   refine hag (_,i+1) ⟨by simp only;omega,by simp only;omega,?_⟩ (by simp only;omega)
   simp only [toNat_succ i0,same]
   rw [hI,II_set,fill_set [] [] (by omega)]
  ·rw [hr,hf0,hI,List.take_of_length_le (by omega),show xss.length-i.toNat=0 by omega]
   simp
 ·cases h
theorem IsIIs.isII {es:List V} (h:IsIIs es):IsII false es:=by
 obtain ⟨x,h,_⟩:=h
 exact ⟨x,h⟩
end Go.Ax
set_option linter.all false
namespace Go.Ax
open Go.Proofs
abbrev gI (l:List Int) (i:Int):Int:=l.getD i.toNat 0
def relab (a b:Int) (l:List Int):List Int:=l.map fun x=>if x=b then a else x
def iota (n:Nat):List Int:=tab' (fun i=>(i:Int)) n
def e0 (e:List Int):Int:=e.getD 0 0
def e1 (e:List Int):Int:=e.getD 1 0
def EdIn (n:Nat) (e:List Int):Prop:=e.length=2∧0≤e0 e∧e0 e<n∧0≤e1 e∧e1 e<n
def lo (lab e:List Int):Int:=min (gI lab (e0 e)) (gI lab (e1 e))
def hi (lab e:List Int):Int:=max (gI lab (e0 e)) (gI lab (e1 e))
structure LabOk (n:Nat) (lab:List Int):Prop where
 len:lab.length=n
 nn:∀i,i<n→0≤lab.getD i 0
 le:∀i,i<n→lab.getD i 0≤i
 idem:∀i,i<n→gI lab (lab.getD i 0)=lab.getD i 0
def acy:List Int→List (List Int)→Bool
 |_,[]=>true
 |lab,e::es=> !(gI lab (e0 e)==gI lab (e1 e))&&acy (relab (gI lab (e0 e)) (gI lab (e1 e)) lab) es
def lexLt:List Int→List Int→Bool
 |x::a,y::b=>bif !(x==y) then decide (x<y) else lexLt a b
 |[],_::_=>true
 |_,[]=>false
def edOk (n:Nat) (p:Option (List Int)) (e:List Int):Bool:=e.length==2&&decide (0≤e0 e)&&decide (e0 e<e1 e)&&decide (e1 e<n)&&(match p with
 |none=>true
 |some x=>lexLt x e)
def edsOk (n:Nat):Option (List Int)→List (List Int)→Bool
 |_,[]=>true
 |p,e::es=>edOk n p e&&edsOk n (some e) es
def isGr (ws:List Int) (es:List (List Int)):Bool:=decide (1≤ws.length)&&decide (ws.length≤40)&&within ws (-1000) 1000&&edsOk ws.length none es&&acy (iota ws.length) es
end Go.Ax
set_option linter.all false
namespace Go.Ax
open Go.Proofs
theorem bif_and (a b:Bool):(bif a then b else false)=(a&&b):=by cases a<;>rfl
theorem bif_or (a b:Bool):(bif a then true else b)=(a||b):=by cases a<;>rfl
def q_II (a b:List V):Prop:=IsI a∧IsI b
def c_ll_b (f:List V→List V→Bool) (q:List V→List V→Prop):Contract:=fun
 |[.slc false 2 (.int .i64 0) a0,.slc false 2 (.int .i64 0) a1]=>some ([q a0 a1],.bool (f a0 a1))
 |_=>none
end Go.Ax
set_option linter.all false
namespace Go.Ax
open Go.Proofs
theorem toNat0:Int.toNat 0=0:=rfl
theorem toNat1:Int.toNat 1=1:=rfl
theorem mem_getD {xss:List (List Int)} {i:Nat} (h:i<xss.length):xss.getD i []∈xss:=by
 rw [List.getD_eq_getElem?_getD,List.getElem?_eq_getElem h]
 exact List.getElem_mem _
end Go.Ax
set_option linter.all false
namespace Go.Ax
open Go.Proofs
theorem szGo_ok:∀(l:List (List Int)) (left:Int),0≤left→left≤1048576→(∀x∈l,x.length≤9223372036854775807)→¬szGo l left<0→tot l≤left∧∀x∈l,x.length≤1048576
 |[],left,h,_,_,_=>⟨by simpa [tot] using h,fun x hx=>by cases hx⟩
 |x::l,left,h,h2,hl,hs=>by
  have hx:=hl x (by simp)
  have e1:IntKind.wrap .i64 (left-x.length)=left-x.length:=wrap_id (by omega) (by omega)
  have e2:szL x.length left=bif decide (left-x.length<0) then-1 else left-x.length:=by rw [szL,e1]
  simp only [szGo] at hs
  by_cases h3:left-(x.length:Int)<0
  ·rw [e2,decide_eq_true h3] at hs
   simp at hs
  ·rw [e2,decide_eq_false h3,cond_false,decide_eq_false h3,cond_false] at hs
   obtain ⟨h4,h5⟩:=szGo_ok l _ (by omega) (by omega) (fun y hy=>hl y (by simp [hy])) hs
   refine ⟨by simp only [tot];omega,fun y hy=> ?_⟩
   rcases List.mem_cons.1 hy with rfl|hy
   ·omega
   ·exact h5 y hy
theorem szSS_ok {l:List (List Int)} {left:Int} (h:0≤left) (h2:left≤1048576) (hl0:l.length≤9223372036854775807) (hl:∀x∈l,x.length≤9223372036854775807) (hs:¬szSS l left<0):l.length≤1048576∧tot l≤1048576∧∀x∈l,x.length≤1048576:=by
 have e1:IntKind.wrap .i64 (left-l.length)=left-l.length:=wrap_id (by omega) (by omega)
 unfold szSS at hs
 rw [show W (left-l.length)=left-l.length from e1] at hs
 by_cases h3:left-(l.length:Int)<0
 ·rw [decide_eq_true h3] at hs
  simp at hs
 ·rw [decide_eq_false h3,cond_false] at hs
  obtain ⟨h4,h5⟩:=szGo_ok l _ (by omega) (by omega) hl hs
  exact ⟨by omega,by omega,h5⟩
theorem lenOks_mem {o:Bool} {xss:List (List Int)} (h:V.lenOks (II o xss)):∀x∈xss,x.length≤9223372036854775807:=by
 intro x hx
 obtain ⟨i,hi,rfl⟩:=List.mem_iff_getElem.1 hx
 have:=lenOks_II h i hi
 rwa [List.getD_eq_getElem?_getD,List.getElem?_eq_getElem hi] at this
end Go.Ax
set_option linter.all false
namespace Go.Ax
open Go.Proofs
theorem u8_id {n:Int} (h1:0≤n) (h2:n≤255):IntKind.wrap .u8 n=n:=IntWalk.u8_in n ⟨h1,h2⟩
def Zs (ws:List By):List V:=ws.map fun w=> .str (T w)
@[simp] theorem Zs_length (ws:List By):(Zs ws).length=ws.length:=by simp [Zs]
@[simp] theorem Zs_getD (ws:List By) (k:Nat):(Zs ws).getD k (.str ⟨#[]⟩)= .str (T (ws.getD k [])):=by
  simp only [Zs,List.getD_eq_getElem?_getD,List.getElem?_map]
  cases ws[k]? <;>rfl
@[simp] theorem Zs_append (a b:List By):Zs a++Zs b=Zs (a++b):=by simp [Zs]
@[simp] theorem Zs_frzs (ws:List By):V.frzs (Zs ws)=Zs ws:=by
  rw [V.frzs_eq]
  simp [Zs,V.frz]
@[simp] theorem Zs_noFzs (ws:List By):V.noFzs (Zs ws)=true:=by
  rw [V.noFzs_eq]
  simp [Zs,V.noFz]
@[simp] theorem ok_str (o:Bool) (s:ByteArray):vw stdV tab o 20 9 (.str s)=some (.str s):=rfl
@[simp] theorem toS_str (s:ByteArray):stdV.toS (.str s)=s:=rfl
end Go.Ax
