import Derived.Test.YtopcmoaklelldaaB07p1
import Derived.Test.YtopcmoaklelldaaB08p1
/-
 Words and numbers in texts:impl.parted,digitsOf,numberOf,wordsOf,numbersOf. No conditions but those of the contracts.
-/
set_option linter.all false
namespace Go.Ax
open Go.Proofs
theorem byte_eq (l:By) (i:Nat) (c:UInt8):(((l.getD i 0).toNat:Int)=(c.toNat:Int))↔l.getD i 0=c:=by
 constructor
 ·intro h
  have:(l.getD i 0).toNat=c.toNat:=by omega
  exact UInt8.toNat_inj.1 this
 ·intro h;rw [h]
def c_sc_ssb (f:ByteArray→Int→ByteArray×ByteArray×Bool) (q:ByteArray→Int→Prop):Contract:=fun
 |[.str a0,.int .u8 a1]=>some ([q a0 a1],.tup [.str ((f a0 a1).1),.str ((f a0 a1).2.1),.bool ((f a0 a1).2.2)])
 |_=>none
def cutS (s:ByteArray) (c:Int):By×By×Bool:=cutL (UInt8.ofNat c.toNat) s.data.toList
def f_prt (s:ByteArray) (c:Int):ByteArray×ByteArray×Bool:=(T (cutS s c).1,T (cutS s c).2.1,(cutS s c).2.2)
def q_prt (s:ByteArray) (c:Int):Prop:=s.size≤2000000∧∃d:UInt8,c=d.toNat
theorem cut_steps {c:UInt8} {l:By} {i:Nat} (h:∀t,t<i→l.getD t 0≠c) (hi:i<l.length) (hc:l.getD i 0=c):cutL c l=(l.take i,l.drop (i+1),true):=by
 have e:l=l.take i++c::l.drop (i+1):=by
  rw [←hc,List.getD_eq_getElem?_getD,List.getElem?_eq_getElem hi]
  exact (List.take_append_drop i l).symm.trans (congrArg (List.take i l++ ·) (List.drop_eq_getElem_cons hi))
 have hn:c∉l.take i:=fun hm=>by
  obtain ⟨t,ht,he⟩:=List.mem_iff_getElem.1 hm
  rw [List.length_take] at ht
  rw [List.getElem_take] at he
  refine h t (by omega) ?_
  rw [List.getD_eq_getElem?_getD,List.getElem?_eq_getElem (by omega)]
  exact he
 conv=>lhs;rw [e]
 exact cut_at _ hn
theorem cut_never {c:UInt8} {l:By} (h:∀t,t<l.length→l.getD t 0≠c):cutL c l=(l,[],false)∧splitL c l=[l]:=by
 have hn:c∉l:=fun hm=>by
  obtain ⟨t,ht,he⟩:=List.mem_iff_getElem.1 hm
  refine h t ht ?_
  rw [List.getD_eq_getElem?_getD,List.getElem?_eq_getElem ht]
  exact he
 exact ⟨cut_none hn,split_none hn⟩
set_option maxHeartbeats 1000000 in
set_option maxRecDepth 100000 in
theorem s_impl_parted:Sat Try.prog 14 (c_sc_ssb f_prt q_prt):=by
 intro args ps r h hp
 unfold c_sc_ssb at h
 split at h
 ·rename_i s c
  simp only [Option.some.injEq,Prod.mk.injEq] at h
  obtain ⟨rfl,rfl⟩:=h
  obtain ⟨hs,d,rfl⟩:q_prt s c:=(alls_cons.1 hp).1
  obtain ⟨l,hl⟩:∃l,l=s.data.toList:=⟨_,rfl⟩
  have hsl:s=T l:=by rw [hl];exact T_of s
  have hsz:s.size=l.length:=by rw [hsl,T_size]
  have hcut:cutS s (d.toNat:Int)=cutL d l:=by rw [cutS,←hl,Int.toNat_natCast,UInt8.ofNat_toNat]
  have hf0:f_prt s (d.toNat:Int)=(T (cutL d l).1,T (cutL d l).2.1,(cutL d l).2.2):=by rw [f_prt,hcut]
  obtain ⟨n,hn⟩:∃n:Int,n=l.length:=⟨_,rfl⟩
  obtain ⟨dc,hdc⟩:∃dc:Int,dc=(d.toNat:Int):=⟨_,rfl⟩
  rw [←hdc] at hf0
  have gs:∀i,s.data.getD i 0=l.getD i 0:=fun i=>by rw [hsl,T_get]
  refine fnOk_ofI (T:=tab) (B:=[]) (Bi:=[]) [0,1,4,5,6,7] Try.func14 rfl rfl (by kernel_rfl) (Nat.le_of_ble_eq_true rfl) mixed tabOk (by exact bookNil) (by exact bookINil) (by kernel_rfl) ?_
  intro L lp rr hL hr hf hlp
  rw [←hdc] at hr ⊢
  conv=>cbv
  refine hlp (Int) _ _ _ [0,1,7] (fun x=>[(0,none,.val (.str s)),(1,none,.val (.int .u8 dc)),(7,none,.val (.int .i64 x))])
   (fun x=>0≤x∧x≤n∧∀t,t<x.toNat→l.getD t 0≠d) (fun x=>(n-x).toNat) (0) (by subst hL;rfl) ?_ ?_
  ·exact ⟨by simp,by omega,fun t ht=>by simp at ht⟩
  rintro x ⟨x0,x1,hx⟩ hfx ag hag
  conv=>cbv
  simp only [stdEqs hL,imp_self,true_and,and_true,bif_or,bif_and,Bool.or_eq_true,Bool.or_eq_false_iff,Bool.and_eq_true,Bool.and_eq_false_iff,decide_eq_true_eq,decide_eq_false_iff_not,Bool.not_eq_true',Bool.not_eq_false',beq_iff_eq,beq_eq_false_iff_ne,ne_eq,toNat0,toNat1,ok_int,toI_int,I_frzs,I_length,I_getD,ok_ints,toL_slc,hsz,←hn,gs]
  have hbe:∀t,((l.getD t 0).toNat:Int)=dc↔l.getD t 0=d:=fun t=>by rw [hdc];exact byte_eq l t d
  rw [hbe]
  refine ⟨fun h2=>⟨x0,h2,fun h3=> ?_,fun h3=> ?_⟩,fun h2=> ?_⟩
  ·have hxn:x.toNat<l.length:=by omega
   rw [wrap_id (n:=x+1) (by omega) (by omega)]
   refine ⟨by omega,x0,x1,by omega,by omega,by omega,?_⟩
   rw [hr,hf0,cut_steps hx hxn h3,hsl,T_ext,T_ext,List.drop_zero,show (x+1).toNat=x.toNat+1 by omega,List.take_of_length_le (i:=n.toNat) (by omega)]
  ·rw [wrap_id (n:=x+1) (by omega) (by omega)]
   refine hag (x+1) ⟨by omega,by omega,fun t ht=> ?_⟩ (by omega)
   rw [toNat_succ x0] at ht
   by_cases e:t=x.toNat
   ·rw [e];exact h3
   ·exact hx t (by omega)
  ·rw [hr,hf0,(cut_never fun t ht=>hx t (by omega)).1,hsl]
   rfl
 ·cases h
theorem u8_id {n:Int} (h1:0≤n) (h2:n≤255):IntKind.wrap .u8 n=n:=IntWalk.u8_in n ⟨h1,h2⟩
def digP (l:By):By:=l.takeWhile isD
def f_dig (s:ByteArray):Int×ByteArray×Bool:=
 let l:=s.data.toList
 if 9<(digP l).length∨digP l=[]∨(1<(digP l).length∧l.getD 0 0=48) then (0,T [],false) else (valA (digP l) 0,T (l.drop (digP l).length),true)
def q_dig (s:ByteArray):Prop:=s.size≤2000000
def c_s_isb (f:ByteArray→Int×ByteArray×Bool) (q:ByteArray→Prop):Contract:=fun
 |[.str a0]=>some ([q a0],.tup [.int .i64 ((f a0).1),.str ((f a0).2.1),.bool ((f a0).2.2)])
 |_=>none
theorem dig_take {l:By}:∀{i:Nat},(∀t,t<i→isD (l.getD t 0)=true)→i≤l.length→(i=l.length∨isD (l.getD i 0)=false)→digP l=l.take i:=by
 intro i h hi hs
 induction l generalizing i with
 |nil=>simp [digP]
 |cons c l ih=>
  cases i with
  |zero=>
   rcases hs with hs|hs
   ·simp at hs
   ·have:isD c=false:=by simpa using hs
    simp [digP,this]
  |succ i=>
   have h0:isD c=true:=by simpa using h 0 (by omega)
   have:=ih (i:=i) (fun t ht=>by simpa using h (t+1) (by omega)) (by simpa using hi) (hs.imp (by simp) (by simp))
   rw [digP,List.takeWhile_cons,if_pos h0,List.take_succ_cons]
   congr 1
theorem dig_more {l:By}:∀{i:Nat},(∀t,t<i→isD (l.getD t 0)=true)→i≤l.length→i≤(digP l).length:=by
 intro i h hi
 induction l generalizing i with
 |nil=>simp at hi;omega
 |cons c l ih=>
  cases i with
  |zero=>exact Nat.zero_le _
  |succ i=>
   have h0:isD c=true:=by simpa using h 0 (by omega)
   have:=ih (i:=i) (fun t ht=>by simpa using h (t+1) (by omega)) (by simpa using hi)
   rw [digP,List.takeWhile_cons,if_pos h0,List.length_cons]
   exact Nat.succ_le_succ this
theorem isD_iff (c:UInt8):isD c=true↔48≤(c.toNat:Int)∧(c.toNat:Int)≤57:=by
 rw [isD,Bool.and_eq_true,decide_eq_true_eq,decide_eq_true_eq];omega
set_option maxHeartbeats 1000000 in
set_option maxRecDepth 100000 in
theorem s_impl_digitsOf:Sat Try.prog 44 (c_s_isb f_dig q_dig):=by
 intro args ps r h hp
 unfold c_s_isb at h
 split at h
 ·rename_i s
  simp only [Option.some.injEq,Prod.mk.injEq] at h
  obtain ⟨rfl,rfl⟩:=h
  have hs:q_dig s:=(alls_cons.1 hp).1
  have hs':s.size≤2000000:=hs
  obtain ⟨l,hl⟩:∃l,l=s.data.toList:=⟨_,rfl⟩
  have hsl:s=T l:=by rw [hl];exact T_of s
  have hsz:s.size=l.length:=by rw [hsl,T_size]
  have hf0:f_dig s=if 9<(digP l).length∨digP l=[]∨(1<(digP l).length∧l.getD 0 0=48) then (0,T [],false) else (valA (digP l) 0,T (l.drop (digP l).length),true):=by rw [f_dig,←hl]
  obtain ⟨n,hn⟩:∃n:Int,n=l.length:=⟨_,rfl⟩
  have gs:∀i,s.data.getD i 0=l.getD i 0:=fun i=>by rw [hsl,T_get]
  refine fnOk_ofI (T:=tab) (B:=[]) (Bi:=[]) [0,2,3,4,5,6] Try.func44 rfl rfl (by kernel_rfl) (Nat.le_of_ble_eq_true rfl) mixed tabOk (by exact bookNil) (by exact bookINil) (by kernel_rfl) ?_
  intro L lp rr hL hr hf hlp
  conv=>cbv
  refine hlp (Int×Int) _ _ _ [0,5,6] (fun x=>[(0,none,.val (.str s)),(5,none,.val (.int .i64 x.1)),(6,none,.val (.int .i64 x.2))])
   (fun x=>0≤x.2∧x.2≤n∧x.2≤9∧(∀t,t<x.2.toNat→isD (l.getD t 0)=true)∧x.1=valA (l.take x.2.toNat) 0) (fun x=>(n-x.2).toNat) ((0,0)) (by subst hL;rfl) ?_ ?_
  ·exact ⟨by simp,by simp only;omega,by simp,fun t ht=>by simp at ht,rfl⟩
  rintro ⟨v,x⟩ ⟨x0,x1,x9,hx,hv⟩ hfx ag hag
  simp only at x0 x1 x9 hx hv
  conv=>cbv
  simp only [stdEqs hL,imp_self,true_and,and_true,bif_or,bif_and,Bool.or_eq_true,Bool.or_eq_false_iff,Bool.and_eq_true,Bool.and_eq_false_iff,decide_eq_true_eq,decide_eq_false_iff_not,Bool.not_eq_true',Bool.not_eq_false',beq_iff_eq,beq_eq_false_iff_ne,ne_eq,toNat0,toNat1,ok_int,toI_int,I_frzs,I_length,I_getD,ok_ints,toL_slc,hsz,←hn,gs]
  have hD:∀t,isD (l.getD t 0)=true↔48≤((l.getD t 0).toNat:Int)∧((l.getD t 0).toNat:Int)≤57:=fun t=>isD_iff _
  have h48:((l.getD 0 0).toNat:Int)=48↔l.getD 0 0=48:=byte_eq l 0 48
  rw [h48]
  refine ⟨fun _=>x0,fun _=>x0,fun h=>h.1,fun h2=>⟨fun h3=> ?_,fun h3=>⟨x0,h2.1.1,?_⟩⟩,fun h2=>⟨fun _=>Int.le_refl _,fun h=>by omega,fun h h'=>⟨h,h'⟩,fun h3=> ?_,fun h3=>⟨x0,x1,Int.le_refl _,?_⟩⟩⟩
  ·have hm:=dig_more (l:=l) (i:=x.toNat+1) (fun t ht=>by
    by_cases e:t=x.toNat
    ·rw [e];exact (hD _).2 ⟨h2.1.2,h2.2⟩
    ·exact hx t (by omega)) (by omega)
   rw [hr,hf0,if_pos (.inl (by omega))]
   rfl
  ·have hxl:x.toNat<l.length:=by omega
   have hall:(l.take x.toNat).all isD=true:=by
    rw [List.all_eq_true]
    intro c hc
    obtain ⟨t,ht,rfl⟩:=List.mem_iff_getElem.1 hc
    rw [List.length_take] at ht
    have:=hx t (by omega)
    rw [List.getD_eq_getElem?_getD,List.getElem?_eq_getElem (by omega)] at this
    rw [List.getElem_take];exact this
   obtain ⟨b1,b2⟩:=valA_bound (l.take x.toNat) 0 hall (Int.le_refl _)
   have hp:(10:Int)^(l.take x.toNat).length≤10^9:=by
    have:(10:Nat)^(l.take x.toNat).length≤10^9:=Nat.pow_le_pow_right (by omega) (by rw [List.length_take];omega)
    exact_mod_cast this
   rw [←hv] at b1 b2
   have hc0:=h2.1.2
   have hc1:=h2.2
   rw [wrap_id (n:=x+1) (by omega) (by omega),u8_id (n:=((l.getD x.toNat 0).toNat:Int)-48) (by omega) (by omega),wrap_id (n:=10*v) (by omega) (by omega),wrap_id (n:=((l.getD x.toNat 0).toNat:Int)-48) (by omega) (by omega),wrap_id (by omega) (by omega)]
   refine hag (_,x+1) ⟨by simp only;omega,by simp only;omega,by simp only;omega,fun t ht=> ?_,?_⟩ (by simp only;omega)
   ·simp only [toNat_succ x0] at ht
    by_cases e:t=x.toNat
    ·rw [e];exact (hD _).2 ⟨hc0,hc1⟩
    ·exact hx t (by omega)
   ·simp only [toNat_succ x0]
    rw [List.take_succ_eq_append_getElem hxl,valA_snoc,←hv,List.getD_eq_getElem?_getD,List.getElem?_eq_getElem hxl,Int.mul_comm]
    rfl
  all_goals
   have hdp:digP l=l.take x.toNat:=dig_take hx (by omega) (by
    by_cases e:x<n
    ·right
     cases hd:isD (l.getD x.toNat 0) with
     |false=>rfl
     |true=>have:=(hD _).1 hd;omega
    ·left;omega)
   have hdl:(digP l).length=x.toNat:=by rw [hdp,List.length_take];omega
  ·rw [hr,hf0,if_pos]
   ·rfl
   ·rcases h3 with h3|h3
    ·right;left;exact List.eq_nil_of_length_eq_zero (by omega)
    ·exact .inr (.inr ⟨by omega,h3.2⟩)
  ·rw [hr,hf0,if_neg,hdl,hv,hdp,hsl,T_ext,List.take_of_length_le (i:=n.toNat) (by omega)]
   rintro (h|h|h)
   ·omega
   ·rw [h] at hdl;simp at hdl;omega
   ·rcases h3.2 with h4|h4
    ·omega
    ·exact h4 h.2
 ·cases h
def f_num (s:ByteArray):Int×Bool:=((f_dig s).1,(f_dig s).2.2&&((f_dig s).2.1.toList==(T []).toList))
theorem num_of {s:ByteArray}:(f_num s).2=canon s.data.toList∧(canon s.data.toList=true→(f_num s).1=numV s.data.toList):=by
 obtain ⟨l,hl⟩:∃l,l=s.data.toList:=⟨_,rfl⟩
 rw [f_num,f_dig,←hl]
 have hpre:∀m:By,m.all isD=true→digP m=m:=fun m hm=>by
  induction m with
  |nil=>rfl
  |cons c m ih=>
   rw [List.all_cons,Bool.and_eq_true] at hm
   rw [digP,List.takeWhile_cons,if_pos hm.1]
   exact congrArg (c:: ·) (ih hm.2)
 have hle:(digP l).length≤l.length:=(List.takeWhile_prefix (p:=isD) (l:=l)).length_le
 have hall:(digP l).all isD=true:=by rw [digP,List.all_takeWhile]
 have hdrop:l.drop (digP l).length=[]↔(digP l).length=l.length:=by
  rw [List.drop_eq_nil_iff];omega
 have heq:(digP l).length=l.length→digP l=l:=fun h=>by
  have:=List.takeWhile_prefix (p:=isD) (l:=l)
  exact this.eq_of_length h
 by_cases h:9<(digP l).length∨digP l=[]∨(1<(digP l).length∧l.getD 0 0=48)
 ·rw [if_pos h]
  have hn:canon l=false:=by
   cases hc:canon l with
   |false=>rfl
   |true=>
    obtain ⟨c1,c2,c3,c4⟩:=canon_iff.1 hc
    rw [hpre l c4] at h
    rcases h with h|h|h
    ·omega
    ·exact absurd h c1
    ·rcases c3 with c3|c3
     ·omega
     ·exact absurd h.2 c3
  rw [hn]
  exact ⟨rfl,fun h=>by cases h⟩
 ·rw [if_neg h]
  simp only [not_or,Nat.not_lt] at h
  obtain ⟨h1,h2,h3⟩:=h
  have e:((T (l.drop (digP l).length)).toList==(T []).toList)=decide ((digP l).length=l.length):=by
   rw [T_list,T_list,Bool.eq_iff_iff,beq_iff_eq,decide_eq_true_eq,hdrop]
  rw [e,Bool.true_and]
  have hcan:canon l=decide ((digP l).length=l.length):=by
   rw [Bool.eq_iff_iff,decide_eq_true_eq,canon_iff]
   constructor
   ·intro hc;rw [hpre l hc.2.2.2]
   ·intro hl2
    have:=heq hl2
    rw [this] at h1 h2 h3 hall
    refine ⟨h2,h1,?_,hall⟩
    by_cases e1:l.length≤1
    ·exact .inl e1
    ·exact .inr (fun e2=>h3 ⟨by omega,e2⟩)
  refine ⟨hcan.symm,fun hc=> ?_⟩
  rw [numV,if_pos hc]
  rw [hcan,decide_eq_true_eq] at hc
  rw [heq hc]
def c_s_ib (f:ByteArray→Int×Bool) (q:ByteArray→Prop):Contract:=fun
 |[.str a0]=>some ([q a0],.tup [.int .i64 ((f a0).1),.bool ((f a0).2)])
 |_=>none
set_option maxHeartbeats 1000000 in
set_option maxRecDepth 100000 in
theorem s_impl_numberOf:Sat Try.prog 31 (c_s_ib f_num q_dig):=by
 intro args ps r h hp
 unfold c_s_ib at h
 split at h
 ·rename_i s
  simp only [Option.some.injEq,Prod.mk.injEq] at h
  obtain ⟨rfl,rfl⟩:=h
  have hs:q_dig s:=(alls_cons.1 hp).1
  generalize H_f_dig:f_dig=F_f_dig
  generalize H_q_dig:q_dig=F_q_dig
  refine fnOk_ofI (T:=tab) (B:=[(44,c_s_isb F_f_dig F_q_dig)]) (Bi:=[]) [0,2,3,4,5,6] Try.func31 rfl rfl (by kernel_rfl) (Nat.le_of_ble_eq_true rfl) mixed tabOk (by subst H_f_dig H_q_dig;exact (bookCons s_impl_digitsOf bookNil)) (by subst H_f_dig H_q_dig;exact bookINil) (by kernel_rfl) ?_
  intro L lp rr hL hr hf hlp
  conv=>cbv
  simp only [stdEqs hL,imp_self,true_and,and_true,bif_or,bif_and,Bool.or_eq_true,Bool.or_eq_false_iff,Bool.and_eq_true,Bool.and_eq_false_iff,decide_eq_true_eq,decide_eq_false_iff_not,Bool.not_eq_true',Bool.not_eq_false',beq_iff_eq,beq_eq_false_iff_ne,ne_eq,toNat0,toNat1,ok_int,toI_int,I_frzs,I_length,I_getD,ok_ints,toL_slc,true_and]
  subst H_f_dig H_q_dig
  refine ⟨hs,?_⟩
  rw [hr]
  rfl
 ·cases h
def Zs (ws:List By):List V:=ws.map fun w=> .str (T w)
@[simp] theorem Zs_length (ws:List By):(Zs ws).length=ws.length:=by simp [Zs]
@[simp] theorem Zs_getD (ws:List By) (k:Nat):(Zs ws).getD k (.str ⟨#[]⟩)= .str (T (ws.getD k [])):=by
  simp only [Zs,List.getD_eq_getElem?_getD,List.getElem?_map]
  cases ws[k]? <;>rfl
@[simp] theorem Zs_append (a b:List By):Zs a++Zs b=Zs (a++b):=by simp [Zs]
@[simp] theorem Zs_frzs (ws:List By):V.frzs (Zs ws)=Zs ws:=by
  rw [V.frzs_eq]
  simp [Zs,V.frz]
@[simp] theorem Zs_noFzs (ws:List By):V.noFzs (Zs ws)=true:=by
  rw [V.noFzs_eq]
  simp [Zs,V.noFz]
@[simp] theorem ok_str (o:Bool) (s:ByteArray):vw stdV tab o 20 9 (.str s)=some (.str s):=rfl
@[simp] theorem toS_str (s:ByteArray):stdV.toS (.str s)=s:=rfl
theorem split_len (c:UInt8):∀l:By,(splitL c l).length≤l.length+1
 |[]=>by simp [splitL]
 |x::l=>by
  have ih:=split_len c l
  rw [splitL]
  split
  ·simp only [List.length_cons];omega
  ·split
   ·simp
   ·rename_i h;rw [h] at ih;simp only [List.length_cons] at ih ⊢;omega
theorem split_wlen (c:UInt8):∀(l:By) (w:By),w∈splitL c l→w.length≤l.length
 |[],w,h=>by simp [splitL] at h;simp [h]
 |x::l,w,h=>by
  rw [splitL] at h
  split at h
  ·rcases List.mem_cons.1 h with e|e
   ·rw [e];simp
   ·have:=split_wlen c l w e;simp only [List.length_cons];omega
  ·split at h
   ·rename_i h2;exact absurd h2 (split_ne c l)
   ·rename_i v r h2
    rcases List.mem_cons.1 h with e|e
    ·have:=split_wlen c l v (by rw [h2];exact List.mem_cons_self)
     rw [e];simp only [List.length_cons];omega
    ·have:=split_wlen c l w (by rw [h2];exact List.mem_cons_of_mem _ e)
     simp only [List.length_cons];omega
def c_sc_z (f:ByteArray→Int→List V) (q:ByteArray→Int→Prop):Contract:=fun
 |[.str a0,.int .u8 a1]=>some ([q a0 a1],.slc true 9 (.str ⟨#[]⟩) (f a0 a1))
 |_=>none
def f_wrd (s:ByteArray) (c:Int):List V:=Zs (splitL (UInt8.ofNat c.toNat) s.data.toList)
set_option maxHeartbeats 1000000 in
set_option maxRecDepth 100000 in
theorem s_impl_wordsOf:Sat Try.prog 15 (c_sc_z f_wrd q_prt):=by
 intro args ps r h hp
 unfold c_sc_z at h
 split at h
 ·rename_i s c
  simp only [Option.some.injEq,Prod.mk.injEq] at h
  obtain ⟨rfl,rfl⟩:=h
  obtain ⟨hs,d,rfl⟩:q_prt s c:=(alls_cons.1 hp).1
  obtain ⟨l,hl⟩:∃l,l=s.data.toList:=⟨_,rfl⟩
  have hsl:s=T l:=by rw [hl];exact T_of s
  rw [hsl,T_size] at hs
  obtain ⟨dc,hdc⟩:∃dc:Int,dc=(d.toNat:Int):=⟨_,rfl⟩
  have hdd:UInt8.ofNat dc.toNat=d:=by rw [hdc,Int.toNat_natCast,UInt8.ofNat_toNat]
  have hf0:f_wrd s dc=Zs (splitL d l):=by rw [f_wrd,hdd,←hl]
  have hprt:∀m:By,f_prt (T m) dc=(T (cutL d m).1,T (cutL d m).2.1,(cutL d m).2.2):=fun m=>by rw [f_prt,cutS,hdd,T_data]
  have hqp:∀m:By,m.length≤l.length→q_prt (T m) dc:=fun m h=>⟨by rw [T_size];omega,d,hdc⟩
  generalize H_f_prt:f_prt=F_f_prt
  generalize H_q_prt:q_prt=F_q_prt
  refine fnOk_ofI (T:=tab) (B:=[(14,c_sc_ssb F_f_prt F_q_prt)]) (Bi:=[]) [0,1,4,5,6,7,8] Try.func15 rfl rfl (by kernel_rfl) (Nat.le_of_ble_eq_true rfl) mixed tabOk (by subst H_f_prt H_q_prt;exact (bookCons s_impl_parted bookNil)) (by subst H_f_prt H_q_prt;exact bookINil) (by kernel_rfl) ?_
  intro L lp rr hL hr hf hlp
  rw [←hdc] at hr ⊢
  have Ep:∀m:By,F_f_prt (T m) dc=(T (cutL d m).1,T (cutL d m).2.1,(cutL d m).2.2):=fun m=>by rw [←H_f_prt];exact hprt m
  have Qp:∀m:By,m.length≤l.length→F_q_prt (T m) dc:=fun m h=>by rw [←H_q_prt];exact hqp m h
  conv=>cbv
  refine hlp (List By×By) _ _ _ [0,1,5] (fun x=>[(0,none,.val (.str (T x.2))),(1,none,.val (.int .u8 dc)),(5,none,.val (.slc true 9 (.str ⟨#[]⟩) (Zs x.1)))])
   (fun x=>x.2.length≤l.length∧splitL d l=x.1++splitL d x.2) (fun x=>x.2.length) (([],l)) (by subst hL;rw [show T ([],l).2=s from hsl.symm];rfl) ?_ ?_
  ·exact ⟨Nat.le_refl _,rfl⟩
  rintro ⟨ws,m⟩ ⟨hm,hsp⟩ hfx ag hag
  simp only at hm hsp
  have hwl:ws.length+(splitL d m).length≤l.length+1:=by
   have h1:=split_len d l
   rw [hsp,List.length_append] at h1
   exact h1
  have hml:0<(splitL d m).length:=by
   cases hx:splitL d m with
   |nil=>exact absurd hx (split_ne d m)
   |cons=>simp
  obtain ⟨sm,hsm⟩:∃sm,sm=T m:=⟨_,rfl⟩
  obtain ⟨vz,hvz⟩:∃vz,vz=Zs ws:=⟨_,rfl⟩
  have hvl:vz.length=ws.length:=by rw [hvz,Zs_length]
  have Em:F_f_prt sm dc=(T (cutL d m).1,T (cutL d m).2.1,(cutL d m).2.2):=by rw [hsm,Ep]
  have Qm:F_q_prt sm dc:=by rw [hsm];exact Qp m hm
  rw [←hsm,←hvz]
  conv=>cbv
  simp only [stdEqs hL,imp_self,true_and,and_true,bif_or,bif_and,Bool.or_eq_true,Bool.or_eq_false_iff,Bool.and_eq_true,Bool.and_eq_false_iff,decide_eq_true_eq,decide_eq_false_iff_not,Bool.not_eq_true',Bool.not_eq_false',beq_iff_eq,beq_eq_false_iff_ne,ne_eq,toNat0,toNat1,ok_int,toI_int,I_frzs,I_length,I_getD,ok_ints,toL_slc,Em,hvl]
  rw [hvz]
  have hz:∀a:By,Zs ws++[V.str (T a)]=Zs (ws++[a]):=fun a=>by rw [←Zs_append];rfl
  rcases cut_cases d m with ⟨c1,c2,c3⟩|⟨a,b,c1,c2,c3,c4⟩
  ·rw [c2]
   simp only [hz,List.length_cons,List.length_nil]
   refine ⟨Qm,rfl,by omega,fun x hx=>by (simp only [List.mem_singleton] at hx;subst hx;rfl),fun _=> ?_,fun h=>absurd h (by simp)⟩
   rw [hr,hf0,hsp,c3]
  ·rw [c3]
   simp only [hz,List.length_cons,List.length_nil]
   have hbl:b.length<m.length:=by rw [c1];simp;omega
   refine ⟨Qm,rfl,by omega,fun x hx=>by (simp only [List.mem_singleton] at hx;subst hx;rfl),fun h=>absurd h (by simp),fun _=> ?_⟩
   refine hag (ws++[a],b) ⟨by simp only;omega,?_⟩ hbl
   simp only
   rw [hsp,c4,List.append_assoc]
   rfl
 ·cases h
def numsL (ws:List By):List Int×Bool:=if ws.all canon=true then (ws.map numV,true) else ([],false)
def c_sc_lb (f:ByteArray→Int→List V×Bool) (q:ByteArray→Int→Prop):Contract:=fun
 |[.str a0,.int .u8 a1]=>some ([q a0 a1],.tup [.slc true 2 (.int .i64 0) ((f a0 a1).1),.bool ((f a0 a1).2)])
 |_=>none
def f_nms (s:ByteArray) (c:Int):List V×Bool:=(I (numsL (splitL (UInt8.ofNat c.toNat) s.data.toList)).1,(numsL (splitL (UInt8.ofNat c.toNat) s.data.toList)).2)
set_option maxHeartbeats 1000000 in
set_option maxRecDepth 100000 in
theorem s_impl_numbersOf:Sat Try.prog 17 (c_sc_lb f_nms q_prt):=by
 intro args ps r h hp
 unfold c_sc_lb at h
 split at h
 ·rename_i s c
  simp only [Option.some.injEq,Prod.mk.injEq] at h
  obtain ⟨rfl,rfl⟩:=h
  have hq:q_prt s c:=(alls_cons.1 hp).1
  obtain ⟨ws,hws⟩:∃ws,ws=splitL (UInt8.ofNat c.toNat) s.data.toList:=⟨_,rfl⟩
  have hwl:ws.length≤2000001:=by
   have h1:=split_len (UInt8.ofNat c.toNat) s.data.toList
   rw [←hws] at h1
   have h2:=hq.1
   have:s.data.toList.length=s.size:=Array.length_toList
   omega
  have hwd:∀k,k<ws.length→(ws.getD k []).length≤2000000:=fun k hk=>by
   have h1:=split_wlen (UInt8.ofNat c.toNat) s.data.toList (ws.getD k []) (by rw [←hws,List.getD_eq_getElem?_getD,List.getElem?_eq_getElem hk];exact List.getElem_mem _)
   have h2:=hq.1
   have:s.data.toList.length=s.size:=Array.length_toList
   omega
  have hfw:f_wrd s c=Zs ws:=by rw [f_wrd,hws]
  have hf0:f_nms s c=(I (numsL ws).1,(numsL ws).2):=by rw [f_nms,←hws]
  obtain ⟨n,hn⟩:∃n:Int,n=ws.length:=⟨_,rfl⟩
  have hnum:∀w:By,(f_num (T w)).2=canon w∧(canon w=true→(f_num (T w)).1=numV w):=fun w=>by
   have:=num_of (s:=T w)
   rw [T_data] at this
   exact this
  generalize H_f_wrd:f_wrd=F_f_wrd
  generalize H_q_prt:q_prt=F_q_prt
  generalize H_f_num:f_num=F_f_num
  generalize H_q_dig:q_dig=F_q_dig
  refine fnOk_ofI (T:=tab) (B:=[(15,c_sc_z F_f_wrd F_q_prt),(31,c_s_ib F_f_num F_q_dig)]) (Bi:=[]) [0,1,4,5,6,8,9,10,14,15,16] Try.func17 rfl rfl (by kernel_rfl) (Nat.le_of_ble_eq_true rfl) mixed tabOk (by subst H_f_wrd H_q_prt H_f_num H_q_dig;exact (bookCons s_impl_wordsOf (bookCons s_impl_numberOf bookNil))) (by subst H_f_wrd H_q_prt H_f_num H_q_dig;exact bookINil) (by kernel_rfl) ?_
  intro L lp rr hL hr hf hlp
  have Ew:F_f_wrd s c=Zs ws:=by rw [←H_f_wrd,hfw]
  conv=>cbv
  simp only [stdEqs hL,imp_self,true_and,and_true,bif_or,bif_and,Bool.or_eq_true,Bool.or_eq_false_iff,Bool.and_eq_true,Bool.and_eq_false_iff,decide_eq_true_eq,decide_eq_false_iff_not,Bool.not_eq_true',Bool.not_eq_false',beq_iff_eq,beq_eq_false_iff_ne,ne_eq,toNat0,toNat1,ok_int,toI_int,I_frzs,I_length,I_getD,ok_ints,toL_slc,Ew,Zs_length,←hn]
  refine ⟨by rw [←H_q_prt];exact hq,?_⟩
  obtain ⟨vz,hvz⟩:∃vz,vz=Zs ws:=⟨_,rfl⟩
  have hvl:vz.length=ws.length:=by rw [hvz,Zs_length]
  have gz:∀k,vz.getD k (.str ⟨#[]⟩)= .str (T (ws.getD k [])):=fun k=>by rw [hvz,Zs_getD]
  rw [←hvz]
  refine hlp (List V×Int) _ _ _ [6,14,15,16] (fun x=>[(6,none,.val (.slc true 2 (.int .i64 0) x.1)),(14,none,.val (.slc true 9 (.str ⟨#[]⟩) vz)),(15,none,.val (.int .i64 n)),(16,none,.val (.int .i64 x.2))])
   (fun x=>0≤x.2∧x.2≤n∧(ws.take x.2.toNat).all canon=true∧x.1=I ((ws.take x.2.toNat).map numV)) (fun x=>(n-x.2).toNat) (([],0)) (by subst hL;rfl) ?_ ?_
  ·exact ⟨by simp,by simp only;omega,rfl,rfl⟩
  rintro ⟨os,j⟩ ⟨j0,j1,hA,hO⟩ hfx ag hag
  simp only at j0 j1 hA hO
  have hol:os.length=j.toNat:=by rw [hO,I_length,List.length_map,List.length_take];omega
  conv=>cbv
  simp only [stdEqs hL,imp_self,true_and,and_true,bif_or,bif_and,Bool.or_eq_true,Bool.or_eq_false_iff,Bool.and_eq_true,Bool.and_eq_false_iff,decide_eq_true_eq,decide_eq_false_iff_not,Bool.not_eq_true',Bool.not_eq_false',beq_iff_eq,beq_eq_false_iff_ne,ne_eq,toNat0,toNat1,ok_int,toI_int,I_frzs,I_length,I_getD,ok_ints,toL_slc,hvl,gz,ok_str,toS_str,←hn]
  refine ⟨fun h2=> ?_,fun h2=> ?_⟩
  ·have hjn:j.toNat<ws.length:=by omega
   obtain ⟨w,hw⟩:∃w,w=ws.getD j.toNat []:=⟨_,rfl⟩
   have hwj:ws[j.toNat]=w:=by rw [hw,List.getD_eq_getElem?_getD,List.getElem?_eq_getElem hjn];rfl
   obtain ⟨nv,ok,hno⟩:∃nv ok,f_num (T w)=(nv,ok):=⟨_,_,rfl⟩
   obtain ⟨u1,u2⟩:=hnum w
   rw [hno] at u1 u2
   simp only at u1 u2
   have Qd:F_q_dig (T w):=by rw [←H_q_dig];show (T w).size≤2000000;rw [T_size,hw];exact hwd _ hjn
   have Hn:F_f_num (T w)=(nv,ok):=by rw [←H_f_num,hno]
   have htk:ws.take (j.toNat+1)=ws.take j.toNat++[w]:=by rw [List.take_succ_eq_append_getElem hjn,hwj]
   rw [←hw]
   simp only [Hn]
   refine ⟨j0,h2,hjn,Qd,fun h3=> ?_,fun h3=> ?_⟩
   ·rw [u1] at h3
    have hna:¬ws.all canon=true:=fun h=>by
     rw [List.all_eq_true] at h
     have:=h w (by rw [←hwj];exact List.getElem_mem _)
     rw [this] at h3;cases h3
    rw [hr,hf0,numsL,if_neg hna];rfl
   ·rw [u1] at h3
    have e1:nv=numV w:=u2 h3
    rw [e1,wrap_id (n:=j+1) (by omega) (by omega)]
    refine ⟨rfl,by simp only [List.length_cons,List.length_nil];omega,solid_one _,?_⟩
    refine hag (_,j+1) ⟨by simp only;omega,by simp only;omega,?_,?_⟩ (by simp only;omega)
    ·simp only [toNat_succ j0]
     rw [htk,List.all_append,hA]
     simp [h3]
    ·simp only [toNat_succ j0]
     rw [htk,hO,List.map_append,←I_append]
     rfl
  ·rw [List.take_of_length_le (by omega)] at hA hO
   rw [hr,hf0,numsL,if_pos hA,hO]
 ·cases h
end Go.Ax
