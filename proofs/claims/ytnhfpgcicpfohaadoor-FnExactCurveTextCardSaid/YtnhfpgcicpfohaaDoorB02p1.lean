import Derived.Test.YtnhfpgcicpfohaaDoorB01p1
/-
 Functions of branches:divisors,ascending lists,what a branch is,its cuts. No conditions but those of the contracts.
-/
set_option linter.all false
namespace Go.Ax
open Go.Proofs
theorem drop_two {xs:List Int} {i:Nat} (h:i+1<xs.length):xs.drop i=xs.getD i 0::xs.getD (i+1) 0::xs.drop (i+2):=by
 rw [drop_cons 0 (by omega),drop_cons 0 h]
theorem noown_one (n:Int):V.owneds [V.int .i64 n]=false:=rfl
theorem solid1 {v:V} (h:v.solid=true):∀x∈[v],x.solid=true:=by
 intro x hx
 simp at hx
 subst hx
 exact h
theorem solid_one (n:Int):∀x∈[V.int .i64 n],x.solid=true:=by
 intro x hx
 simp at hx
 subst hx
 rfl
def dvGo (d:Int):List Int→List Int
 |[]=>[]
 |t::l=>gcdW d t::dvGo (gcdW d t) l
def dv (xs:List Int):List Int:=dvGo 0 xs
theorem dvGo_len:∀(l:List Int) (d:Int),(dvGo d l).length=l.length
 |[],_=>rfl
 |_::l,_=>by simp [dvGo,dvGo_len l]
def c_l_l (f0:List V→List V) (q:List V→Prop):Contract:=fun
 |[.slc false 2 (.int .i64 0) a0]=>some ([q a0],.slc true 2 (.int .i64 0) (f0 a0))
 |_=>none
def c_b_l (f0:List V→List V) (q:List V→Prop):Contract:=fun
 |[.agg [.slc false 2 (.int .i64 0) a0]]=>some ([q a0],.slc true 2 (.int .i64 0) (f0 a0))
 |_=>none
def f0_dv (es:List V):List V:=I (dv (unI es))
set_option maxHeartbeats 1000000 in
set_option maxRecDepth 100000 in
theorem s_impl_divisors:Sat Tryd.prog 54 (c_l_l f0_dv IsIs):=by
 intro args ps r h hp
 unfold c_l_l at h
 split at h
 ·rename_i a0
  simp only [Option.some.injEq,Prod.mk.injEq] at h
  obtain ⟨rfl,rfl⟩:=h
  obtain ⟨⟨xs,hxs⟩,hlen⟩:IsIs a0:=(alls_cons.1 hp).1
  have hxl:a0.length=xs.length:=by rw [hxs,I_length]
  rw [hxl] at hlen
  obtain ⟨m,hm⟩:∃m:Int,m=a0.length:=⟨_,rfl⟩
  generalize H_gcdW:gcdW=F_gcdW
  generalize H_always:always=F_always
  refine fnOk_ofI (T:=tab) (B:=[(60,c_ii_i F_gcdW F_always)]) (Bi:=[]) [0,2,3,4,6,8,9,10] Tryd.func54 rfl rfl (by kernel_rfl) (Nat.le_of_ble_eq_true rfl) mixed tabOk (by subst H_gcdW H_always;exact (bookCons s_impl_divisor bookNil)) (by subst H_gcdW H_always;exact bookINil) (by kernel_rfl) ?_
  intro L lp rr hL hr hf hlp
  conv=>cbv
  refine hlp (List V×Int×Int) _ _ _ [3,4,8,9,10] (fun x=>[(3,none,.val (.slc true 2 (.int .i64 0) x.1)),(4,none,.val (.int .i64 x.2.1)),(8,none,.val (.slc false 2 (.int .i64 0) a0)),(9,none,.val (.int .i64 m)),(10,none,.val (.int .i64 x.2.2))])
   (fun x=>0≤x.2.2∧x.2.2≤xs.length∧∃pre:List Int,x.1=I pre∧pre.length=x.2.2.toNat∧dv xs=pre++dvGo x.2.1 (xs.drop x.2.2.toNat)) (fun x=>(xs.length-x.2.2).toNat) ([],0,0) (by subst hL hm;rfl) ⟨by simp,by simp,[],rfl,rfl,by simp [dv]⟩ ?_
  rintro ⟨es,d,i⟩ ⟨i0,i1,pre,h1,h2,h3⟩ hfx ag hag
  conv=>cbv
  have hm':m=xs.length:=by rw [hm,hxl]
  have hg:a0.getD i.toNat (.int .i64 0)= .int .i64 (xs.getD i.toNat 0):=by rw [hxs,I_getD]
  simp only at i0 i1 h1 h2 h3
  have hel:es.length=pre.length:=by rw [h1,I_length]
  simp only [stdEqs hL,hxl,hg,hel,ok_int,toI_int,imp_self,true_and,decide_eq_true_eq,decide_eq_false_iff_not]
  refine ⟨fun h=>⟨i0,by omega,?_,rfl,by simp;omega,solid_one _,?_⟩,fun h=> ?_⟩
  ·subst H_always;trivial
  ·rw [wrap_id (n:=i+1) (by omega) (by omega)]
   subst H_gcdW
   refine hag (es++[.int .i64 (gcdW d (xs.getD i.toNat 0))],gcdW d (xs.getD i.toNat 0),i+1) ⟨by simp only;omega,by simp only;omega,pre++[gcdW d (xs.getD i.toNat 0)],by rw [h1];simp [I],by simp;omega,?_⟩ (by simp only;omega)
   simp only [toNat_succ i0]
   rw [h3,drop_cons 0 (by omega),dvGo]
   simp
  ·subst hr
   rw [List.drop_eq_nil_of_le (by omega)] at h3
   simp only [dvGo,List.append_nil] at h3
   rw [f0_dv,hxs,unI_I,h3,h1]
 ·cases h
theorem gcdW_zero {t:Int} (h:0<t):gcdW 0 t=t:=by
 have e1:absW 0=0:=rfl
 have e2:absW t=t:=by
  have:decide (t<0)=false:=by simp;omega
  rw [absW,this]
  rfl
 rw [gcdW,e1,e2,gcdGo_pos h,Int.zero_tmod,gcdGo_neg (by omega)]
def IsP (es:List V):Prop:=∃(t:Int) (l:List Int),es=I (t::l)∧0<t∧l.length<2147483647
set_option maxHeartbeats 1000000 in
set_option maxRecDepth 100000 in
theorem s_spec_l03Divisors:Sat Tryd.prog 66 (c_b_l f0_dv IsP):=by
 intro args ps r h hp
 unfold c_b_l at h
 split at h
 ·rename_i a0
  simp only [Option.some.injEq,Prod.mk.injEq] at h
  obtain ⟨rfl,rfl⟩:=h
  obtain ⟨t0,l0,hxs,ht,hlen⟩:IsP a0:=(alls_cons.1 hp).1
  obtain ⟨xs,hx⟩:∃xs,xs=t0::l0:=⟨_,rfl⟩
  have hxs':a0=I xs:=by rw [hxs,hx]
  have hxl:a0.length=xs.length:=by rw [hxs',I_length]
  have hxn:xs.length=l0.length+1:=by rw [hx];rfl
  have hx0:xs.getD 0 0=t0:=by rw [hx];rfl
  generalize H_gcdW:gcdW=F_gcdW
  generalize H_always:always=F_always
  refine fnOk_ofI (T:=tab) (B:=[(39,c_ii_i F_gcdW F_always)]) (Bi:=[]) [0,1,2,3,4] Tryd.func66 rfl rfl (by kernel_rfl) (Nat.le_of_ble_eq_true rfl) mixed tabOk (by subst H_gcdW H_always;exact (bookCons s_spec_l01Gcd bookNil)) (by subst H_gcdW H_always;exact bookINil) (by kernel_rfl) ?_
  intro L lp rr hL hr hf hlp
  conv=>cbv
  have hg0:a0.getD (Int.toNat 0) (.int .i64 0)= .int .i64 (xs.getD 0 0):=by rw [hxs',I_getD];rfl
  simp only [stdEqs hL,hxl,hg0,ok_int,toI_int,imp_self,true_and,decide_eq_true_eq,decide_eq_false_iff_not]
  refine ⟨by omega,by omega,?_⟩
  refine hlp (List V×Int) _ _ _ [1,3,4] (fun x=>[(1,none,.val (.box 49 (.agg [.slc false 2 (.int .i64 0) a0]))),(3,none,.val (.slc true 2 (.int .i64 0) x.1)),(4,none,.val (.int .i64 x.2))])
   (fun x=>0<x.2∧x.2≤xs.length∧∃(pre:List Int) (d:Int),x.1=I pre∧pre.length=x.2.toNat∧pre.getD (x.2.toNat-1) 0=d∧dv xs=pre++dvGo d (xs.drop x.2.toNat)) (fun x=>(xs.length-x.2).toNat) ([.int .i64 (xs.getD 0 0)],1) (by subst hL;rfl)
   ⟨by simp,by simp only;omega,[t0],t0,by rw [hx0];rfl,rfl,rfl,by rw [hx];simp [dv,dvGo,gcdW_zero ht]⟩ ?_
  rintro ⟨es,i⟩ ⟨i0,i1,pre,d,h1,h2,h4,h3⟩ hfx ag hag
  conv=>cbv
  have hg:a0.getD i.toNat (.int .i64 0)= .int .i64 (xs.getD i.toNat 0):=by rw [hxs',I_getD]
  simp only at i0 i1 h1 h2 h3 h4
  have hel:es.length=pre.length:=by rw [h1,I_length]
  have ew:IntKind.wrap .i64 (i-1)=i-1:=wrap_id (by omega) (by omega)
  have ge:es.getD (i-1).toNat (.int .i64 0)= .int .i64 d:=by rw [h1,I_getD,show (i-1).toNat=i.toNat-1 by omega,h4]
  simp only [stdEqs hL,hxl,hg,hel,ew,ge,ok_int,toI_int,imp_self,true_and,decide_eq_true_eq,decide_eq_false_iff_not]
  refine ⟨fun h=>⟨by omega,by omega,by omega,by omega,by omega,?_,rfl,by simp;omega,solid_one _,?_⟩,fun h=> ?_⟩
  ·subst H_always;trivial
  ·rw [wrap_id (n:=i+1) (by omega) (by omega)]
   subst H_gcdW
   refine hag (es++[.int .i64 (gcdW d (xs.getD i.toNat 0))],i+1) ⟨by simp only;omega,by simp only;omega,pre++[gcdW d (xs.getD i.toNat 0)],gcdW d (xs.getD i.toNat 0),by rw [h1];simp [I],by simp;omega,?_,?_⟩ (by simp only;omega)
   ·simp only [toNat_succ (Int.le_of_lt i0),Nat.add_sub_cancel]
    rw [List.getD_eq_getElem?_getD,List.getElem?_append_right (by omega),show i.toNat-pre.length=0 by omega]
    rfl
   ·simp only [toNat_succ (Int.le_of_lt i0)]
    rw [h3,drop_cons 0 (by omega),dvGo]
    simp
  ·subst hr
   rw [List.drop_eq_nil_of_le (by omega)] at h3
   simp only [dvGo,List.append_nil] at h3
   rw [f0_dv,hxs',unI_I,h3,h1]
 ·cases h
def asc:List Int→Bool
 |a::b::l=>bif decide (b≤a) then false else asc (b::l)
 |_=>true
def c_l_bool (f0:List V→Bool) (q:List V→Prop):Contract:=fun
 |[.slc false 2 (.int .i64 0) a0]=>some ([q a0],.bool (f0 a0))
 |_=>none
def f0_asc (es:List V):Bool:=asc (unI es)
set_option maxHeartbeats 1000000 in
set_option maxRecDepth 100000 in
theorem s_impl_ascends:Sat Tryd.prog 43 (c_l_bool f0_asc IsI):=by
 intro args ps r h hp
 unfold c_l_bool at h
 split at h
 ·rename_i a0
  simp only [Option.some.injEq,Prod.mk.injEq] at h
  obtain ⟨rfl,rfl⟩:=h
  obtain ⟨xs,hxs⟩:IsI a0:=(alls_cons.1 hp).1
  have hxl:a0.length=xs.length:=by rw [hxs,I_length]
  refine fnOk_ofI (T:=tab) (B:=[]) (Bi:=[]) [0,2,3] Tryd.func43 rfl rfl (by kernel_rfl) (Nat.le_of_ble_eq_true rfl) mixed tabOk (by exact bookNil) (by exact bookINil) (by kernel_rfl) ?_
  intro L lp rr hL hr hf hlp
  have hlen:=hf.1.1
  rw [hxl] at hlen
  have hrr:rr= .bool (asc xs):=by rw [hr,f0_asc,hxs,unI_I]
  conv=>cbv
  refine hlp (Int) _ _ _ [0,3] (fun x=>[(0,none,.val (.slc false 2 (.int .i64 0) a0)),(3,none,.val (.int .i64 x))])
   (fun x=>0<x∧asc xs=asc (xs.drop (x.toNat-1))) (fun x=>(xs.length-x).toNat) 1 (by subst hL;rfl) (by simp) ?_
  rintro i ⟨i0,h2⟩ hfx ag hag
  conv=>cbv
  have hg:a0.getD i.toNat (.int .i64 0)= .int .i64 (xs.getD i.toNat 0):=by rw [hxs,I_getD]
  have hg':a0.getD (i-1).toNat (.int .i64 0)= .int .i64 (xs.getD (i.toNat-1) 0):=by rw [hxs,I_getD,show (i-1).toNat=i.toNat-1 by omega]
  have key:i<xs.length→xs.drop (i.toNat-1)=xs.getD (i.toNat-1) 0::xs.getD i.toNat 0::xs.drop (i.toNat+1):=by
   intro h
   rw [drop_two (by omega)]
   rw [show i.toNat-1+1=i.toNat by omega,show i.toNat-1+2=i.toNat+1 by omega]
  by_cases hb:i<xs.length
  ·have ew:IntKind.wrap .i64 (i-1)=i-1:=wrap_id (by omega) (by omega)
   simp only [stdEqs hL,hxl,hg,ew,hg',ok_int,toI_int,imp_self,true_and,decide_eq_true_eq,decide_eq_false_iff_not]
   refine ⟨fun h=>⟨by omega,by omega,by omega,by omega,fun h4=> ?_,fun h4=> ?_⟩,fun h=>absurd hb h⟩
   ·rw [hrr,h2,key h,asc,decide_eq_true h4]
    rfl
   ·rw [wrap_id (n:=i+1) (by omega) (by omega)]
    refine hag (i+1) ⟨by omega,?_⟩ (by omega)
    have e1:xs.drop i.toNat=xs.getD i.toNat 0::xs.drop (i.toNat+1):=drop_cons 0 (by omega)
    rw [h2,key h,asc,decide_eq_false h4,show (i+1).toNat-1=i.toNat by omega,e1]
    rfl
  ·have hz:asc (xs.drop (i.toNat-1))=true:=by
    have hl:(xs.drop (i.toNat-1)).length≤1:=by rw [List.length_drop];omega
    match xs.drop (i.toNat-1),hl with
    |[],_=>rfl
    |[_],_=>rfl
   simp only [stdEqs hL,hxl,decide_eq_true_eq,decide_eq_false_iff_not]
   exact ⟨fun h=>absurd h hb,fun _=>by rw [hrr,h2,hz]⟩
 ·cases h
theorem gcdGo_eq:∀(n:Nat) (a b:Int),b.toNat≤n→0≤a→0≤b→gcdGo a b=(Nat.gcd a.toNat b.toNat:Int)
 |0,a,b,hn,ha,hb=>by
  obtain rfl:b=0:=by omega
  rw [gcdGo_neg (by omega)]
  simp
  omega
 |n+1,a,b,hn,ha,hb=>by
  by_cases h:0<b
  ·have h1:(a.tmod b)=((a.toNat%b.toNat:Nat):Int):=by
    obtain ⟨x,rfl⟩:=Int.eq_ofNat_of_zero_le ha
    obtain ⟨y,rfl⟩:=Int.eq_ofNat_of_zero_le hb
    rw [Int.tmod_eq_emod_of_nonneg (Int.natCast_nonneg x)]
    simp
   have h2:a.toNat%b.toNat<b.toNat:=Nat.mod_lt _ (by omega)
   rw [gcdGo_pos h,gcdGo_eq n b (a.tmod b) (by rw [h1,Int.toNat_natCast];omega) hb (by rw [h1];exact Int.natCast_nonneg _),h1]
   simp only [Int.toNat_natCast]
   rw [Nat.gcd_comm a.toNat b.toNat,Nat.gcd_rec b.toNat a.toNat,Nat.gcd_comm]
  ·obtain rfl:b=0:=by omega
   rw [gcdGo_neg (by omega)]
   simp
   omega
theorem absW_pos {t:Int} (h:0<t):absW t=t:=by
 have:decide (t<0)=false:=by simp;omega
 rw [absW,this]
 rfl
theorem gcdW_le {a b:Int} (ha:0<a) (hb:0<b):0<gcdW a b∧gcdW a b≤a∧gcdW a b≤b:=by
 rw [gcdW,absW_pos ha,absW_pos hb,gcdGo_eq b.toNat a b (Nat.le_refl _) (by omega) (by omega)]
 have h1:=Nat.gcd_pos_of_pos_left b.toNat (show 0<a.toNat by omega)
 have h2:=Nat.le_of_dvd (show 0<a.toNat by omega) (Nat.gcd_dvd_left a.toNat b.toNat)
 have h3:=Nat.le_of_dvd (show 0<b.toNat by omega) (Nat.gcd_dvd_right a.toNat b.toNat)
 omega
def dec:List Int→Bool
 |a::b::l=>bif decide (a≤b) then false else dec (b::l)
 |[a]=>a==1
 |[]=>false
def f0_falls (es:List V):Bool:=dec (dv (unI es))
def q_falls (es:List V):Prop:=IsIs es∧es≠[]
set_option maxHeartbeats 1000000 in
set_option maxRecDepth 100000 in
theorem s_impl_falls:Sat Tryd.prog 45 (c_l_bool f0_falls q_falls):=by
 intro args ps r h hp
 unfold c_l_bool at h
 split at h
 ·rename_i a0
  simp only [Option.some.injEq,Prod.mk.injEq] at h
  obtain ⟨rfl,rfl⟩:=h
  obtain ⟨⟨⟨xs,hxs⟩,hlen⟩,hne⟩:q_falls a0:=(alls_cons.1 hp).1
  have hxl:a0.length=xs.length:=by rw [hxs,I_length]
  obtain ⟨ds,hds⟩:∃ds,ds=dv xs:=⟨_,rfl⟩
  have hdl:ds.length=xs.length:=by rw [hds,dv,dvGo_len]
  have hpos:0<xs.length:=by
   cases xs with
   |nil=>exact absurd hxs hne
   |cons x l=>simp
  have hf0:f0_dv (V.frzs a0)=I ds:=by rw [hxs,I_frzs,f0_dv,unI_I,hds]
  have hq:IsIs (V.frzs a0):=by rw [hxs,I_frzs];exact ⟨⟨xs,rfl⟩,by rw [←hxs];exact hlen⟩
  have hrr0:f0_falls a0=dec ds:=by rw [f0_falls,hxs,unI_I,hds]
  rw [hxl] at hlen
  generalize H_f0_dv:f0_dv=F_f0_dv
  generalize H_IsIs:IsIs=F_IsIs
  refine fnOk_ofI (T:=tab) (B:=[(54,c_l_l F_f0_dv F_IsIs)]) (Bi:=[]) [0,2,3,4] Tryd.func45 rfl rfl (by kernel_rfl) (Nat.le_of_ble_eq_true rfl) mixed tabOk (by subst H_f0_dv H_IsIs;exact (bookCons s_impl_divisors bookNil)) (by subst H_f0_dv H_IsIs;exact bookINil) (by kernel_rfl) ?_
  intro L lp rr hL hr hf hlp
  conv=>cbv
  have hF:F_f0_dv (V.frzs a0)=I ds:=by rw [←H_f0_dv];exact hf0
  simp only [stdEqs hL,hF]
  refine ⟨by rw [←H_IsIs];exact hq,?_⟩
  obtain ⟨es,hes⟩:∃es,es=I ds:=⟨_,rfl⟩
  have hel:es.length=ds.length:=by rw [hes,I_length]
  refine hlp (Int) _ _ _ [3,4] (fun x=>[(3,none,.val (.slc true 2 (.int .i64 0) es)),(4,none,.val (.int .i64 x))])
   (fun x=>0<x∧x≤ds.length∧dec ds=dec (ds.drop (x.toNat-1))) (fun x=>(ds.length-x).toNat) 1 (by subst hL hes;rfl) ⟨by simp,by omega,by simp⟩ ?_
  rintro i ⟨i0,i1,h2⟩ hfx ag hag
  conv=>cbv
  have ew:IntKind.wrap .i64 (i-1)=i-1:=wrap_id (by omega) (by omega)
  have ew2:IntKind.wrap .i64 ((ds.length:Int)-1)=(ds.length:Int)-1:=wrap_id (by omega) (by omega)
  have hg:es.getD i.toNat (.int .i64 0)= .int .i64 (ds.getD i.toNat 0):=by rw [hes,I_getD]
  have hg':es.getD (i-1).toNat (.int .i64 0)= .int .i64 (ds.getD (i.toNat-1) 0):=by rw [hes,I_getD,show (i-1).toNat=i.toNat-1 by omega]
  have hg2:es.getD ((ds.length:Int)-1).toNat (.int .i64 0)= .int .i64 (ds.getD (ds.length-1) 0):=by rw [hes,I_getD,show ((ds.length:Int)-1).toNat=ds.length-1 by omega]
  simp only [stdEqs hL,hel,hg,hg',hg2,ew,ew2,ok_int,toI_int,imp_self,true_and,decide_eq_true_eq,decide_eq_false_iff_not]
  have hrr:rr= .bool (dec ds):=by rw [hr,hrr0]
  refine ⟨fun h=> ?_,fun h=> ?_⟩
  ·have key:ds.drop (i.toNat-1)=ds.getD (i.toNat-1) 0::ds.getD i.toNat 0::ds.drop (i.toNat+1):=by
    rw [drop_two (by omega)]
    rw [show i.toNat-1+1=i.toNat by omega,show i.toNat-1+2=i.toNat+1 by omega]
   (repeat' first|(intro _)|(apply And.intro))<;>try omega
   ·rename_i h4
    rw [hrr,h2,key,dec,decide_eq_true h4]
    rfl
   ·rename_i h4
    rw [wrap_id (n:=i+1) (by omega) (by omega)]
    refine hag (i+1) ⟨by omega,by omega,?_⟩ (by omega)
    have e1:ds.drop i.toNat=ds.getD i.toNat 0::ds.drop (i.toNat+1):=drop_cons 0 (by omega)
    rw [h2,key,dec,decide_eq_false h4,show (i+1).toNat-1=i.toNat by omega,e1]
    rfl
  ·(repeat' first|(intro _)|(apply And.intro))<;>try omega
   have e1:ds.drop (i.toNat-1)=[ds.getD (ds.length-1) 0]:=by
    rw [show i.toNat-1=ds.length-1 by omega,drop_cons 0 (by omega),List.drop_eq_nil_of_le (by omega)]
   rw [hrr,h2,e1]
   rfl
 ·cases h
end Go.Ax
