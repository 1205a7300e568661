import Derived.Test.YtnhfpgcicpfohaaDoorB02p1
/-
 What a branch is;cuts of branches;semiroots. No conditions but those of the contracts.
-/
set_option linter.all false
namespace Go.Ax
open Go.Proofs
def isBr (xs:List Int):Bool:=
 bif (bif (bif (bif decide (0<(xs.length:Int)) then inRange (xs.getD 0 0) 1 64 else false) then asc xs else false) then within xs 1 2000 else false) then dec (dv xs) else false
def brGo (p e:Int):List Int→Bool
 |[]=>e==1
 |t::l=>bif !inRange t (IntKind.wrap .i64 (p+1)) 2000 then false else bif gcdW e t==e then false else brGo t (gcdW e t) l
theorem brGo_eq:∀(l:List Int) (p e:Int),1≤p→p≤2000→1≤e→brGo p e l=(asc (p::l)&&within l 1 2000&&dec (e::dvGo e l))
 |[],p,e,_,_,_=>by simp [brGo,asc,within,dvGo,dec]
 |t::l,p,e,h1,h2,h3=>by
  have ew:IntKind.wrap .i64 (p+1)=p+1:=wrap_id (by omega) (by omega)
  simp only [brGo,ew]
  by_cases hr:p+1≤t∧t≤2000
  ·have e1:inRange t (p+1) 2000=true:=by simp [inRange,hr]
   have e2:asc (p::t::l)=asc (t::l):=by simp [asc];omega
   have e3:within (t::l) 1 2000=within l 1 2000:=by simp [within,inRange];omega
   obtain ⟨g1,g2,_⟩:=gcdW_le (a:=e) (b:=t) (by omega) (by omega)
   rw [e1,e2,e3]
   simp only [Bool.not_true,cond_false,dvGo,dec]
   by_cases hg:gcdW e t=e
   ·simp [hg]
   ·have e4:decide (e≤gcdW e t)=false:=by simp;omega
    have e5:(gcdW e t==e)=false:=by simpa using hg
    rw [e4,e5]
    simp only [cond_false]
    exact brGo_eq l t (gcdW e t) (by omega) (by omega) (by omega)
  ·have e1:inRange t (p+1) 2000=false:=by
    simp only [inRange,Bool.and_eq_false_iff,decide_eq_false_iff_not]
    omega
   rw [e1]
   simp only [Bool.not_false,cond_true]
   by_cases hp:t≤p
   ·simp [asc,hp]
   ·have:within (t::l) 1 2000=false:=by
     have:inRange t 1 2000=false:=by
      simp only [inRange,Bool.and_eq_false_iff,decide_eq_false_iff_not]
      omega
     simp [within,this]
    simp [this]
def isBrS (xs:List Int):Bool:=bif (bif ((xs.length:Int)==0) then true else !inRange (xs.getD 0 0) 1 64) then false else brGo (xs.getD 0 0) (xs.getD 0 0) (xs.drop 1)
theorem isBrS_eq (xs:List Int):isBrS xs=isBr xs:=by
 cases xs with
 |nil=>rfl
 |cons t l=>
  have e0:(((t::l).length:Int)==0)=false:=by
   rw [beq_eq_false_iff_ne]
   simp only [List.length_cons]
   omega
  have e1:decide (0<((t::l).length:Int))=true:=by
   rw [decide_eq_true_eq]
   simp only [List.length_cons]
   omega
  simp only [isBrS,isBr,e0,e1,cond_true,cond_false,List.getD_cons_zero,List.drop_succ_cons,List.drop_zero]
  cases hr:inRange t 1 64 with
  |false=>simp
  |true=>
   simp only [inRange,Bool.and_eq_true,decide_eq_true_eq] at hr
   rw [brGo_eq l t t (by omega) (by omega) (by omega)]
   have e2:dv (t::l)=t::dvGo t l:=by simp only [dv,dvGo];rw [gcdW_zero (by omega)]
   have e3:within (t::l) 1 2000=within l 1 2000:=by simp [within,inRange];omega
   rw [e2,e3]
   cases asc (t::l)<;>cases within l 1 2000<;>simp
theorem bif3 {A B C D:Bool} (h:(bif (bif (bif D then A else false) then B else false) then C else false)=true):D=true:=by
 cases D<;>simp_all
def c_b_bool (f0:List V→Bool) (q:List V→Prop):Contract:=fun
 |[.agg [.slc false 2 (.int .i64 0) a0]]=>some ([q a0],.bool (f0 a0))
 |_=>none
def f0_isBr (es:List V):Bool:=isBr (unI es)
set_option maxHeartbeats 1000000 in
set_option maxRecDepth 100000 in
theorem s_impl_IsBranch:Sat Tryd.prog 29 (c_b_bool f0_isBr IsIs):=by
 intro args ps r h hp
 unfold c_b_bool at h
 split at h
 ·rename_i a0
  simp only [Option.some.injEq,Prod.mk.injEq] at h
  obtain ⟨rfl,rfl⟩:=h
  obtain ⟨⟨xs,hxs⟩,hlen⟩:IsIs a0:=(alls_cons.1 hp).1
  have hxl:a0.length=xs.length:=by rw [hxs,I_length]
  have hg:a0.getD (Int.toNat 0) (.int .i64 0)= .int .i64 (xs.getD 0 0):=by rw [hxs,I_getD];rfl
  have hrr0:f0_isBr a0=isBr xs:=by rw [f0_isBr,hxs,unI_I]
  have q1:IsI (V.frzs a0):=by rw [hxs,I_frzs];exact ⟨xs,rfl⟩
  have q2:xs≠[]→q_falls (V.frzs a0):=by
   intro h
   rw [hxs,I_frzs]
   refine ⟨⟨⟨xs,rfl⟩,by rw [←hxs];exact hlen⟩,?_⟩
   cases xs with
   |nil=>exact absurd rfl h
   |cons x l=>simp [I]
  have g1:f0_asc (V.frzs a0)=asc xs:=by rw [hxs,I_frzs,f0_asc,unI_I]
  have g2:f_within (V.frzs a0) 1 2000=within xs 1 2000:=by rw [hxs,I_frzs,f_within,unI_I]
  have g3:f0_falls (V.frzs a0)=dec (dv xs):=by rw [hxs,I_frzs,f0_falls,unI_I]
  generalize H_inRange:inRange=F_inRange
  generalize H_f0_asc:f0_asc=F_f0_asc
  generalize H_IsI:IsI=F_IsI
  generalize H_f_within:f_within=F_f_within
  generalize H_f0_falls:f0_falls=F_f0_falls
  generalize H_q_falls:q_falls=F_q_falls
  refine fnOk_ofI (T:=tab) (B:=[(42,c_impl_inRange F_inRange),(43,c_l_bool F_f0_asc F_IsI),(44,c_impl_within F_f_within F_IsI),(45,c_l_bool F_f0_falls F_q_falls)]) (Bi:=[]) [0,1,2,3] Tryd.func29 rfl rfl (by kernel_rfl) (Nat.le_of_ble_eq_true rfl) mixed tabOk (by subst H_inRange H_f0_asc H_IsI H_f_within H_f0_falls H_q_falls;exact (bookCons s_impl_inRange (bookCons s_impl_ascends (bookCons s_impl_within (bookCons s_impl_falls bookNil))))) (by subst H_inRange H_f0_asc H_IsI H_f_within H_f0_falls H_q_falls;exact bookINil) (by kernel_rfl) ?_
  intro L lp rr hL hr hf hlp
  conv=>cbv
  simp only [stdEqs hL,hxl,hg,ok_int,toI_int,imp_self,true_and,and_true]
  subst H_inRange H_f0_asc H_IsI H_f_within H_f0_falls H_q_falls
  simp only [g1,g2,g3,q1,implies_true,true_and]
  have hne:decide (0<(xs.length:Int))=true→xs≠[]:=by
   rintro h rfl
   simp at h
  (repeat' first|(intro _)|(apply And.intro))<;>try (first|omega|assumption|trivial)
  ·rename_i h;simpa using h
  ·rename_i h;exact (q2 (hne (bif3 h))).1.2
  ·rename_i h h';exact (q2 (hne (bif3 h))).2 h'
  ·rw [hr,hrr0,isBr]
 ·cases h
set_option maxHeartbeats 1000000 in
set_option maxRecDepth 100000 in
theorem s_spec_l03Is:Sat Tryd.prog 21 (c_b_bool f0_isBr IsIs):=by
 intro args ps r h hp
 unfold c_b_bool at h
 split at h
 ·rename_i a0
  simp only [Option.some.injEq,Prod.mk.injEq] at h
  obtain ⟨rfl,rfl⟩:=h
  obtain ⟨⟨xs,hxs⟩,hlen⟩:IsIs a0:=(alls_cons.1 hp).1
  have hxl:a0.length=xs.length:=by rw [hxs,I_length]
  have hg0:a0.getD (Int.toNat 0) (.int .i64 0)= .int .i64 (xs.getD 0 0):=by rw [hxs,I_getD];rfl
  have hrr0:f0_isBr a0=isBrS xs:=by rw [f0_isBr,hxs,unI_I,isBrS_eq]
  rw [hxl] at hlen
  generalize H_inRange:inRange=F_inRange
  generalize H_gcdW:gcdW=F_gcdW
  generalize H_always:always=F_always
  refine fnOk_ofI (T:=tab) (B:=[(22,c_impl_inRange F_inRange),(39,c_ii_i F_gcdW F_always)]) (Bi:=[]) [0,1,2,3,4,5,6] Tryd.func21 rfl rfl (by kernel_rfl) (Nat.le_of_ble_eq_true rfl) mixed tabOk (by subst H_inRange H_gcdW H_always;exact (bookCons s_spec_l01In (bookCons s_spec_l01Gcd bookNil))) (by subst H_inRange H_gcdW H_always;exact bookINil) (by kernel_rfl) ?_
  intro L lp rr hL hr hf hlp
  have hrr:rr= .bool (isBrS xs):=by rw [hr,hrr0]
  conv=>cbv
  simp only [stdEqs hL,hxl,hg0,ok_int,toI_int,imp_self,true_and,and_true]
  (repeat' first|(intro _)|(apply And.intro))<;>try (first|omega|assumption|trivial)
  ·rename_i h
   cases xs with
   |nil=>simp at h
   |cons x l=>simp
  ·rename_i h
   subst H_inRange
   rw [hrr,isBrS,h]
   rfl
  ·rename_i h
   cases xs with
   |nil=>simp at h
   |cons x l=>simp
  ·rename_i h
   have hpos:0<xs.length:=by
    cases xs with
    |nil=>simp at h
    |cons x l=>simp
   have hgo:isBrS xs=brGo (xs.getD 0 0) (xs.getD 0 0) (xs.drop 1):=by
    subst H_inRange
    rw [isBrS,h]
    rfl
   refine hlp (Int×Int) _ _ _ [3,4,5] (fun x=>[(3,none,.val (.slc false 2 (.int .i64 0) a0)),(4,none,.val (.int .i64 x.1)),(5,none,.val (.int .i64 x.2))])
    (fun x=>0<x.2∧x.2≤xs.length∧isBrS xs=brGo (xs.getD (x.2.toNat-1) 0) x.1 (xs.drop x.2.toNat)) (fun x=>(xs.length-x.2).toNat) (xs.getD 0 0,1) (by subst hL;simp only [stdEqs rfl,hg0,toI_int];rfl) ⟨by simp,by simp only;omega,hgo⟩ ?_
   rintro ⟨e,i⟩ ⟨i0,i1,h2⟩ hfx ag hag
   conv=>cbv
   simp only at i0 i1 h2
   have hg:a0.getD i.toNat (.int .i64 0)= .int .i64 (xs.getD i.toNat 0):=by rw [hxs,I_getD]
   have hg':a0.getD (i-1).toNat (.int .i64 0)= .int .i64 (xs.getD (i.toNat-1) 0):=by rw [hxs,I_getD,show (i-1).toNat=i.toNat-1 by omega]
   have ew:IntKind.wrap .i64 (i-1)=i-1:=wrap_id (by omega) (by omega)
   simp only [stdEqs hL,hxl,hg,hg',ew,ok_int,toI_int,imp_self,true_and,and_true,decide_eq_true_eq,decide_eq_false_iff_not]
   refine ⟨fun hb=> ?_,fun hb=> ?_⟩
   ·have e1:xs.drop i.toNat=xs.getD i.toNat 0::xs.drop (i.toNat+1):=drop_cons 0 (by omega)
    rw [e1,brGo] at h2
    (repeat' first|(intro _)|(apply And.intro))<;>try (first|omega|assumption|trivial)
    ·rename_i h4
     subst H_inRange
     rw [hrr,h2,h4]
     rfl
    ·subst H_always;trivial
    ·rename_i h4 h5
     subst H_inRange H_gcdW
     rw [hrr,h2,h4,h5]
     rfl
    ·rename_i h4 h5
     subst H_inRange H_gcdW
     rw [wrap_id (n:=i+1) (by omega) (by omega)]
     refine hag (gcdW e (xs.getD i.toNat 0),i+1) ⟨by simp only;omega,by simp only;omega,?_⟩ (by simp only;omega)
     rw [h2,h4,h5]
     simp only [cond_false,toNat_succ (Int.le_of_lt i0),Nat.add_sub_cancel]
   ·have e1:xs.drop i.toNat=[]:=List.drop_eq_nil_of_le (by omega)
    rw [hrr,h2,e1]
    rfl
 ·cases h
def c_b_i (f0:List V→Int):Contract:=fun
 |[.agg [.slc false 2 (.int .i64 0) a0]]=>some ([],.int .i64 (f0 a0))
 |_=>none
def f0_pairs (es:List V):Int:=IntKind.wrap .i64 ((es.length:Int)-1)
set_option maxHeartbeats 1000000 in
set_option maxRecDepth 100000 in
theorem s_impl_pairsOf:Sat Tryd.prog 61 (c_b_i f0_pairs):=by
 intro args ps r h hp
 unfold c_b_i at h
 split at h
 ·rename_i a0
  simp only [Option.some.injEq,Prod.mk.injEq] at h
  obtain ⟨rfl,rfl⟩:=h
  refine fnOk_ofI (T:=tab) (B:=[]) (Bi:=[]) [0,1,2] Tryd.func61 rfl rfl (by kernel_rfl) (Nat.le_of_ble_eq_true rfl) mixed tabOk (by exact bookNil) (by exact bookINil) (by kernel_rfl) ?_
  intro L lp rr hL hr hf hlp
  conv=>cbv
  simp only [stdEqs hL]
  exact hr.symm
 ·cases h
theorem IsP.isIs {es:List V} (h:IsP es):IsIs es:=by
 obtain ⟨t,l,rfl,_,hl⟩:=h
 exact ⟨⟨_,rfl⟩,by simp;omega⟩
theorem dvGo_pos:∀(l:List Int) (d:Int),0<d→within l 1 2000=true→∀i,i<l.length→0<(dvGo d l).getD i 0
 |[],_,_,_,i,h=>by simp at h
 |t::l,d,hd,hw,i,h=>by
  simp only [within,List.all_cons,Bool.and_eq_true,inRange,decide_eq_true_eq] at hw
  have hg:=(gcdW_le hd (show 0<t by omega)).1
  cases i with
  |zero=>simpa [dvGo] using hg
  |succ i=>
   have:=dvGo_pos l (gcdW d t) hg (by simpa [within,inRange] using hw.2) i (by simpa using h)
   simpa [dvGo] using this
theorem cond_and' (a b:Bool):(bif a then b else false)=(a&&b):=by cases a<;>rfl
theorem isBr_facts {xs:List Int} (h:isBr xs=true):∃t l,xs=t::l∧1≤t∧t≤64∧within xs 1 2000=true∧(∀i,i<xs.length→0<(dv xs).getD i 0):=by
 simp only [isBr,cond_and',Bool.and_eq_true] at h
 obtain ⟨⟨⟨⟨h1,h2⟩,h3⟩,h4⟩,h5⟩:=h
 cases xs with
 |nil=>simp at h1
 |cons t l=>
  simp only [List.getD_cons_zero,inRange,Bool.and_eq_true,decide_eq_true_eq] at h2
  refine ⟨t,l,rfl,h2.1,h2.2,h4,fun i hi=> ?_⟩
  have e2:dv (t::l)=t::dvGo t l:=by simp only [dv,dvGo];rw [gcdW_zero (by omega)]
  rw [e2]
  cases i with
  |zero=>simp only [List.getD_cons_zero];omega
  |succ i=>
   have hw:within l 1 2000=true:=by
    simp only [within,List.all_cons,Bool.and_eq_true] at h4
    exact h4.2
   simpa using dvGo_pos l t (by omega) hw i (by simpa using hi)
end Go.Ax
set_option linter.all false
namespace Go.Ax
open Go.Proofs
def c_li_i (f0:List V→Int→Int):Contract:=fun
 |[.slc false 2 (.int .i64 0) a0,.int .i64 a1]=>some ([],.int .i64 (f0 a0 a1))
 |_=>none
def c_bi_i (f0:List V→Int→Int) (q:List V→Int→Prop):Contract:=fun
 |[.agg [.slc false 2 (.int .i64 0) a0],.int .i64 a1]=>some ([q a0 a1],.int .i64 (f0 a0 a1))
 |_=>none
def szL (n:Nat) (left:Int):Int:=bif decide (IntKind.wrap .i64 (left-n)<0) then-1 else IntKind.wrap .i64 (left-n)
def f0_sz (es:List V) (left:Int):Int:=szL es.length left
def noq (_:List V) (_:Int):Prop:=True
set_option maxHeartbeats 1000000 in
set_option maxRecDepth 100000 in
theorem s_laws_szInt64S:Sat Tryd.prog 20 (c_li_i f0_sz):=by
 intro args ps r h hp
 unfold c_li_i at h
 split at h
 ·rename_i a0 a1
  simp only [Option.some.injEq,Prod.mk.injEq] at h
  obtain ⟨rfl,rfl⟩:=h
  refine fnOk_ofI (T:=tab) (B:=[]) (Bi:=[]) [0,1,4] Tryd.func20 rfl rfl (by kernel_rfl) (Nat.le_of_ble_eq_true rfl) mixed tabOk (by exact bookNil) (by exact bookINil) (by kernel_rfl) ?_
  intro L lp rr hL hr hf hlp
  conv=>cbv
  simp only [stdEqs hL]
  rw [hr,f0_sz,szL]
  refine ⟨fun h=> ?_,fun h=> ?_⟩
  ·rw [h];rfl
  ·rw [h];rfl
 ·cases h
theorem szL_neg (n:Nat) (left:Int):(bif decide (szL n left<0) then-1 else szL n left)=szL n left:=by
 unfold szL
 cases h:decide (IntKind.wrap .i64 (left-n)<0)
 ·simp only [cond_false,h]
 ·rfl
set_option maxHeartbeats 1000000 in
set_option maxRecDepth 100000 in
theorem s_laws_szBranch:Sat Tryd.prog 19 (c_bi_i f0_sz noq):=by
 intro args ps r h hp
 unfold c_bi_i at h
 split at h
 ·rename_i a0 a1
  simp only [Option.some.injEq,Prod.mk.injEq] at h
  obtain ⟨rfl,rfl⟩:=h
  have g1:f0_sz (V.frzs a0) a1=szL a0.length a1:=by rw [f0_sz,V.frzs_eq,List.length_map]
  generalize H_f0_sz:f0_sz=F_f0_sz
  refine fnOk_ofI (T:=tab) (B:=[(20,c_li_i F_f0_sz)]) (Bi:=[]) [0,1,2,4] Tryd.func19 rfl rfl (by kernel_rfl) (Nat.le_of_ble_eq_true rfl) mixed tabOk (by subst H_f0_sz;exact (bookCons s_laws_szInt64S bookNil)) (by subst H_f0_sz;exact bookINil) (by kernel_rfl) ?_
  intro L lp rr hL hr hf hlp
  conv=>cbv
  simp only [stdEqs hL]
  subst H_f0_sz
  rw [hr,g1,f0_sz]
  refine ⟨fun h=> ?_,fun h=>rfl⟩
  have:=szL_neg a0.length a1
  rw [h] at this
  rw [←this]
  rfl
 ·cases h
def c_b_b (f0:List V→List V) (q:List V→Prop):Contract:=fun
 |[.agg [.slc false 2 (.int .i64 0) a0]]=>some ([q a0],.agg [.slc true 2 (.int .i64 0) (f0 a0)])
 |_=>none
set_option maxHeartbeats 1000000 in
set_option maxRecDepth 100000 in
theorem s_laws_toBranch:Sat Tryd.prog 26 (c_b_b same IsIs):=by
 intro args ps r h hp
 unfold c_b_b at h
 split at h
 ·rename_i a0
  simp only [Option.some.injEq,Prod.mk.injEq] at h
  obtain ⟨rfl,rfl⟩:=h
  have hq:IsIs a0:=(alls_cons.1 hp).1
  have q1:IsIs (V.frzs a0):=by
   obtain ⟨⟨xs,hxs⟩,hl⟩:=hq
   rw [hxs,I_frzs,←hxs]
   exact ⟨⟨xs,hxs⟩,hl⟩
  have g1:V.frzs a0=a0:=by
   obtain ⟨⟨xs,hxs⟩,hl⟩:=hq
   rw [hxs,I_frzs]
  generalize H_same:same=F_same
  generalize H_IsIs:IsIs=F_IsIs
  refine fnOk_ofI (T:=tab) (B:=[(27,c_laws_toInt64S F_same F_IsIs)]) (Bi:=[]) [0,1,2,3] Tryd.func26 rfl rfl (by kernel_rfl) (Nat.le_of_ble_eq_true rfl) mixed tabOk (by subst H_same H_IsIs;exact (bookCons s_laws_toInt64S bookNil)) (by subst H_same H_IsIs;exact bookINil) (by kernel_rfl) ?_
  intro L lp rr hL hr hf hlp
  conv=>cbv
  simp only [stdEqs hL]
  subst H_same H_IsIs
  rw [hr,same,same,g1]
  exact ⟨hq,rfl⟩
 ·cases h
def c_bb_bool (f0:List V→List V→Bool) (q:List V→List V→Prop):Contract:=fun
 |[.agg [.slc false 2 (.int .i64 0) a0],.agg [.slc false 2 (.int .i64 0) a1]]=>some ([q a0 a1],.bool (f0 a0 a1))
 |_=>none
set_option maxHeartbeats 1000000 in
set_option maxRecDepth 100000 in
theorem s_laws_eqBranch:Sat Tryd.prog 37 (c_bb_bool f0_eqI q_eqI):=by
 intro args ps r h hp
 unfold c_bb_bool at h
 split at h
 ·rename_i a0 a1
  simp only [Option.some.injEq,Prod.mk.injEq] at h
  obtain ⟨rfl,rfl⟩:=h
  have hq:q_eqI a0 a1:=(alls_cons.1 hp).1
  have g1:V.frzs a0=a0∧V.frzs a1=a1:=by
   obtain ⟨⟨xs,hxs⟩,ys,hys⟩:=hq
   rw [hxs,hys,I_frzs,I_frzs]
   exact ⟨rfl,rfl⟩
  generalize H_f0_eqI:f0_eqI=F_f0_eqI
  generalize H_q_eqI:q_eqI=F_q_eqI
  refine fnOk_ofI (T:=tab) (B:=[(38,c_laws_eqInt64S F_f0_eqI F_q_eqI)]) (Bi:=[]) [0,1,2,3,4] Tryd.func37 rfl rfl (by kernel_rfl) (Nat.le_of_ble_eq_true rfl) mixed tabOk (by subst H_f0_eqI H_q_eqI;exact (bookCons s_laws_eqInt64S bookNil)) (by subst H_f0_eqI H_q_eqI;exact bookINil) (by kernel_rfl) ?_
  intro L lp rr hL hr hf hlp
  conv=>cbv
  simp only [stdEqs hL,g1]
  subst H_f0_eqI H_q_eqI
  rw [hr]
  refine ⟨hq,fun h=> ?_,fun h=> ?_⟩
  ·simp only [Bool.not_eq_true'] at h;rw [h]
  ·simp only [Bool.not_eq_false'] at h;rw [h]
 ·cases h
end Go.Ax
set_option linter.all false
namespace Go.Ax
open Go.Proofs
def II (o:Bool) (xss:List (List Int)):List V:=xss.map fun xs=> .slc o 2 (.int .i64 0) (I xs)
def unII (es:List V):List (List Int):=es.map fun v=>unI v.toL
theorem unII_II (o:Bool) (xss:List (List Int)):unII (II o xss)=xss:=by
 simp only [unII,II,List.map_map]
 conv=>rhs;rw [←List.map_id xss]
 apply List.map_congr_left
 intro xs _
 simp [V.toL]
theorem II_length (o:Bool) (xss:List (List Int)):(II o xss).length=xss.length:=by simp [II]
theorem II_getD (o:Bool) (xss:List (List Int)) (i:Nat):(II o xss).getD i (.slc o 2 (.int .i64 0) [])= .slc o 2 (.int .i64 0) (I (xss.getD i [])):=by
 simp only [II,List.getD_eq_getElem?_getD,List.getElem?_map]
 cases xss[i]? <;>rfl
theorem II_set (o:Bool) (xss:List (List Int)) (i:Nat) (xs:List Int):(II o xss).set i (.slc o 2 (.int .i64 0) (I xs))=II o (xss.set i xs):=by simp [II,List.map_set]
theorem II_frzs (o:Bool) (xss:List (List Int)):V.frzs (II o xss)=II false xss:=by
 rw [V.frzs_eq]
 simp only [II,List.map_map]
 apply List.map_congr_left
 intro xs _
 simp [V.frz,I_frzs]
theorem II_noFzs (xss:List (List Int)):V.noFzs (II true xss)=true:=by
 rw [V.noFzs_eq]
 simp only [II,List.all_map,List.all_eq_true]
 intro xs _
 simp [V.noFz]
theorem toL_slc (o:Bool) (e:TypeId) (d:V) (es:List V):stdV.toL (.slc o e d es)=es:=rfl
def IsII (o:Bool) (es:List V):Prop:=∃xss,es=II o xss
theorem ok_ints (o o':Bool) (xs:List Int):vw stdV tab o 20 44 (.slc o' 2 (.int .i64 0) (I xs))=some (.slc o 2 (.int .i64 0) (I xs)):=by cases o<;>rfl
def tot:List (List Int)→Nat
 |[]=>0
 |xs::l=>xs.length+tot l
def marksGo (k:Int):List (List Int)→List (List Int)
 |[]=>[]
 |xs::l=>marks xs.length k::marksGo (k+xs.length) l
theorem take_succ_tot (xss:List (List Int)) (i:Nat) (h:i<xss.length):xss.take (i+1)=xss.take i++[xss.getD i []]:=by
 rw [List.take_succ_eq_append_getElem h,List.getD_eq_getElem?_getD,List.getElem?_eq_getElem h]
 rfl
def f0_markSS (es:List V) (k:Int):Int:=k+tot (unII es)
def f1_markSS (es:List V) (k:Int):List V:=II true (marksGo k (unII es))
def q_markSS (o:Bool) (es:List V) (k:Int):Prop:=IsII o es∧0≤k∧k+tot (unII es)≤9223372036854775807
def q_markO (es:List V) (k:Int):Prop:=q_markSS true es k
def f0_heldSS (es:List V) (k:Int):Int:=if unII es=marksGo k (unII es) then k+tot (unII es) else-1
def c_eqSS (f0:List V→List V→Bool) (q:List V→List V→Prop):Contract:=fun
 |[.slc false 44 (.slc false 2 (.int .i64 0) []) a0,.slc false 44 (.slc false 2 (.int .i64 0) []) a1]=>some ([q a0 a1],.bool (f0 a0 a1))
 |_=>none
def f0_eqSS (a b:List V):Bool:=decide (unII a=unII b)
def q_eqSS (a b:List V):Prop:=IsII false a∧IsII false b
set_option maxHeartbeats 1000000 in
set_option maxRecDepth 100000 in
theorem s_laws_eqInt64SS:Sat Tryd.prog 18 (c_eqSS f0_eqSS q_eqSS):=by
 intro args ps r h hp
 unfold c_eqSS at h
 split at h
 ·rename_i a0 a1
  simp only [Option.some.injEq,Prod.mk.injEq] at h
  obtain ⟨rfl,rfl⟩:=h
  obtain ⟨⟨xs,hxs⟩,ys,hys⟩:q_eqSS a0 a1:=(alls_cons.1 hp).1
  have hxl:a0.length=xs.length:=by rw [hxs,II_length]
  have hyl:a1.length=ys.length:=by rw [hys,II_length]
  have hf0:f0_eqSS a0 a1=decide (xs=ys):=by rw [f0_eqSS,hxs,hys,unII_II,unII_II]
  generalize H_f0_eqI:f0_eqI=F_f0_eqI
  generalize H_q_eqI:q_eqI=F_q_eqI
  refine fnOk_ofI (T:=tab) (B:=[(38,c_laws_eqInt64S F_f0_eqI F_q_eqI)]) (Bi:=[]) [0,1,4,5] Tryd.func18 rfl rfl (by kernel_rfl) (Nat.le_of_ble_eq_true rfl) mixed tabOk (by subst H_f0_eqI H_q_eqI;exact (bookCons s_laws_eqInt64S bookNil)) (by subst H_f0_eqI H_q_eqI;exact bookINil) (by kernel_rfl) ?_
  intro L lp rr hL hr hf hlp
  have hlen:=hf.1.1
  have hrr:rr= .bool (decide (xs=ys)):=by rw [hr,hf0]
  conv=>cbv
  simp only [stdEqs hL,hxl,hyl]
  refine ⟨fun h=> ?_,fun h=> ?_⟩
  ·have:xs≠ys:=by
    rintro rfl
    simp at h
   rw [hrr,decide_eq_false this]
  have hll:xs.length=ys.length:=by
   simp only [Bool.not_eq_false',beq_iff_eq] at h
   omega
  refine hlp (Int) _ _ _ [0,1,5] (fun i=>[(0,none,.val (.slc false 44 (.slc false 2 (.int .i64 0) []) a0)),(1,none,.val (.slc false 44 (.slc false 2 (.int .i64 0) []) a1)),(5,none,.val (.int .i64 i))])
   (fun i=>0≤i∧i≤xs.length∧xs.take i.toNat=ys.take i.toNat) (fun i=>(xs.length-i).toNat) 0 (by subst hL;rfl) (by simp) ?_
  rintro i ⟨i0,i1,i2⟩ hfx ag hag
  conv=>cbv
  by_cases hb:i<xs.length
  ·have hg:a0.getD i.toNat (.slc false 2 (.int .i64 0) [])= .slc false 2 (.int .i64 0) (I (xs.getD i.toNat [])):=by rw [hxs,II_getD]
   have hg':a1.getD i.toNat (.slc false 2 (.int .i64 0) [])= .slc false 2 (.int .i64 0) (I (ys.getD i.toNat [])):=by rw [hys,II_getD]
   simp only [stdEqs hL,hxl,hyl,hg,hg',ok_ints,toL_slc,I_frzs,imp_self,true_and,decide_eq_true_eq,decide_eq_false_iff_not]
   subst H_f0_eqI H_q_eqI
   have e1:i.toNat<xs.length:=by omega
   have e2:i.toNat<ys.length:=by omega
   refine ⟨fun h=>⟨i0,by omega,i0,by omega,⟨⟨_,rfl⟩,⟨_,rfl⟩⟩,fun h4=> ?_,fun h4=> ?_⟩,fun h=>absurd hb h⟩
   ·simp only [f0_eqI,unI_I,Bool.not_eq_true',decide_eq_false_iff_not] at h4
    rw [hrr,decide_eq_false]
    rintro rfl
    exact h4 rfl
   ·simp only [f0_eqI,unI_I,Bool.not_eq_false',decide_eq_true_eq] at h4
    rw [wrap_id (by omega) (by omega)]
    refine hag _ ⟨by omega,by omega,?_⟩ (by omega)
    rw [toNat_succ i0,take_succ_tot xs _ e1,take_succ_tot ys _ e2,i2,h4]
  ·simp only [stdEqs hL,hxl,hyl,decide_eq_true_eq,decide_eq_false_iff_not]
   refine ⟨fun h=>absurd h hb,fun _=> ?_⟩
   rw [List.take_of_length_le (by omega),List.take_of_length_le (by omega)] at i2
   rw [hrr,decide_eq_true i2]
 ·cases h
end Go.Ax
