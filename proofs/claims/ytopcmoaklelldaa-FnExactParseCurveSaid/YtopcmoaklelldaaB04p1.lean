import Derived.Test.YtopcmoaklelldaaB03p1
/-
 What a branch is;cuts of branches;semiroots. No conditions but those of the contracts.
-/
set_option linter.all false
namespace Go.Ax
open Go.Proofs
def isBr (xs:List Int):Bool:=
 bif (bif (bif (bif decide (0<(xs.length:Int)) then inRange (xs.getD 0 0) 1 64 else false) then asc xs else false) then within xs 1 2000 else false) then dec (dv xs) else false
def brGo (p e:Int):List Int→Bool
 |[]=>e==1
 |t::l=>bif !inRange t (IntKind.wrap .i64 (p+1)) 2000 then false else bif gcdW e t==e then false else brGo t (gcdW e t) l
theorem brGo_eq:∀(l:List Int) (p e:Int),1≤p→p≤2000→1≤e→brGo p e l=(asc (p::l)&&within l 1 2000&&dec (e::dvGo e l))
 |[],p,e,_,_,_=>by simp [brGo,asc,within,dvGo,dec]
 |t::l,p,e,h1,h2,h3=>by
  have ew:IntKind.wrap .i64 (p+1)=p+1:=wrap_id (by omega) (by omega)
  simp only [brGo,ew]
  by_cases hr:p+1≤t∧t≤2000
  ·have e1:inRange t (p+1) 2000=true:=by simp [inRange,hr]
   have e2:asc (p::t::l)=asc (t::l):=by simp [asc];omega
   have e3:within (t::l) 1 2000=within l 1 2000:=by simp [within,inRange];omega
   obtain ⟨g1,g2,_⟩:=gcdW_le (a:=e) (b:=t) (by omega) (by omega)
   rw [e1,e2,e3]
   simp only [Bool.not_true,cond_false,dvGo,dec]
   by_cases hg:gcdW e t=e
   ·simp [hg]
   ·have e4:decide (e≤gcdW e t)=false:=by simp;omega
    have e5:(gcdW e t==e)=false:=by simpa using hg
    rw [e4,e5]
    simp only [cond_false]
    exact brGo_eq l t (gcdW e t) (by omega) (by omega) (by omega)
  ·have e1:inRange t (p+1) 2000=false:=by
    simp only [inRange,Bool.and_eq_false_iff,decide_eq_false_iff_not]
    omega
   rw [e1]
   simp only [Bool.not_false,cond_true]
   by_cases hp:t≤p
   ·simp [asc,hp]
   ·have:within (t::l) 1 2000=false:=by
     have:inRange t 1 2000=false:=by
      simp only [inRange,Bool.and_eq_false_iff,decide_eq_false_iff_not]
      omega
     simp [within,this]
    simp [this]
def isBrS (xs:List Int):Bool:=bif (bif ((xs.length:Int)==0) then true else !inRange (xs.getD 0 0) 1 64) then false else brGo (xs.getD 0 0) (xs.getD 0 0) (xs.drop 1)
theorem isBrS_eq (xs:List Int):isBrS xs=isBr xs:=by
 cases xs with
 |nil=>rfl
 |cons t l=>
  have e0:(((t::l).length:Int)==0)=false:=by
   rw [beq_eq_false_iff_ne]
   simp only [List.length_cons]
   omega
  have e1:decide (0<((t::l).length:Int))=true:=by
   rw [decide_eq_true_eq]
   simp only [List.length_cons]
   omega
  simp only [isBrS,isBr,e0,e1,cond_true,cond_false,List.getD_cons_zero,List.drop_succ_cons,List.drop_zero]
  cases hr:inRange t 1 64 with
  |false=>simp
  |true=>
   simp only [inRange,Bool.and_eq_true,decide_eq_true_eq] at hr
   rw [brGo_eq l t t (by omega) (by omega) (by omega)]
   have e2:dv (t::l)=t::dvGo t l:=by simp only [dv,dvGo];rw [gcdW_zero (by omega)]
   have e3:within (t::l) 1 2000=within l 1 2000:=by simp [within,inRange];omega
   rw [e2,e3]
   cases asc (t::l)<;>cases within l 1 2000<;>simp
theorem bif3 {A B C D:Bool} (h:(bif (bif (bif D then A else false) then B else false) then C else false)=true):D=true:=by
 cases D<;>simp_all
def c_b_bool (f0:List V→Bool) (q:List V→Prop):Contract:=fun
 |[.agg [.slc false 2 (.int .i64 0) a0]]=>some ([q a0],.bool (f0 a0))
 |_=>none
def f0_isBr (es:List V):Bool:=isBr (unI es)
set_option maxHeartbeats 1000000 in
set_option maxRecDepth 100000 in
theorem s_impl_IsBranch:Sat Try.prog 32 (c_b_bool f0_isBr IsIs):=by
 intro args ps r h hp
 unfold c_b_bool at h
 split at h
 ·rename_i a0
  simp only [Option.some.injEq,Prod.mk.injEq] at h
  obtain ⟨rfl,rfl⟩:=h
  obtain ⟨⟨xs,hxs⟩,hlen⟩:IsIs a0:=(alls_cons.1 hp).1
  have hxl:a0.length=xs.length:=by rw [hxs,I_length]
  have hg:a0.getD (Int.toNat 0) (.int .i64 0)= .int .i64 (xs.getD 0 0):=by rw [hxs,I_getD];rfl
  have hrr0:f0_isBr a0=isBr xs:=by rw [f0_isBr,hxs,unI_I]
  have q1:IsI (V.frzs a0):=by rw [hxs,I_frzs];exact ⟨xs,rfl⟩
  have q2:xs≠[]→q_falls (V.frzs a0):=by
   intro h
   rw [hxs,I_frzs]
   refine ⟨⟨⟨xs,rfl⟩,by rw [←hxs];exact hlen⟩,?_⟩
   cases xs with
   |nil=>exact absurd rfl h
   |cons x l=>simp [I]
  have g1:f0_asc (V.frzs a0)=asc xs:=by rw [hxs,I_frzs,f0_asc,unI_I]
  have g2:f_within (V.frzs a0) 1 2000=within xs 1 2000:=by rw [hxs,I_frzs,f_within,unI_I]
  have g3:f0_falls (V.frzs a0)=dec (dv xs):=by rw [hxs,I_frzs,f0_falls,unI_I]
  generalize H_inRange:inRange=F_inRange
  generalize H_f0_asc:f0_asc=F_f0_asc
  generalize H_IsI:IsI=F_IsI
  generalize H_f_within:f_within=F_f_within
  generalize H_f0_falls:f0_falls=F_f0_falls
  generalize H_q_falls:q_falls=F_q_falls
  refine fnOk_ofI (T:=tab) (B:=[(45,c_impl_inRange F_inRange),(46,c_l_bool F_f0_asc F_IsI),(47,c_impl_within F_f_within F_IsI),(48,c_l_bool F_f0_falls F_q_falls)]) (Bi:=[]) [0,1,2,3] Try.func32 rfl rfl (by kernel_rfl) (Nat.le_of_ble_eq_true rfl) mixed tabOk (by subst H_inRange H_f0_asc H_IsI H_f_within H_f0_falls H_q_falls;exact (bookCons s_impl_inRange (bookCons s_impl_ascends (bookCons s_impl_within (bookCons s_impl_falls bookNil))))) (by subst H_inRange H_f0_asc H_IsI H_f_within H_f0_falls H_q_falls;exact bookINil) (by kernel_rfl) ?_
  intro L lp rr hL hr hf hlp
  conv=>cbv
  simp only [stdEqs hL,hxl,hg,ok_int,toI_int,imp_self,true_and,and_true]
  subst H_inRange H_f0_asc H_IsI H_f_within H_f0_falls H_q_falls
  simp only [g1,g2,g3,q1,implies_true,true_and]
  have hne:decide (0<(xs.length:Int))=true→xs≠[]:=by
   rintro h rfl
   simp at h
  (repeat' first|(intro _)|(apply And.intro))<;>try (first|omega|assumption|trivial)
  ·rename_i h;simpa using h
  ·rename_i h;exact (q2 (hne (bif3 h))).1.2
  ·rename_i h h';exact (q2 (hne (bif3 h))).2 h'
  ·rw [hr,hrr0,isBr]
 ·cases h
set_option maxHeartbeats 1000000 in
set_option maxRecDepth 100000 in
theorem s_spec_l03Is:Sat Try.prog 26 (c_b_bool f0_isBr IsIs):=by
 intro args ps r h hp
 unfold c_b_bool at h
 split at h
 ·rename_i a0
  simp only [Option.some.injEq,Prod.mk.injEq] at h
  obtain ⟨rfl,rfl⟩:=h
  obtain ⟨⟨xs,hxs⟩,hlen⟩:IsIs a0:=(alls_cons.1 hp).1
  have hxl:a0.length=xs.length:=by rw [hxs,I_length]
  have hg0:a0.getD (Int.toNat 0) (.int .i64 0)= .int .i64 (xs.getD 0 0):=by rw [hxs,I_getD];rfl
  have hrr0:f0_isBr a0=isBrS xs:=by rw [f0_isBr,hxs,unI_I,isBrS_eq]
  rw [hxl] at hlen
  generalize H_inRange:inRange=F_inRange
  generalize H_gcdW:gcdW=F_gcdW
  generalize H_always:always=F_always
  refine fnOk_ofI (T:=tab) (B:=[(28,c_impl_inRange F_inRange),(41,c_ii_i F_gcdW F_always)]) (Bi:=[]) [0,1,2,3,4,5,6] Try.func26 rfl rfl (by kernel_rfl) (Nat.le_of_ble_eq_true rfl) mixed tabOk (by subst H_inRange H_gcdW H_always;exact (bookCons s_spec_l01In (bookCons s_spec_l01Gcd bookNil))) (by subst H_inRange H_gcdW H_always;exact bookINil) (by kernel_rfl) ?_
  intro L lp rr hL hr hf hlp
  have hrr:rr= .bool (isBrS xs):=by rw [hr,hrr0]
  conv=>cbv
  simp only [stdEqs hL,hxl,hg0,ok_int,toI_int,imp_self,true_and,and_true]
  (repeat' first|(intro _)|(apply And.intro))<;>try (first|omega|assumption|trivial)
  ·rename_i h
   cases xs with
   |nil=>simp at h
   |cons x l=>simp
  ·rename_i h
   subst H_inRange
   rw [hrr,isBrS,h]
   rfl
  ·rename_i h
   cases xs with
   |nil=>simp at h
   |cons x l=>simp
  ·rename_i h
   have hpos:0<xs.length:=by
    cases xs with
    |nil=>simp at h
    |cons x l=>simp
   have hgo:isBrS xs=brGo (xs.getD 0 0) (xs.getD 0 0) (xs.drop 1):=by
    subst H_inRange
    rw [isBrS,h]
    rfl
   refine hlp (Int×Int) _ _ _ [3,4,5] (fun x=>[(3,none,.val (.slc false 2 (.int .i64 0) a0)),(4,none,.val (.int .i64 x.1)),(5,none,.val (.int .i64 x.2))])
    (fun x=>0<x.2∧x.2≤xs.length∧isBrS xs=brGo (xs.getD (x.2.toNat-1) 0) x.1 (xs.drop x.2.toNat)) (fun x=>(xs.length-x.2).toNat) (xs.getD 0 0,1) (by subst hL;simp only [stdEqs rfl,hg0,toI_int];rfl) ⟨by simp,by simp only;omega,hgo⟩ ?_
   rintro ⟨e,i⟩ ⟨i0,i1,h2⟩ hfx ag hag
   conv=>cbv
   simp only at i0 i1 h2
   have hg:a0.getD i.toNat (.int .i64 0)= .int .i64 (xs.getD i.toNat 0):=by rw [hxs,I_getD]
   have hg':a0.getD (i-1).toNat (.int .i64 0)= .int .i64 (xs.getD (i.toNat-1) 0):=by rw [hxs,I_getD,show (i-1).toNat=i.toNat-1 by omega]
   have ew:IntKind.wrap .i64 (i-1)=i-1:=wrap_id (by omega) (by omega)
   simp only [stdEqs hL,hxl,hg,hg',ew,ok_int,toI_int,imp_self,true_and,and_true,decide_eq_true_eq,decide_eq_false_iff_not]
   refine ⟨fun hb=> ?_,fun hb=> ?_⟩
   ·have e1:xs.drop i.toNat=xs.getD i.toNat 0::xs.drop (i.toNat+1):=drop_cons 0 (by omega)
    rw [e1,brGo] at h2
    (repeat' first|(intro _)|(apply And.intro))<;>try (first|omega|assumption|trivial)
    ·rename_i h4
     subst H_inRange
     rw [hrr,h2,h4]
     rfl
    ·subst H_always;trivial
    ·rename_i h4 h5
     subst H_inRange H_gcdW
     rw [hrr,h2,h4,h5]
     rfl
    ·rename_i h4 h5
     subst H_inRange H_gcdW
     rw [wrap_id (n:=i+1) (by omega) (by omega)]
     refine hag (gcdW e (xs.getD i.toNat 0),i+1) ⟨by simp only;omega,by simp only;omega,?_⟩ (by simp only;omega)
     rw [h2,h4,h5]
     simp only [cond_false,toNat_succ (Int.le_of_lt i0),Nat.add_sub_cancel]
   ·have e1:xs.drop i.toNat=[]:=List.drop_eq_nil_of_le (by omega)
    rw [hrr,h2,e1]
    rfl
 ·cases h
def c_b_i (f0:List V→Int):Contract:=fun
 |[.agg [.slc false 2 (.int .i64 0) a0]]=>some ([],.int .i64 (f0 a0))
 |_=>none
def f0_pairs (es:List V):Int:=IntKind.wrap .i64 ((es.length:Int)-1)
set_option maxHeartbeats 1000000 in
set_option maxRecDepth 100000 in
theorem s_impl_pairsOf:Sat Try.prog 57 (c_b_i f0_pairs):=by
 intro args ps r h hp
 unfold c_b_i at h
 split at h
 ·rename_i a0
  simp only [Option.some.injEq,Prod.mk.injEq] at h
  obtain ⟨rfl,rfl⟩:=h
  refine fnOk_ofI (T:=tab) (B:=[]) (Bi:=[]) [0,1,2] Try.func57 rfl rfl (by kernel_rfl) (Nat.le_of_ble_eq_true rfl) mixed tabOk (by exact bookNil) (by exact bookINil) (by kernel_rfl) ?_
  intro L lp rr hL hr hf hlp
  conv=>cbv
  simp only [stdEqs hL]
  exact hr.symm
 ·cases h
theorem IsP.isIs {es:List V} (h:IsP es):IsIs es:=by
 obtain ⟨t,l,rfl,_,hl⟩:=h
 exact ⟨⟨_,rfl⟩,by simp;omega⟩
theorem dvGo_pos:∀(l:List Int) (d:Int),0<d→within l 1 2000=true→∀i,i<l.length→0<(dvGo d l).getD i 0
 |[],_,_,_,i,h=>by simp at h
 |t::l,d,hd,hw,i,h=>by
  simp only [within,List.all_cons,Bool.and_eq_true,inRange,decide_eq_true_eq] at hw
  have hg:=(gcdW_le hd (show 0<t by omega)).1
  cases i with
  |zero=>simpa [dvGo] using hg
  |succ i=>
   have:=dvGo_pos l (gcdW d t) hg (by simpa [within,inRange] using hw.2) i (by simpa using h)
   simpa [dvGo] using this
theorem cond_and' (a b:Bool):(bif a then b else false)=(a&&b):=by cases a<;>rfl
theorem isBr_facts {xs:List Int} (h:isBr xs=true):∃t l,xs=t::l∧1≤t∧t≤64∧within xs 1 2000=true∧(∀i,i<xs.length→0<(dv xs).getD i 0):=by
 simp only [isBr,cond_and',Bool.and_eq_true] at h
 obtain ⟨⟨⟨⟨h1,h2⟩,h3⟩,h4⟩,h5⟩:=h
 cases xs with
 |nil=>simp at h1
 |cons t l=>
  simp only [List.getD_cons_zero,inRange,Bool.and_eq_true,decide_eq_true_eq] at h2
  refine ⟨t,l,rfl,h2.1,h2.2,h4,fun i hi=> ?_⟩
  have e2:dv (t::l)=t::dvGo t l:=by simp only [dv,dvGo];rw [gcdW_zero (by omega)]
  rw [e2]
  cases i with
  |zero=>simp only [List.getD_cons_zero];omega
  |succ i=>
   have hw:within l 1 2000=true:=by
    simp only [within,List.all_cons,Bool.and_eq_true] at h4
    exact h4.2
   simpa using dvGo_pos l t (by omega) hw i (by simpa using hi)
end Go.Ax
set_option linter.all false
namespace Go.Ax
open Go.Proofs
def c_bb_bool (f0:List V→List V→Bool) (q:List V→List V→Prop):Contract:=fun
 |[.agg [.slc false 2 (.int .i64 0) a0],.agg [.slc false 2 (.int .i64 0) a1]]=>some ([q a0 a1],.bool (f0 a0 a1))
 |_=>none
set_option maxHeartbeats 1000000 in
set_option maxRecDepth 100000 in
theorem s_laws_eqBranch:Sat Try.prog 37 (c_bb_bool f0_eqI q_eqI):=by
 intro args ps r h hp
 unfold c_bb_bool at h
 split at h
 ·rename_i a0 a1
  simp only [Option.some.injEq,Prod.mk.injEq] at h
  obtain ⟨rfl,rfl⟩:=h
  have hq:q_eqI a0 a1:=(alls_cons.1 hp).1
  have g1:V.frzs a0=a0∧V.frzs a1=a1:=by
   obtain ⟨⟨xs,hxs⟩,ys,hys⟩:=hq
   rw [hxs,hys,I_frzs,I_frzs]
   exact ⟨rfl,rfl⟩
  generalize H_f0_eqI:f0_eqI=F_f0_eqI
  generalize H_q_eqI:q_eqI=F_q_eqI
  refine fnOk_ofI (T:=tab) (B:=[(38,c_laws_eqInt64S F_f0_eqI F_q_eqI)]) (Bi:=[]) [0,1,2,3,4] Try.func37 rfl rfl (by kernel_rfl) (Nat.le_of_ble_eq_true rfl) mixed tabOk (by subst H_f0_eqI H_q_eqI;exact (bookCons s_laws_eqInt64S bookNil)) (by subst H_f0_eqI H_q_eqI;exact bookINil) (by kernel_rfl) ?_
  intro L lp rr hL hr hf hlp
  conv=>cbv
  simp only [stdEqs hL,g1]
  subst H_f0_eqI H_q_eqI
  rw [hr]
  refine ⟨hq,fun h=> ?_,fun h=> ?_⟩
  ·simp only [Bool.not_eq_true'] at h;rw [h]
  ·simp only [Bool.not_eq_false'] at h;rw [h]
 ·cases h
theorem Sh.agg1 {x y:V} (h:Sh x y):Sh (.agg [x]) (.agg [y]):=by
 refine .agg _ _ rfl (fun i a b ha hb=> ?_)
 cases i with
 |zero=>simp at ha hb;subst ha;subst hb;exact h
 |succ i=>simp at ha
end Go.Ax
