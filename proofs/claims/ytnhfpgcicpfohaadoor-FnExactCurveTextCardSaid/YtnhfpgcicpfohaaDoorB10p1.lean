import Derived.Test.YtnhfpgcicpfohaaDoorB09p1
/-
 The greatest number of common points. No conditions but those of the contracts.
-/
set_option linter.all false
namespace Go.Ax
open Go.Proofs
def c_Bi_m (f:List V→Int→List V) (q:List V→Int→Prop):Contract:=fun
 |[.agg [.slc false 2 (.int .i64 0) a0],.int .i64 a1]=>some ([q a0 a1],.slc true 44 (.slc true 2 (.int .i64 0) []) (f a0 a1))
 |_=>none
def f_pof (es:List V) (k:Int):List V:=II true (proxL (firstK (unI es) k.toNat))
set_option maxHeartbeats 1000000 in
set_option maxRecDepth 100000 in
theorem s_impl_proximatesOf:Sat Tryd.prog 31 (c_Bi_m f_pof q_first):=by
 intro args ps r h hp
 unfold c_Bi_m at h
 split at h
 ·rename_i a0 a1
  simp only [Option.some.injEq,Prod.mk.injEq] at h
  obtain ⟨rfl,rfl⟩:=h
  obtain ⟨hq,k1,k2⟩:q_first a0 a1:=(alls_cons.1 hp).1
  have hqb:=hq
  obtain ⟨xs,hxs,hb⟩:=hq
  have g1:V.frzs a0=a0:=by rw [hxs,I_frzs]
  obtain ⟨ms,hms⟩:∃ms,ms=I (firstK xs a1.toNat):=⟨_,rfl⟩
  have e1:f_first a0 a1=ms:=by rw [f_first,hxs,unI_I,hms]
  have g2:V.frzs ms=ms:=by rw [hms,I_frzs]
  generalize H_f_first:f_first=F_f_first
  generalize H_q_first:q_first=F_q_first
  generalize H_f_prox:f_prox=F_f_prox
  generalize H_q_prox:q_prox=F_q_prox
  refine fnOk_ofI (T:=tab) (B:=[(47,c_Bi_L F_f_first F_q_first),(46,c_l_m F_f_prox F_q_prox)]) (Bi:=[]) [0,1,2,4] Tryd.func31 rfl rfl (by kernel_rfl) (Nat.le_of_ble_eq_true rfl) mixed tabOk (by subst H_f_first H_q_first H_f_prox H_q_prox;exact (bookCons s_impl_firstOf (bookCons s_impl_proximates bookNil))) (by subst H_f_first H_q_first H_f_prox H_q_prox;exact bookINil) (by kernel_rfl) ?_
  intro L lp rr hL hr hf hlp
  conv=>cbv
  have hF:F_f_first a0 a1=ms:=by rw [←H_f_first,e1]
  simp only [stdEqs hL,imp_self,true_and,and_true,bif_or,bif_and,Bool.or_eq_true,Bool.or_eq_false_iff,Bool.and_eq_true,Bool.and_eq_false_iff,decide_eq_true_eq,decide_eq_false_iff_not,Bool.not_eq_true',Bool.not_eq_false',beq_iff_eq,beq_eq_false_iff_ne,ne_eq,toNat0,toNat1,ok_int,toI_int,I_frzs,I_length,I_getD,ok_ints,toL_slc,g1,hF,g2]
  refine ⟨by rw [←H_q_first];exact ⟨hqb,k1,k2⟩,by rw [←H_q_prox];exact ⟨xs,_,hb,hms,by omega⟩,?_⟩
  rw [hr,f_pof,←H_f_prox,f_prox,hms,unI_I,hxs,unI_I]
 ·cases h
def fstD (X Y:List Int):Option Nat:=(List.range X.length).find? fun t=>X.getD t 0 !=Y.getD t 0
def gc (xs ys:List Int):Int×Int:=match fstD (codeK xs 201) (codeK ys 201) with
 |some i=>((i:Int)+1,0)
 |none=>(0,4)
theorem codeK_len (xs:List Int) (k:Nat):(codeK xs k).length=k-1:=tab_len _ _
end Go.Ax
set_option linter.all false
namespace Go.Ax
open Go.Proofs
set_option maxHeartbeats 1000000 in
set_option maxRecDepth 100000 in
theorem s_slicesEqual:Sat Tryd.prog 48 (c_ll_b f0_eqI q_II):=by
 intro args ps r h hp
 unfold c_ll_b at h
 split at h
 ·rename_i a0 a1
  simp only [Option.some.injEq,Prod.mk.injEq] at h
  obtain ⟨rfl,rfl⟩:=h
  obtain ⟨⟨xs,hxs⟩,ys,hys⟩:q_II a0 a1:=(alls_cons.1 hp).1
  have hxl:a0.length=xs.length:=by rw [hxs,I_length]
  have hyl:a1.length=ys.length:=by rw [hys,I_length]
  have hf0:f0_eqI a0 a1=decide (xs=ys):=by rw [f0_eqI,hxs,hys,unI_I,unI_I]
  have gx:∀i,a0.getD i (.int .i64 0)= .int .i64 (xs.getD i 0):=fun i=>by rw [hxs,I_getD]
  have gy:∀i,a1.getD i (.int .i64 0)= .int .i64 (ys.getD i 0):=fun i=>by rw [hys,I_getD]
  refine fnOk_ofI (T:=tab) (B:=[]) (Bi:=[]) [0,1,4,5,12,13] Tryd.func48 rfl rfl (by kernel_rfl) (Nat.le_of_ble_eq_true rfl) mixed tabOk (by exact bookNil) (by exact bookINil) (by kernel_rfl) ?_
  intro L lp rr hL hr hf hlp
  have hlen:=hf.1.1
  obtain ⟨n,hn⟩:∃n:Int,n=xs.length:=⟨_,rfl⟩
  conv=>cbv
  simp only [stdEqs hL,imp_self,true_and,and_true,bif_or,bif_and,Bool.or_eq_true,Bool.or_eq_false_iff,Bool.and_eq_true,Bool.and_eq_false_iff,decide_eq_true_eq,decide_eq_false_iff_not,Bool.not_eq_true',Bool.not_eq_false',beq_iff_eq,beq_eq_false_iff_ne,ne_eq,toNat0,toNat1,ok_int,toI_int,I_frzs,I_length,I_getD,ok_ints,toL_slc,hxl,hyl]
  refine ⟨fun h=> ?_,fun h=> ?_⟩
  ·rw [hr,hf0,decide_eq_false]
   rintro rfl
   omega
  refine hlp Int _ _ _ [0,1,12,13] (fun x=>[(0,none,.val (.slc false 2 (.int .i64 0) a0)),(1,none,.val (.slc false 2 (.int .i64 0) a1)),(12,none,.val (.int .i64 n)),(13,none,.val (.int .i64 x))])
   (fun x=>0≤x∧x≤xs.length∧xs.take x.toNat=ys.take x.toNat) (fun x=>(xs.length-x).toNat) 0 (by subst hL;rw [hn,←hxl];rfl) (by simp) ?_
  rintro i ⟨i0,i1,hI⟩ hfx ag hag
  conv=>cbv
  simp only [stdEqs hL,imp_self,true_and,and_true,bif_or,bif_and,Bool.or_eq_true,Bool.or_eq_false_iff,Bool.and_eq_true,Bool.and_eq_false_iff,decide_eq_true_eq,decide_eq_false_iff_not,Bool.not_eq_true',Bool.not_eq_false',beq_iff_eq,beq_eq_false_iff_ne,ne_eq,toNat0,toNat1,ok_int,toI_int,I_frzs,I_length,I_getD,ok_ints,toL_slc,hxl,hyl,gx,gy]
  refine ⟨fun h2=>⟨i0,by omega,i0,by omega,fun h4=> ?_,fun h4=> ?_⟩,fun h2=> ?_⟩
  ·rw [hr,hf0,decide_eq_false]
   rintro rfl
   exact h4 rfl
  ·rw [wrap_id (n:=i+1) (by omega) (by omega)]
   refine hag (i+1) ⟨by omega,by omega,?_⟩ (by omega)
   have e1:i.toNat<xs.length:=by omega
   have e2:i.toNat<ys.length:=by omega
   rw [toNat_succ i0,List.take_succ_eq_append_getElem e1,List.take_succ_eq_append_getElem e2,hI]
   simp only [List.getD_eq_getElem?_getD,List.getElem?_eq_getElem e1,List.getElem?_eq_getElem e2,Option.getD_some] at h4
   rw [h4]
  ·rw [List.take_of_length_le (by omega),List.take_of_length_le (by omega)] at hI
   rw [hr,hf0,decide_eq_true hI]
 ·cases h
set_option maxHeartbeats 1000000 in
set_option maxRecDepth 100000 in
theorem s_spec_l01Same:Sat Tryd.prog 41 (c_ll_b f0_eqI q_II):=by
 intro args ps r h hp
 unfold c_ll_b at h
 split at h
 ·rename_i a0 a1
  simp only [Option.some.injEq,Prod.mk.injEq] at h
  obtain ⟨rfl,rfl⟩:=h
  obtain ⟨⟨xs,hxs⟩,ys,hys⟩:q_II a0 a1:=(alls_cons.1 hp).1
  have hxl:a0.length=xs.length:=by rw [hxs,I_length]
  have hyl:a1.length=ys.length:=by rw [hys,I_length]
  have hf0:f0_eqI a0 a1=decide (xs=ys):=by rw [f0_eqI,hxs,hys,unI_I,unI_I]
  have gx:∀i,a0.getD i (.int .i64 0)= .int .i64 (xs.getD i 0):=fun i=>by rw [hxs,I_getD]
  have gy:∀i,a1.getD i (.int .i64 0)= .int .i64 (ys.getD i 0):=fun i=>by rw [hys,I_getD]
  refine fnOk_ofI (T:=tab) (B:=[]) (Bi:=[]) [0,1,4,5] Tryd.func41 rfl rfl (by kernel_rfl) (Nat.le_of_ble_eq_true rfl) mixed tabOk (by exact bookNil) (by exact bookINil) (by kernel_rfl) ?_
  intro L lp rr hL hr hf hlp
  have hlen:=hf.1.1
  conv=>cbv
  simp only [stdEqs hL,imp_self,true_and,and_true,bif_or,bif_and,Bool.or_eq_true,Bool.or_eq_false_iff,Bool.and_eq_true,Bool.and_eq_false_iff,decide_eq_true_eq,decide_eq_false_iff_not,Bool.not_eq_true',Bool.not_eq_false',beq_iff_eq,beq_eq_false_iff_ne,ne_eq,toNat0,toNat1,ok_int,toI_int,I_frzs,I_length,I_getD,ok_ints,toL_slc,hxl,hyl]
  refine ⟨fun h=> ?_,fun h=> ?_⟩
  ·rw [hr,hf0,decide_eq_false]
   rintro rfl
   omega
  refine hlp (Int) _ _ _ [0,1,5] (fun x=>[(0,none,.val (.slc false 2 (.int .i64 0) a0)),(1,none,.val (.slc false 2 (.int .i64 0) a1)),(5,none,.val (.int .i64 x))])
   (fun x=>0≤x∧x≤xs.length∧xs.take x.toNat=ys.take x.toNat) (fun x=>(xs.length-x).toNat) (0) (by subst hL;rfl) ?_ ?_
  ·simp
  rintro i ⟨i0,i1,hI⟩ hfx ag hag
  conv=>cbv
  simp only [stdEqs hL,imp_self,true_and,and_true,bif_or,bif_and,Bool.or_eq_true,Bool.or_eq_false_iff,Bool.and_eq_true,Bool.and_eq_false_iff,decide_eq_true_eq,decide_eq_false_iff_not,Bool.not_eq_true',Bool.not_eq_false',beq_iff_eq,beq_eq_false_iff_ne,ne_eq,toNat0,toNat1,ok_int,toI_int,I_frzs,I_length,I_getD,ok_ints,toL_slc,hxl,hyl,gx,gy]
  refine ⟨fun h2=>⟨i0,by omega,i0,by omega,fun h4=> ?_,fun h4=> ?_⟩,fun h2=> ?_⟩
  ·rw [hr,hf0,decide_eq_false]
   rintro rfl
   exact h4 rfl
  ·rw [wrap_id (n:=i+1) (by omega) (by omega)]
   refine hag (i+1) ⟨by omega,by omega,?_⟩ (by omega)
   have e1:i.toNat<xs.length:=by omega
   have e2:i.toNat<ys.length:=by omega
   rw [toNat_succ i0,List.take_succ_eq_append_getElem e1,List.take_succ_eq_append_getElem e2,hI]
   simp only [List.getD_eq_getElem?_getD,List.getElem?_eq_getElem e1,List.getElem?_eq_getElem e2,Option.getD_some] at h4
   rw [h4]
  ·rw [List.take_of_length_le (by omega),List.take_of_length_le (by omega)] at hI
   rw [hr,hf0,decide_eq_true hI]
 ·cases h
def cshL (X Y:List Int) (c:Nat):Bool:=decide (X.take (c-1)=Y.take (c-1))&&(X.getD (c-1) 0 !=Y.getD (c-1) 0||X.getD (c-1) 0==0)
def c_lli_b (f:List V→List V→Int→Bool) (q:List V→List V→Int→Prop):Contract:=fun
 |[.slc false 2 (.int .i64 0) a0,.slc false 2 (.int .i64 0) a1,.int .i64 a2]=>some ([q a0 a1 a2],.bool (f a0 a1 a2))
 |_=>none
def f_csh (a b:List V) (c:Int):Bool:=cshL (unI a) (unI b) c.toNat
def q_csh (a b:List V) (c:Int):Prop:=IsI a∧IsI b∧1≤c∧c≤a.length∧c≤b.length
set_option maxHeartbeats 1000000 in
set_option maxRecDepth 100000 in
theorem s_impl_canShare:Sat Tryd.prog 32 (c_lli_b f_csh q_csh):=by
 intro args ps r h hp
 unfold c_lli_b at h
 split at h
 ·rename_i a0 a1 a2
  simp only [Option.some.injEq,Prod.mk.injEq] at h
  obtain ⟨rfl,rfl⟩:=h
  obtain ⟨⟨xs,hxs⟩,⟨ys,hys⟩,c1,c2,c3⟩:q_csh a0 a1 a2:=(alls_cons.1 hp).1
  have hxl:a0.length=xs.length:=by rw [hxs,I_length]
  have hyl:a1.length=ys.length:=by rw [hys,I_length]
  have hf0:f_csh a0 a1 a2=cshL xs ys a2.toNat:=by rw [f_csh,hxs,hys,unI_I,unI_I]
  have gx:∀i,a0.getD i (.int .i64 0)= .int .i64 (xs.getD i 0):=fun i=>by rw [hxs,I_getD]
  have gy:∀i,a1.getD i (.int .i64 0)= .int .i64 (ys.getD i 0):=fun i=>by rw [hys,I_getD]
  generalize H_f0_eqI:f0_eqI=F_f0_eqI
  generalize H_q_II:q_II=F_q_II
  refine fnOk_ofI (T:=tab) (B:=[(48,c_ll_b F_f0_eqI F_q_II)]) (Bi:=[]) [0,1,2,6] Tryd.func32 rfl rfl (by kernel_rfl) (Nat.le_of_ble_eq_true rfl) mixed tabOk (by subst H_f0_eqI H_q_II;exact (bookCons s_slicesEqual bookNil)) (by subst H_f0_eqI H_q_II;exact bookINil) (by kernel_rfl) ?_
  intro L lp rr hL hr hf hlp
  have hlen:=hf.1.1
  have hlen2:=hf.2.1.1
  conv=>cbv
  have w0:IntKind.wrap .i64 (a2-1)=a2-1:=wrap_id (by omega) (by omega)
  simp only [stdEqs hL,imp_self,true_and,and_true,bif_or,bif_and,Bool.or_eq_true,Bool.or_eq_false_iff,Bool.and_eq_true,Bool.and_eq_false_iff,decide_eq_true_eq,decide_eq_false_iff_not,Bool.not_eq_true',Bool.not_eq_false',beq_iff_eq,beq_eq_false_iff_ne,ne_eq,toNat0,toNat1,ok_int,toI_int,I_frzs,I_length,I_getD,ok_ints,toL_slc,hxl,hyl,gx,gy,w0,List.drop_zero]
  subst H_f0_eqI H_q_II
  have e1:V.frzs (a0.take (a2-1).toNat)=I (xs.take (a2-1).toNat):=by rw [hxs,I_take,I_frzs]
  have e2:V.frzs (a1.take (a2-1).toNat)=I (ys.take (a2-1).toNat):=by rw [hys,I_take,I_frzs]
  rw [e1,e2,hr,hf0]
  (repeat' first|(exact solid_one _)|(exact solid1 rfl)|(exact noown_one _)|(apply And.intro)|(intro _))<;>(try first|exact True.intro|omega|rfl|(simp only [List.length_cons,List.length_nil,I_length];omega))
  all_goals first|assumption|exact ⟨_,rfl⟩|skip
  rw [cshL,f0_eqI,unI_I,unI_I,show (a2-1).toNat=a2.toNat-1 by omega]
  rfl
 ·cases h
def shr (xs ys:List Int) (c:Nat):Bool:=cshL (codeK xs 201) (codeK ys 201) c
theorem codeK_take (xs:List Int) {c k:Nat} (h:c≤k-1):(codeK xs k).take c=codeK xs (c+1):=by
 rw [codeK,take_tab _ _ _ h,codeK,Nat.add_sub_cancel]
theorem codeK_get (xs:List Int) {c k:Nat} (h:c<k-1):(codeK xs k).getD c 0=cd (mul xs) (c+1) (c+1):=tab_get _ _ _ _ h
theorem shr_eq (xs ys:List Int) {c k:Nat} (h1:1≤c) (h2:c≤200) (hk:c+1≤k):cshL (codeK xs k) (codeK ys k) c=shr xs ys c:=by
 rw [shr,cshL,cshL,codeK_take xs (c:=c-1) (k:=k) (by omega),codeK_take ys (c:=c-1) (k:=k) (by omega),codeK_take xs (c:=c-1) (k:=201) (by omega),codeK_take ys (c:=c-1) (k:=201) (by omega),
  codeK_get xs (k:=k) (by omega),codeK_get ys (k:=k) (by omega),codeK_get xs (k:=201) (by omega),codeK_get ys (k:=201) (by omega)]
theorem shr_comm (xs ys:List Int) (c:Nat):shr xs ys c=shr ys xs c:=by
 rw [shr,shr,cshL,cshL]
 by_cases h:(codeK xs 201).getD (c-1) 0=(codeK ys 201).getD (c-1) 0
 ·rw [h,decide_eq_decide.2 (eq_comm)]
 ·have h':¬(codeK ys 201).getD (c-1) 0=(codeK xs 201).getD (c-1) 0:=fun e=>h e.symm
  simp only [bne_iff_ne.2 h,bne_iff_ne.2 h',Bool.true_or,Bool.and_true]
  rw [decide_eq_decide.2 (eq_comm)]
def c_BBi_b (f:List V→List V→Int→Bool) (q:List V→List V→Int→Prop):Contract:=fun
 |[.agg [.slc false 2 (.int .i64 0) a0],.agg [.slc false 2 (.int .i64 0) a1],.int .i64 a2]=>some ([q a0 a1 a2],.bool (f a0 a1 a2))
 |_=>none
def f_shr (a b:List V) (c:Int):Bool:=shr (unI a) (unI b) c.toNat
def q_shr (a b:List V) (c:Int):Prop:=IsBr a∧IsBr b∧1≤c∧c≤200
set_option maxHeartbeats 1000000 in
set_option maxRecDepth 100000 in
theorem s_spec_l09Pair:Sat Tryd.prog 23 (c_BBi_b f_shr q_shr):=by
 intro args ps r h hp
 unfold c_BBi_b at h
 split at h
 ·rename_i a0 a1 a2
  simp only [Option.some.injEq,Prod.mk.injEq] at h
  obtain ⟨rfl,rfl⟩:=h
  obtain ⟨hq,hq1,c1,c2⟩:q_shr a0 a1 a2:=(alls_cons.1 hp).1
  have hqb:=hq
  have hqb1:=hq1
  obtain ⟨xs,hxs,hb⟩:=hq
  obtain ⟨ys,hys,hb1⟩:=hq1
  have g1:V.frzs a0=a0:=by rw [hxs,I_frzs]
  have g2:V.frzs a1=a1:=by rw [hys,I_frzs]
  obtain ⟨k,hk⟩:∃k:Nat,k=(a2+1).toNat:=⟨_,rfl⟩
  obtain ⟨X,hX⟩:∃X,X=codeK xs k:=⟨_,rfl⟩
  obtain ⟨Y,hY⟩:∃Y,Y=codeK ys k:=⟨_,rfl⟩
  obtain ⟨vx,hvx⟩:∃vx,vx=I X:=⟨_,rfl⟩
  obtain ⟨vy,hvy⟩:∃vy,vy=I Y:=⟨_,rfl⟩
  have e1:f_codeK a0 (a2+1)=vx:=by rw [f_codeK,hxs,unI_I,hvx,hX,hk]
  have e2:f_codeK a1 (a2+1)=vy:=by rw [f_codeK,hys,unI_I,hvy,hY,hk]
  have e4:f_shr a0 a1 a2=cshL X Y a2.toNat:=by rw [f_shr,hxs,hys,unI_I,unI_I,hX,hY,shr_eq xs ys (by omega) (by omega) (by omega)]
  have xl:vx.length=k-1:=by rw [hvx,I_length,hX,codeK_len]
  have yl:vy.length=k-1:=by rw [hvy,I_length,hY,codeK_len]
  have gx:∀t,vx.getD t (.int .i64 0)= .int .i64 (X.getD t 0):=fun t=>by rw [hvx,I_getD]
  have gy:∀t,vy.getD t (.int .i64 0)= .int .i64 (Y.getD t 0):=fun t=>by rw [hvy,I_getD]
  have w0:IntKind.wrap .i64 (a2-1)=a2-1:=wrap_id (by omega) (by omega)
  have w1:IntKind.wrap .i64 (a2+1)=a2+1:=wrap_id (by omega) (by omega)
  generalize H_f_codeK:f_codeK=F_f_codeK
  generalize H_q_first:q_first=F_q_first
  generalize H_f0_eqI:f0_eqI=F_f0_eqI
  generalize H_q_II:q_II=F_q_II
  refine fnOk_ofI (T:=tab) (B:=[(40,c_Bi_l F_f_codeK F_q_first),(41,c_ll_b F_f0_eqI F_q_II)]) (Bi:=[]) [1000002007,1000002008,0,1,2,3,4,6,7,8] Tryd.func23 rfl rfl (by kernel_rfl) (Nat.le_of_ble_eq_true rfl) mixed tabOk (by subst H_f_codeK H_q_first H_f0_eqI H_q_II;exact (bookCons s_spec_l06Code (bookCons s_spec_l01Same bookNil))) (by subst H_f_codeK H_q_first H_f0_eqI H_q_II;exact bookINil) (by kernel_rfl) ?_
  intro L lp rr hL hr hf hlp
  conv=>cbv
  have F1:F_f_codeK a0 (a2+1)=vx:=by rw [←H_f_codeK,e1]
  have F2:F_f_codeK a1 (a2+1)=vy:=by rw [←H_f_codeK,e2]
  have fx:V.frzs vx=vx:=by rw [hvx,I_frzs]
  have fy:V.frzs vy=vy:=by rw [hvy,I_frzs]
  simp only [stdEqs hL,imp_self,true_and,and_true,bif_or,bif_and,Bool.or_eq_true,Bool.or_eq_false_iff,Bool.and_eq_true,Bool.and_eq_false_iff,decide_eq_true_eq,decide_eq_false_iff_not,Bool.not_eq_true',Bool.not_eq_false',beq_iff_eq,beq_eq_false_iff_ne,ne_eq,toNat0,toNat1,ok_int,toI_int,I_frzs,I_length,I_getD,ok_ints,toL_slc,g1,g2,w0,w1,F1,F2,fx,fy,xl,yl,gx,gy,List.drop_zero]
  subst H_f0_eqI H_q_II H_q_first
  have e1:V.frzs (vx.take (a2-1).toNat)=I (X.take (a2-1).toNat):=by rw [hvx,I_take,I_frzs]
  have e2:V.frzs (vy.take (a2-1).toNat)=I (Y.take (a2-1).toNat):=by rw [hvy,I_take,I_frzs]
  rw [e1,e2,hr,e4]
  refine ⟨⟨hqb,by omega,by omega⟩,⟨hqb1,by omega,by omega⟩,by omega,by omega,by omega,by omega,by omega,by omega,⟨⟨_,rfl⟩,⟨_,rfl⟩⟩,fun h=> ?_,fun h=> ?_⟩
  ·rw [f0_eqI,unI_I,unI_I,show (a2-1).toNat=a2.toNat-1 by omega] at h
   rw [cshL,h];rfl
  ·rw [f0_eqI,unI_I,unI_I,show (a2-1).toNat=a2.toNat-1 by omega] at h
   rw [cshL,h,show (a2-1).toNat=a2.toNat-1 by omega]
   refine ⟨by omega,by omega,by omega,by omega,fun _=>by omega,fun _=>by omega,fun _=>trivial,?_⟩
   rfl
 ·cases h
end Go.Ax
