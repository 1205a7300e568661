import Derived.Test.YtnhfpgcicpfohaaDoorB12p1
import Derived.Test.YtnhfpgcicpfohaaDoorB09p1
/-
 IsCurve of the reference,and its law. No conditions but those of the contracts.
-/
set_option linter.all false
namespace Go.Ax
open Go.Proofs
def BRow (bs ms:List (List Int)) (i k:Nat):Prop:=EntP i k (mm ms i k)∧(i≠k→mm ms i k=mm ms k i)∧(i<k→shr (bs.getD i []) (bs.getD k []) (mm ms i k).toNat=true)
def URow (bs ms:List (List Int)) (i k:Nat):Prop:=∀j,j<bs.length→i≠k→i≠j→j≠k→¬mm ms i k<min (mm ms i j) (mm ms j k)
theorem CvP.of {bs ms:List (List Int)} (h1:1≤bs.length) (h6:bs.length≤6) (hl:ms.length=bs.length) (hA:∀t,t<bs.length→isBr (bs.getD t [])=true∧(ms.getD t []).length=bs.length)
 (hB:∀t,t<bs.length→∀k,k<bs.length→BRow bs ms t k) (hC:∀t,t<bs.length→∀k,k<bs.length→URow bs ms t k):CvP bs ms:=by
 refine ⟨h1,h6,⟨hl,fun i hi=>⟨(hA i hi).2,fun k hk=>(hB i hi k hk).1⟩,fun i hi k hk=> ?_⟩,fun i hi=>(hA i hi).1,fun i k hi hk hne=> ?_,fun i k j hi hk hj hne h1 h2=>hC i hi k hk j hj hne (Ne.symm h1) h2⟩
 ·by_cases h:i=k
  ·rw [h]
  ·exact ((hB i hi k hk).2.1 h).symm
 ·by_cases h:i<k
  ·exact (hB i hi k hk).2.2 h
  ·have:=(hB k hk i hi).2.2 (by omega)
   rw [shr_comm,(hB i hi k hk).2.1 hne]
   exact this
set_option maxHeartbeats 1000000 in
set_option maxRecDepth 100000 in
theorem s_spec_l09Is:Sat Tryd.prog 11 (c_C_b f_isCv q_C):=by
 intro args ps r h hp
 unfold c_C_b at h
 split at h
 ·rename_i a0 a1
  simp only [Option.some.injEq,Prod.mk.injEq] at h
  obtain ⟨rfl,rfl⟩:=h
  obtain ⟨⟨bs,hbs,hb1,hb2⟩,⟨ms,hms,hm1,hm2⟩⟩:q_C a0 a1:=(alls_cons.1 hp).1
  have g1:V.frzs a0=a0:=by rw [hbs,BB_frzs]
  have g2:V.frzs a1=a1:=by rw [hms,II_frzs]
  have hbl:a0.length=bs.length:=by rw [hbs,BB_length]
  have hml:a1.length=ms.length:=by rw [hms,II_length]
  have gb:∀k,a0.getD k (.agg [.slc false 2 (.int .i64 0) []])= .agg [.slc false 2 (.int .i64 0) (I (bs.getD k []))]:=fun k=>by rw [hbs,BB_getD]
  have gm:∀k,a1.getD k (.slc false 2 (.int .i64 0) [])= .slc false 2 (.int .i64 0) (I (ms.getD k [])):=fun k=>by rw [hms,II_getD]
  obtain ⟨n,hn⟩:∃n:Int,n=bs.length:=⟨_,rfl⟩
  have hT:CvP bs ms→f_isCv a0 a1=true:=fun h=>by rw [f_isCv,hbs,hms,unBB_BB,unII_II,isCv_iff];exact h
  have hF:¬CvP bs ms→f_isCv a0 a1=false:=fun h=>by rw [f_isCv,hbs,hms,unBB_BB,unII_II];exact dec_false h
  have hm1:∀x y:Nat,(ms.getD x []).getD y 0=mm ms x y:=fun _ _=>rfl
  generalize H_f0_isBr:f0_isBr=F_f0_isBr
  generalize H_IsIs:IsIs=F_IsIs
  generalize H_inRange:inRange=F_inRange
  generalize H_f_shr:f_shr=F_f_shr
  generalize H_q_shr:q_shr=F_q_shr
  refine fnOk_ofI (T:=tab) (B:=[(21,c_b_bool F_f0_isBr F_IsIs),(22,c_impl_inRange F_inRange),(23,c_BBi_b F_f_shr F_q_shr)]) (Bi:=[]) [0,1,2,3,4,5,6,7,8,9,10] Tryd.func11 rfl rfl (by kernel_rfl) (Nat.le_of_ble_eq_true rfl) mixed tabOk (by subst H_f0_isBr H_IsIs H_inRange H_f_shr H_q_shr;exact (bookCons s_spec_l03Is (bookCons s_spec_l01In (bookCons s_spec_l09Pair bookNil)))) (by subst H_f0_isBr H_IsIs H_inRange H_f_shr H_q_shr;exact bookINil) (by kernel_rfl) ?_
  intro L lp rr hL hr hf hlp
  have hbI:∀i:Nat,i<bs.length→F_IsIs (I (bs.getD i [])):=fun i hi=>by
   rw [←H_IsIs]
   exact ⟨⟨_,rfl⟩,by rw [I_length];exact hb2 _ (mem_getD hi)⟩
  have eb:∀i:Nat,F_f0_isBr (I (bs.getD i []))=isBr (bs.getD i []):=fun i=>by rw [←H_f0_isBr,f0_isBr,unI_I]
  conv=>cbv
  simp only [stdEqs hL,imp_self,true_and,and_true,bif_or,bif_and,Bool.or_eq_true,Bool.or_eq_false_iff,Bool.and_eq_true,Bool.and_eq_false_iff,decide_eq_true_eq,decide_eq_false_iff_not,Bool.not_eq_true',Bool.not_eq_false',beq_iff_eq,beq_eq_false_iff_ne,ne_eq,toNat0,toNat1,ok_int,toI_int,I_frzs,I_length,I_getD,ok_ints,toL_slc,g1,g2,hbl,hml,←hn]
  refine ⟨fun h=> ?_,fun h=> ?_⟩
  ·rw [hr,hF]
   intro hc
   have h1:=hc.n1
   have h6:=hc.n6
   have hl:=hc.tab.len
   omega
  have hmn:ms.length=bs.length:=by omega
  refine hlp (Int) _ _ _ [1,3,4] (fun x=>[(1,none,.val (.box 31 (.agg [.slc false 49 (.agg [.slc false 2 (.int .i64 0) []]) a0,.slc false 44 (.slc false 2 (.int .i64 0) []) a1]))),(3,none,.val (.int .i64 n)),(4,none,.val (.int .i64 x))])
   (fun x=>0≤x∧x≤n∧∀t:Nat,t<x.toNat→isBr (bs.getD t [])=true∧(ms.getD t []).length=bs.length) (fun x=>(n-x).toNat) (0) (by subst hL;rfl) ?_ ?_
  ·exact ⟨by omega,by omega,fun t ht=>by simp at ht⟩
  rintro i ⟨i0,i1,hA⟩ hfx ag hag
  conv=>cbv
  simp only [stdEqs hL,imp_self,true_and,and_true,bif_or,bif_and,Bool.or_eq_true,Bool.or_eq_false_iff,Bool.and_eq_true,Bool.and_eq_false_iff,decide_eq_true_eq,decide_eq_false_iff_not,Bool.not_eq_true',Bool.not_eq_false',beq_iff_eq,beq_eq_false_iff_ne,ne_eq,toNat0,toNat1,ok_int,toI_int,I_frzs,I_length,I_getD,ok_ints,toL_slc,hbl,gb,ok_bran,toL_bran,fld_bran,eb,hml,gm]
  refine ⟨fun h2=> ?_,fun h2=> ?_⟩
  ·have hil:i.toNat<bs.length:=by omega
   refine ⟨i0,by omega,hbI _ hil,fun _=>i0,fun _=>by omega,fun _=>trivial,fun h3=> ?_,fun h3=> ?_⟩
   ·rw [hr,hF]
    intro hc
    rcases h3 with h3|h3
    ·rw [hc.br _ hil] at h3;cases h3
    ·exact h3 (by rw [(hc.tab.row _ hil).1];omega)
   ·rw [wrap_id (n:=i+1) (by omega) (by omega)]
    refine hag (i+1) ⟨by omega,by omega,fun t ht=> ?_⟩ (by omega)
    by_cases hti:t=i.toNat
    ·rw [hti];exact ⟨h3.1,by omega⟩
    ·exact hA t (by omega)
  have hA2:∀t,t<bs.length→isBr (bs.getD t [])=true∧(ms.getD t []).length=bs.length:=fun t ht=>hA t (by omega)
  have rl:∀k,k<bs.length→(ms.getD k []).length=bs.length:=fun k hk=>(hA2 k hk).2
  have qsh:∀x y c,x<bs.length→y<bs.length→1≤c→c≤200→F_q_shr (I (bs.getD x [])) (I (bs.getD y [])) c:=fun x y c hx hy h1 h2=>by
   rw [←H_q_shr];exact ⟨⟨_,rfl,br_of (hA2 x hx).1⟩,⟨_,rfl,br_of (hA2 y hy).1⟩,h1,h2⟩
  have esh:∀x y c,F_f_shr (I (bs.getD x [])) (I (bs.getD y [])) c=shr (bs.getD x []) (bs.getD y []) c.toNat:=fun x y c=>by rw [←H_f_shr,f_shr,unI_I,unI_I]
  clear hA hag hfx ag
  refine hlp (Int) _ _ _ [1,3,5] (fun x=>[(1,none,.val (.box 31 (.agg [.slc false 49 (.agg [.slc false 2 (.int .i64 0) []]) a0,.slc false 44 (.slc false 2 (.int .i64 0) []) a1]))),(3,none,.val (.int .i64 n)),(5,none,.val (.int .i64 x))])
   (fun x=>0≤x∧x≤n∧∀t:Nat,t<x.toNat→∀k,k<bs.length→BRow bs ms t k) (fun x=>(n-x).toNat) (0) (by subst hL;rfl) ?_ ?_
  ·exact ⟨by omega,by omega,fun t ht=>by simp at ht⟩
  rintro i ⟨i0,i1,hP⟩ hfx ag hag
  conv=>cbv
  simp only [stdEqs hL,imp_self,true_and,and_true,bif_or,bif_and,Bool.or_eq_true,Bool.or_eq_false_iff,Bool.and_eq_true,Bool.and_eq_false_iff,decide_eq_true_eq,decide_eq_false_iff_not,Bool.not_eq_true',Bool.not_eq_false',beq_iff_eq,beq_eq_false_iff_ne,ne_eq,toNat0,toNat1,ok_int,toI_int,I_frzs,I_length,I_getD,ok_ints,toL_slc,]
  refine ⟨fun h2=> ?_,fun h2=> ?_⟩
  ·have hil:i.toNat<bs.length:=by omega
   have rli:=rl _ hil
   refine hlp (Int) _ _ _ [1,3,5,6] (fun x=>[(1,none,.val (.box 31 (.agg [.slc false 49 (.agg [.slc false 2 (.int .i64 0) []]) a0,.slc false 44 (.slc false 2 (.int .i64 0) []) a1]))),(3,none,.val (.int .i64 n)),(5,none,.val (.int .i64 i)),(6,none,.val (.int .i64 x))])
    (fun x=>0≤x∧x≤n∧∀t:Nat,t<x.toNat→BRow bs ms i.toNat t) (fun x=>(n-x).toNat) (0) (by subst hL;rfl) ?_ ?_
   ·exact ⟨by omega,by omega,fun t ht=>by simp at ht⟩
   rintro k ⟨k0,k1,hQ⟩ hfx2 ag2 hag2
   conv=>cbv
   simp only [stdEqs hL,imp_self,true_and,and_true,bif_or,bif_and,Bool.or_eq_true,Bool.or_eq_false_iff,Bool.and_eq_true,Bool.and_eq_false_iff,decide_eq_true_eq,decide_eq_false_iff_not,Bool.not_eq_true',Bool.not_eq_false',beq_iff_eq,beq_eq_false_iff_ne,ne_eq,toNat0,toNat1,ok_int,toI_int,I_frzs,I_length,I_getD,ok_ints,toL_slc,hml,gm,hbl,gb,ok_bran,toL_bran,fld_bran,hm1,esh]
   refine ⟨fun h3=> ?_,fun h3=> ?_⟩
   ·have hkl:k.toNat<bs.length:=by omega
    have rlk:=rl _ hkl
    have hgo:BRow bs ms i.toNat k.toNat→0≤k+1∧k+1≤n∧∀t:Nat,t<(k+1).toNat→BRow bs ms i.toNat t:=fun hb=>⟨by omega,by omega,fun t ht=>by
     by_cases htk:t=k.toNat
     ·rw [htk];exact hb
     ·exact hQ t (by omega)⟩
    obtain ⟨c,hc⟩:∃c,c=mm ms i.toNat k.toNat:=⟨_,rfl⟩
    simp only [rli,rlk,←hc]
    subst H_inRange
    rw [wrap_id (n:=k+1) (by omega) (by omega)]
    refine ⟨i0,by omega,k0,by omega,fun h4=>⟨fun h5=> ?_,fun h5=> ?_⟩,fun h4=>⟨fun _=>by first|trivial|omega,fun _=>by first|trivial|omega,fun _=>by first|trivial|omega,fun _=>by first|trivial|omega,fun _=>by first|trivial|omega,fun _=>by first|trivial|omega,fun h5=> ?_,fun h5=>⟨fun _=>by first|trivial|omega,fun _=>by first|trivial|omega,fun _=>by first|trivial|omega,fun _=>by first|trivial|omega,fun _=>by first|trivial|omega,fun _=>by first|trivial|omega,fun h6=> ?_,fun h6=> ?_,fun h6=> ?_⟩⟩⟩
    ·rw [hr,hF]
     intro hv
     exact h5 (by rw [hc];exact ((hv.tab.row _ hil).2 _ hkl).1 (by omega))
    ·refine hag2 (k+1) (hgo ⟨⟨fun _=>by rw [←hc];exact h5,fun hne=>absurd (by omega) hne⟩,fun hne=>absurd (by omega) hne,fun hlt=>absurd hlt (by omega)⟩) (by omega)
    ·rw [hr,hF]
     intro hv
     have hE:=((hv.tab.row _ hil).2 _ hkl).2 (by omega)
     have hS:=hv.tab.sym _ hil _ hkl
     rw [←hc] at hE hS
     rcases h5 with h5|h5
     ·simp only [inRange,Bool.and_eq_false_iff,decide_eq_false_iff_not] at h5
      omega
     ·exact h5 hS.symm
    ·have hE:1≤c∧c≤200:=by simpa [inRange] using h5.1
     exact qsh _ _ _ hil hkl hE.1 hE.2
    ·rw [hr,hF]
     intro hv
     have:=hv.shr _ _ hil hkl (by omega)
     rw [←hc,h6.2] at this
     cases this
    ·have hE:1≤c∧c≤200:=by simpa [inRange] using h5.1
     refine hag2 (k+1) (hgo ⟨⟨fun he=>absurd (by omega) h4,fun _=>by rw [←hc];exact hE⟩,fun _=>by rw [←hc];exact h5.2,fun hlt=> ?_⟩) (by omega)
     rw [←hc]
     exact h6.resolve_left (fun h=>h (by omega))
   ·rw [wrap_id (n:=i+1) (by omega) (by omega)]
    refine hag (i+1) ⟨by omega,by omega,fun t ht k' hk'=> ?_⟩ (by omega)
    by_cases hti:t=i.toNat
    ·rw [hti];exact hQ k' (by omega)
    ·exact hP t (by omega) k' hk'
  have hP2:∀t,t<bs.length→∀k,k<bs.length→BRow bs ms t k:=fun t ht=>hP t (by omega)
  clear hP hag hfx ag
  refine hlp (Int) _ _ _ [1,3,8] (fun x=>[(1,none,.val (.box 31 (.agg [.slc false 49 (.agg [.slc false 2 (.int .i64 0) []]) a0,.slc false 44 (.slc false 2 (.int .i64 0) []) a1]))),(3,none,.val (.int .i64 n)),(8,none,.val (.int .i64 x))])
   (fun x=>0≤x∧x≤n∧∀t:Nat,t<x.toNat→∀k,k<bs.length→URow bs ms t k) (fun x=>(n-x).toNat) (0) (by subst hL;rfl) ?_ ?_
  ·exact ⟨by omega,by omega,fun t ht=>by simp at ht⟩
  rintro i ⟨i0,i1,hP⟩ hfx ag hag
  conv=>cbv
  simp only [stdEqs hL,imp_self,true_and,and_true,bif_or,bif_and,Bool.or_eq_true,Bool.or_eq_false_iff,Bool.and_eq_true,Bool.and_eq_false_iff,decide_eq_true_eq,decide_eq_false_iff_not,Bool.not_eq_true',Bool.not_eq_false',beq_iff_eq,beq_eq_false_iff_ne,ne_eq,toNat0,toNat1,ok_int,toI_int,I_frzs,I_length,I_getD,ok_ints,toL_slc,]
  refine ⟨fun h2=> ?_,fun h2=> ?_⟩
  ·have hil:i.toNat<bs.length:=by omega
   have rli:=rl _ hil
   refine hlp (Int) _ _ _ [1,3,8,9] (fun x=>[(1,none,.val (.box 31 (.agg [.slc false 49 (.agg [.slc false 2 (.int .i64 0) []]) a0,.slc false 44 (.slc false 2 (.int .i64 0) []) a1]))),(3,none,.val (.int .i64 n)),(8,none,.val (.int .i64 i)),(9,none,.val (.int .i64 x))])
    (fun x=>0≤x∧x≤n∧∀t:Nat,t<x.toNat→URow bs ms i.toNat t) (fun x=>(n-x).toNat) (0) (by subst hL;rfl) ?_ ?_
   ·exact ⟨by omega,by omega,fun t ht=>by simp at ht⟩
   rintro k ⟨k0,k1,hQ⟩ hfx2 ag2 hag2
   conv=>cbv
   simp only [stdEqs hL,imp_self,true_and,and_true,bif_or,bif_and,Bool.or_eq_true,Bool.or_eq_false_iff,Bool.and_eq_true,Bool.and_eq_false_iff,decide_eq_true_eq,decide_eq_false_iff_not,Bool.not_eq_true',Bool.not_eq_false',beq_iff_eq,beq_eq_false_iff_ne,ne_eq,toNat0,toNat1,ok_int,toI_int,I_frzs,I_length,I_getD,ok_ints,toL_slc,]
   refine ⟨fun h3=> ?_,fun h3=> ?_⟩
   ·have hkl:k.toNat<bs.length:=by omega
    refine hlp (Int) _ _ _ [1,3,8,9,10] (fun x=>[(1,none,.val (.box 31 (.agg [.slc false 49 (.agg [.slc false 2 (.int .i64 0) []]) a0,.slc false 44 (.slc false 2 (.int .i64 0) []) a1]))),(3,none,.val (.int .i64 n)),(8,none,.val (.int .i64 i)),(9,none,.val (.int .i64 k)),(10,none,.val (.int .i64 x))])
     (fun x=>0≤x∧x≤n∧∀j:Nat,j<x.toNat→i.toNat≠k.toNat→i.toNat≠j→j≠k.toNat→¬mm ms i.toNat k.toNat<min (mm ms i.toNat j) (mm ms j k.toNat)) (fun x=>(n-x).toNat) (0) (by subst hL;rfl) ?_ ?_
    ·exact ⟨by omega,by omega,fun t ht=>by simp at ht⟩
    rintro j ⟨j0,j1,hJ⟩ hfx3 ag3 hag3
    conv=>cbv
    simp only [stdEqs hL,imp_self,true_and,and_true,bif_or,bif_and,Bool.or_eq_true,Bool.or_eq_false_iff,Bool.and_eq_true,Bool.and_eq_false_iff,decide_eq_true_eq,decide_eq_false_iff_not,Bool.not_eq_true',Bool.not_eq_false',beq_iff_eq,beq_eq_false_iff_ne,ne_eq,toNat0,toNat1,ok_int,toI_int,I_frzs,I_length,I_getD,ok_ints,toL_slc,hml,gm,hm1]
    refine ⟨fun h6=> ?_,fun h6=> ?_⟩
    ·have hjl:j.toNat<bs.length:=by omega
     have rlj:=rl _ hjl
     simp only [rli,rlj]
     refine ⟨fun _=>by first|trivial|omega,fun _=>by first|trivial|omega,fun _=>by first|trivial|omega,fun _=>by first|trivial|omega,fun _=>by first|trivial|omega,fun _=>by first|trivial|omega,fun _=>by first|trivial|omega,fun _=>by first|trivial|omega,fun _=>by first|trivial|omega,fun _=>by first|trivial|omega,fun _=>by first|trivial|omega,fun _=>by first|trivial|omega,fun _=>by first|trivial|omega,fun _=>by first|trivial|omega,fun _=>by first|trivial|omega,fun _=>by first|trivial|omega,fun _=>by first|trivial|omega,fun _=>by first|trivial|omega,fun h7=> ?_,fun h7=> ?_⟩
     ·rw [hr,hF]
      intro hv
      exact hv.ult _ _ _ hil hkl hjl (by omega) (by omega) (by omega) h7.2
     ·rw [wrap_id (n:=j+1) (by omega) (by omega)]
      refine hag3 (j+1) ⟨by omega,by omega,fun t ht e0 e1 e2=> ?_⟩ (by omega)
      by_cases htj:t=j.toNat
      ·rw [htj]
       exact h7.resolve_left (by omega)
      ·exact hJ t (by omega) e0 e1 e2
    ·rw [wrap_id (n:=k+1) (by omega) (by omega)]
     refine hag2 (k+1) ⟨by omega,by omega,fun t ht=> ?_⟩ (by omega)
     by_cases htk:t=k.toNat
     ·rw [htk]
      exact fun j' hj'=>hJ j' (by omega)
     ·exact hQ t (by omega)
   ·rw [wrap_id (n:=i+1) (by omega) (by omega)]
    refine hag (i+1) ⟨by omega,by omega,fun t ht k' hk'=> ?_⟩ (by omega)
    by_cases hti:t=i.toNat
    ·rw [hti];exact hQ k' (by omega)
    ·exact hP t (by omega) k' hk'
  ·rw [hr,hT]
   exact CvP.of (by omega) (by omega) hmn hA2 hP2 (fun t ht=>hP t (by omega))
 ·cases h
theorem szL_dec {n:Nat} {left:Int} (hn:n≤9223372036854775807) (h0:0≤left) (h1:left≤1048576) (h:¬szL n left<0):0≤szL n left∧szL n left≤left:=by
 have ew:IntKind.wrap .i64 (left-n)=left-n:=wrap_id (by omega) (by omega)
 rw [szL,ew] at h ⊢
 by_cases hh:left-n<0
 ·simp [hh] at h
 ·simp only [hh,decide_false,cond_false]
  omega
theorem szGo_le:∀(l:List (List Int)) (left:Int),0≤left→left≤1048576→(∀xs∈l,xs.length≤9223372036854775807)→¬szGo l left<0→szGo l left≤left
 |[],left,_,_,_,_=>Int.le_refl _
 |x::l,left,h0,h1,hl,h=>by
  rw [szGo] at h ⊢
  by_cases hh:szL x.length left<0
  ·simp [hh] at h
  ·obtain ⟨k1,k2⟩:=szL_dec (hl x (by simp)) h0 h1 hh
   rw [decide_eq_false hh,cond_false] at h ⊢
   have:=szGo_le l _ k1 (by omega) (fun y hy=>hl y (by simp [hy])) h
   omega
theorem szSS_le {l:List (List Int)} {left:Int} (h0:0≤left) (h1:left≤1048576) (hl0:l.length≤9223372036854775807) (hl:∀x∈l,x.length≤9223372036854775807) (h:¬szSS l left<0):0≤szSS l left∧szSS l left≤left:=by
 refine ⟨by omega,?_⟩
 have e1:W (left-l.length)=left-l.length:=wrap_id (by omega) (by omega)
 unfold szSS at h ⊢
 rw [e1] at h ⊢
 by_cases h3:left-(l.length:Int)<0
 ·rw [decide_eq_true h3] at h;simp at h
 ·rw [decide_eq_false h3,cond_false] at h ⊢
  have:=szGo_le l _ (by omega) (by omega) hl h
  omega
theorem lenOks_memB {o:Bool} {xss:List (List Int)} (h:V.lenOks (BB o xss)):∀x∈xss,x.length≤9223372036854775807:=by
 intro x hx
 have h1:=lenOks_iff.1 h (.agg [.slc o 2 (.int .i64 0) (I x)]) (by
  rw [BB,List.mem_map]
  exact ⟨x,hx,rfl⟩)
 have h2:=h1.1.1
 rwa [I_length] at h2
theorem szC_ok {a0 a1:List V} {left:Int} (l0:0≤left) (l1:left≤1048576) (h:q_C' a0 a1) (hf0:a0.length≤9223372036854775807) (hf0':V.lenOks a0) (hf1:a1.length≤9223372036854775807) (hf1':V.lenOks a1) (hs:decide (f_szC a0 a1 left<0)=false):
 q_cpC a0 a1∧tot (unBB a0)≤1048576∧tot (unII a1)≤1048576∧0≤f_szC a0 a1 left∧f_szC a0 a1 left≤left:=by
 obtain ⟨⟨bs,rfl⟩,⟨ms,rfl⟩⟩:=h
 rw [BB_length] at hf0
 rw [II_length] at hf1
 rw [decide_eq_false_iff_not] at hs
 unfold f_szC at hs ⊢
 rw [unBB_BB,unII_II] at hs ⊢
 by_cases h1:szSS bs left<0
 ·rw [decide_eq_true h1] at hs;simp at hs
 ·rw [decide_eq_false h1,cond_false] at hs ⊢
  obtain ⟨k1,k2⟩:=szSS_le l0 l1 hf0 (lenOks_memB hf0') h1
  obtain ⟨k3,k4⟩:=szSS_le k1 (by omega) hf1 (lenOks_mem hf1') hs
  obtain ⟨j1,j2,j3⟩:=szSS_ok l0 l1 hf0 (lenOks_memB hf0') h1
  obtain ⟨j4,j5,j6⟩:=szSS_ok k1 (by omega) hf1 (lenOks_mem hf1') hs
  exact ⟨⟨⟨bs,rfl,by omega,fun x hx=>by have:=j3 x hx;omega⟩,ms,rfl,by omega,fun x hx=>by have:=j6 x hx;omega⟩,j2,j5,k3,by omega⟩
theorem q_C_of {a0 a1:List V} (h:q_cpC a0 a1):q_C a0 a1:=h
def yesC (_ _:List V):Bool:=true
def c_law_D (f:List V→List V→Bool) (q:List V→List V→Prop):Contract:=fun
 |[.agg [.slc false 46 (.agg [.slc false 2 (.int .i64 0) []]) a0,.slc false 44 (.slc false 2 (.int .i64 0) []) a1]]=>some ([q a0 a1],.bool (f a0 a1))
 |_=>none
def q_law_D (x y:List V):Prop:=q_C' x y
end Go.Ax
set_option linter.all false
namespace Go.Ax
open Go.Proofs
end Go.Ax
set_option linter.all false
namespace Go.Ax
open Go.Proofs
theorem TabP.range {ms:List (List Int)} {n:Nat} (h:TabP ms n) {i k:Nat} (hi:i<n) (hk:k<n):0≤mm ms i k∧mm ms i k≤200:=by
 have hE:=(h.row i hi).2 k hk
 by_cases he:i=k
 ·have:=hE.1 he;omega
 ·have:=hE.2 he;omega
end Go.Ax
