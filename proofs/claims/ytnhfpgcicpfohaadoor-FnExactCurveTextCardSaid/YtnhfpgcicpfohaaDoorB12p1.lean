import Derived.Test.YtnhfpgcicpfohaaDoorB10p1
import Derived.Test.YtnhfpgcicpfohaaDoorB11p1
/-
 What a curve is:the matrix of common points,IsCurve on both sides. No conditions but those of the contracts.
-/
set_option linter.all false
namespace Go.Ax
open Go.Proofs
def mm (ms:List (List Int)) (i k:Nat):Int:=(ms.getD i []).getD k 0
def EntP (i k:Nat) (c:Int):Prop:=(i=k→c=0)∧(i≠k→1≤c∧c≤200)
def RowP (ms:List (List Int)) (n i:Nat):Prop:=(ms.getD i []).length=n∧∀k,k<n→EntP i k (mm ms i k)
def SymP (ms:List (List Int)) (n i:Nat):Prop:=∀k,k<n→mm ms k i=mm ms i k
structure TabP (ms:List (List Int)) (n:Nat):Prop where
 len:ms.length=n
 row:∀i,i<n→RowP ms n i
 sym:∀i,i<n→SymP ms n i
noncomputable def f_tabP (es:List V) (n:Int):Bool:= @decide (TabP (unII es) n.toNat) (Classical.propDecidable _)
def q_tabP (es:List V) (n:Int):Prop:=IsII false es∧0≤n∧n≤2147483647
theorem dec_true {p:Prop} (h:p): @decide p (Classical.propDecidable _)=true:= @decide_eq_true p (Classical.propDecidable _) h
theorem dec_false {p:Prop} (h:¬p): @decide p (Classical.propDecidable _)=false:= @decide_eq_false p (Classical.propDecidable _) h
def c_mi_b (f:List V→Int→Bool) (q:List V→Int→Prop):Contract:=fun
 |[.slc false 44 (.slc false 2 (.int .i64 0) []) a0,.int .i64 a1]=>some ([q a0 a1],.bool (f a0 a1))
 |_=>none
set_option maxHeartbeats 1000000 in
set_option maxRecDepth 100000 in
theorem s_impl_isTable:Sat Tryd.prog 28 (c_mi_b f_tabP q_tabP):=by
 intro args ps r h hp
 unfold c_mi_b at h
 split at h
 ·rename_i a0 a1
  simp only [Option.some.injEq,Prod.mk.injEq] at h
  obtain ⟨rfl,rfl⟩:=h
  obtain ⟨⟨ms,hms⟩,n0,n1⟩:q_tabP a0 a1:=(alls_cons.1 hp).1
  obtain ⟨n,hn⟩:∃n:Nat,(n:Int)=a1:=⟨a1.toNat,by omega⟩
  have hn':a1.toNat=n:=by omega
  have hml:a0.length=ms.length:=by rw [hms,II_length]
  have gm:∀k,a0.getD k (.slc false 2 (.int .i64 0) [])= .slc false 2 (.int .i64 0) (I (ms.getD k [])):=fun k=>by rw [hms,II_getD]
  have hT:TabP ms n→f_tabP a0 a1=true:=fun h=>by rw [f_tabP,hms,unII_II,hn'];exact dec_true h
  have hF:¬TabP ms n→f_tabP a0 a1=false:=fun h=>by rw [f_tabP,hms,unII_II,hn'];exact dec_false h
  generalize H_inRange:inRange=F_inRange
  refine fnOk_ofI (T:=tab) (B:=[(42,c_impl_inRange F_inRange)]) (Bi:=[]) [0,1,4,5,6,7,8,9,10,11,12,17,18,19,28,29,30,54,55,56,61,62,63] Tryd.func28 rfl rfl (by kernel_rfl) (Nat.le_of_ble_eq_true rfl) mixed tabOk (by subst H_inRange;exact (bookCons s_impl_inRange bookNil)) (by subst H_inRange;exact bookINil) (by kernel_rfl) ?_
  intro L lp rr hL hr hf hlp
  have hle:=hf.1.1
  conv=>cbv
  simp only [stdEqs hL,imp_self,true_and,and_true,bif_or,bif_and,Bool.or_eq_true,Bool.or_eq_false_iff,Bool.and_eq_true,Bool.and_eq_false_iff,decide_eq_true_eq,decide_eq_false_iff_not,Bool.not_eq_true',Bool.not_eq_false',beq_iff_eq,beq_eq_false_iff_ne,ne_eq,toNat0,toNat1,ok_int,toI_int,I_frzs,I_length,I_getD,ok_ints,toL_slc,hml]
  refine ⟨fun h=> ?_,fun h=> ?_⟩
  ·rw [hr,hF]
   intro ht
   have:=ht.len
   omega
  have hmn:ms.length=n:=by omega
  refine hlp (Int) _ _ _ [0,1,17,18,19] (fun x=>[(0,none,.val (.slc false 44 (.slc false 2 (.int .i64 0) []) a0)),(1,none,.val (.int .i64 a1)),(17,none,.val (.slc false 44 (.slc false 2 (.int .i64 0) []) a0)),(18,none,.val (.int .i64 a1)),(19,none,.val (.int .i64 x))])
   (fun x=>0≤x∧x≤a1∧∀t:Nat,t<x.toNat→RowP ms n t) (fun x=>(a1-x).toNat) (0) (by subst hL;rw [h];rfl) ?_ ?_
  ·exact ⟨by omega,by omega,fun t ht=>by simp at ht⟩
  rintro i ⟨i0,i1,hI⟩ hfx ag hag
  conv=>cbv
  simp only [stdEqs hL,imp_self,true_and,and_true,bif_or,bif_and,Bool.or_eq_true,Bool.or_eq_false_iff,Bool.and_eq_true,Bool.and_eq_false_iff,decide_eq_true_eq,decide_eq_false_iff_not,Bool.not_eq_true',Bool.not_eq_false',beq_iff_eq,beq_eq_false_iff_ne,ne_eq,toNat0,toNat1,ok_int,toI_int,I_frzs,I_length,I_getD,ok_ints,toL_slc,hml,gm]
  refine ⟨fun h2=> ?_,fun h2=> ?_⟩
  ·obtain ⟨r,hR⟩:∃r,r=ms.getD i.toNat []:=⟨_,rfl⟩
   rw [←hR]
   refine ⟨i0,by omega,fun h3=> ?_,fun h3=> ?_⟩
   ·rw [hr,hF]
    intro ht
    have:=(ht.row i.toNat (by omega)).1
    rw [←hR] at this
    omega
   have hrl:r.length=n:=by omega
   obtain ⟨vr,hvr⟩:∃vr,vr=I r:=⟨_,rfl⟩
   have vrl:vr.length=n:=by rw [hvr,I_length,hrl]
   have gr:∀t,vr.getD t (.int .i64 0)= .int .i64 (r.getD t 0):=fun t=>by rw [hvr,I_getD]
   rw [←hvr]
   refine hlp (Int) _ _ _ [0,1,5,17,18,19,28,29,30] (fun x=>[(0,none,.val (.slc false 44 (.slc false 2 (.int .i64 0) []) a0)),(1,none,.val (.int .i64 a1)),(5,none,.val (.int .i64 i)),(17,none,.val (.slc false 44 (.slc false 2 (.int .i64 0) []) a0)),(18,none,.val (.int .i64 a1)),(19,none,.val (.int .i64 i)),(28,none,.val (.slc false 2 (.int .i64 0) vr)),(29,none,.val (.int .i64 a1)),(30,none,.val (.int .i64 x))])
    (fun x=>0≤x∧x≤a1∧∀t:Nat,t<x.toNat→EntP i.toNat t (r.getD t 0)) (fun x=>(a1-x).toNat) (0) (by subst hL;rw [hrl,hn];rfl) ?_ ?_
   ·exact ⟨by omega,by omega,fun t ht=>by simp at ht⟩
   rintro k ⟨k0,k1,hK⟩ hfx2 ag2 hag2
   conv=>cbv
   subst H_inRange
   simp only [stdEqs hL,imp_self,true_and,and_true,bif_or,bif_and,Bool.or_eq_true,Bool.or_eq_false_iff,Bool.and_eq_true,Bool.and_eq_false_iff,decide_eq_true_eq,decide_eq_false_iff_not,Bool.not_eq_true',Bool.not_eq_false',beq_iff_eq,beq_eq_false_iff_ne,ne_eq,toNat0,toNat1,ok_int,toI_int,I_frzs,I_length,I_getD,ok_ints,toL_slc,vrl,gr]
   refine ⟨fun h4=>⟨k0,by omega,fun h5 h6=>⟨h5,h6⟩,fun h5=> ?_,fun h5=> ?_⟩,fun h4=> ?_⟩
   ·rw [hr,hF]
    intro ht
    have hE:=(ht.row i.toNat (by omega)).2 k.toNat (by omega)
    rw [mm,←hR] at hE
    rcases h5 with ⟨h5,h6⟩|⟨h5,h6⟩
    ·exact h6 (hE.1 (by omega))
    ·have:=hE.2 (by omega)
     simp only [inRange,Bool.and_eq_false_iff,decide_eq_false_iff_not] at h6
     omega
   ·rw [wrap_id (n:=k+1) (by omega) (by omega)]
    refine hag2 (k+1) ⟨by omega,by omega,fun t ht=> ?_⟩ (by omega)
    by_cases htk:t=k.toNat
    ·rw [htk]
     refine ⟨fun e=>h5.1.resolve_left (fun hne=>hne (by omega)),fun e=> ?_⟩
     have:=h5.2.resolve_left (fun h=>e (by omega))
     simpa [inRange] using this
    ·exact hK t (by omega)
   ·rw [wrap_id (n:=i+1) (by omega) (by omega)]
    refine hag (i+1) ⟨by omega,by omega,fun t ht=> ?_⟩ (by omega)
    by_cases hti:t=i.toNat
    ·rw [hti]
     refine ⟨by rw [←hR];exact hrl,fun k' hk'=> ?_⟩
     rw [mm,←hR]
     exact hK k' (by omega)
    ·exact hI t (by omega)
  ·have hrow:∀t,t<n→RowP ms n t:=fun t ht=>hI t (by omega)
   refine hlp (Int) _ _ _ [0,54,55,56] (fun x=>[(0,none,.val (.slc false 44 (.slc false 2 (.int .i64 0) []) a0)),(54,none,.val (.slc false 44 (.slc false 2 (.int .i64 0) []) a0)),(55,none,.val (.int .i64 a1)),(56,none,.val (.int .i64 x))])
    (fun x=>0≤x∧x≤a1∧∀t:Nat,t<x.toNat→SymP ms n t) (fun x=>(a1-x).toNat) (0) (by subst hL;rw [h];rfl) ?_ ?_
   ·exact ⟨by omega,by omega,fun t ht=>by simp at ht⟩
   rintro i ⟨i0,i1,hI⟩ hfx ag hag
   conv=>cbv
   simp only [stdEqs hL,imp_self,true_and,and_true,bif_or,bif_and,Bool.or_eq_true,Bool.or_eq_false_iff,Bool.and_eq_true,Bool.and_eq_false_iff,decide_eq_true_eq,decide_eq_false_iff_not,Bool.not_eq_true',Bool.not_eq_false',beq_iff_eq,beq_eq_false_iff_ne,ne_eq,toNat0,toNat1,ok_int,toI_int,I_frzs,I_length,I_getD,ok_ints,toL_slc,hml,gm]
   refine ⟨fun h2=> ?_,fun h2=> ?_⟩
   ·obtain ⟨r,hR⟩:∃r,r=ms.getD i.toNat []:=⟨_,rfl⟩
    have hrl:r.length=n:=by rw [hR];exact (hrow i.toNat (by omega)).1
    rw [←hR]
    obtain ⟨vr,hvr⟩:∃vr,vr=I r:=⟨_,rfl⟩
    have vrl:vr.length=n:=by rw [hvr,I_length,hrl]
    have gr:∀t,vr.getD t (.int .i64 0)= .int .i64 (r.getD t 0):=fun t=>by rw [hvr,I_getD]
    rw [←hvr]
    refine ⟨i0,by omega,?_⟩
    refine hlp (Int) _ _ _ [0,9,54,55,56,61,62,63] (fun x=>[(0,none,.val (.slc false 44 (.slc false 2 (.int .i64 0) []) a0)),(9,none,.val (.int .i64 i)),(54,none,.val (.slc false 44 (.slc false 2 (.int .i64 0) []) a0)),(55,none,.val (.int .i64 a1)),(56,none,.val (.int .i64 i)),(61,none,.val (.slc false 2 (.int .i64 0) vr)),(62,none,.val (.int .i64 a1)),(63,none,.val (.int .i64 x))])
     (fun x=>0≤x∧x≤a1∧∀t:Nat,t<x.toNat→mm ms t i.toNat=r.getD t 0) (fun x=>(a1-x).toNat) (0) (by subst hL;rw [hrl,hn];rfl) ?_ ?_
    ·exact ⟨by omega,by omega,fun t ht=>by simp at ht⟩
    rintro k ⟨k0,k1,hK⟩ hfx2 ag2 hag2
    conv=>cbv
    simp only [stdEqs hL,imp_self,true_and,and_true,bif_or,bif_and,Bool.or_eq_true,Bool.or_eq_false_iff,Bool.and_eq_true,Bool.and_eq_false_iff,decide_eq_true_eq,decide_eq_false_iff_not,Bool.not_eq_true',Bool.not_eq_false',beq_iff_eq,beq_eq_false_iff_ne,ne_eq,toNat0,toNat1,ok_int,toI_int,I_frzs,I_length,I_getD,ok_ints,toL_slc,vrl,gr,hml,gm]
    refine ⟨fun h4=> ?_,fun h4=> ?_⟩
    ·have hkl:(ms.getD k.toNat []).length=n:=(hrow k.toNat (by omega)).1
     refine ⟨k0,by omega,k0,by omega,i0,by omega,fun h5=> ?_,fun h5=> ?_⟩
     ·rw [hr,hF]
      intro ht
      have:=ht.sym i.toNat (by omega) k.toNat (by omega)
      rw [mm,mm,←hR] at this
      exact h5 this
     ·rw [wrap_id (n:=k+1) (by omega) (by omega)]
      refine hag2 (k+1) ⟨by omega,by omega,fun t ht=> ?_⟩ (by omega)
      by_cases htk:t=k.toNat
      ·rw [htk];exact h5
      ·exact hK t (by omega)
    ·rw [wrap_id (n:=i+1) (by omega) (by omega)]
     refine hag (i+1) ⟨by omega,by omega,fun t ht=> ?_⟩ (by omega)
     by_cases hti:t=i.toNat
     ·rw [hti]
      intro k' hk'
      have:=hK k' (by omega)
      rw [this,hR]
      rfl
     ·exact hI t (by omega)
   ·rw [hr,hT]
    exact ⟨hmn,hrow,fun t ht=>hI t (by omega)⟩
 ·cases h
structure CvP (bs ms:List (List Int)):Prop where
 n1:1≤bs.length
 n6:bs.length≤6
 tab:TabP ms bs.length
 br:∀i,i<bs.length→isBr (bs.getD i [])=true
 shr:∀i k,i<bs.length→k<bs.length→i≠k→shr (bs.getD i []) (bs.getD k []) (mm ms i k).toNat=true
 ult:∀i k j,i<bs.length→k<bs.length→j<bs.length→i≠k→j≠i→j≠k→¬mm ms i k<min (mm ms i j) (mm ms j k)
noncomputable def isCv (bs ms:List (List Int)):Bool:= @decide (CvP bs ms) (Classical.propDecidable _)
theorem isCv_iff {bs ms:List (List Int)}:isCv bs ms=true↔CvP bs ms:=by
 rw [isCv]
 exact @decide_eq_true_iff _ (Classical.propDecidable _)
noncomputable def f_isCv (a b:List V):Bool:=isCv (unBB a) (unII b)
def q_C (a b:List V):Prop:=IsBBs a∧IsIIs b
def IRow (bs ms:List (List Int)) (i k:Nat):Prop:=i≠k→shr (bs.getD i []) (bs.getD k []) (mm ms i k).toNat=true∧∀j,j<bs.length→j≠i→j≠k→¬mm ms i k<min (mm ms i j) (mm ms j k)
def cdsI (bs:List (List Int)) (n:Nat):List (List Int):=tab' (fun i=>codeK (bs.getD i []) 201) n
def c_C_b (f:List V→List V→Bool) (q:List V→List V→Prop):Contract:=fun
 |[.agg [.slc false 49 (.agg [.slc false 2 (.int .i64 0) []]) a0,.slc false 44 (.slc false 2 (.int .i64 0) []) a1]]=>some ([q a0 a1],.bool (f a0 a1))
 |_=>none
set_option maxHeartbeats 1000000 in
set_option maxRecDepth 100000 in
theorem s_impl_IsCurve:Sat Tryd.prog 15 (c_C_b f_isCv q_C):=by
 intro args ps r h hp
 unfold c_C_b at h
 split at h
 ·rename_i a0 a1
  simp only [Option.some.injEq,Prod.mk.injEq] at h
  obtain ⟨rfl,rfl⟩:=h
  obtain ⟨⟨bs,hbs,hb1,hb2⟩,⟨ms,hms,hm1,hm2⟩⟩:q_C a0 a1:=(alls_cons.1 hp).1
  have g1:V.frzs a0=a0:=by rw [hbs,BB_frzs]
  have g2:V.frzs a1=a1:=by rw [hms,II_frzs]
  have hbl:a0.length=bs.length:=by rw [hbs,BB_length]
  have hml:a1.length=ms.length:=by rw [hms,II_length]
  have gb:∀k,a0.getD k (.agg [.slc false 2 (.int .i64 0) []])= .agg [.slc false 2 (.int .i64 0) (I (bs.getD k []))]:=fun k=>by rw [hbs,BB_getD]
  have gm:∀k,a1.getD k (.slc false 2 (.int .i64 0) [])= .slc false 2 (.int .i64 0) (I (ms.getD k [])):=fun k=>by rw [hms,II_getD]
  obtain ⟨n,hn⟩:∃n:Int,n=bs.length:=⟨_,rfl⟩
  have hT:CvP bs ms→f_isCv a0 a1=true:=fun h=>by rw [f_isCv,hbs,hms,unBB_BB,unII_II,isCv_iff];exact h
  have hF:¬CvP bs ms→f_isCv a0 a1=false:=fun h=>by rw [f_isCv,hbs,hms,unBB_BB,unII_II];exact dec_false h
  have qt:q_tabP a1 n:=⟨⟨ms,hms⟩,by omega,by omega⟩
  have et:f_tabP a1 n=true↔TabP ms bs.length:=by
   rw [f_tabP,hms,unII_II,show n.toNat=bs.length by omega]
   exact @decide_eq_true_iff _ (Classical.propDecidable _)
  generalize H_f_tabP:f_tabP=F_f_tabP
  generalize H_q_tabP:q_tabP=F_q_tabP
  generalize H_f0_isBr:f0_isBr=F_f0_isBr
  generalize H_IsIs:IsIs=F_IsIs
  generalize H_f_pof:f_pof=F_f_pof
  generalize H_q_first:q_first=F_q_first
  generalize H_f_code:f_code=F_f_code
  generalize H_q_code:q_code=F_q_code
  generalize H_f_csh:f_csh=F_f_csh
  generalize H_q_csh:q_csh=F_q_csh
  refine fnOk_ofI (T:=tab) (B:=[(28,c_mi_b F_f_tabP F_q_tabP),(29,c_b_bool F_f0_isBr F_IsIs),(31,c_Bi_m F_f_pof F_q_first),(30,c_m_l F_f_code F_q_code),(32,c_lli_b F_f_csh F_q_csh)]) (Bi:=[]) [0,1,2,3,4,6,7,8,9,28,29,30,44,45,48,49,73,74] Tryd.func15 rfl rfl (by kernel_rfl) (Nat.le_of_ble_eq_true rfl) mixed tabOk (by subst H_f_tabP H_q_tabP H_f0_isBr H_IsIs H_f_pof H_q_first H_f_code H_q_code H_f_csh H_q_csh;exact (bookCons s_impl_isTable (bookCons s_impl_IsBranch (bookCons s_impl_proximatesOf (bookCons s_impl_codeOf (bookCons s_impl_canShare bookNil)))))) (by subst H_f_tabP H_q_tabP H_f0_isBr H_IsIs H_f_pof H_q_first H_f_code H_q_code H_f_csh H_q_csh;exact bookINil) (by kernel_rfl) ?_
  intro L lp rr hL hr hf hlp
  have hbI:∀i:Nat,i<bs.length→F_IsIs (I (bs.getD i [])):=fun i hi=>by
   rw [←H_IsIs]
   exact ⟨⟨_,rfl⟩,by rw [I_length];exact hb2 _ (mem_getD hi)⟩
  conv=>cbv
  have Q1:F_q_tabP a1 n:=by rw [←H_q_tabP];exact qt
  have E1:F_f_tabP a1 n=true↔TabP ms bs.length:=by rw [←H_f_tabP];exact et
  simp only [stdEqs hL,imp_self,true_and,and_true,bif_or,bif_and,Bool.or_eq_true,Bool.or_eq_false_iff,Bool.and_eq_true,Bool.and_eq_false_iff,decide_eq_true_eq,decide_eq_false_iff_not,Bool.not_eq_true',Bool.not_eq_false',beq_iff_eq,beq_eq_false_iff_ne,ne_eq,toNat0,toNat1,ok_int,toI_int,I_frzs,I_length,I_getD,ok_ints,toL_slc,g1,g2,hbl,←hn]
  refine ⟨fun _=>Q1,fun h=> ?_,fun h=> ?_⟩
  ·rw [hr,hF]
   intro hc
   have h1:=hc.n1
   have h6:=hc.n6
   rcases h with (h|h)|h
   ·omega
   ·omega
   ·rw [E1.2 hc.tab] at h;cases h
  obtain ⟨⟨n1,n6⟩,h3⟩:=h
  have htab:=E1.1 h3
  have hmn:=htab.len
  refine hlp (List V×Int) _ _ _ [1,3,4,28,29,30] (fun x=>[(1,none,.val (.box 31 (.agg [.slc false 49 (.agg [.slc false 2 (.int .i64 0) []]) a0,.slc false 44 (.slc false 2 (.int .i64 0) []) a1]))),(3,none,.val (.int .i64 n)),(4,none,.val (.slc true 44 (.slc true 2 (.int .i64 0) []) x.1)),(28,none,.val (.slc false 49 (.agg [.slc false 2 (.int .i64 0) []]) a0)),(29,none,.val (.int .i64 n)),(30,none,.val (.int .i64 x.2))])
   (fun x=>0≤x.2∧x.2≤n∧x.1=II true (cdsI bs x.2.toNat)∧∀t:Nat,t<x.2.toNat→isBr (bs.getD t [])=true) (fun x=>(n-x.2).toNat) (([],0)) (by subst hL;rfl) ?_ ?_
  ·exact ⟨by simp,by simp only;omega,rfl,fun t ht=>by simp at ht⟩
  rintro ⟨es,i⟩ ⟨i0,i1,hI,hB⟩ hfx ag hag
  simp only at i0 i1 hI hB
  conv=>cbv
  simp only [stdEqs hL,imp_self,true_and,and_true,bif_or,bif_and,Bool.or_eq_true,Bool.or_eq_false_iff,Bool.and_eq_true,Bool.and_eq_false_iff,decide_eq_true_eq,decide_eq_false_iff_not,Bool.not_eq_true',Bool.not_eq_false',beq_iff_eq,beq_eq_false_iff_ne,ne_eq,toNat0,toNat1,ok_int,toI_int,I_frzs,I_length,I_getD,ok_ints,toL_slc,hbl,gb,ok_bran,toL_bran,fld_bran]
  refine ⟨fun h2=> ?_,fun h2=> ?_⟩
  ·have hil:i.toNat<bs.length:=by omega
   have eb:F_f0_isBr (I (bs.getD i.toNat []))=isBr (bs.getD i.toNat []):=by rw [←H_f0_isBr,f0_isBr,unI_I]
   rw [eb]
   refine ⟨i0,by omega,hbI _ hil,fun h4=> ?_,fun h4=> ?_⟩
   ·rw [hr,hF]
    intro hc
    rw [hc.br _ hil] at h4;cases h4
   ·have hbr:=br_of h4
    have qp:F_q_first (I (bs.getD i.toNat [])) 201:=by rw [←H_q_first];exact ⟨⟨_,rfl,hbr⟩,by omega,by omega⟩
    have ep:V.frzs (F_f_pof (I (bs.getD i.toNat [])) 201)=II false (proxL (firstK (bs.getD i.toNat []) 201)):=by rw [←H_f_pof,f_pof,unI_I,II_frzs];rfl
    have qc:F_q_code (II false (proxL (firstK (bs.getD i.toNat []) 201))):=by rw [←H_q_code];exact q_code_prox _ (by omega) (by omega)
    have ec:F_f_code (II false (proxL (firstK (bs.getD i.toNat []) 201)))=I (codeK (bs.getD i.toNat []) 201):=by rw [←H_f_code,f_code,unII_II,codeL_prox hbr]
    simp only [ep,ec]
    have hes:es.length=i.toNat:=by rw [hI,II_length,cdsI,tab_len]
    rw [wrap_id (n:=i+1) (by omega) (by omega)]
    refine ⟨qp,qc,I_noFzs _,by simp only [List.length_cons,List.length_nil];omega,solid1 rfl,hag (_,i+1) ⟨by simp only;omega,by simp only;omega,?_,fun t ht=> ?_⟩ (by simp only;omega)⟩
    ·simp only [toNat_succ i0]
     rw [cdsI,tab_succ,II_append,hI]
     rfl
    ·simp only [toNat_succ i0] at ht
     by_cases hti:t=i.toNat
     ·rw [hti];exact h4
     ·exact hB t (by omega)
  ·have hbr:∀t,t<bs.length→isBr (bs.getD t [])=true:=fun t ht=>hB t (by omega)
   have ht2:i.toNat=bs.length:=by omega
   rw [ht2] at hI
   have hel:es.length=bs.length:=by rw [hI,II_length,cdsI,tab_len]
   have ge:∀k,k<bs.length→es.getD k (.slc true 2 (.int .i64 0) [])= .slc true 2 (.int .i64 0) (I (codeK (bs.getD k []) 201)):=fun k hk=>by rw [hI,II_getD,cdsI,tab_get _ _ _ _ hk]
   have ecs:∀x y c,F_f_csh (I (codeK x 201)) (I (codeK y 201)) c=shr x y c.toNat:=fun x y c=>by rw [←H_f_csh,f_csh,unI_I,unI_I,shr]
   have qcs:∀x y c,1≤c→c≤200→F_q_csh (I (codeK x 201)) (I (codeK y 201)) c:=fun x y c h1 h2=>by rw [←H_q_csh];exact ⟨⟨_,rfl⟩,⟨_,rfl⟩,h1,by rw [I_length,codeK_len];omega,by rw [I_length,codeK_len];omega⟩
   have rl:∀k,k<bs.length→(ms.getD k []).length=bs.length:=fun k hk=>(htab.row k hk).1
   have ent:∀i k,i<bs.length→k<bs.length→i≠k→1≤mm ms i k∧mm ms i k≤200:=fun i k hi hk hne=>((htab.row i hi).2 k hk).2 hne
   refine hlp (Int) _ _ _ [1,3,4,44,45] (fun x=>[(1,none,.val (.box 31 (.agg [.slc false 49 (.agg [.slc false 2 (.int .i64 0) []]) a0,.slc false 44 (.slc false 2 (.int .i64 0) []) a1]))),(3,none,.val (.int .i64 n)),(4,none,.val (.slc true 44 (.slc true 2 (.int .i64 0) []) es)),(44,none,.val (.int .i64 n)),(45,none,.val (.int .i64 x))])
    (fun x=>0≤x∧x≤n∧∀t:Nat,t<x.toNat→∀k,k<bs.length→IRow bs ms t k) (fun x=>(n-x).toNat) (0) (by subst hL;rfl) ?_ ?_
   ·exact ⟨by omega,by omega,fun t ht=>by simp at ht⟩
   rintro i ⟨i0,i1,hP⟩ hfx ag hag
   conv=>cbv
   simp only [stdEqs hL,imp_self,true_and,and_true,bif_or,bif_and,Bool.or_eq_true,Bool.or_eq_false_iff,Bool.and_eq_true,Bool.and_eq_false_iff,decide_eq_true_eq,decide_eq_false_iff_not,Bool.not_eq_true',Bool.not_eq_false',beq_iff_eq,beq_eq_false_iff_ne,ne_eq,toNat0,toNat1,ok_int,toI_int,I_frzs,I_length,I_getD,ok_ints,toL_slc,]
   refine ⟨fun h2=> ?_,fun h2=> ?_⟩
   ·refine hlp (Int) _ _ _ [1,3,4,7,44,45,48,49] (fun x=>[(1,none,.val (.box 31 (.agg [.slc false 49 (.agg [.slc false 2 (.int .i64 0) []]) a0,.slc false 44 (.slc false 2 (.int .i64 0) []) a1]))),(3,none,.val (.int .i64 n)),(4,none,.val (.slc true 44 (.slc true 2 (.int .i64 0) []) es)),(7,none,.val (.int .i64 i)),(44,none,.val (.int .i64 n)),(45,none,.val (.int .i64 i)),(48,none,.val (.int .i64 n)),(49,none,.val (.int .i64 x))])
     (fun x=>0≤x∧x≤n∧∀t:Nat,t<x.toNat→IRow bs ms i.toNat t) (fun x=>(n-x).toNat) (0) (by subst hL;rfl) ?_ ?_
    ·exact ⟨by omega,by omega,fun t ht=>by simp at ht⟩
    rintro k ⟨k0,k1,hQ⟩ hfx2 ag2 hag2
    conv=>cbv
    simp only [stdEqs hL,imp_self,true_and,and_true,bif_or,bif_and,Bool.or_eq_true,Bool.or_eq_false_iff,Bool.and_eq_true,Bool.and_eq_false_iff,decide_eq_true_eq,decide_eq_false_iff_not,Bool.not_eq_true',Bool.not_eq_false',beq_iff_eq,beq_eq_false_iff_ne,ne_eq,toNat0,toNat1,ok_int,toI_int,I_frzs,I_length,I_getD,ok_ints,toL_slc,hml,hel,gm]
    refine ⟨fun h3=> ?_,fun h3=> ?_⟩
    ·have hil:i.toNat<bs.length:=by omega
     have hkl:k.toNat<bs.length:=by omega
     have rli:=rl _ hil
     have gei:=ge _ hil
     have gek:=ge _ hkl
     simp only [gei,gek,stdEqs hL,imp_self,true_and,and_true,bif_or,bif_and,Bool.or_eq_true,Bool.or_eq_false_iff,Bool.and_eq_true,Bool.and_eq_false_iff,decide_eq_true_eq,decide_eq_false_iff_not,Bool.not_eq_true',Bool.not_eq_false',beq_iff_eq,beq_eq_false_iff_ne,ne_eq,toNat0,toNat1,ok_int,toI_int,I_frzs,I_length,I_getD,ok_ints,toL_slc,ecs]
     have hmm:(ms.getD i.toNat []).getD k.toNat 0=mm ms i.toNat k.toNat:=rfl
     refine ⟨fun h4=> ?_,fun h4=> ?_⟩
     ·rw [wrap_id (n:=k+1) (by omega) (by omega)]
      refine hag2 (k+1) ⟨by omega,by omega,fun t ht=> ?_⟩ (by omega)
      by_cases htk:t=k.toNat
      ·intro hne;exact absurd (by omega) hne
      ·exact hQ t (by omega)
     have hne:i.toNat≠k.toNat:=by omega
     have hen:=ent _ _ hil hkl hne
     obtain ⟨c,hc⟩:∃c,c=mm ms i.toNat k.toNat:=⟨_,rfl⟩
     rw [hmm,←hc]
     rw [←hc] at hen
     have qi:=qcs (bs.getD i.toNat []) (bs.getD k.toNat []) c hen.1 hen.2
     refine ⟨i0,by omega,hil,k0,by omega,hkl,i0,by omega,k0,by omega,hil,hkl,qi,fun h5=> ?_,fun h5=> ?_⟩
     ·rw [hr,hF]
      intro hv
      have:=hv.shr _ _ hil hkl hne
      rw [←hc,h5] at this
      cases this
     refine hlp (Int) _ _ _ [1,3,4,7,8,44,45,48,49,73,74] (fun x=>[(1,none,.val (.box 31 (.agg [.slc false 49 (.agg [.slc false 2 (.int .i64 0) []]) a0,.slc false 44 (.slc false 2 (.int .i64 0) []) a1]))),(3,none,.val (.int .i64 n)),(4,none,.val (.slc true 44 (.slc true 2 (.int .i64 0) []) es)),(7,none,.val (.int .i64 i)),(8,none,.val (.int .i64 k)),(44,none,.val (.int .i64 n)),(45,none,.val (.int .i64 i)),(48,none,.val (.int .i64 n)),(49,none,.val (.int .i64 k)),(73,none,.val (.int .i64 n)),(74,none,.val (.int .i64 x))])
      (fun x=>0≤x∧x≤n∧∀j:Nat,j<x.toNat→j≠i.toNat→j≠k.toNat→¬mm ms i.toNat k.toNat<min (mm ms i.toNat j) (mm ms j k.toNat)) (fun x=>(n-x).toNat) (0) (by subst hL;rfl) ?_ ?_
     ·exact ⟨by omega,by omega,fun t ht=>by simp at ht⟩
     rintro j ⟨j0,j1,hJ⟩ hfx3 ag3 hag3
     conv=>cbv
     simp only [stdEqs hL,imp_self,true_and,and_true,bif_or,bif_and,Bool.or_eq_true,Bool.or_eq_false_iff,Bool.and_eq_true,Bool.and_eq_false_iff,decide_eq_true_eq,decide_eq_false_iff_not,Bool.not_eq_true',Bool.not_eq_false',beq_iff_eq,beq_eq_false_iff_ne,ne_eq,toNat0,toNat1,ok_int,toI_int,I_frzs,I_length,I_getD,ok_ints,toL_slc,hml,gm]
     have hm1:∀x y:Nat,(ms.getD x []).getD y 0=mm ms x y:=fun _ _=>rfl
     simp only [hm1]
     refine ⟨fun h6=> ?_,fun h6=> ?_⟩
     ·have hjl:j.toNat<bs.length:=by omega
      have rlj:=rl _ hjl
      simp only [rli,rlj]
      refine ⟨fun _=>by first|trivial|omega,fun _=>by first|trivial|omega,fun _=>by first|trivial|omega,fun _=>by first|trivial|omega,fun _=>by first|trivial|omega,fun _=>by first|trivial|omega,fun _=>by first|trivial|omega,fun _=>by first|trivial|omega,fun _=>by first|trivial|omega,fun _=>by first|trivial|omega,fun _=>by first|trivial|omega,fun _=>by first|trivial|omega,fun _=>by first|trivial|omega,fun _=>by first|trivial|omega,fun _=>by first|trivial|omega,fun _=>by first|trivial|omega,fun _=>by first|trivial|omega,fun _=>by first|trivial|omega,fun h7=> ?_,fun h7=> ?_⟩
      ·rw [hr,hF]
       intro hv
       exact hv.ult _ _ _ hil hkl hjl hne (by omega) (by omega) h7.2
      ·rw [wrap_id (n:=j+1) (by omega) (by omega)]
       refine hag3 (j+1) ⟨by omega,by omega,fun t ht e1 e2=> ?_⟩ (by omega)
       by_cases htj:t=j.toNat
       ·rw [htj]
        exact h7.resolve_left (by omega)
       ·exact hJ t (by omega) e1 e2
     ·rw [wrap_id (n:=k+1) (by omega) (by omega)]
      refine hag2 (k+1) ⟨by omega,by omega,fun t ht=> ?_⟩ (by omega)
      by_cases htk:t=k.toNat
      ·rw [htk]
       intro _
       refine ⟨by rw [←hc];exact h5,fun j' hj' e1 e2=>hJ j' (by omega) e1 e2⟩
      ·exact hQ t (by omega)
    ·rw [wrap_id (n:=i+1) (by omega) (by omega)]
     refine hag (i+1) ⟨by omega,by omega,fun t ht k' hk'=> ?_⟩ (by omega)
     by_cases hti:t=i.toNat
     ·rw [hti];exact hQ k' (by omega)
     ·exact hP t (by omega) k' hk'
   ·rw [hr,hT]
    refine ⟨by omega,by omega,htab,hbr,fun t k ht hk hne=>(hP t (by omega) k hk hne).1,fun t k j ht hk hj hne h1 h2=>(hP t (by omega) k hk hne).2 j hj h1 h2⟩
 ·cases h
end Go.Ax
