import Derived.Test.YtnhfpgcicpfohaaDoorB05p1
/-
 What the laws do with curves:sizes,copies. No conditions but those of the contracts.
-/
set_option linter.all false
namespace Go.Ax
open Go.Proofs
def c_Ti_i (f:List V→Int→Int) (q:List V→Int→Prop):Contract:=fun
 |[.slc false 46 (.agg [.slc false 2 (.int .i64 0) []]) a0,.int .i64 a1]=>some ([q a0 a1],.int .i64 (f a0 a1))
 |_=>none
def f_szBS (es:List V) (left:Int):Int:=szSS (unBB es) left
def q_szBS (es:List V) (_:Int):Prop:=IsBB false es
theorem ok_branL (o o':Bool) (xs:List Int):vw stdV tab o 20 46 (.agg [.slc o' 2 (.int .i64 0) (I xs)])=some (.agg [.slc o 2 (.int .i64 0) (I xs)]):=by cases o<;>rfl
set_option maxHeartbeats 1000000 in
set_option maxRecDepth 100000 in
theorem s_laws_szBranchS:Sat Tryd.prog 9 (c_Ti_i f_szBS q_szBS):=by
 intro args ps r h hp
 unfold c_Ti_i at h
 split at h
 ·rename_i a0 a1
  simp only [Option.some.injEq,Prod.mk.injEq] at h
  obtain ⟨rfl,rfl⟩:=h
  obtain ⟨xss,hes⟩:IsBB false a0:=(alls_cons.1 hp).1
  have hel:a0.length=xss.length:=by rw [hes,BB_length]
  have hf0:f_szBS a0 a1=szSS xss a1:=by rw [f_szBS,hes,unBB_BB]
  generalize H_f0_sz:f0_sz=F_f0_sz
  generalize H_noq:noq=F_noq
  refine fnOk_ofI (T:=tab) (B:=[(19,c_bi_i F_f0_sz F_noq)]) (Bi:=[]) [0,1,4,5] Tryd.func9 rfl rfl (by kernel_rfl) (Nat.le_of_ble_eq_true rfl) mixed tabOk (by subst H_f0_sz H_noq;exact (bookCons s_laws_szBranch bookNil)) (by subst H_f0_sz H_noq;exact bookINil) (by kernel_rfl) ?_
  intro L lp rr hL hr hf hlp
  have hlen:=hf.1.1
  rw [hel] at hlen
  conv=>cbv
  simp only [stdEqs hL,hel]
  refine ⟨fun h=> ?_,fun h=> ?_⟩
  ·rw [hr,hf0,szSS,h];rfl
  refine hlp (Int×Int) _ _ _ [0,1,5] (fun x=>[(0,none,.val (.slc false 46 (.agg [.slc false 2 (.int .i64 0) []]) a0)),(1,none,.val (.int .i64 x.1)),(5,none,.val (.int .i64 x.2))])
   (fun x=>0≤x.2∧x.2≤xss.length∧szSS xss a1=szGo (xss.drop x.2.toNat) x.1) (fun x=>(xss.length-x.2).toNat) ((_,0)) (by subst hL;rfl) ?_ ?_
  ·refine ⟨by simp,by simp,?_⟩
   rw [szSS,h];rfl
  rintro ⟨left,i⟩ ⟨i0,i1,hI⟩ hfx ag hag
  conv=>cbv
  simp only at i0 i1 hI
  subst hes
  simp only [stdEqs hL,hel,BB_getD,ok_branL,ok_bran,toL_bran,ok_ints,toL_slc,fld_bran,I_frzs,imp_self,true_and,decide_eq_true_eq,decide_eq_false_iff_not]
  subst H_f0_sz H_noq
  have e0:f0_sz (I (xss.getD i.toNat [])) left=szL (xss.getD i.toNat []).length left:=by rw [f0_sz,I_length]
  rw [e0]
  refine ⟨fun h=> ?_,fun h=> ?_⟩
  ·have hd:xss.drop i.toNat=xss.getD i.toNat []::xss.drop (i.toNat+1):=drop_cons [] (by omega)
   refine ⟨i0,by omega,trivial,fun h2=> ?_,fun h2=> ?_⟩
   ·rw [hr,hf0,hI,hd,szGo,decide_eq_true h2];rfl
   ·rw [wrap_id (n:=i+1) (by omega) (by omega)]
    refine hag (_,i+1) ⟨by simp only;omega,by simp only;omega,?_⟩ (by simp only;omega)
    simp only [toNat_succ i0]
    rw [hI,hd,szGo,decide_eq_false h2];rfl
  ·rw [hr,hf0,hI,List.drop_eq_nil_of_le (by omega)];rfl
 ·cases h
def c_Di_i (f:List V→List V→Int→Int) (q:List V→List V→Int→Prop):Contract:=fun
 |[.agg [.slc false 46 (.agg [.slc false 2 (.int .i64 0) []]) a0,.slc false 44 (.slc false 2 (.int .i64 0) []) a1],.int .i64 a2]=>some ([q a0 a1 a2],.int .i64 (f a0 a1 a2))
 |_=>none
def f_szC (bs ms:List V) (left:Int):Int:=bif decide (szSS (unBB bs) left<0) then-1 else szSS (unII ms) (szSS (unBB bs) left)
def q_C' (bs ms:List V):Prop:=IsBB false bs∧IsII false ms
def q_szC (bs ms:List V) (_:Int):Prop:=q_C' bs ms
set_option maxHeartbeats 1000000 in
set_option maxRecDepth 100000 in
theorem s_laws_szCurve:Sat Tryd.prog 4 (c_Di_i f_szC q_szC):=by
 intro args ps r h hp
 unfold c_Di_i at h
 split at h
 ·rename_i a0 a1 a2
  simp only [Option.some.injEq,Prod.mk.injEq] at h
  obtain ⟨rfl,rfl⟩:=h
  have hq:IsBB false a0∧IsII false a1:=(alls_cons.1 hp).1
  have g0:=frzs_BB hq.1
  have g1:=frzs_II hq.2
  have hf0:f_szC a0 a1 a2=bif decide (szSS (unBB a0) a2<0) then-1 else szSS (unII a1) (szSS (unBB a0) a2):=rfl
  generalize H_f_szBS:f_szBS=F_f_szBS
  generalize H_q_szBS:q_szBS=F_q_szBS
  generalize H_f_szSS:f_szSS=F_f_szSS
  generalize H_q_szSS:q_szSS=F_q_szSS
  refine fnOk_ofI (T:=tab) (B:=[(9,c_Ti_i F_f_szBS F_q_szBS),(10,c_mi_i F_f_szSS F_q_szSS)]) (Bi:=[]) [0,1,2,4] Tryd.func4 rfl rfl (by kernel_rfl) (Nat.le_of_ble_eq_true rfl) mixed tabOk (by subst H_f_szBS H_q_szBS H_f_szSS H_q_szSS;exact (bookCons s_laws_szBranchS (bookCons s_laws_szInt64SS bookNil))) (by subst H_f_szBS H_q_szBS H_f_szSS H_q_szSS;exact bookINil) (by kernel_rfl) ?_
  intro L lp rr hL hr hf hlp
  conv=>cbv
  simp only [stdEqs hL,g0,g1]
  subst H_f_szBS H_f_szSS H_q_szSS H_q_szBS
  refine ⟨hq.1,fun h=> ?_,fun h=>⟨hq.2,fun h2=> ?_,fun h2=> ?_⟩⟩
  ·have h':decide (szSS (unBB a0) a2<0)=true:=h
   rw [hr,hf0,h'];rfl
  ·have h':decide (szSS (unBB a0) a2<0)=false:=h
   have:=szSS_neg (l:=unII a1) (left:=szSS (unBB a0) a2) (of_decide_eq_true h2)
   rw [hr,hf0,h',cond_false,this]
  ·have h':decide (szSS (unBB a0) a2<0)=false:=h
   rw [hr,hf0,h'];rfl
 ·cases h
def c_T_S (f:List V→List V) (q:List V→Prop):Contract:=fun
 |[.slc false 46 (.agg [.slc false 2 (.int .i64 0) []]) a0]=>some ([q a0],.slc true 49 (.agg [.slc true 2 (.int .i64 0) []]) (f a0))
 |_=>none
def f_cpBS (es:List V):List V:=BB true (unBB es)
def IsBBs (es:List V):Prop:=∃xss,es=BB false xss∧xss.length≤2147483647∧∀xs∈xss,xs.length≤2147483647
theorem BB_replicate (o:Bool) (n:Nat) (xs:List Int):BB o (List.replicate n xs)=List.replicate n (.agg [.slc o 2 (.int .i64 0) (I xs)]):=by simp [BB,List.map_replicate]
set_option maxHeartbeats 1000000 in
set_option maxRecDepth 100000 in
theorem s_laws_toBranchS:Sat Tryd.prog 13 (c_T_S f_cpBS IsBBs):=by
 intro args ps r h hp
 unfold c_T_S at h
 split at h
 ·rename_i a0
  simp only [Option.some.injEq,Prod.mk.injEq] at h
  obtain ⟨rfl,rfl⟩:=h
  obtain ⟨xss,hes,hl1,hl2⟩:IsBBs a0:=(alls_cons.1 hp).1
  have hel:a0.length=xss.length:=by rw [hes,BB_length]
  have hf0:f_cpBS a0=BB true xss:=by rw [f_cpBS,hes,unBB_BB]
  generalize H_same:same=F_same
  generalize H_IsIs:IsIs=F_IsIs
  refine fnOk_ofI (T:=tab) (B:=[(26,c_b_b F_same F_IsIs)]) (Bi:=[]) [0,2,3,4] Tryd.func13 rfl rfl (by kernel_rfl) (Nat.le_of_ble_eq_true rfl) mixed tabOk (by subst H_same H_IsIs;exact (bookCons s_laws_toBranch bookNil)) (by subst H_same H_IsIs;exact bookINil) (by kernel_rfl) ?_
  intro L lp rr hL hr hf hlp
  conv=>cbv
  simp only [stdEqs hL,hel,true_and]
  refine ⟨by omega,by omega,by omega,?_⟩
  refine hlp (List V×Int) _ _ _ [0,3,4] (fun x=>[(0,none,.val (.slc false 46 (.agg [.slc false 2 (.int .i64 0) []]) a0)),(3,none,.val (.slc true 49 (.agg [.slc true 2 (.int .i64 0) []]) x.1)),(4,none,.val (.int .i64 x.2))])
   (fun x=>0≤x.2∧x.2≤xss.length∧x.1=BB true (xss.take x.2.toNat++List.replicate (xss.length-x.2.toNat) [])) (fun x=>(xss.length-x.2).toNat) ((_,0)) (by subst hL;rfl) ?_ ?_
  ·simp [BB_replicate]
  rintro ⟨es,i⟩ ⟨i0,i1,hI⟩ hfx ag hag
  conv=>cbv
  simp only at i0 i1 hI
  have hl:es.length=xss.length:=by rw [hI,BB_length];simp;omega
  subst hes
  simp only [stdEqs hL,hel,hl,BB_getD,ok_branL,ok_bran,toL_bran,ok_ints,toL_slc,fld_bran,I_frzs,imp_self,true_and,decide_eq_true_eq,decide_eq_false_iff_not]
  subst H_same H_IsIs
  refine ⟨fun h=> ?_,fun h=> ?_⟩
  ·have hm:xss.getD i.toNat []∈xss:=by
    rw [List.getD_eq_getElem?_getD,List.getElem?_eq_getElem (by omega)]
    exact List.getElem_mem _
   refine ⟨i0,by omega,⟨⟨_,rfl⟩,by rw [I_length];exact hl2 _ hm⟩,i0,by omega,by omega,by rw [hI,BB_getD];exact .inl (ok_bran _ _ _),?_⟩
   rw [wrap_id (n:=i+1) (by omega) (by omega)]
   refine hag (_,i+1) ⟨by simp only;omega,by simp only;omega,?_⟩ (by simp only;omega)
   simp only [toNat_succ i0,same]
   rw [hI,BB_set,fill_set [] [] (by omega)]
  ·rw [hr,hf0,hI,List.take_of_length_le (by omega),show xss.length-i.toNat=0 by omega]
   simp
 ·cases h
def c_D_C (f:List V→List V→List V×List V) (q:List V→List V→Prop):Contract:=fun
 |[.agg [.slc false 46 (.agg [.slc false 2 (.int .i64 0) []]) a0,.slc false 44 (.slc false 2 (.int .i64 0) []) a1]]=>some ([q a0 a1],.agg [.slc true 49 (.agg [.slc true 2 (.int .i64 0) []]) ((f a0 a1).1),.slc true 44 (.slc true 2 (.int .i64 0) []) ((f a0 a1).2)])
 |_=>none
def f_cpC (bs ms:List V):List V×List V:=(BB true (unBB bs),II true (unII ms))
def q_cpC (bs ms:List V):Prop:=IsBBs bs∧IsIIs ms
theorem IsBBs.isBB {es:List V} (h:IsBBs es):IsBB false es:=by
 obtain ⟨x,h,_⟩:=h
 exact ⟨x,h⟩
set_option maxHeartbeats 1000000 in
set_option maxRecDepth 100000 in
theorem s_laws_toCurve:Sat Tryd.prog 6 (c_D_C f_cpC q_cpC):=by
 intro args ps r h hp
 unfold c_D_C at h
 split at h
 ·rename_i a0 a1
  simp only [Option.some.injEq,Prod.mk.injEq] at h
  obtain ⟨rfl,rfl⟩:=h
  obtain ⟨h0,h1⟩:q_cpC a0 a1:=(alls_cons.1 hp).1
  have g0:=frzs_BB h0.isBB
  have g1:=frzs_II h1.isII
  have hf0:f_cpC a0 a1=(BB true (unBB a0),II true (unII a1)):=rfl
  generalize H_f_cpBS:f_cpBS=F_f_cpBS
  generalize H_IsBBs:IsBBs=F_IsBBs
  generalize H_f_cpSS:f_cpSS=F_f_cpSS
  generalize H_IsIIs:IsIIs=F_IsIIs
  refine fnOk_ofI (T:=tab) (B:=[(13,c_T_S F_f_cpBS F_IsBBs),(14,c_m_m F_f_cpSS F_IsIIs)]) (Bi:=[]) [0,1,2,3] Tryd.func6 rfl rfl (by kernel_rfl) (Nat.le_of_ble_eq_true rfl) mixed tabOk (by subst H_f_cpBS H_IsBBs H_f_cpSS H_IsIIs;exact (bookCons s_laws_toBranchS (bookCons s_laws_toInt64SS bookNil))) (by subst H_f_cpBS H_IsBBs H_f_cpSS H_IsIIs;exact bookINil) (by kernel_rfl) ?_
  intro L lp rr hL hr hf hlp
  conv=>cbv
  simp only [stdEqs hL,g0,g1]
  subst H_f_cpBS H_IsBBs H_f_cpSS H_IsIIs
  rw [hr,hf0]
  exact ⟨h0,h1,rfl⟩
 ·cases h
end Go.Ax
