import Derived.Test.YtfkccembpjogoaaB04g2
import Derived.Test.YtfkccembpjogoaaAxP4g2
import Derived.Test.YtfkccembpjogoaaB02g2
/-
 Sums over proximate points:impl.added with the function one. No conditions but those of the contracts.
-/
set_option linter.all false
namespace Go.Ax
open Go.Proofs
def c_n_i5 (f:Int→Int) (q:Int→Prop):Contract:=fun
 |[.int .i64 a0]=>some ([q a0],.int .i64 (f a0))
 |_=>none
def f_one5 (_:Int):Int:=1
def alw5 (_:Int):Prop:=True
set_option maxHeartbeats 1000000 in
set_option maxRecDepth 100000 in
theorem s_impl_one:Sat Try.prog 124 (c_n_i5 f_one5 alw5):=by
 intro args ps r h hp
 unfold c_n_i5 at h
 split at h
 ·rename_i v
  simp only [Option.some.injEq,Prod.mk.injEq] at h
  obtain ⟨rfl,rfl⟩:=h
  have hf0:f_one5 v=1:=rfl
  refine fnOk_ofI (T:=tab) (B:=[]) (Bi:=[]) [2] Try.func124 rfl rfl (by kernel_rfl) (Nat.le_of_ble_eq_true rfl) mixed tabOk (by exact bookNil) (by exact bookINil) (by kernel_rfl) ?_
  intro L lp rr hL hr hf hlp
  conv=>cbv
  try simp only [stdEqs hL]
  rw [hr,hf0]
 ·cases h
def c_mf_l (f:List V→List V) (q:List V→Nat→List V→Prop):Contract:=fun
 |[.slc false 24 (.slc false 2 (.int .i64 0) []) a0,.fn k cs]=>some ([q a0 k cs],.slc true 2 (.int .i64 0) (f a0))
 |_=>none
def PrOk (pr:List (List Int)):Prop:=pr.length≤1000∧∀j,j<pr.length→(pr.getD j []).length≤1000∧∀x∈pr.getD j [],0≤x∧x<j
def q_add1 (a:List V) (k:Nat) (cs:List V):Prop:=(∃pr,a=II false pr∧PrOk pr)∧k= 124 ∧cs=[]
def f_add1 (a:List V):List V:=I (addN (unII a) (fun _=>1) a.length)
set_option maxHeartbeats 1000000 in
set_option maxRecDepth 100000 in
theorem s_added1:Sat Try.prog 61 (c_mf_l f_add1 q_add1):=by
 intro args ps r h hp
 unfold c_mf_l at h
 split at h
 ·rename_i a0 k cs
  simp only [Option.some.injEq,Prod.mk.injEq] at h
  obtain ⟨rfl,rfl⟩:=h
  obtain ⟨⟨pr,hpr,hok⟩,hk,hcs⟩:q_add1 a0 k cs:=(alls_cons.1 hp).1
  subst hk hcs
  obtain ⟨n,hn⟩:∃n:Int,n=a0.length:=⟨_,rfl⟩
  have hal:a0.length=pr.length:=by rw [hpr,II_length]
  have gx:∀k,a0.getD k (.slc false 2 (.int .i64 0) [])= .slc false 2 (.int .i64 0) (I (pr.getD k [])):=fun k=>by rw [hpr,II_getD]
  have hf0:f_add1 a0=I (addN pr (fun _=>1) pr.length):=by rw [f_add1,hal,hpr,unII_II]
  generalize H_f_one5:f_one5=F_f_one5
  generalize H_alw5:alw5=F_alw5
  refine fnOk_ofI (T:=tab) (B:=[(124,c_n_i5 F_f_one5 F_alw5)]) (Bi:=[]) [0,1,4,5,6,7,8,10,12,13,14,22,23,24] Try.func61 rfl rfl (by kernel_rfl) (Nat.le_of_ble_eq_true rfl) mixed tabOk (by subst H_f_one5 H_alw5;exact (bookCons s_impl_one bookNil)) (by subst H_f_one5 H_alw5;exact bookINil) (by kernel_rfl) ?_
  intro L lp rr hL hr hf hlp
  conv=>cbv
  simp only [stdEqs hL,imp_self,true_and,and_true,bif_or,bif_and,Bool.or_eq_true,Bool.or_eq_false_iff,Bool.and_eq_true,Bool.and_eq_false_iff,decide_eq_true_eq,decide_eq_false_iff_not,Bool.not_eq_true',Bool.not_eq_false',beq_iff_eq,beq_eq_false_iff_ne,ne_eq,toNat0,toNat1,ok_int,toI_int,I_frzs,I_length,I_getD,ok_ints,toL_slc,←hn]
  refine hlp (List V×Int) _ _ _ [1,5,12,13,14] (fun x=>[(1,none,.val (.fn 124 [])),(5,none,.val (.slc true 2 (.int .i64 0) x.1)),(12,none,.val (.slc false 24 (.slc false 2 (.int .i64 0) []) a0)),(13,none,.val (.int .i64 n)),(14,none,.val (.int .i64 x.2))])
   (fun x=>0≤x.2∧x.2≤n∧x.1=I (addN pr (fun _=>1) x.2.toNat)) (fun x=>(n-x.2).toNat) (([],0)) (by subst hL;rfl) ?_ ?_
  ·exact ⟨by simp,by simp only;omega,rfl⟩
  rintro ⟨os,j⟩ ⟨j0,j1,hO⟩ hfx ag hag
  simp only at j0 j1 hO
  conv=>cbv
  simp only [stdEqs hL,imp_self,true_and,and_true,bif_or,bif_and,Bool.or_eq_true,Bool.or_eq_false_iff,Bool.and_eq_true,Bool.and_eq_false_iff,decide_eq_true_eq,decide_eq_false_iff_not,Bool.not_eq_true',Bool.not_eq_false',beq_iff_eq,beq_eq_false_iff_ne,ne_eq,toNat0,toNat1,ok_int,toI_int,I_frzs,I_length,I_getD,ok_ints,toL_slc,←hn,gx]
  subst H_alw5 H_f_one5
  refine ⟨fun h2=>⟨j0,h2,trivial,?_⟩,fun h2=> ?_⟩
  ·have hj:j.toNat<pr.length:=by omega
   have hok1:=hok.1
   obtain ⟨hrl,hrx⟩:=hok.2 j.toNat hj
   obtain ⟨xs,hxs⟩:∃xs,xs=pr.getD j.toNat []:=⟨_,rfl⟩
   obtain ⟨row,hrow⟩:∃row,row=I xs:=⟨_,rfl⟩
   obtain ⟨m,hm⟩:∃m:Int,m=xs.length:=⟨_,rfl⟩
   rw [←hxs] at hrl hrx
   have grow:∀k,row.getD k (.int .i64 0)= .int .i64 (xs.getD k 0):=fun k=>by rw [hrow,I_getD]
   have hrwl:row.length=xs.length:=by rw [hrow,I_length]
   have gos:∀k,os.getD k (.int .i64 0)= .int .i64 ((addN pr (fun _=>1) j.toNat).getD k 0):=fun k=>by rw [hO,I_getD]
   have hol:os.length=j.toNat:=by rw [hO,I_length,addN_len]
   rw [←hxs,←hrow,←hm]
   refine hlp (Int×Int) _ _ _ [1,5,6,7,8,12,13,14,22,23,24] (fun y=>[(1,none,.val (.fn 124 [])),(5,none,.val (.slc true 2 (.int .i64 0) os)),(6,none,.val (.int .i64 j)),(7,none,.val (.slc false 2 (.int .i64 0) row)),(8,none,.val (.int .i64 y.1)),(12,none,.val (.slc false 24 (.slc false 2 (.int .i64 0) []) a0)),(13,none,.val (.int .i64 n)),(14,none,.val (.int .i64 j)),(22,none,.val (.slc false 2 (.int .i64 0) row)),(23,none,.val (.int .i64 m)),(24,none,.val (.int .i64 y.2))])
    (fun y=>0≤y.2∧y.2≤m∧y.1=(xs.take y.2.toNat).foldl (fun n i=>W (n+(addN pr (fun _=>1) j.toNat).getD i.toNat 0)) 1) (fun y=>(m-y.2).toNat) ((1,0)) (by subst hL;rfl) ?_ ?_
   ·exact ⟨by simp,by simp only;omega,rfl⟩
   rintro ⟨v,i⟩ ⟨i0,i1,hv⟩ hfx2 ag2 hag2
   simp only at i0 i1 hv
   conv=>cbv
   simp only [stdEqs hL,imp_self,true_and,and_true,bif_or,bif_and,Bool.or_eq_true,Bool.or_eq_false_iff,Bool.and_eq_true,Bool.and_eq_false_iff,decide_eq_true_eq,decide_eq_false_iff_not,Bool.not_eq_true',Bool.not_eq_false',beq_iff_eq,beq_eq_false_iff_ne,ne_eq,toNat0,toNat1,ok_int,toI_int,I_frzs,I_length,I_getD,ok_ints,toL_slc,grow,gos,hol,hrwl,←hm]
   refine ⟨fun h4=> ?_,fun h4=> ?_⟩
   ·have hx:=hrx (xs.getD i.toNat 0) (by rw [List.getD_eq_getElem?_getD,List.getElem?_eq_getElem (by omega)];exact List.getElem_mem _)
    have h5:i.toNat<xs.length:=by omega
    rw [wrap_id (n:=i+1) (by omega) (by omega)]
    refine ⟨i0,h4,hx.1,by omega,by omega,?_⟩
    refine hag2 (_,i+1) ⟨by simp only;omega,by simp only;omega,?_⟩ (by simp only;omega)
    simp only
    rw [show (i+1).toNat=i.toNat+1 by omega,List.take_succ_eq_append_getElem h5,List.foldl_append,←hv,List.getD_eq_getElem?_getD (l:=xs),List.getElem?_eq_getElem h5]
    rfl
   ·rw [wrap_id (n:=j+1) (by omega) (by omega)]
    refine ⟨rfl,by simp only [List.length_cons,List.length_nil];omega,fun x hx=>by (simp only [List.mem_singleton] at hx;subst hx;rfl),?_⟩
    refine hag (_,j+1) ⟨by simp only;omega,by simp only;omega,?_⟩ (by simp only;omega)
    simp only
    rw [List.take_of_length_le (by omega)] at hv
    rw [show (j+1).toNat=j.toNat+1 by omega,addN,←I_append,hO,hv,←hxs]
    rfl
  ·rw [hr,hf0,hO,show j.toNat=pr.length by omega]
 ·cases h
end Go.Ax
set_option linter.all false
namespace Go.Ax
open Go.Proofs
def c_K_l5 (f:List V→List V→List V→List V) (q:List V→List V→List V→Prop):Contract:=fun
 |[.agg [.slc false 2 (.int .i64 0) a0,.slc false 2 (.int .i64 0) a1,.slc false 2 (.int .i64 0) a2]]=>some ([q a0 a1 a2],.slc true 2 (.int .i64 0) (f a0 a1 a2))
 |_=>none
def c_K_li5 (f:List V→List V→List V→List V×Int) (q:List V→List V→List V→Prop):Contract:=fun
 |[.agg [.slc false 2 (.int .i64 0) a0,.slc false 2 (.int .i64 0) a1,.slc false 2 (.int .i64 0) a2]]=>some ([q a0 a1 a2],.tup [.slc true 2 (.int .i64 0) ((f a0 a1 a2).1),.int .i64 ((f a0 a1 a2).2)])
 |_=>none
theorem cpx_ok {P S Q:List Int} (h:ClP P S Q):PrOk (cpx P S P.length P.length):=by
 have n24:=h.n24
 have hl:(cpx P S P.length P.length).length=P.length:=tab_len _ _
 refine ⟨by omega,fun j hj=> ?_⟩
 rw [hl] at hj
 have e:(cpx P S P.length P.length).getD j []=proxs P S j:=by rw [cpx,tab_get _ _ _ _ hj,if_pos hj]
 obtain ⟨l1,l2,l3,l4,l5,l6⟩:=h.low hj
 rw [e,proxs]
 by_cases h0:j=0
 ·rw [if_pos h0];simp
 ·rw [if_neg h0]
  by_cases h1:0≤S.getD j 0
  ·rw [if_pos h1]
   refine ⟨by simp,fun x hx=> ?_⟩
   simp only [List.cons_append,List.nil_append,List.mem_cons,List.not_mem_nil,or_false] at hx
   have:=l4 (by omega)
   have:=l5 (by omega)
   rcases hx with e|e<;>omega
  ·rw [if_neg h1]
   refine ⟨by simp,fun x hx=> ?_⟩
   simp only [List.nil_append,List.mem_cons,List.not_mem_nil,or_false] at hx
   have:=l5 (by omega)
   omega
def f_dsc (a b _:List V):List V:=I (addN (cpx (unI a) (unI b) a.length a.length) (fun _=>1) a.length)
set_option maxHeartbeats 1000000 in
set_option maxRecDepth 100000 in
theorem s_impl_discrepancies:Sat Try.prog 68 (c_K_l5 f_dsc q_Kv):=by
 intro args ps r h hp
 unfold c_K_l5 at h
 split at h
 ·rename_i a0 a1 a2
  simp only [Option.some.injEq,Prod.mk.injEq] at h
  obtain ⟨rfl,rfl⟩:=h
  have hqv:q_Kv a0 a1 a2:=(alls_cons.1 hp).1
  obtain ⟨⟨⟨P,hP⟩,⟨S,hS⟩,⟨Q,hQ⟩⟩,hcl⟩:=id hqv
  rw [hP,hS,hQ,unI_I,unI_I,unI_I] at hcl
  have g0:=hqv.1.1.frz
  have g1:=hqv.1.2.1.frz
  have g2:=hqv.1.2.2.frz
  have hpl:a0.length=P.length:=by rw [hP,I_length]
  have e1:V.frzs (f_cpx a0 a1 a2)=II false (cpx P S P.length P.length):=by rw [f_cpx,hpl,hP,hS,unI_I,unI_I,II_frzs]
  have e2:f_add1 (II false (cpx P S P.length P.length))=f_dsc a0 a1 a2:=by rw [f_add1,unII_II,II_length,show (cpx P S P.length P.length).length=P.length from tab_len _ _,f_dsc,hpl,hP,hS,unI_I,unI_I]
  generalize H_f_cpx:f_cpx=F_f_cpx
  generalize H_q_Kv:q_Kv=F_q_Kv
  generalize H_f_add1:f_add1=F_f_add1
  generalize H_q_add1:q_add1=F_q_add1
  refine fnOk_ofI (T:=tab) (B:=[(92,c_K_m F_f_cpx F_q_Kv),(61,c_mf_l F_f_add1 F_q_add1)]) (Bi:=[]) [0,1,2] Try.func68 rfl rfl (by kernel_rfl) (Nat.le_of_ble_eq_true rfl) mixed tabOk (by subst H_f_cpx H_q_Kv H_f_add1 H_q_add1;exact (bookCons s_impl_clusterProximates (bookCons s_added1 bookNil))) (by subst H_f_cpx H_q_Kv H_f_add1 H_q_add1;exact bookINil) (by kernel_rfl) ?_
  intro L lp rr hL hr hf hlp
  conv=>cbv
  simp only [stdEqs hL,imp_self,true_and,and_true,bif_or,bif_and,Bool.or_eq_true,Bool.or_eq_false_iff,Bool.and_eq_true,Bool.and_eq_false_iff,decide_eq_true_eq,decide_eq_false_iff_not,Bool.not_eq_true',Bool.not_eq_false',beq_iff_eq,beq_eq_false_iff_ne,ne_eq,toNat0,toNat1,ok_int,toI_int,I_frzs,I_length,I_getD,ok_ints,toL_slc,g0,g1,g2]
  subst H_f_cpx H_q_Kv H_f_add1 H_q_add1
  rw [e1,e2]
  exact ⟨hqv,⟨⟨_,rfl,cpx_ok hcl⟩,rfl,rfl⟩,I_noFzs _,hr.symm⟩
 ·cases h
noncomputable def f_PD (a b c:List V):List V×Int:=bif f_isCl a b c then (f_dsc a b c,0) else ([],1)
set_option maxHeartbeats 1000000 in
set_option maxRecDepth 100000 in
theorem s_impl_PointDiscrepancies:Sat Try.prog 17 (c_K_li5 f_PD q_K):=by
 intro args ps r h hp
 unfold c_K_li5 at h
 split at h
 ·rename_i a0 a1 a2
  simp only [Option.some.injEq,Prod.mk.injEq] at h
  obtain ⟨rfl,rfl⟩:=h
  have hq:q_K a0 a1 a2:=(alls_cons.1 hp).1
  have g0:=hq.1.frz
  have g1:=hq.2.1.frz
  have g2:=hq.2.2.frz
  generalize H_f_isCl:f_isCl=F_f_isCl
  generalize H_q_K:q_K=F_q_K
  generalize H_f_dsc:f_dsc=F_f_dsc
  generalize H_q_Kv:q_Kv=F_q_Kv
  refine fnOk_ofI (T:=tab) (B:=[(63,c_K_b F_f_isCl F_q_K),(68,c_K_l5 F_f_dsc F_q_Kv)]) (Bi:=[]) [0,1,2,3] Try.func17 rfl rfl (by kernel_rfl) (Nat.le_of_ble_eq_true rfl) mixed tabOk (by subst H_f_isCl H_q_K H_f_dsc H_q_Kv;exact (bookCons s_impl_IsCluster (bookCons s_impl_discrepancies bookNil))) (by subst H_f_isCl H_q_K H_f_dsc H_q_Kv;exact bookINil) (by kernel_rfl) ?_
  intro L lp rr hL hr hf hlp
  conv=>cbv
  simp only [stdEqs hL,imp_self,true_and,and_true,bif_or,bif_and,Bool.or_eq_true,Bool.or_eq_false_iff,Bool.and_eq_true,Bool.and_eq_false_iff,decide_eq_true_eq,decide_eq_false_iff_not,Bool.not_eq_true',Bool.not_eq_false',beq_iff_eq,beq_eq_false_iff_ne,ne_eq,toNat0,toNat1,ok_int,toI_int,I_frzs,I_length,I_getD,ok_ints,toL_slc,g0,g1,g2]
  subst H_f_isCl H_q_K H_f_dsc H_q_Kv
  refine ⟨hq,fun h=> ?_,fun h=>⟨q_Kv_of hq h,?_⟩⟩
  ·rw [hr,f_PD,h];rfl
  ·rw [hr,f_PD,h];rfl
 ·cases h
end Go.Ax
set_option linter.all false
namespace Go.Ax
open Go.Proofs
def f_at5 (j:Int) (m:List V):Int:=(unI m).getD j.toNat 0
def q_at5 (j:Int) (m:List V):Prop:=IsI m∧0≤j∧j<m.length
def c_jl_i (f:Int→List V→Int) (q:Int→List V→Prop):Contract:=fun
 |[.int .i64 j,.fn 1000000000 [.slc false 2 (.int .i64 0) m]]=>some ([q j m],.int .i64 (f j m))
 |_=>none
def f_at6 (j:Int) (_ _ m:List V):Int:=(unI m).getD j.toNat 0
def q_at6 (j:Int) (_ _ m:List V):Prop:=IsI m∧0≤j∧j<m.length
def c_jK_i (f:Int→List V→List V→List V→Int) (q:Int→List V→List V→List V→Prop):Contract:=fun
 |[.int .i64 j,.fn 1000000000 [.agg [.slc false 2 (.int .i64 0) a,.slc false 2 (.int .i64 0) b,.slc false 2 (.int .i64 0) m]]]=>some ([q j a b m],.int .i64 (f j a b m))
 |_=>none
set_option maxHeartbeats 1000000 in
set_option maxRecDepth 100000 in
theorem s_ord1:Sat Try.prog 62 (c_jl_i f_at5 q_at5):=by
 intro args ps r h hp
 unfold c_jl_i at h
 split at h
 ·rename_i j m
  simp only [Option.some.injEq,Prod.mk.injEq] at h
  obtain ⟨rfl,rfl⟩:=h
  obtain ⟨⟨xs,hx⟩,j0,j1⟩:q_at5 j m:=(alls_cons.1 hp).1
  have gm:∀k,m.getD k (.int .i64 0)= .int .i64 (xs.getD k 0):=fun k=>by rw [hx,I_getD]
  have hf0:f_at5 j m=xs.getD j.toNat 0:=by rw [f_at5,hx,unI_I]
  refine fnOk_ofI (T:=tab) (B:=[]) (Bi:=[]) [0,1,3] Try.func62 rfl rfl (by kernel_rfl) (Nat.le_of_ble_eq_true rfl) mixed tabOk (by exact bookNil) (by exact bookINil) (by kernel_rfl) ?_
  intro L lp rr hL hr hf hlp
  conv=>cbv
  simp only [stdEqs hL,imp_self,true_and,and_true,bif_or,bif_and,Bool.or_eq_true,Bool.or_eq_false_iff,Bool.and_eq_true,Bool.and_eq_false_iff,decide_eq_true_eq,decide_eq_false_iff_not,Bool.not_eq_true',Bool.not_eq_false',beq_iff_eq,beq_eq_false_iff_ne,ne_eq,toNat0,toNat1,ok_int,toI_int,I_frzs,I_length,I_getD,ok_ints,toL_slc,gm]
  exact ⟨j0,j1,by rw [hr,hf0]⟩
 ·cases h
set_option maxHeartbeats 1000000 in
set_option maxRecDepth 100000 in
theorem s_cor1:Sat Try.prog 120 (c_jK_i f_at6 q_at6):=by
 intro args ps r h hp
 unfold c_jK_i at h
 split at h
 ·rename_i j a b m
  simp only [Option.some.injEq,Prod.mk.injEq] at h
  obtain ⟨rfl,rfl⟩:=h
  obtain ⟨⟨xs,hx⟩,j0,j1⟩:q_at6 j a b m:=(alls_cons.1 hp).1
  have gm:∀k,m.getD k (.int .i64 0)= .int .i64 (xs.getD k 0):=fun k=>by rw [hx,I_getD]
  have hf0:f_at6 j a b m=xs.getD j.toNat 0:=by rw [f_at6,hx,unI_I]
  refine fnOk_ofI (T:=tab) (B:=[]) (Bi:=[]) [0,1,3] Try.func120 rfl rfl (by kernel_rfl) (Nat.le_of_ble_eq_true rfl) mixed tabOk (by exact bookNil) (by exact bookINil) (by kernel_rfl) ?_
  intro L lp rr hL hr hf hlp
  conv=>cbv
  simp only [stdEqs hL,imp_self,true_and,and_true,bif_or,bif_and,Bool.or_eq_true,Bool.or_eq_false_iff,Bool.and_eq_true,Bool.and_eq_false_iff,decide_eq_true_eq,decide_eq_false_iff_not,Bool.not_eq_true',Bool.not_eq_false',beq_iff_eq,beq_eq_false_iff_ne,ne_eq,toNat0,toNat1,ok_int,toI_int,I_frzs,I_length,I_getD,ok_ints,toL_slc,gm]
  exact ⟨j0,j1,by rw [hr,hf0]⟩
 ·cases h
def c_mf_l2 (f:List V→Nat→List V→List V) (q:List V→Nat→List V→Prop):Contract:=fun
 |[.slc false 24 (.slc false 2 (.int .i64 0) []) a0,.fn k cs]=>some ([q a0 k cs],.slc true 2 (.int .i64 0) (f a0 k cs))
 |_=>none
def q_add2 (a:List V) (k:Nat) (cs:List V):Prop:=∃pr m xs,a=II false pr∧PrOk pr∧k= 62 ∧cs=[.fn 1000000000 [.slc false 2 (.int .i64 0) m]]∧m=I xs∧pr.length≤xs.length
def f_add2 (a:List V) (_:Nat):List V→List V
 |[.fn _ [.slc _ _ _ m]]=>I (addN (unII a) (fun j=>(unI m).getD j 0) a.length)
 |_=>[]
set_option maxHeartbeats 1000000 in
set_option maxRecDepth 100000 in
theorem s_added2:Sat Try.prog 61 (c_mf_l2 f_add2 q_add2):=by
 intro args ps r h hp
 unfold c_mf_l2 at h
 split at h
 ·rename_i a0 k cs
  simp only [Option.some.injEq,Prod.mk.injEq] at h
  obtain ⟨rfl,rfl⟩:=h
  obtain ⟨pr,m,xs,hpr,hok,hk,hcs,hm,hlen⟩:q_add2 a0 k cs:=(alls_cons.1 hp).1
  subst hk hcs
  obtain ⟨n,hn⟩:∃n:Int,n=a0.length:=⟨_,rfl⟩
  have hal:a0.length=pr.length:=by rw [hpr,II_length]
  have gx:∀k,a0.getD k (.slc false 2 (.int .i64 0) [])= .slc false 2 (.int .i64 0) (I (pr.getD k [])):=fun k=>by rw [hpr,II_getD]
  have hf0:f_add2 a0 62 [.fn 1000000000 [.slc false 2 (.int .i64 0) m]]=I (addN pr (fun j=>xs.getD j 0) pr.length):=by rw [f_add2,hal,hpr,unII_II,hm,unI_I]
  have hml:m.length=xs.length:=by rw [hm,I_length]
  obtain ⟨wf,hwf⟩:∃wf:Nat→Int,wf=fun j=>xs.getD j 0:=⟨_,rfl⟩
  rw [←hwf] at hf0
  have hat:∀j,f_at5 j m=wf j.toNat:=fun j=>by rw [f_at5,hm,unI_I,hwf]
  have him:IsI m:=⟨xs,hm⟩
  generalize H_f_at5:f_at5=F_f_at5
  generalize H_q_at5:q_at5=F_q_at5
  refine fnOk_ofI (T:=tab) (B:=[(62,c_jl_i F_f_at5 F_q_at5)]) (Bi:=[]) [0,1,4,5,6,7,8,10,12,13,14,22,23,24] Try.func61 rfl rfl (by kernel_rfl) (Nat.le_of_ble_eq_true rfl) mixed tabOk (by subst H_f_at5 H_q_at5;exact (bookCons s_ord1 bookNil)) (by subst H_f_at5 H_q_at5;exact bookINil) (by kernel_rfl) ?_
  intro L lp rr hL hr hf hlp
  conv=>cbv
  simp only [stdEqs hL,imp_self,true_and,and_true,bif_or,bif_and,Bool.or_eq_true,Bool.or_eq_false_iff,Bool.and_eq_true,Bool.and_eq_false_iff,decide_eq_true_eq,decide_eq_false_iff_not,Bool.not_eq_true',Bool.not_eq_false',beq_iff_eq,beq_eq_false_iff_ne,ne_eq,toNat0,toNat1,ok_int,toI_int,I_frzs,I_length,I_getD,ok_ints,toL_slc,←hn]
  refine hlp (List V×Int) _ _ _ [1,5,12,13,14] (fun x=>[(1,none,.val (.fn 62 [(.fn 1000000000 [.slc false 2 (.int .i64 0) m])])),(5,none,.val (.slc true 2 (.int .i64 0) x.1)),(12,none,.val (.slc false 24 (.slc false 2 (.int .i64 0) []) a0)),(13,none,.val (.int .i64 n)),(14,none,.val (.int .i64 x.2))])
   (fun x=>0≤x.2∧x.2≤n∧x.1=I (addN pr wf x.2.toNat)) (fun x=>(n-x.2).toNat) (([],0)) (by subst hL;rfl) ?_ ?_
  ·exact ⟨by simp,by simp only;omega,rfl⟩
  rintro ⟨os,j⟩ ⟨j0,j1,hO⟩ hfx ag hag
  simp only at j0 j1 hO
  conv=>cbv
  simp only [stdEqs hL,imp_self,true_and,and_true,bif_or,bif_and,Bool.or_eq_true,Bool.or_eq_false_iff,Bool.and_eq_true,Bool.and_eq_false_iff,decide_eq_true_eq,decide_eq_false_iff_not,Bool.not_eq_true',Bool.not_eq_false',beq_iff_eq,beq_eq_false_iff_ne,ne_eq,toNat0,toNat1,ok_int,toI_int,I_frzs,I_length,I_getD,ok_ints,toL_slc,←hn,gx]
  subst H_q_at5 H_f_at5
  refine ⟨fun h2=>⟨j0,h2,⟨him,j0,by omega⟩,?_⟩,fun h2=> ?_⟩
  ·have hj:j.toNat<pr.length:=by omega
   have hok1:=hok.1
   obtain ⟨hrl,hrx⟩:=hok.2 j.toNat hj
   obtain ⟨ys,hys⟩:∃ys,ys=pr.getD j.toNat []:=⟨_,rfl⟩
   obtain ⟨row,hrow⟩:∃row,row=I ys:=⟨_,rfl⟩
   obtain ⟨ml,hml2⟩:∃ml:Int,ml=ys.length:=⟨_,rfl⟩
   obtain ⟨v0,hv0⟩:∃v0:Int,v0=wf j.toNat:=⟨_,rfl⟩
   rw [←hys] at hrl hrx
   have grow:∀k,row.getD k (.int .i64 0)= .int .i64 (ys.getD k 0):=fun k=>by rw [hrow,I_getD]
   have hrwl:row.length=ys.length:=by rw [hrow,I_length]
   have gos:∀k,os.getD k (.int .i64 0)= .int .i64 ((addN pr wf j.toNat).getD k 0):=fun k=>by rw [hO,I_getD]
   have hol:os.length=j.toNat:=by rw [hO,I_length,addN_len]
   rw [hat,←hys,←hrow,←hml2,←hv0]
   refine hlp (Int×Int) _ _ _ [1,5,6,7,8,12,13,14,22,23,24] (fun y=>[(1,none,.val (.fn 62 [(.fn 1000000000 [.slc false 2 (.int .i64 0) m])])),(5,none,.val (.slc true 2 (.int .i64 0) os)),(6,none,.val (.int .i64 j)),(7,none,.val (.slc false 2 (.int .i64 0) row)),(8,none,.val (.int .i64 y.1)),(12,none,.val (.slc false 24 (.slc false 2 (.int .i64 0) []) a0)),(13,none,.val (.int .i64 n)),(14,none,.val (.int .i64 j)),(22,none,.val (.slc false 2 (.int .i64 0) row)),(23,none,.val (.int .i64 ml)),(24,none,.val (.int .i64 y.2))])
    (fun y=>0≤y.2∧y.2≤ml∧y.1=(ys.take y.2.toNat).foldl (fun n i=>W (n+(addN pr wf j.toNat).getD i.toNat 0)) v0) (fun y=>(ml-y.2).toNat) ((v0,0)) (by subst hL;rfl) ?_ ?_
   ·exact ⟨by simp,by simp only;omega,rfl⟩
   rintro ⟨v,i⟩ ⟨i0,i1,hv⟩ hfx2 ag2 hag2
   simp only at i0 i1 hv
   conv=>cbv
   simp only [stdEqs hL,imp_self,true_and,and_true,bif_or,bif_and,Bool.or_eq_true,Bool.or_eq_false_iff,Bool.and_eq_true,Bool.and_eq_false_iff,decide_eq_true_eq,decide_eq_false_iff_not,Bool.not_eq_true',Bool.not_eq_false',beq_iff_eq,beq_eq_false_iff_ne,ne_eq,toNat0,toNat1,ok_int,toI_int,I_frzs,I_length,I_getD,ok_ints,toL_slc,grow,gos,hol,hrwl,←hml2]
   refine ⟨fun h4=> ?_,fun h4=> ?_⟩
   ·have hx:=hrx (ys.getD i.toNat 0) (by rw [List.getD_eq_getElem?_getD,List.getElem?_eq_getElem (by omega)];exact List.getElem_mem _)
    have h5:i.toNat<ys.length:=by omega
    rw [wrap_id (n:=i+1) (by omega) (by omega)]
    refine ⟨i0,h4,hx.1,by omega,by omega,?_⟩
    refine hag2 (_,i+1) ⟨by simp only;omega,by simp only;omega,?_⟩ (by simp only;omega)
    simp only
    rw [show (i+1).toNat=i.toNat+1 by omega,List.take_succ_eq_append_getElem h5,List.foldl_append,←hv,List.getD_eq_getElem?_getD (l:=ys),List.getElem?_eq_getElem h5]
    rfl
   ·rw [wrap_id (n:=j+1) (by omega) (by omega)]
    refine ⟨rfl,by simp only [List.length_cons,List.length_nil];omega,fun x hx=>by (simp only [List.mem_singleton] at hx;subst hx;rfl),?_⟩
    refine hag (_,j+1) ⟨by simp only;omega,by simp only;omega,?_⟩ (by simp only;omega)
    simp only
    rw [List.take_of_length_le (by omega)] at hv
    rw [show (j+1).toNat=j.toNat+1 by omega,addN,←I_append,hO,hv,←hys,hv0]
    rfl
  ·rw [hr,hf0,hO,show j.toNat=pr.length by omega]
 ·cases h
def q_add3 (a:List V) (k:Nat) (cs:List V):Prop:=∃pr p s m xs,a=II false pr∧PrOk pr∧k= 120 ∧cs=[.fn 1000000000 [.agg [.slc false 2 (.int .i64 0) p,.slc false 2 (.int .i64 0) s,.slc false 2 (.int .i64 0) m]]]∧m=I xs∧pr.length≤xs.length
def f_add3 (a:List V) (_:Nat):List V→List V
 |[.fn _ [.agg [_,_,.slc _ _ _ m]]]=>I (addN (unII a) (fun j=>(unI m).getD j 0) a.length)
 |_=>[]
set_option maxHeartbeats 1000000 in
set_option maxRecDepth 100000 in
theorem s_added3:Sat Try.prog 61 (c_mf_l2 f_add3 q_add3):=by
 intro args ps r h hp
 unfold c_mf_l2 at h
 split at h
 ·rename_i a0 k cs
  simp only [Option.some.injEq,Prod.mk.injEq] at h
  obtain ⟨rfl,rfl⟩:=h
  obtain ⟨pr,p,s,m,xs,hpr,hok,hk,hcs,hm,hlen⟩:q_add3 a0 k cs:=(alls_cons.1 hp).1
  subst hk hcs
  obtain ⟨n,hn⟩:∃n:Int,n=a0.length:=⟨_,rfl⟩
  have hal:a0.length=pr.length:=by rw [hpr,II_length]
  have gx:∀k,a0.getD k (.slc false 2 (.int .i64 0) [])= .slc false 2 (.int .i64 0) (I (pr.getD k [])):=fun k=>by rw [hpr,II_getD]
  have hf0:f_add3 a0 120 [.fn 1000000000 [.agg [.slc false 2 (.int .i64 0) p,.slc false 2 (.int .i64 0) s,.slc false 2 (.int .i64 0) m]]]=I (addN pr (fun j=>xs.getD j 0) pr.length):=by rw [f_add3,hal,hpr,unII_II,hm,unI_I]
  have hml:m.length=xs.length:=by rw [hm,I_length]
  obtain ⟨wf,hwf⟩:∃wf:Nat→Int,wf=fun j=>xs.getD j 0:=⟨_,rfl⟩
  rw [←hwf] at hf0
  have hat:∀j,f_at6 j p s m=wf j.toNat:=fun j=>by rw [f_at6,hm,unI_I,hwf]
  have him:IsI m:=⟨xs,hm⟩
  generalize H_f_at6:f_at6=F_f_at6
  generalize H_q_at6:q_at6=F_q_at6
  refine fnOk_ofI (T:=tab) (B:=[(120,c_jK_i F_f_at6 F_q_at6)]) (Bi:=[]) [0,1,4,5,6,7,8,10,12,13,14,22,23,24] Try.func61 rfl rfl (by kernel_rfl) (Nat.le_of_ble_eq_true rfl) mixed tabOk (by subst H_f_at6 H_q_at6;exact (bookCons s_cor1 bookNil)) (by subst H_f_at6 H_q_at6;exact bookINil) (by kernel_rfl) ?_
  intro L lp rr hL hr hf hlp
  conv=>cbv
  simp only [stdEqs hL,imp_self,true_and,and_true,bif_or,bif_and,Bool.or_eq_true,Bool.or_eq_false_iff,Bool.and_eq_true,Bool.and_eq_false_iff,decide_eq_true_eq,decide_eq_false_iff_not,Bool.not_eq_true',Bool.not_eq_false',beq_iff_eq,beq_eq_false_iff_ne,ne_eq,toNat0,toNat1,ok_int,toI_int,I_frzs,I_length,I_getD,ok_ints,toL_slc,←hn]
  refine hlp (List V×Int) _ _ _ [1,5,12,13,14] (fun x=>[(1,none,.val (.fn 120 [(.fn 1000000000 [.agg [.slc false 2 (.int .i64 0) p,.slc false 2 (.int .i64 0) s,.slc false 2 (.int .i64 0) m]])])),(5,none,.val (.slc true 2 (.int .i64 0) x.1)),(12,none,.val (.slc false 24 (.slc false 2 (.int .i64 0) []) a0)),(13,none,.val (.int .i64 n)),(14,none,.val (.int .i64 x.2))])
   (fun x=>0≤x.2∧x.2≤n∧x.1=I (addN pr wf x.2.toNat)) (fun x=>(n-x.2).toNat) (([],0)) (by subst hL;rfl) ?_ ?_
  ·exact ⟨by simp,by simp only;omega,rfl⟩
  rintro ⟨os,j⟩ ⟨j0,j1,hO⟩ hfx ag hag
  simp only at j0 j1 hO
  conv=>cbv
  simp only [stdEqs hL,imp_self,true_and,and_true,bif_or,bif_and,Bool.or_eq_true,Bool.or_eq_false_iff,Bool.and_eq_true,Bool.and_eq_false_iff,decide_eq_true_eq,decide_eq_false_iff_not,Bool.not_eq_true',Bool.not_eq_false',beq_iff_eq,beq_eq_false_iff_ne,ne_eq,toNat0,toNat1,ok_int,toI_int,I_frzs,I_length,I_getD,ok_ints,toL_slc,←hn,gx]
  subst H_q_at6 H_f_at6
  refine ⟨fun h2=>⟨j0,h2,⟨him,j0,by omega⟩,?_⟩,fun h2=> ?_⟩
  ·have hj:j.toNat<pr.length:=by omega
   have hok1:=hok.1
   obtain ⟨hrl,hrx⟩:=hok.2 j.toNat hj
   obtain ⟨ys,hys⟩:∃ys,ys=pr.getD j.toNat []:=⟨_,rfl⟩
   obtain ⟨row,hrow⟩:∃row,row=I ys:=⟨_,rfl⟩
   obtain ⟨ml,hml2⟩:∃ml:Int,ml=ys.length:=⟨_,rfl⟩
   obtain ⟨v0,hv0⟩:∃v0:Int,v0=wf j.toNat:=⟨_,rfl⟩
   rw [←hys] at hrl hrx
   have grow:∀k,row.getD k (.int .i64 0)= .int .i64 (ys.getD k 0):=fun k=>by rw [hrow,I_getD]
   have hrwl:row.length=ys.length:=by rw [hrow,I_length]
   have gos:∀k,os.getD k (.int .i64 0)= .int .i64 ((addN pr wf j.toNat).getD k 0):=fun k=>by rw [hO,I_getD]
   have hol:os.length=j.toNat:=by rw [hO,I_length,addN_len]
   rw [hat,←hys,←hrow,←hml2,←hv0]
   refine hlp (Int×Int) _ _ _ [1,5,6,7,8,12,13,14,22,23,24] (fun y=>[(1,none,.val (.fn 120 [(.fn 1000000000 [.agg [.slc false 2 (.int .i64 0) p,.slc false 2 (.int .i64 0) s,.slc false 2 (.int .i64 0) m]])])),(5,none,.val (.slc true 2 (.int .i64 0) os)),(6,none,.val (.int .i64 j)),(7,none,.val (.slc false 2 (.int .i64 0) row)),(8,none,.val (.int .i64 y.1)),(12,none,.val (.slc false 24 (.slc false 2 (.int .i64 0) []) a0)),(13,none,.val (.int .i64 n)),(14,none,.val (.int .i64 j)),(22,none,.val (.slc false 2 (.int .i64 0) row)),(23,none,.val (.int .i64 ml)),(24,none,.val (.int .i64 y.2))])
    (fun y=>0≤y.2∧y.2≤ml∧y.1=(ys.take y.2.toNat).foldl (fun n i=>W (n+(addN pr wf j.toNat).getD i.toNat 0)) v0) (fun y=>(ml-y.2).toNat) ((v0,0)) (by subst hL;rfl) ?_ ?_
   ·exact ⟨by simp,by simp only;omega,rfl⟩
   rintro ⟨v,i⟩ ⟨i0,i1,hv⟩ hfx2 ag2 hag2
   simp only at i0 i1 hv
   conv=>cbv
   simp only [stdEqs hL,imp_self,true_and,and_true,bif_or,bif_and,Bool.or_eq_true,Bool.or_eq_false_iff,Bool.and_eq_true,Bool.and_eq_false_iff,decide_eq_true_eq,decide_eq_false_iff_not,Bool.not_eq_true',Bool.not_eq_false',beq_iff_eq,beq_eq_false_iff_ne,ne_eq,toNat0,toNat1,ok_int,toI_int,I_frzs,I_length,I_getD,ok_ints,toL_slc,grow,gos,hol,hrwl,←hml2]
   refine ⟨fun h4=> ?_,fun h4=> ?_⟩
   ·have hx:=hrx (ys.getD i.toNat 0) (by rw [List.getD_eq_getElem?_getD,List.getElem?_eq_getElem (by omega)];exact List.getElem_mem _)
    have h5:i.toNat<ys.length:=by omega
    rw [wrap_id (n:=i+1) (by omega) (by omega)]
    refine ⟨i0,h4,hx.1,by omega,by omega,?_⟩
    refine hag2 (_,i+1) ⟨by simp only;omega,by simp only;omega,?_⟩ (by simp only;omega)
    simp only
    rw [show (i+1).toNat=i.toNat+1 by omega,List.take_succ_eq_append_getElem h5,List.foldl_append,←hv,List.getD_eq_getElem?_getD (l:=ys),List.getElem?_eq_getElem h5]
    rfl
   ·rw [wrap_id (n:=j+1) (by omega) (by omega)]
    refine ⟨rfl,by simp only [List.length_cons,List.length_nil];omega,fun x hx=>by (simp only [List.mem_singleton] at hx;subst hx;rfl),?_⟩
    refine hag (_,j+1) ⟨by simp only;omega,by simp only;omega,?_⟩ (by simp only;omega)
    simp only
    rw [List.take_of_length_le (by omega)] at hv
    rw [show (j+1).toNat=j.toNat+1 by omega,addN,←I_append,hO,hv,←hys,hv0]
    rfl
  ·rw [hr,hf0,hO,show j.toNat=pr.length by omega]
 ·cases h
theorem proxL_ok {xs:List Int} {k:Nat} (h:k≤400):PrOk (proxL (firstK xs k)):=by
 have hl:(proxL (firstK xs k)).length=k:=by rw [proxL_first];exact tab_len _ _
 refine ⟨by omega,fun j hj=> ?_⟩
 rw [hl] at hj
 have e:(proxL (firstK xs k)).getD j []=nat2 (prs (mul xs) j j):=by rw [proxL_first,tab_get _ _ _ _ hj]
 rw [e]
 refine ⟨by have:=prs_len (mul xs) j j;rw [nat2,List.length_map];omega,fun x hx=> ?_⟩
 rw [nat2,List.mem_map] at hx
 obtain ⟨y,hy,rfl⟩:=hx
 rw [prs,List.mem_filter,List.mem_range] at hy
 omega
def f_OO (a:List V) (k:Int):List V×Int:=bif f_ckp a k==0 then (I (addN (proxL (firstK (unI a) k.toNat)) (fun j=>(firstK (unI a) k.toNat).getD j 0) k.toNat),0) else ([],f_ckp a k)
set_option maxHeartbeats 1000000 in
set_option maxRecDepth 100000 in
theorem s_impl_OrdersOf:Sat Try.prog 12 (c_Bi_li9 f_OO q_Ik):=by
 intro args ps r h hp
 unfold c_Bi_li9 at h
 split at h
 ·rename_i a0 a1
  simp only [Option.some.injEq,Prod.mk.injEq] at h
  obtain ⟨rfl,rfl⟩:=h
  have hq:IsIs a0:=(alls_cons.1 hp).1
  obtain ⟨xs,hxs⟩:=hq.1
  have g1:V.frzs a0=a0:=by rw [hxs,I_frzs]
  generalize H_f_ckp:f_ckp=F_f_ckp
  generalize H_q_Ik:q_Ik=F_q_Ik
  generalize H_f_first:f_first=F_f_first
  generalize H_q_first:q_first=F_q_first
  generalize H_f_prox:f_prox=F_f_prox
  generalize H_q_prox:q_prox=F_q_prox
  generalize H_f_add2:f_add2=F_f_add2
  generalize H_q_add2:q_add2=F_q_add2
  refine fnOk_ofI (T:=tab) (B:=[(60,c_Bi_i9 F_f_ckp F_q_Ik),(55,c_Bi_L F_f_first F_q_first),(56,c_l_m F_f_prox F_q_prox),(61,c_mf_l2 F_f_add2 F_q_add2)]) (Bi:=[]) [1000005907,0,1,2,4,5,6,7] Try.func12 rfl rfl (by kernel_rfl) (Nat.le_of_ble_eq_true rfl) mixed tabOk (by subst H_f_ckp H_q_Ik H_f_first H_q_first H_f_prox H_q_prox H_f_add2 H_q_add2;exact (bookCons s_impl_checkPoints (bookCons s_impl_firstOf (bookCons s_impl_proximates (bookCons s_added2 bookNil))))) (by subst H_f_ckp H_q_Ik H_f_first H_q_first H_f_prox H_q_prox H_f_add2 H_q_add2;exact bookINil) (by kernel_rfl) ?_
  intro L lp rr hL hr hf hlp
  conv=>cbv
  subst H_f_ckp H_q_Ik H_f_first H_q_first H_f_prox H_q_prox H_f_add2 H_q_add2
  simp only [stdEqs hL,imp_self,true_and,and_true,bif_or,bif_and,Bool.or_eq_true,Bool.or_eq_false_iff,Bool.and_eq_true,Bool.and_eq_false_iff,decide_eq_true_eq,decide_eq_false_iff_not,Bool.not_eq_true',Bool.not_eq_false',beq_iff_eq,beq_eq_false_iff_ne,ne_eq,toNat0,toNat1,ok_int,toI_int,I_frzs,I_length,I_getD,ok_ints,toL_slc,true_and,g1]
  refine ⟨hq,fun h=> ?_,fun h=> ?_⟩
  ·rw [hr,f_OO,show (f_ckp a0 a1==0)=false by simpa using h];rfl
  ·obtain ⟨hqf,ys,hys,hb,k1,k4⟩:=ckp_ok hq h
   have e1:V.frzs (f_first a0 a1)=I (firstK ys a1.toNat):=by rw [f_first,hys,unI_I,I_frzs]
   have e1':f_first a0 a1=I (firstK ys a1.toNat):=by rw [f_first,hys,unI_I]
   have e2:V.frzs (f_prox (I (firstK ys a1.toNat)))=II false (proxL (firstK ys a1.toNat)):=by rw [f_prox,unI_I,II_frzs]
   have hl:(proxL (firstK ys a1.toNat)).length=a1.toNat:=by rw [proxL_first];exact tab_len _ _
   simp only [e1,e1',e2,I_frzs]
   refine ⟨hqf,⟨ys,a1.toNat,hb,rfl,by omega⟩,⟨_,_,_,rfl,proxL_ok (by omega),rfl,rfl,rfl,by rw [hl,firstK_len];exact Nat.le_refl _⟩,?_,?_⟩
   ·simp only [f_add2];exact I_noFzs _
   ·rw [hr,f_OO,show (f_ckp a0 a1==0)=true by simpa using h,hys,unI_I]
    simp only [f_add2,unII_II,unI_I,II_length,hl,cond_true]
 ·cases h
def f_cos (a b c:List V):List V:=I (addN (cpx (unI a) (unI b) a.length a.length) (fun j=>(unI c).getD j 0) a.length)
set_option maxHeartbeats 1000000 in
set_option maxRecDepth 100000 in
theorem s_impl_clusterOrders:Sat Try.prog 64 (c_K_l5 f_cos q_Kv):=by
 intro args ps r h hp
 unfold c_K_l5 at h
 split at h
 ·rename_i a0 a1 a2
  simp only [Option.some.injEq,Prod.mk.injEq] at h
  obtain ⟨rfl,rfl⟩:=h
  have hqv:q_Kv a0 a1 a2:=(alls_cons.1 hp).1
  obtain ⟨⟨⟨P,hP⟩,⟨S,hS⟩,⟨Q,hQ⟩⟩,hcl⟩:=id hqv
  rw [hP,hS,hQ,unI_I,unI_I,unI_I] at hcl
  have g0:=hqv.1.1.frz
  have g1:=hqv.1.2.1.frz
  have g2:=hqv.1.2.2.frz
  have hpl:a0.length=P.length:=by rw [hP,I_length]
  have e1:V.frzs (f_cpx a0 a1 a2)=II false (cpx P S P.length P.length):=by rw [f_cpx,hpl,hP,hS,unI_I,unI_I,II_frzs]
  have hl:(cpx P S P.length P.length).length=P.length:=tab_len _ _
  generalize H_f_cpx:f_cpx=F_f_cpx
  generalize H_q_Kv:q_Kv=F_q_Kv
  generalize H_f_add3:f_add3=F_f_add3
  generalize H_q_add3:q_add3=F_q_add3
  refine fnOk_ofI (T:=tab) (B:=[(92,c_K_m F_f_cpx F_q_Kv),(61,c_mf_l2 F_f_add3 F_q_add3)]) (Bi:=[]) [1000001901,0,1,2] Try.func64 rfl rfl (by kernel_rfl) (Nat.le_of_ble_eq_true rfl) mixed tabOk (by subst H_f_cpx H_q_Kv H_f_add3 H_q_add3;exact (bookCons s_impl_clusterProximates (bookCons s_added3 bookNil))) (by subst H_f_cpx H_q_Kv H_f_add3 H_q_add3;exact bookINil) (by kernel_rfl) ?_
  intro L lp rr hL hr hf hlp
  conv=>cbv
  simp only [stdEqs hL,imp_self,true_and,and_true,bif_or,bif_and,Bool.or_eq_true,Bool.or_eq_false_iff,Bool.and_eq_true,Bool.and_eq_false_iff,decide_eq_true_eq,decide_eq_false_iff_not,Bool.not_eq_true',Bool.not_eq_false',beq_iff_eq,beq_eq_false_iff_ne,ne_eq,toNat0,toNat1,ok_int,toI_int,I_frzs,I_length,I_getD,ok_ints,toL_slc,g0,g1,g2]
  subst H_f_cpx H_q_Kv H_f_add3 H_q_add3
  rw [e1]
  refine ⟨hqv,⟨_,_,_,_,Q,rfl,cpx_ok hcl,rfl,rfl,hQ,by rw [hl,hcl.ql];exact Nat.le_refl _⟩,?_,?_⟩
  ·simp only [f_add3];exact I_noFzs _
  ·rw [hr,f_cos]
   simp only [f_add3,unII_II,II_length,hl]
   rw [hpl,hP,hS,unI_I,unI_I]
 ·cases h
noncomputable def f_COr (a b c:List V):List V×Int:=bif f_isCl a b c then (f_cos a b c,0) else ([],1)
set_option maxHeartbeats 1000000 in
set_option maxRecDepth 100000 in
theorem s_impl_ClusterOrders:Sat Try.prog 13 (c_K_li5 f_COr q_K):=by
 intro args ps r h hp
 unfold c_K_li5 at h
 split at h
 ·rename_i a0 a1 a2
  simp only [Option.some.injEq,Prod.mk.injEq] at h
  obtain ⟨rfl,rfl⟩:=h
  have hq:q_K a0 a1 a2:=(alls_cons.1 hp).1
  have g0:=hq.1.frz
  have g1:=hq.2.1.frz
  have g2:=hq.2.2.frz
  generalize H_f_isCl:f_isCl=F_f_isCl
  generalize H_q_K:q_K=F_q_K
  generalize H_f_cos:f_cos=F_f_cos
  generalize H_q_Kv:q_Kv=F_q_Kv
  refine fnOk_ofI (T:=tab) (B:=[(63,c_K_b F_f_isCl F_q_K),(64,c_K_l5 F_f_cos F_q_Kv)]) (Bi:=[]) [0,1,2,3] Try.func13 rfl rfl (by kernel_rfl) (Nat.le_of_ble_eq_true rfl) mixed tabOk (by subst H_f_isCl H_q_K H_f_cos H_q_Kv;exact (bookCons s_impl_IsCluster (bookCons s_impl_clusterOrders bookNil))) (by subst H_f_isCl H_q_K H_f_cos H_q_Kv;exact bookINil) (by kernel_rfl) ?_
  intro L lp rr hL hr hf hlp
  conv=>cbv
  simp only [stdEqs hL,imp_self,true_and,and_true,bif_or,bif_and,Bool.or_eq_true,Bool.or_eq_false_iff,Bool.and_eq_true,Bool.and_eq_false_iff,decide_eq_true_eq,decide_eq_false_iff_not,Bool.not_eq_true',Bool.not_eq_false',beq_iff_eq,beq_eq_false_iff_ne,ne_eq,toNat0,toNat1,ok_int,toI_int,I_frzs,I_length,I_getD,ok_ints,toL_slc,g0,g1,g2]
  subst H_f_isCl H_q_K H_f_cos H_q_Kv
  refine ⟨hq,fun h=> ?_,fun h=>⟨q_Kv_of hq h,?_⟩⟩
  ·rw [hr,f_COr,h];rfl
  ·rw [hr,f_COr,h];rfl
 ·cases h
end Go.Ax
set_option linter.all false
namespace Go.Ax
open Go.Proofs
def f_DO (a:List V) (k:Int):List V×Int:=bif f_ckp a k==0 then (I (addN (proxL (firstK (unI a) k.toNat)) (fun _=>1) k.toNat),0) else ([],f_ckp a k)
def q_DO (a:List V) (k:Int):Prop:=IsIs a∧k≤24
set_option maxHeartbeats 1000000 in
set_option maxRecDepth 100000 in
theorem s_impl_DiscrepanciesOf:Sat Try.prog 18 (c_Bi_li9 f_DO q_DO):=by
 intro args ps r h hp
 unfold c_Bi_li9 at h
 split at h
 ·rename_i a0 a1
  simp only [Option.some.injEq,Prod.mk.injEq] at h
  obtain ⟨rfl,rfl⟩:=h
  obtain ⟨hq,hk24⟩:q_DO a0 a1:=(alls_cons.1 hp).1
  obtain ⟨xs,hxs⟩:=hq.1
  have g1:V.frzs a0=a0:=by rw [hxs,I_frzs]
  generalize H_f_ckp:f_ckp=F_f_ckp
  generalize H_q_Ik:q_Ik=F_q_Ik
  generalize H_f_pof:f_pof=F_f_pof
  generalize H_q_first:q_first=F_q_first
  refine fnOk_ofI (T:=tab) (B:=[(60,c_Bi_i9 F_f_ckp F_q_Ik),(65,c_Bi_m F_f_pof F_q_first)]) (Bi:=[]) [2000005622,0,1,2,4,5,6,7,9,10,12,22,23,24,28,29,30] Try.func18 rfl rfl (by kernel_rfl) (Nat.le_of_ble_eq_true rfl) mixed tabOk (by subst H_f_ckp H_q_Ik H_f_pof H_q_first;exact (bookCons s_impl_checkPoints (bookCons s_impl_proximatesOf bookNil))) (by subst H_f_ckp H_q_Ik H_f_pof H_q_first;exact bookINil) (by kernel_rfl) ?_
  intro L lp rr hL hr hf hlp
  conv=>cbv
  subst H_f_ckp H_q_Ik H_f_pof H_q_first
  simp only [stdEqs hL,imp_self,true_and,and_true,bif_or,bif_and,Bool.or_eq_true,Bool.or_eq_false_iff,Bool.and_eq_true,Bool.and_eq_false_iff,decide_eq_true_eq,decide_eq_false_iff_not,Bool.not_eq_true',Bool.not_eq_false',beq_iff_eq,beq_eq_false_iff_ne,ne_eq,toNat0,toNat1,ok_int,toI_int,I_frzs,I_length,I_getD,ok_ints,toL_slc,true_and,g1]
  refine ⟨hq,fun h=> ?_,fun h=> ?_⟩
  ·rw [hr,f_DO,show (f_ckp a0 a1==0)=false by simpa using h];rfl
  ·obtain ⟨hqf,ys,hys,hb,k1,k4⟩:=ckp_ok hq h
   obtain ⟨pr,hpr⟩:∃pr,pr=proxL (firstK ys a1.toNat):=⟨_,rfl⟩
   have hok:PrOk pr:=by rw [hpr];exact proxL_ok (by omega)
   have hpl:pr.length=a1.toNat:=by rw [hpr,proxL_first];exact tab_len _ _
   have e1:V.frzs (f_pof a0 a1)=II false pr:=by rw [hys,f_pof,unI_I,II_frzs,hpr]
   have hpfl:(f_pof a0 a1).length=pr.length:=by rw [hys,f_pof,unI_I,II_length,hpr]
   have hsm:=disc_small hb (k:=a1.toNat) (by omega)
   rw [←hpr] at hsm
   obtain ⟨px,hpx⟩:∃px,px=II false pr:=⟨_,rfl⟩
   obtain ⟨n,hn⟩:∃n:Int,n=px.length:=⟨_,rfl⟩
   have hpxl:px.length=pr.length:=by rw [hpx,II_length]
   have gx:∀k,px.getD k (.slc false 2 (.int .i64 0) [])= .slc false 2 (.int .i64 0) (I (pr.getD k [])):=fun k=>by rw [hpx,II_getD]
   simp only [e1,←hpx,←hn]
   refine ⟨hqf,?_⟩
   obtain ⟨wf,hwf⟩:∃wf:Nat→Int,wf=fun _=>1:=⟨_,rfl⟩
   rw [←hwf] at hsm
   have hf0:f_DO a0 a1=(I (addN pr wf a1.toNat),0):=by rw [f_DO,show (f_ckp a0 a1==0)=true by simpa using h,hys,unI_I,←hpr,←hwf];rfl
   refine hlp (List V×Int) _ _ _ [7,22,23,24] (fun x=>[(7,none,.val (.slc true 2 (.int .i64 0) x.1)),(22,none,.val (.slc false 24 (.slc false 2 (.int .i64 0) []) px)),(23,none,.val (.int .i64 n)),(24,none,.val (.int .i64 x.2))])
    (fun x=>0≤x.2∧x.2≤n∧x.1=I (addN pr wf x.2.toNat)) (fun x=>(n-x.2).toNat) (([],0)) (by subst hL;rfl) ?_ ?_
   ·exact ⟨by simp,by simp only;omega,rfl⟩
   rintro ⟨os,j⟩ ⟨j0,j1,hO⟩ hfx ag hag
   simp only at j0 j1 hO
   conv=>cbv
   simp only [stdEqs hL,imp_self,true_and,and_true,bif_or,bif_and,Bool.or_eq_true,Bool.or_eq_false_iff,Bool.and_eq_true,Bool.and_eq_false_iff,decide_eq_true_eq,decide_eq_false_iff_not,Bool.not_eq_true',Bool.not_eq_false',beq_iff_eq,beq_eq_false_iff_ne,ne_eq,toNat0,toNat1,ok_int,toI_int,I_frzs,I_length,I_getD,ok_ints,toL_slc,←hn,gx]
   refine ⟨fun h2=>⟨j0,h2,?_⟩,fun h2=> ?_⟩
   ·have hj:j.toNat<pr.length:=by omega
    have hok1:=hok.1
    obtain ⟨hrl,hrx⟩:=hok.2 j.toNat hj
    obtain ⟨zs,hzs⟩:∃zs,zs=pr.getD j.toNat []:=⟨_,rfl⟩
    obtain ⟨row,hrow⟩:∃row,row=I zs:=⟨_,rfl⟩
    obtain ⟨ml,hml2⟩:∃ml:Int,ml=zs.length:=⟨_,rfl⟩
    rw [←hzs] at hrl hrx
    have grow:∀k,row.getD k (.int .i64 0)= .int .i64 (zs.getD k 0):=fun k=>by rw [hrow,I_getD]
    have hrwl:row.length=zs.length:=by rw [hrow,I_length]
    have gos:∀k,os.getD k (.int .i64 0)= .int .i64 ((addN pr wf j.toNat).getD k 0):=fun k=>by rw [hO,I_getD]
    have hol:os.length=j.toNat:=by rw [hO,I_length,addN_len]
    rw [←hzs,←hrow,←hml2]
    refine hlp (Int×Int) _ _ _ [7,10,22,23,24,28,29,30] (fun y=>[(7,none,.val (.slc true 2 (.int .i64 0) os)),(10,none,.val (.int .i64 y.1)),(22,none,.val (.slc false 24 (.slc false 2 (.int .i64 0) []) px)),(23,none,.val (.int .i64 n)),(24,none,.val (.int .i64 j)),(28,none,.val (.slc false 2 (.int .i64 0) row)),(29,none,.val (.int .i64 ml)),(30,none,.val (.int .i64 y.2))])
     (fun y=>0≤y.2∧y.2≤ml∧y.1=(zs.take y.2.toNat).foldl (fun n i=>W (n+(addN pr wf j.toNat).getD i.toNat 0)) 1) (fun y=>(ml-y.2).toNat) ((1,0)) (by subst hL;rfl) ?_ ?_
    ·exact ⟨by simp,by simp only;omega,rfl⟩
    rintro ⟨v,i⟩ ⟨i0,i1,hv⟩ hfx2 ag2 hag2
    simp only at i0 i1 hv
    conv=>cbv
    simp only [stdEqs hL,imp_self,true_and,and_true,bif_or,bif_and,Bool.or_eq_true,Bool.or_eq_false_iff,Bool.and_eq_true,Bool.and_eq_false_iff,decide_eq_true_eq,decide_eq_false_iff_not,Bool.not_eq_true',Bool.not_eq_false',beq_iff_eq,beq_eq_false_iff_ne,ne_eq,toNat0,toNat1,ok_int,toI_int,I_frzs,I_length,I_getD,ok_ints,toL_slc,grow,gos,hol,hrwl,←hml2]
    refine ⟨fun h4=> ?_,fun h4=> ?_⟩
    ·have hx:=hrx (zs.getD i.toNat 0) (by rw [List.getD_eq_getElem?_getD,List.getElem?_eq_getElem (by omega)];exact List.getElem_mem _)
     have h5:i.toNat<zs.length:=by omega
     rw [wrap_id (n:=i+1) (by omega) (by omega)]
     refine ⟨i0,h4,hx.1,by omega,by omega,?_⟩
     refine hag2 (_,i+1) ⟨by simp only;omega,by simp only;omega,?_⟩ (by simp only;omega)
     simp only
     rw [show (i+1).toNat=i.toNat+1 by omega,List.take_succ_eq_append_getElem h5,List.foldl_append,←hv,List.getD_eq_getElem?_getD (l:=zs),List.getElem?_eq_getElem h5]
     rfl
    ·rw [List.take_of_length_le (by omega)] at hv
     have hgv:v=(addN pr wf a1.toNat).getD j.toNat 0:=by rw [hv,hzs,addN_get (by omega),hwf]
     have hb2:=(hsm j.toNat (by omega)).2
     have h24:((2^(j.toNat+1):Nat):Int)≤((2^24:Nat):Int):=Int.ofNat_le.2 (Nat.pow_le_pow_right (by omega) (by omega))
     have hvl:v<16777216:=by rw [hgv];have:((2^24:Nat):Int)=16777216:=rfl;omega
     rw [wrap_id (n:=j+1) (by omega) (by omega)]
     refine ⟨fun h6=>absurd h6 (by omega),fun _=>⟨rfl,by simp only [List.length_cons,List.length_nil];omega,fun x hx=>by (simp only [List.mem_singleton] at hx;subst hx;rfl),?_⟩⟩
     refine hag (_,j+1) ⟨by simp only;omega,by simp only;omega,?_⟩ (by simp only;omega)
     simp only
     rw [show (j+1).toNat=j.toNat+1 by omega,addN,←I_append,hO,hv,←hzs,hwf]
     rfl
   ·rw [hr,hf0,hO,show j.toNat=a1.toNat by omega]
 ·cases h
end Go.Ax
set_option linter.all false
namespace Go.Ax
def cutC:Nat→Code→Code×Code
 |0,c=>(.skip,c)
 |n+1,.seq a b=>(.seq a (cutC n b).1,(cutC n b).2)
 |_+1,c=>(.skip,c)
theorem thenS_thenS (f g:Sta→Prop) (Q:PostS):thenS f (thenS g Q)=thenS f Q:=by
 funext e S
 cases e<;>rfl
theorem wpS_cut (L:Alg) (T:Tab) (lp:LoopA) (B:Book) (Bi:IBook) (nt:Nat) (ks:List Nat) (Q:PostS):∀(n:Nat) (c:Code) (S:Sta),wpS L T lp B Bi nt ks c Q S=wpS L T lp B Bi nt ks (cutC n c).1 (thenS (wpS L T lp B Bi nt ks (cutC n c).2 Q) Q) S
 |0,c,S=>rfl
 |n+1,c,S=>by
  cases c with
  |seq a b=>
   show wpS L T lp B Bi nt ks a (thenS (wpS L T lp B Bi nt ks b Q) Q) S=wpS L T lp B Bi nt ks a (thenS (wpS L T lp B Bi nt ks (cutC n b).1 (thenS (wpS L T lp B Bi nt ks (cutC n b).2 Q) Q)) (thenS (wpS L T lp B Bi nt ks (cutC n b).2 Q) Q)) S
   rw [thenS_thenS,show wpS L T lp B Bi nt ks b Q=wpS L T lp B Bi nt ks (cutC n b).1 (thenS (wpS L T lp B Bi nt ks (cutC n b).2 Q) Q) from funext fun S=>wpS_cut L T lp B Bi nt ks Q n b S]
  |_=>rfl
theorem wpS_cut_of (L:Alg) (T:Tab) (lp:LoopA) (B:Book) (Bi:IBook) (nt:Nat) (ks:List Nat) (Q:PostS) (n:Nat) (c:Code) (S:Sta)
 (h:∀K:Sta→Prop,K=wpS L T lp B Bi nt ks (cutC n c).2 Q→wpS L T lp B Bi nt ks (cutC n c).1 (thenS K Q) S):wpS L T lp B Bi nt ks c Q S:=by
 rw [wpS_cut L T lp B Bi nt ks Q n c S]
 exact h _ rfl
end Go.Ax
set_option linter.all false
namespace Go.Ax
open Go.Proofs
theorem bc_step {k:Nat} {p near:List V} {P S:List Int} {pr:List (List Int)} (hp:p=II true (T2 k (prm P S))) (hn:near=II true pr)
 (hl:pr.length=k):(∀i,p.getD i (.slc true 2 (.int .i64 0) [])= .slc true 2 (.int .i64 0) (I ((T2 k (prm P S)).getD i [])))∧(∀i,near.getD i (.slc true 2 (.int .i64 0) [])= .slc true 2 (.int .i64 0) (I (pr.getD i [])))∧p.length=k∧near.length=k:=
 ⟨fun i=>by rw [hp,II_getD],fun i=>by rw [hn,II_getD],by rw [hp,II_length,T2_len],by rw [hn,II_length,hl]⟩
theorem curB_len5 {P S Q:List Int} (h:ClP P S Q) {x:Int} (h0:0≤x) (h1:x<P.length) (hok:okC (codI P S x)=true):(curB (codI P S x)).length≤3000:=by
 have hl:=pthC_len h (show-1≤x by omega) h1
 have hcl:(codI P S x).length≤30:=by rw [codI,cdN_len];omega
 obtain ⟨⟨n,l,hs⟩,_⟩:=seq_more hcl hok 0
 rw [List.replicate_zero,List.append_nil] at hs
 rw [curB,bosI_eq hs,natL_len,List.length_cons]
 have hv:=val_len l n n hs.1.val (by have:=hs.1.hi;omega)
 omega
set_option maxHeartbeats 1000000 in
set_option maxRecDepth 100000 in
theorem s_laws_FnBranchClusters:Sat Try.prog 3 (c_u_b yesU q_by):=by
 intro args ps r h hp
 unfold c_u_b at h
 split at h
 ·rename_i a0
  simp only [Option.some.injEq,Prod.mk.injEq] at h
  obtain ⟨rfl,rfl⟩:=h
  have hq:q_by a0:=(alls_cons.1 hp).1
  have hfr:V.frzs a0=a0:=by
   obtain ⟨xs,hxs,_⟩:=hq
   rw [hxs,U8_frzs]
  obtain ⟨xs,hxs⟩:∃xs,xs=(spF a0 0 (f0_from a0)).1:=⟨_,rfl⟩
  obtain ⟨kk,hkk⟩:∃kk,kk=dcK a0 (spF a0 0 (f0_from a0)).2:=⟨_,rfl⟩
  obtain ⟨b,hb⟩:∃b,b=I xs:=⟨_,rfl⟩
  have hdcb:f_dcb a0=(b,kk):=by rw [f_dcb,hb,hxs,hkk]
  obtain ⟨cp,cs,cq,w1,hclb⟩:∃cp cs cq w1,f_clb b kk=(cp,cs,cq,w1):=⟨_,_,_,_,rfl⟩
  have fb:V.frzs b=b:=by rw [hb,I_frzs]
  have hfrz:V.frzs cp=cp∧V.frzs cs=cs∧V.frzs cq=cq∧f_lk5 cp cs cq cp cs cq=true∧q_lk5 cp cs cq cp cs cq:=by
   rw [f_clb,hb,unI_I] at hclb
   have key:∀x y z:List Int,x.length≤24→y.length≤24→z.length≤24→V.frzs (I x)=I x∧V.frzs (I y)=I y∧V.frzs (I z)=I z∧f_lk5 (I x) (I y) (I z) (I x) (I y) (I z)=true∧q_lk5 (I x) (I y) (I z) (I x) (I y) (I z):=by
    intro x y z hx hy hz
    refine ⟨I_frzs _,I_frzs _,I_frzs _,by simp [f_lk5,f_like],?_⟩
    exact ⟨⟨⟨_,rfl⟩,⟨_,rfl⟩,by rw [I_length];omega⟩,⟨⟨_,rfl⟩,⟨_,rfl⟩,by rw [I_length];omega⟩,⟨_,rfl⟩,⟨_,rfl⟩,by rw [I_length];omega⟩
   cases h1:isBr xs with
   |false=>
    rw [h1] at hclb
    simp only [cond_false,Prod.mk.injEq] at hclb
    rw [←hclb.1,←hclb.2.1,←hclb.2.2.1]
    exact key [] [] [] (by simp) (by simp) (by simp)
   |true=>
    cases h2:inRange kk 1 24 with
    |false=>
     rw [h1,h2] at hclb
     simp only [cond_false,cond_true,Prod.mk.injEq] at hclb
     rw [←hclb.1,←hclb.2.1,←hclb.2.2.1]
     exact key [] [] [] (by simp) (by simp) (by simp)
    |true=>
     rw [h1,h2] at hclb
     simp only [cond_true,Prod.mk.injEq] at hclb
     rw [←hclb.1,←hclb.2.1,←hclb.2.2.1]
     rw [inRange,Bool.and_eq_true,decide_eq_true_eq,decide_eq_true_eq] at h2
     exact key _ _ _ (by rw [clbP_len];omega) (by rw [clbS_len];omega) (by rw [firstK_len];omega)
  obtain ⟨fp,fs,fq,hlk,qlk⟩:=hfrz
  have hok:w1=0→Br xs∧1≤kk∧kk≤24∧cp=I (clbP kk.toNat)∧cs=I (clbS xs kk.toNat)∧cq=I (firstK xs kk.toNat)∧f_ckp b kk=0:=fun hw=>by
   rw [f_clb,hb,unI_I] at hclb
   cases h1:isBr xs with
   |false=>
    rw [h1] at hclb
    simp only [cond_false,Prod.mk.injEq] at hclb
    omega
   |true=>
    cases h2:inRange kk 1 24 with
    |false=>
     rw [h1,h2] at hclb
     simp only [cond_false,cond_true,Prod.mk.injEq] at hclb
     omega
    |true=>
     rw [h1,h2] at hclb
     simp only [cond_true,Prod.mk.injEq] at hclb
     rw [inRange,Bool.and_eq_true,decide_eq_true_eq,decide_eq_true_eq] at h2
     refine ⟨br_of h1,h2.1,h2.2,hclb.1.symm,hclb.2.1.symm,hclb.2.2.1.symm,?_⟩
     have h3:inRange kk 1 400=true:=by rw [inRange,Bool.and_eq_true,decide_eq_true_eq,decide_eq_true_eq];omega
     rw [f_ckp,hb,unI_I,h1,h3];rfl
  have hsl:f_big a0=false→IsU a0∧IsIs b:=fun h1=>by
   have hu:=by_big hq h1
   have:xs.length≤5:=by rw [hxs];exact (spF_src (a:=0) (h:=f0_from a0) ⟨hu,Int.le_refl _,Int.natCast_nonneg _⟩).2
   exact ⟨hu,⟨xs,hb⟩,by rw [hb,I_length];omega⟩
  generalize H_f_big:f_big=F_f_big
  generalize H_q_any:q_any=F_q_any
  generalize H_f_dcb:f_dcb=F_f_dcb
  generalize H_IsU:IsU=F_IsU
  generalize H_f_clb:f_clb=F_f_clb
  generalize H_q_Ik:q_Ik=F_q_Ik
  generalize H_f_lk5:f_lk5=F_f_lk5
  generalize H_q_lk5:q_lk5=F_q_lk5
  generalize H_f_MA:f_MA=F_f_MA
  generalize H_f_OO:f_OO=F_f_OO
  generalize H_f_COr:f_COr=F_f_COr
  generalize H_q_K:q_K=F_q_K
  generalize H_f_PO:f_PO=F_f_PO
  generalize H_f_PMx:f_PMx=F_f_PMx
  generalize H_f_IC:f_IC=F_f_IC
  generalize H_f_PD:f_PD=F_f_PD
  generalize H_f_DO:f_DO=F_f_DO
  generalize H_q_DO:q_DO=F_q_DO
  generalize H_f_like:f_like=F_f_like
  generalize H_q_like:q_like=F_q_like
  generalize H_f_sq5:f_sq5=F_f_sq5
  generalize H_q_sq5:q_sq5=F_q_sq5
  generalize H_f_has:f_has=F_f_has
  generalize H_q_lI:q_lI=F_q_lI
  generalize H_f_BA:f_BA=F_f_BA
  generalize H_q_isP5:q_isP5=F_q_isP5
  generalize H_f_CA:f_CA=F_f_CA
  generalize H_q_CA:q_CA=F_q_CA
  refine fnOk_ofI (T:=tab) (B:=[(6,c_u_b F_f_big F_q_any),(7,c_u_Ai9 F_f_dcb F_IsU),(8,c_Bi_Ji F_f_clb F_q_Ik),(9,c_Bi_Ji F_f_clb F_q_Ik),(10,c_KK_b9 F_f_lk5 F_q_lk5),(11,c_Bi_Li F_f_MA F_q_Ik),(12,c_Bi_li9 F_f_OO F_q_Ik),(13,c_K_li5 F_f_COr F_q_K),(14,c_Bi_mi F_f_PO F_q_Ik),(15,c_K_mi F_f_PMx F_q_K),(16,c_K_bi F_f_IC F_q_K),(17,c_K_li5 F_f_PD F_q_K),(18,c_Bi_li9 F_f_DO F_q_DO),(19,c_ll_b F_f_like F_q_like),(20,c_mi_b9 F_f_sq5 F_q_sq5),(21,c_li_b9 F_f_has F_q_lI),(22,c_Ki_Bi5 F_f_BA F_q_isP5),(23,c_Bi_Bi9 F_f_CA F_q_CA)]) (Bi:=[]) [0,2,3,4,5,6,7,8,9,10,11,12,13,14,15,16,17,18,19,20,21,22,23,24,25,26,27,28,29,30] Try.func3 rfl rfl (by kernel_rfl) (Nat.le_of_ble_eq_true rfl) mixed tabOk (by subst H_f_big H_q_any H_f_dcb H_IsU H_f_clb H_q_Ik H_f_lk5 H_q_lk5 H_f_MA H_f_OO H_f_COr H_q_K H_f_PO H_f_PMx H_f_IC H_f_PD H_f_DO H_q_DO H_f_like H_q_like H_f_sq5 H_q_sq5 H_f_has H_q_lI H_f_BA H_q_isP5 H_f_CA H_q_CA;exact (bookCons s_laws_big (bookCons s_spec_DrawClusterOfBranch (bookCons s_impl_ClusterOfBranch (bookCons s_spec_ClusterOfBranch (bookCons s_laws_likeCluster5 (bookCons s_impl_MultiplicitiesAt (bookCons s_impl_OrdersOf (bookCons s_impl_ClusterOrders (bookCons s_impl_ProximatesOf (bookCons s_impl_ProximityMatrix (bookCons s_impl_IsConsistent (bookCons s_impl_PointDiscrepancies (bookCons s_impl_DiscrepanciesOf (bookCons s_laws_likeInts (bookCons s_laws_square5 (bookCons s_laws_hasInt (bookCons s_impl_BranchAtPoint (bookCons s_impl_CurvetteAt bookNil))))))))))))))))))) (by subst H_f_big H_q_any H_f_dcb H_IsU H_f_clb H_q_Ik H_f_lk5 H_q_lk5 H_f_MA H_f_OO H_f_COr H_q_K H_f_PO H_f_PMx H_f_IC H_f_PD H_f_DO H_q_DO H_f_like H_q_like H_f_sq5 H_q_sq5 H_f_has H_q_lI H_f_BA H_q_isP5 H_f_CA H_q_CA;exact bookINil) (by kernel_rfl) ?_
  intro L lp rr hL hr hf hlp
  have E0:F_f_big a0=f_big a0:=by rw [←H_f_big]
  have E1:F_f_dcb a0=(b,kk):=by rw [←H_f_dcb,hdcb]
  have E2:F_f_clb b kk=(cp,cs,cq,w1):=by rw [←H_f_clb,hclb]
  have E3:F_f_lk5 cp cs cq cp cs cq=true:=by rw [←H_f_lk5,hlk]
  have Qi:F_q_any a0:=by rw [←H_q_any];trivial
  have yes:rr= .bool true:=hr
  refine wpS_cut_of L tab lp _ _ _ _ _ 7 _ _ fun K1 hK1=> ?_
  conv=>cbv
  simp only [stdEqs hL,imp_self,true_and,and_true,bif_or,bif_and,Bool.or_eq_true,Bool.or_eq_false_iff,Bool.and_eq_true,Bool.and_eq_false_iff,decide_eq_true_eq,decide_eq_false_iff_not,Bool.not_eq_true',Bool.not_eq_false',beq_iff_eq,beq_eq_false_iff_ne,ne_eq,toNat0,toNat1,ok_int,toI_int,I_frzs,I_length,I_getD,ok_ints,toL_slc,hfr,E0,E1,E2,E3,fb,fp,fs,fq,not_true,false_or,Bool.true_eq_false,true_imp_iff,false_imp_iff]
  refine ⟨Qi,fun _=>yes.symm,fun h1=> ?_⟩
  obtain ⟨hu,hbi⟩:=hsl h1
  have QU:F_IsU a0:=by rw [←H_IsU];exact hu
  have QB:F_q_Ik b kk:=by rw [←H_q_Ik];exact hbi
  have QL:F_q_lk5 cp cs cq cp cs cq:=by rw [←H_q_lk5];exact qlk
  refine ⟨QU,QB,QB,QL,fun _=>yes.symm,fun hw=> ?_⟩
  obtain ⟨hbr,k1,k24,ecp,ecs,ecq,hck⟩:=hok hw
  obtain ⟨k,hk⟩:∃k,k=kk.toNat:=⟨_,rfl⟩
  rw [←hk] at ecp ecs ecq
  have hcl:=clb_ok hbr (k:=k) (by omega) (by omega)
  have hcb:(f_ckp b kk==0)=true:=by rw [hck];rfl
  have his:f_isCl cp cs cq=true:=by rw [f_isCl,ecp,ecs,ecq,unI_I,unI_I,unI_I];exact isCl_iff.2 hcl
  obtain ⟨pr,hpr⟩:∃pr,pr=proxL (firstK xs k):=⟨_,rfl⟩
  have hprl:pr.length=k:=by rw [hpr,proxL_first];exact tab_len _ _
  have hcpl:cp.length=k:=by rw [ecp,I_length,clbP_len]
  have hcpx:cpx (unI cp) (unI cs) k k=pr:=by rw [ecp,ecs,unI_I,unI_I,clb_cpx hbr,hpr]
  obtain ⟨od,hod⟩:∃od,od=I (addN pr (fun j=>(firstK xs k).getD j 0) k):=⟨_,rfl⟩
  obtain ⟨dd,hdd⟩:∃dd,dd=I (addN pr (fun _=>1) k):=⟨_,rfl⟩
  obtain ⟨near,hnear⟩:∃near,near=II true pr:=⟨_,rfl⟩
  obtain ⟨p,hpm⟩:∃p,p=II true (T2 k (prm (clbP k) (clbS xs k))):=⟨_,rfl⟩
  have ub:unI b=xs:=by rw [hb,unI_I]
  have A1:F_f_MA b kk=(cq,0):=by rw [←H_f_MA,f_MA,hcb,f_first,ub,←hk,ecq];rfl
  have A2:F_f_OO b kk=(od,0):=by rw [←H_f_OO,f_OO,hcb,ub,←hk,←hpr,hod];rfl
  have A3:F_f_COr cp cs cq=(od,0):=by rw [←H_f_COr,f_COr,his,f_cos,hcpl,hcpx,ecq,unI_I,hod];rfl
  have A4:F_f_PO b kk=(near,0):=by rw [←H_f_PO,f_PO,hcb,f_pof,ub,←hk,←hpr,hnear];rfl
  have A5:F_f_PMx cp cs cq=(p,0):=by rw [←H_f_PMx,f_PMx,his,f_prm,hcpl,ecp,ecs,unI_I,unI_I,hpm];rfl
  have A6:F_f_IC cp cs cq=(true,0):=by rw [←H_f_IC,f_IC,his,f_cons,ecp,ecs,ecq,unI_I,unI_I,unI_I,clb_cons hbr (by omega)];rfl
  have A7:F_f_PD cp cs cq=(dd,0):=by rw [←H_f_PD,f_PD,his,f_dsc,hcpl,hcpx,hdd];rfl
  have A8:F_f_DO b kk=(dd,0):=by rw [←H_f_DO,f_DO,hcb,ub,←hk,←hpr,hdd];rfl
  have qK:q_K cp cs cq:=⟨⟨_,ecp⟩,⟨_,ecs⟩,⟨_,ecq⟩⟩
  have QK:F_q_K cp cs cq:=by rw [←H_q_K];exact qK
  have QD:F_q_DO b kk:=by rw [←H_q_DO];exact ⟨hbi,k24⟩
  rw [hK1]
  clear hK1
  refine wpS_cut_of L tab lp _ _ _ _ _ 8 _ _ fun K2 hK2=> ?_
  conv=>cbv
  simp only [stdEqs hL,imp_self,true_and,and_true,bif_or,bif_and,Bool.or_eq_true,Bool.or_eq_false_iff,Bool.and_eq_true,Bool.and_eq_false_iff,decide_eq_true_eq,decide_eq_false_iff_not,Bool.not_eq_true',Bool.not_eq_false',beq_iff_eq,beq_eq_false_iff_ne,ne_eq,toNat0,toNat1,ok_int,toI_int,I_frzs,I_length,I_getD,ok_ints,toL_slc,A1,A2,A3,A4,A5,A6,A7,A8,fb,fp,fs,fq]
  refine ⟨QB,QB,QK,QB,QK,QK,QK,QD,?_⟩
  rw [hK2]
  clear hK2
  refine wpS_cut_of L tab lp _ _ _ _ _ 1 _ _ fun K3 hK3=> ?_
  have Elk:∀v,F_f_like v v=true:=fun v=>by rw [←H_f_like,f_like];simp
  have efo:V.frzs od=od:=by rw [hod,I_frzs]
  have efd:V.frzs dd=dd:=by rw [hdd,I_frzs]
  have Q1:F_q_like cq cq:=by rw [←H_q_like];exact ⟨⟨_,ecq⟩,⟨_,ecq⟩,by rw [ecq,I_length,firstK_len];omega⟩
  have Q2:F_q_like od od:=by rw [←H_q_like];exact ⟨⟨_,hod⟩,⟨_,hod⟩,by rw [hod,I_length,addN_len];omega⟩
  have Q3:F_q_like dd dd:=by rw [←H_q_like];exact ⟨⟨_,hdd⟩,⟨_,hdd⟩,by rw [hdd,I_length,addN_len];omega⟩
  have hpf:V.frzs p=II false (T2 k (prm (clbP k) (clbS xs k))):=by rw [hpm,II_frzs]
  have hpl:p.length=k:=by rw [hpm,II_length,T2_len]
  have trow:∀r∈T2 k (prm (clbP k) (clbS xs k)),r.length=k:=fun r hr=>by
   rw [T2,tab',List.mem_map] at hr
   obtain ⟨i,_,rfl⟩:=hr
   exact tab_len _ _
  have E4:F_f_sq5 (V.frzs p) kk=true:=by
   rw [←H_f_sq5,hpf,f_sq5,unII_II,II_length,T2_len,Bool.and_eq_true,List.all_eq_true,decide_eq_true_eq]
   exact ⟨fun r hr=>by rw [decide_eq_true_eq,trow r hr];omega,by omega⟩
  have Q4:F_q_sq5 (V.frzs p) kk:=by
   rw [←H_q_sq5,hpf]
   exact ⟨⟨_,rfl,fun r hr=>by rw [trow r hr];omega⟩,by rw [II_length,T2_len];omega⟩
  have hnl:(near.length:Int)=kk:=by rw [hnear,II_length,hprl];omega
  obtain ⟨nl,hnl2⟩:∃nl:Int,nl=near.length:=⟨_,rfl⟩
  have hnk:nl=kk:=by rw [hnl2,hnl]
  conv=>cbv
  simp only [stdEqs hL,imp_self,true_and,and_true,bif_or,bif_and,Bool.or_eq_true,Bool.or_eq_false_iff,Bool.and_eq_true,Bool.and_eq_false_iff,decide_eq_true_eq,decide_eq_false_iff_not,Bool.not_eq_true',Bool.not_eq_false',beq_iff_eq,beq_eq_false_iff_ne,ne_eq,toNat0,toNat1,ok_int,toI_int,I_frzs,I_length,I_getD,ok_ints,toL_slc,Elk,efo,efd,E4,←hnl2,hnk,fb,fp,fs,fq,Q1,Q2,Q3,Q4,true_and,true_imp_iff,not_true,false_or,or_false,Bool.true_eq_false,false_imp_iff]
  rw [hK3]
  clear hK3
  refine wpS_cut_of L tab lp _ _ _ _ _ 1 _ _ fun K4 hK4=> ?_
  obtain ⟨gp,gn,_,hnl3⟩:=bc_step (P:=clbP k) (S:=clbS xs k) hpm hnear hprl
  conv=>cbv
  refine hlp (Int) _ _ _ [3,4,5,15,17,25] (fun x=>[(3,none,.val (.box 26 (.agg [.slc false 2 (.int .i64 0) b]))),(4,none,.val (.int .i64 kk)),(5,none,.val (.box 30 (.agg [.slc false 2 (.int .i64 0) cp,.slc false 2 (.int .i64 0) cs,.slc false 2 (.int .i64 0) cq]))),(15,none,.val (.slc true 24 (.slc true 2 (.int .i64 0) []) near)),(17,none,.val (.slc true 24 (.slc true 2 (.int .i64 0) []) p)),(25,none,.val (.int .i64 x))])
   (fun x=>0≤x∧x≤kk) (fun x=>(kk-x).toNat) (0) (by subst hL;rfl) ?_ ?_
  ·exact ⟨by simp,by omega⟩
  rintro i ⟨i0,i1⟩ hfx ag hag
  conv=>cbv
  simp only [stdEqs hL,imp_self,true_and,and_true,bif_or,bif_and,Bool.or_eq_true,Bool.or_eq_false_iff,Bool.and_eq_true,Bool.and_eq_false_iff,decide_eq_true_eq,decide_eq_false_iff_not,Bool.not_eq_true',Bool.not_eq_false',beq_iff_eq,beq_eq_false_iff_ne,ne_eq,toNat0,toNat1,ok_int,toI_int,I_frzs,I_length,I_getD,ok_ints,toL_slc,true_and]
  refine ⟨fun h2=> ?_,fun h2=> ?_⟩
  ·refine hlp (Int) _ _ _ [3,4,5,15,17,25,26] (fun x=>[(3,none,.val (.box 26 (.agg [.slc false 2 (.int .i64 0) b]))),(4,none,.val (.int .i64 kk)),(5,none,.val (.box 30 (.agg [.slc false 2 (.int .i64 0) cp,.slc false 2 (.int .i64 0) cs,.slc false 2 (.int .i64 0) cq]))),(15,none,.val (.slc true 24 (.slc true 2 (.int .i64 0) []) near)),(17,none,.val (.slc true 24 (.slc true 2 (.int .i64 0) []) p)),(25,none,.val (.int .i64 i)),(26,none,.val (.int .i64 x))])
    (fun x=>0≤x∧x≤i) (fun x=>(i-x).toNat) (0) (by subst hL;rfl) ?_ ?_
   ·exact ⟨by simp,by omega⟩
   rintro j ⟨j0,j1⟩ hfx2 ag2 hag2
   have hin:i.toNat<k:=by omega
   have hjn:j<i→j.toNat<i.toNat:=fun h=>by omega
   obtain ⟨row,hrow⟩:∃row,row=(T2 k (prm (clbP k) (clbS xs k))).getD i.toNat []:=⟨_,rfl⟩
   obtain ⟨nr,hnr⟩:∃nr,nr=pr.getD i.toNat []:=⟨_,rfl⟩
   have hrl:row.length=k:=by rw [hrow,T2_row _ hin];exact tab_len _ _
   have gI:∀(l:List Int) (t:Nat),(I l).getD t (.int .i64 0)= .int .i64 (l.getD t 0):=fun l t=>I_getD l t
   have hQ:F_q_lI (I nr) j:=by
    rw [←H_q_lI]
    exact ⟨⟨_,rfl⟩,by have:=(proxL_ok (xs:=xs) (k:=k) (by omega)).2 i.toNat (by rw [←hpr,hprl];exact hin);rw [I_length,hnr,hpr];omega⟩
   have hH:j<i→F_f_has (I nr) j=(row.getD j.toNat 0== -1):=fun h=>by
    rw [←H_f_has,f_has,unI_I,hrow,T2_get _ hin (by omega),clb_prm hbr (by omega) (by omega) hin (hjn h),hnr,hpr,show ((j.toNat:Nat):Int)=j by omega]
   conv=>cbv
   simp only [stdEqs hL,imp_self,true_and,and_true,bif_or,bif_and,Bool.or_eq_true,Bool.or_eq_false_iff,Bool.and_eq_true,Bool.and_eq_false_iff,decide_eq_true_eq,decide_eq_false_iff_not,Bool.not_eq_true',Bool.not_eq_false',beq_iff_eq,beq_eq_false_iff_ne,ne_eq,toNat0,toNat1,ok_int,toI_int,I_frzs,I_length,I_getD,ok_ints,toL_slc,gp,gn,←hrow,←hnr,gI,I_frzs,I_length,hrl,hpl,hnl3]
   refine ⟨fun h3=> ?_,fun h3=> ?_⟩
   ·rw [hH h3,wrap_id (n:=j+1) (by omega) (by omega)]
    refine ⟨i0,by omega,hin,hin,j0,by omega,hin,by omega,i0,by omega,hin,hin,hQ,fun h=>absurd rfl h,fun _=> ?_⟩
    exact hag2 (j+1) ⟨by omega,by omega⟩ (by omega)
   ·rw [wrap_id (n:=i+1) (by omega) (by omega)]
    exact hag (i+1) ⟨by omega,by omega⟩ (by omega)
  ·rw [hK4]
   clear hK4
   have hkk:((k:Nat):Int)-1=kk-1:=by omega
   obtain ⟨v1,v2⟩:=codeN_vc hbr (k:=k) (by omega) (by omega)
   obtain ⟨br,hbr2⟩:∃br,br=I (curB (codI (clbP k) (clbS xs k) ((k:Int)-1))):=⟨_,rfl⟩
   rw [←hbr2] at v2
   have hw1:W (kk-1+1)=kk:=by rw [show kk-1+1=kk by omega];exact wrap_id (by omega) (by omega)
   have B1:F_f_BA cp cs cq (kk-1)=(br,0):=by
    rw [←H_f_BA,f_BA,his,show f_isP5 cp cs cq (kk-1)=true by rw [f_isP5,hcpl,Bool.and_eq_true,decide_eq_true_eq,decide_eq_true_eq];omega,f_bat,ecp,ecs,unI_I,unI_I,←hkk,curR,okC_codeK hbr (clb_code hbr (by omega) (by omega)),hbr2]
    rfl
   have B2:F_f_CA b (kk-1)=(br,0):=by
    rw [←H_f_CA,f_CA,hw1,hcb,ub,←hk,v2];rfl
   have P1:F_q_isP5 cp cs cq (kk-1):=by rw [←H_q_isP5];exact ⟨qK,by omega⟩
   have P2:F_q_CA b (kk-1):=by rw [←H_q_CA];exact ⟨hbi,by omega,by omega⟩
   have fbr:V.frzs br=br:=by rw [hbr2,I_frzs]
   have P3:F_q_like br br:=by rw [←H_q_like];exact ⟨⟨_,hbr2⟩,⟨_,hbr2⟩,by rw [hbr2,I_length];have:=curB_len5 hcl (x:=(k:Int)-1) (by omega) (by rw [clbP_len];omega) (okC_codeK hbr (clb_code hbr (by omega) (by omega)));omega⟩
   refine wpS_cut_of L tab lp _ _ _ _ _ 2 _ _ fun K5 hK5=> ?_
   conv=>cbv
   simp only [stdEqs hL,imp_self,true_and,and_true,bif_or,bif_and,Bool.or_eq_true,Bool.or_eq_false_iff,Bool.and_eq_true,Bool.and_eq_false_iff,decide_eq_true_eq,decide_eq_false_iff_not,Bool.not_eq_true',Bool.not_eq_false',beq_iff_eq,beq_eq_false_iff_ne,ne_eq,toNat0,toNat1,ok_int,toI_int,I_frzs,I_length,I_getD,ok_ints,toL_slc,wrap_id (n:=kk-1) (by omega) (by omega),B1,B2,P1,P2,fb,fp,fs,fq,fbr,true_and]
   rw [hK5]
   clear hK5
   conv=>cbv
   simp only [stdEqs hL,imp_self,true_and,and_true,bif_or,bif_and,Bool.or_eq_true,Bool.or_eq_false_iff,Bool.and_eq_true,Bool.and_eq_false_iff,decide_eq_true_eq,decide_eq_false_iff_not,Bool.not_eq_true',Bool.not_eq_false',beq_iff_eq,beq_eq_false_iff_ne,ne_eq,toNat0,toNat1,ok_int,toI_int,I_frzs,I_length,I_getD,ok_ints,toL_slc,fbr,P3,Elk,true_and,true_imp_iff]
   exact yes.symm
 ·cases h
end Go.Ax
