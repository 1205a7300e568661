import Derived.Test.YtnhfpgcicpfohaaDoorB07p1
/-
 Sequences of multiplicities of branches:steps,runs,first multiplicities. No conditions but those of the contracts.
-/
set_option linter.all false
namespace Go.Ax
open Go.Proofs
def stI (a b:Int):List (List Int):=(stp a.toNat b.toNat).map fun p=>[(p.1:Int),(p.2:Int)]
theorem stp_len:∀(n a b:Nat),b≤n→(stp a b).length≤b
 |0,a,b,h=>by obtain rfl:b=0:=by omega
              rw [stp_zero];simp
 |n+1,a,b,h=>by
  by_cases hb:0<b
  ·rw [stp_pos hb,List.length_cons]
   have h1:a%b<b:=Nat.mod_lt _ hb
   have:=stp_len n b (a%b) (by omega)
   omega
  ·obtain rfl:b=0:=by omega
   rw [stp_zero];simp
theorem stI_pos {a b:Int} (ha:0≤a) (hb:0<b):stI a b=[a.tdiv b,b]::stI b (a.tmod b):=by
 obtain ⟨a,rfl⟩:=Int.eq_ofNat_of_zero_le ha
 obtain ⟨b,rfl⟩:=Int.eq_ofNat_of_zero_le (Int.le_of_lt hb)
 rw [stI,Int.toNat_natCast,Int.toNat_natCast,stp_pos (by omega),List.map_cons,stI,←Int.ofNat_tdiv,←Int.ofNat_tmod,Int.toNat_natCast,Int.toNat_natCast]
theorem stI_zero (a:Int) {b:Int} (hb:¬0<b):stI a b=[]:=by
 rw [stI,show b.toNat=0 by omega,stp_zero];rfl
def c_ii_m (f:Int→Int→List V) (q:Int→Int→Prop):Contract:=fun
 |[.int .i64 a0,.int .i64 a1]=>some ([q a0 a1],.slc true 44 (.slc true 2 (.int .i64 0) []) (f a0 a1))
 |_=>none
def f_stI (a b:Int):List V:=II true (stI a b)
def q_stI (a b:Int):Prop:=0≤a∧a≤1000000∧0≤b∧b≤1000000
set_option maxHeartbeats 1000000 in
set_option maxRecDepth 100000 in
theorem s_impl_steps:Sat Tryd.prog 69 (c_ii_m f_stI q_stI):=by
 intro args ps r h hp
 unfold c_ii_m at h
 split at h
 ·rename_i a0 a1
  simp only [Option.some.injEq,Prod.mk.injEq] at h
  obtain ⟨rfl,rfl⟩:=h
  obtain ⟨q1,q2,q3,q4⟩:q_stI a0 a1:=(alls_cons.1 hp).1
  refine fnOk_ofI (T:=tab) (B:=[]) (Bi:=[]) [0,1,4,5] Tryd.func69 rfl rfl (by kernel_rfl) (Nat.le_of_ble_eq_true rfl) mixed tabOk (by exact bookNil) (by exact bookINil) (by kernel_rfl) ?_
  intro L lp rr hL hr hf hlp
  conv=>cbv
  refine hlp (Int×Int×List V) _ _ _ [0,1,5] (fun x=>[(0,none,.val (.int .i64 x.1)),(1,none,.val (.int .i64 x.2.1)),(5,none,.val (.slc true 44 (.slc true 2 (.int .i64 0) []) x.2.2))])
   (fun x=>0≤x.1∧x.1≤1000000∧0≤x.2.1∧x.2.1≤1000000∧∃L,x.2.2=II true L∧L++stI x.1 x.2.1=stI a0 a1) (fun x=>x.2.1.toNat) ((a0,a1,[])) (by subst hL;rfl) ?_ ?_
  ·exact ⟨q1,q2,q3,q4,[],rfl,rfl⟩
  rintro ⟨a,b,es⟩ ⟨p1,p2,p3,p4,L,hes,hI⟩ hfx ag hag
  simp only at p1 p2 p3 p4 hes hI
  have hel:es.length≤1000000:=by
   have h1:=congrArg List.length hI
   have h2:=stp_len a1.toNat a0.toNat a1.toNat (Nat.le_refl _)
   rw [List.length_append,stI,stI,List.length_map,List.length_map] at h1
   rw [hes,II_length]
   omega
  conv=>cbv
  simp only [stdEqs hL,imp_self,true_and,and_true,bif_or,bif_and,Bool.or_eq_true,Bool.or_eq_false_iff,Bool.and_eq_true,Bool.and_eq_false_iff,decide_eq_true_eq,decide_eq_false_iff_not,Bool.not_eq_true',Bool.not_eq_false',beq_iff_eq,beq_eq_false_iff_ne,ne_eq,toNat0,toNat1,ok_int,toI_int,I_frzs,I_length,I_getD,ok_ints,toL_slc,hel]
  refine ⟨fun h=> ?_,fun h=> ?_⟩
  ·have h1:0≤a.tdiv b∧a.tdiv b≤a:=⟨Int.tdiv_nonneg p1 p3,Int.tdiv_le_self b p1⟩
   have h2:0≤a.tmod b∧a.tmod b<b:=⟨Int.tmod_nonneg b p1,Int.tmod_lt_of_pos a h⟩
   have hw:IntKind.wrap .i64 (a.tdiv b)=a.tdiv b:=wrap_id (by omega) (by omega)
   (repeat' first|(exact solid_one _)|(exact solid1 rfl)|(exact noown_one _)|(apply And.intro)|(intro _))<;>(try first|exact True.intro|omega|rfl|(simp only [List.length_cons,List.length_nil,I_length];omega))
   refine hag (b,a.tmod b,_) ⟨by simp only;omega,by simp only;omega,by simp only;omega,by simp only;omega,L++[[a.tdiv b,b]],?_,?_⟩ (by simp only;omega)
   ·simp only
    rw [II_append,hes,hw]
    rfl
   ·simp only
    rw [List.append_assoc,←hI,stI_pos p1 h]
    rfl
  ·rw [hr,f_stI,←hI,stI_zero a h,List.append_nil,hes]
 ·cases h
set_option maxHeartbeats 1000000 in
set_option maxRecDepth 100000 in
theorem s_spec_l01Steps:Sat Tryd.prog 67 (c_ii_m f_stI q_stI):=by
 intro args ps r h hp
 unfold c_ii_m at h
 split at h
 ·rename_i a0 a1
  simp only [Option.some.injEq,Prod.mk.injEq] at h
  obtain ⟨rfl,rfl⟩:=h
  obtain ⟨q1,q2,q3,q4⟩:q_stI a0 a1:=(alls_cons.1 hp).1
  refine fnOk_ofI (T:=tab) (B:=[]) (Bi:=[]) [0,1,4,5,6] Tryd.func67 rfl rfl (by kernel_rfl) (Nat.le_of_ble_eq_true rfl) mixed tabOk (by exact bookNil) (by exact bookINil) (by kernel_rfl) ?_
  intro L lp rr hL hr hf hlp
  conv=>cbv
  refine hlp (Int×Int×List V) _ _ _ [0,1,5] (fun x=>[(0,none,.val (.int .i64 x.1)),(1,none,.val (.int .i64 x.2.1)),(5,none,.val (.slc true 44 (.slc true 2 (.int .i64 0) []) x.2.2))])
   (fun x=>0≤x.1∧x.1≤1000000∧0≤x.2.1∧x.2.1≤1000000∧∃L,x.2.2=II true L∧L++stI x.1 x.2.1=stI a0 a1) (fun x=>x.2.1.toNat) ((a0,a1,[])) (by subst hL;rfl) ?_ ?_
  ·exact ⟨q1,q2,q3,q4,[],rfl,rfl⟩
  rintro ⟨a,b,es⟩ ⟨p1,p2,p3,p4,L,hes,hI⟩ hfx ag hag
  simp only at p1 p2 p3 p4 hes hI
  have hel:es.length≤1000000:=by
   have h1:=congrArg List.length hI
   have h2:=stp_len a1.toNat a0.toNat a1.toNat (Nat.le_refl _)
   rw [List.length_append,stI,stI,List.length_map,List.length_map] at h1
   rw [hes,II_length]
   omega
  conv=>cbv
  simp only [stdEqs hL,imp_self,true_and,and_true,bif_or,bif_and,Bool.or_eq_true,Bool.or_eq_false_iff,Bool.and_eq_true,Bool.and_eq_false_iff,decide_eq_true_eq,decide_eq_false_iff_not,Bool.not_eq_true',Bool.not_eq_false',beq_iff_eq,beq_eq_false_iff_ne,ne_eq,toNat0,toNat1,ok_int,toI_int,I_frzs,I_length,I_getD,ok_ints,toL_slc,hel]
  refine ⟨fun h=> ?_,fun h=> ?_⟩
  ·have h1:0≤a.tdiv b∧a.tdiv b≤a:=⟨Int.tdiv_nonneg p1 p3,Int.tdiv_le_self b p1⟩
   have h2:0≤a.tmod b∧a.tmod b<b:=⟨Int.tmod_nonneg b p1,Int.tmod_lt_of_pos a h⟩
   have hw:IntKind.wrap .i64 (a.tdiv b)=a.tdiv b:=wrap_id (by omega) (by omega)
   (repeat' first|(exact solid_one _)|(exact solid1 rfl)|(exact noown_one _)|(apply And.intro)|(intro _))<;>(try first|exact True.intro|omega|rfl|(simp only [List.length_cons,List.length_nil,I_length];omega))
   refine hag (b,a.tmod b,_) ⟨by simp only;omega,by simp only;omega,by simp only;omega,by simp only;omega,L++[[a.tdiv b,b]],?_,?_⟩ (by simp only;omega)
   ·simp only
    rw [II_append,hes,hw]
    rfl
   ·simp only
    rw [List.append_assoc,←hI,stI_pos p1 h]
    rfl
  ·rw [hr,f_stI,←hI,stI_zero a h,List.append_nil,hes]
 ·cases h
def flatS (S:List (List Int)):List Int:=S.flatMap fun s=>List.replicate (s.getD 0 0).toNat (s.getD 1 0)
theorem flatS_step (S:List (List Int)) (k:Nat) (h:k<S.length):flatS (S.take (k+1))=flatS (S.take k)++List.replicate ((S.getD k []).getD 0 0).toNat ((S.getD k []).getD 1 0):=by
 rw [take_succ_tot _ _ h,flatS,flatS,List.flatMap_append,List.flatMap_cons,List.flatMap_nil,List.append_nil]
def exI (a b:Int):List Int:=(ex a.toNat b.toNat).map fun (n:Nat)=>(n:Int)
theorem flatS_stI (a b:Int):flatS (stI a b)=exI a b:=by
 rw [flatS,stI,exI,ex,List.flatMap_map,List.map_flatMap]
 congr 1
 funext p
 simp
theorem ex_len:∀(n a b:Nat),b≤n→(ex a b).length≤a+b
 |0,a,b,h=>by obtain rfl:b=0:=by omega
              rw [ex_zero];simp
 |n+1,a,b,h=>by
  by_cases hb:0<b
  ·rw [ex_pos hb,List.length_append,List.length_replicate]
   have h1:a%b<b:=Nat.mod_lt _ hb
   have h2:=ex_len n b (a%b) (by omega)
   have h3:=Nat.div_add_mod a b
   have h4:a/b≤b*(a/b):=Nat.le_mul_of_pos_left _ hb
   omega
  ·obtain rfl:b=0:=by omega
   rw [ex_zero];simp
theorem stI_mem {a b:Int} {s:List Int} (h:s∈stI a b):s.length=2∧0≤s.getD 0 0∧0≤s.getD 1 0:=by
 simp only [stI,List.mem_map] at h
 obtain ⟨p,_,rfl⟩:=h
 exact ⟨rfl,Int.natCast_nonneg _,Int.natCast_nonneg _⟩
def c_runOf (f:List V→Int→Int→List V) (q:List V→Int→Int→Prop):IContract:=fun
 |[.slc true 2 (.int .i64 0) a0,.int .i64 a1,.int .i64 a2]=>some ([q a0 a1 a2],.slc true 2 (.int .i64 0) (f a0 a1 a2),.hole 0)
 |_=>none
def f_runOf (es:List V) (k e:Int):List V:=es++I (exI k e)
def q_runOf (es:List V) (k e:Int):Prop:=es.length≤100000000∧q_stI k e
set_option maxHeartbeats 1000000 in
set_option maxRecDepth 100000 in
theorem s_impl_runOf:SatM Tryd.prog 62 0 (c_runOf f_runOf q_runOf):=by
 intro args ps r y h hp
 unfold c_runOf at h
 split at h
 ·rename_i a0 a1 a2
  simp only [Option.some.injEq,Prod.mk.injEq] at h
  obtain ⟨rfl,rfl,rfl⟩:=h
  obtain ⟨q0,hq⟩:q_runOf a0 a1 a2:=(alls_cons.1 hp).1
  obtain ⟨q1,q2,q3,q4⟩:=hq
  generalize H_f_stI:f_stI=F_f_stI
  generalize H_q_stI:q_stI=F_q_stI
  refine fnMv_of (T:=tab) (B:=[(69,c_ii_m F_f_stI F_q_stI)]) (Bi:=[]) 0 [0,1,2,6,8,9,12,13,14] Tryd.func62 rfl rfl (by kernel_rfl) (Nat.le_of_ble_eq_true rfl) mixed tabOk (by subst H_f_stI H_q_stI;exact (bookCons s_impl_steps bookNil)) (by subst H_f_stI H_q_stI;exact bookINil) (by kernel_rfl) (Nat.le_of_ble_eq_true rfl) ?_
  intro L lp rr hL hr hf hlp
  conv=>cbv
  obtain ⟨S,hS⟩:∃S,S=stI a1 a2:=⟨_,rfl⟩
  obtain ⟨ss,hss⟩:∃ss,ss=II true S:=⟨_,rfl⟩
  have hF:F_f_stI a1 a2=ss:=by rw [←H_f_stI,f_stI,hss,hS]
  have hsl:ss.length=S.length:=by rw [hss,II_length]
  have hSl:S.length≤1000000:=by
   have:=stp_len a2.toNat a1.toNat a2.toNat (Nat.le_refl _)
   rw [hS,stI,List.length_map];omega
  have gss:∀k,ss.getD k (.slc true 2 (.int .i64 0) [])= .slc true 2 (.int .i64 0) (I (S.getD k [])):=fun k=>by rw [hss,II_getD]
  have hfl:(exI a1 a2).length≤2000000:=by
   have:=ex_len a2.toNat a1.toNat a2.toNat (Nat.le_refl _)
   rw [exI,List.length_map];omega
  have hpre:∀k,(flatS (S.take k)).length≤2000000:=fun k=>by
   have h1:flatS S=flatS (S.take k)++flatS (S.drop k):=by
    rw [flatS,flatS,flatS,←List.flatMap_append,List.take_append_drop]
   have h2:=congrArg List.length h1
   rw [hS,flatS_stI,List.length_append,←hS] at h2
   omega
  simp only [stdEqs hL,imp_self,true_and,and_true,bif_or,bif_and,Bool.or_eq_true,Bool.or_eq_false_iff,Bool.and_eq_true,Bool.and_eq_false_iff,decide_eq_true_eq,decide_eq_false_iff_not,Bool.not_eq_true',Bool.not_eq_false',beq_iff_eq,beq_eq_false_iff_ne,ne_eq,toNat0,toNat1,ok_int,toI_int,I_frzs,I_length,I_getD,ok_ints,toL_slc,hF,hsl]
  refine ⟨by rw [←H_q_stI];exact ⟨q1,q2,q3,q4⟩,?_⟩
  refine hlp (List V×Int) _ _ _ [0,12,13,14] (fun x=>[(0,none,.val (.slc true 2 (.int .i64 0) x.1)),(12,none,.val (.slc true 44 (.slc true 2 (.int .i64 0) []) ss)),(13,none,.val (.int .i64 S.length)),(14,none,.val (.int .i64 x.2))])
   (fun x=>0≤x.2∧x.2≤S.length∧x.1=a0++I (flatS (S.take x.2.toNat))) (fun x=>(S.length-x.2).toNat) ((a0,0)) (by subst hL;rfl) ?_ ?_
  ·exact ⟨by simp,by simp only;omega,by simp [flatS,I]⟩
  rintro ⟨es,i⟩ ⟨i0,i1,hI⟩ hfx ag hag
  simp only at i0 i1 hI
  have hst:=flatS_step S i.toNat
  have hmem:=fun h=>stI_mem (a:=a1) (b:=a2) (s:=S.getD i.toNat []) (by rw [←hS];exact mem_getD h)
  have hp1:=hpre (i.toNat+1)
  generalize hE:S.getD i.toNat []=E at hst hmem
  obtain ⟨m,hm⟩:∃m:Int,m=S.length:=⟨_,rfl⟩
  simp only [←hm]
  conv=>cbv
  simp only [stdEqs hL,imp_self,true_and,and_true,bif_or,bif_and,Bool.or_eq_true,Bool.or_eq_false_iff,Bool.and_eq_true,Bool.and_eq_false_iff,decide_eq_true_eq,decide_eq_false_iff_not,Bool.not_eq_true',Bool.not_eq_false',beq_iff_eq,beq_eq_false_iff_ne,ne_eq,toNat0,toNat1,ok_int,toI_int,I_frzs,I_length,I_getD,ok_ints,toL_slc,hsl,gss,hE]
  refine ⟨fun h=> ?_,fun h=> ?_⟩
  ·obtain ⟨hEl,hE0,hE1⟩:=hmem (by omega)
   have hst':=hst (by omega)
   have hip:i.toNat<S.length:=by omega
   refine ⟨i0,by omega,by omega,?_⟩
   refine hlp (List V×Int) _ _ _ [0,8,9,12,13,14] (fun x=>[(0,none,.val (.slc true 2 (.int .i64 0) x.1)),(8,none,.rf 12 0 [i.toNat]),(9,none,.val (.int .i64 x.2)),(12,none,.val (.slc true 44 (.slc true 2 (.int .i64 0) []) ss)),(13,none,.val (.int .i64 m)),(14,none,.val (.int .i64 i))])
    (fun x=>0≤x.2∧x.2≤E.getD 0 0∧x.1=es++I (List.replicate x.2.toNat (E.getD 1 0))) (fun x=>(E.getD 0 0-x.2).toNat) (es,0) (by subst hL;rfl) ?_ ?_
   ·exact ⟨by simp,hE0,by simp [I]⟩
   rintro ⟨es2,j⟩ ⟨j0,j1,hI2⟩ hfx2 ag2 hag2
   simp only at j0 j1 hI2
   obtain ⟨it,hit⟩:∃it,it=i.toNat:=⟨_,rfl⟩
   simp only [←hit] at hE ⊢
   conv=>cbv
   simp only [stdEqs hL,imp_self,true_and,and_true,bif_or,bif_and,Bool.or_eq_true,Bool.or_eq_false_iff,Bool.and_eq_true,Bool.and_eq_false_iff,decide_eq_true_eq,decide_eq_false_iff_not,Bool.not_eq_true',Bool.not_eq_false',beq_iff_eq,beq_eq_false_iff_ne,ne_eq,toNat0,toNat1,ok_int,toI_int,I_frzs,I_length,I_getD,ok_ints,toL_slc,hsl,gss,hE]
   have hl2:es2.length≤102000000:=by
    rw [hst',List.length_append,List.length_replicate] at hp1
    rw [hI2,hI,List.length_append,I_length,List.length_append,I_length,List.length_replicate]
    omega
   have hEb:E.getD 0 0≤2000000:=by
    rw [hst',List.length_append,List.length_replicate] at hp1
    omega
   have hti:it<S.length:=by omega
   subst hit
   refine ⟨hti,by omega,by omega,hti,by omega,fun hj=> ?_,fun hj=> ?_⟩
   ·rw [wrap_id (n:=j+1) (by omega) (by omega)]
    (repeat' first|(exact solid_one _)|(exact solid1 rfl)|(exact noown_one _)|(apply And.intro)|(intro _))<;>(try first|exact True.intro|omega|rfl|(simp only [List.length_cons,List.length_nil,I_length];omega))
    refine hag2 (_,j+1) ⟨by simp only;omega,by simp only;omega,?_⟩ (by simp only;omega)
    simp only [toNat_succ j0]
    rw [List.replicate_succ',hI2,List.append_assoc,←I_append]
    rfl
   ·rw [wrap_id (n:=i+1) (by omega) (by omega)]
    subst hm
    refine hag (_,i+1) ⟨by simp only;omega,by simp only;omega,?_⟩ (by simp only;omega)
    simp only [toNat_succ i0]
    rw [hst',hI2,hI,List.append_assoc,I_append,show j=E.getD 0 0 by omega]
  ·rw [hr,f_runOf,hI,List.take_of_length_le (by omega),hS,flatS_stI]
 ·cases h
def kkI (xs:List Int) (i:Nat):Int:=xs.getD (i+1) 0-(if i=0 then 0 else xs.getD i 0)
def runI (xs:List Int) (i:Nat):List Int:=exI (kkI xs i) ((dv xs).getD i 0)
def seqP (xs:List Int) (n:Nat):List Int:=(List.range n).flatMap (runI xs)
def seqI (xs:List Int):List Int:=seqP xs (xs.length-1)
theorem seqP_succ (xs:List Int) (n:Nat):seqP xs (n+1)=seqP xs n++runI xs n:=by
 rw [seqP,seqP,List.range_succ,List.flatMap_append,List.flatMap_cons,List.flatMap_nil,List.append_nil]
theorem kkI_in {xs:List Int} (h:Br xs) {i:Nat} (hi:i+1<xs.length):1≤kkI xs i∧kkI xs i≤2000:=by
 have h1:=h.up i hi
 have h2:=h.high (i+1) hi
 have h3:=h.low i (by omega)
 have h4:=h.low (i+1) hi
 rw [kkI]
 split<;>omega
theorem runI_len {xs:List Int} (h:Br xs) {i:Nat} (hi:i+1<xs.length):(runI xs i).length≤3000:=by
 have h1:=kkI_in h hi
 have h2:=h.dhi i (by omega)
 have h3:=h.dpos i (by omega)
 have:=ex_len _ (kkI xs i).toNat ((dv xs).getD i 0).toNat (Nat.le_refl _)
 rw [runI,exI,List.length_map]
 omega
theorem seqP_len {xs:List Int} (h:Br xs):∀n,n+1≤xs.length→(seqP xs n).length≤3000*n
 |0,_=>by simp [seqP]
 |n+1,hn=>by
  have:=seqP_len h n (by omega)
  have:=runI_len h (i:=n) (by omega)
  rw [seqP_succ,List.length_append]
  omega
def sq1 (xs:List Int):List Int:=if xs.length=1 then [1] else seqI xs
def f_seq (es:List V):List V:=I (sq1 (unI es))
set_option maxHeartbeats 1000000 in
set_option maxRecDepth 100000 in
theorem s_impl_sequence:Sat Tryd.prog 55 (c_B_l f_seq IsBr):=by
 intro args ps r h hp
 unfold c_B_l at h
 split at h
 ·rename_i a0
  simp only [Option.some.injEq,Prod.mk.injEq] at h
  obtain ⟨rfl,rfl⟩:=h
  have hq:IsBr a0:=(alls_cons.1 hp).1
  have hqi:=hq.isIs
  obtain ⟨xs,hxs,hb⟩:=hq
  have g1:V.frzs a0=a0:=by rw [hxs,I_frzs]
  have e1:f0_pairs a0=xs.length-1:=by
   have:=hb.len
   rw [f0_pairs,hxs,I_length];exact wrap_id (by omega) (by omega)
  have e2:f_seq a0=I (sq1 xs):=by rw [f_seq,hxs,unI_I]
  have e3:f0_dv a0=I (dv xs):=by rw [f0_dv,hxs,unI_I]
  generalize H_f0_pairs:f0_pairs=F_f0_pairs
  generalize H_f0_dv:f0_dv=F_f0_dv
  generalize H_IsIs:IsIs=F_IsIs
  generalize H_f_runOf:f_runOf=F_f_runOf
  generalize H_q_runOf:q_runOf=F_q_runOf
  refine fnOk_ofI (T:=tab) (B:=[(61,c_b_i F_f0_pairs),(54,c_l_l F_f0_dv F_IsIs)]) (Bi:=[(62,0,true,c_runOf F_f_runOf F_q_runOf)]) [2000009999,0,1,2,3,4,5,6] Tryd.func55 rfl rfl (by kernel_rfl) (Nat.le_of_ble_eq_true rfl) mixed tabOk (by subst H_f0_pairs H_f0_dv H_IsIs H_f_runOf H_q_runOf;exact (bookCons s_impl_pairsOf (bookCons s_impl_divisors bookNil))) (by subst H_f0_pairs H_f0_dv H_IsIs H_f_runOf H_q_runOf;exact (bookMCons s_impl_runOf bookINil)) (by kernel_rfl) ?_
  intro L lp rr hL hr hf hlp
  conv=>cbv
  obtain ⟨ds,hds⟩:∃ds,ds=I (dv xs):=⟨_,rfl⟩
  have l1:ds.length=xs.length:=by rw [hds,I_length,hb.dlen]
  have hF:F_f0_dv a0=ds:=by rw [←H_f0_dv,e3,hds]
  have hF2:F_f0_pairs a0=xs.length-1:=by rw [←H_f0_pairs,e1]
  simp only [stdEqs hL,imp_self,true_and,and_true,bif_or,bif_and,Bool.or_eq_true,Bool.or_eq_false_iff,Bool.and_eq_true,Bool.and_eq_false_iff,decide_eq_true_eq,decide_eq_false_iff_not,Bool.not_eq_true',Bool.not_eq_false',beq_iff_eq,beq_eq_false_iff_ne,ne_eq,toNat0,toNat1,ok_int,toI_int,I_frzs,I_length,I_getD,ok_ints,toL_slc,hF,hF2,g1]
  have hp1:=hb.pos
  have hl1:=hb.len
  refine ⟨fun h=> ?_,fun h=> ?_⟩
  ·rw [hr,e2,sq1,if_pos (by omega)];rfl
  refine ⟨by rw [←H_IsIs];exact hqi,?_⟩
  refine hlp (List V×Int×Int) _ _ _ [1,3,4,5,6] (fun x=>[(1,none,.val (.box 49 (.agg [.slc false 2 (.int .i64 0) a0]))),(3,none,.val (.slc true 2 (.int .i64 0) ds)),(4,none,.val (.slc true 2 (.int .i64 0) x.1)),(5,none,.val (.int .i64 x.2.1)),(6,none,.val (.int .i64 x.2.2))])
   (fun x=>1≤x.2.2∧x.2.2≤xs.length∧x.1=I (seqP xs (x.2.2-1).toNat)∧x.2.1=(if (x.2.2-1).toNat=0 then 0 else xs.getD (x.2.2-1).toNat 0)) (fun x=>(xs.length-x.2.2).toNat) (([],0,1)) (by subst hL;rfl) ?_ ?_
  ·exact ⟨by simp,by simp only;omega,rfl,rfl⟩
  rintro ⟨es,t,i⟩ ⟨i0,i1,hI,hT⟩ hfx ag hag
  simp only at i0 i1 hI hT
  conv=>cbv
  have hlen:es.length≤200000:=by
   have:=seqP_len hb (i-1).toNat (by omega)
   rw [hI,I_length];omega
  have ga:∀k,a0.getD k (.int .i64 0)= .int .i64 (xs.getD k 0):=fun k=>by rw [hxs,I_getD]
  have gd:∀k,ds.getD k (.int .i64 0)= .int .i64 ((dv xs).getD k 0):=fun k=>by rw [hds,I_getD]
  have al:a0.length=xs.length:=by rw [hxs,I_length]
  have w1:IntKind.wrap .i64 (i-1)=i-1:=wrap_id (by omega) (by omega)
  simp only [stdEqs hL,imp_self,true_and,and_true,bif_or,bif_and,Bool.or_eq_true,Bool.or_eq_false_iff,Bool.and_eq_true,Bool.and_eq_false_iff,decide_eq_true_eq,decide_eq_false_iff_not,Bool.not_eq_true',Bool.not_eq_false',beq_iff_eq,beq_eq_false_iff_ne,ne_eq,toNat0,toNat1,ok_int,toI_int,I_frzs,I_length,I_getD,ok_ints,toL_slc,l1,al,ga,gd,w1]
  obtain ⟨k,rfl⟩:∃k:Nat,i=k+1:=⟨(i-1).toNat,by omega⟩
  rw [show ((k:Int)+1-1).toNat=k by omega] at hI hT
  rw [show ((k:Int)+1-1).toNat=k by omega,show ((k:Int)+1).toNat=k+1 by omega]
  refine ⟨fun h2=> ?_,fun h2=> ?_⟩
  ·have hk:xs.getD (k+1) 0-t=kkI xs k:=by rw [kkI,hT]
   have hkk:=kkI_in hb (i:=k) (by omega)
   have hd1:=hb.dpos k (by omega)
   have hd2:=hb.dhi k (by omega)
   rw [hk,wrap_id (n:=kkI xs k) (by omega) (by omega),wrap_id (n:=(k:Int)+1+1) (by omega) (by omega)]
   refine ⟨by omega,by omega,by omega,by omega,by omega,by rw [←H_q_runOf];exact ⟨by omega,by omega,by omega,by omega,by omega⟩,by omega,by omega,?_⟩
   refine hag (_,_,(k:Int)+1+1) ⟨by simp only;omega,by simp only;omega,?_,?_⟩ (by simp only;omega)
   ·simp only
    rw [show ((k:Int)+1+1-1).toNat=k+1 by omega,seqP_succ,←H_f_runOf,f_runOf,hI,I_append]
    rfl
   ·simp only
    rw [show ((k:Int)+1+1-1).toNat=k+1 by omega,if_neg (by omega)]
    rfl
  ·rw [hr,e2,sq1,if_neg (by omega),hI,seqI,show xs.length-1=k by omega]
 ·cases h
def firstK (xs:List Int) (k:Nat):List Int:=tab' (fun i=>(seqI xs).getD i 1) k
theorem firstK_len (xs:List Int) (k:Nat):(firstK xs k).length=k:=tab_len _ _
theorem sq1_get (xs:List Int) (i:Nat):(sq1 xs).getD i 1=(seqI xs).getD i 1:=by
 rw [sq1]
 split
 ·rename_i h
  have:seqI xs=[]:=by rw [seqI,h];rfl
  rw [this]
  cases i with
  |zero=>rfl
  |succ i=>rfl
 ·rfl
theorem getD_ones (l:List Int) (n i:Nat):(l++List.replicate n 1).getD i 1=l.getD i 1:=by
 simp only [List.getD_eq_getElem?_getD]
 by_cases h:i<l.length
 ·rw [List.getElem?_append_left h]
 ·rw [List.getElem?_append_right (by omega),List.getElem?_eq_none (l:=l) (by omega),List.getElem?_replicate]
  split<;>rfl
theorem take_first {l:List Int} {xs:List Int} {n k:Nat} (hl:∀i,l.getD i 1=(seqI xs).getD i 1) (h:k≤(l++List.replicate n 1).length):(l++List.replicate n 1).take k=firstK xs k:=by
 apply List.ext_getElem?
 intro i
 by_cases hi:i<k
 ·rw [List.getElem?_take_of_lt hi,firstK,tab_get? _ _ _ hi,←hl i,←getD_ones l n i,List.getD_eq_getElem?_getD,List.getElem?_eq_getElem (by omega)]
  rfl
 ·rw [List.getElem?_eq_none (by rw [List.length_take];omega),List.getElem?_eq_none (by rw [firstK_len];omega)]
def c_Bi_L (f:List V→Int→List V) (q:List V→Int→Prop):Contract:=fun
 |[.agg [.slc false 2 (.int .i64 0) a0],.int .i64 a1]=>some ([q a0 a1],.slc false 2 (.int .i64 0) (f a0 a1))
 |_=>none
def c_Bi_l (f:List V→Int→List V) (q:List V→Int→Prop):Contract:=fun
 |[.agg [.slc false 2 (.int .i64 0) a0],.int .i64 a1]=>some ([q a0 a1],.slc true 2 (.int .i64 0) (f a0 a1))
 |_=>none
def f_first (es:List V) (k:Int):List V:=I (firstK (unI es) k.toNat)
def q_first (es:List V) (k:Int):Prop:=IsBr es∧1≤k∧k≤1000000
theorem sq1_len {xs:List Int} (h:Br xs):(sq1 xs).length≤200000:=by
 have h1:=h.len
 have h2:=h.pos
 have:=seqP_len h (xs.length-1) (by omega)
 rw [sq1]
 split
 ·simp
 ·rw [seqI];omega
set_option maxHeartbeats 1000000 in
set_option maxRecDepth 100000 in
theorem s_impl_firstOf:Sat Tryd.prog 47 (c_Bi_L f_first q_first):=by
 intro args ps r h hp
 unfold c_Bi_L at h
 split at h
 ·rename_i a0 a1
  simp only [Option.some.injEq,Prod.mk.injEq] at h
  obtain ⟨rfl,rfl⟩:=h
  obtain ⟨hq,k1,k2⟩:q_first a0 a1:=(alls_cons.1 hp).1
  have hqb:=hq
  obtain ⟨xs,hxs,hb⟩:=hq
  have g1:V.frzs a0=a0:=by rw [hxs,I_frzs]
  obtain ⟨ss,hss⟩:∃ss,ss=I (sq1 xs):=⟨_,rfl⟩
  have e1:f_seq a0=ss:=by rw [f_seq,hxs,unI_I,hss]
  have e2:f_first a0 a1=I (firstK xs a1.toNat):=by rw [f_first,hxs,unI_I]
  have hsl:ss.length≤200000:=by rw [hss,I_length];exact sq1_len hb
  generalize H_f_seq:f_seq=F_f_seq
  generalize H_IsBr:IsBr=F_IsBr
  refine fnOk_ofI (T:=tab) (B:=[(55,c_B_l F_f_seq F_IsBr)]) (Bi:=[]) [0,1,2,4,5] Tryd.func47 rfl rfl (by kernel_rfl) (Nat.le_of_ble_eq_true rfl) mixed tabOk (by subst H_f_seq H_IsBr;exact (bookCons s_impl_sequence bookNil)) (by subst H_f_seq H_IsBr;exact bookINil) (by kernel_rfl) ?_
  intro L lp rr hL hr hf hlp
  conv=>cbv
  have hF:F_f_seq a0=ss:=by rw [←H_f_seq,e1]
  simp only [stdEqs hL,imp_self,true_and,and_true,bif_or,bif_and,Bool.or_eq_true,Bool.or_eq_false_iff,Bool.and_eq_true,Bool.and_eq_false_iff,decide_eq_true_eq,decide_eq_false_iff_not,Bool.not_eq_true',Bool.not_eq_false',beq_iff_eq,beq_eq_false_iff_ne,ne_eq,toNat0,toNat1,ok_int,toI_int,I_frzs,I_length,I_getD,ok_ints,toL_slc,hF,g1]
  refine ⟨by rw [←H_IsBr];exact hqb,?_⟩
  refine hlp (List V×Nat) _ _ _ [1,5] (fun x=>[(1,none,.val (.int .i64 a1)),(5,none,.val (.slc true 2 (.int .i64 0) x.1))])
   (fun x=>x.1=I (sq1 xs++List.replicate x.2 1)∧x.1.length≤1200000) (fun x=>a1.toNat-x.1.length) ((ss,0)) (by subst hL;rfl) ?_ ?_
  ·exact ⟨by simp [hss],by simp only;omega⟩
  rintro ⟨es,n⟩ ⟨hI,hl⟩ hfx ag hag
  simp only at hI hl
  conv=>cbv
  simp only [stdEqs hL,imp_self,true_and,and_true,bif_or,bif_and,Bool.or_eq_true,Bool.or_eq_false_iff,Bool.and_eq_true,Bool.and_eq_false_iff,decide_eq_true_eq,decide_eq_false_iff_not,Bool.not_eq_true',Bool.not_eq_false',beq_iff_eq,beq_eq_false_iff_ne,ne_eq,toNat0,toNat1,ok_int,toI_int,I_frzs,I_length,I_getD,ok_ints,toL_slc,]
  refine ⟨fun h=> ?_,fun h=> ?_⟩
  ·(repeat' first|(exact solid_one _)|(exact solid1 rfl)|(exact noown_one _)|(apply And.intro)|(intro _))<;>(try first|exact True.intro|omega|rfl|(simp only [List.length_cons,List.length_nil,I_length];omega))
   refine hag (_,n+1) ⟨?_,?_⟩ ?_
   ·simp only
    rw [List.replicate_succ',←List.append_assoc,←I_append,hI]
    rfl
   ·simp only [List.length_append,List.length_cons,List.length_nil];omega
   ·simp only [List.length_append,List.length_cons,List.length_nil];omega
  ·refine ⟨by omega,by omega,by omega,by omega,?_⟩
   rw [hr,e2,List.drop_zero,hI,I_frzs,I_take,take_first (sq1_get xs) (by rw [hI,I_length] at h;omega)]
 ·cases h
theorem II_solid (xss:List (List Int)):∀x∈II true xss,x.solid=true:=by
 intro x h
 simp only [II,List.mem_map] at h
 obtain ⟨xs,_,rfl⟩:=h
 rfl
def runsP (xs:List Int) (n:Nat):List (List Int):=(List.range n).flatMap fun i=>stI (kkI xs i) ((dv xs).getD i 0)
def runsI (xs:List Int):List (List Int):=runsP xs (xs.length-1)
theorem runsP_succ (xs:List Int) (n:Nat):runsP xs (n+1)=runsP xs n++stI (kkI xs n) ((dv xs).getD n 0):=by
 rw [runsP,runsP,List.range_succ,List.flatMap_append,List.flatMap_cons,List.flatMap_nil,List.append_nil]
theorem flatS_runs (xs:List Int):∀n,flatS (runsP xs n)=seqP xs n
 |0=>rfl
 |n+1=>by
  have h:∀a b:List (List Int),flatS (a++b)=flatS a++flatS b:=fun a b=>by rw [flatS,List.flatMap_append];rfl
  rw [runsP_succ,seqP_succ,h,flatS_runs xs n,flatS_stI,runI]
theorem stI_len {xs:List Int} (h:Br xs) {i:Nat} (hi:i+1<xs.length):(stI (kkI xs i) ((dv xs).getD i 0)).length≤64:=by
 have h2:=h.dhi i (by omega)
 have h3:=h.dpos i (by omega)
 have:=stp_len _ (kkI xs i).toNat ((dv xs).getD i 0).toNat (Nat.le_refl _)
 rw [stI,List.length_map]
 omega
theorem runsP_len {xs:List Int} (h:Br xs):∀n,n+1≤xs.length→(runsP xs n).length≤64*n
 |0,_=>by simp [runsP]
 |n+1,hn=>by
  have:=runsP_len h n (by omega)
  have:=stI_len h (i:=n) (by omega)
  rw [runsP_succ,List.length_append]
  omega
theorem runsP_mem {xs:List Int}:∀n,∀s∈runsP xs n,s.length=2∧0≤s.getD 0 0∧0≤s.getD 1 0:=by
 intro n s h
 simp only [runsP,List.mem_flatMap] at h
 obtain ⟨i,_,h⟩:=h
 exact stI_mem h
def c_B_m' (f:List V→List V) (q:List V→Prop):Contract:=fun
 |[.agg [.slc false 2 (.int .i64 0) a0]]=>some ([q a0],.slc true 44 (.slc true 2 (.int .i64 0) []) (f a0))
 |_=>none
def f_runs (es:List V):List V:=II true (runsI (unI es))
set_option maxHeartbeats 1000000 in
set_option maxRecDepth 100000 in
theorem s_spec_l04Runs:Sat Tryd.prog 59 (c_B_m' f_runs IsBr):=by
 intro args ps r h hp
 unfold c_B_m' at h
 split at h
 ·rename_i a0
  simp only [Option.some.injEq,Prod.mk.injEq] at h
  obtain ⟨rfl,rfl⟩:=h
  have hq:IsBr a0:=(alls_cons.1 hp).1
  have hqp:=hq.isP
  obtain ⟨xs,hxs,hb⟩:=hq
  have g1:V.frzs a0=a0:=by rw [hxs,I_frzs]
  have e2:f_runs a0=II true (runsI xs):=by rw [f_runs,hxs,unI_I]
  have e3:f0_dv a0=I (dv xs):=by rw [f0_dv,hxs,unI_I]
  generalize H_f0_dv:f0_dv=F_f0_dv
  generalize H_IsP:IsP=F_IsP
  generalize H_f_stI:f_stI=F_f_stI
  generalize H_q_stI:q_stI=F_q_stI
  refine fnOk_ofI (T:=tab) (B:=[(66,c_b_l F_f0_dv F_IsP),(67,c_ii_m F_f_stI F_q_stI)]) (Bi:=[]) [0,1,2,3,4,5,6] Tryd.func59 rfl rfl (by kernel_rfl) (Nat.le_of_ble_eq_true rfl) mixed tabOk (by subst H_f0_dv H_IsP H_f_stI H_q_stI;exact (bookCons s_spec_l03Divisors (bookCons s_spec_l01Steps bookNil))) (by subst H_f0_dv H_IsP H_f_stI H_q_stI;exact bookINil) (by kernel_rfl) ?_
  intro L lp rr hL hr hf hlp
  conv=>cbv
  obtain ⟨ds,hds⟩:∃ds,ds=I (dv xs):=⟨_,rfl⟩
  have l1:ds.length=xs.length:=by rw [hds,I_length,hb.dlen]
  have hF:F_f0_dv a0=ds:=by rw [←H_f0_dv,e3,hds]
  simp only [stdEqs hL,imp_self,true_and,and_true,bif_or,bif_and,Bool.or_eq_true,Bool.or_eq_false_iff,Bool.and_eq_true,Bool.and_eq_false_iff,decide_eq_true_eq,decide_eq_false_iff_not,Bool.not_eq_true',Bool.not_eq_false',beq_iff_eq,beq_eq_false_iff_ne,ne_eq,toNat0,toNat1,ok_int,toI_int,I_frzs,I_length,I_getD,ok_ints,toL_slc,hF,g1]
  refine ⟨by rw [←H_IsP];exact hqp,?_⟩
  have hp1:=hb.pos
  have hl1:=hb.len
  refine hlp (List V×Int) _ _ _ [1,3,4,5] (fun x=>[(1,none,.val (.box 49 (.agg [.slc false 2 (.int .i64 0) a0]))),(3,none,.val (.slc true 2 (.int .i64 0) ds)),(4,none,.val (.slc true 44 (.slc true 2 (.int .i64 0) []) x.1)),(5,none,.val (.int .i64 x.2))])
   (fun x=>1≤x.2∧x.2≤xs.length∧x.1=II true (runsP xs (x.2-1).toNat)) (fun x=>(xs.length-x.2).toNat) (([],1)) (by subst hL;rfl) ?_ ?_
  ·exact ⟨by simp,by simp only;omega,rfl⟩
  rintro ⟨es,i⟩ ⟨i0,i1,hI⟩ hfx ag hag
  simp only at i0 i1 hI
  conv=>cbv
  have ga:∀k,a0.getD k (.int .i64 0)= .int .i64 (xs.getD k 0):=fun k=>by rw [hxs,I_getD]
  have gd:∀k,ds.getD k (.int .i64 0)= .int .i64 ((dv xs).getD k 0):=fun k=>by rw [hds,I_getD]
  have al:a0.length=xs.length:=by rw [hxs,I_length]
  have w1:IntKind.wrap .i64 (i-1)=i-1:=wrap_id (by omega) (by omega)
  simp only [stdEqs hL,imp_self,true_and,and_true,bif_or,bif_and,Bool.or_eq_true,Bool.or_eq_false_iff,Bool.and_eq_true,Bool.and_eq_false_iff,decide_eq_true_eq,decide_eq_false_iff_not,Bool.not_eq_true',Bool.not_eq_false',beq_iff_eq,beq_eq_false_iff_ne,ne_eq,toNat0,toNat1,ok_int,toI_int,I_frzs,I_length,I_getD,ok_ints,toL_slc,l1,al,ga,gd,w1]
  obtain ⟨k,rfl⟩:∃k:Nat,i=k+1:=⟨(i-1).toNat,by omega⟩
  rw [show ((k:Int)+1-1).toNat=k by omega] at hI
  rw [show ((k:Int)+1-1).toNat=k by omega,show ((k:Int)+1).toNat=k+1 by omega]
  have fin:(k:Int)+1<xs.length→∀z,z=kkI xs k→F_q_stI z ((dv xs).getD k 0)∧(es.length:Int)+(F_f_stI z ((dv xs).getD k 0)).length≤2147483647∧(∀x∈F_f_stI z ((dv xs).getD k 0),x.solid=true)∧ag (keepS [1,3,4,5] [(1,none,.val (.box 49 (.agg [.slc false 2 (.int .i64 0) a0]))),(3,none,.val (.slc true 2 (.int .i64 0) ds)),(4,none,.val (.slc true 44 (.slc true 2 (.int .i64 0) []) (es++F_f_stI z ((dv xs).getD k 0)))),(5,none,.val (.int .i64 (k+1+1)))]):=by
   intro h z hz
   have hkk:=kkI_in hb (i:=k) (by omega)
   have hd1:=hb.dpos k (by omega)
   have hd2:=hb.dhi k (by omega)
   have hlr:=runsP_len hb k (by omega)
   have hls:=stI_len hb (i:=k) (by omega)
   have hfz:F_f_stI z ((dv xs).getD k 0)=II true (stI (kkI xs k) ((dv xs).getD k 0)):=by rw [←H_f_stI,hz];rfl
   rw [hfz]
   refine ⟨by rw [←H_q_stI,hz];exact ⟨by omega,by omega,by omega,by omega⟩,by rw [hI,II_length,II_length];omega,II_solid _,?_⟩
   refine hag (_,(k:Int)+1+1) ⟨by simp only;omega,by simp only;omega,?_⟩ (by simp only;omega)
   simp only
   rw [show ((k:Int)+1+1-1).toNat=k+1 by omega,runsP_succ,hI,II_append]
  refine ⟨fun h=>⟨by omega,by omega,fun h2=> ?_,fun h2=> ?_⟩,fun h=> ?_⟩
  ·have hz:IntKind.wrap .i64 (xs.getD (k+1) 0-xs.getD k 0)=kkI xs k:=by
    have hkk:=kkI_in hb (i:=k) (by omega)
    have e:xs.getD (k+1) 0-xs.getD k 0=kkI xs k:=by rw [kkI,if_neg (by omega)]
    rw [e,wrap_id (by omega) (by omega)]
   obtain ⟨f1,f2,f3,f4⟩:=fin h _ hz
   rw [wrap_id (n:=(k:Int)+1+1) (by omega) (by omega)]
   exact ⟨by omega,by omega,by omega,by omega,by omega,f1,f2,f3,f4⟩
  ·have hz:xs.getD (k+1) 0=kkI xs k:=by
    rw [kkI,if_pos (by omega)]
    omega
   obtain ⟨f1,f2,f3,f4⟩:=fin h _ hz
   rw [wrap_id (n:=(k:Int)+1+1) (by omega) (by omega)]
   exact ⟨by omega,by omega,by omega,f1,f2,f3,f4⟩
  ·rw [hr,e2,hI,runsI,show xs.length-1=k by omega]
 ·cases h
theorem take_fill {xs:List Int} {k n:Nat} (h:((seqI xs).take k++List.replicate n 1).length=k):(seqI xs).take k++List.replicate n 1=firstK xs k:=by
 apply List.ext_getElem?
 intro i
 by_cases hi:i<k
 ·have h1:((seqI xs).take k++List.replicate n 1).getD i 1=(seqI xs).getD i 1:=by
   rw [getD_ones,List.getD_eq_getElem?_getD,List.getElem?_take_of_lt hi,←List.getD_eq_getElem?_getD]
  rw [firstK,tab_get? _ _ _ hi,←h1,List.getD_eq_getElem?_getD,List.getElem?_eq_getElem (by omega)]
  rfl
 ·rw [List.getElem?_eq_none (by omega),List.getElem?_eq_none (by rw [firstK_len];omega)]
theorem take_more {l:List Int} {k:Nat} (x:Int) (h:(l.take k).length<k):l.take k++[x]=(l++[x]).take k:=by
 rw [List.length_take] at h
 rw [List.take_of_length_le (by omega),List.take_of_length_le (by simp;omega)]
theorem take_full {l:List Int} {k:Nat} (m:List Int) (h:¬(l.take k).length<k):l.take k=(l++m).take k:=by
 rw [List.length_take] at h
 rw [List.take_append_of_le_length (by omega)]
set_option maxHeartbeats 1000000 in
set_option maxRecDepth 100000 in
theorem s_spec_l06Sequence:Sat Tryd.prog 53 (c_Bi_l f_first q_first):=by
 intro args ps r h hp
 unfold c_Bi_l at h
 split at h
 ·rename_i a0 a1
  simp only [Option.some.injEq,Prod.mk.injEq] at h
  obtain ⟨rfl,rfl⟩:=h
  obtain ⟨hq,k1,k2⟩:q_first a0 a1:=(alls_cons.1 hp).1
  have hqb:=hq
  obtain ⟨xs,hxs,hb⟩:=hq
  have g1:V.frzs a0=a0:=by rw [hxs,I_frzs]
  obtain ⟨S,hS⟩:∃S,S=runsI xs:=⟨_,rfl⟩
  obtain ⟨ss,hss⟩:∃ss,ss=II true S:=⟨_,rfl⟩
  have e1:f_runs a0=ss:=by rw [f_runs,hxs,unI_I,hss,hS]
  have e2:f_first a0 a1=I (firstK xs a1.toNat):=by rw [f_first,hxs,unI_I]
  have hsl:ss.length=S.length:=by rw [hss,II_length]
  have hSl:S.length≤5000:=by
   have h1:=hb.len
   have h2:=hb.pos
   have:=runsP_len hb (xs.length-1) (by omega)
   rw [hS,runsI];omega
  have gss:∀k,ss.getD k (.slc true 2 (.int .i64 0) [])= .slc true 2 (.int .i64 0) (I (S.getD k [])):=fun k=>by rw [hss,II_getD]
  generalize H_f_runs:f_runs=F_f_runs
  generalize H_IsBr:IsBr=F_IsBr
  refine fnOk_ofI (T:=tab) (B:=[(59,c_B_m' F_f_runs F_IsBr)]) (Bi:=[]) [0,1,2,4,5,6,7,8] Tryd.func53 rfl rfl (by kernel_rfl) (Nat.le_of_ble_eq_true rfl) mixed tabOk (by subst H_f_runs H_IsBr;exact (bookCons s_spec_l04Runs bookNil)) (by subst H_f_runs H_IsBr;exact bookINil) (by kernel_rfl) ?_
  intro L lp rr hL hr hf hlp
  conv=>cbv
  have hF:F_f_runs a0=ss:=by rw [←H_f_runs,e1]
  simp only [stdEqs hL,imp_self,true_and,and_true,bif_or,bif_and,Bool.or_eq_true,Bool.or_eq_false_iff,Bool.and_eq_true,Bool.and_eq_false_iff,decide_eq_true_eq,decide_eq_false_iff_not,Bool.not_eq_true',Bool.not_eq_false',beq_iff_eq,beq_eq_false_iff_ne,ne_eq,toNat0,toNat1,ok_int,toI_int,I_frzs,I_length,I_getD,ok_ints,toL_slc,hF,g1]
  refine ⟨by rw [←H_IsBr];exact hqb,?_⟩
  refine hlp (List V×Int) _ _ _ [1,5,6,7] (fun x=>[(1,none,.val (.int .i64 a1)),(5,none,.val (.slc true 2 (.int .i64 0) x.1)),(6,none,.val (.slc true 44 (.slc true 2 (.int .i64 0) []) ss)),(7,none,.val (.int .i64 x.2))])
   (fun x=>0≤x.2∧x.2≤S.length∧x.1=I ((flatS (S.take x.2.toNat)).take a1.toNat)) (fun x=>(S.length-x.2).toNat) (([],0)) (by subst hL;rfl) ?_ ?_
  ·exact ⟨by simp,by simp only;omega,by simp [flatS,I]⟩
  rintro ⟨es,i⟩ ⟨i0,i1,hI⟩ hfx ag hag
  simp only at i0 i1 hI
  have hst:=flatS_step S i.toNat
  have hmem:=fun (h:i.toNat<S.length)=>runsP_mem (xs:=xs) (xs.length-1) (S.getD i.toNat []) (by have:=mem_getD h;rwa [hS,runsI] at this ⊢)
  generalize hE:S.getD i.toNat []=E at hst hmem
  have hl:es.length≤a1.toNat:=by rw [hI,I_length,List.length_take];omega
  conv=>cbv
  simp only [stdEqs hL,imp_self,true_and,and_true,bif_or,bif_and,Bool.or_eq_true,Bool.or_eq_false_iff,Bool.and_eq_true,Bool.and_eq_false_iff,decide_eq_true_eq,decide_eq_false_iff_not,Bool.not_eq_true',Bool.not_eq_false',beq_iff_eq,beq_eq_false_iff_ne,ne_eq,toNat0,toNat1,ok_int,toI_int,I_frzs,I_length,I_getD,ok_ints,toL_slc,hsl,gss,hE]
  refine ⟨fun h=> ?_,fun h=> ?_⟩
  ·obtain ⟨hEl,hE0,hE1⟩:=hmem (by omega)
   have hst':=hst (by omega)
   obtain ⟨it,hit⟩:∃it,it=i.toNat:=⟨_,rfl⟩
   simp only [←hit] at hE hst' hI ⊢
   have hti:it<S.length:=by omega
   have hEb:E.getD 0 0≤200000:=by
    have h1:flatS S=flatS (S.take (it+1))++flatS (S.drop (it+1)):=by
     rw [flatS,flatS,flatS,←List.flatMap_append,List.take_append_drop]
    have h2:=congrArg List.length h1
    have h3:=hb.pos
    have h4:=hb.len
    have h5:=seqP_len hb (xs.length-1) (by omega)
    have h6:flatS S=seqP xs (xs.length-1):=by rw [hS,runsI,flatS_runs]
    rw [h6,List.length_append,hst',List.length_append,List.length_replicate] at h2
    omega
   refine ⟨by omega,by omega,hti,hti,by omega,by omega,hti,by omega,?_⟩
   refine hlp (List V×Int) _ _ _ [1,5,6,7,8] (fun x=>[(1,none,.val (.int .i64 a1)),(5,none,.val (.slc true 2 (.int .i64 0) x.1)),(6,none,.val (.slc true 44 (.slc true 2 (.int .i64 0) []) ss)),(7,none,.val (.int .i64 i)),(8,none,.val (.int .i64 x.2))])
    (fun x=>0≤x.2∧x.2≤E.getD 0 0∧x.1=I ((flatS (S.take it)++List.replicate (E.getD 0 0-x.2).toNat (E.getD 1 0)).take a1.toNat)) (fun x=>x.2.toNat) ((es,E.getD 0 0)) (by subst hL;rfl) ?_ ?_
   ·exact ⟨by simp only;omega,by simp,by simp [hI]⟩
   rintro ⟨es2,q⟩ ⟨j0,j1,hI2⟩ hfx2 ag2 hag2
   simp only at j0 j1 hI2
   have hl2:es2.length≤a1.toNat:=by rw [hI2,I_length,List.length_take];omega
   conv=>cbv
   simp only [stdEqs hL,imp_self,true_and,and_true,bif_or,bif_and,Bool.or_eq_true,Bool.or_eq_false_iff,Bool.and_eq_true,Bool.and_eq_false_iff,decide_eq_true_eq,decide_eq_false_iff_not,Bool.not_eq_true',Bool.not_eq_false',beq_iff_eq,beq_eq_false_iff_ne,ne_eq,toNat0,toNat1,ok_int,toI_int,I_frzs,I_length,I_getD,ok_ints,toL_slc,hsl,gss,←hit,hE]
   refine ⟨fun hj=> ?_,fun hj=> ?_⟩
   ·rw [wrap_id (n:=q-1) (by omega) (by omega)]
    refine ⟨by omega,by omega,hti,hti,by omega,by omega,hti,by omega,noown_one _,by simp only [List.length_cons,List.length_nil];omega,solid_one _,?_⟩
    refine hag2 (_,q-1) ⟨by simp only;omega,by simp only;omega,?_⟩ (by simp only;omega)
    simp only
    have hlt:((flatS (S.take it)++List.replicate (E.getD 0 0-q).toNat (E.getD 1 0)).take a1.toNat).length<a1.toNat:=by
     have:=hj.2
     rw [hI2,I_length] at this
     omega
    rw [show (E.getD 0 0-(q-1)).toNat=(E.getD 0 0-q).toNat+1 by omega,List.replicate_succ',←List.append_assoc,←take_more _ hlt,hI2,←I_append]
    rfl
   ·rw [wrap_id (n:=i+1) (by omega) (by omega)]
    refine hag (_,i+1) ⟨by simp only;omega,by simp only;omega,?_⟩ (by simp only;omega)
    simp only [toNat_succ i0,←hit]
    rw [hst',hI2]
    by_cases hq0:q=0
    ·rw [show (E.getD 0 0-q).toNat=(E.getD 0 0).toNat by omega]
    ·have hfl:¬((flatS (S.take it)++List.replicate (E.getD 0 0-q).toNat (E.getD 1 0)).take a1.toNat).length<a1.toNat:=by
      have:=hj.resolve_left (by omega)
      rw [hI2,I_length] at this
      omega
     rw [take_full (List.replicate q.toNat (E.getD 1 0)) hfl,List.append_assoc,List.replicate_append_replicate,show (E.getD 0 0-q).toNat+q.toNat=(E.getD 0 0).toNat by omega]
  ·have hI':es=I ((seqI xs).take a1.toNat):=by
    rw [hI,List.take_of_length_le (l:=S) (by omega),hS,runsI,flatS_runs,seqI]
   clear hst hmem hI
   refine hlp (List V×Nat) _ _ _ [1,5] (fun x=>[(1,none,.val (.int .i64 a1)),(5,none,.val (.slc true 2 (.int .i64 0) x.1))])
    (fun x=>x.1=I ((seqI xs).take a1.toNat++List.replicate x.2 1)∧x.1.length≤a1.toNat) (fun x=>a1.toNat-x.1.length) ((es,0)) (by subst hL;rfl) ?_ ?_
   ·exact ⟨by simp [hI'],hl⟩
   rintro ⟨es2,n⟩ ⟨hI2,hl2⟩ hfx2 ag2 hag2
   simp only at hI2 hl2
   conv=>cbv
   simp only [stdEqs hL,imp_self,true_and,and_true,bif_or,bif_and,Bool.or_eq_true,Bool.or_eq_false_iff,Bool.and_eq_true,Bool.and_eq_false_iff,decide_eq_true_eq,decide_eq_false_iff_not,Bool.not_eq_true',Bool.not_eq_false',beq_iff_eq,beq_eq_false_iff_ne,ne_eq,toNat0,toNat1,ok_int,toI_int,I_frzs,I_length,I_getD,ok_ints,toL_slc,]
   refine ⟨fun h=> ?_,fun h=> ?_⟩
   ·(repeat' first|(exact solid_one _)|(exact solid1 rfl)|(exact noown_one _)|(apply And.intro)|(intro _))<;>(try first|exact True.intro|omega|rfl|(simp only [List.length_cons,List.length_nil,I_length];omega))
    refine hag2 (_,n+1) ⟨?_,?_⟩ ?_
    ·simp only
     rw [List.replicate_succ',←List.append_assoc,←I_append,hI2]
     rfl
    ·simp only [List.length_append,List.length_cons,List.length_nil];omega
    ·simp only [List.length_append,List.length_cons,List.length_nil];omega
   ·rw [hr,e2,hI2,take_fill (by rw [hI2,I_length] at h hl2;omega)]
 ·cases h
end Go.Ax
