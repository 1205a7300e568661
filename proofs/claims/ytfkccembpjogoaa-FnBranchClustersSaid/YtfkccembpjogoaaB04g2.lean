import Derived.Test.YtfkccembpjogoaaB01g2
import Derived.Test.YtfkccembpjogoaaB03g2
import Derived.Test.YtfkccembpjogoaaB02g2
/-
 Lists the other way round:slices.Reverse,impl.reversed. No conditions but those of the contracts.
-/
set_option linter.all false
namespace Go.Ax
open Go.Proofs
def revK (k:Nat) (xs:List Int):List Int:=tab' (fun t=>if t<k∨xs.length-k≤t then xs.getD (xs.length-1-t) 0 else xs.getD t 0) xs.length
theorem revK_len (k:Nat) (xs:List Int):(revK k xs).length=xs.length:=tab_len _ _
theorem revK_get {k t:Nat} {xs:List Int} (h:t<xs.length):(revK k xs).getD t 0=if t<k∨xs.length-k≤t then xs.getD (xs.length-1-t) 0 else xs.getD t 0:=by
 rw [revK,tab_get _ _ _ _ h]
theorem revK_0 (xs:List Int):revK 0 xs=xs:=by
 apply List.ext_getElem?
 intro j
 by_cases hj:j<xs.length
 ·rw [revK,tab_get? _ _ _ hj,if_neg (by omega),List.getD_eq_getElem?_getD,List.getElem?_eq_getElem hj];rfl
 ·rw [List.getElem?_eq_none (by rw [revK_len];omega),List.getElem?_eq_none (by omega)]
theorem revK_all {k:Nat} {xs:List Int} (h:xs.length≤2*k+1):revK k xs=xs.reverse:=by
 apply List.ext_getElem?
 intro j
 by_cases hj:j<xs.length
 ·rw [revK,tab_get? _ _ _ hj,List.getElem?_reverse hj]
  split
  ·rw [List.getD_eq_getElem?_getD,List.getElem?_eq_getElem (by omega)];rfl
  ·rw [show xs.length-1-j=j by omega,List.getD_eq_getElem?_getD,List.getElem?_eq_getElem hj];rfl
 ·rw [List.getElem?_eq_none (by rw [revK_len];omega),List.getElem?_eq_none (by rw [List.length_reverse];omega)]
theorem tab_setR {α:Type} (f:Nat→α) {n i:Nat} (x:α) (h:i<n):(tab' f n).set i x=tab' (fun t=>if t=i then x else f t) n:=by
 apply List.ext_getElem?
 intro j
 rw [List.getElem?_set]
 by_cases hj:j<n
 ·rw [tab_get? _ _ _ hj,tab_get? _ _ _ hj]
  by_cases h1:i=j
  ·rw [if_pos h1,if_pos (by rw [tab_len];exact h),if_pos h1.symm]
  ·rw [if_neg h1,if_neg (Ne.symm h1)]
 ·rw [if_neg (by omega),List.getElem?_eq_none (by rw [tab_len];omega),List.getElem?_eq_none (by rw [tab_len];omega)]
theorem revK_step {k l:Nat} {xs:List Int} (h:k<l) (hl:k+l+1=xs.length):((revK k xs).set k (xs.getD l 0)).set l (xs.getD k 0)=revK (k+1) xs:=by
 rw [revK,tab_setR _ _ (by omega),tab_setR _ _ (by omega),revK]
 refine tab_congr fun j hj=> ?_
 by_cases e1:j=l
 ·subst e1
  rw [if_pos rfl,if_pos (by omega),show xs.length-1-j=k by omega]
 ·rw [if_neg e1]
  by_cases e2:j=k
  ·subst e2
   rw [if_pos rfl,if_pos (by omega),show xs.length-1-j=l by omega]
  ·rw [if_neg e2]
   by_cases e3:j<k∨xs.length-k≤j
   ·rw [if_pos e3,if_pos (by omega)]
   ·rw [if_neg e3,if_neg (by omega)]
def ic_rev (f1:List V→List V) (q:List V→Prop):IContract:=fun
 |[.slc true 2 (.int .i64 0) a0]=>some ([q a0],.tup [],.slc true 2 (.int .i64 0) (f1 a0))
 |_=>none
def f_rev (a:List V):List V:=I (unI a).reverse
set_option maxHeartbeats 1000000 in
set_option maxRecDepth 100000 in
theorem s_reverse:SatI Try.prog 144 0 (ic_rev f_rev IsIs):=by
 intro args ps r y h hp
 unfold ic_rev at h
 split at h
 ·rename_i a0
  simp only [Option.some.injEq,Prod.mk.injEq] at h
  obtain ⟨rfl,rfl,rfl⟩:=h
  obtain ⟨⟨xs,hes⟩,hl⟩:IsIs a0:=(alls_cons.1 hp).1
  have hel:a0.length=xs.length:=by rw [hes,I_length]
  rw [hel] at hl
  refine fnIO_of (T:=tab) (B:=[]) (Bi:=[]) 0 [3000003002,3000003003,0,2,3] Try.func144 rfl rfl (by kernel_rfl) (Nat.le_of_ble_eq_true rfl) mixed tabOk (by exact bookNil) (by exact bookINil) (by kernel_rfl) rfl rfl rfl (by rw [f_rev,hes,unI_I];exact Sh.ints (by simp)) rfl rfl ?_
  intro L lp rr yy hL hr hy hf hlp
  conv=>cbv
  simp only [stdEqs hL,imp_self,true_and,and_true,bif_or,bif_and,Bool.or_eq_true,Bool.or_eq_false_iff,Bool.and_eq_true,Bool.and_eq_false_iff,decide_eq_true_eq,decide_eq_false_iff_not,Bool.not_eq_true',Bool.not_eq_false',beq_iff_eq,beq_eq_false_iff_ne,ne_eq,toNat0,toNat1,ok_int,toI_int,I_frzs,I_length,I_getD,ok_ints,toL_slc,hel]
  rw [wrap_id (n:=(xs.length:Int)-1) (by omega) (by omega)]
  refine hlp (List V×Int×Int) _ _ _ [0,2,3] (fun x=>[(0,none,.val (.slc true 2 (.int .i64 0) x.1)),(2,none,.val (.int .i64 x.2.1)),(3,none,.val (.int .i64 x.2.2))])
   (fun x=>0≤x.2.1∧x.2.1≤x.2.2+1∧x.2.1+x.2.2+1=xs.length∧x.1=I (revK x.2.1.toNat xs)) (fun x=>(x.2.2-x.2.1+1).toNat) ((a0,0,(xs.length:Int)-1)) (by subst hL;rfl) ?_ ?_
  ·exact ⟨by simp,by simp only;omega,by simp only;omega,by simp only;rw [show (0:Int).toNat=0 from rfl,revK_0,hes]⟩
  rintro ⟨os,i,j⟩ ⟨i0,i1,i2,hO⟩ hfx ag hag
  simp only at i0 i1 i2 hO
  have hol:os.length=xs.length:=by rw [hO,I_length,revK_len]
  have gos:∀k,os.getD k (.int .i64 0)= .int .i64 ((revK i.toNat xs).getD k 0):=fun k=>by rw [hO,I_getD]
  conv=>cbv
  simp only [stdEqs hL,imp_self,true_and,and_true,bif_or,bif_and,Bool.or_eq_true,Bool.or_eq_false_iff,Bool.and_eq_true,Bool.and_eq_false_iff,decide_eq_true_eq,decide_eq_false_iff_not,Bool.not_eq_true',Bool.not_eq_false',beq_iff_eq,beq_eq_false_iff_ne,ne_eq,toNat0,toNat1,ok_int,toI_int,I_frzs,I_length,I_getD,ok_ints,toL_slc,hol,gos,List.length_set]
  rw [wrap_id (n:=i+1) (by omega) (by omega),wrap_id (n:=j-1) (by omega) (by omega)]
  refine ⟨fun h2=> ?_,fun h2=> ?_⟩
  ·have hs:∀x,(os.set i.toNat x).getD j.toNat (.int .i64 0)= .int .i64 ((revK i.toNat xs).getD j.toNat 0):=fun x=>by
    rw [List.getD_eq_getElem?_getD,List.getElem?_set_ne (by omega),←List.getD_eq_getElem?_getD,gos]
   simp only [hs]
   have hgi:(revK i.toNat xs).getD i.toNat 0=xs.getD i.toNat 0:=by rw [revK_get (by omega),if_neg (by omega)]
   have hgj:(revK i.toNat xs).getD j.toNat 0=xs.getD j.toNat 0:=by rw [revK_get (by omega),if_neg (by omega)]
   rw [hgi,hgj]
   have b1:i.toNat<xs.length:=by omega
   have b2:j.toNat<xs.length:=by omega
   refine ⟨by omega,by omega,b2,i0,by omega,b1,i0,by omega,b1,by omega,by omega,b2,rfl,?_⟩
   refine hag (_,i+1,j-1) ⟨by simp only;omega,by simp only;omega,by simp only;omega,?_⟩ (by simp only;omega)
   simp only [toNat_succ i0]
   rw [hO,I_set,I_set,revK_step (by omega) (by omega)]
  ·rw [hr,hy,hO,revK_all (by omega),f_rev,hes,unI_I]
   exact ⟨rfl,rfl⟩
 ·cases h
end Go.Ax
set_option linter.all false
namespace Go.Ax
open Go.Proofs
def c_Ki_l9 (f:List V→List V→List V→Int→List V) (q:List V→List V→List V→Int→Prop):Contract:=fun
 |[.agg [.slc false 2 (.int .i64 0) a0,.slc false 2 (.int .i64 0) a1,.slc false 2 (.int .i64 0) a2],.int .i64 a3]=>some ([q a0 a1 a2 a3],.slc true 2 (.int .i64 0) (f a0 a1 a2 a3))
 |_=>none
def f_path (a _ _:List V) (i:Int):List V:=I (pthC (unI a) i)
def q_Kp (a b c:List V) (i:Int):Prop:=q_Kv a b c∧0≤i∧i<a.length
theorem up_step {P S Q:List Int} (h:ClP P S Q) {i:Int} (h0:0≤i) (h1:i<P.length):upL P 32 i=i::upL P 32 (P.getD i.toNat 0):=by
 have h2:=congrArg List.reverse (pthC_step h h0 h1)
 rw [pthC,pthC,List.reverse_reverse,List.reverse_append,List.reverse_reverse] at h2
 simpa using h2
theorem up_neg (P:List Int) {i:Int} (h:i<0):upL P 32 i=[]:=by rw [upL,if_pos h]
theorem up_len {P S Q:List Int} (h:ClP P S Q) {i:Int} (h0: -1≤i) (h1:i<P.length):(upL P 32 i).length≤24:=by
 have:=pthC_len h h0 h1
 rwa [pthC,List.length_reverse] at this
set_option maxHeartbeats 1000000 in
set_option maxRecDepth 100000 in
theorem s_impl_pathOf:Sat Try.prog 109 (c_Ki_l9 f_path q_Kp):=by
 intro args ps r h hp
 unfold c_Ki_l9 at h
 split at h
 ·rename_i a0 a1 a2 i
  simp only [Option.some.injEq,Prod.mk.injEq] at h
  obtain ⟨rfl,rfl⟩:=h
  obtain ⟨hqv,i0,i1⟩:q_Kp a0 a1 a2 i:=(alls_cons.1 hp).1
  obtain ⟨⟨⟨P,hP⟩,⟨S,hS⟩,⟨Q,hQ⟩⟩,hcl⟩:=id hqv
  rw [hP,hS,hQ,unI_I,unI_I,unI_I] at hcl
  have g0:V.frzs a0=a0:=by rw [hP,I_frzs]
  have g1:V.frzs a1=a1:=by rw [hS,I_frzs]
  have g2:V.frzs a2=a2:=by rw [hQ,I_frzs]
  have hpl:a0.length=P.length:=by rw [hP,I_length]
  have gp:∀k,a0.getD k (.int .i64 0)= .int .i64 (P.getD k 0):=fun k=>by rw [hP,I_getD]
  have n24:=hcl.n24
  have hf0:f_path a0 a1 a2 i=I (pthC P i):=by rw [f_path,hP,unI_I]
  rw [hpl] at i1
  generalize H_f_rev:f_rev=F_f_rev
  generalize H_IsIs:IsIs=F_IsIs
  refine fnOk_ofI (T:=tab) (B:=[]) (Bi:=[(144,0,false,ic_rev F_f_rev F_IsIs)]) [0,1,2,4,5] Try.func109 rfl rfl (by kernel_rfl) (Nat.le_of_ble_eq_true rfl) mixed tabOk (by subst H_f_rev H_IsIs;exact bookNil) (by subst H_f_rev H_IsIs;exact (bookICons s_reverse bookINil)) (by kernel_rfl) ?_
  intro L lp rr hL hr hf hlp
  have Er:∀xs:List Int,F_f_rev (I xs)=I xs.reverse:=fun xs=>by rw [←H_f_rev,f_rev,unI_I]
  conv=>cbv
  refine hlp (List V×Int) _ _ _ [1,2,5] (fun x=>[(1,none,.val (.int .i64 x.2)),(2,none,.val (.box 30 (.agg [.slc false 2 (.int .i64 0) a0,.slc false 2 (.int .i64 0) a1,.slc false 2 (.int .i64 0) a2]))),(5,none,.val (.slc true 2 (.int .i64 0) x.1))])
   (fun x=> -1≤x.2∧x.2<P.length∧∃ls,x.1=I ls∧ls++upL P 32 x.2=upL P 32 i) (fun x=>(x.2+1).toNat) (([],i)) (by subst hL;rfl) ?_ ?_
  ·exact ⟨by simp only;omega,by simp only;exact i1,[],rfl,rfl⟩
  rintro ⟨os,j⟩ ⟨j0,j1,ls,hO,hU⟩ hfx ag hag
  simp only at j0 j1 hO hU
  have hul:=up_len hcl (show-1≤i by omega) i1
  have hll:ls.length≤24:=by rw [←hU,List.length_append] at hul;omega
  have hol:os.length=ls.length:=by rw [hO,I_length]
  conv=>cbv
  simp only [stdEqs hL,imp_self,true_and,and_true,bif_or,bif_and,Bool.or_eq_true,Bool.or_eq_false_iff,Bool.and_eq_true,Bool.and_eq_false_iff,decide_eq_true_eq,decide_eq_false_iff_not,Bool.not_eq_true',Bool.not_eq_false',beq_iff_eq,beq_eq_false_iff_ne,ne_eq,toNat0,toNat1,ok_int,toI_int,I_frzs,I_length,I_getD,ok_ints,toL_slc,g0,g1,g2,gp,hpl]
  refine ⟨fun h2=> ?_,fun h2=> ?_⟩
  ·have hlow:=hcl.low (i:=j.toNat) (by omega)
   (repeat' first|(exact solid_one _)|(exact solid1 rfl)|(exact noown_one _)|(apply And.intro)|(intro _))<;>(try first|exact True.intro|omega|rfl|(simp only [List.length_cons,List.length_nil,I_length];omega))
   refine hag (_,P.getD j.toNat 0) ⟨by simp only;omega,by simp only;omega,ls++[j],?_,?_⟩ (by simp only;omega)
   ·simp only
    rw [hO,←I_append]
    rfl
   ·simp only
    rw [List.append_assoc,List.singleton_append,←up_step hcl h2 j1]
    exact hU
  ·rw [up_neg P (by omega),List.append_nil] at hU
   have hEr:F_f_rev os=I (pthC P i):=by rw [hO,Er,hU,pthC]
   rw [hEr]
   refine ⟨by rw [←H_IsIs,hO];exact ⟨⟨_,rfl⟩,by rw [I_length];omega⟩,?_⟩
   rw [hr,hf0]
 ·cases h
theorem path_get {P S Q:List Int} (h:ClP P S Q) {i:Int} (h0:0≤i) (h1:i<P.length) {j:Nat} (hj:j<(pthC P i).length):0≤(pthC P i).getD j 0∧(pthC P i).getD j 0<P.length:=by
 have:=(pthC_mem h i (by omega) h1).1 _ (show (pthC P i).getD j 0∈pthC P i by rw [List.getD_eq_getElem?_getD,List.getElem?_eq_getElem hj];exact List.getElem_mem _)
 omega
theorem cod1_int {P S Q:List Int} (h:ClP P S Q) {i:Int} (h0:0≤i) (h1:i<P.length) {j:Nat} (hj:j<(pthC P i).length) (hs:0≤S.getD ((pthC P i).getD j 0).toNat 0):
 0≤idx (pthC P i) (S.getD ((pthC P i).getD j 0).toNat 0)∧idx (pthC P i) (S.getD ((pthC P i).getD j 0).toNat 0)<24∧(j:Int)-idx (pthC P i) (S.getD ((pthC P i).getD j 0).toNat 0)=(cod1 S (pthC P i) j:Nat):=by
 have hm:=(path_code h i (by omega) h1).1 _ (show (pthC P i).getD j 0∈pthC P i by rw [List.getD_eq_getElem?_getD,List.getElem?_eq_getElem hj];exact List.getElem_mem _) hs
 obtain ⟨k,hk⟩:∃k,k=(pthC P i).idxOf (S.getD ((pthC P i).getD j 0).toNat 0):=⟨_,rfl⟩
 have hi:=idx_of hm
 rw [←hk] at hi
 have hkl:k<(pthC P i).length:=by rw [hk];exact List.idxOf_lt_length_iff.2 hm
 have hlen:=pthC_len h (show-1≤i by omega) h1
 have hlt:k<j:=by
  have hp:=List.pairwise_iff_getElem.1 (pthC_mem h i (by omega) h1).2
  have hpk:(pthC P i)[k]=S.getD ((pthC P i).getD j 0).toNat 0:=by
   simp only [hk]
   exact List.getElem_idxOf _
  have hpj:(pthC P i)[j]=(pthC P i).getD j 0:=by rw [List.getD_eq_getElem?_getD,List.getElem?_eq_getElem hj];rfl
  have hg:=path_get h h0 h1 hj
  have hl:=h.low (i:=((pthC P i).getD j 0).toNat) (by omega)
  have h00:((pthC P i).getD j 0).toNat≠0:=fun e=>by have:=(hl.2.2.2.2.2 e).2;omega
  have h4:=hl.2.2.2.1 (by omega)
  rcases Nat.lt_trichotomy k j with h5|h5|h5
  ·exact h5
  ·subst h5
   rw [hpj] at hpk
   omega
  ·have:=hp j k hj hkl h5
   rw [hpj,hpk] at this
   omega
 rw [hi,cod1,if_pos hs,hi]
 omega
end Go.Ax
set_option linter.all false
namespace Go.Ax
open Go.Proofs
set_option maxHeartbeats 2000000
def f_beg (a b:List V):Bool:=decide (b.length≤a.length)&&f0_eqI (a.take b.length) b
def q_beg (a b:List V):Prop:=IsI a∧IsI b∧a.length≤1000000∧b.length≤1000000
set_option maxHeartbeats 1000000 in
set_option maxRecDepth 100000 in
theorem s_impl_begins:Sat Try.prog 150 (c_ll_b f_beg q_beg):=by
 intro args ps r h hp
 unfold c_ll_b at h
 split at h
 ·rename_i a0 a1
  simp only [Option.some.injEq,Prod.mk.injEq] at h
  obtain ⟨rfl,rfl⟩:=h
  obtain ⟨⟨ys,has⟩,⟨bs,hbs⟩,h1,h2⟩:q_beg a0 a1:=(alls_cons.1 hp).1
  have g0:V.frzs a0=a0:=by rw [has,I_frzs]
  have g1:V.frzs a1=a1:=by rw [hbs,I_frzs]
  have g2:∀k,V.frzs (a0.take k)=a0.take k:=fun k=>by rw [has,I_take,I_frzs]
  generalize H_f0_eqI:f0_eqI=F_f0_eqI
  generalize H_q_II:q_II=F_q_II
  refine fnOk_ofI (T:=tab) (B:=[(131,c_ll_b F_f0_eqI F_q_II)]) (Bi:=[]) [0,1,4] Try.func150 rfl rfl (by kernel_rfl) (Nat.le_of_ble_eq_true rfl) mixed tabOk (by subst H_f0_eqI H_q_II;exact (bookCons s_slicesEqual bookNil)) (by subst H_f0_eqI H_q_II;exact bookINil) (by kernel_rfl) ?_
  intro L lp rr hL hr hf hlp
  conv=>cbv
  simp only [stdEqs hL,imp_self,true_and,and_true,bif_or,bif_and,Bool.or_eq_true,Bool.or_eq_false_iff,Bool.and_eq_true,Bool.and_eq_false_iff,decide_eq_true_eq,decide_eq_false_iff_not,Bool.not_eq_true',Bool.not_eq_false',beq_iff_eq,beq_eq_false_iff_ne,ne_eq,toNat0,toNat1,ok_int,toI_int,I_frzs,I_length,I_getD,ok_ints,toL_slc,g0,g1,List.drop_zero,g2,Int.toNat_natCast]
  have h0:decide ((a1.length:Int)≤a0.length)=decide (a1.length≤a0.length):=by rw [decide_eq_decide];omega
  refine ⟨fun _=>by omega,fun _=>by omega,fun _=> ?_,?_⟩
  ·rw [←H_q_II];exact ⟨⟨_,by rw [has,I_take]⟩,⟨_,hbs⟩⟩
  ·rw [hr,f_beg,h0,←H_f0_eqI]
 ·cases h
theorem seq_head {n:Nat} {l:List Nat} {L:List Int} (h:SeqB n l L):L.getD 0 0=(n:Int)∧0<L.length:=by
 obtain ⟨hb,hne,m,rfl⟩:=h
 have hlo:=hb.lo
 have hlen:0<(natL (chN 0 n l++List.replicate m 1)).length:=List.length_pos_iff.2 hne
 refine ⟨?_,hlen⟩
 have h0:(chN 0 n l++List.replicate m 1).getD 0 0=n:=by
  cases l with
  |nil=>
   have h1:n=1:=hb.val
   subst h1
   cases m with
   |zero=>simp [chN,natL] at hne
   |succ m=>rfl
  |cons t l=>
   have h1:=hb.val.1
   have h2:0<t/n:=Nat.div_pos (by omega) (by omega)
   rw [chN,ex_pos (by omega),Nat.sub_zero,show t/n=(t/n-1)+1 by omega,List.replicate_succ]
   rfl
 have:=natL_getD (chN 0 n l++List.replicate m 1) 0 0
 rw [h0] at this
 exact this
def f_bos (a:List V):List V×Bool:=(I (bosI (unI a)),true)
def q_bos (a:List V):Prop:=∃n l L,a=I L∧SeqB n l L∧L.length≤100000
def c_l_Bb (f:List V→List V×Bool) (q:List V→Prop):Contract:=fun
 |[.slc false 2 (.int .i64 0) a0]=>some ([q a0],.tup [.agg [.slc true 2 (.int .i64 0) ((f a0).1)],.bool ((f a0).2)])
 |_=>none
set_option maxHeartbeats 1000000 in
set_option maxRecDepth 100000 in
theorem s_impl_branchOfSequence:Sat Try.prog 128 (c_l_Bb f_bos q_bos):=by
 intro args ps r h hp
 unfold c_l_Bb at h
 split at h
 ·rename_i a0
  simp only [Option.some.injEq,Prod.mk.injEq] at h
  obtain ⟨rfl,rfl⟩:=h
  obtain ⟨n,l,ls,hL0,hs,hLl⟩:q_bos a0:=(alls_cons.1 hp).1
  have g0:V.frzs a0=a0:=by rw [hL0,I_frzs]
  have hal:a0.length=ls.length:=by rw [hL0,I_length]
  have gal:∀k,a0.getD k (.int .i64 0)= .int .i64 (ls.getD k 0):=fun k=>by rw [hL0,I_getD]
  obtain ⟨hh,hlen⟩:=seq_head hs
  have hf0:f_bos a0=(I (natL (n::l)),true):=by rw [f_bos,hL0,unI_I,bosI_eq hs]
  obtain ⟨hb,hne,m,hLe⟩:=hs
  have hlo:=hb.lo
  have hhi:=hb.hi
  obtain ⟨ni,hni⟩:∃ni:Int,ni=n:=⟨_,rfl⟩
  obtain ⟨lm,hlm⟩:∃lm:Int,lm=ls.length:=⟨_,rfl⟩
  have hh2:ls.getD 0 0=ni:=by rw [hh,hni]
  generalize H_f_runOf:f_runOf=F_f_runOf
  generalize H_q_runOf:q_runOf=F_q_runOf
  generalize H_f_beg:f_beg=F_f_beg
  generalize H_q_beg:q_beg=F_q_beg
  generalize H_gcdW:gcdW=F_gcdW
  generalize H_always:always=F_always
  generalize H_f0_isBr:f0_isBr=F_f0_isBr
  generalize H_IsIs:IsIs=F_IsIs
  refine fnOk_ofI (T:=tab) (B:=[(150,c_ll_b F_f_beg F_q_beg),(139,c_ii_i F_gcdW F_always),(53,c_b_bool F_f0_isBr F_IsIs)]) (Bi:=[(148,0,true,c_runOf F_f_runOf F_q_runOf)]) [0,2,3,4,5,6,7,8,9,10,12,90,91,92] Try.func128 rfl rfl (by kernel_rfl) (Nat.le_of_ble_eq_true rfl) mixed tabOk (by subst H_f_runOf H_q_runOf H_f_beg H_q_beg H_gcdW H_always H_f0_isBr H_IsIs;exact (bookCons s_impl_begins (bookCons s_impl_divisor (bookCons s_impl_IsBranch bookNil)))) (by subst H_f_runOf H_q_runOf H_f_beg H_q_beg H_gcdW H_always H_f0_isBr H_IsIs;exact (bookMCons s_impl_runOf bookINil)) (by kernel_rfl) ?_
  intro L lp rr hL hr hf hlp
  conv=>cbv
  simp only [stdEqs hL,imp_self,true_and,and_true,bif_or,bif_and,Bool.or_eq_true,Bool.or_eq_false_iff,Bool.and_eq_true,Bool.and_eq_false_iff,decide_eq_true_eq,decide_eq_false_iff_not,Bool.not_eq_true',Bool.not_eq_false',beq_iff_eq,beq_eq_false_iff_ne,ne_eq,toNat0,toNat1,ok_int,toI_int,I_frzs,I_length,I_getD,ok_ints,toL_slc,g0,hal,gal,hh2,←hlm]
  refine ⟨by omega,by omega,by omega,by omega,fun h1=> ?_,fun h1=> ?_⟩
  refine hlp (List V×Int×Int×Int) _ _ _ [0,2,4,5,6,7] (fun x=>[(0,none,.val (.slc false 2 (.int .i64 0) a0)),(2,none,.val (.box 26 (.agg [.slc true 2 (.int .i64 0) []]))),(4,none,.val (.box 26 (.agg [.slc true 2 (.int .i64 0) x.1]))),(5,none,.val (.int .i64 x.2.1)),(6,none,.val (.int .i64 x.2.2.1)),(7,none,.val (.int .i64 x.2.2.2))])
   (fun x=>∃(pre rest:List Nat) (p e m:Nat),x.1=I (natL (n::pre))∧l=pre++rest∧x.2.1=(e:Int)∧x.2.2.1=(p:Int)∧0<e∧e≤64∧p≤2000∧e ∣ p∧Val p e rest∧0≤x.2.2.2∧x.2.2.2≤lm∧ls.drop x.2.2.2.toNat=natL (chN p e rest++List.replicate m 1)) (fun x=>x.2.1.toNat) (([V.int IntKind.i64 ni],ni,0,1)) (by subst hL;rfl) ?_ ?_
  rotate_left 2
  refine hlp (List V×Int×Int×Int) _ _ _ [0,2,4,5,6,7] (fun x=>[(0,none,.val (.slc false 2 (.int .i64 0) a0)),(2,none,.val (.box 26 (.agg [.slc true 2 (.int .i64 0) []]))),(4,none,.val (.box 26 (.agg [.slc true 2 (.int .i64 0) x.1]))),(5,none,.val (.int .i64 x.2.1)),(6,none,.val (.int .i64 x.2.2.1)),(7,none,.val (.int .i64 x.2.2.2))])
   (fun x=>∃(pre rest:List Nat) (p e m:Nat),x.1=I (natL (n::pre))∧l=pre++rest∧x.2.1=(e:Int)∧x.2.2.1=(p:Int)∧0<e∧e≤64∧p≤2000∧e ∣ p∧Val p e rest∧0≤x.2.2.2∧x.2.2.2≤lm∧ls.drop x.2.2.2.toNat=natL (chN p e rest++List.replicate m 1)) (fun x=>x.2.1.toNat) (([V.int IntKind.i64 ni],ni,0,0)) (by subst hL;rfl) ?_ ?_
  ·exact ⟨[],l,0,n,m,by rw [hni];rfl,rfl,hni,rfl,by omega,hhi,by omega,⟨0,rfl⟩,hb.val.weak (by omega),by simp,by simp only;omega,hLe⟩
  rotate_left 1
  ·have hn1:n=1:=by omega
   have hl0:l=[]:=by
    cases l with
    |nil=>rfl
    |cons t l=>
     have h3:=hb.val.2.2.1
     rw [hn1,Nat.gcd_one_left] at h3
     exact absurd rfl h3
   refine ⟨[],l,0,n,m-1,by rw [hni];rfl,rfl,hni,rfl,by omega,hhi,by omega,⟨0,rfl⟩,hb.val.weak (by omega),by simp,by simp only;omega,?_⟩
   simp only
   rw [show (1:Int).toNat=1 from rfl,hLe,hl0,chN,List.nil_append]
   cases m<;>rfl
  all_goals
   rintro ⟨bs,e,la,ti⟩ ⟨pre,rest,p,e',m',hB,hl,he,hp,he0,he64,hp2,hd,hv,t0,t1,hD⟩ hfx ag hag
   simp only at hB he hp t0 t1 hD
   have hbl:bs.length=pre.length+1:=by rw [hB,I_length,natL_len];rfl
   have hDl:(ls.drop ti.toNat).length=ls.length-ti.toNat:=List.length_drop ..
   have hgd:∀j,ls.getD (ti.toNat+j) 0=(ls.drop ti.toNat).getD j 0:=fun j=>by
    rw [List.getD_eq_getElem?_getD,List.getD_eq_getElem?_getD,List.getElem?_drop]
   conv=>cbv
   simp only [stdEqs hL,imp_self,true_and,and_true,bif_or,bif_and,Bool.or_eq_true,Bool.or_eq_false_iff,Bool.and_eq_true,Bool.and_eq_false_iff,decide_eq_true_eq,decide_eq_false_iff_not,Bool.not_eq_true',Bool.not_eq_false',beq_iff_eq,beq_eq_false_iff_ne,ne_eq,toNat0,toNat1,ok_int,toI_int,I_frzs,I_length,I_getD,ok_ints,toL_slc,g0,hal,←hlm]
   refine ⟨fun h2=> ?_,fun h2=> ?_⟩
   ·cases rest with
    |nil=>have h3:e'=1:=hv
          omega
    |cons t rest=>
     obtain ⟨v1,v2,v3,v4⟩:=hv
     obtain ⟨X,hx,hr0,hr1⟩:=ex_form he0 (not_dvd_of hd v1 v3)
     obtain ⟨q,hq⟩:∃q,q=(t-p)/e':=⟨_,rfl⟩
     obtain ⟨r,hr9⟩:∃r,r=(t-p)%e':=⟨_,rfl⟩
     rw [←hq,←hr9] at hx
     rw [←hr9] at hr0 hr1
     have hk:q*e'+r=t-p:=by rw [hq,hr9,Nat.mul_comm];exact Nat.div_add_mod _ _
     obtain ⟨Y,hY⟩:∃Y,Y=chN t (Nat.gcd e' t) rest++List.replicate m' 1:=⟨_,rfl⟩
     have hD2:ls.drop ti.toNat=natL (ex (t-p) e'++Y):=by rw [hD,chN,List.append_assoc,hY]
     have hD3:ls.drop ti.toNat=natL (List.replicate q e'++r::(X++Y)):=by rw [hD2,hx];simp
     have hDn:=congrArg List.length hD3
     rw [hDl,natL_len,List.length_append,List.length_replicate,List.length_cons] at hDn
     have hqlen:ti.toNat+q<ls.length:=by omega
     have hg1:∀c,c<q→ls.getD (ti.toNat+c) 0=(e':Int):=fun c hc=>by
      rw [hgd,hD3]
      have h8:=natL_getD (List.replicate q e'++r::(X++Y)) c 0
      rw [List.getD_eq_getElem?_getD (l:=List.replicate q e'++r::(X++Y)),List.getElem?_append_left (by rw [List.length_replicate];exact hc),List.getElem?_replicate_of_lt hc] at h8
      exact h8
     have hg2:ls.getD (ti.toNat+q) 0=(r:Int):=by
      rw [hgd,hD3]
      have h8:=natL_getD (List.replicate q e'++r::(X++Y)) q 0
      rw [List.getD_eq_getElem?_getD (l:=List.replicate q e'++r::(X++Y)),List.getElem?_append_right (by rw [List.length_replicate];exact Nat.le_refl _),List.length_replicate,Nat.sub_self] at h8
      exact h8
     refine hlp (Int×Int) _ _ _ [0,2,4,5,6,7,8,9] (fun x=>[(0,none,.val (.slc false 2 (.int .i64 0) a0)),(2,none,.val (.box 26 (.agg [.slc true 2 (.int .i64 0) []]))),(4,none,.val (.box 26 (.agg [.slc true 2 (.int .i64 0) bs]))),(5,none,.val (.int .i64 e)),(6,none,.val (.int .i64 la)),(7,none,.val (.int .i64 ti)),(8,none,.val (.int .i64 x.1)),(9,none,.val (.int .i64 x.2))])
      (fun x=>∃c:Nat,c≤q∧x.1=((c*e':Nat):Int)∧x.2=ti+c) (fun x=>(ti+q-x.2).toNat) ((0,ti)) (by subst hL;rfl) ?_ ?_
     ·exact ⟨0,by omega,by simp,by simp⟩
     rintro ⟨k,i⟩ ⟨c,c1,hk9,hi⟩ hfx2 ag2 hag2
     simp only at hk9 hi
     have hin:i.toNat=ti.toNat+c:=by omega
     conv=>cbv
     simp only [stdEqs hL,imp_self,true_and,and_true,bif_or,bif_and,Bool.or_eq_true,Bool.or_eq_false_iff,Bool.and_eq_true,Bool.and_eq_false_iff,decide_eq_true_eq,decide_eq_false_iff_not,Bool.not_eq_true',Bool.not_eq_false',beq_iff_eq,beq_eq_false_iff_ne,ne_eq,toNat0,toNat1,ok_int,toI_int,I_frzs,I_length,I_getD,ok_ints,toL_slc,g0,hal,gal,←hlm]
     have hce:c*e'≤q*e':=Nat.mul_le_mul_right _ c1
     refine ⟨fun _=>by omega,fun _=>trivial,fun h3=> ?_,fun h3=> ?_⟩
     ·have hcq:c<q:=by
       rcases Nat.lt_or_ge c q with h4|h4
       ·exact h4
       ·have h5:=h3.2
        rw [hin,show c=q by omega,hg2] at h5
        omega
      rw [wrap_id (n:=k+e) (by omega) (by omega),wrap_id (n:=i+1) (by omega) (by omega)]
      refine hag2 (k+e,i+1) ⟨c+1,by omega,?_,by simp only;omega⟩ (by simp only;omega)
      simp only
      rw [Nat.add_mul,Nat.one_mul]
      omega
     ·have hcq:c=q:=by
       rcases Nat.lt_or_ge c q with h4|h4
       ·exfalso
        have h5:=hg1 c h4
        rw [←hin] at h5
        rcases h3 with h3|h3
        ·omega
        ·exact h3 (by rw [h5,he])
       ·omega
      have hgi:ls.getD i.toNat 0=(r:Int):=by rw [hin,hcq,hg2]
      rw [hcq] at hk9
      have hkr:k+(r:Int)=((t-p:Nat):Int):=by omega
      obtain ⟨kk,hkk⟩:∃kk:Int,kk=k+(r:Int):=⟨_,rfl⟩
      have hkk2:kk=((t-p:Nat):Int):=by omega
      rw [hgi]
      rw [wrap_id (n:=k+(r:Int)) (by omega) (by omega),←hkk,wrap_id (n:=la+kk) (by omega) (by omega)]
      have Er:F_f_runOf [] kk e=I (natL (ex (t-p) e')):=by
       rw [←H_f_runOf,f_runOf,List.nil_append,hkk2,he,exI_nat]
      have Eg:F_gcdW e kk=((Nat.gcd e' t:Nat):Int):=by
       rw [←H_gcdW,hkk2,he,gcdW_natJ he0 (by omega),gcd_shift hd (by omega)]
      obtain ⟨xn,hxn⟩:∃xn:Int,xn=(ex (t-p) e').length:=⟨_,rfl⟩
      have hdn:(ls.drop ti.toNat).length=(ex (t-p) e').length+Y.length:=by rw [hD2,natL_len,List.length_append]
      have hta:List.drop ti.toNat (List.take lm.toNat a0)=I (ls.drop ti.toNat):=by
       rw [hL0,I_take,List.take_of_length_le (by omega),I_drop]
      have Eb:F_f_beg (I (ls.drop ti.toNat)) (I (natL (ex (t-p) e')))=true:=by
       rw [←H_f_beg,f_beg,f0_eqI,I_length,I_length,natL_len,I_take,unI_I,unI_I,hD2,natL_append]
       rw [Bool.and_eq_true,decide_eq_true_eq,decide_eq_true_eq]
       refine ⟨by rw [List.length_append,natL_len];omega,?_⟩
       rw [show (ex (t-p) e').length=(natL (ex (t-p) e')).length by rw [natL_len],List.take_left]
      simp only [Er,Eg,I_length,natL_len,←hxn,I_frzs,hta,Eb]
      refine ⟨fun _=>by omega,fun _=>by omega,fun _=>trivial,fun h5=>by omega,fun _=>⟨by omega,by omega,?_,by omega,by omega,by omega,?_,fun h5=>(by cases h5),fun _=> ?_⟩⟩
      ·rw [←H_q_runOf]
       exact ⟨by simp,by omega,by omega,by omega,by omega⟩
      ·rw [←H_q_beg]
       exact ⟨⟨_,rfl⟩,⟨_,rfl⟩,by rw [I_length];omega,by rw [I_length,natL_len];omega⟩
      ·have hpl:pre.length≤2000:=by
        have h9:=val_len l n n hb.val (by omega)
        rw [hl,List.length_append] at h9
        omega
       have hlt:la+kk=(t:Int):=by omega
       rw [hlt,wrap_id (n:=ti+xn) (by omega) (by omega)]
       have hgp:=Nat.gcd_pos_of_pos_left t he0
       have hgl:=Nat.le_of_dvd he0 (Nat.gcd_dvd_left e' t)
       refine ⟨rfl,by simp only [List.length_singleton];omega,solid_one _,by rw [←H_always];trivial,?_⟩
       refine hag (_,((Nat.gcd e' t:Nat):Int),(t:Int),ti+xn) ⟨pre++[t],rest,t,Nat.gcd e' t,m',?_,by rw [hl];simp,rfl,rfl,hgp,by omega,v2,Nat.gcd_dvd_right e' t,v4,by simp only;omega,by simp only;omega,?_⟩ (by simp only;omega)
       ·simp only
        rw [hB,show natL (n::(pre++[t]))=natL (n::pre)++[(t:Int)] by simp [natL],←I_append];rfl
       ·simp only
        rw [show (ti+xn).toNat=ti.toNat+(natL (ex (t-p) e')).length by rw [natL_len];omega,←List.drop_drop,hD2,natL_append,List.drop_left,hY]
   ·have he1:e'=1:=by omega
    have hr0:rest=[]:=by
     cases rest with
     |nil=>rfl
     |cons t rest=>
      have h3:=hv.2.2.1
      rw [he1,Nat.gcd_one_left] at h3
      exact absurd rfl h3
    have hD4:ls.drop ti.toNat=natL (List.replicate m' 1):=by rw [hD,hr0,chN,List.nil_append]
    have hta:List.drop ti.toNat (List.take lm.toNat a0)=I (natL (List.replicate m' 1)):=by
     rw [hL0,I_take,List.take_of_length_le (by omega),I_drop,hD4]
    obtain ⟨vd,hvd⟩:∃vd,vd=I (natL (List.replicate m' 1)):=⟨_,rfl⟩
    have hvl:vd.length=m':=by rw [hvd,I_length,natL_len,List.length_replicate]
    have gvd:∀k,k<m'→vd.getD k (.int .i64 0)= .int .i64 1:=fun k hk=>by
     rw [hvd,I_getD]
     have h8:=natL_getD (List.replicate m' 1) k 0
     rw [List.getD_eq_getElem?_getD (l:=List.replicate m' 1),List.getElem?_replicate_of_lt hk] at h8
     exact congrArg _ h8
    have hml:m'≤ls.length:=by
     have h9:=congrArg List.length hD4
     rw [natL_len,List.length_replicate] at h9
     omega
    have hfb:V.frzs bs=bs:=by rw [hB,I_frzs]
    have hbr:=nat_br hb
    have hll:l=pre:=by rw [hl,hr0,List.append_nil]
    rw [←hll] at hB
    have Ei:F_f0_isBr bs=true:=by rw [←H_f0_isBr,f0_isBr,hB,unI_I];exact hbr.is
    obtain ⟨dm,hdm⟩:∃dm:Int,dm=m':=⟨_,rfl⟩
    rw [hta,←hvd,hvl,←hdm]
    refine ⟨by omega,by omega,by omega,?_⟩
    refine hlp (Int) _ _ _ [2,4,90,91,92] (fun x=>[(2,none,.val (.box 26 (.agg [.slc true 2 (.int .i64 0) []]))),(4,none,.val (.box 26 (.agg [.slc true 2 (.int .i64 0) bs]))),(90,none,.val (.slc false 2 (.int .i64 0) vd)),(91,none,.val (.int .i64 dm)),(92,none,.val (.int .i64 x))])
     (fun x=>0≤x∧x≤dm) (fun x=>(dm-x).toNat) (0) (by subst hL;rfl) ?_ ?_
    ·exact ⟨by omega,by omega⟩
    intro j ⟨j0,j1⟩ hfx2 ag2 hag2
    conv=>cbv
    simp only [stdEqs hL,imp_self,true_and,and_true,bif_or,bif_and,Bool.or_eq_true,Bool.or_eq_false_iff,Bool.and_eq_true,Bool.and_eq_false_iff,decide_eq_true_eq,decide_eq_false_iff_not,Bool.not_eq_true',Bool.not_eq_false',beq_iff_eq,beq_eq_false_iff_ne,ne_eq,toNat0,toNat1,ok_int,toI_int,I_frzs,I_length,I_getD,ok_ints,toL_slc,hvl,hfb,Ei,←hdm]
    refine ⟨fun h8=> ?_,fun h8=>⟨?_,?_⟩⟩
    ·rw [gvd j.toNat (by omega),wrap_id (n:=j+1) (by omega) (by omega)]
     exact ⟨j0,h8,rfl,fun h9=>absurd rfl h9,fun _=>hag2 (j+1) ⟨by omega,by omega⟩ (by omega)⟩
    ·rw [←H_IsIs,hB]
     exact ⟨⟨_,rfl⟩,by rw [I_length];have:=hbr.len;omega⟩
    ·rw [hr,hf0,hB]
 ·cases h
def c_l_Bi (f:List V→List V×Int) (q:List V→Prop):Contract:=fun
 |[.slc false 2 (.int .i64 0) a0]=>some ([q a0],.tup [.agg [.slc true 2 (.int .i64 0) ((f a0).1)],.int .i64 ((f a0).2)])
 |_=>none
end Go.Ax
set_option linter.all false
namespace Go.Ax
open Go.Proofs
end Go.Ax
set_option linter.all false
namespace Go.Ax
open Go.Proofs
set_option maxHeartbeats 2000000
end Go.Ax
set_option linter.all false
namespace Go.Ax
open Go.Proofs
set_option maxHeartbeats 4000000
end Go.Ax
set_option linter.all false
namespace Go.Ax
open Go.Proofs
def okC (cs:List Nat):Bool:=(mC cs).all fun x=>decide (x≤64)
def curB (cs:List Nat):List Int:=bosI (natL (mC cs))
def f_cur (a:List V):List V×Int:=bif okC (intL (unI a)) then (I (curB (intL (unI a))),0) else ([],5)
theorem cvm_yes {cs:List Nat} (h:okC cs=true):cvm cs=(I (natL (mC cs)),true):=by
 rw [okC,mC_head,List.all_cons,Bool.and_eq_true,decide_eq_true_eq] at h
 rw [cvm,if_pos h.2,decide_eq_true h.1]
theorem cvm_no {cs:List Nat} (h:okC cs=false):(cvm cs).2=false:=by
 rw [okC,mC_head,List.all_cons,Bool.and_eq_false_iff,decide_eq_false_iff_not] at h
 rw [cvm]
 split
 ·rename_i h2
  rcases h with h|h
  ·exact decide_eq_false h
  ·rw [h2] at h;cases h
 ·rfl
theorem okC_seq {cs:List Nat} (hl:cs.length≤30) (h:okC cs=true):∃n l m,BrN n l∧mC cs=chN 0 n l++List.replicate m 1:=by
 obtain ⟨n,l,m,h1,h2,_,_⟩:=mC_seq cs hl (fun x hx=>by
  rw [okC,List.all_eq_true] at h
  simpa using h x hx)
 exact ⟨n,l,m,h1,h2⟩
theorem mC_ne (cs:List Nat):mC cs≠[]:=by rw [mC_head];simp
theorem seq_more {cs:List Nat} (hl:cs.length≤30) (h:okC cs=true) (k:Nat):(∃n l,SeqB n l (natL (mC cs++List.replicate k 1)))∧bosI (natL (mC cs++List.replicate k 1))=curB cs:=by
 obtain ⟨n,l,m,h1,h2⟩:=okC_seq hl h
 have hne:∀k,natL (mC cs++List.replicate k 1)≠[]:=fun k=>by
  rw [natL]
  simp [mC_ne]
 have hs:∀k,SeqB n l (natL (mC cs++List.replicate k 1)):=fun k=>⟨h1,hne k,m+k,by rw [h2,List.append_assoc,List.replicate_append_replicate]⟩
 refine ⟨⟨n,l,hs k⟩,?_⟩
 have h0:=hs 0
 rw [List.replicate_zero,List.append_nil] at h0
 rw [curB,bosI_eq (hs k),bosI_eq h0]
set_option maxHeartbeats 1000000 in
set_option maxRecDepth 100000 in
theorem s_impl_curvette:Sat Try.prog 72 (c_l_Bi f_cur q_cvm):=by
 intro args ps r h hp
 unfold c_l_Bi at h
 split at h
 ·rename_i a0
  simp only [Option.some.injEq,Prod.mk.injEq] at h
  obtain ⟨rfl,rfl⟩:=h
  have hq:q_cvm a0:=(alls_cons.1 hp).1
  obtain ⟨cs,hcs,hv,hl⟩:=id hq
  have g0:V.frzs a0=a0:=by rw [hcs,I_frzs]
  have hf0:f_cur a0=bif okC cs then (I (curB cs),0) else ([],5):=by rw [f_cur,hcs,unI_I,int_nat]
  have hfm:f_cvm a0=cvm cs:=by rw [f_cvm,hcs,unI_I,int_nat]
  have hbos:f_bos (I (natL (mC cs)))=(I (curB cs),true):=by rw [f_bos,unI_I,curB]
  have hqb:okC cs=true→q_bos (I (natL (mC cs))):=fun h=>by
   obtain ⟨⟨n,l,hs⟩,_⟩:=seq_more hl h 0
   rw [List.replicate_zero,List.append_nil] at hs
   exact ⟨n,l,_,rfl,hs,by rw [natL_len,mC_len];omega⟩
  generalize H_f_cvm:f_cvm=F_f_cvm
  generalize H_q_cvm:q_cvm=F_q_cvm
  generalize H_f_bos:f_bos=F_f_bos
  generalize H_q_bos:q_bos=F_q_bos
  refine fnOk_ofI (T:=tab) (B:=[(127,c_l_lb F_f_cvm F_q_cvm),(128,c_l_Bb F_f_bos F_q_bos)]) (Bi:=[]) [0,2,3,4,5,6] Try.func72 rfl rfl (by kernel_rfl) (Nat.le_of_ble_eq_true rfl) mixed tabOk (by subst H_f_cvm H_q_cvm H_f_bos H_q_bos;exact (bookCons s_impl_curvetteMultiplicities (bookCons s_impl_branchOfSequence bookNil))) (by subst H_f_cvm H_q_cvm H_f_bos H_q_bos;exact bookINil) (by kernel_rfl) ?_
  intro L lp rr hL hr hf hlp
  conv=>cbv
  simp only [stdEqs hL,imp_self,true_and,and_true,bif_or,bif_and,Bool.or_eq_true,Bool.or_eq_false_iff,Bool.and_eq_true,Bool.and_eq_false_iff,decide_eq_true_eq,decide_eq_false_iff_not,Bool.not_eq_true',Bool.not_eq_false',beq_iff_eq,beq_eq_false_iff_ne,ne_eq,toNat0,toNat1,ok_int,toI_int,I_frzs,I_length,I_getD,ok_ints,toL_slc,g0]
  subst H_f_cvm H_q_cvm H_f_bos H_q_bos
  rw [hfm]
  cases hok:okC cs with
  |true=>
   rw [cvm_yes hok]
   dsimp only
   rw [I_frzs,hbos]
   refine ⟨hq,fun h=>(by cases h),fun _=>⟨hqb hok,I_noFzs _,fun h=>(by cases h),fun _=> ?_⟩⟩
   rw [hr,hf0,hok]
   rfl
  |false=>
   have h2:=cvm_no hok
   refine ⟨hq,fun _=> ?_,fun h=>(nomatch (h.symm.trans h2:true=false))⟩
   rw [hr,hf0,hok]
   rfl
 ·cases h
end Go.Ax
set_option linter.all false
namespace Go.Ax
open Go.Proofs
def c_Ki_Bi (f:List V→List V→List V→Int→List V×Int) (q:List V→List V→List V→Int→Prop):Contract:=fun
 |[.agg [.slc false 2 (.int .i64 0) a0,.slc false 2 (.int .i64 0) a1,.slc false 2 (.int .i64 0) a2],.int .i64 a3]=>some ([q a0 a1 a2 a3],.tup [.agg [.slc true 2 (.int .i64 0) ((f a0 a1 a2 a3).1)],.int .i64 ((f a0 a1 a2 a3).2)])
 |_=>none
def codI (P S:List Int) (i:Int):List Nat:=cdN S (pthC P i)
def curR (cs:List Nat):List V×Int:=bif okC cs then (I (curB cs),0) else ([],5)
def f_bat (a b _:List V) (i:Int):List V×Int:=curR (codI (unI a) (unI b) i)
theorem curR_noFz (cs:List Nat):V.noFzs (curR cs).1=true:=by
 rw [curR]
 cases okC cs with
 |true=>exact I_noFzs _
 |false=>rfl
theorem codI_ok {P S Q:List Int} (h:ClP P S Q) {i:Int} (h0:0≤i) (h1:i<P.length):q_cvm (I (natL (codI P S i)))∧f_cur (I (natL (codI P S i)))=curR (codI P S i):=by
 refine ⟨⟨_,rfl,(path_code h i (by omega) h1).2,?_⟩,by rw [f_cur,unI_I,int_nat,curR]⟩
 have:=pthC_len h (show-1≤i by omega) h1
 rw [codI,cdN_len]
 omega
set_option maxHeartbeats 1000000 in
set_option maxRecDepth 100000 in
theorem s_impl_branchAt:Sat Try.prog 70 (c_Ki_Bi f_bat q_Kp):=by
 intro args ps r h hp
 unfold c_Ki_Bi at h
 split at h
 ·rename_i a0 a1 a2 i
  simp only [Option.some.injEq,Prod.mk.injEq] at h
  obtain ⟨rfl,rfl⟩:=h
  have hqp:q_Kp a0 a1 a2 i:=(alls_cons.1 hp).1
  obtain ⟨hqv,i0,i1⟩:=id hqp
  obtain ⟨⟨⟨P,hP⟩,⟨S,hS⟩,⟨Q,hQ⟩⟩,hcl⟩:=id hqv
  rw [hP,hS,hQ,unI_I,unI_I,unI_I] at hcl
  have g0:V.frzs a0=a0:=by rw [hP,I_frzs]
  have g1:V.frzs a1=a1:=by rw [hS,I_frzs]
  have g2:V.frzs a2=a2:=by rw [hQ,I_frzs]
  have hpl:a0.length=P.length:=by rw [hP,I_length]
  have hsl:a1.length=P.length:=by rw [hS,I_length,hcl.sl]
  rw [hpl] at i1
  obtain ⟨p,hpp⟩:∃p,p=pthC P i:=⟨_,rfl⟩
  obtain ⟨a3,hpi⟩:∃a3,a3=I p:=⟨_,rfl⟩
  have hfp:f_path a0 a1 a2 i=a3:=by rw [f_path,hP,unI_I,←hpp,hpi]
  have g3:V.frzs a3=a3:=by rw [hpi,I_frzs]
  have hal:a3.length=p.length:=by rw [hpi,I_length]
  have ga:∀k,a3.getD k (.int .i64 0)= .int .i64 (p.getD k 0):=fun k=>by rw [hpi,I_getD]
  have gs:∀k,a1.getD k (.int .i64 0)= .int .i64 (S.getD k 0):=fun k=>by rw [hS,I_getD]
  have n24:=hcl.n24
  have hlen:=pthC_len hcl (show-1≤i by omega) i1
  rw [←hpp] at hlen
  have hpg:=fun j hj=>path_get hcl i0 i1 (j:=j) hj
  have hc1:=fun j hj hs=>cod1_int hcl i0 i1 (j:=j) hj hs
  rw [←hpp] at hpg hc1
  have hf0:f_bat a0 a1 a2 i=curR (codI P S i):=by rw [f_bat,hP,hS,unI_I,unI_I]
  have hcd:codI P S i=cdN S p:=by rw [codI,←hpp]
  obtain ⟨ck1,ck2⟩:=codI_ok hcl i0 i1
  rw [hcd] at ck1 ck2 hf0
  have hfi:∀x,f_idx a3 x=idx p x:=fun x=>by rw [f_idx,hpi,unI_I]
  have hqi:∀x,q_lI a3 x:=fun x=>⟨⟨p,hpi⟩,by rw [hal];omega⟩
  generalize H_f_path:f_path=F_f_path
  generalize H_q_Kp:q_Kp=F_q_Kp
  generalize H_f_idx:f_idx=F_f_idx
  generalize H_q_lI:q_lI=F_q_lI
  generalize H_f_cur:f_cur=F_f_cur
  generalize H_q_cvm:q_cvm=F_q_cvm
  refine fnOk_ofI (T:=tab) (B:=[(109,c_Ki_l9 F_f_path F_q_Kp),(125,c_lxi_i F_f_idx F_q_lI),(72,c_l_Bi F_f_cur F_q_cvm)]) (Bi:=[]) [0,1,2,4,5,6,7,8,9,10] Try.func70 rfl rfl (by kernel_rfl) (Nat.le_of_ble_eq_true rfl) mixed tabOk (by subst H_f_path H_q_Kp H_f_idx H_q_lI H_f_cur H_q_cvm;exact (bookCons s_impl_pathOf (bookCons s_slicesIndex (bookCons s_impl_curvette bookNil)))) (by subst H_f_path H_q_Kp H_f_idx H_q_lI H_f_cur H_q_cvm;exact bookINil) (by kernel_rfl) ?_
  intro L lp rr hL hr hf hlp
  have Qp:F_q_Kp a0 a1 a2 i:=by rw [←H_q_Kp];exact hqp
  have Ep:F_f_path a0 a1 a2 i=a3:=by rw [←H_f_path];exact hfp
  have Ei:∀x,F_f_idx a3 x=idx p x:=by rw [←H_f_idx];exact hfi
  have Qi:∀x,F_q_lI a3 x:=by rw [←H_q_lI];exact hqi
  have Ec:F_f_cur (I (natL (cdN S p)))=curR (cdN S p):=by rw [←H_f_cur];exact ck2
  have Qc:F_q_cvm (I (natL (cdN S p))):=by rw [←H_q_cvm];exact ck1
  conv=>cbv
  simp only [stdEqs hL,imp_self,true_and,and_true,bif_or,bif_and,Bool.or_eq_true,Bool.or_eq_false_iff,Bool.and_eq_true,Bool.and_eq_false_iff,decide_eq_true_eq,decide_eq_false_iff_not,Bool.not_eq_true',Bool.not_eq_false',beq_iff_eq,beq_eq_false_iff_ne,ne_eq,toNat0,toNat1,ok_int,toI_int,I_frzs,I_length,I_getD,ok_ints,toL_slc,g0,g1,g2,Ep]
  refine ⟨Qp,?_⟩
  refine hlp (List V×Int) _ _ _ [2,4,6,7,8] (fun x=>[(2,none,.val (.box 30 (.agg [.slc false 2 (.int .i64 0) a0,.slc false 2 (.int .i64 0) a1,.slc false 2 (.int .i64 0) a2]))),(4,none,.val (.box 26 (.agg [.slc true 2 (.int .i64 0) []]))),(6,none,.val (.slc true 2 (.int .i64 0) a3)),(7,none,.val (.slc true 2 (.int .i64 0) x.1)),(8,none,.val (.int .i64 x.2))])
   (fun x=>1≤x.2∧(x.2≤p.length∨x.2=1)∧x.1=I (natL (tab' (fun t=>cod1 S p (t+1)) (x.2-1).toNat))) (fun x=>(p.length-x.2).toNat) (([],1)) (by subst hL;rfl) ?_ ?_
  ·exact ⟨by simp,.inr rfl,rfl⟩
  rintro ⟨os,j⟩ ⟨j0,j1,hO⟩ hfx ag hag
  simp only at j0 j1 hO
  conv=>cbv
  simp only [stdEqs hL,imp_self,true_and,and_true,bif_or,bif_and,Bool.or_eq_true,Bool.or_eq_false_iff,Bool.and_eq_true,Bool.and_eq_false_iff,decide_eq_true_eq,decide_eq_false_iff_not,Bool.not_eq_true',Bool.not_eq_false',beq_iff_eq,beq_eq_false_iff_ne,ne_eq,toNat0,toNat1,ok_int,toI_int,I_frzs,I_length,I_getD,ok_ints,toL_slc,g0,g1,g2,g3,ga,gs,hal,hsl,Ei]
  refine ⟨fun h2=> ?_,fun h2=> ?_⟩
  ·have hol:os.length=j.toNat-1:=by rw [hO,I_length,natL_len,tab_len];omega
   have hg:=hpg j.toNat (by omega)
   have hnx:∀c:Nat,c=cod1 S p j.toNat→0≤j→(1≤j+1∧(j+1≤p.length∨j+1=1)∧os++[V.int .i64 (c:Int)]=I (natL (tab' (fun t=>cod1 S p (t+1)) (j+1-1).toNat))):=fun c hc _=>by
    refine ⟨by omega,.inl (by omega),?_⟩
    rw [hO,show (j+1-1).toNat=(j-1).toNat+1 by omega,tab_succ,natL_append,←I_append,show (j-1).toNat+1=j.toNat by omega,hc]
    rfl
   rw [wrap_id (n:=j+1) (by omega) (by omega)]
   refine ⟨by omega,h2,by omega,hg.1,hg.2,fun h3=> ?_,fun h3=> ?_⟩
   ·obtain ⟨c1,c2,c3⟩:=hc1 j.toNat (by omega) h3
    have e1:IntKind.wrap .i64 (j-idx p (S.getD (p.getD j.toNat 0).toNat 0))=(cod1 S p j.toNat:Nat):=by
     rw [wrap_id (by omega) (by omega),←c3];omega
    rw [e1]
    refine ⟨Qi _,rfl,by simp only [List.length_cons,List.length_nil];omega,fun x hx=>by (simp only [List.mem_singleton] at hx;subst hx;rfl),?_⟩
    exact hag (_,j+1) (hnx _ rfl (by omega)) (by simp only;omega)
   ·refine ⟨rfl,by simp only [List.length_cons,List.length_nil];omega,fun x hx=>by (simp only [List.mem_singleton] at hx;subst hx;rfl),?_⟩
    exact hag (_,j+1) (hnx 0 (by rw [cod1,if_neg h3]) (by omega)) (by simp only;omega)
  ·have he:(j-1).toNat=p.length-1:=by omega
   have hO2:os=I (natL (cdN S p)):=by rw [hO,he,cdN]
   rw [hO2,I_frzs,Ec]
   refine ⟨Qc,curR_noFz _,?_⟩
   rw [hr,hf0]
 ·cases h
end Go.Ax
set_option linter.all false
namespace Go.Ax
open Go.Proofs
def clbP (k:Nat):List Int:=tab' (fun j=>(j:Int)-1) k
def secB (M:Nat→Nat) (j:Nat):Int:=if 1<(prs M j j).length then ((prs M j j).getD 0 0:Nat) else-1
def clbS (xs:List Int) (k:Nat):List Int:=tab' (secB (mul xs)) k
theorem clbP_len (k:Nat):(clbP k).length=k:=tab_len _ _
theorem clbS_len (xs:List Int) (k:Nat):(clbS xs k).length=k:=tab_len _ _
theorem clbP_get {k j:Nat} (h:j<k):(clbP k).getD j 0=(j:Int)-1:=tab_get _ _ _ _ h
theorem clbS_get {xs:List Int} {k j:Nat} (h:j<k):(clbS xs k).getD j 0=secB (mul xs) j:=tab_get _ _ _ _ h
theorem prs_form {M:Nat→Nat} (h:GoodM M) (j:Nat):prs M (j+1) (j+1)=[j]∨∃a,a<j∧Prox M a (j+1)∧prs M (j+1) (j+1)=[a,j]:=by
 have h1:=prs_step (M:=M) (i:=j) (j:=j+1) (by omega)
 have h2:sumM M j (j+1-j)≤M j:=prox_one h j
 rw [if_pos h2] at h1
 cases hh:prs M j (j+1) with
 |nil=>rw [h1,hh];exact .inl rfl
 |cons a l=>
  have ha:a∈prs M j (j+1):=by rw [hh];simp
  have hl:l=[]:=by
   cases hl:l with
   |nil=>rfl
   |cons b l'=>
    exfalso
    have hb:b∈prs M j (j+1):=by rw [hh,hl];simp
    have hp:(prs M j (j+1)).Pairwise (·< ·):=by
     rw [prs]
     exact (List.pairwise_lt_range).filter _
    rw [hh,hl] at hp
    have hab:a<b:=(List.pairwise_cons.1 hp).1 b (by simp)
    simp only [prs,List.mem_filter,List.mem_range,prx,decide_eq_true_eq] at ha hb
    exact prox_uniq h hab (by omega) ha.2 hb.2
  simp only [prs,List.mem_filter,List.mem_range,prx,decide_eq_true_eq] at ha
  rw [h1,hh,hl]
  exact .inr ⟨a,by omega,ha.2,rfl⟩
theorem prs_zero (M:Nat→Nat):prs M 0 0=[]:=by simp [prs]
theorem secB_zero (M:Nat→Nat):secB M 0= -1:=by rw [secB,prs_zero];rfl
theorem secB_form {M:Nat→Nat} (h:GoodM M) (j:Nat):(secB M (j+1)= -1∧prs M (j+1) (j+1)=[j])∨∃a,a<j∧Prox M a (j+1)∧secB M (j+1)=a∧prs M (j+1) (j+1)=[a,j]:=by
 rcases prs_form h j with e|⟨a,h1,h2,e⟩
 ·exact .inl ⟨by rw [secB,e];rfl,e⟩
 ·exact .inr ⟨a,h1,h2,by rw [secB,e];rfl,e⟩
theorem prox_back {M:Nat→Nat} (h:GoodM M) {a j j':Nat} (h1:a<j) (h2:j≤j') (hp:Prox M a j'):Prox M a j:=by
 unfold Prox at hp ⊢
 exact Classical.byContradiction fun hn=>prx_mono h h1 h2 hn hp
theorem secB_of {M:Nat→Nat} (h:GoodM M) {a j:Nat} (h1:a<j) (hp:Prox M a (j+1)):secB M (j+1)=a:=by
 rcases secB_form h j with ⟨_,e⟩|⟨b,h3,h4,h5,e⟩
 ·exfalso
  have:a∈prs M (j+1) (j+1):=by
   simp only [prs,List.mem_filter,List.mem_range,prx,decide_eq_true_eq]
   exact ⟨by omega,hp⟩
  rw [e] at this
  simp at this
  omega
 ·rcases Nat.lt_trichotomy a b with hab|hab|hab
  ·exact absurd h4 (prox_uniq h hab (by omega) hp)
  ·rw [h5,hab]
  ·exact absurd hp (prox_uniq h hab (by omega) h4)
theorem clb_ok {xs:List Int} (hx:Br xs) {k:Nat} (h1:1≤k) (h24:k≤24):ClP (clbP k) (clbS xs k) (firstK xs k):=by
 have hg:=(mul_good hx).1
 refine ⟨by rw [clbP_len];exact h1,by rw [clbP_len];exact h24,by rw [clbS_len,clbP_len],by rw [firstK_mul,tab_len,clbP_len],fun i hi=> ?_,fun i hi=> ?_,fun i j hi hj=> ?_⟩
 ·rw [clbP_len] at hi
  rw [firstK_mul,tab_get _ _ _ _ hi]
  have:=mul_le hx i
  omega
 ·rw [clbP_len] at hi
  cases i with
  |zero=>
   rw [placeB_0,clbP_get hi,clbS_get hi]
   exact ⟨rfl,secB_zero _⟩
  |succ i=>
   rw [placeB_s (by omega),clbP_get hi,clbS_get hi]
   have e0:(((i+1:Nat):Int)-1).toNat=i:=by omega
   rw [e0,clbP_get (by omega),clbS_get (by omega)]
   refine ⟨by omega,?_⟩
   rcases secB_form hg i with ⟨e,_⟩|⟨a,h3,h4,h5,_⟩
   ·exact .inl e
   ·right
    rw [h5]
    refine ⟨by omega,?_⟩
    by_cases ha:a+1=i
    ·left;omega
    ·right
     obtain ⟨j,rfl⟩:∃j,i=j+1:=⟨i-1,by omega⟩
     exact (secB_of hg (by omega) (prox_back hg (by omega) (by omega) h4)).symm
 ·rw [clbP_len] at hi
  rw [diffB,clbP_get hi,clbP_get (by omega)]
  have:decide (((i:Int)-1)=((j:Int)-1))=false:=decide_eq_false (by omega)
  rw [this,Bool.and_false]
  rfl
theorem clb_proxs {xs:List Int} (hx:Br xs) {k j:Nat} (hj:j<k):proxs (clbP k) (clbS xs k) j=nat2 (prs (mul xs) j j):=by
 have hg:=(mul_good hx).1
 cases j with
 |zero=>rw [proxs,if_pos rfl,prs_zero];rfl
 |succ j=>
  rw [proxs,if_neg (by omega),clbP_get hj,clbS_get hj]
  rcases secB_form hg j with ⟨e,e2⟩|⟨a,h3,h4,h5,e2⟩
  ·rw [e,e2,if_neg (by omega)]
   simp only [nat2,List.map_cons,List.map_nil,List.nil_append]
   congr 1
   omega
  ·rw [h5,e2,if_pos (by omega)]
   simp only [nat2,List.map_cons,List.map_nil,List.cons_append,List.nil_append]
   congr 2
   omega
theorem clb_cpx {xs:List Int} (hx:Br xs) (k:Nat):cpx (clbP k) (clbS xs k) k k=proxL (firstK xs k):=by
 rw [proxL_first,cpx]
 exact tab_congr fun j hj=>by rw [if_pos hj,clb_proxs hx hj]
theorem sumM_last {M:Nat→Nat} (i k:Nat):sumM M i (k+1)=sumM M i k+M (i+1+k):=rfl
theorem exA_clb {xs:List Int} (hx:Br xs) {k:Nat} (h24:k≤24) {a:Nat} (ha:a<k):∀j,j≤k→
 0≤exA (proxL (firstK xs k)) (firstK xs k) j a∧exA (proxL (firstK xs k)) (firstK xs k) j a≤64∧
 (j≤a+1→exA (proxL (firstK xs k)) (firstK xs k) j a=mul xs a)∧
 (∀t,j=a+1+t→Prox (mul xs) a (a+t)→exA (proxL (firstK xs k)) (firstK xs k) j a=(mul xs a:Int)-sumM (mul xs) a t)
 |0,_=>by
  have h1:=mul_le hx a
  have e:exA (proxL (firstK xs k)) (firstK xs k) 0 a=mul xs a:=by rw [exA,firstK_mul,tab_get _ _ _ _ ha]
  rw [e]
  exact ⟨by omega,by omega,fun _=>rfl,fun t ht=>by omega⟩
 |j+1,hj=>by
  have hg:=(mul_good hx).1
  obtain ⟨i1,i2,i3,i4⟩:=exA_clb hx h24 ha j (by omega)
  have hmem:(a:Int)∈(proxL (firstK xs k)).getD j []↔a<j∧Prox (mul xs) a j:=by
   rw [proxL_first,tab_get _ _ _ _ (by omega),nat2,List.mem_map]
   constructor
   ·rintro ⟨b,hb,e⟩
    have:b=a:=by omega
    subst this
    simp only [prs,List.mem_filter,List.mem_range,prx,decide_eq_true_eq] at hb
    exact ⟨by omega,hb.2⟩
   ·rintro ⟨h1,h2⟩
    refine ⟨a,?_,rfl⟩
    simp only [prs,List.mem_filter,List.mem_range,prx,decide_eq_true_eq]
    exact ⟨by omega,h2⟩
  have hw:(firstK xs k).getD j 0=mul xs j:=by rw [firstK_mul,tab_get _ _ _ _ (by omega)]
  by_cases hm:a<j∧Prox (mul xs) a j
  ·obtain ⟨t,ht⟩:∃t,j=a+1+t:=⟨j-(a+1),by omega⟩
   have hpt:Prox (mul xs) a (a+t):=by
    by_cases h0:t=0
    ·subst h0;unfold Prox;rw [show a+0-a=0 by omega];simp [sumM]
    ·exact prox_back hg (by omega) (by omega) hm.2
   have e1:=i4 t ht hpt
   have hp2:sumM (mul xs) a (t+1)≤mul xs a:=by
    have:=hm.2
    unfold Prox at this
    rwa [ht,show a+1+t-a=t+1 by omega] at this
   rw [sumM_last] at hp2
   have hml:=mul_le hx a
   have e2:exA (proxL (firstK xs k)) (firstK xs k) (j+1) a=(mul xs a:Int)-sumM (mul xs) a (t+1):=by
    rw [exA,if_pos (hmem.2 hm),hw,e1,sumM_last,show mul xs j=mul xs (a+1+t) by rw [ht]]
    rw [show W ((mul xs a:Int)-(sumM (mul xs) a t:Nat)-(mul xs (a+1+t):Nat))=(mul xs a:Int)-(sumM (mul xs) a t:Nat)-(mul xs (a+1+t):Nat) from wrap_id (by omega) (by omega)]
    omega
   rw [e2,sumM_last]
   refine ⟨by omega,by omega,fun h=>by omega,fun s hs _=> ?_⟩
   rw [show s=t+1 by omega,sumM_last]
  ·have e2:exA (proxL (firstK xs k)) (firstK xs k) (j+1) a=exA (proxL (firstK xs k)) (firstK xs k) j a:=by
    rw [exA,if_neg (fun h=>hm (hmem.1 h))]
   rw [e2]
   refine ⟨i1,i2,fun h=>i3 (by omega),fun s hs hp=> ?_⟩
   cases s with
   |zero=>rw [i3 (by omega)];simp [sumM]
   |succ s=>exact absurd ⟨by omega,by rw [show j=a+(s+1) by omega];exact hp⟩ hm
theorem clb_cons {xs:List Int} (hx:Br xs) {k:Nat} (h24:k≤24):consB (clbP k) (clbS xs k) (firstK xs k)=true:=by
 rw [consB,List.all_eq_true]
 intro y hy
 rw [exsL,clbP_len] at hy
 obtain ⟨a,ha,rfl⟩:=List.mem_map.1 hy
 rw [exL,clbP_len,clb_cpx hx]
 simpa using (exA_clb hx h24 (List.mem_range.1 ha) k (Nat.le_refl _)).1
theorem idx_iota {k a:Nat} (ha:a<k):idx (iota k) (a:Int)=a:=by
 have h:((List.range (iota k).length).find? fun t=>(iota k).getD t 0==(a:Int))=some a:=by
  rw [List.find?_range_eq_some]
  refine ⟨by rw [iota_get _ _ ha];simp,by rw [iota_len];simpa using ha,fun j hj=> ?_⟩
  rw [iota_get _ _ (by omega)]
  simp
  omega
 rw [idx,h]
theorem clb_path {k:Nat} {S Q:List Int} (h:ClP (clbP k) S Q):∀i:Nat,i<k→pthC (clbP k) (i:Int)=iota (i+1)
 |0,hi=>by
  rw [pthC_step h (by omega) (by rw [clbP_len];omega),show ((0:Nat):Int).toNat=0 from rfl,clbP_get hi,show ((0:Nat):Int)-1= -1 by omega,pthC_neg]
  rfl
 |i+1,hi=>by
  rw [pthC_step h (by omega) (by rw [clbP_len];omega),Int.toNat_natCast,clbP_get hi,show ((i+1:Nat):Int)-1=(i:Nat) by omega,clb_path h i (by omega)]
  exact (tab_succ _ _).symm
theorem clb_code {xs:List Int} (hx:Br xs) {k:Nat} (h1:1≤k) (h24:k≤24):natL (codI (clbP k) (clbS xs k) ((k:Int)-1))=codeK xs k:=by
 have hc:=clb_ok hx h1 h24
 have hg:=(mul_good hx).1
 rw [codI,show (k:Int)-1=((k-1:Nat):Int) by omega,clb_path hc (k-1) (by omega),show k-1+1=k by omega,cdN,iota_len,codeK,natL,tab',List.map_map]
 refine List.map_congr_left fun t ht=> ?_
 rw [List.mem_range] at ht
 simp only [Function.comp]
 rw [cod1,iota_get _ _ (by omega),Int.toNat_natCast,clbS_get (by omega),cd_code hg (by omega) (Nat.le_refl _)]
 rcases secB_form hg t with ⟨e,e2⟩|⟨a,h3,h4,h5,e2⟩
 ·rw [e,e2,if_neg (by omega)]
  simp
 ·rw [h5,e2,if_pos (by omega),if_pos (by simp)]
  rw [idx_iota (by omega)]
  simp
  omega
end Go.Ax
set_option linter.all false
namespace Go.Ax
open Go.Proofs
theorem lead_at:∀(cs:List Nat) (t u:Nat),u<lead t cs→cs.getD u 0=t+u
 |[],_,u,h=>by simp [lead] at h
 |c::cs,t,u,h=>by
  rw [lead] at h
  split at h
  ·rename_i e
   cases u with
   |zero=>simpa using e
   |succ u=>
    rw [List.getD_cons_succ,lead_at cs (t+1) u (by omega)]
    omega
  ·omega
theorem take_le {M:Nat→Nat} {i:Nat}:∀(q:Nat) (X:List Nat),(∀t,t<q→X.getD t 0≤M (i+1+t))→(X.take q).sum≤sumM M i q
 |0,_,_=>by simp [sumM]
 |q+1,X,h=>by
  have h1:=take_le q X (fun t ht=>h t (by omega))
  have h2:=h q (by omega)
  rw [List.take_add_one,List.sum_append,sumM]
  rw [List.getD_eq_getElem?_getD] at h2
  cases hx:X[q]? with
  |none=>simp only [Option.toList_none,List.sum_nil];omega
  |some x=>
   rw [hx,Option.getD_some] at h2
   simp only [Option.toList_some,List.sum_cons,List.sum_nil]
   omega
theorem hd_le {M:Nat→Nat} (hp:∀i,1≤M i) {cs:List Nat} (hc:∀i,i<cs.length→sumM M i (lead 2 (cs.drop (i+1))+1)≤M i):∀n i,i≤cs.length→cs.length≤i+n→hdM (cs.drop i)≤M i
 |0,i,h1,h2=>by
  rw [List.drop_eq_nil_of_le (by omega)]
  exact hp i
 |n+1,i,h1,h2=>by
  by_cases hi:i<cs.length
  ·rw [drop_at hi,hdM,mC,List.getD_cons_zero]
   refine Nat.le_trans (take_le (M:=M) (i:=i) _ _ fun t ht=> ?_) (hc i hi)
   by_cases h3:i+1+t≤cs.length
   ·rw [mC_drop _ _ (by rw [List.length_drop];omega),List.drop_drop]
    exact hd_le hp hc n (i+1+t) h3 (by omega)
   ·rw [List.getD_eq_getElem?_getD,List.getElem?_eq_none (by rw [mC_len,List.length_drop];omega)]
    exact Nat.zero_le _
  ·rw [List.drop_eq_nil_of_le (by omega)]
   exact hp i
theorem okC_of {M:Nat→Nat} (hp:∀i,1≤M i) (h64:∀i,M i≤64) {cs:List Nat} (hc:∀i,i<cs.length→sumM M i (lead 2 (cs.drop (i+1))+1)≤M i):okC cs=true:=by
 rw [okC,List.all_eq_true]
 intro x hx
 obtain ⟨j,hj,rfl⟩:=List.getElem_of_mem hx
 have h0:=hj
 rw [mC_len] at h0
 have h1:=mC_drop cs j (by omega)
 rw [List.getD_eq_getElem?_getD,List.getElem?_eq_getElem hj,Option.getD_some] at h1
 have h2:=hd_le hp hc cs.length j (by omega) (by omega)
 have h3:=h64 j
 rw [decide_eq_true_eq]
 omega
theorem okC_codeK {xs:List Int} (hx:Br xs) {k:Nat} {cs:List Nat} (hcs:natL cs=codeK xs k):okC cs=true:=by
 have hg:=(mul_good hx).1
 have hlen:cs.length=k-1:=by
  have:=congrArg List.length hcs
  rwa [natL_len,codeK,tab_len] at this
 refine okC_of hg.pos (mul_le hx) fun i hi=> ?_
 cases hL:lead 2 (cs.drop (i+1)) with
 |zero=>simpa [sumM] using hg.fall i
 |succ l=>
  have h1:=lead_at (cs.drop (i+1)) 2 l (by omega)
  have h2:=lead_le (cs.drop (i+1)) 2
  rw [List.length_drop] at h2
  have h3:((cs.getD (i+1+l) 0:Nat):Int)=cd (mul xs) (i+1+l+1) (i+1+l+1):=by
   rw [←natL_get,hcs,codeK,tab_get _ _ _ _ (by omega)]
  have h4:(cs.drop (i+1)).getD l 0=cs.getD (i+1+l) 0:=by
   rw [List.getD_eq_getElem?_getD,List.getD_eq_getElem?_getD,List.getElem?_drop]
  rw [h4] at h1
  rw [h1,cd_code hg (by omega) (Nat.le_refl _)] at h3
  split at h3
  ·rename_i hlt
   have ha:(prs (mul xs) (i+1+l+1) (i+1+l+1)).getD 0 0=i:=by omega
   have hm:i∈prs (mul xs) (i+1+l+1) (i+1+l+1):=by
    cases hp:prs (mul xs) (i+1+l+1) (i+1+l+1) with
    |nil=>rw [hp] at hlt;simp at hlt
    |cons a t=>rw [hp] at ha;simp at ha;rw [ha];simp
   simp only [prs,List.mem_filter,List.mem_range,prx,decide_eq_true_eq] at hm
   have:=hm.2
   rwa [show i+1+l+1-i=l+1+1 by omega] at this
  ·omega
def addN (pr:List (List Int)) (w:Nat→Int):Nat→List Int
 |0=>[]
 |j+1=>addN pr w j++[(pr.getD j []).foldl (fun n i=>W (n+(addN pr w j).getD i.toNat 0)) (w j)]
theorem addN_len (pr:List (List Int)) (w:Nat→Int):∀k,(addN pr w k).length=k
 |0=>rfl
 |k+1=>by rw [addN,List.length_append,addN_len pr w k];rfl
theorem addN_get {pr:List (List Int)} {w:Nat→Int}:∀{k j:Nat},j<k→(addN pr w k).getD j 0=(pr.getD j []).foldl (fun n i=>W (n+(addN pr w j).getD i.toNat 0)) (w j)
 |0,_,h=>by omega
 |k+1,j,h=>by
  by_cases hj:j=k
  ·subst hj
   rw [addN,List.getD_eq_getElem?_getD,List.getElem?_append_right (by rw [addN_len];exact Nat.le_refl _),addN_len,Nat.sub_self]
   rfl
  ·rw [addN,List.getD_append _ _ _ _ (by rw [addN_len];omega)]
   exact addN_get (by omega)
theorem addN_pre {pr:List (List Int)} {w:Nat→Int}:∀{k j:Nat},j≤k→∀i,i<j→(addN pr w j).getD i 0=(addN pr w k).getD i 0:=fun hjk i hi=>by rw [addN_get hi,addN_get (by omega)]
theorem disc_small {xs:List Int} (hx:Br xs) {k:Nat} (h24:k≤24):∀j,j<k→1≤(addN (proxL (firstK xs k)) (fun _=>1) k).getD j 0∧(addN (proxL (firstK xs k)) (fun _=>1) k).getD j 0<((2^(j+1):Nat):Int):=by
 have hg:=(mul_good hx).1
 intro j
 induction j using Nat.strongRecOn with
 |ind j ih=>
  intro hj
  have hpow:∀a,a<24→2^(a+1)≤2^24:=fun a ha=>Nat.pow_le_pow_right (by omega) (by omega)
  have hpr:(proxL (firstK xs k)).getD j []=nat2 (prs (mul xs) j j):=by rw [proxL_first,tab_get _ _ _ _ hj]
  rw [addN_get hj,hpr]
  cases j with
  |zero=>
   rw [prs_zero]
   exact ⟨by simp [nat2],by simp [nat2]⟩
  |succ j=>
   obtain ⟨i1,i2⟩:=ih j (by omega) (by omega)
   have hq:=hpow j (by omega)
   have hs:2^(j+1+1)=2^(j+1)*2:=Nat.pow_succ ..
   generalize hz:(2:Nat)^24=z at hq hpow
   have hz2:z=16777216:=by rw [←hz]
   rcases prs_form hg j with e|⟨a,h3,_,e⟩
   ·rw [e]
    simp only [nat2,List.map_cons,List.map_nil,List.foldl_cons,List.foldl_nil,Int.toNat_natCast]
    rw [addN_pre (show j+1≤k by omega) j (by omega),show W (1+(addN (proxL (firstK xs k)) (fun _=>1) k).getD j 0)=1+(addN (proxL (firstK xs k)) (fun _=>1) k).getD j 0 from wrap_id (by omega) (by omega)]
    omega
   ·obtain ⟨a1,a2⟩:=ih a (by omega) (by omega)
    have hle:2^(a+1)≤2^(j+1):=Nat.pow_le_pow_right (by omega) (by omega)
    have hle2:2^(a+1)*2≤2^(j+1):=by
     rw [←Nat.pow_succ]
     exact Nat.pow_le_pow_right (by omega) (by omega)
    rw [e]
    simp only [nat2,List.map_cons,List.map_nil,List.foldl_cons,List.foldl_nil,Int.toNat_natCast]
    rw [addN_pre (show j+1≤k by omega) j (by omega),addN_pre (show j+1≤k by omega) a (by omega)]
    rw [show W (1+(addN (proxL (firstK xs k)) (fun _=>1) k).getD a 0)=1+(addN (proxL (firstK xs k)) (fun _=>1) k).getD a 0 from wrap_id (by omega) (by omega)]
    rw [show W (1+(addN (proxL (firstK xs k)) (fun _=>1) k).getD a 0+(addN (proxL (firstK xs k)) (fun _=>1) k).getD j 0)=1+(addN (proxL (firstK xs k)) (fun _=>1) k).getD a 0+(addN (proxL (firstK xs k)) (fun _=>1) k).getD j 0 from wrap_id (by omega) (by omega)]
    omega
theorem clb_prm {xs:List Int} (hx:Br xs) {k:Nat} (h1:1≤k) (h24:k≤24) {i j:Nat} (hi:i<k) (hj:j<i):
 (prm (clbP k) (clbS xs k) i j== -1)=((proxL (firstK xs k)).getD i []).contains (j:Int):=by
 have hc:=clb_ok hx h1 h24
 have hm:=mem_proxs hc (k:=i) (b:=j) (by rw [clbP_len];exact hi)
 have e:(proxL (firstK xs k)).getD i []=proxs (clbP k) (clbS xs k) i:=by
  rw [proxL_first,tab_get _ _ _ _ hi,clb_proxs hx hi]
 rw [e,prm,if_neg (by omega),Bool.eq_iff_iff,beq_iff_eq,List.contains_iff_mem,hm]
 split
 ·rename_i h;exact ⟨fun _=>h,fun _=>rfl⟩
 ·rename_i h;exact ⟨fun h2=>by omega,fun h2=>absurd h2 h⟩
end Go.Ax
set_option linter.all false
namespace Go.Ax
open Go.Proofs
def c_Bi_i9 (f:List V→Int→Int) (q:List V→Int→Prop):Contract:=fun
 |[.agg [.slc false 2 (.int .i64 0) a0],.int .i64 a1]=>some ([q a0 a1],.int .i64 (f a0 a1))
 |_=>none
def c_Bi_Li (f:List V→Int→List V×Int) (q:List V→Int→Prop):Contract:=fun
 |[.agg [.slc false 2 (.int .i64 0) a0],.int .i64 a1]=>some ([q a0 a1],.tup [.slc false 2 (.int .i64 0) ((f a0 a1).1),.int .i64 ((f a0 a1).2)])
 |_=>none
def c_Bi_li9 (f:List V→Int→List V×Int) (q:List V→Int→Prop):Contract:=fun
 |[.agg [.slc false 2 (.int .i64 0) a0],.int .i64 a1]=>some ([q a0 a1],.tup [.slc true 2 (.int .i64 0) ((f a0 a1).1),.int .i64 ((f a0 a1).2)])
 |_=>none
def c_Bi_mi (f:List V→Int→List V×Int) (q:List V→Int→Prop):Contract:=fun
 |[.agg [.slc false 2 (.int .i64 0) a0],.int .i64 a1]=>some ([q a0 a1],.tup [.slc true 24 (.slc true 2 (.int .i64 0) []) ((f a0 a1).1),.int .i64 ((f a0 a1).2)])
 |_=>none
def c_Bi_Bi9 (f:List V→Int→List V×Int) (q:List V→Int→Prop):Contract:=fun
 |[.agg [.slc false 2 (.int .i64 0) a0],.int .i64 a1]=>some ([q a0 a1],.tup [.agg [.slc true 2 (.int .i64 0) ((f a0 a1).1)],.int .i64 ((f a0 a1).2)])
 |_=>none
def f_ckp (a:List V) (k:Int):Int:=bif isBr (unI a) then (bif inRange k 1 400 then 0 else 2) else 1
def q_Ik (a:List V) (_:Int):Prop:=IsIs a
theorem ckp_ok {a:List V} {k:Int} (h:IsIs a) (h2:f_ckp a k=0):q_first a k∧∃xs,a=I xs∧Br xs∧1≤k∧k≤400:=by
 obtain ⟨xs,hxs⟩:=h.1
 rw [f_ckp,hxs,unI_I] at h2
 cases h3:isBr xs with
 |false=>simp [h3] at h2
 |true=>
  cases h4:inRange k 1 400 with
  |false=>simp [h3,h4] at h2
  |true=>
   rw [inRange,Bool.and_eq_true,decide_eq_true_eq,decide_eq_true_eq] at h4
   exact ⟨⟨⟨xs,hxs,br_of h3⟩,h4.1,by omega⟩,xs,hxs,br_of h3,h4.1,h4.2⟩
set_option maxHeartbeats 1000000 in
set_option maxRecDepth 100000 in
theorem s_impl_checkPoints:Sat Try.prog 60 (c_Bi_i9 f_ckp q_Ik):=by
 intro args ps r h hp
 unfold c_Bi_i9 at h
 split at h
 ·rename_i a0 a1
  simp only [Option.some.injEq,Prod.mk.injEq] at h
  obtain ⟨rfl,rfl⟩:=h
  have hq:IsIs a0:=(alls_cons.1 hp).1
  obtain ⟨xs,hxs⟩:=hq.1
  have g1:V.frzs a0=a0:=by rw [hxs,I_frzs]
  generalize H_f0_isBr:f0_isBr=F_f0_isBr
  generalize H_IsIs:IsIs=F_IsIs
  generalize H_inRange:inRange=F_inRange
  refine fnOk_ofI (T:=tab) (B:=[(53,c_b_bool F_f0_isBr F_IsIs),(54,c_impl_inRange F_inRange)]) (Bi:=[]) [0,1,2,4] Try.func60 rfl rfl (by kernel_rfl) (Nat.le_of_ble_eq_true rfl) mixed tabOk (by subst H_f0_isBr H_IsIs H_inRange;exact (bookCons s_impl_IsBranch (bookCons s_impl_inRange bookNil))) (by subst H_f0_isBr H_IsIs H_inRange;exact bookINil) (by kernel_rfl) ?_
  intro L lp rr hL hr hf hlp
  have Er:∀x y z,F_inRange x y z=inRange x y z:=fun x y z=>by rw [←H_inRange]
  conv=>cbv
  subst H_IsIs H_f0_isBr
  have e1:f0_isBr a0=isBr xs:=by rw [hxs,f0_isBr,unI_I]
  have e2:f_ckp a0 a1=bif isBr xs then (bif inRange a1 1 400 then 0 else 2) else 1:=by rw [f_ckp,hxs,unI_I]
  simp only [stdEqs hL,imp_self,true_and,and_true,bif_or,bif_and,Bool.or_eq_true,Bool.or_eq_false_iff,Bool.and_eq_true,Bool.and_eq_false_iff,decide_eq_true_eq,decide_eq_false_iff_not,Bool.not_eq_true',Bool.not_eq_false',beq_iff_eq,beq_eq_false_iff_ne,ne_eq,toNat0,toNat1,ok_int,toI_int,I_frzs,I_length,I_getD,ok_ints,toL_slc,true_and,g1,e1,Er]
  refine ⟨hq,fun h=> ?_,fun h=>⟨fun h2=> ?_,fun h2=> ?_⟩⟩
  ·rw [hr,e2,h];rfl
  ·rw [hr,e2,h,h2];rfl
  ·rw [hr,e2,h,h2];rfl
 ·cases h
def f_MA (a:List V) (k:Int):List V×Int:=bif f_ckp a k==0 then (f_first a k,0) else ([],f_ckp a k)
set_option maxHeartbeats 1000000 in
set_option maxRecDepth 100000 in
theorem s_impl_MultiplicitiesAt:Sat Try.prog 11 (c_Bi_Li f_MA q_Ik):=by
 intro args ps r h hp
 unfold c_Bi_Li at h
 split at h
 ·rename_i a0 a1
  simp only [Option.some.injEq,Prod.mk.injEq] at h
  obtain ⟨rfl,rfl⟩:=h
  have hq:IsIs a0:=(alls_cons.1 hp).1
  obtain ⟨xs,hxs⟩:=hq.1
  have g1:V.frzs a0=a0:=by rw [hxs,I_frzs]
  generalize H_f_ckp:f_ckp=F_f_ckp
  generalize H_q_Ik:q_Ik=F_q_Ik
  generalize H_f_first:f_first=F_f_first
  generalize H_q_first:q_first=F_q_first
  refine fnOk_ofF (T:=tab) (B:=[(60,c_Bi_i9 F_f_ckp F_q_Ik),(55,c_Bi_L F_f_first F_q_first)]) (Bi:=[]) [0,1,2,4,5,6] Try.func11 rfl rfl (by kernel_rfl) (Nat.le_of_ble_eq_true rfl) mixed tabOk (by subst H_f_ckp H_q_Ik H_f_first H_q_first;exact (bookCons s_impl_checkPoints (bookCons s_impl_firstOf bookNil))) (by subst H_f_ckp H_q_Ik H_f_first H_q_first;exact bookINil) (by kernel_rfl) ?_
  intro L lp rr hL hr hf hlp
  conv=>cbv
  subst H_f_ckp H_q_Ik H_f_first H_q_first
  simp only [stdEqs hL,imp_self,true_and,and_true,bif_or,bif_and,Bool.or_eq_true,Bool.or_eq_false_iff,Bool.and_eq_true,Bool.and_eq_false_iff,decide_eq_true_eq,decide_eq_false_iff_not,Bool.not_eq_true',Bool.not_eq_false',beq_iff_eq,beq_eq_false_iff_ne,ne_eq,toNat0,toNat1,ok_int,toI_int,I_frzs,I_length,I_getD,ok_ints,toL_slc,true_and,g1]
  refine ⟨hq,fun h=> ?_,fun h=>⟨(ckp_ok hq h).1,?_⟩⟩
  ·rw [hr,f_MA,show (f_ckp a0 a1==0)=false by simpa using h];rfl
  ·rw [hr,f_MA,show (f_ckp a0 a1==0)=true by simpa using h]
   have e:V.frzs (f_first a0 a1)=f_first a0 a1:=by rw [f_first,I_frzs]
   simp only [V.frz,V.frzs,cond_true,e]
 ·cases h
def f_PO (a:List V) (k:Int):List V×Int:=bif f_ckp a k==0 then (f_pof a k,0) else ([],f_ckp a k)
set_option maxHeartbeats 1000000 in
set_option maxRecDepth 100000 in
theorem s_impl_ProximatesOf:Sat Try.prog 14 (c_Bi_mi f_PO q_Ik):=by
 intro args ps r h hp
 unfold c_Bi_mi at h
 split at h
 ·rename_i a0 a1
  simp only [Option.some.injEq,Prod.mk.injEq] at h
  obtain ⟨rfl,rfl⟩:=h
  have hq:IsIs a0:=(alls_cons.1 hp).1
  obtain ⟨xs,hxs⟩:=hq.1
  have g1:V.frzs a0=a0:=by rw [hxs,I_frzs]
  generalize H_f_ckp:f_ckp=F_f_ckp
  generalize H_q_Ik:q_Ik=F_q_Ik
  generalize H_f_pof:f_pof=F_f_pof
  generalize H_q_first:q_first=F_q_first
  refine fnOk_ofI (T:=tab) (B:=[(60,c_Bi_i9 F_f_ckp F_q_Ik),(65,c_Bi_m F_f_pof F_q_first)]) (Bi:=[]) [0,1,2,4,5,6] Try.func14 rfl rfl (by kernel_rfl) (Nat.le_of_ble_eq_true rfl) mixed tabOk (by subst H_f_ckp H_q_Ik H_f_pof H_q_first;exact (bookCons s_impl_checkPoints (bookCons s_impl_proximatesOf bookNil))) (by subst H_f_ckp H_q_Ik H_f_pof H_q_first;exact bookINil) (by kernel_rfl) ?_
  intro L lp rr hL hr hf hlp
  conv=>cbv
  subst H_f_ckp H_q_Ik H_f_pof H_q_first
  simp only [stdEqs hL,imp_self,true_and,and_true,bif_or,bif_and,Bool.or_eq_true,Bool.or_eq_false_iff,Bool.and_eq_true,Bool.and_eq_false_iff,decide_eq_true_eq,decide_eq_false_iff_not,Bool.not_eq_true',Bool.not_eq_false',beq_iff_eq,beq_eq_false_iff_ne,ne_eq,toNat0,toNat1,ok_int,toI_int,I_frzs,I_length,I_getD,ok_ints,toL_slc,true_and,g1]
  refine ⟨hq,fun h=> ?_,fun h=>⟨(ckp_ok hq h).1,?_⟩⟩
  ·rw [hr,f_PO,show (f_ckp a0 a1==0)=false by simpa using h];rfl
  ·rw [hr,f_PO,show (f_ckp a0 a1==0)=true by simpa using h];rfl
 ·cases h
def f_CO (a:List V) (k:Int):List V×Int:=bif f_ckp a k==0 then (I (codeK (unI a) k.toNat),0) else ([],f_ckp a k)
set_option maxHeartbeats 1000000 in
set_option maxRecDepth 100000 in
theorem s_impl_CodeOf:Sat Try.prog 71 (c_Bi_li9 f_CO q_Ik):=by
 intro args ps r h hp
 unfold c_Bi_li9 at h
 split at h
 ·rename_i a0 a1
  simp only [Option.some.injEq,Prod.mk.injEq] at h
  obtain ⟨rfl,rfl⟩:=h
  have hq:IsIs a0:=(alls_cons.1 hp).1
  obtain ⟨xs,hxs⟩:=hq.1
  have g1:V.frzs a0=a0:=by rw [hxs,I_frzs]
  generalize H_f_ckp:f_ckp=F_f_ckp
  generalize H_q_Ik:q_Ik=F_q_Ik
  generalize H_f_pof:f_pof=F_f_pof
  generalize H_q_first:q_first=F_q_first
  generalize H_f_code:f_code=F_f_code
  generalize H_q_code:q_code=F_q_code
  refine fnOk_ofI (T:=tab) (B:=[(60,c_Bi_i9 F_f_ckp F_q_Ik),(65,c_Bi_m F_f_pof F_q_first),(126,c_m_l F_f_code F_q_code)]) (Bi:=[]) [0,1,2,4,5,6] Try.func71 rfl rfl (by kernel_rfl) (Nat.le_of_ble_eq_true rfl) mixed tabOk (by subst H_f_ckp H_q_Ik H_f_pof H_q_first H_f_code H_q_code;exact (bookCons s_impl_checkPoints (bookCons s_impl_proximatesOf (bookCons s_impl_codeOf bookNil)))) (by subst H_f_ckp H_q_Ik H_f_pof H_q_first H_f_code H_q_code;exact bookINil) (by kernel_rfl) ?_
  intro L lp rr hL hr hf hlp
  conv=>cbv
  subst H_f_ckp H_q_Ik H_f_pof H_q_first H_f_code H_q_code
  simp only [stdEqs hL,imp_self,true_and,and_true,bif_or,bif_and,Bool.or_eq_true,Bool.or_eq_false_iff,Bool.and_eq_true,Bool.and_eq_false_iff,decide_eq_true_eq,decide_eq_false_iff_not,Bool.not_eq_true',Bool.not_eq_false',beq_iff_eq,beq_eq_false_iff_ne,ne_eq,toNat0,toNat1,ok_int,toI_int,I_frzs,I_length,I_getD,ok_ints,toL_slc,true_and,g1]
  refine ⟨hq,fun h=> ?_,fun h=> ?_⟩
  ·rw [hr,f_CO,show (f_ckp a0 a1==0)=false by simpa using h];rfl
  ·obtain ⟨hqf,ys,hys,hb,k1,k4⟩:=ckp_ok hq h
   have e1:V.frzs (f_pof a0 a1)=II false (proxL (firstK ys a1.toNat)):=by rw [hys,f_pof,unI_I,II_frzs]
   have e2:f_code (II false (proxL (firstK ys a1.toNat)))=I (codeK ys a1.toNat):=by rw [f_code,unII_II,codeL_prox hb]
   rw [e1,e2]
   refine ⟨hqf,q_code_prox ys (by omega) (by omega),I_noFzs _,?_⟩
   rw [hr,f_CO,show (f_ckp a0 a1==0)=true by simpa using h,hys,unI_I];rfl
 ·cases h
theorem codeN_vc {xs:List Int} (hx:Br xs) {k:Nat} (h1:1≤k) (h24:k≤24):q_cvm (I (codeK xs k))∧f_cur (I (codeK xs k))=(I (curB (codI (clbP k) (clbS xs k) ((k:Int)-1))),0):=by
 have hc:=clb_ok hx h1 h24
 have h:=codI_ok hc (i:=(k:Int)-1) (by omega) (by rw [clbP_len];omega)
 rw [clb_code hx h1 h24] at h
 refine ⟨h.1,?_⟩
 rw [h.2,curR,okC_codeK hx (clb_code hx h1 h24)]
 rfl
def f_CA (a:List V) (j:Int):List V×Int:=bif f_ckp a (W (j+1))==0 then f_cur (I (codeK (unI a) (W (j+1)).toNat)) else ([],f_ckp a (W (j+1)))
def q_CA (a:List V) (j:Int):Prop:=IsIs a∧0≤j∧j≤23
set_option maxHeartbeats 1000000 in
set_option maxRecDepth 100000 in
theorem s_impl_CurvetteAt:Sat Try.prog 23 (c_Bi_Bi9 f_CA q_CA):=by
 intro args ps r h hp
 unfold c_Bi_Bi9 at h
 split at h
 ·rename_i a0 a1
  simp only [Option.some.injEq,Prod.mk.injEq] at h
  obtain ⟨rfl,rfl⟩:=h
  obtain ⟨hq,j0,j1⟩:q_CA a0 a1:=(alls_cons.1 hp).1
  obtain ⟨xs,hxs⟩:=hq.1
  have g1:V.frzs a0=a0:=by rw [hxs,I_frzs]
  generalize H_f_CO:f_CO=F_f_CO
  generalize H_q_Ik:q_Ik=F_q_Ik
  generalize H_f_cur:f_cur=F_f_cur
  generalize H_q_cvm:q_cvm=F_q_cvm
  refine fnOk_ofI (T:=tab) (B:=[(71,c_Bi_li9 F_f_CO F_q_Ik),(72,c_l_Bi F_f_cur F_q_cvm)]) (Bi:=[]) [0,1,2,4,5,6,7] Try.func23 rfl rfl (by kernel_rfl) (Nat.le_of_ble_eq_true rfl) mixed tabOk (by subst H_f_CO H_q_Ik H_f_cur H_q_cvm;exact (bookCons s_impl_CodeOf (bookCons s_impl_curvette bookNil))) (by subst H_f_CO H_q_Ik H_f_cur H_q_cvm;exact bookINil) (by kernel_rfl) ?_
  intro L lp rr hL hr hf hlp
  conv=>cbv
  subst H_f_CO H_q_Ik H_f_cur H_q_cvm
  simp only [stdEqs hL,imp_self,true_and,and_true,bif_or,bif_and,Bool.or_eq_true,Bool.or_eq_false_iff,Bool.and_eq_true,Bool.and_eq_false_iff,decide_eq_true_eq,decide_eq_false_iff_not,Bool.not_eq_true',Bool.not_eq_false',beq_iff_eq,beq_eq_false_iff_ne,ne_eq,toNat0,toNat1,ok_int,toI_int,I_frzs,I_length,I_getD,ok_ints,toL_slc,true_and,g1]
  rw [wrap_id (by omega) (by omega)]
  have hw:W (a1+1)=a1+1:=wrap_id (by omega) (by omega)
  cases hb0:f_ckp a0 (a1+1)==0 with
  |false=>
   have h:f_ckp a0 (a1+1)≠0:=by simpa using hb0
   have e0:f_CO a0 (a1+1)=([],f_ckp a0 (a1+1)):=by rw [f_CO,hb0];rfl
   rw [e0]
   refine ⟨hq,fun _=> ?_,fun h2=>absurd h2 h⟩
   rw [hr,f_CA,hw,hb0];rfl
  |true=>
   have h:f_ckp a0 (a1+1)=0:=by simpa using hb0
   obtain ⟨_,ys,hys,hb,k1,k4⟩:=ckp_ok hq h
   have e0:f_CO a0 (a1+1)=(I (codeK ys (a1+1).toNat),0):=by rw [f_CO,hb0,hys,unI_I];rfl
   obtain ⟨c1,c2⟩:=codeN_vc hb (k:=(a1+1).toNat) (by omega) (by omega)
   rw [e0]
   refine ⟨hq,fun h2=>absurd rfl h2,fun _=> ?_⟩
   simp only [I_frzs]
   refine ⟨c1,by rw [c2];exact I_noFzs _,?_⟩
   rw [hr,f_CA,hw,hb0,hys,unI_I];rfl
 ·cases h
def c_K_bi (f:List V→List V→List V→Bool×Int) (q:List V→List V→List V→Prop):Contract:=fun
 |[.agg [.slc false 2 (.int .i64 0) a0,.slc false 2 (.int .i64 0) a1,.slc false 2 (.int .i64 0) a2]]=>some ([q a0 a1 a2],.tup [.bool ((f a0 a1 a2).1),.int .i64 ((f a0 a1 a2).2)])
 |_=>none
def c_K_mi (f:List V→List V→List V→List V×Int) (q:List V→List V→List V→Prop):Contract:=fun
 |[.agg [.slc false 2 (.int .i64 0) a0,.slc false 2 (.int .i64 0) a1,.slc false 2 (.int .i64 0) a2]]=>some ([q a0 a1 a2],.tup [.slc true 24 (.slc true 2 (.int .i64 0) []) ((f a0 a1 a2).1),.int .i64 ((f a0 a1 a2).2)])
 |_=>none
noncomputable def f_IC (a b c:List V):Bool×Int:=bif f_isCl a b c then (f_cons a b c,0) else (false,1)
set_option maxHeartbeats 1000000 in
set_option maxRecDepth 100000 in
theorem s_impl_IsConsistent:Sat Try.prog 16 (c_K_bi f_IC q_K):=by
 intro args ps r h hp
 unfold c_K_bi at h
 split at h
 ·rename_i a0 a1 a2
  simp only [Option.some.injEq,Prod.mk.injEq] at h
  obtain ⟨rfl,rfl⟩:=h
  have hq:q_K a0 a1 a2:=(alls_cons.1 hp).1
  have g0:=hq.1.frz
  have g1:=hq.2.1.frz
  have g2:=hq.2.2.frz
  generalize H_f_isCl:f_isCl=F_f_isCl
  generalize H_q_K:q_K=F_q_K
  generalize H_f_cons:f_cons=F_f_cons
  generalize H_q_Kv:q_Kv=F_q_Kv
  refine fnOk_ofI (T:=tab) (B:=[(63,c_K_b F_f_isCl F_q_K),(67,c_K_b F_f_cons F_q_Kv)]) (Bi:=[]) [0,1,2,3] Try.func16 rfl rfl (by kernel_rfl) (Nat.le_of_ble_eq_true rfl) mixed tabOk (by subst H_f_isCl H_q_K H_f_cons H_q_Kv;exact (bookCons s_impl_IsCluster (bookCons s_impl_consistent bookNil))) (by subst H_f_isCl H_q_K H_f_cons H_q_Kv;exact bookINil) (by kernel_rfl) ?_
  intro L lp rr hL hr hf hlp
  conv=>cbv
  simp only [stdEqs hL,imp_self,true_and,and_true,bif_or,bif_and,Bool.or_eq_true,Bool.or_eq_false_iff,Bool.and_eq_true,Bool.and_eq_false_iff,decide_eq_true_eq,decide_eq_false_iff_not,Bool.not_eq_true',Bool.not_eq_false',beq_iff_eq,beq_eq_false_iff_ne,ne_eq,toNat0,toNat1,ok_int,toI_int,I_frzs,I_length,I_getD,ok_ints,toL_slc,g0,g1,g2]
  subst H_f_isCl H_q_K H_f_cons H_q_Kv
  refine ⟨hq,fun h=> ?_,fun h=>⟨q_Kv_of hq h,?_⟩⟩
  ·rw [hr,f_IC,h];rfl
  ·rw [hr,f_IC,h];rfl
 ·cases h
noncomputable def f_PMx (a b c:List V):List V×Int:=bif f_isCl a b c then (f_prm a b c,0) else ([],1)
set_option maxHeartbeats 1000000 in
set_option maxRecDepth 100000 in
theorem s_impl_ProximityMatrix:Sat Try.prog 15 (c_K_mi f_PMx q_K):=by
 intro args ps r h hp
 unfold c_K_mi at h
 split at h
 ·rename_i a0 a1 a2
  simp only [Option.some.injEq,Prod.mk.injEq] at h
  obtain ⟨rfl,rfl⟩:=h
  have hq:q_K a0 a1 a2:=(alls_cons.1 hp).1
  have g0:=hq.1.frz
  have g1:=hq.2.1.frz
  have g2:=hq.2.2.frz
  generalize H_f_isCl:f_isCl=F_f_isCl
  generalize H_q_K:q_K=F_q_K
  generalize H_f_prm:f_prm=F_f_prm
  generalize H_q_Kv:q_Kv=F_q_Kv
  refine fnOk_ofI (T:=tab) (B:=[(63,c_K_b F_f_isCl F_q_K),(66,c_K_m F_f_prm F_q_Kv)]) (Bi:=[]) [0,1,2,3] Try.func15 rfl rfl (by kernel_rfl) (Nat.le_of_ble_eq_true rfl) mixed tabOk (by subst H_f_isCl H_q_K H_f_prm H_q_Kv;exact (bookCons s_impl_IsCluster (bookCons s_impl_proximityMatrix bookNil))) (by subst H_f_isCl H_q_K H_f_prm H_q_Kv;exact bookINil) (by kernel_rfl) ?_
  intro L lp rr hL hr hf hlp
  conv=>cbv
  simp only [stdEqs hL,imp_self,true_and,and_true,bif_or,bif_and,Bool.or_eq_true,Bool.or_eq_false_iff,Bool.and_eq_true,Bool.and_eq_false_iff,decide_eq_true_eq,decide_eq_false_iff_not,Bool.not_eq_true',Bool.not_eq_false',beq_iff_eq,beq_eq_false_iff_ne,ne_eq,toNat0,toNat1,ok_int,toI_int,I_frzs,I_length,I_getD,ok_ints,toL_slc,g0,g1,g2]
  subst H_f_isCl H_q_K H_f_prm H_q_Kv
  refine ⟨hq,fun h=> ?_,fun h=>⟨q_Kv_of hq h,?_⟩⟩
  ·rw [hr,f_PMx,h];rfl
  ·rw [hr,f_PMx,h];rfl
 ·cases h
end Go.Ax
set_option linter.all false
namespace Go.Ax
open Go.Proofs
def c_Bi_Ji (f:List V→Int→List V×List V×List V×Int) (q:List V→Int→Prop):Contract:=fun
 |[.agg [.slc false 2 (.int .i64 0) a0],.int .i64 a1]=>some ([q a0 a1],.tup [.agg [.slc false 2 (.int .i64 0) ((f a0 a1).1),.slc false 2 (.int .i64 0) ((f a0 a1).2.1),.slc false 2 (.int .i64 0) ((f a0 a1).2.2.1)],.int .i64 ((f a0 a1).2.2.2)])
 |_=>none
def f_clb (a:List V) (k:Int):List V×List V×List V×Int:=bif isBr (unI a) then (bif inRange k 1 24 then (I (clbP k.toNat),I (clbS (unI a) k.toNat),I (firstK (unI a) k.toNat),0) else ([],[],[],2)) else ([],[],[],1)
theorem clbP_succ (k:Nat):clbP (k+1)=clbP k++[(k:Int)-1]:=tab_succ _ _
theorem clbS_succ (xs:List Int) (k:Nat):clbS xs (k+1)=clbS xs k++[secB (mul xs) k]:=tab_succ _ _
set_option maxHeartbeats 1000000 in
set_option maxRecDepth 100000 in
theorem s_impl_ClusterOfBranch:Sat Try.prog 8 (c_Bi_Ji f_clb q_Ik):=by
 intro args ps r h hp
 unfold c_Bi_Ji at h
 split at h
 ·rename_i a0 a1
  simp only [Option.some.injEq,Prod.mk.injEq] at h
  obtain ⟨rfl,rfl⟩:=h
  have hq:IsIs a0:=(alls_cons.1 hp).1
  obtain ⟨xs,hxs⟩:=hq.1
  have g1:V.frzs a0=a0:=by rw [hxs,I_frzs]
  generalize H_f0_isBr:f0_isBr=F_f0_isBr
  generalize H_IsIs:IsIs=F_IsIs
  generalize H_inRange:inRange=F_inRange
  generalize H_f_first:f_first=F_f_first
  generalize H_q_first:q_first=F_q_first
  generalize H_f_prox:f_prox=F_f_prox
  generalize H_q_prox:q_prox=F_q_prox
  refine fnOk_ofF (T:=tab) (B:=[(53,c_b_bool F_f0_isBr F_IsIs),(54,c_impl_inRange F_inRange),(55,c_Bi_L F_f_first F_q_first),(56,c_l_m F_f_prox F_q_prox)]) (Bi:=[]) [0,1,2,4,5,6,7,8,9,10,27,28,29] Try.func8 rfl rfl (by kernel_rfl) (Nat.le_of_ble_eq_true rfl) mixed tabOk (by subst H_f0_isBr H_IsIs H_inRange H_f_first H_q_first H_f_prox H_q_prox;exact (bookCons s_impl_IsBranch (bookCons s_impl_inRange (bookCons s_impl_firstOf (bookCons s_impl_proximates bookNil))))) (by subst H_f0_isBr H_IsIs H_inRange H_f_first H_q_first H_f_prox H_q_prox;exact bookINil) (by kernel_rfl) ?_
  intro L lp rr hL hr hf hlp
  have Er:∀x y z,F_inRange x y z=inRange x y z:=fun x y z=>by rw [←H_inRange]
  conv=>cbv
  subst H_IsIs H_f0_isBr H_f_first H_q_first H_f_prox H_q_prox
  have e1:f0_isBr a0=isBr xs:=by rw [hxs,f0_isBr,unI_I]
  have e2:f_clb a0 a1=bif isBr xs then (bif inRange a1 1 24 then (I (clbP a1.toNat),I (clbS xs a1.toNat),I (firstK xs a1.toNat),0) else ([],[],[],2)) else ([],[],[],1):=by rw [f_clb,hxs,unI_I]
  simp only [stdEqs hL,imp_self,true_and,and_true,bif_or,bif_and,Bool.or_eq_true,Bool.or_eq_false_iff,Bool.and_eq_true,Bool.and_eq_false_iff,decide_eq_true_eq,decide_eq_false_iff_not,Bool.not_eq_true',Bool.not_eq_false',beq_iff_eq,beq_eq_false_iff_ne,ne_eq,toNat0,toNat1,ok_int,toI_int,I_frzs,I_length,I_getD,ok_ints,toL_slc,true_and,g1,e1,Er]
  refine ⟨hq,fun h=> ?_,fun h=>⟨fun h2=> ?_,fun h2=> ?_⟩⟩
  ·rw [hr,e2,h];rfl
  ·rw [hr,e2,h,h2];rfl
  ·have hb:=br_of h
   have h3:=h2
   rw [inRange,Bool.and_eq_true,decide_eq_true_eq,decide_eq_true_eq] at h3
   have hxs2:f_first a0 a1=I (firstK xs a1.toNat):=by rw [hxs,f_first,unI_I]
   obtain ⟨m,hm⟩:∃m,m=I (firstK xs a1.toNat):=⟨_,rfl⟩
   have gm:V.frzs m=m:=by rw [hm,I_frzs]
   obtain ⟨px,hpx⟩:∃px,px=II true (proxL (firstK xs a1.toNat)):=⟨_,rfl⟩
   have epx:f_prox m=px:=by rw [f_prox,hm,unI_I,hpx]
   have hlen:(proxL (firstK xs a1.toNat)).length=a1.toNat:=by rw [proxL_first,tab_len]
   have hpxl:px.length=a1.toNat:=by rw [hpx,II_length,hlen]
   have gpx:∀k,px.getD k (.slc true 2 (.int .i64 0) [])= .slc true 2 (.int .i64 0) (I ((proxL (firstK xs a1.toNat)).getD k [])):=fun k=>by rw [hpx,II_getD]
   have epk:∀k,k<a1.toNat→(proxL (firstK xs a1.toNat)).getD k []=nat2 (prs (mul xs) k k):=fun k hk=>by rw [proxL_first,tab_get _ _ _ _ hk]
   have hfin:rr=V.tup [V.agg [V.slc false 2 (V.int IntKind.i64 0) (I (clbP a1.toNat)),V.slc false 2 (V.int IntKind.i64 0) (I (clbS xs a1.toNat)),V.slc false 2 (V.int IntKind.i64 0) m],V.int IntKind.i64 0]:=by
    rw [hr,e2,h,h2,hm];rfl
   rw [hxs2,←hm,gm,epx,hpxl]
   obtain ⟨n,hn⟩:∃n:Int,n=(a1.toNat:Int):=⟨_,rfl⟩
   rw [←hn]
   refine ⟨⟨⟨xs,hxs,hb⟩,h3.1,by omega⟩,⟨xs,_,hb,hm,by omega⟩,?_⟩
   refine hlp ((List V×List V)×Int) _ _ _ [1,2,4,5,6,7,27,28,29] (fun x=>[(1,none,.val (.int .i64 a1)),(2,none,.val (.box 26 (.agg [.slc false 2 (.int .i64 0) a0]))),(4,none,.val (.box 30 (.agg [.slc true 2 (.int .i64 0) [],.slc true 2 (.int .i64 0) [],.slc true 2 (.int .i64 0) []]))),(5,none,.val (.int .i64 0)),(6,none,.val (.slc false 2 (.int .i64 0) m)),(7,none,.val (.box 30 (.agg [.slc true 2 (.int .i64 0) x.1.1,.slc true 2 (.int .i64 0) x.1.2,.slc false 2 (.int .i64 0) m]))),(27,none,.val (.slc true 24 (.slc true 2 (.int .i64 0) []) px)),(28,none,.val (.int .i64 n)),(29,none,.val (.int .i64 x.2))])
    (fun x=>0≤x.2∧x.2≤n∧x.1.1=I (clbP x.2.toNat)∧x.1.2=I (clbS xs x.2.toNat)) (fun x=>(n-x.2).toNat) ((([],[]),0)) (by subst hL;rfl) ?_ ?_
   ·exact ⟨by simp,by simp only;omega,rfl,rfl⟩
   rintro ⟨⟨ps,ss⟩,j⟩ ⟨j0,j1,hP,hS⟩ hfx ag hag
   simp only at j0 j1 hP hS
   conv=>cbv
   simp only [stdEqs hL,imp_self,true_and,and_true,bif_or,bif_and,Bool.or_eq_true,Bool.or_eq_false_iff,Bool.and_eq_true,Bool.and_eq_false_iff,decide_eq_true_eq,decide_eq_false_iff_not,Bool.not_eq_true',Bool.not_eq_false',beq_iff_eq,beq_eq_false_iff_ne,ne_eq,toNat0,toNat1,ok_int,toI_int,I_frzs,I_length,I_getD,ok_ints,toL_slc,gpx,gm,hpxl]
   refine ⟨fun h4=> ?_,fun h4=> ?_⟩
   ·have hj:j.toNat<a1.toNat:=by omega
    have hpl:ps.length=j.toNat:=by rw [hP,I_length,clbP_len]
    have hsl:ss.length=j.toNat:=by rw [hS,I_length,clbS_len]
    have hnl:(nat2 (prs (mul xs) j.toNat j.toNat)).length=(prs (mul xs) j.toNat j.toNat).length:=by simp [nat2]
    have hnx:∀s:Int,s=secB (mul xs) j.toNat→0≤j+1∧j+1≤n∧ps++[V.int .i64 (j-1)]=I (clbP (j+1).toNat)∧ss++[V.int .i64 s]=I (clbS xs (j+1).toNat):=fun s hs=>by
     refine ⟨by omega,by omega,?_,?_⟩
     ·rw [hP,show (j+1).toNat=j.toNat+1 by omega,clbP_succ,←I_append,show ((j.toNat:Nat):Int)=j by omega]
      rfl
     ·rw [hS,show (j+1).toNat=j.toNat+1 by omega,clbS_succ,←I_append,hs]
      rfl
    rw [epk _ hj,hnl,wrap_id (n:=j-1) (by omega) (by omega),wrap_id (n:=j+1) (by omega) (by omega)]
    have one:∀z:Int,∀x∈[V.int .i64 z],V.solid x=true:=fun z x hx=>by
     simp only [List.mem_singleton] at hx
     subst hx
     rfl
    refine ⟨j0,by omega,hj,hj,fun h5=> ?_,fun h5=> ?_⟩
    ·refine ⟨hj,by omega,by omega,hj,by omega,rfl,by simp only [List.length_cons,List.length_nil];omega,one _,rfl,by simp only [List.length_cons,List.length_nil];omega,one _,?_⟩
     exact hag ((_,_),j+1) (hnx _ (by rw [secB,if_pos (by omega),nat2_getD])) (by simp only;omega)
    ·refine ⟨rfl,by simp only [List.length_cons,List.length_nil];omega,one _,rfl,by simp only [List.length_cons,List.length_nil];omega,one _,?_⟩
     exact hag ((_,_),j+1) (hnx _ (by rw [secB,if_neg (by omega)])) (by simp only;omega)
   ·have hjn:j.toNat=a1.toNat:=by omega
    rw [hfin,hP,hS,hjn,I_frzs,I_frzs]
 ·cases h
end Go.Ax
set_option linter.all false
namespace Go.Ax
open Go.Proofs
def c_Bi_K (f:List V→Int→List V×List V×List V) (q:List V→Int→Prop):Contract:=fun
 |[.agg [.slc false 2 (.int .i64 0) a0],.int .i64 a1]=>some ([q a0 a1],.agg [.slc true 2 (.int .i64 0) ((f a0 a1).1),.slc true 2 (.int .i64 0) ((f a0 a1).2.1),.slc true 2 (.int .i64 0) ((f a0 a1).2.2)])
 |_=>none
def f_l7b (a:List V) (k:Int):List V×List V×List V:=(I (clbP k.toNat),I (clbS (unI a) k.toNat),I (firstK (unI a) k.toNat))
def q_l7b (a:List V) (k:Int):Prop:=IsBr a∧1≤k∧k≤24
theorem codeK_sec {xs:List Int} (hx:Br xs) {k j:Nat} (hj:j<k):secB (mul xs) j=if 0<j∧(codeK xs k).getD (j-1) 0≠0 then (j:Int)-(codeK xs k).getD (j-1) 0 else-1:=by
 have hg:=(mul_good hx).1
 cases j with
 |zero=>rw [secB_zero,if_neg (by omega)]
 |succ j=>
  have e:(codeK xs k).getD (j+1-1) 0=cd (mul xs) (j+1) (j+1):=by
   rw [codeK,tab_get _ _ _ _ (by omega),show j+1-1+1=j+1 by omega]
  rw [e,cd_code hg (by omega) (Nat.le_refl _)]
  rcases secB_form hg j with ⟨h1,h2⟩|⟨a,h3,_,h5,h2⟩
  ·rw [h1,h2,if_neg (by simp)]
  ·rw [h5,h2]
   simp only [List.length_cons,List.length_nil,List.getD_cons_zero]
   rw [if_pos (by omega),if_pos (by omega)]
   omega
set_option maxHeartbeats 1000000 in
set_option maxRecDepth 100000 in
theorem s_spec_l07Branch:Sat Try.prog 59 (c_Bi_K f_l7b q_l7b):=by
 intro args ps r h hp
 unfold c_Bi_K at h
 split at h
 ·rename_i a0 a1
  simp only [Option.some.injEq,Prod.mk.injEq] at h
  obtain ⟨rfl,rfl⟩:=h
  obtain ⟨⟨xs,hxs,hb⟩,k1,k2⟩:q_l7b a0 a1:=(alls_cons.1 hp).1
  have g1:V.frzs a0=a0:=by rw [hxs,I_frzs]
  have hqf:q_first a0 a1:=⟨⟨xs,hxs,hb⟩,k1,by omega⟩
  obtain ⟨m,hm⟩:∃m,m=I (firstK xs a1.toNat):=⟨_,rfl⟩
  have efm:f_first a0 a1=m:=by rw [hxs,f_first,unI_I,hm]
  obtain ⟨c,hc⟩:∃c,c=I (codeK xs a1.toNat):=⟨_,rfl⟩
  have efc:f_codeK a0 a1=c:=by rw [hxs,f_codeK,unI_I,hc]
  have hcl:c.length=a1.toNat-1:=by rw [hc,I_length,codeK,tab_len]
  have gc:∀k,c.getD k (.int .i64 0)= .int .i64 ((codeK xs a1.toNat).getD k 0):=fun k=>by rw [hc,I_getD]
  have hnm:V.noFzs m=true:=by rw [hm];exact I_noFzs _
  have hnc:V.noFzs c=true:=by rw [hc];exact I_noFzs _
  have hf0:f_l7b a0 a1=(I (clbP a1.toNat),I (clbS xs a1.toNat),m):=by rw [f_l7b,hxs,unI_I,hm]
  generalize H_f_codeK:f_codeK=F_f_codeK
  generalize H_q_first:q_first=F_q_first
  generalize H_f_first:f_first=F_f_first
  refine fnOk_ofI (T:=tab) (B:=[(117,c_Bi_l F_f_codeK F_q_first),(118,c_Bi_l F_f_first F_q_first)]) (Bi:=[]) [2000001011,2000001014,0,1,2,4,5,6,7,8] Try.func59 rfl rfl (by kernel_rfl) (Nat.le_of_ble_eq_true rfl) mixed tabOk (by subst H_f_codeK H_q_first H_f_first;exact (bookCons s_spec_l06Code (bookCons s_spec_l06Sequence bookNil))) (by subst H_f_codeK H_q_first H_f_first;exact bookINil) (by kernel_rfl) ?_
  intro L lp rr hL hr hf hlp
  have Ef:F_f_first a0 a1=m:=by rw [←H_f_first,efm]
  have Ec:F_f_codeK a0 a1=c:=by rw [←H_f_codeK,efc]
  have Qf:F_q_first a0 a1:=by rw [←H_q_first];exact hqf
  conv=>cbv
  simp only [stdEqs hL,imp_self,true_and,and_true,bif_or,bif_and,Bool.or_eq_true,Bool.or_eq_false_iff,Bool.and_eq_true,Bool.and_eq_false_iff,decide_eq_true_eq,decide_eq_false_iff_not,Bool.not_eq_true',Bool.not_eq_false',beq_iff_eq,beq_eq_false_iff_ne,ne_eq,toNat0,toNat1,ok_int,toI_int,I_frzs,I_length,I_getD,ok_ints,toL_slc,true_and,g1,Ef,Ec]
  refine ⟨Qf,Qf,?_⟩
  refine hlp ((List V×List V)×Int) _ _ _ [1,2,4,5,6,7] (fun x=>[(1,none,.val (.int .i64 a1)),(2,none,.val (.box 26 (.agg [.slc false 2 (.int .i64 0) a0]))),(4,none,.val (.box 30 (.agg [.slc true 2 (.int .i64 0) [],.slc true 2 (.int .i64 0) [],.slc true 2 (.int .i64 0) []]))),(5,none,.val (.slc true 2 (.int .i64 0) c)),(6,none,.val (.box 30 (.agg [.slc true 2 (.int .i64 0) x.1.1,.slc true 2 (.int .i64 0) x.1.2,.slc true 2 (.int .i64 0) m]))),(7,none,.val (.int .i64 x.2))])
   (fun x=>0≤x.2∧x.2≤a1∧x.1.1=I (clbP x.2.toNat)∧x.1.2=I (clbS xs x.2.toNat)) (fun x=>(a1-x.2).toNat) ((([],[]),0)) (by subst hL;rfl) ?_ ?_
  ·exact ⟨by simp,by simp only;omega,rfl,rfl⟩
  rintro ⟨⟨ps,ss⟩,j⟩ ⟨j0,j1,hP,hS⟩ hfx ag hag
  simp only at j0 j1 hP hS
  conv=>cbv
  simp only [stdEqs hL,imp_self,true_and,and_true,bif_or,bif_and,Bool.or_eq_true,Bool.or_eq_false_iff,Bool.and_eq_true,Bool.and_eq_false_iff,decide_eq_true_eq,decide_eq_false_iff_not,Bool.not_eq_true',Bool.not_eq_false',beq_iff_eq,beq_eq_false_iff_ne,ne_eq,toNat0,toNat1,ok_int,toI_int,I_frzs,I_length,I_getD,ok_ints,toL_slc,gc,hcl]
  refine ⟨fun h4=> ?_,fun h4=> ?_⟩
  ·have hpl:ps.length=j.toNat:=by rw [hP,I_length,clbP_len]
   have hsl:ss.length=j.toNat:=by rw [hS,I_length,clbS_len]
   have hsc:=codeK_sec hb (k:=a1.toNat) (j:=j.toNat) (by omega)
   rw [show j.toNat-1=(j-1).toNat by omega] at hsc
   have hcin:0<j→0≤(codeK xs a1.toNat).getD (j-1).toNat 0∧(codeK xs a1.toNat).getD (j-1).toNat 0≤24:=fun h0=>by
    rw [codeK,tab_get _ _ _ _ (by omega)]
    have:=cd_in (mul xs) ((j-1).toNat+1) ((j-1).toNat+1)
    omega
   have hnx:∀s:Int,s=secB (mul xs) j.toNat→0≤j+1∧j+1≤a1∧ps++[V.int .i64 (j-1)]=I (clbP (j+1).toNat)∧ss++[V.int .i64 s]=I (clbS xs (j+1).toNat):=fun s hs=>by
    refine ⟨by omega,by omega,?_,?_⟩
    ·rw [hP,show (j+1).toNat=j.toNat+1 by omega,clbP_succ,←I_append,show ((j.toNat:Nat):Int)=j by omega]
     rfl
    ·rw [hS,show (j+1).toNat=j.toNat+1 by omega,clbS_succ,←I_append,hs]
     rfl
   have one:∀z:Int,∀x∈[V.int .i64 z],V.solid x=true:=fun z x hx=>by
    simp only [List.mem_singleton] at hx
    subst hx
    rfl
   rw [wrap_id (n:=j-1) (by omega) (by omega),wrap_id (n:=j+1) (by omega) (by omega)]
   refine ⟨rfl,by simp only [List.length_cons,List.length_nil];omega,one _,fun h0=>by omega,fun h0=>by omega,fun h0=>by omega,fun _=>trivial,fun h5=> ?_,fun h5=> ?_⟩
   ·have hw:=hcin h5.1
    rw [wrap_id (n:=j-(codeK xs a1.toNat).getD (j-1).toNat 0) (by omega) (by omega)]
    refine ⟨by omega,by omega,by omega,rfl,by simp only [List.length_cons,List.length_nil];omega,one _,?_⟩
    exact hag ((_,_),j+1) (hnx _ (by rw [hsc,if_pos ⟨by omega,h5.2⟩];omega)) (by simp only;omega)
   ·refine ⟨rfl,by simp only [List.length_cons,List.length_nil];omega,one _,?_⟩
    exact hag ((_,_),j+1) (hnx _ (by rw [hsc,if_neg (by omega)])) (by simp only;omega)
  ·have hjn:j.toNat=a1.toNat:=by omega
   rw [hr,hf0,hP,hS,hjn]
 ·cases h
set_option maxHeartbeats 1000000 in
set_option maxRecDepth 100000 in
theorem s_spec_ClusterOfBranch:Sat Try.prog 9 (c_Bi_Ji f_clb q_Ik):=by
 intro args ps r h hp
 unfold c_Bi_Ji at h
 split at h
 ·rename_i a0 a1
  simp only [Option.some.injEq,Prod.mk.injEq] at h
  obtain ⟨rfl,rfl⟩:=h
  have hq:IsIs a0:=(alls_cons.1 hp).1
  obtain ⟨xs,hxs⟩:=hq.1
  have g1:V.frzs a0=a0:=by rw [hxs,I_frzs]
  generalize H_f0_isBr:f0_isBr=F_f0_isBr
  generalize H_IsIs:IsIs=F_IsIs
  generalize H_inRange:inRange=F_inRange
  generalize H_f_l7b:f_l7b=F_f_l7b
  generalize H_q_l7b:q_l7b=F_q_l7b
  refine fnOk_ofF (T:=tab) (B:=[(57,c_b_bool F_f0_isBr F_IsIs),(58,c_impl_inRange F_inRange),(59,c_Bi_K F_f_l7b F_q_l7b)]) (Bi:=[]) [0,1,2,4,5] Try.func9 rfl rfl (by kernel_rfl) (Nat.le_of_ble_eq_true rfl) mixed tabOk (by subst H_f0_isBr H_IsIs H_inRange H_f_l7b H_q_l7b;exact (bookCons s_spec_l03Is (bookCons s_spec_l01In (bookCons s_spec_l07Branch bookNil)))) (by subst H_f0_isBr H_IsIs H_inRange H_f_l7b H_q_l7b;exact bookINil) (by kernel_rfl) ?_
  intro L lp rr hL hr hf hlp
  have Er:∀x y z,F_inRange x y z=inRange x y z:=fun x y z=>by rw [←H_inRange]
  conv=>cbv
  subst H_IsIs H_f0_isBr H_f_l7b H_q_l7b
  have e1:f0_isBr a0=isBr xs:=by rw [hxs,f0_isBr,unI_I]
  have e2:f_clb a0 a1=bif isBr xs then (bif inRange a1 1 24 then (I (clbP a1.toNat),I (clbS xs a1.toNat),I (firstK xs a1.toNat),0) else ([],[],[],2)) else ([],[],[],1):=by rw [f_clb,hxs,unI_I]
  have e3:f_l7b a0 a1=(I (clbP a1.toNat),I (clbS xs a1.toNat),I (firstK xs a1.toNat)):=by rw [f_l7b,hxs,unI_I]
  simp only [stdEqs hL,imp_self,true_and,and_true,bif_or,bif_and,Bool.or_eq_true,Bool.or_eq_false_iff,Bool.and_eq_true,Bool.and_eq_false_iff,decide_eq_true_eq,decide_eq_false_iff_not,Bool.not_eq_true',Bool.not_eq_false',beq_iff_eq,beq_eq_false_iff_ne,ne_eq,toNat0,toNat1,ok_int,toI_int,I_frzs,I_length,I_getD,ok_ints,toL_slc,true_and,g1,e1,Er,e3]
  refine ⟨hq,fun h=> ?_,fun h=>⟨fun h2=> ?_,fun h2=> ?_⟩⟩
  ·rw [hr,e2,h];rfl
  ·rw [hr,e2,h,h2];rfl
  ·have h3:=h2
   rw [inRange,Bool.and_eq_true,decide_eq_true_eq,decide_eq_true_eq] at h3
   refine ⟨⟨⟨xs,hxs,br_of h⟩,h3.1,h3.2⟩,?_⟩
   rw [hr,e2,h,h2];rfl
 ·cases h
end Go.Ax
set_option linter.all false
namespace Go.Ax
open Go.Proofs
def c_KK_b9 (f:List V→List V→List V→List V→List V→List V→Bool) (q:List V→List V→List V→List V→List V→List V→Prop):Contract:=fun
 |[.agg [.slc false 2 (.int .i64 0) a0,.slc false 2 (.int .i64 0) a1,.slc false 2 (.int .i64 0) a2],.agg [.slc false 2 (.int .i64 0) a3,.slc false 2 (.int .i64 0) a4,.slc false 2 (.int .i64 0) a5]]=>some ([q a0 a1 a2 a3 a4 a5],.bool (f a0 a1 a2 a3 a4 a5))
 |_=>none
def c_li_b9 (f:List V→Int→Bool) (q:List V→Int→Prop):Contract:=fun
 |[.slc false 2 (.int .i64 0) a0,.int .i64 a1]=>some ([q a0 a1],.bool (f a0 a1))
 |_=>none
def c_mi_b9 (f:List V→Int→Bool) (q:List V→Int→Prop):Contract:=fun
 |[.slc false 24 (.slc false 2 (.int .i64 0) []) a0,.int .i64 a1]=>some ([q a0 a1],.bool (f a0 a1))
 |_=>none
set_option maxHeartbeats 1000000 in
set_option maxRecDepth 100000 in
theorem s_laws_hasInt:Sat Try.prog 21 (c_li_b9 f_has q_lI):=by
 intro args ps r h hp
 unfold c_li_b9 at h
 split at h
 ·rename_i a0 a1
  simp only [Option.some.injEq,Prod.mk.injEq] at h
  obtain ⟨rfl,rfl⟩:=h
  obtain ⟨⟨xs,hxs⟩,hl⟩:q_lI a0 a1:=(alls_cons.1 hp).1
  obtain ⟨n,hn⟩:∃n:Int,n=a0.length:=⟨_,rfl⟩
  have gx:∀k,a0.getD k (.int .i64 0)= .int .i64 (xs.getD k 0):=fun k=>by rw [hxs,I_getD]
  have hal:a0.length=xs.length:=by rw [hxs,I_length]
  have hf0:f_has a0 a1=xs.contains a1:=by rw [f_has,hxs,unI_I]
  refine fnOk_ofI (T:=tab) (B:=[]) (Bi:=[]) [0,1,4,5] Try.func21 rfl rfl (by kernel_rfl) (Nat.le_of_ble_eq_true rfl) mixed tabOk (by exact bookNil) (by exact bookINil) (by kernel_rfl) ?_
  intro L lp rr hL hr hf hlp
  conv=>cbv
  refine hlp (Int) _ _ _ [0,1,5] (fun x=>[(0,none,.val (.slc false 2 (.int .i64 0) a0)),(1,none,.val (.int .i64 a1)),(5,none,.val (.int .i64 x))])
   (fun x=>0≤x∧x≤n∧a1∉xs.take x.toNat) (fun x=>(n-x).toNat) (0) (by subst hL;rfl) ?_ ?_
  ·exact ⟨by simp,by omega,by simp⟩
  rintro i ⟨i0,i1,hI⟩ hfx ag hag
  conv=>cbv
  simp only [stdEqs hL,imp_self,true_and,and_true,bif_or,bif_and,Bool.or_eq_true,Bool.or_eq_false_iff,Bool.and_eq_true,Bool.and_eq_false_iff,decide_eq_true_eq,decide_eq_false_iff_not,Bool.not_eq_true',Bool.not_eq_false',beq_iff_eq,beq_eq_false_iff_ne,ne_eq,toNat0,toNat1,ok_int,toI_int,I_frzs,I_length,I_getD,ok_ints,toL_slc,←hn,gx]
  refine ⟨fun h2=>⟨i0,h2,fun h3=> ?_,fun h3=> ?_⟩,fun h2=> ?_⟩
  ·have h4:i.toNat<xs.length:=by omega
   rw [hr,hf0,show xs.contains a1=true from List.contains_iff_mem.2 (by
    rw [←h3,List.getD_eq_getElem?_getD,List.getElem?_eq_getElem h4]
    exact List.getElem_mem _)]
  ·rw [wrap_id (n:=i+1) (by omega) (by omega)]
   have h4:i.toNat<xs.length:=by omega
   refine hag (i+1) ⟨by omega,by omega,?_⟩ (by omega)
   rw [List.getD_eq_getElem?_getD,List.getElem?_eq_getElem h4] at h3
   rw [show (i+1).toNat=i.toNat+1 by omega,List.take_succ_eq_append_getElem h4,List.mem_append,List.mem_singleton]
   rintro (h5|h5)
   ·exact hI h5
   ·exact h3 h5.symm
  ·rw [List.take_of_length_le (by omega)] at hI
   rw [hr,hf0,show xs.contains a1=false by rw [Bool.eq_false_iff];exact fun h=>hI (List.contains_iff_mem.1 h)]
 ·cases h
def f_sq5 (a:List V) (n:Int):Bool:=(unII a).all (fun r=>decide ((r.length:Int)=n))&&decide ((a.length:Int)=n)
def q_sq5 (a:List V) (_:Int):Prop:=(∃l,a=II false l∧∀r∈l,r.length≤1000)∧a.length≤1000
set_option maxHeartbeats 1000000 in
set_option maxRecDepth 100000 in
theorem s_laws_square5:Sat Try.prog 20 (c_mi_b9 f_sq5 q_sq5):=by
 intro args ps r h hp
 unfold c_mi_b9 at h
 split at h
 ·rename_i a0 a1
  simp only [Option.some.injEq,Prod.mk.injEq] at h
  obtain ⟨rfl,rfl⟩:=h
  obtain ⟨⟨l,hl,hrw⟩,hln⟩:q_sq5 a0 a1:=(alls_cons.1 hp).1
  obtain ⟨n,hn⟩:∃n:Int,n=a0.length:=⟨_,rfl⟩
  have hal:a0.length=l.length:=by rw [hl,II_length]
  have gx:∀k,a0.getD k (.slc false 2 (.int .i64 0) [])= .slc false 2 (.int .i64 0) (I (l.getD k [])):=fun k=>by rw [hl,II_getD]
  have hf0:f_sq5 a0 a1=(l.all (fun r=>decide ((r.length:Int)=a1))&&decide (n=a1)):=by rw [f_sq5,hn,hl,unII_II]
  refine fnOk_ofI (T:=tab) (B:=[]) (Bi:=[]) [0,1,4,5] Try.func20 rfl rfl (by kernel_rfl) (Nat.le_of_ble_eq_true rfl) mixed tabOk (by exact bookNil) (by exact bookINil) (by kernel_rfl) ?_
  intro L lp rr hL hr hf hlp
  conv=>cbv
  refine hlp (Int) _ _ _ [0,1,5] (fun x=>[(0,none,.val (.slc false 24 (.slc false 2 (.int .i64 0) []) a0)),(1,none,.val (.int .i64 a1)),(5,none,.val (.int .i64 x))])
   (fun x=>0≤x∧x≤n∧(l.take x.toNat).all (fun r=>decide ((r.length:Int)=a1))=true) (fun x=>(n-x).toNat) (0) (by subst hL;rfl) ?_ ?_
  ·exact ⟨by simp,by omega,by simp⟩
  rintro i ⟨i0,i1,hI⟩ hfx ag hag
  conv=>cbv
  simp only [stdEqs hL,imp_self,true_and,and_true,bif_or,bif_and,Bool.or_eq_true,Bool.or_eq_false_iff,Bool.and_eq_true,Bool.and_eq_false_iff,decide_eq_true_eq,decide_eq_false_iff_not,Bool.not_eq_true',Bool.not_eq_false',beq_iff_eq,beq_eq_false_iff_ne,ne_eq,toNat0,toNat1,ok_int,toI_int,I_frzs,I_length,I_getD,ok_ints,toL_slc,←hn,gx]
  refine ⟨fun h2=>⟨i0,h2,fun h3=> ?_,fun h3=> ?_⟩,fun h2=> ?_⟩
  ·have h4:i.toNat<l.length:=by omega
   rw [hr,hf0]
   have:l.all (fun r=>decide ((r.length:Int)=a1))=false:=by
    rw [Bool.eq_false_iff]
    intro h5
    rw [List.all_eq_true] at h5
    have:=h5 (l.getD i.toNat []) (by rw [List.getD_eq_getElem?_getD,List.getElem?_eq_getElem h4];exact List.getElem_mem _)
    exact h3 (by simpa using this)
   rw [this];rfl
  ·rw [wrap_id (n:=i+1) (by omega) (by omega)]
   have h4:i.toNat<l.length:=by omega
   refine hag (i+1) ⟨by omega,by omega,?_⟩ (by omega)
   rw [List.getD_eq_getElem?_getD,List.getElem?_eq_getElem h4,Option.getD_some] at h3
   rw [show (i+1).toNat=i.toNat+1 by omega,List.take_succ_eq_append_getElem h4,List.all_append,hI]
   simp [h3]
  ·rw [List.take_of_length_le (by omega)] at hI
   rw [hr,hf0,hI,Bool.true_and]
   congr 1
 ·cases h
def f_lk5 (a b c d e f:List V):Bool:=f_like a d&&(f_like b e&&f_like c f)
def q_lk5 (a b c d e f:List V):Prop:=q_like a d∧q_like b e∧q_like c f
set_option maxHeartbeats 1000000 in
set_option maxRecDepth 100000 in
theorem s_laws_likeCluster5:Sat Try.prog 10 (c_KK_b9 f_lk5 q_lk5):=by
 intro args ps r h hp
 unfold c_KK_b9 at h
 split at h
 ·rename_i a0 a1 a2 a3 a4 a5
  simp only [Option.some.injEq,Prod.mk.injEq] at h
  obtain ⟨rfl,rfl⟩:=h
  obtain ⟨h1,h2,h3⟩:q_lk5 a0 a1 a2 a3 a4 a5:=(alls_cons.1 hp).1
  have g0:V.frzs a0=a0:=by obtain ⟨xs,hxs⟩:=h1.1;rw [hxs,I_frzs]
  have g1:V.frzs a1=a1:=by obtain ⟨xs,hxs⟩:=h2.1;rw [hxs,I_frzs]
  have g2:V.frzs a2=a2:=by obtain ⟨xs,hxs⟩:=h3.1;rw [hxs,I_frzs]
  have g3:V.frzs a3=a3:=by obtain ⟨xs,hxs⟩:=h1.2.1;rw [hxs,I_frzs]
  have g4:V.frzs a4=a4:=by obtain ⟨xs,hxs⟩:=h2.2.1;rw [hxs,I_frzs]
  have g5:V.frzs a5=a5:=by obtain ⟨xs,hxs⟩:=h3.2.1;rw [hxs,I_frzs]
  generalize H_f_like:f_like=F_f_like
  generalize H_q_like:q_like=F_q_like
  refine fnOk_ofI (T:=tab) (B:=[(19,c_ll_b F_f_like F_q_like)]) (Bi:=[]) [0,1,2,3,4] Try.func10 rfl rfl (by kernel_rfl) (Nat.le_of_ble_eq_true rfl) mixed tabOk (by subst H_f_like H_q_like;exact (bookCons s_laws_likeInts bookNil)) (by subst H_f_like H_q_like;exact bookINil) (by kernel_rfl) ?_
  intro L lp rr hL hr hf hlp
  conv=>cbv
  subst H_f_like H_q_like
  simp only [stdEqs hL,imp_self,true_and,and_true,bif_or,bif_and,Bool.or_eq_true,Bool.or_eq_false_iff,Bool.and_eq_true,Bool.and_eq_false_iff,decide_eq_true_eq,decide_eq_false_iff_not,Bool.not_eq_true',Bool.not_eq_false',beq_iff_eq,beq_eq_false_iff_ne,ne_eq,toNat0,toNat1,ok_int,toI_int,I_frzs,I_length,I_getD,ok_ints,toL_slc,g0,g1,g2,g3,g4,g5]
  refine ⟨h1,fun _=>h2,fun _=>h3,?_⟩
  rw [hr,f_lk5,Bool.and_assoc]
 ·cases h
end Go.Ax
set_option linter.all false
namespace Go.Ax
open Go.Proofs
theorem U8_frzs3:∀xs:List Int,V.frzs (U8 xs)=U8 xs
 |[]=>rfl
 |x::xs=>by
  have:=U8_frzs3 xs
  simp only [U8] at this
  simp only [U8,List.map_cons,V.frzs,V.frz,this]
def c_u_Ai9 (f:List V→List V×Int) (q:List V→Prop):Contract:=fun
 |[.slc false 5 (.int .u8 0) a0]=>some ([q a0],.tup [.agg [.slc false 2 (.int .i64 0) ((f a0).1)],.int .i64 ((f a0).2)])
 |_=>none
def dcK (es:List V) (σ:Int×Int):Int:=
 let n1:=nxv es σ 8
 let σ1:Int×Int:=(f1_nx es σ.1 σ.2 8,f2_nx es σ.1 σ.2 8)
 let n2:=nxv es σ1 24
 let σ2:Int×Int:=(f1_nx es σ1.1 σ1.2 24,f2_nx es σ1.1 σ1.2 24)
 pkv es σ2 [W (1+n1),W (1+n2),24,25,0]
def f_dcb (a:List V):List V×Int:=(I (spF a 0 (f0_from a)).1,dcK a (spF a 0 (f0_from a)).2)
set_option maxHeartbeats 1000000 in
set_option maxRecDepth 100000 in
theorem s_spec_DrawClusterOfBranch:Sat Try.prog 7 (c_u_Ai9 f_dcb IsU):=by
 intro args ps r h hp
 unfold c_u_Ai9 at h
 split at h
 ·rename_i a0
  simp only [Option.some.injEq,Prod.mk.injEq] at h
  obtain ⟨rfl,rfl⟩:=h
  have hq:IsU a0:=(alls_cons.1 hp).1
  have hfr:V.frzs a0=a0:=by
   obtain ⟨xs,hxs,_⟩:=hq
   rw [hxs,U8_frzs3]
  generalize H_f0_from:f0_from=F_f0_from
  generalize H_IsU:IsU=F_IsU
  generalize H_f_sp:f_sp=F_f_sp
  generalize H_q_src:q_src=F_q_src
  generalize H_f0_nx:f0_nx=F_f0_nx
  generalize H_f1_nx:f1_nx=F_f1_nx
  generalize H_f2_nx:f2_nx=F_f2_nx
  generalize H_q_nx:q_nx=F_q_nx
  generalize H_f0_pk:f0_pk=F_f0_pk
  generalize H_f1_pk:f1_pk=F_f1_pk
  generalize H_f2_pk:f2_pk=F_f2_pk
  generalize H_q_pk:q_pk=F_q_pk
  refine fnOk_ofF (T:=tab) (B:=[(49,c_from F_f0_from F_IsU)]) (Bi:=[(50,1000,false,ic_sp F_f_sp F_q_src),(52,0,false,ic_nx F_f0_nx F_f1_nx F_f2_nx F_q_nx),(51,0,false,ic_pk F_f0_pk F_f1_pk F_f2_pk F_q_pk)]) [2000002816,0,2,3,4] Try.func7 rfl rfl (by kernel_rfl) (Nat.le_of_ble_eq_true rfl) mixed tabOk (by subst H_f0_from H_IsU H_f_sp H_q_src H_f0_nx H_f1_nx H_f2_nx H_q_nx H_f0_pk H_f1_pk H_f2_pk H_q_pk;exact (bookCons s_spec_l01From bookNil)) (by subst H_f0_from H_IsU H_f_sp H_q_src H_f0_nx H_f1_nx H_f2_nx H_q_nx H_f0_pk H_f1_pk H_f2_pk H_q_pk;exact (bookICons s_spec_l03Spoil (bookICons s_spec_l01Next (bookICons s_spec_l01Pick bookINil)))) (by kernel_rfl) ?_
  intro L lp rr hL hr hf hlp
  conv=>cbv
  subst H_f_sp H_IsU H_f0_from H_q_src H_f0_nx H_f1_nx H_f2_nx H_q_nx H_f0_pk H_f1_pk H_f2_pk H_q_pk
  have e1:f_sp a0 0 (f0_from a0)=(I (spF a0 0 (f0_from a0)).1,(spF a0 0 (f0_from a0)).2):=rfl
  simp only [stdEqs hL,imp_self,true_and,and_true,bif_or,bif_and,Bool.or_eq_true,Bool.or_eq_false_iff,Bool.and_eq_true,Bool.and_eq_false_iff,decide_eq_true_eq,decide_eq_false_iff_not,Bool.not_eq_true',Bool.not_eq_false',beq_iff_eq,beq_eq_false_iff_ne,ne_eq,toNat0,toNat1,ok_int,toI_int,I_frzs,I_length,I_getD,ok_ints,toL_slc,true_and,hfr,e1,I_frzs]
  have s0:q_src a0 0 (f0_from a0):=⟨hq,Int.le_refl _,Int.natCast_nonneg _⟩
  have s1:=(spF_src s0).1
  have s2:=src_nx (n:=8) s1
  have s3:=src_nx (n:=24) s2
  have ef:∀x y:Int,V.frzs [V.int .i64 x,V.int .i64 y,V.int .i64 24,V.int .i64 25,V.int .i64 0]=I [x,y,24,25,0]:=fun _ _=>rfl
  rw [ef,I_frzs]
  refine ⟨hq,s0,s1,s2,⟨s3,⟨_,rfl⟩,by rw [I_length];simp,by rw [I_length];simp⟩,?_⟩
  rw [hr]
  rfl
 ·cases h
end Go.Ax
set_option linter.all false
namespace Go.Ax
open Go.Proofs
def c_Ki_b5 (f:List V→List V→List V→Int→Bool) (q:List V→List V→List V→Int→Prop):Contract:=fun
 |[.agg [.slc false 2 (.int .i64 0) a0,.slc false 2 (.int .i64 0) a1,.slc false 2 (.int .i64 0) a2],.int .i64 a3]=>some ([q a0 a1 a2 a3],.bool (f a0 a1 a2 a3))
 |_=>none
def c_Ki_Bi5 (f:List V→List V→List V→Int→List V×Int) (q:List V→List V→List V→Int→Prop):Contract:=fun
 |[.agg [.slc false 2 (.int .i64 0) a0,.slc false 2 (.int .i64 0) a1,.slc false 2 (.int .i64 0) a2],.int .i64 a3]=>some ([q a0 a1 a2 a3],.tup [.agg [.slc true 2 (.int .i64 0) ((f a0 a1 a2 a3).1)],.int .i64 ((f a0 a1 a2 a3).2)])
 |_=>none
def f_isP5 (a _ _:List V) (i:Int):Bool:=decide (0≤i)&&decide (i≤(a.length:Int)-1)
def q_isP5 (a b c:List V) (_:Int):Prop:=q_K a b c∧a.length≤1000
set_option maxHeartbeats 1000000 in
set_option maxRecDepth 100000 in
theorem s_impl_isPoint:Sat Try.prog 69 (c_Ki_b5 f_isP5 q_isP5):=by
 intro args ps r h hp
 unfold c_Ki_b5 at h
 split at h
 ·rename_i a0 a1 a2 i
  simp only [Option.some.injEq,Prod.mk.injEq] at h
  obtain ⟨rfl,rfl⟩:=h
  obtain ⟨h0,h2⟩:q_isP5 a0 a1 a2 i:=(alls_cons.1 hp).1
  have g0:=h0.1.frz
  have g1:=h0.2.1.frz
  have g2:=h0.2.2.frz
  generalize H_inRange:inRange=F_inRange
  refine fnOk_ofI (T:=tab) (B:=[(54,c_impl_inRange F_inRange)]) (Bi:=[]) [0,1,2,4] Try.func69 rfl rfl (by kernel_rfl) (Nat.le_of_ble_eq_true rfl) mixed tabOk (by subst H_inRange;exact (bookCons s_impl_inRange bookNil)) (by subst H_inRange;exact bookINil) (by kernel_rfl) ?_
  intro L lp rr hL hr hf hlp
  have Er:∀x y z,F_inRange x y z=inRange x y z:=fun x y z=>by rw [←H_inRange]
  conv=>cbv
  simp only [stdEqs hL,g0,g1,g2,Er]
  rw [wrap_id (by omega) (by omega),hr]
  rfl
 ·cases h
noncomputable def f_BA (a b c:List V) (i:Int):List V×Int:=bif f_isCl a b c then (bif f_isP5 a b c i then f_bat a b c i else ([],2)) else ([],1)
set_option maxHeartbeats 1000000 in
set_option maxRecDepth 100000 in
theorem s_impl_BranchAtPoint:Sat Try.prog 22 (c_Ki_Bi5 f_BA q_isP5):=by
 intro args ps r h hp
 unfold c_Ki_Bi5 at h
 split at h
 ·rename_i a0 a1 a2 i
  simp only [Option.some.injEq,Prod.mk.injEq] at h
  obtain ⟨rfl,rfl⟩:=h
  have hqp:q_isP5 a0 a1 a2 i:=(alls_cons.1 hp).1
  have hq:=hqp.1
  have g0:=hq.1.frz
  have g1:=hq.2.1.frz
  have g2:=hq.2.2.frz
  generalize H_f_isCl:f_isCl=F_f_isCl
  generalize H_q_K:q_K=F_q_K
  generalize H_f_isP5:f_isP5=F_f_isP5
  generalize H_q_isP5:q_isP5=F_q_isP5
  generalize H_f_bat:f_bat=F_f_bat
  generalize H_q_Kp:q_Kp=F_q_Kp
  refine fnOk_ofI (T:=tab) (B:=[(63,c_K_b F_f_isCl F_q_K),(69,c_Ki_b5 F_f_isP5 F_q_isP5),(70,c_Ki_Bi F_f_bat F_q_Kp)]) (Bi:=[]) [0,1,2,4,5] Try.func22 rfl rfl (by kernel_rfl) (Nat.le_of_ble_eq_true rfl) mixed tabOk (by subst H_f_isCl H_q_K H_f_isP5 H_q_isP5 H_f_bat H_q_Kp;exact (bookCons s_impl_IsCluster (bookCons s_impl_isPoint (bookCons s_impl_branchAt bookNil)))) (by subst H_f_isCl H_q_K H_f_isP5 H_q_isP5 H_f_bat H_q_Kp;exact bookINil) (by kernel_rfl) ?_
  intro L lp rr hL hr hf hlp
  conv=>cbv
  simp only [stdEqs hL,imp_self,true_and,and_true,bif_or,bif_and,Bool.or_eq_true,Bool.or_eq_false_iff,Bool.and_eq_true,Bool.and_eq_false_iff,decide_eq_true_eq,decide_eq_false_iff_not,Bool.not_eq_true',Bool.not_eq_false',beq_iff_eq,beq_eq_false_iff_ne,ne_eq,toNat0,toNat1,ok_int,toI_int,I_frzs,I_length,I_getD,ok_ints,toL_slc,g0,g1,g2]
  subst H_f_isCl H_q_K H_f_isP5 H_q_isP5 H_f_bat H_q_Kp
  refine ⟨hq,fun h=> ?_,fun h=>⟨hqp,fun h2=> ?_,fun h2=> ?_⟩⟩
  ·rw [hr,f_BA,h];rfl
  ·rw [hr,f_BA,h,h2];rfl
  ·have h3:=h2
   rw [f_isP5,Bool.and_eq_true,decide_eq_true_eq,decide_eq_true_eq] at h3
   refine ⟨⟨q_Kv_of hq h,h3.1,by omega⟩,?_⟩
   rw [hr,f_BA,h,h2];rfl
 ·cases h
end Go.Ax
