import Derived.Test.YtfkccembpjogoaaB01g2
import Derived.Shelf.SlLaysM
import Derived.Test.YtfkccembpjogoaaProg
import Derived.Sort.Row
import Derived.Shelf.SortM.Plain
import Derived.Shelf.SortM.SortNone
import Derived.Test.YtfkccembpjogoaaB02g2
/-
 What a cluster is:IsCluster on both sides. No conditions but those of the contracts.
-/
set_option linter.all false
namespace Go.Ax
open Go.Proofs
def placeB (P S:List Int) (i:Nat):Bool:=if i=0 then decide (P.getD 0 0= -1)&&decide (S.getD 0 0= -1) else
 (decide (0≤P.getD i 0)&&decide (P.getD i 0<i))&&(decide (S.getD i 0= -1)||decide (0≤S.getD i 0)&&(decide (S.getD i 0=P.getD (P.getD i 0).toNat 0)||decide (S.getD i 0=S.getD (P.getD i 0).toNat 0)))
def diffB (P S:List Int) (i j:Nat):Bool:= !(decide (0≤S.getD i 0)&&decide (S.getD i 0=S.getD j 0)&&decide (P.getD i 0=P.getD j 0))
structure ClP (P S Q:List Int):Prop where
 n1:1≤P.length
 n24:P.length≤24
 sl:S.length=P.length
 ql:Q.length=P.length
 q:∀i,i<P.length→-100000≤Q.getD i 0∧Q.getD i 0≤100000
 place:∀i,i<P.length→placeB P S i=true
 diff:∀i j,i<P.length→j<i→diffB P S i j=true
noncomputable def isCl (P S Q:List Int):Bool:= @decide (ClP P S Q) (Classical.propDecidable _)
theorem isCl_iff {P S Q:List Int}:isCl P S Q=true↔ClP P S Q:=by
 rw [isCl]
 exact @decide_eq_true_iff _ (Classical.propDecidable _)
theorem isCl_no {P S Q:List Int} (h:¬ClP P S Q):isCl P S Q=false:=by
 cases hb:isCl P S Q with
 |false=>rfl
 |true=>exact absurd (isCl_iff.1 hb) h
theorem placeB_0 {P S:List Int}:placeB P S 0=true↔P.getD 0 0= -1∧S.getD 0 0= -1:=by
 rw [placeB,if_pos rfl]
 simp only [Bool.and_eq_true,decide_eq_true_eq]
theorem placeB_s {P S:List Int} {i:Nat} (hi:i≠0):placeB P S i=true↔(0≤P.getD i 0∧P.getD i 0<i)∧(S.getD i 0= -1∨0≤S.getD i 0∧(S.getD i 0=P.getD (P.getD i 0).toNat 0∨S.getD i 0=S.getD (P.getD i 0).toNat 0)):=by
 rw [placeB,if_neg hi]
 simp only [Bool.and_eq_true,Bool.or_eq_true,decide_eq_true_eq]
theorem place_low {P S:List Int} {i:Nat} (h:∀t,t≤i→placeB P S t=true):∀t,t≤i→-1≤P.getD t 0∧P.getD t 0<t∧-1≤S.getD t 0∧(0<t→S.getD t 0<t):=by
 intro t
 induction t using Nat.strongRecOn with
 |ind t ih=>
  intro ht
  have hp:=h t ht
  by_cases h0:t=0
  ·subst h0
   obtain ⟨h1,h2⟩:=placeB_0.1 hp
   omega
  ·obtain ⟨⟨h1,h2⟩,h3⟩:=(placeB_s h0).1 hp
   have h4:=ih (P.getD t 0).toNat (by omega) (by omega)
   refine ⟨by omega,h2,by omega,fun _=> ?_⟩
   rcases h3 with h3|⟨_,h3|h3⟩
   ·omega
   ·omega
   ·by_cases h5:(P.getD t 0).toNat=0
    ·have:=placeB_0.1 (h 0 (by omega))
     rw [h5] at h3
     omega
    ·have:=h4.2.2.2 (by omega)
     omega
def c_K_b (f:List V→List V→List V→Bool) (q:List V→List V→List V→Prop):Contract:=fun
 |[.agg [.slc false 2 (.int .i64 0) a0,.slc false 2 (.int .i64 0) a1,.slc false 2 (.int .i64 0) a2]]=>some ([q a0 a1 a2],.bool (f a0 a1 a2))
 |_=>none
noncomputable def f_isCl (a b c:List V):Bool:=isCl (unI a) (unI b) (unI c)
def q_K (a b c:List V):Prop:=IsI a∧IsI b∧IsI c
def c_Ki_b (f:List V→List V→List V→Int→Bool) (q:List V→List V→List V→Int→Prop):Contract:=fun
 |[.agg [.slc false 2 (.int .i64 0) a0,.slc false 2 (.int .i64 0) a1,.slc false 2 (.int .i64 0) a2],.int .i64 a3]=>some ([q a0 a1 a2 a3],.bool (f a0 a1 a2 a3))
 |_=>none
def f_place (a b _:List V) (i:Int):Bool:=placeB (unI a) (unI b) i.toNat
def q_place (a b c:List V) (i:Int):Prop:=IsI a∧IsI b∧IsI c∧0≤i∧i<a.length∧a.length≤24∧b.length=a.length
set_option maxHeartbeats 1000000 in
set_option maxRecDepth 100000 in
theorem s_impl_isPlace:Sat Try.prog 119 (c_Ki_b f_place q_place):=by
 intro args ps r h hp
 unfold c_Ki_b at h
 split at h
 ·rename_i a0 a1 a2 i
  simp only [Option.some.injEq,Prod.mk.injEq] at h
  obtain ⟨rfl,rfl⟩:=h
  obtain ⟨⟨P,hP⟩,⟨S,hS⟩,⟨Q,hQ⟩,i0,i1,h24,hsl⟩:q_place a0 a1 a2 i:=(alls_cons.1 hp).1
  have g0:V.frzs a0=a0:=by rw [hP,I_frzs]
  have g1:V.frzs a1=a1:=by rw [hS,I_frzs]
  have g2:V.frzs a2=a2:=by rw [hQ,I_frzs]
  have hpl:a0.length=P.length:=by rw [hP,I_length]
  have hsl2:a1.length=P.length:=by rw [hsl,hpl]
  have gp:∀k,a0.getD k (.int .i64 0)= .int .i64 (P.getD k 0):=fun k=>by rw [hP,I_getD]
  have gs:∀k,a1.getD k (.int .i64 0)= .int .i64 (S.getD k 0):=fun k=>by rw [hS,I_getD]
  have hf0:f_place a0 a1 a2 i=placeB P S i.toNat:=by rw [f_place,hP,hS,unI_I,unI_I]
  rw [hpl] at i1 h24
  generalize H_inRange:inRange=F_inRange
  refine fnOk_ofI (T:=tab) (B:=[(54,c_impl_inRange F_inRange)]) (Bi:=[]) [0,1,2,4,5,6] Try.func119 rfl rfl (by kernel_rfl) (Nat.le_of_ble_eq_true rfl) mixed tabOk (by subst H_inRange;exact (bookCons s_impl_inRange bookNil)) (by subst H_inRange;exact bookINil) (by kernel_rfl) ?_
  intro L lp rr hL hr hf hlp
  have E1:∀x a b,F_inRange x a b=inRange x a b:=fun x a b=>by rw [←H_inRange]
  conv=>cbv
  have hw:i≠0→IntKind.wrap .i64 (i-1)=i-1:=fun _=>wrap_id (by omega) (by omega)
  simp only [stdEqs hL,imp_self,true_and,and_true,bif_or,bif_and,Bool.or_eq_true,Bool.or_eq_false_iff,Bool.and_eq_true,Bool.and_eq_false_iff,decide_eq_true_eq,decide_eq_false_iff_not,Bool.not_eq_true',Bool.not_eq_false',beq_iff_eq,beq_eq_false_iff_ne,ne_eq,toNat0,toNat1,ok_int,toI_int,I_frzs,I_length,I_getD,ok_ints,toL_slc,g0,g1,g2,hpl,hsl2,gp,gs,E1]
  refine ⟨i0,i1,i0,i1,fun h0=> ?_,fun h0=> ?_⟩
  ·have e:i.toNat=0:=by omega
   rw [hr,hf0,e,placeB,if_pos rfl];rfl
  have hi0:¬i.toNat=0:=by omega
  rw [hw h0,inRange]
  refine ⟨fun h1=> ?_,fun h1=> ?_⟩
  ·rw [hr,hf0,placeB,if_neg hi0,show decide (P.getD i.toNat 0<(i.toNat:Int))=decide (P.getD i.toNat 0≤i-1) from decide_eq_decide.2 (by omega),h1]
   rfl
  simp only [Bool.and_eq_true,decide_eq_true_eq] at h1
  obtain ⟨p0,p1⟩:=h1
  obtain ⟨p,hpp⟩:∃p,p=P.getD i.toNat 0:=⟨_,rfl⟩
  obtain ⟨s,hss⟩:∃s,s=S.getD i.toNat 0:=⟨_,rfl⟩
  rw [←hpp] at p0 p1 ⊢
  rw [←hss]
  refine ⟨fun _=>p0,fun _=>by omega,fun _=>trivial,fun _=>p0,fun _=>by omega,fun _=>trivial,fun h2 h3=>⟨h2,h3⟩,fun h2 h3=>⟨h2,h3⟩,?_⟩
  rw [hr,hf0,placeB,if_neg hi0,←hpp,←hss,decide_eq_true p0,decide_eq_true (show p<(i.toNat:Int) by omega),Bool.and_self,Bool.true_and]
  rfl
 ·cases h
set_option maxHeartbeats 1000000 in
set_option maxRecDepth 100000 in
theorem s_impl_IsCluster:Sat Try.prog 63 (c_K_b f_isCl q_K):=by
 intro args ps r h hp
 unfold c_K_b at h
 split at h
 ·rename_i a0 a1 a2
  simp only [Option.some.injEq,Prod.mk.injEq] at h
  obtain ⟨rfl,rfl⟩:=h
  have hq:q_K a0 a1 a2:=(alls_cons.1 hp).1
  obtain ⟨⟨P,hP⟩,⟨S,hS⟩,⟨Q,hQ⟩⟩:=id hq
  have g0:V.frzs a0=a0:=by rw [hP,I_frzs]
  have g1:V.frzs a1=a1:=by rw [hS,I_frzs]
  have g2:V.frzs a2=a2:=by rw [hQ,I_frzs]
  have hpl:a0.length=P.length:=by rw [hP,I_length]
  have hsl:a1.length=S.length:=by rw [hS,I_length]
  have hql:a2.length=Q.length:=by rw [hQ,I_length]
  have gp:∀k,a0.getD k (.int .i64 0)= .int .i64 (P.getD k 0):=fun k=>by rw [hP,I_getD]
  have gs:∀k,a1.getD k (.int .i64 0)= .int .i64 (S.getD k 0):=fun k=>by rw [hS,I_getD]
  have hf0:f_isCl a0 a1 a2=isCl P S Q:=by rw [f_isCl,hP,hS,hQ,unI_I,unI_I,unI_I]
  have hno:¬ClP P S Q→f_isCl a0 a1 a2=false:=fun h=>by rw [hf0,isCl_no h]
  obtain ⟨n,hn⟩:∃n:Int,n=P.length:=⟨_,rfl⟩
  generalize H_f_within:f_within=F_f_within
  generalize H_IsI:IsI=F_IsI
  generalize H_f_place:f_place=F_f_place
  generalize H_q_place:q_place=F_q_place
  refine fnOk_ofI (T:=tab) (B:=[(90,c_impl_within F_f_within F_IsI),(119,c_Ki_b F_f_place F_q_place)]) (Bi:=[]) [0,1,2,3,4,5,33,34,41,42] Try.func63 rfl rfl (by kernel_rfl) (Nat.le_of_ble_eq_true rfl) mixed tabOk (by subst H_f_within H_IsI H_f_place H_q_place;exact (bookCons s_impl_within (bookCons s_impl_isPlace bookNil))) (by subst H_f_within H_IsI H_f_place H_q_place;exact bookINil) (by kernel_rfl) ?_
  intro L lp rr hL hr hf hlp
  have Ew:∀x y,F_f_within a2 x y=within Q x y:=fun x y=>by rw [←H_f_within,f_within,hQ,unI_I]
  have Ep:∀i,F_f_place a0 a1 a2 i=placeB P S i.toNat:=fun i=>by rw [←H_f_place,f_place,hP,hS,unI_I,unI_I]
  conv=>cbv
  simp only [stdEqs hL,imp_self,true_and,and_true,bif_or,bif_and,Bool.or_eq_true,Bool.or_eq_false_iff,Bool.and_eq_true,Bool.and_eq_false_iff,decide_eq_true_eq,decide_eq_false_iff_not,Bool.not_eq_true',Bool.not_eq_false',beq_iff_eq,beq_eq_false_iff_ne,ne_eq,toNat0,toNat1,ok_int,toI_int,I_frzs,I_length,I_getD,ok_ints,toL_slc,g0,g1,g2,hpl,hsl,hql,←hn,Ew]
  refine ⟨fun h=> ?_,fun h=>⟨?_,fun hw=> ?_,fun hw=> ?_⟩⟩
  ·rw [hr,hno (fun c=>by have:=c.n1;have:=c.n24;have:=c.sl;have:=c.ql;omega)]
  ·rw [←H_IsI];exact hq.2.2
  ·rw [hr,hno (fun c=> ?_)]
   have hw':within Q (-100000) 100000=true:=by
    rw [within,List.all_eq_true]
    intro x hx
    obtain ⟨i,hi,rfl⟩:=List.mem_iff_getElem.1 hx
    have:=c.q i (by have:=c.ql;omega)
    rw [List.getD_eq_getElem?_getD,List.getElem?_eq_getElem hi] at this
    simp only [Option.getD_some] at this
    simp only [inRange,Bool.and_eq_true,decide_eq_true_eq]
    exact this
   rw [hw'] at hw;cases hw
  obtain ⟨⟨⟨n1,n24⟩,hsl2⟩,hql2⟩:=h
  have hSl:S.length=P.length:=by omega
  have hQl:Q.length=P.length:=by omega
  have hqr:∀i,i<P.length→-100000≤Q.getD i 0∧Q.getD i 0≤100000:=fun i hi=>by
   rw [within,List.all_eq_true] at hw
   have:=hw (Q.getD i 0) (by rw [List.getD_eq_getElem?_getD,List.getElem?_eq_getElem (by omega)];exact List.getElem_mem _)
   simpa only [inRange,Bool.and_eq_true,decide_eq_true_eq] using this
  refine hlp (Int) _ _ _ [1,33,34] (fun x=>[(1,none,.val (.box 30 (.agg [.slc false 2 (.int .i64 0) a0,.slc false 2 (.int .i64 0) a1,.slc false 2 (.int .i64 0) a2]))),(33,none,.val (.int .i64 n)),(34,none,.val (.int .i64 x))])
   (fun x=>0≤x∧x≤n∧(∀i,i<x.toNat→placeB P S i=true)∧(∀i j,i<x.toNat→j<i→diffB P S i j=true)) (fun x=>(n-x).toNat) (0) (by subst hL;rfl) ?_ ?_
  ·exact ⟨by omega,by omega,fun i hi=>by simp at hi,fun i j hi=>by simp at hi⟩
  intro i ⟨i0,i1,hpl1,hdf1⟩ hfx ag hag
  conv=>cbv
  simp only [stdEqs hL,imp_self,true_and,and_true,bif_or,bif_and,Bool.or_eq_true,Bool.or_eq_false_iff,Bool.and_eq_true,Bool.and_eq_false_iff,decide_eq_true_eq,decide_eq_false_iff_not,Bool.not_eq_true',Bool.not_eq_false',beq_iff_eq,beq_eq_false_iff_ne,ne_eq,toNat0,toNat1,ok_int,toI_int,I_frzs,I_length,I_getD,ok_ints,toL_slc,g0,g1,g2,hpl,hsl,hql,←hn,Ep,gp,gs]
  refine ⟨fun h2=>⟨?_,fun h3=> ?_,fun h3=> ?_⟩,fun h2=> ?_⟩
  ·rw [←H_q_place];exact ⟨hq.1,hq.2.1,hq.2.2,i0,by omega,by omega,by omega⟩
  ·rw [hr,hno (fun c=>by have:=c.place i.toNat (by omega);rw [this] at h3;cases h3)]
  ·refine hlp (Int) _ _ _ [1,4,33,34,41,42] (fun x=>[(1,none,.val (.box 30 (.agg [.slc false 2 (.int .i64 0) a0,.slc false 2 (.int .i64 0) a1,.slc false 2 (.int .i64 0) a2]))),(4,none,.val (.int .i64 i)),(33,none,.val (.int .i64 n)),(34,none,.val (.int .i64 i)),(41,none,.val (.int .i64 i)),(42,none,.val (.int .i64 x))])
    (fun x=>0≤x∧x≤i∧∀j,j<x.toNat→diffB P S i.toNat j=true) (fun x=>(i-x).toNat) (0) (by subst hL;rfl) ?_ ?_
   ·exact ⟨by omega,by omega,fun i hi=>by simp at hi⟩
   intro j ⟨j0,j1,hdj⟩ hfx2 ag2 hag2
   conv=>cbv
   simp only [stdEqs hL,imp_self,true_and,and_true,bif_or,bif_and,Bool.or_eq_true,Bool.or_eq_false_iff,Bool.and_eq_true,Bool.and_eq_false_iff,decide_eq_true_eq,decide_eq_false_iff_not,Bool.not_eq_true',Bool.not_eq_false',beq_iff_eq,beq_eq_false_iff_ne,ne_eq,toNat0,toNat1,ok_int,toI_int,I_frzs,I_length,I_getD,ok_ints,toL_slc,g0,g1,g2,hpl,hsl,hql,←hn,gp,gs]
   refine ⟨fun h4=> ?_,fun h4=> ?_⟩
   ·refine ⟨i0,by omega,fun _=>i0,fun _=>by omega,fun _=>trivial,fun _=>j0,fun _=>by omega,fun _=>trivial,fun _=>i0,fun _=>h2,fun _=>trivial,fun _=>j0,fun _=>by omega,fun _=>trivial,fun ⟨⟨h5,h6⟩,h7⟩=> ?_,fun h5=> ?_⟩
    ·rw [hr,hno (fun c=> ?_)]
     have:=c.diff i.toNat j.toNat (by omega) (by omega)
     rw [diffB,decide_eq_true h5,decide_eq_true h6,decide_eq_true h7] at this
     cases this
    ·rw [wrap_id (n:=j+1) (by omega) (by omega)]
     refine hag2 (j+1) ⟨by omega,by omega,fun t ht=> ?_⟩ (by omega)
     rw [toNat_succ j0] at ht
     by_cases htj:t=j.toNat
     ·rw [htj,diffB]
      rcases h5 with (h5|h5)|h5
      ·rw [decide_eq_false h5];rfl
      ·rw [decide_eq_false h5,Bool.and_false];rfl
      ·rw [decide_eq_false h5,Bool.and_false];rfl
     ·exact hdj t (by omega)
   ·rw [wrap_id (n:=i+1) (by omega) (by omega)]
    refine hag (i+1) ⟨by omega,by omega,fun t ht=> ?_,fun t u ht hu=> ?_⟩ (by omega)
    ·rw [toNat_succ i0] at ht
     by_cases hti:t=i.toNat
     ·rw [hti];exact h3
     ·exact hpl1 t (by omega)
    ·rw [toNat_succ i0] at ht
     by_cases hti:t=i.toNat
     ·rw [hti];exact hdj u (by omega)
     ·exact hdf1 t u (by omega) hu
  ·have hcl:ClP P S Q:=⟨by omega,by omega,hSl,hQl,hqr,fun k hk=>hpl1 k (by omega),fun k j hk hj=>hdf1 k j (by omega) hj⟩
   rw [hr,hf0,isCl_iff.2 hcl]
 ·cases h
end Go.Ax
set_option linter.all false
namespace Go.Ax
open Go.Proofs
inductive Cn (es:List (List Int)):Int→Int→Prop
 |refl (u:Int):Cn es u u
 |tail {u v w:Int} (h:Cn es u v) (hw:w∈near es v):Cn es u w
end Go.Ax
set_option linter.all false
namespace Go.Ax
open Go.Proofs
structure Bfs (n:Nat) (es:List (List Int)) (root:Int) (ord par:List Int) (i k:Nat):Prop where
 nd:ord.Nodup
 inr:∀x∈ord,0≤x∧x<n
 pl:par.length=n
 ne:0<ord.length
 hd:ord.getD 0 0=root
 rp:gI par root= -1
 tree:∀t,0<t→t<ord.length→∃s,s<t∧s≤i∧gI par (ord.getD t 0)=ord.getD s 0∧ord.getD t 0∈near es (ord.getD s 0)∧(s=i→ord.getD t 0∈(near es (ord.getD i 0)).take k)
 done:∀t,t<i→∀x∈near es (ord.getD t 0),x∈ord
 cur:∀x∈(near es (ord.getD i 0)).take k,x∈ord
 ile:i≤ord.length
theorem nodup_len:∀{n:Nat} (l:List Int),l.Nodup→(∀x∈l,0≤x∧x<n)→l.length≤n
 |0,l,_,hl=>by
  cases l with
  |nil=>simp
  |cons x l=>have:=hl x (by simp);omega
 |n+1,l,hn,hl=>by
  have h1:=nodup_len (n:=n) (l.filter fun x=>x !=(n:Int)) (hn.filter _) (fun x hx=>by
   have h2:=List.mem_filter.1 hx
   have h3:=hl x h2.1
   have h4:x≠n:=by simpa using h2.2
   omega)
  have h2:∀l:List Int,l.Nodup→l.length≤(l.filter fun x=>x !=(n:Int)).length+1:=by
   intro l
   induction l with
   |nil=>simp
   |cons y l ih=>
    intro hy
    have hy2:=List.nodup_cons.1 hy
    have ih2:=ih hy2.2
    by_cases hyn:y=n
    ·have h3:(l.filter fun x=>x !=(n:Int))=l:=by
      rw [List.filter_eq_self]
      intro a ha
      have:a≠n:=fun h=>hy2.1 (by rw [hyn,←h];exact ha)
      simpa using this
     rw [List.filter_cons,hyn]
     simp [h3]
    ·rw [List.filter_cons]
     simp [hyn]
     omega
  have h3:=h2 l hn
  omega
end Go.Ax
set_option linter.all false
namespace Go.Ax
open Go.Proofs
theorem List.getD_append (l l':List Int) (d:Int) (i:Nat) (h:i<l.length):(l++l').getD i d=l.getD i d:=by
 simp only [List.getD_eq_getElem?_getD];rw [List.getElem?_append_left h]
end Go.Ax
set_option linter.all false
namespace Go.Ax
open Go.Proofs
theorem tab_setG {α:Type} (f:Nat→α) {n i:Nat} (x:α) (h:i<n):(tab' f n).set i x=tab' (fun t=>if t=i then x else f t) n:=by
 apply List.ext_getElem?
 intro j
 rw [List.getElem?_set]
 by_cases hj:j<n
 ·rw [tab_get? _ _ _ hj,tab_get? _ _ _ hj]
  by_cases h1:i=j
  ·rw [if_pos h1,if_pos (by rw [tab_len];exact h),if_pos h1.symm]
  ·rw [if_neg h1,if_neg (Ne.symm h1)]
 ·rw [if_neg (by omega),List.getElem?_eq_none (by rw [tab_len];omega),List.getElem?_eq_none (by rw [tab_len];omega)]
end Go.Ax
set_option linter.all false
set_option linter.all false
namespace Go.Proofs
open Go.Shelf
end Go.Proofs
set_option linter.all false
namespace Go.Ax
open Go.Proofs Go.Sort Go.RowKit
end Go.Ax
set_option linter.all false
namespace Go.Ax
open Go.Proofs Go.Sort Go.RowKit
end Go.Ax
set_option linter.all false
namespace Go.Ax
open Go.Proofs
theorem set_getD {α:Type} {l:List α} {i j:Nat} {x z:α} (hi:i<l.length):(l.set i x).getD j z=if j=i then x else l.getD j z:=by
 rw [List.getD_eq_getElem?_getD,List.getElem?_set,List.getD_eq_getElem?_getD]
 by_cases h:i=j
 ·rw [if_pos h,if_pos hi,if_pos h.symm];rfl
 ·rw [if_neg h,if_neg (Ne.symm h)]
end Go.Ax
set_option linter.all false
namespace Go.Ax
open Go.Proofs
end Go.Ax
set_option linter.all false
namespace Go.Ax
open Go.Proofs
theorem ifc {a b:Prop} [Decidable a] [Decidable b] (h:a↔b) {x y:Int}:(if a then x else y)=if b then x else y:=by
 by_cases ha:a
 ·rw [if_pos ha,if_pos (h.1 ha)]
 ·rw [if_neg ha,if_neg (fun hb=>ha (h.2 hb))]
theorem ClP.low {P S Q:List Int} (h:ClP P S Q) {i:Nat} (hi:i<P.length): -1≤P.getD i 0∧P.getD i 0<i∧-1≤S.getD i 0∧(0<i→S.getD i 0<i)∧(0<i→0≤P.getD i 0)∧(i=0→P.getD i 0= -1∧S.getD i 0= -1):=by
 obtain ⟨h1,h2,h3,h4⟩:=place_low (i:=i) (fun t ht=>h.place t (by omega)) i (Nat.le_refl _)
 refine ⟨h1,h2,h3,h4,fun h0=> ?_,fun h0=> ?_⟩
 ·exact ((placeB_s (by omega)).1 (h.place i hi)).1.1
 ·subst h0;exact placeB_0.1 (h.place 0 hi)
def q_Kv (a b c:List V):Prop:=q_K a b c∧ClP (unI a) (unI b) (unI c)
theorem q_Kv_of {a b c:List V} (h:q_K a b c) (h2:f_isCl a b c=true):q_Kv a b c:=⟨h,isCl_iff.1 h2⟩
def proxs (P S:List Int) (i:Nat):List Int:=if i=0 then [] else (if 0≤S.getD i 0 then [S.getD i 0] else [])++[P.getD i 0]
def cpx (P S:List Int) (k n:Nat):List (List Int):=tab' (fun i=>if i<k then proxs P S i else []) n
def c_K_m (f:List V→List V→List V→List V) (q:List V→List V→List V→Prop):Contract:=fun
 |[.agg [.slc false 2 (.int .i64 0) a0,.slc false 2 (.int .i64 0) a1,.slc false 2 (.int .i64 0) a2]]=>some ([q a0 a1 a2],.slc true 24 (.slc true 2 (.int .i64 0) []) (f a0 a1 a2))
 |_=>none
def f_cpx (a b _:List V):List V:=II true (cpx (unI a) (unI b) a.length a.length)
theorem cpx_step {P S:List Int} {k n:Nat} (hk:k<n) (h0:k≠0):(cpx P S k n).set k ((if 0≤S.getD k 0 then [S.getD k 0] else [])++[P.getD k 0])=cpx P S (k+1) n:=by
 rw [cpx,tab_setG _ _ hk,cpx]
 refine tab_congr fun j hj=> ?_
 by_cases h:j=k
 ·subst h
  rw [if_pos rfl,if_pos (show j<j+1 by omega),proxs,if_neg h0]
 ·rw [if_neg h]
  by_cases h2:j<k
  ·rw [if_pos h2,if_pos (by omega)]
  ·rw [if_neg h2,if_neg (by omega)]
theorem cpx_at {P S:List Int} {k n:Nat} (hk:k<n):(cpx P S k n).getD k []=[]:=by rw [cpx,tab_get _ _ _ _ hk,if_neg (Nat.lt_irrefl _)]
set_option maxHeartbeats 1000000 in
set_option maxRecDepth 100000 in
theorem s_impl_clusterProximates:Sat Try.prog 92 (c_K_m f_cpx q_Kv):=by
 intro args ps r h hp
 unfold c_K_m at h
 split at h
 ·rename_i a0 a1 a2
  simp only [Option.some.injEq,Prod.mk.injEq] at h
  obtain ⟨rfl,rfl⟩:=h
  have hqv:q_Kv a0 a1 a2:=(alls_cons.1 hp).1
  obtain ⟨⟨⟨P,hP⟩,⟨S,hS⟩,⟨Q,hQ⟩⟩,hcl⟩:=id hqv
  rw [hP,hS,hQ,unI_I,unI_I,unI_I] at hcl
  have g0:V.frzs a0=a0:=by rw [hP,I_frzs]
  have g1:V.frzs a1=a1:=by rw [hS,I_frzs]
  have g2:V.frzs a2=a2:=by rw [hQ,I_frzs]
  have hpl:a0.length=P.length:=by rw [hP,I_length]
  have hsl:a1.length=P.length:=by rw [hS,I_length,hcl.sl]
  have hql:a2.length=P.length:=by rw [hQ,I_length,hcl.ql]
  have gp:∀k,a0.getD k (.int .i64 0)= .int .i64 (P.getD k 0):=fun k=>by rw [hP,I_getD]
  have gs:∀k,a1.getD k (.int .i64 0)= .int .i64 (S.getD k 0):=fun k=>by rw [hS,I_getD]
  have gq:∀k,a2.getD k (.int .i64 0)= .int .i64 (Q.getD k 0):=fun k=>by rw [hQ,I_getD]
  obtain ⟨n,hn⟩:∃n:Int,n=P.length:=⟨_,rfl⟩
  have n1:=hcl.n1
  have n24:=hcl.n24
  have low:=fun t ht=>hcl.low (i:=t) ht
  have hf0:f_cpx a0 a1 a2=II true (cpx P S P.length P.length):=by rw [f_cpx,hpl,hP,hS,unI_I,unI_I]
  refine fnOk_ofI (T:=tab) (B:=[]) (Bi:=[]) [3000006000,3000006001,3000007000,3000007001,0,1,2,3,4] Try.func92 rfl rfl (by kernel_rfl) (Nat.le_of_ble_eq_true rfl) mixed tabOk (by exact bookNil) (by exact bookINil) (by kernel_rfl) ?_
  intro L lp rr hL hr hf hlp
  conv=>cbv
  simp only [stdEqs hL,imp_self,true_and,and_true,bif_or,bif_and,Bool.or_eq_true,Bool.or_eq_false_iff,Bool.and_eq_true,Bool.and_eq_false_iff,decide_eq_true_eq,decide_eq_false_iff_not,Bool.not_eq_true',Bool.not_eq_false',beq_iff_eq,beq_eq_false_iff_ne,ne_eq,toNat0,toNat1,ok_int,toI_int,I_frzs,I_length,I_getD,ok_ints,toL_slc,hpl,←hn]
  obtain ⟨s0,hs0⟩:∃s0,s0=List.replicate n.toNat (V.slc true 2 (V.int IntKind.i64 0) []):=⟨_,rfl⟩
  have hs00:s0=II true (cpx P S 1 P.length):=by
   have e:cpx P S 1 P.length=List.replicate P.length []:=by
    rw [List.eq_replicate_iff]
    refine ⟨tab_len _ _,fun b hb=> ?_⟩
    simp only [cpx,tab',List.mem_map,List.mem_range] at hb
    obtain ⟨x,hx,rfl⟩:=hb
    by_cases h:x<1
    ·rw [if_pos h,proxs,if_pos (by omega)]
    ·rw [if_neg h]
   rw [hs0,e,II_replicate,hn,Int.toNat_natCast]
   rfl
  rw [←hs0]
  refine ⟨by omega,by omega,by omega,?_⟩
  refine hlp (List V×Int) _ _ _ [1,3,4] (fun x=>[(1,none,.val (.box 30 (.agg [.slc false 2 (.int .i64 0) a0,.slc false 2 (.int .i64 0) a1,.slc false 2 (.int .i64 0) a2]))),(3,none,.val (.slc true 24 (.slc true 2 (.int .i64 0) []) x.1)),(4,none,.val (.int .i64 x.2))])
   (fun x=>1≤x.2∧x.2≤n∧x.1=II true (cpx P S x.2.toNat P.length)) (fun x=>(n-x.2).toNat) ((s0,1)) (by subst hL;rfl) ?_ ?_
  ·exact ⟨by simp,by simp only;omega,hs00⟩
  rintro ⟨ls,i⟩ ⟨i0,i1,hI⟩ hfx ag hag
  simp only at i0 i1 hI
  have hll:ls.length=P.length:=by rw [hI,II_length,cpx,tab_len]
  have gls:∀j,ls.getD j (.slc true 2 (.int .i64 0) [])= .slc true 2 (.int .i64 0) (I ((cpx P S i.toNat P.length).getD j [])):=fun j=>by rw [hI,II_getD]
  conv=>cbv
  simp only [stdEqs hL,imp_self,true_and,and_true,bif_or,bif_and,Bool.or_eq_true,Bool.or_eq_false_iff,Bool.and_eq_true,Bool.and_eq_false_iff,decide_eq_true_eq,decide_eq_false_iff_not,Bool.not_eq_true',Bool.not_eq_false',beq_iff_eq,beq_eq_false_iff_ne,ne_eq,toNat0,toNat1,ok_int,toI_int,I_frzs,I_length,I_getD,ok_ints,toL_slc,hll,gls,gp,gs,hpl,hsl,←hn]
  refine ⟨fun h2=> ?_,fun h2=> ?_⟩
  ·have i0':0≤i:=by omega
   obtain ⟨k,hk⟩:∃k,k=i.toNat:=⟨_,rfl⟩
   have hkn:k<P.length:=by omega
   have hst:=cpx_step (P:=P) (S:=S) hkn (by omega)
   have hat:=cpx_at (P:=P) (S:=S) hkn
   have hs1:∀x,(ls.set k x).getD k (.slc true 2 (.int .i64 0) [])=x:=fun x=>by rw [set_getD (by omega),if_pos rfl]
   have snoc:∀(xs:List Int) (x:Int),I xs++[V.int .i64 x]=I (xs++[x]):=fun xs x=>by simp [I]
   have hole1:OkS tab 24 (V.hole 1):= .inr ⟨_,rfl,rfl,rfl⟩
   have sol:∀n:Int,∀x:V,x∈[V.int .i64 n]→x.solid=true:=fun n x hx=>by
    simp only [List.mem_singleton] at hx
    subst hx;rfl
   rw [←hk] at hI
   simp only [←hk,hat,List.set_set,List.length_set,hs1,snoc,ok_ints,toL_slc,I_length,hll,true_and]
   rw [wrap_id (n:=i+1) (by omega) (by omega)]
   have q1:∀v:V,(([]:List Int).length:Int)+([v].length:Int)≤2147483647:=fun v=>by simp only [List.length_cons,List.length_nil];omega
   have q2:∀(x:Int) (v:V),(([]++[x]:List Int).length:Int)+([v].length:Int)≤2147483647:=fun x v=>by simp only [List.nil_append,List.length_cons,List.length_nil];omega
   have hip:i<(P.length:Int):=by omega
   have fin:∀l:List Int,l=(if 0≤S.getD k 0 then [S.getD k 0] else [])++[P.getD k 0]→(1≤i+1∧i+1≤n∧ls.set k (.slc true 2 (.int .i64 0) (I l))=II true (cpx P S (i+1).toNat P.length)):=fun l hl=>by
    rw [toNat_succ i0',←hk,hI,II_set,hl,hst]
    exact ⟨by omega,by omega,rfl⟩
   refine ⟨i0',h2,fun h3=> ?_,fun h3=> ?_⟩
   ·exact ⟨i0',h2,hkn,i0',h2,hkn,rfl,q1 _,sol _,i0',hip,hkn,hole1,i0',hip,hkn,i0',h2,hkn,rfl,q2 _ _,sol _,i0',hip,hkn,hole1,hag (_,i+1) (fin _ (by rw [if_pos h3];rfl)) (by simp only;omega)⟩
   ·exact ⟨i0',h2,hkn,i0',h2,hkn,rfl,q1 _,sol _,i0',hip,hkn,hole1,hag (_,i+1) (fin _ (by rw [if_neg h3])) (by simp only;omega)⟩
  ·rw [hr,hf0,hI,show i.toNat=P.length by omega]
 ·cases h
def T2 (n:Nat) (f:Nat→Nat→Int):List (List Int):=tab' (fun i=>tab' (f i) n) n
theorem T2_len (n:Nat) (f:Nat→Nat→Int):(T2 n f).length=n:=tab_len _ _
theorem T2_row {n i:Nat} (f:Nat→Nat→Int) (h:i<n):(T2 n f).getD i []=tab' (f i) n:=tab_get _ _ _ _ h
theorem T2_get {n i k:Nat} (f:Nat→Nat→Int) (h:i<n) (h2:k<n):((T2 n f).getD i []).getD k 0=f i k:=by rw [T2_row f h,tab_get _ _ _ _ h2]
theorem T2_congr {n:Nat} {f g:Nat→Nat→Int} (h:∀i k,i<n→k<n→f i k=g i k):T2 n f=T2 n g:=tab_congr fun i hi=>tab_congr fun k hk=>h i k hi hk
theorem T2_set {n i k:Nat} {f g:Nat→Nat→Int} {v:Int} (h:i<n) (h2:k<n) (hv:v=g i k) (hg:∀a b,a<n→b<n→(a≠i∨b≠k)→g a b=f a b):(T2 n f).set i (((T2 n f).getD i []).set k v)=T2 n g:=by
 rw [T2_row f h,tab_setG _ _ h2,T2,tab_setG _ _ h]
 refine tab_congr fun a ha=> ?_
 by_cases e:a=i
 ·subst e
  rw [if_pos rfl]
  refine tab_congr fun b hb=> ?_
  by_cases e2:b=k
  ·subst e2;rw [if_pos rfl,hv]
  ·rw [if_neg e2,hg a b ha hb (.inr e2)]
 ·rw [if_neg e]
  exact tab_congr fun b hb=>(hg a b ha hb (.inl e)).symm
theorem T2_zero (n:Nat):List.replicate n (List.replicate n (0:Int))=T2 n fun _ _=>0:=by
 rw [eq_comm,List.eq_replicate_iff]
 refine ⟨tab_len _ _,fun b hb=> ?_⟩
 simp only [T2,tab',List.mem_map,List.mem_range] at hb
 obtain ⟨x,hx,rfl⟩:=hb
 rw [List.eq_replicate_iff]
 exact ⟨by simp,by simp⟩
def prm (P S:List Int) (i j:Nat):Int:=if j=i then 1 else if P.getD i 0=j∨S.getD i 0=j then-1 else 0
def f_prm (a b _:List V):List V:=II true (T2 a.length (prm (unI a) (unI b)))
def prs1 (P S:List Int) (i k:Nat) (a b:Nat):Int:=if a<i then prm P S a b else if a=i then (if b=i then 1 else if (b:Int)∈(proxs P S i).take k then-1 else 0) else 0
def prs0 (P S:List Int) (i:Nat) (a b:Nat):Int:=if a<i then prm P S a b else 0
theorem mem_proxs {P S Q:List Int} (h:ClP P S Q) {k b:Nat} (hk:k<P.length):(b:Int)∈proxs P S k↔P.getD k 0=b∨S.getD k 0=b:=by
 obtain ⟨l1,l2,l3,l4,l5,l6⟩:=h.low hk
 rw [proxs]
 by_cases h0:k=0
 ·rw [if_pos h0]
  obtain ⟨h1,h2⟩:=l6 h0
  simp only [List.not_mem_nil,false_iff]
  omega
 ·rw [if_neg h0]
  by_cases h1:0≤S.getD k 0
  ·rw [if_pos h1]
   simp only [List.cons_append,List.nil_append,List.mem_cons,List.not_mem_nil,or_false]
   omega
  ·rw [if_neg h1]
   simp only [List.nil_append,List.mem_cons,List.not_mem_nil,or_false]
   omega
theorem proxs_in {P S Q:List Int} (h:ClP P S Q) {k:Nat} (hk:k<P.length) {x:Int} (hx:x∈proxs P S k):0≤x∧x<k:=by
 obtain ⟨l1,l2,l3,l4,l5,l6⟩:=h.low hk
 rw [proxs] at hx
 by_cases h0:k=0
 ·rw [if_pos h0] at hx;simp at hx
 ·rw [if_neg h0] at hx
  have h4:=l4 (by omega)
  have h5:=l5 (by omega)
  by_cases h1:0≤S.getD k 0
  ·rw [if_pos h1] at hx
   simp only [List.cons_append,List.nil_append,List.mem_cons,List.not_mem_nil,or_false] at hx
   omega
  ·rw [if_neg h1] at hx
   simp only [List.nil_append,List.mem_cons,List.not_mem_nil,or_false] at hx
   omega
theorem proxs_len (P S:List Int) (k:Nat):(proxs P S k).length≤2:=by
 rw [proxs]
 split
 ·simp
 ·split<;>simp
theorem prs1_end {P S Q:List Int} (h:ClP P S Q) {k:Nat} (hk:k<P.length):T2 P.length (prs1 P S k (proxs P S k).length)=T2 P.length (prs0 P S (k+1)):=by
 refine T2_congr fun a b ha hb=> ?_
 rw [prs1,prs0]
 by_cases h1:a<k
 ·rw [if_pos h1,if_pos (by omega)]
 ·rw [if_neg h1]
  by_cases h2:a=k
  ·subst h2
   rw [if_pos rfl,if_pos (show a<a+1 by omega),prm,List.take_length]
   by_cases h3:b=a
   ·rw [if_pos h3,if_pos h3]
   ·rw [if_neg h3,if_neg h3]
    exact ifc (mem_proxs h hk)
  ·rw [if_neg h2,if_neg (by omega)]
set_option maxHeartbeats 1000000 in
set_option maxRecDepth 100000 in
theorem s_impl_proximityMatrix:Sat Try.prog 66 (c_K_m f_prm q_Kv):=by
 intro args ps r h hp
 unfold c_K_m at h
 split at h
 ·rename_i a0 a1 a2
  simp only [Option.some.injEq,Prod.mk.injEq] at h
  obtain ⟨rfl,rfl⟩:=h
  have hqv:q_Kv a0 a1 a2:=(alls_cons.1 hp).1
  obtain ⟨⟨⟨P,hP⟩,⟨S,hS⟩,⟨Q,hQ⟩⟩,hcl⟩:=id hqv
  rw [hP,hS,hQ,unI_I,unI_I,unI_I] at hcl
  have g0:V.frzs a0=a0:=by rw [hP,I_frzs]
  have g1:V.frzs a1=a1:=by rw [hS,I_frzs]
  have g2:V.frzs a2=a2:=by rw [hQ,I_frzs]
  have hpl:a0.length=P.length:=by rw [hP,I_length]
  have hsl:a1.length=P.length:=by rw [hS,I_length,hcl.sl]
  have hql:a2.length=P.length:=by rw [hQ,I_length,hcl.ql]
  have gp:∀k,a0.getD k (.int .i64 0)= .int .i64 (P.getD k 0):=fun k=>by rw [hP,I_getD]
  have gs:∀k,a1.getD k (.int .i64 0)= .int .i64 (S.getD k 0):=fun k=>by rw [hS,I_getD]
  have gq:∀k,a2.getD k (.int .i64 0)= .int .i64 (Q.getD k 0):=fun k=>by rw [hQ,I_getD]
  obtain ⟨n,hn⟩:∃n:Int,n=P.length:=⟨_,rfl⟩
  have n1:=hcl.n1
  have n24:=hcl.n24
  have low:=fun t ht=>hcl.low (i:=t) ht
  have hf0:f_prm a0 a1 a2=II true (T2 P.length (prm P S)):=by rw [f_prm,hpl,hP,hS,unI_I,unI_I]
  obtain ⟨vp,hvp⟩:∃vp,vp=II true (cpx P S P.length P.length):=⟨_,rfl⟩
  have hvpl:vp.length=P.length:=by rw [hvp,II_length,cpx,tab_len]
  have gvp:∀j,vp.getD j (.slc true 2 (.int .i64 0) [])= .slc true 2 (.int .i64 0) (I ((cpx P S P.length P.length).getD j [])):=fun j=>by rw [hvp,II_getD]
  generalize H_f0_square:f0_square=F_f0_square
  generalize H_q_n:q_n=F_q_n
  generalize H_f_cpx:f_cpx=F_f_cpx
  generalize H_q_Kv:q_Kv=F_q_Kv
  refine fnOk_ofI (T:=tab) (B:=[(121,c_n_ll F_f0_square F_q_n),(92,c_K_m F_f_cpx F_q_Kv)]) (Bi:=[]) [0,1,2,3,4,5,7,13,14,15,26,27,28] Try.func66 rfl rfl (by kernel_rfl) (Nat.le_of_ble_eq_true rfl) mixed tabOk (by subst H_f0_square H_q_n H_f_cpx H_q_Kv;exact (bookCons s_impl_square (bookCons s_impl_clusterProximates bookNil))) (by subst H_f0_square H_q_n H_f_cpx H_q_Kv;exact bookINil) (by kernel_rfl) ?_
  intro L lp rr hL hr hf hlp
  have Ep:F_f_cpx a0 a1 a2=vp:=by rw [←H_f_cpx,f_cpx,hpl,hP,hS,unI_I,unI_I,hvp]
  have hsq:F_f0_square n=II true (T2 P.length fun _ _=>0):=by rw [←H_f0_square,f0_square,hn,Int.toNat_natCast,T2_zero]
  obtain ⟨s0,hs0⟩:∃s0,s0=II true (T2 P.length fun _ _=>0):=⟨_,rfl⟩
  conv=>cbv
  simp only [stdEqs hL,imp_self,true_and,and_true,bif_or,bif_and,Bool.or_eq_true,Bool.or_eq_false_iff,Bool.and_eq_true,Bool.and_eq_false_iff,decide_eq_true_eq,decide_eq_false_iff_not,Bool.not_eq_true',Bool.not_eq_false',beq_iff_eq,beq_eq_false_iff_ne,ne_eq,toNat0,toNat1,ok_int,toI_int,I_frzs,I_length,I_getD,ok_ints,toL_slc,g0,g1,g2,hpl,←hn,hsq,Ep,hvpl]
  rw [←hs0]
  refine ⟨by rw [←H_q_n];exact ⟨by omega,by omega⟩,by rw [←H_q_Kv];exact hqv,?_⟩
  refine hlp (List V×Int) _ _ _ [3,13,14,15] (fun x=>[(3,none,.val (.slc true 24 (.slc true 2 (.int .i64 0) []) x.1)),(13,none,.val (.slc true 24 (.slc true 2 (.int .i64 0) []) vp)),(14,none,.val (.int .i64 n)),(15,none,.val (.int .i64 x.2))])
   (fun x=>0≤x.2∧x.2≤n∧x.1=II true (T2 P.length (prs0 P S x.2.toNat))) (fun x=>(n-x.2).toNat) ((s0,0)) (by subst hL;rw [hn,←hvpl];rfl) ?_ ?_
  ·exact ⟨by simp,by simp only;omega,hs0⟩
  rintro ⟨ls,i⟩ ⟨i0,i1,hI⟩ hfx ag hag
  simp only at i0 i1 hI
  have hll:ls.length=P.length:=by rw [hI,II_length,T2_len]
  have gls:∀j,ls.getD j (.slc true 2 (.int .i64 0) [])= .slc true 2 (.int .i64 0) (I ((T2 P.length (prs0 P S i.toNat)).getD j [])):=fun j=>by rw [hI,II_getD]
  conv=>cbv
  simp only [stdEqs hL,imp_self,true_and,and_true,bif_or,bif_and,Bool.or_eq_true,Bool.or_eq_false_iff,Bool.and_eq_true,Bool.and_eq_false_iff,decide_eq_true_eq,decide_eq_false_iff_not,Bool.not_eq_true',Bool.not_eq_false',beq_iff_eq,beq_eq_false_iff_ne,ne_eq,toNat0,toNat1,ok_int,toI_int,I_frzs,I_length,I_getD,ok_ints,toL_slc,hll,gls,hvpl,gvp]
  refine ⟨fun h2=> ?_,fun h2=> ?_⟩
  ·obtain ⟨k,hk⟩:∃k,k=i.toNat:=⟨_,rfl⟩
   have hkn:k<P.length:=by omega
   have hki:(k:Int)=i:=by omega
   have hip:i<(P.length:Int):=by omega
   rw [←hk] at hI
   have hrl:((T2 P.length (prs0 P S k)).getD k []).length=P.length:=by rw [T2_row _ hkn,tab_len]
   obtain ⟨px,hpx⟩:∃px,px=proxs P S k:=⟨_,rfl⟩
   have hcp:(cpx P S P.length P.length).getD k []=px:=by rw [cpx,tab_get _ _ _ _ hkn,if_pos hkn,hpx]
   have hpl2:px.length≤2:=by rw [hpx];exact proxs_len _ _ _
   obtain ⟨m,hm⟩:∃m:Int,m=px.length:=⟨_,rfl⟩
   simp only [←hk,hrl,hcp,←hm]
   refine ⟨i0,hip,hkn,i0,hip,hkn,hkn,i0,hip,hkn,hkn,hkn,?_⟩
   obtain ⟨s1,hs1⟩:∃s1,s1=ls.set k (.slc true 2 (.int .i64 0) ((I ((T2 P.length (prs0 P S k)).getD k [])).set k (.int .i64 1))):=⟨_,rfl⟩
   have hs11:s1=II true (T2 P.length (prs1 P S k 0)):=by
    rw [hs1,hI,I_set,II_set]
    congr 1
    refine T2_set hkn hkn ?_ (fun a b ha hb hab=> ?_)
    ·rw [prs1,if_neg (by omega),if_pos rfl,if_pos rfl]
    ·rw [prs1,prs0]
     by_cases h1:a<k
     ·rw [if_pos h1,if_pos h1]
     ·rw [if_neg h1,if_neg h1]
      by_cases h3:a=k
      ·rw [if_pos h3,if_neg (by omega),if_neg (by simp)]
      ·rw [if_neg h3]
   rw [←hs1]
   refine hlp (List V×Int) _ _ _ [3,4,13,14,15,26,27,28] (fun x=>[(3,none,.val (.slc true 24 (.slc true 2 (.int .i64 0) []) x.1)),(4,none,.val (.int .i64 i)),(13,none,.val (.slc true 24 (.slc true 2 (.int .i64 0) []) vp)),(14,none,.val (.int .i64 n)),(15,none,.val (.int .i64 i)),(26,none,.rf 13 0 [k]),(27,none,.val (.int .i64 m)),(28,none,.val (.int .i64 x.2))])
    (fun x=>0≤x.2∧x.2≤m∧x.1=II true (T2 P.length (prs1 P S k x.2.toNat))) (fun x=>(m-x.2).toNat) ((s1,0)) (by subst hL;rfl) ?_ ?_
   ·exact ⟨by simp,by simp only;omega,hs11⟩
   rintro ⟨rs,y⟩ ⟨y0,y1,hY⟩ hfx2 ag2 hag2
   simp only at y0 y1 hY
   have hrsl:rs.length=P.length:=by rw [hY,II_length,T2_len]
   have grs:∀j,rs.getD j (.slc true 2 (.int .i64 0) [])= .slc true 2 (.int .i64 0) (I ((T2 P.length (prs1 P S k y.toNat)).getD j [])):=fun j=>by rw [hY,II_getD]
   have hrl2:((T2 P.length (prs1 P S k y.toNat)).getD k []).length=P.length:=by rw [T2_row _ hkn,tab_len]
   conv=>cbv
   simp only [stdEqs hL,imp_self,true_and,and_true,bif_or,bif_and,Bool.or_eq_true,Bool.or_eq_false_iff,Bool.and_eq_true,Bool.and_eq_false_iff,decide_eq_true_eq,decide_eq_false_iff_not,Bool.not_eq_true',Bool.not_eq_false',beq_iff_eq,beq_eq_false_iff_ne,ne_eq,toNat0,toNat1,ok_int,toI_int,I_frzs,I_length,I_getD,ok_ints,toL_slc,hrsl,grs,hvpl,gvp,hcp,←hk,hrl2]
   refine ⟨fun h3=> ?_,fun h3=> ?_⟩
   ·have hyl:y.toNat<px.length:=by omega
    have hin:=proxs_in hcl hkn (x:=px.getD y.toNat 0) (by rw [←hpx,List.getD_eq_getElem?_getD,List.getElem?_eq_getElem hyl];exact List.getElem_mem _)
    obtain ⟨t,ht⟩:∃t,t=(px.getD y.toNat 0).toNat:=⟨_,rfl⟩
    obtain ⟨tt,htt⟩:∃tt,tt=px.getD y.toNat 0:=⟨_,rfl⟩
    rw [←htt] at hin ht
    simp only [←htt,←ht]
    rw [wrap_id (n:=y+1) (by omega) (by omega)]
    refine ⟨hkn,y0,by omega,hkn,hyl,i0,hip,hkn,hkn,hin.1,by omega,hkn,by omega,?_⟩
    refine hag2 (_,y+1) ⟨by simp only;omega,by simp only;omega,?_⟩ (by simp only;omega)
    simp only [toNat_succ y0]
    rw [hY,I_set,II_set]
    congr 1
    have htk:(px.take (y.toNat+1))=px.take y.toNat++[tt]:=by
     rw [List.take_succ,htt,List.getD_eq_getElem?_getD,List.getElem?_eq_getElem hyl];rfl
    refine T2_set hkn (by omega) ?_ (fun a b ha hb hab=> ?_)
    ·rw [prs1,if_neg (by omega),if_pos rfl,if_neg (by omega),←hpx,htk,if_pos (by simp;omega)]
    ·rw [prs1,prs1]
     by_cases h1:a<k
     ·rw [if_pos h1,if_pos h1]
     ·rw [if_neg h1,if_neg h1]
      by_cases h4:a=k
      ·rw [if_pos h4,if_pos h4]
       by_cases h5:b=k
       ·rw [if_pos h5,if_pos h5]
       ·rw [if_neg h5,if_neg h5,←hpx,htk]
        refine ifc ?_
        simp only [List.mem_append,List.mem_singleton]
        constructor
        ·rintro (h|h)
         ·exact h
         ·omega
        ·exact .inl
      ·rw [if_neg h4,if_neg h4]
   ·rw [wrap_id (n:=i+1) (by omega) (by omega)]
    refine hag (rs,i+1) ⟨by simp only;omega,by simp only;omega,?_⟩ (by simp only;omega)
    simp only [toNat_succ i0]
    rw [←hk,hY,show y.toNat=(proxs P S k).length by rw [←hpx];omega,prs1_end hcl hkn]
  ·rw [hr,hf0,hI,show i.toNat=P.length by omega,show T2 P.length (prs0 P S P.length)=T2 P.length (prm P S) from T2_congr fun a b ha hb=>by rw [prs0,if_pos ha]]
 ·cases h
end Go.Ax
set_option linter.all false
namespace Go.Ax
open Go.Proofs
end Go.Ax
set_option linter.all false
namespace Go.Ax
open Go.Proofs
end Go.Ax
set_option linter.all false
namespace Go.Ax
open Go.Proofs
end Go.Ax
set_option linter.all false
namespace Go.Ax
open Go.Proofs
structure GrN (n:Nat) (es:List (List Int)):Prop where
 n1:1≤n
 n2:n≤40
 el:es.length≤400
 eok:edsOk n none es=true
 ed:∀e∈es,EdIn n e
 lt:∀e∈es,e0 e<e1 e
end Go.Ax
set_option linter.all false
namespace Go.Ax
open Go.Proofs
end Go.Ax
set_option linter.all false
namespace Go.Ax
open Go.Proofs
end Go.Ax
set_option linter.all false
namespace Go.Ax
open Go.Proofs
end Go.Ax
set_option linter.all false
namespace Go.Ax
open Go.Proofs
theorem proxs_nodup {P S Q:List Int} (h:ClP P S Q) {k:Nat} (hk:k<P.length):(proxs P S k).Nodup:=by
 obtain ⟨l1,l2,l3,l4,l5,l6⟩:=h.low hk
 rw [proxs]
 by_cases h0:k=0
 ·rw [if_pos h0];exact List.nodup_nil
 ·rw [if_neg h0]
  by_cases h1:0≤S.getD k 0
  ·rw [if_pos h1]
   have hne:S.getD k 0≠P.getD k 0:=by
    have h5:=l5 (by omega)
    obtain ⟨_,h3⟩:=(placeB_s h0).1 (h.place k hk)
    obtain ⟨m1,m2,m3,m4,m5,m6⟩:=h.low (i:=(P.getD k 0).toNat) (by omega)
    by_cases hz:(P.getD k 0).toNat=0
    ·have:=m6 hz
     omega
    ·have:=m4 (by omega)
     omega
   simp only [List.cons_append,List.nil_append,List.nodup_cons,List.mem_singleton,List.not_mem_nil,not_false_eq_true,List.nodup_nil,and_true]
   exact hne
  ·rw [if_neg h1];simp
def exA (pm:List (List Int)) (w:List Int):Nat→Nat→Int
 |0,a=>w.getD a 0
 |j+1,a=>if (a:Int)∈pm.getD j [] then W (exA pm w j a-w.getD j 0) else exA pm w j a
def exB (pm:List (List Int)) (w:List Int) (j y:Nat) (a:Nat):Int:=if (a:Int)∈(pm.getD j []).take y then W (exA pm w j a-w.getD j 0) else exA pm w j a
def c_ml_l (f:List V→List V→List V) (q:List V→List V→Prop):Contract:=fun
 |[.slc false 24 (.slc false 2 (.int .i64 0) []) a0,.slc false 2 (.int .i64 0) a1]=>some ([q a0 a1],.slc true 2 (.int .i64 0) (f a0 a1))
 |_=>none
def f_exs (a b:List V):List V:=I (tab' (exA (unII a) (unI b) a.length) b.length)
def q_exs (a b:List V):Prop:=∃P S Q,ClP P S Q∧a=II false (cpx P S P.length P.length)∧b=I Q
set_option maxHeartbeats 1000000 in
set_option maxRecDepth 100000 in
theorem s_impl_excessesOf:Sat Try.prog 140 (c_ml_l f_exs q_exs):=by
 intro args ps r h hp
 unfold c_ml_l at h
 split at h
 ·rename_i a0 a1
  simp only [Option.some.injEq,Prod.mk.injEq] at h
  obtain ⟨rfl,rfl⟩:=h
  obtain ⟨P,S,Q,hcl,ha0,ha1⟩:q_exs a0 a1:=(alls_cons.1 hp).1
  obtain ⟨pm,hpm⟩:∃pm,pm=cpx P S P.length P.length:=⟨_,rfl⟩
  rw [←hpm] at ha0
  have hpml:pm.length=P.length:=by rw [hpm,cpx,tab_len]
  have g0:V.frzs a0=a0:=by rw [ha0,II_frzs]
  have g1:V.frzs a1=a1:=by rw [ha1,I_frzs]
  have hl0:a0.length=P.length:=by rw [ha0,II_length,hpml]
  have hl1:a1.length=P.length:=by rw [ha1,I_length,hcl.ql]
  have gpm:∀k,a0.getD k (.slc false 2 (.int .i64 0) [])= .slc false 2 (.int .i64 0) (I (pm.getD k [])):=fun k=>by rw [ha0,II_getD]
  have gq:∀k,a1.getD k (.int .i64 0)= .int .i64 (Q.getD k 0):=fun k=>by rw [ha1,I_getD]
  have hf0:f_exs a0 a1=I (tab' (exA pm Q P.length) P.length):=by rw [f_exs,hl0,hl1,ha0,ha1,unII_II,unI_I]
  obtain ⟨n,hn⟩:∃n:Int,n=P.length:=⟨_,rfl⟩
  have n1:=hcl.n1
  have n24:=hcl.n24
  generalize H_same:same=F_same
  generalize H_IsIs:IsIs=F_IsIs
  refine fnOk_ofI (T:=tab) (B:=[(80,c_laws_toInt64S F_same F_IsIs)]) (Bi:=[]) [0,1,4,5,6,7,9,12,13,14,19,20,21] Try.func140 rfl rfl (by kernel_rfl) (Nat.le_of_ble_eq_true rfl) mixed tabOk (by subst H_same H_IsIs;exact (bookCons s_clone bookNil)) (by subst H_same H_IsIs;exact bookINil) (by kernel_rfl) ?_
  intro L lp rr hL hr hf hlp
  have Es:F_same a1=a1:=by rw [←H_same,same]
  conv=>cbv
  simp only [stdEqs hL,imp_self,true_and,and_true,bif_or,bif_and,Bool.or_eq_true,Bool.or_eq_false_iff,Bool.and_eq_true,Bool.and_eq_false_iff,decide_eq_true_eq,decide_eq_false_iff_not,Bool.not_eq_true',Bool.not_eq_false',beq_iff_eq,beq_eq_false_iff_ne,ne_eq,toNat0,toNat1,ok_int,toI_int,I_frzs,I_length,I_getD,ok_ints,toL_slc,g0,g1,hl0,hl1,←hn,Es]
  refine ⟨by rw [←H_IsIs];exact ⟨⟨_,ha1⟩,by omega⟩,?_⟩
  refine hlp (List V×Int) _ _ _ [1,5,12,13,14] (fun x=>[(1,none,.val (.slc false 2 (.int .i64 0) a1)),(5,none,.val (.slc true 2 (.int .i64 0) x.1)),(12,none,.val (.slc false 24 (.slc false 2 (.int .i64 0) []) a0)),(13,none,.val (.int .i64 n)),(14,none,.val (.int .i64 x.2))])
   (fun x=>0≤x.2∧x.2≤n∧x.1=I (tab' (exA pm Q x.2.toNat) P.length)) (fun x=>(n-x.2).toNat) ((a1,0)) (by subst hL;rw [hn,←hl0];rfl) ?_ ?_
  ·refine ⟨by simp,by simp only;omega,?_⟩
   simp only
   rw [ha1]
   congr 1
   apply List.ext_getElem?
   intro j
   by_cases hj:j<P.length
   ·rw [tab_get? _ _ _ hj,List.getElem?_eq_getElem (by have:=hcl.ql;omega)]
    simp [exA,List.getD_eq_getElem?_getD,List.getElem?_eq_getElem (show j<Q.length by have:=hcl.ql;omega)]
   ·rw [List.getElem?_eq_none (by have:=hcl.ql;omega),List.getElem?_eq_none (by rw [tab_len];omega)]
  rintro ⟨ls,j⟩ ⟨j0,j1,hJ⟩ hfx ag hag
  simp only at j0 j1 hJ
  conv=>cbv
  simp only [stdEqs hL,imp_self,true_and,and_true,bif_or,bif_and,Bool.or_eq_true,Bool.or_eq_false_iff,Bool.and_eq_true,Bool.and_eq_false_iff,decide_eq_true_eq,decide_eq_false_iff_not,Bool.not_eq_true',Bool.not_eq_false',beq_iff_eq,beq_eq_false_iff_ne,ne_eq,toNat0,toNat1,ok_int,toI_int,I_frzs,I_length,I_getD,ok_ints,toL_slc,hl0,hl1,gpm]
  refine ⟨fun h2=> ?_,fun h2=> ?_⟩
  ·obtain ⟨jt,hjt⟩:∃jt,jt=j.toNat:=⟨_,rfl⟩
   have hjn:jt<P.length:=by omega
   rw [←hjt] at hJ
   obtain ⟨px,hpx⟩:∃px,px=pm.getD jt []:=⟨_,rfl⟩
   have hpp:px=proxs P S jt:=by rw [hpx,hpm,cpx,tab_get _ _ _ _ hjn,if_pos hjn]
   have hpl2:px.length≤2:=by rw [hpp];exact proxs_len _ _ _
   obtain ⟨m,hm⟩:∃m:Int,m=px.length:=⟨_,rfl⟩
   obtain ⟨vx,hvx⟩:∃vx,vx=I px:=⟨_,rfl⟩
   have hvxl:vx.length=px.length:=by rw [hvx,I_length]
   have gvx:∀k,vx.getD k (.int .i64 0)= .int .i64 (px.getD k 0):=fun k=>by rw [hvx,I_getD]
   simp only [←hjt,←hpx,←hm,←hvx]
   refine ⟨j0,by omega,?_⟩
   refine hlp (List V×Int) _ _ _ [1,5,6,12,13,14,19,20,21] (fun x=>[(1,none,.val (.slc false 2 (.int .i64 0) a1)),(5,none,.val (.slc true 2 (.int .i64 0) x.1)),(6,none,.val (.int .i64 j)),(12,none,.val (.slc false 24 (.slc false 2 (.int .i64 0) []) a0)),(13,none,.val (.int .i64 n)),(14,none,.val (.int .i64 j)),(19,none,.val (.slc false 2 (.int .i64 0) vx)),(20,none,.val (.int .i64 m)),(21,none,.val (.int .i64 x.2))])
    (fun x=>0≤x.2∧x.2≤m∧x.1=I (tab' (exB pm Q jt x.2.toNat) P.length)) (fun x=>(m-x.2).toNat) ((ls,0)) (by subst hL;rfl) ?_ ?_
   ·refine ⟨by simp,by simp only;omega,?_⟩
    simp only
    rw [hJ]
    congr 1
   rintro ⟨rs,y⟩ ⟨y0,y1,hY⟩ hfx2 ag2 hag2
   simp only at y0 y1 hY
   have hrl:rs.length=P.length:=by rw [hY,I_length,tab_len]
   have grs:∀k,rs.getD k (.int .i64 0)= .int .i64 ((tab' (exB pm Q jt y.toNat) P.length).getD k 0):=fun k=>by rw [hY,I_getD]
   conv=>cbv
   simp only [stdEqs hL,imp_self,true_and,and_true,bif_or,bif_and,Bool.or_eq_true,Bool.or_eq_false_iff,Bool.and_eq_true,Bool.and_eq_false_iff,decide_eq_true_eq,decide_eq_false_iff_not,Bool.not_eq_true',Bool.not_eq_false',beq_iff_eq,beq_eq_false_iff_ne,ne_eq,toNat0,toNat1,ok_int,toI_int,I_frzs,I_length,I_getD,ok_ints,toL_slc,hl0,hl1,hrl,grs,gq,←hjt,hvxl,gvx]
   refine ⟨fun h3=> ?_,fun h3=> ?_⟩
   ·have hyl:y.toNat<px.length:=by omega
    obtain ⟨tt,htt⟩:∃tt,tt=px.getD y.toNat 0:=⟨_,rfl⟩
    have hin:=proxs_in hcl hjn (x:=tt) (by rw [←hpp,htt,List.getD_eq_getElem?_getD,List.getElem?_eq_getElem hyl];exact List.getElem_mem _)
    obtain ⟨t,ht⟩:∃t,t=tt.toNat:=⟨_,rfl⟩
    have htk:px.take (y.toNat+1)=px.take y.toNat++[tt]:=by
     rw [List.take_succ,htt,List.getD_eq_getElem?_getD,List.getElem?_eq_getElem hyl];rfl
    have hnd:(px.take y.toNat++[tt]).Nodup:=by
     rw [←htk,hpp]
     exact (proxs_nodup hcl hjn).sublist (List.take_sublist _ _)
    have hnot:tt∉px.take y.toNat:=fun hm'=>(List.nodup_append.1 hnd).2.2 tt hm' tt (by simp) rfl
    have htn:t<P.length:=by omega
    have hct:(t:Int)=tt:=by omega
    simp only [←htt,←ht]
    have hgv:(tab' (exB pm Q jt y.toNat) P.length).getD t 0=exA pm Q jt t:=by
     rw [tab_get _ _ _ _ htn,exB,←hpx,hct,if_neg hnot]
    rw [wrap_id (n:=y+1) (by omega) (by omega),hgv]
    refine ⟨y0,by omega,hin.1,by omega,htn,j0,by omega,hin.1,by omega,htn,?_⟩
    refine hag2 (_,y+1) ⟨by simp only;omega,by simp only;omega,?_⟩ (by simp only;omega)
    simp only [toNat_succ y0]
    rw [hY,I_set,tab_setG _ _ htn]
    congr 1
    refine tab_congr fun a ha=> ?_
    rw [exB,exB,←hpx,htk]
    by_cases h5:a=t
    ·rw [if_pos h5,h5,hct,if_pos (by simp)]
    ·rw [if_neg h5]
     refine ifc ?_
     simp only [List.mem_append,List.mem_singleton]
     constructor
     ·exact .inl
     ·rintro (h|h)
      ·exact h
      ·omega
   ·rw [wrap_id (n:=j+1) (by omega) (by omega)]
    refine hag (rs,j+1) ⟨by simp only;omega,by simp only;omega,?_⟩ (by simp only;omega)
    simp only [toNat_succ j0]
    rw [hY,←hjt]
    congr 1
    refine tab_congr fun a ha=> ?_
    rw [exB,←hpx,List.take_of_length_le (by omega),exA,hpx]
  ·rw [hr,hf0,hJ,show j.toNat=P.length by omega]
 ·cases h
def c_K_l (f:List V→List V→List V→List V) (q:List V→List V→List V→Prop):Contract:=fun
 |[.agg [.slc false 2 (.int .i64 0) a0,.slc false 2 (.int .i64 0) a1,.slc false 2 (.int .i64 0) a2]]=>some ([q a0 a1 a2],.slc true 2 (.int .i64 0) (f a0 a1 a2))
 |_=>none
def exL (P S Q:List Int) (a:Nat):Int:=exA (cpx P S P.length P.length) Q P.length a
def f_exc1 (a b c:List V):List V:=I (tab' (exL (unI a) (unI b) (unI c)) a.length)
set_option maxHeartbeats 1000000 in
set_option maxRecDepth 100000 in
theorem s_impl_excesses:Sat Try.prog 123 (c_K_l f_exc1 q_Kv):=by
 intro args ps r h hp
 unfold c_K_l at h
 split at h
 ·rename_i a0 a1 a2
  simp only [Option.some.injEq,Prod.mk.injEq] at h
  obtain ⟨rfl,rfl⟩:=h
  have hqv:q_Kv a0 a1 a2:=(alls_cons.1 hp).1
  obtain ⟨⟨⟨P,hP⟩,⟨S,hS⟩,⟨Q,hQ⟩⟩,hcl⟩:=id hqv
  rw [hP,hS,hQ,unI_I,unI_I,unI_I] at hcl
  have g0:V.frzs a0=a0:=by rw [hP,I_frzs]
  have g1:V.frzs a1=a1:=by rw [hS,I_frzs]
  have g2:V.frzs a2=a2:=by rw [hQ,I_frzs]
  have hpl:a0.length=P.length:=by rw [hP,I_length]
  have hsl:a1.length=P.length:=by rw [hS,I_length,hcl.sl]
  have hql:a2.length=P.length:=by rw [hQ,I_length,hcl.ql]
  have gp:∀k,a0.getD k (.int .i64 0)= .int .i64 (P.getD k 0):=fun k=>by rw [hP,I_getD]
  have gs:∀k,a1.getD k (.int .i64 0)= .int .i64 (S.getD k 0):=fun k=>by rw [hS,I_getD]
  have gq:∀k,a2.getD k (.int .i64 0)= .int .i64 (Q.getD k 0):=fun k=>by rw [hQ,I_getD]
  obtain ⟨n,hn⟩:∃n:Int,n=P.length:=⟨_,rfl⟩
  have n1:=hcl.n1
  have n24:=hcl.n24
  have low:=fun t ht=>hcl.low (i:=t) ht
  have hf0:f_exc1 a0 a1 a2=I (tab' (exL P S Q) P.length):=by rw [f_exc1,hpl,hP,hS,hQ,unI_I,unI_I,unI_I]
  generalize H_f_cpx:f_cpx=F_f_cpx
  generalize H_q_Kv:q_Kv=F_q_Kv
  generalize H_f_exs:f_exs=F_f_exs
  generalize H_q_exs:q_exs=F_q_exs
  refine fnOk_ofI (T:=tab) (B:=[(92,c_K_m F_f_cpx F_q_Kv),(140,c_ml_l F_f_exs F_q_exs)]) (Bi:=[]) [0,1,2] Try.func123 rfl rfl (by kernel_rfl) (Nat.le_of_ble_eq_true rfl) mixed tabOk (by subst H_f_cpx H_q_Kv H_f_exs H_q_exs;exact (bookCons s_impl_clusterProximates (bookCons s_impl_excessesOf bookNil))) (by subst H_f_cpx H_q_Kv H_f_exs H_q_exs;exact bookINil) (by kernel_rfl) ?_
  intro L lp rr hL hr hf hlp
  have Ep:F_f_cpx a0 a1 a2=II true (cpx P S P.length P.length):=by rw [←H_f_cpx,f_cpx,hpl,hP,hS,unI_I,unI_I]
  have Ex:F_f_exs (II false (cpx P S P.length P.length)) a2=I (tab' (exL P S Q) P.length):=by rw [←H_f_exs,f_exs,II_length,cpx,tab_len,hql,hQ,unII_II,unI_I];rfl
  conv=>cbv
  simp only [stdEqs hL,imp_self,true_and,and_true,bif_or,bif_and,Bool.or_eq_true,Bool.or_eq_false_iff,Bool.and_eq_true,Bool.and_eq_false_iff,decide_eq_true_eq,decide_eq_false_iff_not,Bool.not_eq_true',Bool.not_eq_false',beq_iff_eq,beq_eq_false_iff_ne,ne_eq,toNat0,toNat1,ok_int,toI_int,I_frzs,I_length,I_getD,ok_ints,toL_slc,g0,g1,g2,Ep,II_frzs,Ex]
  refine ⟨by rw [←H_q_Kv];exact hqv,by rw [←H_q_exs];exact ⟨P,S,Q,hcl,rfl,hQ⟩,by simp,?_⟩
  rw [hr,hf0]
 ·cases h
end Go.Ax
set_option linter.all false
namespace Go.Ax
open Go.Proofs
end Go.Ax
set_option linter.all false
namespace Go.Ax
open Go.Proofs
def mm (ms:List (List Int)) (i k:Nat):Int:=(ms.getD i []).getD k 0
def EntP (i k:Nat) (c:Int):Prop:=(i=k→c=0)∧(i≠k→1≤c∧c≤200)
def RowP (ms:List (List Int)) (n i:Nat):Prop:=(ms.getD i []).length=n∧∀k,k<n→EntP i k (mm ms i k)
def SymP (ms:List (List Int)) (n i:Nat):Prop:=∀k,k<n→mm ms k i=mm ms i k
structure TabP (ms:List (List Int)) (n:Nat):Prop where
 len:ms.length=n
 row:∀i,i<n→RowP ms n i
 sym:∀i,i<n→SymP ms n i
structure CvP (bs ms:List (List Int)):Prop where
 n1:1≤bs.length
 n6:bs.length≤6
 tab:TabP ms bs.length
 br:∀i,i<bs.length→isBr (bs.getD i [])=true
 shr:∀i k,i<bs.length→k<bs.length→i≠k→shr (bs.getD i []) (bs.getD k []) (mm ms i k).toNat=true
 ult:∀i k j,i<bs.length→k<bs.length→j<bs.length→i≠k→j≠i→j≠k→¬mm ms i k<min (mm ms i j) (mm ms j k)
end Go.Ax
set_option linter.all false
namespace Go.Ax
open Go.Proofs
end Go.Ax
set_option linter.all false
namespace Go.Ax
open Go.Proofs
end Go.Ax
set_option linter.all false
namespace Go.Ax
open Go.Proofs
end Go.Ax
set_option linter.all false
namespace Go.Ax
open Go.Proofs
end Go.Ax
set_option linter.all false
namespace Go.Ax
open Go.Proofs
def okp (n:Nat) (l:List Int):Bool:= !(l.length==0)&&asc l&&within l 0 ((n:Int)-1)
end Go.Ax
set_option linter.all false
namespace Go.Ax
open Go.Proofs
def tk (ms:List (List Int)) (i:Nat):Option Nat:=(List.range i).find? fun k=>decide (2≤mm ms i k)
def tanS (ms:List (List Int)):Nat→List Int×Int
 |0=>([],0)
 |i+1=>match tk ms i with
  |some k=>((tanS ms i).1++[(tanS ms i).1.getD k 0],(tanS ms i).2)
  |none=>((tanS ms i).1++[(tanS ms i).2],(tanS ms i).2+1)
end Go.Ax
set_option linter.all false
namespace Go.Ax
open Go.Proofs
def Val:Nat→Nat→List Nat→Prop
 |_,e,[]=>e=1
 |p,e,t::l=>p<t∧t≤2000∧Nat.gcd e t≠e∧Val t (Nat.gcd e t) l
def chN:Nat→Nat→List Nat→List Nat
 |_,_,[]=>[]
 |p,e,t::l=>ex (t-p) e++chN t (Nat.gcd e t) l
theorem Val.weak {p p' e:Nat} {l:List Nat} (h:Val p e l) (hp:p'≤p):Val p' e l:=by
 cases l with
 |nil=>exact h
 |cons t l=>exact ⟨by have:=h.1;omega,h.2⟩
theorem gcd_shift {e t s:Nat} (he:e ∣ s) (hs:s≤t):Nat.gcd e (t-s)=Nat.gcd e t:=by
 obtain ⟨k,rfl⟩:=he
 have h:t=(t-e*k)+k*e:=by rw [Nat.mul_comm k e];omega
 conv=>rhs;rw [h]
 rw [Nat.gcd_add_mul_right_right]
def strN (n:Nat):List Nat→List Nat
 |[]=>[1]
 |t::l=>if 2*n≤t then n::(t-n)::l.map (·-n) else if n%(t-n)=0 then (t-n)::l.map (·-(t-n)) else (t-n)::n::l.map (·-(t-n))
structure BrN (n:Nat) (l:List Nat):Prop where
 lo:1≤n
 hi:n≤64
 val:Val n n l
theorem ex_form {k e:Nat} (he:0<e) (hd:¬e ∣ k):∃x,ex k e=List.replicate (k/e) e++(k%e)::x∧0<k%e∧k%e<e:=by
 have h1:0<k%e:=Nat.pos_of_ne_zero fun h=>hd (Nat.dvd_of_mod_eq_zero h)
 have h2:k%e<e:=Nat.mod_lt _ he
 have h3:0<e/(k%e):=Nat.div_pos (by omega) h1
 refine ⟨List.replicate (e/(k%e)-1) (k%e)++ex (k%e) (e%(k%e)),?_,h1,h2⟩
 rw [ex_pos he,ex_pos h1]
 conv=>lhs;rw [show e/(k%e)=(e/(k%e)-1)+1 by omega]
 rw [List.replicate_succ,List.cons_append]
theorem not_dvd_of {p e t:Nat} (hp:e ∣ p) (h:p<t) (hg:Nat.gcd e t≠e):¬e ∣ (t-p):=fun h2=>by
 refine hg (Nat.gcd_eq_left ?_)
 have:=Nat.dvd_add h2 hp
 rwa [show t-p+p=t by omega] at this
def leadN (e:Nat):List Nat→Nat
 |[]=>0
 |x::l=>if x=e then leadN e l+1 else 0
theorem lead_rep {e r:Nat} (h:r≠e) (x:List Nat):∀q,leadN e (List.replicate q e++r::x)=q
 |0=>by simp [leadN,h]
 |q+1=>by rw [List.replicate_succ,List.cons_append,leadN,if_pos rfl,lead_rep h x q]
def parN:Nat→Nat→Nat→List Nat→List Nat
 |0,_,_,_=>[]
 |k+1,p,e,L=>if e≤1 then [] else
   (p+(leadN e L*e+L.getD (leadN e L) 0))::parN k (p+(leadN e L*e+L.getD (leadN e L) 0)) (Nat.gcd e (p+(leadN e L*e+L.getD (leadN e L) 0))) (L.drop (ex (leadN e L*e+L.getD (leadN e L) 0) e).length)
theorem par_eq:∀(l:List Nat) (p e:Nat),0<e→e ∣ p→Val p e l→∀(m k:Nat),l.length<k→parN k p e (chN p e l++List.replicate m 1)=l
 |[],p,e,_,_,h,m,0,hk=>by simp at hk
 |[],p,e,_,_,h,m,k+1,_=>by
  have h1:e=1:=h
  rw [parN,if_pos (by omega)]
 |t::l,p,e,he,hp,h,m,0,hk=>by simp at hk
 |t::l,p,e,he,hp,h,m,k+1,hk=>by
  obtain ⟨h1,h2,h3,h4⟩:=h
  have he2:¬e≤1:=fun h5=>h3 (by
   have:e=1:=by omega
   subst this
   exact Nat.gcd_one_left t)
  obtain ⟨x,hx,hr0,hr1⟩:=ex_form he (not_dvd_of hp h1 h3)
  obtain ⟨X,hX⟩:∃X,X=chN t (Nat.gcd e t) l++List.replicate m 1:=⟨_,rfl⟩
  have hL:chN p e (t::l)++List.replicate m 1=ex (t-p) e++X:=by rw [chN,List.append_assoc,hX]
  have hL2:ex (t-p) e++X=List.replicate ((t-p)/e) e++((t-p)%e)::(x++X):=by rw [hx];simp
  have hq:leadN e (ex (t-p) e++X)=(t-p)/e:=by rw [hL2,lead_rep (by omega)]
  have hg:(ex (t-p) e++X).getD ((t-p)/e) 0=(t-p)%e:=by
   rw [hL2,List.getD_eq_getElem?_getD,List.getElem?_append_right (by rw [List.length_replicate];exact Nat.le_refl _),List.length_replicate,Nat.sub_self]
   rfl
  have hk2:(t-p)/e*e+(t-p)%e=t-p:=by rw [Nat.mul_comm];exact Nat.div_add_mod _ _
  rw [hL,parN,if_neg he2,hq,hg,hk2,show p+(t-p)=t by omega,List.drop_left,hX,
   par_eq l t (Nat.gcd e t) (Nat.gcd_pos_of_pos_left t he) (Nat.gcd_dvd_right e t) h4 m k (by simpa using hk)]
def natL (l:List Nat):List Int:=l.map fun x:Nat=>(x:Int)
def intL (l:List Int):List Nat:=l.map Int.toNat
theorem int_nat (l:List Nat):intL (natL l)=l:=by
 rw [intL,natL,List.map_map]
 conv=>rhs;rw [←List.map_id l]
 rfl
theorem natL_len (l:List Nat):(natL l).length=l.length:=by simp [natL]
theorem natL_append (a b:List Nat):natL (a++b)=natL a++natL b:=by simp [natL]
theorem natL_getD (l:List Nat) (i d:Nat):(natL l).getD i (d:Int)=((l.getD i d:Nat):Int):=by
 simp only [natL,List.getD_eq_getElem?_getD,List.getElem?_map]
 cases l[i]? <;>rfl
def SeqB (n:Nat) (l:List Nat) (L:List Int):Prop:=BrN n l∧L≠[]∧∃m,L=natL (chN 0 n l++List.replicate m 1)
def bosI (L:List Int):List Int:=natL ((intL L).getD 0 0::parN 3000 0 ((intL L).getD 0 0) (intL L))
theorem val_len:∀(l:List Nat) (p e:Nat),Val p e l→p≤2000→l.length+p≤2000
 |[],p,e,_,hp=>by simpa using hp
 |t::l,p,e,h,_=>by
  have:=val_len l t _ h.2.2.2 h.2.1
  have:=h.1
  simp only [List.length_cons]
  omega
theorem bosI_eq {n:Nat} {l:List Nat} {L:List Int} (h:SeqB n l L):bosI L=natL (n::l):=by
 obtain ⟨hb,hne,m,rfl⟩:=h
 have hlo:=hb.lo
 have hhi:=hb.hi
 have h0:(chN 0 n l++List.replicate m 1).getD 0 0=n:=by
  cases l with
  |nil=>
   have h1:n=1:=hb.val
   subst h1
   cases m with
   |zero=>simp [chN,natL] at hne
   |succ m=>rfl
  |cons t l=>
   have h1:=hb.val.1
   have h2:0<t/n:=Nat.div_pos (by omega) (by omega)
   rw [chN,ex_pos (by omega),Nat.sub_zero,show t/n=(t/n-1)+1 by omega,List.replicate_succ]
   rfl
 rw [bosI,int_nat,h0,par_eq l 0 n (by omega) ⟨0,rfl⟩ (hb.val.weak (by omega)) m 3000 (by have:=val_len l n n hb.val (by omega);omega)]
end Go.Ax
set_option linter.all false
namespace Go.Ax
open Go.Proofs
theorem gcdW_natJ {a b:Nat} (ha:0<a) (hb:0<b):gcdW (a:Int) (b:Int)=((Nat.gcd a b:Nat):Int):=by
 rw [gcdW,absW_pos (by omega),absW_pos (by omega),gcdGo_eq _ _ _ (Nat.le_refl _) (by omega) (by omega),Int.toNat_natCast,Int.toNat_natCast]
theorem brGo_val:∀(l:List Nat) (p e:Nat),1≤p→p≤2000→1≤e→(brGo (p:Int) (e:Int) (natL l)=true↔Val p e l)
 |[],p,e,_,_,_=>by
  simp only [natL,List.map_nil,brGo,Val,beq_iff_eq]
  omega
 |t::l,p,e,hp,hp2,he=>by
  have hw:IntKind.wrap .i64 ((p:Int)+1)=(p:Int)+1:=wrap_id (by omega) (by omega)
  simp only [natL,List.map_cons,brGo,Val,hw]
  by_cases h:p<t∧t≤2000
  ·have hi:inRange (t:Int) ((p:Int)+1) 2000=true:=by
    simp only [inRange,Bool.and_eq_true,decide_eq_true_eq]
    omega
   rw [hi,gcdW_natJ (by omega) (by omega)]
   have ih:=brGo_val l t (Nat.gcd e t) (by omega) h.2 (Nat.gcd_pos_of_pos_left t (by omega))
   rw [natL] at ih
   by_cases hg:Nat.gcd e t=e
   ·have hb:(((Nat.gcd e t:Nat):Int)==(e:Int))=true:=by rw [hg];simp
    rw [hb]
    simp [hg]
   ·have hb:(((Nat.gcd e t:Nat):Int)==(e:Int))=false:=by
     rw [beq_eq_false_iff_ne]
     omega
    rw [hb]
    simp only [Bool.not_true,cond_false,ih]
    exact ⟨fun h2=>⟨h.1,h.2,hg,h2⟩,fun h2=>h2.2.2.2⟩
  ·have hi:inRange (t:Int) ((p:Int)+1) 2000=false:=by
    rw [←Bool.not_eq_true]
    simp only [inRange,Bool.and_eq_true,decide_eq_true_eq]
    omega
   rw [hi]
   simp only [Bool.not_false,cond_true,Bool.false_eq_true,false_iff]
   exact fun h2=>h ⟨h2.1,h2.2.1⟩
theorem isBr_nat {n:Nat} {l:List Nat}:isBr (natL (n::l))=true↔BrN n l:=by
 have h0:(((natL (n::l)).length:Int)==0)=false:=by
  rw [beq_eq_false_iff_ne,natL_len]
  simp only [List.length_cons]
  omega
 have h1:(natL (n::l)).getD 0 0=(n:Int):=rfl
 have h2:(natL (n::l)).drop 1=natL l:=rfl
 rw [←isBrS_eq,isBrS,h0,h1,h2]
 by_cases h:1≤n∧n≤64
 ·have hi:inRange (n:Int) 1 64=true:=by
   simp only [inRange,Bool.and_eq_true,decide_eq_true_eq]
   omega
  rw [hi]
  simp only [cond_false,Bool.not_true]
  rw [brGo_val l n n h.1 (by omega) h.1]
  exact ⟨fun h3=>⟨h.1,h.2,h3⟩,fun h3=>h3.val⟩
 ·have hi:inRange (n:Int) 1 64=false:=by
   rw [←Bool.not_eq_true]
   simp only [inRange,Bool.and_eq_true,decide_eq_true_eq]
   omega
  rw [hi]
  simp only [cond_false,Bool.not_false,cond_true,Bool.false_eq_true,false_iff]
  exact fun h3=>h ⟨h3.lo,h3.hi⟩
theorem nat_br {n:Nat} {l:List Nat} (h:BrN n l):Br (natL (n::l)):=br_of (isBr_nat.2 h)
theorem exI_nat (a b:Nat):exI (a:Int) (b:Int)=natL (ex a b):=by
 rw [exI,Int.toNat_natCast,Int.toNat_natCast];rfl
def strI (xs:List Int):List Int:=natL (match intL xs with
 |[]=>[]
 |n::l=>strN n l)
end Go.Ax
set_option linter.all false
namespace Go.Ax
open Go.Proofs
def c_lxi_i (f:List V→Int→Int) (q:List V→Int→Prop):Contract:=fun
 |[.slc false 2 (.int .i64 0) a0,.int .i64 a1]=>some ([q a0 a1],.int .i64 (f a0 a1))
 |_=>none
def idx (ls:List Int) (x:Int):Int:=match (List.range ls.length).find? fun t=>ls.getD t 0==x with
 |some t=>t
 |none=> -1
def f_idx (a:List V) (x:Int):Int:=idx (unI a) x
def q_lI (a:List V) (_:Int):Prop:=IsIs a
def f_has (a:List V) (x:Int):Bool:=(unI a).contains x
end Go.Ax
set_option linter.all false
namespace Go.Ax
open Go.Proofs
set_option maxHeartbeats 1000000 in
set_option maxRecDepth 100000 in
theorem s_slicesIndex:Sat Try.prog 125 (c_lxi_i f_idx q_lI):=by
 intro args ps r h hp
 unfold c_lxi_i at h
 split at h
 ·rename_i a0 a1
  simp only [Option.some.injEq,Prod.mk.injEq] at h
  obtain ⟨rfl,rfl⟩:=h
  obtain ⟨⟨ls,hls⟩,hll⟩:q_lI a0 a1:=(alls_cons.1 hp).1
  have hal:a0.length=ls.length:=by rw [hls,I_length]
  rw [hal] at hll
  have gl:∀k,a0.getD k (.int .i64 0)= .int .i64 (ls.getD k 0):=fun k=>by rw [hls,I_getD]
  have hf0:f_idx a0 a1=idx ls a1:=by rw [f_idx,hls,unI_I]
  obtain ⟨n,hn⟩:∃n:Int,n=ls.length:=⟨_,rfl⟩
  refine fnOk_ofI (T:=tab) (B:=[]) (Bi:=[]) [0,1,4,5,7,8] Try.func125 rfl rfl (by kernel_rfl) (Nat.le_of_ble_eq_true rfl) mixed tabOk (by exact bookNil) (by exact bookINil) (by kernel_rfl) ?_
  intro L lp rr hL hr hf hlp
  conv=>cbv
  refine hlp (Int) _ _ _ [0,1,7,8] (fun x=>[(0,none,.val (.slc false 2 (.int .i64 0) a0)),(1,none,.val (.int .i64 a1)),(7,none,.val (.int .i64 n)),(8,none,.val (.int .i64 x))])
   (fun x=>0≤x∧x≤n∧∀t,t<x.toNat→ls.getD t 0≠a1) (fun x=>(n-x).toNat) (0) (by subst hL;rw [hn,←hal];rfl) ?_ ?_
  ·exact ⟨by simp,by omega,fun t ht=>by simp at ht⟩
  rintro i ⟨i0,i1,hI⟩ hfx ag hag
  conv=>cbv
  simp only [stdEqs hL,imp_self,true_and,and_true,bif_or,bif_and,Bool.or_eq_true,Bool.or_eq_false_iff,Bool.and_eq_true,Bool.and_eq_false_iff,decide_eq_true_eq,decide_eq_false_iff_not,Bool.not_eq_true',Bool.not_eq_false',beq_iff_eq,beq_eq_false_iff_ne,ne_eq,toNat0,toNat1,ok_int,toI_int,I_frzs,I_length,I_getD,ok_ints,toL_slc,hal,gl]
  refine ⟨fun h2=>⟨i0,by omega,fun h3=> ?_,fun h3=> ?_⟩,fun h2=> ?_⟩
  ·have hfi:((List.range ls.length).find? fun t=>ls.getD t 0==a1)=some i.toNat:=by
    rw [List.find?_range_eq_some]
    refine ⟨by simpa using h3.symm,by simp only [List.mem_range];omega,fun t ht=> ?_⟩
    have:=hI t ht
    simpa using this
   rw [hr,hf0,idx,hfi]
   simp only
   rw [show ((i.toNat:Nat):Int)=i by omega]
  ·rw [wrap_id (n:=i+1) (by omega) (by omega)]
   refine hag (i+1) ⟨by omega,by omega,fun t ht=> ?_⟩ (by omega)
   by_cases hti:t=i.toNat
   ·rw [hti];exact fun h=>h3 h.symm
   ·exact hI t (by omega)
  ·have hfi:((List.range ls.length).find? fun t=>ls.getD t 0==a1)=none:=by
    rw [List.find?_eq_none]
    intro t ht
    simp only [List.mem_range] at ht
    have:=hI t (by omega)
    simpa using this
   rw [hr,hf0,idx,hfi]
 ·cases h
def plN (L:List Int) (x:Int):Nat→List Int
 |0=>[]
 |n+1=>if L.getD n 0=x then plN L x n++[(n:Int)] else plN L x n
def okS (x:List Int):Bool:=decide ((sq1 x).length≤399)
def stB (bs:List (List Int)) (ls:List Int) (j:Nat):List (List Int):=tab' (fun k=>if k<j then strI (bs.getD (ls.getD k 0).toNat []) else bs.getD (ls.getD k 0).toNat []) ls.length
def dcR (ms:List (List Int)) (ls:List Int) (i c:Nat):List Int:=tab' (fun k=>if k<c∧k≠i then mm ms (ls.getD i 0).toNat (ls.getD k 0).toNat-1 else mm ms (ls.getD i 0).toNat (ls.getD k 0).toNat) ls.length
def stM (ms:List (List Int)) (ls:List Int) (j c:Nat):List (List Int):=tab' (fun i=>dcR ms ls i (if i<j then ls.length else if i=j then c else 0)) ls.length
abbrev Cur:Type:=List (List Int)×List (List Int)
def blS (bs ms:List (List Int)) (L:List Int):Nat→Option (List Cur)
 |0=>some []
 |t+1=>(blS bs ms L t).bind fun o=>if (plN L t L.length).all (fun i=>okS (bs.getD i.toNat [])) then some (o++[(stB bs (plN L t L.length) (plN L t L.length).length,stM ms (plN L t L.length) (plN L t L.length).length 0)]) else none
def bl (bs ms:List (List Int)) (n:Nat):Option (List Cur):=blS bs ms (tanS ms n).1 (tanS ms n).2.toNat
end Go.Ax
set_option linter.all false
namespace Go.Ax
open Go.Proofs
def minGo:List Int→Int→Int
 |[],m=>m
 |x::l,m=>minGo l (min m x)
def minL:List Int→Int
 |[]=>0
 |x::l=>minGo l x
theorem minGo_nn:∀(l:List Int) (m:Int),0≤minGo l m↔0≤m∧∀x∈l,0≤x
 |[],m=>by simp [minGo]
 |x::l,m=>by
  rw [minGo,minGo_nn l]
  simp only [List.mem_cons,forall_eq_or_imp]
  constructor
  ·rintro ⟨h1,h2⟩;exact ⟨by omega,by omega,h2⟩
  ·rintro ⟨h1,h2,h3⟩;exact ⟨by omega,h3⟩
theorem minL_nn {l:List Int} (h:l≠[]):0≤minL l↔∀x∈l,0≤x:=by
 cases l with
 |nil=>exact absurd rfl h
 |cons x l=>rw [minL,minGo_nn];simp
def f_minL (a:List V):Int:=minL (unI a)
set_option maxHeartbeats 1000000 in
set_option maxRecDepth 100000 in
theorem s_slicesMin:Sat Try.prog 122 (c_l_i f_minL q_ne):=by
 intro args ps r h hp
 unfold c_l_i at h
 split at h
 ·rename_i a0
  simp only [Option.some.injEq,Prod.mk.injEq] at h
  obtain ⟨rfl,rfl⟩:=h
  obtain ⟨⟨xs,hxs⟩,hne⟩:q_ne a0:=(alls_cons.1 hp).1
  have hxl:a0.length=xs.length:=by rw [hxs,I_length]
  have hf0:f_minL a0=minL xs:=by rw [f_minL,hxs,unI_I]
  have hpos:0<xs.length:=by
   cases xs with
   |nil=>exact absurd hxs hne
   |cons x l=>simp
  have hmx:minL xs=minGo (xs.drop 1) (xs.getD 0 0):=by
   cases xs with
   |nil=>simp at hpos
   |cons x l=>rfl
  refine fnOk_ofI (T:=tab) (B:=[]) (Bi:=[]) [0,2,3,4] Try.func122 rfl rfl (by kernel_rfl) (Nat.le_of_ble_eq_true rfl) mixed tabOk (by exact bookNil) (by exact bookINil) (by kernel_rfl) ?_
  intro L lp rr hL hr hf hlp
  have hlen:=hf.1.1
  conv=>cbv
  simp only [stdEqs hL,hxl]
  refine ⟨fun h=> ?_,fun h=>⟨by omega,by omega,?_⟩⟩
  ·simp only [decide_eq_true_eq] at h;omega
  obtain ⟨m0,hm0⟩:∃m0,a0.getD (Int.toNat 0) (.int .i64 0)= .int .i64 m0∧m0=xs.getD 0 0:=⟨_,by rw [hxs,I_getD];rfl,rfl⟩
  simp only [hm0.1,ok_int,toI_int,true_and]
  refine hlp (Int×Int) _ _ _ [0,3,4] (fun x=>[(0,none,.val (.slc false 2 (.int .i64 0) a0)),(3,none,.val (.int .i64 x.1)),(4,none,.val (.int .i64 x.2))])
   (fun x=>0≤x.2∧x.2≤xs.length∧minL xs=minGo (xs.drop x.2.toNat) x.1) (fun x=>(xs.length-x.2).toNat) ((m0,1)) (by subst hL;rfl) ?_ ?_
  ·exact ⟨by simp,by simp only;omega,by rw [hmx,hm0.2];rfl⟩
  rintro ⟨m,i⟩ ⟨i0,i1,hI⟩ hfx ag hag
  conv=>cbv
  simp only at i0 i1 hI
  rw [hxl] at hlen
  subst hxs
  simp only [stdEqs hL,I_length,I_getD,ok_int,toI_int,imp_self,true_and,decide_eq_true_eq,decide_eq_false_iff_not]
  refine ⟨fun h=>⟨i0,by omega,?_⟩,fun h=> ?_⟩
  ·rw [wrap_id (n:=i+1) (by omega) (by omega)]
   refine hag (_,i+1) ⟨by simp only;omega,by simp only;omega,?_⟩ (by simp only;omega)
   simp only [toNat_succ i0]
   rw [hI,drop_cons 0 (show i.toNat<xs.length by omega),minGo]
  ·rw [hr,hf0,hI,List.drop_eq_nil_of_le (by omega)];rfl
 ·cases h
def exsL (P S Q:List Int):List Int:=tab' (exL P S Q) P.length
def consB (P S Q:List Int):Bool:=(exsL P S Q).all fun x=>decide (0≤x)
def f_cons (a b c:List V):Bool:=consB (unI a) (unI b) (unI c)
set_option maxHeartbeats 1000000 in
set_option maxRecDepth 100000 in
theorem s_impl_consistent:Sat Try.prog 67 (c_K_b f_cons q_Kv):=by
 intro args ps r h hp
 unfold c_K_b at h
 split at h
 ·rename_i a0 a1 a2
  simp only [Option.some.injEq,Prod.mk.injEq] at h
  obtain ⟨rfl,rfl⟩:=h
  have hqv:q_Kv a0 a1 a2:=(alls_cons.1 hp).1
  obtain ⟨⟨⟨P,hP⟩,⟨S,hS⟩,⟨Q,hQ⟩⟩,hcl⟩:=id hqv
  rw [hP,hS,hQ,unI_I,unI_I,unI_I] at hcl
  have g0:V.frzs a0=a0:=by rw [hP,I_frzs]
  have g1:V.frzs a1=a1:=by rw [hS,I_frzs]
  have g2:V.frzs a2=a2:=by rw [hQ,I_frzs]
  have hpl:a0.length=P.length:=by rw [hP,I_length]
  have hsl:a1.length=P.length:=by rw [hS,I_length,hcl.sl]
  have hql:a2.length=P.length:=by rw [hQ,I_length,hcl.ql]
  have gp:∀k,a0.getD k (.int .i64 0)= .int .i64 (P.getD k 0):=fun k=>by rw [hP,I_getD]
  have gs:∀k,a1.getD k (.int .i64 0)= .int .i64 (S.getD k 0):=fun k=>by rw [hS,I_getD]
  have gq:∀k,a2.getD k (.int .i64 0)= .int .i64 (Q.getD k 0):=fun k=>by rw [hQ,I_getD]
  obtain ⟨n,hn⟩:∃n:Int,n=P.length:=⟨_,rfl⟩
  have n1:=hcl.n1
  have n24:=hcl.n24
  have low:=fun t ht=>hcl.low (i:=t) ht
  have hf0:f_cons a0 a1 a2=consB P S Q:=by rw [f_cons,hP,hS,hQ,unI_I,unI_I,unI_I]
  have hfe:f_exc1 a0 a1 a2=I (exsL P S Q):=by rw [f_exc1,hpl,hP,hS,hQ,unI_I,unI_I,unI_I];rfl
  have hne:exsL P S Q≠[]:=List.length_pos_iff.1 (by rw [exsL,tab_len];omega)
  generalize H_f_exc1:f_exc1=F_f_exc1
  generalize H_q_Kv:q_Kv=F_q_Kv
  generalize H_f_minL:f_minL=F_f_minL
  generalize H_q_ne:q_ne=F_q_ne
  refine fnOk_ofI (T:=tab) (B:=[(123,c_K_l F_f_exc1 F_q_Kv),(122,c_l_i F_f_minL F_q_ne)]) (Bi:=[]) [0,1,2] Try.func67 rfl rfl (by kernel_rfl) (Nat.le_of_ble_eq_true rfl) mixed tabOk (by subst H_f_exc1 H_q_Kv H_f_minL H_q_ne;exact (bookCons s_impl_excesses (bookCons s_slicesMin bookNil))) (by subst H_f_exc1 H_q_Kv H_f_minL H_q_ne;exact bookINil) (by kernel_rfl) ?_
  intro L lp rr hL hr hf hlp
  conv=>cbv
  simp only [stdEqs hL,imp_self,true_and,and_true,bif_or,bif_and,Bool.or_eq_true,Bool.or_eq_false_iff,Bool.and_eq_true,Bool.and_eq_false_iff,decide_eq_true_eq,decide_eq_false_iff_not,Bool.not_eq_true',Bool.not_eq_false',beq_iff_eq,beq_eq_false_iff_ne,ne_eq,toNat0,toNat1,ok_int,toI_int,I_frzs,I_length,I_getD,ok_ints,toL_slc,g0,g1,g2]
  subst H_f_exc1 H_q_Kv H_f_minL H_q_ne
  rw [hfe,I_frzs]
  refine ⟨hqv,⟨⟨_,rfl⟩,?_⟩,?_⟩
  ·intro h
   exact hne (by rw [←unI_I (exsL P S Q),h];rfl)
  ·rw [hr,hf0,f_minL,unI_I,consB]
   congr 1
   rw [Bool.eq_iff_iff,decide_eq_true_eq,minL_nn hne,List.all_eq_true]
   simp
 ·cases h
end Go.Ax
set_option linter.all false
namespace Go.Ax
open Go.Proofs
def lead:Nat→List Nat→Nat
 |_,[]=>0
 |t,c::cs=>if c=t then lead (t+1) cs+1 else 0
def mC:List Nat→List Nat
 |[]=>[1]
 |_::cs=>((mC cs).take (lead 2 cs+1)).sum::mC cs
theorem mC_len:∀cs:List Nat,(mC cs).length=cs.length+1
 |[]=>rfl
 |_::cs=>by rw [mC,List.length_cons,mC_len cs,List.length_cons]
theorem lead_le:∀(cs:List Nat) (t:Nat),lead t cs≤cs.length
 |[],_=>Nat.le_refl _
 |c::cs,t=>by
  rw [lead]
  split
  ·have:=lead_le cs (t+1);simp only [List.length_cons];omega
  ·exact Nat.zero_le _
theorem mC_pos:∀(cs:List Nat),∀x∈mC cs,1≤x
 |[],x,h=>by simp only [mC,List.mem_singleton] at h;omega
 |c::cs,x,h=>by
  rw [mC] at h
  rcases List.mem_cons.1 h with h|h
  ·have hl:=mC_len cs
   cases hm:mC cs with
   |nil=>rw [hm] at hl;simp at hl
   |cons y l=>
    have:=mC_pos cs y (by rw [hm];simp)
    rw [h,hm,List.take_succ_cons,List.sum_cons]
    omega
  ·exact mC_pos cs x h
theorem mC_same:∀(cs:List Nat) (t q:Nat),2≤t→q≤lead t cs→∀j,j<q→(mC cs).getD j 0=(mC cs).getD 0 0
 |[],t,q,_,hq,j,hj=>by rw [lead] at hq;omega
 |c::cs,t,q,ht,hq,j,hj=>by
  rw [lead] at hq
  split at hq
  ·rename_i hc
   cases j with
   |zero=>rfl
   |succ j=>
    have ih:=mC_same cs (t+1) (q-1) (by omega) (by omega) j (by omega)
    rw [mC,List.getD_cons_succ,ih,List.getD_cons_zero]
    have h0:lead 2 cs=0:=by
     cases cs with
     |nil=>rfl
     |cons d cs=>
      rw [lead] at hq ⊢
      split at hq
      ·rw [if_neg (by omega)]
      ·omega
    have hl:=mC_len cs
    rw [h0]
    cases hm:mC cs with
    |nil=>rw [hm] at hl;simp at hl
    |cons y l=>simp
  ·omega
theorem Val.up:∀(l:List Nat) {p e s:Nat},e ∣ s→(∀t∈l,t+s≤2000)→Val p e l→Val (p+s) e (l.map (·+s))∧chN (p+s) e (l.map (·+s))=chN p e l
 |[],p,e,s,_,_,h=>⟨h,rfl⟩
 |t::l,p,e,s,he,hs,h=>by
  obtain ⟨h1,h2,h3,h4⟩:=h
  have hg:Nat.gcd e (t+s)=Nat.gcd e t:=by
   obtain ⟨k,rfl⟩:=he
   rw [Nat.mul_comm,Nat.gcd_add_mul_right_right]
  obtain ⟨i1,i2⟩:=Val.up l (s:=s) (Nat.dvd_trans (Nat.gcd_dvd_left e t) he) (fun x hx=>hs x (List.mem_cons_of_mem _ hx)) h4
  have hb:=hs t (by simp)
  refine ⟨⟨show p+s<t+s by omega,hb,by rw [hg];exact h3,by rw [hg];exact i1⟩,?_⟩
  simp only [List.map_cons,chN]
  rw [hg,i2,show t+s-(p+s)=t-p by omega]
theorem take_rep {a b:Nat} {x:List Nat}:∀k:Nat,(List.replicate k a++b::x).take (k+1)=List.replicate k a++[b]
 |0=>rfl
 |k+1=>by rw [List.replicate_succ,List.cons_append,List.take_succ_cons,take_rep k];rfl
theorem sum_rep (a b:Nat):∀k:Nat,(List.replicate k a++[b]).sum=k*a+b
 |0=>by simp
 |k+1=>by rw [List.replicate_succ,List.cons_append,List.sum_cons,sum_rep a b k,Nat.add_mul];omega
theorem split_rep {a:Nat}:∀(k:Nat) (L:List Nat),k<L.length→(∀j,j<k→L.getD j 0=a)→∃b x,L=List.replicate k a++b::x
 |_,[],h,_=>by simp at h
 |0,y::L,_,_=>⟨y,L,rfl⟩
 |k+1,y::L,h,hs=>by
  obtain ⟨b,x,hx⟩:=split_rep k L (by simpa using h) (fun j hj=>by simpa using hs (j+1) (by omega))
  have h0:y=a:=by simpa using hs 0 (by omega)
  exact ⟨b,x,by rw [hx,h0,List.replicate_succ];rfl⟩
theorem rep_split {a r b:Nat} (hr:r≠a) {X x:List Nat}:∀(k q:Nat),List.replicate q a++r::X=List.replicate k a++b::x→(k<q∧b=a)∨(k=q∧b=r)
 |0,0,h=>by simp at h;exact .inr ⟨rfl,h.1.symm⟩
 |0,q+1,h=>by rw [List.replicate_succ] at h;simp at h;exact .inl ⟨by omega,h.1.symm⟩
 |k+1,0,h=>by rw [List.replicate_succ] at h;simp at h;exact absurd h.1 hr
 |k+1,q+1,h=>by
  rw [List.replicate_succ,List.replicate_succ] at h
  simp only [List.cons_append,List.cons.injEq,true_and] at h
  have:=rep_split hr k q h
  omega
theorem mC_seq:∀(cs:List Nat),cs.length≤30→(∀x∈mC cs,x≤64)→∃n l m,BrN n l∧mC cs=chN 0 n l++List.replicate m 1∧(mC cs).getD 0 0=n∧∀t∈l,t≤64*(cs.length+1)
 |[],_,_=>⟨1,[],1,⟨by omega,by omega,rfl⟩,rfl,rfl,fun t ht=>by cases ht⟩
 |c::cs,hl,hb=>by
  rw [mC] at hb
  simp only [List.length_cons] at hl ⊢
  obtain ⟨a,l,m,hB,hL,ha,ht⟩:=mC_seq cs (by omega) (fun x hx=>hb x (List.mem_cons_of_mem _ hx))
  have hlen:=mC_len cs
  have hle:=lead_le cs 2
  obtain ⟨k,hk⟩:∃k,k=lead 2 cs:=⟨_,rfl⟩
  rw [←hk] at hle
  have hsame:∀j,j<k→(mC cs).getD j 0=a:=fun j hj=>by rw [mC_same cs 2 k (by omega) (by omega) j hj,ha]
  obtain ⟨b,x,hx⟩:=split_rep k (mC cs) (by omega) hsame
  have hn:((mC cs).take (k+1)).sum=k*a+b:=by rw [hx,take_rep,sum_rep]
  obtain ⟨n,hnn⟩:∃n,n=k*a+b:=⟨_,rfl⟩
  have hn64:n≤64:=by rw [hnn,←hn,hk];exact hb _ (by simp)
  have hb1:1≤b:=mC_pos cs b (by rw [hx];simp)
  have hb64:b≤64:=hb b (List.mem_cons_of_mem _ (by rw [hx];simp))
  have ha1:=hB.lo
  have ha64:=hB.hi
  rw [mC,←hk,hn,←hnn]
  by_cases hk0:k=0
  ·
    subst hk0
    have hba:b=a:=by rw [←ha,hx];rfl
    have hna:n=a:=by rw [hnn,hba];omega
    rw [hna]
    cases l with
    |nil=>
     have h1:a=1:=hB.val
     subst h1
     exact ⟨1,[],m+1,hB,by rw [hL];rfl,rfl,fun t ht=>by cases ht⟩
    |cons t l=>
     have ht0:=ht t (by simp)
     obtain ⟨v1,v2⟩:=Val.up (t::l) (p:=a) (e:=a) (s:=a) (Nat.dvd_refl a) (fun y hy=>by have:=ht y hy;omega) hB.val
     refine ⟨a,(t::l).map (·+a),m,⟨ha1,ha64,v1.weak (by omega)⟩,?_,rfl,fun y hy=> ?_⟩
     ·have v0:=(Val.up (t::l) (p:=0) (e:=a) (s:=a) (Nat.dvd_refl a) (fun y hy=>by have:=ht y hy;omega) (hB.val.weak (by omega))).2
      rw [hL,←v0]
      simp only [List.map_cons,chN,Nat.sub_zero]
      have e1:ex (t+a) a=a::ex (t+a-(0+a)) a:=by
       rw [show t+a-(0+a)=t by omega,ex_pos (by omega),ex_pos (show 0<a by omega),Nat.add_div_right _ (by omega),Nat.add_mod_right,List.replicate_succ,List.cons_append]
      rw [e1]
      rfl
     ·obtain ⟨z,hz,rfl⟩:=List.mem_map.1 hy
      have:=ht z hz
      omega
  ·cases l with
   |nil=>
    have h1:a=1:=hB.val
    subst h1
    have hall:∀y∈mC cs,y=1:=fun y hy=>by
     rw [hL] at hy
     simp only [chN,List.nil_append] at hy
     exact List.eq_of_mem_replicate hy
    have hbe:b=1:=hall b (by rw [hx];simp)
    have hn1:n=k+1:=by rw [hnn,hbe];omega
    have hm:m=cs.length+1:=by
     rw [←hlen,hL];simp [chN]
    refine ⟨n,[n+1],m-n,⟨by omega,hn64,by omega,by omega,?_,?_⟩,?_,rfl,fun y hy=> ?_⟩
    ·rw [Nat.gcd_self_add_right]
     simp
     omega
    ·rw [Nat.gcd_self_add_right]
     simp [Val]
    ·rw [hL]
     simp only [chN,Nat.sub_zero,List.append_nil,List.nil_append]
     have e1:ex (n+1) n=n::List.replicate n 1:=by
      rw [ex_pos (by omega),Nat.add_comm n 1,Nat.add_div_right _ (by omega),Nat.add_mod_right,Nat.div_eq_of_lt (by omega),Nat.mod_eq_of_lt (by omega),ex_pos (by omega),Nat.div_one,Nat.mod_one,ex_zero]
      simp
     rw [e1,List.cons_append,List.replicate_append_replicate,show n+(m-n)=m by omega]
    ·simp only [List.mem_singleton] at hy
     omega
   |cons t l=>
    have hv:=hB.val
    obtain ⟨v1,v2,v3,v4⟩:=id hv
    have hnd:¬a ∣ t:=by
     intro hd
     exact v3 (Nat.gcd_eq_left hd)
    obtain ⟨X,hX,hr0,hr1⟩:=ex_form (show 0<a by omega) hnd
    obtain ⟨q,hq⟩:∃q,q=t/a:=⟨_,rfl⟩
    obtain ⟨r,hr⟩:∃r,r=t%a:=⟨_,rfl⟩
    rw [←hq,←hr] at hX
    rw [←hr] at hr0 hr1
    have htq:t=q*a+r:=by rw [hq,hr,Nat.mul_comm];exact (Nat.div_add_mod t a).symm
    have hL2:mC cs=List.replicate q a++r::(X++(chN t (Nat.gcd a t) l++List.replicate m 1)):=by
     rw [hL,chN,Nat.sub_zero,hX]
     simp
    have ht2:∀y∈t::l,y+a≤2000:=fun y hy=>by have:=ht y hy;omega
    have hcase:=rep_split (by omega) k q (hL2.symm.trans hx)
    have htb:=ht t (by simp)
    rcases hcase with ⟨hkq,hba⟩|⟨hkq,hbr⟩
    ·
      have hn1:n=(k+1)*a:=by rw [hnn,hba,Nat.add_mul];omega
      have hlt:n+a≤t+a:=by
       have:(k+1)*a≤q*a:=Nat.mul_le_mul_right a (by omega)
       omega
      have hlt2:n<t:=by
       have:(k+1)*a≤q*a:=Nat.mul_le_mul_right a (by omega)
       omega
      have hna:a<n:=by
       have:2*a≤(k+1)*a:=Nat.mul_le_mul_right a (by omega)
       omega
      have hgcd:Nat.gcd n (n+a)=a:=by
       rw [Nat.gcd_self_add_right,hn1,Nat.gcd_comm,Nat.gcd_mul_left_right]
      obtain ⟨u1,u2⟩:=Val.up (t::l) (p:=n) (e:=a) (s:=a) (Nat.dvd_refl a) ht2 ⟨hlt2,v2,v3,v4⟩
      refine ⟨n,(n+a)::(t::l).map (·+a),m,⟨by omega,hn64,by omega,by omega,by rw [hgcd];omega,by rw [hgcd];exact u1⟩,?_,rfl,fun y hy=> ?_⟩
      ·rw [chN,Nat.sub_zero,hgcd,u2]
       have e1:ex (n+a) n=n::List.replicate (k+1) a:=by
        rw [ex_pos (by omega),Nat.add_comm n a,Nat.add_div_right _ (by omega),Nat.add_mod_right,Nat.div_eq_of_lt hna,Nat.mod_eq_of_lt hna,ex_pos (by omega),hn1,Nat.mul_div_cancel _ (by omega),Nat.mul_mod_left,ex_zero]
        simp
       have e2:ex t a=List.replicate (k+1) a++ex (t-n) a:=by
        have e3:t=(t-n)+a*(k+1):=by rw [Nat.mul_comm,←hn1];omega
        rw [ex_pos (by omega),ex_pos (show 0<a by omega) (a:=t-n)]
        conv=>lhs;rw [e3]
        rw [Nat.add_mul_div_left _ _ (by omega),Nat.add_mul_mod_self_left,Nat.add_comm,←List.replicate_append_replicate,List.append_assoc]
       rw [e1,hL,chN,chN,Nat.sub_zero,e2]
       simp
      ·rcases List.mem_cons.1 hy with rfl|hy
       ·omega
       ·obtain ⟨z,hz,rfl⟩:=List.mem_map.1 hy
        have:=ht z hz
        omega
    ·
      have hn1:n=t:=by rw [hnn,hkq,hbr];exact htq.symm
      have hgcd:Nat.gcd n (n+a)=Nat.gcd a t:=by rw [Nat.gcd_self_add_right,hn1,Nat.gcd_comm]
      obtain ⟨u1,u2⟩:=Val.up l (p:=t) (e:=Nat.gcd a t) (s:=a) (Nat.gcd_dvd_left a t) (fun y hy=>ht2 y (List.mem_cons_of_mem _ hy)) v4
      have hga:Nat.gcd a t≤a:=Nat.gcd_le_left t (by omega)
      refine ⟨n,(n+a)::l.map (·+a),m,⟨by omega,hn64,by omega,by omega,by rw [hgcd];omega,by rw [hgcd,hn1];exact u1⟩,?_,rfl,fun y hy=> ?_⟩
      ·have e1:ex (n+a) n=n::ex t a:=by
        rw [ex_pos (by omega),Nat.add_comm n a,Nat.add_div_right _ (by omega),Nat.add_mod_right,Nat.div_eq_of_lt (by omega),Nat.mod_eq_of_lt (by omega),hn1]
        simp
       rw [chN,Nat.sub_zero,hgcd,e1,hL,chN,Nat.sub_zero]
       rw [hn1] at*
       rw [u2]
       simp
      ·rcases List.mem_cons.1 hy with rfl|hy
       ·omega
       ·obtain ⟨z,hz,rfl⟩:=List.mem_map.1 hy
        have:=ht z (List.mem_cons_of_mem _ hz)
        omega
end Go.Ax
set_option linter.all false
namespace Go.Ax
open Go.Proofs
def VC (cs:List Nat):Prop:=∀i,i<cs.length→cs.getD i 0=0∨(1≤i∧(cs.getD i 0=2∨(3≤cs.getD i 0∧cs.getD (i-1) 0+1=cs.getD i 0)))
theorem VC.le {cs:List Nat} (h:VC cs):∀i,i<cs.length→cs.getD i 0≤i+1∧cs.getD i 0≠1
 |0,hi=>by rcases h 0 hi with h|⟨h,_⟩<;>omega
 |i+1,hi=>by
  have ih:=VC.le h i (by omega)
  rcases h (i+1) hi with h|⟨_,h|⟨h1,h2⟩⟩
  ·omega
  ·omega
  ·simp only [Nat.add_sub_cancel] at h2
   omega
def hdM (cs:List Nat):Nat:=(mC cs).getD 0 0
def QM (cs:List Nat) (j i:Nat):Nat:=((mC (cs.drop j)).tail.take (lead (j+1-i) (cs.drop j))).sum
def mulA (cs:List Nat) (j:Nat):List Nat:=tab' (fun i=>if i<j then QM cs j i else hdM (cs.drop i)) (cs.length+1)
theorem mulA_len (cs:List Nat) (j:Nat):(mulA cs j).length=cs.length+1:=tab_len _ _
theorem mulA_get {cs:List Nat} {j i:Nat} (h:i≤cs.length):(mulA cs j).getD i 0=if i<j then QM cs j i else hdM (cs.drop i):=tab_get _ _ _ _ (by omega)
theorem mC_head (cs:List Nat):mC cs=hdM cs::(mC cs).tail:=by
 have hl:=mC_len cs
 rw [hdM]
 cases hm:mC cs with
 |nil=>rw [hm] at hl;simp at hl
 |cons x l=>rfl
theorem drop_at {cs:List Nat} {j:Nat} (h:j<cs.length):cs.drop j=cs.getD j 0::cs.drop (j+1):=by
 rw [List.drop_eq_getElem_cons h,List.getD_eq_getElem?_getD,List.getElem?_eq_getElem h]
 rfl
theorem mC_drop:∀(cs:List Nat) (j:Nat),j≤cs.length→(mC cs).getD j 0=hdM (cs.drop j)
 |cs,0,_=>rfl
 |[],j+1,h=>by simp at h
 |c::cs,j+1,h=>by
  rw [mC,List.getD_cons_succ,List.drop_succ_cons]
  exact mC_drop cs j (by simpa using h)
theorem mulA_end (cs:List Nat):mulA cs 0=mC cs:=by
 apply List.ext_getElem?
 intro i
 by_cases hi:i≤cs.length
 ·have h1:=mulA_get (j:=0) hi
  rw [if_neg (by omega),←mC_drop cs i hi] at h1
  rw [List.getD_eq_getElem?_getD,List.getD_eq_getElem?_getD,List.getElem?_eq_getElem (by rw [mulA_len];omega),List.getElem?_eq_getElem (by rw [mC_len];omega)] at h1
  rw [List.getElem?_eq_getElem (by rw [mulA_len];omega),List.getElem?_eq_getElem (by rw [mC_len];omega)]
  exact congrArg some h1
 ·rw [List.getElem?_eq_none (by rw [mulA_len];omega),List.getElem?_eq_none (by rw [mC_len];omega)]
theorem QM_head {cs:List Nat} {j:Nat} (h:j<cs.length):QM cs (j+1) j+hdM (cs.drop (j+1))=hdM (cs.drop j):=by
 rw [QM,show j+1+1-j=2 by omega,drop_at h]
 have h1:hdM (cs.getD j 0::cs.drop (j+1))=((mC (cs.drop (j+1))).take (lead 2 (cs.drop (j+1))+1)).sum:=by
  rw [hdM,mC];rfl
 rw [h1]
 conv=>rhs;rw [mC_head]
 rw [List.take_succ_cons,List.sum_cons]
 omega
theorem QM_hit {cs:List Nat} {j i:Nat} (h:j<cs.length) (hi:i<j) (hc:cs.getD j 0=j+1-i):QM cs (j+1) i+hdM (cs.drop (j+1))=QM cs j i:=by
 rw [QM,QM,drop_at h,mC,List.tail_cons,lead,if_pos hc,show j+1-i+1=j+1+1-i by omega]
 conv=>rhs;rw [mC_head]
 rw [List.take_succ_cons,List.sum_cons]
 omega
theorem QM_miss {cs:List Nat} (hv:VC cs) {j i:Nat} (h:j<cs.length) (hi:i<j) (hc:cs.getD j 0≠j+1-i):QM cs j i=0∧QM cs (j+1) i=0:=by
 constructor
 ·rw [QM,drop_at h,lead,if_neg hc]
  simp
 ·rw [QM]
  by_cases h1:j+1<cs.length
  ·rw [drop_at h1,lead,if_neg]
   ·simp
   ·intro h2
    rcases hv (j+1) h1 with h3|⟨_,h3|⟨h3,h4⟩⟩
    ·omega
    ·omega
    ·simp only [Nat.add_sub_cancel] at h4
     omega
  ·rw [List.drop_of_length_le (by omega)]
   simp [lead]
theorem set_tab {α:Type} (f:Nat→α) {n i:Nat} (x:α) (h:i<n):(tab' f n).set i x=tab' (fun t=>if t=i then x else f t) n:=by
 apply List.ext_getElem?
 intro j
 rw [List.getElem?_set]
 by_cases hj:j<n
 ·rw [tab_get? _ _ _ hj,tab_get? _ _ _ hj]
  by_cases h1:i=j
  ·rw [if_pos h1,if_pos (by rw [tab_len];exact h),if_pos h1.symm]
  ·rw [if_neg h1,if_neg (Ne.symm h1)]
 ·rw [if_neg (by omega),List.getElem?_eq_none (by rw [tab_len];omega),List.getElem?_eq_none (by rw [tab_len];omega)]
theorem mulA_free {cs:List Nat} (hv:VC cs) {j:Nat} (h:j<cs.length) (hc:cs.getD j 0=0):(mulA cs (j+1)).set j ((mulA cs (j+1)).getD j 0+(mulA cs (j+1)).getD (j+1) 0)=mulA cs j:=by
 rw [mulA_get (by omega),mulA_get (by omega),if_pos (by omega),if_neg (by omega),QM_head h,mulA,set_tab _ _ (by omega),mulA]
 refine tab_congr fun i hi=> ?_
 by_cases h1:i=j
 ·rw [if_pos h1,if_neg (by omega),h1]
 ·rw [if_neg h1]
  by_cases h2:i<j
  ·obtain ⟨q1,q2⟩:=QM_miss hv h h2 (by omega)
   rw [if_pos (by omega),if_pos h2,q1,q2]
  ·rw [if_neg (by omega),if_neg h2]
theorem mulA_sat {cs:List Nat} (hv:VC cs) {j c:Nat} (h:j<cs.length) (hc:cs.getD j 0=c) (h0:c≠0):
 ((mulA cs (j+1)).set j ((mulA cs (j+1)).getD j 0+(mulA cs (j+1)).getD (j+1) 0)).set (j+1-c) ((mulA cs (j+1)).getD (j+1-c) 0+(mulA cs (j+1)).getD (j+1) 0)=mulA cs j∧j+1-c<j∧c≤j+1:=by
 have hle:=hv.le j h
 rw [hc] at hle
 refine ⟨?_,by omega,by omega⟩
 have hlt:j+1-c<j:=by omega
 have e:=QM_hit h hlt (show cs.getD j 0=j+1-(j+1-c) by omega)
 rw [mulA_get (by omega),mulA_get (by omega),mulA_get (by omega),if_pos (by omega),if_neg (by omega),if_pos (by omega),QM_head h,e,mulA,set_tab _ _ (by omega),set_tab _ _ (by omega),mulA]
 refine tab_congr fun i hi=> ?_
 by_cases h1:i=j+1-c
 ·rw [if_pos h1,if_pos (by omega),h1]
 ·rw [if_neg h1]
  by_cases h3:i=j
  ·rw [if_pos h3,if_neg (by omega),h3]
  ·rw [if_neg h3]
   by_cases h2:i<j
   ·obtain ⟨q1,q2⟩:=QM_miss hv h h2 (by omega)
    rw [if_pos (by omega),if_pos h2,q1,q2]
   ·rw [if_neg (by omega),if_neg h2]
theorem mulA_start (cs:List Nat):mulA cs cs.length=List.replicate cs.length 0++[1]:=by
 apply List.ext_getElem?
 intro i
 rw [mulA]
 by_cases hi:i<cs.length
 ·rw [tab_get? _ _ _ (by omega),if_pos hi,List.getElem?_append_left (by simpa using hi),List.getElem?_replicate,if_pos hi,QM,List.drop_of_length_le (by omega)]
  simp [mC]
 ·by_cases h2:i=cs.length
  ·rw [tab_get? _ _ _ (by omega),if_neg hi,h2,List.getElem?_append_right (by simp),List.drop_of_length_le (by omega)]
   simp [hdM,mC]
  ·rw [List.getElem?_eq_none (by rw [tab_len];omega),List.getElem?_eq_none (by simp;omega)]
theorem sum_small {B:Nat}:∀(l:List Nat),(∀x∈l,x≤B)→l.sum≤B*l.length
 |[],_=>by simp
 |x::l,h=>by
  have h1:=h x (by simp)
  have h2:=sum_small l (fun y hy=>h y (List.mem_cons_of_mem _ hy))
  rw [List.sum_cons,List.length_cons,Nat.mul_add]
  omega
theorem mulA_small {cs:List Nat} {j:Nat} (hj:j≤cs.length) (h:∀i,j<i→i≤cs.length→hdM (cs.drop i)≤64):∀i,i≤cs.length→(mulA cs j).getD i 0≤64*(cs.length+1):=by
 have hall:∀x∈(mC (cs.drop j)).tail,x≤64:=by
  intro x hx
  obtain ⟨t,ht,rfl⟩:=List.mem_iff_getElem.1 hx
  have hl:=mC_len (cs.drop j)
  simp only [List.length_tail,List.length_drop] at ht hl
  have h1:=mC_drop (cs.drop j) (t+1) (by rw [List.length_drop];omega)
  rw [List.drop_drop] at h1
  have h2:=h (j+(t+1)) (by omega) (by omega)
  rw [←h1,mC_head,List.getD_cons_succ,List.getD_eq_getElem?_getD,List.getElem?_eq_getElem (by rw [List.length_tail];omega)] at h2
  exact h2
 have hlen:(mC (cs.drop j)).tail.length≤cs.length:=by
  rw [List.length_tail,mC_len,List.length_drop];omega
 have htake:∀q,((mC (cs.drop j)).tail.take q).sum≤64*cs.length:=fun q=>by
  have h1:=sum_small ((mC (cs.drop j)).tail.take q) (fun x hx=>hall x (List.mem_of_mem_take hx))
  have h2:((mC (cs.drop j)).tail.take q).length≤cs.length:=by rw [List.length_take];omega
  have:=Nat.mul_le_mul_left 64 h2
  omega
 intro i hi
 rw [mulA_get hi]
 split
 ·rw [QM]
  have:=htake (lead (j+1-i) (cs.drop j))
  omega
 ·by_cases h2:i=j
  ·rw [h2]
   by_cases h3:j<cs.length
   ·have h4:=QM_head h3
    have h5:=h (j+1) (by omega) (by omega)
    have h6:QM cs (j+1) j≤64*cs.length:=by
     rw [QM]
     have hd:=drop_at h3
     have:(mC (cs.drop j)).tail=mC (cs.drop (j+1)):=by rw [hd,mC,List.tail_cons]
     have h7:=htake (lead (j+1+1-j) (cs.drop (j+1))+1)
     rw [this,mC_head,List.take_succ_cons,List.sum_cons] at h7
     omega
    omega
   ·rw [List.drop_of_length_le (by omega)]
    simp only [hdM,mC,List.getD_cons_zero]
    omega
  ·have:=h i (by omega) hi
   omega
end Go.Ax
set_option linter.all false
namespace Go.Ax
open Go.Proofs
def upL (P:List Int):Nat→Int→List Int
 |0,_=>[]
 |f+1,i=>if i<0 then [] else i::upL P f (P.getD i.toNat 0)
def pthC (P:List Int) (i:Int):List Int:=(upL P 32 i).reverse
section
variable {P S Q:List Int}
theorem upL_stable (h:ClP P S Q):∀(f:Nat) (i:Int),i<P.length→i<f→-1≤i→∀g,f≤g→upL P g i=upL P f i
 |0,i,_,h2,_,g,_=>by
  have:i= -1:=by omega
  subst this
  cases g with
  |zero=>rfl
  |succ g=>
   have:upL P (g+1) (-1)=[]:=by rw [upL];exact if_pos (by omega)
   rw [this];rfl
 |f+1,i,h1,h2,h3,g,hg=>by
  obtain ⟨k,rfl⟩:∃k,g=k+1:=⟨g-1,by omega⟩
  rw [upL,upL]
  by_cases h0:i<0
  ·rw [if_pos h0,if_pos h0]
  ·rw [if_neg h0,if_neg h0]
   have hl:=h.low (i:=i.toNat) (by omega)
   rw [upL_stable h f _ (by omega) (by omega) (by omega) k (by omega)]
theorem pthC_neg:pthC P (-1)=[]:=by
 rw [pthC,upL,if_pos (by omega)];rfl
theorem pthC_step (h:ClP P S Q) {i:Int} (h0:0≤i) (h1:i<P.length):pthC P i=pthC P (P.getD i.toNat 0)++[i]:=by
 have hl:=h.low (i:=i.toNat) (by omega)
 have hn:=h.n24
 rw [pthC,pthC,upL,if_neg (by omega),List.reverse_cons,upL_stable h 31 _ (by omega) (by omega) (by omega) 32 (by omega)]
theorem pthC_ind (h:ClP P S Q) {p:Int→Prop} (hn:p (-1)) (hs:∀i:Int,0≤i→i<P.length→p (P.getD i.toNat 0)→p i):∀i:Int,-1≤i→i<P.length→p i:=by
 have key:∀(n:Nat) (i:Int),i<n→-1≤i→i<P.length→p i:=by
  intro n
  induction n with
  |zero=>
   intro i h1 h2 _
   have:i= -1:=by omega
   rw [this];exact hn
  |succ n ih=>
   intro i h1 h2 h3
   by_cases h0:i<0
   ·have:i= -1:=by omega
    rw [this];exact hn
   ·have hl:=h.low (i:=i.toNat) (by omega)
    exact hs i (by omega) h3 (ih _ (by omega) (by omega) (by omega))
 exact fun i h1 h2=>key (i+1).toNat i (by omega) h1 h2
theorem pthC_mem (h:ClP P S Q):∀i:Int,-1≤i→i<P.length→(∀x∈pthC P i,0≤x∧x≤i)∧(pthC P i).Pairwise (·< ·):=by
 refine pthC_ind h ?_ (fun i h0 h1 ih=> ?_)
 ·rw [pthC_neg];exact ⟨fun x hx=>(by cases hx),List.Pairwise.nil⟩
 ·have hl:=h.low (i:=i.toNat) (by omega)
  rw [pthC_step h h0 h1]
  refine ⟨fun x hx=> ?_,?_⟩
  ·rcases List.mem_append.1 hx with hx|hx
   ·have:=ih.1 x hx
    omega
   ·rw [List.mem_singleton] at hx
    omega
  ·rw [List.pairwise_append]
   refine ⟨ih.2,by simp,fun a ha b hb=> ?_⟩
   rw [List.mem_singleton] at hb
   have:=ih.1 a ha
   omega
theorem pthC_nodup (h:ClP P S Q) {i:Int} (h0: -1≤i) (h1:i<P.length):(pthC P i).Nodup:=(pthC_mem h i h0 h1).2.imp (fun h=>by omega)
theorem pthC_len (h:ClP P S Q) {i:Int} (h0: -1≤i) (h1:i<P.length):(pthC P i).length≤24:=by
 have h2:=pthC_mem h i h0 h1
 have h3:=nodup_len (pthC P i) (n:=P.length) (pthC_nodup h h0 h1) (fun x hx=>by have:=h2.1 x hx;omega)
 have:=h.n24
 omega
theorem idx_of {l:List Int} {x:Int} (h:x∈l):idx l x=(l.idxOf x:Nat):=by
 rw [idx]
 have hlt:=List.idxOf_lt_length_iff.2 h
 have:((List.range l.length).find? fun t=>l.getD t 0==x)=some (l.idxOf x):=by
  rw [List.find?_range_eq_some]
  refine ⟨?_,by simpa using hlt,fun t ht=> ?_⟩
  ·rw [List.getD_eq_getElem?_getD,List.getElem?_eq_getElem hlt]
   simp
  ·rw [List.getD_eq_getElem?_getD,List.getElem?_eq_getElem (by omega)]
   have:=List.not_of_lt_findIdx (p:=(·==x)) (xs:=l) (i:=t) ht
   simpa using this
 rw [this]
def cod1 (S p:List Int) (j:Nat):Nat:=if 0≤S.getD (p.getD j 0).toNat 0 then ((j:Int)-idx p (S.getD (p.getD j 0).toNat 0)).toNat else 0
def cdN (S p:List Int):List Nat:=tab' (fun t=>cod1 S p (t+1)) (p.length-1)
theorem cdN_len (S p:List Int):(cdN S p).length=p.length-1:=tab_len _ _
theorem idx_app {l l':List Int} {x:Int} (h:x∈l):idx (l++l') x=idx l x:=by
 rw [idx_of h,idx_of (List.mem_append.2 (.inl h)),List.idxOf_append,if_pos h]
theorem getD_app {l l':List Int} {j:Nat} (h:j<l.length):(l++l').getD j 0=l.getD j 0:=by
 rw [List.getD_eq_getElem?_getD,List.getD_eq_getElem?_getD,List.getElem?_append_left h]
theorem getD_last (l:List Int) (x:Int):(l++[x]).getD l.length 0=x:=by simp [List.getD_eq_getElem?_getD]
theorem cod1_app {S p:List Int} {i:Int} (hp:∀x∈p,0≤S.getD x.toNat 0→S.getD x.toNat 0∈p) {j:Nat} (hj:j<p.length):cod1 S (p++[i]) j=cod1 S p j:=by
 rw [cod1,cod1,getD_app hj]
 split
 ·rename_i h0
  rw [idx_app (hp _ (by rw [List.getD_eq_getElem?_getD,List.getElem?_eq_getElem hj];exact List.getElem_mem _) h0)]
 ·rfl
theorem cdN_app {S p:List Int} {i:Int} (hp:∀x∈p,0≤S.getD x.toNat 0→S.getD x.toNat 0∈p) (hne:p≠[]):cdN S (p++[i])=cdN S p++[cod1 S (p++[i]) p.length]:=by
 have hl:=List.length_pos_iff.2 hne
 rw [cdN,List.length_append,List.length_singleton,Nat.add_sub_cancel,show p.length=(p.length-1)+1 by omega,tab_succ]
 congr 1
 exact tab_congr fun t ht=>cod1_app hp (by omega)
theorem path_code (h:ClP P S Q):∀i:Int,-1≤i→i<P.length→(∀x∈pthC P i,0≤S.getD x.toNat 0→S.getD x.toNat 0∈pthC P i)∧VC (cdN S (pthC P i)):=by
 refine pthC_ind h ?_ (fun i h0 h1 ih=> ?_)
 ·rw [pthC_neg]
  exact ⟨fun x hx=>by (cases hx),fun i hi=>by (rw [cdN_len] at hi;simp at hi)⟩
 ·have hl:=h.low (i:=i.toNat) (by omega)
  obtain ⟨ih1,ih2⟩:=ih
  rw [pthC_step h h0 h1]
  obtain ⟨q,hq⟩:∃q,q=P.getD i.toNat 0:=⟨_,rfl⟩
  rw [←hq] at ih1 ih2 hl ⊢
  have hsec:0≤S.getD i.toNat 0→0≤q∧(S.getD i.toNat 0=P.getD q.toNat 0∨S.getD i.toNat 0=S.getD q.toNat 0):=fun h2=>by
   have hi0:i.toNat≠0:=fun h3=>by have:=(hl.2.2.2.2.2 h3).2;omega
   have h3:=(placeB_s hi0).1 (h.place i.toNat (by omega))
   rw [←hq] at h3
   refine ⟨h3.1.1,?_⟩
   rcases h3.2 with h4|h4
   ·omega
   ·exact h4.2
  have hin:0≤S.getD i.toNat 0→S.getD i.toNat 0∈pthC P q:=fun h2=>by
   obtain ⟨q0,h3⟩:=hsec h2
   have hql:=h.low (i:=q.toNat) (by omega)
   rcases h3 with h3|h3
   ·rw [h3,pthC_step h q0 (by omega),pthC_step h (i:=P.getD q.toNat 0) (by omega) (by omega)]
    simp
   ·rw [h3]
    refine ih1 q ?_ (by omega)
    rw [pthC_step h q0 (by omega)]
    simp
  refine ⟨fun x hx h2=> ?_,?_⟩
  ·refine List.mem_append.2 (.inl ?_)
   rcases List.mem_append.1 hx with hx|hx
   ·exact ih1 x hx h2
   ·rw [List.mem_singleton] at hx
    rw [hx] at h2 ⊢
    exact hin h2
  ·by_cases hne:pthC P q=[]
   ·rw [hne]
    intro t ht
    rw [cdN_len] at ht
    simp at ht
   ·rw [cdN_app ih1 hne]
    obtain ⟨m,hm⟩:∃m,m=(pthC P q).length:=⟨_,rfl⟩
    have hm1:1≤m:=by rw [hm];exact List.length_pos_iff.2 hne
    have hcl:(cdN S (pthC P q)).length=m-1:=by rw [cdN_len,hm]
    intro t ht
    rw [List.length_append,List.length_singleton,hcl] at ht
    have hold:∀t,t<m-1→(cdN S (pthC P q)++[cod1 S (pthC P q++[i]) (pthC P q).length]).getD t 0=(cdN S (pthC P q)).getD t 0:=fun t ht=>by
     rw [List.getD_eq_getElem?_getD,List.getD_eq_getElem?_getD,List.getElem?_append_left (by omega)]
    by_cases ht1:t<m-1
    ·have h3:=ih2 t (by omega)
     rw [hold t ht1,hold (t-1) (by omega)]
     exact h3
    ·have ht2:t=m-1:=by omega
     subst ht2
     have hnew:(cdN S (pthC P q)++[cod1 S (pthC P q++[i]) (pthC P q).length]).getD (m-1) 0=cod1 S (pthC P q++[i]) m:=by
      rw [List.getD_eq_getElem?_getD,List.getElem?_append_right (by omega),hcl,Nat.sub_self,←hm]
      rfl
     rw [hnew]
     have hlast:(pthC P q++[i]).getD m 0=i:=by rw [hm];exact getD_last _ _
     rw [cod1,hlast]
     by_cases h2:0≤S.getD i.toNat 0
     ·rw [if_pos h2]
      right
      obtain ⟨q0,h3⟩:=hsec h2
      have hql:=h.low (i:=q.toNat) (by omega)
      have hps:=pthC_step h q0 (show q<P.length by omega)
      obtain ⟨r,hr⟩:∃r,r=pthC P (P.getD q.toNat 0):=⟨_,rfl⟩
      rw [←hr] at hps
      have hrm:m=r.length+1:=by rw [hm,hps];simp
      have hmem:=hin h2
      rw [idx_app hmem,idx_of hmem]
      by_cases h4:S.getD i.toNat 0=P.getD q.toNat 0
      ·have hr2:=pthC_step h (i:=P.getD q.toNat 0) (by omega) (by omega)
       rw [←hr] at hr2
       obtain ⟨r2,hr3⟩:∃r2,r2=pthC P (P.getD (P.getD q.toNat 0).toNat 0):=⟨_,rfl⟩
       rw [←hr3] at hr2
       have hni:P.getD q.toNat 0∉r2:=fun hx=>by
        have hl2:=h.low (i:=(P.getD q.toNat 0).toNat) (by omega)
        rw [hr3] at hx
        have:=(pthC_mem h _ (by omega) (by omega)).1 _ hx
        omega
       have hk:(pthC P q).idxOf (S.getD i.toNat 0)=r2.length:=by
        rw [h4,hps,hr2,List.append_assoc,List.idxOf_append,if_neg hni]
        simp
       have hrl:r.length=r2.length+1:=by rw [hr2];simp
       rw [hk]
       refine ⟨by omega,.inl (by omega)⟩
      ·have h5:S.getD i.toNat 0=S.getD q.toNat 0:=h3.resolve_left h4
       have hq0:q.toNat≠0:=fun h6=>by have:=(hql.2.2.2.2.2 h6).2;omega
       have hr0:r≠[]:=fun h6=>by
        have h7:=pthC_step h (i:=P.getD q.toNat 0) (by omega) (by omega)
        rw [←hr,h6] at h7
        simp at h7
       have hrl:=List.length_pos_iff.2 hr0
       have hsq:S.getD i.toNat 0∈r:=by
        have h6:=hmem
        rw [hps] at h6
        rcases List.mem_append.1 h6 with h6|h6
        ·exact h6
        ·rw [List.mem_singleton] at h6
         omega
       have hk:(pthC P q).idxOf (S.getD i.toNat 0)<r.length:=by
        rw [hps,List.idxOf_append,if_pos hsq]
        exact List.idxOf_lt_length_iff.2 hsq
       have hcq:(cdN S (pthC P q)).getD (m-2) 0=m-1-(pthC P q).idxOf (S.getD i.toNat 0):=by
        rw [cdN,tab_get _ _ _ _ (by omega),show m-2+1=m-1 by omega,cod1]
        have h6:(pthC P q).getD (m-1) 0=q:=by
         rw [hps,show m-1=r.length by omega];exact getD_last _ _
        rw [h6,if_pos (by omega),←h5,idx_of hmem]
        omega
       have hle:=ih2.le (m-2) (by omega)
       rw [hcq] at hle
       refine ⟨by omega,.inr ⟨by omega,?_⟩⟩
       rw [hold (m-1-1) (by omega),show m-1-1=m-2 by omega,hcq]
       omega
     ·rw [if_neg h2]
      exact .inl rfl
end
end Go.Ax
set_option linter.all false
namespace Go.Ax
open Go.Proofs
theorem natL_set (l:List Nat) (i n:Nat):(natL l).set i (n:Int)=natL (l.set i n):=by
 simp only [natL,List.map_set]
theorem natL_get (l:List Nat) (i:Nat):(natL l).getD i 0=((l.getD i 0:Nat):Int):=natL_getD l i 0
theorem set_getK {α:Type} {l:List α} {i j:Nat} {x z:α} (hi:i<l.length):(l.set i x).getD j z=if j=i then x else l.getD j z:=by
 simp only [List.getD_eq_getElem?_getD,List.getElem?_set]
 by_cases h:j=i
 ·rw [h,if_pos rfl,if_pos rfl,if_pos hi];rfl
 ·rw [if_neg (Ne.symm h),if_neg h]
theorem rep_nat (m:Nat):List.replicate m (V.int .i64 0)=I (natL (List.replicate m 0)):=by
 rw [I,natL,List.map_replicate,List.map_replicate]
 rfl
theorem rep_getD (m k:Nat):(List.replicate m (V.int .i64 0)).getD k (V.int .i64 0)=V.int .i64 0:=by
 rw [List.getD_eq_getElem?_getD,List.getElem?_replicate]
 split<;>rfl
def c_l_lb (f:List V→List V×Bool) (q:List V→Prop):Contract:=fun
 |[.slc false 2 (.int .i64 0) a0]=>some ([q a0],.tup [.slc true 2 (.int .i64 0) ((f a0).1),.bool ((f a0).2)])
 |_=>none
def cvm (cs:List Nat):List V×Bool:=if (mC cs).tail.all (fun x=>decide (x≤64))=true then (I (natL (mC cs)),decide (hdM cs≤64)) else ([],false)
def f_cvm (a:List V):List V×Bool:=cvm (intL (unI a))
def q_cvm (a:List V):Prop:=∃cs,a=I (natL cs)∧VC cs∧cs.length≤30
theorem cvm_bad {cs:List Nat} {j:Nat} (h1:1≤j) (h2:j≤cs.length) (h:64<hdM (cs.drop j)):cvm cs=([],false):=by
 rw [cvm,if_neg]
 intro ha
 rw [List.all_eq_true] at ha
 have hl:=mC_len cs
 have h3:=mC_drop cs j h2
 obtain ⟨t,rfl⟩:∃t,j=t+1:=⟨j-1,by omega⟩
 rw [mC_head,List.getD_cons_succ] at h3
 have ht:t<(mC cs).tail.length:=by rw [List.length_tail];omega
 have h4:=ha _ (List.getElem_mem ht)
 rw [List.getD_eq_getElem?_getD,List.getElem?_eq_getElem ht] at h3
 simp only [Option.getD_some] at h3
 simp only [decide_eq_true_eq] at h4
 omega
theorem cvm_good {cs:List Nat} (h:∀i,1≤i→i≤cs.length→hdM (cs.drop i)≤64):cvm cs=(I (natL (mC cs)),decide (hdM cs≤64)):=by
 rw [cvm,if_pos]
 rw [List.all_eq_true]
 intro x hx
 obtain ⟨t,ht,rfl⟩:=List.mem_iff_getElem.1 hx
 have hl:=mC_len cs
 rw [List.length_tail] at ht
 have h1:=mC_drop cs (t+1) (by omega)
 have h2:=h (t+1) (by omega) (by omega)
 rw [←h1,mC_head,List.getD_cons_succ,List.getD_eq_getElem?_getD,List.getElem?_eq_getElem (by rw [List.length_tail];omega)] at h2
 simpa using h2
set_option maxHeartbeats 1000000 in
set_option maxRecDepth 100000 in
theorem s_impl_curvetteMultiplicities:Sat Try.prog 127 (c_l_lb f_cvm q_cvm):=by
 intro args ps r h hp
 unfold c_l_lb at h
 split at h
 ·rename_i a0
  simp only [Option.some.injEq,Prod.mk.injEq] at h
  obtain ⟨rfl,rfl⟩:=h
  obtain ⟨cs,hcs,hv,hl⟩:q_cvm a0:=(alls_cons.1 hp).1
  have g0:V.frzs a0=a0:=by rw [hcs,I_frzs]
  have hal:a0.length=cs.length:=by rw [hcs,I_length,natL_len]
  have ga:∀k,a0.getD k (.int .i64 0)= .int .i64 ((cs.getD k 0:Nat):Int):=fun k=>by rw [hcs,I_getD,natL_get]
  have hf0:f_cvm a0=cvm cs:=by rw [f_cvm,hcs,unI_I,int_nat]
  obtain ⟨n,hn⟩:∃n:Int,n=cs.length:=⟨_,rfl⟩
  refine fnOk_ofI (T:=tab) (B:=[(1000000002,c_alias)]) (Bi:=[]) [2000012056,0,3,4,5,6] Try.func127 rfl rfl (by kernel_rfl) (Nat.le_of_ble_eq_true rfl) mixed tabOk (by exact (bookCons s_alias bookNil)) (by exact bookINil) (by kernel_rfl) ?_
  intro L lp rr hL hr hf hlp
  conv=>cbv
  simp only [stdEqs hL,imp_self,true_and,and_true,bif_or,bif_and,Bool.or_eq_true,Bool.or_eq_false_iff,Bool.and_eq_true,Bool.and_eq_false_iff,decide_eq_true_eq,decide_eq_false_iff_not,Bool.not_eq_true',Bool.not_eq_false',beq_iff_eq,beq_eq_false_iff_ne,ne_eq,toNat0,toNat1,ok_int,toI_int,I_frzs,I_length,I_getD,ok_ints,toL_slc,g0,hal,←hn]
  rw [wrap_id (n:=n+1) (by omega) (by omega)]
  obtain ⟨s0,hs0⟩:∃s0,s0=(List.replicate (n+1).toNat (V.int IntKind.i64 0)).set n.toNat (V.int IntKind.i64 1):=⟨_,rfl⟩
  have hs00:s0=I (natL (mulA cs cs.length)):=by
   rw [hs0,mulA_start,show (n+1).toNat=cs.length+1 by omega,show n.toNat=cs.length by omega]
   have e:=rep_nat (cs.length+1)
   have e2:(List.replicate (cs.length+1) 0).set cs.length 1=List.replicate cs.length 0++[1]:=by
    rw [List.replicate_succ',List.set_append_right _ _ (by simp)]
    simp
   rw [e,I_set,show (1:Int)=((1:Nat):Int) from rfl,natL_set,e2]
  rw [←hs0]
  rw [rep_getD,List.length_replicate]
  refine ⟨by omega,by omega,by omega,by omega,by omega,by omega,rfl,?_⟩
  refine hlp (List V×Int) _ _ _ [0,4,5] (fun x=>[(0,none,.val (.slc false 2 (.int .i64 0) a0)),(4,none,.val (.slc true 2 (.int .i64 0) x.1)),(5,none,.val (.int .i64 x.2))])
   (fun x=>0≤x.2∧x.2≤n∧x.1=I (natL (mulA cs x.2.toNat))∧∀i:Nat,x.2<i→i≤cs.length→hdM (cs.drop i)≤64) (fun x=>x.2.toNat) ((s0,n)) (by subst hL;rfl) ?_ ?_
  ·exact ⟨by omega,by simp,by rw [hs00,hn];rfl,fun i h1 h2=>by simp only at h1;omega⟩
  rintro ⟨ms,j⟩ ⟨j0,j1,hM,hbd⟩ hfx ag hag
  simp only at j0 j1 hM hbd
  have hml:ms.length=cs.length+1:=by rw [hM,I_length,natL_len,mulA_len]
  have gm:∀k,ms.getD k (.int .i64 0)= .int .i64 (((mulA cs j.toNat).getD k 0:Nat):Int):=fun k=>by rw [hM,I_getD,natL_get]
  conv=>cbv
  simp only [stdEqs hL,imp_self,true_and,and_true,bif_or,bif_and,Bool.or_eq_true,Bool.or_eq_false_iff,Bool.and_eq_true,Bool.and_eq_false_iff,decide_eq_true_eq,decide_eq_false_iff_not,Bool.not_eq_true',Bool.not_eq_false',beq_iff_eq,beq_eq_false_iff_ne,ne_eq,toNat0,toNat1,ok_int,toI_int,I_frzs,I_length,I_getD,ok_ints,toL_slc,hal,ga,gm,hml]
  refine ⟨fun h2=> ?_,fun h2=> ?_⟩
  ·obtain ⟨t,ht⟩:∃t:Nat,j=t+1:=⟨(j-1).toNat,by omega⟩
   have he:j.toNat=t+1:=by omega
   have e1:IntKind.wrap .i64 (j-1)=(t:Int):=by rw [wrap_id (by omega) (by omega)];omega
   obtain ⟨A,hA⟩:∃A,A=mulA cs (t+1):=⟨_,rfl⟩
   rw [he,←hA] at hM gm
   have hsm:∀i,i≤cs.length→A.getD i 0≤1984:=fun i hi=>by
    rw [hA]
    have:=mulA_small (cs:=cs) (j:=t+1) (by omega) (fun i h1 h2=>hbd i (by omega) h2) i hi
    omega
   have hA1:A.getD (t+1) 0=hdM (cs.drop (t+1)):=by rw [hA,mulA_get (by omega),if_neg (by omega)]
   have hAl:A.length=cs.length+1:=by rw [hA,mulA_len]
   have e3:IntKind.wrap .i64 (((A.getD t 0:Nat):Int)+((A.getD (t+1) 0:Nat):Int))=((A.getD t 0+A.getD (t+1) 0:Nat):Int):=by
    have h1:=hsm t (by omega)
    have h2:=hsm (t+1) (by omega)
    rw [wrap_id (by omega) (by omega)];omega
   obtain ⟨c,hc⟩:∃c,c=cs.getD t 0:=⟨_,rfl⟩
   simp only [e1,he,←hA,Int.toNat_natCast,e3,←hc]
   refine ⟨j0,by omega,by omega,fun h3=> ?_,fun h3=>⟨by omega,by omega,by omega,by omega,by omega,by omega,by omega,by omega,by omega,by omega,by omega,fun h4=> ?_,fun h4=> ?_⟩⟩
   ·rw [hr,hf0,cvm_bad (j:=t+1) (by omega) (by omega) (by rw [←hA1];omega)]
   ·have hsat:=mulA_sat hv (j:=t) (c:=c) (by omega) hc.symm (by omega)
    rw [←hA] at hsat
    obtain ⟨hs1,hs2,hs3⟩:=hsat
    have e4:IntKind.wrap .i64 (j-(c:Int))=((t+1-c:Nat):Int):=by rw [wrap_id (by omega) (by omega)];omega
    have hset:∀i,i≠t→i<cs.length+1→(ms.set t (V.int .i64 ((A.getD t 0+A.getD (t+1) 0:Nat):Int))).getD i (.int .i64 0)= .int .i64 ((A.getD i 0:Nat):Int):=fun i hi hi2=>by
     rw [set_getK (by rw [hml];omega),if_neg hi,gm]
    simp only [e4,Int.toNat_natCast,List.length_set,hml,hset (t+1-c) (by omega) (by omega),hset (t+1) (by omega) (by omega)]
    have e5:IntKind.wrap .i64 (((A.getD (t+1-c) 0:Nat):Int)+((A.getD (t+1) 0:Nat):Int))=((A.getD (t+1-c) 0+A.getD (t+1) 0:Nat):Int):=by
     have h1:=hsm (t+1-c) (by omega)
     have h2:=hsm (t+1) (by omega)
     rw [wrap_id (by omega) (by omega)];omega
    refine ⟨by omega,by omega,by omega,rfl,by omega,by omega,by omega,rfl,by omega,by omega,by omega,rfl,?_⟩
    refine hag (_,(t:Int)) ⟨by simp only;omega,by simp only;omega,?_,fun i h5 h6=> ?_⟩ (by simp only;omega)
    ·show (ms.set t _).set (t+1-c) (V.int .i64 (IntKind.wrap .i64 (((A.getD (t+1-c) 0:Nat):Int)+((A.getD (t+1) 0:Nat):Int))))=_
     rw [e5,hM,I_set,I_set,natL_set,natL_set,hs1]
     rfl
    ·simp only at h5
     by_cases h7:i=t+1
     ·rw [h7,←hA1];omega
     ·exact hbd i (by omega) h6
   ·have hfr:=mulA_free hv (j:=t) (by omega) (by rw [←hc];omega)
    rw [←hA] at hfr
    refine hag (_,(t:Int)) ⟨by simp only;omega,by simp only;omega,?_,fun i h5 h6=> ?_⟩ (by simp only;omega)
    ·simp only
     rw [hM,I_set,natL_set,hfr]
     rfl
    ·simp only at h5
     by_cases h7:i=t+1
     ·rw [h7,←hA1];omega
     ·exact hbd i (by omega) h6
  ·have h3:j=0:=by omega
   refine ⟨by omega,by omega,by omega,?_⟩
   have e0:j.toNat=0:=by omega
   rw [e0] at hM
   rw [hr,hf0,cvm_good (fun i h1 h2=>hbd i (by omega) h2),hM,e0,mulA_end]
   have e6:decide ((((mC cs).getD 0 0:Nat):Int)≤64)=decide (hdM cs≤64):=by
    rw [hdM]
    exact decide_eq_decide.2 (by omega)
   rw [e6]
 ·cases h
end Go.Ax
