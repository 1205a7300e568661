import Derived.Test.YtopcmoaklelldaaB10p1
import Derived.Test.YtopcmoaklelldaaB04p1
/-
 Texts of branches:spec.l03Text. No conditions but those of the contracts.
-/
set_option linter.all false
namespace Go.Ax
open Go.Proofs
def sepS:UInt8→List Int→By
 |_,[]=>[]
 |c,y::l=>c::(dcm y++sepS 44 l)
theorem sepS_snoc:∀(c:UInt8) (l:List Int) (y:Int),sepS c (l++[y])=sepS c l++(if l=[] then c else 44)::dcm y
 |c,[],y=>by simp [sepS]
 |c,x::l,y=>by
  rw [List.cons_append,sepS,sepS_snoc 44 l y,sepS,if_neg (List.cons_ne_nil x l),List.cons_append,List.append_assoc,ite_self]
theorem sepS_join (c:UInt8):∀(x:Int) (l:List Int),sepS c (x::l)=c::joinL 44 ((x::l).map dcm)
 |x,[]=>by simp [sepS,joinL]
 |x,y::l=>by
  rw [sepS,sepS_join 44 y l]
  rfl
def brT (xs:List Int):By:=40::(dcm (xs.getD 0 0)++(sepS 59 (xs.drop 1)++[41]))
def f_brT (a:List V):ByteArray:=T (brT (unI a))
def okN (xs:List Int):Prop:=∀x∈xs,0≤x∧x<1000000000
def q_brT (a:List V):Prop:=∃xs,a=I xs∧xs≠[]∧xs.length≤3000000∧okN xs
theorem dcm_len9 {x:Int} (h:0≤x∧x<1000000000):(dcm x).length≤9:=dcm_len 8 x ⟨h.1,by omega,by omega⟩
theorem sepS_len:∀(c:UInt8) (l:List Int),okN l→(sepS c l).length≤10*l.length
 |_,[],_=>by simp [sepS]
 |c,y::l,h=>by
  have h1:=dcm_len9 (h y (List.mem_cons_self ..))
  have h2:=sepS_len 44 l fun x hx=>h x (List.mem_cons_of_mem _ hx)
  rw [sepS,List.length_cons,List.length_append,List.length_cons]
  omega
def c_B_s (f:List V→ByteArray) (q:List V→Prop):Contract:=fun
 |[.agg [.slc false 2 (.int .i64 0) a0]]=>some ([q a0],.str (f a0))
 |_=>none
set_option maxHeartbeats 1000000 in
set_option maxRecDepth 100000 in
theorem s_spec_l03Text:Sat Try.prog 27 (c_B_s f_brT q_brT):=by
 intro args ps r h hp
 unfold c_B_s at h
 split at h
 ·rename_i a0
  simp only [Option.some.injEq,Prod.mk.injEq] at h
  obtain ⟨rfl,rfl⟩:=h
  obtain ⟨xs,hxs,hne,hxl,hok⟩:q_brT a0:=(alls_cons.1 hp).1
  obtain ⟨n,hn⟩:∃n:Int,n=xs.length:=⟨_,rfl⟩
  have hal:(a0.length:Int)=n:=by rw [hxs,I_length,hn]
  have hpos:0<xs.length:=List.length_pos_iff.2 hne
  have hf0:f_brT a0=T (brT xs):=by rw [f_brT,hxs,unI_I]
  have hg:∀t:Nat,a0.getD t (.int .i64 0)= .int .i64 (xs.getD t 0):=fun t=>by rw [hxs,I_getD]
  generalize H_f_dcm:f_dcm=F_f_dcm
  generalize H_q_dcm:q_dcm=F_q_dcm
  refine fnOk_ofI (T:=tab) (B:=[(30,c_i_s F_f_dcm F_q_dcm)]) (Bi:=[]) [0,1,2,3,4,5] Try.func27 rfl rfl (by kernel_rfl) (Nat.le_of_ble_eq_true rfl) mixed tabOk (by subst H_f_dcm H_q_dcm;exact (bookCons s_spec_l01Dec bookNil)) (by subst H_f_dcm H_q_dcm;exact bookINil) (by kernel_rfl) ?_
  intro L lp rr hL hr hf hlp
  have Q0:∀t:Nat,t<xs.length→F_q_dcm (xs.getD t 0):=fun t ht=>by
   rw [←H_q_dcm,List.getD_eq_getElem?_getD,List.getElem?_eq_getElem ht]
   exact hok _ (List.getElem_mem _)
  have L0:∀t:Nat,t<xs.length→(F_f_dcm (xs.getD t 0)).size≤9:=fun t ht=>by
   rw [←H_f_dcm,f_dcm,T_size]
   refine dcm_len9 ?_
   rw [List.getD_eq_getElem?_getD,List.getElem?_eq_getElem ht]
   exact hok _ (List.getElem_mem _)
  conv=>cbv
  simp only [stdEqs hL,imp_self,true_and,and_true,bif_or,bif_and,Bool.or_eq_true,Bool.or_eq_false_iff,Bool.and_eq_true,Bool.and_eq_false_iff,decide_eq_true_eq,decide_eq_false_iff_not,Bool.not_eq_true',Bool.not_eq_false',beq_iff_eq,beq_eq_false_iff_ne,ne_eq,toNat0,toNat1,ok_int,toI_int,I_frzs,I_length,I_getD,ok_ints,toL_slc,hal,hg,true_and]
  refine ⟨Int.le_refl _,by omega,Q0 0 hpos,by have:=L0 0 hpos;rw [show (⟨⟨[40]⟩⟩:ByteArray).size=1 from rfl];omega,?_⟩
  rw [show (⟨⟨[40]⟩⟩:ByteArray)++F_f_dcm (xs.getD 0 0)=T (40::dcm (xs.getD 0 0)) from by rw [←H_f_dcm];exact T_app [40] _]
  obtain ⟨t0,ht0⟩:∃t0,t0=40::dcm (xs.getD 0 0):=⟨_,rfl⟩
  rw [←ht0]
  refine hlp (By×Int) _ _ _ [1,3,4] (fun x=>[(1,none,.val (.box 35 (.agg [.slc false 2 (.int .i64 0) a0]))),(3,none,.val (.str (T x.1))),(4,none,.val (.int .i64 x.2))])
   (fun x=>1≤x.2∧x.2≤n∧x.1=t0++sepS 59 ((xs.take x.2.toNat).drop 1)) (fun x=>(n-x.2).toNat) ((t0,1)) (by subst hL;rfl) ?_ ?_
  ·refine ⟨by simp,by simp only;omega,?_⟩
   have:(xs.take 1).drop 1=[]:=List.drop_eq_nil_of_le (by rw [List.length_take];omega)
   simp only
   rw [show (1:Int).toNat=1 from rfl,this,sepS,List.append_nil]
  rintro ⟨tx,x⟩ ⟨x1,x2,hx⟩ hfx ag hag
  simp only at x1 x2 hx
  obtain ⟨tv,htv⟩:∃tv,tv=T tx:=⟨_,rfl⟩
  simp only [←htv]
  conv=>cbv
  simp only [stdEqs hL,imp_self,true_and,and_true,bif_or,bif_and,Bool.or_eq_true,Bool.or_eq_false_iff,Bool.and_eq_true,Bool.and_eq_false_iff,decide_eq_true_eq,decide_eq_false_iff_not,Bool.not_eq_true',Bool.not_eq_false',beq_iff_eq,beq_eq_false_iff_ne,ne_eq,toNat0,toNat1,ok_int,toI_int,I_frzs,I_length,I_getD,ok_ints,toL_slc,hal,hg]
  have hokd:okN ((xs.take x.toNat).drop 1):=fun y hy=>hok y (List.mem_of_mem_take (List.mem_of_mem_drop hy))
  have t0l:t0.length≤10:=by
   have:=L0 0 hpos
   rw [←H_f_dcm,f_dcm,T_size] at this
   rw [ht0,List.length_cons]
   omega
  have txl:tx.length≤10+10*n:=by
   have h1:=sepS_len 59 _ hokd
   rw [List.length_drop,List.length_take] at h1
   rw [hx,List.length_append]
   omega
  have tsz:(tv.size:Int)=tx.length:=by rw [htv,T_size]
  have s59:(⟨⟨[59]⟩⟩:ByteArray).size=1:=rfl
  have s44:(⟨⟨[44]⟩⟩:ByteArray).size=1:=rfl
  have s41:(⟨⟨[41]⟩⟩:ByteArray).size=1:=rfl
  have hsn:∀h:x<n,(xs.take (x+1).toNat).drop 1=(xs.take x.toNat).drop 1++[xs.getD x.toNat 0]:=fun h=>by
   rw [toNat_succ (by omega),List.take_succ_eq_append_getElem (by omega),List.drop_append_of_le_length (by rw [List.length_take];omega),List.getD_eq_getElem?_getD,List.getElem?_eq_getElem (by omega)]
   rfl
  have hem:(xs.take x.toNat).drop 1=[]↔x=1:=by
   rw [List.drop_eq_nil_iff,List.length_take]
   omega
  have hj:∀(h:x<n) (c:UInt8),(if x=1 then 59 else 44)=c→tv++T [c]++F_f_dcm (xs.getD x.toNat 0)=T (t0++sepS 59 ((xs.take (x+1).toNat).drop 1)):=fun h c hc=>by
   have hc':(if (xs.take x.toNat).drop 1=[] then (59:UInt8) else 44)=c:=by
    by_cases e:x=1
    ·rw [if_pos (hem.2 e)];rw [if_pos e] at hc;exact hc
    ·rw [if_neg (fun h2=>e (hem.1 h2))];rw [if_neg e] at hc;exact hc
   rw [hsn h,sepS_snoc,hc',←H_f_dcm,f_dcm,htv,T_app,T_app,hx,List.append_assoc,List.append_assoc]
   rfl
  refine ⟨fun h2=>⟨fun h3=>⟨by rw [tsz,s59];omega,by omega,h2,Q0 _ (by omega),?_,?_⟩,fun h3=>⟨by rw [tsz,s44];omega,by omega,h2,Q0 _ (by omega),?_,?_⟩⟩,fun h2=>⟨by rw [tsz,s41];omega,?_⟩⟩
  ·have:=L0 x.toNat (by omega)
   rw [ByteArray.size_append,s59,Int.natCast_add,tsz];omega
  ·rw [wrap_id (n:=x+1) (by omega) (by omega),show tv++(⟨⟨[59]⟩⟩:ByteArray)++F_f_dcm (xs.getD x.toNat 0)=T (t0++sepS 59 ((xs.take (x+1).toNat).drop 1)) from hj h2 59 (if_pos h3)]
   exact hag (_,x+1) ⟨by simp only;omega,by simp only;omega,rfl⟩ (by simp only;omega)
  ·have:=L0 x.toNat (by omega)
   rw [ByteArray.size_append,s44,Int.natCast_add,tsz];omega
  ·rw [wrap_id (n:=x+1) (by omega) (by omega),show tv++(⟨⟨[44]⟩⟩:ByteArray)++F_f_dcm (xs.getD x.toNat 0)=T (t0++sepS 59 ((xs.take (x+1).toNat).drop 1)) from hj h2 44 (if_neg h3)]
   exact hag (_,x+1) ⟨by simp only;omega,by simp only;omega,rfl⟩ (by simp only;omega)
  ·rw [hr,hf0,show (⟨⟨[41]⟩⟩:ByteArray)=T [41] from rfl,htv,T_app,hx,show x.toNat=xs.length by omega,List.take_of_length_le (Nat.le_refl _),brT,ht0]
   simp only [List.cons_append,List.append_assoc]
 ·cases h
end Go.Ax
set_option linter.all false
namespace Go.Ax
open Go.Proofs
def termsB (c:By×By×Bool):List Int:=numV c.1::(if c.2.2=true then (splitL 44 c.2.1).map numV else [])
def innB (l:By):By:=(l.take (l.length-1)).drop 1
def shpB (l:By):Prop:=3≤l.length∧l.getD 0 0=40∧l.getD (l.length-1) 0=41
instance (l:By):Decidable (shpB l):=by unfold shpB;infer_instance
def parB (l:By):Option (List Int):=if shpB l∧isBr (termsB (cutL 59 (innB l)))=true then some (termsB (cutL 59 (innB l))) else none
def resB (r:Option (List Int)):List V×Int:=match r with
 |some xs=>(I xs,0)
 |none=>([],6)
def f_pbr (s:ByteArray):List V×Int:=resB (parB s.data.toList)
def c_s_Bi (f:ByteArray→List V×Int) (q:ByteArray→Prop):Contract:=fun
 |[.str a0]=>some ([q a0],.tup [.agg [.slc true 2 (.int .i64 0) ((f a0).1)],.int .i64 ((f a0).2)])
 |_=>none
theorem within_all:∀{l:List Int} {a b:Int},within l a b=true→∀x∈l,a≤x∧x≤b
 |[],_,_,_,x,hx=>by cases hx
 |y::l,a,b,h,x,hx=>by
  simp only [within,inRange,List.all_cons,Bool.and_eq_true,decide_eq_true_eq] at h
  rcases List.mem_cons.1 hx with e|e
  ·rw [e];exact h.1
  ·exact within_all h.2 x e
theorem isBr_in {xs:List Int} (h:isBr xs=true):∀x∈xs,1≤x∧x≤2000:=by
 unfold isBr at h
 cases h1:within xs 1 2000 with
 |true=>
  intro x hx
  exact within_all h1 x hx
 |false=>rw [h1] at h;simp at h
set_option maxHeartbeats 1000000 in
set_option maxRecDepth 100000 in
theorem s_impl_ParseBranch:Sat Try.prog 16 (c_s_Bi f_pbr q_dig):=by
 intro args ps r h hp
 unfold c_s_Bi at h
 split at h
 ·rename_i s
  simp only [Option.some.injEq,Prod.mk.injEq] at h
  obtain ⟨rfl,rfl⟩:=h
  have hs:q_dig s:=(alls_cons.1 hp).1
  have hs':s.size≤2000000:=hs
  obtain ⟨l,hl⟩:∃l,l=s.data.toList:=⟨_,rfl⟩
  have hsl:s=T l:=by rw [hl];exact T_of s
  have hsz:s.size=l.length:=by rw [hsl,T_size]
  have hf0:f_pbr s=resB (parB l):=by rw [f_pbr,←hl]
  obtain ⟨n,hn⟩:∃n:Int,n=l.length:=⟨_,rfl⟩
  have gs:∀i,s.data.getD i 0=l.getD i 0:=fun i=>by rw [hsl,T_get]
  generalize H_f_prt:f_prt=F_f_prt
  generalize H_q_prt:q_prt=F_q_prt
  generalize H_f_num:f_num=F_f_num
  generalize H_q_dig:q_dig=F_q_dig
  generalize H_f_nms:f_nms=F_f_nms
  generalize H_f0_isBr:f0_isBr=F_f0_isBr
  generalize H_IsIs:IsIs=F_IsIs
  refine fnOk_ofI (T:=tab) (B:=[(14,c_sc_ssb F_f_prt F_q_prt),(31,c_s_ib F_f_num F_q_dig),(17,c_sc_lb F_f_nms F_q_prt),(32,c_b_bool F_f0_isBr F_IsIs)]) (Bi:=[]) [0,2,3,4,5,6,7,8,9,10,11] Try.func16 rfl rfl (by kernel_rfl) (Nat.le_of_ble_eq_true rfl) mixed tabOk (by subst H_f_prt H_q_prt H_f_num H_q_dig H_f_nms H_f0_isBr H_IsIs;exact (bookCons s_impl_parted (bookCons s_impl_numberOf (bookCons s_impl_numbersOf (bookCons s_impl_IsBranch bookNil))))) (by subst H_f_prt H_q_prt H_f_num H_q_dig H_f_nms H_f0_isBr H_IsIs;exact bookINil) (by kernel_rfl) ?_
  intro L lp rr hL hr hf hlp
  conv=>cbv
  simp only [stdEqs hL,imp_self,true_and,and_true,bif_or,bif_and,Bool.or_eq_true,Bool.or_eq_false_iff,Bool.and_eq_true,Bool.and_eq_false_iff,decide_eq_true_eq,decide_eq_false_iff_not,Bool.not_eq_true',Bool.not_eq_false',beq_iff_eq,beq_eq_false_iff_ne,ne_eq,toNat0,toNat1,ok_int,toI_int,I_frzs,I_length,I_getD,ok_ints,toL_slc,hsz,←hn,gs]
  by_cases hn3:n<3
  ·refine ⟨fun h=>absurd hn3 h,fun h=>absurd hn3 h,fun h=>absurd hn3 h.1,fun h=>absurd hn3 h.1,fun _=> ?_,fun h=>absurd hn3 h.1.1⟩
   rw [hr,hf0,parB,if_neg (fun h=>by have:=h.1.1;omega)]
   rfl
  have hw:IntKind.wrap .i64 (n-1)=n-1:=wrap_id (by omega) (by omega)
  have hex:s.extract 1 (n-1).toNat=T (innB l):=by rw [hsl,T_ext,innB,show (n-1).toNat=l.length-1 by omega]
  rw [hw,hex]
  have b40:((l.getD 0 0).toNat:Int)=40↔l.getD 0 0=40:=byte_eq l 0 40
  have b41:((l.getD (n-1).toNat 0).toNat:Int)=41↔l.getD (l.length-1) 0=41:=by
   rw [show (n-1).toNat=l.length-1 by omega]
   exact byte_eq l _ 41
  have hml:(innB l).length≤l.length:=by rw [innB,List.length_drop,List.length_take];omega
  rw [b40,b41]
  obtain ⟨c,hc⟩:∃c,c=cutL 59 (innB l):=⟨_,rfl⟩
  have Ep:F_f_prt (T (innB l)) 59=(T c.1,T c.2.1,c.2.2):=by rw [←H_f_prt,hc];rfl
  have hshp:shpB l↔l.getD 0 0=40∧l.getD (l.length-1) 0=41:=⟨fun h=>h.2,fun h=>⟨by omega,h⟩⟩
  rw [Ep]
  simp only
  have hcl:c.1.length≤(innB l).length∧c.2.1.length≤(innB l).length:=by
   rcases cut_cases 59 (innB l) with ⟨_,h2,_⟩|⟨a,b,h1,_,h2,_⟩
   ·rw [hc,h2];exact ⟨Nat.le_refl _,Nat.zero_le _⟩
   ·rw [hc,h2,h1];simp only [List.length_append,List.length_cons];omega
  refine ⟨fun _=>Int.le_refl _,fun _=>by omega,fun _=>by omega,fun _=>by omega,fun h=> ?_,fun h=>⟨by omega,by omega,by omega,?_,?_,?_⟩⟩
  ·rw [hr,hf0,parB,if_neg (fun h2=>by
    have:=hshp.1 h2.1
    rcases h with (h|h)|h
    ·omega
    ·exact h this.1
    ·exact h this.2)]
   rfl
  ·rw [←H_q_prt];exact ⟨by rw [T_size];omega,59,rfl⟩
  ·rw [←H_q_dig];show (T c.1).size≤2000000;rw [T_size];omega
  have hpar:parB l=if isBr (termsB c)=true then some (termsB c) else none:=by
   rw [parB,←hc]
   by_cases e:isBr (termsB c)=true
   ·rw [if_pos ⟨hshp.2 ⟨h.1.2,h.2⟩,e⟩,if_pos e]
   ·rw [if_neg (fun h2=>e h2.2),if_neg e]
  have hno:isBr (termsB c)=false→rr=V.tup [.agg [.slc true 2 (.int .i64 0) []],.int .i64 6]:=fun e=>by
   rw [hr,hf0,hpar,if_neg (by rw [e];simp)]
   rfl
  have hyes:isBr (termsB c)=true→rr=V.tup [.agg [.slc true 2 (.int .i64 0) (I (termsB c))],.int .i64 0]:=fun e=>by
   rw [hr,hf0,hpar,if_pos e]
   rfl
  have hmem:∀w,canon w=false→numV w∈termsB c→isBr (termsB c)=false:=fun w hw hm=>by
   cases e:isBr (termsB c) with
   |false=>rfl
   |true=>
    have:=(isBr_in e _ hm).1
    rw [numV,if_neg (by rw [hw];simp)] at this
    omega
  obtain ⟨n1,n2⟩:=num_of (s:=T c.1)
  rw [show (T c.1).data.toList=c.1 from rfl,H_f_num] at n1 n2
  have Es:F_f_nms (T c.2.1) 44=(I (numsL (splitL 44 c.2.1)).1,(numsL (splitL 44 c.2.1)).2):=by rw [←H_f_nms];rfl
  have sl:=split_len 44 c.2.1
  have Eb:∀xs,F_f0_isBr (I xs)=isBr xs:=fun xs=>by rw [←H_f0_isBr,f0_isBr,unI_I]
  have Ei:∀xs:List Int,xs.length≤2147483647→F_IsIs (I xs):=fun xs hx=>by rw [←H_IsIs];exact ⟨⟨xs,rfl⟩,by rw [I_length];exact hx⟩
  have ei1:∀x:Int,[V.int .i64 x]=I [x]:=fun x=>rfl
  obtain ⟨nv,hnv⟩:∃nv,nv=(F_f_num (T c.1)).1:=⟨_,rfl⟩
  have En:F_f_num (T c.1)=(nv,canon c.1):=by rw [hnv];exact Prod.ext rfl n1
  rw [←hnv] at n2
  rw [En,Es]
  simp only [ei1,I_append,I_frzs,Eb,I_length,List.length_singleton]
  cases e1:canon c.1 with
  |false=>
   have e2:isBr (termsB c)=false:=hmem _ e1 (List.mem_cons_self ..)
   exact ⟨fun h=>by simp at h,fun _=>⟨fun h=>by simp at h,fun _=>(hno e2).symm,fun h=>by simp at h⟩⟩
  |true=>
   rw [n2 e1]
   refine ⟨fun h1=> ?_,fun h1=> ?_⟩
   ·have ht:termsB c=numV c.1::(splitL 44 c.2.1).map numV:=by rw [termsB,if_pos h1.2]
    have hnl:(numsL (splitL 44 c.2.1)).1.length≤(splitL 44 c.2.1).length:=by
     rw [numsL]
     split
     ·rw [List.length_map];exact Nat.le_refl _
     ·exact Nat.zero_le _
    have hgood:(numsL (splitL 44 c.2.1)).2=true→[numV c.1]++(numsL (splitL 44 c.2.1)).1=termsB c:=fun h2=>by
     rw [ht]
     rw [numsL] at h2 ⊢
     split at h2
     ·rename_i h3;rw [if_pos h3];rfl
     ·cases h2
    have hbad:(numsL (splitL 44 c.2.1)).2=false→isBr (termsB c)=false:=fun h2=>by
     rw [numsL] at h2
     split at h2
     ·cases h2
     ·rename_i h3
      obtain ⟨w,hw1,hw2⟩:∃w∈splitL 44 c.2.1,canon w=false:=by
       refine Classical.byContradiction fun hx=>h3 (List.all_eq_true.2 fun w hw1=> ?_)
       cases h4:canon w with
       |true=>rfl
       |false=>exact absurd ⟨w,hw1,h4⟩ hx
      refine hmem w hw2 ?_
      rw [ht]
      exact List.mem_cons_of_mem _ (List.mem_map_of_mem hw1)
    refine ⟨?_,I_owneds _,?_,I_solid _,fun h2=> ?_,fun h2=> ?_,fun h2=> ?_⟩
    ·rw [←H_q_prt];exact ⟨by rw [T_size];omega,44,rfl⟩
    ·omega
    ·refine Ei _ ?_
     rw [List.length_append,List.length_singleton];omega
    ·rcases h2 with h2|h2
     ·exact (hno (hbad h2)).symm
     ·cases h3:(numsL (splitL 44 c.2.1)).2 with
      |false=>exact (hno (hbad h3)).symm
      |true=>rw [hgood h3] at h2;exact (hno h2).symm
    ·rw [hgood h2.1] at h2 ⊢
     exact (hyes h2.2).symm
   ·have h1':c.2.2=false:=by
     rcases h1 with h1|h1
     ·cases h1
     ·exact h1
    have ht:termsB c=[numV c.1]:=by rw [termsB,if_neg (by rw [h1'];simp)]
    rw [ht] at hno hyes
    refine ⟨fun _=>Ei _ (by simp),fun h2=> ?_,fun h2=>(hyes h2.2).symm⟩
    rcases h2 with h2|h2
    ·cases h2
    ·exact (hno h2).symm
 ·cases h
end Go.Ax
