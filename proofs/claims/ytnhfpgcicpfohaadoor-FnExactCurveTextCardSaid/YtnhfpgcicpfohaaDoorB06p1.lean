import Derived.Test.YtnhfpgcicpfohaaDoorB05p1
import Derived.Test.YtnhfpgcicpfohaaDoorB03p1
/-
 Texts:spec.l01Split,l01Value,l01Dec,l03Text. No conditions but those of the contracts.
-/
set_option linter.all false
namespace Go.Ax
open Go.Proofs
theorem dcmF_one (f:Nat) (n:Int):dcmF (f+1) n=if n<10 then [UInt8.ofNat (48+n).toNat] else dcmF f (n.tdiv 10)++[UInt8.ofNat (48+n.tmod 10).toNat]:=rfl
theorem dcmF_mono:∀(f g:Nat) (n:Int),0≤n→n<10^(f+1)→n<10^(g+1)→dcmF (f+1) n=dcmF (g+1) n
 |0,g,n,h0,h1,_=>by
  rw [dcmF_one 0,dcmF_one g,if_pos (by omega),if_pos (by omega)]
 |f+1,0,n,h0,_,h2=>by
  rw [dcmF_one (f+1),dcmF_one 0,if_pos (by omega),if_pos (by omega)]
 |f+1,g+1,n,h0,h1,h2=>by
  rw [dcmF_one (f+1),dcmF_one (g+1)]
  split
  ·rfl
  ·rw [Int.pow_succ] at h1 h2
   have e:n.tdiv 10=n/10:=Int.tdiv_eq_ediv_of_nonneg h0
   rw [dcmF_mono f g (n.tdiv 10) (by rw [e];omega) (by rw [e];omega) (by rw [e];omega)]
theorem dcm_step {n:Int} (h0:0≤n) (h1:n<10000000000):dcm n=if n<10 then [UInt8.ofNat (48+n).toNat] else dcm (n.tdiv 10)++[UInt8.ofNat (48+n.tmod 10).toNat]:=by
 have e:n.tdiv 10=n/10:=Int.tdiv_eq_ediv_of_nonneg h0
 rw [dcm,dcm,dcmF_mono 19 18 (n.tdiv 10) (by rw [e];omega) (by rw [e];omega) (by rw [e];omega)]
 exact dcmF_one 19 n
def f_dcm (n:Int):ByteArray:=T (dcm n)
def q_dec (m:Nat) (n:Int):Prop:=0≤n∧n<10^(m+1)∧m≤8
theorem dcm_len:∀(m:Nat) (n:Int),q_dec m n→(dcm n).length≤m+1
 |0,n,h=>by rw [dcm_step h.1 (by have:=h.2.1;omega),if_pos (by have:=h.2.1;omega)];simp
 |m+1,n,h=>by
  obtain ⟨h0,h1,h2⟩:=h
  have hb:(10:Int)^(m+1+1)≤10^9:=by
   have:(10:Nat)^(m+1+1)≤10^9:=Nat.pow_le_pow_right (by omega) (by omega)
   exact_mod_cast this
  rw [dcm_step h0 (by omega)]
  split
  ·simp
  ·have e:n.tdiv 10=n/10:=Int.tdiv_eq_ediv_of_nonneg h0
   rw [Int.pow_succ] at h1
   have:=dcm_len m (n.tdiv 10) ⟨by rw [e];omega,by rw [e];omega,by omega⟩
   rw [List.length_append];simp only [List.length_cons,List.length_nil];omega
def c_i_s (f:Int→ByteArray) (q:Int→Prop):Contract:=fun
 |[.int .i64 a0]=>some ([q a0],.str (f a0))
 |_=>none
theorem str_one (x:Int) (h0:0≤x) (h1:x≤255):bytesV [.int .u8 x]=T [UInt8.ofNat x.toNat]∧bytesOk [.int .u8 x]:=by
 refine ⟨rfl,fun y hy=> ?_⟩
 simp only [List.mem_singleton] at hy
 exact ⟨x,hy⟩
set_option maxHeartbeats 1000000 in
set_option maxRecDepth 100000 in
theorem s_dec_step (m:Nat) (qq:Int→Prop) (ih:Sat Tryd.prog 25 (c_i_s f_dcm qq)) (hqq:∀m' n,m=m'+1→q_dec m' n→qq n):Sat Tryd.prog 25 (c_i_s f_dcm (q_dec m)):=by
 intro args ps r h hp
 unfold c_i_s at h
 split at h
 ·rename_i n
  simp only [Option.some.injEq,Prod.mk.injEq] at h
  obtain ⟨rfl,rfl⟩:=h
  obtain ⟨h0,h1,h2⟩:q_dec m n:=(alls_cons.1 hp).1
  have hb:(10:Int)^(m+1)≤10^9:=by
   have:(10:Nat)^(m+1)≤10^9:=Nat.pow_le_pow_right (by omega) (by omega)
   exact_mod_cast this
  have hst:=dcm_step h0 (by omega)
  generalize H_f_dcm:f_dcm=F_f_dcm
  generalize H_qq:qq=F_qq
  refine fnOk_ofI (T:=tab) (B:=[(25,c_i_s F_f_dcm F_qq)]) (Bi:=[]) [0,2] Tryd.func25 rfl rfl (by kernel_rfl) (Nat.le_of_ble_eq_true rfl) mixed tabOk (by subst H_f_dcm H_qq;exact (bookCons ih bookNil)) (by subst H_f_dcm H_qq;exact bookINil) (by kernel_rfl) ?_
  intro L lp rr hL hr hf hlp
  conv=>cbv
  simp only [stdEqs hL,imp_self,true_and,and_true,bif_or,bif_and,Bool.or_eq_true,Bool.or_eq_false_iff,Bool.and_eq_true,Bool.and_eq_false_iff,decide_eq_true_eq,decide_eq_false_iff_not,Bool.not_eq_true',Bool.not_eq_false',beq_iff_eq,beq_eq_false_iff_ne,ne_eq,toNat0,toNat1,ok_int,toI_int,I_frzs,I_length,I_getD,ok_ints,toL_slc,true_and]
  have e:=Int.tdiv_eq_ediv_of_nonneg (b:=10) h0
  have e':=Int.tmod_eq_emod_of_nonneg (b:=10) h0
  refine ⟨fun h=> ?_,fun h=> ?_⟩
  ·rw [wrap_id (n:=48+n) (by omega) (by omega),u8_id (by omega) (by omega)]
   obtain ⟨o1,o2⟩:=str_one (48+n) (by omega) (by omega)
   refine ⟨o2,?_⟩
   rw [hr,←H_f_dcm,f_dcm,o1,hst,if_pos h]
  ·rw [wrap_id (n:=48+n.tmod 10) (by omega) (by omega),u8_id (by omega) (by omega),wrap_id (n:=n.tdiv 10) (by omega) (by omega)]
   obtain ⟨o1,o2⟩:=str_one (48+n.tmod 10) (by omega) (by omega)
   obtain ⟨m',rfl⟩:∃m',m=m'+1:=⟨m-1,by
    cases m with
    |zero=>omega
    |succ k=>rfl⟩
   rw [Int.pow_succ] at h1
   have hq:q_dec m' (n.tdiv 10):=⟨by omega,by omega,by omega⟩
   have hl:=dcm_len m' _ hq
   refine ⟨by omega,by rw [←H_qq];exact hqq m' _ rfl hq,by omega,o2,?_,?_⟩
   ·rw [←H_f_dcm,f_dcm,o1,T_size,T_size]
    simp only [List.length_cons,List.length_nil]
    omega
   ·rw [hr,←H_f_dcm,f_dcm,f_dcm,o1,hst,if_neg h,T_app]
 ·cases h
def q_dec0 (_:Int):Prop:=False
theorem s_dec_none:Sat Tryd.prog 25 (c_i_s f_dcm q_dec0):=by
 intro args ps r h hp
 unfold c_i_s at h
 split at h
 ·simp only [Option.some.injEq,Prod.mk.injEq] at h
  obtain ⟨rfl,rfl⟩:=h
  exact ((alls_cons.1 hp).1:False).elim
 ·cases h
theorem s_dec_all:∀m:Nat,Sat Tryd.prog 25 (c_i_s f_dcm (q_dec m))
 |0=>s_dec_step 0 q_dec0 s_dec_none fun m' _ h=>by omega
 |m+1=>s_dec_step (m+1) (q_dec m) (s_dec_all m) fun m' _ h hq=>by
  have:m'=m:=by omega
  rw [this] at hq
  exact hq
def q_dcm (n:Int):Prop:=0≤n∧n<1000000000
theorem s_spec_l01Dec:Sat Tryd.prog 25 (c_i_s f_dcm q_dcm):=by
 intro args ps r h hp
 have h0:=h
 unfold c_i_s at h
 split at h
 ·rename_i a0
  simp only [Option.some.injEq,Prod.mk.injEq] at h
  obtain ⟨rfl,rfl⟩:=h
  obtain ⟨k1,k2⟩:q_dcm a0:=(alls_cons.1 hp).1
  exact s_dec_all 8 _ _ _ rfl (alls_cons.2 ⟨⟨k1,by omega,by omega⟩,fun q hq=>by cases hq⟩)
 ·cases h
end Go.Ax
set_option linter.all false
namespace Go.Ax
open Go.Proofs
def sepS:UInt8→List Int→By
 |_,[]=>[]
 |c,y::l=>c::(dcm y++sepS 44 l)
theorem sepS_snoc:∀(c:UInt8) (l:List Int) (y:Int),sepS c (l++[y])=sepS c l++(if l=[] then c else 44)::dcm y
 |c,[],y=>by simp [sepS]
 |c,x::l,y=>by
  rw [List.cons_append,sepS,sepS_snoc 44 l y,sepS,if_neg (List.cons_ne_nil x l),List.cons_append,List.append_assoc,ite_self]
theorem sepS_join (c:UInt8):∀(x:Int) (l:List Int),sepS c (x::l)=c::joinL 44 ((x::l).map dcm)
 |x,[]=>by simp [sepS,joinL]
 |x,y::l=>by
  rw [sepS,sepS_join 44 y l]
  rfl
def brT (xs:List Int):By:=40::(dcm (xs.getD 0 0)++(sepS 59 (xs.drop 1)++[41]))
def f_brT (a:List V):ByteArray:=T (brT (unI a))
def okN (xs:List Int):Prop:=∀x∈xs,0≤x∧x<1000000000
def q_brT (a:List V):Prop:=∃xs,a=I xs∧xs≠[]∧xs.length≤3000000∧okN xs
theorem dcm_len9 {x:Int} (h:0≤x∧x<1000000000):(dcm x).length≤9:=dcm_len 8 x ⟨h.1,by omega,by omega⟩
theorem sepS_len:∀(c:UInt8) (l:List Int),okN l→(sepS c l).length≤10*l.length
 |_,[],_=>by simp [sepS]
 |c,y::l,h=>by
  have h1:=dcm_len9 (h y (List.mem_cons_self ..))
  have h2:=sepS_len 44 l fun x hx=>h x (List.mem_cons_of_mem _ hx)
  rw [sepS,List.length_cons,List.length_append,List.length_cons]
  omega
def c_B_s (f:List V→ByteArray) (q:List V→Prop):Contract:=fun
 |[.agg [.slc false 2 (.int .i64 0) a0]]=>some ([q a0],.str (f a0))
 |_=>none
set_option maxHeartbeats 1000000 in
set_option maxRecDepth 100000 in
theorem s_spec_l03Text:Sat Tryd.prog 24 (c_B_s f_brT q_brT):=by
 intro args ps r h hp
 unfold c_B_s at h
 split at h
 ·rename_i a0
  simp only [Option.some.injEq,Prod.mk.injEq] at h
  obtain ⟨rfl,rfl⟩:=h
  obtain ⟨xs,hxs,hne,hxl,hok⟩:q_brT a0:=(alls_cons.1 hp).1
  obtain ⟨n,hn⟩:∃n:Int,n=xs.length:=⟨_,rfl⟩
  have hal:(a0.length:Int)=n:=by rw [hxs,I_length,hn]
  have hpos:0<xs.length:=List.length_pos_iff.2 hne
  have hf0:f_brT a0=T (brT xs):=by rw [f_brT,hxs,unI_I]
  have hg:∀t:Nat,a0.getD t (.int .i64 0)= .int .i64 (xs.getD t 0):=fun t=>by rw [hxs,I_getD]
  generalize H_f_dcm:f_dcm=F_f_dcm
  generalize H_q_dcm:q_dcm=F_q_dcm
  refine fnOk_ofI (T:=tab) (B:=[(25,c_i_s F_f_dcm F_q_dcm)]) (Bi:=[]) [0,1,2,3,4,5] Tryd.func24 rfl rfl (by kernel_rfl) (Nat.le_of_ble_eq_true rfl) mixed tabOk (by subst H_f_dcm H_q_dcm;exact (bookCons s_spec_l01Dec bookNil)) (by subst H_f_dcm H_q_dcm;exact bookINil) (by kernel_rfl) ?_
  intro L lp rr hL hr hf hlp
  have Q0:∀t:Nat,t<xs.length→F_q_dcm (xs.getD t 0):=fun t ht=>by
   rw [←H_q_dcm,List.getD_eq_getElem?_getD,List.getElem?_eq_getElem ht]
   exact hok _ (List.getElem_mem _)
  have L0:∀t:Nat,t<xs.length→(F_f_dcm (xs.getD t 0)).size≤9:=fun t ht=>by
   rw [←H_f_dcm,f_dcm,T_size]
   refine dcm_len9 ?_
   rw [List.getD_eq_getElem?_getD,List.getElem?_eq_getElem ht]
   exact hok _ (List.getElem_mem _)
  conv=>cbv
  simp only [stdEqs hL,imp_self,true_and,and_true,bif_or,bif_and,Bool.or_eq_true,Bool.or_eq_false_iff,Bool.and_eq_true,Bool.and_eq_false_iff,decide_eq_true_eq,decide_eq_false_iff_not,Bool.not_eq_true',Bool.not_eq_false',beq_iff_eq,beq_eq_false_iff_ne,ne_eq,toNat0,toNat1,ok_int,toI_int,I_frzs,I_length,I_getD,ok_ints,toL_slc,hal,hg,true_and]
  refine ⟨Int.le_refl _,by omega,Q0 0 hpos,by have:=L0 0 hpos;rw [show (⟨⟨[40]⟩⟩:ByteArray).size=1 from rfl];omega,?_⟩
  rw [show (⟨⟨[40]⟩⟩:ByteArray)++F_f_dcm (xs.getD 0 0)=T (40::dcm (xs.getD 0 0)) from by rw [←H_f_dcm];exact T_app [40] _]
  obtain ⟨t0,ht0⟩:∃t0,t0=40::dcm (xs.getD 0 0):=⟨_,rfl⟩
  rw [←ht0]
  refine hlp (By×Int) _ _ _ [1,3,4] (fun x=>[(1,none,.val (.box 49 (.agg [.slc false 2 (.int .i64 0) a0]))),(3,none,.val (.str (T x.1))),(4,none,.val (.int .i64 x.2))])
   (fun x=>1≤x.2∧x.2≤n∧x.1=t0++sepS 59 ((xs.take x.2.toNat).drop 1)) (fun x=>(n-x.2).toNat) ((t0,1)) (by subst hL;rfl) ?_ ?_
  ·refine ⟨by simp,by simp only;omega,?_⟩
   have:(xs.take 1).drop 1=[]:=List.drop_eq_nil_of_le (by rw [List.length_take];omega)
   simp only
   rw [show (1:Int).toNat=1 from rfl,this,sepS,List.append_nil]
  rintro ⟨tx,x⟩ ⟨x1,x2,hx⟩ hfx ag hag
  simp only at x1 x2 hx
  obtain ⟨tv,htv⟩:∃tv,tv=T tx:=⟨_,rfl⟩
  simp only [←htv]
  conv=>cbv
  simp only [stdEqs hL,imp_self,true_and,and_true,bif_or,bif_and,Bool.or_eq_true,Bool.or_eq_false_iff,Bool.and_eq_true,Bool.and_eq_false_iff,decide_eq_true_eq,decide_eq_false_iff_not,Bool.not_eq_true',Bool.not_eq_false',beq_iff_eq,beq_eq_false_iff_ne,ne_eq,toNat0,toNat1,ok_int,toI_int,I_frzs,I_length,I_getD,ok_ints,toL_slc,hal,hg]
  have hokd:okN ((xs.take x.toNat).drop 1):=fun y hy=>hok y (List.mem_of_mem_take (List.mem_of_mem_drop hy))
  have t0l:t0.length≤10:=by
   have:=L0 0 hpos
   rw [←H_f_dcm,f_dcm,T_size] at this
   rw [ht0,List.length_cons]
   omega
  have txl:tx.length≤10+10*n:=by
   have h1:=sepS_len 59 _ hokd
   rw [List.length_drop,List.length_take] at h1
   rw [hx,List.length_append]
   omega
  have tsz:(tv.size:Int)=tx.length:=by rw [htv,T_size]
  have s59:(⟨⟨[59]⟩⟩:ByteArray).size=1:=rfl
  have s44:(⟨⟨[44]⟩⟩:ByteArray).size=1:=rfl
  have s41:(⟨⟨[41]⟩⟩:ByteArray).size=1:=rfl
  have hsn:∀h:x<n,(xs.take (x+1).toNat).drop 1=(xs.take x.toNat).drop 1++[xs.getD x.toNat 0]:=fun h=>by
   rw [toNat_succ (by omega),List.take_succ_eq_append_getElem (by omega),List.drop_append_of_le_length (by rw [List.length_take];omega),List.getD_eq_getElem?_getD,List.getElem?_eq_getElem (by omega)]
   rfl
  have hem:(xs.take x.toNat).drop 1=[]↔x=1:=by
   rw [List.drop_eq_nil_iff,List.length_take]
   omega
  have hj:∀(h:x<n) (c:UInt8),(if x=1 then 59 else 44)=c→tv++T [c]++F_f_dcm (xs.getD x.toNat 0)=T (t0++sepS 59 ((xs.take (x+1).toNat).drop 1)):=fun h c hc=>by
   have hc':(if (xs.take x.toNat).drop 1=[] then (59:UInt8) else 44)=c:=by
    by_cases e:x=1
    ·rw [if_pos (hem.2 e)];rw [if_pos e] at hc;exact hc
    ·rw [if_neg (fun h2=>e (hem.1 h2))];rw [if_neg e] at hc;exact hc
   rw [hsn h,sepS_snoc,hc',←H_f_dcm,f_dcm,htv,T_app,T_app,hx,List.append_assoc,List.append_assoc]
   rfl
  refine ⟨fun h2=>⟨fun h3=>⟨by rw [tsz,s59];omega,by omega,h2,Q0 _ (by omega),?_,?_⟩,fun h3=>⟨by rw [tsz,s44];omega,by omega,h2,Q0 _ (by omega),?_,?_⟩⟩,fun h2=>⟨by rw [tsz,s41];omega,?_⟩⟩
  ·have:=L0 x.toNat (by omega)
   rw [ByteArray.size_append,s59,Int.natCast_add,tsz];omega
  ·rw [wrap_id (n:=x+1) (by omega) (by omega),show tv++(⟨⟨[59]⟩⟩:ByteArray)++F_f_dcm (xs.getD x.toNat 0)=T (t0++sepS 59 ((xs.take (x+1).toNat).drop 1)) from hj h2 59 (if_pos h3)]
   exact hag (_,x+1) ⟨by simp only;omega,by simp only;omega,rfl⟩ (by simp only;omega)
  ·have:=L0 x.toNat (by omega)
   rw [ByteArray.size_append,s44,Int.natCast_add,tsz];omega
  ·rw [wrap_id (n:=x+1) (by omega) (by omega),show tv++(⟨⟨[44]⟩⟩:ByteArray)++F_f_dcm (xs.getD x.toNat 0)=T (t0++sepS 59 ((xs.take (x+1).toNat).drop 1)) from hj h2 44 (if_neg h3)]
   exact hag (_,x+1) ⟨by simp only;omega,by simp only;omega,rfl⟩ (by simp only;omega)
  ·rw [hr,hf0,show (⟨⟨[41]⟩⟩:ByteArray)=T [41] from rfl,htv,T_app,hx,show x.toNat=xs.length by omega,List.take_of_length_le (Nat.le_refl _),brT,ht0]
   simp only [List.cons_append,List.append_assoc]
 ·cases h
end Go.Ax
set_option linter.all false
namespace Go.Ax
open Go.Proofs
def shpB (l:By):Prop:=3≤l.length∧l.getD 0 0=40∧l.getD (l.length-1) 0=41
instance (l:By):Decidable (shpB l):=by unfold shpB;infer_instance
theorem within_all:∀{l:List Int} {a b:Int},within l a b=true→∀x∈l,a≤x∧x≤b
 |[],_,_,_,x,hx=>by cases hx
 |y::l,a,b,h,x,hx=>by
  simp only [within,inRange,List.all_cons,Bool.and_eq_true,decide_eq_true_eq] at h
  rcases List.mem_cons.1 hx with e|e
  ·rw [e];exact h.1
  ·exact within_all h.2 x e
theorem isBr_in {xs:List Int} (h:isBr xs=true):∀x∈xs,1≤x∧x≤2000:=by
 unfold isBr at h
 cases h1:within xs 1 2000 with
 |true=>
  intro x hx
  exact within_all h1 x hx
 |false=>rw [h1] at h;simp at h
end Go.Ax
set_option linter.all false
namespace Go.Ax
open Go.Proofs
end Go.Ax
set_option linter.all false
namespace Go.Ax
open Go.Proofs
structure Gr (ws:List Int) (es:List (List Int)):Prop where
 is:isGr ws es=true
 n1:1≤ws.length
 n2:ws.length≤40
 wlo:∀i,i<ws.length→-1000≤ws.getD i 0∧ws.getD i 0≤1000
 eok:edsOk ws.length none es=true
 ed:∀e∈es,EdIn ws.length e
 lt:∀e∈es,e0 e<e1 e
 el:es.length<ws.length
 acyc:acy (iota ws.length) es=true
def adj (es:List (List Int)) (i j:Nat):Bool:=es.any fun e=>(e0 e==i&&e1 e==j)||(e0 e==j&&e1 e==i)
def ent (ws:List Int) (es:List (List Int)) (i j:Nat):Int:=if i=j then ws.getD i 0 else if adj es i j=true then 1 else 0
theorem tab_set {α:Type} (f:Nat→α) (n i:Nat) (y:α):(tab' f n).set i y=tab' (fun j=>if j=i then y else f j) n:=by
 apply List.ext_getElem?
 intro j
 by_cases hj:j<n
 ·rw [tab_get? _ _ _ hj,List.getElem?_set]
  by_cases hij:i=j
  ·subst hij
   rw [if_pos rfl,if_pos (by rw [tab_len];exact hj),if_pos rfl]
  ·rw [if_neg hij,tab_get? _ _ _ hj,if_neg (fun h=>hij h.symm)]
 ·rw [List.getElem?_eq_none (by rw [List.length_set,tab_len];omega),List.getElem?_eq_none (by rw [tab_len];omega)]
end Go.Ax
