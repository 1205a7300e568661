import Derived.Test.YtnhfpgcicpfohaaDoorB08p1
/-
 Proximate points and codes of branches. No conditions but those of the contracts.
-/
set_option linter.all false
namespace Go.Ax
open Go.Proofs
theorem dvGo_at:∀(l:List Int) (d:Int) (i:Nat),i<l.length→(dvGo d l).getD i 0=gcdW (if i=0 then d else (dvGo d l).getD (i-1) 0) (l.getD i 0)
 |[],_,i,h=>by simp at h
 |t::l,d,0,_=>rfl
 |t::l,d,1,h=>by
  have:=dvGo_at l (gcdW d t) 0 (by simpa using h)
  simpa [dvGo] using this
 |t::l,d,i+2,h=>by
  have:=dvGo_at l (gcdW d t) (i+1) (by simp at h;omega)
  simpa [dvGo] using this
theorem gcdW_nat {a b:Int} (ha:0<a) (hb:0<b):gcdW a b=(Nat.gcd a.toNat b.toNat:Int):=by
 rw [gcdW,absW_pos ha,absW_pos hb,gcdGo_eq _ a b (Nat.le_refl _) (by omega) (by omega)]
def ddN (xs:List Int) (i:Nat):Nat:=((dv xs).getD i 0).toNat
def kkN (xs:List Int) (i:Nat):Nat:=(kkI xs i).toNat
theorem ddN_gcd {xs:List Int} (h:Br xs) {i:Nat} (hi:i+1<xs.length):ddN xs (i+1)=Nat.gcd (ddN xs i) (xs.getD (i+1) 0).toNat:=by
 have h1:=dvGo_at xs 0 (i+1) hi
 have h2:=h.dpos i (by omega)
 have h3:=h.low (i+1) hi
 rw [if_neg (by omega),show i+1-1=i by omega] at h1
 have h4:(dv xs).getD (i+1) 0=gcdW ((dv xs).getD i 0) (xs.getD (i+1) 0):=h1
 rw [gcdW_nat (by omega) (by omega)] at h4
 rw [ddN,h4,Int.toNat_natCast,ddN]
theorem ddN_dvd {xs:List Int} (h:Br xs):∀{i:Nat},i<xs.length→ddN xs i ∣ (xs.getD i 0).toNat
 |0,_=>by rw [ddN,h.d0];exact Nat.dvd_refl _
 |i+1,hi=>by rw [ddN_gcd h hi];exact Nat.gcd_dvd_right _ _
theorem ddN_kk {xs:List Int} (h:Br xs) {i:Nat} (hi:i+1<xs.length):Nat.gcd (ddN xs i) (kkN xs i)=ddN xs (i+1):=by
 rw [ddN_gcd h hi,kkN,kkI]
 by_cases h0:i=0
 ·rw [if_pos h0]
  congr 1
  omega
 ·rw [if_neg h0]
  obtain ⟨c,hc⟩:=ddN_dvd h (i:=i) (by omega)
  have h1:=h.up i hi
  have h2:=h.low i (by omega)
  rw [show (xs.getD (i+1) 0).toNat=(xs.getD (i+1) 0-xs.getD i 0).toNat+ddN xs i*c by omega,Nat.mul_comm (ddN xs i) c,Nat.gcd_add_mul_right_right]
def blk (xs:List Int) (i:Nat):Nat→List (Nat×Nat)
 |0=>[]
 |n+1=>(kkN xs i,ddN xs i)::blk xs (i+1) n
theorem blk_chain {xs:List Int} (h:Br xs):∀(n i:Nat),i+n+1=xs.length→Chain (ddN xs i) (blk xs i n)
 |0,i,hi=>by
  have:=h.dlast
  rw [show xs.length-1=i by omega] at this
  show ddN xs i=1
  rw [ddN,this];rfl
 |n+1,i,hi=>by
  have:=h.dpos i (by omega)
  refine ⟨rfl,by rw [ddN];omega,?_⟩
  rw [ddN_kk h (by omega)]
  exact blk_chain h n (i+1) (by omega)
def nat2 (l:List Nat):List Int:=l.map fun (n:Nat)=>(n:Int)
theorem blk_seq (xs:List Int):∀(n i:Nat),nat2 (blocks (blk xs i n))=(List.range' i n).flatMap (runI xs)
 |0,i=>rfl
 |n+1,i=>by
  have:=blk_seq xs n (i+1)
  rw [List.range'_succ,List.flatMap_cons,←this,blk,blocks,nat2,List.map_append]
  rfl
def mulN (xs:List Int):List Nat:=blocks (blk xs 0 (xs.length-1))
def mul (xs:List Int) (i:Nat):Nat:=(mulN xs).getD i 1
theorem seqI_mul (xs:List Int):seqI xs=nat2 (mulN xs):=by
 rw [mulN,blk_seq,seqI,seqP,List.range_eq_range']
theorem seqI_get (xs:List Int) (i:Nat):(seqI xs).getD i 1=mul xs i:=by
 rw [seqI_mul,nat2,mul,List.getD_eq_getElem?_getD,List.getD_eq_getElem?_getD,List.getElem?_map]
 cases (mulN xs)[i]? <;>rfl
theorem mul_good {xs:List Int} (h:Br xs):GoodM (mul xs)∧mul xs 0≤64:=by
 have h1:=h.pos
 have hc:=blk_chain h (xs.length-1) 0 (by omega)
 obtain ⟨g1,g2,_⟩:=blocks_good _ _ hc
 refine ⟨goodM_of g1,Nat.le_trans g2 ?_⟩
 have:=h.dhi 0 h1
 rw [ddN];omega
theorem mul_le {xs:List Int} (h:Br xs):∀i,mul xs i≤64
 |0=>(mul_good h).2
 |i+1=>Nat.le_trans ((mul_good h).1.fall i) (mul_le h i)
theorem firstK_mul (xs:List Int) (k:Nat):firstK xs k=tab' (fun i=>(mul xs i:Int)) k:=tab_congr fun i _=>seqI_get xs i
def prx (M:Nat→Nat) (i j:Nat):Bool:=decide (sumM M i (j-i)≤M i)
def prs (M:Nat→Nat) (i j:Nat):List Nat:=(List.range (min i j)).filter fun a=>prx M a j
theorem prs_same {M:Nat→Nat} {i j:Nat} (h:j≤i):prs M (i+1) j=prs M i j:=by
 rw [prs,prs,show min (i+1) j=min i j by omega]
theorem prs_step {M:Nat→Nat} {i j:Nat} (h:i<j):prs M (i+1) j=prs M i j++(if sumM M i (j-i)≤M i then [i] else []):=by
 rw [prs,prs,show min (i+1) j=i+1 by omega,show min i j=i by omega,List.range_succ,List.filter_append]
 congr 1
 by_cases hp:sumM M i (j-i)≤M i<;>simp [prx,hp]
theorem prx_mono {M:Nat→Nat} (h:GoodM M) {i j j':Nat} (hij:i<j) (hj:j≤j') (hn:¬sumM M i (j-i)≤M i):¬sumM M i (j'-i)≤M i:=by
 by_cases e:j=j'
 ·subst e;exact hn
 ·have:=sumM_mono h i (k:=j-i) (k':=j'-i) (by omega)
  omega
def cd (M:Nat→Nat) (i j:Nat):Int:=match prs M (min i (j-1)) j with
 |[]=>0
 |a::_=>(j:Int)-a
theorem cd_step {M:Nat→Nat} (h:GoodM M) {i j:Nat} (hij:i+1<j) (hp:sumM M i (j-i)≤M i):cd M (i+1) j=(j:Int)-i:=by
 have h1:prs M i j=[]:=by
  cases hh:prs M i j with
  |nil=>rfl
  |cons a l=>
   have ha:a∈prs M i j:=by rw [hh];simp
   simp only [prs,List.mem_filter,List.mem_range,prx,decide_eq_true_eq] at ha
   exact absurd hp (prox_uniq h (i:=a) (i':=i) (j:=j) (by omega) hij ha.2)
 rw [cd,show min (i+1) (j-1)=i+1 by omega,prs_step (by omega),h1,if_pos hp]
 rfl
theorem cd_stay {M:Nat→Nat} {i j:Nat} (hp:¬(i+1<j∧sumM M i (j-i)≤M i)):cd M (i+1) j=cd M i j:=by
 rw [cd,cd]
 by_cases hij:i+1<j
 ·rw [show min (i+1) (j-1)=i+1 by omega,show min i (j-1)=i by omega,prs_step (by omega),if_neg (fun h=>hp ⟨hij,h⟩),List.append_nil]
 ·rw [show min (i+1) (j-1)=j-1 by omega,show min i (j-1)=j-1 by omega]
theorem cd_code {M:Nat→Nat} (h:GoodM M) {i j:Nat} (hj:1≤j) (hi:j≤i):cd M i j=if 1<(prs M j j).length then (j:Int)-((prs M j j).getD 0 0:Nat) else 0:=by
 obtain ⟨j,rfl⟩:∃k,j=k+1:=⟨j-1,by omega⟩
 have h1:=prs_step (M:=M) (i:=j) (j:=j+1) (by omega)
 have h2:sumM M j (j+1-j)≤M j:=prox_one h j
 rw [if_pos h2] at h1
 rw [cd,show min i (j+1-1)=j by omega,h1]
 cases prs M j (j+1) with
 |nil=>simp
 |cons a l=>simp
theorem sumM_congr {M M':Nat→Nat} {i:Nat}:∀{k:Nat},(∀t,t≤i+k→M t=M' t)→sumM M i k=sumM M' i k
 |0,_=>rfl
 |k+1,h=>by rw [sumM,sumM,sumM_congr (fun t ht=>h t (by omega)),h _ (by omega)]
theorem prs_congr {M M':Nat→Nat} {i j:Nat} (h:∀t,t≤j→M t=M' t):prs M i j=prs M' i j:=by
 rw [prs,prs]
 apply List.filter_congr
 intro a ha
 have ha:=List.mem_range.1 ha
 rw [prx,prx,sumM_congr (fun t ht=>h t (by omega)),h a (by omega)]
def ofL (l:List Int) (i:Nat):Nat:=(l.getD i 1).toNat
theorem ofL_first (xs:List Int) (k i:Nat) (h:i<k):ofL (firstK xs k) i=mul xs i:=by
 rw [ofL,firstK_mul,tab_get _ _ _ _ h,Int.toNat_natCast]
def proxL (l:List Int):List (List Int):=tab' (fun j=>nat2 (prs (ofL l) j j)) l.length
theorem proxL_first (xs:List Int) (k:Nat):proxL (firstK xs k)=tab' (fun j=>nat2 (prs (mul xs) j j)) k:=by
 rw [proxL,firstK_len]
 exact tab_congr fun j hj=>by rw [prs_congr fun t ht=>ofL_first xs k t (by omega)]
def c_l_m (f:List V→List V) (q:List V→Prop):Contract:=fun
 |[.slc false 2 (.int .i64 0) a0]=>some ([q a0],.slc true 44 (.slc true 2 (.int .i64 0) []) (f a0))
 |_=>none
def f_prox (es:List V):List V:=II true (proxL (unI es))
def q_prox (es:List V):Prop:=∃xs k,Br xs∧es=I (firstK xs k)∧k≤1000000
theorem prs_len (M:Nat→Nat) (i j:Nat):(prs M i j).length≤j:=by
 have:=List.length_filter_le (fun a=>prx M a j) (List.range (min i j))
 rw [List.length_range] at this
 rw [prs];omega
theorem tab_set' {α:Type} (f:Nat→α) {n i:Nat} (x:α) (h:i<n):(tab' f n).set i x=tab' (fun t=>if t=i then x else f t) n:=by
 apply List.ext_getElem?
 intro t
 by_cases ht:t<n
 ·rw [tab_get? _ _ _ ht]
  by_cases hti:t=i
  ·subst hti
   rw [List.getElem?_set_self (by rw [tab_len];exact ht),if_pos rfl]
  ·rw [List.getElem?_set_ne (by omega),tab_get? _ _ _ ht,if_neg hti]
 ·rw [List.getElem?_eq_none (by rw [List.length_set,tab_len];omega),List.getElem?_eq_none (by rw [tab_len];omega)]
set_option maxHeartbeats 1000000 in
set_option maxRecDepth 100000 in
theorem s_impl_proximates:Sat Tryd.prog 46 (c_l_m f_prox q_prox):=by
 intro args ps r h hp
 unfold c_l_m at h
 split at h
 ·rename_i a0
  simp only [Option.some.injEq,Prod.mk.injEq] at h
  obtain ⟨rfl,rfl⟩:=h
  obtain ⟨xs,k,hb,hm,hk⟩:q_prox a0:=(alls_cons.1 hp).1
  have al:a0.length=k:=by rw [hm,I_length,firstK_len]
  have e1:f_prox a0=II true (tab' (fun j=>nat2 (prs (mul xs) j j)) k):=by rw [f_prox,hm,unI_I,proxL_first]
  have ga:∀i,i<k→a0.getD i (.int .i64 0)= .int .i64 (mul xs i):=fun i hi=>by rw [hm,I_getD,firstK_mul,tab_get _ _ _ _ hi]
  obtain ⟨hg,_⟩:=mul_good hb
  have h64:=mul_le hb
  refine fnOk_ofI (T:=tab) (B:=[]) (Bi:=[]) [0,2,3,4,5,6,11,12] Tryd.func46 rfl rfl (by kernel_rfl) (Nat.le_of_ble_eq_true rfl) mixed tabOk (by exact bookNil) (by exact bookINil) (by kernel_rfl) ?_
  intro L lp rr hL hr hf hlp
  conv=>cbv
  simp only [stdEqs hL,imp_self,true_and,and_true,bif_or,bif_and,Bool.or_eq_true,Bool.or_eq_false_iff,Bool.and_eq_true,Bool.and_eq_false_iff,decide_eq_true_eq,decide_eq_false_iff_not,Bool.not_eq_true',Bool.not_eq_false',beq_iff_eq,beq_eq_false_iff_ne,ne_eq,toNat0,toNat1,ok_int,toI_int,I_frzs,I_length,I_getD,ok_ints,toL_slc,al]
  refine ⟨by omega,by omega,by omega,?_⟩
  obtain ⟨K,hK⟩:∃K:Int,K=k:=⟨_,rfl⟩
  rw [←hK]
  refine hlp (List V×Int) _ _ _ [0,3,11,12] (fun x=>[(0,none,.val (.slc false 2 (.int .i64 0) a0)),(3,none,.val (.slc true 44 (.slc true 2 (.int .i64 0) []) x.1)),(11,none,.val (.int .i64 K)),(12,none,.val (.int .i64 x.2))])
   (fun x=>0≤x.2∧x.2≤k∧x.1=II true (tab' (fun j=>nat2 (prs (mul xs) x.2.toNat j)) k)) (fun x=>(k-x.2).toNat) ((_,0)) (by subst hL;rfl) ?_ ?_
  ·refine ⟨by simp,by simp only;omega,?_⟩
   simp only
   rw [show K.toNat=k by omega,show (V.slc true 2 (.int .i64 0) [])= .slc true 2 (.int .i64 0) (I []) from rfl,←II_replicate]
   congr 1
   apply List.ext_getElem?
   intro t
   by_cases ht:t<k
   ·rw [tab_get? _ _ _ ht,List.getElem?_replicate,if_pos ht]
    simp [prs,nat2]
   ·rw [List.getElem?_eq_none (by rw [List.length_replicate];omega),List.getElem?_eq_none (by rw [tab_len];omega)]
  rintro ⟨es,i⟩ ⟨i0,i1,hI⟩ hfx ag hag
  simp only at i0 i1 hI
  conv=>cbv
  simp only [stdEqs hL,imp_self,true_and,and_true,bif_or,bif_and,Bool.or_eq_true,Bool.or_eq_false_iff,Bool.and_eq_true,Bool.and_eq_false_iff,decide_eq_true_eq,decide_eq_false_iff_not,Bool.not_eq_true',Bool.not_eq_false',beq_iff_eq,beq_eq_false_iff_ne,ne_eq,toNat0,toNat1,ok_int,toI_int,I_frzs,I_length,I_getD,ok_ints,toL_slc,]
  obtain ⟨n,hn⟩:∃n:Nat,n=i.toNat:=⟨i.toNat,rfl⟩
  rw [←hn] at hI
  refine ⟨fun h=> ?_,fun h=> ?_⟩
  ·rw [wrap_id (n:=i+1) (by omega) (by omega)]
   refine hlp (List V×Int×Int) _ _ _ [0,3,4,5,6,11,12] (fun x=>[(0,none,.val (.slc false 2 (.int .i64 0) a0)),(3,none,.val (.slc true 44 (.slc true 2 (.int .i64 0) []) x.1)),(4,none,.val (.int .i64 i)),(5,none,.val (.int .i64 x.2.1)),(6,none,.val (.int .i64 x.2.2)),(11,none,.val (.int .i64 K)),(12,none,.val (.int .i64 i))])
    (fun x=>i+1≤x.2.2∧x.2.2≤k∧x.2.1=(sumM (mul xs) n (x.2.2.toNat-(n+1)):Nat)∧x.2.1≤mul xs n∧x.1=II true (tab' (fun t=>nat2 (prs (mul xs) (if t<x.2.2.toNat then n+1 else n) t)) k)) (fun x=>(k-x.2.2).toNat) ((es,0,i+1)) (by subst hL;rfl) ?_ ?_
   ·refine ⟨by simp,by simp only;omega,?_,?_,?_⟩
    ·simp only;rw [show (i+1).toNat-(n+1)=0 by omega];rfl
    ·simp only;omega
    ·simp only
     rw [hI]
     congr 1
     refine tab_congr fun t _=> ?_
     split
     ·rw [prs_same (by omega)]
     ·rfl
   rintro ⟨es2,sm,j⟩ ⟨j0,j1,hS,hM,hI2⟩ hfx2 ag2 hag2
   simp only at j0 j1 hS hM hI2
   have hMn:=h64 n
   have hMj:=h64 j.toNat
   have hl2:es2.length=k:=by rw [hI2,II_length,tab_len]
   have gn:=ga i.toNat (by omega)
   rw [←hn] at gn
   have ge:es2.getD j.toNat (.slc true 2 (.int .i64 0) [])= .slc true 2 (.int .i64 0) (I (nat2 (prs (mul xs) n j.toNat)))∨¬j.toNat<k:=by
    by_cases hj:j.toNat<k
    ·left
     rw [hI2,II_getD,tab_get _ _ _ _ hj,if_neg (by omega)]
    ·exact .inr hj
   conv=>cbv
   simp only [stdEqs hL,imp_self,true_and,and_true,bif_or,bif_and,Bool.or_eq_true,Bool.or_eq_false_iff,Bool.and_eq_true,Bool.and_eq_false_iff,decide_eq_true_eq,decide_eq_false_iff_not,Bool.not_eq_true',Bool.not_eq_false',beq_iff_eq,beq_eq_false_iff_ne,ne_eq,toNat0,toNat1,ok_int,toI_int,I_frzs,I_length,I_getD,ok_ints,toL_slc,al,hl2,←hn,gn]
   refine ⟨fun hj=> ?_,fun hj=> ?_⟩
   ·have gj:=ga j.toNat (by omega)
    have ge:=ge.resolve_right (by omega)
    have hs1:sumM (mul xs) n (j.toNat-n)=sumM (mul xs) n (j.toNat-(n+1))+mul xs j.toNat:=by
     rw [show j.toNat-n=(j.toNat-(n+1))+1 by omega,sumM,show n+1+(j.toNat-(n+1))=j.toNat by omega]
    simp only [stdEqs hL,imp_self,true_and,and_true,bif_or,bif_and,Bool.or_eq_true,Bool.or_eq_false_iff,Bool.and_eq_true,Bool.and_eq_false_iff,decide_eq_true_eq,decide_eq_false_iff_not,Bool.not_eq_true',Bool.not_eq_false',beq_iff_eq,beq_eq_false_iff_ne,ne_eq,toNat0,toNat1,ok_int,toI_int,I_frzs,I_length,I_getD,ok_ints,toL_slc,gj,ge,List.length_set,hl2]
    rw [wrap_id (n:=sm+mul xs j.toNat) (by omega) (by omega),wrap_id (n:=j+1) (by omega) (by omega),wrap_id (n:=i+1) (by omega) (by omega)]
    refine ⟨by omega,by omega,by omega,by omega,fun hlt=> ?_,fun hge=> ?_⟩
    ·refine hag (_,i+1) ⟨by simp only;omega,by simp only;omega,?_⟩ (by simp only;omega)
     simp only
     rw [show (i+1).toNat=n+1 by omega,hI2]
     congr 1
     refine tab_congr fun t _=> ?_
     split
     ·rfl
     ·rename_i htj
      rw [prs_step (by omega),if_neg (prx_mono hg (j:=j.toNat) (by omega) (by omega) (by omega)),List.append_nil]
    ·have hpl:=prs_len (mul xs) n j.toNat
     refine ⟨by omega,by omega,by omega,by omega,noown_one _,by rw [nat2,List.length_map];simp only [List.length_cons,List.length_nil];omega,solid_one _,by omega,by omega,by omega,?_,?_⟩
     ·rw [List.getD_eq_getElem?_getD,List.getElem?_set_self (by omega)]
      exact .inr ⟨.slc true 2 (.int .i64 0) [],rfl,rfl,rfl⟩
     ·refine hag2 (_,_,j+1) ⟨by simp only;omega,by simp only;omega,?_,by simp only;omega,?_⟩ (by simp only;omega)
      ·simp only
       rw [show (j+1).toNat-(n+1)=j.toNat-n by omega,hs1,hS,Int.natCast_add]
      ·simp only
       have e:I (nat2 (prs (mul xs) n j.toNat))++[V.int .i64 i]=I (nat2 (prs (mul xs) (n+1) j.toNat)):=by
        rw [prs_step (by omega),if_pos (by omega),nat2,nat2,List.map_append,show i=(n:Int) by omega,←I_append]
        rfl
       rw [e,List.set_set,hI2,II_set,tab_set' _ _ (by omega)]
       congr 1
       refine tab_congr fun t _=> ?_
       by_cases htj:t=j.toNat
       ·rw [if_pos htj,if_pos (by omega),htj]
       ·rw [if_neg htj]
        by_cases htl:t<j.toNat
        ·rw [if_pos htl,if_pos (by omega)]
        ·rw [if_neg htl,if_neg (by omega)]
   ·rw [wrap_id (n:=i+1) (by omega) (by omega)]
    refine hag (_,i+1) ⟨by simp only;omega,by simp only;omega,?_⟩ (by simp only;omega)
    simp only
    rw [show (i+1).toNat=n+1 by omega,hI2]
    congr 1
    refine tab_congr fun t ht=> ?_
    rw [if_pos (by omega)]
  ·rw [hr,e1,hI,show n=k by omega]
   congr 2
   refine tab_congr fun t ht=> ?_
   rw [prs,prs,show min k t=min t t by omega]
 ·cases h
def codeAt (xss:List (List Int)) (j:Nat):Int:=if 1<(xss.getD (j+1) []).length then (j:Int)+1-(xss.getD (j+1) []).getD 0 0 else 0
def codeL (xss:List (List Int)):List Int:=tab' (codeAt xss) (xss.length-1)
def c_m_l (f:List V→List V) (q:List V→Prop):Contract:=fun
 |[.slc false 44 (.slc false 2 (.int .i64 0) []) a0]=>some ([q a0],.slc true 2 (.int .i64 0) (f a0))
 |_=>none
def f_code (es:List V):List V:=I (codeL (unII es))
def q_code (es:List V):Prop:=∃xss,es=II false xss∧1≤xss.length∧xss.length≤1000000∧∀j,j<xss.length→0≤(xss.getD j []).getD 0 0∧(xss.getD j []).getD 0 0≤1000000
set_option maxHeartbeats 1000000 in
set_option maxRecDepth 100000 in
theorem s_impl_codeOf:Sat Tryd.prog 30 (c_m_l f_code q_code):=by
 intro args ps r h hp
 unfold c_m_l at h
 split at h
 ·rename_i a0
  simp only [Option.some.injEq,Prod.mk.injEq] at h
  obtain ⟨rfl,rfl⟩:=h
  obtain ⟨xss,hx,n1,n2,hb⟩:q_code a0:=(alls_cons.1 hp).1
  have al:a0.length=xss.length:=by rw [hx,II_length]
  have e1:f_code a0=I (codeL xss):=by rw [f_code,hx,unII_II]
  have ga:∀i,a0.getD i (.slc false 2 (.int .i64 0) [])= .slc false 2 (.int .i64 0) (I (xss.getD i [])):=fun i=>by rw [hx,II_getD]
  refine fnOk_ofI (T:=tab) (B:=[]) (Bi:=[]) [0,2,3,4,5] Tryd.func30 rfl rfl (by kernel_rfl) (Nat.le_of_ble_eq_true rfl) mixed tabOk (by exact bookNil) (by exact bookINil) (by kernel_rfl) ?_
  intro L lp rr hL hr hf hlp
  conv=>cbv
  refine hlp (List V×Int) _ _ _ [0,3,4] (fun x=>[(0,none,.val (.slc false 44 (.slc false 2 (.int .i64 0) []) a0)),(3,none,.val (.slc true 2 (.int .i64 0) x.1)),(4,none,.val (.int .i64 x.2))])
   (fun x=>1≤x.2∧x.2≤xss.length∧x.1=I (tab' (codeAt xss) (x.2-1).toNat)) (fun x=>(xss.length-x.2).toNat) (([],1)) (by subst hL;rfl) ?_ ?_
  ·exact ⟨by simp,by simp only;omega,rfl⟩
  rintro ⟨es,i⟩ ⟨i0,i1,hI⟩ hfx ag hag
  simp only at i0 i1 hI
  have hel:es.length=(i-1).toNat:=by rw [hI,I_length,tab_len]
  conv=>cbv
  obtain ⟨E,hE⟩:∃E,E=xss.getD i.toNat []:=⟨_,rfl⟩
  simp only [stdEqs hL,imp_self,true_and,and_true,bif_or,bif_and,Bool.or_eq_true,Bool.or_eq_false_iff,Bool.and_eq_true,Bool.and_eq_false_iff,decide_eq_true_eq,decide_eq_false_iff_not,Bool.not_eq_true',Bool.not_eq_false',beq_iff_eq,beq_eq_false_iff_ne,ne_eq,toNat0,toNat1,ok_int,toI_int,I_frzs,I_length,I_getD,ok_ints,toL_slc,al,ga,←hE,ok_ints]
  have hco:codeAt xss (i-1).toNat=if 1<E.length then i-E.getD 0 0 else 0:=by
   rw [codeAt,show (i-1).toNat+1=i.toNat by omega,←hE,show ((i-1).toNat:Int)+1=i by omega]
  have fin:∀z,i<xss.length→z=codeAt xss (i-1).toNat→ag (keepS [0,3,4] [(0,none,.val (.slc false 44 (.slc false 2 (.int .i64 0) []) a0)),(3,none,.val (.slc true 2 (.int .i64 0) (es++[V.int .i64 z]))),(4,none,.val (.int .i64 (i+1)))]):=by
   intro z h hz
   refine hag (_,i+1) ⟨by simp only;omega,by simp only;omega,?_⟩ (by simp only;omega)
   simp only
   rw [show (i+1-1).toNat=(i-1).toNat+1 by omega,tab_succ,hI,←I_append,hz]
   rfl
  refine ⟨fun h=> ?_,fun h=> ?_⟩
  ·have hbb:=hb i.toNat (by omega)
   rw [←hE] at hbb
   rw [wrap_id (n:=i+1) (by omega) (by omega)]
   have hes:=hel
   refine ⟨by omega,h,fun h2=> ?_,fun h2=> ?_⟩
   ·rw [wrap_id (n:=i-E.getD 0 0) (by omega) (by omega)]
    refine ⟨by omega,h,by omega,by omega,noown_one _,by simp only [List.length_cons,List.length_nil];omega,solid_one _,?_⟩
    exact fin _ h (by rw [hco,if_pos (by omega)])
   ·refine ⟨noown_one _,by simp only [List.length_cons,List.length_nil];omega,solid_one _,?_⟩
    exact fin _ h (by rw [hco,if_neg (by omega)])
  ·rw [hr,e1,hI,codeL,show (i-1).toNat=xss.length-1 by omega]
 ·cases h
def codeK (xs:List Int) (k:Nat):List Int:=tab' (fun j=>cd (mul xs) (j+1) (j+1)) (k-1)
theorem nat2_getD (l:List Nat) (i:Nat):(nat2 l).getD i 0=(l.getD i 0:Nat):=by
 rw [nat2,List.getD_eq_getElem?_getD,List.getD_eq_getElem?_getD,List.getElem?_map]
 cases l[i]? <;>rfl
theorem codeL_prox {xs:List Int} (h:Br xs) (k:Nat):codeL (proxL (firstK xs k))=codeK xs k:=by
 rw [proxL_first,codeL,codeK,tab_len]
 refine tab_congr fun j hj=> ?_
 rw [codeAt,tab_get _ _ _ _ (by omega),cd_code (mul_good h).1 (by omega) (by omega),nat2_getD,nat2,List.length_map,Int.natCast_add]
 rfl
theorem prs_lt {M:Nat→Nat} {i j:Nat}:∀a∈prs M i j,a<j:=by
 intro a ha
 simp only [prs,List.mem_filter,List.mem_range] at ha
 omega
theorem q_code_prox (xs:List Int) {k:Nat} (h1:1≤k) (h2:k≤1000000):q_code (II false (proxL (firstK xs k))):=by
 refine ⟨_,rfl,?_,?_,?_⟩
 ·rw [proxL_first,tab_len];exact h1
 ·rw [proxL_first,tab_len];exact h2
 ·intro j hj
  rw [proxL_first,tab_len] at hj
  rw [proxL_first,tab_get _ _ _ _ hj,nat2_getD]
  cases hh:prs (mul xs) j j with
  |nil=>simp
  |cons a l=>
   have:=prs_lt a (by rw [hh];simp:a∈prs (mul xs) j j)
   simp
   omega
def cdP (xs:List Int) (i:Nat) (k:Nat):List Int:=tab' (fun t=>cd (mul xs) i (t+1)) (k-1)
def f_codeK (es:List V) (k:Int):List V:=I (codeK (unI es) k.toNat)
set_option maxHeartbeats 1000000 in
set_option maxRecDepth 100000 in
theorem s_spec_l06Code:Sat Tryd.prog 40 (c_Bi_l f_codeK q_first):=by
 intro args ps r h hp
 unfold c_Bi_l at h
 split at h
 ·rename_i a0 a1
  simp only [Option.some.injEq,Prod.mk.injEq] at h
  obtain ⟨rfl,rfl⟩:=h
  obtain ⟨hq,k1,k2⟩:q_first a0 a1:=(alls_cons.1 hp).1
  have hqb:=hq
  obtain ⟨xs,hxs,hb⟩:=hq
  have g1:V.frzs a0=a0:=by rw [hxs,I_frzs]
  obtain ⟨k,hk⟩:∃k:Nat,k=a1.toNat:=⟨_,rfl⟩
  obtain ⟨ms,hms⟩:∃ms,ms=I (firstK xs k):=⟨_,rfl⟩
  have e1:f_first a0 a1=ms:=by rw [f_first,hxs,unI_I,hms,hk]
  have e2:f_codeK a0 a1=I (codeK xs k):=by rw [f_codeK,hxs,unI_I,hk]
  have ml:ms.length=k:=by rw [hms,I_length,firstK_len]
  have gm:∀i,i<k→ms.getD i (.int .i64 0)= .int .i64 (mul xs i):=fun i hi=>by rw [hms,I_getD,firstK_mul,tab_get _ _ _ _ hi]
  obtain ⟨hg,_⟩:=mul_good hb
  have h64:=mul_le hb
  generalize H_f_first:f_first=F_f_first
  generalize H_q_first:q_first=F_q_first
  refine fnOk_ofI (T:=tab) (B:=[(53,c_Bi_l F_f_first F_q_first)]) (Bi:=[]) [0,1,2,4,5,6,7,8,9] Tryd.func40 rfl rfl (by kernel_rfl) (Nat.le_of_ble_eq_true rfl) mixed tabOk (by subst H_f_first H_q_first;exact (bookCons s_spec_l06Sequence bookNil)) (by subst H_f_first H_q_first;exact bookINil) (by kernel_rfl) ?_
  intro L lp rr hL hr hf hlp
  conv=>cbv
  have hF:F_f_first a0 a1=ms:=by rw [←H_f_first,e1]
  simp only [stdEqs hL,imp_self,true_and,and_true,bif_or,bif_and,Bool.or_eq_true,Bool.or_eq_false_iff,Bool.and_eq_true,Bool.and_eq_false_iff,decide_eq_true_eq,decide_eq_false_iff_not,Bool.not_eq_true',Bool.not_eq_false',beq_iff_eq,beq_eq_false_iff_ne,ne_eq,toNat0,toNat1,ok_int,toI_int,I_frzs,I_length,I_getD,ok_ints,toL_slc,hF,g1]
  have w0:IntKind.wrap .i64 (a1-1)=a1-1:=wrap_id (by omega) (by omega)
  rw [w0]
  refine ⟨by omega,by omega,by omega,by rw [←H_q_first];exact ⟨hqb,k1,k2⟩,?_⟩
  refine hlp (List V×Int) _ _ _ [1,5,6,7] (fun x=>[(1,none,.val (.int .i64 a1)),(5,none,.val (.slc true 2 (.int .i64 0) x.1)),(6,none,.val (.slc true 2 (.int .i64 0) ms)),(7,none,.val (.int .i64 x.2))])
   (fun x=>0≤x.2∧x.2≤k∧x.1=I (cdP xs x.2.toNat k)) (fun x=>(k-x.2).toNat) ((_,0)) (by subst hL;rfl) ?_ ?_
  ·refine ⟨by simp,by simp only;omega,?_⟩
   simp only
   rw [show (a1-1).toNat=k-1 by omega]
   apply List.ext_getElem?
   intro t
   by_cases ht:t<k-1
   ·rw [List.getElem?_replicate,if_pos ht,I,List.getElem?_map,cdP,tab_get? _ _ _ ht]
    simp [cd,prs]
   ·rw [List.getElem?_eq_none (by rw [List.length_replicate];omega),List.getElem?_eq_none (by rw [I_length,cdP,tab_len];omega)]
  rintro ⟨es,i⟩ ⟨i0,i1,hI⟩ hfx ag hag
  simp only at i0 i1 hI
  conv=>cbv
  simp only [stdEqs hL,imp_self,true_and,and_true,bif_or,bif_and,Bool.or_eq_true,Bool.or_eq_false_iff,Bool.and_eq_true,Bool.and_eq_false_iff,decide_eq_true_eq,decide_eq_false_iff_not,Bool.not_eq_true',Bool.not_eq_false',beq_iff_eq,beq_eq_false_iff_ne,ne_eq,toNat0,toNat1,ok_int,toI_int,I_frzs,I_length,I_getD,ok_ints,toL_slc,]
  obtain ⟨n,hn⟩:∃n:Nat,n=i.toNat:=⟨i.toNat,rfl⟩
  rw [←hn] at hI
  refine ⟨fun h=> ?_,fun h=> ?_⟩
  ·rw [wrap_id (n:=i+1) (by omega) (by omega)]
   refine hlp (List V×Int×Int) _ _ _ [1,5,6,7,8,9] (fun x=>[(1,none,.val (.int .i64 a1)),(5,none,.val (.slc true 2 (.int .i64 0) x.1)),(6,none,.val (.slc true 2 (.int .i64 0) ms)),(7,none,.val (.int .i64 i)),(8,none,.val (.int .i64 x.2.1)),(9,none,.val (.int .i64 x.2.2))])
    (fun x=>i+1≤x.2.2∧x.2.2≤k∧x.2.1=(sumM (mul xs) n (x.2.2.toNat-(n+1)):Nat)∧x.2.1≤mul xs n∧x.1=I (tab' (fun t=>cd (mul xs) (if t+1<x.2.2.toNat then n+1 else n) (t+1)) (k-1))) (fun x=>(k-x.2.2).toNat) ((es,0,i+1)) (by subst hL;rfl) ?_ ?_
   ·refine ⟨by simp,by simp only;omega,?_,?_,?_⟩
    ·simp only;rw [show (i+1).toNat-(n+1)=0 by omega];rfl
    ·simp only;omega
    ·simp only
     rw [hI,cdP]
     congr 1
     refine tab_congr fun t _=> ?_
     split
     ·rw [cd_stay (by omega)]
     ·rfl
   rintro ⟨es2,sm,j⟩ ⟨j0,j1,hS,hM,hI2⟩ hfx2 ag2 hag2
   simp only at j0 j1 hS hM hI2
   have hMn:=h64 n
   have hMj:=h64 j.toNat
   have hl2:es2.length=k-1:=by rw [hI2,I_length,tab_len]
   have gn:=gm i.toNat (by omega)
   rw [←hn] at gn
   have ge:∀t,es2.getD t (.int .i64 0)= .int .i64 ((unI es2).getD t 0):=fun t=>by rw [hI2,I_getD,unI_I]
   conv=>cbv
   simp only [stdEqs hL,imp_self,true_and,and_true,bif_or,bif_and,Bool.or_eq_true,Bool.or_eq_false_iff,Bool.and_eq_true,Bool.and_eq_false_iff,decide_eq_true_eq,decide_eq_false_iff_not,Bool.not_eq_true',Bool.not_eq_false',beq_iff_eq,beq_eq_false_iff_ne,ne_eq,toNat0,toNat1,ok_int,toI_int,I_frzs,I_length,I_getD,ok_ints,toL_slc,ml,hl2,←hn,gn]
   refine ⟨fun hj=> ?_,fun hj=> ?_⟩
   ·have gj:=gm j.toNat (by omega)
    have hs1:sumM (mul xs) n (j.toNat-n)=sumM (mul xs) n (j.toNat-(n+1))+mul xs j.toNat:=by
     rw [show j.toNat-n=(j.toNat-(n+1))+1 by omega,sumM,show n+1+(j.toNat-(n+1))=j.toNat by omega]
    simp only [stdEqs hL,imp_self,true_and,and_true,bif_or,bif_and,Bool.or_eq_true,Bool.or_eq_false_iff,Bool.and_eq_true,Bool.and_eq_false_iff,decide_eq_true_eq,decide_eq_false_iff_not,Bool.not_eq_true',Bool.not_eq_false',beq_iff_eq,beq_eq_false_iff_ne,ne_eq,toNat0,toNat1,ok_int,toI_int,I_frzs,I_length,I_getD,ok_ints,toL_slc,gj,ge]
    rw [wrap_id (n:=sm+mul xs j.toNat) (by omega) (by omega),wrap_id (n:=j+1) (by omega) (by omega),wrap_id (n:=i+1) (by omega) (by omega),wrap_id (n:=j-1) (by omega) (by omega),wrap_id (n:=j-i) (by omega) (by omega)]
    have nxt:sm+mul xs j.toNat=(sumM (mul xs) n ((j+1).toNat-(n+1)):Nat):=by
     rw [show (j+1).toNat-(n+1)=j.toNat-n by omega,hs1,hS,Int.natCast_add]
    refine ⟨by omega,by omega,by omega,by omega,by omega,by omega,fun hlt=> ?_,fun hge=>⟨fun h3=> ?_,fun h3=> ?_⟩⟩
    ·refine hag (_,i+1) ⟨by simp only;omega,by simp only;omega,?_⟩ (by simp only;omega)
     simp only
     rw [show (i+1).toNat=n+1 by omega,hI2,cdP]
     congr 1
     refine tab_congr fun t _=> ?_
     split
     ·rfl
     ·rename_i htj
      rw [cd_stay]
      rintro ⟨h5,h6⟩
      exact prx_mono hg (j:=j.toNat) (j':=t+1) (by omega) (by omega) (by omega) h6
    ·refine ⟨by omega,by omega,by omega,?_⟩
     refine hag2 (_,_,j+1) ⟨by simp only;omega,by simp only;omega,nxt,by simp only;omega,?_⟩ (by simp only;omega)
     simp only
     have hc:=cd_step hg (i:=n) (j:=j.toNat) (by omega) (by omega)
     rw [hI2,I_set,tab_set]
     congr 1
     refine tab_congr fun t _=> ?_
     by_cases htj:t=(j-1).toNat
     ·rw [if_pos htj,if_pos (by omega),show t+1=j.toNat by omega,hc]
      omega
     ·rw [if_neg htj]
      by_cases htl:t+1<j.toNat
      ·rw [if_pos htl,if_pos (by omega)]
      ·rw [if_neg htl,if_neg (by omega)]
    ·refine hag2 (_,_,j+1) ⟨by simp only;omega,by simp only;omega,nxt,by simp only;omega,?_⟩ (by simp only;omega)
     simp only
     rw [hI2]
     congr 1
     refine tab_congr fun t _=> ?_
     by_cases htl:t+1<j.toNat
     ·rw [if_pos htl,if_pos (by omega)]
     ·rw [if_neg htl]
      by_cases htl2:t+1<(j+1).toNat
      ·rw [if_pos htl2,cd_stay (by omega)]
      ·rw [if_neg htl2]
   ·rw [wrap_id (n:=i+1) (by omega) (by omega)]
    refine hag (_,i+1) ⟨by simp only;omega,by simp only;omega,?_⟩ (by simp only;omega)
    simp only
    rw [show (i+1).toNat=n+1 by omega,hI2,cdP]
    congr 1
    refine tab_congr fun t ht=> ?_
    rw [if_pos (by omega)]
  ·rw [hr,e2,hI,show n=k by omega,codeK,cdP]
   congr 2
   refine tab_congr fun t ht=> ?_
   rw [cd,cd,show min k (t+1-1)=min (t+1) (t+1-1) by omega]
 ·cases h
end Go.Ax
