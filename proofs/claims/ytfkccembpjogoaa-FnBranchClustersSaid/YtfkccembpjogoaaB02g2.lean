import Derived.Test.YtfkccembpjogoaaB01g2
/-
 Proximate points and codes of branches. No conditions but those of the contracts.
-/
set_option linter.all false
namespace Go.Ax
open Go.Proofs
theorem dvGo_at:∀(l:List Int) (d:Int) (i:Nat),i<l.length→(dvGo d l).getD i 0=gcdW (if i=0 then d else (dvGo d l).getD (i-1) 0) (l.getD i 0)
 |[],_,i,h=>by simp at h
 |t::l,d,0,_=>rfl
 |t::l,d,1,h=>by
  have:=dvGo_at l (gcdW d t) 0 (by simpa using h)
  simpa [dvGo] using this
 |t::l,d,i+2,h=>by
  have:=dvGo_at l (gcdW d t) (i+1) (by simp at h;omega)
  simpa [dvGo] using this
theorem gcdW_nat {a b:Int} (ha:0<a) (hb:0<b):gcdW a b=(Nat.gcd a.toNat b.toNat:Int):=by
 rw [gcdW,absW_pos ha,absW_pos hb,gcdGo_eq _ a b (Nat.le_refl _) (by omega) (by omega)]
def ddN (xs:List Int) (i:Nat):Nat:=((dv xs).getD i 0).toNat
def kkN (xs:List Int) (i:Nat):Nat:=(kkI xs i).toNat
theorem ddN_gcd {xs:List Int} (h:Br xs) {i:Nat} (hi:i+1<xs.length):ddN xs (i+1)=Nat.gcd (ddN xs i) (xs.getD (i+1) 0).toNat:=by
 have h1:=dvGo_at xs 0 (i+1) hi
 have h2:=h.dpos i (by omega)
 have h3:=h.low (i+1) hi
 rw [if_neg (by omega),show i+1-1=i by omega] at h1
 have h4:(dv xs).getD (i+1) 0=gcdW ((dv xs).getD i 0) (xs.getD (i+1) 0):=h1
 rw [gcdW_nat (by omega) (by omega)] at h4
 rw [ddN,h4,Int.toNat_natCast,ddN]
theorem ddN_dvd {xs:List Int} (h:Br xs):∀{i:Nat},i<xs.length→ddN xs i ∣ (xs.getD i 0).toNat
 |0,_=>by rw [ddN,h.d0];exact Nat.dvd_refl _
 |i+1,hi=>by rw [ddN_gcd h hi];exact Nat.gcd_dvd_right _ _
theorem ddN_kk {xs:List Int} (h:Br xs) {i:Nat} (hi:i+1<xs.length):Nat.gcd (ddN xs i) (kkN xs i)=ddN xs (i+1):=by
 rw [ddN_gcd h hi,kkN,kkI]
 by_cases h0:i=0
 ·rw [if_pos h0]
  congr 1
  omega
 ·rw [if_neg h0]
  obtain ⟨c,hc⟩:=ddN_dvd h (i:=i) (by omega)
  have h1:=h.up i hi
  have h2:=h.low i (by omega)
  rw [show (xs.getD (i+1) 0).toNat=(xs.getD (i+1) 0-xs.getD i 0).toNat+ddN xs i*c by omega,Nat.mul_comm (ddN xs i) c,Nat.gcd_add_mul_right_right]
def blk (xs:List Int) (i:Nat):Nat→List (Nat×Nat)
 |0=>[]
 |n+1=>(kkN xs i,ddN xs i)::blk xs (i+1) n
theorem blk_chain {xs:List Int} (h:Br xs):∀(n i:Nat),i+n+1=xs.length→Chain (ddN xs i) (blk xs i n)
 |0,i,hi=>by
  have:=h.dlast
  rw [show xs.length-1=i by omega] at this
  show ddN xs i=1
  rw [ddN,this];rfl
 |n+1,i,hi=>by
  have:=h.dpos i (by omega)
  refine ⟨rfl,by rw [ddN];omega,?_⟩
  rw [ddN_kk h (by omega)]
  exact blk_chain h n (i+1) (by omega)
def nat2 (l:List Nat):List Int:=l.map fun (n:Nat)=>(n:Int)
theorem blk_seq (xs:List Int):∀(n i:Nat),nat2 (blocks (blk xs i n))=(List.range' i n).flatMap (runI xs)
 |0,i=>rfl
 |n+1,i=>by
  have:=blk_seq xs n (i+1)
  rw [List.range'_succ,List.flatMap_cons,←this,blk,blocks,nat2,List.map_append]
  rfl
def mulN (xs:List Int):List Nat:=blocks (blk xs 0 (xs.length-1))
def mul (xs:List Int) (i:Nat):Nat:=(mulN xs).getD i 1
theorem seqI_mul (xs:List Int):seqI xs=nat2 (mulN xs):=by
 rw [mulN,blk_seq,seqI,seqP,List.range_eq_range']
theorem seqI_get (xs:List Int) (i:Nat):(seqI xs).getD i 1=mul xs i:=by
 rw [seqI_mul,nat2,mul,List.getD_eq_getElem?_getD,List.getD_eq_getElem?_getD,List.getElem?_map]
 cases (mulN xs)[i]? <;>rfl
theorem mul_good {xs:List Int} (h:Br xs):GoodM (mul xs)∧mul xs 0≤64:=by
 have h1:=h.pos
 have hc:=blk_chain h (xs.length-1) 0 (by omega)
 obtain ⟨g1,g2,_⟩:=blocks_good _ _ hc
 refine ⟨goodM_of g1,Nat.le_trans g2 ?_⟩
 have:=h.dhi 0 h1
 rw [ddN];omega
theorem mul_le {xs:List Int} (h:Br xs):∀i,mul xs i≤64
 |0=>(mul_good h).2
 |i+1=>Nat.le_trans ((mul_good h).1.fall i) (mul_le h i)
theorem firstK_mul (xs:List Int) (k:Nat):firstK xs k=tab' (fun i=>(mul xs i:Int)) k:=tab_congr fun i _=>seqI_get xs i
def prx (M:Nat→Nat) (i j:Nat):Bool:=decide (sumM M i (j-i)≤M i)
def prs (M:Nat→Nat) (i j:Nat):List Nat:=(List.range (min i j)).filter fun a=>prx M a j
theorem prs_same {M:Nat→Nat} {i j:Nat} (h:j≤i):prs M (i+1) j=prs M i j:=by
 rw [prs,prs,show min (i+1) j=min i j by omega]
theorem prs_step {M:Nat→Nat} {i j:Nat} (h:i<j):prs M (i+1) j=prs M i j++(if sumM M i (j-i)≤M i then [i] else []):=by
 rw [prs,prs,show min (i+1) j=i+1 by omega,show min i j=i by omega,List.range_succ,List.filter_append]
 congr 1
 by_cases hp:sumM M i (j-i)≤M i<;>simp [prx,hp]
theorem prx_mono {M:Nat→Nat} (h:GoodM M) {i j j':Nat} (hij:i<j) (hj:j≤j') (hn:¬sumM M i (j-i)≤M i):¬sumM M i (j'-i)≤M i:=by
 by_cases e:j=j'
 ·subst e;exact hn
 ·have:=sumM_mono h i (k:=j-i) (k':=j'-i) (by omega)
  omega
def cd (M:Nat→Nat) (i j:Nat):Int:=match prs M (min i (j-1)) j with
 |[]=>0
 |a::_=>(j:Int)-a
theorem cd_step {M:Nat→Nat} (h:GoodM M) {i j:Nat} (hij:i+1<j) (hp:sumM M i (j-i)≤M i):cd M (i+1) j=(j:Int)-i:=by
 have h1:prs M i j=[]:=by
  cases hh:prs M i j with
  |nil=>rfl
  |cons a l=>
   have ha:a∈prs M i j:=by rw [hh];simp
   simp only [prs,List.mem_filter,List.mem_range,prx,decide_eq_true_eq] at ha
   exact absurd hp (prox_uniq h (i:=a) (i':=i) (j:=j) (by omega) hij ha.2)
 rw [cd,show min (i+1) (j-1)=i+1 by omega,prs_step (by omega),h1,if_pos hp]
 rfl
theorem cd_stay {M:Nat→Nat} {i j:Nat} (hp:¬(i+1<j∧sumM M i (j-i)≤M i)):cd M (i+1) j=cd M i j:=by
 rw [cd,cd]
 by_cases hij:i+1<j
 ·rw [show min (i+1) (j-1)=i+1 by omega,show min i (j-1)=i by omega,prs_step (by omega),if_neg (fun h=>hp ⟨hij,h⟩),List.append_nil]
 ·rw [show min (i+1) (j-1)=j-1 by omega,show min i (j-1)=j-1 by omega]
theorem cd_code {M:Nat→Nat} (h:GoodM M) {i j:Nat} (hj:1≤j) (hi:j≤i):cd M i j=if 1<(prs M j j).length then (j:Int)-((prs M j j).getD 0 0:Nat) else 0:=by
 obtain ⟨j,rfl⟩:∃k,j=k+1:=⟨j-1,by omega⟩
 have h1:=prs_step (M:=M) (i:=j) (j:=j+1) (by omega)
 have h2:sumM M j (j+1-j)≤M j:=prox_one h j
 rw [if_pos h2] at h1
 rw [cd,show min i (j+1-1)=j by omega,h1]
 cases prs M j (j+1) with
 |nil=>simp
 |cons a l=>simp
theorem sumM_congr {M M':Nat→Nat} {i:Nat}:∀{k:Nat},(∀t,t≤i+k→M t=M' t)→sumM M i k=sumM M' i k
 |0,_=>rfl
 |k+1,h=>by rw [sumM,sumM,sumM_congr (fun t ht=>h t (by omega)),h _ (by omega)]
theorem prs_congr {M M':Nat→Nat} {i j:Nat} (h:∀t,t≤j→M t=M' t):prs M i j=prs M' i j:=by
 rw [prs,prs]
 apply List.filter_congr
 intro a ha
 have ha:=List.mem_range.1 ha
 rw [prx,prx,sumM_congr (fun t ht=>h t (by omega)),h a (by omega)]
def ofL (l:List Int) (i:Nat):Nat:=(l.getD i 1).toNat
theorem ofL_first (xs:List Int) (k i:Nat) (h:i<k):ofL (firstK xs k) i=mul xs i:=by
 rw [ofL,firstK_mul,tab_get _ _ _ _ h,Int.toNat_natCast]
def proxL (l:List Int):List (List Int):=tab' (fun j=>nat2 (prs (ofL l) j j)) l.length
theorem proxL_first (xs:List Int) (k:Nat):proxL (firstK xs k)=tab' (fun j=>nat2 (prs (mul xs) j j)) k:=by
 rw [proxL,firstK_len]
 exact tab_congr fun j hj=>by rw [prs_congr fun t ht=>ofL_first xs k t (by omega)]
def c_l_m (f:List V→List V) (q:List V→Prop):Contract:=fun
 |[.slc false 2 (.int .i64 0) a0]=>some ([q a0],.slc true 24 (.slc true 2 (.int .i64 0) []) (f a0))
 |_=>none
def f_prox (es:List V):List V:=II true (proxL (unI es))
def q_prox (es:List V):Prop:=∃xs k,Br xs∧es=I (firstK xs k)∧k≤1000000
theorem prs_len (M:Nat→Nat) (i j:Nat):(prs M i j).length≤j:=by
 have:=List.length_filter_le (fun a=>prx M a j) (List.range (min i j))
 rw [List.length_range] at this
 rw [prs];omega
theorem tab_set' {α:Type} (f:Nat→α) {n i:Nat} (x:α) (h:i<n):(tab' f n).set i x=tab' (fun t=>if t=i then x else f t) n:=by
 apply List.ext_getElem?
 intro t
 by_cases ht:t<n
 ·rw [tab_get? _ _ _ ht]
  by_cases hti:t=i
  ·subst hti
   rw [List.getElem?_set_self (by rw [tab_len];exact ht),if_pos rfl]
  ·rw [List.getElem?_set_ne (by omega),tab_get? _ _ _ ht,if_neg hti]
 ·rw [List.getElem?_eq_none (by rw [List.length_set,tab_len];omega),List.getElem?_eq_none (by rw [tab_len];omega)]
set_option maxHeartbeats 1000000 in
set_option maxRecDepth 100000 in
theorem s_impl_proximates:Sat Try.prog 56 (c_l_m f_prox q_prox):=by
 intro args ps r h hp
 unfold c_l_m at h
 split at h
 ·rename_i a0
  simp only [Option.some.injEq,Prod.mk.injEq] at h
  obtain ⟨rfl,rfl⟩:=h
  obtain ⟨xs,k,hb,hm,hk⟩:q_prox a0:=(alls_cons.1 hp).1
  have al:a0.length=k:=by rw [hm,I_length,firstK_len]
  have e1:f_prox a0=II true (tab' (fun j=>nat2 (prs (mul xs) j j)) k):=by rw [f_prox,hm,unI_I,proxL_first]
  have ga:∀i,i<k→a0.getD i (.int .i64 0)= .int .i64 (mul xs i):=fun i hi=>by rw [hm,I_getD,firstK_mul,tab_get _ _ _ _ hi]
  obtain ⟨hg,_⟩:=mul_good hb
  have h64:=mul_le hb
  refine fnOk_ofI (T:=tab) (B:=[]) (Bi:=[]) [0,2,3,4,5,6,11,12] Try.func56 rfl rfl (by kernel_rfl) (Nat.le_of_ble_eq_true rfl) mixed tabOk (by exact bookNil) (by exact bookINil) (by kernel_rfl) ?_
  intro L lp rr hL hr hf hlp
  conv=>cbv
  simp only [stdEqs hL,imp_self,true_and,and_true,bif_or,bif_and,Bool.or_eq_true,Bool.or_eq_false_iff,Bool.and_eq_true,Bool.and_eq_false_iff,decide_eq_true_eq,decide_eq_false_iff_not,Bool.not_eq_true',Bool.not_eq_false',beq_iff_eq,beq_eq_false_iff_ne,ne_eq,toNat0,toNat1,ok_int,toI_int,I_frzs,I_length,I_getD,ok_ints,toL_slc,al]
  refine ⟨by omega,by omega,by omega,?_⟩
  obtain ⟨K,hK⟩:∃K:Int,K=k:=⟨_,rfl⟩
  rw [←hK]
  refine hlp (List V×Int) _ _ _ [0,3,11,12] (fun x=>[(0,none,.val (.slc false 2 (.int .i64 0) a0)),(3,none,.val (.slc true 24 (.slc true 2 (.int .i64 0) []) x.1)),(11,none,.val (.int .i64 K)),(12,none,.val (.int .i64 x.2))])
   (fun x=>0≤x.2∧x.2≤k∧x.1=II true (tab' (fun j=>nat2 (prs (mul xs) x.2.toNat j)) k)) (fun x=>(k-x.2).toNat) ((_,0)) (by subst hL;rfl) ?_ ?_
  ·refine ⟨by simp,by simp only;omega,?_⟩
   simp only
   rw [show K.toNat=k by omega,show (V.slc true 2 (.int .i64 0) [])= .slc true 2 (.int .i64 0) (I []) from rfl,←II_replicate]
   congr 1
   apply List.ext_getElem?
   intro t
   by_cases ht:t<k
   ·rw [tab_get? _ _ _ ht,List.getElem?_replicate,if_pos ht]
    simp [prs,nat2]
   ·rw [List.getElem?_eq_none (by rw [List.length_replicate];omega),List.getElem?_eq_none (by rw [tab_len];omega)]
  rintro ⟨es,i⟩ ⟨i0,i1,hI⟩ hfx ag hag
  simp only at i0 i1 hI
  conv=>cbv
  simp only [stdEqs hL,imp_self,true_and,and_true,bif_or,bif_and,Bool.or_eq_true,Bool.or_eq_false_iff,Bool.and_eq_true,Bool.and_eq_false_iff,decide_eq_true_eq,decide_eq_false_iff_not,Bool.not_eq_true',Bool.not_eq_false',beq_iff_eq,beq_eq_false_iff_ne,ne_eq,toNat0,toNat1,ok_int,toI_int,I_frzs,I_length,I_getD,ok_ints,toL_slc,]
  obtain ⟨n,hn⟩:∃n:Nat,n=i.toNat:=⟨i.toNat,rfl⟩
  rw [←hn] at hI
  refine ⟨fun h=> ?_,fun h=> ?_⟩
  ·rw [wrap_id (n:=i+1) (by omega) (by omega)]
   refine hlp (List V×Int×Int) _ _ _ [0,3,4,5,6,11,12] (fun x=>[(0,none,.val (.slc false 2 (.int .i64 0) a0)),(3,none,.val (.slc true 24 (.slc true 2 (.int .i64 0) []) x.1)),(4,none,.val (.int .i64 i)),(5,none,.val (.int .i64 x.2.1)),(6,none,.val (.int .i64 x.2.2)),(11,none,.val (.int .i64 K)),(12,none,.val (.int .i64 i))])
    (fun x=>i+1≤x.2.2∧x.2.2≤k∧x.2.1=(sumM (mul xs) n (x.2.2.toNat-(n+1)):Nat)∧x.2.1≤mul xs n∧x.1=II true (tab' (fun t=>nat2 (prs (mul xs) (if t<x.2.2.toNat then n+1 else n) t)) k)) (fun x=>(k-x.2.2).toNat) ((es,0,i+1)) (by subst hL;rfl) ?_ ?_
   ·refine ⟨by simp,by simp only;omega,?_,?_,?_⟩
    ·simp only;rw [show (i+1).toNat-(n+1)=0 by omega];rfl
    ·simp only;omega
    ·simp only
     rw [hI]
     congr 1
     refine tab_congr fun t _=> ?_
     split
     ·rw [prs_same (by omega)]
     ·rfl
   rintro ⟨es2,sm,j⟩ ⟨j0,j1,hS,hM,hI2⟩ hfx2 ag2 hag2
   simp only at j0 j1 hS hM hI2
   have hMn:=h64 n
   have hMj:=h64 j.toNat
   have hl2:es2.length=k:=by rw [hI2,II_length,tab_len]
   have gn:=ga i.toNat (by omega)
   rw [←hn] at gn
   have ge:es2.getD j.toNat (.slc true 2 (.int .i64 0) [])= .slc true 2 (.int .i64 0) (I (nat2 (prs (mul xs) n j.toNat)))∨¬j.toNat<k:=by
    by_cases hj:j.toNat<k
    ·left
     rw [hI2,II_getD,tab_get _ _ _ _ hj,if_neg (by omega)]
    ·exact .inr hj
   conv=>cbv
   simp only [stdEqs hL,imp_self,true_and,and_true,bif_or,bif_and,Bool.or_eq_true,Bool.or_eq_false_iff,Bool.and_eq_true,Bool.and_eq_false_iff,decide_eq_true_eq,decide_eq_false_iff_not,Bool.not_eq_true',Bool.not_eq_false',beq_iff_eq,beq_eq_false_iff_ne,ne_eq,toNat0,toNat1,ok_int,toI_int,I_frzs,I_length,I_getD,ok_ints,toL_slc,al,hl2,←hn,gn]
   refine ⟨fun hj=> ?_,fun hj=> ?_⟩
   ·have gj:=ga j.toNat (by omega)
    have ge:=ge.resolve_right (by omega)
    have hs1:sumM (mul xs) n (j.toNat-n)=sumM (mul xs) n (j.toNat-(n+1))+mul xs j.toNat:=by
     rw [show j.toNat-n=(j.toNat-(n+1))+1 by omega,sumM,show n+1+(j.toNat-(n+1))=j.toNat by omega]
    simp only [stdEqs hL,imp_self,true_and,and_true,bif_or,bif_and,Bool.or_eq_true,Bool.or_eq_false_iff,Bool.and_eq_true,Bool.and_eq_false_iff,decide_eq_true_eq,decide_eq_false_iff_not,Bool.not_eq_true',Bool.not_eq_false',beq_iff_eq,beq_eq_false_iff_ne,ne_eq,toNat0,toNat1,ok_int,toI_int,I_frzs,I_length,I_getD,ok_ints,toL_slc,gj,ge,List.length_set,hl2]
    rw [wrap_id (n:=sm+mul xs j.toNat) (by omega) (by omega),wrap_id (n:=j+1) (by omega) (by omega),wrap_id (n:=i+1) (by omega) (by omega)]
    refine ⟨by omega,by omega,by omega,by omega,fun hlt=> ?_,fun hge=> ?_⟩
    ·refine hag (_,i+1) ⟨by simp only;omega,by simp only;omega,?_⟩ (by simp only;omega)
     simp only
     rw [show (i+1).toNat=n+1 by omega,hI2]
     congr 1
     refine tab_congr fun t _=> ?_
     split
     ·rfl
     ·rename_i htj
      rw [prs_step (by omega),if_neg (prx_mono hg (j:=j.toNat) (by omega) (by omega) (by omega)),List.append_nil]
    ·have hpl:=prs_len (mul xs) n j.toNat
     refine ⟨by omega,by omega,by omega,by omega,noown_one _,by rw [nat2,List.length_map];simp only [List.length_cons,List.length_nil];omega,solid_one _,by omega,by omega,by omega,?_,?_⟩
     ·rw [List.getD_eq_getElem?_getD,List.getElem?_set_self (by omega)]
      exact .inr ⟨.slc true 2 (.int .i64 0) [],rfl,rfl,rfl⟩
     ·refine hag2 (_,_,j+1) ⟨by simp only;omega,by simp only;omega,?_,by simp only;omega,?_⟩ (by simp only;omega)
      ·simp only
       rw [show (j+1).toNat-(n+1)=j.toNat-n by omega,hs1,hS,Int.natCast_add]
      ·simp only
       have e:I (nat2 (prs (mul xs) n j.toNat))++[V.int .i64 i]=I (nat2 (prs (mul xs) (n+1) j.toNat)):=by
        rw [prs_step (by omega),if_pos (by omega),nat2,nat2,List.map_append,show i=(n:Int) by omega,←I_append]
        rfl
       rw [e,List.set_set,hI2,II_set,tab_set' _ _ (by omega)]
       congr 1
       refine tab_congr fun t _=> ?_
       by_cases htj:t=j.toNat
       ·rw [if_pos htj,if_pos (by omega),htj]
       ·rw [if_neg htj]
        by_cases htl:t<j.toNat
        ·rw [if_pos htl,if_pos (by omega)]
        ·rw [if_neg htl,if_neg (by omega)]
   ·rw [wrap_id (n:=i+1) (by omega) (by omega)]
    refine hag (_,i+1) ⟨by simp only;omega,by simp only;omega,?_⟩ (by simp only;omega)
    simp only
    rw [show (i+1).toNat=n+1 by omega,hI2]
    congr 1
    refine tab_congr fun t ht=> ?_
    rw [if_pos (by omega)]
  ·rw [hr,e1,hI,show n=k by omega]
   congr 2
   refine tab_congr fun t ht=> ?_
   rw [prs,prs,show min k t=min t t by omega]
 ·cases h
def codeAt (xss:List (List Int)) (j:Nat):Int:=if 1<(xss.getD (j+1) []).length then (j:Int)+1-(xss.getD (j+1) []).getD 0 0 else 0
def codeL (xss:List (List Int)):List Int:=tab' (codeAt xss) (xss.length-1)
def c_m_l (f:List V→List V) (q:List V→Prop):Contract:=fun
 |[.slc false 24 (.slc false 2 (.int .i64 0) []) a0]=>some ([q a0],.slc true 2 (.int .i64 0) (f a0))
 |_=>none
def f_code (es:List V):List V:=I (codeL (unII es))
def q_code (es:List V):Prop:=∃xss,es=II false xss∧1≤xss.length∧xss.length≤1000000∧∀j,j<xss.length→0≤(xss.getD j []).getD 0 0∧(xss.getD j []).getD 0 0≤1000000
set_option maxHeartbeats 1000000 in
set_option maxRecDepth 100000 in
theorem s_impl_codeOf:Sat Try.prog 126 (c_m_l f_code q_code):=by
 intro args ps r h hp
 unfold c_m_l at h
 split at h
 ·rename_i a0
  simp only [Option.some.injEq,Prod.mk.injEq] at h
  obtain ⟨rfl,rfl⟩:=h
  obtain ⟨xss,hx,n1,n2,hb⟩:q_code a0:=(alls_cons.1 hp).1
  have al:a0.length=xss.length:=by rw [hx,II_length]
  have e1:f_code a0=I (codeL xss):=by rw [f_code,hx,unII_II]
  have ga:∀i,a0.getD i (.slc false 2 (.int .i64 0) [])= .slc false 2 (.int .i64 0) (I (xss.getD i [])):=fun i=>by rw [hx,II_getD]
  refine fnOk_ofI (T:=tab) (B:=[]) (Bi:=[]) [0,2,3,4,5] Try.func126 rfl rfl (by kernel_rfl) (Nat.le_of_ble_eq_true rfl) mixed tabOk (by exact bookNil) (by exact bookINil) (by kernel_rfl) ?_
  intro L lp rr hL hr hf hlp
  conv=>cbv
  refine hlp (List V×Int) _ _ _ [0,3,4] (fun x=>[(0,none,.val (.slc false 24 (.slc false 2 (.int .i64 0) []) a0)),(3,none,.val (.slc true 2 (.int .i64 0) x.1)),(4,none,.val (.int .i64 x.2))])
   (fun x=>1≤x.2∧x.2≤xss.length∧x.1=I (tab' (codeAt xss) (x.2-1).toNat)) (fun x=>(xss.length-x.2).toNat) (([],1)) (by subst hL;rfl) ?_ ?_
  ·exact ⟨by simp,by simp only;omega,rfl⟩
  rintro ⟨es,i⟩ ⟨i0,i1,hI⟩ hfx ag hag
  simp only at i0 i1 hI
  have hel:es.length=(i-1).toNat:=by rw [hI,I_length,tab_len]
  conv=>cbv
  obtain ⟨E,hE⟩:∃E,E=xss.getD i.toNat []:=⟨_,rfl⟩
  simp only [stdEqs hL,imp_self,true_and,and_true,bif_or,bif_and,Bool.or_eq_true,Bool.or_eq_false_iff,Bool.and_eq_true,Bool.and_eq_false_iff,decide_eq_true_eq,decide_eq_false_iff_not,Bool.not_eq_true',Bool.not_eq_false',beq_iff_eq,beq_eq_false_iff_ne,ne_eq,toNat0,toNat1,ok_int,toI_int,I_frzs,I_length,I_getD,ok_ints,toL_slc,al,ga,←hE,ok_ints]
  have hco:codeAt xss (i-1).toNat=if 1<E.length then i-E.getD 0 0 else 0:=by
   rw [codeAt,show (i-1).toNat+1=i.toNat by omega,←hE,show ((i-1).toNat:Int)+1=i by omega]
  have fin:∀z,i<xss.length→z=codeAt xss (i-1).toNat→ag (keepS [0,3,4] [(0,none,.val (.slc false 24 (.slc false 2 (.int .i64 0) []) a0)),(3,none,.val (.slc true 2 (.int .i64 0) (es++[V.int .i64 z]))),(4,none,.val (.int .i64 (i+1)))]):=by
   intro z h hz
   refine hag (_,i+1) ⟨by simp only;omega,by simp only;omega,?_⟩ (by simp only;omega)
   simp only
   rw [show (i+1-1).toNat=(i-1).toNat+1 by omega,tab_succ,hI,←I_append,hz]
   rfl
  refine ⟨fun h=> ?_,fun h=> ?_⟩
  ·have hbb:=hb i.toNat (by omega)
   rw [←hE] at hbb
   rw [wrap_id (n:=i+1) (by omega) (by omega)]
   have hes:=hel
   refine ⟨by omega,h,fun h2=> ?_,fun h2=> ?_⟩
   ·rw [wrap_id (n:=i-E.getD 0 0) (by omega) (by omega)]
    refine ⟨by omega,h,by omega,by omega,noown_one _,by simp only [List.length_cons,List.length_nil];omega,solid_one _,?_⟩
    exact fin _ h (by rw [hco,if_pos (by omega)])
   ·refine ⟨noown_one _,by simp only [List.length_cons,List.length_nil];omega,solid_one _,?_⟩
    exact fin _ h (by rw [hco,if_neg (by omega)])
  ·rw [hr,e1,hI,codeL,show (i-1).toNat=xss.length-1 by omega]
 ·cases h
def codeK (xs:List Int) (k:Nat):List Int:=tab' (fun j=>cd (mul xs) (j+1) (j+1)) (k-1)
theorem nat2_getD (l:List Nat) (i:Nat):(nat2 l).getD i 0=(l.getD i 0:Nat):=by
 rw [nat2,List.getD_eq_getElem?_getD,List.getD_eq_getElem?_getD,List.getElem?_map]
 cases l[i]? <;>rfl
theorem codeL_prox {xs:List Int} (h:Br xs) (k:Nat):codeL (proxL (firstK xs k))=codeK xs k:=by
 rw [proxL_first,codeL,codeK,tab_len]
 refine tab_congr fun j hj=> ?_
 rw [codeAt,tab_get _ _ _ _ (by omega),cd_code (mul_good h).1 (by omega) (by omega),nat2_getD,nat2,List.length_map,Int.natCast_add]
 rfl
theorem prs_lt {M:Nat→Nat} {i j:Nat}:∀a∈prs M i j,a<j:=by
 intro a ha
 simp only [prs,List.mem_filter,List.mem_range] at ha
 omega
theorem cd_in (M:Nat→Nat) (i j:Nat):0≤cd M i j∧cd M i j≤j:=by
 rw [cd]
 split
 ·omega
 ·rename_i a l h
  have:=prs_lt a (by rw [h];simp)
  omega
theorem q_code_prox (xs:List Int) {k:Nat} (h1:1≤k) (h2:k≤1000000):q_code (II false (proxL (firstK xs k))):=by
 refine ⟨_,rfl,?_,?_,?_⟩
 ·rw [proxL_first,tab_len];exact h1
 ·rw [proxL_first,tab_len];exact h2
 ·intro j hj
  rw [proxL_first,tab_len] at hj
  rw [proxL_first,tab_get _ _ _ _ hj,nat2_getD]
  cases hh:prs (mul xs) j j with
  |nil=>simp
  |cons a l=>
   have:=prs_lt a (by rw [hh];simp:a∈prs (mul xs) j j)
   simp
   omega
def cdP (xs:List Int) (i:Nat) (k:Nat):List Int:=tab' (fun t=>cd (mul xs) i (t+1)) (k-1)
def f_codeK (es:List V) (k:Int):List V:=I (codeK (unI es) k.toNat)
set_option maxHeartbeats 1000000 in
set_option maxRecDepth 100000 in
theorem s_spec_l06Code:Sat Try.prog 117 (c_Bi_l f_codeK q_first):=by
 intro args ps r h hp
 unfold c_Bi_l at h
 split at h
 ·rename_i a0 a1
  simp only [Option.some.injEq,Prod.mk.injEq] at h
  obtain ⟨rfl,rfl⟩:=h
  obtain ⟨hq,k1,k2⟩:q_first a0 a1:=(alls_cons.1 hp).1
  have hqb:=hq
  obtain ⟨xs,hxs,hb⟩:=hq
  have g1:V.frzs a0=a0:=by rw [hxs,I_frzs]
  obtain ⟨k,hk⟩:∃k:Nat,k=a1.toNat:=⟨_,rfl⟩
  obtain ⟨ms,hms⟩:∃ms,ms=I (firstK xs k):=⟨_,rfl⟩
  have e1:f_first a0 a1=ms:=by rw [f_first,hxs,unI_I,hms,hk]
  have e2:f_codeK a0 a1=I (codeK xs k):=by rw [f_codeK,hxs,unI_I,hk]
  have ml:ms.length=k:=by rw [hms,I_length,firstK_len]
  have gm:∀i,i<k→ms.getD i (.int .i64 0)= .int .i64 (mul xs i):=fun i hi=>by rw [hms,I_getD,firstK_mul,tab_get _ _ _ _ hi]
  obtain ⟨hg,_⟩:=mul_good hb
  have h64:=mul_le hb
  generalize H_f_first:f_first=F_f_first
  generalize H_q_first:q_first=F_q_first
  refine fnOk_ofI (T:=tab) (B:=[(118,c_Bi_l F_f_first F_q_first)]) (Bi:=[]) [0,1,2,4,5,6,7,8,9] Try.func117 rfl rfl (by kernel_rfl) (Nat.le_of_ble_eq_true rfl) mixed tabOk (by subst H_f_first H_q_first;exact (bookCons s_spec_l06Sequence bookNil)) (by subst H_f_first H_q_first;exact bookINil) (by kernel_rfl) ?_
  intro L lp rr hL hr hf hlp
  conv=>cbv
  have hF:F_f_first a0 a1=ms:=by rw [←H_f_first,e1]
  simp only [stdEqs hL,imp_self,true_and,and_true,bif_or,bif_and,Bool.or_eq_true,Bool.or_eq_false_iff,Bool.and_eq_true,Bool.and_eq_false_iff,decide_eq_true_eq,decide_eq_false_iff_not,Bool.not_eq_true',Bool.not_eq_false',beq_iff_eq,beq_eq_false_iff_ne,ne_eq,toNat0,toNat1,ok_int,toI_int,I_frzs,I_length,I_getD,ok_ints,toL_slc,hF,g1]
  have w0:IntKind.wrap .i64 (a1-1)=a1-1:=wrap_id (by omega) (by omega)
  rw [w0]
  refine ⟨by omega,by omega,by omega,by rw [←H_q_first];exact ⟨hqb,k1,k2⟩,?_⟩
  refine hlp (List V×Int) _ _ _ [1,5,6,7] (fun x=>[(1,none,.val (.int .i64 a1)),(5,none,.val (.slc true 2 (.int .i64 0) x.1)),(6,none,.val (.slc true 2 (.int .i64 0) ms)),(7,none,.val (.int .i64 x.2))])
   (fun x=>0≤x.2∧x.2≤k∧x.1=I (cdP xs x.2.toNat k)) (fun x=>(k-x.2).toNat) ((_,0)) (by subst hL;rfl) ?_ ?_
  ·refine ⟨by simp,by simp only;omega,?_⟩
   simp only
   rw [show (a1-1).toNat=k-1 by omega]
   apply List.ext_getElem?
   intro t
   by_cases ht:t<k-1
   ·rw [List.getElem?_replicate,if_pos ht,I,List.getElem?_map,cdP,tab_get? _ _ _ ht]
    simp [cd,prs]
   ·rw [List.getElem?_eq_none (by rw [List.length_replicate];omega),List.getElem?_eq_none (by rw [I_length,cdP,tab_len];omega)]
  rintro ⟨es,i⟩ ⟨i0,i1,hI⟩ hfx ag hag
  simp only at i0 i1 hI
  conv=>cbv
  simp only [stdEqs hL,imp_self,true_and,and_true,bif_or,bif_and,Bool.or_eq_true,Bool.or_eq_false_iff,Bool.and_eq_true,Bool.and_eq_false_iff,decide_eq_true_eq,decide_eq_false_iff_not,Bool.not_eq_true',Bool.not_eq_false',beq_iff_eq,beq_eq_false_iff_ne,ne_eq,toNat0,toNat1,ok_int,toI_int,I_frzs,I_length,I_getD,ok_ints,toL_slc,]
  obtain ⟨n,hn⟩:∃n:Nat,n=i.toNat:=⟨i.toNat,rfl⟩
  rw [←hn] at hI
  refine ⟨fun h=> ?_,fun h=> ?_⟩
  ·rw [wrap_id (n:=i+1) (by omega) (by omega)]
   refine hlp (List V×Int×Int) _ _ _ [1,5,6,7,8,9] (fun x=>[(1,none,.val (.int .i64 a1)),(5,none,.val (.slc true 2 (.int .i64 0) x.1)),(6,none,.val (.slc true 2 (.int .i64 0) ms)),(7,none,.val (.int .i64 i)),(8,none,.val (.int .i64 x.2.1)),(9,none,.val (.int .i64 x.2.2))])
    (fun x=>i+1≤x.2.2∧x.2.2≤k∧x.2.1=(sumM (mul xs) n (x.2.2.toNat-(n+1)):Nat)∧x.2.1≤mul xs n∧x.1=I (tab' (fun t=>cd (mul xs) (if t+1<x.2.2.toNat then n+1 else n) (t+1)) (k-1))) (fun x=>(k-x.2.2).toNat) ((es,0,i+1)) (by subst hL;rfl) ?_ ?_
   ·refine ⟨by simp,by simp only;omega,?_,?_,?_⟩
    ·simp only;rw [show (i+1).toNat-(n+1)=0 by omega];rfl
    ·simp only;omega
    ·simp only
     rw [hI,cdP]
     congr 1
     refine tab_congr fun t _=> ?_
     split
     ·rw [cd_stay (by omega)]
     ·rfl
   rintro ⟨es2,sm,j⟩ ⟨j0,j1,hS,hM,hI2⟩ hfx2 ag2 hag2
   simp only at j0 j1 hS hM hI2
   have hMn:=h64 n
   have hMj:=h64 j.toNat
   have hl2:es2.length=k-1:=by rw [hI2,I_length,tab_len]
   have gn:=gm i.toNat (by omega)
   rw [←hn] at gn
   have ge:∀t,es2.getD t (.int .i64 0)= .int .i64 ((unI es2).getD t 0):=fun t=>by rw [hI2,I_getD,unI_I]
   conv=>cbv
   simp only [stdEqs hL,imp_self,true_and,and_true,bif_or,bif_and,Bool.or_eq_true,Bool.or_eq_false_iff,Bool.and_eq_true,Bool.and_eq_false_iff,decide_eq_true_eq,decide_eq_false_iff_not,Bool.not_eq_true',Bool.not_eq_false',beq_iff_eq,beq_eq_false_iff_ne,ne_eq,toNat0,toNat1,ok_int,toI_int,I_frzs,I_length,I_getD,ok_ints,toL_slc,ml,hl2,←hn,gn]
   refine ⟨fun hj=> ?_,fun hj=> ?_⟩
   ·have gj:=gm j.toNat (by omega)
    have hs1:sumM (mul xs) n (j.toNat-n)=sumM (mul xs) n (j.toNat-(n+1))+mul xs j.toNat:=by
     rw [show j.toNat-n=(j.toNat-(n+1))+1 by omega,sumM,show n+1+(j.toNat-(n+1))=j.toNat by omega]
    simp only [stdEqs hL,imp_self,true_and,and_true,bif_or,bif_and,Bool.or_eq_true,Bool.or_eq_false_iff,Bool.and_eq_true,Bool.and_eq_false_iff,decide_eq_true_eq,decide_eq_false_iff_not,Bool.not_eq_true',Bool.not_eq_false',beq_iff_eq,beq_eq_false_iff_ne,ne_eq,toNat0,toNat1,ok_int,toI_int,I_frzs,I_length,I_getD,ok_ints,toL_slc,gj,ge]
    rw [wrap_id (n:=sm+mul xs j.toNat) (by omega) (by omega),wrap_id (n:=j+1) (by omega) (by omega),wrap_id (n:=i+1) (by omega) (by omega),wrap_id (n:=j-1) (by omega) (by omega),wrap_id (n:=j-i) (by omega) (by omega)]
    have nxt:sm+mul xs j.toNat=(sumM (mul xs) n ((j+1).toNat-(n+1)):Nat):=by
     rw [show (j+1).toNat-(n+1)=j.toNat-n by omega,hs1,hS,Int.natCast_add]
    refine ⟨by omega,by omega,by omega,by omega,by omega,by omega,fun hlt=> ?_,fun hge=>⟨fun h3=> ?_,fun h3=> ?_⟩⟩
    ·refine hag (_,i+1) ⟨by simp only;omega,by simp only;omega,?_⟩ (by simp only;omega)
     simp only
     rw [show (i+1).toNat=n+1 by omega,hI2,cdP]
     congr 1
     refine tab_congr fun t _=> ?_
     split
     ·rfl
     ·rename_i htj
      rw [cd_stay]
      rintro ⟨h5,h6⟩
      exact prx_mono hg (j:=j.toNat) (j':=t+1) (by omega) (by omega) (by omega) h6
    ·refine ⟨by omega,by omega,by omega,?_⟩
     refine hag2 (_,_,j+1) ⟨by simp only;omega,by simp only;omega,nxt,by simp only;omega,?_⟩ (by simp only;omega)
     simp only
     have hc:=cd_step hg (i:=n) (j:=j.toNat) (by omega) (by omega)
     rw [hI2,I_set,tab_set]
     congr 1
     refine tab_congr fun t _=> ?_
     by_cases htj:t=(j-1).toNat
     ·rw [if_pos htj,if_pos (by omega),show t+1=j.toNat by omega,hc]
      omega
     ·rw [if_neg htj]
      by_cases htl:t+1<j.toNat
      ·rw [if_pos htl,if_pos (by omega)]
      ·rw [if_neg htl,if_neg (by omega)]
    ·refine hag2 (_,_,j+1) ⟨by simp only;omega,by simp only;omega,nxt,by simp only;omega,?_⟩ (by simp only;omega)
     simp only
     rw [hI2]
     congr 1
     refine tab_congr fun t _=> ?_
     by_cases htl:t+1<j.toNat
     ·rw [if_pos htl,if_pos (by omega)]
     ·rw [if_neg htl]
      by_cases htl2:t+1<(j+1).toNat
      ·rw [if_pos htl2,cd_stay (by omega)]
      ·rw [if_neg htl2]
   ·rw [wrap_id (n:=i+1) (by omega) (by omega)]
    refine hag (_,i+1) ⟨by simp only;omega,by simp only;omega,?_⟩ (by simp only;omega)
    simp only
    rw [show (i+1).toNat=n+1 by omega,hI2,cdP]
    congr 1
    refine tab_congr fun t ht=> ?_
    rw [if_pos (by omega)]
  ·rw [hr,e2,hI,show n=k by omega,codeK,cdP]
   congr 2
   refine tab_congr fun t ht=> ?_
   rw [cd,cd,show min k (t+1-1)=min (t+1) (t+1-1) by omega]
 ·cases h
end Go.Ax
set_option linter.all false
namespace Go.Ax
open Go.Proofs
end Go.Ax
set_option linter.all false
namespace Go.Ax
open Go.Proofs
section
variable {xs:List Int}
end
end Go.Ax
set_option linter.all false
namespace Go.Ax
open Go.Proofs
def U8 (xs:List Int):List V:=xs.map (.int .u8)
theorem U8_getD (xs:List Int) (i:Nat):(U8 xs).getD i (.int .u8 0)= .int .u8 (xs.getD i 0):=by
 simp only [U8,List.getD_eq_getElem?_getD,List.getElem?_map]
 cases xs[i]? <;>rfl
def IsU (es:List V):Prop:=∃xs:List Int,es=U8 xs∧(∀x∈xs,0≤x∧x≤255)∧xs.length≤4096
def nxH (h:Int):Int:=IntKind.u64.wrap (IntKind.u64.wrap (h*6364136223846793005)+1442695040888963407)
def nxX (h:Int):Int:=IntKind.i64.wrap (bitAnd .u64 (shiftR .u64 (nxH h) 33) 16777215)
theorem bitAnd_le (a:Int):0≤bitAnd .u64 a 16777215∧bitAnd .u64 a 16777215≤16777215:=by
 have h:(BitVec.ofInt IntKind.u64.bits a&&&BitVec.ofInt IntKind.u64.bits 16777215).toNat≤16777215:=by
  rw [BitVec.toNat_and]
  exact Nat.le_trans Nat.and_le_right (by decide)
 rw [bitAnd,IntWalk.u64_in _ ⟨by omega,by omega⟩]
 omega
def f0_nx (es:List V) (a h n:Int):Int:=if n<1 then 0 else (if a<es.length then IntKind.i64.wrap (nxX h+IntKind.i64.wrap ((es.getD a.toNat (.int .u8 0)).toI)) else nxX h).tmod n
def f1_nx (es:List V) (a _ n:Int):Int:=if n<1 then a else if a<es.length then a+1 else a
def f2_nx (_:List V) (_ h n:Int):Int:=if n<1 then h else nxH h
def q_src (es:List V) (a _:Int):Prop:=IsU es∧0≤a∧a≤es.length
def q_nx (es:List V) (a h _:Int):Prop:=q_src es a h
def ic_nx (f0 f1 f2:List V→Int→Int→Int→Int) (q:List V→Int→Int→Int→Prop):IContract:=fun
 |[.box 111 (.agg [.slc false 5 (.int .u8 0) a0,.int .i64 a1,.int .u64 a2]),.int .i64 a3]=>some ([q a0 a1 a2 a3],.int .i64 (f0 a0 a1 a2 a3),.box 111 (.agg [.slc false 5 (.int .u8 0) a0,.int .i64 (f1 a0 a1 a2 a3),.int .u64 (f2 a0 a1 a2 a3)]))
 |_=>none
theorem U8_byte {es:List V} (h:IsU es) (i:Nat):0≤(es.getD i (.int .u8 0)).toI∧(es.getD i (.int .u8 0)).toI≤255:=by
 obtain ⟨xs,hxs,hb,_⟩:=h
 rw [hxs,U8_getD]
 show 0≤xs.getD i 0∧xs.getD i 0≤255
 rw [List.getD_eq_getElem?_getD]
 by_cases hi:i<xs.length
 ·rw [List.getElem?_eq_getElem hi]
  exact hb _ (List.getElem_mem hi)
 ·rw [List.getElem?_eq_none (by omega)]
  exact ⟨by decide,by decide⟩
theorem f0_nx_in {es:List V} {a h n:Int} (hq:q_src es a h) (hn:1≤n):0≤f0_nx es a h n∧f0_nx es a h n<n:=by
 have h1:=bitAnd_le (shiftR .u64 (nxH h) 33)
 have h2:=U8_byte hq.1 a.toNat
 have hx:nxX h=bitAnd .u64 (shiftR .u64 (nxH h) 33) 16777215:=by rw [nxX,IntWalk.i64_in _ ⟨by omega,by omega⟩]
 rw [f0_nx,if_neg (by omega)]
 have key:∀x:Int,0≤x→0≤x.tmod n∧x.tmod n<n:=fun x hx0=>⟨Int.tmod_nonneg _ hx0,Int.tmod_lt_of_pos _ (by omega)⟩
 split
 ·rw [IntWalk.i64_in (es.getD a.toNat (.int .u8 0)).toI ⟨by omega,by omega⟩,IntWalk.i64_in _ ⟨by omega,by omega⟩]
  exact key _ (by omega)
 ·exact key _ (by omega)
theorem src_nx {es:List V} {a h n:Int} (hq:q_src es a h):q_src es (f1_nx es a h n) (f2_nx es a h n):=by
 obtain ⟨h1,h2,h3⟩:=hq
 refine ⟨h1,?_,?_⟩
 ·rw [f1_nx];split<;>(try split)<;>omega
 ·rw [f1_nx];split<;>(try split)<;>omega
def f0_pk (es:List V) (a h:Int) (l:List V):Int:=(unI l).getD (f0_nx es a h l.length).toNat 0
def f1_pk (es:List V) (a h:Int) (l:List V):Int:=f1_nx es a h l.length
def f2_pk (es:List V) (a h:Int) (l:List V):Int:=f2_nx es a h l.length
def q_pk (es:List V) (a h:Int) (l:List V):Prop:=q_src es a h∧IsI l∧1≤l.length∧l.length≤2147483647
def ic_pk (f0 f1 f2:List V→Int→Int→List V→Int) (q:List V→Int→Int→List V→Prop):IContract:=fun
 |[.box 111 (.agg [.slc false 5 (.int .u8 0) a0,.int .i64 a1,.int .u64 a2]),.slc false 2 (.int .i64 0) a3]=>some ([q a0 a1 a2 a3],.int .i64 (f0 a0 a1 a2 a3),.box 111 (.agg [.slc false 5 (.int .u8 0) a0,.int .i64 (f1 a0 a1 a2 a3),.int .u64 (f2 a0 a1 a2 a3)]))
 |_=>none
theorem sh_src {t:TypeId} {c:V} {a a' h h':Int}:Sh (.box t (.agg [c,.int .i64 a,.int .u64 h])) (.box t (.agg [c,.int .i64 a',.int .u64 h'])):=
 .box _ _ _ (.agg _ _ rfl fun i x y hx hy=>by
  match i with
  |0=>simp at hx hy;subst hx;subst hy;exact .refl _
  |1=>simp at hx hy;subst hx;subst hy;exact .scal _ _ rfl rfl
  |2=>simp at hx hy;subst hx;subst hy;exact .scal _ _ rfl rfl
  |n+3=>simp at hx)
set_option maxHeartbeats 1000000 in
set_option maxRecDepth 100000 in
theorem s_spec_l01Next:SatI Try.prog 52 0 (ic_nx f0_nx f1_nx f2_nx q_nx):=by
 intro args ps r y h hp
 unfold ic_nx at h
 split at h
 ·rename_i a0 a1 a2 a3
  simp only [Option.some.injEq,Prod.mk.injEq] at h
  obtain ⟨rfl,rfl,rfl⟩:=h
  have hq:q_src a0 a1 a2:=(alls_cons.1 hp).1
  refine fnIB_of (T:=tab) (B:=[]) (Bi:=[]) 0 [0,1,4,5] Try.func52 rfl rfl (by kernel_rfl) (Nat.le_of_ble_eq_true rfl) mixed tabOk (by exact bookNil) (by exact bookINil) (by kernel_rfl) rfl rfl rfl sh_src rfl ?_
  intro L lp rr yy hL hr hy hf hlp
  conv=>cbv
  simp only [stdEqs hL,imp_self,true_and,and_true,bif_or,bif_and,Bool.or_eq_true,Bool.or_eq_false_iff,Bool.and_eq_true,Bool.and_eq_false_iff,decide_eq_true_eq,decide_eq_false_iff_not,Bool.not_eq_true',Bool.not_eq_false',beq_iff_eq,beq_eq_false_iff_ne,ne_eq,toNat0,toNat1,ok_int,toI_int,I_frzs,I_length,I_getD,ok_ints,toL_slc,true_and]
  obtain ⟨⟨xs,hxs,hb,hl⟩,h0,h1⟩:=hq
  have hal:a0.length=xs.length:=by rw [hxs,U8,List.length_map]
  refine ⟨fun h=> ?_,fun h=>⟨by decide,fun h2=>⟨h0,h2,?_,by omega,?_⟩,fun h2=>⟨by omega,?_⟩⟩⟩
  ·rw [hr,hy,f0_nx,f1_nx,f2_nx,if_pos h,if_pos h,if_pos h]
   exact ⟨rfl,rfl⟩
  ·rw [hxs,U8_getD]
   rfl
  ·rw [hr,hy,f0_nx,f1_nx,f2_nx,if_neg h,if_neg h,if_neg h,if_pos h2,if_pos h2,wrap_id (n:=a1+1) (by omega) (by omega)]
   exact ⟨rfl,rfl⟩
  ·rw [hr,hy,f0_nx,f1_nx,f2_nx,if_neg h,if_neg h,if_neg h,if_neg h2,if_neg h2]
   exact ⟨rfl,rfl⟩
 ·cases h
set_option maxHeartbeats 1000000 in
set_option maxRecDepth 100000 in
theorem s_spec_l01Pick:SatI Try.prog 51 0 (ic_pk f0_pk f1_pk f2_pk q_pk):=by
 intro args ps r y h hp
 unfold ic_pk at h
 split at h
 ·rename_i a0 a1 a2 a3
  simp only [Option.some.injEq,Prod.mk.injEq] at h
  obtain ⟨rfl,rfl,rfl⟩:=h
  have hq:q_pk a0 a1 a2 a3:=(alls_cons.1 hp).1
  obtain ⟨n,hn⟩:∃n:Int,n=a3.length:=⟨_,rfl⟩
  generalize H_f0_nx:f0_nx=F_f0_nx
  generalize H_f1_nx:f1_nx=F_f1_nx
  generalize H_f2_nx:f2_nx=F_f2_nx
  generalize H_q_nx:q_nx=F_q_nx
  refine fnIB_of (T:=tab) (B:=[]) (Bi:=[(52,0,false,ic_nx F_f0_nx F_f1_nx F_f2_nx F_q_nx)]) 0 [0,1,4] Try.func51 rfl rfl (by kernel_rfl) (Nat.le_of_ble_eq_true rfl) mixed tabOk (by subst H_f0_nx H_f1_nx H_f2_nx H_q_nx;exact bookNil) (by subst H_f0_nx H_f1_nx H_f2_nx H_q_nx;exact (bookICons s_spec_l01Next bookINil)) (by kernel_rfl) rfl rfl rfl sh_src rfl ?_
  intro L lp rr yy hL hr hy hf hlp
  conv=>cbv
  simp only [stdEqs hL,imp_self,true_and,and_true,bif_or,bif_and,Bool.or_eq_true,Bool.or_eq_false_iff,Bool.and_eq_true,Bool.and_eq_false_iff,decide_eq_true_eq,decide_eq_false_iff_not,Bool.not_eq_true',Bool.not_eq_false',beq_iff_eq,beq_eq_false_iff_ne,ne_eq,toNat0,toNat1,ok_int,toI_int,I_frzs,I_length,I_getD,ok_ints,toL_slc,←hn]
  subst H_f0_nx H_f1_nx H_f2_nx H_q_nx
  obtain ⟨h1,⟨l,hl⟩,h2,h3⟩:=hq
  obtain ⟨k1,k2⟩:=f0_nx_in (n:=n) h1 (by omega)
  refine ⟨h1,k1,k2,by rw [hl,I_getD];rfl,?_,?_⟩
  ·rw [hr,f0_pk,←hn,hl,I_getD,unI_I]
   rfl
  ·rw [hy,f1_pk,f2_pk,←hn]
 ·cases h
def frS (h b:Int):Int:=IntKind.u64.wrap (IntKind.u64.wrap (IntKind.u64.wrap (h*1099511628211)+IntKind.u64.wrap b)+11)
def frH (xs:List Int) (n:Nat):Int:=(xs.take n).foldl frS (IntKind.u64.wrap (9341+IntKind.u64.wrap xs.length))
theorem frH_succ {xs:List Int} {n:Nat} (h:n<xs.length):frH xs (n+1)=frS (frH xs n) (xs.getD n 0):=by
 rw [frH,List.take_succ_eq_append_getElem h,List.foldl_append,←frH,List.getD_eq_getElem?_getD,List.getElem?_eq_getElem h]
 rfl
def f0_from (a:List V):Int:=frH (a.map V.toI) a.length
def c_from (f0:List V→Int) (q:List V→Prop):Contract:=fun
 |[.slc false 5 (.int .u8 0) a0]=>some ([q a0],.box 111 (.agg [.slc false 5 (.int .u8 0) a0,.int .i64 0,.int .u64 (f0 a0)]))
 |_=>none
set_option maxHeartbeats 1000000 in
set_option maxRecDepth 100000 in
theorem s_spec_l01From:Sat Try.prog 49 (c_from f0_from IsU):=by
 intro args ps r h hp
 unfold c_from at h
 split at h
 ·rename_i a0
  simp only [Option.some.injEq,Prod.mk.injEq] at h
  obtain ⟨rfl,rfl⟩:=h
  have hq:IsU a0:=(alls_cons.1 hp).1
  obtain ⟨n,hn⟩:∃n:Int,n=a0.length:=⟨_,rfl⟩
  obtain ⟨h0,hh0⟩:∃h0:Int,h0=IntKind.u64.wrap (9341+IntKind.u64.wrap n):=⟨_,rfl⟩
  obtain ⟨xs,hxs,hb,hl⟩:=hq
  have hal:a0.length=xs.length:=by rw [hxs,U8,List.length_map]
  refine fnOk_ofI (T:=tab) (B:=[]) (Bi:=[]) [0,2,3,4] Try.func49 rfl rfl (by kernel_rfl) (Nat.le_of_ble_eq_true rfl) mixed tabOk (by exact bookNil) (by exact bookINil) (by kernel_rfl) ?_
  intro L lp rr hL hr hf hlp
  conv=>cbv
  simp only [stdEqs hL,imp_self,true_and,and_true,bif_or,bif_and,Bool.or_eq_true,Bool.or_eq_false_iff,Bool.and_eq_true,Bool.and_eq_false_iff,decide_eq_true_eq,decide_eq_false_iff_not,Bool.not_eq_true',Bool.not_eq_false',beq_iff_eq,beq_eq_false_iff_ne,ne_eq,toNat0,toNat1,ok_int,toI_int,I_frzs,I_length,I_getD,ok_ints,toL_slc,←hn,←hh0]
  refine hlp (Int×Int) _ _ _ [0,3,4] (fun x=>[(0,none,.val (.slc false 5 (.int .u8 0) a0)),(3,none,.val (.box 111 (.agg [.slc false 5 (.int .u8 0) a0,.int .i64 0,.int .u64 x.1]))),(4,none,.val (.int .i64 x.2))])
   (fun x=>0≤x.2∧x.2≤n∧x.1=frH xs x.2.toNat) (fun x=>(n-x.2).toNat) ((h0,0)) (by subst hL;rfl) ?_ ?_
  ·refine ⟨by simp,by simp only;omega,?_⟩
   simp only [frH,hh0,hn,hal]
   rfl
  rintro ⟨hh,i⟩ ⟨i0,i1,hI⟩ hfx ag hag
  simp only at i0 i1 hI
  conv=>cbv
  simp only [stdEqs hL,imp_self,true_and,and_true,bif_or,bif_and,Bool.or_eq_true,Bool.or_eq_false_iff,Bool.and_eq_true,Bool.and_eq_false_iff,decide_eq_true_eq,decide_eq_false_iff_not,Bool.not_eq_true',Bool.not_eq_false',beq_iff_eq,beq_eq_false_iff_ne,ne_eq,toNat0,toNat1,ok_int,toI_int,I_frzs,I_length,I_getD,ok_ints,toL_slc,←hn]
  refine ⟨fun h=>⟨i0,h.1,by rw [hxs,U8_getD];rfl,?_⟩,fun h=> ?_⟩
  ·rw [wrap_id (n:=i+1) (by omega) (by omega)]
   refine hag (_,i+1) ⟨by simp only;omega,by simp only;omega,?_⟩ (by simp only;omega)
   simp only
   rw [show (i+1).toNat=i.toNat+1 by omega,frH_succ (by omega),←hI,hxs,U8_getD]
   rfl
  ·have hm:(U8 xs).map V.toI=xs:=by simp [U8,Function.comp_def,V.toI]
   rw [hr,f0_from,hI,show i.toNat=a0.length by omega,hxs,hm]
 ·cases h
end Go.Ax
set_option linter.all false
namespace Go.Ax
open Go.Proofs
def c_u_b (f:List V→Bool) (q:List V→Prop):Contract:=fun
 |[.slc false 5 (.int .u8 0) a0]=>some ([q a0],.bool (f a0))
 |_=>none
def f_big (a:List V):Bool:=decide ((4096:Int)<a.length)
def q_any (_:List V):Prop:=True
set_option maxHeartbeats 1000000 in
set_option maxRecDepth 100000 in
theorem s_laws_big:Sat Try.prog 6 (c_u_b f_big q_any):=by
 intro args ps r h hp
 unfold c_u_b at h
 split at h
 ·rename_i a0
  simp only [Option.some.injEq,Prod.mk.injEq] at h
  obtain ⟨rfl,rfl⟩:=h
  obtain ⟨n,hn⟩:∃n:Int,n=a0.length:=⟨_,rfl⟩
  refine fnOk_ofI (T:=tab) (B:=[]) (Bi:=[]) [0,2] Try.func6 rfl rfl (by kernel_rfl) (Nat.le_of_ble_eq_true rfl) mixed tabOk (by exact bookNil) (by exact bookINil) (by kernel_rfl) ?_
  intro L lp rr hL hr hf hlp
  conv=>cbv
  simp only [stdEqs hL,imp_self,true_and,and_true,bif_or,bif_and,Bool.or_eq_true,Bool.or_eq_false_iff,Bool.and_eq_true,Bool.and_eq_false_iff,decide_eq_true_eq,decide_eq_false_iff_not,Bool.not_eq_true',Bool.not_eq_false',beq_iff_eq,beq_eq_false_iff_ne,ne_eq,toNat0,toNat1,ok_int,toI_int,I_frzs,I_length,I_getD,ok_ints,toL_slc,←hn]
  rw [hr,f_big,←hn]
 ·cases h
def f_like (a b:List V):Bool:=decide (unI a=unI b)
def q_like (a b:List V):Prop:=IsI a∧IsI b∧a.length≤2147483647
set_option maxHeartbeats 1000000 in
set_option maxRecDepth 100000 in
theorem s_laws_likeInts:Sat Try.prog 19 (c_ll_b f_like q_like):=by
 intro args ps r h hp
 unfold c_ll_b at h
 split at h
 ·rename_i a0 a1
  simp only [Option.some.injEq,Prod.mk.injEq] at h
  obtain ⟨rfl,rfl⟩:=h
  obtain ⟨⟨xs,hxs⟩,⟨ys,hys⟩,hl⟩:q_like a0 a1:=(alls_cons.1 hp).1
  obtain ⟨n,hn⟩:∃n:Int,n=a0.length:=⟨_,rfl⟩
  obtain ⟨m,hm⟩:∃m:Int,m=a1.length:=⟨_,rfl⟩
  have hxl:a0.length=xs.length:=by rw [hxs,I_length]
  have hyl:a1.length=ys.length:=by rw [hys,I_length]
  have gx:∀k,a0.getD k (.int .i64 0)= .int .i64 (xs.getD k 0):=fun k=>by rw [hxs,I_getD]
  have gy:∀k,a1.getD k (.int .i64 0)= .int .i64 (ys.getD k 0):=fun k=>by rw [hys,I_getD]
  have hf0:f_like a0 a1=decide (xs=ys):=by rw [f_like,hxs,hys,unI_I,unI_I]
  refine fnOk_ofI (T:=tab) (B:=[]) (Bi:=[]) [0,1,4,5] Try.func19 rfl rfl (by kernel_rfl) (Nat.le_of_ble_eq_true rfl) mixed tabOk (by exact bookNil) (by exact bookINil) (by kernel_rfl) ?_
  intro L lp rr hL hr hf hlp
  conv=>cbv
  simp only [stdEqs hL,imp_self,true_and,and_true,bif_or,bif_and,Bool.or_eq_true,Bool.or_eq_false_iff,Bool.and_eq_true,Bool.and_eq_false_iff,decide_eq_true_eq,decide_eq_false_iff_not,Bool.not_eq_true',Bool.not_eq_false',beq_iff_eq,beq_eq_false_iff_ne,ne_eq,toNat0,toNat1,ok_int,toI_int,I_frzs,I_length,I_getD,ok_ints,toL_slc,←hn,←hm]
  refine ⟨fun h=> ?_,fun h=> ?_⟩
  ·rw [hr,hf0,decide_eq_false (fun e=>h (by rw [hn,hm,hxl,hyl,e]))]
  have hlen:xs.length=ys.length:=by omega
  refine hlp (Int) _ _ _ [0,1,5] (fun x=>[(0,none,.val (.slc false 2 (.int .i64 0) a0)),(1,none,.val (.slc false 2 (.int .i64 0) a1)),(5,none,.val (.int .i64 x))])
   (fun x=>0≤x∧x≤n∧xs.take x.toNat=ys.take x.toNat) (fun x=>(n-x).toNat) (0) (by subst hL;rfl) ?_ ?_
  ·exact ⟨by simp,by omega,rfl⟩
  rintro i ⟨i0,i1,hI⟩ hfx ag hag
  conv=>cbv
  simp only [stdEqs hL,imp_self,true_and,and_true,bif_or,bif_and,Bool.or_eq_true,Bool.or_eq_false_iff,Bool.and_eq_true,Bool.and_eq_false_iff,decide_eq_true_eq,decide_eq_false_iff_not,Bool.not_eq_true',Bool.not_eq_false',beq_iff_eq,beq_eq_false_iff_ne,ne_eq,toNat0,toNat1,ok_int,toI_int,I_frzs,I_length,I_getD,ok_ints,toL_slc,←hn,←hm,gx,gy]
  refine ⟨fun h2=>⟨i0,h2,i0,by omega,fun h3=> ?_,fun h3=> ?_⟩,fun h2=> ?_⟩
  ·rw [hr,hf0,decide_eq_false (fun e=>h3 (by rw [e]))]
  ·rw [wrap_id (n:=i+1) (by omega) (by omega)]
   have h4:i.toNat<xs.length:=by omega
   have h5:i.toNat<ys.length:=by omega
   refine hag (i+1) ⟨by omega,by omega,?_⟩ (by omega)
   rw [List.getD_eq_getElem?_getD,List.getElem?_eq_getElem h4,List.getD_eq_getElem?_getD,List.getElem?_eq_getElem h5] at h3
   rw [show (i+1).toNat=i.toNat+1 by omega,List.take_succ_eq_append_getElem h4,List.take_succ_eq_append_getElem h5,hI]
   exact congrArg (fun z=>List.take i.toNat ys++[z]) h3
  ·have h4:xs=ys:=by rwa [List.take_of_length_le (by omega),List.take_of_length_le (by omega)] at hI
   rw [hr,hf0,decide_eq_true h4]
 ·cases h
def c_like_mm (f:List V→List V→Bool) (q:List V→List V→Prop):Contract:=fun
 |[.slc false 24 (.slc false 2 (.int .i64 0) []) a0,.slc false 24 (.slc false 2 (.int .i64 0) []) a1]=>some ([q a0 a1],.bool (f a0 a1))
 |_=>none
def f_likes (a b:List V):Bool:=decide (unII a=unII b)
def q_likes (a b:List V):Prop:=(∃l,a=II false l∧l.length≤2147483647∧∀r∈l,r.length≤2147483647)∧∃l,b=II false l
end Go.Ax
set_option linter.all false
namespace Go.Ax
open Go.Proofs
def c_Bi_m (f:List V→Int→List V) (q:List V→Int→Prop):Contract:=fun
 |[.agg [.slc false 2 (.int .i64 0) a0],.int .i64 a1]=>some ([q a0 a1],.slc true 24 (.slc true 2 (.int .i64 0) []) (f a0 a1))
 |_=>none
def f_pof (es:List V) (k:Int):List V:=II true (proxL (firstK (unI es) k.toNat))
set_option maxHeartbeats 1000000 in
set_option maxRecDepth 100000 in
theorem s_impl_proximatesOf:Sat Try.prog 65 (c_Bi_m f_pof q_first):=by
 intro args ps r h hp
 unfold c_Bi_m at h
 split at h
 ·rename_i a0 a1
  simp only [Option.some.injEq,Prod.mk.injEq] at h
  obtain ⟨rfl,rfl⟩:=h
  obtain ⟨hq,k1,k2⟩:q_first a0 a1:=(alls_cons.1 hp).1
  have hqb:=hq
  obtain ⟨xs,hxs,hb⟩:=hq
  have g1:V.frzs a0=a0:=by rw [hxs,I_frzs]
  obtain ⟨ms,hms⟩:∃ms,ms=I (firstK xs a1.toNat):=⟨_,rfl⟩
  have e1:f_first a0 a1=ms:=by rw [f_first,hxs,unI_I,hms]
  have g2:V.frzs ms=ms:=by rw [hms,I_frzs]
  generalize H_f_first:f_first=F_f_first
  generalize H_q_first:q_first=F_q_first
  generalize H_f_prox:f_prox=F_f_prox
  generalize H_q_prox:q_prox=F_q_prox
  refine fnOk_ofI (T:=tab) (B:=[(55,c_Bi_L F_f_first F_q_first),(56,c_l_m F_f_prox F_q_prox)]) (Bi:=[]) [0,1,2,4] Try.func65 rfl rfl (by kernel_rfl) (Nat.le_of_ble_eq_true rfl) mixed tabOk (by subst H_f_first H_q_first H_f_prox H_q_prox;exact (bookCons s_impl_firstOf (bookCons s_impl_proximates bookNil))) (by subst H_f_first H_q_first H_f_prox H_q_prox;exact bookINil) (by kernel_rfl) ?_
  intro L lp rr hL hr hf hlp
  conv=>cbv
  have hF:F_f_first a0 a1=ms:=by rw [←H_f_first,e1]
  simp only [stdEqs hL,imp_self,true_and,and_true,bif_or,bif_and,Bool.or_eq_true,Bool.or_eq_false_iff,Bool.and_eq_true,Bool.and_eq_false_iff,decide_eq_true_eq,decide_eq_false_iff_not,Bool.not_eq_true',Bool.not_eq_false',beq_iff_eq,beq_eq_false_iff_ne,ne_eq,toNat0,toNat1,ok_int,toI_int,I_frzs,I_length,I_getD,ok_ints,toL_slc,g1,hF,g2]
  refine ⟨by rw [←H_q_first];exact ⟨hqb,k1,k2⟩,by rw [←H_q_prox];exact ⟨xs,_,hb,hms,by omega⟩,?_⟩
  rw [hr,f_pof,←H_f_prox,f_prox,hms,unI_I,hxs,unI_I]
 ·cases h
def fstD (X Y:List Int):Option Nat:=(List.range X.length).find? fun t=>X.getD t 0 !=Y.getD t 0
def gc (xs ys:List Int):Int×Int:=match fstD (codeK xs 201) (codeK ys 201) with
 |some i=>((i:Int)+1,0)
 |none=>(0,4)
end Go.Ax
set_option linter.all false
namespace Go.Ax
open Go.Proofs
set_option maxHeartbeats 1000000 in
set_option maxRecDepth 100000 in
theorem s_slicesEqual:Sat Try.prog 131 (c_ll_b f0_eqI q_II):=by
 intro args ps r h hp
 unfold c_ll_b at h
 split at h
 ·rename_i a0 a1
  simp only [Option.some.injEq,Prod.mk.injEq] at h
  obtain ⟨rfl,rfl⟩:=h
  obtain ⟨⟨xs,hxs⟩,ys,hys⟩:q_II a0 a1:=(alls_cons.1 hp).1
  have hxl:a0.length=xs.length:=by rw [hxs,I_length]
  have hyl:a1.length=ys.length:=by rw [hys,I_length]
  have hf0:f0_eqI a0 a1=decide (xs=ys):=by rw [f0_eqI,hxs,hys,unI_I,unI_I]
  have gx:∀i,a0.getD i (.int .i64 0)= .int .i64 (xs.getD i 0):=fun i=>by rw [hxs,I_getD]
  have gy:∀i,a1.getD i (.int .i64 0)= .int .i64 (ys.getD i 0):=fun i=>by rw [hys,I_getD]
  refine fnOk_ofI (T:=tab) (B:=[]) (Bi:=[]) [0,1,4,5,12,13] Try.func131 rfl rfl (by kernel_rfl) (Nat.le_of_ble_eq_true rfl) mixed tabOk (by exact bookNil) (by exact bookINil) (by kernel_rfl) ?_
  intro L lp rr hL hr hf hlp
  have hlen:=hf.1.1
  obtain ⟨n,hn⟩:∃n:Int,n=xs.length:=⟨_,rfl⟩
  conv=>cbv
  simp only [stdEqs hL,imp_self,true_and,and_true,bif_or,bif_and,Bool.or_eq_true,Bool.or_eq_false_iff,Bool.and_eq_true,Bool.and_eq_false_iff,decide_eq_true_eq,decide_eq_false_iff_not,Bool.not_eq_true',Bool.not_eq_false',beq_iff_eq,beq_eq_false_iff_ne,ne_eq,toNat0,toNat1,ok_int,toI_int,I_frzs,I_length,I_getD,ok_ints,toL_slc,hxl,hyl]
  refine ⟨fun h=> ?_,fun h=> ?_⟩
  ·rw [hr,hf0,decide_eq_false]
   rintro rfl
   omega
  refine hlp Int _ _ _ [0,1,12,13] (fun x=>[(0,none,.val (.slc false 2 (.int .i64 0) a0)),(1,none,.val (.slc false 2 (.int .i64 0) a1)),(12,none,.val (.int .i64 n)),(13,none,.val (.int .i64 x))])
   (fun x=>0≤x∧x≤xs.length∧xs.take x.toNat=ys.take x.toNat) (fun x=>(xs.length-x).toNat) 0 (by subst hL;rw [hn,←hxl];rfl) (by simp) ?_
  rintro i ⟨i0,i1,hI⟩ hfx ag hag
  conv=>cbv
  simp only [stdEqs hL,imp_self,true_and,and_true,bif_or,bif_and,Bool.or_eq_true,Bool.or_eq_false_iff,Bool.and_eq_true,Bool.and_eq_false_iff,decide_eq_true_eq,decide_eq_false_iff_not,Bool.not_eq_true',Bool.not_eq_false',beq_iff_eq,beq_eq_false_iff_ne,ne_eq,toNat0,toNat1,ok_int,toI_int,I_frzs,I_length,I_getD,ok_ints,toL_slc,hxl,hyl,gx,gy]
  refine ⟨fun h2=>⟨i0,by omega,i0,by omega,fun h4=> ?_,fun h4=> ?_⟩,fun h2=> ?_⟩
  ·rw [hr,hf0,decide_eq_false]
   rintro rfl
   exact h4 rfl
  ·rw [wrap_id (n:=i+1) (by omega) (by omega)]
   refine hag (i+1) ⟨by omega,by omega,?_⟩ (by omega)
   have e1:i.toNat<xs.length:=by omega
   have e2:i.toNat<ys.length:=by omega
   rw [toNat_succ i0,List.take_succ_eq_append_getElem e1,List.take_succ_eq_append_getElem e2,hI]
   simp only [List.getD_eq_getElem?_getD,List.getElem?_eq_getElem e1,List.getElem?_eq_getElem e2,Option.getD_some] at h4
   rw [h4]
  ·rw [List.take_of_length_le (by omega),List.take_of_length_le (by omega)] at hI
   rw [hr,hf0,decide_eq_true hI]
 ·cases h
set_option maxHeartbeats 1000000 in
set_option maxRecDepth 100000 in
theorem s_spec_l01Same:Sat Try.prog 132 (c_ll_b f0_eqI q_II):=by
 intro args ps r h hp
 unfold c_ll_b at h
 split at h
 ·rename_i a0 a1
  simp only [Option.some.injEq,Prod.mk.injEq] at h
  obtain ⟨rfl,rfl⟩:=h
  obtain ⟨⟨xs,hxs⟩,ys,hys⟩:q_II a0 a1:=(alls_cons.1 hp).1
  have hxl:a0.length=xs.length:=by rw [hxs,I_length]
  have hyl:a1.length=ys.length:=by rw [hys,I_length]
  have hf0:f0_eqI a0 a1=decide (xs=ys):=by rw [f0_eqI,hxs,hys,unI_I,unI_I]
  have gx:∀i,a0.getD i (.int .i64 0)= .int .i64 (xs.getD i 0):=fun i=>by rw [hxs,I_getD]
  have gy:∀i,a1.getD i (.int .i64 0)= .int .i64 (ys.getD i 0):=fun i=>by rw [hys,I_getD]
  refine fnOk_ofI (T:=tab) (B:=[]) (Bi:=[]) [0,1,4,5] Try.func132 rfl rfl (by kernel_rfl) (Nat.le_of_ble_eq_true rfl) mixed tabOk (by exact bookNil) (by exact bookINil) (by kernel_rfl) ?_
  intro L lp rr hL hr hf hlp
  have hlen:=hf.1.1
  conv=>cbv
  simp only [stdEqs hL,imp_self,true_and,and_true,bif_or,bif_and,Bool.or_eq_true,Bool.or_eq_false_iff,Bool.and_eq_true,Bool.and_eq_false_iff,decide_eq_true_eq,decide_eq_false_iff_not,Bool.not_eq_true',Bool.not_eq_false',beq_iff_eq,beq_eq_false_iff_ne,ne_eq,toNat0,toNat1,ok_int,toI_int,I_frzs,I_length,I_getD,ok_ints,toL_slc,hxl,hyl]
  refine ⟨fun h=> ?_,fun h=> ?_⟩
  ·rw [hr,hf0,decide_eq_false]
   rintro rfl
   omega
  refine hlp (Int) _ _ _ [0,1,5] (fun x=>[(0,none,.val (.slc false 2 (.int .i64 0) a0)),(1,none,.val (.slc false 2 (.int .i64 0) a1)),(5,none,.val (.int .i64 x))])
   (fun x=>0≤x∧x≤xs.length∧xs.take x.toNat=ys.take x.toNat) (fun x=>(xs.length-x).toNat) (0) (by subst hL;rfl) ?_ ?_
  ·simp
  rintro i ⟨i0,i1,hI⟩ hfx ag hag
  conv=>cbv
  simp only [stdEqs hL,imp_self,true_and,and_true,bif_or,bif_and,Bool.or_eq_true,Bool.or_eq_false_iff,Bool.and_eq_true,Bool.and_eq_false_iff,decide_eq_true_eq,decide_eq_false_iff_not,Bool.not_eq_true',Bool.not_eq_false',beq_iff_eq,beq_eq_false_iff_ne,ne_eq,toNat0,toNat1,ok_int,toI_int,I_frzs,I_length,I_getD,ok_ints,toL_slc,hxl,hyl,gx,gy]
  refine ⟨fun h2=>⟨i0,by omega,i0,by omega,fun h4=> ?_,fun h4=> ?_⟩,fun h2=> ?_⟩
  ·rw [hr,hf0,decide_eq_false]
   rintro rfl
   exact h4 rfl
  ·rw [wrap_id (n:=i+1) (by omega) (by omega)]
   refine hag (i+1) ⟨by omega,by omega,?_⟩ (by omega)
   have e1:i.toNat<xs.length:=by omega
   have e2:i.toNat<ys.length:=by omega
   rw [toNat_succ i0,List.take_succ_eq_append_getElem e1,List.take_succ_eq_append_getElem e2,hI]
   simp only [List.getD_eq_getElem?_getD,List.getElem?_eq_getElem e1,List.getElem?_eq_getElem e2,Option.getD_some] at h4
   rw [h4]
  ·rw [List.take_of_length_le (by omega),List.take_of_length_le (by omega)] at hI
   rw [hr,hf0,decide_eq_true hI]
 ·cases h
def cshL (X Y:List Int) (c:Nat):Bool:=decide (X.take (c-1)=Y.take (c-1))&&(X.getD (c-1) 0 !=Y.getD (c-1) 0||X.getD (c-1) 0==0)
def shr (xs ys:List Int) (c:Nat):Bool:=cshL (codeK xs 201) (codeK ys 201) c
end Go.Ax
set_option linter.all false
namespace Go.Ax
open Go.Proofs
def prd:List (List Int)→Int
 |[]=>1
 |p::l=>p.getD 1 0*prd l
structure Prs (ps:List (List Int)):Prop where
 len:ps.length≤3
 two:∀p∈ps,∃c o,p=[c,o]∧1≤c∧c≤100∧2≤o∧o≤5
 pr:prd ps≤64
theorem Prs.tail {p:List Int} {l:List (List Int)} (h:Prs (p::l)):Prs l∧∃c o,p=[c,o]∧1≤c∧c≤100∧2≤o∧o≤5∧1≤prd l∧prd (p::l)=o*prd l∧prd l≤o*prd l:=by
 have pos:∀l:List (List Int),(∀p∈l,∃c o,p=[c,o]∧1≤c∧c≤100∧2≤o∧o≤5)→1≤prd l:=by
  intro l
  induction l with
  |nil=>intro _;decide
  |cons p l ih=>
   intro h
   obtain ⟨c,o,rfl,_,_,h3,_⟩:=h p (by simp)
   have:=ih (fun q hq=>h q (by simp [hq]))
   simp only [prd,List.getD_cons_succ,List.getD_cons_zero]
   have:1*1≤o*prd l:=Int.mul_le_mul (by omega) this (by omega) (by omega)
   omega
 obtain ⟨c,o,rfl,h1,h2,h3,h4⟩:=h.two p (by simp)
 have hp:=pos l (fun q hq=>h.two q (by simp [hq]))
 have hm:1*prd l≤o*prd l:=Int.mul_le_mul_of_nonneg_right (by omega) (by omega)
 have hpr:=h.pr
 simp only [prd,List.getD_cons_succ,List.getD_cons_zero] at hpr
 refine ⟨⟨by have:=h.len;simp at this;omega,fun q hq=>h.two q (by simp [hq]),by omega⟩,c,o,rfl,h1,h2,h3,h4,hp,rfl,by omega⟩
theorem Prs.drop {ps:List (List Int)} (h:Prs ps):∀i,Prs (ps.drop i):=by
 intro i
 induction i generalizing ps with
 |zero=>exact h
 |succ i ih=>
  cases ps with
  |nil=>simpa using h
  |cons p l=>simpa using ih h.tail.1
theorem prd_append (a b:List (List Int)):prd (a++b)=prd a*prd b:=by
 induction a with
 |nil=>simp [prd]
 |cons p l ih=>simp only [List.cons_append,prd,ih,Int.mul_assoc]
theorem Prs.at {ps:List (List Int)} (h:Prs ps) {i:Nat} (hi:i<ps.length):∃c o,ps.getD i []=[c,o]∧1≤c∧c≤100∧2≤o∧o≤5∧ps.drop i=[c,o]::ps.drop (i+1)∧1≤prd (ps.drop (i+1))∧prd (ps.drop (i+1))≤64∧prd (ps.drop i)=o*prd (ps.drop (i+1))∧prd (ps.drop i)≤64∧
 prd (ps.take (i+1))=prd (ps.take i)*o:=by
 have hd:ps.drop i=ps.getD i []::ps.drop (i+1):=by rw [drop_cons [] hi]
 have hi':=h.drop i
 have h6:=hi'.pr
 rw [hd] at hi'
 obtain ⟨h1,c,o,h2,h3,h4,h5,h7,h8,h9,h10⟩:=hi'.tail
 refine ⟨c,o,h2,h3,h4,h5,h7,by rw [hd,h2],h8,h1.pr,by rw [hd,h9],h6,?_⟩
 rw [List.take_succ_eq_append_getElem hi,prd_append]
 have:ps[i]=[c,o]:=by rw [←h2,List.getD_eq_getElem?_getD,List.getElem?_eq_getElem hi];rfl
 rw [this]
 simp [prd]
theorem Prs.pos {ps:List (List Int)} (h:Prs ps):1≤prd ps:=by
 cases ps with
 |nil=>decide
 |cons p l=>
  obtain ⟨_,c,o,_,_,_,_,_,h1,h2,h3⟩:=h.tail
  omega
theorem Prs.take_le {ps:List (List Int)} (h:Prs ps):∀i,i≤ps.length→1≤prd (ps.take i)∧prd (ps.take i)≤64:=by
 intro i hi
 have h1:prd (ps.take i)*prd (ps.drop i)=prd ps:=by rw [←prd_append,List.take_append_drop]
 have h2:=(h.drop i).pos
 have h3:=h.pr
 have h4:=h.pos
 have h5:1≤prd (ps.take i):=by
  by_cases hc:1≤prd (ps.take i)
  ·exact hc
  ·exfalso
   have:prd (ps.take i)*prd (ps.drop i)≤0:=Int.mul_nonpos_of_nonpos_of_nonneg (by omega) (by omega)
   omega
 refine ⟨h5,?_⟩
 have:prd (ps.take i)*1≤prd (ps.take i)*prd (ps.drop i):=Int.mul_le_mul_of_nonneg_left h2 (by omega)
 omega
def q_bon (a:List V):Prop:=∃ps,a=II false ps∧Prs ps
def c_m_i (f:List V→Int) (q:List V→Prop):Contract:=fun
 |[.slc false 24 (.slc false 2 (.int .i64 0) []) a0]=>some ([q a0],.int .i64 (f a0))
 |_=>none
def f_prd (a:List V):Int:=prd (unII a)
set_option maxHeartbeats 1000000 in
set_option maxRecDepth 100000 in
theorem s_spec_l03Pairs:Sat Try.prog 158 (c_m_i f_prd q_bon):=by
 intro args ps r h hp
 unfold c_m_i at h
 split at h
 ·rename_i a0
  simp only [Option.some.injEq,Prod.mk.injEq] at h
  obtain ⟨rfl,rfl⟩:=h
  obtain ⟨ps,hps,hP⟩:q_bon a0:=(alls_cons.1 hp).1
  obtain ⟨n,hn⟩:∃n:Int,n=a0.length:=⟨_,rfl⟩
  have hpl:a0.length=ps.length:=by rw [hps,II_length]
  have hlen:=hP.len
  have gx:∀k,a0.getD k (.slc false 2 (.int .i64 0) [])= .slc false 2 (.int .i64 0) (I (ps.getD k [])):=fun k=>by rw [hps,II_getD]
  have hf0:f_prd a0=prd ps:=by rw [f_prd,hps,unII_II]
  generalize H_inRange:inRange=F_inRange
  refine fnOk_ofI (T:=tab) (B:=[(58,c_impl_inRange F_inRange)]) (Bi:=[]) [0,2,3,4] Try.func158 rfl rfl (by kernel_rfl) (Nat.le_of_ble_eq_true rfl) mixed tabOk (by subst H_inRange;exact (bookCons s_spec_l01In bookNil)) (by subst H_inRange;exact bookINil) (by kernel_rfl) ?_
  intro L lp rr hL hr hf hlp
  conv=>cbv
  simp only [stdEqs hL,imp_self,true_and,and_true,bif_or,bif_and,Bool.or_eq_true,Bool.or_eq_false_iff,Bool.and_eq_true,Bool.and_eq_false_iff,decide_eq_true_eq,decide_eq_false_iff_not,Bool.not_eq_true',Bool.not_eq_false',beq_iff_eq,beq_eq_false_iff_ne,ne_eq,toNat0,toNat1,ok_int,toI_int,I_frzs,I_length,I_getD,ok_ints,toL_slc,←hn]
  refine ⟨fun h=>by omega,fun _=> ?_⟩
  refine hlp (Int×Int) _ _ _ [0,3,4] (fun x=>[(0,none,.val (.slc false 24 (.slc false 2 (.int .i64 0) []) a0)),(3,none,.val (.int .i64 x.1)),(4,none,.val (.int .i64 x.2))])
   (fun x=>0≤x.2∧x.2≤n∧x.1=prd (ps.take x.2.toNat)) (fun x=>(n-x.2).toNat) ((1,0)) (by subst hL;rfl) ?_ ?_
  ·exact ⟨by simp,by simp only;omega,rfl⟩
  rintro ⟨v,i⟩ ⟨i0,i1,hI⟩ hfx ag hag
  simp only at i0 i1 hI
  conv=>cbv
  simp only [stdEqs hL,imp_self,true_and,and_true,bif_or,bif_and,Bool.or_eq_true,Bool.or_eq_false_iff,Bool.and_eq_true,Bool.and_eq_false_iff,decide_eq_true_eq,decide_eq_false_iff_not,Bool.not_eq_true',Bool.not_eq_false',beq_iff_eq,beq_eq_false_iff_ne,ne_eq,toNat0,toNat1,ok_int,toI_int,I_frzs,I_length,I_getD,ok_ints,toL_slc,←hn,gx]
  refine ⟨fun h2=> ?_,fun h2=> ?_⟩
  ·obtain ⟨c,o,e1,e2,e3,e4,e5,e6,e7,e8,e9,e10,e11⟩:=hP.at (i:=i.toNat) (by omega)
   have hb:=hP.take_le (i.toNat+1) (by omega)
   have r1:F_inRange c 1 2000=true:=by rw [←H_inRange];simp [inRange];omega
   have r2:F_inRange o 1 2000=true:=by rw [←H_inRange];simp [inRange];omega
   have w1:IntKind.wrap .i64 (v*o)=v*o:=wrap_id (by rw [hI,←e11];omega) (by rw [hI,←e11];omega)
   have e12:v*o=prd (ps.take (i.toNat+1)):=by rw [e11,hI]
   have l2:((0+1+1:Nat):Int)=2:=rfl
   have g0:[c,o].getD 0 0=c:=rfl
   have g1:[c,o].getD 1 0=o:=rfl
   simp only [e1,I_length,List.length_cons,List.length_nil,I_getD,toI_int,w1,l2,g0,g1,r1,r2,Bool.true_eq_false,not_true,or_self,false_imp_iff,true_imp_iff,and_self,true_and]
   (repeat' first|(exact solid_one _)|(exact solid1 rfl)|(exact noown_one _)|(apply And.intro)|(intro _))<;>(try first|exact True.intro|omega|rfl|(simp only [List.length_cons,List.length_nil,I_length];omega))
   ·rw [wrap_id (n:=i+1) (by omega) (by omega)]
    exact hag (_,i+1) ⟨by simp only;omega,by simp only;omega,by simp only;rw [show (i+1).toNat=i.toNat+1 by omega,e12]⟩ (by simp only;omega)
  ·rw [hr,hf0,hI,show i.toNat=ps.length by omega,List.take_length]
 ·cases h
set_option maxHeartbeats 1000000 in
set_option maxRecDepth 100000 in
theorem s_spec_l01Same2:Sat Try.prog 159 (c_like_mm f_likes q_likes):=by
 intro args ps r h hp
 unfold c_like_mm at h
 split at h
 ·rename_i a0 a1
  simp only [Option.some.injEq,Prod.mk.injEq] at h
  obtain ⟨rfl,rfl⟩:=h
  obtain ⟨⟨xs,hxs,hl,hrl⟩,⟨ys,hys⟩⟩:q_likes a0 a1:=(alls_cons.1 hp).1
  obtain ⟨n,hn⟩:∃n:Int,n=a0.length:=⟨_,rfl⟩
  obtain ⟨m,hm⟩:∃m:Int,m=a1.length:=⟨_,rfl⟩
  have hxl:a0.length=xs.length:=by rw [hxs,II_length]
  have hyl:a1.length=ys.length:=by rw [hys,II_length]
  have gx:∀k,a0.getD k (.slc false 2 (.int .i64 0) [])= .slc false 2 (.int .i64 0) (I (xs.getD k [])):=fun k=>by rw [hxs,II_getD]
  have gy:∀k,a1.getD k (.slc false 2 (.int .i64 0) [])= .slc false 2 (.int .i64 0) (I (ys.getD k [])):=fun k=>by rw [hys,II_getD]
  have hf0:f_likes a0 a1=decide (xs=ys):=by rw [f_likes,hxs,hys,unII_II,unII_II]
  generalize H_f0_eqI:f0_eqI=F_f0_eqI
  generalize H_q_II:q_II=F_q_II
  refine fnOk_ofI (T:=tab) (B:=[(132,c_ll_b F_f0_eqI F_q_II)]) (Bi:=[]) [0,1,4,5] Try.func159 rfl rfl (by kernel_rfl) (Nat.le_of_ble_eq_true rfl) mixed tabOk (by subst H_f0_eqI H_q_II;exact (bookCons s_spec_l01Same bookNil)) (by subst H_f0_eqI H_q_II;exact bookINil) (by kernel_rfl) ?_
  intro L lp rr hL hr hf hlp
  conv=>cbv
  simp only [stdEqs hL,imp_self,true_and,and_true,bif_or,bif_and,Bool.or_eq_true,Bool.or_eq_false_iff,Bool.and_eq_true,Bool.and_eq_false_iff,decide_eq_true_eq,decide_eq_false_iff_not,Bool.not_eq_true',Bool.not_eq_false',beq_iff_eq,beq_eq_false_iff_ne,ne_eq,toNat0,toNat1,ok_int,toI_int,I_frzs,I_length,I_getD,ok_ints,toL_slc,←hn,←hm]
  refine ⟨fun h=> ?_,fun h=> ?_⟩
  ·rw [hr,hf0,decide_eq_false (fun e=>h (by rw [hn,hm,hxl,hyl,e]))]
  have hlen:xs.length=ys.length:=by omega
  refine hlp (Int) _ _ _ [0,1,5] (fun x=>[(0,none,.val (.slc false 24 (.slc false 2 (.int .i64 0) []) a0)),(1,none,.val (.slc false 24 (.slc false 2 (.int .i64 0) []) a1)),(5,none,.val (.int .i64 x))])
   (fun x=>0≤x∧x≤n∧xs.take x.toNat=ys.take x.toNat) (fun x=>(n-x).toNat) (0) (by subst hL;rfl) ?_ ?_
  ·exact ⟨by simp,by omega,rfl⟩
  rintro i ⟨i0,i1,hI⟩ hfx ag hag
  have Ef:∀u v:List Int,F_f0_eqI (I u) (I v)=decide (u=v):=fun u v=>by rw [←H_f0_eqI,f0_eqI,unI_I,unI_I]
  have Ql:∀u v:List Int,F_q_II (I u) (I v):=fun u v=>by rw [←H_q_II];exact ⟨⟨_,rfl⟩,⟨_,rfl⟩⟩
  conv=>cbv
  simp only [stdEqs hL,imp_self,true_and,and_true,bif_or,bif_and,Bool.or_eq_true,Bool.or_eq_false_iff,Bool.and_eq_true,Bool.and_eq_false_iff,decide_eq_true_eq,decide_eq_false_iff_not,Bool.not_eq_true',Bool.not_eq_false',beq_iff_eq,beq_eq_false_iff_ne,ne_eq,toNat0,toNat1,ok_int,toI_int,I_frzs,I_length,I_getD,ok_ints,toL_slc,←hn,←hm,gx,gy,Ef]
  refine ⟨fun h2=> ?_,fun h2=> ?_⟩
  ·have h4:i.toNat<xs.length:=by omega
   have h5:i.toNat<ys.length:=by omega
   refine ⟨i0,h2,i0,by omega,Ql _ _,fun h3=> ?_,fun h3=> ?_⟩
   ·rw [hr,hf0,decide_eq_false (fun e=>h3 (by rw [e]))]
   ·rw [wrap_id (n:=i+1) (by omega) (by omega)]
    refine hag (i+1) ⟨by omega,by omega,?_⟩ (by omega)
    rw [List.getD_eq_getElem?_getD,List.getElem?_eq_getElem h4,List.getD_eq_getElem?_getD,List.getElem?_eq_getElem h5] at h3
    rw [show (i+1).toNat=i.toNat+1 by omega,List.take_succ_eq_append_getElem h4,List.take_succ_eq_append_getElem h5,hI]
    exact congrArg (fun z=>List.take i.toNat ys++[z]) h3
  ·have h4:xs=ys:=by rwa [List.take_of_length_le (by omega),List.take_of_length_le (by omega)] at hI
   rw [hr,hf0,decide_eq_true h4]
 ·cases h
def nwRow (xs:List Int) (i:Nat):List Int:=[W ((if i=0 then xs.getD (i+1) 0 else W (xs.getD (i+1) 0-xs.getD i 0)).tdiv ((dv xs).getD (i+1) 0)),W (((dv xs).getD i 0).tdiv ((dv xs).getD (i+1) 0))]
def nwt (xs:List Int):List (List Int):=tab' (nwRow xs) (xs.length-1)
def c_B_m (f:List V→List V) (q:List V→Prop):Contract:=fun
 |[.agg [.slc false 2 (.int .i64 0) a0]]=>some ([q a0],.slc true 24 (.slc true 2 (.int .i64 0) []) (f a0))
 |_=>none
def f_nwt (a:List V):List V:=II true (nwt (unI a))
set_option maxHeartbeats 1000000 in
set_option maxRecDepth 100000 in
theorem s_spec_l03Newton:Sat Try.prog 160 (c_B_m f_nwt IsBr):=by
 intro args ps r h hp
 unfold c_B_m at h
 split at h
 ·rename_i a0
  simp only [Option.some.injEq,Prod.mk.injEq] at h
  obtain ⟨rfl,rfl⟩:=h
  have hq:IsBr a0:=(alls_cons.1 hp).1
  have hqP:=hq.isP
  obtain ⟨xs,hxs,hb⟩:=hq
  have g1:V.frzs a0=a0:=by rw [hxs,I_frzs]
  have e2:f_nwt a0=II true (nwt xs):=by rw [f_nwt,hxs,unI_I]
  have e3:f0_dv a0=I (dv xs):=by rw [f0_dv,hxs,unI_I]
  have gx:∀k,a0.getD k (.int .i64 0)= .int .i64 (xs.getD k 0):=fun k=>by rw [hxs,I_getD]
  obtain ⟨ds,hds⟩:∃ds,ds=I (dv xs):=⟨_,rfl⟩
  have gd:∀k,ds.getD k (.int .i64 0)= .int .i64 ((dv xs).getD k 0):=fun k=>by rw [hds,I_getD]
  obtain ⟨n,hn⟩:∃n:Int,n=a0.length:=⟨_,rfl⟩
  obtain ⟨m,hm⟩:∃m:Int,m=ds.length:=⟨_,rfl⟩
  have hxl:a0.length=xs.length:=by rw [hxs,I_length]
  have hdl:ds.length=xs.length:=by rw [hds,I_length,hb.dlen]
  have hmn:m=n:=by omega
  have h1:=hb.len
  have h2:=hb.pos
  generalize H_f0_dv:f0_dv=F_f0_dv
  generalize H_IsP:IsP=F_IsP
  refine fnOk_ofI (T:=tab) (B:=[(156,c_b_l F_f0_dv F_IsP)]) (Bi:=[]) [2000008048,0,1,2,3,4,5,6] Try.func160 rfl rfl (by kernel_rfl) (Nat.le_of_ble_eq_true rfl) mixed tabOk (by subst H_f0_dv H_IsP;exact (bookCons s_spec_l03Divisors bookNil)) (by subst H_f0_dv H_IsP;exact bookINil) (by kernel_rfl) ?_
  intro L lp rr hL hr hf hlp
  conv=>cbv
  simp only [stdEqs hL,imp_self,true_and,and_true,bif_or,bif_and,Bool.or_eq_true,Bool.or_eq_false_iff,Bool.and_eq_true,Bool.and_eq_false_iff,decide_eq_true_eq,decide_eq_false_iff_not,Bool.not_eq_true',Bool.not_eq_false',beq_iff_eq,beq_eq_false_iff_ne,ne_eq,toNat0,toNat1,ok_int,toI_int,I_frzs,I_length,I_getD,ok_ints,toL_slc,g1]
  subst H_f0_dv H_IsP
  simp only [e3,←hds]
  refine ⟨hqP,?_⟩
  refine hlp (List V×Int) _ _ _ [1,3,4,5] (fun x=>[(1,none,.val (.box 26 (.agg [.slc false 2 (.int .i64 0) a0]))),(3,none,.val (.slc true 2 (.int .i64 0) ds)),(4,none,.val (.slc true 24 (.slc true 2 (.int .i64 0) []) x.1)),(5,none,.val (.int .i64 x.2))])
   (fun x=>1≤x.2∧x.2≤n∧x.1=II true (tab' (nwRow xs) (x.2-1).toNat)) (fun x=>(n-x.2).toNat) (([],1)) (by subst hL;rfl) ?_ ?_
  ·exact ⟨by simp,by simp only;omega,rfl⟩
  rintro ⟨es,i⟩ ⟨i0,i1,hes⟩ hfx ag hag
  simp only at i0 i1 hes
  obtain ⟨el,hel0⟩:∃el:Int,el=es.length:=⟨_,rfl⟩
  have hel:el=i-1:=by rw [hel0,hes,II_length,tab_len];omega
  have w1:IntKind.wrap .i64 (i-1)=i-1:=wrap_id (by omega) (by omega)
  conv=>cbv
  simp only [stdEqs hL,imp_self,true_and,and_true,bif_or,bif_and,Bool.or_eq_true,Bool.or_eq_false_iff,Bool.and_eq_true,Bool.and_eq_false_iff,decide_eq_true_eq,decide_eq_false_iff_not,Bool.not_eq_true',Bool.not_eq_false',beq_iff_eq,beq_eq_false_iff_ne,ne_eq,toNat0,toNat1,ok_int,toI_int,I_frzs,I_length,I_getD,ok_ints,toL_slc,←hn,←hm,←hel0,gx,gd,w1]
  have p1:=hb.dpos i.toNat
  have fin:∀v:Int,v=(if (i-1).toNat=0 then xs.getD ((i-1).toNat+1) 0 else W (xs.getD ((i-1).toNat+1) 0-xs.getD (i-1).toNat 0))→II true (tab' (nwRow xs) (i-1).toNat)++[V.slc true 2 (.int .i64 0) [.int .i64 (IntKind.wrap .i64 (v.tdiv ((dv xs).getD i.toNat 0))),.int .i64 (IntKind.wrap .i64 (((dv xs).getD (i-1).toNat 0).tdiv ((dv xs).getD i.toNat 0)))]]=II true (tab' (nwRow xs) (i+1-1).toNat):=by
   intro v hv
   obtain ⟨k,hk⟩:∃k:Nat,i=k+1:=⟨(i-1).toNat,by omega⟩
   subst hk
   rw [show ((k:Int)+1+1-1).toNat=k+1 by omega,tab_succ,II_append]
   rw [show ((k:Int)+1-1).toNat=k by omega] at hv
   rw [show ((k:Int)+1).toNat=k+1 by omega,show ((k:Int)+1-1).toNat=k by omega]
   rw [hv]
   rfl
  have wi:IntKind.wrap .i64 (i+1)=i+1:=wrap_id (by omega) (by omega)
  refine ⟨fun h=> ?_,fun h=> ?_⟩
  ·(repeat' first|(exact solid_one _)|(exact solid1 rfl)|(exact noown_one _)|(apply And.intro)|(intro _))<;>(try first|exact True.intro|omega|rfl|(simp only [List.length_cons,List.length_nil,I_length];omega))
   ·rw [wi,hes]
    exact hag (_,i+1) ⟨by simp only;omega,by simp only;omega,fin _ (by rw [if_neg (by omega),show (i-1).toNat+1=i.toNat by omega])⟩ (by simp only;omega)
   ·rw [wi,hes]
    exact hag (_,i+1) ⟨by simp only;omega,by simp only;omega,fin _ (by rw [if_pos (by omega),show (i-1).toNat+1=i.toNat by omega])⟩ (by simp only;omega)
  ·rw [hr,e2,hes,show (i-1).toNat=xs.length-1 by omega]
   rfl
 ·cases h
def bonGo (la:Int):List (List Int)→List Int
 |[]=>[]
 |p::l=>(la+p.getD 0 0*prd l)::bonGo (la+p.getD 0 0*prd l) l
def bonT (ps:List (List Int)):List Int:=prd ps::bonGo 0 ps
theorem bonGo_len:∀(l:List (List Int)) (la:Int),(bonGo la l).length=l.length
 |[],_=>rfl
 |_::l,_=>by simp [bonGo,bonGo_len l]
def okT (ps:List (List Int)):Bool:=isBr (bonT ps)&&decide (nwt (bonT ps)=ps)
def c_m_Bi (f:List V→List V×Int) (q:List V→Prop):Contract:=fun
 |[.slc false 24 (.slc false 2 (.int .i64 0) []) a0]=>some ([q a0],.tup [.agg [.slc true 2 (.int .i64 0) ((f a0).1)],.int .i64 ((f a0).2)])
 |_=>none
def f_bon (a:List V):List V×Int:=if okT (unII a)=true then (I (bonT (unII a)),0) else ([],5)
set_option maxHeartbeats 1000000 in
set_option maxRecDepth 100000 in
theorem s_spec_BranchOfNewton:Sat Try.prog 154 (c_m_Bi f_bon q_bon):=by
 intro args ps r h hp
 unfold c_m_Bi at h
 split at h
 ·rename_i a0
  simp only [Option.some.injEq,Prod.mk.injEq] at h
  obtain ⟨rfl,rfl⟩:=h
  have hq:q_bon a0:=(alls_cons.1 hp).1
  have hq0:=hq
  obtain ⟨ps,hps,hP⟩:=hq
  obtain ⟨n,hn⟩:∃n:Int,n=a0.length:=⟨_,rfl⟩
  have hpl:a0.length=ps.length:=by rw [hps,II_length]
  have hlen:=hP.len
  have gx:∀k,a0.getD k (.slc false 2 (.int .i64 0) [])= .slc false 2 (.int .i64 0) (I (ps.getD k [])):=fun k=>by rw [hps,II_getD]
  have hfr:V.frzs a0=a0:=by rw [hps,II_frzs]
  have hf0:f_bon a0=if okT ps=true then (I (bonT ps),0) else ([],5):=by rw [f_bon,hps,unII_II]
  obtain ⟨N,hN⟩:∃N:Int,N=prd ps:=⟨_,rfl⟩
  have e1:f_prd a0=N:=by rw [f_prd,hps,unII_II,hN]
  have N1:=hP.pos
  have N2:=hP.pr
  generalize H_f_prd:f_prd=F_f_prd
  generalize H_q_bon:q_bon=F_q_bon
  generalize H_f0_isBr:f0_isBr=F_f0_isBr
  generalize H_IsIs:IsIs=F_IsIs
  generalize H_f_nwt:f_nwt=F_f_nwt
  generalize H_IsBr:IsBr=F_IsBr
  generalize H_f_likes:f_likes=F_f_likes
  generalize H_q_likes:q_likes=F_q_likes
  refine fnOk_ofI (T:=tab) (B:=[(158,c_m_i F_f_prd F_q_bon),(57,c_b_bool F_f0_isBr F_IsIs),(160,c_B_m F_f_nwt F_IsBr),(159,c_like_mm F_f_likes F_q_likes)]) (Bi:=[]) [2000011653,0,2,3,4,5,6,7,8] Try.func154 rfl rfl (by kernel_rfl) (Nat.le_of_ble_eq_true rfl) mixed tabOk (by subst H_f_prd H_q_bon H_f0_isBr H_IsIs H_f_nwt H_IsBr H_f_likes H_q_likes;exact (bookCons s_spec_l03Pairs (bookCons s_spec_l03Is (bookCons s_spec_l03Newton (bookCons s_spec_l01Same2 bookNil))))) (by subst H_f_prd H_q_bon H_f0_isBr H_IsIs H_f_nwt H_IsBr H_f_likes H_q_likes;exact bookINil) (by kernel_rfl) ?_
  intro L lp rr hL hr hf hlp
  conv=>cbv
  simp only [stdEqs hL,imp_self,true_and,and_true,bif_or,bif_and,Bool.or_eq_true,Bool.or_eq_false_iff,Bool.and_eq_true,Bool.and_eq_false_iff,decide_eq_true_eq,decide_eq_false_iff_not,Bool.not_eq_true',Bool.not_eq_false',beq_iff_eq,beq_eq_false_iff_ne,ne_eq,toNat0,toNat1,ok_int,toI_int,I_frzs,I_length,I_getD,ok_ints,toL_slc,hfr]
  subst H_f_prd
  simp only [e1]
  have qF:F_q_bon a0:=by rw [←H_q_bon];exact hq0
  refine ⟨qF,fun h=>by omega,fun _=> ?_⟩
  refine hlp (List V×Int×Int×Int) _ _ _ [0,2,5,6,7,8] (fun x=>[(0,none,.val (.slc false 24 (.slc false 2 (.int .i64 0) []) a0)),(2,none,.val (.box 26 (.agg [.slc true 2 (.int .i64 0) []]))),(5,none,.val (.box 26 (.agg [.slc true 2 (.int .i64 0) x.1]))),(6,none,.val (.int .i64 x.2.1)),(7,none,.val (.int .i64 x.2.2.1)),(8,none,.val (.int .i64 x.2.2.2))])
   (fun x=>0≤x.2.2.2∧x.2.2.2≤n∧x.2.1=prd (ps.drop x.2.2.2.toNat)∧0≤x.2.2.1∧x.2.2.1≤6400*x.2.2.2∧∃pre:List Int,x.1=I (N::pre)∧pre.length=x.2.2.2.toNat∧pre++bonGo x.2.2.1 (ps.drop x.2.2.2.toNat)=bonGo 0 ps) (fun x=>(n-x.2.2.2).toNat) (([.int .i64 N],N,0,0)) (by subst hL;rfl) ?_ ?_
  ·exact ⟨by simp,by simp only;omega,hN,by simp,by simp,[],rfl,rfl,rfl⟩
  rintro ⟨es,e,la,i⟩ ⟨i0,i1,he,l0,l1,pre,h1,h2,h3⟩ hfx ag hag
  simp only at i0 i1 he l0 l1 h1 h2 h3
  obtain ⟨el,hel0⟩:∃el:Int,el=es.length:=⟨_,rfl⟩
  have hel:el=i+1:=by rw [hel0,h1,I_length,List.length_cons];omega
  conv=>cbv
  simp only [stdEqs hL,imp_self,true_and,and_true,bif_or,bif_and,Bool.or_eq_true,Bool.or_eq_false_iff,Bool.and_eq_true,Bool.and_eq_false_iff,decide_eq_true_eq,decide_eq_false_iff_not,Bool.not_eq_true',Bool.not_eq_false',beq_iff_eq,beq_eq_false_iff_ne,ne_eq,toNat0,toNat1,ok_int,toI_int,I_frzs,I_length,I_getD,ok_ints,toL_slc,←hn,←hel0,gx]
  refine ⟨fun h=> ?_,fun h=> ?_⟩
  ·obtain ⟨c,o,e1,e2,e3,e4,e5,e6,e7,e8,e9,e10,e11⟩:=hP.at (i:=i.toNat) (by omega)
   have g0:[c,o].getD 0 0=c:=rfl
   have g1:[c,o].getD 1 0=o:=rfl
   have hed:e.tdiv o=prd (ps.drop (i.toNat+1)):=by rw [he,e9,Int.mul_tdiv_cancel_left _ (by omega)]
   obtain ⟨P,hPP⟩:∃P:Int,P=prd (ps.drop (i.toNat+1)):=⟨_,rfl⟩
   rw [←hPP] at hed e7 e8
   have wd:IntKind.wrap .i64 P=P:=wrap_id (by omega) (by omega)
   have c0:0≤c*P:=Int.mul_nonneg (by omega) (by omega)
   have c1:c*P≤100*64:=Int.mul_le_mul (by omega) (by omega) (by omega) (by omega)
   have wm:IntKind.wrap .i64 (c*P)=c*P:=wrap_id (by omega) (by omega)
   have wl:IntKind.wrap .i64 (la+c*P)=la+c*P:=wrap_id (by omega) (by omega)
   have wi:IntKind.wrap .i64 (i+1)=i+1:=wrap_id (by omega) (by omega)
   simp only [e1,I_length,List.length_cons,List.length_nil,g0,g1,hed,wd,wm,wl,wi]
   (repeat' first|(exact solid_one _)|(exact solid1 rfl)|(exact noown_one _)|(apply And.intro)|(intro _))<;>(try first|exact True.intro|omega|rfl|(simp only [List.length_cons,List.length_nil,I_length];omega))
   refine hag (_,_,_,i+1) ⟨by simp only;omega,by simp only;omega,by simp only;rw [hPP,show (i+1).toNat=i.toNat+1 by omega],by simp only;omega,by simp only;omega,pre++[la+c*P],by simp only;rw [h1];simp [I],by simp only [List.length_append,List.length_cons,List.length_nil];omega,?_⟩ (by simp only;omega)
   simp only
   rw [show (i+1).toNat=i.toNat+1 by omega,List.append_assoc,←h3,e6]
   simp only [bonGo,List.getD_cons_zero,List.singleton_append,←hPP]
  ·have hes:es=I (bonT ps):=by
    rw [List.drop_of_length_le (by omega)] at h3
    simp only [bonGo,List.append_nil] at h3
    rw [h1,h3,hN]
    rfl
   have Eb:F_f0_isBr (I (bonT ps))=isBr (bonT ps):=by rw [←H_f0_isBr,f0_isBr,unI_I]
   have En:F_f_nwt (I (bonT ps))=II true (nwt (bonT ps)):=by rw [←H_f_nwt,f_nwt,unI_I]
   have El:F_f_likes (II false (nwt (bonT ps))) a0=decide (nwt (bonT ps)=ps):=by rw [←H_f_likes,f_likes,unII_II,hps,unII_II]
   have tl:(bonT ps).length≤4:=by simp only [bonT,List.length_cons,bonGo_len];omega
   rw [hes]
   simp only [I_frzs,Eb,En,II_frzs,hfr,El]
   refine ⟨by rw [←H_IsIs];exact ⟨⟨_,rfl⟩,by rw [I_length];omega⟩,fun h1=>by rw [←H_IsBr];exact ⟨_,rfl,br_of h1⟩,fun _=>II_noFzs _,fun _=> ?_,fun h1=> ?_,fun h1=> ?_⟩
   ·rw [←H_q_likes]
    refine ⟨⟨_,rfl,by rw [nwt,tab_len];omega,fun r hr=> ?_⟩,_,hps⟩
    simp only [nwt,tab',List.mem_map] at hr
    obtain ⟨k,_,rfl⟩:=hr
    simp [nwRow]
   ·rw [hr,hf0,if_neg]
    intro h2
    simp only [okT,Bool.and_eq_true] at h2
    rcases h1 with h1|h1
    ·rw [h1] at h2;cases h2.1
    ·rw [h1] at h2;cases h2.2
   ·rw [hr,hf0,if_pos]
    simp only [okT,Bool.and_eq_true]
    exact h1
 ·cases h
end Go.Ax
set_option linter.all false
namespace Go.Ax
open Go.Proofs
def cpU (o:Int):Nat→Int→Int
 |0,c=>c
 |k+1,c=>if gcdW c o>1 then cpU o k (c+1) else c
def cpT (c o:Int):Int:=c+(1-c)%o
def cpo (c o:Int):Int:=cpU o ((cpT c o-c).toNat+1) c
theorem cpT_le {c o:Int} (ho:2≤o):c≤cpT c o∧cpT c o<c+o:=by
 have h1:=Int.emod_nonneg (1-c) (show o≠0 by omega)
 have h2:=Int.emod_lt_of_pos (1-c) (show 0<o by omega)
 rw [cpT];omega
theorem cpT_gcd {c o:Int} (hc:1≤c) (ho:2≤o):gcdW (cpT c o) o=1:=by
 have h0:=(cpT_le (c:=c) ho).1
 have h1:cpT c o%o=1:=by
  rw [cpT,Int.add_emod,Int.emod_emod,←Int.add_emod,show c+(1-c)=1 by omega,Int.emod_eq_of_lt (by omega) (by omega)]
 rw [gcdW_nat (by omega) (by omega)]
 obtain ⟨t,ht⟩:∃t:Nat,cpT c o=t:=⟨(cpT c o).toNat,by omega⟩
 obtain ⟨p,hp⟩:∃p:Nat,o=p:=⟨o.toNat,by omega⟩
 rw [ht,hp] at h1
 rw [ht,hp,Int.toNat_natCast,Int.toNat_natCast,Nat.gcd_comm,Nat.gcd_rec]
 have:t%p=1:=by exact_mod_cast h1
 rw [this,Nat.gcd_one_left]
 rfl
theorem cpU_le (o:Int):∀(k:Nat) (c:Int),c≤cpU o k c∧cpU o k c≤c+k
 |0,c=>by simp [cpU]
 |k+1,c=>by
  have:=cpU_le o k (c+1)
  simp only [cpU]
  split<;>omega
theorem cpo_le {c o:Int} (ho:2≤o):c≤cpo c o∧cpo c o≤c+o:=by
 have h1:=cpU_le o ((cpT c o-c).toNat+1) c
 have h2:=cpT_le (c:=c) ho
 rw [cpo];omega
abbrev nxv (es:List V) (σ:Int×Int) (n:Int):Int:=f0_nx es σ.1 σ.2 n
abbrev nxs (es:List V) (σ:Int×Int) (n:Int):Int×Int:=(f1_nx es σ.1 σ.2 n,f2_nx es σ.1 σ.2 n)
abbrev pkv (es:List V) (σ:Int×Int) (l:List Int):Int:=f0_pk es σ.1 σ.2 (I l)
abbrev pks (es:List V) (σ:Int×Int) (l:List Int):Int×Int:=(f1_pk es σ.1 σ.2 (I l),f2_pk es σ.1 σ.2 (I l))
theorem nxv_in {es:List V} {σ:Int×Int} {n:Int} (hq:q_src es σ.1 σ.2) (hn:1≤n):0≤nxv es σ n∧nxv es σ n<n:=f0_nx_in hq hn
theorem src_nxs {es:List V} {σ:Int×Int} {n:Int} (hq:q_src es σ.1 σ.2):q_src es (nxs es σ n).1 (nxs es σ n).2:=src_nx hq
theorem src_pks {es:List V} {σ:Int×Int} {l:List Int} (hq:q_src es σ.1 σ.2):q_src es (pks es σ l).1 (pks es σ l).2:=src_nx hq
theorem pkv_in {es:List V} {σ:Int×Int} {l:List Int} (hq:q_src es σ.1 σ.2) (hl:l≠[]):pkv es σ l∈l:=by
 have h1:1≤(l.length:Int):=by
  cases l with
  |nil=>exact absurd rfl hl
  |cons x l=>simp only [List.length_cons];omega
 have h2:=f0_nx_in (n:=(I l).length) hq (by rw [I_length];exact h1)
 rw [pkv,f0_pk,unI_I]
 rw [I_length] at h2 ⊢
 have h3:(f0_nx es σ.1 σ.2 l.length).toNat<l.length:=by omega
 rw [List.getD_eq_getElem?_getD,List.getElem?_eq_getElem h3]
 exact List.getElem_mem h3
abbrev SmS:Type:=List (List Int)×Int×Int×Int
def smR (es:List V) (most:Int) (s:SmS):SmS:=
 let σ0:=(s.2.2.1,s.2.2.2)
 let own:=2+nxv es σ0 4
 let σ1:=nxs es σ0 4
 if most<s.2.1*own then (s.1,s.2.1,σ1) else
 let m:=pkv es σ1 [4,8,12]
 let σ2:=pks es σ1 [4,8,12]
 let c0:=1+nxv es σ2 m
 let σ3:=nxs es σ2 m
 let c1:=cpo c0 own
 let c2:=if s.1.length=0 then cpo (c1+own) own else c1
 (s.1++[[c2,own]],s.2.1*own,σ3)
def smN (es:List V) (most:Int):Nat→SmS→SmS
 |0,s=>s
 |k+1,s=>smN es most k (smR es most s)
structure SmOk (es:List V) (most:Int) (s:SmS) (k:Nat):Prop where
 len:s.1.length+k≤3
 two:∀p∈s.1,∃c o,p=[c,o]∧1≤c∧c≤100∧2≤o∧o≤5
 pr:prd s.1=s.2.1
 n1:1≤s.2.1
 n2:s.2.1≤most
 src:q_src es s.2.2.1 s.2.2.2
theorem prd_snoc (l:List (List Int)) (c o:Int):prd (l++[[c,o]])=prd l*o:=by
 rw [prd_append]
 simp [prd]
theorem SmOk.round {es:List V} {most:Int} {s:SmS} {k:Nat} (h:SmOk es most s (k+1)):SmOk es most (smR es most s) k:=by
 obtain ⟨ps,n,a,b⟩:=s
 obtain ⟨h1,h2,h3,h4,h5,h6⟩:=h
 simp only at h1 h2 h3 h4 h5 h6
 have ho:=nxv_in (σ:=(a,b)) (n:=4) h6 (by decide)
 have hs:=src_nxs (σ:=(a,b)) (n:=4) h6
 unfold smR
 simp only
 split
 ·exact ⟨by simp only;omega,h2,h3,h4,h5,hs⟩
 ·rename_i hm
  have hs2:=src_pks (σ:=nxs es (a,b) 4) (l:=[4,8,12]) hs
  have hp:=pkv_in (σ:=nxs es (a,b) 4) (l:=[4,8,12]) hs (by simp)
  obtain ⟨m,hmm⟩:∃m,m=pkv es (nxs es (a,b) 4) [4,8,12]:=⟨_,rfl⟩
  rw [←hmm] at hp ⊢
  have hm2:1≤m∧m≤12:=by simp at hp;omega
  have hc:=nxv_in (σ:=pks es (nxs es (a,b) 4) [4,8,12]) (n:=m) hs2 (by omega)
  have hs3:=src_nxs (σ:=pks es (nxs es (a,b) 4) [4,8,12]) (n:=m) hs2
  obtain ⟨o,hoo⟩:∃o,o=2+nxv es (a,b) 4:=⟨_,rfl⟩
  obtain ⟨c0,hc0⟩:∃c0,c0=1+nxv es (pks es (nxs es (a,b) 4) [4,8,12]) m:=⟨_,rfl⟩
  rw [←hoo] at hm ⊢
  rw [←hc0]
  have l1:=cpo_le (c:=c0) (o:=o) (by omega)
  have l2:=cpo_le (c:=cpo c0 o+o) (o:=o) (by omega)
  have hno:1*1≤n*o:=Int.mul_le_mul (by omega) (by omega) (by omega) (by omega)
  refine ⟨by simp only [List.length_append,List.length_cons,List.length_nil];omega,fun p hp=> ?_,by simp only;rw [prd_snoc,h3],by simp only;omega,by simp only;omega,hs3⟩
  rcases List.mem_append.1 hp with hp|hp
  ·exact h2 p hp
  ·simp only [List.mem_singleton] at hp
   refine ⟨_,_,hp,?_⟩
   split<;>omega
theorem SmOk.run {es:List V} {most:Int}:∀{k:Nat} {s:SmS},SmOk es most s k→SmOk es most (smN es most k s) 0
 |0,_,h=>h
 |k+1,_,h=>h.round.run
theorem SmOk.prs {es:List V} {most:Int} {s:SmS} {k:Nat} (h:SmOk es most s k) (hm:most≤64):Prs s.1:=⟨by have:=h.len;omega,h.two,by have:=h.pr;have:=h.n2;omega⟩
abbrev smPk (es:List V) (σ:Int×Int):List Int×Int×Int:=([pkv es σ [1,2,3]],pks es σ [1,2,3])
def smF (es:List V) (a h most term:Int):List Int×Int×Int:=
 let s:=smN es most (1+nxv es (a,h) 3).toNat ([],1,nxs es (a,h) 3)
 if okT s.1=true then
  if term<(bonT s.1).getD s.1.length 0 then smPk es s.2.2
  else if nxv es s.2.2 12=0 then smPk es (nxs es s.2.2 12)
  else (bonT s.1,nxs es s.2.2 12)
 else smPk es s.2.2
def f_sm (es:List V) (a h most term:Int):List V×Int×Int:=(I (smF es a h most term).1,(smF es a h most term).2)
def q_sm (es:List V) (a h most _:Int):Prop:=q_src es a h∧1≤most∧most≤64
def ic_sm (f:List V→Int→Int→Int→Int→List V×Int×Int) (q:List V→Int→Int→Int→Int→Prop):IContract:=fun
 |[.box 111 (.agg [.slc false 5 (.int .u8 0) a0,.int .i64 a1,.int .u64 a2]),.int .i64 a3,.int .i64 a4]=>some ([q a0 a1 a2 a3 a4],.agg [.slc true 2 (.int .i64 0) (f a0 a1 a2 a3 a4).1],.box 111 (.agg [.slc false 5 (.int .u8 0) a0,.int .i64 (f a0 a1 a2 a3 a4).2.1,.int .u64 (f a0 a1 a2 a3 a4).2.2]))
 |_=>none
set_option maxHeartbeats 1000000 in
set_option maxRecDepth 100000 in
theorem s_spec_l03Small:SatI Try.prog 145 1000 (ic_sm f_sm q_sm):=by
 intro args ps r y h hp
 unfold ic_sm at h
 split at h
 ·rename_i a0 a1 a2 a3 a4
  simp only [Option.some.injEq,Prod.mk.injEq] at h
  obtain ⟨rfl,rfl,rfl⟩:=h
  obtain ⟨hq,m1,m2⟩:q_sm a0 a1 a2 a3 a4:=(alls_cons.1 hp).1
  obtain ⟨s0,hs0⟩:∃s0:SmS,s0=([],1,nxs a0 (a1,a2) 3):=⟨_,rfl⟩
  have hk:=nxv_in (σ:=(a1,a2)) (n:=3) hq (by decide)
  obtain ⟨k0,hk0⟩:∃k0:Int,k0=1+nxv a0 (a1,a2) 3:=⟨_,rfl⟩
  obtain ⟨sE,hsE⟩:∃sE:SmS,sE=smN a0 a3 k0.toNat s0:=⟨_,rfl⟩
  have ok0:SmOk a0 a3 s0 k0.toNat:=by
   rw [hs0]
   exact ⟨by simp only [List.length_nil];omega,by simp,rfl,by simp,by simp only;omega,src_nxs (σ:=(a1,a2)) hq⟩
  generalize H_f0_nx:f0_nx=F_f0_nx
  generalize H_f1_nx:f1_nx=F_f1_nx
  generalize H_f2_nx:f2_nx=F_f2_nx
  generalize H_q_nx:q_nx=F_q_nx
  generalize H_f0_pk:f0_pk=F_f0_pk
  generalize H_f1_pk:f1_pk=F_f1_pk
  generalize H_f2_pk:f2_pk=F_f2_pk
  generalize H_q_pk:q_pk=F_q_pk
  generalize H_gcdW:gcdW=F_gcdW
  generalize H_always:always=F_always
  generalize H_f_bon:f_bon=F_f_bon
  generalize H_q_bon:q_bon=F_q_bon
  refine fnIW_of (T:=tab) (B:=[(116,c_ii_i F_gcdW F_always),(154,c_m_Bi F_f_bon F_q_bon)]) (Bi:=[(52,0,false,ic_nx F_f0_nx F_f1_nx F_f2_nx F_q_nx),(51,0,false,ic_pk F_f0_pk F_f1_pk F_f2_pk F_q_pk)]) 0 [2000007832,2000018888,0,1,2,6,7,8,9,10,11,12,13] Try.func145 rfl rfl (by kernel_rfl) (Nat.le_of_ble_eq_true rfl) mixed tabOk (by subst H_f0_nx H_f1_nx H_f2_nx H_q_nx H_f0_pk H_f1_pk H_f2_pk H_q_pk H_gcdW H_always H_f_bon H_q_bon;exact (bookCons s_spec_l01Gcd (bookCons s_spec_BranchOfNewton bookNil))) (by subst H_f0_nx H_f1_nx H_f2_nx H_q_nx H_f0_pk H_f1_pk H_f2_pk H_q_pk H_gcdW H_always H_f_bon H_q_bon;exact (bookICons s_spec_l01Next (bookICons s_spec_l01Pick bookINil))) (by kernel_rfl) rfl rfl sh_src rfl ?_
  intro L lp rr yy hL hr hy hf hlp
  conv=>cbv
  obtain ⟨b1,hb1⟩:∃b1,b1=f1_nx a0 a1 a2 3:=⟨_,rfl⟩
  obtain ⟨b2,hb2⟩:∃b2,b2=f2_nx a0 a1 a2 3:=⟨_,rfl⟩
  have e0:F_f0_nx a0 a1 a2 3=k0-1:=by rw [←H_f0_nx];show nxv a0 (a1,a2) 3=_;omega
  have e1:F_f1_nx a0 a1 a2 3=b1:=by rw [←H_f1_nx,hb1]
  have e2:F_f2_nx a0 a1 a2 3=b2:=by rw [←H_f2_nx,hb2]
  have Qn:∀a h n,q_src a0 a h→F_q_nx a0 a h n:=fun a h n hs=>by rw [←H_q_nx];exact hs
  have hs0':s0=([],1,b1,b2):=by rw [hs0,hb1,hb2]
  simp only [stdEqs hL,imp_self,true_and,and_true,bif_or,bif_and,Bool.or_eq_true,Bool.or_eq_false_iff,Bool.and_eq_true,Bool.and_eq_false_iff,decide_eq_true_eq,decide_eq_false_iff_not,Bool.not_eq_true',Bool.not_eq_false',beq_iff_eq,beq_eq_false_iff_ne,ne_eq,toNat0,toNat1,ok_int,toI_int,I_frzs,I_length,I_getD,ok_ints,toL_slc,true_and,e0,e1,e2,show 1+(k0-1)=k0 by omega,wrap_id (n:=k0) (by omega) (by omega)]
  refine ⟨Qn _ _ _ hq,?_⟩
  refine hlp (List V×Int×Int×Int×Int) _ _ _ [0,1,2,6,7,8,9] (fun x=>[(0,none,.val (.box 111 (.agg [.slc false 5 (.int .u8 0) a0,.int .i64 x.2.2.1,.int .u64 x.2.2.2.1]))),(1,none,.val (.int .i64 a3)),(2,none,.val (.int .i64 a4)),(6,none,.val (.box 26 (.agg [.slc true 2 (.int .i64 0) []]))),(7,none,.val (.slc true 24 (.slc true 2 (.int .i64 0) []) x.1)),(8,none,.val (.int .i64 x.2.1)),(9,none,.val (.int .i64 x.2.2.2.2))])
   (fun x=>0≤x.2.2.2.2∧∃ps,x.1=II true ps∧SmOk a0 a3 (ps,x.2.1,x.2.2.1,x.2.2.2.1) x.2.2.2.2.toNat∧smN a0 a3 x.2.2.2.2.toNat (ps,x.2.1,x.2.2.1,x.2.2.2.1)=sE) (fun x=>x.2.2.2.2.toNat) (([],1,b1,b2,k0)) (by subst hL;rfl) ?_ ?_
  ·exact ⟨by simp only;omega,[],rfl,by simp only;rw [←hs0'];exact ok0,by simp only;rw [←hs0',hsE]⟩
  rintro ⟨es,n,a,h,k⟩ ⟨i0,ps,hes,hok,hsm⟩ hfx ag hag
  simp only at i0 hes hok hsm
  obtain ⟨pl,hpl⟩:∃pl:Int,pl=es.length:=⟨_,rfl⟩
  have hpl2:pl=ps.length:=by rw [hpl,hes,II_length]
  have hsrc:q_src a0 a h:=hok.src
  obtain ⟨o,ho⟩:∃o,o=2+nxv a0 (a,h) 4:=⟨_,rfl⟩
  obtain ⟨A1,hA1⟩:∃A1,A1=f1_nx a0 a h 4:=⟨_,rfl⟩
  obtain ⟨H1,hH1⟩:∃H1,H1=f2_nx a0 a h 4:=⟨_,rfl⟩
  obtain ⟨m,hm⟩:∃m,m=f0_pk a0 A1 H1 (I [4,8,12]):=⟨_,rfl⟩
  obtain ⟨A2,hA2⟩:∃A2,A2=f1_pk a0 A1 H1 (I [4,8,12]):=⟨_,rfl⟩
  obtain ⟨H2,hH2⟩:∃H2,H2=f2_pk a0 A1 H1 (I [4,8,12]):=⟨_,rfl⟩
  obtain ⟨c0,hc0⟩:∃c0,c0=1+f0_nx a0 A2 H2 m:=⟨_,rfl⟩
  obtain ⟨A3,hA3⟩:∃A3,A3=f1_nx a0 A2 H2 m:=⟨_,rfl⟩
  obtain ⟨H3,hH3⟩:∃H3,H3=f2_nx a0 A2 H2 m:=⟨_,rfl⟩
  have hR:smR a0 a3 (ps,n,a,h)=if a3<n*o then (ps,n,A1,H1) else (ps++[[if ps.length=0 then cpo (cpo c0 o+o) o else cpo c0 o,o]],n*o,A3,H3):=by
   subst hA3 hH3 hc0 hA2 hH2 hm hA1 hH1 ho
   rfl
  have o1:=nxv_in (σ:=(a,h)) (n:=4) hsrc (by decide)
  have s1:q_src a0 A1 H1:=by rw [hA1,hH1];exact src_nx hsrc
  have mp:m∈[4,8,12]:=by rw [hm];exact pkv_in (σ:=(A1,H1)) (l:=[4,8,12]) s1 (by simp)
  have m12:1≤m∧m≤12:=by simp at mp;omega
  have s2:q_src a0 A2 H2:=by rw [hA2,hH2];exact src_nx s1
  have c1:=f0_nx_in (n:=m) s2 (by omega)
  have s3:q_src a0 A3 H3:=by rw [hA3,hH3];exact src_nx s2
  have n1:1≤n:=hok.n1
  have n2:n≤a3:=hok.n2
  have no0:n*2≤n*o:=Int.mul_le_mul_of_nonneg_left (by omega) (by omega)
  have no1:n*o≤64*5:=Int.mul_le_mul (by omega) (by omega) (by omega) (by omega)
  have g0:F_f0_nx a0 a h 4=o-2:=by rw [←H_f0_nx];show nxv a0 (a,h) 4=_;omega
  have g1:F_f1_nx a0 a h 4=A1:=by rw [←H_f1_nx,hA1]
  have g2:F_f2_nx a0 a h 4=H1:=by rw [←H_f2_nx,hH1]
  have g3:∀l,l=I [4,8,12]→F_f0_pk a0 A1 H1 l=m∧F_f1_pk a0 A1 H1 l=A2∧F_f2_pk a0 A1 H1 l=H2∧F_q_pk a0 A1 H1 l:=by
   intro l hl
   rw [hl,←H_f0_pk,←H_f1_pk,←H_f2_pk,←H_q_pk,hm,hA2,hH2]
   exact ⟨rfl,rfl,rfl,s1,⟨_,rfl⟩,by simp,by simp⟩
  obtain ⟨g4,g5,g6,g7⟩:=g3 (V.frzs (V.frzs [V.int IntKind.i64 4,V.int IntKind.i64 8,V.int IntKind.i64 12])) rfl
  have g8:F_f0_nx a0 A2 H2 m=c0-1:=by rw [←H_f0_nx];omega
  have g9:F_f1_nx a0 A2 H2 m=A3:=by rw [←H_f1_nx,hA3]
  have g10:F_f2_nx a0 A2 H2 m=H3:=by rw [←H_f2_nx,hH3]
  have Eg:∀x,F_gcdW x o=gcdW x o:=fun x=>by rw [←H_gcdW]
  have Qa:∀x,F_always x o:=fun x=>by rw [←H_always];trivial
  have wo:IntKind.wrap .i64 (2+(o-2))=o:=by rw [show 2+(o-2)=o by omega];exact wrap_id (by omega) (by omega)
  have wno:IntKind.wrap .i64 (n*o)=n*o:=wrap_id (by omega) (by omega)
  have wc0:IntKind.wrap .i64 (1+(c0-1))=c0:=by rw [show 1+(c0-1)=c0 by omega];exact wrap_id (by omega) (by omega)
  have hst:0<k→SmOk a0 a3 (smR a0 a3 (ps,n,a,h)) (k-1).toNat∧smN a0 a3 (k-1).toNat (smR a0 a3 (ps,n,a,h))=sE:=by
   intro hk
   have e:k.toNat=(k-1).toNat+1:=by omega
   rw [e] at hok hsm
   exact ⟨hok.round,hsm⟩
  have kl:=hok.len
  simp only at kl
  have cT1:=cpT_le (c:=c0) (o:=o) (by omega)
  conv=>cbv
  simp only [stdEqs hL,imp_self,true_and,and_true,bif_or,bif_and,Bool.or_eq_true,Bool.or_eq_false_iff,Bool.and_eq_true,Bool.and_eq_false_iff,decide_eq_true_eq,decide_eq_false_iff_not,Bool.not_eq_true',Bool.not_eq_false',beq_iff_eq,beq_eq_false_iff_ne,ne_eq,toNat0,toNat1,ok_int,toI_int,I_frzs,I_length,I_getD,ok_ints,toL_slc,true_and,←hpl,g0,g1,g2,g4,g5,g6,g7,g8,g9,g10,wo,wno,wc0]
  refine ⟨fun h1=>⟨Qn _ _ _ hsrc,fun h2=> ?_,fun h2=>⟨Qn _ _ _ s2,?_⟩⟩,fun h1=> ?_⟩
  ·rw [wrap_id (n:=k-1) (by omega) (by omega)]
   obtain ⟨t1,t2⟩:=hst h1
   rw [hR,if_pos h2] at t1 t2
   exact hag (es,n,A1,H1,k-1) ⟨by simp only;omega,ps,hes,t1,t2⟩ (by simp only;omega)
  ·obtain ⟨t1,t2⟩:=hst h1
   rw [hR,if_neg h2] at t1 t2
   refine hlp (Int) _ _ _ [0,1,2,6,7,8,9,10,11] (fun x=>[(0,none,.val (.box 111 (.agg [.slc false 5 (.int .u8 0) a0,.int .i64 A3,.int .u64 H3]))),(1,none,.val (.int .i64 a3)),(2,none,.val (.int .i64 a4)),(6,none,.val (.box 26 (.agg [.slc true 2 (.int .i64 0) []]))),(7,none,.val (.slc true 24 (.slc true 2 (.int .i64 0) []) es)),(8,none,.val (.int .i64 n)),(9,none,.val (.int .i64 k)),(10,none,.val (.int .i64 o)),(11,none,.val (.int .i64 x))])
    (fun x=>c0≤x∧x≤cpT c0 o∧cpU o ((cpT c0 o-x).toNat+1) x=cpo c0 o) (fun x=>(cpT c0 o-x).toNat) (c0) (by subst hL;rfl) ?_ ?_
   ·exact ⟨by omega,by omega,rfl⟩
   rintro z ⟨x0,x1,hx⟩ hfx2 ag2 hag2
   conv=>cbv
   simp only [stdEqs hL,imp_self,true_and,and_true,bif_or,bif_and,Bool.or_eq_true,Bool.or_eq_false_iff,Bool.and_eq_true,Bool.and_eq_false_iff,decide_eq_true_eq,decide_eq_false_iff_not,Bool.not_eq_true',Bool.not_eq_false',beq_iff_eq,beq_eq_false_iff_ne,ne_eq,toNat0,toNat1,ok_int,toI_int,I_frzs,I_length,I_getD,ok_ints,toL_slc,true_and,←hpl,Eg]
   refine ⟨Qa _,fun h3=> ?_,fun h3=> ?_⟩
   ·rw [wrap_id (n:=z+1) (by omega) (by omega)]
    have hne:z≠cpT c0 o:=fun e=>by
     rw [e,cpT_gcd (by omega) (by omega)] at h3
     omega
    refine hag2 (z+1) ⟨by omega,by omega,?_⟩ (by omega)
    rw [←hx,show (cpT c0 o-z).toNat=(cpT c0 o-(z+1)).toNat+1 by omega]
    exact (if_pos (show gcdW z o>1 from h3)).symm
   ·have hx2:cpo c0 o=z:=by
     rw [←hx]
     exact if_neg (show ¬gcdW z o>1 from h3)
    rw [hx2] at t1 t2
    have wk:IntKind.wrap .i64 (k-1)=k-1:=wrap_id (by omega) (by omega)
    refine ⟨fun h4=> ?_,fun h4=> ?_⟩
    ·have hp0:ps.length=0:=by omega
     rw [if_pos hp0] at t1 t2
     have cT2:=cpT_le (c:=z+o) (o:=o) (by omega)
     rw [wrap_id (n:=z+o) (by omega) (by omega)]
     refine hlp (Int) _ _ _ [0,1,2,6,7,8,9,10,11] (fun x=>[(0,none,.val (.box 111 (.agg [.slc false 5 (.int .u8 0) a0,.int .i64 A3,.int .u64 H3]))),(1,none,.val (.int .i64 a3)),(2,none,.val (.int .i64 a4)),(6,none,.val (.box 26 (.agg [.slc true 2 (.int .i64 0) []]))),(7,none,.val (.slc true 24 (.slc true 2 (.int .i64 0) []) es)),(8,none,.val (.int .i64 n)),(9,none,.val (.int .i64 k)),(10,none,.val (.int .i64 o)),(11,none,.val (.int .i64 x))])
      (fun x=>z+o≤x∧x≤cpT (z+o) o∧cpU o ((cpT (z+o) o-x).toNat+1) x=cpo (z+o) o) (fun x=>(cpT (z+o) o-x).toNat) (z+o) (by subst hL;rfl) ?_ ?_
     ·exact ⟨by omega,by omega,rfl⟩
     rintro y ⟨y0,y1,hy1⟩ hfx3 ag3 hag3
     conv=>cbv
     simp only [stdEqs hL,imp_self,true_and,and_true,bif_or,bif_and,Bool.or_eq_true,Bool.or_eq_false_iff,Bool.and_eq_true,Bool.and_eq_false_iff,decide_eq_true_eq,decide_eq_false_iff_not,Bool.not_eq_true',Bool.not_eq_false',beq_iff_eq,beq_eq_false_iff_ne,ne_eq,toNat0,toNat1,ok_int,toI_int,I_frzs,I_length,I_getD,ok_ints,toL_slc,true_and,←hpl,Eg]
     refine ⟨Qa _,fun h5=> ?_,fun h5=> ?_⟩
     ·rw [wrap_id (n:=y+1) (by omega) (by omega)]
      have hne:y≠cpT (z+o) o:=fun e=>by
       rw [e,cpT_gcd (by omega) (by omega)] at h5
       omega
      refine hag3 (y+1) ⟨by omega,by omega,?_⟩ (by omega)
      rw [←hy1,show (cpT (z+o) o-y).toNat=(cpT (z+o) o-(y+1)).toNat+1 by omega]
      exact (if_pos (show gcdW y o>1 from h5)).symm
     ·have hy2:cpo (z+o) o=y:=by
       rw [←hy1]
       exact if_neg (show ¬gcdW y o>1 from h5)
      rw [hy2] at t1 t2
      simp only [wno,wk]
      (repeat' first|(exact solid_one _)|(exact solid1 rfl)|(exact noown_one _)|(apply And.intro)|(intro _))<;>(try first|exact True.intro|omega|rfl|(simp only [List.length_cons,List.length_nil,I_length];omega))
      exact hag (_,n*o,A3,H3,k-1) ⟨by simp only;omega,ps++[[y,o]],by simp only;rw [II_append,hes];rfl,t1,t2⟩ (by simp only;omega)
    ·have hp0:¬ps.length=0:=by omega
     rw [if_neg hp0] at t1 t2
     simp only [wno,wk]
     (repeat' first|(exact solid_one _)|(exact solid1 rfl)|(exact noown_one _)|(apply And.intro)|(intro _))<;>(try first|exact True.intro|omega|rfl|(simp only [List.length_cons,List.length_nil,I_length];omega))
     exact hag (_,n*o,A3,H3,k-1) ⟨by simp only;omega,ps++[[z,o]],by simp only;rw [II_append,hes];rfl,t1,t2⟩ (by simp only;omega)
  ·have hkz:k.toNat=0:=by omega
   rw [hkz] at hsm hok
   have hsm':sE=(ps,n,a,h):=hsm.symm
   have hF:smF a0 a1 a2 a3 a4=if okT ps=true then (if a4<(bonT ps).getD ps.length 0 then smPk a0 (a,h) else if nxv a0 (a,h) 12=0 then smPk a0 (nxs a0 (a,h) 12) else (bonT ps,nxs a0 (a,h) 12)) else smPk a0 (a,h):=by
    unfold smF
    simp only
    rw [←hs0,←hk0,←hsE,hsm']
   have hP:Prs ps:=hok.prs (by omega)
   have hfz:V.frzs es=II false ps:=by rw [hes,II_frzs]
   have bl:(bonT ps).length=ps.length+1:=by simp only [bonT,List.length_cons,bonGo_len]
   have Qb:F_q_bon (II false ps):=by rw [←H_q_bon];exact ⟨ps,rfl,hP⟩
   have Eb:F_f_bon (II false ps)=if okT ps=true then (I (bonT ps),0) else ([],5):=by rw [←H_f_bon,f_bon,unII_II]
   subst H_f0_nx H_f1_nx H_f2_nx H_q_nx H_f0_pk H_f1_pk H_f2_pk H_q_pk
   rw [hfz,Eb]
   have Qp:∀σ:Int×Int,q_src a0 σ.1 σ.2→q_pk a0 σ.1 σ.2 (V.frzs (V.frzs [V.int IntKind.i64 1,V.int IntKind.i64 2,V.int IntKind.i64 3])):=fun σ hs=>⟨hs,⟨[1,2,3],rfl⟩,by decide,by decide⟩
   have fin:∀(l:List Int) (A H:Int),smF a0 a1 a2 a3 a4=(l,A,H)→V.agg [V.slc true 2 (.int .i64 0) (I l)]=rr∧V.box 111 (V.agg [.slc false 5 (.int .u8 0) a0,.int .i64 A,.int .u64 H])=yy:=by
    intro l A H e
    rw [hr,hy,f_sm,e]
    exact ⟨rfl,rfl⟩
   have h50:((5:Int)=0)=False:=eq_false (by decide)
   have pl3:=hP.len
   cases hT:okT ps with
   |false=>
    rw [hT,if_neg (by decide)] at hF
    simp only [Bool.false_eq_true,if_false,h50,false_and,false_imp_iff,not_false_eq_true,true_or,true_imp_iff,and_false,true_and,and_true]
    exact ⟨Qb,rfl,Qp (a,h) hsrc,fin [pkv a0 (a,h) [1,2,3]] _ _ hF⟩
   |true=>
    rw [hT,if_pos rfl] at hF
    have wl:IntKind.wrap .i64 ((ps.length+1:Nat)-1:Int)=ps.length:=by rw [show ((ps.length+1:Nat)-1:Int)=ps.length by omega];exact wrap_id (by omega) (by omega)
    simp only [stdEqs hL,imp_self,true_and,and_true,bif_or,bif_and,Bool.or_eq_true,Bool.or_eq_false_iff,Bool.and_eq_true,Bool.and_eq_false_iff,decide_eq_true_eq,decide_eq_false_iff_not,Bool.not_eq_true',Bool.not_eq_false',beq_iff_eq,beq_eq_false_iff_ne,ne_eq,toNat0,toNat1,ok_int,toI_int,I_frzs,I_length,I_getD,ok_ints,toL_slc,if_true,I_length,bl,wl,I_getD,Int.toNat_natCast,true_and,not_true,false_or]
    refine ⟨Qb,I_noFzs _,fun _=>by omega,fun _=>by omega,fun _=>by omega,fun h2=>⟨h2,hsrc,fun h3=> ?_,fun h3=> ?_⟩,fun h2=>⟨fun h3=> ?_,fun h3=>absurd h2 h3.1⟩⟩
    ·have h4:nxv a0 (a,h) 12=0:=h3.resolve_left h2
     rw [if_neg h2,if_pos h4] at hF
     exact ⟨Qp (nxs a0 (a,h) 12) (src_nxs hsrc),fin [pkv a0 (nxs a0 (a,h) 12) [1,2,3]] _ _ hF⟩
    ·rw [if_neg h2,if_neg (show ¬nxv a0 (a,h) 12=0 from h3.2)] at hF
     exact fin _ _ _ hF
    ·rw [if_pos h2] at hF
     exact ⟨Qp (a,h) hsrc,fin [pkv a0 (a,h) [1,2,3]] _ _ hF⟩
 ·cases h
theorem smF_src {es:List V} {a h most term:Int} (hq:q_sm es a h most term):q_src es (smF es a h most term).2.1 (smF es a h most term).2.2∧1≤(smF es a h most term).1.length∧(smF es a h most term).1.length≤4:=by
 obtain ⟨hs,m1,m2⟩:=hq
 have hk:=nxv_in (σ:=(a,h)) (n:=3) hs (by decide)
 have ok0:SmOk es most (([],1,nxs es (a,h) 3):SmS) (1+nxv es (a,h) 3).toNat:=⟨by simp only [List.length_nil];omega,by simp,rfl,by simp,by simp only;omega,src_nxs (σ:=(a,h)) hs⟩
 have hr:=ok0.run
 unfold smF
 simp only
 generalize smN es most (1+nxv es (a,h) 3).toNat ([],1,nxs es (a,h) 3)=s at hr ⊢
 have h1:=hr.src
 have h2:=hr.len
 have pk:∀σ:Int×Int,q_src es σ.1 σ.2→q_src es (smPk es σ).2.1 (smPk es σ).2.2∧1≤(smPk es σ).1.length∧(smPk es σ).1.length≤4:=fun σ hσ=>⟨src_pks hσ,by simp,by simp⟩
 split
 ·split
  ·exact pk _ h1
  ·split
   ·exact pk _ (src_nxs h1)
   ·exact ⟨src_nxs h1,by simp only [bonT,List.length_cons];omega,by simp only [bonT,List.length_cons,bonGo_len];omega⟩
 ·exact pk _ h1
end Go.Ax
set_option linter.all false
namespace Go.Ax
open Go.Proofs
def drF (es:List V) (a h:Int):List Int×Int×Int:=
 let σ:=pks es (a,h) [6,12,30,64]
 let s:=smF es σ.1 σ.2 (pkv es (a,h) [6,12,30,64]) 400
 if s.1.length=1∧1<s.1.getD 0 0 then
  ([s.1.getD 0 0,W (W (s.1.getD 0 0*W (1+nxv es s.2 9))+1)],nxs es s.2 9)
 else s
theorem drF_src {es:List V} {a h:Int} (hq:q_src es a h):q_src es (drF es a h).2.1 (drF es a h).2.2∧1≤(drF es a h).1.length∧(drF es a h).1.length≤4:=by
 have hp:=pkv_in (σ:=(a,h)) (l:=[6,12,30,64]) hq (by simp)
 have h1:=smF_src (most:=pkv es (a,h) [6,12,30,64]) (term:=400) ⟨src_pks (σ:=(a,h)) (l:=[6,12,30,64]) hq,by simp at hp;omega,by simp at hp;omega⟩
 unfold drF
 simp only
 split
 ·exact ⟨src_nxs (σ:=(smF es _ _ _ _).2) h1.1,by simp,by simp⟩
 ·exact h1
def f_dr (es:List V) (a h:Int):List V×Int×Int:=(I (drF es a h).1,(drF es a h).2)
def ic_dr (f:List V→Int→Int→List V×Int×Int) (q:List V→Int→Int→Prop):IContract:=fun
 |[.box 111 (.agg [.slc false 5 (.int .u8 0) a0,.int .i64 a1,.int .u64 a2])]=>some ([q a0 a1 a2],.agg [.slc true 2 (.int .i64 0) (f a0 a1 a2).1],.box 111 (.agg [.slc false 5 (.int .u8 0) a0,.int .i64 (f a0 a1 a2).2.1,.int .u64 (f a0 a1 a2).2.2]))
 |_=>none
set_option maxHeartbeats 1000000 in
set_option maxRecDepth 100000 in
theorem s_spec_l03Draw:SatI Try.prog 112 1000 (ic_dr f_dr q_src):=by
 intro args ps r y h hp
 unfold ic_dr at h
 split at h
 ·rename_i a0 a1 a2
  simp only [Option.some.injEq,Prod.mk.injEq] at h
  obtain ⟨rfl,rfl,rfl⟩:=h
  have hq:q_src a0 a1 a2:=(alls_cons.1 hp).1
  obtain ⟨m,hm⟩:∃m,m=f0_pk a0 a1 a2 (I [6,12,30,64]):=⟨_,rfl⟩
  obtain ⟨A1,hA1⟩:∃A1,A1=f1_pk a0 a1 a2 (I [6,12,30,64]):=⟨_,rfl⟩
  obtain ⟨H1,hH1⟩:∃H1,H1=f2_pk a0 a1 a2 (I [6,12,30,64]):=⟨_,rfl⟩
  obtain ⟨S,hS⟩:∃S,S=smF a0 A1 H1 m 400:=⟨_,rfl⟩
  have hF:drF a0 a1 a2=if S.1.length=1∧1<S.1.getD 0 0 then ([S.1.getD 0 0,W (W (S.1.getD 0 0*W (1+nxv a0 S.2 9))+1)],nxs a0 S.2 9) else S:=by
   subst hS hA1 hH1 hm
   rfl
  have mp:m∈[6,12,30,64]:=by rw [hm];exact pkv_in (σ:=(a1,a2)) (l:=[6,12,30,64]) hq (by simp)
  have s1:q_src a0 A1 H1:=by rw [hA1,hH1];exact src_nx hq
  have qs:q_sm a0 A1 H1 m 400:=⟨s1,by simp at mp;omega,by simp at mp;omega⟩
  have hS2:=smF_src qs
  rw [←hS] at hS2
  obtain ⟨sl,A2,H2⟩:=S
  simp only at hF hS2
  have Es:f_sm a0 A1 H1 m 400=(I sl,A2,H2):=by rw [f_sm,←hS]
  obtain ⟨bl,hbl⟩:∃bl,bl=I sl:=⟨_,rfl⟩
  obtain ⟨n,hn⟩:∃n:Int,n=bl.length:=⟨_,rfl⟩
  have hnl:n=sl.length:=by rw [hn,hbl,I_length]
  have gx:∀k,bl.getD k (.int .i64 0)= .int .i64 (sl.getD k 0):=fun k=>by rw [hbl,I_getD]
  generalize H_f0_nx:f0_nx=F_f0_nx
  generalize H_f1_nx:f1_nx=F_f1_nx
  generalize H_f2_nx:f2_nx=F_f2_nx
  generalize H_q_nx:q_nx=F_q_nx
  generalize H_f0_pk:f0_pk=F_f0_pk
  generalize H_f1_pk:f1_pk=F_f1_pk
  generalize H_f2_pk:f2_pk=F_f2_pk
  generalize H_q_pk:q_pk=F_q_pk
  generalize H_f_sm:f_sm=F_f_sm
  generalize H_q_sm:q_sm=F_q_sm
  refine fnIW_of (T:=tab) (B:=[]) (Bi:=[(52,0,false,ic_nx F_f0_nx F_f1_nx F_f2_nx F_q_nx),(51,0,false,ic_pk F_f0_pk F_f1_pk F_f2_pk F_q_pk),(145,1000,false,ic_sm F_f_sm F_q_sm)]) 0 [2000001806,2000003033,2000003800,2000003820,2000003821,2000003822,2000003823,2000003824,2000003825,2000003826,2000003827,2000003829,2000003999,0,2,3] Try.func112 rfl rfl (by kernel_rfl) (Nat.le_of_ble_eq_true rfl) mixed tabOk (by subst H_f0_nx H_f1_nx H_f2_nx H_q_nx H_f0_pk H_f1_pk H_f2_pk H_q_pk H_f_sm H_q_sm;exact bookNil) (by subst H_f0_nx H_f1_nx H_f2_nx H_q_nx H_f0_pk H_f1_pk H_f2_pk H_q_pk H_f_sm H_q_sm;exact (bookICons s_spec_l01Next (bookICons s_spec_l01Pick (bookICons s_spec_l03Small bookINil)))) (by kernel_rfl) rfl rfl sh_src rfl ?_
  intro L lp rr yy hL hr hy hf hlp
  conv=>cbv
  subst H_f0_nx H_f1_nx H_f2_nx H_q_nx H_f0_pk H_f1_pk H_f2_pk H_q_pk H_f_sm H_q_sm
  have p0:f0_pk a0 a1 a2 (V.frzs (V.frzs [V.int IntKind.i64 6,V.int IntKind.i64 12,V.int IntKind.i64 30,V.int IntKind.i64 64]))=m:=hm.symm
  have p1:f1_pk a0 a1 a2 (V.frzs (V.frzs [V.int IntKind.i64 6,V.int IntKind.i64 12,V.int IntKind.i64 30,V.int IntKind.i64 64]))=A1:=hA1.symm
  have p2:f2_pk a0 a1 a2 (V.frzs (V.frzs [V.int IntKind.i64 6,V.int IntKind.i64 12,V.int IntKind.i64 30,V.int IntKind.i64 64]))=H1:=hH1.symm
  have p3:q_pk a0 a1 a2 (V.frzs (V.frzs [V.int IntKind.i64 6,V.int IntKind.i64 12,V.int IntKind.i64 30,V.int IntKind.i64 64])):=⟨hq,⟨[6,12,30,64],rfl⟩,by decide,by decide⟩
  simp only [p0,p1,p2,Es,←hbl,gx,stdEqs hL,imp_self,true_and,and_true,bif_or,bif_and,Bool.or_eq_true,Bool.or_eq_false_iff,Bool.and_eq_true,Bool.and_eq_false_iff,decide_eq_true_eq,decide_eq_false_iff_not,Bool.not_eq_true',Bool.not_eq_false',beq_iff_eq,beq_eq_false_iff_ne,ne_eq,toNat0,toNat1,ok_int,toI_int,I_frzs,I_length,I_getD,ok_ints,toL_slc,true_and,←hn]
  have fin:∀(l:List Int) (A H:Int),drF a0 a1 a2=(l,A,H)→V.agg [V.slc true 2 (.int .i64 0) (I l)]=rr∧V.box 111 (V.agg [.slc false 5 (.int .u8 0) a0,.int .i64 A,.int .u64 H])=yy:=by
   intro l A H e
   rw [hr,hy,f_dr,e]
   exact ⟨rfl,rfl⟩
  refine ⟨p3,qs,fun _=>by omega,fun _=>by omega,fun _=>by omega,fun _=>trivial,fun h=> ?_,fun h=> ?_⟩
  ·rw [if_pos ⟨by omega,h.2⟩] at hF
   exact ⟨by omega,by omega,by omega,by omega,by omega,by omega,hS2.1,fin [_,_] _ _ hF⟩
  ·rw [if_neg (fun h'=>by omega)] at hF
   rw [hbl]
   exact fin _ _ _ hF
 ·cases h
def spF (es:List V) (a h:Int):List Int×Int×Int:=
 let s:=drF es a h
 let v:=nxv es s.2 30
 let σ:=nxs es s.2 30
 if v=0 then (s.1.set 0 (pkv es σ [0,-1,65,2]),pks es σ [0,-1,65,2])
 else if v=1 then (s.1++[pkv es σ [2001,1999,5,1099511627776]],pks es σ [2001,1999,5,1099511627776])
 else if v=2 then (s.1.drop 1,σ) else (s.1,σ)
theorem spF_src {es:List V} {a h:Int} (hq:q_src es a h):q_src es (spF es a h).2.1 (spF es a h).2.2∧(spF es a h).1.length≤5:=by
 obtain ⟨h1,h2,h3⟩:=drF_src hq
 have h4:=src_nxs (σ:=(drF es a h).2) (n:=30) h1
 unfold spF
 simp only
 split
 ·exact ⟨src_pks (σ:=nxs es (drF es a h).2 30) h4,by simp only [List.length_set];omega⟩
 ·split
  ·exact ⟨src_pks (σ:=nxs es (drF es a h).2 30) h4,by simp only [List.length_append,List.length_cons,List.length_nil];omega⟩
  ·split
   ·refine ⟨h4,?_⟩
    simp only [List.length_drop]
    omega
   ·refine ⟨h4,?_⟩
    show (drF es a h).1.length≤5
    omega
def f_sp (es:List V) (a h:Int):List V×Int×Int:=(I (spF es a h).1,(spF es a h).2)
def ic_sp (f:List V→Int→Int→List V×Int×Int) (q:List V→Int→Int→Prop):IContract:=fun
 |[.box 111 (.agg [.slc false 5 (.int .u8 0) a0,.int .i64 a1,.int .u64 a2])]=>some ([q a0 a1 a2],.agg [.slc false 2 (.int .i64 0) (f a0 a1 a2).1],.box 111 (.agg [.slc false 5 (.int .u8 0) a0,.int .i64 (f a0 a1 a2).2.1,.int .u64 (f a0 a1 a2).2.2]))
 |_=>none
set_option maxHeartbeats 1000000 in
set_option maxRecDepth 100000 in
theorem s_spec_l03Spoil:SatI Try.prog 50 1000 (ic_sp f_sp q_src):=by
 intro args ps r y h hp
 unfold ic_sp at h
 split at h
 ·rename_i a0 a1 a2
  simp only [Option.some.injEq,Prod.mk.injEq] at h
  obtain ⟨rfl,rfl,rfl⟩:=h
  have hq:q_src a0 a1 a2:=(alls_cons.1 hp).1
  obtain ⟨S,hS⟩:∃S,S=drF a0 a1 a2:=⟨_,rfl⟩
  have hS2:=drF_src hq
  rw [←hS] at hS2
  have hF:spF a0 a1 a2=if nxv a0 S.2 30=0 then (S.1.set 0 (pkv a0 (nxs a0 S.2 30) [0,-1,65,2]),pks a0 (nxs a0 S.2 30) [0,-1,65,2])
   else if nxv a0 S.2 30=1 then (S.1++[pkv a0 (nxs a0 S.2 30) [2001,1999,5,1099511627776]],pks a0 (nxs a0 S.2 30) [2001,1999,5,1099511627776])
   else if nxv a0 S.2 30=2 then (S.1.drop 1,nxs a0 S.2 30) else (S.1,nxs a0 S.2 30):=by
   subst hS
   rfl
  obtain ⟨sl,A2,H2⟩:=S
  simp only at hF hS2
  have Es:f_dr a0 a1 a2=(I sl,A2,H2):=by rw [f_dr,←hS]
  obtain ⟨bl,hbl⟩:∃bl,bl=I sl:=⟨_,rfl⟩
  obtain ⟨n,hn⟩:∃n:Int,n=bl.length:=⟨_,rfl⟩
  have hnl:n=sl.length:=by rw [hn,hbl,I_length]
  have gx:∀k,bl.getD k (.int .i64 0)= .int .i64 (sl.getD k 0):=fun k=>by rw [hbl,I_getD]
  generalize H_f0_nx:f0_nx=F_f0_nx
  generalize H_f1_nx:f1_nx=F_f1_nx
  generalize H_f2_nx:f2_nx=F_f2_nx
  generalize H_q_nx:q_nx=F_q_nx
  generalize H_f0_pk:f0_pk=F_f0_pk
  generalize H_f1_pk:f1_pk=F_f1_pk
  generalize H_f2_pk:f2_pk=F_f2_pk
  generalize H_q_pk:q_pk=F_q_pk
  generalize H_f_dr:f_dr=F_f_dr
  generalize H_q_src:q_src=F_q_src
  refine fnIW_of (T:=tab) (B:=[]) (Bi:=[(52,0,false,ic_nx F_f0_nx F_f1_nx F_f2_nx F_q_nx),(51,0,false,ic_pk F_f0_pk F_f1_pk F_f2_pk F_q_pk),(112,1000,false,ic_dr F_f_dr F_q_src)]) 0 [1000008003,1000009003,2000004800,2000004810,2000004811,2000004813,2000004814,2000004999,2000006800,2000006818,2000006819,2000006821,2000006822,2000006999,0,2,3,7] Try.func50 rfl rfl (by kernel_rfl) (Nat.le_of_ble_eq_true rfl) mixed tabOk (by subst H_f0_nx H_f1_nx H_f2_nx H_q_nx H_f0_pk H_f1_pk H_f2_pk H_q_pk H_f_dr H_q_src;exact bookNil) (by subst H_f0_nx H_f1_nx H_f2_nx H_q_nx H_f0_pk H_f1_pk H_f2_pk H_q_pk H_f_dr H_q_src;exact (bookICons s_spec_l01Next (bookICons s_spec_l01Pick (bookICons s_spec_l03Draw bookINil)))) (by kernel_rfl) rfl rfl sh_src rfl ?_
  intro L lp rr yy hL hr hy hf hlp
  conv=>cbv
  subst H_f0_nx H_f1_nx H_f2_nx H_q_nx H_f0_pk H_f1_pk H_f2_pk H_q_pk H_f_dr H_q_src
  simp only [Es,stdEqs hL,imp_self,true_and,and_true,bif_or,bif_and,Bool.or_eq_true,Bool.or_eq_false_iff,Bool.and_eq_true,Bool.and_eq_false_iff,decide_eq_true_eq,decide_eq_false_iff_not,Bool.not_eq_true',Bool.not_eq_false',beq_iff_eq,beq_eq_false_iff_ne,ne_eq,toNat0,toNat1,ok_int,toI_int,I_frzs,I_length,I_getD,ok_ints,toL_slc,true_and]
  have s0:q_src a0 A2 H2:=hS2.1
  have s1:q_src a0 (f1_nx a0 A2 H2 30) (f2_nx a0 A2 H2 30):=src_nx s0
  have n1:1≤sl.length:=hS2.2.1
  have n2:sl.length≤4:=hS2.2.2
  have fin:∀(l:List Int) (A H:Int),spF a0 a1 a2=(l,A,H)→V.agg [V.slc false 2 (.int .i64 0) (I l)]=rr∧V.box 111 (V.agg [.slc false 5 (.int .u8 0) a0,.int .i64 A,.int .u64 H])=yy:=by
   intro l A H e
   rw [hr,hy,f_sp,e]
   exact ⟨rfl,rfl⟩
  have hF':spF a0 a1 a2=if f0_nx a0 A2 H2 30=0 then (sl.set 0 (pkv a0 (nxs a0 (A2,H2) 30) [0,-1,65,2]),pks a0 (nxs a0 (A2,H2) 30) [0,-1,65,2])
   else if f0_nx a0 A2 H2 30=1 then (sl++[pkv a0 (nxs a0 (A2,H2) 30) [2001,1999,5,1099511627776]],pks a0 (nxs a0 (A2,H2) 30) [2001,1999,5,1099511627776])
   else if f0_nx a0 A2 H2 30=2 then (sl.drop 1,nxs a0 (A2,H2) 30) else (sl,nxs a0 (A2,H2) 30):=hF
  refine ⟨hq,s0,fun h=> ?_,fun h=>⟨fun h'=> ?_,fun h'=>⟨fun h2=> ?_,fun h2=> ?_⟩⟩⟩
  ·rw [if_pos h] at hF'
   refine ⟨⟨s1,⟨[0,-1,65,2],rfl⟩,by decide,by decide⟩,by omega,by omega,by omega,?_⟩
   have e:V.frzs ((I sl).set 0 (V.int .i64 (pkv a0 (nxs a0 (A2,H2) 30) [0,-1,65,2])))=I (sl.set 0 (pkv a0 (nxs a0 (A2,H2) 30) [0,-1,65,2])):=by rw [I_set,I_frzs]
   have f:=fin _ _ _ hF'
   rw [←e] at f
   exact f
  ·rw [if_neg h,if_pos h'] at hF'
   refine ⟨⟨s1,⟨[2001,1999,5,1099511627776],rfl⟩,by decide,by decide⟩,rfl,?_,solid_one _,?_⟩
   ·rw [List.length_singleton];omega
   have e:V.frzs (I sl++[V.int .i64 (pkv a0 (nxs a0 (A2,H2) 30) [2001,1999,5,1099511627776])])=I (sl++[pkv a0 (nxs a0 (A2,H2) 30) [2001,1999,5,1099511627776]]):=by
    rw [show [V.int .i64 (pkv a0 (nxs a0 (A2,H2) 30) [2001,1999,5,1099511627776])]=I [pkv a0 (nxs a0 (A2,H2) 30) [2001,1999,5,1099511627776]] from rfl,I_append,I_frzs]
   have f:=fin _ _ _ hF'
   rw [←e] at f
   exact f
  ·rw [if_neg h,if_neg h',if_pos h2] at hF'
   refine ⟨by omega,by omega,by omega,?_⟩
   have f:=fin _ _ _ hF'
   rw [Int.toNat_natCast,show List.take sl.length (I sl)=I sl from List.take_of_length_le (by rw [I_length];exact Nat.le_refl _),I_drop]
   rw [I_frzs]
   exact f
  ·rw [if_neg h,if_neg h',if_neg h2] at hF'
   exact fin _ _ _ hF'
 ·cases h
end Go.Ax
set_option linter.all false
namespace Go.Ax
open Go.Proofs
def q_by (es:List V):Prop:=∃xs:List Int,es=U8 xs∧∀x∈xs,0≤x∧x≤255
def yesU (_:List V):Bool:=true
theorem U8_frzs:∀xs:List Int,V.frzs (U8 xs)=U8 xs
 |[]=>rfl
 |x::xs=>by
  have:=U8_frzs xs
  simp only [U8] at this
  simp only [U8,List.map_cons,V.frzs,V.frz,this]
theorem by_big {a:List V} (h:q_by a) (hb:f_big a=false):IsU a:=by
 obtain ⟨xs,hxs,hr⟩:=h
 refine ⟨xs,hxs,hr,?_⟩
 have hl:a.length=xs.length:=by rw [hxs,U8,List.length_map]
 simp only [f_big,decide_eq_false_iff_not] at hb
 omega
end Go.Ax
set_option linter.all false
namespace Go.Proofs.Ytfkccembpjogoaa
open Go.ChangeShapes Go.WideShapes Go.ChangeAt Go.RowKit Go.Ax
theorem wt_byte {x:V} (h:Wt tab 5 x):∃n,x= .int .u8 n∧0≤n∧n≤255:=by
 cases h with
 |int _ ti k n h hk hn=>
  cases h;cases hk
  refine ⟨n,rfl,?_⟩
  simp [Lit.wf] at hn
  have h1:IntKind.u8.min=0:=rfl
  have h2:IntKind.u8.max=255:=rfl
  omega
 |bool _ ti b h hk=>cases h;cases hk
 |str _ ti b h hk=>cases h;cases hk
 |slc _ ti e es h hk=>cases h;cases hk
 |agg _ ti e es h hk=>cases h;cases hk
theorem wt_bytes {x:V} (h:Wt tab 22 x):∃es,x= .slc false 5 (.int .u8 0) es∧q_by es:=by
 cases h with
 |int _ ti k n h hk hn=>cases h;cases hk
 |bool _ ti b h hk=>cases h;cases hk
 |str _ ti b h hk=>cases h;cases hk
 |slc _ ti e es h hk hl he=>
  cases h;cases hk
  refine ⟨es,rfl,?_⟩
  clear hl
  induction es with
  |nil=>exact ⟨[],rfl,by simp⟩
  |cons y es ih=>
   obtain ⟨l,hl,hr⟩:=ih (fun i y hy=>he (i+1) y (by simpa using hy))
   obtain ⟨n,hn,h0,h1⟩:=wt_byte (he 0 y rfl)
   refine ⟨n::l,by rw [hl,hn];rfl,fun x hx=> ?_⟩
   rcases List.mem_cons.1 hx with rfl|hx
   ·exact ⟨h0,h1⟩
   ·exact hr x hx
 |agg _ ti e es h hk=>cases h;cases hk
end Go.Proofs.Ytfkccembpjogoaa
set_option linter.all false
namespace Go.Ax
open Go.Proofs
end Go.Ax
