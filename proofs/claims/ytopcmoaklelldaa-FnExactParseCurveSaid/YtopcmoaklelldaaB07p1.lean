import Derived.Test.YtopcmoaklelldaaB01p1
import Derived.Test.YtopcmoaklelldaaB06p1
/-
 Texts in plain Lean:strings as lists of bytes,numbers in decimal,words between signs. No conditions but those of the theorems.
-/
set_option linter.all false
namespace Go.Ax
open Go.Proofs
abbrev By:=List UInt8
def T (l:By):ByteArray:=⟨l.toArray⟩
theorem T_of (s:ByteArray):s=T s.data.toList:=by simp [T]
theorem T_size (l:By):(T l).size=l.length:=by simp [T,ByteArray.size]
theorem T_get (l:By) (i:Nat):(T l).data.getD i 0=l.getD i 0:=by simp [T,List.getD_eq_getElem?_getD,Array.getD_eq_getD_getElem?]
theorem T_app (a b:By):T a++T b=T (a++b):=by
 apply ByteArray.ext
 simp [T]
theorem T_ext (l:By) (a b:Nat):(T l).extract a b=T ((l.take b).drop a):=by
 apply ByteArray.ext
 simp [T,ByteArray.data_extract,List.drop_take]
theorem T_data (l:By):(T l).data.toList=l:=by simp [T]
theorem T_list (l:By):(T l).toList=l:=by
 rw [ByteArray.toList_eq]
 simp [T]
def isD (c:UInt8):Bool:=decide (48≤c.toNat)&&decide (c.toNat≤57)
def valA:By→Int→Int
 |[],n=>n
 |c::l,n=>valA l (n*10+((c.toNat:Int)-48))
theorem valA_snoc (c:UInt8):∀(l:By) (n:Int),valA (l++[c]) n=valA l n*10+((c.toNat:Int)-48)
 |[],n=>rfl
 |x::l,n=>by rw [List.cons_append,valA,valA_snoc c l];rfl
def canon (l:By):Bool:=decide (l≠[])&&decide (l.length≤9)&&(decide (l.length≤1)||decide (l.getD 0 0≠48))&&l.all isD
def numV (l:By):Int:=if canon l=true then valA l 0 else-1
def dcmF:Nat→Int→By
 |0,_=>[]
 |f+1,n=>if n<10 then [UInt8.ofNat (48+n).toNat] else dcmF f (n.tdiv 10)++[UInt8.ofNat (48+n.tmod 10).toNat]
def dcm (n:Int):By:=dcmF 20 n
theorem valA_bound:∀(l:By) (n:Int),l.all isD=true→0≤n→n*10^l.length≤valA l n∧valA l n<(n+1)*10^l.length
 |[],n,_,_=>by simp [valA];omega
 |c::l,n,h,h0=>by
  simp only [List.all_cons,Bool.and_eq_true] at h
  have hc:=h.1
  rw [isD,Bool.and_eq_true,decide_eq_true_eq,decide_eq_true_eq] at hc
  obtain ⟨h1,h2⟩:=valA_bound l (n*10+((c.toNat:Int)-48)) h.2 (by omega)
  rw [valA,List.length_cons,Int.pow_succ]
  have hp:(0:Int)<10^l.length:=Int.pow_pos (by omega)
  constructor
  ·refine Int.le_trans ?_ h1
   rw [←Int.mul_assoc,Int.mul_right_comm]
   exact Int.mul_le_mul_of_nonneg_right (by omega) (Int.le_of_lt hp)
  ·refine Int.lt_of_lt_of_le h2 ?_
   rw [show (n+1)*(10^l.length*10)=((n+1)*10)*10^l.length by rw [Int.mul_assoc,Int.mul_comm (10:Int)]]
   exact Int.mul_le_mul_of_nonneg_right (by omega) (Int.le_of_lt hp)
theorem dcmF_val:∀(f:Nat) (l:By),l≠[]→l.length≤f→(l.length≤1∨l.getD 0 0≠48)→l.all isD=true→dcmF f (valA l 0)=l
 |0,l,h0,h1,_,_=>absurd (List.eq_nil_of_length_eq_zero (by omega)) h0
 |f+1,l,h0,h1,h2,h3=>by
  obtain ⟨w,c,rfl⟩:∃w c,l=w++[c]:=⟨l.dropLast,l.getLast h0,(List.dropLast_concat_getLast h0).symm⟩
  rw [List.all_append,Bool.and_eq_true] at h3
  have hc:isD c=true:=by simpa using h3.2
  rw [isD,Bool.and_eq_true,decide_eq_true_eq,decide_eq_true_eq] at hc
  rw [valA_snoc,dcmF]
  cases w with
  |nil=>
   have e:(0:Int)*10+((c.toNat:Int)-48)=(c.toNat:Int)-48:=by omega
   rw [show valA [] 0=0 from rfl,e,if_pos (by omega),show (48+((c.toNat:Int)-48)).toNat=c.toNat by omega,UInt8.ofNat_toNat]
   rfl
  |cons x w=>
   have hx:x≠48:=by
    rcases h2 with h2|h2
    ·simp at h2
    ·simpa using h2
   have hxd:isD x=true:=by have:=h3.1;rw [List.all_cons,Bool.and_eq_true] at this;exact this.1
   rw [isD,Bool.and_eq_true,decide_eq_true_eq,decide_eq_true_eq] at hxd
   have hx49:49≤x.toNat:=by
    have:x.toNat≠48:=fun e=>hx (by rw [←UInt8.ofNat_toNat (x:=x),e];rfl)
    omega
   have hv:1≤valA (x::w) 0:=by
    have hw:w.all isD=true:=by have:=h3.1;rw [List.all_cons,Bool.and_eq_true] at this;exact this.2
    have hb:=(valA_bound w ((x.toNat:Int)-48) hw (by omega)).1
    have hp:(0:Int)<10^w.length:=Int.pow_pos (by omega)
    have:(1:Int)*1≤((x.toNat:Int)-48)*10^w.length:=Int.mul_le_mul (by omega) (by omega) (by omega) (by omega)
    rw [valA,show (0:Int)*10+((x.toNat:Int)-48)=(x.toNat:Int)-48 by omega]
    omega
   rw [if_neg (by omega)]
   obtain ⟨v,hvv⟩:∃v,v=valA (x::w) 0:=⟨_,rfl⟩
   rw [←hvv] at hv ⊢
   have e1:(v*10+((c.toNat:Int)-48)).tdiv 10=v:=by
    rw [Int.tdiv_eq_ediv_of_nonneg (by omega)];omega
   have e2:(v*10+((c.toNat:Int)-48)).tmod 10=(c.toNat:Int)-48:=by
    rw [Int.tmod_eq_emod_of_nonneg (by omega)];omega
   rw [e1,e2,hvv,dcmF_val f (x::w) (by simp) (by simp at h1 ⊢;omega) (.inr (by simpa using hx)) h3.1,show (48+((c.toNat:Int)-48)).toNat=c.toNat by omega,UInt8.ofNat_toNat]
theorem canon_iff {l:By}:canon l=true↔l≠[]∧l.length≤9∧(l.length≤1∨l.getD 0 0≠48)∧l.all isD=true:=by
 simp only [canon,Bool.and_eq_true,Bool.or_eq_true,decide_eq_true_eq,and_assoc]
theorem dcm_num {l:By} (h:canon l=true):dcm (numV l)=l:=by
 obtain ⟨h1,h2,h3,h4⟩:=canon_iff.1 h
 rw [numV,if_pos h,dcm]
 exact dcmF_val 20 l h1 (by omega) h3 h4
theorem num_pos {l:By} (h:0≤numV l):canon l=true:=by
 rw [numV] at h
 split at h
 ·assumption
 ·omega
def splitL (c:UInt8):By→List By
 |[]=>[[]]
 |x::l=>if x=c then []::splitL c l else match splitL c l with
  |[]=>[[x]]
  |w::r=>(x::w)::r
theorem split_ne (c:UInt8):∀l,splitL c l≠[]
 |[]=>by simp [splitL]
 |x::l=>by
  rw [splitL]
  split
  ·simp
  ·split<;>simp
theorem split_none {c:UInt8}:∀{l:By},c∉l→splitL c l=[l]
 |[],_=>rfl
 |x::l,h=>by
  simp only [List.mem_cons,not_or] at h
  rw [splitL,if_neg (fun e=>h.1 e.symm),split_none h.2]
theorem split_at {c:UInt8}:∀{a:By} (b:By),c∉a→splitL c (a++c::b)=a::splitL c b
 |[],b,_=>by rw [List.nil_append,splitL,if_pos rfl]
 |x::a,b,h=>by
  simp only [List.mem_cons,not_or] at h
  rw [List.cons_append,splitL,if_neg (fun e=>h.1 e.symm),split_at b h.2]
def joinL (c:UInt8):List By→By
 |[]=>[]
 |[w]=>w
 |w::v::r=>w++c::joinL c (v::r)
theorem join_split (c:UInt8):∀l,joinL c (splitL c l)=l
 |[]=>rfl
 |x::l=>by
  have ih:=join_split c l
  rw [splitL]
  split
  ·rename_i e
   cases hs:splitL c l with
   |nil=>exact absurd hs (split_ne c l)
   |cons w r=>rw [hs] at ih;rw [joinL,List.nil_append,ih,e]
  ·cases hs:splitL c l with
   |nil=>exact absurd hs (split_ne c l)
   |cons w r=>
    rw [hs] at ih
    cases r with
    |nil=>rw [joinL] at ih ⊢;rw [ih]
    |cons v r=>rw [joinL] at ih ⊢;rw [List.cons_append,ih]
theorem split_mem {c d:UInt8} (hcd:d≠c):∀{l:By},d∈l→∃w∈splitL c l,d∈w
 |x::l,h=>by
  rw [splitL]
  have hne:=split_ne c l
  cases hs:splitL c l with
  |nil=>exact absurd hs hne
  |cons w r=>
   rcases List.mem_cons.1 h with h|h
   ·rw [if_neg (fun e=>hcd (h.trans e))]
    exact ⟨_,List.mem_cons_self,by rw [h];exact List.mem_cons_self⟩
   ·obtain ⟨w',hw',hd⟩:=split_mem hcd h
    rw [hs] at hw'
    split
    ·exact ⟨w',List.mem_cons_of_mem _ hw',hd⟩
    ·rcases List.mem_cons.1 hw' with e|e
     ·exact ⟨_,List.mem_cons_self,List.mem_cons_of_mem _ (by rw [←e];exact hd)⟩
     ·exact ⟨w',List.mem_cons_of_mem _ e,hd⟩
theorem canon_no {l:By} {d:UInt8} (h:d∈l) (hd:isD d=false):canon l=false:=by
 cases hc:canon l with
 |false=>rfl
 |true=>
  have:=(canon_iff.1 hc).2.2.2
  rw [List.all_eq_true] at this
  rw [this d h] at hd
  cases hd
def cutL (c:UInt8):By→By×By×Bool
 |[]=>([],[],false)
 |x::l=>if x=c then ([],l,true) else (x::(cutL c l).1,(cutL c l).2.1,(cutL c l).2.2)
theorem cut_none {c:UInt8}:∀{l:By},c∉l→cutL c l=(l,[],false)
 |[],_=>rfl
 |x::l,h=>by
  simp only [List.mem_cons,not_or] at h
  rw [cutL,if_neg (fun e=>h.1 e.symm),cut_none h.2]
theorem cut_at {c:UInt8}:∀{a:By} (b:By),c∉a→cutL c (a++c::b)=(a,b,true)
 |[],b,_=>by rw [List.nil_append,cutL,if_pos rfl]
 |x::a,b,h=>by
  simp only [List.mem_cons,not_or] at h
  rw [List.cons_append,cutL,if_neg (fun e=>h.1 e.symm),cut_at b h.2]
theorem mem_cut {c:UInt8}:∀{l:By},c∈l→∃a b,l=a++c::b∧c∉a
 |x::l,h=>by
  by_cases hx:x=c
  ·exact ⟨[],l,by rw [hx];rfl,by simp⟩
  ·obtain ⟨a,b,e,ha⟩:=mem_cut ((List.mem_cons.1 h).resolve_left (fun e=>hx e.symm))
   exact ⟨x::a,b,by rw [e];rfl,by simp only [List.mem_cons,not_or];exact ⟨fun e=>hx e.symm,ha⟩⟩
theorem cut_cases (c:UInt8) (l:By):(c∉l∧cutL c l=(l,[],false)∧splitL c l=[l])∨∃a b,l=a++c::b∧c∉a∧cutL c l=(a,b,true)∧splitL c l=a::splitL c b:=by
 by_cases h:c∈l
 ·obtain ⟨a,b,e,ha⟩:=mem_cut h
  exact .inr ⟨a,b,e,ha,by rw [e,cut_at b ha],by rw [e,split_at b ha]⟩
 ·exact .inl ⟨h,cut_none h,split_none h⟩
end Go.Ax
set_option linter.all false
namespace Go.Ax
open Go.Proofs
def c_n_ll (f0:Int→List V) (q:Int→Prop):Contract:=fun
 |[.int .i64 a0]=>some ([q a0],.slc true 33 (.slc true 2 (.int .i64 0) []) (f0 a0))
 |_=>none
def f0_square (n:Int):List V:=II true (List.replicate n.toNat (List.replicate n.toNat 0))
def q_n (n:Int):Prop:=0≤n∧n≤2147483647
theorem II_replicate (o:Bool) (n:Nat) (xs:List Int):II o (List.replicate n xs)=List.replicate n (.slc o 2 (.int .i64 0) (I xs)):=by simp [II,List.map_replicate]
theorem II_append (o:Bool) (a b:List (List Int)):II o (a++b)=II o a++II o b:=by simp [II]
theorem set_at {α:Type} (a b:List α) (x y:α) (i:Nat) (h:a.length=i):(a++x::b).set i y=a++y::b:=by
 rw [List.set_append_right _ _ (by omega),←h,Nat.sub_self,List.set_cons_zero]
theorem rep_step {α:Type} (n i:Nat) (h:i<n) (x y:α):(List.replicate i y++List.replicate (n-i) x).set i y=List.replicate (i+1) y++List.replicate (n-(i+1)) x:=by
 have:n-i=(n-(i+1))+1:=by omega
 rw [this,List.replicate_succ,set_at _ _ _ _ _ (by simp)]
 rw [List.replicate_succ',List.append_assoc]
 rfl
set_option maxHeartbeats 1000000 in
set_option maxRecDepth 100000 in
theorem s_impl_square:Sat Try.prog 18 (c_n_ll f0_square q_n):=by
 intro args ps r h hp
 unfold c_n_ll at h
 split at h
 ·rename_i a0
  simp only [Option.some.injEq,Prod.mk.injEq] at h
  obtain ⟨rfl,rfl⟩:=h
  obtain ⟨h0,h1⟩:q_n a0:=(alls_cons.1 hp).1
  refine fnOk_ofI (T:=tab) (B:=[]) (Bi:=[]) [0,2,3,4,8,9] Try.func18 rfl rfl (by kernel_rfl) (Nat.le_of_ble_eq_true rfl) mixed tabOk (by exact bookNil) (by exact bookINil) (by kernel_rfl) ?_
  intro L lp rr hL hr hf hlp
  conv=>cbv
  simp only [stdEqs hL]
  refine ⟨h0,by omega,h1,?_⟩
  have hl0:((List.replicate a0.toNat (V.slc true 2 (.int .i64 0) [])).length:Int)=a0:=by rw [List.length_replicate];omega
  simp only [hl0]
  refine hlp (Int×List V) _ _ _ [0,3,8,9] (fun x=>[(0,none,.val (.int .i64 a0)),(3,none,.val (.slc true 33 (.slc true 2 (.int .i64 0) []) x.2)),(8,none,.val (.int .i64 a0)),(9,none,.val (.int .i64 x.1))])
   (fun x=>0≤x.1∧x.1≤a0∧x.2=II true (List.replicate x.1.toNat (List.replicate a0.toNat 0)++List.replicate (a0.toNat-x.1.toNat) [])) (fun x=>(a0-x.1).toNat) (0,_) (by subst hL;rfl) ⟨by simp,h0,by simp [II_replicate]⟩ ?_
  rintro ⟨i,es⟩ ⟨i0,i1,hes⟩ hfx ag hag
  conv=>cbv
  simp only at i0 i1 hes
  have hel:es.length=a0.toNat:=by rw [hes,II_length];simp;omega
  simp only [stdEqs hL,hel,decide_eq_true_eq,decide_eq_false_iff_not]
  refine ⟨fun h=>⟨h0,by omega,h1,i0,by omega,by omega,?_,?_⟩,fun h=> ?_⟩
  ·rw [hes,II_getD];exact .inl (ok_ints _ _ _)
  ·rw [wrap_id (n:=i+1) (by omega) (by omega)]
   refine hag (i+1,_) ⟨by simp only;omega,by simp only;omega,?_⟩ (by simp only;omega)
   simp only [toNat_succ i0]
   rw [hes,I_replicate,II_set,rep_step _ _ (by omega)]
  ·have:i=a0:=by omega
   rw [hr,f0_square,hes,this,Nat.sub_self]
   simp
 ·cases h
def c_cc_bool (f0:List V→List V→List V→List V→Bool) (q:List V→List V→List V→List V→Prop):Contract:=fun
 |[.agg [.slc false 35 (.agg [.slc false 2 (.int .i64 0) []]) a0,.slc false 33 (.slc false 2 (.int .i64 0) []) a1],.agg [.slc false 35 (.agg [.slc false 2 (.int .i64 0) []]) b0,.slc false 33 (.slc false 2 (.int .i64 0) []) b1]]=>some ([q a0 a1 b0 b1],.bool (f0 a0 a1 b0 b1))
 |_=>none
def f0_eqC (a0 a1 b0 b1:List V):Bool:=f0_eqBS a0 b0&&f0_eqSS a1 b1
def q_eqC (a0 a1 b0 b1:List V):Prop:=q_eqBS a0 b0∧q_eqSS a1 b1
theorem frzs_BB {a:List V} (h:IsBB false a):V.frzs a=a:=by
 obtain ⟨l,rfl⟩:=h
 rw [BB_frzs]
theorem frzs_II {a:List V} (h:IsII false a):V.frzs a=a:=by
 obtain ⟨l,rfl⟩:=h
 rw [II_frzs]
set_option maxHeartbeats 1000000 in
set_option maxRecDepth 100000 in
theorem s_laws_eqCurve:Sat Try.prog 6 (c_cc_bool f0_eqC q_eqC):=by
 intro args ps r h hp
 unfold c_cc_bool at h
 split at h
 ·rename_i a0 a1 b0 b1
  simp only [Option.some.injEq,Prod.mk.injEq] at h
  obtain ⟨rfl,rfl⟩:=h
  obtain ⟨h0,h1⟩:q_eqC a0 a1 b0 b1:=(alls_cons.1 hp).1
  have g:=frzs_BB h0.1
  have g':=frzs_BB h0.2
  have g2:=frzs_II h1.1
  have g2':=frzs_II h1.2
  have hf0:f0_eqC a0 a1 b0 b1=(f0_eqBS a0 b0&&f0_eqSS a1 b1):=rfl
  generalize H_f0_eqBS:f0_eqBS=F_f0_eqBS
  generalize H_q_eqBS:q_eqBS=F_q_eqBS
  generalize H_f0_eqSS:f0_eqSS=F_f0_eqSS
  generalize H_q_eqSS:q_eqSS=F_q_eqSS
  refine fnOk_ofI (T:=tab) (B:=[(20,c_eqBS F_f0_eqBS F_q_eqBS),(21,c_eqSS F_f0_eqSS F_q_eqSS)]) (Bi:=[]) [0,1,2,3,4] Try.func6 rfl rfl (by kernel_rfl) (Nat.le_of_ble_eq_true rfl) mixed tabOk (by subst H_f0_eqBS H_q_eqBS H_f0_eqSS H_q_eqSS;exact (bookCons s_laws_eqBranchS (bookCons s_laws_eqInt64SS bookNil))) (by subst H_f0_eqBS H_q_eqBS H_f0_eqSS H_q_eqSS;exact bookINil) (by kernel_rfl) ?_
  intro L lp rr hL hr hf hlp
  conv=>cbv
  simp only [stdEqs hL,g,g',g2,g2']
  subst H_f0_eqBS H_q_eqBS H_f0_eqSS H_q_eqSS
  rw [hr,hf0]
  refine ⟨h0,fun h=> ?_,fun h=>⟨h1,fun h'=> ?_,fun h'=> ?_⟩⟩
  ·simp only [Bool.not_eq_true'] at h;rw [h];rfl
  ·simp only [Bool.not_eq_true',Bool.not_eq_false'] at h h';rw [h,h'];rfl
  ·simp only [Bool.not_eq_false'] at h h';rw [h,h'];rfl
 ·cases h
def ic_markC (f0:List V→List V→Int→Int) (f1 f2:List V→List V→Int→List V) (q:List V→List V→Int→Prop):IContract:=fun
 |[.agg [.slc true 35 (.agg [.slc true 2 (.int .i64 0) []]) a0,.slc true 33 (.slc true 2 (.int .i64 0) []) a1],.int .i64 k]=>some ([q a0 a1 k],.int .i64 (f0 a0 a1 k),.agg [.slc true 35 (.agg [.slc true 2 (.int .i64 0) []]) (f1 a0 a1 k),.slc true 33 (.slc true 2 (.int .i64 0) []) (f2 a0 a1 k)])
 |_=>none
def f0_markC (a0 a1:List V) (k:Int):Int:=f0_markSS a1 (f0_markBS a0 k)
def f1_markC (a0 _:List V) (k:Int):List V:=f1_markBS a0 k
def f2_markC (a0 a1:List V) (k:Int):List V:=f1_markSS a1 (f0_markBS a0 k)
def q_markC (a0 a1:List V) (k:Int):Prop:=q_markBO a0 k∧q_markO a1 (f0_markBS a0 k)
theorem Sh.agg2 {x y x' y':V} (h:Sh x y) (h':Sh x' y'):Sh (.agg [x,x']) (.agg [y,y']):=by
 refine .agg _ _ rfl (fun i a b ha hb=> ?_)
 match i with
 |0=>simp at ha hb;subst ha;subst hb;exact h
 |1=>simp at ha hb;subst ha;subst hb;exact h'
 |i+2=>simp at ha
set_option maxHeartbeats 1000000 in
set_option maxRecDepth 100000 in
theorem s_laws_markCurve:SatI Try.prog 7 0 (ic_markC f0_markC f1_markC f2_markC q_markC):=by
 intro args ps r y h hp
 unfold ic_markC at h
 split at h
 ·rename_i a0 a1 k
  simp only [Option.some.injEq,Prod.mk.injEq] at h
  obtain ⟨rfl,rfl,rfl⟩:=h
  obtain ⟨h0,h1⟩:q_markC a0 a1 k:=(alls_cons.1 hp).1
  have hf0:f0_markC a0 a1 k=f0_markSS a1 (f0_markBS a0 k):=rfl
  have hf1:f1_markC a0 a1 k=f1_markBS a0 k:=rfl
  have hf2:f2_markC a0 a1 k=f1_markSS a1 (f0_markBS a0 k):=rfl
  generalize H_f0_markBS:f0_markBS=F_f0_markBS
  generalize H_f1_markBS:f1_markBS=F_f1_markBS
  generalize H_q_markBO:q_markBO=F_q_markBO
  generalize H_f0_markSS:f0_markSS=F_f0_markSS
  generalize H_f1_markSS:f1_markSS=F_f1_markSS
  generalize H_q_markO:q_markO=F_q_markO
  refine fnIO_of (T:=tab) (B:=[]) (Bi:=[(22,0,false,ic_markBS F_f0_markBS F_f1_markBS F_q_markBO),(23,0,false,ic_markSS F_f0_markSS F_f1_markSS F_q_markO)]) 0 [0,1,2,4] Try.func7 rfl rfl (by kernel_rfl) (Nat.le_of_ble_eq_true rfl) mixed tabOk (by subst H_f0_markBS H_f1_markBS H_q_markBO H_f0_markSS H_f1_markSS H_q_markO;exact bookNil) (by subst H_f0_markBS H_f1_markBS H_q_markBO H_f0_markSS H_f1_markSS H_q_markO;exact (bookICons s_laws_markBranchS (bookICons s_laws_markInt64SS bookINil))) (by kernel_rfl) rfl rfl rfl (by subst H_f0_markBS H_f1_markSS H_f1_markBS;obtain ⟨⟨xs,rfl⟩,_⟩:=h0;obtain ⟨⟨ys,rfl⟩,_⟩:=h1;rw [hf1,hf2];exact Sh.agg2 (by rw [f1_markBS,unBB_BB];exact Sh.brans xs k) (by rw [f1_markSS,unII_II];exact Sh.lists ys _)) rfl rfl ?_
  intro L lp rr yy hL hr hy hf hlp
  conv=>cbv
  subst H_f0_markBS H_f1_markBS H_q_markBO H_f0_markSS H_f1_markSS H_q_markO
  rw [hr,hy,hf0,hf1,hf2]
  exact ⟨h0,h1,rfl,rfl⟩
 ·cases h
def c_heldC (f0:List V→List V→Int→Int) (q:List V→List V→Int→Prop):Contract:=fun
 |[.agg [.slc false 35 (.agg [.slc false 2 (.int .i64 0) []]) a0,.slc false 33 (.slc false 2 (.int .i64 0) []) a1],.int .i64 k]=>some ([q a0 a1 k],.int .i64 (f0 a0 a1 k))
 |_=>none
def f0_heldC (a0 a1:List V) (k:Int):Int:=bif decide (f0_heldBS a0 k<0) then-1 else f0_heldSS a1 (f0_heldBS a0 k)
def q_heldC (a0 a1:List V) (k:Int):Prop:=q_markBF a0 k∧IsII false a1∧k+tot (unBB a0)+tot (unII a1)≤9223372036854775807
set_option maxHeartbeats 1000000 in
set_option maxRecDepth 100000 in
theorem s_laws_heldCurve:Sat Try.prog 8 (c_heldC f0_heldC q_heldC):=by
 intro args ps r h hp
 unfold c_heldC at h
 split at h
 ·rename_i a0 a1 k
  simp only [Option.some.injEq,Prod.mk.injEq] at h
  obtain ⟨rfl,rfl⟩:=h
  obtain ⟨h0,h1,h2⟩:q_heldC a0 a1 k:=(alls_cons.1 hp).1
  have g:=frzs_BB h0.1
  have g2:=frzs_II h1
  have hf0:f0_heldC a0 a1 k=bif decide (f0_heldBS a0 k<0) then-1 else f0_heldSS a1 (f0_heldBS a0 k):=rfl
  generalize H_f0_heldBS:f0_heldBS=F_f0_heldBS
  generalize H_q_markBF:q_markBF=F_q_markBF
  generalize H_f0_heldSS:f0_heldSS=F_f0_heldSS
  generalize H_q_markF:q_markF=F_q_markF
  refine fnOk_ofI (T:=tab) (B:=[(24,c_heldBS F_f0_heldBS F_q_markBF),(25,c_heldSS F_f0_heldSS F_q_markF)]) (Bi:=[]) [0,1,2,4] Try.func8 rfl rfl (by kernel_rfl) (Nat.le_of_ble_eq_true rfl) mixed tabOk (by subst H_f0_heldBS H_q_markBF H_f0_heldSS H_q_markF;exact (bookCons s_laws_heldBranchS (bookCons s_laws_heldInt64SS bookNil))) (by subst H_f0_heldBS H_q_markBF H_f0_heldSS H_q_markF;exact bookINil) (by kernel_rfl) ?_
  intro L lp rr hL hr hf hlp
  conv=>cbv
  simp only [stdEqs hL,g,g2]
  subst H_f0_heldBS H_q_markBF H_f0_heldSS H_q_markF
  rw [hr,hf0]
  refine ⟨h0,fun h=> ?_,fun h=>⟨?_,fun h'=> ?_,fun h'=> ?_⟩⟩
  ·rw [h];rfl
  ·have e:f0_heldBS a0 k=k+tot (unBB a0):=by
    unfold f0_heldBS at h ⊢
    split at h
    ·rename_i hh;rw [if_pos hh]
    ·simp at h
   rw [e]
   exact ⟨h1,by have:=h0.2.1;omega,by omega⟩
  ·rw [h,cond_false]
   have e:f0_heldSS a1 (f0_heldBS a0 k)= -1:=by
    simp only [decide_eq_true_eq,decide_eq_false_iff_not] at h h'
    unfold f0_heldSS at h' ⊢
    split at h'
    ·omega
    ·rename_i hh;rw [if_neg hh]
   rw [e]
  ·rw [h,cond_false]
 ·cases h
theorem tot_marksGo:∀(l:List (List Int)) (k:Int),tot (marksGo k l)=tot l
 |[],_=>rfl
 |x::l,k=>by simp only [marksGo,tot,marks_len,tot_marksGo l]
theorem marksGo_idem:∀(l:List (List Int)) (k:Int),marksGo k (marksGo k l)=marksGo k l
 |[],_=>rfl
 |x::l,k=>by simp only [marksGo,marks_len,marksGo_idem l]
theorem curve_keys (bs ms:List (List Int)) (h:tot bs+tot ms≤4611686018427387904):
 V.noFzs (BB true bs)=true∧V.noFzs (II true ms)=true∧q_eqC (BB false bs) (II false ms) (BB false bs) (II false ms)∧f0_eqC (BB false bs) (II false ms) (BB false bs) (II false ms)=true∧
 q_markC (BB true bs) (II true ms) 1∧f0_markC (BB true bs) (II true ms) 1=1+tot bs+tot ms∧f1_markC (BB true bs) (II true ms) 1=BB true (marksGo 1 bs)∧f2_markC (BB true bs) (II true ms) 1=II true (marksGo (1+tot bs) ms)∧
 V.frzs (BB true bs)=BB false bs∧V.frzs (II true ms)=II false ms∧V.frzs (BB true (marksGo 1 bs))=BB false (marksGo 1 bs)∧V.frzs (II true (marksGo (1+tot bs) ms))=II false (marksGo (1+tot bs) ms)∧
 q_heldC (BB false (marksGo 1 bs)) (II false (marksGo (1+tot bs) ms)) 1∧f0_heldC (BB false (marksGo 1 bs)) (II false (marksGo (1+tot bs) ms)) 1=1+tot bs+tot ms:=by
 have e:f0_markBS (BB true bs) 1=1+tot bs:=by rw [f0_markBS,unBB_BB]
 have e':f0_heldBS (BB false (marksGo 1 bs)) 1=1+tot bs:=by rw [f0_heldBS,unBB_BB,marksGo_idem,if_pos rfl,tot_marksGo]
 refine ⟨BB_noFzs _,II_noFzs _,⟨⟨⟨_,rfl⟩,⟨_,rfl⟩⟩,⟨_,rfl⟩,⟨_,rfl⟩⟩,by simp [f0_eqC,f0_eqBS,f0_eqSS],⟨⟨⟨_,rfl⟩,by omega,by rw [unBB_BB];omega⟩,?_⟩,by rw [f0_markC,e,f0_markSS,unII_II],by rw [f1_markC,f1_markBS,unBB_BB],
  by rw [f2_markC,e,f1_markSS,unII_II],BB_frzs _ _,II_frzs _ _,BB_frzs _ _,II_frzs _ _,⟨⟨⟨_,rfl⟩,by omega,by rw [unBB_BB,tot_marksGo];omega⟩,⟨_,rfl⟩,by rw [unBB_BB,unII_II,tot_marksGo,tot_marksGo];omega⟩,?_⟩
 ·rw [e]
  exact ⟨⟨_,rfl⟩,by omega,by rw [unII_II];omega⟩
 ·have hn:decide ((1:Int)+tot bs<0)=false:=by simp;omega
  rw [f0_heldC,e',hn,cond_false,f0_heldSS,unII_II,marksGo_idem,if_pos rfl,tot_marksGo]
end Go.Ax
