import Derived.Test.YtpmjogeikkojoaaB02b1
import Derived.Shelf.SlLaysF
import Derived.Test.YtpmjogeikkojoaaProg
import Derived.Test.YtpmjogeikkojoaaB01b1
import Derived.Shelf.SlSortCmp.NoneTotal
/-
 Edges blown up:spec.l11BlowEdge,spec.BlowUpEdge. No conditions but those of the contracts.
-/
set_option linter.all false
namespace Go.Ax
open Go.Proofs
def c_Gii_H (f:List V→List V→Int→Int→List V×List V) (q:List V→List V→Int→Int→Prop):Contract:=fun
 |[.agg [.slc false 2 (.int .i64 0) a0,.slc false 22 (.slc false 2 (.int .i64 0) []) a1],.int .i64 a2,.int .i64 a3]=>some ([q a0 a1 a2 a3],.agg [.slc true 2 (.int .i64 0) ((f a0 a1 a2 a3).1),.slc true 22 (.slc false 2 (.int .i64 0) []) ((f a0 a1 a2 a3).2)])
 |_=>none
def c_Gii_Xi (f:List V→List V→Int→Int→List V×List V×Int) (q:List V→List V→Int→Int→Prop):Contract:=fun
 |[.agg [.slc false 2 (.int .i64 0) a0,.slc false 22 (.slc false 2 (.int .i64 0) []) a1],.int .i64 a2,.int .i64 a3]=>some ([q a0 a1 a2 a3],.tup [.agg [.slc false 2 (.int .i64 0) ((f a0 a1 a2 a3).1),.slc false 22 (.slc false 2 (.int .i64 0) []) ((f a0 a1 a2 a3).2.1)],.int .i64 ((f a0 a1 a2 a3).2.2)])
 |_=>none
def beW (ws:List Int) (i k:Nat):List Int:=(ws.set i (W (ws.getD i 0-1))).set k (W ((ws.set i (W (ws.getD i 0-1))).getD k 0-1))++[-1]
def beE (n:Nat) (es:List (List Int)) (i k:Int):List (List Int):=srtE (butR (edgL i k) es++[[i,(n:Int)],[k,(n:Int)]])
def f_bes (a b:List V) (i k:Int):List V×List V:=(I (beW (unI a) i.toNat k.toNat),II false (beE a.length (unII b) i k))
def q_bes (a b:List V) (i k:Int):Prop:=IsI a∧IsIIs b∧a.length≤1000∧b.length≤1000∧(0≤i∧i<a.length)∧0≤k∧k<a.length
theorem bes_w {ws:List Int} {i k:Nat} (hi:i<ws.length) (hk:k<ws.length):((ws++[-1]).set i (W ((ws++[-1]).getD i 0-1))).set k (W (((ws++[-1]).set i (W ((ws++[-1]).getD i 0-1))).getD k 0-1))=beW ws i k:=by
 have e1:∀(l:List Int) (t:Nat),t<l.length→(l++[-1]).getD t 0=l.getD t 0:=fun l t h=>by
  rw [List.getD_eq_getElem?_getD,List.getElem?_append_left h,←List.getD_eq_getElem?_getD]
 have e2:∀(l:List Int) (t:Nat) (x:Int),t<l.length→(l++[-1]).set t x=l.set t x++[-1]:=fun l t x h=>List.set_append_left _ _ h
 rw [e1 _ _ hi,e2 _ _ _ hi,e1 _ _ (by rw [List.length_set];exact hk),e2 _ _ _ (by rw [List.length_set];exact hk),beW]
set_option maxHeartbeats 1000000 in
set_option maxRecDepth 100000 in
theorem s_spec_l11BlowEdge:Sat Try.prog 18 (c_Gii_H f_bes q_bes):=by
 intro args ps r h hp
 unfold c_Gii_H at h
 split at h
 ·rename_i a0 a1 i k
  simp only [Option.some.injEq,Prod.mk.injEq] at h
  obtain ⟨rfl,rfl⟩:=h
  obtain ⟨⟨ws,hws⟩,⟨es,hes,hl1,hl2⟩,hwl1,hel1,⟨i0,i1⟩,k0,k1⟩:q_bes a0 a1 i k:=(alls_cons.1 hp).1
  have g0:V.frzs a0=a0:=by rw [hws,I_frzs]
  have g1:V.frzs a1=a1:=by rw [hes,II_frzs]
  have hwl:a0.length=ws.length:=by rw [hws,I_length]
  have hel:a1.length=es.length:=by rw [hes,II_length]
  have gws:∀k,a0.getD k (.int .i64 0)= .int .i64 (ws.getD k 0):=fun k=>by rw [hws,I_getD]
  have ges:∀k,a1.getD k (.slc false 2 (.int .i64 0) [])= .slc false 2 (.int .i64 0) (I (es.getD k [])):=fun k=>by rw [hes,II_getD]
  have hf0:f_bes a0 a1 i k=(I (beW ws i.toNat k.toNat),II false (beE ws.length es i k)):=by rw [f_bes,hwl,hws,hes,unI_I,unII_II]
  obtain ⟨n,hn⟩:∃n:Int,n=ws.length:=⟨_,rfl⟩
  obtain ⟨m,hm⟩:∃m:Int,m=es.length:=⟨_,rfl⟩
  generalize H_same:same=F_same
  generalize H_IsIs:IsIs=F_IsIs
  generalize H_f0_eqI:f0_eqI=F_f0_eqI
  generalize H_q_II:q_II=F_q_II
  generalize H_f_srtF:f_srtF=F_f_srtF
  generalize H_q_srtE:q_srtE=F_q_srtE
  refine fnOk_ofI (T:=tab) (B:=[(39,c_laws_toInt64S F_same F_IsIs),(40,c_ll_b F_f0_eqI F_q_II)]) (Bi:=[(41,0,true,ic_srtF F_f_srtF F_q_srtE)]) [2000009061,0,1,2,3,6,7,8,9] Try.func18 rfl rfl (by kernel_rfl) (Nat.le_of_ble_eq_true rfl) mixed tabOk (by subst H_same H_IsIs H_f0_eqI H_q_II H_f_srtF H_q_srtE;exact (bookCons s_spec_l01Own (bookCons s_spec_l01Same bookNil))) (by subst H_same H_IsIs H_f0_eqI H_q_II H_f_srtF H_q_srtE;exact (bookMCons s_spec_l11Sorted bookINil)) (by kernel_rfl) ?_
  intro L lp rr hL hr hf hlp
  have Eo:F_same a0=a0:=by rw [←H_same];rfl
  conv=>cbv
  simp only [stdEqs hL,imp_self,true_and,and_true,bif_or,bif_and,Bool.or_eq_true,Bool.or_eq_false_iff,Bool.and_eq_true,Bool.and_eq_false_iff,decide_eq_true_eq,decide_eq_false_iff_not,Bool.not_eq_true',Bool.not_eq_false',beq_iff_eq,beq_eq_false_iff_ne,ne_eq,toNat0,toNat1,ok_int,toI_int,I_frzs,I_length,I_getD,ok_ints,toL_slc,g0,g1,hwl,gws,Eo,←hn]
  have ha1:a0++[V.int .i64 (-1)]=I (ws++[-1]):=by rw [hws,←I_append];rfl
  have hset:∀(l:List Int) (t:Nat) (x:Int),(I l).set t (V.int .i64 x)=I (l.set t x):=fun l t x=>I_set l t x
  obtain ⟨w1,hw1⟩:∃w1,w1=ws++[-1]:=⟨_,rfl⟩
  rw [←hw1] at ha1
  have hw1l:w1.length=ws.length+1:=by rw [hw1];simp
  simp only [stdEqs hL,imp_self,true_and,and_true,bif_or,bif_and,Bool.or_eq_true,Bool.or_eq_false_iff,Bool.and_eq_true,Bool.and_eq_false_iff,decide_eq_true_eq,decide_eq_false_iff_not,Bool.not_eq_true',Bool.not_eq_false',beq_iff_eq,beq_eq_false_iff_ne,ne_eq,toNat0,toNat1,ok_int,toI_int,I_frzs,I_length,I_getD,ok_ints,toL_slc,ha1,hset,List.length_set,hw1l]
  obtain ⟨w2,hw2⟩:∃w2,w2=(w1.set i.toNat (W (w1.getD i.toNat 0-1))).set k.toNat (W ((w1.set i.toNat (W (w1.getD i.toNat 0-1))).getD k.toNat 0-1)):=⟨_,rfl⟩
  have hbw:w2=beW ws i.toNat k.toNat:=by rw [hw2,hw1];exact bes_w (by omega) (by omega)
  rw [←hw2]
  have hin:i.toNat<ws.length:=by omega
  have hkn:k.toNat<ws.length:=by omega
  refine ⟨by rw [←H_IsIs];exact ⟨⟨_,hws⟩,by omega⟩,rfl,by simp only [List.length_cons,List.length_nil];omega,solid_one _,i0,by omega,by omega,i0,by omega,by omega,k0,by omega,by omega,k0,by omega,by omega,?_⟩
  obtain ⟨vw,hvw⟩:∃vw,vw=I w2:=⟨_,rfl⟩
  rw [←hvw]
  refine hlp (List V×Int) _ _ _ [1,2,3,6,7,8,9] (fun x=>[(1,none,.val (.int .i64 i)),(2,none,.val (.int .i64 k)),(3,none,.val (.box 27 (.agg [.slc false 2 (.int .i64 0) a0,.slc false 22 (.slc false 2 (.int .i64 0) []) a1]))),(6,none,.val (.box 27 (.agg [.slc true 2 (.int .i64 0) [],.slc true 22 (.slc true 2 (.int .i64 0) []) []]))),(7,none,.val (.int .i64 n)),(8,none,.val (.box 27 (.agg [.slc true 2 (.int .i64 0) vw,.slc true 22 (.slc true 2 (.int .i64 0) []) x.1]))),(9,none,.val (.int .i64 x.2))])
   (fun x=>0≤x.2∧x.2≤m∧x.1=II true (butR (edgL i k) (es.take x.2.toNat))) (fun x=>(m-x.2).toNat) (([],0)) (by subst hL;rfl) ?_ ?_
  ·exact ⟨by simp,by simp only;omega,rfl⟩
  rintro ⟨os,j⟩ ⟨j0,j1,hO⟩ hfx ag hag
  simp only at j0 j1 hO
  have hbl:(butR (edgL i k) (es.take j.toNat)).length≤1000:=by
   have:=List.length_filter_le (fun r=>decide (r≠edgL i k)) (es.take j.toNat)
   rw [List.length_take] at this
   rw [butR];omega
  have hol:os.length=(butR (edgL i k) (es.take j.toNat)).length:=by rw [hO,II_length]
  conv=>cbv
  simp only [stdEqs hL,imp_self,true_and,and_true,bif_or,bif_and,Bool.or_eq_true,Bool.or_eq_false_iff,Bool.and_eq_true,Bool.and_eq_false_iff,decide_eq_true_eq,decide_eq_false_iff_not,Bool.not_eq_true',Bool.not_eq_false',beq_iff_eq,beq_eq_false_iff_ne,ne_eq,toNat0,toNat1,ok_int,toI_int,I_frzs,I_length,I_getD,ok_ints,toL_slc,hel,←hm,ges,I_frzs]
  have hed:V.frzs [V.int .i64 (min i k),V.int .i64 (max i k)]=I (edgL i k):=rfl
  have E1:F_f0_eqI (I (es.getD j.toNat [])) (I (edgL i k))=decide (es.getD j.toNat []=edgL i k):=by rw [←H_f0_eqI,f0_eqI,unI_I,unI_I]
  have Q1:F_q_II (I (es.getD j.toNat [])) (I (edgL i k)):=by rw [←H_q_II];exact ⟨⟨_,rfl⟩,_,rfl⟩
  have E2:∀l,F_same l=l:=fun l=>by rw [←H_same];rfl
  rw [hed,E1,E2,decide_eq_false_iff_not,decide_eq_true_eq]
  refine ⟨fun h2=>⟨j0,h2,Q1,fun h3=> ?_,fun h3=> ?_⟩,fun h2=> ?_⟩
  ·have hjn:j.toNat<es.length:=by omega
   have hs1:=butR_snoc (E:=edgL i k) hjn
   rw [if_neg h3] at hs1
   rw [wrap_id (n:=j+1) (by omega) (by omega)]
   refine ⟨j0,h2,?_,by simp only [List.length_cons,List.length_nil];omega,solid1 (by simp [V.solid]),?_⟩
   ·rw [←H_IsIs]
    exact ⟨⟨_,rfl⟩,by rw [I_length];exact hl2 _ (by rw [List.getD_eq_getElem?_getD,List.getElem?_eq_getElem hjn];exact List.getElem_mem _)⟩
   ·refine hag (_,j+1) ⟨by simp only;omega,by simp only;omega,?_⟩ (by simp only;omega)
    simp only [toNat_succ j0]
    rw [hs1,hO]
    simp [II]
  ·have hjn:j.toNat<es.length:=by omega
   have hs1:=butR_snoc (E:=edgL i k) hjn
   rw [if_pos h3,List.append_nil] at hs1
   rw [wrap_id (n:=j+1) (by omega) (by omega)]
   refine hag (os,j+1) ⟨by simp only;omega,by simp only;omega,?_⟩ (by simp only;omega)
   simp only [toNat_succ j0]
   rw [hs1,hO]
  ·rw [List.take_of_length_le (by omega)] at hO hol hbl
   have hee:os++[V.slc true 2 (V.int .i64 0) [V.int .i64 i,V.int .i64 n],V.slc true 2 (V.int .i64 0) [V.int .i64 k,V.int .i64 n]]=II true (butR (edgL i k) es++[[i,(ws.length:Int)],[k,(ws.length:Int)]]):=by
    rw [hO,←hn]
    simp [II,I]
   have hse:F_f_srtF (II true (butR (edgL i k) es++[[i,(ws.length:Int)],[k,(ws.length:Int)]]))=II false (beE ws.length es i k):=by rw [←H_f_srtF,f_srtF,unII_II,beE]
   rw [hee,hse]
   refine ⟨by simp only [List.length_cons,List.length_nil];omega,fun x hx=> ?_,?_,?_⟩
   ·simp only [List.mem_cons,List.not_mem_nil,or_false] at hx
    rcases hx with rfl|rfl<;>simp [V.solid,V.solids]
   ·rw [←H_q_srtE]
    refine ⟨_,rfl,?_⟩
    rw [List.length_append];simp only [List.length_cons,List.length_nil];omega
   ·rw [hr,hf0,hvw,hbw]
 ·cases h
def f_BEs (a b:List V) (i k:Int):List V×List V×Int:=bif isGr (unI a) (unII b) then (bif f_isV a b i&&f_isV a b k then (bif f_full a b (I [i,k]) then ([],[],3) else (bif (near (unII b) i).contains k then (I (beW (unI a) i.toNat k.toNat),II false (beE a.length (unII b) i k),0) else ([],[],5))) else ([],[],2)) else ([],[],1)
def q_Gii9 (a b:List V) (_ _:Int):Prop:=q_G a b
theorem q_bes_of {a b:List V} {i k:Int} (hq:q_G a b) (h:f_isGr a b=true) (h2:f_isV a b i=true) (h3:f_isV a b k=true):q_bes a b i k∧q_full a b (I [i,k]):=by
 obtain ⟨⟨ws,hws⟩,es,hes⟩:=hq
 rw [f_isGr,hws,hes,unI_I,unII_II] at h
 have g:=gr_of h
 have hwl:a.length=ws.length:=by rw [hws,I_length]
 have hel:b.length=es.length:=by rw [hes,II_length]
 have n2:=g.n2
 have n3:=g.el
 simp only [f_isV,Bool.and_eq_true,decide_eq_true_eq] at h2 h3
 refine ⟨⟨⟨ws,hws⟩,⟨es,hes,by omega,fun e he=>by rw [(g.ed e he).1];decide⟩,by omega,by omega,⟨h2.1,by omega⟩,h3.1,by omega⟩,⟨ws,hws⟩,⟨es,hes⟩,by omega,[i,k],rfl,by simp,fun t ht=> ?_⟩
 have:t=0∨t=1:=by simp at ht;omega
 rcases this with rfl|rfl
 ·exact ⟨h2.1,by show i<_;omega⟩
 ·exact ⟨h3.1,by show k<_;omega⟩
theorem q_isV_of7 {a b:List V} (hq:q_G a b) (h:f_isGr a b=true) (v:Int):q_isV a b v:=by
 obtain ⟨⟨ws,hws⟩,es,hes⟩:=hq
 rw [f_isGr,hws,hes,unI_I,unII_II] at h
 exact ⟨⟨ws,hws⟩,⟨es,hes⟩,by rw [hws,I_length];have:=(gr_of h).n2;omega⟩
theorem near_of7 {a b:List V} (hq:q_G a b) (h:f_isGr a b=true) (i:Int) {k:Int}:q_near a b i∧q_lI (I (near (unII b) i)) k:=by
 obtain ⟨⟨ws,hws⟩,es,hes⟩:=hq
 rw [f_isGr,hws,hes,unI_I,unII_II] at h
 have g:=gr_of h
 have n2:=g.n2
 have n3:=g.el
 refine ⟨⟨⟨ws,hws⟩,es,hes,by omega,fun e he=>(g.ed e he).1⟩,⟨_,rfl⟩,?_⟩
 rw [I_length,hes,unII_II,near,List.length_append]
 have:=nearA_len es i
 have:=nearB_len es i
 omega
set_option maxHeartbeats 1000000 in
set_option maxRecDepth 100000 in
theorem s_spec_BlowUpEdge:Sat Try.prog 5 (c_Gii_Xi f_BEs q_Gii9):=by
 intro args ps r h hp
 unfold c_Gii_Xi at h
 split at h
 ·rename_i a0 a1 i k
  simp only [Option.some.injEq,Prod.mk.injEq] at h
  obtain ⟨rfl,rfl⟩:=h
  have hq:q_G a0 a1:=(alls_cons.1 hp).1
  have g0:=hq.1.frz
  have g1:=frzs_II hq.2
  have hf0:f_BEs a0 a1 i k=bif f_isGr a0 a1 then (bif f_isV a0 a1 i&&f_isV a0 a1 k then (bif f_full a0 a1 (I [i,k]) then ([],[],3) else (bif (near (unII a1) i).contains k then (I (beW (unI a0) i.toNat k.toNat),II false (beE a0.length (unII a1) i k),0) else ([],[],5))) else ([],[],2)) else ([],[],1):=rfl
  generalize H_f_isGr:f_isGr=F_f_isGr
  generalize H_q_G:q_G=F_q_G
  generalize H_f_isV:f_isV=F_f_isV
  generalize H_q_isV:q_isV=F_q_isV
  generalize H_f_full:f_full=F_f_full
  generalize H_q_full:q_full=F_q_full
  generalize H_f_near:f_near=F_f_near
  generalize H_q_near:q_near=F_q_near
  generalize H_f_has:f_has=F_f_has
  generalize H_q_lI:q_lI=F_q_lI
  generalize H_f_bes:f_bes=F_f_bes
  generalize H_q_bes:q_bes=F_q_bes
  refine fnOk_ofF (T:=tab) (B:=[(13,c_G_b F_f_isGr F_q_G),(14,c_Gi_b F_f_isV F_q_isV),(15,c_Gl_b8 F_f_full F_q_full),(17,c_Gi_l F_f_near F_q_near),(16,c_lxi_b F_f_has F_q_lI),(18,c_Gii_H F_f_bes F_q_bes)]) (Bi:=[]) [0,1,2,3,6,7] Try.func5 rfl rfl (by kernel_rfl) (Nat.le_of_ble_eq_true rfl) mixed tabOk (by subst H_f_isGr H_q_G H_f_isV H_q_isV H_f_full H_q_full H_f_near H_q_near H_f_has H_q_lI H_f_bes H_q_bes;exact (bookCons s_spec_l11Is (bookCons s_spec_l11Vertex (bookCons s_spec_l11Full (bookCons s_spec_l11Near (bookCons s_spec_l01Has (bookCons s_spec_l11BlowEdge bookNil))))))) (by subst H_f_isGr H_q_G H_f_isV H_q_isV H_f_full H_q_full H_f_near H_q_near H_f_has H_q_lI H_f_bes H_q_bes;exact bookINil) (by kernel_rfl) ?_
  intro L lp rr hL hr hf hlp
  conv=>cbv
  simp only [stdEqs hL,imp_self,true_and,and_true,bif_or,bif_and,Bool.or_eq_true,Bool.or_eq_false_iff,Bool.and_eq_true,Bool.and_eq_false_iff,decide_eq_true_eq,decide_eq_false_iff_not,Bool.not_eq_true',Bool.not_eq_false',beq_iff_eq,beq_eq_false_iff_ne,ne_eq,toNat0,toNat1,ok_int,toI_int,I_frzs,I_length,I_getD,ok_ints,toL_slc,g0,g1]
  subst H_f_isGr H_q_G H_f_isV H_q_isV H_f_full H_q_full H_f_bes H_q_bes H_f_near H_q_near H_f_has H_q_lI
  have hI1:[V.int .i64 i,V.int .i64 k]=I [i,k]:=rfl
  rw [hI1,I_frzs]
  have hfn:V.frzs (f_near a0 a1 i)=I (near (unII a1) i):=by rw [f_near,I_frzs]
  have hfh:f_has (I (near (unII a1) i)) k=(near (unII a1) i).contains k:=by rw [f_has,unI_I]
  rw [hfn,hfh]
  refine ⟨hq,fun h=> ?_,fun h=>⟨q_isV_of7 hq h i,fun _=>q_isV_of7 hq h k,fun h2=> ?_,fun h2=> ?_⟩⟩
  ·rw [hr,hf0,h];rfl
  ·rw [hr,hf0,h,show (f_isV a0 a1 i&&f_isV a0 a1 k)=false by rw [Bool.and_eq_false_iff];exact h2];rfl
  obtain ⟨k1,k2⟩:=q_bes_of hq h h2.1 h2.2
  have h3:(f_isV a0 a1 i&&f_isV a0 a1 k)=true:=by rw [Bool.and_eq_true];exact h2
  refine ⟨k2,fun h4=> ?_,fun h4=>⟨?_,?_,fun h5=> ?_,fun h5=>⟨k1,?_⟩⟩⟩
  ·rw [hr,hf0,h,h3,h4];rfl
  ·exact (near_of7 hq h i (k:=k)).1
  ·exact (near_of7 hq h i).2
  ·rw [hr,hf0,h,h3,h4,h5];rfl
  ·rw [hr,hf0,h,h3,h4,h5]
   simp only [f_bes,I_frzs,II_frzs]
   rfl
 ·cases h
end Go.Ax
set_option linter.all false
set_option linter.all false
namespace Go.Proofs
open Go.Shelf
def lsortE_ren:Go.Shelf.Ren:=⟨fun|6=>52|15=>56|14=>55|28=>66|29=>67|20=>58|21=>59|22=>60|23=>61|24=>62|25=>63|26=>64|27=>65|46=>68|47=>69|48=>70|49=>71|50=>72|57=>73|n=>n,fun|22=>23|24=>22|25=>54|3=>3|39=>63|0=>0|53=>74|55=>76|4=>4|46=>67|45=>66|50=>71|5=>5|9=>9|66=>77|70=>81|76=>83|77=>84|n=>n,fun|n=>n⟩
theorem lsortE:Go.Proofs.SlLaysF.n6 Try.prog lsortE_ren:={
 mixed:=by kernel_rfl
 f6:=⟨Try.f52.name,by decide,Try.func52.trans (congrArg some (by kernel_rfl))⟩
 f14:=⟨Try.f55.name,by decide,Try.func55.trans (congrArg some (by kernel_rfl))⟩
 f15:=Try.func56.trans (congrArg some (by kernel_rfl))
 f20:=⟨Try.f58.name,by decide,Try.func58.trans (congrArg some (by kernel_rfl))⟩
 f21:=⟨Try.f59.name,by decide,Try.func59.trans (congrArg some (by kernel_rfl))⟩
 f22:=⟨Try.f60.name,by decide,Try.func60.trans (congrArg some (by kernel_rfl))⟩
 f23:=⟨Try.f61.name,by decide,Try.func61.trans (congrArg some (by kernel_rfl))⟩
 f24:=⟨Try.f62.name,by decide,Try.func62.trans (congrArg some (by kernel_rfl))⟩
 f25:=⟨Try.f63.name,by decide,Try.func63.trans (congrArg some (by kernel_rfl))⟩
 f26:=⟨Try.f64.name,by decide,Try.func64.trans (congrArg some (by kernel_rfl))⟩
 f27:=⟨Try.f65.name,by decide,Try.func65.trans (congrArg some (by kernel_rfl))⟩
 f28:=Try.func66.trans (congrArg some (by kernel_rfl))
 f29:=Try.func67.trans (congrArg some (by kernel_rfl))
 f46:=⟨Try.f68.name,by decide,Try.func68.trans (congrArg some (by kernel_rfl))⟩
 f47:=Try.func69.trans (congrArg some (by kernel_rfl))
 f48:=Try.func70.trans (congrArg some (by kernel_rfl))
 f49:=⟨Try.f71.name,by decide,Try.func71.trans (congrArg some (by kernel_rfl))⟩
 f50:=⟨Try.f72.name,by decide,Try.func72.trans (congrArg some (by kernel_rfl))⟩
 f57:=⟨Try.f73.name,by decide,Try.func73.trans (congrArg some (by kernel_rfl))⟩
 t0:=Try.underlying0
 a0:=Try.isAgg0
 z0:=Try.sizeOf0
 v0:=Try.zeroValue0
 t3:=Try.underlying3
 a3:=Try.isAgg3
 z3:=Try.sizeOf3
 v3:=Try.zeroValue3
 t4:=Try.underlying4
 a4:=Try.isAgg4
 z4:=Try.sizeOf4
 v4:=Try.zeroValue4
 t5:=Try.underlying5
 a5:=Try.isAgg5
 z5:=Try.sizeOf5
 v5:=Try.zeroValue5
 t9:=Try.underlying9
 a9:=Try.isAgg9
 z9:=Try.sizeOf9
 v9:=Try.zeroValue9
 t22:=Try.underlying23
 a22:=Try.isAgg23
 z22:=Try.sizeOf23
 v22:=Try.zeroValue23
 a24:=Try.isAgg22
 z24:=Try.sizeOf22
 t25:=Try.underlying54
 a25:=Try.isAgg54
 z25:=Try.sizeOf54
 v25:=Try.zeroValue54
 t39:=Try.underlying63
 a39:=Try.isAgg63
 z39:=Try.sizeOf63
 v39:=Try.zeroValue63
 t45:=Try.underlying66
 a45:=Try.isAgg66
 z45:=Try.sizeOf66
 v45:=Try.zeroValue66
 t46:=Try.underlying67
 a46:=Try.isAgg67
 z46:=Try.sizeOf67
 v46:=Try.zeroValue67
 t50:=Try.underlying71
 a50:=Try.isAgg71
 z50:=Try.sizeOf71
 v50:=Try.zeroValue71
 t53:=Try.underlying74
 a53:=Try.isAgg74
 z53:=Try.sizeOf74
 v53:=Try.zeroValue74
 t55:=Try.underlying76
 a55:=Try.isAgg76
 z55:=Try.sizeOf76
 v55:=Try.zeroValue76
 t66:=Try.underlying77
 a66:=Try.isAgg77
 z66:=Try.sizeOf77
 v66:=Try.zeroValue77
 t70:=Try.underlying81
 a70:=Try.isAgg81
 z70:=Try.sizeOf81
 v70:=Try.zeroValue81
 t76:=Try.underlying83
 a76:=Try.isAgg83
 z76:=Try.sizeOf83
 v76:=Try.zeroValue83
 t77:=Try.underlying84
 a77:=Try.isAgg84
 z77:=Try.sizeOf84
 v77:=Try.zeroValue84}
end Go.Proofs
set_option linter.all false
namespace Go.Ax
open Go.Proofs Go.Sort Go.RowKit
set_option maxHeartbeats 1000000 in
set_option maxRecDepth 100000 in
theorem s_cmpE:Sat Try.prog 53 (c_ll_i f_cmpL q_II):=by
 intro args ps r h hp
 unfold c_ll_i at h
 split at h
 ·rename_i a0 a1
  simp only [Option.some.injEq,Prod.mk.injEq] at h
  obtain ⟨rfl,rfl⟩:=h
  have hq:q_II a0 a1:=(alls_cons.1 hp).1
  have g0:V.frzs a0=a0:=by obtain ⟨⟨l,hl⟩,_⟩:=hq;rw [hl,I_frzs]
  have g1:V.frzs a1=a1:=by obtain ⟨_,⟨l,hl⟩⟩:=hq;rw [hl,I_frzs]
  generalize H_f_cmpL:f_cmpL=F_f_cmpL
  generalize H_q_II:q_II=F_q_II
  refine fnOk_ofI (T:=tab) (B:=[(43,c_ll_i F_f_cmpL F_q_II)]) (Bi:=[]) [0,1,4] Try.func53 rfl rfl (by kernel_rfl) (Nat.le_of_ble_eq_true rfl) mixed tabOk (by subst H_f_cmpL H_q_II;exact (bookCons s_slicesCompare bookNil)) (by subst H_f_cmpL H_q_II;exact bookINil) (by kernel_rfl) ?_
  intro L lp rr hL hr hf hlp
  conv=>cbv
  simp only [stdEqs hL,g0,g1]
  subst H_f_cmpL H_q_II
  rw [hr]
  exact ⟨hq,rfl⟩
 ·cases h
theorem czE: Try.prog.cellsOf 22 =1:=by kernel_rfl
theorem world_grown {W w':World} (h:BelowD W.heap.size W w'):w'=grow (W.drewN (w'.drawn-W.drawn)) (w'.heap.extract W.heap.size w'.heap.size):=by
 obtain ⟨h1,h2,⟨h3,h4⟩,h5,h6⟩:=h
 have hd:(grow (W.drewN (w'.drawn-W.drawn)) (w'.heap.extract W.heap.size w'.heap.size)).drawn=w'.drawn:=by
  show W.drawn+(w'.drawn-W.drawn)=w'.drawn
  omega
 have hh:(grow (W.drewN (w'.drawn-W.drawn)) (w'.heap.extract W.heap.size w'.heap.size)).heap=w'.heap:=by
  show W.heap++w'.heap.extract W.heap.size w'.heap.size=w'.heap
  apply Array.ext_getElem?
  intro i
  by_cases hi:i<W.heap.size
  ·rw [Array.getElem?_append_left hi,h6 i hi]
  ·rw [Array.getElem?_append_right (by omega),Array.getElem?_extract]
   by_cases h7:i<w'.heap.size
   ·rw [if_pos (by omega),show W.heap.size+(i-W.heap.size)=i by omega]
   ·rw [if_neg (by omega),Array.getElem?_eq_none (by omega)]
 cases w'
 simp only [grow,World.drewN] at hd hh ⊢
 simp only at h1 h2 h3
 simp only [World.mk.injEq]
 exact ⟨hh.symm,h2,hd.symm,h1,h3⟩
theorem heap_putRowE {α:Type} [Inhabited α] (enc:α→Value) {w:World} {blk:Nat} {cur:Array Value} {t:TypeId} {fz:Nat×Nat} (hb:w.heap[blk]? =some (.cells cur t fz)) (d:Array α):
 (putRow enc w blk 0 d).heap[blk]? =some (.cells (putCells enc 0 d cur) t fz):=by
 simp [putRow,mapBlock,Array.getElem?_modify,hb,onCells]
theorem heap_putRowE_ne {α:Type} [Inhabited α] (enc:α→Value) {w:World} {blk k:Nat} (hk:k≠blk) (d:Array α):(putRow enc w blk 0 d).heap[k]? =w.heap[k]? :=by
 simp [putRow,mapBlock,Array.getElem?_modify,Ne.symm hk]
theorem sortE_walk {p:Option Addr} {n cap:Nat} {w:World} {R:Ending→World→Prop} (hcon:Calls Try.prog 52 #[.slice p n cap,.func (.func 53) #[] #[]] w fun e w'=>e= .returned (.tuple #[])∧R e w'):
 Calls Try.prog 29 #[.slice p n cap] w fun e w'=>e= .returned (.slice p n cap)∧R (.returned (.tuple #[])) w':=by
 go_enter Try.func29,Try.ntmps29
 go_wp2_with (go_at_call 52;refine hcon.mono ?_;rintro e w' ⟨rfl,hR⟩)
 go_ret
 exact ⟨rfl,hR⟩
theorem fin_get {n:Nat} [Inhabited (Fin n)] {j:Nat} (h:j<n):(Array.ofFn (fun i:Fin n=>i))[j]! =⟨j,h⟩:=by
 rw [getElem!_pos _ j (by simpa using h)]
 simp
theorem sort_lays {n:Nat} [Inhabited (Fin n)] {es:List (List Int)} (hn:es.length=n) {w:World} {F Oj:Nat→Prop} {b:Nat} {cs:Nat→List Value} {Os:Nat→Nat→Prop}
 (hF:∀k,F k→k<w.heap.size) (hO:∀k,Oj k→k<w.heap.size∧¬F k) (hOb:Oj b) (hOs:∀i x,Os i x→Oj x∧x≠b)
 (hr:∀i x,(II true es)[i]? =some x→Rep Try.prog.cellsOf w F x (cs i) (Os i)):
 CmpLays1 Try.prog 53 #[] (fun i:Fin n=>(cs i).headD undef) (fun i j:Fin n=>cmpL (es.getD i []) (es.getD j [])) b 0 n w:=by
 intro m os dk hdk x y
 rw [Array.append_empty]
 generalize hW:sortWorld (fun i:Fin n=>(cs i).headD undef) w b 0 m dk os=W
 have hbs:=(hO b hOb).1
 have hWs:w.heap.size≤W.heap.size:=by rw [←hW,sortWorld,size_grow,Go.Sort.size_putRow];exact Nat.le_add_right _ _
 have hWo:∀k,k<w.heap.size→k≠b→W.heap[k]? =w.heap[k]? :=fun k hk hkb=>by
  rw [←hW,sortWorld,heap_grow_old _ _ (by rw [Go.Sort.size_putRow];exact hk),heap_putRowE_ne _ hkb]
  rfl
 have hrow:∀i:Fin n,(V.slc false 2 (.int .i64 0) (I (es.getD i []))).reg (cs i) ((cs i).headD undef)∧Rep Try.prog.cellsOf W (fun k=>F k∨∃i:Nat,i<n∧Os i k) (.slc false 2 (.int .i64 0) (I (es.getD i []))) (cs i) (fun _=>False):=fun i=>by
  refine ⟨rfl,?_⟩
  have h1:=hr i (.slc true 2 (.int .i64 0) (I (es.getD i []))) (by
   rw [II,List.getElem?_map,List.getElem?_eq_getElem (by rw [hn];exact i.2),List.getD_eq_getElem?_getD,List.getElem?_eq_getElem (by rw [hn];exact i.2)]
   rfl)
  have h2:=(h1.world (w':=W) (fun k hk=>by
   rcases hk with hk|hk
   ·exact hWo k (hF k hk) (fun e=>(hO b hOb).2 (by rw [←e];exact hk))
   ·exact hWo k (hO k (hOs _ _ hk).1).1 (hOs _ _ hk).2)).frz
  have h3:(V.slc true 2 (.int .i64 0) (I (es.getD i []))).frz= .slc false 2 (.int .i64 0) (I (es.getD i [])):=by
   simp [V.frz,I_frzs]
  rw [h3] at h2
  exact h2.mono (fun k hk=>hk.imp id (fun h=>⟨i,i.2,h⟩)) (fun _ h=>h)
 obtain ⟨_,hok⟩:=s_cmpE [.slc false 2 (.int .i64 0) (I (es.getD x [])),.slc false 2 (.int .i64 0) (I (es.getD y []))] _ _ rfl (alls_cons.2 ⟨⟨⟨_,rfl⟩,⟨_,rfl⟩⟩,fun q hq=>by cases hq⟩)
 refine (hok #[(cs x).headD undef,(cs y).headD undef] W (fun k=>F k∨∃i:Nat,i<n∧Os i k) rfl (fun i v hv=> ?_) (fun k hk=> ?_)).mono ?_
 ·match i,hv with
  |0,hv=>cases hv;exact ⟨_,hrow x⟩
  |1,hv=>cases hv;exact ⟨_,hrow y⟩
 ·rcases hk with hk|⟨i,_,hk⟩
  ·exact Nat.lt_of_lt_of_le (hF k hk) hWs
  ·exact Nat.lt_of_lt_of_le (hO k (hOs i k hk).1).1 hWs
 ·rintro e w' ⟨v,cs',On,Fr,rfl,hreg,hrep,_,_,hbel⟩
  have hv:v= .int .i64 (cmpL (es.getD x []) (es.getD y [])):=by
   have e1:f_cmpL (I (es.getD x [])) (I (es.getD y []))=cmpL (es.getD x []) (es.getD y []):=by rw [f_cmpL,unI_I,unI_I]
   rw [←e1]
   have h1:=rep_int hrep
   rw [h1] at hreg
   exact hreg
  exact ⟨by rw [hv],_,_,world_grown hbel⟩
def ic_srtE (f:List V→List V) (q:List V→Prop):IContract:=fun
 |[.slc true 22 (.slc true 2 (.int .i64 0) []) a0]=>some ([q a0],.slc true 22 (.slc true 2 (.int .i64 0) []) (f a0),.hole 0)
 |_=>none
def f_srtE (a:List V):List V:=II true (srtE (unII a))
theorem cmpL_neg (a b:List Int):decide (cmpL a b<0)=lexLt a b:=by
 have h:=cmpL_lt a b
 by_cases h1:0≤cmpL a b
 ·rw [decide_eq_true h1] at h
  rw [decide_eq_false (by omega)]
  cases h2:lexLt a b with
  |false=>rfl
  |true=>rw [h2] at h;cases h
 ·rw [decide_eq_false h1] at h
  rw [decide_eq_true (by omega)]
  cases h2:lexLt a b with
  |true=>rfl
  |false=>rw [h2] at h;cases h
theorem s_impl_sortedEdges:SatM Try.prog 29 0 (ic_srtE f_srtE q_srtE):=by
 intro args ps r y h hp
 unfold ic_srtE at h
 split at h
 ·rename_i a0
  simp only [Option.some.injEq,Prod.mk.injEq] at h
  obtain ⟨rfl,rfl,rfl⟩:=h
  obtain ⟨es,hes,hn2⟩:q_srtE a0:=(alls_cons.1 hp).1
  have hel:a0.length=es.length:=by rw [hes,II_length]
  refine ⟨⟨_,Try.func29,by kernel_rfl,rfl⟩,by simp,fun vals w F Oj hsz hv hF hO=> ?_⟩
  obtain ⟨cs0,hreg,hrep⟩:=hv 0 _ rfl
  rw [if_pos rfl] at hrep
  have hvs:vals= #[vals.getD 0 undef]:=by
   apply Array.ext
   ·simpa using hsz
   ·intro i h1 h2
    have:i=0:=by simp at h2;omega
    subst this
    simp [Array.getD,show 0<vals.size by omega]
  have hreg':vals.getD 0 undef=cs0.headD undef:=hreg
  generalize vals.getD 0 undef=v0 at*
  by_cases hn0:es.length=0
  ·have hes0:es=[]:=List.eq_nil_of_length_eq_zero hn0
   have ha0:a0=[]:=by rw [hes,hes0];rfl
   obtain ⟨p,cap,hv0⟩:∃p cap,v0= .slice p 0 cap:=by
    cases hrep with
    |own0=>exact ⟨none,0,hreg'⟩
    |own e d es' b len cap cur cs Os O hb hcz hln hc hm hOb hOs hdis hcs hr=>
     refine ⟨some ⟨b,0,none⟩,cap,?_⟩
     rw [hreg',show len=0 by omega]
     rfl
   have hcon:=AnyF.slices_SortFunc_none (P:= Try.prog) (ρ:=lsortE_ren) {lsortE with} p cap (.func (.func 53) #[] #[]) w
   change Calls Try.prog 52 _ _ _ at hcon
   rw [hvs,hv0]
   refine (sortE_walk (R:=fun _ w'=>w'=w) hcon).mono ?_
   rintro e w' ⟨rfl,rfl⟩
   have hfr:f_srtE a0=a0:=by rw [f_srtE,ha0];simp [srtE,unII,II]
   rw [hfr]
   exact ⟨_,cs0,Oj,fun _=>False,rfl,by rw [←hv0];exact hreg,hrep.mono (fun _ h=> .inl h) (fun _ h=>h),fun b hb=>hb.elim .inl (fun h=>h.elim),fun _ _ h=>h,Nat.le_refl _,rfl,rfl,OutK.refl _,fun _ _ _=>rfl⟩
  have hn1:1≤es.length:=by omega
  cases hrep with
  |own0=>
   have h9:=congrArg List.length hes
   rw [II_length] at h9
   simp at h9
   omega
  |own e d es' b len cap cur cs Os O hb hcz hln hc hm hOb hOs hdis hcs hr=>
   have hv0:v0= .slice (some ⟨b,0,none⟩) len cap:=hreg'
   obtain ⟨n,hn⟩:∃n,n=es.length:=⟨_,rfl⟩
   have hnp:0<n:=by omega
   letI:Inhabited (Fin n):=⟨⟨0,hnp⟩⟩
   have hlen:len=n:=by omega
   have hbs:b<w.heap.size:=(hO b hOb).1
   rw [hes] at hr hcs
   have hcell:∀i:Nat,i<n→cs i=[(cs i).headD undef]∧((cs i).headD undef).oneCell'=true:=fun i hi=>by
    have h1:=hr i (.slc true 2 (.int .i64 0) (I (es.getD i []))) (by
     rw [II,List.getElem?_map,List.getElem?_eq_getElem (by omega),List.getD_eq_getElem?_getD,List.getElem?_eq_getElem (by omega)]
     rfl)
    have h2:(cs i).length=1:=h1.length
    obtain ⟨v,hv1⟩:=List.length_eq_one_iff.1 h2
    refine ⟨by rw [hv1];rfl,?_⟩
    have h3:=h1.oneCell (by simp [V.solid])
    rw [hv1]
    exact h3 v (by rw [hv1];simp)
   have hH:Go.Sort.Holds (fun i:Fin n=>(cs i).headD undef) w b 0 (Array.ofFn (fun i:Fin n=>i)):=fun j hj=>by
    have hj':j<n:=by simpa using hj
    rw [fin_get hj']
    refine ⟨?_,?_⟩
    ·have h1:=(hcs j (by rw [II_length];omega)).2 0 ((cs j).headD undef) (by rw [(hcell j hj').1];rfl)
     rw [czE] at h1
     rw [show (0:Nat)+j=j*1+0 by omega]
     exact h1
    ·simp [World.frozen?,hb]
   have hlays:=sort_lays (n:=n) (es:=es) hn.symm (w:=w) (F:=F) (Oj:=Oj) (b:=b) (cs:=cs) (Os:=Os) hF hO hOb hOs hr
   have hcf:∀i j:Fin n,ltOf (fun i j:Fin n=>cmpL (es.getD i []) (es.getD j [])) i j=lexLt (es.getD i []) (es.getD j []):=fun i j=>cmpL_neg _ _
   have hSWO:SWO (ltOf (fun i j:Fin n=>cmpL (es.getD i []) (es.getD j []))):={
    irrefl:=fun x=>by rw [hcf];exact lexLt_irrefl _
    trans:=fun x y z h1 h2=>by rw [hcf] at*;exact lexLt_trans _ _ _ h1 h2
    ntrans:=fun x y z h1 h2=>by rw [hcf] at*;exact lexLt_ntrans _ _ _ h1 h2}
   have eg:∀args w,(callFunc 53 args).run Try.prog w= .ok (.enter 53 args) w:=enters_of Try.func53 (by kernel_rfl) rfl
   have hds:(Array.ofFn (fun i:Fin n=>i)).size=n:=by simp
   have hcon:=Any.slices_SortFunc lsortE (fun i:Fin n=>(cs i).headD undef) (fun x=>(hcell x x.2).2) (fun i j:Fin n=>cmpL (es.getD i []) (es.getD j [])) hSWO 53 #[] b 0 cap (Array.ofFn (fun i:Fin n=>i)) w eg (by rw [hds];exact hlays) hH hbs (by rw [hds];omega)
   rw [hds] at hcon
   change Calls Try.prog 52 _ _ _ at hcon
   rw [hvs,hv0,hlen]
   refine (sortE_walk hcon).mono ?_
   rintro e1 w' ⟨rfl,d',m,os,hperm,hsort,hw'⟩
   have hb0:(Sort.ahead w m).heap[b]? =some (.cells cur 22 (0,0)):=hb
   have hw2:∀k,k<w.heap.size→k≠b→w'.heap[k]? =w.heap[k]? :=fun k hk hkb=>by
    rw [hw',sortWorld,heap_grow_old _ _ (by rw [Go.Sort.size_putRow];exact hk),heap_putRowE_ne _ hkb]
    rfl
   have hb2:w'.heap[b]? =some (.cells (putCells (fun i:Fin n=>(cs i).headD undef) 0 d' cur) 22 (0,0)):=by
    rw [hw',sortWorld,heap_grow_old _ _ (by rw [Go.Sort.size_putRow];exact hbs)]
    exact heap_putRowE _ hb0 _
   have hws:w.heap.size≤w'.heap.size:=by rw [hw',sortWorld,size_grow,Go.Sort.size_putRow];exact Nat.le_add_right _ _
   have hd's:d'.size=n:=by rw [hperm.1,hds]
   have hpl:d'.toList.Perm (List.finRange n):=by
    have h1:=hperm.2.2
    have e1:d'.extract 0 n=d':=by
     have:=Array.extract_size (xs:=d')
     rwa [hd's] at this
    have e2:(Array.ofFn (fun i:Fin n=>i)).extract 0 n=Array.ofFn (fun i:Fin n=>i):=by
     have:=Array.extract_size (xs:=Array.ofFn (fun i:Fin n=>i))
     rwa [hds] at this
    rw [e1,e2,Array.toList_ofFn] at h1
    exact h1
   have hdl:d'.toList.length=n:=by rw [Array.length_toList,hd's]
   have hg:∀i,(h:i<n)→d'[i]! =d'.toList[i]'(by rw [hdl];exact h):=fun i h=>by
    rw [getElem!_pos d' i (by rw [hd's];exact h)]
    simp
   have hnd:d'.toList.Nodup:=hpl.nodup_iff.2 (List.nodup_finRange n)
   have hinj:∀i j,i<n→j<n→d'[i]! =d'[j]! →i=j:=fun i j hi hj he=>by
    rw [hg i hi,hg j hj] at he
    have hpw:=List.pairwise_iff_getElem.1 hnd
    rcases Nat.lt_trichotomy i j with h1|h1|h1
    ·exact absurd he (hpw i j (by rw [hdl];exact hi) (by rw [hdl];exact hj) h1)
    ·exact h1
    ·exact absurd he.symm (hpw j i (by rw [hdl];exact hj) (by rw [hdl];exact hi) h1)
   have hes0:(List.finRange n).map (fun i:Fin n=>es.getD i [])=es:=by
    apply List.ext_getElem
    ·simp [hn]
    ·intro i h1 h2
     simp [List.getD_eq_getElem?_getD,List.getElem?_eq_getElem h2]
   obtain ⟨es',hes'⟩:∃es':List (List Int),es'=d'.toList.map (fun i:Fin n=>es.getD i []):=⟨_,rfl⟩
   have hes'l:es'.length=n:=by rw [hes',List.length_map,hdl]
   have hsrt:srtE es=es':=by
    refine srtE_eq ?_ ?_
    ·rw [hes']
     have:=hpl.symm.map (fun i:Fin n=>es.getD i [])
     rwa [hes0] at this
    ·rw [hes',List.pairwise_map,List.pairwise_iff_getElem]
     intro i j hi hj hij
     have h1:=hsort i j (Nat.zero_le _) hij (by rw [hdl] at hj;exact hj)
     rw [hcf,hg i (by rw [hdl] at hi;exact hi),hg j (by rw [hdl] at hj;exact hj)] at h1
     exact h1
   have hge:∀i,i<n→es'.getD i []=es.getD (d'[i]! :Fin n) []:=fun i hi=>by
    rw [hes',List.getD_eq_getElem?_getD,List.getElem?_map,List.getElem?_eq_getElem (by rw [hdl];exact hi),hg i hi]
    rfl
   have hH2:=holds_putRow (fun i:Fin n=>(cs i).headD undef) (Sort.ahead w m) b 0 (Array.ofFn (fun i:Fin n=>i)) d' hH (by rw [hd's,hds])
   have hfr:f_srtE a0=II true es':=by rw [f_srtE,hes,unII_II,hsrt]
   refine ⟨_,[.slice (some ⟨b,0,none⟩) n cap],Oj,fun _=>False,rfl,rfl,?_,fun b hb=>hb.elim .inl (fun h=>h.elim),fun _ _ h=>h,hws,by rw [hw'];rfl,by rw [hw'];rfl,by rw [hw'];exact ⟨rfl,Nat.le_add_right _ _⟩,fun k hk hx=>hw2 k hk (fun e=>hx (by rw [e];exact hOb))⟩
   rw [hfr]
   refine .own _ _ _ b n cap (putCells (fun i:Fin n=>(cs i).headD undef) 0 d' cur) (fun i=>cs (d'[i]! :Fin n)) (fun i k=>i<n∧Os (d'[i]! :Fin n) k) _ hb2 ?_ (by rw [II_length];exact hes'l.symm) (by rw [II_length,hes'l];omega) hm hOb (fun i x hx=>hOs _ _ hx.2) (fun i j x hij hx hy=> ?_) (fun i hi=> ?_) (fun i x hx=> ?_) (fun h=>by cases h)
   ·rw [putCells,Array.size_mapIdx];exact hcz
   ·refine hdis _ _ x (fun e=>hij (hinj i j hx.1 hy.1 (Fin.ext e))) hx.2 hy.2
   ·rw [II_length,hes'l] at hi
    refine ⟨by rw [czE,(hcell _ (d'[i]! :Fin n).2).1];rfl,fun k v hk=> ?_⟩
    rw [(hcell _ (d'[i]! :Fin n).2).1] at hk
    cases k with
    |succ k=>simp at hk
    |zero=>
     simp only [List.getElem?_cons_zero,Option.some.injEq] at hk
     subst hk
     have h1:=(hH2 i (by rw [hd's];exact hi)).1
     rw [czE,hw',sortWorld,cell?_grow _ _ _ (by rw [Go.Sort.size_putRow];exact hbs),show i*1+0=0+i by omega,h1]
   ·have hi:i<n:=by
     have:=(List.getElem?_eq_some_iff.1 hx).1
     rwa [II_length,hes'l] at this
    have hx2:(II true es)[((d'[i]! :Fin n):Nat)]? =some x:=by
     rw [←hx,II,II,List.getElem?_map,List.getElem?_map,List.getElem?_eq_getElem (by rw [←hn];exact (d'[i]! :Fin n).2),List.getElem?_eq_getElem (by rw [hes'l];exact hi)]
     have h1:=hge i hi
     rw [List.getD_eq_getElem?_getD,List.getD_eq_getElem?_getD,List.getElem?_eq_getElem (by rw [hes'l];exact hi),List.getElem?_eq_getElem (by rw [←hn];exact (d'[i]! :Fin n).2)] at h1
     simp only [Option.getD_some] at h1
     rw [h1]
    exact ((hr _ _ hx2).world (w':=w') (fun k hk=>by
     rcases hk with hk|hk
     ·exact hw2 k (hF k hk) (fun e=>(hO b hOb).2 (by rw [←e];exact hk))
     ·exact hw2 k (hO k (hOs _ _ hk).1).1 (hOs _ _ hk).2)).mono (fun k hk=> .inl hk) (fun k hk=>⟨hi,hk⟩)
 ·cases h
end Go.Ax
set_option linter.all false
namespace Go.Ax
open Go.Proofs
end Go.Ax
set_option linter.all false
namespace Go.Ax
open Go.Proofs
end Go.Ax
set_option linter.all false
namespace Go.Ax
open Go.Proofs
def c_Gii_Gi (f:List V→List V→Int→Int→List V×List V×Int) (q:List V→List V→Int→Int→Prop):Contract:=fun
 |[.agg [.slc false 2 (.int .i64 0) a0,.slc false 22 (.slc false 2 (.int .i64 0) []) a1],.int .i64 a2,.int .i64 a3]=>some ([q a0 a1 a2 a3],.tup [.agg [.slc true 2 (.int .i64 0) ((f a0 a1 a2 a3).1),.slc true 22 (.slc true 2 (.int .i64 0) []) ((f a0 a1 a2 a3).2.1)],.int .i64 ((f a0 a1 a2 a3).2.2)])
 |_=>none
def f_BE (a b:List V) (i k:Int):List V×List V×Int:=bif isGr (unI a) (unII b) then (bif f_isV a b i&&f_isV a b k then (bif f_full a b (I [i,k]) then ([],[],3) else (bif f_hE a b i k then (I (beW (unI a) i.toNat k.toNat),II true (beE a.length (unII b) i k),0) else ([],[],5))) else ([],[],2)) else ([],[],1)
set_option maxHeartbeats 1000000 in
set_option maxRecDepth 100000 in
theorem s_impl_BlowUpEdge:Sat Try.prog 7 (c_Gii_Gi f_BE q_Gii9):=by
 intro args ps r h hp
 unfold c_Gii_Gi at h
 split at h
 ·rename_i a0 a1 i k
  simp only [Option.some.injEq,Prod.mk.injEq] at h
  obtain ⟨rfl,rfl⟩:=h
  have hq:q_G a0 a1:=(alls_cons.1 hp).1
  obtain ⟨⟨ws,hws⟩,es,hes⟩:=id hq
  have g0:=hq.1.frz
  have g1:=frzs_II hq.2
  have hwl:a0.length=ws.length:=by rw [hws,I_length]
  have gws:∀k,a0.getD k (.int .i64 0)= .int .i64 (ws.getD k 0):=fun k=>by rw [hws,I_getD]
  obtain ⟨n,hn⟩:∃n:Int,n=ws.length:=⟨_,rfl⟩
  obtain ⟨ve,hve⟩:∃ve,ve=II true es:=⟨_,rfl⟩
  have hc0:f_cpG a0 a1=(a0,ve):=by rw [f_cpG,hes,unII_II,hve]
  have hf0:f_BE a0 a1 i k=bif f_isGr a0 a1 then (bif f_isV a0 a1 i&&f_isV a0 a1 k then (bif f_full a0 a1 (I [i,k]) then ([],[],3) else (bif f_hE a0 a1 i k then (I (beW ws i.toNat k.toNat),II true (beE ws.length es i k),0) else ([],[],5))) else ([],[],2)) else ([],[],1):=by rw [f_BE,f_isGr,hwl,hws,hes,unI_I,unII_II]
  generalize H_f_isGr:f_isGr=F_f_isGr
  generalize H_q_G:q_G=F_q_G
  generalize H_f_isV:f_isV=F_f_isV
  generalize H_q_isV:q_isV=F_q_isV
  generalize H_f_hE:f_hE=F_f_hE
  generalize H_q_hE:q_hE=F_q_hE
  generalize H_f_cpG:f_cpG=F_f_cpG
  generalize H_q_cpG:q_cpG=F_q_cpG
  generalize H_f_df:f_df=F_f_df
  generalize H_q_df:q_df=F_q_df
  generalize H_f_srtE:f_srtE=F_f_srtE
  generalize H_q_srtE:q_srtE=F_q_srtE
  refine fnOk_ofI (T:=tab) (B:=[(21,c_G_b F_f_isGr F_q_G),(22,c_Gi_b F_f_isV F_q_isV),(23,c_Gii_b7 F_f_hE F_q_hE),(24,c_G_G F_f_cpG F_q_cpG)]) (Bi:=[(25,0,true,ic_df F_f_df F_q_df),(29,0,true,ic_srtE F_f_srtE F_q_srtE)]) [1000001904,1000001905,0,1,2,3,4,5,6,7,8,9] Try.func7 rfl rfl (by kernel_rfl) (Nat.le_of_ble_eq_true rfl) mixed tabOk (by subst H_f_isGr H_q_G H_f_isV H_q_isV H_f_hE H_q_hE H_f_cpG H_q_cpG H_f_df H_q_df H_f_srtE H_q_srtE;exact (bookCons s_impl_IsGraph (bookCons s_impl_isVertex (bookCons s_impl_hasEdge (bookCons s_impl_copyGraph bookNil))))) (by subst H_f_isGr H_q_G H_f_isV H_q_isV H_f_hE H_q_hE H_f_cpG H_q_cpG H_f_df H_q_df H_f_srtE H_q_srtE;exact (bookMCons s_delF (bookMCons s_impl_sortedEdges bookINil))) (by kernel_rfl) ?_
  intro L lp rr hL hr hf hlp
  have Ec:F_f_cpG a0 a1=(a0,ve):=by rw [←H_f_cpG,hc0]
  conv=>cbv
  simp only [stdEqs hL,imp_self,true_and,and_true,bif_or,bif_and,Bool.or_eq_true,Bool.or_eq_false_iff,Bool.and_eq_true,Bool.and_eq_false_iff,decide_eq_true_eq,decide_eq_false_iff_not,Bool.not_eq_true',Bool.not_eq_false',beq_iff_eq,beq_eq_false_iff_ne,ne_eq,toNat0,toNat1,ok_int,toI_int,I_frzs,I_length,I_getD,ok_ints,toL_slc,g0,g1,hwl,gws,Ec,←hn]
  have Qg:F_q_G a0 a1:=by rw [←H_q_G];exact hq
  refine ⟨Qg,fun h=> ?_,fun h=> ?_⟩
  ·rw [←H_f_isGr] at h
   rw [hr,hf0,h];rfl
  rw [←H_f_isGr] at h
  refine ⟨by rw [←H_q_isV];exact q_isV_of7 hq h i,fun _=>by rw [←H_q_isV];exact q_isV_of7 hq h k,fun h2=> ?_,fun h2=> ?_⟩
  ·rw [←H_f_isV] at h2
   rw [hr,hf0,h,show (f_isV a0 a1 i&&f_isV a0 a1 k)=false by rw [Bool.and_eq_false_iff];exact h2];rfl
  rw [←H_f_isV] at h2
  have h3:(f_isV a0 a1 i&&f_isV a0 a1 k)=true:=by rw [Bool.and_eq_true];exact h2
  obtain ⟨⟨_,_,_,b1,⟨i0,i1⟩,k0,k1⟩,hqf⟩:=q_bes_of hq h h2.1 h2.2
  rw [hwl] at i1 k1
  have hg:Gr ws es:=by rw [f_isGr,hws,hes,unI_I,unII_II] at h;exact gr_of h
  have hin:i.toNat<ws.length:=by omega
  have hkn:k.toNat<ws.length:=by omega
  have hfull:f_full a0 a1 (I [i,k])=decide (n=40∨min (ws.getD i.toNat 0) (ws.getD k.toNat 0)= -1000):=by
   have a1:=hg.wlo i.toNat hin
   have a2:=hg.wlo k.toNat hkn
   rw [f_full,hwl,unI_I,hws,unI_I,Bool.eq_iff_iff,Bool.or_eq_true,decide_eq_true_eq,decide_eq_true_eq]
   simp only [List.any_cons,List.any_nil,Bool.or_false,Bool.or_eq_true,decide_eq_true_eq]
   omega
  refine ⟨fun _=>i0,fun _=>by omega,fun _=>trivial,fun _=>k0,fun _=>by omega,fun _=>trivial,fun h4=> ?_,fun h4=> ?_⟩
  ·rw [hr,hf0,h,h3,hfull,decide_eq_true h4];rfl
  have h5:f_full a0 a1 (I [i,k])=false:=by rw [hfull,decide_eq_false_iff_not];omega
  refine ⟨by rw [←H_q_hE];exact ⟨⟨ws,hws⟩,es,hes,by have:=hg.el;have:=hg.n2;omega,fun e he=>by rw [(hg.ed e he).1];decide⟩,fun h6=> ?_,fun h6=> ?_⟩
  ·rw [←H_f_hE] at h6
   rw [hr,hf0,h,h3,h5,h6];rfl
  rw [←H_f_hE] at h6
  have ha:∀(t:Nat) (x:Int),a0.set t (V.int .i64 x)=I (ws.set t x):=fun t x=>by rw [hws,I_set]
  have hset:∀(l:List Int) (t:Nat) (x:Int),(I l).set t (V.int .i64 x)=I (l.set t x):=fun l t x=>I_set l t x
  obtain ⟨w2,hw2⟩:∃w2,w2=(ws.set i.toNat (W (ws.getD i.toNat 0-1))).set k.toNat (W ((ws.set i.toNat (W (ws.getD i.toNat 0-1))).getD k.toNat 0-1)):=⟨_,rfl⟩
  have hbw:I w2++[V.int .i64 (-1)]=I (beW ws i.toNat k.toNat):=by rw [beW,←hw2,←I_append];rfl
  have hw2l:w2.length=ws.length:=by rw [hw2,List.length_set,List.length_set]
  simp only [stdEqs hL,imp_self,true_and,and_true,bif_or,bif_and,Bool.or_eq_true,Bool.or_eq_false_iff,Bool.and_eq_true,Bool.and_eq_false_iff,decide_eq_true_eq,decide_eq_false_iff_not,Bool.not_eq_true',Bool.not_eq_false',beq_iff_eq,beq_eq_false_iff_ne,ne_eq,toNat0,toNat1,ok_int,toI_int,I_frzs,I_length,I_getD,ok_ints,toL_slc,ha,hset,List.length_set]
  rw [←hw2,hbw]
  refine ⟨by rw [←H_q_cpG];exact ⟨⟨⟨_,hws⟩,by omega⟩,_,hes,by have:=hg.el;have:=hg.n2;omega,fun e he=>by rw [(hg.ed e he).1];decide⟩,i0,by omega,hin,i0,by omega,hin,k0,by omega,hkn,k0,by omega,hkn,rfl,by simp only [List.length_cons,List.length_nil];omega,solid_one _,?_⟩
  have hel2:es.length≤400:=by have:=hg.el;have:=hg.n2;omega
  have hrow:∀e∈es,e.length≤1000:=fun e he=>by rw [(hg.ed e he).1];decide
  obtain ⟨rs,hrs⟩:∃rs,rs=butR (edgL i k) es:=⟨_,rfl⟩
  have hrl:rs.length≤400:=by
   have:=List.length_filter_le (fun r=>decide (r≠edgL i k)) es
   rw [hrs,butR];omega
  have Ed:F_f_df ve 26 [V.fn 1000000000 [V.int .i64 i],V.fn 1000000000 [V.int .i64 k]]=II true rs:=by rw [←H_f_df,f_df,hve,unII_II,hrs]
  have Qd:F_q_df ve 26 [V.fn 1000000000 [V.int .i64 i],V.fn 1000000000 [V.int .i64 k]]:=by rw [←H_q_df];exact ⟨⟨es,hve,by omega,hrow⟩,rfl,_,_,rfl⟩
  rw [Ed]
  have hee:II true rs++[V.slc true 2 (V.int .i64 0) [V.int .i64 i,V.int .i64 n],V.slc true 2 (V.int .i64 0) [V.int .i64 k,V.int .i64 n]]=II true (rs++[[i,(ws.length:Int)],[k,(ws.length:Int)]]):=by
   rw [←hn]
   simp [II,I]
  have hse:F_f_srtE (II true (rs++[[i,(ws.length:Int)],[k,(ws.length:Int)]]))=II true (beE ws.length es i k):=by rw [←H_f_srtE,f_srtE,unII_II,beE,hrs]
  rw [hee,hse]
  refine ⟨Qd,by rw [II_length];simp only [List.length_cons,List.length_nil];omega,fun x hx=> ?_,?_,?_⟩
  ·simp only [List.mem_cons,List.not_mem_nil,or_false] at hx
   rcases hx with rfl|rfl<;>simp [V.solid,V.solids]
  ·rw [←H_q_srtE]
   refine ⟨_,rfl,?_⟩
   rw [List.length_append];simp only [List.length_cons,List.length_nil];omega
  ·rw [hr,hf0,h,h3,h5,h6];rfl
 ·cases h
theorem hE_near {ws:List Int} {es:List (List Int)} (g:Gr ws es) {i k:Int}:es.contains (edgL i k)=(near es i).contains k:=by
 rw [Bool.eq_iff_iff,List.contains_iff_mem,List.contains_iff_mem,mem_near]
 have hform:∀e∈es,e=[e0 e,e1 e]:=fun e he=>by
  have:=(g.ed e he).1
  match e,this with
  |[a,b],_=>rfl
 constructor
 ·intro h
  have hlt:=g.lt _ h
  refine ⟨_,h,?_⟩
  have h0:e0 (edgL i k)=min i k:=rfl
  have h1:e1 (edgL i k)=max i k:=rfl
  rw [h0,h1] at hlt ⊢
  omega
 ·rintro ⟨e,he,h⟩
  have hlt:=g.lt e he
  have:e=edgL i k:=by
   rw [hform e he,edgL]
   rcases h with ⟨h1,h2⟩|⟨h1,h2⟩
   ·rw [h1,h2,Int.min_eq_right (by omega),Int.max_eq_left (by omega)]
   ·rw [h1,h2,Int.min_eq_left (by omega),Int.max_eq_right (by omega)]
  rw [←this];exact he
end Go.Ax
set_option linter.all false
namespace Go.Ax
open Go.Proofs
end Go.Ax
set_option linter.all false
namespace Go.Ax
open Go.Proofs
def c_lawg_Gii (f:List V→List V→Int→Int→Bool) (q:List V→List V→Int→Int→Prop):Contract:=fun
 |[.agg [.slc false 2 (.int .i64 0) a0,.slc false 22 (.slc false 2 (.int .i64 0) []) a1],.int .i64 a2,.int .i64 a3]=>some ([q a0 a1 a2 a3],.bool (f a0 a1 a2 a3))
 |_=>none
def q_lawg_Gii:List V→List V→Int→Int→Prop:=fun x y _ _=>q_G x y
def yesg_Gii:List V→List V→Int→Int→Bool:=fun _ _ _ _=>true
theorem beE_len2 {n:Nat} {es:List (List Int)} {i k:Int} (h:∀e∈es,e.length=2):tot (beE n es i k)≤(es.length+2)*2:=by
 have hp:=srtE_perm (butR (edgL i k) es++[[i,(n:Int)],[k,(n:Int)]])
 have hb:(butR (edgL i k) es).length≤es.length:=List.length_filter_le _ _
 rw [tot_len2 (beE n es i k) 2 (fun x hx=> ?_),beE,srtE_len,List.length_append]
 ·have:([[i,(n:Int)],[k,(n:Int)]]:List (List Int)).length=2:=rfl
  omega
 ·have:=hp.mem_iff.1 hx
  rcases List.mem_append.1 this with h1|h1
  ·exact h x (List.mem_filter.1 h1).1
  ·simp only [List.mem_cons,List.not_mem_nil,or_false] at h1
   rcases h1 with rfl|rfl<;>rfl
set_option maxHeartbeats 1000000 in
set_option maxRecDepth 100000 in
theorem s_laws_FnExactBlowUpEdge:Sat Try.prog 3 (c_lawg_Gii yesg_Gii q_lawg_Gii):=by
 intro args ps r h hp
 unfold c_lawg_Gii at h
 split at h
 ·rename_i a0 a1 a2 a3
  simp only [Option.some.injEq,Prod.mk.injEq] at h
  obtain ⟨rfl,rfl⟩:=h
  have hq:q_G a0 a1:=(alls_cons.1 hp).1
  obtain ⟨hq0,hq1⟩:=id hq
  have g0:=hq0.frz
  have g1:=frzs_II hq1
  generalize H_f_szG:f_szG=F_f_szG
  generalize H_q_szG:q_szG=F_q_szG
  generalize H_f_cpG:f_cpG=F_f_cpG
  generalize H_q_cpG:q_cpG=F_q_cpG
  generalize H_f_BEs:f_BEs=F_f_BEs
  generalize H_q_Gii9:q_Gii9=F_q_Gii9
  generalize H_f_BE:f_BE=F_f_BE
  generalize H_f_eqG:f_eqG=F_f_eqG
  generalize H_q_eqG:q_eqG=F_q_eqG
  generalize H_f0_heldG:f0_heldG=F_f0_heldG
  generalize H_q_heldG:q_heldG=F_q_heldG
  generalize H_f0_markG:f0_markG=F_f0_markG
  generalize H_f1_markG:f1_markG=F_f1_markG
  generalize H_f2_markG:f2_markG=F_f2_markG
  generalize H_q_markG:q_markG=F_q_markG
  refine fnOk_ofI (T:=tab) (B:=[(4,c_Gi_i F_f_szG F_q_szG),(6,c_G_G F_f_cpG F_q_cpG),(5,c_Gii_Xi F_f_BEs F_q_Gii9),(7,c_Gii_Gi F_f_BE F_q_Gii9),(8,c_GG_b F_f_eqG F_q_eqG),(10,c_Gi_i F_f0_heldG F_q_heldG)]) (Bi:=[(9,0,false,ic_markG F_f0_markG F_f1_markG F_f2_markG F_q_markG)]) [2000005625,0,1,2,3,6,7,8,9,10,11,12,13,14,15,16,17] Try.func3 rfl rfl (by kernel_rfl) (Nat.le_of_ble_eq_true rfl) mixed tabOk (by subst H_f_szG H_q_szG H_f_cpG H_q_cpG H_f_BEs H_q_Gii9 H_f_BE H_f_eqG H_q_eqG H_f0_heldG H_q_heldG H_f0_markG H_f1_markG H_f2_markG H_q_markG;exact (bookCons s_laws_szGraph (bookCons s_laws_toGraph (bookCons s_spec_BlowUpEdge (bookCons s_impl_BlowUpEdge (bookCons s_laws_eqGraph (bookCons s_laws_heldGraph bookNil))))))) (by subst H_f_szG H_q_szG H_f_cpG H_q_cpG H_f_BEs H_q_Gii9 H_f_BE H_f_eqG H_q_eqG H_f0_heldG H_q_heldG H_f0_markG H_f1_markG H_f2_markG H_q_markG;exact (bookICons s_laws_markGraph bookINil)) (by kernel_rfl) ?_
  intro L lp rr hL hr hf hlp
  have hlen:=hf.1
  conv=>cbv
  simp only [stdEqs hL,g0,g1]
  subst H_f_szG H_q_szG H_f_cpG H_q_cpG H_f_BEs H_q_Gii9 H_f_BE H_f_eqG H_q_eqG H_f0_heldG H_q_heldG H_f0_markG H_f1_markG H_f2_markG H_q_markG
  refine ⟨hq1,fun h=>by rw [hr];rfl,fun h=> ?_⟩
  obtain ⟨hc,hb0,hb1⟩:=szG_ok hq1 hlen.1.1 hlen.2.1.1 hlen.2.1.2 hq0 h
  obtain ⟨ws,hws⟩:=hq0
  obtain ⟨es,hes⟩:=hq1
  rw [hws,I_length] at hb0
  rw [hes,unII_II] at hb1
  have e0:f_cpG a0 a1=(I ws,II true es):=by rw [f_cpG,hes,hws,unII_II]
  have kg:=graph_keys ws es
  have mg:=markG_keys ws es (by omega)
  have hqg:q_G (I ws) (II false es):=⟨⟨_,rfl⟩,⟨_,rfl⟩⟩
  have hqx:q_Gii9 (I ws) (II false es) a2 a3:=hqg
  obtain ⟨zs,fs,code,ez,ez2,hzl⟩:∃(zs:List Int) (fs:List (List Int)) (code:Int),f_BE (I ws) (II false es) a2 a3=(I zs,II true fs,code)∧f_BEs (I ws) (II false es) a2 a3=(I zs,II false fs,code)∧zs.length+tot fs≤2000:=by
   rw [f_BE,f_BEs,unI_I,unII_II]
   cases hh:isGr ws es with
   |false=>exact ⟨[],[],1,rfl,rfl,by simp [tot]⟩
   |true=>
    have g:=gr_of hh
    cases h2:(f_isV (I ws) (II false es) a2&&f_isV (I ws) (II false es) a3) with
    |false=>exact ⟨[],[],2,rfl,rfl,by simp [tot]⟩
    |true=>
     cases h3:f_full (I ws) (II false es) (I [a2,a3]) with
     |true=>exact ⟨[],[],3,rfl,rfl,by simp [tot]⟩
     |false=>
      have h5:f_hE (I ws) (II false es) a2 a3=(near es a2).contains a3:=by rw [f_hE,unII_II,hE_near g]
      rw [h5]
      cases h4:(near es a2).contains a3 with
      |false=>exact ⟨[],[],5,rfl,rfl,by simp [tot]⟩
      |true=>
       refine ⟨beW ws a2.toNat a3.toNat,beE ws.length es a2 a3,0,by rw [I_length];rfl,by rw [I_length];rfl,?_⟩
       have n2:=g.n2
       have n3:=g.el
       have:=beE_len2 (n:=ws.length) (i:=a2) (k:=a3) (fun e he=>(g.ed e he).1)
       rw [beW,List.length_append,List.length_set,List.length_set]
       simp only [List.length_cons,List.length_nil]
       omega
  have ck:=graph_keys zs fs
  have ck2:=markG_keys zs fs (by omega)
  have ck3:=graph_keys2 zs fs (by omega)
  have hn1:∀n:Nat,decide ((1:Int)+n<0)=false:=fun n=>by simp;omega
  have hn2:∀n m:Nat,decide ((1:Int)+n+m<0)=false:=fun n m=>by simp;omega
  have hn3:∀n m r:Nat,decide ((1:Int)+n+m+r<0)=false:=fun n m r=>by simp;omega
  simp only [e0,hc,II_frzs,kg,mg,hqg,hqx,ez,ez2,ck,ck2,ck3,hn1,hn2,hn3,hr,yesg_Gii,I_frzs]
  simp
 ·cases h
end Go.Ax
