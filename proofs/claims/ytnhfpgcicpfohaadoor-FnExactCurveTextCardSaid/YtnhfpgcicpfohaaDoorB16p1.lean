import Derived.Test.YtnhfpgcicpfohaaDoorB15p1
import Derived.Test.YtnhfpgcicpfohaaDoorB13p1
/-
 impl.CurveText and what it calls. No conditions but those of the contracts.
-/
set_option linter.all false
namespace Go.Ax
open Go.Proofs
set_option maxHeartbeats 1000000 in
set_option maxRecDepth 100000 in
theorem s_impl_decimal:Sat Tryd.prog 49 (c_i_s f_dcm q_dcm):=by
 intro args ps r h hp
 unfold c_i_s at h
 split at h
 ·rename_i n
  simp only [Option.some.injEq,Prod.mk.injEq] at h
  obtain ⟨rfl,rfl⟩:=h
  obtain ⟨h0,h1⟩:q_dcm n:=(alls_cons.1 hp).1
  generalize H_f_fmt:f_fmt=F_f_fmt
  generalize H_q_fmt:q_fmt=F_q_fmt
  refine fnOk_ofI (T:=tab) (B:=[(56,c_ii_s F_f_fmt F_q_fmt)]) (Bi:=[]) [0,2] Tryd.func49 rfl rfl (by kernel_rfl) (Nat.le_of_ble_eq_true rfl) mixed tabOk (by subst H_f_fmt H_q_fmt;exact (bookCons s_fmt bookNil)) (by subst H_f_fmt H_q_fmt;exact bookINil) (by kernel_rfl) ?_
  intro L lp rr hL hr hf hlp
  conv=>cbv
  exact ⟨by rw [←H_q_fmt];exact ⟨rfl,h0,h1⟩,by rw [hr,←H_f_fmt];rfl⟩
 ·cases h
def f_jns (es:List V) (s:ByteArray):ByteArray:=T (joinL (s.data.toList.getD 0 0) ((unI es).map dcm))
def q_jns (es:List V) (s:ByteArray):Prop:=∃xs c,es=I xs∧s=T [c]∧xs.length≤3000000∧okN xs
def c_ls_s (f:List V→ByteArray→ByteArray) (q:List V→ByteArray→Prop):Contract:=fun
 |[.slc false 2 (.int .i64 0) a0,.str a1]=>some ([q a0 a1],.str (f a0 a1))
 |_=>none
set_option maxHeartbeats 1000000 in
set_option maxRecDepth 100000 in
theorem s_impl_joinedNumbers:Sat Tryd.prog 35 (c_ls_s f_jns q_jns):=by
 intro args ps r h hp
 unfold c_ls_s at h
 split at h
 ·rename_i a0 s
  simp only [Option.some.injEq,Prod.mk.injEq] at h
  obtain ⟨rfl,rfl⟩:=h
  obtain ⟨xs,c,hxs,hs,hxl,hok⟩:q_jns a0 s:=(alls_cons.1 hp).1
  obtain ⟨n,hn⟩:∃n:Int,n=xs.length:=⟨_,rfl⟩
  have hal:(a0.length:Int)=n:=by rw [hxs,I_length,hn]
  have hg:∀t:Nat,a0.getD t (.int .i64 0)= .int .i64 (xs.getD t 0):=fun t=>by rw [hxs,I_getD]
  have hf0:f_jns a0 s=T (joinL c (xs.map dcm)):=by rw [f_jns,hxs,unI_I,hs];rfl
  generalize H_f_dcm:f_dcm=F_f_dcm
  generalize H_q_dcm:q_dcm=F_q_dcm
  generalize H_f_jn:f_jn=F_f_jn
  generalize H_q_jn:q_jn=F_q_jn
  refine fnOk_ofI (T:=tab) (B:=[(49,c_i_s F_f_dcm F_q_dcm),(34,c_zs_s F_f_jn F_q_jn)]) (Bi:=[]) [0,1,4,5,7,9,10,11] Tryd.func35 rfl rfl (by kernel_rfl) (Nat.le_of_ble_eq_true rfl) mixed tabOk (by subst H_f_dcm H_q_dcm H_f_jn H_q_jn;exact (bookCons s_impl_decimal (bookCons s_join bookNil))) (by subst H_f_dcm H_q_dcm H_f_jn H_q_jn;exact bookINil) (by kernel_rfl) ?_
  intro L lp rr hL hr hf hlp
  conv=>cbv
  refine hlp (List V×Int) _ _ _ [1,5,9,10,11] (fun x=>[(1,none,.val (.str s)),(5,none,.val (.slc true 9 (.str ⟨#[]⟩) x.1)),(9,none,.val (.slc false 2 (.int .i64 0) a0)),(10,none,.val (.int .i64 n)),(11,none,.val (.int .i64 x.2))])
   (fun x=>0≤x.2∧x.2≤n∧x.1=Zs ((xs.take x.2.toNat).map dcm)) (fun x=>(n-x.2).toNat) (([],0)) (by subst hL;rw [←hal];rfl) ?_ ?_
  ·exact ⟨by simp,by simp only;omega,rfl⟩
  rintro ⟨vw,x⟩ ⟨x0,x1,hv⟩ hfx ag hag
  simp only at x0 x1 hv
  have hvl:vw.length=x.toNat:=by rw [hv,Zs_length,List.length_map,List.length_take];omega
  have Ed:∀z,F_f_dcm z=T (dcm z):=fun z=>by rw [←H_f_dcm];rfl
  conv=>cbv
  simp only [stdEqs hL,imp_self,true_and,and_true,bif_or,bif_and,Bool.or_eq_true,Bool.or_eq_false_iff,Bool.and_eq_true,Bool.and_eq_false_iff,decide_eq_true_eq,decide_eq_false_iff_not,Bool.not_eq_true',Bool.not_eq_false',beq_iff_eq,beq_eq_false_iff_ne,ne_eq,toNat0,toNat1,ok_int,toI_int,I_frzs,I_length,I_getD,ok_ints,toL_slc,hal,hg,hvl,Ed]
  refine ⟨fun h=> ?_,fun h=> ?_⟩
  ·have htk:Zs ((xs.take (x+1).toNat).map dcm)=vw++[V.str (T (dcm (xs.getD x.toNat 0)))]:=by
    rw [hv,toNat_succ x0,List.take_succ_eq_append_getElem (by omega),List.getD_eq_getElem?_getD,List.getElem?_eq_getElem (by omega),List.map_append,←Zs_append]
    rfl
   have hq:=hok (xs.getD x.toNat 0) (by
    rw [List.getD_eq_getElem?_getD,List.getElem?_eq_getElem (by omega)]
    exact List.getElem_mem _)
   rw [wrap_id (n:=x+1) (by omega) (by omega),←htk]
   refine ⟨x0,h,by rw [←H_q_dcm];exact hq,rfl,by simp only [List.length_cons,List.length_nil];omega,fun z hz=>by (simp only [List.mem_singleton] at hz;subst hz;rfl),?_⟩
   exact hag (_,x+1) ⟨by simp only;omega,by simp only;omega,rfl⟩ (by simp only;omega)
  ·have hxe:x.toNat=xs.length:=by omega
   rw [hxe,List.take_of_length_le (Nat.le_refl _)] at hv
   have hfz:V.frzs vw=Zs (xs.map dcm):=by rw [hv,Zs_frzs]
   rw [hfz,hs]
   have hlen:=joinL_len c 9 (xs.map dcm) fun w hw=>by
    obtain ⟨z,hz,rfl⟩:=List.mem_map.1 hw
    exact dcm_len9 (hok z hz)
   rw [List.length_map] at hlen
   refine ⟨by rw [←H_q_jn];exact ⟨_,c,rfl,rfl,by rw [List.length_map];omega,by omega⟩,?_⟩
   rw [hr,hf0,←H_f_jn,f_jn_eq]
 ·cases h
set_option maxHeartbeats 1000000 in
set_option maxRecDepth 100000 in
theorem s_impl_branchText:Sat Tryd.prog 33 (c_B_s f_brT q_brT):=by
 intro args ps r h hp
 unfold c_B_s at h
 split at h
 ·rename_i a0
  simp only [Option.some.injEq,Prod.mk.injEq] at h
  obtain ⟨rfl,rfl⟩:=h
  obtain ⟨xs,hxs,hne,hxl,hok⟩:q_brT a0:=(alls_cons.1 hp).1
  obtain ⟨n,hn⟩:∃n:Int,n=xs.length:=⟨_,rfl⟩
  have hal:a0.length=xs.length:=by rw [hxs,I_length]
  have hpos:0<xs.length:=List.length_pos_iff.2 hne
  have hf0:f_brT a0=T (brT xs):=by rw [f_brT,hxs,unI_I]
  have hg:∀t:Nat,a0.getD t (.int .i64 0)= .int .i64 (xs.getD t 0):=fun t=>by rw [hxs,I_getD]
  have hdr:a0.drop 1=I (xs.drop 1):=by rw [hxs,I,I,List.map_drop]
  have h0:=hok (xs.getD 0 0) (by
   rw [List.getD_eq_getElem?_getD,List.getElem?_eq_getElem hpos]
   exact List.getElem_mem _)
  generalize H_f_dcm:f_dcm=F_f_dcm
  generalize H_q_dcm:q_dcm=F_q_dcm
  generalize H_f_jns:f_jns=F_f_jns
  generalize H_q_jns:q_jns=F_q_jns
  refine fnOk_ofI (T:=tab) (B:=[(49,c_i_s F_f_dcm F_q_dcm),(35,c_ls_s F_f_jns F_q_jns)]) (Bi:=[]) [0,1,2,3] Tryd.func33 rfl rfl (by kernel_rfl) (Nat.le_of_ble_eq_true rfl) mixed tabOk (by subst H_f_dcm H_q_dcm H_f_jns H_q_jns;exact (bookCons s_impl_decimal (bookCons s_impl_joinedNumbers bookNil))) (by subst H_f_dcm H_q_dcm H_f_jns H_q_jns;exact bookINil) (by kernel_rfl) ?_
  intro L lp rr hL hr hf hlp
  have Ed:∀z,F_f_dcm z=T (dcm z):=fun z=>by rw [←H_f_dcm];rfl
  conv=>cbv
  simp only [stdEqs hL,imp_self,true_and,and_true,bif_or,bif_and,Bool.or_eq_true,Bool.or_eq_false_iff,Bool.and_eq_true,Bool.and_eq_false_iff,decide_eq_true_eq,decide_eq_false_iff_not,Bool.not_eq_true',Bool.not_eq_false',beq_iff_eq,beq_eq_false_iff_ne,ne_eq,toNat0,toNat1,ok_int,toI_int,I_frzs,I_length,I_getD,ok_ints,toL_slc,hal,hg,hdr,Ed,←hn]
  have htk:(a0.take n.toNat).drop 1=I (xs.drop 1):=by rw [List.take_of_length_le (by omega),hdr]
  have Ej:F_f_jns (I (xs.drop 1)) ⟨⟨[44]⟩⟩=T (joinL 44 ((xs.drop 1).map dcm)):=by rw [←H_f_jns,f_jns,unI_I];rfl
  have hokd:okN (xs.drop 1):=fun y hy=>hok y (List.mem_of_mem_drop hy)
  have hd0:=dcm_len9 h0
  have hjl:=joinL_len 44 9 ((xs.drop 1).map dcm) fun w hw=>by
   obtain ⟨z,hz,rfl⟩:=List.mem_map.1 hw
   exact dcm_len9 (hokd z hz)
  rw [List.length_map,List.length_drop] at hjl
  rw [htk,I_frzs,Ej,show (⟨⟨[40]⟩⟩:ByteArray)=T [40] from rfl,show (⟨⟨[59]⟩⟩:ByteArray)=T [59] from rfl,show (⟨⟨[41]⟩⟩:ByteArray)=T [41] from rfl]
  simp only [T_app,T_size,List.length_append,List.length_cons,List.length_nil]
  refine ⟨Int.le_refl _,by omega,by rw [←H_q_dcm];exact h0,by omega,fun h=>⟨by omega,by omega,by omega,by rw [←H_q_jns];exact ⟨_,44,rfl,rfl,by rw [List.length_drop];omega,hokd⟩,by omega,by omega,by omega,?_⟩,fun h=>⟨by omega,?_⟩⟩
  ·rw [hr,hf0,brT]
   have:∃y r,xs.drop 1=y::r:=by
    cases e:xs.drop 1 with
    |nil=>
     have:=congrArg List.length e
     rw [List.length_drop,List.length_nil] at this
     omega
    |cons y r=>exact ⟨y,r,rfl⟩
   obtain ⟨y,r,e⟩:=this
   rw [e,sepS_join]
   simp
  ·have e:xs.drop 1=[]:=List.drop_eq_nil_of_le (by omega)
   rw [hr,hf0,brT,e,sepS]
   simp
 ·cases h
def upperL (ms:List (List Int)) (n:Nat):List Int:=(List.range n).flatMap fun i=>(ms.getD i []).drop (i+1)
theorem upperL_succ (ms:List (List Int)) (n:Nat):upperL ms (n+1)=upperL ms n++(ms.getD n []).drop (n+1):=by
 rw [upperL,upperL,List.range_succ,List.flatMap_append]
 simp
theorem upper_uppr {ms:List (List Int)} {n:Nat} (h:TabP ms n):∀i,i≤n→upperL ms i=uppr ms n i
 |0,_=>by simp [upperL,uppr]
 |i+1,hi=>by
  rw [upperL_succ,uppr_succ,upper_uppr h i (by omega)]
  congr 1
  have hl:=(h.row i (by omega)).1
  have he:=list_tab (ms.getD i []) 0
  rw [hl] at he
  rw [rowU,List.map_drop]
  congr 1
def f_upper (a:List V):List V:=I (upperL (unII a) (unII a).length)
def q_upper (a:List V):Prop:=∃ms,a=II false ms∧TabP ms ms.length∧ms.length≤6
set_option maxHeartbeats 1000000 in
set_option maxRecDepth 100000 in
theorem s_impl_upper:Sat Tryd.prog 36 (c_m_l f_upper q_upper):=by
 intro args ps r h hp
 unfold c_m_l at h
 split at h
 ·rename_i a0
  simp only [Option.some.injEq,Prod.mk.injEq] at h
  obtain ⟨rfl,rfl⟩:=h
  obtain ⟨ms,hms,htab,hl6⟩:q_upper a0:=(alls_cons.1 hp).1
  obtain ⟨n,hn⟩:∃n:Int,n=ms.length:=⟨_,rfl⟩
  have hal:(a0.length:Int)=n:=by rw [hms,II_length,hn]
  have gm:∀k,a0.getD k (.slc false 2 (.int .i64 0) [])= .slc false 2 (.int .i64 0) (I (ms.getD k [])):=fun k=>by rw [hms,II_getD]
  have hf0:f_upper a0=I (upperL ms ms.length):=by rw [f_upper,hms,unII_II]
  refine fnOk_ofI (T:=tab) (B:=[]) (Bi:=[]) [0,2,3,4,5,7,8,9] Tryd.func36 rfl rfl (by kernel_rfl) (Nat.le_of_ble_eq_true rfl) mixed tabOk (by exact bookNil) (by exact bookINil) (by kernel_rfl) ?_
  intro L lp rr hL hr hf hlp
  conv=>cbv
  refine hlp (List V×Int) _ _ _ [3,7,8,9] (fun x=>[(3,none,.val (.slc true 2 (.int .i64 0) x.1)),(7,none,.val (.slc false 44 (.slc false 2 (.int .i64 0) []) a0)),(8,none,.val (.int .i64 n)),(9,none,.val (.int .i64 x.2))])
   (fun x=>0≤x.2∧x.2≤n∧x.1=I (upperL ms x.2.toNat)) (fun x=>(n-x.2).toNat) (([],0)) (by subst hL;rw [←hal];rfl) ?_ ?_
  ·exact ⟨by simp,by simp only;omega,rfl⟩
  rintro ⟨vl,x⟩ ⟨x0,x1,hv⟩ hfx ag hag
  simp only at x0 x1 hv
  obtain ⟨row,hrow⟩:∃row,row=ms.getD x.toNat []:=⟨_,rfl⟩
  obtain ⟨vr,hvr⟩:∃vr,vr=I row:=⟨_,rfl⟩
  have gm2:a0.getD x.toNat (.slc false 2 (.int .i64 0) [])= .slc false 2 (.int .i64 0) vr:=by rw [gm,hvr,hrow]
  conv=>cbv
  simp only [stdEqs hL,imp_self,true_and,and_true,bif_or,bif_and,Bool.or_eq_true,Bool.or_eq_false_iff,Bool.and_eq_true,Bool.and_eq_false_iff,decide_eq_true_eq,decide_eq_false_iff_not,Bool.not_eq_true',Bool.not_eq_false',beq_iff_eq,beq_eq_false_iff_ne,ne_eq,toNat0,toNat1,ok_int,toI_int,I_frzs,I_length,I_getD,ok_ints,toL_slc,hal,gm2]
  have hul:∀i,i≤ms.length→(upperL ms i).length≤ms.length*i:=fun i hi=>by rw [upper_uppr htab i hi];exact uppr_len _ _ i
  refine ⟨fun h=> ?_,fun h=> ?_⟩
  ·have hw1:=wrap_id (n:=x+1) (by omega) (by omega)
   have hrl:row.length=ms.length:=by rw [hrow];exact (htab.row _ (by omega)).1
   have hvl:vr.length=row.length:=by rw [hvr,I_length]
   have hdr:(vr.take ((vr.length:Int)).toNat).drop (x+1).toNat=I (row.drop (x+1).toNat):=by
    rw [Int.toNat_natCast,List.take_length,hvr,I,I,List.map_drop]
   have hll:vl.length≤36:=by
    rw [hv,I_length]
    have:=hul x.toNat (by omega)
    have:=Nat.mul_le_mul hl6 (show x.toNat≤6 by omega)
    omega
   rw [hw1,hdr]
   refine ⟨x0,h,by rw [hvr];exact ok_ints false false row,by omega,by omega,Int.le_refl _,I_owneds _,by rw [I_length,List.length_drop];omega,I_solid _,?_⟩
   refine hag (_,x+1) ⟨by simp only;omega,by simp only;omega,?_⟩ (by simp only;omega)
   simp only [toNat_succ x0]
   rw [upperL_succ,hv,hrow,I,I,I,List.map_append]
  ·rw [hr,hf0,hv,show x.toNat=ms.length by omega]
 ·cases h
theorem uppr_pos (ms:List (List Int)) {n:Nat} (h:2≤n):∀i,1≤i→uppr ms n i≠[]
 |0,h1=>by omega
 |i+1,_=>by
  rw [uppr_succ]
  intro e
  obtain ⟨e1,e2⟩:=List.append_eq_nil_iff.1 e
  cases i with
  |zero=>
   have:=congrArg List.length e2
   rw [rowU,List.length_map,List.length_drop,List.length_range] at this
   simp at this
   omega
  |succ i=>exact uppr_pos ms h (i+1) (by omega) e1
set_option maxHeartbeats 1000000 in
set_option maxRecDepth 100000 in
theorem s_impl_curveText:Sat Tryd.prog 16 (c_C_s f_cvT q_cvT):=by
 intro args ps r h hp
 unfold c_C_s at h
 split at h
 ·rename_i a0 a1
  simp only [Option.some.injEq,Prod.mk.injEq] at h
  obtain ⟨rfl,rfl⟩:=h
  obtain ⟨⟨⟨bs,hbs,hb1,hb2⟩,⟨ms,hms,hm1,hm2⟩⟩,hcv,hlen⟩:q_cvT a0 a1:=(alls_cons.1 hp).1
  have hf0:f_cvT a0 a1=T (cvT bs ms):=by rw [f_cvT,hbs,hms,unBB_BB,unII_II]
  rw [hbs,unBB_BB] at hlen
  rw [f_isCv,hbs,hms,unBB_BB,unII_II] at hcv
  have hcv:=isCv_iff.1 hcv
  have g1:V.frzs a0=a0:=by rw [hbs,BB_frzs]
  have g2:V.frzs a1=a1:=by rw [hms,II_frzs]
  have hbl:a0.length=bs.length:=by rw [hbs,BB_length]
  have hml:a1.length=ms.length:=by rw [hms,II_length]
  have gb:∀k,a0.getD k (.agg [.slc false 2 (.int .i64 0) []])= .agg [.slc false 2 (.int .i64 0) (I (bs.getD k []))]:=fun k=>by rw [hbs,BB_getD]
  obtain ⟨n,hn⟩:∃n:Int,n=bs.length:=⟨_,rfl⟩
  have n1:=hcv.n1
  have n6:=hcv.n6
  have hmn:ms.length=bs.length:=hcv.tab.len
  have hbk:∀k,k<bs.length→isBr (bs.getD k [])=true∧(bs.getD k []).length≤3000000:=fun k hk=>⟨hcv.br k hk,hlen _ (by
   rw [List.getD_eq_getElem?_getD,List.getElem?_eq_getElem hk]
   exact List.getElem_mem _)⟩
  have lb:∀w∈bs.map brT,w.length≤30000012:=fun w hw=>by
   obtain ⟨y,hy,rfl⟩:=List.mem_map.1 hw
   obtain ⟨t,ht,rfl⟩:=List.mem_iff_getElem.1 hy
   have h1:=hbk t ht
   rw [List.getD_eq_getElem?_getD,List.getElem?_eq_getElem ht,Option.getD_some] at h1
   have:=brT_len (isBr_ne h1.1) (isBr_okN h1.1)
   omega
  generalize H_f_brT:f_brT=F_f_brT
  generalize H_q_brT:q_brT=F_q_brT
  generalize H_f_upper:f_upper=F_f_upper
  generalize H_q_upper:q_upper=F_q_upper
  generalize H_f_jns:f_jns=F_f_jns
  generalize H_q_jns:q_jns=F_q_jns
  generalize H_f_jn:f_jn=F_f_jn
  generalize H_q_jn:q_jn=F_q_jn
  refine fnOk_ofI (T:=tab) (B:=[(33,c_B_s F_f_brT F_q_brT),(36,c_m_l F_f_upper F_q_upper),(35,c_ls_s F_f_jns F_q_jns),(34,c_zs_s F_f_jn F_q_jn)]) (Bi:=[]) [0,1,2,3,5,6,9,10,11] Tryd.func16 rfl rfl (by kernel_rfl) (Nat.le_of_ble_eq_true rfl) mixed tabOk (by subst H_f_brT H_q_brT H_f_upper H_q_upper H_f_jns H_q_jns H_f_jn H_q_jn;exact (bookCons s_impl_branchText (bookCons s_impl_upper (bookCons s_impl_joinedNumbers (bookCons s_join bookNil))))) (by subst H_f_brT H_q_brT H_f_upper H_q_upper H_f_jns H_q_jns H_f_jn H_q_jn;exact bookINil) (by kernel_rfl) ?_
  intro L lp rr hL hr hf hlp
  conv=>cbv
  refine hlp (List V×Int) _ _ _ [1,3,9,10,11] (fun x=>[(1,none,.val (.box 31 (.agg [.slc false 49 (.agg [.slc false 2 (.int .i64 0) []]) a0,.slc false 44 (.slc false 2 (.int .i64 0) []) a1]))),(3,none,.val (.slc true 9 (.str ⟨#[]⟩) x.1)),(9,none,.val (.slc false 49 (.agg [.slc false 2 (.int .i64 0) []]) a0)),(10,none,.val (.int .i64 n)),(11,none,.val (.int .i64 x.2))])
   (fun x=>0≤x.2∧x.2≤n∧x.1=Zs ((bs.take x.2.toNat).map brT)) (fun x=>(n-x.2).toNat) (([],0)) (by subst hL;rw [hn,←hbl];rfl) ?_ ?_
  ·exact ⟨by simp,by simp only;omega,rfl⟩
  rintro ⟨vw,x⟩ ⟨x0,x1,hv⟩ hfx ag hag
  simp only at x0 x1 hv
  have hvl:vw.length=x.toNat:=by rw [hv,Zs_length,List.length_map,List.length_take];omega
  conv=>cbv
  simp only [stdEqs hL,imp_self,true_and,and_true,bif_or,bif_and,Bool.or_eq_true,Bool.or_eq_false_iff,Bool.and_eq_true,Bool.and_eq_false_iff,decide_eq_true_eq,decide_eq_false_iff_not,Bool.not_eq_true',Bool.not_eq_false',beq_iff_eq,beq_eq_false_iff_ne,ne_eq,toNat0,toNat1,ok_int,toI_int,I_frzs,I_length,I_getD,ok_ints,toL_slc,g1,g2,hbl,hml,gb,←hn,ok_bran,toL_bran,fld_bran,I_frzs,hvl]
  have Eb:∀k,F_f_brT (I (bs.getD k []))=T (brT (bs.getD k [])):=fun k=>by rw [←H_f_brT,f_brT,unI_I]
  have Qb:∀k,k<bs.length→F_q_brT (I (bs.getD k [])):=fun k hk=>by
   rw [←H_q_brT]
   exact ⟨_,rfl,isBr_ne (hbk k hk).1,(hbk k hk).2,isBr_okN (hbk k hk).1⟩
  refine ⟨fun h=> ?_,fun h=> ?_⟩
  ·rw [wrap_id (n:=x+1) (by omega) (by omega),Eb]
   refine ⟨x0,h,Qb _ (by omega),rfl,by simp only [List.length_cons,List.length_nil];omega,fun z hz=>by (simp only [List.mem_singleton] at hz;subst hz;rfl),?_⟩
   refine hag (_,x+1) ⟨by simp only;omega,by simp only;omega,?_⟩ (by simp only;omega)
   simp only [toNat_succ x0]
   rw [hv,List.take_succ_eq_append_getElem (by omega),List.getD_eq_getElem?_getD,List.getElem?_eq_getElem (by omega),List.map_append,←Zs_append]
   rfl
  have hxe:x.toNat=bs.length:=by omega
  rw [hxe,List.take_of_length_le (Nat.le_refl _)] at hv
  have hfz:V.frzs vw=Zs (bs.map brT):=by rw [hv,Zs_frzs]
  obtain ⟨us,hus⟩:∃us,us=uppr ms bs.length bs.length:=⟨_,rfl⟩
  have Eu:F_f_upper a1=I us:=by
   rw [←H_f_upper,f_upper,hms,unII_II,hmn,upper_uppr hcv.tab _ (Nat.le_refl _),hus]
  have E1:F_f_jn (Zs (bs.map brT)) ⟨⟨[32]⟩⟩=T (brsT bs):=by rw [←H_f_jn];exact f_jn_eq _ _
  have E2:F_f_jns (I us) ⟨⟨[32]⟩⟩=T (numT us):=by rw [←H_f_jns,f_jns,unI_I];rfl
  have hok:okN us:=fun y hy=>by
   rw [hus,uppr] at hy
   obtain ⟨a,ha,hy⟩:=List.mem_flatMap.1 hy
   rw [List.mem_range] at ha
   rw [rowU] at hy
   obtain ⟨b,hb,rfl⟩:=List.mem_map.1 hy
   have hb:=List.mem_range.1 (List.mem_of_mem_drop hb)
   have hE:=(hcv.tab.row a ha).2 b hb
   by_cases hab:a=b
   ·rw [hE.1 hab];omega
   ·have:=hE.2 hab;omega
  have l1:=joinL_len 32 30000012 (bs.map brT) lb
  have l2:=numT_len hok
  have l3:us.length≤36:=by
   rw [hus]
   have:=uppr_len ms bs.length bs.length
   have:=Nat.mul_le_mul n6 n6
   omega
  rw [List.length_map] at l1
  have l1':(brsT bs).length≤30000013*6:=Nat.le_trans l1 (Nat.mul_le_mul_left _ n6)
  rw [hfz,Eu,I_frzs,E1,E2,hxe,show (⟨⟨[124]⟩⟩:ByteArray)=T [124] from rfl]
  simp only [T_app,T_size,List.length_append,List.length_cons,List.length_nil]
  refine ⟨by rw [←H_q_jn];exact ⟨_,32,rfl,rfl,by rw [List.length_map];omega,by show (brsT bs).length≤_;omega⟩,fun h2=>⟨by rw [←H_q_upper];exact ⟨ms,hms,by rw [hmn];exact hcv.tab,by omega⟩,by rw [←H_q_jns];exact ⟨us,32,rfl,rfl,by omega,hok⟩,by omega,by omega,?_⟩,fun h2=> ?_⟩
  ·rw [hr,hf0,cvT,←hus,if_neg (fun e=>uppr_pos ms (n:=bs.length) (by omega) bs.length (by omega) (by rw [←hus];exact (numT_nil us).1 e))]
   rfl
  ·have hb1:bs.length=1:=by omega
   have hu0:us=[]:=by
    rw [hus,hb1,uppr_succ,rowU_zero]
    simp [uppr]
   rw [hr,hf0,cvT,←hus,if_pos ((numT_nil us).2 hu0),List.append_nil]
 ·cases h
noncomputable def f_ct (a b:List V):ByteArray×Int:=bif f_isCv a b then (f_cvT a b,0) else (⟨⟨[]⟩⟩,1)
def c_C_si (f:List V→List V→ByteArray×Int) (q:List V→List V→Prop):Contract:=fun
 |[.agg [.slc false 49 (.agg [.slc false 2 (.int .i64 0) []]) a0,.slc false 44 (.slc false 2 (.int .i64 0) []) a1]]=>some ([q a0 a1],.tup [.str ((f a0 a1).1),.int .i64 ((f a0 a1).2)])
 |_=>none
theorem q_cvT_of {a b:List V} (hq:q_C a b) (h:f_isCv a b=true):q_cvT a b:=by
 obtain ⟨⟨bs,hbs,hb1,hb2⟩,⟨ms,hms,hm1,hm2⟩⟩:=id hq
 refine ⟨hq,h,fun xs hx=> ?_⟩
 rw [hbs,unBB_BB] at hx
 rw [f_isCv,hbs,hms,unBB_BB,unII_II] at h
 obtain ⟨t,ht,rfl⟩:=List.mem_iff_getElem.1 hx
 have:=(isCv_iff.1 h).br t ht
 rw [List.getD_eq_getElem?_getD,List.getElem?_eq_getElem ht] at this
 have:=(br_of this).len
 simp only [Option.getD_some] at this
 omega
set_option maxHeartbeats 1000000 in
set_option maxRecDepth 100000 in
theorem s_impl_CurveText:Sat Tryd.prog 7 (c_C_si f_ct q_C):=by
 intro args ps r h hp
 unfold c_C_si at h
 split at h
 ·rename_i a0 a1
  simp only [Option.some.injEq,Prod.mk.injEq] at h
  obtain ⟨rfl,rfl⟩:=h
  have hq:q_C a0 a1:=(alls_cons.1 hp).1
  obtain ⟨⟨bs,hbs,hb1,hb2⟩,⟨ms,hms,hm1,hm2⟩⟩:=id hq
  have g1:V.frzs a0=a0:=by rw [hbs,BB_frzs]
  have g2:V.frzs a1=a1:=by rw [hms,II_frzs]
  generalize H_f_isCv:f_isCv=F_f_isCv
  generalize H_q_C:q_C=F_q_C
  generalize H_f_cvT:f_cvT=F_f_cvT
  generalize H_q_cvT:q_cvT=F_q_cvT
  refine fnOk_ofI (T:=tab) (B:=[(15,c_C_b F_f_isCv F_q_C),(16,c_C_s F_f_cvT F_q_cvT)]) (Bi:=[]) [0,1,2,3] Tryd.func7 rfl rfl (by kernel_rfl) (Nat.le_of_ble_eq_true rfl) mixed tabOk (by subst H_f_isCv H_q_C H_f_cvT H_q_cvT;exact (bookCons s_impl_IsCurve (bookCons s_impl_curveText bookNil))) (by subst H_f_isCv H_q_C H_f_cvT H_q_cvT;exact bookINil) (by kernel_rfl) ?_
  intro L lp rr hL hr hf hlp
  conv=>cbv
  simp only [stdEqs hL,imp_self,true_and,and_true,bif_or,bif_and,Bool.or_eq_true,Bool.or_eq_false_iff,Bool.and_eq_true,Bool.and_eq_false_iff,decide_eq_true_eq,decide_eq_false_iff_not,Bool.not_eq_true',Bool.not_eq_false',beq_iff_eq,beq_eq_false_iff_ne,ne_eq,toNat0,toNat1,ok_int,toI_int,I_frzs,I_length,I_getD,ok_ints,toL_slc,g1,g2]
  subst H_f_isCv H_q_C H_f_cvT H_q_cvT
  refine ⟨hq,fun h=> ?_,fun h=>⟨q_cvT_of hq h,?_⟩⟩
  ·rw [hr,f_ct,h];rfl
  ·rw [hr,f_ct,h];rfl
 ·cases h
set_option maxHeartbeats 1000000 in
set_option maxRecDepth 100000 in
theorem s_spec_CurveText:Sat Tryd.prog 5 (c_C_si f_ct q_C):=by
 intro args ps r h hp
 unfold c_C_si at h
 split at h
 ·rename_i a0 a1
  simp only [Option.some.injEq,Prod.mk.injEq] at h
  obtain ⟨rfl,rfl⟩:=h
  have hq:q_C a0 a1:=(alls_cons.1 hp).1
  obtain ⟨⟨bs,hbs,hb1,hb2⟩,⟨ms,hms,hm1,hm2⟩⟩:=id hq
  have g1:V.frzs a0=a0:=by rw [hbs,BB_frzs]
  have g2:V.frzs a1=a1:=by rw [hms,II_frzs]
  generalize H_f_isCv:f_isCv=F_f_isCv
  generalize H_q_C:q_C=F_q_C
  generalize H_f_cvT:f_cvT=F_f_cvT
  generalize H_q_cvT:q_cvT=F_q_cvT
  refine fnOk_ofI (T:=tab) (B:=[(11,c_C_b F_f_isCv F_q_C),(12,c_C_s F_f_cvT F_q_cvT)]) (Bi:=[]) [0,1,2,3] Tryd.func5 rfl rfl (by kernel_rfl) (Nat.le_of_ble_eq_true rfl) mixed tabOk (by subst H_f_isCv H_q_C H_f_cvT H_q_cvT;exact (bookCons s_spec_l09Is (bookCons s_spec_l09Text bookNil))) (by subst H_f_isCv H_q_C H_f_cvT H_q_cvT;exact bookINil) (by kernel_rfl) ?_
  intro L lp rr hL hr hf hlp
  conv=>cbv
  simp only [stdEqs hL,imp_self,true_and,and_true,bif_or,bif_and,Bool.or_eq_true,Bool.or_eq_false_iff,Bool.and_eq_true,Bool.and_eq_false_iff,decide_eq_true_eq,decide_eq_false_iff_not,Bool.not_eq_true',Bool.not_eq_false',beq_iff_eq,beq_eq_false_iff_ne,ne_eq,toNat0,toNat1,ok_int,toI_int,I_frzs,I_length,I_getD,ok_ints,toL_slc,g1,g2]
  subst H_f_isCv H_q_C H_f_cvT H_q_cvT
  refine ⟨hq,fun h=> ?_,fun h=>⟨q_cvT_of hq h,?_⟩⟩
  ·rw [hr,f_ct,h];rfl
  ·rw [hr,f_ct,h];rfl
 ·cases h
end Go.Ax
