import Derived.Test.YtopcmoaklelldaaB19p1
import Derived.Test.YtopcmoaklelldaaB17p1
/-
 Curves in texts:impl.ParseCurve. No conditions but those of the contracts.
-/
set_option linter.all false
namespace Go.Ax
open Go.Proofs
def c_s_Ci (f:ByteArray→List V×List V×Int) (q:ByteArray→Prop):Contract:=fun
 |[.str a0]=>some ([q a0],.tup [.agg [.slc true 35 (.agg [.slc true 2 (.int .i64 0) []]) ((f a0).1),.slc true 33 (.slc true 2 (.int .i64 0) []) ((f a0).2.1)],.int .i64 ((f a0).2.2)])
 |_=>none
noncomputable def f_pco (s:ByteArray):List V×List V×Int:=if @decide (goodC s.data.toList) (Classical.propDecidable _) then (BB true (bsC (wsC s.data.toList)),II true (tabC (wsC s.data.toList).length (nsC s.data.toList)),0) else ([],[],6)
theorem f_pco_yes {s:ByteArray} (h:goodC s.data.toList):f_pco s=(BB true (bsC (wsC s.data.toList)),II true (tabC (wsC s.data.toList).length (nsC s.data.toList)),0):=by
 rw [f_pco,if_pos (@decide_eq_true _ (Classical.propDecidable _) h)]
theorem f_pco_no {s:ByteArray} (h:¬goodC s.data.toList):f_pco s=([],[],6):=by
 rw [f_pco,@decide_eq_false _ (Classical.propDecidable _) h];rfl
set_option maxHeartbeats 8000000 in
set_option maxRecDepth 100000 in
theorem s_impl_ParseCurve:Sat Try.prog 5 (c_s_Ci f_pco q_dig):=by
 intro args ps r h hp
 unfold c_s_Ci at h
 split at h
 ·rename_i s
  simp only [Option.some.injEq,Prod.mk.injEq] at h
  obtain ⟨rfl,rfl⟩:=h
  have hs:q_dig s:=(alls_cons.1 hp).1
  have hs':s.size≤2000000:=hs
  obtain ⟨l,hl⟩:∃l,l=s.data.toList:=⟨_,rfl⟩
  have hsl:s=T l:=by rw [hl];exact T_of s
  have hsz:s.size=l.length:=by rw [hsl,T_size]
  have hyes:goodC l→f_pco s=(BB true (bsC (wsC l)),II true (tabC (wsC l).length (nsC l)),0):=fun h=>by rw [hl];exact f_pco_yes (by rw [←hl];exact h)
  have hno:¬goodC l→f_pco s=([],[],6):=fun h=>f_pco_no (by rw [←hl];exact h)
  obtain ⟨c,hc⟩:∃c,c=cutL 124 l:=⟨_,rfl⟩
  have hcl:c.1.length≤l.length∧c.2.1.length≤l.length:=by
   rcases cut_cases 124 l with ⟨_,h2,_⟩|⟨a,b,h1,_,h2,_⟩
   ·rw [hc,h2];exact ⟨Nat.le_refl _,Nat.zero_le _⟩
   ·rw [hc,h2,h1];simp only [List.length_append,List.length_cons];omega
  obtain ⟨ws,hws⟩:∃ws,ws=wsC l:=⟨_,rfl⟩
  have hws':ws=splitL 32 c.1:=by rw [hws,wsC,hc]
  have hwl:=split_len 32 c.1
  rw [←hws'] at hwl
  have hww:∀w∈ws,w.length≤l.length:=fun w hw=>by
   rw [hws'] at hw
   exact Nat.le_trans (split_wlen 32 _ w hw) hcl.1
  obtain ⟨n,hn⟩:∃n:Int,n=ws.length:=⟨_,rfl⟩
  obtain ⟨tb,htb⟩:∃tb,tb=T c.2.1:=⟨_,rfl⟩
  obtain ⟨vw,hvw⟩:∃vw,vw=Zs ws:=⟨_,rfl⟩
  have hvwl:vw.length=ws.length:=by rw [hvw,Zs_length]
  have gw:∀k,vw.getD k (.str ⟨#[]⟩)= .str (T (ws.getD k [])):=fun k=>by rw [hvw,Zs_getD]
  generalize H_f_prt:f_prt=F_f_prt
  generalize H_q_prt:q_prt=F_q_prt
  generalize H_f_wrd:f_wrd=F_f_wrd
  generalize H_f_pbr:f_pbr=F_f_pbr
  generalize H_q_dig:q_dig=F_q_dig
  generalize H_f_nms:f_nms=F_f_nms
  generalize H_f0_square:f0_square=F_f0_square
  generalize H_q_n:q_n=F_q_n
  generalize H_f_isCv:f_isCv=F_f_isCv
  generalize H_q_C:q_C=F_q_C
  refine fnOk_ofI (T:=tab) (B:=[(14,c_sc_ssb F_f_prt F_q_prt),(15,c_sc_z F_f_wrd F_q_prt),(16,c_s_Bi F_f_pbr F_q_dig),(17,c_sc_lb F_f_nms F_q_prt),(18,c_n_ll F_f0_square F_q_n),(19,c_C_b F_f_isCv F_q_C)]) (Bi:=[]) [1000021013,3000027011,0,2,3,4,5,6,7,9,10,11,12,13,14,15,16,17,26,27,28,85,86] Try.func5 rfl rfl (by kernel_rfl) (Nat.le_of_ble_eq_true rfl) mixed tabOk (by subst H_f_prt H_q_prt H_f_wrd H_f_pbr H_q_dig H_f_nms H_f0_square H_q_n H_f_isCv H_q_C;exact (bookCons s_impl_parted (bookCons s_impl_wordsOf (bookCons s_impl_ParseBranch (bookCons s_impl_numbersOf (bookCons s_impl_square (bookCons s_impl_IsCurve bookNil))))))) (by subst H_f_prt H_q_prt H_f_wrd H_f_pbr H_q_dig H_f_nms H_f0_square H_q_n H_f_isCv H_q_C;exact bookINil) (by kernel_rfl) ?_
  intro L lp rr hL hr hf hlp
  refine wpS_cut_of L tab lp _ _ _ _ _ 9 _ _ fun K1 hK1=> ?_
  have Ep:F_f_prt s 124=(T c.1,tb,c.2.2):=by rw [←H_f_prt,hc,htb,hc,hl];rfl
  have Ew:F_f_wrd (T c.1) 32=vw:=by rw [←H_f_wrd,hvw,hws'];rfl
  conv=>cbv
  simp only [stdEqs hL,imp_self,true_and,and_true,bif_or,bif_and,Bool.or_eq_true,Bool.or_eq_false_iff,Bool.and_eq_true,Bool.and_eq_false_iff,decide_eq_true_eq,decide_eq_false_iff_not,Bool.not_eq_true',Bool.not_eq_false',beq_iff_eq,beq_eq_false_iff_ne,ne_eq,toNat0,toNat1,ok_int,toI_int,I_frzs,I_length,I_getD,ok_ints,toL_slc,Ep,Ew,hvwl,←hn]
  refine ⟨by rw [←H_q_prt];exact ⟨by omega,124,rfl⟩,by rw [←H_q_prt];exact ⟨by rw [T_size];omega,32,rfl⟩,?_⟩
  obtain ⟨mo,hmo⟩:∃mo,mo=c.2.2:=⟨_,rfl⟩
  rw [←hmo]
  refine hlp (List V×Int) _ _ _ [2,3,5,6,7,26,27,28] (fun x=>[(2,none,.val (.box 25 (.agg [.slc true 35 (.agg [.slc true 2 (.int .i64 0) []]) [],.slc true 33 (.slc true 2 (.int .i64 0) []) []]))),(3,none,.val (.int .i64 0)),(5,none,.val (.str tb)),(6,none,.val (.bool mo)),(7,none,.val (.box 25 (.agg [.slc true 35 (.agg [.slc true 2 (.int .i64 0) []]) x.1,.slc true 33 (.slc true 2 (.int .i64 0) []) []]))),(26,none,.val (.slc true 9 (.str ⟨#[]⟩) vw)),(27,none,.val (.int .i64 n)),(28,none,.val (.int .i64 x.2))])
   (fun x=>0≤x.2∧x.2≤n∧x.2≤6∧x.1=BB true (bsC (ws.take x.2.toNat))∧∀w∈ws.take x.2.toNat,(parB w).isSome=true) (fun x=>(n-x.2).toNat) (([],0)) (by subst hL;rw [hn,←hvwl];rfl) ?_ ?_
  ·exact ⟨by simp,by simp only;omega,by simp,rfl,fun w hw=>by cases hw⟩
  rintro ⟨bs,x⟩ ⟨x0,x1,x6,hB,hok⟩ hfx ag hag
  simp only at x0 x1 x6 hB hok
  obtain ⟨nx,hnx⟩:∃nx:Nat,nx=x.toNat:=⟨_,rfl⟩
  rw [←hnx] at hB hok
  have hbsl:bs.length=nx:=by rw [hB,BB_length,bsC_len,List.length_take];omega
  conv=>cbv
  simp only [stdEqs hL,imp_self,true_and,and_true,bif_or,bif_and,Bool.or_eq_true,Bool.or_eq_false_iff,Bool.and_eq_true,Bool.and_eq_false_iff,decide_eq_true_eq,decide_eq_false_iff_not,Bool.not_eq_true',Bool.not_eq_false',beq_iff_eq,beq_eq_false_iff_ne,ne_eq,toNat0,toNat1,ok_int,toI_int,I_frzs,I_length,I_getD,ok_ints,toL_slc,hvwl,gw,ok_str,toS_str,←hn,←hnx,hbsl]
  have herr:¬goodC l→rr=V.tup [.agg [.slc true 35 (.agg [.slc true 2 (.int .i64 0) []]) [],.slc true 33 (.slc true 2 (.int .i64 0) []) []],.int .i64 6]:=fun h=>by rw [hr,hno h]
  have Epb:∀w:By,F_f_pbr (T w)=resB (parB w):=fun w=>by rw [←H_f_pbr];rfl
  have hwr:∀k:Nat,k≤6→IntKind.wrap .i64 ((IntKind.wrap .i64 ((k:Int)*IntKind.wrap .i64 ((k:Int)-1))).tdiv 2)=((k*(k-1)/2:Nat):Int):=fun k hk=>by
   rcases (by omega:k=0∨k=1∨k=2∨k=3∨k=4∨k=5∨k=6) with rfl|rfl|rfl|rfl|rfl|rfl|rfl<;>decide
  have hwp:=ws_pos l
  rw [←hws] at hwp
  have Qn:F_q_n (nx:Int):=by rw [←H_q_n];exact ⟨by omega,by omega⟩
  have Em:F_f_nms tb 32=(I (numsL (splitL 32 c.2.1)).1,(numsL (splitL 32 c.2.1)).2):=by rw [←H_f_nms,htb];rfl
  simp only [Epb,Em,I_length,List.length_nil,hwr nx (by omega)]
  refine ⟨fun h2=> ?_,fun h2=> ?_⟩
  ·have hwm:ws.getD nx []∈ws:=by
    rw [List.getD_eq_getElem?_getD,List.getElem?_eq_getElem (by omega)]
    exact List.getElem_mem _
   refine ⟨x0,h2,by omega,by rw [←H_q_dig];show (T _).size≤2000000;rw [T_size];have:=hww _ hwm;omega,?_⟩
   cases hpw:parB (ws.getD nx []) with
   |none=>
    simp only [resB]
    refine ⟨fun _=>(herr fun hg=> ?_).symm,fun h=>absurd h.1 (by omega)⟩
    have:=hg.2.1 (ws.getD nx []) (by rw [←hws];exact hwm)
    rw [hpw] at this
    cases this
   |some xs=>
    simp only [resB]
    refine ⟨fun h=>(herr fun hg=> ?_).symm,fun h=>⟨by simp only [List.length_cons,List.length_nil];omega,fun z hz=>by (simp only [List.mem_singleton] at hz;subst hz;rfl),?_⟩⟩
    ·have:=hg.1
     rw [←hws] at this
     rcases h with h|h
     ·exact h trivial
     ·omega
    ·rw [wrap_id (n:=x+1) (by omega) (by omega)]
     have htk:ws.take (nx+1)=ws.take nx++[ws.getD nx []]:=by
      rw [List.take_succ_eq_append_getElem (by omega),List.getD_eq_getElem?_getD,List.getElem?_eq_getElem (by omega)]
      rfl
     refine hag (_,x+1) ⟨by simp only;omega,by simp only;omega,by simp only;omega,?_,?_⟩ (by simp only;omega)
     ·simp only [toNat_succ x0,←hnx]
      rw [htk,bsC,List.map_append,List.map_singleton,hpw,Option.getD_some,hB]
      simp [BB,bsC]
     ·simp only [toNat_succ x0,←hnx]
      intro w hw
      rw [htk] at hw
      rcases List.mem_append.1 hw with hw|hw
      ·exact hok w hw
      ·rw [List.mem_singleton.1 hw,hpw];rfl
  clear hag hfx ag
  have hxe:nx=ws.length:=by omega
  rw [hxe,List.take_of_length_le (Nat.le_refl _)] at hB hok
  have hns:mo=false→nsC l=[]:=fun h=>by rw [nsC,numsC,←hc,←hmo,h];rfl
  have hnt:mo=true→nsC l=(splitL 32 c.2.1).map numV:=fun h=>by rw [nsC,numsC,←hc,←hmo,h];rfl
  obtain ⟨nums,hnums⟩:∃nums,nums=nsC l:=⟨_,rfl⟩
  rw [←hnums] at hns hnt
  have hmg:goodC l→(mo=true↔1<nx):=fun h=>by
   have:=good_more h
   rw [←hc,←hmo,←hws,←hxe] at this
   exact this
  have hmd:goodC l→mo=decide (1<(nx:Int)):=fun h=>by
   have:=hmg h
   rw [Bool.eq_iff_iff,decide_eq_true_eq,this]
   omega
  have hlg:goodC l→nums.length=nx*(nx-1)/2:=fun h=>by rw [hnums,h.2.2.1,←hws,←hxe]
  refine ⟨fun h3=>⟨by rw [←H_q_prt,htb];exact ⟨by rw [T_size];omega,32,rfl⟩,fun h4=> ?e,fun h4=> ?a⟩,fun h3=> ?b⟩
  case e=>
   refine (herr fun hg=> ?_).symm
   rw [numsL] at h4
   split at h4
   ·cases h4
   ·rename_i h5
    refine h5 (List.all_eq_true.2 fun w hw=>num_pos ?_)
    refine good_nums hg _ ?_
    rw [←hnums,hnt h3]
    exact List.mem_map_of_mem hw
  case' a=>
   have hnl:(numsL (splitL 32 c.2.1)).1=nums:=by
    rw [hnt h3]
    rw [numsL] at h4 ⊢
    split at h4
    ·rename_i h5;rw [if_pos h5]
    ·cases h4
   rw [hnl]
   refine ⟨fun _=>by omega,fun h5=> ?f,fun h5=>⟨Qn,?c⟩⟩
   case f=>
    refine (herr fun hg=> ?_).symm
    rcases h5 with h5|h5
    ·exact h5 (hmd hg)
    ·exact h5 (by rw [hlg hg])
   have hl5:nums.length=nx*(nx-1)/2:=by exact_mod_cast h5.2
   obtain ⟨vn0,hvn0⟩:∃v,v=I nums:=⟨_,rfl⟩
   have hz:I nums=V.frzs vn0:=by rw [hvn0,I_frzs]
   rw [h4,←hvn0]
   clear h4 hnl hvn0
  case' b=>
   have hnl:=hns h3
   refine ⟨fun _=>by omega,fun h5=> ?f,fun h5=>⟨Qn,?c⟩⟩
   case f=>
    refine (herr fun hg=> ?_).symm
    rcases h5 with h5|h5
    ·exact h5 (hmd hg)
    ·exact h5 (by rw [←hlg hg,hnl];rfl)
   have hl5:nums.length=nx*(nx-1)/2:=by
    rw [hnl]
    exact_mod_cast h5.2
   have hz:I nums=V.frzs []:=by rw [hnl];rfl
   clear hnl
  all_goals
   clear h5 hnt hns hmg hmd hlg h3 Ep Ew Epb Em gw hww hwr hws' hwl
   rw [hK1]
   clear hK1
   obtain ⟨m,hm⟩:∃m:Int,m=(nx:Int):=⟨_,rfl⟩
   simp only [←hm]
   conv=>cbv
   have hsq:F_f0_square m=II true (T2 nx (tbS nx nums 0 0)):=by rw [←H_f0_square,f0_square,hm,Int.toNat_natCast,tbS_zero]
   obtain ⟨c0,hc0⟩:∃c0,c0=II true (T2 nx (tbS nx nums 0 0)):=⟨_,rfl⟩
   rw [hsq,←hc0]
   try simp only [I_frzs]
   refine hlp ((List V×List V)×Int) _ _ _ [2,3,7,12,13,85,86] (fun x=>[(2,none,.val (.box 25 (.agg [.slc true 35 (.agg [.slc true 2 (.int .i64 0) []]) [],.slc true 33 (.slc true 2 (.int .i64 0) []) []]))),(3,none,.val (.int .i64 0)),(7,none,.val (.box 25 (.agg [.slc true 35 (.agg [.slc true 2 (.int .i64 0) []]) bs,.slc true 33 (.slc true 2 (.int .i64 0) []) x.1.1]))),(12,none,.val (.int .i64 m)),(13,none,.val (.slc false 2 (.int .i64 0) x.1.2)),(85,none,.val (.int .i64 m)),(86,none,.val (.int .i64 x.2))])
    (fun x=>0≤x.2∧x.2≤m∧x.1.1=II true (T2 nx (tbS nx nums x.2.toNat 0))∧x.1.2=I (nums.drop (uL nx x.2.toNat))) (fun x=>(m-x.2).toNat) (((c0,I nums),0)) (by subst hL;rw [hz];rfl) ?_ ?_
   ·exact ⟨by simp,by simp only;omega,hc0,rfl⟩
   rintro ⟨⟨ms,vn⟩,i⟩ ⟨i0,i1,hM,hN⟩ hfx ag hag
   simp only at i0 i1 hM hN
   obtain ⟨ni,hni⟩:∃ni:Nat,ni=i.toNat:=⟨_,rfl⟩
   rw [←hni] at hM hN
   conv=>cbv
   simp only [stdEqs hL,imp_self,true_and,and_true,bif_or,bif_and,Bool.or_eq_true,Bool.or_eq_false_iff,Bool.and_eq_true,Bool.and_eq_false_iff,decide_eq_true_eq,decide_eq_false_iff_not,Bool.not_eq_true',Bool.not_eq_false',beq_iff_eq,beq_eq_false_iff_ne,ne_eq,toNat0,toNat1,ok_int,toI_int,I_frzs,I_length,I_getD,ok_ints,toL_slc,←hni]
   have E1:F_f_isCv (V.frzs bs) (V.frzs ms)=isCv (unBB (V.frzs bs)) (unII (V.frzs ms)):=by rw [←H_f_isCv];rfl
   refine ⟨fun h6=> ?_,fun h6=> ?_⟩
   ·rw [wrap_id (n:=i+1) (by omega) (by omega)]
    refine hlp ((List V×List V)×Int) _ _ _ [2,3,7,12,13,16,17,85,86] (fun y=>[(2,none,.val (.box 25 (.agg [.slc true 35 (.agg [.slc true 2 (.int .i64 0) []]) [],.slc true 33 (.slc true 2 (.int .i64 0) []) []]))),(3,none,.val (.int .i64 0)),(7,none,.val (.box 25 (.agg [.slc true 35 (.agg [.slc true 2 (.int .i64 0) []]) bs,.slc true 33 (.slc true 2 (.int .i64 0) []) y.1.1]))),(12,none,.val (.int .i64 m)),(13,none,.val (.slc false 2 (.int .i64 0) y.1.2)),(16,none,.val (.int .i64 i)),(17,none,.val (.int .i64 y.2)),(85,none,.val (.int .i64 m)),(86,none,.val (.int .i64 i))])
     (fun y=>i+1≤y.2∧y.2≤m∧y.1.1=II true (T2 nx (tbS nx nums ni y.2.toNat))∧y.1.2=I (nums.drop (uL nx ni+(y.2.toNat-ni-1)))) (fun y=>(m-y.2).toNat) (((ms,vn),i+1)) (by subst hL;rfl) ?_ ?_
    ·refine ⟨by simp,by simp only;omega,?_,?_⟩
     ·simp only
      rw [show (i+1).toNat=ni+1 by omega,←tbS_skip,hM]
     ·simp only
      rw [show (i+1).toNat=ni+1 by omega,show ni+1-ni-1=0 by omega,Nat.add_zero,hN]
    rintro ⟨⟨ms2,vn2⟩,k⟩ ⟨k0,k1,hM2,hN2⟩ hfx2 ag2 hag2
    simp only at k0 k1 hM2 hN2
    obtain ⟨nk,hnk⟩:∃nk:Nat,nk=k.toNat:=⟨_,rfl⟩
    rw [←hnk] at hM2 hN2
    have hkx:¬k<m→nk=nx:=fun h=>by omega
    have hnn:ni<nx:=by omega
    have hi1:(i+1).toNat=ni+1:=by omega
    have hb1:0≤i+1∧i+1≤m∧(m-(i+1)).toNat<(m-i).toNat∧-9223372036854775808≤i+1∧i+1≤9223372036854775807:=by omega
    have hml2:ms2.length=nx:=by rw [hM2,II_length,T2_len]
    obtain ⟨v,hv⟩:∃v,v=tbV nx nums ni nk:=⟨_,rfl⟩
    obtain ⟨vr1,hvr1⟩:∃vr1,vr1=I ((T2 nx (tbS nx nums ni nk)).getD ni []):=⟨_,rfl⟩
    obtain ⟨vr3,hvr3⟩:∃vr3,vr3=I ((T2 nx (tbH nx nums ni nk)).getD nk []):=⟨_,rfl⟩
    obtain ⟨ms3,hms3⟩:∃ms3,ms3=II true (T2 nx (tbH nx nums ni nk)):=⟨_,rfl⟩
    obtain ⟨ms4,hms4⟩:∃ms4,ms4=II true (T2 nx (tbS nx nums ni (nk+1))):=⟨_,rfl⟩
    obtain ⟨ln,hln⟩:∃ln,ln=nums.length-(uL nx ni+(nk-ni-1)):=⟨_,rfl⟩
    have gms:ms2.getD ni (.slc true 2 (.int .i64 0) [])= .slc true 2 (.int .i64 0) vr1:=by rw [hM2,II_getD,hvr1]
    obtain ⟨vr2,hvr2⟩:∃vr2,vr2=I ((T2 nx (tbS nx nums ni nk)).getD nk []):=⟨_,rfl⟩
    have gms2:ms2.getD nk (.slc true 2 (.int .i64 0) [])= .slc true 2 (.int .i64 0) vr2:=by rw [hM2,II_getD,hvr2]
    have okg:∀a:List V,Ax.vw stdV tab true 20 33 (.slc true 2 (.int .i64 0) a)=some (.slc true 2 (.int .i64 0) a):=fun a=>rfl
    obtain ⟨w1,hw1⟩:∃w1,vr1.getD nk (.int .i64 0)= .int .i64 w1:=⟨_,by rw [hvr1,I_getD]⟩
    obtain ⟨w3,hw3⟩:∃w3,vr3.getD ni (.int .i64 0)= .int .i64 w3:=⟨_,by rw [hvr3,I_getD]⟩
    have gms3:ms3.getD nk (.slc true 2 (.int .i64 0) [])= .slc true 2 (.int .i64 0) vr3:=by rw [hms3,II_getD,hvr3]
    have hvl2:vn2.length=ln:=by rw [hN2,I_length,List.length_drop,hln]
    have gvn:vn2.getD 0 (.int .i64 0)= .int .i64 v:=by rw [hN2,I_getD,hv,tbV,List.getD_eq_getElem?_getD,List.getElem?_drop,Nat.add_zero,List.getD_eq_getElem?_getD]
    have hml3:ms3.length=nx:=by rw [hms3,II_length,T2_len]
    have hr1:k<m→vr1.length=nx:=fun h=>by rw [hvr1,I_length,T2_row _ (by omega),tab_len]
    have hr3:k<m→vr3.length=nx:=fun h=>by rw [hvr3,I_length,T2_row _ (by omega),tab_len]
    have hset1:k<m→ms2.set ni (.slc true 2 (.int .i64 0) (vr1.set nk (.int .i64 v)))=ms3:=fun h=>by
     rw [hM2,hms3,hvr1,hv,I_set,II_set,tbS_set1 nums (by omega) (by omega)]
    have hset2:k<m→ms3.set nk (.slc true 2 (.int .i64 0) (vr3.set ni (.int .i64 v)))=ms4:=fun h=>by
     rw [hms3,hvr3,hv,hms4,I_set,II_set,tbS_set2 nums (by omega) (by omega)]
    obtain ⟨vt,hvt⟩:∃vt,vt=I (nums.drop (uL nx ni+(nk+1-ni-1))):=⟨_,rfl⟩
    have htl:k<m→(vn2.take ln).drop 1=vt:=fun h=>by
     rw [List.take_of_length_le (by omega),hN2,hvt,I,I,←List.map_drop,List.drop_drop,show uL nx ni+(nk-ni-1)+1=uL nx ni+(nk+1-ni-1) by omega]
    conv=>cbv
    simp only [stdEqs hL,imp_self,true_and,and_true,bif_or,bif_and,Bool.or_eq_true,Bool.or_eq_false_iff,Bool.and_eq_true,Bool.and_eq_false_iff,decide_eq_true_eq,decide_eq_false_iff_not,Bool.not_eq_true',Bool.not_eq_false',beq_iff_eq,beq_eq_false_iff_ne,ne_eq,toNat0,toNat1,ok_int,toI_int,I_frzs,I_length,I_getD,ok_ints,toL_slc,←hni,←hnk,hml2,gms,hvl2,gvn]
    refine ⟨fun h7=> ?_,fun h7=> ?_⟩
    ·have hul:=uL_lt nx (by omega) ni (by omega) nk (by omega) (by omega)
     rw [wrap_id (n:=k+1) (by omega) (by omega)]
     simp only [hset1 h7,gms2,gms3,okg,hml3,hr1 h7,hw1,stdEqs hL,imp_self,true_and,and_true,bif_or,bif_and,Bool.or_eq_true,Bool.or_eq_false_iff,Bool.and_eq_true,Bool.and_eq_false_iff,decide_eq_true_eq,decide_eq_false_iff_not,Bool.not_eq_true',Bool.not_eq_false',beq_iff_eq,beq_eq_false_iff_ne,ne_eq,toNat0,toNat1,ok_int,toI_int,I_frzs,I_length,I_getD,ok_ints,toL_slc,hr3 h7,hw3,hset2 h7,Int.toNat_natCast,show (1:Int).toNat=1 from rfl,htl h7]
     repeat (refine And.intro (by omega) ?_)
     refine hag2 ((ms4,vt),k+1) ⟨by simp only;omega,by simp only;omega,?_,?_⟩ (by simp only;omega)
     ·simp only
      rw [hms4,show (k+1).toNat=nk+1 by omega]
     ·simp only
      rw [hvt,show (k+1).toNat=nk+1 by omega]
    ·rw [wrap_id (n:=i+1) hb1.2.2.2.1 hb1.2.2.2.2]
     refine hag ((ms2,vn2),i+1) ⟨hb1.1,hb1.2.1,?_,?_⟩ hb1.2.2.1
     ·show ms2=II true (T2 nx (tbS nx nums (i+1).toNat 0))
      rw [hi1,hM2,hkx h7,tbS_row]
     ·show vn2=I (nums.drop (uL nx (i+1).toNat))
      rw [hi1,hN2,hkx h7,uL_end hnn]
   ·have hie:ni=nx:=by omega
    rw [hie,tbS_all] at hM
    have hb1:unBB (V.frzs bs)=bsC ws:=by rw [hB,BB_frzs,unBB_BB]
    have hm1:unII (V.frzs ms)=tabC nx nums:=by rw [hM,II_frzs,unII_II,tabC]
    rw [E1,hb1,hm1]
    have hgd:goodC l↔isCv (bsC ws) (tabC nx nums)=true:=by
     rw [goodC,←hws,←hnums,←hxe]
     exact ⟨fun h=>h.2.2.2,fun h=>⟨by omega,hok,hl5,h⟩⟩
    refine ⟨?_,fun h7=>(herr fun hg=> ?_).symm,fun h7=> ?_⟩
    ·rw [←H_q_C,hB,hM,BB_frzs,II_frzs]
     refine ⟨⟨_,rfl,by rw [bsC_len];omega,?_⟩,⟨_,rfl,by rw [T2_len];omega,?_⟩⟩
     ·exact bsC_rows hok
     ·exact fun xs hx=>by rw [T2_rows _ xs hx];omega
    ·rw [hgd.1 hg] at h7;cases h7
    ·rw [hr,hyes (hgd.2 h7),hB,hM,←hws,←hnums,←hxe,tabC]
 ·cases h
end Go.Ax
