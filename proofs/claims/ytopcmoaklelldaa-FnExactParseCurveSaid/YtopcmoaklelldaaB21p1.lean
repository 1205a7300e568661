import Derived.Test.YtopcmoaklelldaaB19p1
import Derived.Test.YtopcmoaklelldaaB12p1
import Derived.Test.YtopcmoaklelldaaB17p1
/-
 Curves in texts:the reference's ParseCurve. No conditions but those of the contracts.
-/
set_option linter.all false
namespace Go.Ax
open Go.Proofs
theorem uppr_ne (ms:List (List Int)) {n:Nat} (h:2≤n):∀i,1≤i→uppr ms n i≠[]
 |0,h1=>by omega
 |i+1,_=>by
  rw [uppr_succ]
  intro e
  obtain ⟨e1,e2⟩:=List.append_eq_nil_iff.1 e
  cases i with
  |zero=>
   have:=congrArg List.length e2
   rw [rowU,List.length_map,List.length_drop,List.length_range] at this
   simp at this
   omega
  |succ i=>exact uppr_ne ms h (i+1) (by omega) e1
theorem nn_one:∀n,n<7→0<n→0=n*(n-1)/2→n=1:=by decide
theorem no_more {l:By} (h6:(wsC l).length≤6) (hm:(cutL 124 l).2.2=false) (hok:∀w∈wsC l,(parB w).isSome=true):(goodC l↔isCv (bsC (wsC l)) (T2 (wsC l).length (tbS (wsC l).length (nsC l) 0 0))=true∧cvT (bsC (wsC l)) (T2 (wsC l).length (tbS (wsC l).length (nsC l) 0 0))=l)∧(goodC l→T2 (wsC l).length (tbS (wsC l).length (nsC l) 0 0)=tabC (wsC l).length (nsC l)):=by
 have hn:nsC l=[]:=by rw [nsC,numsC,if_neg (by rw [hm];simp)]
 have hp:=ws_pos l
 have h1:(wsC l).length=1→T2 (wsC l).length (tbS (wsC l).length (nsC l) 0 0)=tabC (wsC l).length (nsC l):=fun h=>T2_congr fun a b ha hb=>by
  rw [tbS,if_neg (by omega),tbe,if_pos (by omega)]
 have g1:goodC l→(wsC l).length=1:=fun h=>nn_one _ (by omega) hp (by rw [←h.2.2.1,hn];rfl)
 refine ⟨⟨fun h=> ?_,fun h=> ?_⟩,fun h=>h1 (g1 h)⟩
 ·rw [h1 (g1 h)]
  exact ⟨h.2.2.2,good_text h⟩
 ·have hl1:(wsC l).length=1:=by
   refine Classical.byContradiction fun hc=> ?_
   have hne:numT (uppr (T2 (wsC l).length (tbS (wsC l).length (nsC l) 0 0)) (bsC (wsC l)).length (bsC (wsC l)).length)≠[]:=fun e=>uppr_ne _ (by rw [bsC_len];omega) _ (by rw [bsC_len];omega) ((numT_nil _).1 e)
   have h2:=h.2
   rw [cvT,if_neg hne] at h2
   rcases cut_cases 124 l with ⟨k1,_⟩|⟨a,b,_,_,k3,_⟩
   ·exact k1 (by rw [←h2];simp)
   ·rw [k3] at hm;cases hm
  refine ⟨h6,hok,by rw [hn,hl1];rfl,?_⟩
  rw [←h1 hl1]
  exact h.1
theorem with_more {l:By} (h6:(wsC l).length≤6) (hok:∀w∈wsC l,(parB w).isSome=true) (hl:(nsC l).length=(wsC l).length*((wsC l).length-1)/2):(goodC l↔isCv (bsC (wsC l)) (tabC (wsC l).length (nsC l))=true∧cvT (bsC (wsC l)) (tabC (wsC l).length (nsC l))=l):=by
 exact ⟨fun h=>⟨h.2.2.2,good_text h⟩,fun h=>⟨h6,hok,hl,h.1⟩⟩
theorem halves_cut (l:By):0<(splitL 124 l).length∧(splitL 124 l).getD 0 []=(cutL 124 l).1∧((splitL 124 l).length=1→(cutL 124 l).2.2=false)∧((splitL 124 l).length=2→(cutL 124 l).2.2=true∧(splitL 124 l).getD 1 []=(cutL 124 l).2.1):=by
 rcases cut_cases 124 l with ⟨_,h2,h3⟩|⟨a,b,h1,h2,h3,h4⟩
 ·rw [h3,h2]
  exact ⟨by simp,rfl,fun _=>rfl,fun h=>by simp at h⟩
 ·have hb:=List.length_pos_iff.2 (split_ne 124 b)
  rw [h4,h3]
  refine ⟨by simp,rfl,fun h=>by rw [List.length_cons] at h;omega,fun h=>⟨rfl,?_⟩⟩
  rw [List.length_cons] at h
  have hj:=join_split 124 b
  obtain ⟨w,hw⟩:=List.length_eq_one_iff.1 (show (splitL 124 b).length=1 by omega)
  rw [hw] at hj ⊢
  exact hj
def c_s_Qi (f:ByteArray→List V×List V×Int) (q:ByteArray→Prop):Contract:=fun
 |[.str a0]=>some ([q a0],.tup [.agg [.slc false 35 (.agg [.slc false 2 (.int .i64 0) []]) ((f a0).1),.slc false 33 (.slc false 2 (.int .i64 0) []) ((f a0).2.1)],.int .i64 ((f a0).2.2)])
 |_=>none
set_option maxHeartbeats 8000000 in
set_option maxRecDepth 100000 in
theorem s_spec_ParseCurve:Sat Try.prog 4 (c_s_Qi f_pcv q_dig):=by
 intro args ps r h hp
 unfold c_s_Qi at h
 split at h
 ·rename_i s
  simp only [Option.some.injEq,Prod.mk.injEq] at h
  obtain ⟨rfl,rfl⟩:=h
  have hs:q_dig s:=(alls_cons.1 hp).1
  have hs':s.size≤2000000:=hs
  obtain ⟨l,hl⟩:∃l,l=s.data.toList:=⟨_,rfl⟩
  have hsl:s=T l:=by rw [hl];exact T_of s
  have hsz:s.size=l.length:=by rw [hsl,T_size]
  have hyes:goodC l→f_pcv s=(BB false (bsC (wsC l)),II false (tabC (wsC l).length (nsC l)),0):=fun h=>by rw [hl];exact f_pcv_yes (by rw [←hl];exact h)
  have hno:¬goodC l→f_pcv s=([],[],6):=fun h=>f_pcv_no (by rw [←hl];exact h)
  obtain ⟨c,hc⟩:∃c,c=cutL 124 l:=⟨_,rfl⟩
  have hcl:c.1.length≤l.length∧c.2.1.length≤l.length:=by
   rcases cut_cases 124 l with ⟨_,h2,_⟩|⟨a,b,h1,_,h2,_⟩
   ·rw [hc,h2];exact ⟨Nat.le_refl _,Nat.zero_le _⟩
   ·rw [hc,h2,h1];simp only [List.length_append,List.length_cons];omega
  obtain ⟨hv0,hv1,hv2,hv3⟩:=halves_cut l
  rw [←hc] at hv1 hv2 hv3
  have hvn:=split_len 124 l
  obtain ⟨hv,hhv⟩:∃hv,hv=splitL 124 l:=⟨_,rfl⟩
  rw [←hhv] at hv0 hv1 hv2 hv3 hvn
  obtain ⟨ws,hws⟩:∃ws,ws=wsC l:=⟨_,rfl⟩
  have hws':ws=splitL 32 c.1:=by rw [hws,wsC,hc]
  have hwl:=split_len 32 c.1
  rw [←hws'] at hwl
  have hww:∀w∈ws,w.length≤l.length:=fun w hw=>by
   rw [hws'] at hw
   exact Nat.le_trans (split_wlen 32 _ w hw) hcl.1
  obtain ⟨n,hn⟩:∃n:Int,n=ws.length:=⟨_,rfl⟩
  obtain ⟨nh,hnh⟩:∃n:Int,n=hv.length:=⟨_,rfl⟩
  obtain ⟨vw,hvw⟩:∃vw,vw=Zs ws:=⟨_,rfl⟩
  have hvwl:vw.length=ws.length:=by rw [hvw,Zs_length]
  have gw:∀k,vw.getD k (.str ⟨#[]⟩)= .str (T (ws.getD k [])):=fun k=>by rw [hvw,Zs_getD]
  obtain ⟨vh,hvh⟩:∃vh,vh=Zs hv:=⟨_,rfl⟩
  have hvhl:vh.length=hv.length:=by rw [hvh,Zs_length]
  have gh:∀k,vh.getD k (.str ⟨#[]⟩)= .str (T (hv.getD k [])):=fun k=>by rw [hvh,Zs_getD]
  have g124:goodC l→hv.length≤2:=fun h=>by rw [hhv];exact (good_halves h).1
  generalize H_f_wrd:f_wrd=F_f_wrd
  generalize H_q_prt:q_prt=F_q_prt
  generalize H_f_pbr:f_pbr=F_f_pbr
  generalize H_q_dig:q_dig=F_q_dig
  generalize H_f_val:f_val=F_f_val
  generalize H_f_isCv:f_isCv=F_f_isCv
  generalize H_q_C:q_C=F_q_C
  generalize H_f_cvT:f_cvT=F_f_cvT
  generalize H_q_cvT:q_cvT=F_q_cvT
  refine fnOk_ofF (T:=tab) (B:=[(9,c_sc_z F_f_wrd F_q_prt),(10,c_s_Bi F_f_pbr F_q_dig),(2000000010,c_alias),(11,c_s_i7 F_f_val F_q_dig),(12,c_C_b F_f_isCv F_q_C),(13,c_C_s F_f_cvT F_q_cvT)]) (Bi:=[]) [1000005706,2000012060,2000025107,2000025112,3000025007,0,2,3,4,5,6,7,8,9,10,11,12,13,14,15,16] Try.func4 rfl rfl (by kernel_rfl) (Nat.le_of_ble_eq_true rfl) mixed tabOk (by subst H_f_wrd H_q_prt H_f_pbr H_q_dig H_f_val H_f_isCv H_q_C H_f_cvT H_q_cvT;exact (bookCons s_spec_l01Split (bookCons s_spec_ParseBranch (bookCons s_alias (bookCons s_spec_l01Value (bookCons s_spec_l09Is (bookCons s_spec_l09Text bookNil))))))) (by subst H_f_wrd H_q_prt H_f_pbr H_q_dig H_f_val H_f_isCv H_q_C H_f_cvT H_q_cvT;exact bookINil) (by kernel_rfl) ?_
  intro L lp rr hL hr hf hlp
  refine wpS_cut_of L tab lp _ _ _ _ _ 6 _ _ fun K1 hK1=> ?_
  have Ep:F_f_wrd s 124=vh:=by rw [←H_f_wrd,hvh,hhv,hl];rfl
  have Ew:F_f_wrd (T c.1) 32=vw:=by rw [←H_f_wrd,hvw,hws'];rfl
  have Ev:F_f_wrd (T c.2.1) 32=Zs (splitL 32 c.2.1):=by rw [←H_f_wrd];rfl
  conv=>cbv
  simp only [stdEqs hL,imp_self,true_and,and_true,bif_or,bif_and,Bool.or_eq_true,Bool.or_eq_false_iff,Bool.and_eq_true,Bool.and_eq_false_iff,decide_eq_true_eq,decide_eq_false_iff_not,Bool.not_eq_true',Bool.not_eq_false',beq_iff_eq,beq_eq_false_iff_ne,ne_eq,toNat0,toNat1,ok_int,toI_int,I_frzs,I_length,I_getD,ok_ints,toL_slc,Ep,hvhl,gh,hv1,ok_str,toS_str,Ew,hvwl,←hn,←hnh]
  have herr:¬goodC l→rr=V.tup [.agg [.slc false 35 (.agg [.slc false 2 (.int .i64 0) []]) [],.slc false 33 (.slc false 2 (.int .i64 0) []) []],.int .i64 6]:=fun h=>by rw [hr,hno h]
  have Qp:∀w:By,w.length≤2000000→F_q_prt (T w) 32:=fun w h=>by rw [←H_q_prt];exact ⟨by rw [T_size];exact h,32,rfl⟩
  refine ⟨by rw [←H_q_prt];exact ⟨hs',124,rfl⟩,Int.le_refl _,by omega,hv0,Qp _ (by omega),fun h=>(herr fun hg=> ?_).symm,fun h1=> ?_⟩
  ·have:=g124 hg
   have:=hg.1
   rw [←hws] at this
   omega
  refine hlp ((List V×List V)×Int) _ _ _ [0,2,4,5,6,7] (fun x=>[(0,none,.val (.str s)),(2,none,.val (.box 25 (.agg [.slc true 35 (.agg [.slc true 2 (.int .i64 0) []]) [],.slc true 33 (.slc true 2 (.int .i64 0) []) []]))),(4,none,.val (.slc true 9 (.str ⟨#[]⟩) vh)),(5,none,.val (.slc true 9 (.str ⟨#[]⟩) vw)),(6,none,.val (.box 25 (.agg [.slc true 35 (.agg [.slc false 2 (.int .i64 0) []]) x.1.1,.slc true 33 (.slc true 2 (.int .i64 0) []) x.1.2]))),(7,none,.val (.int .i64 x.2))])
   (fun x=>0≤x.2∧x.2≤n∧x.1.1=BB false (bsC (ws.take x.2.toNat))∧x.1.2=II true (List.replicate x.2.toNat (List.replicate ws.length 0))∧∀w∈ws.take x.2.toNat,(parB w).isSome=true) (fun x=>(n-x.2).toNat) ((([],[]),0)) (by subst hL;rfl) ?_ ?_
  ·exact ⟨by simp,by simp only;omega,rfl,rfl,fun w hw=>by cases hw⟩
  rintro ⟨⟨bs,ms⟩,x⟩ ⟨x0,x1,hB,hM,hok⟩ hfx ag hag
  simp only at x0 x1 hB hM hok
  obtain ⟨nx,hnx⟩:∃nx:Nat,nx=x.toNat:=⟨_,rfl⟩
  rw [←hnx] at hB hM hok
  have hbsl:bs.length=nx:=by rw [hB,BB_length,bsC_len,List.length_take];omega
  have hmsl:ms.length=nx:=by rw [hM,II_length,List.length_replicate]
  conv=>cbv
  simp only [stdEqs hL,imp_self,true_and,and_true,bif_or,bif_and,Bool.or_eq_true,Bool.or_eq_false_iff,Bool.and_eq_true,Bool.and_eq_false_iff,decide_eq_true_eq,decide_eq_false_iff_not,Bool.not_eq_true',Bool.not_eq_false',beq_iff_eq,beq_eq_false_iff_ne,ne_eq,toNat0,toNat1,ok_int,toI_int,I_frzs,I_length,I_getD,ok_ints,toL_slc,hvwl,hvhl,gh,gw,ok_str,toS_str,←hn,←hnx,←hnh,hbsl,hmsl]
  have Epb:∀w:By,F_f_pbr (T w)=resB (parB w):=fun w=>by rw [←H_f_pbr];rfl
  have hwr:∀k:Nat,k≤6→IntKind.wrap .i64 ((IntKind.wrap .i64 ((k:Int)*IntKind.wrap .i64 ((k:Int)-1))).tdiv 2)=((k*(k-1)/2:Nat):Int):=fun k hk=>by
   rcases (by omega:k=0∨k=1∨k=2∨k=3∨k=4∨k=5∨k=6) with rfl|rfl|rfl|rfl|rfl|rfl|rfl<;>decide
  have hwn:IntKind.wrap .i64 ((IntKind.wrap .i64 (n*IntKind.wrap .i64 (n-1))).tdiv 2)=((ws.length*(ws.length-1)/2:Nat):Int):=by rw [hn];exact hwr _ (by omega)
  rw [hwn]
  simp only [Epb]
  refine ⟨fun h2=> ?_,fun h2=> ?_⟩
  ·have hwm:ws.getD nx []∈ws:=by
    rw [List.getD_eq_getElem?_getD,List.getElem?_eq_getElem (by omega)]
    exact List.getElem_mem _
   have hI:List.replicate n.toNat (V.int .i64 0)=I (List.replicate ws.length 0):=by rw [I,List.map_replicate,hn];rfl
   refine ⟨x0,h2,by omega,by rw [←H_q_dig];show (T _).size≤2000000;rw [T_size];have:=hww _ hwm;omega,?_⟩
   cases hpw:parB (ws.getD nx []) with
   |none=>
    simp only [resB]
    refine ⟨fun _=>(herr fun hg=> ?_).symm,fun h=>absurd h (by omega)⟩
    have:=hg.2.1 (ws.getD nx []) (by rw [←hws];exact hwm)
    rw [hpw] at this
    cases this
   |some xs=>
    simp only [resB]
    refine ⟨fun h=>absurd trivial h,fun _=>⟨by simp only [List.length_cons,List.length_nil];omega,fun z hz=>by (simp only [List.mem_singleton] at hz;subst hz;rfl),by omega,Int.le_refl _,by omega,by simp only [List.length_cons,List.length_nil];omega,fun z hz=>by (simp only [List.mem_singleton] at hz;subst hz;rfl),?_⟩⟩
    rw [wrap_id (n:=x+1) (by omega) (by omega),hI]
    have htk:ws.take (nx+1)=ws.take nx++[ws.getD nx []]:=by
     rw [List.take_succ_eq_append_getElem (by omega),List.getD_eq_getElem?_getD,List.getElem?_eq_getElem (by omega)]
     rfl
    refine hag ((_,_),x+1) ⟨by simp only;omega,by simp only;omega,?_,?_,?_⟩ (by simp only;omega)
    ·simp only [toNat_succ x0,←hnx]
     rw [htk,bsC,List.map_append,List.map_singleton,hpw,Option.getD_some,hB,I_frzs]
     simp [BB,bsC]
    ·simp only [toNat_succ x0,←hnx]
     rw [hM,List.replicate_succ',II,II,List.map_append]
     rfl
    ·simp only [toNat_succ x0,←hnx]
     intro w hw
     rw [htk] at hw
     rcases List.mem_append.1 hw with hw|hw
     ·exact hok w hw
     ·rw [List.mem_singleton.1 hw,hpw];rfl
  clear hag hfx ag
  have hxe:nx=ws.length:=by omega
  rw [hxe,List.take_of_length_le (Nat.le_refl _)] at hB hok
  obtain ⟨nums,hnums⟩:∃nums,nums=nsC l:=⟨_,rfl⟩
  rw [hxe,tbS_zero _ nums,←hxe] at hM
  have hnx2:n=(nx:Int):=by omega
  rw [←hxe]
  have h6n:hv.length≤2∧ws.length≤6:=by omega
  refine ⟨fun h3=> ?a,fun h3=> ?b⟩
  case' a=>
   obtain ⟨hmo,hv1'⟩:=hv3 (by omega)
   have hnt:nums=(splitL 32 c.2.1).map numV:=by rw [hnums,nsC,numsC,←hc,if_pos hmo]
   obtain ⟨wn,hwn'⟩:∃wn,wn=splitL 32 c.2.1:=⟨_,rfl⟩
   rw [←hwn'] at hnt Ev
   have hwnl:∀w∈wn,w.length≤l.length:=fun w hw=>by
    rw [hwn'] at hw
    exact Nat.le_trans (split_wlen 32 _ w hw) hcl.2
   obtain ⟨vn,hvn'⟩:∃vn,vn=Zs wn:=⟨_,rfl⟩
   have hvnl:vn.length=wn.length:=by rw [hvn',Zs_length]
   have gvn:∀k,vn.getD k (.str ⟨#[]⟩)= .str (T (wn.getD k [])):=fun k=>by rw [hvn',Zs_getD]
   rw [hv1',Ev,←hvn',hvnl]
   refine ⟨by omega,by omega,by omega,Qp _ (by omega),by omega,fun h4=>(herr fun hg=> ?f).symm,fun h4=> ?c⟩
   case f=>
    have:=hg.2.2.1
    rw [←hws,←hnums,←hxe,hnt,List.length_map] at this
    exact h4 (by rw [this])
   have hl5:nums.length=nx*(nx-1)/2:=by
    rw [hnt,List.length_map]
    exact_mod_cast h4
   have gnum:∀k,k<wn.length→numV (wn.getD k [])=nums.getD k 0:=fun k hk=>by
    rw [hnt,List.getD_eq_getElem?_getD,List.getD_eq_getElem?_getD,List.getElem?_map,List.getElem?_eq_getElem hk]
    rfl
   have hwl6:wn.length=nums.length:=by rw [hnt,List.length_map]
   have h15:wn.length≤15:=by
    rw [hwl6,hl5]
    exact (show ∀n,n<7→n*(n-1)/2≤15 by decide) _ (by omega)
   have hval:∀w:By,F_f_val (T w)=numV w:=fun w=>by rw [←H_f_val,f_val];rfl
   clear h4 hnt hv1' Ev Ep Ew Epb hwr hwn
   refine hlp ((List V×Int)×Int) _ _ _ [0,2,5,6,10,11,12] (fun x=>[(0,none,.val (.str s)),(2,none,.val (.box 25 (.agg [.slc true 35 (.agg [.slc true 2 (.int .i64 0) []]) [],.slc true 33 (.slc true 2 (.int .i64 0) []) []]))),(5,none,.val (.slc true 9 (.str ⟨#[]⟩) vw)),(6,none,.val (.box 25 (.agg [.slc true 35 (.agg [.slc false 2 (.int .i64 0) []]) bs,.slc true 33 (.slc true 2 (.int .i64 0) []) x.1.1]))),(10,none,.val (.slc true 9 (.str ⟨#[]⟩) vn)),(11,none,.val (.int .i64 x.1.2)),(12,none,.val (.int .i64 x.2))])
    (fun x=>0≤x.2∧x.2≤n∧x.1.1=II true (T2 nx (tbS nx nums x.2.toNat 0))∧x.1.2=uL nx x.2.toNat) (fun x=>(n-x.2).toNat) (((ms,0),0)) (by subst hL;rfl) ?_ ?_
   ·exact ⟨by simp,by simp only;omega,hM,rfl⟩
   clear hM
   rintro ⟨⟨ms,p⟩,i⟩ ⟨i0,i1,hM,hp⟩ hfx ag hag
   simp only at i0 i1 hM hp
   obtain ⟨ni,hni⟩:∃ni:Nat,ni=i.toNat:=⟨_,rfl⟩
   rw [←hni] at hM hp
   conv=>cbv
   simp only [stdEqs hL,imp_self,true_and,and_true,bif_or,bif_and,Bool.or_eq_true,Bool.or_eq_false_iff,Bool.and_eq_true,Bool.and_eq_false_iff,decide_eq_true_eq,decide_eq_false_iff_not,Bool.not_eq_true',Bool.not_eq_false',beq_iff_eq,beq_eq_false_iff_ne,ne_eq,toNat0,toNat1,ok_int,toI_int,I_frzs,I_length,I_getD,ok_ints,toL_slc,←hni,hvwl,←hn]
   refine ⟨fun h6=> ?_,fun h6=> ?d⟩
   ·rw [wrap_id (n:=i+1) (by omega) (by omega)]
    refine hlp ((List V×Int)×Int) _ _ _ [0,2,5,6,10,11,12,13] (fun y=>[(0,none,.val (.str s)),(2,none,.val (.box 25 (.agg [.slc true 35 (.agg [.slc true 2 (.int .i64 0) []]) [],.slc true 33 (.slc true 2 (.int .i64 0) []) []]))),(5,none,.val (.slc true 9 (.str ⟨#[]⟩) vw)),(6,none,.val (.box 25 (.agg [.slc true 35 (.agg [.slc false 2 (.int .i64 0) []]) bs,.slc true 33 (.slc true 2 (.int .i64 0) []) y.1.1]))),(10,none,.val (.slc true 9 (.str ⟨#[]⟩) vn)),(11,none,.val (.int .i64 y.1.2)),(12,none,.val (.int .i64 i)),(13,none,.val (.int .i64 y.2))])
     (fun y=>i+1≤y.2∧y.2≤n∧y.1.1=II true (T2 nx (tbS nx nums ni y.2.toNat))∧y.1.2=((uL nx ni+(y.2.toNat-ni-1):Nat):Int)) (fun y=>(n-y.2).toNat) (((ms,p),i+1)) (by subst hL;rfl) ?_ ?_
    ·refine ⟨by simp,by simp only;omega,?_,?_⟩
     ·simp only
      rw [show (i+1).toNat=ni+1 by omega,←tbS_skip,hM]
     ·simp only
      rw [show (i+1).toNat=ni+1 by omega,show ni+1-ni-1=0 by omega,Nat.add_zero,hp]
    rintro ⟨⟨ms2,p2⟩,k⟩ ⟨k0,k1,hM2,hp2⟩ hfx2 ag2 hag2
    simp only at k0 k1 hM2 hp2
    obtain ⟨nk,hnk⟩:∃nk:Nat,nk=k.toNat:=⟨_,rfl⟩
    rw [←hnk] at hM2 hp2
    have hkx:¬k<n→nk=nx:=fun h=>by omega
    have hnn:ni<nx:=by omega
    have hi1:(i+1).toNat=ni+1:=by omega
    have hb1:0≤i+1∧i+1≤n∧(n-(i+1)).toNat<(n-i).toNat∧-9223372036854775808≤i+1∧i+1≤9223372036854775807:=by omega
    have hml2:ms2.length=nx:=by rw [hM2,II_length,T2_len]
    obtain ⟨v,hv⟩:∃v,v=tbV nx nums ni nk:=⟨_,rfl⟩
    obtain ⟨vr1,hvr1⟩:∃vr1,vr1=I ((T2 nx (tbS nx nums ni nk)).getD ni []):=⟨_,rfl⟩
    obtain ⟨vr2,hvr2⟩:∃vr2,vr2=I ((T2 nx (tbS nx nums ni nk)).getD nk []):=⟨_,rfl⟩
    obtain ⟨vr3,hvr3⟩:∃vr3,vr3=I ((T2 nx (tbH nx nums ni nk)).getD nk []):=⟨_,rfl⟩
    obtain ⟨ms3,hms3⟩:∃ms3,ms3=II true (T2 nx (tbH nx nums ni nk)):=⟨_,rfl⟩
    obtain ⟨ms4,hms4⟩:∃ms4,ms4=II true (T2 nx (tbS nx nums ni (nk+1))):=⟨_,rfl⟩
    obtain ⟨np,hnp⟩:∃np:Nat,np=uL nx ni+(nk-ni-1):=⟨_,rfl⟩
    rw [←hnp] at hp2
    have gms:ms2.getD ni (.slc true 2 (.int .i64 0) [])= .slc true 2 (.int .i64 0) vr1:=by rw [hM2,II_getD,hvr1]
    have gms2:ms2.getD nk (.slc true 2 (.int .i64 0) [])= .slc true 2 (.int .i64 0) vr2:=by rw [hM2,II_getD,hvr2]
    have gms3:ms3.getD nk (.slc true 2 (.int .i64 0) [])= .slc true 2 (.int .i64 0) vr3:=by rw [hms3,II_getD,hvr3]
    have okg:∀a:List V,Ax.vw stdV tab true 20 33 (.slc true 2 (.int .i64 0) a)=some (.slc true 2 (.int .i64 0) a):=fun a=>rfl
    obtain ⟨w1,hw1⟩:∃w1,vr1.getD nk (.int .i64 0)= .int .i64 w1:=⟨_,by rw [hvr1,I_getD]⟩
    obtain ⟨w3,hw3⟩:∃w3,vr3.getD ni (.int .i64 0)= .int .i64 w3:=⟨_,by rw [hvr3,I_getD]⟩
    have hml3:ms3.length=nx:=by rw [hms3,II_length,T2_len]
    have hr1:k<n→vr1.length=nx:=fun h=>by rw [hvr1,I_length,T2_row _ (by omega),tab_len]
    have hr2:k<n→vr2.length=nx:=fun h=>by rw [hvr2,I_length,T2_row _ (by omega),tab_len]
    have hr3:k<n→vr3.length=nx:=fun h=>by rw [hvr3,I_length,T2_row _ (by omega),tab_len]
    have hset1:k<n→ms2.set ni (.slc true 2 (.int .i64 0) (vr1.set nk (.int .i64 v)))=ms3:=fun h=>by
     rw [hM2,hms3,hvr1,hv,I_set,II_set,tbS_set1 nums (by omega) (by omega)]
    have hset2:k<n→ms3.set nk (.slc true 2 (.int .i64 0) (vr3.set ni (.int .i64 v)))=ms4:=fun h=>by
     rw [hms3,hvr3,hv,hms4,I_set,II_set,tbS_set2 nums (by omega) (by omega)]
    have hpl:k<n→np<wn.length:=fun h=>by
     have hul:=uL_lt nx (by omega) ni (by omega) nk (by omega) (by omega)
     omega
    have hvv:k<n→numV (wn.getD np [])=v:=fun h=>by rw [gnum _ (hpl h),hnp,hv,tbV]
    have Qd:k<n→F_q_dig (T (wn.getD np [])):=fun h=>by
     rw [←H_q_dig]
     show (T _).size≤2000000
     rw [T_size]
     have:=hwnl (wn.getD np []) (by
      rw [List.getD_eq_getElem?_getD,List.getElem?_eq_getElem (hpl h)]
      exact List.getElem_mem _)
     omega
    conv=>cbv
    simp only [stdEqs hL,imp_self,true_and,and_true,bif_or,bif_and,Bool.or_eq_true,Bool.or_eq_false_iff,Bool.and_eq_true,Bool.and_eq_false_iff,decide_eq_true_eq,decide_eq_false_iff_not,Bool.not_eq_true',Bool.not_eq_false',beq_iff_eq,beq_eq_false_iff_ne,ne_eq,toNat0,toNat1,ok_int,toI_int,I_frzs,I_length,I_getD,ok_ints,toL_slc,←hni,←hnk,hvwl,hvnl,gvn,hp2,Int.toNat_natCast,hml2,gms,gms2,hval,←hn,ok_str,toS_str]
    refine ⟨fun h7=> ?_,fun h7=> ?_⟩
    ·have hb2:i+1≤k+1∧k+1≤n∧(n-(k+1)).toNat<(n-k).toNat∧-9223372036854775808≤k+1∧k+1≤9223372036854775807∧(k+1).toNat=nk+1:=by omega
     have hul:=hpl h7
     have hb3: -9223372036854775808≤(np:Int)+1∧(np:Int)+1≤9223372036854775807:=by omega
     rw [wrap_id (n:=k+1) hb2.2.2.2.1 hb2.2.2.2.2.1,wrap_id (n:=(np:Int)+1) hb3.1 hb3.2]
     simp only [hvv h7,hset1 h7,gms2,gms3,okg,hml3,hr1 h7,hr2 h7,hw1,stdEqs hL,imp_self,true_and,and_true,bif_or,bif_and,Bool.or_eq_true,Bool.or_eq_false_iff,Bool.and_eq_true,Bool.and_eq_false_iff,decide_eq_true_eq,decide_eq_false_iff_not,Bool.not_eq_true',Bool.not_eq_false',beq_iff_eq,beq_eq_false_iff_ne,ne_eq,toNat0,toNat1,ok_int,toI_int,I_frzs,I_length,I_getD,ok_ints,toL_slc,hr3 h7,hw3,hset2 h7]
     have hnp1:((np:Int)+1)=((uL nx ni+(nk+1-ni-1):Nat):Int):=by omega
     clear hnp hp2 hp
     refine ⟨by omega,by omega,by omega,Qd h7,?_⟩
     repeat (refine And.intro (by omega) ?_)
     refine hag2 ((ms4,(np:Int)+1),k+1) ⟨hb2.1,hb2.2.1,?_,?_⟩ hb2.2.2.1
     ·show ms4=II true (T2 nx (tbS nx nums ni (k+1).toNat))
      rw [hms4,hb2.2.2.2.2.2]
     ·show (np:Int)+1=((uL nx ni+((k+1).toNat-ni-1):Nat):Int)
      rw [hb2.2.2.2.2.2,hnp1]
    ·rw [wrap_id (n:=i+1) hb1.2.2.2.1 hb1.2.2.2.2]
     refine hag ((ms2,(np:Int)),i+1) ⟨hb1.1,hb1.2.1,?_,?_⟩ hb1.2.2.1
     ·show ms2=II true (T2 nx (tbS nx nums (i+1).toNat 0))
      rw [hi1,hM2,hkx h7,tbS_row]
     ·show (np:Int)=(uL nx (i+1).toNat:Int)
      rw [hi1,hnp,hkx h7,uL_end hnn]
   have hie:ni=nx:=by omega
   rw [hie,tbS_all] at hM
   have hgd:=with_more (l:=l) (by rw [←hws];omega) (by rw [←hws];exact hok) (by rw [←hws,←hnums,←hxe];exact hl5)
   rw [←hws,←hnums,←hxe,tabC] at hgd
   have hgt:goodC l→T2 nx (tbe nx nums)=tabC nx nums:=fun _=>rfl
   have htl:=T2_len nx (tbe nx nums)
   have htr:=T2_rows (n:=nx) (tbe nx nums)
   obtain ⟨tt,htt⟩:∃tt,tt=T2 nx (tbe nx nums):=⟨_,rfl⟩
   rw [←htt] at hgd hM htl htr hgt
  case' b=>
   have hmo:=hv2 (by omega)
   obtain ⟨hgd,hgt⟩:=no_more (l:=l) (by rw [←hws];omega) (by rw [←hc];exact hmo) (by rw [←hws];exact hok)
   rw [←hws,←hnums,←hxe] at hgd hgt
   have htl:=T2_len nx (tbS nx nums 0 0)
   have htr:=T2_rows (n:=nx) (tbS nx nums 0 0)
   obtain ⟨tt,htt⟩:∃tt,tt=T2 nx (tbS nx nums 0 0):=⟨_,rfl⟩
   rw [←htt] at hgd hM htl htr hgt
  all_goals
   rw [hK1]
   clear hK1
   have E1:F_f_isCv (V.frzs bs) (V.frzs ms)=isCv (bsC ws) tt:=by rw [←H_f_isCv,hB,hM,BB_frzs,II_frzs,f_isCv,unBB_BB,unII_II]
   have E2:F_f_cvT (V.frzs bs) (V.frzs ms)=T (cvT (bsC ws) tt):=by rw [←H_f_cvT,hB,hM,BB_frzs,II_frzs,f_cvT,unBB_BB,unII_II]
   have QC:q_C (V.frzs bs) (V.frzs ms):=by
    rw [hB,hM,BB_frzs,II_frzs]
    exact ⟨⟨_,rfl,by rw [bsC_len];omega,bsC_rows hok⟩,⟨_,rfl,by omega,fun xs hx=>by rw [htr xs hx];omega⟩⟩
   have QT:isCv (bsC ws) tt=true→F_q_cvT (V.frzs bs) (V.frzs ms):=fun h=>by
    rw [←H_q_cvT]
    refine ⟨QC,?_,?_⟩
    ·rw [hB,hM,BB_frzs,II_frzs,f_isCv,unBB_BB,unII_II];exact h
    ·rw [hB,BB_frzs,unBB_BB]
     intro xs hx
     have:=(br_of (bsC_br hok xs hx)).len
     omega
   conv=>cbv
   simp only [stdEqs hL,imp_self,true_and,and_true,bif_or,bif_and,Bool.or_eq_true,Bool.or_eq_false_iff,Bool.and_eq_true,Bool.and_eq_false_iff,decide_eq_true_eq,decide_eq_false_iff_not,Bool.not_eq_true',Bool.not_eq_false',beq_iff_eq,beq_eq_false_iff_ne,ne_eq,toNat0,toNat1,ok_int,toI_int,I_frzs,I_length,I_getD,ok_ints,toL_slc,E1,E2]
   have hls:(T (cvT (bsC ws) tt)).toList=s.toList↔cvT (bsC ws) tt=l:=by
    rw [T_list,show s.toList=l from by rw [hsl,T_list]]
   rw [hls]
   refine ⟨by rw [←H_q_C];exact QC,QT,fun h=>(herr fun hg=> ?_).symm,fun h=> ?_⟩
   ·obtain ⟨g1,g2⟩:=hgd.1 hg
    rcases h with h|h
    ·rw [g1] at h;cases h
    ·exact h g2
   ·have hg:=hgd.2 h
    rw [hr,hyes hg,hB,hM,BB_frzs,II_frzs,←hws,←hnums,←hxe,hgt hg]
 ·cases h
end Go.Ax
