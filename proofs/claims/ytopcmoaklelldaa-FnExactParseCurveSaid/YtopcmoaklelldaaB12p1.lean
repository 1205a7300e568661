import Derived.Test.YtopcmoaklelldaaB11p1
import Derived.Test.YtopcmoaklelldaaB08p1
/-
 The reference's ParseBranch. No conditions but those of the contracts.
-/
set_option linter.all false
namespace Go.Ax
open Go.Proofs
theorem halves (m:By):(splitL 59 m=[m]∧termsB (cutL 59 m)=[numV m])∨(∃a b,m=a++59::b∧splitL 59 m=[a,b]∧termsB (cutL 59 m)=numV a::(splitL 44 b).map numV)∨(2<(splitL 59 m).length∧isBr (termsB (cutL 59 m))=false):=by
 rcases cut_cases 59 m with ⟨h1,h2,h3⟩|⟨a,b,h1,h2,h3,h4⟩
 ·exact .inl ⟨h3,by rw [h2,termsB,if_neg (by simp)]⟩
 ·refine .inr ?_
  have ht:termsB (cutL 59 m)=numV a::(splitL 44 b).map numV:=by rw [h3,termsB,if_pos rfl]
  by_cases hb:(59:UInt8)∈b
  ·refine .inr ⟨?_,?_⟩
   ·rw [h4,List.length_cons]
    obtain ⟨x,y,e,hx⟩:∃x y,b=x++59::y∧(59:UInt8)∉x:=by
     rcases cut_cases 59 b with ⟨k1,_⟩|⟨x,y,k1,k2,_⟩
     ·exact absurd hb k1
     ·exact ⟨x,y,k1,k2⟩
    have:=List.length_pos_iff.2 (split_ne 59 y)
    rw [e,split_at y hx,List.length_cons]
    omega
   ·obtain ⟨w,hw,hd⟩:=split_mem (c:=44) (d:=59) (by decide) hb
    cases e:isBr (termsB (cutL 59 m)) with
    |false=>rfl
    |true=>
     have h5:=(isBr_in e (numV w) (by rw [ht];exact List.mem_cons_of_mem _ (List.mem_map_of_mem hw))).1
     rw [numV,if_neg (by rw [canon_no hd (by decide)];simp)] at h5
     omega
  ·exact .inl ⟨a,b,h1,by rw [h4,split_none hb],ht⟩
theorem dcm_ok {w:By} (h:1≤numV w):dcm (numV w)=w:=dcm_num (num_pos (by omega))
theorem map_dcm:∀{ws:List By},(∀w∈ws,1≤numV w)→(ws.map numV).map dcm=ws
 |[],_=>rfl
 |w::ws,h=>by
  rw [List.map_cons,List.map_cons,dcm_ok (h w (List.mem_cons_self ..)),map_dcm fun v hv=>h v (List.mem_cons_of_mem _ hv)]
theorem sep_words {b:By} (h:∀w∈splitL 44 b,1≤numV w):sepS 59 ((splitL 44 b).map numV)=59::b:=by
 have hj:=join_split 44 b
 have hm:=map_dcm h
 cases e:splitL 44 b with
 |nil=>exact absurd e (split_ne 44 b)
 |cons w ws=>
  rw [e] at hj hm
  rw [List.map_cons] at hm ⊢
  rw [sepS_join,hm,hj]
theorem text_of {m:By} (h:isBr (termsB (cutL 59 m))=true):brT (termsB (cutL 59 m))=40::(m++[41]):=by
 have hi:=isBr_in h
 rcases halves m with ⟨_,h2⟩|⟨a,b,h1,_,h2⟩|⟨_,h2⟩
 ·rw [h2] at hi ⊢
  have:=dcm_ok (hi _ (List.mem_cons_self ..)).1
  simp only [brT,List.getD_cons_zero,List.drop_succ_cons,List.drop_zero,sepS,this,List.nil_append]
 ·rw [h2] at hi ⊢
  have e1:=dcm_ok (hi _ (List.mem_cons_self ..)).1
  have e2:=sep_words (b:=b) fun w hw=>(hi _ (List.mem_cons_of_mem _ (List.mem_map_of_mem hw))).1
  simp only [brT,List.getD_cons_zero,List.drop_succ_cons,List.drop_zero,e1,e2]
  rw [h1]
  simp
 ·rw [h] at h2;cases h2
theorem inn_eq {l:By} (h:2≤l.length) (h1:l.getD 0 0=40) (h2:l.getD (l.length-1) 0=41):l=40::(innB l++[41]):=by
 obtain ⟨x,r,rfl⟩:∃x r,l=x::r:=by
  cases l with
  |nil=>simp at h
  |cons x r=>exact ⟨x,r,rfl⟩
 rw [List.getD_cons_zero] at h1
 rw [List.length_cons] at h
 have hr:r≠[]:=fun e=>by rw [e] at h;simp at h
 have hl:r.getLast hr=41:=by
  rw [List.length_cons,Nat.add_sub_cancel,List.getD_eq_getElem?_getD,List.getElem?_eq_getElem (by simp)] at h2
  rw [List.getLast_eq_getElem]
  have:r.length=(r.length-1)+1:=by have:=List.length_pos_iff.2 hr;omega
  simp only [List.getElem_cons] at h2
  split at h2
  ·omega
  ·simpa using h2
 have hk:innB (x::r)=r.dropLast:=by
  rw [innB,List.length_cons,Nat.add_sub_cancel,List.dropLast_eq_take]
  have:r.length=(r.length-1)+1:=by have:=List.length_pos_iff.2 hr;omega
  rw [this,List.take_succ_cons,List.drop_succ_cons,List.drop_zero,Nat.add_sub_cancel]
 rw [hk,h1,←hl,List.dropLast_concat_getLast hr]
theorem par_of {l:By} (h:2≤l.length) (h1:l.getD 0 0=40) (h2:l.getD (l.length-1) 0=41):parB l=if isBr (termsB (cutL 59 (innB l)))=true then some (termsB (cutL 59 (innB l))) else none:=by
 rw [parB]
 by_cases e:isBr (termsB (cutL 59 (innB l)))=true
 ·have h3:3≤l.length:=by
   refine Nat.lt_of_le_of_ne h fun h3=> ?_
   have hm:innB l=[]:=by rw [innB,←h3];exact List.drop_eq_nil_of_le (by rw [List.length_take];omega)
   rw [hm] at e
   revert e
   decide
  rw [if_pos e,if_pos ⟨⟨h3,h1,h2⟩,e⟩]
 ·rw [if_neg e,if_neg (fun h2=>e h2.2)]
set_option maxHeartbeats 1000000 in
set_option maxRecDepth 100000 in
theorem s_spec_ParseBranch:Sat Try.prog 10 (c_s_Bi f_pbr q_dig):=by
 intro args ps r h hp
 unfold c_s_Bi at h
 split at h
 ·rename_i s
  simp only [Option.some.injEq,Prod.mk.injEq] at h
  obtain ⟨rfl,rfl⟩:=h
  have hs:q_dig s:=(alls_cons.1 hp).1
  have hs':s.size≤2000000:=hs
  obtain ⟨l,hl⟩:∃l,l=s.data.toList:=⟨_,rfl⟩
  have hsl:s=T l:=by rw [hl];exact T_of s
  have hsz:s.size=l.length:=by rw [hsl,T_size]
  have hf0:f_pbr s=resB (parB l):=by rw [f_pbr,←hl]
  obtain ⟨n,hn⟩:∃n:Int,n=l.length:=⟨_,rfl⟩
  have gs:∀i,s.data.getD i 0=l.getD i 0:=fun i=>by rw [hsl,T_get]
  generalize H_f_wrd:f_wrd=F_f_wrd
  generalize H_q_prt:q_prt=F_q_prt
  generalize H_f_val:f_val=F_f_val
  generalize H_q_dig:q_dig=F_q_dig
  generalize H_f0_isBr:f0_isBr=F_f0_isBr
  generalize H_IsIs:IsIs=F_IsIs
  generalize H_f_brT:f_brT=F_f_brT
  generalize H_q_brT:q_brT=F_q_brT
  refine fnOk_ofI (T:=tab) (B:=[(9,c_sc_z F_f_wrd F_q_prt),(11,c_s_i7 F_f_val F_q_dig),(26,c_b_bool F_f0_isBr F_IsIs),(27,c_B_s F_f_brT F_q_brT)]) (Bi:=[]) [0,2,3,4,5,6,7,8] Try.func10 rfl rfl (by kernel_rfl) (Nat.le_of_ble_eq_true rfl) mixed tabOk (by subst H_f_wrd H_q_prt H_f_val H_q_dig H_f0_isBr H_IsIs H_f_brT H_q_brT;exact (bookCons s_spec_l01Split (bookCons s_spec_l01Value (bookCons s_spec_l03Is (bookCons s_spec_l03Text bookNil))))) (by subst H_f_wrd H_q_prt H_f_val H_q_dig H_f0_isBr H_IsIs H_f_brT H_q_brT;exact bookINil) (by kernel_rfl) ?_
  intro L lp rr hL hr hf hlp
  conv=>cbv
  simp only [stdEqs hL,imp_self,true_and,and_true,bif_or,bif_and,Bool.or_eq_true,Bool.or_eq_false_iff,Bool.and_eq_true,Bool.and_eq_false_iff,decide_eq_true_eq,decide_eq_false_iff_not,Bool.not_eq_true',Bool.not_eq_false',beq_iff_eq,beq_eq_false_iff_ne,ne_eq,toNat0,toNat1,ok_int,toI_int,I_frzs,I_length,I_getD,ok_ints,toL_slc,hsz,←hn,gs]
  by_cases hn2:n<2
  ·refine ⟨fun h=>absurd hn2 h,fun h=>absurd hn2 h,fun h=>absurd hn2 h.1,fun h=>absurd hn2 h.1,fun _=> ?_,fun h=>absurd hn2 h.1.1⟩
   rw [hr,hf0,parB,if_neg (fun h=>by have:=h.1.1;omega)]
   rfl
  have hw:IntKind.wrap .i64 (n-1)=n-1:=wrap_id (by omega) (by omega)
  have hex:s.extract 1 (n-1).toNat=T (innB l):=by rw [hsl,T_ext,innB,show (n-1).toNat=l.length-1 by omega]
  rw [hw,hex]
  have b40:((l.getD 0 0).toNat:Int)=40↔l.getD 0 0=40:=byte_eq l 0 40
  have b41:((l.getD (n-1).toNat 0).toNat:Int)=41↔l.getD (l.length-1) 0=41:=by
   rw [show (n-1).toNat=l.length-1 by omega]
   exact byte_eq l _ 41
  rw [b40,b41]
  have hml:(innB l).length≤l.length:=by rw [innB,List.length_drop,List.length_take];omega
  obtain ⟨hv,hhv⟩:∃hv,hv=splitL 59 (innB l):=⟨_,rfl⟩
  have Ew:F_f_wrd (T (innB l)) 59=Zs hv:=by rw [←H_f_wrd,hhv];rfl
  rw [Ew]
  simp only [Zs_length,Zs_getD,ok_str,toS_str]
  have hvl:0<hv.length:=by
   rw [hhv]
   exact List.length_pos_iff.2 (split_ne 59 _)
  have Qm:∀w:By,w.length≤l.length→F_q_dig (T w):=fun w hw=>by rw [←H_q_dig];show (T w).size≤2000000;rw [T_size];omega
  have hvw:∀w∈hv,w.length≤l.length:=fun w hw=>by
   rw [hhv] at hw
   exact Nat.le_trans (split_wlen 59 _ w hw) hml
  have hget:∀k,k<hv.length→hv.getD k []∈hv:=fun k hk=>by
   rw [List.getD_eq_getElem?_getD,List.getElem?_eq_getElem hk]
   exact List.getElem_mem _
  refine ⟨fun _=>Int.le_refl _,fun _=>by omega,fun _=>by omega,fun _=>by omega,fun h=> ?_,fun h=>⟨by omega,by omega,by omega,?_,Int.le_refl _,by omega,hvl,trivial,Qm _ (hvw _ (hget 0 hvl)),?_⟩⟩
  ·rw [hr,hf0,parB,if_neg (fun h2=>by
    have:=h2.1
    rcases h with (h|h)|h
    ·omega
    ·exact h this.2.1
    ·exact h this.2.2)]
   rfl
  ·rw [←H_q_prt];exact ⟨by rw [T_size];omega,59,rfl⟩
  have hpar:=par_of (l:=l) (by omega) h.1.2 h.2
  have hlt:isBr (termsB (cutL 59 (innB l)))=true→brT (termsB (cutL 59 (innB l)))=l:=fun h2=>by
   rw [text_of h2];exact (inn_eq (by omega) h.1.2 h.2).symm
  have hcs:=halves (innB l)
  rw [←hhv] at hcs
  obtain ⟨ts,hts⟩:∃ts,ts=termsB (cutL 59 (innB l)):=⟨_,rfl⟩
  rw [←hts] at hpar hlt hcs
  have hno:isBr ts=false→rr=V.tup [.agg [.slc true 2 (.int .i64 0) []],.int .i64 6]:=fun e=>by
   rw [hr,hf0,hpar,if_neg (by rw [e];simp)]
   rfl
  have hyes:isBr ts=true→rr=V.tup [.agg [.slc true 2 (.int .i64 0) (I ts)],.int .i64 0]:=fun e=>by
   rw [hr,hf0,hpar,if_pos e]
   rfl
  have fin:∀xs:List Int,xs.length≤2000002→(¬2<hv.length→ts=xs)→(¬(2:Int)<hv.length→F_IsIs (I xs))∧(¬(2:Int)<hv.length∧F_f0_isBr (I xs)=true→F_q_brT (I xs))∧(((2:Int)<hv.length∨F_f0_isBr (I xs)=false)∨¬(F_f_brT (I xs)).toList=s.toList→V.tup [.agg [.slc true 2 (.int .i64 0) []],.int .i64 6]=rr)∧((¬(2:Int)<hv.length∧F_f0_isBr (I xs)=true)∧(F_f_brT (I xs)).toList=s.toList→V.tup [.agg [.slc true 2 (.int .i64 0) (I xs)],.int .i64 0]=rr):=fun xs hxl hx=>by
   have Eb:F_f0_isBr (I xs)=isBr xs:=by rw [←H_f0_isBr,f0_isBr,unI_I]
   have Et:F_f_brT (I xs)=T (brT xs):=by rw [←H_f_brT,f_brT,unI_I]
   rw [Eb,Et]
   refine ⟨fun _=>by rw [←H_IsIs];exact ⟨⟨xs,rfl⟩,by rw [I_length];omega⟩,fun h2=> ?_,fun h2=> ?_,fun h2=> ?_⟩
   ·rw [←H_q_brT]
    have hi:=isBr_in h2.2
    refine ⟨xs,rfl,fun e=> ?_,?_,fun x hx2=>by have:=hi x hx2;omega⟩
    ·rw [e] at h2;simp [isBr] at h2
    ·omega
   ·refine (hno ?_).symm
    rcases hcs with ⟨k1,_⟩|⟨a,b,_,k1,_⟩|⟨_,k2⟩
    all_goals first|exact k2|skip
    all_goals
     have hle:¬2<hv.length:=by rw [k1];simp
     rcases h2 with (h2|h2)|h2
     ·omega
     ·rw [hx hle];exact h2
     ·cases e:isBr ts with
      |false=>rfl
      |true=>exact absurd (by rw [←hx hle,hlt e,←hsl]) h2
   ·have hle:¬2<hv.length:=by have:=h2.1.1;omega
    rw [←hx hle] at h2 ⊢
    exact (hyes h2.1.2).symm
  have Ev:∀w:By,F_f_val (T w)=numV w:=fun w=>by rw [←H_f_val];rfl
  have ei1:∀x:Int,[V.int .i64 x]=I [x]:=fun x=>rfl
  have hv0:ts=numV (hv.getD 0 [])::((if hv.length=2 then (splitL 44 (hv.getD 1 [])).map numV else []))∨2<hv.length:=by
   rcases hcs with ⟨k1,k2⟩|⟨a,b,_,k1,k2⟩|⟨k2,_⟩
   ·rw [k1,k2];exact .inl rfl
   ·rw [k1,k2];exact .inl rfl
   ·exact .inr k2
  refine ⟨fun h2=> ?_,fun h2=> ?_⟩
  ·obtain ⟨wb,hwb⟩:∃wb,wb=hv.getD 1 []:=⟨_,rfl⟩
   have hwbl:wb.length≤l.length:=by rw [hwb];exact hvw _ (hget 1 (by omega))
   obtain ⟨ws,hws⟩:∃ws,ws=splitL 44 wb:=⟨_,rfl⟩
   have Ew2:F_f_wrd (T wb) 44=Zs ws:=by rw [←H_f_wrd,hws];rfl
   rw [←hwb]
   rw [Ew2,Ev,ei1]
   refine ⟨by omega,by omega,by omega,trivial,by rw [←H_q_prt];exact ⟨by rw [T_size];omega,44,rfl⟩,?_⟩
   obtain ⟨vw,hvw2⟩:∃vw,vw=Zs ws:=⟨_,rfl⟩
   obtain ⟨vz,hvz⟩:∃vz,vz=Zs hv:=⟨_,rfl⟩
   rw [←hvw2,←hvz]
   have hvzl:vz.length=hv.length:=by rw [hvz,Zs_length]
   have hvwl:vw.length=ws.length:=by rw [hvw2,Zs_length]
   obtain ⟨x0,hx0⟩:∃x0,x0=numV (hv.getD 0 []):=⟨_,rfl⟩
   rw [←hx0]
   refine hlp (List V×Int) _ _ _ [0,2,3,5,6,7,8] (fun x=>[(0,none,.val (.str s)),(2,none,.val (.box 35 (.agg [.slc true 2 (.int .i64 0) []]))),(3,none,.val (.int .i64 0)),(5,none,.val (.slc true 9 (.str ⟨#[]⟩) vz)),(6,none,.val (.box 35 (.agg [.slc true 2 (.int .i64 0) x.1]))),(7,none,.val (.slc true 9 (.str ⟨#[]⟩) vw)),(8,none,.val (.int .i64 x.2))])
    (fun x=>0≤x.2∧x.2≤ws.length∧x.1=I (x0::(ws.take x.2.toNat).map numV)) (fun x=>(ws.length-x.2).toNat) ((I [x0],0)) (by subst hL;rfl) ?_ ?_
   ·exact ⟨by simp,by simp,rfl⟩
   rintro ⟨es,x⟩ ⟨y0,y1,hes⟩ hfx ag hag
   simp only at y0 y1 hes
   conv=>cbv
   have gw:∀k,vw.getD k (.str ⟨#[]⟩)= .str (T (ws.getD k [])):=fun k=>by rw [hvw2,Zs_getD]
   have hel:es.length=1+x.toNat:=by
    rw [hes,I_length,List.length_cons,List.length_map,List.length_take];omega
   have hwsl:ws.length≤l.length+1:=by
    have:=split_len 44 wb
    rw [hws];omega
   simp only [stdEqs hL,imp_self,true_and,and_true,bif_or,bif_and,Bool.or_eq_true,Bool.or_eq_false_iff,Bool.and_eq_true,Bool.and_eq_false_iff,decide_eq_true_eq,decide_eq_false_iff_not,Bool.not_eq_true',Bool.not_eq_false',beq_iff_eq,beq_eq_false_iff_ne,ne_eq,toNat0,toNat1,ok_int,toI_int,I_frzs,I_length,I_getD,ok_ints,toL_slc,hvzl,hvwl,gw,ok_str,toS_str,Ev,true_and,and_true]
   refine ⟨fun h3=>⟨y0,h3,by omega,?_⟩,fun h3=> ?_⟩
   ·have hxm:ws.getD x.toNat []∈ws:=by
     rw [List.getD_eq_getElem?_getD,List.getElem?_eq_getElem (by omega)]
     exact List.getElem_mem _
    refine ⟨Qm _ (Nat.le_trans (split_wlen 44 wb _ (by rw [←hws];exact hxm)) hwbl),rfl,?_,fun v hv=> ?_,?_⟩
    ·rw [List.length_singleton];omega
    ·simp only [List.mem_singleton] at hv;rw [hv];rfl
    ·rw [wrap_id (n:=x+1) (by omega) (by omega),hes,ei1,I_append]
     refine hag (_,x+1) ⟨by simp only;omega,by simp only;omega,?_⟩ (by simp only;omega)
     simp only [toNat_succ y0]
     rw [List.take_succ_eq_append_getElem (by omega),List.map_append,List.getD_eq_getElem?_getD,List.getElem?_eq_getElem (by omega)]
     rfl
   ·rw [hes,List.take_of_length_le (by omega),I_frzs]
    refine fin _ ?_ fun h4=> ?_
    ·rw [List.length_cons,List.length_map];omega
    ·rcases hv0 with hv0|hv0
     ·rw [hv0,if_pos (by omega),←hwb,←hws,←hx0]
     ·exact absurd hv0 h4
  ·rw [Ev,ei1,I_frzs]
   refine fin [numV (hv.getD 0 [])] (by simp) fun h3=> ?_
   rcases hv0 with hv0|hv0
   ·rw [hv0,if_neg (by omega)]
   ·exact absurd hv0 h3
 ·cases h
end Go.Ax
set_option linter.all false
namespace Go.Ax
open Go.Proofs
structure Gr (ws:List Int) (es:List (List Int)):Prop where
 is:isGr ws es=true
 n1:1≤ws.length
 n2:ws.length≤40
 wlo:∀i,i<ws.length→-1000≤ws.getD i 0∧ws.getD i 0≤1000
 eok:edsOk ws.length none es=true
 ed:∀e∈es,EdIn ws.length e
 lt:∀e∈es,e0 e<e1 e
 el:es.length<ws.length
 acyc:acy (iota ws.length) es=true
def adj (es:List (List Int)) (i j:Nat):Bool:=es.any fun e=>(e0 e==i&&e1 e==j)||(e0 e==j&&e1 e==i)
def ent (ws:List Int) (es:List (List Int)) (i j:Nat):Int:=if i=j then ws.getD i 0 else if adj es i j=true then 1 else 0
theorem tab_set {α:Type} (f:Nat→α) (n i:Nat) (y:α):(tab' f n).set i y=tab' (fun j=>if j=i then y else f j) n:=by
 apply List.ext_getElem?
 intro j
 by_cases hj:j<n
 ·rw [tab_get? _ _ _ hj,List.getElem?_set]
  by_cases hij:i=j
  ·subst hij
   rw [if_pos rfl,if_pos (by rw [tab_len];exact hj),if_pos rfl]
  ·rw [if_neg hij,tab_get? _ _ _ hj,if_neg (fun h=>hij h.symm)]
 ·rw [List.getElem?_eq_none (by rw [List.length_set,tab_len];omega),List.getElem?_eq_none (by rw [tab_len];omega)]
end Go.Ax
set_option linter.all false
namespace Go.Ax
open Go.Proofs
def stp (a b:Nat):List (Nat×Nat):=if _h:0<b then (a/b,b)::stp b (a%b) else []
termination_by b
decreasing_by exact Nat.mod_lt _ (by assumption)
theorem stp_pos {a b:Nat} (h:0<b):stp a b=(a/b,b)::stp b (a%b):=by rw [stp,dif_pos h]
theorem stp_zero (a:Nat):stp a 0=[]:=by rw [stp,dif_neg (by omega)]
def ex (a b:Nat):List Nat:=(stp a b).flatMap fun p=>List.replicate p.1 p.2
theorem ex_pos {a b:Nat} (h:0<b):ex a b=List.replicate (a/b) b++ex b (a%b):=by rw [ex,stp_pos h,List.flatMap_cons,ex]
theorem ex_zero (a:Nat):ex a 0=[]:=by rw [ex,stp_zero];rfl
def hd1 (l:List Nat):Nat:=l.getD 0 1
def Fol (b:Nat) (l:List Nat):Prop:=hd1 l≤b∧(hd1 l<b→∃c r,b=c*hd1 l+r∧r<hd1 l∧1≤c∧(∀t,t<c→l.getD t 1=hd1 l)∧(0<r→l.getD c 1=r))
def GL:List Nat→Prop
 |[]=>True
 |x::l=>1≤x∧Fol x l∧GL l
theorem GL_rep {b:Nat} {l:List Nat} (hb:1≤b) (hf:Fol b l) (hg:GL l):∀q,GL (List.replicate q b++l)∧Fol b (List.replicate q b++l)
 |0=>⟨by simpa using hg,by simpa using hf⟩
 |q+1=>by
  obtain ⟨h1,h2⟩:=GL_rep hb hf hg q
  rw [List.replicate_succ,List.cons_append]
  refine ⟨⟨hb,h2,h1⟩,?_⟩
  have:hd1 (b::(List.replicate q b++l))=b:=rfl
  exact ⟨by rw [this];exact Nat.le_refl _,fun h=>by rw [this] at h;exact absurd h (Nat.lt_irrefl _)⟩
theorem getD_rep (q b:Nat) (l:List Nat) (t d:Nat):(List.replicate q b++l).getD t d=if t<q then b else l.getD (t-q) d:=by
 by_cases h:t<q
 ·rw [if_pos h,List.getD_eq_getElem?_getD,List.getElem?_append_left (by simpa using h)]
  simp [h]
 ·rw [if_neg h,List.getD_eq_getElem?_getD,List.getElem?_append_right (by simpa using h)]
  simp
theorem ex_hd {b r:Nat} (hr:0<r) (h:r≤b) (l:List Nat):(ex b r++l).getD 0 1=r:=by
 rw [ex_pos hr,List.append_assoc,getD_rep,if_pos (Nat.div_pos h hr)]
theorem ex_good:∀(n b r:Nat) (l:List Nat),b≤n→r<b→GL l→Fol (Nat.gcd b r) l→GL (ex b r++l)∧Fol b (ex b r++l)
 |0,b,r,l,hn,hr,_,_=>by omega
 |n+1,b,r,l,hn,hr,hg,hf=>by
  by_cases h0:0<r
  ·have h1:b%r<r:=Nat.mod_lt _ h0
   have h2:Nat.gcd r (b%r)=Nat.gcd b r:=by rw [Nat.gcd_comm b r,Nat.gcd_rec r b,Nat.gcd_comm]
   obtain ⟨i1,i2⟩:=ex_good n r (b%r) l (by omega) h1 hg (by rw [h2];exact hf)
   obtain ⟨j1,_⟩:=GL_rep (by omega) i2 i1 (b/r)
   have hq:0<b/r:=Nat.div_pos (by omega) h0
   rw [ex_pos h0,List.append_assoc]
   have hh:hd1 (List.replicate (b/r) r++(ex r (b%r)++l))=r:=by rw [hd1,getD_rep,if_pos hq]
   refine ⟨j1,by rw [hh];omega,fun _=>⟨b/r,b%r,?_,by rw [hh];exact h1,hq,fun t ht=>by rw [hh,getD_rep,if_pos ht],fun hrr=> ?_⟩⟩
   ·rw [hh,Nat.mul_comm]
    exact (Nat.div_add_mod b r).symm
   ·rw [getD_rep,if_neg (Nat.lt_irrefl _),Nat.sub_self]
    exact ex_hd hrr (by omega) l
  ·obtain rfl:r=0:=by omega
   rw [ex_zero,List.nil_append]
   rw [Nat.gcd_zero_right] at hf
   exact ⟨hg,hf⟩
def blocks:List (Nat×Nat)→List Nat
 |[]=>[]
 |(k,e)::l=>ex k e++blocks l
def Chain:Nat→List (Nat×Nat)→Prop
 |g,[]=>g=1
 |g,(k,e)::l=>e=g∧0<e∧Chain (Nat.gcd e k) l
theorem blocks_good:∀(l:List (Nat×Nat)) (g:Nat),Chain g l→GL (blocks l)∧Fol g (blocks l)
 |[],g,h=>by
  have:g=1:=h
  subst this
  exact ⟨trivial,Nat.le_refl _,fun h=>absurd h (Nat.lt_irrefl _)⟩
 |(k,e)::l,g,h=>by
  obtain ⟨rfl,h1,h2⟩:=h
  obtain ⟨i1,i2⟩:=blocks_good l _ h2
  have h3:Nat.gcd e (k%e)=Nat.gcd e k:=by rw [Nat.gcd_comm e (k%e),←Nat.gcd_rec]
  obtain ⟨j1,j2⟩:=ex_good e e (k%e) (blocks l) (Nat.le_refl _) (Nat.mod_lt _ h1) i1 (by rw [h3];exact i2)
  have:=GL_rep h1 j2 j1 (k/e)
  rw [blocks,ex_pos h1,List.append_assoc]
  exact this
theorem GL_at:∀(l:List Nat),GL l→∀i,1≤l.getD i 1∧l.getD (i+1) 1≤l.getD i 1∧(l.getD (i+1) 1<l.getD i 1→∃c r,l.getD i 1=c*l.getD (i+1) 1+r∧r<l.getD (i+1) 1∧1≤c∧(∀t,t<c→l.getD (i+1+t) 1=l.getD (i+1) 1)∧(0<r→l.getD (i+1+c) 1=r))
 |[],_,i=>⟨by simp,by simp,fun h=>by simp at h⟩
 |x::l,h,0=>by
  obtain ⟨h1,⟨h2,h3⟩,h4⟩:=h
  refine ⟨h1,h2,fun h=> ?_⟩
  obtain ⟨c,r,e1,e2,e3,e4,e5⟩:=h3 h
  refine ⟨c,r,e1,e2,e3,fun t ht=> ?_,fun hr=> ?_⟩
  ·have:=e4 t ht
   rw [show 0+1+t=t+1 by omega,List.getD_cons_succ]
   exact this
  ·rw [show 0+1+c=c+1 by omega,List.getD_cons_succ]
   exact e5 hr
 |x::l,h,i+1=>by
  have:=GL_at l h.2.2 i
  rw [show i+1+1=(i+1)+1 from rfl]
  simp only [List.getD_cons_succ]
  refine ⟨this.1,this.2.1,fun h=> ?_⟩
  obtain ⟨c,r,e1,e2,e3,e4,e5⟩:=this.2.2 h
  refine ⟨c,r,e1,e2,e3,fun t ht=> ?_,fun hr=> ?_⟩
  ·rw [show i+1+1+t=(i+1+t)+1 by omega,List.getD_cons_succ]
   exact e4 t ht
  ·rw [show i+1+1+c=(i+1+c)+1 by omega,List.getD_cons_succ]
   exact e5 hr
def sumM (M:Nat→Nat) (i:Nat):Nat→Nat
 |0=>0
 |k+1=>sumM M i k+M (i+1+k)
structure GoodM (M:Nat→Nat):Prop where
 pos:∀i,1≤M i
 fall:∀i,M (i+1)≤M i
 drop:∀i,M (i+1)<M i→∃c r,M i=c*M (i+1)+r∧r<M (i+1)∧1≤c∧(∀t,t<c→M (i+1+t)=M (i+1))∧(0<r→M (i+1+c)=r)
theorem goodM_of {l:List Nat} (h:GL l):GoodM (fun i=>l.getD i 1):=
 ⟨fun i=>(GL_at l h i).1,fun i=>(GL_at l h i).2.1,fun i=>(GL_at l h i).2.2⟩
theorem sumM_mono {M:Nat→Nat} (h:GoodM M) (i:Nat):∀{k k':Nat},k<k'→sumM M i k<sumM M i k'
 |k,0,hk=>by omega
 |k,k'+1,hk=>by
  have:=h.pos (i+1+k')
  simp only [sumM]
  by_cases hkk:k=k'
  ·subst hkk;omega
  ·have:=sumM_mono h i (k:=k) (k':=k') (by omega)
   omega
theorem sumM_rep {M:Nat→Nat} {i v:Nat}:∀k,(∀t,t<k→M (i+1+t)=v)→sumM M i k=k*v
 |0,_=>by simp [sumM]
 |k+1,h=>by
  simp only [sumM,sumM_rep k (fun t ht=>h t (by omega)),h k (by omega),Nat.add_mul]
  omega
def Prox (M:Nat→Nat) (i j:Nat):Prop:=sumM M i (j-i)≤M i
theorem prox_one {M:Nat→Nat} (h:GoodM M) (i:Nat):Prox M i (i+1):=by
 have:=h.fall i
 rw [Prox,show i+1-i=1 by omega]
 simpa [sumM] using this
theorem prox_uniq {M:Nat→Nat} (h:GoodM M) {i i' j:Nat} (h1:i<i') (h2:i'+1<j) (hp:Prox M i j):¬Prox M i' j:=by
 intro hp'
 unfold Prox at hp hp'
 have two:∀x,sumM M x 2=M (x+1)+M (x+1+1):=fun x=>by simp [sumM]
 have one:∀x,sumM M x 1=M (x+1):=fun x=>by simp [sumM]
 have hlt:M (i+1)<M i:=by
  have a1:=sumM_mono h i (k:=2) (k':=j-i) (by omega)
  have a2:=h.pos (i+1+1)
  rw [two] at a1
  omega
 obtain ⟨c,r,e1,e2,e3,e4,e5⟩:=h.drop i hlt
 have hc:=sumM_rep c e4
 have hc1:sumM M i (c+1)=sumM M i c+M (i+1+c):=rfl
 have hc2:sumM M i (c+2)=sumM M i (c+1)+M (i+1+(c+1)):=rfl
 have hj:j-i≤c+1:=by
  by_cases hh:j-i≤c+1
  ·exact hh
  ·exfalso
   have a3:sumM M i (c+2)≤sumM M i (j-i):=by
    by_cases hx:c+2=j-i
    ·rw [hx];exact Nat.le_refl _
    ·exact Nat.le_of_lt (sumM_mono h i (by omega))
   have a4:=h.pos (i+1+(c+1))
   have a5:=h.pos (i+1+c)
   by_cases hr:0<r
   ·have:=e5 hr;omega
   ·omega
 have b1:M i'=M (i+1):=by
  have:=e4 (i'-i-1) (by omega)
  rwa [show i+1+(i'-i-1)=i' by omega] at this
 have b2:M (i'+1)=M (i+1):=by
  have:=e4 (i'-i) (by omega)
  rwa [show i+1+(i'-i)=i'+1 by omega] at this
 have a1:=sumM_mono h i' (k:=1) (k':=j-i') (by omega)
 rw [one] at a1
 omega
end Go.Ax
