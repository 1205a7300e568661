import Derived.Test.YtopcmoaklelldaaB09p1
/-
 Texts:spec.l01Split,l01Value,l01Dec,l03Text. No conditions but those of the contracts.
-/
set_option linter.all false
namespace Go.Ax
open Go.Proofs
set_option maxHeartbeats 1000000 in
set_option maxRecDepth 100000 in
theorem s_spec_l01Split:Sat Try.prog 9 (c_sc_z f_wrd q_prt):=by
 intro args ps r h hp
 unfold c_sc_z at h
 split at h
 ·rename_i s c
  simp only [Option.some.injEq,Prod.mk.injEq] at h
  obtain ⟨rfl,rfl⟩:=h
  obtain ⟨hs,d,rfl⟩:q_prt s c:=(alls_cons.1 hp).1
  obtain ⟨l,hl⟩:∃l,l=s.data.toList:=⟨_,rfl⟩
  have hsl:s=T l:=by rw [hl];exact T_of s
  rw [hsl,T_size] at hs
  have hsz:s.size=l.length:=by rw [hsl,T_size]
  obtain ⟨dc,hdc⟩:∃dc:Int,dc=(d.toNat:Int):=⟨_,rfl⟩
  have hdd:UInt8.ofNat dc.toNat=d:=by rw [hdc,Int.toNat_natCast,UInt8.ofNat_toNat]
  have hf0:f_wrd s dc=Zs (splitL d l):=by rw [f_wrd,hdd,←hl]
  obtain ⟨n,hn⟩:∃n:Int,n=l.length:=⟨_,rfl⟩
  have gs:∀i,s.data.getD i 0=l.getD i 0:=fun i=>by rw [hsl,T_get]
  have hbe:∀t,((l.getD t 0).toNat:Int)=dc↔l.getD t 0=d:=fun t=>by rw [hdc];exact byte_eq l t d
  refine fnOk_ofI (T:=tab) (B:=[]) (Bi:=[]) [0,1,4,5,6,7] Try.func9 rfl rfl (by kernel_rfl) (Nat.le_of_ble_eq_true rfl) mixed tabOk (by exact bookNil) (by exact bookINil) (by kernel_rfl) ?_
  intro L lp rr hL hr hf hlp
  rw [←hdc] at hr ⊢
  conv=>cbv
  refine hlp (List By×Int×Int) _ _ _ [0,1,5,6,7] (fun x=>[(0,none,.val (.str s)),(1,none,.val (.int .u8 dc)),(5,none,.val (.slc true 9 (.str ⟨#[]⟩) (Zs x.1))),(6,none,.val (.int .i64 x.2.1)),(7,none,.val (.int .i64 x.2.2))])
   (fun x=>0≤x.2.1∧x.2.1≤x.2.2∧x.2.2≤n∧x.1.length≤x.2.1.toNat∧(∀t,x.2.1.toNat≤t→t<x.2.2.toNat→l.getD t 0≠d)∧splitL d l=x.1++splitL d (l.drop x.2.1.toNat)) (fun x=>(n-x.2.2).toNat) (([],0,0)) (by subst hL;rfl) ?_ ?_
  ·exact ⟨by simp,by simp,by simp only;omega,by simp,fun t h1 h2=>by simp at h2,rfl⟩
  rintro ⟨ws,at_,x⟩ ⟨a0,a1,x1,hwn,hx,hsp⟩ hfx ag hag
  simp only at a0 a1 x1 hwn hx hsp
  obtain ⟨vz,hvz⟩:∃vz,vz=Zs ws:=⟨_,rfl⟩
  have hvl:vz.length=ws.length:=by rw [hvz,Zs_length]
  rw [←hvz]
  conv=>cbv
  simp only [stdEqs hL,imp_self,true_and,and_true,bif_or,bif_and,Bool.or_eq_true,Bool.or_eq_false_iff,Bool.and_eq_true,Bool.and_eq_false_iff,decide_eq_true_eq,decide_eq_false_iff_not,Bool.not_eq_true',Bool.not_eq_false',beq_iff_eq,beq_eq_false_iff_ne,ne_eq,toNat0,toNat1,ok_int,toI_int,I_frzs,I_length,I_getD,ok_ints,toL_slc,hsz,←hn,gs,hvl,hbe]
  have hz:∀a b:Nat,vz++[V.str (s.extract a b)]=Zs (ws++[(l.take b).drop a]):=fun a b=>by
   rw [hvz,hsl,T_ext,←Zs_append]
   rfl
  have hso:∀a b:Nat,∀x∈[V.str (s.extract a b)],x.solid=true:=fun a b x hx=>by
   simp only [List.mem_singleton] at hx;subst hx;rfl
  have hpart:∀e:Nat,(∀t,at_.toNat≤t→t<e→l.getD t 0≠d)→e≤l.length→d∉(l.take e).drop at_.toNat:=fun e he hel hm=>by
   obtain ⟨t,ht,hte⟩:=List.mem_iff_getElem.1 hm
   rw [List.length_drop,List.length_take] at ht
   rw [List.getElem_drop,List.getElem_take] at hte
   refine he (at_.toNat+t) (by omega) (by omega) ?_
   rw [List.getD_eq_getElem?_getD,List.getElem?_eq_getElem (by omega)]
   exact hte
  refine ⟨fun h2=>⟨by omega,h2,fun h3=> ?_,fun h3=> ?_⟩,fun h2=> ?_⟩
  ·have hxl:x.toNat<l.length:=by omega
   rw [wrap_id (n:=x+1) (by omega) (by omega),hz]
   refine ⟨a0,a1,x1,rfl,by simp only [List.length_cons,List.length_nil];omega,hso _ _,?_⟩
   refine hag (ws++[(l.take x.toNat).drop at_.toNat],x+1,x+1) ⟨by simp only;omega,by simp only;omega,by simp only;omega,by simp only [List.length_append,List.length_cons,List.length_nil];omega,fun t h4 h5=>by simp only at h4 h5;omega,?_⟩ (by simp only;omega)
   simp only
   have e:l.drop at_.toNat=(l.take x.toNat).drop at_.toNat++d::l.drop (x+1).toNat:=by
    rw [List.drop_take,←h3,List.getD_eq_getElem?_getD,List.getElem?_eq_getElem hxl,show (x+1).toNat=x.toNat+1 by omega]
    have e1:=(List.take_append_drop (x.toNat-at_.toNat) (l.drop at_.toNat)).symm
    rw [List.drop_drop,show at_.toNat+(x.toNat-at_.toNat)=x.toNat by omega,List.drop_eq_getElem_cons hxl] at e1
    exact e1
   rw [hsp,e,split_at _ (hpart _ hx (by omega)),List.append_assoc]
   rfl
  ·rw [wrap_id (n:=x+1) (by omega) (by omega),hvz]
   refine hag (ws,at_,x+1) ⟨a0,by simp only;omega,by simp only;omega,hwn,fun t h4 h5=> ?_,hsp⟩ (by simp only;omega)
   simp only at h4 h5
   by_cases e:t=x.toNat
   ·rw [e];exact h3
   ·exact hx t h4 (by omega)
  ·rw [hz]
   refine ⟨a0,by omega,Int.le_refl _,rfl,by simp only [List.length_cons,List.length_nil];omega,hso _ _,?_⟩
   have hn':n.toNat=l.length:=by omega
   have hd2:=hpart l.length (fun t h4 h5=>hx t h4 (by omega)) (Nat.le_refl _)
   rw [List.take_of_length_le (Nat.le_refl _)] at hd2
   rw [hr,hf0,hsp,split_none hd2,hn',List.take_of_length_le (Nat.le_refl _)]
 ·cases h
def f_val (s:ByteArray):Int:=numV s.data.toList
def c_s_i7 (f:ByteArray→Int) (q:ByteArray→Prop):Contract:=fun
 |[.str a0]=>some ([q a0],.int .i64 (f a0))
 |_=>none
set_option maxHeartbeats 1000000 in
set_option maxRecDepth 100000 in
theorem s_spec_l01Value:Sat Try.prog 11 (c_s_i7 f_val q_dig):=by
 intro args ps r h hp
 unfold c_s_i7 at h
 split at h
 ·rename_i s
  simp only [Option.some.injEq,Prod.mk.injEq] at h
  obtain ⟨rfl,rfl⟩:=h
  have hs:q_dig s:=(alls_cons.1 hp).1
  have hs':s.size≤2000000:=hs
  obtain ⟨l,hl⟩:∃l,l=s.data.toList:=⟨_,rfl⟩
  have hsl:s=T l:=by rw [hl];exact T_of s
  have hsz:s.size=l.length:=by rw [hsl,T_size]
  have hf0:f_val s=numV l:=by rw [f_val,←hl]
  obtain ⟨n,hn⟩:∃n:Int,n=l.length:=⟨_,rfl⟩
  have gs:∀i,s.data.getD i 0=l.getD i 0:=fun i=>by rw [hsl,T_get]
  have h48:((l.getD 0 0).toNat:Int)=48↔l.getD 0 0=48:=byte_eq l 0 48
  refine fnOk_ofI (T:=tab) (B:=[]) (Bi:=[]) [0,2,3,4] Try.func11 rfl rfl (by kernel_rfl) (Nat.le_of_ble_eq_true rfl) mixed tabOk (by exact bookNil) (by exact bookINil) (by kernel_rfl) ?_
  intro L lp rr hL hr hf hlp
  conv=>cbv
  simp only [stdEqs hL,imp_self,true_and,and_true,bif_or,bif_and,Bool.or_eq_true,Bool.or_eq_false_iff,Bool.and_eq_true,Bool.and_eq_false_iff,decide_eq_true_eq,decide_eq_false_iff_not,Bool.not_eq_true',Bool.not_eq_false',beq_iff_eq,beq_eq_false_iff_ne,ne_eq,toNat0,toNat1,ok_int,toI_int,I_frzs,I_length,I_getD,ok_ints,toL_slc,hsz,←hn,gs,h48]
  have hno:(n=0∨9<n)∨1<n∧l.getD 0 0=48→canon l=false:=fun h=>by
   cases hc:canon l with
   |false=>rfl
   |true=>
    obtain ⟨c1,c2,c3,c4⟩:=canon_iff.1 hc
    have hlp:0<l.length:=by
     cases l with
     |nil=>exact absurd rfl c1
     |cons=>simp
    rcases h with (h|h)|⟨h,h'⟩
    ·omega
    ·omega
    ·rcases c3 with c3|c3
     ·omega
     ·exact absurd h' c3
  refine ⟨fun _=>Int.le_refl _,fun h=>by omega,fun h h'=>⟨h,h'⟩,fun h=> ?_,fun h=> ?_⟩
  ·rw [hr,hf0,numV,if_neg (by rw [hno h];simp)]
  have h9:n≤9:=by omega
  refine hlp (Int×Int) _ _ _ [0,3,4] (fun x=>[(0,none,.val (.str s)),(3,none,.val (.int .i64 x.1)),(4,none,.val (.int .i64 x.2))])
   (fun x=>0≤x.2∧x.2≤n∧(∀t,t<x.2.toNat→isD (l.getD t 0)=true)∧x.1=valA (l.take x.2.toNat) 0) (fun x=>(n-x.2).toNat) ((0,0)) (by subst hL;rfl) ?_ ?_
  ·exact ⟨by simp,by simp only;omega,fun t ht=>by simp at ht,rfl⟩
  rintro ⟨v,x⟩ ⟨x0,x1,hx,hv⟩ hfx ag hag
  simp only at x0 x1 hx hv
  conv=>cbv
  simp only [stdEqs hL,imp_self,true_and,and_true,bif_or,bif_and,Bool.or_eq_true,Bool.or_eq_false_iff,Bool.and_eq_true,Bool.and_eq_false_iff,decide_eq_true_eq,decide_eq_false_iff_not,Bool.not_eq_true',Bool.not_eq_false',beq_iff_eq,beq_eq_false_iff_ne,ne_eq,toNat0,toNat1,ok_int,toI_int,I_frzs,I_length,I_getD,ok_ints,toL_slc,hsz,←hn,gs]
  have hD:∀t,isD (l.getD t 0)=true↔48≤((l.getD t 0).toNat:Int)∧((l.getD t 0).toNat:Int)≤57:=fun t=>isD_iff _
  have hall:∀k,k≤l.length→(∀t,t<k→isD (l.getD t 0)=true)→(l.take k).all isD=true:=fun k hk hd=>by
   rw [List.all_eq_true]
   intro c hc
   obtain ⟨t,ht,rfl⟩:=List.mem_iff_getElem.1 hc
   rw [List.length_take] at ht
   have:=hd t (by omega)
   rw [List.getD_eq_getElem?_getD,List.getElem?_eq_getElem (by omega)] at this
   rw [List.getElem_take];exact this
  refine ⟨fun h2=>⟨x0,h2,fun _=>x0,fun _=>h2,fun h3=> ?_,fun h3=>⟨x0,h2,?_⟩⟩,fun h2=> ?_⟩
  ·have hc:canon l=false:=by
    cases hc:canon l with
    |false=>rfl
    |true=>
     have h4:=(canon_iff.1 hc).2.2.2
     rw [List.all_eq_true] at h4
     have hxl:x.toNat<l.length:=by omega
     have:=(hD x.toNat).1 (by rw [List.getD_eq_getElem?_getD,List.getElem?_eq_getElem hxl];exact h4 _ (List.getElem_mem _))
     omega
   rw [hr,hf0,numV,if_neg (by rw [hc];simp)]
  ·have hxl:x.toNat<l.length:=by omega
   obtain ⟨b1,b2⟩:=valA_bound (l.take x.toNat) 0 (hall _ (by omega) hx) (Int.le_refl _)
   have hp:(10:Int)^(l.take x.toNat).length≤10^9:=by
    have:(10:Nat)^(l.take x.toNat).length≤10^9:=Nat.pow_le_pow_right (by omega) (by rw [List.length_take];omega)
    exact_mod_cast this
   rw [←hv] at b1 b2
   rw [wrap_id (n:=x+1) (by omega) (by omega),u8_id (n:=((l.getD x.toNat 0).toNat:Int)-48) (by omega) (by omega),wrap_id (n:=v*10) (by omega) (by omega),wrap_id (n:=((l.getD x.toNat 0).toNat:Int)-48) (by omega) (by omega),wrap_id (by omega) (by omega)]
   refine hag (_,x+1) ⟨by simp only;omega,by simp only;omega,fun t ht=> ?_,?_⟩ (by simp only;omega)
   ·simp only [toNat_succ x0] at ht
    by_cases e:t=x.toNat
    ·rw [e];exact (hD _).2 (by omega)
    ·exact hx t (by omega)
   ·simp only [toNat_succ x0]
    rw [List.take_succ_eq_append_getElem hxl,valA_snoc,←hv,List.getD_eq_getElem?_getD,List.getElem?_eq_getElem hxl]
    rfl
  ·have hxe:x.toNat=l.length:=by omega
   rw [hxe] at hx hv
   have ha:=hall l.length (Nat.le_refl _) hx
   rw [List.take_of_length_le (Nat.le_refl _)] at ha hv
   have hc:canon l=true:=canon_iff.2 ⟨fun e=>by rw [e] at hn;simp at hn;omega,by omega,by
    rcases h.2 with h3|h3
    ·exact .inl (by omega)
    ·exact .inr h3,ha⟩
   rw [hr,hf0,numV,if_pos hc,hv]
 ·cases h
theorem dcmF_one (f:Nat) (n:Int):dcmF (f+1) n=if n<10 then [UInt8.ofNat (48+n).toNat] else dcmF f (n.tdiv 10)++[UInt8.ofNat (48+n.tmod 10).toNat]:=rfl
theorem dcmF_mono:∀(f g:Nat) (n:Int),0≤n→n<10^(f+1)→n<10^(g+1)→dcmF (f+1) n=dcmF (g+1) n
 |0,g,n,h0,h1,_=>by
  rw [dcmF_one 0,dcmF_one g,if_pos (by omega),if_pos (by omega)]
 |f+1,0,n,h0,_,h2=>by
  rw [dcmF_one (f+1),dcmF_one 0,if_pos (by omega),if_pos (by omega)]
 |f+1,g+1,n,h0,h1,h2=>by
  rw [dcmF_one (f+1),dcmF_one (g+1)]
  split
  ·rfl
  ·rw [Int.pow_succ] at h1 h2
   have e:n.tdiv 10=n/10:=Int.tdiv_eq_ediv_of_nonneg h0
   rw [dcmF_mono f g (n.tdiv 10) (by rw [e];omega) (by rw [e];omega) (by rw [e];omega)]
theorem dcm_step {n:Int} (h0:0≤n) (h1:n<10000000000):dcm n=if n<10 then [UInt8.ofNat (48+n).toNat] else dcm (n.tdiv 10)++[UInt8.ofNat (48+n.tmod 10).toNat]:=by
 have e:n.tdiv 10=n/10:=Int.tdiv_eq_ediv_of_nonneg h0
 rw [dcm,dcm,dcmF_mono 19 18 (n.tdiv 10) (by rw [e];omega) (by rw [e];omega) (by rw [e];omega)]
 exact dcmF_one 19 n
def f_dcm (n:Int):ByteArray:=T (dcm n)
def q_dec (m:Nat) (n:Int):Prop:=0≤n∧n<10^(m+1)∧m≤8
theorem dcm_len:∀(m:Nat) (n:Int),q_dec m n→(dcm n).length≤m+1
 |0,n,h=>by rw [dcm_step h.1 (by have:=h.2.1;omega),if_pos (by have:=h.2.1;omega)];simp
 |m+1,n,h=>by
  obtain ⟨h0,h1,h2⟩:=h
  have hb:(10:Int)^(m+1+1)≤10^9:=by
   have:(10:Nat)^(m+1+1)≤10^9:=Nat.pow_le_pow_right (by omega) (by omega)
   exact_mod_cast this
  rw [dcm_step h0 (by omega)]
  split
  ·simp
  ·have e:n.tdiv 10=n/10:=Int.tdiv_eq_ediv_of_nonneg h0
   rw [Int.pow_succ] at h1
   have:=dcm_len m (n.tdiv 10) ⟨by rw [e];omega,by rw [e];omega,by omega⟩
   rw [List.length_append];simp only [List.length_cons,List.length_nil];omega
def c_i_s (f:Int→ByteArray) (q:Int→Prop):Contract:=fun
 |[.int .i64 a0]=>some ([q a0],.str (f a0))
 |_=>none
theorem str_one (x:Int) (h0:0≤x) (h1:x≤255):bytesV [.int .u8 x]=T [UInt8.ofNat x.toNat]∧bytesOk [.int .u8 x]:=by
 refine ⟨rfl,fun y hy=> ?_⟩
 simp only [List.mem_singleton] at hy
 exact ⟨x,hy⟩
set_option maxHeartbeats 1000000 in
set_option maxRecDepth 100000 in
theorem s_dec_step (m:Nat) (qq:Int→Prop) (ih:Sat Try.prog 30 (c_i_s f_dcm qq)) (hqq:∀m' n,m=m'+1→q_dec m' n→qq n):Sat Try.prog 30 (c_i_s f_dcm (q_dec m)):=by
 intro args ps r h hp
 unfold c_i_s at h
 split at h
 ·rename_i n
  simp only [Option.some.injEq,Prod.mk.injEq] at h
  obtain ⟨rfl,rfl⟩:=h
  obtain ⟨h0,h1,h2⟩:q_dec m n:=(alls_cons.1 hp).1
  have hb:(10:Int)^(m+1)≤10^9:=by
   have:(10:Nat)^(m+1)≤10^9:=Nat.pow_le_pow_right (by omega) (by omega)
   exact_mod_cast this
  have hst:=dcm_step h0 (by omega)
  generalize H_f_dcm:f_dcm=F_f_dcm
  generalize H_qq:qq=F_qq
  refine fnOk_ofI (T:=tab) (B:=[(30,c_i_s F_f_dcm F_qq)]) (Bi:=[]) [0,2] Try.func30 rfl rfl (by kernel_rfl) (Nat.le_of_ble_eq_true rfl) mixed tabOk (by subst H_f_dcm H_qq;exact (bookCons ih bookNil)) (by subst H_f_dcm H_qq;exact bookINil) (by kernel_rfl) ?_
  intro L lp rr hL hr hf hlp
  conv=>cbv
  simp only [stdEqs hL,imp_self,true_and,and_true,bif_or,bif_and,Bool.or_eq_true,Bool.or_eq_false_iff,Bool.and_eq_true,Bool.and_eq_false_iff,decide_eq_true_eq,decide_eq_false_iff_not,Bool.not_eq_true',Bool.not_eq_false',beq_iff_eq,beq_eq_false_iff_ne,ne_eq,toNat0,toNat1,ok_int,toI_int,I_frzs,I_length,I_getD,ok_ints,toL_slc,true_and]
  have e:=Int.tdiv_eq_ediv_of_nonneg (b:=10) h0
  have e':=Int.tmod_eq_emod_of_nonneg (b:=10) h0
  refine ⟨fun h=> ?_,fun h=> ?_⟩
  ·rw [wrap_id (n:=48+n) (by omega) (by omega),u8_id (by omega) (by omega)]
   obtain ⟨o1,o2⟩:=str_one (48+n) (by omega) (by omega)
   refine ⟨o2,?_⟩
   rw [hr,←H_f_dcm,f_dcm,o1,hst,if_pos h]
  ·rw [wrap_id (n:=48+n.tmod 10) (by omega) (by omega),u8_id (by omega) (by omega),wrap_id (n:=n.tdiv 10) (by omega) (by omega)]
   obtain ⟨o1,o2⟩:=str_one (48+n.tmod 10) (by omega) (by omega)
   obtain ⟨m',rfl⟩:∃m',m=m'+1:=⟨m-1,by
    cases m with
    |zero=>omega
    |succ k=>rfl⟩
   rw [Int.pow_succ] at h1
   have hq:q_dec m' (n.tdiv 10):=⟨by omega,by omega,by omega⟩
   have hl:=dcm_len m' _ hq
   refine ⟨by omega,by rw [←H_qq];exact hqq m' _ rfl hq,by omega,o2,?_,?_⟩
   ·rw [←H_f_dcm,f_dcm,o1,T_size,T_size]
    simp only [List.length_cons,List.length_nil]
    omega
   ·rw [hr,←H_f_dcm,f_dcm,f_dcm,o1,hst,if_neg h,T_app]
 ·cases h
def q_dec0 (_:Int):Prop:=False
theorem s_dec_none:Sat Try.prog 30 (c_i_s f_dcm q_dec0):=by
 intro args ps r h hp
 unfold c_i_s at h
 split at h
 ·simp only [Option.some.injEq,Prod.mk.injEq] at h
  obtain ⟨rfl,rfl⟩:=h
  exact ((alls_cons.1 hp).1:False).elim
 ·cases h
theorem s_dec_all:∀m:Nat,Sat Try.prog 30 (c_i_s f_dcm (q_dec m))
 |0=>s_dec_step 0 q_dec0 s_dec_none fun m' _ h=>by omega
 |m+1=>s_dec_step (m+1) (q_dec m) (s_dec_all m) fun m' _ h hq=>by
  have:m'=m:=by omega
  rw [this] at hq
  exact hq
def q_dcm (n:Int):Prop:=0≤n∧n<1000000000
theorem s_spec_l01Dec:Sat Try.prog 30 (c_i_s f_dcm q_dcm):=by
 intro args ps r h hp
 have h0:=h
 unfold c_i_s at h
 split at h
 ·rename_i a0
  simp only [Option.some.injEq,Prod.mk.injEq] at h
  obtain ⟨rfl,rfl⟩:=h
  obtain ⟨k1,k2⟩:q_dcm a0:=(alls_cons.1 hp).1
  exact s_dec_all 8 _ _ _ rfl (alls_cons.2 ⟨⟨k1,by omega,by omega⟩,fun q hq=>by cases hq⟩)
 ·cases h
end Go.Ax
