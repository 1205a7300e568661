import Derived.Test.YtnhfpgcicpfohaaDoorB06p1
import Derived.Test.YtnhfpgcicpfohaaDoorB13p1
/-
 Texts of curves:spec.l09Text. No conditions but those of the contracts.
-/
set_option linter.all false
namespace Go.Ax
open Go.Proofs
theorem joinL_snoc (c:UInt8):∀(l:List By) (w:By),joinL c (l++[w])=if l=[] then w else joinL c l++c::w
 |[],w=>rfl
 |[x],w=>rfl
 |x::y::l,w=>by
  have ih:=joinL_snoc c (y::l) w
  rw [if_neg (List.cons_ne_nil _ _)] at ih ⊢
  rw [List.cons_append] at ih
  rw [List.cons_append,List.cons_append,joinL,ih,joinL]
  simp
def rowU (ms:List (List Int)) (i k:Nat):List Int:=((List.range k).drop (i+1)).map fun j=>mm ms i j
def uppr (ms:List (List Int)) (n i:Nat):List Int:=(List.range i).flatMap fun a=>rowU ms a n
theorem rowU_zero (ms:List (List Int)) (i:Nat):rowU ms i (i+1)=[]:=by
 rw [rowU,List.drop_eq_nil_of_le (by simp)];rfl
theorem rowU_succ (ms:List (List Int)) {i k:Nat} (h:i<k):rowU ms i (k+1)=rowU ms i k++[mm ms i k]:=by
 rw [rowU,rowU,List.range_succ,List.drop_append_of_le_length (by rw [List.length_range];omega),List.map_append]
 rfl
theorem uppr_succ (ms:List (List Int)) (n i:Nat):uppr ms n (i+1)=uppr ms n i++rowU ms i n:=by
 rw [uppr,uppr,List.range_succ,List.flatMap_append]
 simp
def numT (l:List Int):By:=joinL 32 (l.map dcm)
theorem dcm_ne (n:Int):dcm n≠[]:=by
 rw [dcm,dcmF]
 split<;>simp
theorem joinL_nil {l:List By} (h:∀w∈l,w≠[]):joinL 32 l=[]↔l=[]:=by
 cases l with
 |nil=>simp [joinL]
 |cons w r=>
  have:=h w (List.mem_cons_self ..)
  cases r with
  |nil=>simp [joinL,this]
  |cons v r=>simp [joinL]
theorem numT_nil (l:List Int):numT l=[]↔l=[]:=by
 rw [numT,joinL_nil fun w hw=>by
  obtain ⟨x,_,rfl⟩:=List.mem_map.1 hw
  exact dcm_ne x]
 simp
theorem numT_snoc (l:List Int) (x:Int):numT (l++[x])=(if numT l=[] then [] else numT l++[32])++dcm x:=by
 rw [numT,List.map_append,List.map_singleton,joinL_snoc]
 by_cases h:l=[]
 ·rw [h];rfl
 ·rw [if_neg (by simpa using h),if_neg (fun e=>h ((numT_nil l).1 e)),numT];simp
def brsT (bs:List (List Int)):By:=joinL 32 (bs.map brT)
theorem brsT_snoc (l:List (List Int)) (x:List Int):brsT (l++[x])=(if l=[] then [] else brsT l++[32])++brT x:=by
 rw [brsT,List.map_append,List.map_singleton,joinL_snoc]
 by_cases h:l=[]
 ·rw [h];rfl
 ·rw [if_neg (by simpa using h),if_neg h,brsT];simp
theorem joinL_len (c:UInt8) (M:Nat):∀l:List By,(∀w∈l,w.length≤M)→(joinL c l).length≤(M+1)*l.length
 |[],_=>by simp [joinL]
 |[w],h=>by
  have:=h w (List.mem_cons_self ..)
  simp only [joinL,List.length_singleton];omega
 |w::v::r,h=>by
  have h1:=h w (List.mem_cons_self ..)
  have h2:=joinL_len c M (v::r) fun x hx=>h x (List.mem_cons_of_mem _ hx)
  rw [joinL,List.length_append,List.length_cons,List.length_cons (a:=w),Nat.mul_add]
  omega
theorem brT_len {xs:List Int} (hne:xs≠[]) (h:okN xs):(brT xs).length≤12+10*xs.length:=by
 cases xs with
 |nil=>exact absurd rfl hne
 |cons x l=>
  have h1:=dcm_len9 (h x (List.mem_cons_self ..))
  have h2:=sepS_len 59 l fun y hy=>h y (List.mem_cons_of_mem _ hy)
  simp only [brT,List.getD_cons_zero,List.drop_succ_cons,List.drop_zero,List.length_cons,List.length_append,List.length_nil]
  omega
theorem rowU_len (ms:List (List Int)) (i k:Nat):(rowU ms i k).length≤k:=by
 rw [rowU,List.length_map,List.length_drop,List.length_range];omega
theorem uppr_len (ms:List (List Int)) (n:Nat):∀i,(uppr ms n i).length≤n*i
 |0=>by simp [uppr]
 |i+1=>by
  have h1:=uppr_len ms n i
  have h2:=rowU_len ms i n
  rw [uppr_succ,List.length_append,Nat.mul_succ];omega
theorem numT_len {l:List Int} (h:okN l):(numT l).length≤10*l.length:=by
 have:=joinL_len 32 9 (l.map dcm) fun w hw=>by
  obtain ⟨x,hx,rfl⟩:=List.mem_map.1 hw
  exact dcm_len9 (h x hx)
 rw [List.length_map] at this
 exact this
theorem isBr_ne {xs:List Int} (h:isBr xs=true):xs≠[]:=fun e=>by rw [e] at h;simp [isBr] at h
theorem isBr_okN {xs:List Int} (h:isBr xs=true):okN xs:=fun x hx=>by have:=isBr_in h x hx;omega
def cvT (bs ms:List (List Int)):By:=brsT bs++(if numT (uppr ms bs.length bs.length)=[] then [] else 124::numT (uppr ms bs.length bs.length))
def f_cvT (a b:List V):ByteArray:=T (cvT (unBB a) (unII b))
def q_cvT (a b:List V):Prop:=q_C a b∧f_isCv a b=true∧∀xs∈unBB a,xs.length≤3000000
def c_C_s (f:List V→List V→ByteArray) (q:List V→List V→Prop):Contract:=fun
 |[.agg [.slc false 49 (.agg [.slc false 2 (.int .i64 0) []]) a0,.slc false 44 (.slc false 2 (.int .i64 0) []) a1]]=>some ([q a0 a1],.str (f a0 a1))
 |_=>none
set_option maxHeartbeats 1000000 in
set_option maxRecDepth 100000 in
theorem s_spec_l09Text:Sat Tryd.prog 12 (c_C_s f_cvT q_cvT):=by
 intro args ps r h hp
 unfold c_C_s at h
 split at h
 ·rename_i a0 a1
  simp only [Option.some.injEq,Prod.mk.injEq] at h
  obtain ⟨rfl,rfl⟩:=h
  obtain ⟨⟨⟨bs,hbs,hb1,hb2⟩,⟨ms,hms,hm1,hm2⟩⟩,hcv,hlen⟩:q_cvT a0 a1:=(alls_cons.1 hp).1
  have hf0:f_cvT a0 a1=T (cvT bs ms):=by rw [f_cvT,hbs,hms,unBB_BB,unII_II]
  rw [hbs,unBB_BB] at hlen
  rw [f_isCv,hbs,hms,unBB_BB,unII_II] at hcv
  have hcv:=isCv_iff.1 hcv
  have g1:V.frzs a0=a0:=by rw [hbs,BB_frzs]
  have g2:V.frzs a1=a1:=by rw [hms,II_frzs]
  have hbl:a0.length=bs.length:=by rw [hbs,BB_length]
  have hml:a1.length=ms.length:=by rw [hms,II_length]
  have gb:∀k,a0.getD k (.agg [.slc false 2 (.int .i64 0) []])= .agg [.slc false 2 (.int .i64 0) (I (bs.getD k []))]:=fun k=>by rw [hbs,BB_getD]
  have gm:∀k,a1.getD k (.slc false 2 (.int .i64 0) [])= .slc false 2 (.int .i64 0) (I (ms.getD k [])):=fun k=>by rw [hms,II_getD]
  obtain ⟨n,hn⟩:∃n:Int,n=bs.length:=⟨_,rfl⟩
  have n1:=hcv.n1
  have n6:=hcv.n6
  have hmn:ms.length=bs.length:=hcv.tab.len
  generalize H_f_brT:f_brT=F_f_brT
  generalize H_q_brT:q_brT=F_q_brT
  generalize H_f_dcm:f_dcm=F_f_dcm
  generalize H_q_dcm:q_dcm=F_q_dcm
  refine fnOk_ofI (T:=tab) (B:=[(24,c_B_s F_f_brT F_q_brT),(25,c_i_s F_f_dcm F_q_dcm)]) (Bi:=[]) [0,1,2,3,4,5,6] Tryd.func12 rfl rfl (by kernel_rfl) (Nat.le_of_ble_eq_true rfl) mixed tabOk (by subst H_f_brT H_q_brT H_f_dcm H_q_dcm;exact (bookCons s_spec_l03Text (bookCons s_spec_l01Dec bookNil))) (by subst H_f_brT H_q_brT H_f_dcm H_q_dcm;exact bookINil) (by kernel_rfl) ?_
  intro L lp rr hL hr hf hlp
  conv=>cbv
  refine hlp ((By×By)×Int) _ _ _ [1,3,4,5] (fun x=>[(1,none,.val (.box 31 (.agg [.slc false 49 (.agg [.slc false 2 (.int .i64 0) []]) a0,.slc false 44 (.slc false 2 (.int .i64 0) []) a1]))),(3,none,.val (.str (T x.1.1))),(4,none,.val (.str (T x.1.2))),(5,none,.val (.int .i64 x.2))])
   (fun x=>0≤x.2∧x.2≤n∧x.1.1=brsT (bs.take x.2.toNat)∧x.1.2=numT (uppr ms bs.length x.2.toNat)) (fun x=>(n-x.2).toNat) ((([],[]),0)) (by subst hL;rfl) ?_ ?_
  ·exact ⟨by simp,by simp only;omega,rfl,rfl⟩
  rintro ⟨⟨tx,tn⟩,x⟩ ⟨x0,x1,hx,hy⟩ hfx ag hag
  simp only at x0 x1 hx hy
  obtain ⟨tv,htv⟩:∃tv,tv=T tx:=⟨_,rfl⟩
  obtain ⟨tw,htw⟩:∃tw,tw=T tn:=⟨_,rfl⟩
  simp only [←htv,←htw]
  conv=>cbv
  simp only [stdEqs hL,imp_self,true_and,and_true,bif_or,bif_and,Bool.or_eq_true,Bool.or_eq_false_iff,Bool.and_eq_true,Bool.and_eq_false_iff,decide_eq_true_eq,decide_eq_false_iff_not,Bool.not_eq_true',Bool.not_eq_false',beq_iff_eq,beq_eq_false_iff_ne,ne_eq,toNat0,toNat1,ok_int,toI_int,I_frzs,I_length,I_getD,ok_ints,toL_slc,g1,g2,hbl,hml,gb,gm,←hn,ok_bran,toL_bran,fld_bran,I_frzs]
  have hbk:∀k,k<bs.length→isBr (bs.getD k [])=true∧(bs.getD k []).length≤3000000:=fun k hk=>⟨hcv.br k hk,hlen _ (by
   rw [List.getD_eq_getElem?_getD,List.getElem?_eq_getElem hk]
   exact List.getElem_mem _)⟩
  have Qb:∀k,k<bs.length→F_q_brT (I (bs.getD k [])):=fun k hk=>by
   rw [←H_q_brT]
   exact ⟨_,rfl,isBr_ne (hbk k hk).1,(hbk k hk).2,isBr_okN (hbk k hk).1⟩
  have Eb:∀k,F_f_brT (I (bs.getD k []))=T (brT (bs.getD k [])):=fun k=>by rw [←H_f_brT,f_brT,unI_I]
  have lb:∀k,k<bs.length→(brT (bs.getD k [])).length≤30000012:=fun k hk=>by
   have:=brT_len (isBr_ne (hbk k hk).1) (isBr_okN (hbk k hk).1)
   have:=(hbk k hk).2
   omega
  have lbs:∀k,k≤bs.length→(brsT (bs.take k)).length≤30000013*6:=fun k hk=>by
   have:=joinL_len 32 30000012 ((bs.take k).map brT) fun w hw=>by
    obtain ⟨y,hy,rfl⟩:=List.mem_map.1 hw
    obtain ⟨t,ht,rfl⟩:=List.mem_iff_getElem.1 hy
    rw [List.length_take] at ht
    rw [List.getElem_take]
    have:=lb t (by omega)
    rwa [List.getD_eq_getElem?_getD,List.getElem?_eq_getElem (by omega)] at this
   rw [List.length_map,List.length_take] at this
   rw [brsT]
   refine Nat.le_trans this (Nat.mul_le_mul_left _ (by omega))
  have hbsn:∀h:x<n,brsT (bs.take (x+1).toNat)=(if x=0 then [] else tx++[32])++brT (bs.getD x.toNat []):=fun h=>by
   rw [toNat_succ x0,List.take_succ_eq_append_getElem (by omega),brsT_snoc,←hx,List.getD_eq_getElem?_getD,List.getElem?_eq_getElem (by omega)]
   congr 1
   by_cases e:x=0
   ·rw [if_pos e,if_pos (by rw [e];rfl)]
   ·rw [if_neg e,if_neg (fun e2=>by
     have:=congrArg List.length e2
     rw [List.length_take,List.length_nil] at this
     omega)]
  simp only [Eb]
  have txl:=lbs x.toNat (by omega)
  rw [←hx] at txl
  have tsz:(tv.size:Int)=tx.length:=by rw [htv,T_size]
  have s32:(⟨⟨[32]⟩⟩:ByteArray).size=1:=rfl
  have eqA:x<n→x≤0→tv++T (brT (bs.getD x.toNat []))=T (brsT (bs.take (x+1).toNat)):=fun h2 h3=>by
   rw [hbsn h2,if_pos (by omega),htv,show tx=[] from by rw [hx,show x.toNat=0 by omega];rfl];exact T_app [] _
  have eqB:x<n→0<x→tv++(⟨⟨[32]⟩⟩:ByteArray)++T (brT (bs.getD x.toNat []))=T (brsT (bs.take (x+1).toNat)):=fun h2 h3=>by
   rw [hbsn h2,if_neg (by omega),htv,←T_app,←T_app];rfl
  have rl:∀k,k<bs.length→(ms.getD k []).length=bs.length:=fun k hk=>(hcv.tab.row k hk).1
  have mmr:∀i k,i<bs.length→k<bs.length→0≤mm ms i k∧mm ms i k≤200:=fun i k hi hk=>hcv.tab.range hi hk
  have okR:∀i k,i<bs.length→k≤bs.length→okN (rowU ms i k):=fun i k hi hk w hw=>by
   obtain ⟨t,ht,rfl⟩:=List.mem_map.1 hw
   have:=List.mem_range.1 (List.mem_of_mem_drop ht)
   have:=mmr i t hi (by omega)
   omega
  have okU:∀i,i≤bs.length→okN (uppr ms bs.length i):=fun i hi w hw=>by
   obtain ⟨t,ht,hw2⟩:=List.mem_flatMap.1 hw
   have:=List.mem_range.1 ht
   exact okR t bs.length (by omega) (Nat.le_refl _) w hw2
  have lenU:∀i,i≤bs.length→(uppr ms bs.length i).length≤36:=fun i hi=>by
   have:=uppr_len ms bs.length i
   have h2:bs.length*i≤6*6:=Nat.mul_le_mul n6 (by omega)
   omega
  have s124:(⟨⟨[124]⟩⟩:ByteArray).size=1:=rfl
  have tnE:∀(t:By) (v:ByteArray),v=T t→(v.toList=(⟨⟨[]⟩⟩:ByteArray).toList↔t=[]):=fun t v hv=>by
   rw [hv,show (⟨⟨[]⟩⟩:ByteArray)=T [] from rfl,T_list,T_list]
  refine ⟨fun h2=>⟨fun h3=>⟨by rw [tsz,s32];omega,x0,h2,Qb _ (by omega),?_,?_⟩,fun h3=>⟨x0,h2,Qb _ (by omega),?_,?_⟩⟩,fun h2=> ?_⟩
  rotate_left 4
  ·have hxe:x.toNat=bs.length:=by omega
   rw [hxe] at hx hy
   rw [List.take_of_length_le (Nat.le_refl _)] at hx
   have hnl:=numT_len (okU bs.length (Nat.le_refl _))
   have:=lenU bs.length (Nat.le_refl _)
   rw [←hy] at hnl
   have tws:(tw.size:Int)=tn.length:=by rw [htw,T_size]
   rw [tnE tn tw htw]
   refine ⟨fun h3=>⟨by rw [tsz,s124];omega,by rw [ByteArray.size_append,Int.natCast_add,tsz,s124];omega,?_⟩,fun h3=> ?_⟩
   ·rw [hr,hf0,cvT,←hx,←hy,if_neg h3,htv,htw,show (⟨⟨[124]⟩⟩:ByteArray)=T [124] from rfl,T_app,T_app]
    simp
   ·rw [hr,hf0,cvT,←hx,←hy,if_pos h3,htv,List.append_nil]
  ·have:=lb x.toNat (by omega)
   rw [ByteArray.size_append,s32,T_size,Int.natCast_add,tsz];omega
  rotate_left
  ·have:=lb x.toNat (by omega)
   rw [T_size,tsz];omega
  all_goals
   rw [wrap_id (n:=x+1) (by omega) (by omega)]
   first|rw [eqA h2 (by omega)]|rw [eqB h2 (by omega)]
   obtain ⟨tq,htq⟩:∃tq,tq=T (brsT (bs.take (x+1).toNat)):=⟨_,rfl⟩
   rw [←htq]
   refine hlp (By×Int) _ _ _ [1,3,4,5,6] (fun y=>[(1,none,.val (.box 31 (.agg [.slc false 49 (.agg [.slc false 2 (.int .i64 0) []]) a0,.slc false 44 (.slc false 2 (.int .i64 0) []) a1]))),(3,none,.val (.str tq)),(4,none,.val (.str (T y.1))),(5,none,.val (.int .i64 x)),(6,none,.val (.int .i64 y.2))])
    (fun y=>x+1≤y.2∧y.2≤n∧y.1=numT (uppr ms bs.length x.toNat++rowU ms x.toNat y.2.toNat)) (fun y=>(n-y.2).toNat) ((tn,x+1)) (by subst hL;simp only [←htw];rfl) ?_ ?_
   ·refine ⟨by simp,by simp only;omega,?_⟩
    simp only [toNat_succ x0]
    rw [rowU_zero,List.append_nil,hy]
   rintro ⟨tm,y⟩ ⟨y0,y1,hm⟩ hfx2 ag2 hag2
   simp only at y0 y1 hm
   obtain ⟨tu,htu⟩:∃tu,tu=T tm:=⟨_,rfl⟩
   simp only [←htu]
   conv=>cbv
   simp only [stdEqs hL,imp_self,true_and,and_true,bif_or,bif_and,Bool.or_eq_true,Bool.or_eq_false_iff,Bool.and_eq_true,Bool.and_eq_false_iff,decide_eq_true_eq,decide_eq_false_iff_not,Bool.not_eq_true',Bool.not_eq_false',beq_iff_eq,beq_eq_false_iff_ne,ne_eq,toNat0,toNat1,ok_int,toI_int,I_frzs,I_length,I_getD,ok_ints,toL_slc,hml,hbl,gm,←hn]
   have tuE:=tnE tm tu htu
   rw [tuE]
   have tml:tm.length≤10*(36+6):=by
    have h1:=lenU x.toNat (by omega)
    have h4:=rowU_len ms x.toNat y.toNat
    have h5:=numT_len (l:=uppr ms bs.length x.toNat++rowU ms x.toNat y.toNat) fun w hw=>by
     rcases List.mem_append.1 hw with hw|hw
     ·exact okU _ (by omega) w hw
     ·exact okR _ _ (by omega) (by omega) w hw
    rw [List.length_append] at h5
    rw [hm];omega
   have tus:(tu.size:Int)=tm.length:=by rw [htu,T_size]
   have Ed:∀z,F_f_dcm z=T (dcm z):=fun z=>by rw [←H_f_dcm];rfl
   have hmy:y<n→0≤(ms.getD x.toNat []).getD y.toNat 0∧(ms.getD x.toNat []).getD y.toNat 0≤200:=fun h=>mmr x.toNat y.toNat (by omega) (by omega)
   have Qd:y<n→F_q_dcm ((ms.getD x.toNat []).getD y.toNat 0):=fun h=>by
    have:=hmy h
    rw [←H_q_dcm]
    exact ⟨by omega,by omega⟩
   have ld:y<n→(dcm ((ms.getD x.toNat []).getD y.toNat 0)).length≤9:=fun h=>by
    have:=hmy h
    exact dcm_len9 ⟨by omega,by omega⟩
   have hrl:=rl x.toNat (by omega)
   have hsn:y<n→numT (uppr ms bs.length x.toNat++rowU ms x.toNat (y+1).toNat)=(if tm=[] then [] else tm++[32])++dcm ((ms.getD x.toNat []).getD y.toNat 0):=fun h=>by
    rw [toNat_succ (by omega),rowU_succ ms (by omega),←List.append_assoc,numT_snoc,←hm]
    rfl
   rw [Ed]
   refine ⟨fun h4=>⟨fun h5=>⟨by rw [tus,s32];omega,x0,by omega,by omega,by omega,Qd h4,?_,?_⟩,fun h5=>⟨x0,by omega,by omega,by omega,Qd h4,?_,?_⟩⟩,fun h4=> ?_⟩
   ·have:=ld h4
    rw [ByteArray.size_append,s32,T_size,Int.natCast_add,tus];omega
   ·rw [wrap_id (n:=y+1) (by omega) (by omega),show tu++(⟨⟨[32]⟩⟩:ByteArray)++T (dcm ((ms.getD x.toNat []).getD y.toNat 0))=T (numT (uppr ms bs.length x.toNat++rowU ms x.toNat (y+1).toNat)) from by rw [hsn h4,if_neg h5,htu,←T_app,←T_app];rfl]
    exact hag2 (_,y+1) ⟨by simp only;omega,by simp only;omega,rfl⟩ (by simp only;omega)
   ·have:=ld h4
    rw [T_size,tus];omega
   ·rw [wrap_id (n:=y+1) (by omega) (by omega),show tu++T (dcm ((ms.getD x.toNat []).getD y.toNat 0))=T (numT (uppr ms bs.length x.toNat++rowU ms x.toNat (y+1).toNat)) from by rw [hsn h4,if_pos h5,htu,h5];exact T_app [] _]
    exact hag2 (_,y+1) ⟨by simp only;omega,by simp only;omega,rfl⟩ (by simp only;omega)
   ·rw [wrap_id (n:=x+1) (by omega) (by omega),htq,htu]
    refine hag ((_,_),x+1) ⟨by simp only;omega,by simp only;omega,rfl,?_⟩ (by simp only;omega)
    simp only [toNat_succ x0]
    rw [uppr_succ,hm,show y.toNat=bs.length by omega]
 ·cases h
end Go.Ax
