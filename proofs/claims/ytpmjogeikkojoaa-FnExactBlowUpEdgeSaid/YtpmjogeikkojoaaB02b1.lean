import Derived.Test.YtpmjogeikkojoaaB01b1
import Derived.Shelf.SlLaysM
import Derived.Test.YtpmjogeikkojoaaProg
import Derived.Sort.Row
import Derived.Shelf.SortM.Plain
import Derived.Shelf.SortM.SortNone
import Derived.Test.YtpmjogeikkojoaaAxP4b1
/-
 Graphs:what a graph is. No conditions but those of the contracts.
-/
set_option linter.all false
namespace Go.Ax
open Go.Proofs
def c_G_b (f:List V→List V→Bool) (q:List V→List V→Prop):Contract:=fun
 |[.agg [.slc false 2 (.int .i64 0) a0,.slc false 22 (.slc false 2 (.int .i64 0) []) a1]]=>some ([q a0 a1],.bool (f a0 a1))
 |_=>none
def f_isGr (ws es:List V):Bool:=isGr (unI ws) (unII es)
def q_G (ws es:List V):Prop:=IsI ws∧IsII false es
def prevE (es:List (List Int)) (k:Nat):Option (List Int):=match k with
 |0=>none
 |k+1=>some (es.getD k [])
theorem edOk_iff {n:Nat} {es:List (List Int)} {k:Nat} {e:List Int}:edOk n (prevE es k) e=true↔e.length=2∧0≤e0 e∧e0 e<e1 e∧e1 e<n∧(0<k→lexLt (es.getD (k-1) []) e=true):=by
 cases k with
 |zero=>simp [edOk,prevE,and_assoc]
 |succ k=>simp [edOk,prevE,and_assoc]
theorem within_false {xs:List Int} {a b:Int} {i:Nat} (h:i<xs.length) (hx:inRange (xs.getD i 0) a b=false):within xs a b=false:=by
 rw [within,List.all_eq_false]
 refine ⟨xs.getD i 0,?_,by rw [hx];simp⟩
 rw [List.getD_eq_getElem?_getD,List.getElem?_eq_getElem h]
 exact List.getElem_mem _
set_option maxHeartbeats 1000000 in
set_option maxRecDepth 100000 in
theorem s_spec_l11Is:Sat Try.prog 13 (c_G_b f_isGr q_G):=by
 intro args ps r h hp
 unfold c_G_b at h
 split at h
 ·rename_i a0 a1
  simp only [Option.some.injEq,Prod.mk.injEq] at h
  obtain ⟨rfl,rfl⟩:=h
  obtain ⟨⟨ws,hws⟩,es,hes⟩:q_G a0 a1:=(alls_cons.1 hp).1
  have g0:V.frzs a0=a0:=by rw [hws,I_frzs]
  have g1:V.frzs a1=a1:=by rw [hes,II_frzs]
  have hel:a1.length=es.length:=by rw [hes,II_length]
  have hwl:a0.length=ws.length:=by rw [hws,I_length]
  have hf0:f_isGr a0 a1=isGr ws es:=by rw [f_isGr,hes,hws,unII_II,unI_I]
  have gws:∀k,a0.getD k (.int .i64 0)= .int .i64 (ws.getD k 0):=fun k=>by rw [hws,I_getD]
  have ges:∀k,a1.getD k (.slc false 2 (.int .i64 0) [])= .slc false 2 (.int .i64 0) (I (es.getD k [])):=fun k=>by rw [hes,II_getD]
  obtain ⟨n,hn⟩:∃n:Int,n=ws.length:=⟨_,rfl⟩
  generalize H_inRange:inRange=F_inRange
  generalize H_f_lexLt:f_lexLt=F_f_lexLt
  generalize H_q_II:q_II=F_q_II
  refine fnOk_ofI (T:=tab) (B:=[(36,c_impl_inRange F_inRange),(37,c_ll_b F_f_lexLt F_q_II)]) (Bi:=[]) [0,1,2,3,4,5,6,7,8,9,10,11] Try.func13 rfl rfl (by kernel_rfl) (Nat.le_of_ble_eq_true rfl) mixed tabOk (by subst H_inRange H_f_lexLt H_q_II;exact (bookCons s_spec_l01In (bookCons s_spec_l01Less bookNil))) (by subst H_inRange H_f_lexLt H_q_II;exact bookINil) (by kernel_rfl) ?_
  intro L lp rr hL hr hf hlp
  have hle:=hf.1.2.1.1
  rw [hel] at hle
  conv=>cbv
  simp only [stdEqs hL,imp_self,true_and,and_true,bif_or,bif_and,Bool.or_eq_true,Bool.or_eq_false_iff,Bool.and_eq_true,Bool.and_eq_false_iff,decide_eq_true_eq,decide_eq_false_iff_not,Bool.not_eq_true',Bool.not_eq_false',beq_iff_eq,beq_eq_false_iff_ne,ne_eq,toNat0,toNat1,ok_int,toI_int,I_frzs,I_length,I_getD,ok_ints,toL_slc,hwl,←hn]
  refine ⟨fun h=> ?_,fun h=> ?_⟩
  ·have:isGr ws es=false:=by
    rcases h with h|h
    ·simp [isGr,show ¬1≤ws.length by omega]
    ·simp [isGr,show ¬ws.length≤40 by omega]
   rw [hr,hf0,this]
  have hn1:1≤ws.length:=by omega
  have hn2:ws.length≤40:=by omega
  refine hlp (Int) _ _ _ [1,3,4] (fun x=>[(1,none,.val (.box 27 (.agg [.slc false 2 (.int .i64 0) a0,.slc false 22 (.slc false 2 (.int .i64 0) []) a1]))),(3,none,.val (.int .i64 n)),(4,none,.val (.int .i64 x))])
   (fun x=>0≤x∧x≤ws.length∧within ws (-1000) 1000=within (ws.drop x.toNat) (-1000) 1000) (fun x=>(ws.length-x).toNat) (0) (by subst hL;rfl) ?_ ?_
  ·simp
  rintro i ⟨i0,i1,hI⟩ hfx ag hag
  conv=>cbv
  simp only [stdEqs hL,imp_self,true_and,and_true,bif_or,bif_and,Bool.or_eq_true,Bool.or_eq_false_iff,Bool.and_eq_true,Bool.and_eq_false_iff,decide_eq_true_eq,decide_eq_false_iff_not,Bool.not_eq_true',Bool.not_eq_false',beq_iff_eq,beq_eq_false_iff_ne,ne_eq,toNat0,toNat1,ok_int,toI_int,I_frzs,I_length,I_getD,ok_ints,toL_slc,hwl,←hn,gws]
  refine ⟨fun h1=> ?_,fun h1=> ?_⟩
  ·(repeat' first|(exact solid_one _)|(exact solid1 rfl)|(exact noown_one _)|(apply And.intro)|(intro _))<;>(try first|exact True.intro|omega|rfl|(simp only [List.length_cons,List.length_nil,I_length];omega))
   ·rename_i h2
    subst H_inRange
    rw [hr,hf0,isGr,within_false (by omega) h2]
    simp
   ·rename_i h2
    subst H_inRange
    rw [wrap_id (n:=i+1) (by omega) (by omega)]
    refine hag (i+1) ⟨by omega,by omega,?_⟩ (by omega)
    rw [hI,within,within,all_drop (by omega),toNat_succ i0,h2]
    rfl
  have hwi:within ws (-1000) 1000=true:=by
   rw [hI,List.drop_eq_nil_of_le (by omega)];rfl
  have hgr:isGr ws es=(edsOk ws.length none es&&acy (iota ws.length) es):=by
   simp [isGr,hn1,hn2,hwi]
  clear hI hag i0 i1 h1 hfx ag
  refine hlp (List V×Int) _ _ _ [1,3,5,6] (fun x=>[(1,none,.val (.box 27 (.agg [.slc false 2 (.int .i64 0) a0,.slc false 22 (.slc false 2 (.int .i64 0) []) a1]))),(3,none,.val (.int .i64 n)),(5,none,.val (.slc true 2 (.int .i64 0) x.1)),(6,none,.val (.int .i64 x.2))])
   (fun x=>0≤x.2∧x.2≤ws.length∧x.1=I (iota x.2.toNat)) (fun x=>(ws.length-x.2).toNat) (([],0)) (by subst hL;rfl) ?_ ?_
  ·exact ⟨by simp,by simp,rfl⟩
  rintro ⟨ls,i⟩ ⟨i0,i1,hI⟩ hfx ag hag
  conv=>cbv
  simp only at i0 i1 hI
  have hl:ls.length=i.toNat:=by rw [hI,I_length,iota_len]
  simp only [stdEqs hL,imp_self,true_and,and_true,bif_or,bif_and,Bool.or_eq_true,Bool.or_eq_false_iff,Bool.and_eq_true,Bool.and_eq_false_iff,decide_eq_true_eq,decide_eq_false_iff_not,Bool.not_eq_true',Bool.not_eq_false',beq_iff_eq,beq_eq_false_iff_ne,ne_eq,toNat0,toNat1,ok_int,toI_int,I_frzs,I_length,I_getD,ok_ints,toL_slc,hl,hn]
  refine ⟨fun h1=> ?_,fun h1=> ?_⟩
  ·(repeat' first|(exact solid_one _)|(exact solid1 rfl)|(exact noown_one _)|(apply And.intro)|(intro _))<;>(try first|exact True.intro|omega|rfl|(simp only [List.length_cons,List.length_nil,I_length];omega))
   rw [wrap_id (n:=i+1) (by omega) (by omega)]
   rw [←hn]
   refine hag (_,i+1) ⟨by simp only;omega,by simp only;omega,?_⟩ (by simp only;omega)
   simp only [toNat_succ i0]
   rw [hI,iota,iota,tab_succ,←I_append,Int.toNat_of_nonneg i0]
   rfl
  have hls:ls=I (iota ws.length):=by rw [hI,show i.toNat=ws.length by omega]
  clear hI hag i0 i1 h1 hfx ag hl
  refine hlp (List V×Int) _ _ _ [1,3,5,7] (fun x=>[(1,none,.val (.box 27 (.agg [.slc false 2 (.int .i64 0) a0,.slc false 22 (.slc false 2 (.int .i64 0) []) a1]))),(3,none,.val (.int .i64 n)),(5,none,.val (.slc true 2 (.int .i64 0) x.1)),(7,none,.val (.int .i64 x.2))])
   (fun x=>0≤x.2∧x.2≤es.length∧∃lab,x.1=I lab∧lab.length=ws.length∧isGr ws es=(edsOk ws.length (prevE es x.2.toNat) (es.drop x.2.toNat)&&acy lab (es.drop x.2.toNat))) (fun x=>(es.length-x.2).toNat) ((ls,0)) (by subst hL;rw [hn];rfl) ?_ ?_
  ·exact ⟨by simp,by simp,_,hls,iota_len _,hgr⟩
  clear hls hgr i ls
  rintro ⟨ls,k⟩ ⟨k0,k1,lab,hI,hll,hG⟩ hfx ag hag
  simp only at k0 k1 hI hG
  have hl:ls.length=ws.length:=by rw [hI,I_length,hll]
  have gls:∀k,ls.getD k (.int .i64 0)= .int .i64 (lab.getD k 0):=fun k=>by rw [hI,I_getD]
  conv=>cbv
  have w1:W (n-1)=n-1:=wrap_id (by omega) (by omega)
  have w2:W (k-1)=k-1:=wrap_id (by omega) (by omega)
  have hin:∀x,F_inRange x 0 (n-1)=(decide (0≤x)&&decide (x≤n-1)):=fun x=>by rw [←H_inRange];rfl
  have hlx:∀x y,F_f_lexLt (I x) (I y)=lexLt x y:=fun x y=>by rw [←H_f_lexLt,f_lexLt,unI_I,unI_I]
  have hqI:∀x y,F_q_II (I x) (I y):=fun x y=>by rw [←H_q_II];exact ⟨⟨_,rfl⟩,⟨_,rfl⟩⟩
  obtain ⟨E,hE⟩:∃E,E=es.getD k.toNat []:=⟨_,rfl⟩
  have hk1:(k-1).toNat=k.toNat-1:=by omega
  simp only [stdEqs hL,imp_self,true_and,and_true,bif_or,bif_and,Bool.or_eq_true,Bool.or_eq_false_iff,Bool.and_eq_true,Bool.and_eq_false_iff,decide_eq_true_eq,decide_eq_false_iff_not,Bool.not_eq_true',Bool.not_eq_false',beq_iff_eq,beq_eq_false_iff_ne,ne_eq,toNat0,toNat1,ok_int,toI_int,I_frzs,I_length,I_getD,ok_ints,toL_slc,hl,hel,←hn,ges,gls,w1,w2,hin,hlx,hqI,←hE,hk1,implies_true,Int.le_refl]
  refine ⟨fun h1=> ?_,fun h1=> ?_⟩
  ·have hd:es.drop k.toNat=E::es.drop (k.toNat+1):=by rw [hE];exact drop_cons [] (by omega)
   have hG1:isGr ws es=(edOk ws.length (prevE es k.toNat) E&&edsOk ws.length (some E) (es.drop (k.toNat+1))&&(!(gI lab (e0 E)==gI lab (e1 E))&&acy (relab (gI lab (e0 E)) (gI lab (e1 E)) lab) (es.drop (k.toNat+1)))):=by
    rw [hG,hd];rfl
   (repeat' first|(exact solid_one _)|(exact solid1 rfl)|(exact noown_one _)|(apply And.intro)|(intro _))<;>(try first|exact True.intro|omega|rfl|(simp only [List.length_cons,List.length_nil,I_length];omega))
   ·rename_i h2
    have:edOk ws.length (prevE es k.toNat) E=false:=by
     cases hb:edOk ws.length (prevE es k.toNat) E with
     |false=>rfl
     |true=>
      obtain ⟨x1,x2,x3,x4,x5⟩:=edOk_iff.1 hb
      simp only [e0,e1] at x2 x3 x4
      rcases h2 with (((h2|h2)|h2)|h2)|h2
      ·omega
      ·omega
      ·omega
      ·omega
      ·rw [x5 (by omega)] at h2
       cases h2.2
    rw [hr,hf0,hG1,this]
    rfl
   ·rename_i h2 h3
    have:(!(gI lab (e0 E)==gI lab (e1 E)))=false:=by
     rw [show gI lab (e0 E)=gI lab (e1 E) from h3]
     simp
    rw [hr,hf0,hG1,this]
    simp
   ·rename_i h2 h3
    obtain ⟨⟨⟨⟨y1,y2⟩,y3⟩,y4⟩,y5⟩:=h2
    have hok:edOk ws.length (prevE es k.toNat) E=true:=edOk_iff.2 ⟨by omega,y2.1,by simp only [e0,e1];omega,by simp only [e1];omega,fun hk=>y5.resolve_left (by omega)⟩
    have hab:(!(gI lab (e0 E)==gI lab (e1 E)))=true:=by
     simp only [Bool.not_eq_true',beq_eq_false_iff_ne,ne_eq]
     exact h3
    rw [hok,hab,Bool.true_and,Bool.true_and] at hG1
    obtain ⟨va,ha⟩:∃va,va=gI lab (e0 E):=⟨_,rfl⟩
    obtain ⟨vb,hb⟩:∃vb,vb=gI lab (e1 E):=⟨_,rfl⟩
    rw [show lab.getD (E.getD 0 0).toNat 0=va from ha.symm,show lab.getD (E.getD 1 0).toNat 0=vb from hb.symm]
    rw [←ha,←hb] at hG1
    have ul:(relab va vb lab).length=lab.length:=relab_len _ _ _
    refine hlp (List V×Int) _ _ _ [1,3,5,7,9,10,11] (fun x=>[(1,none,.val (.box 27 (.agg [.slc false 2 (.int .i64 0) a0,.slc false 22 (.slc false 2 (.int .i64 0) []) a1]))),(3,none,.val (.int .i64 n)),(5,none,.val (.slc true 2 (.int .i64 0) x.1)),(7,none,.val (.int .i64 k)),(9,none,.val (.int .i64 va)),(10,none,.val (.int .i64 vb)),(11,none,.val (.int .i64 x.2))])
     (fun x=>0≤x.2∧x.2≤lab.length∧x.1=I ((relab va vb lab).take x.2.toNat++lab.drop x.2.toNat)) (fun x=>(lab.length-x.2).toNat) ((ls,0)) (by subst hL;rfl) ?_ ?_
    ·simp [hI]
    rintro ⟨fs,j⟩ ⟨j0,j1,hK⟩ hfx2 ag2 hag2
    simp only at j0 j1 hK
    have hl2:fs.length=lab.length:=by rw [hK,I_length,map_len _ _ _ ul (by omega)]
    have gfs:∀j',fs.getD j' (.int .i64 0)= .int .i64 (((relab va vb lab).take j.toNat++lab.drop j.toNat).getD j' 0):=fun j'=>by rw [hK,I_getD]
    conv=>cbv
    simp only [stdEqs hL,imp_self,true_and,and_true,bif_or,bif_and,Bool.or_eq_true,Bool.or_eq_false_iff,Bool.and_eq_true,Bool.and_eq_false_iff,decide_eq_true_eq,decide_eq_false_iff_not,Bool.not_eq_true',Bool.not_eq_false',beq_iff_eq,beq_eq_false_iff_ne,ne_eq,toNat0,toNat1,ok_int,toI_int,I_frzs,I_length,I_getD,ok_ints,toL_slc,hl2,gfs]
    refine ⟨fun h4=> ?_,fun h4=> ?_⟩
    ·have hj:j.toNat<lab.length:=by omega
     have hu:(relab va vb lab).getD j.toNat 0=if lab.getD j.toNat 0=vb then va else lab.getD j.toNat 0:=relab_get _ _ _ _ hj
     rw [map_at _ _ _ ul hj]
     have fin:∀gs,gs=I ((relab va vb lab).take (j.toNat+1)++lab.drop (j.toNat+1))→ag2 [(1,none,.val (.box 27 (.agg [.slc false 2 (.int .i64 0) a0,.slc false 22 (.slc false 2 (.int .i64 0) []) a1]))),(3,none,.val (.int .i64 n)),(5,none,.val (.slc true 2 (.int .i64 0) gs)),(7,none,.val (.int .i64 k)),(9,none,.val (.int .i64 va)),(10,none,.val (.int .i64 vb)),(11,none,.val (.int .i64 (j+1)))]:=fun gs hg=>
      hag2 (gs,j+1) ⟨by simp only;omega,by simp only;omega,by simp only [toNat_succ j0];exact hg⟩ (by simp only;omega)
     rw [wrap_id (n:=j+1) (by omega) (by omega)]
     (repeat' first|(exact solid_one _)|(exact solid1 rfl)|(exact noown_one _)|(apply And.intro)|(intro _))<;>(try first|exact True.intro|omega|rfl|(simp only [List.length_cons,List.length_nil,I_length];omega))
     ·rename_i h5
      refine fin _ ?_
      rw [hK,I_set,←map_step _ _ _ ul hj,hu,if_pos h5]
     ·rename_i h5
      refine fin _ ?_
      rw [hK,←map_same _ _ _ ul hj (by rw [hu,if_neg h5])]
    ·rw [wrap_id (n:=k+1) (by omega) (by omega)]
     refine hag (fs,k+1) ⟨by simp only;omega,by simp only;omega,relab va vb lab,?_,by rw [ul,hll],?_⟩ (by simp only;omega)
     ·simp only
      rw [hK,List.take_of_length_le (by omega),List.drop_eq_nil_of_le (by omega),List.append_nil]
     ·simp only [toNat_succ k0]
      rw [hG1,prevE,←hE]
  ·rw [hr,hf0,hG,List.drop_eq_nil_of_le (by omega)]
   rfl
 ·cases h
theorem edsOk_step {n:Nat} {es:List (List Int)} {k:Nat} (h:k<es.length):edsOk n (prevE es k) (es.drop k)=(edOk n (prevE es k) (es.getD k [])&&edsOk n (prevE es (k+1)) (es.drop (k+1))):=by
 rw [drop_cons [] h];rfl
set_option maxHeartbeats 1000000 in
set_option maxRecDepth 100000 in
theorem s_impl_IsGraph:Sat Try.prog 21 (c_G_b f_isGr q_G):=by
 intro args ps r h hp
 unfold c_G_b at h
 split at h
 ·rename_i a0 a1
  simp only [Option.some.injEq,Prod.mk.injEq] at h
  obtain ⟨rfl,rfl⟩:=h
  obtain ⟨⟨ws,hws⟩,es,hes⟩:q_G a0 a1:=(alls_cons.1 hp).1
  have g0:V.frzs a0=a0:=by rw [hws,I_frzs]
  have g1:V.frzs a1=a1:=by rw [hes,II_frzs]
  have hel:a1.length=es.length:=by rw [hes,II_length]
  have hwl:a0.length=ws.length:=by rw [hws,I_length]
  have hf0:f_isGr a0 a1=isGr ws es:=by rw [f_isGr,hes,hws,unII_II,unI_I]
  have gws:∀k,a0.getD k (.int .i64 0)= .int .i64 (ws.getD k 0):=fun k=>by rw [hws,I_getD]
  have ges:∀k,a1.getD k (.slc false 2 (.int .i64 0) [])= .slc false 2 (.int .i64 0) (I (es.getD k [])):=fun k=>by rw [hes,II_getD]
  obtain ⟨n,hn⟩:∃n:Int,n=ws.length:=⟨_,rfl⟩
  obtain ⟨m,hm⟩:∃m:Int,m=es.length:=⟨_,rfl⟩
  have hwi:f_within a0 (-1000) 1000=within ws (-1000) 1000:=by rw [f_within,hws,unI_I]
  generalize H_f_within:f_within=F_f_within
  generalize H_IsI:IsI=F_IsI
  generalize H_f_cmpL:f_cmpL=F_f_cmpL
  generalize H_q_II:q_II=F_q_II
  generalize H_f_labs:f_labs=F_f_labs
  generalize H_q_labs:q_labs=F_q_labs
  generalize H_f_maxL:f_maxL=F_f_maxL
  generalize H_q_ne:q_ne=F_q_ne
  refine fnOk_ofI (T:=tab) (B:=[(42,c_impl_within F_f_within F_IsI),(43,c_ll_i F_f_cmpL F_q_II),(45,c_im_l F_f_labs F_q_labs),(44,c_l_i F_f_maxL F_q_ne)]) (Bi:=[]) [0,1,2,3,4,5,6,30,31,32] Try.func21 rfl rfl (by kernel_rfl) (Nat.le_of_ble_eq_true rfl) mixed tabOk (by subst H_f_within H_IsI H_f_cmpL H_q_II H_f_labs H_q_labs H_f_maxL H_q_ne;exact (bookCons s_impl_within (bookCons s_slicesCompare (bookCons s_impl_labels (bookCons s_slicesMax bookNil))))) (by subst H_f_within H_IsI H_f_cmpL H_q_II H_f_labs H_q_labs H_f_maxL H_q_ne;exact bookINil) (by kernel_rfl) ?_
  intro L lp rr hL hr hf hlp
  have hle:=hf.1.2.1.1
  rw [hel] at hle
  have hwi':F_f_within a0 (-1000) 1000=within ws (-1000) 1000:=by rw [←H_f_within];exact hwi
  have hqI:F_IsI a0:=by rw [←H_IsI];exact ⟨ws,hws⟩
  conv=>cbv
  simp only [stdEqs hL,imp_self,true_and,and_true,bif_or,bif_and,Bool.or_eq_true,Bool.or_eq_false_iff,Bool.and_eq_true,Bool.and_eq_false_iff,decide_eq_true_eq,decide_eq_false_iff_not,Bool.not_eq_true',Bool.not_eq_false',beq_iff_eq,beq_eq_false_iff_ne,ne_eq,toNat0,toNat1,ok_int,toI_int,I_frzs,I_length,I_getD,ok_ints,toL_slc,hwl,hel,g0,g1,←hn,←hm,hwi',hqI,implies_true]
  refine ⟨fun h=> ?_,fun h=> ?_⟩
  ·have:isGr ws es=false:=by
    cases hg:isGr ws es with
    |false=>rfl
    |true=>
     simp only [isGr,Bool.and_eq_true,decide_eq_true_eq] at hg
     obtain ⟨⟨⟨⟨x1,x2⟩,x3⟩,x4⟩,x5⟩:=hg
     have x6:=(comp_iff (n:=ws.length) (es:=es) (by omega) (fun e he=>(edsOk_in x4 e he).1)).2.2.2.2 x5
     rw [x3] at h
     rcases h with ((h|h)|h)|h
     ·omega
     ·omega
     ·cases h
     ·omega
   rw [hr,hf0,this]
  obtain ⟨⟨⟨q1,q2⟩,q3⟩,q4⟩:=h
  have hn1:1≤ws.length:=by omega
  have hn2:ws.length≤40:=by omega
  have hgr:isGr ws es=(edsOk ws.length none es&&acy (iota ws.length) es):=by
   simp [isGr,hn1,hn2,q3]
  refine hlp (Int) _ _ _ [1,3,30,31,32] (fun x=>[(1,none,.val (.box 27 (.agg [.slc false 2 (.int .i64 0) a0,.slc false 22 (.slc false 2 (.int .i64 0) []) a1]))),(3,none,.val (.int .i64 n)),(30,none,.val (.slc false 22 (.slc false 2 (.int .i64 0) []) a1)),(31,none,.val (.int .i64 m)),(32,none,.val (.int .i64 x))])
   (fun x=>0≤x∧x≤es.length∧edsOk ws.length none es=edsOk ws.length (prevE es x.toNat) (es.drop x.toNat)) (fun x=>(es.length-x).toNat) (0) (by subst hL;rfl) ?_ ?_
  ·simp [prevE]
  rintro k ⟨k0,k1,hI⟩ hfx ag hag
  conv=>cbv
  have w2:W (k-1)=k-1:=wrap_id (by omega) (by omega)
  have hcm:∀x y,F_f_cmpL (I x) (I y)=cmpL x y:=fun x y=>by rw [←H_f_cmpL,f_cmpL,unI_I,unI_I]
  have hqJ:∀x y,F_q_II (I x) (I y):=fun x y=>by rw [←H_q_II];exact ⟨⟨_,rfl⟩,⟨_,rfl⟩⟩
  obtain ⟨E,hE⟩:∃E,E=es.getD k.toNat []:=⟨_,rfl⟩
  have hk1:(k-1).toNat=k.toNat-1:=by omega
  simp only [stdEqs hL,imp_self,true_and,and_true,bif_or,bif_and,Bool.or_eq_true,Bool.or_eq_false_iff,Bool.and_eq_true,Bool.and_eq_false_iff,decide_eq_true_eq,decide_eq_false_iff_not,Bool.not_eq_true',Bool.not_eq_false',beq_iff_eq,beq_eq_false_iff_ne,ne_eq,toNat0,toNat1,ok_int,toI_int,I_frzs,I_length,I_getD,ok_ints,toL_slc,hel,←hm,ges,g1,w2,hcm,hqJ,←hE,hk1,implies_true,Int.le_refl]
  have hlx:∀x y,(0≤cmpL x y)↔lexLt x y=false:=fun x y=>by
   have:=cmpL_lt x y
   cases hh:lexLt x y<;>simp [hh] at this ⊢ <;>omega
  refine ⟨fun h1=> ?_,fun h1=> ?_⟩
  ·have hst:edsOk ws.length none es=(edOk ws.length (prevE es k.toNat) E&&edsOk ws.length (prevE es (k.toNat+1)) (es.drop (k.toNat+1))):=by
    rw [hI,edsOk_step (by omega),←hE]
   have bad:edOk ws.length (prevE es k.toNat) E=false→V.bool false=rr:=by
    intro h
    rw [hr,hf0,hgr,hst,h]
    rfl
   (repeat' first|(exact solid_one _)|(exact solid1 rfl)|(exact noown_one _)|(apply And.intro)|(intro _))<;>(try first|exact True.intro|omega|rfl|(simp only [List.length_cons,List.length_nil,I_length];omega))
   ·rename_i h2
    refine bad ?_
    cases hb:edOk ws.length (prevE es k.toNat) E with
    |false=>rfl
    |true=>
     obtain ⟨x1,x2,x3,x4,x5⟩:=edOk_iff.1 hb
     simp only [e0,e1] at x2 x3 x4
     omega
   ·rename_i h2 h3
    refine bad ?_
    cases hb:edOk ws.length (prevE es k.toNat) E with
    |false=>rfl
    |true=>
     obtain ⟨x1,x2,x3,x4,x5⟩:=edOk_iff.1 hb
     have:=(hlx _ _).1 h3.2
     rw [x5 (by omega)] at this
     cases this
   ·rename_i h2 h3
    have hok:edOk ws.length (prevE es k.toNat) E=true:=edOk_iff.2 ⟨by omega,by simp only [e0];omega,by simp only [e0,e1];omega,by simp only [e1];omega,fun hk=>by
     cases hh:lexLt (es.getD (k.toNat-1) []) E with
     |true=>rfl
     |false=>
      have:=(hlx _ _).2 hh
      rcases h3 with h3|h3<;>omega⟩
    rw [wrap_id (n:=k+1) (by omega) (by omega)]
    refine hag (k+1) ⟨by omega,by omega,?_⟩ (by omega)
    rw [toNat_succ k0,hst,hok,Bool.true_and]
  have hok:edsOk ws.length none es=true:=by
   rw [hI,List.drop_eq_nil_of_le (by omega)]
   rfl
  have hed:∀e∈es,EdIn ws.length e:=fun e he=>(edsOk_in hok e he).1
  obtain ⟨c1,c2,c3,c4,c5⟩:=comp_iff (n:=ws.length) (es:=es) (by omega) hed
  have hnn:n.toNat=ws.length:=by omega
  subst H_f_labs H_q_labs H_f_maxL H_q_ne
  have hlb:f_labs n a1=I (labs ws.length es):=by rw [f_labs,hnn,hes,unII_II]
  have hll:(labs ws.length es).length=ws.length:=by rw [labs,rn_len,c1.len]
  simp only [hlb,I_frzs,f_maxL,unI_I]
  have hcb:=cntR_bound (uniAll (iota ws.length) es) ws.length
  refine ⟨⟨by omega,by omega,es,hes,by rw [hnn];exact hed⟩,⟨⟨_,rfl⟩,fun h=> ?_⟩,?_⟩
  ·have:=congrArg List.length h
   rw [I_length,hll,List.length_nil] at this
   omega
  ·rw [hr,hf0,hgr,hok,Bool.true_and]
   rw [wrap_id (n:=maxL (labs ws.length es)+1) (by omega) (by omega),wrap_id (by omega) (by omega)]
   congr 1
   cases hb:acy (iota ws.length) es with
   |true=>
    have:=c4.1 hb
    simp only [beq_iff_eq]
    omega
   |false=>
    have:¬maxL (labs ws.length es)+1+es.length=ws.length:=fun h=>by
     rw [c4.2 h] at hb;cases hb
    simp only [beq_eq_false_iff_ne]
    omega
 ·cases h
theorem szGo_ok:∀(l:List (List Int)) (left:Int),0≤left→left≤1048576→(∀x∈l,x.length≤9223372036854775807)→¬szGo l left<0→tot l≤left∧∀x∈l,x.length≤1048576
 |[],left,h,_,_,_=>⟨by simpa [tot] using h,fun x hx=>by cases hx⟩
 |x::l,left,h,h2,hl,hs=>by
  have hx:=hl x (by simp)
  have e1:IntKind.wrap .i64 (left-x.length)=left-x.length:=wrap_id (by omega) (by omega)
  have e2:szL x.length left=bif decide (left-x.length<0) then-1 else left-x.length:=by rw [szL,e1]
  simp only [szGo] at hs
  by_cases h3:left-(x.length:Int)<0
  ·rw [e2,decide_eq_true h3] at hs
   simp at hs
  ·rw [e2,decide_eq_false h3,cond_false,decide_eq_false h3,cond_false] at hs
   obtain ⟨h4,h5⟩:=szGo_ok l _ (by omega) (by omega) (fun y hy=>hl y (by simp [hy])) hs
   refine ⟨by simp only [tot];omega,fun y hy=> ?_⟩
   rcases List.mem_cons.1 hy with rfl|hy
   ·omega
   ·exact h5 y hy
theorem szSS_ok {l:List (List Int)} {left:Int} (h:0≤left) (h2:left≤1048576) (hl0:l.length≤9223372036854775807) (hl:∀x∈l,x.length≤9223372036854775807) (hs:¬szSS l left<0):l.length≤1048576∧tot l≤1048576∧∀x∈l,x.length≤1048576:=by
 have e1:IntKind.wrap .i64 (left-l.length)=left-l.length:=wrap_id (by omega) (by omega)
 unfold szSS at hs
 rw [show W (left-l.length)=left-l.length from e1] at hs
 by_cases h3:left-(l.length:Int)<0
 ·rw [decide_eq_true h3] at hs
  simp at hs
 ·rw [decide_eq_false h3,cond_false] at hs
  obtain ⟨h4,h5⟩:=szGo_ok l _ (by omega) (by omega) hl hs
  exact ⟨by omega,by omega,h5⟩
theorem lenOks_mem {o:Bool} {xss:List (List Int)} (h:V.lenOks (II o xss)):∀x∈xss,x.length≤9223372036854775807:=by
 intro x hx
 obtain ⟨i,hi,rfl⟩:=List.mem_iff_getElem.1 hx
 have:=lenOks_II h i hi
 rwa [List.getD_eq_getElem?_getD,List.getElem?_eq_getElem hi] at this
theorem szG_ok {a0 a1:List V} (h1:IsII false a1) (hf0:a0.length≤9223372036854775807) (hf1:a1.length≤9223372036854775807) (hf2:V.lenOks a1) (h0:IsI a0) (h:decide (f_szG a0 a1 1048576<0)=false):q_cpG a0 a1∧a0.length≤1048576∧tot (unII a1)≤1048576:=by
 obtain ⟨es,hes⟩:=h1
 subst hes
 rw [II_length] at hf1
 unfold f_szG at h
 have e1:IntKind.wrap .i64 ((1048576:Int)-a0.length)=1048576-a0.length:=wrap_id (by omega) (by omega)
 have e2:szL a0.length 1048576=bif decide ((1048576:Int)-a0.length<0) then (-1:Int) else (1048576:Int)-a0.length:=by rw [szL,e1]
 by_cases h3:(1048576:Int)-a0.length<0
 ·rw [e2,decide_eq_true h3] at h
  simp at h
 ·rw [e2,decide_eq_false h3,cond_false,decide_eq_false h3,cond_false,unII_II,decide_eq_false_iff_not] at h
  obtain ⟨h4,h5,h6⟩:=szSS_ok (by omega) (by omega) hf1 (lenOks_mem hf2) h
  refine ⟨⟨⟨h0,by omega⟩,es,rfl,by omega,fun x hx=>by have:=h6 x hx;omega⟩,by omega,by rw [unII_II];exact h5⟩
theorem graph_keys (ws:List Int) (es:List (List Int)):q_eqG (I ws) (II false es) (I ws) (II false es)∧f_eqG (I ws) (II false es) (I ws) (II false es)=true∧V.frzs (II true es)=II false es:=
 ⟨⟨⟨⟨_,rfl⟩,⟨_,rfl⟩⟩,⟨_,rfl⟩,⟨_,rfl⟩⟩,by simp [f_eqG,f0_eqI,f0_eqSS],II_frzs _ _⟩
end Go.Ax
set_option linter.all false
namespace Go.Ax
open Go.Proofs
structure Gr (ws:List Int) (es:List (List Int)):Prop where
 is:isGr ws es=true
 n1:1≤ws.length
 n2:ws.length≤40
 wlo:∀i,i<ws.length→-1000≤ws.getD i 0∧ws.getD i 0≤1000
 eok:edsOk ws.length none es=true
 ed:∀e∈es,EdIn ws.length e
 lt:∀e∈es,e0 e<e1 e
 el:es.length<ws.length
 acyc:acy (iota ws.length) es=true
theorem gr_of {ws:List Int} {es:List (List Int)} (h:isGr ws es=true):Gr ws es:=by
 have h':=h
 simp only [isGr,Bool.and_eq_true,decide_eq_true_eq] at h'
 obtain ⟨⟨⟨⟨x1,x2⟩,x3⟩,x4⟩,x5⟩:=h'
 have he:=fun e he=>edsOk_in x4 e he
 refine ⟨h,x1,x2,fun i hi=> ?_,x4,fun e h=>(he e h).1,fun e h=>(he e h).2,(comp_iff (n:=ws.length) (es:=es) (by omega) (fun e h=>(he e h).1)).2.2.2.2 x5,x5⟩
 simp only [within,List.all_eq_true,inRange,Bool.and_eq_true,decide_eq_true_eq] at x3
 rw [List.getD_eq_getElem?_getD,List.getElem?_eq_getElem hi]
 exact x3 _ (List.getElem_mem hi)
def nearA (es:List (List Int)) (v:Int):List Int:=(es.filter fun e=>e1 e==v).map e0
def nearB (es:List (List Int)) (v:Int):List Int:=(es.filter fun e=>e0 e==v).map e1
def near (es:List (List Int)) (v:Int):List Int:=nearA es v++nearB es v
theorem nearA_len (es:List (List Int)) (v:Int):(nearA es v).length≤es.length:=by
 rw [nearA,List.length_map];exact List.length_filter_le _ _
theorem nearB_len (es:List (List Int)) (v:Int):(nearB es v).length≤es.length:=by
 rw [nearB,List.length_map];exact List.length_filter_le _ _
theorem nearA_step (es:List (List Int)) (v:Int) (k:Nat) (h:k<es.length):nearA (es.take (k+1)) v=nearA (es.take k) v++(if e1 (es.getD k [])=v then [e0 (es.getD k [])] else []):=by
 rw [take_succ_tot _ _ h,nearA,nearA,List.filter_append,List.map_append]
 congr 1
 generalize es.getD k []=E
 by_cases hh:e1 E=v
 ·simp [hh]
 ·simp [hh]
theorem nearB_step (es:List (List Int)) (v:Int) (k:Nat) (h:k<es.length):nearB (es.take (k+1)) v=nearB (es.take k) v++(if e0 (es.getD k [])=v then [e1 (es.getD k [])] else []):=by
 rw [take_succ_tot _ _ h,nearB,nearB,List.filter_append,List.map_append]
 congr 1
 generalize es.getD k []=E
 by_cases hh:e0 E=v
 ·simp [hh]
 ·simp [hh]
def c_Gi_l (f:List V→List V→Int→List V) (q:List V→List V→Int→Prop):Contract:=fun
 |[.agg [.slc false 2 (.int .i64 0) a0,.slc false 22 (.slc false 2 (.int .i64 0) []) a1],.int .i64 a2]=>some ([q a0 a1 a2],.slc true 2 (.int .i64 0) (f a0 a1 a2))
 |_=>none
def f_near (_ es:List V) (v:Int):List V:=I (near (unII es) v)
def q_near (ws es:List V) (_:Int):Prop:=IsI ws∧∃ess,es=II false ess∧ess.length≤1000000∧∀e∈ess,e.length=2
set_option maxHeartbeats 1000000 in
set_option maxRecDepth 100000 in
theorem s_spec_l11Near:Sat Try.prog 17 (c_Gi_l f_near q_near):=by
 intro args ps r h hp
 unfold c_Gi_l at h
 split at h
 ·rename_i a0 a1 a2
  simp only [Option.some.injEq,Prod.mk.injEq] at h
  obtain ⟨rfl,rfl⟩:=h
  obtain ⟨hq0,es,hes,hel1,hel2⟩:q_near a0 a1 a2:=(alls_cons.1 hp).1
  have hel:a1.length=es.length:=by rw [hes,II_length]
  have hf0:f_near a0 a1 a2=I (near es a2):=by rw [f_near,hes,unII_II]
  have ges:∀k,a1.getD k (.slc false 2 (.int .i64 0) [])= .slc false 2 (.int .i64 0) (I (es.getD k [])):=fun k=>by rw [hes,II_getD]
  refine fnOk_ofI (T:=tab) (B:=[]) (Bi:=[]) [0,1,2,4,5,6,7] Try.func17 rfl rfl (by kernel_rfl) (Nat.le_of_ble_eq_true rfl) mixed tabOk (by exact bookNil) (by exact bookINil) (by kernel_rfl) ?_
  intro L lp rr hL hr hf hlp
  conv=>cbv
  refine hlp (List V×Int) _ _ _ [1,2,5,6] (fun x=>[(1,none,.val (.int .i64 a2)),(2,none,.val (.box 27 (.agg [.slc false 2 (.int .i64 0) a0,.slc false 22 (.slc false 2 (.int .i64 0) []) a1]))),(5,none,.val (.slc true 2 (.int .i64 0) x.1)),(6,none,.val (.int .i64 x.2))])
   (fun x=>0≤x.2∧x.2≤es.length∧x.1=I (nearA (es.take x.2.toNat) a2)) (fun x=>(es.length-x.2).toNat) (([],0)) (by subst hL;rfl) ?_ ?_
  ·exact ⟨by simp,by simp,rfl⟩
  rintro ⟨ls,k⟩ ⟨k0,k1,hI⟩ hfx ag hag
  simp only at k0 k1 hI
  have hl:ls.length≤1000000:=by
   rw [hI,I_length]
   have:=nearA_len (es.take k.toNat) a2
   rw [List.length_take] at this
   omega
  conv=>cbv
  obtain ⟨E,hE⟩:∃E,E=es.getD k.toNat []:=⟨_,rfl⟩
  simp only [stdEqs hL,imp_self,true_and,and_true,bif_or,bif_and,Bool.or_eq_true,Bool.or_eq_false_iff,Bool.and_eq_true,Bool.and_eq_false_iff,decide_eq_true_eq,decide_eq_false_iff_not,Bool.not_eq_true',Bool.not_eq_false',beq_iff_eq,beq_eq_false_iff_ne,ne_eq,toNat0,toNat1,ok_int,toI_int,I_frzs,I_length,I_getD,ok_ints,toL_slc,hel,ges,←hE]
  refine ⟨fun h1=> ?_,fun h1=> ?_⟩
  ·have hEl:E.length=2:=by rw [hE];exact hel2 _ (mem_getD (by omega))
   have hst:=nearA_step es a2 k.toNat (by omega)
   rw [←hE] at hst
   rw [wrap_id (n:=k+1) (by omega) (by omega)]
   (repeat' first|(exact solid_one _)|(exact solid1 rfl)|(exact noown_one _)|(apply And.intro)|(intro _))<;>(try first|exact True.intro|omega|rfl|(simp only [List.length_cons,List.length_nil,I_length];omega))
   ·rename_i h2
    refine hag (_,k+1) ⟨by simp only;omega,by simp only;omega,?_⟩ (by simp only;omega)
    simp only [toNat_succ k0]
    rw [hst,if_pos (by simp only [e1];omega),hI,←I_append]
    rfl
   ·rename_i h2
    refine hag (_,k+1) ⟨by simp only;omega,by simp only;omega,?_⟩ (by simp only;omega)
    simp only [toNat_succ k0]
    rw [hst,if_neg (by simp only [e1];omega),hI,List.append_nil]
  have hls:ls=I (nearA es a2):=by rw [hI,List.take_of_length_le (by omega)]
  clear hI hag hfx ag k0 k1 h1 hE
  refine hlp (List V×Int) _ _ _ [1,2,5,7] (fun x=>[(1,none,.val (.int .i64 a2)),(2,none,.val (.box 27 (.agg [.slc false 2 (.int .i64 0) a0,.slc false 22 (.slc false 2 (.int .i64 0) []) a1]))),(5,none,.val (.slc true 2 (.int .i64 0) x.1)),(7,none,.val (.int .i64 x.2))])
   (fun x=>0≤x.2∧x.2≤es.length∧x.1=I (nearA es a2++nearB (es.take x.2.toNat) a2)) (fun x=>(es.length-x.2).toNat) ((ls,0)) (by subst hL;rfl) ?_ ?_
  ·exact ⟨by simp,by simp,by rw [hls];simp [nearB]⟩
  rintro ⟨ls2,k2⟩ ⟨k0,k1,hI⟩ hfx ag hag
  simp only at k0 k1 hI
  have hl2:ls2.length≤2000000:=by
   rw [hI,I_length,List.length_append]
   have:=nearB_len (es.take k2.toNat) a2
   have:=nearA_len es a2
   rw [List.length_take] at*
   omega
  conv=>cbv
  obtain ⟨E,hE⟩:∃E,E=es.getD k2.toNat []:=⟨_,rfl⟩
  simp only [stdEqs hL,imp_self,true_and,and_true,bif_or,bif_and,Bool.or_eq_true,Bool.or_eq_false_iff,Bool.and_eq_true,Bool.and_eq_false_iff,decide_eq_true_eq,decide_eq_false_iff_not,Bool.not_eq_true',Bool.not_eq_false',beq_iff_eq,beq_eq_false_iff_ne,ne_eq,toNat0,toNat1,ok_int,toI_int,I_frzs,I_length,I_getD,ok_ints,toL_slc,hel,ges,←hE]
  refine ⟨fun h1=> ?_,fun h1=> ?_⟩
  ·have hEl:E.length=2:=by rw [hE];exact hel2 _ (mem_getD (by omega))
   have hst:=nearB_step es a2 k2.toNat (by omega)
   rw [←hE] at hst
   rw [wrap_id (n:=k2+1) (by omega) (by omega)]
   (repeat' first|(exact solid_one _)|(exact solid1 rfl)|(exact noown_one _)|(apply And.intro)|(intro _))<;>(try first|exact True.intro|omega|rfl|(simp only [List.length_cons,List.length_nil,I_length];omega))
   ·rename_i h2
    refine hag (_,k2+1) ⟨by simp only;omega,by simp only;omega,?_⟩ (by simp only;omega)
    simp only [toNat_succ k0]
    rw [hst,if_pos (by simp only [e0];omega),hI,←List.append_assoc]
    simp only [←I_append]
    rfl
   ·rename_i h2
    refine hag (_,k2+1) ⟨by simp only;omega,by simp only;omega,?_⟩ (by simp only;omega)
    simp only [toNat_succ k0]
    rw [hst,if_neg (by simp only [e0];omega),hI,List.append_nil]
  ·rw [hr,hf0,hI,List.take_of_length_le (by omega),near]
 ·cases h
def ic_markG (f0:List V→List V→Int→Int) (f1 f2:List V→List V→Int→List V) (q:List V→List V→Int→Prop):IContract:=fun
 |[.agg [.slc true 2 (.int .i64 0) a0,.slc true 22 (.slc true 2 (.int .i64 0) []) a1],.int .i64 k]=>some ([q a0 a1 k],.int .i64 (f0 a0 a1 k),.agg [.slc true 2 (.int .i64 0) (f1 a0 a1 k),.slc true 22 (.slc true 2 (.int .i64 0) []) (f2 a0 a1 k)])
 |_=>none
def f0_markG (a0 a1:List V) (k:Int):Int:=f0_markSS a1 (f0_mark a0 k)
def f1_markG (a0 _:List V) (k:Int):List V:=f1_mark a0 k
def f2_markG (a0 a1:List V) (k:Int):List V:=f1_markSS a1 (f0_mark a0 k)
def q_markG (a0 a1:List V) (k:Int):Prop:=q_mark a0 k∧q_markO a1 (f0_mark a0 k)
set_option maxHeartbeats 1000000 in
set_option maxRecDepth 100000 in
theorem s_laws_markGraph:SatI Try.prog 9 0 (ic_markG f0_markG f1_markG f2_markG q_markG):=by
 intro args ps r y h hp
 unfold ic_markG at h
 split at h
 ·rename_i a0 a1 k
  simp only [Option.some.injEq,Prod.mk.injEq] at h
  obtain ⟨rfl,rfl,rfl⟩:=h
  obtain ⟨h0,h1⟩:q_markG a0 a1 k:=(alls_cons.1 hp).1
  have hf0:f0_markG a0 a1 k=f0_markSS a1 (f0_mark a0 k):=rfl
  have hf1:f1_markG a0 a1 k=f1_mark a0 k:=rfl
  have hf2:f2_markG a0 a1 k=f1_markSS a1 (f0_mark a0 k):=rfl
  generalize H_f0_mark:f0_mark=F_f0_mark
  generalize H_f1_mark:f1_mark=F_f1_mark
  generalize H_q_mark:q_mark=F_q_mark
  generalize H_f0_markSS:f0_markSS=F_f0_markSS
  generalize H_f1_markSS:f1_markSS=F_f1_markSS
  generalize H_q_markO:q_markO=F_q_markO
  refine fnIO_of (T:=tab) (B:=[]) (Bi:=[(32,0,false,ic_markInt64S F_f0_mark F_f1_mark F_q_mark),(33,0,false,ic_markSS F_f0_markSS F_f1_markSS F_q_markO)]) 0 [0,1,2,4] Try.func9 rfl rfl (by kernel_rfl) (Nat.le_of_ble_eq_true rfl) mixed tabOk (by subst H_f0_mark H_f1_mark H_q_mark H_f0_markSS H_f1_markSS H_q_markO;exact bookNil) (by subst H_f0_mark H_f1_mark H_q_mark H_f0_markSS H_f1_markSS H_q_markO;exact (bookICons s_laws_markInt64S (bookICons s_laws_markInt64SS bookINil))) (by kernel_rfl) rfl rfl rfl (by subst H_f0_mark H_f1_markSS H_f1_mark;obtain ⟨⟨xs,rfl⟩,_⟩:=h0;obtain ⟨⟨ys,rfl⟩,_⟩:=h1;rw [hf1,hf2];exact Sh.agg2 (by rw [f1_mark];exact Sh.ints (by simp [marks_len])) (by rw [f1_markSS,unII_II];exact Sh.lists ys _)) rfl rfl ?_
  intro L lp rr yy hL hr hy hf hlp
  conv=>cbv
  subst H_f0_mark H_f1_mark H_q_mark H_f0_markSS H_f1_markSS H_q_markO
  rw [hr,hy,hf0,hf1,hf2]
  exact ⟨h0,h1,rfl,rfl⟩
 ·cases h
theorem markG_keys (ws:List Int) (es:List (List Int)) (h:ws.length+tot es≤4611686018427387904):
 q_markG (I ws) (II true es) 1∧f0_markG (I ws) (II true es) 1=1+ws.length+tot es∧f1_markG (I ws) (II true es) 1=I (marks ws.length 1)∧f2_markG (I ws) (II true es) 1=II true (marksGo (1+ws.length) es)∧V.noFzs (II true es)=true:=by
 have e:f0_mark (I ws) 1=1+ws.length:=by rw [f0_mark,I_length]
 refine ⟨⟨⟨⟨_,rfl⟩,by omega,by rw [I_length];omega⟩,?_⟩,by rw [f0_markG,e,f0_markSS,unII_II],by rw [f1_markG,f1_mark,I_length],by rw [f2_markG,e,f1_markSS,unII_II],II_noFzs _⟩
 rw [e]
 exact ⟨⟨_,rfl⟩,by omega,by rw [unII_II];omega⟩
end Go.Ax
set_option linter.all false
namespace Go.Ax
open Go.Proofs
def stp (a b:Nat):List (Nat×Nat):=if _h:0<b then (a/b,b)::stp b (a%b) else []
termination_by b
decreasing_by exact Nat.mod_lt _ (by assumption)
def ex (a b:Nat):List Nat:=(stp a b).flatMap fun p=>List.replicate p.1 p.2
def blocks:List (Nat×Nat)→List Nat
 |[]=>[]
 |(k,e)::l=>ex k e++blocks l
def sumM (M:Nat→Nat) (i:Nat):Nat→Nat
 |0=>0
 |k+1=>sumM M i k+M (i+1+k)
structure GoodM (M:Nat→Nat):Prop where
 pos:∀i,1≤M i
 fall:∀i,M (i+1)≤M i
 drop:∀i,M (i+1)<M i→∃c r,M i=c*M (i+1)+r∧r<M (i+1)∧1≤c∧(∀t,t<c→M (i+1+t)=M (i+1))∧(0<r→M (i+1+c)=r)
end Go.Ax
set_option linter.all false
namespace Go.Ax
open Go.Proofs
def kkI (xs:List Int) (i:Nat):Int:=xs.getD (i+1) 0-(if i=0 then 0 else xs.getD i 0)
end Go.Ax
set_option linter.all false
namespace Go.Ax
open Go.Proofs
def ddN (xs:List Int) (i:Nat):Nat:=((dv xs).getD i 0).toNat
def kkN (xs:List Int) (i:Nat):Nat:=(kkI xs i).toNat
def blk (xs:List Int) (i:Nat):Nat→List (Nat×Nat)
 |0=>[]
 |n+1=>(kkN xs i,ddN xs i)::blk xs (i+1) n
def mulN (xs:List Int):List Nat:=blocks (blk xs 0 (xs.length-1))
def mul (xs:List Int) (i:Nat):Nat:=(mulN xs).getD i 1
def prx (M:Nat→Nat) (i j:Nat):Bool:=decide (sumM M i (j-i)≤M i)
def prs (M:Nat→Nat) (i j:Nat):List Nat:=(List.range (min i j)).filter fun a=>prx M a j
def cd (M:Nat→Nat) (i j:Nat):Int:=match prs M (min i (j-1)) j with
 |[]=>0
 |a::_=>(j:Int)-a
def codeK (xs:List Int) (k:Nat):List Int:=tab' (fun j=>cd (mul xs) (j+1) (j+1)) (k-1)
end Go.Ax
set_option linter.all false
namespace Go.Ax
open Go.Proofs
def fstD (X Y:List Int):Option Nat:=(List.range X.length).find? fun t=>X.getD t 0 !=Y.getD t 0
def gc (xs ys:List Int):Int×Int:=match fstD (codeK xs 201) (codeK ys 201) with
 |some i=>((i:Int)+1,0)
 |none=>(0,4)
end Go.Ax
set_option linter.all false
namespace Go.Ax
open Go.Proofs
set_option maxHeartbeats 1000000 in
set_option maxRecDepth 100000 in
theorem s_slicesEqual:Sat Try.prog 27 (c_ll_b f0_eqI q_II):=by
 intro args ps r h hp
 unfold c_ll_b at h
 split at h
 ·rename_i a0 a1
  simp only [Option.some.injEq,Prod.mk.injEq] at h
  obtain ⟨rfl,rfl⟩:=h
  obtain ⟨⟨xs,hxs⟩,ys,hys⟩:q_II a0 a1:=(alls_cons.1 hp).1
  have hxl:a0.length=xs.length:=by rw [hxs,I_length]
  have hyl:a1.length=ys.length:=by rw [hys,I_length]
  have hf0:f0_eqI a0 a1=decide (xs=ys):=by rw [f0_eqI,hxs,hys,unI_I,unI_I]
  have gx:∀i,a0.getD i (.int .i64 0)= .int .i64 (xs.getD i 0):=fun i=>by rw [hxs,I_getD]
  have gy:∀i,a1.getD i (.int .i64 0)= .int .i64 (ys.getD i 0):=fun i=>by rw [hys,I_getD]
  refine fnOk_ofI (T:=tab) (B:=[]) (Bi:=[]) [0,1,4,5,12,13] Try.func27 rfl rfl (by kernel_rfl) (Nat.le_of_ble_eq_true rfl) mixed tabOk (by exact bookNil) (by exact bookINil) (by kernel_rfl) ?_
  intro L lp rr hL hr hf hlp
  have hlen:=hf.1.1
  obtain ⟨n,hn⟩:∃n:Int,n=xs.length:=⟨_,rfl⟩
  conv=>cbv
  simp only [stdEqs hL,imp_self,true_and,and_true,bif_or,bif_and,Bool.or_eq_true,Bool.or_eq_false_iff,Bool.and_eq_true,Bool.and_eq_false_iff,decide_eq_true_eq,decide_eq_false_iff_not,Bool.not_eq_true',Bool.not_eq_false',beq_iff_eq,beq_eq_false_iff_ne,ne_eq,toNat0,toNat1,ok_int,toI_int,I_frzs,I_length,I_getD,ok_ints,toL_slc,hxl,hyl]
  refine ⟨fun h=> ?_,fun h=> ?_⟩
  ·rw [hr,hf0,decide_eq_false]
   rintro rfl
   omega
  refine hlp Int _ _ _ [0,1,12,13] (fun x=>[(0,none,.val (.slc false 2 (.int .i64 0) a0)),(1,none,.val (.slc false 2 (.int .i64 0) a1)),(12,none,.val (.int .i64 n)),(13,none,.val (.int .i64 x))])
   (fun x=>0≤x∧x≤xs.length∧xs.take x.toNat=ys.take x.toNat) (fun x=>(xs.length-x).toNat) 0 (by subst hL;rw [hn,←hxl];rfl) (by simp) ?_
  rintro i ⟨i0,i1,hI⟩ hfx ag hag
  conv=>cbv
  simp only [stdEqs hL,imp_self,true_and,and_true,bif_or,bif_and,Bool.or_eq_true,Bool.or_eq_false_iff,Bool.and_eq_true,Bool.and_eq_false_iff,decide_eq_true_eq,decide_eq_false_iff_not,Bool.not_eq_true',Bool.not_eq_false',beq_iff_eq,beq_eq_false_iff_ne,ne_eq,toNat0,toNat1,ok_int,toI_int,I_frzs,I_length,I_getD,ok_ints,toL_slc,hxl,hyl,gx,gy]
  refine ⟨fun h2=>⟨i0,by omega,i0,by omega,fun h4=> ?_,fun h4=> ?_⟩,fun h2=> ?_⟩
  ·rw [hr,hf0,decide_eq_false]
   rintro rfl
   exact h4 rfl
  ·rw [wrap_id (n:=i+1) (by omega) (by omega)]
   refine hag (i+1) ⟨by omega,by omega,?_⟩ (by omega)
   have e1:i.toNat<xs.length:=by omega
   have e2:i.toNat<ys.length:=by omega
   rw [toNat_succ i0,List.take_succ_eq_append_getElem e1,List.take_succ_eq_append_getElem e2,hI]
   simp only [List.getD_eq_getElem?_getD,List.getElem?_eq_getElem e1,List.getElem?_eq_getElem e2,Option.getD_some] at h4
   rw [h4]
  ·rw [List.take_of_length_le (by omega),List.take_of_length_le (by omega)] at hI
   rw [hr,hf0,decide_eq_true hI]
 ·cases h
set_option maxHeartbeats 1000000 in
set_option maxRecDepth 100000 in
theorem s_spec_l01Same:Sat Try.prog 40 (c_ll_b f0_eqI q_II):=by
 intro args ps r h hp
 unfold c_ll_b at h
 split at h
 ·rename_i a0 a1
  simp only [Option.some.injEq,Prod.mk.injEq] at h
  obtain ⟨rfl,rfl⟩:=h
  obtain ⟨⟨xs,hxs⟩,ys,hys⟩:q_II a0 a1:=(alls_cons.1 hp).1
  have hxl:a0.length=xs.length:=by rw [hxs,I_length]
  have hyl:a1.length=ys.length:=by rw [hys,I_length]
  have hf0:f0_eqI a0 a1=decide (xs=ys):=by rw [f0_eqI,hxs,hys,unI_I,unI_I]
  have gx:∀i,a0.getD i (.int .i64 0)= .int .i64 (xs.getD i 0):=fun i=>by rw [hxs,I_getD]
  have gy:∀i,a1.getD i (.int .i64 0)= .int .i64 (ys.getD i 0):=fun i=>by rw [hys,I_getD]
  refine fnOk_ofI (T:=tab) (B:=[]) (Bi:=[]) [0,1,4,5] Try.func40 rfl rfl (by kernel_rfl) (Nat.le_of_ble_eq_true rfl) mixed tabOk (by exact bookNil) (by exact bookINil) (by kernel_rfl) ?_
  intro L lp rr hL hr hf hlp
  have hlen:=hf.1.1
  conv=>cbv
  simp only [stdEqs hL,imp_self,true_and,and_true,bif_or,bif_and,Bool.or_eq_true,Bool.or_eq_false_iff,Bool.and_eq_true,Bool.and_eq_false_iff,decide_eq_true_eq,decide_eq_false_iff_not,Bool.not_eq_true',Bool.not_eq_false',beq_iff_eq,beq_eq_false_iff_ne,ne_eq,toNat0,toNat1,ok_int,toI_int,I_frzs,I_length,I_getD,ok_ints,toL_slc,hxl,hyl]
  refine ⟨fun h=> ?_,fun h=> ?_⟩
  ·rw [hr,hf0,decide_eq_false]
   rintro rfl
   omega
  refine hlp (Int) _ _ _ [0,1,5] (fun x=>[(0,none,.val (.slc false 2 (.int .i64 0) a0)),(1,none,.val (.slc false 2 (.int .i64 0) a1)),(5,none,.val (.int .i64 x))])
   (fun x=>0≤x∧x≤xs.length∧xs.take x.toNat=ys.take x.toNat) (fun x=>(xs.length-x).toNat) (0) (by subst hL;rfl) ?_ ?_
  ·simp
  rintro i ⟨i0,i1,hI⟩ hfx ag hag
  conv=>cbv
  simp only [stdEqs hL,imp_self,true_and,and_true,bif_or,bif_and,Bool.or_eq_true,Bool.or_eq_false_iff,Bool.and_eq_true,Bool.and_eq_false_iff,decide_eq_true_eq,decide_eq_false_iff_not,Bool.not_eq_true',Bool.not_eq_false',beq_iff_eq,beq_eq_false_iff_ne,ne_eq,toNat0,toNat1,ok_int,toI_int,I_frzs,I_length,I_getD,ok_ints,toL_slc,hxl,hyl,gx,gy]
  refine ⟨fun h2=>⟨i0,by omega,i0,by omega,fun h4=> ?_,fun h4=> ?_⟩,fun h2=> ?_⟩
  ·rw [hr,hf0,decide_eq_false]
   rintro rfl
   exact h4 rfl
  ·rw [wrap_id (n:=i+1) (by omega) (by omega)]
   refine hag (i+1) ⟨by omega,by omega,?_⟩ (by omega)
   have e1:i.toNat<xs.length:=by omega
   have e2:i.toNat<ys.length:=by omega
   rw [toNat_succ i0,List.take_succ_eq_append_getElem e1,List.take_succ_eq_append_getElem e2,hI]
   simp only [List.getD_eq_getElem?_getD,List.getElem?_eq_getElem e1,List.getElem?_eq_getElem e2,Option.getD_some] at h4
   rw [h4]
  ·rw [List.take_of_length_le (by omega),List.take_of_length_le (by omega)] at hI
   rw [hr,hf0,decide_eq_true hI]
 ·cases h
def cshL (X Y:List Int) (c:Nat):Bool:=decide (X.take (c-1)=Y.take (c-1))&&(X.getD (c-1) 0 !=Y.getD (c-1) 0||X.getD (c-1) 0==0)
def shr (xs ys:List Int) (c:Nat):Bool:=cshL (codeK xs 201) (codeK ys 201) c
end Go.Ax
set_option linter.all false
namespace Go.Ax
open Go.Proofs
theorem mem_near {es:List (List Int)} {v x:Int}:x∈near es v↔∃e∈es,(e1 e=v∧e0 e=x)∨(e0 e=v∧e1 e=x):=by
 simp only [near,nearA,nearB,List.mem_append,List.mem_map,List.mem_filter,beq_iff_eq]
 constructor
 ·rintro (⟨e,⟨h1,h2⟩,h3⟩|⟨e,⟨h1,h2⟩,h3⟩)
  ·exact ⟨e,h1,.inl ⟨h2,h3⟩⟩
  ·exact ⟨e,h1,.inr ⟨h2,h3⟩⟩
 ·rintro ⟨e,h1,⟨h2,h3⟩|⟨h2,h3⟩⟩
  ·exact .inl ⟨e,⟨h1,h2⟩,h3⟩
  ·exact .inr ⟨e,⟨h1,h2⟩,h3⟩
inductive Cn (es:List (List Int)):Int→Int→Prop
 |refl (u:Int):Cn es u u
 |tail {u v w:Int} (h:Cn es u v) (hw:w∈near es v):Cn es u w
end Go.Ax
set_option linter.all false
namespace Go.Ax
open Go.Proofs
def c_ii_l7 (f:Int→Int→List V) (q:Int→Int→Prop):Contract:=fun
 |[.int .i64 a0,.int .i64 a1]=>some ([q a0 a1],.slc true 2 (.int .i64 0) (f a0 a1))
 |_=>none
def edgL (i k:Int):List Int:=[min i k,max i k]
def f_edg (i k:Int):List V:=I (edgL i k)
def alw7 (_ _:Int):Prop:=True
set_option maxHeartbeats 1000000 in
set_option maxRecDepth 100000 in
theorem s_impl_edge:Sat Try.prog 28 (c_ii_l7 f_edg alw7):=by
 intro args ps r h hp
 unfold c_ii_l7 at h
 split at h
 ·rename_i i k
  simp only [Option.some.injEq,Prod.mk.injEq] at h
  obtain ⟨rfl,rfl⟩:=h
  have hf0:f_edg i k=[.int .i64 (min i k),.int .i64 (max i k)]:=rfl
  refine fnOk_ofI (T:=tab) (B:=[]) (Bi:=[]) [0,1,4] Try.func28 rfl rfl (by kernel_rfl) (Nat.le_of_ble_eq_true rfl) mixed tabOk (by exact bookNil) (by exact bookINil) (by kernel_rfl) ?_
  intro L lp rr hL hr hf hlp
  conv=>cbv
  try simp only [stdEqs hL]
  rw [hr,hf0]
 ·cases h
def c_eq7 (f:List V→Int→Int→Bool) (q:List V→Int→Int→Prop):Contract:=fun
 |[.slc false 2 (.int .i64 0) e,.fn 1000000000 [.int .i64 i],.fn 1000000000 [.int .i64 k]]=>some ([q e i k],.bool (f e i k))
 |_=>none
def f_eq7 (e:List V) (i k:Int):Bool:=decide (unI e=edgL i k)
def q_eq7 (e:List V) (_ _:Int):Prop:=IsI e∧e.length≤1000
set_option maxHeartbeats 1000000 in
set_option maxRecDepth 100000 in
theorem s_eq7a:Sat Try.prog 48 (c_eq7 f_eq7 q_eq7):=by
 intro args ps r h hp
 unfold c_eq7 at h
 split at h
 ·rename_i e i k
  simp only [Option.some.injEq,Prod.mk.injEq] at h
  obtain ⟨rfl,rfl⟩:=h
  obtain ⟨⟨xs,hx⟩,hxl⟩:q_eq7 e i k:=(alls_cons.1 hp).1
  have he:V.frzs e=e:=by rw [hx,I_frzs]
  have hg:V.frzs (f_edg i k)=f_edg i k:=by rw [f_edg,I_frzs]
  generalize H_f_edg:f_edg=F_f_edg
  generalize H_alw7:alw7=F_alw7
  generalize H_f0_eqI:f0_eqI=F_f0_eqI
  generalize H_q_II:q_II=F_q_II
  refine fnOk_ofI (T:=tab) (B:=[(28,c_ii_l7 F_f_edg F_alw7),(27,c_ll_b F_f0_eqI F_q_II)]) (Bi:=[]) [0,1,2,4] Try.func48 rfl rfl (by kernel_rfl) (Nat.le_of_ble_eq_true rfl) mixed tabOk (by subst H_f_edg H_alw7 H_f0_eqI H_q_II;exact (bookCons s_impl_edge (bookCons s_slicesEqual bookNil))) (by subst H_f_edg H_alw7 H_f0_eqI H_q_II;exact bookINil) (by kernel_rfl) ?_
  intro L lp rr hL hr hf hlp
  conv=>cbv
  simp only [stdEqs hL,imp_self,true_and,and_true,bif_or,bif_and,Bool.or_eq_true,Bool.or_eq_false_iff,Bool.and_eq_true,Bool.and_eq_false_iff,decide_eq_true_eq,decide_eq_false_iff_not,Bool.not_eq_true',Bool.not_eq_false',beq_iff_eq,beq_eq_false_iff_ne,ne_eq,toNat0,toNat1,ok_int,toI_int,I_frzs,I_length,I_getD,ok_ints,toL_slc,he]
  subst H_f_edg H_alw7 H_f0_eqI H_q_II
  rw [hg]
  refine ⟨trivial,⟨⟨xs,hx⟩,_,rfl⟩,?_⟩
  rw [hr,f_eq7,f0_eqI,f_edg,unI_I]
 ·cases h
set_option maxHeartbeats 1000000 in
set_option maxRecDepth 100000 in
theorem s_eq7b:Sat Try.prog 26 (c_eq7 f_eq7 q_eq7):=by
 intro args ps r h hp
 unfold c_eq7 at h
 split at h
 ·rename_i e i k
  simp only [Option.some.injEq,Prod.mk.injEq] at h
  obtain ⟨rfl,rfl⟩:=h
  obtain ⟨⟨xs,hx⟩,hxl⟩:q_eq7 e i k:=(alls_cons.1 hp).1
  have he:V.frzs e=e:=by rw [hx,I_frzs]
  have hg:V.frzs (f_edg i k)=f_edg i k:=by rw [f_edg,I_frzs]
  generalize H_f_edg:f_edg=F_f_edg
  generalize H_alw7:alw7=F_alw7
  generalize H_f0_eqI:f0_eqI=F_f0_eqI
  generalize H_q_II:q_II=F_q_II
  refine fnOk_ofI (T:=tab) (B:=[(28,c_ii_l7 F_f_edg F_alw7),(27,c_ll_b F_f0_eqI F_q_II)]) (Bi:=[]) [0,1,2,4] Try.func26 rfl rfl (by kernel_rfl) (Nat.le_of_ble_eq_true rfl) mixed tabOk (by subst H_f_edg H_alw7 H_f0_eqI H_q_II;exact (bookCons s_impl_edge (bookCons s_slicesEqual bookNil))) (by subst H_f_edg H_alw7 H_f0_eqI H_q_II;exact bookINil) (by kernel_rfl) ?_
  intro L lp rr hL hr hf hlp
  conv=>cbv
  simp only [stdEqs hL,imp_self,true_and,and_true,bif_or,bif_and,Bool.or_eq_true,Bool.or_eq_false_iff,Bool.and_eq_true,Bool.and_eq_false_iff,decide_eq_true_eq,decide_eq_false_iff_not,Bool.not_eq_true',Bool.not_eq_false',beq_iff_eq,beq_eq_false_iff_ne,ne_eq,toNat0,toNat1,ok_int,toI_int,I_frzs,I_length,I_getD,ok_ints,toL_slc,he]
  subst H_f_edg H_alw7 H_f0_eqI H_q_II
  rw [hg]
  refine ⟨trivial,⟨⟨xs,hx⟩,_,rfl⟩,?_⟩
  rw [hr,f_eq7,f0_eqI,f_edg,unI_I]
 ·cases h
def ixE (es:List (List Int)) (r:List Int):Int:=if es.findIdx (·==r)<es.length then (es.findIdx (·==r):Nat) else-1
theorem ixE_at {es:List (List Int)} {r:List Int} {t:Nat} (h:t<es.length) (h1:es.getD t []=r) (h2:∀s,s<t→es.getD s []≠r):ixE es r=(t:Nat):=by
 have e:es.findIdx (·==r)=t:=by
  rw [List.findIdx_eq h]
  rw [List.getD_eq_getElem?_getD,List.getElem?_eq_getElem h] at h1
  refine ⟨by simpa using h1,fun j hj=> ?_⟩
  have:=h2 j hj
  rw [List.getD_eq_getElem?_getD,List.getElem?_eq_getElem (by omega)] at this
  simpa using this
 rw [ixE,e,if_pos h]
theorem ixE_no {es:List (List Int)} {r:List Int} (h2:∀s,s<es.length→es.getD s []≠r):ixE es r= -1:=by
 rw [ixE,if_neg]
 intro h
 have:=List.findIdx_getElem (w:=h)
 have h3:=h2 _ h
 rw [List.getD_eq_getElem?_getD,List.getElem?_eq_getElem h] at h3
 exact h3 (by simpa using this)
theorem ixE_mem {es:List (List Int)} {r:List Int}:decide (0≤ixE es r)=es.contains r:=by
 rw [Bool.eq_iff_iff,decide_eq_true_eq,List.contains_iff_mem]
 by_cases h:es.findIdx (·==r)<es.length
 ·rw [ixE,if_pos h]
  obtain ⟨x,hx,h3⟩:=List.findIdx_lt_length.1 h
  rw [beq_iff_eq] at h3
  exact ⟨fun _=>by rw [←h3];exact hx,fun _=>by omega⟩
 ·rw [ixE,if_neg h]
  exact ⟨fun h2=>by omega,fun h2=>absurd (List.findIdx_lt_length.2 ⟨r,h2,by simp⟩) h⟩
def c_mf_i7 (f:List V→Nat→List V→Int) (q:List V→Nat→List V→Prop):Contract:=fun
 |[.slc false 22 (.slc false 2 (.int .i64 0) []) a0,.fn k cs]=>some ([q a0 k cs],.int .i64 (f a0 k cs))
 |_=>none
def f_ix (a:List V) (_:Nat):List V→Int
 |[.fn _ [.int _ i],.fn _ [.int _ k]]=>ixE (unII a) (edgL i k)
 |_=>0
def q_ixa (a:List V) (k:Nat) (cs:List V):Prop:=(∃es,a=II false es∧es.length≤100000∧∀e∈es,e.length≤1000)∧k= 48 ∧∃i j,cs=[.fn 1000000000 [.int .i64 i],.fn 1000000000 [.int .i64 j]]
set_option maxHeartbeats 1000000 in
set_option maxRecDepth 100000 in
theorem s_ixa:Sat Try.prog 51 (c_mf_i7 f_ix q_ixa):=by
 intro args ps r h hp
 unfold c_mf_i7 at h
 split at h
 ·rename_i a0 k cs
  simp only [Option.some.injEq,Prod.mk.injEq] at h
  obtain ⟨rfl,rfl⟩:=h
  obtain ⟨⟨es,hes,hel,hrl⟩,hk,ci,cj,hcs⟩:q_ixa a0 k cs:=(alls_cons.1 hp).1
  subst hk hcs
  have hal:a0.length=es.length:=by rw [hes,II_length]
  have ga:∀k,a0.getD k (.slc false 2 (.int .i64 0) [])= .slc false 2 (.int .i64 0) (I (es.getD k [])):=fun k=>by rw [hes,II_getD]
  have hf0:f_ix a0 48 [.fn 1000000000 [.int .i64 ci],.fn 1000000000 [.int .i64 cj]]=ixE es (edgL ci cj):=by rw [f_ix,hes,unII_II]
  obtain ⟨n,hn⟩:∃n:Int,n=es.length:=⟨_,rfl⟩
  have hq7:∀t,t<es.length→q_eq7 (I (es.getD t [])) ci cj:=fun t ht=>⟨⟨_,rfl⟩,by rw [I_length];exact hrl _ (by rw [List.getD_eq_getElem?_getD,List.getElem?_eq_getElem ht];exact List.getElem_mem _)⟩
  have h7:∀t,f_eq7 (I (es.getD t [])) ci cj=decide (es.getD t []=edgL ci cj):=fun t=>by rw [f_eq7,unI_I]
  generalize H_f_eq7:f_eq7=F_f_eq7
  generalize H_q_eq7:q_eq7=F_q_eq7
  refine fnOk_ofI (T:=tab) (B:=[(48,c_eq7 F_f_eq7 F_q_eq7)]) (Bi:=[]) [0,1,4,5,7,8] Try.func51 rfl rfl (by kernel_rfl) (Nat.le_of_ble_eq_true rfl) mixed tabOk (by subst H_f_eq7 H_q_eq7;exact (bookCons s_eq7a bookNil)) (by subst H_f_eq7 H_q_eq7;exact bookINil) (by kernel_rfl) ?_
  intro L lp rr hL hr hf hlp
  conv=>cbv
  simp only [stdEqs hL,imp_self,true_and,and_true,bif_or,bif_and,Bool.or_eq_true,Bool.or_eq_false_iff,Bool.and_eq_true,Bool.and_eq_false_iff,decide_eq_true_eq,decide_eq_false_iff_not,Bool.not_eq_true',Bool.not_eq_false',beq_iff_eq,beq_eq_false_iff_ne,ne_eq,toNat0,toNat1,ok_int,toI_int,I_frzs,I_length,I_getD,ok_ints,toL_slc,hal,←hn]
  refine hlp (Int) _ _ _ [0,1,7,8] (fun x=>[(0,none,.val (.slc false 22 (.slc false 2 (.int .i64 0) []) a0)),(1,none,.val (.fn 48 [(.fn 1000000000 [.int .i64 ci]),(.fn 1000000000 [.int .i64 cj])])),(7,none,.val (.int .i64 n)),(8,none,.val (.int .i64 x))])
   (fun x=>0≤x∧x≤n∧∀t,t<x.toNat→es.getD t []≠edgL ci cj) (fun x=>(n-x).toNat) (0) (by subst hL;rfl) ?_ ?_
  ·exact ⟨by simp,by omega,fun t ht=>by simp at ht⟩
  rintro x ⟨x0,x1,hx⟩ hfx ag hag
  conv=>cbv
  simp only [stdEqs hL,imp_self,true_and,and_true,bif_or,bif_and,Bool.or_eq_true,Bool.or_eq_false_iff,Bool.and_eq_true,Bool.and_eq_false_iff,decide_eq_true_eq,decide_eq_false_iff_not,Bool.not_eq_true',Bool.not_eq_false',beq_iff_eq,beq_eq_false_iff_ne,ne_eq,toNat0,toNat1,ok_int,toI_int,I_frzs,I_length,I_getD,ok_ints,toL_slc,hal,←hn,ga]
  subst H_q_eq7 H_f_eq7
  refine ⟨fun h2=> ?_,fun h2=> ?_⟩
  ·have hxn:x.toNat<es.length:=by omega
   simp only [h7]
   refine ⟨x0,h2,hq7 _ hxn,fun h3=> ?_,fun h3=> ?_⟩
   ·rw [decide_eq_true_eq] at h3
    rw [hr,hf0,ixE_at hxn h3 hx]
    congr 1;omega
   ·rw [decide_eq_false_iff_not] at h3
    rw [wrap_id (n:=x+1) (by omega) (by omega)]
    refine hag (x+1) ⟨by omega,by omega,fun t ht=> ?_⟩ (by omega)
    rw [toNat_succ x0] at ht
    by_cases e:t=x.toNat
    ·rw [e];exact h3
    ·exact hx t (by omega)
  ·rw [hr,hf0,ixE_no (fun t ht=>hx t (by omega))]
 ·cases h
def q_ixb (a:List V) (k:Nat) (cs:List V):Prop:=(∃es,a=II false es∧es.length≤100000∧∀e∈es,e.length≤1000)∧k= 26 ∧∃i j,cs=[.fn 1000000000 [.int .i64 i],.fn 1000000000 [.int .i64 j]]
set_option maxHeartbeats 1000000 in
set_option maxRecDepth 100000 in
theorem s_ixb:Sat Try.prog 51 (c_mf_i7 f_ix q_ixb):=by
 intro args ps r h hp
 unfold c_mf_i7 at h
 split at h
 ·rename_i a0 k cs
  simp only [Option.some.injEq,Prod.mk.injEq] at h
  obtain ⟨rfl,rfl⟩:=h
  obtain ⟨⟨es,hes,hel,hrl⟩,hk,ci,cj,hcs⟩:q_ixb a0 k cs:=(alls_cons.1 hp).1
  subst hk hcs
  have hal:a0.length=es.length:=by rw [hes,II_length]
  have ga:∀k,a0.getD k (.slc false 2 (.int .i64 0) [])= .slc false 2 (.int .i64 0) (I (es.getD k [])):=fun k=>by rw [hes,II_getD]
  have hf0:f_ix a0 26 [.fn 1000000000 [.int .i64 ci],.fn 1000000000 [.int .i64 cj]]=ixE es (edgL ci cj):=by rw [f_ix,hes,unII_II]
  obtain ⟨n,hn⟩:∃n:Int,n=es.length:=⟨_,rfl⟩
  have hq7:∀t,t<es.length→q_eq7 (I (es.getD t [])) ci cj:=fun t ht=>⟨⟨_,rfl⟩,by rw [I_length];exact hrl _ (by rw [List.getD_eq_getElem?_getD,List.getElem?_eq_getElem ht];exact List.getElem_mem _)⟩
  have h7:∀t,f_eq7 (I (es.getD t [])) ci cj=decide (es.getD t []=edgL ci cj):=fun t=>by rw [f_eq7,unI_I]
  generalize H_f_eq7:f_eq7=F_f_eq7
  generalize H_q_eq7:q_eq7=F_q_eq7
  refine fnOk_ofI (T:=tab) (B:=[(26,c_eq7 F_f_eq7 F_q_eq7)]) (Bi:=[]) [0,1,4,5,7,8] Try.func51 rfl rfl (by kernel_rfl) (Nat.le_of_ble_eq_true rfl) mixed tabOk (by subst H_f_eq7 H_q_eq7;exact (bookCons s_eq7b bookNil)) (by subst H_f_eq7 H_q_eq7;exact bookINil) (by kernel_rfl) ?_
  intro L lp rr hL hr hf hlp
  conv=>cbv
  simp only [stdEqs hL,imp_self,true_and,and_true,bif_or,bif_and,Bool.or_eq_true,Bool.or_eq_false_iff,Bool.and_eq_true,Bool.and_eq_false_iff,decide_eq_true_eq,decide_eq_false_iff_not,Bool.not_eq_true',Bool.not_eq_false',beq_iff_eq,beq_eq_false_iff_ne,ne_eq,toNat0,toNat1,ok_int,toI_int,I_frzs,I_length,I_getD,ok_ints,toL_slc,hal,←hn]
  refine hlp (Int) _ _ _ [0,1,7,8] (fun x=>[(0,none,.val (.slc false 22 (.slc false 2 (.int .i64 0) []) a0)),(1,none,.val (.fn 26 [(.fn 1000000000 [.int .i64 ci]),(.fn 1000000000 [.int .i64 cj])])),(7,none,.val (.int .i64 n)),(8,none,.val (.int .i64 x))])
   (fun x=>0≤x∧x≤n∧∀t,t<x.toNat→es.getD t []≠edgL ci cj) (fun x=>(n-x).toNat) (0) (by subst hL;rfl) ?_ ?_
  ·exact ⟨by simp,by omega,fun t ht=>by simp at ht⟩
  rintro x ⟨x0,x1,hx⟩ hfx ag hag
  conv=>cbv
  simp only [stdEqs hL,imp_self,true_and,and_true,bif_or,bif_and,Bool.or_eq_true,Bool.or_eq_false_iff,Bool.and_eq_true,Bool.and_eq_false_iff,decide_eq_true_eq,decide_eq_false_iff_not,Bool.not_eq_true',Bool.not_eq_false',beq_iff_eq,beq_eq_false_iff_ne,ne_eq,toNat0,toNat1,ok_int,toI_int,I_frzs,I_length,I_getD,ok_ints,toL_slc,hal,←hn,ga]
  subst H_q_eq7 H_f_eq7
  refine ⟨fun h2=> ?_,fun h2=> ?_⟩
  ·have hxn:x.toNat<es.length:=by omega
   simp only [h7]
   refine ⟨x0,h2,hq7 _ hxn,fun h3=> ?_,fun h3=> ?_⟩
   ·rw [decide_eq_true_eq] at h3
    rw [hr,hf0,ixE_at hxn h3 hx]
    congr 1;omega
   ·rw [decide_eq_false_iff_not] at h3
    rw [wrap_id (n:=x+1) (by omega) (by omega)]
    refine hag (x+1) ⟨by omega,by omega,fun t ht=> ?_⟩ (by omega)
    rw [toNat_succ x0] at ht
    by_cases e:t=x.toNat
    ·rw [e];exact h3
    ·exact hx t (by omega)
  ·rw [hr,hf0,ixE_no (fun t ht=>hx t (by omega))]
 ·cases h
def c_mf_b7 (f:List V→Nat→List V→Bool) (q:List V→Nat→List V→Prop):Contract:=fun
 |[.slc false 22 (.slc false 2 (.int .i64 0) []) a0,.fn k cs]=>some ([q a0 k cs],.bool (f a0 k cs))
 |_=>none
def f_cf (a:List V) (k:Nat) (cs:List V):Bool:=decide (f_ix a k cs≥0)
set_option maxHeartbeats 1000000 in
set_option maxRecDepth 100000 in
theorem s_cntF:Sat Try.prog 47 (c_mf_b7 f_cf q_ixa):=by
 intro args ps r h hp
 unfold c_mf_b7 at h
 split at h
 ·rename_i a0 k cs
  simp only [Option.some.injEq,Prod.mk.injEq] at h
  obtain ⟨rfl,rfl⟩:=h
  have hq:q_ixa a0 k cs:=(alls_cons.1 hp).1
  have g0:V.frzs a0=a0:=by obtain ⟨⟨es,hes,_⟩,_⟩:=hq;rw [hes,II_frzs]
  generalize H_f_ix:f_ix=F_f_ix
  generalize H_q_ixa:q_ixa=F_q_ixa
  refine fnOk_ofI (T:=tab) (B:=[(51,c_mf_i7 F_f_ix F_q_ixa)]) (Bi:=[]) [0,1,4] Try.func47 rfl rfl (by kernel_rfl) (Nat.le_of_ble_eq_true rfl) mixed tabOk (by subst H_f_ix H_q_ixa;exact (bookCons s_ixa bookNil)) (by subst H_f_ix H_q_ixa;exact bookINil) (by kernel_rfl) ?_
  intro L lp rr hL hr hf hlp
  conv=>cbv
  simp only [stdEqs hL,imp_self,true_and,and_true,bif_or,bif_and,Bool.or_eq_true,Bool.or_eq_false_iff,Bool.and_eq_true,Bool.and_eq_false_iff,decide_eq_true_eq,decide_eq_false_iff_not,Bool.not_eq_true',Bool.not_eq_false',beq_iff_eq,beq_eq_false_iff_ne,ne_eq,toNat0,toNat1,ok_int,toI_int,I_frzs,I_length,I_getD,ok_ints,toL_slc,g0]
  subst H_f_ix H_q_ixa
  exact ⟨hq,by rw [hr];rfl⟩
 ·cases h
def c_Gii_b7 (f:List V→List V→Int→Int→Bool) (q:List V→List V→Int→Int→Prop):Contract:=fun
 |[.agg [.slc false 2 (.int .i64 0) a0,.slc false 22 (.slc false 2 (.int .i64 0) []) a1],.int .i64 a2,.int .i64 a3]=>some ([q a0 a1 a2 a3],.bool (f a0 a1 a2 a3))
 |_=>none
def f_hE (_ b:List V) (i k:Int):Bool:=(unII b).contains (edgL i k)
def q_hE (a b:List V) (_ _:Int):Prop:=IsI a∧∃es,b=II false es∧es.length≤100000∧∀e∈es,e.length≤1000
set_option maxHeartbeats 1000000 in
set_option maxRecDepth 100000 in
theorem s_impl_hasEdge:Sat Try.prog 23 (c_Gii_b7 f_hE q_hE):=by
 intro args ps r h hp
 unfold c_Gii_b7 at h
 split at h
 ·rename_i a0 a1 i k
  simp only [Option.some.injEq,Prod.mk.injEq] at h
  obtain ⟨rfl,rfl⟩:=h
  obtain ⟨⟨ws,hws⟩,es,hes,hel,hrl⟩:q_hE a0 a1 i k:=(alls_cons.1 hp).1
  have g1:V.frzs a1=a1:=by rw [hes,II_frzs]
  have hf0:f_cf a1 48 [.fn 1000000000 [.int .i64 i],.fn 1000000000 [.int .i64 k]]=f_hE a0 a1 i k:=by
   rw [f_cf,f_ix,f_hE,hes,unII_II,←ixE_mem]
  generalize H_f_cf:f_cf=F_f_cf
  generalize H_q_ixa:q_ixa=F_q_ixa
  refine fnOk_ofI (T:=tab) (B:=[(47,c_mf_b7 F_f_cf F_q_ixa)]) (Bi:=[]) [1000001904,1000001905,0,1,2,3,4,5,6] Try.func23 rfl rfl (by kernel_rfl) (Nat.le_of_ble_eq_true rfl) mixed tabOk (by subst H_f_cf H_q_ixa;exact (bookCons s_cntF bookNil)) (by subst H_f_cf H_q_ixa;exact bookINil) (by kernel_rfl) ?_
  intro L lp rr hL hr hf hlp
  conv=>cbv
  simp only [stdEqs hL,imp_self,true_and,and_true,bif_or,bif_and,Bool.or_eq_true,Bool.or_eq_false_iff,Bool.and_eq_true,Bool.and_eq_false_iff,decide_eq_true_eq,decide_eq_false_iff_not,Bool.not_eq_true',Bool.not_eq_false',beq_iff_eq,beq_eq_false_iff_ne,ne_eq,toNat0,toNat1,ok_int,toI_int,I_frzs,I_length,I_getD,ok_ints,toL_slc,g1]
  subst H_f_cf H_q_ixa
  exact ⟨⟨⟨es,hes,hel,hrl⟩,rfl,_,_,rfl⟩,by rw [hr,hf0]⟩
 ·cases h
end Go.Ax
set_option linter.all false
namespace Go.Ax
open Go.Proofs
set_option maxHeartbeats 1000000 in
set_option maxRecDepth 100000 in
theorem s_impl_copyLists:Sat Try.prog 50 (c_m_m f_cpSS IsIIs):=by
 intro args ps r h hp
 unfold c_m_m at h
 split at h
 ·rename_i a0
  simp only [Option.some.injEq,Prod.mk.injEq] at h
  obtain ⟨rfl,rfl⟩:=h
  obtain ⟨xss,hes,hl1,hl2⟩:IsIIs a0:=(alls_cons.1 hp).1
  have hel:a0.length=xss.length:=by rw [hes,II_length]
  have hf0:f_cpSS a0=II true xss:=by rw [f_cpSS,hes,unII_II]
  have g0:V.frzs a0=a0:=by rw [hes,II_frzs]
  have ges:∀k,a0.getD k (.slc false 2 (.int .i64 0) [])= .slc false 2 (.int .i64 0) (I (xss.getD k [])):=fun k=>by rw [hes,II_getD]
  obtain ⟨n,hn⟩:∃n:Int,n=xss.length:=⟨_,rfl⟩
  generalize H_same:same=F_same
  generalize H_IsIs:IsIs=F_IsIs
  refine fnOk_ofI (T:=tab) (B:=[(49,c_laws_toInt64S F_same F_IsIs)]) (Bi:=[]) [0,2,3,5,9,10,11] Try.func50 rfl rfl (by kernel_rfl) (Nat.le_of_ble_eq_true rfl) mixed tabOk (by subst H_same H_IsIs;exact (bookCons s_clone bookNil)) (by subst H_same H_IsIs;exact bookINil) (by kernel_rfl) ?_
  intro L lp rr hL hr hf hlp
  have Es:∀xs:List Int,F_same (I xs)=I xs:=fun xs=>by rw [←H_same,same]
  conv=>cbv
  simp only [stdEqs hL,imp_self,true_and,and_true,bif_or,bif_and,Bool.or_eq_true,Bool.or_eq_false_iff,Bool.and_eq_true,Bool.and_eq_false_iff,decide_eq_true_eq,decide_eq_false_iff_not,Bool.not_eq_true',Bool.not_eq_false',beq_iff_eq,beq_eq_false_iff_ne,ne_eq,toNat0,toNat1,ok_int,toI_int,I_frzs,I_length,I_getD,ok_ints,toL_slc,g0,hel,←hn]
  refine ⟨by omega,by omega,by omega,?_⟩
  refine hlp (List V×Int) _ _ _ [3,9,10,11] (fun x=>[(3,none,.val (.slc true 22 (.slc true 2 (.int .i64 0) []) x.1)),(9,none,.val (.slc false 22 (.slc false 2 (.int .i64 0) []) a0)),(10,none,.val (.int .i64 n)),(11,none,.val (.int .i64 x.2))])
   (fun x=>0≤x.2∧x.2≤n∧x.1=II true (xss.take x.2.toNat)) (fun x=>(n-x.2).toNat) (([],0)) (by subst hL;rw [hn,←hel];rfl) ?_ ?_
  ·exact ⟨by simp,by simp only;omega,rfl⟩
  rintro ⟨os,i⟩ ⟨i0,i1,hI⟩ hfx ag hag
  simp only at i0 i1 hI
  have hol:os.length=i.toNat:=by rw [hI,II_length,List.length_take];omega
  conv=>cbv
  simp only [stdEqs hL,imp_self,true_and,and_true,bif_or,bif_and,Bool.or_eq_true,Bool.or_eq_false_iff,Bool.and_eq_true,Bool.and_eq_false_iff,decide_eq_true_eq,decide_eq_false_iff_not,Bool.not_eq_true',Bool.not_eq_false',beq_iff_eq,beq_eq_false_iff_ne,ne_eq,toNat0,toNat1,ok_int,toI_int,I_frzs,I_length,I_getD,ok_ints,toL_slc,hel,ges,Es]
  refine ⟨fun h2=> ?_,fun h2=> ?_⟩
  ·have hin:i.toNat<xss.length:=by omega
   have hm:=mem_getD hin
   rw [wrap_id (n:=i+1) (by omega) (by omega)]
   refine ⟨i0,by omega,by rw [←H_IsIs];exact ⟨⟨_,rfl⟩,by rw [I_length];exact hl2 _ hm⟩,by simp only [List.length_cons,List.length_nil];omega,solid1 (by simp [V.solid]),?_⟩
   refine hag (_,i+1) ⟨by simp only;omega,by simp only;omega,?_⟩ (by simp only;omega)
   simp only [toNat_succ i0]
   rw [hI,take_succ_tot _ _ hin,II_append]
   rfl
  ·rw [hr,hf0,hI,List.take_of_length_le (by omega)]
 ·cases h
set_option maxHeartbeats 1000000 in
set_option maxRecDepth 100000 in
theorem s_impl_copyGraph:Sat Try.prog 24 (c_G_G f_cpG q_cpG):=by
 intro args ps r h hp
 unfold c_G_G at h
 split at h
 ·rename_i a0 a1
  simp only [Option.some.injEq,Prod.mk.injEq] at h
  obtain ⟨rfl,rfl⟩:=h
  obtain ⟨h0,h1⟩:q_cpG a0 a1:=(alls_cons.1 hp).1
  have g0:=h0.frz
  have g1:=frzs_II h1.isII
  have hf0:f_cpG a0 a1=(a0,II true (unII a1)):=rfl
  generalize H_same:same=F_same
  generalize H_IsIs:IsIs=F_IsIs
  generalize H_f_cpSS:f_cpSS=F_f_cpSS
  generalize H_IsIIs:IsIIs=F_IsIIs
  refine fnOk_ofI (T:=tab) (B:=[(49,c_laws_toInt64S F_same F_IsIs),(50,c_m_m F_f_cpSS F_IsIIs)]) (Bi:=[]) [2000001005,2000001008,0,1,2] Try.func24 rfl rfl (by kernel_rfl) (Nat.le_of_ble_eq_true rfl) mixed tabOk (by subst H_same H_IsIs H_f_cpSS H_IsIIs;exact (bookCons s_clone (bookCons s_impl_copyLists bookNil))) (by subst H_same H_IsIs H_f_cpSS H_IsIIs;exact bookINil) (by kernel_rfl) ?_
  intro L lp rr hL hr hf hlp
  conv=>cbv
  simp only [stdEqs hL,g0,g1]
  subst H_same H_IsIs H_f_cpSS H_IsIIs
  rw [hr,hf0]
  exact ⟨h0,h1,rfl⟩
 ·cases h
end Go.Ax
set_option linter.all false
namespace Go.Ax
open Go.Proofs
structure Bfs (n:Nat) (es:List (List Int)) (root:Int) (ord par:List Int) (i k:Nat):Prop where
 nd:ord.Nodup
 inr:∀x∈ord,0≤x∧x<n
 pl:par.length=n
 ne:0<ord.length
 hd:ord.getD 0 0=root
 rp:gI par root= -1
 tree:∀t,0<t→t<ord.length→∃s,s<t∧s≤i∧gI par (ord.getD t 0)=ord.getD s 0∧ord.getD t 0∈near es (ord.getD s 0)∧(s=i→ord.getD t 0∈(near es (ord.getD i 0)).take k)
 done:∀t,t<i→∀x∈near es (ord.getD t 0),x∈ord
 cur:∀x∈(near es (ord.getD i 0)).take k,x∈ord
 ile:i≤ord.length
end Go.Ax
set_option linter.all false
namespace Go.Ax
open Go.Proofs
end Go.Ax
set_option linter.all false
namespace Go.Ax
open Go.Proofs
end Go.Ax
set_option linter.all false
namespace Go.Ax
open Go.Proofs
theorem lexLt_irrefl:∀l:List Int,lexLt l l=false
 |[]=>rfl
 |x::l=>by simp only [lexLt,beq_self_eq_true,Bool.not_true,cond_false];exact lexLt_irrefl l
theorem lexLt_cons (x y:Int) (a b:List Int):lexLt (x::a) (y::b)=true↔x<y∨x=y∧lexLt a b=true:=by
 simp only [lexLt]
 by_cases h:x=y
 ·subst h;simp
 ·have:(x==y)=false:=by simpa using h
  rw [this];simp [h]
theorem lexLt_trans:∀a b c:List Int,lexLt a b=true→lexLt b c=true→lexLt a c=true
 |_,[],_,h,_=>by cases ‹List Int›<;>simp [lexLt] at h
 |[],y::b,[],_,h=>by simp [lexLt] at h
 |[],y::b,z::c,_,_=>rfl
 |x::a,y::b,[],_,h=>by simp [lexLt] at h
 |x::a,y::b,z::c,h1,h2=>by
  rw [lexLt_cons] at*
  rcases h1 with h1|⟨h1,h1'⟩
  ·rcases h2 with h2|⟨h2,_⟩<;>exact .inl (by omega)
  ·rcases h2 with h2|⟨h2,h2'⟩
   ·exact .inl (by omega)
   ·exact .inr ⟨by omega,lexLt_trans a b c h1' h2'⟩
theorem lexLt_tri:∀a b:List Int,lexLt a b=false→lexLt b a=false→a=b
 |[],[],_,_=>rfl
 |[],y::b,h,_=>by simp [lexLt] at h
 |x::a,[],_,h=>by simp [lexLt] at h
 |x::a,y::b,h1,h2=>by
  have n1:¬(x<y∨x=y∧lexLt a b=true):=fun h=>by rw [(lexLt_cons x y a b).2 h] at h1;cases h1
  have n2:¬(y<x∨y=x∧lexLt b a=true):=fun h=>by rw [(lexLt_cons y x b a).2 h] at h2;cases h2
  have e:x=y:=by omega
  subst e
  rw [lexLt_tri a b (by cases h:lexLt a b<;>simp_all) (by cases h:lexLt b a<;>simp_all)]
theorem lexLt_ntrans (a b c:List Int) (h1:lexLt a b=false) (h2:lexLt b c=false):lexLt a c=false:=by
 cases h:lexLt a c with
 |false=>rfl
 |true=>
  cases h3:lexLt b a with
  |true=>rw [lexLt_trans b a c h3 h] at h2;cases h2
  |false=>
   have e:=lexLt_tri a b h1 h3
   rw [e,h2] at h;cases h
end Go.Ax
set_option linter.all false
namespace Go.Ax
open Go.Proofs
def leE (a b:List Int):Bool:= !lexLt b a
def srtE (es:List (List Int)):List (List Int):=es.mergeSort leE
theorem leE_trans (a b c:List Int) (h1:leE a b=true) (h2:leE b c=true):leE a c=true:=by
 simp only [leE,Bool.not_eq_true'] at*
 exact lexLt_ntrans c b a h2 h1
theorem leE_total (a b:List Int):(leE a b||leE b a)=true:=by
 simp only [leE,Bool.or_eq_true,Bool.not_eq_true']
 cases h:lexLt b a with
 |false=>exact .inl rfl
 |true=>
  refine .inr ?_
  cases h2:lexLt a b with
  |false=>rfl
  |true=>have:=lexLt_trans a b a h2 h;rw [lexLt_irrefl] at this;cases this
theorem srtE_eq {xs ys:List (List Int)} (hp:xs.Perm ys) (hs:ys.Pairwise (fun a b=>lexLt b a=false)):srtE xs=ys:=by
 refine List.Perm.eq_of_pairwise (le:=fun x y=>lexLt y x=false) (fun a b _ _ h1 h2=>lexLt_tri a b h2 h1) ?_ hs ((List.mergeSort_perm _ _).trans hp)
 have h:=List.pairwise_mergeSort (le:=leE) leE_trans leE_total xs
 exact h.imp fun h=>by simpa [leE] using h
theorem srtE_len (xs:List (List Int)):(srtE xs).length=xs.length:=List.length_mergeSort _
theorem srtE_perm (xs:List (List Int)):(srtE xs).Perm xs:=List.mergeSort_perm _ _
structure GrN (n:Nat) (es:List (List Int)):Prop where
 n1:1≤n
 n2:n≤40
 el:es.length≤400
 eok:edsOk n none es=true
 ed:∀e∈es,EdIn n e
 lt:∀e∈es,e0 e<e1 e
end Go.Ax
set_option linter.all false
set_option linter.all false
namespace Go.Proofs
open Go.Shelf
end Go.Proofs
set_option linter.all false
namespace Go.Ax
open Go.Proofs Go.Sort Go.RowKit
theorem rep_int {cz:TypeId→Nat} {w:World} {F O:Nat→Prop} {k:IntKind} {n:Int} {cs:List Value} (h:Rep cz w F (.int k n) cs O):cs=[.int k n]:=by
 cases h
 rfl
end Go.Ax
set_option linter.all false
namespace Go.Ax
open Go.Proofs Go.Sort Go.RowKit
end Go.Ax
set_option linter.all false
namespace Go.Ax
open Go.Proofs
end Go.Ax
set_option linter.all false
namespace Go.Ax
open Go.Proofs
end Go.Ax
set_option linter.all false
namespace Go.Ax
open Go.Proofs
end Go.Ax
set_option linter.all false
namespace Go.Ax
open Go.Proofs
def c_Gi_b (f:List V→List V→Int→Bool) (q:List V→List V→Int→Prop):Contract:=fun
 |[.agg [.slc false 2 (.int .i64 0) a0,.slc false 22 (.slc false 2 (.int .i64 0) []) a1],.int .i64 a2]=>some ([q a0 a1 a2],.bool (f a0 a1 a2))
 |_=>none
def f_isV (a _:List V) (v:Int):Bool:=decide (0≤v)&&decide (v≤(a.length:Int)-1)
def q_isV (a b:List V) (_:Int):Prop:=IsI a∧IsII false b∧a.length≤1000
set_option maxHeartbeats 1000000 in
set_option maxRecDepth 100000 in
theorem s_impl_isVertex:Sat Try.prog 22 (c_Gi_b f_isV q_isV):=by
 intro args ps r h hp
 unfold c_Gi_b at h
 split at h
 ·rename_i a0 a1 v
  simp only [Option.some.injEq,Prod.mk.injEq] at h
  obtain ⟨rfl,rfl⟩:=h
  obtain ⟨h0,h1,h2⟩:q_isV a0 a1 v:=(alls_cons.1 hp).1
  have g0:=h0.frz
  have g1:=frzs_II h1
  generalize H_inRange:inRange=F_inRange
  refine fnOk_ofI (T:=tab) (B:=[(46,c_impl_inRange F_inRange)]) (Bi:=[]) [0,1,2,4] Try.func22 rfl rfl (by kernel_rfl) (Nat.le_of_ble_eq_true rfl) mixed tabOk (by subst H_inRange;exact (bookCons s_impl_inRange bookNil)) (by subst H_inRange;exact bookINil) (by kernel_rfl) ?_
  intro L lp rr hL hr hf hlp
  have Er:∀x y z,F_inRange x y z=inRange x y z:=fun x y z=>by rw [←H_inRange]
  conv=>cbv
  simp only [stdEqs hL,g0,g1,Er]
  rw [wrap_id (by omega) (by omega),hr]
  rfl
 ·cases h
set_option maxHeartbeats 1000000 in
set_option maxRecDepth 100000 in
theorem s_spec_l11Vertex:Sat Try.prog 14 (c_Gi_b f_isV q_isV):=by
 intro args ps r h hp
 unfold c_Gi_b at h
 split at h
 ·rename_i a0 a1 v
  simp only [Option.some.injEq,Prod.mk.injEq] at h
  obtain ⟨rfl,rfl⟩:=h
  obtain ⟨h0,h1,h2⟩:q_isV a0 a1 v:=(alls_cons.1 hp).1
  have g0:=h0.frz
  have g1:=frzs_II h1
  generalize H_inRange:inRange=F_inRange
  refine fnOk_ofI (T:=tab) (B:=[(36,c_impl_inRange F_inRange)]) (Bi:=[]) [0,1,2,4] Try.func14 rfl rfl (by kernel_rfl) (Nat.le_of_ble_eq_true rfl) mixed tabOk (by subst H_inRange;exact (bookCons s_spec_l01In bookNil)) (by subst H_inRange;exact bookINil) (by kernel_rfl) ?_
  intro L lp rr hL hr hf hlp
  have Er:∀x y z,F_inRange x y z=inRange x y z:=fun x y z=>by rw [←H_inRange]
  conv=>cbv
  simp only [stdEqs hL,g0,g1,Er]
  rw [wrap_id (by omega) (by omega),hr]
  rfl
 ·cases h
end Go.Ax
set_option linter.all false
namespace Go.Ax
open Go.Proofs
def q_srtE (a:List V):Prop:=∃es,a=II true es∧es.length≤1000000
def ic_srtF (f:List V→List V) (q:List V→Prop):IContract:=fun
 |[.slc true 22 (.slc true 2 (.int .i64 0) []) a0]=>some ([q a0],.slc true 22 (.slc false 2 (.int .i64 0) []) (f a0),.hole 0)
 |_=>none
def f_srtF (a:List V):List V:=II false (srtE (unII a))
theorem lexLt_asym {a b:List Int} (h:lexLt a b=true):lexLt b a=false:=by
 cases h2:lexLt b a with
 |false=>rfl
 |true=>have:=lexLt_trans a b a h h2;rw [lexLt_irrefl] at this;cases this
theorem ins_pw {l:List (List Int)} {E:List Int} {k:Nat} (hl:l.Pairwise (fun a b=>lexLt b a=false)) (h1:∀t,t<k→lexLt (l.getD t []) E=true) (h2:k<l.length→lexLt (l.getD k []) E=false) (hk:k≤l.length):
 (l.take k++E::l.drop k).Pairwise (fun a b=>lexLt b a=false):=by
 have hl':=hl
 rw [←List.take_append_drop k l,List.pairwise_append] at hl'
 obtain ⟨p1,p2,p3⟩:=hl'
 rw [List.pairwise_append,List.pairwise_cons]
 refine ⟨p1,⟨fun y hy=> ?_,p2⟩,fun x hx y hy=> ?_⟩
 ·by_cases hkl:k<l.length
  ·rw [List.drop_eq_getElem_cons hkl,List.pairwise_cons] at p2
   have h3:=h2 hkl
   rw [List.getD_eq_getElem?_getD,List.getElem?_eq_getElem hkl] at h3
   rw [List.drop_eq_getElem_cons hkl,List.mem_cons] at hy
   rcases hy with rfl|hy
   ·exact h3
   ·exact lexLt_ntrans _ _ _ (p2.1 y hy) h3
  ·rw [List.drop_eq_nil_of_le (by omega)] at hy
   cases hy
 ·rcases List.mem_cons.1 hy with rfl|hy
  ·obtain ⟨t,ht,rfl⟩:=List.mem_iff_getElem.1 hx
   rw [List.length_take] at ht
   have h3:=h1 t (by omega)
   rw [List.getD_eq_getElem?_getD,List.getElem?_eq_getElem (by omega)] at h3
   rw [List.getElem_take]
   exact lexLt_asym h3
  ·exact p3 x hx y hy
theorem II_ownedsF (l:List (List Int)):V.owneds (II false l)=false:=by
 induction l with
 |nil=>rfl
 |cons x l ih=>simp only [II,List.map_cons,V.owneds,V.owned] at ih ⊢;simp [ih]
theorem II_take (o:Bool) (l:List (List Int)) (k:Nat):(II o l).take k=II o (l.take k):=by simp [II,List.map_take]
theorem II_drop (o:Bool) (l:List (List Int)) (k:Nat):(II o l).drop k=II o (l.drop k):=by simp [II,List.map_drop]
theorem II_solidF (l:List (List Int)):∀x∈II false l,x.solid=true:=fun x hx=>by
 simp only [II,List.mem_map] at hx
 obtain ⟨y,_,rfl⟩:=hx
 simp [V.solid]
set_option maxHeartbeats 1000000 in
set_option maxRecDepth 100000 in
theorem s_spec_l11Sorted:SatM Try.prog 41 0 (ic_srtF f_srtF q_srtE):=by
 intro args ps r y h hp
 unfold ic_srtF at h
 split at h
 ·rename_i a0
  simp only [Option.some.injEq,Prod.mk.injEq] at h
  obtain ⟨rfl,rfl,rfl⟩:=h
  obtain ⟨es,hes,hn2⟩:q_srtE a0:=(alls_cons.1 hp).1
  have g0:V.frzs a0=II false es:=by rw [hes,II_frzs]
  have hel:a0.length=es.length:=by rw [hes,II_length]
  have hf0:f_srtF a0=II false (srtE es):=by rw [f_srtF,hes,unII_II]
  obtain ⟨ve,hve⟩:∃ve,ve=II false es:=⟨_,rfl⟩
  have hvel:ve.length=es.length:=by rw [hve,II_length]
  have gve:∀k,ve.getD k (.slc false 2 (.int .i64 0) [])= .slc false 2 (.int .i64 0) (I (es.getD k [])):=fun k=>by rw [hve,II_getD]
  obtain ⟨n,hn⟩:∃n:Int,n=es.length:=⟨_,rfl⟩
  generalize H_f_lexLt:f_lexLt=F_f_lexLt
  generalize H_q_II:q_II=F_q_II
  refine fnMv_of (T:=tab) (B:=[(37,c_ll_b F_f_lexLt F_q_II)]) (Bi:=[]) 0 [1000002000,1000002503,1000004503,1000008003,0,2,3,4,5,6] Try.func41 rfl rfl (by kernel_rfl) (Nat.le_of_ble_eq_true rfl) mixed tabOk (by subst H_f_lexLt H_q_II;exact (bookCons s_spec_l01Less bookNil)) (by subst H_f_lexLt H_q_II;exact bookINil) (by kernel_rfl) (Nat.le_of_ble_eq_true rfl) ?_
  intro L lp rr hL hr hf hlp
  conv=>cbv
  simp only [stdEqs hL,imp_self,true_and,and_true,bif_or,bif_and,Bool.or_eq_true,Bool.or_eq_false_iff,Bool.and_eq_true,Bool.and_eq_false_iff,decide_eq_true_eq,decide_eq_false_iff_not,Bool.not_eq_true',Bool.not_eq_false',beq_iff_eq,beq_eq_false_iff_ne,ne_eq,toNat0,toNat1,ok_int,toI_int,I_frzs,I_length,I_getD,ok_ints,toL_slc,g0]
  rw [←hve]
  refine hlp (List V×Int) _ _ _ [0,3,4] (fun x=>[(0,none,.val (.slc false 22 (.slc false 2 (.int .i64 0) []) ve)),(3,none,.val (.slc true 22 (.slc false 2 (.int .i64 0) []) x.1)),(4,none,.val (.int .i64 x.2))])
   (fun x=>0≤x.2∧x.2≤n∧∃l,x.1=II false l∧l.Perm (es.take x.2.toNat)∧l.Pairwise (fun a b=>lexLt b a=false)) (fun x=>(n-x.2).toNat) (([],0)) (by subst hL;rfl) ?_ ?_
  ·exact ⟨by simp,by simp only;omega,[],rfl,by simp,List.Pairwise.nil⟩
  rintro ⟨os,i⟩ ⟨i0,i1,l,hL1,hL2,hL3⟩ hfx ag hag
  simp only at i0 i1 hL1 hL2 hL3
  have hll:l.length=i.toNat:=by rw [hL2.length_eq,List.length_take];omega
  have hol:os.length=i.toNat:=by rw [hL1,II_length,hll]
  have gos:∀k,os.getD k (.slc false 2 (.int .i64 0) [])= .slc false 2 (.int .i64 0) (I (l.getD k [])):=fun k=>by rw [hL1,II_getD]
  conv=>cbv
  simp only [stdEqs hL,imp_self,true_and,and_true,bif_or,bif_and,Bool.or_eq_true,Bool.or_eq_false_iff,Bool.and_eq_true,Bool.and_eq_false_iff,decide_eq_true_eq,decide_eq_false_iff_not,Bool.not_eq_true',Bool.not_eq_false',beq_iff_eq,beq_eq_false_iff_ne,ne_eq,toNat0,toNat1,ok_int,toI_int,I_frzs,I_length,I_getD,ok_ints,toL_slc,hvel,←hn]
  refine ⟨fun h2=> ?_,fun h2=> ?_⟩
  ·have hin:i.toNat<es.length:=by omega
   obtain ⟨E,hE⟩:∃E,E=es.getD i.toNat []:=⟨_,rfl⟩
   refine hlp (Int) _ _ _ [0,3,4,5] (fun x=>[(0,none,.val (.slc false 22 (.slc false 2 (.int .i64 0) []) ve)),(3,none,.val (.slc true 22 (.slc false 2 (.int .i64 0) []) os)),(4,none,.val (.int .i64 i)),(5,none,.val (.int .i64 x))])
    (fun x=>0≤x∧x≤i∧∀t,t<x.toNat→lexLt (l.getD t []) E=true) (fun x=>(i-x).toNat) (0) (by subst hL;rfl) ?_ ?_
   ·exact ⟨by omega,i0,fun t ht=>by simp at ht⟩
   intro a ⟨a0',a1',hA⟩ hfx2 ag2 hag2
   have El:∀xs ys:List Int,F_f_lexLt (I xs) (I ys)=lexLt xs ys:=fun xs ys=>by rw [←H_f_lexLt,f_lexLt,unI_I,unI_I]
   have Ql:∀xs ys:List Int,F_q_II (I xs) (I ys):=fun xs ys=>by rw [←H_q_II];exact ⟨⟨_,rfl⟩,⟨_,rfl⟩⟩
   conv=>cbv
   simp only [stdEqs hL,imp_self,true_and,and_true,bif_or,bif_and,Bool.or_eq_true,Bool.or_eq_false_iff,Bool.and_eq_true,Bool.and_eq_false_iff,decide_eq_true_eq,decide_eq_false_iff_not,Bool.not_eq_true',Bool.not_eq_false',beq_iff_eq,beq_eq_false_iff_ne,ne_eq,toNat0,toNat1,ok_int,toI_int,I_frzs,I_length,I_getD,ok_ints,toL_slc,hvel,←hn,hol,gos,gve,←hE,El]
   have hfo:V.frzs os=II false l:=by rw [hL1,II_frzs]
   obtain ⟨at',hat⟩:∃k,k=a.toNat:=⟨_,rfl⟩
   have hti:(i.toNat:Int)=i:=by omega
   have hll2:((II false l).length:Int)=i:=by rw [II_length,hll];omega
   simp only [hfo,hll2,←hat,II_take,II_drop,hti]
   have htk:l.take i.toNat=l:=List.take_of_length_le (by omega)
   simp only [htk,List.drop_zero,II_length,List.nil_append]
   rw [wrap_id (n:=i+1) (by omega) (by omega),wrap_id (n:=a+1) (by omega) (by omega)]
   have hc1:[V.slc false 2 (.int .i64 0) (I E)]=II false [E]:=rfl
   rw [hc1,←II_append,←II_append]
   refine ⟨fun _=>a0',fun _=>by omega,fun _=>trivial,fun _=>i0,fun _=>h2,fun _=>trivial,fun _=>Ql _ _,fun h3=> ?_,fun h3=> ?_⟩
   ·refine hag2 (a+1) ⟨by omega,by omega,fun t ht=> ?_⟩ (by omega)
    rw [toNat_succ a0'] at ht
    by_cases e:t=a.toNat
    ·rw [e,←hat];exact h3.2
    ·exact hA t (by omega)
   ·have hins:=ins_pw (k:=at') hL3 (E:=E) (fun t ht=>hA t (by omega)) (fun hk=>by
     rcases h3 with h3|h3
     ·omega
     ·exact h3) (by omega)
    refine ⟨i0,h2,a0',a1',Int.le_refl _,II_ownedsF _,?_,II_solidF _,by omega,a0',a1',II_ownedsF _,?_,II_solidF _,?_,II_solidF _,?_⟩
    ·simp only [List.length_cons,List.length_nil,II_length,List.length_drop];omega
    ·simp only [List.length_nil,List.length_take];omega
    ·simp only [List.length_take,II_length,List.length_append,List.length_cons,List.length_nil,List.length_drop];omega
    ·refine hag (_,i+1) ⟨by simp only;omega,by simp only;omega,_,rfl,?_,?_⟩ (by simp only;omega)
     ·simp only [toNat_succ i0]
      rw [take_succ_tot _ _ hin,←hE]
      have h4:(l.take at'++([E]++l.drop at')).Perm (E::(l.take at'++l.drop at')):=List.perm_middle
      rw [List.take_append_drop] at h4
      exact h4.trans ((hL2.cons E).trans (List.perm_append_singleton E _).symm)
     ·exact hins
  ·have h5:es.take i.toNat=es:=List.take_of_length_le (by omega)
   rw [h5] at hL2
   rw [hr,hf0,hL1,srtE_eq hL2.symm hL3]
 ·cases h
end Go.Ax
set_option linter.all false
namespace Go.Ax
open Go.Proofs
def butR (E:List Int) (es:List (List Int)):List (List Int):=es.filter fun r=>decide (r≠E)
theorem butR_snoc {E:List Int} {es:List (List Int)} {j:Nat} (h:j<es.length):butR E (es.take (j+1))=butR E (es.take j)++if es.getD j []=E then [] else [es.getD j []]:=by
 rw [butR,List.take_succ_eq_append_getElem h,List.filter_append,←butR,List.getD_eq_getElem?_getD,List.getElem?_eq_getElem h]
 congr 1
 by_cases e:es[j]=E<;>simp [e]
theorem butR_all {E:List Int} {es:List (List Int)} (h:∀t,t<es.length→es.getD t []≠E):butR E es=es:=by
 rw [butR,List.filter_eq_self]
 intro r hr
 obtain ⟨t,ht,rfl⟩:=List.mem_iff_getElem.1 hr
 have:=h t ht
 rw [List.getD_eq_getElem?_getD,List.getElem?_eq_getElem ht] at this
 simpa using this
theorem ixE_cases (es:List (List Int)) (E:List Int):(ixE es E= -1∧∀t,t<es.length→es.getD t []≠E)∨∃t:Nat,t<es.length∧ixE es E=t∧es.getD t []=E∧∀s,s<t→es.getD s []≠E:=by
 by_cases h:es.findIdx (·==E)<es.length
 ·refine .inr ⟨es.findIdx (·==E),h,by rw [ixE,if_pos h],?_,fun s hs=> ?_⟩
  ·have:=List.findIdx_getElem (w:=h)
   rw [List.getD_eq_getElem?_getD,List.getElem?_eq_getElem h]
   simpa using this
  ·have:=List.not_of_lt_findIdx hs
   rw [List.getD_eq_getElem?_getD,List.getElem?_eq_getElem (by omega)]
   simpa using this
 ·refine .inl ⟨by rw [ixE,if_neg h],fun t ht e=>h (List.findIdx_lt_length.2 ⟨es[t],List.getElem_mem ht,?_⟩)⟩
  rw [List.getD_eq_getElem?_getD,List.getElem?_eq_getElem ht] at e
  simpa using e
def ic_df (f:List V→Nat→List V→List V) (q:List V→Nat→List V→Prop):IContract:=fun
 |[.slc true 22 (.slc true 2 (.int .i64 0) []) a0,.fn k cs]=>some ([q a0 k cs],.slc true 22 (.slc true 2 (.int .i64 0) []) (f a0 k cs),.hole 0)
 |_=>none
def f_df (a:List V) (_:Nat):List V→List V
 |[.fn _ [.int _ i],.fn _ [.int _ k]]=>II true (butR (edgL i k) (unII a))
 |_=>[]
def q_df (a:List V) (k:Nat) (cs:List V):Prop:=(∃es,a=II true es∧es.length≤100000∧∀e∈es,e.length≤1000)∧k= 26 ∧∃i j,cs=[.fn 1000000000 [.int .i64 i],.fn 1000000000 [.int .i64 j]]
def DfI (es:List (List Int)) (E:List Int) (vs:List V) (ii:Int) (j:Nat):Prop:=
 vs.length=es.length∧ii=((butR E (es.take j)).length:Nat)∧ii<j∧j≤es.length∧vs.take ii.toNat=II true (butR E (es.take j))∧(∀t,j≤t→t<es.length→vs.getD t (.slc true 2 (.int .i64 0) [])= .slc true 2 (.int .i64 0) (I (es.getD t [])))∧(∀t,ii.toNat≤t→t<j→OkS tab 22 (vs.getD t (.slc true 2 (.int .i64 0) [])))
theorem take_set_set {vs:List V} {i j:Nat} {x h:V} (hij:i<j) (hj:j<vs.length):((vs.set j h).set i x).take (i+1)=vs.take i++[x]:=by
 apply List.ext_getElem?
 intro t
 rw [List.getElem?_take,List.getElem?_append]
 by_cases h1:t<i
 ·rw [if_pos (by omega),List.getElem?_set_ne (by omega),List.getElem?_set_ne (by omega),if_pos (by rw [List.length_take];omega),List.getElem?_take,if_pos h1]
 ·by_cases h2:t=i
  ·subst h2
   rw [if_pos (by omega),List.getElem?_set_self (by rw [List.length_set];omega),if_neg (by rw [List.length_take];omega)]
   rw [show t-(List.take t vs).length=0 by rw [List.length_take];omega]
   rfl
  ·rw [if_neg (by omega),if_neg (by rw [List.length_take];omega),List.getElem?_eq_none (by rw [List.length_take];simp;omega)]
set_option maxHeartbeats 1000000 in
set_option maxRecDepth 100000 in
theorem s_delF:SatM Try.prog 25 0 (ic_df f_df q_df):=by
 intro args ps r y h hp
 unfold ic_df at h
 split at h
 ·rename_i a0 k cs
  simp only [Option.some.injEq,Prod.mk.injEq] at h
  obtain ⟨rfl,rfl,rfl⟩:=h
  obtain ⟨⟨es,hes,hel,hrl⟩,hk,ci,cj,hcs⟩:q_df a0 k cs:=(alls_cons.1 hp).1
  subst hk hcs
  obtain ⟨E,hE⟩:∃E,E=edgL ci cj:=⟨_,rfl⟩
  have hal:a0.length=es.length:=by rw [hes,II_length]
  have g0:V.frzs a0=II false es:=by rw [hes,II_frzs]
  have hf0:f_df a0 26 [.fn 1000000000 [.int .i64 ci],.fn 1000000000 [.int .i64 cj]]=II true (butR E es):=by rw [f_df,hes,unII_II,←hE]
  have hix:f_ix (II false es) 26 [.fn 1000000000 [.int .i64 ci],.fn 1000000000 [.int .i64 cj]]=ixE es E:=by rw [f_ix,unII_II,←hE]
  obtain ⟨n,hn⟩:∃n:Int,n=es.length:=⟨_,rfl⟩
  have hq7:∀t,t<es.length→q_eq7 (I (es.getD t [])) ci cj:=fun t ht=>⟨⟨_,rfl⟩,by rw [I_length];exact hrl _ (by rw [List.getD_eq_getElem?_getD,List.getElem?_eq_getElem ht];exact List.getElem_mem _)⟩
  have h7:∀t,f_eq7 (I (es.getD t [])) ci cj=decide (es.getD t []=E):=fun t=>by rw [f_eq7,unI_I,hE]
  have hqx:q_ixb (II false es) 26 [.fn 1000000000 [.int .i64 ci],.fn 1000000000 [.int .i64 cj]]:=⟨⟨es,rfl,hel,hrl⟩,rfl,_,_,rfl⟩
  generalize H_f_ix:f_ix=F_f_ix
  generalize H_q_ixb:q_ixb=F_q_ixb
  generalize H_f_eq7:f_eq7=F_f_eq7
  generalize H_q_eq7:q_eq7=F_q_eq7
  refine fnMv_of (T:=tab) (B:=[(51,c_mf_i7 F_f_ix F_q_ixb),(26,c_eq7 F_f_eq7 F_q_eq7)]) (Bi:=[]) 0 [2000011838,2000012341,0,1,4,5,6,7] Try.func25 rfl rfl (by kernel_rfl) (Nat.le_of_ble_eq_true rfl) mixed tabOk (by subst H_f_ix H_q_ixb H_f_eq7 H_q_eq7;exact (bookCons s_ixb (bookCons s_eq7b bookNil))) (by subst H_f_ix H_q_ixb H_f_eq7 H_q_eq7;exact bookINil) (by kernel_rfl) (Nat.le_of_ble_eq_true rfl) ?_
  intro L lp rr hL hr hf hlp
  have Ex:F_f_ix (II false es) 26 [.fn 1000000000 [.int .i64 ci],.fn 1000000000 [.int .i64 cj]]=ixE es E:=by rw [←H_f_ix,hix]
  have Qx:F_q_ixb (II false es) 26 [.fn 1000000000 [.int .i64 ci],.fn 1000000000 [.int .i64 cj]]:=by rw [←H_q_ixb];exact hqx
  conv=>cbv
  simp only [stdEqs hL,imp_self,true_and,and_true,bif_or,bif_and,Bool.or_eq_true,Bool.or_eq_false_iff,Bool.and_eq_true,Bool.and_eq_false_iff,decide_eq_true_eq,decide_eq_false_iff_not,Bool.not_eq_true',Bool.not_eq_false',beq_iff_eq,beq_eq_false_iff_ne,ne_eq,toNat0,toNat1,ok_int,toI_int,I_frzs,I_length,I_getD,ok_ints,toL_slc,g0,Ex,Qx,true_and]
  rcases ixE_cases es E with ⟨e1,e2⟩|⟨t0,e0,e1,e2,e3⟩
  ·rw [e1]
   refine ⟨fun _=> ?_,fun h=>absurd rfl h⟩
   rw [hr,hf0,butR_all e2,hes]
  rw [e1]
  refine ⟨fun h=>absurd h (by omega),fun _=> ?_⟩
  rw [wrap_id (n:=(t0:Int)+1) (by omega) (by omega)]
  have hb0:butR E (es.take t0)=es.take t0:=butR_all fun t ht=>by
   rw [List.length_take] at ht
   rw [List.getD_eq_getElem?_getD,List.getElem?_take,if_pos (by omega),←List.getD_eq_getElem?_getD]
   exact e3 t (by omega)
  refine hlp ((List V×Int)×Int) _ _ _ [0,1,5,6] (fun x=>[(0,none,.val (.slc true 22 (.slc true 2 (.int .i64 0) []) x.1.1)),(1,none,.val (.fn 26 [(.fn 1000000000 [.int .i64 ci]),(.fn 1000000000 [.int .i64 cj])])),(5,none,.val (.int .i64 x.1.2)),(6,none,.val (.int .i64 x.2))])
   (fun x=>0≤x.2∧x.2≤n∧DfI es E x.1.1 x.1.2 x.2.toNat) (fun x=>(n-x.2).toNat) (((a0,(t0:Int)),(t0:Int)+1)) (by subst hL;rfl) ?_ ?_
  ·refine ⟨by simp only;omega,by simp only;omega,?_⟩
   have hj:((t0:Int)+1).toNat=t0+1:=by omega
   simp only [hj]
   have hs1:=butR_snoc (E:=E) e0
   rw [if_pos e2,List.append_nil,hb0] at hs1
   exact ⟨hal,by rw [hs1,List.length_take];omega,by omega,by omega,by rw [hs1,hes,II_take];simp,fun t h1 h2=>by rw [hes,II_getD],fun t h1 h2=>by rw [hes,II_getD];exact .inl (ok_ints true true _)⟩
  rintro ⟨⟨vs,ii⟩,j⟩ ⟨j0,j1,hI⟩ hfx ag hag
  simp only at j0 j1 hI
  obtain ⟨i1,i2,i3,i4,i5,i6,i7⟩:=hI
  conv=>cbv
  simp only [stdEqs hL,imp_self,true_and,and_true,bif_or,bif_and,Bool.or_eq_true,Bool.or_eq_false_iff,Bool.and_eq_true,Bool.and_eq_false_iff,decide_eq_true_eq,decide_eq_false_iff_not,Bool.not_eq_true',Bool.not_eq_false',beq_iff_eq,beq_eq_false_iff_ne,ne_eq,toNat0,toNat1,ok_int,toI_int,I_frzs,I_length,I_getD,ok_ints,toL_slc,i1,←hn]
  refine ⟨fun h2=> ?_,fun h2=> ?_⟩
  ·have hjn:j.toNat<es.length:=by omega
   have gj:=i6 j.toNat (Nat.le_refl _) hjn
   rw [gj]
   simp only [stdEqs hL,imp_self,true_and,and_true,bif_or,bif_and,Bool.or_eq_true,Bool.or_eq_false_iff,Bool.and_eq_true,Bool.and_eq_false_iff,decide_eq_true_eq,decide_eq_false_iff_not,Bool.not_eq_true',Bool.not_eq_false',beq_iff_eq,beq_eq_false_iff_ne,ne_eq,toNat0,toNat1,ok_int,toI_int,I_frzs,I_length,I_getD,ok_ints,toL_slc,true_and]
   have Qe:F_q_eq7 (I (es.getD j.toNat [])) ci cj:=by rw [←H_q_eq7];exact hq7 _ hjn
   have Fe:F_f_eq7 (I (es.getD j.toNat [])) ci cj=decide (es.getD j.toNat []=E):=by rw [←H_f_eq7];exact h7 _
   have hs1:=butR_snoc (E:=E) hjn
   have hjs:(j+1).toNat=j.toNat+1:=by omega
   rw [Fe,decide_eq_true_eq,decide_eq_false_iff_not,wrap_id (n:=ii+1) (by omega) (by omega),wrap_id (n:=j+1) (by omega) (by omega)]
   refine ⟨j0,h2,hjn,hjn,Qe,fun h3=> ?_,fun h3=> ?_⟩
   ·rw [if_neg h3] at hs1
    have hii:ii.toNat<j.toNat:=by omega
    refine ⟨by omega,by omega,hjn,by rw [List.length_set];omega,?_,?_⟩
    ·rw [List.getD_eq_getElem?_getD,List.getElem?_set_ne (by omega),←List.getD_eq_getElem?_getD]
     exact i7 _ (Nat.le_refl _) hii
    ·refine hag ((_,ii+1),j+1) ⟨by simp only;omega,by simp only;omega,?_⟩ (by simp only;omega)
     simp only [hjs]
     refine ⟨by rw [List.length_set,List.length_set];exact i1,by rw [hs1,List.length_append];simp only [List.length_cons,List.length_nil];omega,by omega,by omega,?_,fun t k1 k2=> ?_,fun t k1 k2=> ?_⟩
     ·rw [show (ii+1).toNat=ii.toNat+1 by omega,take_set_set hii (by omega),i5,hs1]
      simp [II]
     ·rw [List.getD_eq_getElem?_getD,List.getElem?_set_ne (by omega),List.getElem?_set_ne (by omega),←List.getD_eq_getElem?_getD]
      exact i6 t (by omega) k2
     ·rw [List.getD_eq_getElem?_getD,List.getElem?_set_ne (by omega)]
      by_cases e:t=j.toNat
      ·subst e
       rw [List.getElem?_set_self (by omega)]
       exact .inr ⟨_,rfl,rfl,rfl⟩
      ·rw [List.getElem?_set_ne (by omega),←List.getD_eq_getElem?_getD]
       exact i7 t (by omega) (by omega)
   ·rw [if_pos h3,List.append_nil] at hs1
    refine hag ((vs,ii),j+1) ⟨by simp only;omega,by simp only;omega,?_⟩ (by simp only;omega)
    simp only [hjs]
    refine ⟨i1,by rw [hs1];exact i2,by omega,by omega,by rw [hs1];exact i5,fun t k1 k2=>i6 t (by omega) k2,fun t k1 k2=> ?_⟩
    by_cases e:t=j.toNat
    ·subst e
     rw [gj]
     exact .inl (ok_ints true true _)
    ·exact i7 t k1 (by omega)
  ·have hjn:j.toNat=es.length:=by omega
   have hel2:List.take j.toNat es=es:=List.take_of_length_le (by omega)
   rw [hel2] at i2 i5
   have hlt:(List.take ii.toNat vs).length=ii.toNat:=by rw [List.length_take];omega
   refine ⟨by omega,by omega,by omega,?_,?_⟩
   ·rw [List.drop_zero,List.length_append,hlt,List.length_replicate];omega
   ·rw [List.drop_zero,List.drop_zero,List.take_append_of_le_length (by omega),List.take_of_length_le (by omega),hr,hf0,i5]
 ·cases h
end Go.Ax
set_option linter.all false
namespace Go.Ax
open Go.Proofs
theorem held_len {a:List V} {k:Int} (h:decide (f0_held a k<0)=false):f0_held a k=k+a.length:=by
 unfold f0_held at h ⊢
 split at h
 ·rename_i hh;rw [if_pos hh]
 ·simp at h
def f0_heldG (a b:List V) (k:Int):Int:=bif decide (f0_held a k<0) then-1 else f0_heldSS b (f0_held a k)
def q_heldG (a b:List V) (k:Int):Prop:=IsI a∧IsII false b∧0≤k∧k+a.length+tot (unII b)≤9223372036854775807
set_option maxHeartbeats 1000000 in
set_option maxRecDepth 100000 in
theorem s_laws_heldGraph:Sat Try.prog 10 (c_Gi_i f0_heldG q_heldG):=by
 intro args ps r h hp
 unfold c_Gi_i at h
 split at h
 ·rename_i a0 a1 k
  simp only [Option.some.injEq,Prod.mk.injEq] at h
  obtain ⟨rfl,rfl⟩:=h
  obtain ⟨h0,h1,h2,h3⟩:q_heldG a0 a1 k:=(alls_cons.1 hp).1
  have g:=h0.frz
  have g2:=frzs_II h1
  have hf0:f0_heldG a0 a1 k=bif decide (f0_held a0 k<0) then-1 else f0_heldSS a1 (f0_held a0 k):=rfl
  generalize H_f0_held:f0_held=F_f0_held
  generalize H_q_mark:q_mark=F_q_mark
  generalize H_f0_heldSS:f0_heldSS=F_f0_heldSS
  generalize H_q_markF:q_markF=F_q_markF
  refine fnOk_ofI (T:=tab) (B:=[(34,c_heldInt64S F_f0_held F_q_mark),(35,c_heldSS F_f0_heldSS F_q_markF)]) (Bi:=[]) [0,1,2,4] Try.func10 rfl rfl (by kernel_rfl) (Nat.le_of_ble_eq_true rfl) mixed tabOk (by subst H_f0_held H_q_mark H_f0_heldSS H_q_markF;exact (bookCons s_laws_heldInt64S (bookCons s_laws_heldInt64SS bookNil))) (by subst H_f0_held H_q_mark H_f0_heldSS H_q_markF;exact bookINil) (by kernel_rfl) ?_
  intro L lp rr hL hr hf hlp
  conv=>cbv
  simp only [stdEqs hL,g,g2]
  subst H_f0_held H_q_mark H_f0_heldSS H_q_markF
  rw [hr,hf0]
  refine ⟨⟨h0,h2,by omega⟩,fun h=> ?_,fun h=>⟨?_,fun h'=> ?_,fun h'=> ?_⟩⟩
  ·rw [h];rfl
  ·rw [held_len h]
   exact ⟨h1,by omega,by omega⟩
  ·rw [h,cond_false]
   have e:f0_heldSS a1 (f0_held a0 k)= -1:=by
    simp only [decide_eq_true_eq,decide_eq_false_iff_not] at h h'
    unfold f0_heldSS at h' ⊢
    split at h'
    ·omega
    ·rename_i hh;rw [if_neg hh]
   rw [e]
  ·rw [h,cond_false]
 ·cases h
theorem graph_keys2 (ws:List Int) (es:List (List Int)) (h:ws.length+tot es≤4611686018427387904):
 q_heldG (I (marks ws.length 1)) (II false (marksGo (1+ws.length) es)) 1∧f0_heldG (I (marks ws.length 1)) (II false (marksGo (1+ws.length) es)) 1=1+ws.length+tot es:=by
 have hd:f0_held (I (marks ws.length 1)) 1=1+ws.length:=by rw [f0_held,unI_I,I_length,marks_len,if_pos rfl]
 refine ⟨⟨⟨_,rfl⟩,⟨_,rfl⟩,by omega,by rw [I_length,marks_len,unII_II,tot_marksGo];omega⟩,?_⟩
 have hn:decide ((1:Int)+ws.length<0)=false:=by simp;omega
 rw [f0_heldG,hd,hn,cond_false,f0_heldSS,unII_II,marksGo_idem,if_pos rfl,tot_marksGo]
theorem tot_len2:∀(l:List (List Int)) (m:Nat),(∀x∈l,x.length=m)→tot l=l.length*m
 |[],_,_=>by simp [tot]
 |x::l,m,h=>by rw [tot,tot_len2 l m (fun y hy=>h y (by simp [hy])),h x (by simp),List.length_cons,Nat.add_mul,Nat.one_mul,Nat.add_comm]
end Go.Ax
set_option linter.all false
namespace Go.Ax
open Go.Proofs
def placeB (P S:List Int) (i:Nat):Bool:=if i=0 then decide (P.getD 0 0= -1)&&decide (S.getD 0 0= -1) else
 (decide (0≤P.getD i 0)&&decide (P.getD i 0<i))&&(decide (S.getD i 0= -1)||decide (0≤S.getD i 0)&&(decide (S.getD i 0=P.getD (P.getD i 0).toNat 0)||decide (S.getD i 0=S.getD (P.getD i 0).toNat 0)))
def diffB (P S:List Int) (i j:Nat):Bool:= !(decide (0≤S.getD i 0)&&decide (S.getD i 0=S.getD j 0)&&decide (P.getD i 0=P.getD j 0))
structure ClP (P S Q:List Int):Prop where
 n1:1≤P.length
 n24:P.length≤24
 sl:S.length=P.length
 ql:Q.length=P.length
 q:∀i,i<P.length→-100000≤Q.getD i 0∧Q.getD i 0≤100000
 place:∀i,i<P.length→placeB P S i=true
 diff:∀i j,i<P.length→j<i→diffB P S i j=true
end Go.Ax
set_option linter.all false
namespace Go.Ax
open Go.Proofs
end Go.Ax
set_option linter.all false
namespace Go.Ax
open Go.Proofs
end Go.Ax
set_option linter.all false
namespace Go.Ax
open Go.Proofs
end Go.Ax
set_option linter.all false
namespace Go.Ax
open Go.Proofs
end Go.Ax
set_option linter.all false
namespace Go.Ax
open Go.Proofs
end Go.Ax
set_option linter.all false
namespace Go.Ax
open Go.Proofs
def f_full (a _ l:List V):Bool:=((unI l).any fun v=>decide ((unI a).getD v.toNat 0= -1000))||decide (a.length=40)
def q_full (a b l:List V):Prop:=IsI a∧IsII false b∧a.length≤1000∧∃ls,l=I ls∧ls.length≤1000∧∀i,i<ls.length→0≤ls.getD i 0∧ls.getD i 0<a.length
def c_Gl_b8 (f:List V→List V→List V→Bool) (q:List V→List V→List V→Prop):Contract:=fun
 |[.agg [.slc false 2 (.int .i64 0) a0,.slc false 22 (.slc false 2 (.int .i64 0) []) a1],.slc false 2 (.int .i64 0) a2]=>some ([q a0 a1 a2],.bool (f a0 a1 a2))
 |_=>none
set_option maxHeartbeats 1000000 in
set_option maxRecDepth 100000 in
theorem s_spec_l11Full:Sat Try.prog 15 (c_Gl_b8 f_full q_full):=by
 intro args ps r h hp
 unfold c_Gl_b8 at h
 split at h
 ·rename_i a0 a1 a2
  simp only [Option.some.injEq,Prod.mk.injEq] at h
  obtain ⟨rfl,rfl⟩:=h
  obtain ⟨⟨ws,hws⟩,hq1,hwl1,ls,hls,hll1,hlin⟩:q_full a0 a1 a2:=(alls_cons.1 hp).1
  have g0:V.frzs a0=a0:=by rw [hws,I_frzs]
  have g1:=frzs_II hq1
  have g2:V.frzs a2=a2:=by rw [hls,I_frzs]
  have hwl:a0.length=ws.length:=by rw [hws,I_length]
  have hll:a2.length=ls.length:=by rw [hls,I_length]
  have gws:∀k,a0.getD k (.int .i64 0)= .int .i64 (ws.getD k 0):=fun k=>by rw [hws,I_getD]
  have gls:∀k,a2.getD k (.int .i64 0)= .int .i64 (ls.getD k 0):=fun k=>by rw [hls,I_getD]
  have hf0:f_full a0 a1 a2=((ls.any fun v=>decide (ws.getD v.toNat 0= -1000))||decide (ws.length=40)):=by rw [f_full,hwl,hws,hls,unI_I,unI_I]
  rw [hwl] at hlin
  obtain ⟨n,hn⟩:∃n:Int,n=ls.length:=⟨_,rfl⟩
  obtain ⟨m,hm⟩:∃m:Int,m=ws.length:=⟨_,rfl⟩
  refine fnOk_ofI (T:=tab) (B:=[]) (Bi:=[]) [0,1,2,4,5] Try.func15 rfl rfl (by kernel_rfl) (Nat.le_of_ble_eq_true rfl) mixed tabOk (by exact bookNil) (by exact bookINil) (by kernel_rfl) ?_
  intro L lp rr hL hr hf hlp
  conv=>cbv
  refine hlp (Int) _ _ _ [1,2,5] (fun x=>[(1,none,.val (.slc false 2 (.int .i64 0) a2)),(2,none,.val (.box 27 (.agg [.slc false 2 (.int .i64 0) a0,.slc false 22 (.slc false 2 (.int .i64 0) []) a1]))),(5,none,.val (.int .i64 x))])
   (fun x=>0≤x∧x≤n∧∀t,t<x.toNat→¬ws.getD (ls.getD t 0).toNat 0= -1000) (fun x=>(n-x).toNat) (0) (by subst hL;rfl) ?_ ?_
  ·exact ⟨by omega,by omega,fun t ht=>by simp at ht⟩
  intro i ⟨i0,i1,hI⟩ hfx ag hag
  conv=>cbv
  simp only [stdEqs hL,imp_self,true_and,and_true,bif_or,bif_and,Bool.or_eq_true,Bool.or_eq_false_iff,Bool.and_eq_true,Bool.and_eq_false_iff,decide_eq_true_eq,decide_eq_false_iff_not,Bool.not_eq_true',Bool.not_eq_false',beq_iff_eq,beq_eq_false_iff_ne,ne_eq,toNat0,toNat1,ok_int,toI_int,I_frzs,I_length,I_getD,ok_ints,toL_slc,g0,g1,g2,hwl,hll,gws,gls,←hn,←hm]
  refine ⟨fun h2=> ?_,fun h2=> ?_⟩
  ·have hin:i.toNat<ls.length:=by omega
   obtain ⟨hb1,hb2⟩:=hlin _ hin
   refine ⟨i0,h2,hb1,by omega,fun h3=> ?_,fun h3=> ?_⟩
   ·have ha:(ls.any fun v=>decide (ws.getD v.toNat 0= -1000))=true:=by
     rw [List.any_eq_true]
     refine ⟨ls.getD i.toNat 0,?_,decide_eq_true h3⟩
     rw [List.getD_eq_getElem?_getD,List.getElem?_eq_getElem hin]
     exact List.getElem_mem _
    rw [hr,hf0,ha];rfl
   ·rw [wrap_id (n:=i+1) (by omega) (by omega)]
    refine hag (i+1) ⟨by omega,by omega,fun t ht=> ?_⟩ (by omega)
    rw [toNat_succ i0] at ht
    by_cases e:t=i.toNat
    ·rw [e];exact h3
    ·exact hI t (by omega)
  ·have ha:(ls.any fun v=>decide (ws.getD v.toNat 0= -1000))=false:=by
    rw [List.any_eq_false]
    intro x hx
    obtain ⟨t,ht,rfl⟩:=List.mem_iff_getElem.1 hx
    have h3:=hI t (by omega)
    rw [List.getD_eq_getElem?_getD (l:=ls),List.getElem?_eq_getElem ht] at h3
    simpa using h3
   have e:(m==40)=decide (ws.length=40):=by
    rw [Bool.eq_iff_iff];simp only [beq_iff_eq,decide_eq_true_eq];omega
   rw [hr,hf0,ha,Bool.false_or,e]
 ·cases h
end Go.Ax
set_option linter.all false
namespace Go.Ax
open Go.Proofs
theorem gAtD {l:List Int} {t:Nat} (h:t<l.length):l.getD t 0∈l:=by
 rw [List.getD_eq_getElem?_getD,List.getElem?_eq_getElem h];exact List.getElem_mem h
def c_lxi_i (f:List V→Int→Int) (q:List V→Int→Prop):Contract:=fun
 |[.slc false 2 (.int .i64 0) a0,.int .i64 a1]=>some ([q a0 a1],.int .i64 (f a0 a1))
 |_=>none
def idx (ls:List Int) (x:Int):Int:=match (List.range ls.length).find? fun t=>ls.getD t 0==x with
 |some t=>t
 |none=> -1
theorem idx_has {ls:List Int} {x:Int}:decide (0≤idx ls x)=ls.contains x:=by
 rw [Bool.eq_iff_iff,decide_eq_true_eq,List.contains_iff_mem,idx]
 cases hf:(List.range ls.length).find? fun t=>ls.getD t 0==x with
 |some t=>
  rw [List.find?_range_eq_some] at hf
  simp only [beq_iff_eq,List.mem_range] at hf
  exact ⟨fun _=>by rw [←hf.1];exact gAtD hf.2.1,fun _=>by simp only;omega⟩
 |none=>
  rw [List.find?_eq_none] at hf
  refine ⟨fun h=>by simp only at h;omega,fun h=> ?_⟩
  obtain ⟨t,ht,he⟩:=List.mem_iff_getElem.1 h
  refine absurd ?_ (hf t (by simpa using ht))
  rw [List.getD_eq_getElem?_getD,List.getElem?_eq_getElem ht]
  simpa using he
def f_idx (a:List V) (x:Int):Int:=idx (unI a) x
def q_lI (a:List V) (_:Int):Prop:=IsIs a
set_option maxHeartbeats 1000000 in
set_option maxRecDepth 100000 in
theorem s_spec_l01Index:Sat Try.prog 38 (c_lxi_i f_idx q_lI):=by
 intro args ps r h hp
 unfold c_lxi_i at h
 split at h
 ·rename_i a0 a1
  simp only [Option.some.injEq,Prod.mk.injEq] at h
  obtain ⟨rfl,rfl⟩:=h
  obtain ⟨⟨ls,hls⟩,hll⟩:q_lI a0 a1:=(alls_cons.1 hp).1
  have hal:a0.length=ls.length:=by rw [hls,I_length]
  rw [hal] at hll
  have gl:∀k,a0.getD k (.int .i64 0)= .int .i64 (ls.getD k 0):=fun k=>by rw [hls,I_getD]
  have hf0:f_idx a0 a1=idx ls a1:=by rw [f_idx,hls,unI_I]
  refine fnOk_ofI (T:=tab) (B:=[]) (Bi:=[]) [0,1,4,5] Try.func38 rfl rfl (by kernel_rfl) (Nat.le_of_ble_eq_true rfl) mixed tabOk (by exact bookNil) (by exact bookINil) (by kernel_rfl) ?_
  intro L lp rr hL hr hf hlp
  conv=>cbv
  refine hlp (Int) _ _ _ [0,1,5] (fun x=>[(0,none,.val (.slc false 2 (.int .i64 0) a0)),(1,none,.val (.int .i64 a1)),(5,none,.val (.int .i64 x))])
   (fun x=>0≤x∧x≤ls.length∧∀t,t<x.toNat→ls.getD t 0≠a1) (fun x=>(ls.length-x).toNat) (0) (by subst hL;rfl) ?_ ?_
  ·exact ⟨by simp,by simp,fun t ht=>by simp at ht⟩
  rintro i ⟨i0,i1,hI⟩ hfx ag hag
  conv=>cbv
  simp only [stdEqs hL,imp_self,true_and,and_true,bif_or,bif_and,Bool.or_eq_true,Bool.or_eq_false_iff,Bool.and_eq_true,Bool.and_eq_false_iff,decide_eq_true_eq,decide_eq_false_iff_not,Bool.not_eq_true',Bool.not_eq_false',beq_iff_eq,beq_eq_false_iff_ne,ne_eq,toNat0,toNat1,ok_int,toI_int,I_frzs,I_length,I_getD,ok_ints,toL_slc,hal,gl]
  refine ⟨fun h2=>⟨i0,by omega,fun h3=> ?_,fun h3=> ?_⟩,fun h2=> ?_⟩
  ·have hfi:((List.range ls.length).find? fun t=>ls.getD t 0==a1)=some i.toNat:=by
    rw [List.find?_range_eq_some]
    refine ⟨by simpa using h3,by simp only [List.mem_range];omega,fun t ht=> ?_⟩
    have:=hI t ht
    simpa using this
   rw [hr,hf0,idx,hfi]
   simp only
   rw [show ((i.toNat:Nat):Int)=i by omega]
  ·rw [wrap_id (n:=i+1) (by omega) (by omega)]
   refine hag (i+1) ⟨by omega,by omega,fun t ht=> ?_⟩ (by omega)
   by_cases hti:t=i.toNat
   ·rw [hti];exact h3
   ·exact hI t (by omega)
  ·have hfi:((List.range ls.length).find? fun t=>ls.getD t 0==a1)=none:=by
    rw [List.find?_eq_none]
    intro t ht
    simp only [List.mem_range] at ht
    have:=hI t (by omega)
    simpa using this
   rw [hr,hf0,idx,hfi]
 ·cases h
def c_lxi_b (f:List V→Int→Bool) (q:List V→Int→Prop):Contract:=fun
 |[.slc false 2 (.int .i64 0) a0,.int .i64 a1]=>some ([q a0 a1],.bool (f a0 a1))
 |_=>none
def f_has (a:List V) (x:Int):Bool:=(unI a).contains x
set_option maxHeartbeats 1000000 in
set_option maxRecDepth 100000 in
theorem s_spec_l01Has:Sat Try.prog 16 (c_lxi_b f_has q_lI):=by
 intro args ps r h hp
 unfold c_lxi_b at h
 split at h
 ·rename_i a0 a1
  simp only [Option.some.injEq,Prod.mk.injEq] at h
  obtain ⟨rfl,rfl⟩:=h
  have hq:q_lI a0 a1:=(alls_cons.1 hp).1
  have g0:V.frzs a0=a0:=by obtain ⟨⟨ls,hls⟩,_⟩:=hq;rw [hls,I_frzs]
  generalize H_f_idx:f_idx=F_f_idx
  generalize H_q_lI:q_lI=F_q_lI
  refine fnOk_ofI (T:=tab) (B:=[(38,c_lxi_i F_f_idx F_q_lI)]) (Bi:=[]) [0,1,4] Try.func16 rfl rfl (by kernel_rfl) (Nat.le_of_ble_eq_true rfl) mixed tabOk (by subst H_f_idx H_q_lI;exact (bookCons s_spec_l01Index bookNil)) (by subst H_f_idx H_q_lI;exact bookINil) (by kernel_rfl) ?_
  intro L lp rr hL hr hf hlp
  conv=>cbv
  simp only [stdEqs hL,imp_self,true_and,and_true,bif_or,bif_and,Bool.or_eq_true,Bool.or_eq_false_iff,Bool.and_eq_true,Bool.and_eq_false_iff,decide_eq_true_eq,decide_eq_false_iff_not,Bool.not_eq_true',Bool.not_eq_false',beq_iff_eq,beq_eq_false_iff_ne,ne_eq,toNat0,toNat1,ok_int,toI_int,I_frzs,I_length,I_getD,ok_ints,toL_slc,g0]
  subst H_f_idx H_q_lI
  exact ⟨hq,by rw [hr,f_has,←idx_has];rfl⟩
 ·cases h
end Go.Ax
set_option linter.all false
namespace Go.Ax
end Go.Ax
