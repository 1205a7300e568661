import Derived.Test.YtopcmoaklelldaaB04p1
/-
 Lists of lists of numbers,and of branches:copies,comparisons,marks;curves of one branch. No conditions but those of the contracts.
-/
set_option linter.all false
namespace Go.Ax
open Go.Proofs
def II (o:Bool) (xss:List (List Int)):List V:=xss.map fun xs=> .slc o 2 (.int .i64 0) (I xs)
def unII (es:List V):List (List Int):=es.map fun v=>unI v.toL
theorem unII_II (o:Bool) (xss:List (List Int)):unII (II o xss)=xss:=by
 simp only [unII,II,List.map_map]
 conv=>rhs;rw [←List.map_id xss]
 apply List.map_congr_left
 intro xs _
 simp [V.toL]
theorem II_length (o:Bool) (xss:List (List Int)):(II o xss).length=xss.length:=by simp [II]
theorem II_getD (o:Bool) (xss:List (List Int)) (i:Nat):(II o xss).getD i (.slc o 2 (.int .i64 0) [])= .slc o 2 (.int .i64 0) (I (xss.getD i [])):=by
 simp only [II,List.getD_eq_getElem?_getD,List.getElem?_map]
 cases xss[i]? <;>rfl
theorem II_set (o:Bool) (xss:List (List Int)) (i:Nat) (xs:List Int):(II o xss).set i (.slc o 2 (.int .i64 0) (I xs))=II o (xss.set i xs):=by simp [II,List.map_set]
theorem II_frzs (o:Bool) (xss:List (List Int)):V.frzs (II o xss)=II false xss:=by
 rw [V.frzs_eq]
 simp only [II,List.map_map]
 apply List.map_congr_left
 intro xs _
 simp [V.frz,I_frzs]
theorem II_noFzs (xss:List (List Int)):V.noFzs (II true xss)=true:=by
 rw [V.noFzs_eq]
 simp only [II,List.all_map,List.all_eq_true]
 intro xs _
 simp [V.noFz]
theorem toL_slc (o:Bool) (e:TypeId) (d:V) (es:List V):stdV.toL (.slc o e d es)=es:=rfl
def IsII (o:Bool) (es:List V):Prop:=∃xss,es=II o xss
theorem ok_ints (o o':Bool) (xs:List Int):vw stdV tab o 20 33 (.slc o' 2 (.int .i64 0) (I xs))=some (.slc o 2 (.int .i64 0) (I xs)):=by cases o<;>rfl
def tot:List (List Int)→Nat
 |[]=>0
 |xs::l=>xs.length+tot l
def marksGo (k:Int):List (List Int)→List (List Int)
 |[]=>[]
 |xs::l=>marks xs.length k::marksGo (k+xs.length) l
theorem tot_append:∀a b:List (List Int),tot (a++b)=tot a+tot b
 |[],_=>by simp [tot]
 |x::a,b=>by simp [tot,tot_append a b];omega
theorem marksGo_append:∀(a b:List (List Int)) (k:Int),marksGo k (a++b)=marksGo k a++marksGo (k+tot a) b
 |[],b,k=>by simp [marksGo,tot]
 |x::a,b,k=>by
  simp only [List.cons_append,marksGo,marksGo_append a b,tot]
  congr 3
  omega
theorem marksGo_len:∀(a:List (List Int)) (k:Int),(marksGo k a).length=a.length
 |[],_=>rfl
 |_::a,k=>by simp [marksGo,marksGo_len a]
theorem take_succ_tot (xss:List (List Int)) (i:Nat) (h:i<xss.length):xss.take (i+1)=xss.take i++[xss.getD i []]:=by
 rw [List.take_succ_eq_append_getElem h,List.getD_eq_getElem?_getD,List.getElem?_eq_getElem h]
 rfl
theorem tot_take_le (xss:List (List Int)) (i:Nat):tot (xss.take i)≤tot xss:=by
 have:=tot_append (xss.take i) (xss.drop i)
 rw [List.take_append_drop] at this
 omega
theorem marks_step (xss:List (List Int)) (k:Int) (i:Nat) (h:i<xss.length):
 (marksGo k (xss.take i)++xss.drop i).set i (marks (xss.getD i []).length (k+tot (xss.take i)))=marksGo k (xss.take (i+1))++xss.drop (i+1):=by
 have hl:(marksGo k (xss.take i)).length=i:=by rw [marksGo_len,List.length_take];omega
 rw [List.set_append_right _ _ (by omega),hl,Nat.sub_self,List.drop_eq_getElem_cons h,List.set_cons_zero,take_succ_tot xss i h,marksGo_append]
 simp [marksGo]
theorem marks_at (xss:List (List Int)) (k:Int) (i:Nat) (h:i<xss.length):(marksGo k (xss.take i)++xss.drop i).getD i []=xss.getD i []:=by
 have hl:(marksGo k (xss.take i)).length=i:=by rw [marksGo_len,List.length_take];omega
 rw [List.getD_eq_getElem?_getD,List.getElem?_append_right (by omega),hl,Nat.sub_self,List.getElem?_drop,Nat.add_zero,←List.getD_eq_getElem?_getD]
def ic_markSS (f0:List V→Int→Int) (f1:List V→Int→List V) (q:List V→Int→Prop):IContract:=fun
 |[.slc true 33 (.slc true 2 (.int .i64 0) []) a0,.int .i64 a1]=>some ([q a0 a1],.int .i64 (f0 a0 a1),.slc true 33 (.slc true 2 (.int .i64 0) []) (f1 a0 a1))
 |_=>none
def f0_markSS (es:List V) (k:Int):Int:=k+tot (unII es)
def f1_markSS (es:List V) (k:Int):List V:=II true (marksGo k (unII es))
def q_markSS (o:Bool) (es:List V) (k:Int):Prop:=IsII o es∧0≤k∧k+tot (unII es)≤9223372036854775807
def q_markO (es:List V) (k:Int):Prop:=q_markSS true es k
theorem Sh.lists {d:V}:∀(xss:List (List Int)) (k:Int),Sh (.slc true 33 d (II true xss)) (.slc true 33 d (II true (marksGo k xss))):=by
 intro xss k
 refine .slc _ _ _ _ _ (by rw [II_length,II_length,marksGo_len]) (fun i x y hx hy=> ?_)
 simp only [II,List.getElem?_map,Option.map_eq_some_iff] at hx hy
 obtain ⟨a,ha,rfl⟩:=hx
 obtain ⟨b,hb,rfl⟩:=hy
 refine Sh.ints ?_
 have key:∀(l:List (List Int)) (k:Int) (i:Nat) (a b:List Int),l[i]? =some a→(marksGo k l)[i]? =some b→a.length=b.length:=by
  intro l
  induction l with
  |nil=>intro k i a b h;simp at h
  |cons x l ih=>
   intro k i a b h1 h2
   cases i with
   |zero=>simp [marksGo] at h1 h2;subst h1;subst h2;rw [marks_len]
   |succ i=>exact ih _ i a b (by simpa using h1) (by simpa [marksGo] using h2)
 exact key _ _ _ _ _ ha hb
set_option maxHeartbeats 1000000 in
set_option maxRecDepth 100000 in
theorem s_laws_markInt64SS:SatI Try.prog 23 0 (ic_markSS f0_markSS f1_markSS q_markO):=by
 intro args ps r y h hp
 unfold ic_markSS at h
 split at h
 ·rename_i a0 a1
  simp only [Option.some.injEq,Prod.mk.injEq] at h
  obtain ⟨rfl,rfl,rfl⟩:=h
  obtain ⟨⟨xss,hes⟩,hk0,hk1⟩:q_markO a0 a1:=(alls_cons.1 hp).1
  rw [hes,unII_II] at hk1
  have hel:a0.length=xss.length:=by rw [hes,II_length]
  generalize H_f0_mark:f0_mark=F_f0_mark
  generalize H_f1_mark:f1_mark=F_f1_mark
  generalize H_q_mark:q_mark=F_q_mark
  refine fnIO_of (T:=tab) (B:=[]) (Bi:=[(39,0,false,ic_markInt64S F_f0_mark F_f1_mark F_q_mark)]) 0 [0,1,4,5] Try.func23 rfl rfl (by kernel_rfl) (Nat.le_of_ble_eq_true rfl) mixed tabOk (by subst H_f0_mark H_f1_mark H_q_mark;exact bookNil) (by subst H_f0_mark H_f1_mark H_q_mark;exact (bookICons s_laws_markInt64S bookINil)) (by kernel_rfl) rfl rfl rfl (by rw [f1_markSS,hes,unII_II];exact Sh.lists xss a1) rfl rfl ?_
  intro L lp rr yy hL hr hy hf hlp
  have hlen:=hf.1.1
  conv=>cbv
  refine hlp (Int×Int×List V) _ _ _ [0,1,5] (fun x=>[(0,none,.val (.slc true 33 (.slc true 2 (.int .i64 0) []) x.2.2)),(1,none,.val (.int .i64 x.1)),(5,none,.val (.int .i64 x.2.1))])
   (fun x=>0≤x.2.1∧x.2.1≤xss.length∧x.1=a1+tot (xss.take x.2.1.toNat)∧x.2.2=II true (marksGo a1 (xss.take x.2.1.toNat)++xss.drop x.2.1.toNat)) (fun x=>(xss.length-x.2.1).toNat) (a1,0,a0) (by subst hL;rfl) ⟨by simp,by simp,by simp [tot],by simp [marksGo,hes]⟩ ?_
  rintro ⟨k,i,es⟩ ⟨i0,i1,hk,hys⟩ hfx ag hag
  conv=>cbv
  simp only at i0 i1 hk hys
  have hyl:es.length=xss.length:=by rw [hys,II_length,List.length_append,marksGo_len,List.length_take,List.length_drop];omega
  by_cases hb:i<xss.length
  ·have hg:es.getD i.toNat (.slc true 2 (.int .i64 0) [])= .slc true 2 (.int .i64 0) (I (xss.getD i.toNat [])):=by
    rw [hys,II_getD,marks_at _ _ _ (by omega)]
   simp only [stdEqs hL,hyl,hg,ok_ints,toL_slc,imp_self,true_and,decide_eq_true_eq,decide_eq_false_iff_not]
   subst H_f0_mark H_f1_mark H_q_mark
   have ht1:=tot_take_le xss (i.toNat+1)
   rw [take_succ_tot xss i.toNat (by omega),tot_append] at ht1
   simp only [tot] at ht1
   have e0:f0_mark (I (xss.getD i.toNat [])) k=a1+tot (xss.take (i.toNat+1)):=by
    rw [f0_mark,I_length,hk,take_succ_tot xss i.toNat (by omega),tot_append]
    simp only [tot]
    omega
   have e1:f1_mark (I (xss.getD i.toNat [])) k=I (marks (xss.getD i.toNat []).length (a1+tot (xss.take i.toNat))):=by rw [f1_mark,I_length,hk]
   refine ⟨fun h=>⟨i0,h,by omega,by omega,⟨⟨_,rfl⟩,by omega,by rw [I_length];omega⟩,?_⟩,fun h=>absurd hb h⟩
   rw [wrap_id (n:=i+1) (by omega) (by omega),e0,e1]
   refine hag (_,i+1,_) ⟨by simp only;omega,by simp only;omega,by simp only [toNat_succ i0],?_⟩ (by simp only;omega)
   simp only [toNat_succ i0]
   rw [hys,II_set,marks_step xss a1 i.toNat (by omega)]
  ·simp only [stdEqs hL,hyl,decide_eq_true_eq,decide_eq_false_iff_not]
   refine ⟨fun h=>absurd h hb,fun _=> ?_⟩
   rw [hr,hy,hk,hys,f0_markSS,f1_markSS,hes,unII_II,List.take_of_length_le (by omega),List.drop_eq_nil_of_le (by omega),List.append_nil]
   exact ⟨rfl,rfl⟩
 ·cases h
def c_heldSS (f0:List V→Int→Int) (q:List V→Int→Prop):Contract:=fun
 |[.slc false 33 (.slc false 2 (.int .i64 0) []) a0,.int .i64 a1]=>some ([q a0 a1],.int .i64 (f0 a0 a1))
 |_=>none
def f0_heldSS (es:List V) (k:Int):Int:=if unII es=marksGo k (unII es) then k+tot (unII es) else-1
def q_markF (es:List V) (k:Int):Prop:=q_markSS false es k
theorem marksGo_split {xss:List (List Int)} {k:Int} {i:Nat} (h:i<xss.length) (ht:xss.take i=marksGo k (xss.take i)):(xss=marksGo k xss↔(xss.getD i []=marks (xss.getD i []).length (k+tot (xss.take i))∧xss.drop (i+1)=marksGo (k+tot (xss.take (i+1))) (xss.drop (i+1)))):=by
 have e:xss=xss.take i++xss.getD i []::xss.drop (i+1):=by
  rw [←drop_cons [] h,List.take_append_drop]
 have e2:marksGo k xss=marksGo k (xss.take i)++marks (xss.getD i []).length (k+tot (xss.take i))::marksGo (k+tot (xss.take (i+1))) (xss.drop (i+1)):=by
  conv=>lhs;rw [e]
  rw [marksGo_append,marksGo,take_succ_tot xss i h,tot_append]
  congr 3
  simp only [tot]
  omega
 constructor
 ·intro hx
  rw [e2] at hx
  conv at hx=>lhs;rw [e]
  rw [←ht] at hx
  have:=List.append_cancel_left hx
  simp only [List.cons.injEq] at this
  exact this
 ·rintro ⟨h1,h2⟩
  rw [e2,←ht,←h1,←h2]
  exact e
set_option maxHeartbeats 1000000 in
set_option maxRecDepth 100000 in
theorem s_laws_heldInt64SS:Sat Try.prog 25 (c_heldSS f0_heldSS q_markF):=by
 intro args ps r h hp
 unfold c_heldSS at h
 split at h
 ·rename_i a0 a1
  simp only [Option.some.injEq,Prod.mk.injEq] at h
  obtain ⟨rfl,rfl⟩:=h
  obtain ⟨⟨xss,hes⟩,hk0,hk1⟩:q_markF a0 a1:=(alls_cons.1 hp).1
  rw [hes,unII_II] at hk1
  have hel:a0.length=xss.length:=by rw [hes,II_length]
  have hf0:f0_heldSS a0 a1=if xss=marksGo a1 xss then a1+tot xss else-1:=by rw [f0_heldSS,hes,unII_II]
  generalize H_f0_held:f0_held=F_f0_held
  generalize H_q_mark:q_mark=F_q_mark
  refine fnOk_ofI (T:=tab) (B:=[(40,c_heldInt64S F_f0_held F_q_mark)]) (Bi:=[]) [0,1,4,5] Try.func25 rfl rfl (by kernel_rfl) (Nat.le_of_ble_eq_true rfl) mixed tabOk (by subst H_f0_held H_q_mark;exact (bookCons s_laws_heldInt64S bookNil)) (by subst H_f0_held H_q_mark;exact bookINil) (by kernel_rfl) ?_
  intro L lp rr hL hr hf hlp
  have hlen:=hf.1.1
  conv=>cbv
  refine hlp (Int×Int) _ _ _ [0,1,5] (fun x=>[(0,none,.val (.slc false 33 (.slc false 2 (.int .i64 0) []) a0)),(1,none,.val (.int .i64 x.1)),(5,none,.val (.int .i64 x.2))])
   (fun x=>0≤x.2∧x.2≤xss.length∧x.1=a1+tot (xss.take x.2.toNat)∧xss.take x.2.toNat=marksGo a1 (xss.take x.2.toNat)) (fun x=>(xss.length-x.2).toNat) (a1,0) (by subst hL;rfl) ⟨by simp,by simp,by simp [tot],by simp [marksGo]⟩ ?_
  rintro ⟨k,i⟩ ⟨i0,i1,hk,hyt⟩ hfx ag hag
  conv=>cbv
  simp only at i0 i1 hk hyt
  by_cases hb:i<xss.length
  ·have hg:a0.getD i.toNat (.slc false 2 (.int .i64 0) [])= .slc false 2 (.int .i64 0) (I (xss.getD i.toNat [])):=by
    rw [hes,II_getD]
   simp only [stdEqs hL,hel,hg,ok_ints,toL_slc,I_frzs,imp_self,true_and,decide_eq_true_eq,decide_eq_false_iff_not]
   subst H_f0_held H_q_mark
   have ht1:=tot_take_le xss (i.toNat+1)
   rw [take_succ_tot xss i.toNat (by omega),tot_append] at ht1
   simp only [tot] at ht1
   have hsp:=marksGo_split (k:=a1) (show i.toNat<xss.length by omega) hyt
   have e0:f0_held (I (xss.getD i.toNat [])) k=if xss.getD i.toNat []=marks (xss.getD i.toNat []).length (a1+tot (xss.take i.toNat)) then a1+tot (xss.take (i.toNat+1)) else-1:=by
    rw [f0_held,unI_I,I_length,hk,take_succ_tot xss i.toNat (by omega),tot_append]
    simp only [tot]
    congr 1
    omega
   refine ⟨fun h=>⟨i0,by omega,⟨⟨_,rfl⟩,by omega,by rw [I_length];omega⟩,fun h4=> ?_,fun h4=> ?_⟩,fun h=>absurd hb h⟩
   ·rw [e0] at h4
    split at h4
    ·omega
    ·rename_i hne
     rw [hr,hf0,if_neg (fun hx=>hne (hsp.1 hx).1)]
   ·rw [e0] at h4
    split at h4
    ·rename_i heq
     rw [wrap_id (n:=i+1) (by omega) (by omega),e0,if_pos heq]
     refine hag (_,i+1) ⟨by simp only;omega,by simp only;omega,by simp only [toNat_succ i0],?_⟩ (by simp only;omega)
     simp only [toNat_succ i0]
     rw [take_succ_tot xss i.toNat (by omega),marksGo_append,←hyt,marksGo,marksGo,←heq]
    ·omega
  ·simp only [stdEqs hL,hel,decide_eq_true_eq,decide_eq_false_iff_not]
   refine ⟨fun h=>absurd h hb,fun _=> ?_⟩
   rw [List.take_of_length_le (by omega)] at hyt hk
   rw [hr,hf0,if_pos hyt,hk]
 ·cases h
def c_eqSS (f0:List V→List V→Bool) (q:List V→List V→Prop):Contract:=fun
 |[.slc false 33 (.slc false 2 (.int .i64 0) []) a0,.slc false 33 (.slc false 2 (.int .i64 0) []) a1]=>some ([q a0 a1],.bool (f0 a0 a1))
 |_=>none
def f0_eqSS (a b:List V):Bool:=decide (unII a=unII b)
def q_eqSS (a b:List V):Prop:=IsII false a∧IsII false b
set_option maxHeartbeats 1000000 in
set_option maxRecDepth 100000 in
theorem s_laws_eqInt64SS:Sat Try.prog 21 (c_eqSS f0_eqSS q_eqSS):=by
 intro args ps r h hp
 unfold c_eqSS at h
 split at h
 ·rename_i a0 a1
  simp only [Option.some.injEq,Prod.mk.injEq] at h
  obtain ⟨rfl,rfl⟩:=h
  obtain ⟨⟨xs,hxs⟩,ys,hys⟩:q_eqSS a0 a1:=(alls_cons.1 hp).1
  have hxl:a0.length=xs.length:=by rw [hxs,II_length]
  have hyl:a1.length=ys.length:=by rw [hys,II_length]
  have hf0:f0_eqSS a0 a1=decide (xs=ys):=by rw [f0_eqSS,hxs,hys,unII_II,unII_II]
  generalize H_f0_eqI:f0_eqI=F_f0_eqI
  generalize H_q_eqI:q_eqI=F_q_eqI
  refine fnOk_ofI (T:=tab) (B:=[(38,c_laws_eqInt64S F_f0_eqI F_q_eqI)]) (Bi:=[]) [0,1,4,5] Try.func21 rfl rfl (by kernel_rfl) (Nat.le_of_ble_eq_true rfl) mixed tabOk (by subst H_f0_eqI H_q_eqI;exact (bookCons s_laws_eqInt64S bookNil)) (by subst H_f0_eqI H_q_eqI;exact bookINil) (by kernel_rfl) ?_
  intro L lp rr hL hr hf hlp
  have hlen:=hf.1.1
  have hrr:rr= .bool (decide (xs=ys)):=by rw [hr,hf0]
  conv=>cbv
  simp only [stdEqs hL,hxl,hyl]
  refine ⟨fun h=> ?_,fun h=> ?_⟩
  ·have:xs≠ys:=by
    rintro rfl
    simp at h
   rw [hrr,decide_eq_false this]
  have hll:xs.length=ys.length:=by
   simp only [Bool.not_eq_false',beq_iff_eq] at h
   omega
  refine hlp (Int) _ _ _ [0,1,5] (fun i=>[(0,none,.val (.slc false 33 (.slc false 2 (.int .i64 0) []) a0)),(1,none,.val (.slc false 33 (.slc false 2 (.int .i64 0) []) a1)),(5,none,.val (.int .i64 i))])
   (fun i=>0≤i∧i≤xs.length∧xs.take i.toNat=ys.take i.toNat) (fun i=>(xs.length-i).toNat) 0 (by subst hL;rfl) (by simp) ?_
  rintro i ⟨i0,i1,i2⟩ hfx ag hag
  conv=>cbv
  by_cases hb:i<xs.length
  ·have hg:a0.getD i.toNat (.slc false 2 (.int .i64 0) [])= .slc false 2 (.int .i64 0) (I (xs.getD i.toNat [])):=by rw [hxs,II_getD]
   have hg':a1.getD i.toNat (.slc false 2 (.int .i64 0) [])= .slc false 2 (.int .i64 0) (I (ys.getD i.toNat [])):=by rw [hys,II_getD]
   simp only [stdEqs hL,hxl,hyl,hg,hg',ok_ints,toL_slc,I_frzs,imp_self,true_and,decide_eq_true_eq,decide_eq_false_iff_not]
   subst H_f0_eqI H_q_eqI
   have e1:i.toNat<xs.length:=by omega
   have e2:i.toNat<ys.length:=by omega
   refine ⟨fun h=>⟨i0,by omega,i0,by omega,⟨⟨_,rfl⟩,⟨_,rfl⟩⟩,fun h4=> ?_,fun h4=> ?_⟩,fun h=>absurd hb h⟩
   ·simp only [f0_eqI,unI_I,Bool.not_eq_true',decide_eq_false_iff_not] at h4
    rw [hrr,decide_eq_false]
    rintro rfl
    exact h4 rfl
   ·simp only [f0_eqI,unI_I,Bool.not_eq_false',decide_eq_true_eq] at h4
    rw [wrap_id (by omega) (by omega)]
    refine hag _ ⟨by omega,by omega,?_⟩ (by omega)
    rw [toNat_succ i0,take_succ_tot xs _ e1,take_succ_tot ys _ e2,i2,h4]
  ·simp only [stdEqs hL,hxl,hyl,decide_eq_true_eq,decide_eq_false_iff_not]
   refine ⟨fun h=>absurd h hb,fun _=> ?_⟩
   rw [List.take_of_length_le (by omega),List.take_of_length_le (by omega)] at i2
   rw [hrr,decide_eq_true i2]
 ·cases h
end Go.Ax
