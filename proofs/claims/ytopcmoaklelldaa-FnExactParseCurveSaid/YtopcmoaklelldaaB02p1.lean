import Derived.Test.YtopcmoaklelldaaB01p1
import Derived.Test.YtopcmoaklelldaaAxP4p1
/-
 Functions of the second law:greatest divisors,chains of a fraction,marks. No conditions but those of the contracts.
-/
set_option linter.all false
namespace Go.Ax
open Go.Proofs
def c_i_i (f0:Int→Int):Contract:=fun
 |[.int .i64 a0]=>some ([],.int .i64 (f0 a0))
 |_=>none
def absW (a:Int):Int:=bif decide (a<0) then IntKind.wrap .i64 (0-a) else a
set_option maxRecDepth 100000 in
theorem s_impl_abs:Sat Try.prog 61 (c_i_i absW):=by
 intro args ps r h hp
 unfold c_i_i at h
 split at h
 ·rename_i a0
  simp only [Option.some.injEq,Prod.mk.injEq] at h
  obtain ⟨rfl,rfl⟩:=h
  refine fnOk_of (T:=tab) (B:=[]) [0,2] Try.func61 rfl rfl (by kernel_rfl) (Nat.le_of_ble_eq_true rfl) mixed tabOk bookNil (by kernel_rfl) ?_
  intro L lp rr hL hr hf hlp
  conv=>cbv
  simp only [stdEqs hL,imp_self,true_and]
  subst hr
  refine ⟨fun h=> ?_,fun h=> ?_⟩<;>simp only [absW,h,cond_true,cond_false]
 ·cases h
def c_ii_i (f0:Int→Int→Int) (q:Int→Int→Prop):Contract:=fun
 |[.int .i64 a0,.int .i64 a1]=>some ([q a0 a1],.int .i64 (f0 a0 a1))
 |_=>none
def ne0 (_ b:Int):Prop:=b≠0
def gcdGo (a b:Int):Int:=if _h:0<b then gcdGo b (a.tmod b) else a
termination_by b.toNat
decreasing_by
 have:=Int.tmod_lt_of_pos a (by assumption)
 omega
def gcdW (a b:Int):Int:=gcdGo (absW a) (absW b)
def always (_ _:Int):Prop:=True
theorem gcdGo_pos {a b:Int} (h:0<b):gcdGo a b=gcdGo b (a.tmod b):=by rw [gcdGo,dif_pos h]
theorem gcdGo_neg {a b:Int} (h:¬0<b):gcdGo a b=a:=by rw [gcdGo,dif_neg h]
set_option maxRecDepth 100000 in
theorem s_impl_divisor:Sat Try.prog 56 (c_ii_i gcdW always):=by
 intro args ps r h hp
 unfold c_ii_i at h
 split at h
 ·rename_i a0 a1
  simp only [Option.some.injEq,Prod.mk.injEq] at h
  obtain ⟨rfl,rfl⟩:=h
  generalize HA:absW=A0
  refine fnOk_of (T:=tab) (B:=[(61,c_i_i A0)]) [0,1,4] Try.func56 rfl rfl (by kernel_rfl) (Nat.le_of_ble_eq_true rfl) mixed tabOk (by subst HA;exact bookCons s_impl_abs bookNil) (by kernel_rfl) ?_
  intro L lp rr hL hr hf hlp
  conv=>cbv
  refine hlp (Int×Int) _ _ _ [0,1] (fun x=>[(0,none,.val (.int .i64 x.1)),(1,none,.val (.int .i64 x.2))])
   (fun x=>gcdW a0 a1=gcdGo x.1 x.2) (fun x=>x.2.toNat) (A0 a0,A0 a1) (by subst hL;rfl) (by subst HA;rfl) ?_
  rintro ⟨a,b⟩ hI hfx ag hag
  conv=>cbv
  simp only [stdEqs hL,imp_self,true_and,decide_eq_true_eq,decide_eq_false_iff_not]
  simp only at hI
  refine ⟨fun h=>⟨by omega,hag (b,a.tmod b) (by rw [hI,gcdGo_pos h]) ?_⟩,fun h=> ?_⟩
  ·have:=Int.tmod_lt_of_pos a h
   simp only
   omega
  ·subst hr
   rw [hI,gcdGo_neg h]
 ·cases h
set_option maxRecDepth 100000 in
theorem s_spec_l01Gcd:Sat Try.prog 41 (c_ii_i gcdW always):=by
 intro args ps r h hp
 unfold c_ii_i at h
 split at h
 ·rename_i a0 a1
  simp only [Option.some.injEq,Prod.mk.injEq] at h
  obtain ⟨rfl,rfl⟩:=h
  refine fnOk_of (T:=tab) (B:=[]) [0,1,4,5] Try.func41 rfl rfl (by kernel_rfl) (Nat.le_of_ble_eq_true rfl) mixed tabOk bookNil (by kernel_rfl) ?_
  intro L lp rr hL hr hf hlp
  conv=>cbv
  simp only [stdEqs hL,imp_self,true_and,decide_eq_true_eq,decide_eq_false_iff_not]
  refine ⟨fun h0=>⟨fun h1=> ?_,fun h1=> ?_⟩,fun h0=>⟨fun h1=> ?_,fun h1=> ?_⟩⟩
  ·refine hlp (Int×Int) _ _ _ [0,1] (fun x=>[(0,none,.val (.int .i64 x.1)),(1,none,.val (.int .i64 x.2))])
    (fun x=>gcdW a0 a1=gcdGo x.1 x.2) (fun x=>x.2.toNat) (IntKind.wrap .i64 (0-a0),IntKind.wrap .i64 (0-a1)) (by subst hL;rfl) (by simp [gcdW,absW,h0,h1]) ?_
   rintro ⟨a,b⟩ hI hfx ag hag
   conv=>cbv
   simp only [stdEqs hL,imp_self,true_and,decide_eq_true_eq,decide_eq_false_iff_not]
   simp only at hI
   refine ⟨fun h=>⟨by omega,hag (b,a.tmod b) (by rw [hI,gcdGo_pos h]) ?_⟩,fun h=> ?_⟩
   ·have:=Int.tmod_lt_of_pos a h
    simp only
    omega
   ·subst hr
    rw [hI,gcdGo_neg h]
  ·refine hlp (Int×Int) _ _ _ [0,1] (fun x=>[(0,none,.val (.int .i64 x.1)),(1,none,.val (.int .i64 x.2))])
    (fun x=>gcdW a0 a1=gcdGo x.1 x.2) (fun x=>x.2.toNat) (IntKind.wrap .i64 (0-a0),a1) (by subst hL;rfl) (by simp [gcdW,absW,h0,h1]) ?_
   rintro ⟨a,b⟩ hI hfx ag hag
   conv=>cbv
   simp only [stdEqs hL,imp_self,true_and,decide_eq_true_eq,decide_eq_false_iff_not]
   simp only at hI
   refine ⟨fun h=>⟨by omega,hag (b,a.tmod b) (by rw [hI,gcdGo_pos h]) ?_⟩,fun h=> ?_⟩
   ·have:=Int.tmod_lt_of_pos a h
    simp only
    omega
   ·subst hr
    rw [hI,gcdGo_neg h]
  ·refine hlp (Int×Int) _ _ _ [0,1] (fun x=>[(0,none,.val (.int .i64 x.1)),(1,none,.val (.int .i64 x.2))])
    (fun x=>gcdW a0 a1=gcdGo x.1 x.2) (fun x=>x.2.toNat) (a0,IntKind.wrap .i64 (0-a1)) (by subst hL;rfl) (by simp [gcdW,absW,h0,h1]) ?_
   rintro ⟨a,b⟩ hI hfx ag hag
   conv=>cbv
   simp only [stdEqs hL,imp_self,true_and,decide_eq_true_eq,decide_eq_false_iff_not]
   simp only at hI
   refine ⟨fun h=>⟨by omega,hag (b,a.tmod b) (by rw [hI,gcdGo_pos h]) ?_⟩,fun h=> ?_⟩
   ·have:=Int.tmod_lt_of_pos a h
    simp only
    omega
   ·subst hr
    rw [hI,gcdGo_neg h]
  ·refine hlp (Int×Int) _ _ _ [0,1] (fun x=>[(0,none,.val (.int .i64 x.1)),(1,none,.val (.int .i64 x.2))])
    (fun x=>gcdW a0 a1=gcdGo x.1 x.2) (fun x=>x.2.toNat) (a0,a1) (by subst hL;rfl) (by simp [gcdW,absW,h0,h1]) ?_
   rintro ⟨a,b⟩ hI hfx ag hag
   conv=>cbv
   simp only [stdEqs hL,imp_self,true_and,decide_eq_true_eq,decide_eq_false_iff_not]
   simp only at hI
   refine ⟨fun h=>⟨by omega,hag (b,a.tmod b) (by rw [hI,gcdGo_pos h]) ?_⟩,fun h=> ?_⟩
   ·have:=Int.tmod_lt_of_pos a h
    simp only
    omega
   ·subst hr
    rw [hI,gcdGo_neg h]
 ·cases h
def marks (n:Nat) (k:Int):List Int:=(List.range n).map fun (i:Nat)=>k+(i:Int)
def ic_markInt64S (f0:List V→Int→Int) (f1:List V→Int→List V) (q:List V→Int→Prop):IContract:=fun
 |[.slc true 2 (.int .i64 0) a0,.int .i64 a1]=>some ([q a0 a1],.int .i64 (f0 a0 a1),.slc true 2 (.int .i64 0) (f1 a0 a1))
 |_=>none
def f0_mark (es:List V) (k:Int):Int:=k+es.length
def f1_mark (es:List V) (k:Int):List V:=I (marks es.length k)
def q_mark (es:List V) (k:Int):Prop:=IsI es∧0≤k∧k+es.length≤9223372036854775807
theorem marks_len (n:Nat) (k:Int):(marks n k).length=n:=by simp [marks]
theorem marks_get (n:Nat) (k:Int) (i:Nat) (d:Int) (h:i<n):(marks n k).getD i d=k+i:=by
 simp [marks,List.getD_eq_getElem?_getD,h]
theorem marks_succ (n:Nat) (k:Int):marks (n+1) k=marks n k++[k+n]:=by
 simp [marks,List.range_succ]
theorem take_set_succ {α:Type} (ys:List α) (i:Nat) (y:α) (h:i<ys.length):(ys.set i y).take (i+1)=ys.take i++[y]:=by
 rw [List.take_succ_eq_append_getElem (by simpa using h),List.getElem_set_self,List.take_set_of_le (Nat.le_refl i)]
theorem Sh.ints {o:Bool} {e:TypeId} {d:V} {xs ys:List Int} (h:xs.length=ys.length):Sh (.slc o e d (I xs)) (.slc o e d (I ys)):=by
 refine .slc o e d _ _ (by simp [h]) (fun i x y hx hy=> ?_)
 simp only [I,List.getElem?_map,Option.map_eq_some_iff] at hx hy
 obtain ⟨a,_,rfl⟩:=hx
 obtain ⟨b,_,rfl⟩:=hy
 exact .scal _ _ rfl rfl
set_option maxRecDepth 100000 in
theorem s_laws_markInt64S:SatI Try.prog 39 0 (ic_markInt64S f0_mark f1_mark q_mark):=by
 intro args ps r y h hp
 unfold ic_markInt64S at h
 split at h
 ·rename_i a0 a1
  simp only [Option.some.injEq,Prod.mk.injEq] at h
  obtain ⟨rfl,rfl,rfl⟩:=h
  obtain ⟨⟨xs,hxs⟩,hk0,hk1⟩:q_mark a0 a1:=(alls_cons.1 hp).1
  have hxl:a0.length=xs.length:=by rw [hxs,I_length]
  refine fnIO_of (T:=tab) (B:=[]) (Bi:=[]) 0 [0,1,4,5] Try.func39 rfl rfl (by kernel_rfl) (Nat.le_of_ble_eq_true rfl) mixed tabOk bookNil bookINil (by kernel_rfl) rfl rfl rfl
   (by rw [f1_mark,hxs];exact Sh.ints (by simp [marks_len])) rfl rfl ?_
  intro L lp rr yy hL hr hy hf hlp
  conv=>cbv
  refine hlp (Int×Int×List V) _ _ _ [0,1,5] (fun x=>[(0,none,.val (.slc true 2 (.int .i64 0) x.2.2)),(1,none,.val (.int .i64 x.1)),(5,none,.val (.int .i64 x.2.1))])
   (fun x=>0≤x.2.1∧x.2.1≤xs.length∧x.1=a1+x.2.1∧∃ys:List Int,x.2.2=I ys∧ys.length=xs.length∧ys.take x.2.1.toNat=marks x.2.1.toNat a1) (fun x=>(xs.length-x.2.1).toNat) (a1,0,a0) (by subst hL;rfl) ⟨by simp,by simp,by simp,xs,hxs,rfl,by simp [marks]⟩ ?_
  rintro ⟨k,i,es⟩ ⟨i0,i1,hk,ys,hys,hyl,hyt⟩ hfx ag hag
  conv=>cbv
  simp only at i0 i1 hk hys hyt
  have hel:es.length=xs.length:=by rw [hys,I_length,hyl]
  simp only [stdEqs hL,hel,imp_self,true_and,decide_eq_true_eq,decide_eq_false_iff_not]
  rw [hxl] at hk1
  refine ⟨fun h=>⟨i0,h,by omega,by rw [hys,I_getD,ok_int],?_⟩,fun h=> ?_⟩
  ·rw [wrap_id (n:=k+1) (by omega) (by omega),wrap_id (n:=i+1) (by omega) (by omega)]
   refine hag (k+1,i+1,es.set i.toNat (.int .i64 k)) ⟨by simp only;omega,by simp only;omega,by simp only;omega,ys.set i.toNat k,by simp only [hys,I_set],by simp [hyl],?_⟩ (by simp only;omega)
   simp only [toNat_succ i0]
   rw [take_set_succ _ _ _ (by omega),hyt,marks_succ,hk]
   congr 3
   omega
  ·obtain rfl:i=xs.length:=by omega
   rw [hr,hy,hk,hys,f0_mark,f1_mark,hxl]
   rw [Int.toNat_natCast,List.take_of_length_le (by omega)] at hyt
   rw [hyt]
   exact ⟨rfl,rfl⟩
 ·cases h
def c_heldInt64S (f0:List V→Int→Int) (q:List V→Int→Prop):Contract:=fun
 |[.slc false 2 (.int .i64 0) a0,.int .i64 a1]=>some ([q a0 a1],.int .i64 (f0 a0 a1))
 |_=>none
def f0_held (es:List V) (k:Int):Int:=if unI es=marks es.length k then k+es.length else-1
set_option maxRecDepth 100000 in
theorem s_laws_heldInt64S:Sat Try.prog 40 (c_heldInt64S f0_held q_mark):=by
 intro args ps r h hp
 unfold c_heldInt64S at h
 split at h
 ·rename_i a0 a1
  simp only [Option.some.injEq,Prod.mk.injEq] at h
  obtain ⟨rfl,rfl⟩:=h
  obtain ⟨⟨xs,hxs⟩,hk0,hk1⟩:q_mark a0 a1:=(alls_cons.1 hp).1
  have hxl:a0.length=xs.length:=by rw [hxs,I_length]
  refine fnOk_of (T:=tab) (B:=[]) [0,1,4,5] Try.func40 rfl rfl (by kernel_rfl) (Nat.le_of_ble_eq_true rfl) mixed tabOk bookNil (by kernel_rfl) ?_
  intro L lp rr hL hr hf hlp
  conv=>cbv
  refine hlp (Int×Int) _ _ _ [0,1,5] (fun x=>[(0,none,.val (.slc false 2 (.int .i64 0) a0)),(1,none,.val (.int .i64 x.1)),(5,none,.val (.int .i64 x.2))])
   (fun x=>0≤x.2∧x.2≤xs.length∧x.1=a1+x.2∧xs.take x.2.toNat=marks x.2.toNat a1) (fun x=>(xs.length-x.2).toNat) (a1,0) (by subst hL;rfl) ⟨by simp,by simp,by simp,by simp [marks]⟩ ?_
  rintro ⟨k,i⟩ ⟨i0,i1,hk,hyt⟩ hfx ag hag
  conv=>cbv
  simp only at i0 i1 hk hyt
  have hg:a0.getD i.toNat (.int .i64 0)= .int .i64 (xs.getD i.toNat 0):=by rw [hxs,I_getD]
  simp only [stdEqs hL,hxl,hg,ok_int,toI_int,imp_self,true_and,decide_eq_true_eq,decide_eq_false_iff_not,Bool.not_eq_true',Bool.not_eq_false',beq_eq_false_iff_ne,beq_iff_eq]
  rw [hxl] at hk1
  refine ⟨fun h=>⟨i0,by omega,fun h4=> ?_,fun h4=> ?_⟩,fun h=> ?_⟩
  ·have hne:unI a0≠marks a0.length a1:=by
    intro e
    apply h4
    rw [hxs,unI_I,I_length] at e
    rw [e,marks_get _ _ _ _ (by omega),hk]
    omega
   rw [hr,f0_held,if_neg hne]
  ·rw [wrap_id (n:=k+1) (by omega) (by omega),wrap_id (n:=i+1) (by omega) (by omega)]
   refine hag (k+1,i+1) ⟨by simp only;omega,by simp only;omega,by simp only;omega,?_⟩ (by simp only;omega)
   have e1:i.toNat<xs.length:=by omega
   simp only [toNat_succ i0]
   rw [List.take_succ_eq_append_getElem e1,hyt,marks_succ]
   simp only [List.getD_eq_getElem?_getD,List.getElem?_eq_getElem e1,Option.getD_some] at h4
   rw [h4,hk,Int.toNat_of_nonneg i0]
  ·obtain rfl:i=xs.length:=by omega
   have he:unI a0=marks a0.length a1:=by
    rw [Int.toNat_natCast,List.take_of_length_le (by omega)] at hyt
    rw [hxs,unI_I,I_length]
    exact hyt
   rw [hr,f0_held,if_pos he,hk,hxl]
 ·cases h
end Go.Ax
