import Derived.Test.YtpmjogeikkojoaaAxP4b1
import Derived.Test.YtpmjogeikkojoaaProg
import Derived.KernelRfl
import Derived.IntWalk
import Derived.Test.YtpmjogeikkojoaaRows
/-
 The table of types,lists of numbers,arithmetic without overflow.
-/
set_option linter.all false
namespace Go.Ax
open Go.Proofs
def tab:Tab:=[(2,⟨.int .i64,1,.int .i64 0⟩),(3,⟨.int .i64,1,.int .i64 0⟩),(4,⟨.bool,1,.bool false⟩),(22,⟨.slc 2,1,.slc true 2 (.int .i64 0) []⟩),(23,⟨.slc 22,1,.slc true 22 (.slc true 2 (.int .i64 0) []) []⟩),(25,⟨.agg [(0,22),(1,23)],2,.agg [.slc true 2 (.int .i64 0) [],.slc true 22 (.slc true 2 (.int .i64 0) []) []]⟩),(27,⟨.agg [(0,22),(1,23)],2,.agg [.slc true 2 (.int .i64 0) [],.slc true 22 (.slc true 2 (.int .i64 0) []) []]⟩),(63,⟨.int .u64,1,.int .u64 0⟩),(66,⟨.int .i64,1,.int .i64 0⟩),(76,⟨.int .u64,1,.int .u64 0⟩),(77,⟨.int .u64,1,.int .u64 0⟩)]
theorem mixed: Try.prog.follows .mixedOrders=true:=by kernel_rfl
theorem tabOk:TabOk Try.prog tab:=⟨by kernel_rfl,by kernel_rfl,by kernel_rfl⟩
def I (xs:List Int):List V:=xs.map (.int .i64)
def unI (es:List V):List Int:=es.map V.toI
def IsI (es:List V):Prop:=∃l,es=I l
@[simp] theorem unI_I (xs:List Int):unI (I xs)=xs:=by
  induction xs with
  |nil=>rfl
  |cons x l ih=>simp only [I,unI,List.map_cons,V.toI,List.cons.injEq,true_and] at ih ⊢;exact ih
@[simp] theorem I_length (xs:List Int):(I xs).length=xs.length:=by simp [I]
@[simp] theorem I_getD (xs:List Int) (i:Nat):(I xs).getD i (.int .i64 0)= .int .i64 (xs.getD i 0):=by
  simp only [I,List.getD_eq_getElem?_getD,List.getElem?_map]
  cases xs[i]? <;>rfl
@[simp] theorem I_set (xs:List Int) (i:Nat) (y:Int):(I xs).set i (.int .i64 y)=I (xs.set i y):=by simp [I,List.map_set]
@[simp] theorem I_append (xs ys:List Int):I xs++I ys=I (xs++ys):=by simp [I]
@[simp] theorem I_cons (x:Int) (xs:List Int):V.int .i64 x::I xs=I (x::xs):=by simp [I]
@[simp] theorem I_take (xs:List Int) (n:Nat):(I xs).take n=I (xs.take n):=by simp [I]
@[simp] theorem I_drop (xs:List Int) (n:Nat):(I xs).drop n=I (xs.drop n):=by simp [I]
@[simp] theorem I_replicate (n:Nat) (x:Int):List.replicate n (V.int .i64 x)=I (List.replicate n x):=by simp [I]
@[simp] theorem I_frzs (xs:List Int):V.frzs (I xs)=I xs:=by
  rw [V.frzs_eq]
  simp [I,V.frz]
@[simp] theorem I_noFzs (xs:List Int):V.noFzs (I xs)=true:=by
  rw [V.noFzs_eq]
  simp [I,V.noFz]
@[simp] theorem I_owneds (xs:List Int):V.owneds (I xs)=false:=by
  rw [V.owneds_eq]
  simp [I,V.owned]
@[simp] theorem I_nil:I []=[]:=rfl
theorem I_solid (xs:List Int):∀x∈I xs,x.solid=true:=by
 intro x hx
 simp only [I,List.mem_map] at hx
 obtain ⟨n,_,rfl⟩:=hx
 rfl
@[simp] theorem ok_int (o:Bool) (n:Int):vw stdV tab o 20 2 (.int .i64 n)=some (.int .i64 n):=rfl
@[simp] theorem ok_int' (o:Bool) (n:Int):vw stdV tab o 20 3 (.int .i64 n)=some (.int .i64 n):=rfl
@[simp] theorem toI_int (k:IntKind) (n:Int):stdV.toI (.int k n)=n:=rfl
theorem wrap_id {n:Int} (h1: -9223372036854775808≤n) (h2:n≤9223372036854775807):IntKind.wrap .i64 n=n:=IntWalk.i64_in n ⟨h1,h2⟩
theorem drop_cons {α:Type} {xs:List α} {i:Nat} (d:α) (h:i<xs.length):xs.drop i=xs.getD i d::xs.drop (i+1):=by
 rw [List.drop_eq_getElem_cons h,List.getD_eq_getElem?_getD,List.getElem?_eq_getElem h]
 rfl
theorem toNat_succ {i:Int} (h:0≤i):(i+1).toNat=i.toNat+1:=by omega
theorem all_drop {xs:List Int} {i:Nat} {p:Int→Bool} (h:i<xs.length):(xs.drop i).all p=(p (xs.getD i 0)&&(xs.drop (i+1)).all p):=by
 rw [drop_cons 0 h,List.all_cons]
theorem fill_set {α:Type} {xs:List α} {k:Nat} (c d:α) (h:k<xs.length):(xs.take k++List.replicate (xs.length-k) c).set k (xs.getD k d)=xs.take (k+1)++List.replicate (xs.length-(k+1)) c:=by
 have e:xs.length-k=(xs.length-(k+1))+1:=by omega
 rw [e,List.replicate_succ,List.set_append_right _ _ (by rw [List.length_take];omega),List.length_take,Nat.min_eq_left (Nat.le_of_lt h),Nat.sub_self,List.set_cons_zero,
  List.take_succ_eq_append_getElem h,List.getD_eq_getElem?_getD,List.getElem?_eq_getElem h,List.append_assoc]
 rfl
theorem stdEqs {L:Alg} {T:Tab} (h:L=std T):L.v=stdV
 ∧(∀(k:IntKind) (n:Int),L.wrap k n=(k.wrap n))
 ∧(∀(a:Int) (b:Int),L.add a b=(a+b))
 ∧(∀(a:Int) (b:Int),L.sub a b=(a-b))
 ∧(∀(a:Int) (b:Int),L.mul a b=(a*b))
 ∧(∀(a:Int) (b:Int),L.quo a b=(a.tdiv b))
 ∧(∀(a:Int) (b:Int),L.rem a b=(a.tmod b))
 ∧(∀(k:IntKind) (a:Int) (b:Int),L.band k a b=(bitAnd k a b))
 ∧(∀(k:IntKind) (a:Int) (b:Int),L.shr k a b=(shiftR k a b))
 ∧(∀(a:Int) (b:Int),L.imin a b=(min a b))
 ∧(∀(a:Int) (b:Int),L.imax a b=(max a b))
 ∧(∀(a:Int) (b:Int),L.eqI a b=(a==b))
 ∧(∀(a:Int) (b:Int),L.leI a b=(decide (a≤b)))
 ∧(∀(a:Int) (b:Int),L.ltI a b=(decide (a<b)))
 ∧(∀(a:Bool) (b:Bool),L.eqB a b=(a==b))
 ∧(∀(a:Bool),L.not a=(!a))
 ∧(∀(a:Bool) (b:Bool),L.and a b=(a&&b))
 ∧(∀(c:Bool) (a:Bool) (b:Bool),L.pick c a b=(bif c then a else b))
 ∧(∀(a:ByteArray) (b:ByteArray),L.eqS a b=(a.toList==b.toList))
 ∧(∀(a:ByteArray) (b:ByteArray),L.ltS a b=(Op.bytesLess a.toList b.toList))
 ∧(∀(a:ByteArray) (b:ByteArray),L.appS a b=(a++b))
 ∧(∀(a:ByteArray),L.lenS a=((a.size:Int)))
 ∧(∀(s:ByteArray) (n:Int),L.getS s n=(((s.data.getD n.toNat 0).toNat:Int)))
 ∧(∀(s:ByteArray) (l:Int) (h:Int),L.extS s l h=(s.extract l.toNat h.toNat))
 ∧(∀(es:List V),L.len es=((es.length:Int)))
 ∧(∀(es:List V) (i:Nat) (d:V),L.get es i d=(es.getD i d))
 ∧(∀(es:List V) (i:Nat) (y:V),L.set es i y=(es.set i y))
 ∧(∀(a:List V) (b:List V),L.app a b=(a++b))
 ∧(∀(es:List V) (l:Int) (h:Int),L.sli es l h=((es.take h.toNat).drop l.toNat))
 ∧(∀(n:Int) (z:V),L.rep n z=(List.replicate n.toNat z))
 ∧(∀(x:List V),L.frz x=(V.frzs x))
 ∧(∀(x:Int),L.nat x=(Int.toNat x))
 ∧(∀(i:Nat) (es:List V),L.ltN i es=(i<es.length))
 ∧(∀(es:List V),L.nofz es=(V.noFzs es=true))
 ∧(∀(es:List V),L.nown es=(V.owneds es=false))
 ∧(∀(es:List V),L.emp es=(es=[]))
 ∧(∀(o:Bool) (t:TypeId) (y:V),L.ok o t y=(vw stdV T o 20 t y=some y))
 ∧(∀(t:TypeId) (y:V),L.okS t y=OkS T t y)
 ∧(∀(es:List V),L.solid es=(∀x∈es,x.solid=true))
 ∧(∀(a:Int) (b:Int),L.le a b=(a≤b))
 ∧(∀(a:Int) (b:Int),L.lt a b=(a<b))
 ∧(∀(b:Int),L.ne0 b=(b≠0))
 ∧(∀(b:Bool) (p:Prop),L.imp b p=(b=true→p))
 ∧(∀(b:Bool),L.tt b=(b=true))
 ∧(∀(b:Bool) (p:Prop) (q:Prop),L.ifP b p q=((b=true→p)∧(b=false→q))):=by
 subst h
 exact ⟨rfl,by intros;rfl,by intros;rfl,by intros;rfl,by intros;rfl,by intros;rfl,by intros;rfl,by intros;rfl,by intros;rfl,by intros;rfl,by intros;rfl,by intros;rfl,by intros;rfl,by intros;rfl,by intros;rfl,by intros;rfl,by intros;rfl,by intros;rfl,by intros;rfl,by intros;rfl,by intros;rfl,by intros;rfl,by intros;rfl,by intros;rfl,by intros;rfl,by intros;rfl,by intros;rfl,by intros;rfl,by intros;rfl,by intros;rfl,by intros;rfl,by intros;rfl,by intros;rfl,by intros;rfl,by intros;rfl,by intros;rfl,by intros;rfl,by intros;rfl,by intros;rfl,by intros;rfl,by intros;rfl,by intros;rfl,by intros;rfl,by intros;rfl,by intros;rfl⟩
end Go.Ax
set_option linter.all false
namespace Go.Ax
open Go.Proofs
def c_impl_inRange (f0:Int→Int→Int→Bool):Contract:=fun
 |[.int .i64 a0,.int .i64 a1,.int .i64 a2]=>some ([],.bool (f0 a0 a1 a2))
 |_=>none
def inRange (a b c:Int):Bool:=decide (b≤a)&&decide (a≤c)
set_option maxRecDepth 100000 in
theorem s_impl_inRange:Sat Try.prog 46 (c_impl_inRange inRange):=by
 intro args ps r h hp
 unfold c_impl_inRange at h
 split at h
 ·rename_i a0 a1 a2
  simp only [Option.some.injEq,Prod.mk.injEq] at h
  obtain ⟨rfl,rfl⟩:=h
  refine fnOk_of (T:=tab) (B:=[]) [0,1,2,6] Try.func46 rfl rfl (by kernel_rfl) (Nat.le_of_ble_eq_true rfl) mixed tabOk bookNil (by kernel_rfl) ?_
  intro L lp rr hL hr hf hlp
  conv=>cbv
  subst hL hr
  simp [std,inRange]
 ·cases h
def c_impl_within (f0:List V→Int→Int→Bool) (q:List V→Prop):Contract:=fun
 |[.slc false 2 (.int .i64 0) a0,.int .i64 a1,.int .i64 a2]=>some ([q a0],.bool (f0 a0 a1 a2))
 |_=>none
def within (l:List Int) (a b:Int):Bool:=l.all fun x=>inRange x a b
def f_within (es:List V) (a b:Int):Bool:=within (unI es) a b
set_option maxRecDepth 100000 in
theorem s_impl_within:Sat Try.prog 42 (c_impl_within f_within IsI):=by
 intro args ps r h hp
 unfold c_impl_within at h
 split at h
 ·rename_i a0 a1 a2
  simp only [Option.some.injEq,Prod.mk.injEq] at h
  obtain ⟨rfl,rfl⟩:=h
  obtain ⟨xs,hxs⟩:IsI a0:=(alls_cons.1 hp).1
  generalize HF0IMPLINRANGE:inRange=F0IMPLINRANGE
  refine fnOk_of (T:=tab) (B:=[(46,c_impl_inRange F0IMPLINRANGE)]) [0,1,2,6,8,9,10,11] Try.func42 rfl rfl (by kernel_rfl) (Nat.le_of_ble_eq_true rfl) mixed tabOk (by subst HF0IMPLINRANGE;exact (bookCons s_impl_inRange bookNil)) (by kernel_rfl) ?_
  intro L lp rr hL hr hf hlp
  obtain ⟨n,hn⟩:∃n:Int,n=a0.length:=⟨_,rfl⟩
  have hlen:=hf.1.1
  conv=>cbv
  refine hlp (Int) _ _ _ [1,2,9,10,11] (fun i=>[(1,none,.val (.int .i64 a1)),(2,none,.val (.int .i64 a2)),(9,none,.val (.slc false 2 (.int .i64 0) a0)),(10,none,.val (.int .i64 n)),(11,none,.val (.int .i64 i))]) (fun i=>0≤i∧i≤n∧within xs a1 a2=within (xs.drop i.toNat) a1 a2) (fun i=>(n-i).toNat) 0 (by subst hL hn;rfl) ?_ ?_
  ·subst hxs hn
   simp
  ·rintro i ⟨i0,i1,i2⟩ hfx ag hag
   conv=>cbv
   subst hL hr HF0IMPLINRANGE hxs
   simp only [std,I_getD,ok_int,toI_int,I_length,imp_self,true_and,decide_eq_true_eq,decide_eq_false_iff_not,Bool.not_eq_true',Bool.not_eq_false',V.bool.injEq,f_within,unI_I] at hn hlen ⊢
   refine ⟨fun h=>⟨i0,by omega,fun h1=> ?_,fun h1=> ?_⟩,fun h=> ?_⟩
   ·rw [i2,within,all_drop (by omega),h1]
    rfl
   ·rw [wrap_id (by omega) (by omega)]
    refine hag _ ⟨by omega,by omega,?_⟩ (by omega)
    rw [i2,within,within,all_drop (by omega),toNat_succ i0,h1]
    rfl
   ·rw [i2,List.drop_eq_nil_of_le (by omega)]
    rfl
 ·cases h
def cfGo (xs:List Int):Nat→Int→Int→Int×Int×Int
 |0,t,b=>(t,b,0)
 |k+1,t,b=>
  if 1000000000000<IntKind.wrap .i64 (IntKind.wrap .i64 (xs.getD k 0*t)-b) then (0,0,3)
  else cfGo xs k (IntKind.wrap .i64 (IntKind.wrap .i64 (xs.getD k 0*t)-b)) t
def cf (xs:List Int):Int×Int×Int:=bif (bif (bif decide ((xs.length:Int)<1) then true else decide (30<(xs.length:Int))) then true else !within xs 2 1000) then (0,0,1) else cfGo xs xs.length 1 0
set_option maxRecDepth 100000 in
theorem s_spec_l01In:Sat Try.prog 36 (c_impl_inRange inRange):=by
 intro args ps r h hp
 unfold c_impl_inRange at h
 split at h
 ·rename_i a0 a1 a2
  simp only [Option.some.injEq,Prod.mk.injEq] at h
  obtain ⟨rfl,rfl⟩:=h
  refine fnOk_of (T:=tab) (B:=[]) [0,1,2,6] Try.func36 rfl rfl (by kernel_rfl) (Nat.le_of_ble_eq_true rfl) mixed tabOk bookNil (by kernel_rfl) ?_
  intro L lp rr hL hr hf hlp
  cbv
  subst hL hr
  simp [std,inRange]
 ·cases h
def c_laws_toInt64S (f0:List V→List V) (q:List V→Prop):Contract:=fun
 |[.slc false 2 (.int .i64 0) a0]=>some ([q a0],.slc true 2 (.int .i64 0) (f0 a0))
 |_=>none
def same (es:List V):List V:=es
def IsIs (es:List V):Prop:=(∃l,es=I l)∧es.length≤2147483647
set_option maxRecDepth 100000 in
theorem s_laws_toInt64S:Sat Try.prog 19 (c_laws_toInt64S same IsIs):=by
 intro args ps r h hp
 unfold c_laws_toInt64S at h
 split at h
 ·rename_i a0
  simp only [Option.some.injEq,Prod.mk.injEq] at h
  obtain ⟨rfl,rfl⟩:=h
  obtain ⟨⟨xs,hxs⟩,hlen⟩:IsIs a0:=(alls_cons.1 hp).1
  refine fnOk_of (T:=tab) (B:=[]) [0,2,3,4] Try.func19 rfl rfl (by kernel_rfl) (Nat.le_of_ble_eq_true rfl) mixed tabOk bookNil (by kernel_rfl) ?_
  intro L lp rr hL hr hf hlp
  have hxl:a0.length=xs.length:=by rw [hxs,I_length]
  rw [hxl] at hlen
  conv=>cbv
  (simp only [stdEqs hL,hxl,imp_self,true_and])<;>(repeat' first|(intro _)|(apply And.intro))<;>try omega
  refine hlp (Int×List V) _ _ _ [0,3,4] (fun x=>[(0,none,.val (.slc false 2 (.int .i64 0) a0)),(3,none,.val (.slc true 2 (.int .i64 0) x.2)),(4,none,.val (.int .i64 x.1))])
   (fun x=>0≤x.1∧x.1≤xs.length∧x.2=I (xs.take x.1.toNat++List.replicate (xs.length-x.1.toNat) 0)) (fun x=>(xs.length-x.1).toNat) (0,_) (by subst hL;rfl) (by simp) ?_
  rintro ⟨i,es⟩ ⟨i0,i1,i2⟩ hfx ag hag
  conv=>cbv
  have hg:a0.getD i.toNat (.int .i64 0)= .int .i64 (xs.getD i.toNat 0):=by rw [hxs,I_getD]
  simp only [stdEqs hL,hxl,hg,ok_int,toI_int,imp_self,true_and,decide_eq_true_eq,decide_eq_false_iff_not]
  simp only at i0 i1 i2
  have hel:es.length=xs.length:=by
   rw [i2]
   simp
   omega
  refine ⟨fun h=>⟨i0,by omega,i0,by omega,by omega,by rw [i2,I_getD,ok_int],?_⟩,fun h=> ?_⟩
  ·rw [wrap_id (n:=i+1) (by omega) (by omega)]
   refine hag (i+1,_) ⟨by simp only;omega,by simp only;omega,?_⟩ (by simp only;omega)
   simp only [i2,I_set,toNat_succ i0]
   rw [fill_set 0 0 (by omega)]
  ·subst hr hxs i2
   obtain rfl:i=xs.length:=by omega
   simp [same]
 ·cases h
def c_laws_eqInt64S (f0:List V→List V→Bool) (q:List V→List V→Prop):Contract:=fun
 |[.slc false 2 (.int .i64 0) a0,.slc false 2 (.int .i64 0) a1]=>some ([q a0 a1],.bool (f0 a0 a1))
 |_=>none
def f0_eqI (a b:List V):Bool:=decide (unI a=unI b)
def q_eqI (a b:List V):Prop:=IsI a∧IsI b
set_option maxRecDepth 100000 in
theorem s_laws_eqInt64S:Sat Try.prog 30 (c_laws_eqInt64S f0_eqI q_eqI):=by
 intro args ps r h hp
 unfold c_laws_eqInt64S at h
 split at h
 ·rename_i a0 a1
  simp only [Option.some.injEq,Prod.mk.injEq] at h
  obtain ⟨rfl,rfl⟩:=h
  obtain ⟨⟨xs,hxs⟩,ys,hys⟩:q_eqI a0 a1:=(alls_cons.1 hp).1
  refine fnOk_of (T:=tab) (B:=[]) [0,1,4,5] Try.func30 rfl rfl (by kernel_rfl) (Nat.le_of_ble_eq_true rfl) mixed tabOk bookNil (by kernel_rfl) ?_
  intro L lp rr hL hr hf hlp
  have hlen:=hf.1.1
  have hxl:a0.length=xs.length:=by rw [hxs,I_length]
  have hyl:a1.length=ys.length:=by rw [hys,I_length]
  conv=>cbv
  simp only [stdEqs hL,hxl,hyl]
  have hrr:rr= .bool (decide (xs=ys)):=by rw [hr,hxs,hys];simp only [f0_eqI,unI_I]
  refine ⟨fun h=> ?_,fun h=> ?_⟩
  ·have:xs≠ys:=by
    rintro rfl
    simp at h
   rw [hrr,decide_eq_false this]
  have hll:xs.length=ys.length:=by
   simp only [Bool.not_eq_false',beq_iff_eq] at h
   omega
  refine hlp (Int) _ _ _ [0,1,5] (fun i=>[(0,none,.val (.slc false 2 (.int .i64 0) a0)),(1,none,.val (.slc false 2 (.int .i64 0) a1)),(5,none,.val (.int .i64 i))])
   (fun i=>0≤i∧i≤xs.length∧xs.take i.toNat=ys.take i.toNat) (fun i=>(xs.length-i).toNat) 0 (by subst hL;rfl) (by simp) ?_
  rintro i ⟨i0,i1,i2⟩ hfx ag hag
  conv=>cbv
  have hg:a0.getD i.toNat (.int .i64 0)= .int .i64 (xs.getD i.toNat 0):=by rw [hxs,I_getD]
  have hg':a1.getD i.toNat (.int .i64 0)= .int .i64 (ys.getD i.toNat 0):=by rw [hys,I_getD]
  simp only [stdEqs hL,hxl,hyl,hg,hg',ok_int,toI_int,imp_self,true_and,decide_eq_true_eq,decide_eq_false_iff_not,Bool.not_eq_true',Bool.not_eq_false',beq_eq_false_iff_ne,beq_iff_eq]
  refine ⟨fun h=>⟨i0,by omega,i0,by omega,fun h4=> ?_,fun h4=> ?_⟩,fun h=> ?_⟩
  ·rw [hrr,decide_eq_false]
   rintro rfl
   exact h4 rfl
  ·rw [wrap_id (by omega) (by omega)]
   refine hag _ ⟨by omega,by omega,?_⟩ (by omega)
   have e1:i.toNat<xs.length:=by omega
   have e2:i.toNat<ys.length:=by omega
   rw [toNat_succ i0,List.take_succ_eq_append_getElem e1,List.take_succ_eq_append_getElem e2,i2]
   simp only [List.getD_eq_getElem?_getD,List.getElem?_eq_getElem e1,List.getElem?_eq_getElem e2,Option.getD_some] at h4
   rw [h4]
  ·rw [List.take_of_length_le (by omega),List.take_of_length_le (by omega)] at i2
   rw [hrr,decide_eq_true i2]
 ·cases h
end Go.Ax
set_option linter.all false
namespace Go.Ax
open Go.Proofs
def absW (a:Int):Int:=bif decide (a<0) then IntKind.wrap .i64 (0-a) else a
def c_ii_i (f0:Int→Int→Int) (q:Int→Int→Prop):Contract:=fun
 |[.int .i64 a0,.int .i64 a1]=>some ([q a0 a1],.int .i64 (f0 a0 a1))
 |_=>none
def ne0 (_ b:Int):Prop:=b≠0
def gcdGo (a b:Int):Int:=if _h:0<b then gcdGo b (a.tmod b) else a
termination_by b.toNat
decreasing_by
 have:=Int.tmod_lt_of_pos a (by assumption)
 omega
def gcdW (a b:Int):Int:=gcdGo (absW a) (absW b)
def always (_ _:Int):Prop:=True
def marks (n:Nat) (k:Int):List Int:=(List.range n).map fun (i:Nat)=>k+(i:Int)
def ic_markInt64S (f0:List V→Int→Int) (f1:List V→Int→List V) (q:List V→Int→Prop):IContract:=fun
 |[.slc true 2 (.int .i64 0) a0,.int .i64 a1]=>some ([q a0 a1],.int .i64 (f0 a0 a1),.slc true 2 (.int .i64 0) (f1 a0 a1))
 |_=>none
def f0_mark (es:List V) (k:Int):Int:=k+es.length
def f1_mark (es:List V) (k:Int):List V:=I (marks es.length k)
def q_mark (es:List V) (k:Int):Prop:=IsI es∧0≤k∧k+es.length≤9223372036854775807
theorem marks_len (n:Nat) (k:Int):(marks n k).length=n:=by simp [marks]
theorem marks_get (n:Nat) (k:Int) (i:Nat) (d:Int) (h:i<n):(marks n k).getD i d=k+i:=by
 simp [marks,List.getD_eq_getElem?_getD,h]
theorem marks_succ (n:Nat) (k:Int):marks (n+1) k=marks n k++[k+n]:=by
 simp [marks,List.range_succ]
theorem take_set_succ {α:Type} (ys:List α) (i:Nat) (y:α) (h:i<ys.length):(ys.set i y).take (i+1)=ys.take i++[y]:=by
 rw [List.take_succ_eq_append_getElem (by simpa using h),List.getElem_set_self,List.take_set_of_le (Nat.le_refl i)]
theorem Sh.ints {o:Bool} {e:TypeId} {d:V} {xs ys:List Int} (h:xs.length=ys.length):Sh (.slc o e d (I xs)) (.slc o e d (I ys)):=by
 refine .slc o e d _ _ (by simp [h]) (fun i x y hx hy=> ?_)
 simp only [I,List.getElem?_map,Option.map_eq_some_iff] at hx hy
 obtain ⟨a,_,rfl⟩:=hx
 obtain ⟨b,_,rfl⟩:=hy
 exact .scal _ _ rfl rfl
set_option maxRecDepth 100000 in
theorem s_laws_markInt64S:SatI Try.prog 32 0 (ic_markInt64S f0_mark f1_mark q_mark):=by
 intro args ps r y h hp
 unfold ic_markInt64S at h
 split at h
 ·rename_i a0 a1
  simp only [Option.some.injEq,Prod.mk.injEq] at h
  obtain ⟨rfl,rfl,rfl⟩:=h
  obtain ⟨⟨xs,hxs⟩,hk0,hk1⟩:q_mark a0 a1:=(alls_cons.1 hp).1
  have hxl:a0.length=xs.length:=by rw [hxs,I_length]
  refine fnIO_of (T:=tab) (B:=[]) (Bi:=[]) 0 [0,1,4,5] Try.func32 rfl rfl (by kernel_rfl) (Nat.le_of_ble_eq_true rfl) mixed tabOk bookNil bookINil (by kernel_rfl) rfl rfl rfl
   (by rw [f1_mark,hxs];exact Sh.ints (by simp [marks_len])) rfl rfl ?_
  intro L lp rr yy hL hr hy hf hlp
  conv=>cbv
  refine hlp (Int×Int×List V) _ _ _ [0,1,5] (fun x=>[(0,none,.val (.slc true 2 (.int .i64 0) x.2.2)),(1,none,.val (.int .i64 x.1)),(5,none,.val (.int .i64 x.2.1))])
   (fun x=>0≤x.2.1∧x.2.1≤xs.length∧x.1=a1+x.2.1∧∃ys:List Int,x.2.2=I ys∧ys.length=xs.length∧ys.take x.2.1.toNat=marks x.2.1.toNat a1) (fun x=>(xs.length-x.2.1).toNat) (a1,0,a0) (by subst hL;rfl) ⟨by simp,by simp,by simp,xs,hxs,rfl,by simp [marks]⟩ ?_
  rintro ⟨k,i,es⟩ ⟨i0,i1,hk,ys,hys,hyl,hyt⟩ hfx ag hag
  conv=>cbv
  simp only at i0 i1 hk hys hyt
  have hel:es.length=xs.length:=by rw [hys,I_length,hyl]
  simp only [stdEqs hL,hel,imp_self,true_and,decide_eq_true_eq,decide_eq_false_iff_not]
  rw [hxl] at hk1
  refine ⟨fun h=>⟨i0,h,by omega,by rw [hys,I_getD,ok_int],?_⟩,fun h=> ?_⟩
  ·rw [wrap_id (n:=k+1) (by omega) (by omega),wrap_id (n:=i+1) (by omega) (by omega)]
   refine hag (k+1,i+1,es.set i.toNat (.int .i64 k)) ⟨by simp only;omega,by simp only;omega,by simp only;omega,ys.set i.toNat k,by simp only [hys,I_set],by simp [hyl],?_⟩ (by simp only;omega)
   simp only [toNat_succ i0]
   rw [take_set_succ _ _ _ (by omega),hyt,marks_succ,hk]
   congr 3
   omega
  ·obtain rfl:i=xs.length:=by omega
   rw [hr,hy,hk,hys,f0_mark,f1_mark,hxl]
   rw [Int.toNat_natCast,List.take_of_length_le (by omega)] at hyt
   rw [hyt]
   exact ⟨rfl,rfl⟩
 ·cases h
def c_heldInt64S (f0:List V→Int→Int) (q:List V→Int→Prop):Contract:=fun
 |[.slc false 2 (.int .i64 0) a0,.int .i64 a1]=>some ([q a0 a1],.int .i64 (f0 a0 a1))
 |_=>none
def f0_held (es:List V) (k:Int):Int:=if unI es=marks es.length k then k+es.length else-1
set_option maxRecDepth 100000 in
theorem s_laws_heldInt64S:Sat Try.prog 34 (c_heldInt64S f0_held q_mark):=by
 intro args ps r h hp
 unfold c_heldInt64S at h
 split at h
 ·rename_i a0 a1
  simp only [Option.some.injEq,Prod.mk.injEq] at h
  obtain ⟨rfl,rfl⟩:=h
  obtain ⟨⟨xs,hxs⟩,hk0,hk1⟩:q_mark a0 a1:=(alls_cons.1 hp).1
  have hxl:a0.length=xs.length:=by rw [hxs,I_length]
  refine fnOk_of (T:=tab) (B:=[]) [0,1,4,5] Try.func34 rfl rfl (by kernel_rfl) (Nat.le_of_ble_eq_true rfl) mixed tabOk bookNil (by kernel_rfl) ?_
  intro L lp rr hL hr hf hlp
  conv=>cbv
  refine hlp (Int×Int) _ _ _ [0,1,5] (fun x=>[(0,none,.val (.slc false 2 (.int .i64 0) a0)),(1,none,.val (.int .i64 x.1)),(5,none,.val (.int .i64 x.2))])
   (fun x=>0≤x.2∧x.2≤xs.length∧x.1=a1+x.2∧xs.take x.2.toNat=marks x.2.toNat a1) (fun x=>(xs.length-x.2).toNat) (a1,0) (by subst hL;rfl) ⟨by simp,by simp,by simp,by simp [marks]⟩ ?_
  rintro ⟨k,i⟩ ⟨i0,i1,hk,hyt⟩ hfx ag hag
  conv=>cbv
  simp only at i0 i1 hk hyt
  have hg:a0.getD i.toNat (.int .i64 0)= .int .i64 (xs.getD i.toNat 0):=by rw [hxs,I_getD]
  simp only [stdEqs hL,hxl,hg,ok_int,toI_int,imp_self,true_and,decide_eq_true_eq,decide_eq_false_iff_not,Bool.not_eq_true',Bool.not_eq_false',beq_eq_false_iff_ne,beq_iff_eq]
  rw [hxl] at hk1
  refine ⟨fun h=>⟨i0,by omega,fun h4=> ?_,fun h4=> ?_⟩,fun h=> ?_⟩
  ·have hne:unI a0≠marks a0.length a1:=by
    intro e
    apply h4
    rw [hxs,unI_I,I_length] at e
    rw [e,marks_get _ _ _ _ (by omega),hk]
    omega
   rw [hr,f0_held,if_neg hne]
  ·rw [wrap_id (n:=k+1) (by omega) (by omega),wrap_id (n:=i+1) (by omega) (by omega)]
   refine hag (k+1,i+1) ⟨by simp only;omega,by simp only;omega,by simp only;omega,?_⟩ (by simp only;omega)
   have e1:i.toNat<xs.length:=by omega
   simp only [toNat_succ i0]
   rw [List.take_succ_eq_append_getElem e1,hyt,marks_succ]
   simp only [List.getD_eq_getElem?_getD,List.getElem?_eq_getElem e1,Option.getD_some] at h4
   rw [h4,hk,Int.toNat_of_nonneg i0]
  ·obtain rfl:i=xs.length:=by omega
   have he:unI a0=marks a0.length a1:=by
    rw [Int.toNat_natCast,List.take_of_length_le (by omega)] at hyt
    rw [hxs,unI_I,I_length]
    exact hyt
   rw [hr,f0_held,if_pos he,hk,hxl]
 ·cases h
end Go.Ax
set_option linter.all false
namespace Go.Ax
open Go.Proofs
theorem noown_one (n:Int):V.owneds [V.int .i64 n]=false:=rfl
theorem solid1 {v:V} (h:v.solid=true):∀x∈[v],x.solid=true:=by
 intro x hx
 simp at hx
 subst hx
 exact h
theorem solid_one (n:Int):∀x∈[V.int .i64 n],x.solid=true:=by
 intro x hx
 simp at hx
 subst hx
 rfl
def dvGo (d:Int):List Int→List Int
 |[]=>[]
 |t::l=>gcdW d t::dvGo (gcdW d t) l
def dv (xs:List Int):List Int:=dvGo 0 xs
def asc:List Int→Bool
 |a::b::l=>bif decide (b≤a) then false else asc (b::l)
 |_=>true
def dec:List Int→Bool
 |a::b::l=>bif decide (a≤b) then false else dec (b::l)
 |[a]=>a==1
 |[]=>false
end Go.Ax
set_option linter.all false
namespace Go.Ax
open Go.Proofs
def isBr (xs:List Int):Bool:=
 bif (bif (bif (bif decide (0<(xs.length:Int)) then inRange (xs.getD 0 0) 1 64 else false) then asc xs else false) then within xs 1 2000 else false) then dec (dv xs) else false
end Go.Ax
set_option linter.all false
namespace Go.Ax
open Go.Proofs
def c_li_i (f0:List V→Int→Int):Contract:=fun
 |[.slc false 2 (.int .i64 0) a0,.int .i64 a1]=>some ([],.int .i64 (f0 a0 a1))
 |_=>none
def szL (n:Nat) (left:Int):Int:=bif decide (IntKind.wrap .i64 (left-n)<0) then-1 else IntKind.wrap .i64 (left-n)
def f0_sz (es:List V) (left:Int):Int:=szL es.length left
set_option maxHeartbeats 1000000 in
set_option maxRecDepth 100000 in
theorem s_laws_szInt64S:Sat Try.prog 11 (c_li_i f0_sz):=by
 intro args ps r h hp
 unfold c_li_i at h
 split at h
 ·rename_i a0 a1
  simp only [Option.some.injEq,Prod.mk.injEq] at h
  obtain ⟨rfl,rfl⟩:=h
  refine fnOk_ofI (T:=tab) (B:=[]) (Bi:=[]) [0,1,4] Try.func11 rfl rfl (by kernel_rfl) (Nat.le_of_ble_eq_true rfl) mixed tabOk (by exact bookNil) (by exact bookINil) (by kernel_rfl) ?_
  intro L lp rr hL hr hf hlp
  conv=>cbv
  simp only [stdEqs hL]
  rw [hr,f0_sz,szL]
  refine ⟨fun h=> ?_,fun h=> ?_⟩
  ·rw [h];rfl
  ·rw [h];rfl
 ·cases h
end Go.Ax
set_option linter.all false
namespace Go.Ax
open Go.Proofs
def II (o:Bool) (xss:List (List Int)):List V:=xss.map fun xs=> .slc o 2 (.int .i64 0) (I xs)
def unII (es:List V):List (List Int):=es.map fun v=>unI v.toL
theorem unII_II (o:Bool) (xss:List (List Int)):unII (II o xss)=xss:=by
 simp only [unII,II,List.map_map]
 conv=>rhs;rw [←List.map_id xss]
 apply List.map_congr_left
 intro xs _
 simp [V.toL]
theorem II_length (o:Bool) (xss:List (List Int)):(II o xss).length=xss.length:=by simp [II]
theorem II_getD (o:Bool) (xss:List (List Int)) (i:Nat):(II o xss).getD i (.slc o 2 (.int .i64 0) [])= .slc o 2 (.int .i64 0) (I (xss.getD i [])):=by
 simp only [II,List.getD_eq_getElem?_getD,List.getElem?_map]
 cases xss[i]? <;>rfl
theorem II_set (o:Bool) (xss:List (List Int)) (i:Nat) (xs:List Int):(II o xss).set i (.slc o 2 (.int .i64 0) (I xs))=II o (xss.set i xs):=by simp [II,List.map_set]
theorem II_frzs (o:Bool) (xss:List (List Int)):V.frzs (II o xss)=II false xss:=by
 rw [V.frzs_eq]
 simp only [II,List.map_map]
 apply List.map_congr_left
 intro xs _
 simp [V.frz,I_frzs]
theorem II_noFzs (xss:List (List Int)):V.noFzs (II true xss)=true:=by
 rw [V.noFzs_eq]
 simp only [II,List.all_map,List.all_eq_true]
 intro xs _
 simp [V.noFz]
theorem toL_slc (o:Bool) (e:TypeId) (d:V) (es:List V):stdV.toL (.slc o e d es)=es:=rfl
def IsII (o:Bool) (es:List V):Prop:=∃xss,es=II o xss
theorem ok_ints (o o':Bool) (xs:List Int):vw stdV tab o 20 22 (.slc o' 2 (.int .i64 0) (I xs))=some (.slc o 2 (.int .i64 0) (I xs)):=by cases o<;>rfl
def tot:List (List Int)→Nat
 |[]=>0
 |xs::l=>xs.length+tot l
def marksGo (k:Int):List (List Int)→List (List Int)
 |[]=>[]
 |xs::l=>marks xs.length k::marksGo (k+xs.length) l
theorem tot_append:∀a b:List (List Int),tot (a++b)=tot a+tot b
 |[],_=>by simp [tot]
 |x::a,b=>by simp [tot,tot_append a b];omega
theorem marksGo_append:∀(a b:List (List Int)) (k:Int),marksGo k (a++b)=marksGo k a++marksGo (k+tot a) b
 |[],b,k=>by simp [marksGo,tot]
 |x::a,b,k=>by
  simp only [List.cons_append,marksGo,marksGo_append a b,tot]
  congr 3
  omega
theorem marksGo_len:∀(a:List (List Int)) (k:Int),(marksGo k a).length=a.length
 |[],_=>rfl
 |_::a,k=>by simp [marksGo,marksGo_len a]
theorem take_succ_tot (xss:List (List Int)) (i:Nat) (h:i<xss.length):xss.take (i+1)=xss.take i++[xss.getD i []]:=by
 rw [List.take_succ_eq_append_getElem h,List.getD_eq_getElem?_getD,List.getElem?_eq_getElem h]
 rfl
theorem tot_take_le (xss:List (List Int)) (i:Nat):tot (xss.take i)≤tot xss:=by
 have:=tot_append (xss.take i) (xss.drop i)
 rw [List.take_append_drop] at this
 omega
theorem marks_step (xss:List (List Int)) (k:Int) (i:Nat) (h:i<xss.length):
 (marksGo k (xss.take i)++xss.drop i).set i (marks (xss.getD i []).length (k+tot (xss.take i)))=marksGo k (xss.take (i+1))++xss.drop (i+1):=by
 have hl:(marksGo k (xss.take i)).length=i:=by rw [marksGo_len,List.length_take];omega
 rw [List.set_append_right _ _ (by omega),hl,Nat.sub_self,List.drop_eq_getElem_cons h,List.set_cons_zero,take_succ_tot xss i h,marksGo_append]
 simp [marksGo]
theorem marks_at (xss:List (List Int)) (k:Int) (i:Nat) (h:i<xss.length):(marksGo k (xss.take i)++xss.drop i).getD i []=xss.getD i []:=by
 have hl:(marksGo k (xss.take i)).length=i:=by rw [marksGo_len,List.length_take];omega
 rw [List.getD_eq_getElem?_getD,List.getElem?_append_right (by omega),hl,Nat.sub_self,List.getElem?_drop,Nat.add_zero,←List.getD_eq_getElem?_getD]
def ic_markSS (f0:List V→Int→Int) (f1:List V→Int→List V) (q:List V→Int→Prop):IContract:=fun
 |[.slc true 22 (.slc true 2 (.int .i64 0) []) a0,.int .i64 a1]=>some ([q a0 a1],.int .i64 (f0 a0 a1),.slc true 22 (.slc true 2 (.int .i64 0) []) (f1 a0 a1))
 |_=>none
def f0_markSS (es:List V) (k:Int):Int:=k+tot (unII es)
def f1_markSS (es:List V) (k:Int):List V:=II true (marksGo k (unII es))
def q_markSS (o:Bool) (es:List V) (k:Int):Prop:=IsII o es∧0≤k∧k+tot (unII es)≤9223372036854775807
def q_markO (es:List V) (k:Int):Prop:=q_markSS true es k
theorem Sh.lists {d:V}:∀(xss:List (List Int)) (k:Int),Sh (.slc true 22 d (II true xss)) (.slc true 22 d (II true (marksGo k xss))):=by
 intro xss k
 refine .slc _ _ _ _ _ (by rw [II_length,II_length,marksGo_len]) (fun i x y hx hy=> ?_)
 simp only [II,List.getElem?_map,Option.map_eq_some_iff] at hx hy
 obtain ⟨a,ha,rfl⟩:=hx
 obtain ⟨b,hb,rfl⟩:=hy
 refine Sh.ints ?_
 have key:∀(l:List (List Int)) (k:Int) (i:Nat) (a b:List Int),l[i]? =some a→(marksGo k l)[i]? =some b→a.length=b.length:=by
  intro l
  induction l with
  |nil=>intro k i a b h;simp at h
  |cons x l ih=>
   intro k i a b h1 h2
   cases i with
   |zero=>simp [marksGo] at h1 h2;subst h1;subst h2;rw [marks_len]
   |succ i=>exact ih _ i a b (by simpa using h1) (by simpa [marksGo] using h2)
 exact key _ _ _ _ _ ha hb
set_option maxHeartbeats 1000000 in
set_option maxRecDepth 100000 in
theorem s_laws_markInt64SS:SatI Try.prog 33 0 (ic_markSS f0_markSS f1_markSS q_markO):=by
 intro args ps r y h hp
 unfold ic_markSS at h
 split at h
 ·rename_i a0 a1
  simp only [Option.some.injEq,Prod.mk.injEq] at h
  obtain ⟨rfl,rfl,rfl⟩:=h
  obtain ⟨⟨xss,hes⟩,hk0,hk1⟩:q_markO a0 a1:=(alls_cons.1 hp).1
  rw [hes,unII_II] at hk1
  have hel:a0.length=xss.length:=by rw [hes,II_length]
  generalize H_f0_mark:f0_mark=F_f0_mark
  generalize H_f1_mark:f1_mark=F_f1_mark
  generalize H_q_mark:q_mark=F_q_mark
  refine fnIO_of (T:=tab) (B:=[]) (Bi:=[(32,0,false,ic_markInt64S F_f0_mark F_f1_mark F_q_mark)]) 0 [0,1,4,5] Try.func33 rfl rfl (by kernel_rfl) (Nat.le_of_ble_eq_true rfl) mixed tabOk (by subst H_f0_mark H_f1_mark H_q_mark;exact bookNil) (by subst H_f0_mark H_f1_mark H_q_mark;exact (bookICons s_laws_markInt64S bookINil)) (by kernel_rfl) rfl rfl rfl (by rw [f1_markSS,hes,unII_II];exact Sh.lists xss a1) rfl rfl ?_
  intro L lp rr yy hL hr hy hf hlp
  have hlen:=hf.1.1
  conv=>cbv
  refine hlp (Int×Int×List V) _ _ _ [0,1,5] (fun x=>[(0,none,.val (.slc true 22 (.slc true 2 (.int .i64 0) []) x.2.2)),(1,none,.val (.int .i64 x.1)),(5,none,.val (.int .i64 x.2.1))])
   (fun x=>0≤x.2.1∧x.2.1≤xss.length∧x.1=a1+tot (xss.take x.2.1.toNat)∧x.2.2=II true (marksGo a1 (xss.take x.2.1.toNat)++xss.drop x.2.1.toNat)) (fun x=>(xss.length-x.2.1).toNat) (a1,0,a0) (by subst hL;rfl) ⟨by simp,by simp,by simp [tot],by simp [marksGo,hes]⟩ ?_
  rintro ⟨k,i,es⟩ ⟨i0,i1,hk,hys⟩ hfx ag hag
  conv=>cbv
  simp only at i0 i1 hk hys
  have hyl:es.length=xss.length:=by rw [hys,II_length,List.length_append,marksGo_len,List.length_take,List.length_drop];omega
  by_cases hb:i<xss.length
  ·have hg:es.getD i.toNat (.slc true 2 (.int .i64 0) [])= .slc true 2 (.int .i64 0) (I (xss.getD i.toNat [])):=by
    rw [hys,II_getD,marks_at _ _ _ (by omega)]
   simp only [stdEqs hL,hyl,hg,ok_ints,toL_slc,imp_self,true_and,decide_eq_true_eq,decide_eq_false_iff_not]
   subst H_f0_mark H_f1_mark H_q_mark
   have ht1:=tot_take_le xss (i.toNat+1)
   rw [take_succ_tot xss i.toNat (by omega),tot_append] at ht1
   simp only [tot] at ht1
   have e0:f0_mark (I (xss.getD i.toNat [])) k=a1+tot (xss.take (i.toNat+1)):=by
    rw [f0_mark,I_length,hk,take_succ_tot xss i.toNat (by omega),tot_append]
    simp only [tot]
    omega
   have e1:f1_mark (I (xss.getD i.toNat [])) k=I (marks (xss.getD i.toNat []).length (a1+tot (xss.take i.toNat))):=by rw [f1_mark,I_length,hk]
   refine ⟨fun h=>⟨i0,h,by omega,by omega,⟨⟨_,rfl⟩,by omega,by rw [I_length];omega⟩,?_⟩,fun h=>absurd hb h⟩
   rw [wrap_id (n:=i+1) (by omega) (by omega),e0,e1]
   refine hag (_,i+1,_) ⟨by simp only;omega,by simp only;omega,by simp only [toNat_succ i0],?_⟩ (by simp only;omega)
   simp only [toNat_succ i0]
   rw [hys,II_set,marks_step xss a1 i.toNat (by omega)]
  ·simp only [stdEqs hL,hyl,decide_eq_true_eq,decide_eq_false_iff_not]
   refine ⟨fun h=>absurd h hb,fun _=> ?_⟩
   rw [hr,hy,hk,hys,f0_markSS,f1_markSS,hes,unII_II,List.take_of_length_le (by omega),List.drop_eq_nil_of_le (by omega),List.append_nil]
   exact ⟨rfl,rfl⟩
 ·cases h
def c_heldSS (f0:List V→Int→Int) (q:List V→Int→Prop):Contract:=fun
 |[.slc false 22 (.slc false 2 (.int .i64 0) []) a0,.int .i64 a1]=>some ([q a0 a1],.int .i64 (f0 a0 a1))
 |_=>none
def f0_heldSS (es:List V) (k:Int):Int:=if unII es=marksGo k (unII es) then k+tot (unII es) else-1
def q_markF (es:List V) (k:Int):Prop:=q_markSS false es k
theorem marksGo_split {xss:List (List Int)} {k:Int} {i:Nat} (h:i<xss.length) (ht:xss.take i=marksGo k (xss.take i)):(xss=marksGo k xss↔(xss.getD i []=marks (xss.getD i []).length (k+tot (xss.take i))∧xss.drop (i+1)=marksGo (k+tot (xss.take (i+1))) (xss.drop (i+1)))):=by
 have e:xss=xss.take i++xss.getD i []::xss.drop (i+1):=by
  rw [←drop_cons [] h,List.take_append_drop]
 have e2:marksGo k xss=marksGo k (xss.take i)++marks (xss.getD i []).length (k+tot (xss.take i))::marksGo (k+tot (xss.take (i+1))) (xss.drop (i+1)):=by
  conv=>lhs;rw [e]
  rw [marksGo_append,marksGo,take_succ_tot xss i h,tot_append]
  congr 3
  simp only [tot]
  omega
 constructor
 ·intro hx
  rw [e2] at hx
  conv at hx=>lhs;rw [e]
  rw [←ht] at hx
  have:=List.append_cancel_left hx
  simp only [List.cons.injEq] at this
  exact this
 ·rintro ⟨h1,h2⟩
  rw [e2,←ht,←h1,←h2]
  exact e
set_option maxHeartbeats 1000000 in
set_option maxRecDepth 100000 in
theorem s_laws_heldInt64SS:Sat Try.prog 35 (c_heldSS f0_heldSS q_markF):=by
 intro args ps r h hp
 unfold c_heldSS at h
 split at h
 ·rename_i a0 a1
  simp only [Option.some.injEq,Prod.mk.injEq] at h
  obtain ⟨rfl,rfl⟩:=h
  obtain ⟨⟨xss,hes⟩,hk0,hk1⟩:q_markF a0 a1:=(alls_cons.1 hp).1
  rw [hes,unII_II] at hk1
  have hel:a0.length=xss.length:=by rw [hes,II_length]
  have hf0:f0_heldSS a0 a1=if xss=marksGo a1 xss then a1+tot xss else-1:=by rw [f0_heldSS,hes,unII_II]
  generalize H_f0_held:f0_held=F_f0_held
  generalize H_q_mark:q_mark=F_q_mark
  refine fnOk_ofI (T:=tab) (B:=[(34,c_heldInt64S F_f0_held F_q_mark)]) (Bi:=[]) [0,1,4,5] Try.func35 rfl rfl (by kernel_rfl) (Nat.le_of_ble_eq_true rfl) mixed tabOk (by subst H_f0_held H_q_mark;exact (bookCons s_laws_heldInt64S bookNil)) (by subst H_f0_held H_q_mark;exact bookINil) (by kernel_rfl) ?_
  intro L lp rr hL hr hf hlp
  have hlen:=hf.1.1
  conv=>cbv
  refine hlp (Int×Int) _ _ _ [0,1,5] (fun x=>[(0,none,.val (.slc false 22 (.slc false 2 (.int .i64 0) []) a0)),(1,none,.val (.int .i64 x.1)),(5,none,.val (.int .i64 x.2))])
   (fun x=>0≤x.2∧x.2≤xss.length∧x.1=a1+tot (xss.take x.2.toNat)∧xss.take x.2.toNat=marksGo a1 (xss.take x.2.toNat)) (fun x=>(xss.length-x.2).toNat) (a1,0) (by subst hL;rfl) ⟨by simp,by simp,by simp [tot],by simp [marksGo]⟩ ?_
  rintro ⟨k,i⟩ ⟨i0,i1,hk,hyt⟩ hfx ag hag
  conv=>cbv
  simp only at i0 i1 hk hyt
  by_cases hb:i<xss.length
  ·have hg:a0.getD i.toNat (.slc false 2 (.int .i64 0) [])= .slc false 2 (.int .i64 0) (I (xss.getD i.toNat [])):=by
    rw [hes,II_getD]
   simp only [stdEqs hL,hel,hg,ok_ints,toL_slc,I_frzs,imp_self,true_and,decide_eq_true_eq,decide_eq_false_iff_not]
   subst H_f0_held H_q_mark
   have ht1:=tot_take_le xss (i.toNat+1)
   rw [take_succ_tot xss i.toNat (by omega),tot_append] at ht1
   simp only [tot] at ht1
   have hsp:=marksGo_split (k:=a1) (show i.toNat<xss.length by omega) hyt
   have e0:f0_held (I (xss.getD i.toNat [])) k=if xss.getD i.toNat []=marks (xss.getD i.toNat []).length (a1+tot (xss.take i.toNat)) then a1+tot (xss.take (i.toNat+1)) else-1:=by
    rw [f0_held,unI_I,I_length,hk,take_succ_tot xss i.toNat (by omega),tot_append]
    simp only [tot]
    congr 1
    omega
   refine ⟨fun h=>⟨i0,by omega,⟨⟨_,rfl⟩,by omega,by rw [I_length];omega⟩,fun h4=> ?_,fun h4=> ?_⟩,fun h=>absurd hb h⟩
   ·rw [e0] at h4
    split at h4
    ·omega
    ·rename_i hne
     rw [hr,hf0,if_neg (fun hx=>hne (hsp.1 hx).1)]
   ·rw [e0] at h4
    split at h4
    ·rename_i heq
     rw [wrap_id (n:=i+1) (by omega) (by omega),e0,if_pos heq]
     refine hag (_,i+1) ⟨by simp only;omega,by simp only;omega,by simp only [toNat_succ i0],?_⟩ (by simp only;omega)
     simp only [toNat_succ i0]
     rw [take_succ_tot xss i.toNat (by omega),marksGo_append,←hyt,marksGo,marksGo,←heq]
    ·omega
  ·simp only [stdEqs hL,hel,decide_eq_true_eq,decide_eq_false_iff_not]
   refine ⟨fun h=>absurd h hb,fun _=> ?_⟩
   rw [List.take_of_length_le (by omega)] at hyt hk
   rw [hr,hf0,if_pos hyt,hk]
 ·cases h
def c_eqSS (f0:List V→List V→Bool) (q:List V→List V→Prop):Contract:=fun
 |[.slc false 22 (.slc false 2 (.int .i64 0) []) a0,.slc false 22 (.slc false 2 (.int .i64 0) []) a1]=>some ([q a0 a1],.bool (f0 a0 a1))
 |_=>none
def f0_eqSS (a b:List V):Bool:=decide (unII a=unII b)
def q_eqSS (a b:List V):Prop:=IsII false a∧IsII false b
set_option maxHeartbeats 1000000 in
set_option maxRecDepth 100000 in
theorem s_laws_eqInt64SS:Sat Try.prog 31 (c_eqSS f0_eqSS q_eqSS):=by
 intro args ps r h hp
 unfold c_eqSS at h
 split at h
 ·rename_i a0 a1
  simp only [Option.some.injEq,Prod.mk.injEq] at h
  obtain ⟨rfl,rfl⟩:=h
  obtain ⟨⟨xs,hxs⟩,ys,hys⟩:q_eqSS a0 a1:=(alls_cons.1 hp).1
  have hxl:a0.length=xs.length:=by rw [hxs,II_length]
  have hyl:a1.length=ys.length:=by rw [hys,II_length]
  have hf0:f0_eqSS a0 a1=decide (xs=ys):=by rw [f0_eqSS,hxs,hys,unII_II,unII_II]
  generalize H_f0_eqI:f0_eqI=F_f0_eqI
  generalize H_q_eqI:q_eqI=F_q_eqI
  refine fnOk_ofI (T:=tab) (B:=[(30,c_laws_eqInt64S F_f0_eqI F_q_eqI)]) (Bi:=[]) [0,1,4,5] Try.func31 rfl rfl (by kernel_rfl) (Nat.le_of_ble_eq_true rfl) mixed tabOk (by subst H_f0_eqI H_q_eqI;exact (bookCons s_laws_eqInt64S bookNil)) (by subst H_f0_eqI H_q_eqI;exact bookINil) (by kernel_rfl) ?_
  intro L lp rr hL hr hf hlp
  have hlen:=hf.1.1
  have hrr:rr= .bool (decide (xs=ys)):=by rw [hr,hf0]
  conv=>cbv
  simp only [stdEqs hL,hxl,hyl]
  refine ⟨fun h=> ?_,fun h=> ?_⟩
  ·have:xs≠ys:=by
    rintro rfl
    simp at h
   rw [hrr,decide_eq_false this]
  have hll:xs.length=ys.length:=by
   simp only [Bool.not_eq_false',beq_iff_eq] at h
   omega
  refine hlp (Int) _ _ _ [0,1,5] (fun i=>[(0,none,.val (.slc false 22 (.slc false 2 (.int .i64 0) []) a0)),(1,none,.val (.slc false 22 (.slc false 2 (.int .i64 0) []) a1)),(5,none,.val (.int .i64 i))])
   (fun i=>0≤i∧i≤xs.length∧xs.take i.toNat=ys.take i.toNat) (fun i=>(xs.length-i).toNat) 0 (by subst hL;rfl) (by simp) ?_
  rintro i ⟨i0,i1,i2⟩ hfx ag hag
  conv=>cbv
  by_cases hb:i<xs.length
  ·have hg:a0.getD i.toNat (.slc false 2 (.int .i64 0) [])= .slc false 2 (.int .i64 0) (I (xs.getD i.toNat [])):=by rw [hxs,II_getD]
   have hg':a1.getD i.toNat (.slc false 2 (.int .i64 0) [])= .slc false 2 (.int .i64 0) (I (ys.getD i.toNat [])):=by rw [hys,II_getD]
   simp only [stdEqs hL,hxl,hyl,hg,hg',ok_ints,toL_slc,I_frzs,imp_self,true_and,decide_eq_true_eq,decide_eq_false_iff_not]
   subst H_f0_eqI H_q_eqI
   have e1:i.toNat<xs.length:=by omega
   have e2:i.toNat<ys.length:=by omega
   refine ⟨fun h=>⟨i0,by omega,i0,by omega,⟨⟨_,rfl⟩,⟨_,rfl⟩⟩,fun h4=> ?_,fun h4=> ?_⟩,fun h=>absurd hb h⟩
   ·simp only [f0_eqI,unI_I,Bool.not_eq_true',decide_eq_false_iff_not] at h4
    rw [hrr,decide_eq_false]
    rintro rfl
    exact h4 rfl
   ·simp only [f0_eqI,unI_I,Bool.not_eq_false',decide_eq_true_eq] at h4
    rw [wrap_id (by omega) (by omega)]
    refine hag _ ⟨by omega,by omega,?_⟩ (by omega)
    rw [toNat_succ i0,take_succ_tot xs _ e1,take_succ_tot ys _ e2,i2,h4]
  ·simp only [stdEqs hL,hxl,hyl,decide_eq_true_eq,decide_eq_false_iff_not]
   refine ⟨fun h=>absurd h hb,fun _=> ?_⟩
   rw [List.take_of_length_le (by omega),List.take_of_length_le (by omega)] at i2
   rw [hrr,decide_eq_true i2]
 ·cases h
end Go.Ax
set_option linter.all false
namespace Go.Ax
open Go.Proofs
end Go.Ax
set_option linter.all false
namespace Go.Proofs.Ytpmjogeikkojoaa
open Go.ChangeShapes Go.WideShapes Go.ChangeAt Go.RowKit Go.Ax
theorem ownK:ownKnob Try.prog.godebug=none:=by kernel_rfl
theorem laidOut:laidOutB Try.prog=true:=by kernel_rfl
def okK:TK→Bool
 | .oth=>false
 |_=>true
theorem noOth:∀t ti,tget tab t=some ti→ti.k≠.oth:=by
 have h:(tab.all fun x=>okK x.2.k)=true:=by kernel_rfl
 intro t ti ht hk
 have:=List.all_eq_true.1 h _ (tget_mem ht)
 rw [hk] at this
 cases this
theorem wt_int {x:V} (h:Wt tab 2 x):∃n,x= .int .i64 n:=by
 cases h with
 |int _ ti k n h hk hn=>cases h;cases hk;exact ⟨n,rfl⟩
 |bool _ ti b h hk=>cases h;cases hk
 |str _ ti b h hk=>cases h;cases hk
 |slc _ ti e es h hk=>cases h;cases hk
 |agg _ ti e es h hk=>cases h;cases hk
theorem wt_ints {x:V} (h:Wt tab 22 x):∃es,x= .slc false 2 (.int .i64 0) es∧IsI es:=by
 cases h with
 |int _ ti k n h hk hn=>cases h;cases hk
 |bool _ ti b h hk=>cases h;cases hk
 |str _ ti b h hk=>cases h;cases hk
 |slc _ ti e es h hk hl he=>
  cases h;cases hk
  refine ⟨es,rfl,?_⟩
  clear hl
  induction es with
  |nil=>exact ⟨[],rfl⟩
  |cons y es ih=>
   obtain ⟨l,hl⟩:=ih (fun i y hy=>he (i+1) y (by simpa using hy))
   obtain ⟨n,hn⟩:=wt_int (he 0 y rfl)
   exact ⟨n::l,by rw [hl,hn];rfl⟩
 |agg _ ti e es h hk=>cases h;cases hk
theorem wt_intss {x:V} (h:Wt tab 23 x):∃es,x= .slc false 22 (.slc false 2 (.int .i64 0) []) es∧IsII false es:=by
 cases h with
 |int _ ti k n h hk hn=>cases h;cases hk
 |bool _ ti b h hk=>cases h;cases hk
 |str _ ti b h hk=>cases h;cases hk
 |slc _ ti e es h hk hl he=>
  cases h;cases hk
  refine ⟨es,rfl,?_⟩
  clear hl
  induction es with
  |nil=>exact ⟨[],rfl⟩
  |cons y es ih=>
   obtain ⟨l,hl⟩:=ih (fun i y hy=>he (i+1) y (by simpa using hy))
   obtain ⟨n,hn,m,rfl⟩:=wt_ints (he 0 y rfl)
   exact ⟨m::l,by rw [hl,hn];rfl⟩
 |agg _ ti e es h hk=>cases h;cases hk
theorem wt_graph {x:V} (h:Wt tab 25 x):∃es fs,x= .agg [.slc false 2 (.int .i64 0) es,.slc false 22 (.slc false 2 (.int .i64 0) []) fs]∧IsI es∧IsII false fs:=by
 cases h with
 |int _ ti k n h hk hn=>cases h;cases hk
 |bool _ ti b h hk=>cases h;cases hk
 |str _ ti b h hk=>cases h;cases hk
 |slc _ ti e es h hk=>cases h;cases hk
 |agg _ ti fts fs h hk hl he=>
  cases h;cases hk
  match fs,hl with
  |[y,z],_=>
   obtain ⟨es,rfl,hes⟩:=wt_ints (he 0 0 22 y rfl rfl)
   obtain ⟨fs,rfl,hfs⟩:=wt_intss (he 1 1 23 z rfl rfl)
   exact ⟨es,fs,rfl,hes,hfs⟩
end Go.Proofs.Ytpmjogeikkojoaa
set_option linter.all false
namespace Go.Ax
open Go.Proofs Go.Proofs.Ytpmjogeikkojoaa
theorem and2 {a b:Bool} (ha:a=true) (hb:b=true):(a&&b)=true:=by rw [ha,hb];rfl
set_option maxRecDepth 100000 in
theorem pfEnter: Try.prog.mayEnter=true:=by kernel_rfl
set_option maxRecDepth 100000 in
theorem pfLift:(({program:= "",sum:= "",func:= "",spec:= "" }:OpenClaim).lifted== Try.prog.liftsFinal)=true:=by kernel_rfl
set_option maxRecDepth 100000 in
theorem pfMake:(Try.prog.make==some ({program:= "",sum:= "",func:= "",spec:= "" }:OpenClaim).make)=true:=by kernel_rfl
end Go.Ax
set_option linter.all false
namespace Go.Ax
open Go.Proofs
set_option maxHeartbeats 1000000 in
set_option maxRecDepth 100000 in
theorem s_spec_l01Own:Sat Try.prog 39 (c_laws_toInt64S same IsIs):=by
 intro args ps r h hp
 unfold c_laws_toInt64S at h
 split at h
 ·rename_i a0
  simp only [Option.some.injEq,Prod.mk.injEq] at h
  obtain ⟨rfl,rfl⟩:=h
  obtain ⟨⟨xs,hxs⟩,hlen⟩:IsIs a0:=(alls_cons.1 hp).1
  have hxl:a0.length=xs.length:=by rw [hxs,I_length]
  refine fnOk_ofI (T:=tab) (B:=[]) (Bi:=[]) [0,2] Try.func39 rfl rfl (by kernel_rfl) (Nat.le_of_ble_eq_true rfl) mixed tabOk (by exact bookNil) (by exact bookINil) (by kernel_rfl) ?_
  intro L lp rr hL hr hf hlp
  conv=>cbv
  simp only [stdEqs hL,hxl]
  rw [hr,same]
  exact ⟨by rw [hxs,I_owneds],by simp;omega,by rw [hxs];exact I_solid xs,rfl⟩
 ·cases h
set_option maxHeartbeats 1000000 in
set_option maxRecDepth 100000 in
theorem s_clone:Sat Try.prog 49 (c_laws_toInt64S same IsIs):=by
 intro args ps r h hp
 unfold c_laws_toInt64S at h
 split at h
 ·rename_i a0
  simp only [Option.some.injEq,Prod.mk.injEq] at h
  obtain ⟨rfl,rfl⟩:=h
  obtain ⟨⟨xs,hxs⟩,hlen⟩:IsIs a0:=(alls_cons.1 hp).1
  have hxl:a0.length=xs.length:=by rw [hxs,I_length]
  refine fnOk_ofI (T:=tab) (B:=[]) (Bi:=[]) [0,2] Try.func49 rfl rfl (by kernel_rfl) (Nat.le_of_ble_eq_true rfl) mixed tabOk (by exact bookNil) (by exact bookINil) (by kernel_rfl) ?_
  intro L lp rr hL hr hf hlp
  conv=>cbv
  simp only [stdEqs hL,hxl]
  have hnx:V.owneds a0=false∧(([]:List V).length:Int)+xs.length≤2147483647∧(∀x:V,x∈a0→x.solid=true)∧V.slc true 2 (.int .i64 0) ([]++a0)=rr:=by
   rw [hr,same]
   exact ⟨by rw [hxs,I_owneds],by simp;omega,by rw [hxs];exact I_solid xs,rfl⟩
  refine ⟨fun h=>⟨fun _=> ?_,fun _=>hnx⟩,fun h=>(by cases h),fun _=>hnx⟩
  have:xs=[]:=by
   simp only [beq_iff_eq] at h
   exact List.eq_nil_of_length_eq_zero (by omega)
  rw [hr,same,hxs,this]
  rfl
 ·cases h
theorem II_replicate (o:Bool) (n:Nat) (xs:List Int):II o (List.replicate n xs)=List.replicate n (.slc o 2 (.int .i64 0) (I xs)):=by simp [II,List.map_replicate]
theorem II_append (o:Bool) (a b:List (List Int)):II o (a++b)=II o a++II o b:=by simp [II]
theorem set_at {α:Type} (a b:List α) (x y:α) (i:Nat) (h:a.length=i):(a++x::b).set i y=a++y::b:=by
 rw [List.set_append_right _ _ (by omega),←h,Nat.sub_self,List.set_cons_zero]
theorem frzs_II {a:List V} (h:IsII false a):V.frzs a=a:=by
 obtain ⟨l,rfl⟩:=h
 rw [II_frzs]
theorem Sh.agg2 {x y x' y':V} (h:Sh x y) (h':Sh x' y'):Sh (.agg [x,x']) (.agg [y,y']):=by
 refine .agg _ _ rfl (fun i a b ha hb=> ?_)
 match i with
 |0=>simp at ha hb;subst ha;subst hb;exact h
 |1=>simp at ha hb;subst ha;subst hb;exact h'
 |i+2=>simp at ha
theorem tot_marksGo:∀(l:List (List Int)) (k:Int),tot (marksGo k l)=tot l
 |[],_=>rfl
 |x::l,k=>by simp only [marksGo,tot,marks_len,tot_marksGo l]
theorem marksGo_idem:∀(l:List (List Int)) (k:Int),marksGo k (marksGo k l)=marksGo k l
 |[],_=>rfl
 |x::l,k=>by simp only [marksGo,marks_len,marksGo_idem l]
end Go.Ax
set_option linter.all false
namespace Go.Ax
open Go.Proofs
def tab' {α:Type} (f:Nat→α) (n:Nat):List α:=(List.range n).map f
theorem tab_len {α:Type} (f:Nat→α) (n:Nat):(tab' f n).length=n:=by simp [tab']
theorem tab_succ {α:Type} (f:Nat→α) (n:Nat):tab' f (n+1)=tab' f n++[f n]:=by simp [tab',List.range_succ]
theorem tab_get {α:Type} (f:Nat→α) (n i:Nat) (d:α) (h:i<n):(tab' f n).getD i d=f i:=by
 simp [tab',List.getD_eq_getElem?_getD,List.getElem?_map,List.getElem?_range h]
theorem tab_zero {α:Type} (f:Nat→α):tab' f 0=[]:=rfl
abbrev W (n:Int):Int:=IntKind.wrap .i64 n
structure Br (xs:List Int):Prop where
 is:isBr xs=true
 pos:0<xs.length
 len:xs.length≤64
 low:∀i,i<xs.length→1≤xs.getD i 0
 high:∀i,i<xs.length→xs.getD i 0≤2000
 up:∀i,i+1<xs.length→xs.getD i 0<xs.getD (i+1) 0
 first:xs.getD 0 0≤64
 dlen:(dv xs).length=xs.length
 d0:(dv xs).getD 0 0=xs.getD 0 0
 dpos:∀i,i<xs.length→1≤(dv xs).getD i 0
 dhi:∀i,i<xs.length→(dv xs).getD i 0≤64
 dstep:∀i,i+1<xs.length→(dv xs).getD (i+1) 0<(dv xs).getD i 0
 dlast:(dv xs).getD (xs.length-1) 0=1
end Go.Ax
set_option linter.all false
namespace Go.Ax
open Go.Proofs
end Go.Ax
set_option linter.all false
namespace Go.Ax
open Go.Proofs
def szGo:List (List Int)→Int→Int
 |[],left=>left
 |x::l,left=>bif decide (szL x.length left<0) then-1 else szGo l (szL x.length left)
def szSS (l:List (List Int)) (left:Int):Int:=bif decide (W (left-l.length)<0) then-1 else szGo l (W (left-l.length))
def c_mi_i (f:List V→Int→Int) (q:List V→Int→Prop):Contract:=fun
 |[.slc false 22 (.slc false 2 (.int .i64 0) []) a0,.int .i64 a1]=>some ([q a0 a1],.int .i64 (f a0 a1))
 |_=>none
def f_szSS (es:List V) (left:Int):Int:=szSS (unII es) left
def q_szSS (es:List V) (_:Int):Prop:=IsII false es
theorem lenOks_II {o:Bool} {xss:List (List Int)} (h:V.lenOks (II o xss)):∀i,i<xss.length→(xss.getD i []).length≤9223372036854775807:=by
 intro i hi
 have h1:=lenOks_iff.1 h (.slc o 2 (.int .i64 0) (I (xss.getD i []))) (by
  rw [II,List.mem_map]
  exact ⟨xss.getD i [],by rw [List.getD_eq_getElem?_getD,List.getElem?_eq_getElem hi];exact List.getElem_mem hi,rfl⟩)
 have h2:=h1.1
 rwa [I_length] at h2
set_option maxHeartbeats 1000000 in
set_option maxRecDepth 100000 in
theorem s_laws_szInt64SS:Sat Try.prog 12 (c_mi_i f_szSS q_szSS):=by
 intro args ps r h hp
 unfold c_mi_i at h
 split at h
 ·rename_i a0 a1
  simp only [Option.some.injEq,Prod.mk.injEq] at h
  obtain ⟨rfl,rfl⟩:=h
  obtain ⟨xss,hes⟩:IsII false a0:=(alls_cons.1 hp).1
  have hel:a0.length=xss.length:=by rw [hes,II_length]
  have hf0:f_szSS a0 a1=szSS xss a1:=by rw [f_szSS,hes,unII_II]
  generalize H_f0_sz:f0_sz=F_f0_sz
  refine fnOk_ofI (T:=tab) (B:=[(11,c_li_i F_f0_sz)]) (Bi:=[]) [0,1,4,5] Try.func12 rfl rfl (by kernel_rfl) (Nat.le_of_ble_eq_true rfl) mixed tabOk (by subst H_f0_sz;exact (bookCons s_laws_szInt64S bookNil)) (by subst H_f0_sz;exact bookINil) (by kernel_rfl) ?_
  intro L lp rr hL hr hf hlp
  have hlen:=hf.1.1
  rw [hel] at hlen
  conv=>cbv
  simp only [stdEqs hL,hel]
  refine ⟨fun h=> ?_,fun h=> ?_⟩
  ·rw [hr,hf0,szSS,h];rfl
  refine hlp (Int×Int) _ _ _ [0,1,5] (fun x=>[(0,none,.val (.slc false 22 (.slc false 2 (.int .i64 0) []) a0)),(1,none,.val (.int .i64 x.1)),(5,none,.val (.int .i64 x.2))])
   (fun x=>0≤x.2∧x.2≤xss.length∧szSS xss a1=szGo (xss.drop x.2.toNat) x.1) (fun x=>(xss.length-x.2).toNat) ((_,0)) (by subst hL;rfl) ?_ ?_
  ·refine ⟨by simp,by simp,?_⟩
   rw [szSS,h];rfl
  rintro ⟨left,i⟩ ⟨i0,i1,hI⟩ hfx ag hag
  conv=>cbv
  simp only at i0 i1 hI
  subst hes
  simp only [stdEqs hL,hel,II_getD,ok_ints,toL_slc,I_frzs,imp_self,true_and,decide_eq_true_eq,decide_eq_false_iff_not]
  subst H_f0_sz
  have e0:f0_sz (I (xss.getD i.toNat [])) left=szL (xss.getD i.toNat []).length left:=by rw [f0_sz,I_length]
  rw [e0]
  refine ⟨fun h=> ?_,fun h=> ?_⟩
  ·have hd:xss.drop i.toNat=xss.getD i.toNat []::xss.drop (i.toNat+1):=drop_cons [] (by omega)
   refine ⟨i0,by omega,fun h2=> ?_,fun h2=> ?_⟩
   ·rw [hr,hf0,hI,hd,szGo,decide_eq_true h2];rfl
   ·rw [wrap_id (n:=i+1) (by omega) (by omega)]
    refine hag (_,i+1) ⟨by simp only;omega,by simp only;omega,?_⟩ (by simp only;omega)
    simp only [toNat_succ i0]
    rw [hI,hd,szGo,decide_eq_false h2];rfl
  ·rw [hr,hf0,hI,List.drop_eq_nil_of_le (by omega)];rfl
 ·cases h
def c_Gi_i (f:List V→List V→Int→Int) (q:List V→List V→Int→Prop):Contract:=fun
 |[.agg [.slc false 2 (.int .i64 0) a0,.slc false 22 (.slc false 2 (.int .i64 0) []) a1],.int .i64 a2]=>some ([q a0 a1 a2],.int .i64 (f a0 a1 a2))
 |_=>none
def f_szG (ws es:List V) (left:Int):Int:=bif decide (szL ws.length left<0) then-1 else szSS (unII es) (szL ws.length left)
def q_szG (_ es:List V) (_:Int):Prop:=IsII false es
theorem szGo_neg:∀(l:List (List Int)) (left:Int),0≤left→szGo l left<0→szGo l left= -1
 |[],left,h,h'=>by simp only [szGo] at h';omega
 |x::l,left,h,h'=>by
  simp only [szGo] at h' ⊢
  cases hh:decide (szL x.length left<0) with
  |true=>rfl
  |false=>
   rw [hh] at h'
   exact szGo_neg l _ (by simpa using hh) h'
theorem szSS_neg {l:List (List Int)} {left:Int} (h:szSS l left<0):szSS l left= -1:=by
 unfold szSS at h ⊢
 cases hh:decide (W (left-l.length)<0) with
 |true=>rfl
 |false=>
  rw [hh] at h
  exact szGo_neg l _ (by simpa using hh) h
set_option maxHeartbeats 1000000 in
set_option maxRecDepth 100000 in
theorem s_laws_szGraph:Sat Try.prog 4 (c_Gi_i f_szG q_szG):=by
 intro args ps r h hp
 unfold c_Gi_i at h
 split at h
 ·rename_i a0 a1 a2
  simp only [Option.some.injEq,Prod.mk.injEq] at h
  obtain ⟨rfl,rfl⟩:=h
  have hq:IsII false a1:=(alls_cons.1 hp).1
  have g0:=frzs_II hq
  have hf0:f_szG a0 a1 a2=bif decide (szL a0.length a2<0) then-1 else szSS (unII a1) (szL a0.length a2):=rfl
  have e0:f0_sz (V.frzs a0) a2=szL a0.length a2:=by rw [f0_sz,V.frzs_eq,List.length_map]
  generalize H_f0_sz:f0_sz=F_f0_sz
  generalize H_f_szSS:f_szSS=F_f_szSS
  generalize H_q_szSS:q_szSS=F_q_szSS
  refine fnOk_ofI (T:=tab) (B:=[(11,c_li_i F_f0_sz),(12,c_mi_i F_f_szSS F_q_szSS)]) (Bi:=[]) [0,1,2,4] Try.func4 rfl rfl (by kernel_rfl) (Nat.le_of_ble_eq_true rfl) mixed tabOk (by subst H_f0_sz H_f_szSS H_q_szSS;exact (bookCons s_laws_szInt64S (bookCons s_laws_szInt64SS bookNil))) (by subst H_f0_sz H_f_szSS H_q_szSS;exact bookINil) (by kernel_rfl) ?_
  intro L lp rr hL hr hf hlp
  conv=>cbv
  simp only [stdEqs hL,g0]
  subst H_f0_sz H_f_szSS H_q_szSS
  simp only [e0]
  refine ⟨fun h=> ?_,fun h=>⟨hq,fun h2=> ?_,fun h2=> ?_⟩⟩
  ·rw [hr,hf0,h];rfl
  ·have:=szSS_neg (l:=unII a1) (left:=szL a0.length a2) (of_decide_eq_true h2)
   rw [hr,hf0,h,cond_false,this]
  ·rw [hr,hf0,h];rfl
 ·cases h
def c_m_m (f:List V→List V) (q:List V→Prop):Contract:=fun
 |[.slc false 22 (.slc false 2 (.int .i64 0) []) a0]=>some ([q a0],.slc true 22 (.slc true 2 (.int .i64 0) []) (f a0))
 |_=>none
def f_cpSS (es:List V):List V:=II true (unII es)
def IsIIs (es:List V):Prop:=∃xss,es=II false xss∧xss.length≤2147483647∧∀xs∈xss,xs.length≤2147483647
set_option maxHeartbeats 1000000 in
set_option maxRecDepth 100000 in
theorem s_laws_toInt64SS:Sat Try.prog 20 (c_m_m f_cpSS IsIIs):=by
 intro args ps r h hp
 unfold c_m_m at h
 split at h
 ·rename_i a0
  simp only [Option.some.injEq,Prod.mk.injEq] at h
  obtain ⟨rfl,rfl⟩:=h
  obtain ⟨xss,hes,hl1,hl2⟩:IsIIs a0:=(alls_cons.1 hp).1
  have hel:a0.length=xss.length:=by rw [hes,II_length]
  have hf0:f_cpSS a0=II true xss:=by rw [f_cpSS,hes,unII_II]
  generalize H_same:same=F_same
  generalize H_IsIs:IsIs=F_IsIs
  refine fnOk_ofI (T:=tab) (B:=[(19,c_laws_toInt64S F_same F_IsIs)]) (Bi:=[]) [0,2,3,4] Try.func20 rfl rfl (by kernel_rfl) (Nat.le_of_ble_eq_true rfl) mixed tabOk (by subst H_same H_IsIs;exact (bookCons s_laws_toInt64S bookNil)) (by subst H_same H_IsIs;exact bookINil) (by kernel_rfl) ?_
  intro L lp rr hL hr hf hlp
  conv=>cbv
  simp only [stdEqs hL,hel,true_and]
  refine ⟨by omega,by omega,by omega,?_⟩
  refine hlp (List V×Int) _ _ _ [0,3,4] (fun x=>[(0,none,.val (.slc false 22 (.slc false 2 (.int .i64 0) []) a0)),(3,none,.val (.slc true 22 (.slc true 2 (.int .i64 0) []) x.1)),(4,none,.val (.int .i64 x.2))])
   (fun x=>0≤x.2∧x.2≤xss.length∧x.1=II true (xss.take x.2.toNat++List.replicate (xss.length-x.2.toNat) [])) (fun x=>(xss.length-x.2).toNat) ((_,0)) (by subst hL;rfl) ?_ ?_
  ·simp [II_replicate]
  rintro ⟨es,i⟩ ⟨i0,i1,hI⟩ hfx ag hag
  conv=>cbv
  simp only at i0 i1 hI
  have hl:es.length=xss.length:=by rw [hI,II_length];simp;omega
  subst hes
  simp only [stdEqs hL,hel,hl,II_getD,ok_ints,toL_slc,I_frzs,imp_self,true_and,decide_eq_true_eq,decide_eq_false_iff_not]
  subst H_same H_IsIs
  refine ⟨fun h=> ?_,fun h=> ?_⟩
  ·have hm:xss.getD i.toNat []∈xss:=by
    rw [List.getD_eq_getElem?_getD,List.getElem?_eq_getElem (by omega)]
    exact List.getElem_mem _
   refine ⟨i0,by omega,⟨⟨_,rfl⟩,by rw [I_length];exact hl2 _ hm⟩,i0,by omega,by omega,by rw [hI,II_getD];exact .inl (ok_ints _ _ _),?_⟩
   rw [wrap_id (n:=i+1) (by omega) (by omega)]
   refine hag (_,i+1) ⟨by simp only;omega,by simp only;omega,?_⟩ (by simp only;omega)
   simp only [toNat_succ i0,same]
   rw [hI,II_set,fill_set [] [] (by omega)]
  ·rw [hr,hf0,hI,List.take_of_length_le (by omega),show xss.length-i.toNat=0 by omega]
   simp
 ·cases h
def c_G_G (f:List V→List V→List V×List V) (q:List V→List V→Prop):Contract:=fun
 |[.agg [.slc false 2 (.int .i64 0) a0,.slc false 22 (.slc false 2 (.int .i64 0) []) a1]]=>some ([q a0 a1],.agg [.slc true 2 (.int .i64 0) ((f a0 a1).1),.slc true 22 (.slc true 2 (.int .i64 0) []) ((f a0 a1).2)])
 |_=>none
def f_cpG (ws es:List V):List V×List V:=(ws,II true (unII es))
def q_cpG (ws es:List V):Prop:=IsIs ws∧IsIIs es
theorem IsIIs.isII {es:List V} (h:IsIIs es):IsII false es:=by
 obtain ⟨x,h,_⟩:=h
 exact ⟨x,h⟩
theorem IsIs.frz {es:List V} (h:IsIs es):V.frzs es=es:=by
 obtain ⟨⟨x,h⟩,_⟩:=h
 rw [h,I_frzs]
set_option maxHeartbeats 1000000 in
set_option maxRecDepth 100000 in
theorem s_laws_toGraph:Sat Try.prog 6 (c_G_G f_cpG q_cpG):=by
 intro args ps r h hp
 unfold c_G_G at h
 split at h
 ·rename_i a0 a1
  simp only [Option.some.injEq,Prod.mk.injEq] at h
  obtain ⟨rfl,rfl⟩:=h
  obtain ⟨h0,h1⟩:q_cpG a0 a1:=(alls_cons.1 hp).1
  have g0:=h0.frz
  have g1:=frzs_II h1.isII
  have hf0:f_cpG a0 a1=(a0,II true (unII a1)):=rfl
  generalize H_same:same=F_same
  generalize H_IsIs:IsIs=F_IsIs
  generalize H_f_cpSS:f_cpSS=F_f_cpSS
  generalize H_IsIIs:IsIIs=F_IsIIs
  refine fnOk_ofI (T:=tab) (B:=[(19,c_laws_toInt64S F_same F_IsIs),(20,c_m_m F_f_cpSS F_IsIIs)]) (Bi:=[]) [0,1,2,3] Try.func6 rfl rfl (by kernel_rfl) (Nat.le_of_ble_eq_true rfl) mixed tabOk (by subst H_same H_IsIs H_f_cpSS H_IsIIs;exact (bookCons s_laws_toInt64S (bookCons s_laws_toInt64SS bookNil))) (by subst H_same H_IsIs H_f_cpSS H_IsIIs;exact bookINil) (by kernel_rfl) ?_
  intro L lp rr hL hr hf hlp
  conv=>cbv
  simp only [stdEqs hL,g0,g1]
  subst H_same H_IsIs H_f_cpSS H_IsIIs
  rw [hr,hf0]
  exact ⟨h0,h1,rfl⟩
 ·cases h
def c_GG_b (f:List V→List V→List V→List V→Bool) (q:List V→List V→List V→List V→Prop):Contract:=fun
 |[.agg [.slc false 2 (.int .i64 0) a0,.slc false 22 (.slc false 2 (.int .i64 0) []) a1],.agg [.slc false 2 (.int .i64 0) a2,.slc false 22 (.slc false 2 (.int .i64 0) []) a3]]=>some ([q a0 a1 a2 a3],.bool (f a0 a1 a2 a3))
 |_=>none
def f_eqG (a0 a1 b0 b1:List V):Bool:=f0_eqI a0 b0&&f0_eqSS a1 b1
def q_eqG (a0 a1 b0 b1:List V):Prop:=q_eqI a0 b0∧q_eqSS a1 b1
theorem IsI.frz {es:List V} (h:IsI es):V.frzs es=es:=by
 obtain ⟨x,h⟩:=h
 rw [h,I_frzs]
set_option maxHeartbeats 1000000 in
set_option maxRecDepth 100000 in
theorem s_laws_eqGraph:Sat Try.prog 8 (c_GG_b f_eqG q_eqG):=by
 intro args ps r h hp
 unfold c_GG_b at h
 split at h
 ·rename_i a0 a1 b0 b1
  simp only [Option.some.injEq,Prod.mk.injEq] at h
  obtain ⟨rfl,rfl⟩:=h
  obtain ⟨h0,h1⟩:q_eqG a0 a1 b0 b1:=(alls_cons.1 hp).1
  have g:=h0.1.frz
  have g':=h0.2.frz
  have g2:=frzs_II h1.1
  have g2':=frzs_II h1.2
  have hf0:f_eqG a0 a1 b0 b1=(f0_eqI a0 b0&&f0_eqSS a1 b1):=rfl
  generalize H_f0_eqI:f0_eqI=F_f0_eqI
  generalize H_q_eqI:q_eqI=F_q_eqI
  generalize H_f0_eqSS:f0_eqSS=F_f0_eqSS
  generalize H_q_eqSS:q_eqSS=F_q_eqSS
  refine fnOk_ofI (T:=tab) (B:=[(30,c_laws_eqInt64S F_f0_eqI F_q_eqI),(31,c_eqSS F_f0_eqSS F_q_eqSS)]) (Bi:=[]) [0,1,2,3,4] Try.func8 rfl rfl (by kernel_rfl) (Nat.le_of_ble_eq_true rfl) mixed tabOk (by subst H_f0_eqI H_q_eqI H_f0_eqSS H_q_eqSS;exact (bookCons s_laws_eqInt64S (bookCons s_laws_eqInt64SS bookNil))) (by subst H_f0_eqI H_q_eqI H_f0_eqSS H_q_eqSS;exact bookINil) (by kernel_rfl) ?_
  intro L lp rr hL hr hf hlp
  conv=>cbv
  simp only [stdEqs hL,g,g',g2,g2']
  subst H_f0_eqI H_q_eqI H_f0_eqSS H_q_eqSS
  rw [hr,hf0]
  refine ⟨h0,fun h=> ?_,fun h=>⟨h1,fun h'=> ?_,fun h'=> ?_⟩⟩
  ·simp only [Bool.not_eq_true'] at h;rw [h];rfl
  ·simp only [Bool.not_eq_true',Bool.not_eq_false'] at h h';rw [h,h'];rfl
  ·simp only [Bool.not_eq_false'] at h h';rw [h,h'];rfl
 ·cases h
end Go.Ax
set_option linter.all false
namespace Go.Ax
open Go.Proofs
abbrev gI (l:List Int) (i:Int):Int:=l.getD i.toNat 0
def relab (a b:Int) (l:List Int):List Int:=l.map fun x=>if x=b then a else x
def iota (n:Nat):List Int:=tab' (fun i=>(i:Int)) n
theorem relab_len (a b:Int) (l:List Int):(relab a b l).length=l.length:=by simp [relab]
theorem relab_get (a b:Int) (l:List Int) (i:Nat) (h:i<l.length):(relab a b l).getD i 0=if l.getD i 0=b then a else l.getD i 0:=by
 simp only [relab,List.getD_eq_getElem?_getD,List.getElem?_map,List.getElem?_eq_getElem h,Option.map_some,Option.getD_some]
theorem iota_len (n:Nat):(iota n).length=n:=tab_len _ _
theorem iota_get (n i:Nat) (h:i<n):(iota n).getD i 0=i:=tab_get _ _ _ _ h
def e0 (e:List Int):Int:=e.getD 0 0
def e1 (e:List Int):Int:=e.getD 1 0
def EdIn (n:Nat) (e:List Int):Prop:=e.length=2∧0≤e0 e∧e0 e<n∧0≤e1 e∧e1 e<n
def lo (lab e:List Int):Int:=min (gI lab (e0 e)) (gI lab (e1 e))
def hi (lab e:List Int):Int:=max (gI lab (e0 e)) (gI lab (e1 e))
def uni (lab e:List Int):List Int:=relab (lo lab e) (hi lab e) lab
def uniAll (lab:List Int) (es:List (List Int)):List Int:=es.foldl uni lab
structure LabOk (n:Nat) (lab:List Int):Prop where
 len:lab.length=n
 nn:∀i,i<n→0≤lab.getD i 0
 le:∀i,i<n→lab.getD i 0≤i
 idem:∀i,i<n→gI lab (lab.getD i 0)=lab.getD i 0
theorem LabOk.iota (n:Nat):LabOk n (iota n):=
 ⟨iota_len n,fun i h=>by rw [iota_get _ _ h];omega,fun i h=>by rw [iota_get _ _ h];omega,fun i h=>by rw [iota_get _ _ h,gI,Int.toNat_natCast,iota_get _ _ h]⟩
def cntR (lab:List Int):Nat→Nat
 |0=>0
 |k+1=>cntR lab k+(if lab.getD k 0=k then 1 else 0)
theorem cntR_le (lab:List Int):∀{i j:Nat},i≤j→cntR lab i≤cntR lab j
 |i,0,h=>by
  have:i=0:=by omega
  rw [this]
  exact Nat.le_refl _
 |i,j+1,h=>by
  by_cases hij:i=j+1
  ·subst hij;exact Nat.le_refl _
  ·have:=cntR_le lab (i:=i) (j:=j) (by omega)
   simp only [cntR];omega
theorem cntR_bound (lab:List Int):∀k,cntR lab k≤k
 |0=>Nat.le_refl _
 |k+1=>by
  have:=cntR_bound lab k
  simp only [cntR]
  split<;>omega
theorem cntR_iota (n:Nat):∀k,k≤n→cntR (iota n) k=k
 |0,_=>rfl
 |k+1,h=>by
  simp only [cntR,cntR_iota n k (by omega),iota_get n k (by omega)]
  simp
theorem LabOk.pos {n:Nat} {lab:List Int} (h:LabOk n lab) (hn:0<n):0<cntR lab n:=by
 have h0:lab.getD 0 0=0:=by have:=h.nn 0 hn;have:=h.le 0 hn;omega
 have h1:cntR lab 1=1:=by simp only [cntR,h0];rfl
 have:=cntR_le lab (show 1≤n by omega)
 omega
theorem uni_ok {n:Nat} {lab e:List Int} (h:LabOk n lab) (he:EdIn n e):LabOk n (uni lab e):=by
 obtain ⟨_,a1,a2,b1,b2⟩:=he
 have ha:=h.nn (e0 e).toNat (by omega)
 have hb:=h.nn (e1 e).toNat (by omega)
 have hal:=h.le (e0 e).toNat (by omega)
 have hbl:=h.le (e1 e).toNat (by omega)
 have hai:=h.idem (e0 e).toNat (by omega)
 have hbi:=h.idem (e1 e).toNat (by omega)
 have hlo:lo lab e=gI lab (e0 e)∧hi lab e=gI lab (e1 e)∧gI lab (e0 e)≤gI lab (e1 e)∨lo lab e=gI lab (e1 e)∧hi lab e=gI lab (e0 e)∧gI lab (e1 e)≤gI lab (e0 e):=by
  simp only [lo,hi];omega
 have key:∀a b:Int,0≤a→a≤b→b<n→gI lab a=a→gI lab b=b→LabOk n (relab a b lab):=by
  intro a b h1 h2 h3 h4 h5
  refine ⟨by rw [relab_len,h.len],fun i hi=> ?_,fun i hi=> ?_,fun i hi=> ?_⟩
  ·rw [relab_get _ _ _ _ (by rw [h.len];exact hi)]
   split
   ·exact h1
   ·exact h.nn i hi
  ·rw [relab_get _ _ _ _ (by rw [h.len];exact hi)]
   have:=h.le i hi
   split
   ·omega
   ·exact this
  ·rw [relab_get _ _ _ _ (by rw [h.len];exact hi)]
   have h6:=h.le i hi
   have h7:=h.nn i hi
   split
   ·rw [gI,relab_get _ _ _ _ (by rw [h.len];omega)]
    split
    ·rfl
    ·exact h4
   ·rename_i hne
    rw [gI,relab_get _ _ _ _ (by rw [h.len];omega)]
    rw [show lab.getD (lab.getD i 0).toNat 0=lab.getD i 0 from h.idem i hi,if_neg hne]
 rcases hlo with ⟨h1,h2,h3⟩|⟨h1,h2,h3⟩
 ·unfold uni;rw [h1,h2]
  exact key _ _ ha h3 (by unfold gI;omega) hai hbi
 ·unfold uni;rw [h1,h2]
  exact key _ _ hb h3 (by unfold gI;omega) hbi hai
theorem relab_self (a:Int) (l:List Int):relab a a l=l:=by
 have:(fun x:Int=>if x=a then a else x)=id:=by
  funext x
  split
  ·rename_i h;rw [h];rfl
  ·rfl
 rw [relab,this,List.map_id]
theorem relab_cnt {n:Nat} {lab:List Int} (h:LabOk n lab) {a b:Int} (h1:0≤a) (h2:a<b) (h3:b<n) (h4:gI lab a=a) (h5:gI lab b=b):
 ∀k,k≤n→cntR (relab a b lab) k+(if b<k then 1 else 0)=cntR lab k
 |0,_=>by simp [cntR];omega
 |k+1,hk=>by
  have ih:=relab_cnt h h1 h2 h3 h4 h5 k (by omega)
  have hg:=relab_get a b lab k (by rw [h.len];omega)
  simp only [cntR,hg]
  by_cases hkb:(k:Int)=b
  ·subst hkb
   rw [gI,Int.toNat_natCast] at h5
   rw [h5,if_pos rfl,if_pos rfl,if_neg (by omega),if_pos (by omega)]
   rw [if_neg (by omega)] at ih
   omega
  ·by_cases hlb:lab.getD k 0=b
   ·have:¬lab.getD k 0=(k:Int):=by omega
    rw [if_pos hlb,if_neg this]
    have hka:¬a=(k:Int):=by
     intro e
     subst e
     rw [gI,Int.toNat_natCast] at h4
     omega
    rw [if_neg hka]
    split<;>(split at ih)<;>omega
   ·rw [if_neg hlb]
    split<;>(split)<;>(split at ih)<;>omega
def cntU:List Int→List (List Int)→Nat
 |_,[]=>0
 |lab,e::es=>(if gI lab (e0 e)=gI lab (e1 e) then 0 else 1)+cntU (uni lab e) es
theorem uniAll_cnt {n:Nat}:∀(es:List (List Int)) (lab:List Int),LabOk n lab→(∀e∈es,EdIn n e)→LabOk n (uniAll lab es)∧cntR (uniAll lab es) n+cntU lab es=cntR lab n
 |[],lab,h,_=>⟨h,rfl⟩
 |e::es,lab,h,he=>by
  have hE:=he e (by simp)
  obtain ⟨i1,i2⟩:=uniAll_cnt es (uni lab e) (uni_ok h hE) (fun x hx=>he x (by simp [hx]))
  refine ⟨i1,?_⟩
  show cntR (uniAll (uni lab e) es) n+_=_
  simp only [cntU]
  obtain ⟨_,a1,a2,b1,b2⟩:=hE
  by_cases hab:gI lab (e0 e)=gI lab (e1 e)
  ·have:uni lab e=lab:=by
    unfold uni lo hi
    rw [hab,show min (gI lab (e1 e)) (gI lab (e1 e))=gI lab (e1 e) by omega,show max (gI lab (e1 e)) (gI lab (e1 e))=gI lab (e1 e) by omega,relab_self]
   rw [if_pos hab,this]
   rw [this] at i2
   omega
  ·rw [if_neg hab]
   have ha:=h.nn (e0 e).toNat (by omega)
   have hb:=h.nn (e1 e).toNat (by omega)
   have hal:=h.le (e0 e).toNat (by omega)
   have hbl:=h.le (e1 e).toNat (by omega)
   have hai:=h.idem (e0 e).toNat (by omega)
   have hbi:=h.idem (e1 e).toNat (by omega)
   have key:cntR (uni lab e) n+1=cntR lab n:=by
    rcases (by omega:gI lab (e0 e)<gI lab (e1 e)∨gI lab (e1 e)<gI lab (e0 e)) with hlt|hlt
    ·have:=relab_cnt h (a:=gI lab (e0 e)) (b:=gI lab (e1 e)) ha hlt (by unfold gI;omega) hai hbi n (Nat.le_refl _)
     rw [if_pos (by unfold gI;omega)] at this
     rw [←this,uni,lo,hi,show min (gI lab (e0 e)) (gI lab (e1 e))=gI lab (e0 e) by omega,show max (gI lab (e0 e)) (gI lab (e1 e))=gI lab (e1 e) by omega]
    ·have:=relab_cnt h (a:=gI lab (e1 e)) (b:=gI lab (e0 e)) hb hlt (by unfold gI;omega) hbi hai n (Nat.le_refl _)
     rw [if_pos (by unfold gI;omega)] at this
     rw [←this,uni,lo,hi,show min (gI lab (e0 e)) (gI lab (e1 e))=gI lab (e1 e) by omega,show max (gI lab (e0 e)) (gI lab (e1 e))=gI lab (e0 e) by omega]
   omega
theorem cntU_le:∀(es:List (List Int)) (lab:List Int),cntU lab es≤es.length
 |[],_=>by simp [cntU]
 |e::es,lab=>by
  have:=cntU_le es (uni lab e)
  simp only [cntU,List.length_cons]
  split<;>omega
def acy:List Int→List (List Int)→Bool
 |_,[]=>true
 |lab,e::es=> !(gI lab (e0 e)==gI lab (e1 e))&&acy (relab (gI lab (e0 e)) (gI lab (e1 e)) lab) es
def SameP (n:Nat) (l l':List Int):Prop:=l.length=n∧l'.length=n∧∀i j,i<n→j<n→(l.getD i 0=l.getD j 0↔l'.getD i 0=l'.getD j 0)
theorem relab_eq {n:Nat} {l:List Int} (hl:l.length=n) {x y:Nat} (hx:x<n) (hy:y<n) {a b:Int} (hab:a=l.getD x 0∧b=l.getD y 0∨a=l.getD y 0∧b=l.getD x 0) {i j:Nat} (hi:i<n) (hj:j<n):
 (relab a b l).getD i 0=(relab a b l).getD j 0↔(l.getD i 0=l.getD j 0∨(l.getD i 0=l.getD x 0∧l.getD j 0=l.getD y 0)∨(l.getD i 0=l.getD y 0∧l.getD j 0=l.getD x 0)):=by
 rw [relab_get _ _ _ _ (by omega),relab_get _ _ _ _ (by omega)]
 rcases hab with ⟨rfl,rfl⟩|⟨rfl,rfl⟩
 ·split<;>split<;>omega
 ·split<;>split<;>omega
theorem SameP.step {n:Nat} {l l':List Int} (h:SameP n l l') {e:List Int} (he:EdIn n e):SameP n (relab (gI l (e0 e)) (gI l (e1 e)) l) (uni l' e):=by
 obtain ⟨h1,h2,h3⟩:=h
 obtain ⟨_,a1,a2,b1,b2⟩:=he
 refine ⟨by rw [relab_len,h1],by rw [uni,relab_len,h2],fun i j hi hj=> ?_⟩
 have hx:(e0 e).toNat<n:=by omega
 have hy:(e1 e).toNat<n:=by omega
 rw [relab_eq h1 hx hy (.inl ⟨rfl,rfl⟩) hi hj,uni,relab_eq h2 hx hy (by simp only [lo,Go.Ax.hi,gI];omega) hi hj,h3 i j hi hj,h3 i _ hi hx,h3 j _ hj hy,h3 i _ hi hy,h3 j _ hj hx]
theorem acy_cnt {n:Nat}:∀(es:List (List Int)) (l l':List Int),SameP n l l'→(∀e∈es,EdIn n e)→(acy l es=true↔cntU l' es=es.length)
 |[],_,_,_,_=>by simp [acy,cntU]
 |e::es,l,l',h,he=>by
  have hE:=he e (by simp)
  have ih:=acy_cnt es _ _ (h.step hE) (fun x hx=>he x (by simp [hx]))
  obtain ⟨_,a1,a2,b1,b2⟩:=hE
  have hp:=h.2.2 (e0 e).toNat (e1 e).toNat (by omega) (by omega)
  have hle:=cntU_le es (uni l' e)
  simp only [acy,cntU,Bool.and_eq_true,ih,List.length_cons,Bool.not_eq_true',beq_eq_false_iff_ne,ne_eq,gI,hp]
  split<;>simp_all<;>omega
def rn (lab:List Int):List Int:=lab.map fun x=>(cntR lab x.toNat:Int)
theorem rn_len (lab:List Int):(rn lab).length=lab.length:=by simp [rn]
theorem rn_get (lab:List Int) (i:Nat) (h:i<lab.length):(rn lab).getD i 0=cntR lab (lab.getD i 0).toNat:=by
 simp only [rn,List.getD_eq_getElem?_getD,List.getElem?_map,List.getElem?_eq_getElem h,Option.map_some,Option.getD_some]
def labs (n:Nat) (es:List (List Int)):List Int:=rn (uniAll (iota n) es)
def maxGo:List Int→Int→Int
 |[],m=>m
 |x::l,m=>maxGo l (max m x)
def maxL:List Int→Int
 |[]=>0
 |x::l=>maxGo l x
theorem maxGo_spec:∀(l:List Int) (m:Int),m≤maxGo l m∧(∀x∈l,x≤maxGo l m)∧(maxGo l m=m∨maxGo l m∈l)
 |[],m=>⟨Int.le_refl _,fun x hx=>(by cases hx),.inl rfl⟩
 |y::l,m=>by
  obtain ⟨h1,h2,h3⟩:=maxGo_spec l (max m y)
  simp only [maxGo]
  refine ⟨by omega,fun x hx=> ?_,?_⟩
  ·rcases List.mem_cons.1 hx with rfl|hx
   ·omega
   ·exact h2 x hx
  ·rcases h3 with h3|h3
   ·rw [h3]
    rcases (by omega:max m y=m∨max m y=y) with h|h
    ·exact .inl h
    ·right;rw [h];simp
   ·right;exact List.mem_cons_of_mem _ h3
theorem maxL_spec {l:List Int} (h:l≠[]):(∀x∈l,x≤maxL l)∧maxL l∈l:=by
 cases l with
 |nil=>exact absurd rfl h
 |cons y l=>
  obtain ⟨h1,h2,h3⟩:=maxGo_spec l y
  refine ⟨fun x hx=> ?_,?_⟩
  ·rcases List.mem_cons.1 hx with rfl|hx
   ·exact h1
   ·exact h2 x hx
  ·simp only [maxL]
   rcases h3 with h3|h3
   ·rw [h3];simp
   ·exact List.mem_cons_of_mem _ h3
theorem last_root {lab:List Int}:∀k,0<cntR lab k→∃r,r<k∧lab.getD r 0=r∧cntR lab r+1=cntR lab k
 |0,h=>by simp [cntR] at h
 |k+1,h=>by
  simp only [cntR] at h ⊢
  by_cases hk:lab.getD k 0=k
  ·exact ⟨k,by omega,hk,by rw [if_pos hk]⟩
  ·rw [if_neg hk] at h ⊢
   obtain ⟨r,h1,h2,h3⟩:=last_root k (by omega)
   exact ⟨r,by omega,h2,by omega⟩
theorem max_rn {n:Nat} {lab:List Int} (h:LabOk n lab) (hn:0<n):maxL (rn lab)+1=cntR lab n:=by
 have hne:rn lab≠[]:=by
  intro e
  have:=rn_len lab
  rw [e,h.len] at this
  simp at this
  omega
 obtain ⟨h1,h2⟩:=maxL_spec hne
 obtain ⟨r,r1,r2,r3⟩:=last_root n (h.pos hn)
 have hr:(rn lab).getD r 0=cntR lab r:=by rw [rn_get _ _ (by rw [h.len];exact r1),r2,Int.toNat_natCast]
 have hm:(cntR lab r:Int)≤maxL (rn lab):=h1 _ (by
  rw [←hr,List.getD_eq_getElem?_getD,List.getElem?_eq_getElem (by rw [rn_len,h.len];exact r1)]
  exact List.getElem_mem _)
 have hx:maxL (rn lab)≤cntR lab r:=by
  obtain ⟨x,hx1,hx2⟩:=List.mem_map.1 h2
  obtain ⟨i,hi,rfl⟩:=List.mem_iff_getElem.1 hx1
  rw [h.len] at hi
  have e:lab[i]=lab.getD i 0:=by rw [List.getD_eq_getElem?_getD,List.getElem?_eq_getElem];rfl
  rw [←hx2,e]
  have g1:=h.nn i hi
  have g2:=h.le i hi
  have g3:=h.idem i hi
  have g4:cntR lab ((lab.getD i 0).toNat+1)=cntR lab (lab.getD i 0).toNat+1:=by
   simp only [cntR]
   rw [if_pos (by rw [show lab.getD (lab.getD i 0).toNat 0=lab.getD i 0 from g3];omega)]
  have g5:=cntR_le lab (show (lab.getD i 0).toNat+1≤n by omega)
  omega
 omega
def lexLt:List Int→List Int→Bool
 |x::a,y::b=>bif !(x==y) then decide (x<y) else lexLt a b
 |[],_::_=>true
 |_,[]=>false
def edOk (n:Nat) (p:Option (List Int)) (e:List Int):Bool:=e.length==2&&decide (0≤e0 e)&&decide (e0 e<e1 e)&&decide (e1 e<n)&&(match p with
 |none=>true
 |some x=>lexLt x e)
def edsOk (n:Nat):Option (List Int)→List (List Int)→Bool
 |_,[]=>true
 |p,e::es=>edOk n p e&&edsOk n (some e) es
def isGr (ws:List Int) (es:List (List Int)):Bool:=decide (1≤ws.length)&&decide (ws.length≤40)&&within ws (-1000) 1000&&edsOk ws.length none es&&acy (iota ws.length) es
theorem edOk_in {n:Nat} {p:Option (List Int)} {e:List Int} (h:edOk n p e=true):EdIn n e∧e0 e<e1 e:=by
 simp only [edOk,Bool.and_eq_true,decide_eq_true_eq,beq_iff_eq] at h
 obtain ⟨⟨⟨⟨h1,h2⟩,h3⟩,h4⟩,_⟩:=h
 exact ⟨⟨h1,h2,by omega,by omega,h4⟩,h3⟩
theorem edsOk_in {n:Nat}:∀{es:List (List Int)} {p:Option (List Int)},edsOk n p es=true→∀e∈es,EdIn n e∧e0 e<e1 e
 |[],_,_,e,he=>by cases he
 |x::es,p,h,e,he=>by
  simp only [edsOk,Bool.and_eq_true] at h
  rcases List.mem_cons.1 he with rfl|he
  ·exact edOk_in h.1
  ·exact edsOk_in h.2 e he
theorem comp_iff {n:Nat} {es:List (List Int)} (hn:0<n) (he:∀e∈es,EdIn n e):LabOk n (uniAll (iota n) es)∧maxL (labs n es)+1=cntR (uniAll (iota n) es) n∧cntR (uniAll (iota n) es) n+cntU (iota n) es=n∧(acy (iota n) es=true↔maxL (labs n es)+1+es.length=n)∧(acy (iota n) es=true→es.length<n):=by
 obtain ⟨h1,h2⟩:=uniAll_cnt es (iota n) (LabOk.iota n) he
 rw [cntR_iota n n (Nat.le_refl _)] at h2
 have h3:=max_rn h1 hn
 have h4:acy (iota n) es=true↔cntU (iota n) es=es.length:=acy_cnt es _ _ ⟨iota_len n,iota_len n,fun _ _ _ _=>Iff.rfl⟩ he
 have h5:=cntU_le es (iota n)
 have h6:=h1.pos hn
 refine ⟨h1,h3,h2,?_,?_⟩
 ·rw [h4]
  unfold labs
  omega
 ·rw [h4]
  omega
end Go.Ax
set_option linter.all false
namespace Go.Ax
open Go.Proofs
theorem bif_and (a b:Bool):(bif a then b else false)=(a&&b):=by cases a<;>rfl
theorem bif_or (a b:Bool):(bif a then true else b)=(a||b):=by cases a<;>rfl
def c_i_b (f:Int→Bool) (q:Int→Prop):Contract:=fun
 |[.int .i64 a0]=>some ([q a0],.bool (f a0))
 |_=>none
def f_nan (_:Int):Bool:=false
def always1 (_:Int):Prop:=True
set_option maxHeartbeats 1000000 in
set_option maxRecDepth 100000 in
theorem s_isNaN:Sat Try.prog 57 (c_i_b f_nan always1):=by
 intro args ps r h hp
 unfold c_i_b at h
 split at h
 ·rename_i a0
  simp only [Option.some.injEq,Prod.mk.injEq] at h
  obtain ⟨rfl,rfl⟩:=h
  refine fnOk_ofI (T:=tab) (B:=[]) (Bi:=[]) [0,2] Try.func57 rfl rfl (by kernel_rfl) (Nat.le_of_ble_eq_true rfl) mixed tabOk (by exact bookNil) (by exact bookINil) (by kernel_rfl) ?_
  intro L lp rr hL hr hf hlp
  conv=>cbv
  simp only [stdEqs hL]
  rw [hr,f_nan]
  simp
 ·cases h
def cmp3 (x y:Int):Int:=bif decide (x<y) then-1 else bif decide (y<x) then 1 else 0
set_option maxHeartbeats 1000000 in
set_option maxRecDepth 100000 in
theorem s_cmpCompare:Sat Try.prog 54 (c_ii_i cmp3 always):=by
 intro args ps r h hp
 unfold c_ii_i at h
 split at h
 ·rename_i a0 a1
  simp only [Option.some.injEq,Prod.mk.injEq] at h
  obtain ⟨rfl,rfl⟩:=h
  have hc:cmp3 a0 a1=bif decide (a0<a1) then-1 else bif decide (a1<a0) then 1 else 0:=rfl
  generalize H_f_nan:f_nan=F_f_nan
  generalize H_always1:always1=F_always1
  refine fnOk_ofI (T:=tab) (B:=[(57,c_i_b F_f_nan F_always1)]) (Bi:=[]) [0,1,4,5,6] Try.func54 rfl rfl (by kernel_rfl) (Nat.le_of_ble_eq_true rfl) mixed tabOk (by subst H_f_nan H_always1;exact (bookCons s_isNaN bookNil)) (by subst H_f_nan H_always1;exact bookINil) (by kernel_rfl) ?_
  intro L lp rr hL hr hf hlp
  conv=>cbv
  simp only [stdEqs hL]
  subst H_f_nan H_always1
  rw [hr,hc]
  simp only [f_nan,always1,true_and,Bool.false_eq_true,false_imp_iff,true_imp_iff,decide_eq_true_eq,decide_eq_false_iff_not]
  refine ⟨fun h=> ?_,fun h=>⟨fun h2=> ?_,fun h2=> ?_⟩⟩
  ·rw [decide_eq_true h];rfl
  ·rw [decide_eq_false h,decide_eq_true h2];rfl
  ·rw [decide_eq_false h,decide_eq_false h2];rfl
 ·cases h
def cmpL:List Int→List Int→Int
 |x::a,y::b=>bif !(cmp3 x y==0) then cmp3 x y else cmpL a b
 |_::_,[]=>1
 |[],b=>bif decide ((0:Int)<b.length) then-1 else 0
theorem cmpL_lt:∀a b:List Int,decide (0≤cmpL a b)= !lexLt a b
 |[],[]=>rfl
 |[],y::b=>by simp [cmpL,lexLt]
 |x::a,[]=>rfl
 |x::a,y::b=>by
  simp only [cmpL,lexLt]
  rcases (by omega:x<y∨x=y∨y<x) with h|h|h
  ·have h1:cmp3 x y= -1:=by rw [cmp3,decide_eq_true h];rfl
   have h2:(x==y)=false:=by simp;omega
   simp [h1,h2,h]
  ·subst h
   have h1:cmp3 x x=0:=by rw [cmp3,decide_eq_false (Int.lt_irrefl x)];rfl
   simp [h1,cmpL_lt a b]
  ·have h1:cmp3 x y=1:=by rw [cmp3,decide_eq_false (by omega),decide_eq_true h];rfl
   have h2:(x==y)=false:=by simp;omega
   have h3:¬x<y:=by omega
   simp [h1,h2,h3]
def c_ll_i (f:List V→List V→Int) (q:List V→List V→Prop):Contract:=fun
 |[.slc false 2 (.int .i64 0) a0,.slc false 2 (.int .i64 0) a1]=>some ([q a0 a1],.int .i64 (f a0 a1))
 |_=>none
def f_cmpL (a b:List V):Int:=cmpL (unI a) (unI b)
def q_II (a b:List V):Prop:=IsI a∧IsI b
set_option maxHeartbeats 1000000 in
set_option maxRecDepth 100000 in
theorem s_slicesCompare:Sat Try.prog 43 (c_ll_i f_cmpL q_II):=by
 intro args ps r h hp
 unfold c_ll_i at h
 split at h
 ·rename_i a0 a1
  simp only [Option.some.injEq,Prod.mk.injEq] at h
  obtain ⟨rfl,rfl⟩:=h
  obtain ⟨⟨xs,hxs⟩,ys,hys⟩:q_II a0 a1:=(alls_cons.1 hp).1
  have hxl:a0.length=xs.length:=by rw [hxs,I_length]
  have hyl:a1.length=ys.length:=by rw [hys,I_length]
  have hf0:f_cmpL a0 a1=cmpL xs ys:=by rw [f_cmpL,hxs,hys,unI_I,unI_I]
  obtain ⟨m,hm⟩:∃m:Int,m=a0.length:=⟨_,rfl⟩
  generalize H_cmp3:cmp3=F_cmp3
  generalize H_always:always=F_always
  refine fnOk_ofI (T:=tab) (B:=[(54,c_ii_i F_cmp3 F_always)]) (Bi:=[]) [0,1,4,5,6,7,8,9,10,11] Try.func43 rfl rfl (by kernel_rfl) (Nat.le_of_ble_eq_true rfl) mixed tabOk (by subst H_cmp3 H_always;exact (bookCons s_cmpCompare bookNil)) (by subst H_cmp3 H_always;exact bookINil) (by kernel_rfl) ?_
  intro L lp rr hL hr hf hlp
  have hlen:=hf.1.1
  conv=>cbv
  refine hlp (Int) _ _ _ [0,1,9,10,11] (fun x=>[(0,none,.val (.slc false 2 (.int .i64 0) a0)),(1,none,.val (.slc false 2 (.int .i64 0) a1)),(9,none,.val (.slc false 2 (.int .i64 0) a0)),(10,none,.val (.int .i64 m)),(11,none,.val (.int .i64 x))])
   (fun x=>0≤x∧x≤xs.length∧x≤ys.length∧cmpL xs ys=cmpL (xs.drop x.toNat) (ys.drop x.toNat)) (fun x=>(xs.length-x).toNat) (0) (by subst hL hm;rfl) ?_ ?_
  ·simp
  rintro i ⟨i0,i1,i2,hI⟩ hfx ag hag
  conv=>cbv
  rw [hxl] at hm hlen
  subst hxs hys hm
  simp only [stdEqs hL,I_length,I_getD,ok_int,toI_int,imp_self,true_and,decide_eq_true_eq,decide_eq_false_iff_not]
  subst H_cmp3 H_always
  refine ⟨fun h=> ?_,fun h=>⟨fun h2=> ?_,fun h2=> ?_⟩⟩
  ·have hd:xs.drop i.toNat=xs.getD i.toNat 0::xs.drop (i.toNat+1):=drop_cons 0 (by omega)
   refine ⟨i0,by omega,fun h2=> ?_,fun h2=>⟨i0,by omega,trivial,fun h3=> ?_,fun h3=> ?_⟩⟩
   ·have e2:ys.drop i.toNat=[]:=List.drop_eq_nil_of_le (by omega)
    rw [hr,hf0,hI,hd,e2];rfl
   ·have hd2:ys.drop i.toNat=ys.getD i.toNat 0::ys.drop (i.toNat+1):=drop_cons 0 (by omega)
    rw [hr,hf0,hI,hd,hd2,cmpL,h3];rfl
   ·have hd2:ys.drop i.toNat=ys.getD i.toNat 0::ys.drop (i.toNat+1):=drop_cons 0 (by omega)
    rw [wrap_id (n:=i+1) (by omega) (by omega)]
    refine hag (i+1) ⟨by omega,by omega,by omega,?_⟩ (by omega)
    rw [toNat_succ i0,hI,hd,hd2,cmpL,h3];rfl
  ·have e1:xs.drop i.toNat=[]:=List.drop_eq_nil_of_le (by omega)
   have e2:(0:Int)<(ys.drop i.toNat).length:=by rw [List.length_drop];omega
   rw [hr,hf0,hI,e1,cmpL,decide_eq_true e2];rfl
  ·have e1:xs.drop i.toNat=[]:=List.drop_eq_nil_of_le (by omega)
   have e2:¬(0:Int)<(ys.drop i.toNat).length:=by rw [List.length_drop];omega
   rw [hr,hf0,hI,e1,cmpL,decide_eq_false e2];rfl
 ·cases h
def c_ll_b (f:List V→List V→Bool) (q:List V→List V→Prop):Contract:=fun
 |[.slc false 2 (.int .i64 0) a0,.slc false 2 (.int .i64 0) a1]=>some ([q a0 a1],.bool (f a0 a1))
 |_=>none
def f_lexLt (a b:List V):Bool:=lexLt (unI a) (unI b)
set_option maxHeartbeats 1000000 in
set_option maxRecDepth 100000 in
theorem s_spec_l01Less:Sat Try.prog 37 (c_ll_b f_lexLt q_II):=by
 intro args ps r h hp
 unfold c_ll_b at h
 split at h
 ·rename_i a0 a1
  simp only [Option.some.injEq,Prod.mk.injEq] at h
  obtain ⟨rfl,rfl⟩:=h
  obtain ⟨⟨xs,hxs⟩,ys,hys⟩:q_II a0 a1:=(alls_cons.1 hp).1
  have hxl:a0.length=xs.length:=by rw [hxs,I_length]
  have hyl:a1.length=ys.length:=by rw [hys,I_length]
  have hf0:f_lexLt a0 a1=lexLt xs ys:=by rw [f_lexLt,hxs,hys,unI_I,unI_I]
  refine fnOk_ofI (T:=tab) (B:=[]) (Bi:=[]) [0,1,4,5] Try.func37 rfl rfl (by kernel_rfl) (Nat.le_of_ble_eq_true rfl) mixed tabOk (by exact bookNil) (by exact bookINil) (by kernel_rfl) ?_
  intro L lp rr hL hr hf hlp
  have hlen:=hf.1.1
  conv=>cbv
  refine hlp (Int) _ _ _ [0,1,5] (fun x=>[(0,none,.val (.slc false 2 (.int .i64 0) a0)),(1,none,.val (.slc false 2 (.int .i64 0) a1)),(5,none,.val (.int .i64 x))])
   (fun x=>0≤x∧x≤xs.length∧x≤ys.length∧lexLt xs ys=lexLt (xs.drop x.toNat) (ys.drop x.toNat)) (fun x=>(xs.length-x).toNat) (0) (by subst hL;rfl) ?_ ?_
  ·simp
  rintro i ⟨i0,i1,i2,hI⟩ hfx ag hag
  conv=>cbv
  rw [hxl] at hlen
  subst hxs hys
  simp only [stdEqs hL,I_length,I_getD,ok_int,toI_int,imp_self,true_and,bif_and,Bool.and_eq_true,Bool.and_eq_false_iff,decide_eq_true_eq,decide_eq_false_iff_not,Bool.not_eq_true',Bool.not_eq_false',beq_eq_false_iff_ne,beq_iff_eq,ne_eq]
  refine ⟨fun ⟨h,h2⟩=> ?_,fun h=> ?_⟩
  ·have hd:xs.drop i.toNat=xs.getD i.toNat 0::xs.drop (i.toNat+1):=drop_cons 0 (by omega)
   have hd2:ys.drop i.toNat=ys.getD i.toNat 0::ys.drop (i.toNat+1):=drop_cons 0 (by omega)
   refine ⟨i0,h,i0,h2,fun h3=>⟨i0,h,i0,h2,?_⟩,fun h3=> ?_⟩
   ·have h4:(xs.getD i.toNat 0==ys.getD i.toNat 0)=false:=by simpa using h3
    rw [hr,hf0,hI,hd,hd2,lexLt,h4];rfl
   ·have h4:(xs.getD i.toNat 0==ys.getD i.toNat 0)=true:=by simpa using h3
    rw [wrap_id (n:=i+1) (by omega) (by omega)]
    refine hag (i+1) ⟨by omega,by omega,by omega,?_⟩ (by omega)
    rw [toNat_succ i0,hI,hd,hd2,lexLt,h4];rfl
  ·rw [hr,hf0,hI]
   by_cases hx:i<xs.length
   ·have hd:xs.drop i.toNat=xs.getD i.toNat 0::xs.drop (i.toNat+1):=drop_cons 0 (by omega)
    have e2:ys.drop i.toNat=[]:=List.drop_eq_nil_of_le (by omega)
    rw [hd,e2,lexLt,decide_eq_false (by omega)]
   ·have e1:xs.drop i.toNat=[]:=List.drop_eq_nil_of_le (by omega)
    by_cases hy:i<ys.length
    ·have hd2:ys.drop i.toNat=ys.getD i.toNat 0::ys.drop (i.toNat+1):=drop_cons 0 (by omega)
     rw [e1,hd2,lexLt,decide_eq_true (by omega)]
    ·have e2:ys.drop i.toNat=[]:=List.drop_eq_nil_of_le (by omega)
     rw [e1,e2,lexLt,decide_eq_false (by omega)]
 ·cases h
def c_l_i (f:List V→Int) (q:List V→Prop):Contract:=fun
 |[.slc false 2 (.int .i64 0) a0]=>some ([q a0],.int .i64 (f a0))
 |_=>none
def f_maxL (a:List V):Int:=maxL (unI a)
def q_ne (a:List V):Prop:=IsI a∧a≠[]
set_option maxHeartbeats 1000000 in
set_option maxRecDepth 100000 in
theorem s_slicesMax:Sat Try.prog 44 (c_l_i f_maxL q_ne):=by
 intro args ps r h hp
 unfold c_l_i at h
 split at h
 ·rename_i a0
  simp only [Option.some.injEq,Prod.mk.injEq] at h
  obtain ⟨rfl,rfl⟩:=h
  obtain ⟨⟨xs,hxs⟩,hne⟩:q_ne a0:=(alls_cons.1 hp).1
  have hxl:a0.length=xs.length:=by rw [hxs,I_length]
  have hf0:f_maxL a0=maxL xs:=by rw [f_maxL,hxs,unI_I]
  have hpos:0<xs.length:=by
   cases xs with
   |nil=>exact absurd hxs hne
   |cons x l=>simp
  have hmx:maxL xs=maxGo (xs.drop 1) (xs.getD 0 0):=by
   cases xs with
   |nil=>simp at hpos
   |cons x l=>rfl
  refine fnOk_ofI (T:=tab) (B:=[]) (Bi:=[]) [0,2,3,4] Try.func44 rfl rfl (by kernel_rfl) (Nat.le_of_ble_eq_true rfl) mixed tabOk (by exact bookNil) (by exact bookINil) (by kernel_rfl) ?_
  intro L lp rr hL hr hf hlp
  have hlen:=hf.1.1
  conv=>cbv
  simp only [stdEqs hL,hxl]
  refine ⟨fun h=> ?_,fun h=>⟨by omega,by omega,?_⟩⟩
  ·simp only [decide_eq_true_eq] at h;omega
  obtain ⟨m0,hm0⟩:∃m0,a0.getD (Int.toNat 0) (.int .i64 0)= .int .i64 m0∧m0=xs.getD 0 0:=⟨_,by rw [hxs,I_getD];rfl,rfl⟩
  simp only [hm0.1,ok_int,toI_int,true_and]
  refine hlp (Int×Int) _ _ _ [0,3,4] (fun x=>[(0,none,.val (.slc false 2 (.int .i64 0) a0)),(3,none,.val (.int .i64 x.1)),(4,none,.val (.int .i64 x.2))])
   (fun x=>0≤x.2∧x.2≤xs.length∧maxL xs=maxGo (xs.drop x.2.toNat) x.1) (fun x=>(xs.length-x.2).toNat) ((m0,1)) (by subst hL;rfl) ?_ ?_
  ·exact ⟨by simp,by simp only;omega,by rw [hmx,hm0.2];rfl⟩
  rintro ⟨m,i⟩ ⟨i0,i1,hI⟩ hfx ag hag
  conv=>cbv
  simp only at i0 i1 hI
  rw [hxl] at hlen
  subst hxs
  simp only [stdEqs hL,I_length,I_getD,ok_int,toI_int,imp_self,true_and,decide_eq_true_eq,decide_eq_false_iff_not]
  refine ⟨fun h=>⟨i0,by omega,?_⟩,fun h=> ?_⟩
  ·rw [wrap_id (n:=i+1) (by omega) (by omega)]
   refine hag (_,i+1) ⟨by simp only;omega,by simp only;omega,?_⟩ (by simp only;omega)
   simp only [toNat_succ i0]
   rw [hI,drop_cons 0 (show i.toNat<xs.length by omega),maxGo]
  ·rw [hr,hf0,hI,List.drop_eq_nil_of_le (by omega)];rfl
 ·cases h
end Go.Ax
set_option linter.all false
namespace Go.Ax
open Go.Proofs
theorem iota_step (n i:Nat) (h:i<n):(iota i++List.replicate (n-i) 0).set i (i:Int)=iota (i+1)++List.replicate (n-(i+1)) 0:=by
 have:n-i=(n-(i+1))+1:=by omega
 rw [this,List.replicate_succ,set_at _ _ _ _ _ (iota_len i),iota,iota,tab_succ,List.append_assoc]
 rfl
theorem map_step (f g:List Int) (i:Nat) (hg:g.length=f.length) (h:i<f.length):(g.take i++f.drop i).set i (g.getD i 0)=g.take (i+1)++f.drop (i+1):=by
 rw [List.drop_eq_getElem_cons h,set_at _ _ _ _ _ (by rw [List.length_take];omega),List.take_succ_eq_append_getElem (by omega),List.getD_eq_getElem?_getD,List.getElem?_eq_getElem (by omega),List.append_assoc]
 rfl
theorem map_same (f g:List Int) (i:Nat) (hg:g.length=f.length) (h:i<f.length) (he:g.getD i 0=f.getD i 0):g.take i++f.drop i=g.take (i+1)++f.drop (i+1):=by
 rw [drop_cons 0 h,List.take_succ_eq_append_getElem (by omega),List.append_assoc]
 have:g[i]=g.getD i 0:=by rw [List.getD_eq_getElem?_getD,List.getElem?_eq_getElem (by omega)];rfl
 rw [this,he]
 rfl
theorem map_at (f g:List Int) (i:Nat) (hg:g.length=f.length) (h:i<f.length):(g.take i++f.drop i).getD i 0=f.getD i 0:=by
 rw [List.getD_eq_getElem?_getD,List.getElem?_append_right (by rw [List.length_take];omega),List.length_take,show i-min i g.length=0 by omega,List.getElem?_drop,Nat.add_zero,←List.getD_eq_getElem?_getD]
theorem map_before (f g:List Int) (i k:Nat) (hg:g.length=f.length) (h:i≤f.length) (hk:k<i):(g.take i++f.drop i).getD k 0=g.getD k 0:=by
 rw [List.getD_eq_getElem?_getD,List.getElem?_append_left (by rw [List.length_take];omega),List.getElem?_take_of_lt hk,←List.getD_eq_getElem?_getD]
theorem map_len (f g:List Int) (i:Nat) (hg:g.length=f.length) (h:i≤f.length):(g.take i++f.drop i).length=f.length:=by
 rw [List.length_append,List.length_take,List.length_drop];omega
theorem uniAll_snoc (lab:List Int) (es:List (List Int)) (e:List Int):uniAll lab (es++[e])=uni (uniAll lab es) e:=by
 simp [uniAll,List.foldl_append]
theorem toNat0:Int.toNat 0=0:=rfl
theorem toNat1:Int.toNat 1=1:=rfl
theorem mem_getD {xss:List (List Int)} {i:Nat} (h:i<xss.length):xss.getD i []∈xss:=by
 rw [List.getD_eq_getElem?_getD,List.getElem?_eq_getElem h]
 exact List.getElem_mem _
theorem take_in {n:Nat} {es:List (List Int)} (h:∀e∈es,EdIn n e) (k:Nat):∀e∈es.take k,EdIn n e:=fun e he=>h e (List.mem_of_mem_take he)
def c_im_l (f:Int→List V→List V) (q:Int→List V→Prop):Contract:=fun
 |[.int .i64 a0,.slc false 22 (.slc false 2 (.int .i64 0) []) a1]=>some ([q a0 a1],.slc true 2 (.int .i64 0) (f a0 a1))
 |_=>none
def f_labs (n:Int) (es:List V):List V:=I (labs n.toNat (unII es))
def q_labs (n:Int) (es:List V):Prop:=0≤n∧n≤2147483647∧∃ess,es=II false ess∧∀e∈ess,EdIn n.toNat e
set_option maxHeartbeats 1000000 in
set_option maxRecDepth 100000 in
theorem s_impl_labels:Sat Try.prog 45 (c_im_l f_labs q_labs):=by
 intro args ps r h hp
 unfold c_im_l at h
 split at h
 ·rename_i a0 a1
  simp only [Option.some.injEq,Prod.mk.injEq] at h
  obtain ⟨rfl,rfl⟩:=h
  obtain ⟨h0,h1,ess,hes,hed⟩:q_labs a0 a1:=(alls_cons.1 hp).1
  have hel:a1.length=ess.length:=by rw [hes,II_length]
  have hf0:f_labs a0 a1=I (labs a0.toNat ess):=by rw [f_labs,hes,unII_II]
  obtain ⟨m,hm⟩:∃m:Int,m=a1.length:=⟨_,rfl⟩
  refine fnOk_ofI (T:=tab) (B:=[]) (Bi:=[]) [0,1,4,5,6,8,9,10,11,12,13,17,18,26,27,28,59,60,76,77] Try.func45 rfl rfl (by kernel_rfl) (Nat.le_of_ble_eq_true rfl) mixed tabOk (by exact bookNil) (by exact bookINil) (by kernel_rfl) ?_
  intro L lp rr hL hr hf hlp
  have hlen:=hf.2.1.1
  conv=>cbv
  simp only [stdEqs hL]
  refine ⟨h0,by omega,h1,?_⟩
  have hl0:((List.replicate a0.toNat (V.int .i64 0)).length:Int)=a0:=by rw [List.length_replicate];omega
  simp only [hl0]
  refine hlp (List V×Int) _ _ _ [1,5,17,18] (fun x=>[(1,none,.val (.slc false 22 (.slc false 2 (.int .i64 0) []) a1)),(5,none,.val (.slc true 2 (.int .i64 0) x.1)),(17,none,.val (.int .i64 a0)),(18,none,.val (.int .i64 x.2))])
   (fun x=>0≤x.2∧x.2≤a0∧x.1=I (iota x.2.toNat++List.replicate (a0.toNat-x.2.toNat) 0)) (fun x=>(a0-x.2).toNat) ((_,0)) (by subst hL;rfl) ?_ ?_
  ·exact ⟨by simp,h0,by simp [iota,tab_zero]⟩
  rintro ⟨es,i⟩ ⟨i0,i1,hI⟩ hfx ag hag
  conv=>cbv
  simp only at i0 i1 hI
  have hl:es.length=a0.toNat:=by rw [hI,I_length,List.length_append,iota_len,List.length_replicate];omega
  simp only [stdEqs hL,hl,imp_self,true_and,decide_eq_true_eq,decide_eq_false_iff_not]
  refine ⟨fun h=>⟨i0,by omega,by omega,by rw [hI,I_getD,ok_int],?_⟩,fun h=> ?_⟩
  ·rw [wrap_id (n:=i+1) (by omega) (by omega)]
   refine hag (_,i+1) ⟨by simp only;omega,by simp only;omega,?_⟩ (by simp only;omega)
   simp only [toNat_succ i0]
   rw [hI,I_set,←iota_step _ _ (by omega)]
   congr 2
   omega
  have hes0:es=I (iota a0.toNat):=by
   rw [hI,show i.toNat=a0.toNat by omega,Nat.sub_self]
   simp
  clear hI hag
  have hel':(a1.length:Int)=m:=by rw [hm]
  simp only [hel']
  refine hlp (List V×Int) _ _ _ [5,26,27,28] (fun x=>[(5,none,.val (.slc true 2 (.int .i64 0) x.1)),(26,none,.val (.slc false 22 (.slc false 2 (.int .i64 0) []) a1)),(27,none,.val (.int .i64 m)),(28,none,.val (.int .i64 x.2))])
   (fun x=>0≤x.2∧x.2≤ess.length∧x.1=I (uniAll (iota a0.toNat) (ess.take x.2.toNat))) (fun x=>(ess.length-x.2).toNat) ((es,0)) (by subst hL;rfl) ?_ ?_
  ·exact ⟨by simp,by simp,by rw [hes0];rfl⟩
  clear hfx hes0 hl i0 i1 h ag es i
  rintro ⟨es,i⟩ ⟨i0,i1,hI⟩ hfx ag hag
  simp only at i0 i1 hI
  obtain ⟨l1,l2⟩:=uniAll_cnt (n:=a0.toNat) (ess.take i.toNat) _ (LabOk.iota _) (take_in hed _)
  obtain ⟨lab,hlab⟩:∃lab,lab=uniAll (iota a0.toNat) (ess.take i.toNat):=⟨_,rfl⟩
  rw [←hlab] at l1 l2 hI
  have hl:es.length=a0.toNat:=by rw [hI,I_length,l1.len]
  conv=>cbv
  have ga1:∀k,a1.getD k (.slc false 2 (.int .i64 0) [])= .slc false 2 (.int .i64 0) (I (ess.getD k [])):=fun k=>by rw [hes,II_getD]
  have ges:∀k,es.getD k (.int .i64 0)= .int .i64 (lab.getD k 0):=fun k=>by rw [hI,I_getD]
  obtain ⟨N,hN⟩:∃N:Int,(a0.toNat:Int)=N:=⟨_,rfl⟩
  simp only [stdEqs hL,hl,hel,hN,toNat0,toNat1,ga1,ges,ok_ints,toL_slc,I_frzs,I_length,I_getD,ok_int,toI_int,imp_self,true_and,decide_eq_true_eq,decide_eq_false_iff_not]
  refine ⟨fun h=> ?_,fun h=> ?_⟩
  ·obtain ⟨ed1,ed2,ed3,ed4,ed5⟩:=hed _ (mem_getD (show i.toNat<ess.length by omega))
   obtain ⟨E,hE⟩:∃E,E=ess.getD i.toNat []:=⟨_,rfl⟩
   rw [←hE] at ed1 ed2 ed3 ed4 ed5 ⊢
   simp only [e0,e1] at ed2 ed3 ed4 ed5
   (repeat' first|(exact solid_one _)|(exact solid1 rfl)|(exact noown_one _)|(apply And.intro)|(intro _))<;>(try first|exact True.intro|omega|rfl|(simp only [List.length_cons,List.length_nil,I_length];omega))
   have ul:(uni lab E).length=lab.length:=by rw [uni,relab_len]
   have ll:=l1.len
   obtain ⟨va,ha⟩:∃va,va=lo lab E:=⟨_,rfl⟩
   obtain ⟨vb,hb⟩:∃vb,vb=hi lab E:=⟨_,rfl⟩
   rw [show min (lab.getD (E.getD 0 0).toNat 0) (lab.getD (E.getD 1 0).toNat 0)=va from ha.symm,show max (lab.getD (E.getD 0 0).toNat 0) (lab.getD (E.getD 1 0).toNat 0)=vb from hb.symm]
   refine hlp (List V×Int) _ _ _ [5,9,10,26,27,28,59,60] (fun x=>[(5,none,.val (.slc true 2 (.int .i64 0) x.1)),(9,none,.val (.int .i64 va)),(10,none,.val (.int .i64 vb)),(26,none,.val (.slc false 22 (.slc false 2 (.int .i64 0) []) a1)),(27,none,.val (.int .i64 m)),(28,none,.val (.int .i64 i)),(59,none,.val (.int .i64 N)),(60,none,.val (.int .i64 x.2))])
    (fun x=>0≤x.2∧x.2≤lab.length∧x.1=I ((uni lab E).take x.2.toNat++lab.drop x.2.toNat)) (fun x=>(lab.length-x.2).toNat) ((es,0)) (by subst hL;rfl) ?_ ?_
   ·simp [hI]
   rintro ⟨fs,k⟩ ⟨k0,k1,hK⟩ hfx2 ag2 hag2
   simp only at k0 k1 hK
   have hl2:fs.length=lab.length:=by rw [hK,I_length,map_len _ _ _ ul (by omega)]
   conv=>cbv
   have gfs:fs.getD k.toNat (.int .i64 0)= .int .i64 (((uni lab E).take k.toNat++lab.drop k.toNat).getD k.toNat 0):=by rw [hK,I_getD]
   simp only [stdEqs hL,hl2,gfs,ok_int,toI_int,imp_self,true_and,decide_eq_true_eq,decide_eq_false_iff_not,beq_iff_eq,beq_eq_false_iff_ne]
   refine ⟨fun h3=> ?_,fun h3=> ?_⟩
   ·have hk:k.toNat<lab.length:=by omega
    have hu:(uni lab E).getD k.toNat 0=if lab.getD k.toNat 0=vb then va else lab.getD k.toNat 0:=by rw [uni,relab_get _ _ _ _ hk,ha,hb]
    rw [map_at _ _ _ ul hk]
    have fin:∀gs,gs=I ((uni lab E).take (k.toNat+1)++lab.drop (k.toNat+1))→ag2 [(5,none,.val (.slc true 2 (.int .i64 0) gs)),(9,none,.val (.int .i64 va)),(10,none,.val (.int .i64 vb)),(26,none,.val (.slc false 22 (.slc false 2 (.int .i64 0) []) a1)),(27,none,.val (.int .i64 m)),(28,none,.val (.int .i64 i)),(59,none,.val (.int .i64 N)),(60,none,.val (.int .i64 (k+1)))]:=fun gs hg=>
     hag2 (gs,k+1) ⟨by simp only;omega,by simp only;omega,by simp only [toNat_succ k0];exact hg⟩ (by simp only;omega)
    rw [wrap_id (n:=k+1) (by omega) (by omega)]
    (repeat' first|(exact solid_one _)|(exact solid1 rfl)|(exact noown_one _)|(apply And.intro)|(intro _))<;>(try first|exact True.intro|omega|rfl|(simp only [List.length_cons,List.length_nil,I_length];omega))
    ·rename_i h4
     refine fin _ ?_
     rw [hK,I_set,←map_step _ _ _ ul hk,hu,if_pos h4]
    ·rename_i h4
     refine fin _ ?_
     rw [hK,←map_same _ _ _ ul hk (by rw [hu,if_neg h4])]
   ·rw [wrap_id (n:=i+1) (by omega) (by omega)]
    refine hag (fs,i+1) ⟨by simp only;omega,by simp only;omega,?_⟩ (by simp only;omega)
    simp only [toNat_succ i0]
    rw [hK,List.take_of_length_le (by omega),List.drop_eq_nil_of_le (by omega),List.append_nil,take_succ_tot _ _ (show i.toNat<ess.length by omega),uniAll_snoc,←hlab,hE]
  have hes1:ess.take i.toNat=ess:=List.take_of_length_le (by omega)
  rw [hes1] at hlab l2
  have ll:=l1.len
  refine hlp (List V×Int×Int) _ _ _ [5,12,76,77] (fun x=>[(5,none,.val (.slc true 2 (.int .i64 0) x.1)),(12,none,.val (.int .i64 x.2.1)),(76,none,.val (.int .i64 N)),(77,none,.val (.int .i64 x.2.2))])
   (fun x=>0≤x.2.2∧x.2.2≤lab.length∧x.2.1=cntR lab x.2.2.toNat∧x.1=I ((rn lab).take x.2.2.toNat++lab.drop x.2.2.toNat)) (fun x=>(lab.length-x.2.2).toNat) ((es,0,0)) (by subst hL;rfl) ?_ ?_
  ·simp [hI,cntR]
  clear hfx hag ag i0 i1 h
  rintro ⟨fs,c,k⟩ ⟨k0,k1,hc,hK⟩ hfx2 ag2 hag2
  simp only at k0 k1 hc hK
  have rl:=rn_len lab
  have hl2:fs.length=lab.length:=by rw [hK,I_length,map_len _ _ _ rl (by omega)]
  conv=>cbv
  have gfs:∀j,fs.getD j (.int .i64 0)= .int .i64 (((rn lab).take k.toNat++lab.drop k.toNat).getD j 0):=fun j=>by rw [hK,I_getD]
  simp only [stdEqs hL,hl2,gfs,ok_int,toI_int,imp_self,true_and,decide_eq_true_eq,decide_eq_false_iff_not,beq_iff_eq,beq_eq_false_iff_ne]
  refine ⟨fun h3=> ?_,fun h3=> ?_⟩
  ·have hk:k.toNat<lab.length:=by omega
   have hu:=rn_get lab k.toNat hk
   rw [map_at _ _ _ rl hk]
   have v1:=l1.nn k.toNat (by omega)
   have v2:=l1.le k.toNat (by omega)
   have v3:=l1.idem k.toNat (by omega)
   have cl:=cntR_bound lab k.toNat
   have fin:∀gs d,d=(cntR lab (k.toNat+1):Int)→gs=I ((rn lab).take (k.toNat+1)++lab.drop (k.toNat+1))→ag2 [(5,none,.val (.slc true 2 (.int .i64 0) gs)),(12,none,.val (.int .i64 d)),(76,none,.val (.int .i64 N)),(77,none,.val (.int .i64 (k+1)))]:=fun gs d hd hg=>
    hag2 (gs,d,k+1) ⟨by simp only;omega,by simp only;omega,by simp only [toNat_succ k0];exact hd,by simp only [toNat_succ k0];exact hg⟩ (by simp only;omega)
   rw [wrap_id (n:=k+1) (by omega) (by omega)]
   (repeat' first|(exact solid_one _)|(exact solid1 rfl)|(exact noown_one _)|(apply And.intro)|(intro _))<;>(try first|exact True.intro|omega|rfl|(simp only [List.length_cons,List.length_nil,I_length];omega))
   ·rename_i h4
    have h5:lab.getD k.toNat 0=(k.toNat:Int):=by omega
    have h6:cntR lab (k.toNat+1)=cntR lab k.toNat+1:=by simp only [cntR];rw [if_pos h5]
    rw [wrap_id (n:=c+1) (by omega) (by omega)]
    refine fin _ _ (by rw [h6,hc];omega) ?_
    rw [hK,I_set,←map_step _ _ _ rl hk,hu,h5,hc,Int.toNat_natCast]
   ·rename_i h4
    have h5:¬lab.getD k.toNat 0=(k.toNat:Int):=by omega
    have h6:cntR lab (k.toNat+1)=cntR lab k.toNat:=by simp only [cntR];rw [if_neg h5];rfl
    refine fin _ _ (by rw [h6,hc]) ?_
    rw [hK,I_set,←map_step _ _ _ rl hk,map_before _ _ _ _ rl (by omega) (by omega),hu,rn_get _ _ (by omega),show lab.getD (lab.getD k.toNat 0).toNat 0=lab.getD k.toNat 0 from v3]
  ·rw [hr,hf0,hK,labs,←hlab,List.take_of_length_le (by omega),List.drop_eq_nil_of_le (by omega),List.append_nil]
 ·cases h
end Go.Ax
