import Derived.Test.YtnhfpgcicpfohaaDoorAxP4p1
import Derived.Test.YtnhfpgcicpfohaaDoorProg
import Derived.KernelRfl
import Derived.IntWalk
/-
 The table of types,lists of numbers,arithmetic without overflow.
-/
set_option linter.all false
namespace Go.Ax
open Go.Proofs
def tab:Tab:=[(2,⟨.int .i64,1,.int .i64 0⟩),(3,⟨.int .i64,1,.int .i64 0⟩),(4,⟨.bool,1,.bool false⟩),(5,⟨.int .u8,1,.int .u8 0⟩),(9,⟨.str,1,.str ⟨#[]⟩⟩),(22,⟨.slc 46,1,.slc true 46 (.agg [.slc true 2 (.int .i64 0) []]) []⟩),(23,⟨.slc 44,1,.slc true 44 (.slc true 2 (.int .i64 0) []) []⟩),(25,⟨.agg [(0,22),(1,23)],2,.agg [.slc true 46 (.agg [.slc true 2 (.int .i64 0) []]) [],.slc true 44 (.slc true 2 (.int .i64 0) []) []]⟩),(29,⟨.slc 49,1,.slc true 49 (.agg [.slc true 2 (.int .i64 0) []]) []⟩),(31,⟨.agg [(0,29),(1,23)],2,.agg [.slc true 49 (.agg [.slc true 2 (.int .i64 0) []]) [],.slc true 44 (.slc true 2 (.int .i64 0) []) []]⟩),(44,⟨.slc 2,1,.slc true 2 (.int .i64 0) []⟩),(46,⟨.agg [(0,44)],1,.agg [.slc true 2 (.int .i64 0) []]⟩),(49,⟨.agg [(0,44)],1,.agg [.slc true 2 (.int .i64 0) []]⟩),(60,⟨.slc 9,1,.slc true 9 (.str ⟨#[]⟩) []⟩),(67,⟨.slc 5,1,.slc true 5 (.int .u8 0) []⟩),(94,⟨.int .u64,1,.int .u64 0⟩),(102,⟨.int .u32,1,.int .u32 0⟩),(105,⟨.int .u64,1,.int .u64 0⟩)]
theorem mixed: Tryd.prog.follows .mixedOrders=true:=by kernel_rfl
theorem tabOk:TabOk Tryd.prog tab:=⟨by kernel_rfl,by kernel_rfl,by kernel_rfl⟩
def I (xs:List Int):List V:=xs.map (.int .i64)
def unI (es:List V):List Int:=es.map V.toI
def IsI (es:List V):Prop:=∃l,es=I l
@[simp] theorem unI_I (xs:List Int):unI (I xs)=xs:=by
  induction xs with
  |nil=>rfl
  |cons x l ih=>simp only [I,unI,List.map_cons,V.toI,List.cons.injEq,true_and] at ih ⊢;exact ih
@[simp] theorem I_length (xs:List Int):(I xs).length=xs.length:=by simp [I]
@[simp] theorem I_getD (xs:List Int) (i:Nat):(I xs).getD i (.int .i64 0)= .int .i64 (xs.getD i 0):=by
  simp only [I,List.getD_eq_getElem?_getD,List.getElem?_map]
  cases xs[i]? <;>rfl
@[simp] theorem I_set (xs:List Int) (i:Nat) (y:Int):(I xs).set i (.int .i64 y)=I (xs.set i y):=by simp [I,List.map_set]
@[simp] theorem I_append (xs ys:List Int):I xs++I ys=I (xs++ys):=by simp [I]
@[simp] theorem I_cons (x:Int) (xs:List Int):V.int .i64 x::I xs=I (x::xs):=by simp [I]
@[simp] theorem I_take (xs:List Int) (n:Nat):(I xs).take n=I (xs.take n):=by simp [I]
@[simp] theorem I_drop (xs:List Int) (n:Nat):(I xs).drop n=I (xs.drop n):=by simp [I]
@[simp] theorem I_replicate (n:Nat) (x:Int):List.replicate n (V.int .i64 x)=I (List.replicate n x):=by simp [I]
@[simp] theorem I_frzs (xs:List Int):V.frzs (I xs)=I xs:=by
  rw [V.frzs_eq]
  simp [I,V.frz]
@[simp] theorem I_noFzs (xs:List Int):V.noFzs (I xs)=true:=by
  rw [V.noFzs_eq]
  simp [I,V.noFz]
@[simp] theorem I_owneds (xs:List Int):V.owneds (I xs)=false:=by
  rw [V.owneds_eq]
  simp [I,V.owned]
@[simp] theorem I_nil:I []=[]:=rfl
theorem I_solid (xs:List Int):∀x∈I xs,x.solid=true:=by
 intro x hx
 simp only [I,List.mem_map] at hx
 obtain ⟨n,_,rfl⟩:=hx
 rfl
@[simp] theorem ok_int (o:Bool) (n:Int):vw stdV tab o 20 2 (.int .i64 n)=some (.int .i64 n):=rfl
@[simp] theorem ok_int' (o:Bool) (n:Int):vw stdV tab o 20 3 (.int .i64 n)=some (.int .i64 n):=rfl
@[simp] theorem toI_int (k:IntKind) (n:Int):stdV.toI (.int k n)=n:=rfl
theorem wrap_id {n:Int} (h1: -9223372036854775808≤n) (h2:n≤9223372036854775807):IntKind.wrap .i64 n=n:=IntWalk.i64_in n ⟨h1,h2⟩
theorem drop_cons {α:Type} {xs:List α} {i:Nat} (d:α) (h:i<xs.length):xs.drop i=xs.getD i d::xs.drop (i+1):=by
 rw [List.drop_eq_getElem_cons h,List.getD_eq_getElem?_getD,List.getElem?_eq_getElem h]
 rfl
theorem toNat_succ {i:Int} (h:0≤i):(i+1).toNat=i.toNat+1:=by omega
theorem all_drop {xs:List Int} {i:Nat} {p:Int→Bool} (h:i<xs.length):(xs.drop i).all p=(p (xs.getD i 0)&&(xs.drop (i+1)).all p):=by
 rw [drop_cons 0 h,List.all_cons]
theorem fill_set {α:Type} {xs:List α} {k:Nat} (c d:α) (h:k<xs.length):(xs.take k++List.replicate (xs.length-k) c).set k (xs.getD k d)=xs.take (k+1)++List.replicate (xs.length-(k+1)) c:=by
 have e:xs.length-k=(xs.length-(k+1))+1:=by omega
 rw [e,List.replicate_succ,List.set_append_right _ _ (by rw [List.length_take];omega),List.length_take,Nat.min_eq_left (Nat.le_of_lt h),Nat.sub_self,List.set_cons_zero,
  List.take_succ_eq_append_getElem h,List.getD_eq_getElem?_getD,List.getElem?_eq_getElem h,List.append_assoc]
 rfl
theorem stdEqs {L:Alg} {T:Tab} (h:L=std T):L.v=stdV
 ∧(∀(k:IntKind) (n:Int),L.wrap k n=(k.wrap n))
 ∧(∀(a:Int) (b:Int),L.add a b=(a+b))
 ∧(∀(a:Int) (b:Int),L.sub a b=(a-b))
 ∧(∀(a:Int) (b:Int),L.mul a b=(a*b))
 ∧(∀(a:Int) (b:Int),L.quo a b=(a.tdiv b))
 ∧(∀(a:Int) (b:Int),L.rem a b=(a.tmod b))
 ∧(∀(k:IntKind) (a:Int) (b:Int),L.band k a b=(bitAnd k a b))
 ∧(∀(k:IntKind) (a:Int) (b:Int),L.shr k a b=(shiftR k a b))
 ∧(∀(a:Int) (b:Int),L.imin a b=(min a b))
 ∧(∀(a:Int) (b:Int),L.imax a b=(max a b))
 ∧(∀(a:Int) (b:Int),L.eqI a b=(a==b))
 ∧(∀(a:Int) (b:Int),L.leI a b=(decide (a≤b)))
 ∧(∀(a:Int) (b:Int),L.ltI a b=(decide (a<b)))
 ∧(∀(a:Bool) (b:Bool),L.eqB a b=(a==b))
 ∧(∀(a:Bool),L.not a=(!a))
 ∧(∀(a:Bool) (b:Bool),L.and a b=(a&&b))
 ∧(∀(c:Bool) (a:Bool) (b:Bool),L.pick c a b=(bif c then a else b))
 ∧(∀(a:ByteArray) (b:ByteArray),L.eqS a b=(a.toList==b.toList))
 ∧(∀(a:ByteArray) (b:ByteArray),L.ltS a b=(Op.bytesLess a.toList b.toList))
 ∧(∀(a:ByteArray) (b:ByteArray),L.appS a b=(a++b))
 ∧(∀(a:ByteArray),L.lenS a=((a.size:Int)))
 ∧(∀(s:ByteArray) (n:Int),L.getS s n=(((s.data.getD n.toNat 0).toNat:Int)))
 ∧(∀(s:ByteArray) (l:Int) (h:Int),L.extS s l h=(s.extract l.toNat h.toNat))
 ∧(∀(es:List V),L.len es=((es.length:Int)))
 ∧(∀(es:List V) (i:Nat) (d:V),L.get es i d=(es.getD i d))
 ∧(∀(es:List V) (i:Nat) (y:V),L.set es i y=(es.set i y))
 ∧(∀(a:List V) (b:List V),L.app a b=(a++b))
 ∧(∀(es:List V) (l:Int) (h:Int),L.sli es l h=((es.take h.toNat).drop l.toNat))
 ∧(∀(n:Int) (z:V),L.rep n z=(List.replicate n.toNat z))
 ∧(∀(x:List V),L.frz x=(V.frzs x))
 ∧(∀(x:Int),L.nat x=(Int.toNat x))
 ∧(∀(i:Nat) (es:List V),L.ltN i es=(i<es.length))
 ∧(∀(es:List V),L.nofz es=(V.noFzs es=true))
 ∧(∀(es:List V),L.nown es=(V.owneds es=false))
 ∧(∀(es:List V),L.emp es=(es=[]))
 ∧(∀(o:Bool) (t:TypeId) (y:V),L.ok o t y=(vw stdV T o 20 t y=some y))
 ∧(∀(t:TypeId) (y:V),L.okS t y=OkS T t y)
 ∧(∀(es:List V),L.solid es=(∀x∈es,x.solid=true))
 ∧(∀(a:Int) (b:Int),L.le a b=(a≤b))
 ∧(∀(a:Int) (b:Int),L.lt a b=(a<b))
 ∧(∀(b:Int),L.ne0 b=(b≠0))
 ∧(∀(b:Bool) (p:Prop),L.imp b p=(b=true→p))
 ∧(∀(b:Bool),L.tt b=(b=true))
 ∧(∀(b:Bool) (p:Prop) (q:Prop),L.ifP b p q=((b=true→p)∧(b=false→q)))
 ∧(∀(es:List V),L.strB es=bytesV es)
 ∧(∀(es:List V),L.byt es=bytesOk es):=by
 subst h
 exact ⟨rfl,by intros;rfl,by intros;rfl,by intros;rfl,by intros;rfl,by intros;rfl,by intros;rfl,by intros;rfl,by intros;rfl,by intros;rfl,by intros;rfl,by intros;rfl,by intros;rfl,by intros;rfl,by intros;rfl,by intros;rfl,by intros;rfl,by intros;rfl,by intros;rfl,by intros;rfl,by intros;rfl,by intros;rfl,by intros;rfl,by intros;rfl,by intros;rfl,by intros;rfl,by intros;rfl,by intros;rfl,by intros;rfl,by intros;rfl,by intros;rfl,by intros;rfl,by intros;rfl,by intros;rfl,by intros;rfl,by intros;rfl,by intros;rfl,by intros;rfl,by intros;rfl,by intros;rfl,by intros;rfl,by intros;rfl,by intros;rfl,by intros;rfl,by intros;rfl,by intros;rfl,by intros;rfl⟩
end Go.Ax
set_option linter.all false
namespace Go.Ax
open Go.Proofs
def c_impl_inRange (f0:Int→Int→Int→Bool):Contract:=fun
 |[.int .i64 a0,.int .i64 a1,.int .i64 a2]=>some ([],.bool (f0 a0 a1 a2))
 |_=>none
def inRange (a b c:Int):Bool:=decide (b≤a)&&decide (a≤c)
set_option maxRecDepth 100000 in
theorem s_impl_inRange:Sat Tryd.prog 42 (c_impl_inRange inRange):=by
 intro args ps r h hp
 unfold c_impl_inRange at h
 split at h
 ·rename_i a0 a1 a2
  simp only [Option.some.injEq,Prod.mk.injEq] at h
  obtain ⟨rfl,rfl⟩:=h
  refine fnOk_of (T:=tab) (B:=[]) [0,1,2,6] Tryd.func42 rfl rfl (by kernel_rfl) (Nat.le_of_ble_eq_true rfl) mixed tabOk bookNil (by kernel_rfl) ?_
  intro L lp rr hL hr hf hlp
  conv=>cbv
  subst hL hr
  simp [std,inRange]
 ·cases h
def c_impl_within (f0:List V→Int→Int→Bool) (q:List V→Prop):Contract:=fun
 |[.slc false 2 (.int .i64 0) a0,.int .i64 a1,.int .i64 a2]=>some ([q a0],.bool (f0 a0 a1 a2))
 |_=>none
def within (l:List Int) (a b:Int):Bool:=l.all fun x=>inRange x a b
def f_within (es:List V) (a b:Int):Bool:=within (unI es) a b
set_option maxRecDepth 100000 in
theorem s_impl_within:Sat Tryd.prog 44 (c_impl_within f_within IsI):=by
 intro args ps r h hp
 unfold c_impl_within at h
 split at h
 ·rename_i a0 a1 a2
  simp only [Option.some.injEq,Prod.mk.injEq] at h
  obtain ⟨rfl,rfl⟩:=h
  obtain ⟨xs,hxs⟩:IsI a0:=(alls_cons.1 hp).1
  generalize HF0IMPLINRANGE:inRange=F0IMPLINRANGE
  refine fnOk_of (T:=tab) (B:=[(42,c_impl_inRange F0IMPLINRANGE)]) [0,1,2,6,8,9,10,11] Tryd.func44 rfl rfl (by kernel_rfl) (Nat.le_of_ble_eq_true rfl) mixed tabOk (by subst HF0IMPLINRANGE;exact (bookCons s_impl_inRange bookNil)) (by kernel_rfl) ?_
  intro L lp rr hL hr hf hlp
  obtain ⟨n,hn⟩:∃n:Int,n=a0.length:=⟨_,rfl⟩
  have hlen:=hf.1.1
  conv=>cbv
  refine hlp (Int) _ _ _ [1,2,9,10,11] (fun i=>[(1,none,.val (.int .i64 a1)),(2,none,.val (.int .i64 a2)),(9,none,.val (.slc false 2 (.int .i64 0) a0)),(10,none,.val (.int .i64 n)),(11,none,.val (.int .i64 i))]) (fun i=>0≤i∧i≤n∧within xs a1 a2=within (xs.drop i.toNat) a1 a2) (fun i=>(n-i).toNat) 0 (by subst hL hn;rfl) ?_ ?_
  ·subst hxs hn
   simp
  ·rintro i ⟨i0,i1,i2⟩ hfx ag hag
   conv=>cbv
   subst hL hr HF0IMPLINRANGE hxs
   simp only [std,I_getD,ok_int,toI_int,I_length,imp_self,true_and,decide_eq_true_eq,decide_eq_false_iff_not,Bool.not_eq_true',Bool.not_eq_false',V.bool.injEq,f_within,unI_I] at hn hlen ⊢
   refine ⟨fun h=>⟨i0,by omega,fun h1=> ?_,fun h1=> ?_⟩,fun h=> ?_⟩
   ·rw [i2,within,all_drop (by omega),h1]
    rfl
   ·rw [wrap_id (by omega) (by omega)]
    refine hag _ ⟨by omega,by omega,?_⟩ (by omega)
    rw [i2,within,within,all_drop (by omega),toNat_succ i0,h1]
    rfl
   ·rw [i2,List.drop_eq_nil_of_le (by omega)]
    rfl
 ·cases h
def cfGo (xs:List Int):Nat→Int→Int→Int×Int×Int
 |0,t,b=>(t,b,0)
 |k+1,t,b=>
  if 1000000000000<IntKind.wrap .i64 (IntKind.wrap .i64 (xs.getD k 0*t)-b) then (0,0,3)
  else cfGo xs k (IntKind.wrap .i64 (IntKind.wrap .i64 (xs.getD k 0*t)-b)) t
def cf (xs:List Int):Int×Int×Int:=bif (bif (bif decide ((xs.length:Int)<1) then true else decide (30<(xs.length:Int))) then true else !within xs 2 1000) then (0,0,1) else cfGo xs xs.length 1 0
set_option maxRecDepth 100000 in
theorem s_spec_l01In:Sat Tryd.prog 22 (c_impl_inRange inRange):=by
 intro args ps r h hp
 unfold c_impl_inRange at h
 split at h
 ·rename_i a0 a1 a2
  simp only [Option.some.injEq,Prod.mk.injEq] at h
  obtain ⟨rfl,rfl⟩:=h
  refine fnOk_of (T:=tab) (B:=[]) [0,1,2,6] Tryd.func22 rfl rfl (by kernel_rfl) (Nat.le_of_ble_eq_true rfl) mixed tabOk bookNil (by kernel_rfl) ?_
  intro L lp rr hL hr hf hlp
  cbv
  subst hL hr
  simp [std,inRange]
 ·cases h
def c_laws_toInt64S (f0:List V→List V) (q:List V→Prop):Contract:=fun
 |[.slc false 2 (.int .i64 0) a0]=>some ([q a0],.slc true 2 (.int .i64 0) (f0 a0))
 |_=>none
def same (es:List V):List V:=es
def IsIs (es:List V):Prop:=(∃l,es=I l)∧es.length≤2147483647
set_option maxRecDepth 100000 in
theorem s_laws_toInt64S:Sat Tryd.prog 27 (c_laws_toInt64S same IsIs):=by
 intro args ps r h hp
 unfold c_laws_toInt64S at h
 split at h
 ·rename_i a0
  simp only [Option.some.injEq,Prod.mk.injEq] at h
  obtain ⟨rfl,rfl⟩:=h
  obtain ⟨⟨xs,hxs⟩,hlen⟩:IsIs a0:=(alls_cons.1 hp).1
  refine fnOk_of (T:=tab) (B:=[]) [0,2,3,4] Tryd.func27 rfl rfl (by kernel_rfl) (Nat.le_of_ble_eq_true rfl) mixed tabOk bookNil (by kernel_rfl) ?_
  intro L lp rr hL hr hf hlp
  have hxl:a0.length=xs.length:=by rw [hxs,I_length]
  rw [hxl] at hlen
  conv=>cbv
  (simp only [stdEqs hL,hxl,imp_self,true_and])<;>(repeat' first|(intro _)|(apply And.intro))<;>try omega
  refine hlp (Int×List V) _ _ _ [0,3,4] (fun x=>[(0,none,.val (.slc false 2 (.int .i64 0) a0)),(3,none,.val (.slc true 2 (.int .i64 0) x.2)),(4,none,.val (.int .i64 x.1))])
   (fun x=>0≤x.1∧x.1≤xs.length∧x.2=I (xs.take x.1.toNat++List.replicate (xs.length-x.1.toNat) 0)) (fun x=>(xs.length-x.1).toNat) (0,_) (by subst hL;rfl) (by simp) ?_
  rintro ⟨i,es⟩ ⟨i0,i1,i2⟩ hfx ag hag
  conv=>cbv
  have hg:a0.getD i.toNat (.int .i64 0)= .int .i64 (xs.getD i.toNat 0):=by rw [hxs,I_getD]
  simp only [stdEqs hL,hxl,hg,ok_int,toI_int,imp_self,true_and,decide_eq_true_eq,decide_eq_false_iff_not]
  simp only at i0 i1 i2
  have hel:es.length=xs.length:=by
   rw [i2]
   simp
   omega
  refine ⟨fun h=>⟨i0,by omega,i0,by omega,by omega,by rw [i2,I_getD,ok_int],?_⟩,fun h=> ?_⟩
  ·rw [wrap_id (n:=i+1) (by omega) (by omega)]
   refine hag (i+1,_) ⟨by simp only;omega,by simp only;omega,?_⟩ (by simp only;omega)
   simp only [i2,I_set,toNat_succ i0]
   rw [fill_set 0 0 (by omega)]
  ·subst hr hxs i2
   obtain rfl:i=xs.length:=by omega
   simp [same]
 ·cases h
def c_laws_eqInt64S (f0:List V→List V→Bool) (q:List V→List V→Prop):Contract:=fun
 |[.slc false 2 (.int .i64 0) a0,.slc false 2 (.int .i64 0) a1]=>some ([q a0 a1],.bool (f0 a0 a1))
 |_=>none
def f0_eqI (a b:List V):Bool:=decide (unI a=unI b)
def q_eqI (a b:List V):Prop:=IsI a∧IsI b
set_option maxRecDepth 100000 in
theorem s_laws_eqInt64S:Sat Tryd.prog 38 (c_laws_eqInt64S f0_eqI q_eqI):=by
 intro args ps r h hp
 unfold c_laws_eqInt64S at h
 split at h
 ·rename_i a0 a1
  simp only [Option.some.injEq,Prod.mk.injEq] at h
  obtain ⟨rfl,rfl⟩:=h
  obtain ⟨⟨xs,hxs⟩,ys,hys⟩:q_eqI a0 a1:=(alls_cons.1 hp).1
  refine fnOk_of (T:=tab) (B:=[]) [0,1,4,5] Tryd.func38 rfl rfl (by kernel_rfl) (Nat.le_of_ble_eq_true rfl) mixed tabOk bookNil (by kernel_rfl) ?_
  intro L lp rr hL hr hf hlp
  have hlen:=hf.1.1
  have hxl:a0.length=xs.length:=by rw [hxs,I_length]
  have hyl:a1.length=ys.length:=by rw [hys,I_length]
  conv=>cbv
  simp only [stdEqs hL,hxl,hyl]
  have hrr:rr= .bool (decide (xs=ys)):=by rw [hr,hxs,hys];simp only [f0_eqI,unI_I]
  refine ⟨fun h=> ?_,fun h=> ?_⟩
  ·have:xs≠ys:=by
    rintro rfl
    simp at h
   rw [hrr,decide_eq_false this]
  have hll:xs.length=ys.length:=by
   simp only [Bool.not_eq_false',beq_iff_eq] at h
   omega
  refine hlp (Int) _ _ _ [0,1,5] (fun i=>[(0,none,.val (.slc false 2 (.int .i64 0) a0)),(1,none,.val (.slc false 2 (.int .i64 0) a1)),(5,none,.val (.int .i64 i))])
   (fun i=>0≤i∧i≤xs.length∧xs.take i.toNat=ys.take i.toNat) (fun i=>(xs.length-i).toNat) 0 (by subst hL;rfl) (by simp) ?_
  rintro i ⟨i0,i1,i2⟩ hfx ag hag
  conv=>cbv
  have hg:a0.getD i.toNat (.int .i64 0)= .int .i64 (xs.getD i.toNat 0):=by rw [hxs,I_getD]
  have hg':a1.getD i.toNat (.int .i64 0)= .int .i64 (ys.getD i.toNat 0):=by rw [hys,I_getD]
  simp only [stdEqs hL,hxl,hyl,hg,hg',ok_int,toI_int,imp_self,true_and,decide_eq_true_eq,decide_eq_false_iff_not,Bool.not_eq_true',Bool.not_eq_false',beq_eq_false_iff_ne,beq_iff_eq]
  refine ⟨fun h=>⟨i0,by omega,i0,by omega,fun h4=> ?_,fun h4=> ?_⟩,fun h=> ?_⟩
  ·rw [hrr,decide_eq_false]
   rintro rfl
   exact h4 rfl
  ·rw [wrap_id (by omega) (by omega)]
   refine hag _ ⟨by omega,by omega,?_⟩ (by omega)
   have e1:i.toNat<xs.length:=by omega
   have e2:i.toNat<ys.length:=by omega
   rw [toNat_succ i0,List.take_succ_eq_append_getElem e1,List.take_succ_eq_append_getElem e2,i2]
   simp only [List.getD_eq_getElem?_getD,List.getElem?_eq_getElem e1,List.getElem?_eq_getElem e2,Option.getD_some] at h4
   rw [h4]
  ·rw [List.take_of_length_le (by omega),List.take_of_length_le (by omega)] at i2
   rw [hrr,decide_eq_true i2]
 ·cases h
end Go.Ax
set_option linter.all false
namespace Go.Ax
open Go.Proofs
def c_i_i (f0:Int→Int):Contract:=fun
 |[.int .i64 a0]=>some ([],.int .i64 (f0 a0))
 |_=>none
def absW (a:Int):Int:=bif decide (a<0) then IntKind.wrap .i64 (0-a) else a
set_option maxRecDepth 100000 in
theorem s_impl_abs:Sat Tryd.prog 68 (c_i_i absW):=by
 intro args ps r h hp
 unfold c_i_i at h
 split at h
 ·rename_i a0
  simp only [Option.some.injEq,Prod.mk.injEq] at h
  obtain ⟨rfl,rfl⟩:=h
  refine fnOk_of (T:=tab) (B:=[]) [0,2] Tryd.func68 rfl rfl (by kernel_rfl) (Nat.le_of_ble_eq_true rfl) mixed tabOk bookNil (by kernel_rfl) ?_
  intro L lp rr hL hr hf hlp
  conv=>cbv
  simp only [stdEqs hL,imp_self,true_and]
  subst hr
  refine ⟨fun h=> ?_,fun h=> ?_⟩<;>simp only [absW,h,cond_true,cond_false]
 ·cases h
def c_ii_i (f0:Int→Int→Int) (q:Int→Int→Prop):Contract:=fun
 |[.int .i64 a0,.int .i64 a1]=>some ([q a0 a1],.int .i64 (f0 a0 a1))
 |_=>none
def ne0 (_ b:Int):Prop:=b≠0
def gcdGo (a b:Int):Int:=if _h:0<b then gcdGo b (a.tmod b) else a
termination_by b.toNat
decreasing_by
 have:=Int.tmod_lt_of_pos a (by assumption)
 omega
def gcdW (a b:Int):Int:=gcdGo (absW a) (absW b)
def always (_ _:Int):Prop:=True
theorem gcdGo_pos {a b:Int} (h:0<b):gcdGo a b=gcdGo b (a.tmod b):=by rw [gcdGo,dif_pos h]
theorem gcdGo_neg {a b:Int} (h:¬0<b):gcdGo a b=a:=by rw [gcdGo,dif_neg h]
set_option maxRecDepth 100000 in
theorem s_impl_divisor:Sat Tryd.prog 60 (c_ii_i gcdW always):=by
 intro args ps r h hp
 unfold c_ii_i at h
 split at h
 ·rename_i a0 a1
  simp only [Option.some.injEq,Prod.mk.injEq] at h
  obtain ⟨rfl,rfl⟩:=h
  generalize HA:absW=A0
  refine fnOk_of (T:=tab) (B:=[(68,c_i_i A0)]) [0,1,4] Tryd.func60 rfl rfl (by kernel_rfl) (Nat.le_of_ble_eq_true rfl) mixed tabOk (by subst HA;exact bookCons s_impl_abs bookNil) (by kernel_rfl) ?_
  intro L lp rr hL hr hf hlp
  conv=>cbv
  refine hlp (Int×Int) _ _ _ [0,1] (fun x=>[(0,none,.val (.int .i64 x.1)),(1,none,.val (.int .i64 x.2))])
   (fun x=>gcdW a0 a1=gcdGo x.1 x.2) (fun x=>x.2.toNat) (A0 a0,A0 a1) (by subst hL;rfl) (by subst HA;rfl) ?_
  rintro ⟨a,b⟩ hI hfx ag hag
  conv=>cbv
  simp only [stdEqs hL,imp_self,true_and,decide_eq_true_eq,decide_eq_false_iff_not]
  simp only at hI
  refine ⟨fun h=>⟨by omega,hag (b,a.tmod b) (by rw [hI,gcdGo_pos h]) ?_⟩,fun h=> ?_⟩
  ·have:=Int.tmod_lt_of_pos a h
   simp only
   omega
  ·subst hr
   rw [hI,gcdGo_neg h]
 ·cases h
set_option maxRecDepth 100000 in
theorem s_spec_l01Gcd:Sat Tryd.prog 39 (c_ii_i gcdW always):=by
 intro args ps r h hp
 unfold c_ii_i at h
 split at h
 ·rename_i a0 a1
  simp only [Option.some.injEq,Prod.mk.injEq] at h
  obtain ⟨rfl,rfl⟩:=h
  refine fnOk_of (T:=tab) (B:=[]) [0,1,4,5] Tryd.func39 rfl rfl (by kernel_rfl) (Nat.le_of_ble_eq_true rfl) mixed tabOk bookNil (by kernel_rfl) ?_
  intro L lp rr hL hr hf hlp
  conv=>cbv
  simp only [stdEqs hL,imp_self,true_and,decide_eq_true_eq,decide_eq_false_iff_not]
  refine ⟨fun h0=>⟨fun h1=> ?_,fun h1=> ?_⟩,fun h0=>⟨fun h1=> ?_,fun h1=> ?_⟩⟩
  ·refine hlp (Int×Int) _ _ _ [0,1] (fun x=>[(0,none,.val (.int .i64 x.1)),(1,none,.val (.int .i64 x.2))])
    (fun x=>gcdW a0 a1=gcdGo x.1 x.2) (fun x=>x.2.toNat) (IntKind.wrap .i64 (0-a0),IntKind.wrap .i64 (0-a1)) (by subst hL;rfl) (by simp [gcdW,absW,h0,h1]) ?_
   rintro ⟨a,b⟩ hI hfx ag hag
   conv=>cbv
   simp only [stdEqs hL,imp_self,true_and,decide_eq_true_eq,decide_eq_false_iff_not]
   simp only at hI
   refine ⟨fun h=>⟨by omega,hag (b,a.tmod b) (by rw [hI,gcdGo_pos h]) ?_⟩,fun h=> ?_⟩
   ·have:=Int.tmod_lt_of_pos a h
    simp only
    omega
   ·subst hr
    rw [hI,gcdGo_neg h]
  ·refine hlp (Int×Int) _ _ _ [0,1] (fun x=>[(0,none,.val (.int .i64 x.1)),(1,none,.val (.int .i64 x.2))])
    (fun x=>gcdW a0 a1=gcdGo x.1 x.2) (fun x=>x.2.toNat) (IntKind.wrap .i64 (0-a0),a1) (by subst hL;rfl) (by simp [gcdW,absW,h0,h1]) ?_
   rintro ⟨a,b⟩ hI hfx ag hag
   conv=>cbv
   simp only [stdEqs hL,imp_self,true_and,decide_eq_true_eq,decide_eq_false_iff_not]
   simp only at hI
   refine ⟨fun h=>⟨by omega,hag (b,a.tmod b) (by rw [hI,gcdGo_pos h]) ?_⟩,fun h=> ?_⟩
   ·have:=Int.tmod_lt_of_pos a h
    simp only
    omega
   ·subst hr
    rw [hI,gcdGo_neg h]
  ·refine hlp (Int×Int) _ _ _ [0,1] (fun x=>[(0,none,.val (.int .i64 x.1)),(1,none,.val (.int .i64 x.2))])
    (fun x=>gcdW a0 a1=gcdGo x.1 x.2) (fun x=>x.2.toNat) (a0,IntKind.wrap .i64 (0-a1)) (by subst hL;rfl) (by simp [gcdW,absW,h0,h1]) ?_
   rintro ⟨a,b⟩ hI hfx ag hag
   conv=>cbv
   simp only [stdEqs hL,imp_self,true_and,decide_eq_true_eq,decide_eq_false_iff_not]
   simp only at hI
   refine ⟨fun h=>⟨by omega,hag (b,a.tmod b) (by rw [hI,gcdGo_pos h]) ?_⟩,fun h=> ?_⟩
   ·have:=Int.tmod_lt_of_pos a h
    simp only
    omega
   ·subst hr
    rw [hI,gcdGo_neg h]
  ·refine hlp (Int×Int) _ _ _ [0,1] (fun x=>[(0,none,.val (.int .i64 x.1)),(1,none,.val (.int .i64 x.2))])
    (fun x=>gcdW a0 a1=gcdGo x.1 x.2) (fun x=>x.2.toNat) (a0,a1) (by subst hL;rfl) (by simp [gcdW,absW,h0,h1]) ?_
   rintro ⟨a,b⟩ hI hfx ag hag
   conv=>cbv
   simp only [stdEqs hL,imp_self,true_and,decide_eq_true_eq,decide_eq_false_iff_not]
   simp only at hI
   refine ⟨fun h=>⟨by omega,hag (b,a.tmod b) (by rw [hI,gcdGo_pos h]) ?_⟩,fun h=> ?_⟩
   ·have:=Int.tmod_lt_of_pos a h
    simp only
    omega
   ·subst hr
    rw [hI,gcdGo_neg h]
 ·cases h
def marks (n:Nat) (k:Int):List Int:=(List.range n).map fun (i:Nat)=>k+(i:Int)
theorem marks_len (n:Nat) (k:Int):(marks n k).length=n:=by simp [marks]
end Go.Ax
