import Derived.Test.YtfkccembpjogoaaAxP4g2
import Derived.Test.YtfkccembpjogoaaProg
import Derived.KernelRfl
import Derived.IntWalk
import Derived.Test.YtfkccembpjogoaaRows
/-
 The table of types,lists of numbers,arithmetic without overflow.
-/
set_option linter.all false
namespace Go.Ax
open Go.Proofs
def tab:Tab:=[(2,⟨.int .i64,1,.int .i64 0⟩),(3,⟨.int .i64,1,.int .i64 0⟩),(4,⟨.bool,1,.bool false⟩),(5,⟨.int .u8,1,.int .u8 0⟩),(6,⟨.int .u8,1,.int .u8 0⟩),(22,⟨.slc 5,1,.slc true 5 (.int .u8 0) []⟩),(24,⟨.slc 2,1,.slc true 2 (.int .i64 0) []⟩),(26,⟨.agg [(0,24)],1,.agg [.slc true 2 (.int .i64 0) []]⟩),(30,⟨.agg [(0,24),(1,24),(2,24)],3,.agg [.slc true 2 (.int .i64 0) [],.slc true 2 (.int .i64 0) [],.slc true 2 (.int .i64 0) []]⟩),(37,⟨.slc 24,1,.slc true 24 (.slc true 2 (.int .i64 0) []) []⟩),(62,⟨.agg [(0,2),(1,2)],2,.agg [.int .i64 0,.int .i64 0]⟩),(109,⟨.int .u64,1,.int .u64 0⟩),(111,⟨.agg [(0,22),(1,3),(2,109)],3,.agg [.slc true 5 (.int .u8 0) [],.int .i64 0,.int .u64 0]⟩),(112,⟨.int .u64,1,.int .u64 0⟩),(126,⟨.slc 127,1,.slc true 127 (.slc true 3 (.int .i64 0) []) []⟩),(127,⟨.slc 3,1,.slc true 3 (.int .i64 0) []⟩)]
theorem mixed: Try.prog.follows .mixedOrders=true:=by kernel_rfl
theorem tabOk:TabOk Try.prog tab:=⟨by kernel_rfl,by kernel_rfl,by kernel_rfl⟩
def I (xs:List Int):List V:=xs.map (.int .i64)
def unI (es:List V):List Int:=es.map V.toI
def IsI (es:List V):Prop:=∃l,es=I l
@[simp] theorem unI_I (xs:List Int):unI (I xs)=xs:=by
  induction xs with
  |nil=>rfl
  |cons x l ih=>simp only [I,unI,List.map_cons,V.toI,List.cons.injEq,true_and] at ih ⊢;exact ih
@[simp] theorem I_length (xs:List Int):(I xs).length=xs.length:=by simp [I]
@[simp] theorem I_getD (xs:List Int) (i:Nat):(I xs).getD i (.int .i64 0)= .int .i64 (xs.getD i 0):=by
  simp only [I,List.getD_eq_getElem?_getD,List.getElem?_map]
  cases xs[i]? <;>rfl
@[simp] theorem I_set (xs:List Int) (i:Nat) (y:Int):(I xs).set i (.int .i64 y)=I (xs.set i y):=by simp [I,List.map_set]
@[simp] theorem I_append (xs ys:List Int):I xs++I ys=I (xs++ys):=by simp [I]
@[simp] theorem I_cons (x:Int) (xs:List Int):V.int .i64 x::I xs=I (x::xs):=by simp [I]
@[simp] theorem I_take (xs:List Int) (n:Nat):(I xs).take n=I (xs.take n):=by simp [I]
@[simp] theorem I_drop (xs:List Int) (n:Nat):(I xs).drop n=I (xs.drop n):=by simp [I]
@[simp] theorem I_replicate (n:Nat) (x:Int):List.replicate n (V.int .i64 x)=I (List.replicate n x):=by simp [I]
@[simp] theorem I_frzs (xs:List Int):V.frzs (I xs)=I xs:=by
  rw [V.frzs_eq]
  simp [I,V.frz]
@[simp] theorem I_noFzs (xs:List Int):V.noFzs (I xs)=true:=by
  rw [V.noFzs_eq]
  simp [I,V.noFz]
@[simp] theorem I_owneds (xs:List Int):V.owneds (I xs)=false:=by
  rw [V.owneds_eq]
  simp [I,V.owned]
@[simp] theorem I_nil:I []=[]:=rfl
theorem I_solid (xs:List Int):∀x∈I xs,x.solid=true:=by
 intro x hx
 simp only [I,List.mem_map] at hx
 obtain ⟨n,_,rfl⟩:=hx
 rfl
@[simp] theorem ok_int (o:Bool) (n:Int):vw stdV tab o 20 2 (.int .i64 n)=some (.int .i64 n):=rfl
@[simp] theorem ok_int' (o:Bool) (n:Int):vw stdV tab o 20 3 (.int .i64 n)=some (.int .i64 n):=rfl
@[simp] theorem toI_int (k:IntKind) (n:Int):stdV.toI (.int k n)=n:=rfl
theorem wrap_id {n:Int} (h1: -9223372036854775808≤n) (h2:n≤9223372036854775807):IntKind.wrap .i64 n=n:=IntWalk.i64_in n ⟨h1,h2⟩
theorem drop_cons {α:Type} {xs:List α} {i:Nat} (d:α) (h:i<xs.length):xs.drop i=xs.getD i d::xs.drop (i+1):=by
 rw [List.drop_eq_getElem_cons h,List.getD_eq_getElem?_getD,List.getElem?_eq_getElem h]
 rfl
theorem toNat_succ {i:Int} (h:0≤i):(i+1).toNat=i.toNat+1:=by omega
theorem all_drop {xs:List Int} {i:Nat} {p:Int→Bool} (h:i<xs.length):(xs.drop i).all p=(p (xs.getD i 0)&&(xs.drop (i+1)).all p):=by
 rw [drop_cons 0 h,List.all_cons]
theorem stdEqs {L:Alg} {T:Tab} (h:L=std T):L.v=stdV
 ∧(∀(k:IntKind) (n:Int),L.wrap k n=(k.wrap n))
 ∧(∀(a:Int) (b:Int),L.add a b=(a+b))
 ∧(∀(a:Int) (b:Int),L.sub a b=(a-b))
 ∧(∀(a:Int) (b:Int),L.mul a b=(a*b))
 ∧(∀(a:Int) (b:Int),L.quo a b=(a.tdiv b))
 ∧(∀(a:Int) (b:Int),L.rem a b=(a.tmod b))
 ∧(∀(k:IntKind) (a:Int) (b:Int),L.band k a b=(bitAnd k a b))
 ∧(∀(k:IntKind) (a:Int) (b:Int),L.shr k a b=(shiftR k a b))
 ∧(∀(a:Int) (b:Int),L.imin a b=(min a b))
 ∧(∀(a:Int) (b:Int),L.imax a b=(max a b))
 ∧(∀(a:Int) (b:Int),L.eqI a b=(a==b))
 ∧(∀(a:Int) (b:Int),L.leI a b=(decide (a≤b)))
 ∧(∀(a:Int) (b:Int),L.ltI a b=(decide (a<b)))
 ∧(∀(a:Bool) (b:Bool),L.eqB a b=(a==b))
 ∧(∀(a:Bool),L.not a=(!a))
 ∧(∀(a:Bool) (b:Bool),L.and a b=(a&&b))
 ∧(∀(c:Bool) (a:Bool) (b:Bool),L.pick c a b=(bif c then a else b))
 ∧(∀(a:ByteArray) (b:ByteArray),L.eqS a b=(a.toList==b.toList))
 ∧(∀(a:ByteArray) (b:ByteArray),L.ltS a b=(Op.bytesLess a.toList b.toList))
 ∧(∀(a:ByteArray) (b:ByteArray),L.appS a b=(a++b))
 ∧(∀(a:ByteArray),L.lenS a=((a.size:Int)))
 ∧(∀(s:ByteArray) (n:Int),L.getS s n=(((s.data.getD n.toNat 0).toNat:Int)))
 ∧(∀(s:ByteArray) (l:Int) (h:Int),L.extS s l h=(s.extract l.toNat h.toNat))
 ∧(∀(es:List V),L.len es=((es.length:Int)))
 ∧(∀(es:List V) (i:Nat) (d:V),L.get es i d=(es.getD i d))
 ∧(∀(es:List V) (i:Nat) (y:V),L.set es i y=(es.set i y))
 ∧(∀(a:List V) (b:List V),L.app a b=(a++b))
 ∧(∀(es:List V) (l:Int) (h:Int),L.sli es l h=((es.take h.toNat).drop l.toNat))
 ∧(∀(n:Int) (z:V),L.rep n z=(List.replicate n.toNat z))
 ∧(∀(x:List V),L.frz x=(V.frzs x))
 ∧(∀(x:Int),L.nat x=(Int.toNat x))
 ∧(∀(i:Nat) (es:List V),L.ltN i es=(i<es.length))
 ∧(∀(es:List V),L.nofz es=(V.noFzs es=true))
 ∧(∀(es:List V),L.nown es=(V.owneds es=false))
 ∧(∀(es:List V),L.emp es=(es=[]))
 ∧(∀(o:Bool) (t:TypeId) (y:V),L.ok o t y=(vw stdV T o 20 t y=some y))
 ∧(∀(t:TypeId) (y:V),L.okS t y=OkS T t y)
 ∧(∀(es:List V),L.solid es=(∀x∈es,x.solid=true))
 ∧(∀(a:Int) (b:Int),L.le a b=(a≤b))
 ∧(∀(a:Int) (b:Int),L.lt a b=(a<b))
 ∧(∀(b:Int),L.ne0 b=(b≠0))
 ∧(∀(b:Bool) (p:Prop),L.imp b p=(b=true→p))
 ∧(∀(b:Bool),L.tt b=(b=true))
 ∧(∀(b:Bool) (p:Prop) (q:Prop),L.ifP b p q=((b=true→p)∧(b=false→q))):=by
 subst h
 exact ⟨rfl,by intros;rfl,by intros;rfl,by intros;rfl,by intros;rfl,by intros;rfl,by intros;rfl,by intros;rfl,by intros;rfl,by intros;rfl,by intros;rfl,by intros;rfl,by intros;rfl,by intros;rfl,by intros;rfl,by intros;rfl,by intros;rfl,by intros;rfl,by intros;rfl,by intros;rfl,by intros;rfl,by intros;rfl,by intros;rfl,by intros;rfl,by intros;rfl,by intros;rfl,by intros;rfl,by intros;rfl,by intros;rfl,by intros;rfl,by intros;rfl,by intros;rfl,by intros;rfl,by intros;rfl,by intros;rfl,by intros;rfl,by intros;rfl,by intros;rfl,by intros;rfl,by intros;rfl,by intros;rfl,by intros;rfl,by intros;rfl,by intros;rfl,by intros;rfl⟩
end Go.Ax
set_option linter.all false
namespace Go.Ax
open Go.Proofs
def c_impl_inRange (f0:Int→Int→Int→Bool):Contract:=fun
 |[.int .i64 a0,.int .i64 a1,.int .i64 a2]=>some ([],.bool (f0 a0 a1 a2))
 |_=>none
def inRange (a b c:Int):Bool:=decide (b≤a)&&decide (a≤c)
set_option maxRecDepth 100000 in
theorem s_impl_inRange:Sat Try.prog 54 (c_impl_inRange inRange):=by
 intro args ps r h hp
 unfold c_impl_inRange at h
 split at h
 ·rename_i a0 a1 a2
  simp only [Option.some.injEq,Prod.mk.injEq] at h
  obtain ⟨rfl,rfl⟩:=h
  refine fnOk_of (T:=tab) (B:=[]) [0,1,2,6] Try.func54 rfl rfl (by kernel_rfl) (Nat.le_of_ble_eq_true rfl) mixed tabOk bookNil (by kernel_rfl) ?_
  intro L lp rr hL hr hf hlp
  conv=>cbv
  subst hL hr
  simp [std,inRange]
 ·cases h
def c_impl_within (f0:List V→Int→Int→Bool) (q:List V→Prop):Contract:=fun
 |[.slc false 2 (.int .i64 0) a0,.int .i64 a1,.int .i64 a2]=>some ([q a0],.bool (f0 a0 a1 a2))
 |_=>none
def within (l:List Int) (a b:Int):Bool:=l.all fun x=>inRange x a b
def f_within (es:List V) (a b:Int):Bool:=within (unI es) a b
set_option maxRecDepth 100000 in
theorem s_impl_within:Sat Try.prog 90 (c_impl_within f_within IsI):=by
 intro args ps r h hp
 unfold c_impl_within at h
 split at h
 ·rename_i a0 a1 a2
  simp only [Option.some.injEq,Prod.mk.injEq] at h
  obtain ⟨rfl,rfl⟩:=h
  obtain ⟨xs,hxs⟩:IsI a0:=(alls_cons.1 hp).1
  generalize HF0IMPLINRANGE:inRange=F0IMPLINRANGE
  refine fnOk_of (T:=tab) (B:=[(54,c_impl_inRange F0IMPLINRANGE)]) [0,1,2,6,8,9,10,11] Try.func90 rfl rfl (by kernel_rfl) (Nat.le_of_ble_eq_true rfl) mixed tabOk (by subst HF0IMPLINRANGE;exact (bookCons s_impl_inRange bookNil)) (by kernel_rfl) ?_
  intro L lp rr hL hr hf hlp
  obtain ⟨n,hn⟩:∃n:Int,n=a0.length:=⟨_,rfl⟩
  have hlen:=hf.1.1
  conv=>cbv
  refine hlp (Int) _ _ _ [1,2,9,10,11] (fun i=>[(1,none,.val (.int .i64 a1)),(2,none,.val (.int .i64 a2)),(9,none,.val (.slc false 2 (.int .i64 0) a0)),(10,none,.val (.int .i64 n)),(11,none,.val (.int .i64 i))]) (fun i=>0≤i∧i≤n∧within xs a1 a2=within (xs.drop i.toNat) a1 a2) (fun i=>(n-i).toNat) 0 (by subst hL hn;rfl) ?_ ?_
  ·subst hxs hn
   simp
  ·rintro i ⟨i0,i1,i2⟩ hfx ag hag
   conv=>cbv
   subst hL hr HF0IMPLINRANGE hxs
   simp only [std,I_getD,ok_int,toI_int,I_length,imp_self,true_and,decide_eq_true_eq,decide_eq_false_iff_not,Bool.not_eq_true',Bool.not_eq_false',V.bool.injEq,f_within,unI_I] at hn hlen ⊢
   refine ⟨fun h=>⟨i0,by omega,fun h1=> ?_,fun h1=> ?_⟩,fun h=> ?_⟩
   ·rw [i2,within,all_drop (by omega),h1]
    rfl
   ·rw [wrap_id (by omega) (by omega)]
    refine hag _ ⟨by omega,by omega,?_⟩ (by omega)
    rw [i2,within,within,all_drop (by omega),toNat_succ i0,h1]
    rfl
   ·rw [i2,List.drop_eq_nil_of_le (by omega)]
    rfl
 ·cases h
def cfGo (xs:List Int):Nat→Int→Int→Int×Int×Int
 |0,t,b=>(t,b,0)
 |k+1,t,b=>
  if 1000000000000<IntKind.wrap .i64 (IntKind.wrap .i64 (xs.getD k 0*t)-b) then (0,0,3)
  else cfGo xs k (IntKind.wrap .i64 (IntKind.wrap .i64 (xs.getD k 0*t)-b)) t
def cf (xs:List Int):Int×Int×Int:=bif (bif (bif decide ((xs.length:Int)<1) then true else decide (30<(xs.length:Int))) then true else !within xs 2 1000) then (0,0,1) else cfGo xs xs.length 1 0
set_option maxRecDepth 100000 in
theorem s_spec_l01In:Sat Try.prog 58 (c_impl_inRange inRange):=by
 intro args ps r h hp
 unfold c_impl_inRange at h
 split at h
 ·rename_i a0 a1 a2
  simp only [Option.some.injEq,Prod.mk.injEq] at h
  obtain ⟨rfl,rfl⟩:=h
  refine fnOk_of (T:=tab) (B:=[]) [0,1,2,6] Try.func58 rfl rfl (by kernel_rfl) (Nat.le_of_ble_eq_true rfl) mixed tabOk bookNil (by kernel_rfl) ?_
  intro L lp rr hL hr hf hlp
  cbv
  subst hL hr
  simp [std,inRange]
 ·cases h
def c_laws_toInt64S (f0:List V→List V) (q:List V→Prop):Contract:=fun
 |[.slc false 2 (.int .i64 0) a0]=>some ([q a0],.slc true 2 (.int .i64 0) (f0 a0))
 |_=>none
def same (es:List V):List V:=es
def IsIs (es:List V):Prop:=(∃l,es=I l)∧es.length≤2147483647
def f0_eqI (a b:List V):Bool:=decide (unI a=unI b)
def yes (_:List V):Bool:=true
end Go.Ax
set_option linter.all false
namespace Go.Ax
open Go.Proofs
def c_i_i (f0:Int→Int):Contract:=fun
 |[.int .i64 a0]=>some ([],.int .i64 (f0 a0))
 |_=>none
def absW (a:Int):Int:=bif decide (a<0) then IntKind.wrap .i64 (0-a) else a
set_option maxRecDepth 100000 in
theorem s_impl_abs:Sat Try.prog 153 (c_i_i absW):=by
 intro args ps r h hp
 unfold c_i_i at h
 split at h
 ·rename_i a0
  simp only [Option.some.injEq,Prod.mk.injEq] at h
  obtain ⟨rfl,rfl⟩:=h
  refine fnOk_of (T:=tab) (B:=[]) [0,2] Try.func153 rfl rfl (by kernel_rfl) (Nat.le_of_ble_eq_true rfl) mixed tabOk bookNil (by kernel_rfl) ?_
  intro L lp rr hL hr hf hlp
  conv=>cbv
  simp only [stdEqs hL,imp_self,true_and]
  subst hr
  refine ⟨fun h=> ?_,fun h=> ?_⟩<;>simp only [absW,h,cond_true,cond_false]
 ·cases h
def c_ii_i (f0:Int→Int→Int) (q:Int→Int→Prop):Contract:=fun
 |[.int .i64 a0,.int .i64 a1]=>some ([q a0 a1],.int .i64 (f0 a0 a1))
 |_=>none
def ne0 (_ b:Int):Prop:=b≠0
def gcdGo (a b:Int):Int:=if _h:0<b then gcdGo b (a.tmod b) else a
termination_by b.toNat
decreasing_by
 have:=Int.tmod_lt_of_pos a (by assumption)
 omega
def gcdW (a b:Int):Int:=gcdGo (absW a) (absW b)
def always (_ _:Int):Prop:=True
theorem gcdGo_pos {a b:Int} (h:0<b):gcdGo a b=gcdGo b (a.tmod b):=by rw [gcdGo,dif_pos h]
theorem gcdGo_neg {a b:Int} (h:¬0<b):gcdGo a b=a:=by rw [gcdGo,dif_neg h]
set_option maxRecDepth 100000 in
theorem s_impl_divisor:Sat Try.prog 139 (c_ii_i gcdW always):=by
 intro args ps r h hp
 unfold c_ii_i at h
 split at h
 ·rename_i a0 a1
  simp only [Option.some.injEq,Prod.mk.injEq] at h
  obtain ⟨rfl,rfl⟩:=h
  generalize HA:absW=A0
  refine fnOk_of (T:=tab) (B:=[(153,c_i_i A0)]) [0,1,4] Try.func139 rfl rfl (by kernel_rfl) (Nat.le_of_ble_eq_true rfl) mixed tabOk (by subst HA;exact bookCons s_impl_abs bookNil) (by kernel_rfl) ?_
  intro L lp rr hL hr hf hlp
  conv=>cbv
  refine hlp (Int×Int) _ _ _ [0,1] (fun x=>[(0,none,.val (.int .i64 x.1)),(1,none,.val (.int .i64 x.2))])
   (fun x=>gcdW a0 a1=gcdGo x.1 x.2) (fun x=>x.2.toNat) (A0 a0,A0 a1) (by subst hL;rfl) (by subst HA;rfl) ?_
  rintro ⟨a,b⟩ hI hfx ag hag
  conv=>cbv
  simp only [stdEqs hL,imp_self,true_and,decide_eq_true_eq,decide_eq_false_iff_not]
  simp only at hI
  refine ⟨fun h=>⟨by omega,hag (b,a.tmod b) (by rw [hI,gcdGo_pos h]) ?_⟩,fun h=> ?_⟩
  ·have:=Int.tmod_lt_of_pos a h
   simp only
   omega
  ·subst hr
   rw [hI,gcdGo_neg h]
 ·cases h
set_option maxRecDepth 100000 in
theorem s_spec_l01Gcd:Sat Try.prog 116 (c_ii_i gcdW always):=by
 intro args ps r h hp
 unfold c_ii_i at h
 split at h
 ·rename_i a0 a1
  simp only [Option.some.injEq,Prod.mk.injEq] at h
  obtain ⟨rfl,rfl⟩:=h
  refine fnOk_of (T:=tab) (B:=[]) [0,1,4,5] Try.func116 rfl rfl (by kernel_rfl) (Nat.le_of_ble_eq_true rfl) mixed tabOk bookNil (by kernel_rfl) ?_
  intro L lp rr hL hr hf hlp
  conv=>cbv
  simp only [stdEqs hL,imp_self,true_and,decide_eq_true_eq,decide_eq_false_iff_not]
  refine ⟨fun h0=>⟨fun h1=> ?_,fun h1=> ?_⟩,fun h0=>⟨fun h1=> ?_,fun h1=> ?_⟩⟩
  ·refine hlp (Int×Int) _ _ _ [0,1] (fun x=>[(0,none,.val (.int .i64 x.1)),(1,none,.val (.int .i64 x.2))])
    (fun x=>gcdW a0 a1=gcdGo x.1 x.2) (fun x=>x.2.toNat) (IntKind.wrap .i64 (0-a0),IntKind.wrap .i64 (0-a1)) (by subst hL;rfl) (by simp [gcdW,absW,h0,h1]) ?_
   rintro ⟨a,b⟩ hI hfx ag hag
   conv=>cbv
   simp only [stdEqs hL,imp_self,true_and,decide_eq_true_eq,decide_eq_false_iff_not]
   simp only at hI
   refine ⟨fun h=>⟨by omega,hag (b,a.tmod b) (by rw [hI,gcdGo_pos h]) ?_⟩,fun h=> ?_⟩
   ·have:=Int.tmod_lt_of_pos a h
    simp only
    omega
   ·subst hr
    rw [hI,gcdGo_neg h]
  ·refine hlp (Int×Int) _ _ _ [0,1] (fun x=>[(0,none,.val (.int .i64 x.1)),(1,none,.val (.int .i64 x.2))])
    (fun x=>gcdW a0 a1=gcdGo x.1 x.2) (fun x=>x.2.toNat) (IntKind.wrap .i64 (0-a0),a1) (by subst hL;rfl) (by simp [gcdW,absW,h0,h1]) ?_
   rintro ⟨a,b⟩ hI hfx ag hag
   conv=>cbv
   simp only [stdEqs hL,imp_self,true_and,decide_eq_true_eq,decide_eq_false_iff_not]
   simp only at hI
   refine ⟨fun h=>⟨by omega,hag (b,a.tmod b) (by rw [hI,gcdGo_pos h]) ?_⟩,fun h=> ?_⟩
   ·have:=Int.tmod_lt_of_pos a h
    simp only
    omega
   ·subst hr
    rw [hI,gcdGo_neg h]
  ·refine hlp (Int×Int) _ _ _ [0,1] (fun x=>[(0,none,.val (.int .i64 x.1)),(1,none,.val (.int .i64 x.2))])
    (fun x=>gcdW a0 a1=gcdGo x.1 x.2) (fun x=>x.2.toNat) (a0,IntKind.wrap .i64 (0-a1)) (by subst hL;rfl) (by simp [gcdW,absW,h0,h1]) ?_
   rintro ⟨a,b⟩ hI hfx ag hag
   conv=>cbv
   simp only [stdEqs hL,imp_self,true_and,decide_eq_true_eq,decide_eq_false_iff_not]
   simp only at hI
   refine ⟨fun h=>⟨by omega,hag (b,a.tmod b) (by rw [hI,gcdGo_pos h]) ?_⟩,fun h=> ?_⟩
   ·have:=Int.tmod_lt_of_pos a h
    simp only
    omega
   ·subst hr
    rw [hI,gcdGo_neg h]
  ·refine hlp (Int×Int) _ _ _ [0,1] (fun x=>[(0,none,.val (.int .i64 x.1)),(1,none,.val (.int .i64 x.2))])
    (fun x=>gcdW a0 a1=gcdGo x.1 x.2) (fun x=>x.2.toNat) (a0,a1) (by subst hL;rfl) (by simp [gcdW,absW,h0,h1]) ?_
   rintro ⟨a,b⟩ hI hfx ag hag
   conv=>cbv
   simp only [stdEqs hL,imp_self,true_and,decide_eq_true_eq,decide_eq_false_iff_not]
   simp only at hI
   refine ⟨fun h=>⟨by omega,hag (b,a.tmod b) (by rw [hI,gcdGo_pos h]) ?_⟩,fun h=> ?_⟩
   ·have:=Int.tmod_lt_of_pos a h
    simp only
    omega
   ·subst hr
    rw [hI,gcdGo_neg h]
 ·cases h
theorem Sh.ints {o:Bool} {e:TypeId} {d:V} {xs ys:List Int} (h:xs.length=ys.length):Sh (.slc o e d (I xs)) (.slc o e d (I ys)):=by
 refine .slc o e d _ _ (by simp [h]) (fun i x y hx hy=> ?_)
 simp only [I,List.getElem?_map,Option.map_eq_some_iff] at hx hy
 obtain ⟨a,_,rfl⟩:=hx
 obtain ⟨b,_,rfl⟩:=hy
 exact .scal _ _ rfl rfl
end Go.Ax
set_option linter.all false
namespace Go.Ax
open Go.Proofs
theorem drop_two {xs:List Int} {i:Nat} (h:i+1<xs.length):xs.drop i=xs.getD i 0::xs.getD (i+1) 0::xs.drop (i+2):=by
 rw [drop_cons 0 (by omega),drop_cons 0 h]
theorem noown_one (n:Int):V.owneds [V.int .i64 n]=false:=rfl
theorem solid1 {v:V} (h:v.solid=true):∀x∈[v],x.solid=true:=by
 intro x hx
 simp at hx
 subst hx
 exact h
theorem solid_one (n:Int):∀x∈[V.int .i64 n],x.solid=true:=by
 intro x hx
 simp at hx
 subst hx
 rfl
def dvGo (d:Int):List Int→List Int
 |[]=>[]
 |t::l=>gcdW d t::dvGo (gcdW d t) l
def dv (xs:List Int):List Int:=dvGo 0 xs
theorem dvGo_len:∀(l:List Int) (d:Int),(dvGo d l).length=l.length
 |[],_=>rfl
 |_::l,_=>by simp [dvGo,dvGo_len l]
def c_l_l (f0:List V→List V) (q:List V→Prop):Contract:=fun
 |[.slc false 2 (.int .i64 0) a0]=>some ([q a0],.slc true 2 (.int .i64 0) (f0 a0))
 |_=>none
def c_b_l (f0:List V→List V) (q:List V→Prop):Contract:=fun
 |[.agg [.slc false 2 (.int .i64 0) a0]]=>some ([q a0],.slc true 2 (.int .i64 0) (f0 a0))
 |_=>none
def f0_dv (es:List V):List V:=I (dv (unI es))
set_option maxHeartbeats 1000000 in
set_option maxRecDepth 100000 in
theorem s_impl_divisors:Sat Try.prog 146 (c_l_l f0_dv IsIs):=by
 intro args ps r h hp
 unfold c_l_l at h
 split at h
 ·rename_i a0
  simp only [Option.some.injEq,Prod.mk.injEq] at h
  obtain ⟨rfl,rfl⟩:=h
  obtain ⟨⟨xs,hxs⟩,hlen⟩:IsIs a0:=(alls_cons.1 hp).1
  have hxl:a0.length=xs.length:=by rw [hxs,I_length]
  rw [hxl] at hlen
  obtain ⟨m,hm⟩:∃m:Int,m=a0.length:=⟨_,rfl⟩
  generalize H_gcdW:gcdW=F_gcdW
  generalize H_always:always=F_always
  refine fnOk_ofI (T:=tab) (B:=[(139,c_ii_i F_gcdW F_always)]) (Bi:=[]) [0,2,3,4,6,8,9,10] Try.func146 rfl rfl (by kernel_rfl) (Nat.le_of_ble_eq_true rfl) mixed tabOk (by subst H_gcdW H_always;exact (bookCons s_impl_divisor bookNil)) (by subst H_gcdW H_always;exact bookINil) (by kernel_rfl) ?_
  intro L lp rr hL hr hf hlp
  conv=>cbv
  refine hlp (List V×Int×Int) _ _ _ [3,4,8,9,10] (fun x=>[(3,none,.val (.slc true 2 (.int .i64 0) x.1)),(4,none,.val (.int .i64 x.2.1)),(8,none,.val (.slc false 2 (.int .i64 0) a0)),(9,none,.val (.int .i64 m)),(10,none,.val (.int .i64 x.2.2))])
   (fun x=>0≤x.2.2∧x.2.2≤xs.length∧∃pre:List Int,x.1=I pre∧pre.length=x.2.2.toNat∧dv xs=pre++dvGo x.2.1 (xs.drop x.2.2.toNat)) (fun x=>(xs.length-x.2.2).toNat) ([],0,0) (by subst hL hm;rfl) ⟨by simp,by simp,[],rfl,rfl,by simp [dv]⟩ ?_
  rintro ⟨es,d,i⟩ ⟨i0,i1,pre,h1,h2,h3⟩ hfx ag hag
  conv=>cbv
  have hm':m=xs.length:=by rw [hm,hxl]
  have hg:a0.getD i.toNat (.int .i64 0)= .int .i64 (xs.getD i.toNat 0):=by rw [hxs,I_getD]
  simp only at i0 i1 h1 h2 h3
  have hel:es.length=pre.length:=by rw [h1,I_length]
  simp only [stdEqs hL,hxl,hg,hel,ok_int,toI_int,imp_self,true_and,decide_eq_true_eq,decide_eq_false_iff_not]
  refine ⟨fun h=>⟨i0,by omega,?_,rfl,by simp;omega,solid_one _,?_⟩,fun h=> ?_⟩
  ·subst H_always;trivial
  ·rw [wrap_id (n:=i+1) (by omega) (by omega)]
   subst H_gcdW
   refine hag (es++[.int .i64 (gcdW d (xs.getD i.toNat 0))],gcdW d (xs.getD i.toNat 0),i+1) ⟨by simp only;omega,by simp only;omega,pre++[gcdW d (xs.getD i.toNat 0)],by rw [h1];simp [I],by simp;omega,?_⟩ (by simp only;omega)
   simp only [toNat_succ i0]
   rw [h3,drop_cons 0 (by omega),dvGo]
   simp
  ·subst hr
   rw [List.drop_eq_nil_of_le (by omega)] at h3
   simp only [dvGo,List.append_nil] at h3
   rw [f0_dv,hxs,unI_I,h3,h1]
 ·cases h
theorem gcdW_zero {t:Int} (h:0<t):gcdW 0 t=t:=by
 have e1:absW 0=0:=rfl
 have e2:absW t=t:=by
  have:decide (t<0)=false:=by simp;omega
  rw [absW,this]
  rfl
 rw [gcdW,e1,e2,gcdGo_pos h,Int.zero_tmod,gcdGo_neg (by omega)]
def IsP (es:List V):Prop:=∃(t:Int) (l:List Int),es=I (t::l)∧0<t∧l.length<2147483647
set_option maxHeartbeats 1000000 in
set_option maxRecDepth 100000 in
theorem s_spec_l03Divisors:Sat Try.prog 156 (c_b_l f0_dv IsP):=by
 intro args ps r h hp
 unfold c_b_l at h
 split at h
 ·rename_i a0
  simp only [Option.some.injEq,Prod.mk.injEq] at h
  obtain ⟨rfl,rfl⟩:=h
  obtain ⟨t0,l0,hxs,ht,hlen⟩:IsP a0:=(alls_cons.1 hp).1
  obtain ⟨xs,hx⟩:∃xs,xs=t0::l0:=⟨_,rfl⟩
  have hxs':a0=I xs:=by rw [hxs,hx]
  have hxl:a0.length=xs.length:=by rw [hxs',I_length]
  have hxn:xs.length=l0.length+1:=by rw [hx];rfl
  have hx0:xs.getD 0 0=t0:=by rw [hx];rfl
  generalize H_gcdW:gcdW=F_gcdW
  generalize H_always:always=F_always
  refine fnOk_ofI (T:=tab) (B:=[(116,c_ii_i F_gcdW F_always)]) (Bi:=[]) [0,1,2,3,4] Try.func156 rfl rfl (by kernel_rfl) (Nat.le_of_ble_eq_true rfl) mixed tabOk (by subst H_gcdW H_always;exact (bookCons s_spec_l01Gcd bookNil)) (by subst H_gcdW H_always;exact bookINil) (by kernel_rfl) ?_
  intro L lp rr hL hr hf hlp
  conv=>cbv
  have hg0:a0.getD (Int.toNat 0) (.int .i64 0)= .int .i64 (xs.getD 0 0):=by rw [hxs',I_getD];rfl
  simp only [stdEqs hL,hxl,hg0,ok_int,toI_int,imp_self,true_and,decide_eq_true_eq,decide_eq_false_iff_not]
  refine ⟨by omega,by omega,?_⟩
  refine hlp (List V×Int) _ _ _ [1,3,4] (fun x=>[(1,none,.val (.box 26 (.agg [.slc false 2 (.int .i64 0) a0]))),(3,none,.val (.slc true 2 (.int .i64 0) x.1)),(4,none,.val (.int .i64 x.2))])
   (fun x=>0<x.2∧x.2≤xs.length∧∃(pre:List Int) (d:Int),x.1=I pre∧pre.length=x.2.toNat∧pre.getD (x.2.toNat-1) 0=d∧dv xs=pre++dvGo d (xs.drop x.2.toNat)) (fun x=>(xs.length-x.2).toNat) ([.int .i64 (xs.getD 0 0)],1) (by subst hL;rfl)
   ⟨by simp,by simp only;omega,[t0],t0,by rw [hx0];rfl,rfl,rfl,by rw [hx];simp [dv,dvGo,gcdW_zero ht]⟩ ?_
  rintro ⟨es,i⟩ ⟨i0,i1,pre,d,h1,h2,h4,h3⟩ hfx ag hag
  conv=>cbv
  have hg:a0.getD i.toNat (.int .i64 0)= .int .i64 (xs.getD i.toNat 0):=by rw [hxs',I_getD]
  simp only at i0 i1 h1 h2 h3 h4
  have hel:es.length=pre.length:=by rw [h1,I_length]
  have ew:IntKind.wrap .i64 (i-1)=i-1:=wrap_id (by omega) (by omega)
  have ge:es.getD (i-1).toNat (.int .i64 0)= .int .i64 d:=by rw [h1,I_getD,show (i-1).toNat=i.toNat-1 by omega,h4]
  simp only [stdEqs hL,hxl,hg,hel,ew,ge,ok_int,toI_int,imp_self,true_and,decide_eq_true_eq,decide_eq_false_iff_not]
  refine ⟨fun h=>⟨by omega,by omega,by omega,by omega,by omega,?_,rfl,by simp;omega,solid_one _,?_⟩,fun h=> ?_⟩
  ·subst H_always;trivial
  ·rw [wrap_id (n:=i+1) (by omega) (by omega)]
   subst H_gcdW
   refine hag (es++[.int .i64 (gcdW d (xs.getD i.toNat 0))],i+1) ⟨by simp only;omega,by simp only;omega,pre++[gcdW d (xs.getD i.toNat 0)],gcdW d (xs.getD i.toNat 0),by rw [h1];simp [I],by simp;omega,?_,?_⟩ (by simp only;omega)
   ·simp only [toNat_succ (Int.le_of_lt i0),Nat.add_sub_cancel]
    rw [List.getD_eq_getElem?_getD,List.getElem?_append_right (by omega),show i.toNat-pre.length=0 by omega]
    rfl
   ·simp only [toNat_succ (Int.le_of_lt i0)]
    rw [h3,drop_cons 0 (by omega),dvGo]
    simp
  ·subst hr
   rw [List.drop_eq_nil_of_le (by omega)] at h3
   simp only [dvGo,List.append_nil] at h3
   rw [f0_dv,hxs',unI_I,h3,h1]
 ·cases h
def asc:List Int→Bool
 |a::b::l=>bif decide (b≤a) then false else asc (b::l)
 |_=>true
def c_l_bool (f0:List V→Bool) (q:List V→Prop):Contract:=fun
 |[.slc false 2 (.int .i64 0) a0]=>some ([q a0],.bool (f0 a0))
 |_=>none
def f0_asc (es:List V):Bool:=asc (unI es)
set_option maxHeartbeats 1000000 in
set_option maxRecDepth 100000 in
theorem s_impl_ascends:Sat Try.prog 113 (c_l_bool f0_asc IsI):=by
 intro args ps r h hp
 unfold c_l_bool at h
 split at h
 ·rename_i a0
  simp only [Option.some.injEq,Prod.mk.injEq] at h
  obtain ⟨rfl,rfl⟩:=h
  obtain ⟨xs,hxs⟩:IsI a0:=(alls_cons.1 hp).1
  have hxl:a0.length=xs.length:=by rw [hxs,I_length]
  refine fnOk_ofI (T:=tab) (B:=[]) (Bi:=[]) [0,2,3] Try.func113 rfl rfl (by kernel_rfl) (Nat.le_of_ble_eq_true rfl) mixed tabOk (by exact bookNil) (by exact bookINil) (by kernel_rfl) ?_
  intro L lp rr hL hr hf hlp
  have hlen:=hf.1.1
  rw [hxl] at hlen
  have hrr:rr= .bool (asc xs):=by rw [hr,f0_asc,hxs,unI_I]
  conv=>cbv
  refine hlp (Int) _ _ _ [0,3] (fun x=>[(0,none,.val (.slc false 2 (.int .i64 0) a0)),(3,none,.val (.int .i64 x))])
   (fun x=>0<x∧asc xs=asc (xs.drop (x.toNat-1))) (fun x=>(xs.length-x).toNat) 1 (by subst hL;rfl) (by simp) ?_
  rintro i ⟨i0,h2⟩ hfx ag hag
  conv=>cbv
  have hg:a0.getD i.toNat (.int .i64 0)= .int .i64 (xs.getD i.toNat 0):=by rw [hxs,I_getD]
  have hg':a0.getD (i-1).toNat (.int .i64 0)= .int .i64 (xs.getD (i.toNat-1) 0):=by rw [hxs,I_getD,show (i-1).toNat=i.toNat-1 by omega]
  have key:i<xs.length→xs.drop (i.toNat-1)=xs.getD (i.toNat-1) 0::xs.getD i.toNat 0::xs.drop (i.toNat+1):=by
   intro h
   rw [drop_two (by omega)]
   rw [show i.toNat-1+1=i.toNat by omega,show i.toNat-1+2=i.toNat+1 by omega]
  by_cases hb:i<xs.length
  ·have ew:IntKind.wrap .i64 (i-1)=i-1:=wrap_id (by omega) (by omega)
   simp only [stdEqs hL,hxl,hg,ew,hg',ok_int,toI_int,imp_self,true_and,decide_eq_true_eq,decide_eq_false_iff_not]
   refine ⟨fun h=>⟨by omega,by omega,by omega,by omega,fun h4=> ?_,fun h4=> ?_⟩,fun h=>absurd hb h⟩
   ·rw [hrr,h2,key h,asc,decide_eq_true h4]
    rfl
   ·rw [wrap_id (n:=i+1) (by omega) (by omega)]
    refine hag (i+1) ⟨by omega,?_⟩ (by omega)
    have e1:xs.drop i.toNat=xs.getD i.toNat 0::xs.drop (i.toNat+1):=drop_cons 0 (by omega)
    rw [h2,key h,asc,decide_eq_false h4,show (i+1).toNat-1=i.toNat by omega,e1]
    rfl
  ·have hz:asc (xs.drop (i.toNat-1))=true:=by
    have hl:(xs.drop (i.toNat-1)).length≤1:=by rw [List.length_drop];omega
    match xs.drop (i.toNat-1),hl with
    |[],_=>rfl
    |[_],_=>rfl
   simp only [stdEqs hL,hxl,decide_eq_true_eq,decide_eq_false_iff_not]
   exact ⟨fun h=>absurd h hb,fun _=>by rw [hrr,h2,hz]⟩
 ·cases h
theorem gcdGo_eq:∀(n:Nat) (a b:Int),b.toNat≤n→0≤a→0≤b→gcdGo a b=(Nat.gcd a.toNat b.toNat:Int)
 |0,a,b,hn,ha,hb=>by
  obtain rfl:b=0:=by omega
  rw [gcdGo_neg (by omega)]
  simp
  omega
 |n+1,a,b,hn,ha,hb=>by
  by_cases h:0<b
  ·have h1:(a.tmod b)=((a.toNat%b.toNat:Nat):Int):=by
    obtain ⟨x,rfl⟩:=Int.eq_ofNat_of_zero_le ha
    obtain ⟨y,rfl⟩:=Int.eq_ofNat_of_zero_le hb
    rw [Int.tmod_eq_emod_of_nonneg (Int.natCast_nonneg x)]
    simp
   have h2:a.toNat%b.toNat<b.toNat:=Nat.mod_lt _ (by omega)
   rw [gcdGo_pos h,gcdGo_eq n b (a.tmod b) (by rw [h1,Int.toNat_natCast];omega) hb (by rw [h1];exact Int.natCast_nonneg _),h1]
   simp only [Int.toNat_natCast]
   rw [Nat.gcd_comm a.toNat b.toNat,Nat.gcd_rec b.toNat a.toNat,Nat.gcd_comm]
  ·obtain rfl:b=0:=by omega
   rw [gcdGo_neg (by omega)]
   simp
   omega
theorem absW_pos {t:Int} (h:0<t):absW t=t:=by
 have:decide (t<0)=false:=by simp;omega
 rw [absW,this]
 rfl
theorem gcdW_le {a b:Int} (ha:0<a) (hb:0<b):0<gcdW a b∧gcdW a b≤a∧gcdW a b≤b:=by
 rw [gcdW,absW_pos ha,absW_pos hb,gcdGo_eq b.toNat a b (Nat.le_refl _) (by omega) (by omega)]
 have h1:=Nat.gcd_pos_of_pos_left b.toNat (show 0<a.toNat by omega)
 have h2:=Nat.le_of_dvd (show 0<a.toNat by omega) (Nat.gcd_dvd_left a.toNat b.toNat)
 have h3:=Nat.le_of_dvd (show 0<b.toNat by omega) (Nat.gcd_dvd_right a.toNat b.toNat)
 omega
def dec:List Int→Bool
 |a::b::l=>bif decide (a≤b) then false else dec (b::l)
 |[a]=>a==1
 |[]=>false
def f0_falls (es:List V):Bool:=dec (dv (unI es))
def q_falls (es:List V):Prop:=IsIs es∧es≠[]
set_option maxHeartbeats 1000000 in
set_option maxRecDepth 100000 in
theorem s_impl_falls:Sat Try.prog 114 (c_l_bool f0_falls q_falls):=by
 intro args ps r h hp
 unfold c_l_bool at h
 split at h
 ·rename_i a0
  simp only [Option.some.injEq,Prod.mk.injEq] at h
  obtain ⟨rfl,rfl⟩:=h
  obtain ⟨⟨⟨xs,hxs⟩,hlen⟩,hne⟩:q_falls a0:=(alls_cons.1 hp).1
  have hxl:a0.length=xs.length:=by rw [hxs,I_length]
  obtain ⟨ds,hds⟩:∃ds,ds=dv xs:=⟨_,rfl⟩
  have hdl:ds.length=xs.length:=by rw [hds,dv,dvGo_len]
  have hpos:0<xs.length:=by
   cases xs with
   |nil=>exact absurd hxs hne
   |cons x l=>simp
  have hf0:f0_dv (V.frzs a0)=I ds:=by rw [hxs,I_frzs,f0_dv,unI_I,hds]
  have hq:IsIs (V.frzs a0):=by rw [hxs,I_frzs];exact ⟨⟨xs,rfl⟩,by rw [←hxs];exact hlen⟩
  have hrr0:f0_falls a0=dec ds:=by rw [f0_falls,hxs,unI_I,hds]
  rw [hxl] at hlen
  generalize H_f0_dv:f0_dv=F_f0_dv
  generalize H_IsIs:IsIs=F_IsIs
  refine fnOk_ofI (T:=tab) (B:=[(146,c_l_l F_f0_dv F_IsIs)]) (Bi:=[]) [0,2,3,4] Try.func114 rfl rfl (by kernel_rfl) (Nat.le_of_ble_eq_true rfl) mixed tabOk (by subst H_f0_dv H_IsIs;exact (bookCons s_impl_divisors bookNil)) (by subst H_f0_dv H_IsIs;exact bookINil) (by kernel_rfl) ?_
  intro L lp rr hL hr hf hlp
  conv=>cbv
  have hF:F_f0_dv (V.frzs a0)=I ds:=by rw [←H_f0_dv];exact hf0
  simp only [stdEqs hL,hF]
  refine ⟨by rw [←H_IsIs];exact hq,?_⟩
  obtain ⟨es,hes⟩:∃es,es=I ds:=⟨_,rfl⟩
  have hel:es.length=ds.length:=by rw [hes,I_length]
  refine hlp (Int) _ _ _ [3,4] (fun x=>[(3,none,.val (.slc true 2 (.int .i64 0) es)),(4,none,.val (.int .i64 x))])
   (fun x=>0<x∧x≤ds.length∧dec ds=dec (ds.drop (x.toNat-1))) (fun x=>(ds.length-x).toNat) 1 (by subst hL hes;rfl) ⟨by simp,by omega,by simp⟩ ?_
  rintro i ⟨i0,i1,h2⟩ hfx ag hag
  conv=>cbv
  have ew:IntKind.wrap .i64 (i-1)=i-1:=wrap_id (by omega) (by omega)
  have ew2:IntKind.wrap .i64 ((ds.length:Int)-1)=(ds.length:Int)-1:=wrap_id (by omega) (by omega)
  have hg:es.getD i.toNat (.int .i64 0)= .int .i64 (ds.getD i.toNat 0):=by rw [hes,I_getD]
  have hg':es.getD (i-1).toNat (.int .i64 0)= .int .i64 (ds.getD (i.toNat-1) 0):=by rw [hes,I_getD,show (i-1).toNat=i.toNat-1 by omega]
  have hg2:es.getD ((ds.length:Int)-1).toNat (.int .i64 0)= .int .i64 (ds.getD (ds.length-1) 0):=by rw [hes,I_getD,show ((ds.length:Int)-1).toNat=ds.length-1 by omega]
  simp only [stdEqs hL,hel,hg,hg',hg2,ew,ew2,ok_int,toI_int,imp_self,true_and,decide_eq_true_eq,decide_eq_false_iff_not]
  have hrr:rr= .bool (dec ds):=by rw [hr,hrr0]
  refine ⟨fun h=> ?_,fun h=> ?_⟩
  ·have key:ds.drop (i.toNat-1)=ds.getD (i.toNat-1) 0::ds.getD i.toNat 0::ds.drop (i.toNat+1):=by
    rw [drop_two (by omega)]
    rw [show i.toNat-1+1=i.toNat by omega,show i.toNat-1+2=i.toNat+1 by omega]
   (repeat' first|(intro _)|(apply And.intro))<;>try omega
   ·rename_i h4
    rw [hrr,h2,key,dec,decide_eq_true h4]
    rfl
   ·rename_i h4
    rw [wrap_id (n:=i+1) (by omega) (by omega)]
    refine hag (i+1) ⟨by omega,by omega,?_⟩ (by omega)
    have e1:ds.drop i.toNat=ds.getD i.toNat 0::ds.drop (i.toNat+1):=drop_cons 0 (by omega)
    rw [h2,key,dec,decide_eq_false h4,show (i+1).toNat-1=i.toNat by omega,e1]
    rfl
  ·(repeat' first|(intro _)|(apply And.intro))<;>try omega
   have e1:ds.drop (i.toNat-1)=[ds.getD (ds.length-1) 0]:=by
    rw [show i.toNat-1=ds.length-1 by omega,drop_cons 0 (by omega),List.drop_eq_nil_of_le (by omega)]
   rw [hrr,h2,e1]
   rfl
 ·cases h
end Go.Ax
set_option linter.all false
namespace Go.Ax
open Go.Proofs
def isBr (xs:List Int):Bool:=
 bif (bif (bif (bif decide (0<(xs.length:Int)) then inRange (xs.getD 0 0) 1 64 else false) then asc xs else false) then within xs 1 2000 else false) then dec (dv xs) else false
def brGo (p e:Int):List Int→Bool
 |[]=>e==1
 |t::l=>bif !inRange t (IntKind.wrap .i64 (p+1)) 2000 then false else bif gcdW e t==e then false else brGo t (gcdW e t) l
theorem brGo_eq:∀(l:List Int) (p e:Int),1≤p→p≤2000→1≤e→brGo p e l=(asc (p::l)&&within l 1 2000&&dec (e::dvGo e l))
 |[],p,e,_,_,_=>by simp [brGo,asc,within,dvGo,dec]
 |t::l,p,e,h1,h2,h3=>by
  have ew:IntKind.wrap .i64 (p+1)=p+1:=wrap_id (by omega) (by omega)
  simp only [brGo,ew]
  by_cases hr:p+1≤t∧t≤2000
  ·have e1:inRange t (p+1) 2000=true:=by simp [inRange,hr]
   have e2:asc (p::t::l)=asc (t::l):=by simp [asc];omega
   have e3:within (t::l) 1 2000=within l 1 2000:=by simp [within,inRange];omega
   obtain ⟨g1,g2,_⟩:=gcdW_le (a:=e) (b:=t) (by omega) (by omega)
   rw [e1,e2,e3]
   simp only [Bool.not_true,cond_false,dvGo,dec]
   by_cases hg:gcdW e t=e
   ·simp [hg]
   ·have e4:decide (e≤gcdW e t)=false:=by simp;omega
    have e5:(gcdW e t==e)=false:=by simpa using hg
    rw [e4,e5]
    simp only [cond_false]
    exact brGo_eq l t (gcdW e t) (by omega) (by omega) (by omega)
  ·have e1:inRange t (p+1) 2000=false:=by
    simp only [inRange,Bool.and_eq_false_iff,decide_eq_false_iff_not]
    omega
   rw [e1]
   simp only [Bool.not_false,cond_true]
   by_cases hp:t≤p
   ·simp [asc,hp]
   ·have:within (t::l) 1 2000=false:=by
     have:inRange t 1 2000=false:=by
      simp only [inRange,Bool.and_eq_false_iff,decide_eq_false_iff_not]
      omega
     simp [within,this]
    simp [this]
def isBrS (xs:List Int):Bool:=bif (bif ((xs.length:Int)==0) then true else !inRange (xs.getD 0 0) 1 64) then false else brGo (xs.getD 0 0) (xs.getD 0 0) (xs.drop 1)
theorem isBrS_eq (xs:List Int):isBrS xs=isBr xs:=by
 cases xs with
 |nil=>rfl
 |cons t l=>
  have e0:(((t::l).length:Int)==0)=false:=by
   rw [beq_eq_false_iff_ne]
   simp only [List.length_cons]
   omega
  have e1:decide (0<((t::l).length:Int))=true:=by
   rw [decide_eq_true_eq]
   simp only [List.length_cons]
   omega
  simp only [isBrS,isBr,e0,e1,cond_true,cond_false,List.getD_cons_zero,List.drop_succ_cons,List.drop_zero]
  cases hr:inRange t 1 64 with
  |false=>simp
  |true=>
   simp only [inRange,Bool.and_eq_true,decide_eq_true_eq] at hr
   rw [brGo_eq l t t (by omega) (by omega) (by omega)]
   have e2:dv (t::l)=t::dvGo t l:=by simp only [dv,dvGo];rw [gcdW_zero (by omega)]
   have e3:within (t::l) 1 2000=within l 1 2000:=by simp [within,inRange];omega
   rw [e2,e3]
   cases asc (t::l)<;>cases within l 1 2000<;>simp
theorem bif3 {A B C D:Bool} (h:(bif (bif (bif D then A else false) then B else false) then C else false)=true):D=true:=by
 cases D<;>simp_all
def c_b_bool (f0:List V→Bool) (q:List V→Prop):Contract:=fun
 |[.agg [.slc false 2 (.int .i64 0) a0]]=>some ([q a0],.bool (f0 a0))
 |_=>none
def f0_isBr (es:List V):Bool:=isBr (unI es)
set_option maxHeartbeats 1000000 in
set_option maxRecDepth 100000 in
theorem s_impl_IsBranch:Sat Try.prog 53 (c_b_bool f0_isBr IsIs):=by
 intro args ps r h hp
 unfold c_b_bool at h
 split at h
 ·rename_i a0
  simp only [Option.some.injEq,Prod.mk.injEq] at h
  obtain ⟨rfl,rfl⟩:=h
  obtain ⟨⟨xs,hxs⟩,hlen⟩:IsIs a0:=(alls_cons.1 hp).1
  have hxl:a0.length=xs.length:=by rw [hxs,I_length]
  have hg:a0.getD (Int.toNat 0) (.int .i64 0)= .int .i64 (xs.getD 0 0):=by rw [hxs,I_getD];rfl
  have hrr0:f0_isBr a0=isBr xs:=by rw [f0_isBr,hxs,unI_I]
  have q1:IsI (V.frzs a0):=by rw [hxs,I_frzs];exact ⟨xs,rfl⟩
  have q2:xs≠[]→q_falls (V.frzs a0):=by
   intro h
   rw [hxs,I_frzs]
   refine ⟨⟨⟨xs,rfl⟩,by rw [←hxs];exact hlen⟩,?_⟩
   cases xs with
   |nil=>exact absurd rfl h
   |cons x l=>simp [I]
  have g1:f0_asc (V.frzs a0)=asc xs:=by rw [hxs,I_frzs,f0_asc,unI_I]
  have g2:f_within (V.frzs a0) 1 2000=within xs 1 2000:=by rw [hxs,I_frzs,f_within,unI_I]
  have g3:f0_falls (V.frzs a0)=dec (dv xs):=by rw [hxs,I_frzs,f0_falls,unI_I]
  generalize H_inRange:inRange=F_inRange
  generalize H_f0_asc:f0_asc=F_f0_asc
  generalize H_IsI:IsI=F_IsI
  generalize H_f_within:f_within=F_f_within
  generalize H_f0_falls:f0_falls=F_f0_falls
  generalize H_q_falls:q_falls=F_q_falls
  refine fnOk_ofI (T:=tab) (B:=[(54,c_impl_inRange F_inRange),(113,c_l_bool F_f0_asc F_IsI),(90,c_impl_within F_f_within F_IsI),(114,c_l_bool F_f0_falls F_q_falls)]) (Bi:=[]) [0,1,2,3] Try.func53 rfl rfl (by kernel_rfl) (Nat.le_of_ble_eq_true rfl) mixed tabOk (by subst H_inRange H_f0_asc H_IsI H_f_within H_f0_falls H_q_falls;exact (bookCons s_impl_inRange (bookCons s_impl_ascends (bookCons s_impl_within (bookCons s_impl_falls bookNil))))) (by subst H_inRange H_f0_asc H_IsI H_f_within H_f0_falls H_q_falls;exact bookINil) (by kernel_rfl) ?_
  intro L lp rr hL hr hf hlp
  conv=>cbv
  simp only [stdEqs hL,hxl,hg,ok_int,toI_int,imp_self,true_and,and_true]
  subst H_inRange H_f0_asc H_IsI H_f_within H_f0_falls H_q_falls
  simp only [g1,g2,g3,q1,implies_true,true_and]
  have hne:decide (0<(xs.length:Int))=true→xs≠[]:=by
   rintro h rfl
   simp at h
  (repeat' first|(intro _)|(apply And.intro))<;>try (first|omega|assumption|trivial)
  ·rename_i h;simpa using h
  ·rename_i h;exact (q2 (hne (bif3 h))).1.2
  ·rename_i h h';exact (q2 (hne (bif3 h))).2 h'
  ·rw [hr,hrr0,isBr]
 ·cases h
set_option maxHeartbeats 1000000 in
set_option maxRecDepth 100000 in
theorem s_spec_l03Is:Sat Try.prog 57 (c_b_bool f0_isBr IsIs):=by
 intro args ps r h hp
 unfold c_b_bool at h
 split at h
 ·rename_i a0
  simp only [Option.some.injEq,Prod.mk.injEq] at h
  obtain ⟨rfl,rfl⟩:=h
  obtain ⟨⟨xs,hxs⟩,hlen⟩:IsIs a0:=(alls_cons.1 hp).1
  have hxl:a0.length=xs.length:=by rw [hxs,I_length]
  have hg0:a0.getD (Int.toNat 0) (.int .i64 0)= .int .i64 (xs.getD 0 0):=by rw [hxs,I_getD];rfl
  have hrr0:f0_isBr a0=isBrS xs:=by rw [f0_isBr,hxs,unI_I,isBrS_eq]
  rw [hxl] at hlen
  generalize H_inRange:inRange=F_inRange
  generalize H_gcdW:gcdW=F_gcdW
  generalize H_always:always=F_always
  refine fnOk_ofI (T:=tab) (B:=[(58,c_impl_inRange F_inRange),(116,c_ii_i F_gcdW F_always)]) (Bi:=[]) [0,1,2,3,4,5,6] Try.func57 rfl rfl (by kernel_rfl) (Nat.le_of_ble_eq_true rfl) mixed tabOk (by subst H_inRange H_gcdW H_always;exact (bookCons s_spec_l01In (bookCons s_spec_l01Gcd bookNil))) (by subst H_inRange H_gcdW H_always;exact bookINil) (by kernel_rfl) ?_
  intro L lp rr hL hr hf hlp
  have hrr:rr= .bool (isBrS xs):=by rw [hr,hrr0]
  conv=>cbv
  simp only [stdEqs hL,hxl,hg0,ok_int,toI_int,imp_self,true_and,and_true]
  (repeat' first|(intro _)|(apply And.intro))<;>try (first|omega|assumption|trivial)
  ·rename_i h
   cases xs with
   |nil=>simp at h
   |cons x l=>simp
  ·rename_i h
   subst H_inRange
   rw [hrr,isBrS,h]
   rfl
  ·rename_i h
   cases xs with
   |nil=>simp at h
   |cons x l=>simp
  ·rename_i h
   have hpos:0<xs.length:=by
    cases xs with
    |nil=>simp at h
    |cons x l=>simp
   have hgo:isBrS xs=brGo (xs.getD 0 0) (xs.getD 0 0) (xs.drop 1):=by
    subst H_inRange
    rw [isBrS,h]
    rfl
   refine hlp (Int×Int) _ _ _ [3,4,5] (fun x=>[(3,none,.val (.slc false 2 (.int .i64 0) a0)),(4,none,.val (.int .i64 x.1)),(5,none,.val (.int .i64 x.2))])
    (fun x=>0<x.2∧x.2≤xs.length∧isBrS xs=brGo (xs.getD (x.2.toNat-1) 0) x.1 (xs.drop x.2.toNat)) (fun x=>(xs.length-x.2).toNat) (xs.getD 0 0,1) (by subst hL;simp only [stdEqs rfl,hg0,toI_int];rfl) ⟨by simp,by simp only;omega,hgo⟩ ?_
   rintro ⟨e,i⟩ ⟨i0,i1,h2⟩ hfx ag hag
   conv=>cbv
   simp only at i0 i1 h2
   have hg:a0.getD i.toNat (.int .i64 0)= .int .i64 (xs.getD i.toNat 0):=by rw [hxs,I_getD]
   have hg':a0.getD (i-1).toNat (.int .i64 0)= .int .i64 (xs.getD (i.toNat-1) 0):=by rw [hxs,I_getD,show (i-1).toNat=i.toNat-1 by omega]
   have ew:IntKind.wrap .i64 (i-1)=i-1:=wrap_id (by omega) (by omega)
   simp only [stdEqs hL,hxl,hg,hg',ew,ok_int,toI_int,imp_self,true_and,and_true,decide_eq_true_eq,decide_eq_false_iff_not]
   refine ⟨fun hb=> ?_,fun hb=> ?_⟩
   ·have e1:xs.drop i.toNat=xs.getD i.toNat 0::xs.drop (i.toNat+1):=drop_cons 0 (by omega)
    rw [e1,brGo] at h2
    (repeat' first|(intro _)|(apply And.intro))<;>try (first|omega|assumption|trivial)
    ·rename_i h4
     subst H_inRange
     rw [hrr,h2,h4]
     rfl
    ·subst H_always;trivial
    ·rename_i h4 h5
     subst H_inRange H_gcdW
     rw [hrr,h2,h4,h5]
     rfl
    ·rename_i h4 h5
     subst H_inRange H_gcdW
     rw [wrap_id (n:=i+1) (by omega) (by omega)]
     refine hag (gcdW e (xs.getD i.toNat 0),i+1) ⟨by simp only;omega,by simp only;omega,?_⟩ (by simp only;omega)
     rw [h2,h4,h5]
     simp only [cond_false,toNat_succ (Int.le_of_lt i0),Nat.add_sub_cancel]
   ·have e1:xs.drop i.toNat=[]:=List.drop_eq_nil_of_le (by omega)
    rw [hrr,h2,e1]
    rfl
 ·cases h
def c_b_i (f0:List V→Int):Contract:=fun
 |[.agg [.slc false 2 (.int .i64 0) a0]]=>some ([],.int .i64 (f0 a0))
 |_=>none
def f0_pairs (es:List V):Int:=IntKind.wrap .i64 ((es.length:Int)-1)
set_option maxHeartbeats 1000000 in
set_option maxRecDepth 100000 in
theorem s_impl_pairsOf:Sat Try.prog 147 (c_b_i f0_pairs):=by
 intro args ps r h hp
 unfold c_b_i at h
 split at h
 ·rename_i a0
  simp only [Option.some.injEq,Prod.mk.injEq] at h
  obtain ⟨rfl,rfl⟩:=h
  refine fnOk_ofI (T:=tab) (B:=[]) (Bi:=[]) [0,1,2] Try.func147 rfl rfl (by kernel_rfl) (Nat.le_of_ble_eq_true rfl) mixed tabOk (by exact bookNil) (by exact bookINil) (by kernel_rfl) ?_
  intro L lp rr hL hr hf hlp
  conv=>cbv
  simp only [stdEqs hL]
  exact hr.symm
 ·cases h
theorem IsP.isIs {es:List V} (h:IsP es):IsIs es:=by
 obtain ⟨t,l,rfl,_,hl⟩:=h
 exact ⟨⟨_,rfl⟩,by simp;omega⟩
theorem dvGo_pos:∀(l:List Int) (d:Int),0<d→within l 1 2000=true→∀i,i<l.length→0<(dvGo d l).getD i 0
 |[],_,_,_,i,h=>by simp at h
 |t::l,d,hd,hw,i,h=>by
  simp only [within,List.all_cons,Bool.and_eq_true,inRange,decide_eq_true_eq] at hw
  have hg:=(gcdW_le hd (show 0<t by omega)).1
  cases i with
  |zero=>simpa [dvGo] using hg
  |succ i=>
   have:=dvGo_pos l (gcdW d t) hg (by simpa [within,inRange] using hw.2) i (by simpa using h)
   simpa [dvGo] using this
theorem cond_and' (a b:Bool):(bif a then b else false)=(a&&b):=by cases a<;>rfl
theorem isBr_facts {xs:List Int} (h:isBr xs=true):∃t l,xs=t::l∧1≤t∧t≤64∧within xs 1 2000=true∧(∀i,i<xs.length→0<(dv xs).getD i 0):=by
 simp only [isBr,cond_and',Bool.and_eq_true] at h
 obtain ⟨⟨⟨⟨h1,h2⟩,h3⟩,h4⟩,h5⟩:=h
 cases xs with
 |nil=>simp at h1
 |cons t l=>
  simp only [List.getD_cons_zero,inRange,Bool.and_eq_true,decide_eq_true_eq] at h2
  refine ⟨t,l,rfl,h2.1,h2.2,h4,fun i hi=> ?_⟩
  have e2:dv (t::l)=t::dvGo t l:=by simp only [dv,dvGo];rw [gcdW_zero (by omega)]
  rw [e2]
  cases i with
  |zero=>simp only [List.getD_cons_zero];omega
  |succ i=>
   have hw:within l 1 2000=true:=by
    simp only [within,List.all_cons,Bool.and_eq_true] at h4
    exact h4.2
   simpa using dvGo_pos l t (by omega) hw i (by simpa using hi)
end Go.Ax
set_option linter.all false
namespace Go.Ax
open Go.Proofs
end Go.Ax
set_option linter.all false
namespace Go.Ax
open Go.Proofs
def II (o:Bool) (xss:List (List Int)):List V:=xss.map fun xs=> .slc o 2 (.int .i64 0) (I xs)
def unII (es:List V):List (List Int):=es.map fun v=>unI v.toL
theorem unII_II (o:Bool) (xss:List (List Int)):unII (II o xss)=xss:=by
 simp only [unII,II,List.map_map]
 conv=>rhs;rw [←List.map_id xss]
 apply List.map_congr_left
 intro xs _
 simp [V.toL]
theorem II_length (o:Bool) (xss:List (List Int)):(II o xss).length=xss.length:=by simp [II]
theorem II_getD (o:Bool) (xss:List (List Int)) (i:Nat):(II o xss).getD i (.slc o 2 (.int .i64 0) [])= .slc o 2 (.int .i64 0) (I (xss.getD i [])):=by
 simp only [II,List.getD_eq_getElem?_getD,List.getElem?_map]
 cases xss[i]? <;>rfl
theorem II_set (o:Bool) (xss:List (List Int)) (i:Nat) (xs:List Int):(II o xss).set i (.slc o 2 (.int .i64 0) (I xs))=II o (xss.set i xs):=by simp [II,List.map_set]
theorem II_frzs (o:Bool) (xss:List (List Int)):V.frzs (II o xss)=II false xss:=by
 rw [V.frzs_eq]
 simp only [II,List.map_map]
 apply List.map_congr_left
 intro xs _
 simp [V.frz,I_frzs]
theorem II_noFzs (xss:List (List Int)):V.noFzs (II true xss)=true:=by
 rw [V.noFzs_eq]
 simp only [II,List.all_map,List.all_eq_true]
 intro xs _
 simp [V.noFz]
theorem toL_slc (o:Bool) (e:TypeId) (d:V) (es:List V):stdV.toL (.slc o e d es)=es:=rfl
theorem ok_ints (o o':Bool) (xs:List Int):vw stdV tab o 20 24 (.slc o' 2 (.int .i64 0) (I xs))=some (.slc o 2 (.int .i64 0) (I xs)):=by cases o<;>rfl
theorem take_succ_tot (xss:List (List Int)) (i:Nat) (h:i<xss.length):xss.take (i+1)=xss.take i++[xss.getD i []]:=by
 rw [List.take_succ_eq_append_getElem h,List.getD_eq_getElem?_getD,List.getElem?_eq_getElem h]
 rfl
end Go.Ax
set_option linter.all false
namespace Go.Ax
open Go.Proofs
end Go.Ax
set_option linter.all false
namespace Go.Proofs.Ytfkccembpjogoaa
open Go.ChangeShapes Go.WideShapes Go.ChangeAt Go.RowKit Go.Ax
theorem ownK:ownKnob Try.prog.godebug=none:=by kernel_rfl
theorem laidOut:laidOutB Try.prog=true:=by kernel_rfl
def okK:TK→Bool
 | .oth=>false
 |_=>true
theorem noOth:∀t ti,tget tab t=some ti→ti.k≠.oth:=by
 have h:(tab.all fun x=>okK x.2.k)=true:=by kernel_rfl
 intro t ti ht hk
 have:=List.all_eq_true.1 h _ (tget_mem ht)
 rw [hk] at this
 cases this
end Go.Proofs.Ytfkccembpjogoaa
set_option linter.all false
namespace Go.Ax
open Go.Proofs Go.Proofs.Ytfkccembpjogoaa
theorem and2 {a b:Bool} (ha:a=true) (hb:b=true):(a&&b)=true:=by rw [ha,hb];rfl
set_option maxRecDepth 100000 in
theorem pfEnter: Try.prog.mayEnter=true:=by kernel_rfl
set_option maxRecDepth 100000 in
theorem pfLift:(({program:= "",sum:= "",func:= "",spec:= "" }:OpenClaim).lifted== Try.prog.liftsFinal)=true:=by kernel_rfl
set_option maxRecDepth 100000 in
theorem pfMake:(Try.prog.make==some ({program:= "",sum:= "",func:= "",spec:= "" }:OpenClaim).make)=true:=by kernel_rfl
end Go.Ax
set_option linter.all false
namespace Go.Ax
open Go.Proofs
set_option maxHeartbeats 1000000 in
set_option maxRecDepth 100000 in
theorem s_clone:Sat Try.prog 80 (c_laws_toInt64S same IsIs):=by
 intro args ps r h hp
 unfold c_laws_toInt64S at h
 split at h
 ·rename_i a0
  simp only [Option.some.injEq,Prod.mk.injEq] at h
  obtain ⟨rfl,rfl⟩:=h
  obtain ⟨⟨xs,hxs⟩,hlen⟩:IsIs a0:=(alls_cons.1 hp).1
  have hxl:a0.length=xs.length:=by rw [hxs,I_length]
  refine fnOk_ofI (T:=tab) (B:=[]) (Bi:=[]) [0,2] Try.func80 rfl rfl (by kernel_rfl) (Nat.le_of_ble_eq_true rfl) mixed tabOk (by exact bookNil) (by exact bookINil) (by kernel_rfl) ?_
  intro L lp rr hL hr hf hlp
  conv=>cbv
  simp only [stdEqs hL,hxl]
  have hnx:V.owneds a0=false∧(([]:List V).length:Int)+xs.length≤2147483647∧(∀x:V,x∈a0→x.solid=true)∧V.slc true 2 (.int .i64 0) ([]++a0)=rr:=by
   rw [hr,same]
   exact ⟨by rw [hxs,I_owneds],by simp;omega,by rw [hxs];exact I_solid xs,rfl⟩
  refine ⟨fun h=>⟨fun _=> ?_,fun _=>hnx⟩,fun h=>(by cases h),fun _=>hnx⟩
  have:xs=[]:=by
   simp only [beq_iff_eq] at h
   exact List.eq_nil_of_length_eq_zero (by omega)
  rw [hr,same,hxs,this]
  rfl
 ·cases h
def c_n_ll (f0:Int→List V) (q:Int→Prop):Contract:=fun
 |[.int .i64 a0]=>some ([q a0],.slc true 24 (.slc true 2 (.int .i64 0) []) (f0 a0))
 |_=>none
def f0_square (n:Int):List V:=II true (List.replicate n.toNat (List.replicate n.toNat 0))
def q_n (n:Int):Prop:=0≤n∧n≤2147483647
theorem II_replicate (o:Bool) (n:Nat) (xs:List Int):II o (List.replicate n xs)=List.replicate n (.slc o 2 (.int .i64 0) (I xs)):=by simp [II,List.map_replicate]
theorem II_append (o:Bool) (a b:List (List Int)):II o (a++b)=II o a++II o b:=by simp [II]
theorem set_at {α:Type} (a b:List α) (x y:α) (i:Nat) (h:a.length=i):(a++x::b).set i y=a++y::b:=by
 rw [List.set_append_right _ _ (by omega),←h,Nat.sub_self,List.set_cons_zero]
theorem rep_step {α:Type} (n i:Nat) (h:i<n) (x y:α):(List.replicate i y++List.replicate (n-i) x).set i y=List.replicate (i+1) y++List.replicate (n-(i+1)) x:=by
 have:n-i=(n-(i+1))+1:=by omega
 rw [this,List.replicate_succ,set_at _ _ _ _ _ (by simp)]
 rw [List.replicate_succ',List.append_assoc]
 rfl
set_option maxHeartbeats 1000000 in
set_option maxRecDepth 100000 in
theorem s_impl_square:Sat Try.prog 121 (c_n_ll f0_square q_n):=by
 intro args ps r h hp
 unfold c_n_ll at h
 split at h
 ·rename_i a0
  simp only [Option.some.injEq,Prod.mk.injEq] at h
  obtain ⟨rfl,rfl⟩:=h
  obtain ⟨h0,h1⟩:q_n a0:=(alls_cons.1 hp).1
  refine fnOk_ofI (T:=tab) (B:=[]) (Bi:=[]) [0,2,3,4,8,9] Try.func121 rfl rfl (by kernel_rfl) (Nat.le_of_ble_eq_true rfl) mixed tabOk (by exact bookNil) (by exact bookINil) (by kernel_rfl) ?_
  intro L lp rr hL hr hf hlp
  conv=>cbv
  simp only [stdEqs hL]
  refine ⟨h0,by omega,h1,?_⟩
  have hl0:((List.replicate a0.toNat (V.slc true 2 (.int .i64 0) [])).length:Int)=a0:=by rw [List.length_replicate];omega
  simp only [hl0]
  refine hlp (Int×List V) _ _ _ [0,3,8,9] (fun x=>[(0,none,.val (.int .i64 a0)),(3,none,.val (.slc true 24 (.slc true 2 (.int .i64 0) []) x.2)),(8,none,.val (.int .i64 a0)),(9,none,.val (.int .i64 x.1))])
   (fun x=>0≤x.1∧x.1≤a0∧x.2=II true (List.replicate x.1.toNat (List.replicate a0.toNat 0)++List.replicate (a0.toNat-x.1.toNat) [])) (fun x=>(a0-x.1).toNat) (0,_) (by subst hL;rfl) ⟨by simp,h0,by simp [II_replicate]⟩ ?_
  rintro ⟨i,es⟩ ⟨i0,i1,hes⟩ hfx ag hag
  conv=>cbv
  simp only at i0 i1 hes
  have hel:es.length=a0.toNat:=by rw [hes,II_length];simp;omega
  simp only [stdEqs hL,hel,decide_eq_true_eq,decide_eq_false_iff_not]
  refine ⟨fun h=>⟨h0,by omega,h1,i0,by omega,by omega,?_,?_⟩,fun h=> ?_⟩
  ·rw [hes,II_getD];exact .inl (ok_ints _ _ _)
  ·rw [wrap_id (n:=i+1) (by omega) (by omega)]
   refine hag (i+1,_) ⟨by simp only;omega,by simp only;omega,?_⟩ (by simp only;omega)
   simp only [toNat_succ i0]
   rw [hes,I_replicate,II_set,rep_step _ _ (by omega)]
  ·have:i=a0:=by omega
   rw [hr,f0_square,hes,this,Nat.sub_self]
   simp
 ·cases h
end Go.Ax
set_option linter.all false
namespace Go.Ax
open Go.Proofs
def tab' {α:Type} (f:Nat→α) (n:Nat):List α:=(List.range n).map f
theorem tab_len {α:Type} (f:Nat→α) (n:Nat):(tab' f n).length=n:=by simp [tab']
theorem tab_succ {α:Type} (f:Nat→α) (n:Nat):tab' f (n+1)=tab' f n++[f n]:=by simp [tab',List.range_succ]
theorem tab_get {α:Type} (f:Nat→α) (n i:Nat) (d:α) (h:i<n):(tab' f n).getD i d=f i:=by
 simp [tab',List.getD_eq_getElem?_getD,List.getElem?_map,List.getElem?_range h]
theorem tab_get? {α:Type} (f:Nat→α) (n i:Nat) (h:i<n):(tab' f n)[i]? =some (f i):=by
 simp [tab',List.getElem?_range h]
theorem tab_congr {α:Type} {f g:Nat→α} {n:Nat} (h:∀i,i<n→f i=g i):tab' f n=tab' g n:=by
 simp only [tab']
 apply List.map_congr_left
 intro i hi
 exact h i (by simpa using hi)
abbrev W (n:Int):Int:=IntKind.wrap .i64 n
theorem dec_step:∀(l:List Int),dec l=true→∀i,i+1<l.length→l.getD (i+1) 0<l.getD i 0
 |[],h,_,_=>by simp [dec] at h
 |[a],_,i,hi=>by simp at hi
 |a::b::l,h,i,hi=>by
  simp only [dec] at h
  cases hab:decide (a≤b) with
  |true=>rw [hab] at h;simp at h
  |false=>
   rw [hab] at h
   simp only [decide_eq_false_iff_not] at hab
   cases i with
   |zero=>simp;omega
   |succ i=>simpa using dec_step (b::l) h i (by simpa using hi)
theorem dec_last:∀(l:List Int),dec l=true→l≠[]∧l.getD (l.length-1) 0=1
 |[],h=>by simp [dec] at h
 |[a],h=>by simpa [dec] using h
 |a::b::l,h=>by
  simp only [dec] at h
  cases hab:decide (a≤b) with
  |true=>rw [hab] at h;simp at h
  |false=>
   rw [hab] at h
   refine ⟨by simp,?_⟩
   have:=(dec_last (b::l) h).2
   simpa using this
theorem asc_step:∀(l:List Int),asc l=true→∀i,i+1<l.length→l.getD i 0<l.getD (i+1) 0
 |[],_,_,hi=>by simp at hi
 |[a],_,i,hi=>by simp at hi
 |a::b::l,h,i,hi=>by
  simp only [asc] at h
  cases hab:decide (b≤a) with
  |true=>rw [hab] at h;simp at h
  |false=>
   rw [hab] at h
   simp only [decide_eq_false_iff_not] at hab
   cases i with
   |zero=>simp;omega
   |succ i=>simpa using asc_step (b::l) h i (by simpa using hi)
structure Br (xs:List Int):Prop where
 is:isBr xs=true
 pos:0<xs.length
 len:xs.length≤64
 low:∀i,i<xs.length→1≤xs.getD i 0
 high:∀i,i<xs.length→xs.getD i 0≤2000
 up:∀i,i+1<xs.length→xs.getD i 0<xs.getD (i+1) 0
 first:xs.getD 0 0≤64
 dlen:(dv xs).length=xs.length
 d0:(dv xs).getD 0 0=xs.getD 0 0
 dpos:∀i,i<xs.length→1≤(dv xs).getD i 0
 dhi:∀i,i<xs.length→(dv xs).getD i 0≤64
 dstep:∀i,i+1<xs.length→(dv xs).getD (i+1) 0<(dv xs).getD i 0
 dlast:(dv xs).getD (xs.length-1) 0=1
theorem br_of {xs:List Int} (h:isBr xs=true):Br xs:=by
 obtain ⟨t,l,hx,h1,h2,hw,hd⟩:=isBr_facts h
 have h':=h
 simp only [isBr,cond_and',Bool.and_eq_true] at h'
 obtain ⟨⟨⟨⟨_,_⟩,ha⟩,_⟩,hdec⟩:=h'
 have hdl:(dv xs).length=xs.length:=by rw [dv,dvGo_len]
 have hpos:0<xs.length:=by rw [hx];simp
 have hall:∀i,i<xs.length→1≤xs.getD i 0∧xs.getD i 0≤2000:=by
  intro i hi
  simp only [within,List.all_eq_true,inRange,Bool.and_eq_true,decide_eq_true_eq] at hw
  rw [List.getD_eq_getElem?_getD,List.getElem?_eq_getElem hi]
  exact hw _ (List.getElem_mem hi)
 have hd0:(dv xs).getD 0 0=xs.getD 0 0:=by rw [hx];simp [dv,dvGo,gcdW_zero (show 0<t by omega)]
 have hst:∀i,i+1<xs.length→(dv xs).getD (i+1) 0<(dv xs).getD i 0:=fun i hi=>dec_step _ hdec i (by omega)
 have hx0:xs.getD 0 0=t:=by rw [hx];rfl
 have hhi:∀i:Nat,i<xs.length→(dv xs).getD i 0≤64-i:=by
  intro i
  induction i with
  |zero=>intro _;rw [hd0,hx0];omega
  |succ i ih=>
   intro hi
   have:=ih (by omega)
   have:=hst i hi
   omega
 have hlast:=(dec_last _ hdec).2
 rw [hdl] at hlast
 refine ⟨h,hpos,?_,fun i hi=>(hall i hi).1,fun i hi=>(hall i hi).2,fun i hi=>asc_step _ ha i hi,by rw [hx0];omega,hdl,hd0,fun i hi=>hd i hi,fun i hi=>by have:=hhi i hi;omega,hst,hlast⟩
 have:=hhi (xs.length-1) (by omega)
 rw [hlast] at this
 omega
def IsBr (es:List V):Prop:=∃xs,es=I xs∧Br xs
theorem IsBr.isP {es:List V} (h:IsBr es):IsP es:=by
 obtain ⟨xs,rfl,hb⟩:=h
 obtain ⟨t,l,rfl,h1,_⟩:=isBr_facts hb.is
 exact ⟨t,l,rfl,by omega,by have:=hb.len;simp at this;omega⟩
theorem IsBr.isIs {es:List V} (h:IsBr es):IsIs es:=h.isP.isIs
def c_B_l (f:List V→List V) (q:List V→Prop):Contract:=fun
 |[.agg [.slc false 2 (.int .i64 0) a0]]=>some ([q a0],.slc true 2 (.int .i64 0) (f a0))
 |_=>none
end Go.Ax
set_option linter.all false
namespace Go.Ax
open Go.Proofs
end Go.Ax
set_option linter.all false
namespace Go.Ax
open Go.Proofs
theorem IsI.frz {es:List V} (h:IsI es):V.frzs es=es:=by
 obtain ⟨x,h⟩:=h
 rw [h,I_frzs]
end Go.Ax
set_option linter.all false
namespace Go.Ax
open Go.Proofs
abbrev gI (l:List Int) (i:Int):Int:=l.getD i.toNat 0
def relab (a b:Int) (l:List Int):List Int:=l.map fun x=>if x=b then a else x
def iota (n:Nat):List Int:=tab' (fun i=>(i:Int)) n
theorem iota_len (n:Nat):(iota n).length=n:=tab_len _ _
theorem iota_get (n i:Nat) (h:i<n):(iota n).getD i 0=i:=tab_get _ _ _ _ h
def e0 (e:List Int):Int:=e.getD 0 0
def e1 (e:List Int):Int:=e.getD 1 0
def EdIn (n:Nat) (e:List Int):Prop:=e.length=2∧0≤e0 e∧e0 e<n∧0≤e1 e∧e1 e<n
def lo (lab e:List Int):Int:=min (gI lab (e0 e)) (gI lab (e1 e))
def hi (lab e:List Int):Int:=max (gI lab (e0 e)) (gI lab (e1 e))
structure LabOk (n:Nat) (lab:List Int):Prop where
 len:lab.length=n
 nn:∀i,i<n→0≤lab.getD i 0
 le:∀i,i<n→lab.getD i 0≤i
 idem:∀i,i<n→gI lab (lab.getD i 0)=lab.getD i 0
def acy:List Int→List (List Int)→Bool
 |_,[]=>true
 |lab,e::es=> !(gI lab (e0 e)==gI lab (e1 e))&&acy (relab (gI lab (e0 e)) (gI lab (e1 e)) lab) es
def lexLt:List Int→List Int→Bool
 |x::a,y::b=>bif !(x==y) then decide (x<y) else lexLt a b
 |[],_::_=>true
 |_,[]=>false
def edOk (n:Nat) (p:Option (List Int)) (e:List Int):Bool:=e.length==2&&decide (0≤e0 e)&&decide (e0 e<e1 e)&&decide (e1 e<n)&&(match p with
 |none=>true
 |some x=>lexLt x e)
def edsOk (n:Nat):Option (List Int)→List (List Int)→Bool
 |_,[]=>true
 |p,e::es=>edOk n p e&&edsOk n (some e) es
def isGr (ws:List Int) (es:List (List Int)):Bool:=decide (1≤ws.length)&&decide (ws.length≤40)&&within ws (-1000) 1000&&edsOk ws.length none es&&acy (iota ws.length) es
end Go.Ax
set_option linter.all false
namespace Go.Ax
open Go.Proofs
theorem bif_and (a b:Bool):(bif a then b else false)=(a&&b):=by cases a<;>rfl
theorem bif_or (a b:Bool):(bif a then true else b)=(a||b):=by cases a<;>rfl
def q_II (a b:List V):Prop:=IsI a∧IsI b
def c_ll_b (f:List V→List V→Bool) (q:List V→List V→Prop):Contract:=fun
 |[.slc false 2 (.int .i64 0) a0,.slc false 2 (.int .i64 0) a1]=>some ([q a0 a1],.bool (f a0 a1))
 |_=>none
def c_l_i (f:List V→Int) (q:List V→Prop):Contract:=fun
 |[.slc false 2 (.int .i64 0) a0]=>some ([q a0],.int .i64 (f a0))
 |_=>none
def q_ne (a:List V):Prop:=IsI a∧a≠[]
end Go.Ax
set_option linter.all false
namespace Go.Ax
open Go.Proofs
theorem toNat0:Int.toNat 0=0:=rfl
theorem toNat1:Int.toNat 1=1:=rfl
theorem mem_getD {xss:List (List Int)} {i:Nat} (h:i<xss.length):xss.getD i []∈xss:=by
 rw [List.getD_eq_getElem?_getD,List.getElem?_eq_getElem h]
 exact List.getElem_mem _
end Go.Ax
set_option linter.all false
namespace Go.Ax
open Go.Proofs
end Go.Ax
set_option linter.all false
namespace Go.Ax
open Go.Proofs
structure Gr (ws:List Int) (es:List (List Int)):Prop where
 is:isGr ws es=true
 n1:1≤ws.length
 n2:ws.length≤40
 wlo:∀i,i<ws.length→-1000≤ws.getD i 0∧ws.getD i 0≤1000
 eok:edsOk ws.length none es=true
 ed:∀e∈es,EdIn ws.length e
 lt:∀e∈es,e0 e<e1 e
 el:es.length<ws.length
 acyc:acy (iota ws.length) es=true
def nearA (es:List (List Int)) (v:Int):List Int:=(es.filter fun e=>e1 e==v).map e0
def nearB (es:List (List Int)) (v:Int):List Int:=(es.filter fun e=>e0 e==v).map e1
def near (es:List (List Int)) (v:Int):List Int:=nearA es v++nearB es v
theorem tab_set {α:Type} (f:Nat→α) (n i:Nat) (y:α):(tab' f n).set i y=tab' (fun j=>if j=i then y else f j) n:=by
 apply List.ext_getElem?
 intro j
 by_cases hj:j<n
 ·rw [tab_get? _ _ _ hj,List.getElem?_set]
  by_cases hij:i=j
  ·subst hij
   rw [if_pos rfl,if_pos (by rw [tab_len];exact hj),if_pos rfl]
  ·rw [if_neg hij,tab_get? _ _ _ hj,if_neg (fun h=>hij h.symm)]
 ·rw [List.getElem?_eq_none (by rw [List.length_set,tab_len];omega),List.getElem?_eq_none (by rw [tab_len];omega)]
end Go.Ax
set_option linter.all false
namespace Go.Ax
open Go.Proofs
def stp (a b:Nat):List (Nat×Nat):=if _h:0<b then (a/b,b)::stp b (a%b) else []
termination_by b
decreasing_by exact Nat.mod_lt _ (by assumption)
theorem stp_pos {a b:Nat} (h:0<b):stp a b=(a/b,b)::stp b (a%b):=by rw [stp,dif_pos h]
theorem stp_zero (a:Nat):stp a 0=[]:=by rw [stp,dif_neg (by omega)]
def ex (a b:Nat):List Nat:=(stp a b).flatMap fun p=>List.replicate p.1 p.2
theorem ex_pos {a b:Nat} (h:0<b):ex a b=List.replicate (a/b) b++ex b (a%b):=by rw [ex,stp_pos h,List.flatMap_cons,ex]
theorem ex_zero (a:Nat):ex a 0=[]:=by rw [ex,stp_zero];rfl
def hd1 (l:List Nat):Nat:=l.getD 0 1
def Fol (b:Nat) (l:List Nat):Prop:=hd1 l≤b∧(hd1 l<b→∃c r,b=c*hd1 l+r∧r<hd1 l∧1≤c∧(∀t,t<c→l.getD t 1=hd1 l)∧(0<r→l.getD c 1=r))
def GL:List Nat→Prop
 |[]=>True
 |x::l=>1≤x∧Fol x l∧GL l
theorem GL_rep {b:Nat} {l:List Nat} (hb:1≤b) (hf:Fol b l) (hg:GL l):∀q,GL (List.replicate q b++l)∧Fol b (List.replicate q b++l)
 |0=>⟨by simpa using hg,by simpa using hf⟩
 |q+1=>by
  obtain ⟨h1,h2⟩:=GL_rep hb hf hg q
  rw [List.replicate_succ,List.cons_append]
  refine ⟨⟨hb,h2,h1⟩,?_⟩
  have:hd1 (b::(List.replicate q b++l))=b:=rfl
  exact ⟨by rw [this];exact Nat.le_refl _,fun h=>by rw [this] at h;exact absurd h (Nat.lt_irrefl _)⟩
theorem getD_rep (q b:Nat) (l:List Nat) (t d:Nat):(List.replicate q b++l).getD t d=if t<q then b else l.getD (t-q) d:=by
 by_cases h:t<q
 ·rw [if_pos h,List.getD_eq_getElem?_getD,List.getElem?_append_left (by simpa using h)]
  simp [h]
 ·rw [if_neg h,List.getD_eq_getElem?_getD,List.getElem?_append_right (by simpa using h)]
  simp
theorem ex_hd {b r:Nat} (hr:0<r) (h:r≤b) (l:List Nat):(ex b r++l).getD 0 1=r:=by
 rw [ex_pos hr,List.append_assoc,getD_rep,if_pos (Nat.div_pos h hr)]
theorem ex_good:∀(n b r:Nat) (l:List Nat),b≤n→r<b→GL l→Fol (Nat.gcd b r) l→GL (ex b r++l)∧Fol b (ex b r++l)
 |0,b,r,l,hn,hr,_,_=>by omega
 |n+1,b,r,l,hn,hr,hg,hf=>by
  by_cases h0:0<r
  ·have h1:b%r<r:=Nat.mod_lt _ h0
   have h2:Nat.gcd r (b%r)=Nat.gcd b r:=by rw [Nat.gcd_comm b r,Nat.gcd_rec r b,Nat.gcd_comm]
   obtain ⟨i1,i2⟩:=ex_good n r (b%r) l (by omega) h1 hg (by rw [h2];exact hf)
   obtain ⟨j1,_⟩:=GL_rep (by omega) i2 i1 (b/r)
   have hq:0<b/r:=Nat.div_pos (by omega) h0
   rw [ex_pos h0,List.append_assoc]
   have hh:hd1 (List.replicate (b/r) r++(ex r (b%r)++l))=r:=by rw [hd1,getD_rep,if_pos hq]
   refine ⟨j1,by rw [hh];omega,fun _=>⟨b/r,b%r,?_,by rw [hh];exact h1,hq,fun t ht=>by rw [hh,getD_rep,if_pos ht],fun hrr=> ?_⟩⟩
   ·rw [hh,Nat.mul_comm]
    exact (Nat.div_add_mod b r).symm
   ·rw [getD_rep,if_neg (Nat.lt_irrefl _),Nat.sub_self]
    exact ex_hd hrr (by omega) l
  ·obtain rfl:r=0:=by omega
   rw [ex_zero,List.nil_append]
   rw [Nat.gcd_zero_right] at hf
   exact ⟨hg,hf⟩
def blocks:List (Nat×Nat)→List Nat
 |[]=>[]
 |(k,e)::l=>ex k e++blocks l
def Chain:Nat→List (Nat×Nat)→Prop
 |g,[]=>g=1
 |g,(k,e)::l=>e=g∧0<e∧Chain (Nat.gcd e k) l
theorem blocks_good:∀(l:List (Nat×Nat)) (g:Nat),Chain g l→GL (blocks l)∧Fol g (blocks l)
 |[],g,h=>by
  have:g=1:=h
  subst this
  exact ⟨trivial,Nat.le_refl _,fun h=>absurd h (Nat.lt_irrefl _)⟩
 |(k,e)::l,g,h=>by
  obtain ⟨rfl,h1,h2⟩:=h
  obtain ⟨i1,i2⟩:=blocks_good l _ h2
  have h3:Nat.gcd e (k%e)=Nat.gcd e k:=by rw [Nat.gcd_comm e (k%e),←Nat.gcd_rec]
  obtain ⟨j1,j2⟩:=ex_good e e (k%e) (blocks l) (Nat.le_refl _) (Nat.mod_lt _ h1) i1 (by rw [h3];exact i2)
  have:=GL_rep h1 j2 j1 (k/e)
  rw [blocks,ex_pos h1,List.append_assoc]
  exact this
theorem GL_at:∀(l:List Nat),GL l→∀i,1≤l.getD i 1∧l.getD (i+1) 1≤l.getD i 1∧(l.getD (i+1) 1<l.getD i 1→∃c r,l.getD i 1=c*l.getD (i+1) 1+r∧r<l.getD (i+1) 1∧1≤c∧(∀t,t<c→l.getD (i+1+t) 1=l.getD (i+1) 1)∧(0<r→l.getD (i+1+c) 1=r))
 |[],_,i=>⟨by simp,by simp,fun h=>by simp at h⟩
 |x::l,h,0=>by
  obtain ⟨h1,⟨h2,h3⟩,h4⟩:=h
  refine ⟨h1,h2,fun h=> ?_⟩
  obtain ⟨c,r,e1,e2,e3,e4,e5⟩:=h3 h
  refine ⟨c,r,e1,e2,e3,fun t ht=> ?_,fun hr=> ?_⟩
  ·have:=e4 t ht
   rw [show 0+1+t=t+1 by omega,List.getD_cons_succ]
   exact this
  ·rw [show 0+1+c=c+1 by omega,List.getD_cons_succ]
   exact e5 hr
 |x::l,h,i+1=>by
  have:=GL_at l h.2.2 i
  rw [show i+1+1=(i+1)+1 from rfl]
  simp only [List.getD_cons_succ]
  refine ⟨this.1,this.2.1,fun h=> ?_⟩
  obtain ⟨c,r,e1,e2,e3,e4,e5⟩:=this.2.2 h
  refine ⟨c,r,e1,e2,e3,fun t ht=> ?_,fun hr=> ?_⟩
  ·rw [show i+1+1+t=(i+1+t)+1 by omega,List.getD_cons_succ]
   exact e4 t ht
  ·rw [show i+1+1+c=(i+1+c)+1 by omega,List.getD_cons_succ]
   exact e5 hr
def sumM (M:Nat→Nat) (i:Nat):Nat→Nat
 |0=>0
 |k+1=>sumM M i k+M (i+1+k)
structure GoodM (M:Nat→Nat):Prop where
 pos:∀i,1≤M i
 fall:∀i,M (i+1)≤M i
 drop:∀i,M (i+1)<M i→∃c r,M i=c*M (i+1)+r∧r<M (i+1)∧1≤c∧(∀t,t<c→M (i+1+t)=M (i+1))∧(0<r→M (i+1+c)=r)
theorem goodM_of {l:List Nat} (h:GL l):GoodM (fun i=>l.getD i 1):=
 ⟨fun i=>(GL_at l h i).1,fun i=>(GL_at l h i).2.1,fun i=>(GL_at l h i).2.2⟩
theorem sumM_mono {M:Nat→Nat} (h:GoodM M) (i:Nat):∀{k k':Nat},k<k'→sumM M i k<sumM M i k'
 |k,0,hk=>by omega
 |k,k'+1,hk=>by
  have:=h.pos (i+1+k')
  simp only [sumM]
  by_cases hkk:k=k'
  ·subst hkk;omega
  ·have:=sumM_mono h i (k:=k) (k':=k') (by omega)
   omega
theorem sumM_rep {M:Nat→Nat} {i v:Nat}:∀k,(∀t,t<k→M (i+1+t)=v)→sumM M i k=k*v
 |0,_=>by simp [sumM]
 |k+1,h=>by
  simp only [sumM,sumM_rep k (fun t ht=>h t (by omega)),h k (by omega),Nat.add_mul]
  omega
def Prox (M:Nat→Nat) (i j:Nat):Prop:=sumM M i (j-i)≤M i
theorem prox_one {M:Nat→Nat} (h:GoodM M) (i:Nat):Prox M i (i+1):=by
 have:=h.fall i
 rw [Prox,show i+1-i=1 by omega]
 simpa [sumM] using this
theorem prox_uniq {M:Nat→Nat} (h:GoodM M) {i i' j:Nat} (h1:i<i') (h2:i'+1<j) (hp:Prox M i j):¬Prox M i' j:=by
 intro hp'
 unfold Prox at hp hp'
 have two:∀x,sumM M x 2=M (x+1)+M (x+1+1):=fun x=>by simp [sumM]
 have one:∀x,sumM M x 1=M (x+1):=fun x=>by simp [sumM]
 have hlt:M (i+1)<M i:=by
  have a1:=sumM_mono h i (k:=2) (k':=j-i) (by omega)
  have a2:=h.pos (i+1+1)
  rw [two] at a1
  omega
 obtain ⟨c,r,e1,e2,e3,e4,e5⟩:=h.drop i hlt
 have hc:=sumM_rep c e4
 have hc1:sumM M i (c+1)=sumM M i c+M (i+1+c):=rfl
 have hc2:sumM M i (c+2)=sumM M i (c+1)+M (i+1+(c+1)):=rfl
 have hj:j-i≤c+1:=by
  by_cases hh:j-i≤c+1
  ·exact hh
  ·exfalso
   have a3:sumM M i (c+2)≤sumM M i (j-i):=by
    by_cases hx:c+2=j-i
    ·rw [hx];exact Nat.le_refl _
    ·exact Nat.le_of_lt (sumM_mono h i (by omega))
   have a4:=h.pos (i+1+(c+1))
   have a5:=h.pos (i+1+c)
   by_cases hr:0<r
   ·have:=e5 hr;omega
   ·omega
 have b1:M i'=M (i+1):=by
  have:=e4 (i'-i-1) (by omega)
  rwa [show i+1+(i'-i-1)=i' by omega] at this
 have b2:M (i'+1)=M (i+1):=by
  have:=e4 (i'-i) (by omega)
  rwa [show i+1+(i'-i)=i'+1 by omega] at this
 have a1:=sumM_mono h i' (k:=1) (k':=j-i') (by omega)
 rw [one] at a1
 omega
end Go.Ax
set_option linter.all false
namespace Go.Ax
open Go.Proofs
def stI (a b:Int):List (List Int):=(stp a.toNat b.toNat).map fun p=>[(p.1:Int),(p.2:Int)]
theorem stp_len:∀(n a b:Nat),b≤n→(stp a b).length≤b
 |0,a,b,h=>by obtain rfl:b=0:=by omega
              rw [stp_zero];simp
 |n+1,a,b,h=>by
  by_cases hb:0<b
  ·rw [stp_pos hb,List.length_cons]
   have h1:a%b<b:=Nat.mod_lt _ hb
   have:=stp_len n b (a%b) (by omega)
   omega
  ·obtain rfl:b=0:=by omega
   rw [stp_zero];simp
theorem stI_pos {a b:Int} (ha:0≤a) (hb:0<b):stI a b=[a.tdiv b,b]::stI b (a.tmod b):=by
 obtain ⟨a,rfl⟩:=Int.eq_ofNat_of_zero_le ha
 obtain ⟨b,rfl⟩:=Int.eq_ofNat_of_zero_le (Int.le_of_lt hb)
 rw [stI,Int.toNat_natCast,Int.toNat_natCast,stp_pos (by omega),List.map_cons,stI,←Int.ofNat_tdiv,←Int.ofNat_tmod,Int.toNat_natCast,Int.toNat_natCast]
theorem stI_zero (a:Int) {b:Int} (hb:¬0<b):stI a b=[]:=by
 rw [stI,show b.toNat=0 by omega,stp_zero];rfl
def c_ii_m (f:Int→Int→List V) (q:Int→Int→Prop):Contract:=fun
 |[.int .i64 a0,.int .i64 a1]=>some ([q a0 a1],.slc true 24 (.slc true 2 (.int .i64 0) []) (f a0 a1))
 |_=>none
def f_stI (a b:Int):List V:=II true (stI a b)
def q_stI (a b:Int):Prop:=0≤a∧a≤1000000∧0≤b∧b≤1000000
set_option maxHeartbeats 1000000 in
set_option maxRecDepth 100000 in
theorem s_impl_steps:Sat Try.prog 155 (c_ii_m f_stI q_stI):=by
 intro args ps r h hp
 unfold c_ii_m at h
 split at h
 ·rename_i a0 a1
  simp only [Option.some.injEq,Prod.mk.injEq] at h
  obtain ⟨rfl,rfl⟩:=h
  obtain ⟨q1,q2,q3,q4⟩:q_stI a0 a1:=(alls_cons.1 hp).1
  refine fnOk_ofI (T:=tab) (B:=[]) (Bi:=[]) [0,1,4,5] Try.func155 rfl rfl (by kernel_rfl) (Nat.le_of_ble_eq_true rfl) mixed tabOk (by exact bookNil) (by exact bookINil) (by kernel_rfl) ?_
  intro L lp rr hL hr hf hlp
  conv=>cbv
  refine hlp (Int×Int×List V) _ _ _ [0,1,5] (fun x=>[(0,none,.val (.int .i64 x.1)),(1,none,.val (.int .i64 x.2.1)),(5,none,.val (.slc true 24 (.slc true 2 (.int .i64 0) []) x.2.2))])
   (fun x=>0≤x.1∧x.1≤1000000∧0≤x.2.1∧x.2.1≤1000000∧∃L,x.2.2=II true L∧L++stI x.1 x.2.1=stI a0 a1) (fun x=>x.2.1.toNat) ((a0,a1,[])) (by subst hL;rfl) ?_ ?_
  ·exact ⟨q1,q2,q3,q4,[],rfl,rfl⟩
  rintro ⟨a,b,es⟩ ⟨p1,p2,p3,p4,L,hes,hI⟩ hfx ag hag
  simp only at p1 p2 p3 p4 hes hI
  have hel:es.length≤1000000:=by
   have h1:=congrArg List.length hI
   have h2:=stp_len a1.toNat a0.toNat a1.toNat (Nat.le_refl _)
   rw [List.length_append,stI,stI,List.length_map,List.length_map] at h1
   rw [hes,II_length]
   omega
  conv=>cbv
  simp only [stdEqs hL,imp_self,true_and,and_true,bif_or,bif_and,Bool.or_eq_true,Bool.or_eq_false_iff,Bool.and_eq_true,Bool.and_eq_false_iff,decide_eq_true_eq,decide_eq_false_iff_not,Bool.not_eq_true',Bool.not_eq_false',beq_iff_eq,beq_eq_false_iff_ne,ne_eq,toNat0,toNat1,ok_int,toI_int,I_frzs,I_length,I_getD,ok_ints,toL_slc,hel]
  refine ⟨fun h=> ?_,fun h=> ?_⟩
  ·have h1:0≤a.tdiv b∧a.tdiv b≤a:=⟨Int.tdiv_nonneg p1 p3,Int.tdiv_le_self b p1⟩
   have h2:0≤a.tmod b∧a.tmod b<b:=⟨Int.tmod_nonneg b p1,Int.tmod_lt_of_pos a h⟩
   have hw:IntKind.wrap .i64 (a.tdiv b)=a.tdiv b:=wrap_id (by omega) (by omega)
   (repeat' first|(exact solid_one _)|(exact solid1 rfl)|(exact noown_one _)|(apply And.intro)|(intro _))<;>(try first|exact True.intro|omega|rfl|(simp only [List.length_cons,List.length_nil,I_length];omega))
   refine hag (b,a.tmod b,_) ⟨by simp only;omega,by simp only;omega,by simp only;omega,by simp only;omega,L++[[a.tdiv b,b]],?_,?_⟩ (by simp only;omega)
   ·simp only
    rw [II_append,hes,hw]
    rfl
   ·simp only
    rw [List.append_assoc,←hI,stI_pos p1 h]
    rfl
  ·rw [hr,f_stI,←hI,stI_zero a h,List.append_nil,hes]
 ·cases h
set_option maxHeartbeats 1000000 in
set_option maxRecDepth 100000 in
theorem s_spec_l01Steps:Sat Try.prog 157 (c_ii_m f_stI q_stI):=by
 intro args ps r h hp
 unfold c_ii_m at h
 split at h
 ·rename_i a0 a1
  simp only [Option.some.injEq,Prod.mk.injEq] at h
  obtain ⟨rfl,rfl⟩:=h
  obtain ⟨q1,q2,q3,q4⟩:q_stI a0 a1:=(alls_cons.1 hp).1
  refine fnOk_ofI (T:=tab) (B:=[]) (Bi:=[]) [0,1,4,5,6] Try.func157 rfl rfl (by kernel_rfl) (Nat.le_of_ble_eq_true rfl) mixed tabOk (by exact bookNil) (by exact bookINil) (by kernel_rfl) ?_
  intro L lp rr hL hr hf hlp
  conv=>cbv
  refine hlp (Int×Int×List V) _ _ _ [0,1,5] (fun x=>[(0,none,.val (.int .i64 x.1)),(1,none,.val (.int .i64 x.2.1)),(5,none,.val (.slc true 24 (.slc true 2 (.int .i64 0) []) x.2.2))])
   (fun x=>0≤x.1∧x.1≤1000000∧0≤x.2.1∧x.2.1≤1000000∧∃L,x.2.2=II true L∧L++stI x.1 x.2.1=stI a0 a1) (fun x=>x.2.1.toNat) ((a0,a1,[])) (by subst hL;rfl) ?_ ?_
  ·exact ⟨q1,q2,q3,q4,[],rfl,rfl⟩
  rintro ⟨a,b,es⟩ ⟨p1,p2,p3,p4,L,hes,hI⟩ hfx ag hag
  simp only at p1 p2 p3 p4 hes hI
  have hel:es.length≤1000000:=by
   have h1:=congrArg List.length hI
   have h2:=stp_len a1.toNat a0.toNat a1.toNat (Nat.le_refl _)
   rw [List.length_append,stI,stI,List.length_map,List.length_map] at h1
   rw [hes,II_length]
   omega
  conv=>cbv
  simp only [stdEqs hL,imp_self,true_and,and_true,bif_or,bif_and,Bool.or_eq_true,Bool.or_eq_false_iff,Bool.and_eq_true,Bool.and_eq_false_iff,decide_eq_true_eq,decide_eq_false_iff_not,Bool.not_eq_true',Bool.not_eq_false',beq_iff_eq,beq_eq_false_iff_ne,ne_eq,toNat0,toNat1,ok_int,toI_int,I_frzs,I_length,I_getD,ok_ints,toL_slc,hel]
  refine ⟨fun h=> ?_,fun h=> ?_⟩
  ·have h1:0≤a.tdiv b∧a.tdiv b≤a:=⟨Int.tdiv_nonneg p1 p3,Int.tdiv_le_self b p1⟩
   have h2:0≤a.tmod b∧a.tmod b<b:=⟨Int.tmod_nonneg b p1,Int.tmod_lt_of_pos a h⟩
   have hw:IntKind.wrap .i64 (a.tdiv b)=a.tdiv b:=wrap_id (by omega) (by omega)
   (repeat' first|(exact solid_one _)|(exact solid1 rfl)|(exact noown_one _)|(apply And.intro)|(intro _))<;>(try first|exact True.intro|omega|rfl|(simp only [List.length_cons,List.length_nil,I_length];omega))
   refine hag (b,a.tmod b,_) ⟨by simp only;omega,by simp only;omega,by simp only;omega,by simp only;omega,L++[[a.tdiv b,b]],?_,?_⟩ (by simp only;omega)
   ·simp only
    rw [II_append,hes,hw]
    rfl
   ·simp only
    rw [List.append_assoc,←hI,stI_pos p1 h]
    rfl
  ·rw [hr,f_stI,←hI,stI_zero a h,List.append_nil,hes]
 ·cases h
def flatS (S:List (List Int)):List Int:=S.flatMap fun s=>List.replicate (s.getD 0 0).toNat (s.getD 1 0)
theorem flatS_step (S:List (List Int)) (k:Nat) (h:k<S.length):flatS (S.take (k+1))=flatS (S.take k)++List.replicate ((S.getD k []).getD 0 0).toNat ((S.getD k []).getD 1 0):=by
 rw [take_succ_tot _ _ h,flatS,flatS,List.flatMap_append,List.flatMap_cons,List.flatMap_nil,List.append_nil]
def exI (a b:Int):List Int:=(ex a.toNat b.toNat).map fun (n:Nat)=>(n:Int)
theorem flatS_stI (a b:Int):flatS (stI a b)=exI a b:=by
 rw [flatS,stI,exI,ex,List.flatMap_map,List.map_flatMap]
 congr 1
 funext p
 simp
theorem ex_len:∀(n a b:Nat),b≤n→(ex a b).length≤a+b
 |0,a,b,h=>by obtain rfl:b=0:=by omega
              rw [ex_zero];simp
 |n+1,a,b,h=>by
  by_cases hb:0<b
  ·rw [ex_pos hb,List.length_append,List.length_replicate]
   have h1:a%b<b:=Nat.mod_lt _ hb
   have h2:=ex_len n b (a%b) (by omega)
   have h3:=Nat.div_add_mod a b
   have h4:a/b≤b*(a/b):=Nat.le_mul_of_pos_left _ hb
   omega
  ·obtain rfl:b=0:=by omega
   rw [ex_zero];simp
theorem stI_mem {a b:Int} {s:List Int} (h:s∈stI a b):s.length=2∧0≤s.getD 0 0∧0≤s.getD 1 0:=by
 simp only [stI,List.mem_map] at h
 obtain ⟨p,_,rfl⟩:=h
 exact ⟨rfl,Int.natCast_nonneg _,Int.natCast_nonneg _⟩
def c_runOf (f:List V→Int→Int→List V) (q:List V→Int→Int→Prop):IContract:=fun
 |[.slc true 2 (.int .i64 0) a0,.int .i64 a1,.int .i64 a2]=>some ([q a0 a1 a2],.slc true 2 (.int .i64 0) (f a0 a1 a2),.hole 0)
 |_=>none
def f_runOf (es:List V) (k e:Int):List V:=es++I (exI k e)
def q_runOf (es:List V) (k e:Int):Prop:=es.length≤100000000∧q_stI k e
set_option maxHeartbeats 1000000 in
set_option maxRecDepth 100000 in
theorem s_impl_runOf:SatM Try.prog 148 0 (c_runOf f_runOf q_runOf):=by
 intro args ps r y h hp
 unfold c_runOf at h
 split at h
 ·rename_i a0 a1 a2
  simp only [Option.some.injEq,Prod.mk.injEq] at h
  obtain ⟨rfl,rfl,rfl⟩:=h
  obtain ⟨q0,hq⟩:q_runOf a0 a1 a2:=(alls_cons.1 hp).1
  obtain ⟨q1,q2,q3,q4⟩:=hq
  generalize H_f_stI:f_stI=F_f_stI
  generalize H_q_stI:q_stI=F_q_stI
  refine fnMv_of (T:=tab) (B:=[(155,c_ii_m F_f_stI F_q_stI)]) (Bi:=[]) 0 [0,1,2,6,8,9,12,13,14] Try.func148 rfl rfl (by kernel_rfl) (Nat.le_of_ble_eq_true rfl) mixed tabOk (by subst H_f_stI H_q_stI;exact (bookCons s_impl_steps bookNil)) (by subst H_f_stI H_q_stI;exact bookINil) (by kernel_rfl) (Nat.le_of_ble_eq_true rfl) ?_
  intro L lp rr hL hr hf hlp
  conv=>cbv
  obtain ⟨S,hS⟩:∃S,S=stI a1 a2:=⟨_,rfl⟩
  obtain ⟨ss,hss⟩:∃ss,ss=II true S:=⟨_,rfl⟩
  have hF:F_f_stI a1 a2=ss:=by rw [←H_f_stI,f_stI,hss,hS]
  have hsl:ss.length=S.length:=by rw [hss,II_length]
  have hSl:S.length≤1000000:=by
   have:=stp_len a2.toNat a1.toNat a2.toNat (Nat.le_refl _)
   rw [hS,stI,List.length_map];omega
  have gss:∀k,ss.getD k (.slc true 2 (.int .i64 0) [])= .slc true 2 (.int .i64 0) (I (S.getD k [])):=fun k=>by rw [hss,II_getD]
  have hfl:(exI a1 a2).length≤2000000:=by
   have:=ex_len a2.toNat a1.toNat a2.toNat (Nat.le_refl _)
   rw [exI,List.length_map];omega
  have hpre:∀k,(flatS (S.take k)).length≤2000000:=fun k=>by
   have h1:flatS S=flatS (S.take k)++flatS (S.drop k):=by
    rw [flatS,flatS,flatS,←List.flatMap_append,List.take_append_drop]
   have h2:=congrArg List.length h1
   rw [hS,flatS_stI,List.length_append,←hS] at h2
   omega
  simp only [stdEqs hL,imp_self,true_and,and_true,bif_or,bif_and,Bool.or_eq_true,Bool.or_eq_false_iff,Bool.and_eq_true,Bool.and_eq_false_iff,decide_eq_true_eq,decide_eq_false_iff_not,Bool.not_eq_true',Bool.not_eq_false',beq_iff_eq,beq_eq_false_iff_ne,ne_eq,toNat0,toNat1,ok_int,toI_int,I_frzs,I_length,I_getD,ok_ints,toL_slc,hF,hsl]
  refine ⟨by rw [←H_q_stI];exact ⟨q1,q2,q3,q4⟩,?_⟩
  refine hlp (List V×Int) _ _ _ [0,12,13,14] (fun x=>[(0,none,.val (.slc true 2 (.int .i64 0) x.1)),(12,none,.val (.slc true 24 (.slc true 2 (.int .i64 0) []) ss)),(13,none,.val (.int .i64 S.length)),(14,none,.val (.int .i64 x.2))])
   (fun x=>0≤x.2∧x.2≤S.length∧x.1=a0++I (flatS (S.take x.2.toNat))) (fun x=>(S.length-x.2).toNat) ((a0,0)) (by subst hL;rfl) ?_ ?_
  ·exact ⟨by simp,by simp only;omega,by simp [flatS,I]⟩
  rintro ⟨es,i⟩ ⟨i0,i1,hI⟩ hfx ag hag
  simp only at i0 i1 hI
  have hst:=flatS_step S i.toNat
  have hmem:=fun h=>stI_mem (a:=a1) (b:=a2) (s:=S.getD i.toNat []) (by rw [←hS];exact mem_getD h)
  have hp1:=hpre (i.toNat+1)
  generalize hE:S.getD i.toNat []=E at hst hmem
  obtain ⟨m,hm⟩:∃m:Int,m=S.length:=⟨_,rfl⟩
  simp only [←hm]
  conv=>cbv
  simp only [stdEqs hL,imp_self,true_and,and_true,bif_or,bif_and,Bool.or_eq_true,Bool.or_eq_false_iff,Bool.and_eq_true,Bool.and_eq_false_iff,decide_eq_true_eq,decide_eq_false_iff_not,Bool.not_eq_true',Bool.not_eq_false',beq_iff_eq,beq_eq_false_iff_ne,ne_eq,toNat0,toNat1,ok_int,toI_int,I_frzs,I_length,I_getD,ok_ints,toL_slc,hsl,gss,hE]
  refine ⟨fun h=> ?_,fun h=> ?_⟩
  ·obtain ⟨hEl,hE0,hE1⟩:=hmem (by omega)
   have hst':=hst (by omega)
   have hip:i.toNat<S.length:=by omega
   refine ⟨i0,by omega,by omega,?_⟩
   refine hlp (List V×Int) _ _ _ [0,8,9,12,13,14] (fun x=>[(0,none,.val (.slc true 2 (.int .i64 0) x.1)),(8,none,.rf 12 0 [i.toNat]),(9,none,.val (.int .i64 x.2)),(12,none,.val (.slc true 24 (.slc true 2 (.int .i64 0) []) ss)),(13,none,.val (.int .i64 m)),(14,none,.val (.int .i64 i))])
    (fun x=>0≤x.2∧x.2≤E.getD 0 0∧x.1=es++I (List.replicate x.2.toNat (E.getD 1 0))) (fun x=>(E.getD 0 0-x.2).toNat) (es,0) (by subst hL;rfl) ?_ ?_
   ·exact ⟨by simp,hE0,by simp [I]⟩
   rintro ⟨es2,j⟩ ⟨j0,j1,hI2⟩ hfx2 ag2 hag2
   simp only at j0 j1 hI2
   obtain ⟨it,hit⟩:∃it,it=i.toNat:=⟨_,rfl⟩
   simp only [←hit] at hE ⊢
   conv=>cbv
   simp only [stdEqs hL,imp_self,true_and,and_true,bif_or,bif_and,Bool.or_eq_true,Bool.or_eq_false_iff,Bool.and_eq_true,Bool.and_eq_false_iff,decide_eq_true_eq,decide_eq_false_iff_not,Bool.not_eq_true',Bool.not_eq_false',beq_iff_eq,beq_eq_false_iff_ne,ne_eq,toNat0,toNat1,ok_int,toI_int,I_frzs,I_length,I_getD,ok_ints,toL_slc,hsl,gss,hE]
   have hl2:es2.length≤102000000:=by
    rw [hst',List.length_append,List.length_replicate] at hp1
    rw [hI2,hI,List.length_append,I_length,List.length_append,I_length,List.length_replicate]
    omega
   have hEb:E.getD 0 0≤2000000:=by
    rw [hst',List.length_append,List.length_replicate] at hp1
    omega
   have hti:it<S.length:=by omega
   subst hit
   refine ⟨hti,by omega,by omega,hti,by omega,fun hj=> ?_,fun hj=> ?_⟩
   ·rw [wrap_id (n:=j+1) (by omega) (by omega)]
    (repeat' first|(exact solid_one _)|(exact solid1 rfl)|(exact noown_one _)|(apply And.intro)|(intro _))<;>(try first|exact True.intro|omega|rfl|(simp only [List.length_cons,List.length_nil,I_length];omega))
    refine hag2 (_,j+1) ⟨by simp only;omega,by simp only;omega,?_⟩ (by simp only;omega)
    simp only [toNat_succ j0]
    rw [List.replicate_succ',hI2,List.append_assoc,←I_append]
    rfl
   ·rw [wrap_id (n:=i+1) (by omega) (by omega)]
    subst hm
    refine hag (_,i+1) ⟨by simp only;omega,by simp only;omega,?_⟩ (by simp only;omega)
    simp only [toNat_succ i0]
    rw [hst',hI2,hI,List.append_assoc,I_append,show j=E.getD 0 0 by omega]
  ·rw [hr,f_runOf,hI,List.take_of_length_le (by omega),hS,flatS_stI]
 ·cases h
def kkI (xs:List Int) (i:Nat):Int:=xs.getD (i+1) 0-(if i=0 then 0 else xs.getD i 0)
def runI (xs:List Int) (i:Nat):List Int:=exI (kkI xs i) ((dv xs).getD i 0)
def seqP (xs:List Int) (n:Nat):List Int:=(List.range n).flatMap (runI xs)
def seqI (xs:List Int):List Int:=seqP xs (xs.length-1)
theorem seqP_succ (xs:List Int) (n:Nat):seqP xs (n+1)=seqP xs n++runI xs n:=by
 rw [seqP,seqP,List.range_succ,List.flatMap_append,List.flatMap_cons,List.flatMap_nil,List.append_nil]
theorem kkI_in {xs:List Int} (h:Br xs) {i:Nat} (hi:i+1<xs.length):1≤kkI xs i∧kkI xs i≤2000:=by
 have h1:=h.up i hi
 have h2:=h.high (i+1) hi
 have h3:=h.low i (by omega)
 have h4:=h.low (i+1) hi
 rw [kkI]
 split<;>omega
theorem runI_len {xs:List Int} (h:Br xs) {i:Nat} (hi:i+1<xs.length):(runI xs i).length≤3000:=by
 have h1:=kkI_in h hi
 have h2:=h.dhi i (by omega)
 have h3:=h.dpos i (by omega)
 have:=ex_len _ (kkI xs i).toNat ((dv xs).getD i 0).toNat (Nat.le_refl _)
 rw [runI,exI,List.length_map]
 omega
theorem seqP_len {xs:List Int} (h:Br xs):∀n,n+1≤xs.length→(seqP xs n).length≤3000*n
 |0,_=>by simp [seqP]
 |n+1,hn=>by
  have:=seqP_len h n (by omega)
  have:=runI_len h (i:=n) (by omega)
  rw [seqP_succ,List.length_append]
  omega
def sq1 (xs:List Int):List Int:=if xs.length=1 then [1] else seqI xs
def f_seq (es:List V):List V:=I (sq1 (unI es))
set_option maxHeartbeats 1000000 in
set_option maxRecDepth 100000 in
theorem s_impl_sequence:Sat Try.prog 115 (c_B_l f_seq IsBr):=by
 intro args ps r h hp
 unfold c_B_l at h
 split at h
 ·rename_i a0
  simp only [Option.some.injEq,Prod.mk.injEq] at h
  obtain ⟨rfl,rfl⟩:=h
  have hq:IsBr a0:=(alls_cons.1 hp).1
  have hqi:=hq.isIs
  obtain ⟨xs,hxs,hb⟩:=hq
  have g1:V.frzs a0=a0:=by rw [hxs,I_frzs]
  have e1:f0_pairs a0=xs.length-1:=by
   have:=hb.len
   rw [f0_pairs,hxs,I_length];exact wrap_id (by omega) (by omega)
  have e2:f_seq a0=I (sq1 xs):=by rw [f_seq,hxs,unI_I]
  have e3:f0_dv a0=I (dv xs):=by rw [f0_dv,hxs,unI_I]
  generalize H_f0_pairs:f0_pairs=F_f0_pairs
  generalize H_f0_dv:f0_dv=F_f0_dv
  generalize H_IsIs:IsIs=F_IsIs
  generalize H_f_runOf:f_runOf=F_f_runOf
  generalize H_q_runOf:q_runOf=F_q_runOf
  refine fnOk_ofI (T:=tab) (B:=[(147,c_b_i F_f0_pairs),(146,c_l_l F_f0_dv F_IsIs)]) (Bi:=[(148,0,true,c_runOf F_f_runOf F_q_runOf)]) [2000009999,0,1,2,3,4,5,6] Try.func115 rfl rfl (by kernel_rfl) (Nat.le_of_ble_eq_true rfl) mixed tabOk (by subst H_f0_pairs H_f0_dv H_IsIs H_f_runOf H_q_runOf;exact (bookCons s_impl_pairsOf (bookCons s_impl_divisors bookNil))) (by subst H_f0_pairs H_f0_dv H_IsIs H_f_runOf H_q_runOf;exact (bookMCons s_impl_runOf bookINil)) (by kernel_rfl) ?_
  intro L lp rr hL hr hf hlp
  conv=>cbv
  obtain ⟨ds,hds⟩:∃ds,ds=I (dv xs):=⟨_,rfl⟩
  have l1:ds.length=xs.length:=by rw [hds,I_length,hb.dlen]
  have hF:F_f0_dv a0=ds:=by rw [←H_f0_dv,e3,hds]
  have hF2:F_f0_pairs a0=xs.length-1:=by rw [←H_f0_pairs,e1]
  simp only [stdEqs hL,imp_self,true_and,and_true,bif_or,bif_and,Bool.or_eq_true,Bool.or_eq_false_iff,Bool.and_eq_true,Bool.and_eq_false_iff,decide_eq_true_eq,decide_eq_false_iff_not,Bool.not_eq_true',Bool.not_eq_false',beq_iff_eq,beq_eq_false_iff_ne,ne_eq,toNat0,toNat1,ok_int,toI_int,I_frzs,I_length,I_getD,ok_ints,toL_slc,hF,hF2,g1]
  have hp1:=hb.pos
  have hl1:=hb.len
  refine ⟨fun h=> ?_,fun h=> ?_⟩
  ·rw [hr,e2,sq1,if_pos (by omega)];rfl
  refine ⟨by rw [←H_IsIs];exact hqi,?_⟩
  refine hlp (List V×Int×Int) _ _ _ [1,3,4,5,6] (fun x=>[(1,none,.val (.box 26 (.agg [.slc false 2 (.int .i64 0) a0]))),(3,none,.val (.slc true 2 (.int .i64 0) ds)),(4,none,.val (.slc true 2 (.int .i64 0) x.1)),(5,none,.val (.int .i64 x.2.1)),(6,none,.val (.int .i64 x.2.2))])
   (fun x=>1≤x.2.2∧x.2.2≤xs.length∧x.1=I (seqP xs (x.2.2-1).toNat)∧x.2.1=(if (x.2.2-1).toNat=0 then 0 else xs.getD (x.2.2-1).toNat 0)) (fun x=>(xs.length-x.2.2).toNat) (([],0,1)) (by subst hL;rfl) ?_ ?_
  ·exact ⟨by simp,by simp only;omega,rfl,rfl⟩
  rintro ⟨es,t,i⟩ ⟨i0,i1,hI,hT⟩ hfx ag hag
  simp only at i0 i1 hI hT
  conv=>cbv
  have hlen:es.length≤200000:=by
   have:=seqP_len hb (i-1).toNat (by omega)
   rw [hI,I_length];omega
  have ga:∀k,a0.getD k (.int .i64 0)= .int .i64 (xs.getD k 0):=fun k=>by rw [hxs,I_getD]
  have gd:∀k,ds.getD k (.int .i64 0)= .int .i64 ((dv xs).getD k 0):=fun k=>by rw [hds,I_getD]
  have al:a0.length=xs.length:=by rw [hxs,I_length]
  have w1:IntKind.wrap .i64 (i-1)=i-1:=wrap_id (by omega) (by omega)
  simp only [stdEqs hL,imp_self,true_and,and_true,bif_or,bif_and,Bool.or_eq_true,Bool.or_eq_false_iff,Bool.and_eq_true,Bool.and_eq_false_iff,decide_eq_true_eq,decide_eq_false_iff_not,Bool.not_eq_true',Bool.not_eq_false',beq_iff_eq,beq_eq_false_iff_ne,ne_eq,toNat0,toNat1,ok_int,toI_int,I_frzs,I_length,I_getD,ok_ints,toL_slc,l1,al,ga,gd,w1]
  obtain ⟨k,rfl⟩:∃k:Nat,i=k+1:=⟨(i-1).toNat,by omega⟩
  rw [show ((k:Int)+1-1).toNat=k by omega] at hI hT
  rw [show ((k:Int)+1-1).toNat=k by omega,show ((k:Int)+1).toNat=k+1 by omega]
  refine ⟨fun h2=> ?_,fun h2=> ?_⟩
  ·have hk:xs.getD (k+1) 0-t=kkI xs k:=by rw [kkI,hT]
   have hkk:=kkI_in hb (i:=k) (by omega)
   have hd1:=hb.dpos k (by omega)
   have hd2:=hb.dhi k (by omega)
   rw [hk,wrap_id (n:=kkI xs k) (by omega) (by omega),wrap_id (n:=(k:Int)+1+1) (by omega) (by omega)]
   refine ⟨by omega,by omega,by omega,by omega,by omega,by rw [←H_q_runOf];exact ⟨by omega,by omega,by omega,by omega,by omega⟩,by omega,by omega,?_⟩
   refine hag (_,_,(k:Int)+1+1) ⟨by simp only;omega,by simp only;omega,?_,?_⟩ (by simp only;omega)
   ·simp only
    rw [show ((k:Int)+1+1-1).toNat=k+1 by omega,seqP_succ,←H_f_runOf,f_runOf,hI,I_append]
    rfl
   ·simp only
    rw [show ((k:Int)+1+1-1).toNat=k+1 by omega,if_neg (by omega)]
    rfl
  ·rw [hr,e2,sq1,if_neg (by omega),hI,seqI,show xs.length-1=k by omega]
 ·cases h
def firstK (xs:List Int) (k:Nat):List Int:=tab' (fun i=>(seqI xs).getD i 1) k
theorem firstK_len (xs:List Int) (k:Nat):(firstK xs k).length=k:=tab_len _ _
theorem sq1_get (xs:List Int) (i:Nat):(sq1 xs).getD i 1=(seqI xs).getD i 1:=by
 rw [sq1]
 split
 ·rename_i h
  have:seqI xs=[]:=by rw [seqI,h];rfl
  rw [this]
  cases i with
  |zero=>rfl
  |succ i=>rfl
 ·rfl
theorem getD_ones (l:List Int) (n i:Nat):(l++List.replicate n 1).getD i 1=l.getD i 1:=by
 simp only [List.getD_eq_getElem?_getD]
 by_cases h:i<l.length
 ·rw [List.getElem?_append_left h]
 ·rw [List.getElem?_append_right (by omega),List.getElem?_eq_none (l:=l) (by omega),List.getElem?_replicate]
  split<;>rfl
theorem take_first {l:List Int} {xs:List Int} {n k:Nat} (hl:∀i,l.getD i 1=(seqI xs).getD i 1) (h:k≤(l++List.replicate n 1).length):(l++List.replicate n 1).take k=firstK xs k:=by
 apply List.ext_getElem?
 intro i
 by_cases hi:i<k
 ·rw [List.getElem?_take_of_lt hi,firstK,tab_get? _ _ _ hi,←hl i,←getD_ones l n i,List.getD_eq_getElem?_getD,List.getElem?_eq_getElem (by omega)]
  rfl
 ·rw [List.getElem?_eq_none (by rw [List.length_take];omega),List.getElem?_eq_none (by rw [firstK_len];omega)]
def c_Bi_L (f:List V→Int→List V) (q:List V→Int→Prop):Contract:=fun
 |[.agg [.slc false 2 (.int .i64 0) a0],.int .i64 a1]=>some ([q a0 a1],.slc false 2 (.int .i64 0) (f a0 a1))
 |_=>none
def c_Bi_l (f:List V→Int→List V) (q:List V→Int→Prop):Contract:=fun
 |[.agg [.slc false 2 (.int .i64 0) a0],.int .i64 a1]=>some ([q a0 a1],.slc true 2 (.int .i64 0) (f a0 a1))
 |_=>none
def f_first (es:List V) (k:Int):List V:=I (firstK (unI es) k.toNat)
def q_first (es:List V) (k:Int):Prop:=IsBr es∧1≤k∧k≤1000000
theorem sq1_len {xs:List Int} (h:Br xs):(sq1 xs).length≤200000:=by
 have h1:=h.len
 have h2:=h.pos
 have:=seqP_len h (xs.length-1) (by omega)
 rw [sq1]
 split
 ·simp
 ·rw [seqI];omega
set_option maxHeartbeats 1000000 in
set_option maxRecDepth 100000 in
theorem s_impl_firstOf:Sat Try.prog 55 (c_Bi_L f_first q_first):=by
 intro args ps r h hp
 unfold c_Bi_L at h
 split at h
 ·rename_i a0 a1
  simp only [Option.some.injEq,Prod.mk.injEq] at h
  obtain ⟨rfl,rfl⟩:=h
  obtain ⟨hq,k1,k2⟩:q_first a0 a1:=(alls_cons.1 hp).1
  have hqb:=hq
  obtain ⟨xs,hxs,hb⟩:=hq
  have g1:V.frzs a0=a0:=by rw [hxs,I_frzs]
  obtain ⟨ss,hss⟩:∃ss,ss=I (sq1 xs):=⟨_,rfl⟩
  have e1:f_seq a0=ss:=by rw [f_seq,hxs,unI_I,hss]
  have e2:f_first a0 a1=I (firstK xs a1.toNat):=by rw [f_first,hxs,unI_I]
  have hsl:ss.length≤200000:=by rw [hss,I_length];exact sq1_len hb
  generalize H_f_seq:f_seq=F_f_seq
  generalize H_IsBr:IsBr=F_IsBr
  refine fnOk_ofI (T:=tab) (B:=[(115,c_B_l F_f_seq F_IsBr)]) (Bi:=[]) [0,1,2,4,5] Try.func55 rfl rfl (by kernel_rfl) (Nat.le_of_ble_eq_true rfl) mixed tabOk (by subst H_f_seq H_IsBr;exact (bookCons s_impl_sequence bookNil)) (by subst H_f_seq H_IsBr;exact bookINil) (by kernel_rfl) ?_
  intro L lp rr hL hr hf hlp
  conv=>cbv
  have hF:F_f_seq a0=ss:=by rw [←H_f_seq,e1]
  simp only [stdEqs hL,imp_self,true_and,and_true,bif_or,bif_and,Bool.or_eq_true,Bool.or_eq_false_iff,Bool.and_eq_true,Bool.and_eq_false_iff,decide_eq_true_eq,decide_eq_false_iff_not,Bool.not_eq_true',Bool.not_eq_false',beq_iff_eq,beq_eq_false_iff_ne,ne_eq,toNat0,toNat1,ok_int,toI_int,I_frzs,I_length,I_getD,ok_ints,toL_slc,hF,g1]
  refine ⟨by rw [←H_IsBr];exact hqb,?_⟩
  refine hlp (List V×Nat) _ _ _ [1,5] (fun x=>[(1,none,.val (.int .i64 a1)),(5,none,.val (.slc true 2 (.int .i64 0) x.1))])
   (fun x=>x.1=I (sq1 xs++List.replicate x.2 1)∧x.1.length≤1200000) (fun x=>a1.toNat-x.1.length) ((ss,0)) (by subst hL;rfl) ?_ ?_
  ·exact ⟨by simp [hss],by simp only;omega⟩
  rintro ⟨es,n⟩ ⟨hI,hl⟩ hfx ag hag
  simp only at hI hl
  conv=>cbv
  simp only [stdEqs hL,imp_self,true_and,and_true,bif_or,bif_and,Bool.or_eq_true,Bool.or_eq_false_iff,Bool.and_eq_true,Bool.and_eq_false_iff,decide_eq_true_eq,decide_eq_false_iff_not,Bool.not_eq_true',Bool.not_eq_false',beq_iff_eq,beq_eq_false_iff_ne,ne_eq,toNat0,toNat1,ok_int,toI_int,I_frzs,I_length,I_getD,ok_ints,toL_slc,]
  refine ⟨fun h=> ?_,fun h=> ?_⟩
  ·(repeat' first|(exact solid_one _)|(exact solid1 rfl)|(exact noown_one _)|(apply And.intro)|(intro _))<;>(try first|exact True.intro|omega|rfl|(simp only [List.length_cons,List.length_nil,I_length];omega))
   refine hag (_,n+1) ⟨?_,?_⟩ ?_
   ·simp only
    rw [List.replicate_succ',←List.append_assoc,←I_append,hI]
    rfl
   ·simp only [List.length_append,List.length_cons,List.length_nil];omega
   ·simp only [List.length_append,List.length_cons,List.length_nil];omega
  ·refine ⟨by omega,by omega,by omega,by omega,?_⟩
   rw [hr,e2,List.drop_zero,hI,I_frzs,I_take,take_first (sq1_get xs) (by rw [hI,I_length] at h;omega)]
 ·cases h
theorem II_solid (xss:List (List Int)):∀x∈II true xss,x.solid=true:=by
 intro x h
 simp only [II,List.mem_map] at h
 obtain ⟨xs,_,rfl⟩:=h
 rfl
def runsP (xs:List Int) (n:Nat):List (List Int):=(List.range n).flatMap fun i=>stI (kkI xs i) ((dv xs).getD i 0)
def runsI (xs:List Int):List (List Int):=runsP xs (xs.length-1)
theorem runsP_succ (xs:List Int) (n:Nat):runsP xs (n+1)=runsP xs n++stI (kkI xs n) ((dv xs).getD n 0):=by
 rw [runsP,runsP,List.range_succ,List.flatMap_append,List.flatMap_cons,List.flatMap_nil,List.append_nil]
theorem flatS_runs (xs:List Int):∀n,flatS (runsP xs n)=seqP xs n
 |0=>rfl
 |n+1=>by
  have h:∀a b:List (List Int),flatS (a++b)=flatS a++flatS b:=fun a b=>by rw [flatS,List.flatMap_append];rfl
  rw [runsP_succ,seqP_succ,h,flatS_runs xs n,flatS_stI,runI]
theorem stI_len {xs:List Int} (h:Br xs) {i:Nat} (hi:i+1<xs.length):(stI (kkI xs i) ((dv xs).getD i 0)).length≤64:=by
 have h2:=h.dhi i (by omega)
 have h3:=h.dpos i (by omega)
 have:=stp_len _ (kkI xs i).toNat ((dv xs).getD i 0).toNat (Nat.le_refl _)
 rw [stI,List.length_map]
 omega
theorem runsP_len {xs:List Int} (h:Br xs):∀n,n+1≤xs.length→(runsP xs n).length≤64*n
 |0,_=>by simp [runsP]
 |n+1,hn=>by
  have:=runsP_len h n (by omega)
  have:=stI_len h (i:=n) (by omega)
  rw [runsP_succ,List.length_append]
  omega
theorem runsP_mem {xs:List Int}:∀n,∀s∈runsP xs n,s.length=2∧0≤s.getD 0 0∧0≤s.getD 1 0:=by
 intro n s h
 simp only [runsP,List.mem_flatMap] at h
 obtain ⟨i,_,h⟩:=h
 exact stI_mem h
def c_B_m' (f:List V→List V) (q:List V→Prop):Contract:=fun
 |[.agg [.slc false 2 (.int .i64 0) a0]]=>some ([q a0],.slc true 24 (.slc true 2 (.int .i64 0) []) (f a0))
 |_=>none
def f_runs (es:List V):List V:=II true (runsI (unI es))
set_option maxHeartbeats 1000000 in
set_option maxRecDepth 100000 in
theorem s_spec_l04Runs:Sat Try.prog 149 (c_B_m' f_runs IsBr):=by
 intro args ps r h hp
 unfold c_B_m' at h
 split at h
 ·rename_i a0
  simp only [Option.some.injEq,Prod.mk.injEq] at h
  obtain ⟨rfl,rfl⟩:=h
  have hq:IsBr a0:=(alls_cons.1 hp).1
  have hqp:=hq.isP
  obtain ⟨xs,hxs,hb⟩:=hq
  have g1:V.frzs a0=a0:=by rw [hxs,I_frzs]
  have e2:f_runs a0=II true (runsI xs):=by rw [f_runs,hxs,unI_I]
  have e3:f0_dv a0=I (dv xs):=by rw [f0_dv,hxs,unI_I]
  generalize H_f0_dv:f0_dv=F_f0_dv
  generalize H_IsP:IsP=F_IsP
  generalize H_f_stI:f_stI=F_f_stI
  generalize H_q_stI:q_stI=F_q_stI
  refine fnOk_ofI (T:=tab) (B:=[(156,c_b_l F_f0_dv F_IsP),(157,c_ii_m F_f_stI F_q_stI)]) (Bi:=[]) [0,1,2,3,4,5,6] Try.func149 rfl rfl (by kernel_rfl) (Nat.le_of_ble_eq_true rfl) mixed tabOk (by subst H_f0_dv H_IsP H_f_stI H_q_stI;exact (bookCons s_spec_l03Divisors (bookCons s_spec_l01Steps bookNil))) (by subst H_f0_dv H_IsP H_f_stI H_q_stI;exact bookINil) (by kernel_rfl) ?_
  intro L lp rr hL hr hf hlp
  conv=>cbv
  obtain ⟨ds,hds⟩:∃ds,ds=I (dv xs):=⟨_,rfl⟩
  have l1:ds.length=xs.length:=by rw [hds,I_length,hb.dlen]
  have hF:F_f0_dv a0=ds:=by rw [←H_f0_dv,e3,hds]
  simp only [stdEqs hL,imp_self,true_and,and_true,bif_or,bif_and,Bool.or_eq_true,Bool.or_eq_false_iff,Bool.and_eq_true,Bool.and_eq_false_iff,decide_eq_true_eq,decide_eq_false_iff_not,Bool.not_eq_true',Bool.not_eq_false',beq_iff_eq,beq_eq_false_iff_ne,ne_eq,toNat0,toNat1,ok_int,toI_int,I_frzs,I_length,I_getD,ok_ints,toL_slc,hF,g1]
  refine ⟨by rw [←H_IsP];exact hqp,?_⟩
  have hp1:=hb.pos
  have hl1:=hb.len
  refine hlp (List V×Int) _ _ _ [1,3,4,5] (fun x=>[(1,none,.val (.box 26 (.agg [.slc false 2 (.int .i64 0) a0]))),(3,none,.val (.slc true 2 (.int .i64 0) ds)),(4,none,.val (.slc true 24 (.slc true 2 (.int .i64 0) []) x.1)),(5,none,.val (.int .i64 x.2))])
   (fun x=>1≤x.2∧x.2≤xs.length∧x.1=II true (runsP xs (x.2-1).toNat)) (fun x=>(xs.length-x.2).toNat) (([],1)) (by subst hL;rfl) ?_ ?_
  ·exact ⟨by simp,by simp only;omega,rfl⟩
  rintro ⟨es,i⟩ ⟨i0,i1,hI⟩ hfx ag hag
  simp only at i0 i1 hI
  conv=>cbv
  have ga:∀k,a0.getD k (.int .i64 0)= .int .i64 (xs.getD k 0):=fun k=>by rw [hxs,I_getD]
  have gd:∀k,ds.getD k (.int .i64 0)= .int .i64 ((dv xs).getD k 0):=fun k=>by rw [hds,I_getD]
  have al:a0.length=xs.length:=by rw [hxs,I_length]
  have w1:IntKind.wrap .i64 (i-1)=i-1:=wrap_id (by omega) (by omega)
  simp only [stdEqs hL,imp_self,true_and,and_true,bif_or,bif_and,Bool.or_eq_true,Bool.or_eq_false_iff,Bool.and_eq_true,Bool.and_eq_false_iff,decide_eq_true_eq,decide_eq_false_iff_not,Bool.not_eq_true',Bool.not_eq_false',beq_iff_eq,beq_eq_false_iff_ne,ne_eq,toNat0,toNat1,ok_int,toI_int,I_frzs,I_length,I_getD,ok_ints,toL_slc,l1,al,ga,gd,w1]
  obtain ⟨k,rfl⟩:∃k:Nat,i=k+1:=⟨(i-1).toNat,by omega⟩
  rw [show ((k:Int)+1-1).toNat=k by omega] at hI
  rw [show ((k:Int)+1-1).toNat=k by omega,show ((k:Int)+1).toNat=k+1 by omega]
  have fin:(k:Int)+1<xs.length→∀z,z=kkI xs k→F_q_stI z ((dv xs).getD k 0)∧(es.length:Int)+(F_f_stI z ((dv xs).getD k 0)).length≤2147483647∧(∀x∈F_f_stI z ((dv xs).getD k 0),x.solid=true)∧ag (keepS [1,3,4,5] [(1,none,.val (.box 26 (.agg [.slc false 2 (.int .i64 0) a0]))),(3,none,.val (.slc true 2 (.int .i64 0) ds)),(4,none,.val (.slc true 24 (.slc true 2 (.int .i64 0) []) (es++F_f_stI z ((dv xs).getD k 0)))),(5,none,.val (.int .i64 (k+1+1)))]):=by
   intro h z hz
   have hkk:=kkI_in hb (i:=k) (by omega)
   have hd1:=hb.dpos k (by omega)
   have hd2:=hb.dhi k (by omega)
   have hlr:=runsP_len hb k (by omega)
   have hls:=stI_len hb (i:=k) (by omega)
   have hfz:F_f_stI z ((dv xs).getD k 0)=II true (stI (kkI xs k) ((dv xs).getD k 0)):=by rw [←H_f_stI,hz];rfl
   rw [hfz]
   refine ⟨by rw [←H_q_stI,hz];exact ⟨by omega,by omega,by omega,by omega⟩,by rw [hI,II_length,II_length];omega,II_solid _,?_⟩
   refine hag (_,(k:Int)+1+1) ⟨by simp only;omega,by simp only;omega,?_⟩ (by simp only;omega)
   simp only
   rw [show ((k:Int)+1+1-1).toNat=k+1 by omega,runsP_succ,hI,II_append]
  refine ⟨fun h=>⟨by omega,by omega,fun h2=> ?_,fun h2=> ?_⟩,fun h=> ?_⟩
  ·have hz:IntKind.wrap .i64 (xs.getD (k+1) 0-xs.getD k 0)=kkI xs k:=by
    have hkk:=kkI_in hb (i:=k) (by omega)
    have e:xs.getD (k+1) 0-xs.getD k 0=kkI xs k:=by rw [kkI,if_neg (by omega)]
    rw [e,wrap_id (by omega) (by omega)]
   obtain ⟨f1,f2,f3,f4⟩:=fin h _ hz
   rw [wrap_id (n:=(k:Int)+1+1) (by omega) (by omega)]
   exact ⟨by omega,by omega,by omega,by omega,by omega,f1,f2,f3,f4⟩
  ·have hz:xs.getD (k+1) 0=kkI xs k:=by
    rw [kkI,if_pos (by omega)]
    omega
   obtain ⟨f1,f2,f3,f4⟩:=fin h _ hz
   rw [wrap_id (n:=(k:Int)+1+1) (by omega) (by omega)]
   exact ⟨by omega,by omega,by omega,f1,f2,f3,f4⟩
  ·rw [hr,e2,hI,runsI,show xs.length-1=k by omega]
 ·cases h
theorem take_fill {xs:List Int} {k n:Nat} (h:((seqI xs).take k++List.replicate n 1).length=k):(seqI xs).take k++List.replicate n 1=firstK xs k:=by
 apply List.ext_getElem?
 intro i
 by_cases hi:i<k
 ·have h1:((seqI xs).take k++List.replicate n 1).getD i 1=(seqI xs).getD i 1:=by
   rw [getD_ones,List.getD_eq_getElem?_getD,List.getElem?_take_of_lt hi,←List.getD_eq_getElem?_getD]
  rw [firstK,tab_get? _ _ _ hi,←h1,List.getD_eq_getElem?_getD,List.getElem?_eq_getElem (by omega)]
  rfl
 ·rw [List.getElem?_eq_none (by omega),List.getElem?_eq_none (by rw [firstK_len];omega)]
theorem take_more {l:List Int} {k:Nat} (x:Int) (h:(l.take k).length<k):l.take k++[x]=(l++[x]).take k:=by
 rw [List.length_take] at h
 rw [List.take_of_length_le (by omega),List.take_of_length_le (by simp;omega)]
theorem take_full {l:List Int} {k:Nat} (m:List Int) (h:¬(l.take k).length<k):l.take k=(l++m).take k:=by
 rw [List.length_take] at h
 rw [List.take_append_of_le_length (by omega)]
set_option maxHeartbeats 1000000 in
set_option maxRecDepth 100000 in
theorem s_spec_l06Sequence:Sat Try.prog 118 (c_Bi_l f_first q_first):=by
 intro args ps r h hp
 unfold c_Bi_l at h
 split at h
 ·rename_i a0 a1
  simp only [Option.some.injEq,Prod.mk.injEq] at h
  obtain ⟨rfl,rfl⟩:=h
  obtain ⟨hq,k1,k2⟩:q_first a0 a1:=(alls_cons.1 hp).1
  have hqb:=hq
  obtain ⟨xs,hxs,hb⟩:=hq
  have g1:V.frzs a0=a0:=by rw [hxs,I_frzs]
  obtain ⟨S,hS⟩:∃S,S=runsI xs:=⟨_,rfl⟩
  obtain ⟨ss,hss⟩:∃ss,ss=II true S:=⟨_,rfl⟩
  have e1:f_runs a0=ss:=by rw [f_runs,hxs,unI_I,hss,hS]
  have e2:f_first a0 a1=I (firstK xs a1.toNat):=by rw [f_first,hxs,unI_I]
  have hsl:ss.length=S.length:=by rw [hss,II_length]
  have hSl:S.length≤5000:=by
   have h1:=hb.len
   have h2:=hb.pos
   have:=runsP_len hb (xs.length-1) (by omega)
   rw [hS,runsI];omega
  have gss:∀k,ss.getD k (.slc true 2 (.int .i64 0) [])= .slc true 2 (.int .i64 0) (I (S.getD k [])):=fun k=>by rw [hss,II_getD]
  generalize H_f_runs:f_runs=F_f_runs
  generalize H_IsBr:IsBr=F_IsBr
  refine fnOk_ofI (T:=tab) (B:=[(149,c_B_m' F_f_runs F_IsBr)]) (Bi:=[]) [0,1,2,4,5,6,7,8] Try.func118 rfl rfl (by kernel_rfl) (Nat.le_of_ble_eq_true rfl) mixed tabOk (by subst H_f_runs H_IsBr;exact (bookCons s_spec_l04Runs bookNil)) (by subst H_f_runs H_IsBr;exact bookINil) (by kernel_rfl) ?_
  intro L lp rr hL hr hf hlp
  conv=>cbv
  have hF:F_f_runs a0=ss:=by rw [←H_f_runs,e1]
  simp only [stdEqs hL,imp_self,true_and,and_true,bif_or,bif_and,Bool.or_eq_true,Bool.or_eq_false_iff,Bool.and_eq_true,Bool.and_eq_false_iff,decide_eq_true_eq,decide_eq_false_iff_not,Bool.not_eq_true',Bool.not_eq_false',beq_iff_eq,beq_eq_false_iff_ne,ne_eq,toNat0,toNat1,ok_int,toI_int,I_frzs,I_length,I_getD,ok_ints,toL_slc,hF,g1]
  refine ⟨by rw [←H_IsBr];exact hqb,?_⟩
  refine hlp (List V×Int) _ _ _ [1,5,6,7] (fun x=>[(1,none,.val (.int .i64 a1)),(5,none,.val (.slc true 2 (.int .i64 0) x.1)),(6,none,.val (.slc true 24 (.slc true 2 (.int .i64 0) []) ss)),(7,none,.val (.int .i64 x.2))])
   (fun x=>0≤x.2∧x.2≤S.length∧x.1=I ((flatS (S.take x.2.toNat)).take a1.toNat)) (fun x=>(S.length-x.2).toNat) (([],0)) (by subst hL;rfl) ?_ ?_
  ·exact ⟨by simp,by simp only;omega,by simp [flatS,I]⟩
  rintro ⟨es,i⟩ ⟨i0,i1,hI⟩ hfx ag hag
  simp only at i0 i1 hI
  have hst:=flatS_step S i.toNat
  have hmem:=fun (h:i.toNat<S.length)=>runsP_mem (xs:=xs) (xs.length-1) (S.getD i.toNat []) (by have:=mem_getD h;rwa [hS,runsI] at this ⊢)
  generalize hE:S.getD i.toNat []=E at hst hmem
  have hl:es.length≤a1.toNat:=by rw [hI,I_length,List.length_take];omega
  conv=>cbv
  simp only [stdEqs hL,imp_self,true_and,and_true,bif_or,bif_and,Bool.or_eq_true,Bool.or_eq_false_iff,Bool.and_eq_true,Bool.and_eq_false_iff,decide_eq_true_eq,decide_eq_false_iff_not,Bool.not_eq_true',Bool.not_eq_false',beq_iff_eq,beq_eq_false_iff_ne,ne_eq,toNat0,toNat1,ok_int,toI_int,I_frzs,I_length,I_getD,ok_ints,toL_slc,hsl,gss,hE]
  refine ⟨fun h=> ?_,fun h=> ?_⟩
  ·obtain ⟨hEl,hE0,hE1⟩:=hmem (by omega)
   have hst':=hst (by omega)
   obtain ⟨it,hit⟩:∃it,it=i.toNat:=⟨_,rfl⟩
   simp only [←hit] at hE hst' hI ⊢
   have hti:it<S.length:=by omega
   have hEb:E.getD 0 0≤200000:=by
    have h1:flatS S=flatS (S.take (it+1))++flatS (S.drop (it+1)):=by
     rw [flatS,flatS,flatS,←List.flatMap_append,List.take_append_drop]
    have h2:=congrArg List.length h1
    have h3:=hb.pos
    have h4:=hb.len
    have h5:=seqP_len hb (xs.length-1) (by omega)
    have h6:flatS S=seqP xs (xs.length-1):=by rw [hS,runsI,flatS_runs]
    rw [h6,List.length_append,hst',List.length_append,List.length_replicate] at h2
    omega
   refine ⟨by omega,by omega,hti,hti,by omega,by omega,hti,by omega,?_⟩
   refine hlp (List V×Int) _ _ _ [1,5,6,7,8] (fun x=>[(1,none,.val (.int .i64 a1)),(5,none,.val (.slc true 2 (.int .i64 0) x.1)),(6,none,.val (.slc true 24 (.slc true 2 (.int .i64 0) []) ss)),(7,none,.val (.int .i64 i)),(8,none,.val (.int .i64 x.2))])
    (fun x=>0≤x.2∧x.2≤E.getD 0 0∧x.1=I ((flatS (S.take it)++List.replicate (E.getD 0 0-x.2).toNat (E.getD 1 0)).take a1.toNat)) (fun x=>x.2.toNat) ((es,E.getD 0 0)) (by subst hL;rfl) ?_ ?_
   ·exact ⟨by simp only;omega,by simp,by simp [hI]⟩
   rintro ⟨es2,q⟩ ⟨j0,j1,hI2⟩ hfx2 ag2 hag2
   simp only at j0 j1 hI2
   have hl2:es2.length≤a1.toNat:=by rw [hI2,I_length,List.length_take];omega
   conv=>cbv
   simp only [stdEqs hL,imp_self,true_and,and_true,bif_or,bif_and,Bool.or_eq_true,Bool.or_eq_false_iff,Bool.and_eq_true,Bool.and_eq_false_iff,decide_eq_true_eq,decide_eq_false_iff_not,Bool.not_eq_true',Bool.not_eq_false',beq_iff_eq,beq_eq_false_iff_ne,ne_eq,toNat0,toNat1,ok_int,toI_int,I_frzs,I_length,I_getD,ok_ints,toL_slc,hsl,gss,←hit,hE]
   refine ⟨fun hj=> ?_,fun hj=> ?_⟩
   ·rw [wrap_id (n:=q-1) (by omega) (by omega)]
    refine ⟨by omega,by omega,hti,hti,by omega,by omega,hti,by omega,noown_one _,by simp only [List.length_cons,List.length_nil];omega,solid_one _,?_⟩
    refine hag2 (_,q-1) ⟨by simp only;omega,by simp only;omega,?_⟩ (by simp only;omega)
    simp only
    have hlt:((flatS (S.take it)++List.replicate (E.getD 0 0-q).toNat (E.getD 1 0)).take a1.toNat).length<a1.toNat:=by
     have:=hj.2
     rw [hI2,I_length] at this
     omega
    rw [show (E.getD 0 0-(q-1)).toNat=(E.getD 0 0-q).toNat+1 by omega,List.replicate_succ',←List.append_assoc,←take_more _ hlt,hI2,←I_append]
    rfl
   ·rw [wrap_id (n:=i+1) (by omega) (by omega)]
    refine hag (_,i+1) ⟨by simp only;omega,by simp only;omega,?_⟩ (by simp only;omega)
    simp only [toNat_succ i0,←hit]
    rw [hst',hI2]
    by_cases hq0:q=0
    ·rw [show (E.getD 0 0-q).toNat=(E.getD 0 0).toNat by omega]
    ·have hfl:¬((flatS (S.take it)++List.replicate (E.getD 0 0-q).toNat (E.getD 1 0)).take a1.toNat).length<a1.toNat:=by
      have:=hj.resolve_left (by omega)
      rw [hI2,I_length] at this
      omega
     rw [take_full (List.replicate q.toNat (E.getD 1 0)) hfl,List.append_assoc,List.replicate_append_replicate,show (E.getD 0 0-q).toNat+q.toNat=(E.getD 0 0).toNat by omega]
  ·have hI':es=I ((seqI xs).take a1.toNat):=by
    rw [hI,List.take_of_length_le (l:=S) (by omega),hS,runsI,flatS_runs,seqI]
   clear hst hmem hI
   refine hlp (List V×Nat) _ _ _ [1,5] (fun x=>[(1,none,.val (.int .i64 a1)),(5,none,.val (.slc true 2 (.int .i64 0) x.1))])
    (fun x=>x.1=I ((seqI xs).take a1.toNat++List.replicate x.2 1)∧x.1.length≤a1.toNat) (fun x=>a1.toNat-x.1.length) ((es,0)) (by subst hL;rfl) ?_ ?_
   ·exact ⟨by simp [hI'],hl⟩
   rintro ⟨es2,n⟩ ⟨hI2,hl2⟩ hfx2 ag2 hag2
   simp only at hI2 hl2
   conv=>cbv
   simp only [stdEqs hL,imp_self,true_and,and_true,bif_or,bif_and,Bool.or_eq_true,Bool.or_eq_false_iff,Bool.and_eq_true,Bool.and_eq_false_iff,decide_eq_true_eq,decide_eq_false_iff_not,Bool.not_eq_true',Bool.not_eq_false',beq_iff_eq,beq_eq_false_iff_ne,ne_eq,toNat0,toNat1,ok_int,toI_int,I_frzs,I_length,I_getD,ok_ints,toL_slc,]
   refine ⟨fun h=> ?_,fun h=> ?_⟩
   ·(repeat' first|(exact solid_one _)|(exact solid1 rfl)|(exact noown_one _)|(apply And.intro)|(intro _))<;>(try first|exact True.intro|omega|rfl|(simp only [List.length_cons,List.length_nil,I_length];omega))
    refine hag2 (_,n+1) ⟨?_,?_⟩ ?_
    ·simp only
     rw [List.replicate_succ',←List.append_assoc,←I_append,hI2]
     rfl
    ·simp only [List.length_append,List.length_cons,List.length_nil];omega
    ·simp only [List.length_append,List.length_cons,List.length_nil];omega
   ·rw [hr,e2,hI2,take_fill (by rw [hI2,I_length] at h hl2;omega)]
 ·cases h
end Go.Ax
