import Derived.Test.YtlkdpcjakfhnoaaGreatAxP4q4
import Derived.Test.YtlkdpcjakfhnoaaGreatProg
import Derived.KernelRfl
import Derived.IntWalk
import Derived.Test.YtlkdpcjakfhnoaaGreatRows
set_option linter.all false
set_option maxRecDepth 100000
set_option maxHeartbeats 1000000
open Bool renaming and_eq_false_iff→jT,and_eq_true→zh,not_eq_false'→zaK,not_eq_true'→qo
open Int renaming eq_ofNat_of_zero_le→QO,le_of_lt→zgA,natCast_add→zc4,natCast_nonneg→ka,tmod_lt_of_pos→kH,toNat_natCast→zC
open List renaming all_cons→QR,all_eq_true→yI,append_assoc→yf,append_nil→yw,drop_eq_nil_of_le→qM,ext_getElem?→yS,flatMap_append→jQ,flatMap_cons→Zz,flatMap_nil→Qd,getD_cons_succ→qG,getD_cons_zero→jb,getD_eq_getElem?_getD→zd,getElem?_append_left→yM,getElem?_append_right→yn,getElem?_eq_getElem→ze,getElem?_eq_none→zI,getElem?_map→zH,getElem?_range→QH,getElem?_replicate→jV,getElem?_set_self→uP,getElem?_take_of_lt→Qc,getElem_mem→ya,length_append→zk,length_cons→zi,length_drop→yx,length_map→yh,length_nil→zr,length_replicate→zT,length_set→yj,length_take→zL,map_congr_left→uK,map_map→JL,map_set→Ym,mem_iff_getElem→qk,mem_map→jO,mem_range→kn,range_succ→Zt,replicate_succ→yE,replicate_succ'→jo,take_append_drop→qK,take_of_length_le→zB,take_succ_eq_append_getElem→zF
open Nat renaming add_sub_cancel→qU,gcd_comm→uO,le_of_ble_eq_true→zg,le_refl→zt,lt_irrefl→zbP,mod_lt→YJ,sub_self→jA
open Option.some renaming injEq→za
open Prod.mk renaming injEq→zb
/-
 The table of types,lists of numbers,arithmetic without overflow.
-/
namespace Go.Ax
open Go.Proofs
def tab:kc:=[(2,⟨.int .i64,1,.int .i64 0⟩),(3,⟨.int .i64,1,.int .i64 0⟩),(4,⟨.bool,1,.bool false⟩),(5,⟨.int .u8,1,.int .u8 0⟩),(22,⟨.slc 5,1,.slc true 5 (.int .u8 0) []⟩),(24,⟨.slc 68,1,.slc true 68 (.agg [.slc true 2 (.int .i64 0) []]) []⟩),(25,⟨.slc 30,1,.slc true 30 (.slc true 2 (.int .i64 0) []) []⟩),(27,⟨.agg [(0,24),(1,25)],2,.agg [.slc true 68 (.agg [.slc true 2 (.int .i64 0) []]) [],.slc true 30 (.slc true 2 (.int .i64 0) []) []]⟩),(30,⟨.slc 2,1,.slc true 2 (.int .i64 0) []⟩),(68,⟨.agg [(0,30)],1,.agg [.slc true 2 (.int .i64 0) []]⟩),(69,⟨.int .u64,1,.int .u64 0⟩),(71,⟨.agg [(0,22),(1,3),(2,69)],3,.agg [.slc true 5 (.int .u8 0) [],.int .i64 0,.int .u64 0]⟩),(76,⟨.int .u64,1,.int .u64 0⟩),(78,⟨.agg [(0,30),(1,30),(2,30)],3,.agg [.slc true 2 (.int .i64 0) [],.slc true 2 (.int .i64 0) [],.slc true 2 (.int .i64 0) []]⟩),(125,⟨.int .i64,1,.int .i64 0⟩),(143,⟨.int .u64,1,.int .u64 0⟩)]
theorem zP: Tryz.prog.follows .mixedOrders=true:=by kernel_rfl
theorem zQ:TabOk Tryz.prog tab:=⟨by kernel_rfl,by kernel_rfl,by kernel_rfl⟩
def I(xs:List Int):List V:=xs.map (.int .i64)
def qb(es:List V):List Int:=es.map V.toI
def KF(es:List V):Prop:=∃l,es=I l
@[simp] theorem zq(xs:List Int):qb (I xs)=xs:=by
  induction xs with
  |nil=>rfl
  |cons x l ih=>simp only[I,qb,List.map_cons,V.toI,List.cons.injEq,true_and]at ih ⊢;exact ih
@[simp] theorem zj(xs:List Int):(I xs).length=xs.length:=by simp[I]
@[simp] theorem zR(xs:List Int)(i:Nat):(I xs).getD i (.int .i64 0)=.int .i64 (xs.getD i 0):=by
  simp only[I,zd,zH]
  cases xs[i]? <;>rfl
@[simp] theorem KY(xs:List Int)(i:Nat)(y:Int):(I xs).set i (.int .i64 y)=I (xs.set i y):=by simp[I,Ym]
@[simp] theorem qr(xs ys:List Int):I xs++I ys=I (xs++ys):=by simp[I]
@[simp] theorem I_cons(x:Int)(xs:List Int):V.int .i64 x::I xs=I (x::xs):=by simp[I]
@[simp] theorem zim(xs:List Int)(n:Nat):(I xs).take n=I (xs.take n):=by simp[I]
@[simp] theorem zzU(xs:List Int)(n:Nat):(I xs).drop n=I (xs.drop n):=by simp[I]
@[simp] theorem zd6(n:Nat)(x:Int):List.replicate n (V.int .i64 x)=I (List.replicate n x):=by simp[I]
@[simp] theorem zG(xs:List Int):V.frzs (I xs)=I xs:=by
  rw[V.frzs_eq]
  simp[I,V.frz]
@[simp] theorem JP(xs:List Int):V.noFzs (I xs)=true:=by
  rw[V.noFzs_eq]
  simp[I,V.noFz]
@[simp] theorem Ks(xs:List Int):V.owneds (I xs)=false:=by
  rw[V.owneds_eq]
  simp[I,V.owned]
@[simp] theorem I_nil:I []=[]:=rfl
theorem JO(xs:List Int):∀x∈I xs,x.solid=true:=by
 intro x hx
 simp only[I,jO]at hx
 obtain⟨n,_,rfl⟩:=hx
 rfl
@[simp] theorem JD(o:Bool)(n:Int):vw Zd tab o 20 2 (.int .i64 n)=some (.int .i64 n):=rfl
@[simp] theorem ok_int'(o:Bool)(n:Int):vw Zd tab o 20 3 (.int .i64 n)=some (.int .i64 n):=rfl
@[simp] theorem ui(k:IntKind)(n:Int):Zd.toI (.int k n)=n:=rfl
theorem zo{n:Int}(h1: -9223372036854775808≤n)(h2:n≤9223372036854775807):IntKind.wrap .i64 n=n:=IntWalk.i64_in n ⟨h1,h2⟩
theorem kF{α:Type}{xs:List α}{i:Nat}(d:α)(h:i<xs.length):xs.drop i=xs.getD i d::xs.drop (i+1):=by
 rw[List.drop_eq_getElem_cons h,zd,ze h]
 rfl
theorem zU{i:Int}(h:0≤i):(i+1).toNat=i.toNat+1:=by omega
theorem zuP{xs:List Int}{i:Nat}{p:Int→Bool}(h:i<xs.length):(xs.drop i).all p=(p (xs.getD i 0)&&(xs.drop (i+1)).all p):=by
 rw[kF 0 h,QR]
theorem zp{L:Alg}{T:kc}(h:L=yz T):L.v=Zd
 ∧(∀(k:IntKind) (n:Int),L.wrap k n=(k.wrap n))
 ∧(∀(a:Int) (b:Int),L.add a b=(a+b))
 ∧(∀(a:Int) (b:Int),L.sub a b=(a-b))
 ∧(∀(a:Int) (b:Int),L.mul a b=(a*b))
 ∧(∀(a:Int) (b:Int),L.quo a b=(a.tdiv b))
 ∧(∀(a:Int) (b:Int),L.rem a b=(a.tmod b))
 ∧(∀(k:IntKind) (a:Int) (b:Int),L.band k a b=(zcS k a b))
 ∧(∀(k:IntKind) (a:Int) (b:Int),L.shr k a b=(zfK k a b))
 ∧(∀(a:Int) (b:Int),L.imin a b=(min a b))
 ∧(∀(a:Int) (b:Int),L.imax a b=(max a b))
 ∧(∀(a:Int) (b:Int),L.eqI a b=(a==b))
 ∧(∀(a:Int) (b:Int),L.leI a b=(decide (a≤b)))
 ∧(∀(a:Int) (b:Int),L.ltI a b=(decide (a<b)))
 ∧(∀(a:Bool) (b:Bool),L.eqB a b=(a==b))
 ∧(∀(a:Bool),L.not a=(!a))
 ∧(∀(a:Bool) (b:Bool),L.and a b=(a&&b))
 ∧(∀(c:Bool) (a:Bool) (b:Bool),L.pick c a b=(bif c then a else b))
 ∧(∀(a:ByteArray) (b:ByteArray),L.eqS a b=(a.toList==b.toList))
 ∧(∀(a:ByteArray) (b:ByteArray),L.ltS a b=(Op.bytesLess a.toList b.toList))
 ∧(∀(a:ByteArray) (b:ByteArray),L.appS a b=(a++b))
 ∧(∀(a:ByteArray),L.lenS a=((a.size:Int)))
 ∧(∀(s:ByteArray) (n:Int),L.getS s n=(((s.data.getD n.toNat 0).toNat:Int)))
 ∧(∀(s:ByteArray) (l:Int) (h:Int),L.extS s l h=(s.extract l.toNat h.toNat))
 ∧(∀(es:List V),L.len es=((es.length:Int)))
 ∧(∀(es:List V) (i:Nat) (d:V),L.get es i d=(es.getD i d))
 ∧(∀(es:List V) (i:Nat) (y:V),L.set es i y=(es.set i y))
 ∧(∀(a:List V) (b:List V),L.app a b=(a++b))
 ∧(∀(es:List V) (l:Int) (h:Int),L.sli es l h=((es.take h.toNat).drop l.toNat))
 ∧(∀(n:Int) (z:V),L.rep n z=(List.replicate n.toNat z))
 ∧(∀(x:List V),L.frz x=(V.frzs x))
 ∧(∀(x:Int),L.nat x=(Int.toNat x))
 ∧(∀(i:Nat) (es:List V),L.ltN i es=(i<es.length))
 ∧(∀(es:List V),L.nofz es=(V.noFzs es=true))
 ∧(∀(es:List V),L.nown es=(V.owneds es=false))
 ∧(∀(es:List V),L.emp es=(es=[]))
 ∧(∀(o:Bool) (t:TypeId) (y:V),L.ok o t y=(vw Zd T o 20 t y=some y))
 ∧(∀(t:TypeId) (y:V),L.okS t y=OkS T t y)
 ∧(∀(es:List V),L.solid es=(∀x∈es,x.solid=true))
 ∧(∀(a:Int) (b:Int),L.le a b=(a≤b))
 ∧(∀(a:Int) (b:Int),L.lt a b=(a<b))
 ∧(∀(b:Int),L.ne0 b=(b≠0))
 ∧(∀(b:Bool) (p:Prop),L.imp b p=(b=true→p))
 ∧(∀(b:Bool),L.tt b=(b=true))
 ∧(∀(b:Bool) (p:Prop) (q:Prop),L.ifP b p q=((b=true→p)∧(b=false→q))):=by
 subst h
 exact⟨rfl,by intros;rfl,by intros;rfl,by intros;rfl,by intros;rfl,by intros;rfl,by intros;rfl,by intros;rfl,by intros;rfl,by intros;rfl,by intros;rfl,by intros;rfl,by intros;rfl,by intros;rfl,by intros;rfl,by intros;rfl,by intros;rfl,by intros;rfl,by intros;rfl,by intros;rfl,by intros;rfl,by intros;rfl,by intros;rfl,by intros;rfl,by intros;rfl,by intros;rfl,by intros;rfl,by intros;rfl,by intros;rfl,by intros;rfl,by intros;rfl,by intros;rfl,by intros;rfl,by intros;rfl,by intros;rfl,by intros;rfl,by intros;rfl,by intros;rfl,by intros;rfl,by intros;rfl,by intros;rfl,by intros;rfl,by intros;rfl,by intros;rfl,by intros;rfl⟩
end Go.Ax
namespace Go.Ax
open Go.Proofs
def jg(f0:Int→Int→Int→Bool):zN:=fun
 |[.int .i64 a0,.int .i64 a1,.int .i64 a2]=>some ([],.bool (f0 a0 a1 a2))
 |_=>none
def yG(a b c:Int):Bool:=decide (b≤a)&&decide (a≤c)
theorem zaN:yT Tryz.prog 80 (jg yG):=by
 intro args ps r h hp
 unfold jg at h
 split at h
 ·rename_i a0 a1 a2
  simp only[za,zb]at h
  obtain⟨rfl,rfl⟩:=h
  refine zfu (T:=tab) (B:=[]) [0,1,2,6] Tryz.func80 rfl rfl (by kernel_rfl) (zg rfl) zP zQ zy (by kernel_rfl) ?_
  intro L lp rr hL hr hf hlp
  conv=>cbv
  subst hL hr
  simp[yz,yG]
 ·cases h
def zeR(f0:List V→Int→Int→Bool)(q:List V→Prop):zN:=fun
 |[.slc false 2 (.int .i64 0) a0,.int .i64 a1,.int .i64 a2]=>some ([q a0],.bool (f0 a0 a1 a2))
 |_=>none
def jX(l:List Int)(a b:Int):Bool:=l.all fun x=>yG x a b
def zgf(es:List V)(a b:Int):Bool:=jX (qb es) a b
theorem zr3:yT Tryz.prog 98 (zeR zgf KF):=by
 intro args ps r h hp
 unfold zeR at h
 split at h
 ·rename_i a0 a1 a2
  simp only[za,zb]at h
  obtain⟨rfl,rfl⟩:=h
  obtain⟨xs,hxs⟩:KF a0:=(zl.1 hp).1
  generalize HF0IMPLINRANGE:yG=F0IMPLINRANGE
  refine zfu (T:=tab) (B:=[(80,jg F0IMPLINRANGE)]) [0,1,2,6,8,9,10,11] Tryz.func98 rfl rfl (by kernel_rfl) (zg rfl) zP zQ (by subst HF0IMPLINRANGE;exact(zm zaN zy)) (by kernel_rfl) ?_
  intro L lp rr hL hr hf hlp
  obtain⟨n,hn⟩:∃n:Int,n=a0.length:=⟨_,rfl⟩
  have hlen:=hf.1.1
  conv=>cbv
  refine hlp (Int) _ _ _ [1,2,9,10,11] (fun i=>[(1,none,.val (.int .i64 a1)),(2,none,.val (.int .i64 a2)),(9,none,.val (.slc false 2 (.int .i64 0) a0)),(10,none,.val (.int .i64 n)),(11,none,.val (.int .i64 i))]) (fun i=>0≤i∧i≤n∧jX xs a1 a2=jX (xs.drop i.toNat) a1 a2) (fun i=>(n-i).toNat) 0 (by subst hL hn;rfl) ?_ ?_
  ·subst hxs hn
   simp
  ·rintro i ⟨i0,i1,i2⟩ hfx ag hag
   conv=>cbv
   subst hL hr HF0IMPLINRANGE hxs
   simp only[yz,zR,JD,ui,zj,imp_self,true_and,decide_eq_true_eq,decide_eq_false_iff_not,qo,zaK,V.bool.injEq,zgf,zq]at hn hlen ⊢
   refine⟨fun h=>⟨i0,by omega,fun h1=>?_,fun h1=>?_⟩,fun h=>?_⟩
   ·rw[i2,jX,zuP (by omega),h1]
    rfl
   ·rw[zo (by omega) (by omega)]
    refine hag _ ⟨by omega,by omega,?_⟩ (by omega)
    rw[i2,jX,jX,zuP (by omega),zU i0,h1]
    rfl
   ·rw[i2,qM (by omega)]
    rfl
 ·cases h
def zD0(xs:List Int):Nat→Int→Int→Int×Int×Int
 |0,t,b=>(t,b,0)
 |k+1,t,b=>
  if 1000000000000<IntKind.wrap .i64 (IntKind.wrap .i64 (xs.getD k 0*t)-b)then(0,0,3)
  else zD0 xs k (IntKind.wrap .i64 (IntKind.wrap .i64 (xs.getD k 0*t)-b)) t
def cf(xs:List Int):Int×Int×Int:=bif (bif (bif decide ((xs.length:Int)<1)then true else decide (30<(xs.length:Int)))then true else !jX xs 2 1000)then(0,0,1)else zD0 xs xs.length 1 0
theorem YR:yT Tryz.prog 48 (jg yG):=by
 intro args ps r h hp
 unfold jg at h
 split at h
 ·rename_i a0 a1 a2
  simp only[za,zb]at h
  obtain⟨rfl,rfl⟩:=h
  refine zfu (T:=tab) (B:=[]) [0,1,2,6] Tryz.func48 rfl rfl (by kernel_rfl) (zg rfl) zP zQ zy (by kernel_rfl) ?_
  intro L lp rr hL hr hf hlp
  cbv
  subst hL hr
  simp[yz,yG]
 ·cases h
def jJ(f0:List V→List V)(q:List V→Prop):zN:=fun
 |[.slc false 2 (.int .i64 0) a0]=>some ([q a0],.slc true 2 (.int .i64 0) (f0 a0))
 |_=>none
def same(es:List V):List V:=es
def jU(es:List V):Prop:=(∃l,es=I l)∧es.length≤2147483647
def Yi(a b:List V):Bool:=decide (qb a=qb b)
def yes(_:List V):Bool:=true
end Go.Ax
namespace Go.Ax
open Go.Proofs
def zyx(f0:Int→Int):zN:=fun
 |[.int .i64 a0]=>some ([],.int .i64 (f0 a0))
 |_=>none
def zcW(a:Int):Int:=bif decide (a<0)then IntKind.wrap .i64 (0-a)else a
theorem zxC:yT Tryz.prog 149 (zyx zcW):=by
 intro args ps r h hp
 unfold zyx at h
 split at h
 ·rename_i a0
  simp only[za,zb]at h
  obtain⟨rfl,rfl⟩:=h
  refine zfu (T:=tab) (B:=[]) [0,2] Tryz.func149 rfl rfl (by kernel_rfl) (zg rfl) zP zQ zy (by kernel_rfl) ?_
  intro L lp rr hL hr hf hlp
  conv=>cbv
  simp only[zp hL,imp_self,true_and]
  subst hr
  refine⟨fun h=>?_,fun h=>?_⟩<;>simp only[zcW,h,cond_true,cond_false]
 ·cases h
def zaq(f0:Int→Int→Int)(q:Int→Int→Prop):zN:=fun
 |[.int .i64 a0,.int .i64 a1]=>some ([q a0 a1],.int .i64 (f0 a0 a1))
 |_=>none
def ne0(_ b:Int):Prop:=b≠0
def zaZ(a b:Int):Int:=if _h:0<b then zaZ b (a.tmod b)else a
termination_by b.toNat
decreasing_by
 have:=kH a (by assumption)
 omega
def jk(a b:Int):Int:=zaZ (zcW a) (zcW b)
def zex(_ _:Int):Prop:=True
theorem zak{a b:Int}(h:0<b):zaZ a b=zaZ b (a.tmod b):=by rw[zaZ,dif_pos h]
theorem JX{a b:Int}(h:¬0<b):zaZ a b=a:=by rw[zaZ,dif_neg h]
theorem zpM:yT Tryz.prog 140 (zaq jk zex):=by
 intro args ps r h hp
 unfold zaq at h
 split at h
 ·rename_i a0 a1
  simp only[za,zb]at h
  obtain⟨rfl,rfl⟩:=h
  generalize HA:zcW=A0
  refine zfu (T:=tab) (B:=[(149,zyx A0)]) [0,1,4] Tryz.func140 rfl rfl (by kernel_rfl) (zg rfl) zP zQ (by subst HA;exact zm zxC zy) (by kernel_rfl) ?_
  intro L lp rr hL hr hf hlp
  conv=>cbv
  refine hlp (Int×Int) _ _ _ [0,1] (fun x=>[(0,none,.val (.int .i64 x.1)),(1,none,.val (.int .i64 x.2))])
   (fun x=>jk a0 a1=zaZ x.1 x.2) (fun x=>x.2.toNat) (A0 a0,A0 a1) (by subst hL;rfl) (by subst HA;rfl) ?_
  rintro⟨a,b⟩ hI hfx ag hag
  conv=>cbv
  simp only[zp hL,imp_self,true_and,decide_eq_true_eq,decide_eq_false_iff_not]
  simp only at hI
  refine⟨fun h=>⟨by omega,hag (b,a.tmod b) (by rw[hI,zak h]) ?_⟩,fun h=>?_⟩
  ·have:=kH a h
   simp only
   omega
  ·subst hr
   rw[hI,JX h]
 ·cases h
theorem zeJ:yT Tryz.prog 85 (zaq jk zex):=by
 intro args ps r h hp
 unfold zaq at h
 split at h
 ·rename_i a0 a1
  simp only[za,zb]at h
  obtain⟨rfl,rfl⟩:=h
  refine zfu (T:=tab) (B:=[]) [0,1,4,5] Tryz.func85 rfl rfl (by kernel_rfl) (zg rfl) zP zQ zy (by kernel_rfl) ?_
  intro L lp rr hL hr hf hlp
  conv=>cbv
  simp only[zp hL,imp_self,true_and,decide_eq_true_eq,decide_eq_false_iff_not]
  refine⟨fun h0=>⟨fun h1=>?_,fun h1=>?_⟩,fun h0=>⟨fun h1=>?_,fun h1=>?_⟩⟩
  ·refine hlp (Int×Int) _ _ _ [0,1] (fun x=>[(0,none,.val (.int .i64 x.1)),(1,none,.val (.int .i64 x.2))])
    (fun x=>jk a0 a1=zaZ x.1 x.2) (fun x=>x.2.toNat) (IntKind.wrap .i64 (0-a0),IntKind.wrap .i64 (0-a1)) (by subst hL;rfl) (by simp[jk,zcW,h0,h1]) ?_
   rintro⟨a,b⟩ hI hfx ag hag
   conv=>cbv
   simp only[zp hL,imp_self,true_and,decide_eq_true_eq,decide_eq_false_iff_not]
   simp only at hI
   refine⟨fun h=>⟨by omega,hag (b,a.tmod b) (by rw[hI,zak h]) ?_⟩,fun h=>?_⟩
   ·have:=kH a h
    simp only
    omega
   ·subst hr
    rw[hI,JX h]
  ·refine hlp (Int×Int) _ _ _ [0,1] (fun x=>[(0,none,.val (.int .i64 x.1)),(1,none,.val (.int .i64 x.2))])
    (fun x=>jk a0 a1=zaZ x.1 x.2) (fun x=>x.2.toNat) (IntKind.wrap .i64 (0-a0),a1) (by subst hL;rfl) (by simp[jk,zcW,h0,h1]) ?_
   rintro⟨a,b⟩ hI hfx ag hag
   conv=>cbv
   simp only[zp hL,imp_self,true_and,decide_eq_true_eq,decide_eq_false_iff_not]
   simp only at hI
   refine⟨fun h=>⟨by omega,hag (b,a.tmod b) (by rw[hI,zak h]) ?_⟩,fun h=>?_⟩
   ·have:=kH a h
    simp only
    omega
   ·subst hr
    rw[hI,JX h]
  ·refine hlp (Int×Int) _ _ _ [0,1] (fun x=>[(0,none,.val (.int .i64 x.1)),(1,none,.val (.int .i64 x.2))])
    (fun x=>jk a0 a1=zaZ x.1 x.2) (fun x=>x.2.toNat) (a0,IntKind.wrap .i64 (0-a1)) (by subst hL;rfl) (by simp[jk,zcW,h0,h1]) ?_
   rintro⟨a,b⟩ hI hfx ag hag
   conv=>cbv
   simp only[zp hL,imp_self,true_and,decide_eq_true_eq,decide_eq_false_iff_not]
   simp only at hI
   refine⟨fun h=>⟨by omega,hag (b,a.tmod b) (by rw[hI,zak h]) ?_⟩,fun h=>?_⟩
   ·have:=kH a h
    simp only
    omega
   ·subst hr
    rw[hI,JX h]
  ·refine hlp (Int×Int) _ _ _ [0,1] (fun x=>[(0,none,.val (.int .i64 x.1)),(1,none,.val (.int .i64 x.2))])
    (fun x=>jk a0 a1=zaZ x.1 x.2) (fun x=>x.2.toNat) (a0,a1) (by subst hL;rfl) (by simp[jk,zcW,h0,h1]) ?_
   rintro⟨a,b⟩ hI hfx ag hag
   conv=>cbv
   simp only[zp hL,imp_self,true_and,decide_eq_true_eq,decide_eq_false_iff_not]
   simp only at hI
   refine⟨fun h=>⟨by omega,hag (b,a.tmod b) (by rw[hI,zak h]) ?_⟩,fun h=>?_⟩
   ·have:=kH a h
    simp only
    omega
   ·subst hr
    rw[hI,JX h]
 ·cases h
theorem Sh.ints{o:Bool}{e:TypeId}{d:V}{xs ys:List Int}(h:xs.length=ys.length):Sh (.slc o e d (I xs)) (.slc o e d (I ys)):=by
 refine .slc o e d _ _ (by simp[h]) (fun i x y hx hy=>?_)
 simp only[I,zH,Option.map_eq_some_iff]at hx hy
 obtain⟨a,_,rfl⟩:=hx
 obtain⟨b,_,rfl⟩:=hy
 exact .scal _ _ rfl rfl
end Go.Ax
namespace Go.Ax
open Go.Proofs
theorem zug{xs:List Int}{i:Nat}(h:i+1<xs.length):xs.drop i=xs.getD i 0::xs.getD (i+1) 0::xs.drop (i+2):=by
 rw[kF 0 (by omega),kF 0 h]
theorem qL(n:Int):V.owneds [V.int .i64 n]=false:=rfl
theorem jZ{v:V}(h:v.solid=true):∀x∈[v],x.solid=true:=by
 intro x hx
 simp at hx
 subst hx
 exact h
theorem yR(n:Int):∀x∈[V.int .i64 n],x.solid=true:=by
 intro x hx
 simp at hx
 subst hx
 rfl
def Zq(d:Int):List Int→List Int
 |[]=>[]
 |t::l=>jk d t::Zq (jk d t) l
def dv(xs:List Int):List Int:=Zq 0 xs
theorem znr:∀(l:List Int) (d:Int),(Zq d l).length=l.length
 |[],_=>rfl
 |_::l,_=>by simp[Zq,znr l]
def zsw(f0:List V→List V)(q:List V→Prop):zN:=fun
 |[.slc false 2 (.int .i64 0) a0]=>some ([q a0],.slc true 2 (.int .i64 0) (f0 a0))
 |_=>none
def zsx(f0:List V→List V)(q:List V→Prop):zN:=fun
 |[.agg [.slc false 2 (.int .i64 0) a0]]=>some ([q a0],.slc true 2 (.int .i64 0) (f0 a0))
 |_=>none
def Jw(es:List V):List V:=I (dv (qb es))
theorem zgW:yT Tryz.prog 121 (zsw Jw jU):=by
 intro args ps r h hp
 unfold zsw at h
 split at h
 ·rename_i a0
  simp only[za,zb]at h
  obtain⟨rfl,rfl⟩:=h
  obtain⟨⟨xs,hxs⟩,hlen⟩:jU a0:=(zl.1 hp).1
  have hxl:a0.length=xs.length:=by rw[hxs,zj]
  rw[hxl]at hlen
  obtain⟨m,hm⟩:∃m:Int,m=a0.length:=⟨_,rfl⟩
  generalize YE:jk=zeB
  generalize kS:zex=Jr
  refine zD (T:=tab) (B:=[(140,zaq zeB Jr)]) (Bi:=[]) [0,2,3,4,6,8,9,10] Tryz.func121 rfl rfl (by kernel_rfl) (zg rfl) zP zQ (by subst YE kS;exact(zm zpM zy)) (by subst YE kS;exact zu) (by kernel_rfl) ?_
  intro L lp rr hL hr hf hlp
  conv=>cbv
  refine hlp (List V×Int×Int) _ _ _ [3,4,8,9,10] (fun x=>[(3,none,.val (.slc true 2 (.int .i64 0) x.1)),(4,none,.val (.int .i64 x.2.1)),(8,none,.val (.slc false 2 (.int .i64 0) a0)),(9,none,.val (.int .i64 m)),(10,none,.val (.int .i64 x.2.2))])
   (fun x=>0≤x.2.2∧x.2.2≤xs.length∧∃pre:List Int,x.1=I pre∧pre.length=x.2.2.toNat∧dv xs=pre++Zq x.2.1 (xs.drop x.2.2.toNat)) (fun x=>(xs.length-x.2.2).toNat) ([],0,0) (by subst hL hm;rfl) ⟨by simp,by simp,[],rfl,rfl,by simp[dv]⟩ ?_
  rintro⟨es,d,i⟩ ⟨i0,i1,pre,h1,h2,h3⟩ hfx ag hag
  conv=>cbv
  have hm':m=xs.length:=by rw[hm,hxl]
  have hg:a0.getD i.toNat (.int .i64 0)=.int .i64 (xs.getD i.toNat 0):=by rw[hxs,zR]
  simp only at i0 i1 h1 h2 h3
  have hel:es.length=pre.length:=by rw[h1,zj]
  simp only[zp hL,hxl,hg,hel,JD,ui,imp_self,true_and,decide_eq_true_eq,decide_eq_false_iff_not]
  refine⟨fun h=>⟨i0,by omega,?_,rfl,by simp;omega,yR _,?_⟩,fun h=>?_⟩
  ·subst kS;trivial
  ·rw[zo (n:=i+1) (by omega) (by omega)]
   subst YE
   refine hag (es++[.int .i64 (jk d (xs.getD i.toNat 0))],jk d (xs.getD i.toNat 0),i+1) ⟨by simp only;omega,by simp only;omega,pre++[jk d (xs.getD i.toNat 0)],by rw[h1];simp[I],by simp;omega,?_⟩ (by simp only;omega)
   simp only[zU i0]
   rw[h3,kF 0 (by omega),Zq]
   simp
  ·subst hr
   rw[qM (by omega)]at h3
   simp only[Zq,yw]at h3
   rw[Jw,hxs,zq,h3,h1]
 ·cases h
theorem zg6{t:Int}(h:0<t):jk 0 t=t:=by
 have e1:zcW 0=0:=rfl
 have e2:zcW t=t:=by
  have:decide (t<0)=false:=by simp;omega
  rw[zcW,this]
  rfl
 rw[jk,e1,e2,zak h,Int.zero_tmod,JX (by omega)]
def IsP(es:List V):Prop:=∃(t:Int) (l:List Int),es=I (t::l)∧0<t∧l.length<2147483647
theorem zee:yT Tryz.prog 119 (zsx Jw IsP):=by
 intro args ps r h hp
 unfold zsx at h
 split at h
 ·rename_i a0
  simp only[za,zb]at h
  obtain⟨rfl,rfl⟩:=h
  obtain⟨t0,l0,hxs,ht,hlen⟩:IsP a0:=(zl.1 hp).1
  obtain⟨xs,hx⟩:∃xs,xs=t0::l0:=⟨_,rfl⟩
  have hxs':a0=I xs:=by rw[hxs,hx]
  have hxl:a0.length=xs.length:=by rw[hxs',zj]
  have hxn:xs.length=l0.length+1:=by rw[hx];rfl
  have hx0:xs.getD 0 0=t0:=by rw[hx];rfl
  generalize YE:jk=zeB
  generalize kS:zex=Jr
  refine zD (T:=tab) (B:=[(85,zaq zeB Jr)]) (Bi:=[]) [0,1,2,3,4] Tryz.func119 rfl rfl (by kernel_rfl) (zg rfl) zP zQ (by subst YE kS;exact(zm zeJ zy)) (by subst YE kS;exact zu) (by kernel_rfl) ?_
  intro L lp rr hL hr hf hlp
  conv=>cbv
  have hg0:a0.getD (Int.toNat 0) (.int .i64 0)=.int .i64 (xs.getD 0 0):=by rw[hxs',zR];rfl
  simp only[zp hL,hxl,hg0,JD,ui,imp_self,true_and,decide_eq_true_eq,decide_eq_false_iff_not]
  refine⟨by omega,by omega,?_⟩
  refine hlp (List V×Int) _ _ _ [1,3,4] (fun x=>[(1,none,.val (.box 68 (.agg [.slc false 2 (.int .i64 0) a0]))),(3,none,.val (.slc true 2 (.int .i64 0) x.1)),(4,none,.val (.int .i64 x.2))])
   (fun x=>0<x.2∧x.2≤xs.length∧∃(pre:List Int) (d:Int),x.1=I pre∧pre.length=x.2.toNat∧pre.getD (x.2.toNat-1) 0=d∧dv xs=pre++Zq d (xs.drop x.2.toNat)) (fun x=>(xs.length-x.2).toNat) ([.int .i64 (xs.getD 0 0)],1) (by subst hL;rfl)
   ⟨by simp,by simp only;omega,[t0],t0,by rw[hx0];rfl,rfl,rfl,by rw[hx];simp[dv,Zq,zg6 ht]⟩ ?_
  rintro⟨es,i⟩ ⟨i0,i1,pre,d,h1,h2,h4,h3⟩ hfx ag hag
  conv=>cbv
  have hg:a0.getD i.toNat (.int .i64 0)=.int .i64 (xs.getD i.toNat 0):=by rw[hxs',zR]
  simp only at i0 i1 h1 h2 h3 h4
  have hel:es.length=pre.length:=by rw[h1,zj]
  have ew:IntKind.wrap .i64 (i-1)=i-1:=zo (by omega) (by omega)
  have ge:es.getD (i-1).toNat (.int .i64 0)=.int .i64 d:=by rw[h1,zR,show(i-1).toNat=i.toNat-1 by omega,h4]
  simp only[zp hL,hxl,hg,hel,ew,ge,JD,ui,imp_self,true_and,decide_eq_true_eq,decide_eq_false_iff_not]
  refine⟨fun h=>⟨by omega,by omega,by omega,by omega,by omega,?_,rfl,by simp;omega,yR _,?_⟩,fun h=>?_⟩
  ·subst kS;trivial
  ·rw[zo (n:=i+1) (by omega) (by omega)]
   subst YE
   refine hag (es++[.int .i64 (jk d (xs.getD i.toNat 0))],i+1) ⟨by simp only;omega,by simp only;omega,pre++[jk d (xs.getD i.toNat 0)],jk d (xs.getD i.toNat 0),by rw[h1];simp[I],by simp;omega,?_,?_⟩ (by simp only;omega)
   ·simp only[zU (zgA i0),qU]
    rw[zd,yn (by omega),show i.toNat-pre.length=0 by omega]
    rfl
   ·simp only[zU (zgA i0)]
    rw[h3,kF 0 (by omega),Zq]
    simp
  ·subst hr
   rw[qM (by omega)]at h3
   simp only[Zq,yw]at h3
   rw[Jw,hxs',zq,h3,h1]
 ·cases h
def asc:List Int→Bool
 |a::b::l=>bif decide (b≤a)then false else asc (b::l)
 |_=>true
def zdy(f0:List V→Bool)(q:List V→Prop):zN:=fun
 |[.slc false 2 (.int .i64 0) a0]=>some ([q a0],.bool (f0 a0))
 |_=>none
def zkN(es:List V):Bool:=asc (qb es)
theorem zpO:yT Tryz.prog 97 (zdy zkN KF):=by
 intro args ps r h hp
 unfold zdy at h
 split at h
 ·rename_i a0
  simp only[za,zb]at h
  obtain⟨rfl,rfl⟩:=h
  obtain⟨xs,hxs⟩:KF a0:=(zl.1 hp).1
  have hxl:a0.length=xs.length:=by rw[hxs,zj]
  refine zD (T:=tab) (B:=[]) (Bi:=[]) [0,2,3] Tryz.func97 rfl rfl (by kernel_rfl) (zg rfl) zP zQ (by exact zy) (by exact zu) (by kernel_rfl) ?_
  intro L lp rr hL hr hf hlp
  have hlen:=hf.1.1
  rw[hxl]at hlen
  have hrr:rr=.bool (asc xs):=by rw[hr,zkN,hxs,zq]
  conv=>cbv
  refine hlp (Int) _ _ _ [0,3] (fun x=>[(0,none,.val (.slc false 2 (.int .i64 0) a0)),(3,none,.val (.int .i64 x))])
   (fun x=>0<x∧asc xs=asc (xs.drop (x.toNat-1))) (fun x=>(xs.length-x).toNat) 1 (by subst hL;rfl) (by simp) ?_
  rintro i ⟨i0,h2⟩ hfx ag hag
  conv=>cbv
  have hg:a0.getD i.toNat (.int .i64 0)=.int .i64 (xs.getD i.toNat 0):=by rw[hxs,zR]
  have hg':a0.getD (i-1).toNat (.int .i64 0)=.int .i64 (xs.getD (i.toNat-1) 0):=by rw[hxs,zR,show(i-1).toNat=i.toNat-1 by omega]
  have key:i<xs.length→xs.drop (i.toNat-1)=xs.getD (i.toNat-1) 0::xs.getD i.toNat 0::xs.drop (i.toNat+1):=by
   intro h
   rw[zug (by omega)]
   rw[show i.toNat-1+1=i.toNat by omega,show i.toNat-1+2=i.toNat+1 by omega]
  by_cases hb:i<xs.length
  ·have ew:IntKind.wrap .i64 (i-1)=i-1:=zo (by omega) (by omega)
   simp only[zp hL,hxl,hg,ew,hg',JD,ui,imp_self,true_and,decide_eq_true_eq,decide_eq_false_iff_not]
   refine⟨fun h=>⟨by omega,by omega,by omega,by omega,fun h4=>?_,fun h4=>?_⟩,fun h=>absurd hb h⟩
   ·rw[hrr,h2,key h,asc,decide_eq_true h4]
    rfl
   ·rw[zo (n:=i+1) (by omega) (by omega)]
    refine hag (i+1) ⟨by omega,?_⟩ (by omega)
    have e1:xs.drop i.toNat=xs.getD i.toNat 0::xs.drop (i.toNat+1):=kF 0 (by omega)
    rw[h2,key h,asc,decide_eq_false h4,show(i+1).toNat-1=i.toNat by omega,e1]
    rfl
  ·have hz:asc (xs.drop (i.toNat-1))=true:=by
    have hl:(xs.drop (i.toNat-1)).length≤1:=by rw[yx];omega
    match xs.drop (i.toNat-1),hl with
    |[],_=>rfl
    |[_],_=>rfl
   simp only[zp hL,hxl,decide_eq_true_eq,decide_eq_false_iff_not]
   exact⟨fun h=>absurd h hb,fun _=>by rw[hrr,h2,hz]⟩
 ·cases h
theorem zja:∀(n:Nat) (a b:Int),b.toNat≤n→0≤a→0≤b→zaZ a b=(Nat.gcd a.toNat b.toNat:Int)
 |0,a,b,hn,ha,hb=>by
  obtain rfl:b=0:=by omega
  rw[JX (by omega)]
  simp
  omega
 |n+1,a,b,hn,ha,hb=>by
  by_cases h:0<b
  ·have h1:(a.tmod b)=((a.toNat%b.toNat:Nat):Int):=by
    obtain⟨x,rfl⟩:=QO ha
    obtain⟨y,rfl⟩:=QO hb
    rw[Int.tmod_eq_emod_of_nonneg (ka x)]
    simp
   have h2:a.toNat%b.toNat<b.toNat:=YJ _ (by omega)
   rw[zak h,zja n b (a.tmod b) (by rw[h1,zC];omega) hb (by rw[h1];exact ka _),h1]
   simp only[zC]
   rw[uO a.toNat b.toNat,Nat.gcd_rec b.toNat a.toNat,uO]
  ·obtain rfl:b=0:=by omega
   rw[JX (by omega)]
   simp
   omega
theorem zdB{t:Int}(h:0<t):zcW t=t:=by
 have:decide (t<0)=false:=by simp;omega
 rw[zcW,this]
 rfl
theorem zwz{a b:Int}(ha:0<a)(hb:0<b):0<jk a b∧jk a b≤a∧jk a b≤b:=by
 rw[jk,zdB ha,zdB hb,zja b.toNat a b (zt _) (by omega) (by omega)]
 have h1:=Nat.gcd_pos_of_pos_left b.toNat (show 0<a.toNat by omega)
 have h2:=Nat.le_of_dvd (show 0<a.toNat by omega) (Nat.gcd_dvd_left a.toNat b.toNat)
 have h3:=Nat.le_of_dvd (show 0<b.toNat by omega) (Nat.gcd_dvd_right a.toNat b.toNat)
 omega
def dec:List Int→Bool
 |a::b::l=>bif decide (a≤b)then false else dec (b::l)
 |[a]=>a==1
 |[]=>false
def zdw(es:List V):Bool:=dec (dv (qb es))
def zlp(es:List V):Prop:=jU es∧es≠[]
theorem zsW:yT Tryz.prog 99 (zdy zdw zlp):=by
 intro args ps r h hp
 unfold zdy at h
 split at h
 ·rename_i a0
  simp only[za,zb]at h
  obtain⟨rfl,rfl⟩:=h
  obtain⟨⟨⟨xs,hxs⟩,hlen⟩,hne⟩:zlp a0:=(zl.1 hp).1
  have hxl:a0.length=xs.length:=by rw[hxs,zj]
  obtain⟨ds,hds⟩:∃ds,ds=dv xs:=⟨_,rfl⟩
  have hdl:ds.length=xs.length:=by rw[hds,dv,znr]
  have hpos:0<xs.length:=by
   cases xs with
   |nil=>exact absurd hxs hne
   |cons x l=>simp
  have hf0:Jw (V.frzs a0)=I ds:=by rw[hxs,zG,Jw,zq,hds]
  have hq:jU (V.frzs a0):=by rw[hxs,zG];exact⟨⟨xs,rfl⟩,by rw[←hxs];exact hlen⟩
  have hrr0:zdw a0=dec ds:=by rw[zdw,hxs,zq,hds]
  rw[hxl]at hlen
  generalize ZS:Jw=KN
  generalize yv:jU=qA
  refine zD (T:=tab) (B:=[(121,zsw KN qA)]) (Bi:=[]) [0,2,3,4] Tryz.func99 rfl rfl (by kernel_rfl) (zg rfl) zP zQ (by subst ZS yv;exact(zm zgW zy)) (by subst ZS yv;exact zu) (by kernel_rfl) ?_
  intro L lp rr hL hr hf hlp
  conv=>cbv
  have hF:KN (V.frzs a0)=I ds:=by rw[←ZS];exact hf0
  simp only[zp hL,hF]
  refine⟨by rw[←yv];exact hq,?_⟩
  obtain⟨es,hes⟩:∃es,es=I ds:=⟨_,rfl⟩
  have hel:es.length=ds.length:=by rw[hes,zj]
  refine hlp (Int) _ _ _ [3,4] (fun x=>[(3,none,.val (.slc true 2 (.int .i64 0) es)),(4,none,.val (.int .i64 x))])
   (fun x=>0<x∧x≤ds.length∧dec ds=dec (ds.drop (x.toNat-1))) (fun x=>(ds.length-x).toNat) 1 (by subst hL hes;rfl) ⟨by simp,by omega,by simp⟩ ?_
  rintro i ⟨i0,i1,h2⟩ hfx ag hag
  conv=>cbv
  have ew:IntKind.wrap .i64 (i-1)=i-1:=zo (by omega) (by omega)
  have ew2:IntKind.wrap .i64 ((ds.length:Int)-1)=(ds.length:Int)-1:=zo (by omega) (by omega)
  have hg:es.getD i.toNat (.int .i64 0)=.int .i64 (ds.getD i.toNat 0):=by rw[hes,zR]
  have hg':es.getD (i-1).toNat (.int .i64 0)=.int .i64 (ds.getD (i.toNat-1) 0):=by rw[hes,zR,show(i-1).toNat=i.toNat-1 by omega]
  have hg2:es.getD ((ds.length:Int)-1).toNat (.int .i64 0)=.int .i64 (ds.getD (ds.length-1) 0):=by rw[hes,zR,show((ds.length:Int)-1).toNat=ds.length-1 by omega]
  simp only[zp hL,hel,hg,hg',hg2,ew,ew2,JD,ui,imp_self,true_and,decide_eq_true_eq,decide_eq_false_iff_not]
  have hrr:rr=.bool (dec ds):=by rw[hr,hrr0]
  refine⟨fun h=>?_,fun h=>?_⟩
  ·have key:ds.drop (i.toNat-1)=ds.getD (i.toNat-1) 0::ds.getD i.toNat 0::ds.drop (i.toNat+1):=by
    rw[zug (by omega)]
    rw[show i.toNat-1+1=i.toNat by omega,show i.toNat-1+2=i.toNat+1 by omega]
   (repeat' first|(intro _)|(apply And.intro))<;>try omega
   ·rename_i h4
    rw[hrr,h2,key,dec,decide_eq_true h4]
    rfl
   ·rename_i h4
    rw[zo (n:=i+1) (by omega) (by omega)]
    refine hag (i+1) ⟨by omega,by omega,?_⟩ (by omega)
    have e1:ds.drop i.toNat=ds.getD i.toNat 0::ds.drop (i.toNat+1):=kF 0 (by omega)
    rw[h2,key,dec,decide_eq_false h4,show(i+1).toNat-1=i.toNat by omega,e1]
    rfl
  ·(repeat' first|(intro _)|(apply And.intro))<;>try omega
   have e1:ds.drop (i.toNat-1)=[ds.getD (ds.length-1) 0]:=by
    rw[show i.toNat-1=ds.length-1 by omega,kF 0 (by omega),qM (by omega)]
   rw[hrr,h2,e1]
   rfl
 ·cases h
end Go.Ax
namespace Go.Ax
open Go.Proofs
def YT(xs:List Int):Bool:=
 bif (bif (bif (bif decide (0<(xs.length:Int))then yG (xs.getD 0 0) 1 64 else false)then asc xs else false)then jX xs 1 2000 else false)then dec (dv xs)else false
def zgq(p e:Int):List Int→Bool
 |[]=>e==1
 |t::l=>bif !yG t (IntKind.wrap .i64 (p+1)) 2000 then false else bif jk e t==e then false else zgq t (jk e t) l
theorem zwP:∀(l:List Int) (p e:Int),1≤p→p≤2000→1≤e→zgq p e l=(asc (p::l)&&jX l 1 2000&&dec (e::Zq e l))
 |[],p,e,_,_,_=>by simp[zgq,asc,jX,Zq,dec]
 |t::l,p,e,h1,h2,h3=>by
  have ew:IntKind.wrap .i64 (p+1)=p+1:=zo (by omega) (by omega)
  simp only[zgq,ew]
  by_cases hr:p+1≤t∧t≤2000
  ·have e1:yG t (p+1) 2000=true:=by simp[yG,hr]
   have e2:asc (p::t::l)=asc (t::l):=by simp[asc];omega
   have e3:jX (t::l) 1 2000=jX l 1 2000:=by simp[jX,yG];omega
   obtain⟨g1,g2,_⟩:=zwz (a:=e) (b:=t) (by omega) (by omega)
   rw[e1,e2,e3]
   simp only[Bool.not_true,cond_false,Zq,dec]
   by_cases hg:jk e t=e
   ·simp[hg]
   ·have e4:decide (e≤jk e t)=false:=by simp;omega
    have e5:(jk e t==e)=false:=by simpa using hg
    rw[e4,e5]
    simp only[cond_false]
    exact zwP l t (jk e t) (by omega) (by omega) (by omega)
  ·have e1:yG t (p+1) 2000=false:=by
    simp only[yG,jT,decide_eq_false_iff_not]
    omega
   rw[e1]
   simp only[Bool.not_false,cond_true]
   by_cases hp:t≤p
   ·simp[asc,hp]
   ·have:jX (t::l) 1 2000=false:=by
     have:yG t 1 2000=false:=by
      simp only[yG,jT,decide_eq_false_iff_not]
      omega
     simp[jX,this]
    simp[this]
def zff(xs:List Int):Bool:=bif (bif ((xs.length:Int)==0)then true else !yG (xs.getD 0 0) 1 64)then false else zgq (xs.getD 0 0) (xs.getD 0 0) (xs.drop 1)
theorem ztM(xs:List Int):zff xs=YT xs:=by
 cases xs with
 |nil=>rfl
 |cons t l=>
  have e0:(((t::l).length:Int)==0)=false:=by
   rw[beq_eq_false_iff_ne]
   simp only[zi]
   omega
  have e1:decide (0<((t::l).length:Int))=true:=by
   rw[decide_eq_true_eq]
   simp only[zi]
   omega
  simp only[zff,YT,e0,e1,cond_true,cond_false,jb,List.drop_succ_cons,List.drop_zero]
  cases hr:yG t 1 64 with
  |false=>simp
  |true=>
   simp only[yG,zh,decide_eq_true_eq]at hr
   rw[zwP l t t (by omega) (by omega) (by omega)]
   have e2:dv (t::l)=t::Zq t l:=by simp only[dv,Zq];rw[zg6 (by omega)]
   have e3:jX (t::l) 1 2000=jX l 1 2000:=by simp[jX,yG];omega
   rw[e2,e3]
   cases asc (t::l)<;>cases jX l 1 2000<;>simp
theorem zD4{A B C D:Bool}(h:(bif (bif (bif D then A else false)then B else false)then C else false)=true):D=true:=by
 cases D<;>simp_all
def Ko(f0:List V→Bool)(q:List V→Prop):zN:=fun
 |[.agg [.slc false 2 (.int .i64 0) a0]]=>some ([q a0],.bool (f0 a0))
 |_=>none
def uW(es:List V):Bool:=YT (qb es)
theorem zoo:yT Tryz.prog 61 (Ko uW jU):=by
 intro args ps r h hp
 unfold Ko at h
 split at h
 ·rename_i a0
  simp only[za,zb]at h
  obtain⟨rfl,rfl⟩:=h
  obtain⟨⟨xs,hxs⟩,hlen⟩:jU a0:=(zl.1 hp).1
  have hxl:a0.length=xs.length:=by rw[hxs,zj]
  have hg:a0.getD (Int.toNat 0) (.int .i64 0)=.int .i64 (xs.getD 0 0):=by rw[hxs,zR];rfl
  have hrr0:uW a0=YT xs:=by rw[uW,hxs,zq]
  have q1:KF (V.frzs a0):=by rw[hxs,zG];exact⟨xs,rfl⟩
  have q2:xs≠[]→zlp (V.frzs a0):=by
   intro h
   rw[hxs,zG]
   refine⟨⟨⟨xs,rfl⟩,by rw[←hxs];exact hlen⟩,?_⟩
   cases xs with
   |nil=>exact absurd rfl h
   |cons x l=>simp[I]
  have g1:zkN (V.frzs a0)=asc xs:=by rw[hxs,zG,zkN,zq]
  have g2:zgf (V.frzs a0) 1 2000=jX xs 1 2000:=by rw[hxs,zG,zgf,zq]
  have g3:zdw (V.frzs a0)=dec (dv xs):=by rw[hxs,zG,zdw,zq]
  generalize yD:yG=je
  generalize znU:zkN=zBL
  generalize zyH:KF=zB6
  generalize zjy:zgf=zyJ
  generalize zjB:zdw=zyK
  generalize zlb:zlp=zzZ
  refine zD (T:=tab) (B:=[(80,jg je),(97,zdy zBL zB6),(98,zeR zyJ zB6),(99,zdy zyK zzZ)]) (Bi:=[]) [0,1,2,3] Tryz.func61 rfl rfl (by kernel_rfl) (zg rfl) zP zQ (by subst yD znU zyH zjy zjB zlb;exact(zm zaN (zm zpO (zm zr3 (zm zsW zy))))) (by subst yD znU zyH zjy zjB zlb;exact zu) (by kernel_rfl) ?_
  intro L lp rr hL hr hf hlp
  conv=>cbv
  simp only[zp hL,hxl,hg,JD,ui,imp_self,true_and,and_true]
  subst yD znU zyH zjy zjB zlb
  simp only[g1,g2,g3,q1,implies_true,true_and]
  have hne:decide (0<(xs.length:Int))=true→xs≠[]:=by
   rintro h rfl
   simp at h
  (repeat' first|(intro _)|(apply And.intro))<;>try (first|omega|assumption|trivial)
  ·rename_i h;simpa using h
  ·rename_i h;exact(q2 (hne (zD4 h))).1.2
  ·rename_i h h';exact(q2 (hne (zD4 h))).2 h'
  ·rw[hr,hrr0,YT]
 ·cases h
theorem zcA:yT Tryz.prog 52 (Ko uW jU):=by
 intro args ps r h hp
 unfold Ko at h
 split at h
 ·rename_i a0
  simp only[za,zb]at h
  obtain⟨rfl,rfl⟩:=h
  obtain⟨⟨xs,hxs⟩,hlen⟩:jU a0:=(zl.1 hp).1
  have hxl:a0.length=xs.length:=by rw[hxs,zj]
  have hg0:a0.getD (Int.toNat 0) (.int .i64 0)=.int .i64 (xs.getD 0 0):=by rw[hxs,zR];rfl
  have hrr0:uW a0=zff xs:=by rw[uW,hxs,zq,ztM]
  rw[hxl]at hlen
  generalize yD:yG=je
  generalize YE:jk=zeB
  generalize kS:zex=Jr
  refine zD (T:=tab) (B:=[(48,jg je),(85,zaq zeB Jr)]) (Bi:=[]) [0,1,2,3,4,5,6] Tryz.func52 rfl rfl (by kernel_rfl) (zg rfl) zP zQ (by subst yD YE kS;exact(zm YR (zm zeJ zy))) (by subst yD YE kS;exact zu) (by kernel_rfl) ?_
  intro L lp rr hL hr hf hlp
  have hrr:rr=.bool (zff xs):=by rw[hr,hrr0]
  conv=>cbv
  simp only[zp hL,hxl,hg0,JD,ui,imp_self,true_and,and_true]
  (repeat' first|(intro _)|(apply And.intro))<;>try (first|omega|assumption|trivial)
  ·rename_i h
   cases xs with
   |nil=>simp at h
   |cons x l=>simp
  ·rename_i h
   subst yD
   rw[hrr,zff,h]
   rfl
  ·rename_i h
   cases xs with
   |nil=>simp at h
   |cons x l=>simp
  ·rename_i h
   have hpos:0<xs.length:=by
    cases xs with
    |nil=>simp at h
    |cons x l=>simp
   have hgo:zff xs=zgq (xs.getD 0 0) (xs.getD 0 0) (xs.drop 1):=by
    subst yD
    rw[zff,h]
    rfl
   refine hlp (Int×Int) _ _ _ [3,4,5] (fun x=>[(3,none,.val (.slc false 2 (.int .i64 0) a0)),(4,none,.val (.int .i64 x.1)),(5,none,.val (.int .i64 x.2))])
    (fun x=>0<x.2∧x.2≤xs.length∧zff xs=zgq (xs.getD (x.2.toNat-1) 0) x.1 (xs.drop x.2.toNat)) (fun x=>(xs.length-x.2).toNat) (xs.getD 0 0,1) (by subst hL;simp only[zp rfl,hg0,ui];rfl) ⟨by simp,by simp only;omega,hgo⟩ ?_
   rintro⟨e,i⟩ ⟨i0,i1,h2⟩ hfx ag hag
   conv=>cbv
   simp only at i0 i1 h2
   have hg:a0.getD i.toNat (.int .i64 0)=.int .i64 (xs.getD i.toNat 0):=by rw[hxs,zR]
   have hg':a0.getD (i-1).toNat (.int .i64 0)=.int .i64 (xs.getD (i.toNat-1) 0):=by rw[hxs,zR,show(i-1).toNat=i.toNat-1 by omega]
   have ew:IntKind.wrap .i64 (i-1)=i-1:=zo (by omega) (by omega)
   simp only[zp hL,hxl,hg,hg',ew,JD,ui,imp_self,true_and,and_true,decide_eq_true_eq,decide_eq_false_iff_not]
   refine⟨fun hb=>?_,fun hb=>?_⟩
   ·have e1:xs.drop i.toNat=xs.getD i.toNat 0::xs.drop (i.toNat+1):=kF 0 (by omega)
    rw[e1,zgq]at h2
    (repeat' first|(intro _)|(apply And.intro))<;>try (first|omega|assumption|trivial)
    ·rename_i h4
     subst yD
     rw[hrr,h2,h4]
     rfl
    ·subst kS;trivial
    ·rename_i h4 h5
     subst yD YE
     rw[hrr,h2,h4,h5]
     rfl
    ·rename_i h4 h5
     subst yD YE
     rw[zo (n:=i+1) (by omega) (by omega)]
     refine hag (jk e (xs.getD i.toNat 0),i+1) ⟨by simp only;omega,by simp only;omega,?_⟩ (by simp only;omega)
     rw[h2,h4,h5]
     simp only[cond_false,zU (zgA i0),qU]
   ·have e1:xs.drop i.toNat=[]:=qM (by omega)
    rw[hrr,h2,e1]
    rfl
 ·cases h
def zyz(f0:List V→Int):zN:=fun
 |[.agg [.slc false 2 (.int .i64 0) a0]]=>some ([],.int .i64 (f0 a0))
 |_=>none
def zjn(es:List V):Int:=IntKind.wrap .i64 ((es.length:Int)-1)
theorem zpK:yT Tryz.prog 134 (zyz zjn):=by
 intro args ps r h hp
 unfold zyz at h
 split at h
 ·rename_i a0
  simp only[za,zb]at h
  obtain⟨rfl,rfl⟩:=h
  refine zD (T:=tab) (B:=[]) (Bi:=[]) [0,1,2] Tryz.func134 rfl rfl (by kernel_rfl) (zg rfl) zP zQ (by exact zy) (by exact zu) (by kernel_rfl) ?_
  intro L lp rr hL hr hf hlp
  conv=>cbv
  simp only[zp hL]
  exact hr.symm
 ·cases h
theorem IsP.isIs{es:List V}(h:IsP es):jU es:=by
 obtain⟨t,l,rfl,_,hl⟩:=h
 exact⟨⟨_,rfl⟩,by simp;omega⟩
theorem zuf:∀(l:List Int) (d:Int),0<d→jX l 1 2000=true→∀i,i<l.length→0<(Zq d l).getD i 0
 |[],_,_,_,i,h=>by simp at h
 |t::l,d,hd,hw,i,h=>by
  simp only[jX,QR,zh,yG,decide_eq_true_eq]at hw
  have hg:=(zwz hd (show 0<t by omega)).1
  cases i with
  |zero=>simpa [Zq]using hg
  |succ i=>
   have:=zuf l (jk d t) hg (by simpa [jX,yG]using hw.2) i (by simpa using h)
   simpa [Zq]using this
theorem zrW(a b:Bool):(bif a then b else false)=(a&&b):=by cases a<;>rfl
theorem zoN{xs:List Int}(h:YT xs=true):∃t l,xs=t::l∧1≤t∧t≤64∧jX xs 1 2000=true∧(∀i,i<xs.length→0<(dv xs).getD i 0):=by
 simp only[YT,zrW,zh]at h
 obtain⟨⟨⟨⟨h1,h2⟩,h3⟩,h4⟩,h5⟩:=h
 cases xs with
 |nil=>simp at h1
 |cons t l=>
  simp only[jb,yG,zh,decide_eq_true_eq]at h2
  refine⟨t,l,rfl,h2.1,h2.2,h4,fun i hi=>?_⟩
  have e2:dv (t::l)=t::Zq t l:=by simp only[dv,Zq];rw[zg6 (by omega)]
  rw[e2]
  cases i with
  |zero=>simp only[jb];omega
  |succ i=>
   have hw:jX l 1 2000=true:=by
    simp only[jX,QR,zh]at h4
    exact h4.2
   simpa using zuf l t (by omega) hw i (by simpa using hi)
end Go.Ax
namespace Go.Ax
open Go.Proofs
def zhf(f0:List V→List V)(q:List V→Prop):zN:=fun
 |[.agg [.slc false 2 (.int .i64 0) a0]]=>some ([q a0],.agg [.slc true 2 (.int .i64 0) (f0 a0)])
 |_=>none
end Go.Ax
namespace Go.Ax
open Go.Proofs
def II(o:Bool)(xss:List (List Int)):List V:=xss.map fun xs=>.slc o 2 (.int .i64 0) (I xs)
def kw(es:List V):List (List Int):=es.map fun v=>qb v.toL
theorem zO(o:Bool)(xss:List (List Int)):kw (II o xss)=xss:=by
 simp only[kw,II,JL]
 conv=>rhs;rw[←List.map_id xss]
 apply uK
 intro xs _
 simp[V.toL]
theorem yk(o:Bool)(xss:List (List Int)):(II o xss).length=xss.length:=by simp[II]
theorem qB(o:Bool)(xss:List (List Int))(i:Nat):(II o xss).getD i (.slc o 2 (.int .i64 0) [])=.slc o 2 (.int .i64 0) (I (xss.getD i [])):=by
 simp only[II,zd,zH]
 cases xss[i]? <;>rfl
theorem zk5(o:Bool)(xss:List (List Int))(i:Nat)(xs:List Int):(II o xss).set i (.slc o 2 (.int .i64 0) (I xs))=II o (xss.set i xs):=by simp[II,Ym]
theorem yF(o:Bool)(xss:List (List Int)):V.frzs (II o xss)=II false xss:=by
 rw[V.frzs_eq]
 simp only[II,JL]
 apply uK
 intro xs _
 simp[V.frz,zG]
theorem Kt(xss:List (List Int)):V.noFzs (II true xss)=true:=by
 rw[V.noFzs_eq]
 simp only[II,List.all_map,yI]
 intro xs _
 simp[V.noFz]
theorem zfp(o:Bool)(e:TypeId)(d:V)(es:List V):Zd.toL (.slc o e d es)=es:=rfl
def zBA(o:Bool)(es:List V):Prop:=∃xss,es=II o xss
theorem zpY(o o':Bool)(xs:List Int):vw Zd tab o 20 30 (.slc o' 2 (.int .i64 0) (I xs))=some (.slc o 2 (.int .i64 0) (I xs)):=by cases o<;>rfl
def tot:List (List Int)→Nat
 |[]=>0
 |xs::l=>xs.length+tot l
theorem zeG(xss:List (List Int))(i:Nat)(h:i<xss.length):xss.take (i+1)=xss.take i++[xss.getD i []]:=by
 rw[zF h,zd,ze h]
 rfl
end Go.Ax
namespace Go.Ax
open Go.Proofs
def bL:V→List V
 | .agg [.slc _ _ _ es]=>es
 |_=>[]
def BB(o:Bool)(xss:List (List Int)):List V:=xss.map fun xs=>.agg [.slc o 2 (.int .i64 0) (I xs)]
def ur(es:List V):List (List Int):=es.map fun v=>qb (bL v)
theorem zW(o:Bool)(xss:List (List Int)):ur (BB o xss)=xss:=by
 simp only[ur,BB,JL]
 conv=>rhs;rw[←List.map_id xss]
 apply uK
 intro xs _
 simp[bL]
theorem yK(o:Bool)(xss:List (List Int)):(BB o xss).length=xss.length:=by simp[BB]
theorem uo(o:Bool)(xss:List (List Int))(i:Nat):(BB o xss).getD i (.agg [.slc o 2 (.int .i64 0) []])=.agg [.slc o 2 (.int .i64 0) (I (xss.getD i []))]:=by
 simp only[BB,zd,zH]
 cases xss[i]? <;>rfl
theorem zEp(o:Bool)(xss:List (List Int))(i:Nat)(xs:List Int):(BB o xss).set i (.agg [.slc o 2 (.int .i64 0) (I xs)])=BB o (xss.set i xs):=by simp[BB,Ym]
theorem yL(o:Bool)(xss:List (List Int)):V.frzs (BB o xss)=BB false xss:=by
 rw[V.frzs_eq]
 simp only[BB,JL]
 apply uK
 intro xs _
 simp[V.frz,V.frzs,zG]
theorem zaL(xss:List (List Int)):V.noFzs (BB true xss)=true:=by
 rw[V.noFzs_eq]
 simp only[BB,List.all_map,yI]
 intro xs _
 simp[V.noFz,V.noFzs]
theorem uv(o:Bool)(e:TypeId)(d:V)(es:List V):Zd.fld (.agg [.slc o e d es]) 0=.slc o e d es:=rfl
theorem ut(o:Bool)(e:TypeId)(d:V)(es:List V):Zd.toL (Zd.fld (.agg [.slc o e d es]) 0)=es:=rfl
def zEd(o:Bool)(es:List V):Prop:=∃xss,es=BB o xss
theorem uk(o o':Bool)(xs:List Int):vw Zd tab o 20 68 (.agg [.slc o' 2 (.int .i64 0) (I xs)])=some (.agg [.slc o 2 (.int .i64 0) (I xs)]):=by cases o<;>rfl
end Go.Ax
namespace Go.Proofs.YtlkdpcjakfhnoaaGreat
open Go.ChangeShapes Go.WideShapes Go.ChangeAt Go.RowKit Go.Ax
theorem zES:ownKnob Tryz.prog.godebug=none:=by kernel_rfl
theorem zCG:laidOutB Tryz.prog=true:=by kernel_rfl
def okK:TK→Bool
 | .oth=>false
 |_=>true
theorem zEx:∀t ti,qS tab t=some ti→ti.k≠.oth:=by
 have h:(tab.all fun x=>okK x.2.k)=true:=by kernel_rfl
 intro t ti ht hk
 have:=yI.1 h _ (zmL ht)
 rw[hk]at this
 cases this
end Go.Proofs.YtlkdpcjakfhnoaaGreat
namespace Go.Ax
open Go.Proofs Go.Proofs.YtlkdpcjakfhnoaaGreat
theorem zny{a b:Bool}(ha:a=true)(hb:b=true):(a&&b)=true:=by rw[ha,hb];rfl
theorem zCp: Tryz.prog.mayEnter=true:=by kernel_rfl
theorem zDL:(({program:= "",sum:= "",func:= "",spec:= "" }:OpenClaim).lifted== Tryz.prog.liftsFinal)=true:=by kernel_rfl
theorem zDK:(Tryz.prog.make==some ({program:= "",sum:= "",func:= "",spec:= "" }:OpenClaim).make)=true:=by kernel_rfl
end Go.Ax
namespace Go.Ax
open Go.Proofs
theorem Kw:yT Tryz.prog 70 (jJ same jU):=by
 intro args ps r h hp
 unfold jJ at h
 split at h
 ·rename_i a0
  simp only[za,zb]at h
  obtain⟨rfl,rfl⟩:=h
  obtain⟨⟨xs,hxs⟩,hlen⟩:jU a0:=(zl.1 hp).1
  have hxl:a0.length=xs.length:=by rw[hxs,zj]
  refine zD (T:=tab) (B:=[]) (Bi:=[]) [0,2] Tryz.func70 rfl rfl (by kernel_rfl) (zg rfl) zP zQ (by exact zy) (by exact zu) (by kernel_rfl) ?_
  intro L lp rr hL hr hf hlp
  conv=>cbv
  simp only[zp hL,hxl]
  rw[hr,same]
  exact⟨by rw[hxs,Ks],by simp;omega,by rw[hxs];exact JO xs,rfl⟩
 ·cases h
theorem zpP:yT Tryz.prog 75 (jJ same jU):=by
 intro args ps r h hp
 unfold jJ at h
 split at h
 ·rename_i a0
  simp only[za,zb]at h
  obtain⟨rfl,rfl⟩:=h
  obtain⟨⟨xs,hxs⟩,hlen⟩:jU a0:=(zl.1 hp).1
  have hxl:a0.length=xs.length:=by rw[hxs,zj]
  refine zD (T:=tab) (B:=[]) (Bi:=[]) [0,2] Tryz.func75 rfl rfl (by kernel_rfl) (zg rfl) zP zQ (by exact zy) (by exact zu) (by kernel_rfl) ?_
  intro L lp rr hL hr hf hlp
  conv=>cbv
  simp only[zp hL,hxl]
  have hnx:V.owneds a0=false∧(([]:List V).length:Int)+xs.length≤2147483647∧(∀x:V,x∈a0→x.solid=true)∧V.slc true 2 (.int .i64 0) ([]++a0)=rr:=by
   rw[hr,same]
   exact⟨by rw[hxs,Ks],by simp;omega,by rw[hxs];exact JO xs,rfl⟩
  refine⟨fun h=>⟨fun _=>?_,fun _=>hnx⟩,fun h=>(by cases h),fun _=>hnx⟩
  have:xs=[]:=by
   simp only[beq_iff_eq]at h
   exact List.eq_nil_of_length_eq_zero (by omega)
  rw[hr,same,hxs,this]
  rfl
 ·cases h
theorem zeU:yT Tryz.prog 66 (zhf same jU):=by
 intro args ps r h hp
 unfold zhf at h
 split at h
 ·rename_i a0
  simp only[za,zb]at h
  obtain⟨rfl,rfl⟩:=h
  have hq:jU a0:=(zl.1 hp).1
  have q1:jU (V.frzs a0):=by
   obtain⟨⟨xs,hxs⟩,hl⟩:=hq
   rw[hxs,zG,←hxs]
   exact⟨⟨xs,hxs⟩,hl⟩
  have g1:V.frzs a0=a0:=by
   obtain⟨⟨xs,hxs⟩,hl⟩:=hq
   rw[hxs,zG]
  generalize qu:same=jB
  generalize yv:jU=qA
  refine zD (T:=tab) (B:=[(75,jJ jB qA)]) (Bi:=[]) [0,1,2] Tryz.func66 rfl rfl (by kernel_rfl) (zg rfl) zP zQ (by subst qu yv;exact(zm zpP zy)) (by subst qu yv;exact zu) (by kernel_rfl) ?_
  intro L lp rr hL hr hf hlp
  conv=>cbv
  simp only[zp hL]
  subst qu yv
  exact⟨q1,by rw[hr,g1]⟩
 ·cases h
theorem zjH:yT Tryz.prog 59 (zhf same jU):=by
 intro args ps r h hp
 unfold zhf at h
 split at h
 ·rename_i a0
  simp only[za,zb]at h
  obtain⟨rfl,rfl⟩:=h
  have hq:jU a0:=(zl.1 hp).1
  have q1:jU (V.frzs a0):=by
   obtain⟨⟨xs,hxs⟩,hl⟩:=hq
   rw[hxs,zG,←hxs]
   exact⟨⟨xs,hxs⟩,hl⟩
  have g1:V.frzs a0=a0:=by
   obtain⟨⟨xs,hxs⟩,hl⟩:=hq
   rw[hxs,zG]
  generalize qu:same=jB
  generalize yv:jU=qA
  refine zD (T:=tab) (B:=[(70,jJ jB qA)]) (Bi:=[]) [0,1,2] Tryz.func59 rfl rfl (by kernel_rfl) (zg rfl) zP zQ (by subst qu yv;exact(zm Kw zy)) (by subst qu yv;exact zu) (by kernel_rfl) ?_
  intro L lp rr hL hr hf hlp
  conv=>cbv
  simp only[zp hL]
  subst qu yv
  exact⟨q1,by rw[hr,g1]⟩
 ·cases h
def zus(f0:Int→List V)(q:Int→Prop):zN:=fun
 |[.int .i64 a0]=>some ([q a0],.slc true 30 (.slc true 2 (.int .i64 0) []) (f0 a0))
 |_=>none
def zhc(n:Int):List V:=II true (List.replicate n.toNat (List.replicate n.toNat 0))
def q_n(n:Int):Prop:=0≤n∧n≤2147483647
theorem zk6(o:Bool)(n:Nat)(xs:List Int):II o (List.replicate n xs)=List.replicate n (.slc o 2 (.int .i64 0) (I xs)):=by simp[II,List.map_replicate]
theorem ZH(o:Bool)(a b:List (List Int)):II o (a++b)=II o a++II o b:=by simp[II]
theorem zDA{α:Type}(a b:List α)(x y:α)(i:Nat)(h:a.length=i):(a++x::b).set i y=a++y::b:=by
 rw[List.set_append_right _ _ (by omega),←h,jA,List.set_cons_zero]
theorem zAw{α:Type}(n i:Nat)(h:i<n)(x y:α):(List.replicate i y++List.replicate (n-i) x).set i y=List.replicate (i+1) y++List.replicate (n-(i+1)) x:=by
 have:n-i=(n-(i+1))+1:=by omega
 rw[this,yE,zDA _ _ _ _ _ (by simp)]
 rw[jo,yf]
 rfl
theorem zr4:yT Tryz.prog 65 (zus zhc q_n):=by
 intro args ps r h hp
 unfold zus at h
 split at h
 ·rename_i a0
  simp only[za,zb]at h
  obtain⟨rfl,rfl⟩:=h
  obtain⟨h0,h1⟩:q_n a0:=(zl.1 hp).1
  refine zD (T:=tab) (B:=[]) (Bi:=[]) [0,2,3,4,8,9] Tryz.func65 rfl rfl (by kernel_rfl) (zg rfl) zP zQ (by exact zy) (by exact zu) (by kernel_rfl) ?_
  intro L lp rr hL hr hf hlp
  conv=>cbv
  simp only[zp hL]
  refine⟨h0,by omega,h1,?_⟩
  have hl0:((List.replicate a0.toNat (V.slc true 2 (.int .i64 0) [])).length:Int)=a0:=by rw[zT];omega
  simp only[hl0]
  refine hlp (Int×List V) _ _ _ [0,3,8,9] (fun x=>[(0,none,.val (.int .i64 a0)),(3,none,.val (.slc true 30 (.slc true 2 (.int .i64 0) []) x.2)),(8,none,.val (.int .i64 a0)),(9,none,.val (.int .i64 x.1))])
   (fun x=>0≤x.1∧x.1≤a0∧x.2=II true (List.replicate x.1.toNat (List.replicate a0.toNat 0)++List.replicate (a0.toNat-x.1.toNat) [])) (fun x=>(a0-x.1).toNat) (0,_) (by subst hL;rfl) ⟨by simp,h0,by simp[zk6]⟩ ?_
  rintro⟨i,es⟩ ⟨i0,i1,hes⟩ hfx ag hag
  conv=>cbv
  simp only at i0 i1 hes
  have hel:es.length=a0.toNat:=by rw[hes,yk];simp;omega
  simp only[zp hL,hel,decide_eq_true_eq,decide_eq_false_iff_not]
  refine⟨fun h=>⟨h0,by omega,h1,i0,by omega,by omega,?_,?_⟩,fun h=>?_⟩
  ·rw[hes,qB];exact .inl (zpY _ _ _)
  ·rw[zo (n:=i+1) (by omega) (by omega)]
   refine hag (i+1,_) ⟨by simp only;omega,by simp only;omega,?_⟩ (by simp only;omega)
   simp only[zU i0]
   rw[hes,zd6,zk5,zAw _ _ (by omega)]
  ·have:i=a0:=by omega
   rw[hr,zhc,hes,this,jA]
   simp
 ·cases h
theorem uV{a:List V}(h:zEd false a):V.frzs a=a:=by
 obtain⟨l,rfl⟩:=h
 rw[yL]
theorem uU{a:List V}(h:zBA false a):V.frzs a=a:=by
 obtain⟨l,rfl⟩:=h
 rw[yF]
end Go.Ax
namespace Go.Ax
open Go.Proofs
def qD{α:Type}(f:Nat→α)(n:Nat):List α:=(List.range n).map f
theorem qh{α:Type}(f:Nat→α)(n:Nat):(qD f n).length=n:=by simp[qD]
theorem Jj{α:Type}(f:Nat→α)(n:Nat):qD f (n+1)=qD f n++[f n]:=by simp[qD,Zt]
theorem Zy{α:Type}(f:Nat→α)(n i:Nat)(d:α)(h:i<n):(qD f n).getD i d=f i:=by
 simp[qD,zd,zH,QH h]
theorem uR{α:Type}(f:Nat→α)(n i:Nat)(h:i<n):(qD f n)[i]? =some (f i):=by
 simp[qD,QH h]
theorem jY{α:Type}{f g:Nat→α}{n:Nat}(h:∀i,i<n→f i=g i):qD f n=qD g n:=by
 simp only[qD]
 apply uK
 intro i hi
 exact h i (by simpa using hi)
theorem zAd{α:Type}(f:Nat→α)(n k:Nat)(h:k≤n):(qD f n).take k=qD f k:=by
 simp only[qD,←List.map_take,List.take_range,Nat.min_eq_left h]
abbrev W(n:Int):Int:=IntKind.wrap .i64 n
theorem zuh:∀(l:List Int),dec l=true→∀i,i+1<l.length→l.getD (i+1) 0<l.getD i 0
 |[],h,_,_=>by simp[dec]at h
 |[a],_,i,hi=>by simp at hi
 |a::b::l,h,i,hi=>by
  simp only[dec]at h
  cases hab:decide (a≤b)with
  |true=>rw[hab]at h;simp at h
  |false=>
   rw[hab]at h
   simp only[decide_eq_false_iff_not]at hab
   cases i with
   |zero=>simp;omega
   |succ i=>simpa using zuh (b::l) h i (by simpa using hi)
theorem zui:∀(l:List Int),dec l=true→l≠[]∧l.getD (l.length-1) 0=1
 |[],h=>by simp[dec]at h
 |[a],h=>by simpa [dec]using h
 |a::b::l,h=>by
  simp only[dec]at h
  cases hab:decide (a≤b)with
  |true=>rw[hab]at h;simp at h
  |false=>
   rw[hab]at h
   refine⟨by simp,?_⟩
   have:=(zui (b::l) h).2
   simpa using this
theorem zuN:∀(l:List Int),asc l=true→∀i,i+1<l.length→l.getD i 0<l.getD (i+1) 0
 |[],_,_,hi=>by simp at hi
 |[a],_,i,hi=>by simp at hi
 |a::b::l,h,i,hi=>by
  simp only[asc]at h
  cases hab:decide (b≤a)with
  |true=>rw[hab]at h;simp at h
  |false=>
   rw[hab]at h
   simp only[decide_eq_false_iff_not]at hab
   cases i with
   |zero=>simp;omega
   |succ i=>simpa using zuN (b::l) h i (by simpa using hi)
structure Br (xs:List Int):Prop where
 is:YT xs=true
 pos:0<xs.length
 len:xs.length≤64
 low:∀i,i<xs.length→1≤xs.getD i 0
 high:∀i,i<xs.length→xs.getD i 0≤2000
 up:∀i,i+1<xs.length→xs.getD i 0<xs.getD (i+1) 0
 first:xs.getD 0 0≤64
 dlen:(dv xs).length=xs.length
 d0:(dv xs).getD 0 0=xs.getD 0 0
 dpos:∀i,i<xs.length→1≤(dv xs).getD i 0
 dhi:∀i,i<xs.length→(dv xs).getD i 0≤64
 dstep:∀i,i+1<xs.length→(dv xs).getD (i+1) 0<(dv xs).getD i 0
 dlast:(dv xs).getD (xs.length-1) 0=1
theorem YI{xs:List Int}(h:YT xs=true):Br xs:=by
 obtain⟨t,l,hx,h1,h2,hw,hd⟩:=zoN h
 have h':=h
 simp only[YT,zrW,zh]at h'
 obtain⟨⟨⟨⟨_,_⟩,ha⟩,_⟩,hdec⟩:=h'
 have hdl:(dv xs).length=xs.length:=by rw[dv,znr]
 have hpos:0<xs.length:=by rw[hx];simp
 have hall:∀i,i<xs.length→1≤xs.getD i 0∧xs.getD i 0≤2000:=by
  intro i hi
  simp only[jX,yI,yG,zh,decide_eq_true_eq]at hw
  rw[zd,ze hi]
  exact hw _ (ya hi)
 have hd0:(dv xs).getD 0 0=xs.getD 0 0:=by rw[hx];simp[dv,Zq,zg6 (show 0<t by omega)]
 have hst:∀i,i+1<xs.length→(dv xs).getD (i+1) 0<(dv xs).getD i 0:=fun i hi=>zuh _ hdec i (by omega)
 have hx0:xs.getD 0 0=t:=by rw[hx];rfl
 have hhi:∀i:Nat,i<xs.length→(dv xs).getD i 0≤64-i:=by
  intro i
  induction i with
  |zero=>intro _;rw[hd0,hx0];omega
  |succ i ih=>
   intro hi
   have:=ih (by omega)
   have:=hst i hi
   omega
 have hlast:=(zui _ hdec).2
 rw[hdl]at hlast
 refine⟨h,hpos,?_,fun i hi=>(hall i hi).1,fun i hi=>(hall i hi).2,fun i hi=>zuN _ ha i hi,by rw[hx0];omega,hdl,hd0,fun i hi=>hd i hi,fun i hi=>by have:=hhi i hi;omega,hst,hlast⟩
 have:=hhi (xs.length-1) (by omega)
 rw[hlast]at this
 omega
def ZR(es:List V):Prop:=∃xs,es=I xs∧Br xs
theorem ZR.isP{es:List V}(h:ZR es):IsP es:=by
 obtain⟨xs,rfl,hb⟩:=h
 obtain⟨t,l,rfl,h1,_⟩:=zoN hb.is
 exact⟨t,l,rfl,by omega,by have:=hb.len;simp at this;omega⟩
theorem ZR.isIs{es:List V}(h:ZR es):jU es:=h.isP.isIs
def zsy(f:List V→List V)(q:List V→Prop):zN:=fun
 |[.agg [.slc false 2 (.int .i64 0) a0]]=>some ([q a0],.slc true 2 (.int .i64 0) (f a0))
 |_=>none
end Go.Ax
namespace Go.Ax
open Go.Proofs
end Go.Ax
namespace Go.Ax
open Go.Proofs
def zyu(f:List V→List V)(q:List V→Prop):zN:=fun
 |[.slc false 30 (.slc false 2 (.int .i64 0) []) a0]=>some ([q a0],.slc true 30 (.slc true 2 (.int .i64 0) []) (f a0))
 |_=>none
def zkI(es:List V):List V:=II true (kw es)
def zjx(es:List V):Prop:=∃xss,es=II false xss∧xss.length≤2147483647∧∀xs∈xss,xs.length≤2147483647
theorem zjx.isII{es:List V}(h:zjx es):zBA false es:=by
 obtain⟨x,h,_⟩:=h
 exact⟨x,h⟩
end Go.Ax
namespace Go.Ax
open Go.Proofs
abbrev gI(l:List Int)(i:Int):Int:=l.getD i.toNat 0
def zEs(a b:Int)(l:List Int):List Int:=l.map fun x=>if x=b then a else x
def yq(n:Nat):List Int:=qD (fun i=>(i:Int)) n
theorem qd(n:Nat):(yq n).length=n:=qh _ _
theorem Kh(n i:Nat)(h:i<n):(yq n).getD i 0=i:=Zy _ _ _ _ h
def e0(e:List Int):Int:=e.getD 0 0
def e1(e:List Int):Int:=e.getD 1 0
def zEn(n:Nat)(e:List Int):Prop:=e.length=2∧0≤e0 e∧e0 e<n∧0≤e1 e∧e1 e<n
def lo(lab e:List Int):Int:=min (gI lab (e0 e)) (gI lab (e1 e))
def hi(lab e:List Int):Int:=max (gI lab (e0 e)) (gI lab (e1 e))
structure LabOk (n:Nat) (lab:List Int):Prop where
 len:lab.length=n
 nn:∀i,i<n→0≤lab.getD i 0
 le:∀i,i<n→lab.getD i 0≤i
 idem:∀i,i<n→gI lab (lab.getD i 0)=lab.getD i 0
def acy:List Int→List (List Int)→Bool
 |_,[]=>true
 |lab,e::es=> !(gI lab (e0 e)==gI lab (e1 e))&&acy (zEs (gI lab (e0 e)) (gI lab (e1 e)) lab) es
def yo:List Int→List Int→Bool
 |x::a,y::b=>bif !(x==y)then decide (x<y)else yo a b
 |[],_::_=>true
 |_,[]=>false
def zEY(n:Nat)(p:Option (List Int))(e:List Int):Bool:=e.length==2&&decide (0≤e0 e)&&decide (e0 e<e1 e)&&decide (e1 e<n)&&(match p with
 |none=>true
 |some x=>yo x e)
def zsu(n:Nat):Option (List Int)→List (List Int)→Bool
 |_,[]=>true
 |p,e::es=>zEY n p e&&zsu n (some e) es
def zEU(ws:List Int)(es:List (List Int)):Bool:=decide (1≤ws.length)&&decide (ws.length≤40)&&jX ws (-1000) 1000&&zsu ws.length none es&&acy (yq ws.length) es
end Go.Ax
namespace Go.Ax
open Go.Proofs
theorem zwR(a b:Bool):(bif a then b else false)=(a&&b):=by cases a<;>rfl
theorem zD3(a b:Bool):(bif a then true else b)=(a||b):=by cases a<;>rfl
def zyy(f:Int→Bool)(q:Int→Prop):zN:=fun
 |[.int .i64 a0]=>some ([q a0],.bool (f a0))
 |_=>none
def zsr(_:Int):Bool:=false
def zqt(_:Int):Prop:=True
theorem zCj:yT Tryz.prog 122 (zyy zsr zqt):=by
 intro args ps r h hp
 unfold zyy at h
 split at h
 ·rename_i a0
  simp only[za,zb]at h
  obtain⟨rfl,rfl⟩:=h
  refine zD (T:=tab) (B:=[]) (Bi:=[]) [0,2] Tryz.func122 rfl rfl (by kernel_rfl) (zg rfl) zP zQ (by exact zy) (by exact zu) (by kernel_rfl) ?_
  intro L lp rr hL hr hf hlp
  conv=>cbv
  simp only[zp hL]
  rw[hr,zsr]
  simp
 ·cases h
def zgj(x y:Int):Int:=bif decide (x<y)then-1 else bif decide (y<x)then 1 else 0
theorem zsX:yT Tryz.prog 104 (zaq zgj zex):=by
 intro args ps r h hp
 unfold zaq at h
 split at h
 ·rename_i a0 a1
  simp only[za,zb]at h
  obtain⟨rfl,rfl⟩:=h
  have hc:zgj a0 a1=bif decide (a0<a1)then-1 else bif decide (a1<a0)then 1 else 0:=rfl
  generalize zqT:zsr=zDg
  generalize zlg:zqt=zz7
  refine zD (T:=tab) (B:=[(122,zyy zDg zz7)]) (Bi:=[]) [0,1,4,5,6] Tryz.func104 rfl rfl (by kernel_rfl) (zg rfl) zP zQ (by subst zqT zlg;exact(zm zCj zy)) (by subst zqT zlg;exact zu) (by kernel_rfl) ?_
  intro L lp rr hL hr hf hlp
  conv=>cbv
  simp only[zp hL]
  subst zqT zlg
  rw[hr,hc]
  simp only[zsr,zqt,true_and,Bool.false_eq_true,false_imp_iff,true_imp_iff,decide_eq_true_eq,decide_eq_false_iff_not]
  refine⟨fun h=>?_,fun h=>⟨fun h2=>?_,fun h2=>?_⟩⟩
  ·rw[decide_eq_true h];rfl
  ·rw[decide_eq_false h,decide_eq_true h2];rfl
  ·rw[decide_eq_false h,decide_eq_false h2];rfl
 ·cases h
def zbc:List Int→List Int→Int
 |x::a,y::b=>bif !(zgj x y==0)then zgj x y else zbc a b
 |_::_,[]=>1
 |[],b=>bif decide ((0:Int)<b.length)then-1 else 0
theorem zwO:∀a b:List Int,decide (0≤zbc a b)= !yo a b
 |[],[]=>rfl
 |[],y::b=>by simp[zbc,yo]
 |x::a,[]=>rfl
 |x::a,y::b=>by
  simp only[zbc,yo]
  rcases (by omega:x<y∨x=y∨y<x)with h|h|h
  ·have h1:zgj x y= -1:=by rw[zgj,decide_eq_true h];rfl
   have h2:(x==y)=false:=by simp;omega
   simp[h1,h2,h]
  ·subst h
   have h1:zgj x x=0:=by rw[zgj,decide_eq_false (Int.lt_irrefl x)];rfl
   simp[h1,zwO a b]
  ·have h1:zgj x y=1:=by rw[zgj,decide_eq_false (by omega),decide_eq_true h];rfl
   have h2:(x==y)=false:=by simp;omega
   have h3:¬x<y:=by omega
   simp[h1,h2,h3]
def zuv(f:List V→List V→Int)(q:List V→List V→Prop):zN:=fun
 |[.slc false 2 (.int .i64 0) a0,.slc false 2 (.int .i64 0) a1]=>some ([q a0 a1],.int .i64 (f a0 a1))
 |_=>none
def zkK(a b:List V):Int:=zbc (qb a) (qb b)
def zbU(a b:List V):Prop:=KF a∧KF b
theorem zol:yT Tryz.prog 72 (zuv zkK zbU):=by
 intro args ps r h hp
 unfold zuv at h
 split at h
 ·rename_i a0 a1
  simp only[za,zb]at h
  obtain⟨rfl,rfl⟩:=h
  obtain⟨⟨xs,hxs⟩,ys,hys⟩:zbU a0 a1:=(zl.1 hp).1
  have hxl:a0.length=xs.length:=by rw[hxs,zj]
  have hyl:a1.length=ys.length:=by rw[hys,zj]
  have hf0:zkK a0 a1=zbc xs ys:=by rw[zkK,hxs,hys,zq,zq]
  obtain⟨m,hm⟩:∃m:Int,m=a0.length:=⟨_,rfl⟩
  generalize zu8:zgj=zEm
  generalize kS:zex=Jr
  refine zD (T:=tab) (B:=[(104,zaq zEm Jr)]) (Bi:=[]) [0,1,4,5,6,7,8,9,10,11] Tryz.func72 rfl rfl (by kernel_rfl) (zg rfl) zP zQ (by subst zu8 kS;exact(zm zsX zy)) (by subst zu8 kS;exact zu) (by kernel_rfl) ?_
  intro L lp rr hL hr hf hlp
  have hlen:=hf.1.1
  conv=>cbv
  refine hlp (Int) _ _ _ [0,1,9,10,11] (fun x=>[(0,none,.val (.slc false 2 (.int .i64 0) a0)),(1,none,.val (.slc false 2 (.int .i64 0) a1)),(9,none,.val (.slc false 2 (.int .i64 0) a0)),(10,none,.val (.int .i64 m)),(11,none,.val (.int .i64 x))])
   (fun x=>0≤x∧x≤xs.length∧x≤ys.length∧zbc xs ys=zbc (xs.drop x.toNat) (ys.drop x.toNat)) (fun x=>(xs.length-x).toNat) (0) (by subst hL hm;rfl) ?_ ?_
  ·simp
  rintro i ⟨i0,i1,i2,hI⟩ hfx ag hag
  conv=>cbv
  rw[hxl]at hm hlen
  subst hxs hys hm
  simp only[zp hL,zj,zR,JD,ui,imp_self,true_and,decide_eq_true_eq,decide_eq_false_iff_not]
  subst zu8 kS
  refine⟨fun h=>?_,fun h=>⟨fun h2=>?_,fun h2=>?_⟩⟩
  ·have hd:xs.drop i.toNat=xs.getD i.toNat 0::xs.drop (i.toNat+1):=kF 0 (by omega)
   refine⟨i0,by omega,fun h2=>?_,fun h2=>⟨i0,by omega,trivial,fun h3=>?_,fun h3=>?_⟩⟩
   ·have e2:ys.drop i.toNat=[]:=qM (by omega)
    rw[hr,hf0,hI,hd,e2];rfl
   ·have hd2:ys.drop i.toNat=ys.getD i.toNat 0::ys.drop (i.toNat+1):=kF 0 (by omega)
    rw[hr,hf0,hI,hd,hd2,zbc,h3];rfl
   ·have hd2:ys.drop i.toNat=ys.getD i.toNat 0::ys.drop (i.toNat+1):=kF 0 (by omega)
    rw[zo (n:=i+1) (by omega) (by omega)]
    refine hag (i+1) ⟨by omega,by omega,by omega,?_⟩ (by omega)
    rw[zU i0,hI,hd,hd2,zbc,h3];rfl
  ·have e1:xs.drop i.toNat=[]:=qM (by omega)
   have e2:(0:Int)<(ys.drop i.toNat).length:=by rw[yx];omega
   rw[hr,hf0,hI,e1,zbc,decide_eq_true e2];rfl
  ·have e1:xs.drop i.toNat=[]:=qM (by omega)
   have e2:¬(0:Int)<(ys.drop i.toNat).length:=by rw[yx];omega
   rw[hr,hf0,hI,e1,zbc,decide_eq_false e2];rfl
 ·cases h
def Yj(f:List V→List V→Bool)(q:List V→List V→Prop):zN:=fun
 |[.slc false 2 (.int .i64 0) a0,.slc false 2 (.int .i64 0) a1]=>some ([q a0 a1],.bool (f a0 a1))
 |_=>none
def zh6(a b:List V):Bool:=yo (qb a) (qb b)
theorem zpJ:yT Tryz.prog 73 (Yj zh6 zbU):=by
 intro args ps r h hp
 unfold Yj at h
 split at h
 ·rename_i a0 a1
  simp only[za,zb]at h
  obtain⟨rfl,rfl⟩:=h
  obtain⟨⟨xs,hxs⟩,ys,hys⟩:zbU a0 a1:=(zl.1 hp).1
  have hxl:a0.length=xs.length:=by rw[hxs,zj]
  have hyl:a1.length=ys.length:=by rw[hys,zj]
  have hf0:zh6 a0 a1=yo xs ys:=by rw[zh6,hxs,hys,zq,zq]
  refine zD (T:=tab) (B:=[]) (Bi:=[]) [0,1,4,5] Tryz.func73 rfl rfl (by kernel_rfl) (zg rfl) zP zQ (by exact zy) (by exact zu) (by kernel_rfl) ?_
  intro L lp rr hL hr hf hlp
  have hlen:=hf.1.1
  conv=>cbv
  refine hlp (Int) _ _ _ [0,1,5] (fun x=>[(0,none,.val (.slc false 2 (.int .i64 0) a0)),(1,none,.val (.slc false 2 (.int .i64 0) a1)),(5,none,.val (.int .i64 x))])
   (fun x=>0≤x∧x≤xs.length∧x≤ys.length∧yo xs ys=yo (xs.drop x.toNat) (ys.drop x.toNat)) (fun x=>(xs.length-x).toNat) (0) (by subst hL;rfl) ?_ ?_
  ·simp
  rintro i ⟨i0,i1,i2,hI⟩ hfx ag hag
  conv=>cbv
  rw[hxl]at hlen
  subst hxs hys
  simp only[zp hL,zj,zR,JD,ui,imp_self,true_and,zwR,zh,jT,decide_eq_true_eq,decide_eq_false_iff_not,qo,zaK,beq_eq_false_iff_ne,beq_iff_eq,ne_eq]
  refine⟨fun⟨h,h2⟩=>?_,fun h=>?_⟩
  ·have hd:xs.drop i.toNat=xs.getD i.toNat 0::xs.drop (i.toNat+1):=kF 0 (by omega)
   have hd2:ys.drop i.toNat=ys.getD i.toNat 0::ys.drop (i.toNat+1):=kF 0 (by omega)
   refine⟨i0,h,i0,h2,fun h3=>⟨i0,h,i0,h2,?_⟩,fun h3=>?_⟩
   ·have h4:(xs.getD i.toNat 0==ys.getD i.toNat 0)=false:=by simpa using h3
    rw[hr,hf0,hI,hd,hd2,yo,h4];rfl
   ·have h4:(xs.getD i.toNat 0==ys.getD i.toNat 0)=true:=by simpa using h3
    rw[zo (n:=i+1) (by omega) (by omega)]
    refine hag (i+1) ⟨by omega,by omega,by omega,?_⟩ (by omega)
    rw[zU i0,hI,hd,hd2,yo,h4];rfl
  ·rw[hr,hf0,hI]
   by_cases hx:i<xs.length
   ·have hd:xs.drop i.toNat=xs.getD i.toNat 0::xs.drop (i.toNat+1):=kF 0 (by omega)
    have e2:ys.drop i.toNat=[]:=qM (by omega)
    rw[hd,e2,yo,decide_eq_false (by omega)]
   ·have e1:xs.drop i.toNat=[]:=qM (by omega)
    by_cases hy:i<ys.length
    ·have hd2:ys.drop i.toNat=ys.getD i.toNat 0::ys.drop (i.toNat+1):=kF 0 (by omega)
     rw[e1,hd2,yo,decide_eq_true (by omega)]
    ·have e2:ys.drop i.toNat=[]:=qM (by omega)
     rw[e1,e2,yo,decide_eq_false (by omega)]
 ·cases h
end Go.Ax
namespace Go.Ax
open Go.Proofs
theorem zDs:Int.toNat 0=0:=rfl
theorem zDr:Int.toNat 1=1:=rfl
theorem zag{xss:List (List Int)}{i:Nat}(h:i<xss.length):xss.getD i []∈xss:=by
 rw[zd,ze h]
 exact ya _
end Go.Ax
namespace Go.Ax
open Go.Proofs
end Go.Ax
namespace Go.Ax
open Go.Proofs
structure Gr (ws:List Int) (es:List (List Int)):Prop where
 is:zEU ws es=true
 n1:1≤ws.length
 n2:ws.length≤40
 wlo:∀i,i<ws.length→-1000≤ws.getD i 0∧ws.getD i 0≤1000
 eok:zsu ws.length none es=true
 ed:∀e∈es,zEn ws.length e
 lt:∀e∈es,e0 e<e1 e
 el:es.length<ws.length
 acyc:acy (yq ws.length) es=true
def zEz(es:List (List Int))(v:Int):List Int:=(es.filter fun e=>e1 e==v).map e0
def zEy(es:List (List Int))(v:Int):List Int:=(es.filter fun e=>e0 e==v).map e1
def ztq(es:List (List Int))(v:Int):List Int:=zEz es v++zEy es v
def adj(es:List (List Int))(i j:Nat):Bool:=es.any fun e=>(e0 e==i&&e1 e==j)||(e0 e==j&&e1 e==i)
def ent(ws:List Int)(es:List (List Int))(i j:Nat):Int:=if i=j then ws.getD i 0 else if adj es i j=true then 1 else 0
def mrow(ws:List Int)(es:List (List Int))(i:Nat):List Int:=qD (ent ws es i) ws.length
theorem zCb{α:Type}(f:Nat→α)(n i:Nat)(y:α):(qD f n).set i y=qD (fun j=>if j=i then y else f j) n:=by
 apply yS
 intro j
 by_cases hj:j<n
 ·rw[uR _ _ _ hj,List.getElem?_set]
  by_cases hij:i=j
  ·subst hij
   rw[if_pos rfl,if_pos (by rw[qh];exact hj),if_pos rfl]
  ·rw[if_neg hij,uR _ _ _ hj,if_neg (fun h=>hij h.symm)]
 ·rw[zI (by rw[yj,qh];omega),zI (by rw[qh];omega)]
end Go.Ax
namespace Go.Ax
open Go.Proofs
def stp(a b:Nat):List (Nat×Nat):=if _h:0<b then(a/b,b)::stp b (a%b)else[]
termination_by b
decreasing_by exact YJ _ (by assumption)
theorem zlm{a b:Nat}(h:0<b):stp a b=(a/b,b)::stp b (a%b):=by rw[stp,dif_pos h]
theorem zfI(a:Nat):stp a 0=[]:=by rw[stp,dif_neg (by omega)]
def ex(a b:Nat):List Nat:=(stp a b).flatMap fun p=>List.replicate p.1 p.2
theorem uN{a b:Nat}(h:0<b):ex a b=List.replicate (a/b) b++ex b (a%b):=by rw[ex,zlm h,Zz,ex]
theorem zfx(a:Nat):ex a 0=[]:=by rw[ex,zfI];rfl
def hd1(l:List Nat):Nat:=l.getD 0 1
def Fol(b:Nat)(l:List Nat):Prop:=hd1 l≤b∧(hd1 l<b→∃c r,b=c*hd1 l+r∧r<hd1 l∧1≤c∧(∀t,t<c→l.getD t 1=hd1 l)∧(0<r→l.getD c 1=r))
def GL:List Nat→Prop
 |[]=>True
 |x::l=>1≤x∧Fol x l∧GL l
theorem zu9{b:Nat}{l:List Nat}(hb:1≤b)(hf:Fol b l)(hg:GL l):∀q,GL (List.replicate q b++l)∧Fol b (List.replicate q b++l)
 |0=>⟨by simpa using hg,by simpa using hf⟩
 |q+1=>by
  obtain⟨h1,h2⟩:=zu9 hb hf hg q
  rw[yE,List.cons_append]
  refine⟨⟨hb,h2,h1⟩,?_⟩
  have:hd1 (b::(List.replicate q b++l))=b:=rfl
  exact⟨by rw[this];exact zt _,fun h=>by rw[this]at h;exact absurd h (zbP _)⟩
theorem zi8(q b:Nat)(l:List Nat)(t d:Nat):(List.replicate q b++l).getD t d=if t<q then b else l.getD (t-q) d:=by
 by_cases h:t<q
 ·rw[if_pos h,zd,yM (by simpa using h)]
  simp[h]
 ·rw[if_neg h,zd,yn (by simpa using h)]
  simp
theorem zEE{b r:Nat}(hr:0<r)(h:r≤b)(l:List Nat):(ex b r++l).getD 0 1=r:=by
 rw[uN hr,yf,zi8,if_pos (Nat.div_pos h hr)]
theorem zwF:∀(n b r:Nat) (l:List Nat),b≤n→r<b→GL l→Fol (Nat.gcd b r) l→GL (ex b r++l)∧Fol b (ex b r++l)
 |0,b,r,l,hn,hr,_,_=>by omega
 |n+1,b,r,l,hn,hr,hg,hf=>by
  by_cases h0:0<r
  ·have h1:b%r<r:=YJ _ h0
   have h2:Nat.gcd r (b%r)=Nat.gcd b r:=by rw[uO b r,Nat.gcd_rec r b,uO]
   obtain⟨i1,i2⟩:=zwF n r (b%r) l (by omega) h1 hg (by rw[h2];exact hf)
   obtain⟨j1,_⟩:=zu9 (by omega) i2 i1 (b/r)
   have hq:0<b/r:=Nat.div_pos (by omega) h0
   rw[uN h0,yf]
   have hh:hd1 (List.replicate (b/r) r++(ex r (b%r)++l))=r:=by rw[hd1,zi8,if_pos hq]
   refine⟨j1,by rw[hh];omega,fun _=>⟨b/r,b%r,?_,by rw[hh];exact h1,hq,fun t ht=>by rw[hh,zi8,if_pos ht],fun hrr=>?_⟩⟩
   ·rw[hh,Nat.mul_comm]
    exact(Nat.div_add_mod b r).symm
   ·rw[zi8,if_neg (zbP _),jA]
    exact zEE hrr (by omega) l
  ·obtain rfl:r=0:=by omega
   rw[zfx,List.nil_append]
   rw[Nat.gcd_zero_right]at hf
   exact⟨hg,hf⟩
def zew:List (Nat×Nat)→List Nat
 |[]=>[]
 |(k,e)::l=>ex k e++zew l
def zyM:Nat→List (Nat×Nat)→Prop
 |g,[]=>g=1
 |g,(k,e)::l=>e=g∧0<e∧zyM (Nat.gcd e k) l
theorem zmD:∀(l:List (Nat×Nat)) (g:Nat),zyM g l→GL (zew l)∧Fol g (zew l)
 |[],g,h=>by
  have:g=1:=h
  subst this
  exact⟨trivial,zt _,fun h=>absurd h (zbP _)⟩
 |(k,e)::l,g,h=>by
  obtain⟨rfl,h1,h2⟩:=h
  obtain⟨i1,i2⟩:=zmD l _ h2
  have h3:Nat.gcd e (k%e)=Nat.gcd e k:=by rw[uO e (k%e),←Nat.gcd_rec]
  obtain⟨j1,j2⟩:=zwF e e (k%e) (zew l) (zt _) (YJ _ h1) i1 (by rw[h3];exact i2)
  have:=zu9 h1 j2 j1 (k/e)
  rw[zew,uN h1,yf]
  exact this
theorem zsA:∀(l:List Nat),GL l→∀i,1≤l.getD i 1∧l.getD (i+1) 1≤l.getD i 1∧(l.getD (i+1) 1<l.getD i 1→∃c r,l.getD i 1=c*l.getD (i+1) 1+r∧r<l.getD (i+1) 1∧1≤c∧(∀t,t<c→l.getD (i+1+t) 1=l.getD (i+1) 1)∧(0<r→l.getD (i+1+c) 1=r))
 |[],_,i=>⟨by simp,by simp,fun h=>by simp at h⟩
 |x::l,h,0=>by
  obtain⟨h1,⟨h2,h3⟩,h4⟩:=h
  refine⟨h1,h2,fun h=>?_⟩
  obtain⟨c,r,e1,e2,e3,e4,e5⟩:=h3 h
  refine⟨c,r,e1,e2,e3,fun t ht=>?_,fun hr=>?_⟩
  ·have:=e4 t ht
   rw[show 0+1+t=t+1 by omega,qG]
   exact this
  ·rw[show 0+1+c=c+1 by omega,qG]
   exact e5 hr
 |x::l,h,i+1=>by
  have:=zsA l h.2.2 i
  rw[show i+1+1=(i+1)+1 from rfl]
  simp only[qG]
  refine⟨this.1,this.2.1,fun h=>?_⟩
  obtain⟨c,r,e1,e2,e3,e4,e5⟩:=this.2.2 h
  refine⟨c,r,e1,e2,e3,fun t ht=>?_,fun hr=>?_⟩
  ·rw[show i+1+1+t=(i+1+t)+1 by omega,qG]
   exact e4 t ht
  ·rw[show i+1+1+c=(i+1+c)+1 by omega,qG]
   exact e5 hr
def kx(M:Nat→Nat)(i:Nat):Nat→Nat
 |0=>0
 |k+1=>kx M i k+M (i+1+k)
structure GoodM (M:Nat→Nat):Prop where
 pos:∀i,1≤M i
 fall:∀i,M (i+1)≤M i
 drop:∀i,M (i+1)<M i→∃c r,M i=c*M (i+1)+r∧r<M (i+1)∧1≤c∧(∀t,t<c→M (i+1+t)=M (i+1))∧(0<r→M (i+1+c)=r)
theorem zA7{l:List Nat}(h:GL l):GoodM (fun i=>l.getD i 1):=
 ⟨fun i=>(zsA l h i).1,fun i=>(zsA l h i).2.1,fun i=>(zsA l h i).2.2⟩
theorem zec{M:Nat→Nat}(h:GoodM M)(i:Nat):∀{k k':Nat},k<k'→kx M i k<kx M i k'
 |k,0,hk=>by omega
 |k,k'+1,hk=>by
  have:=h.pos (i+1+k')
  simp only[kx]
  by_cases hkk:k=k'
  ·subst hkk;omega
  ·have:=zec h i (k:=k) (k':=k') (by omega)
   omega
theorem zsJ{M:Nat→Nat}{i v:Nat}:∀k,(∀t,t<k→M (i+1+t)=v)→kx M i k=k*v
 |0,_=>by simp[kx]
 |k+1,h=>by
  simp only[kx,zsJ k (fun t ht=>h t (by omega)),h k (by omega),Nat.add_mul]
  omega
def zuQ(M:Nat→Nat)(i j:Nat):Prop:=kx M i (j-i)≤M i
theorem zAI{M:Nat→Nat}(h:GoodM M)(i:Nat):zuQ M i (i+1):=by
 have:=h.fall i
 rw[zuQ,show i+1-i=1 by omega]
 simpa [kx]using this
theorem zy6{M:Nat→Nat}(h:GoodM M){i i' j:Nat}(h1:i<i')(h2:i'+1<j)(hp:zuQ M i j):¬zuQ M i' j:=by
 intro hp'
 unfold zuQ at hp hp'
 have two:∀x,kx M x 2=M (x+1)+M (x+1+1):=fun x=>by simp[kx]
 have one:∀x,kx M x 1=M (x+1):=fun x=>by simp[kx]
 have hlt:M (i+1)<M i:=by
  have a1:=zec h i (k:=2) (k':=j-i) (by omega)
  have a2:=h.pos (i+1+1)
  rw[two]at a1
  omega
 obtain⟨c,r,e1,e2,e3,e4,e5⟩:=h.drop i hlt
 have hc:=zsJ c e4
 have hc1:kx M i (c+1)=kx M i c+M (i+1+c):=rfl
 have hc2:kx M i (c+2)=kx M i (c+1)+M (i+1+(c+1)):=rfl
 have hj:j-i≤c+1:=by
  by_cases hh:j-i≤c+1
  ·exact hh
  ·exfalso
   have a3:kx M i (c+2)≤kx M i (j-i):=by
    by_cases hx:c+2=j-i
    ·rw[hx];exact zt _
    ·exact Nat.le_of_lt (zec h i (by omega))
   have a4:=h.pos (i+1+(c+1))
   have a5:=h.pos (i+1+c)
   by_cases hr:0<r
   ·have:=e5 hr;omega
   ·omega
 have b1:M i'=M (i+1):=by
  have:=e4 (i'-i-1) (by omega)
  rwa [show i+1+(i'-i-1)=i' by omega]at this
 have b2:M (i'+1)=M (i+1):=by
  have:=e4 (i'-i) (by omega)
  rwa [show i+1+(i'-i)=i'+1 by omega]at this
 have a1:=zec h i' (k:=1) (k':=j-i') (by omega)
 rw[one]at a1
 omega
end Go.Ax
namespace Go.Ax
open Go.Proofs
def JC(a b:Int):List (List Int):=(stp a.toNat b.toNat).map fun p=>[(p.1:Int),(p.2:Int)]
theorem zhO:∀(n a b:Nat),b≤n→(stp a b).length≤b
 |0,a,b,h=>by obtain rfl:b=0:=by omega
              rw[zfI];simp
 |n+1,a,b,h=>by
  by_cases hb:0<b
  ·rw[zlm hb,zi]
   have h1:a%b<b:=YJ _ hb
   have:=zhO n b (a%b) (by omega)
   omega
  ·obtain rfl:b=0:=by omega
   rw[zfI];simp
theorem zv0{a b:Int}(ha:0≤a)(hb:0<b):JC a b=[a.tdiv b,b]::JC b (a.tmod b):=by
 obtain⟨a,rfl⟩:=QO ha
 obtain⟨b,rfl⟩:=QO (zgA hb)
 rw[JC,zC,zC,zlm (by omega),List.map_cons,JC,←Int.ofNat_tdiv,←Int.ofNat_tmod,zC,zC]
theorem zsL(a:Int){b:Int}(hb:¬0<b):JC a b=[]:=by
 rw[JC,show b.toNat=0 by omega,zfI];rfl
def zif(f:Int→Int→List V)(q:Int→Int→Prop):zN:=fun
 |[.int .i64 a0,.int .i64 a1]=>some ([q a0 a1],.slc true 30 (.slc true 2 (.int .i64 0) []) (f a0 a1))
 |_=>none
def zjg(a b:Int):List V:=II true (JC a b)
def ziP(a b:Int):Prop:=0≤a∧a≤1000000∧0≤b∧b≤1000000
abbrev sQ:=(⟨@imp_self,@true_and,@and_true,@zD3,@zwR,@Bool.or_eq_true,@Bool.or_eq_false_iff,@zh,@jT,@decide_eq_true_eq,@decide_eq_false_iff_not,@qo,@zaK,@beq_iff_eq.{0},@beq_eq_false_iff_ne.{0},@ne_eq.{1},@zDs,@zDr,@JD,@ui,@zG,@zj,@zR,@zpY,@zfp⟩: _∧_∧_∧_∧_∧_∧_∧_∧_∧_∧_∧_∧_∧_∧_∧_∧_∧_∧_∧_∧_∧_∧_∧_∧_)
theorem zsU:yT Tryz.prog 146 (zif zjg ziP):=by
 intro args ps r h hp
 unfold zif at h
 split at h
 ·rename_i a0 a1
  simp only[za,zb]at h
  obtain⟨rfl,rfl⟩:=h
  obtain⟨q1,q2,q3,q4⟩:ziP a0 a1:=(zl.1 hp).1
  refine zD (T:=tab) (B:=[]) (Bi:=[]) [0,1,4,5] Tryz.func146 rfl rfl (by kernel_rfl) (zg rfl) zP zQ (by exact zy) (by exact zu) (by kernel_rfl) ?_
  intro L lp rr hL hr hf hlp
  conv=>cbv
  refine hlp (Int×Int×List V) _ _ _ [0,1,5] (fun x=>[(0,none,.val (.int .i64 x.1)),(1,none,.val (.int .i64 x.2.1)),(5,none,.val (.slc true 30 (.slc true 2 (.int .i64 0) []) x.2.2))])
   (fun x=>0≤x.1∧x.1≤1000000∧0≤x.2.1∧x.2.1≤1000000∧∃L,x.2.2=II true L∧L++JC x.1 x.2.1=JC a0 a1) (fun x=>x.2.1.toNat) ((a0,a1,[])) (by subst hL;rfl) ?_ ?_
  ·exact⟨q1,q2,q3,q4,[],rfl,rfl⟩
  rintro⟨a,b,es⟩ ⟨p1,p2,p3,p4,L,hes,hI⟩ hfx ag hag
  simp only at p1 p2 p3 p4 hes hI
  have hel:es.length≤1000000:=by
   have h1:=congrArg List.length hI
   have h2:=zhO a1.toNat a0.toNat a1.toNat (zt _)
   rw[zk,JC,JC,yh,yh]at h1
   rw[hes,yk]
   omega
  conv=>cbv
  simp only[zp hL,sQ,hel]
  refine⟨fun h=>?_,fun h=>?_⟩
  ·have h1:0≤a.tdiv b∧a.tdiv b≤a:=⟨Int.tdiv_nonneg p1 p3,Int.tdiv_le_self b p1⟩
   have h2:0≤a.tmod b∧a.tmod b<b:=⟨Int.tmod_nonneg b p1,kH a h⟩
   have hw:IntKind.wrap .i64 (a.tdiv b)=a.tdiv b:=zo (by omega) (by omega)
   (repeat' first|(exact yR _)|(exact jZ rfl)|(exact qL _)|(apply And.intro)|(intro _))<;>(try first|exact True.intro|omega|rfl|(simp only[zi,zr,zj];omega))
   refine hag (b,a.tmod b,_) ⟨by simp only;omega,by simp only;omega,by simp only;omega,by simp only;omega,L++[[a.tdiv b,b]],?_,?_⟩ (by simp only;omega)
   ·simp only
    rw[ZH,hes,hw]
    rfl
   ·simp only
    rw[yf,←hI,zv0 p1 h]
    rfl
  ·rw[hr,zjg,←hI,zsL a h,yw,hes]
 ·cases h
theorem zoi:yT Tryz.prog 120 (zif zjg ziP):=by
 intro args ps r h hp
 unfold zif at h
 split at h
 ·rename_i a0 a1
  simp only[za,zb]at h
  obtain⟨rfl,rfl⟩:=h
  obtain⟨q1,q2,q3,q4⟩:ziP a0 a1:=(zl.1 hp).1
  refine zD (T:=tab) (B:=[]) (Bi:=[]) [0,1,4,5,6] Tryz.func120 rfl rfl (by kernel_rfl) (zg rfl) zP zQ (by exact zy) (by exact zu) (by kernel_rfl) ?_
  intro L lp rr hL hr hf hlp
  conv=>cbv
  refine hlp (Int×Int×List V) _ _ _ [0,1,5] (fun x=>[(0,none,.val (.int .i64 x.1)),(1,none,.val (.int .i64 x.2.1)),(5,none,.val (.slc true 30 (.slc true 2 (.int .i64 0) []) x.2.2))])
   (fun x=>0≤x.1∧x.1≤1000000∧0≤x.2.1∧x.2.1≤1000000∧∃L,x.2.2=II true L∧L++JC x.1 x.2.1=JC a0 a1) (fun x=>x.2.1.toNat) ((a0,a1,[])) (by subst hL;rfl) ?_ ?_
  ·exact⟨q1,q2,q3,q4,[],rfl,rfl⟩
  rintro⟨a,b,es⟩ ⟨p1,p2,p3,p4,L,hes,hI⟩ hfx ag hag
  simp only at p1 p2 p3 p4 hes hI
  have hel:es.length≤1000000:=by
   have h1:=congrArg List.length hI
   have h2:=zhO a1.toNat a0.toNat a1.toNat (zt _)
   rw[zk,JC,JC,yh,yh]at h1
   rw[hes,yk]
   omega
  conv=>cbv
  simp only[zp hL,sQ,hel]
  refine⟨fun h=>?_,fun h=>?_⟩
  ·have h1:0≤a.tdiv b∧a.tdiv b≤a:=⟨Int.tdiv_nonneg p1 p3,Int.tdiv_le_self b p1⟩
   have h2:0≤a.tmod b∧a.tmod b<b:=⟨Int.tmod_nonneg b p1,kH a h⟩
   have hw:IntKind.wrap .i64 (a.tdiv b)=a.tdiv b:=zo (by omega) (by omega)
   (repeat' first|(exact yR _)|(exact jZ rfl)|(exact qL _)|(apply And.intro)|(intro _))<;>(try first|exact True.intro|omega|rfl|(simp only[zi,zr,zj];omega))
   refine hag (b,a.tmod b,_) ⟨by simp only;omega,by simp only;omega,by simp only;omega,by simp only;omega,L++[[a.tdiv b,b]],?_,?_⟩ (by simp only;omega)
   ·simp only
    rw[ZH,hes,hw]
    rfl
   ·simp only
    rw[yf,←hI,zv0 p1 h]
    rfl
  ·rw[hr,zjg,←hI,zsL a h,yw,hes]
 ·cases h
def qN(S:List (List Int)):List Int:=S.flatMap fun s=>List.replicate (s.getD 0 0).toNat (s.getD 1 0)
theorem zfi(S:List (List Int))(k:Nat)(h:k<S.length):qN (S.take (k+1))=qN (S.take k)++List.replicate ((S.getD k []).getD 0 0).toNat ((S.getD k []).getD 1 0):=by
 rw[zeG _ _ h,qN,qN,jQ,Zz,Qd,yw]
def exI(a b:Int):List Int:=(ex a.toNat b.toNat).map fun(n:Nat)=>(n:Int)
theorem zkB(a b:Int):qN (JC a b)=exI a b:=by
 rw[qN,JC,exI,ex,List.flatMap_map,List.map_flatMap]
 congr 1
 funext p
 simp
theorem zub:∀(n a b:Nat),b≤n→(ex a b).length≤a+b
 |0,a,b,h=>by obtain rfl:b=0:=by omega
              rw[zfx];simp
 |n+1,a,b,h=>by
  by_cases hb:0<b
  ·rw[uN hb,zk,zT]
   have h1:a%b<b:=YJ _ hb
   have h2:=zub n b (a%b) (by omega)
   have h3:=Nat.div_add_mod a b
   have h4:a/b≤b*(a/b):=Nat.le_mul_of_pos_left _ hb
   omega
  ·obtain rfl:b=0:=by omega
   rw[zfx];simp
theorem zv1{a b:Int}{s:List Int}(h:s∈JC a b):s.length=2∧0≤s.getD 0 0∧0≤s.getD 1 0:=by
 simp only[JC,jO]at h
 obtain⟨p,_,rfl⟩:=h
 exact⟨rfl,ka _,ka _⟩
def zqk(f:List V→Int→Int→List V)(q:List V→Int→Int→Prop):jz:=fun
 |[.slc true 2 (.int .i64 0) a0,.int .i64 a1,.int .i64 a2]=>some ([q a0 a1 a2],.slc true 2 (.int .i64 0) (f a0 a1 a2),.hole 0)
 |_=>none
def zlB(es:List V)(k e:Int):List V:=es++I (exI k e)
def zpS(es:List V)(k e:Int):Prop:=es.length≤100000000∧ziP k e
theorem zsV:zdC Tryz.prog 135 0 (zqk zlB zpS):=by
 intro args ps r y h hp
 unfold zqk at h
 split at h
 ·rename_i a0 a1 a2
  simp only[za,zb]at h
  obtain⟨rfl,rfl,rfl⟩:=h
  obtain⟨q0,hq⟩:zpS a0 a1 a2:=(zl.1 hp).1
  obtain⟨q1,q2,q3,q4⟩:=hq
  generalize zdJ:zjg=zcm
  generalize zdD:ziP=zlZ
  refine zp9 (T:=tab) (B:=[(146,zif zcm zlZ)]) (Bi:=[]) 0 [0,1,2,6,8,9,12,13,14] Tryz.func135 rfl rfl (by kernel_rfl) (zg rfl) zP zQ (by subst zdJ zdD;exact(zm zsU zy)) (by subst zdJ zdD;exact zu) (by kernel_rfl) (zg rfl) ?_
  intro L lp rr hL hr hf hlp
  conv=>cbv
  obtain⟨S,hS⟩:∃S,S=JC a1 a2:=⟨_,rfl⟩
  obtain⟨ss,hss⟩:∃ss,ss=II true S:=⟨_,rfl⟩
  have hF:zcm a1 a2=ss:=by rw[←zdJ,zjg,hss,hS]
  have hsl:ss.length=S.length:=by rw[hss,yk]
  have hSl:S.length≤1000000:=by
   have:=zhO a2.toNat a1.toNat a2.toNat (zt _)
   rw[hS,JC,yh];omega
  have gss:∀k,ss.getD k (.slc true 2 (.int .i64 0) [])=.slc true 2 (.int .i64 0) (I (S.getD k [])):=fun k=>by rw[hss,qB]
  have hfl:(exI a1 a2).length≤2000000:=by
   have:=zub a2.toNat a1.toNat a2.toNat (zt _)
   rw[exI,yh];omega
  have hpre:∀k,(qN (S.take k)).length≤2000000:=fun k=>by
   have h1:qN S=qN (S.take k)++qN (S.drop k):=by
    rw[qN,qN,qN,←jQ,qK]
   have h2:=congrArg List.length h1
   rw[hS,zkB,zk,←hS]at h2
   omega
  simp only[zp hL,sQ,hF,hsl]
  refine⟨by rw[←zdD];exact⟨q1,q2,q3,q4⟩,?_⟩
  refine hlp (List V×Int) _ _ _ [0,12,13,14] (fun x=>[(0,none,.val (.slc true 2 (.int .i64 0) x.1)),(12,none,.val (.slc true 30 (.slc true 2 (.int .i64 0) []) ss)),(13,none,.val (.int .i64 S.length)),(14,none,.val (.int .i64 x.2))])
   (fun x=>0≤x.2∧x.2≤S.length∧x.1=a0++I (qN (S.take x.2.toNat))) (fun x=>(S.length-x.2).toNat) ((a0,0)) (by subst hL;rfl) ?_ ?_
  ·exact⟨by simp,by simp only;omega,by simp[qN,I]⟩
  rintro⟨es,i⟩ ⟨i0,i1,hI⟩ hfx ag hag
  simp only at i0 i1 hI
  have hst:=zfi S i.toNat
  have hmem:=fun h=>zv1 (a:=a1) (b:=a2) (s:=S.getD i.toNat []) (by rw[←hS];exact zag h)
  have hp1:=hpre (i.toNat+1)
  generalize hE:S.getD i.toNat []=E at hst hmem
  obtain⟨m,hm⟩:∃m:Int,m=S.length:=⟨_,rfl⟩
  simp only[←hm]
  conv=>cbv
  simp only[zp hL,sQ,hsl,gss,hE]
  refine⟨fun h=>?_,fun h=>?_⟩
  ·obtain⟨hEl,hE0,hE1⟩:=hmem (by omega)
   have hst':=hst (by omega)
   have hip:i.toNat<S.length:=by omega
   refine⟨i0,by omega,by omega,?_⟩
   refine hlp (List V×Int) _ _ _ [0,8,9,12,13,14] (fun x=>[(0,none,.val (.slc true 2 (.int .i64 0) x.1)),(8,none,.rf 12 0 [i.toNat]),(9,none,.val (.int .i64 x.2)),(12,none,.val (.slc true 30 (.slc true 2 (.int .i64 0) []) ss)),(13,none,.val (.int .i64 m)),(14,none,.val (.int .i64 i))])
    (fun x=>0≤x.2∧x.2≤E.getD 0 0∧x.1=es++I (List.replicate x.2.toNat (E.getD 1 0))) (fun x=>(E.getD 0 0-x.2).toNat) (es,0) (by subst hL;rfl) ?_ ?_
   ·exact⟨by simp,hE0,by simp[I]⟩
   rintro⟨es2,j⟩ ⟨j0,j1,hI2⟩ hfx2 ag2 hag2
   simp only at j0 j1 hI2
   obtain⟨it,hit⟩:∃it,it=i.toNat:=⟨_,rfl⟩
   simp only[←hit]at hE ⊢
   conv=>cbv
   simp only[zp hL,sQ,hsl,gss,hE]
   have hl2:es2.length≤102000000:=by
    rw[hst',zk,zT]at hp1
    rw[hI2,hI,zk,zj,zk,zj,zT]
    omega
   have hEb:E.getD 0 0≤2000000:=by
    rw[hst',zk,zT]at hp1
    omega
   have hti:it<S.length:=by omega
   subst hit
   refine⟨hti,by omega,by omega,hti,by omega,fun hj=>?_,fun hj=>?_⟩
   ·rw[zo (n:=j+1) (by omega) (by omega)]
    (repeat' first|(exact yR _)|(exact jZ rfl)|(exact qL _)|(apply And.intro)|(intro _))<;>(try first|exact True.intro|omega|rfl|(simp only[zi,zr,zj];omega))
    refine hag2 (_,j+1) ⟨by simp only;omega,by simp only;omega,?_⟩ (by simp only;omega)
    simp only[zU j0]
    rw[jo,hI2,yf,←qr]
    rfl
   ·rw[zo (n:=i+1) (by omega) (by omega)]
    subst hm
    refine hag (_,i+1) ⟨by simp only;omega,by simp only;omega,?_⟩ (by simp only;omega)
    simp only[zU i0]
    rw[hst',hI2,hI,yf,qr,show j=E.getD 0 0 by omega]
  ·rw[hr,zlB,hI,zB (by omega),hS,zkB]
 ·cases h
def KU(xs:List Int)(i:Nat):Int:=xs.getD (i+1) 0-(if i=0 then 0 else xs.getD i 0)
def zhw(xs:List Int)(i:Nat):List Int:=exI (KU xs i) ((dv xs).getD i 0)
def zcv(xs:List Int)(n:Nat):List Int:=(List.range n).flatMap (zhw xs)
def kL(xs:List Int):List Int:=zcv xs (xs.length-1)
theorem zgR(xs:List Int)(n:Nat):zcv xs (n+1)=zcv xs n++zhw xs n:=by
 rw[zcv,zcv,Zt,jQ,Zz,Qd,yw]
theorem zko{xs:List Int}(h:Br xs){i:Nat}(hi:i+1<xs.length):1≤KU xs i∧KU xs i≤2000:=by
 have h1:=h.up i hi
 have h2:=h.high (i+1) hi
 have h3:=h.low i (by omega)
 have h4:=h.low (i+1) hi
 rw[KU]
 split<;>omega
theorem zAs{xs:List Int}(h:Br xs){i:Nat}(hi:i+1<xs.length):(zhw xs i).length≤3000:=by
 have h1:=zko h hi
 have h2:=h.dhi i (by omega)
 have h3:=h.dpos i (by omega)
 have:=zub _ (KU xs i).toNat ((dv xs).getD i 0).toNat (zt _)
 rw[zhw,exI,yh]
 omega
theorem zfL{xs:List Int}(h:Br xs):∀n,n+1≤xs.length→(zcv xs n).length≤3000*n
 |0,_=>by simp[zcv]
 |n+1,hn=>by
  have:=zfL h n (by omega)
  have:=zAs h (i:=n) (by omega)
  rw[zgR,zk]
  omega
def JW(xs:List Int):List Int:=if xs.length=1 then[1]else kL xs
def zg8(es:List V):List V:=I (JW (qb es))
theorem zgV:yT Tryz.prog 108 (zsy zg8 ZR):=by
 intro args ps r h hp
 unfold zsy at h
 split at h
 ·rename_i a0
  simp only[za,zb]at h
  obtain⟨rfl,rfl⟩:=h
  have hq:ZR a0:=(zl.1 hp).1
  have hqi:=hq.isIs
  obtain⟨xs,hxs,hb⟩:=hq
  have g1:V.frzs a0=a0:=by rw[hxs,zG]
  have e1:zjn a0=xs.length-1:=by
   have:=hb.len
   rw[zjn,hxs,zj];exact zo (by omega) (by omega)
  have e2:zg8 a0=I (JW xs):=by rw[zg8,hxs,zq]
  have e3:Jw a0=I (dv xs):=by rw[Jw,hxs,zq]
  generalize zjA:zjn=zpw
  generalize ZS:Jw=KN
  generalize yv:jU=qA
  generalize zlc:zlB=zz1
  generalize zk7:zpS=zzW
  refine zD (T:=tab) (B:=[(134,zyz zpw),(121,zsw KN qA)]) (Bi:=[(135,0,true,zqk zz1 zzW)]) [2000009999,0,1,2,3,4,5,6] Tryz.func108 rfl rfl (by kernel_rfl) (zg rfl) zP zQ (by subst zjA ZS yv zlc zk7;exact(zm zpK (zm zgW zy))) (by subst zjA ZS yv zlc zk7;exact(zev zsV zu)) (by kernel_rfl) ?_
  intro L lp rr hL hr hf hlp
  conv=>cbv
  obtain⟨ds,hds⟩:∃ds,ds=I (dv xs):=⟨_,rfl⟩
  have l1:ds.length=xs.length:=by rw[hds,zj,hb.dlen]
  have hF:KN a0=ds:=by rw[←ZS,e3,hds]
  have hF2:zpw a0=xs.length-1:=by rw[←zjA,e1]
  simp only[zp hL,sQ,hF,hF2,g1]
  have hp1:=hb.pos
  have hl1:=hb.len
  refine⟨fun h=>?_,fun h=>?_⟩
  ·rw[hr,e2,JW,if_pos (by omega)];rfl
  refine⟨by rw[←yv];exact hqi,?_⟩
  refine hlp (List V×Int×Int) _ _ _ [1,3,4,5,6] (fun x=>[(1,none,.val (.box 68 (.agg [.slc false 2 (.int .i64 0) a0]))),(3,none,.val (.slc true 2 (.int .i64 0) ds)),(4,none,.val (.slc true 2 (.int .i64 0) x.1)),(5,none,.val (.int .i64 x.2.1)),(6,none,.val (.int .i64 x.2.2))])
   (fun x=>1≤x.2.2∧x.2.2≤xs.length∧x.1=I (zcv xs (x.2.2-1).toNat)∧x.2.1=(if(x.2.2-1).toNat=0 then 0 else xs.getD (x.2.2-1).toNat 0)) (fun x=>(xs.length-x.2.2).toNat) (([],0,1)) (by subst hL;rfl) ?_ ?_
  ·exact⟨by simp,by simp only;omega,rfl,rfl⟩
  rintro⟨es,t,i⟩ ⟨i0,i1,hI,hT⟩ hfx ag hag
  simp only at i0 i1 hI hT
  conv=>cbv
  have hlen:es.length≤200000:=by
   have:=zfL hb (i-1).toNat (by omega)
   rw[hI,zj];omega
  have ga:∀k,a0.getD k (.int .i64 0)=.int .i64 (xs.getD k 0):=fun k=>by rw[hxs,zR]
  have gd:∀k,ds.getD k (.int .i64 0)=.int .i64 ((dv xs).getD k 0):=fun k=>by rw[hds,zR]
  have al:a0.length=xs.length:=by rw[hxs,zj]
  have w1:IntKind.wrap .i64 (i-1)=i-1:=zo (by omega) (by omega)
  simp only[zp hL,sQ,l1,al,ga,gd,w1]
  obtain⟨k,rfl⟩:∃k:Nat,i=k+1:=⟨(i-1).toNat,by omega⟩
  rw[show((k:Int)+1-1).toNat=k by omega]at hI hT
  rw[show((k:Int)+1-1).toNat=k by omega,show((k:Int)+1).toNat=k+1 by omega]
  refine⟨fun h2=>?_,fun h2=>?_⟩
  ·have hk:xs.getD (k+1) 0-t=KU xs k:=by rw[KU,hT]
   have hkk:=zko hb (i:=k) (by omega)
   have hd1:=hb.dpos k (by omega)
   have hd2:=hb.dhi k (by omega)
   rw[hk,zo (n:=KU xs k) (by omega) (by omega),zo (n:=(k:Int)+1+1) (by omega) (by omega)]
   refine⟨by omega,by omega,by omega,by omega,by omega,by rw[←zk7];exact⟨by omega,by omega,by omega,by omega,by omega⟩,by omega,by omega,?_⟩
   refine hag (_,_,(k:Int)+1+1) ⟨by simp only;omega,by simp only;omega,?_,?_⟩ (by simp only;omega)
   ·simp only
    rw[show((k:Int)+1+1-1).toNat=k+1 by omega,zgR,←zlc,zlB,hI,qr]
    rfl
   ·simp only
    rw[show((k:Int)+1+1-1).toNat=k+1 by omega,if_neg (by omega)]
    rfl
  ·rw[hr,e2,JW,if_neg (by omega),hI,kL,show xs.length-1=k by omega]
 ·cases h
def kC(xs:List Int)(k:Nat):List Int:=qD (fun i=>(kL xs).getD i 1) k
theorem Zn(xs:List Int)(k:Nat):(kC xs k).length=k:=qh _ _
theorem zv4(xs:List Int)(i:Nat):(JW xs).getD i 1=(kL xs).getD i 1:=by
 rw[JW]
 split
 ·rename_i h
  have:kL xs=[]:=by rw[kL,h];rfl
  rw[this]
  cases i with
  |zero=>rfl
  |succ i=>rfl
 ·rfl
theorem zkx(l:List Int)(n i:Nat):(l++List.replicate n 1).getD i 1=l.getD i 1:=by
 simp only[zd]
 by_cases h:i<l.length
 ·rw[yM h]
 ·rw[yn (by omega),zI (l:=l) (by omega),jV]
  split<;>rfl
theorem zxo{l:List Int}{xs:List Int}{n k:Nat}(hl:∀i,l.getD i 1=(kL xs).getD i 1)(h:k≤(l++List.replicate n 1).length):(l++List.replicate n 1).take k=kC xs k:=by
 apply yS
 intro i
 by_cases hi:i<k
 ·rw[Qc hi,kC,uR _ _ _ hi,←hl i,←zkx l n i,zd,ze (by omega)]
  rfl
 ·rw[zI (by rw[zL];omega),zI (by rw[Zn];omega)]
def zpg(f:List V→Int→List V)(q:List V→Int→Prop):zN:=fun
 |[.agg [.slc false 2 (.int .i64 0) a0],.int .i64 a1]=>some ([q a0 a1],.slc false 2 (.int .i64 0) (f a0 a1))
 |_=>none
def zgp(f:List V→Int→List V)(q:List V→Int→Prop):zN:=fun
 |[.agg [.slc false 2 (.int .i64 0) a0],.int .i64 a1]=>some ([q a0 a1],.slc true 2 (.int .i64 0) (f a0 a1))
 |_=>none
def kK(es:List V)(k:Int):List V:=I (kC (qb es) k.toNat)
def Yp(es:List V)(k:Int):Prop:=ZR es∧1≤k∧k≤1000000
theorem zv3{xs:List Int}(h:Br xs):(JW xs).length≤200000:=by
 have h1:=h.len
 have h2:=h.pos
 have:=zfL h (xs.length-1) (by omega)
 rw[JW]
 split
 ·simp
 ·rw[kL];omega
theorem zhV:yT Tryz.prog 101 (zpg kK Yp):=by
 intro args ps r h hp
 unfold zpg at h
 split at h
 ·rename_i a0 a1
  simp only[za,zb]at h
  obtain⟨rfl,rfl⟩:=h
  obtain⟨hq,k1,k2⟩:Yp a0 a1:=(zl.1 hp).1
  have hqb:=hq
  obtain⟨xs,hxs,hb⟩:=hq
  have g1:V.frzs a0=a0:=by rw[hxs,zG]
  obtain⟨ss,hss⟩:∃ss,ss=I (JW xs):=⟨_,rfl⟩
  have e1:zg8 a0=ss:=by rw[zg8,hxs,zq,hss]
  have e2:kK a0 a1=I (kC xs a1.toNat):=by rw[kK,hxs,zq]
  have hsl:ss.length≤200000:=by rw[hss,zj];exact zv3 hb
  generalize zdK:zg8=ziu
  generalize jP:ZR=Yo
  refine zD (T:=tab) (B:=[(108,zsy ziu Yo)]) (Bi:=[]) [0,1,2,4,5] Tryz.func101 rfl rfl (by kernel_rfl) (zg rfl) zP zQ (by subst zdK jP;exact(zm zgV zy)) (by subst zdK jP;exact zu) (by kernel_rfl) ?_
  intro L lp rr hL hr hf hlp
  conv=>cbv
  have hF:ziu a0=ss:=by rw[←zdK,e1]
  simp only[zp hL,sQ,hF,g1]
  refine⟨by rw[←jP];exact hqb,?_⟩
  refine hlp (List V×Nat) _ _ _ [1,5] (fun x=>[(1,none,.val (.int .i64 a1)),(5,none,.val (.slc true 2 (.int .i64 0) x.1))])
   (fun x=>x.1=I (JW xs++List.replicate x.2 1)∧x.1.length≤1200000) (fun x=>a1.toNat-x.1.length) ((ss,0)) (by subst hL;rfl) ?_ ?_
  ·exact⟨by simp[hss],by simp only;omega⟩
  rintro⟨es,n⟩ ⟨hI,hl⟩ hfx ag hag
  simp only at hI hl
  conv=>cbv
  simp only[zp hL,sQ,]
  refine⟨fun h=>?_,fun h=>?_⟩
  ·(repeat' first|(exact yR _)|(exact jZ rfl)|(exact qL _)|(apply And.intro)|(intro _))<;>(try first|exact True.intro|omega|rfl|(simp only[zi,zr,zj];omega))
   refine hag (_,n+1) ⟨?_,?_⟩ ?_
   ·simp only
    rw[jo,←yf,←qr,hI]
    rfl
   ·simp only[zk,zi,zr];omega
   ·simp only[zk,zi,zr];omega
  ·refine⟨by omega,by omega,by omega,by omega,?_⟩
   rw[hr,e2,List.drop_zero,hI,zG,zim,zxo (zv4 xs) (by rw[hI,zj]at h;omega)]
 ·cases h
theorem zBB(xss:List (List Int)):∀x∈II true xss,x.solid=true:=by
 intro x h
 simp only[II,jO]at h
 obtain⟨xs,_,rfl⟩:=h
 rfl
def zbG(xs:List Int)(n:Nat):List (List Int):=(List.range n).flatMap fun i=>JC (KU xs i) ((dv xs).getD i 0)
def Kd(xs:List Int):List (List Int):=zbG xs (xs.length-1)
theorem ziN(xs:List Int)(n:Nat):zbG xs (n+1)=zbG xs n++JC (KU xs n) ((dv xs).getD n 0):=by
 rw[zbG,zbG,Zt,jQ,Zz,Qd,yw]
theorem zfj(xs:List Int):∀n,qN (zbG xs n)=zcv xs n
 |0=>rfl
 |n+1=>by
  have h:∀a b:List (List Int),qN (a++b)=qN a++qN b:=fun a b=>by rw[qN,jQ];rfl
  rw[ziN,zgR,h,zfj xs n,zkB,zhw]
theorem zv2{xs:List Int}(h:Br xs){i:Nat}(hi:i+1<xs.length):(JC (KU xs i) ((dv xs).getD i 0)).length≤64:=by
 have h2:=h.dhi i (by omega)
 have h3:=h.dpos i (by omega)
 have:=zhO _ (KU xs i).toNat ((dv xs).getD i 0).toNat (zt _)
 rw[JC,yh]
 omega
theorem zeg{xs:List Int}(h:Br xs):∀n,n+1≤xs.length→(zbG xs n).length≤64*n
 |0,_=>by simp[zbG]
 |n+1,hn=>by
  have:=zeg h n (by omega)
  have:=zv2 h (i:=n) (by omega)
  rw[ziN,zk]
  omega
theorem zj4{xs:List Int}:∀n,∀s∈zbG xs n,s.length=2∧0≤s.getD 0 0∧0≤s.getD 1 0:=by
 intro n s h
 simp only[zbG,List.mem_flatMap]at h
 obtain⟨i,_,h⟩:=h
 exact zv1 h
def zkX(f:List V→List V)(q:List V→Prop):zN:=fun
 |[.agg [.slc false 2 (.int .i64 0) a0]]=>some ([q a0],.slc true 30 (.slc true 2 (.int .i64 0) []) (f a0))
 |_=>none
def KA(es:List V):List V:=II true (Kd (qb es))
theorem zdd:yT Tryz.prog 96 (zkX KA ZR):=by
 intro args ps r h hp
 unfold zkX at h
 split at h
 ·rename_i a0
  simp only[za,zb]at h
  obtain⟨rfl,rfl⟩:=h
  have hq:ZR a0:=(zl.1 hp).1
  have hqp:=hq.isP
  obtain⟨xs,hxs,hb⟩:=hq
  have g1:V.frzs a0=a0:=by rw[hxs,zG]
  have e2:KA a0=II true (Kd xs):=by rw[KA,hxs,zq]
  have e3:Jw a0=I (dv xs):=by rw[Jw,hxs,zq]
  generalize ZS:Jw=KN
  generalize zjC:IsP=zyL
  generalize zdJ:zjg=zcm
  generalize zdD:ziP=zlZ
  refine zD (T:=tab) (B:=[(119,zsx KN zyL),(120,zif zcm zlZ)]) (Bi:=[]) [0,1,2,3,4,5,6] Tryz.func96 rfl rfl (by kernel_rfl) (zg rfl) zP zQ (by subst ZS zjC zdJ zdD;exact(zm zee (zm zoi zy))) (by subst ZS zjC zdJ zdD;exact zu) (by kernel_rfl) ?_
  intro L lp rr hL hr hf hlp
  conv=>cbv
  obtain⟨ds,hds⟩:∃ds,ds=I (dv xs):=⟨_,rfl⟩
  have l1:ds.length=xs.length:=by rw[hds,zj,hb.dlen]
  have hF:KN a0=ds:=by rw[←ZS,e3,hds]
  simp only[zp hL,sQ,hF,g1]
  refine⟨by rw[←zjC];exact hqp,?_⟩
  have hp1:=hb.pos
  have hl1:=hb.len
  refine hlp (List V×Int) _ _ _ [1,3,4,5] (fun x=>[(1,none,.val (.box 68 (.agg [.slc false 2 (.int .i64 0) a0]))),(3,none,.val (.slc true 2 (.int .i64 0) ds)),(4,none,.val (.slc true 30 (.slc true 2 (.int .i64 0) []) x.1)),(5,none,.val (.int .i64 x.2))])
   (fun x=>1≤x.2∧x.2≤xs.length∧x.1=II true (zbG xs (x.2-1).toNat)) (fun x=>(xs.length-x.2).toNat) (([],1)) (by subst hL;rfl) ?_ ?_
  ·exact⟨by simp,by simp only;omega,rfl⟩
  rintro⟨es,i⟩ ⟨i0,i1,hI⟩ hfx ag hag
  simp only at i0 i1 hI
  conv=>cbv
  have ga:∀k,a0.getD k (.int .i64 0)=.int .i64 (xs.getD k 0):=fun k=>by rw[hxs,zR]
  have gd:∀k,ds.getD k (.int .i64 0)=.int .i64 ((dv xs).getD k 0):=fun k=>by rw[hds,zR]
  have al:a0.length=xs.length:=by rw[hxs,zj]
  have w1:IntKind.wrap .i64 (i-1)=i-1:=zo (by omega) (by omega)
  simp only[zp hL,sQ,l1,al,ga,gd,w1]
  obtain⟨k,rfl⟩:∃k:Nat,i=k+1:=⟨(i-1).toNat,by omega⟩
  rw[show((k:Int)+1-1).toNat=k by omega]at hI
  rw[show((k:Int)+1-1).toNat=k by omega,show((k:Int)+1).toNat=k+1 by omega]
  have fin:(k:Int)+1<xs.length→∀z,z=KU xs k→zlZ z ((dv xs).getD k 0)∧(es.length:Int)+(zcm z ((dv xs).getD k 0)).length≤2147483647∧(∀x∈zcm z ((dv xs).getD k 0),x.solid=true)∧ag (ZW [1,3,4,5] [(1,none,.val (.box 68 (.agg [.slc false 2 (.int .i64 0) a0]))),(3,none,.val (.slc true 2 (.int .i64 0) ds)),(4,none,.val (.slc true 30 (.slc true 2 (.int .i64 0) []) (es++zcm z ((dv xs).getD k 0)))),(5,none,.val (.int .i64 (k+1+1)))]):=by
   intro h z hz
   have hkk:=zko hb (i:=k) (by omega)
   have hd1:=hb.dpos k (by omega)
   have hd2:=hb.dhi k (by omega)
   have hlr:=zeg hb k (by omega)
   have hls:=zv2 hb (i:=k) (by omega)
   have hfz:zcm z ((dv xs).getD k 0)=II true (JC (KU xs k) ((dv xs).getD k 0)):=by rw[←zdJ,hz];rfl
   rw[hfz]
   refine⟨by rw[←zdD,hz];exact⟨by omega,by omega,by omega,by omega⟩,by rw[hI,yk,yk];omega,zBB _,?_⟩
   refine hag (_,(k:Int)+1+1) ⟨by simp only;omega,by simp only;omega,?_⟩ (by simp only;omega)
   simp only
   rw[show((k:Int)+1+1-1).toNat=k+1 by omega,ziN,hI,ZH]
  refine⟨fun h=>⟨by omega,by omega,fun h2=>?_,fun h2=>?_⟩,fun h=>?_⟩
  ·have hz:IntKind.wrap .i64 (xs.getD (k+1) 0-xs.getD k 0)=KU xs k:=by
    have hkk:=zko hb (i:=k) (by omega)
    have e:xs.getD (k+1) 0-xs.getD k 0=KU xs k:=by rw[KU,if_neg (by omega)]
    rw[e,zo (by omega) (by omega)]
   obtain⟨f1,f2,f3,f4⟩:=fin h _ hz
   rw[zo (n:=(k:Int)+1+1) (by omega) (by omega)]
   exact⟨by omega,by omega,by omega,by omega,by omega,f1,f2,f3,f4⟩
  ·have hz:xs.getD (k+1) 0=KU xs k:=by
    rw[KU,if_pos (by omega)]
    omega
   obtain⟨f1,f2,f3,f4⟩:=fin h _ hz
   rw[zo (n:=(k:Int)+1+1) (by omega) (by omega)]
   exact⟨by omega,by omega,by omega,f1,f2,f3,f4⟩
  ·rw[hr,e2,hI,Kd,show xs.length-1=k by omega]
 ·cases h
theorem zyR{xs:List Int}{k n:Nat}(h:((kL xs).take k++List.replicate n 1).length=k):(kL xs).take k++List.replicate n 1=kC xs k:=by
 apply yS
 intro i
 by_cases hi:i<k
 ·have h1:((kL xs).take k++List.replicate n 1).getD i 1=(kL xs).getD i 1:=by
   rw[zkx,zd,Qc hi,←zd]
  rw[kC,uR _ _ _ hi,←h1,zd,ze (by omega)]
  rfl
 ·rw[zI (by omega),zI (by rw[Zn];omega)]
theorem zyP{l:List Int}{k:Nat}(x:Int)(h:(l.take k).length<k):l.take k++[x]=(l++[x]).take k:=by
 rw[zL]at h
 rw[zB (by omega),zB (by simp;omega)]
theorem zyQ{l:List Int}{k:Nat}(m:List Int)(h:¬(l.take k).length<k):l.take k=(l++m).take k:=by
 rw[zL]at h
 rw[List.take_append_of_le_length (by omega)]
theorem zed:yT Tryz.prog 83 (zgp kK Yp):=by
 intro args ps r h hp
 unfold zgp at h
 split at h
 ·rename_i a0 a1
  simp only[za,zb]at h
  obtain⟨rfl,rfl⟩:=h
  obtain⟨hq,k1,k2⟩:Yp a0 a1:=(zl.1 hp).1
  have hqb:=hq
  obtain⟨xs,hxs,hb⟩:=hq
  have g1:V.frzs a0=a0:=by rw[hxs,zG]
  obtain⟨S,hS⟩:∃S,S=Kd xs:=⟨_,rfl⟩
  obtain⟨ss,hss⟩:∃ss,ss=II true S:=⟨_,rfl⟩
  have e1:KA a0=ss:=by rw[KA,hxs,zq,hss,hS]
  have e2:kK a0 a1=I (kC xs a1.toNat):=by rw[kK,hxs,zq]
  have hsl:ss.length=S.length:=by rw[hss,yk]
  have hSl:S.length≤5000:=by
   have h1:=hb.len
   have h2:=hb.pos
   have:=zeg hb (xs.length-1) (by omega)
   rw[hS,Kd];omega
  have gss:∀k,ss.getD k (.slc true 2 (.int .i64 0) [])=.slc true 2 (.int .i64 0) (I (S.getD k [])):=fun k=>by rw[hss,qB]
  generalize Qm:KA=zaE
  generalize jP:ZR=Yo
  refine zD (T:=tab) (B:=[(96,zkX zaE Yo)]) (Bi:=[]) [0,1,2,4,5,6,7,8] Tryz.func83 rfl rfl (by kernel_rfl) (zg rfl) zP zQ (by subst Qm jP;exact(zm zdd zy)) (by subst Qm jP;exact zu) (by kernel_rfl) ?_
  intro L lp rr hL hr hf hlp
  conv=>cbv
  have hF:zaE a0=ss:=by rw[←Qm,e1]
  simp only[zp hL,sQ,hF,g1]
  refine⟨by rw[←jP];exact hqb,?_⟩
  refine hlp (List V×Int) _ _ _ [1,5,6,7] (fun x=>[(1,none,.val (.int .i64 a1)),(5,none,.val (.slc true 2 (.int .i64 0) x.1)),(6,none,.val (.slc true 30 (.slc true 2 (.int .i64 0) []) ss)),(7,none,.val (.int .i64 x.2))])
   (fun x=>0≤x.2∧x.2≤S.length∧x.1=I ((qN (S.take x.2.toNat)).take a1.toNat)) (fun x=>(S.length-x.2).toNat) (([],0)) (by subst hL;rfl) ?_ ?_
  ·exact⟨by simp,by simp only;omega,by simp[qN,I]⟩
  rintro⟨es,i⟩ ⟨i0,i1,hI⟩ hfx ag hag
  simp only at i0 i1 hI
  have hst:=zfi S i.toNat
  have hmem:=fun(h:i.toNat<S.length)=>zj4 (xs:=xs) (xs.length-1) (S.getD i.toNat []) (by have:=zag h;rwa [hS,Kd]at this ⊢)
  generalize hE:S.getD i.toNat []=E at hst hmem
  have hl:es.length≤a1.toNat:=by rw[hI,zj,zL];omega
  conv=>cbv
  simp only[zp hL,sQ,hsl,gss,hE]
  refine⟨fun h=>?_,fun h=>?_⟩
  ·obtain⟨hEl,hE0,hE1⟩:=hmem (by omega)
   have hst':=hst (by omega)
   obtain⟨it,hit⟩:∃it,it=i.toNat:=⟨_,rfl⟩
   simp only[←hit]at hE hst' hI ⊢
   have hti:it<S.length:=by omega
   have hEb:E.getD 0 0≤200000:=by
    have h1:qN S=qN (S.take (it+1))++qN (S.drop (it+1)):=by
     rw[qN,qN,qN,←jQ,qK]
    have h2:=congrArg List.length h1
    have h3:=hb.pos
    have h4:=hb.len
    have h5:=zfL hb (xs.length-1) (by omega)
    have h6:qN S=zcv xs (xs.length-1):=by rw[hS,Kd,zfj]
    rw[h6,zk,hst',zk,zT]at h2
    omega
   refine⟨by omega,by omega,hti,hti,by omega,by omega,hti,by omega,?_⟩
   refine hlp (List V×Int) _ _ _ [1,5,6,7,8] (fun x=>[(1,none,.val (.int .i64 a1)),(5,none,.val (.slc true 2 (.int .i64 0) x.1)),(6,none,.val (.slc true 30 (.slc true 2 (.int .i64 0) []) ss)),(7,none,.val (.int .i64 i)),(8,none,.val (.int .i64 x.2))])
    (fun x=>0≤x.2∧x.2≤E.getD 0 0∧x.1=I ((qN (S.take it)++List.replicate (E.getD 0 0-x.2).toNat (E.getD 1 0)).take a1.toNat)) (fun x=>x.2.toNat) ((es,E.getD 0 0)) (by subst hL;rfl) ?_ ?_
   ·exact⟨by simp only;omega,by simp,by simp[hI]⟩
   rintro⟨es2,q⟩ ⟨j0,j1,hI2⟩ hfx2 ag2 hag2
   simp only at j0 j1 hI2
   have hl2:es2.length≤a1.toNat:=by rw[hI2,zj,zL];omega
   conv=>cbv
   simp only[zp hL,sQ,hsl,gss,←hit,hE]
   refine⟨fun hj=>?_,fun hj=>?_⟩
   ·rw[zo (n:=q-1) (by omega) (by omega)]
    refine⟨by omega,by omega,hti,hti,by omega,by omega,hti,by omega,qL _,by simp only[zi,zr];omega,yR _,?_⟩
    refine hag2 (_,q-1) ⟨by simp only;omega,by simp only;omega,?_⟩ (by simp only;omega)
    simp only
    have hlt:((qN (S.take it)++List.replicate (E.getD 0 0-q).toNat (E.getD 1 0)).take a1.toNat).length<a1.toNat:=by
     have:=hj.2
     rw[hI2,zj]at this
     omega
    rw[show(E.getD 0 0-(q-1)).toNat=(E.getD 0 0-q).toNat+1 by omega,jo,←yf,←zyP _ hlt,hI2,←qr]
    rfl
   ·rw[zo (n:=i+1) (by omega) (by omega)]
    refine hag (_,i+1) ⟨by simp only;omega,by simp only;omega,?_⟩ (by simp only;omega)
    simp only[zU i0,←hit]
    rw[hst',hI2]
    by_cases hq0:q=0
    ·rw[show(E.getD 0 0-q).toNat=(E.getD 0 0).toNat by omega]
    ·have hfl:¬((qN (S.take it)++List.replicate (E.getD 0 0-q).toNat (E.getD 1 0)).take a1.toNat).length<a1.toNat:=by
      have:=hj.resolve_left (by omega)
      rw[hI2,zj]at this
      omega
     rw[zyQ (List.replicate q.toNat (E.getD 1 0)) hfl,yf,List.replicate_append_replicate,show(E.getD 0 0-q).toNat+q.toNat=(E.getD 0 0).toNat by omega]
  ·have hI':es=I ((kL xs).take a1.toNat):=by
    rw[hI,zB (l:=S) (by omega),hS,Kd,zfj,kL]
   clear hst hmem hI
   refine hlp (List V×Nat) _ _ _ [1,5] (fun x=>[(1,none,.val (.int .i64 a1)),(5,none,.val (.slc true 2 (.int .i64 0) x.1))])
    (fun x=>x.1=I ((kL xs).take a1.toNat++List.replicate x.2 1)∧x.1.length≤a1.toNat) (fun x=>a1.toNat-x.1.length) ((es,0)) (by subst hL;rfl) ?_ ?_
   ·exact⟨by simp[hI'],hl⟩
   rintro⟨es2,n⟩ ⟨hI2,hl2⟩ hfx2 ag2 hag2
   simp only at hI2 hl2
   conv=>cbv
   simp only[zp hL,sQ,]
   refine⟨fun h=>?_,fun h=>?_⟩
   ·(repeat' first|(exact yR _)|(exact jZ rfl)|(exact qL _)|(apply And.intro)|(intro _))<;>(try first|exact True.intro|omega|rfl|(simp only[zi,zr,zj];omega))
    refine hag2 (_,n+1) ⟨?_,?_⟩ ?_
    ·simp only
     rw[jo,←yf,←qr,hI2]
     rfl
    ·simp only[zk,zi,zr];omega
    ·simp only[zk,zi,zr];omega
   ·rw[hr,e2,hI2,zyR (by rw[hI2,zj]at h hl2;omega)]
 ·cases h
end Go.Ax
namespace Go.Ax
open Go.Proofs
theorem zqe:∀(l:List Int) (d:Int) (i:Nat),i<l.length→(Zq d l).getD i 0=jk (if i=0 then d else(Zq d l).getD (i-1) 0) (l.getD i 0)
 |[],_,i,h=>by simp at h
 |t::l,d,0,_=>rfl
 |t::l,d,1,h=>by
  have:=zqe l (jk d t) 0 (by simpa using h)
  simpa [Zq]using this
 |t::l,d,i+2,h=>by
  have:=zqe l (jk d t) (i+1) (by simp at h;omega)
  simpa [Zq]using this
theorem ztX{a b:Int}(ha:0<a)(hb:0<b):jk a b=(Nat.gcd a.toNat b.toNat:Int):=by
 rw[jk,zdB ha,zdB hb,zja _ a b (zt _) (by omega) (by omega)]
def ddN(xs:List Int)(i:Nat):Nat:=((dv xs).getD i 0).toNat
def kkN(xs:List Int)(i:Nat):Nat:=(KU xs i).toNat
theorem zwM{xs:List Int}(h:Br xs){i:Nat}(hi:i+1<xs.length):ddN xs (i+1)=Nat.gcd (ddN xs i) (xs.getD (i+1) 0).toNat:=by
 have h1:=zqe xs 0 (i+1) hi
 have h2:=h.dpos i (by omega)
 have h3:=h.low (i+1) hi
 rw[if_neg (by omega),show i+1-1=i by omega]at h1
 have h4:(dv xs).getD (i+1) 0=jk ((dv xs).getD i 0) (xs.getD (i+1) 0):=h1
 rw[ztX (by omega) (by omega)]at h4
 rw[ddN,h4,zC,ddN]
theorem zCV{xs:List Int}(h:Br xs):∀{i:Nat},i<xs.length→ddN xs i ∣ (xs.getD i 0).toNat
 |0,_=>by rw[ddN,h.d0];exact Nat.dvd_refl _
 |i+1,hi=>by rw[zwM h hi];exact Nat.gcd_dvd_right _ _
theorem zDY{xs:List Int}(h:Br xs){i:Nat}(hi:i+1<xs.length):Nat.gcd (ddN xs i) (kkN xs i)=ddN xs (i+1):=by
 rw[zwM h hi,kkN,KU]
 by_cases h0:i=0
 ·rw[if_pos h0]
  congr 1
  omega
 ·rw[if_neg h0]
  obtain⟨c,hc⟩:=zCV h (i:=i) (by omega)
  have h1:=h.up i hi
  have h2:=h.low i (by omega)
  rw[show(xs.getD (i+1) 0).toNat=(xs.getD (i+1) 0-xs.getD i 0).toNat+ddN xs i*c by omega,Nat.mul_comm (ddN xs i) c,Nat.gcd_add_mul_right_right]
def blk(xs:List Int)(i:Nat):Nat→List (Nat×Nat)
 |0=>[]
 |n+1=>(kkN xs i,ddN xs i)::blk xs (i+1) n
theorem zrZ{xs:List Int}(h:Br xs):∀(n i:Nat),i+n+1=xs.length→zyM (ddN xs i) (blk xs i n)
 |0,i,hi=>by
  have:=h.dlast
  rw[show xs.length-1=i by omega]at this
  show ddN xs i=1
  rw[ddN,this];rfl
 |n+1,i,hi=>by
  have:=h.dpos i (by omega)
  refine⟨rfl,by rw[ddN];omega,?_⟩
  rw[zDY h (by omega)]
  exact zrZ h n (i+1) (by omega)
def Kg(l:List Nat):List Int:=l.map fun(n:Nat)=>(n:Int)
theorem zwQ(xs:List Int):∀(n i:Nat),Kg (zew (blk xs i n))=(List.range' i n).flatMap (zhw xs)
 |0,i=>rfl
 |n+1,i=>by
  have:=zwQ xs n (i+1)
  rw[List.range'_succ,Zz,←this,blk,zew,Kg,List.map_append]
  rfl
def zx5(xs:List Int):List Nat:=zew (blk xs 0 (xs.length-1))
def mul(xs:List Int)(i:Nat):Nat:=(zx5 xs).getD i 1
theorem zAq(xs:List Int):kL xs=Kg (zx5 xs):=by
 rw[zx5,zwQ,kL,zcv,List.range_eq_range']
theorem ziD(xs:List Int)(i:Nat):(kL xs).getD i 1=mul xs i:=by
 rw[zAq,Kg,mul,zd,zd,zH]
 cases (zx5 xs)[i]? <;>rfl
theorem zae{xs:List Int}(h:Br xs):GoodM (mul xs)∧mul xs 0≤64:=by
 have h1:=h.pos
 have hc:=zrZ h (xs.length-1) 0 (by omega)
 obtain⟨g1,g2,_⟩:=zmD _ _ hc
 refine⟨zA7 g1,Nat.le_trans g2 ?_⟩
 have:=h.dhi 0 h1
 rw[ddN];omega
theorem zkj{xs:List Int}(h:Br xs):∀i,mul xs i≤64
 |0=>(zae h).2
 |i+1=>Nat.le_trans ((zae h).1.fall i) (zkj h i)
theorem zjd(xs:List Int)(k:Nat):kC xs k=qD (fun i=>(mul xs i:Int)) k:=jY fun i _=>ziD xs i
def prx(M:Nat→Nat)(i j:Nat):Bool:=decide (kx M i (j-i)≤M i)
def prs(M:Nat→Nat)(i j:Nat):List Nat:=(List.range (min i j)).filter fun a=>prx M a j
theorem zAH{M:Nat→Nat}{i j:Nat}(h:j≤i):prs M (i+1) j=prs M i j:=by
 rw[prs,prs,show min (i+1) j=min i j by omega]
theorem zfW{M:Nat→Nat}{i j:Nat}(h:i<j):prs M (i+1) j=prs M i j++(if kx M i (j-i)≤M i then[i]else[]):=by
 rw[prs,prs,show min (i+1) j=i+1 by omega,show min i j=i by omega,Zt,List.filter_append]
 congr 1
 by_cases hp:kx M i (j-i)≤M i<;>simp[prx,hp]
theorem ztb{M:Nat→Nat}(h:GoodM M){i j j':Nat}(hij:i<j)(hj:j≤j')(hn:¬kx M i (j-i)≤M i):¬kx M i (j'-i)≤M i:=by
 by_cases e:j=j'
 ·subst e;exact hn
 ·have:=zec h i (k:=j-i) (k':=j'-i) (by omega)
  omega
def cd(M:Nat→Nat)(i j:Nat):Int:=match prs M (min i (j-1)) j with
 |[]=>0
 |a::_=>(j:Int)-a
theorem zC2{M:Nat→Nat}(h:GoodM M){i j:Nat}(hij:i+1<j)(hp:kx M i (j-i)≤M i):cd M (i+1) j=(j:Int)-i:=by
 have h1:prs M i j=[]:=by
  cases hh:prs M i j with
  |nil=>rfl
  |cons a l=>
   have ha:a∈prs M i j:=by rw[hh];simp
   simp only[prs,List.mem_filter,kn,prx,decide_eq_true_eq]at ha
   exact absurd hp (zy6 h (i:=a) (i':=i) (j:=j) (by omega) hij ha.2)
 rw[cd,show min (i+1) (j-1)=i+1 by omega,zfW (by omega),h1,if_pos hp]
 rfl
theorem zqi{M:Nat→Nat}{i j:Nat}(hp:¬(i+1<j∧kx M i (j-i)≤M i)):cd M (i+1) j=cd M i j:=by
 rw[cd,cd]
 by_cases hij:i+1<j
 ·rw[show min (i+1) (j-1)=i+1 by omega,show min i (j-1)=i by omega,zfW (by omega),if_neg (fun h=>hp ⟨hij,h⟩),yw]
 ·rw[show min (i+1) (j-1)=j-1 by omega,show min i (j-1)=j-1 by omega]
theorem zC3{M:Nat→Nat}(h:GoodM M){i j:Nat}(hj:1≤j)(hi:j≤i):cd M i j=if 1<(prs M j j).length then(j:Int)-((prs M j j).getD 0 0:Nat)else 0:=by
 obtain⟨j,rfl⟩:∃k,j=k+1:=⟨j-1,by omega⟩
 have h1:=zfW (M:=M) (i:=j) (j:=j+1) (by omega)
 have h2:kx M j (j+1-j)≤M j:=zAI h j
 rw[if_pos h2]at h1
 rw[cd,show min i (j+1-1)=j by omega,h1]
 cases prs M j (j+1)with
 |nil=>simp
 |cons a l=>simp
theorem zn6{M M':Nat→Nat}{i:Nat}:∀{k:Nat},(∀t,t≤i+k→M t=M' t)→kx M i k=kx M' i k
 |0,_=>rfl
 |k+1,h=>by rw[kx,kx,zn6 (fun t ht=>h t (by omega)),h _ (by omega)]
theorem zy5{M M':Nat→Nat}{i j:Nat}(h:∀t,t≤j→M t=M' t):prs M i j=prs M' i j:=by
 rw[prs,prs]
 apply List.filter_congr
 intro a ha
 have ha:=kn.1 ha
 rw[prx,prx,zn6 (fun t ht=>h t (by omega)),h a (by omega)]
def ofL(l:List Int)(i:Nat):Nat:=(l.getD i 1).toNat
theorem zzc(xs:List Int)(k i:Nat)(h:i<k):ofL (kC xs k) i=mul xs i:=by
 rw[ofL,zjd,Zy _ _ _ _ h,zC]
def zfb(l:List Int):List (List Int):=qD (fun j=>Kg (prs (ofL l) j j)) l.length
theorem KJ(xs:List Int)(k:Nat):zfb (kC xs k)=qD (fun j=>Kg (prs (mul xs) j j)) k:=by
 rw[zfb,Zn]
 exact jY fun j hj=>by rw[zy5 fun t ht=>zzc xs k t (by omega)]
def zlR(f:List V→List V)(q:List V→Prop):zN:=fun
 |[.slc false 2 (.int .i64 0) a0]=>some ([q a0],.slc true 30 (.slc true 2 (.int .i64 0) []) (f a0))
 |_=>none
def zkF(es:List V):List V:=II true (zfb (qb es))
def zs4(es:List V):Prop:=∃xs k,Br xs∧es=I (kC xs k)∧k≤1000000
theorem zCo(M:Nat→Nat)(i j:Nat):(prs M i j).length≤j:=by
 have:=List.length_filter_le (fun a=>prx M a j) (List.range (min i j))
 rw[List.length_range]at this
 rw[prs];omega
theorem zAe{α:Type}(f:Nat→α){n i:Nat}(x:α)(h:i<n):(qD f n).set i x=qD (fun t=>if t=i then x else f t) n:=by
 apply yS
 intro t
 by_cases ht:t<n
 ·rw[uR _ _ _ ht]
  by_cases hti:t=i
  ·subst hti
   rw[uP (by rw[qh];exact ht),if_pos rfl]
  ·rw[List.getElem?_set_ne (by omega),uR _ _ _ ht,if_neg hti]
 ·rw[zI (by rw[yj,qh];omega),zI (by rw[qh];omega)]
theorem zl7:yT Tryz.prog 100 (zlR zkF zs4):=by
 intro args ps r h hp
 unfold zlR at h
 split at h
 ·rename_i a0
  simp only[za,zb]at h
  obtain⟨rfl,rfl⟩:=h
  obtain⟨xs,k,hb,hm,hk⟩:zs4 a0:=(zl.1 hp).1
  have al:a0.length=k:=by rw[hm,zj,Zn]
  have e1:zkF a0=II true (qD (fun j=>Kg (prs (mul xs) j j)) k):=by rw[zkF,hm,zq,KJ]
  have ga:∀i,i<k→a0.getD i (.int .i64 0)=.int .i64 (mul xs i):=fun i hi=>by rw[hm,zR,zjd,Zy _ _ _ _ hi]
  obtain⟨hg,_⟩:=zae hb
  have h64:=zkj hb
  refine zD (T:=tab) (B:=[]) (Bi:=[]) [0,2,3,4,5,6,11,12] Tryz.func100 rfl rfl (by kernel_rfl) (zg rfl) zP zQ (by exact zy) (by exact zu) (by kernel_rfl) ?_
  intro L lp rr hL hr hf hlp
  conv=>cbv
  simp only[zp hL,sQ,al]
  refine⟨by omega,by omega,by omega,?_⟩
  obtain⟨K,hK⟩:∃K:Int,K=k:=⟨_,rfl⟩
  rw[←hK]
  refine hlp (List V×Int) _ _ _ [0,3,11,12] (fun x=>[(0,none,.val (.slc false 2 (.int .i64 0) a0)),(3,none,.val (.slc true 30 (.slc true 2 (.int .i64 0) []) x.1)),(11,none,.val (.int .i64 K)),(12,none,.val (.int .i64 x.2))])
   (fun x=>0≤x.2∧x.2≤k∧x.1=II true (qD (fun j=>Kg (prs (mul xs) x.2.toNat j)) k)) (fun x=>(k-x.2).toNat) ((_,0)) (by subst hL;rfl) ?_ ?_
  ·refine⟨by simp,by simp only;omega,?_⟩
   simp only
   rw[show K.toNat=k by omega,show(V.slc true 2 (.int .i64 0) [])=.slc true 2 (.int .i64 0) (I [])from rfl,←zk6]
   congr 1
   apply yS
   intro t
   by_cases ht:t<k
   ·rw[uR _ _ _ ht,jV,if_pos ht]
    simp[prs,Kg]
   ·rw[zI (by rw[zT];omega),zI (by rw[qh];omega)]
  rintro⟨es,i⟩ ⟨i0,i1,hI⟩ hfx ag hag
  simp only at i0 i1 hI
  conv=>cbv
  simp only[zp hL,sQ,]
  obtain⟨n,hn⟩:∃n:Nat,n=i.toNat:=⟨i.toNat,rfl⟩
  rw[←hn]at hI
  refine⟨fun h=>?_,fun h=>?_⟩
  ·rw[zo (n:=i+1) (by omega) (by omega)]
   refine hlp (List V×Int×Int) _ _ _ [0,3,4,5,6,11,12] (fun x=>[(0,none,.val (.slc false 2 (.int .i64 0) a0)),(3,none,.val (.slc true 30 (.slc true 2 (.int .i64 0) []) x.1)),(4,none,.val (.int .i64 i)),(5,none,.val (.int .i64 x.2.1)),(6,none,.val (.int .i64 x.2.2)),(11,none,.val (.int .i64 K)),(12,none,.val (.int .i64 i))])
    (fun x=>i+1≤x.2.2∧x.2.2≤k∧x.2.1=(kx (mul xs) n (x.2.2.toNat-(n+1)):Nat)∧x.2.1≤mul xs n∧x.1=II true (qD (fun t=>Kg (prs (mul xs) (if t<x.2.2.toNat then n+1 else n) t)) k)) (fun x=>(k-x.2.2).toNat) ((es,0,i+1)) (by subst hL;rfl) ?_ ?_
   ·refine⟨by simp,by simp only;omega,?_,?_,?_⟩
    ·simp only;rw[show(i+1).toNat-(n+1)=0 by omega];rfl
    ·simp only;omega
    ·simp only
     rw[hI]
     congr 1
     refine jY fun t _=>?_
     split
     ·rw[zAH (by omega)]
     ·rfl
   rintro⟨es2,sm,j⟩ ⟨j0,j1,hS,hM,hI2⟩ hfx2 ag2 hag2
   simp only at j0 j1 hS hM hI2
   have hMn:=h64 n
   have hMj:=h64 j.toNat
   have hl2:es2.length=k:=by rw[hI2,yk,qh]
   have gn:=ga i.toNat (by omega)
   rw[←hn]at gn
   have ge:es2.getD j.toNat (.slc true 2 (.int .i64 0) [])=.slc true 2 (.int .i64 0) (I (Kg (prs (mul xs) n j.toNat)))∨¬j.toNat<k:=by
    by_cases hj:j.toNat<k
    ·left
     rw[hI2,qB,Zy _ _ _ _ hj,if_neg (by omega)]
    ·exact .inr hj
   conv=>cbv
   simp only[zp hL,sQ,al,hl2,←hn,gn]
   refine⟨fun hj=>?_,fun hj=>?_⟩
   ·have gj:=ga j.toNat (by omega)
    have ge:=ge.resolve_right (by omega)
    have hs1:kx (mul xs) n (j.toNat-n)=kx (mul xs) n (j.toNat-(n+1))+mul xs j.toNat:=by
     rw[show j.toNat-n=(j.toNat-(n+1))+1 by omega,kx,show n+1+(j.toNat-(n+1))=j.toNat by omega]
    simp only[zp hL,sQ,gj,ge,yj,hl2]
    rw[zo (n:=sm+mul xs j.toNat) (by omega) (by omega),zo (n:=j+1) (by omega) (by omega),zo (n:=i+1) (by omega) (by omega)]
    refine⟨by omega,by omega,by omega,by omega,fun hlt=>?_,fun hge=>?_⟩
    ·refine hag (_,i+1) ⟨by simp only;omega,by simp only;omega,?_⟩ (by simp only;omega)
     simp only
     rw[show(i+1).toNat=n+1 by omega,hI2]
     congr 1
     refine jY fun t _=>?_
     split
     ·rfl
     ·rename_i htj
      rw[zfW (by omega),if_neg (ztb hg (j:=j.toNat) (by omega) (by omega) (by omega)),yw]
    ·have hpl:=zCo (mul xs) n j.toNat
     refine⟨by omega,by omega,by omega,by omega,qL _,by rw[Kg,yh];simp only[zi,zr];omega,yR _,by omega,by omega,by omega,?_,?_⟩
     ·rw[zd,uP (by omega)]
      exact .inr ⟨.slc true 2 (.int .i64 0) [],rfl,rfl,rfl⟩
     ·refine hag2 (_,_,j+1) ⟨by simp only;omega,by simp only;omega,?_,by simp only;omega,?_⟩ (by simp only;omega)
      ·simp only
       rw[show(j+1).toNat-(n+1)=j.toNat-n by omega,hs1,hS,zc4]
      ·simp only
       have e:I (Kg (prs (mul xs) n j.toNat))++[V.int .i64 i]=I (Kg (prs (mul xs) (n+1) j.toNat)):=by
        rw[zfW (by omega),if_pos (by omega),Kg,Kg,List.map_append,show i=(n:Int) by omega,←qr]
        rfl
       rw[e,List.set_set,hI2,zk5,zAe _ _ (by omega)]
       congr 1
       refine jY fun t _=>?_
       by_cases htj:t=j.toNat
       ·rw[if_pos htj,if_pos (by omega),htj]
       ·rw[if_neg htj]
        by_cases htl:t<j.toNat
        ·rw[if_pos htl,if_pos (by omega)]
        ·rw[if_neg htl,if_neg (by omega)]
   ·rw[zo (n:=i+1) (by omega) (by omega)]
    refine hag (_,i+1) ⟨by simp only;omega,by simp only;omega,?_⟩ (by simp only;omega)
    simp only
    rw[show(i+1).toNat=n+1 by omega,hI2]
    congr 1
    refine jY fun t ht=>?_
    rw[if_pos (by omega)]
  ·rw[hr,e1,hI,show n=k by omega]
   congr 2
   refine jY fun t ht=>?_
   rw[prs,prs,show min k t=min t t by omega]
 ·cases h
def zic(xss:List (List Int))(j:Nat):Int:=if 1<(xss.getD (j+1) []).length then(j:Int)+1-(xss.getD (j+1) []).getD 0 0 else 0
def zpc(xss:List (List Int)):List Int:=qD (zic xss) (xss.length-1)
def zyv(f:List V→List V)(q:List V→Prop):zN:=fun
 |[.slc false 30 (.slc false 2 (.int .i64 0) []) a0]=>some ([q a0],.slc true 2 (.int .i64 0) (f a0))
 |_=>none
def zkJ(es:List V):List V:=I (zpc (kw es))
def zot(es:List V):Prop:=∃xss,es=II false xss∧1≤xss.length∧xss.length≤1000000∧∀j,j<xss.length→0≤(xss.getD j []).getD 0 0∧(xss.getD j []).getD 0 0≤1000000
theorem zr6:yT Tryz.prog 62 (zyv zkJ zot):=by
 intro args ps r h hp
 unfold zyv at h
 split at h
 ·rename_i a0
  simp only[za,zb]at h
  obtain⟨rfl,rfl⟩:=h
  obtain⟨xss,hx,n1,n2,hb⟩:zot a0:=(zl.1 hp).1
  have al:a0.length=xss.length:=by rw[hx,yk]
  have e1:zkJ a0=I (zpc xss):=by rw[zkJ,hx,zO]
  have ga:∀i,a0.getD i (.slc false 2 (.int .i64 0) [])=.slc false 2 (.int .i64 0) (I (xss.getD i [])):=fun i=>by rw[hx,qB]
  refine zD (T:=tab) (B:=[]) (Bi:=[]) [0,2,3,4,5] Tryz.func62 rfl rfl (by kernel_rfl) (zg rfl) zP zQ (by exact zy) (by exact zu) (by kernel_rfl) ?_
  intro L lp rr hL hr hf hlp
  conv=>cbv
  refine hlp (List V×Int) _ _ _ [0,3,4] (fun x=>[(0,none,.val (.slc false 30 (.slc false 2 (.int .i64 0) []) a0)),(3,none,.val (.slc true 2 (.int .i64 0) x.1)),(4,none,.val (.int .i64 x.2))])
   (fun x=>1≤x.2∧x.2≤xss.length∧x.1=I (qD (zic xss) (x.2-1).toNat)) (fun x=>(xss.length-x.2).toNat) (([],1)) (by subst hL;rfl) ?_ ?_
  ·exact⟨by simp,by simp only;omega,rfl⟩
  rintro⟨es,i⟩ ⟨i0,i1,hI⟩ hfx ag hag
  simp only at i0 i1 hI
  have hel:es.length=(i-1).toNat:=by rw[hI,zj,qh]
  conv=>cbv
  obtain⟨E,hE⟩:∃E,E=xss.getD i.toNat []:=⟨_,rfl⟩
  simp only[zp hL,sQ,al,ga,←hE,zpY]
  have hco:zic xss (i-1).toNat=if 1<E.length then i-E.getD 0 0 else 0:=by
   rw[zic,show(i-1).toNat+1=i.toNat by omega,←hE,show((i-1).toNat:Int)+1=i by omega]
  have fin:∀z,i<xss.length→z=zic xss (i-1).toNat→ag (ZW [0,3,4] [(0,none,.val (.slc false 30 (.slc false 2 (.int .i64 0) []) a0)),(3,none,.val (.slc true 2 (.int .i64 0) (es++[V.int .i64 z]))),(4,none,.val (.int .i64 (i+1)))]):=by
   intro z h hz
   refine hag (_,i+1) ⟨by simp only;omega,by simp only;omega,?_⟩ (by simp only;omega)
   simp only
   rw[show(i+1-1).toNat=(i-1).toNat+1 by omega,Jj,hI,←qr,hz]
   rfl
  refine⟨fun h=>?_,fun h=>?_⟩
  ·have hbb:=hb i.toNat (by omega)
   rw[←hE]at hbb
   rw[zo (n:=i+1) (by omega) (by omega)]
   have hes:=hel
   refine⟨by omega,h,fun h2=>?_,fun h2=>?_⟩
   ·rw[zo (n:=i-E.getD 0 0) (by omega) (by omega)]
    refine⟨by omega,h,by omega,by omega,qL _,by simp only[zi,zr];omega,yR _,?_⟩
    exact fin _ h (by rw[hco,if_pos (by omega)])
   ·refine⟨qL _,by simp only[zi,zr];omega,yR _,?_⟩
    exact fin _ h (by rw[hco,if_neg (by omega)])
  ·rw[hr,e1,hI,zpc,show(i-1).toNat=xss.length-1 by omega]
 ·cases h
def ua(xs:List Int)(k:Nat):List Int:=qD (fun j=>cd (mul xs) (j+1) (j+1)) (k-1)
theorem zrD(l:List Nat)(i:Nat):(Kg l).getD i 0=(l.getD i 0:Nat):=by
 rw[Kg,zd,zd,zH]
 cases l[i]? <;>rfl
theorem zyr{xs:List Int}(h:Br xs)(k:Nat):zpc (zfb (kC xs k))=ua xs k:=by
 rw[KJ,zpc,ua,qh]
 refine jY fun j hj=>?_
 rw[zic,Zy _ _ _ _ (by omega),zC3 (zae h).1 (by omega) (by omega),zrD,Kg,yh,zc4]
 rfl
theorem zDJ{M:Nat→Nat}{i j:Nat}:∀a∈prs M i j,a<j:=by
 intro a ha
 simp only[prs,List.mem_filter,kn]at ha
 omega
theorem zvG(xs:List Int){k:Nat}(h1:1≤k)(h2:k≤1000000):zot (II false (zfb (kC xs k))):=by
 refine⟨_,rfl,?_,?_,?_⟩
 ·rw[KJ,qh];exact h1
 ·rw[KJ,qh];exact h2
 ·intro j hj
  rw[KJ,qh]at hj
  rw[KJ,Zy _ _ _ _ hj,zrD]
  cases hh:prs (mul xs) j j with
  |nil=>simp
  |cons a l=>
   have:=zDJ a (by rw[hh];simp:a∈prs (mul xs) j j)
   simp
   omega
def cdP(xs:List Int)(i:Nat)(k:Nat):List Int:=qD (fun t=>cd (mul xs) i (t+1)) (k-1)
def zcf(es:List V)(k:Int):List V:=I (ua (qb es) k.toNat)
theorem zpH:yT Tryz.prog 86 (zgp zcf Yp):=by
 intro args ps r h hp
 unfold zgp at h
 split at h
 ·rename_i a0 a1
  simp only[za,zb]at h
  obtain⟨rfl,rfl⟩:=h
  obtain⟨hq,k1,k2⟩:Yp a0 a1:=(zl.1 hp).1
  have hqb:=hq
  obtain⟨xs,hxs,hb⟩:=hq
  have g1:V.frzs a0=a0:=by rw[hxs,zG]
  obtain⟨k,hk⟩:∃k:Nat,k=a1.toNat:=⟨_,rfl⟩
  obtain⟨ms,hms⟩:∃ms,ms=I (kC xs k):=⟨_,rfl⟩
  have e1:kK a0 a1=ms:=by rw[kK,hxs,zq,hms,hk]
  have e2:zcf a0 a1=I (ua xs k):=by rw[zcf,hxs,zq,hk]
  have ml:ms.length=k:=by rw[hms,zj,Zn]
  have gm:∀i,i<k→ms.getD i (.int .i64 0)=.int .i64 (mul xs i):=fun i hi=>by rw[hms,zR,zjd,Zy _ _ _ _ hi]
  obtain⟨hg,_⟩:=zae hb
  have h64:=zkj hb
  generalize uy:kK=Jg
  generalize ju:Yp=ZI
  refine zD (T:=tab) (B:=[(83,zgp Jg ZI)]) (Bi:=[]) [0,1,2,4,5,6,7,8,9] Tryz.func86 rfl rfl (by kernel_rfl) (zg rfl) zP zQ (by subst uy ju;exact(zm zed zy)) (by subst uy ju;exact zu) (by kernel_rfl) ?_
  intro L lp rr hL hr hf hlp
  conv=>cbv
  have hF:Jg a0 a1=ms:=by rw[←uy,e1]
  simp only[zp hL,sQ,hF,g1]
  have w0:IntKind.wrap .i64 (a1-1)=a1-1:=zo (by omega) (by omega)
  rw[w0]
  refine⟨by omega,by omega,by omega,by rw[←ju];exact⟨hqb,k1,k2⟩,?_⟩
  refine hlp (List V×Int) _ _ _ [1,5,6,7] (fun x=>[(1,none,.val (.int .i64 a1)),(5,none,.val (.slc true 2 (.int .i64 0) x.1)),(6,none,.val (.slc true 2 (.int .i64 0) ms)),(7,none,.val (.int .i64 x.2))])
   (fun x=>0≤x.2∧x.2≤k∧x.1=I (cdP xs x.2.toNat k)) (fun x=>(k-x.2).toNat) ((_,0)) (by subst hL;rfl) ?_ ?_
  ·refine⟨by simp,by simp only;omega,?_⟩
   simp only
   rw[show(a1-1).toNat=k-1 by omega]
   apply yS
   intro t
   by_cases ht:t<k-1
   ·rw[jV,if_pos ht,I,zH,cdP,uR _ _ _ ht]
    simp[cd,prs]
   ·rw[zI (by rw[zT];omega),zI (by rw[zj,cdP,qh];omega)]
  rintro⟨es,i⟩ ⟨i0,i1,hI⟩ hfx ag hag
  simp only at i0 i1 hI
  conv=>cbv
  simp only[zp hL,sQ,]
  obtain⟨n,hn⟩:∃n:Nat,n=i.toNat:=⟨i.toNat,rfl⟩
  rw[←hn]at hI
  refine⟨fun h=>?_,fun h=>?_⟩
  ·rw[zo (n:=i+1) (by omega) (by omega)]
   refine hlp (List V×Int×Int) _ _ _ [1,5,6,7,8,9] (fun x=>[(1,none,.val (.int .i64 a1)),(5,none,.val (.slc true 2 (.int .i64 0) x.1)),(6,none,.val (.slc true 2 (.int .i64 0) ms)),(7,none,.val (.int .i64 i)),(8,none,.val (.int .i64 x.2.1)),(9,none,.val (.int .i64 x.2.2))])
    (fun x=>i+1≤x.2.2∧x.2.2≤k∧x.2.1=(kx (mul xs) n (x.2.2.toNat-(n+1)):Nat)∧x.2.1≤mul xs n∧x.1=I (qD (fun t=>cd (mul xs) (if t+1<x.2.2.toNat then n+1 else n) (t+1)) (k-1))) (fun x=>(k-x.2.2).toNat) ((es,0,i+1)) (by subst hL;rfl) ?_ ?_
   ·refine⟨by simp,by simp only;omega,?_,?_,?_⟩
    ·simp only;rw[show(i+1).toNat-(n+1)=0 by omega];rfl
    ·simp only;omega
    ·simp only
     rw[hI,cdP]
     congr 1
     refine jY fun t _=>?_
     split
     ·rw[zqi (by omega)]
     ·rfl
   rintro⟨es2,sm,j⟩ ⟨j0,j1,hS,hM,hI2⟩ hfx2 ag2 hag2
   simp only at j0 j1 hS hM hI2
   have hMn:=h64 n
   have hMj:=h64 j.toNat
   have hl2:es2.length=k-1:=by rw[hI2,zj,qh]
   have gn:=gm i.toNat (by omega)
   rw[←hn]at gn
   have ge:∀t,es2.getD t (.int .i64 0)=.int .i64 ((qb es2).getD t 0):=fun t=>by rw[hI2,zR,zq]
   conv=>cbv
   simp only[zp hL,sQ,ml,hl2,←hn,gn]
   refine⟨fun hj=>?_,fun hj=>?_⟩
   ·have gj:=gm j.toNat (by omega)
    have hs1:kx (mul xs) n (j.toNat-n)=kx (mul xs) n (j.toNat-(n+1))+mul xs j.toNat:=by
     rw[show j.toNat-n=(j.toNat-(n+1))+1 by omega,kx,show n+1+(j.toNat-(n+1))=j.toNat by omega]
    simp only[zp hL,sQ,gj,ge]
    rw[zo (n:=sm+mul xs j.toNat) (by omega) (by omega),zo (n:=j+1) (by omega) (by omega),zo (n:=i+1) (by omega) (by omega),zo (n:=j-1) (by omega) (by omega),zo (n:=j-i) (by omega) (by omega)]
    have nxt:sm+mul xs j.toNat=(kx (mul xs) n ((j+1).toNat-(n+1)):Nat):=by
     rw[show(j+1).toNat-(n+1)=j.toNat-n by omega,hs1,hS,zc4]
    refine⟨by omega,by omega,by omega,by omega,by omega,by omega,fun hlt=>?_,fun hge=>⟨fun h3=>?_,fun h3=>?_⟩⟩
    ·refine hag (_,i+1) ⟨by simp only;omega,by simp only;omega,?_⟩ (by simp only;omega)
     simp only
     rw[show(i+1).toNat=n+1 by omega,hI2,cdP]
     congr 1
     refine jY fun t _=>?_
     split
     ·rfl
     ·rename_i htj
      rw[zqi]
      rintro⟨h5,h6⟩
      exact ztb hg (j:=j.toNat) (j':=t+1) (by omega) (by omega) (by omega) h6
    ·refine⟨by omega,by omega,by omega,?_⟩
     refine hag2 (_,_,j+1) ⟨by simp only;omega,by simp only;omega,nxt,by simp only;omega,?_⟩ (by simp only;omega)
     simp only
     have hc:=zC2 hg (i:=n) (j:=j.toNat) (by omega) (by omega)
     rw[hI2,KY,zCb]
     congr 1
     refine jY fun t _=>?_
     by_cases htj:t=(j-1).toNat
     ·rw[if_pos htj,if_pos (by omega),show t+1=j.toNat by omega,hc]
      omega
     ·rw[if_neg htj]
      by_cases htl:t+1<j.toNat
      ·rw[if_pos htl,if_pos (by omega)]
      ·rw[if_neg htl,if_neg (by omega)]
    ·refine hag2 (_,_,j+1) ⟨by simp only;omega,by simp only;omega,nxt,by simp only;omega,?_⟩ (by simp only;omega)
     simp only
     rw[hI2]
     congr 1
     refine jY fun t _=>?_
     by_cases htl:t+1<j.toNat
     ·rw[if_pos htl,if_pos (by omega)]
     ·rw[if_neg htl]
      by_cases htl2:t+1<(j+1).toNat
      ·rw[if_pos htl2,zqi (by omega)]
      ·rw[if_neg htl2]
   ·rw[zo (n:=i+1) (by omega) (by omega)]
    refine hag (_,i+1) ⟨by simp only;omega,by simp only;omega,?_⟩ (by simp only;omega)
    simp only
    rw[show(i+1).toNat=n+1 by omega,hI2,cdP]
    congr 1
    refine jY fun t ht=>?_
    rw[if_pos (by omega)]
  ·rw[hr,e2,hI,show n=k by omega,ua,cdP]
   congr 2
   refine jY fun t ht=>?_
   rw[cd,cd,show min k (t+1-1)=min (t+1) (t+1-1) by omega]
 ·cases h
end Go.Ax
namespace Go.Ax
open Go.Proofs
def tri(m:Int):Int:=(m*(m-1)).tdiv 2
def uD:List Int→Int
 |[]=>0
 |m::l=>tri m+uD l
theorem zd4:∀a b:List Int,uD (a++b)=uD a+uD b
 |[],b=>by simp[uD]
 |x::a,b=>by simp only[List.cons_append,uD,zd4 a b];omega
theorem znt(m:Int):∀n:Nat,uD (List.replicate n m)=n*tri m
 |0=>by simp[uD]
 |n+1=>by
  simp only[yE,uD,znt m n,zc4,Int.add_mul]
  omega
theorem zsG{m:Int}(h1:1≤m)(h2:m≤64):0≤m*(m-1)∧m*(m-1)≤4032∧0≤tri m∧tri m≤2016:=by
 have k1:0≤m*(m-1):=Int.mul_nonneg (by omega) (by omega)
 have k2:m*(m-1)≤64*63:=Int.mul_le_mul h2 (by omega) (by omega) (by omega)
 refine⟨k1,by omega,?_,?_⟩
 ·rw[tri,Int.tdiv_eq_ediv_of_nonneg k1];omega
 ·rw[tri,Int.tdiv_eq_ediv_of_nonneg k1];omega
def Low(l:List Int):Prop:=∀m∈l,1≤m∧m≤64
theorem zlP:∀l:List Int,Low l→0≤uD l∧uD l≤2016*l.length
 |[],_=>by simp[uD]
 |m::l,h=>by
  have h1:=zsG (h m (by simp)).1 (h m (by simp)).2
  have h2:=zlP l (fun x hx=>h x (by simp[hx]))
  simp only[uD,zi]
  omega
theorem Low.take{l:List Int}(h:Low l)(n:Nat):Low (l.take n):=fun m hm=>h m (List.mem_of_mem_take hm)
theorem zzF(l:List Int)(i:Nat)(h:i<l.length):uD (l.take (i+1))=uD (l.take i)+tri (l.getD i 0):=by
 rw[zF h,zd4,zd,ze h]
 simp[uD]
theorem Low.at{l:List Int}(h:Low l){i:Nat}(hi:i<l.length):1≤l.getD i 0∧l.getD i 0≤64:=by
 rw[zd,ze hi]
 exact h _ (ya hi)
theorem zCd{xs:List Int}(h:Br xs):Low (JW xs):=by
 intro m hm
 obtain⟨i,hi,rfl⟩:=qk.1 hm
 have h1:=zv4 xs i
 rw[ziD,zd,ze hi,Option.getD_some]at h1
 rw[h1]
 have h2:=zkj h i
 have h3:=(zae h).1.pos i
 omega
def zqn(f:List V→Int)(q:List V→Prop):zN:=fun
 |[.slc false 2 (.int .i64 0) a0]=>some ([q a0],.int .i64 (f a0))
 |_=>none
def zkH(a:List V):Int:=uD (qb a)
def zxR(a:List V):Prop:=∃l,a=I l∧l.length≤200000∧Low l
theorem zpN:yT Tryz.prog 107 (zqn zkH zxR):=by
 intro args ps r h hp
 unfold zqn at h
 split at h
 ·rename_i a0
  simp only[za,zb]at h
  obtain⟨rfl,rfl⟩:=h
  obtain⟨xs,hxs,hl,hlow⟩:zxR a0:=(zl.1 hp).1
  have hxl:a0.length=xs.length:=by rw[hxs,zj]
  have hf0:zkH a0=uD xs:=by rw[zkH,hxs,zq]
  have gx:∀i,a0.getD i (.int .i64 0)=.int .i64 (xs.getD i 0):=fun i=>by rw[hxs,zR]
  obtain⟨n,hn⟩:∃n:Int,n=xs.length:=⟨_,rfl⟩
  refine zD (T:=tab) (B:=[]) (Bi:=[]) [0,2,3,5,6,7,8] Tryz.func107 rfl rfl (by kernel_rfl) (zg rfl) zP zQ (by exact zy) (by exact zu) (by kernel_rfl) ?_
  intro L lp rr hL hr hf hlp
  conv=>cbv
  refine hlp (Int×Int) _ _ _ [3,6,7,8] (fun x=>[(3,none,.val (.int .i64 x.1)),(6,none,.val (.slc false 2 (.int .i64 0) a0)),(7,none,.val (.int .i64 n)),(8,none,.val (.int .i64 x.2))])
   (fun x=>0≤x.2∧x.2≤n∧x.1=uD (xs.take x.2.toNat)) (fun x=>(n-x.2).toNat) ((0,0)) (by subst hL;rw[hn,←hxl];rfl) ?_ ?_
  ·exact⟨by simp,by simp only;omega,rfl⟩
  rintro⟨s,i⟩ ⟨i0,i1,hI⟩ hfx ag hag
  simp only at i0 i1 hI
  conv=>cbv
  simp only[zp hL,sQ,hxl,gx]
  refine⟨fun h2=>⟨i0,by omega,by omega,?_⟩,fun h2=>?_⟩
  ·have hil:i.toNat<xs.length:=by omega
   obtain⟨m,hm⟩:∃m,m=xs.getD i.toNat 0:=⟨_,rfl⟩
   have hmb:=hlow.at hil
   rw[←hm]at hmb
   have ht:=zsG hmb.1 hmb.2
   have hd:=zlP _ (hlow.take i.toNat)
   have hdl:(xs.take i.toNat).length=i.toNat:=by rw[zL];omega
   rw[hdl,←hI]at hd
   have e3:uD (xs.take (i.toNat+1))=s+tri m:=by rw[zzF _ _ hil,←hI,hm]
   rw[←hm,zo (n:=m-1) (by omega) (by omega),zo (n:=m*(m-1)) (by omega) (by omega)]
   rw[show(m*(m-1)).tdiv 2=tri m from rfl,zo (n:=tri m) (by omega) (by omega),zo (n:=s+tri m) (by omega) (by omega),zo (n:=i+1) (by omega) (by omega)]
   refine hag (s+tri m,i+1) ⟨by simp only;omega,by simp only;omega,?_⟩ (by simp only;omega)
   simp only[zU i0]
   exact e3.symm
  ·rw[hr,hf0,hI,zB (by omega)]
 ·cases h
theorem zvZ:∀(n a b:Nat),b≤n→∀p∈stp a b,1≤p.2∧p.2≤b
 |n,a,b,hn,p,hp=>by
  by_cases hb:0<b
  ·rw[zlm hb]at hp
   rcases List.mem_cons.1 hp with rfl|hp
   ·exact⟨hb,zt _⟩
   ·have h1:=YJ a hb
    cases n with
    |zero=>omega
    |succ n=>
     have:=zvZ n b (a%b) (by omega) p hp
     omega
  ·rw[show b=0 by omega,zfI]at hp
   simp at hp
theorem zyW{xs:List Int}(h:Br xs):∀s∈Kd xs,1≤s.getD 1 0∧s.getD 1 0≤64:=by
 intro s hs
 simp only[Kd,zbG,List.mem_flatMap,kn]at hs
 obtain⟨i,hi,hs⟩:=hs
 simp only[JC,jO]at hs
 obtain⟨p,hp,rfl⟩:=hs
 have h1:=zvZ _ _ _ (zt _) p hp
 have h2:=h.dhi i (by omega)
 simp
 omega
theorem zh4(S:List (List Int))(i:Nat):(qN (S.take i)).length≤(qN S).length:=by
 conv=>rhs;rw[←qK i S]
 rw[qN,qN,jQ,zk]
 omega
theorem zbw(xs:List Int):qN (Kd xs)=kL xs:=zfj xs _
theorem zBg(xs:List Int):uD (JW xs)=uD (kL xs):=by
 rw[JW]
 split
 ·rename_i h
  rw[kL,h]
  simp[zcv,uD,tri]
 ·rfl
theorem zsQ{xs:List Int}(h:Br xs):(kL xs).length≤200000:=by
 have h1:=h.len
 have h2:=h.pos
 have:=zfL h (xs.length-1) (by omega)
 rw[kL];omega
theorem zAr{xs:List Int}(h:Br xs):Low (kL xs):=by
 intro m hm
 obtain⟨i,hi,rfl⟩:=qk.1 hm
 have h1:=ziD xs i
 rw[zd,ze hi,Option.getD_some]at h1
 rw[h1]
 have h2:=zkj h i
 have h3:=(zae h).1.pos i
 omega
def zo1(a:List V):Int:=uD (kL (qb a))
def zlT(f:List V→Int)(q:List V→Prop):zN:=fun
 |[.agg [.slc false 2 (.int .i64 0) a0]]=>some ([q a0],.int .i64 (f a0))
 |_=>none
theorem zoe:yT Tryz.prog 109 (zlT zo1 ZR):=by
 intro args ps r h hp
 unfold zlT at h
 split at h
 ·rename_i a0
  simp only[za,zb]at h
  obtain⟨rfl,rfl⟩:=h
  have hq:ZR a0:=(zl.1 hp).1
  obtain⟨xs,hxs,hb⟩:=id hq
  have g1:V.frzs a0=a0:=by rw[hxs,zG]
  have hf0:zo1 a0=uD (kL xs):=by rw[zo1,hxs,zq]
  obtain⟨S,hS⟩:∃S,S=Kd xs:=⟨_,rfl⟩
  obtain⟨vs,hvs⟩:∃vs,vs=II true S:=⟨_,rfl⟩
  have e1:KA a0=vs:=by rw[KA,hxs,zq,hvs,hS]
  have hsl:S.length≤4096:=by
   have:=zeg hb (xs.length-1) (by have:=hb.pos;omega)
   have:=hb.len
   rw[hS,Kd];omega
  have vl:vs.length=S.length:=by rw[hvs,yk]
  have gs:∀k,vs.getD k (.slc true 2 (.int .i64 0) [])=.slc true 2 (.int .i64 0) (I (S.getD k [])):=fun k=>by rw[hvs,qB]
  have hS0:∀i,i<S.length→(S.getD i []).length=2∧0≤(S.getD i []).getD 0 0∧1≤(S.getD i []).getD 1 0∧(S.getD i []).getD 1 0≤64:=fun i hi=>by
   have hm:=zag hi
   rw[hS]at hm ⊢
   have h1:=zj4 _ _ hm
   have h2:=zyW hb _ hm
   exact⟨h1.1,h1.2.1,h2⟩
  have hlow:∀i,Low (qN (S.take i)):=fun i m hm=>by
   refine zAr hb m ?_
   rw[←zbw,←hS,←qK i S,qN,jQ]
   exact List.mem_append.2 (.inl hm)
  have hlen:∀i,(qN (S.take i)).length≤200000:=fun i=>by
   have h1:=zh4 S i
   have h2:(qN S).length≤200000:=by rw[hS,zbw];exact zsQ hb
   omega
  generalize Qm:KA=zaE
  generalize jP:ZR=Yo
  refine zD (T:=tab) (B:=[(96,zkX zaE Yo)]) (Bi:=[]) [0,1,2,3,4,5] Tryz.func109 rfl rfl (by kernel_rfl) (zg rfl) zP zQ (by subst Qm jP;exact(zm zdd zy)) (by subst Qm jP;exact zu) (by kernel_rfl) ?_
  intro L lp rr hL hr hf hlp
  conv=>cbv
  have F1:zaE a0=vs:=by rw[←Qm,e1]
  simp only[zp hL,sQ,g1,F1]
  refine⟨by rw[←jP];exact hq,?_⟩
  refine hlp (Int×Int) _ _ _ [3,4,5] (fun x=>[(3,none,.val (.slc true 30 (.slc true 2 (.int .i64 0) []) vs)),(4,none,.val (.int .i64 x.1)),(5,none,.val (.int .i64 x.2))])
   (fun x=>0≤x.2∧x.2≤S.length∧x.1=uD (qN (S.take x.2.toNat))) (fun x=>(S.length-x.2).toNat) ((0,0)) (by subst hL;rfl) ?_ ?_
  ·exact⟨by simp,by simp,rfl⟩
  rintro⟨s,i⟩ ⟨i0,i1,hI⟩ hfx ag hag
  simp only at i0 i1 hI
  conv=>cbv
  simp only[zp hL,sQ,vl,gs]
  refine⟨fun h2=>?_,fun h2=>?_⟩
  ·have hil:i.toNat<S.length:=by omega
   obtain⟨r,hR⟩:∃r,r=S.getD i.toNat []:=⟨_,rfl⟩
   have hr0:=hS0 _ hil
   rw[←hR]at hr0 ⊢
   have hfl:=zfi S i.toNat hil
   rw[←hR]at hfl
   obtain⟨q,hqq⟩:∃q,q=r.getD 0 0:=⟨_,rfl⟩
   obtain⟨m,hm⟩:∃m,m=r.getD 1 0:=⟨_,rfl⟩
   rw[←hqq,←hm]at hr0 hfl
   have ht:=zsG hr0.2.2.1 hr0.2.2.2
   have hd:=zlP _ (hlow i.toNat)
   have hl1:=hlen i.toNat
   have hd2:=zlP _ (hlow (i.toNat+1))
   have hl2:=hlen (i.toNat+1)
   rw[hfl,zd4,znt,←hI,show((q.toNat:Nat):Int)=q by omega]at hd2
   rw[hfl]at hl2
   rw[←hI]at hd
   rw[zk,zT]at hl2 hd2
   have hp0:0≤q*tri m:=Int.mul_nonneg (by omega) (by omega)
   have hrl:=hr0.1
   rw[←hqq,←hm,zo (n:=m-1) (by omega) (by omega),zo (n:=m*(m-1)) (by omega) (by omega),show(m*(m-1)).tdiv 2=tri m from rfl,
    zo (n:=tri m) (by omega) (by omega),zo (n:=q*tri m) (by omega) (by omega),zo (n:=s+q*tri m) (by omega) (by omega),zo (n:=i+1) (by omega) (by omega)]
   (repeat' first|(exact yR _)|(exact jZ rfl)|(exact qL _)|(apply And.intro)|(intro _))<;>(try first|exact True.intro|omega|rfl|(simp only[zi,zr,zj];omega))
   refine hag (s+q*tri m,i+1) ⟨by simp only;omega,by simp only;omega,?_⟩ (by simp only;omega)
   simp only[zU i0]
   rw[hfl,zd4,znt,←hI,show((q.toNat:Nat):Int)=q by omega]
  ·rw[hr,hf0,hI,zB (by omega),hS,zbw]
 ·cases h
theorem zED{a b:Nat}(ha:0<a)(hb:0<b):1≤(ex a b).length:=by
 rw[uN hb,zk,zT]
 by_cases h:a/b=0
 ·have hab:a<b:=(Nat.div_eq_zero_iff.1 h).resolve_left (by omega)
  rw[Nat.mod_eq_of_lt hab,uN ha,zk,zT]
  have:1≤b/a:=Nat.div_pos (by omega) ha
  omega
 ·have:1≤a/b:=Nat.one_le_iff_ne_zero.2 h
  omega
theorem zCh{xs:List Int}(h:Br xs)(h1:xs.length≠1):1≤(kL xs).length:=by
 have hp:=h.pos
 obtain⟨n,hn⟩:∃n,xs.length-1=n+1:=⟨xs.length-2,by omega⟩
 rw[kL,hn,zgR,zk]
 have k1:=zko h (i:=n) (by omega)
 have k2:=h.dpos n (by omega)
 have:=zED (a:=(KU xs n).toNat) (b:=((dv xs).getD n 0).toNat) (by omega) (by omega)
 rw[zhw,exI,yh]
 omega
theorem zxy{xs:List Int}(h:Br xs):((JW xs).length:Int)=max ((kL xs).length:Int) 1:=by
 rw[JW]
 split
 ·rename_i h1
  rw[kL,h1]
  simp only[zcv,List.range_zero,Qd,jA,zr,zi]
  omega
 ·rename_i h1
  have:=zCh h h1
  omega
def zlJ(a:List V):Int:=(JW (qb a)).length
theorem zqa{S:List (List Int)}{i:Nat}(hi:i<S.length)(h0:0≤(S.getD i []).getD 0 0):((qN (S.take (i+1))).length:Int)=(qN (S.take i)).length+(S.getD i []).getD 0 0:=by
 rw[zfi S i hi,zk,zT]
 omega
theorem zof:yT Tryz.prog 58 (zlT zlJ ZR):=by
 intro args ps r h hp
 unfold zlT at h
 split at h
 ·rename_i a0
  simp only[za,zb]at h
  obtain⟨rfl,rfl⟩:=h
  have hq:ZR a0:=(zl.1 hp).1
  obtain⟨xs,hxs,hb⟩:=id hq
  have g1:V.frzs a0=a0:=by rw[hxs,zG]
  have hf0:zlJ a0=(JW xs).length:=by rw[zlJ,hxs,zq]
  obtain⟨S,hS⟩:∃S,S=Kd xs:=⟨_,rfl⟩
  obtain⟨vs,hvs⟩:∃vs,vs=II true S:=⟨_,rfl⟩
  have e1:KA a0=vs:=by rw[KA,hxs,zq,hvs,hS]
  have hsl:S.length≤4096:=by
   have:=zeg hb (xs.length-1) (by have:=hb.pos;omega)
   have:=hb.len
   rw[hS,Kd];omega
  have vl:vs.length=S.length:=by rw[hvs,yk]
  have gs:∀k,vs.getD k (.slc true 2 (.int .i64 0) [])=.slc true 2 (.int .i64 0) (I (S.getD k [])):=fun k=>by rw[hvs,qB]
  have hS0:∀i,i<S.length→(S.getD i []).length=2∧0≤(S.getD i []).getD 0 0:=fun i hi=>by
   have hm:=zag hi
   rw[hS]at hm ⊢
   have h1:=zj4 _ _ hm
   exact⟨h1.1,h1.2.1⟩
  have hlen:∀i,(qN (S.take i)).length≤200000:=fun i=>by
   have h1:=zh4 S i
   have h2:(qN S).length≤200000:=by rw[hS,zbw];exact zsQ hb
   omega
  generalize Qm:KA=zaE
  generalize jP:ZR=Yo
  refine zD (T:=tab) (B:=[(96,zkX zaE Yo)]) (Bi:=[]) [0,1,2,3,4,5] Tryz.func58 rfl rfl (by kernel_rfl) (zg rfl) zP zQ (by subst Qm jP;exact(zm zdd zy)) (by subst Qm jP;exact zu) (by kernel_rfl) ?_
  intro L lp rr hL hr hf hlp
  conv=>cbv
  have F1:zaE a0=vs:=by rw[←Qm,e1]
  simp only[zp hL,sQ,g1,F1]
  refine⟨by rw[←jP];exact hq,?_⟩
  refine hlp (Int×Int) _ _ _ [3,4,5] (fun x=>[(3,none,.val (.slc true 30 (.slc true 2 (.int .i64 0) []) vs)),(4,none,.val (.int .i64 x.1)),(5,none,.val (.int .i64 x.2))])
   (fun x=>0≤x.2∧x.2≤S.length∧x.1=(qN (S.take x.2.toNat)).length) (fun x=>(S.length-x.2).toNat) ((0,0)) (by subst hL;rfl) ?_ ?_
  ·exact⟨by simp,by simp,rfl⟩
  rintro⟨s,i⟩ ⟨i0,i1,hI⟩ hfx ag hag
  simp only at i0 i1 hI
  conv=>cbv
  simp only[zp hL,sQ,vl,gs]
  refine⟨fun h2=>?_,fun h2=>?_⟩
  ·have hil:i.toNat<S.length:=by omega
   have hst:=zqa hil (hS0 _ hil).2
   obtain⟨r,hR⟩:∃r,r=S.getD i.toNat []:=⟨_,rfl⟩
   have hr0:=hS0 _ hil
   rw[←hR]at hr0 hst ⊢
   have hl1:=hlen i.toNat
   have hl2:=hlen (i.toNat+1)
   have hrl:=hr0.1
   rw[zo (n:=s+r.getD 0 0) (by omega) (by omega),zo (n:=i+1) (by omega) (by omega)]
   (repeat' first|(exact yR _)|(exact jZ rfl)|(exact qL _)|(apply And.intro)|(intro _))<;>(try first|exact True.intro|omega|rfl|(simp only[zi,zr,zj];omega))
   refine hag (s+r.getD 0 0,i+1) ⟨by simp only;omega,by simp only;omega,?_⟩ (by simp only;omega)
   simp only[zU i0]
   omega
  ·rw[hr,hf0,hI,zB (by omega),hS,zbw,zxy hb]
 ·cases h
end Go.Ax
namespace Go.Ax
open Go.Proofs
section
variable {xs:List Int}
end
end Go.Ax
