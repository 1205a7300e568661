import Derived.Test.YtnhfpgcicpfohaaGreatDoorAxP4p1
import Derived.Test.YtnhfpgcicpfohaaGreatDoorProg
import Derived.KernelRfl
import Derived.IntWalk
import Derived.Test.YtnhfpgcicpfohaaGreatDoorRows
set_option linter.all false
set_option maxRecDepth 100000
set_option maxHeartbeats 1000000
open Bool renaming and_eq_false_iff→ky,and_eq_true→zg,not_eq_true'→yG
open Int renaming eq_ofNat_of_zero_le→Qq,le_of_lt→zak,natCast_nonneg→jG,tmod_lt_of_pos→kD,toNat_natCast→zV
open List renaming all_cons→jU,all_eq_true→zZ,append_assoc→zS,drop_eq_nil_of_le→jF,ext_getElem?→yF,getD_cons_succ→qn,getD_cons_zero→yL,getD_eq_getElem?_getD→zd,getElem?_append_right→yp,getElem?_eq_getElem→ze,getElem?_eq_none→zG,getElem?_map→zJ,getElem?_range→ZM,getElem_mem→ye,map_congr_left→qU,map_map→kK,replicate_succ→yx,take_of_length_le→zu,take_succ_eq_append_getElem→zC
open Nat renaming add_sub_cancel→yQ,gcd_comm→uN,le_of_ble_eq_true→zh,le_refl→zn,lt_irrefl→zbp,mod_lt→kY,sub_self→kw
open Option.some renaming injEq→za
open Prod.mk renaming injEq→zb
/-
 The table of types,lists of numbers,arithmetic without overflow.
-/
namespace Go.Ax
open Go.Proofs
def tab:jX:=[(2,⟨.int .i64,1,.int .i64 0⟩),(3,⟨.int .i64,1,.int .i64 0⟩),(4,⟨.bool,1,.bool false⟩),(5,⟨.int .u8,1,.int .u8 0⟩),(9,⟨.str,1,.str ⟨#[]⟩⟩),(22,⟨.slc 5,1,.slc true 5 (.int .u8 0) []⟩),(24,⟨.slc 46,1,.slc true 46 (.agg [.slc true 2 (.int .i64 0) []]) []⟩),(25,⟨.slc 44,1,.slc true 44 (.slc true 2 (.int .i64 0) []) []⟩),(27,⟨.agg [(0,24),(1,25)],2,.agg [.slc true 46 (.agg [.slc true 2 (.int .i64 0) []]) [],.slc true 44 (.slc true 2 (.int .i64 0) []) []]⟩),(42,⟨.slc 9,1,.slc true 9 (.str ⟨#[]⟩) []⟩),(44,⟨.slc 2,1,.slc true 2 (.int .i64 0) []⟩),(46,⟨.agg [(0,44)],1,.agg [.slc true 2 (.int .i64 0) []]⟩),(59,⟨.int .u64,1,.int .u64 0⟩),(61,⟨.agg [(0,22),(1,3),(2,59)],3,.agg [.slc true 5 (.int .u8 0) [],.int .i64 0,.int .u64 0]⟩),(77,⟨.agg [(0,44),(1,44),(2,44)],3,.agg [.slc true 2 (.int .i64 0) [],.slc true 2 (.int .i64 0) [],.slc true 2 (.int .i64 0) []]⟩),(85,⟨.int .u64,1,.int .u64 0⟩),(143,⟨.int .u32,1,.int .u32 0⟩)]
theorem mixed: Tryz.prog.follows .mixedOrders=true:=by kernel_rfl
theorem yd:TabOk Tryz.prog tab:=⟨by kernel_rfl,by kernel_rfl,by kernel_rfl⟩
def I(xs:List Int):List V:=xs.map (.int .i64)
def yV(es:List V):List Int:=es.map V.toI
def IsI(es:List V):Prop:=∃l,es=I l
@[simp] theorem zB(xs:List Int):yV (I xs)=xs:=by
  induction xs with
  |nil=>rfl
  |cons x l ih=>simp only[I,yV,List.map_cons,V.toI,List.cons.injEq,true_and]at ih ⊢;exact ih
@[simp] theorem zm(xs:List Int):(I xs).length=xs.length:=by simp[I]
@[simp] theorem zT(xs:List Int)(i:Nat):(I xs).getD i (.int .i64 0)=.int .i64 (xs.getD i 0):=by
  simp only[I,zd,zJ]
  cases xs[i]? <;>rfl
@[simp] theorem Jz(xs:List Int)(i:Nat)(y:Int):(I xs).set i (.int .i64 y)=I (xs.set i y):=by simp[I,List.map_set]
@[simp] theorem jS(xs ys:List Int):I xs++I ys=I (xs++ys):=by simp[I]
@[simp] theorem I_cons(x:Int)(xs:List Int):V.int .i64 x::I xs=I (x::xs):=by simp[I]
@[simp] theorem zkr(xs:List Int)(n:Nat):(I xs).take n=I (xs.take n):=by simp[I]
@[simp] theorem zDb(xs:List Int)(n:Nat):(I xs).drop n=I (xs.drop n):=by simp[I]
@[simp] theorem zdH(n:Nat)(x:Int):List.replicate n (V.int .i64 x)=I (List.replicate n x):=by simp[I]
@[simp] theorem zN(xs:List Int):V.frzs (I xs)=I xs:=by
  rw[V.frzs_eq]
  simp[I,V.frz]
@[simp] theorem zhT(xs:List Int):V.noFzs (I xs)=true:=by
  rw[V.noFzs_eq]
  simp[I,V.noFz]
@[simp] theorem zfM(xs:List Int):V.owneds (I xs)=false:=by
  rw[V.owneds_eq]
  simp[I,V.owned]
@[simp] theorem I_nil:I []=[]:=rfl
theorem zhS(xs:List Int):∀x∈I xs,x.solid=true:=by
 intro x hx
 simp only[I,List.mem_map]at hx
 obtain⟨n,_,rfl⟩:=hx
 rfl
@[simp] theorem KP(o:Bool)(n:Int):vw ui tab o 20 2 (.int .i64 n)=some (.int .i64 n):=rfl
@[simp] theorem ok_int'(o:Bool)(n:Int):vw ui tab o 20 3 (.int .i64 n)=some (.int .i64 n):=rfl
@[simp] theorem uz(k:IntKind)(n:Int):ui.toI (.int k n)=n:=rfl
theorem zl{n:Int}(h1: -9223372036854775808≤n)(h2:n≤9223372036854775807):IntKind.wrap .i64 n=n:=IntWalk.i64_in n ⟨h1,h2⟩
theorem YH{α:Type}{xs:List α}{i:Nat}(d:α)(h:i<xs.length):xs.drop i=xs.getD i d::xs.drop (i+1):=by
 rw[List.drop_eq_getElem_cons h,zd,ze h]
 rfl
theorem yj{i:Int}(h:0≤i):(i+1).toNat=i.toNat+1:=by omega
theorem ztP{xs:List Int}{i:Nat}{p:Int→Bool}(h:i<xs.length):(xs.drop i).all p=(p (xs.getD i 0)&&(xs.drop (i+1)).all p):=by
 rw[YH 0 h,jU]
theorem zr{L:Alg}{T:jX}(h:L=yn T):L.v=ui
 ∧(∀(k:IntKind) (n:Int),L.wrap k n=(k.wrap n))
 ∧(∀(a:Int) (b:Int),L.add a b=(a+b))
 ∧(∀(a:Int) (b:Int),L.sub a b=(a-b))
 ∧(∀(a:Int) (b:Int),L.mul a b=(a*b))
 ∧(∀(a:Int) (b:Int),L.quo a b=(a.tdiv b))
 ∧(∀(a:Int) (b:Int),L.rem a b=(a.tmod b))
 ∧(∀(k:IntKind) (a:Int) (b:Int),L.band k a b=(za7 k a b))
 ∧(∀(k:IntKind) (a:Int) (b:Int),L.shr k a b=(zaW k a b))
 ∧(∀(a:Int) (b:Int),L.imin a b=(min a b))
 ∧(∀(a:Int) (b:Int),L.imax a b=(max a b))
 ∧(∀(a:Int) (b:Int),L.eqI a b=(a==b))
 ∧(∀(a:Int) (b:Int),L.leI a b=(decide (a≤b)))
 ∧(∀(a:Int) (b:Int),L.ltI a b=(decide (a<b)))
 ∧(∀(a:Bool) (b:Bool),L.eqB a b=(a==b))
 ∧(∀(a:Bool),L.not a=(!a))
 ∧(∀(a:Bool) (b:Bool),L.and a b=(a&&b))
 ∧(∀(c:Bool) (a:Bool) (b:Bool),L.pick c a b=(bif c then a else b))
 ∧(∀(a:ByteArray) (b:ByteArray),L.eqS a b=(a.toList==b.toList))
 ∧(∀(a:ByteArray) (b:ByteArray),L.ltS a b=(Op.bytesLess a.toList b.toList))
 ∧(∀(a:ByteArray) (b:ByteArray),L.appS a b=(a++b))
 ∧(∀(a:ByteArray),L.lenS a=((a.size:Int)))
 ∧(∀(s:ByteArray) (n:Int),L.getS s n=(((s.data.getD n.toNat 0).toNat:Int)))
 ∧(∀(s:ByteArray) (l:Int) (h:Int),L.extS s l h=(s.extract l.toNat h.toNat))
 ∧(∀(es:List V),L.len es=((es.length:Int)))
 ∧(∀(es:List V) (i:Nat) (d:V),L.get es i d=(es.getD i d))
 ∧(∀(es:List V) (i:Nat) (y:V),L.set es i y=(es.set i y))
 ∧(∀(a:List V) (b:List V),L.app a b=(a++b))
 ∧(∀(es:List V) (l:Int) (h:Int),L.sli es l h=((es.take h.toNat).drop l.toNat))
 ∧(∀(n:Int) (z:V),L.rep n z=(List.replicate n.toNat z))
 ∧(∀(x:List V),L.frz x=(V.frzs x))
 ∧(∀(x:Int),L.nat x=(Int.toNat x))
 ∧(∀(i:Nat) (es:List V),L.ltN i es=(i<es.length))
 ∧(∀(es:List V),L.nofz es=(V.noFzs es=true))
 ∧(∀(es:List V),L.nown es=(V.owneds es=false))
 ∧(∀(es:List V),L.emp es=(es=[]))
 ∧(∀(o:Bool) (t:TypeId) (y:V),L.ok o t y=(vw ui T o 20 t y=some y))
 ∧(∀(t:TypeId) (y:V),L.okS t y=OkS T t y)
 ∧(∀(es:List V),L.solid es=(∀x∈es,x.solid=true))
 ∧(∀(a:Int) (b:Int),L.le a b=(a≤b))
 ∧(∀(a:Int) (b:Int),L.lt a b=(a<b))
 ∧(∀(b:Int),L.ne0 b=(b≠0))
 ∧(∀(b:Bool) (p:Prop),L.imp b p=(b=true→p))
 ∧(∀(b:Bool),L.tt b=(b=true))
 ∧(∀(b:Bool) (p:Prop) (q:Prop),L.ifP b p q=((b=true→p)∧(b=false→q)))
 ∧(∀(es:List V),L.strB es=zdY es)
 ∧(∀(es:List V),L.byt es=zhN es):=by
 subst h
 exact⟨rfl,by intros;rfl,by intros;rfl,by intros;rfl,by intros;rfl,by intros;rfl,by intros;rfl,by intros;rfl,by intros;rfl,by intros;rfl,by intros;rfl,by intros;rfl,by intros;rfl,by intros;rfl,by intros;rfl,by intros;rfl,by intros;rfl,by intros;rfl,by intros;rfl,by intros;rfl,by intros;rfl,by intros;rfl,by intros;rfl,by intros;rfl,by intros;rfl,by intros;rfl,by intros;rfl,by intros;rfl,by intros;rfl,by intros;rfl,by intros;rfl,by intros;rfl,by intros;rfl,by intros;rfl,by intros;rfl,by intros;rfl,by intros;rfl,by intros;rfl,by intros;rfl,by intros;rfl,by intros;rfl,by intros;rfl,by intros;rfl,by intros;rfl,by intros;rfl,by intros;rfl,by intros;rfl⟩
end Go.Ax
namespace Go.Ax
open Go.Proofs
def jI(f0:Int→Int→Int→Bool):zQ:=fun
 |[.int .i64 a0,.int .i64 a1,.int .i64 a2]=>some ([],.bool (f0 a0 a1 a2))
 |_=>none
def yE(a b c:Int):Bool:=decide (b≤a)&&decide (a≤c)
theorem zcS:yZ Tryz.prog 56 (jI yE):=by
 intro args ps r h hp
 unfold jI at h
 split at h
 ·rename_i a0 a1 a2
  simp only[za,zb]at h
  obtain⟨rfl,rfl⟩:=h
  refine zeL (T:=tab) (B:=[]) [0,1,2,6] Tryz.func56 rfl rfl (by kernel_rfl) (zh rfl) mixed yd zH (by kernel_rfl) ?_
  intro L lp rr hL hr hf hlp
  conv=>cbv
  subst hL hr
  simp[yn,yE]
 ·cases h
def zej(f0:List V→Int→Int→Bool)(q:List V→Prop):zQ:=fun
 |[.slc false 2 (.int .i64 0) a0,.int .i64 a1,.int .i64 a2]=>some ([q a0],.bool (f0 a0 a1 a2))
 |_=>none
def jE(l:List Int)(a b:Int):Bool:=l.all fun x=>yE x a b
def zfn(es:List V)(a b:Int):Bool:=jE (yV es) a b
theorem zq1:yZ Tryz.prog 58 (zej zfn IsI):=by
 intro args ps r h hp
 unfold zej at h
 split at h
 ·rename_i a0 a1 a2
  simp only[za,zb]at h
  obtain⟨rfl,rfl⟩:=h
  obtain⟨xs,hxs⟩:IsI a0:=(zo.1 hp).1
  generalize HF0IMPLINRANGE:yE=F0IMPLINRANGE
  refine zeL (T:=tab) (B:=[(56,jI F0IMPLINRANGE)]) [0,1,2,6,8,9,10,11] Tryz.func58 rfl rfl (by kernel_rfl) (zh rfl) mixed yd (by subst HF0IMPLINRANGE;exact(zt zcS zH)) (by kernel_rfl) ?_
  intro L lp rr hL hr hf hlp
  obtain⟨n,hn⟩:∃n:Int,n=a0.length:=⟨_,rfl⟩
  have hlen:=hf.1.1
  conv=>cbv
  refine hlp (Int) _ _ _ [1,2,9,10,11] (fun i=>[(1,none,.val (.int .i64 a1)),(2,none,.val (.int .i64 a2)),(9,none,.val (.slc false 2 (.int .i64 0) a0)),(10,none,.val (.int .i64 n)),(11,none,.val (.int .i64 i))]) (fun i=>0≤i∧i≤n∧jE xs a1 a2=jE (xs.drop i.toNat) a1 a2) (fun i=>(n-i).toNat) 0 (by subst hL hn;rfl) ?_ ?_
  ·subst hxs hn
   simp
  ·rintro i ⟨i0,i1,i2⟩ hfx ag hag
   conv=>cbv
   subst hL hr HF0IMPLINRANGE hxs
   simp only[yn,zT,KP,uz,zm,imp_self,true_and,decide_eq_true_eq,decide_eq_false_iff_not,yG,Bool.not_eq_false',V.bool.injEq,zfn,zB]at hn hlen ⊢
   refine⟨fun h=>⟨i0,by omega,fun h1=>?_,fun h1=>?_⟩,fun h=>?_⟩
   ·rw[i2,jE,ztP (by omega),h1]
    rfl
   ·rw[zl (by omega) (by omega)]
    refine hag _ ⟨by omega,by omega,?_⟩ (by omega)
    rw[i2,jE,jE,ztP (by omega),yj i0,h1]
    rfl
   ·rw[i2,jF (by omega)]
    rfl
 ·cases h
def zCX(xs:List Int):Nat→Int→Int→Int×Int×Int
 |0,t,b=>(t,b,0)
 |k+1,t,b=>
  if 1000000000000<IntKind.wrap .i64 (IntKind.wrap .i64 (xs.getD k 0*t)-b)then(0,0,3)
  else zCX xs k (IntKind.wrap .i64 (IntKind.wrap .i64 (xs.getD k 0*t)-b)) t
def cf(xs:List Int):Int×Int×Int:=bif (bif (bif decide ((xs.length:Int)<1)then true else decide (30<(xs.length:Int)))then true else !jE xs 2 1000)then(0,0,1)else zCX xs xs.length 1 0
theorem JD:yZ Tryz.prog 43 (jI yE):=by
 intro args ps r h hp
 unfold jI at h
 split at h
 ·rename_i a0 a1 a2
  simp only[za,zb]at h
  obtain⟨rfl,rfl⟩:=h
  refine zeL (T:=tab) (B:=[]) [0,1,2,6] Tryz.func43 rfl rfl (by kernel_rfl) (zh rfl) mixed yd zH (by kernel_rfl) ?_
  intro L lp rr hL hr hf hlp
  cbv
  subst hL hr
  simp[yn,yE]
 ·cases h
def QN(f0:List V→List V)(q:List V→Prop):zQ:=fun
 |[.slc false 2 (.int .i64 0) a0]=>some ([q a0],.slc true 2 (.int .i64 0) (f0 a0))
 |_=>none
def same(es:List V):List V:=es
def uU(es:List V):Prop:=(∃l,es=I l)∧es.length≤2147483647
def JI(a b:List V):Bool:=decide (yV a=yV b)
def yes(_:List V):Bool:=true
end Go.Ax
namespace Go.Ax
open Go.Proofs
def zxh(f0:Int→Int):zQ:=fun
 |[.int .i64 a0]=>some ([],.int .i64 (f0 a0))
 |_=>none
def zcz(a:Int):Int:=bif decide (a<0)then IntKind.wrap .i64 (0-a)else a
theorem zwr:yZ Tryz.prog 110 (zxh zcz):=by
 intro args ps r h hp
 unfold zxh at h
 split at h
 ·rename_i a0
  simp only[za,zb]at h
  obtain⟨rfl,rfl⟩:=h
  refine zeL (T:=tab) (B:=[]) [0,2] Tryz.func110 rfl rfl (by kernel_rfl) (zh rfl) mixed yd zH (by kernel_rfl) ?_
  intro L lp rr hL hr hf hlp
  conv=>cbv
  simp only[zr hL,imp_self,true_and]
  subst hr
  refine⟨fun h=>?_,fun h=>?_⟩<;>simp only[zcz,h,cond_true,cond_false]
 ·cases h
def zdX(f0:Int→Int→Int)(q:Int→Int→Prop):zQ:=fun
 |[.int .i64 a0,.int .i64 a1]=>some ([q a0 a1],.int .i64 (f0 a0 a1))
 |_=>none
def ne0(_ b:Int):Prop:=b≠0
def zaD(a b:Int):Int:=if _h:0<b then zaD b (a.tmod b)else a
termination_by b.toNat
decreasing_by
 have:=kD a (by assumption)
 omega
def jc(a b:Int):Int:=zaD (zcz a) (zcz b)
def zhP(_ _:Int):Prop:=True
theorem KW{a b:Int}(h:0<b):zaD a b=zaD b (a.tmod b):=by rw[zaD,dif_pos h]
theorem JU{a b:Int}(h:¬0<b):zaD a b=a:=by rw[zaD,dif_neg h]
theorem zoK:yZ Tryz.prog 100 (zdX jc zhP):=by
 intro args ps r h hp
 unfold zdX at h
 split at h
 ·rename_i a0 a1
  simp only[za,zb]at h
  obtain⟨rfl,rfl⟩:=h
  generalize HA:zcz=A0
  refine zeL (T:=tab) (B:=[(110,zxh A0)]) [0,1,4] Tryz.func100 rfl rfl (by kernel_rfl) (zh rfl) mixed yd (by subst HA;exact zt zwr zH) (by kernel_rfl) ?_
  intro L lp rr hL hr hf hlp
  conv=>cbv
  refine hlp (Int×Int) _ _ _ [0,1] (fun x=>[(0,none,.val (.int .i64 x.1)),(1,none,.val (.int .i64 x.2))])
   (fun x=>jc a0 a1=zaD x.1 x.2) (fun x=>x.2.toNat) (A0 a0,A0 a1) (by subst hL;rfl) (by subst HA;rfl) ?_
  rintro⟨a,b⟩ hI hfx ag hag
  conv=>cbv
  simp only[zr hL,imp_self,true_and,decide_eq_true_eq,decide_eq_false_iff_not]
  simp only at hI
  refine⟨fun h=>⟨by omega,hag (b,a.tmod b) (by rw[hI,KW h]) ?_⟩,fun h=>?_⟩
  ·have:=kD a h
   simp only
   omega
  ·subst hr
   rw[hI,JU h]
 ·cases h
theorem zec:yZ Tryz.prog 67 (zdX jc zhP):=by
 intro args ps r h hp
 unfold zdX at h
 split at h
 ·rename_i a0 a1
  simp only[za,zb]at h
  obtain⟨rfl,rfl⟩:=h
  refine zeL (T:=tab) (B:=[]) [0,1,4,5] Tryz.func67 rfl rfl (by kernel_rfl) (zh rfl) mixed yd zH (by kernel_rfl) ?_
  intro L lp rr hL hr hf hlp
  conv=>cbv
  simp only[zr hL,imp_self,true_and,decide_eq_true_eq,decide_eq_false_iff_not]
  refine⟨fun h0=>⟨fun h1=>?_,fun h1=>?_⟩,fun h0=>⟨fun h1=>?_,fun h1=>?_⟩⟩
  ·refine hlp (Int×Int) _ _ _ [0,1] (fun x=>[(0,none,.val (.int .i64 x.1)),(1,none,.val (.int .i64 x.2))])
    (fun x=>jc a0 a1=zaD x.1 x.2) (fun x=>x.2.toNat) (IntKind.wrap .i64 (0-a0),IntKind.wrap .i64 (0-a1)) (by subst hL;rfl) (by simp[jc,zcz,h0,h1]) ?_
   rintro⟨a,b⟩ hI hfx ag hag
   conv=>cbv
   simp only[zr hL,imp_self,true_and,decide_eq_true_eq,decide_eq_false_iff_not]
   simp only at hI
   refine⟨fun h=>⟨by omega,hag (b,a.tmod b) (by rw[hI,KW h]) ?_⟩,fun h=>?_⟩
   ·have:=kD a h
    simp only
    omega
   ·subst hr
    rw[hI,JU h]
  ·refine hlp (Int×Int) _ _ _ [0,1] (fun x=>[(0,none,.val (.int .i64 x.1)),(1,none,.val (.int .i64 x.2))])
    (fun x=>jc a0 a1=zaD x.1 x.2) (fun x=>x.2.toNat) (IntKind.wrap .i64 (0-a0),a1) (by subst hL;rfl) (by simp[jc,zcz,h0,h1]) ?_
   rintro⟨a,b⟩ hI hfx ag hag
   conv=>cbv
   simp only[zr hL,imp_self,true_and,decide_eq_true_eq,decide_eq_false_iff_not]
   simp only at hI
   refine⟨fun h=>⟨by omega,hag (b,a.tmod b) (by rw[hI,KW h]) ?_⟩,fun h=>?_⟩
   ·have:=kD a h
    simp only
    omega
   ·subst hr
    rw[hI,JU h]
  ·refine hlp (Int×Int) _ _ _ [0,1] (fun x=>[(0,none,.val (.int .i64 x.1)),(1,none,.val (.int .i64 x.2))])
    (fun x=>jc a0 a1=zaD x.1 x.2) (fun x=>x.2.toNat) (a0,IntKind.wrap .i64 (0-a1)) (by subst hL;rfl) (by simp[jc,zcz,h0,h1]) ?_
   rintro⟨a,b⟩ hI hfx ag hag
   conv=>cbv
   simp only[zr hL,imp_self,true_and,decide_eq_true_eq,decide_eq_false_iff_not]
   simp only at hI
   refine⟨fun h=>⟨by omega,hag (b,a.tmod b) (by rw[hI,KW h]) ?_⟩,fun h=>?_⟩
   ·have:=kD a h
    simp only
    omega
   ·subst hr
    rw[hI,JU h]
  ·refine hlp (Int×Int) _ _ _ [0,1] (fun x=>[(0,none,.val (.int .i64 x.1)),(1,none,.val (.int .i64 x.2))])
    (fun x=>jc a0 a1=zaD x.1 x.2) (fun x=>x.2.toNat) (a0,a1) (by subst hL;rfl) (by simp[jc,zcz,h0,h1]) ?_
   rintro⟨a,b⟩ hI hfx ag hag
   conv=>cbv
   simp only[zr hL,imp_self,true_and,decide_eq_true_eq,decide_eq_false_iff_not]
   simp only at hI
   refine⟨fun h=>⟨by omega,hag (b,a.tmod b) (by rw[hI,KW h]) ?_⟩,fun h=>?_⟩
   ·have:=kD a h
    simp only
    omega
   ·subst hr
    rw[hI,JU h]
 ·cases h
end Go.Ax
namespace Go.Ax
open Go.Proofs
theorem zs9{xs:List Int}{i:Nat}(h:i+1<xs.length):xs.drop i=xs.getD i 0::xs.getD (i+1) 0::xs.drop (i+2):=by
 rw[YH 0 (by omega),YH 0 h]
theorem kn(n:Int):V.owneds [V.int .i64 n]=false:=rfl
theorem Yf{v:V}(h:v.solid=true):∀x∈[v],x.solid=true:=by
 intro x hx
 simp at hx
 subst hx
 exact h
theorem qJ(n:Int):∀x∈[V.int .i64 n],x.solid=true:=by
 intro x hx
 simp at hx
 subst hx
 rfl
def Zp(d:Int):List Int→List Int
 |[]=>[]
 |t::l=>jc d t::Zp (jc d t) l
def dv(xs:List Int):List Int:=Zp 0 xs
theorem zmH:∀(l:List Int) (d:Int),(Zp d l).length=l.length
 |[],_=>rfl
 |_::l,_=>by simp[Zp,zmH l]
def zrt(f0:List V→List V)(q:List V→Prop):zQ:=fun
 |[.slc false 2 (.int .i64 0) a0]=>some ([q a0],.slc true 2 (.int .i64 0) (f0 a0))
 |_=>none
def zru(f0:List V→List V)(q:List V→Prop):zQ:=fun
 |[.agg [.slc false 2 (.int .i64 0) a0]]=>some ([q a0],.slc true 2 (.int .i64 0) (f0 a0))
 |_=>none
def Jt(es:List V):List V:=I (dv (yV es))
theorem zgd:yZ Tryz.prog 83 (zrt Jt uU):=by
 intro args ps r h hp
 unfold zrt at h
 split at h
 ·rename_i a0
  simp only[za,zb]at h
  obtain⟨rfl,rfl⟩:=h
  obtain⟨⟨xs,hxs⟩,hlen⟩:uU a0:=(zo.1 hp).1
  have hxl:a0.length=xs.length:=by rw[hxs,zm]
  rw[hxl]at hlen
  obtain⟨m,hm⟩:∃m:Int,m=a0.length:=⟨_,rfl⟩
  generalize YD:jc=zd4
  generalize uW:zhP=zas
  refine zO (T:=tab) (B:=[(100,zdX zd4 zas)]) (Bi:=[]) [0,2,3,4,6,8,9,10] Tryz.func83 rfl rfl (by kernel_rfl) (zh rfl) mixed yd (by subst YD uW;exact(zt zoK zH)) (by subst YD uW;exact zE) (by kernel_rfl) ?_
  intro L lp rr hL hr hf hlp
  conv=>cbv
  refine hlp (List V×Int×Int) _ _ _ [3,4,8,9,10] (fun x=>[(3,none,.val (.slc true 2 (.int .i64 0) x.1)),(4,none,.val (.int .i64 x.2.1)),(8,none,.val (.slc false 2 (.int .i64 0) a0)),(9,none,.val (.int .i64 m)),(10,none,.val (.int .i64 x.2.2))])
   (fun x=>0≤x.2.2∧x.2.2≤xs.length∧∃pre:List Int,x.1=I pre∧pre.length=x.2.2.toNat∧dv xs=pre++Zp x.2.1 (xs.drop x.2.2.toNat)) (fun x=>(xs.length-x.2.2).toNat) ([],0,0) (by subst hL hm;rfl) ⟨by simp,by simp,[],rfl,rfl,by simp[dv]⟩ ?_
  rintro⟨es,d,i⟩ ⟨i0,i1,pre,h1,h2,h3⟩ hfx ag hag
  conv=>cbv
  have hm':m=xs.length:=by rw[hm,hxl]
  have hg:a0.getD i.toNat (.int .i64 0)=.int .i64 (xs.getD i.toNat 0):=by rw[hxs,zT]
  simp only at i0 i1 h1 h2 h3
  have hel:es.length=pre.length:=by rw[h1,zm]
  simp only[zr hL,hxl,hg,hel,KP,uz,imp_self,true_and,decide_eq_true_eq,decide_eq_false_iff_not]
  refine⟨fun h=>⟨i0,by omega,?_,rfl,by simp;omega,qJ _,?_⟩,fun h=>?_⟩
  ·subst uW;trivial
  ·rw[zl (n:=i+1) (by omega) (by omega)]
   subst YD
   refine hag (es++[.int .i64 (jc d (xs.getD i.toNat 0))],jc d (xs.getD i.toNat 0),i+1) ⟨by simp only;omega,by simp only;omega,pre++[jc d (xs.getD i.toNat 0)],by rw[h1];simp[I],by simp;omega,?_⟩ (by simp only;omega)
   simp only[yj i0]
   rw[h3,YH 0 (by omega),Zp]
   simp
  ·subst hr
   rw[jF (by omega)]at h3
   simp only[Zp,List.append_nil]at h3
   rw[Jt,hxs,zB,h3,h1]
 ·cases h
theorem zgq{t:Int}(h:0<t):jc 0 t=t:=by
 have e1:zcz 0=0:=rfl
 have e2:zcz t=t:=by
  have:decide (t<0)=false:=by simp;omega
  rw[zcz,this]
  rfl
 rw[jc,e1,e2,KW h,Int.zero_tmod,JU (by omega)]
def IsP(es:List V):Prop:=∃(t:Int) (l:List Int),es=I (t::l)∧0<t∧l.length<2147483647
theorem zdO:yZ Tryz.prog 98 (zru Jt IsP):=by
 intro args ps r h hp
 unfold zru at h
 split at h
 ·rename_i a0
  simp only[za,zb]at h
  obtain⟨rfl,rfl⟩:=h
  obtain⟨t0,l0,hxs,ht,hlen⟩:IsP a0:=(zo.1 hp).1
  obtain⟨xs,hx⟩:∃xs,xs=t0::l0:=⟨_,rfl⟩
  have hxs':a0=I xs:=by rw[hxs,hx]
  have hxl:a0.length=xs.length:=by rw[hxs',zm]
  have hxn:xs.length=l0.length+1:=by rw[hx];rfl
  have hx0:xs.getD 0 0=t0:=by rw[hx];rfl
  generalize YD:jc=zd4
  generalize uW:zhP=zas
  refine zO (T:=tab) (B:=[(67,zdX zd4 zas)]) (Bi:=[]) [0,1,2,3,4] Tryz.func98 rfl rfl (by kernel_rfl) (zh rfl) mixed yd (by subst YD uW;exact(zt zec zH)) (by subst YD uW;exact zE) (by kernel_rfl) ?_
  intro L lp rr hL hr hf hlp
  conv=>cbv
  have hg0:a0.getD (Int.toNat 0) (.int .i64 0)=.int .i64 (xs.getD 0 0):=by rw[hxs',zT];rfl
  simp only[zr hL,hxl,hg0,KP,uz,imp_self,true_and,decide_eq_true_eq,decide_eq_false_iff_not]
  refine⟨by omega,by omega,?_⟩
  refine hlp (List V×Int) _ _ _ [1,3,4] (fun x=>[(1,none,.val (.box 46 (.agg [.slc false 2 (.int .i64 0) a0]))),(3,none,.val (.slc true 2 (.int .i64 0) x.1)),(4,none,.val (.int .i64 x.2))])
   (fun x=>0<x.2∧x.2≤xs.length∧∃(pre:List Int) (d:Int),x.1=I pre∧pre.length=x.2.toNat∧pre.getD (x.2.toNat-1) 0=d∧dv xs=pre++Zp d (xs.drop x.2.toNat)) (fun x=>(xs.length-x.2).toNat) ([.int .i64 (xs.getD 0 0)],1) (by subst hL;rfl)
   ⟨by simp,by simp only;omega,[t0],t0,by rw[hx0];rfl,rfl,rfl,by rw[hx];simp[dv,Zp,zgq ht]⟩ ?_
  rintro⟨es,i⟩ ⟨i0,i1,pre,d,h1,h2,h4,h3⟩ hfx ag hag
  conv=>cbv
  have hg:a0.getD i.toNat (.int .i64 0)=.int .i64 (xs.getD i.toNat 0):=by rw[hxs',zT]
  simp only at i0 i1 h1 h2 h3 h4
  have hel:es.length=pre.length:=by rw[h1,zm]
  have ew:IntKind.wrap .i64 (i-1)=i-1:=zl (by omega) (by omega)
  have ge:es.getD (i-1).toNat (.int .i64 0)=.int .i64 d:=by rw[h1,zT,show(i-1).toNat=i.toNat-1 by omega,h4]
  simp only[zr hL,hxl,hg,hel,ew,ge,KP,uz,imp_self,true_and,decide_eq_true_eq,decide_eq_false_iff_not]
  refine⟨fun h=>⟨by omega,by omega,by omega,by omega,by omega,?_,rfl,by simp;omega,qJ _,?_⟩,fun h=>?_⟩
  ·subst uW;trivial
  ·rw[zl (n:=i+1) (by omega) (by omega)]
   subst YD
   refine hag (es++[.int .i64 (jc d (xs.getD i.toNat 0))],i+1) ⟨by simp only;omega,by simp only;omega,pre++[jc d (xs.getD i.toNat 0)],jc d (xs.getD i.toNat 0),by rw[h1];simp[I],by simp;omega,?_,?_⟩ (by simp only;omega)
   ·simp only[yj (zak i0),yQ]
    rw[zd,yp (by omega),show i.toNat-pre.length=0 by omega]
    rfl
   ·simp only[yj (zak i0)]
    rw[h3,YH 0 (by omega),Zp]
    simp
  ·subst hr
   rw[jF (by omega)]at h3
   simp only[Zp,List.append_nil]at h3
   rw[Jt,hxs',zB,h3,h1]
 ·cases h
def asc:List Int→Bool
 |a::b::l=>bif decide (b≤a)then false else asc (b::l)
 |_=>true
def zdc(f0:List V→Bool)(q:List V→Prop):zQ:=fun
 |[.slc false 2 (.int .i64 0) a0]=>some ([q a0],.bool (f0 a0))
 |_=>none
def zj3(es:List V):Bool:=asc (yV es)
theorem zoL:yZ Tryz.prog 57 (zdc zj3 IsI):=by
 intro args ps r h hp
 unfold zdc at h
 split at h
 ·rename_i a0
  simp only[za,zb]at h
  obtain⟨rfl,rfl⟩:=h
  obtain⟨xs,hxs⟩:IsI a0:=(zo.1 hp).1
  have hxl:a0.length=xs.length:=by rw[hxs,zm]
  refine zO (T:=tab) (B:=[]) (Bi:=[]) [0,2,3] Tryz.func57 rfl rfl (by kernel_rfl) (zh rfl) mixed yd (by exact zH) (by exact zE) (by kernel_rfl) ?_
  intro L lp rr hL hr hf hlp
  have hlen:=hf.1.1
  rw[hxl]at hlen
  have hrr:rr=.bool (asc xs):=by rw[hr,zj3,hxs,zB]
  conv=>cbv
  refine hlp (Int) _ _ _ [0,3] (fun x=>[(0,none,.val (.slc false 2 (.int .i64 0) a0)),(3,none,.val (.int .i64 x))])
   (fun x=>0<x∧asc xs=asc (xs.drop (x.toNat-1))) (fun x=>(xs.length-x).toNat) 1 (by subst hL;rfl) (by simp) ?_
  rintro i ⟨i0,h2⟩ hfx ag hag
  conv=>cbv
  have hg:a0.getD i.toNat (.int .i64 0)=.int .i64 (xs.getD i.toNat 0):=by rw[hxs,zT]
  have hg':a0.getD (i-1).toNat (.int .i64 0)=.int .i64 (xs.getD (i.toNat-1) 0):=by rw[hxs,zT,show(i-1).toNat=i.toNat-1 by omega]
  have key:i<xs.length→xs.drop (i.toNat-1)=xs.getD (i.toNat-1) 0::xs.getD i.toNat 0::xs.drop (i.toNat+1):=by
   intro h
   rw[zs9 (by omega)]
   rw[show i.toNat-1+1=i.toNat by omega,show i.toNat-1+2=i.toNat+1 by omega]
  by_cases hb:i<xs.length
  ·have ew:IntKind.wrap .i64 (i-1)=i-1:=zl (by omega) (by omega)
   simp only[zr hL,hxl,hg,ew,hg',KP,uz,imp_self,true_and,decide_eq_true_eq,decide_eq_false_iff_not]
   refine⟨fun h=>⟨by omega,by omega,by omega,by omega,fun h4=>?_,fun h4=>?_⟩,fun h=>absurd hb h⟩
   ·rw[hrr,h2,key h,asc,decide_eq_true h4]
    rfl
   ·rw[zl (n:=i+1) (by omega) (by omega)]
    refine hag (i+1) ⟨by omega,?_⟩ (by omega)
    have e1:xs.drop i.toNat=xs.getD i.toNat 0::xs.drop (i.toNat+1):=YH 0 (by omega)
    rw[h2,key h,asc,decide_eq_false h4,show(i+1).toNat-1=i.toNat by omega,e1]
    rfl
  ·have hz:asc (xs.drop (i.toNat-1))=true:=by
    have hl:(xs.drop (i.toNat-1)).length≤1:=by rw[List.length_drop];omega
    match xs.drop (i.toNat-1),hl with
    |[],_=>rfl
    |[_],_=>rfl
   simp only[zr hL,hxl,decide_eq_true_eq,decide_eq_false_iff_not]
   exact⟨fun h=>absurd h hb,fun _=>by rw[hrr,h2,hz]⟩
 ·cases h
theorem ziz:∀(n:Nat) (a b:Int),b.toNat≤n→0≤a→0≤b→zaD a b=(Nat.gcd a.toNat b.toNat:Int)
 |0,a,b,hn,ha,hb=>by
  obtain rfl:b=0:=by omega
  rw[JU (by omega)]
  simp
  omega
 |n+1,a,b,hn,ha,hb=>by
  by_cases h:0<b
  ·have h1:(a.tmod b)=((a.toNat%b.toNat:Nat):Int):=by
    obtain⟨x,rfl⟩:=Qq ha
    obtain⟨y,rfl⟩:=Qq hb
    rw[Int.tmod_eq_emod_of_nonneg (jG x)]
    simp
   have h2:a.toNat%b.toNat<b.toNat:=kY _ (by omega)
   rw[KW h,ziz n b (a.tmod b) (by rw[h1,zV];omega) hb (by rw[h1];exact jG _),h1]
   simp only[zV]
   rw[uN a.toNat b.toNat,Nat.gcd_rec b.toNat a.toNat,uN]
  ·obtain rfl:b=0:=by omega
   rw[JU (by omega)]
   simp
   omega
theorem zde{t:Int}(h:0<t):zcz t=t:=by
 have:decide (t<0)=false:=by simp;omega
 rw[zcz,this]
 rfl
theorem zvl{a b:Int}(ha:0<a)(hb:0<b):0<jc a b∧jc a b≤a∧jc a b≤b:=by
 rw[jc,zde ha,zde hb,ziz b.toNat a b (zn _) (by omega) (by omega)]
 have h1:=Nat.gcd_pos_of_pos_left b.toNat (show 0<a.toNat by omega)
 have h2:=Nat.le_of_dvd (show 0<a.toNat by omega) (Nat.gcd_dvd_left a.toNat b.toNat)
 have h3:=Nat.le_of_dvd (show 0<b.toNat by omega) (Nat.gcd_dvd_right a.toNat b.toNat)
 omega
def dec:List Int→Bool
 |a::b::l=>bif decide (a≤b)then false else dec (b::l)
 |[a]=>a==1
 |[]=>false
def zdb(es:List V):Bool:=dec (dv (yV es))
def zkL(es:List V):Prop:=uU es∧es≠[]
theorem zrX:yZ Tryz.prog 59 (zdc zdb zkL):=by
 intro args ps r h hp
 unfold zdc at h
 split at h
 ·rename_i a0
  simp only[za,zb]at h
  obtain⟨rfl,rfl⟩:=h
  obtain⟨⟨⟨xs,hxs⟩,hlen⟩,hne⟩:zkL a0:=(zo.1 hp).1
  have hxl:a0.length=xs.length:=by rw[hxs,zm]
  obtain⟨ds,hds⟩:∃ds,ds=dv xs:=⟨_,rfl⟩
  have hdl:ds.length=xs.length:=by rw[hds,dv,zmH]
  have hpos:0<xs.length:=by
   cases xs with
   |nil=>exact absurd hxs hne
   |cons x l=>simp
  have hf0:Jt (V.frzs a0)=I ds:=by rw[hxs,zN,Jt,zB,hds]
  have hq:uU (V.frzs a0):=by rw[hxs,zN];exact⟨⟨xs,rfl⟩,by rw[←hxs];exact hlen⟩
  have hrr0:zdb a0=dec ds:=by rw[zdb,hxs,zB,hds]
  rw[hxl]at hlen
  generalize ZS:Jt=Kx
  generalize qj:uU=km
  refine zO (T:=tab) (B:=[(83,zrt Kx km)]) (Bi:=[]) [0,2,3,4] Tryz.func59 rfl rfl (by kernel_rfl) (zh rfl) mixed yd (by subst ZS qj;exact(zt zgd zH)) (by subst ZS qj;exact zE) (by kernel_rfl) ?_
  intro L lp rr hL hr hf hlp
  conv=>cbv
  have hF:Kx (V.frzs a0)=I ds:=by rw[←ZS];exact hf0
  simp only[zr hL,hF]
  refine⟨by rw[←qj];exact hq,?_⟩
  obtain⟨es,hes⟩:∃es,es=I ds:=⟨_,rfl⟩
  have hel:es.length=ds.length:=by rw[hes,zm]
  refine hlp (Int) _ _ _ [3,4] (fun x=>[(3,none,.val (.slc true 2 (.int .i64 0) es)),(4,none,.val (.int .i64 x))])
   (fun x=>0<x∧x≤ds.length∧dec ds=dec (ds.drop (x.toNat-1))) (fun x=>(ds.length-x).toNat) 1 (by subst hL hes;rfl) ⟨by simp,by omega,by simp⟩ ?_
  rintro i ⟨i0,i1,h2⟩ hfx ag hag
  conv=>cbv
  have ew:IntKind.wrap .i64 (i-1)=i-1:=zl (by omega) (by omega)
  have ew2:IntKind.wrap .i64 ((ds.length:Int)-1)=(ds.length:Int)-1:=zl (by omega) (by omega)
  have hg:es.getD i.toNat (.int .i64 0)=.int .i64 (ds.getD i.toNat 0):=by rw[hes,zT]
  have hg':es.getD (i-1).toNat (.int .i64 0)=.int .i64 (ds.getD (i.toNat-1) 0):=by rw[hes,zT,show(i-1).toNat=i.toNat-1 by omega]
  have hg2:es.getD ((ds.length:Int)-1).toNat (.int .i64 0)=.int .i64 (ds.getD (ds.length-1) 0):=by rw[hes,zT,show((ds.length:Int)-1).toNat=ds.length-1 by omega]
  simp only[zr hL,hel,hg,hg',hg2,ew,ew2,KP,uz,imp_self,true_and,decide_eq_true_eq,decide_eq_false_iff_not]
  have hrr:rr=.bool (dec ds):=by rw[hr,hrr0]
  refine⟨fun h=>?_,fun h=>?_⟩
  ·have key:ds.drop (i.toNat-1)=ds.getD (i.toNat-1) 0::ds.getD i.toNat 0::ds.drop (i.toNat+1):=by
    rw[zs9 (by omega)]
    rw[show i.toNat-1+1=i.toNat by omega,show i.toNat-1+2=i.toNat+1 by omega]
   (repeat' first|(intro _)|(apply And.intro))<;>try omega
   ·rename_i h4
    rw[hrr,h2,key,dec,decide_eq_true h4]
    rfl
   ·rename_i h4
    rw[zl (n:=i+1) (by omega) (by omega)]
    refine hag (i+1) ⟨by omega,by omega,?_⟩ (by omega)
    have e1:ds.drop i.toNat=ds.getD i.toNat 0::ds.drop (i.toNat+1):=YH 0 (by omega)
    rw[h2,key,dec,decide_eq_false h4,show(i+1).toNat-1=i.toNat by omega,e1]
    rfl
  ·(repeat' first|(intro _)|(apply And.intro))<;>try omega
   have e1:ds.drop (i.toNat-1)=[ds.getD (ds.length-1) 0]:=by
    rw[show i.toNat-1=ds.length-1 by omega,YH 0 (by omega),jF (by omega)]
   rw[hrr,h2,e1]
   rfl
 ·cases h
end Go.Ax
namespace Go.Ax
open Go.Proofs
def qK(xs:List Int):Bool:=
 bif (bif (bif (bif decide (0<(xs.length:Int))then yE (xs.getD 0 0) 1 64 else false)then asc xs else false)then jE xs 1 2000 else false)then dec (dv xs)else false
def zfB(p e:Int):List Int→Bool
 |[]=>e==1
 |t::l=>bif !yE t (IntKind.wrap .i64 (p+1)) 2000 then false else bif jc e t==e then false else zfB t (jc e t) l
theorem zvG:∀(l:List Int) (p e:Int),1≤p→p≤2000→1≤e→zfB p e l=(asc (p::l)&&jE l 1 2000&&dec (e::Zp e l))
 |[],p,e,_,_,_=>by simp[zfB,asc,jE,Zp,dec]
 |t::l,p,e,h1,h2,h3=>by
  have ew:IntKind.wrap .i64 (p+1)=p+1:=zl (by omega) (by omega)
  simp only[zfB,ew]
  by_cases hr:p+1≤t∧t≤2000
  ·have e1:yE t (p+1) 2000=true:=by simp[yE,hr]
   have e2:asc (p::t::l)=asc (t::l):=by simp[asc];omega
   have e3:jE (t::l) 1 2000=jE l 1 2000:=by simp[jE,yE];omega
   obtain⟨g1,g2,_⟩:=zvl (a:=e) (b:=t) (by omega) (by omega)
   rw[e1,e2,e3]
   simp only[Bool.not_true,cond_false,Zp,dec]
   by_cases hg:jc e t=e
   ·simp[hg]
   ·have e4:decide (e≤jc e t)=false:=by simp;omega
    have e5:(jc e t==e)=false:=by simpa using hg
    rw[e4,e5]
    simp only[cond_false]
    exact zvG l t (jc e t) (by omega) (by omega) (by omega)
  ·have e1:yE t (p+1) 2000=false:=by
    simp only[yE,ky,decide_eq_false_iff_not]
    omega
   rw[e1]
   simp only[Bool.not_false,cond_true]
   by_cases hp:t≤p
   ·simp[asc,hp]
   ·have:jE (t::l) 1 2000=false:=by
     have:yE t 1 2000=false:=by
      simp only[yE,ky,decide_eq_false_iff_not]
      omega
     simp[jE,this]
    simp[this]
def zeB(xs:List Int):Bool:=bif (bif ((xs.length:Int)==0)then true else !yE (xs.getD 0 0) 1 64)then false else zfB (xs.getD 0 0) (xs.getD 0 0) (xs.drop 1)
theorem zsG(xs:List Int):zeB xs=qK xs:=by
 cases xs with
 |nil=>rfl
 |cons t l=>
  have e0:(((t::l).length:Int)==0)=false:=by
   rw[beq_eq_false_iff_ne]
   simp only[List.length_cons]
   omega
  have e1:decide (0<((t::l).length:Int))=true:=by
   rw[decide_eq_true_eq]
   simp only[List.length_cons]
   omega
  simp only[zeB,qK,e0,e1,cond_true,cond_false,yL,List.drop_succ_cons,List.drop_zero]
  cases hr:yE t 1 64 with
  |false=>simp
  |true=>
   simp only[yE,zg,decide_eq_true_eq]at hr
   rw[zvG l t t (by omega) (by omega) (by omega)]
   have e2:dv (t::l)=t::Zp t l:=by simp only[dv,Zp];rw[zgq (by omega)]
   have e3:jE (t::l) 1 2000=jE l 1 2000:=by simp[jE,yE];omega
   rw[e2,e3]
   cases asc (t::l)<;>cases jE l 1 2000<;>simp
theorem zC2{A B C D:Bool}(h:(bif (bif (bif D then A else false)then B else false)then C else false)=true):D=true:=by
 cases D<;>simp_all
def YP(f0:List V→Bool)(q:List V→Prop):zQ:=fun
 |[.agg [.slc false 2 (.int .i64 0) a0]]=>some ([q a0],.bool (f0 a0))
 |_=>none
def kP(es:List V):Bool:=qK (yV es)
theorem zge:yZ Tryz.prog 34 (YP kP uU):=by
 intro args ps r h hp
 unfold YP at h
 split at h
 ·rename_i a0
  simp only[za,zb]at h
  obtain⟨rfl,rfl⟩:=h
  obtain⟨⟨xs,hxs⟩,hlen⟩:uU a0:=(zo.1 hp).1
  have hxl:a0.length=xs.length:=by rw[hxs,zm]
  have hg:a0.getD (Int.toNat 0) (.int .i64 0)=.int .i64 (xs.getD 0 0):=by rw[hxs,zT];rfl
  have hrr0:kP a0=qK xs:=by rw[kP,hxs,zB]
  have q1:IsI (V.frzs a0):=by rw[hxs,zN];exact⟨xs,rfl⟩
  have q2:xs≠[]→zkL (V.frzs a0):=by
   intro h
   rw[hxs,zN]
   refine⟨⟨⟨xs,rfl⟩,by rw[←hxs];exact hlen⟩,?_⟩
   cases xs with
   |nil=>exact absurd rfl h
   |cons x l=>simp[I]
  have g1:zj3 (V.frzs a0)=asc xs:=by rw[hxs,zN,zj3,zB]
  have g2:zfn (V.frzs a0) 1 2000=jE xs 1 2000:=by rw[hxs,zN,zfn,zB]
  have g3:zdb (V.frzs a0)=dec (dv xs):=by rw[hxs,zN,zdb,zB]
  generalize yO:yE=jP
  generalize zm1:zj3=zAC
  generalize zxs:IsI=zA0
  generalize ziY:zfn=zxu
  generalize zi1:zdb=zxv
  generalize zkx:zkL=zy1
  refine zO (T:=tab) (B:=[(56,jI jP),(57,zdc zAC zA0),(58,zej zxu zA0),(59,zdc zxv zy1)]) (Bi:=[]) [0,1,2,3] Tryz.func34 rfl rfl (by kernel_rfl) (zh rfl) mixed yd (by subst yO zm1 zxs ziY zi1 zkx;exact(zt zcS (zt zoL (zt zq1 (zt zrX zH))))) (by subst yO zm1 zxs ziY zi1 zkx;exact zE) (by kernel_rfl) ?_
  intro L lp rr hL hr hf hlp
  conv=>cbv
  simp only[zr hL,hxl,hg,KP,uz,imp_self,true_and,and_true]
  subst yO zm1 zxs ziY zi1 zkx
  simp only[g1,g2,g3,q1,implies_true,true_and]
  have hne:decide (0<(xs.length:Int))=true→xs≠[]:=by
   rintro h rfl
   simp at h
  (repeat' first|(intro _)|(apply And.intro))<;>try (first|omega|assumption|trivial)
  ·rename_i h;simpa using h
  ·rename_i h;exact(q2 (hne (zC2 h))).1.2
  ·rename_i h h';exact(q2 (hne (zC2 h))).2 h'
  ·rw[hr,hrr0,qK]
 ·cases h
theorem KM:yZ Tryz.prog 42 (YP kP uU):=by
 intro args ps r h hp
 unfold YP at h
 split at h
 ·rename_i a0
  simp only[za,zb]at h
  obtain⟨rfl,rfl⟩:=h
  obtain⟨⟨xs,hxs⟩,hlen⟩:uU a0:=(zo.1 hp).1
  have hxl:a0.length=xs.length:=by rw[hxs,zm]
  have hg0:a0.getD (Int.toNat 0) (.int .i64 0)=.int .i64 (xs.getD 0 0):=by rw[hxs,zT];rfl
  have hrr0:kP a0=zeB xs:=by rw[kP,hxs,zB,zsG]
  rw[hxl]at hlen
  generalize yO:yE=jP
  generalize YD:jc=zd4
  generalize uW:zhP=zas
  refine zO (T:=tab) (B:=[(43,jI jP),(67,zdX zd4 zas)]) (Bi:=[]) [0,1,2,3,4,5,6] Tryz.func42 rfl rfl (by kernel_rfl) (zh rfl) mixed yd (by subst yO YD uW;exact(zt JD (zt zec zH))) (by subst yO YD uW;exact zE) (by kernel_rfl) ?_
  intro L lp rr hL hr hf hlp
  have hrr:rr=.bool (zeB xs):=by rw[hr,hrr0]
  conv=>cbv
  simp only[zr hL,hxl,hg0,KP,uz,imp_self,true_and,and_true]
  (repeat' first|(intro _)|(apply And.intro))<;>try (first|omega|assumption|trivial)
  ·rename_i h
   cases xs with
   |nil=>simp at h
   |cons x l=>simp
  ·rename_i h
   subst yO
   rw[hrr,zeB,h]
   rfl
  ·rename_i h
   cases xs with
   |nil=>simp at h
   |cons x l=>simp
  ·rename_i h
   have hpos:0<xs.length:=by
    cases xs with
    |nil=>simp at h
    |cons x l=>simp
   have hgo:zeB xs=zfB (xs.getD 0 0) (xs.getD 0 0) (xs.drop 1):=by
    subst yO
    rw[zeB,h]
    rfl
   refine hlp (Int×Int) _ _ _ [3,4,5] (fun x=>[(3,none,.val (.slc false 2 (.int .i64 0) a0)),(4,none,.val (.int .i64 x.1)),(5,none,.val (.int .i64 x.2))])
    (fun x=>0<x.2∧x.2≤xs.length∧zeB xs=zfB (xs.getD (x.2.toNat-1) 0) x.1 (xs.drop x.2.toNat)) (fun x=>(xs.length-x.2).toNat) (xs.getD 0 0,1) (by subst hL;simp only[zr rfl,hg0,uz];rfl) ⟨by simp,by simp only;omega,hgo⟩ ?_
   rintro⟨e,i⟩ ⟨i0,i1,h2⟩ hfx ag hag
   conv=>cbv
   simp only at i0 i1 h2
   have hg:a0.getD i.toNat (.int .i64 0)=.int .i64 (xs.getD i.toNat 0):=by rw[hxs,zT]
   have hg':a0.getD (i-1).toNat (.int .i64 0)=.int .i64 (xs.getD (i.toNat-1) 0):=by rw[hxs,zT,show(i-1).toNat=i.toNat-1 by omega]
   have ew:IntKind.wrap .i64 (i-1)=i-1:=zl (by omega) (by omega)
   simp only[zr hL,hxl,hg,hg',ew,KP,uz,imp_self,true_and,and_true,decide_eq_true_eq,decide_eq_false_iff_not]
   refine⟨fun hb=>?_,fun hb=>?_⟩
   ·have e1:xs.drop i.toNat=xs.getD i.toNat 0::xs.drop (i.toNat+1):=YH 0 (by omega)
    rw[e1,zfB]at h2
    (repeat' first|(intro _)|(apply And.intro))<;>try (first|omega|assumption|trivial)
    ·rename_i h4
     subst yO
     rw[hrr,h2,h4]
     rfl
    ·subst uW;trivial
    ·rename_i h4 h5
     subst yO YD
     rw[hrr,h2,h4,h5]
     rfl
    ·rename_i h4 h5
     subst yO YD
     rw[zl (n:=i+1) (by omega) (by omega)]
     refine hag (jc e (xs.getD i.toNat 0),i+1) ⟨by simp only;omega,by simp only;omega,?_⟩ (by simp only;omega)
     rw[h2,h4,h5]
     simp only[cond_false,yj (zak i0),yQ]
   ·have e1:xs.drop i.toNat=[]:=jF (by omega)
    rw[hrr,h2,e1]
    rfl
 ·cases h
def zxi(f0:List V→Int):zQ:=fun
 |[.agg [.slc false 2 (.int .i64 0) a0]]=>some ([],.int .i64 (f0 a0))
 |_=>none
def ziM(es:List V):Int:=IntKind.wrap .i64 ((es.length:Int)-1)
theorem zoH:yZ Tryz.prog 101 (zxi ziM):=by
 intro args ps r h hp
 unfold zxi at h
 split at h
 ·rename_i a0
  simp only[za,zb]at h
  obtain⟨rfl,rfl⟩:=h
  refine zO (T:=tab) (B:=[]) (Bi:=[]) [0,1,2] Tryz.func101 rfl rfl (by kernel_rfl) (zh rfl) mixed yd (by exact zH) (by exact zE) (by kernel_rfl) ?_
  intro L lp rr hL hr hf hlp
  conv=>cbv
  simp only[zr hL]
  exact hr.symm
 ·cases h
theorem IsP.isIs{es:List V}(h:IsP es):uU es:=by
 obtain⟨t,l,rfl,_,hl⟩:=h
 exact⟨⟨_,rfl⟩,by simp;omega⟩
theorem zs8:∀(l:List Int) (d:Int),0<d→jE l 1 2000=true→∀i,i<l.length→0<(Zp d l).getD i 0
 |[],_,_,_,i,h=>by simp at h
 |t::l,d,hd,hw,i,h=>by
  simp only[jE,jU,zg,yE,decide_eq_true_eq]at hw
  have hg:=(zvl hd (show 0<t by omega)).1
  cases i with
  |zero=>simpa [Zp]using hg
  |succ i=>
   have:=zs8 l (jc d t) hg (by simpa [jE,yE]using hw.2) i (by simpa using h)
   simpa [Zp]using this
theorem zqQ(a b:Bool):(bif a then b else false)=(a&&b):=by cases a<;>rfl
theorem znQ{xs:List Int}(h:qK xs=true):∃t l,xs=t::l∧1≤t∧t≤64∧jE xs 1 2000=true∧(∀i,i<xs.length→0<(dv xs).getD i 0):=by
 simp only[qK,zqQ,zg]at h
 obtain⟨⟨⟨⟨h1,h2⟩,h3⟩,h4⟩,h5⟩:=h
 cases xs with
 |nil=>simp at h1
 |cons t l=>
  simp only[yL,yE,zg,decide_eq_true_eq]at h2
  refine⟨t,l,rfl,h2.1,h2.2,h4,fun i hi=>?_⟩
  have e2:dv (t::l)=t::Zp t l:=by simp only[dv,Zp];rw[zgq (by omega)]
  rw[e2]
  cases i with
  |zero=>simp only[yL];omega
  |succ i=>
   have hw:jE l 1 2000=true:=by
    simp only[jE,jU,zg]at h4
    exact h4.2
   simpa using zs8 l t (by omega) hw i (by simpa using hi)
end Go.Ax
namespace Go.Ax
open Go.Proofs
def zxj(f0:List V→List V)(q:List V→Prop):zQ:=fun
 |[.agg [.slc false 2 (.int .i64 0) a0]]=>some ([q a0],.agg [.slc true 2 (.int .i64 0) (f0 a0)])
 |_=>none
end Go.Ax
namespace Go.Ax
open Go.Proofs
def II(o:Bool)(xss:List (List Int)):List V:=xss.map fun xs=>.slc o 2 (.int .i64 0) (I xs)
def Ka(es:List V):List (List Int):=es.map fun v=>yV v.toL
theorem qC(o:Bool)(xss:List (List Int)):Ka (II o xss)=xss:=by
 simp only[Ka,II,kK]
 conv=>rhs;rw[←List.map_id xss]
 apply qU
 intro xs _
 simp[V.toL]
theorem yz(o:Bool)(xss:List (List Int)):(II o xss).length=xss.length:=by simp[II]
theorem jf(o:Bool)(xss:List (List Int))(i:Nat):(II o xss).getD i (.slc o 2 (.int .i64 0) [])=.slc o 2 (.int .i64 0) (I (xss.getD i [])):=by
 simp only[II,zd,zJ]
 cases xss[i]? <;>rfl
theorem zd2(o:Bool)(xss:List (List Int))(i:Nat)(xs:List Int):(II o xss).set i (.slc o 2 (.int .i64 0) (I xs))=II o (xss.set i xs):=by simp[II,List.map_set]
theorem jg(o:Bool)(xss:List (List Int)):V.frzs (II o xss)=II false xss:=by
 rw[V.frzs_eq]
 simp only[II,kK]
 apply qU
 intro xs _
 simp[V.frz,zN]
theorem zAu(xss:List (List Int)):V.noFzs (II true xss)=true:=by
 rw[V.noFzs_eq]
 simp only[II,List.all_map,zZ]
 intro xs _
 simp[V.noFz]
theorem zeI(o:Bool)(e:TypeId)(d:V)(es:List V):ui.toL (.slc o e d es)=es:=rfl
def zEd(o:Bool)(es:List V):Prop:=∃xss,es=II o xss
theorem zkQ(o o':Bool)(xs:List Int):vw ui tab o 20 44 (.slc o' 2 (.int .i64 0) (I xs))=some (.slc o 2 (.int .i64 0) (I xs)):=by cases o<;>rfl
theorem zi7(xss:List (List Int))(i:Nat)(h:i<xss.length):xss.take (i+1)=xss.take i++[xss.getD i []]:=by
 rw[zC h,zd,ze h]
 rfl
end Go.Ax
namespace Go.Ax
open Go.Proofs
def bL:V→List V
 | .agg [.slc _ _ _ es]=>es
 |_=>[]
def BB(o:Bool)(xss:List (List Int)):List V:=xss.map fun xs=>.agg [.slc o 2 (.int .i64 0) (I xs)]
def zcO(es:List V):List (List Int):=es.map fun v=>yV (bL v)
theorem ka(o:Bool)(xss:List (List Int)):zcO (BB o xss)=xss:=by
 simp only[zcO,BB,kK]
 conv=>rhs;rw[←List.map_id xss]
 apply qU
 intro xs _
 simp[bL]
theorem YL(o:Bool)(xss:List (List Int)):(BB o xss).length=xss.length:=by simp[BB]
theorem zdw(o:Bool)(xss:List (List Int))(i:Nat):(BB o xss).getD i (.agg [.slc o 2 (.int .i64 0) []])=.agg [.slc o 2 (.int .i64 0) (I (xss.getD i []))]:=by
 simp only[BB,zd,zJ]
 cases xss[i]? <;>rfl
theorem jh(o:Bool)(xss:List (List Int)):V.frzs (BB o xss)=BB false xss:=by
 rw[V.frzs_eq]
 simp only[BB,kK]
 apply qU
 intro xs _
 simp[V.frz,V.frzs,zN]
theorem zc9(o:Bool)(e:TypeId)(d:V)(es:List V):ui.fld (.agg [.slc o e d es]) 0=.slc o e d es:=rfl
theorem zcP(o:Bool)(e:TypeId)(d:V)(es:List V):ui.toL (ui.fld (.agg [.slc o e d es]) 0)=es:=rfl
theorem zcV(o o':Bool)(xs:List Int):vw ui tab o 20 46 (.agg [.slc o' 2 (.int .i64 0) (I xs)])=some (.agg [.slc o 2 (.int .i64 0) (I xs)]):=by cases o<;>rfl
end Go.Ax
namespace Go.Proofs.YtnhfpgcicpfohaaGreatDoor
open Go.ChangeShapes Go.WideShapes Go.ChangeAt Go.RowKit Go.Ax
theorem zDZ:ownKnob Tryz.prog.godebug=none:=by kernel_rfl
theorem zBt:laidOutB Tryz.prog=true:=by kernel_rfl
def okK:TK→Bool
 | .oth=>false
 |_=>true
theorem zDv:∀t ti,qI tab t=some ti→ti.k≠.oth:=by
 have h:(tab.all fun x=>okK x.2.k)=true:=by kernel_rfl
 intro t ti ht hk
 have:=zZ.1 h _ (zl6 ht)
 rw[hk]at this
 cases this
end Go.Proofs.YtnhfpgcicpfohaaGreatDoor
namespace Go.Ax
open Go.Proofs Go.Proofs.YtnhfpgcicpfohaaGreatDoor
end Go.Ax
namespace Go.Ax
open Go.Proofs
theorem zeb:yZ Tryz.prog 82 (QN same uU):=by
 intro args ps r h hp
 unfold QN at h
 split at h
 ·rename_i a0
  simp only[za,zb]at h
  obtain⟨rfl,rfl⟩:=h
  obtain⟨⟨xs,hxs⟩,hlen⟩:uU a0:=(zo.1 hp).1
  have hxl:a0.length=xs.length:=by rw[hxs,zm]
  refine zO (T:=tab) (B:=[]) (Bi:=[]) [0,2] Tryz.func82 rfl rfl (by kernel_rfl) (zh rfl) mixed yd (by exact zH) (by exact zE) (by kernel_rfl) ?_
  intro L lp rr hL hr hf hlp
  conv=>cbv
  simp only[zr hL,hxl]
  rw[hr,same]
  exact⟨by rw[hxs,zfM],by simp;omega,by rw[hxs];exact zhS xs,rfl⟩
 ·cases h
theorem zqX:yZ Tryz.prog 54 (zxj same uU):=by
 intro args ps r h hp
 unfold zxj at h
 split at h
 ·rename_i a0
  simp only[za,zb]at h
  obtain⟨rfl,rfl⟩:=h
  have hq:uU a0:=(zo.1 hp).1
  have q1:uU (V.frzs a0):=by
   obtain⟨⟨xs,hxs⟩,hl⟩:=hq
   rw[hxs,zN,←hxs]
   exact⟨⟨xs,hxs⟩,hl⟩
  have g1:V.frzs a0=a0:=by
   obtain⟨⟨xs,hxs⟩,hl⟩:=hq
   rw[hxs,zN]
  generalize YW:same=zd3
  generalize qj:uU=km
  refine zO (T:=tab) (B:=[(82,QN zd3 km)]) (Bi:=[]) [0,1,2] Tryz.func54 rfl rfl (by kernel_rfl) (zh rfl) mixed yd (by subst YW qj;exact(zt zeb zH)) (by subst YW qj;exact zE) (by kernel_rfl) ?_
  intro L lp rr hL hr hf hlp
  conv=>cbv
  simp only[zr hL]
  subst YW qj
  exact⟨q1,by rw[hr,g1]⟩
 ·cases h
def ztp(f0:Int→List V)(q:Int→Prop):zQ:=fun
 |[.int .i64 a0]=>some ([q a0],.slc true 44 (.slc true 2 (.int .i64 0) []) (f0 a0))
 |_=>none
def zgw(n:Int):List V:=II true (List.replicate n.toNat (List.replicate n.toNat 0))
def q_n(n:Int):Prop:=0≤n∧n≤2147483647
theorem zks(o:Bool)(n:Nat)(xs:List Int):II o (List.replicate n xs)=List.replicate n (.slc o 2 (.int .i64 0) (I xs)):=by simp[II,List.map_replicate]
theorem YK(o:Bool)(a b:List (List Int)):II o (a++b)=II o a++II o b:=by simp[II]
theorem zCu{α:Type}(a b:List α)(x y:α)(i:Nat)(h:a.length=i):(a++x::b).set i y=a++y::b:=by
 rw[List.set_append_right _ _ (by omega),←h,kw,List.set_cons_zero]
theorem zzt{α:Type}(n i:Nat)(h:i<n)(x y:α):(List.replicate i y++List.replicate (n-i) x).set i y=List.replicate (i+1) y++List.replicate (n-(i+1)) x:=by
 have:n-i=(n-(i+1))+1:=by omega
 rw[this,yx,zCu _ _ _ _ _ (by simp)]
 rw[List.replicate_succ',zS]
 rfl
theorem zq2:yZ Tryz.prog 22 (ztp zgw q_n):=by
 intro args ps r h hp
 unfold ztp at h
 split at h
 ·rename_i a0
  simp only[za,zb]at h
  obtain⟨rfl,rfl⟩:=h
  obtain⟨h0,h1⟩:q_n a0:=(zo.1 hp).1
  refine zO (T:=tab) (B:=[]) (Bi:=[]) [0,2,3,4,8,9] Tryz.func22 rfl rfl (by kernel_rfl) (zh rfl) mixed yd (by exact zH) (by exact zE) (by kernel_rfl) ?_
  intro L lp rr hL hr hf hlp
  conv=>cbv
  simp only[zr hL]
  refine⟨h0,by omega,h1,?_⟩
  have hl0:((List.replicate a0.toNat (V.slc true 2 (.int .i64 0) [])).length:Int)=a0:=by rw[List.length_replicate];omega
  simp only[hl0]
  refine hlp (Int×List V) _ _ _ [0,3,8,9] (fun x=>[(0,none,.val (.int .i64 a0)),(3,none,.val (.slc true 44 (.slc true 2 (.int .i64 0) []) x.2)),(8,none,.val (.int .i64 a0)),(9,none,.val (.int .i64 x.1))])
   (fun x=>0≤x.1∧x.1≤a0∧x.2=II true (List.replicate x.1.toNat (List.replicate a0.toNat 0)++List.replicate (a0.toNat-x.1.toNat) [])) (fun x=>(a0-x.1).toNat) (0,_) (by subst hL;rfl) ⟨by simp,h0,by simp[zks]⟩ ?_
  rintro⟨i,es⟩ ⟨i0,i1,hes⟩ hfx ag hag
  conv=>cbv
  simp only at i0 i1 hes
  have hel:es.length=a0.toNat:=by rw[hes,yz];simp;omega
  simp only[zr hL,hel,decide_eq_true_eq,decide_eq_false_iff_not]
  refine⟨fun h=>⟨h0,by omega,h1,i0,by omega,by omega,?_,?_⟩,fun h=>?_⟩
  ·rw[hes,jf];exact .inl (zkQ _ _ _)
  ·rw[zl (n:=i+1) (by omega) (by omega)]
   refine hag (i+1,_) ⟨by simp only;omega,by simp only;omega,?_⟩ (by simp only;omega)
   simp only[yj i0]
   rw[hes,zdH,zd2,zzt _ _ (by omega)]
  ·have:i=a0:=by omega
   rw[hr,zgw,hes,this,kw]
   simp
 ·cases h
end Go.Ax
namespace Go.Ax
open Go.Proofs
def qu{α:Type}(f:Nat→α)(n:Nat):List α:=(List.range n).map f
theorem yA{α:Type}(f:Nat→α)(n:Nat):(qu f n).length=n:=by simp[qu]
theorem zbs{α:Type}(f:Nat→α)(n:Nat):qu f (n+1)=qu f n++[f n]:=by simp[qu,List.range_succ]
theorem uA{α:Type}(f:Nat→α)(n i:Nat)(d:α)(h:i<n):(qu f n).getD i d=f i:=by
 simp[qu,zd,zJ,ZM h]
theorem ur{α:Type}(f:Nat→α)(n i:Nat)(h:i<n):(qu f n)[i]? =some (f i):=by
 simp[qu,ZM h]
theorem qQ{α:Type}{f g:Nat→α}{n:Nat}(h:∀i,i<n→f i=g i):qu f n=qu g n:=by
 simp only[qu]
 apply qU
 intro i hi
 exact h i (by simpa using hi)
theorem zzb{α:Type}(f:Nat→α)(n k:Nat)(h:k≤n):(qu f n).take k=qu f k:=by
 simp only[qu,←List.map_take,List.take_range,Nat.min_eq_left h]
theorem zmt{α:Type}(l:List α)(d:α):l=qu (fun i=>l.getD i d) l.length:=by
 apply yF
 intro i
 by_cases h:i<l.length
 ·rw[ur _ _ _ h,ze h,zd,ze h]
  rfl
 ·rw[zG (by omega),zG (by rw[yA];omega)]
abbrev W(n:Int):Int:=IntKind.wrap .i64 n
theorem ztd:∀(l:List Int),dec l=true→∀i,i+1<l.length→l.getD (i+1) 0<l.getD i 0
 |[],h,_,_=>by simp[dec]at h
 |[a],_,i,hi=>by simp at hi
 |a::b::l,h,i,hi=>by
  simp only[dec]at h
  cases hab:decide (a≤b)with
  |true=>rw[hab]at h;simp at h
  |false=>
   rw[hab]at h
   simp only[decide_eq_false_iff_not]at hab
   cases i with
   |zero=>simp;omega
   |succ i=>simpa using ztd (b::l) h i (by simpa using hi)
theorem zte:∀(l:List Int),dec l=true→l≠[]∧l.getD (l.length-1) 0=1
 |[],h=>by simp[dec]at h
 |[a],h=>by simpa [dec]using h
 |a::b::l,h=>by
  simp only[dec]at h
  cases hab:decide (a≤b)with
  |true=>rw[hab]at h;simp at h
  |false=>
   rw[hab]at h
   refine⟨by simp,?_⟩
   have:=(zte (b::l) h).2
   simpa using this
theorem ztN:∀(l:List Int),asc l=true→∀i,i+1<l.length→l.getD i 0<l.getD (i+1) 0
 |[],_,_,hi=>by simp at hi
 |[a],_,i,hi=>by simp at hi
 |a::b::l,h,i,hi=>by
  simp only[asc]at h
  cases hab:decide (b≤a)with
  |true=>rw[hab]at h;simp at h
  |false=>
   rw[hab]at h
   simp only[decide_eq_false_iff_not]at hab
   cases i with
   |zero=>simp;omega
   |succ i=>simpa using ztN (b::l) h i (by simpa using hi)
structure Br (xs:List Int):Prop where
 is:qK xs=true
 pos:0<xs.length
 len:xs.length≤64
 low:∀i,i<xs.length→1≤xs.getD i 0
 high:∀i,i<xs.length→xs.getD i 0≤2000
 up:∀i,i+1<xs.length→xs.getD i 0<xs.getD (i+1) 0
 first:xs.getD 0 0≤64
 dlen:(dv xs).length=xs.length
 d0:(dv xs).getD 0 0=xs.getD 0 0
 dpos:∀i,i<xs.length→1≤(dv xs).getD i 0
 dhi:∀i,i<xs.length→(dv xs).getD i 0≤64
 dstep:∀i,i+1<xs.length→(dv xs).getD (i+1) 0<(dv xs).getD i 0
 dlast:(dv xs).getD (xs.length-1) 0=1
theorem Kl{xs:List Int}(h:qK xs=true):Br xs:=by
 obtain⟨t,l,hx,h1,h2,hw,hd⟩:=znQ h
 have h':=h
 simp only[qK,zqQ,zg]at h'
 obtain⟨⟨⟨⟨_,_⟩,ha⟩,_⟩,hdec⟩:=h'
 have hdl:(dv xs).length=xs.length:=by rw[dv,zmH]
 have hpos:0<xs.length:=by rw[hx];simp
 have hall:∀i,i<xs.length→1≤xs.getD i 0∧xs.getD i 0≤2000:=by
  intro i hi
  simp only[jE,zZ,yE,zg,decide_eq_true_eq]at hw
  rw[zd,ze hi]
  exact hw _ (ye hi)
 have hd0:(dv xs).getD 0 0=xs.getD 0 0:=by rw[hx];simp[dv,Zp,zgq (show 0<t by omega)]
 have hst:∀i,i+1<xs.length→(dv xs).getD (i+1) 0<(dv xs).getD i 0:=fun i hi=>ztd _ hdec i (by omega)
 have hx0:xs.getD 0 0=t:=by rw[hx];rfl
 have hhi:∀i:Nat,i<xs.length→(dv xs).getD i 0≤64-i:=by
  intro i
  induction i with
  |zero=>intro _;rw[hd0,hx0];omega
  |succ i ih=>
   intro hi
   have:=ih (by omega)
   have:=hst i hi
   omega
 have hlast:=(zte _ hdec).2
 rw[hdl]at hlast
 refine⟨h,hpos,?_,fun i hi=>(hall i hi).1,fun i hi=>(hall i hi).2,fun i hi=>ztN _ ha i hi,by rw[hx0];omega,hdl,hd0,fun i hi=>hd i hi,fun i hi=>by have:=hhi i hi;omega,hst,hlast⟩
 have:=hhi (xs.length-1) (by omega)
 rw[hlast]at this
 omega
def JM(es:List V):Prop:=∃xs,es=I xs∧Br xs
theorem JM.isP{es:List V}(h:JM es):IsP es:=by
 obtain⟨xs,rfl,hb⟩:=h
 obtain⟨t,l,rfl,h1,_⟩:=znQ hb.is
 exact⟨t,l,rfl,by omega,by have:=hb.len;simp at this;omega⟩
theorem JM.isIs{es:List V}(h:JM es):uU es:=h.isP.isIs
def zxm(f:List V→List V)(q:List V→Prop):zQ:=fun
 |[.agg [.slc false 2 (.int .i64 0) a0]]=>some ([q a0],.slc true 2 (.int .i64 0) (f a0))
 |_=>none
end Go.Ax
namespace Go.Ax
open Go.Proofs
end Go.Ax
namespace Go.Ax
open Go.Proofs
def zDF(es:List V):Prop:=∃xss,es=II false xss∧xss.length≤2147483647∧∀xs∈xss,xs.length≤2147483647
end Go.Ax
namespace Go.Ax
open Go.Proofs
abbrev gI(l:List Int)(i:Int):Int:=l.getD i.toNat 0
def zDo(a b:Int)(l:List Int):List Int:=l.map fun x=>if x=b then a else x
def zCN(n:Nat):List Int:=qu (fun i=>(i:Int)) n
def e0(e:List Int):Int:=e.getD 0 0
def e1(e:List Int):Int:=e.getD 1 0
def zDh(n:Nat)(e:List Int):Prop:=e.length=2∧0≤e0 e∧e0 e<n∧0≤e1 e∧e1 e<n
def lo(lab e:List Int):Int:=min (gI lab (e0 e)) (gI lab (e1 e))
def hi(lab e:List Int):Int:=max (gI lab (e0 e)) (gI lab (e1 e))
structure LabOk (n:Nat) (lab:List Int):Prop where
 len:lab.length=n
 nn:∀i,i<n→0≤lab.getD i 0
 le:∀i,i<n→lab.getD i 0≤i
 idem:∀i,i<n→gI lab (lab.getD i 0)=lab.getD i 0
def acy:List Int→List (List Int)→Bool
 |_,[]=>true
 |lab,e::es=> !(gI lab (e0 e)==gI lab (e1 e))&&acy (zDo (gI lab (e0 e)) (gI lab (e1 e)) lab) es
def zAP:List Int→List Int→Bool
 |x::a,y::b=>bif !(x==y)then decide (x<y)else zAP a b
 |[],_::_=>true
 |_,[]=>false
def zEb(n:Nat)(p:Option (List Int))(e:List Int):Bool:=e.length==2&&decide (0≤e0 e)&&decide (e0 e<e1 e)&&decide (e1 e<n)&&(match p with
 |none=>true
 |some x=>zAP x e)
def zrr(n:Nat):Option (List Int)→List (List Int)→Bool
 |_,[]=>true
 |p,e::es=>zEb n p e&&zrr n (some e) es
def zD5(ws:List Int)(es:List (List Int)):Bool:=decide (1≤ws.length)&&decide (ws.length≤40)&&jE ws (-1000) 1000&&zrr ws.length none es&&acy (zCN ws.length) es
end Go.Ax
namespace Go.Ax
open Go.Proofs
theorem zBY(a b:Bool):(bif a then b else false)=(a&&b):=by cases a<;>rfl
theorem zC1(a b:Bool):(bif a then true else b)=(a||b):=by cases a<;>rfl
def zmo(a b:List V):Prop:=IsI a∧IsI b
def KZ(f:List V→List V→Bool)(q:List V→List V→Prop):zQ:=fun
 |[.slc false 2 (.int .i64 0) a0,.slc false 2 (.int .i64 0) a1]=>some ([q a0 a1],.bool (f a0 a1))
 |_=>none
end Go.Ax
namespace Go.Ax
open Go.Proofs
theorem zCo:Int.toNat 0=0:=rfl
theorem zCn:Int.toNat 1=1:=rfl
theorem zcY{xss:List (List Int)}{i:Nat}(h:i<xss.length):xss.getD i []∈xss:=by
 rw[zd,ze h]
 exact ye _
end Go.Ax
namespace Go.Ax
open Go.Proofs
def U8(xs:List Int):List V:=xs.map (.int .u8)
theorem zlh(xs:List Int)(i:Nat):(U8 xs).getD i (.int .u8 0)=.int .u8 (xs.getD i 0):=by
 simp only[U8,zd,zJ]
 cases xs[i]? <;>rfl
def IsU(es:List V):Prop:=∃xs:List Int,es=U8 xs∧(∀x∈xs,0≤x∧x≤255)∧xs.length≤4096
def nxH(h:Int):Int:=IntKind.u64.wrap (IntKind.u64.wrap (h*6364136223846793005)+1442695040888963407)
def nxX(h:Int):Int:=IntKind.i64.wrap (za7 .u64 (zaW .u64 (nxH h) 33) 16777215)
theorem zqU(a:Int):0≤za7 .u64 a 16777215∧za7 .u64 a 16777215≤16777215:=by
 have h:(BitVec.ofInt IntKind.u64.bits a&&&BitVec.ofInt IntKind.u64.bits 16777215).toNat≤16777215:=by
  rw[BitVec.toNat_and]
  exact Nat.le_trans Nat.and_le_right (by decide)
 rw[za7,IntWalk.u64_in _ ⟨by omega,by omega⟩]
 omega
def jp(es:List V)(a h n:Int):Int:=if n<1 then 0 else(if a<es.length then IntKind.i64.wrap (nxX h+IntKind.i64.wrap ((es.getD a.toNat (.int .u8 0)).toI))else nxX h).tmod n
def jo(es:List V)(a _ n:Int):Int:=if n<1 then a else if a<es.length then a+1 else a
def jD(_:List V)(_ h n:Int):Int:=if n<1 then h else nxH h
def yg(es:List V)(a _:Int):Prop:=IsU es∧0≤a∧a≤es.length
def zgV(es:List V)(a h _:Int):Prop:=yg es a h
def zcp(f0 f1 f2:List V→Int→Int→Int→Int)(q:List V→Int→Int→Int→Prop):kF:=fun
 |[.box 61 (.agg [.slc false 5 (.int .u8 0) a0,.int .i64 a1,.int .u64 a2]),.int .i64 a3]=>some ([q a0 a1 a2 a3],.int .i64 (f0 a0 a1 a2 a3),.box 61 (.agg [.slc false 5 (.int .u8 0) a0,.int .i64 (f1 a0 a1 a2 a3),.int .u64 (f2 a0 a1 a2 a3)]))
 |_=>none
theorem zB2{es:List V}(h:IsU es)(i:Nat):0≤(es.getD i (.int .u8 0)).toI∧(es.getD i (.int .u8 0)).toI≤255:=by
 obtain⟨xs,hxs,hb,_⟩:=h
 rw[hxs,zlh]
 show 0≤xs.getD i 0∧xs.getD i 0≤255
 rw[zd]
 by_cases hi:i<xs.length
 ·rw[ze hi]
  exact hb _ (ye hi)
 ·rw[zG (by omega)]
  exact⟨by decide,by decide⟩
theorem YA{es:List V}{a h n:Int}(hq:yg es a h)(hn:1≤n):0≤jp es a h n∧jp es a h n<n:=by
 have h1:=zqU (zaW .u64 (nxH h) 33)
 have h2:=zB2 hq.1 a.toNat
 have hx:nxX h=za7 .u64 (zaW .u64 (nxH h) 33) 16777215:=by rw[nxX,IntWalk.i64_in _ ⟨by omega,by omega⟩]
 rw[jp,if_neg (by omega)]
 have key:∀x:Int,0≤x→0≤x.tmod n∧x.tmod n<n:=fun x hx0=>⟨Int.tmod_nonneg _ hx0,kD _ (by omega)⟩
 split
 ·rw[IntWalk.i64_in (es.getD a.toNat (.int .u8 0)).toI ⟨by omega,by omega⟩,IntWalk.i64_in _ ⟨by omega,by omega⟩]
  exact key _ (by omega)
 ·exact key _ (by omega)
theorem kX{es:List V}{a h n:Int}(hq:yg es a h):yg es (jo es a h n) (jD es a h n):=by
 obtain⟨h1,h2,h3⟩:=hq
 refine⟨h1,?_,?_⟩
 ·rw[jo];split<;>(try split)<;>omega
 ·rw[jo];split<;>(try split)<;>omega
def QL(es:List V)(a h:Int)(l:List V):Int:=(yV l).getD (jp es a h l.length).toNat 0
def Js(es:List V)(a h:Int)(l:List V):Int:=jo es a h l.length
def Jr(es:List V)(a h:Int)(l:List V):Int:=jD es a h l.length
def zgU(es:List V)(a h:Int)(l:List V):Prop:=yg es a h∧IsI l∧1≤l.length∧l.length≤2147483647
def zgp(f0 f1 f2:List V→Int→Int→List V→Int)(q:List V→Int→Int→List V→Prop):kF:=fun
 |[.box 61 (.agg [.slc false 5 (.int .u8 0) a0,.int .i64 a1,.int .u64 a2]),.slc false 2 (.int .i64 0) a3]=>some ([q a0 a1 a2 a3],.int .i64 (f0 a0 a1 a2 a3),.box 61 (.agg [.slc false 5 (.int .u8 0) a0,.int .i64 (f1 a0 a1 a2 a3),.int .u64 (f2 a0 a1 a2 a3)]))
 |_=>none
theorem zb9{t:TypeId}{c:V}{a a' h h':Int}:Sh (.box t (.agg [c,.int .i64 a,.int .u64 h])) (.box t (.agg [c,.int .i64 a',.int .u64 h'])):=
 .box _ _ _ (.agg _ _ rfl fun i x y hx hy=>by
  match i with
  |0=>simp at hx hy;subst hx;subst hy;exact .refl _
  |1=>simp at hx hy;subst hx;subst hy;exact .scal _ _ rfl rfl
  |2=>simp at hx hy;subst hx;subst hy;exact .scal _ _ rfl rfl
  |n+3=>simp at hx)
abbrev sQ:=(⟨@imp_self,@true_and,@and_true,@zC1,@zBY,@Bool.or_eq_true,@Bool.or_eq_false_iff,@zg,@ky,@decide_eq_true_eq,@decide_eq_false_iff_not,@yG,@Bool.not_eq_false',@beq_iff_eq.{0},@beq_eq_false_iff_ne.{0},@ne_eq.{1},@zCo,@zCn,@KP,@uz,@zN,@zm,@zT,@zkQ,@zeI⟩: _∧_∧_∧_∧_∧_∧_∧_∧_∧_∧_∧_∧_∧_∧_∧_∧_∧_∧_∧_∧_∧_∧_∧_∧_)
theorem uj:zfF Tryz.prog 26 0 (zcp jp jo jD zgV):=by
 intro args ps r y h hp
 unfold zcp at h
 split at h
 ·rename_i a0 a1 a2 a3
  simp only[za,zb]at h
  obtain⟨rfl,rfl,rfl⟩:=h
  have hq:yg a0 a1 a2:=(zo.1 hp).1
  refine zvo (T:=tab) (B:=[]) (Bi:=[]) 0 [0,1,4,5] Tryz.func26 rfl rfl (by kernel_rfl) (zh rfl) mixed yd (by exact zH) (by exact zE) (by kernel_rfl) rfl rfl rfl zb9 rfl ?_
  intro L lp rr yy hL hr hy hf hlp
  conv=>cbv
  simp only[zr hL,sQ,true_and]
  obtain⟨⟨xs,hxs,hb,hl⟩,h0,h1⟩:=hq
  have hal:a0.length=xs.length:=by rw[hxs,U8,List.length_map]
  refine⟨fun h=>?_,fun h=>⟨by decide,fun h2=>⟨h0,h2,?_,by omega,?_⟩,fun h2=>⟨by omega,?_⟩⟩⟩
  ·rw[hr,hy,jp,jo,jD,if_pos h,if_pos h,if_pos h]
   exact⟨rfl,rfl⟩
  ·rw[hxs,zlh]
   rfl
  ·rw[hr,hy,jp,jo,jD,if_neg h,if_neg h,if_neg h,if_pos h2,if_pos h2,zl (n:=a1+1) (by omega) (by omega)]
   exact⟨rfl,rfl⟩
  ·rw[hr,hy,jp,jo,jD,if_neg h,if_neg h,if_neg h,if_neg h2,if_neg h2]
   exact⟨rfl,rfl⟩
 ·cases h
theorem YM:zfF Tryz.prog 31 0 (zgp QL Js Jr zgU):=by
 intro args ps r y h hp
 unfold zgp at h
 split at h
 ·rename_i a0 a1 a2 a3
  simp only[za,zb]at h
  obtain⟨rfl,rfl,rfl⟩:=h
  have hq:zgU a0 a1 a2 a3:=(zo.1 hp).1
  obtain⟨n,hn⟩:∃n:Int,n=a3.length:=⟨_,rfl⟩
  generalize yU:jp=jL
  generalize yT:jo=jK
  generalize yS:jD=jJ
  generalize qV:zgV=Zc
  refine zvo (T:=tab) (B:=[]) (Bi:=[(26,0,false,zcp jL jK jJ Zc)]) 0 [0,1,4] Tryz.func31 rfl rfl (by kernel_rfl) (zh rfl) mixed yd (by subst yU yT yS qV;exact zH) (by subst yU yT yS qV;exact(qX uj zE)) (by kernel_rfl) rfl rfl rfl zb9 rfl ?_
  intro L lp rr yy hL hr hy hf hlp
  conv=>cbv
  simp only[zr hL,sQ,←hn]
  subst yU yT yS qV
  obtain⟨h1,⟨l,hl⟩,h2,h3⟩:=hq
  obtain⟨k1,k2⟩:=YA (n:=n) h1 (by omega)
  refine⟨h1,k1,k2,by rw[hl,zT];rfl,?_,?_⟩
  ·rw[hr,QL,←hn,hl,zT,zB]
   rfl
  ·rw[hy,Js,Jr,←hn]
 ·cases h
def frS(h b:Int):Int:=IntKind.u64.wrap (IntKind.u64.wrap (IntKind.u64.wrap (h*1099511628211)+IntKind.u64.wrap b)+11)
def frH(xs:List Int)(n:Nat):Int:=(xs.take n).foldl frS (IntKind.u64.wrap (9341+IntKind.u64.wrap xs.length))
theorem zz0{xs:List Int}{n:Nat}(h:n<xs.length):frH xs (n+1)=frS (frH xs n) (xs.getD n 0):=by
 rw[frH,zC h,List.foldl_append,←frH,zd,ze h]
 rfl
def kc(a:List V):Int:=frH (a.map V.toI) a.length
def zoe(f0:List V→Int)(q:List V→Prop):zQ:=fun
 |[.slc false 5 (.int .u8 0) a0]=>some ([q a0],.box 61 (.agg [.slc false 5 (.int .u8 0) a0,.int .i64 0,.int .u64 (f0 a0)]))
 |_=>none
theorem zhl:yZ Tryz.prog 13 (zoe kc IsU):=by
 intro args ps r h hp
 unfold zoe at h
 split at h
 ·rename_i a0
  simp only[za,zb]at h
  obtain⟨rfl,rfl⟩:=h
  have hq:IsU a0:=(zo.1 hp).1
  obtain⟨n,hn⟩:∃n:Int,n=a0.length:=⟨_,rfl⟩
  obtain⟨h0,hh0⟩:∃h0:Int,h0=IntKind.u64.wrap (9341+IntKind.u64.wrap n):=⟨_,rfl⟩
  obtain⟨xs,hxs,hb,hl⟩:=hq
  have hal:a0.length=xs.length:=by rw[hxs,U8,List.length_map]
  refine zO (T:=tab) (B:=[]) (Bi:=[]) [0,2,3,4] Tryz.func13 rfl rfl (by kernel_rfl) (zh rfl) mixed yd (by exact zH) (by exact zE) (by kernel_rfl) ?_
  intro L lp rr hL hr hf hlp
  conv=>cbv
  simp only[zr hL,sQ,←hn,←hh0]
  refine hlp (Int×Int) _ _ _ [0,3,4] (fun x=>[(0,none,.val (.slc false 5 (.int .u8 0) a0)),(3,none,.val (.box 61 (.agg [.slc false 5 (.int .u8 0) a0,.int .i64 0,.int .u64 x.1]))),(4,none,.val (.int .i64 x.2))])
   (fun x=>0≤x.2∧x.2≤n∧x.1=frH xs x.2.toNat) (fun x=>(n-x.2).toNat) ((h0,0)) (by subst hL;rfl) ?_ ?_
  ·refine⟨by simp,by simp only;omega,?_⟩
   simp only[frH,hh0,hn,hal]
   rfl
  rintro⟨hh,i⟩ ⟨i0,i1,hI⟩ hfx ag hag
  simp only at i0 i1 hI
  conv=>cbv
  simp only[zr hL,sQ,←hn]
  refine⟨fun h=>⟨i0,h.1,by rw[hxs,zlh];rfl,?_⟩,fun h=>?_⟩
  ·rw[zl (n:=i+1) (by omega) (by omega)]
   refine hag (_,i+1) ⟨by simp only;omega,by simp only;omega,?_⟩ (by simp only;omega)
   simp only
   rw[show(i+1).toNat=i.toNat+1 by omega,zz0 (by omega),←hI,hxs,zlh]
   rfl
  ·have hm:(U8 xs).map V.toI=xs:=by simp[U8,Function.comp_def,V.toI]
   rw[hr,kc,hI,show i.toNat=a0.length by omega,hxs,hm]
 ·cases h
end Go.Ax
namespace Go.Ax
open Go.Proofs
def zoa(f:List V→Bool)(q:List V→Prop):zQ:=fun
 |[.slc false 5 (.int .u8 0) a0]=>some ([q a0],.bool (f a0))
 |_=>none
def zk8(a:List V):Bool:=decide ((4096:Int)<a.length)
def zAL(_:List V):Prop:=True
theorem zwq:yZ Tryz.prog 4 (zoa zk8 zAL):=by
 intro args ps r h hp
 unfold zoa at h
 split at h
 ·rename_i a0
  simp only[za,zb]at h
  obtain⟨rfl,rfl⟩:=h
  obtain⟨n,hn⟩:∃n:Int,n=a0.length:=⟨_,rfl⟩
  refine zO (T:=tab) (B:=[]) (Bi:=[]) [0,2] Tryz.func4 rfl rfl (by kernel_rfl) (zh rfl) mixed yd (by exact zH) (by exact zE) (by kernel_rfl) ?_
  intro L lp rr hL hr hf hlp
  conv=>cbv
  simp only[zr hL,sQ,←hn]
  rw[hr,zk8,←hn]
 ·cases h
def zfo(a b:List V):Bool:=decide (yV a=yV b)
def znv(a b:List V):Prop:=IsI a∧IsI b∧a.length≤2147483647
theorem zgb:yZ Tryz.prog 48 (KZ zfo znv):=by
 intro args ps r h hp
 unfold KZ at h
 split at h
 ·rename_i a0 a1
  simp only[za,zb]at h
  obtain⟨rfl,rfl⟩:=h
  obtain⟨⟨xs,hxs⟩,⟨ys,hys⟩,hl⟩:znv a0 a1:=(zo.1 hp).1
  obtain⟨n,hn⟩:∃n:Int,n=a0.length:=⟨_,rfl⟩
  obtain⟨m,hm⟩:∃m:Int,m=a1.length:=⟨_,rfl⟩
  have hxl:a0.length=xs.length:=by rw[hxs,zm]
  have hyl:a1.length=ys.length:=by rw[hys,zm]
  have gx:∀k,a0.getD k (.int .i64 0)=.int .i64 (xs.getD k 0):=fun k=>by rw[hxs,zT]
  have gy:∀k,a1.getD k (.int .i64 0)=.int .i64 (ys.getD k 0):=fun k=>by rw[hys,zT]
  have hf0:zfo a0 a1=decide (xs=ys):=by rw[zfo,hxs,hys,zB,zB]
  refine zO (T:=tab) (B:=[]) (Bi:=[]) [0,1,4,5] Tryz.func48 rfl rfl (by kernel_rfl) (zh rfl) mixed yd (by exact zH) (by exact zE) (by kernel_rfl) ?_
  intro L lp rr hL hr hf hlp
  conv=>cbv
  simp only[zr hL,sQ,←hn,←hm]
  refine⟨fun h=>?_,fun h=>?_⟩
  ·rw[hr,hf0,decide_eq_false (fun e=>h (by rw[hn,hm,hxl,hyl,e]))]
  have hlen:xs.length=ys.length:=by omega
  refine hlp (Int) _ _ _ [0,1,5] (fun x=>[(0,none,.val (.slc false 2 (.int .i64 0) a0)),(1,none,.val (.slc false 2 (.int .i64 0) a1)),(5,none,.val (.int .i64 x))])
   (fun x=>0≤x∧x≤n∧xs.take x.toNat=ys.take x.toNat) (fun x=>(n-x).toNat) (0) (by subst hL;rfl) ?_ ?_
  ·exact⟨by simp,by omega,rfl⟩
  rintro i ⟨i0,i1,hI⟩ hfx ag hag
  conv=>cbv
  simp only[zr hL,sQ,←hn,←hm,gx,gy]
  refine⟨fun h2=>⟨i0,h2,i0,by omega,fun h3=>?_,fun h3=>?_⟩,fun h2=>?_⟩
  ·rw[hr,hf0,decide_eq_false (fun e=>h3 (by rw[e]))]
  ·rw[zl (n:=i+1) (by omega) (by omega)]
   have h4:i.toNat<xs.length:=by omega
   have h5:i.toNat<ys.length:=by omega
   refine hag (i+1) ⟨by omega,by omega,?_⟩ (by omega)
   rw[zd,ze h4,zd,ze h5]at h3
   rw[show(i+1).toNat=i.toNat+1 by omega,zC h4,zC h5,hI]
   exact congrArg (fun z=>List.take i.toNat ys++[z]) h3
  ·have h4:xs=ys:=by rwa [zu (by omega),zu (by omega)]at hI
   rw[hr,hf0,decide_eq_true h4]
 ·cases h
def zbW(f:List V→List V→Bool)(q:List V→List V→Prop):zQ:=fun
 |[.slc false 44 (.slc false 2 (.int .i64 0) []) a0,.slc false 44 (.slc false 2 (.int .i64 0) []) a1]=>some ([q a0 a1],.bool (f a0 a1))
 |_=>none
def JH(a b:List V):Bool:=decide (Ka a=Ka b)
def zcT(a b:List V):Prop:=(∃l,a=II false l∧l.length≤2147483647∧∀r∈l,r.length≤2147483647)∧∃l,b=II false l
theorem zmk:yZ Tryz.prog 24 (zbW JH zcT):=by
 intro args ps r h hp
 unfold zbW at h
 split at h
 ·rename_i a0 a1
  simp only[za,zb]at h
  obtain⟨rfl,rfl⟩:=h
  obtain⟨⟨xs,hxs,hl,hrl⟩,⟨ys,hys⟩⟩:zcT a0 a1:=(zo.1 hp).1
  obtain⟨n,hn⟩:∃n:Int,n=a0.length:=⟨_,rfl⟩
  obtain⟨m,hm⟩:∃m:Int,m=a1.length:=⟨_,rfl⟩
  have hxl:a0.length=xs.length:=by rw[hxs,yz]
  have hyl:a1.length=ys.length:=by rw[hys,yz]
  have gx:∀k,a0.getD k (.slc false 2 (.int .i64 0) [])=.slc false 2 (.int .i64 0) (I (xs.getD k [])):=fun k=>by rw[hxs,jf]
  have gy:∀k,a1.getD k (.slc false 2 (.int .i64 0) [])=.slc false 2 (.int .i64 0) (I (ys.getD k [])):=fun k=>by rw[hys,jf]
  have hf0:JH a0 a1=decide (xs=ys):=by rw[JH,hxs,hys,qC,qC]
  generalize zbK:zfo=zfX
  generalize zbG:znv=zfT
  refine zO (T:=tab) (B:=[(48,KZ zfX zfT)]) (Bi:=[]) [0,1,4,5] Tryz.func24 rfl rfl (by kernel_rfl) (zh rfl) mixed yd (by subst zbK zbG;exact(zt zgb zH)) (by subst zbK zbG;exact zE) (by kernel_rfl) ?_
  intro L lp rr hL hr hf hlp
  conv=>cbv
  simp only[zr hL,sQ,←hn,←hm]
  refine⟨fun h=>?_,fun h=>?_⟩
  ·rw[hr,hf0,decide_eq_false (fun e=>h (by rw[hn,hm,hxl,hyl,e]))]
  have hlen:xs.length=ys.length:=by omega
  refine hlp (Int) _ _ _ [0,1,5] (fun x=>[(0,none,.val (.slc false 44 (.slc false 2 (.int .i64 0) []) a0)),(1,none,.val (.slc false 44 (.slc false 2 (.int .i64 0) []) a1)),(5,none,.val (.int .i64 x))])
   (fun x=>0≤x∧x≤n∧xs.take x.toNat=ys.take x.toNat) (fun x=>(n-x).toNat) (0) (by subst hL;rfl) ?_ ?_
  ·exact⟨by simp,by omega,rfl⟩
  rintro i ⟨i0,i1,hI⟩ hfx ag hag
  have Ef:∀u v:List Int,zfX (I u) (I v)=decide (u=v):=fun u v=>by rw[←zbK,zfo,zB,zB]
  conv=>cbv
  simp only[zr hL,sQ,←hn,←hm,gx,gy,Ef]
  refine⟨fun h2=>?_,fun h2=>?_⟩
  ·have h4:i.toNat<xs.length:=by omega
   have h5:i.toNat<ys.length:=by omega
   have Ql:zfT (I (xs.getD i.toNat [])) (I (ys.getD i.toNat [])):=by
    rw[←zbG]
    refine⟨⟨_,rfl⟩,⟨_,rfl⟩,?_⟩
    rw[zm,zd,ze h4]
    exact hrl _ (ye h4)
   refine⟨i0,h2,i0,by omega,Ql,fun h3=>?_,fun h3=>?_⟩
   ·rw[hr,hf0,decide_eq_false (fun e=>h3 (by rw[e]))]
   ·rw[zl (n:=i+1) (by omega) (by omega)]
    refine hag (i+1) ⟨by omega,by omega,?_⟩ (by omega)
    rw[zd,ze h4,zd,ze h5]at h3
    rw[show(i+1).toNat=i.toNat+1 by omega,zC h4,zC h5,hI]
    exact congrArg (fun z=>List.take i.toNat ys++[z]) h3
  ·have h4:xs=ys:=by rwa [zu (by omega),zu (by omega)]at hI
   rw[hr,hf0,decide_eq_true h4]
 ·cases h
end Go.Ax
namespace Go.Ax
open Go.Proofs
end Go.Ax
namespace Go.Ax
open Go.Proofs
structure Gr (ws:List Int) (es:List (List Int)):Prop where
 is:zD5 ws es=true
 n1:1≤ws.length
 n2:ws.length≤40
 wlo:∀i,i<ws.length→-1000≤ws.getD i 0∧ws.getD i 0≤1000
 eok:zrr ws.length none es=true
 ed:∀e∈es,zDh ws.length e
 lt:∀e∈es,e0 e<e1 e
 el:es.length<ws.length
 acyc:acy (zCN ws.length) es=true
def zDx(es:List (List Int))(v:Int):List Int:=(es.filter fun e=>e1 e==v).map e0
def zDw(es:List (List Int))(v:Int):List Int:=(es.filter fun e=>e0 e==v).map e1
def zso(es:List (List Int))(v:Int):List Int:=zDx es v++zDw es v
def adj(es:List (List Int))(i j:Nat):Bool:=es.any fun e=>(e0 e==i&&e1 e==j)||(e0 e==j&&e1 e==i)
def ent(ws:List Int)(es:List (List Int))(i j:Nat):Int:=if i=j then ws.getD i 0 else if adj es i j=true then 1 else 0
def mrow(ws:List Int)(es:List (List Int))(i:Nat):List Int:=qu (ent ws es i) ws.length
theorem zA6{α:Type}(f:Nat→α)(n i:Nat)(y:α):(qu f n).set i y=qu (fun j=>if j=i then y else f j) n:=by
 apply yF
 intro j
 by_cases hj:j<n
 ·rw[ur _ _ _ hj,List.getElem?_set]
  by_cases hij:i=j
  ·subst hij
   rw[if_pos rfl,if_pos (by rw[yA];exact hj),if_pos rfl]
  ·rw[if_neg hij,ur _ _ _ hj,if_neg (fun h=>hij h.symm)]
 ·rw[zG (by rw[List.length_set,yA];omega),zG (by rw[yA];omega)]
end Go.Ax
namespace Go.Ax
open Go.Proofs
def stp(a b:Nat):List (Nat×Nat):=if _h:0<b then(a/b,b)::stp b (a%b)else[]
termination_by b
decreasing_by exact kY _ (by assumption)
theorem zow{a b:Nat}(h:0<b):stp a b=(a/b,b)::stp b (a%b):=by rw[stp,dif_pos h]
theorem zh6(a:Nat):stp a 0=[]:=by rw[stp,dif_neg (by omega)]
def ex(a b:Nat):List Nat:=(stp a b).flatMap fun p=>List.replicate p.1 p.2
theorem uK{a b:Nat}(h:0<b):ex a b=List.replicate (a/b) b++ex b (a%b):=by rw[ex,zow h,List.flatMap_cons,ex]
theorem zeN(a:Nat):ex a 0=[]:=by rw[ex,zh6];rfl
def hd1(l:List Nat):Nat:=l.getD 0 1
def Fol(b:Nat)(l:List Nat):Prop:=hd1 l≤b∧(hd1 l<b→∃c r,b=c*hd1 l+r∧r<hd1 l∧1≤c∧(∀t,t<c→l.getD t 1=hd1 l)∧(0<r→l.getD c 1=r))
def GL:List Nat→Prop
 |[]=>True
 |x::l=>1≤x∧Fol x l∧GL l
theorem ztZ{b:Nat}{l:List Nat}(hb:1≤b)(hf:Fol b l)(hg:GL l):∀q,GL (List.replicate q b++l)∧Fol b (List.replicate q b++l)
 |0=>⟨by simpa using hg,by simpa using hf⟩
 |q+1=>by
  obtain⟨h1,h2⟩:=ztZ hb hf hg q
  rw[yx,List.cons_append]
  refine⟨⟨hb,h2,h1⟩,?_⟩
  have:hd1 (b::(List.replicate q b++l))=b:=rfl
  exact⟨by rw[this];exact zn _,fun h=>by rw[this]at h;exact absurd h (zbp _)⟩
theorem zix(q b:Nat)(l:List Nat)(t d:Nat):(List.replicate q b++l).getD t d=if t<q then b else l.getD (t-q) d:=by
 by_cases h:t<q
 ·rw[if_pos h,zd,List.getElem?_append_left (by simpa using h)]
  simp[h]
 ·rw[if_neg h,zd,yp (by simpa using h)]
  simp
theorem zDC{b r:Nat}(hr:0<r)(h:r≤b)(l:List Nat):(ex b r++l).getD 0 1=r:=by
 rw[uK hr,zS,zix,if_pos (Nat.div_pos h hr)]
theorem zvr:∀(n b r:Nat) (l:List Nat),b≤n→r<b→GL l→Fol (Nat.gcd b r) l→GL (ex b r++l)∧Fol b (ex b r++l)
 |0,b,r,l,hn,hr,_,_=>by omega
 |n+1,b,r,l,hn,hr,hg,hf=>by
  by_cases h0:0<r
  ·have h1:b%r<r:=kY _ h0
   have h2:Nat.gcd r (b%r)=Nat.gcd b r:=by rw[uN b r,Nat.gcd_rec r b,uN]
   obtain⟨i1,i2⟩:=zvr n r (b%r) l (by omega) h1 hg (by rw[h2];exact hf)
   obtain⟨j1,_⟩:=ztZ (by omega) i2 i1 (b/r)
   have hq:0<b/r:=Nat.div_pos (by omega) h0
   rw[uK h0,zS]
   have hh:hd1 (List.replicate (b/r) r++(ex r (b%r)++l))=r:=by rw[hd1,zix,if_pos hq]
   refine⟨j1,by rw[hh];omega,fun _=>⟨b/r,b%r,?_,by rw[hh];exact h1,hq,fun t ht=>by rw[hh,zix,if_pos ht],fun hrr=>?_⟩⟩
   ·rw[hh,Nat.mul_comm]
    exact(Nat.div_add_mod b r).symm
   ·rw[zix,if_neg (zbp _),kw]
    exact zDC hrr (by omega) l
  ·obtain rfl:r=0:=by omega
   rw[zeN,List.nil_append]
   rw[Nat.gcd_zero_right]at hf
   exact⟨hg,hf⟩
def zdZ:List (Nat×Nat)→List Nat
 |[]=>[]
 |(k,e)::l=>ex k e++zdZ l
def zxx:Nat→List (Nat×Nat)→Prop
 |g,[]=>g=1
 |g,(k,e)::l=>e=g∧0<e∧zxx (Nat.gcd e k) l
theorem zlY:∀(l:List (Nat×Nat)) (g:Nat),zxx g l→GL (zdZ l)∧Fol g (zdZ l)
 |[],g,h=>by
  have:g=1:=h
  subst this
  exact⟨trivial,zn _,fun h=>absurd h (zbp _)⟩
 |(k,e)::l,g,h=>by
  obtain⟨rfl,h1,h2⟩:=h
  obtain⟨i1,i2⟩:=zlY l _ h2
  have h3:Nat.gcd e (k%e)=Nat.gcd e k:=by rw[uN e (k%e),←Nat.gcd_rec]
  obtain⟨j1,j2⟩:=zvr e e (k%e) (zdZ l) (zn _) (kY _ h1) i1 (by rw[h3];exact i2)
  have:=ztZ h1 j2 j1 (k/e)
  rw[zdZ,uK h1,zS]
  exact this
theorem zrw:∀(l:List Nat),GL l→∀i,1≤l.getD i 1∧l.getD (i+1) 1≤l.getD i 1∧(l.getD (i+1) 1<l.getD i 1→∃c r,l.getD i 1=c*l.getD (i+1) 1+r∧r<l.getD (i+1) 1∧1≤c∧(∀t,t<c→l.getD (i+1+t) 1=l.getD (i+1) 1)∧(0<r→l.getD (i+1+c) 1=r))
 |[],_,i=>⟨by simp,by simp,fun h=>by simp at h⟩
 |x::l,h,0=>by
  obtain⟨h1,⟨h2,h3⟩,h4⟩:=h
  refine⟨h1,h2,fun h=>?_⟩
  obtain⟨c,r,e1,e2,e3,e4,e5⟩:=h3 h
  refine⟨c,r,e1,e2,e3,fun t ht=>?_,fun hr=>?_⟩
  ·have:=e4 t ht
   rw[show 0+1+t=t+1 by omega,qn]
   exact this
  ·rw[show 0+1+c=c+1 by omega,qn]
   exact e5 hr
 |x::l,h,i+1=>by
  have:=zrw l h.2.2 i
  rw[show i+1+1=(i+1)+1 from rfl]
  simp only[qn]
  refine⟨this.1,this.2.1,fun h=>?_⟩
  obtain⟨c,r,e1,e2,e3,e4,e5⟩:=this.2.2 h
  refine⟨c,r,e1,e2,e3,fun t ht=>?_,fun hr=>?_⟩
  ·rw[show i+1+1+t=(i+1+t)+1 by omega,qn]
   exact e4 t ht
  ·rw[show i+1+1+c=(i+1+c)+1 by omega,qn]
   exact e5 hr
def kA(M:Nat→Nat)(i:Nat):Nat→Nat
 |0=>0
 |k+1=>kA M i k+M (i+1+k)
structure GoodM (M:Nat→Nat):Prop where
 pos:∀i,1≤M i
 fall:∀i,M (i+1)≤M i
 drop:∀i,M (i+1)<M i→∃c r,M i=c*M (i+1)+r∧r<M (i+1)∧1≤c∧(∀t,t<c→M (i+1+t)=M (i+1))∧(0<r→M (i+1+c)=r)
theorem zzY{l:List Nat}(h:GL l):GoodM (fun i=>l.getD i 1):=
 ⟨fun i=>(zrw l h i).1,fun i=>(zrw l h i).2.1,fun i=>(zrw l h i).2.2⟩
theorem zdN{M:Nat→Nat}(h:GoodM M)(i:Nat):∀{k k':Nat},k<k'→kA M i k<kA M i k'
 |k,0,hk=>by omega
 |k,k'+1,hk=>by
  have:=h.pos (i+1+k')
  simp only[kA]
  by_cases hkk:k=k'
  ·subst hkk;omega
  ·have:=zdN h i (k:=k) (k':=k') (by omega)
   omega
theorem zrK{M:Nat→Nat}{i v:Nat}:∀k,(∀t,t<k→M (i+1+t)=v)→kA M i k=k*v
 |0,_=>by simp[kA]
 |k+1,h=>by
  simp only[kA,zrK k (fun t ht=>h t (by omega)),h k (by omega),Nat.add_mul]
  omega
def ztR(M:Nat→Nat)(i j:Nat):Prop:=kA M i (j-i)≤M i
theorem zzC{M:Nat→Nat}(h:GoodM M)(i:Nat):ztR M i (i+1):=by
 have:=h.fall i
 rw[ztR,show i+1-i=1 by omega]
 simpa [kA]using this
theorem zxY{M:Nat→Nat}(h:GoodM M){i i' j:Nat}(h1:i<i')(h2:i'+1<j)(hp:ztR M i j):¬ztR M i' j:=by
 intro hp'
 unfold ztR at hp hp'
 have two:∀x,kA M x 2=M (x+1)+M (x+1+1):=fun x=>by simp[kA]
 have one:∀x,kA M x 1=M (x+1):=fun x=>by simp[kA]
 have hlt:M (i+1)<M i:=by
  have a1:=zdN h i (k:=2) (k':=j-i) (by omega)
  have a2:=h.pos (i+1+1)
  rw[two]at a1
  omega
 obtain⟨c,r,e1,e2,e3,e4,e5⟩:=h.drop i hlt
 have hc:=zrK c e4
 have hc1:kA M i (c+1)=kA M i c+M (i+1+c):=rfl
 have hc2:kA M i (c+2)=kA M i (c+1)+M (i+1+(c+1)):=rfl
 have hj:j-i≤c+1:=by
  by_cases hh:j-i≤c+1
  ·exact hh
  ·exfalso
   have a3:kA M i (c+2)≤kA M i (j-i):=by
    by_cases hx:c+2=j-i
    ·rw[hx];exact zn _
    ·exact Nat.le_of_lt (zdN h i (by omega))
   have a4:=h.pos (i+1+(c+1))
   have a5:=h.pos (i+1+c)
   by_cases hr:0<r
   ·have:=e5 hr;omega
   ·omega
 have b1:M i'=M (i+1):=by
  have:=e4 (i'-i-1) (by omega)
  rwa [show i+1+(i'-i-1)=i' by omega]at this
 have b2:M (i'+1)=M (i+1):=by
  have:=e4 (i'-i) (by omega)
  rwa [show i+1+(i'-i)=i'+1 by omega]at this
 have a1:=zdN h i' (k:=1) (k':=j-i') (by omega)
 rw[one]at a1
 omega
end Go.Ax
