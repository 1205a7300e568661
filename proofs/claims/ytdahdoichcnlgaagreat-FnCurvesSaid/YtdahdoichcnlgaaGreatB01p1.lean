import Derived.Test.YtdahdoichcnlgaaGreatAxP4p1
import Derived.Test.YtdahdoichcnlgaaGreatProg
import Derived.KernelRfl
import Derived.IntWalk
import Derived.Test.YtdahdoichcnlgaaGreatRows
set_option linter.all false
set_option maxRecDepth 100000
set_option maxHeartbeats 1000000
open Bool renaming and_eq_false_iff->jS,and_eq_true->zh
open Int renaming eq_ofNat_of_zero_le->Qq,le_of_lt->zfn,natCast_nonneg->kP,tmod_lt_of_pos->kN,toNat_natCast->zW
open List renaming all_cons->Qz,all_eq_true->yd,append_assoc->zZ,drop_eq_nil_of_le->kn,getD_cons_succ->yT,getD_cons_zero->qr,getD_eq_getElem?_getD->zd,getElem?_append_right->ye,getElem?_eq_getElem->zg,getElem?_eq_none->zD,getElem?_map->zN,getElem?_range->YZ,map_congr_left->ky,map_map->Zj,mem_cons_of_mem->zx
open Nat renaming add_sub_cancel->qB,gcd_comm->jv,gcd_rec->Jp,le_of_ble_eq_true->ze,le_refl->zt,lt_irrefl->Qx,mod_lt->ZX
open Option.some renaming injEq->za
open Prod.mk renaming injEq->zb
/-
 The table of types,lists of numbers,arithmetic without overflow.
-/
namespace Go.Ax
open Go.Proofs
def tab:kj:=[(2,⟨.int .i64,1,.int .i64 0⟩),(3,⟨.int .i64,1,.int .i64 0⟩),(4,⟨.bool,1,.bool false⟩),(5,⟨.int .u8,1,.int .u8 0⟩),(22,⟨.slc 5,1,.slc true 5 (.int .u8 0) []⟩),(24,⟨.slc 57,1,.slc true 57 (.agg [.slc true 2 (.int .i64 0) []]) []⟩),(25,⟨.slc 29,1,.slc true 29 (.slc true 2 (.int .i64 0) []) []⟩),(27,⟨.agg [(0,24),(1,25)],2,.agg [.slc true 57 (.agg [.slc true 2 (.int .i64 0) []]) [],.slc true 29 (.slc true 2 (.int .i64 0) []) []]⟩),(29,⟨.slc 2,1,.slc true 2 (.int .i64 0) []⟩),(31,⟨.agg [(0,29),(1,29),(2,29)],3,.agg [.slc true 2 (.int .i64 0) [],.slc true 2 (.int .i64 0) [],.slc true 2 (.int .i64 0) []]⟩),(47,⟨.int .u64,1,.int .u64 0⟩),(52,⟨.slc 27,1,.slc true 27 (.agg [.slc true 57 (.agg [.slc true 2 (.int .i64 0) []]) [],.slc true 29 (.slc true 2 (.int .i64 0) []) []]) []⟩),(57,⟨.agg [(0,29)],1,.agg [.slc true 2 (.int .i64 0) []]⟩),(63,⟨.agg [(0,2),(1,2)],2,.agg [.int .i64 0,.int .i64 0]⟩),(86,⟨.agg [(0,22),(1,3),(2,47)],3,.agg [.slc true 5 (.int .u8 0) [],.int .i64 0,.int .u64 0]⟩),(87,⟨.int .u64,1,.int .u64 0⟩),(101,⟨.agg [(0,22),(1,3),(2,47)],3,.agg [.slc true 5 (.int .u8 0) [],.int .i64 0,.int .u64 0]⟩)]
theorem mixed: Tryz.prog.follows .mixedOrders=true:=by kernel_rfl
theorem zR:TabOk Tryz.prog tab:=⟨by kernel_rfl,by kernel_rfl,by kernel_rfl⟩
def I(xs:List Int):List V:=xs.map (.int .i64)
def yO(es:List V):List Int:=es.map V.toI
def YB(es:List V):Prop:=∃l,es=I l
@[simp] theorem zr(xs:List Int):yO (I xs)=xs:=by
  induction xs with
  |nil=>rfl
  |cons x l ih=>simp only[I,yO,List.map_cons,V.toI,List.cons.injEq,true_and]at ih ⊢;exact ih
@[simp] theorem zj(xs:List Int):(I xs).length=xs.length:=by simp[I]
@[simp] theorem zE(xs:List Int)(i:Nat):(I xs).getD i (.int .i64 0)=.int .i64 (xs.getD i 0):=by
  simp only[I,zd,zN];cases xs[i]? <;>rfl
@[simp] theorem JB(xs:List Int)(i:Nat)(y:Int):(I xs).set i (.int .i64 y)=I (xs.set i y):=by simp[I,List.map_set]
@[simp] theorem jY(xs ys:List Int):I xs++I ys=I (xs++ys):=by simp[I]
@[simp] theorem I_cons(x:Int)(xs:List Int):V.int .i64 x::I xs=I (x::xs):=by simp[I]
@[simp] theorem zjs(xs:List Int)(n:Nat):(I xs).take n=I (xs.take n):=by simp[I]
@[simp] theorem zC9(xs:List Int)(n:Nat):(I xs).drop n=I (xs.drop n):=by simp[I]
@[simp] theorem zc8(n:Nat)(x:Int):List.replicate n (V.int .i64 x)=I (List.replicate n x):=by simp[I]
@[simp] theorem zA(xs:List Int):V.frzs (I xs)=I xs:=by
  rw[V.frzs_eq];simp[I,V.frz]
@[simp] theorem zel(xs:List Int):V.noFzs (I xs)=true:=by
  rw[V.noFzs_eq];simp[I,V.noFz]
@[simp] theorem zh0(xs:List Int):V.owneds (I xs)=false:=by
  rw[V.owneds_eq];simp[I,V.owned]
@[simp] theorem I_nil:I []=[]:=rfl
theorem zkf(xs:List Int):∀x∈I xs,x.solid=true:=by
 intro x hx;simp only[I,List.mem_map]at hx;obtain⟨n,_,rfl⟩:=hx;rfl
@[simp] theorem Zb(o:Bool)(n:Int):vw uT tab o 20 2 (.int .i64 n)=some (.int .i64 n):=rfl
@[simp] theorem ok_int'(o:Bool)(n:Int):vw uT tab o 20 3 (.int .i64 n)=some (.int .i64 n):=rfl
@[simp] theorem kS(k:IntKind)(n:Int):uT.toI (.int k n)=n:=rfl
theorem zl{n:Int}(h1: -9223372036854775808<=n)(h2:n<=9223372036854775807):IntKind.wrap .i64 n=n:=IntWalk.i64_in n ⟨h1,h2⟩
theorem uN{α:Type}{xs:List α}{i:Nat}(d:α)(h:i<xs.length):xs.drop i=xs.getD i d::xs.drop (i+1):=by
 rw[List.drop_eq_getElem_cons h,zd,zg h];rfl
theorem zF{i:Int}(h:0<=i):(i+1).toNat=i.toNat+1:=by omega
theorem ztv{xs:List Int}{i:Nat}{p:Int->Bool}(h:i<xs.length):(xs.drop i).all p=(p (xs.getD i 0)&&(xs.drop (i+1)).all p):=by
 rw[uN 0 h,Qz]
theorem zo{L:Alg}{T:kj}(h:L=yk T):L.v=uT
 /\(∀(k:IntKind) (n:Int),L.wrap k n=(k.wrap n))
 /\(∀(a:Int) (b:Int),L.add a b=(a+b))
 /\(∀(a:Int) (b:Int),L.sub a b=(a-b))
 /\(∀(a:Int) (b:Int),L.mul a b=(a*b))
 /\(∀(a:Int) (b:Int),L.quo a b=(a.tdiv b))
 /\(∀(a:Int) (b:Int),L.rem a b=(a.tmod b))
 /\(∀(k:IntKind) (a:Int) (b:Int),L.band k a b=(zcd k a b))
 /\(∀(k:IntKind) (a:Int) (b:Int),L.shr k a b=(zeu k a b))
 /\(∀(a:Int) (b:Int),L.imin a b=(min a b))
 /\(∀(a:Int) (b:Int),L.imax a b=(max a b))
 /\(∀(a:Int) (b:Int),L.eqI a b=(a==b))
 /\(∀(a:Int) (b:Int),L.leI a b=(decide (a<=b)))
 /\(∀(a:Int) (b:Int),L.ltI a b=(decide (a<b)))
 /\(∀(a:Bool) (b:Bool),L.eqB a b=(a==b))
 /\(∀(a:Bool),L.not a=(!a))
 /\(∀(a:Bool) (b:Bool),L.and a b=(a&&b))
 /\(∀(c:Bool) (a:Bool) (b:Bool),L.pick c a b=(bif c then a else b))
 /\(∀(a:ByteArray) (b:ByteArray),L.eqS a b=(a.toList==b.toList))
 /\(∀(a:ByteArray) (b:ByteArray),L.ltS a b=(Op.bytesLess a.toList b.toList))
 /\(∀(a:ByteArray) (b:ByteArray),L.appS a b=(a++b))
 /\(∀(a:ByteArray),L.lenS a=((a.size:Int)))
 /\(∀(s:ByteArray) (n:Int),L.getS s n=(((s.data.getD n.toNat 0).toNat:Int)))
 /\(∀(s:ByteArray) (l:Int) (h:Int),L.extS s l h=(s.extract l.toNat h.toNat))
 /\(∀(es:List V),L.len es=((es.length:Int)))
 /\(∀(es:List V) (i:Nat) (d:V),L.get es i d=(es.getD i d))
 /\(∀(es:List V) (i:Nat) (y:V),L.set es i y=(es.set i y))
 /\(∀(a:List V) (b:List V),L.app a b=(a++b))
 /\(∀(es:List V) (l:Int) (h:Int),L.sli es l h=((es.take h.toNat).drop l.toNat))
 /\(∀(n:Int) (z:V),L.rep n z=(List.replicate n.toNat z))
 /\(∀(x:List V),L.frz x=(V.frzs x))
 /\(∀(x:Int),L.nat x=(Int.toNat x))
 /\(∀(i:Nat) (es:List V),L.ltN i es=(i<es.length))
 /\(∀(es:List V),L.nofz es=(V.noFzs es=true))
 /\(∀(es:List V),L.nown es=(V.owneds es=false))
 /\(∀(es:List V),L.emp es=(es=[]))
 /\(∀(o:Bool) (t:TypeId) (y:V),L.ok o t y=(vw uT T o 20 t y=some y))
 /\(∀(t:TypeId) (y:V),L.okS t y=OkS T t y)
 /\(∀(es:List V),L.solid es=(∀x∈es,x.solid=true))
 /\(∀(a:Int) (b:Int),L.le a b=(a<=b))
 /\(∀(a:Int) (b:Int),L.lt a b=(a<b))
 /\(∀(b:Int),L.ne0 b=(b≠0))
 /\(∀(b:Bool) (p:Prop),L.imp b p=(b=true->p))
 /\(∀(b:Bool),L.tt b=(b=true))
 /\(∀(b:Bool) (p:Prop) (q:Prop),L.ifP b p q=((b=true->p)/\(b=false->q)))
 /\(∀(es:List V),L.strB es=zfb es)
 /\(∀(es:List V),L.byt es=zkb es):=by
 subst h;exact⟨rfl,by intros;rfl,by intros;rfl,by intros;rfl,by intros;rfl,by intros;rfl,by intros;rfl,by intros;rfl,by intros;rfl,by intros;rfl,by intros;rfl,by intros;rfl,by intros;rfl,by intros;rfl,by intros;rfl,by intros;rfl,by intros;rfl,by intros;rfl,by intros;rfl,by intros;rfl,by intros;rfl,by intros;rfl,by intros;rfl,by intros;rfl,by intros;rfl,by intros;rfl,by intros;rfl,by intros;rfl,by intros;rfl,by intros;rfl,by intros;rfl,by intros;rfl,by intros;rfl,by intros;rfl,by intros;rfl,by intros;rfl,by intros;rfl,by intros;rfl,by intros;rfl,by intros;rfl,by intros;rfl,by intros;rfl,by intros;rfl,by intros;rfl,by intros;rfl,by intros;rfl,by intros;rfl⟩
end Go.Ax
namespace Go.Ax
open Go.Proofs
def qW(f0:Int->Int->Int->Bool):zK:=fun
 |[.int .i64 a0,.int .i64 a1,.int .i64 a2]=>some ([],.bool (f0 a0 a1 a2))
 |_=>none
def yi(a b c:Int):Bool:=decide (b<=a)&&decide (a<=c)
theorem JF:yJ Tryz.prog 88 (qW yi):=by
 intro args ps r h hp;unfold qW at h;split at h
 ·rename_i a0 a1 a2;simp only[za,zb]at h;obtain⟨rfl,rfl⟩:=h;refine zeh (T:=tab) (B:=[]) [0,1,2,6] Tryz.func88 rfl rfl (by kernel_rfl) (ze rfl) mixed zR zB (by kernel_rfl) ?_;intro L lp rr hL hr hf hlp
  conv=>cbv
  subst hL hr;simp[yk,yi]
 ·cases h
def Kj(f0:List V->Int->Int->Bool)(q:List V->Prop):zK:=fun
 |[.slc false 2 (.int .i64 0) a0,.int .i64 a1,.int .i64 a2]=>some ([q a0],.bool (f0 a0 a1 a2))
 |_=>none
def qG(l:List Int)(a b:Int):Bool:=l.all fun x=>yi x a b
def Ji(es:List V)(a b:Int):Bool:=qG (yO es) a b
theorem zdD:yJ Tryz.prog 61 (Kj Ji YB):=by
 intro args ps r h hp;unfold Kj at h;split at h
 ·rename_i a0 a1 a2;simp only[za,zb]at h;obtain⟨rfl,rfl⟩:=h;obtain⟨xs,hxs⟩:YB a0:=(zm.1 hp).1;generalize HF0IMPLINRANGE:yi=F0IMPLINRANGE;refine zeh (T:=tab) (B:=[(88,qW F0IMPLINRANGE)]) [0,1,2,6,8,9,10,11] Tryz.func61 rfl rfl (by kernel_rfl) (ze rfl) mixed zR (by subst HF0IMPLINRANGE;exact(zn JF zB)) (by kernel_rfl) ?_;intro L lp rr hL hr hf hlp;obtain⟨n,hn⟩:∃n:Int,n=a0.length:=⟨_,rfl⟩;have hlen:=hf.1.1
  conv=>cbv
  refine hlp (Int) _ _ _ [1,2,9,10,11] (fun i=>[(1,none,.val (.int .i64 a1)),(2,none,.val (.int .i64 a2)),(9,none,.val (.slc false 2 (.int .i64 0) a0)),(10,none,.val (.int .i64 n)),(11,none,.val (.int .i64 i))]) (fun i=>0<=i/\i<=n/\qG xs a1 a2=qG (xs.drop i.toNat) a1 a2) (fun i=>(n-i).toNat) 0 (by subst hL hn;rfl) ?_ ?_
  ·subst hxs hn;simp
  ·rintro i ⟨i0,i1,i2⟩ hfx ag hag
   conv=>cbv
   subst hL hr HF0IMPLINRANGE hxs;simp only[yk,zE,Zb,kS,zj,imp_self,true_and,decide_eq_true_eq,decide_eq_false_iff_not,Bool.not_eq_true',Bool.not_eq_false',V.bool.injEq,Ji,zr]at hn hlen ⊢;refine⟨fun h=>⟨i0,by omega,fun h1=>?_,fun h1=>?_⟩,fun h=>?_⟩
   ·rw[i2,qG,ztv (by omega),h1];rfl
   ·rw[zl (by omega) (by omega)];refine hag _ ⟨by omega,by omega,?_⟩ (by omega);rw[i2,qG,qG,ztv (by omega),zF i0,h1];rfl
   ·rw[i2,kn (by omega)];rfl
 ·cases h
def zCW(xs:List Int):Nat->Int->Int->Int×Int×Int
 |0,t,b=>(t,b,0)
 |k+1,t,b=>
  if 1000000000000<IntKind.wrap .i64 (IntKind.wrap .i64 (xs.getD k 0*t)-b)then(0,0,3)
  else zCW xs k (IntKind.wrap .i64 (IntKind.wrap .i64 (xs.getD k 0*t)-b)) t
def cf(xs:List Int):Int×Int×Int:=bif (bif (bif decide ((xs.length:Int)<1)then true else decide (30<(xs.length:Int)))then true else !qG xs 2 1000)then(0,0,1)else zCW xs xs.length 1 0
theorem JE:yJ Tryz.prog 82 (qW yi):=by
 intro args ps r h hp;unfold qW at h;split at h
 ·rename_i a0 a1 a2;simp only[za,zb]at h;obtain⟨rfl,rfl⟩:=h;refine zeh (T:=tab) (B:=[]) [0,1,2,6] Tryz.func82 rfl rfl (by kernel_rfl) (ze rfl) mixed zR zB (by kernel_rfl) ?_;intro L lp rr hL hr hf hlp
  cbv
  subst hL hr;simp[yk,yi]
 ·cases h
def ui(f0:List V->List V)(q:List V->Prop):zK:=fun
 |[.slc false 2 (.int .i64 0) a0]=>some ([q a0],.slc true 2 (.int .i64 0) (f0 a0))
 |_=>none
def same(es:List V):List V:=es
def ub(es:List V):Prop:=(∃l,es=I l)/\es.length<=2147483647
def JL(a b:List V):Bool:=decide (yO a=yO b)
def yes(_:List V):Bool:=true
end Go.Ax
namespace Go.Ax
open Go.Proofs
def zxc(f0:Int->Int):zK:=fun
 |[.int .i64 a0]=>some ([],.int .i64 (f0 a0))
 |_=>none
def zch(a:Int):Int:=bif decide (a<0)then IntKind.wrap .i64 (0-a)else a
theorem zwi:yJ Tryz.prog 131 (zxc zch):=by
 intro args ps r h hp;unfold zxc at h;split at h
 ·rename_i a0;simp only[za,zb]at h;obtain⟨rfl,rfl⟩:=h;refine zeh (T:=tab) (B:=[]) [0,2] Tryz.func131 rfl rfl (by kernel_rfl) (ze rfl) mixed zR zB (by kernel_rfl) ?_;intro L lp rr hL hr hf hlp
  conv=>cbv
  simp only[zo hL,imp_self,true_and];subst hr;refine⟨fun h=>?_,fun h=>?_⟩<;>simp only[zch,h,cond_true,cond_false]
 ·cases h
def zdq(f0:Int->Int->Int)(q:Int->Int->Prop):zK:=fun
 |[.int .i64 a0,.int .i64 a1]=>some ([q a0 a1],.int .i64 (f0 a0 a1))
 |_=>none
def ne0(_ b:Int):Prop:=b≠0
def zax(a b:Int):Int:=if _h:0<b then zax b (a.tmod b)else a
termination_by b.toNat
decreasing_by
 have:=kN a (by assumption);omega
def qZ(a b:Int):Int:=zax (zch a) (zch b)
def zg7(_ _:Int):Prop:=True
theorem KQ{a b:Int}(h:0<b):zax a b=zax b (a.tmod b):=by rw[zax,dif_pos h]
theorem JS{a b:Int}(h:¬0<b):zax a b=a:=by rw[zax,dif_neg h]
theorem zn8:yJ Tryz.prog 111 (zdq qZ zg7):=by
 intro args ps r h hp;unfold zdq at h;split at h
 ·rename_i a0 a1;simp only[za,zb]at h;obtain⟨rfl,rfl⟩:=h;generalize HA:zch=A0;refine zeh (T:=tab) (B:=[(131,zxc A0)]) [0,1,4] Tryz.func111 rfl rfl (by kernel_rfl) (ze rfl) mixed zR (by subst HA;exact zn zwi zB) (by kernel_rfl) ?_;intro L lp rr hL hr hf hlp
  conv=>cbv
  refine hlp (Int×Int) _ _ _ [0,1] (fun x=>[(0,none,.val (.int .i64 x.1)),(1,none,.val (.int .i64 x.2))])
   (fun x=>qZ a0 a1=zax x.1 x.2) (fun x=>x.2.toNat) (A0 a0,A0 a1) (by subst hL;rfl) (by subst HA;rfl) ?_
  rintro⟨a,b⟩ hI hfx ag hag
  conv=>cbv
  simp only[zo hL,imp_self,true_and,decide_eq_true_eq,decide_eq_false_iff_not];simp only at hI;refine⟨fun h=>⟨by omega,hag (b,a.tmod b) (by rw[hI,KQ h]) ?_⟩,fun h=>?_⟩
  ·have:=kN a h;simp only;omega
  ·subst hr;rw[hI,JS h]
 ·cases h
theorem zdC:yJ Tryz.prog 112 (zdq qZ zg7):=by
 intro args ps r h hp;unfold zdq at h;split at h
 ·rename_i a0 a1;simp only[za,zb]at h;obtain⟨rfl,rfl⟩:=h;refine zeh (T:=tab) (B:=[]) [0,1,4,5] Tryz.func112 rfl rfl (by kernel_rfl) (ze rfl) mixed zR zB (by kernel_rfl) ?_;intro L lp rr hL hr hf hlp
  conv=>cbv
  simp only[zo hL,imp_self,true_and,decide_eq_true_eq,decide_eq_false_iff_not];refine⟨fun h0=>⟨fun h1=>?_,fun h1=>?_⟩,fun h0=>⟨fun h1=>?_,fun h1=>?_⟩⟩
  ·refine hlp (Int×Int) _ _ _ [0,1] (fun x=>[(0,none,.val (.int .i64 x.1)),(1,none,.val (.int .i64 x.2))])
    (fun x=>qZ a0 a1=zax x.1 x.2) (fun x=>x.2.toNat) (IntKind.wrap .i64 (0-a0),IntKind.wrap .i64 (0-a1)) (by subst hL;rfl) (by simp[qZ,zch,h0,h1]) ?_
   rintro⟨a,b⟩ hI hfx ag hag
   conv=>cbv
   simp only[zo hL,imp_self,true_and,decide_eq_true_eq,decide_eq_false_iff_not];simp only at hI;refine⟨fun h=>⟨by omega,hag (b,a.tmod b) (by rw[hI,KQ h]) ?_⟩,fun h=>?_⟩
   ·have:=kN a h;simp only;omega
   ·subst hr;rw[hI,JS h]
  ·refine hlp (Int×Int) _ _ _ [0,1] (fun x=>[(0,none,.val (.int .i64 x.1)),(1,none,.val (.int .i64 x.2))])
    (fun x=>qZ a0 a1=zax x.1 x.2) (fun x=>x.2.toNat) (IntKind.wrap .i64 (0-a0),a1) (by subst hL;rfl) (by simp[qZ,zch,h0,h1]) ?_
   rintro⟨a,b⟩ hI hfx ag hag
   conv=>cbv
   simp only[zo hL,imp_self,true_and,decide_eq_true_eq,decide_eq_false_iff_not];simp only at hI;refine⟨fun h=>⟨by omega,hag (b,a.tmod b) (by rw[hI,KQ h]) ?_⟩,fun h=>?_⟩
   ·have:=kN a h;simp only;omega
   ·subst hr;rw[hI,JS h]
  ·refine hlp (Int×Int) _ _ _ [0,1] (fun x=>[(0,none,.val (.int .i64 x.1)),(1,none,.val (.int .i64 x.2))])
    (fun x=>qZ a0 a1=zax x.1 x.2) (fun x=>x.2.toNat) (a0,IntKind.wrap .i64 (0-a1)) (by subst hL;rfl) (by simp[qZ,zch,h0,h1]) ?_
   rintro⟨a,b⟩ hI hfx ag hag
   conv=>cbv
   simp only[zo hL,imp_self,true_and,decide_eq_true_eq,decide_eq_false_iff_not];simp only at hI;refine⟨fun h=>⟨by omega,hag (b,a.tmod b) (by rw[hI,KQ h]) ?_⟩,fun h=>?_⟩
   ·have:=kN a h;simp only;omega
   ·subst hr;rw[hI,JS h]
  ·refine hlp (Int×Int) _ _ _ [0,1] (fun x=>[(0,none,.val (.int .i64 x.1)),(1,none,.val (.int .i64 x.2))])
    (fun x=>qZ a0 a1=zax x.1 x.2) (fun x=>x.2.toNat) (a0,a1) (by subst hL;rfl) (by simp[qZ,zch,h0,h1]) ?_
   rintro⟨a,b⟩ hI hfx ag hag
   conv=>cbv
   simp only[zo hL,imp_self,true_and,decide_eq_true_eq,decide_eq_false_iff_not];simp only at hI;refine⟨fun h=>⟨by omega,hag (b,a.tmod b) (by rw[hI,KQ h]) ?_⟩,fun h=>?_⟩
   ·have:=kN a h;simp only;omega
   ·subst hr;rw[hI,JS h]
 ·cases h
end Go.Ax
namespace Go.Ax
open Go.Proofs
theorem zsN{xs:List Int}{i:Nat}(h:i+1<xs.length):xs.drop i=xs.getD i 0::xs.getD (i+1) 0::xs.drop (i+2):=by
 rw[uN 0 (by omega),uN 0 h]
theorem qO(n:Int):V.owneds [V.int .i64 n]=false:=rfl
theorem jT{v:V}(h:v.solid=true):∀x∈[v],x.solid=true:=by
 intro x hx;simp at hx;subst hx;exact h
theorem yY(n:Int):∀x∈[V.int .i64 n],x.solid=true:=by
 intro x hx;simp at hx;subst hx;rfl
def Zg(d:Int):List Int->List Int
 |[]=>[]
 |t::l=>qZ d t::Zg (qZ d t) l
def dv(xs:List Int):List Int:=Zg 0 xs
theorem zlK:∀(l:List Int) (d:Int),(Zg d l).length=l.length
 |[],_=>rfl
 |_::l,_=>by simp[Zg,zlK l]
def zqV(f0:List V->List V)(q:List V->Prop):zK:=fun
 |[.slc false 2 (.int .i64 0) a0]=>some ([q a0],.slc true 2 (.int .i64 0) (f0 a0))
 |_=>none
def zqW(f0:List V->List V)(q:List V->Prop):zK:=fun
 |[.agg [.slc false 2 (.int .i64 0) a0]]=>some ([q a0],.slc true 2 (.int .i64 0) (f0 a0))
 |_=>none
def Jx(es:List V):List V:=I (dv (yO es))
theorem zfO:yJ Tryz.prog 106 (zqV Jx ub):=by
 intro args ps r h hp;unfold zqV at h;split at h
 ·rename_i a0;simp only[za,zb]at h;obtain⟨rfl,rfl⟩:=h;obtain⟨⟨xs,hxs⟩,hlen⟩:ub a0:=(zm.1 hp).1;have hxl:a0.length=xs.length:=by rw[hxs,zj]
  rw[hxl]at hlen;obtain⟨m,hm⟩:∃m:Int,m=a0.length:=⟨_,rfl⟩;generalize YC:qZ=zdw;generalize uJ:zg7=zal;refine zI (T:=tab) (B:=[(111,zdq zdw zal)]) (Bi:=[]) [0,2,3,4,6,8,9,10] Tryz.func106 rfl rfl (by kernel_rfl) (ze rfl) mixed zR (by subst YC uJ;exact(zn zn8 zB)) (by subst YC uJ;exact zy) (by kernel_rfl) ?_;intro L lp rr hL hr hf hlp
  conv=>cbv
  refine hlp (List V×Int×Int) _ _ _ [3,4,8,9,10] (fun x=>[(3,none,.val (.slc true 2 (.int .i64 0) x.1)),(4,none,.val (.int .i64 x.2.1)),(8,none,.val (.slc false 2 (.int .i64 0) a0)),(9,none,.val (.int .i64 m)),(10,none,.val (.int .i64 x.2.2))])
   (fun x=>0<=x.2.2/\x.2.2<=xs.length/\∃pre:List Int,x.1=I pre/\pre.length=x.2.2.toNat/\dv xs=pre++Zg x.2.1 (xs.drop x.2.2.toNat)) (fun x=>(xs.length-x.2.2).toNat) ([],0,0) (by subst hL hm;rfl) ⟨by simp,by simp,[],rfl,rfl,by simp[dv]⟩ ?_
  rintro⟨es,d,i⟩ ⟨i0,i1,pre,h1,h2,h3⟩ hfx ag hag
  conv=>cbv
  have hm':m=xs.length:=by rw[hm,hxl]
  have hg:a0.getD i.toNat (.int .i64 0)=.int .i64 (xs.getD i.toNat 0):=by rw[hxs,zE]
  simp only at i0 i1 h1 h2 h3;have hel:es.length=pre.length:=by rw[h1,zj]
  simp only[zo hL,hxl,hg,hel,Zb,kS,imp_self,true_and,decide_eq_true_eq,decide_eq_false_iff_not];refine⟨fun h=>⟨i0,by omega,?_,rfl,by simp;omega,yY _,?_⟩,fun h=>?_⟩
  ·subst uJ;trivial
  ·rw[zl (n:=i+1) (by omega) (by omega)];subst YC;refine hag (es++[.int .i64 (qZ d (xs.getD i.toNat 0))],qZ d (xs.getD i.toNat 0),i+1) ⟨by simp only;omega,by simp only;omega,pre++[qZ d (xs.getD i.toNat 0)],by rw[h1];simp[I],by simp;omega,?_⟩ (by simp only;omega);simp only[zF i0];rw[h3,uN 0 (by omega),Zg];simp
  ·subst hr;rw[kn (by omega)]at h3;simp only[Zg,List.append_nil]at h3;rw[Jx,hxs,zr,h3,h1]
 ·cases h
theorem zfZ{t:Int}(h:0<t):qZ 0 t=t:=by
 have e1:zch 0=0:=rfl
 have e2:zch t=t:=by
  have:decide (t<0)=false:=by simp;omega
  rw[zch,this];rfl
 rw[qZ,e1,e2,KQ h,Int.zero_tmod,JS (by omega)]
def IsP(es:List V):Prop:=∃(t:Int) (l:List Int),es=I (t::l)/\0<t/\l.length<2147483647
theorem zdd:yJ Tryz.prog 142 (zqW Jx IsP):=by
 intro args ps r h hp;unfold zqW at h;split at h
 ·rename_i a0;simp only[za,zb]at h;obtain⟨rfl,rfl⟩:=h;obtain⟨t0,l0,hxs,ht,hlen⟩:IsP a0:=(zm.1 hp).1;obtain⟨xs,hx⟩:∃xs,xs=t0::l0:=⟨_,rfl⟩;have hxs':a0=I xs:=by rw[hxs,hx]
  have hxl:a0.length=xs.length:=by rw[hxs',zj]
  have hxn:xs.length=l0.length+1:=by rw[hx];rfl
  have hx0:xs.getD 0 0=t0:=by rw[hx];rfl
  generalize YC:qZ=zdw;generalize uJ:zg7=zal;refine zI (T:=tab) (B:=[(112,zdq zdw zal)]) (Bi:=[]) [0,1,2,3,4] Tryz.func142 rfl rfl (by kernel_rfl) (ze rfl) mixed zR (by subst YC uJ;exact(zn zdC zB)) (by subst YC uJ;exact zy) (by kernel_rfl) ?_;intro L lp rr hL hr hf hlp
  conv=>cbv
  have hg0:a0.getD (Int.toNat 0) (.int .i64 0)=.int .i64 (xs.getD 0 0):=by rw[hxs',zE];rfl
  simp only[zo hL,hxl,hg0,Zb,kS,imp_self,true_and,decide_eq_true_eq,decide_eq_false_iff_not];refine⟨by omega,by omega,?_⟩
  refine hlp (List V×Int) _ _ _ [1,3,4] (fun x=>[(1,none,.val (.box 57 (.agg [.slc false 2 (.int .i64 0) a0]))),(3,none,.val (.slc true 2 (.int .i64 0) x.1)),(4,none,.val (.int .i64 x.2))])
   (fun x=>0<x.2/\x.2<=xs.length/\∃(pre:List Int) (d:Int),x.1=I pre/\pre.length=x.2.toNat/\pre.getD (x.2.toNat-1) 0=d/\dv xs=pre++Zg d (xs.drop x.2.toNat)) (fun x=>(xs.length-x.2).toNat) ([.int .i64 (xs.getD 0 0)],1) (by subst hL;rfl)
   ⟨by simp,by simp only;omega,[t0],t0,by rw[hx0];rfl,rfl,rfl,by rw[hx];simp[dv,Zg,zfZ ht]⟩ ?_
  rintro⟨es,i⟩ ⟨i0,i1,pre,d,h1,h2,h4,h3⟩ hfx ag hag
  conv=>cbv
  have hg:a0.getD i.toNat (.int .i64 0)=.int .i64 (xs.getD i.toNat 0):=by rw[hxs',zE]
  simp only at i0 i1 h1 h2 h3 h4;have hel:es.length=pre.length:=by rw[h1,zj]
  have ew:IntKind.wrap .i64 (i-1)=i-1:=zl (by omega) (by omega);have ge:es.getD (i-1).toNat (.int .i64 0)=.int .i64 d:=by rw[h1,zE,show(i-1).toNat=i.toNat-1 by omega,h4]
  simp only[zo hL,hxl,hg,hel,ew,ge,Zb,kS,imp_self,true_and,decide_eq_true_eq,decide_eq_false_iff_not];refine⟨fun h=>⟨by omega,by omega,by omega,by omega,by omega,?_,rfl,by simp;omega,yY _,?_⟩,fun h=>?_⟩
  ·subst uJ;trivial
  ·rw[zl (n:=i+1) (by omega) (by omega)];subst YC;refine hag (es++[.int .i64 (qZ d (xs.getD i.toNat 0))],i+1) ⟨by simp only;omega,by simp only;omega,pre++[qZ d (xs.getD i.toNat 0)],qZ d (xs.getD i.toNat 0),by rw[h1];simp[I],by simp;omega,?_,?_⟩ (by simp only;omega)
   ·simp only[zF (zfn i0),qB];rw[zd,ye (by omega),show i.toNat-pre.length=0 by omega];rfl
   ·simp only[zF (zfn i0)];rw[h3,uN 0 (by omega),Zg];simp
  ·subst hr;rw[kn (by omega)]at h3;simp only[Zg,List.append_nil]at h3;rw[Jx,hxs',zr,h3,h1]
 ·cases h
def asc:List Int->Bool
 |a::b::l=>bif decide (b<=a)then false else asc (b::l)
 |_=>true
def zbg(f0:List V->Bool)(q:List V->Prop):zK:=fun
 |[.slc false 2 (.int .i64 0) a0]=>some ([q a0],.bool (f0 a0))
 |_=>none
def zdp(es:List V):Bool:=asc (yO es)
theorem zgM:yJ Tryz.prog 60 (zbg zdp YB):=by
 intro args ps r h hp;unfold zbg at h;split at h
 ·rename_i a0;simp only[za,zb]at h;obtain⟨rfl,rfl⟩:=h;obtain⟨xs,hxs⟩:YB a0:=(zm.1 hp).1;have hxl:a0.length=xs.length:=by rw[hxs,zj]
  refine zI (T:=tab) (B:=[]) (Bi:=[]) [0,2,3] Tryz.func60 rfl rfl (by kernel_rfl) (ze rfl) mixed zR (by exact zB) (by exact zy) (by kernel_rfl) ?_;intro L lp rr hL hr hf hlp;have hlen:=hf.1.1;rw[hxl]at hlen;have hrr:rr=.bool (asc xs):=by rw[hr,zdp,hxs,zr]
  conv=>cbv
  refine hlp (Int) _ _ _ [0,3] (fun x=>[(0,none,.val (.slc false 2 (.int .i64 0) a0)),(3,none,.val (.int .i64 x))])
   (fun x=>0<x/\asc xs=asc (xs.drop (x.toNat-1))) (fun x=>(xs.length-x).toNat) 1 (by subst hL;rfl) (by simp) ?_
  rintro i ⟨i0,h2⟩ hfx ag hag
  conv=>cbv
  have hg:a0.getD i.toNat (.int .i64 0)=.int .i64 (xs.getD i.toNat 0):=by rw[hxs,zE]
  have hg':a0.getD (i-1).toNat (.int .i64 0)=.int .i64 (xs.getD (i.toNat-1) 0):=by rw[hxs,zE,show(i-1).toNat=i.toNat-1 by omega]
  have key:i<xs.length->xs.drop (i.toNat-1)=xs.getD (i.toNat-1) 0::xs.getD i.toNat 0::xs.drop (i.toNat+1):=by
   intro h;rw[zsN (by omega)];rw[show i.toNat-1+1=i.toNat by omega,show i.toNat-1+2=i.toNat+1 by omega]
  by_cases hb:i<xs.length
  ·have ew:IntKind.wrap .i64 (i-1)=i-1:=zl (by omega) (by omega);simp only[zo hL,hxl,hg,ew,hg',Zb,kS,imp_self,true_and,decide_eq_true_eq,decide_eq_false_iff_not];refine⟨fun h=>⟨by omega,by omega,by omega,by omega,fun h4=>?_,fun h4=>?_⟩,fun h=>absurd hb h⟩
   ·rw[hrr,h2,key h,asc,decide_eq_true h4];rfl
   ·rw[zl (n:=i+1) (by omega) (by omega)];refine hag (i+1) ⟨by omega,?_⟩ (by omega);have e1:xs.drop i.toNat=xs.getD i.toNat 0::xs.drop (i.toNat+1):=uN 0 (by omega);rw[h2,key h,asc,decide_eq_false h4,show(i+1).toNat-1=i.toNat by omega,e1];rfl
  ·have hz:asc (xs.drop (i.toNat-1))=true:=by
    have hl:(xs.drop (i.toNat-1)).length<=1:=by rw[List.length_drop];omega
    match xs.drop (i.toNat-1),hl with
    |[],_=>rfl
    |[_],_=>rfl
   simp only[zo hL,hxl,decide_eq_true_eq,decide_eq_false_iff_not];exact⟨fun h=>absurd h hb,fun _=>by rw[hrr,h2,hz]⟩
 ·cases h
theorem zhG:∀(n:Nat) (a b:Int),b.toNat<=n->0<=a->0<=b->zax a b=(Nat.gcd a.toNat b.toNat:Int)
 |0,a,b,hn,ha,hb=>by
  obtain rfl:b=0:=by omega
  rw[JS (by omega)];simp;omega
 |n+1,a,b,hn,ha,hb=>by
  by_cases h:0<b
  ·have h1:(a.tmod b)=((a.toNat%b.toNat:Nat):Int):=by
    obtain⟨x,rfl⟩:=Qq ha;obtain⟨y,rfl⟩:=Qq hb;rw[Int.tmod_eq_emod_of_nonneg (kP x)];simp
   have h2:a.toNat%b.toNat<b.toNat:=ZX _ (by omega);rw[KQ h,zhG n b (a.tmod b) (by rw[h1,zW];omega) hb (by rw[h1];exact kP _),h1];simp only[zW];rw[jv a.toNat b.toNat,Jp b.toNat a.toNat,jv]
  ·obtain rfl:b=0:=(by omega);rw[JS (by omega)];simp;omega
theorem zcH{t:Int}(h:0<t):zch t=t:=by
 have:decide (t<0)=false:=by simp;omega
 rw[zch,this];rfl
theorem zvh{a b:Int}(ha:0<a)(hb:0<b):0<qZ a b/\qZ a b<=a/\qZ a b<=b:=by
 rw[qZ,zcH ha,zcH hb,zhG b.toNat a b (zt _) (by omega) (by omega)];have h1:=Nat.gcd_pos_of_pos_left b.toNat (show 0<a.toNat by omega);have h2:=Nat.le_of_dvd (show 0<a.toNat by omega) (Nat.gcd_dvd_left a.toNat b.toNat);have h3:=Nat.le_of_dvd (show 0<b.toNat by omega) (Nat.gcd_dvd_right a.toNat b.toNat);omega
def dec:List Int->Bool
 |a::b::l=>bif decide (a<=b)then false else dec (b::l)
 |[a]=>a==1
 |[]=>false
def zcE(es:List V):Bool:=dec (dv (yO es))
def zjI(es:List V):Prop:=ub es/\es≠[]
theorem zrq:yJ Tryz.prog 89 (zbg zcE zjI):=by
 intro args ps r h hp;unfold zbg at h;split at h
 ·rename_i a0;simp only[za,zb]at h;obtain⟨rfl,rfl⟩:=h;obtain⟨⟨⟨xs,hxs⟩,hlen⟩,hne⟩:zjI a0:=(zm.1 hp).1;have hxl:a0.length=xs.length:=by rw[hxs,zj]
  obtain⟨ds,hds⟩:∃ds,ds=dv xs:=⟨_,rfl⟩;have hdl:ds.length=xs.length:=by rw[hds,dv,zlK]
  have hpos:0<xs.length:=by
   cases xs with
   |nil=>exact absurd hxs hne
   |cons x l=>simp
  have hf0:Jx (V.frzs a0)=I ds:=by rw[hxs,zA,Jx,zr,hds]
  have hq:ub (V.frzs a0):=by rw[hxs,zA];exact⟨⟨xs,rfl⟩,by rw[<-hxs];exact hlen⟩
  have hrr0:zcE a0=dec ds:=by rw[zcE,hxs,zr,hds]
  rw[hxl]at hlen;generalize ZN:Jx=Kr;generalize yP:ub=ki;refine zI (T:=tab) (B:=[(106,zqV Kr ki)]) (Bi:=[]) [0,2,3,4] Tryz.func89 rfl rfl (by kernel_rfl) (ze rfl) mixed zR (by subst ZN yP;exact(zn zfO zB)) (by subst ZN yP;exact zy) (by kernel_rfl) ?_;intro L lp rr hL hr hf hlp
  conv=>cbv
  have hF:Kr (V.frzs a0)=I ds:=by rw[<-ZN];exact hf0
  simp only[zo hL,hF];refine⟨by rw[<-yP];exact hq,?_⟩;obtain⟨es,hes⟩:∃es,es=I ds:=⟨_,rfl⟩;have hel:es.length=ds.length:=by rw[hes,zj]
  refine hlp (Int) _ _ _ [3,4] (fun x=>[(3,none,.val (.slc true 2 (.int .i64 0) es)),(4,none,.val (.int .i64 x))])
   (fun x=>0<x/\x<=ds.length/\dec ds=dec (ds.drop (x.toNat-1))) (fun x=>(ds.length-x).toNat) 1 (by subst hL hes;rfl) ⟨by simp,by omega,by simp⟩ ?_
  rintro i ⟨i0,i1,h2⟩ hfx ag hag
  conv=>cbv
  have ew:IntKind.wrap .i64 (i-1)=i-1:=zl (by omega) (by omega);have ew2:IntKind.wrap .i64 ((ds.length:Int)-1)=(ds.length:Int)-1:=zl (by omega) (by omega);have hg:es.getD i.toNat (.int .i64 0)=.int .i64 (ds.getD i.toNat 0):=by rw[hes,zE]
  have hg':es.getD (i-1).toNat (.int .i64 0)=.int .i64 (ds.getD (i.toNat-1) 0):=by rw[hes,zE,show(i-1).toNat=i.toNat-1 by omega]
  have hg2:es.getD ((ds.length:Int)-1).toNat (.int .i64 0)=.int .i64 (ds.getD (ds.length-1) 0):=by rw[hes,zE,show((ds.length:Int)-1).toNat=ds.length-1 by omega]
  simp only[zo hL,hel,hg,hg',hg2,ew,ew2,Zb,kS,imp_self,true_and,decide_eq_true_eq,decide_eq_false_iff_not];have hrr:rr=.bool (dec ds):=by rw[hr,hrr0]
  refine⟨fun h=>?_,fun h=>?_⟩
  ·have key:ds.drop (i.toNat-1)=ds.getD (i.toNat-1) 0::ds.getD i.toNat 0::ds.drop (i.toNat+1):=by
    rw[zsN (by omega)];rw[show i.toNat-1+1=i.toNat by omega,show i.toNat-1+2=i.toNat+1 by omega]
   (repeat' first|(intro _)|(apply And.intro))<;>try omega
   ·rename_i h4;rw[hrr,h2,key,dec,decide_eq_true h4];rfl
   ·rename_i h4;rw[zl (n:=i+1) (by omega) (by omega)];refine hag (i+1) ⟨by omega,by omega,?_⟩ (by omega);have e1:ds.drop i.toNat=ds.getD i.toNat 0::ds.drop (i.toNat+1):=uN 0 (by omega);rw[h2,key,dec,decide_eq_false h4,show(i+1).toNat-1=i.toNat by omega,e1];rfl
  ·(repeat' first|(intro _)|(apply And.intro))<;>try omega
   have e1:ds.drop (i.toNat-1)=[ds.getD (ds.length-1) 0]:=by
    rw[show i.toNat-1=ds.length-1 by omega,uN 0 (by omega),kn (by omega)]
   rw[hrr,h2,e1];rfl
 ·cases h
end Go.Ax
namespace Go.Ax
open Go.Proofs
def YO(xs:List Int):Bool:=
 bif (bif (bif (bif decide (0<(xs.length:Int))then yi (xs.getD 0 0) 1 64 else false)then asc xs else false)then qG xs 1 2000 else false)then dec (dv xs)else false
def zfc(p e:Int):List Int->Bool
 |[]=>e==1
 |t::l=>bif !yi t (IntKind.wrap .i64 (p+1)) 2000 then false else bif qZ e t==e then false else zfc t (qZ e t) l
theorem zvx:∀(l:List Int) (p e:Int),1<=p->p<=2000->1<=e->zfc p e l=(asc (p::l)&&qG l 1 2000&&dec (e::Zg e l))
 |[],p,e,_,_,_=>by simp[zfc,asc,qG,Zg,dec]
 |t::l,p,e,h1,h2,h3=>by
  have ew:IntKind.wrap .i64 (p+1)=p+1:=zl (by omega) (by omega);simp only[zfc,ew];by_cases hr:p+1<=t/\t<=2000
  ·have e1:yi t (p+1) 2000=true:=(by simp[yi,hr]);have e2:asc (p::t::l)=asc (t::l):=(by simp[asc];omega);have e3:qG (t::l) 1 2000=qG l 1 2000:=(by simp[qG,yi];omega);obtain⟨g1,g2,_⟩:=zvh (a:=e) (b:=t) (by omega) (by omega);rw[e1,e2,e3];simp only[Bool.not_true,cond_false,Zg,dec];by_cases hg:qZ e t=e
   ·simp[hg]
   ·have e4:decide (e<=qZ e t)=false:=(by simp;omega);have e5:(qZ e t==e)=false:=(by simpa using hg);rw[e4,e5];simp only[cond_false];exact zvx l t (qZ e t) (by omega) (by omega) (by omega)
  ·have e1:yi t (p+1) 2000=false:=by
    simp only[yi,jS,decide_eq_false_iff_not];omega
   rw[e1];simp only[Bool.not_false,cond_true];by_cases hp:t<=p
   ·simp[asc,hp]
   ·have:qG (t::l) 1 2000=false:=by
     have:yi t 1 2000=false:=by
      simp only[yi,jS,decide_eq_false_iff_not];omega
     simp[qG,this]
    simp[this]
def zd7(xs:List Int):Bool:=bif (bif ((xs.length:Int)==0)then true else !yi (xs.getD 0 0) 1 64)then false else zfc (xs.getD 0 0) (xs.getD 0 0) (xs.drop 1)
theorem zsc(xs:List Int):zd7 xs=YO xs:=by
 cases xs with
 |nil=>rfl
 |cons t l=>
  have e0:(((t::l).length:Int)==0)=false:=by
   rw[beq_eq_false_iff_ne];simp only[List.length_cons];omega
  have e1:decide (0<((t::l).length:Int))=true:=by
   rw[decide_eq_true_eq];simp only[List.length_cons];omega
  simp only[zd7,YO,e0,e1,cond_true,cond_false,qr,List.drop_succ_cons,List.drop_zero]
  cases hr:yi t 1 64 with
  |false=>simp
  |true=>
   simp only[yi,zh,decide_eq_true_eq]at hr;rw[zvx l t t (by omega) (by omega) (by omega)];have e2:dv (t::l)=t::Zg t l:=(by simp only[dv,Zg];rw[zfZ (by omega)]);have e3:qG (t::l) 1 2000=qG l 1 2000:=(by simp[qG,yi];omega);rw[e2,e3];cases asc (t::l)<;>cases qG l 1 2000<;>simp
theorem zC0{A B C D:Bool}(h:(bif (bif (bif D then A else false)then B else false)then C else false)=true):D=true:=by
 cases D<;>simp_all
def Ke(f0:List V->Bool)(q:List V->Prop):zK:=fun
 |[.agg [.slc false 2 (.int .i64 0) a0]]=>some ([q a0],.bool (f0 a0))
 |_=>none
def uM(es:List V):Bool:=YO (yO es)
theorem zmD:yJ Tryz.prog 49 (Ke uM ub):=by
 intro args ps r h hp;unfold Ke at h;split at h
 ·rename_i a0;simp only[za,zb]at h;obtain⟨rfl,rfl⟩:=h;obtain⟨⟨xs,hxs⟩,hlen⟩:ub a0:=(zm.1 hp).1;have hxl:a0.length=xs.length:=by rw[hxs,zj]
  have hg:a0.getD (Int.toNat 0) (.int .i64 0)=.int .i64 (xs.getD 0 0):=by rw[hxs,zE];rfl
  have hrr0:uM a0=YO xs:=by rw[uM,hxs,zr]
  have q1:YB (V.frzs a0):=by rw[hxs,zA];exact⟨xs,rfl⟩
  have q2:xs≠[]->zjI (V.frzs a0):=by
   intro h;rw[hxs,zA];refine⟨⟨⟨xs,rfl⟩,by rw[<-hxs];exact hlen⟩,?_⟩
   cases xs with
   |nil=>exact absurd rfl h
   |cons x l=>simp[I]
  have g1:zdp (V.frzs a0)=asc xs:=by rw[hxs,zA,zdp,zr]
  have g2:Ji (V.frzs a0) 1 2000=qG xs 1 2000:=by rw[hxs,zA,Ji,zr]
  have g3:zcE (V.frzs a0)=dec (dv xs):=by rw[hxs,zA,zcE,zr]
  generalize yp:yi=qP;generalize zbs:zdp=zmg;generalize zcl:YB=zia;generalize Zo:Ji=zaz;generalize zh2:zcE=zxm;generalize zjx:zjI=zyL;refine zI (T:=tab) (B:=[(88,qW qP),(60,zbg zmg zia),(61,Kj zaz zia),(89,zbg zxm zyL)]) (Bi:=[]) [0,1,2,3] Tryz.func49 rfl rfl (by kernel_rfl) (ze rfl) mixed zR (by subst yp zbs zcl Zo zh2 zjx;exact(zn JF (zn zgM (zn zdD (zn zrq zB))))) (by subst yp zbs zcl Zo zh2 zjx;exact zy) (by kernel_rfl) ?_;intro L lp rr hL hr hf hlp
  conv=>cbv
  simp only[zo hL,hxl,hg,Zb,kS,imp_self,true_and,and_true];subst yp zbs zcl Zo zh2 zjx;simp only[g1,g2,g3,q1,implies_true,true_and]
  have hne:decide (0<(xs.length:Int))=true->xs≠[]:=by
   rintro h rfl;simp at h
  (repeat' first|(intro _)|(apply And.intro))<;>try (first|omega|assumption|trivial)
  ·rename_i h;simpa using h
  ·rename_i h;exact(q2 (hne (zC0 h))).1.2
  ·rename_i h h';exact(q2 (hne (zC0 h))).2 h'
  ·rw[hr,hrr0,YO]
 ·cases h
theorem zbQ:yJ Tryz.prog 81 (Ke uM ub):=by
 intro args ps r h hp;unfold Ke at h;split at h
 ·rename_i a0;simp only[za,zb]at h;obtain⟨rfl,rfl⟩:=h;obtain⟨⟨xs,hxs⟩,hlen⟩:ub a0:=(zm.1 hp).1;have hxl:a0.length=xs.length:=by rw[hxs,zj]
  have hg0:a0.getD (Int.toNat 0) (.int .i64 0)=.int .i64 (xs.getD 0 0):=by rw[hxs,zE];rfl
  have hrr0:uM a0=zd7 xs:=by rw[uM,hxs,zr,zsc]
  rw[hxl]at hlen;generalize yp:yi=qP;generalize YC:qZ=zdw;generalize uJ:zg7=zal;refine zI (T:=tab) (B:=[(82,qW qP),(112,zdq zdw zal)]) (Bi:=[]) [0,1,2,3,4,5,6] Tryz.func81 rfl rfl (by kernel_rfl) (ze rfl) mixed zR (by subst yp YC uJ;exact(zn JE (zn zdC zB))) (by subst yp YC uJ;exact zy) (by kernel_rfl) ?_;intro L lp rr hL hr hf hlp;have hrr:rr=.bool (zd7 xs):=by rw[hr,hrr0]
  conv=>cbv
  simp only[zo hL,hxl,hg0,Zb,kS,imp_self,true_and,and_true]
  (repeat' first|(intro _)|(apply And.intro))<;>try (first|omega|assumption|trivial)
  ·rename_i h
   cases xs with
   |nil=>simp at h
   |cons x l=>simp
  ·rename_i h;subst yp;rw[hrr,zd7,h];rfl
  ·rename_i h
   cases xs with
   |nil=>simp at h
   |cons x l=>simp
  ·rename_i h
   have hpos:0<xs.length:=by
    cases xs with
    |nil=>simp at h
    |cons x l=>simp
   have hgo:zd7 xs=zfc (xs.getD 0 0) (xs.getD 0 0) (xs.drop 1):=by
    subst yp;rw[zd7,h];rfl
   refine hlp (Int×Int) _ _ _ [3,4,5] (fun x=>[(3,none,.val (.slc false 2 (.int .i64 0) a0)),(4,none,.val (.int .i64 x.1)),(5,none,.val (.int .i64 x.2))])
    (fun x=>0<x.2/\x.2<=xs.length/\zd7 xs=zfc (xs.getD (x.2.toNat-1) 0) x.1 (xs.drop x.2.toNat)) (fun x=>(xs.length-x.2).toNat) (xs.getD 0 0,1) (by subst hL;simp only[zo rfl,hg0,kS];rfl) ⟨by simp,by simp only;omega,hgo⟩ ?_
   rintro⟨e,i⟩ ⟨i0,i1,h2⟩ hfx ag hag
   conv=>cbv
   simp only at i0 i1 h2;have hg:a0.getD i.toNat (.int .i64 0)=.int .i64 (xs.getD i.toNat 0):=(by rw[hxs,zE]);have hg':a0.getD (i-1).toNat (.int .i64 0)=.int .i64 (xs.getD (i.toNat-1) 0):=(by rw[hxs,zE,show(i-1).toNat=i.toNat-1 by omega]);have ew:IntKind.wrap .i64 (i-1)=i-1:=zl (by omega) (by omega);simp only[zo hL,hxl,hg,hg',ew,Zb,kS,imp_self,true_and,and_true,decide_eq_true_eq,decide_eq_false_iff_not];refine⟨fun hb=>?_,fun hb=>?_⟩
   ·have e1:xs.drop i.toNat=xs.getD i.toNat 0::xs.drop (i.toNat+1):=uN 0 (by omega);rw[e1,zfc]at h2
    (repeat' first|(intro _)|(apply And.intro))<;>try (first|omega|assumption|trivial)
    ·rename_i h4;subst yp;rw[hrr,h2,h4];rfl
    ·subst uJ;trivial
    ·rename_i h4 h5;subst yp YC;rw[hrr,h2,h4,h5];rfl
    ·rename_i h4 h5;subst yp YC;rw[zl (n:=i+1) (by omega) (by omega)];refine hag (qZ e (xs.getD i.toNat 0),i+1) ⟨by simp only;omega,by simp only;omega,?_⟩ (by simp only;omega);rw[h2,h4,h5];simp only[cond_false,zF (zfn i0),qB]
   ·have e1:xs.drop i.toNat=[]:=kn (by omega);rw[hrr,h2,e1];rfl
 ·cases h
def zxd(f0:List V->Int):zK:=fun
 |[.agg [.slc false 2 (.int .i64 0) a0]]=>some ([],.int .i64 (f0 a0))
 |_=>none
def zhQ(es:List V):Int:=IntKind.wrap .i64 ((es.length:Int)-1)
theorem zn5:yJ Tryz.prog 105 (zxd zhQ):=by
 intro args ps r h hp;unfold zxd at h;split at h
 ·rename_i a0;simp only[za,zb]at h;obtain⟨rfl,rfl⟩:=h;refine zI (T:=tab) (B:=[]) (Bi:=[]) [0,1,2] Tryz.func105 rfl rfl (by kernel_rfl) (ze rfl) mixed zR (by exact zB) (by exact zy) (by kernel_rfl) ?_;intro L lp rr hL hr hf hlp
  conv=>cbv
  simp only[zo hL];exact hr.symm
 ·cases h
theorem IsP.isIs{es:List V}(h:IsP es):ub es:=by
 obtain⟨t,l,rfl,_,hl⟩:=h;exact⟨⟨_,rfl⟩,by simp;omega⟩
theorem zsM:∀(l:List Int) (d:Int),0<d->qG l 1 2000=true->∀i,i<l.length->0<(Zg d l).getD i 0
 |[],_,_,_,i,h=>by simp at h
 |t::l,d,hd,hw,i,h=>by
  simp only[qG,Qz,zh,yi,decide_eq_true_eq]at hw;have hg:=(zvh hd (show 0<t by omega)).1
  cases i with
  |zero=>simpa [Zg]using hg
  |succ i=>
   have:=zsM l (qZ d t) hg (by simpa [qG,yi]using hw.2) i (by simpa using h);simpa [Zg]using this
theorem zql(a b:Bool):(bif a then b else false)=(a&&b):=by cases a<;>rfl
theorem zm5{xs:List Int}(h:YO xs=true):∃t l,xs=t::l/\1<=t/\t<=64/\qG xs 1 2000=true/\(∀i,i<xs.length->0<(dv xs).getD i 0):=by
 simp only[YO,zql,zh]at h;obtain⟨⟨⟨⟨h1,h2⟩,h3⟩,h4⟩,h5⟩:=h
 cases xs with
 |nil=>simp at h1
 |cons t l=>
  simp only[qr,yi,zh,decide_eq_true_eq]at h2;refine⟨t,l,rfl,h2.1,h2.2,h4,fun i hi=>?_⟩;have e2:dv (t::l)=t::Zg t l:=by simp only[dv,Zg];rw[zfZ (by omega)]
  rw[e2]
  cases i with
  |zero=>simp only[qr];omega
  |succ i=>
   have hw:qG l 1 2000=true:=by
    simp only[qG,Qz,zh]at h4;exact h4.2
   simpa using zsM l t (by omega) hw i (by simpa using hi)
end Go.Ax
namespace Go.Ax
open Go.Proofs
def zj5(f0:List V->List V)(q:List V->Prop):zK:=fun
 |[.agg [.slc false 2 (.int .i64 0) a0]]=>some ([q a0],.agg [.slc true 2 (.int .i64 0) (f0 a0)])
 |_=>none
end Go.Ax
namespace Go.Ax
open Go.Proofs
def II(o:Bool)(xss:List (List Int)):List V:=xss.map fun xs=>.slc o 2 (.int .i64 0) (I xs)
def qS(es:List V):List (List Int):=es.map fun v=>yO v.toL
theorem yq(o:Bool)(xss:List (List Int)):qS (II o xss)=xss:=by
 simp only[qS,II,Zj]
 conv=>rhs;rw[<-List.map_id xss]
 apply ky;intro xs _;simp[V.toL]
theorem yf(o:Bool)(xss:List (List Int)):(II o xss).length=xss.length:=by simp[II]
theorem qM(o:Bool)(xss:List (List Int))(i:Nat):(II o xss).getD i (.slc o 2 (.int .i64 0) [])=.slc o 2 (.int .i64 0) (I (xss.getD i [])):=by
 simp only[II,zd,zN];cases xss[i]? <;>rfl
theorem znH(o:Bool)(xss:List (List Int))(i:Nat)(xs:List Int):(II o xss).set i (.slc o 2 (.int .i64 0) (I xs))=II o (xss.set i xs):=by simp[II,List.map_set]
theorem ke(o:Bool)(xss:List (List Int)):V.frzs (II o xss)=II false xss:=by
 rw[V.frzs_eq];simp only[II,Zj];apply ky;intro xs _;simp[V.frz,zA]
theorem zty(xss:List (List Int)):V.noFzs (II true xss)=true:=by
 rw[V.noFzs_eq];simp only[II,List.all_map,yd];intro xs _;simp[V.noFz]
theorem zcp(o:Bool)(e:TypeId)(d:V)(es:List V):uT.toL (.slc o e d es)=es:=rfl
def zAq(o:Bool)(es:List V):Prop:=∃xss,es=II o xss
theorem zoj(o o':Bool)(xs:List Int):vw uT tab o 20 29 (.slc o' 2 (.int .i64 0) (I xs))=some (.slc o 2 (.int .i64 0) (I xs)):=by cases o<;>rfl
theorem zid(xss:List (List Int))(i:Nat)(h:i<xss.length):xss.take (i+1)=xss.take i++[xss.getD i []]:=by
 rw[List.take_succ_eq_append_getElem h,zd,zg h];rfl
end Go.Ax
namespace Go.Ax
open Go.Proofs
def bL:V->List V
 | .agg [.slc _ _ _ es]=>es
 |_=>[]
def BB(o:Bool)(xss:List (List Int)):List V:=xss.map fun xs=>.agg [.slc o 2 (.int .i64 0) (I xs)]
def jq(es:List V):List (List Int):=es.map fun v=>yO (bL v)
theorem yK(o:Bool)(xss:List (List Int)):jq (BB o xss)=xss:=by
 simp only[jq,BB,Zj]
 conv=>rhs;rw[<-List.map_id xss]
 apply ky;intro xs _;simp[bL]
theorem jj(o:Bool)(xss:List (List Int)):(BB o xss).length=xss.length:=by simp[BB]
theorem QA(o:Bool)(xss:List (List Int))(i:Nat):(BB o xss).getD i (.agg [.slc o 2 (.int .i64 0) []])=.agg [.slc o 2 (.int .i64 0) (I (xss.getD i []))]:=by
 simp only[BB,zd,zN];cases xss[i]? <;>rfl
theorem uf(o:Bool)(xss:List (List Int)):V.frzs (BB o xss)=BB false xss:=by
 rw[V.frzs_eq];simp only[BB,Zj];apply ky;intro xs _;simp[V.frz,V.frzs,zA]
theorem zAD(xss:List (List Int)):V.noFzs (BB true xss)=true:=by
 rw[V.noFzs_eq];simp only[BB,List.all_map,yd];intro xs _;simp[V.noFz,V.noFzs]
theorem YQ(o:Bool)(e:TypeId)(d:V)(es:List V):uT.fld (.agg [.slc o e d es]) 0=.slc o e d es:=rfl
theorem YM(o:Bool)(e:TypeId)(d:V)(es:List V):uT.toL (uT.fld (.agg [.slc o e d es]) 0)=es:=rfl
def zC8(o:Bool)(es:List V):Prop:=∃xss,es=BB o xss
theorem Qt(o o':Bool)(xs:List Int):vw uT tab o 20 57 (.agg [.slc o' 2 (.int .i64 0) (I xs)])=some (.agg [.slc o 2 (.int .i64 0) (I xs)]):=by cases o<;>rfl
end Go.Ax
namespace Go.Proofs.YtdahdoichcnlgaaGreat
open Go.ChangeShapes Go.WideShapes Go.ChangeAt Go.RowKit Go.Ax
theorem zDP:ownKnob Tryz.prog.godebug=none:=by kernel_rfl
theorem zBz:laidOutB Tryz.prog=true:=by kernel_rfl
def okK:TK->Bool
 | .oth=>false
 |_=>true
theorem zDq:∀t ti,qE tab t=some ti->ti.k≠.oth:=by
 have h:(tab.all fun x=>okK x.2.k)=true:=by kernel_rfl
 intro t ti ht hk;have:=yd.1 h _ (zk4 ht);rw[hk]at this;cases this
end Go.Proofs.YtdahdoichcnlgaaGreat
namespace Go.Ax
open Go.Proofs Go.Proofs.YtdahdoichcnlgaaGreat
theorem zlR{a b:Bool}(ha:a=true)(hb:b=true):(a&&b)=true:=by rw[ha,hb];rfl
theorem zBn: Tryz.prog.mayEnter=true:=by kernel_rfl
theorem zCB:(({program:= "",sum:= "",func:= "",spec:= "" }:OpenClaim).lifted== Tryz.prog.liftsFinal)=true:=by kernel_rfl
theorem zCA:(Tryz.prog.make==some ({program:= "",sum:= "",func:= "",spec:= "" }:OpenClaim).make)=true:=by kernel_rfl
end Go.Ax
namespace Go.Ax
open Go.Proofs
theorem zdB:yJ Tryz.prog 141 (ui same ub):=by
 intro args ps r h hp;unfold ui at h;split at h
 ·rename_i a0;simp only[za,zb]at h;obtain⟨rfl,rfl⟩:=h;obtain⟨⟨xs,hxs⟩,hlen⟩:ub a0:=(zm.1 hp).1;have hxl:a0.length=xs.length:=by rw[hxs,zj]
  refine zI (T:=tab) (B:=[]) (Bi:=[]) [0,2] Tryz.func141 rfl rfl (by kernel_rfl) (ze rfl) mixed zR (by exact zB) (by exact zy) (by kernel_rfl) ?_;intro L lp rr hL hr hf hlp
  conv=>cbv
  simp only[zo hL,hxl];rw[hr,same];exact⟨by rw[hxs,zh0],by simp;omega,by rw[hxs];exact zkf xs,rfl⟩
 ·cases h
theorem zuW:yJ Tryz.prog 121 (ui same ub):=by
 intro args ps r h hp;unfold ui at h;split at h
 ·rename_i a0;simp only[za,zb]at h;obtain⟨rfl,rfl⟩:=h;obtain⟨⟨xs,hxs⟩,hlen⟩:ub a0:=(zm.1 hp).1;have hxl:a0.length=xs.length:=by rw[hxs,zj]
  refine zI (T:=tab) (B:=[]) (Bi:=[]) [0,2] Tryz.func121 rfl rfl (by kernel_rfl) (ze rfl) mixed zR (by exact zB) (by exact zy) (by kernel_rfl) ?_;intro L lp rr hL hr hf hlp
  conv=>cbv
  simp only[zo hL,hxl]
  have hnx:V.owneds a0=false/\(([]:List V).length:Int)+xs.length<=2147483647/\(∀x:V,x∈a0->x.solid=true)/\V.slc true 2 (.int .i64 0) ([]++a0)=rr:=by
   rw[hr,same];exact⟨by rw[hxs,zh0],by simp;omega,by rw[hxs];exact zkf xs,rfl⟩
  refine⟨fun h=>⟨fun _=>?_,fun _=>hnx⟩,fun h=>(by cases h),fun _=>hnx⟩
  have:xs=[]:=by
   simp only[beq_iff_eq]at h;exact List.eq_nil_of_length_eq_zero (by omega)
  rw[hr,same,hxs,this];rfl
 ·cases h
theorem zko:yJ Tryz.prog 95 (zj5 same ub):=by
 intro args ps r h hp;unfold zj5 at h;split at h
 ·rename_i a0;simp only[za,zb]at h;obtain⟨rfl,rfl⟩:=h;have hq:ub a0:=(zm.1 hp).1
  have q1:ub (V.frzs a0):=by
   obtain⟨⟨xs,hxs⟩,hl⟩:=hq;rw[hxs,zA,<-hxs];exact⟨⟨xs,hxs⟩,hl⟩
  have g1:V.frzs a0=a0:=by
   obtain⟨⟨xs,hxs⟩,hl⟩:=hq;rw[hxs,zA]
  generalize kI:same=YD;generalize yP:ub=ki;refine zI (T:=tab) (B:=[(121,ui YD ki)]) (Bi:=[]) [0,1,2] Tryz.func95 rfl rfl (by kernel_rfl) (ze rfl) mixed zR (by subst kI yP;exact(zn zuW zB)) (by subst kI yP;exact zy) (by kernel_rfl) ?_;intro L lp rr hL hr hf hlp
  conv=>cbv
  simp only[zo hL];subst kI yP;exact⟨q1,by rw[hr,g1]⟩
 ·cases h
theorem zqt:yJ Tryz.prog 117 (zj5 same ub):=by
 intro args ps r h hp;unfold zj5 at h;split at h
 ·rename_i a0;simp only[za,zb]at h;obtain⟨rfl,rfl⟩:=h;have hq:ub a0:=(zm.1 hp).1
  have q1:ub (V.frzs a0):=by
   obtain⟨⟨xs,hxs⟩,hl⟩:=hq;rw[hxs,zA,<-hxs];exact⟨⟨xs,hxs⟩,hl⟩
  have g1:V.frzs a0=a0:=by
   obtain⟨⟨xs,hxs⟩,hl⟩:=hq;rw[hxs,zA]
  generalize kI:same=YD;generalize yP:ub=ki;refine zI (T:=tab) (B:=[(141,ui YD ki)]) (Bi:=[]) [0,1,2] Tryz.func117 rfl rfl (by kernel_rfl) (ze rfl) mixed zR (by subst kI yP;exact(zn zdB zB)) (by subst kI yP;exact zy) (by kernel_rfl) ?_;intro L lp rr hL hr hf hlp
  conv=>cbv
  simp only[zo hL];subst kI yP;exact⟨q1,by rw[hr,g1]⟩
 ·cases h
theorem zjt(o:Bool)(n:Nat)(xs:List Int):II o (List.replicate n xs)=List.replicate n (.slc o 2 (.int .i64 0) (I xs)):=by simp[II,List.map_replicate]
theorem uP(o:Bool)(a b:List (List Int)):II o (a++b)=II o a++II o b:=by simp[II]
theorem YK{a:List V}(h:zC8 false a):V.frzs a=a:=by
 obtain⟨l,rfl⟩:=h;rw[uf]
theorem YJ{a:List V}(h:zAq false a):V.frzs a=a:=by
 obtain⟨l,rfl⟩:=h;rw[ke]
end Go.Ax
namespace Go.Ax
open Go.Proofs
def yI{α:Type}(f:Nat->α)(n:Nat):List α:=(List.range n).map f
theorem yo{α:Type}(f:Nat->α)(n:Nat):(yI f n).length=n:=by simp[yI]
theorem JX{α:Type}(f:Nat->α)(n:Nat):yI f (n+1)=yI f n++[f n]:=by simp[yI,List.range_succ]
theorem jx{α:Type}(f:Nat->α)(n i:Nat)(d:α)(h:i<n):(yI f n).getD i d=f i:=by
 simp[yI,zd,zN,YZ h]
theorem uz{α:Type}(f:Nat->α)(n i:Nat)(h:i<n):(yI f n)[i]? =some (f i):=by
 simp[yI,YZ h]
theorem jd{α:Type}{f g:Nat->α}{n:Nat}(h:∀i,i<n->f i=g i):yI f n=yI g n:=by
 simp only[yI];apply ky;intro i hi;exact h i (by simpa using hi)
theorem zyZ{α:Type}(f:Nat->α)(n k:Nat)(h:k<=n):(yI f n).take k=yI f k:=by
 simp only[yI,<-List.map_take,List.take_range,Nat.min_eq_left h]
abbrev W(n:Int):Int:=IntKind.wrap .i64 n
theorem zsR:∀(l:List Int),dec l=true->∀i,i+1<l.length->l.getD (i+1) 0<l.getD i 0
 |[],h,_,_=>by simp[dec]at h
 |[a],_,i,hi=>by simp at hi
 |a::b::l,h,i,hi=>by
  simp only[dec]at h
  cases hab:decide (a<=b)with
  |true=>rw[hab]at h;simp at h
  |false=>
   rw[hab]at h;simp only[decide_eq_false_iff_not]at hab
   cases i with
   |zero=>simp;omega
   |succ i=>simpa using zsR (b::l) h i (by simpa using hi)
theorem zsS:∀(l:List Int),dec l=true->l≠[]/\l.getD (l.length-1) 0=1
 |[],h=>by simp[dec]at h
 |[a],h=>by simpa [dec]using h
 |a::b::l,h=>by
  simp only[dec]at h
  cases hab:decide (a<=b)with
  |true=>rw[hab]at h;simp at h
  |false=>
   rw[hab]at h;refine⟨by simp,?_⟩;have:=(zsS (b::l) h).2;simpa using this
theorem zlP:∀(l:List Int),asc l=true->∀i,i+1<l.length->l.getD i 0<l.getD (i+1) 0
 |[],_,_,hi=>by simp at hi
 |[a],_,i,hi=>by simp at hi
 |a::b::l,h,i,hi=>by
  simp only[asc]at h
  cases hab:decide (b<=a)with
  |true=>rw[hab]at h;simp at h
  |false=>
   rw[hab]at h;simp only[decide_eq_false_iff_not]at hab
   cases i with
   |zero=>simp;omega
   |succ i=>simpa using zlP (b::l) h i (by simpa using hi)
structure Br (xs:List Int):Prop where
 is:YO xs=true
 pos:0<xs.length
 len:xs.length<=64
 low:∀i,i<xs.length->1<=xs.getD i 0
 high:∀i,i<xs.length->xs.getD i 0<=2000
 up:∀i,i+1<xs.length->xs.getD i 0<xs.getD (i+1) 0
 first:xs.getD 0 0<=64
 dlen:(dv xs).length=xs.length
 d0:(dv xs).getD 0 0=xs.getD 0 0
 dpos:∀i,i<xs.length->1<=(dv xs).getD i 0
 dhi:∀i,i<xs.length->(dv xs).getD i 0<=64
 dstep:∀i,i+1<xs.length->(dv xs).getD (i+1) 0<(dv xs).getD i 0
 dlast:(dv xs).getD (xs.length-1) 0=1
theorem jL{xs:List Int}(h:YO xs=true):Br xs:=by
 obtain⟨t,l,hx,h1,h2,hw,hd⟩:=zm5 h;have h':=h;simp only[YO,zql,zh]at h';obtain⟨⟨⟨⟨_,_⟩,ha⟩,_⟩,hdec⟩:=h';have hdl:(dv xs).length=xs.length:=by rw[dv,zlK]
 have hpos:0<xs.length:=by rw[hx];simp
 have hall:∀i,i<xs.length->1<=xs.getD i 0/\xs.getD i 0<=2000:=by
  intro i hi;simp only[qG,yd,yi,zh,decide_eq_true_eq]at hw;rw[zd,zg hi];exact hw _ (List.getElem_mem hi)
 have hd0:(dv xs).getD 0 0=xs.getD 0 0:=by rw[hx];simp[dv,Zg,zfZ (show 0<t by omega)]
 have hst:∀i,i+1<xs.length->(dv xs).getD (i+1) 0<(dv xs).getD i 0:=fun i hi=>zsR _ hdec i (by omega);have hx0:xs.getD 0 0=t:=by rw[hx];rfl
 have hhi:∀i:Nat,i<xs.length->(dv xs).getD i 0<=64-i:=by
  intro i
  induction i with
  |zero=>intro _;rw[hd0,hx0];omega
  |succ i ih=>
   intro hi;have:=ih (by omega);have:=hst i hi;omega
 have hlast:=(zsS _ hdec).2;rw[hdl]at hlast;refine⟨h,hpos,?_,fun i hi=>(hall i hi).1,fun i hi=>(hall i hi).2,fun i hi=>zlP _ ha i hi,by rw[hx0];omega,hdl,hd0,fun i hi=>hd i hi,fun i hi=>by have:=hhi i hi;omega,hst,hlast⟩;have:=hhi (xs.length-1) (by omega);rw[hlast]at this;omega
def Yz(es:List V):Prop:=∃xs,es=I xs/\Br xs
theorem Yz.isP{es:List V}(h:Yz es):IsP es:=by
 obtain⟨xs,rfl,hb⟩:=h;obtain⟨t,l,rfl,h1,_⟩:=zm5 hb.is;exact⟨t,l,rfl,by omega,by have:=hb.len;simp at this;omega⟩
theorem Yz.isIs{es:List V}(h:Yz es):ub es:=h.isP.isIs
def zns(f:List V->List V)(q:List V->Prop):zK:=fun
 |[.agg [.slc false 2 (.int .i64 0) a0]]=>some ([q a0],.slc true 2 (.int .i64 0) (f a0))
 |_=>none
end Go.Ax
namespace Go.Ax
open Go.Proofs
end Go.Ax
namespace Go.Ax
open Go.Proofs
def zxj(es:List V):Prop:=∃xss,es=II false xss/\xss.length<=2147483647/\∀xs∈xss,xs.length<=2147483647
theorem zxj.isII{es:List V}(h:zxj es):zAq false es:=by
 obtain⟨x,h,_⟩:=h;exact⟨x,h⟩
theorem YB.frz{es:List V}(h:YB es):V.frzs es=es:=by
 obtain⟨x,h⟩:=h;rw[h,zA]
end Go.Ax
namespace Go.Ax
open Go.Proofs
abbrev gI(l:List Int)(i:Int):Int:=l.getD i.toNat 0
def zDl(a b:Int)(l:List Int):List Int:=l.map fun x=>if x=b then a else x
def zCJ(n:Nat):List Int:=yI (fun i=>(i:Int)) n
def e0(e:List Int):Int:=e.getD 0 0
def e1(e:List Int):Int:=e.getD 1 0
def zDh(n:Nat)(e:List Int):Prop:=e.length=2/\0<=e0 e/\e0 e<n/\0<=e1 e/\e1 e<n
def lo(lab e:List Int):Int:=min (gI lab (e0 e)) (gI lab (e1 e))
def hi(lab e:List Int):Int:=max (gI lab (e0 e)) (gI lab (e1 e))
structure LabOk (n:Nat) (lab:List Int):Prop where
 len:lab.length=n
 nn:∀i,i<n->0<=lab.getD i 0
 le:∀i,i<n->lab.getD i 0<=i
 idem:∀i,i<n->gI lab (lab.getD i 0)=lab.getD i 0
def acy:List Int->List (List Int)->Bool
 |_,[]=>true
 |lab,e::es=> !(gI lab (e0 e)==gI lab (e1 e))&&acy (zDl (gI lab (e0 e)) (gI lab (e1 e)) lab) es
def YX:List Int->Int->Int
 |[],m=>m
 |x::l,m=>YX l (max m x)
def zeO:List Int->Int
 |[]=>0
 |x::l=>YX l x
theorem zmX:∀(l:List Int) (m:Int),m<=YX l m/\(∀x∈l,x<=YX l m)/\(YX l m=m\/YX l m∈l)
 |[],m=>⟨Int.le_refl _,fun x hx=>(by cases hx),.inl rfl⟩
 |y::l,m=>by
  obtain⟨h1,h2,h3⟩:=zmX l (max m y);simp only[YX];refine⟨by omega,fun x hx=>?_,?_⟩
  ·rcases List.mem_cons.1 hx with rfl|hx
   ·omega
   ·exact h2 x hx
  ·rcases h3 with h3|h3
   ·rw[h3];rcases (by omega:max m y=m\/max m y=y)with h|h
    ·exact .inl h
    ·right;rw[h];simp
   ·right;exact zx _ h3
theorem zxV{l:List Int}(h:l≠[]):(∀x∈l,x<=zeO l)/\zeO l∈l:=by
 cases l with
 |nil=>exact absurd rfl h
 |cons y l=>
  obtain⟨h1,h2,h3⟩:=zmX l y;refine⟨fun x hx=>?_,?_⟩
  ·rcases List.mem_cons.1 hx with rfl|hx
   ·exact h1
   ·exact h2 x hx
  ·simp only[zeO];rcases h3 with h3|h3
   ·rw[h3];simp
   ·exact zx _ h3
def zAQ:List Int->List Int->Bool
 |x::a,y::b=>bif !(x==y)then decide (x<y)else zAQ a b
 |[],_::_=>true
 |_,[]=>false
def zDU(n:Nat)(p:Option (List Int))(e:List Int):Bool:=e.length==2&&decide (0<=e0 e)&&decide (e0 e<e1 e)&&decide (e1 e<n)&&(match p with
 |none=>true
 |some x=>zAQ x e)
def zqT(n:Nat):Option (List Int)->List (List Int)->Bool
 |_,[]=>true
 |p,e::es=>zDU n p e&&zqT n (some e) es
def zDQ(ws:List Int)(es:List (List Int)):Bool:=decide (1<=ws.length)&&decide (ws.length<=40)&&qG ws (-1000) 1000&&zqT ws.length none es&&acy (zCJ ws.length) es
end Go.Ax
namespace Go.Ax
open Go.Proofs
theorem zBZ(a b:Bool):(bif a then b else false)=(a&&b):=by cases a<;>rfl
theorem zCZ(a b:Bool):(bif a then true else b)=(a||b):=by cases a<;>rfl
def zll(a b:List V):Prop:=YB a/\YB b
def KW(f:List V->List V->Bool)(q:List V->List V->Prop):zK:=fun
 |[.slc false 2 (.int .i64 0) a0,.slc false 2 (.int .i64 0) a1]=>some ([q a0 a1],.bool (f a0 a1))
 |_=>none
def zj4(f:List V->Int)(q:List V->Prop):zK:=fun
 |[.slc false 2 (.int .i64 0) a0]=>some ([q a0],.int .i64 (f a0))
 |_=>none
def zi5(a:List V):Int:=zeO (yO a)
def zoe(a:List V):Prop:=YB a/\a≠[]
theorem zuj:yJ Tryz.prog 86 (zj4 zi5 zoe):=by
 intro args ps r h hp;unfold zj4 at h;split at h
 ·rename_i a0;simp only[za,zb]at h;obtain⟨rfl,rfl⟩:=h;obtain⟨⟨xs,hxs⟩,hne⟩:zoe a0:=(zm.1 hp).1;have hxl:a0.length=xs.length:=by rw[hxs,zj]
  have hf0:zi5 a0=zeO xs:=by rw[zi5,hxs,zr]
  have hpos:0<xs.length:=by
   cases xs with
   |nil=>exact absurd hxs hne
   |cons x l=>simp
  have hmx:zeO xs=YX (xs.drop 1) (xs.getD 0 0):=by
   cases xs with
   |nil=>simp at hpos
   |cons x l=>rfl
  refine zI (T:=tab) (B:=[]) (Bi:=[]) [0,2,3,4] Tryz.func86 rfl rfl (by kernel_rfl) (ze rfl) mixed zR (by exact zB) (by exact zy) (by kernel_rfl) ?_;intro L lp rr hL hr hf hlp;have hlen:=hf.1.1
  conv=>cbv
  simp only[zo hL,hxl];refine⟨fun h=>?_,fun h=>⟨by omega,by omega,?_⟩⟩
  ·simp only[decide_eq_true_eq]at h;omega
  obtain⟨m0,hm0⟩:∃m0,a0.getD (Int.toNat 0) (.int .i64 0)=.int .i64 m0/\m0=xs.getD 0 0:=⟨_,by rw[hxs,zE];rfl,rfl⟩;simp only[hm0.1,Zb,kS,true_and]
  refine hlp (Int×Int) _ _ _ [0,3,4] (fun x=>[(0,none,.val (.slc false 2 (.int .i64 0) a0)),(3,none,.val (.int .i64 x.1)),(4,none,.val (.int .i64 x.2))])
   (fun x=>0<=x.2/\x.2<=xs.length/\zeO xs=YX (xs.drop x.2.toNat) x.1) (fun x=>(xs.length-x.2).toNat) ((m0,1)) (by subst hL;rfl) ?_ ?_
  ·exact⟨by simp,by simp only;omega,by rw[hmx,hm0.2];rfl⟩
  rintro⟨m,i⟩ ⟨i0,i1,hI⟩ hfx ag hag
  conv=>cbv
  simp only at i0 i1 hI;rw[hxl]at hlen;subst hxs;simp only[zo hL,zj,zE,Zb,kS,imp_self,true_and,decide_eq_true_eq,decide_eq_false_iff_not];refine⟨fun h=>⟨i0,by omega,?_⟩,fun h=>?_⟩
  ·rw[zl (n:=i+1) (by omega) (by omega)];refine hag (_,i+1) ⟨by simp only;omega,by simp only;omega,?_⟩ (by simp only;omega);simp only[zF i0];rw[hI,uN 0 (show i.toNat<xs.length by omega),YX]
  ·rw[hr,hf0,hI,kn (by omega)];rfl
 ·cases h
end Go.Ax
namespace Go.Ax
open Go.Proofs
theorem zCm:Int.toNat 0=0:=rfl
theorem zCl:Int.toNat 1=1:=rfl
theorem zcx{xss:List (List Int)}{i:Nat}(h:i<xss.length):xss.getD i []∈xss:=by
 rw[zd,zg h];exact List.getElem_mem _
end Go.Ax
namespace Go.Ax
open Go.Proofs
end Go.Ax
namespace Go.Ax
open Go.Proofs
structure Gr (ws:List Int) (es:List (List Int)):Prop where
 is:zDQ ws es=true
 n1:1<=ws.length
 n2:ws.length<=40
 wlo:∀i,i<ws.length->-1000<=ws.getD i 0/\ws.getD i 0<=1000
 eok:zqT ws.length none es=true
 ed:∀e∈es,zDh ws.length e
 lt:∀e∈es,e0 e<e1 e
 el:es.length<ws.length
 acyc:acy (zCJ ws.length) es=true
def zDs(es:List (List Int))(v:Int):List Int:=(es.filter fun e=>e1 e==v).map e0
def zDr(es:List (List Int))(v:Int):List Int:=(es.filter fun e=>e0 e==v).map e1
def zba(es:List (List Int))(v:Int):List Int:=zDs es v++zDr es v
def adj(es:List (List Int))(i j:Nat):Bool:=es.any fun e=>(e0 e==i&&e1 e==j)||(e0 e==j&&e1 e==i)
def ent(ws:List Int)(es:List (List Int))(i j:Nat):Int:=if i=j then ws.getD i 0 else if adj es i j=true then 1 else 0
def mrow(ws:List Int)(es:List (List Int))(i:Nat):List Int:=yI (ent ws es i) ws.length
theorem zBa{α:Type}(f:Nat->α)(n i:Nat)(y:α):(yI f n).set i y=yI (fun j=>if j=i then y else f j) n:=by
 apply List.ext_getElem?;intro j;by_cases hj:j<n
 ·rw[uz _ _ _ hj,List.getElem?_set];by_cases hij:i=j
  ·subst hij;rw[if_pos rfl,if_pos (by rw[yo];exact hj),if_pos rfl]
  ·rw[if_neg hij,uz _ _ _ hj,if_neg (fun h=>hij h.symm)]
 ·rw[zD (by rw[List.length_set,yo];omega),zD (by rw[yo];omega)]
end Go.Ax
namespace Go.Ax
open Go.Proofs
def stp(a b:Nat):List (Nat×Nat):=if _h:0<b then(a/b,b)::stp b (a%b)else[]
termination_by b
decreasing_by exact ZX _ (by assumption)
theorem znS{a b:Nat}(h:0<b):stp a b=(a/b,b)::stp b (a%b):=by rw[stp,dif_pos h]
theorem zhi(a:Nat):stp a 0=[]:=by rw[stp,dif_neg (by omega)]
def ex(a b:Nat):List Nat:=(stp a b).flatMap fun p=>List.replicate p.1 p.2
theorem kL{a b:Nat}(h:0<b):ex a b=List.replicate (a/b) b++ex b (a%b):=by rw[ex,znS h,List.flatMap_cons,ex]
theorem zbz(a:Nat):ex a 0=[]:=by rw[ex,zhi];rfl
def hd1(l:List Nat):Nat:=l.getD 0 1
def Fol(b:Nat)(l:List Nat):Prop:=hd1 l<=b/\(hd1 l<b->∃c r,b=c*hd1 l+r/\r<hd1 l/\1<=c/\(∀t,t<c->l.getD t 1=hd1 l)/\(0<r->l.getD c 1=r))
def GL:List Nat->Prop
 |[]=>True
 |x::l=>1<=x/\Fol x l/\GL l
theorem ztP{b:Nat}{l:List Nat}(hb:1<=b)(hf:Fol b l)(hg:GL l):∀q,GL (List.replicate q b++l)/\Fol b (List.replicate q b++l)
 |0=>⟨by simpa using hg,by simpa using hf⟩
 |q+1=>by
  obtain⟨h1,h2⟩:=ztP hb hf hg q;rw[List.replicate_succ,List.cons_append];refine⟨⟨hb,h2,h1⟩,?_⟩;have:hd1 (b::(List.replicate q b++l))=b:=rfl;exact⟨by rw[this];exact zt _,fun h=>by rw[this]at h;exact absurd h (Qx _)⟩
theorem zeW(q b:Nat)(l:List Nat)(t d:Nat):(List.replicate q b++l).getD t d=if t<q then b else l.getD (t-q) d:=by
 by_cases h:t<q
 ·rw[if_pos h,zd,List.getElem?_append_left (by simpa using h)];simp[h]
 ·rw[if_neg h,zd,ye (by simpa using h)];simp
theorem zDx{b r:Nat}(hr:0<r)(h:r<=b)(l:List Nat):(ex b r++l).getD 0 1=r:=by
 rw[kL hr,zZ,zeW,if_pos (Nat.div_pos h hr)]
theorem zvm:∀(n b r:Nat) (l:List Nat),b<=n->r<b->GL l->Fol (Nat.gcd b r) l->GL (ex b r++l)/\Fol b (ex b r++l)
 |0,b,r,l,hn,hr,_,_=>by omega
 |n+1,b,r,l,hn,hr,hg,hf=>by
  by_cases h0:0<r
  ·have h1:b%r<r:=ZX _ h0;have h2:Nat.gcd r (b%r)=Nat.gcd b r:=(by rw[jv b r,Jp r b,jv]);obtain⟨i1,i2⟩:=zvm n r (b%r) l (by omega) h1 hg (by rw[h2];exact hf);obtain⟨j1,_⟩:=ztP (by omega) i2 i1 (b/r);have hq:0<b/r:=Nat.div_pos (by omega) h0;rw[kL h0,zZ];have hh:hd1 (List.replicate (b/r) r++(ex r (b%r)++l))=r:=(by rw[hd1,zeW,if_pos hq]);refine⟨j1,by rw[hh];omega,fun _=>⟨b/r,b%r,?_,by rw[hh];exact h1,hq,fun t ht=>by rw[hh,zeW,if_pos ht],fun hrr=>?_⟩⟩
   ·rw[hh,Nat.mul_comm];exact(Nat.div_add_mod b r).symm
   ·rw[zeW,if_neg (Qx _),Nat.sub_self];exact zDx hrr (by omega) l
  ·obtain rfl:r=0:=(by omega);rw[zbz,List.nil_append];rw[Nat.gcd_zero_right]at hf;exact⟨hg,hf⟩
def JM:List (Nat×Nat)->List Nat
 |[]=>[]
 |(k,e)::l=>ex k e++JM l
def zq2:Nat->List (Nat×Nat)->Prop
 |g,[]=>g=1
 |g,(k,e)::l=>e=g/\0<e/\zq2 (Nat.gcd e k) l
theorem zkW:∀(l:List (Nat×Nat)) (g:Nat),zq2 g l->GL (JM l)/\Fol g (JM l)
 |[],g,h=>by
  have:g=1:=h;subst this;exact⟨trivial,zt _,fun h=>absurd h (Qx _)⟩
 |(k,e)::l,g,h=>by
  obtain⟨rfl,h1,h2⟩:=h;obtain⟨i1,i2⟩:=zkW l _ h2;have h3:Nat.gcd e (k%e)=Nat.gcd e k:=by rw[jv e (k%e),<-Jp]
  obtain⟨j1,j2⟩:=zvm e e (k%e) (JM l) (zt _) (ZX _ h1) i1 (by rw[h3];exact i2);have:=ztP h1 j2 j1 (k/e);rw[JM,kL h1,zZ];exact this
theorem zq0:∀(l:List Nat),GL l->∀i,1<=l.getD i 1/\l.getD (i+1) 1<=l.getD i 1/\(l.getD (i+1) 1<l.getD i 1->∃c r,l.getD i 1=c*l.getD (i+1) 1+r/\r<l.getD (i+1) 1/\1<=c/\(∀t,t<c->l.getD (i+1+t) 1=l.getD (i+1) 1)/\(0<r->l.getD (i+1+c) 1=r))
 |[],_,i=>⟨by simp,by simp,fun h=>by simp at h⟩
 |x::l,h,0=>by
  obtain⟨h1,⟨h2,h3⟩,h4⟩:=h;refine⟨h1,h2,fun h=>?_⟩;obtain⟨c,r,e1,e2,e3,e4,e5⟩:=h3 h;refine⟨c,r,e1,e2,e3,fun t ht=>?_,fun hr=>?_⟩
  ·have:=e4 t ht;rw[show 0+1+t=t+1 by omega,yT];exact this
  ·rw[show 0+1+c=c+1 by omega,yT];exact e5 hr
 |x::l,h,i+1=>by
  have:=zq0 l h.2.2 i;rw[show i+1+1=(i+1)+1 from rfl];simp only[yT];refine⟨this.1,this.2.1,fun h=>?_⟩;obtain⟨c,r,e1,e2,e3,e4,e5⟩:=this.2.2 h;refine⟨c,r,e1,e2,e3,fun t ht=>?_,fun hr=>?_⟩
  ·rw[show i+1+1+t=(i+1+t)+1 by omega,yT];exact e4 t ht
  ·rw[show i+1+1+c=(i+1+c)+1 by omega,yT];exact e5 hr
def qy(M:Nat->Nat)(i:Nat):Nat->Nat
 |0=>0
 |k+1=>qy M i k+M (i+1+k)
structure GoodM (M:Nat->Nat):Prop where
 pos:∀i,1<=M i
 fall:∀i,M (i+1)<=M i
 drop:∀i,M (i+1)<M i->∃c r,M i=c*M (i+1)+r/\r<M (i+1)/\1<=c/\(∀t,t<c->M (i+1+t)=M (i+1))/\(0<r->M (i+1+c)=r)
theorem zzS{l:List Nat}(h:GL l):GoodM (fun i=>l.getD i 1):=
 ⟨fun i=>(zq0 l h i).1,fun i=>(zq0 l h i).2.1,fun i=>(zq0 l h i).2.2⟩
theorem QE{M:Nat->Nat}(h:GoodM M)(i:Nat):∀{k k':Nat},k<k'->qy M i k<qy M i k'
 |k,0,hk=>by omega
 |k,k'+1,hk=>by
  have:=h.pos (i+1+k');simp only[qy];by_cases hkk:k=k'
  ·subst hkk;omega
  ·have:=QE h i (k:=k) (k':=k') (by omega);omega
theorem zk6{M:Nat->Nat}{i v:Nat}:∀k,(∀t,t<k->M (i+1+t)=v)->qy M i k=k*v
 |0,_=>by simp[qy]
 |k+1,h=>by
  simp only[qy,zk6 k (fun t ht=>h t (by omega)),h k (by omega),Nat.add_mul];omega
def Jl(M:Nat->Nat)(i j:Nat):Prop:=qy M i (j-i)<=M i
theorem zrE{M:Nat->Nat}(h:GoodM M)(i:Nat):Jl M i (i+1):=by
 have:=h.fall i;rw[Jl,show i+1-i=1 by omega];simpa [qy]using this
theorem zfS{M:Nat->Nat}(h:GoodM M){i i' j:Nat}(h1:i<i')(h2:i'+1<j)(hp:Jl M i j):¬Jl M i' j:=by
 intro hp';unfold Jl at hp hp';have two:∀x,qy M x 2=M (x+1)+M (x+1+1):=fun x=>by simp[qy]
 have one:∀x,qy M x 1=M (x+1):=fun x=>by simp[qy]
 have hlt:M (i+1)<M i:=by
  have a1:=QE h i (k:=2) (k':=j-i) (by omega);have a2:=h.pos (i+1+1);rw[two]at a1;omega
 obtain⟨c,r,e1,e2,e3,e4,e5⟩:=h.drop i hlt;have hc:=zk6 c e4;have hc1:qy M i (c+1)=qy M i c+M (i+1+c):=rfl;have hc2:qy M i (c+2)=qy M i (c+1)+M (i+1+(c+1)):=rfl
 have hj:j-i<=c+1:=by
  by_cases hh:j-i<=c+1
  ·exact hh
  ·exfalso
   have a3:qy M i (c+2)<=qy M i (j-i):=by
    by_cases hx:c+2=j-i
    ·rw[hx];exact zt _
    ·exact Nat.le_of_lt (QE h i (by omega))
   have a4:=h.pos (i+1+(c+1));have a5:=h.pos (i+1+c);by_cases hr:0<r
   ·have:=e5 hr;omega
   ·omega
 have b1:M i'=M (i+1):=by
  have:=e4 (i'-i-1) (by omega)
  rwa [show i+1+(i'-i-1)=i' by omega]at this
 have b2:M (i'+1)=M (i+1):=by
  have:=e4 (i'-i) (by omega)
  rwa [show i+1+(i'-i)=i'+1 by omega]at this
 have a1:=QE h i' (k:=1) (k':=j-i') (by omega);rw[one]at a1;omega
end Go.Ax
