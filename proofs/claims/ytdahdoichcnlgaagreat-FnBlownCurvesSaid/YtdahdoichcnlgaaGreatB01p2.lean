import Derived.Test.YtdahdoichcnlgaaGreatAxP4p2
import Derived.Test.YtdahdoichcnlgaaGreatProg
import Derived.KernelRfl
import Derived.IntWalk
import Derived.Test.YtdahdoichcnlgaaGreatRows
set_option linter.all false
set_option maxRecDepth 100000
set_option maxHeartbeats 1000000
open Bool renaming and_eq_false_iff->ud,and_eq_true->zh,not_eq_true'->qf
open Int renaming eq_ofNat_of_zero_le->QR,le_of_lt->zaM,natCast_nonneg->uj,tmod_lt_of_pos->ui,toNat_natCast->zV
open List renaming all_cons->QT,all_eq_true->yn,append_assoc->zU,append_nil->yv,drop_eq_nil_of_le->Yh,ext_getElem?->yH,flatMap_append->ka,flatMap_cons->ZC,flatMap_nil->Qo,getD_cons_succ->qG,getD_cons_zero->ji,getD_eq_getElem?_getD->zd,getElem?_append_left->zQ,getElem?_append_right->zR,getElem?_eq_getElem->zg,getElem?_eq_none->zG,getElem?_map->zT,getElem?_range->QG,getElem?_take_of_lt->zaL,length_append->zp,length_cons->zi,length_map->yf,length_nil->zq,length_replicate->zE,length_take->zZ,map_congr_left->jB,map_map->uH,map_set->Qk,mem_map->ua,range_succ->Jp,replicate_succ'->qM,take_append_drop->ke,take_of_length_le->zy
open Nat renaming add_sub_cancel->yQ,gcd_comm->uG,le_of_ble_eq_true->ze,le_refl->zt,lt_irrefl->KI,mod_lt->Yg
open Option.some renaming injEq->za
open Prod.mk renaming injEq->zb
/-
 The table of types,lists of numbers,arithmetic without overflow.
-/
namespace Go.Ax
open Go.Proofs
def tab:kC:=[(2,⟨.int .i64,1,.int .i64 0⟩),(3,⟨.int .i64,1,.int .i64 0⟩),(4,⟨.bool,1,.bool false⟩),(5,⟨.int .u8,1,.int .u8 0⟩),(22,⟨.slc 5,1,.slc true 5 (.int .u8 0) []⟩),(24,⟨.slc 57,1,.slc true 57 (.agg [.slc true 2 (.int .i64 0) []]) []⟩),(25,⟨.slc 29,1,.slc true 29 (.slc true 2 (.int .i64 0) []) []⟩),(27,⟨.agg [(0,24),(1,25)],2,.agg [.slc true 57 (.agg [.slc true 2 (.int .i64 0) []]) [],.slc true 29 (.slc true 2 (.int .i64 0) []) []]⟩),(29,⟨.slc 2,1,.slc true 2 (.int .i64 0) []⟩),(31,⟨.agg [(0,29),(1,29),(2,29)],3,.agg [.slc true 2 (.int .i64 0) [],.slc true 2 (.int .i64 0) [],.slc true 2 (.int .i64 0) []]⟩),(47,⟨.int .u64,1,.int .u64 0⟩),(52,⟨.slc 27,1,.slc true 27 (.agg [.slc true 57 (.agg [.slc true 2 (.int .i64 0) []]) [],.slc true 29 (.slc true 2 (.int .i64 0) []) []]) []⟩),(57,⟨.agg [(0,29)],1,.agg [.slc true 2 (.int .i64 0) []]⟩),(63,⟨.agg [(0,2),(1,2)],2,.agg [.int .i64 0,.int .i64 0]⟩),(86,⟨.agg [(0,22),(1,3),(2,47)],3,.agg [.slc true 5 (.int .u8 0) [],.int .i64 0,.int .u64 0]⟩),(87,⟨.int .u64,1,.int .u64 0⟩),(101,⟨.agg [(0,22),(1,3),(2,47)],3,.agg [.slc true 5 (.int .u8 0) [],.int .i64 0,.int .u64 0]⟩)]
theorem mixed: Tryz.prog.follows .mixedOrders=true:=by kernel_rfl
theorem zP:TabOk Tryz.prog tab:=⟨by kernel_rfl,by kernel_rfl,by kernel_rfl⟩
def I(xs:List Int):List V:=xs.map (.int .i64)
def qj(es:List V):List Int:=es.map V.toI
def JJ(es:List V):Prop:=∃l,es=I l
@[simp] theorem zr(xs:List Int):qj (I xs)=xs:=by
  induction xs with
  |nil=>rfl
  |cons x l ih=>simp only[I,qj,List.map_cons,V.toI,List.cons.injEq,true_and]at ih ⊢;exact ih
@[simp] theorem zj(xs:List Int):(I xs).length=xs.length:=by simp[I]
@[simp] theorem zO(xs:List Int)(i:Nat):(I xs).getD i (.int .i64 0)=.int .i64 (xs.getD i 0):=by
  simp only[I,zd,zT];cases xs[i]? <;>rfl
@[simp] theorem zam(xs:List Int)(i:Nat)(y:Int):(I xs).set i (.int .i64 y)=I (xs.set i y):=by simp[I,Qk]
@[simp] theorem jb(xs ys:List Int):I xs++I ys=I (xs++ys):=by simp[I]
@[simp] theorem I_cons(x:Int)(xs:List Int):V.int .i64 x::I xs=I (x::xs):=by simp[I]
@[simp] theorem zbK(xs:List Int)(n:Nat):(I xs).take n=I (xs.take n):=by simp[I]
@[simp] theorem zkM(xs:List Int)(n:Nat):(I xs).drop n=I (xs.drop n):=by simp[I]
@[simp] theorem zhI(n:Nat)(x:Int):List.replicate n (V.int .i64 x)=I (List.replicate n x):=by simp[I]
@[simp] theorem zD(xs:List Int):V.frzs (I xs)=I xs:=by
  rw[V.frzs_eq];simp[I,V.frz]
@[simp] theorem zdV(xs:List Int):V.noFzs (I xs)=true:=by
  rw[V.noFzs_eq];simp[I,V.noFz]
@[simp] theorem zjm(xs:List Int):V.owneds (I xs)=false:=by
  rw[V.owneds_eq];simp[I,V.owned]
@[simp] theorem I_nil:I []=[]:=rfl
theorem zlE(xs:List Int):∀x∈I xs,x.solid=true:=by
 intro x hx;simp only[I,ua]at hx;obtain⟨n,_,rfl⟩:=hx;rfl
@[simp] theorem zas(o:Bool)(n:Int):vw uN tab o 20 2 (.int .i64 n)=some (.int .i64 n):=rfl
@[simp] theorem ok_int'(o:Bool)(n:Int):vw uN tab o 20 3 (.int .i64 n)=some (.int .i64 n):=rfl
@[simp] theorem uV(k:IntKind)(n:Int):uN.toI (.int k n)=n:=rfl
theorem zk{n:Int}(h1: -9223372036854775808<=n)(h2:n<=9223372036854775807):IntKind.wrap .i64 n=n:=IntWalk.i64_in n ⟨h1,h2⟩
theorem YQ{α:Type}{xs:List α}{i:Nat}(d:α)(h:i<xs.length):xs.drop i=xs.getD i d::xs.drop (i+1):=by
 rw[List.drop_eq_getElem_cons h,zd,zg h];rfl
theorem zL{i:Int}(h:0<=i):(i+1).toNat=i.toNat+1:=by omega
theorem zut{xs:List Int}{i:Nat}{p:Int->Bool}(h:i<xs.length):(xs.drop i).all p=(p (xs.getD i 0)&&(xs.drop (i+1)).all p):=by
 rw[YQ 0 h,QT]
theorem zo{L:Alg}{T:kC}(h:L=yp T):L.v=uN
 /\(∀(k:IntKind) (n:Int),L.wrap k n=(k.wrap n))
 /\(∀(a:Int) (b:Int),L.add a b=(a+b))
 /\(∀(a:Int) (b:Int),L.sub a b=(a-b))
 /\(∀(a:Int) (b:Int),L.mul a b=(a*b))
 /\(∀(a:Int) (b:Int),L.quo a b=(a.tdiv b))
 /\(∀(a:Int) (b:Int),L.rem a b=(a.tmod b))
 /\(∀(k:IntKind) (a:Int) (b:Int),L.band k a b=(zdc k a b))
 /\(∀(k:IntKind) (a:Int) (b:Int),L.shr k a b=(zfI k a b))
 /\(∀(a:Int) (b:Int),L.imin a b=(min a b))
 /\(∀(a:Int) (b:Int),L.imax a b=(max a b))
 /\(∀(a:Int) (b:Int),L.eqI a b=(a==b))
 /\(∀(a:Int) (b:Int),L.leI a b=(decide (a<=b)))
 /\(∀(a:Int) (b:Int),L.ltI a b=(decide (a<b)))
 /\(∀(a:Bool) (b:Bool),L.eqB a b=(a==b))
 /\(∀(a:Bool),L.not a=(!a))
 /\(∀(a:Bool) (b:Bool),L.and a b=(a&&b))
 /\(∀(c:Bool) (a:Bool) (b:Bool),L.pick c a b=(bif c then a else b))
 /\(∀(a:ByteArray) (b:ByteArray),L.eqS a b=(a.toList==b.toList))
 /\(∀(a:ByteArray) (b:ByteArray),L.ltS a b=(Op.bytesLess a.toList b.toList))
 /\(∀(a:ByteArray) (b:ByteArray),L.appS a b=(a++b))
 /\(∀(a:ByteArray),L.lenS a=((a.size:Int)))
 /\(∀(s:ByteArray) (n:Int),L.getS s n=(((s.data.getD n.toNat 0).toNat:Int)))
 /\(∀(s:ByteArray) (l:Int) (h:Int),L.extS s l h=(s.extract l.toNat h.toNat))
 /\(∀(es:List V),L.len es=((es.length:Int)))
 /\(∀(es:List V) (i:Nat) (d:V),L.get es i d=(es.getD i d))
 /\(∀(es:List V) (i:Nat) (y:V),L.set es i y=(es.set i y))
 /\(∀(a:List V) (b:List V),L.app a b=(a++b))
 /\(∀(es:List V) (l:Int) (h:Int),L.sli es l h=((es.take h.toNat).drop l.toNat))
 /\(∀(n:Int) (z:V),L.rep n z=(List.replicate n.toNat z))
 /\(∀(x:List V),L.frz x=(V.frzs x))
 /\(∀(x:Int),L.nat x=(Int.toNat x))
 /\(∀(i:Nat) (es:List V),L.ltN i es=(i<es.length))
 /\(∀(es:List V),L.nofz es=(V.noFzs es=true))
 /\(∀(es:List V),L.nown es=(V.owneds es=false))
 /\(∀(es:List V),L.emp es=(es=[]))
 /\(∀(o:Bool) (t:TypeId) (y:V),L.ok o t y=(vw uN T o 20 t y=some y))
 /\(∀(t:TypeId) (y:V),L.okS t y=OkS T t y)
 /\(∀(es:List V),L.solid es=(∀x∈es,x.solid=true))
 /\(∀(a:Int) (b:Int),L.le a b=(a<=b))
 /\(∀(a:Int) (b:Int),L.lt a b=(a<b))
 /\(∀(b:Int),L.ne0 b=(b≠0))
 /\(∀(b:Bool) (p:Prop),L.imp b p=(b=true->p))
 /\(∀(b:Bool),L.tt b=(b=true))
 /\(∀(b:Bool) (p:Prop) (q:Prop),L.ifP b p q=((b=true->p)/\(b=false->q)))
 /\(∀(es:List V),L.strB es=zgl es)
 /\(∀(es:List V),L.byt es=zlA es):=by
 subst h;exact⟨rfl,by intros;rfl,by intros;rfl,by intros;rfl,by intros;rfl,by intros;rfl,by intros;rfl,by intros;rfl,by intros;rfl,by intros;rfl,by intros;rfl,by intros;rfl,by intros;rfl,by intros;rfl,by intros;rfl,by intros;rfl,by intros;rfl,by intros;rfl,by intros;rfl,by intros;rfl,by intros;rfl,by intros;rfl,by intros;rfl,by intros;rfl,by intros;rfl,by intros;rfl,by intros;rfl,by intros;rfl,by intros;rfl,by intros;rfl,by intros;rfl,by intros;rfl,by intros;rfl,by intros;rfl,by intros;rfl,by intros;rfl,by intros;rfl,by intros;rfl,by intros;rfl,by intros;rfl,by intros;rfl,by intros;rfl,by intros;rfl,by intros;rfl,by intros;rfl,by intros;rfl,by intros;rfl⟩
def qW(f0:Int->Int->Int->Bool):zN:=fun
 |[.int .i64 a0,.int .i64 a1,.int .i64 a2]=>some ([],.bool (f0 a0 a1 a2))
 |_=>none
def yu(a b c:Int):Bool:=decide (b<=a)&&decide (a<=c)
theorem za1:yI Tryz.prog 88 (qW yu):=by
 intro args ps r h hp;unfold qW at h;split at h
 ·rename_i a0 a1 a2;cases h;refine zfu (T:=tab) (B:=[]) [0,1,2,6] Tryz.func88 rfl rfl (by kernel_rfl) (ze rfl) mixed zP zA (by kernel_rfl) ?_;intro L lp rr hL hr hf hlp
  conv=>cbv
  subst hL hr;simp[yp,yu]
 ·cases h
def zbU(f0:List V->Int->Int->Bool)(q:List V->Prop):zN:=fun
 |[.slc false 2 (.int .i64 0) a0,.int .i64 a1,.int .i64 a2]=>some ([q a0],.bool (f0 a0 a1 a2))
 |_=>none
def jV(l:List Int)(a b:Int):Bool:=l.all fun x=>yu x a b
def zb8(es:List V)(a b:Int):Bool:=jV (qj es) a b
theorem zjD:yI Tryz.prog 61 (zbU zb8 JJ):=by
 intro args ps r h hp;unfold zbU at h;split at h
 ·rename_i a0 a1 a2;cases h;obtain⟨xs,hxs⟩:JJ a0:=(zm.1 hp).1;generalize HF0IMPLINRANGE:yu=F0IMPLINRANGE;refine zfu (T:=tab) (B:=[(88,qW F0IMPLINRANGE)]) [0,1,2,6,8,9,10,11] Tryz.func61 rfl rfl (by kernel_rfl) (ze rfl) mixed zP (by subst HF0IMPLINRANGE;exact(zn za1 zA)) (by kernel_rfl) ?_;intro L lp rr hL hr hf hlp;obtain⟨n,hn⟩:∃n:Int,n=a0.length:=⟨_,rfl⟩;have hlen:=hf.1.1
  conv=>cbv
  refine hlp (Int) _ _ _ [1,2,9,10,11] (fun i=>[(1,none,.val (.int .i64 a1)),(2,none,.val (.int .i64 a2)),(9,none,.val (.slc false 2 (.int .i64 0) a0)),(10,none,.val (.int .i64 n)),(11,none,.val (.int .i64 i))]) (fun i=>0<=i/\i<=n/\jV xs a1 a2=jV (xs.drop i.toNat) a1 a2) (fun i=>(n-i).toNat) 0 (by subst hL hn;rfl) ?_ ?_
  ·subst hxs hn;simp
  ·rintro i ⟨i0,i1,i2⟩ hfx ag hag
   conv=>cbv
   subst hL hr HF0IMPLINRANGE hxs;simp only[yp,zO,zas,uV,zj,imp_self,true_and,decide_eq_true_eq,decide_eq_false_iff_not,qf,Bool.not_eq_false',V.bool.injEq,zb8,zr]at hn hlen ⊢;refine⟨fun h=>⟨i0,by omega,fun h1=>?_,fun h1=>?_⟩,fun h=>?_⟩
   ·rw[i2,jV,zut (by omega),h1];rfl
   ·rw[zk (by omega) (by omega)];refine hag _ ⟨by omega,by omega,?_⟩ (by omega);rw[i2,jV,jV,zut (by omega),zL i0,h1];rfl
   ·rw[i2,Yh (by omega)];rfl
 ·cases h
def zDq(xs:List Int):Nat->Int->Int->Int×Int×Int
 |0,t,b=>(t,b,0)
 |k+1,t,b=>
  if 1000000000000<IntKind.wrap .i64 (IntKind.wrap .i64 (xs.getD k 0*t)-b)then(0,0,3)
  else zDq xs k (IntKind.wrap .i64 (IntKind.wrap .i64 (xs.getD k 0*t)-b)) t
def cf(xs:List Int):Int×Int×Int:=bif (bif (bif decide ((xs.length:Int)<1)then true else decide (30<(xs.length:Int)))then true else !jV xs 2 1000)then(0,0,1)else zDq xs xs.length 1 0
theorem Ym:yI Tryz.prog 82 (qW yu):=by
 intro args ps r h hp;unfold qW at h;split at h
 ·rename_i a0 a1 a2;cases h;refine zfu (T:=tab) (B:=[]) [0,1,2,6] Tryz.func82 rfl rfl (by kernel_rfl) (ze rfl) mixed zP zA (by kernel_rfl) ?_;intro L lp rr hL hr hf hlp
  cbv
  subst hL hr;simp[yp,yu]
 ·cases h
def uQ(f0:List V->List V)(q:List V->Prop):zN:=fun
 |[.slc false 2 (.int .i64 0) a0]=>some ([q a0],.slc true 2 (.int .i64 0) (f0 a0))
 |_=>none
def same(es:List V):List V:=es
def uf(es:List V):Prop:=(∃l,es=I l)/\es.length<=2147483647
def YH(a b:List V):Bool:=decide (qj a=qj b)
def yes(_:List V):Bool:=true
def zx5(f0:Int->Int):zN:=fun
 |[.int .i64 a0]=>some ([],.int .i64 (f0 a0))
 |_=>none
def zdh(a:Int):Int:=bif decide (a<0)then IntKind.wrap .i64 (0-a)else a
theorem zxj:yI Tryz.prog 131 (zx5 zdh):=by
 intro args ps r h hp;unfold zx5 at h;split at h
 ·rename_i a0;cases h;refine zfu (T:=tab) (B:=[]) [0,2] Tryz.func131 rfl rfl (by kernel_rfl) (ze rfl) mixed zP zA (by kernel_rfl) ?_;intro L lp rr hL hr hf hlp
  conv=>cbv
  simp only[zo hL,imp_self,true_and];subst hr;refine⟨fun h=>?_,fun h=>?_⟩<;>simp only[zdh,h,cond_true,cond_false]
 ·cases h
def zaE(f0:Int->Int->Int)(q:Int->Int->Prop):zN:=fun
 |[.int .i64 a0,.int .i64 a1]=>some ([q a0 a1],.int .i64 (f0 a0 a1))
 |_=>none
def ne0(_ b:Int):Prop:=b≠0
def za9(a b:Int):Int:=if _h:0<b then za9 b (a.tmod b)else a
termination_by b.toNat
decreasing_by
 have:=ui a (by assumption);omega
def qU(a b:Int):Int:=za9 (zdh a) (zdh b)
def zdg(_ _:Int):Prop:=True
theorem zaz{a b:Int}(h:0<b):za9 a b=za9 b (a.tmod b):=by rw[za9,dif_pos h]
theorem Kq{a b:Int}(h:¬0<b):za9 a b=a:=by rw[za9,dif_neg h]
theorem zdy:yI Tryz.prog 111 (zaE qU zdg):=by
 intro args ps r h hp;unfold zaE at h;split at h
 ·rename_i a0 a1;cases h;generalize HA:zdh=A0;refine zfu (T:=tab) (B:=[(131,zx5 A0)]) [0,1,4] Tryz.func111 rfl rfl (by kernel_rfl) (ze rfl) mixed zP (by subst HA;exact zn zxj zA) (by kernel_rfl) ?_;intro L lp rr hL hr hf hlp
  conv=>cbv
  refine hlp (Int×Int) _ _ _ [0,1] (fun x=>[(0,none,.val (.int .i64 x.1)),(1,none,.val (.int .i64 x.2))])
   (fun x=>qU a0 a1=za9 x.1 x.2) (fun x=>x.2.toNat) (A0 a0,A0 a1) (by subst hL;rfl) (by subst HA;rfl) ?_
  rintro⟨a,b⟩ hI hfx ag hag
  conv=>cbv
  simp only[zo hL,imp_self,true_and,decide_eq_true_eq,decide_eq_false_iff_not];simp only at hI;refine⟨fun h=>⟨by omega,hag (b,a.tmod b) (by rw[hI,zaz h]) ?_⟩,fun h=>?_⟩
  ·have:=ui a h;simp only;omega
  ·subst hr;rw[hI,Kq h]
 ·cases h
theorem zbN:yI Tryz.prog 112 (zaE qU zdg):=by
 intro args ps r h hp;unfold zaE at h;split at h
 ·rename_i a0 a1;cases h;refine zfu (T:=tab) (B:=[]) [0,1,4,5] Tryz.func112 rfl rfl (by kernel_rfl) (ze rfl) mixed zP zA (by kernel_rfl) ?_;intro L lp rr hL hr hf hlp
  conv=>cbv
  simp only[zo hL,imp_self,true_and,decide_eq_true_eq,decide_eq_false_iff_not];refine⟨fun h0=>⟨fun h1=>?_,fun h1=>?_⟩,fun h0=>⟨fun h1=>?_,fun h1=>?_⟩⟩
  ·refine hlp (Int×Int) _ _ _ [0,1] (fun x=>[(0,none,.val (.int .i64 x.1)),(1,none,.val (.int .i64 x.2))])
    (fun x=>qU a0 a1=za9 x.1 x.2) (fun x=>x.2.toNat) (IntKind.wrap .i64 (0-a0),IntKind.wrap .i64 (0-a1)) (by subst hL;rfl) (by simp[qU,zdh,h0,h1]) ?_
   rintro⟨a,b⟩ hI hfx ag hag
   conv=>cbv
   simp only[zo hL,imp_self,true_and,decide_eq_true_eq,decide_eq_false_iff_not];simp only at hI;refine⟨fun h=>⟨by omega,hag (b,a.tmod b) (by rw[hI,zaz h]) ?_⟩,fun h=>?_⟩
   ·have:=ui a h;simp only;omega
   ·subst hr;rw[hI,Kq h]
  ·refine hlp (Int×Int) _ _ _ [0,1] (fun x=>[(0,none,.val (.int .i64 x.1)),(1,none,.val (.int .i64 x.2))])
    (fun x=>qU a0 a1=za9 x.1 x.2) (fun x=>x.2.toNat) (IntKind.wrap .i64 (0-a0),a1) (by subst hL;rfl) (by simp[qU,zdh,h0,h1]) ?_
   rintro⟨a,b⟩ hI hfx ag hag
   conv=>cbv
   simp only[zo hL,imp_self,true_and,decide_eq_true_eq,decide_eq_false_iff_not];simp only at hI;refine⟨fun h=>⟨by omega,hag (b,a.tmod b) (by rw[hI,zaz h]) ?_⟩,fun h=>?_⟩
   ·have:=ui a h;simp only;omega
   ·subst hr;rw[hI,Kq h]
  ·refine hlp (Int×Int) _ _ _ [0,1] (fun x=>[(0,none,.val (.int .i64 x.1)),(1,none,.val (.int .i64 x.2))])
    (fun x=>qU a0 a1=za9 x.1 x.2) (fun x=>x.2.toNat) (a0,IntKind.wrap .i64 (0-a1)) (by subst hL;rfl) (by simp[qU,zdh,h0,h1]) ?_
   rintro⟨a,b⟩ hI hfx ag hag
   conv=>cbv
   simp only[zo hL,imp_self,true_and,decide_eq_true_eq,decide_eq_false_iff_not];simp only at hI;refine⟨fun h=>⟨by omega,hag (b,a.tmod b) (by rw[hI,zaz h]) ?_⟩,fun h=>?_⟩
   ·have:=ui a h;simp only;omega
   ·subst hr;rw[hI,Kq h]
  ·refine hlp (Int×Int) _ _ _ [0,1] (fun x=>[(0,none,.val (.int .i64 x.1)),(1,none,.val (.int .i64 x.2))])
    (fun x=>qU a0 a1=za9 x.1 x.2) (fun x=>x.2.toNat) (a0,a1) (by subst hL;rfl) (by simp[qU,zdh,h0,h1]) ?_
   rintro⟨a,b⟩ hI hfx ag hag
   conv=>cbv
   simp only[zo hL,imp_self,true_and,decide_eq_true_eq,decide_eq_false_iff_not];simp only at hI;refine⟨fun h=>⟨by omega,hag (b,a.tmod b) (by rw[hI,zaz h]) ?_⟩,fun h=>?_⟩
   ·have:=ui a h;simp only;omega
   ·subst hr;rw[hI,Kq h]
 ·cases h
theorem ztU{xs:List Int}{i:Nat}(h:i+1<xs.length):xs.drop i=xs.getD i 0::xs.getD (i+1) 0::xs.drop (i+2):=by
 rw[YQ 0 (by omega),YQ 0 h]
theorem yV(n:Int):V.owneds [V.int .i64 n]=false:=rfl
theorem je{v:V}(h:v.solid=true):∀x∈[v],x.solid=true:=by
 intro x hx;simp at hx;subst hx;exact h
theorem yr(n:Int):∀x∈[V.int .i64 n],x.solid=true:=by
 intro x hx;simp at hx;subst hx;rfl
def Zv(d:Int):List Int->List Int
 |[]=>[]
 |t::l=>qU d t::Zv (qU d t) l
def dv(xs:List Int):List Int:=Zv 0 xs
theorem zm8:∀(l:List Int) (d:Int),(Zv d l).length=l.length
 |[],_=>rfl
 |_::l,_=>by simp[Zv,zm8 l]
def zr7(f0:List V->List V)(q:List V->Prop):zN:=fun
 |[.slc false 2 (.int .i64 0) a0]=>some ([q a0],.slc true 2 (.int .i64 0) (f0 a0))
 |_=>none
def zr8(f0:List V->List V)(q:List V->Prop):zN:=fun
 |[.agg [.slc false 2 (.int .i64 0) a0]]=>some ([q a0],.slc true 2 (.int .i64 0) (f0 a0))
 |_=>none
def JO(es:List V):List V:=I (dv (qj es))
theorem zgR:yI Tryz.prog 106 (zr7 JO uf):=by
 intro args ps r h hp;unfold zr7 at h;split at h
 ·rename_i a0;cases h;obtain⟨⟨xs,hxs⟩,hlen⟩:uf a0:=(zm.1 hp).1;have hxl:a0.length=xs.length:=by rw[hxs,zj]
  rw[hxl]at hlen;obtain⟨m,hm⟩:∃m:Int,m=a0.length:=⟨_,rfl⟩;generalize kQ:qU=Qx;generalize jp:zdg=ZB;refine zC (T:=tab) (B:=[(111,zaE Qx ZB)]) (Bi:=[]) [0,2,3,4,6,8,9,10] Tryz.func106 rfl rfl (by kernel_rfl) (ze rfl) mixed zP (by subst kQ jp;exact(zn zdy zA)) (by subst kQ jp;exact zx) (by kernel_rfl) ?_;intro L lp rr hL hr hf hlp
  conv=>cbv
  refine hlp (List V×Int×Int) _ _ _ [3,4,8,9,10] (fun x=>[(3,none,.val (.slc true 2 (.int .i64 0) x.1)),(4,none,.val (.int .i64 x.2.1)),(8,none,.val (.slc false 2 (.int .i64 0) a0)),(9,none,.val (.int .i64 m)),(10,none,.val (.int .i64 x.2.2))])
   (fun x=>0<=x.2.2/\x.2.2<=xs.length/\∃pre:List Int,x.1=I pre/\pre.length=x.2.2.toNat/\dv xs=pre++Zv x.2.1 (xs.drop x.2.2.toNat)) (fun x=>(xs.length-x.2.2).toNat) ([],0,0) (by subst hL hm;rfl) ⟨by simp,by simp,[],rfl,rfl,by simp[dv]⟩ ?_
  rintro⟨es,d,i⟩ ⟨i0,i1,pre,h1,h2,h3⟩ hfx ag hag
  conv=>cbv
  have hm':m=xs.length:=by rw[hm,hxl]
  have hg:a0.getD i.toNat (.int .i64 0)=.int .i64 (xs.getD i.toNat 0):=by rw[hxs,zO]
  simp only at i0 i1 h1 h2 h3;have hel:es.length=pre.length:=by rw[h1,zj]
  simp only[zo hL,hxl,hg,hel,zas,uV,imp_self,true_and,decide_eq_true_eq,decide_eq_false_iff_not];refine⟨fun h=>⟨i0,by omega,?_,rfl,by simp;omega,yr _,?_⟩,fun h=>?_⟩
  ·subst jp;trivial
  ·rw[zk (n:=i+1) (by omega) (by omega)];subst kQ;refine hag (es++[.int .i64 (qU d (xs.getD i.toNat 0))],qU d (xs.getD i.toNat 0),i+1) ⟨by simp only;omega,by simp only;omega,pre++[qU d (xs.getD i.toNat 0)],by rw[h1];simp[I],by simp;omega,?_⟩ (by simp only;omega);simp only[zL i0];rw[h3,YQ 0 (by omega),Zv];simp
  ·subst hr;rw[Yh (by omega)]at h3;simp only[Zv,yv]at h3;rw[JO,hxs,zr,h3,h1]
 ·cases h
theorem zg1{t:Int}(h:0<t):qU 0 t=t:=by
 have e1:zdh 0=0:=rfl
 have e2:zdh t=t:=by
  have:decide (t<0)=false:=by simp;omega
  rw[zdh,this];rfl
 rw[qU,e1,e2,zaz h,Int.zero_tmod,Kq (by omega)]
def IsP(es:List V):Prop:=∃(t:Int) (l:List Int),es=I (t::l)/\0<t/\l.length<2147483647
theorem zex:yI Tryz.prog 142 (zr8 JO IsP):=by
 intro args ps r h hp;unfold zr8 at h;split at h
 ·rename_i a0;cases h;obtain⟨t0,l0,hxs,ht,hlen⟩:IsP a0:=(zm.1 hp).1;obtain⟨xs,hx⟩:∃xs,xs=t0::l0:=⟨_,rfl⟩;have hxs':a0=I xs:=by rw[hxs,hx]
  have hxl:a0.length=xs.length:=by rw[hxs',zj]
  have hxn:xs.length=l0.length+1:=by rw[hx];rfl
  have hx0:xs.getD 0 0=t0:=by rw[hx];rfl
  generalize kQ:qU=Qx;generalize jp:zdg=ZB;refine zC (T:=tab) (B:=[(112,zaE Qx ZB)]) (Bi:=[]) [0,1,2,3,4] Tryz.func142 rfl rfl (by kernel_rfl) (ze rfl) mixed zP (by subst kQ jp;exact(zn zbN zA)) (by subst kQ jp;exact zx) (by kernel_rfl) ?_;intro L lp rr hL hr hf hlp
  conv=>cbv
  have hg0:a0.getD (Int.toNat 0) (.int .i64 0)=.int .i64 (xs.getD 0 0):=by rw[hxs',zO];rfl
  simp only[zo hL,hxl,hg0,zas,uV,imp_self,true_and,decide_eq_true_eq,decide_eq_false_iff_not];refine⟨by omega,by omega,?_⟩
  refine hlp (List V×Int) _ _ _ [1,3,4] (fun x=>[(1,none,.val (.box 57 (.agg [.slc false 2 (.int .i64 0) a0]))),(3,none,.val (.slc true 2 (.int .i64 0) x.1)),(4,none,.val (.int .i64 x.2))])
   (fun x=>0<x.2/\x.2<=xs.length/\∃(pre:List Int) (d:Int),x.1=I pre/\pre.length=x.2.toNat/\pre.getD (x.2.toNat-1) 0=d/\dv xs=pre++Zv d (xs.drop x.2.toNat)) (fun x=>(xs.length-x.2).toNat) ([.int .i64 (xs.getD 0 0)],1) (by subst hL;rfl)
   ⟨by simp,by simp only;omega,[t0],t0,by rw[hx0];rfl,rfl,rfl,by rw[hx];simp[dv,Zv,zg1 ht]⟩ ?_
  rintro⟨es,i⟩ ⟨i0,i1,pre,d,h1,h2,h4,h3⟩ hfx ag hag
  conv=>cbv
  have hg:a0.getD i.toNat (.int .i64 0)=.int .i64 (xs.getD i.toNat 0):=by rw[hxs',zO]
  simp only at i0 i1 h1 h2 h3 h4;have hel:es.length=pre.length:=by rw[h1,zj]
  have ew:IntKind.wrap .i64 (i-1)=i-1:=zk (by omega) (by omega);have ge:es.getD (i-1).toNat (.int .i64 0)=.int .i64 d:=by rw[h1,zO,show(i-1).toNat=i.toNat-1 by omega,h4]
  simp only[zo hL,hxl,hg,hel,ew,ge,zas,uV,imp_self,true_and,decide_eq_true_eq,decide_eq_false_iff_not];refine⟨fun h=>⟨by omega,by omega,by omega,by omega,by omega,?_,rfl,by simp;omega,yr _,?_⟩,fun h=>?_⟩
  ·subst jp;trivial
  ·rw[zk (n:=i+1) (by omega) (by omega)];subst kQ;refine hag (es++[.int .i64 (qU d (xs.getD i.toNat 0))],i+1) ⟨by simp only;omega,by simp only;omega,pre++[qU d (xs.getD i.toNat 0)],qU d (xs.getD i.toNat 0),by rw[h1];simp[I],by simp;omega,?_,?_⟩ (by simp only;omega)
   ·simp only[zL (zaM i0),yQ];rw[zd,zR (by omega),show i.toNat-pre.length=0 by omega];rfl
   ·simp only[zL (zaM i0)];rw[h3,YQ 0 (by omega),Zv];simp
  ·subst hr;rw[Yh (by omega)]at h3;simp only[Zv,yv]at h3;rw[JO,hxs',zr,h3,h1]
 ·cases h
def asc:List Int->Bool
 |a::b::l=>bif decide (b<=a)then false else asc (b::l)
 |_=>true
def zdQ(f0:List V->Bool)(q:List V->Prop):zN:=fun
 |[.slc false 2 (.int .i64 0) a0]=>some ([q a0],.bool (f0 a0))
 |_=>none
def zkt(es:List V):Bool:=asc (qj es)
theorem zpu:yI Tryz.prog 60 (zdQ zkt JJ):=by
 intro args ps r h hp;unfold zdQ at h;split at h
 ·rename_i a0;cases h;obtain⟨xs,hxs⟩:JJ a0:=(zm.1 hp).1;have hxl:a0.length=xs.length:=by rw[hxs,zj]
  refine zC (T:=tab) (B:=[]) (Bi:=[]) [0,2,3] Tryz.func60 rfl rfl (by kernel_rfl) (ze rfl) mixed zP (by exact zA) (by exact zx) (by kernel_rfl) ?_;intro L lp rr hL hr hf hlp;have hlen:=hf.1.1;rw[hxl]at hlen;have hrr:rr=.bool (asc xs):=by rw[hr,zkt,hxs,zr]
  conv=>cbv
  refine hlp (Int) _ _ _ [0,3] (fun x=>[(0,none,.val (.slc false 2 (.int .i64 0) a0)),(3,none,.val (.int .i64 x))])
   (fun x=>0<x/\asc xs=asc (xs.drop (x.toNat-1))) (fun x=>(xs.length-x).toNat) 1 (by subst hL;rfl) (by simp) ?_
  rintro i ⟨i0,h2⟩ hfx ag hag
  conv=>cbv
  have hg:a0.getD i.toNat (.int .i64 0)=.int .i64 (xs.getD i.toNat 0):=by rw[hxs,zO]
  have hg':a0.getD (i-1).toNat (.int .i64 0)=.int .i64 (xs.getD (i.toNat-1) 0):=by rw[hxs,zO,show(i-1).toNat=i.toNat-1 by omega]
  have key:i<xs.length->xs.drop (i.toNat-1)=xs.getD (i.toNat-1) 0::xs.getD i.toNat 0::xs.drop (i.toNat+1):=by
   intro h;rw[ztU (by omega)];rw[show i.toNat-1+1=i.toNat by omega,show i.toNat-1+2=i.toNat+1 by omega]
  by_cases hb:i<xs.length
  ·have ew:IntKind.wrap .i64 (i-1)=i-1:=zk (by omega) (by omega);simp only[zo hL,hxl,hg,ew,hg',zas,uV,imp_self,true_and,decide_eq_true_eq,decide_eq_false_iff_not];refine⟨fun h=>⟨by omega,by omega,by omega,by omega,fun h4=>?_,fun h4=>?_⟩,fun h=>absurd hb h⟩
   ·rw[hrr,h2,key h,asc,decide_eq_true h4];rfl
   ·rw[zk (n:=i+1) (by omega) (by omega)];refine hag (i+1) ⟨by omega,?_⟩ (by omega);have e1:xs.drop i.toNat=xs.getD i.toNat 0::xs.drop (i.toNat+1):=YQ 0 (by omega);rw[h2,key h,asc,decide_eq_false h4,show(i+1).toNat-1=i.toNat by omega,e1];rfl
  ·have hz:asc (xs.drop (i.toNat-1))=true:=by
    have hl:(xs.drop (i.toNat-1)).length<=1:=by rw[List.length_drop];omega
    match xs.drop (i.toNat-1),hl with
    |[],_=>rfl
    |[_],_=>rfl
   simp only[zo hL,hxl,decide_eq_true_eq,decide_eq_false_iff_not];exact⟨fun h=>absurd h hb,fun _=>by rw[hrr,h2,hz]⟩
 ·cases h
theorem zi0:∀(n:Nat) (a b:Int),b.toNat<=n->0<=a->0<=b->za9 a b=(Nat.gcd a.toNat b.toNat:Int)
 |0,a,b,hn,ha,hb=>by
  obtain rfl:b=0:=by omega
  rw[Kq (by omega)];simp;omega
 |n+1,a,b,hn,ha,hb=>by
  by_cases h:0<b
  ·have h1:(a.tmod b)=((a.toNat%b.toNat:Nat):Int):=by
    obtain⟨x,rfl⟩:=QR ha;obtain⟨y,rfl⟩:=QR hb;rw[Int.tmod_eq_emod_of_nonneg (uj x)];simp
   have h2:a.toNat%b.toNat<b.toNat:=Yg _ (by omega);rw[zaz h,zi0 n b (a.tmod b) (by rw[h1,zV];omega) hb (by rw[h1];exact uj _),h1];simp only[zV];rw[uG a.toNat b.toNat,Nat.gcd_rec b.toNat a.toNat,uG]
  ·obtain rfl:b=0:=(by omega);rw[Kq (by omega)];simp;omega
theorem zdU{t:Int}(h:0<t):zdh t=t:=by
 have:decide (t<0)=false:=by simp;omega
 rw[zdh,this];rfl
theorem zlm{a b:Int}(ha:0<a)(hb:0<b):0<qU a b/\qU a b<=a/\qU a b<=b:=by
 rw[qU,zdU ha,zdU hb,zi0 b.toNat a b (zt _) (by omega) (by omega)];have h1:=Nat.gcd_pos_of_pos_left b.toNat (show 0<a.toNat by omega);have h2:=Nat.le_of_dvd (show 0<a.toNat by omega) (Nat.gcd_dvd_left a.toNat b.toNat);have h3:=Nat.le_of_dvd (show 0<b.toNat by omega) (Nat.gcd_dvd_right a.toNat b.toNat);omega
def dec:List Int->Bool
 |a::b::l=>bif decide (a<=b)then false else dec (b::l)
 |[a]=>a==1
 |[]=>false
def zdM(es:List V):Bool:=dec (dv (qj es))
def zld(es:List V):Prop:=uf es/\es≠[]
theorem zsE:yI Tryz.prog 89 (zdQ zdM zld):=by
 intro args ps r h hp;unfold zdQ at h;split at h
 ·rename_i a0;cases h;obtain⟨⟨⟨xs,hxs⟩,hlen⟩,hne⟩:zld a0:=(zm.1 hp).1;have hxl:a0.length=xs.length:=by rw[hxs,zj]
  obtain⟨ds,hds⟩:∃ds,ds=dv xs:=⟨_,rfl⟩;have hdl:ds.length=xs.length:=by rw[hds,dv,zm8]
  have hpos:0<xs.length:=by
   cases xs with
   |nil=>exact absurd hxs hne
   |cons x l=>simp
  have hf0:JO (V.frzs a0)=I ds:=by rw[hxs,zD,JO,zr,hds]
  have hq:uf (V.frzs a0):=by rw[hxs,zD];exact⟨⟨xs,rfl⟩,by rw[<-hxs];exact hlen⟩
  have hrr0:zdM a0=dec ds:=by rw[zdM,hxs,zr,hds]
  rw[hxl]at hlen;generalize ZX:JO=KU;generalize yA:uf=jq;refine zC (T:=tab) (B:=[(106,zr7 KU jq)]) (Bi:=[]) [0,2,3,4] Tryz.func89 rfl rfl (by kernel_rfl) (ze rfl) mixed zP (by subst ZX yA;exact(zn zgR zA)) (by subst ZX yA;exact zx) (by kernel_rfl) ?_;intro L lp rr hL hr hf hlp
  conv=>cbv
  have hF:KU (V.frzs a0)=I ds:=by rw[<-ZX];exact hf0
  simp only[zo hL,hF];refine⟨by rw[<-yA];exact hq,?_⟩;obtain⟨es,hes⟩:∃es,es=I ds:=⟨_,rfl⟩;have hel:es.length=ds.length:=by rw[hes,zj]
  refine hlp (Int) _ _ _ [3,4] (fun x=>[(3,none,.val (.slc true 2 (.int .i64 0) es)),(4,none,.val (.int .i64 x))])
   (fun x=>0<x/\x<=ds.length/\dec ds=dec (ds.drop (x.toNat-1))) (fun x=>(ds.length-x).toNat) 1 (by subst hL hes;rfl) ⟨by simp,by omega,by simp⟩ ?_
  rintro i ⟨i0,i1,h2⟩ hfx ag hag
  conv=>cbv
  have ew:IntKind.wrap .i64 (i-1)=i-1:=zk (by omega) (by omega);have ew2:IntKind.wrap .i64 ((ds.length:Int)-1)=(ds.length:Int)-1:=zk (by omega) (by omega);have hg:es.getD i.toNat (.int .i64 0)=.int .i64 (ds.getD i.toNat 0):=by rw[hes,zO]
  have hg':es.getD (i-1).toNat (.int .i64 0)=.int .i64 (ds.getD (i.toNat-1) 0):=by rw[hes,zO,show(i-1).toNat=i.toNat-1 by omega]
  have hg2:es.getD ((ds.length:Int)-1).toNat (.int .i64 0)=.int .i64 (ds.getD (ds.length-1) 0):=by rw[hes,zO,show((ds.length:Int)-1).toNat=ds.length-1 by omega]
  simp only[zo hL,hel,hg,hg',hg2,ew,ew2,zas,uV,imp_self,true_and,decide_eq_true_eq,decide_eq_false_iff_not];have hrr:rr=.bool (dec ds):=by rw[hr,hrr0]
  refine⟨fun h=>?_,fun h=>?_⟩
  ·have key:ds.drop (i.toNat-1)=ds.getD (i.toNat-1) 0::ds.getD i.toNat 0::ds.drop (i.toNat+1):=by
    rw[ztU (by omega)];rw[show i.toNat-1+1=i.toNat by omega,show i.toNat-1+2=i.toNat+1 by omega]
   (repeat' first|(intro _)|(apply And.intro))<;>try omega
   ·rename_i h4;rw[hrr,h2,key,dec,decide_eq_true h4];rfl
   ·rename_i h4;rw[zk (n:=i+1) (by omega) (by omega)];refine hag (i+1) ⟨by omega,by omega,?_⟩ (by omega);have e1:ds.drop i.toNat=ds.getD i.toNat 0::ds.drop (i.toNat+1):=YQ 0 (by omega);rw[h2,key,dec,decide_eq_false h4,show(i+1).toNat-1=i.toNat by omega,e1];rfl
  ·(repeat' first|(intro _)|(apply And.intro))<;>try omega
   have e1:ds.drop (i.toNat-1)=[ds.getD (ds.length-1) 0]:=by
    rw[show i.toNat-1=ds.length-1 by omega,YQ 0 (by omega),Yh (by omega)]
   rw[hrr,h2,e1];rfl
 ·cases h
def YW(xs:List Int):Bool:=
 bif (bif (bif (bif decide (0<(xs.length:Int))then yu (xs.getD 0 0) 1 64 else false)then asc xs else false)then jV xs 1 2000 else false)then dec (dv xs)else false
def zgm(p e:Int):List Int->Bool
 |[]=>e==1
 |t::l=>bif !yu t (IntKind.wrap .i64 (p+1)) 2000 then false else bif qU e t==e then false else zgm t (qU e t) l
theorem zwx:∀(l:List Int) (p e:Int),1<=p->p<=2000->1<=e->zgm p e l=(asc (p::l)&&jV l 1 2000&&dec (e::Zv e l))
 |[],p,e,_,_,_=>by simp[zgm,asc,jV,Zv,dec]
 |t::l,p,e,h1,h2,h3=>by
  have ew:IntKind.wrap .i64 (p+1)=p+1:=zk (by omega) (by omega);simp only[zgm,ew];by_cases hr:p+1<=t/\t<=2000
  ·have e1:yu t (p+1) 2000=true:=(by simp[yu,hr]);have e2:asc (p::t::l)=asc (t::l):=(by simp[asc];omega);have e3:jV (t::l) 1 2000=jV l 1 2000:=(by simp[jV,yu];omega);obtain⟨g1,g2,_⟩:=zlm (a:=e) (b:=t) (by omega) (by omega);rw[e1,e2,e3];simp only[Bool.not_true,cond_false,Zv,dec];by_cases hg:qU e t=e
   ·simp[hg]
   ·have e4:decide (e<=qU e t)=false:=(by simp;omega);have e5:(qU e t==e)=false:=(by simpa using hg);rw[e4,e5];simp only[cond_false];exact zwx l t (qU e t) (by omega) (by omega) (by omega)
  ·have e1:yu t (p+1) 2000=false:=by
    simp only[yu,ud,decide_eq_false_iff_not];omega
   rw[e1];simp only[Bool.not_false,cond_true];by_cases hp:t<=p
   ·simp[asc,hp]
   ·have:jV (t::l) 1 2000=false:=by
     have:yu t 1 2000=false:=by
      simp only[yu,ud,decide_eq_false_iff_not];omega
     simp[jV,this]
    simp[this]
def zfe(xs:List Int):Bool:=bif (bif ((xs.length:Int)==0)then true else !yu (xs.getD 0 0) 1 64)then false else zgm (xs.getD 0 0) (xs.getD 0 0) (xs.drop 1)
theorem ztp(xs:List Int):zfe xs=YW xs:=by
 cases xs with
 |nil=>rfl
 |cons t l=>
  have e0:(((t::l).length:Int)==0)=false:=by
   rw[beq_eq_false_iff_ne];simp only[zi];omega
  have e1:decide (0<((t::l).length:Int))=true:=by
   rw[decide_eq_true_eq];simp only[zi];omega
  simp only[zfe,YW,e0,e1,cond_true,cond_false,ji,List.drop_succ_cons,List.drop_zero]
  cases hr:yu t 1 64 with
  |false=>simp
  |true=>
   simp only[yu,zh,decide_eq_true_eq]at hr;rw[zwx l t t (by omega) (by omega) (by omega)];have e2:dv (t::l)=t::Zv t l:=(by simp only[dv,Zv];rw[zg1 (by omega)]);have e3:jV (t::l) 1 2000=jV l 1 2000:=(by simp[jV,yu];omega);rw[e2,e3];cases asc (t::l)<;>cases jV l 1 2000<;>simp
theorem zDv{A B C D:Bool}(h:(bif (bif (bif D then A else false)then B else false)then C else false)=true):D=true:=by
 cases D<;>simp_all
def YF(f0:List V->Bool)(q:List V->Prop):zN:=fun
 |[.agg [.slc false 2 (.int .i64 0) a0]]=>some ([q a0],.bool (f0 a0))
 |_=>none
def kW(es:List V):Bool:=YW (qj es)
theorem zcS:yI Tryz.prog 49 (YF kW uf):=by
 intro args ps r h hp;unfold YF at h;split at h
 ·rename_i a0;cases h;obtain⟨⟨xs,hxs⟩,hlen⟩:uf a0:=(zm.1 hp).1;have hxl:a0.length=xs.length:=by rw[hxs,zj]
  have hg:a0.getD (Int.toNat 0) (.int .i64 0)=.int .i64 (xs.getD 0 0):=by rw[hxs,zO];rfl
  have hrr0:kW a0=YW xs:=by rw[kW,hxs,zr]
  have q1:JJ (V.frzs a0):=by rw[hxs,zD];exact⟨xs,rfl⟩
  have q2:xs≠[]->zld (V.frzs a0):=by
   intro h;rw[hxs,zD];refine⟨⟨⟨xs,rfl⟩,by rw[<-hxs];exact hlen⟩,?_⟩
   cases xs with
   |nil=>exact absurd rfl h
   |cons x l=>simp[I]
  have g1:zkt (V.frzs a0)=asc xs:=by rw[hxs,zD,zkt,zr]
  have g2:zb8 (V.frzs a0) 1 2000=jV xs 1 2000:=by rw[hxs,zD,zb8,zr]
  have g3:zdM (V.frzs a0)=dec (dv xs):=by rw[hxs,zD,zdM,zr]
  generalize yk:yu=qR;generalize znA:zkt=zA9;generalize zjs:JJ=zsb;generalize KD:zb8=zfm;generalize zjq:zdM=zyf;generalize zkS:zld=zzy;refine zC (T:=tab) (B:=[(88,qW qR),(60,zdQ zA9 zsb),(61,zbU zfm zsb),(89,zdQ zyf zzy)]) (Bi:=[]) [0,1,2,3] Tryz.func49 rfl rfl (by kernel_rfl) (ze rfl) mixed zP (by subst yk znA zjs KD zjq zkS;exact(zn za1 (zn zpu (zn zjD (zn zsE zA))))) (by subst yk znA zjs KD zjq zkS;exact zx) (by kernel_rfl) ?_;intro L lp rr hL hr hf hlp
  conv=>cbv
  simp only[zo hL,hxl,hg,zas,uV,imp_self,true_and,and_true];subst yk znA zjs KD zjq zkS;simp only[g1,g2,g3,q1,implies_true,true_and]
  have hne:decide (0<(xs.length:Int))=true->xs≠[]:=by
   rintro h rfl;simp at h
  (repeat' first|(intro _)|(apply And.intro))<;>try (first|omega|assumption|trivial)
  ·rename_i h;simpa using h
  ·rename_i h;exact(q2 (hne (zDv h))).1.2
  ·rename_i h h';exact(q2 (hne (zDv h))).2 h'
  ·rw[hr,hrr0,YW]
 ·cases h
theorem zao:yI Tryz.prog 81 (YF kW uf):=by
 intro args ps r h hp;unfold YF at h;split at h
 ·rename_i a0;cases h;obtain⟨⟨xs,hxs⟩,hlen⟩:uf a0:=(zm.1 hp).1;have hxl:a0.length=xs.length:=by rw[hxs,zj]
  have hg0:a0.getD (Int.toNat 0) (.int .i64 0)=.int .i64 (xs.getD 0 0):=by rw[hxs,zO];rfl
  have hrr0:kW a0=zfe xs:=by rw[kW,hxs,zr,ztp]
  rw[hxl]at hlen;generalize yk:yu=qR;generalize kQ:qU=Qx;generalize jp:zdg=ZB;refine zC (T:=tab) (B:=[(82,qW qR),(112,zaE Qx ZB)]) (Bi:=[]) [0,1,2,3,4,5,6] Tryz.func81 rfl rfl (by kernel_rfl) (ze rfl) mixed zP (by subst yk kQ jp;exact(zn Ym (zn zbN zA))) (by subst yk kQ jp;exact zx) (by kernel_rfl) ?_;intro L lp rr hL hr hf hlp;have hrr:rr=.bool (zfe xs):=by rw[hr,hrr0]
  conv=>cbv
  simp only[zo hL,hxl,hg0,zas,uV,imp_self,true_and,and_true]
  (repeat' first|(intro _)|(apply And.intro))<;>try (first|omega|assumption|trivial)
  ·rename_i h
   cases xs with
   |nil=>simp at h
   |cons x l=>simp
  ·rename_i h;subst yk;rw[hrr,zfe,h];rfl
  ·rename_i h
   cases xs with
   |nil=>simp at h
   |cons x l=>simp
  ·rename_i h
   have hpos:0<xs.length:=by
    cases xs with
    |nil=>simp at h
    |cons x l=>simp
   have hgo:zfe xs=zgm (xs.getD 0 0) (xs.getD 0 0) (xs.drop 1):=by
    subst yk;rw[zfe,h];rfl
   refine hlp (Int×Int) _ _ _ [3,4,5] (fun x=>[(3,none,.val (.slc false 2 (.int .i64 0) a0)),(4,none,.val (.int .i64 x.1)),(5,none,.val (.int .i64 x.2))])
    (fun x=>0<x.2/\x.2<=xs.length/\zfe xs=zgm (xs.getD (x.2.toNat-1) 0) x.1 (xs.drop x.2.toNat)) (fun x=>(xs.length-x.2).toNat) (xs.getD 0 0,1) (by subst hL;simp only[zo rfl,hg0,uV];rfl) ⟨by simp,by simp only;omega,hgo⟩ ?_
   rintro⟨e,i⟩ ⟨i0,i1,h2⟩ hfx ag hag
   conv=>cbv
   simp only at i0 i1 h2;have hg:a0.getD i.toNat (.int .i64 0)=.int .i64 (xs.getD i.toNat 0):=(by rw[hxs,zO]);have hg':a0.getD (i-1).toNat (.int .i64 0)=.int .i64 (xs.getD (i.toNat-1) 0):=(by rw[hxs,zO,show(i-1).toNat=i.toNat-1 by omega]);have ew:IntKind.wrap .i64 (i-1)=i-1:=zk (by omega) (by omega);simp only[zo hL,hxl,hg,hg',ew,zas,uV,imp_self,true_and,and_true,decide_eq_true_eq,decide_eq_false_iff_not];refine⟨fun hb=>?_,fun hb=>?_⟩
   ·have e1:xs.drop i.toNat=xs.getD i.toNat 0::xs.drop (i.toNat+1):=YQ 0 (by omega);rw[e1,zgm]at h2
    (repeat' first|(intro _)|(apply And.intro))<;>try (first|omega|assumption|trivial)
    ·rename_i h4;subst yk;rw[hrr,h2,h4];rfl
    ·subst jp;trivial
    ·rename_i h4 h5;subst yk kQ;rw[hrr,h2,h4,h5];rfl
    ·rename_i h4 h5;subst yk kQ;rw[zk (n:=i+1) (by omega) (by omega)];refine hag (qU e (xs.getD i.toNat 0),i+1) ⟨by simp only;omega,by simp only;omega,?_⟩ (by simp only;omega);rw[h2,h4,h5];simp only[cond_false,zL (zaM i0),yQ]
   ·have e1:xs.drop i.toNat=[]:=Yh (by omega);rw[hrr,h2,e1];rfl
 ·cases h
def zx6(f0:List V->Int):zN:=fun
 |[.agg [.slc false 2 (.int .i64 0) a0]]=>some ([],.int .i64 (f0 a0))
 |_=>none
def zi9(es:List V):Int:=IntKind.wrap .i64 ((es.length:Int)-1)
theorem zpq:yI Tryz.prog 105 (zx6 zi9):=by
 intro args ps r h hp;unfold zx6 at h;split at h
 ·rename_i a0;cases h;refine zC (T:=tab) (B:=[]) (Bi:=[]) [0,1,2] Tryz.func105 rfl rfl (by kernel_rfl) (ze rfl) mixed zP (by exact zA) (by exact zx) (by kernel_rfl) ?_;intro L lp rr hL hr hf hlp
  conv=>cbv
  simp only[zo hL];exact hr.symm
 ·cases h
theorem IsP.isIs{es:List V}(h:IsP es):uf es:=by
 obtain⟨t,l,rfl,_,hl⟩:=h;exact⟨⟨_,rfl⟩,by simp;omega⟩
theorem ztT:∀(l:List Int) (d:Int),0<d->jV l 1 2000=true->∀i,i<l.length->0<(Zv d l).getD i 0
 |[],_,_,_,i,h=>by simp at h
 |t::l,d,hd,hw,i,h=>by
  simp only[jV,QT,zh,yu,decide_eq_true_eq]at hw;have hg:=(zlm hd (show 0<t by omega)).1
  cases i with
  |zero=>simpa [Zv]using hg
  |succ i=>
   have:=ztT l (qU d t) hg (by simpa [jV,yu]using hw.2) i (by simpa using h);simpa [Zv]using this
theorem zrp(a b:Bool):(bif a then b else false)=(a&&b):=by cases a<;>rfl
theorem zor{xs:List Int}(h:YW xs=true):∃t l,xs=t::l/\1<=t/\t<=64/\jV xs 1 2000=true/\(∀i,i<xs.length->0<(dv xs).getD i 0):=by
 simp only[YW,zrp,zh]at h;obtain⟨⟨⟨⟨h1,h2⟩,h3⟩,h4⟩,h5⟩:=h
 cases xs with
 |nil=>simp at h1
 |cons t l=>
  simp only[ji,yu,zh,decide_eq_true_eq]at h2;refine⟨t,l,rfl,h2.1,h2.2,h4,fun i hi=>?_⟩;have e2:dv (t::l)=t::Zv t l:=by simp only[dv,Zv];rw[zg1 (by omega)]
  rw[e2]
  cases i with
  |zero=>simp only[ji];omega
  |succ i=>
   have hw:jV l 1 2000=true:=by
    simp only[jV,QT,zh]at h4;exact h4.2
   simpa using ztT l t (by omega) hw i (by simpa using hi)
def zjd(f0:List V->List V)(q:List V->Prop):zN:=fun
 |[.agg [.slc false 2 (.int .i64 0) a0]]=>some ([q a0],.agg [.slc true 2 (.int .i64 0) (f0 a0)])
 |_=>none
def II(o:Bool)(xss:List (List Int)):List V:=xss.map fun xs=>.slc o 2 (.int .i64 0) (I xs)
def uL(es:List V):List (List Int):=es.map fun v=>qj v.toL
theorem yd(o:Bool)(xss:List (List Int)):uL (II o xss)=xss:=by
 simp only[uL,II,uH]
 conv=>rhs;rw[<-List.map_id xss]
 apply jB;intro xs _;simp[V.toL]
theorem ye(o:Bool)(xss:List (List Int)):(II o xss).length=xss.length:=by simp[II]
theorem qo(o:Bool)(xss:List (List Int))(i:Nat):(II o xss).getD i (.slc o 2 (.int .i64 0) [])=.slc o 2 (.int .i64 0) (I (xss.getD i [])):=by
 simp only[II,zd,zT];cases xss[i]? <;>rfl
theorem zkN(o:Bool)(xss:List (List Int))(i:Nat)(xs:List Int):(II o xss).set i (.slc o 2 (.int .i64 0) (I xs))=II o (xss.set i xs):=by simp[II,Qk]
theorem qy(o:Bool)(xss:List (List Int)):V.frzs (II o xss)=II false xss:=by
 rw[V.frzs_eq];simp only[II,uH];apply jB;intro xs _;simp[V.frz,zD]
theorem zjn(xss:List (List Int)):V.noFzs (II true xss)=true:=by
 rw[V.noFzs_eq];simp only[II,List.all_map,yn];intro xs _;simp[V.noFz]
theorem zfo(o:Bool)(e:TypeId)(d:V)(es:List V):uN.toL (.slc o e d es)=es:=rfl
def zA0(o:Bool)(es:List V):Prop:=∃xss,es=II o xss
theorem zv1(o o':Bool)(xs:List Int):vw uN tab o 20 29 (.slc o' 2 (.int .i64 0) (I xs))=some (.slc o 2 (.int .i64 0) (I xs)):=by cases o<;>rfl
theorem zjy(xss:List (List Int))(i:Nat)(h:i<xss.length):xss.take (i+1)=xss.take i++[xss.getD i []]:=by
 rw[List.take_succ_eq_append_getElem h,zd,zg h];rfl
def bL:V->List V
 | .agg [.slc _ _ _ es]=>es
 |_=>[]
def BB(o:Bool)(xss:List (List Int)):List V:=xss.map fun xs=>.agg [.slc o 2 (.int .i64 0) (I xs)]
def kv(es:List V):List (List Int):=es.map fun v=>qj (bL v)
theorem yo(o:Bool)(xss:List (List Int)):kv (BB o xss)=xss:=by
 simp only[kv,BB,uH]
 conv=>rhs;rw[<-List.map_id xss]
 apply jB;intro xs _;simp[bL]
theorem yz(o:Bool)(xss:List (List Int)):(BB o xss).length=xss.length:=by simp[BB]
theorem ku(o:Bool)(xss:List (List Int))(i:Nat):(BB o xss).getD i (.agg [.slc o 2 (.int .i64 0) []])=.agg [.slc o 2 (.int .i64 0) (I (xss.getD i []))]:=by
 simp only[BB,zd,zT];cases xss[i]? <;>rfl
theorem zzC(o:Bool)(xss:List (List Int))(i:Nat)(xs:List Int):(BB o xss).set i (.agg [.slc o 2 (.int .i64 0) (I xs)])=BB o (xss.set i xs):=by simp[BB,Qk]
theorem qH(o:Bool)(xss:List (List Int)):V.frzs (BB o xss)=BB false xss:=by
 rw[V.frzs_eq];simp only[BB,uH];apply jB;intro xs _;simp[V.frz,V.frzs,zD]
theorem znD(xss:List (List Int)):V.noFzs (BB true xss)=true:=by
 rw[V.noFzs_eq];simp only[BB,List.all_map,yn];intro xs _;simp[V.noFz,V.noFzs]
theorem uq(o:Bool)(e:TypeId)(d:V)(es:List V):uN.fld (.agg [.slc o e d es]) 0=.slc o e d es:=rfl
theorem um(o:Bool)(e:TypeId)(d:V)(es:List V):uN.toL (uN.fld (.agg [.slc o e d es]) 0)=es:=rfl
def zDE(o:Bool)(es:List V):Prop:=∃xss,es=BB o xss
theorem uy(o o':Bool)(xs:List Int):vw uN tab o 20 57 (.agg [.slc o' 2 (.int .i64 0) (I xs)])=some (.agg [.slc o 2 (.int .i64 0) (I xs)]):=by cases o<;>rfl
end Go.Ax
namespace Go.Proofs.YtdahdoichcnlgaaGreat
open Go.ChangeShapes Go.WideShapes Go.ChangeAt Go.RowKit Go.Ax
theorem zEn:ownKnob Tryz.prog.godebug=none:=by kernel_rfl
theorem zB6:laidOutB Tryz.prog=true:=by kernel_rfl
def okK:TK->Bool
 | .oth=>false
 |_=>true
theorem zDY:∀t ti,qT tab t=some ti->ti.k≠.oth:=by
 have h:(tab.all fun x=>okK x.2.k)=true:=by kernel_rfl
 intro t ti ht hk;have:=yn.1 h _ (zmu ht);rw[hk]at this;cases this
end Go.Proofs.YtdahdoichcnlgaaGreat
namespace Go.Ax
open Go.Proofs Go.Proofs.YtdahdoichcnlgaaGreat
theorem znf{a b:Bool}(ha:a=true)(hb:b=true):(a&&b)=true:=by rw[ha,hb];rfl
theorem zBV: Tryz.prog.mayEnter=true:=by kernel_rfl
theorem zC9:(({program:= "",sum:= "",func:= "",spec:= "" }:OpenClaim).lifted== Tryz.prog.liftsFinal)=true:=by kernel_rfl
theorem zC8:(Tryz.prog.make==some ({program:= "",sum:= "",func:= "",spec:= "" }:OpenClaim).make)=true:=by kernel_rfl
open Go.Proofs
theorem zeR:yI Tryz.prog 141 (uQ same uf):=by
 intro args ps r h hp;unfold uQ at h;split at h
 ·rename_i a0;cases h;obtain⟨⟨xs,hxs⟩,hlen⟩:uf a0:=(zm.1 hp).1;have hxl:a0.length=xs.length:=by rw[hxs,zj]
  refine zC (T:=tab) (B:=[]) (Bi:=[]) [0,2] Tryz.func141 rfl rfl (by kernel_rfl) (ze rfl) mixed zP (by exact zA) (by exact zx) (by kernel_rfl) ?_;intro L lp rr hL hr hf hlp
  conv=>cbv
  simp only[zo hL,hxl];rw[hr,same];exact⟨by rw[hxs,zjm],by simp;omega,by rw[hxs];exact zlE xs,rfl⟩
 ·cases h
theorem zBO:yI Tryz.prog 121 (uQ same uf):=by
 intro args ps r h hp;unfold uQ at h;split at h
 ·rename_i a0;cases h;obtain⟨⟨xs,hxs⟩,hlen⟩:uf a0:=(zm.1 hp).1;have hxl:a0.length=xs.length:=by rw[hxs,zj]
  refine zC (T:=tab) (B:=[]) (Bi:=[]) [0,2] Tryz.func121 rfl rfl (by kernel_rfl) (ze rfl) mixed zP (by exact zA) (by exact zx) (by kernel_rfl) ?_;intro L lp rr hL hr hf hlp
  conv=>cbv
  simp only[zo hL,hxl]
  have hnx:V.owneds a0=false/\(([]:List V).length:Int)+xs.length<=2147483647/\(∀x:V,x∈a0->x.solid=true)/\V.slc true 2 (.int .i64 0) ([]++a0)=rr:=by
   rw[hr,same];exact⟨by rw[hxs,zjm],by simp;omega,by rw[hxs];exact zlE xs,rfl⟩
  refine⟨fun h=>⟨fun _=>?_,fun _=>hnx⟩,fun h=>(by cases h),fun _=>hnx⟩
  have:xs=[]:=by
   simp only[beq_iff_eq]at h;exact List.eq_nil_of_length_eq_zero (by omega)
  rw[hr,same,hxs,this];rfl
 ·cases h
theorem zlT:yI Tryz.prog 95 (zjd same uf):=by
 intro args ps r h hp;unfold zjd at h;split at h
 ·rename_i a0;cases h;have hq:uf a0:=(zm.1 hp).1
  have q1:uf (V.frzs a0):=by
   obtain⟨⟨xs,hxs⟩,hl⟩:=hq;rw[hxs,zD,<-hxs];exact⟨⟨xs,hxs⟩,hl⟩
  have g1:V.frzs a0=a0:=by
   obtain⟨⟨xs,hxs⟩,hl⟩:=hq;rw[hxs,zD]
  generalize uc:same=YJ;generalize yA:uf=jq;refine zC (T:=tab) (B:=[(121,uQ YJ jq)]) (Bi:=[]) [0,1,2] Tryz.func95 rfl rfl (by kernel_rfl) (ze rfl) mixed zP (by subst uc yA;exact(zn zBO zA)) (by subst uc yA;exact zx) (by kernel_rfl) ?_;intro L lp rr hL hr hf hlp
  conv=>cbv
  simp only[zo hL];subst uc yA;exact⟨q1,by rw[hr,g1]⟩
 ·cases h
theorem zjA:yI Tryz.prog 117 (zjd same uf):=by
 intro args ps r h hp;unfold zjd at h;split at h
 ·rename_i a0;cases h;have hq:uf a0:=(zm.1 hp).1
  have q1:uf (V.frzs a0):=by
   obtain⟨⟨xs,hxs⟩,hl⟩:=hq;rw[hxs,zD,<-hxs];exact⟨⟨xs,hxs⟩,hl⟩
  have g1:V.frzs a0=a0:=by
   obtain⟨⟨xs,hxs⟩,hl⟩:=hq;rw[hxs,zD]
  generalize uc:same=YJ;generalize yA:uf=jq;refine zC (T:=tab) (B:=[(141,uQ YJ jq)]) (Bi:=[]) [0,1,2] Tryz.func117 rfl rfl (by kernel_rfl) (ze rfl) mixed zP (by subst uc yA;exact(zn zeR zA)) (by subst uc yA;exact zx) (by kernel_rfl) ?_;intro L lp rr hL hr hf hlp
  conv=>cbv
  simp only[zo hL];subst uc yA;exact⟨q1,by rw[hr,g1]⟩
 ·cases h
theorem zuv(o:Bool)(n:Nat)(xs:List Int):II o (List.replicate n xs)=List.replicate n (.slc o 2 (.int .i64 0) (I xs)):=by simp[II,List.map_replicate]
theorem ZK(o:Bool)(a b:List (List Int)):II o (a++b)=II o a++II o b:=by simp[II]
theorem Kd{a:List V}(h:zDE false a):V.frzs a=a:=by
 obtain⟨l,rfl⟩:=h;rw[qH]
theorem Kc{a:List V}(h:zA0 false a):V.frzs a=a:=by
 obtain⟨l,rfl⟩:=h;rw[qy]
def qD{α:Type}(f:Nat->α)(n:Nat):List α:=(List.range n).map f
theorem yR{α:Type}(f:Nat->α)(n:Nat):(qD f n).length=n:=by simp[qD]
theorem zbY{α:Type}(f:Nat->α)(n:Nat):qD f (n+1)=qD f n++[f n]:=by simp[qD,Jp]
theorem js{α:Type}(f:Nat->α)(n i:Nat)(d:α)(h:i<n):(qD f n).getD i d=f i:=by
 simp[qD,zd,zT,QG h]
theorem uM{α:Type}(f:Nat->α)(n i:Nat)(h:i<n):(qD f n)[i]? =some (f i):=by
 simp[qD,QG h]
theorem qA{α:Type}{f g:Nat->α}{n:Nat}(h:∀i,i<n->f i=g i):qD f n=qD g n:=by
 simp only[qD];apply jB;intro i hi;exact h i (by simpa using hi)
theorem zzL{α:Type}(f:Nat->α)(n k:Nat)(h:k<=n):(qD f n).take k=qD f k:=by
 simp only[qD,<-List.map_take,List.take_range,Nat.min_eq_left h]
abbrev W(n:Int):Int:=IntKind.wrap .i64 n
theorem ztV:∀(l:List Int),dec l=true->∀i,i+1<l.length->l.getD (i+1) 0<l.getD i 0
 |[],h,_,_=>by simp[dec]at h
 |[a],_,i,hi=>by simp at hi
 |a::b::l,h,i,hi=>by
  simp only[dec]at h
  cases hab:decide (a<=b)with
  |true=>rw[hab]at h;simp at h
  |false=>
   rw[hab]at h;simp only[decide_eq_false_iff_not]at hab
   cases i with
   |zero=>simp;omega
   |succ i=>simpa using ztV (b::l) h i (by simpa using hi)
theorem ztW:∀(l:List Int),dec l=true->l≠[]/\l.getD (l.length-1) 0=1
 |[],h=>by simp[dec]at h
 |[a],h=>by simpa [dec]using h
 |a::b::l,h=>by
  simp only[dec]at h
  cases hab:decide (a<=b)with
  |true=>rw[hab]at h;simp at h
  |false=>
   rw[hab]at h;refine⟨by simp,?_⟩;have:=(ztW (b::l) h).2;simpa using this
theorem zur:∀(l:List Int),asc l=true->∀i,i+1<l.length->l.getD i 0<l.getD (i+1) 0
 |[],_,_,hi=>by simp at hi
 |[a],_,i,hi=>by simp at hi
 |a::b::l,h,i,hi=>by
  simp only[asc]at h
  cases hab:decide (b<=a)with
  |true=>rw[hab]at h;simp at h
  |false=>
   rw[hab]at h;simp only[decide_eq_false_iff_not]at hab
   cases i with
   |zero=>simp;omega
   |succ i=>simpa using zur (b::l) h i (by simpa using hi)
structure Br (xs:List Int):Prop where
 is:YW xs=true
 pos:0<xs.length
 len:xs.length<=64
 low:∀i,i<xs.length->1<=xs.getD i 0
 high:∀i,i<xs.length->xs.getD i 0<=2000
 up:∀i,i+1<xs.length->xs.getD i 0<xs.getD (i+1) 0
 first:xs.getD 0 0<=64
 dlen:(dv xs).length=xs.length
 d0:(dv xs).getD 0 0=xs.getD 0 0
 dpos:∀i,i<xs.length->1<=(dv xs).getD i 0
 dhi:∀i,i<xs.length->(dv xs).getD i 0<=64
 dstep:∀i,i+1<xs.length->(dv xs).getD (i+1) 0<(dv xs).getD i 0
 dlast:(dv xs).getD (xs.length-1) 0=1
theorem jz{xs:List Int}(h:YW xs=true):Br xs:=by
 obtain⟨t,l,hx,h1,h2,hw,hd⟩:=zor h;have h':=h;simp only[YW,zrp,zh]at h';obtain⟨⟨⟨⟨_,_⟩,ha⟩,_⟩,hdec⟩:=h';have hdl:(dv xs).length=xs.length:=by rw[dv,zm8]
 have hpos:0<xs.length:=by rw[hx];simp
 have hall:∀i,i<xs.length->1<=xs.getD i 0/\xs.getD i 0<=2000:=by
  intro i hi;simp only[jV,yn,yu,zh,decide_eq_true_eq]at hw;rw[zd,zg hi];exact hw _ (List.getElem_mem hi)
 have hd0:(dv xs).getD 0 0=xs.getD 0 0:=by rw[hx];simp[dv,Zv,zg1 (show 0<t by omega)]
 have hst:∀i,i+1<xs.length->(dv xs).getD (i+1) 0<(dv xs).getD i 0:=fun i hi=>ztV _ hdec i (by omega);have hx0:xs.getD 0 0=t:=by rw[hx];rfl
 have hhi:∀i:Nat,i<xs.length->(dv xs).getD i 0<=64-i:=by
  intro i
  induction i with
  |zero=>intro _;rw[hd0,hx0];omega
  |succ i ih=>
   intro hi;have:=ih (by omega);have:=hst i hi;omega
 have hlast:=(ztW _ hdec).2;rw[hdl]at hlast;refine⟨h,hpos,?_,fun i hi=>(hall i hi).1,fun i hi=>(hall i hi).2,fun i hi=>zur _ ha i hi,by rw[hx0];omega,hdl,hd0,fun i hi=>hd i hi,fun i hi=>by have:=hhi i hi;omega,hst,hlast⟩;have:=hhi (xs.length-1) (by omega);rw[hlast]at this;omega
def ur(es:List V):Prop:=∃xs,es=I xs/\Br xs
theorem ur.isP{es:List V}(h:ur es):IsP es:=by
 obtain⟨xs,rfl,hb⟩:=h;obtain⟨t,l,rfl,h1,_⟩:=zor hb.is;exact⟨t,l,rfl,by omega,by have:=hb.len;simp at this;omega⟩
theorem ur.isIs{es:List V}(h:ur es):uf es:=h.isP.isIs
def zoP(f:List V->List V)(q:List V->Prop):zN:=fun
 |[.agg [.slc false 2 (.int .i64 0) a0]]=>some ([q a0],.slc true 2 (.int .i64 0) (f a0))
 |_=>none
def zyc(es:List V):Prop:=∃xss,es=II false xss/\xss.length<=2147483647/\∀xs∈xss,xs.length<=2147483647
theorem zyc.isII{es:List V}(h:zyc es):zA0 false es:=by
 obtain⟨x,h,_⟩:=h;exact⟨x,h⟩
abbrev gI(l:List Int)(i:Int):Int:=l.getD i.toNat 0
def zDT(a b:Int)(l:List Int):List Int:=l.map fun x=>if x=b then a else x
def zDf(n:Nat):List Int:=qD (fun i=>(i:Int)) n
def e0(e:List Int):Int:=e.getD 0 0
def e1(e:List Int):Int:=e.getD 1 0
def zDO(n:Nat)(e:List Int):Prop:=e.length=2/\0<=e0 e/\e0 e<n/\0<=e1 e/\e1 e<n
def lo(lab e:List Int):Int:=min (gI lab (e0 e)) (gI lab (e1 e))
def hi(lab e:List Int):Int:=max (gI lab (e0 e)) (gI lab (e1 e))
structure LabOk (n:Nat) (lab:List Int):Prop where
 len:lab.length=n
 nn:∀i,i<n->0<=lab.getD i 0
 le:∀i,i<n->lab.getD i 0<=i
 idem:∀i,i<n->gI lab (lab.getD i 0)=lab.getD i 0
def acy:List Int->List (List Int)->Bool
 |_,[]=>true
 |lab,e::es=> !(gI lab (e0 e)==gI lab (e1 e))&&acy (zDT (gI lab (e0 e)) (gI lab (e1 e)) lab) es
def zBp:List Int->Int->Int
 |[],m=>m
 |x::l,m=>zBp l (max m x)
def zEp:List Int->Int
 |[]=>0
 |x::l=>zBp l x
def zBq:List Int->List Int->Bool
 |x::a,y::b=>bif !(x==y)then decide (x<y)else zBq a b
 |[],_::_=>true
 |_,[]=>false
def zEv(n:Nat)(p:Option (List Int))(e:List Int):Bool:=e.length==2&&decide (0<=e0 e)&&decide (e0 e<e1 e)&&decide (e1 e<n)&&(match p with
 |none=>true
 |some x=>zBq x e)
def zr4(n:Nat):Option (List Int)->List (List Int)->Bool
 |_,[]=>true
 |p,e::es=>zEv n p e&&zr4 n (some e) es
def zEr(ws:List Int)(es:List (List Int)):Bool:=decide (1<=ws.length)&&decide (ws.length<=40)&&jV ws (-1000) 1000&&zr4 ws.length none es&&acy (zDf ws.length) es
theorem zCA(a b:Bool):(bif a then b else false)=(a&&b):=by cases a<;>rfl
theorem zDu(a b:Bool):(bif a then true else b)=(a||b):=by cases a<;>rfl
def zj6(a b:List V):Prop:=JJ a/\JJ b
def YI(f:List V->List V->Bool)(q:List V->List V->Prop):zN:=fun
 |[.slc false 2 (.int .i64 0) a0,.slc false 2 (.int .i64 0) a1]=>some ([q a0 a1],.bool (f a0 a1))
 |_=>none
theorem zCS:Int.toNat 0=0:=rfl
theorem zCR:Int.toNat 1=1:=rfl
theorem zau{xss:List (List Int)}{i:Nat}(h:i<xss.length):xss.getD i []∈xss:=by
 rw[zd,zg h];exact List.getElem_mem _
structure Gr (ws:List Int) (es:List (List Int)):Prop where
 is:zEr ws es=true
 n1:1<=ws.length
 n2:ws.length<=40
 wlo:∀i,i<ws.length->-1000<=ws.getD i 0/\ws.getD i 0<=1000
 eok:zr4 ws.length none es=true
 ed:∀e∈es,zDO ws.length e
 lt:∀e∈es,e0 e<e1 e
 el:es.length<ws.length
 acyc:acy (zDf ws.length) es=true
def zD0(es:List (List Int))(v:Int):List Int:=(es.filter fun e=>e1 e==v).map e0
def zDZ(es:List (List Int))(v:Int):List Int:=(es.filter fun e=>e0 e==v).map e1
def zs7(es:List (List Int))(v:Int):List Int:=zD0 es v++zDZ es v
def adj(es:List (List Int))(i j:Nat):Bool:=es.any fun e=>(e0 e==i&&e1 e==j)||(e0 e==j&&e1 e==i)
def ent(ws:List Int)(es:List (List Int))(i j:Nat):Int:=if i=j then ws.getD i 0 else if adj es i j=true then 1 else 0
def mrow(ws:List Int)(es:List (List Int))(i:Nat):List Int:=qD (ent ws es i) ws.length
theorem zk6{α:Type}(f:Nat->α)(n i:Nat)(y:α):(qD f n).set i y=qD (fun j=>if j=i then y else f j) n:=by
 apply yH;intro j;by_cases hj:j<n
 ·rw[uM _ _ _ hj,List.getElem?_set];by_cases hij:i=j
  ·subst hij;rw[if_pos rfl,if_pos (by rw[yR];exact hj),if_pos rfl]
  ·rw[if_neg hij,uM _ _ _ hj,if_neg (fun h=>hij h.symm)]
 ·rw[zG (by rw[List.length_set,yR];omega),zG (by rw[yR];omega)]
def stp(a b:Nat):List (Nat×Nat):=if _h:0<b then(a/b,b)::stp b (a%b)else[]
termination_by b
decreasing_by exact Yg _ (by assumption)
theorem zk7{a b:Nat}(h:0<b):stp a b=(a/b,b)::stp b (a%b):=by rw[stp,dif_pos h]
theorem zfH(a:Nat):stp a 0=[]:=by rw[stp,dif_neg (by omega)]
def ex(a b:Nat):List Nat:=(stp a b).flatMap fun p=>List.replicate p.1 p.2
theorem kg{a b:Nat}(h:0<b):ex a b=List.replicate (a/b) b++ex b (a%b):=by rw[ex,zk7 h,ZC,ex]
theorem zbe(a:Nat):ex a 0=[]:=by rw[ex,zfH];rfl
def hd1(l:List Nat):Nat:=l.getD 0 1
def Fol(b:Nat)(l:List Nat):Prop:=hd1 l<=b/\(hd1 l<b->∃c r,b=c*hd1 l+r/\r<hd1 l/\1<=c/\(∀t,t<c->l.getD t 1=hd1 l)/\(0<r->l.getD c 1=r))
def GL:List Nat->Prop
 |[]=>True
 |x::l=>1<=x/\Fol x l/\GL l
theorem zuK{b:Nat}{l:List Nat}(hb:1<=b)(hf:Fol b l)(hg:GL l):∀q,GL (List.replicate q b++l)/\Fol b (List.replicate q b++l)
 |0=>⟨by simpa using hg,by simpa using hf⟩
 |q+1=>by
  obtain⟨h1,h2⟩:=zuK hb hf hg q;rw[List.replicate_succ,List.cons_append];refine⟨⟨hb,h2,h1⟩,?_⟩;have:hd1 (b::(List.replicate q b++l))=b:=rfl;exact⟨by rw[this];exact zt _,fun h=>by rw[this]at h;exact absurd h (KI _)⟩
theorem zga(q b:Nat)(l:List Nat)(t d:Nat):(List.replicate q b++l).getD t d=if t<q then b else l.getD (t-q) d:=by
 by_cases h:t<q
 ·rw[if_pos h,zd,zQ (by simpa using h)];simp[h]
 ·rw[if_neg h,zd,zR (by simpa using h)];simp
theorem zD7{b r:Nat}(hr:0<r)(h:r<=b)(l:List Nat):(ex b r++l).getD 0 1=r:=by
 rw[kg hr,zU,zga,if_pos (Nat.div_pos h hr)]
theorem zwj:∀(n b r:Nat) (l:List Nat),b<=n->r<b->GL l->Fol (Nat.gcd b r) l->GL (ex b r++l)/\Fol b (ex b r++l)
 |0,b,r,l,hn,hr,_,_=>by omega
 |n+1,b,r,l,hn,hr,hg,hf=>by
  by_cases h0:0<r
  ·have h1:b%r<r:=Yg _ h0;have h2:Nat.gcd r (b%r)=Nat.gcd b r:=(by rw[uG b r,Nat.gcd_rec r b,uG]);obtain⟨i1,i2⟩:=zwj n r (b%r) l (by omega) h1 hg (by rw[h2];exact hf);obtain⟨j1,_⟩:=zuK (by omega) i2 i1 (b/r);have hq:0<b/r:=Nat.div_pos (by omega) h0;rw[kg h0,zU];have hh:hd1 (List.replicate (b/r) r++(ex r (b%r)++l))=r:=(by rw[hd1,zga,if_pos hq]);refine⟨j1,by rw[hh];omega,fun _=>⟨b/r,b%r,?_,by rw[hh];exact h1,hq,fun t ht=>by rw[hh,zga,if_pos ht],fun hrr=>?_⟩⟩
   ·rw[hh,Nat.mul_comm];exact(Nat.div_add_mod b r).symm
   ·rw[zga,if_neg (KI _),Nat.sub_self];exact zD7 hrr (by omega) l
  ·obtain rfl:r=0:=(by omega);rw[zbe,List.nil_append];rw[Nat.gcd_zero_right]at hf;exact⟨hg,hf⟩
def zdb:List (Nat×Nat)->List Nat
 |[]=>[]
 |(k,e)::l=>ex k e++zdb l
def zyh:Nat->List (Nat×Nat)->Prop
 |g,[]=>g=1
 |g,(k,e)::l=>e=g/\0<e/\zyh (Nat.gcd e k) l
theorem zmm:∀(l:List (Nat×Nat)) (g:Nat),zyh g l->GL (zdb l)/\Fol g (zdb l)
 |[],g,h=>by
  have:g=1:=h;subst this;exact⟨trivial,zt _,fun h=>absurd h (KI _)⟩
 |(k,e)::l,g,h=>by
  obtain⟨rfl,h1,h2⟩:=h;obtain⟨i1,i2⟩:=zmm l _ h2;have h3:Nat.gcd e (k%e)=Nat.gcd e k:=by rw[uG e (k%e),<-Nat.gcd_rec]
  obtain⟨j1,j2⟩:=zwj e e (k%e) (zdb l) (zt _) (Yg _ h1) i1 (by rw[h3];exact i2);have:=zuK h1 j2 j1 (k/e);rw[zdb,kg h1,zU];exact this
theorem zsa:∀(l:List Nat),GL l->∀i,1<=l.getD i 1/\l.getD (i+1) 1<=l.getD i 1/\(l.getD (i+1) 1<l.getD i 1->∃c r,l.getD i 1=c*l.getD (i+1) 1+r/\r<l.getD (i+1) 1/\1<=c/\(∀t,t<c->l.getD (i+1+t) 1=l.getD (i+1) 1)/\(0<r->l.getD (i+1+c) 1=r))
 |[],_,i=>⟨by simp,by simp,fun h=>by simp at h⟩
 |x::l,h,0=>by
  obtain⟨h1,⟨h2,h3⟩,h4⟩:=h;refine⟨h1,h2,fun h=>?_⟩;obtain⟨c,r,e1,e2,e3,e4,e5⟩:=h3 h;refine⟨c,r,e1,e2,e3,fun t ht=>?_,fun hr=>?_⟩
  ·have:=e4 t ht;rw[show 0+1+t=t+1 by omega,qG];exact this
  ·rw[show 0+1+c=c+1 by omega,qG];exact e5 hr
 |x::l,h,i+1=>by
  have:=zsa l h.2.2 i;rw[show i+1+1=(i+1)+1 from rfl];simp only[qG];refine⟨this.1,this.2.1,fun h=>?_⟩;obtain⟨c,r,e1,e2,e3,e4,e5⟩:=this.2.2 h;refine⟨c,r,e1,e2,e3,fun t ht=>?_,fun hr=>?_⟩
  ·rw[show i+1+1+t=(i+1+t)+1 by omega,qG];exact e4 t ht
  ·rw[show i+1+1+c=(i+1+c)+1 by omega,qG];exact e5 hr
def qE(M:Nat->Nat)(i:Nat):Nat->Nat
 |0=>0
 |k+1=>qE M i k+M (i+1+k)
structure GoodM (M:Nat->Nat):Prop where
 pos:∀i,1<=M i
 fall:∀i,M (i+1)<=M i
 drop:∀i,M (i+1)<M i->∃c r,M i=c*M (i+1)+r/\r<M (i+1)/\1<=c/\(∀t,t<c->M (i+1+t)=M (i+1))/\(0<r->M (i+1+c)=r)
theorem zAu{l:List Nat}(h:GL l):GoodM (fun i=>l.getD i 1):=
 ⟨fun i=>(zsa l h i).1,fun i=>(zsa l h i).2.1,fun i=>(zsa l h i).2.2⟩
theorem QY{M:Nat->Nat}(h:GoodM M)(i:Nat):∀{k k':Nat},k<k'->qE M i k<qE M i k'
 |k,0,hk=>by omega
 |k,k'+1,hk=>by
  have:=h.pos (i+1+k');simp only[qE];by_cases hkk:k=k'
  ·subst hkk;omega
  ·have:=QY h i (k:=k) (k':=k') (by omega);omega
theorem zmw{M:Nat->Nat}{i v:Nat}:∀k,(∀t,t<k->M (i+1+t)=v)->qE M i k=k*v
 |0,_=>by simp[qE]
 |k+1,h=>by
  simp only[qE,zmw k (fun t ht=>h t (by omega)),h k (by omega),Nat.add_mul];omega
def Zy(M:Nat->Nat)(i j:Nat):Prop:=qE M i (j-i)<=M i
theorem zsT{M:Nat->Nat}(h:GoodM M)(i:Nat):Zy M i (i+1):=by
 have:=h.fall i;rw[Zy,show i+1-i=1 by omega];simpa [qE]using this
theorem zaq{M:Nat->Nat}(h:GoodM M){i i' j:Nat}(h1:i<i')(h2:i'+1<j)(hp:Zy M i j):¬Zy M i' j:=by
 intro hp';unfold Zy at hp hp';have two:∀x,qE M x 2=M (x+1)+M (x+1+1):=fun x=>by simp[qE]
 have one:∀x,qE M x 1=M (x+1):=fun x=>by simp[qE]
 have hlt:M (i+1)<M i:=by
  have a1:=QY h i (k:=2) (k':=j-i) (by omega);have a2:=h.pos (i+1+1);rw[two]at a1;omega
 obtain⟨c,r,e1,e2,e3,e4,e5⟩:=h.drop i hlt;have hc:=zmw c e4;have hc1:qE M i (c+1)=qE M i c+M (i+1+c):=rfl;have hc2:qE M i (c+2)=qE M i (c+1)+M (i+1+(c+1)):=rfl
 have hj:j-i<=c+1:=by
  by_cases hh:j-i<=c+1
  ·exact hh
  ·exfalso
   have a3:qE M i (c+2)<=qE M i (j-i):=by
    by_cases hx:c+2=j-i
    ·rw[hx];exact zt _
    ·exact Nat.le_of_lt (QY h i (by omega))
   have a4:=h.pos (i+1+(c+1));have a5:=h.pos (i+1+c);by_cases hr:0<r
   ·have:=e5 hr;omega
   ·omega
 have b1:M i'=M (i+1):=by
  have:=e4 (i'-i-1) (by omega)
  rwa [show i+1+(i'-i-1)=i' by omega]at this
 have b2:M (i'+1)=M (i+1):=by
  have:=e4 (i'-i) (by omega)
  rwa [show i+1+(i'-i)=i'+1 by omega]at this
 have a1:=QY h i' (k:=1) (k':=j-i') (by omega);rw[one]at a1;omega
def JW(a b:Int):List (List Int):=(stp a.toNat b.toNat).map fun p=>[(p.1:Int),(p.2:Int)]
theorem zhN:∀(n a b:Nat),b<=n->(stp a b).length<=b
 |0,a,b,h=>by obtain rfl:b=0:=by omega
              rw[zfH];simp
 |n+1,a,b,h=>by
  by_cases hb:0<b
  ·rw[zk7 hb,zi];have h1:a%b<b:=Yg _ hb;have:=zhN n b (a%b) (by omega);omega
  ·obtain rfl:b=0:=(by omega);rw[zfH];simp
theorem zvG{a b:Int}(ha:0<=a)(hb:0<b):JW a b=[a.tdiv b,b]::JW b (a.tmod b):=by
 obtain⟨a,rfl⟩:=QR ha;obtain⟨b,rfl⟩:=QR (zaM hb);rw[JW,zV,zV,zk7 (by omega),List.map_cons,JW,<-Int.ofNat_tdiv,<-Int.ofNat_tmod,zV,zV]
theorem zsr(a:Int){b:Int}(hb:¬0<b):JW a b=[]:=by
 rw[JW,show b.toNat=0 by omega,zfH];rfl
def zij(f:Int->Int->List V)(q:Int->Int->Prop):zN:=fun
 |[.int .i64 a0,.int .i64 a1]=>some ([q a0 a1],.slc true 29 (.slc true 2 (.int .i64 0) []) (f a0 a1))
 |_=>none
def zi7(a b:Int):List V:=II true (JW a b)
def ziI(a b:Int):Prop:=0<=a/\a<=1000000/\0<=b/\b<=1000000
abbrev sQ:=(⟨@imp_self,@true_and,@and_true,@zDu,@zCA,@Bool.or_eq_true,@Bool.or_eq_false_iff,@zh,@ud,@decide_eq_true_eq,@decide_eq_false_iff_not,@qf,@Bool.not_eq_false',@beq_iff_eq.{0},@beq_eq_false_iff_ne.{0},@ne_eq.{1},@zCS,@zCR,@zas,@uV,@zD,@zj,@zO,@zv1,@zfo⟩: _/\_/\_/\_/\_/\_/\_/\_/\_/\_/\_/\_/\_/\_/\_/\_/\_/\_/\_/\_/\_/\_/\_/\_/\_)
theorem zsD:yI Tryz.prog 129 (zij zi7 ziI):=by
 intro args ps r h hp;unfold zij at h;split at h
 ·rename_i a0 a1;cases h;obtain⟨q1,q2,q3,q4⟩:ziI a0 a1:=(zm.1 hp).1;refine zC (T:=tab) (B:=[]) (Bi:=[]) [0,1,4,5] Tryz.func129 rfl rfl (by kernel_rfl) (ze rfl) mixed zP (by exact zA) (by exact zx) (by kernel_rfl) ?_;intro L lp rr hL hr hf hlp
  conv=>cbv
  refine hlp (Int×Int×List V) _ _ _ [0,1,5] (fun x=>[(0,none,.val (.int .i64 x.1)),(1,none,.val (.int .i64 x.2.1)),(5,none,.val (.slc true 29 (.slc true 2 (.int .i64 0) []) x.2.2))])
   (fun x=>0<=x.1/\x.1<=1000000/\0<=x.2.1/\x.2.1<=1000000/\∃L,x.2.2=II true L/\L++JW x.1 x.2.1=JW a0 a1) (fun x=>x.2.1.toNat) ((a0,a1,[])) (by subst hL;rfl) ?_ ?_
  ·exact⟨q1,q2,q3,q4,[],rfl,rfl⟩
  rintro⟨a,b,es⟩ ⟨p1,p2,p3,p4,L,hes,hI⟩ hfx ag hag;simp only at p1 p2 p3 p4 hes hI
  have hel:es.length<=1000000:=by
   have h1:=congrArg List.length hI;have h2:=zhN a1.toNat a0.toNat a1.toNat (zt _);rw[zp,JW,JW,yf,yf]at h1;rw[hes,ye];omega
  conv=>cbv
  simp only[zo hL,sQ,hel];refine⟨fun h=>?_,fun h=>?_⟩
  ·have h1:0<=a.tdiv b/\a.tdiv b<=a:=⟨Int.tdiv_nonneg p1 p3,Int.tdiv_le_self b p1⟩;have h2:0<=a.tmod b/\a.tmod b<b:=⟨Int.tmod_nonneg b p1,ui a h⟩;have hw:IntKind.wrap .i64 (a.tdiv b)=a.tdiv b:=zk (by omega) (by omega)
   (repeat' first|(exact yr _)|(exact je rfl)|(exact yV _)|(apply And.intro)|(intro _))<;>(try first|exact True.intro|omega|rfl|(simp only[zi,zq,zj];omega))
   refine hag (b,a.tmod b,_) ⟨by simp only;omega,by simp only;omega,by simp only;omega,by simp only;omega,L++[[a.tdiv b,b]],?_,?_⟩ (by simp only;omega)
   ·simp only;rw[ZK,hes,hw];rfl
   ·simp only;rw[zU,<-hI,zvG p1 h];rfl
  ·rw[hr,zi7,<-hI,zsr a h,yv,hes]
 ·cases h
theorem znX:yI Tryz.prog 143 (zij zi7 ziI):=by
 intro args ps r h hp;unfold zij at h;split at h
 ·rename_i a0 a1;cases h;obtain⟨q1,q2,q3,q4⟩:ziI a0 a1:=(zm.1 hp).1;refine zC (T:=tab) (B:=[]) (Bi:=[]) [0,1,4,5,6] Tryz.func143 rfl rfl (by kernel_rfl) (ze rfl) mixed zP (by exact zA) (by exact zx) (by kernel_rfl) ?_;intro L lp rr hL hr hf hlp
  conv=>cbv
  refine hlp (Int×Int×List V) _ _ _ [0,1,5] (fun x=>[(0,none,.val (.int .i64 x.1)),(1,none,.val (.int .i64 x.2.1)),(5,none,.val (.slc true 29 (.slc true 2 (.int .i64 0) []) x.2.2))])
   (fun x=>0<=x.1/\x.1<=1000000/\0<=x.2.1/\x.2.1<=1000000/\∃L,x.2.2=II true L/\L++JW x.1 x.2.1=JW a0 a1) (fun x=>x.2.1.toNat) ((a0,a1,[])) (by subst hL;rfl) ?_ ?_
  ·exact⟨q1,q2,q3,q4,[],rfl,rfl⟩
  rintro⟨a,b,es⟩ ⟨p1,p2,p3,p4,L,hes,hI⟩ hfx ag hag;simp only at p1 p2 p3 p4 hes hI
  have hel:es.length<=1000000:=by
   have h1:=congrArg List.length hI;have h2:=zhN a1.toNat a0.toNat a1.toNat (zt _);rw[zp,JW,JW,yf,yf]at h1;rw[hes,ye];omega
  conv=>cbv
  simp only[zo hL,sQ,hel];refine⟨fun h=>?_,fun h=>?_⟩
  ·have h1:0<=a.tdiv b/\a.tdiv b<=a:=⟨Int.tdiv_nonneg p1 p3,Int.tdiv_le_self b p1⟩;have h2:0<=a.tmod b/\a.tmod b<b:=⟨Int.tmod_nonneg b p1,ui a h⟩;have hw:IntKind.wrap .i64 (a.tdiv b)=a.tdiv b:=zk (by omega) (by omega)
   (repeat' first|(exact yr _)|(exact je rfl)|(exact yV _)|(apply And.intro)|(intro _))<;>(try first|exact True.intro|omega|rfl|(simp only[zi,zq,zj];omega))
   refine hag (b,a.tmod b,_) ⟨by simp only;omega,by simp only;omega,by simp only;omega,by simp only;omega,L++[[a.tdiv b,b]],?_,?_⟩ (by simp only;omega)
   ·simp only;rw[ZK,hes,hw];rfl
   ·simp only;rw[zU,<-hI,zvG p1 h];rfl
  ·rw[hr,zi7,<-hI,zsr a h,yv,hes]
 ·cases h
def qw(S:List (List Int)):List Int:=S.flatMap fun s=>List.replicate (s.getD 0 0).toNat (s.getD 1 0)
theorem zc1(S:List (List Int))(k:Nat)(h:k<S.length):qw (S.take (k+1))=qw (S.take k)++List.replicate ((S.getD k []).getD 0 0).toNat ((S.getD k []).getD 1 0):=by
 rw[zjy _ _ h,qw,qw,ka,ZC,Qo,yv]
def exI(a b:Int):List Int:=(ex a.toNat b.toNat).map fun(n:Nat)=>(n:Int)
theorem zkm(a b:Int):qw (JW a b)=exI a b:=by
 rw[qw,JW,exI,ex,List.flatMap_map,List.map_flatMap];congr 1
 funext p
 simp
theorem ztN:∀(n a b:Nat),b<=n->(ex a b).length<=a+b
 |0,a,b,h=>by obtain rfl:b=0:=by omega
              rw[zbe];simp
 |n+1,a,b,h=>by
  by_cases hb:0<b
  ·rw[kg hb,zp,zE];have h1:a%b<b:=Yg _ hb;have h2:=ztN n b (a%b) (by omega);have h3:=Nat.div_add_mod a b;have h4:a/b<=b*(a/b):=Nat.le_mul_of_pos_left _ hb;omega
  ·obtain rfl:b=0:=(by omega);rw[zbe];simp
theorem zvH{a b:Int}{s:List Int}(h:s∈JW a b):s.length=2/\0<=s.getD 0 0/\0<=s.getD 1 0:=by
 simp only[JW,ua]at h;obtain⟨p,_,rfl⟩:=h;exact⟨rfl,uj _,uj _⟩
def zlx(f:List V->Int->Int->List V)(q:List V->Int->Int->Prop):uk:=fun
 |[.slc true 2 (.int .i64 0) a0,.int .i64 a1,.int .i64 a2]=>some ([q a0 a1 a2],.slc true 2 (.int .i64 0) (f a0 a1 a2),.hole 0)
 |_=>none
def zfv(es:List V)(k e:Int):List V:=es++I (exI k e)
def zlb(es:List V)(k e:Int):Prop:=es.length<=100000000/\ziI k e
theorem zjV:zAX Tryz.prog 107 0 (zlx zfv zlb):=by
 intro args ps r y h hp;unfold zlx at h;split at h
 ·rename_i a0 a1 a2;cases h;obtain⟨q0,hq⟩:zlb a0 a1 a2:=(zm.1 hp).1;obtain⟨q1,q2,q3,q4⟩:=hq;generalize zd3:zi7=zcB;generalize zdW:ziI=zlH;refine zCc (T:=tab) (B:=[(129,zij zcB zlH)]) (Bi:=[]) 0 [0,1,2,6,8,9,12,13,14] Tryz.func107 rfl rfl (by kernel_rfl) (ze rfl) mixed zP (by subst zd3 zdW;exact(zn zsD zA)) (by subst zd3 zdW;exact zx) (by kernel_rfl) (ze rfl) ?_;intro L lp rr hL hr hf hlp
  conv=>cbv
  obtain⟨S,hS⟩:∃S,S=JW a1 a2:=⟨_,rfl⟩;obtain⟨ss,hss⟩:∃ss,ss=II true S:=⟨_,rfl⟩;have hF:zcB a1 a2=ss:=by rw[<-zd3,zi7,hss,hS]
  have hsl:ss.length=S.length:=by rw[hss,ye]
  have hSl:S.length<=1000000:=by
   have:=zhN a2.toNat a1.toNat a2.toNat (zt _);rw[hS,JW,yf];omega
  have gss:∀k,ss.getD k (.slc true 2 (.int .i64 0) [])=.slc true 2 (.int .i64 0) (I (S.getD k [])):=fun k=>by rw[hss,qo]
  have hfl:(exI a1 a2).length<=2000000:=by
   have:=ztN a2.toNat a1.toNat a2.toNat (zt _);rw[exI,yf];omega
  have hpre:∀k,(qw (S.take k)).length<=2000000:=fun k=>by
   have h1:qw S=qw (S.take k)++qw (S.drop k):=by
    rw[qw,qw,qw,<-ka,ke]
   have h2:=congrArg List.length h1;rw[hS,zkm,zp,<-hS]at h2;omega
  simp only[zo hL,sQ,hF,hsl];refine⟨by rw[<-zdW];exact⟨q1,q2,q3,q4⟩,?_⟩
  refine hlp (List V×Int) _ _ _ [0,12,13,14] (fun x=>[(0,none,.val (.slc true 2 (.int .i64 0) x.1)),(12,none,.val (.slc true 29 (.slc true 2 (.int .i64 0) []) ss)),(13,none,.val (.int .i64 S.length)),(14,none,.val (.int .i64 x.2))])
   (fun x=>0<=x.2/\x.2<=S.length/\x.1=a0++I (qw (S.take x.2.toNat))) (fun x=>(S.length-x.2).toNat) ((a0,0)) (by subst hL;rfl) ?_ ?_
  ·exact⟨by simp,by simp only;omega,by simp[qw,I]⟩
  rintro⟨es,i⟩ ⟨i0,i1,hI⟩ hfx ag hag;simp only at i0 i1 hI
  have hst:=zc1 S i.toNat
  have hmem:=fun h=>zvH (a:=a1) (b:=a2) (s:=S.getD i.toNat []) (by rw[<-hS];exact zau h);have hp1:=hpre (i.toNat+1);generalize hE:S.getD i.toNat []=E at hst hmem;obtain⟨m,hm⟩:∃m:Int,m=S.length:=⟨_,rfl⟩;simp only[<-hm]
  conv=>cbv
  simp only[zo hL,sQ,hsl,gss,hE];refine⟨fun h=>?_,fun h=>?_⟩
  ·obtain⟨hEl,hE0,hE1⟩:=hmem (by omega);have hst':=hst (by omega);have hip:i.toNat<S.length:=(by omega);refine⟨i0,by omega,by omega,?_⟩
   refine hlp (List V×Int) _ _ _ [0,8,9,12,13,14] (fun x=>[(0,none,.val (.slc true 2 (.int .i64 0) x.1)),(8,none,.rf 12 0 [i.toNat]),(9,none,.val (.int .i64 x.2)),(12,none,.val (.slc true 29 (.slc true 2 (.int .i64 0) []) ss)),(13,none,.val (.int .i64 m)),(14,none,.val (.int .i64 i))])
    (fun x=>0<=x.2/\x.2<=E.getD 0 0/\x.1=es++I (List.replicate x.2.toNat (E.getD 1 0))) (fun x=>(E.getD 0 0-x.2).toNat) (es,0) (by subst hL;rfl) ?_ ?_
   ·exact⟨by simp,hE0,by simp[I]⟩
   rintro⟨es2,j⟩ ⟨j0,j1,hI2⟩ hfx2 ag2 hag2;simp only at j0 j1 hI2;obtain⟨it,hit⟩:∃it,it=i.toNat:=⟨_,rfl⟩;simp only[<-hit]at hE ⊢
   conv=>cbv
   simp only[zo hL,sQ,hsl,gss,hE]
   have hl2:es2.length<=102000000:=by
    rw[hst',zp,zE]at hp1;rw[hI2,hI,zp,zj,zp,zj,zE];omega
   have hEb:E.getD 0 0<=2000000:=by
    rw[hst',zp,zE]at hp1;omega
   have hti:it<S.length:=(by omega);subst hit;refine⟨hti,by omega,by omega,hti,by omega,fun hj=>?_,fun hj=>?_⟩
   ·rw[zk (n:=j+1) (by omega) (by omega)]
    (repeat' first|(exact yr _)|(exact je rfl)|(exact yV _)|(apply And.intro)|(intro _))<;>(try first|exact True.intro|omega|rfl|(simp only[zi,zq,zj];omega))
    refine hag2 (_,j+1) ⟨by simp only;omega,by simp only;omega,?_⟩ (by simp only;omega);simp only[zL j0];rw[qM,hI2,zU,<-jb];rfl
   ·rw[zk (n:=i+1) (by omega) (by omega)];subst hm;refine hag (_,i+1) ⟨by simp only;omega,by simp only;omega,?_⟩ (by simp only;omega);simp only[zL i0];rw[hst',hI2,hI,zU,jb,show j=E.getD 0 0 by omega]
  ·rw[hr,zfv,hI,zy (by omega),hS,zkm]
 ·cases h
def Kb(xs:List Int)(i:Nat):Int:=xs.getD (i+1) 0-(if i=0 then 0 else xs.getD i 0)
def zhq(xs:List Int)(i:Nat):List Int:=exI (Kb xs i) ((dv xs).getD i 0)
def zcL(xs:List Int)(n:Nat):List Int:=(List.range n).flatMap (zhq xs)
def jn(xs:List Int):List Int:=zcL xs (xs.length-1)
theorem zgL(xs:List Int)(n:Nat):zcL xs (n+1)=zcL xs n++zhq xs n:=by
 rw[zcL,zcL,Jp,ka,ZC,Qo,yv]
theorem zkf{xs:List Int}(h:Br xs){i:Nat}(hi:i+1<xs.length):1<=Kb xs i/\Kb xs i<=2000:=by
 have h1:=h.up i hi;have h2:=h.high (i+1) hi;have h3:=h.low i (by omega);have h4:=h.low (i+1) hi;rw[Kb];split<;>omega
theorem zzY{xs:List Int}(h:Br xs){i:Nat}(hi:i+1<xs.length):(zhq xs i).length<=3000:=by
 have h1:=zkf h hi;have h2:=h.dhi i (by omega);have h3:=h.dpos i (by omega);have:=ztN _ (Kb xs i).toNat ((dv xs).getD i 0).toNat (zt _);rw[zhq,exI,yf];omega
theorem zfK{xs:List Int}(h:Br xs):∀n,n+1<=xs.length->(zcL xs n).length<=3000*n
 |0,_=>by simp[zcL]
 |n+1,hn=>by
  have:=zfK h n (by omega);have:=zzY h (i:=n) (by omega);rw[zgL,zp];omega
def qY(xs:List Int):List Int:=if xs.length=1 then[1]else jn xs
def zeh(es:List V):List V:=I (qY (qj es))
theorem zcR:yI Tryz.prog 71 (zoP zeh ur):=by
 intro args ps r h hp;unfold zoP at h;split at h
 ·rename_i a0;cases h;have hq:ur a0:=(zm.1 hp).1;have hqi:=hq.isIs;obtain⟨xs,hxs,hb⟩:=hq;have g1:V.frzs a0=a0:=by rw[hxs,zD]
  have e1:zi9 a0=xs.length-1:=by
   have:=hb.len;rw[zi9,hxs,zj];exact zk (by omega) (by omega)
  have e2:zeh a0=I (qY xs):=by rw[zeh,hxs,zr]
  have e3:JO a0=I (dv xs):=by rw[JO,hxs,zr]
  generalize zjp:zi9=zo5;generalize ZX:JO=KU;generalize yA:uf=jq;generalize zaP:zfv=zhh;generalize zaN:zlb=zkX;refine zC (T:=tab) (B:=[(105,zx6 zo5),(106,zr7 KU jq)]) (Bi:=[(107,0,true,zlx zhh zkX)]) [2000009999,0,1,2,3,4,5,6] Tryz.func71 rfl rfl (by kernel_rfl) (ze rfl) mixed zP (by subst zjp ZX yA zaP zaN;exact(zn zpq (zn zgR zA))) (by subst zjp ZX yA zaP zaN;exact(zrt zjV zx)) (by kernel_rfl) ?_;intro L lp rr hL hr hf hlp
  conv=>cbv
  obtain⟨ds,hds⟩:∃ds,ds=I (dv xs):=⟨_,rfl⟩;have l1:ds.length=xs.length:=by rw[hds,zj,hb.dlen]
  have hF:KU a0=ds:=by rw[<-ZX,e3,hds]
  have hF2:zo5 a0=xs.length-1:=by rw[<-zjp,e1]
  simp only[zo hL,sQ,hF,hF2,g1];have hp1:=hb.pos;have hl1:=hb.len;refine⟨fun h=>?_,fun h=>?_⟩
  ·rw[hr,e2,qY,if_pos (by omega)];rfl
  refine⟨by rw[<-yA];exact hqi,?_⟩
  refine hlp (List V×Int×Int) _ _ _ [1,3,4,5,6] (fun x=>[(1,none,.val (.box 57 (.agg [.slc false 2 (.int .i64 0) a0]))),(3,none,.val (.slc true 2 (.int .i64 0) ds)),(4,none,.val (.slc true 2 (.int .i64 0) x.1)),(5,none,.val (.int .i64 x.2.1)),(6,none,.val (.int .i64 x.2.2))])
   (fun x=>1<=x.2.2/\x.2.2<=xs.length/\x.1=I (zcL xs (x.2.2-1).toNat)/\x.2.1=(if(x.2.2-1).toNat=0 then 0 else xs.getD (x.2.2-1).toNat 0)) (fun x=>(xs.length-x.2.2).toNat) (([],0,1)) (by subst hL;rfl) ?_ ?_
  ·exact⟨by simp,by simp only;omega,rfl,rfl⟩
  rintro⟨es,t,i⟩ ⟨i0,i1,hI,hT⟩ hfx ag hag;simp only at i0 i1 hI hT
  conv=>cbv
  have hlen:es.length<=200000:=by
   have:=zfK hb (i-1).toNat (by omega);rw[hI,zj];omega
  have ga:∀k,a0.getD k (.int .i64 0)=.int .i64 (xs.getD k 0):=fun k=>by rw[hxs,zO]
  have gd:∀k,ds.getD k (.int .i64 0)=.int .i64 ((dv xs).getD k 0):=fun k=>by rw[hds,zO]
  have al:a0.length=xs.length:=by rw[hxs,zj]
  have w1:IntKind.wrap .i64 (i-1)=i-1:=zk (by omega) (by omega);simp only[zo hL,sQ,l1,al,ga,gd,w1];obtain⟨k,rfl⟩:∃k:Nat,i=k+1:=⟨(i-1).toNat,by omega⟩;rw[show((k:Int)+1-1).toNat=k by omega]at hI hT;rw[show((k:Int)+1-1).toNat=k by omega,show((k:Int)+1).toNat=k+1 by omega];refine⟨fun h2=>?_,fun h2=>?_⟩
  ·have hk:xs.getD (k+1) 0-t=Kb xs k:=(by rw[Kb,hT]);have hkk:=zkf hb (i:=k) (by omega);have hd1:=hb.dpos k (by omega);have hd2:=hb.dhi k (by omega);rw[hk,zk (n:=Kb xs k) (by omega) (by omega),zk (n:=(k:Int)+1+1) (by omega) (by omega)];refine⟨by omega,by omega,by omega,by omega,by omega,by rw[<-zaN];exact⟨by omega,by omega,by omega,by omega,by omega⟩,by omega,by omega,?_⟩;refine hag (_,_,(k:Int)+1+1) ⟨by simp only;omega,by simp only;omega,?_,?_⟩ (by simp only;omega)
   ·simp only;rw[show((k:Int)+1+1-1).toNat=k+1 by omega,zgL,<-zaP,zfv,hI,jb];rfl
   ·simp only;rw[show((k:Int)+1+1-1).toNat=k+1 by omega,if_neg (by omega)];rfl
  ·rw[hr,e2,qY,if_neg (by omega),hI,jn,show xs.length-1=k by omega]
 ·cases h
def jN(xs:List Int)(k:Nat):List Int:=qD (fun i=>(jn xs).getD i 1) k
theorem Zc(xs:List Int)(k:Nat):(jN xs k).length=k:=yR _ _
theorem zk8(xs:List Int)(i:Nat):(qY xs).getD i 1=(jn xs).getD i 1:=by
 rw[qY];split
 ·rename_i h;have:jn xs=[]:=by rw[jn,h];rfl
  rw[this]
  cases i with
  |zero=>rfl
  |succ i=>rfl
 ·rfl
theorem zeB(l:List Int)(n i:Nat):(l++List.replicate n 1).getD i 1=l.getD i 1:=by
 simp only[zd];by_cases h:i<l.length
 ·rw[zQ h]
 ·rw[zR (by omega),zG (l:=l) (by omega),List.getElem?_replicate];split<;>rfl
theorem znK{l:List Int}{xs:List Int}{n k:Nat}(hl:∀i,l.getD i 1=(jn xs).getD i 1)(h:k<=(l++List.replicate n 1).length):(l++List.replicate n 1).take k=jN xs k:=by
 apply yH;intro i;by_cases hi:i<k
 ·rw[zaL hi,jN,uM _ _ _ hi,<-hl i,<-zeB l n i,zd,zg (by omega)];rfl
 ·rw[zG (by rw[zZ];omega),zG (by rw[Zc];omega)]
def zkB(f:List V->Int->List V)(q:List V->Int->Prop):zN:=fun
 |[.agg [.slc false 2 (.int .i64 0) a0],.int .i64 a1]=>some ([q a0 a1],.slc false 2 (.int .i64 0) (f a0 a1))
 |_=>none
def zbF(f:List V->Int->List V)(q:List V->Int->Prop):zN:=fun
 |[.agg [.slc false 2 (.int .i64 0) a0],.int .i64 a1]=>some ([q a0 a1],.slc true 2 (.int .i64 0) (f a0 a1))
 |_=>none
def kH(es:List V)(k:Int):List V:=I (jN (qj es) k.toNat)
def ZT(es:List V)(k:Int):Prop:=ur es/\1<=k/\k<=1000000
theorem zfq{xs:List Int}(h:Br xs):(qY xs).length<=200000:=by
 have h1:=h.len;have h2:=h.pos;have:=zfK h (xs.length-1) (by omega);rw[qY];split
 ·simp
 ·rw[jn];omega
theorem zdx:yI Tryz.prog 73 (zkB kH ZT):=by
 intro args ps r h hp;unfold zkB at h;split at h
 ·rename_i a0 a1;cases h;obtain⟨hq,k1,k2⟩:ZT a0 a1:=(zm.1 hp).1;have hqb:=hq;obtain⟨xs,hxs,hb⟩:=hq;have g1:V.frzs a0=a0:=by rw[hxs,zD]
  obtain⟨ss,hss⟩:∃ss,ss=I (qY xs):=⟨_,rfl⟩;have e1:zeh a0=ss:=by rw[zeh,hxs,zr,hss]
  have e2:kH a0 a1=I (jN xs a1.toNat):=by rw[kH,hxs,zr]
  have hsl:ss.length<=200000:=by rw[hss,zj];exact zfq hb
  generalize Kj:zeh=zcC;generalize yO:ur=kh;refine zC (T:=tab) (B:=[(71,zoP zcC kh)]) (Bi:=[]) [0,1,2,4,5] Tryz.func73 rfl rfl (by kernel_rfl) (ze rfl) mixed zP (by subst Kj yO;exact(zn zcR zA)) (by subst Kj yO;exact zx) (by kernel_rfl) ?_;intro L lp rr hL hr hf hlp
  conv=>cbv
  have hF:zcC a0=ss:=by rw[<-Kj,e1]
  simp only[zo hL,sQ,hF,g1];refine⟨by rw[<-yO];exact hqb,?_⟩
  refine hlp (List V×Nat) _ _ _ [1,5] (fun x=>[(1,none,.val (.int .i64 a1)),(5,none,.val (.slc true 2 (.int .i64 0) x.1))])
   (fun x=>x.1=I (qY xs++List.replicate x.2 1)/\x.1.length<=1200000) (fun x=>a1.toNat-x.1.length) ((ss,0)) (by subst hL;rfl) ?_ ?_
  ·exact⟨by simp[hss],by simp only;omega⟩
  rintro⟨es,n⟩ ⟨hI,hl⟩ hfx ag hag;simp only at hI hl
  conv=>cbv
  simp only[zo hL,sQ,];refine⟨fun h=>?_,fun h=>?_⟩
  ·(repeat' first|(exact yr _)|(exact je rfl)|(exact yV _)|(apply And.intro)|(intro _))<;>(try first|exact True.intro|omega|rfl|(simp only[zi,zq,zj];omega))
   refine hag (_,n+1) ⟨?_,?_⟩ ?_
   ·simp only;rw[qM,<-zU,<-jb,hI];rfl
   ·simp only[zp,zi,zq];omega
   ·simp only[zp,zi,zq];omega
  ·refine⟨by omega,by omega,by omega,by omega,?_⟩;rw[hr,e2,List.drop_zero,hI,zD,zbK,znK (zk8 xs) (by rw[hI,zj]at h;omega)]
 ·cases h
theorem zA1(xss:List (List Int)):∀x∈II true xss,x.solid=true:=by
 intro x h;simp only[II,ua]at h;obtain⟨xs,_,rfl⟩:=h;rfl
def zbO(xs:List Int)(n:Nat):List (List Int):=(List.range n).flatMap fun i=>JW (Kb xs i) ((dv xs).getD i 0)
def QA(xs:List Int):List (List Int):=zbO xs (xs.length-1)
theorem ziH(xs:List Int)(n:Nat):zbO xs (n+1)=zbO xs n++JW (Kb xs n) ((dv xs).getD n 0):=by
 rw[zbO,zbO,Jp,ka,ZC,Qo,yv]
theorem zfh(xs:List Int):∀n,qw (zbO xs n)=zcL xs n
 |0=>rfl
 |n+1=>by
  have h:∀a b:List (List Int),qw (a++b)=qw a++qw b:=fun a b=>by rw[qw,ka];rfl
  rw[ziH,zgL,h,zfh xs n,zkm,zhq]
theorem zvI{xs:List Int}(h:Br xs){i:Nat}(hi:i+1<xs.length):(JW (Kb xs i) ((dv xs).getD i 0)).length<=64:=by
 have h2:=h.dhi i (by omega);have h3:=h.dpos i (by omega);have:=zhN _ (Kb xs i).toNat ((dv xs).getD i 0).toNat (zt _);rw[JW,yf];omega
theorem zck{xs:List Int}(h:Br xs):∀n,n+1<=xs.length->(zbO xs n).length<=64*n
 |0,_=>by simp[zbO]
 |n+1,hn=>by
  have:=zck h n (by omega);have:=zvI h (i:=n) (by omega);rw[ziH,zp];omega
theorem zgS{xs:List Int}:∀n,∀s∈zbO xs n,s.length=2/\0<=s.getD 0 0/\0<=s.getD 1 0:=by
 intro n s h;simp only[zbO,List.mem_flatMap]at h;obtain⟨i,_,h⟩:=h;exact zvH h
def zio(f:List V->List V)(q:List V->Prop):zN:=fun
 |[.agg [.slc false 2 (.int .i64 0) a0]]=>some ([q a0],.slc true 29 (.slc true 2 (.int .i64 0) []) (f a0))
 |_=>none
def YY(es:List V):List V:=II true (QA (qj es))
theorem za0:yI Tryz.prog 120 (zio YY ur):=by
 intro args ps r h hp;unfold zio at h;split at h
 ·rename_i a0;cases h;have hq:ur a0:=(zm.1 hp).1;have hqp:=hq.isP;obtain⟨xs,hxs,hb⟩:=hq;have g1:V.frzs a0=a0:=by rw[hxs,zD]
  have e2:YY a0=II true (QA xs):=by rw[YY,hxs,zr]
  have e3:JO a0=I (dv xs):=by rw[JO,hxs,zr]
  generalize ZX:JO=KU;generalize zjr:IsP=zyg;generalize zd3:zi7=zcB;generalize zdW:ziI=zlH;refine zC (T:=tab) (B:=[(142,zr8 KU zyg),(143,zij zcB zlH)]) (Bi:=[]) [0,1,2,3,4,5,6] Tryz.func120 rfl rfl (by kernel_rfl) (ze rfl) mixed zP (by subst ZX zjr zd3 zdW;exact(zn zex (zn znX zA))) (by subst ZX zjr zd3 zdW;exact zx) (by kernel_rfl) ?_;intro L lp rr hL hr hf hlp
  conv=>cbv
  obtain⟨ds,hds⟩:∃ds,ds=I (dv xs):=⟨_,rfl⟩;have l1:ds.length=xs.length:=by rw[hds,zj,hb.dlen]
  have hF:KU a0=ds:=by rw[<-ZX,e3,hds]
  simp only[zo hL,sQ,hF,g1];refine⟨by rw[<-zjr];exact hqp,?_⟩;have hp1:=hb.pos;have hl1:=hb.len
  refine hlp (List V×Int) _ _ _ [1,3,4,5] (fun x=>[(1,none,.val (.box 57 (.agg [.slc false 2 (.int .i64 0) a0]))),(3,none,.val (.slc true 2 (.int .i64 0) ds)),(4,none,.val (.slc true 29 (.slc true 2 (.int .i64 0) []) x.1)),(5,none,.val (.int .i64 x.2))])
   (fun x=>1<=x.2/\x.2<=xs.length/\x.1=II true (zbO xs (x.2-1).toNat)) (fun x=>(xs.length-x.2).toNat) (([],1)) (by subst hL;rfl) ?_ ?_
  ·exact⟨by simp,by simp only;omega,rfl⟩
  rintro⟨es,i⟩ ⟨i0,i1,hI⟩ hfx ag hag;simp only at i0 i1 hI
  conv=>cbv
  have ga:∀k,a0.getD k (.int .i64 0)=.int .i64 (xs.getD k 0):=fun k=>by rw[hxs,zO]
  have gd:∀k,ds.getD k (.int .i64 0)=.int .i64 ((dv xs).getD k 0):=fun k=>by rw[hds,zO]
  have al:a0.length=xs.length:=by rw[hxs,zj]
  have w1:IntKind.wrap .i64 (i-1)=i-1:=zk (by omega) (by omega);simp only[zo hL,sQ,l1,al,ga,gd,w1];obtain⟨k,rfl⟩:∃k:Nat,i=k+1:=⟨(i-1).toNat,by omega⟩;rw[show((k:Int)+1-1).toNat=k by omega]at hI;rw[show((k:Int)+1-1).toNat=k by omega,show((k:Int)+1).toNat=k+1 by omega]
  have fin:(k:Int)+1<xs.length->∀z,z=Kb xs k->zlH z ((dv xs).getD k 0)/\(es.length:Int)+(zcB z ((dv xs).getD k 0)).length<=2147483647/\(∀x∈zcB z ((dv xs).getD k 0),x.solid=true)/\ag (Yc [1,3,4,5] [(1,none,.val (.box 57 (.agg [.slc false 2 (.int .i64 0) a0]))),(3,none,.val (.slc true 2 (.int .i64 0) ds)),(4,none,.val (.slc true 29 (.slc true 2 (.int .i64 0) []) (es++zcB z ((dv xs).getD k 0)))),(5,none,.val (.int .i64 (k+1+1)))]):=by
   intro h z hz;have hkk:=zkf hb (i:=k) (by omega);have hd1:=hb.dpos k (by omega);have hd2:=hb.dhi k (by omega);have hlr:=zck hb k (by omega);have hls:=zvI hb (i:=k) (by omega);have hfz:zcB z ((dv xs).getD k 0)=II true (JW (Kb xs k) ((dv xs).getD k 0)):=(by rw[<-zd3,hz];rfl);rw[hfz];refine⟨by rw[<-zdW,hz];exact⟨by omega,by omega,by omega,by omega⟩,by rw[hI,ye,ye];omega,zA1 _,?_⟩;refine hag (_,(k:Int)+1+1) ⟨by simp only;omega,by simp only;omega,?_⟩ (by simp only;omega);simp only;rw[show((k:Int)+1+1-1).toNat=k+1 by omega,ziH,hI,ZK]
  refine⟨fun h=>⟨by omega,by omega,fun h2=>?_,fun h2=>?_⟩,fun h=>?_⟩
  ·have hz:IntKind.wrap .i64 (xs.getD (k+1) 0-xs.getD k 0)=Kb xs k:=by
    have hkk:=zkf hb (i:=k) (by omega);have e:xs.getD (k+1) 0-xs.getD k 0=Kb xs k:=(by rw[Kb,if_neg (by omega)]);rw[e,zk (by omega) (by omega)]
   obtain⟨f1,f2,f3,f4⟩:=fin h _ hz;rw[zk (n:=(k:Int)+1+1) (by omega) (by omega)];exact⟨by omega,by omega,by omega,by omega,by omega,f1,f2,f3,f4⟩
  ·have hz:xs.getD (k+1) 0=Kb xs k:=by
    rw[Kb,if_pos (by omega)];omega
   obtain⟨f1,f2,f3,f4⟩:=fin h _ hz;rw[zk (n:=(k:Int)+1+1) (by omega) (by omega)];exact⟨by omega,by omega,by omega,f1,f2,f3,f4⟩
  ·rw[hr,e2,hI,QA,show xs.length-1=k by omega]
 ·cases h
theorem zyn{xs:List Int}{k n:Nat}(h:((jn xs).take k++List.replicate n 1).length=k):(jn xs).take k++List.replicate n 1=jN xs k:=by
 apply yH;intro i;by_cases hi:i<k
 ·have h1:((jn xs).take k++List.replicate n 1).getD i 1=(jn xs).getD i 1:=by
   rw[zeB,zd,zaL hi,<-zd]
  rw[jN,uM _ _ _ hi,<-h1,zd,zg (by omega)];rfl
 ·rw[zG (by omega),zG (by rw[Zc];omega)]
theorem zyl{l:List Int}{k:Nat}(x:Int)(h:(l.take k).length<k):l.take k++[x]=(l++[x]).take k:=by
 rw[zZ]at h;rw[zy (by omega),zy (by simp;omega)]
theorem zym{l:List Int}{k:Nat}(m:List Int)(h:¬(l.take k).length<k):l.take k=(l++m).take k:=by
 rw[zZ]at h;rw[List.take_append_of_le_length (by omega)]
theorem zew:yI Tryz.prog 84 (zbF kH ZT):=by
 intro args ps r h hp;unfold zbF at h;split at h
 ·rename_i a0 a1;cases h;obtain⟨hq,k1,k2⟩:ZT a0 a1:=(zm.1 hp).1;have hqb:=hq;obtain⟨xs,hxs,hb⟩:=hq;have g1:V.frzs a0=a0:=by rw[hxs,zD]
  obtain⟨S,hS⟩:∃S,S=QA xs:=⟨_,rfl⟩;obtain⟨ss,hss⟩:∃ss,ss=II true S:=⟨_,rfl⟩;have e1:YY a0=ss:=by rw[YY,hxs,zr,hss,hS]
  have e2:kH a0 a1=I (jN xs a1.toNat):=by rw[kH,hxs,zr]
  have hsl:ss.length=S.length:=by rw[hss,ye]
  have hSl:S.length<=5000:=by
   have h1:=hb.len;have h2:=hb.pos;have:=zck hb (xs.length-1) (by omega);rw[hS,QA];omega
  have gss:∀k,ss.getD k (.slc true 2 (.int .i64 0) [])=.slc true 2 (.int .i64 0) (I (S.getD k [])):=fun k=>by rw[hss,qo]
  generalize Zg:YY=Qy;generalize yO:ur=kh;refine zC (T:=tab) (B:=[(120,zio Qy kh)]) (Bi:=[]) [0,1,2,4,5,6,7,8] Tryz.func84 rfl rfl (by kernel_rfl) (ze rfl) mixed zP (by subst Zg yO;exact(zn za0 zA)) (by subst Zg yO;exact zx) (by kernel_rfl) ?_;intro L lp rr hL hr hf hlp
  conv=>cbv
  have hF:Qy a0=ss:=by rw[<-Zg,e1]
  simp only[zo hL,sQ,hF,g1];refine⟨by rw[<-yO];exact hqb,?_⟩
  refine hlp (List V×Int) _ _ _ [1,5,6,7] (fun x=>[(1,none,.val (.int .i64 a1)),(5,none,.val (.slc true 2 (.int .i64 0) x.1)),(6,none,.val (.slc true 29 (.slc true 2 (.int .i64 0) []) ss)),(7,none,.val (.int .i64 x.2))])
   (fun x=>0<=x.2/\x.2<=S.length/\x.1=I ((qw (S.take x.2.toNat)).take a1.toNat)) (fun x=>(S.length-x.2).toNat) (([],0)) (by subst hL;rfl) ?_ ?_
  ·exact⟨by simp,by simp only;omega,by simp[qw,I]⟩
  rintro⟨es,i⟩ ⟨i0,i1,hI⟩ hfx ag hag;simp only at i0 i1 hI
  have hst:=zc1 S i.toNat
  have hmem:=fun(h:i.toNat<S.length)=>zgS (xs:=xs) (xs.length-1) (S.getD i.toNat []) (by have:=zau h;rwa [hS,QA]at this ⊢);generalize hE:S.getD i.toNat []=E at hst hmem;have hl:es.length<=a1.toNat:=by rw[hI,zj,zZ];omega
  conv=>cbv
  simp only[zo hL,sQ,hsl,gss,hE];refine⟨fun h=>?_,fun h=>?_⟩
  ·obtain⟨hEl,hE0,hE1⟩:=hmem (by omega);have hst':=hst (by omega);obtain⟨it,hit⟩:∃it,it=i.toNat:=⟨_,rfl⟩;simp only[<-hit]at hE hst' hI ⊢;have hti:it<S.length:=by omega
   have hEb:E.getD 0 0<=200000:=by
    have h1:qw S=qw (S.take (it+1))++qw (S.drop (it+1)):=by
     rw[qw,qw,qw,<-ka,ke]
    have h2:=congrArg List.length h1;have h3:=hb.pos;have h4:=hb.len;have h5:=zfK hb (xs.length-1) (by omega);have h6:qw S=zcL xs (xs.length-1):=(by rw[hS,QA,zfh]);rw[h6,zp,hst',zp,zE]at h2;omega
   refine⟨by omega,by omega,hti,hti,by omega,by omega,hti,by omega,?_⟩
   refine hlp (List V×Int) _ _ _ [1,5,6,7,8] (fun x=>[(1,none,.val (.int .i64 a1)),(5,none,.val (.slc true 2 (.int .i64 0) x.1)),(6,none,.val (.slc true 29 (.slc true 2 (.int .i64 0) []) ss)),(7,none,.val (.int .i64 i)),(8,none,.val (.int .i64 x.2))])
    (fun x=>0<=x.2/\x.2<=E.getD 0 0/\x.1=I ((qw (S.take it)++List.replicate (E.getD 0 0-x.2).toNat (E.getD 1 0)).take a1.toNat)) (fun x=>x.2.toNat) ((es,E.getD 0 0)) (by subst hL;rfl) ?_ ?_
   ·exact⟨by simp only;omega,by simp,by simp[hI]⟩
   rintro⟨es2,q⟩ ⟨j0,j1,hI2⟩ hfx2 ag2 hag2;simp only at j0 j1 hI2;have hl2:es2.length<=a1.toNat:=by rw[hI2,zj,zZ];omega
   conv=>cbv
   simp only[zo hL,sQ,hsl,gss,<-hit,hE];refine⟨fun hj=>?_,fun hj=>?_⟩
   ·rw[zk (n:=q-1) (by omega) (by omega)];refine⟨by omega,by omega,hti,hti,by omega,by omega,hti,by omega,yV _,by simp only[zi,zq];omega,yr _,?_⟩;refine hag2 (_,q-1) ⟨by simp only;omega,by simp only;omega,?_⟩ (by simp only;omega);simp only
    have hlt:((qw (S.take it)++List.replicate (E.getD 0 0-q).toNat (E.getD 1 0)).take a1.toNat).length<a1.toNat:=by
     have:=hj.2;rw[hI2,zj]at this;omega
    rw[show(E.getD 0 0-(q-1)).toNat=(E.getD 0 0-q).toNat+1 by omega,qM,<-zU,<-zyl _ hlt,hI2,<-jb];rfl
   ·rw[zk (n:=i+1) (by omega) (by omega)];refine hag (_,i+1) ⟨by simp only;omega,by simp only;omega,?_⟩ (by simp only;omega);simp only[zL i0,<-hit];rw[hst',hI2];by_cases hq0:q=0
    ·rw[show(E.getD 0 0-q).toNat=(E.getD 0 0).toNat by omega]
    ·have hfl:¬((qw (S.take it)++List.replicate (E.getD 0 0-q).toNat (E.getD 1 0)).take a1.toNat).length<a1.toNat:=by
      have:=hj.resolve_left (by omega);rw[hI2,zj]at this;omega
     rw[zym (List.replicate q.toNat (E.getD 1 0)) hfl,zU,List.replicate_append_replicate,show(E.getD 0 0-q).toNat+q.toNat=(E.getD 0 0).toNat by omega]
  ·have hI':es=I ((jn xs).take a1.toNat):=by
    rw[hI,zy (l:=S) (by omega),hS,QA,zfh,jn]
   clear hst hmem hI
   refine hlp (List V×Nat) _ _ _ [1,5] (fun x=>[(1,none,.val (.int .i64 a1)),(5,none,.val (.slc true 2 (.int .i64 0) x.1))])
    (fun x=>x.1=I ((jn xs).take a1.toNat++List.replicate x.2 1)/\x.1.length<=a1.toNat) (fun x=>a1.toNat-x.1.length) ((es,0)) (by subst hL;rfl) ?_ ?_
   ·exact⟨by simp[hI'],hl⟩
   rintro⟨es2,n⟩ ⟨hI2,hl2⟩ hfx2 ag2 hag2;simp only at hI2 hl2
   conv=>cbv
   simp only[zo hL,sQ,];refine⟨fun h=>?_,fun h=>?_⟩
   ·(repeat' first|(exact yr _)|(exact je rfl)|(exact yV _)|(apply And.intro)|(intro _))<;>(try first|exact True.intro|omega|rfl|(simp only[zi,zq,zj];omega))
    refine hag2 (_,n+1) ⟨?_,?_⟩ ?_
    ·simp only;rw[qM,<-zU,<-jb,hI2];rfl
    ·simp only[zp,zi,zq];omega
    ·simp only[zp,zi,zq];omega
   ·rw[hr,e2,hI2,zyn (by rw[hI2,zj]at h hl2;omega)]
 ·cases h
end Go.Ax
