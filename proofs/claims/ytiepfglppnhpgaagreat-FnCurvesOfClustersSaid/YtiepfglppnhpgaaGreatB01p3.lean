import Derived.Test.YtiepfglppnhpgaaGreatAxP4p3
import Derived.Test.YtiepfglppnhpgaaGreatProg
import Derived.KernelRfl
import Derived.IntWalk
import Derived.Test.YtiepfglppnhpgaaGreatRows
set_option linter.all false
set_option maxRecDepth 100000
set_option maxHeartbeats 1000000
open Bool renaming and_eq_false_iff->jN,and_eq_true->zh,not_eq_false'->JH,not_eq_true'->yK
open Int renaming eq_ofNat_of_zero_le->Jl,le_of_lt->zg4,natCast_nonneg->jD,tmod_lt_of_pos->uc,toNat_natCast->zL
open List renaming all_cons->Jp,all_eq_true->yc,append_assoc->zU,drop_eq_nil_of_le->Zk,getD_cons_succ->yT,getD_cons_zero->qh,getD_eq_getElem?_getD->zd,getElem?_append_right->yr,getElem?_eq_getElem->ze,getElem?_eq_none->zy,getElem?_map->zK,getElem?_range->Jd,map_congr_left->kS,map_map->ZN,map_set->QW,replicate_succ->yI
open Nat renaming add_sub_cancel->qJ,gcd_comm->Zi,le_of_ble_eq_true->yh,le_refl->zw,lt_irrefl->zam,mod_lt->JB,sub_self->kF
open Option.some renaming injEq->za
open Prod.mk renaming injEq->zb
/-
 The table of types,lists of numbers,arithmetic without overflow.
-/
namespace Go.Ax
open Go.Proofs
def tab:kH:=[(2,⟨.int .i64,1,.int .i64 0⟩),(3,⟨.int .i64,1,.int .i64 0⟩),(4,⟨.bool,1,.bool false⟩),(5,⟨.int .u8,1,.int .u8 0⟩),(22,⟨.slc 5,1,.slc true 5 (.int .u8 0) []⟩),(24,⟨.slc 2,1,.slc true 2 (.int .i64 0) []⟩),(26,⟨.agg [(0,24),(1,24),(2,24)],3,.agg [.slc true 2 (.int .i64 0) [],.slc true 2 (.int .i64 0) [],.slc true 2 (.int .i64 0) []]⟩),(28,⟨.slc 49,1,.slc true 49 (.agg [.slc true 2 (.int .i64 0) []]) []⟩),(29,⟨.slc 24,1,.slc true 24 (.slc true 2 (.int .i64 0) []) []⟩),(31,⟨.agg [(0,28),(1,29)],2,.agg [.slc true 49 (.agg [.slc true 2 (.int .i64 0) []]) [],.slc true 24 (.slc true 2 (.int .i64 0) []) []]⟩),(49,⟨.agg [(0,24)],1,.agg [.slc true 2 (.int .i64 0) []]⟩),(89,⟨.int .u64,1,.int .u64 0⟩),(91,⟨.agg [(0,22),(1,3),(2,89)],3,.agg [.slc true 5 (.int .u8 0) [],.int .i64 0,.int .u64 0]⟩),(92,⟨.int .u64,1,.int .u64 0⟩),(130,⟨.int .i64,1,.int .i64 0⟩),(144,⟨.int .u64,1,.int .u64 0⟩)]
theorem mixed: Tryz.prog.follows .mixedOrders=true:=by kernel_rfl
theorem Zy:TabOk Tryz.prog tab:=⟨by kernel_rfl,by kernel_rfl,by kernel_rfl⟩
theorem zH{B:kn}{Bi:qV}{k:FuncId}{fn:Func}{body:Code}{args:List V}{r:V}{n:Nat}(ks:List Nat)(hf: Tryz.prog.funcs[k]? =some fn)(hb:fn.body=some body)(hn:fn.ntmps=n)(hB:Yd Tryz.prog B)(hBi:uQ Tryz.prog Bi)
 (h:∀(L:Alg) (lp:YQ) (rr:V),L=yz tab->rr=r->Qu (kJ 0 args)->QV L tab B Bi n ks lp->Zq L tab lp B Bi n ks body (zsA L tab fn.results.toList rr) (kJ 0 args))
 (hname:(fn.name== "runtime.NumGoroutine")=false:=by kernel_rfl) (hl:Nat.ble args.length n=true:=by rfl) (hck:kv tab ks 0 false body=true:=by kernel_rfl):zeH Tryz.prog k args r:=ztH ks hf hb hn hname (yh hl) mixed Zy hB hBi hck h
theorem QA{B:kn}{Bi:qV}{k:FuncId}{fn:Func}{body:Code}{args:List V}{r:V}{n:Nat}(ks:List Nat)(hf: Tryz.prog.funcs[k]? =some fn)(hb:fn.body=some body)(hn:fn.ntmps=n)(hB:Yd Tryz.prog B)(hBi:uQ Tryz.prog Bi)
 (h:∀(L:Alg) (lp:YQ) (rr:V),L=yz tab->rr=r->Qu (kJ 0 args)->QV L tab B Bi n ks lp->Zq L tab lp B Bi n ks body (zsC L tab fn.results.toList rr) (kJ 0 args))
 (hname:(fn.name== "runtime.NumGoroutine")=false:=by kernel_rfl) (hl:Nat.ble args.length n=true:=by rfl) (hck:kv tab ks 0 false body=true:=by kernel_rfl):zeH Tryz.prog k args r:=zCc ks hf hb hn hname (yh hl) mixed Zy hB hBi hck h
theorem zzX{B:kn}{Bi:qV}{k:FuncId}{fn:Func}{body:Code}{args:List V}{r:V}{n:Nat}(ks:List Nat)(hf: Tryz.prog.funcs[k]? =some fn)(hb:fn.body=some body)(hn:fn.ntmps=n)(hB:Yd Tryz.prog B)(hBi:uQ Tryz.prog Bi)
 (h:∀(L:Alg) (lp:YQ) (rr:V),L=yz tab->rr=r->Qu (kJ 0 args)->QV L tab B Bi n ks lp->Zq L tab lp B Bi n ks body (zsB tab L fn.results.toList rr) (kJ 0 args))
 (hname:(fn.name== "runtime.NumGoroutine")=false:=by kernel_rfl) (hl:Nat.ble args.length n=true:=by rfl) (hck:kv tab ks 0 false body=true:=by kernel_rfl):zeH Tryz.prog k args r:=zCb ks hf hb hn hname (yh hl) mixed Zy hB hBi hck h
def I(xs:List Int):List V:=xs.map (.int .i64)
def yD(es:List V):List Int:=es.map V.toI
def Yo(es:List V):Prop:=∃l,es=I l
@[simp] theorem zl(xs:List Int):yD (I xs)=xs:=by
  induction xs with
  |nil=>rfl
  |cons x l ih=>simp only[I,yD,List.map_cons,V.toI,List.cons.injEq,true_and]at ih ⊢;exact ih
@[simp] theorem zg(xs:List Int):(I xs).length=xs.length:=by simp[I]
@[simp] theorem zG(xs:List Int)(i:Nat):(I xs).getD i (.int .i64 0)=.int .i64 (xs.getD i 0):=by
  simp only[I,zd,zK];cases xs[i]? <;>rfl
@[simp] theorem ua(xs:List Int)(i:Nat)(y:Int):(I xs).set i (.int .i64 y)=I (xs.set i y):=by simp[I,QW]
@[simp] theorem qW(xs ys:List Int):I xs++I ys=I (xs++ys):=by simp[I]
@[simp] theorem I_cons(x:Int)(xs:List Int):V.int .i64 x::I xs=I (x::xs):=by simp[I]
@[simp] theorem zbg(xs:List Int)(n:Nat):(I xs).take n=I (xs.take n):=by simp[I]
@[simp] theorem zpq(xs:List Int)(n:Nat):(I xs).drop n=I (xs.drop n):=by simp[I]
@[simp] theorem JT(n:Nat)(x:Int):List.replicate n (V.int .i64 x)=I (List.replicate n x):=by simp[I]
@[simp] theorem zt(xs:List Int):V.frzs (I xs)=I xs:=by
  rw[V.frzs_eq];simp[I,V.frz]
@[simp] theorem ZR(xs:List Int):V.noFzs (I xs)=true:=by
  rw[V.noFzs_eq];simp[I,V.noFz]
@[simp] theorem zg5(xs:List Int):V.owneds (I xs)=false:=by
  rw[V.owneds_eq];simp[I,V.owned]
@[simp] theorem I_nil:I []=[]:=rfl
theorem zeA(xs:List Int):∀x∈I xs,x.solid=true:=by
 intro x hx;simp only[I,List.mem_map]at hx;obtain⟨n,_,rfl⟩:=hx;rfl
@[simp] theorem Kq(o:Bool)(n:Int):vw uM tab o 20 2 (.int .i64 n)=some (.int .i64 n):=rfl
@[simp] theorem ok_int'(o:Bool)(n:Int):vw uM tab o 20 3 (.int .i64 n)=some (.int .i64 n):=rfl
@[simp] theorem uy(k:IntKind)(n:Int):uM.toI (.int k n)=n:=rfl
theorem zn{n:Int}(h1: -9223372036854775808<=n:=by omega)(h2:n<=9223372036854775807:=by omega):IntKind.wrap .i64 n=n:=IntWalk.i64_in n ⟨h1,h2⟩
theorem YF{α:Type}{xs:List α}{i:Nat}(d:α)(h:i<xs.length):xs.drop i=xs.getD i d::xs.drop (i+1):=by
 rw[List.drop_eq_getElem_cons h,zd,ze h];rfl
theorem ya{i:Int}(h:0<=i):(i+1).toNat=i.toNat+1:=by omega
theorem zuH{xs:List Int}{i:Nat}{p:Int->Bool}(h:i<xs.length):(xs.drop i).all p=(p (xs.getD i 0)&&(xs.drop (i+1)).all p):=by
 rw[YF 0 h,Jp]
theorem zo{L:Alg}{T:kH}(h:L=yz T):L.v=uM
 /\(∀(k:IntKind) (n:Int),L.wrap k n=(k.wrap n))
 /\(∀(a:Int) (b:Int),L.add a b=(a+b))
 /\(∀(a:Int) (b:Int),L.sub a b=(a-b))
 /\(∀(a:Int) (b:Int),L.mul a b=(a*b))
 /\(∀(a:Int) (b:Int),L.quo a b=(a.tdiv b))
 /\(∀(a:Int) (b:Int),L.rem a b=(a.tmod b))
 /\(∀(k:IntKind) (a:Int) (b:Int),L.band k a b=(zdU k a b))
 /\(∀(k:IntKind) (a:Int) (b:Int),L.shr k a b=(zgg k a b))
 /\(∀(a:Int) (b:Int),L.imin a b=(min a b))
 /\(∀(a:Int) (b:Int),L.imax a b=(max a b))
 /\(∀(a:Int) (b:Int),L.eqI a b=(a==b))
 /\(∀(a:Int) (b:Int),L.leI a b=(decide (a<=b)))
 /\(∀(a:Int) (b:Int),L.ltI a b=(decide (a<b)))
 /\(∀(a:Bool) (b:Bool),L.eqB a b=(a==b))
 /\(∀(a:Bool),L.not a=(!a))
 /\(∀(a:Bool) (b:Bool),L.and a b=(a&&b))
 /\(∀(c:Bool) (a:Bool) (b:Bool),L.pick c a b=(bif c then a else b))
 /\(∀(a:ByteArray) (b:ByteArray),L.eqS a b=(a.toList==b.toList))
 /\(∀(a:ByteArray) (b:ByteArray),L.ltS a b=(Op.bytesLess a.toList b.toList))
 /\(∀(a:ByteArray) (b:ByteArray),L.appS a b=(a++b))
 /\(∀(a:ByteArray),L.lenS a=((a.size:Int)))
 /\(∀(s:ByteArray) (n:Int),L.getS s n=(((s.data.getD n.toNat 0).toNat:Int)))
 /\(∀(s:ByteArray) (l:Int) (h:Int),L.extS s l h=(s.extract l.toNat h.toNat))
 /\(∀(es:List V),L.len es=((es.length:Int)))
 /\(∀(es:List V) (i:Nat) (d:V),L.get es i d=(es.getD i d))
 /\(∀(es:List V) (i:Nat) (y:V),L.set es i y=(es.set i y))
 /\(∀(a:List V) (b:List V),L.app a b=(a++b))
 /\(∀(es:List V) (l:Int) (h:Int),L.sli es l h=((es.take h.toNat).drop l.toNat))
 /\(∀(n:Int) (z:V),L.rep n z=(List.replicate n.toNat z))
 /\(∀(x:List V),L.frz x=(V.frzs x))
 /\(∀(x:Int),L.nat x=(Int.toNat x))
 /\(∀(i:Nat) (es:List V),L.ltN i es=(i<es.length))
 /\(∀(es:List V),L.nofz es=(V.noFzs es=true))
 /\(∀(es:List V),L.nown es=(V.owneds es=false))
 /\(∀(es:List V),L.emp es=(es=[]))
 /\(∀(o:Bool) (t:TypeId) (y:V),L.ok o t y=(vw uM T o 20 t y=some y))
 /\(∀(t:TypeId) (y:V),L.okS t y=OkS T t y)
 /\(∀(es:List V),L.solid es=(∀x∈es,x.solid=true))
 /\(∀(a:Int) (b:Int),L.le a b=(a<=b))
 /\(∀(a:Int) (b:Int),L.lt a b=(a<b))
 /\(∀(b:Int),L.ne0 b=(b≠0))
 /\(∀(b:Bool) (p:Prop),L.imp b p=(b=true->p))
 /\(∀(b:Bool),L.tt b=(b=true))
 /\(∀(b:Bool) (p:Prop) (q:Prop),L.ifP b p q=((b=true->p)/\(b=false->q)))
 /\(∀(es:List V),L.strB es=zgT es)
 /\(∀(es:List V),L.byt es=zmp es):=by
 subst h;exact⟨rfl,by intros;rfl,by intros;rfl,by intros;rfl,by intros;rfl,by intros;rfl,by intros;rfl,by intros;rfl,by intros;rfl,by intros;rfl,by intros;rfl,by intros;rfl,by intros;rfl,by intros;rfl,by intros;rfl,by intros;rfl,by intros;rfl,by intros;rfl,by intros;rfl,by intros;rfl,by intros;rfl,by intros;rfl,by intros;rfl,by intros;rfl,by intros;rfl,by intros;rfl,by intros;rfl,by intros;rfl,by intros;rfl,by intros;rfl,by intros;rfl,by intros;rfl,by intros;rfl,by intros;rfl,by intros;rfl,by intros;rfl,by intros;rfl,by intros;rfl,by intros;rfl,by intros;rfl,by intros;rfl,by intros;rfl,by intros;rfl,by intros;rfl,by intros;rfl,by intros;rfl,by intros;rfl⟩
def qM(f0:Int->Int->Int->Bool):zO:=fun
 |[.int .i64 a0,.int .i64 a1,.int .i64 a2]=>some ([],.bool (f0 a0 a1 a2))
 |_=>none
def yn(a b c:Int):Bool:=decide (b<=a)&&decide (a<=c)
theorem Ye:yM Tryz.prog 34 (qM yn):=by
 intro args ps r h hp;unfold qM at h;split at h
 ·rename_i a0 a1 a2;cases h;refine zfX (T:=tab) (B:=[]) [0,1,2,6] Tryz.func34 rfl rfl (by kernel_rfl) (yh rfl) mixed Zy zF (by kernel_rfl) ?_;intro L lp rr hL hr hf hlp
  conv=>cbv
  subst hL hr;simp[yz,yn]
 ·cases h
def zal(f0:List V->Int->Int->Bool)(q:List V->Prop):zO:=fun
 |[.slc false 2 (.int .i64 0) a0,.int .i64 a1,.int .i64 a2]=>some ([q a0],.bool (f0 a0 a1 a2))
 |_=>none
def jk(l:List Int)(a b:Int):Bool:=l.all fun x=>yn x a b
def JO(es:List V)(a b:Int):Bool:=jk (yD es) a b
theorem zfk:yM Tryz.prog 69 (zal JO Yo):=by
 intro args ps r h hp;unfold zal at h;split at h
 ·rename_i a0 a1 a2;cases h;obtain⟨xs,hxs⟩:Yo a0:=(zp.1 hp).1;generalize HF0IMPLINRANGE:yn=F0IMPLINRANGE;refine zfX (T:=tab) (B:=[(34,qM F0IMPLINRANGE)]) [0,1,2,6,8,9,10,11] Tryz.func69 rfl rfl (by kernel_rfl) (yh rfl) mixed Zy (by subst HF0IMPLINRANGE;exact(zm Ye zF)) (by kernel_rfl) ?_;intro L lp rr hL hr hf hlp;obtain⟨n,hn⟩:=qEI a0.length;have hlen:=hf.1.1
  conv=>cbv
  refine hlp (Int) _ _ _ [1,2,9,10,11] (fun i=>[(wJ0 1 a1),(wJ0 2 a2),(wJ3 9 a0),(wJ0 10 n),(wJ0 11 i)]) (fun i=>0<=i/\i<=n/\jk xs a1 a2=jk (xs.drop i.toNat) a1 a2) (fun i=>(n-i).toNat) 0 (by subst hL hn;rfl) ?_ ?_
  ·subst hxs hn;simp
  ·rintro i ⟨i0,i1,i2⟩ hfx ag hag
   conv=>cbv
   subst hL hr HF0IMPLINRANGE hxs;simp only[yz,zG,Kq,uy,zg,imp_self,true_and,decide_eq_true_eq,decide_eq_false_iff_not,yK,JH,V.bool.injEq,JO,zl]at hn hlen ⊢;refine⟨fun h=>⟨i0,by omega,fun h1=>?_,fun h1=>?_⟩,fun h=>?_⟩
   ·rw[i2,jk,zuH (by omega),h1];rfl
   ·rw[zn (by omega) (by omega)];refine hag _ ⟨by omega,by omega,?_⟩ (by omega);rw[i2,jk,jk,zuH (by omega),ya i0,h1];rfl
   ·rw[i2,Zk (by omega)];rfl
 ·cases h
def zFp(xs:List Int):Nat->Int->Int->Int×Int×Int
 |0,t,b=>(t,b,0)
 |k+1,t,b=>
  if 1000000000000<IntKind.wrap .i64 (IntKind.wrap .i64 (xs.getD k 0*t)-b)then(0,0,3)
  else zFp xs k (IntKind.wrap .i64 (IntKind.wrap .i64 (xs.getD k 0*t)-b)) t
def cf(xs:List Int):Int×Int×Int:=bif (bif (bif decide ((xs.length:Int)<1)then true else decide (30<(xs.length:Int)))then true else !jk xs 2 1000)then(0,0,1)else zFp xs xs.length 1 0
theorem QG:yM Tryz.prog 71 (qM yn):=by
 intro args ps r h hp;unfold qM at h;split at h
 ·rename_i a0 a1 a2;cases h;refine zfX (T:=tab) (B:=[]) [0,1,2,6] Tryz.func71 rfl rfl (by kernel_rfl) (yh rfl) mixed Zy zF (by kernel_rfl) ?_;intro L lp rr hL hr hf hlp
  cbv
  subst hL hr;simp[yz,yn]
 ·cases h
def kD(f0:List V->List V)(q:List V->Prop):zO:=fun
 |[.slc false 2 (.int .i64 0) a0]=>some ([q a0],.slc true 2 (.int .i64 0) (f0 a0))
 |_=>none
def same(es:List V):List V:=es
def qU(es:List V):Prop:=(∃l,es=I l)/\es.length<=2147483647
def Zh(a b:List V):Bool:=decide (yD a=yD b)
def yes(_:List V):Bool:=true
def zyP(f0:Int->Int):zO:=fun
 |[.int .i64 a0]=>some ([],.int .i64 (f0 a0))
 |_=>none
def zdY(a:Int):Int:=bif decide (a<0)then IntKind.wrap .i64 (0-a)else a
theorem zx2:yM Tryz.prog 145 (zyP zdY):=by
 intro args ps r h hp;unfold zyP at h;split at h
 ·rename_i a0;cases h;refine zfX (T:=tab) (B:=[]) [0,2] Tryz.func145 rfl rfl (by kernel_rfl) (yh rfl) mixed Zy zF (by kernel_rfl) ?_;intro L lp rr hL hr hf hlp
  conv=>cbv
  simp only[zo hL,imp_self,true_and];subst hr;refine⟨fun h=>?_,fun h=>?_⟩<;>simp only[zdY,h,cond_true,cond_false]
 ·cases h
def zdO(f0:Int->Int->Int)(q:Int->Int->Prop):zO:=fun
 |[.int .i64 a0,.int .i64 a1]=>some ([q a0 a1],.int .i64 (f0 a0 a1))
 |_=>none
def ne0(_ b:Int):Prop:=b≠0
def zbF(a b:Int):Int:=if _h:0<b then zbF b (a.tmod b)else a
termination_by b.toNat
decreasing_by
 have:=uc a (by assumption);omega
def jq(a b:Int):Int:=zbF (zdY a) (zdY b)
def zgW(_ _:Int):Prop:=True
theorem za2{a b:Int}(h:0<b):zbF a b=zbF b (a.tmod b):=by rw[zbF,dif_pos h]
theorem KF{a b:Int}(h:¬0<b):zbF a b=a:=by rw[zbF,dif_neg h]
theorem ziB:yM Tryz.prog 126 (zdO jq zgW):=by
 intro args ps r h hp;unfold zdO at h;split at h
 ·rename_i a0 a1;cases h;generalize HA:zdY=A0;refine zfX (T:=tab) (B:=[(145,zyP A0)]) [0,1,4] Tryz.func126 rfl rfl (by kernel_rfl) (yh rfl) mixed Zy (by subst HA;exact zm zx2 zF) (by kernel_rfl) ?_;intro L lp rr hL hr hf hlp
  conv=>cbv
  refine hlp (Int×Int) _ _ _ [0,1] (fun x=>[(wJ0 0 x.1),(wJ0 1 x.2)])
   (fun x=>jq a0 a1=zbF x.1 x.2) (fun x=>x.2.toNat) (A0 a0,A0 a1) (by subst hL;rfl) (by subst HA;rfl) ?_
  rintro⟨a,b⟩ hI hfx ag hag
  conv=>cbv
  simp only[zo hL,imp_self,true_and,decide_eq_true_eq,decide_eq_false_iff_not];simp only at hI;refine⟨fun h=>⟨by omega,hag (b,a.tmod b) (by rw[hI,za2 h]) ?_⟩,fun h=>?_⟩
  ·have:=uc a h;simp only;omega
  ·subst hr;rw[hI,KF h]
 ·cases h
theorem zfi:yM Tryz.prog 104 (zdO jq zgW):=by
 intro args ps r h hp;unfold zdO at h;split at h
 ·rename_i a0 a1;cases h;refine zfX (T:=tab) (B:=[]) [0,1,4,5] Tryz.func104 rfl rfl (by kernel_rfl) (yh rfl) mixed Zy zF (by kernel_rfl) ?_;intro L lp rr hL hr hf hlp
  conv=>cbv
  simp only[zo hL,imp_self,true_and,decide_eq_true_eq,decide_eq_false_iff_not];refine⟨fun h0=>⟨fun h1=>?_,fun h1=>?_⟩,fun h0=>⟨fun h1=>?_,fun h1=>?_⟩⟩
  ·refine hlp (Int×Int) _ _ _ [0,1] (fun x=>[(wJ0 0 x.1),(wJ0 1 x.2)])
    (fun x=>jq a0 a1=zbF x.1 x.2) (fun x=>x.2.toNat) (IntKind.wrap .i64 (0-a0),IntKind.wrap .i64 (0-a1)) (by subst hL;rfl) (by simp[jq,zdY,h0,h1]) ?_
   rintro⟨a,b⟩ hI hfx ag hag
   conv=>cbv
   simp only[zo hL,imp_self,true_and,decide_eq_true_eq,decide_eq_false_iff_not];simp only at hI;refine⟨fun h=>⟨by omega,hag (b,a.tmod b) (by rw[hI,za2 h]) ?_⟩,fun h=>?_⟩
   ·have:=uc a h;simp only;omega
   ·subst hr;rw[hI,KF h]
  ·refine hlp (Int×Int) _ _ _ [0,1] (fun x=>[(wJ0 0 x.1),(wJ0 1 x.2)])
    (fun x=>jq a0 a1=zbF x.1 x.2) (fun x=>x.2.toNat) (IntKind.wrap .i64 (0-a0),a1) (by subst hL;rfl) (by simp[jq,zdY,h0,h1]) ?_
   rintro⟨a,b⟩ hI hfx ag hag
   conv=>cbv
   simp only[zo hL,imp_self,true_and,decide_eq_true_eq,decide_eq_false_iff_not];simp only at hI;refine⟨fun h=>⟨by omega,hag (b,a.tmod b) (by rw[hI,za2 h]) ?_⟩,fun h=>?_⟩
   ·have:=uc a h;simp only;omega
   ·subst hr;rw[hI,KF h]
  ·refine hlp (Int×Int) _ _ _ [0,1] (fun x=>[(wJ0 0 x.1),(wJ0 1 x.2)])
    (fun x=>jq a0 a1=zbF x.1 x.2) (fun x=>x.2.toNat) (a0,IntKind.wrap .i64 (0-a1)) (by subst hL;rfl) (by simp[jq,zdY,h0,h1]) ?_
   rintro⟨a,b⟩ hI hfx ag hag
   conv=>cbv
   simp only[zo hL,imp_self,true_and,decide_eq_true_eq,decide_eq_false_iff_not];simp only at hI;refine⟨fun h=>⟨by omega,hag (b,a.tmod b) (by rw[hI,za2 h]) ?_⟩,fun h=>?_⟩
   ·have:=uc a h;simp only;omega
   ·subst hr;rw[hI,KF h]
  ·refine hlp (Int×Int) _ _ _ [0,1] (fun x=>[(wJ0 0 x.1),(wJ0 1 x.2)])
    (fun x=>jq a0 a1=zbF x.1 x.2) (fun x=>x.2.toNat) (a0,a1) (by subst hL;rfl) (by simp[jq,zdY,h0,h1]) ?_
   rintro⟨a,b⟩ hI hfx ag hag
   conv=>cbv
   simp only[zo hL,imp_self,true_and,decide_eq_true_eq,decide_eq_false_iff_not];simp only at hI;refine⟨fun h=>⟨by omega,hag (b,a.tmod b) (by rw[hI,za2 h]) ?_⟩,fun h=>?_⟩
   ·have:=uc a h;simp only;omega
   ·subst hr;rw[hI,KF h]
 ·cases h
theorem Sh.ints{o:Bool}{e:TypeId}{d:V}{xs ys:List Int}(h:xs.length=ys.length):Sh (.slc o e d (I xs)) (.slc o e d (I ys)):=by
 refine .slc o e d _ _ (by simp[h]) (fun i x y hx hy=>?_);simp only[I,zK,Option.map_eq_some_iff]at hx hy;obtain⟨a,_,rfl⟩:=hx;obtain⟨b,_,rfl⟩:=hy;exact .scal _ _ rfl rfl
theorem zt2{xs:List Int}{i:Nat}(h:i+1<xs.length):xs.drop i=xs.getD i 0::xs.getD (i+1) 0::xs.drop (i+2):=by
 rw[YF 0 (by omega),YF 0 h]
theorem qG(n:Int):V.owneds [V.int .i64 n]=false:=rfl
theorem jY{v:V}(h:v.solid=true):∀x∈[v],x.solid=true:=by
 intro x hx;simp at hx;subst hx;exact h
theorem yL(n:Int):∀x∈[V.int .i64 n],x.solid=true:=by
 intro x hx;simp at hx;subst hx;rfl
def ZL(d:Int):List Int->List Int
 |[]=>[]
 |t::l=>jq d t::ZL (jq d t) l
def dv(xs:List Int):List Int:=ZL 0 xs
theorem znM:∀(l:List Int) (d:Int),(ZL d l).length=l.length
 |[],_=>rfl
 |_::l,_=>by simp[ZL,znM l]
def zr5(f0:List V->List V)(q:List V->Prop):zO:=fun
 |[.slc false 2 (.int .i64 0) a0]=>some ([q a0],.slc true 2 (.int .i64 0) (f0 a0))
 |_=>none
def zr6(f0:List V->List V)(q:List V->Prop):zO:=fun
 |[.agg [.slc false 2 (.int .i64 0) a0]]=>some ([q a0],.slc true 2 (.int .i64 0) (f0 a0))
 |_=>none
def Kj(es:List V):List V:=I (dv (yD es))
theorem zht:yM Tryz.prog 116 (zr5 Kj qU):=by
 intro args ps r h hp;unfold zr5 at h;split at h
 ·rename_i a0;cases h;obtain⟨⟨xs,hxs⟩,hlen⟩:qU a0:=(zp.1 hp).1;have hxl:a0.length=xs.length:=by rw[hxs,zg]
  rw[hxl]at hlen;obtain⟨m,hm⟩:=qEI a0.length;generalize YK:jq=zbq,uV:zgW=JX;refine zH (B:=[(126,zdO zbq JX)]) (Bi:=[]) [0,2,3,4,6,8,9,10] Tryz.func116 rfl rfl (by subst YK uV;exact(zm ziB zF)) zA ?_;intro L lp rr hL hr hf hlp
  conv=>cbv
  refine hlp (List V×Int×Int) _ _ _ [3,4,8,9,10] (fun x=>[(wJ2 3 x.1),(wJ0 4 x.2.1),(wJ3 8 a0),(wJ0 9 m),(wJ0 10 x.2.2)])
   (fun x=>0<=x.2.2/\x.2.2<=xs.length/\∃pre:List Int,x.1=I pre/\pre.length=x.2.2.toNat/\dv xs=pre++ZL x.2.1 (xs.drop x.2.2.toNat)) (fun x=>(xs.length-x.2.2).toNat) ([],0,0) (by subst hL hm;rfl) ⟨by simp,by simp,[],rfl,rfl,by simp[dv]⟩ ?_
  rintro⟨es,d,i⟩ ⟨i0,i1,pre,h1,h2,h3⟩ hfx ag hag
  conv=>cbv
  have hm':m=xs.length:=by rw[hm,hxl]
  have hg:a0.getD i.toNat (.int .i64 0)=.int .i64 (xs.getD i.toNat 0):=by rw[hxs,zG]
  simp only at i0 i1 h1 h2 h3;have hel:es.length=pre.length:=by rw[h1,zg]
  simp only[zo hL,hxl,hg,hel,Kq,uy,imp_self,true_and,decide_eq_true_eq,decide_eq_false_iff_not];refine⟨fun h=>⟨i0,by omega,?_,rfl,by simp;omega,yL _,?_⟩,fun h=>?_⟩
  ·subst uV;trivial
  ·rw[zn (n:=i+1)];subst YK;refine hag (es++[.int .i64 (jq d (xs.getD i.toNat 0))],jq d (xs.getD i.toNat 0),i+1) ⟨by simp only;omega,by simp only;omega,pre++[jq d (xs.getD i.toNat 0)],by rw[h1];simp[I],by simp;omega,?_⟩ (by simp only;omega);simp only[ya i0];rw[h3,YF 0 (by omega),ZL];simp
  ·subst hr;rw[Zk (by omega)]at h3;simp only[ZL,List.append_nil]at h3;rw[Kj,hxs,zl,h3,h1]
 ·cases h
theorem zhI{t:Int}(h:0<t):jq 0 t=t:=by
 have e1:zdY 0=0:=rfl
 have e2:zdY t=t:=by
  have:decide (t<0)=false:=by simp;omega
  rw[zdY,this];rfl
 rw[jq,e1,e2,za2 h,Int.zero_tmod,KF (by omega)]
def IsP(es:List V):Prop:=∃(t:Int) (l:List Int),es=I (t::l)/\0<t/\l.length<2147483647
theorem zeX:yM Tryz.prog 142 (zr6 Kj IsP):=by
 intro args ps r h hp;unfold zr6 at h;split at h
 ·rename_i a0;cases h;obtain⟨t0,l0,hxs,ht,hlen⟩:IsP a0:=(zp.1 hp).1;obtain⟨xs,hx⟩:=qEx (t0::l0);have hxs':a0=I xs:=by rw[hxs,hx]
  have hxl:a0.length=xs.length:=by rw[hxs',zg]
  have hxn:xs.length=l0.length+1:=by rw[hx];rfl
  have hx0:xs.getD 0 0=t0:=by rw[hx];rfl
  generalize YK:jq=zbq,uV:zgW=JX;refine zH (B:=[(104,zdO zbq JX)]) (Bi:=[]) [0,1,2,3,4] Tryz.func142 rfl rfl (by subst YK uV;exact(zm zfi zF)) zA ?_;intro L lp rr hL hr hf hlp
  conv=>cbv
  have hg0:a0.getD (Int.toNat 0) (.int .i64 0)=.int .i64 (xs.getD 0 0):=by rw[hxs',zG];rfl
  simp only[zo hL,hxl,hg0,Kq,uy,imp_self,true_and,decide_eq_true_eq,decide_eq_false_iff_not];refine⟨by omega,by omega,?_⟩
  refine hlp (List V×Int) _ _ _ [1,3,4] (fun x=>[(wJ8 1 a0),(wJ2 3 x.1),(wJ0 4 x.2)])
   (fun x=>0<x.2/\x.2<=xs.length/\∃(pre:List Int) (d:Int),x.1=I pre/\pre.length=x.2.toNat/\pre.getD (x.2.toNat-1) 0=d/\dv xs=pre++ZL d (xs.drop x.2.toNat)) (fun x=>(xs.length-x.2).toNat) ([.int .i64 (xs.getD 0 0)],1) (by subst hL;rfl)
   ⟨by simp,by simp only;omega,[t0],t0,by rw[hx0];rfl,rfl,rfl,by rw[hx];simp[dv,ZL,zhI ht]⟩ ?_
  rintro⟨es,i⟩ ⟨i0,i1,pre,d,h1,h2,h4,h3⟩ hfx ag hag
  conv=>cbv
  have hg:a0.getD i.toNat (.int .i64 0)=.int .i64 (xs.getD i.toNat 0):=by rw[hxs',zG]
  simp only at i0 i1 h1 h2 h3 h4;have hel:es.length=pre.length:=by rw[h1,zg]
  have ew:IntKind.wrap .i64 (i-1)=i-1:=zn (by omega) (by omega);have ge:es.getD (i-1).toNat (.int .i64 0)=.int .i64 d:=by rw[h1,zG,show(i-1).toNat=i.toNat-1 by omega,h4]
  simp only[zo hL,hxl,hg,hel,ew,ge,Kq,uy,imp_self,true_and,decide_eq_true_eq,decide_eq_false_iff_not];refine⟨fun h=>⟨by omega,by omega,by omega,by omega,by omega,?_,rfl,by simp;omega,yL _,?_⟩,fun h=>?_⟩
  ·subst uV;trivial
  ·rw[zn (n:=i+1)];subst YK;refine hag (es++[.int .i64 (jq d (xs.getD i.toNat 0))],i+1) ⟨by simp only;omega,by simp only;omega,pre++[jq d (xs.getD i.toNat 0)],jq d (xs.getD i.toNat 0),by rw[h1];simp[I],by simp;omega,?_,?_⟩ (by simp only;omega)
   ·simp only[ya (zg4 i0),qJ];rw[zd,yr (by omega),show i.toNat-pre.length=0 by omega];rfl
   ·simp only[ya (zg4 i0)];rw[h3,YF 0 (by omega),ZL];simp
  ·subst hr;rw[Zk (by omega)]at h3;simp only[ZL,List.append_nil]at h3;rw[Kj,hxs',zl,h3,h1]
 ·cases h
def Ky:List Int->Bool
 |a::b::l=>bif decide (b<=a)then false else Ky (b::l)
 |_=>true
def zcI(f0:List V->Bool)(q:List V->Prop):zO:=fun
 |[.slc false 2 (.int .i64 0) a0]=>some ([q a0],.bool (f0 a0))
 |_=>none
def ze3(es:List V):Bool:=Ky (yD es)
theorem ziC:yM Tryz.prog 68 (zcI ze3 Yo):=by
 intro args ps r h hp;unfold zcI at h;split at h
 ·rename_i a0;cases h;obtain⟨xs,hxs⟩:Yo a0:=(zp.1 hp).1;have hxl:a0.length=xs.length:=by rw[hxs,zg]
  refine zH (B:=[]) (Bi:=[]) [0,2,3] Tryz.func68 rfl rfl zF zA ?_;intro L lp rr hL hr hf hlp;have hlen:=hf.1.1;rw[hxl]at hlen;have hrr:rr=.bool (Ky xs):=by rw[hr,ze3,hxs,zl]
  conv=>cbv
  refine hlp (Int) _ _ _ [0,3] (fun x=>[(wJ3 0 a0),(wJ0 3 x)])
   (fun x=>0<x/\Ky xs=Ky (xs.drop (x.toNat-1))) (fun x=>(xs.length-x).toNat) 1 (by subst hL;rfl) (by simp) ?_
  rintro i ⟨i0,h2⟩ hfx ag hag
  conv=>cbv
  have hg:a0.getD i.toNat (.int .i64 0)=.int .i64 (xs.getD i.toNat 0):=by rw[hxs,zG]
  have hg':a0.getD (i-1).toNat (.int .i64 0)=.int .i64 (xs.getD (i.toNat-1) 0):=by rw[hxs,zG,show(i-1).toNat=i.toNat-1 by omega]
  have key:i<xs.length->xs.drop (i.toNat-1)=xs.getD (i.toNat-1) 0::xs.getD i.toNat 0::xs.drop (i.toNat+1):=by
   intro h;rw[zt2 (by omega)];rw[show i.toNat-1+1=i.toNat by omega,show i.toNat-1+2=i.toNat+1 by omega]
  by_cases hb:i<xs.length
  ·have ew:IntKind.wrap .i64 (i-1)=i-1:=zn (by omega) (by omega);simp only[zo hL,hxl,hg,ew,hg',Kq,uy,imp_self,true_and,decide_eq_true_eq,decide_eq_false_iff_not];refine⟨fun h=>⟨by omega,by omega,by omega,by omega,fun h4=>?_,fun h4=>?_⟩,fun h=>absurd hb h⟩
   ·rw[hrr,h2,key h,Ky,decide_eq_true h4];rfl
   ·rw[zn (n:=i+1)];refine hag (i+1) ⟨by omega,?_⟩ (by omega);have e1:xs.drop i.toNat=xs.getD i.toNat 0::xs.drop (i.toNat+1):=YF 0 (by omega);rw[h2,key h,Ky,decide_eq_false h4,show(i+1).toNat-1=i.toNat by omega,e1];rfl
  ·have hz:Ky (xs.drop (i.toNat-1))=true:=by
    have hl:(xs.drop (i.toNat-1)).length<=1:=by rw[List.length_drop];omega
    match xs.drop (i.toNat-1),hl with
    |[],_=>rfl
    |[_],_=>rfl
   simp only[zo hL,hxl,decide_eq_true_eq,decide_eq_false_iff_not];exact⟨fun h=>absurd h hb,fun _=>by rw[hrr,h2,hz]⟩
 ·cases h
theorem zj5:∀(n:Nat) (a b:Int),b.toNat<=n->0<=a->0<=b->zbF a b=(Nat.gcd a.toNat b.toNat:Int)
 |0,a,b,hn,ha,hb=>by
  obtain rfl:b=0:=by omega
  rw[KF (by omega)];simp;omega
 |n+1,a,b,hn,ha,hb=>by
  by_cases h:0<b
  ·have h1:(a.tmod b)=((a.toNat%b.toNat:Nat):Int):=by
    obtain⟨x,rfl⟩:=Jl ha;obtain⟨y,rfl⟩:=Jl hb;rw[Int.tmod_eq_emod_of_nonneg (jD x)];simp
   have h2:a.toNat%b.toNat<b.toNat:=JB _ (by omega);rw[za2 h,zj5 n b (a.tmod b) (by rw[h1,zL];omega) hb (by rw[h1];exact jD _),h1];simp only[zL];rw[Zi a.toNat b.toNat,Nat.gcd_rec b.toNat a.toNat,Zi]
  ·obtain rfl:b=0:=(by omega);rw[KF (by omega)];simp;omega
theorem zey{t:Int}(h:0<t):zdY t=t:=by
 have:decide (t<0)=false:=by simp;omega
 rw[zdY,this];rfl
theorem zwr{a b:Int}(ha:0<a)(hb:0<b):0<jq a b/\jq a b<=a/\jq a b<=b:=by
 rw[jq,zey ha,zey hb,zj5 b.toNat a b (zw _) (by omega) (by omega)];have h1:=Nat.gcd_pos_of_pos_left b.toNat (show 0<a.toNat by omega);have h2:=Nat.le_of_dvd (show 0<a.toNat by omega) (Nat.gcd_dvd_left a.toNat b.toNat);have h3:=Nat.le_of_dvd (show 0<b.toNat by omega) (Nat.gcd_dvd_right a.toNat b.toNat);omega
def dec:List Int->Bool
 |a::b::l=>bif decide (a<=b)then false else dec (b::l)
 |[a]=>a==1
 |[]=>false
def zeu(es:List V):Bool:=dec (dv (yD es))
def zl2(es:List V):Prop:=qU es/\es≠[]
theorem zsv:yM Tryz.prog 94 (zcI zeu zl2):=by
 intro args ps r h hp;unfold zcI at h;split at h
 ·rename_i a0;cases h;obtain⟨⟨⟨xs,hxs⟩,hlen⟩,hne⟩:zl2 a0:=(zp.1 hp).1;have hxl:a0.length=xs.length:=by rw[hxs,zg]
  obtain⟨ds,hds⟩:=qEx (dv xs);have hdl:ds.length=xs.length:=by rw[hds,dv,znM]
  have hpos:0<xs.length:=by
   cases xs with
   |nil=>exact absurd hxs hne
   |cons x l=>simp
  have hf0:Kj (V.frzs a0)=I ds:=by rw[hxs,zt,Kj,zl,hds]
  have hq:qU (V.frzs a0):=by rw[hxs,zt];exact⟨⟨xs,rfl⟩,by rw[<-hxs];exact hlen⟩
  have hrr0:zeu a0=dec ds:=by rw[zeu,hxs,zl,hds]
  rw[hxl]at hlen;generalize Jq:Kj=zaw,yu:qU=yP;refine zH (B:=[(116,zr5 zaw yP)]) (Bi:=[]) [0,2,3,4] Tryz.func94 rfl rfl (by subst Jq yu;exact(zm zht zF)) zA ?_;intro L lp rr hL hr hf hlp
  conv=>cbv
  have hF:zaw (V.frzs a0)=I ds:=by rw[<-Jq];exact hf0
  simp only[zo hL,hF];refine⟨by rw[<-yu];exact hq,?_⟩;obtain⟨es,hes⟩:=qEx (I ds);have hel:es.length=ds.length:=by rw[hes,zg]
  refine hlp (Int) _ _ _ [3,4] (fun x=>[(wJ2 3 es),(wJ0 4 x)])
   (fun x=>0<x/\x<=ds.length/\dec ds=dec (ds.drop (x.toNat-1))) (fun x=>(ds.length-x).toNat) 1 (by subst hL hes;rfl) ⟨by simp,by omega,by simp⟩ ?_
  rintro i ⟨i0,i1,h2⟩ hfx ag hag
  conv=>cbv
  have ew:IntKind.wrap .i64 (i-1)=i-1:=zn (by omega) (by omega);have ew2:IntKind.wrap .i64 ((ds.length:Int)-1)=(ds.length:Int)-1:=zn (by omega) (by omega);have hg:es.getD i.toNat (.int .i64 0)=.int .i64 (ds.getD i.toNat 0):=by rw[hes,zG]
  have hg':es.getD (i-1).toNat (.int .i64 0)=.int .i64 (ds.getD (i.toNat-1) 0):=by rw[hes,zG,show(i-1).toNat=i.toNat-1 by omega]
  have hg2:es.getD ((ds.length:Int)-1).toNat (.int .i64 0)=.int .i64 (ds.getD (ds.length-1) 0):=by rw[hes,zG,show((ds.length:Int)-1).toNat=ds.length-1 by omega]
  simp only[zo hL,hel,hg,hg',hg2,ew,ew2,Kq,uy,imp_self,true_and,decide_eq_true_eq,decide_eq_false_iff_not];have hrr:rr=.bool (dec ds):=by rw[hr,hrr0]
  refine⟨fun h=>?_,fun h=>?_⟩
  ·have key:ds.drop (i.toNat-1)=ds.getD (i.toNat-1) 0::ds.getD i.toNat 0::ds.drop (i.toNat+1):=by
    rw[zt2 (by omega)];rw[show i.toNat-1+1=i.toNat by omega,show i.toNat-1+2=i.toNat+1 by omega]
   (repeat' first|(intro _)|(apply And.intro))<;>try omega
   ·rename_i h4;rw[hrr,h2,key,dec,decide_eq_true h4];rfl
   ·rename_i h4;rw[zn (n:=i+1)];refine hag (i+1) ⟨by omega,by omega,?_⟩ (by omega);have e1:ds.drop i.toNat=ds.getD i.toNat 0::ds.drop (i.toNat+1):=YF 0 (by omega);rw[h2,key,dec,decide_eq_false h4,show(i+1).toNat-1=i.toNat by omega,e1];rfl
  ·(repeat' first|(intro _)|(apply And.intro))<;>try omega
   have e1:ds.drop (i.toNat-1)=[ds.getD (ds.length-1) 0]:=by
    rw[show i.toNat-1=ds.length-1 by omega,YF 0 (by omega),Zk (by omega)]
   rw[hrr,h2,e1];rfl
 ·cases h
def uE(xs:List Int):Bool:=
 bif (bif (bif (bif decide (0<(xs.length:Int))then yn (xs.getD 0 0) 1 64 else false)then Ky xs else false)then jk xs 1 2000 else false)then dec (dv xs)else false
def zgU(p e:Int):List Int->Bool
 |[]=>e==1
 |t::l=>bif !yn t (IntKind.wrap .i64 (p+1)) 2000 then false else bif jq e t==e then false else zgU t (jq e t) l
theorem zwL:∀(l:List Int) (p e:Int),1<=p->p<=2000->1<=e->zgU p e l=(Ky (p::l)&&jk l 1 2000&&dec (e::ZL e l))
 |[],p,e,_,_,_=>by simp[zgU,Ky,jk,ZL,dec]
 |t::l,p,e,h1,h2,h3=>by
  have ew:IntKind.wrap .i64 (p+1)=p+1:=zn (by omega) (by omega);simp only[zgU,ew];by_cases hr:p+1<=t/\t<=2000
  ·have e1:yn t (p+1) 2000=true:=(by simp[yn,hr]);have e2:Ky (p::t::l)=Ky (t::l):=(by simp[Ky];omega);have e3:jk (t::l) 1 2000=jk l 1 2000:=(by simp[jk,yn];omega);obtain⟨g1,g2,_⟩:=zwr (a:=e) (b:=t) (by omega) (by omega);rw[e1,e2,e3];simp only[Bool.not_true,cond_false,ZL,dec];by_cases hg:jq e t=e
   ·simp[hg]
   ·have e4:decide (e<=jq e t)=false:=(by simp;omega);have e5:(jq e t==e)=false:=(by simpa using hg);rw[e4,e5];simp only[cond_false];exact zwL l t (jq e t) (by omega) (by omega) (by omega)
  ·have e1:yn t (p+1) 2000=false:=by
    simp only[yn,jN,decide_eq_false_iff_not];omega
   rw[e1];simp only[Bool.not_false,cond_true];by_cases hp:t<=p
   ·simp[Ky,hp]
   ·have:jk (t::l) 1 2000=false:=by
     have:yn t 1 2000=false:=by
      simp only[yn,jN,decide_eq_false_iff_not];omega
     simp[jk,this]
    simp[this]
def zfJ(xs:List Int):Bool:=bif (bif ((xs.length:Int)==0)then true else !yn (xs.getD 0 0) 1 64)then false else zgU (xs.getD 0 0) (xs.getD 0 0) (xs.drop 1)
theorem ztp(xs:List Int):zfJ xs=uE xs:=by
 cases xs with
 |nil=>rfl
 |cons t l=>
  have e0:(((t::l).length:Int)==0)=false:=by
   rw[beq_eq_false_iff_ne];simp only[List.length_cons];omega
  have e1:decide (0<((t::l).length:Int))=true:=by
   rw[decide_eq_true_eq];simp only[List.length_cons];omega
  simp only[zfJ,uE,e0,e1,cond_true,cond_false,qh,List.drop_succ_cons,List.drop_zero]
  cases hr:yn t 1 64 with
  |false=>simp
  |true=>
   simp only[yn,zh,decide_eq_true_eq]at hr;rw[zwL l t t (by omega) (by omega) (by omega)];have e2:dv (t::l)=t::ZL t l:=(by simp only[dv,ZL];rw[zhI (by omega)]);have e3:jk (t::l) 1 2000=jk l 1 2000:=(by simp[jk,yn];omega);rw[e2,e3];cases Ky (t::l)<;>cases jk l 1 2000<;>simp
theorem zFs{A B C D:Bool}(h:(bif (bif (bif D then A else false)then B else false)then C else false)=true):D=true:=by
 cases D<;>simp_all
def YY(f0:List V->Bool)(q:List V->Prop):zO:=fun
 |[.agg [.slc false 2 (.int .i64 0) a0]]=>some ([q a0],.bool (f0 a0))
 |_=>none
def kA(es:List V):Bool:=uE (yD es)
theorem zdn:yM Tryz.prog 50 (YY kA qU):=by
 intro args ps r h hp;unfold YY at h;split at h
 ·rename_i a0;cases h;obtain⟨⟨xs,hxs⟩,hlen⟩:qU a0:=(zp.1 hp).1;have hxl:a0.length=xs.length:=by rw[hxs,zg]
  have hg:a0.getD (Int.toNat 0) (.int .i64 0)=.int .i64 (xs.getD 0 0):=by rw[hxs,zG];rfl
  have hrr0:kA a0=uE xs:=by rw[kA,hxs,zl]
  have q1:Yo (V.frzs a0):=by rw[hxs,zt];exact⟨xs,rfl⟩
  have q2:xs≠[]->zl2 (V.frzs a0):=by
   intro h;rw[hxs,zt];refine⟨⟨⟨xs,rfl⟩,by rw[<-hxs];exact hlen⟩,?_⟩
   cases xs with
   |nil=>exact absurd rfl h
   |cons x l=>simp[I]
  have g1:ze3 (V.frzs a0)=Ky xs:=by rw[hxs,zt,ze3,zl]
  have g2:JO (V.frzs a0) 1 2000=jk xs 1 2000:=by rw[hxs,zt,JO,zl]
  have g3:zeu (V.frzs a0)=dec (dv xs):=by rw[hxs,zt,zeu,zl]
  generalize yG:yn=qd,zhb:ze3=znZ,zhX:Yo=zkv,JF:JO=zbJ,zpr:zeu=zy1,zrx:zl2=zA0;refine zH (B:=[(34,qM qd),(68,zcI znZ zkv),(69,zal zbJ zkv),(94,zcI zy1 zA0)]) (Bi:=[]) [0,1,2,3] Tryz.func50 rfl rfl (by subst yG zhb zhX JF zpr zrx;exact(zm Ye (zm ziC (zm zfk (zm zsv zF))))) zA ?_;intro L lp rr hL hr hf hlp
  conv=>cbv
  simp only[zo hL,hxl,hg,Kq,uy,imp_self,true_and,and_true];subst yG zhb zhX JF zpr zrx;simp only[g1,g2,g3,q1,implies_true,true_and]
  have hne:decide (0<(xs.length:Int))=true->xs≠[]:=by
   rintro h rfl;simp at h
  (repeat' first|(intro _)|(apply And.intro))<;>try (first|omega|assumption|trivial)
  ·rename_i h;simpa using h
  ·rename_i h;exact(q2 (hne (zFs h))).1.2
  ·rename_i h h';exact(q2 (hne (zFs h))).2 h'
  ·rw[hr,hrr0,uE]
 ·cases h
theorem zaQ:yM Tryz.prog 73 (YY kA qU):=by
 intro args ps r h hp;unfold YY at h;split at h
 ·rename_i a0;cases h;obtain⟨⟨xs,hxs⟩,hlen⟩:qU a0:=(zp.1 hp).1;have hxl:a0.length=xs.length:=by rw[hxs,zg]
  have hg0:a0.getD (Int.toNat 0) (.int .i64 0)=.int .i64 (xs.getD 0 0):=by rw[hxs,zG];rfl
  have hrr0:kA a0=zfJ xs:=by rw[kA,hxs,zl,ztp]
  rw[hxl]at hlen;generalize yG:yn=qd,YK:jq=zbq,uV:zgW=JX;refine zH (B:=[(71,qM qd),(104,zdO zbq JX)]) (Bi:=[]) [0,1,2,3,4,5,6] Tryz.func73 rfl rfl (by subst yG YK uV;exact(zm QG (zm zfi zF))) zA ?_;intro L lp rr hL hr hf hlp;have hrr:rr=.bool (zfJ xs):=by rw[hr,hrr0]
  conv=>cbv
  simp only[zo hL,hxl,hg0,Kq,uy,imp_self,true_and,and_true]
  (repeat' first|(intro _)|(apply And.intro))<;>try (first|omega|assumption|trivial)
  ·rename_i h
   cases xs with
   |nil=>simp at h
   |cons x l=>simp
  ·rename_i h;subst yG;rw[hrr,zfJ,h];rfl
  ·rename_i h
   cases xs with
   |nil=>simp at h
   |cons x l=>simp
  ·rename_i h
   have hpos:0<xs.length:=by
    cases xs with
    |nil=>simp at h
    |cons x l=>simp
   have hgo:zfJ xs=zgU (xs.getD 0 0) (xs.getD 0 0) (xs.drop 1):=by
    subst yG;rw[zfJ,h];rfl
   refine hlp (Int×Int) _ _ _ [3,4,5] (fun x=>[(wJ3 3 a0),(wJ0 4 x.1),(wJ0 5 x.2)])
    (fun x=>0<x.2/\x.2<=xs.length/\zfJ xs=zgU (xs.getD (x.2.toNat-1) 0) x.1 (xs.drop x.2.toNat)) (fun x=>(xs.length-x.2).toNat) (xs.getD 0 0,1) (by subst hL;simp only[zo rfl,hg0,uy];rfl) ⟨by simp,by simp only;omega,hgo⟩ ?_
   rintro⟨e,i⟩ ⟨i0,i1,h2⟩ hfx ag hag
   conv=>cbv
   simp only at i0 i1 h2;have hg:a0.getD i.toNat (.int .i64 0)=.int .i64 (xs.getD i.toNat 0):=(by rw[hxs,zG]);have hg':a0.getD (i-1).toNat (.int .i64 0)=.int .i64 (xs.getD (i.toNat-1) 0):=(by rw[hxs,zG,show(i-1).toNat=i.toNat-1 by omega]);have ew:IntKind.wrap .i64 (i-1)=i-1:=zn (by omega) (by omega);simp only[zo hL,hxl,hg,hg',ew,Kq,uy,imp_self,true_and,and_true,decide_eq_true_eq,decide_eq_false_iff_not];refine⟨fun hb=>?_,fun hb=>?_⟩
   ·have e1:xs.drop i.toNat=xs.getD i.toNat 0::xs.drop (i.toNat+1):=YF 0 (by omega);rw[e1,zgU]at h2
    (repeat' first|(intro _)|(apply And.intro))<;>try (first|omega|assumption|trivial)
    ·rename_i h4;subst yG;rw[hrr,h2,h4];rfl
    ·subst uV;trivial
    ·rename_i h4 h5;subst yG YK;rw[hrr,h2,h4,h5];rfl
    ·rename_i h4 h5;subst yG YK;rw[zn (n:=i+1)];refine hag (jq e (xs.getD i.toNat 0),i+1) ⟨by simp only;omega,by simp only;omega,?_⟩ (by simp only;omega);rw[h2,h4,h5];simp only[cond_false,ya (zg4 i0),qJ]
   ·have e1:xs.drop i.toNat=[]:=Zk (by omega);rw[hrr,h2,e1];rfl
 ·cases h
def zyQ(f0:List V->Int):zO:=fun
 |[.agg [.slc false 2 (.int .i64 0) a0]]=>some ([],.int .i64 (f0 a0))
 |_=>none
def zki(es:List V):Int:=IntKind.wrap .i64 ((es.length:Int)-1)
theorem zpJ:yM Tryz.prog 129 (zyQ zki):=by
 intro args ps r h hp;unfold zyQ at h;split at h
 ·rename_i a0;cases h;refine zH (B:=[]) (Bi:=[]) [0,1,2] Tryz.func129 rfl rfl zF zA ?_;intro L lp rr hL hr hf hlp
  conv=>cbv
  simp only[zo hL];exact hr.symm
 ·cases h
theorem IsP.isIs{es:List V}(h:IsP es):qU es:=by
 obtain⟨t,l,rfl,_,hl⟩:=h;exact⟨⟨_,rfl⟩,by simp;omega⟩
theorem zt1:∀(l:List Int) (d:Int),0<d->jk l 1 2000=true->∀i,i<l.length->0<(ZL d l).getD i 0
 |[],_,_,_,i,h=>by simp at h
 |t::l,d,hd,hw,i,h=>by
  simp only[jk,Jp,zh,yn,decide_eq_true_eq]at hw;have hg:=(zwr hd (show 0<t by omega)).1
  cases i with
  |zero=>simpa [ZL]using hg
  |succ i=>
   have:=zt1 l (jq d t) hg (by simpa [jk,yn]using hw.2) i (by simpa using h);simpa [ZL]using this
theorem zrq(a b:Bool):(bif a then b else false)=(a&&b):=by cases a<;>rfl
theorem zoP{xs:List Int}(h:uE xs=true):∃t l,xs=t::l/\1<=t/\t<=64/\jk xs 1 2000=true/\(∀i,i<xs.length->0<(dv xs).getD i 0):=by
 simp only[uE,zrq,zh]at h;obtain⟨⟨⟨⟨h1,h2⟩,h3⟩,h4⟩,h5⟩:=h
 cases xs with
 |nil=>simp at h1
 |cons t l=>
  simp only[qh,yn,zh,decide_eq_true_eq]at h2;refine⟨t,l,rfl,h2.1,h2.2,h4,fun i hi=>?_⟩;have e2:dv (t::l)=t::ZL t l:=by simp only[dv,ZL];rw[zhI (by omega)]
  rw[e2]
  cases i with
  |zero=>simp only[qh];omega
  |succ i=>
   have hw:jk l 1 2000=true:=by
    simp only[jk,Jp,zh]at h4;exact h4.2
   simpa using zt1 l t (by omega) hw i (by simpa using hi)
def zdP(f0:List V->List V)(q:List V->Prop):zO:=fun
 |[.agg [.slc false 2 (.int .i64 0) a0]]=>some ([q a0],.agg [.slc true 2 (.int .i64 0) (f0 a0)])
 |_=>none
def II(o:Bool)(xss:List (List Int)):List V:=xss.map fun xs=>.slc o 2 (.int .i64 0) (I xs)
def zbR(es:List V):List (List Int):=es.map fun v=>yD v.toL
theorem qB(o:Bool)(xss:List (List Int)):zbR (II o xss)=xss:=by
 simp only[zbR,II,ZN]
 conv=>rhs;rw[<-List.map_id xss]
 apply kS;intro xs _;simp[V.toL]
theorem ye(o:Bool)(xss:List (List Int)):(II o xss).length=xss.length:=by simp[II]
theorem qu(o:Bool)(xss:List (List Int))(i:Nat):(II o xss).getD i (.slc o 2 (.int .i64 0) [])=.slc o 2 (.int .i64 0) (I (xss.getD i [])):=by
 simp only[II,zd,zK];cases xss[i]? <;>rfl
theorem zd5(o:Bool)(xss:List (List Int))(i:Nat)(xs:List Int):(II o xss).set i (.slc o 2 (.int .i64 0) (I xs))=II o (xss.set i xs):=by simp[II,QW]
theorem jy(o:Bool)(xss:List (List Int)):V.frzs (II o xss)=II false xss:=by
 rw[V.frzs_eq];simp only[II,ZN];apply kS;intro xs _;simp[V.frz,zt]
theorem zuL(xss:List (List Int)):V.noFzs (II true xss)=true:=by
 rw[V.noFzs_eq];simp only[II,List.all_map,yc];intro xs _;simp[V.noFz]
theorem zcQ(o:Bool)(e:TypeId)(d:V)(es:List V):uM.toL (.slc o e d es)=es:=rfl
def zCJ(o:Bool)(es:List V):Prop:=∃xss,es=II o xss
theorem ziI(o o':Bool)(xs:List Int):vw uM tab o 20 24 (.slc o' 2 (.int .i64 0) (I xs))=some (.slc o 2 (.int .i64 0) (I xs)):=by cases o<;>rfl
theorem zky(xss:List (List Int))(i:Nat)(h:i<xss.length):xss.take (i+1)=xss.take i++[xss.getD i []]:=by
 rw[List.take_succ_eq_append_getElem h,zd,ze h];rfl
def bL:V->List V
 | .agg [.slc _ _ _ es]=>es
 |_=>[]
def BB(o:Bool)(xss:List (List Int)):List V:=xss.map fun xs=>.agg [.slc o 2 (.int .i64 0) (I xs)]
def zga(es:List V):List (List Int):=es.map fun v=>yD (bL v)
theorem jG(o:Bool)(xss:List (List Int)):zga (BB o xss)=xss:=by
 simp only[zga,BB,ZN]
 conv=>rhs;rw[<-List.map_id xss]
 apply kS;intro xs _;simp[bL]
theorem qw(o:Bool)(xss:List (List Int)):(BB o xss).length=xss.length:=by simp[BB]
theorem YT(o:Bool)(xss:List (List Int))(i:Nat):(BB o xss).getD i (.agg [.slc o 2 (.int .i64 0) []])=.agg [.slc o 2 (.int .i64 0) (I (xss.getD i []))]:=by
 simp only[BB,zd,zK];cases xss[i]? <;>rfl
theorem zFR(o:Bool)(xss:List (List Int))(i:Nat)(xs:List Int):(BB o xss).set i (.agg [.slc o 2 (.int .i64 0) (I xs)])=BB o (xss.set i xs):=by simp[BB,QW]
theorem ko(o:Bool)(xss:List (List Int)):V.frzs (BB o xss)=BB false xss:=by
 rw[V.frzs_eq];simp only[BB,ZN];apply kS;intro xs _;simp[V.frz,V.frzs,zt]
theorem zCW(xss:List (List Int)):V.noFzs (BB true xss)=true:=by
 rw[V.noFzs_eq];simp only[BB,List.all_map,yc];intro xs _;simp[V.noFz,V.noFzs]
theorem KY(o:Bool)(e:TypeId)(d:V)(es:List V):uM.fld (.agg [.slc o e d es]) 0=.slc o e d es:=rfl
theorem KK(o:Bool)(e:TypeId)(d:V)(es:List V):uM.toL (uM.fld (.agg [.slc o e d es]) 0)=es:=rfl
def zFA(o:Bool)(es:List V):Prop:=∃xss,es=BB o xss
theorem Yh(o o':Bool)(xs:List Int):vw uM tab o 20 49 (.agg [.slc o' 2 (.int .i64 0) (I xs)])=some (.agg [.slc o 2 (.int .i64 0) (I xs)]):=by cases o<;>rfl
end Go.Ax
namespace Go.Proofs.YtiepfglppnhpgaaGreat
open Go.ChangeShapes Go.WideShapes Go.ChangeAt Go.RowKit Go.Ax
theorem zGt:ownKnob Tryz.prog.godebug=none:=by kernel_rfl
theorem zD1:laidOutB Tryz.prog=true:=by kernel_rfl
def okK:TK->Bool
 | .oth=>false
 |_=>true
theorem zF0:∀t ti,jb tab t=some ti->ti.k≠.oth:=by
 have h:(tab.all fun x=>okK x.2.k)=true:=by kernel_rfl
 intro t ti ht hk;have:=yc.1 h _ (zna ht);rw[hk]at this;cases this
end Go.Proofs.YtiepfglppnhpgaaGreat
namespace Go.Ax
open Go.Proofs Go.Proofs.YtiepfglppnhpgaaGreat
theorem znU{a b:Bool}(ha:a=true)(hb:b=true):(a&&b)=true:=by rw[ha,hb];rfl
theorem zDN: Tryz.prog.mayEnter=true:=by kernel_rfl
theorem zE5:(({program:= "",sum:= "",func:= "",spec:= "" }:OpenClaim).lifted== Tryz.prog.liftsFinal)=true:=by kernel_rfl
theorem zE4:(Tryz.prog.make==some ({program:= "",sum:= "",func:= "",spec:= "" }:OpenClaim).make)=true:=by kernel_rfl
open Go.Proofs
theorem zfh:yM Tryz.prog 105 (kD same qU):=by
 intro args ps r h hp;unfold kD at h;split at h
 ·rename_i a0;cases h;obtain⟨⟨xs,hxs⟩,hlen⟩:qU a0:=(zp.1 hp).1;have hxl:a0.length=xs.length:=by rw[hxs,zg]
  refine zH (B:=[]) (Bi:=[]) [0,2] Tryz.func105 rfl rfl zF zA ?_;intro L lp rr hL hr hf hlp
  conv=>cbv
  simp only[zo hL,hxl];rw[hr,same];exact⟨by rw[hxs,zg5],by simp;omega,by rw[hxs];exact zeA xs,rfl⟩
 ·cases h
theorem zlY:yM Tryz.prog 85 (kD same qU):=by
 intro args ps r h hp;unfold kD at h;split at h
 ·rename_i a0;cases h;obtain⟨⟨xs,hxs⟩,hlen⟩:qU a0:=(zp.1 hp).1;have hxl:a0.length=xs.length:=by rw[hxs,zg]
  refine zH (B:=[]) (Bi:=[]) [0,2] Tryz.func85 rfl rfl zF zA ?_;intro L lp rr hL hr hf hlp
  conv=>cbv
  simp only[zo hL,hxl]
  have hnx:V.owneds a0=false/\(([]:List V).length:Int)+xs.length<=2147483647/\(∀x:V,x∈a0->x.solid=true)/\V.slc true 2 (.int .i64 0) ([]++a0)=rr:=by
   rw[hr,same];exact⟨by rw[hxs,zg5],by simp;omega,by rw[hxs];exact zeA xs,rfl⟩
  refine⟨fun h=>⟨fun _=>?_,fun _=>hnx⟩,fun h=>(by cases h),fun _=>hnx⟩
  have:xs=[]:=by
   simp only[beq_iff_eq]at h;exact List.eq_nil_of_length_eq_zero (by omega)
  rw[hr,same,hxs,this];rfl
 ·cases h
theorem Ke:yM Tryz.prog 36 (zdP same qU):=by
 intro args ps r h hp;unfold zdP at h;split at h
 ·rename_i a0;cases h;have hq:qU a0:=(zp.1 hp).1
  have q1:qU (V.frzs a0):=by
   obtain⟨⟨xs,hxs⟩,hl⟩:=hq;rw[hxs,zt,<-hxs];exact⟨⟨xs,hxs⟩,hl⟩
  have g1:V.frzs a0=a0:=by
   obtain⟨⟨xs,hxs⟩,hl⟩:=hq;rw[hxs,zt]
  generalize qO:same=jK,yu:qU=yP;refine zH (B:=[(85,kD jK yP)]) (Bi:=[]) [0,1,2] Tryz.func36 rfl rfl (by subst qO yu;exact(zm zlY zF)) zA ?_;intro L lp rr hL hr hf hlp
  conv=>cbv
  simp only[zo hL];subst qO yu;exact⟨q1,by rw[hr,g1]⟩
 ·cases h
theorem zfg:yM Tryz.prog 74 (zdP same qU):=by
 intro args ps r h hp;unfold zdP at h;split at h
 ·rename_i a0;cases h;have hq:qU a0:=(zp.1 hp).1
  have q1:qU (V.frzs a0):=by
   obtain⟨⟨xs,hxs⟩,hl⟩:=hq;rw[hxs,zt,<-hxs];exact⟨⟨xs,hxs⟩,hl⟩
  have g1:V.frzs a0=a0:=by
   obtain⟨⟨xs,hxs⟩,hl⟩:=hq;rw[hxs,zt]
  generalize qO:same=jK,yu:qU=yP;refine zH (B:=[(105,kD jK yP)]) (Bi:=[]) [0,1,2] Tryz.func74 rfl rfl (by subst qO yu;exact(zm zfh zF)) zA ?_;intro L lp rr hL hr hf hlp
  conv=>cbv
  simp only[zo hL];subst qO yu;exact⟨q1,by rw[hr,g1]⟩
 ·cases h
def zi1(f0:Int->List V)(q:Int->Prop):zO:=fun
 |[.int .i64 a0]=>some ([q a0],.slc true 24 (.slc true 2 (.int .i64 0) []) (f0 a0))
 |_=>none
def Jz(n:Int):List V:=II true (List.replicate n.toNat (List.replicate n.toNat 0))
def q_n(n:Int):Prop:=0<=n/\n<=2147483647
theorem zg6(o:Bool)(n:Nat)(xs:List Int):II o (List.replicate n xs)=List.replicate n (.slc o 2 (.int .i64 0) (I xs)):=by simp[II,List.map_replicate]
theorem Zv(o:Bool)(a b:List (List Int)):II o (a++b)=II o a++II o b:=by simp[II]
theorem zET{α:Type}(a b:List α)(x y:α)(i:Nat)(h:a.length=i):(a++x::b).set i y=a++y::b:=by
 rw[List.set_append_right _ _ (by omega),<-h,kF,List.set_cons_zero]
theorem zBx{α:Type}(n i:Nat)(h:i<n)(x y:α):(List.replicate i y++List.replicate (n-i) x).set i y=List.replicate (i+1) y++List.replicate (n-(i+1)) x:=by
 have:n-i=(n-(i+1))+1:=by omega
 rw[this,yI,zET _ _ _ _ _ (by simp)];rw[List.replicate_succ',zU];rfl
theorem zcn:yM Tryz.prog 38 (zi1 Jz q_n):=by
 intro args ps r h hp;unfold zi1 at h;split at h
 ·rename_i a0;cases h;obtain⟨h0,h1⟩:q_n a0:=(zp.1 hp).1;refine zH (B:=[]) (Bi:=[]) [0,2,3,4,8,9] Tryz.func38 rfl rfl zF zA ?_;intro L lp rr hL hr hf hlp
  conv=>cbv
  simp only[zo hL];refine⟨h0,by omega,h1,?_⟩;have hl0:((List.replicate a0.toNat (V.slc true 2 (.int .i64 0) [])).length:Int)=a0:=by rw[List.length_replicate];omega
  simp only[hl0]
  refine hlp (Int×List V) _ _ _ [0,3,8,9] (fun x=>[(wJ0 0 a0),(3,none,.val (.slc true 24 (.slc true 2 (.int .i64 0) []) x.2)),(wJ0 8 a0),(wJ0 9 x.1)])
   (fun x=>0<=x.1/\x.1<=a0/\x.2=II true (List.replicate x.1.toNat (List.replicate a0.toNat 0)++List.replicate (a0.toNat-x.1.toNat) [])) (fun x=>(a0-x.1).toNat) (0,_) (by subst hL;rfl) ⟨by simp,h0,by simp[zg6]⟩ ?_
  rintro⟨i,es⟩ ⟨i0,i1,hes⟩ hfx ag hag
  conv=>cbv
  simp only at i0 i1 hes;have hel:es.length=a0.toNat:=by rw[hes,ye];simp;omega
  simp only[zo hL,hel,decide_eq_true_eq,decide_eq_false_iff_not];refine⟨fun h=>⟨h0,by omega,h1,i0,by omega,by omega,?_,?_⟩,fun h=>?_⟩
  ·rw[hes,qu];exact .inl (ziI _ _ _)
  ·rw[zn (n:=i+1)];refine hag (i+1,_) ⟨by simp only;omega,by simp only;omega,?_⟩ (by simp only;omega);simp only[ya i0];rw[hes,JT,zd5,zBx _ _ (by omega)]
  ·have:i=a0:=(by omega);rw[hr,Jz,hes,this,kF];simp
 ·cases h
def YP(f0 f1:List V->List V)(f2:List V->Int)(q:List V->Prop):zO:=fun
 |[.agg [.slc false 2 (.int .i64 0) a0]]=>some ([q a0],.tup [.agg [.slc true 49 (.agg [.slc true 2 (.int .i64 0) []]) (f0 a0),.slc true 24 (.slc true 2 (.int .i64 0) []) (f1 a0)],.int .i64 (f2 a0)])
 |_=>none
def zdN(es:List V):List V:=BB true (bif uE (yD es)then[yD es]else[])
def zdM(es:List V):List V:=II true (bif uE (yD es)then[[0]]else[])
def zdL(es:List V):Int:=bif uE (yD es)then 0 else 1
theorem zjD:yM Tryz.prog 24 (YP zdN zdM zdL qU):=by
 intro args ps r h hp;unfold YP at h;split at h
 ·rename_i a0;cases h;obtain⟨⟨xs,hxs⟩,hlen⟩:qU a0:=(zp.1 hp).1;have hxl:a0.length=xs.length:=by rw[hxs,zg]
  have q1:qU (V.frzs a0):=by rw[hxs,zt,<-hxs];exact⟨⟨xs,hxs⟩,hlen⟩
  have g1:V.frzs a0=a0:=by rw[hxs,zt]
  have g2:kA a0=uE xs:=by rw[hxs,kA,zl]
  have g3:zdN a0=BB true (bif uE xs then[xs]else[])/\zdM a0=II true (bif uE xs then[[0]]else[])/\zdL a0=bif uE xs then 0 else 1:=by
   rw[hxs,zdN,zdM,zdL,zl];exact⟨rfl,rfl,rfl⟩
  generalize ji:kA=kw,yu:qU=yP,qO:same=jK;refine zH (B:=[(73,YY kw yP),(74,zdP jK yP)]) (Bi:=[]) [0,1,2,3] Tryz.func24 rfl rfl (by subst ji yu qO;exact(zm zaQ (zm zfg zF))) zA ?_;intro L lp rr hL hr hf hlp
  conv=>cbv
  simp only[zo hL,hxl];subst ji yu qO;simp only[g1,g2]at q1 ⊢;rw[hr,g3.1,g3.2.1,g3.2.2];refine⟨q1,fun h=>?_,fun h=>⟨q1,?_⟩⟩
  ·simp only[yK]at h;rw[h];rfl
  ·simp only[JH]at h;rw[h,same,hxs];rfl
 ·cases h
theorem zjJ:yM Tryz.prog 23 (YP zdN zdM zdL qU):=by
 intro args ps r h hp;unfold YP at h;split at h
 ·rename_i a0;cases h;obtain⟨⟨xs,hxs⟩,hlen⟩:qU a0:=(zp.1 hp).1;have hxl:a0.length=xs.length:=by rw[hxs,zg]
  have q1:qU (V.frzs a0):=by rw[hxs,zt,<-hxs];exact⟨⟨xs,hxs⟩,hlen⟩
  have g1:V.frzs a0=a0:=by rw[hxs,zt]
  have g2:kA a0=uE xs:=by rw[hxs,kA,zl]
  have g3:zdN a0=BB true (bif uE xs then[xs]else[])/\zdM a0=II true (bif uE xs then[[0]]else[])/\zdL a0=bif uE xs then 0 else 1:=by
   rw[hxs,zdN,zdM,zdL,zl];exact⟨rfl,rfl,rfl⟩
  generalize ji:kA=kw,yu:qU=yP,qO:same=jK,Zl:Jz=ZE,zd6:q_n=zhY;refine zH (B:=[(50,YY kw yP),(36,zdP jK yP),(38,zi1 ZE zhY)]) (Bi:=[]) [0,1,2,3] Tryz.func23 rfl rfl (by subst ji yu qO Zl zd6;exact(zm zdn (zm Ke (zm zcn zF)))) zA ?_;intro L lp rr hL hr hf hlp
  conv=>cbv
  simp only[zo hL,hxl];subst ji yu qO Zl zd6;simp only[g1,g2]at q1 ⊢;rw[hr,g3.1,g3.2.1,g3.2.2];refine⟨q1,fun h=>?_,fun h=>⟨q1,by unfold q_n;omega,?_⟩⟩
  ·simp only[yK]at h;rw[h];rfl
  ·simp only[JH]at h;rw[h,same,hxs];rfl
 ·cases h
theorem zfW{a:List V}(h:zFA false a):V.frzs a=a:=by
 obtain⟨l,rfl⟩:=h;rw[ko]
theorem zfV{a:List V}(h:zCJ false a):V.frzs a=a:=by
 obtain⟨l,rfl⟩:=h;rw[jy]
def yQ{α:Type}(f:Nat->α)(n:Nat):List α:=(List.range n).map f
theorem yi{α:Type}(f:Nat->α)(n:Nat):(yQ f n).length=n:=by simp[yQ]
theorem QF{α:Type}(f:Nat->α)(n:Nat):yQ f (n+1)=yQ f n++[f n]:=by simp[yQ,List.range_succ]
theorem jp{α:Type}(f:Nat->α)(n i:Nat)(d:α)(h:i<n):(yQ f n).getD i d=f i:=by
 simp[yQ,zd,zK,Jd h]
theorem kU{α:Type}(f:Nat->α)(n i:Nat)(h:i<n):(yQ f n)[i]? =some (f i):=by
 simp[yQ,Jd h]
theorem qE{α:Type}{f g:Nat->α}{n:Nat}(h:∀i,i<n->f i=g i):yQ f n=yQ g n:=by
 simp only[yQ];apply kS;intro i hi;exact h i (by simpa using hi)
theorem zBg{α:Type}(f:Nat->α)(n k:Nat)(h:k<=n):(yQ f n).take k=yQ f k:=by
 simp only[yQ,<-List.map_take,List.take_range,Nat.min_eq_left h]
abbrev W(n:Int):Int:=IntKind.wrap .i64 n
theorem zt7:∀(l:List Int),dec l=true->∀i,i+1<l.length->l.getD (i+1) 0<l.getD i 0
 |[],h,_,_=>by simp[dec]at h
 |[a],_,i,hi=>by simp at hi
 |a::b::l,h,i,hi=>by
  simp only[dec]at h
  cases hab:decide (a<=b)with
  |true=>rw[hab]at h;simp at h
  |false=>
   rw[hab]at h;simp only[decide_eq_false_iff_not]at hab
   cases i with
   |zero=>simp;omega
   |succ i=>simpa using zt7 (b::l) h i (by simpa using hi)
theorem zt8:∀(l:List Int),dec l=true->l≠[]/\l.getD (l.length-1) 0=1
 |[],h=>by simp[dec]at h
 |[a],h=>by simpa [dec]using h
 |a::b::l,h=>by
  simp only[dec]at h
  cases hab:decide (a<=b)with
  |true=>rw[hab]at h;simp at h
  |false=>
   rw[hab]at h;refine⟨by simp,?_⟩;have:=(zt8 (b::l) h).2;simpa using this
theorem zkn:∀(l:List Int),Ky l=true->∀i,i+1<l.length->l.getD i 0<l.getD (i+1) 0
 |[],_,_,hi=>by simp at hi
 |[a],_,i,hi=>by simp at hi
 |a::b::l,h,i,hi=>by
  simp only[Ky]at h
  cases hab:decide (b<=a)with
  |true=>rw[hab]at h;simp at h
  |false=>
   rw[hab]at h;simp only[decide_eq_false_iff_not]at hab
   cases i with
   |zero=>simp;omega
   |succ i=>simpa using zkn (b::l) h i (by simpa using hi)
structure Br (xs:List Int):Prop where
 is:uE xs=true
 pos:0<xs.length
 len:xs.length<=64
 low:∀i,i<xs.length->1<=xs.getD i 0
 high:∀i,i<xs.length->xs.getD i 0<=2000
 up:∀i,i+1<xs.length->xs.getD i 0<xs.getD (i+1) 0
 first:xs.getD 0 0<=64
 dlen:(dv xs).length=xs.length
 d0:(dv xs).getD 0 0=xs.getD 0 0
 dpos:∀i,i<xs.length->1<=(dv xs).getD i 0
 dhi:∀i,i<xs.length->(dv xs).getD i 0<=64
 dstep:∀i,i+1<xs.length->(dv xs).getD (i+1) 0<(dv xs).getD i 0
 dlast:(dv xs).getD (xs.length-1) 0=1
theorem zaK{xs:List Int}(h:uE xs=true):Br xs:=by
 obtain⟨t,l,hx,h1,h2,hw,hd⟩:=zoP h;have h':=h;simp only[uE,zrq,zh]at h';obtain⟨⟨⟨⟨_,_⟩,ha⟩,_⟩,hdec⟩:=h';have hdl:(dv xs).length=xs.length:=by rw[dv,znM]
 have hpos:0<xs.length:=by rw[hx];simp
 have hall:∀i,i<xs.length->1<=xs.getD i 0/\xs.getD i 0<=2000:=by
  intro i hi;simp only[jk,yc,yn,zh,decide_eq_true_eq]at hw;rw[zd,ze hi];exact hw _ (List.getElem_mem hi)
 have hd0:(dv xs).getD 0 0=xs.getD 0 0:=by rw[hx];simp[dv,ZL,zhI (show 0<t by omega)]
 have hst:∀i,i+1<xs.length->(dv xs).getD (i+1) 0<(dv xs).getD i 0:=fun i hi=>zt7 _ hdec i (by omega);have hx0:xs.getD 0 0=t:=by rw[hx];rfl
 have hhi:∀i:Nat,i<xs.length->(dv xs).getD i 0<=64-i:=by
  intro i
  induction i with
  |zero=>intro _;rw[hd0,hx0];omega
  |succ i ih=>
   intro hi;have:=ih (by omega);have:=hst i hi;omega
 have hlast:=(zt8 _ hdec).2;rw[hdl]at hlast;refine⟨h,hpos,?_,fun i hi=>(hall i hi).1,fun i hi=>(hall i hi).2,fun i hi=>zkn _ ha i hi,by rw[hx0];omega,hdl,hd0,fun i hi=>hd i hi,fun i hi=>by have:=hhi i hi;omega,hst,hlast⟩;have:=hhi (xs.length-1) (by omega);rw[hlast]at this;omega
def Qt(es:List V):Prop:=∃xs,es=I xs/\Br xs
theorem Qt.isP{es:List V}(h:Qt es):IsP es:=by
 obtain⟨xs,rfl,hb⟩:=h;obtain⟨t,l,rfl,h1,_⟩:=zoP hb.is;exact⟨t,l,rfl,by omega,by have:=hb.len;simp at this;omega⟩
theorem Qt.isIs{es:List V}(h:Qt es):qU es:=h.isP.isIs
def zyT(f:List V->List V)(q:List V->Prop):zO:=fun
 |[.agg [.slc false 2 (.int .i64 0) a0]]=>some ([q a0],.slc true 2 (.int .i64 0) (f a0))
 |_=>none
def zyY(es:List V):Prop:=∃xss,es=II false xss/\xss.length<=2147483647/\∀xs∈xss,xs.length<=2147483647
theorem zyY.isII{es:List V}(h:zyY es):zCJ false es:=by
 obtain⟨x,h,_⟩:=h;exact⟨x,h⟩
theorem Yo.frz{es:List V}(h:Yo es):V.frzs es=es:=by
 obtain⟨x,h⟩:=h;rw[h,zt]
abbrev gI(l:List Int)(i:Int):Int:=l.getD i.toNat 0
def zFU(a b:Int)(l:List Int):List Int:=l.map fun x=>if x=b then a else x
def zbT(n:Nat):List Int:=yQ (fun i=>(i:Int)) n
theorem ztq(n:Nat):(zbT n).length=n:=yi _ _
theorem zB5(n i:Nat)(h:i<n):(zbT n).getD i 0=i:=jp _ _ _ _ h
def e0(e:List Int):Int:=e.getD 0 0
def e1(e:List Int):Int:=e.getD 1 0
def zFP(n:Nat)(e:List Int):Prop:=e.length=2/\0<=e0 e/\e0 e<n/\0<=e1 e/\e1 e<n
def lo(lab e:List Int):Int:=min (gI lab (e0 e)) (gI lab (e1 e))
def hi(lab e:List Int):Int:=max (gI lab (e0 e)) (gI lab (e1 e))
structure LabOk (n:Nat) (lab:List Int):Prop where
 len:lab.length=n
 nn:∀i,i<n->0<=lab.getD i 0
 le:∀i,i<n->lab.getD i 0<=i
 idem:∀i,i<n->gI lab (lab.getD i 0)=lab.getD i 0
def acy:List Int->List (List Int)->Bool
 |_,[]=>true
 |lab,e::es=> !(gI lab (e0 e)==gI lab (e1 e))&&acy (zFU (gI lab (e0 e)) (gI lab (e1 e)) lab) es
def zDc:List Int->Int->Int
 |[],m=>m
 |x::l,m=>zDc l (max m x)
def zGu:List Int->Int
 |[]=>0
 |x::l=>zDc l x
def zDf:List Int->List Int->Bool
 |x::a,y::b=>bif !(x==y)then decide (x<y)else zDf a b
 |[],_::_=>true
 |_,[]=>false
def zGz(n:Nat)(p:Option (List Int))(e:List Int):Bool:=e.length==2&&decide (0<=e0 e)&&decide (e0 e<e1 e)&&decide (e1 e<n)&&(match p with
 |none=>true
 |some x=>zDf x e)
def zr4(n:Nat):Option (List Int)->List (List Int)->Bool
 |_,[]=>true
 |p,e::es=>zGz n p e&&zr4 n (some e) es
def zGv(ws:List Int)(es:List (List Int)):Bool:=decide (1<=ws.length)&&decide (ws.length<=40)&&jk ws (-1000) 1000&&zr4 ws.length none es&&acy (zbT ws.length) es
theorem zEo(a b:Bool):(bif a then b else false)=(a&&b):=by cases a<;>rfl
theorem zFr(a b:Bool):(bif a then true else b)=(a||b):=by cases a<;>rfl
def zjM(a b:List V):Prop:=Yo a/\Yo b
def YH(f:List V->List V->Bool)(q:List V->List V->Prop):zO:=fun
 |[.slc false 2 (.int .i64 0) a0,.slc false 2 (.int .i64 0) a1]=>some ([q a0 a1],.bool (f a0 a1))
 |_=>none
def zyO(f:List V->Int)(q:List V->Prop):zO:=fun
 |[.slc false 2 (.int .i64 0) a0]=>some ([q a0],.int .i64 (f a0))
 |_=>none
def zBC(a:List V):Prop:=Yo a/\a≠[]
theorem zEK:Int.toNat 0=0:=rfl
theorem zEJ:Int.toNat 1=1:=rfl
theorem zcF{xss:List (List Int)}{i:Nat}(h:i<xss.length):xss.getD i []∈xss:=by
 rw[zd,ze h];exact List.getElem_mem _
structure Gr (ws:List Int) (es:List (List Int)):Prop where
 is:zGv ws es=true
 n1:1<=ws.length
 n2:ws.length<=40
 wlo:∀i,i<ws.length->-1000<=ws.getD i 0/\ws.getD i 0<=1000
 eok:zr4 ws.length none es=true
 ed:∀e∈es,zFP ws.length e
 lt:∀e∈es,e0 e<e1 e
 el:es.length<ws.length
 acyc:acy (zbT ws.length) es=true
def zF2(es:List (List Int))(v:Int):List Int:=(es.filter fun e=>e1 e==v).map e0
def zF1(es:List (List Int))(v:Int):List Int:=(es.filter fun e=>e0 e==v).map e1
def zcE(es:List (List Int))(v:Int):List Int:=zF2 es v++zF1 es v
def adj(es:List (List Int))(i j:Nat):Bool:=es.any fun e=>(e0 e==i&&e1 e==j)||(e0 e==j&&e1 e==i)
def ent(ws:List Int)(es:List (List Int))(i j:Nat):Int:=if i=j then ws.getD i 0 else if adj es i j=true then 1 else 0
def mrow(ws:List Int)(es:List (List Int))(i:Nat):List Int:=yQ (ent ws es i) ws.length
theorem zDx{α:Type}(f:Nat->α)(n i:Nat)(y:α):(yQ f n).set i y=yQ (fun j=>if j=i then y else f j) n:=by
 apply List.ext_getElem?;intro j;by_cases hj:j<n
 ·rw[kU _ _ _ hj,List.getElem?_set];by_cases hij:i=j
  ·subst hij;rw[if_pos rfl,if_pos (by rw[yi];exact hj),if_pos rfl]
  ·rw[if_neg hij,kU _ _ _ hj,if_neg (fun h=>hij h.symm)]
 ·rw[zy (by rw[List.length_set,yi];omega),zy (by rw[yi];omega)]
def stp(a b:Nat):List (Nat×Nat):=if _h:0<b then(a/b,b)::stp b (a%b)else[]
termination_by b
decreasing_by exact JB _ (by assumption)
theorem zpw{a b:Nat}(h:0<b):stp a b=(a/b,b)::stp b (a%b):=by rw[stp,dif_pos h]
theorem zjy(a:Nat):stp a 0=[]:=by rw[stp,dif_neg (by omega)]
def ex(a b:Nat):List Nat:=(stp a b).flatMap fun p=>List.replicate p.1 p.2
theorem uS{a b:Nat}(h:0<b):ex a b=List.replicate (a/b) b++ex b (a%b):=by rw[ex,zpw h,List.flatMap_cons,ex]
theorem zf0(a:Nat):ex a 0=[]:=by rw[ex,zjy];rfl
def hd1(l:List Nat):Nat:=l.getD 0 1
def Fol(b:Nat)(l:List Nat):Prop:=hd1 l<=b/\(hd1 l<b->∃c r,b=c*hd1 l+r/\r<hd1 l/\1<=c/\(∀t,t<c->l.getD t 1=hd1 l)/\(0<r->l.getD c 1=r))
def GL:List Nat->Prop
 |[]=>True
 |x::l=>1<=x/\Fol x l/\GL l
theorem zu7{b:Nat}{l:List Nat}(hb:1<=b)(hf:Fol b l)(hg:GL l):∀q,GL (List.replicate q b++l)/\Fol b (List.replicate q b++l)
 |0=>⟨by simpa using hg,by simpa using hf⟩
 |q+1=>by
  obtain⟨h1,h2⟩:=zu7 hb hf hg q;rw[yI,List.cons_append];refine⟨⟨hb,h2,h1⟩,?_⟩;have:hd1 (b::(List.replicate q b++l))=b:=rfl;exact⟨by rw[this];exact zw _,fun h=>by rw[this]at h;exact absurd h (zam _)⟩
theorem zgH(q b:Nat)(l:List Nat)(t d:Nat):(List.replicate q b++l).getD t d=if t<q then b else l.getD (t-q) d:=by
 by_cases h:t<q
 ·rw[if_pos h,zd,List.getElem?_append_left (by simpa using h)];simp[h]
 ·rw[if_neg h,zd,yr (by simpa using h)];simp
theorem zF8{b r:Nat}(hr:0<r)(h:r<=b)(l:List Nat):(ex b r++l).getD 0 1=r:=by
 rw[uS hr,zU,zgH,if_pos (Nat.div_pos h hr)]
theorem zwv:∀(n b r:Nat) (l:List Nat),b<=n->r<b->GL l->Fol (Nat.gcd b r) l->GL (ex b r++l)/\Fol b (ex b r++l)
 |0,b,r,l,hn,hr,_,_=>by omega
 |n+1,b,r,l,hn,hr,hg,hf=>by
  by_cases h0:0<r
  ·have h1:b%r<r:=JB _ h0;have h2:Nat.gcd r (b%r)=Nat.gcd b r:=(by rw[Zi b r,Nat.gcd_rec r b,Zi]);obtain⟨i1,i2⟩:=zwv n r (b%r) l (by omega) h1 hg (by rw[h2];exact hf);obtain⟨j1,_⟩:=zu7 (by omega) i2 i1 (b/r);have hq:0<b/r:=Nat.div_pos (by omega) h0;rw[uS h0,zU];have hh:hd1 (List.replicate (b/r) r++(ex r (b%r)++l))=r:=(by rw[hd1,zgH,if_pos hq]);refine⟨j1,by rw[hh];omega,fun _=>⟨b/r,b%r,?_,by rw[hh];exact h1,hq,fun t ht=>by rw[hh,zgH,if_pos ht],fun hrr=>?_⟩⟩
   ·rw[hh,Nat.mul_comm];exact(Nat.div_add_mod b r).symm
   ·rw[zgH,if_neg (zam _),kF];exact zF8 hrr (by omega) l
  ·obtain rfl:r=0:=(by omega);rw[zf0,List.nil_append];rw[Nat.gcd_zero_right]at hf;exact⟨hg,hf⟩
def zdT:List (Nat×Nat)->List Nat
 |[]=>[]
 |(k,e)::l=>ex k e++zdT l
def zy3:Nat->List (Nat×Nat)->Prop
 |g,[]=>g=1
 |g,(k,e)::l=>e=g/\0<e/\zy3 (Nat.gcd e k) l
theorem zm3:∀(l:List (Nat×Nat)) (g:Nat),zy3 g l->GL (zdT l)/\Fol g (zdT l)
 |[],g,h=>by
  have:g=1:=h;subst this;exact⟨trivial,zw _,fun h=>absurd h (zam _)⟩
 |(k,e)::l,g,h=>by
  obtain⟨rfl,h1,h2⟩:=h;obtain⟨i1,i2⟩:=zm3 l _ h2;have h3:Nat.gcd e (k%e)=Nat.gcd e k:=by rw[Zi e (k%e),<-Nat.gcd_rec]
  obtain⟨j1,j2⟩:=zwv e e (k%e) (zdT l) (zw _) (JB _ h1) i1 (by rw[h3];exact i2);have:=zu7 h1 j2 j1 (k/e);rw[zdT,uS h1,zU];exact this
theorem zr9:∀(l:List Nat),GL l->∀i,1<=l.getD i 1/\l.getD (i+1) 1<=l.getD i 1/\(l.getD (i+1) 1<l.getD i 1->∃c r,l.getD i 1=c*l.getD (i+1) 1+r/\r<l.getD (i+1) 1/\1<=c/\(∀t,t<c->l.getD (i+1+t) 1=l.getD (i+1) 1)/\(0<r->l.getD (i+1+c) 1=r))
 |[],_,i=>⟨by simp,by simp,fun h=>by simp at h⟩
 |x::l,h,0=>by
  obtain⟨h1,⟨h2,h3⟩,h4⟩:=h;refine⟨h1,h2,fun h=>?_⟩;obtain⟨c,r,e1,e2,e3,e4,e5⟩:=h3 h;refine⟨c,r,e1,e2,e3,fun t ht=>?_,fun hr=>?_⟩
  ·have:=e4 t ht;rw[show 0+1+t=t+1 by omega,yT];exact this
  ·rw[show 0+1+c=c+1 by omega,yT];exact e5 hr
 |x::l,h,i+1=>by
  have:=zr9 l h.2.2 i;rw[show i+1+1=(i+1)+1 from rfl];simp only[yT];refine⟨this.1,this.2.1,fun h=>?_⟩;obtain⟨c,r,e1,e2,e3,e4,e5⟩:=this.2.2 h;refine⟨c,r,e1,e2,e3,fun t ht=>?_,fun hr=>?_⟩
  ·rw[show i+1+1+t=(i+1+t)+1 by omega,yT];exact e4 t ht
  ·rw[show i+1+1+c=(i+1+c)+1 by omega,yT];exact e5 hr
def qL(M:Nat->Nat)(i:Nat):Nat->Nat
 |0=>0
 |k+1=>qL M i k+M (i+1+k)
structure GoodM (M:Nat->Nat):Prop where
 pos:∀i,1<=M i
 fall:∀i,M (i+1)<=M i
 drop:∀i,M (i+1)<M i->∃c r,M i=c*M (i+1)+r/\r<M (i+1)/\1<=c/\(∀t,t<c->M (i+1+t)=M (i+1))/\(0<r->M (i+1+c)=r)
theorem zB9{l:List Nat}(h:GL l):GoodM (fun i=>l.getD i 1):=
 ⟨fun i=>(zr9 l h i).1,fun i=>(zr9 l h i).2.1,fun i=>(zr9 l h i).2.2⟩
theorem Js{M:Nat->Nat}(h:GoodM M)(i:Nat):∀{k k':Nat},k<k'->qL M i k<qL M i k'
 |k,0,hk=>by omega
 |k,k'+1,hk=>by
  have:=h.pos (i+1+k');simp only[qL];by_cases hkk:k=k'
  ·subst hkk;omega
  ·have:=Js h i (k:=k) (k':=k') (by omega);omega
theorem znc{M:Nat->Nat}{i v:Nat}:∀k,(∀t,t<k->M (i+1+t)=v)->qL M i k=k*v
 |0,_=>by simp[qL]
 |k+1,h=>by
  simp only[qL,znc k (fun t ht=>h t (by omega)),h k (by omega),Nat.add_mul];omega
def JQ(M:Nat->Nat)(i j:Nat):Prop:=qL M i (j-i)<=M i
theorem zsN{M:Nat->Nat}(h:GoodM M)(i:Nat):JQ M i (i+1):=by
 have:=h.fall i;rw[JQ,show i+1-i=1 by omega];simpa [qL]using this
theorem zhy{M:Nat->Nat}(h:GoodM M){i i' j:Nat}(h1:i<i')(h2:i'+1<j)(hp:JQ M i j):¬JQ M i' j:=by
 intro hp';unfold JQ at hp hp';have two:∀x,qL M x 2=M (x+1)+M (x+1+1):=fun x=>by simp[qL]
 have one:∀x,qL M x 1=M (x+1):=fun x=>by simp[qL]
 have hlt:M (i+1)<M i:=by
  have a1:=Js h i (k:=2) (k':=j-i) (by omega);have a2:=h.pos (i+1+1);rw[two]at a1;omega
 obtain⟨c,r,e1,e2,e3,e4,e5⟩:=h.drop i hlt;have hc:=znc c e4;have hc1:qL M i (c+1)=qL M i c+M (i+1+c):=rfl;have hc2:qL M i (c+2)=qL M i (c+1)+M (i+1+(c+1)):=rfl
 have hj:j-i<=c+1:=by
  by_cases hh:j-i<=c+1
  ·exact hh
  ·exfalso
   have a3:qL M i (c+2)<=qL M i (j-i):=by
    by_cases hx:c+2=j-i
    ·rw[hx];exact zw _
    ·exact Nat.le_of_lt (Js h i (by omega))
   have a4:=h.pos (i+1+(c+1));have a5:=h.pos (i+1+c);by_cases hr:0<r
   ·have:=e5 hr;omega
   ·omega
 have b1:M i'=M (i+1):=by
  have:=e4 (i'-i-1) (by omega)
  rwa [show i+1+(i'-i-1)=i' by omega]at this
 have b2:M (i'+1)=M (i+1):=by
  have:=e4 (i'-i) (by omega)
  rwa [show i+1+(i'-i)=i'+1 by omega]at this
 have a1:=Js h i' (k:=1) (k':=j-i') (by omega);rw[one]at a1;omega
end Go.Ax
