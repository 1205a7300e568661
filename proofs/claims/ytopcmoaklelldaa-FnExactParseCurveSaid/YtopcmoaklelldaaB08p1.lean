import Derived.Test.YtopcmoaklelldaaB07p1
/-
 Lists that are built in order;divisors of branches,ratios,generators;polar invariants. No conditions but those of the contracts.
-/
set_option linter.all false
namespace Go.Ax
open Go.Proofs
def tab' {α:Type} (f:Nat→α) (n:Nat):List α:=(List.range n).map f
theorem tab_len {α:Type} (f:Nat→α) (n:Nat):(tab' f n).length=n:=by simp [tab']
theorem tab_succ {α:Type} (f:Nat→α) (n:Nat):tab' f (n+1)=tab' f n++[f n]:=by simp [tab',List.range_succ]
theorem tab_get {α:Type} (f:Nat→α) (n i:Nat) (d:α) (h:i<n):(tab' f n).getD i d=f i:=by
 simp [tab',List.getD_eq_getElem?_getD,List.getElem?_map,List.getElem?_range h]
theorem tab_get? {α:Type} (f:Nat→α) (n i:Nat) (h:i<n):(tab' f n)[i]? =some (f i):=by
 simp [tab',List.getElem?_range h]
theorem tab_congr {α:Type} {f g:Nat→α} {n:Nat} (h:∀i,i<n→f i=g i):tab' f n=tab' g n:=by
 simp only [tab']
 apply List.map_congr_left
 intro i hi
 exact h i (by simpa using hi)
theorem take_tab {α:Type} (f:Nat→α) (n k:Nat) (h:k≤n):(tab' f n).take k=tab' f k:=by
 simp only [tab',←List.map_take,List.take_range,Nat.min_eq_left h]
abbrev W (n:Int):Int:=IntKind.wrap .i64 n
theorem dec_step:∀(l:List Int),dec l=true→∀i,i+1<l.length→l.getD (i+1) 0<l.getD i 0
 |[],h,_,_=>by simp [dec] at h
 |[a],_,i,hi=>by simp at hi
 |a::b::l,h,i,hi=>by
  simp only [dec] at h
  cases hab:decide (a≤b) with
  |true=>rw [hab] at h;simp at h
  |false=>
   rw [hab] at h
   simp only [decide_eq_false_iff_not] at hab
   cases i with
   |zero=>simp;omega
   |succ i=>simpa using dec_step (b::l) h i (by simpa using hi)
theorem dec_last:∀(l:List Int),dec l=true→l≠[]∧l.getD (l.length-1) 0=1
 |[],h=>by simp [dec] at h
 |[a],h=>by simpa [dec] using h
 |a::b::l,h=>by
  simp only [dec] at h
  cases hab:decide (a≤b) with
  |true=>rw [hab] at h;simp at h
  |false=>
   rw [hab] at h
   refine ⟨by simp,?_⟩
   have:=(dec_last (b::l) h).2
   simpa using this
theorem asc_step:∀(l:List Int),asc l=true→∀i,i+1<l.length→l.getD i 0<l.getD (i+1) 0
 |[],_,_,hi=>by simp at hi
 |[a],_,i,hi=>by simp at hi
 |a::b::l,h,i,hi=>by
  simp only [asc] at h
  cases hab:decide (b≤a) with
  |true=>rw [hab] at h;simp at h
  |false=>
   rw [hab] at h
   simp only [decide_eq_false_iff_not] at hab
   cases i with
   |zero=>simp;omega
   |succ i=>simpa using asc_step (b::l) h i (by simpa using hi)
structure Br (xs:List Int):Prop where
 is:isBr xs=true
 pos:0<xs.length
 len:xs.length≤64
 low:∀i,i<xs.length→1≤xs.getD i 0
 high:∀i,i<xs.length→xs.getD i 0≤2000
 up:∀i,i+1<xs.length→xs.getD i 0<xs.getD (i+1) 0
 first:xs.getD 0 0≤64
 dlen:(dv xs).length=xs.length
 d0:(dv xs).getD 0 0=xs.getD 0 0
 dpos:∀i,i<xs.length→1≤(dv xs).getD i 0
 dhi:∀i,i<xs.length→(dv xs).getD i 0≤64
 dstep:∀i,i+1<xs.length→(dv xs).getD (i+1) 0<(dv xs).getD i 0
 dlast:(dv xs).getD (xs.length-1) 0=1
theorem br_of {xs:List Int} (h:isBr xs=true):Br xs:=by
 obtain ⟨t,l,hx,h1,h2,hw,hd⟩:=isBr_facts h
 have h':=h
 simp only [isBr,cond_and',Bool.and_eq_true] at h'
 obtain ⟨⟨⟨⟨_,_⟩,ha⟩,_⟩,hdec⟩:=h'
 have hdl:(dv xs).length=xs.length:=by rw [dv,dvGo_len]
 have hpos:0<xs.length:=by rw [hx];simp
 have hall:∀i,i<xs.length→1≤xs.getD i 0∧xs.getD i 0≤2000:=by
  intro i hi
  simp only [within,List.all_eq_true,inRange,Bool.and_eq_true,decide_eq_true_eq] at hw
  rw [List.getD_eq_getElem?_getD,List.getElem?_eq_getElem hi]
  exact hw _ (List.getElem_mem hi)
 have hd0:(dv xs).getD 0 0=xs.getD 0 0:=by rw [hx];simp [dv,dvGo,gcdW_zero (show 0<t by omega)]
 have hst:∀i,i+1<xs.length→(dv xs).getD (i+1) 0<(dv xs).getD i 0:=fun i hi=>dec_step _ hdec i (by omega)
 have hx0:xs.getD 0 0=t:=by rw [hx];rfl
 have hhi:∀i:Nat,i<xs.length→(dv xs).getD i 0≤64-i:=by
  intro i
  induction i with
  |zero=>intro _;rw [hd0,hx0];omega
  |succ i ih=>
   intro hi
   have:=ih (by omega)
   have:=hst i hi
   omega
 have hlast:=(dec_last _ hdec).2
 rw [hdl] at hlast
 refine ⟨h,hpos,?_,fun i hi=>(hall i hi).1,fun i hi=>(hall i hi).2,fun i hi=>asc_step _ ha i hi,by rw [hx0];omega,hdl,hd0,fun i hi=>hd i hi,fun i hi=>by have:=hhi i hi;omega,hst,hlast⟩
 have:=hhi (xs.length-1) (by omega)
 rw [hlast] at this
 omega
def IsBr (es:List V):Prop:=∃xs,es=I xs∧Br xs
theorem IsBr.isP {es:List V} (h:IsBr es):IsP es:=by
 obtain ⟨xs,rfl,hb⟩:=h
 obtain ⟨t,l,rfl,h1,_⟩:=isBr_facts hb.is
 exact ⟨t,l,rfl,by omega,by have:=hb.len;simp at this;omega⟩
theorem IsBr.isIs {es:List V} (h:IsBr es):IsIs es:=h.isP.isIs
def c_B_l (f:List V→List V) (q:List V→Prop):Contract:=fun
 |[.agg [.slc false 2 (.int .i64 0) a0]]=>some ([q a0],.slc true 2 (.int .i64 0) (f a0))
 |_=>none
end Go.Ax
set_option linter.all false
namespace Go.Ax
open Go.Proofs
end Go.Ax
set_option linter.all false
namespace Go.Ax
open Go.Proofs
def IsIIs (es:List V):Prop:=∃xss,es=II false xss∧xss.length≤2147483647∧∀xs∈xss,xs.length≤2147483647
end Go.Ax
set_option linter.all false
namespace Go.Ax
open Go.Proofs
abbrev gI (l:List Int) (i:Int):Int:=l.getD i.toNat 0
def relab (a b:Int) (l:List Int):List Int:=l.map fun x=>if x=b then a else x
def iota (n:Nat):List Int:=tab' (fun i=>(i:Int)) n
def e0 (e:List Int):Int:=e.getD 0 0
def e1 (e:List Int):Int:=e.getD 1 0
def EdIn (n:Nat) (e:List Int):Prop:=e.length=2∧0≤e0 e∧e0 e<n∧0≤e1 e∧e1 e<n
def lo (lab e:List Int):Int:=min (gI lab (e0 e)) (gI lab (e1 e))
def hi (lab e:List Int):Int:=max (gI lab (e0 e)) (gI lab (e1 e))
structure LabOk (n:Nat) (lab:List Int):Prop where
 len:lab.length=n
 nn:∀i,i<n→0≤lab.getD i 0
 le:∀i,i<n→lab.getD i 0≤i
 idem:∀i,i<n→gI lab (lab.getD i 0)=lab.getD i 0
def acy:List Int→List (List Int)→Bool
 |_,[]=>true
 |lab,e::es=> !(gI lab (e0 e)==gI lab (e1 e))&&acy (relab (gI lab (e0 e)) (gI lab (e1 e)) lab) es
def lexLt:List Int→List Int→Bool
 |x::a,y::b=>bif !(x==y) then decide (x<y) else lexLt a b
 |[],_::_=>true
 |_,[]=>false
def edOk (n:Nat) (p:Option (List Int)) (e:List Int):Bool:=e.length==2&&decide (0≤e0 e)&&decide (e0 e<e1 e)&&decide (e1 e<n)&&(match p with
 |none=>true
 |some x=>lexLt x e)
def edsOk (n:Nat):Option (List Int)→List (List Int)→Bool
 |_,[]=>true
 |p,e::es=>edOk n p e&&edsOk n (some e) es
def isGr (ws:List Int) (es:List (List Int)):Bool:=decide (1≤ws.length)&&decide (ws.length≤40)&&within ws (-1000) 1000&&edsOk ws.length none es&&acy (iota ws.length) es
end Go.Ax
set_option linter.all false
namespace Go.Ax
open Go.Proofs
theorem bif_and (a b:Bool):(bif a then b else false)=(a&&b):=by cases a<;>rfl
theorem bif_or (a b:Bool):(bif a then true else b)=(a||b):=by cases a<;>rfl
def q_II (a b:List V):Prop:=IsI a∧IsI b
def c_ll_b (f:List V→List V→Bool) (q:List V→List V→Prop):Contract:=fun
 |[.slc false 2 (.int .i64 0) a0,.slc false 2 (.int .i64 0) a1]=>some ([q a0 a1],.bool (f a0 a1))
 |_=>none
end Go.Ax
set_option linter.all false
namespace Go.Ax
open Go.Proofs
theorem toNat0:Int.toNat 0=0:=rfl
theorem toNat1:Int.toNat 1=1:=rfl
theorem mem_getD {xss:List (List Int)} {i:Nat} (h:i<xss.length):xss.getD i []∈xss:=by
 rw [List.getD_eq_getElem?_getD,List.getElem?_eq_getElem h]
 exact List.getElem_mem _
end Go.Ax
set_option linter.all false
namespace Go.Ax
open Go.Proofs
end Go.Ax
