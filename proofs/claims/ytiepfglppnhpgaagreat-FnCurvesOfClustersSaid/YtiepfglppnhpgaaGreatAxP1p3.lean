/-
  AX, AxP1: parts A to L of the abstract executor: values, environments, steps, regions, loops, functions. No conditions.
-/
import Derived.Laws.World
import Derived.Laws.Sem
import Derived.Laws.Cells
import Derived.Laws.AppendOwn
import Derived.Laws.Rows
import Derived.Laws.IdiomCopy
import Derived.Deep.Heap
import Derived.Deep.Draws
import Derived.Calls
import GoSem.Claims
import Derived.Laws.Entries
import Derived.Laws.Strings
import Derived.Laws.Slices
import Derived.Laws.BytesString
import Derived.Laws.BytesArg
import Derived.Laws.Tables
import Derived.Laws.MakeOwn
import Derived.Below
set_option linter.all false
open Array renaming getD_eq_getD_getElem?->zD,getElem?_eq_none->Yz,getElem?_setIfInBounds_ne->ZC,getElem?_toList->jO,length_toList->jm
open Bool renaming and_eq_true->zh,or_eq_false_iff->jh
open List renaming append_assoc->zU,cons_append->yf,drop_append_of_le_length->uC,drop_of_length_le->ke,ext_getElem?->yB,getD_eq_getElem?_getD->zd,getElem?_append->Qq,getElem?_cons_succ->Jk,getElem?_drop->zZ,getElem?_eq_getElem->ze,getElem?_eq_none->zy,getElem?_eq_some_iff->zq,getElem?_map->zK,getElem?_replicate->jQ,getElem?_set_ne->ZO,getElem?_take->zY,length_append->zr,length_cons->zj,length_drop->yF,length_take->zV,map_take->zfq,mem_of_getElem?->yo,mem_replicate->JD,take_append_of_le_length->jT,take_of_length_le->zB
open Nat renaming add_mul->jj,add_zero->yk,le_refl->zw,le_trans->je,lt_of_lt_of_le->za9,lt_or_gt_of_ne->YI,mul_le_mul_right->qb,zero_add->jB
open Option renaming bind_some->jd,isSome_iff_exists->za7,map_eq_some_iff->zP,map_some->qy
open Option.some renaming injEq->za
open Prod.mk renaming injEq->zb
namespace Go.Ax
inductive V where
 |int (k:IntKind) (n:Int)
 |bool (b:Bool)
 |str (s:ByteArray)
 |slc (o:Bool) (e:TypeId) (d:V) (es:List V)
 |agg (fs:List V)
 |box (e:TypeId) (c:V)
 |tup (fs:List V)
 |fn (f:FuncId) (caps:List V)
 |hole (n:Nat)
 deriving Inhabited
def V.isBox:V->Bool
 | .box _ _=>true
 |_=>false
def V.nilG:V:=.box 0 (.hole 9)
def V.fb? :V->Option V
 | .fn k [c]=>match k==1000000000 with
   |true=>some c
   |false=>none
 |_=>none
theorem zwu{k:Nat}{l:List V}(h:k≠1000000000):(V.fn k l).fb? =none:=by
 unfold V.fb?;split
 ·rename_i k c he;simp only[V.fn.injEq]at he;rw[show(k==1000000000)=false by rw[beq_eq_false_iff_ne];rw[<-he.1];exact h]
 ·rfl
mutual
def V.size:V->Nat
 | .agg fs=>V.sizes fs
 | .hole n=>n
 |_=>1
def V.sizes:List V->Nat
 |[]=>0
 |v::vs=>v.size+V.sizes vs
end
mutual
def V.owned:V->Bool
 | .slc o _ _ _=>o
 | .box _ _=>true
 | .agg fs=>V.owneds fs
 | .tup fs=>V.owneds fs
 |_=>false
def V.owneds:List V->Bool
 |[]=>false
 |v::vs=>v.owned||V.owneds vs
end
mutual
def V.frz:V->V
 | .slc _ e d es=>.slc false e d.frz (V.frzs es)
 | .agg fs=>.agg (V.frzs fs)
 | .tup fs=>.tup (V.frzs fs)
 | .box _ c=>.fn 1000000000 [c.frz]
 | .int k n=>.int k n
 | .bool b=>.bool b
 | .str s=>.str s
 | .fn f c=>.fn f c
 | .hole n=>.hole n
def V.frzs:List V->List V
 |[]=>[]
 |v::vs=>v.frz::V.frzs vs
end
mutual
def V.noFz:V->Bool
 | .slc o _ _ es=>(o||es.isEmpty)&&V.noFzs es
 | .agg fs=>V.noFzs fs
 | .tup fs=>V.noFzs fs
 | .box _ c=>c.noFz
 | .fn _ caps=>caps.isEmpty
 |_=>true
def V.noFzs:List V->Bool
 |[]=>true
 |v::vs=>v.noFz&&V.noFzs vs
end
theorem V.frzs_eq(es:List V):V.frzs es=es.map V.frz:=by
 induction es with
 |nil=>simp[V.frzs]
 |cons x l ih=>simp[V.frzs,ih]
theorem V.noFzs_eq(es:List V):V.noFzs es=es.all V.noFz:=by
 induction es with
 |nil=>simp[V.noFzs]
 |cons x l ih=>simp[V.noFzs,ih]
theorem V.owneds_eq(es:List V):V.owneds es=es.any V.owned:=by
 induction es with
 |nil=>simp[V.owneds]
 |cons x l ih=>simp[V.owneds,ih]
theorem V.sizes_append(a b:List V):V.sizes (a++b)=V.sizes a+V.sizes b:=by
 induction a with
 |nil=>simp[V.sizes]
 |cons x l ih=>simp[V.sizes,ih];omega
def V.offs(fs:List V)(i:Nat):Nat:=V.sizes (fs.take i)
theorem V.offs_succ_le{fs:List V}{i:Nat}{x:V}(h:fs[i]? =some x):V.offs fs i+x.size<=V.sizes fs:=by
 have hd:fs=fs.take i++x::fs.drop (i+1):=by
  have h1:i<fs.length:=(zq.1 h).1;have h2:fs[i]=x:=(zq.1 h).2;rw[<-h2,<-List.drop_eq_getElem_cons h1,List.take_append_drop]
 conv=>rhs;rw[hd]
 rw[V.sizes_append];simp[V.offs,V.sizes]
theorem V.offs_sep{fs:List V}{i j:Nat}{x:V}(h:fs[i]? =some x)(hij:i<j):V.offs fs i+x.size<=V.offs fs j:=by
 have h1:(fs.take j)[i]? =some x:=by rw[zY];simp[hij,h]
 have:=V.offs_succ_le h1;have e:V.offs (fs.take j) i=V.offs fs i:=by unfold V.offs;rw[List.take_take];congr 1;congr 1;omega
 rw[e]at this;exact this
def V.reg:V->List Value->Value->Prop
 | .agg _,cs,v=>v=.agg cs.toArray
 | .hole _,_,_=>True
 |_,cs,v=>v=cs.headD undef
def qK(w:World)(b off:Nat)(cs:List Value):Prop:=∀j v,cs[j]? =some v->w.cell? ⟨b,off+j,none⟩=some v
theorem qK.part{w:World}{b off:Nat}{cs:List Value}(h:qK w b off cs)(i n:Nat):qK w b (off+i) ((cs.drop i).take n):=by
 intro j v hj;rw[zY]at hj;split at hj
 ·rw[zZ]at hj;have:=h _ _ hj;rw[show off+i+j=off+(i+j)from by omega];exact this
 ·cases hj
theorem qK.of_block{w w':World}{b off:Nat}{cs:List Value}(h:qK w b off cs)(hb:w'.heap[b]? =w.heap[b]?):qK w' b off cs:=by
 intro j v hj;rw[World.cell?_of_block (a:=⟨b,off+j,none⟩) hb];exact h j v hj
section
variable (cz:TypeId->Nat)(w:World)(F:Nat->Prop)
inductive Rep:V->List Value->(Nat->Prop)->Prop
 |int (k:IntKind) (n:Int) (O:Nat->Prop):Rep (.int k n) [.int k n] O
 |bool (b:Bool) (O:Nat->Prop):Rep (.bool b) [.bool b] O
 |str (s:ByteArray) (O:Nat->Prop):Rep (.str s) [.string s] O
 |hole (n:Nat) (cs:List Value) (O:Nat->Prop) (hn:cs.length=n):Rep (.hole n) cs O
 |fz0 (e:TypeId) (d:V) (a:Option Addr) (cap:Nat) (O:Nat->Prop):Rep (.slc false e d []) [.slice a 0 cap] O
 |fz (e:TypeId) (d:V) (es:List V) (b off len cap:Nat) (cs:Nat->List Value) (O:Nat->Prop) (hl:len=es.length) (hc:es.length<=cap) (hm:cap<=maxLen) (hF:F b)
  (hcs:∀i,i<es.length->(cs i).length=cz e/\qK w b (off+i*cz e) (cs i))
  (hr:∀i x,es[i]? =some x->Rep x (cs i) (fun _=>False)):Rep (.slc false e d es) [.slice (some ⟨b,off,none⟩) len cap] O
 |own0 (e:TypeId) (d:V) (O:Nat->Prop):Rep (.slc true e d []) [.slice none 0 0] O
 |own (e:TypeId) (d:V) (es:List V) (b len cap:Nat) (cur:Array Value) (cs:Nat->List Value) (Os:Nat->Nat->Prop) (O:Nat->Prop)
  (hb:w.heap[b]? =some (.cells cur e (0,0))) (hsz:cur.size=cap*cz e) (hl:len=es.length) (hc:es.length<=cap) (hm:cap<=maxLen) (hO:O b)
  (hOs:∀i x,Os i x->O x/\x≠b) (hdis:∀i j x,i≠j->Os i x->¬Os j x)
  (hcs:∀i,i<es.length->(cs i).length=cz e/\qK w b (i*cz e) (cs i))
  (hr:∀i x,es[i]? =some x->Rep x (cs i) (Os i)) (hd9:d.isBox=true->es≠[]):Rep (.slc true e d es) [.slice (some ⟨b,0,none⟩) len cap] O
 |agg (fs:List V) (cs:List Value) (Os:Nat->Nat->Prop) (O:Nat->Prop) (hn:cs.length=V.sizes fs)
  (hOs:∀i x,Os i x->O x) (hdis:∀i j x,i≠j->Os i x->¬Os j x)
  (hr:∀i x,fs[i]? =some x->Rep x ((cs.drop (V.offs fs i)).take x.size) (Os i)):Rep (.agg fs) cs O
 |box (e:TypeId) (c:V) (b:Nat) (cur:Array Value) (cs:List Value) (Oc O:Nat->Prop) (hb:w.heap[b]? =some (.cells cur e (0,0))) (hcs:cur.toList=cs) (hO:O b)
  (hOs:∀x,Oc x->O x/\x≠b) (hr:Rep c cs Oc):Rep (.box e c) [.pointer (some ⟨b,0,none⟩)] O
 |tup (fs:List V) (vs:Array Value) (cs:Nat->List Value) (Os:Nat->Nat->Prop) (O:Nat->Prop) (hn:vs.size=fs.length)
  (hOs:∀i x,Os i x->O x) (hdis:∀i j x,i≠j->Os i x->¬Os j x)
  (hv:∀i (x:V),fs[i]? =some x->x.reg (cs i) (vs.getD i undef))
  (hr:∀i x,fs[i]? =some x->Rep x (cs i) (Os i)):Rep (.tup fs) [.tuple vs] O
 |fb (c:V) (b o:Nat) (cs:List Value) (O:Nat->Prop) (hF:F b) (hc:qK w b o cs) (hr:Rep c cs (fun _=>False)):Rep (.fn 1000000000 [c]) [.pointer (some ⟨b,o,none⟩)] O
 |fn (f:FuncId) (caps:List V) (vs:Array Value) (cs:Nat->List Value) (O:Nat->Prop) (hn:vs.size=caps.length)
  (hv:∀i (x:V),caps[i]? =some x->x.reg (cs i) (vs.getD i undef))
  (hr:∀i x,caps[i]? =some x->Rep x (cs i) (fun _=>False)) (hk:(V.fn f caps).fb? =none):Rep (.fn f caps) [.func (.func f) #[] vs] O
end
section
variable {cz:TypeId->Nat}{w w':World}{F F':Nat->Prop}{x:V}{cs:List Value}{O O':Nat->Prop}
theorem zk3(h:Rep cz w F x cs (fun _=>False)):x.isBox=false:=by
 cases h with
 |box _ _ _ _ _ _ _ _ _ hO _ _=>exact hO.elim
 |_=>rfl
theorem Rep.length(h:Rep cz w F x cs O):cs.length=x.size:=by
 cases h<;>simp_all [V.size]
theorem Rep.mono(h:Rep cz w F x cs O):∀{F' O':Nat->Prop},(∀b,F b->F' b)->(∀b,O b->O' b)->Rep cz w F' x cs O':=by
 induction h with
 |int k n O=>intros;exact .int ..
 |bool b O=>intros;exact .bool ..
 |str s O=>intros;exact .str ..
 |hole n cs O hn=>intros;exact .hole _ _ _ hn
 |fz0 e d a cap O=>intros;exact .fz0 ..
 |fz e d es b off len cap cs O hl hc hm hF hcs hr ih=>intro F' O' h1 h2;exact .fz e d es b off len cap cs O' hl hc hm (h1 _ hF) hcs (fun i x hx=>ih i x hx h1 (fun _ h=>h))
 |own0 e d O=>intros;exact .own0 ..
 |own e d es b len cap cur cs Os O hb hsz hl hc hm hO hOs hdis hcs hr hd9 ih=>
  intro F' O' h1 h2;exact .own e d es b len cap cur cs Os O' hb hsz hl hc hm (h2 _ hO) (fun i x hx=>⟨h2 _ (hOs i x hx).1,(hOs i x hx).2⟩) hdis hcs (fun i x hx=>ih i x hx h1 (fun _ h=>h)) hd9
 |agg fs cs Os O hn hOs hdis hr ih=>intro F' O' h1 h2;exact .agg fs cs Os O' hn (fun i x hx=>h2 _ (hOs i x hx)) hdis (fun i x hx=>ih i x hx h1 (fun _ h=>h))
 |box e c b cur cs Oc O hb hcs hO hOs hr ih=>intro F' O' h1 h2;exact .box e c b cur cs Oc O' hb hcs (h2 _ hO) (fun x hx=>⟨h2 _ (hOs x hx).1,(hOs x hx).2⟩) (ih h1 (fun _ h=>h))
 |tup fs vs cs Os O hn hOs hdis hv hr ih=>intro F' O' h1 h2;exact .tup fs vs cs Os O' hn (fun i x hx=>h2 _ (hOs i x hx)) hdis hv (fun i x hx=>ih i x hx h1 (fun _ h=>h))
 |fb c b o cs O hF hc hr ih=>intro F' O' h1 h2;exact .fb c b o cs O' (h1 _ hF) hc (ih h1 (fun _ h=>h))
 |fn f caps vs cs O hn hv hr hk ih=>intro F' O' h1 h2;exact .fn f caps vs cs O' hn hv (fun i x hx=>ih i x hx h1 (fun _ h=>h)) hk
theorem Rep.world(h:Rep cz w F x cs O):(∀b,F b\/O b->w'.heap[b]? =w.heap[b]?)->Rep cz w' F x cs O:=by
 induction h with
 |int k n O=>intros;exact .int ..
 |bool b O=>intros;exact .bool ..
 |str s O=>intros;exact .str ..
 |hole n cs O hn=>intros;exact .hole _ _ _ hn
 |fz0 e d a cap O=>intros;exact .fz0 ..
 |fz e d es b off len cap cs O hl hc hm hF hcs hr ih=>
  intro H;exact .fz e d es b off len cap cs O hl hc hm hF (fun i hi=>⟨(hcs i hi).1,(hcs i hi).2.of_block (H b (.inl hF))⟩) (fun i x hx=>ih i x hx (fun b hb=>H b (hb.imp id False.elim)))
 |own0 e d O=>intros;exact .own0 ..
 |own e d es b len cap cur cs Os O hb hsz hl hc hm hO hOs hdis hcs hr hd9 ih=>
  intro H
  exact .own e d es b len cap cur cs Os O ((H b (.inr hO)).trans hb) hsz hl hc hm hO hOs hdis (fun i hi=>⟨(hcs i hi).1,(hcs i hi).2.of_block (H b (.inr hO))⟩)
   (fun i x hx=>ih i x hx (fun b hb=>H b (hb.imp id (fun h=>(hOs i b h).1)))) hd9
 |agg fs cs Os O hn hOs hdis hr ih=>intro H;exact .agg fs cs Os O hn hOs hdis (fun i x hx=>ih i x hx (fun b hb=>H b (hb.imp id (fun h=>hOs i b h))))
 |box e c b cur cs Oc O hb hcs hO hOs hr ih=>intro H;exact .box e c b cur cs Oc O ((H b (.inr hO)).trans hb) hcs hO hOs (ih (fun b hb=>H b (hb.imp id (fun h=>(hOs b h).1))))
 |tup fs vs cs Os O hn hOs hdis hv hr ih=>intro H;exact .tup fs vs cs Os O hn hOs hdis hv (fun i x hx=>ih i x hx (fun b hb=>H b (hb.imp id (fun h=>hOs i b h))))
 |fb c b o cs O hF hc hr ih=>intro H;exact .fb c b o cs O hF (hc.of_block (H b (.inl hF))) (ih (fun b hb=>H b (hb.imp id False.elim)))
 |fn f caps vs cs O hn hv hr hk ih=>intro H;exact .fn f caps vs cs O hn hv (fun i x hx=>ih i x hx (fun b hb=>H b (hb.imp id False.elim))) hk
mutual
theorem V.frz_size:∀x:V,x.frz.size=x.size
 | .int _ _=>rfl
 | .bool _=>rfl
 | .str _=>rfl
 | .slc _ _ _ _=>by simp[V.frz,V.size]
 | .agg fs=>by simp only[V.frz,V.size];exact V.frzs_size fs
 | .box _ _=>by simp[V.frz,V.size]
 | .tup _=>by simp[V.frz,V.size]
 | .fn _ _=>rfl
 | .hole _=>rfl
theorem V.frzs_size:∀fs:List V,V.sizes (V.frzs fs)=V.sizes fs
 |[]=>rfl
 |x::l=>by simp only[V.frzs,V.sizes];rw[V.frz_size x,V.frzs_size l]
end
theorem V.frz_reg{x:V}{cs:List Value}{v:Value}(h:x.reg cs v):x.frz.reg cs v:=by
 cases x<;>simp_all [V.frz,V.reg]
theorem V.offs_frzs(fs:List V)(i:Nat):V.offs (V.frzs fs) i=V.offs fs i:=by
 unfold V.offs;rw[V.frzs_eq,<-zfq,<-V.frzs_eq,V.frzs_size]
theorem Rep.frz(h:Rep cz w F x cs O):Rep cz w (fun b=>F b\/O b) x.frz cs (fun _=>False):=by
 induction h with
 |int k n O=>exact .int ..
 |bool b O=>exact .bool ..
 |str s O=>exact .str ..
 |hole n cs O hn=>exact .hole _ _ _ hn
 |fz0 e d a cap O=>simp only[V.frz,V.frzs];exact .fz0 ..
 |fz e d es b off len cap cs O hl hc hm hF hcs hr ih=>
  simp only[V.frz];refine .fz e _ _ b off len cap cs _ (by simp[V.frzs_eq,hl]) (by simpa [V.frzs_eq]using hc) hm (.inl hF) (fun i hi=>hcs i (by simpa [V.frzs_eq]using hi)) (fun i x hx=>?_);rw[V.frzs_eq,zK]at hx
  cases hy:es[i]? with
  |none=>simp[hy]at hx
  |some y=>
   simp[hy]at hx;subst hx;exact(ih i y hy).mono (fun b h=>h.imp id False.elim) (fun _ h=>h)
 |own0 e d O=>simp only[V.frz,V.frzs];exact .fz0 ..
 |own e d es b len cap cur cs Os O hb hsz hl hc hm hO hOs hdis hcs hr hd9 ih=>
  simp only[V.frz];refine .fz e _ _ b 0 len cap cs _ (by simp[V.frzs_eq,hl]) (by simpa [V.frzs_eq]using hc) hm (.inr hO) (fun i hi=>?_) (fun i x hx=>?_)
  ·have:=hcs i (by simpa [V.frzs_eq]using hi);simpa using this
  rw[V.frzs_eq,zK]at hx
  cases hy:es[i]? with
  |none=>simp[hy]at hx
  |some y=>
   simp[hy]at hx;subst hx;exact(ih i y hy).mono (fun b h=>h.imp id (fun h=>(hOs i b h).1)) (fun _ h=>h)
 |agg fs cs Os O hn hOs hdis hr ih=>
  simp only[V.frz];refine .agg _ cs (fun _ _=>False) _ (by rw[V.frzs_size];exact hn) (fun _ _ h=>h) (fun _ _ _ _ h=>h.elim) (fun i x hx=>?_);rw[V.frzs_eq,zK]at hx
  cases hy:fs[i]? with
  |none=>simp[hy]at hx
  |some y=>
   simp[hy]at hx;subst hx;rw[V.offs_frzs,V.frz_size];exact(ih i y hy).mono (fun b h=>h.imp id (fun h=>hOs i b h)) (fun _ h=>h)
 |box e c b cur cs Oc O hb hcs hO hOs hr ih=>
  simp only[V.frz];refine .fb _ b 0 cs _ (.inr hO) (fun j v hj=>?_) (ih.mono (fun b h=>h.imp id (fun h=>(hOs b h).1)) (fun _ h=>h));subst hcs;simp at hj;simp[World.cell?,hb,hj]
 |tup fs vs cs Os O hn hOs hdis hv hr ih=>
  simp only[V.frz];refine .tup _ vs cs (fun _ _=>False) _ (by rw[V.frzs_eq];simpa using hn) (fun _ _ h=>h) (fun _ _ _ _ h=>h.elim) (fun i x hx=>?_) (fun i x hx=>?_)
  all_goals
   rw[V.frzs_eq,zK]at hx
   cases hy:fs[i]? with
   |none=>simp[hy]at hx
   |some y=>
    simp[hy]at hx;subst hx
    first
     |exact V.frz_reg (hv i _ hy)
     |exact(ih i _ hy).mono (fun b h=>h.imp id (fun h=>hOs i b h)) (fun _ h=>h)
 |fb c b o cs O hF hc hr ih=>exact(Rep.fb c b o cs _ hF hc hr).mono (fun b h=>.inl h) (fun _ h=>h)
 |fn f caps vs cs O hn hv hr hk ih=>exact(Rep.fn f caps vs cs _ hn hv hr hk).mono (fun b h=>.inl h) (fun _ h=>h)
theorem Rep.noFz(h:Rep cz w F x cs O):∀{F':Nat->Prop},x.noFz=true->Rep cz w F' x cs O:=by
 induction h with
 |int k n O=>intros;exact .int ..
 |bool b O=>intros;exact .bool ..
 |str s O=>intros;exact .str ..
 |hole n cs O hn=>intros;exact .hole _ _ _ hn
 |fz0 e d a cap O=>intros;exact .fz0 ..
 |fz e d es b off len cap cs O hl hc hm hF hcs hr ih=>
  intro F' hx;simp[V.noFz]at hx;obtain⟨h1,_⟩:=hx;subst h1;simp at hl;subst hl;exact .fz0 ..
 |own0 e d O=>intros;exact .own0 ..
 |own e d es b len cap cur cs Os O hb hsz hl hc hm hO hOs hdis hcs hr hd9 ih=>
  intro F' hx;simp[V.noFz,V.noFzs_eq]at hx;exact .own e d es b len cap cur cs Os O hb hsz hl hc hm hO hOs hdis hcs (fun i x hi=>ih i x hi (hx x (yo hi))) hd9
 |agg fs cs Os O hn hOs hdis hr ih=>
  intro F' hx;simp[V.noFz,V.noFzs_eq]at hx;exact .agg fs cs Os O hn hOs hdis (fun i x hi=>ih i x hi (hx x (yo hi)))
 |box e c b cur cs Oc O hb hcs hO hOs hr ih=>intro F' hx;exact .box e c b cur cs Oc O hb hcs hO hOs (ih (by simpa [V.noFz]using hx))
 |tup fs vs cs Os O hn hOs hdis hv hr ih=>
  intro F' hx;simp[V.noFz,V.noFzs_eq]at hx;exact .tup fs vs cs Os O hn hOs hdis hv (fun i x hi=>ih i x hi (hx x (yo hi)))
 |fb c b o cs O hF hc hr ih=>intro F' hx;simp[V.noFz]at hx
 |fn f caps vs cs O hn hv hr hk ih=>
  intro F' hx;simp[V.noFz]at hx;subst hx;exact .fn f [] vs cs O hn hv (fun i x hi=>by simp at hi) hk
end
end Go.Ax
namespace Go.Ax
def V.kid:V->Nat->V
 | .slc _ _ d es,i=>es.getD i d
 | .agg fs,i=>fs.getD i (.hole 0)
 | .tup fs,i=>fs.getD i (.hole 0)
 | .box _ c,_=>c
 |_,_=>.hole 0
def V.hasKid:V->Nat->Prop
 | .slc o _ _ es,i=>o=true/\i<es.length
 | .agg fs,i=>i<fs.length
 | .box _ _,_=>True
 |_,_=>False
def V.setKid:V->Nat->V->V
 | .slc o e d es,i,y=>.slc o e d (es.set i y)
 | .agg fs,i,y=>.agg (fs.set i y)
 | .tup fs,i,y=>.tup (fs.set i y)
 | .box e _,_,y=>.box e y
 |x,_,_=>x
def V.at:V->List Nat->V
 |x,[]=>x
 |x,i::p=>(x.kid i).at p
def V.okp:V->List Nat->Prop
 |_,[]=>True
 |x,i::p=>x.hasKid i/\(x.kid i).okp p
def V.okv:V->List Nat->Prop
 | .tup fs,i::p=>i<fs.length/\(fs.getD i (.hole 0)).okp p
 |x,p=>x.okp p
def V.upd:V->List Nat->V->V
 |_,[],y=>y
 |x,i::p,y=>x.setKid i ((x.kid i).upd p y)
section
variable (cz:TypeId->Nat)(w:World)
def locM:List Nat->V->Nat->Nat->Option (Nat×Nat)
 |[],_,b,o=>some (b,o)
 |i::p,.slc _ e d es,b,o=>match w.cell? ⟨b,o,none⟩with
  |some (.slice (some a) _ _)=>locM p (es.getD i d) a.block (i*cz e)
  |_=>none
 |i::p,.agg fs,b,o=>locM p (fs.getD i (.hole 0)) b (o+V.offs fs i)
 |_::p,.box _ c,b,o=>match w.cell? ⟨b,o,none⟩with
  |some (.pointer (some a))=>locM p c a.block 0
  |_=>none
 |_,_,_,_=>none
def locV:List Nat->V->Value->Option (Nat×Nat)
 |i::p,.slc _ e d es,.slice (some a) _ _=>locM cz w p (es.getD i d) a.block (i*cz e)
 |_::p,.box _ c,.pointer (some a)=>locM cz w p c a.block 0
 |_,_,_=>none
end
theorem V.sizes_set{fs:List V}{i:Nat}{x y:V}(h:fs[i]? =some x)(hs:y.size=x.size):V.sizes (fs.set i y)=V.sizes fs:=by
 induction fs generalizing i with
 |nil=>simp at h
 |cons a l ih=>
  cases i with
  |zero=>simp at h;subst h;simp[V.sizes,hs]
  |succ i=>simp at h;simp[V.sizes,ih h]
theorem V.offs_set{fs:List V}{i:Nat}{x y:V}(j:Nat)(h:fs[i]? =some x)(hs:y.size=x.size):V.offs (fs.set i y) j=V.offs fs j:=by
 unfold V.offs;rw[List.take_set];by_cases hij:i<j
 ·exact V.sizes_set (x:=x) (by rw[zY];simp[hij,h]) hs
 ·rw[List.set_eq_of_length_le];simp;omega
theorem jR{es:List V}{i:Nat}{x d:V}(h:es[i]? =some x):es.getD i d=x:=by
 rw[zd,h];rfl
theorem yH{es:List V}{i:Nat}(d:V)(h:i<es.length):es[i]? =some (es.getD i d):=by
 rw[ze h,zd,ze h];rfl
theorem V.size_upd:∀(p:List Nat) (x y:V),x.okp p->y.size=(x.at p).size->(x.upd p y).size=x.size
 |[],x,y,_,h=>h
 |i::p,x,y,hok,h=>by
  have hk:=V.size_upd p (x.kid i) y hok.2 h;simp only[V.upd]
  cases x with
  |agg fs=>
   have hlt:i<fs.length:=hok.1;simp only[V.setKid,V.size];exact V.sizes_set (yH (.hole 0) hlt) hk
  |_=>simp[V.setKid,V.size]
theorem V.set_some{es:List V}{i j:Nat}{y x:V}(h:(es.set i y)[j]? =some x):(j=i/\x=y)\/(j≠i/\es[j]? =some x):=by
 by_cases hij:i=j
 ·subst hij;rw[List.getElem?_set_self']at h;cases hh:es[i]? <;>simp[hh]at h;exact .inl ⟨rfl,h.symm⟩
 ·rw[ZO hij]at h;exact .inr ⟨fun e=>hij e.symm,h⟩
section
variable {cz:TypeId->Nat}{w:World}{F:Nat->Prop}
theorem Rep.takeM:∀(p:List Nat) (x:V) (b0 o0:Nat) (cs:List Value) (O:Nat->Prop),Rep cz w F x cs O->qK w b0 o0 cs->x.okp p->
 ∃b o cy Oy,locM cz w p x b0 o0=some (b,o)/\qK w b o cy/\Rep cz w F (x.at p) cy Oy/\(∀z,Oy z->O z)/\
  Rep cz w F (x.upd p (.hole (x.at p).size)) cs (fun z=>O z/\¬Oy z)/\((b=b0/\o0<=o/\o+(x.at p).size<=o0+x.size)\/(O b/\¬Oy b))
 |[],x,b0,o0,cs,O,h,hc,_=>⟨b0,o0,cs,O,rfl,hc,h,fun _ h=>h,.hole _ _ _ h.length,.inl ⟨rfl,zw _,zw _⟩⟩
 |i::p,x,b0,o0,cs,O,h,hc,hok=>by
  cases h with
  |int=>exact hok.1.elim
  |bool=>exact hok.1.elim
  |str=>exact hok.1.elim
  |hole=>exact hok.1.elim
  |fz0=>have:=hok.1;simp[V.hasKid]at this
  |fz=>have:=hok.1;simp[V.hasKid]at this
  |own0=>have:=hok.1;simp[V.hasKid]at this
  |tup fs vs cs' Os O hn hOs hdis hv hr=>exact hok.1.elim
  |fb=>exact hok.1.elim
  |fn=>exact hok.1.elim
  |own e d es b len cap cur cs' Os O hb hsz hl hcap hm hO hOs hdis hcs hr hd9=>
   have hlt:i<es.length:=hok.1.2;have hi:=yH d hlt;obtain⟨b',o',cy,Oy,h1,h2,h3,h4,h5,h6⟩:=Rep.takeM p (es.getD i d) b (i*cz e) (cs' i) (Os i) (hr i _ hi) (hcs i hlt).2 hok.2;refine⟨b',o',cy,Oy,?_,h2,h3,fun z hz=>(hOs i z (h4 z hz)).1,?_,.inr ?_⟩
   ·simp only[locM];have hh:=hc 0 _ rfl;simp only[yk]at hh;rw[hh];exact h1
   ·simp only[V.upd,V.setKid,V.kid,V.at]
    refine .own e d _ b len cap cur cs' (fun j z=>if j=i then Os i z/\¬Oy z else Os j z) _ hb hsz (by simpa using hl) (by simpa using hcap) hm ⟨hO,fun hz=>(hOs i _ (h4 _ hz)).2 rfl⟩
     (fun j z hz=>?_) (fun j k z hjk hz=>?_) (fun j hj=>hcs j (by simpa using hj)) (fun j y hy=>?_) (fun h e=>hd9 h (by simpa using e))
    ·split at hz
     ·exact⟨⟨(hOs i z hz.1).1,hz.2⟩,(hOs i z hz.1).2⟩
     ·rename_i hji;exact⟨⟨(hOs j z hz).1,fun hz'=>hdis j i z hji hz (h4 z hz')⟩,(hOs j z hz).2⟩
    ·split at hz
     ·rename_i hji;subst hji;rw[if_neg (Ne.symm hjk)];exact hdis j k z hjk hz.1
     ·split
      ·rename_i hji hki;subst hki;exact fun hh=>hdis j k z hjk hz hh.1
      ·exact hdis j k z hjk hz
    ·rcases V.set_some hy with⟨rfl,rfl⟩|⟨hne,hy'⟩
     ·simp only[if_true];exact h5
     ·simp only[hne,if_false];exact hr j y hy'
   ·rcases h6 with⟨rfl,_,_⟩|⟨h6,h7⟩
    ·exact⟨hO,fun hz=>(hOs i _ (h4 _ hz)).2 rfl⟩
    ·exact⟨(hOs i _ h6).1,h7⟩
  |agg fs cs Os O hn hOs hdis hr=>
   have hlt:i<fs.length:=hok.1;have hi:=yH (.hole 0) hlt;obtain⟨b',o',cy,Oy,h1,h2,h3,h4,h5,h6⟩:=Rep.takeM p (fs.getD i (.hole 0)) b0 (o0+V.offs fs i) _ (Os i) (hr i _ hi) (hc.part _ _) hok.2;have hsz:((fs.getD i (.hole 0)).upd p (.hole ((fs.getD i (.hole 0)).at p).size)).size=(fs.getD i (.hole 0)).size:=V.size_upd p _ _ hok.2 rfl;refine⟨b',o',cy,Oy,h1,h2,h3,fun z hz=>hOs i z (h4 z hz),?_,?_⟩
   ·simp only[V.upd,V.setKid,V.kid,V.at];refine .agg _ cs (fun j z=>if j=i then Os i z/\¬Oy z else Os j z) _ (by rw[V.sizes_set hi hsz];exact hn) (fun j z hz=>?_) (fun j k z hjk hz=>?_) (fun j y hy=>?_)
    ·split at hz
     ·exact⟨hOs i z hz.1,hz.2⟩
     ·rename_i hji;exact⟨hOs j z hz,fun hz'=>hdis j i z hji hz (h4 z hz')⟩
    ·split at hz
     ·rename_i hji;subst hji;rw[if_neg (Ne.symm hjk)];exact hdis j k z hjk hz.1
     ·split
      ·rename_i hji hki;subst hki;exact fun hh=>hdis j k z hjk hz hh.1
      ·exact hdis j k z hjk hz
    ·rw[V.offs_set j hi hsz];rcases V.set_some hy with⟨rfl,rfl⟩|⟨hne,hy'⟩
     ·simp only[if_true];rw[hsz];exact h5
     ·simp only[hne,if_false];exact hr j y hy'
   ·rcases h6 with⟨rfl,h7,h8⟩|⟨h6,h7⟩
    ·have:=V.offs_succ_le hi;refine .inl ⟨rfl,by omega,?_⟩;simp only[V.at,V.kid,V.size];omega
    ·exact .inr ⟨hOs i _ h6,h7⟩
  |box e c b cur cs' Oc O hb hcs hO hOs hr=>
   have hcells:qK w b 0 cs':=by
    intro j v hj;subst hcs;simp at hj;simp[World.cell?,hb,hj]
   obtain⟨b',o',cy,Oy,h1,h2,h3,h4,h5,h6⟩:=Rep.takeM p c b 0 cs' Oc hr hcells hok.2;refine⟨b',o',cy,Oy,?_,h2,h3,fun z hz=>(hOs z (h4 z hz)).1,?_,.inr ?_⟩
   ·simp only[locM];have hh:=hc 0 _ rfl;simp only[yk]at hh;rw[hh];exact h1
   ·simp only[V.upd,V.setKid,V.kid,V.at];exact .box e _ b cur cs' (fun z=>Oc z/\¬Oy z) _ hb hcs ⟨hO,fun hz=>(hOs _ (h4 _ hz)).2 rfl⟩ (fun z hz=>⟨⟨(hOs z hz.1).1,hz.2⟩,(hOs z hz.1).2⟩) h5
   ·rcases h6 with⟨rfl,_,_⟩|⟨h6,h7⟩
    ·exact⟨hO,fun hz=>(hOs _ (h4 _ hz)).2 rfl⟩
    ·exact⟨(hOs _ h6).1,h7⟩
structure Upd (w w':World) (b o n:Nat):Prop where
 other:∀k,k≠b->w'.heap[k]? =w.heap[k]?
 same:∀cur e fr,w.heap[b]? =some (.cells cur e fr)->∃cur',w'.heap[b]? =some (.cells cur' e fr)/\cur'.size=cur.size
 cell:∀j,j<o\/o+n<=j->w'.cell? ⟨b,j,none⟩=w.cell? ⟨b,j,none⟩
theorem Upd.cells{w w':World}{b o n b1 o1:Nat}{cs:List Value}(h:Upd w w' b o n)(hc:qK w b1 o1 cs)(hd:b1≠b\/o1+cs.length<=o\/o+n<=o1):qK w' b1 o1 cs:=by
 by_cases hb:b1=b
 ·subst hb;have hd':=hd.resolve_left (by simp);intro j v hj;have hjl:=(zq.1 hj).1;rw[h.cell _ (by omega)];exact hc j v hj
 ·exact hc.of_block (h.other _ hb)
theorem YD{a c d:List Value}(j:Nat):(a++c++d)[j]? =if j<a.length then a[j]? else if j<a.length+c.length then c[j-a.length]? else d[j-a.length-c.length]? :=by
 rw[zU,Qq];split
 ·rfl
 ·rw[Qq];by_cases h:j-a.length<c.length
  ·rw[if_pos h,if_pos (by omega)]
  ·rw[if_neg h,if_neg (by omega)]
variable {w':World}
theorem Rep.putM{b o:Nat}{y:V}{cy:List Value}{O':Nat->Prop}(hy:Rep cz w' F y cy O')(hcy:qK w' b o cy)(hF:¬F b)(hU:Upd w w' b o y.size):
 ∀(p:List Nat) (x:V) (b0 o0:Nat) (cs:List Value) (O:Nat->Prop),Rep cz w F x cs O->qK w b0 o0 cs->x.okp p->x.at p=.hole y.size->locM cz w p x b0 o0=some (b,o)->
 (∀z,O' z->¬O z)->¬O b0->(∀z,O' z->z≠b0)->
 ∃cs',cs'.length=cs.length/\qK w' b0 o0 cs'/\Rep cz w' F (x.upd p y) cs' (fun z=>O z\/O' z)/\(b≠b0->cs'=cs)
 |[],x,b0,o0,cs,O,h,hc,_,hat,hloc,_,_,_=>by
  simp only[locM,za,zb]at hloc;obtain⟨rfl,rfl⟩:=hloc
  simp only[V.at]at hat
  subst hat
  refine⟨cy,by rw[hy.length];exact(h.length).symm,hcy,hy.mono (fun _ h=>h) (fun _ h=>.inr h),fun h=>absurd rfl h⟩
 |i::p,x,b0,o0,cs,O,h,hc,hok,hat,hloc,hdj,hb0,hO'b0=>by
  have hrange:=Rep.takeM (i::p) x b0 o0 cs O h hc hok
  have hbO:(b=b0/\o0<=o/\o+y.size<=o0+x.size)\/O b:=by
   obtain⟨b1,o1,_,_,e1,_,_,_,_,e6⟩:=hrange;rw[hloc]at e1;simp only[za,zb]at e1;obtain⟨rfl,rfl⟩:=e1;rw[hat]at e6;exact e6.imp id (fun h=>h.1)
  clear hrange;have hys:y.size=(x.at (i::p)).size:=by rw[hat];rfl
  cases h with
  |int=>exact hok.1.elim
  |bool=>exact hok.1.elim
  |str=>exact hok.1.elim
  |hole=>exact hok.1.elim
  |fz0=>have:=hok.1;simp[V.hasKid]at this
  |fz=>have:=hok.1;simp[V.hasKid]at this
  |own0=>have:=hok.1;simp[V.hasKid]at this
  |tup fs vs cs' Os O hn hOs hdis hv hr=>exact hok.1.elim
  |fb=>exact hok.1.elim
  |fn=>exact hok.1.elim
  |own e d es b1 len cap cur cs' Os O hb hsz hl hcap hm hO hOs hdis hcs hr hd9=>
   have hlt:i<es.length:=hok.1.2;have hi:=yH d hlt
   have hbb0:b≠b0:=by
    intro e;subst e;simp only[locM]at hloc;have hh:=hc 0 _ rfl;simp only[yk]at hh;rw[hh]at hloc;dsimp only at hloc;obtain⟨b2,o2,_,_,e1,_,_,_,_,e6⟩:=Rep.takeM p (es.getD i d) b1 (i*cz e) (cs' i) (Os i) (hr i _ hi) (hcs i hlt).2 hok.2;rw[hloc]at e1;simp only[za,zb]at e1;obtain⟨rfl,rfl⟩:=e1;rcases e6 with⟨rfl,_,_⟩|⟨h6,_⟩
    ·exact hb0 hO
    ·exact hb0 (hOs i _ h6).1
   simp only[locM]at hloc;have hh:=hc 0 _ rfl;simp only[yk]at hh;rw[hh]at hloc;dsimp only at hloc
   have hkid:b=b1/\i*cz e<=o/\o+y.size<=i*cz e+(es.getD i d).size\/Os i b:=by
    obtain⟨b2,o2,_,_,e1,_,_,_,_,e6⟩:=Rep.takeM p (es.getD i d) b1 (i*cz e) (cs' i) (Os i) (hr i _ hi) (hcs i hlt).2 hok.2;rw[hloc]at e1;simp only[za,zb]at e1;obtain⟨rfl,rfl⟩:=e1;have:y.size=((es.getD i d).at p).size:=hys;rw[<-this]at e6;exact e6.imp id (fun h=>h.1)
   obtain⟨ci,g1,g2,g3,_⟩:=Rep.putM hy hcy hF hU p (es.getD i d) b1 (i*cz e) (cs' i) (Os i) (hr i _ hi) (hcs i hlt).2 hok.2 hat hloc
    (fun z hz hz'=>hdj z hz (hOs i z hz').1) (fun hz=>(hOs i _ hz).2 rfl) (fun z hz e=>by subst e;exact hdj _ hz hO)
   have hszi:(es.getD i d).size=cz e:=(by rw[<-(hr i _ hi).length];exact(hcs i hlt).1);refine⟨_,rfl,hU.cells hc (.inl (fun e=>hbb0 e.symm)),?_,fun _=>rfl⟩
   have hblk:∃cur',w'.heap[b1]? =some (.cells cur' e (0,0))/\cur'.size=cur.size:=by
    by_cases hbb:b1=b
    ·subst hbb;exact hU.same cur e (0,0) hb
    ·exact⟨cur,(hU.other _ hbb).trans hb,rfl⟩
   obtain⟨cur',hb',hsz'⟩:=hblk;simp only[V.upd,V.setKid,V.kid]
   refine .own e d _ b1 len cap cur' (fun j=>if j=i then ci else cs' j) (fun j z=>if j=i then Os i z\/O' z else Os j z) _ hb' (hsz'.trans hsz) (by simpa using hl) (by simpa using hcap) hm (.inl hO)
    (fun j z hz=>?_) (fun j k z hjk hz=>?_) (fun j hj=>?_) (fun j z hz=>?_) (fun h e=>hd9 h (by simpa using e))
   ·split at hz
    ·rcases hz with hz|hz
     ·exact⟨.inl (hOs i z hz).1,(hOs i z hz).2⟩
     ·exact⟨.inr hz,fun e=>by subst e;exact hdj _ hz hO⟩
    ·exact⟨.inl (hOs j z hz).1,(hOs j z hz).2⟩
   ·split at hz
    ·rename_i hji;subst hji;rw[if_neg (Ne.symm hjk)];rcases hz with hz|hz
     ·exact hdis j k z hjk hz
     ·exact fun hz'=>hdj z hz (hOs k z hz').1
    ·split
     ·rename_i hji hki;subst hki;exact fun hh=>hh.elim (hdis j k z hjk hz) (fun hh=>hdj z hh (hOs j z hz).1)
     ·exact hdis j k z hjk hz
   ·have hj':j<es.length:=(by simpa using hj);split
    ·rename_i hji;subst hji;exact⟨g1.trans (hcs j hlt).1,g2⟩
    ·rename_i hji;refine⟨(hcs j hj').1,hU.cells (hcs j hj').2 ?_⟩;rcases hkid with⟨rfl,k1,k2⟩|hk
     ·right;rw[(hcs j hj').1];rw[hszi]at k2;rcases YI hji with hlt'|hgt
      ·left;have:(j+1)*cz e<=i*cz e:=qb _ hlt';rw[jj]at this;omega
      ·right;have:(i+1)*cz e<=j*cz e:=qb _ hgt;rw[jj]at this;omega
     ·exact .inl (fun e=>by subst e;exact(hOs i _ hk).2 rfl)
   ·rcases V.set_some hz with⟨rfl,rfl⟩|⟨hne,hz'⟩
    ·simp only[if_true];exact g3
    ·simp only[hne,if_false];refine(hr j z hz').world (fun k hk=>hU.other k ?_);rintro rfl;rcases hk with hk|hk
     ·exact hF hk
     ·rcases hkid with⟨rfl,_,_⟩|hk'
      ·exact(hOs j _ hk).2 rfl
      ·exact hdis j i _ hne hk hk'
  |agg fs cs Os O hn hOs hdis hr=>
   have hlt:i<fs.length:=hok.1;have hi:=yH (.hole 0) hlt
   have hkid:b=b0/\o0+V.offs fs i<=o/\o+y.size<=o0+V.offs fs i+(fs.getD i (.hole 0)).size\/Os i b:=by
    obtain⟨b2,o2,_,_,e1,_,_,_,_,e6⟩:=Rep.takeM p (fs.getD i (.hole 0)) b0 (o0+V.offs fs i) _ (Os i) (hr i _ hi) (hc.part _ _) hok.2;simp only[locM]at hloc;rw[hloc]at e1;simp only[za,zb]at e1;obtain⟨rfl,rfl⟩:=e1;have:y.size=((fs.getD i (.hole 0)).at p).size:=hys;rw[<-this]at e6;exact e6.imp id (fun h=>h.1)
   obtain⟨ci,g1,g2,g3,g4⟩:=Rep.putM hy hcy hF hU p (fs.getD i (.hole 0)) b0 (o0+V.offs fs i) _ (Os i) (hr i _ hi) (hc.part _ _) hok.2 hat hloc
    (fun z hz hz'=>hdj z hz (hOs i z hz')) (fun hz=>hb0 (hOs i _ hz)) hO'b0
   have hsz:((fs.getD i (.hole 0)).upd p y).size=(fs.getD i (.hole 0)).size:=V.size_upd p _ _ hok.2 hys;have hle:=V.offs_succ_le hi;have hcl:ci.length=(fs.getD i (.hole 0)).size:=(by rw[g1,(hr i _ hi).length]);have htl:(cs.take (V.offs fs i)).length=V.offs fs i:=(by simp;omega);refine⟨cs.take (V.offs fs i)++ci++cs.drop (V.offs fs i+(fs.getD i (.hole 0)).size),by simp only[zr,zV,yF,hcl];omega,?_,?_,fun hbb=>?_⟩
   ·intro j v hj;rw[YD,htl,hcl]at hj;split at hj
    ·rename_i hj1;rw[zY,if_pos hj1]at hj;rw[show w'.cell? ⟨b0,o0+j,none⟩=w.cell? ⟨b0,o0+j,none⟩from ?_]
     ·exact hc j v hj
     ·by_cases hbb:b0=b
      ·subst hbb;rcases hkid with⟨_,k1,_⟩|hk
       ·exact hU.cell _ (by omega)
       ·exact absurd (hOs i _ hk) hb0
      ·exact World.cell?_of_block (hU.other _ hbb)
    ·split at hj
     ·rename_i hj1 hj2;have:=g2 _ v hj
      rwa [show o0+V.offs fs i+(j-V.offs fs i)=o0+j from by omega]at this
     ·rename_i hj1 hj2;rw[zZ]at hj;rw[show V.offs fs i+(fs.getD i (.hole 0)).size+(j-V.offs fs i-(fs.getD i (.hole 0)).size)=j from by omega]at hj;rw[show w'.cell? ⟨b0,o0+j,none⟩=w.cell? ⟨b0,o0+j,none⟩from ?_]
      ·exact hc j v hj
      ·by_cases hbb:b0=b
       ·subst hbb;rcases hkid with⟨_,_,k1⟩|hk
        ·exact hU.cell _ (by omega)
        ·exact absurd (hOs i _ hk) hb0
       ·exact World.cell?_of_block (hU.other _ hbb)
   ·simp only[V.upd,V.setKid,V.kid];refine .agg _ _ (fun j z=>if j=i then Os i z\/O' z else Os j z) _ (by rw[V.sizes_set hi hsz];simp only[zr,zV,yF,hcl];omega) (fun j z hz=>?_) (fun j k z hjk hz=>?_) (fun j z hz=>?_)
    ·split at hz
     ·exact hz.imp (hOs i z) id
     ·exact .inl (hOs j z hz)
    ·split at hz
     ·rename_i hji;subst hji;rw[if_neg (Ne.symm hjk)];rcases hz with hz|hz
      ·exact hdis j k z hjk hz
      ·exact fun hz'=>hdj z hz (hOs k z hz')
     ·split
      ·rename_i hji hki;subst hki;exact fun hh=>hh.elim (hdis j k z hjk hz) (fun hh=>hdj z hh (hOs j z hz))
      ·exact hdis j k z hjk hz
    ·rw[V.offs_set j hi hsz];rcases V.set_some hz with⟨rfl,rfl⟩|⟨hne,hz'⟩
     ·simp only[if_true]
      rw[hsz,zU,uC (by rw[htl];exact zw _),ke (by rw[htl];exact zw _),List.nil_append,jT (by rw[hcl];exact zw _),
       zB (by rw[hcl];exact zw _)]
      exact g3
     ·simp only[hne,if_false]
      have hseg:List.take z.size (List.drop (V.offs fs j) (cs.take (V.offs fs i)++ci++cs.drop (V.offs fs i+(fs.getD i (.hole 0)).size)))=List.take z.size (List.drop (V.offs fs j) cs):=by
       apply yB;intro k;rw[zY,zY];split
       ·rename_i hk;rw[zZ,zZ,YD,htl,hcl];rcases YI hne with hlt'|hgt
        ·have:=V.offs_sep hz' hlt';rw[if_pos (by omega),zY,if_pos (by omega)]
        ·have:=V.offs_sep hi hgt;rw[if_neg (by omega),if_neg (by omega),zZ];congr 1;omega
       ·rfl
      rw[hseg];refine(hr j z hz').world (fun k hk=>hU.other k ?_);rintro rfl;rcases hk with hk|hk
      ·exact hF hk
      ·rcases hkid with⟨rfl,_,_⟩|hk'
       ·exact hb0 (hOs j _ hk)
       ·exact hdis j i _ hne hk hk'
   ·have:=g4 hbb;rw[this];apply yB;intro k;rw[YD];have hl2:(List.take (fs.getD i (V.hole 0)).size (List.drop (V.offs fs i) cs)).length=(fs.getD i (V.hole 0)).size:=(by simp only[zV,yF];omega);rw[htl,hl2];split
    ·rw[zY,if_pos (by assumption)]
    ·split
     ·rw[zY,if_pos (by omega),zZ];congr 1;omega
     ·rw[zZ];congr 1;omega
  |box e c b1 cur cs' Oc O hb hcs hO hOs hr=>
   have hcells:qK w b1 0 cs':=by
    intro j v hj;subst hcs;simp at hj;simp[World.cell?,hb,hj]
   have hh:=hc 0 _ rfl;simp only[yk]at hh;simp only[locM]at hloc;rw[hh]at hloc;dsimp only at hloc
   have hkid:b=b1\/Oc b:=by
    obtain⟨b2,o2,_,_,e1,_,_,_,_,e6⟩:=Rep.takeM p c b1 0 cs' Oc hr hcells hok.2;rw[hloc]at e1;simp only[za,zb]at e1;obtain⟨rfl,rfl⟩:=e1;exact e6.imp (fun h=>h.1) (fun h=>h.1)
   have hbb0:b≠b0:=by
    rintro rfl;rcases hkid with rfl|hk
    ·exact hb0 hO
    ·exact hb0 (hOs _ hk).1
   obtain⟨ci,g1,g2,g3,_⟩:=Rep.putM hy hcy hF hU p c b1 0 cs' Oc hr hcells hok.2 hat hloc
    (fun z hz hz'=>hdj z hz (hOs z hz').1) (fun hz=>(hOs _ hz).2 rfl) (fun z hz e=>by subst e;exact hdj _ hz hO)
   refine⟨_,rfl,hU.cells hc (.inl (fun e=>hbb0 e.symm)),?_,fun _=>rfl⟩
   have hblk:∃cur',w'.heap[b1]? =some (.cells cur' e (0,0))/\cur'.size=cur.size:=by
    by_cases hbb:b1=b
    ·subst hbb;exact hU.same cur e (0,0) hb
    ·exact⟨cur,(hU.other _ hbb).trans hb,rfl⟩
   obtain⟨cur',hb',hsz'⟩:=hblk
   have hcur:cur'.toList=ci:=by
    apply yB;intro j;have hjn:ci.length=cur'.size:=(by rw[g1,<-hcs,hsz'];simp);by_cases hj:j<ci.length
    ·have h1:=g2 j ci[j] (ze hj);simp only[jB,World.cell?,hb']at h1;rw[ze hj,<-h1];simp
    ·rw[zy (by simp;omega),zy (by omega)]
   simp only[V.upd,V.setKid,V.kid]
   exact .box e _ b1 cur' ci (fun z=>Oc z\/O' z) _ hb' hcur (.inl hO)
    (fun z hz=>hz.elim (fun hz=>⟨.inl (hOs z hz).1,(hOs z hz).2⟩) (fun hz=>⟨.inr hz,fun e=>by subst e;exact hdj _ hz hO⟩)) g3
end
def V.isH:V->Bool
 | .slc o _ _ _=>o
 | .box _ _=>true
 |_=>false
def Jv:Value->Bool
 | .slice _ _ _=>true
 | .pointer _=>true
 |_=>false
inductive A where
 |val (x:V)
 |rf (s ver:Nat) (p:List Nat)
 |ad (s ver:Nat) (p:List Nat)
 |fz (x:V)
 |ag (s ver:Nat) (p:List Nat) (fs:List V)
 deriving Inhabited
def A.refs:A->Option (Nat×Nat)
 | .rf s v _=>some (s,v)
 | .ad s v _=>some (s,v)
 | .ag s v _ _=>some (s,v)
 |_=>none
structure E where
 g:Bool
 u:Bool
 ver:Nat
 a:A
 deriving Inhabited
abbrev Env:=Nat->E
def Env.put(D:Env)(d:Nat)(g:Bool)(x:A):Env:=fun t=>if t=d then⟨g,true,(D d).ver+1,x⟩else D t
def Env.drp(D:Env)(d:Nat):Env:=fun t=>if t=d then⟨false,false,(D d).ver+1,.val (.hole 0)⟩else D t
def Env.mod(D:Env)(d:Nat)(x:V):Env:=fun t=>if t=d then⟨(D d).g,(D d).u,(D d).ver,.val x⟩else D t
def Env.own(D:Env)(s ver:Nat):Option V:=
 if(D s).g=true/\(D s).ver=ver then(match (D s).a with| .val x=>if x.owned then some x else none|_=>none)else none
theorem Env.own_iff'{D:Env}{s ver:Nat}{x:V}:D.own s ver=some x↔(D s).g=true/\(D s).ver=ver/\(D s).a=.val x/\x.owned=true:=by
 unfold Env.own;split
 ·rename_i h;cases ha:(D s).a<;>simp_all;constructor
  ·rintro⟨h1,rfl⟩;exact⟨rfl,h1⟩
  ·rintro⟨rfl,h1⟩;exact⟨h1,rfl⟩
 ·rename_i h;simp;intro h1 h2;exact absurd ⟨h1,h2⟩ h
theorem Env.own_elim{D:Env}{s ver:Nat}{x:V}(h:D.own s ver=some x):(D s).g=true/\(D s).ver=ver/\(D s).a=.val x:=
 let ⟨h1,h2,h3,_⟩:=Env.own_iff'.1 h;⟨h1,h2,h3⟩
section
variable (cz:TypeId->Nat)(w:World)
def hdrV:List Nat->V->Value->Option Value
 |[],_,v=>some v
 |[i],.tup _,.tuple vs=>some (vs.getD i undef)
 |p,x,v=>if(x.at p).isH then(locV cz w p x v).bind fun a=>w.cell? ⟨a.1,a.2,none⟩else none
end
inductive Cp (H:List Nat->Value->Prop) (R:V->List Value->Prop):V->List Nat->List Value->Prop
 |val (x:V) (p:List Nat) (c:List Value) (hx:x.owned=false) (h:R x c) (hl:c.length=x.size):Cp H R x p c
 |hd (x:V) (p:List Nat) (h:Value) (hx:x.isH=true) (hp:H p h):Cp H R x p [h]
 |agg (fs:List V) (p:List Nat) (c:List Value) (hn:c.length=V.sizes fs)
  (h:∀i y,fs[i]? =some y->Cp H R y (p++[i]) ((c.drop (V.offs fs i)).take y.size)):Cp H R (.agg fs) p c
theorem Cp.mono{H H':List Nat->Value->Prop}{R R':V->List Value->Prop}{x:V}{p:List Nat}{c:List Value}(h:Cp H R x p c)(hH:∀p h,H p h->H' p h)(hR:∀x c,R x c->R' x c):
 Cp H' R' x p c:=by
 induction h with
 |val x p c hx h hl=>exact .val x p c hx (hR _ _ h) hl
 |hd x p h hx hp=>exact .hd x p h hx (hH _ _ hp)
 |agg fs p c hn h ih=>exact .agg fs p c hn ih
def Holds(cz:TypeId->Nat)(w:World)(F:Nat->Prop)(D:Env)(tmps:Array Value):A->Value->Prop
 | .val x,v=>∃cs,x.reg cs v/\Rep cz w F x cs (fun _=>False)
 | .rf s ver p,v=>∀x h,D.own s ver=some x->x.okv p->hdrV cz w p x (tmps.getD s undef)=some h->v=h
 | .ad s ver p,v=>∀x b o,D.own s ver=some x->x.okp p->locV cz w p x (tmps.getD s undef)=some (b,o)->v=.pointer (some ⟨b,o,none⟩)
 | .fz x,v=>∃b o cs,v=.pointer (some ⟨b,o,none⟩)/\F b/\qK w b o cs/\Rep cz w F x cs (fun _=>False)
 | .ag s ver p fs,v=>∃cs,v=.agg cs.toArray/\
  Cp (fun q h=>∀r h',D.own s ver=some r->r.okv q->hdrV cz w q r (tmps.getD s undef)=some h'->h'=h) (fun y c=>Rep cz w F y c (fun _=>False)) (.agg fs) p cs
structure Ctx where
 P:Program
 Φ:FuncId->List V->Option (Prop×V×List V)
 w0:World
 X:Nat->Prop
 F0:Nat->Prop
 nt:Nat
 Ψ:FuncId->Option (Nat×Bool×(List V->Option (Prop×V×V)))
 lo:Nat
 t0:Array Value
 st:Bool
def zFt:Bool:=true
def drN(w:World):Nat:=bif zFt then w.drawn else 0
theorem zz9{w w':World}(h:w.drawn<=w'.drawn):drN w<=drN w':=by
 unfold drN;cases zFt
 ·exact zw _
 ·exact h
def Kz(w w':World):Prop:=w'.output=w.output/\drN w<=drN w'
theorem Kz.refl(w:World):Kz w w:=⟨rfl,zw _⟩
theorem Kz.trans{a b c:World}(h':Kz b c)(h:Kz a b):Kz a c:=⟨h'.1.trans h.1,je h.2 h'.2⟩
structure BelowD (B:Nat) (w w':World):Prop where
 os:w'.os=w.os
 tape:w'.tape=w.tape
 output:Kz w w'
 size:w.heap.size<=w'.heap.size
 block:∀k,k<B->w'.heap[k]? =w.heap[k]?
def zpv:String:= "internal/strconv.uint64pow10"
def zEL:List Int:=(List.range 20).map fun i=>((10^i:Nat):Int)
def GlW(P:Program)(w:World):Prop:=P.globalNamed zpv=none\/w.var? P zpv=some (zEL.map fun z=>Value.int .u64 z).toArray
def Gl(P:Program)(w:World)(F:Nat->Prop):Prop:=∀w':World,(∀b,F b->w'.heap[b]? =w.heap[b]?)->GlW P w'
def GlC(C:Ctx):Prop:=Gl C.P C.w0 C.F0/\∀b,C.F0 b->b<C.w0.heap.size/\¬C.X b
theorem zD6{P:Program}(h:P.globalNamed zpv=none)(w:World)(F:Nat->Prop):Gl P w F:=fun _ _=>.inl h
def Ctx.dst(C:Ctx)(d:Nat):Prop:=C.lo<=d/\d<C.nt
instance (C:Ctx) (d:Nat):Decidable (C.dst d):=inferInstanceAs (Decidable (_/\_))
abbrev Ctx.cz(C:Ctx):TypeId->Nat:=C.P.cellsOf
structure Inv (C:Ctx) (F:Nat->Prop) (O:Nat->Nat->Prop) (Z:Nat->Prop) (D:Env) (a:Act) (w:World):Prop where
 slot:∀t,(D t).g=true->t<a.tmps.size/\(∀x,(D t).a=.val x->∃cs,x.reg cs (a.tmps.getD t undef)/\Rep C.cz w F x cs (O t))/\
  ((∀x,(D t).a≠.val x)->Holds C.cz w F D a.tmps (D t).a (a.tmps.getD t undef))
 oo:∀s t b,s≠t->O s b->¬O t b
 of:∀s b,O s b->¬F b
 oz:∀s b,O s b->¬Z b
 zf:∀b,Z b->¬F b
 olt:∀s b,O s b->b<w.heap.size
 zlt:∀b,Z b->b<w.heap.size
 flt:∀b,F b->b<w.heap.size
 ofr:∀s b,O s b->C.w0.heap.size<=b\/C.X b
 zfr:∀b,Z b->C.w0.heap.size<=b\/C.X b
 f0:∀b,C.F0 b->F b
 ffr:∀b,F b->C.F0 b\/C.w0.heap.size<=b\/(C.st=false/\C.X b)
 old:∀k,k<C.w0.heap.size->¬C.X k->w.heap[k]? =C.w0.heap[k]?
 size:C.w0.heap.size<=w.heap.size
 os:w.os=C.w0.os
 tape:w.tape=C.w0.tape
 output:Kz C.w0 w
 defers:a.defers=[]
 wf:∀t s ver,(D t).a.refs=some (s,ver)->ver<=(D s).ver
 und:∀t,(D t).g=false->(D t).u=true->a.tmps.getD t undef=undef
 ts:a.tmps.size=C.nt
 kp:∀t,t<C.lo->a.tmps.getD t undef=C.t0.getD t undef
 hx:C.st=true->∀b off u,C.X b->Jv u=true->C.w0.cell? ⟨b,off,none⟩=some u->w.cell? ⟨b,off,none⟩=some u
theorem Inv.gl{C:Ctx}{F:Nat->Prop}{O:Nat->Nat->Prop}{Z:Nat->Prop}{D:Env}{a:Act}{w:World}(hI:Inv C F O Z D a w)(h:GlC C){F':Nat->Prop}(hF:∀b,F b->F' b):Gl C.P w F':=fun w' hw'=>
 h.1 w' fun b hb=>by rw[hw' b (hF b (hI.f0 b hb)),hI.old b (h.2 b hb).1 (h.2 b hb).2]
section
variable {cz:TypeId->Nat}{w w':World}{F:Nat->Prop}
theorem zcH:∀(p:List Nat) (x:V) (b0 o0:Nat) (cs:List Value) (O:Nat->Prop),Rep cz w F x cs O->qK w b0 o0 cs->x.okp p->
 (∀k off h,(O k\/k=b0)->Jv h=true->w.cell? ⟨k,off,none⟩=some h->w'.cell? ⟨k,off,none⟩=some h)->locM cz w' p x b0 o0=locM cz w p x b0 o0
 |[],x,b0,o0,cs,O,_,_,_,_=>rfl
 |i::p,x,b0,o0,cs,O,h,hc,hok,H=>by
  cases h with
  |int=>exact hok.1.elim
  |bool=>exact hok.1.elim
  |str=>exact hok.1.elim
  |hole=>exact hok.1.elim
  |fz0=>have:=hok.1;simp[V.hasKid]at this
  |fz=>have:=hok.1;simp[V.hasKid]at this
  |own0=>have:=hok.1;simp[V.hasKid]at this
  |tup=>exact hok.1.elim
  |fb=>exact hok.1.elim
  |fn=>exact hok.1.elim
  |own e d es b1 len cap cur cs' Os O hb hsz hl hcap hm hO hOs hdis hcs hr hd9=>
   have hlt:i<es.length:=hok.1.2;have hh:=hc 0 _ rfl;simp only[yk]at hh;simp only[locM];rw[hh,H b0 o0 _ (.inr rfl) rfl hh];dsimp only
   exact zcH p (es.getD i d) b1 (i*cz e) (cs' i) (Os i) (hr i _ (yH d hlt)) (hcs i hlt).2 hok.2
    (fun k off h hk=>H k off h (.inl (hk.elim (fun hk=>(hOs i k hk).1) (fun hk=>by subst hk;exact hO))))
  |agg fs cs Os O hn hOs hdis hr=>
   have hlt:i<fs.length:=hok.1;simp only[locM];exact zcH p _ b0 _ _ (Os i) (hr i _ (yH (.hole 0) hlt)) (hc.part _ _) hok.2 (fun k off h hk=>H k off h (hk.imp (fun hk=>hOs i k hk) id))
  |box e c b1 cur cs' Oc O hb hcs hO hOs hr=>
   have hcells:qK w b1 0 cs':=by
    intro j v hj;subst hcs;simp at hj;simp[World.cell?,hb,hj]
   have hh:=hc 0 _ rfl;simp only[yk]at hh;simp only[locM];rw[hh,H b0 o0 _ (.inr rfl) rfl hh];dsimp only;exact zcH p c b1 0 cs' Oc hr hcells hok.2 (fun k off h hk=>H k off h (.inl (hk.elim (fun hk=>(hOs k hk).1) (fun hk=>by subst hk;exact hO))))
theorem zgC{p:List Nat}{x:V}{cs:List Value}{O:Nat->Prop}{v:Value}(h:Rep cz w F x cs O)(hv:x.reg cs v)(hok:x.okp p)
 (H:∀k off h,O k->Jv h=true->w.cell? ⟨k,off,none⟩=some h->w'.cell? ⟨k,off,none⟩=some h):locV cz w' p x v=locV cz w p x v:=by
 cases p with
 |nil=>simp[locV]
 |cons i p=>
  cases h with
  |int=>exact hok.1.elim
  |bool=>exact hok.1.elim
  |str=>exact hok.1.elim
  |hole=>exact hok.1.elim
  |fz0=>have:=hok.1;simp[V.hasKid]at this
  |fz=>have:=hok.1;simp[V.hasKid]at this
  |own0=>have:=hok.1;simp[V.hasKid]at this
  |tup=>exact hok.1.elim
  |fb=>exact hok.1.elim
  |fn=>exact hok.1.elim
  |own e d es b1 len cap cur cs' Os O hb hsz hl hcap hm hO hOs hdis hcs hr hd9=>
   have hlt:i<es.length:=hok.1.2;have hv':v=.slice (some ⟨b1,0,none⟩) len cap:=hv;subst hv';simp only[locV]
   exact zcH p (es.getD i d) b1 (i*cz e) (cs' i) (Os i) (hr i _ (yH d hlt)) (hcs i hlt).2 hok.2
    (fun k off h hk=>H k off h (hk.elim (fun hk=>(hOs i k hk).1) (fun hk=>by subst hk;exact hO)))
  |agg fs cs Os O hn hOs hdis hr=>simp[locV]
  |box e c b1 cur cs' Oc O hb hcs hO hOs hr=>
   have hcells:qK w b1 0 cs':=by
    intro j v hj;subst hcs;simp at hj;simp[World.cell?,hb,hj]
   have hv':v=.pointer (some ⟨b1,0,none⟩):=hv;subst hv';simp only[locV];exact zcH p c b1 0 cs' Oc hr hcells hok.2 (fun k off h hk=>H k off h (hk.elim (fun hk=>(hOs k hk).1) (fun hk=>by subst hk;exact hO)))
theorem Rep.takeV{p:List Nat}{x:V}{cs:List Value}{O:Nat->Prop}{v:Value}(h:Rep cz w F x cs O)(hv:x.reg cs v)(hok:x.okp p)(hp:p≠[])(hna:∀fs,x≠.agg fs):
 ∃b o cy Oy,locV cz w p x v=some (b,o)/\qK w b o cy/\Rep cz w F (x.at p) cy Oy/\(∀z,Oy z->O z)/\O b/\¬Oy b/\
  (∀n,n=(x.at p).size->Rep cz w F (x.upd p (.hole n)) cs (fun z=>O z/\¬Oy z)/\(x.upd p (.hole n)).reg cs v):=by
 cases p with
 |nil=>exact absurd rfl hp
 |cons i p=>
  cases h with
  |int=>exact hok.1.elim
  |bool=>exact hok.1.elim
  |str=>exact hok.1.elim
  |hole=>exact hok.1.elim
  |fz0=>have:=hok.1;simp[V.hasKid]at this
  |fz=>have:=hok.1;simp[V.hasKid]at this
  |own0=>have:=hok.1;simp[V.hasKid]at this
  |tup=>exact hok.1.elim
  |fb=>exact hok.1.elim
  |fn=>exact hok.1.elim
  |agg fs=>exact absurd rfl (hna fs)
  |own e d es b1 len cap cur cs' Os O hb hsz hl hcap hm hO hOs hdis hcs hr hd9=>
   have hlt:i<es.length:=hok.1.2;have hv':v=.slice (some ⟨b1,0,none⟩) len cap:=hv;subst hv';obtain⟨b',o',cy,Oy,h1,h2,h3,h4,h5,h6⟩:=Rep.takeM p (es.getD i d) b1 (i*cz e) (cs' i) (Os i) (hr i _ (yH d hlt)) (hcs i hlt).2 hok.2;refine⟨b',o',cy,Oy,by simp only[locV];exact h1,h2,h3,fun z hz=>(hOs i z (h4 z hz)).1,?_,?_,?_⟩
   ·rcases h6 with⟨rfl,_,_⟩|⟨h6,_⟩
    ·exact hO
    ·exact(hOs i _ h6).1
   ·rcases h6 with⟨rfl,_,_⟩|⟨_,h7⟩
    ·exact fun hz=>(hOs i _ (h4 _ hz)).2 rfl
    ·exact h7
   ·rintro n rfl;refine⟨?_,rfl⟩;simp only[V.upd,V.setKid,V.kid,V.at]
    refine .own e d _ b1 len cap cur cs' (fun j z=>if j=i then Os i z/\¬Oy z else Os j z) _ hb hsz (by simpa using hl) (by simpa using hcap) hm ⟨hO,fun hz=>(hOs i _ (h4 _ hz)).2 rfl⟩
     (fun j z hz=>?_) (fun j k z hjk hz=>?_) (fun j hj=>hcs j (by simpa using hj)) (fun j y hy=>?_) (fun h e=>hd9 h (by simpa using e))
    ·split at hz
     ·exact⟨⟨(hOs i z hz.1).1,hz.2⟩,(hOs i z hz.1).2⟩
     ·rename_i hji;exact⟨⟨(hOs j z hz).1,fun hz'=>hdis j i z hji hz (h4 z hz')⟩,(hOs j z hz).2⟩
    ·split at hz
     ·rename_i hji;subst hji;rw[if_neg (Ne.symm hjk)];exact hdis j k z hjk hz.1
     ·split
      ·rename_i hji hki;subst hki;exact fun hh=>hdis j k z hjk hz hh.1
      ·exact hdis j k z hjk hz
    ·rcases V.set_some hy with⟨rfl,rfl⟩|⟨hne,hy'⟩
     ·simp only[if_true];exact h5
     ·simp only[hne,if_false];exact hr j y hy'
  |box e c b1 cur cs' Oc O hb hcs hO hOs hr=>
   have hcells:qK w b1 0 cs':=by
    intro j v hj;subst hcs;simp at hj;simp[World.cell?,hb,hj]
   have hv':v=.pointer (some ⟨b1,0,none⟩):=hv;subst hv';obtain⟨b',o',cy,Oy,h1,h2,h3,h4,h5,h6⟩:=Rep.takeM p c b1 0 cs' Oc hr hcells hok.2;refine⟨b',o',cy,Oy,by simp only[locV];exact h1,h2,h3,fun z hz=>(hOs z (h4 z hz)).1,?_,?_,?_⟩
   ·rcases h6 with⟨rfl,_,_⟩|⟨h6,_⟩
    ·exact hO
    ·exact(hOs _ h6).1
   ·rcases h6 with⟨rfl,_,_⟩|⟨_,h7⟩
    ·exact fun hz=>(hOs _ (h4 _ hz)).2 rfl
    ·exact h7
   ·rintro n rfl;refine⟨?_,rfl⟩;simp only[V.upd,V.setKid,V.kid,V.at];exact .box e _ b1 cur cs' (fun z=>Oc z/\¬Oy z) _ hb hcs ⟨hO,fun hz=>(hOs _ (h4 _ hz)).2 rfl⟩ (fun z hz=>⟨⟨(hOs z hz.1).1,hz.2⟩,(hOs z hz.1).2⟩) h5
end
section
variable {cz:TypeId->Nat}{w w':World}{F F':Nat->Prop}
theorem uk{x:V}{cs:List Value}{O:Nat->Prop}(h:Rep cz w F x cs O)(hx:x.isH=true):∃v,cs=[v]/\Jv v=true:=by
 cases h<;>simp_all [V.isH,Jv]
theorem V.okv_of_ne{x:V}{p:List Nat}(h:x.okv p)(hx:∀fs,x≠.tup fs):x.okp p:=by
 cases x<;>first|exact h|exact absurd rfl (hx _)
theorem V.okv_of_okp{x:V}{p:List Nat}(h:x.okp p):x.okv p:=by
 cases x with
 |tup fs=>cases p with
  |nil=>trivial
  |cons i p=>exact h.1.elim
 |_=>exact h
theorem znD{p:List Nat}{x:V}{cs:List Value}{O:Nat->Prop}{v h':Value}(h:Rep cz w F x cs O)(hv:x.reg cs v)(hok:x.okv p)
 (H:∀k off h,O k->Jv h=true->w.cell? ⟨k,off,none⟩=some h->w'.cell? ⟨k,off,none⟩=some h) (hh:hdrV cz w' p x v=some h'):hdrV cz w p x v=some h':=by
 cases p with
 |nil=>exact hh
 |cons i p=>
  by_cases ht:∃fs,x=.tup fs
  ·obtain⟨fs,rfl⟩:=ht
   cases p with
   |nil=>cases v<;>first|exact hh|(simp[hdrV,locV]at hh)
   |cons j p=>simp[hdrV,locV]at hh
  ·have hok':=V.okv_of_ne hok (fun fs e=>ht ⟨fs,e⟩)
   have e1:∀w,hdrV cz w (i::p) x v=if(x.at (i::p)).isH then(locV cz w (i::p) x v).bind fun a=>w.cell? ⟨a.1,a.2,none⟩else none:=by
    intro w
    cases p with
    |nil=>cases x<;>first|rfl|exact absurd ⟨_,rfl⟩ ht
    |cons j p=>rfl
   rw[e1]at hh ⊢;split at hh
   ·rename_i hH;rw[if_pos hH];by_cases hna:∃fs,x=.agg fs
    ·obtain⟨fs,rfl⟩:=hna;simp[locV]at hh
    ·obtain⟨b,o,cy,Oy,g1,g2,g3,g4,g5,g6,_⟩:=h.takeV hv hok' (by simp) (fun fs e=>hna ⟨fs,e⟩);rw[zgC h hv hok' H]at hh;rw[g1]at hh ⊢;obtain⟨u,rfl,hu⟩:=uk g3 hH;have hc:=g2 0 u rfl;simp only[yk]at hc;have hc':=H _ _ _ g5 hu hc;simp only[jd]at hh ⊢;rw[hc']at hh;rw[hc];exact hh
   ·cases hh
def za6(cz:TypeId->Nat)(w w':World)(D D':Env)(tmps tmps':Array Value)(s ver:Nat):Prop:=
 ∀x',D'.own s ver=some x'->∃x,D.own s ver=some x/\
  (∀p h,x'.okv p->hdrV cz w' p x' (tmps'.getD s undef)=some h->x.okv p/\hdrV cz w p x (tmps.getD s undef)=some h)/\
  (∀p r,x'.okp p->locV cz w' p x' (tmps'.getD s undef)=some r->x.okp p/\locV cz w p x (tmps.getD s undef)=some r)
theorem Holds.pres{D D':Env}{tmps tmps':Array Value}{A:A}{v:Value}(h:Holds cz w F D tmps A v)(hp:∀s ver,A.refs=some (s,ver)->za6 cz w w' D D' tmps tmps' s ver)
 (hF:∀b,F b->F' b) (hm:∀b,F b->w'.heap[b]? =w.heap[b]?):Holds cz w' F' D' tmps' A v:=by
 have rep:∀{x:V} {cs:List Value},Rep cz w F x cs (fun _=>False)->Rep cz w' F' x cs (fun _=>False):=
  fun hr=>(hr.world (fun b hb=>hb.elim (hm b) False.elim)).mono hF (fun _ h=>h)
 cases A with
 |val x=>obtain⟨cs,h1,h2⟩:=h;exact⟨cs,h1,rep h2⟩
 |rf s ver p=>
  intro x' h' hx' hok hh;obtain⟨x,hx,h1,_⟩:=hp s ver rfl x' hx';obtain⟨g1,g2⟩:=h1 p h' hok hh;exact h x h' hx g1 g2
 |ad s ver p=>
  intro x' b o hx' hok hh;obtain⟨x,hx,_,h1⟩:=hp s ver rfl x' hx';obtain⟨g1,g2⟩:=h1 p (b,o) hok hh;exact h x b o hx g1 g2
 |fz x=>obtain⟨b,o,cs,h1,h2,h3,h4⟩:=h;exact⟨b,o,cs,h1,hF _ h2,h3.of_block (hm _ h2),rep h4⟩
 |ag s ver p x=>
  obtain⟨cs,h1,h2⟩:=h;refine⟨cs,h1,h2.mono (fun q u hq r' h' hr' hok hh=>?_) (fun y c hr=>rep hr)⟩;obtain⟨r,hr,g,_⟩:=hp s ver rfl r' hr';obtain⟨g1,g2⟩:=g q h' hok hh;exact hq r h' hr g1 g2
theorem za6.refl(s ver:Nat)(D:Env)(tmps:Array Value):za6 cz w w D D tmps tmps s ver:=fun x hx=>⟨x,hx,fun _ _ h1 h2=>⟨h1,h2⟩,fun _ _ h1 h2=>⟨h1,h2⟩⟩
theorem Env.own_put_ne{D:Env}{d s ver:Nat}{g:Bool}{x:A}(h:s≠d):(D.put d g x).own s ver=D.own s ver:=by
 simp[Env.own,Env.put,h]
theorem Env.own_put_eq{D:Env}{d ver:Nat}{g:Bool}{x:A}(h:ver<=(D d).ver):(D.put d g x).own d ver=none:=by
 unfold Env.own Env.put;simp only[if_true];rw[if_neg];intro hh;omega
theorem Env.own_drp_ne{D:Env}{d s ver:Nat}(h:s≠d):(D.drp d).own s ver=D.own s ver:=by
 simp[Env.own,Env.drp,h]
theorem Env.own_drp_eq{D:Env}{d ver:Nat}:(D.drp d).own d ver=none:=by
 simp[Env.own,Env.drp]
theorem Env.own_mod_ne{D:Env}{d s ver:Nat}{x:V}(h:s≠d):(D.mod d x).own s ver=D.own s ver:=by
 simp[Env.own,Env.mod,h]
theorem Env.own_mod_eq{D:Env}{d ver:Nat}{x:V}:(D.mod d x).own d ver=if(D d).g=true/\(D d).ver=ver then(if x.owned then some x else none)else none:=by
 simp[Env.own,Env.mod]
theorem kt{a:Array Value}{d t:Nat}{v:Value}(h:t≠d):(a.setIfInBounds d v).getD t undef=a.getD t undef:=by
 simp[ZC (Ne.symm h)]
theorem QO{a:Array Value}{d:Nat}{v:Value}(h:d<a.size):(a.setIfInBounds d v).getD d undef=v:=by
 simp[h]
end
namespace Inv
variable {C:Ctx}{F:Nat->Prop}{O:Nat->Nat->Prop}{Z:Nat->Prop}{D:Env}{a:Act}{w w':World}
theorem pres_mem(h:Inv C F O Z D a w)(s ver:Nat)(H:∀k off u,O s k->Jv u=true->w.cell? ⟨k,off,none⟩=some u->w'.cell? ⟨k,off,none⟩=some u):
 za6 C.cz w w' D D a.tmps a.tmps s ver:=by
 intro x hx;obtain⟨hg,_,ha⟩:=Env.own_elim hx;obtain⟨_,hv,_⟩:=h.slot s hg;obtain⟨cs,hreg,hrep⟩:=hv x ha;exact⟨x,hx,fun p u hok hh=>⟨hok,znD hrep hreg hok H hh⟩,fun p r hok hh=>⟨hok,by rw[zgC hrep hreg hok H]at hh;exact hh⟩⟩
theorem worldZ(h:Inv C F O Z D a w){Z':Nat->Prop}(hs:w.heap.size<=w'.heap.size)(hm:∀k,k<w.heap.size->¬Z k->w'.heap[k]? =w.heap[k]?)
 (hZ:∀b,Z' b->Z b\/(w.heap.size<=b/\b<w'.heap.size)) (hH:C.st=true->∀b off u,C.X b->Z b->Jv u=true->w.cell? ⟨b,off,none⟩=some u->w'.cell? ⟨b,off,none⟩=some u) (ho:w'.os=w.os) (ht:w'.tape=w.tape) (hp:Kz w w'):Inv C F O Z' D a w':=by
 have hmO:∀s b,O s b->w'.heap[b]? =w.heap[b]? :=fun s b hb=>hm b (h.olt s b hb) (h.oz s b hb);have hmF:∀b,F b->w'.heap[b]? =w.heap[b]? :=fun b hb=>hm b (h.flt b hb) (fun hz=>h.zf b hz hb)
 have hpr:∀s ver,za6 C.cz w w' D D a.tmps a.tmps s ver:=fun s ver=>h.pres_mem s ver (fun k off u hk _ hu=>by
  rw[World.cell?_of_block (a:=⟨k,off,none⟩) (hmO s k hk)];exact hu)
 refine⟨fun t hg=>?_,h.oo,h.of,fun s b hb hz=>?_,fun b hz hf=>?_,fun s b hb=>za9 (h.olt s b hb) hs,fun b hz=>?_,fun b hb=>za9 (h.flt b hb) hs,
  h.ofr,fun b hz=>?_,h.f0,h.ffr,fun k hk hx=>?_,je h.size hs,ho.trans h.os,ht.trans h.tape,hp.trans h.output,h.defers,h.wf,h.und,h.ts,h.kp,fun hst b off u hb hu h0=>?_⟩
 ·obtain⟨h1,h2,h3⟩:=h.slot t hg;refine⟨h1,fun x hx=>?_,fun hn=>(h3 hn).pres (fun s ver _=>hpr s ver) (fun _ h=>h) hmF⟩;obtain⟨cs,g1,g2⟩:=h2 x hx;exact⟨cs,g1,g2.world (fun b hb=>hb.elim (hmF b) (hmO t b))⟩
 ·rcases hZ b hz with hz|⟨hz,_⟩
  ·exact h.oz s b hb hz
  ·have:=h.olt s b hb;omega
 ·rcases hZ b hz with hz|⟨hz,_⟩
  ·exact h.zf b hz hf
  ·have:=h.flt b hf;omega
 ·rcases hZ b hz with hz|⟨_,hz⟩
  ·exact za9 (h.zlt b hz) hs
  ·exact hz
 ·rcases hZ b hz with hz|⟨hz,_⟩
  ·exact h.zfr b hz
  ·exact .inl (je h.size hz)
 ·rw[<-h.old k hk hx];refine hm k (za9 hk h.size) (fun hz=>?_);rcases h.zfr k hz with hb|hb
  ·omega
  ·exact hx hb
 ·have h1:=h.hx hst b off u hb hu h0;by_cases hz:Z b
  ·exact hH hst b off u hb hz hu h1
  ·have hlt:b<w.heap.size:=by
    unfold World.cell? at h1;split at h1
    ·rename_i heq;exact(Array.getElem?_eq_some_iff.1 heq).1
    ·cases h1
   rw[World.cell?_of_block (a:=⟨b,off,none⟩) (hm b hlt hz)];exact h1
theorem kp_put(h:Inv C F O Z D a w){d:Nat}{v:Value}(hd:d<a.tmps.size)(hlo:C.lo<=d\/v=a.tmps.getD d undef):∀t,t<C.lo->(a.put (some d) v).tmps.getD t undef=C.t0.getD t undef:=by
 intro t ht;by_cases htd:t=d
 ·subst htd;rcases hlo with hlo|hlo
  ·omega
  ·simp only[Act.put];rw[QO hd,hlo];exact h.kp t ht
 ·simp only[Act.put];rw[kt htd];exact h.kp t ht
theorem putVal(h:Inv C F O Z D a w){d:Nat}{g:Bool}{x:V}{v:Value}(hd:d<a.tmps.size)(hlo:C.lo<=d\/v=a.tmps.getD d undef){cs:List Value}{On:Nat->Prop}
 (hx:g=true->x.reg cs v/\Rep C.cz w F x cs On) (hO:∀b,On b->Z b) (hun:g=false->v=undef):
 Inv C F (fun t=>if t=d then On else O t) (fun b=>Z b/\¬On b) (D.put d g (.val x)) (a.put (some d) v) w:=by
 have hpr:∀s ver,ver<=(D s).ver->za6 C.cz w w D (D.put d g (.val x)) a.tmps (a.put (some d) v).tmps s ver:=by
  intro s ver hver;by_cases hsd:s=d
  ·subst hsd;intro x' hx';rw[Env.own_put_eq hver]at hx';cases hx'
  ·intro x' hx';rw[Env.own_put_ne hsd]at hx';refine⟨x',hx',fun p u h1 h2=>⟨h1,?_⟩,fun p r h1 h2=>⟨h1,?_⟩⟩
   ·simp only[Act.put]at h2
    rwa [kt hsd]at h2
   ·simp only[Act.put]at h2
    rwa [kt hsd]at h2
 refine⟨fun t hg=>?_,fun s t b hst hb=>?_,fun s b hb=>?_,fun s b hb=>?_,fun b hz=>h.zf b hz.1,fun s b hb=>?_,fun b hz=>h.zlt b hz.1,h.flt,fun s b hb=>?_,fun b hz=>h.zfr b hz.1,
  h.f0,h.ffr,h.old,h.size,h.os,h.tape,h.output,h.defers,fun t s ver hr=>?_,fun t hgt hut=>?_,by simpa [Act.put]using h.ts,h.kp_put hd hlo,h.hx⟩
 ·by_cases htd:t=d
  ·subst htd;simp only[Env.put,if_true]at hg ⊢;refine⟨by simpa [Act.put]using hd,fun y hy=>?_,fun hn=>absurd rfl (hn x)⟩;simp only[A.val.injEq]at hy;subst hy;obtain⟨h1,h2⟩:=hx hg;exact⟨cs,by simp only[Act.put];rw[QO hd];exact h1,h2⟩
  ·simp only[Env.put,htd,if_false]at hg ⊢;obtain⟨h1,h2,h3⟩:=h.slot t hg;refine⟨by simpa [Act.put]using h1,fun y hy=>?_,fun hn=>?_⟩
   ·simp only[Act.put];rw[kt htd];exact h2 y hy
   ·have:=(h3 hn).pres (D':=D.put d g (.val x)) (tmps':=(a.put (some d) v).tmps) (fun s ver hr=>hpr s ver (h.wf t s ver hr)) (fun _ h=>h) (fun _ _=>rfl);simp only[Act.put]at this ⊢;rw[kt htd];exact this
 ·split at hb
  ·rename_i hsd;subst hsd;rw[if_neg (Ne.symm hst)];exact fun ht=>h.oz t b ht (hO b hb)
  ·split
   ·exact fun ht=>h.oz s b hb (hO b ht)
   ·exact h.oo s t b hst hb
 ·split at hb
  ·exact h.zf b (hO b hb)
  ·exact h.of s b hb
 ·split at hb
  ·exact fun hz=>hz.2 hb
  ·exact fun hz=>h.oz s b hb hz.1
 ·split at hb
  ·exact h.zlt b (hO b hb)
  ·exact h.olt s b hb
 ·split at hb
  ·exact h.zfr b (hO b hb)
  ·exact h.ofr s b hb
 ·by_cases htd:t=d
  ·subst htd;simp[Env.put,A.refs]at hr
  ·simp only[Env.put,htd,if_false]at hr;have:=h.wf t s ver hr;by_cases hsd:s=d
   ·subst hsd;simp only[Env.put,if_true];omega
   ·simp only[Env.put,hsd,if_false];exact this
 ·by_cases htd:t=d
  ·subst htd;simp only[Env.put,if_true]at hgt;simp only[Act.put];rw[QO hd];exact hun hgt
  ·simp only[Env.put,htd,if_false]at hgt hut;simp only[Act.put];rw[kt htd];exact h.und t hgt hut
theorem putRef(h:Inv C F O Z D a w){d:Nat}{g:Bool}{x:A}{v:Value}(hd:d<a.tmps.size)(hlo:C.lo<=d\/v=a.tmps.getD d undef)(hn:∀y,x≠.val y)(hx:g=true->Holds C.cz w F D a.tmps x v)(hun:g=false->v=undef)
 (hr0:∀s ver,x.refs=some (s,ver)->ver<=(D s).ver):
 Inv C F O Z (D.put d g x) (a.put (some d) v) w:=by
 have hpr:∀s ver,ver<=(D s).ver->za6 C.cz w w D (D.put d g x) a.tmps (a.put (some d) v).tmps s ver:=by
  intro s ver hver;by_cases hsd:s=d
  ·subst hsd;intro x' hx';rw[Env.own_put_eq hver]at hx';cases hx'
  ·intro x' hx';rw[Env.own_put_ne hsd]at hx';refine⟨x',hx',fun p u h1 h2=>⟨h1,?_⟩,fun p r h1 h2=>⟨h1,?_⟩⟩
   ·simp only[Act.put]at h2
    rwa [kt hsd]at h2
   ·simp only[Act.put]at h2
    rwa [kt hsd]at h2
 refine⟨fun t hg=>?_,h.oo,h.of,h.oz,h.zf,h.olt,h.zlt,h.flt,h.ofr,h.zfr,
  h.f0,h.ffr,h.old,h.size,h.os,h.tape,h.output,h.defers,fun t s ver hr=>?_,fun t hgt hut=>?_,by simpa [Act.put]using h.ts,h.kp_put hd hlo,h.hx⟩
 ·by_cases htd:t=d
  ·subst htd;simp only[Env.put,if_true]at hg ⊢;refine⟨by simpa [Act.put]using hd,fun y hy=>absurd hy (hn y),fun _=>?_⟩;have:=(hx hg).pres (D':=D.put t g x) (tmps':=(a.put (some t) v).tmps) (fun s ver hr=>hpr s ver (hr0 s ver hr)) (fun _ h=>h) (fun _ _=>rfl);simp only[Act.put]at this ⊢;rw[QO hd];exact this
  ·simp only[Env.put,htd,if_false]at hg ⊢;obtain⟨h1,h2,h3⟩:=h.slot t hg;refine⟨by simpa [Act.put]using h1,fun y hy=>?_,fun hn=>?_⟩
   ·simp only[Act.put];rw[kt htd];exact h2 y hy
   ·have:=(h3 hn).pres (D':=D.put d g x) (tmps':=(a.put (some d) v).tmps) (fun s ver hr=>hpr s ver (h.wf t s ver hr)) (fun _ h=>h) (fun _ _=>rfl);simp only[Act.put]at this ⊢;rw[kt htd];exact this
 ·by_cases htd:t=d
  ·subst htd;simp only[Env.put,if_true]at hr;have:=hr0 s ver hr;by_cases hsd:s=t
   ·subst hsd;simp only[Env.put,if_true];omega
   ·simp only[Env.put,hsd,if_false];exact this
  ·simp only[Env.put,htd,if_false]at hr;have:=h.wf t s ver hr;by_cases hsd:s=d
   ·subst hsd;simp only[Env.put,if_true];omega
   ·simp only[Env.put,hsd,if_false];exact this
 ·by_cases htd:t=d
  ·subst htd;simp only[Env.put,if_true]at hgt;simp only[Act.put];rw[QO hd];exact hun hgt
  ·simp only[Env.put,htd,if_false]at hgt hut;simp only[Act.put];rw[kt htd];exact h.und t hgt hut
theorem drop(h:Inv C F O Z D a w)(d:Nat):Inv C F (fun t=>if t=d then fun _=>False else O t) (fun b=>Z b\/((D d).g=true/\(∃x,(D d).a=.val x)/\O d b)) (D.drp d) a w:=by
 have hpr:∀s ver,ver<=(D s).ver->za6 C.cz w w D (D.drp d) a.tmps a.tmps s ver:=by
  intro s ver hver;by_cases hsd:s=d
  ·subst hsd;intro x' hx';rw[Env.own_drp_eq]at hx';cases hx'
  ·intro x' hx';rw[Env.own_drp_ne hsd]at hx';exact⟨x',hx',fun p u h1 h2=>⟨h1,h2⟩,fun p r h1 h2=>⟨h1,h2⟩⟩
 refine⟨fun t hg=>?_,fun s t b hst hb=>?_,fun s b hb=>?_,fun s b hb hz=>?_,fun b hz=>?_,fun s b hb=>?_,fun b hz=>?_,h.flt,fun s b hb=>?_,fun b hz=>?_,
  h.f0,h.ffr,h.old,h.size,h.os,h.tape,h.output,h.defers,fun t s ver hr=>?_,fun t hgt hut=>?_,h.ts,h.kp,h.hx⟩
 ·by_cases htd:t=d
  ·subst htd;simp[Env.drp]at hg
  ·simp only[Env.drp,htd,if_false]at hg ⊢;obtain⟨h1,h2,h3⟩:=h.slot t hg;refine⟨h1,fun y hy=>h2 y hy,fun hn=>?_⟩;exact(h3 hn).pres (fun s ver hr=>hpr s ver (h.wf t s ver hr)) (fun _ h=>h) (fun _ _=>rfl)
 ·split at hb
  ·exact hb.elim
  ·split
   ·exact fun h=>h
   ·exact h.oo s t b hst hb
 ·split at hb
  ·exact hb.elim
  ·exact h.of s b hb
 ·split at hb
  ·exact hb.elim
  ·rename_i hsd;rcases hz with hz|⟨_,_,hz⟩
   ·exact h.oz s b hb hz
   ·exact h.oo s d b hsd hb hz
 ·rcases hz with hz|⟨_,_,hz⟩
  ·exact h.zf b hz
  ·exact h.of d b hz
 ·split at hb
  ·exact hb.elim
  ·exact h.olt s b hb
 ·rcases hz with hz|⟨_,_,hz⟩
  ·exact h.zlt b hz
  ·exact h.olt d b hz
 ·split at hb
  ·exact hb.elim
  ·exact h.ofr s b hb
 ·rcases hz with hz|⟨_,_,hz⟩
  ·exact h.zfr b hz
  ·exact h.ofr d b hz
 ·by_cases htd:t=d
  ·subst htd;simp[Env.drp,A.refs]at hr
  ·simp only[Env.drp,htd,if_false]at hr;have:=h.wf t s ver hr;by_cases hsd:s=d
   ·subst hsd;simp only[Env.drp,if_true];omega
   ·simp only[Env.drp,hsd,if_false];exact this
 ·by_cases htd:t=d
  ·subst htd;simp[Env.drp]at hut
  ·simp only[Env.drp,htd,if_false]at hgt hut;exact h.und t hgt hut
end Inv
end Go.Ax
namespace Go.Ax
section
variable {cz:TypeId->Nat}{w w':World}{F:Nat->Prop}
theorem V.isH_setKid(x:V)(i:Nat)(y:V):(x.setKid i y).isH=x.isH:=by cases x<;>rfl
theorem V.kid_setKid{x:V}{i j:Nat}{y:V}(hj:x.hasKid j)(hi:(x.setKid j y).hasKid i):
 x.hasKid i/\(((x.setKid j y).kid i=y/\x.kid i=x.kid j/\(i=j\/∃e c,x=.box e c))\/(i≠j/\(x.setKid j y).kid i=x.kid i)):=by
 cases x with
 |slc o e d es=>
  simp only[V.hasKid,V.setKid,List.length_set]at*;refine⟨hi,?_⟩;by_cases h:i=j
  ·subst h;left;simp[V.kid,hj.2]
  ·right;refine⟨h,?_⟩;simp[V.kid,ZO (Ne.symm h)]
 |agg fs=>
  simp only[V.hasKid,V.setKid,List.length_set]at*;refine⟨hi,?_⟩;by_cases h:i=j
  ·subst h;left;simp[V.kid,hj]
  ·right;refine⟨h,?_⟩;simp[V.kid,ZO (Ne.symm h)]
 |box e c=>exact⟨trivial,.inl ⟨rfl,rfl,.inr ⟨e,c,rfl⟩⟩⟩
 |_=>exact hj.elim
theorem zfB(cz:TypeId->Nat)(w:World){y:V}(hy:∀i,¬y.hasKid i)(hh:y.isH=false):∀(q:List Nat) (x:V) (p:List Nat) (b o:Nat),y.size=(x.at q).size->x.okp q->(x.upd q y).okp p->
 x.okp p/\locM cz w p (x.upd q y) b o=locM cz w p x b o/\(((x.upd q y).at p).isH=true->(x.at p).isH=true)
 |[],x,p,b,o,_,_,hp=>by
  cases p with
  |nil=>exact⟨trivial,rfl,fun h=>by simp[V.upd,V.at,hh]at h⟩
  |cons i p=>exact absurd hp.1 (hy i)
 |j::q,x,p,b,o,hs,hq,hp=>by
  cases p with
  |nil=>exact⟨trivial,rfl,fun h=>by simp only[V.upd,V.at]at h ⊢;rwa [V.isH_setKid]at h⟩
  |cons i p=>
   simp only[V.upd]at hp ⊢;obtain⟨hi1,hi2⟩:=hp;obtain⟨hxi,hk⟩:=V.kid_setKid hq.1 hi1;rcases hk with⟨hk1,hk2,hij⟩|⟨hij,hk1⟩
   ·rw[hk1]at hi2;have ih:=fun b o=>zfB cz w hy hh q (x.kid j) p b o hs hq.2 hi2;refine⟨⟨hxi,by rw[hk2];exact(ih 0 0).1⟩,?_,?_⟩
    ·cases x with
     |slc o' e d es=>
      rcases hij with rfl|⟨_,_,h⟩
      ·simp only[V.setKid,locM];have e1:(es.set i ((V.slc o' e d es).kid i|>.upd q y)).getD i d=((V.slc o' e d es).kid i).upd q y:=hk1;rw[e1];split
       ·exact(ih _ _).2.1
       ·rfl
      ·cases h
     |agg fs=>
      rcases hij with rfl|⟨_,_,h⟩
      ·simp only[V.setKid,locM];have e1:(fs.set i ((V.agg fs).kid i|>.upd q y)).getD i (.hole 0)=((V.agg fs).kid i).upd q y:=hk1;have hlt:i<fs.length:=hq.1;have e2:V.offs (fs.set i ((V.agg fs).kid i|>.upd q y)) i=V.offs fs i:=V.offs_set i (yH (.hole 0) hlt) (V.size_upd q _ y hq.2 hs);rw[e1,e2];exact(ih _ _).2.1
      ·cases h
     |box e c=>
      simp only[V.setKid,locM];split
      ·exact(ih _ _).2.1
      ·rfl
     |_=>exact hq.1.elim
    ·simp only[V.at];rw[hk1,hk2];exact(ih 0 0).2.2
   ·rw[hk1]at hi2;refine⟨⟨hxi,hi2⟩,?_,?_⟩
    ·cases x with
     |slc o' e d es=>
      simp only[V.setKid,locM];have e1:(es.set j ((V.slc o' e d es).kid j|>.upd q y)).getD i d=es.getD i d:=hk1;rw[e1]
     |agg fs=>
      simp only[V.setKid,locM];have e1:(fs.set j ((V.agg fs).kid j|>.upd q y)).getD i (.hole 0)=fs.getD i (.hole 0):=hk1;have hlt:j<fs.length:=hq.1;have e2:V.offs (fs.set j ((V.agg fs).kid j|>.upd q y)) i=V.offs fs i:=V.offs_set i (yH (.hole 0) hlt) (V.size_upd q _ y hq.2 hs);rw[e1,e2]
     |box e c=>
      simp only[V.setKid,locM];have e1:(c.upd q y)=c:=hk1;rw[show((V.box e c).kid j).upd q y=c from e1]
     |_=>exact hq.1.elim
    ·simp only[V.at];rw[hk1];exact id
theorem zer(cz:TypeId->Nat)(w:World){y:V}(hy:∀i,¬y.hasKid i)(hh:y.isH=false){q:List Nat}{x:V}{p:List Nat}{v:Value}(hs:y.size=(x.at q).size)(hq:x.okp q)(hq0:q≠[])
 (hp:(x.upd q y).okp p):locV cz w p (x.upd q y) v=locV cz w p x v:=by
 cases q with
 |nil=>exact absurd rfl hq0
 |cons j q=>
  cases p with
  |nil=>simp[locV]
  |cons i p=>
   simp only[V.upd]at hp ⊢;obtain⟨hi1,hi2⟩:=hp;obtain⟨hxi,hk⟩:=V.kid_setKid hq.1 hi1;rcases hk with⟨hk1,hk2,hij⟩|⟨hij,hk1⟩
   ·rw[hk1]at hi2;have ih:=fun b o=>zfB cz w hy hh q (x.kid j) p b o hs hq.2 hi2
    cases x with
    |slc o' e d es=>
     rcases hij with rfl|⟨_,_,h⟩
     ·have e1:(es.set i ((V.slc o' e d es).kid i|>.upd q y)).getD i d=((V.slc o' e d es).kid i).upd q y:=hk1
      cases v with
      |slice ad l c=>
       cases ad with
       |none=>simp[locV,V.setKid]
       |some ad=>simp only[V.setKid,locV];rw[e1];exact(ih _ _).2.1
      |_=>simp[locV,V.setKid]
     ·cases h
    |agg fs=>simp[locV,V.setKid]
    |box e c=>
     cases v with
     |pointer ad=>
      cases ad with
      |none=>simp[locV,V.setKid]
      |some ad=>simp only[V.setKid,locV];exact(ih _ _).2.1
     |_=>simp[locV,V.setKid]
    |_=>exact hq.1.elim
   ·cases x with
    |slc o' e d es=>
     have e1:(es.set j ((V.slc o' e d es).kid j|>.upd q y)).getD i d=es.getD i d:=hk1
     cases v with
     |slice ad l c=>
      cases ad with
      |none=>simp[locV,V.setKid]
      |some ad=>simp only[V.setKid,locV];rw[e1]
     |_=>simp[locV,V.setKid]
    |agg fs=>simp[locV,V.setKid]
    |box e c=>
     have e1:((V.box e c).kid j).upd q y=c:=hk1;simp only[V.setKid];rw[e1]
    |_=>exact hq.1.elim
theorem zl8{y:V}(hy:∀i,¬y.hasKid i)(hh:y.isH=false){q:List Nat}{x:V}{p:List Nat}(hs:y.size=(x.at q).size)(hq:x.okp q)(hp:(x.upd q y).okp p):x.okp p:=
 (zfB (fun _=>0) default hy hh q x p 0 0 hs hq hp).1
theorem Kr{x:V}{q:List Nat}(hq:x.okp q)(hq0:q≠[]):∀fs,x≠.tup fs:=by
 rintro fs rfl
 cases q with
 |nil=>exact hq0 rfl
 |cons i q=>exact hq.1
theorem V.upd_not_tup{x y:V}{q:List Nat}(hq:x.okp q)(hq0:q≠[]):∀fs,x.upd q y≠.tup fs:=by
 intro fs h
 cases q with
 |nil=>exact hq0 rfl
 |cons i q=>cases x<;>simp[V.upd,V.setKid]at h;exact hq.1
theorem znC(cz:TypeId->Nat)(w:World){y:V}(hy:∀i,¬y.hasKid i)(hh:y.isH=false){q:List Nat}{x:V}{p:List Nat}{v h:Value}(hs:y.size=(x.at q).size)(hq:x.okp q)(hq0:q≠[])
 (hp:(x.upd q y).okv p) (he:hdrV cz w p (x.upd q y) v=some h):x.okv p/\hdrV cz w p x v=some h:=by
 have hnt:=Kr hq hq0;have hp':=V.okv_of_ne hp (V.upd_not_tup hq hq0);refine⟨V.okv_of_okp (zl8 hy hh hs hq hp'),?_⟩
 cases p with
 |nil=>exact he
 |cons i p=>
  have e1:∀(x:V),(∀fs,x≠.tup fs)->hdrV cz w (i::p) x v=if(x.at (i::p)).isH then(locV cz w (i::p) x v).bind fun a=>w.cell? ⟨a.1,a.2,none⟩else none:=by
   intro x hx
   cases p with
   |nil=>cases x<;>first|rfl|exact absurd rfl (hx _)
   |cons j p=>rfl
  rw[e1 _ (V.upd_not_tup hq hq0)]at he;rw[e1 _ hnt];split at he
  ·rename_i hH;have:=(zfB cz w hy hh q x (i::p) 0 0 hs hq hp').2.2 hH;rw[if_pos this,<-zer cz w hy hh hs hq hq0 hp'];exact he
  ·cases he
end
namespace Inv
variable {C:Ctx}{F:Nat->Prop}{O:Nat->Nat->Prop}{Z:Nat->Prop}{D:Env}{a:Act}{w w':World}
theorem take(h:Inv C F O Z D a w){s:Nat}{p:List Nat}{x:V}(hg:(D s).g=true)(hx:(D s).a=.val x)(hok:x.okp p)(hp:p≠[])(hna:∀fs,x≠.agg fs):
 ∃b o cy Oy,locV C.cz w p x (a.tmps.getD s undef)=some (b,o)/\qK w b o cy/\Rep C.cz w F (x.at p) cy Oy/\O s b/\¬Oy b/\(∀z,Oy z->O s z)/\
  Inv C F (fun t=>if t=s then fun z=>O s z/\¬Oy z else O t) (fun z=>Z z\/Oy z) (D.mod s (x.upd p (.hole (x.at p).size))) a w:=by
 obtain⟨h1,h2,_⟩:=h.slot s hg;obtain⟨cs,hreg,hrep⟩:=h2 x hx;obtain⟨b,o,cy,Oy,g1,g2,g3,g4,g5,g6,g7⟩:=hrep.takeV hreg hok hp hna;obtain⟨g8,g9⟩:=g7 _ rfl;refine⟨b,o,cy,Oy,g1,g2,g3,g5,g6,g4,?_⟩
 have hpr:∀s' ver,za6 C.cz w w D (D.mod s (x.upd p (.hole (x.at p).size))) a.tmps a.tmps s' ver:=by
  intro s' ver x' hx';by_cases hs:s'=s
  ·subst hs;rw[Env.own_mod_eq]at hx';split at hx'
   ·rename_i hv;split at hx'
    case isFalse=>cases hx'
    simp only[za]at hx';subst hx'
    have hxo:x.owned=true:=by
     cases p with
     |nil=>exact absurd rfl hp
     |cons i p=>cases x<;>first|rfl|exact hok.1.elim|exact hok.1.1|exact absurd rfl (hna _)
    refine⟨x,Env.own_iff'.2 ⟨hg,hv.2,hx,hxo⟩,fun q u hq hu=>?_,fun q r hq hr=>?_⟩
    ·exact znC C.cz w (y:=.hole (x.at p).size) (fun _ h=>h) rfl rfl hok hp hq hu
    ·rw[zer C.cz w (y:=.hole (x.at p).size) (fun _ h=>h) rfl rfl hok hp hq]at hr;exact⟨zl8 (y:=.hole (x.at p).size) (fun _ h=>h) rfl rfl hok hq,hr⟩
   ·cases hx'
  ·rw[Env.own_mod_ne hs]at hx';exact⟨x',hx',fun _ _ h1 h2=>⟨h1,h2⟩,fun _ _ h1 h2=>⟨h1,h2⟩⟩
 refine⟨fun t hgt=>?_,fun t t' b hst hb=>?_,fun t b hb=>?_,fun t b hb hz=>?_,fun b hz=>?_,fun t b hb=>?_,fun b hz=>?_,h.flt,fun t b hb=>?_,fun b hz=>?_,
  h.f0,h.ffr,h.old,h.size,h.os,h.tape,h.output,h.defers,fun t s' ver hr=>?_,fun t hgt hut=>?_,h.ts,h.kp,h.hx⟩
 ·by_cases hts:t=s
  ·subst hts;refine⟨h1,fun y hy=>?_,fun hn=>?_⟩
   ·simp only[Env.mod,if_true,A.val.injEq]at hy;subst hy;simp only[if_true];exact⟨cs,g9,g8⟩
   ·simp[Env.mod]at hn
  ·simp only[Env.mod,hts,if_false]at hgt ⊢;obtain⟨e1,e2,e3⟩:=h.slot t hgt;exact⟨e1,e2,fun hn=>(e3 hn).pres (fun s' ver _=>hpr s' ver) (fun _ h=>h) (fun _ _=>rfl)⟩
 ·split at hb
  ·rename_i hts;subst hts;rw[if_neg (Ne.symm hst)];exact h.oo _ _ b hst hb.1
  ·split
   ·rename_i _ hts';subst hts';exact fun hz=>h.oo _ _ b hst hb hz.1
   ·exact h.oo _ _ b hst hb
 ·split at hb
  ·exact h.of _ b hb.1
  ·exact h.of _ b hb
 ·split at hb
  ·exact hz.elim (h.oz _ b hb.1) (fun hz=>hb.2 hz)
  ·rename_i hts;exact hz.elim (h.oz _ b hb) (fun hz=>h.oo _ _ b hts hb (g4 b hz))
 ·exact hz.elim (h.zf b) (fun hz=>h.of s b (g4 b hz))
 ·split at hb
  ·exact h.olt _ b hb.1
  ·exact h.olt _ b hb
 ·exact hz.elim (h.zlt b) (fun hz=>h.olt s b (g4 b hz))
 ·split at hb
  ·exact h.ofr _ b hb.1
  ·exact h.ofr _ b hb
 ·exact hz.elim (h.zfr b) (fun hz=>h.ofr s b (g4 b hz))
 ·have hv:∀s',((D.mod s (x.upd p (.hole (x.at p).size))) s').ver=(D s').ver:=by
   intro s';simp only[Env.mod];split
   ·rename_i e;rw[e]
   ·rfl
  rw[hv];by_cases hts:t=s
  ·subst hts;simp[Env.mod,A.refs]at hr
  ·simp only[Env.mod,hts,if_false]at hr;exact h.wf t s' ver hr
 ·by_cases hts:t=s
  ·subst hts;simp only[Env.mod,if_true]at hgt;rw[hg]at hgt;cases hgt
  ·simp only[Env.mod,hts,if_false]at hgt hut;exact h.und t hgt hut
def _root_.Go.Ax.Env.bmp(D:Env)(d:Nat)(x:V):Env:=fun t=>if t=d then⟨(D d).g,(D d).u,(D d).ver+1,.val x⟩else D t
theorem takeAll(h:Inv C F O Z D a w){s:Nat}{x:V}(hg:(D s).g=true)(hx:(D s).a=.val x):
 ∃cs,x.reg cs (a.tmps.getD s undef)/\Rep C.cz w F x cs (O s)/\s<a.tmps.size/\
  Inv C F (fun t=>if t=s then fun _=>False else O t) (fun z=>Z z\/O s z) (D.drp s) a w:=by
 obtain⟨h1,h2,_⟩:=h.slot s hg;obtain⟨cs,hreg,hrep⟩:=h2 x hx;refine⟨cs,hreg,hrep,h1,?_⟩;have:=h.drop s
 refine⟨this.slot,this.oo,this.of,fun s' b hb hz=>this.oz s' b hb (hz.imp id (fun h=>⟨hg,⟨x,hx⟩,h⟩)),fun b hz=>this.zf b (hz.imp id (fun h=>⟨hg,⟨x,hx⟩,h⟩)),this.olt,
  fun b hz=>this.zlt b (hz.imp id (fun h=>⟨hg,⟨x,hx⟩,h⟩)),this.flt,this.ofr,fun b hz=>this.zfr b (hz.imp id (fun h=>⟨hg,⟨x,hx⟩,h⟩)),this.f0,this.ffr,this.old,this.size,this.os,this.tape,this.output,this.defers,this.wf,this.und,this.ts,this.kp,this.hx⟩
theorem lessZ(h:Inv C F O Z D a w){Z':Nat->Prop}(hz:∀b,Z' b->Z b):Inv C F O Z' D a w:=
 ⟨h.slot,h.oo,h.of,fun s b hb hb'=>h.oz s b hb (hz b hb'),fun b hb=>h.zf b (hz b hb),h.olt,fun b hb=>h.zlt b (hz b hb),h.flt,h.ofr,fun b hb=>h.zfr b (hz b hb),h.f0,h.ffr,h.old,h.size,h.os,h.tape,
  h.output,h.defers,h.wf,h.und,h.ts,h.kp,h.hx⟩
theorem freezeZ(h:Inv C F O Z D a w){Zf:Nat->Prop}(hz:∀b,Zf b->Z b)(hn:∀b,Zf b->C.w0.heap.size<=b\/(C.st=false/\C.X b)):Inv C (fun b=>F b\/Zf b) O (fun b=>Z b/\¬Zf b) D a w:=by
 refine⟨fun t hg=>?_,h.oo,fun s b hb hf=>hf.elim (h.of s b hb) (fun hf=>h.oz s b hb (hz b hf)),fun s b hb hb'=>h.oz s b hb hb'.1,fun b hb hf=>hf.elim (h.zf b hb.1) hb.2,h.olt,
  fun b hb=>h.zlt b hb.1,fun b hb=>hb.elim (h.flt b) (fun hb=>h.zlt b (hz b hb)),h.ofr,fun b hb=>h.zfr b hb.1,fun b hb=>.inl (h.f0 b hb),fun b hb=>hb.elim (h.ffr b) (fun hb=>.inr (hn b hb)),h.old,h.size,
  h.os,h.tape,h.output,h.defers,h.wf,h.und,h.ts,h.kp,h.hx⟩
 obtain⟨h1,h2,h3⟩:=h.slot t hg;refine⟨h1,fun x hx=>?_,fun hn=>(h3 hn).pres (fun s ver _=>za6.refl s ver D a.tmps) (fun _ h=>.inl h) (fun _ _=>rfl)⟩;obtain⟨cs,g1,g2⟩:=h2 x hx;exact⟨cs,g1,g2.mono (fun _ h=>.inl h) (fun _ h=>h)⟩
theorem putAt(h:Inv C F O Z D a w){s:Nat}{p:List Nat}{x y:V}{b o:Nat}{cy:List Value}{On:Nat->Prop}(hg:(D s).g=true)(hx:(D s).a=.val x)(hok:x.okp p)(hp:p≠[])(hna:∀fs,x≠.agg fs)
 (hat:x.at p=.hole y.size) (hloc:locV C.cz w p x (a.tmps.getD s undef)=some (b,o)) (hU:Upd w w' b o y.size) (hsz:w'.heap.size=w.heap.size) (hy:Rep C.cz w' F y cy On) (hcy:qK w' b o cy)
 (hOn:∀z,On z->Z z) (hH:C.st=true->∀off u,Jv u=true->w.cell? ⟨b,off,none⟩=some u->w'.cell? ⟨b,off,none⟩=some u) (ho:w'.os=w.os) (ht:w'.tape=w.tape) (hpo:Kz w w')
 {D':Env} (hD:D'=D.bmp s (x.upd p y)\/(D'=D.mod s (x.upd p y)/\∀ver,za6 C.cz w w' D (D.mod s (x.upd p y)) a.tmps a.tmps s ver)):
 Inv C F (fun t=>if t=s then fun z=>O s z\/On z else O t) (fun z=>Z z/\¬On z) D' a w':=by
 obtain⟨h1,h2,_⟩:=h.slot s hg;obtain⟨cs,hreg,hrep⟩:=h2 x hx
 have hb:O s b:=by
  obtain⟨b',o',_,_,g1,_,_,_,g5,_⟩:=hrep.takeV hreg hok hp hna;rw[hloc]at g1;simp only[za,zb]at g1;rw[g1.1];exact g5
 have hbF:¬F b:=h.of s b hb;have hbZ:¬Z b:=h.oz s b hb
 have hnew:Rep C.cz w' F (x.upd p y) cs (fun z=>O s z\/On z)/\(x.upd p y).reg cs (a.tmps.getD s undef):=by
  cases p with
  |nil=>exact absurd rfl hp
  |cons i p=>
   cases hrep with
   |int=>exact hok.1.elim
   |bool=>exact hok.1.elim
   |str=>exact hok.1.elim
   |hole=>exact hok.1.elim
   |fz0=>have:=hok.1;simp[V.hasKid]at this
   |fz=>have:=hok.1;simp[V.hasKid]at this
   |own0=>have:=hok.1;simp[V.hasKid]at this
   |tup=>exact hok.1.elim
   |fb=>exact hok.1.elim
   |fn=>exact hok.1.elim
   |agg fs=>exact absurd rfl (hna fs)
   |own e d es b1 len cap cur cs' Os O' hb1 hsz1 hl hcap hm hO hOs hdis hcs hr hd9=>
    let hd:Value:=.slice (some ⟨b1,0,none⟩) len cap
    let W:World:=w.alloc (.cells #[hd] 0)
    let W':World:=w'.alloc (.cells #[hd] 0)
    have hW:∀k,k<w.heap.size->W.heap[k]? =w.heap[k]? :=fun k hk=>Deep.blk_alloc_lt w _ k hk;have hW':∀k,k<w'.heap.size->W'.heap[k]? =w'.heap[k]? :=fun k hk=>Deep.blk_alloc_lt w' _ k hk
    have hcW:qK W w.heap.size 0 [hd]:=by
     intro j v hj
     cases j with
     |zero=>simp at hj;subst hj;show(w.alloc _).cell? _=_;simp
     |succ j=>simp at hj
    have hblt:b<w.heap.size:=h.olt s b hb;have hrepW:Rep C.cz W F (.slc true e d es) [hd] (O s):=(Rep.own e d es b1 len cap cur cs' Os _ hb1 hsz1 hl hcap hm hO hOs hdis hcs hr hd9).world (fun k hk=>hW k (hk.elim (h.flt k) (h.olt s k)));have hvv:a.tmps.getD s undef=hd:=hreg
    have hlocW:locM C.cz W (i::p) (.slc true e d es) w.heap.size 0=some (b,o):=by
     have e0:=hcW 0 _ rfl;simp only[yk]at e0;simp only[locM];rw[e0];dsimp only[hd];rw[hvv]at hloc;simp only[locV,hd]at hloc;rw[<-hloc];have hi:=yH d hok.1.2
     exact zcH p (es.getD i d) b1 (i*C.cz e) (cs' i) (Os i) (hr i _ hi) (hcs i hok.1.2).2 hok.2 (fun k off u hk _ hu=>by
      have hk':k<w.heap.size:=h.olt s k (hk.elim (fun hk=>(hOs i k hk).1) (fun hk=>by subst hk;exact hO));rw[World.cell?_of_block (a:=⟨k,off,none⟩) (hW k hk')]
      exact hu)
    have hUW:Upd W W' b o y.size:=by
     refine⟨fun k hk=>?_,fun cur e fr hc=>?_,fun j hj=>?_⟩
     ·by_cases hkl:k<w.heap.size
      ·rw[hW k hkl,hW' k (by omega)];exact hU.other k hk
      ·by_cases hke:k=w.heap.size
       ·subst hke;rw[Deep.blk_alloc_new];have:=Deep.blk_alloc_new w' (.cells #[hd] 0);rw[hsz]at this;exact this
       ·have z1:W.heap.size=w.heap.size+1:=Deep.nblk_alloc w _;have z2:W'.heap.size=w'.heap.size+1:=Deep.nblk_alloc w' _;rw[Yz (by omega),Yz (by omega)]
     ·rw[hW b hblt]at hc;obtain⟨c1,e1,e2⟩:=hU.same cur e fr hc;exact⟨c1,by rw[hW' b (by omega)];exact e1,e2⟩
     ·rw[World.cell?_of_block (a:=⟨b,j,none⟩) (hW' b (by omega)),World.cell?_of_block (a:=⟨b,j,none⟩) (hW b hblt)];exact hU.cell j hj
    have hflt':∀k,F k\/On k->k<w'.heap.size:=fun k hk=>by rw[hsz];exact hk.elim (h.flt k) (fun hk=>h.zlt k (hOn k hk))
    obtain⟨cs'',g1,g2,g3,g4⟩:=Rep.putM (hy.world (fun k hk=>hW' k (hflt' k hk))) (hcy.of_block (hW' b (by omega))) hbF hUW (i::p) _ w.heap.size 0 [hd] (O s) hrepW hcW hok hat hlocW
     (fun z hz hz'=>h.oz s z hz' (hOn z hz)) (fun hz=>by have:=h.olt s _ hz;omega) (fun z hz e=>by have:=h.zlt z (hOn z hz);omega)
    rw[g4 (by omega)]at g3;refine⟨g3.world (fun k hk=>?_),?_⟩
    ·symm;apply hW';rw[hsz];rcases hk with hk|hk|hk
     ·exact h.flt k hk
     ·exact h.olt s k hk
     ·exact h.zlt k (hOn k hk)
    ·exact hvv
   |box e c b1 cur cs' Oc O' hb1 hcs hO hOs hr=>
    let hd:Value:=.pointer (some ⟨b1,0,none⟩)
    let W:World:=w.alloc (.cells #[hd] 0)
    let W':World:=w'.alloc (.cells #[hd] 0)
    have hW:∀k,k<w.heap.size->W.heap[k]? =w.heap[k]? :=fun k hk=>Deep.blk_alloc_lt w _ k hk;have hW':∀k,k<w'.heap.size->W'.heap[k]? =w'.heap[k]? :=fun k hk=>Deep.blk_alloc_lt w' _ k hk
    have hcW:qK W w.heap.size 0 [hd]:=by
     intro j v hj
     cases j with
     |zero=>simp at hj;subst hj;show(w.alloc _).cell? _=_;simp
     |succ j=>simp at hj
    have hblt:b<w.heap.size:=h.olt s b hb;have hrepW:Rep C.cz W F (.box e c) [hd] (O s):=(Rep.box e c b1 cur cs' Oc _ hb1 hcs hO hOs hr).world (fun k hk=>hW k (hk.elim (h.flt k) (h.olt s k)));have hvv:a.tmps.getD s undef=hd:=hreg
    have hcells:qK w b1 0 cs':=by
     intro j v hj;subst hcs;simp at hj;simp[World.cell?,hb1,hj]
    have hlocW:locM C.cz W (i::p) (.box e c) w.heap.size 0=some (b,o):=by
     have e0:=hcW 0 _ rfl;simp only[yk]at e0;simp only[locM];rw[e0];dsimp only[hd];rw[hvv]at hloc;simp only[locV,hd]at hloc;rw[<-hloc]
     exact zcH p c b1 0 cs' Oc hr hcells hok.2 (fun k off u hk _ hu=>by
      have hk':k<w.heap.size:=h.olt s k (hk.elim (fun hk=>(hOs k hk).1) (fun hk=>by subst hk;exact hO));rw[World.cell?_of_block (a:=⟨k,off,none⟩) (hW k hk')]
      exact hu)
    have hUW:Upd W W' b o y.size:=by
     refine⟨fun k hk=>?_,fun cur e fr hc=>?_,fun j hj=>?_⟩
     ·by_cases hkl:k<w.heap.size
      ·rw[hW k hkl,hW' k (by omega)];exact hU.other k hk
      ·by_cases hke:k=w.heap.size
       ·subst hke;rw[Deep.blk_alloc_new];have:=Deep.blk_alloc_new w' (.cells #[hd] 0);rw[hsz]at this;exact this
       ·have z1:W.heap.size=w.heap.size+1:=Deep.nblk_alloc w _;have z2:W'.heap.size=w'.heap.size+1:=Deep.nblk_alloc w' _;rw[Yz (by omega),Yz (by omega)]
     ·rw[hW b hblt]at hc;obtain⟨c1,e1,e2⟩:=hU.same cur e fr hc;exact⟨c1,by rw[hW' b (by omega)];exact e1,e2⟩
     ·rw[World.cell?_of_block (a:=⟨b,j,none⟩) (hW' b (by omega)),World.cell?_of_block (a:=⟨b,j,none⟩) (hW b hblt)];exact hU.cell j hj
    have hflt':∀k,F k\/On k->k<w'.heap.size:=fun k hk=>by rw[hsz];exact hk.elim (h.flt k) (fun hk=>h.zlt k (hOn k hk))
    obtain⟨cs'',g1,g2,g3,g4⟩:=Rep.putM (hy.world (fun k hk=>hW' k (hflt' k hk))) (hcy.of_block (hW' b (by omega))) hbF hUW (i::p) _ w.heap.size 0 [hd] (O s) hrepW hcW hok hat hlocW
     (fun z hz hz'=>h.oz s z hz' (hOn z hz)) (fun hz=>by have:=h.olt s _ hz;omega) (fun z hz e=>by have:=h.zlt z (hOn z hz);omega)
    rw[g4 (by omega)]at g3;refine⟨g3.world (fun k hk=>?_),?_⟩
    ·symm;apply hW';rw[hsz];rcases hk with hk|hk|hk
     ·exact h.flt k hk
     ·exact h.olt s k hk
     ·exact h.zlt k (hOn k hk)
    ·exact hvv
 have hmO:∀t k,t≠s->O t k->w'.heap[k]? =w.heap[k]? :=fun t k hts hk=>hU.other k (fun e=>by subst e;exact h.oo t s _ hts hk hb);have hmF:∀k,F k->w'.heap[k]? =w.heap[k]? :=fun k hk=>hU.other k (fun e=>by subst e;exact hbF hk)
 have hown:∀t ver,t≠s->D'.own t ver=D.own t ver:=by
  intro t ver hts;rcases hD with rfl|⟨rfl,_⟩
  ·simp[Env.own,Env.bmp,hts]
  ·exact Env.own_mod_ne hts
 have hself:D' s=⟨(D s).g,(D s).u,(D' s).ver,.val (x.upd p y)⟩/\(D s).ver<=(D' s).ver:=by
  rcases hD with rfl|⟨rfl,_⟩
  ·simp[Env.bmp]
  ·simp[Env.mod]
 have hoth:∀t,t≠s->D' t=D t:=by
  intro t hts;rcases hD with rfl|⟨rfl,_⟩
  ·simp[Env.bmp,hts]
  ·simp[Env.mod,hts]
 have hpr:∀t ver,ver<=(D t).ver->za6 C.cz w w' D D' a.tmps a.tmps t ver:=by
  intro t ver hver;by_cases hts:t=s
  ·subst hts;rcases hD with rfl|⟨rfl,hpr⟩
   ·intro x' hx';rw[Env.own_iff']at hx';simp only[Env.bmp,if_true]at hx';omega
   ·exact hpr ver
  ·intro x' hx';rw[hown t ver hts]at hx';obtain⟨x0,e1,e2,e3⟩:=h.pres_mem (w':=w') t ver (fun k off u hk _ hu=>by rw[World.cell?_of_block (a:=⟨k,off,none⟩) (hmO t k hts hk)];exact hu) x' hx';exact⟨x0,e1,e2,e3⟩
 refine⟨fun t hgt=>?_,fun t t' k hst hk=>?_,fun t k hk=>?_,fun t k hk hz=>?_,fun k hz=>h.zf k hz.1,fun t k hk=>?_,fun k hz=>by rw[hsz];exact h.zlt k hz.1,fun k hk=>by rw[hsz];exact h.flt k hk,
  fun t k hk=>?_,fun k hz=>h.zfr k hz.1,h.f0,h.ffr,fun k hk hkx=>?_,by rw[hsz];exact h.size,ho.trans h.os,ht.trans h.tape,hpo.trans h.output,h.defers,fun t s' ver hr=>?_,fun t hgt hut=>?_,h.ts,h.kp,fun hst k off u hk hu h0=>by
   have h1:=h.hx hst k off u hk hu h0;by_cases hkb:k=b
   ·subst hkb;exact hH hst off u hu h1
   ·rw[World.cell?_of_block (a:=⟨k,off,none⟩) (hU.other k hkb)];exact h1⟩
 ·by_cases hts:t=s
  ·subst hts;refine⟨h1,fun z hz=>?_,fun hn=>?_⟩
   ·rw[hself.1]at hz;simp only[A.val.injEq]at hz;subst hz;simp only[if_true];exact⟨cs,hnew.2,hnew.1⟩
   ·rw[hself.1]at hn;exact absurd rfl (hn _)
  ·rw[hoth t hts]at hgt ⊢;simp only[hts,if_false];obtain⟨e1,e2,e3⟩:=h.slot t hgt;refine⟨e1,fun z hz=>?_,fun hn=>(e3 hn).pres (fun s' ver hr=>hpr s' ver (h.wf t s' ver hr)) (fun _ h=>h) hmF⟩;obtain⟨c,e4,e5⟩:=e2 z hz;exact⟨c,e4,e5.world (fun k hk=>hk.elim (hmF k) (hmO t k hts))⟩
 ·split at hk
  ·rename_i hts;subst hts;rw[if_neg (Ne.symm hst)];rcases hk with hk|hk
   ·exact h.oo _ _ k hst hk
   ·exact fun hz=>h.oz _ k hz (hOn k hk)
  ·split
   ·rename_i _ hts';subst hts';exact fun hz=>hz.elim (h.oo _ _ k hst hk) (fun hz=>h.oz _ k hk (hOn k hz))
   ·exact h.oo _ _ k hst hk
 ·split at hk
  ·exact hk.elim (h.of _ k) (fun hk=>h.zf k (hOn k hk))
  ·exact h.of _ k hk
 ·split at hk
  ·rcases hk with hk|hk
   ·exact h.oz _ k hk hz.1
   ·exact hz.2 hk
  ·exact h.oz _ k hk hz.1
 ·rw[hsz];split at hk
  ·exact hk.elim (h.olt _ k) (fun hk=>h.zlt k (hOn k hk))
  ·exact h.olt _ k hk
 ·split at hk
  ·exact hk.elim (h.ofr _ k) (fun hk=>h.zfr k (hOn k hk))
  ·exact h.ofr _ k hk
 ·rw[<-h.old k hk hkx];refine hU.other k (fun e=>?_);subst e;rcases h.ofr s _ hb with hh|hh
  ·omega
  ·exact hkx hh
 ·by_cases hts:t=s
  ·subst hts;rw[hself.1]at hr;simp[A.refs]at hr
  ·rw[hoth t hts]at hr;have:=h.wf t s' ver hr;by_cases hss:s'=s
   ·subst hss;exact je this hself.2
   ·rw[hoth s' hss];exact this
 ·by_cases hts:t=s
  ·subst hts;rw[hself.1]at hgt;simp only at hgt;rw[hg]at hgt;cases hgt
  ·rw[hoth t hts]at hgt hut;exact h.und t hgt hut
end Inv
end Go.Ax
namespace Go.Ax
def ul(P:Program)(t:TypeId):Option TypeId:=match P.underlying t with|some (.slice e)=>some e|_=>none
def zig(P:Program)(t:TypeId):Option Bool:=match P.underlying t with|some (.struct _)|some (.array _ _)=>some true|some _=>some false|none=>none
def Ku(P:Program)(s f:Nat):Option (Nat×TypeId):=match P.underlying s with|some (.struct fs)=>(fs[f]?).map (fun x=>(x.offset,x.type))|_=>none
def Kg(P:Program)(t:TypeId):Bool:=match P.underlying t with|some .string=>true|_=>false
def zaz(P:Program)(t:TypeId):Option IntKind:=match P.underlying t with|some (.int k)=>some k|_=>none
def ztn(k:IntKind)(n:Int):List Value->Bool
 |[.int k' m]=>k==k'&&n==m
 |_=>false
def zpX(b:Bool):List Value->Bool
 |[.bool b']=>b==b'
 |_=>false
def ztm(s:ByteArray):List Value->Bool
 |[.string s']=>s.data==s'.data
 |_=>false
def ziL:List Value->Bool
 |[.slice none 0 0]=>true
 |_=>false
mutual
def YA:V->List Value->Bool
 | .int k n,cs=>ztn k n cs
 | .bool a,cs=>zpX a cs
 | .str s,cs=>ztm s cs
 | .slc o _ _ es,cs=>o&&es.isEmpty&&ziL cs
 | .agg fs,cs=>zjw fs cs
 | .hole n,cs=>cs.length==n
 | .box _ _,_=>false
 | .tup _,_=>false
 | .fn _ _,_=>false
def zjw:List V->List Value->Bool
 |[],cs=>cs.isEmpty
 |x::xs,cs=>YA x (cs.take x.size)&&zjw xs (cs.drop x.size)
end
def zCn(P:Program):Nat->TypeId->List Value->Option V
 |0,_,_=>none
 |n+1,t,cs=>
  match P.underlying t,cs with
  |some (.int _),[.int k m]=>some (.int k m)
  |some .bool,[.bool b]=>some (.bool b)
  |some .string,[.string s]=>some (.str s)
  |some (.slice e),[.slice none 0 0]=>
   match (P.info? e).bind (·.zero)with
   |some z=>(zCn P n e z.cells.toList).map fun d=>.slc true e d []
   |none=>none
  |some (.struct fs),cs=>(fs.toList.mapM fun f=>zCn P n f.type ((cs.drop f.offset).take (P.cellsOf f.type))).map .agg
  |some _,[_]=>some (.hole 1)
  |_,_=>none
def zag(P:Program)(t:TypeId):Option V:=
 match (P.info? t).bind (·.zero)with
 |some z=>match zCn P 6 t z.cells.toList with
  |some x=>if YA x z.cells.toList&&z.cells.toList.length==P.cellsOf t then some x else none
  |none=>none
 |none=>none
def Zg(P:Program)(t:TypeId)(x:V):Bool:=
 (match zig P t,x with|some b,.agg _=>b|some b,.tup _=>false&&b|some b,.hole _=>false&&b|some b,_=> !b|none,_=>false)&&P.cellsOf t==x.size
mutual
def V.cpv(get:List Nat->V):V->List Nat->V
 | .agg fs,p=>.agg (V.cpvs get fs p 0)
 | .slc o e d es,p=>if o then get p else .slc o e d es
 | .box _ _,p=>get p
 |x,_=>x
def V.cpvs(get:List Nat->V):List V->List Nat->Nat->List V
 |[],_,_=>[]
 |y::ys,p,i=>V.cpv get y (p++[i])::V.cpvs get ys p (i+1)
end
def za4(P:Program)(ty:TypeId):Value->Option V
 | .int k n=>some (.int k n)
 | .bool b=>some (.bool b)
 | .string s=>some (.str s)
 | .pointer none=>some (.hole 1)
 | .slice a l c=>if ziL [.slice a l c]then(match zag P ty with
   |some (.slc true e d [])=>some (.slc true e d [])
   |_=>none)else none
 |_=>none
def opd(P:Program)(D:Env)(ty:TypeId):Operand->Option (Bool×A)
 | .tmp t=>match (D t).a with
   | .val x=>if x.owned then some ((D t).g,.rf t (D t).ver [])else some ((D t).g,.val x)
   |a=>some ((D t).g,a)
 | .const v=>(za4 P ty v).map fun x=>(true,.val x)
 | .func f=>some (true,.val (.fn f []))
 | .global _=>none
def A.look(D:Env):A->Option V
 | .val x=>some x
 | .rf s ver p=>(D.own s ver).map (·.at p)
 | .ag s ver p fs=>(D.own s ver).map fun r=>(V.agg fs).cpv (fun q=>r.at q) p
 |_=>none
mutual
def V.cpok(ok:List Nat->Prop):V->List Nat->Prop
 | .agg fs,p=>V.cpoks ok fs p 0
 | .slc o _ _ _,p=>if o then ok p else True
 | .box _ _,p=>ok p
 |_,_=>True
def V.cpoks(ok:List Nat->Prop):List V->List Nat->Nat->Prop
 |[],_,_=>True
 |y::ys,p,i=>V.cpok ok y (p++[i])/\V.cpoks ok ys p (i+1)
end
def V.okm:V->List Nat->Prop
 |_,[]=>False
 | .agg _,_=>False
 |x,p=>x.okp p
def V.okr:V->List Nat->Prop
 |_,[]=>True
 | .tup fs,[i]=>i<fs.length
 |x,p=>x.okm p/\(x.at p).isH=true
mutual
def V.flat:V->Bool
 | .agg fs=>V.flats fs
 | .tup _=>false
 |_=>true
def V.flats:List V->Bool
 |[]=>true
 |v::vs=>v.flat&&V.flats vs
end
def A.okA(D:Env):A->Prop
 | .val _=>True
 | .rf s ver p=>match D.own s ver with|some r=>r.okr p|none=>False
 | .ag s ver p fs=>match D.own s ver with|some r=>(V.agg fs).cpok (fun q=>r.okm q/\(r.at q).isH=true) p|none=>False
 | .ad s ver p=>match D.own s ver with|some r=>r.okm p|none=>False
 | .fz _=>True
def rdA(s ver:Nat)(p:List Nat)(y:V):Option A:=
 if y.owned then(if y.isH then some (.rf s ver p)else match y with| .agg fs=>if V.flats fs then some (.ag s ver p fs)else none|_=>none)else some (.val y)
def zdU(k:IntKind)(a b:Int):Int:=k.wrap (BitVec.ofInt k.bits a&&&BitVec.ofInt k.bits b).toNat
def zgg(k:IntKind)(a b:Int):Int:=a.fdiv (2^min b.toNat k.bits)
def zex(op:BinOp):V->V->Option (Prop×V)
 | .int k a,.int k' b=>
   if op=.shr then some (0<=b,.int k (zgg k a b))
   else if k=k' then
    match op with
    | .and=>some (True,.int k (zdU k a b))
    | .add=>some (True,.int k (k.wrap (a+b)))
    | .sub=>some (True,.int k (k.wrap (a-b)))
    | .mul=>some (True,.int k (k.wrap (a*b)))
    | .quo=>some (b≠0,.int k (k.wrap (a.tdiv b)))
    | .rem=>some (b≠0,.int k (a.tmod b))
    | .eql=>some (True,.bool (a==b))
    | .neq=>some (True,.bool (a !=b))
    | .lss=>some (True,.bool (decide (a<b)))
    | .leq=>some (True,.bool (decide (a<=b)))
    | .gtr=>some (True,.bool (decide (a>b)))
    | .geq=>some (True,.bool (decide (a>=b)))
    |_=>none
   else none
 | .str a,.str b=>
   match op with
   | .add=>some (a.size+b.size<2^40,.str (a++b))
   | .eql=>some (True,.bool (a.toList==b.toList))
   | .neq=>some (True,.bool !(a.toList==b.toList))
   | .lss=>some (True,.bool (Op.bytesLess a.toList b.toList))
   | .gtr=>some (True,.bool !(Op.bytesLess a.toList b.toList||a.toList==b.toList))
   |_=>none
 |_,_=>none
def zAs(op:BinOp)(a b:Bool):Option V:=
 match op with
 | .eql=>some (.bool (a==b))
 | .neq=>some (.bool !(a==b))
 |_=>none
def A.isAg:A->Bool
 | .ag .. =>true
 |_=>false
def YM(P:Program)(D:Env)(g:Bool):List Operand->List TypeId->Option (Prop×List V×Bool)
 |[],_=>some (True,[],false)
 |x::xs,ts=>
  match opd P D (ts.headD 0) x,YM P D g xs (ts.drop 1)with
  |some (gx,a),some (p,vs,br)=>
   match a.look D with
   |some v=>some (((g=true->gx=true)/\a.okA D)/\p,v.frz::vs,br||v.owned||a.isAg)
   |none=>none
  |_,_=>none
def V.isHole:V->Bool
 | .hole _=>true
 |_=>false
def ym(P:Program)(D:Env)(g:Bool)(ty:Nat->TypeId):List (Nat×Operand)->Option (Prop×List (Nat×V))
 |[]=>some (True,[])
 |(i,x)::xs=>
  match opd P D (ty i) x,ym P D g ty xs with
  |some (gx,.val v),some (p,vs)=>if v.owned&& !(YA v [.slice none 0 0])||v.isHole then none else some ((g=true->gx=true)/\p,(i,v)::vs)
  |_,_=>none
def KZ(fs:List V):List (Nat×V)->Option (List V)
 |[]=>some fs
 |(i,v)::r=>match fs[i]? with
  |some x=>if x.size=v.size then KZ (fs.set i v) r else none
  |none=>none
def zai(P:Program)(D:Env)(g:Bool)(x:Operand):Option (Prop×Int):=
 match opd P D 0 x with
 |some (gx,.val (.int .i64 n))=>some ((g=true->gx=true),n)
 |_=>none
def kP(P:Program)(D:Env)(g:Bool)(d:Int):Option Operand->Option (Prop×Int)
 |none=>some (True,d)
 |some x=>zai P D g x
inductive Fa2 {α β:Type} (R:α->β->Prop):List α->List β->Prop
 |nil:Fa2 R [] []
 |cons {x:α} {y:β} {xs:List α} {ys:List β} (h:R x y) (t:Fa2 R xs ys):Fa2 R (x::xs) (y::ys)
def V.places:List V->Nat->List (Nat×Nat)
 |[],_=>[]
 |v::vs,o=>(o,v.size)::V.places vs (o+v.size)
def zcy(P:Program)(t:TypeId):Option (List V):=
 match zag P t,P.underlying t with
 |some (.agg zs),some (.struct fs)=>if fs.toList.mapM (fun f=>(P.info? f.type).map fun i=>(f.offset,i.size))=some (V.places zs 0)then some zs else none
 |_,_=>none
def zb9(P:Program)(D:Env):List Operand->List TypeId->Bool
 |[],_=>false
 |x::xs,ts=>(match opd P D (ts.headD 0) x with
  |some (_,.val v)=>v.owned
  |some (_,.ag _ _ _ fs)=>V.owneds fs
  |_=>true)||zb9 P D xs (ts.drop 1)
def brK(C:Ctx)(D:Env)(k:FuncId)(xs:List Operand)(ts:List TypeId)(br:Bool):Bool:=br&&(!(C.Φ (3000000000+k) []).isSome||zb9 C.P D xs ts)
def zyB(C:Ctx)(k:FuncId)(r:V):V:=bif (C.Φ (2000000000+k) []).isSome then r.frz else r
theorem ztt{P:Program}{t e:TypeId}(h:ul P t=some e):zaz P t=none:=by
 unfold ul at h;unfold zaz;split at h
 ·rename_i h1;rw[h1]
 ·cases h
theorem zvG{P:Program}{t:TypeId}(h:Kg P t=true):zaz P t=none:=by
 unfold Kg at h;unfold zaz;split at h
 ·rename_i h1;rw[h1]
 ·cases h
def zDo:V->UInt8
 | .int _ n=>UInt8.ofNat n.toNat
 |_=>0
def zgT(es:List V):ByteArray:=⟨(es.map zDo).toArray⟩
def zmp(es:List V):Prop:=∀x∈es,∃n,x=.int .u8 n
def yC(C:Ctx)(D:Env)(g:Bool)(o:Oper):Option (Prop×A):=
 match o.op with
 | .move x=>(opd C.P D o.type x).map fun(gx,a)=>((g=true->gx=true),a)
 | .assign x=>
   match opd C.P D o.type x with
   |some (gx,.val v)=>if v.owned then none else some ((g=true->gx=true),.val v)
   |some (gx,.rf s ver (i::p))=>match D.own s ver with
    |some (.tup _)=>none
    |some _=>some ((g=true->gx=true),.rf s ver (i::p))
    |none=>none
   |some (gx,.rf s ver [])=>match o.dst with
    |some d=>if(C.Φ (1000000000+d) []).isSome then some ((g=true->gx=true),.rf s ver [])else none
    |none=>none
   |_=>none
 | .pick c a b=>
   match opd C.P D 0 c with
   |some (gc,.val (.bool c))=>match opd C.P D 0 (if c then a else b)with
    |some (gx,.val (.bool v))=>some ((g=true->gc=true)/\(g=true->gx=true),.val (.bool v))
    |_=>none
   |_=>none
 | .binOp op xt x y _=>
   match opd C.P D xt x,opd C.P D xt y with
   |some (gx,.val (.bool a)),some (gy,.val (.bool b))=>
    if C.P.underlying xt matches some .bool then(zAs op a b).map fun v=>((g=true->gx=true)/\(g=true->gy=true),.val v)else none
   |some (gx,.val a),some (gy,.val b)=>(zex op a b).map fun(p,v)=>(((g=true->gx=true)/\(g=true->gy=true))/\(g=true->p),.val v)
   |_,_=>none
 | .unOp op _ x=>
   match op,opd C.P D o.type x with
   | .not,some (gx,.val (.bool b))=>some ((g=true->gx=true),.val (.bool !b))
   | .neg,some (gx,.val (.int k n))=>some ((g=true->gx=true),.val (.int k (k.wrap (0-n))))
   |_,_=>none
 | .load t x=>
   match opd C.P D 0 x with
   |some (gx,.fz y)=>if Zg C.P t y then some ((g=true->gx=true),.val y)else none
   |some (gx,.val v)=>match v.fb? with
    |some y=>if Zg C.P t y then some ((g=true->gx=true),.val y)else none
    |none=>none
   |some (gx,.ad s ver p)=>match D.own s ver with
    |some r=>if Zg C.P t (r.at p)then(rdA s ver p (r.at p)).map fun a=>(((g=true->gx=true)/\(g=true->r.okm p)),a)else none
    |none=>none
   |some (gx,.rf s ver p)=>match D.own s ver with
    |some r=>match r.at p with
     | .box _ c=>if Zg C.P t c then(rdA s ver (p++[0]) c).map fun a=>(((g=true->gx=true)/\(g=true->r.okr p/\r.okm (p++[0]))),a)else none
     |_=>none
    |none=>none
   |_=>none
 | .nilCheck x=>
   match opd C.P D 0 x with
   |some (gx,.rf s ver p)=>match D.own s ver with
    |some r=>match r.at p with
     | .box _ _=>some ((g=true->gx=true)/\(g=true->r.okr p),.rf s ver p)
     |_=>none
    |none=>none
   |_=>none
 | .fieldAddr st x f=>
   match Ku C.P st f,opd C.P D 0 x with
   |some (off,ft),some (gx,.fz (.agg fs))=>if C.P.cellsOf ft≠0/\f<fs.length/\V.offs fs f=off then some ((g=true->gx=true),.fz (fs.getD f (.hole 0)))else none
   |some (off,ft),some (gx,.val v)=>match v.fb? with
    |some (.agg fs)=>if C.P.cellsOf ft≠0/\f<fs.length/\V.offs fs f=off then some ((g=true->gx=true),.val (.fn 1000000000 [fs.getD f (.hole 0)]))else none
    |_=>none
   |some (off,ft),some (gx,.ad s ver p)=>match D.own s ver with
    |some r=>match r.at p with
     | .agg fs=>if C.P.cellsOf ft≠0/\f<fs.length/\V.offs fs f=off then some ((g=true->gx=true)/\(g=true->r.okm p),.ad s ver (p++[f]))else none
     |_=>none
    |none=>none
   |some (off,ft),some (gx,.rf s ver p)=>match D.own s ver with
    |some r=>match r.at p with
     | .box _ (.agg fs)=>if C.P.cellsOf ft≠0/\f<fs.length/\V.offs fs f=off then some ((g=true->gx=true)/\(g=true->r.okr p),.ad s ver (p++[0,f]))else none
     |_=>none
    |none=>none
   |_,_=>none
 | .indexAddr st x i=>
   match ul C.P st,opd C.P D 0 x,zai C.P D g i with
   |some e,some (gx,.val (.slc false e' d es)),some (pi,n)=>
    if e=e'/\C.P.cellsOf e≠0 then some ((g=true->gx=true)/\pi/\(g=true->0<=n/\n<(es.length:Int)),.fz (es.getD n.toNat d))else none
   |some e,some (gx,.rf s ver p),some (pi,n)=>match D.own s ver with
    |some r=>match r.at p with
     | .slc true e' _ es=>if e=e'/\C.P.cellsOf e≠0 then some ((g=true->gx=true)/\pi/\(g=true->r.okr p/\0<=n/\n<(es.length:Int)),.ad s ver (p++[n.toNat]))else none
     |_=>none
    |none=>none
   |_,_,_=>none
 | .index st x i=>
   match Kg C.P st,opd C.P D 0 x,zai C.P D g i with
   |true,some (gx,.val (.str s)),some (pi,n)=>some ((g=true->gx=true)/\pi/\(g=true->0<=n/\n<(s.size:Int)),.val (.int .u8 (s.data.getD n.toNat 0).toNat))
   |_,_,_=>none
 | .extract x i=>
   match opd C.P D 0 x with
   |some (gx,.val (.tup fs))=>if i<fs.length then some ((g=true->gx=true),.val (fs.getD i (.hole 0)))else none
   |some (gx,.rf s ver [])=>match D.own s ver with
    |some (.tup fs)=>if i<fs.length then
     (if(fs.getD i (.hole 0)).owned then some ((g=true->gx=true),.rf s ver [i])else some ((g=true->gx=true),.val (fs.getD i (.hole 0))))else none
    |_=>none
   |_=>none
 | .slice st x lo hi none=>
   match opd C.P D 0 x with
   |some (gx,.val (.slc false e d es))=>
    match ul C.P st,kP C.P D g 0 lo,kP C.P D g es.length hi with
    |some e',some (pl,l),some (ph,h)=>if e=e'/\C.P.cellsOf e≠0 then
     some ((g=true->gx=true)/\pl/\ph/\(g=true->0<=l/\l<=h/\h<=(es.length:Int)),.val (.slc false e d ((es.take h.toNat).drop l.toNat)))else none
    |_,_,_=>none
   |some (gx,.val (.str s))=>
    match Kg C.P st,kP C.P D g 0 lo,kP C.P D g s.size hi with
    |true,some (pl,l),some (ph,h)=>
     some ((g=true->gx=true)/\pl/\ph/\(g=true->0<=l/\l<=h/\h<=(s.size:Int)),.val (.str (s.extract l.toNat h.toNat)))
    |_,_,_=>none
   |_=>none
 | .convert s d x=>
   match zaz C.P s,zaz C.P d,opd C.P D s x with
   |some _,some k,some (gx,.val (.int _ n))=>some ((g=true->gx=true),.val (.int k (k.wrap n)))
   |none,none,some (gx,.rf sl ver [])=>match Kg C.P d,ul C.P s,D.own sl ver with
    |true,some e,some (.slc true e' dd es)=>if zaz C.P e=some .u8/\e=e'/\C.P.cellsOf e=1 then some ((g=true->gx=true/\zmp es),.val (.str (zgT es)))else none
    |_,_,_=>none
   |_,_,_=>none
 | .alloc t=>(zag C.P t).map fun x=>(True,.val (.box t x))
 | .box t x=>
   match opd C.P D t x with
   |some (gx,.val v)=>if v.owned&& !(YA v [.slice none 0 0])then none else if Zg C.P t v then some ((g=true->gx=true),.val (.box t v))else none
   |_=>none
 | .makeSlice t l c=>
   match ul C.P t,zai C.P D g l,zai C.P D g c with
   |some e,some (pl,n),some (pc,m)=>match zag C.P e with
    |some z=>if C.P.bytesOf e<=65536 then some (pl/\pc/\(g=true->0<=n/\n<=m/\m<=2147483647),.val (.slc true e z (List.replicate n.toNat z)))else none
    |none=>none
   |_,_,_=>none
 | .buildSlice t n parts=>
   match ul C.P t with
   |some e=>match zag C.P e,ym C.P D g (fun _=>e) parts.toList with
    |some z,some (p,vs)=>if n*C.P.cellsOf e<=2^20/\0<C.P.cellsOf e then(KZ (List.replicate n z) vs).map fun es=>(p,.val (.slc true e z es))else none
    |_,_=>none
   |none=>none
 | .build t parts=>
   match zcy C.P t,ym C.P D g (fun i=>((Ku C.P t i).map (·.2)).getD 0) parts.toList with
   |some zs,some (p,vs)=>(KZ zs vs).map fun fs=>(p,.val (.agg fs))
   |_,_=>none
 | .makeFunc (.func f) first caps=>
   match first.toList,ym C.P D g (fun _=>0) (caps.toList.map fun x=>(0,x))with
   |[],some (p,vs)=>if f==1000000000 then none else some (p,.val (.fn f (vs.map (·.2))))
   |_,_=>none
 | .call c=>
   match c.callee with
   | .builtin .len=>match c.args.toList,c.argTypes.toList with
     |[x],[t]=>match opd C.P D 0 x with
      |some (gx,a)=>if a.isAg then none else match a.look D with
       |some (.slc _ _ _ es)=>if(ul C.P t).isSome then some ((g=true->gx=true/\a.okA D),.val (.int .i64 es.length))else none
       |some (.str s)=>if Kg C.P t then some ((g=true->gx=true/\a.okA D),.val (.int .i64 s.size))else none
       |_=>none
      |none=>none
     |_,_=>none
   | .builtin .min=>match c.args.toList with
     |[x,y]=>match opd C.P D o.type x,opd C.P D o.type y with
      |some (gx,.val (.int k a)),some (gy,.val (.int k' b))=>if k=k' then some ((g=true->gx=true)/\(g=true->gy=true),.val (.int k (min a b)))else none
      |_,_=>none
     |_=>none
   | .builtin .max=>match c.args.toList with
     |[x,y]=>match opd C.P D o.type x,opd C.P D o.type y with
      |some (gx,.val (.int k a)),some (gy,.val (.int k' b))=>if k=k' then some ((g=true->gx=true)/\(g=true->gy=true),.val (.int k (max a b)))else none
      |_,_=>none
     |_=>none
   | .value f=>match opd C.P D 0 f,YM C.P D g c.args.toList c.argTypes.toList with
     |some (gf,.val (.fn k caps)),some (p,vs,br)=>match C.Φ k (vs++caps)with
      |some (q,r,[])=>if(k==1000000000)||(brK C D k c.args.toList c.argTypes.toList br&& !r.noFz)then none else some ((g=true->gf=true)/\(g=true->p)/\(g=true->q),.val (zyB C k r))
      |_=>none
     |_,_=>none
   |_=>none
 |_=>none
section
variable {cz:TypeId->Nat}{w w':World}{F:Nat->Prop}
theorem Rep.unowned{x:V}{cs:List Value}{O:Nat->Prop}(h:Rep cz w F x cs O):x.owned=false->Rep cz w F x cs (fun _=>False):=by
 induction h with
 |int k n O=>intros;exact .int ..
 |bool b O=>intros;exact .bool ..
 |str s O=>intros;exact .str ..
 |hole n cs O hn=>intros;exact .hole _ _ _ hn
 |fz0 e d a cap O=>intros;exact .fz0 ..
 |fz e d es b off len cap cs O hl hc hm hF hcs hr ih=>intros;exact .fz e d es b off len cap cs _ hl hc hm hF hcs hr
 |own0 e d O=>intros;exact .own0 ..
 |own e d es b len cap cur cs Os O hb hsz hl hc hm hO hOs hdis hcs hr hd9 ih=>intro hx;simp[V.owned]at hx
 |agg fs cs Os O hn hOs hdis hr ih=>
  intro hx;simp[V.owned,V.owneds_eq]at hx;exact .agg fs cs (fun _ _=>False) _ hn (fun _ _ h=>h) (fun _ _ _ _ h=>h.elim) (fun i x hi=>ih i x hi (hx x (yo hi)))
 |box e c b cur cs Oc O hb hcs hO hOs hr ih=>intro hx;simp[V.owned]at hx
 |tup fs vs cs Os O hn hOs hdis hv hr ih=>
  intro hx;simp[V.owned,V.owneds_eq]at hx;exact .tup fs vs cs (fun _ _=>False) _ hn (fun _ _ h=>h) (fun _ _ _ _ h=>h.elim) hv (fun i x hi=>ih i x hi (hx x (yo hi)))
 |fb c b o cs O hF hc hr ih=>intros;exact .fb c b o cs _ hF hc hr
 |fn f caps vs cs O hn hv hr hk ih=>intros;exact .fn f caps vs cs _ hn hv hr hk
theorem zrd{k:IntKind}{n:Int}{cs:List Value}(h:ztn k n cs=true):cs=[.int k n]:=by
 unfold ztn at h;split at h<;>simp_all
theorem zoQ{b:Bool}{cs:List Value}(h:zpX b cs=true):cs=[.bool b]:=by
 unfold zpX at h;split at h<;>simp_all
theorem zrc{s:ByteArray}{cs:List Value}(h:ztm s cs=true):cs=[.string s]:=by
 unfold ztm at h;split at h
 ·rename_i s';have:s=s':=by cases s;cases s';simp_all
  rw[this]
 ·cases h
theorem zlk{cs:List Value}(h:ziL cs=true):cs=[.slice none 0 0]:=by
 unfold ziL at h;split at h<;>simp_all
mutual
theorem zBb:∀(x:V) (cs:List Value),YA x cs=true->cs.length=x.size
 | .int _ _,cs,h=>by simp only[YA]at h;rw[zrd h];rfl
 | .bool _,cs,h=>by simp only[YA]at h;rw[zoQ h];rfl
 | .str _,cs,h=>by simp only[YA]at h;rw[zrc h];rfl
 | .slc _ _ _ _,cs,h=>by simp only[YA,zh]at h;rw[zlk h.2];rfl
 | .agg fs,cs,h=>by simp only[YA]at h;simp only[V.size];exact zkL fs cs h
 | .box _ _,cs,h=>by simp[YA]at h
 | .tup _,cs,h=>by simp[YA]at h
 | .fn _ _,cs,h=>by simp[YA]at h
 | .hole _,cs,h=>by simpa [YA,V.size]using h
theorem zkL:∀(fs:List V) (cs:List Value),zjw fs cs=true->cs.length=V.sizes fs
 |[],cs,h=>by simp only[zjw,List.isEmpty_iff]at h;subst h;rfl
 |x::xs,cs,h=>by
  simp only[zjw,zh]at h;have h1:=zBb x _ h.1;have h2:=zkL xs _ h.2;simp only[zV,yF,V.sizes]at*;omega
end
theorem zn0:∀(fs:List V) (cs:List Value),zjw fs cs=true->∀i x,fs[i]? =some x->YA x ((cs.drop (V.offs fs i)).take x.size)=true
 |[],cs,h=>fun i x hx=>by simp at hx
 |x::xs,cs,h=>by
  simp only[zjw,zh]at h;obtain⟨h1,h2⟩:=h;intro i y hy
  cases i with
  |zero=>simp at hy;subst hy;simpa [V.offs,V.sizes]using h1
  |succ i=>
   simp at hy;have:=zn0 xs _ h2 i y hy;rw[List.drop_drop]at this;have e:V.offs (x::xs) (i+1)=x.size+V.offs xs i:=(by simp[V.offs,V.sizes]);rw[e];exact this
theorem zsa:∀(x:V) (cs:List Value),YA x cs=true->Rep cz w F x cs (fun _=>False)
 | .int k n,cs,h=>by simp only[YA]at h;rw[zrd h];exact .int ..
 | .bool b,cs,h=>by simp only[YA]at h;rw[zoQ h];exact .bool ..
 | .str s,cs,h=>by simp only[YA]at h;rw[zrc h];exact .str ..
 | .slc o e d es,cs,h=>by
   simp only[YA,zh,List.isEmpty_iff]at h;obtain⟨⟨rfl,rfl⟩,h⟩:=h;rw[zlk h];exact .own0 ..
 | .agg fs,cs,h=>by
   simp only[YA]at h;refine .agg fs cs (fun _ _=>False) _ (zkL fs cs h) (fun _ _ h=>h) (fun _ _ _ _ h=>h.elim) (fun i x hi=>?_);have:SizeOf.sizeOf x<1+SizeOf.sizeOf fs:=(by have:=List.sizeOf_lt_of_mem (yo hi);omega);exact zsa x _ (zn0 fs cs h i x hi)
 | .box e c,cs,h=>by simp[YA]at h
 | .tup fs,cs,h=>by simp[YA]at h
 | .fn f c,cs,h=>by simp[YA]at h
 | .hole n,cs,h=>.hole _ _ _ (by simpa [YA]using h)
termination_by x=>SizeOf.sizeOf x
theorem KI{P:Program}{t:TypeId}{x:V}(h:zag P t=some x):∃i z,P.info? t=some i/\i.zero=some z/\z.cells.toList.length=i.size/\∀{w F},Rep cz w F x z.cells.toList (fun _=>False):=by
 unfold zag at h
 cases hi:P.info? t with
 |none=>simp[hi]at h
 |some i=>
  cases hz:i.zero with
  |none=>simp[hi,hz]at h
  |some z=>
   simp only[hi,jd,hz]at h;split at h
   ·split at h
    ·rename_i hc;simp only[za]at h;subst h;simp only[zh]at hc;refine⟨i,z,rfl,hz,?_,fun{w F}=>zsa _ _ hc.1⟩;have:=hc.2;simpa [Program.cellsOf,hi]using this
    ·cases h
   ·cases h
theorem zca(cz:TypeId->Nat)(w:World):∀(p q:List Nat) (x:V) (b o:Nat),locM cz w (p++q) x b o=(locM cz w p x b o).bind fun a=>locM cz w q (x.at p) a.1 a.2
 |[],q,x,b,o=>rfl
 |i::p,q,x,b,o=>by
  cases x with
  |slc o' e d es=>
   simp only[yf,locM,V.at,V.kid];split
   ·exact zca cz w p q _ _ _
   ·rfl
  |agg fs=>simp only[yf,locM,V.at,V.kid];exact zca cz w p q _ _ _
  |box e c=>
   simp only[yf,locM,V.at,V.kid];split
   ·exact zca cz w p q _ _ _
   ·rfl
  |_=>simp[locM]
theorem JM(cz:TypeId->Nat)(w:World){p:List Nat}(hp:p≠[])(q:List Nat)(x:V)(v:Value):locV cz w (p++q) x v=(locV cz w p x v).bind fun a=>locM cz w q (x.at p) a.1 a.2:=by
 cases p with
 |nil=>exact absurd rfl hp
 |cons i p=>
  cases x with
  |slc o' e d es=>
   cases v with
   |slice ad l c=>cases ad<;>simp[locV,V.at,V.kid,zca]
   |_=>simp[locV]
  |box e c=>
   cases v with
   |pointer ad=>cases ad<;>simp[locV,V.at,V.kid,zca]
   |_=>simp[locV]
  |_=>simp[locV]
theorem V.at_append:∀(p q:List Nat) (x:V),x.at (p++q)=(x.at p).at q
 |[],_,_=>rfl
 |i::p,q,x=>by simp only[yf,V.at];exact V.at_append p q _
theorem V.okp_append:∀(p q:List Nat) (x:V),x.okp (p++q)↔x.okp p/\(x.at p).okp q
 |[],_,_=>by simp[V.okp,V.at]
 |i::p,q,x=>by simp only[yf,V.okp,V.at,V.okp_append p q,and_assoc]
theorem V.okm_okp{x:V}{p:List Nat}(h:x.okm p):p≠[]/\(∀fs,x≠.agg fs)/\x.okp p:=by
 cases p with
 |nil=>simp[V.okm]at h
 |cons i p=>cases x<;>first|exact⟨by simp,by simp,h⟩|exact h.elim
theorem V.okm_of{x:V}{p:List Nat}(h1:p≠[])(h2:∀fs,x≠.agg fs)(h3:x.okp p):x.okm p:=by
 cases p with
 |nil=>exact absurd rfl h1
 |cons i p=>cases x<;>first|exact h3|exact absurd rfl (h2 _)
theorem V.okr_cases{x:V}{p:List Nat}(h:x.okr p):p=[]\/(∃fs i,x=.tup fs/\p=[i]/\i<fs.length)\/(x.okm p/\(x.at p).isH=true):=by
 cases p with
 |nil=>exact .inl rfl
 |cons i p=>
  cases x with
  |tup fs=>
   cases p with
   |nil=>exact .inr (.inl ⟨fs,i,rfl,rfl,h⟩)
   |cons j p=>have:=h.1;exact this.1.elim
  |_=>cases p<;>exact .inr (.inr h)
theorem JN{x:V}{p:List Nat}{v:Value}(h:x.okm p):hdrV cz w p x v=if(x.at p).isH then(locV cz w p x v).bind fun a=>w.cell? ⟨a.1,a.2,none⟩else none:=by
 cases p with
 |nil=>simp[V.okm]at h
 |cons i p=>
  cases p with
  |nil=>cases x<;>first|rfl|exact h.1.elim
  |cons j p=>rfl
end
section
variable {C:Ctx}{F:Nat->Prop}{O:Nat->Nat->Prop}{Z:Nat->Prop}{D:Env}{a:Act}{w w':World}
theorem zuc{P:Program}{ty:TypeId}{v:Value}{x:V}(h:za4 P ty v=some x):(∃cs,x.reg cs v/\∀{cz:TypeId->Nat} {w:World} {F:Nat->Prop},Rep cz w F x cs (fun _=>False)):=by
 cases v<;>simp only[za4]at h<;>(try cases h)
 ·exact⟨[_],rfl,.bool ..⟩
 ·exact⟨[_],rfl,.int ..⟩
 ·exact⟨[_],rfl,.str ..⟩
 ·rename_i p
  cases p with
  |none=>
   simp only[za4,za]at h;subst h;exact⟨[undef],trivial,.hole _ _ _ (by simp)⟩
  |some _=>simp[za4]at h
 ·split at h
  ·rename_i hn;have:=zlk hn;simp only[List.cons.injEq,and_true]at this;rw[this];split at h
   ·simp only[za]at h;subst h;exact⟨[.slice none 0 0],rfl,.own0 ..⟩
   ·cases h
  ·cases h
theorem zX(hI:Inv C F O Z D a w){ty:TypeId}{x:Operand}{g:Bool}{A:A}(h:opd C.P D ty x=some (g,A))(hg:g=true):
 Holds C.cz w F D a.tmps A (a.eval x)/\(∀s ver,A.refs=some (s,ver)->ver<=(D s).ver):=by
 cases x with
 |tmp t=>
  simp only[opd]at h;have hev:a.eval (.tmp t)=a.tmps.getD t undef:=rfl;rw[hev]
  cases ha:(D t).a with
  |val x=>
   simp only[ha]at h;split at h
   ·simp only[za,zb]at h;obtain⟨rfl,rfl⟩:=h;refine⟨fun x h _ _ hh=>?_,fun s ver hr=>?_⟩
    ·simpa [hdrV]using hh
    ·simp only[A.refs,za,zb]at hr;obtain⟨rfl,rfl⟩:=hr;exact zw _
   ·rename_i hx;simp only[za,zb]at h;obtain⟨rfl,rfl⟩:=h;obtain⟨_,h2,_⟩:=hI.slot t hg;obtain⟨cs,h3,h4⟩:=h2 x ha;exact⟨⟨cs,h3,h4.unowned (by simpa using hx)⟩,fun s ver hr=>by simp[A.refs]at hr⟩
  |_=>
   simp only[ha]at h;simp only[za,zb]at h;obtain⟨rfl,rfl⟩:=h;obtain⟨_,_,h3⟩:=hI.slot t hg;rw[ha]at h3;exact⟨h3 (by simp),fun s ver hr=>hI.wf t s ver (by rw[ha];exact hr)⟩
 |const v=>
  simp only[opd,zP,zb]at h;obtain⟨x,hx,rfl,rfl⟩:=h;obtain⟨cs,h1,h2⟩:=zuc hx;exact⟨⟨cs,h1,h2⟩,fun s ver hr=>by simp[A.refs]at hr⟩
 |func f=>
  simp only[opd,za,zb]at h;obtain⟨rfl,rfl⟩:=h;exact⟨⟨[.func (.func f) #[] #[]],rfl,.fn f [] #[] (fun _=>[]) _ rfl (fun i x hx=>by simp at hx) (fun i x hx=>by simp at hx) rfl⟩,fun s ver hr=>by simp[A.refs]at hr⟩
 |global g=>simp[opd]at h
theorem ztJ{tmps:Array Value}{x y:V}{v:Value}(h:Holds C.cz w F D tmps (.val x) v)(hy:x.fb? =some y):Holds C.cz w F D tmps (.fz y) v:=by
 obtain⟨cs,h1,h2⟩:=h
 cases h2 with
 |fb c b o cs O hF hc hr=>
  simp only[V.fb?,beq_self_eq_true,za]at hy;subst hy;exact⟨b,o,cs,h1,hF,hc,hr⟩
 |fn f caps vs cs O hn hv hr hk=>rw[hk]at hy;cases hy
 |_=>simp[V.fb?]at hy
theorem KO(hI:Inv C F O Z D a w){s ver:Nat}{p:List Nat}{v:Value}{r:V}(h:Holds C.cz w F D a.tmps (.rf s ver p) v)(ho:D.own s ver=some r)(hk:r.okr p):
 ∃cs Oy,(r.at p).reg cs v/\Rep C.cz w F (r.at p) cs Oy/\∀b,Oy b->O s b:=by
 obtain⟨hg,_,ha⟩:=Env.own_elim ho;obtain⟨_,h2,_⟩:=hI.slot s hg;obtain⟨cs,h3,h4⟩:=h2 r ha;rcases V.okr_cases hk with rfl|⟨fs,i,rfl,rfl,hi⟩|⟨hm,hH⟩
 ·have:=h r _ ho (by cases r<;>trivial) rfl;rw[this];exact⟨cs,O s,h3,h4,fun _ h=>h⟩
 ·cases h4 with
  |tup fs vs cs' Os O' hn hOs hdis hv hr=>
   have hv0:a.tmps.getD s undef=.tuple vs:=h3;have:=h (.tup fs) (vs.getD i undef) ho (by exact⟨hi,trivial⟩) (by rw[hv0];rfl);subst this;have hi':=yH (.hole 0) hi;exact⟨cs' i,Os i,hv i _ hi',hr i _ hi',fun b hb=>hOs i b hb⟩
 ·obtain⟨hp,hna,hok⟩:=V.okm_okp hm;obtain⟨b,o,cy,Oy,g1,g2,g3,g4,_,_,_⟩:=h4.takeV h3 hok hp hna;obtain⟨u,rfl,hu⟩:=uk g3 hH;have hc:=g2 0 u rfl;simp only[yk]at hc;have:=h r u ho (V.okv_of_okp hok) (by rw[JN hm,if_pos hH,g1];exact hc);subst this;refine⟨[v],Oy,?_,g3,g4⟩;revert hH;cases r.at p<;>simp[V.isH,V.reg]
theorem zkq(hI:Inv C F O Z D a w){s ver:Nat}{p:List Nat}{v:Value}{r:V}(h:Holds C.cz w F D a.tmps (.ad s ver p) v)(ho:D.own s ver=some r)(hk:r.okm p):
 ∃b o cy Oy,locV C.cz w p r (a.tmps.getD s undef)=some (b,o)/\v=.pointer (some ⟨b,o,none⟩)/\qK w b o cy/\Rep C.cz w F (r.at p) cy Oy/\(∀z,Oy z->O s z)/\O s b:=by
 obtain⟨hg,_,ha⟩:=Env.own_elim ho;obtain⟨_,h2,_⟩:=hI.slot s hg;obtain⟨cs,h3,h4⟩:=h2 r ha;obtain⟨hp,hna,hok⟩:=V.okm_okp hk;obtain⟨b,o,cy,Oy,g1,g2,g3,g4,g5,_,_⟩:=h4.takeV h3 hok hp hna;exact⟨b,o,cy,Oy,g1,h r b o ho hok g1,g2,g3,g4,g5⟩
theorem V.flats_mem:∀l:List V,V.flats l=true->∀z∈l,z.flat=true:=by
 intro l
 induction l with
 |nil=>simp
 |cons x l ih=>
  simp only[V.flats,zh];rintro⟨e1,e2⟩ z hz;rcases List.mem_cons.1 hz with rfl|hz
  ·exact e1
  ·exact ih e2 z hz
theorem zAf{s ver:Nat}{r:V}(ho:D.own s ver=some r){y:V}{cy:List Value}{Oy:Nat->Prop}(hrep:Rep C.cz w F y cy Oy):∀(p:List Nat) (b o:Nat),y.flat=true->r.okm p->r.at p=y->
 locV C.cz w p r (a.tmps.getD s undef)=some (b,o)->qK w b o cy->
 Cp (fun q h=>∀r h',D.own s ver=some r->r.okv q->hdrV C.cz w q r (a.tmps.getD s undef)=some h'->h'=h) (fun y c=>Rep C.cz w F y c (fun _=>False)) y p cy:=by
 have leaf:∀(y:V) (cy:List Value) (Oy:Nat->Prop),Rep C.cz w F y cy Oy->y.isH=true->∀(p:List Nat) (b o:Nat),r.okm p->r.at p=y->locV C.cz w p r (a.tmps.getD s undef)=some (b,o)->qK w b o cy->
  Cp (fun q h=>∀r h',D.own s ver=some r->r.okv q->hdrV C.cz w q r (a.tmps.getD s undef)=some h'->h'=h) (fun y c=>Rep C.cz w F y c (fun _=>False)) y p cy:=by
  intro y cy Oy hrep hH p b o hm hat hloc hcy;obtain⟨u,rfl,hu⟩:=uk hrep hH;refine .hd y p u hH (fun r' h' hr' _ hh=>?_);rw[ho]at hr';simp only[za]at hr';subst hr';rw[JN hm,hat,if_pos hH,hloc]at hh;have hc:=hcy 0 u rfl;simp only[yk]at hc;simp only[jd,hc,za]at hh;exact hh.symm
 induction hrep with
 |agg fs cs Os O' hn hOs hdis hr ih=>
  intro p b o hfl hm hat hloc hcy;refine .agg fs p cs hn (fun i z hz=>?_);have hlt:i<fs.length:=(zq.1 hz).1;obtain⟨h1,h2,h3⟩:=V.okm_okp hm;refine ih i z hz (p++[i]) b (o+V.offs fs i) (V.flats_mem fs hfl z (yo hz)) (V.okm_of (by simp) h2 ((V.okp_append p [i] r).2 ⟨h3,by rw[hat];exact⟨hlt,trivial⟩⟩)) ?_ ?_ (hcy.part _ _)
  ·rw[V.at_append,hat];simp only[V.at,V.kid];exact jR hz
  ·rw[JM C.cz w h1,hloc,hat];simp only[jd,locM]
 |tup=>intro p b o hfl;simp[V.flat]at hfl
 |own e d es b1 len cap cur cs' Os O' hb hsz hl hcap hm' hO hOs hdis hcs hr hd9=>
  intro p b o _ hm hat hloc hcy;exact leaf _ _ _ (.own e d es b1 len cap cur cs' Os O' hb hsz hl hcap hm' hO hOs hdis hcs hr hd9) rfl p b o hm hat hloc hcy
 |own0 e d O=>intro p b o _ hm hat hloc hcy;exact leaf _ _ _ (.own0 e d O) rfl p b o hm hat hloc hcy
 |box e c b1 cur cs' Oc O' hb hcs hO hOs hr=>intro p b o _ hm hat hloc hcy;exact leaf _ _ _ (.box e c b1 cur cs' Oc O' hb hcs hO hOs hr) rfl p b o hm hat hloc hcy
 |int k n O=>intro p b o _ _ _ _ _;exact .val _ p _ rfl (.int ..) rfl
 |bool k O=>intro p b o _ _ _ _ _;exact .val _ p _ rfl (.bool ..) rfl
 |str k O=>intro p b o _ _ _ _ _;exact .val _ p _ rfl (.str ..) rfl
 |hole n cs O hn=>intro p b o _ _ _ _ _;exact .val _ p _ rfl (.hole _ _ _ hn) hn
 |fz0 e d ad cap O=>intro p b o _ _ _ _ _;exact .val _ p _ rfl (.fz0 ..) rfl
 |fz e d es b1 off len cap cs O hl hc hm hF hcs hr=>intro p b o _ _ _ _ _;exact .val _ p _ rfl (.fz e d es b1 off len cap cs _ hl hc hm hF hcs hr) rfl
 |fb c b1 o1 cs O hF hc hr=>intro p b o _ _ _ _ _;exact .val _ p _ rfl (.fb c b1 o1 cs _ hF hc hr) rfl
 |fn f caps vs cs O hn hv hr hk=>intro p b o _ _ _ _ _;exact .val _ p _ rfl (.fn f caps vs cs _ hn hv hr hk) rfl
theorem zq0(hI:Inv C F O Z D a w){s ver:Nat}{p:List Nat}{r y:V}{b o:Nat}{cy:List Value}{Oy:Nat->Prop}{v:Value}{A:A}(ho:D.own s ver=some r)(hm:r.okm p)(hat:r.at p=y)
 (hloc:locV C.cz w p r (a.tmps.getD s undef)=some (b,o)) (hcy:qK w b o cy) (hrep:Rep C.cz w F y cy Oy) (hreg:y.reg cy v) (h:rdA s ver p y=some A):Holds C.cz w F D a.tmps A v:=by
 unfold rdA at h;split at h
 ·split at h
  ·rename_i hH;simp only[za]at h;subst h;intro r' h' hr' _ hh;rw[ho]at hr';simp only[za]at hr';subst hr';obtain⟨u,rfl,hu⟩:=uk hrep hH;rw[JN hm,hat,if_pos hH,hloc]at hh;have hc:=hcy 0 u rfl;simp only[yk]at hc;simp only[jd,hc,za]at hh;subst hh;revert hreg hH;cases y<;>simp[V.isH,V.reg]
  ·rename_i hH
   cases y with
   |agg fs=>
    simp only at h;split at h
    ·rename_i hfl;simp only[za]at h;subst h;exact⟨cy,hreg,zAf ho hrep p b o hfl hm hat hloc hcy⟩
    ·cases h
   |_=>cases h
 ·rename_i hx;simp only[za]at h;subst h;exact⟨cy,hreg,hrep.unowned (by simpa using hx)⟩
theorem zsH{s ver:Nat}{p:List Nat}{y:V}{A:A}(h:rdA s ver p y=some A):∀s' ver',A.refs=some (s',ver')->s'=s/\ver'=ver:=by
 unfold rdA at h;intro s' ver' hr;split at h
 ·split at h
  ·simp only[za]at h;subst h;simp only[A.refs,za,zb]at hr;exact⟨hr.1.symm,hr.2.symm⟩
  ·cases y<;>simp only at h<;>(try cases h);split at h
   ·simp only[za]at h;subst h;simp only[A.refs,za,zb]at hr;exact⟨hr.1.symm,hr.2.symm⟩
   ·cases h
 ·simp only[za]at h;subst h;simp[A.refs]at hr
end
end Go.Ax
namespace Go.Ax
section
variable {C:Ctx}{F:Nat->Prop}{O:Nat->Nat->Prop}{Z:Nat->Prop}{D:Env}{a:Act}{w w':World}
def Yld(C:Ctx)(F:Nat->Prop)(D:Env)(a:Act)(w:World)(o:Oper)(A:A):Prop:=
 ∃v,(execOp a.eval o).run C.P w=.ok (.value v) w/\Holds C.cz w F D a.tmps A v
theorem za1{cz:TypeId->Nat}{tmps:Array Value}{k:IntKind}{n:Int}{v:Value}(h:Holds cz w F D tmps (.val (.int k n)) v):v=.int k n:=by
 obtain⟨cs,h1,h2⟩:=h;cases h2;exact h1
theorem zbE{cz:TypeId->Nat}{tmps:Array Value}{b:Bool}{v:Value}(h:Holds cz w F D tmps (.val (.bool b)) v):v=.bool b:=by
 obtain⟨cs,h1,h2⟩:=h;cases h2;exact h1
theorem zre{cz:TypeId->Nat}{tmps:Array Value}{s:ByteArray}{v:Value}(h:Holds cz w F D tmps (.val (.str s)) v):v=.string s:=by
 obtain⟨cs,h1,h2⟩:=h;cases h2;exact h1
theorem Ze(hI:Inv C F O Z D a w){g:Bool}{x:Operand}{p:Prop}{n:Int}(h:zai C.P D g x=some (p,n))(hg:g=true)(hp:p):a.eval x=.int .i64 n:=by
 unfold zai at h;split at h
 ·rename_i gx n' he;simp only[za,zb]at h;obtain⟨rfl,rfl⟩:=h;exact za1 (zX hI he (hp hg)).1
 ·cases h
theorem Zo{P:Program}{t e:TypeId}(h:ul P t=some e):P.underlying t=some (.slice e):=by
 unfold ul at h;split at h<;>simp_all
theorem zCD{P:Program}{t:TypeId}{b:Bool}(h:zig P t=some b)(w:World):(isAgg t).run P w=.ok b w:=by
 unfold zig at h
 cases hu:P.underlying t with
 |none=>simp[hu]at h
 |some d=>unfold isAgg;rw[Sem.run_bind,run_underlying hu w];cases d<;>simp_all
theorem QQ{P:Program}{t:TypeId}{n:Nat}(h:P.cellsOf t=n)(hn:n≠0):∃i,P.info? t=some i/\i.size=n:=by
 unfold Program.cellsOf at h
 cases hi:P.info? t with
 |none=>simp[hi]at h;omega
 |some i=>simp[hi]at h;exact⟨i,rfl,h⟩
theorem zcb{t:TypeId}{y:V}{b o:Nat}{cy:List Value}{Oy:Nat->Prop}(hf:Zg C.P t y=true)(hc:qK w b o cy)(hr:Rep C.cz w F y cy Oy):
 ∃v,(loadVar t ⟨b,o,none⟩).run C.P w=.ok v w/\y.reg cy v:=by
 unfold Zg at hf;rw[zh]at hf;obtain⟨h1,h2⟩:=hf;have hsz:C.P.cellsOf t=cy.length:=by rw[hr.length];simpa using h2
 cases hagg:zig C.P t with
 |none=>simp[hagg]at h1
 |some bb=>
  rw[hagg]at h1;have hrun:=zCD hagg
  have hcells:∀j v,cy[j]? =some v->w.cell? ((⟨b,o,none⟩:Addr).add j)=some v:=by
   intro j v hj;rw[Addr.add_lit];exact hc j v hj
  cases y with
  |agg fs=>
   simp only at h1;subst h1;have hl:=run_loadCells_list (P:=C.P) w ⟨b,o,none⟩ cy hcells;refine⟨.agg cy.toArray,?_,rfl⟩;by_cases h0:C.P.cellsOf t=0
   ·have hi:∃i,C.P.info? t=some i/\i.size=0:=by
     unfold zig at hagg
     cases hi:C.P.info? t with
     |none=>simp[Program.underlying,hi]at hagg
     |some i=>exact⟨i,rfl,by simpa [Program.cellsOf,hi]using h0⟩
    obtain⟨i,hi,hi2⟩:=hi;have hl0:cy.length=0:=(by omega);rw[hl0]at hl;simp[loadVar,Sem.run_bind,hrun,Go.sizeOf,typeInfo,hi,hi2,hl]
   ·obtain⟨i,hi,hi2⟩:=QQ hsz (by omega);simp[loadVar,Sem.run_bind,hrun,Go.sizeOf,typeInfo,hi,hi2,hl]
  |tup=>simp at h1
  |hole=>simp at h1
  |_=>
   simp only[Bool.not_eq_true']at h1;subst h1;have h1c:cy.length=1:=by rw[hr.length];rfl
   obtain⟨u,hu⟩:∃u,cy=[u]:=by
    match cy,h1c with
    |[u],_=>exact⟨u,rfl⟩
   subst hu;have h0:=hc 0 u rfl;simp only[yk]at h0;refine⟨u,?_,rfl⟩;simp[loadVar,Sem.run_bind,hrun,h0]
theorem zmR{cz:TypeId->Nat}{r:V}{e:TypeId}{c:V}{v:Value}{cs:List Value}{O':Nat->Prop}(hat:r=.box e c)(hreg:r.reg cs v)(hrep:Rep cz w F r cs O'):
 ∃b cc Oc,v=.pointer (some ⟨b,0,none⟩)/\qK w b 0 cc/\Rep cz w F c cc Oc/\O' b/\∀z,Oc z->O' z:=by
 subst hat
 cases hrep with
 |box e c b1 cur cs' Oc O hb hcs hO hOs hr=>
  refine⟨b1,cs',Oc,hreg,?_,hr,hO,fun z hz=>(hOs z hz).1⟩;intro j v hj;subst hcs;simp at hj;simp[World.cell?,hb,hj]
theorem zyD{P:Program}{s f off:Nat}{ft:TypeId}(h:Ku P s f=some (off,ft)):∃fs x,P.underlying s=some (.struct fs)/\fs[f]? =some x/\x.offset=off/\x.type=ft:=by
 unfold Ku at h;split at h
 ·rename_i fs hu;rw[zP]at h;obtain⟨x,hx,he⟩:=h;simp only[zb]at he;exact⟨fs,x,hu,hx,he.1,he.2⟩
 ·cases h
theorem zeP{P:Program}{s f off:Nat}{ft:TypeId}(h:Ku P s f=some (off,ft))(h0:P.cellsOf ft≠0)(b o:Nat)(w:World):
 (Instr.fieldAt s (.pointer (some ⟨b,o,none⟩)) f).run P w=.ok (.pointer (some ⟨b,o+off,none⟩)) w:=by
 obtain⟨fs,x,hu,hx,rfl,rfl⟩:=zyD h;obtain⟨i,hi,hi2⟩:=QQ (P:=P) (t:=x.type) rfl h0;have h0':¬i.size=0:=by omega
 simp[Instr.fieldAt,run_underlying hu,hx,Instr.sureAddr,fieldPlace,Go.sizeOf,typeInfo,hi,h0',Addr.add_lit]
theorem zmS{P:Program}{t e:TypeId}(h:ul P t=some e){b o len cap:Nat}{n:Int}(h0:0<=n)(h1:n<(len:Int))(w:World)(he:(P.info? e).isSome=true):
 (Instr.indexAt t (.slice (some ⟨b,o,none⟩) len cap) (.int .i64 n)).run P w=.ok (.pointer (some ⟨b,o+n.toNat*P.cellsOf e,none⟩)) w:=by
 have hu:=Zo h;obtain⟨i,hi⟩:=za7.1 he;have hsz:P.cellsOf e=i.size:=by simp[Program.cellsOf,hi]
 simp[Instr.indexAt,run_underlying hu,asIntOf,h0,h1,Go.sizeOf,typeInfo,hi,hsz,Addr.add_lit]
theorem zjY{o:Oper}{x:Operand}{A:A}(ho:o.op=.move x\/o.op=.assign x)(h:Holds C.cz w F D a.tmps A (a.eval x)):Yld C F D a w o A:=by
 refine⟨a.eval x,?_,h⟩;rcases ho with ho|ho<;>simp[execOp,ho]
theorem kL{o:Oper}{x:V}{v:Value}{cs:List Value}(hr:(execOp a.eval o).run C.P w=.ok (.value v) w)(h1:x.reg cs v)(h2:Rep C.cz w F x cs (fun _=>False)):Yld C F D a w o (.val x):=
 ⟨v,hr,cs,h1,h2⟩
theorem zpO{P:Program}{t:TypeId}(h:P.underlying t=some .bool)(d:Nat)(a b:Bool)(w:World):(Op.equalIn (d+1) t (.bool a) (.bool b)).run P w=.ok (a==b) w:=by
 simp[Op.equalIn,run_underlying h]
theorem zk1{P:Program}{t:TypeId}(h:P.underlying t=some .bool)(a b:Bool)(w:World):(Op.equal t (.bool a) (.bool b)).run P w=.ok (a==b) w:=
 zpO h 9999 a b w
theorem zCA{P:Program}{op:BinOp}{t:TypeId}{x y r:V}{p:Prop}{u v:Value}(h:zex op x y=some (p,r))(hp:p)(hx:∃cs,x.reg cs u/\∃cz F,Rep cz w F x cs (fun _=>False))(hy:∃cs,y.reg cs v/\∃cz F,Rep cz w F y cs (fun _=>False))(X Y:Operand):
 ∃q,(do eqGuard op t X Y u v;binOp op t u v:Sem Value).run P w=.ok q w/\∃cs,r.reg cs q/\∀cz F,Rep cz w F r cs (fun _=>False):=by
 obtain⟨cs1,h1,_,_,h2⟩:=hx;obtain⟨cs2,h3,_,_,h4⟩:=hy
 cases x with
 |int k n=>
  cases y with
  |int k' m=>
   cases h2;cases h4;have hu:u=.int k n:=h1;have hv:v=.int k' m:=h3;subst hu;subst hv;by_cases ho:op=.shr
   ·subst ho;simp only[zex,if_true,za,zb]at h;obtain⟨rfl,rfl⟩:=h;have hm:¬m<0:=(by omega);refine⟨.int k _,?_,[_],rfl,fun _ _=>.int ..⟩;simp[eqGuard_at_int,binOp,Op.shift,hm,zgg]
   simp only[zex,if_neg ho]at h;split at h
   ·rename_i hk;subst hk;cases op<;>simp only[reduceCtorEq,za,zb]at h;all_goals obtain⟨rfl,rfl⟩:=h
    all_goals first
     |(refine⟨.int k _,?_,[_],rfl,fun _ _=>.int ..⟩;simp[eqGuard_at_int,binOp,Op.intBits,zdU];done)
     |(refine⟨.int k _,?_,[_],rfl,fun _ _=>.int ..⟩;simp[eqGuard_at_int,binOp,Op.intArith];done)
     |(refine⟨.int k _,?_,[_],rfl,fun _ _=>.int ..⟩;simp[eqGuard_at_int,binOp,Op.intDiv,hp];done)
     |(refine⟨.bool _,?_,[_],rfl,fun _ _=>.bool ..⟩;simp[eqGuard_at_int,binOp,Op.intCmp];done)
   ·cases h
  |_=>simp[zex]at h
 |str s=>
  cases y with
  |str s'=>
   cases h2;cases h4;have hu:u=.string s:=h1;have hv:v=.string s':=h3;subst hu;subst hv;have hg:eqGuard op t X Y (.string s) (.string s')=pure ():=by cases op<;>rfl
   cases op<;>simp only[zex,reduceCtorEq,za,zb]at h;all_goals obtain⟨rfl,rfl⟩:=h
   ·refine⟨.string (s++s'),?_,[_],rfl,fun _ _=>.str ..⟩
    have:¬(((s.size+s'.size:Nat):Int)>IntKind.i64.max):=by
     have:IntKind.i64.max=9223372036854775807:=(by decide);omega
    simp only[hg,binOp,Op.stringOp,Sem.run_bind,Sem.run_pure,Result.andThen_ok];rw[if_neg this];rfl
   all_goals (refine⟨.bool _,?_,[_],rfl,fun _ _=>.bool ..⟩;simp[hg,binOp,Op.stringOp];done)
  |_=>simp[zex]at h
 |_=>simp[zex]at h
theorem zhG{P:Program}{t:TypeId}(h:Kg P t=true):P.underlying t=some .string:=by
 unfold Kg at h;split at h<;>simp_all
theorem znz{P:Program}{t:TypeId}{k:IntKind}(h:zaz P t=some k):P.underlying t=some (.int k):=by
 unfold zaz at h;split at h<;>simp_all
theorem zty{x:V}{v:Value}(h:Holds C.cz w F D a.tmps (.val x) v):∃cs,x.reg cs v/\∃cz F,Rep cz w F x cs (fun _=>False):=
 let ⟨cs,h1,h2⟩:=h;⟨cs,h1,_,_,h2⟩
theorem zE0(hI:Inv C F O Z D a w){o:Oper}{x:Operand}{g:Bool}{pre:Prop}{A:A}(ho:o.op=.move x)(h:yC C D g o=some (pre,A))(hg:g=true)(hp:pre):Yld C F D a w o A:=by
 simp only[yC,ho,zP,zb]at h;obtain⟨⟨gx,a'⟩,h1,rfl,rfl⟩:=h;exact zjY (.inl ho) (zX hI h1 (hp hg)).1
theorem zBD(hI:Inv C F O Z D a w){o:Oper}{x:Operand}{g:Bool}{pre:Prop}{A:A}(ho:o.op=.assign x)(h:yC C D g o=some (pre,A))(hg:g=true)(hp:pre):Yld C F D a w o A:=by
 simp only[yC,ho]at h;split at h
 ·rename_i h1;split at h
  ·cases h
  ·simp only[za,zb]at h;obtain⟨rfl,rfl⟩:=h;exact zjY (.inr ho) (zX hI h1 (hp hg)).1
 ·rename_i h1;split at h
  ·cases h
  ·simp only[za,zb]at h;obtain⟨rfl,rfl⟩:=h;exact zjY (.inr ho) (zX hI h1 (hp hg)).1
  ·cases h
 ·rename_i h1;split at h
  ·split at h
   ·simp only[za,zb]at h;obtain⟨rfl,rfl⟩:=h;exact zjY (.inr ho) (zX hI h1 (hp hg)).1
   ·cases h
  ·cases h
 ·cases h
theorem zEX(hI:Inv C F O Z D a w){o:Oper}{x y z:Operand}{g:Bool}{pre:Prop}{A:A}(ho:o.op=.pick x y z)(h:yC C D g o=some (pre,A))(hg:g=true)(hp:pre):Yld C F D a w o A:=by
 simp only[yC,ho]at h;split at h
 ·rename_i gc c h1;split at h
  ·rename_i gx v h2;simp only[za,zb]at h;obtain⟨rfl,rfl⟩:=h;obtain⟨p1,p2⟩:=hp;have e1:=zbE (zX hI h1 (p1 hg)).1;have e2:=zbE (zX hI h2 (p2 hg)).1
   cases c with
   |true=>exact kL (v:=.bool v) (cs:=[.bool v]) (by rw[if_pos rfl]at e2;simp[execOp,ho,e1,e2,asBool]) rfl (.bool ..)
   |false=>exact kL (v:=.bool v) (cs:=[.bool v]) (by rw[if_neg (by simp)]at e2;simp[execOp,ho,e1,e2,asBool]) rfl (.bool ..)
  ·cases h
 ·cases h
theorem zFX(hI:Inv C F O Z D a w){o:Oper}{op:BinOp}{xt yt:TypeId}{x y:Operand}{g:Bool}{pre:Prop}{A:A}(ho:o.op=.binOp op xt x y yt)(h:yC C D g o=some (pre,A))(hg:g=true)(hp:pre):
 Yld C F D a w o A:=by
 simp only[yC,ho]at h;split at h
 ·rename_i gx b1 gy b2 h1 h2;split at h
  ·rename_i hu';rw[if_pos rfl]at h;rw[zP]at h;obtain⟨r,hr,he⟩:=h;simp only[zb]at he;obtain⟨rfl,rfl⟩:=he;have e1:=zbE (zX hI h1 (hp.1 hg)).1;have e2:=zbE (zX hI h2 (hp.2 hg)).1;cases op<;>simp only[zAs,reduceCtorEq,za]at hr;all_goals subst hr
   ·exact kL (v:=.bool (b1==b2)) (cs:=[_]) (by simp[execOp,ho,e1,e2,eqGuard_at_bool,binOp,zk1 hu']) rfl (.bool ..)
   ·exact kL (v:=.bool !(b1==b2)) (cs:=[_]) (by simp[execOp,ho,e1,e2,eqGuard_at_bool,binOp,zk1 hu']) rfl (.bool ..)
  ·rw[if_neg (by simp)]at h;cases h
 ·rename_i gx v1 gy v2 _ h1 h2;rw[zP]at h;obtain⟨⟨p,r⟩,hr,he⟩:=h;simp only[zb]at he;obtain⟨rfl,rfl⟩:=he;obtain⟨⟨p1,p2⟩,p3⟩:=hp;have e1:=zty (zX hI h1 (p1 hg)).1;have e2:=zty (zX hI h2 (p2 hg)).1;obtain⟨q,hq,cs,hreg,hrep⟩:=zCA (P:=C.P) (t:=xt) hr (p3 hg) e1 e2 x y;exact kL (v:=q) (cs:=cs) (by simp only[execOp,ho,Sem.run_bind,hq,Result.andThen_ok,Sem.run_pure]) hreg (hrep _ _)
 ·cases h
theorem zGr(hI:Inv C F O Z D a w){o:Oper}{op:UnOp}{t:TypeId}{x:Operand}{g:Bool}{pre:Prop}{A:A}(ho:o.op=.unOp op t x)(h:yC C D g o=some (pre,A))(hg:g=true)(hp:pre):Yld C F D a w o A:=by
 simp only[yC,ho]at h;split at h
 ·rename_i gx b h1;simp only[za,zb]at h;obtain⟨rfl,rfl⟩:=h;have e1:=zbE (zX hI h1 (hp hg)).1;exact kL (v:=.bool !b) (cs:=[_]) (by simp[execOp,ho,e1,Op.unary]) rfl (.bool ..)
 ·rename_i gx k n h1;simp only[za,zb]at h;obtain⟨rfl,rfl⟩:=h;have e1:=za1 (zX hI h1 (hp hg)).1;exact kL (v:=.int k (k.wrap (0-n))) (cs:=[_]) (by simp[execOp,ho,e1,Op.unary,Op.intArith]) rfl (.int ..)
 ·cases h
theorem zE1(hI:Inv C F O Z D a w){o:Oper}{t:TypeId}{x:Operand}{g:Bool}{pre:Prop}{A:A}(ho:o.op=.load t x)(h:yC C D g o=some (pre,A))(hg:g=true)(hp:pre):Yld C F D a w o A:=by
 simp only[yC,ho]at h;split at h
 ·rename_i gx y h1;split at h
  ·rename_i hf;simp only[za,zb]at h;obtain⟨rfl,rfl⟩:=h;obtain⟨b,o',cs,e1,_,e3,e4⟩:=(zX hI h1 (hp hg)).1;obtain⟨v,hv,hreg⟩:=zcb hf e3 e4;exact kL (v:=v) (cs:=cs) (by simp only[execOp,ho,Sem.run_bind,e1,Instr.loadAt,Instr.sureAddr,Sem.run_pure,Result.andThen_ok,hv]) hreg e4
  ·cases h
 ·rename_i gx vv h1;split at h
  ·rename_i y hy;split at h
   ·rename_i hf;simp only[za,zb]at h;obtain⟨rfl,rfl⟩:=h;obtain⟨b,o',cs,e1,_,e3,e4⟩:=ztJ (zX hI h1 (hp hg)).1 hy;obtain⟨v,hv,hreg⟩:=zcb hf e3 e4;exact kL (v:=v) (cs:=cs) (by simp only[execOp,ho,Sem.run_bind,e1,Instr.loadAt,Instr.sureAddr,Sem.run_pure,Result.andThen_ok,hv]) hreg e4
   ·cases h
  ·cases h
 ·rename_i gx s ver p h1;split at h
  ·rename_i r hr;split at h
   ·rename_i hf;rw[zP]at h;obtain⟨A',hA,he⟩:=h;simp only[zb]at he;obtain⟨rfl,rfl⟩:=he;obtain⟨b,o',cy,Oy,e1,e2,e3,e4,e5,e6⟩:=zkq hI (zX hI h1 (hp.1 hg)).1 hr (hp.2 hg);obtain⟨v,hv,hreg⟩:=zcb hf e3 e4;exact⟨v,by simp only[execOp,ho,Sem.run_bind,e2,Instr.loadAt,Instr.sureAddr,Sem.run_pure,Result.andThen_ok,hv],zq0 hI hr (hp.2 hg) rfl e1 e3 e4 hreg hA⟩
   ·cases h
  ·cases h
 ·rename_i gx s ver p h1;split at h
  ·rename_i r hr;split at h
   ·rename_i e c hat
    split at h
    ·rename_i hf;rw[zP]at h;obtain⟨A',hA,he⟩:=h;simp only[zb]at he;obtain⟨rfl,rfl⟩:=he;have hop:=(zX hI h1 (hp.1 hg)).1;obtain⟨cs,Oy,e1,e2,e3⟩:=KO hI hop hr (hp.2 hg).1;obtain⟨b,cc,Oc,g1,g2,g3,g4,_⟩:=zmR hat e1 e2;obtain⟨v,hv,hreg⟩:=zcb hf g2 g3;refine⟨v,by simp only[execOp,ho,Sem.run_bind,g1,Instr.loadAt,Instr.sureAddr,Sem.run_pure,Result.andThen_ok,hv],?_⟩
     have hloc:locV C.cz w (p++[0]) r (a.tmps.getD s undef)=some (b,0):=by
      have hH:(r.at p).isH=true:=(by rw[hat];rfl);rcases V.okr_cases (hp.2 hg).1 with rfl|⟨fs,i,rfl,rfl,hi⟩|⟨hm,_⟩
      ·have hrb:r=.box e c:=hat
       have hb:a.eval x=a.tmps.getD s undef:=hop r _ hr (by cases r<;>trivial) rfl;rw[hb]at g1;rw[hrb,g1];rfl
      ·exact(hp.2 hg).2.1.elim
      ·obtain⟨hp0,hna,hok⟩:=V.okm_okp hm;obtain⟨_,h2,_⟩:=hI.slot s (Env.own_elim hr).1;obtain⟨cs0,h3,h4⟩:=h2 r (Env.own_elim hr).2.2;obtain⟨b1,o1,cy,Oy1,k1,k2,k3,_,_,_,_⟩:=h4.takeV h3 hok hp0 hna;rw[JM C.cz w hp0,k1,hat];rw[hat]at k3;obtain⟨u,rfl,_⟩:=uk k3 rfl;have hc:=k2 0 u rfl;simp only[yk]at hc;have hvu:a.eval x=u:=hop r u hr (V.okv_of_okp hok) (by rw[JN hm,if_pos hH,k1];exact hc);simp only[jd,locM,hc];rw[hvu]at g1;rw[g1]
     exact zq0 hI hr (hp.2 hg).2 (by rw[V.at_append,hat];rfl) hloc g2 g3 hreg hA
    ·cases h
   ·cases h
  ·cases h
 ·cases h
end
section
variable {C:Ctx}{F:Nat->Prop}{O:Nat->Nat->Prop}{Z:Nat->Prop}{D:Env}{a:Act}{w w':World}
theorem ztD{cz:TypeId->Nat}{tmps:Array Value}{x:V}{b o:Nat}{cs:List Value}(hF:F b)(hc:qK w b o cs)(hr:Rep cz w F x cs (fun _=>False)):Holds cz w F D tmps (.fz x) (.pointer (some ⟨b,o,none⟩)):=
 ⟨b,o,cs,rfl,hF,hc,hr⟩
theorem zlF(hI:Inv C F O Z D a w){s ver:Nat}{p:List Nat}{v:Value}{r c:V}{e:TypeId}(hop:Holds C.cz w F D a.tmps (.rf s ver p) v)(hr:D.own s ver=some r)(hk:r.okr p)(hat:r.at p=.box e c):
 ∃b cc Oc,v=.pointer (some ⟨b,0,none⟩)/\qK w b 0 cc/\Rep C.cz w F c cc Oc/\((∀fs,r≠.tup fs)->locV C.cz w (p++[0]) r (a.tmps.getD s undef)=some (b,0)):=by
 obtain⟨cs,Oy,e1,e2,e3⟩:=KO hI hop hr hk;obtain⟨b,cc,Oc,g1,g2,g3,g4,_⟩:=zmR hat e1 e2;refine⟨b,cc,Oc,g1,g2,g3,fun hnt=>?_⟩;have hH:(r.at p).isH=true:=by rw[hat];rfl
 rcases V.okr_cases hk with rfl|⟨fs,i,rfl,rfl,hi⟩|⟨hm,_⟩
 ·have hrb:r=.box e c:=hat
  have hb:v=a.tmps.getD s undef:=hop r _ hr (by cases r<;>trivial) rfl;rw[hb]at g1;rw[hrb,g1];rfl
 ·exact absurd rfl (hnt fs)
 ·obtain⟨hp0,hna,hok⟩:=V.okm_okp hm;obtain⟨_,h2,_⟩:=hI.slot s (Env.own_elim hr).1;obtain⟨cs0,h3,h4⟩:=h2 r (Env.own_elim hr).2.2;obtain⟨b1,o1,cy,Oy1,k1,k2,k3,_,_,_,_⟩:=h4.takeV h3 hok hp0 hna;rw[JM C.cz w hp0,k1,hat];rw[hat]at k3;obtain⟨u,rfl,_⟩:=uk k3 rfl;have hc:=k2 0 u rfl;simp only[yk]at hc;have hvu:v=u:=hop r u hr (V.okv_of_okp hok) (by rw[JN hm,if_pos hH,k1];exact hc);simp only[jd,locM,hc];rw[hvu]at g1;rw[g1]
theorem zzf(hI:Inv C F O Z D a w){s ver:Nat}{p:List Nat}{v:Value}{r d:V}{e:TypeId}{es:List V}(hop:Holds C.cz w F D a.tmps (.rf s ver p) v)(hr:D.own s ver=some r)(hk:r.okr p)(hat:r.at p=.slc true e d es):
 (∃ad cap,v=.slice ad es.length cap)/\(es≠[]->∃b cap,v=.slice (some ⟨b,0,none⟩) es.length cap/\O s b/\((∀fs,r≠.tup fs)->∀i,locV C.cz w (p++[i]) r (a.tmps.getD s undef)=some (b,i*C.cz e))):=by
 obtain⟨cs,Oy,e1,e2,e3⟩:=KO hI hop hr hk;rw[hat]at e1 e2;have hH:(r.at p).isH=true:=by rw[hat];rfl
 cases e2 with
 |own0=>exact⟨⟨none,0,e1⟩,fun h=>absurd rfl h⟩
 |own e d es b len cap cur cs' Os O' hb hsz hl hcap hm' hO hOs hdis hcs hrr=>
  subst hl;refine⟨⟨_,_,e1⟩,fun hne=>⟨b,cap,e1,e3 b hO,fun hnt i=>?_⟩⟩;have e1':v=.slice (some ⟨b,0,none⟩) es.length cap:=e1;rcases V.okr_cases hk with rfl|⟨fs,j,rfl,rfl,hi⟩|⟨hm,_⟩
  ·have hrb:r=.slc true e d es:=hat
   have hb:v=a.tmps.getD s undef:=hop r _ hr (by cases r<;>trivial) rfl;rw[hrb,<-hb,e1'];rfl
  ·exact absurd rfl (hnt fs)
  ·obtain⟨hp0,hna,hok⟩:=V.okm_okp hm;obtain⟨_,h2,_⟩:=hI.slot s (Env.own_elim hr).1;obtain⟨cs0,h3,h4⟩:=h2 r (Env.own_elim hr).2.2;obtain⟨b1,o1,cy,Oy1,k1,k2,k3,_,_,_,_⟩:=h4.takeV h3 hok hp0 hna;rw[JM C.cz w hp0,k1,hat];rw[hat]at k3;obtain⟨u,rfl,_⟩:=uk k3 rfl;have hc:=k2 0 u rfl;simp only[yk]at hc;have hvu:v=u:=hop r u hr (V.okv_of_okp hok) (by rw[JN hm,if_pos hH,k1];exact hc);simp only[jd,locM,hc];rw[hvu]at e1';rw[e1']
theorem zvw(hI:Inv C F O Z D a w){o:Oper}{t:TypeId}{x:Operand}{f:Nat}{g:Bool}{pre:Prop}{A:A}(ho:o.op=.fieldAddr t x f)(h:yC C D g o=some (pre,A))(hg:g=true)(hp:pre):Yld C F D a w o A:=by
 simp only[yC,ho]at h;split at h
 ·rename_i off ft gx fs hf h1;split at h
  ·rename_i hc;simp only[za,zb]at h;obtain⟨rfl,rfl⟩:=h;obtain⟨b,o',cs,e1,e2,e3,e4⟩:=(zX hI h1 (hp hg)).1;refine⟨.pointer (some ⟨b,o'+off,none⟩),?_,?_⟩
   ·simp only[execOp,ho,Sem.run_bind,e1,zeP hf hc.1,Result.andThen_ok,Sem.run_pure]
   ·cases e4 with
    |agg fs cs Os O' hn hOs hdis hr=>
     have hi:=yH (.hole 0) hc.2.1;exact ztD e2 (by rw[<-hc.2.2];exact e3.part _ _) ((hr f _ hi).mono (fun _ h=>h) (fun b hb=>hOs f b hb))
  ·cases h
 ·rename_i off ft gx vv hf h1;split at h
  ·rename_i fs hy;split at h
   ·rename_i hc;simp only[za,zb]at h;obtain⟨rfl,rfl⟩:=h;obtain⟨b,o',cs,e1,e2,e3,e4⟩:=ztJ (zX hI h1 (hp hg)).1 hy;refine⟨.pointer (some ⟨b,o'+off,none⟩),?_,?_⟩
    ·simp only[execOp,ho,Sem.run_bind,e1,zeP hf hc.1,Result.andThen_ok,Sem.run_pure]
    ·cases e4 with
     |agg fs cs Os O' hn hOs hdis hr=>
      have hi:=yH (.hole 0) hc.2.1;exact⟨[_],rfl,.fb _ b (o'+off) _ _ e2 (by rw[<-hc.2.2];exact e3.part _ _) ((hr f _ hi).mono (fun _ h=>h) (fun b hb=>hOs f b hb))⟩
   ·cases h
  ·cases h
 ·rename_i off ft gx s ver p hf h1;split at h
  ·rename_i r hr;split at h
   ·rename_i fs hat
    split at h
    ·rename_i hc;simp only[za,zb]at h;obtain⟨rfl,rfl⟩:=h;obtain⟨b,o',cy,Oy,e1,e2,e3,e4,e5,e6⟩:=zkq hI (zX hI h1 (hp.1 hg)).1 hr (hp.2 hg);refine⟨.pointer (some ⟨b,o'+off,none⟩),?_,?_⟩
     ·simp only[execOp,ho,Sem.run_bind,e2,zeP hf hc.1,Result.andThen_ok,Sem.run_pure]
     ·intro r' b' o1 hr' _ hl;rw[hr]at hr';simp only[za]at hr';subst hr';rw[JM C.cz w (V.okm_okp (hp.2 hg)).1,e1,hat]at hl;simp only[jd,locM,za,zb,hc.2.2]at hl;rw[hl.1,hl.2]
    ·cases h
   ·cases h
  ·cases h
 ·rename_i off ft gx s ver p hf h1;split at h
  ·rename_i r hr;split at h
   ·rename_i e fs hat
    split at h
    ·rename_i hc;simp only[za,zb]at h;obtain⟨rfl,rfl⟩:=h
     obtain⟨b,cc,Oc,e1,e2,e3,e4⟩:=zlF hI (zX hI h1 (hp.1 hg)).1 hr (hp.2 hg) hat
     refine⟨.pointer (some ⟨b,0+off,none⟩),?_,?_⟩
     ·simp only[execOp,ho,Sem.run_bind,e1,zeP hf hc.1,Result.andThen_ok,Sem.run_pure]
     ·intro r' b' o1 hr' hok' hl;rw[hr]at hr';simp only[za]at hr';subst hr';have e4':=e4 (Kr hok' (by simp));rw[show p++[0,f]=(p++[0])++[f]from by simp,JM C.cz w (by simp),e4',V.at_append,hat]at hl;simp only[jd,V.at,V.kid,locM,za,zb,hc.2.2]at hl;rw[hl.1,hl.2]
    ·cases h
   ·cases h
  ·cases h
 ·cases h
theorem zx8(hI:Inv C F O Z D a w){o:Oper}{x:Operand}{g:Bool}{pre:Prop}{A:A}(ho:o.op=.nilCheck x)(h:yC C D g o=some (pre,A))(hg:g=true)(hp:pre):Yld C F D a w o A:=by
 simp only[yC,ho]at h;split at h
 ·rename_i gx s ver p h1;split at h
  ·rename_i r hr;split at h
   ·rename_i e c hat
    simp only[za,zb]at h;obtain⟨rfl,rfl⟩:=h;have hh:=(zX hI h1 (hp.1 hg)).1
    obtain⟨b,cc,Oc,e1,e2,e3,e4⟩:=zlF hI hh hr (hp.2 hg) hat
    refine⟨a.eval x,?_,hh⟩;simp[execOp,ho,e1]
   ·cases h
  ·cases h
 ·cases h
theorem zvv(hI:Inv C F O Z D a w){o:Oper}{t:TypeId}{x i:Operand}{g:Bool}{pre:Prop}{A:A}(ho:o.op=.indexAddr t x i)(h:yC C D g o=some (pre,A))(hg:g=true)(hp:pre):Yld C F D a w o A:=by
 simp only[yC,ho]at h;split at h
 ·rename_i e gx e' d es pi n he h1 h2;split at h
  ·rename_i hc;obtain⟨rfl,hc⟩:=hc;simp only[za,zb]at h;obtain⟨rfl,rfl⟩:=h;obtain⟨p1,p2,p3⟩:=hp;obtain⟨n0,n1⟩:=p3 hg;have ei:=Ze hI h2 hg p2;obtain⟨cs,e1,e2⟩:=(zX hI h1 (p1 hg)).1;have hinf:(C.P.info? e).isSome=true:=by obtain⟨i,hi,_⟩:=QQ (P:=C.P) (t:=e) rfl hc;simp[hi]
   cases e2 with
   |fz0=>simp at n1;omega
   |fz e d es b off len cap cs' O' hl hcap hm hF hcs hr=>
    subst hl;have e1':a.eval x=.slice (some ⟨b,off,none⟩) es.length cap:=e1;have hlt:n.toNat<es.length:=(by omega);refine⟨.pointer (some ⟨b,off+n.toNat*C.P.cellsOf e,none⟩),?_,?_⟩
    ·simp only[execOp,ho,Sem.run_bind,e1',ei,zmS he n0 n1 w hinf,Result.andThen_ok,Sem.run_pure]
    ·exact ztD hF (hcs _ hlt).2 (hr _ _ (yH d hlt))
  ·cases h
 ·rename_i e gx s ver p pi n he h1 h2;split at h
  ·rename_i r hr;split at h
   ·rename_i e' d es hat
    split at h
    ·rename_i hc;obtain⟨rfl,hc⟩:=hc;simp only[za,zb]at h;obtain⟨rfl,rfl⟩:=h;obtain⟨p1,p2,p3⟩:=hp;obtain⟨n00,n0,n1⟩:=p3 hg;have ei:=Ze hI h2 hg p2;have hinf:(C.P.info? e).isSome=true:=(by obtain⟨i,hi,_⟩:=QQ (P:=C.P) (t:=e) rfl hc;simp[hi]);obtain⟨b,cap,e1,_,e2⟩:=(zzf hI (zX hI h1 (p1 hg)).1 hr n00 hat).2 (by rintro rfl;simp at n1;omega);refine⟨.pointer (some ⟨b,0+n.toNat*C.P.cellsOf e,none⟩),?_,?_⟩
     ·simp only[execOp,ho,Sem.run_bind,e1,ei,zmS he n0 n1 w hinf,Result.andThen_ok,Sem.run_pure]
     ·intro r' b' o1 hr' hok' hl;rw[hr]at hr';simp only[za]at hr';subst hr';rw[e2 (Kr hok' (by simp)) n.toNat]at hl;simp only[za,zb]at hl;rw[<-hl.1,<-hl.2,jB]
    ·cases h
   ·cases h
  ·cases h
 ·cases h
theorem zDJ(hI:Inv C F O Z D a w){o:Oper}{t:TypeId}{x i:Operand}{g:Bool}{pre:Prop}{A:A}(ho:o.op=.index t x i)(h:yC C D g o=some (pre,A))(hg:g=true)(hp:pre):Yld C F D a w o A:=by
 simp only[yC,ho]at h;split at h
 ·rename_i gx s pi n hs h1 h2;simp only[za,zb]at h;obtain⟨rfl,rfl⟩:=h;obtain⟨p1,p2,p3⟩:=hp;obtain⟨n0,n1⟩:=p3 hg;have ei:=Ze hI h2 hg p2;have e1:=zre (zX hI h1 (p1 hg)).1;have hlt:n.toNat<s.size:=by omega
  refine kL (v:=.int .u8 (s.data.getD n.toNat 0).toNat) (cs:=[_]) ?_ rfl (.int ..)
  have hb:s[n.toNat]? =some (s.data.getD n.toNat 0):=by
   have:s[n.toNat]? =some s[n.toNat]:=(by simp[hlt]);rw[this];have h2:n.toNat<s.data.size:=hlt;have h3:s[n.toNat]=s.data[n.toNat]:=rfl;rw[h3,zD,Array.getElem?_eq_getElem h2];rfl
  simp only[execOp,ho,Sem.run_bind,e1,ei,Instr.index,asIntOf,Sem.run_pure,Result.andThen_ok,run_underlying (zhG hs),if_pos n0,hb]
 ·cases h
theorem zzo(hI:Inv C F O Z D a w){o:Oper}{x:Operand}{i:Nat}{g:Bool}{pre:Prop}{A:A}(ho:o.op=.extract x i)(h:yC C D g o=some (pre,A))(hg:g=true)(hp:pre):Yld C F D a w o A:=by
 simp only[yC,ho]at h;split at h
 ·rename_i gx fs h1;split at h
  ·rename_i hi;simp only[za,zb]at h;obtain⟨rfl,rfl⟩:=h;obtain⟨cs,e1,e2⟩:=(zX hI h1 (hp hg)).1
   cases e2 with
   |tup fs vs cs' Os O' hn hOs hdis hv hr=>
    have e1':a.eval x=.tuple vs:=e1;have hi':=yH (.hole 0) hi
    have hvs:vs[i]? =some (vs.getD i undef):=by
     have:i<vs.size:=(by omega);simp[this]
    exact kL (v:=vs.getD i undef) (cs:=cs' i) (by simp only[execOp,ho,Sem.run_bind,e1',Instr.extract,hvs,Result.andThen_ok,Sem.run_pure]) (hv i _ hi') ((hr i _ hi').mono (fun _ h=>h) (fun b hb=>hOs i b hb))
  ·cases h
 ·rename_i gx s ver h1;split at h
  ·rename_i fs hr;split at h
   ·rename_i hi
    obtain⟨cs,Oy,e1,e2,e3⟩:∃cs Oy,(V.tup fs).reg cs (a.tmps.getD s undef)/\Rep C.cz w F (.tup fs) cs Oy/\∀b,Oy b->O s b:=by
     obtain⟨_,h2,_⟩:=hI.slot s (Env.own_elim hr).1;obtain⟨cs,h3,h4⟩:=h2 _ (Env.own_elim hr).2.2;exact⟨cs,O s,h3,h4,fun _ h=>h⟩
    cases e2 with
    |tup fs vs cs' Os O' hn hOs hdis hv hrr=>
     have e1':a.tmps.getD s undef=.tuple vs:=e1;have hi':=yH (.hole 0) hi
     have hvs:vs[i]? =some (vs.getD i undef):=by
      have:i<vs.size:=(by omega);simp[this]
     have hgx:gx=true:=by
      split at h
      ·simp only[za,zb]at h;exact(h.1▸hp:(g=true->gx=true)) hg
      ·simp only[za,zb]at h;exact(h.1▸hp:(g=true->gx=true)) hg
     have hev:a.eval x=.tuple vs:=by
      have:=(zX hI h1 hgx).1 (.tup fs) _ hr trivial rfl;rw[this,e1']
     have hrun:(execOp a.eval o).run C.P w=.ok (.value (vs.getD i undef)) w:=(by simp only[execOp,ho,Sem.run_bind,hev,Instr.extract,hvs,Result.andThen_ok,Sem.run_pure]);split at h
     ·simp only[za,zb]at h;obtain⟨rfl,rfl⟩:=h;refine⟨_,hrun,?_⟩;intro r' h' hr' _ hh;rw[hr]at hr';simp only[za]at hr';subst hr';rw[e1']at hh;simp only[hdrV,za]at hh;exact hh
     ·rename_i hno;simp only[za,zb]at h;obtain⟨rfl,rfl⟩:=h;exact kL hrun (hv i _ hi') ((hrr i _ hi').unowned (by simpa using hno))
   ·cases h
  ·cases h
 ·cases h
theorem zzp(hI:Inv C F O Z D a w){o:Oper}{s d:TypeId}{x:Operand}{g:Bool}{pre:Prop}{A:A}(ho:o.op=.convert s d x)(h:yC C D g o=some (pre,A))(hg:g=true)(hp:pre):Yld C F D a w o A:=by
 simp only[yC,ho]at h;split at h
 ·rename_i k1 k gx k2 n hs hd h1;simp only[za,zb]at h;obtain⟨rfl,rfl⟩:=h;have e1:=za1 (zX hI h1 (hp hg)).1;exact kL (v:=.int k (k.wrap n)) (cs:=[_]) (by simp[execOp,ho,e1,convert,run_underlying (znz hs),run_underlying (znz hd),Conv.intToInt]) rfl (.int ..)
 ·rename_i gx sl ver hs hd h1;split at h
  ·rename_i e e' dd es hstr he hown;split at h
   ·rename_i hc;obtain⟨hu8,rfl,hcz⟩:=hc;simp only[za,zb]at h;obtain⟨rfl,rfl⟩:=h;obtain⟨hgx,hby⟩:=hp hg;obtain⟨cs,Oy,e1,e2,_⟩:=KO hI (zX hI h1 hgx).1 hown trivial;simp only[V.at]at e1 e2
    have hvl:es.map (fun y=>match y with| .int _ n=>Value.int .u8 n|_=>undef)=(es.map (fun y=>match y with| .int _ n=>n|_=>0)).map (Value.int .u8):=by
     rw[List.map_map];refine List.map_congr_left fun y hy=>?_;obtain⟨n,rfl⟩:=hby y hy;rfl
    have key:∃ad len cap,a.eval x=.slice ad len cap/\(Conv.bytesToString (.slice ad len cap)).run C.P w=.ok (.string (zgT es)) w:=by
     cases e2 with
     |own0=>exact⟨none,0,0,e1,by simp[Conv.bytesToString,zgT];rfl⟩
     |own _ _ _ b len cap cur cs' Os _ hb hsz hl hcap hm hO hOs hdis hcs hr hd9=>
      refine⟨some ⟨b,0,none⟩,len,cap,e1,?_⟩;subst hl
      have hld:=run_loadCells_list (P:=C.P) (w:=w) ⟨b,0,none⟩ (es.map (fun y=>match y with| .int _ n=>Value.int .u8 n|_=>undef)) (fun j v hj=>by
       rw[zK]at hj
       cases hy:es[j]? with
       |none=>rw[hy]at hj;cases hj
       |some y=>
        rw[hy]at hj;simp only[qy,za]at hj;obtain⟨n,rfl⟩:=hby y (yo hy);have hjl:=(zq.1 hy).1;have h3:=hr j _ hy;have h4:=(hcs j hjl).2;have h5':∀(q:List Value) (Q:Nat->Prop),Rep C.cz w F (.int .u8 n) q Q->q=[.int .u8 n]:=fun q Q hq=>(by cases hq;rfl);have h5:=h5' _ _ h3;have h6:=h4 0 (.int .u8 n) (by rw[h5];rfl);rw[show C.cz e=1 from hcz,Nat.mul_one,yk]at h6;rw[<-hj,Addr.add_lit,jB]
        exact h6)
      rw[List.length_map,hvl]at hld;rw[run_bytesToString w _ es.length cap _ hld];rw[foldl_push_bytes,zgT,List.map_map]
      have e9:(fun n:Int=>UInt8.ofNat n.toNat)∘(fun y:V=>match y with| .int _ n=>n|_=>0)=zDo:=by
       funext y
       cases y<;>rfl
      rw[e9];simp[ByteArray.empty,ByteArray.emptyWithCapacity];rfl
    obtain⟨ad,len,cap,hv,hrun⟩:=key;refine kL (v:=.string (zgT es)) (cs:=[_]) ?_ rfl (.str ..);have hcv:=run_convert_bytes_string (P:=C.P) w s d e ad len cap (Zo he) (znz hu8) (zhG hstr);simp only[execOp,ho,hv,Sem.run_bind,hcv,hrun,Result.andThen_ok,Sem.run_pure]
   ·cases h
  ·cases h
 ·cases h
theorem zC7(hI:Inv C F O Z D a w){o:Oper}{x:Operand}{t:TypeId}{g gx:Bool}{A:A}{args:Array Operand}{ats:Array TypeId}(ho:o.op=.call ⟨.builtin .len,args,ats⟩)(hargs:args.toList=[x])(hats:ats.toList=[t])
 (h1:opd C.P D 0 x=some (gx,A)) (hgx:gx=true) (hna:A.isAg=false) (hok:A.okA D) {y:V} (hl:A.look D=some y) {n:Nat} (hy:(∃o e d es,y=.slc o e d es/\n=es.length/\(ul C.P t).isSome=true)\/(∃s,y=.str s/\n=s.size/\Kg C.P t=true)) (hg:g=true):
 Yld C F D a w o (.val (.int .i64 n)):=by
 have hargs':args= #[x]:=by cases args;simp_all
 have hats':ats= #[t]:=by cases ats;simp_all
 subst hargs';subst hats';have hop:=(zX hI h1 hgx).1
 have hrep:∃cs Oy,y.reg cs (a.eval x)/\Rep C.cz w F y cs Oy:=by
  cases A with
  |val z=>
   simp only[A.look,za]at hl;subst hl;obtain⟨cs,e1,e2⟩:=hop;exact⟨cs,_,e1,e2⟩
  |rf s ver p=>
   simp only[A.look,zP]at hl;obtain⟨r,hr,rfl⟩:=hl;simp only[A.okA,hr]at hok;obtain⟨cs,Oy,e1,e2,_⟩:=KO hI hop hr hok;exact⟨cs,Oy,e1,e2⟩
  |ag s ver p z=>simp[A.isAg]at hna
  |ad=>simp[A.look]at hl
  |fz=>simp[A.look]at hl
 obtain⟨cs,Oy,e1,e2⟩:=hrep;rcases hy with⟨o',e,d,es,rfl,rfl,ht⟩|⟨s',rfl,rfl,ht⟩
 ·obtain⟨e',he'⟩:=za7.1 ht
  have:∃ad cap,a.eval x=.slice ad es.length cap:=by
   cases e2<;>first|(subst_vars;exact⟨_,_,e1⟩)|exact⟨_,_,e1⟩
  obtain⟨ad,cap,hv⟩:=this;exact kL (v:=.int .i64 es.length) (cs:=[_]) (by simp[execOp,ho,resolve,invoke,builtin,hv,Builtin.len_,run_underlying (Zo he'),goInt]) rfl (.int ..)
 ·cases e2;have hv:a.eval x=.string s':=e1;exact kL (v:=.int .i64 s'.size) (cs:=[_]) (by simp[execOp,ho,resolve,invoke,builtin,hv,Builtin.len_,run_underlying (zhG ht),goInt]) rfl (.int ..)
end
theorem zDS(x y:Int):(if y<x then y else x)=min x y:=by omega
theorem zDW(x y:Int):(if x<y then y else x)=max x y:=by omega
section
variable {C:Ctx}{F:Nat->Prop}{O:Nat->Nat->Prop}{Z:Nat->Prop}{D:Env}{a:Act}{w w':World}
theorem zFV(hI:Inv C F O Z D a w){o:Oper}{x y:Operand}{g gx gy:Bool}{k:IntKind}{m n:Int}{args:Array Operand}{ats:Array TypeId}(ho:o.op=.call ⟨.builtin .min,args,ats⟩)(hargs:args.toList=[x,y])
 (h1:opd C.P D o.type x=some (gx,.val (.int k m))) (h2:opd C.P D o.type y=some (gy,.val (.int k n))) (hgx:gx=true) (hgy:gy=true) (_:g=true):Yld C F D a w o (.val (.int k (min m n))):=by
 have hargs':args= #[x,y]:=by cases args;simp_all
 subst hargs';have e1:=za1 (zX hI h1 hgx).1;have e2:=za1 (zX hI h2 hgy).1;exact kL (v:=.int k (min m n)) (cs:=[_]) (by simp[execOp,ho,resolve,invoke,builtin,e1,e2,Builtin.min_,Builtin.min2,zDS]) rfl (.int ..)
theorem zFW(hI:Inv C F O Z D a w){o:Oper}{x y:Operand}{g gx gy:Bool}{k:IntKind}{m n:Int}{args:Array Operand}{ats:Array TypeId}(ho:o.op=.call ⟨.builtin .max,args,ats⟩)(hargs:args.toList=[x,y])
 (h1:opd C.P D o.type x=some (gx,.val (.int k m))) (h2:opd C.P D o.type y=some (gy,.val (.int k n))) (hgx:gx=true) (hgy:gy=true) (_:g=true):Yld C F D a w o (.val (.int k (max m n))):=by
 have hargs':args= #[x,y]:=by cases args;simp_all
 subst hargs';have e1:=za1 (zX hI h1 hgx).1;have e2:=za1 (zX hI h2 hgy).1;exact kL (v:=.int k (max m n)) (cs:=[_]) (by simp[execOp,ho,resolve,invoke,builtin,e1,e2,Builtin.max_,Builtin.max2,zDW]) rfl (.int ..)
theorem zfO(isS:Bool)(len cap:Nat)(hle:len<=cap){lo hi:Option Operand}{pl ph:Prop}{l h:Int}{g:Bool}(hI:Inv C F O Z D a w)
 (h1:kP C.P D g 0 lo=some (pl,l)) (h2:kP C.P D g len hi=some (ph,h)) (hg:g=true) (hpl:pl) (hph:ph)
 (l0:0<=l) (lh:l<=h) (hl:h<=(len:Int)):(Instr.sliceBounds isS len cap (lo.map a.eval) (hi.map a.eval) none).run C.P w=.ok (l.toNat,h.toNat,cap) w:=by
 have hcap:h<=(cap:Int):=by omega
 have e2:∀v,hi=some v->a.eval v=.int .i64 h:=by rintro v rfl;exact Ze hI h2 hg hph
 have e1:∀v,lo=some v->a.eval v=.int .i64 l:=by rintro v rfl;exact Ze hI h1 hg hpl
 have hh0:0<=h:=by omega
 cases lo with
 |none=>
  simp only[kP,za,zb]at h1;obtain⟨_,rfl⟩:=h1
  cases hi with
  |none=>
   simp only[kP,za,zb]at h2;obtain⟨_,rfl⟩:=h2;simp[Instr.sliceBounds]
  |some v=>
   simp[Instr.sliceBounds,Instr.sliceBound,e2 v rfl,asIntOf,hh0,hcap]
 |some u=>
  cases hi with
  |none=>
   simp only[kP,za,zb]at h2;obtain⟨_,rfl⟩:=h2;simp[Instr.sliceBounds,Instr.sliceBound,e1 u rfl,asIntOf,l0,lh]
  |some v=>
   have hlh':l<=max h 0:=(by omega);simp[Instr.sliceBounds,Instr.sliceBound,e1 u rfl,e2 v rfl,asIntOf,hh0,hcap,l0,hlh']
theorem zDI(hI:Inv C F O Z D a w){o:Oper}{t:TypeId}{x:Operand}{lo hi:Option Operand}{g:Bool}{pre:Prop}{A:A}(ho:o.op=.slice t x lo hi none)(h:yC C D g o=some (pre,A))(hg:g=true)(hp:pre):Yld C F D a w o A:=by
 simp only[yC,ho]at h;split at h
 ·rename_i gx e d es h1;split at h
  ·rename_i e' pl l ph hh he hl hhi;split at h
   ·rename_i hee;obtain⟨rfl,hcz⟩:=hee;simp only[za,zb]at h;obtain⟨rfl,rfl⟩:=h;obtain⟨p1,p2,p3,p4⟩:=hp;obtain⟨l0,lh,hle⟩:=p4 hg;have hu:=Zo he;obtain⟨i,hinf,hisz⟩:=QQ (P:=C.P) (t:=e) rfl hcz;obtain⟨cs,e1,e2⟩:=(zX hI h1 (p1 hg)).1
    cases e2 with
    |fz0 e d ad cap=>
     have e1':a.eval x=.slice ad 0 cap:=e1;have hb:=zfO true 0 cap (Nat.zero_le _) hI hl hhi hg p2 p3 l0 lh (by simpa using hle);have hh0:hh.toNat=0:=(by simp at hle;omega);have hl0:l.toNat=0:=(by simp at hle;omega);refine kL (v:=.slice (if cap=0 then ad else ad.map (·.add (0*i.size))) 0 cap) (cs:=[_]) ?_ rfl (by simp;exact .fz0 ..);simp[execOp,ho,e1',Instr.sliceAt,run_underlying hu,Instr.slice,hb,Go.sizeOf,typeInfo,hinf,hh0,hl0]
    |fz e d es b off len cap cs' O' hl' hcap hm hF hcs hr=>
     subst hl';have e1':a.eval x=.slice (some ⟨b,off,none⟩) es.length cap:=e1;have hb:=zfO true es.length cap hcap hI hl hhi hg p2 p3 l0 lh hle
     have hrun:(execOp a.eval o).run C.P w=.ok (.value (.slice (if cap=l.toNat then some ⟨b,off,none⟩else some ⟨b,off+l.toNat*i.size,none⟩) (hh.toNat-l.toNat) (cap-l.toNat))) w:=by
      simp[execOp,ho,e1',Instr.sliceAt,run_underlying hu,Instr.slice,hb,Go.sizeOf,typeInfo,hinf,Addr.add_lit]
     have hlen:((es.take hh.toNat).drop l.toNat).length=hh.toNat-l.toNat:=(by simp;omega);by_cases hemp:hh.toNat-l.toNat=0
     ·have:(es.take hh.toNat).drop l.toNat=[]:=List.eq_nil_of_length_eq_zero (by omega);rw[this];rw[hemp]at hrun;exact kL hrun (cs:=[_]) rfl (.fz0 ..)
     ·rw[if_neg (by omega)]at hrun;refine kL hrun (cs:=[_]) rfl (.fz e d _ b _ _ _ (fun j=>cs' (l.toNat+j)) _ hlen.symm (by omega) (by omega) hF (fun j hj=>?_) (fun j y hy=>?_))
      ·obtain⟨g1,g2⟩:=hcs (l.toNat+j) (by omega);refine⟨g1,?_⟩;have:off+l.toNat*i.size+j*C.P.cellsOf e=off+(l.toNat+j)*C.P.cellsOf e:=(by rw[hisz,jj];omega);rw[this];exact g2
      ·rw[zZ,zY]at hy;split at hy
       ·exact hr _ _ hy
       ·cases hy
   ·cases h
  ·cases h
 ·rename_i gx s h1;split at h
  ·rename_i pl l ph hh he hl hhi;simp only[za,zb]at h;obtain⟨rfl,rfl⟩:=h;obtain⟨p1,p2,p3,p4⟩:=hp;obtain⟨l0,lh,hle⟩:=p4 hg;have hb:=zfO false s.size s.size (zw _) hI hl hhi hg p2 p3 l0 lh hle;have e1:=zre (zX hI h1 (p1 hg)).1;exact kL (v:=.string (s.extract l.toNat hh.toNat)) (cs:=[_]) (by simp[execOp,ho,e1,Instr.sliceAt,run_underlying (zhG he),Instr.slice,hb]) rfl (.str ..)
  ·cases h
 ·cases h
theorem zfA(hI:Inv C F O Z D a w){g:Bool}{ty:Nat->TypeId}(hg:g=true):∀{parts:List (Nat×Operand)} {p:Prop} {vs:List (Nat×V)},ym C.P D g ty parts=some (p,vs)->p->
 Fa2 (fun(x:Nat×Operand) (y:Nat×V)=>x.1=y.1/\∃cs,y.2.reg cs (a.eval x.2)/\(∀n,y.2≠.hole n)/\Rep C.cz w F y.2 cs (fun _=>False)) parts vs
 |[],p,vs,h,_=>by simp only[ym,za,zb]at h;obtain⟨_,rfl⟩:=h;exact .nil
 |(i,x)::xs,p,vs,h,hp=>by
  simp only[ym]at h;split at h
  ·rename_i gx v p' vs' h1 h2;split at h
   ·cases h
   ·simp only[za,zb]at h;obtain⟨rfl,rfl⟩:=h;rename_i hc;obtain⟨cs,e1,e2⟩:=(zX hI h1 (hp.1 hg)).1;exact .cons ⟨rfl,cs,e1,(by rintro n rfl;simp[V.isHole]at hc),e2⟩ (zfA hI hg h2 hp.2)
  ·cases h
theorem V.places_get:∀(zs:List V) (o i:Nat),(V.places zs o)[i]? =(zs[i]?).map fun z=>(o+V.offs zs i,z.size)
 |[],o,i=>by simp[V.places]
 |z::zs,o,0=>by simp[V.places,V.offs,V.sizes]
 |z::zs,o,i+1=>by
  simp only[V.places,Jk];rw[V.places_get zs (o+z.size) i];have:V.offs (z::zs) (i+1)=z.size+V.offs zs i:=by simp[V.offs,V.sizes]
  rw[this,Nat.add_assoc]
theorem zuF(off:Nat):∀(c:List Value) (k:Nat) (cells:Array Value) (m:Nat),off+k+c.length<=cells.size->
 ((c.zipIdx k).foldl (fun cs (x:Value×Nat)=>cs.setIfInBounds (off+x.2) x.1) cells)[m]? =if off+k<=m/\m<off+k+c.length then c[m-off-k]? else cells[m]?
 |[],k,cells,m,_=>by
  simp only[List.zipIdx_nil,List.foldl_nil,List.length_nil,yk];rw[if_neg (by omega)]
 |v::c,k,cells,m,h=>by
  simp only[List.zipIdx_cons,List.foldl_cons];simp only[zj]at h;rw[zuF off c (k+1) _ m (by simp;omega)];by_cases h1:m=off+k
  ·subst h1;rw[if_neg (by omega),if_pos (by simp only[zj];omega)];have:off+k<cells.size:=(by omega);simp[this]
  ·by_cases h2:off+k<=m/\m<off+k+(c.length+1)
   ·rw[if_pos (by omega),if_pos (by simpa only[zj]using h2)];rw[show m-off-k=(m-off-(k+1))+1 from by omega,Jk]
   ·rw[if_neg (by omega),if_neg (by simpa only[zj]using h2)];exact ZC (by omega)
theorem zru(off:Nat)(c:List Value)(cells:Array Value)(h:off+c.length<=cells.size):
 ((c.zipIdx).foldl (fun cs (x:Value×Nat)=>cs.setIfInBounds (off+x.2) x.1) cells).toList=cells.toList.take off++c++cells.toList.drop (off+c.length):=by
 apply yB;intro m;have:=zuF off c 0 cells m (by simpa using h);rw[jO,this,YD];have htl:(cells.toList.take off).length=off:=by simp;omega
 rw[htl];simp only[yk,Nat.sub_zero];by_cases h1:m<off
 ·rw[if_neg (by omega),if_pos h1,zY,if_pos h1];simp
 ·rw[if_neg h1];by_cases h2:m<off+c.length
  ·rw[if_pos ⟨by omega,h2⟩,if_pos h2]
  ·rw[if_neg (by omega),if_neg h2,zZ,jO];congr 1;omega
theorem zFu{cz:TypeId->Nat}{fs:List V}{cells cells1 cs:List Value}{j:Nat}{x v:V}(hr:Rep cz w F (.agg fs) cells (fun _=>False))(hx:fs[j]? =some x)(hsz:x.size=v.size)(hrep:Rep cz w F v cs (fun _=>False))
 (hc:cells1=cells.take (V.offs fs j)++cs++cells.drop (V.offs fs j+cs.length)):Rep cz w F (.agg (fs.set j v)) cells1 (fun _=>False):=by
 cases hr with
 |agg fs cs0 Os O hn hOs hdis hr=>
  have hle:=V.offs_succ_le hx;have hcl:=hrep.length;have htl:(cells.take (V.offs fs j)).length=V.offs fs j:=by simp;omega
  subst hc;refine .agg _ _ (fun _ _=>False) _ (by rw[V.sizes_set hx hsz.symm];simp only[zr,zV,yF,hcl];omega) (fun _ _ h=>h) (fun _ _ _ _ h=>h.elim) (fun k z hz=>?_);rw[V.offs_set k hx hsz.symm];rcases V.set_some hz with⟨rfl,rfl⟩|⟨hne,hz'⟩
  ·rw[zU,uC (by rw[htl];exact zw _),ke (by rw[htl];exact zw _),List.nil_append,jT (by rw[hcl];exact zw _),
    zB (by rw[hcl];exact zw _)]
   exact hrep
  ·have hseg:List.take z.size (List.drop (V.offs fs k) (cells.take (V.offs fs j)++cs++cells.drop (V.offs fs j+cs.length)))=List.take z.size (List.drop (V.offs fs k) cells):=by
    apply yB;intro m;rw[zY,zY];split
    ·rename_i hm;rw[zZ,zZ,YD,htl,hcl];rcases YI hne with hlt'|hgt
     ·have:=V.offs_sep hz' hlt';rw[if_pos (by omega),zY,if_pos (by omega)]
     ·have:=V.offs_sep hx hgt;rw[if_neg (by omega),if_neg (by omega),zZ];congr 1;omega
    ·rfl
   rw[hseg];exact(hr k z hz').mono (fun _ h=>h) (fun b hb=>hOs k b hb)
theorem zka{cz:TypeId->Nat}{place:Nat->Option (Nat×Nat)}:∀{vs:List (Nat×V)} {us:List (Nat×Value)} {fs fs':List V} {cells:Array Value},Rep cz w F (.agg fs) cells.toList (fun _=>False)->KZ fs vs=some fs'->
 Fa2 (fun(x:Nat×Value) (y:Nat×V)=>x.1=y.1/\∃cs,y.2.reg cs x.2/\(∀n,y.2≠.hole n)/\Rep cz w F y.2 cs (fun _=>False)) us vs->(∀(i:Nat) (x:V),fs[i]? =some x->place i=some (V.offs fs i,x.size))->
 ∃cells',Instr.fill place cells us=some cells'/\Rep cz w F (.agg fs') cells'.toList (fun _=>False)/\fs'.length=fs.length/\(∀(i:Nat) (x:V),fs'[i]? =some x->∃y:V,fs[i]? =some y/\y.size=x.size)
 |[],us,fs,fs',cells,hr,hf,hu,hpl=>by
  cases hu;simp only[KZ,za]at hf;subst hf;exact⟨cells,rfl,hr,rfl,fun i x hx=>⟨x,hx,rfl⟩⟩
 |(i,v)::vs,us,fs,fs',cells,hr,hf,hu,hpl=>by
  cases hu with
  |cons h1 h2=>
   rename_i u us;obtain⟨j,u⟩:=u;obtain⟨hij,cs,hreg,hnh,hrep⟩:=h1;simp only at hij hreg hrep;subst hij;simp only[KZ]at hf;split at hf
   ·rename_i x hx;split at hf
    ·rename_i hsz
     have hcl:u.cells.toList=cs:=by
      revert hreg hrep hnh
      cases v with
      |agg fs=>intro hreg hrep _;rw[hreg];simp[Value.cells]
      |hole n=>intro _ _ hnh;exact absurd rfl (hnh n)
      |_=>
       intro hreg hrep _;have hl:=hrep.length
       match cs,hl with
       |[c],_=>
        have:u=c:=hreg;subst this;cases hrep<;>rfl
     have hlen:u.cells.size=v.size:=by rw[<-hrep.length,<-hcl];simp
     have hfit:V.offs fs j+v.size<=cells.size:=by
      have:=V.offs_succ_le hx;have hl:=hr.length;simp only[jm,V.size]at hl;omega
     let cells1:=(u.cells.zipIdx.foldl (fun cs (x:Value×Nat)=>cs.setIfInBounds (V.offs fs j+x.2) x.1) cells)
     have hc1:cells1.toList=cells.toList.take (V.offs fs j)++cs++cells.toList.drop (V.offs fs j+cs.length):=by
      have:=zru (V.offs fs j) cs cells (by rw[hrep.length];exact hfit);rw[<-this];show(u.cells.zipIdx.foldl _ cells).toList=_;rw[<-Array.foldl_toList,Array.toList_zipIdx,hcl]
     have hr1:Rep cz w F (.agg (fs.set j v)) cells1.toList (fun _=>False):=by
      exact zFu hr hx hsz hrep hc1
     obtain⟨cells',e1,e2,e3,e4⟩:=zka (place:=place) (us:=us) hr1 hf h2 (fun k y hk=>by
      rw[V.offs_set k hx hsz.symm];rcases V.set_some hk with⟨rfl,rfl⟩|⟨_,hk'⟩
      ·rw[hpl k x hx,hsz]
      ·exact hpl k y hk')
     refine⟨cells',?_,e2,by simpa using e3,fun k y hk=>?_⟩
     ·simp only[Instr.fill];rw[hpl j x hx];simp only;rw[if_neg (by rw[hlen,hsz];simp;omega)];exact e1
     ·obtain⟨z,hz,hzs⟩:=e4 k y hk;rcases V.set_some hz with⟨rfl,rfl⟩|⟨_,hk'⟩
      ·exact⟨x,hx,by rw[hsz];exact hzs⟩
      ·exact⟨z,hk',hzs⟩
    ·cases hf
   ·cases hf
theorem zp6{α β γ:Type}{R:β->γ->Prop}{f:α->β}:∀{xs:List α} {ys:List γ},Fa2 (fun x y=>R (f x) y) xs ys->Fa2 R (xs.map f) ys
 |_,_,.nil=>.nil
 |_,_,.cons h t=>.cons h (zp6 t)
theorem zDK(hI:Inv C F O Z D a w){o:Oper}{t:TypeId}{parts:Array (Nat×Operand)}{g:Bool}{pre:Prop}{A:A}(ho:o.op=.build t parts)(h:yC C D g o=some (pre,A))(hg:g=true)(hp:pre):Yld C F D a w o A:=by
 simp only[yC,ho]at h;split at h
 ·rename_i zs p vs h1 h2;rw[zP]at h;obtain⟨fs,hf,he⟩:=h;simp only[zb]at he;obtain⟨rfl,rfl⟩:=he;unfold zcy at h1;split at h1
  ·rename_i zs' fds hz hu;split at h1
   ·rename_i hpl;simp only[za]at h1;subst h1;obtain⟨i,z,hi,hzz,hzl,hzr⟩:=KI hz;have hv:=zfA hI hg h2 hp;have hus:=zp6 (f:=fun x:Nat×Operand=>(x.1,a.eval x.2)) (R:=fun(x:Nat×Value) (y:Nat×V)=>x.1=y.1/\∃cs,y.2.reg cs x.2/\(∀n,y.2≠.hole n)/\Rep C.cz w F y.2 cs (fun _=>False)) hv;obtain⟨cells',e1,e2,_⟩:=zka (cells:=z.cells) (place:=((V.places zs' 0).toArray[·]?)) hzr hf hus (fun i x hx=>by simp[V.places_get,hx])
    have hb:C.P.built t (parts.map fun(i,x)=>(i,a.eval x)).toList=some cells':=by
     unfold Program.built;simp only[hi,hu,hzz,hpl];rw[<-e1];congr 1;simp
    refine kL (v:=.agg cells') (cs:=cells'.toList) ?_ (by simp[V.reg]) e2;simp only[execOp,ho,Sem.run_bind];rw[run_build w t _ cells' hb];rfl
   ·cases h1
  ·cases h1
 ·cases h
theorem zx9(hI:Inv C F O Z D a w){o:Oper}{fn:Fn}{first caps:Array Operand}{g:Bool}{pre:Prop}{A:A}(ho:o.op=.makeFunc fn first caps)(h:yC C D g o=some (pre,A))(hg:g=true)(hp:pre):Yld C F D a w o A:=by
 cases fn with
 |func f=>
  simp only[yC,ho]at h;split at h
  ·rename_i p vs hf h1;split at h
   ·cases h
   rename_i hfb;simp only[za,zb]at h;obtain⟨rfl,rfl⟩:=h
   have hfirst:first= #[]:=by cases first;simp_all
   subst hfirst;have hv:=zfA hI hg h1 hp
   have key:∀(l:List Operand) (vs:List (Nat×V)),Fa2 (fun(x:Nat×Operand) (y:Nat×V)=>x.1=y.1/\∃cs,y.2.reg cs (a.eval x.2)/\(∀n,y.2≠.hole n)/\Rep C.cz w F y.2 cs (fun _=>False)) (l.map fun x=>(0,x)) vs->
    l.length=vs.length/\∀i (x:V),(vs.map (·.2))[i]? =some x->∃cs,x.reg cs ((l.map a.eval).toArray.getD i undef)/\Rep C.cz w F x cs (fun _=>False):=by
    intro l
    induction l with
    |nil=>intro vs h;cases h;exact⟨rfl,fun i x hx=>by simp at hx⟩
    |cons x l ih=>
     intro vs h
     cases h with
     |cons h1 h2=>
      obtain⟨e1,e2⟩:=ih _ h2;refine⟨by simp[e1],fun i y hy=>?_⟩
      cases i with
      |zero=>simp at hy;subst hy;obtain⟨_,cs,g1,_,g2⟩:=h1;exact⟨cs,by simpa using g1,g2⟩
      |succ i=>
       simp at hy;obtain⟨cs,g1,g2⟩:=e2 i y (by simpa using hy);exact⟨cs,by simpa using g1,g2⟩
   obtain⟨e1,e2⟩:=key caps.toList vs hv
   have e2':∀i,∃cs,∀(x:V),(vs.map (·.2))[i]? =some x->x.reg cs ((caps.map a.eval).getD i undef)/\Rep C.cz w F x cs (fun _=>False):=by
    intro i
    cases hx:(vs.map (·.2))[i]? with
    |none=>exact⟨[],fun x h=>by cases h⟩
    |some x=>
     obtain⟨cs,g1,g2⟩:=e2 i x hx;refine⟨cs,fun y hy=>?_⟩;simp only[za]at hy;subst hy;exact⟨by simpa using g1,g2⟩
   refine kL (v:=.func (.func f) #[] (caps.map a.eval)) (cs:=[_]) (by simp[execOp,ho,Instr.makeFunc]) rfl (.fn f _ _ (fun i=>Classical.choose (e2' i)) _ ?_ (fun i x hx=>(Classical.choose_spec (e2' i) x hx).1) (fun i x hx=>(Classical.choose_spec (e2' i) x hx).2) (zwu (by simpa using hfb)));simpa using e1
  ·cases h
 |_=>simp[yC,ho]at h
def Mks(C:Ctx)(F:Nat->Prop)(a:Act)(w:World)(o:Oper)(A:A):Prop:=
 ∃v obj x cs,A=.val x/\(execOp a.eval o).run C.P w=.ok (.value v) (w.alloc obj)/\x.reg cs v/\Rep C.cz (w.alloc obj) F x cs (fun b=>b=w.heap.size)
theorem Rep.alloc{cz:TypeId->Nat}{x:V}{cs:List Value}{O':Nat->Prop}(h:Rep cz w F x cs O')(hF:∀b,F b->b<w.heap.size)(hO:∀b,O' b->b<w.heap.size)(obj:Obj):Rep cz (w.alloc obj) F x cs O':=
 h.world (fun b hb=>Deep.blk_alloc_lt w obj b (hb.elim (hF b) (hO b)))
theorem zF3{x:V}{t:TypeId}{v:Value}{cs:List Value}(hF:∀b,F b->b<w.heap.size)(hreg:x.reg cs v)(hx:x.isHole=false)(hr:Rep C.cz w F x cs (fun _=>False)):
 Rep C.cz (w.alloc (.cells v.cells t)) F (.box t x) [.pointer (some ⟨w.heap.size,0,none⟩)] (fun b=>b=w.heap.size):=by
 have hcl:v.cells.toList=cs:=by
  revert hreg hr hx
  cases x with
  |agg fs=>intro hreg _ hrep;rw[hreg];simp[Value.cells]
  |hole n=>intro _ h;simp[V.isHole]at h
  |_=>
   intro hreg _ hrep;have hl:=hrep.length
   match cs,hl with
   |[c],_=>
    have:v=c:=hreg;subst this;cases hrep<;>rfl
 exact .box t x w.heap.size v.cells cs (fun _=>False) _ (Deep.blk_alloc_new w _) hcl rfl (fun _ h=>h.elim) (hr.alloc hF (fun _ h=>h.elim) _)
theorem zDY(hI:Inv C F O Z D a w){o:Oper}{t:TypeId}{g:Bool}{pre:Prop}{A:A}(ho:o.op=.alloc t)(h:yC C D g o=some (pre,A)):Mks C F a w o A:=by
 simp only[yC,ho,zP,zb]at h;obtain⟨x,hx,_,rfl⟩:=h;obtain⟨i,z,hi,hz,hzl,hzr⟩:=KI hx;refine⟨.pointer (some ⟨w.heap.size,0,none⟩),.cells z.cells t,.box t x,[.pointer (some ⟨w.heap.size,0,none⟩)],rfl,?_,rfl,?_⟩
 ·simp[execOp,ho,Instr.alloc,zeroValue,typeInfo,hi,hz,newVar,newRow]
 ·exact .box t x w.heap.size z.cells z.cells.toList (fun _=>False) _ (Deep.blk_alloc_new w _) rfl rfl (fun _ h=>h.elim) (Rep.alloc (hzr (w:=w) (F:=F)) hI.flt (fun _ h=>h.elim) _)
theorem zvK{P:Program}{t:TypeId}{x:V}(h:Zg P t x=true):x.isHole=false:=by
 cases x<;>simp[V.isHole];cases hh:zig P t<;>simp[Zg,hh]at h
theorem zDX(hI:Inv C F O Z D a w){o:Oper}{t:TypeId}{x:Operand}{g:Bool}{pre:Prop}{A:A}(ho:o.op=.box t x)(h:yC C D g o=some (pre,A))(hg:g=true)(hp:pre):Mks C F a w o A:=by
 simp only[yC,ho]at h;split at h
 ·rename_i gx v h1;split at h
  ·cases h
  ·split at h
   ·rename_i hf;simp only[za,zb]at h;obtain⟨rfl,rfl⟩:=h;obtain⟨cs,e1,e2⟩:=(zX hI h1 (hp hg)).1;exact⟨.pointer (some ⟨w.heap.size,0,none⟩),.cells (a.eval x).cells t,.box t v,[_],rfl,by simp[execOp,ho,Instr.box,newVar,newRow],rfl,zF3 hI.flt e1 (zvK hf) e2⟩
   ·cases h
 ·cases h
theorem zeo(z:Array Value)(n i:Nat)(hi:i<n)(hz:0<z.size):((madeCells z (n*z.size)).toList.drop (i*z.size)).take z.size=z.toList:=by
 apply yB;intro j;rw[zY];split
 ·rename_i hj;rw[zZ]
  have hlt:i*z.size+j<n*z.size:=by
   have:(i+1)*z.size<=n*z.size:=qb _ hi;rw[jj]at this;omega
  simp only[madeCells,Array.toList_map,Array.toList_range,zK,List.getElem?_range hlt,qy];rw[Nat.mul_comm i,Nat.mul_add_mod,Nat.mod_eq_of_lt hj];simp[hj]
 ·rename_i hj;rw[zy (by simpa using hj)]
theorem zE9(hI:Inv C F O Z D a w){o:Oper}{t:TypeId}{l c:Operand}{g:Bool}{pre:Prop}{A:A}(ho:o.op=.makeSlice t l c)(h:yC C D g o=some (pre,A))(hg:g=true)(hp:pre):Mks C F a w o A:=by
 simp only[yC,ho]at h;split at h
 ·rename_i e pl n pc m he h1 h2;split at h
  ·rename_i z hz;split at h
   ·rename_i hby
    simp only[za,zb]at h;obtain⟨rfl,rfl⟩:=h;obtain⟨p1,p2,p3⟩:=hp;obtain⟨n0,nm,hm⟩:=p3 hg;obtain⟨i,zv,hi,hzz,hzl,hzr⟩:=KI hz;have e1:=Ze hI h1 hg p1;have e2:=Ze hI h2 hg p2
    have hby':i.bytes<=65536:=by simpa [Program.bytesOf,hi]using hby
    have hprod:(i.bytes:Int)*m<=281474976710656:=by
     have:(i.bytes:Int)*m<=65536*2147483647:=Int.mul_le_mul (by omega) (by omega) (by omega) (by omega);omega
    have hr:=run_make (P:=C.P) w t e i zv (Zo he) hi hzz .i64 .i64 n m n0 nm hprod (by omega);have hisz:C.cz e=i.size:=(by simp[Ctx.cz,Program.cellsOf,hi]);refine⟨.slice (some ⟨w.heap.size,0,none⟩) n.toNat m.toNat,.cells (madeCells zv.cells (m.toNat*i.size)) e,_,[_],rfl,?_,rfl,?_⟩
    ·simp only[execOp,ho,Sem.run_bind,e1,e2,hr,Result.andThen_ok,Sem.run_pure]
    ·have hzl':zv.cells.size=i.size:=by simpa using hzl
     refine .own e z _ w.heap.size _ _ _ (fun _=>zv.cells.toList) (fun _ _=>False) _ (Deep.blk_alloc_new w _) (by rw[size_madeCells,hisz]) (by simp) (by simp;omega) (by simp[maxLen];omega) rfl (fun _ _ h=>h.elim) (fun _ _ _ _ h=>h.elim)
      (fun k hk=>⟨by rw[hisz];exact hzl,?_⟩) (fun k x hx=>?_) (fun hb=>absurd hb (by rw[zk3 (hzr (w:=w) (F:=F))];simp))
     ·intro j v hj;have hk':k<m.toNat:=(by simp at hk;omega);rw[World.cell?_alloc_new]
      have hpart:((madeCells zv.cells (m.toNat*zv.cells.size)).toList.drop (k*zv.cells.size)).take zv.cells.size=zv.cells.toList:=by
       refine zeo zv.cells m.toNat k hk' ?_;have:=(zq.1 hj).1;simp at this;omega
      have hjl:j<zv.cells.size:=(by have:=(zq.1 hj).1;simpa using this);rw[<-hpart,zY,if_pos hjl,zZ,hzl']at hj;rw[hisz];simpa using hj
     ·have:x=z:=by
       rw[jQ]at hx;split at hx
       ·simpa using hx.symm
       ·cases hx
      subst this;exact Rep.alloc hzr hI.flt (fun _ h=>h.elim) _
   ·cases h
  ·cases h
 ·cases h
theorem Ju{s:Nat}:∀(fs:List V),(∀x∈fs,x.size=s)->∀i,i<=fs.length->V.offs fs i=i*s
 |fs,h,0,_=>by simp[V.offs,V.sizes]
 |[],h,i+1,hi=>by simp at hi
 |x::fs,h,i+1,hi=>by
  have:V.offs (x::fs) (i+1)=x.size+V.offs fs i:=by simp[V.offs,V.sizes]
  rw[this,Ju fs (fun y hy=>h y (List.mem_cons_of_mem _ hy)) i (by simpa using hi),h x (by simp),jj];omega
theorem zkH{cz:TypeId->Nat}{z:V}{zc:List Value}(hz:Rep cz w F z zc (fun _=>False))(n:Nat){cells:List Value}(hn:cells.length=n*zc.length)(h:∀i,i<n->(cells.drop (i*zc.length)).take zc.length=zc):Rep cz w F (.agg (List.replicate n z)) cells (fun _=>False):=by
 have hsz:∀x∈List.replicate n z,x.size=zc.length:=by intro x hx;rw[(JD.1 hx).2,hz.length]
 have hss:V.sizes (List.replicate n z)=n*zc.length:=by
  have:=Ju _ hsz n (by simp);rw[<-this];simp[V.offs]
 refine .agg _ _ (fun _ _=>False) _ (by rw[hss,hn]) (fun _ _ h=>h) (fun _ _ _ _ h=>h.elim) (fun i x hx=>?_);have hi:i<n:=by have:=(zq.1 hx).1;simpa using this
 have hxz:x=z:=by rw[jQ,if_pos hi]at hx;simpa using hx.symm
 subst hxz;rw[Ju _ hsz i (by simp;omega),<-hz.length,h i hi];exact hz
theorem ztb(hI:Inv C F O Z D a w){o:Oper}{t:TypeId}{n:Nat}{parts:Array (Nat×Operand)}{g:Bool}{pre:Prop}{A:A}(ho:o.op=.buildSlice t n parts)(h:yC C D g o=some (pre,A))(hg:g=true)(hp:pre):Mks C F a w o A:=by
 simp only[yC,ho]at h;split at h
 ·rename_i e he;split at h
  ·rename_i z p vs hz h1;split at h
   ·rename_i hcz;rw[zP]at h;obtain⟨es,hf,hee⟩:=h;simp only[zb]at hee;obtain⟨rfl,rfl⟩:=hee;obtain⟨i,zv,hi,hzz,hzl,hzr⟩:=KI hz;have hisz:C.P.cellsOf e=i.size:=(by simp[Program.cellsOf,hi]);have hzl':zv.cells.size=i.size:=(by simpa using hzl);have hpos:0<zv.cells.size:=(by omega);have hv:=zfA hI hg h1 hp;have hus:=zp6 (f:=fun x:Nat×Operand=>(x.1,a.eval x.2)) (R:=fun(x:Nat×Value) (y:Nat×V)=>x.1=y.1/\∃cs,y.2.reg cs x.2/\(∀n,y.2≠.hole n)/\Rep C.cz w F y.2 cs (fun _=>False)) hv
    have hagg:Rep C.cz w F (.agg (List.replicate n z)) (madeCells zv.cells (n*zv.cells.size)).toList (fun _=>False):=
     zkH (hzr (w:=w) (F:=F)) n (by simp[size_madeCells]) (fun k hk=>by simpa using zeo zv.cells n k hk hpos)
    have hzs:∀x∈List.replicate n z,x.size=i.size:=by intro x hx;rw[(JD.1 hx).2,<-(hzr (w:=w) (F:=F)).length,hzl]
    obtain⟨cells',e1,e2,e3,e4⟩:=zka (place:=fun k=>some (k*i.size,i.size)) hagg hf hus (fun k x hx=>by
     have hk:k<n:=by have:=(zq.1 hx).1;simpa using this
     rw[Ju _ hzs k (by simp;omega),hzs x (yo hx)])
    have hes:es.length=n:=by simpa using e3
    have hesz:∀x∈es,x.size=i.size:=by
     intro x hx;obtain⟨k,hk⟩:=List.mem_iff_getElem?.1 hx;obtain⟨y,hy,hys⟩:=e4 k x hk;rw[<-hys];exact hzs y (yo hy)
    have hlen:cells'.size=n*i.size:=by
     have:=e2.length;simp only[jm,V.size]at this;rw[this];have:=Ju es hesz n (by omega);rw[<-this];unfold V.offs;rw[zB (by omega)]
    refine⟨.slice (some ⟨w.heap.size,0,none⟩) n n,.cells cells' e,_,[_],rfl,?_,rfl,?_⟩
    ·have hbig:¬(n*i.size>2^24):=(by rw[hisz]at hcz;omega);have hmap:(parts.map fun(i,x)=>(i,a.eval x)).toList=parts.toList.map (fun x:Nat×Operand=>(x.1,a.eval x.2)):=(by simp);by_cases h0:n*i.size=0
     ·have hnn:n=0:=by
       rcases Nat.mul_eq_zero.1 h0 with h|h
       ·exact h
       ·omega
      subst hnn
      have e1':Instr.fill (fun k=>some (k*i.size,i.size)) (Array.map (fun x=>(#[]:Array Value)[x%0]!) (Array.range 0)) (parts.toList.map (fun x:Nat×Operand=>(x.1,a.eval x.2)))=some cells':=by
       rw[<-e1];congr 1;simp[madeCells]
      simp only[execOp,ho,Sem.run_bind];simp only[Instr.buildSlice,Sem.run_bind,run_underlying (Zo he),Result.andThen_ok,Go.sizeOf,typeInfo,run_program,hi,Sem.run_pure,Nat.zero_mul,if_neg (show ¬(0>2^24)from by omega),if_true];rw[hmap];have hz0:∀f:Nat->Value,Array.map f (Array.range 0)= #[]:=fun f=>(by simp[Array.range_zero']);rw[hz0]at e1';simp only[hz0];simp[e1',newRow]
     ·simp only[execOp,ho,Sem.run_bind];simp only[Instr.buildSlice,Sem.run_bind,run_underlying (Zo he),Result.andThen_ok,Go.sizeOf,typeInfo,run_program,hi,Sem.run_pure,if_neg hbig,if_neg h0,zeroValue,hzz];rw[hmap]
      have e1':Instr.fill (fun k=>some (k*i.size,i.size)) ((Array.range (n*i.size)).map (zv.cells[·%zv.cells.size]!)) (parts.toList.map (fun x:Nat×Operand=>(x.1,a.eval x.2)))=some cells':=by
       rw[<-e1];congr 1;rw[hzl'];simp[madeCells,hzl']
      simp[e1',newRow]
    ·cases e2 with
     |agg fs cs Os O' hn hOs hdis hr=>
      refine .own e z es w.heap.size n n cells' (fun k=>(cells'.toList.drop (k*i.size)).take i.size) (fun _ _=>False) _ (Deep.blk_alloc_new w _) (by rw[hlen];show _=n*C.P.cellsOf e;rw[hisz]) hes.symm (by omega) ?_ rfl (fun _ _ h=>h.elim) (fun _ _ _ _ h=>h.elim)
       (fun k hk=>⟨?_,?_⟩) (fun k x hx=>?_) (fun hb=>absurd hb (by rw[zk3 (hzr (w:=w) (F:=F))];simp))
      ·have:n<=n*i.size:=Nat.le_mul_of_pos_right n (by omega);rw[hisz]at hcz;simp only[maxLen];omega
      ·have:(k+1)*i.size<=n*i.size:=qb _ (by omega);rw[jj]at this;show _=C.P.cellsOf e;rw[hisz];simp;omega
      ·intro j v hj;rw[zY]at hj;split at hj
       ·rw[zZ]at hj;rw[World.cell?_alloc_new];show cells'[k*C.P.cellsOf e+j]? =_;rw[hisz];simpa using hj
       ·cases hj
      ·have hk:k<es.length:=(zq.1 hx).1;have:=hr k x hx;rw[Ju es hesz k (by omega),hesz x (yo hx)]at this;exact(this.mono (fun _ h=>h) (fun b hb=>hOs k b hb)).alloc hI.flt (fun _ h=>h.elim) _
   ·cases h
  ·cases h
 ·cases h
end
open Go.RowKit
theorem BelowD.below{B:Nat}{w w':World}(h:BelowD B w w'):Below B w w':=⟨h.os,h.tape,h.output.1,h.size,h.block⟩
def zcP(P:Program)(k:FuncId):Prop:=∃fn,P.funcs[k]? =some fn/\(fn.name== "runtime.NumGoroutine")=false/\fn.body.isNone=false
def zeH(P:Program)(k:FuncId)(args:List V)(r:V):Prop:=
 zcP P k/\
 ∀(ym:Array Value) (w:World) (F:Nat->Prop),ym.size=args.length->(∀(i:Nat) (x:V),args[i]? =some x->∃cs,x.reg cs (ym.getD i undef)/\Rep P.cellsOf w F x cs (fun _=>False))->(∀b,F b->b<w.heap.size)->Gl P w F->
  Calls P k ym w (fun e w'=>∃(v:Value) (cs:List Value) (On Fr:Nat->Prop),e=.returned v/\r.reg cs v/\Rep P.cellsOf w' (fun b=>F b\/Fr b) r cs On/\(∀b,On b\/Fr b->w.heap.size<=b/\b<w'.heap.size)/\(∀b,On b->¬Fr b)/\BelowD w.heap.size w w')
def Yy(C:Ctx):Prop:=GlC C/\(∀k args q r,C.Φ k args=some (q,r,[])->q->zeH C.P k args r)
section
variable {C:Ctx}{F:Nat->Prop}{O:Nat->Nat->Prop}{Z:Nat->Prop}{D:Env}{a:Act}{w w':World}
theorem V.sizes_map(l:List V):V.sizes l=(l.map V.size).sum:=by
 induction l with
 |nil=>rfl
 |cons x l ih=>simp[V.sizes,ih]
theorem zjV{l l':List V}(h:l.map V.size=l'.map V.size)(i:Nat):V.offs l i=V.offs l' i:=by
 unfold V.offs;rw[V.sizes_map,V.sizes_map,zfq,zfq,h]
mutual
theorem V.cpv_unowned(get:List Nat->V):∀(x:V) (p:List Nat),x.owned=false->x.cpv get p=x
 | .int _ _,_,_=>rfl
 | .bool _,_,_=>rfl
 | .str _,_,_=>rfl
 | .slc o _ _ _,_,h=>by simp only[V.owned]at h;subst h;simp[V.cpv]
 | .agg fs,p,h=>by simp only[V.owned]at h;simp only[V.cpv];rw[V.cpvs_unowned get fs p 0 h]
 | .box _ _,_,h=>by simp[V.owned]at h
 | .tup _,_,_=>rfl
 | .fn _ _,_,_=>rfl
 | .hole _,_,_=>rfl
theorem V.cpvs_unowned(get:List Nat->V):∀(fs:List V) (p:List Nat) (i:Nat),V.owneds fs=false->V.cpvs get fs p i=fs
 |[],_,_,_=>rfl
 |x::xs,p,i,h=>by
  simp only[V.owneds,jh]at h;simp only[V.cpvs];rw[V.cpv_unowned get x _ h.1,V.cpvs_unowned get xs p (i+1) h.2]
end
theorem V.cpvs_get(get:List Nat->V):∀(fs:List V) (p:List Nat) (j i:Nat),(V.cpvs get fs p j)[i]? =(fs[i]?).map fun x=>x.cpv get (p++[j+i])
 |[],_,_,_=>by simp[V.cpvs]
 |x::xs,p,j,0=>by simp[V.cpvs]
 |x::xs,p,j,i+1=>by
  simp only[V.cpvs,Jk];rw[V.cpvs_get get xs p (j+1) i];rw[show j+1+i=j+(i+1)from by omega]
theorem V.cpoks_get(ok:List Nat->Prop):∀(fs:List V) (p:List Nat) (j:Nat),V.cpoks ok fs p j->∀(i:Nat) (x:V),fs[i]? =some x->x.cpok ok (p++[j+i])
 |[],_,_,_,i,x,hx=>by simp at hx
 |y::ys,p,j,h,0,x,hx=>by simp at hx;subst hx;exact h.1
 |y::ys,p,j,h,i+1,x,hx=>by
  have:=V.cpoks_get ok ys p (j+1) h.2 i x (by simpa using hx);rw[show j+1+i=j+(i+1)from by omega]at this;exact this
theorem V.okr_of{x:V}{p:List Nat}(h:x.okm p)(hH:(x.at p).isH=true):x.okr p:=by
 cases p with
 |nil=>trivial
 |cons i p=>
  cases x with
  |tup fs=>exact h.1.elim
  |_=>cases p<;>exact⟨h,hH⟩
theorem zEk(hI:Inv C F O Z D a w){s ver:Nat}{r:V}(hr:D.own s ver=some r){x:V}{p:List Nat}{c:List Value}
 (h:Cp (fun q h=>∀r h',D.own s ver=some r->r.okv q->hdrV C.cz w q r (a.tmps.getD s undef)=some h'->h'=h) (fun y c=>Rep C.cz w F y c (fun _=>False)) x p c):
 x.cpok (fun q=>r.okm q/\(r.at q).isH=true) p->Rep C.cz w (fun b=>F b\/∃s,O s b) (x.cpv (fun q=>r.at q) p).frz c (fun _=>False)/\(x.cpv (fun q=>r.at q) p).size=x.size:=by
 induction h with
 |val x p c hx h hl=>
  intro _;rw[V.cpv_unowned _ x p hx];exact⟨(h.frz).mono (fun b hb=>.inl (hb.resolve_right id)) (fun _ h=>h),rfl⟩
 |hd x p h hx hp=>
  intro hok
  have hok':(r.okm p/\(r.at p).isH=true)/\x.cpv (fun q=>r.at q) p=r.at p/\x.size=1:=by
   cases x with
   |slc o e d es=>simp only[V.isH]at hx;subst hx;exact⟨by simpa [V.cpok]using hok,by simp[V.cpv],rfl⟩
   |box e c=>exact⟨hok,rfl,rfl⟩
   |_=>simp[V.isH]at hx
  obtain⟨h1,h2,h3⟩:=hok';rw[h2];have hop:Holds C.cz w F D a.tmps (.rf s ver p) h:=fun r' h' hr' hv hh=>(hp r' h' hr' hv hh).symm;obtain⟨cs,Oy,e1,e2,e3⟩:=KO hI hop hr (V.okr_of h1.1 h1.2);obtain⟨u,rfl,_⟩:=uk e2 h1.2
  have hu:h=u:=by
   have hH:=h1.2;revert e1 hH
   cases r.at p<;>intro e1 hH<;>first|exact e1|simp[V.isH]at hH
  subst hu;have:=e2.frz;refine⟨this.mono (fun b hb=>hb.imp id (fun hb=>⟨s,e3 b hb⟩)) (fun _ h=>h),?_⟩;rw[<-e2.length,h3];rfl
 |agg fs p c hn h ih=>
  intro hok
  have hall:∀(i:Nat) (y:V),fs[i]? =some y->Rep C.cz w (fun b=>F b\/∃s,O s b) (y.cpv (fun q=>r.at q) (p++[i])).frz ((c.drop (V.offs fs i)).take y.size) (fun _=>False)/\(y.cpv (fun q=>r.at q) (p++[i])).size=y.size:=by
   intro i y hy;have:=V.cpoks_get _ fs p 0 hok i y hy;rw[jB]at this;exact ih i y hy this
  have hmap:(V.cpvs (fun q=>r.at q) fs p 0).map V.size=fs.map V.size:=by
   apply yB;intro i;rw[zK,zK,V.cpvs_get]
   cases hy:fs[i]? with
   |none=>rfl
   |some y=>simp only[qy,jB];rw[(hall i y hy).2]
  refine⟨?_,by simp only[V.cpv,V.size];rw[V.sizes_map,V.sizes_map,hmap]⟩;simp only[V.cpv,V.frz];refine .agg _ c (fun _ _=>False) _ (by rw[V.frzs_size,V.sizes_map,hmap,<-V.sizes_map];exact hn) (fun _ _ h=>h) (fun _ _ _ _ h=>h.elim) (fun i z hz=>?_);rw[V.frzs_eq,zK,V.cpvs_get]at hz
  cases hy:fs[i]? with
  |none=>simp[hy]at hz
  |some y=>
   simp only[hy,qy,za,jB]at hz;subst hz;rw[V.offs_frzs,zjV hmap,V.frz_size,(hall i y hy).2];exact(hall i y hy).1
theorem zyn(hI:Inv C F O Z D a w){A:A}{v:Value}{x:V}(hop:Holds C.cz w F D a.tmps A v)(hok:A.okA D)(hl:A.look D=some x):
 ∃cs,x.frz.reg cs v/\Rep C.cz w (fun b=>F b\/((x.owned||A.isAg)=true/\∃s,O s b)) x.frz cs (fun _=>False):=by
 have fin:∀{cs:List Value} {Oy:Nat->Prop},x.reg cs v->Rep C.cz w F x cs Oy->(∀b,Oy b->∃s,O s b)->∃cs,x.frz.reg cs v/\Rep C.cz w (fun b=>F b\/((x.owned||A.isAg)=true/\∃s,O s b)) x.frz cs (fun _=>False):=by
  intro cs Oy e1 e2 e3;refine⟨cs,V.frz_reg e1,?_⟩;by_cases hx:x.owned=true
  ·exact e2.frz.mono (fun b hb=>hb.imp id (fun hb=>⟨by simp[hx],e3 b hb⟩)) (fun _ h=>h)
  ·exact(e2.unowned (by simpa using hx)).frz.mono (fun b hb=>hb.imp id False.elim) (fun _ h=>h)
 cases A with
 |val z=>
  simp only[A.look,za]at hl;subst hl;obtain⟨cs,e1,e2⟩:=hop;exact fin e1 e2 (fun _ h=>h.elim)
 |rf s ver p=>
  simp only[A.look,zP]at hl;obtain⟨r,hr,rfl⟩:=hl;simp only[A.okA,hr]at hok;obtain⟨cs,Oy,e1,e2,e3⟩:=KO hI hop hr hok;exact fin e1 e2 (fun b hb=>⟨s,e3 b hb⟩)
 |ag s ver p z=>
  simp only[A.look,zP]at hl;obtain⟨r,hr,rfl⟩:=hl;simp only[A.okA,hr]at hok;obtain⟨cs,e1,hcp⟩:=hop;obtain⟨e2,_⟩:=zEk hI hr hcp hok;refine⟨cs,?_,e2.mono (fun b hb=>hb.imp id (fun hb=>⟨by simp[A.isAg],hb⟩)) (fun _ h=>h)⟩;simp only[V.cpv,V.frz,V.reg];exact e1
 |ad=>simp[A.look]at hl
 |fz=>simp[A.look]at hl
theorem zyH{H:List Nat->Value->Prop}{cz:TypeId->Nat}{x:V}{p:List Nat}{c:List Value}(h:Cp H (fun y c=>Rep cz w F y c (fun _=>False)) x p c):x.owned=false->Rep cz w F x c (fun _=>False):=by
 induction h with
 |val x p c hx h hl=>exact fun _=>h
 |hd x p h hx hp=>
  intro ho
  cases x with
  |slc o e d es=>simp only[V.isH]at hx;simp only[V.owned]at ho;rw[hx]at ho;cases ho
  |box e c=>simp[V.owned]at ho
  |_=>simp[V.isH]at hx
 |agg fs p c hn h ih=>
  intro ho;simp only[V.owned,V.owneds_eq,List.any_eq_false]at ho;exact .agg fs c (fun _ _=>False) _ hn (fun _ _ h=>h) (fun _ _ _ _ h=>h.elim) (fun i y hy=>ih i y hy (by simpa using ho y (yo hy)))
theorem zvB(hI:Inv C F O Z D a w){A:A}{v:Value}{x:V}(hop:Holds C.cz w F D a.tmps A v)(hok:A.okA D)(hl:A.look D=some x)(hr:(match A with
 | .val v=>v.owned
 | .ag _ _ _ fs=>V.owneds fs
 |_=>true)=false):
 ∃cs,x.frz.reg cs v/\Rep C.cz w F x.frz cs (fun _=>False):=by
 cases A with
 |val z=>
  simp only[A.look,za]at hl;subst hl;obtain⟨cs,e1,e2⟩:=hop;exact⟨cs,V.frz_reg e1,e2.frz.mono (fun b hb=>hb.resolve_right id) (fun _ h=>h)⟩
 |ag s ver p fs=>
  simp only[A.look,zP]at hl;obtain⟨r,_,rfl⟩:=hl;obtain⟨cs,e1,hcp⟩:=hop;have ho:(V.agg fs).owned=false:=hr;rw[V.cpv_unowned _ _ _ ho];have e2:=zyH hcp ho;exact⟨cs,V.frz_reg (x:=.agg fs) e1,e2.frz.mono (fun b hb=>hb.resolve_right id) (fun _ h=>h)⟩
 |rf=>cases hr
 |ad=>cases hr
 |fz=>cases hr
end
section
variable {C:Ctx}{F:Nat->Prop}{O:Nat->Nat->Prop}{Z:Nat->Prop}{D:Env}{a:Act}{w w':World}
theorem zeN(hI:Inv C F O Z D a w){g:Bool}(hg:g=true):∀{ops:List Operand} {tys:List TypeId} {p:Prop} {vs:List V} {br:Bool},YM C.P D g ops tys=some (p,vs,br)->p->
 ops.length=vs.length/\(∀(i:Nat) (x:V),vs[i]? =some x->∃cs,x.reg cs ((ops.map a.eval).toArray.getD i undef)/\Rep C.cz w (fun b=>F b\/(br=true/\∃s,O s b)) x cs (fun _=>False))
 |[],tys,p,vs,br,h,_=>by
  simp only[YM,za,zb]at h;obtain⟨_,rfl,rfl⟩:=h;exact⟨rfl,fun i x hx=>by simp at hx⟩
 |o::ops,tys,p,vs,br,h,hp=>by
  simp only[YM]at h;split at h
  ·rename_i gx A p' vs' br' h1 h2;split at h
   ·rename_i v hv;simp only[za,zb]at h;obtain⟨rfl,rfl,rfl⟩:=h;obtain⟨⟨p1,p2⟩,p3⟩:=hp;obtain⟨e1,e2⟩:=zeN hI hg h2 p3;refine⟨by simp[e1],fun i x hx=>?_⟩
    cases i with
    |zero=>
     simp at hx;subst hx;obtain⟨cs,g1,g2⟩:=zyn hI (zX hI h1 (p1 hg)).1 p2 hv;exact⟨cs,by simpa using g1,g2.mono (fun b hb=>hb.imp id (fun hb=>⟨by have:=hb.1;revert this;cases v.owned<;>cases A.isAg<;>simp,hb.2⟩)) (fun _ h=>h)⟩
    |succ i=>
     obtain⟨cs,g1,g2⟩:=e2 i x (by simpa using hx);exact⟨cs,by simpa using g1,g2.mono (fun b hb=>hb.imp id (fun hb=>⟨by rw[hb.1];simp,hb.2⟩)) (fun _ h=>h)⟩
   ·cases h
  ·cases h
theorem zlf(hI:Inv C F O Z D a w){g:Bool}(hg:g=true):∀{ops:List Operand} {tys:List TypeId} {p:Prop} {vs:List V} {br:Bool},YM C.P D g ops tys=some (p,vs,br)->p->zb9 C.P D ops tys=false->
 ∀(i:Nat) (x:V),vs[i]? =some x->∃cs,x.reg cs ((ops.map a.eval).toArray.getD i undef)/\Rep C.cz w F x cs (fun _=>False)
 |[],tys,p,vs,br,h,_,_=>by
  simp only[YM,za,zb]at h;obtain⟨_,rfl,rfl⟩:=h;exact fun i x hx=>by simp at hx
 |o::ops,tys,p,vs,br,h,hp,hr=>by
  simp only[YM]at h;simp only[zb9,jh]at hr;split at h
  ·rename_i gx A p' vs' br' h1 h2;split at h
   ·rename_i v hv;simp only[za,zb]at h;obtain⟨rfl,rfl,rfl⟩:=h;obtain⟨⟨p1,p2⟩,p3⟩:=hp;have e2:=zlf hI hg h2 p3 hr.2;intro i x hx
    cases i with
    |zero=>
     simp at hx;subst hx;have hr1:=hr.1;rw[h1]at hr1;obtain⟨cs,g1,g2⟩:=zvB hI (zX hI h1 (p1 hg)).1 p2 hv (by cases A<;>exact hr1);exact⟨cs,by simpa using g1,g2⟩
    |succ i=>
     obtain⟨cs,g1,g2⟩:=e2 i x (by simpa using hx);exact⟨cs,by simpa using g1,g2⟩
   ·cases h
  ·cases h
theorem zth(hI:Inv C F O Z D a w){g:Bool}(hg:g=true){ops:List Operand}{tys:List TypeId}{p:Prop}{vs:List V}{br:Bool}(k:FuncId)(h:YM C.P D g ops tys=some (p,vs,br))(hp:p):
 ops.length=vs.length/\(∀(i:Nat) (x:V),vs[i]? =some x->∃cs,x.reg cs ((ops.map a.eval).toArray.getD i undef)/\Rep C.cz w (fun b=>F b\/(brK C D k ops tys br=true/\∃s,O s b)) x cs (fun _=>False)):=by
 obtain⟨l1,l2⟩:=zeN hI hg h hp;refine⟨l1,fun i x hx=>?_⟩;obtain⟨cs,g1,g2⟩:=l2 i x hx
 cases hb:brK C D k ops tys br with
 |true=>exact⟨cs,g1,g2.mono (fun b hb=>hb.imp id (fun hb=>⟨rfl,hb.2⟩)) (fun _ h=>h)⟩
 |false=>
  simp only[brK,Bool.and_eq_false_iff,jh]at hb;rcases hb with hb|⟨_,hb⟩
  ·exact⟨cs,g1,g2.mono (fun b h=>.inl (h.resolve_right (fun h=>by rw[hb]at h;cases h.1))) (fun _ h=>h)⟩
  ·obtain⟨cs',g1',g2'⟩:=zlf hI hg h hp hb i x hx;exact⟨cs',g1',g2'.mono (fun b h=>.inl h) (fun _ h=>h)⟩
theorem zug{P:Program}{k:FuncId}(h:zcP P k)(args:Array Value)(w:World):(callFunc k args).run P w=.ok (.enter k args) w:=by
 obtain⟨fn,h1,h2,h3⟩:=h;simp only[callFunc,Sem.run_bind,run_program,Result.andThen_ok,h1,h2,h3,Bool.false_eq_true,if_false,Sem.run_pure]
theorem znQ(hI:Inv C F O Z D a w){o:Oper}{f:Operand}{args:Array Operand}{ats:Array TypeId}{gf:Bool}{k:FuncId}{caps:List V}(ho:o.op=.call ⟨.value f,args,ats⟩)(h1:opd C.P D 0 f=some (gf,.val (.fn k caps)))(hgf:gf=true)
 (hk:zcP C.P k) (hkb:(V.fn k caps).fb? =none):∃cv:Array Value,cv.size=caps.length/\(∀(i:Nat) (x:V),caps[i]? =some x->∃cs,x.reg cs (cv.getD i undef)/\Rep C.cz w F x cs (fun _=>False))/\
  (execOp a.eval o).run C.P w=.ok (.enter k (args.map a.eval++cv)) w:=by
 obtain⟨cs,e1,e2⟩:=(zX hI h1 hgf).1
 cases e2 with
 |fb=>simp[V.fb?]at hkb
 |fn f' caps vs cs' O' hn hv hr hk1=>
  have hev:a.eval f=.func (.func k) #[] vs:=e1;refine⟨vs,hn,fun i x hx=>⟨cs' i,hv i x hx,hr i x hx⟩,?_⟩;simp only[execOp,ho,resolve,Sem.run_bind,hev,Deferred.ofValue,Sem.run_pure,Result.andThen_ok,invoke,Array.empty_append];exact zug hk _ w
theorem zzI(hC:Yy C)(hI:Inv C F O (fun _=>False) D a w){o:Oper}{g:Bool}{pre:Prop}{A:A}(hl:yC C D g o=some (pre,A))(hg:g=true)(hp:pre){d:Nat}(hd:o.dst=some d)(hdl:d<a.tmps.size)(hlo:C.lo<=d)
 (hrefs:∀s ver,A.refs=some (s,ver)->ver<=(D s).ver) {Q:Exit->Act->World->Prop}:
 o.wp C.P a w (fun a' w'=>∃F' O',Inv C F' O' (fun _=>False) (D.put d g A) a' w') Q:=by
 have yld:Yld C F D a w o A->o.wp C.P a w (fun a' w'=>∃F' O',Inv C F' O' (fun _=>False) (D.put d g A) a' w') Q:=by
  rintro⟨v,hr,hh⟩;unfold Oper.wp;rw[hr,Oper.upon_value,hd]
  cases A with
  |val x=>
   obtain⟨cs,e1,e2⟩:=hh;exact⟨F,_,(hI.putVal hdl (.inl hlo) (g:=g) (On:=fun _=>False) (fun _=>⟨e1,e2⟩) (fun _ h=>h) (by simp[hg])).lessZ (fun _ h=>h.elim)⟩
  |_=>exact⟨F,_,hI.putRef hdl (.inl hlo) (by simp) (fun _=>hh) (by simp[hg]) hrefs⟩
 have mks:Mks C F a w o A->o.wp C.P a w (fun a' w'=>∃F' O',Inv C F' O' (fun _=>False) (D.put d g A) a' w') Q:=by
  rintro⟨v,obj,x,cs,rfl,hr,e1,e2⟩;unfold Oper.wp;rw[hr,Oper.upon_value,hd]
  have h1:Inv C F O (fun b=>b=w.heap.size) D a (w.alloc obj):=
   hI.worldZ (by simp) (fun k hk _=>Deep.blk_alloc_lt w obj k hk) (fun b hb=>.inr (by subst hb;simp)) (fun _ b off u _ hz=>hz.elim) rfl rfl ⟨rfl,zw _⟩
  exact⟨F,_,(h1.putVal hdl (.inl hlo) (g:=g) (On:=fun b=>b=w.heap.size) (fun _=>⟨e1,e2⟩) (fun _ h=>h) (by simp[hg])).lessZ (fun _ h=>h.elim)⟩
 have len:∀{x:Operand} {t:TypeId} {args:Array Operand} {ats:Array TypeId},o.op=.call ⟨.builtin .len,args,ats⟩->args.toList=[x]->ats.toList=[t]->Yld C F D a w o A:=by
  intro x t args ats ho h1 h2;have hl':=hl;simp only[yC,ho,h1,h2]at hl';split at hl'
  ·rename_i gx A' hA;split at hl'
   ·cases hl'
   ·rename_i hag;split at hl'
    ·rename_i o' e d' es hlk;split at hl'
     ·rename_i het;simp only[za,zb]at hl';obtain⟨rfl,rfl⟩:=hl';exact zC7 hI ho h1 h2 hA (hp hg).1 (by simpa using hag) (hp hg).2 hlk (.inl ⟨o',e,d',es,rfl,rfl,het⟩) hg
     ·cases hl'
    ·rename_i s hlk;split at hl'
     ·rename_i het;simp only[za,zb]at hl';obtain⟨rfl,rfl⟩:=hl';exact zC7 hI ho h1 h2 hA (hp hg).1 (by simpa using hag) (hp hg).2 hlk (.inr ⟨s,rfl,rfl,het⟩) hg
     ·cases hl'
    ·cases hl'
  ·cases hl'
 cases hop:o.op with
 |move x=>exact yld (zE0 hI hop hl hg hp)
 |assign x=>exact yld (zBD hI hop hl hg hp)
 |pick c x y=>exact yld (zEX hI hop hl hg hp)
 |alloc t=>exact mks (zDY hI hop hl)
 |box t x=>exact mks (zDX hI hop hl hg hp)
 |build t ps=>exact yld (zDK hI hop hl hg hp)
 |buildSlice t n ps=>exact mks (ztb hI hop hl hg hp)
 |load t x=>exact yld (zE1 hI hop hl hg hp)
 |binOp op xt x y yt=>exact yld (zFX hI hop hl hg hp)
 |unOp op t x=>exact yld (zGr hI hop hl hg hp)
 |convert s t x=>exact yld (zzp hI hop hl hg hp)
 |makeFunc fn fi ca=>exact yld (zx9 hI hop hl hg hp)
 |makeSlice t l c=>exact mks (zE9 hI hop hl hg hp)
 |slice t x lo hi mx=>
  cases mx with
  |none=>exact yld (zDI hI hop hl hg hp)
  |some m=>simp[yC,hop]at hl
 |fieldAddr t x f=>exact yld (zvw hI hop hl hg hp)
 |nilCheck x=>exact yld (zx8 hI hop hl hg hp)
 |indexAddr t x i=>exact yld (zvv hI hop hl hg hp)
 |index t x i=>exact yld (zDJ hI hop hl hg hp)
 |extract x i=>exact yld (zzo hI hop hl hg hp)
 |call c=>
  obtain⟨cal,args,ats⟩:=c
  cases cal with
  |builtin b=>
   cases b with
   |len=>
    have hl':=hl;simp only[yC,hop]at hl';split at hl'
    ·rename_i x t h1 h2;exact yld (len hop h1 h2)
    ·cases hl'
   |min=>
    simp only[yC,hop]at hl;split at hl
    ·rename_i x y h1;split at hl
     ·rename_i gx k m gy k' n h2 h3;split at hl
      ·rename_i hk;subst hk;simp only[za,zb]at hl;obtain⟨rfl,rfl⟩:=hl;exact yld (zFV hI hop h1 h2 h3 (hp.1 hg) (hp.2 hg) hg)
      ·cases hl
     ·cases hl
    ·cases hl
   |max=>
    simp only[yC,hop]at hl;split at hl
    ·rename_i x y h1;split at hl
     ·rename_i gx k m gy k' n h2 h3;split at hl
      ·rename_i hk;subst hk;simp only[za,zb]at hl;obtain⟨rfl,rfl⟩:=hl;exact yld (zFW hI hop h1 h2 h3 (hp.1 hg) (hp.2 hg) hg)
      ·cases hl
     ·cases hl
    ·cases hl
   |_=>simp[yC,hop]at hl
  |invoke r m=>simp[yC,hop]at hl
  |value f=>
   simp only[yC,hop]at hl;split at hl
   ·rename_i gf k caps p vs br h1 h2;split at hl
    ·rename_i q r hΦ;split at hl
     ·cases hl
     ·rename_i hbr;simp only[za,zb]at hl;obtain⟨rfl,rfl⟩:=hl;obtain⟨p1,p2,p3⟩:=hp;obtain⟨hcall,hfn⟩:=hC.2 k _ q r hΦ (p3 hg);rw[Bool.not_eq_true,jh]at hbr;obtain⟨hkb,hbr⟩:=hbr;obtain⟨cv,c1,c2,c3⟩:=znQ hI hop h1 (p1 hg) hcall (zwu (by simpa using hkb));obtain⟨l1,l2⟩:=zth hI hg k h2 (p2 hg);generalize brK C D k args.toList ats.toList br=bk at hbr l2
      have hcalls:=hfn (args.map a.eval++cv) w (fun b=>F b\/(bk=true/\∃s,O s b)) (by simp[c1];simpa using l1) (fun i x hx=>by
       rw[Qq]at hx;split at hx
       ·rename_i hi;obtain⟨cs,g1,g2⟩:=l2 i x hx;refine⟨cs,?_,g2⟩;have:i<(args.map a.eval).size:=by simp;rw[<-l1]at hi;simpa using hi
        have e:(args.map a.eval++cv).getD i undef=(args.toList.map a.eval).toArray.getD i undef:=by
         simp only[zD,Array.getElem?_append_left this];simp
        rw[e];exact g1
       ·rename_i hi;obtain⟨cs,g1,g2⟩:=c2 _ x hx;refine⟨cs,?_,g2.mono (fun _ h=>.inl h) (fun _ h=>h)⟩;have hsz:(args.map a.eval).size=vs.length:=by simp;simpa using l1
        have e:(args.map a.eval++cv).getD i undef=cv.getD (i-vs.length) undef:=by
         simp only[zD];rw[Array.getElem?_append_right (by omega),hsz]
        rw[e]
        exact g1) (fun b hb=>hb.elim (hI.flt b) (fun hb=>by obtain⟨_,s,hb⟩:=hb;exact hI.olt s b hb)) (hI.gl hC.1 (fun b hb=>.inl hb))
      unfold Oper.wp;rw[c3,Oper.upon_enter];refine hcalls.mono (fun e w' he=>?_);obtain⟨v,cs,On,Fr,rfl,e1,e2,e3,e4,e5⟩:=he;simp only[hd];have hw:Inv C F O (fun b=>On b\/Fr b) D a w':=hI.worldZ e5.size (fun k hk _=>e5.block k hk) (fun b hb=>.inr (e3 b hb)) (fun _ b off u _ hz=>hz.elim) e5.os e5.tape e5.output
      have hres:Rep C.cz w' (fun b=>F b\/Fr b) r cs On:=by
       cases bk with
       |false=>exact e2.mono (fun b hb=>hb.imp (fun hb=>hb.resolve_right (by simp)) id) (fun _ h=>h)
       |true=>exact e2.noFz (by simpa using hbr)
      unfold zyB
      cases (C.Φ (2000000000+k) []).isSome with
      |true=>
       have hfr:=hw.freezeZ (Zf:=fun b=>Fr b\/On b) (fun b hb=>hb.symm) (fun b hb=>.inl (je hI.size (e3 b hb.symm).1))
       have hres2:Rep C.cz w' (fun b=>F b\/(Fr b\/On b)) r.frz cs (fun _=>False):=hres.frz.mono (fun b hb=>by
        rcases hb with(hb|hb)|hb
        ·exact .inl hb
        ·exact .inr (.inl hb)
        ·exact .inr (.inr hb)) (fun _ h=>h)
       exact⟨_,_,(hfr.putVal hdl (.inl hlo) (g:=g) (On:=fun _=>False) (fun _=>⟨V.frz_reg e1,hres2⟩) (fun b hb=>hb.elim) (by simp[hg])).lessZ (fun _ h=>h.elim)⟩
      |false=>
       have hfr:=hw.freezeZ (Zf:=Fr) (fun b hb=>.inr hb) (fun b hb=>.inl (je hI.size (e3 b (.inr hb)).1));exact⟨_,_,(hfr.putVal hdl (.inl hlo) (g:=g) (On:=On) (fun _=>⟨e1,hres⟩) (fun b hb=>⟨.inl hb,e4 b hb⟩) (by simp[hg])).lessZ (fun _ h=>h.elim)⟩
    ·cases hl
   ·cases hl
 |_=>simp[yC,hop]at hl
end
end Go.Ax
