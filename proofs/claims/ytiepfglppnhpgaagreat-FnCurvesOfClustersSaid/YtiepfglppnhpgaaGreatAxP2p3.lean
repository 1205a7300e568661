/-
  AX, AxP2: parts M to TK of the abstract executor: values, environments, steps, regions, loops, functions. No conditions.
-/
import Derived.Test.YtiepfglppnhpgaaGreatAxP1p3
import Derived.Orders
import Derived.Laws.OwnMore
import Derived.WalkLawsBesides
import Derived.Lib.SliceRun
set_option linter.all false
open Array renaming getD_eq_getD_getElem?->zD,getElem?_eq_getElem->qn,getElem?_setIfInBounds_ne->ZC,length_toList->jm
open Bool renaming and_eq_true->zh,false_eq_true->yJ,not_eq_true'->yK,or_eq_true->jg
open List renaming any_eq_false->Km,cons_append->yf,drop_append_of_le_length->uC,drop_drop->Zu,eq_nil_of_length_eq_zero->yS,ext_getElem?->yB,getD_eq_getElem?_getD->zd,getElem?_append->Qq,getElem?_cons_zero->qa,getElem?_drop->zZ,getElem?_eq_getElem->ze,getElem?_eq_none->zy,getElem?_eq_some_iff->zq,getElem?_map->zK,getElem?_of_mem->zd4,getElem?_set_self->Zj,getElem?_take->zY,getElem?_toArray->uB,length_append->zr,length_drop->yF,length_take->zV,map_cons->qo,mem_cons->zJ,mem_cons_of_mem->zI,mem_iff_getElem?->YR,mem_of_getElem?->yo,nil_append->yV,take_append_of_le_length->jT,take_of_length_le->zB
open Nat renaming add_mul->jj,add_zero->yk,div_add_mod->uX,le_refl->zw,mul_comm->um,mul_le_mul_right->qb,zero_add->jB
open Option renaming bind_some->jd,getD_some->qv,isSome_none->JA,map_eq_some_iff->zP,map_some->qy
open Option.some renaming injEq->za
open Prod.mk renaming injEq->zb
namespace Go.Ax
section
variable {C:Ctx}{D D':Env}
def LeR(P:Program)(D D':Env)(l:List Operand):Prop:=∀ty x g A s ver y,x∈l->opd P D ty x=some (g,A)->A.refs=some (s,ver)->D.own s ver=some y->D'.own s ver=some y
theorem zlg{A:A}{x:V}(h:∀s ver y,A.refs=some (s,ver)->D.own s ver=some y->D'.own s ver=some y)(hl:A.look D=some x):A.look D'=some x/\A.okA D=A.okA D':=by
 cases A with
 |val z=>exact⟨hl,rfl⟩
 |rf s ver p=>
  simp only[A.look,zP]at hl;obtain⟨r,hr,rfl⟩:=hl;have:=h s ver r rfl hr;simp only[A.look,A.okA,hr,this,qy,and_self]
 |ag s ver p fs=>
  simp only[A.look,zP]at hl;obtain⟨r,hr,rfl⟩:=hl;have:=h s ver r rfl hr;simp only[A.look,A.okA,hr,this,qy,and_self]
 |ad=>simp[A.look]at hl
 |fz=>simp[A.look]at hl
theorem zfI{g:Bool}:∀{ops:List Operand} {tys:List TypeId} {r:Prop×List V×Bool},LeR C.P D D' ops->(∀ty x,x∈ops->opd C.P D ty x=opd C.P D' ty x)->YM C.P D g ops tys=some r->YM C.P D' g ops tys=some r
 |[],_,_,_,_,hl=>hl
 |o::ops,tys,r,h,ho,hl=>by
  simp only[YM]at hl ⊢;rw[<-ho _ o (by simp)];split at hl
  ·rename_i gx A p vs br h1 h2;rw[h1,zfI (fun ty x g A s ver y hx=>h ty x g A s ver y (zI _ hx)) (fun ty x hx=>ho ty x (zI _ hx)) h2];dsimp only;split at hl
   ·rename_i v hv;obtain⟨e1,e2⟩:=zlg (fun s ver y hr=>h _ o _ _ s ver y (by simp) h1 hr) hv;rw[e1,<-e2];exact hl
   ·cases hl
  ·cases hl
theorem zhl{P:Program}{g:Bool}{ty:Nat->TypeId}:∀{ps:List (Nat×Operand)},(∀t (y:Nat×Operand),y∈ps->opd P D t y.2=opd P D' t y.2)->ym P D g ty ps=ym P D' g ty ps
 |[],_=>rfl
 |(i,x)::ps,h=>by
  simp only[ym];rw[h _ (i,x) (by simp),zhl (fun t y hy=>h t y (zI _ hy))]
theorem zcc{P:Program}{g:Bool}{x:Operand}(h:∀t,opd P D t x=opd P D' t x):zai P D g x=zai P D' g x:=by
 unfold zai;rw[h]
theorem zlG{P:Program}{g:Bool}{d:Int}{x:Option Operand}(h:∀t y,x=some y->opd P D t y=opd P D' t y):kP P D g d x=kP P D' g d x:=by
 cases x with
 |none=>rfl
 |some y=>exact zcc (fun t=>h t y rfl)
theorem zmQ{P:Program}:∀{xs:List Operand} {ts:List TypeId},(∀t x,x∈xs->opd P D t x=opd P D' t x)->zb9 P D xs ts=zb9 P D' xs ts
 |[],_,_=>rfl
 |x::xs,ts,h=>by
  simp only[zb9];rw[h _ x (by simp),zmQ (fun t y hy=>h t y (zI _ hy))]
theorem zBY{g:Bool}{o:Oper}{r:Prop×A}(h:LeR C.P D D' o.op.operands.toList)(ho:∀ty x,x∈o.op.operands->opd C.P D ty x=opd C.P D' ty x)(hl:yC C D g o=some r):yC C D' g o=some r:=by
 cases hop:o.op with
 |move x=>
  rw[hop]at ho h;simp only[yC,hop]at hl ⊢;rw[<-ho _ x (by simp[Op.operands])];exact hl
 |assign x=>
  rw[hop]at ho h;simp only[yC,hop]at hl ⊢;rw[<-ho _ x (by simp[Op.operands])];split at hl
  ·exact hl
  ·rename_i gx s ver i p h1;split at hl
   ·cases hl
   ·rename_i x' hx' hr;rw[h _ x _ _ s ver _ (by simp[Op.operands]) h1 rfl hr];split
    ·rename_i heq;simp only[za]at heq;exact absurd heq (by simpa using hx' _)
    ·exact hl
    ·rename_i heq;cases heq
   ·cases hl
  ·exact hl
  ·cases hl
 |pick c x y=>
  rw[hop]at ho h;simp only[yC,hop]at hl ⊢;rw[<-ho _ c (by simp[Op.operands])];split at hl
  ·rename_i gc b h1;rw[<-ho _ (if b then x else y) (by cases b<;>simp[Op.operands])];exact hl
  ·cases hl
 |alloc t=>simp only[yC,hop]at hl ⊢;exact hl
 |box t x=>
  rw[hop]at ho h;simp only[yC,hop]at hl ⊢;rw[<-ho _ x (by simp[Op.operands])];exact hl
 |build t ps=>
  rw[hop]at ho h;simp only[yC,hop]at hl ⊢;rw[<-zhl (fun t y hy=>ho t y.2 (by simp[Op.operands];exact⟨y.1,by simpa using hy⟩))];exact hl
 |buildSlice t n ps=>
  rw[hop]at ho h;simp only[yC,hop]at hl ⊢;simp only[<-zhl (P:=C.P) (D:=D) (D':=D') (g:=g) (ps:=ps.toList) (fun t y hy=>ho t y.2 (by simp[Op.operands];exact⟨y.1,by simpa using hy⟩))];exact hl
 |load t x=>
  rw[hop]at ho h;simp only[yC,hop]at hl ⊢;rw[<-ho _ x (by simp[Op.operands])];split at hl
  ·exact hl
  ·exact hl
  ·rename_i gx s ver p h1;split at hl
   ·rename_i r' hr;rw[h _ x _ _ s ver _ (by simp[Op.operands]) h1 rfl hr];exact hl
   ·cases hl
  ·rename_i gx s ver p h1;split at hl
   ·rename_i r' hr;rw[h _ x _ _ s ver _ (by simp[Op.operands]) h1 rfl hr];exact hl
   ·cases hl
  ·cases hl
 |binOp op xt x y yt=>
  rw[hop]at ho h;simp only[yC,hop]at hl ⊢;rw[<-ho _ x (by simp[Op.operands]),<-ho _ y (by simp[Op.operands])];exact hl
 |unOp op t x=>
  rw[hop]at ho h;simp only[yC,hop]at hl ⊢;rw[<-ho _ x (by simp[Op.operands])];exact hl
 |convert s t x=>
  rw[hop]at ho h;simp only[yC,hop]at hl ⊢;rw[<-ho _ x (by simp[Op.operands])];split at hl
  ·exact hl
  ·rename_i gx sl ver h0 h00 h1;split at hl
   ·rename_i h2 h3 h4;rw[h _ x _ _ sl ver _ (by simp[Op.operands]) h1 rfl h4,h2,h3];exact hl
   ·cases hl
  ·cases hl
 |makeFunc fn fi ca=>
  rw[hop]at ho h
  cases fn with
  |func f=>
   simp only[yC,hop]at hl ⊢;rw[<-zhl (fun t y hy=>ho t y.2 (by simp only[List.mem_map]at hy;obtain⟨z,hz,rfl⟩:=hy;simp[Op.operands];right;simpa using hz))];exact hl
  |_=>simp[yC,hop]at hl
 |makeSlice t l c=>
  rw[hop]at ho h;simp only[yC,hop]at hl ⊢;rw[<-zcc (fun t=>ho t l (by simp[Op.operands])),<-zcc (fun t=>ho t c (by simp[Op.operands]))];exact hl
 |slice t x lo hi mx=>
  rw[hop]at ho h
  cases mx with
  |none=>
   simp only[yC,hop]at hl ⊢;have hlo:∀t y,lo=some y->opd C.P D t y=opd C.P D' t y:=(by rintro t y rfl;exact ho t y (by simp[Op.operands]));have hhi:∀t y,hi=some y->opd C.P D t y=opd C.P D' t y:=(by rintro t y rfl;exact ho t y (by simp[Op.operands]));rw[<-ho _ x (by simp[Op.operands])];simp only[<-zlG (P:=C.P) (g:=g) hlo,<-zlG (P:=C.P) (g:=g) hhi];exact hl
  |some m=>simp[yC,hop]at hl
 |nilCheck x=>
  rw[hop]at ho h;simp only[yC,hop]at hl ⊢;rw[<-ho _ x (by simp[Op.operands])];split at hl
  ·rename_i gx s ver p h1;split at hl
   ·rename_i r' hr;rw[h _ x _ _ s ver _ (by simp[Op.operands]) h1 rfl hr];exact hl
   ·cases hl
  ·cases hl
 |fieldAddr t x f=>
  rw[hop]at ho h;simp only[yC,hop]at hl ⊢;rw[<-ho _ x (by simp[Op.operands])];split at hl
  ·exact hl
  ·exact hl
  ·rename_i gx s ver p h0 h1;split at hl
   ·rename_i r' hr;rw[h _ x _ _ s ver _ (by simp[Op.operands]) h1 rfl hr];exact hl
   ·cases hl
  ·rename_i gx s ver p h0 h1;split at hl
   ·rename_i r' hr;rw[h _ x _ _ s ver _ (by simp[Op.operands]) h1 rfl hr];exact hl
   ·cases hl
  ·cases hl
 |indexAddr t x i=>
  rw[hop]at ho h;simp only[yC,hop]at hl ⊢;rw[<-ho _ x (by simp[Op.operands]),<-zcc (fun t=>ho t i (by simp[Op.operands]))];split at hl
  ·exact hl
  ·rename_i gx s ver p _ _ h0 h1 h2;split at hl
   ·rename_i r' hr;rw[h _ x _ _ _ _ _ (by simp[Op.operands]) h1 rfl hr];exact hl
   ·cases hl
  ·cases hl
 |index t x i=>
  rw[hop]at ho h;simp only[yC,hop]at hl ⊢;rw[<-ho _ x (by simp[Op.operands]),<-zcc (fun t=>ho t i (by simp[Op.operands]))];exact hl
 |extract x i=>
  rw[hop]at ho h;simp only[yC,hop]at hl ⊢;rw[<-ho _ x (by simp[Op.operands])];split at hl
  ·exact hl
  ·rename_i gx s ver h1;split at hl
   ·rename_i r' hr;rw[h _ x _ _ s ver _ (by simp[Op.operands]) h1 rfl hr];exact hl
   ·cases hl
  ·cases hl
 |call c=>
  rw[hop]at ho h;obtain⟨cal,args,ats⟩:=c
  cases cal with
  |builtin b=>
   have hargs:∀t x,x∈args.toList->opd C.P D t x=opd C.P D' t x:=fun t x hx=>ho t x (by simp[Op.operands,Call.operands];simpa using hx)
   cases b with
   |len=>
    simp only[yC,hop]at hl ⊢;split at hl
    ·rename_i x t h1 h2;rw[<-hargs _ x (by rw[h1];simp)];split at hl
     ·rename_i gx A' hA;split at hl
      ·cases hl
      ·rename_i hag;rw[if_neg hag];split at hl
       ·rename_i hlk;obtain⟨e1,e2⟩:=zlg (fun s ver y hr=>h _ x _ _ s ver y (by simp[Op.operands,Call.operands];simpa using(by rw[h1];simp:x∈args.toList)) hA hr) hlk;rw[e1,<-e2];exact hl
       ·rename_i hlk;obtain⟨e1,e2⟩:=zlg (fun s ver y hr=>h _ x _ _ s ver y (by simp[Op.operands,Call.operands];simpa using(by rw[h1];simp:x∈args.toList)) hA hr) hlk;rw[e1,<-e2];exact hl
       ·cases hl
     ·cases hl
    ·cases hl
   |min=>
    simp only[yC,hop]at hl ⊢;split at hl
    ·rename_i x y h1;rw[<-hargs _ x (by rw[h1];simp),<-hargs _ y (by rw[h1];simp)];exact hl
    ·cases hl
   |max=>
    simp only[yC,hop]at hl ⊢;split at hl
    ·rename_i x y h1;rw[<-hargs _ x (by rw[h1];simp),<-hargs _ y (by rw[h1];simp)];exact hl
    ·cases hl
   |_=>simp[yC,hop]at hl
  |invoke r m=>simp[yC,hop]at hl
  |value f=>
   simp only[yC,hop]at hl ⊢;rw[<-ho _ f (by simp[Op.operands,Call.operands])];split at hl
   ·rename_i h1 h2;rw[zfI (fun ty x g A s ver y hx=>h ty x g A s ver y (by simp[Op.operands,Call.operands];right;simpa using hx)) (fun t x hx=>ho t x (by simp[Op.operands,Call.operands];right;simpa using hx)) h2,h1];have hR:=zmQ (P:=C.P) (D:=D) (D':=D') (xs:=args.toList) (ts:=ats.toList) (fun t x hx=>ho t x (by simp[Op.operands,Call.operands];right;simpa using hx));simp only[brK,hR]at hl ⊢;exact hl
   ·cases hl
 |_=>simp[yC,hop]at hl
end
def gd(ops:Array Oper)(D:Env)(o:Oper):Option Bool:=
 match o.guard with
 |none=>some true
 |some (j,want)=>
  match (ops[j]?).bind (·.dst)with
  |some t=>if(D t).u then(if(D t).g then(match (D t).a with
   | .val (.bool b)=>some (b==want)
   |_=>none)else some false)else none
  |none=>none
def E.owner(e:E):Bool:=e.g&&(match e.a with| .val x=>x.owned|_=>false)
def qH(C:Ctx)(ops:Array Oper)(D:Env)(o:Oper):Option (Prop×Env):=
 match gd ops D o,o.dst with
 |some true,some d=>match yC C D true o with
  |some (p,A)=>if C.dst d then some (p,D.put d true A)else none
  |none=>none
 |some false,some d=>if C.dst d then some (True,D.put d false (.val (.hole 0)))else none
 |_,_=>none
section
variable {C:Ctx}{F:Nat->Prop}{O:Nat->Nat->Prop}{Z:Nat->Prop}{D D':Env}{a:Act}{w w':World}{ops:Array Oper}
def G(C:Ctx)(D:Env)(a:Act)(w:World):Prop:=∃F O,Inv C F O (fun _=>False) D a w
def Wf(D:Env):Prop:=∀t s ver,(D t).a.refs=some (s,ver)->ver<=(D s).ver
theorem znF(hI:Inv C F O Z D a w){o:Oper}{g:Bool}(h:gd ops D o=some g):Region.wanted o (yielded ops a.tmps)=g:=by
 unfold gd at h;unfold Region.wanted;split at h
 ·rename_i hg;rw[hg];simpa using h
 ·rename_i j want hg;rw[hg];dsimp only;split at h
  ·rename_i t ht;split at h
   ·rename_i hu;unfold yielded;rw[ht];simp only[jd];split at h
    ·rename_i hgt;split at h
     ·rename_i b hb;simp only[za]at h;subst h;obtain⟨h1,h2,_⟩:=hI.slot t hgt;obtain⟨cs,h3,h4⟩:=h2 _ hb;have hv:a.tmps.getD t undef=.bool b:=by cases h4;exact h3
      have:a.tmps[t]? =some (.bool b):=by
       simp only[zD,qn h1,qv]at hv;rw[qn h1,hv]
      rw[this];cases b<;>cases want<;>rfl
     ·cases h
    ·rename_i hgt;simp only[za]at h;subst h;have hv:=hI.und t (by simpa using hgt) hu
     have:a.tmps[t]? =none\/a.tmps[t]? =some undef:=by
      cases hh:a.tmps[t]? with
      |none=>exact .inl rfl
      |some v=>right;simp only[zD,hh,qv]at hv;rw[hv]
     rcases this with hh|hh<;>rw[hh]<;>rfl
   ·cases h
  ·cases h
theorem ZH(hw:Wf D){P:Program}{ty:TypeId}{x:Operand}{g:Bool}{A:A}(h:opd P D ty x=some (g,A)):∀s ver,A.refs=some (s,ver)->ver<=(D s).ver:=by
 intro s ver hr
 cases x with
 |tmp t=>
  simp only[opd]at h
  cases ha:(D t).a with
  |val x=>
   simp only[ha]at h;split at h
   ·simp only[za,zb]at h;obtain⟨_,rfl⟩:=h;simp only[A.refs,za,zb]at hr;obtain⟨rfl,rfl⟩:=hr;exact zw _
   ·simp only[za,zb]at h;obtain⟨_,rfl⟩:=h;simp[A.refs]at hr
  |_=>
   simp only[ha,za,zb]at h;obtain⟨_,rfl⟩:=h;exact hw t s ver (by rw[ha];exact hr)
 |const v=>
  simp only[opd,zP,zb]at h;obtain⟨x,_,_,rfl⟩:=h;simp[A.refs]at hr
 |func f=>simp only[opd,za,zb]at h;obtain⟨_,rfl⟩:=h;simp[A.refs]at hr
 |global g=>simp[opd]at h
theorem ztg(hw:Wf D){g:Bool}{o:Oper}{p:Prop}{A:A}(h:yC C D g o=some (p,A)):∀s ver,A.refs=some (s,ver)->ver<=(D s).ver:=by
 have val:∀{x:V},A=.val x->∀s ver,A.refs=some (s,ver)->ver<=(D s).ver:=by rintro x rfl s ver hr;simp[A.refs]at hr
 have fz:∀{x:V},A=.fz x->∀s ver,A.refs=some (s,ver)->ver<=(D s).ver:=by rintro x rfl s ver hr;simp[A.refs]at hr
 unfold yC at h;split at h
 ·rw[zP]at h;obtain⟨⟨gx,a'⟩,h1,h2⟩:=h;simp only[zb]at h2;obtain⟨_,rfl⟩:=h2;exact ZH hw h1
 ·split at h
  ·split at h
   ·cases h
   ·simp only[za,zb]at h;exact val h.2.symm
  ·rename_i h1;split at h
   ·cases h
   ·simp only[za,zb]at h;obtain⟨_,rfl⟩:=h;exact ZH hw h1
   ·cases h
  ·rename_i h1;split at h
   ·split at h
    ·simp only[za,zb]at h;obtain⟨_,rfl⟩:=h;exact ZH hw h1
    ·cases h
   ·cases h
  ·cases h
 ·split at h
  ·split at h
   ·simp only[za,zb]at h;exact val h.2.symm
   ·cases h
  ·cases h
 ·split at h
  ·split at h
   ·rw[if_pos rfl,zP]at h;obtain⟨v,_,h2⟩:=h;simp only[zb]at h2;exact val h2.2.symm
   ·rw[if_neg (by simp)]at h;cases h
  ·rw[zP]at h;obtain⟨⟨_,v⟩,_,h2⟩:=h;simp only[zb]at h2;exact val h2.2.symm
  ·cases h
 ·split at h
  ·simp only[za,zb]at h;exact val h.2.symm
  ·simp only[za,zb]at h;exact val h.2.symm
  ·cases h
 ·split at h
  ·split at h
   ·simp only[za,zb]at h;exact val h.2.symm
   ·cases h
  ·split at h
   ·split at h
    ·simp only[za,zb]at h;exact val h.2.symm
    ·cases h
   ·cases h
  ·rename_i h1;split at h
   ·split at h
    ·rw[zP]at h;obtain⟨v,hv,h2⟩:=h;simp only[zb]at h2;obtain⟨_,rfl⟩:=h2;intro s ver hr;obtain⟨rfl,rfl⟩:=zsH hv s ver hr;exact ZH hw h1 _ _ rfl
    ·cases h
   ·cases h
  ·rename_i h1;split at h
   ·split at h
    ·split at h
     ·rw[zP]at h;obtain⟨v,hv,h2⟩:=h;simp only[zb]at h2;obtain⟨_,rfl⟩:=h2;intro s ver hr;obtain⟨rfl,rfl⟩:=zsH hv s ver hr;exact ZH hw h1 _ _ rfl
     ·cases h
    ·cases h
   ·cases h
  ·cases h
 ·split at h
  ·rename_i h1;split at h
   ·split at h
    ·simp only[za,zb]at h;obtain⟨_,rfl⟩:=h;intro s ver hr;exact ZH hw h1 s ver hr
    ·cases h
   ·cases h
  ·cases h
 ·split at h
  ·split at h
   ·simp only[za,zb]at h;exact fz h.2.symm
   ·cases h
  ·split at h
   ·split at h
    ·simp only[za,zb]at h;exact val h.2.symm
    ·cases h
   ·cases h
  ·rename_i h1;split at h
   ·split at h
    ·split at h
     ·simp only[za,zb]at h;obtain⟨_,rfl⟩:=h;intro s ver hr;exact ZH hw h1 s ver hr
     ·cases h
    ·cases h
   ·cases h
  ·rename_i h1;split at h
   ·split at h
    ·split at h
     ·simp only[za,zb]at h;obtain⟨_,rfl⟩:=h;intro s ver hr;exact ZH hw h1 s ver hr
     ·cases h
    ·cases h
   ·cases h
  ·cases h
 ·split at h
  ·split at h
   ·simp only[za,zb]at h;exact fz h.2.symm
   ·cases h
  ·rename_i h1 _;split at h
   ·split at h
    ·split at h
     ·simp only[za,zb]at h;obtain⟨_,rfl⟩:=h;intro s ver hr;exact ZH hw h1 s ver hr
     ·cases h
    ·cases h
   ·cases h
  ·cases h
 ·split at h
  ·simp only[za,zb]at h;exact val h.2.symm
  ·cases h
 ·split at h
  ·split at h
   ·simp only[za,zb]at h;exact val h.2.symm
   ·cases h
  ·rename_i h1;split at h
   ·split at h
    ·split at h
     ·simp only[za,zb]at h;obtain⟨_,rfl⟩:=h;intro s ver hr;exact ZH hw h1 s ver hr
     ·simp only[za,zb]at h;exact val h.2.symm
    ·cases h
   ·cases h
  ·cases h
 ·split at h
  ·split at h
   ·split at h
    ·simp only[za,zb]at h;exact val h.2.symm
    ·cases h
   ·cases h
  ·split at h
   ·simp only[za,zb]at h;exact val h.2.symm
   ·cases h
  ·cases h
 ·split at h
  ·simp only[za,zb]at h;exact val h.2.symm
  ·split at h
   ·split at h
    ·simp only[za,zb]at h;exact val h.2.symm
    ·cases h
   ·cases h
  ·cases h
 ·rw[zP]at h;obtain⟨v,_,h2⟩:=h;simp only[zb]at h2;exact val h2.2.symm
 ·split at h
  ·split at h
   ·cases h
   ·split at h
    ·simp only[za,zb]at h;exact val h.2.symm
    ·cases h
  ·cases h
 ·split at h
  ·split at h
   ·split at h
    ·simp only[za,zb]at h;exact val h.2.symm
    ·cases h
   ·cases h
  ·cases h
 ·split at h
  ·split at h
   ·split at h
    ·rw[zP]at h;obtain⟨v,_,h2⟩:=h;simp only[zb]at h2;exact val h2.2.symm
    ·cases h
   ·cases h
  ·cases h
 ·split at h
  ·rw[zP]at h;obtain⟨v,_,h2⟩:=h;simp only[zb]at h2;exact val h2.2.symm
  ·cases h
 ·split at h
  ·split at h
   ·cases h
   ·simp only[za,zb]at h;exact val h.2.symm
  ·cases h
 ·split at h
  ·split at h
   ·split at h
    ·split at h
     ·cases h
     ·split at h
      ·split at h
       ·simp only[za,zb]at h;exact val h.2.symm
       ·cases h
      ·split at h
       ·simp only[za,zb]at h;exact val h.2.symm
       ·cases h
      ·cases h
    ·cases h
   ·cases h
  ·split at h
   ·split at h
    ·split at h
     ·simp only[za,zb]at h;exact val h.2.symm
     ·cases h
    ·cases h
   ·cases h
  ·split at h
   ·split at h
    ·split at h
     ·simp only[za,zb]at h;exact val h.2.symm
     ·cases h
    ·cases h
   ·cases h
  ·split at h
   ·split at h
    ·split at h
     ·cases h
     ·simp only[za,zb]at h;exact val h.2.symm
    ·cases h
   ·cases h
  ·cases h
 ·cases h
theorem Inv.wfd(h:Inv C F O Z D a w):Wf D:=h.wf
theorem Qy(hC:Yy C)(hI:Inv C F O (fun _=>False) D a w){i:Nat}{o:Oper}(hi:ops[i]? =some o){p:Prop}(h:qH C ops D o=some (p,D'))(hp:p){Q:Exit->Act->World->Prop}:
 wpOp C.P ops Q i (G C D') a w:=by
 unfold qH at h;split at h
 ·rename_i d hgd hd;split at h
  ·rename_i p' A hl;split at h
   ·rename_i hdn;simp only[za,zb]at h;obtain⟨rfl,rfl⟩:=h;have hw:=znF hI hgd;have hdl:d<a.tmps.size:=(by rw[hI.ts];exact hdn.2);unfold wpOp;rw[hi];dsimp only;rw[hw,if_pos rfl];exact .inl (Oper.wp_mono (fun a' w' h=>h) (zzI hC hI hl rfl hp hd hdl hdn.1 (ztg hI.wfd hl)))
   ·cases h
  ·cases h
 ·rename_i d hgd hd;split at h
  ·rename_i hdn;simp only[za,zb]at h;obtain⟨_,rfl⟩:=h;have hw:=znF hI hgd;have hdl:d<a.tmps.size:=(by rw[hI.ts];exact hdn.2);unfold wpOp;rw[hi];dsimp only;rw[hw,if_neg (by simp),hd];exact⟨F,_,(hI.putVal hdl (.inl hdn.1) (g:=false) (cs:=[]) (On:=fun _=>False) (x:=.hole 0) (fun h=>by cases h) (fun _ h=>h) (fun _=>rfl)).lessZ (fun _ h=>h.elim)⟩
  ·cases h
 ·cases h
end
section
variable {ops:Array Oper}
def zs9(acc:List Nat)(o:Oper):Nat:=o.after.toList.foldl (fun s e=>if Region.binds .any e then s|||2^e.on|||acc.getD e.on 0 else s) 0
def zrX:List Oper->List Nat->List Nat
 |[],acc=>acc
 |o::l,acc=>zrX l (acc++[zs9 acc o])
inductive Waits (ops:Array Oper):Nat->Nat->Prop
 |one {i j:Nat} {o:Oper} {e:Edge} (h:ops[j]? =some o) (he:e∈o.after) (hb:Region.binds .any e=true) (hi:e.on=i):Waits ops i j
 |more {i j:Nat} {o:Oper} {e:Edge} (h:ops[j]? =some o) (he:e∈o.after) (hb:Region.binds .any e=true) (hi:Waits ops i e.on):Waits ops i j
def zbs(ops:Array Oper)(listed:Array Bool):Prop:=∀(j:Nat) (o:Oper),ops[j]? =some o->listed.getD j false=true->∀e∈o.after,Region.binds .any e=true->listed.getD e.on false=true
theorem Waits.listed{listed:Array Bool}(hc:zbs ops listed){i j:Nat}(h:Waits ops i j):(∀o,ops[j]? =some o->∀e∈o.after,Region.binds .any e=true->listed.getD e.on false=true)->listed.getD i false=true:=by
 induction h with
 |one h he hb hi=>intro H;rw[<-hi];exact H _ h _ he hb
 |more h he hb hi ih=>
  intro H;have h1:=H _ h _ he hb;exact ih (fun o ho e' he' hb'=>hc _ o ho h1 e' he' hb')
theorem zvA{acc:List Nat}(hacc:∀j i,(acc.getD j 0).testBit i=true->Waits ops i j){k:Nat}{o:Oper}(ho:ops[k]? =some o){i:Nat}(h:(zs9 acc o).testBit i=true):Waits ops i k:=by
 have key:∀(l:List Edge) (s:Nat),(∀e∈l,e∈o.after)->(s.testBit i=true->Waits ops i k)->(l.foldl (fun s e=>if Region.binds .any e then s|||2^e.on|||acc.getD e.on 0 else s) s).testBit i=true->Waits ops i k:=by
  intro l
  induction l with
  |nil=>intro s _ hs hh;exact hs hh
  |cons e l ih=>
   intro s hl hs hh;simp only[List.foldl_cons]at hh;refine ih _ (fun e' he'=>hl e' (zI _ he')) ?_ hh;intro hb;split at hb
   ·rename_i hbi;simp only[Nat.testBit_or,jg,Nat.testBit_two_pow,decide_eq_true_eq]at hb;rcases hb with(hb|hb)|hb
    ·exact hs hb
    ·exact .one ho (hl e (by simp)) hbi hb
    ·exact .more ho (hl e (by simp)) hbi (hacc _ _ hb)
   ·exact hs hb
 exact key o.after.toList 0 (fun e he=>by simpa using he) (fun h=>by simp at h) h
theorem zjZ:∀(l:List Oper) (acc:List Nat),(∀j,l[j]? =ops[acc.length+j]?)->(∀j i,(acc.getD j 0).testBit i=true->Waits ops i j)->∀j i,((zrX l acc).getD j 0).testBit i=true->Waits ops i j
 |[],acc,_,h=>h
 |o::l,acc,hl,h=>by
  refine zjZ l (acc++[zs9 acc o]) (fun j=>by have:=hl (j+1);simpa [Nat.add_assoc,Nat.add_comm 1 j]using this) (fun j i hb=>?_);rw[zd,Qq]at hb;split at hb
  ·exact h j i (by rw[zd];exact hb)
  ·rename_i hj;by_cases hj':j=acc.length
   ·subst hj';simp at hb;exact zvA h (by simpa using(hl 0).symm) hb
   ·rw[zy (by simp;omega)]at hb;simp at hb
def zkk(ops:Array Oper)(ms:List Nat)(ts:List Bool):List Nat->Bool
 |[]=>true
 |j::l=>((List.range j).all fun i=>(ms.getD j 0).testBit i||(!ts.getD i true&& !ts.getD j true&&
   (match ops[i]?,ops[j]? with|some x,some y=>x.apart ops y&&y.apart ops x|_,_=>false)))&&zkk ops ms ts l
def zgR:List Oper->Nat->Bool
 |[],_=>true
 |o::l,k=>o.after.toList.all (fun e=> !Region.binds .any e||decide (e.on<k))&&zgR l (k+1)
def chk(ops:Array Oper)(ts:List Bool):Bool:=zgR ops.toList 0&&zkk ops (zrX ops.toList []) ts (List.range ops.size)
theorem zkG{ms:List Nat}{ts:List Bool}:∀{l:List Nat},zkk ops ms ts l=true->∀j∈l,∀i,i<j->(ms.getD j 0).testBit i=true\/(ts.getD i true=false/\ts.getD j true=false/\∃x y,ops[i]? =some x/\ops[j]? =some y/\x.apart ops y=true/\y.apart ops x=true)
 |[],_,j,hj,_,_=>by simp at hj
 |k::l,h,j,hj,i,hij=>by
  simp only[zkk,zh]at h;rcases zJ.1 hj with rfl|hj
  ·have:=List.all_eq_true.1 h.1 i (by simpa using hij);simp only[jg,zh,yK]at this;rcases this with h1|⟨⟨h1,h2⟩,h3⟩
   ·exact .inl h1
   ·right;refine⟨h1,h2,?_⟩;split at h3
    ·rename_i x y hx hy;simp only[zh]at h3;exact⟨x,y,hx,hy,h3.1,h3.2⟩
    ·cases h3
  ·exact zkG h.2 j hj i hij
theorem zcu:∀{l:List Oper} {k:Nat},zgR l k=true->∀(j:Nat) (o:Oper),l[j]? =some o->∀e∈o.after,Region.binds .any e=true->e.on<k+j
 |[],_,_,j,o,ho=>by simp at ho
 |x::l,k,h,j,o,ho=>by
  simp only[zgR,zh]at h;intro e he hb
  cases j with
  |zero=>
   simp at ho;subst ho;have:=List.all_eq_true.1 h.1 e (by simpa using he);simp[hb]at this;omega
  |succ j=>
   have:=zcu h.2 j o (by simpa using ho) e he hb;omega
def zko(St:Nat->Env->Env->Prop)(ops:Array Oper)(Q:Env->Prop):Nat->Array Bool->Env->Prop
 |0,listed,D=>Region.ready .any ops listed=[]/\Q D
 |n+1,listed,D=>(Region.ready .any ops listed=[]->Q D)/\∀i∈Region.ready .any ops listed,∃D',St i D D'/\zko St ops Q n (listed.setIfInBounds i true) D'
theorem zyX{St:Nat->Env->Env->Prop}{Q:Env->Prop}{I:Env->Prop}{i:Nat}
 (ex:∀(listed:Array Bool) (j:Nat) (D Di Dij:Env),zbs ops listed->i∈Region.ready .any ops listed->j∈Region.ready .any ops listed->j≠i->I D->St i D Di->St j Di Dij->∃Dj,St j D Dj/\St i Dj Dij/\I Dj):
 ∀(n:Nat) (listed:Array Bool) (D Di:Env),zbs ops listed->I D->i∈Region.ready .any ops listed->St i D Di->zko St ops Q n (listed.setIfInBounds i true) Di->zko St ops Q (n+1) listed D:=by
 intro n
 induction n with
 |zero=>
  intro listed D Di _ _ hr hs H;refine⟨(fun h=>by rw[h]at hr;cases hr),fun j hj=>?_⟩;by_cases hji:j=i
  ·subst hji;exact⟨Di,hs,H⟩
  ·have:=ready_mono hj hji;rw[H.1]at this;cases this
 |succ n ih=>
  intro listed D Di hc hI hr hs H;refine⟨(fun h=>by rw[h]at hr;cases hr),fun j hj=>?_⟩;by_cases hji:j=i
  ·subst hji;exact⟨Di,hs,H⟩
  ·obtain⟨Dij,h1,h2⟩:=H.2 j (ready_mono hj hji);obtain⟨Dj,e1,e2,e3⟩:=ex listed j D Di Dij hc hr hj hji hI hs h1;refine⟨Dj,e1,ih (listed.setIfInBounds j true) Dj Dij ?_ e3 (ready_mono hr (Ne.symm hji)) e2 ?_⟩
   ·intro k o ho hk e he hb;by_cases hkj:k=j
    ·subst hkj;obtain⟨_,o',ho',hall⟩:=mem_ready.1 hj;rw[ho]at ho';simp only[za]at ho';subst ho';exact getD_set_true (hall e he hb)
    ·rw[getD_set_ne false (Ne.symm hkj)]at hk;exact getD_set_true (hc k o ho hk e he hb)
   ·rw[Array.setIfInBounds_comm _ _ hji];exact h2
def zaO(n k:Nat):Array Bool:=((List.range n).map fun j=>decide (j<k)).toArray
theorem zf9(n k j:Nat)(d:Bool):(zaO n k).getD j d=if j<n then decide (j<k)else d:=by
 unfold zaO;by_cases h:j<n
 ·simp[h]
 ·simp[h]
theorem zBf{n k:Nat}(h:k<n):(zaO n k).setIfInBounds k true=zaO n (k+1):=by
 apply Array.ext_getElem?;intro j;by_cases hj:j=k
 ·subst hj;have h1:j<(zaO n j).size:=by simp[zaO,h]
  have h2:j<(zaO n (j+1)).size:=by simp[zaO,h]
  simp[h1];simp[zaO,h]
 ·rw[ZC (Ne.symm hj)];unfold zaO;simp only[uB,zK];by_cases hjn:j<n
  ·simp[List.getElem?_range hjn];omega
  ·simp[hjn]
end
open Go.RowKit
def V.isScalar:V->Bool
 | .int _ _=>true
 | .bool _=>true
 | .str _=>true
 |_=>false
mutual
def qR(s ver:Nat):V->List Nat->Env->Option (Prop×V×Env)
 | .agg fs,p,D=>match ZY s ver fs p 0 D with
   |some (q,vs,D')=>some (q,.agg vs,D')
   |none=>none
 | .slc true _ _ _,p,D=>match D.own s ver with
   |some r=>some (r.okm p/\(r.at p).isH=true,r.at p,D.mod s (r.upd p (.hole 1)))
   |none=>none
 | .box _ _,p,D=>match D.own s ver with
   |some r=>some (r.okm p/\(r.at p).isH=true,r.at p,D.mod s (r.upd p (.hole 1)))
   |none=>none
 |x,_,D=>if x.owned then none else some (True,x,D)
def ZY(s ver:Nat):List V->List Nat->Nat->Env->Option (Prop×List V×Env)
 |[],_,_,D=>some (True,[],D)
 |y::ys,p,i,D=>match qR s ver y (p++[i]) D with
  |some (q,v,D')=>match ZY s ver ys p (i+1) D' with
   |some (q',vs,D'')=>some (q/\q',v::vs,D'')
   |none=>none
  |none=>none
end
def ju(D:Env):A->Option (Prop×V×Env)
 | .val x=>some (True,x,D)
 | .rf s ver p=>match D.own s ver with
   |some r=>match p with
    |[]=>some (True,r,D.drp s)
    |i::p'=>match r with
     | .tup fs=>match p' with
       |[]=>some (i<fs.length,fs.getD i (.hole 0),D.mod s (.tup (fs.set i (.hole (fs.getD i (.hole 0)).size))))
       |_=>none
     |_=>some (r.okm (i::p')/\(r.at (i::p')).isH=true,r.at (i::p'),D.mod s (r.upd (i::p') (.hole 1)))
   |none=>none
 | .ag s ver p fs=>qR s ver (.agg fs) p D
 |_=>none
section
variable {C:Ctx}{F:Nat->Prop}{O:Nat->Nat->Prop}{Z:Nat->Prop}{D D':Env}{a:Act}{w w':World}
structure Taken (C:Ctx) (F:Nat->Prop) (Z:Nat->Prop) (D D':Env) (a:Act) (w:World) (x:V) (cs:List Value) (On:Nat->Prop):Prop where
 rep:Rep C.cz w F x cs On
 new:∀b,On b->¬Z b
 inv:∃O',Inv C F O' (fun b=>Z b\/On b) D' a w
 hold:∀A v,Holds C.cz w F D a.tmps A v->Holds C.cz w F D' a.tmps A v
theorem Inv.take_holds(h:Inv C F O Z D a w){s:Nat}{p:List Nat}{x:V}{n:Nat}(hg:(D s).g=true)(hx:(D s).a=.val x)(hok:x.okp p)(hp:p≠[])(hna:∀fs,x≠.agg fs)(hn:n=(x.at p).size):
 ∀A v,Holds C.cz w F D a.tmps A v->Holds C.cz w F (D.mod s (x.upd p (.hole n))) a.tmps A v:=by
 intro A v hh;refine hh.pres (fun s' ver _=>?_) (fun _ h=>h) (fun _ _=>rfl);intro x' hx';by_cases hs:s'=s
 ·subst hs;rw[Env.own_mod_eq]at hx';split at hx'
  ·rename_i hv;split at hx'
   case isFalse=>cases hx'
   simp only[za]at hx';subst hx'
   have hxo:x.owned=true:=by
    cases p with
    |nil=>exact absurd rfl hp
    |cons i p=>cases x<;>first|rfl|exact hok.1.elim|exact hok.1.1|exact absurd rfl (hna _)
   refine⟨x,Env.own_iff'.2 ⟨hg,hv.2,hx,hxo⟩,fun q u hq hu=>?_,fun q r hq hr=>?_⟩
   ·exact znC C.cz w (y:=.hole n) (fun _ h=>h) rfl hn hok hp hq hu
   ·rw[zer C.cz w (y:=.hole n) (fun _ h=>h) rfl hn hok hp hq]at hr;exact⟨zl8 (y:=.hole n) (fun _ h=>h) rfl hn hok hq,hr⟩
  ·cases hx'
 ·rw[Env.own_mod_ne hs]at hx';exact⟨x',hx',fun _ _ h1 h2=>⟨h1,h2⟩,fun _ _ h1 h2=>⟨h1,h2⟩⟩
theorem znb(hI:Inv C F O Z D a w){s ver:Nat}{p:List Nat}{v:Value}{r:V}(hop:Holds C.cz w F D a.tmps (.rf s ver p) v)(ho:D.own s ver=some r)(hm:r.okm p)(hH:(r.at p).isH=true):
 ∃On,(r.at p).reg [v] v/\Taken C F Z D (D.mod s (r.upd p (.hole 1))) a w (r.at p) [v] On:=by
 obtain⟨hp,hna,hok⟩:=V.okm_okp hm;obtain⟨hg,_,ha⟩:=Env.own_elim ho;obtain⟨b,o,cy,Oy,g1,g2,g3,g4,g5,g6,g7⟩:=hI.take hg ha hok hp hna;obtain⟨u,rfl,_⟩:=uk g3 hH;have hc:=g2 0 u rfl;simp only[yk]at hc;have hvu:v=u:=hop r u ho (V.okv_of_okp hok) (by rw[JN hm,if_pos hH,g1];exact hc);subst hvu;have hsz:(r.at p).size=1:=by rw[<-g3.length];rfl
 rw[hsz]at g7;refine⟨Oy,?_,g3,fun z hz hz'=>hI.oz s z (g6 z hz) hz',⟨_,g7⟩,hI.take_holds hg ha hok hp hna hsz.symm⟩;revert hH;cases r.at p<;>simp[V.isH,V.reg]
theorem Taken.trans{Z1:Nat->Prop}{D'':Env}{x y:V}{cs ds:List Value}{On Om:Nat->Prop}(h1:Taken C F Z D D' a w x cs On)(h2:Taken C F Z1 D' D'' a w y ds Om)(hz:∀b,Z1 b↔Z b\/On b):
 (∀b,On b->¬Om b)/\(∀A v,Holds C.cz w F D a.tmps A v->Holds C.cz w F D'' a.tmps A v):=
 ⟨fun b hb hb'=>h2.new b hb' ((hz b).2 (.inr hb)),fun A v h=>h2.hold A v (h1.hold A v h)⟩
theorem JI{s ver:Nat}{x:V}{p:List Nat}{D D':Env}{O:Nat->Nat->Prop}{Z:Nat->Prop}{c:List Value}{q:Prop}{y:V}(hx:x.owned=false)(hna:∀fs,x≠.agg fs)(hI:Inv C F O Z D a w)
 (hcp:Cp (fun q h=>∀r h',D.own s ver=some r->r.okv q->hdrV C.cz w q r (a.tmps.getD s undef)=some h'->h'=h) (fun y c=>Rep C.cz w F y c (fun _=>False)) x p c)
 (ht:True=q/\x=y/\D=D'):∃On,Taken C F Z D D' a w y c On/\y.size=x.size:=by
 obtain⟨_,rfl,rfl⟩:=ht
 have hr:Rep C.cz w F x c (fun _=>False):=by
  cases hcp with
  |val _ _ _ _ h _=>exact h
  |hd _ _ h hh=>exfalso;revert hx hh;cases x<;>simp[V.isH,V.owned]
  |agg fs=>exact absurd rfl (hna fs)
 exact⟨fun _=>False,⟨hr,fun _ h=>h.elim,⟨O,hI.lessZ (fun b hb=>hb.resolve_right id)⟩,fun _ _ h=>h⟩,rfl⟩
mutual
theorem zmG{s ver:Nat}:∀(x:V) (p:List Nat) (D D':Env) (O:Nat->Nat->Prop) (Z:Nat->Prop) (c:List Value) (q:Prop) (y:V),Inv C F O Z D a w->
 Cp (fun q h=>∀r h',D.own s ver=some r->r.okv q->hdrV C.cz w q r (a.tmps.getD s undef)=some h'->h'=h) (fun y c=>Rep C.cz w F y c (fun _=>False)) x p c->
 qR s ver x p D=some (q,y,D')->q->∃On,Taken C F Z D D' a w y c On/\y.size=x.size
 | .agg fs,p,D,D',O,Z,c,q,y,hI,hcp,ht,hq=>by
   simp only[qR]at ht;split at ht
   ·rename_i q' vs D1 h1;simp only[za,zb]at ht;obtain⟨rfl,rfl,rfl⟩:=ht
    have hcps:c.length=V.sizes fs/\∀(i:Nat) (z:V),fs[i]? =some z->Cp (fun q h=>∀r h',D.own s ver=some r->r.okv q->hdrV C.cz w q r (a.tmps.getD s undef)=some h'->h'=h) (fun y c=>Rep C.cz w F y c (fun _=>False)) z (p++[0+i]) ((c.drop (V.offs fs i)).take z.size):=by
     cases hcp with
     |val _ _ _ hx hr hl=>
      refine⟨hl,fun i z hz=>?_⟩
      cases hr with
      |agg fs cs Os O' hn hOs hdis hr=>
       simp only[V.owned,V.owneds_eq,Km]at hx;refine .val _ _ _ (by simpa using hx z (yo hz)) ((hr i z hz).mono (fun _ h=>h) (fun b hb=>hOs i b hb)) ?_;exact(hr i z hz).length
     |hd _ _ _ hx=>simp[V.isH]at hx
     |agg _ _ _ hn h=>exact⟨hn,fun i z hz=>by rw[jB];exact h i z hz⟩
    obtain⟨On,e1,e2⟩:=zkR fs p 0 D D1 O Z c q' vs hI hcps.1 hcps.2 h1 hq;exact⟨On,e1,e2⟩
   ·cases ht
 | .slc true e d es,p,D,D',O,Z,c,q,y,hI,hcp,ht,hq=>by
   simp only[qR]at ht;split at ht
   ·rename_i r hr;simp only[za,zb]at ht;obtain⟨rfl,rfl,rfl⟩:=ht
    cases hcp with
    |val _ _ _ hx=>simp[V.owned]at hx
    |hd _ _ h hx hp=>
     obtain⟨On,_,e2⟩:=znb hI (v:=h) (fun r' h' hr' hv hh=>(hp r' h' hr' hv hh).symm) hr hq.1 hq.2;exact⟨On,e2,by rw[<-e2.rep.length];rfl⟩
   ·cases ht
 | .box e z,p,D,D',O,Z,c,q,y,hI,hcp,ht,hq=>by
   simp only[qR]at ht;split at ht
   ·rename_i r hr;simp only[za,zb]at ht;obtain⟨rfl,rfl,rfl⟩:=ht
    cases hcp with
    |val _ _ _ hx=>simp[V.owned]at hx
    |hd _ _ h hx hp=>
     obtain⟨On,_,e2⟩:=znb hI (v:=h) (fun r' h' hr' hv hh=>(hp r' h' hr' hv hh).symm) hr hq.1 hq.2;exact⟨On,e2,by rw[<-e2.rep.length];rfl⟩
   ·cases ht
 | .slc false e d es,p,D,D',O,Z,c,q,y,hI,hcp,ht,hq=>JI rfl (by simp) hI hcp (by simpa [qR,V.owned]using ht)
 | .int k n,p,D,D',O,Z,c,q,y,hI,hcp,ht,hq=>JI rfl (by simp) hI hcp (by simpa [qR,V.owned]using ht)
 | .bool b,p,D,D',O,Z,c,q,y,hI,hcp,ht,hq=>JI rfl (by simp) hI hcp (by simpa [qR,V.owned]using ht)
 | .str b,p,D,D',O,Z,c,q,y,hI,hcp,ht,hq=>JI rfl (by simp) hI hcp (by simpa [qR,V.owned]using ht)
 | .fn f b,p,D,D',O,Z,c,q,y,hI,hcp,ht,hq=>JI rfl (by simp) hI hcp (by simpa [qR,V.owned]using ht)
 | .hole n,p,D,D',O,Z,c,q,y,hI,hcp,ht,hq=>JI rfl (by simp) hI hcp (by simpa [qR,V.owned]using ht)
 | .tup fs,p,D,D',O,Z,c,q,y,hI,hcp,ht,hq=>by
   simp only[qR]at ht;split at ht
   ·cases ht
   ·rename_i hx;exact JI (by simpa using hx) (by simp) hI hcp (by simpa using ht)
theorem zkR{s ver:Nat}:∀(fs:List V) (p:List Nat) (i:Nat) (D D':Env) (O:Nat->Nat->Prop) (Z:Nat->Prop) (c:List Value) (q:Prop) (vs:List V),Inv C F O Z D a w->c.length=V.sizes fs->
 (∀(k:Nat) (z:V),fs[k]? =some z->Cp (fun q h=>∀r h',D.own s ver=some r->r.okv q->hdrV C.cz w q r (a.tmps.getD s undef)=some h'->h'=h) (fun y c=>Rep C.cz w F y c (fun _=>False)) z (p++[i+k]) ((c.drop (V.offs fs k)).take z.size))->
 ZY s ver fs p i D=some (q,vs,D')->q->∃On,Taken C F Z D D' a w (.agg vs) c On/\(V.agg vs).size=V.sizes fs
 |[],p,i,D,D',O,Z,c,q,vs,hI,hl,hcp,ht,hq=>by
  simp only[ZY,za,zb]at ht;obtain⟨_,rfl,rfl⟩:=ht;exact⟨fun _=>False,⟨.agg [] c (fun _ _=>False) _ hl (fun _ _ h=>h) (fun _ _ _ _ h=>h.elim) (fun i x hx=>by simp at hx),fun _ h=>h.elim,⟨O,hI.lessZ (fun b hb=>hb.resolve_right id)⟩,fun _ _ h=>h⟩,rfl⟩
 |x::xs,p,i,D,D',O,Z,c,q,vs,hI,hl,hcp,ht,hq=>by
  simp only[ZY]at ht;split at ht
  ·rename_i q1 y D1 h1;split at ht
   ·rename_i q2 ys D2 h2;simp only[za,zb]at ht;obtain⟨rfl,rfl,rfl⟩:=ht;have hc0:=hcp 0 x rfl;simp only[V.offs,List.take_zero,V.sizes,List.drop_zero,yk]at hc0;obtain⟨On,e1,e2⟩:=zmG x (p++[i]) D D1 O Z (c.take x.size) q1 y hI hc0 h1 hq.1;obtain⟨O1,hI1⟩:=e1.inv;have hl':(c.drop x.size).length=V.sizes xs:=by simp only[yF,hl,V.sizes];omega
    obtain⟨Om,f1,f2⟩:=zkR xs p (i+1) D1 D2 O1 (fun b=>Z b\/On b) (c.drop x.size) q2 ys hI1 hl' (fun k z hz=>by
     have:=hcp (k+1) z (by simpa using hz);have e:V.offs (x::xs) (k+1)=x.size+V.offs xs k:=(by simp[V.offs,V.sizes]);rw[e,<-Zu,show i+(k+1)=i+1+k from by omega]at this;refine this.mono (fun q' h hh=>?_) (fun _ _ h=>h);have:=e1.hold (.rf s ver q') h (fun r' h' hr' hv hh'=>(hh r' h' hr' hv hh').symm)
     exact fun r' h' hr' hv hh'=>(this r' h' hr' hv hh').symm) h2 hq.2
    obtain⟨t1,t2⟩:=e1.trans f1 (fun b=>Iff.rfl);refine⟨fun b=>On b\/Om b,⟨?_,fun b hb=>hb.elim (e1.new b) (fun hb hz=>f1.new b hb (.inl hz)),?_,t2⟩,?_⟩
    ·have hrs:=f1.rep
     cases hrs with
     |agg _ _ Os _ hn hOs hdis hr=>
      have hys:y.size=x.size:=e2;have hyl:(c.take x.size).length=x.size:=(by rw[e1.rep.length,hys]);refine .agg _ c (fun k b=>if k=0 then On b else Os (k-1) b) _ (by simp only[V.sizes,hys];have:V.sizes ys=V.sizes xs:=f2;rw[this];simpa [V.sizes]using hl) (fun k b hb=>?_) (fun j k b hjk hb=>?_) (fun k z hz=>?_)
      ·split at hb
       ·exact .inl hb
       ·exact .inr (hOs _ b hb)
      ·split at hb
       ·rename_i hj;rw[if_neg (by omega)];exact fun hb'=>t1 b hb (hOs _ b hb')
       ·rename_i hj;split
        ·exact fun hb'=>t1 b hb' (hOs _ b hb)
        ·exact hdis _ _ b (by omega) hb
      ·cases k with
       |zero=>
        simp at hz;subst hz;simp only[V.offs,List.take_zero,V.sizes,List.drop_zero,if_true,hys];exact e1.rep
       |succ k=>
        simp at hz;have e:V.offs (y::ys) (k+1)=x.size+V.offs ys k:=(by simp[V.offs,V.sizes,hys]);rw[e,<-Zu];simpa using hr k z hz
    ·obtain⟨O2,hI2⟩:=f1.inv;exact⟨O2,hI2.lessZ (fun b hb=>hb.elim (fun hb=>.inl (.inl hb)) (fun hb=>hb.elim (fun hb=>.inl (.inr hb)) .inr))⟩
    ·show V.sizes (y::ys)=_;simp only[V.sizes,e2];have:V.sizes ys=V.sizes xs:=f2;rw[this]
   ·cases ht
  ·cases ht
end
end
end Go.Ax
namespace Go.Ax
open Go.RowKit
section
variable {C:Ctx}{F:Nat->Prop}{O:Nat->Nat->Prop}{Z:Nat->Prop}{D D':Env}{a:Act}{w w':World}
theorem Inv.modTree(h:Inv C F O Z D a w){s:Nat}{x':V}{cs':List Value}{Os Zx:Nat->Prop}(hg:(D s).g=true)(hrep:Rep C.cz w F x' cs' Os)(hreg:x'.reg cs' (a.tmps.getD s undef))(hOs:∀b,Os b->O s b)(hZx:∀b,Zx b->O s b)
 (hd:∀b,Os b->¬Zx b) (hpr:∀ver,za6 C.cz w w D (D.mod s x') a.tmps a.tmps s ver):Inv C F (fun t=>if t=s then Os else O t) (fun z=>Z z\/Zx z) (D.mod s x') a w/\
 (∀A v,Holds C.cz w F D a.tmps A v->Holds C.cz w F (D.mod s x') a.tmps A v):=by
 have hpr':∀s' ver,za6 C.cz w w D (D.mod s x') a.tmps a.tmps s' ver:=by
  intro s' ver;by_cases hs:s'=s
  ·subst hs;exact hpr ver
  ·intro x hx;rw[Env.own_mod_ne hs]at hx;exact⟨x,hx,fun _ _ h1 h2=>⟨h1,h2⟩,fun _ _ h1 h2=>⟨h1,h2⟩⟩
 have hv:∀s',((D.mod s x') s').ver=(D s').ver:=by
  intro s';simp only[Env.mod];split
  ·rename_i e;rw[e]
  ·rfl
 refine⟨⟨fun t hgt=>?_,fun t t' b hst hb=>?_,fun t b hb=>?_,fun t b hb hz=>?_,fun b hz=>?_,fun t b hb=>?_,fun b hz=>?_,h.flt,fun t b hb=>?_,fun b hz=>?_,
  h.f0,h.ffr,h.old,h.size,h.os,h.tape,h.output,h.defers,fun t s' ver hr=>?_,fun t hgt hut=>?_,h.ts,h.kp,h.hx⟩,fun A v hh=>hh.pres (fun s' ver _=>hpr' s' ver) (fun _ h=>h) (fun _ _=>rfl)⟩
 ·by_cases hts:t=s
  ·subst hts;refine⟨(h.slot t hg).1,fun y hy=>?_,fun hn=>?_⟩
   ·simp only[Env.mod,if_true,A.val.injEq]at hy;subst hy;simp only[if_true];exact⟨cs',hreg,hrep⟩
   ·simp[Env.mod]at hn
  ·simp only[Env.mod,hts,if_false]at hgt ⊢;obtain⟨e1,e2,e3⟩:=h.slot t hgt;exact⟨e1,e2,fun hn=>(e3 hn).pres (fun s' ver _=>hpr' s' ver) (fun _ h=>h) (fun _ _=>rfl)⟩
 ·split at hb
  ·rename_i hts;subst hts;rw[if_neg (Ne.symm hst)];exact h.oo _ _ b hst (hOs b hb)
  ·split
   ·rename_i _ hts';subst hts';exact fun hz=>h.oo _ _ b hst hb (hOs b hz)
   ·exact h.oo _ _ b hst hb
 ·split at hb
  ·exact h.of _ b (hOs b hb)
  ·exact h.of _ b hb
 ·split at hb
  ·exact hz.elim (h.oz _ b (hOs b hb)) (hd b hb)
  ·rename_i hts;exact hz.elim (h.oz _ b hb) (fun hz=>h.oo _ _ b hts hb (hZx b hz))
 ·exact hz.elim (h.zf b) (fun hz=>h.of s b (hZx b hz))
 ·split at hb
  ·exact h.olt _ b (hOs b hb)
  ·exact h.olt _ b hb
 ·exact hz.elim (h.zlt b) (fun hz=>h.olt s b (hZx b hz))
 ·split at hb
  ·exact h.ofr _ b (hOs b hb)
  ·exact h.ofr _ b hb
 ·exact hz.elim (h.zfr b) (fun hz=>h.ofr s b (hZx b hz))
 ·rw[hv];by_cases hts:t=s
  ·subst hts;simp[Env.mod,A.refs]at hr
  ·simp only[Env.mod,hts,if_false]at hr;exact h.wf t s' ver hr
 ·by_cases hts:t=s
  ·subst hts;simp only[Env.mod,if_true]at hgt;rw[hg]at hgt;cases hgt
  ·simp only[Env.mod,hts,if_false]at hgt hut;exact h.und t hgt hut
theorem ZD(hI:Inv C F O Z D a w){A:A}{v:Value}{q:Prop}{x:V}(hh:Holds C.cz w F D a.tmps A v)(ht:ju D A=some (q,x,D'))(hq:q):∃cs On,x.reg cs v/\Taken C F Z D D' a w x cs On:=by
 cases A with
 |val z=>
  simp only[ju,za,zb]at ht;obtain⟨_,rfl,rfl⟩:=ht;obtain⟨cs,e1,e2⟩:=hh;exact⟨cs,fun _=>False,e1,e2,fun _ h=>h.elim,⟨O,hI.lessZ (fun b hb=>hb.resolve_right id)⟩,fun _ _ h=>h⟩
 |rf s ver p=>
  simp only[ju]at ht;split at ht
  ·rename_i r hr;obtain⟨hg,_,ha⟩:=Env.own_elim hr;split at ht
   ·simp only[za,zb]at ht;obtain⟨_,rfl,rfl⟩:=ht;obtain⟨cs,e1,e2,e3,e4⟩:=hI.takeAll hg ha;have hv:=hh r _ hr (by cases r<;>trivial) rfl;rw[<-hv]at e1;refine⟨cs,O s,e1,e2,fun b hb=>hI.oz s b hb,⟨_,e4⟩,fun A v h=>h.pres (fun s' ver' _=>?_) (fun _ h=>h) (fun _ _=>rfl)⟩;intro x' hx';by_cases hs:s'=s
    ·subst hs;rw[Env.own_drp_eq]at hx';cases hx'
    ·rw[Env.own_drp_ne hs]at hx';exact⟨x',hx',fun _ _ h1 h2=>⟨h1,h2⟩,fun _ _ h1 h2=>⟨h1,h2⟩⟩
   ·rename_i i p';split at ht
    ·rename_i fs;split at ht
     ·simp only[za,zb]at ht;obtain⟨rfl,rfl,rfl⟩:=ht;obtain⟨_,h2,_⟩:=hI.slot s hg;obtain⟨cs,h3,h4⟩:=h2 _ ha
      cases h4 with
      |tup fs vs cs' Os O' hn hOs hdis hv hrr=>
       have hi':=yH (.hole 0) hq;have hvv:a.tmps.getD s undef=.tuple vs:=h3;have hval:v=vs.getD i undef:=hh (.tup fs) _ hr ⟨hq,trivial⟩ (by rw[hvv];rfl)
       have hnew:Rep C.cz w F (.tup (fs.set i (.hole (fs.getD i (.hole 0)).size))) [.tuple vs] (fun b=>O s b/\¬Os i b):=by
        refine .tup _ vs cs' (fun k b=>if k=i then False else Os k b) _ (by simpa using hn) (fun k b hb=>?_) (fun j k b hjk hb=>?_) (fun k y hy=>?_) (fun k y hy=>?_)
        ·split at hb
         ·exact hb.elim
         ·rename_i hk;exact⟨hOs k b hb,hdis k i b hk hb⟩
        ·split at hb
         ·exact hb.elim
         ·split
          ·exact id
          ·exact hdis j k b hjk hb
        ·rcases V.set_some hy with⟨rfl,rfl⟩|⟨hne,hy'⟩
         ·trivial
         ·exact hv k y hy'
        ·rcases V.set_some hy with⟨rfl,rfl⟩|⟨hne,hy'⟩
         ·simp only[if_true];exact .hole _ _ _ (hrr k _ hi').length
         ·simp only[hne,if_false];exact hrr k y hy'
       obtain⟨e1,e2⟩:=hI.modTree (x':=.tup (fs.set i (.hole (fs.getD i (.hole 0)).size))) (Zx:=Os i) hg hnew (by exact hvv) (fun b hb=>hb.1) (fun b hb=>hOs i b hb) (fun b hb=>hb.2) (by
        intro ver' x' hx';rw[Env.own_mod_eq]at hx';split at hx'
        ·rename_i hver;split at hx'
         case isFalse=>cases hx'
         simp only[za]at hx';subst hx';refine⟨.tup fs,by rw[<-hver.2];have:=hr;rw[Env.own_iff']at this ⊢;exact⟨this.1,rfl,this.2.2⟩,fun p u hok hu=>?_,fun p r' hok hr'=>?_⟩
         ·cases p with
          |nil=>exact⟨trivial,hu⟩
          |cons j p=>
           cases p with
           |nil=>
            refine⟨⟨by have:=hok.1;simpa using this,trivial⟩,?_⟩;rw[hvv]at hu ⊢;exact hu
           |cons k p=>simp[hdrV,locV]at hu
         ·cases p<;>simp[locV]at hr'
        ·cases hx')
       subst hval;exact⟨cs' i,Os i,hv i _ hi',hrr i _ hi',fun b hb=>hI.oz s b (hOs i b hb),⟨_,e1⟩,e2⟩
     ·cases ht
    ·simp only[za,zb]at ht;obtain⟨rfl,rfl,rfl⟩:=ht;obtain⟨On,e1,e2⟩:=znb hI hh hr hq.1 hq.2;exact⟨[v],On,e1,e2⟩
  ·cases ht
 |ag s ver p fs=>
  simp only[ju]at ht;obtain⟨cs,e1,hcp⟩:=hh;obtain⟨On,f1,f2⟩:=zmG (.agg fs) p D D' O Z cs q x hI hcp ht hq;refine⟨cs,On,?_,f1⟩;simp only[qR]at ht;split at ht
  ·simp only[za,zb]at ht;obtain⟨_,rfl,_⟩:=ht;exact e1
  ·cases ht
 |ad=>simp[ju]at ht
 |fz=>simp[ju]at ht
mutual
def _root_.Go.Ax.V.solid:V->Bool
 | .agg fs=>V.solids fs
 | .hole _=>false
 | .tup _=>false
 |_=>true
def _root_.Go.Ax.V.solids:List V->Bool
 |[]=>true
 |v::vs=>v.solid&&V.solids vs
end
def zhO(P:Program)(t:TypeId):Bool:=match P.underlying t with
 |some .bool=>true
 |_=>false
def zcm(P:Program)(t:TypeId):Bool:=(zaz P t).isSome||Kg P t||zhO P t
def qQ(C:Ctx)(D:Env)(o:Oper):Option (Prop×Env):=
 match o.guard with
 |some _=>none
 |none=>
 match o.op,o.dst with
 | .assign x,some d=>
   match opd C.P D o.type x with
   |some (gx,A)=>match ju D A with
    |some (q,y,D1)=>if C.dst d&& !y.isHole then
     (match A with
     | .rf s _ []=>if s=d then none else some (gx=true/\q,(D1.put d true (.val y)).put s true (.rf d ((D1 d).ver+1) []))
     |_=>some (gx=true/\q,D1.put d true (.val y)))else none
    |none=>none
   |none=>none
 | .store t x v,none=>
   match opd C.P D t v with
   |some (gv,Av)=>match ju D Av with
    |some (q,y,D1)=>match opd C.P D1 0 x with
     |some (gx,.ad s ver p)=>match D1.own s ver with
      |some r=>if Zg C.P t y&&(r.at p).size==y.size&&y.solid&&decide (0<y.size)then
       some (gv=true/\q/\gx=true/\r.okm p/\(C.st=true->((r.at p).isScalar&&y.isScalar)=true),if(r.at p).isScalar&&y.isScalar then D1.mod s (r.upd p y)else D1.bmp s (r.upd p y))else none
      |none=>none
     |some (gx,.rf s ver p)=>match D1.own s ver with
      |some r=>match r.at p with
       | .box _ c=>if Zg C.P t y&&c.size==y.size&&y.solid&&decide (0<y.size)then
         some (gv=true/\q/\gx=true/\r.okr p/\r.okm (p++[0])/\(C.st=true->(c.isScalar&&y.isScalar)=true),if c.isScalar&&y.isScalar then D1.mod s (r.upd (p++[0]) y)else D1.bmp s (r.upd (p++[0]) y))else none
       |_=>none
      |none=>none
     |_=>none
    |none=>none
   |none=>none
 | .call ⟨.builtin .append,args,ats⟩,some d=>
   match args.toList,ats.toList with
   |[x,y],[t,t']=>if t=t' then
    match ul C.P t,opd C.P D t x with
    |some e,some (gx,Ax)=>match ju D Ax with
     |some (q,.slc true e' dd es,D1)=>match opd C.P D1 t y with
      |some (gy,Ay)=>match (zag C.P e),Ay.look D1 with
       |some _,some (.slc oy ey _ es2)=>
        if C.dst d&&e==e'&&e==ey&& !Ay.isAg&&decide (C.P.bytesOf e<=65536)&&decide (0<C.P.cellsOf e)then
         (if oy&& !zcm C.P e then
          match ju D1 Ay with
          |some (q2,.slc true _ _ es3,D2)=>some (gx=true/\q/\gy=true/\q2/\es.length+es3.length<=2147483647/\(∀x∈es3,x.solid=true)/\C.st=false,D2.put d true (.val (.slc true e dd (es++es3))))
          |_=>none
         else some (gx=true/\q/\gy=true/\Ay.okA D1/\es.length+es2.length<=2147483647/\(∀x∈es2,x.solid=true)/\V.owneds es2=false/\C.st=false,D1.put d true (.val (.slc true e dd (es++es2)))))
        else none
       |_,_=>none
      |none=>none
     |_=>none
    |_,_=>none
    else none
   |_,_=>none
 |_,_=>none
end
section
variable {C:Ctx}{F:Nat->Prop}{O:Nat->Nat->Prop}{Z:Nat->Prop}{D D':Env}{a:Act}{w w':World}
theorem V.solids_mem:∀l:List V,V.solids l=true->∀z∈l,z.solid=true:=by
 intro l
 induction l with
 |nil=>simp
 |cons x l ih=>
  simp only[V.solids,zh];rintro⟨e1,e2⟩ z hz;rcases zJ.1 hz with rfl|hz
  ·exact e1
  ·exact ih e2 z hz
theorem Rep.oneCell{cz:TypeId->Nat}{x:V}{cs:List Value}{O':Nat->Prop}(h:Rep cz w F x cs O'):x.solid=true->∀v∈cs,v.oneCell'=true:=by
 induction h with
 |agg fs cs Os O hn hOs hdis hr ih=>
  intro hs v hv
  have key:∀(l:List V) (c:List Value),c.length=V.sizes l->(∀(i:Nat) (x:V),l[i]? =some x->∀u∈(c.drop (V.offs l i)).take x.size,u.oneCell'=true)->∀u∈c,u.oneCell'=true:=by
   intro l
   induction l with
   |nil=>intro c hc _ u hu;simp[V.sizes]at hc;subst hc;simp at hu
   |cons x l ih2=>
    intro c hc hf u hu;rw[<-List.take_append_drop x.size c]at hu;rcases List.mem_append.1 hu with hu|hu
    ·exact hf 0 x rfl u (by simpa [V.offs,V.sizes]using hu)
    ·refine ih2 (c.drop x.size) (by simp only[yF,hc,V.sizes];omega) (fun i y hy u hu=>hf (i+1) y (by simpa using hy) u ?_) u hu;have e:V.offs (x::l) (i+1)=x.size+V.offs l i:=(by simp[V.offs,V.sizes]);rw[e,<-Zu];exact hu
  exact key fs cs hn (fun i x hx u hu=>ih i x hx (V.solids_mem fs hs x (yo hx)) u hu) v hv
 |hole=>intro hs;simp[V.solid]at hs
 |tup=>intro hs;simp[V.solid]at hs
 |_=>intro _ v hv;simp only[List.mem_singleton]at hv;subst hv;rfl
theorem zzn{cz:TypeId->Nat}{x:V}{cs:List Value}{O':Nat->Prop}{v:Value}(h:Rep cz w F x cs O')(hr:x.reg cs v)(hs:x.solid=true):v.cells.toList=cs:=by
 revert hr h hs
 cases x with
 |agg fs=>intro hrep hreg _;rw[hreg];simp[Value.cells]
 |hole n=>intro _ _ h;simp[V.solid]at h
 |tup n=>intro _ _ h;simp[V.solid]at h
 |_=>
  intro hrep hreg _;have hl:=hrep.length
  match cs,hl with
  |[c],_=>
   have:v=c:=hreg;subst this;cases hrep<;>rfl
theorem zdz{cz:TypeId->Nat}:∀(p:List Nat) (x:V) (b0 o0:Nat) (cs:List Value) (O:Nat->Prop) (b o:Nat),Rep cz w F x cs O->qK w b0 o0 cs->x.okp p->locM cz w p x b0 o0=some (b,o)->
 (∃cur e,w.heap[b0]? =some (.cells cur e (0,0)))->∃cur e,w.heap[b]? =some (.cells cur e (0,0))
 |[],x,b0,o0,cs,O,b,o,_,_,_,hl,hb=>by
  simp only[locM,za,zb]at hl;rw[<-hl.1];exact hb
 |i::p,x,b0,o0,cs,O,b,o,h,hc,hok,hl,hb0=>by
  cases h with
  |int=>exact hok.1.elim
  |bool=>exact hok.1.elim
  |str=>exact hok.1.elim
  |hole=>exact hok.1.elim
  |fz0=>have:=hok.1;simp[V.hasKid]at this
  |fz=>have:=hok.1;simp[V.hasKid]at this
  |own0=>have:=hok.1;simp[V.hasKid]at this
  |tup=>exact hok.1.elim
  |fb=>exact hok.1.elim
  |fn=>exact hok.1.elim
  |own e d es b1 len cap cur cs' Os O hb hsz hl' hcap hm hO hOs hdis hcs hr hd9=>
   have hlt:i<es.length:=hok.1.2;have hh:=hc 0 _ rfl;simp only[yk]at hh;simp only[locM]at hl;rw[hh]at hl;exact zdz p (es.getD i d) b1 (i*cz e) (cs' i) (Os i) b o (hr i _ (yH d hlt)) (hcs i hlt).2 hok.2 hl ⟨cur,e,hb⟩
  |agg fs cs Os O hn hOs hdis hr=>
   have hlt:i<fs.length:=hok.1;simp only[locM]at hl;exact zdz p _ b0 _ _ (Os i) b o (hr i _ (yH (.hole 0) hlt)) (hc.part _ _) hok.2 hl hb0
  |box e c b1 cur cs' Oc O hb hcs hO hOs hr=>
   have hcells:qK w b1 0 cs':=by
    intro j v hj;subst hcs;simp at hj;simp[World.cell?,hb,hj]
   have hh:=hc 0 _ rfl;simp only[yk]at hh;simp only[locM]at hl;rw[hh]at hl;exact zdz p c b1 0 cs' Oc b o hr hcells hok.2 hl ⟨cur,e,hb⟩
theorem zyo{cz:TypeId->Nat}{p:List Nat}{x:V}{cs:List Value}{O:Nat->Prop}{v:Value}{b o:Nat}(h:Rep cz w F x cs O)(hv:x.reg cs v)(hok:x.okp p)(hl:locV cz w p x v=some (b,o)):
 ∃cur e,w.heap[b]? =some (.cells cur e (0,0)):=by
 cases p with
 |nil=>simp[locV]at hl
 |cons i p=>
  cases h with
  |int=>exact hok.1.elim
  |bool=>exact hok.1.elim
  |str=>exact hok.1.elim
  |hole=>exact hok.1.elim
  |fz0=>have:=hok.1;simp[V.hasKid]at this
  |fz=>have:=hok.1;simp[V.hasKid]at this
  |own0=>have:=hok.1;simp[V.hasKid]at this
  |tup=>exact hok.1.elim
  |fb=>exact hok.1.elim
  |fn=>exact hok.1.elim
  |agg fs=>simp[locV]at hl
  |own e d es b1 len cap cur cs' Os O hb hsz hl' hcap hm hO hOs hdis hcs hr hd9=>
   have hlt:i<es.length:=hok.1.2;have hv':v=.slice (some ⟨b1,0,none⟩) len cap:=hv;subst hv';exact zdz p (es.getD i d) b1 (i*cz e) (cs' i) (Os i) b o (hr i _ (yH d hlt)) (hcs i hlt).2 hok.2 hl ⟨cur,e,hb⟩
  |box e c b1 cur cs' Oc O hb hcs hO hOs hr=>
   have hcells:qK w b1 0 cs':=by
    intro j v hj;subst hcs;simp at hj;simp[World.cell?,hb,hj]
   have hv':v=.pointer (some ⟨b1,0,none⟩):=hv;subst hv';exact zdz p c b1 0 cs' Oc b o hr hcells hok.2 hl ⟨cur,e,hb⟩
theorem KQ{a:Act}{s:Nat}{v:Value}(h:a.tmps.getD s undef=v)(hs:s<a.tmps.size):a.put (some s) v=a:=by
 unfold Act.put;simp only
 have:a.tmps.setIfInBounds s v=a.tmps:=by
  apply Array.ext_getElem?;intro j;by_cases hj:j=s
  ·subst hj;simp only[zD,qn hs,qv]at h;simp[hs,h]
  ·exact ZC (Ne.symm hj)
 rw[this]
theorem zsc(hI:Inv C F O (fun _=>False) D a w){o:Oper}{x:Operand}{d:Nat}{p:Prop}(hg:o.guard=none)(hop:o.op=.assign x)(hd:o.dst=some d)(h:qQ C D o=some (p,D'))(hp:p){Q:Exit->Act->World->Prop}:
 o.wp C.P a w (G C D') Q:=by
 simp only[qQ,hg,hop,hd]at h;split at h
 ·rename_i gx A hA;split at h
  ·rename_i q y D1 ht;split at h
   ·rename_i hc;simp only[zh,decide_eq_true_eq]at hc;have hdl:d<a.tmps.size:=by rw[hI.ts];exact hc.1.2
    have core:gx=true->q->∃O1,Inv C F O1 (fun _=>False) (D1.put d true (.val y)) (a.put (some d) (a.eval x)) w:=by
     intro hgx hq;obtain⟨cs,On,e1,e2⟩:=ZD hI (zX hI hA hgx).1 ht hq;obtain⟨O1,hI1⟩:=e2.inv;exact⟨_,(hI1.putVal hdl (.inl hc.1.1) (g:=true) (fun _=>⟨e1,e2.rep⟩) (fun b hb=>.inr hb) (by simp)).lessZ (fun _ h=>h.elim)⟩
    have run:(execOp a.eval o).run C.P w=.ok (.value (a.eval x)) w:=(by simp[execOp,hop]);unfold Oper.wp;rw[run,Oper.upon_value,hd];split at h
    ·rename_i s ver;split at h
     ·cases h
     ·rename_i hsd;simp only[za,zb]at h;obtain⟨rfl,rfl⟩:=h;obtain⟨O1,hI1⟩:=core hp.1 hp.2
      have hown:∃r,D.own s ver=some r:=by
       simp only[ju]at ht;split at ht
       ·rename_i r hr;exact⟨r,hr⟩
       ·cases ht
      obtain⟨r,hr⟩:=hown;have hs:s<a.tmps.size:=(hI.slot s (Env.own_elim hr).1).1;have hv:a.eval x=a.tmps.getD s undef:=(zX hI hA hp.1).1 r _ hr (by cases r<;>trivial) rfl
      have hput:=hI1.putRef (d:=s) (g:=true) (x:=.rf d ((D1 d).ver+1) []) (v:=a.eval x) (by simpa [Act.put]using hs) (.inr (by simp only[Act.put];rw[kt hsd,hv])) (by simp) (fun _=>by
       intro r' h' hr' _ hh;simp only[hdrV,za]at hh;rw[<-hh];simp only[Act.put]
       rw[QO hdl]) (by simp) (fun s' ver' hr'=>by
       simp only[A.refs,za,zb]at hr';obtain⟨rfl,rfl⟩:=hr'
       simp[Env.put])
      rw[KQ (by simp only[Act.put];rw[kt hsd,hv]) (by simpa [Act.put]using hs)]at hput;exact⟨F,O1,hput⟩
    ·simp only[za,zb]at h;obtain⟨rfl,rfl⟩:=h;obtain⟨O1,hI1⟩:=core hp.1 hp.2;exact⟨F,O1,hI1⟩
   ·cases h
  ·cases h
 ·cases h
end
end Go.Ax
namespace Go.Ax
open Go.RowKit
theorem V.setKid_self{x:V}{i:Nat}{y:V}(h:x.hasKid i):(x.setKid i y).hasKid i/\(x.setKid i y).kid i=y:=by
 cases x with
 |slc o e d es=>exact⟨⟨h.1,by simpa using h.2⟩,by simp[V.setKid,V.kid,h.2]⟩
 |agg fs=>exact⟨by simpa [V.setKid,V.hasKid]using h,by have h':i<fs.length:=h;simp[V.setKid,V.kid,h']⟩
 |box e c=>exact⟨trivial,rfl⟩
 |_=>exact h.elim
theorem V.upd_self:∀{p:List Nat} {x:V} {y:V},x.okp p->(x.upd p y).okp p/\(x.upd p y).at p=y
 |[],_,_,_=>⟨trivial,rfl⟩
 |i::p,x,y,h=>by
  obtain⟨h1,h2⟩:=V.setKid_self (y:=(x.kid i).upd p y) h.1;obtain⟨h3,h4⟩:=V.upd_self (y:=y) h.2;simp only[V.upd,V.okp,V.at];rw[h2];exact⟨⟨h1,h3⟩,h4⟩
theorem V.setKid_setKid(x:V)(i:Nat)(y z:V):(x.setKid i y).setKid i z=x.setKid i z:=by
 cases x<;>simp[V.setKid]
theorem V.upd_upd:∀{p:List Nat} {x:V} {y z:V},x.okp p->(x.upd p y).upd p z=x.upd p z
 |[],_,_,_,_=>rfl
 |i::p,x,y,z,h=>by
  obtain⟨_,h2⟩:=V.setKid_self (y:=(x.kid i).upd p y) h.1;simp only[V.upd];rw[h2,V.upd_upd h.2,V.setKid_setKid]
theorem V.upd_not_agg{x y:V}{p:List Nat}(hp:p≠[])(h:∀fs,x≠.agg fs):∀fs,x.upd p y≠.agg fs:=by
 intro fs hh
 cases p with
 |nil=>exact hp rfl
 |cons i p=>cases x<;>simp[V.upd,V.setKid]at hh;exact h _ rfl
section
variable {C:Ctx}{F:Nat->Prop}{O:Nat->Nat->Prop}{Z:Nat->Prop}{D D':Env}{a:Act}{w w':World}
theorem zdl{cz:TypeId->Nat}{x:V}{cs:List Value}{O':Nat->Prop}(h:Rep cz w F x cs O')(hs:x.isScalar=true):∃u,cs=[u]/\Jv u=false:=by
 cases h<;>simp_all [V.isScalar,Jv]
theorem zss{x:V}(hs:x.isScalar=true):(∀i,¬x.hasKid i)/\x.isH=false:=by
 cases x<;>simp_all [V.isScalar,V.hasKid,V.isH]
theorem zsi{P:Program}{t:TypeId}{y:V}{b o:Nat}{v:Value}{cs:List Value}{cur:Array Value}{e:TypeId}{O':Nat->Prop}(hf:Zg P t y=true)(hr:Rep P.cellsOf w F y cs O')(hreg:y.reg cs v)(hs:y.solid=true)
 (hb:w.heap[b]? =some (.cells cur e (0,0))) (hfit:o+cs.length<=cur.size) (hne:cs≠[]):
 (storeVar t ⟨b,o,none⟩ v).run P w=.ok () (w.setRow b (cur.toList.take o++cs++cur.toList.drop (o+cs.length)).toArray):=by
 have hcl:=zzn hr hreg hs
 have hsz:P.cellsOf t=cs.length:=by
  unfold Zg at hf;rw[zh]at hf;rw[hr.length];simpa using hf.2
 have hpos:0<cs.length:=by cases cs<;>simp_all
 obtain⟨i,hi,hi2⟩:=QQ hsz (by omega);have hvs:v.cells.size=cs.length:=by rw[<-hcl];simp
 have hst:=run_storeCells_at P b o e cs 0 cur w hb (by simpa using hfit) (hr.oneCell hs);simp only[yk]at hst;unfold storeVar;simp only[Sem.run_bind,Go.sizeOf,typeInfo,run_program,Result.andThen_ok,hi,Sem.run_pure];rw[if_neg (by rw[hvs,hi2];simp),hcl];exact hst
theorem zx0{b o n:Nat}{cur:Array Value}{e:TypeId}{cs:List Value}(hb:w.heap[b]? =some (.cells cur e (0,0)))(hn:cs.length=n)(hfit:o+n<=cur.size):
 Upd w (w.setRow b (cur.toList.take o++cs++cur.toList.drop (o+cs.length)).toArray) b o n/\qK (w.setRow b (cur.toList.take o++cs++cur.toList.drop (o+cs.length)).toArray) b o cs:=by
 have htl:(cur.toList.take o).length=o:=by simp;omega
 have hcell:∀j,(w.setRow b (cur.toList.take o++cs++cur.toList.drop (o+cs.length)).toArray).cell? ⟨b,j,none⟩=(cur.toList.take o++cs++cur.toList.drop (o+cs.length))[j]? :=by
  intro j;rw[cell_setRow_same w b j cur _ e (0,0) hb];simp
 refine⟨⟨fun k hk=>setRow_other w b k _ hk,fun cur' e' fr hc=>?_,fun j hj=>?_⟩,fun j v hj=>?_⟩
 ·rw[hb]at hc;simp only[za,Obj.cells.injEq]at hc;obtain⟨rfl,rfl,rfl⟩:=hc;refine⟨_,setRow_heap w b cur _ e _ hb,?_⟩;simp only[List.size_toArray,zr,zV,yF,jm];omega
 ·rw[hcell,YD,htl];have:w.cell? ⟨b,j,none⟩=cur[j]? :=by simp[World.cell?,hb]
  rw[this];split
  ·rename_i h;rw[zY,if_pos h];simp
  ·rw[if_neg (by omega),zZ];simp only[Array.getElem?_toList];congr 1;omega
 ·rw[hcell,YD,htl];have hjl:=(zq.1 hj).1;rw[if_neg (by omega),if_pos (by omega)];rw[show o+j-o=j from by omega];exact hj
theorem zmJ{D1:Env}{On:Nat->Prop}(hI:Inv C F O Z D1 a w){o':Oper}{t:TypeId}{x v:Operand}(hop:o'.op=.store t x v)(hdst:o'.dst=none){s ver:Nat}{p:List Nat}{r y:V}{b o:Nat}{cs:List Value}
 (hy:Rep C.cz w F y cs On) (hreg:y.reg cs (a.eval v)) (hOn:∀z,On z->Z z) (hr:D1.own s ver=some r) (hm:r.okm p) (hx:a.eval x=.pointer (some ⟨b,o,none⟩)) (hloc:locV C.cz w p r (a.tmps.getD s undef)=some (b,o))
 (hf:Zg C.P t y=true) (hsz:(r.at p).size=y.size) (hs:y.solid=true) (hpos:y.size≠0) (hst:C.st=true->((r.at p).isScalar&&y.isScalar)=true) {Q:Exit->Act->World->Prop}:
 o'.wp C.P a w (fun a' w'=>a'=a/\(∀k,k≠b->w'.heap[k]? =w.heap[k]?)/\G C (if(r.at p).isScalar&&y.isScalar then D1.mod s (r.upd p y)else D1.bmp s (r.upd p y)) a' w') Q:=by
 obtain⟨hp,hna,hok⟩:=V.okm_okp hm;obtain⟨hg,hver,ha⟩:=Env.own_elim hr;obtain⟨b',o1,cy,Oy,g1,g2,g3,g4,g5,g6,g7⟩:=hI.take hg ha hok hp hna;rw[hloc]at g1;simp only[za,zb]at g1;obtain⟨rfl,rfl⟩:=g1;obtain⟨_,h2,_⟩:=hI.slot s hg;obtain⟨cs0,h3,h4⟩:=h2 r ha;obtain⟨cur,e,hb⟩:=zyo h4 h3 hok hloc;have hcyl:cy.length=y.size:=by rw[g3.length,hsz]
 have hcsl:cs.length=y.size:=hy.length
 have hfit:o+y.size<=cur.size:=by
  have h0:0<cy.length:=by omega
  have:=g2 (cy.length-1) cy[cy.length-1] (ze (by omega));simp only[World.cell?,hb,JA,yJ,if_false]at this;have:=(Array.getElem?_eq_some_iff.1 this).1;omega
 have hne:cs≠[]:=by rintro rfl;simp at hcsl;omega
 have hrun:=zsi (P:=C.P) (o:=o) hf hy hreg hs hb (by omega) hne;obtain⟨hU,hcells⟩:=zx0 (w:=w) (o:=o) hb hcsl hfit;generalize hw':w.setRow b (cur.toList.take o++cs++cur.toList.drop (o+cs.length)).toArray=w' at hrun hU hcells;have hwsz:w'.heap.size=w.heap.size:=by rw[<-hw'];simp
 have hos:w'.os=w.os/\w'.tape=w.tape/\Kz w w':=by rw[<-hw'];exact⟨rfl,rfl,rfl,zw _⟩
 have hr0:r.okp p:=hok;obtain⟨k1,k2⟩:=V.upd_self (y:=.hole (r.at p).size) hok;have hmodx:((D1.mod s (r.upd p (.hole (r.at p).size))) s).a=.val (r.upd p (.hole (r.at p).size)):=by simp[Env.mod]
 have hmodg:((D1.mod s (r.upd p (.hole (r.at p).size))) s).g=true:=by simp[Env.mod,hg]
 have hloc':locV C.cz w p (r.upd p (.hole (r.at p).size)) (a.tmps.getD s undef)=some (b,o):=by
  rw[zer C.cz w (y:=.hole (r.at p).size) (fun _ h=>h) rfl rfl hok hp k1];exact hloc
 have hyw':Rep C.cz w' F y cs On:=hy.world (fun k hk=>hU.other k (fun e=>by
  subst e;rcases hk with hk|hk
  ·exact hI.of s _ g4 hk
  ·exact hI.oz s _ g4 (hOn _ hk)))
 have hupd:(r.upd p (.hole (r.at p).size)).upd p y=r.upd p y:=V.upd_upd hok
 have hHs:C.st=true->∀off u,Jv u=true->w.cell? ⟨b,off,none⟩=some u->w'.cell? ⟨b,off,none⟩=some u:=by
  intro hh off u hu hc;have hsc:=hst hh;simp only[zh]at hsc;by_cases hoff:off=o
  ·subst hoff;obtain⟨u',rfl,hu'⟩:=zdl g3 hsc.1;have:=g2 0 u' rfl;simp only[yk]at this;rw[this]at hc;simp only[za]at hc;subst hc;rw[hu']at hu;cases hu
  ·obtain⟨u',hu',_⟩:=zdl hy hsc.2;rw[hu']at hcsl;simp at hcsl;rw[hU.cell off (by omega)];exact hc
 have fin:∀D'',(D''=(D1.mod s (r.upd p (.hole (r.at p).size))).bmp s ((r.upd p (.hole (r.at p).size)).upd p y)\/(D''=(D1.mod s (r.upd p (.hole (r.at p).size))).mod s ((r.upd p (.hole (r.at p).size)).upd p y)/\
  ∀ver,za6 C.cz w w' (D1.mod s (r.upd p (.hole (r.at p).size))) ((D1.mod s (r.upd p (.hole (r.at p).size))).mod s ((r.upd p (.hole (r.at p).size)).upd p y)) a.tmps a.tmps s ver))->G C D'' a w':=by
  intro D'' hD;exact⟨F,_,(g7.putAt hmodg hmodx k1 hp (V.upd_not_agg hp hna) (by rw[k2,hsz]) hloc' hU hwsz hyw' hcells (fun z hz=>.inl (hOn z hz)) hHs hos.1 hos.2.1 hos.2.2 hD).lessZ (fun _ h=>h.elim)⟩
 unfold Oper.wp
 have hexec:(execOp a.eval o').run C.P w=.ok .skip w':=by
  simp only[execOp,hop,Sem.run_bind,hx,Instr.storeAt,Instr.sureAddr,Sem.run_pure,Result.andThen_ok,hrun]
 rw[hexec,Oper.upon_skip,hdst];refine⟨rfl,hU.other,?_⟩;split
 ·rename_i hsc;simp only[zh]at hsc
  have he:D1.mod s (r.upd p y)=(D1.mod s (r.upd p (.hole (r.at p).size))).mod s ((r.upd p (.hole (r.at p).size)).upd p y):=by
   rw[hupd];funext t';simp only[Env.mod];split<;>simp_all
  rw[he];refine fin _ (.inr ⟨rfl,fun ver' x' hx'=>?_⟩);rw[Env.own_mod_eq]at hx';split at hx'
  ·rename_i hv;split at hx'
   case isFalse=>cases hx'
   simp only[za]at hx';subst hx';obtain⟨nk1,nk2⟩:=zss hsc.2
   have hxo:(r.upd p (.hole (r.at p).size)).owned=true:=by
    cases p with
    |nil=>exact absurd rfl hp
    |cons i p=>cases r<;>first|rfl|exact hok.1.elim|exact hok.1.1|exact absurd rfl (hna _)
   have hsz2:y.size=((r.upd p (.hole (r.at p).size)).at p).size:=(by rw[k2];exact hsz.symm);obtain⟨csx,hregx,hrepx⟩:=(g7.slot s hmodg).2.1 _ hmodx
   have hH:∀k off u,((fun t=>if t=s then fun z=>O s z/\¬Oy z else O t) s) k->Jv u=true->w.cell? ⟨k,off,none⟩=some u->w'.cell? ⟨k,off,none⟩=some u:=by
    intro k off u _ hu hc;by_cases hkb:k=b
    ·subst hkb;by_cases hoff:off=o
     ·subst hoff;obtain⟨u',rfl,hu'⟩:=zdl g3 hsc.1;have:=g2 0 u' rfl;simp only[yk]at this;rw[this]at hc;simp only[za]at hc;subst hc;rw[hu']at hu;cases hu
     ·obtain⟨u',hu',_⟩:=zdl hy hsc.2;rw[hu']at hcsl;simp at hcsl;rw[hU.cell off (by omega)];exact hc
    ·rw[World.cell?_of_block (a:=⟨k,off,none⟩) (hU.other k hkb)];exact hc
   refine⟨r.upd p (.hole (r.at p).size),Env.own_iff'.2 ⟨hmodg,hv.2,hmodx,hxo⟩,fun q u hq hu=>?_,fun q r' hq hr'=>?_⟩
   ·obtain⟨e1,e2⟩:=znC C.cz w' nk1 nk2 hsz2 k1 hp hq hu;exact⟨e1,znD hrepx hregx e1 hH e2⟩
   ·rw[zer C.cz w' nk1 nk2 hsz2 k1 hp hq]at hr';have e1:=zl8 nk1 nk2 hsz2 k1 hq;exact⟨e1,by rw[zgC hrepx hregx e1 hH]at hr';exact hr'⟩
  ·cases hx'
 ·have he:D1.bmp s (r.upd p y)=(D1.mod s (r.upd p (.hole (r.at p).size))).bmp s ((r.upd p (.hole (r.at p).size)).upd p y):=by
   rw[hupd];funext t';simp only[Env.mod,Env.bmp];split<;>simp_all
  rw[he];exact fin _ (.inl rfl)
theorem zoa{D1:Env}{On:Nat->Prop}(hI:Inv C F O Z D1 a w){o':Oper}{t:TypeId}{x v:Operand}(hop:o'.op=.store t x v)(hdst:o'.dst=none){s ver:Nat}{p:List Nat}{r y:V}{b o:Nat}{cs:List Value}
 (hy:Rep C.cz w F y cs On) (hreg:y.reg cs (a.eval v)) (hOn:∀z,On z->Z z) (hr:D1.own s ver=some r) (hm:r.okm p) (hx:a.eval x=.pointer (some ⟨b,o,none⟩)) (hloc:locV C.cz w p r (a.tmps.getD s undef)=some (b,o))
 (hf:Zg C.P t y=true) (hsz:(r.at p).size=y.size) (hs:y.solid=true) (hpos:y.size≠0) (hst:C.st=true->((r.at p).isScalar&&y.isScalar)=true) {Q:Exit->Act->World->Prop}:
 o'.wp C.P a w (G C (if(r.at p).isScalar&&y.isScalar then D1.mod s (r.upd p y)else D1.bmp s (r.upd p y))) Q:=
 Oper.wp_mono (fun _ _ h=>h.2.2) (zmJ hI hop hdst hy hreg hOn hr hm hx hloc hf hsz hs hpos hst)
theorem zvl(hI:Inv C F O (fun _=>False) D a w){o:Oper}{t:TypeId}{x v:Operand}{p:Prop}(hg:o.guard=none)(hop:o.op=.store t x v)(hd:o.dst=none)(h:qQ C D o=some (p,D'))(hp:p){Q:Exit->Act->World->Prop}:
 o.wp C.P a w (G C D') Q:=by
 simp only[qQ,hg,hop,hd]at h;split at h
 ·rename_i gv Av hAv;split at h
  ·rename_i q y D1 ht;split at h
   ·rename_i gx s ver pth hx;split at h
    ·rename_i r hr;split at h
     ·rename_i hc;simp only[zh,beq_iff_eq]at hc;simp only[za,zb]at h;obtain⟨rfl,rfl⟩:=h;obtain⟨p1,p2,p3,p4,pst⟩:=hp;obtain⟨cs,On,e1,e2⟩:=ZD hI (zX hI hAv p1).1 ht p2;obtain⟨O1,hI1⟩:=e2.inv;obtain⟨b,o',cy,Oy,g1,g2,g3,g4,g5,g6⟩:=zkq hI1 (zX hI1 hx p3).1 hr p4;exact zoa hI1 hop hd e2.rep e1 (fun z hz=>.inr hz) hr p4 g2 g1 hc.1.1.1 hc.1.1.2 hc.1.2 (by have:=hc.2;simp at this;omega) pst
     ·cases h
    ·cases h
   ·rename_i gx s ver pth hx;split at h
    ·rename_i r hr;split at h
     ·rename_i e c hat
      split at h
      ·rename_i hc;simp only[zh,beq_iff_eq]at hc;simp only[za,zb]at h;obtain⟨rfl,rfl⟩:=h;obtain⟨p1,p2,p3,p4,p5,pst⟩:=hp;obtain⟨cs,On,e1,e2⟩:=ZD hI (zX hI hAv p1).1 ht p2;obtain⟨O1,hI1⟩:=e2.inv
       obtain⟨b,cc,Oc,g1,g2,g3,g4⟩:=zlF hI1 (zX hI1 hx p3).1 hr p4 hat
       have hac:r.at (pth++[0])=c:=(by rw[V.at_append,hat];rfl);have:=zoa (Q:=Q) hI1 hop hd e2.rep e1 (fun z hz=>.inr hz) hr p5 g1 (g4 (Kr (V.okm_okp p5).2.2 (by simp))) hc.1.1.1 (by rw[hac];exact hc.1.1.2) hc.1.2 (by have:=hc.2;simp at this;omega) (by rw[hac];exact pst);rw[hac]at this;exact this
      ·cases h
     ·cases h
    ·cases h
   ·cases h
  ·cases h
 ·cases h
end
theorem ztI(s:Nat)(cs:Nat->List Value):∀(m:Nat),(∀k,k<m->(cs k).length=s)->((List.range m).flatMap cs).length=m*s/\∀k,k<m->(((List.range m).flatMap cs).drop (k*s)).take s=cs k
 |0,_=>⟨by simp,fun k hk=>by omega⟩
 |m+1,h=>by
  obtain⟨h1,h2⟩:=ztI s cs m (fun k hk=>h k (by omega));rw[List.range_succ,List.flatMap_append];simp only[List.flatMap_cons,List.flatMap_nil,List.append_nil];refine⟨by rw[zr,h1,h m (by omega),jj];omega,fun k hk=>?_⟩;by_cases hkm:k<m
  ·have:(k+1)*s<=m*s:=qb _ hkm;rw[jj]at this;rw[uC (by rw[h1];omega),jT (by rw[yF,h1];omega)];exact h2 k hkm
  ·have:k=m:=(by omega);subst this;rw[<-h1,List.drop_left,zB (by rw[h k (by omega)];exact zw _)]
section
variable {C:Ctx}{F:Nat->Prop}{O:Nat->Nat->Prop}{Z:Nat->Prop}{D D':Env}{a:Act}{w w':World}{cz:TypeId->Nat}
theorem zC5{e:TypeId}{d:V}{es:List V}{v:Value}{On:Nat->Prop}(h:Rep cz w F (.slc true e d es) [v] On):
 ∃(xs:List Value) (Os:Nat->Nat->Prop),w.ownsRow 0 e (cz e) v es.length xs/\(∀k b,Os k b->On b/\v.ownBlock≠some b)/\(∀j k b,j≠k->Os j b->¬Os k b)/\(∀b,v.ownBlock=some b->On b)/\
  ∀(k:Nat) (x:V),es[k]? =some x->Rep cz w F x ((xs.drop (k*cz e)).take (cz e)) (Os k):=by
 cases h with
 |own0=>exact⟨[],fun _ _=>False,World.ownsRow_nil w 0 e (cz e),fun _ _ h=>h.elim,fun _ _ _ _ h=>h.elim,fun b h=>by simp[Value.ownBlock]at h,fun k x hx=>by simp at hx⟩
 |own e d es b len cap cur cs Os O' hb hsz hl hcap hm hO hOs hdis hcs hr hd9=>
  subst hl;have hle:es.length*cz e<=cur.size:=by rw[hsz];exact qb _ hcap
  refine⟨cur.toList.take (es.length*cz e),Os,⟨by simp only[zV,jm];omega,.inr ⟨b,cap,cur,rfl,Nat.zero_le _,hb,hcap,hm,hsz,rfl⟩⟩,fun k x hx=>⟨(hOs k x hx).1,fun e=>(hOs k x hx).2 (by simpa [Value.ownBlock]using e.symm)⟩,hdis,fun x hx=>by simp[Value.ownBlock]at hx;subst hx;exact hO,fun k x hx=>?_⟩;have hk:k<es.length:=(zq.1 hx).1;have hkk:(k+1)*cz e<=es.length*cz e:=qb _ hk;rw[jj]at hkk
  have:((cur.toList.take (es.length*cz e)).drop (k*cz e)).take (cz e)=cs k:=by
   apply yB;intro j;obtain⟨g1,g2⟩:=hcs k hk;rw[zY];split
   ·rename_i hj;rw[zZ,zY,if_pos (by omega)];have hcj:(cs k)[j]? =some (cs k)[j]:=ze (by omega);have:=g2 j _ hcj;simp only[World.cell?,hb,JA,yJ,if_false]at this;rw[hcj,<-this];simp
   ·rename_i hj;rw[zy (by omega)]
  rw[this];exact hr k x hx
theorem zFZ{e:TypeId}{d:V}{es:List V}{v:Value}{On:Nat->Prop}{xs:List Value}{Os:Nat->Nat->Prop}(h:w.ownsRow 0 e (cz e) v es.length xs)(hOs:∀k b,Os k b->On b/\v.ownBlock≠some b)(hdis:∀j k b,j≠k->Os j b->¬Os k b)
 (hO:∀b,v.ownBlock=some b->On b) (hr:∀(k:Nat) (x:V),es[k]? =some x->Rep cz w F x ((xs.drop (k*cz e)).take (cz e)) (Os k)) (hd:d.isBox=true->es=[]->v=.slice none 0 0):Rep cz w F (.slc true e d es) [v] On:=by
 obtain⟨hl,hn|⟨g,cap,cur,rfl,_,hg,hcap,hm,hsz,htk⟩⟩:=h
 ·obtain⟨rfl,hn⟩:=hn;have:es=[]:=yS hn;subst this;exact .own0 ..
 ·refine .own e d es g _ cap cur (fun k=>(xs.drop (k*cz e)).take (cz e)) Os On hg hsz rfl hcap hm (hO g rfl) (fun k b hb=>⟨(hOs k b hb).1,fun e=>(hOs k b hb).2 (by rw[e];rfl)⟩) hdis (fun k hk=>⟨?_,?_⟩) hr (fun h e=>by cases hd h e)
  ·have:(k+1)*cz e<=es.length*cz e:=qb _ hk;rw[jj]at this;simp only[zV,yF,hl];omega
  ·intro j u hj;rw[zY]at hj;split at hj
   ·rw[zZ,<-htk,zY]at hj;split at hj
    ·simp only[World.cell?,hg,JA,yJ,if_false];simpa using hj
    ·cases hj
   ·cases hj
structure Src (cz:TypeId->Nat) (w:World) (F:Nat->Prop) (e:TypeId) (es:List V) (v:Value) (news:List Value) (Os:Nat->Nat->Prop):Prop where
 len:news.length=es.length*cz e
 lies:(∃ad c,v=.slice (some ad) es.length c/\∀j u,news[j]? =some u->w.cell? (ad.add j)=some u)\/(∃c,v=.slice none 0 c/\es=[])
 rep:∀(k:Nat) (x:V),es[k]? =some x->Rep cz w F x ((news.drop (k*cz e)).take (cz e)) (Os k)
theorem zC0{o:Bool}{e:TypeId}{d:V}{es:List V}{v:Value}{On:Nat->Prop}(h:Rep cz w F (.slc o e d es) [v] On):∃(news:List Value) (Os:Nat->Nat->Prop),Src cz w F e es v news Os/\(∀k b,Os k b->On b)/\(∀j k b,j≠k->Os j b->¬Os k b):=by
 cases o with
 |true=>
  obtain⟨xs,Os,h1,h2,h3,h4,h5⟩:=zC5 h;refine⟨xs,Os,⟨h1.1,?_,h5⟩,fun k b hb=>(h2 k b hb).1,h3⟩;rcases h1.2 with⟨rfl,hn⟩|⟨g,cap,cur,hv,_⟩
  ·exact .inr ⟨0,rfl,yS hn⟩
  ·exact .inl ⟨⟨g,0,none⟩,cap,hv,h1.cells (by rw[hv];rfl)⟩
 |false=>
  cases h with
  |fz0 e d ad cap=>
   refine⟨[],fun _ _=>False,⟨by simp,?_,fun k x hx=>by simp at hx⟩,fun _ _ h=>h.elim,fun _ _ _ _ h=>h.elim⟩
   cases ad with
   |none=>exact .inr ⟨cap,rfl,rfl⟩
   |some ad=>exact .inl ⟨ad,cap,rfl,fun j u hj=>by simp at hj⟩
  |fz e d es b off len cap cs O' hl hcap hm hF hcs hr=>
   subst hl;obtain⟨g1,g2⟩:=ztI (cz e) cs es.length (fun k hk=>(hcs k hk).1);refine⟨(List.range es.length).flatMap cs,fun _ _=>False,⟨g1,.inl ⟨⟨b,off,none⟩,cap,rfl,fun j u hj=>?_⟩,fun k x hx=>?_⟩,fun _ _ h=>h.elim,fun _ _ _ _ h=>h.elim⟩
   ·have hjl:=(zq.1 hj).1;rw[g1]at hjl
    have hpos:0<cz e:=by
     rcases Nat.eq_zero_or_pos (cz e)with h0|h0
     ·rw[h0]at hjl;simp at hjl
     ·exact h0
    have hk:j/cz e<es.length:=(Nat.div_lt_iff_lt_mul hpos).2 hjl;have hseg:=g2 (j/cz e) hk
    have hjj:(cs (j/cz e))[j%cz e]? =some u:=by
     rw[<-hseg,zY,if_pos (Nat.mod_lt _ hpos),zZ];rw[show j/cz e*cz e+j%cz e=j from by rw[um];exact uX j (cz e)];exact hj
    have:=(hcs _ hk).2 _ _ hjj;rw[Addr.add_lit];rw[show off+j/cz e*cz e+j%cz e=off+j from by rw[Nat.add_assoc,um (j/cz e)];rw[uX]]at this;exact this
   ·rw[g2 k (zq.1 hx).1];exact hr k x hx
theorem Src.one{e:TypeId}{es:List V}{v:Value}{news:List Value}{Os:Nat->Nat->Prop}(h:Src cz w F e es v news Os)(hs:∀x∈es,x.solid=true)(hpos:0<cz e):∀u∈news,u.oneCell'=true:=by
 intro u hu;obtain⟨j,hj⟩:=YR.1 hu;have hjl:=(zq.1 hj).1;rw[h.len]at hjl;have hk:j/cz e<es.length:=(Nat.div_lt_iff_lt_mul hpos).2 hjl;have hx:=ze hk;refine(h.rep _ _ hx).oneCell (hs _ (List.getElem_mem hk)) u ?_;refine YR.2 ⟨j%cz e,?_⟩;rw[zY,if_pos (Nat.mod_lt _ hpos),zZ];rw[show j/cz e*cz e+j%cz e=j from by rw[um];exact uX j (cz e)];exact hj
theorem zop{P:Program}{t ty e:TypeId}{i:TypeInfo}(ht:P.underlying t=some (.slice e))(hi:P.info? e=some i){v:Value}{n base size:Nat}{xs:List Value}(hown:w.ownsRow base e size v n xs)(c:Nat):
 (Builtin.append_ #[t,t] ty #[v,.slice none 0 c]).run P w=.ok v w:=by
 rcases hown.2 with⟨rfl,rfl⟩|⟨g,cap,cur,rfl,_,_,hnc,_⟩
 ·simp[Builtin.append_,run_underlying ht,Go.sizeOf,typeInfo,hi,Builtin.lenOf,Builtin.firstCells]
 ·simp[Builtin.append_,run_underlying ht,Go.sizeOf,typeInfo,hi,Builtin.lenOf,Builtin.firstCells,hnc,storeCells]
theorem zvM{P:Program}{t ty e:TypeId}{d:V}{es es2:List V}{v v2:Value}{On:Nat->Prop}{news:List Value}{Os2:Nat->Nat->Prop}(ht:ul P t=some e){z:V}(hz:zag P e=some z)(hpos:0<P.cellsOf e)(hby:P.bytesOf e<=65536)
 (h:Rep P.cellsOf w F (.slc true e d es) [v] On) (hs:Src P.cellsOf w F e es2 v2 news Os2) (hsol:∀x∈es2,x.solid=true) (hlen:es.length+es2.length<=2147483647)
 (hd2:∀j k b,j≠k->Os2 j b->¬Os2 k b) (hdis:∀k b,Os2 k b->¬On b) (hlt:∀b,(F b\/On b\/∃k,Os2 k b)->b<w.heap.size) (hFO:∀b,On b->¬F b):
 ∃v' w',(Builtin.append_ #[t,t] ty #[v,v2]).run P w=.ok v' w'/\Rep P.cellsOf w' F (.slc true e d (es++es2)) [v'] (fun b=>On b\/(∃k,Os2 k b)\/(w.heap.size<=b/\b<w'.heap.size))/\
  w.heap.size<=w'.heap.size/\(∀k,k<w.heap.size->¬On k->w'.heap[k]? =w.heap[k]?)/\w'.os=w.os/\w'.tape=w.tape/\Kz w w':=by
 obtain⟨xs,Os,r1,r2,r3,r4,r5⟩:=zC5 h;obtain⟨i,zv,hi,hzz,hzl,_⟩:=KI (cz:=P.cellsOf) hz;have hcz:P.cellsOf e=i.size:=by simp[Program.cellsOf,hi]
 have hu:=Zo ht
 have elems:∀(w':World) (v':Value),(∀k,k<w.heap.size->some k≠v.ownBlock->w'.heap[k]? =w.heap[k]?)->∀(k:Nat) (x:V),(es++es2)[k]? =some x->
  Rep P.cellsOf w' F x ((((xs++news).drop (k*P.cellsOf e)).take (P.cellsOf e))) (if k<es.length then Os k else Os2 (k-es.length)):=by
  intro w' v' hw k x hx;have hxl:xs.length=es.length*P.cellsOf e:=r1.1;rw[Qq]at hx;split at hx
  ·rename_i hk;rw[if_pos hk];have:(k+1)*P.cellsOf e<=es.length*P.cellsOf e:=qb _ hk;rw[jj]at this;rw[uC (by omega),jT (by rw[yF];omega)];refine(r5 k x hx).world (fun b hb=>hw b ?_ ?_)
   ·exact hlt b (hb.imp id (fun hb=>.inl (r2 k b hb).1))
   ·rcases hb with hb|hb
    ·intro e;exact hFO b (r4 b e.symm) hb
    ·exact fun e=>(r2 k b hb).2 e.symm
  ·rename_i hk;rw[if_neg hk];have hkk:k*P.cellsOf e=es.length*P.cellsOf e+(k-es.length)*P.cellsOf e:=(by rw[<-jj];congr 1;omega);rw[hkk,<-hxl,<-Zu,List.drop_left];refine(hs.rep (k-es.length) x hx).world (fun b hb=>hw b ?_ ?_)
   ·exact hlt b (hb.imp id (fun hb=>.inr ⟨_,hb⟩))
   ·rcases hb with hb|hb
    ·intro e;exact hFO b (r4 b e.symm) hb
    ·intro e;exact hdis _ b hb (r4 b e.symm)
 have disj:∀j k b,j≠k->(if j<es.length then Os j else Os2 (j-es.length)) b->¬(if k<es.length then Os k else Os2 (k-es.length)) b:=by
  intro j k b hjk hb;split at hb
  ·split
   ·exact r3 j k b hjk hb
   ·exact fun hb'=>hdis _ b hb' (r2 j b hb).1
  ·split
   ·exact fun hb'=>hdis _ b hb (r2 k b hb').1
   ·exact hd2 _ _ b (by omega) hb
 rcases hs.lies with⟨ad,c,rfl,hcell⟩|⟨c,rfl,rfl⟩
 ·have hby':(es.length+es2.length)*i.bytes<=140737488355328:=by
   have h1:i.bytes<=65536:=by simpa [Program.bytesOf,hi]using hby
   have:(es.length+es2.length)*i.bytes<=2147483647*65536:=Nat.mul_le_mul hlen h1;omega
  obtain⟨v',w',e1,e2,e3,_⟩:=run_append_own (P:=P) w 0 t ty e i zv i.size i.bytes hu hi hzz rfl rfl (by simpa using hzl) (by omega) v es.length xs (by rw[<-hcz];exact r1) ad es2.length c news (by rw[hs.len,hcz]) hcell
   (hs.one hsol hpos) (by simp[maxLen];omega) hby' (Nat.zero_le _)
  rw[<-hcz]at e2
  have hdr:w.drawn<=w'.drawn:=by
   have hnl:news.length=es2.length*i.size:=(by rw[hs.len,hcz]);rcases r1.2 with⟨hvn,hn0⟩|⟨g,cap,cur,hvg,_,hg,hcap,hmx,hsz,htk⟩
   ·by_cases hm0:es2.length=0
    ·have hr:(Builtin.append_ #[t,t] ty #[v,.slice (some ad) es2.length c]).run P w=.ok (.slice none 0 0) w:=by
      rw[hvn,hm0];simp[Builtin.append_,run_underlying hu,Go.sizeOf,typeInfo,hi,Builtin.lenOf,Builtin.firstCells,loadCells,loadCellsFrom]
     rw[e1]at hr;simp only[Result.ok.injEq]at hr;rw[hr.2];exact zw _
    ·have hr:=run_append_nil (P:=P) w t ty e i zv hu hi hzz ad es2.length c news hnl hcell (by omega) (by omega) (by rw[hn0,jB]at hby';omega);rw[<-hvn,e1]at hr;simp only[Result.ok.injEq]at hr;rw[hr.2];simp
   ·by_cases hroom:es.length+es2.length<=cap
    ·have hfit:es.length*i.size+news.length<=cur.size:=by
      rw[hnl,hsz,<-jj,hcz];exact qb _ hroom
     have hr:=run_append_room (P:=P) w t ty e i hu hi g es.length cap cur hg ad es2.length c news hnl hcell (hs.one hsol hpos) hroom hfit;rw[<-hvg,e1]at hr;simp only[Result.ok.injEq]at hr;rw[hr.2];simp
    ·have holds:∀j u,xs[j]? =some u->w.cell? ((⟨g,0,none⟩:Addr).add j)=some u:=r1.cells (g:=g) (by rw[hvg];rfl);have hr:=run_append_grow (P:=P) w t ty e i zv hu hi hzz ⟨g,0,none⟩ es.length cap xs (by rw[r1.1,hcz]) holds ad es2.length c news hnl hcell (by omega) (by omega) (growslice_fits (by omega) hby');rw[<-hvg,e1]at hr;simp only[Result.ok.injEq]at hr;rw[hr.2];simp
  have hnil:d.isBox=true->es++es2=[]->v'=.slice none 0 0:=by
   intro hb he;obtain⟨rfl,rfl⟩:=List.append_eq_nil_iff.1 he
   have hv:v=.slice none 0 0:=by
    cases h with
    |own0=>rfl
    |own _ _ _ _ _ _ _ _ _ _ _ _ _ _ _ _ _ _ _ _ hd9=>exact absurd rfl (hd9 hb)
   have hr:(Builtin.append_ #[t,t] ty #[v,.slice (some ad) ([]:List V).length c]).run P w=.ok (.slice none 0 0) w:=by
    rw[hv];simp[Builtin.append_,run_underlying hu,Go.sizeOf,typeInfo,hi,Builtin.lenOf,Builtin.firstCells,loadCells,loadCellsFrom]
   rw[e1]at hr;simp only[Result.ok.injEq]at hr;exact hr.1
  have hnb:∀b,v'.ownBlock=some b->(v.ownBlock=some b\/(w.heap.size<=b/\b<w'.heap.size)):=by
   intro b hb;have hb2:=e2.lt b hb;have hnl:news.length=es2.length*i.size:=(by rw[hs.len,hcz]);rcases r1.2 with⟨hvn,hn0⟩|⟨g,cap,cur,hvg,_,hg,hcap,hmx,hsz,htk⟩
   ·have hx0:xs=[]:=yS (by rw[r1.1,hn0];simp)
    obtain⟨v'',w'',f1,f2,_⟩:=run_append_own (P:=P) w w.heap.size t ty e i zv i.size i.bytes hu hi hzz rfl rfl (by simpa using hzl) (by omega) v es.length xs (by rw[hvn,hn0,hx0];exact World.ownsRow_nil w _ e i.size) ad es2.length c news hnl hcell
     (hs.one hsol hpos) (by simp[maxLen];omega) hby' (zw _)
    rw[e1]at f1;simp only[Result.ok.injEq]at f1;obtain⟨rfl,rfl⟩:=f1;exact .inr ⟨(f2.lt b hb).1,hb2.2⟩
   ·by_cases hroom:es.length+es2.length<=cap
    ·left
     have hfit:es.length*i.size+news.length<=cur.size:=by
      rw[hnl,hsz,<-jj,hcz];exact qb _ hroom
     have hr:=run_append_room (P:=P) w t ty e i hu hi g es.length cap cur hg ad es2.length c news hnl hcell (hs.one hsol hpos) hroom hfit;rw[<-hvg,e1]at hr;simp only[Result.ok.injEq]at hr;rw[hr.1]at hb;rw[hvg];exact hb
    ·right;have holds:∀j u,xs[j]? =some u->w.cell? ((⟨g,0,none⟩:Addr).add j)=some u:=r1.cells (g:=g) (by rw[hvg];rfl);have hr:=run_append_grow (P:=P) w t ty e i zv hu hi hzz ⟨g,0,none⟩ es.length cap xs (by rw[r1.1,hcz]) holds ad es2.length c news hnl hcell (by omega) (by omega) (growslice_fits (by omega) hby');rw[<-hvg,e1]at hr;simp only[Result.ok.injEq]at hr;rw[hr.1]at hb;simp only[Value.ownBlock,za]at hb;exact⟨by omega,hb2.2⟩
  refine⟨v',w',e1,zFZ (Os:=fun k=>if k<es.length then Os k else Os2 (k-es.length)) (by rw[zr];exact e2) (fun k b hb=>?_) disj (fun b hb=>(hnb b hb).elim (fun h=>.inl (r4 b h)) (fun h=>.inr (.inr h))) (elems w' v' e3.block) (fun hb he=>hnil hb he),e3.size,fun k hk hn=>e3.block k hk (fun e=>hn (r4 k e.symm)),e3.os,e3.tape,⟨e3.output,zz9 hdr⟩⟩
  have hbw:b<w.heap.size:=by
   split at hb
   ·exact hlt b (.inr (.inl (r2 k b hb).1))
   ·exact hlt b (.inr (.inr ⟨_,hb⟩))
  refine⟨?_,fun e=>?_⟩
  ·split at hb
   ·exact .inl (r2 k b hb).1
   ·exact .inr (.inl ⟨_,hb⟩)
  rcases hnb b e with h'|⟨h',_⟩
  ·split at hb
   ·exact(r2 k b hb).2 h'
   ·exact hdis _ b hb (r4 b h')
  ·omega
 ·refine⟨v,w,zop hu hi r1 c,?_,zw _,fun _ _ _=>rfl,rfl,rfl,Kz.refl _⟩;rw[List.append_nil];exact h.mono (fun _ h=>h) (fun _ h=>.inl h)
theorem zkM(hI:Inv C F O (fun _=>False) D a w){o:Oper}{args:Array Operand}{ats:Array TypeId}{dd:Nat}{p:Prop}(hg:o.guard=none)(hop:o.op=.call ⟨.builtin .append,args,ats⟩)(hd:o.dst=some dd)(h:qQ C D o=some (p,D'))(hp:p)
 {Q:Exit->Act->World->Prop}:o.wp C.P a w (G C D') Q:=by
 simp only[qQ,hg,hop,hd]at h;split at h
 ·rename_i x y t t' hargs hats;split at h
  ·rename_i htt;subst htt;have hargs':args= #[x,y]:=(by cases args;simp_all);have hats':ats= #[t,t]:=(by cases ats;simp_all);subst hargs';subst hats';split at h
   ·rename_i e gx Ax he hAx;split at h
    ·rename_i q e' d es D1 ht;split at h
     ·rename_i gy Ay hAy;split at h
      ·rename_i z oy ey d2 es2 hz hlk;split at h
       ·rename_i hc;simp only[zh,beq_iff_eq,decide_eq_true_eq,yK]at hc;obtain⟨⟨⟨⟨⟨hdn,rfl⟩,rfl⟩,hna⟩,hby⟩,hcz⟩:=hc;have hdl:dd<a.tmps.size:=by rw[hI.ts];exact hdn.2
        have first:gx=true->q->∃v1 On O1,a.eval x=v1/\Rep C.cz w F (.slc true e d es) [v1] On/\Inv C F O1 (fun b=>False\/On b) D1 a w:=by
         intro hgx hq;obtain⟨cs,On,e1,e2⟩:=ZD hI (zX hI hAx hgx).1 ht hq;obtain⟨O1,hI1⟩:=e2.inv;have hl:=e2.rep.length
         match cs,hl with
         |[u],_=>exact⟨u,On,O1,e1,e2.rep,hI1⟩
        have fin:∀{es3:List V} {D2:Env} {v1 v2:Value} {On:Nat->Prop} {O2:Nat->Nat->Prop} {U:Nat->Prop} {news:List Value} {Os2:Nat->Nat->Prop},a.eval x=v1->a.eval y=v2->Rep C.cz w F (.slc true e d es) [v1] On->
         Inv C F O2 (fun b=>On b\/U b) D2 a w->Src C.cz w F e es3 v2 news Os2->(∀k b,Os2 k b->U b)->(∀j k b,j≠k->Os2 j b->¬Os2 k b)->(∀b,U b->¬On b)->(∀x∈es3,x.solid=true)->es.length+es3.length<=2147483647->C.st=false->
         o.wp C.P a w (G C (D2.put dd true (.val (.slc true e d (es++es3))))) Q:=by
         intro es3 D2 v1 v2 On O2 U news Os2 hv1 hv2 hrep hI2 hsrc hU hdj hUO hsol hlen hst
         obtain⟨v',w',r1,r2,r3,r4,r5,r6,r7⟩:=zvM (P:=C.P) (t:=t) (ty:=o.type) he hz hcz hby hrep hsrc hsol hlen hdj (fun k b hb=>hUO b (hU k b hb)) (fun b hb=>by
          rcases hb with hb|hb|⟨k,hb⟩
          ·exact hI2.flt b hb
          ·exact hI2.zlt b (.inl hb)
          ·exact hI2.zlt b (.inr (hU k b hb))) (fun b hb=>hI2.zf b (.inl hb))
         have hexec:(execOp a.eval o).run C.P w=.ok (.value v') w':=by
          simp only[execOp,hop,resolve,invoke,builtin,Sem.run_bind,Sem.run_pure,Result.andThen_ok];have:(#[x,y].map a.eval)= #[v1,v2]:=(by simp[hv1,hv2]);rw[this,r1];rfl
         unfold Oper.wp;rw[hexec,Oper.upon_value,hd];have hw:=hI2.worldZ (Z':=fun b=>(On b\/U b)\/(w.heap.size<=b/\b<w'.heap.size)) r3 (fun k hk hn=>r4 k hk (fun h=>hn (.inl h))) (fun b hb=>hb) (fun hh=>by rw[hst]at hh;cases hh) r5 r6 r7
         exact⟨F,_,(hw.putVal hdl (.inl hdn.1) (g:=true) (x:=.slc true e d (es++es3)) (v:=v') (cs:=[v']) (fun _=>⟨rfl,r2⟩) (fun b hb=>by
          rcases hb with hb|⟨k,hb⟩|hb
          ·exact .inl (.inl hb)
          ·exact .inl (.inr (hU k b hb))
          ·exact .inr hb) (by simp)).lessZ (fun _ h=>h.elim)⟩
        split at h
        ·
          split at h
          ·rename_i q2 e3 d3 es3 D2 ht2;simp only[za,zb]at h;obtain⟨rfl,rfl⟩:=h;obtain⟨p1,p2,p3,p4,p5,p6,pst⟩:=hp;obtain⟨v1,On,O1,hv1,hrep,hI1⟩:=first p1 p2
           obtain⟨cs2,Om,f1,f2⟩:=ZD hI1 (zX hI1 hAy p3).1 ht2 p4;obtain⟨O2,hI2⟩:=f2.inv
           have he3:e3=e:=by
            cases Ay with
            |val z'=>simp only[A.look,za]at hlk;subst hlk;simp only[ju,za,zb,V.slc.injEq]at ht2;exact ht2.2.1.2.1.symm
            |rf s ver pp=>
             simp only[A.look,zP]at hlk;obtain⟨r,hr,hrat⟩:=hlk;simp only[ju,hr]at ht2
             cases pp with
             |nil=>simp only[za,zb]at ht2;rw[V.at]at hrat;rw[hrat]at ht2;simp only[V.slc.injEq]at ht2;exact ht2.2.1.2.1.symm
             |cons i pp=>
              cases r with
              |tup fs=>
               cases pp with
               |nil=>
                simp only[za,zb]at ht2
                have:fs.getD i (.hole 0)=.slc oy e d2 es2:=hrat
                rw[this]at ht2;simp only[V.slc.injEq]at ht2;exact ht2.2.1.2.1.symm
               |cons j pp=>simp at ht2
              |_=>simp only[za,zb]at ht2;rw[hrat]at ht2;simp only[V.slc.injEq]at ht2;exact ht2.2.1.2.1.symm
            |ag=>simp[A.isAg]at hna
            |ad=>simp[A.look]at hlk
            |fz=>simp[A.look]at hlk
           subst he3;have hl:=f2.rep.length
           match cs2,hl with
           |[u],_=>
            obtain⟨news,Os2,s1,s2,s3⟩:=zC0 f2.rep;have hu:a.eval y=u:=f1;exact fin hv1 hu hrep (hI2.lessZ (fun b hb=>hb.elim (fun hb=>.inl (.inr hb)) .inr)) s1 s2 s3 (fun b hb hb'=>f2.new b hb (.inr hb')) p6 p5 pst
          ·cases h
        ·
          simp only[za,zb]at h;obtain⟨rfl,rfl⟩:=h;obtain⟨p1,p2,p3,p4,p5,p6,hno,pst⟩:=hp;obtain⟨v1,On,O1,hv1,hrep,hI1⟩:=first p1 p2
          have hop2:=(zX hI1 hAy p3).1
          have src:∃u Oy,a.eval y=u/\Rep C.cz w F (.slc oy e d2 es2) [u] Oy:=by
           cases Ay with
           |val z'=>
            simp only[A.look,za]at hlk;subst hlk;obtain⟨cs,e1,e2⟩:=hop2;have hl:=e2.length
            match cs,hl with
            |[u],_=>exact⟨u,_,e1,e2⟩
           |rf s ver pp=>
            simp only[A.look,zP]at hlk;obtain⟨r,hr,hrat⟩:=hlk;simp only[A.okA,hr]at p4;obtain⟨cs,Oy,e1,e2,_⟩:=KO hI1 hop2 hr p4;rw[hrat]at e1 e2;have hl:=e2.length
            match cs,hl with
            |[u],_=>exact⟨u,Oy,e1,e2⟩
           |ag=>simp[A.isAg]at hna
           |ad=>simp[A.look]at hlk
           |fz=>simp[A.look]at hlk
          obtain⟨u,Oy,hu,hrep2⟩:=src;obtain⟨news,Os2,s1,s2,s3⟩:=zC0 hrep2
          have hun:∀x∈es2,x.owned=false:=by
           simpa [V.owneds_eq]using hno
          have s1':Src C.cz w F e es2 u news (fun _ _=>False):=⟨s1.len,s1.lies,fun k x hx=>(s1.rep k x hx).unowned (hun x (yo hx))⟩;exact fin hv1 hu hrep (U:=fun _=>False) (hI1.lessZ (fun b hb=>hb.elim .inr False.elim)) s1' (fun _ _ h=>h) (fun _ _ _ _ h=>h.elim) (fun _ h=>h.elim) p6 p5 pst
       ·cases h
      ·cases h
     ·cases h
    ·cases h
   ·cases h
  ·cases h
 ·cases h
end
inductive Sh:V->V->Prop
 |refl (x:V):Sh x x
 |scal (x y:V) (hx:x.isScalar=true) (hy:y.isScalar=true):Sh x y
 |slc (o:Bool) (e:TypeId) (d:V) (es es':List V) (hl:es.length=es'.length) (h:∀(i:Nat) (x y:V),es[i]? =some x->es'[i]? =some y->Sh x y):Sh (.slc o e d es) (.slc o e d es')
 |agg (es es':List V) (hl:es.length=es'.length) (h:∀(i:Nat) (x y:V),es[i]? =some x->es'[i]? =some y->Sh x y):Sh (.agg es) (.agg es')
 |box (e:TypeId) (c c':V) (h:Sh c c'):Sh (.box e c) (.box e c')
theorem zh4:∀{es es':List V},es.length=es'.length->(∀(i:Nat) (x y:V),es[i]? =some x->es'[i]? =some y->x.size=y.size)->es.map V.size=es'.map V.size
 |[],[],_,_=>rfl
 |x::es,y::es',hl,h=>by
  simp only[qo];rw[h 0 x y rfl rfl,zh4 (by simpa using hl) (fun i x y a b=>h (i+1) x y (by simpa using a) (by simpa using b))]
 |[],_::_,hl,_=>by simp at hl
 |_::_,[],hl,_=>by simp at hl
theorem zdk{x:V}(h:x.isScalar=true):x.size=1/\x.isH=false/\x.owned=false/\(∀i,¬x.hasKid i)/\(∀fs,x≠.tup fs)/\(∀fs,x≠.agg fs):=by
 cases x<;>simp_all [V.isScalar,V.size,V.isH,V.owned,V.hasKid]
theorem Sh.facts{x y:V}(h:Sh x y):x.size=y.size/\x.isH=y.isH/\x.owned=y.owned/\(∀i,y.hasKid i->x.hasKid i/\Sh (x.kid i) (y.kid i))/\(∀fs,x=.agg fs->∃fs',y=.agg fs'/\∀i,V.offs fs i=V.offs fs' i)/\
 ((∃fs,x=.tup fs)->x=y)/\((∃fs,y=.tup fs)->x=y):=by
 induction h with
 |refl x=>exact⟨rfl,rfl,rfl,fun i h=>⟨h,.refl _⟩,fun fs h=>⟨fs,h,fun _=>rfl⟩,fun _=>rfl,fun _=>rfl⟩
 |scal x y hx hy=>
  obtain⟨a1,a2,a3,a4,a5,a6⟩:=zdk hx;obtain⟨b1,b2,b3,b4,b5,b6⟩:=zdk hy;exact⟨by rw[a1,b1],by rw[a2,b2],by rw[a3,b3],fun i h=>absurd h (b4 i),fun fs h=>absurd h (a6 fs),fun⟨fs,h⟩=>absurd h (a5 fs),fun⟨fs,h⟩=>absurd h (b5 fs)⟩
 |slc o e d es es' hl h ih=>
  refine⟨rfl,rfl,rfl,fun i hk=>?_,fun fs h=>(by cases h),fun⟨fs,h⟩=>(by cases h),fun⟨fs,h⟩=>(by cases h)⟩;have hi:i<es'.length:=hk.2;refine⟨⟨hk.1,by omega⟩,?_⟩;exact h i _ _ (yH d (by omega)) (yH d hi)
 |agg es es' hl h ih=>
  have hs:=zh4 hl (fun i x y a b=>(ih i x y a b).1);refine⟨by simp only[V.size,V.sizes_map,hs],rfl,?_,fun i hk=>?_,fun fs h=>?_,fun⟨fs,h⟩=>(by cases h),fun⟨fs,h⟩=>(by cases h)⟩
  ·simp only[V.owned,V.owneds_eq];rw[Bool.eq_iff_iff,List.any_eq_true,List.any_eq_true];constructor
   ·rintro⟨x,hx,ho⟩;obtain⟨i,hi⟩:=zd4 hx;have hil:=(zq.1 hi).1;have hy:es'[i]? =some (es'[i]'(by omega)):=ze (by omega);exact⟨_,yo hy,by rw[<-(ih i x _ hi hy).2.2.1];exact ho⟩
   ·rintro⟨x,hx,ho⟩;obtain⟨i,hi⟩:=zd4 hx;have hil:=(zq.1 hi).1;have hy:es[i]? =some (es[i]'(by omega)):=ze (by omega);exact⟨_,yo hy,by rw[(ih i _ x hy hi).2.2.1];exact ho⟩
  ·have hi:i<es'.length:=hk;exact⟨(by show i<es.length;omega),h i _ _ (yH _ (by omega)) (yH _ hi)⟩
  ·cases h;exact⟨es',rfl,fun i=>zjV hs i⟩
 |box e c c' h ih=>exact⟨rfl,rfl,rfl,fun i _=>⟨trivial,h⟩,fun fs h=>(by cases h),fun⟨fs,h⟩=>(by cases h),fun⟨fs,h⟩=>(by cases h)⟩
theorem Sh.okp:∀{p:List Nat} {x y:V},Sh x y->y.okp p->x.okp p
 |[],_,_,_,_=>trivial
 |i::p,x,y,h,hk=>by
  obtain⟨k1,k2⟩:=h.facts.2.2.2.1 i hk.1;exact⟨k1,k2.okp hk.2⟩
theorem Sh.okv{p:List Nat}{x y:V}(h:Sh x y)(hk:y.okv p):x.okv p:=by
 by_cases ht:∃fs,y=.tup fs
 ·rw[h.facts.2.2.2.2.2.2 ht];exact hk
 ·exact V.okv_of_okp (h.okp (V.okv_of_ne hk (fun fs e=>ht ⟨fs,e⟩)))
theorem Sh.at:∀{p:List Nat} {x y:V},Sh x y->y.okp p->Sh (x.at p) (y.at p)
 |[],_,_,h,_=>h
 |i::p,x,y,h,hk=>by
  obtain⟨_,k2⟩:=h.facts.2.2.2.1 i hk.1;exact k2.at hk.2
section
variable (cz:TypeId->Nat)(w:World)
theorem Sh.locM:∀{p:List Nat} {x y:V} {b o:Nat},Sh x y->y.okp p->Go.Ax.locM cz w p x b o=Go.Ax.locM cz w p y b o
 |[],x,y,b,o,h,_=>by cases x<;>cases y<;>rfl
 |i::p,x,y,b,o,h,hk=>by
  obtain⟨k1,k2⟩:=h.facts.2.2.2.1 i hk.1;have hk2:=hk.2
  cases h with
  |refl=>rfl
  |scal _ _ hx hy=>exact absurd hk.1 ((zdk hy).2.2.2.1 i)
  |slc oo e d es es' hl h=>
   simp only[Go.Ax.locM];split
   ·exact Sh.locM k2 hk2
   ·rfl
  |agg es es' hl h=>
   obtain⟨fs',e1,e2⟩:=(Sh.agg es es' hl h).facts.2.2.2.2.1 es rfl;cases e1;simp only[Go.Ax.locM];rw[e2 i];exact Sh.locM k2 hk2
  |box e c c' h=>
   simp only[Go.Ax.locM];split
   ·exact Sh.locM k2 hk2
   ·rfl
theorem Sh.locV{p:List Nat}{x y:V}{v:Value}(h:Sh x y)(hk:y.okp p):Go.Ax.locV cz w p x v=Go.Ax.locV cz w p y v:=by
 cases p with
 |nil=>cases x<;>cases y<;>rfl
 |cons i p=>
  obtain⟨k1,k2⟩:=h.facts.2.2.2.1 i hk.1;have hk2:=hk.2
  cases h with
  |refl=>rfl
  |scal _ _ hx hy=>exact absurd hk.1 ((zdk hy).2.2.2.1 i)
  |slc oo e d es es' hl h=>
   cases v with
   |slice a l c=>
    cases a with
    |none=>rfl
    |some a=>exact Sh.locM cz w k2 hk2
   |_=>rfl
  |agg es es' hl h=>rfl
  |box e c c' h=>
   cases v with
   |pointer a=>
    cases a with
    |none=>rfl
    |some a=>exact Sh.locM cz w k2 hk2
   |_=>rfl
theorem Sh.hdrV{p:List Nat}{x y:V}{v:Value}(h:Sh x y)(hk:y.okv p):Go.Ax.hdrV cz w p x v=Go.Ax.hdrV cz w p y v:=by
 by_cases ht:∃fs,y=.tup fs
 ·rw[h.facts.2.2.2.2.2.2 ht]
 ·have hk':=V.okv_of_ne hk (fun fs e=>ht ⟨fs,e⟩);have htx:∀fs,x≠.tup fs:=fun fs e=>ht ⟨fs,by rw[<-h.facts.2.2.2.2.2.1 ⟨fs,e⟩];exact e⟩
  cases p with
  |nil=>rfl
  |cons i p=>
   have e1:∀z:V,(∀fs,z≠.tup fs)->Go.Ax.hdrV cz w (i::p) z v=if(z.at (i::p)).isH then(Go.Ax.locV cz w (i::p) z v).bind fun a=>w.cell? ⟨a.1,a.2,none⟩else none:=by
    intro z hz
    cases p with
    |nil=>cases z<;>first|rfl|exact absurd rfl (hz _)
    |cons j p=>rfl
   rw[e1 x htx,e1 y (fun fs e=>ht ⟨fs,e⟩),(h.at hk').facts.2.1,h.locV cz w hk']
end
theorem Sh.setKid{x:V}{i:Nat}{y:V}(hk:x.hasKid i)(h:Sh (x.kid i) y):Sh x (x.setKid i y):=by
 cases x with
 |slc o e d es=>
  refine .slc o e d es _ (by simp) (fun j a b ha hb=>?_);rcases V.set_some hb with⟨rfl,rfl⟩|⟨_,hb⟩
  ·have:a=es.getD j d:=(by rw[zd,ha];rfl);rw[this];exact h
  ·rw[ha]at hb;cases hb;exact .refl _
 |agg fs=>
  refine .agg fs _ (by simp) (fun j a b ha hb=>?_);rcases V.set_some hb with⟨rfl,rfl⟩|⟨_,hb⟩
  ·have:a=fs.getD j (.hole 0):=(by rw[zd,ha];rfl);rw[this];exact h
  ·rw[ha]at hb;cases hb;exact .refl _
 |box e c=>exact .box e c y h
 |_=>exact hk.elim
theorem Sh.upd:∀{p:List Nat} {x y:V},x.okp p->Sh (x.at p) y->Sh x (x.upd p y)
 |[],_,_,_,h=>h
 |i::p,x,y,hk,h=>Sh.setKid hk.1 (Sh.upd hk.2 h)
section
variable {C:Ctx}{F F':Nat->Prop}{O O':Nat->Nat->Prop}{Z Z':Nat->Prop}{D D' Db:Env}{a:Act}{w w':World}
def V.bare:V->Bool
 | .box _ c=> !c.owned
 |_=>false
theorem zmE{c:V}{i:Nat}(hc:c.owned=false)(hk:c.hasKid i):(c.kid i).owned=false:=by
 cases c with
 |slc o e d es=>simp only[V.owned]at hc;rw[hc]at hk;cases hk.1
 |agg fs=>
  simp only[V.owned,V.owneds_eq,Km]at hc;have hi:i<fs.length:=hk;simp only[V.kid];rw[jR (ze hi)];simpa using hc _ (List.getElem_mem hi)
 |box=>simp[V.owned]at hc
 |_=>exact hk.elim
theorem zrb{cz:TypeId->Nat}{w w':World}:∀(p:List Nat) (c:V) (b o:Nat),c.owned=false->c.okp p->locM cz w' p c b o=locM cz w p c b o
 |[],_,_,_,_,_=>rfl
 |i::p,c,b,o,hc,hk=>by
  have h1:=zmE hc hk.1
  cases c with
  |slc o e d es=>simp only[V.owned]at hc;rw[hc]at hk;cases hk.1.1
  |agg fs=>
   simp only[locM];exact zrb p _ b _ h1 hk.2
  |box=>simp[V.owned]at hc
  |_=>exact hk.1.elim
theorem zn5:∀(p:List Nat) (c:V),c.owned=false->c.okp p->(c.at p).owned=false
 |[],_,hc,_=>hc
 |i::p,c,hc,hk=>by
  simp only[V.at];exact zn5 p _ (zmE hc hk.1) hk.2
theorem zzJ{cz:TypeId->Nat}{w w':World}{r:V}{p:List Nat}{v:Value}(hr:r.bare=true)(hk:r.okp p):locV cz w' p r v=locV cz w p r v:=by
 cases r with
 |box e c=>
  have hc:c.owned=false:=by simpa [V.bare]using hr
  cases p with
  |nil=>simp only[locV]
  |cons i p=>
   cases v with
   |pointer a=>
    cases a with
    |none=>simp only[locV]
    |some a=>
     simp only[locV];exact zrb p c _ _ hc hk.2
   |_=>simp only[locV]
 |_=>simp[V.bare]at hr
theorem zzS{cz:TypeId->Nat}{w w':World}{r:V}{p:List Nat}{v h:Value}(hr:r.bare=true)(hk:r.okv p)(hh:hdrV cz w' p r v=some h):hdrV cz w p r v=some h:=by
 cases r with
 |box e c=>
  have hc:c.owned=false:=by simpa [V.bare]using hr
  cases p with
  |nil=>exact hh
  |cons i p=>
   exfalso
   have e1:hdrV cz w' (i::p) (.box e c) v=if((V.box e c).at (i::p)).isH then(locV cz w' (i::p) (.box e c) v).bind fun a=>w'.cell? ⟨a.1,a.2,none⟩else none:=by
    cases p<;>rfl
   rw[e1]at hh;have h2:(c.at p).owned=false:=zn5 p c hc hk.2
   have h3:((V.box e c).at (i::p)).isH=false:=by
    simp only[V.at,V.kid];generalize c.at p=z at h2;cases z<;>simp_all [V.isH,V.owned]
   rw[h3]at hh;cases hh
 |_=>simp[V.bare]at hr
theorem Inv.combine(hI:Inv C F O Z D a w)(hB:Inv C F' O' Z' Db a w')(hF:∀b,F b->F' b)(hmF:∀b,F b->w'.heap[b]? =w.heap[b]?)
 (hH:∀s,(∃x,(D s).a=.val x/\x.bare=true)\/∀k off u,O s k->Jv u=true->w.cell? ⟨k,off,none⟩=some u->w'.cell? ⟨k,off,none⟩=some u)
 (h0:∀t,(D' t).g=(D t).g/\(D' t).u=(D t).u/\(D' t).ver=(D t).ver) (h1:∀t,(∀x,(D t).a≠.val x)->(D' t).a=(D t).a)
 (h2:∀t x,(D t).a=.val x->∃x',(D' t).a=.val x'/\Sh x x'/\((D t).g=true->(Db t).g=true/\(Db t).a=.val x')):Inv C F' O' Z' D' a w':=by
 have hpr:∀s ver,za6 C.cz w w' D D' a.tmps a.tmps s ver:=by
  intro s ver r' hr';obtain⟨g1,g2,g3,g4⟩:=Env.own_iff'.1 hr'
  have hr:∃r,(D s).a=.val r/\Sh r r':=by
   cases ha:(D s).a with
   |val r=>
    obtain⟨x',e1,e2,_⟩:=h2 s r ha;rw[e1]at g3;simp only[A.val.injEq]at g3;subst g3;exact⟨r,rfl,e2⟩
   |_=>have:=h1 s (fun x hx=>by rw[ha]at hx;cases hx);rw[this,ha]at g3;cases g3
  obtain⟨r,hr,hsh⟩:=hr;have hgs:(D s).g=true:=by rw[<-(h0 s).1];exact g1
  obtain⟨cs,hreg,hrep⟩:=(hI.slot s hgs).2.1 r hr;refine⟨r,Env.own_iff'.2 ⟨hgs,by rw[<-(h0 s).2.2];exact g2,hr,by rw[hsh.facts.2.2.1];exact g4⟩,fun p h hok hh=>?_,fun p q hok hh=>?_⟩
  ·have hk:=hsh.okv hok;rw[<-hsh.hdrV C.cz w' hok]at hh;rcases hH s with⟨x,hx,hb⟩|hH
   ·rw[hr]at hx;simp only[A.val.injEq]at hx;subst hx;exact⟨hk,zzS hb hk hh⟩
   exact⟨hk,znD hrep hreg hk hH hh⟩
  ·have hk:=hsh.okp hok;rw[<-hsh.locV C.cz w' hok]at hh;rcases hH s with⟨x,hx,hb⟩|hH
   ·rw[hr]at hx;simp only[A.val.injEq]at hx;subst hx;exact⟨hk,by rw[zzJ hb hk]at hh;exact hh⟩
   exact⟨hk,by rw[zgC hrep hreg hk hH]at hh;exact hh⟩
 refine⟨fun t hg=>?_,hB.oo,hB.of,hB.oz,hB.zf,hB.olt,hB.zlt,hB.flt,hB.ofr,hB.zfr,hB.f0,hB.ffr,hB.old,hB.size,hB.os,hB.tape,hB.output,hB.defers,fun t s ver hr=>?_,fun t hg hu=>?_,hB.ts,hB.kp,hB.hx⟩
 ·have hgs:(D t).g=true:=by rw[<-(h0 t).1];exact hg
  obtain⟨e1,e2,e3⟩:=hI.slot t hgs
  cases ha:(D t).a with
  |val x=>
   obtain⟨x',f1,_,f2⟩:=h2 t x ha;obtain⟨f3,f4⟩:=f2 hgs;refine⟨e1,fun y hy=>?_,fun hn=>absurd f1 (hn x')⟩;rw[f1]at hy;simp only[A.val.injEq]at hy;subst hy;exact(hB.slot t f3).2.1 _ f4
  |_=>
   have hne:∀x,(D t).a≠.val x:=fun x hx=>(by rw[ha]at hx;cases hx);have e4:=h1 t hne;refine⟨e1,fun y hy=>absurd (e4▸hy) (hne y),fun _=>?_⟩;rw[e4];exact(e3 hne).pres (fun s ver _=>hpr s ver) hF hmF
 ·by_cases hne:∀x,(D t).a≠.val x
  ·rw[h1 t hne]at hr;rw[(h0 s).2.2];exact hI.wf t s ver hr
  ·simp only[Classical.not_forall,Classical.not_not]at hne;obtain⟨x,hx⟩:=hne;obtain⟨x',f1,_⟩:=h2 t x hx;rw[f1]at hr;simp[A.refs]at hr
 ·rw[(h0 t).1]at hg;rw[(h0 t).2.1]at hu;exact hI.und t hg hu
end
structure Chg (w w':World) (X On Fr Xn:Nat->Prop) (H:Prop):Prop where
 size:w.heap.size<=w'.heap.size
 os:w'.os=w.os
 tape:w'.tape=w.tape
 output:Kz w w'
 same:∀k,k<w.heap.size->¬X k->w'.heap[k]? =w.heap[k]?
 new:∀b,On b\/Fr b->w.heap.size<=b/\b<w'.heap.size
 xn:∀b,Xn b->X b\/(w.heap.size<=b/\b<w'.heap.size)
 d1:∀b,On b->¬Fr b
 d2:∀b,Xn b->¬On b/\¬Fr b
 hdr:H->∀k off u,X k->Jv u=true->w.cell? ⟨k,off,none⟩=some u->w'.cell? ⟨k,off,none⟩=some u
section
variable {C:Ctx}{F:Nat->Prop}{O:Nat->Nat->Prop}{Z:Nat->Prop}{D D':Env}{a:Act}{w w':World}{X On Fr Xn:Nat->Prop}{H:Prop}
theorem Inv.chg(h:Inv C F O X D a w)(hc:Chg w w' X On Fr Xn H)(hs:C.st=true->H):Inv C (fun b=>F b\/Fr b) O (fun b=>Xn b\/On b) D a w':=by
 have h1:=h.worldZ (Z':=fun b=>(Xn b\/On b)\/Fr b) hc.size hc.same (fun b hb=>by
  rcases hb with(hb|hb)|hb
  ·exact hc.xn b hb
  ·exact .inr (hc.new b (.inl hb))
  ·exact .inr (hc.new b (.inr hb))) (fun hst b off u _ hz hu h0=>hc.hdr (hs hst) b off u hz hu h0) hc.os hc.tape hc.output
 have h2:=h1.freezeZ (Zf:=Fr) (fun b hb=>.inr hb) (fun b hb=>.inl (Nat.le_trans h.size (hc.new b (.inr hb)).1));refine h2.lessZ (fun b hb=>⟨.inl hb,fun hf=>?_⟩);rcases hb with hb|hb
 ·exact(hc.d2 b hb).2 hf
 ·exact hc.d1 b hb hf
theorem Chg.fz(hI:Inv C F O Z D a w)(hc:Chg w w' X On Fr Xn H)(hX:∀b,X b->¬F b):∀b,F b->w'.heap[b]? =w.heap[b]? :=
 fun b hb=>hc.same b (hI.flt b hb) (fun hx=>hX b hx hb)
theorem Chg.hH(hI:Inv C F O Z D a w)(hc:Chg w w' X On Fr Xn H)(hH:H):∀s k off u,O s k->Jv u=true->w.cell? ⟨k,off,none⟩=some u->w'.cell? ⟨k,off,none⟩=some u:=by
 intro s k off u hk hu h0;by_cases hx:X k
 ·exact hc.hdr hH k off u hx hu h0
 ·rw[World.cell?_of_block (a:=⟨k,off,none⟩) (hc.same k (hI.olt s k hk) hx)];exact h0
theorem zD3(hI:Inv C F O (fun _=>False) D a w){s:Nat}{r:V}(hg:(D s).g=true)(hx:(D s).a=.val r)(_hr:r.owned=true):
 ∃cy Oy,r.reg cy (a.tmps.getD s undef)/\Rep C.cz w F r cy Oy/\(∀z,Oy z->z<w.heap.size/\¬F z)/\(∃O1,Inv C F O1 Oy (D.drp s) a w)/\
  ∀(w':World) (On Fr Xn:Nat->Prop) (y:V) (H:Prop),Chg w w' Oy On Fr Xn H->(C.st=true->H)->(¬H->r.bare=true)->Rep C.cz w' (fun b=>F b\/Fr b) y cy Xn->y.reg cy (a.tmps.getD s undef)->Sh r y->
   ∃O',Inv C (fun b=>F b\/Fr b) O' On (D.mod s y) a w':=by
 obtain⟨cs,e1,e2,e3,e4⟩:=hI.takeAll hg hx;have e5:Inv C F (fun t=>if t=s then fun _=>False else O t) (O s) (D.drp s) a w:=e4.lessZ (fun b hb=>.inr hb);refine⟨cs,O s,e1,e2,fun z hz=>⟨hI.olt s z hz,hI.of s z hz⟩,⟨_,e5⟩,fun w' On Fr Xn y H hc hs hbr hy hreg hsh=>?_⟩;have h1:=e5.chg hc hs;have h2:=h1.putVal (d:=s) (g:=true) (x:=y) (v:=a.tmps.getD s undef) (cs:=cs) (On:=Xn) e3 (.inr rfl) (fun _=>⟨hreg,hy⟩) (fun b hb=>.inl hb) (by simp);rw[KQ rfl e3]at h2;have h3:Inv C (fun b=>F b\/Fr b) _ On _ a w':=h2.lessZ (fun b hb=>⟨.inr hb,fun hx=>(hc.d2 b hx).1 hb⟩)
 refine⟨_,hI.combine h3 (fun b hb=>.inl hb) (hc.fz hI (fun b hb=>hI.of s b hb)) (fun s'=>by
  by_cases hH:H
  ·exact .inr (hc.hH hI hH s')
  ·by_cases hss:s'=s
   ·exact .inl ⟨r,by rw[hss];exact hx,hbr hH⟩
   ·refine .inr fun k off u hk _ h0=>?_
    rw[World.cell?_of_block (a:=⟨k,off,none⟩) (hc.same k (hI.olt s' k hk) (fun hX=>hI.oo s' s k hss hk hX))];exact h0) (fun t=>?_) (fun t hn=>?_) (fun t x hx'=>?_)⟩
 ·simp only[Env.mod];split
  ·rename_i e;rw[e];exact⟨rfl,rfl,rfl⟩
  ·exact⟨rfl,rfl,rfl⟩
 ·have:t≠s:=fun e=>hn r (e▸hx);simp[Env.mod,this]
 ·by_cases hts:t=s
  ·subst hts;rw[hx]at hx';simp only[A.val.injEq]at hx';subst hx';exact⟨y,by simp[Env.mod],hsh,fun _=>⟨by simp[Env.put],by simp[Env.put]⟩⟩
  ·exact⟨x,by simp[Env.mod,hts,hx'],.refl x,fun hg'=>⟨by simp[Env.put,Env.drp,hts,hg'],by simp[Env.put,Env.drp,hts,hx']⟩⟩
theorem zwm(hI:Inv C F O (fun _=>False) D a w){s:Nat}{p:List Nat}{r:V}(hg:(D s).g=true)(hx:(D s).a=.val r)(hok:r.okp p)(hp:p≠[])(hna:∀fs,r≠.agg fs):
 ∃b o cy Oy,locV C.cz w p r (a.tmps.getD s undef)=some (b,o)/\qK w b o cy/\Rep C.cz w F (r.at p) cy Oy/\(∀z,Oy z->z<w.heap.size/\¬F z)/\(∃O1,Inv C F O1 Oy (D.mod s (r.upd p (.hole (r.at p).size))) a w)/\
  ∀(w':World) (On Fr Xn:Nat->Prop) (y:V) (H:Prop),Chg w w' Oy On Fr Xn H->H->Rep C.cz w' (fun b=>F b\/Fr b) y cy Xn->Sh (r.at p) y->
   ∃O',Inv C (fun b=>F b\/Fr b) O' On (D.mod s (r.upd p y)) a w':=by
 obtain⟨b,o,cy,Oy,g1,g2,g3,g4,g5,g6,g7⟩:=hI.take hg hx hok hp hna;have e5:Inv C F _ Oy (D.mod s (r.upd p (.hole (r.at p).size))) a w:=g7.lessZ (fun b hb=>.inr hb);refine⟨b,o,cy,Oy,g1,g2,g3,fun z hz=>⟨hI.olt s z (g6 z hz),hI.of s z (g6 z hz)⟩,⟨_,e5⟩,fun w' On Fr Xn y H hc hH hy hsh=>?_⟩;have h1:=e5.chg hc (fun _=>hH);have hmodx:((D.mod s (r.upd p (.hole (r.at p).size))) s).a=.val (r.upd p (.hole (r.at p).size)):=by simp[Env.mod]
 have hmodg:((D.mod s (r.upd p (.hole (r.at p).size))) s).g=true:=by simp[Env.mod,hg]
 obtain⟨k1,k2⟩:=V.upd_self (y:=.hole (r.at p).size) hok;have hsz:y.size=(r.at p).size:=hsh.facts.1.symm;obtain⟨c0,r0,r1⟩:=(e5.slot s hmodg).2.1 _ hmodx;have hsame:w'.heap[b]? =w.heap[b]? :=hc.same b (hI.olt s b g4) g5
 have hloc:locV C.cz w' p (r.upd p (.hole (r.at p).size)) (a.tmps.getD s undef)=some (b,o):=by
  rw[zgC r1 r0 k1 (fun k off u hk hu h0=>by
   have hk':O s k/\¬Oy k:=by simpa using hk
   rw[World.cell?_of_block (a:=⟨k,off,none⟩) (hc.same k (hI.olt s k hk'.1) hk'.2)];exact h0)]
  rw[zer C.cz w (y:=.hole (r.at p).size) (fun _ h=>h) rfl rfl hok hp k1];exact g1
 have hcy:qK w' b o cy:=g2.of_block hsame;have hU:Upd w' w' b o y.size:=⟨fun _ _=>rfl,fun cur e fr h=>⟨cur,h,rfl⟩,fun _ _=>rfl⟩;have hupd:(r.upd p (.hole (r.at p).size)).upd p y=r.upd p y:=V.upd_upd hok;have h2:=h1.putAt hmodg hmodx k1 hp (V.upd_not_agg hp hna) (by rw[k2,hsz]) hloc hU rfl hy hcy (fun z hz=>.inl hz) (fun _ off u _ h0=>h0) rfl rfl ⟨rfl,zw _⟩ (.inl rfl);rw[hupd]at h2;have h3:Inv C (fun b=>F b\/Fr b) _ On _ a w':=h2.lessZ (fun b hb=>⟨.inr hb,fun hx=>(hc.d2 b hx).1 hb⟩);refine⟨_,hI.combine h3 (fun b hb=>.inl hb) (hc.fz hI (fun b hb=>hI.of s b (g6 b hb))) (fun s=>.inr (hc.hH hI hH s)) (fun t=>?_) (fun t hn=>?_) (fun t x hx'=>?_)⟩
 ·simp only[Env.mod];split
  ·rename_i e;rw[e];exact⟨rfl,rfl,rfl⟩
  ·exact⟨rfl,rfl,rfl⟩
 ·have:t≠s:=fun e=>hn r (e▸hx);simp[Env.mod,this]
 ·by_cases hts:t=s
  ·subst hts;rw[hx]at hx';simp only[A.val.injEq]at hx';subst hx';exact⟨r.upd p y,by simp[Env.mod],Sh.upd hok hsh,fun hg'=>⟨by simp[Env.bmp,Env.mod,hg'],by simp[Env.bmp]⟩⟩
  ·exact⟨x,by simp[Env.mod,hts,hx'],.refl x,fun hg'=>⟨by simp[Env.bmp,Env.mod,hts,hg'],by simp[Env.bmp,Env.mod,hts,hx']⟩⟩
end
def jw(j:Nat):Bool:=decide (1000<=j)
def zbw:A->Bool
 | .rf _ _ []=>true
 |_=>false
def zhc(P:Program)(k:FuncId)(j:Nat)(args:List V)(r y:V):Prop:=
 zcP P k/\(∃x,args[j%1000]? =some x/\Sh x y/\(1000<=j->x.bare=true))/\
 ∀(ym:Array Value) (w:World) (F Oj:Nat->Prop) (css:Nat->List Value),ym.size=args.length->
  (∀(i:Nat) (x:V),args[i]? =some x->x.reg (css i) (ym.getD i undef)/\Rep P.cellsOf w F x (css i) (if i=j%1000 then Oj else fun _=>False))->
  (∀b,F b->b<w.heap.size)->(∀b,Oj b->b<w.heap.size/\¬F b)->Gl P w F->
  Calls P k ym w (fun e w'=>∃(v:Value) (cs:List Value) (On Fr Xn:Nat->Prop),e=.returned v/\r.reg cs v/\Rep P.cellsOf w' (fun b=>F b\/Fr b) r cs On/\
   y.reg (css (j%1000)) (ym.getD (j%1000) undef)/\Rep P.cellsOf w' (fun b=>F b\/Fr b) y (css (j%1000)) Xn/\Chg w w' Oj On Fr Xn (j<1000))
def zy0(P:Program)(k:FuncId)(j:Nat)(args:List V)(r:V):Prop:=
 zcP P k/\j<args.length/\
 ∀(ym:Array Value) (w:World) (F Oj:Nat->Prop),ym.size=args.length->
  (∀(i:Nat) (x:V),args[i]? =some x->∃cs,x.reg cs (ym.getD i undef)/\Rep P.cellsOf w F x cs (if i=j then Oj else fun _=>False))->
  (∀b,F b->b<w.heap.size)->(∀b,Oj b->b<w.heap.size/\¬F b)->Gl P w F->
  Calls P k ym w (fun e w'=>∃(v:Value) (cs:List Value) (On Fr:Nat->Prop),e=.returned v/\r.reg cs v/\Rep P.cellsOf w' (fun b=>F b\/Fr b) r cs On/\
   (∀b,On b\/Fr b->Oj b\/(w.heap.size<=b/\b<w'.heap.size))/\(∀b,On b->¬Fr b)/\
   w.heap.size<=w'.heap.size/\w'.os=w.os/\w'.tape=w.tape/\Kz w w'/\(∀k,k<w.heap.size->¬Oj k->w'.heap[k]? =w.heap[k]?))
def IOk(C:Ctx):Prop:=GlC C/\∀k j m c args q r y,C.Ψ k=some (j,m,c)->c args=some (q,r,y)->q->match m with
 |false=>zhc C.P k j args r y
 |true=>zy0 C.P k j args r
def V.leaf:V->Bool
 | .agg _=>false
 | .tup _=>false
 | .hole _=>false
 |_=>true
def zkp:List V->List V->Bool
 |[],[]=>true
 |f::fs,g::gs=>(f.size==g.size)&&((f.owned&&f.isH&&g.isH)||(!f.owned&&f.leaf&& !g.owned))&&zkp fs gs
 |_,_=>false
def mrg:List V->List V->List V
 |f::fs,g::gs=>(if f.owned then g else f)::mrg fs gs
 |_,_=>[]
def zjX:List V->List V->List V->List V
 |f::fs,g::gs,x::xs=>(if f.owned then x else g)::zjX fs gs xs
 |_,_,_=>[]
def KX(D:Env):A->Option (Prop×V×Env×(V->Env))
 | .rf s ver p=>match D.own s ver with
   |some r=>match p with
    |[]=>if r.isH then some (True,r,D.drp s,fun y=>D.mod s y)else none
    |i::p'=>some (r.okm (i::p')/\(r.at (i::p')).isH=true,r.at (i::p'),D.mod s (r.upd (i::p') (.hole (r.at (i::p')).size)),fun y=>D.mod s (r.upd (i::p') y))
   |none=>none
 | .ag s ver p fs=>match D.own s ver with
   |some r=>match r.at p with
    | .agg gs=>if zkp fs gs then some (r.okm p,.agg (mrg fs gs),D.mod s (r.upd p (.hole (r.at p).size)),fun y=>match y with
     | .agg xs=>D.mod s (r.upd p (.agg (zjX fs gs xs)))
     |_=>D)else none
    |_=>none
   |none=>none
 |_=>none
theorem znV:∀{fs gs:List V},zkp fs gs=true->fs.length=gs.length/\(∀(i:Nat) (f g:V),fs[i]? =some f->gs[i]? =some g->f.size=g.size/\((f.owned=true/\f.isH=true/\g.isH=true)\/(f.owned=false/\f.leaf=true/\g.owned=false)))
 |[],[],_=>⟨rfl,fun i f g h=>by simp at h⟩
 |f::fs,g::gs,h=>by
  simp only[zkp,zh,jg,beq_iff_eq,yK]at h;obtain⟨⟨h1,h2⟩,h3⟩:=h;obtain⟨e1,e2⟩:=znV h3;refine⟨by simp[e1],fun i f' g' a b=>?_⟩
  cases i with
  |zero=>
   simp only[qa,za]at a b;subst a;subst b;refine⟨h1,?_⟩;rcases h2 with h2|h2
   ·exact .inl ⟨h2.1.1,h2.1.2,h2.2⟩
   ·exact .inr ⟨h2.1.1,h2.1.2,h2.2⟩
  |succ i=>exact e2 i f' g' (by simpa using a) (by simpa using b)
 |[],_::_,h=>by simp[zkp]at h
 |_::_,[],h=>by simp[zkp]at h
theorem zwe:∀{fs gs:List V},fs.length=gs.length->(mrg fs gs).length=fs.length/\∀(i:Nat) (f g:V),fs[i]? =some f->gs[i]? =some g->(mrg fs gs)[i]? =some (if f.owned then g else f)
 |[],[],_=>⟨rfl,fun i f g h=>by simp at h⟩
 |f::fs,g::gs,h=>by
  obtain⟨e1,e2⟩:=zwe (fs:=fs) (gs:=gs) (by simpa using h);refine⟨by simp[mrg,e1],fun i f' g' a b=>?_⟩
  cases i with
  |zero=>
   simp only[qa,za]at a b;subst a;subst b;rfl
  |succ i=>simpa [mrg]using e2 i f' g' (by simpa using a) (by simpa using b)
 |[],_::_,h=>by simp at h
 |_::_,[],h=>by simp at h
theorem zs6:∀{fs gs xs:List V},fs.length=gs.length->xs.length=gs.length->(zjX fs gs xs).length=gs.length/\∀(i:Nat) (f g x:V),fs[i]? =some f->gs[i]? =some g->xs[i]? =some x->(zjX fs gs xs)[i]? =some (if f.owned then x else g)
 |[],[],[],_,_=>⟨rfl,fun i f g x h=>by simp at h⟩
 |f::fs,g::gs,x::xs,h,h'=>by
  obtain⟨e1,e2⟩:=zs6 (fs:=fs) (gs:=gs) (xs:=xs) (by simpa using h) (by simpa using h');refine⟨by simp[zjX,e1],fun i f' g' x' a b c=>?_⟩
  cases i with
  |zero=>
   simp only[qa,za]at a b c;subst a;subst b;subst c;rfl
  |succ i=>simpa [zjX]using e2 i f' g' x' (by simpa using a) (by simpa using b) (by simpa using c)
 |[],_::_,_,h,_=>by simp at h
 |_::_,[],_,h,_=>by simp at h
 |[],[],_::_,_,h=>by simp at h
 |_::_,_::_,[],_,h=>by simp at h
theorem zl9{l l':List V}(hl:l.length=l'.length)(h:∀(i:Nat) (x y:V),l[i]? =some x->l'[i]? =some y->x.size=y.size):(∀i,V.offs l i=V.offs l' i)/\V.sizes l=V.sizes l':=by
 have:=zh4 hl h;exact⟨fun i=>zjV this i,by simp only[V.sizes_map,this]⟩
section
variable {C:Ctx}{F:Nat->Prop}{O:Nat->Nat->Prop}{Z:Nat->Prop}{D D' D1:Env}{a:Act}{w w':World}
theorem zvE(hI:Inv C F O (fun _=>False) D a w){A:A}{v:Value}{q:Prop}{x:V}{back:V->Env}(hh:Holds C.cz w F D a.tmps A v)(ho:KX D A=some (q,x,D1,back))(hq:q):
 ∃cs Oy,x.reg cs v/\Rep C.cz w F x cs Oy/\(∀z,Oy z->z<w.heap.size/\¬F z)/\(∃O1,Inv C F O1 Oy D1 a w)/\
  ∀(w':World) (On Fr Xn:Nat->Prop) (y:V) (H:Prop),Chg w w' Oy On Fr Xn H->(C.st=true->H)->(¬H->zbw A=true/\x.bare=true)->Rep C.cz w' (fun b=>F b\/Fr b) y cs Xn->y.reg cs v->Sh x y->∃O',Inv C (fun b=>F b\/Fr b) O' On (back y) a w':=by
 cases A with
 |rf s ver p=>
  simp only[KX]at ho;split at ho
  ·rename_i r hr;obtain⟨hg,_,ha⟩:=Env.own_elim hr;split at ho
   ·split at ho
    ·rename_i hH;simp only[za,zb]at ho;obtain⟨_,rfl,rfl,rfl⟩:=ho;have hv:v=a.tmps.getD s undef:=hh r _ hr (by cases r<;>trivial) rfl;subst hv;obtain⟨cy,Oy,g1,g2,g3,g4,g5⟩:=zD3 hI hg ha (by cases r<;>simp_all [V.isH,V.owned]);exact⟨cy,Oy,g1,g2,g3,g4,fun w' On Fr Xn y H hc hs hb=>g5 w' On Fr Xn y H hc hs (fun hn=>(hb hn).2)⟩
    ·cases ho
   ·rename_i i p';simp only[za,zb]at ho;obtain⟨rfl,rfl,rfl,rfl⟩:=ho;obtain⟨hm,hH⟩:=hq;obtain⟨hp,hna,hok⟩:=V.okm_okp hm;obtain⟨b,o,cy,Oy,g1,g2,g3,g4,g5,g6⟩:=zwm hI hg ha hok hp hna;obtain⟨u,rfl,_⟩:=uk g3 hH;have hc:=g2 0 u rfl;simp only[yk]at hc;have hvu:v=u:=hh r u hr (V.okv_of_okp hok) (by rw[JN hm,if_pos hH,g1];exact hc);subst hvu;refine⟨[v],Oy,?_,g3,g4,g5,fun w' On Fr Xn y H hc hs hb hy _ hsh=>g6 w' On Fr Xn y H hc (Classical.byContradiction fun hn=>by have:=(hb hn).1;simp[zbw]at this) hy hsh⟩;revert hH;cases r.at (i::p')<;>simp[V.isH,V.reg]
  ·cases ho
 |ag s ver p fs=>
  simp only[KX]at ho;split at ho
  ·rename_i r hr;obtain⟨hg,_,ha⟩:=Env.own_elim hr;split at ho
   ·rename_i gs hat
    split at ho
    ·rename_i hok0;simp only[za,zb]at ho;obtain⟨rfl,rfl,rfl,rfl⟩:=ho;obtain⟨hp,hna,hok⟩:=V.okm_okp hq;obtain⟨b,o,cy,Oy,g1,g2,g3,g4,g5,g6⟩:=zwm hI hg ha hok hp hna;rw[hat]at g3 g6;obtain⟨l1,l2⟩:=znV hok0;obtain⟨m1,m2⟩:=zwe l1;obtain⟨o1,o2⟩:=zl9 l1 (fun i f g hf hg=>(l2 i f g hf hg).1)
     have msz:∀(i:Nat) (x y:V),(mrg fs gs)[i]? =some x->gs[i]? =some y->x.size=y.size:=by
      intro i x g hx hgi;have hil:=(zq.1 hgi).1;have hfi:fs[i]? =some (fs[i]'(by omega)):=ze (by omega);rw[m2 i _ g hfi hgi]at hx;simp only[za]at hx;subst hx;split
      ·rfl
      ·exact(l2 i _ g hfi hgi).1
     obtain⟨o3,o4⟩:=zl9 (l:=mrg fs gs) (l':=gs) (by omega) msz;obtain⟨cs,hv,hcp⟩:=hh
     cases g3 with
     |agg _ _ Os _ hn hOs hdis hrr=>
      have cells:cs.length=V.sizes fs/\∀(i:Nat) (f:V),fs[i]? =some f->Cp (fun q h=>∀r h',D.own s ver=some r->r.okv q->hdrV C.cz w q r (a.tmps.getD s undef)=some h'->h'=h) (fun y c=>Rep C.cz w F y c (fun _=>False)) f (p++[i]) ((cs.drop (V.offs fs i)).take f.size):=by
       cases hcp with
       |val _ _ _ hx hrep hl=>
        refine⟨hl,fun i f hf=>?_⟩
        have hfo:f.owned=false:=by
         simp only[V.owned,V.owneds_eq,Km]at hx;simpa using hx f (yo hf)
        cases hrep with
        |agg _ _ Os' _ hn' hOs' hdis' hrr'=>
         exact .val f _ _ hfo ((hrr' i f hf).mono (fun _ h=>h) (fun b hb=>hOs' i b hb)) (by
          have:=V.offs_succ_le hf;rw[zV,yF]
          omega)
       |hd _ _ h hx=>simp[V.isH]at hx
       |agg _ _ _ hn' h'=>exact⟨hn',h'⟩
      obtain⟨cl,cf⟩:=cells
      have field:∀(i:Nat) (f g:V),fs[i]? =some f->gs[i]? =some g->(f.owned=true->(cs.drop (V.offs gs i)).take g.size=(cy.drop (V.offs gs i)).take g.size)/\(f.owned=false->Rep C.cz w F f ((cs.drop (V.offs gs i)).take g.size) (fun _=>False)):=by
       intro i f g hf hgi;have hcf:=cf i f hf;rw[(l2 i f g hf hgi).1,o1 i]at hcf;have hrg:=hrr i g hgi;refine⟨fun hfo=>?_,fun hfo=>?_⟩
       ·rcases (l2 i f g hf hgi).2 with⟨_,hfH,hgH⟩|⟨h',_⟩
        ·generalize hseg:(cs.drop (V.offs gs i)).take g.size=seg at hcf ⊢;obtain⟨u,hu,_⟩:=uk hrg hgH;rw[hu]
         cases hcf with
         |val _ _ _ hx=>rw[hfo]at hx;cases hx
         |hd _ _ h hx hpp=>
          have hil:=(zq.1 hgi).1;have hgs:g.size=1:=by rw[<-hrg.length,hu];rfl
          have hou:cy[V.offs gs i]? =some u:=by
           have:((cy.drop (V.offs gs i)).take g.size)[0]? =some u:=(by rw[hu];rfl);rw[zY,hgs]at this;simpa using this
          have hcell:=g2 _ u hou;have hokp:r.okp (p++[i]):=(V.okp_append p [i] r).2 ⟨hok,by rw[hat];exact⟨hil,trivial⟩⟩;have hati:r.at (p++[i])=g:=by rw[V.at_append,hat];simp only[V.at,V.kid];exact jR hgi
          have hkm:r.okm (p++[i]):=by
           cases p with
           |nil=>exact absurd rfl hp
           |cons j p=>cases r<;>first|exact hokp|exact hokp.1.elim|exact absurd rfl (hna _)
          have:=hpp r u hr (V.okv_of_okp hokp) (by
           rw[JN hkm,hati,if_pos hgH,JM C.cz w hp,g1,hat];simp only[jd,locM]
           exact hcell)
          rw[this]
         |agg fs' _ _ _ _=>simp[V.isH]at hfH
        ·rw[hfo]at h';cases h'
       ·rcases (l2 i f g hf hgi).2 with⟨h',_⟩|⟨_,hlf,_⟩
        ·rw[hfo]at h';cases h'
        ·generalize (cs.drop (V.offs gs i)).take g.size=seg at hcf ⊢
         cases hcf with
         |val _ _ _ hx hrep=>exact hrep
         |hd _ _ h hx=>exfalso;cases f<;>simp_all [V.isH,V.owned]
         |agg fs' _ _ _ _=>simp[V.leaf]at hlf
      have hcl:cs.length=V.sizes gs:=(by rw[cl,o2]);refine⟨cs,Oy,hv,?_,g4,g5,fun w' On Fr Xn y H hc hs hb hy hyr hsh=>?_⟩
      ·refine .agg (mrg fs gs) cs Os Oy (by rw[hcl,o4]) hOs hdis (fun i x hx=>?_);have hil:=(zq.1 hx).1;have hgi:gs[i]? =some (gs[i]'(by omega)):=ze (by omega);have hfi:fs[i]? =some (fs[i]'(by omega)):=ze (by omega);obtain⟨f1,f2⟩:=field i _ _ hfi hgi;rw[o3 i,msz i x _ hx hgi];rw[m2 i _ _ hfi hgi]at hx;simp only[za]at hx;subst hx
       cases hfo:(fs[i]'(by omega)).owned with
       |true=>
        rw[f1 hfo];exact hrr i _ hgi
       |false=>exact(f2 hfo).mono (fun _ h=>h) (fun _ h=>h.elim)
      ·
        have hyx:∃xs,y=.agg xs/\xs.length=gs.length/\∀(i:Nat) (x z:V),(mrg fs gs)[i]? =some x->xs[i]? =some z->Sh x z:=by
         cases hsh with
         |refl=>exact⟨_,rfl,by omega,fun i x z h1 h2=>by rw[h1]at h2;cases h2;exact .refl _⟩
         |scal _ _ h1=>simp[V.isScalar]at h1
         |agg _ es' hl' h=>exact⟨es',rfl,by omega,h⟩
        obtain⟨xs,rfl,hxl,hxs⟩:=hyx;obtain⟨b1,b2⟩:=zs6 l1 hxl
        have hcell2:∀(i:Nat) (f g x:V),fs[i]? =some f->gs[i]? =some g->xs[i]? =some x->f.owned=true->Sh g x:=by
         intro i f g x h1 h2 h3 hfo;have:=m2 i f g h1 h2;rw[if_pos hfo]at this;exact hxs i g x this h3
        have hshB:Sh (.agg gs) (.agg (zjX fs gs xs)):=by
         refine .agg gs _ (by omega) (fun i g z h1 h2=>?_);have hil:=(zq.1 h1).1;have hfi:fs[i]? =some (fs[i]'(by omega)):=ze (by omega);have hxi:xs[i]? =some (xs[i]'(by omega)):=ze (by omega);rw[b2 i _ g _ hfi h1 hxi]at h2;simp only[za]at h2;subst h2;split
         ·rename_i hfo;exact hcell2 i _ g _ hfi h1 hxi hfo
         ·exact .refl g
        obtain⟨ob1,ob2⟩:=zl9 (l:=gs) (l':=zjX fs gs xs) (by omega) (fun i x z h1 h2=>by
         obtain⟨_,hsz⟩:True/\x.size=z.size:=by
          have hil:=(zq.1 h1).1;have hfi:fs[i]? =some (fs[i]'(by omega)):=ze (by omega);have hxi:xs[i]? =some (xs[i]'(by omega)):=ze (by omega);rw[b2 i _ x _ hfi h1 hxi]at h2;simp only[za]at h2;subst h2;split
          ·rename_i hfo;exact⟨trivial,(hcell2 i _ x _ hfi h1 hxi hfo).facts.1⟩
          ·exact⟨trivial,rfl⟩
         exact hsz)
        obtain⟨ox1,ox2⟩:=zl9 (l:=mrg fs gs) (l':=xs) (by omega) (fun i x z h1 h2=>(hxs i x z h1 h2).facts.1)
        cases hy with
        |agg _ _ Oz _ hn2 hOz hdz hrz=>
         refine g6 w' On Fr Xn _ H hc (Classical.byContradiction fun hn=>by have:=(hb hn).1;simp[zbw]at this) (.agg _ cy (fun i b=>Oz i b) Xn (by rw[hn,ob2]) hOz hdz (fun i z hz=>?_)) hshB;have hil:=(zq.1 hz).1;have hgi:gs[i]? =some (gs[i]'(by omega)):=ze (by omega);have hfi:fs[i]? =some (fs[i]'(by omega)):=ze (by omega);have hxi:xs[i]? =some (xs[i]'(by omega)):=ze (by omega);rw[b2 i _ _ _ hfi hgi hxi]at hz;simp only[za]at hz;subst hz;rw[<-ob1 i]
         cases hfo:(fs[i]'(by omega)).owned with
         |true=>
          simp only[if_true];have hsx:=(hcell2 i _ _ _ hfi hgi hxi hfo).facts.1;rw[<-hsx,<-(field i _ _ hfi hgi).1 hfo];have:=hrz i _ hxi;rw[<-ox1 i,o3 i,<-hsx]at this;exact this
         |false=>
          simp only[yJ,if_false]
          have hgo:(gs[i]'(by omega)).owned=false:=by
           rcases (l2 i _ _ hfi hgi).2 with⟨h',_⟩|⟨_,_,h'⟩
           ·rw[hfo]at h';cases h'
           ·exact h'
          have h1:=(hrr i _ hgi).unowned hgo;exact((h1.world (fun b hb=>hb.elim (hc.fz hI (fun b hb=>(g4 b hb).2) b) False.elim)).mono (fun _ h=>.inl h) (fun _ h=>h.elim))
    ·cases ho
   ·cases ho
  ·cases ho
 |_=>simp[KX]at ho
end
def jl{α:Type}:Nat->List α->List α
 |_,[]=>[]
 |0,_::l=>l
 |j+1,x::l=>x::jl j l
def Jw:Nat->V->List V->List V
 |0,y,l=>y::l
 |_+1,y,[]=>[y]
 |j+1,y,x::l=>x::Jw j y l
def zaG{α:Type}:Nat->List α->Option α
 |_,[]=>none
 |0,x::_=>some x
 |j+1,_::l=>zaG j l
theorem znE{α:Type}:∀(j:Nat) (l:List α),zaG j l=l[j]?
 |_,[]=>by simp[zaG]
 |0,_::_=>rfl
 |j+1,_::l=>by simp[zaG,znE j l]
theorem zdi{α:Type}:∀(j i:Nat) (l:List α),(jl j l)[i]? =if i<j then l[i]? else l[i+1]?
 |_,_,[]=>by simp[jl]
 |0,i,_::l=>by simp[jl]
 |j+1,0,_::l=>by simp[jl]
 |j+1,i+1,_::l=>by simp[jl,zdi j i l]
theorem zcW(y:V):∀(j i:Nat) (l:List V),j<=l.length->(Jw j y l)[i]? =if i<j then l[i]? else if i=j then some y else l[i-1]?
 |0,0,l,_=>by simp[Jw]
 |0,i+1,l,_=>by simp[Jw]
 |j+1,i,[],h=>by simp at h
 |j+1,0,_::l,_=>by simp[Jw]
 |j+1,i+1,_::l,h=>by
  have:=zcW y j i l (by simpa using h);simp only[Jw,List.getElem?_cons_succ,this];simp only[Nat.add_lt_add_iff_right,Nat.add_right_cancel_iff,Nat.add_sub_cancel];split
  ·rfl
  ·split
   ·rfl
   ·have:i≠0:=(by omega);obtain⟨m,rfl⟩:=Nat.exists_eq_succ_of_ne_zero this;simp
theorem zff{α:Type}:∀(j:Nat) (l:List α),j<l.length->(jl j l).length+1=l.length
 |_,[],h=>by simp at h
 |0,_::l,_=>by simp[jl]
 |j+1,_::l,h=>by simp[jl,zff j l (by simpa using h)]
theorem zgG(y:V):∀(j:Nat) (l:List V),(Jw j y l).length=l.length+1
 |0,l=>by simp[Jw]
 |_+1,[]=>by simp[Jw]
 |j+1,_::l=>by simp[Jw,zgG y j l]
def YN(C:Ctx)(D:Env)(o:Oper):Option (Prop×Env):=
 match o.guard,o.op with
 |none,.call ⟨.value (.func k),args,ats⟩=>match C.Ψ k with
  |some (j,false,c)=>match zaG (j%1000) args.toList with
   |some x=>match opd C.P D 0 x with
    |some (gx,A)=>match KX D A with
     |some (q,y,D1,back)=>match YM C.P D1 true (jl (j%1000) args.toList) (jl (j%1000) ats.toList)with
      |some (p,vs,br)=>match c (Jw (j%1000) y vs)with
       |some (q2,r,y')=>if(br&& !(r.noFz&&y'.noFz))||(jw j&& !(zbw A&&y.bare))then none else(match o.dst with
        |some d=>if C.dst d then some (gx=true/\q/\p/\q2/\(jw j=true->C.st=false),(back y').put d true (.val r))else none
        |none=>some (gx=true/\q/\p/\q2/\(jw j=true->C.st=false),back y'))
       |none=>none
      |none=>none
     |none=>none
    |none=>none
   |none=>none
  |_=>none
 |_,_=>none
section
variable {C:Ctx}{F:Nat->Prop}{O:Nat->Nat->Prop}{Z:Nat->Prop}{D D' D1:Env}{a:Act}{w w':World}
theorem zid(hC:IOk C)(hI:Inv C F O (fun _=>False) D a w){o:Oper}{p:Prop}(h:YN C D o=some (p,D'))(hp:p){Q:Exit->Act->World->Prop}:o.guard=none/\o.wp C.P a w (G C D') Q:=by
 unfold YN at h;split at h
 ·rename_i k args ats hg hop;refine⟨hg,?_⟩;split at h
  ·rename_i j c hΨ;obtain⟨J,hJ⟩:∃J,J=j%1000:=⟨_,rfl⟩;rw[<-hJ]at h;split at h
   ·rename_i x hx;rw[znE]at hx;split at h
    ·rename_i gx A hA;split at h
     ·rename_i q y D1 back ho;split at h
      ·rename_i pl vs br hl;split at h
       ·rename_i q2 r y' hc;split at h
        ·cases h
        rename_i hbr0
        obtain⟨hbr,hwk⟩:¬(br&& !(r.noFz&&y'.noFz))=true/\(jw j=true->zbw A=true/\y.bare=true):=by
         simp only[jg,not_or]at hbr0;exact⟨hbr0.1,fun hj=>by simpa [hj]using hbr0.2⟩
        have main:gx=true/\q/\pl/\q2/\(jw j=true->C.st=false)->o.wp C.P a w (fun a' w'=>∃v On F' O',a'=a.put o.dst v/\(∃cs,r.reg cs v/\Rep C.cz w' F' r cs On)/\Inv C F' O' On (back y') a w') Q:=by
         rintro⟨p1,p2,p3,p4,p5⟩;obtain⟨cs,Oy,e1,e2,e3,⟨O1,hI1⟩,e5⟩:=zvE hI (zX hI hA p1).1 ho p2;obtain⟨l1,l2⟩:=zeN hI1 rfl hl p3;obtain⟨hcall,⟨x0,hx0,hsh,_⟩,hfn⟩:=(hC.2 k j false c _ q2 r y' hΨ hc p4:zhc C.P k j _ r y');simp only[<-hJ]at hx0 hfn;obtain⟨cv,c1,c2,c3⟩:=znQ hI hop (by rfl:opd C.P D 0 (.func k)=some (true,.val (.fn k []))) rfl hcall rfl;have hcv:cv= #[]:=Array.eq_empty_of_size_eq_zero (by simpa using c1);subst hcv;have hjl:J<args.toList.length:=(zq.1 hx).1;have hsk:=zff J args.toList hjl;have hjv:J<=vs.length:=by omega
         have hx0':x0=y:=by
          rw[zcW y J J vs hjv]at hx0;simpa using hx0.symm
         subst hx0'
         have hget:∀i,((args.map a.eval)++(#[]:Array Value)).getD i undef=((args.toList.map a.eval).toArray).getD i undef:=by
          intro i;simp[zD]
         have hvj:((args.map a.eval)++(#[]:Array Value)).getD J undef=a.eval x:=by
          rw[hget];simp only[zD,uB,zK,hx,qy,qv]
         have hall:∀i,∃csi:List Value,(i=J->csi=cs)/\∀x,(Jw J x0 vs)[i]? =some x->x.reg csi (((args.map a.eval)++(#[]:Array Value)).getD i undef)/\Rep C.cz w (fun b=>F b\/(br=true/\∃s,O1 s b)) x csi (if i=J then Oy else fun _=>False):=by
          intro i;by_cases hij:i=J
          ·subst hij;refine⟨cs,fun _=>rfl,fun x' hx'=>?_⟩;rw[zcW x0 i i vs hjv]at hx';simp only[Nat.lt_irrefl,if_false,if_true,za]at hx';subst hx';rw[hvj,if_pos rfl];exact⟨e1,e2.mono (fun _ h=>.inl h) (fun _ h=>h)⟩
          ·cases hvi:(Jw J x0 vs)[i]? with
           |none=>exact⟨[],fun h=>absurd h hij,fun x' hx'=>by cases hx'⟩
           |some xi=>
            rw[zcW x0 J i vs hjv]at hvi
            have key:∃i',vs[i']? =some xi/\((jl J args.toList).map a.eval).toArray.getD i' undef=((args.map a.eval)++(#[]:Array Value)).getD i undef:=by
             split at hvi
             ·rename_i hlt;refine⟨i,hvi,?_⟩;rw[hget];simp only[zD,uB,zK,zdi,if_pos hlt]
             ·rename_i hlt;try rw[if_neg hij]at hvi
              refine⟨i-1,hvi,?_⟩;rw[hget];simp only[zD,uB,zK,zdi];rw[if_neg (by omega),show i-1+1=i by omega]
            obtain⟨i',k1,k2⟩:=key;obtain⟨csi,f1,f2⟩:=l2 i' xi k1;refine⟨csi,fun h=>absurd h hij,fun x' hx'=>?_⟩;simp only[za]at hx';subst hx';rw[if_neg hij,<-k2];exact⟨f1,f2⟩
         obtain⟨css,hcss⟩:=Classical.axiomOfChoice hall
         have hcalls:=hfn ((args.map a.eval)++ #[]) w (fun b=>F b\/(br=true/\∃s,O1 s b)) Oy css (by
          rw[zgG];have:args.size=args.toList.length:=rfl;simp only[Array.append_empty,Array.size_map]
          omega) (fun i x' hx'=>(hcss i).2 x' hx')
          (fun b hb=>hb.elim (hI.flt b) (fun hb=>by obtain⟨_,s,hb⟩:=hb;exact hI1.olt s b hb))
          (fun b hb=>⟨(e3 b hb).1,fun hf=>hf.elim (e3 b hb).2 (fun hf=>by obtain⟨_,s,hf⟩:=hf;exact hI1.oz s b hf hb)⟩) (hI.gl hC.1 (fun b hb=>.inl hb))
         unfold Oper.wp;rw[c3,Oper.upon_enter];refine hcalls.mono (fun e w' he=>?_);obtain⟨v,cr,On,Fr,Xn,rfl,g1,g2,g3,g4,g5⟩:=he;have hcj:css J=cs:=(hcss J).1 rfl;rw[hcj]at g3 g4;rw[hvj]at g3
         have up:∀{z:V} {c:List Value} {O2:Nat->Prop},Rep C.cz w' (fun b=>(F b\/(br=true/\∃s,O1 s b))\/Fr b) z c O2->(br=true->z.noFz=true)->Rep C.cz w' (fun b=>F b\/Fr b) z c O2:=by
          intro z c O2 hz hzf
          cases hb:br with
          |false=>exact hz.mono (fun b h=>h.imp (fun h=>h.resolve_right (by simp[hb])) id) (fun _ h=>h)
          |true=>exact hz.noFz (hzf hb)
         have hnf:br=true->r.noFz=true/\y'.noFz=true:=by
          intro hb;simpa [hb]using hbr
         obtain⟨O',hI'⟩:=e5 w' On Fr Xn y' _ g5 (fun hst=>Nat.lt_of_not_le fun hn=>by rw[p5 (decide_eq_true hn)]at hst;cases hst) (fun hn=>hwk (decide_eq_true (Nat.le_of_not_lt hn))) (up g4 (fun h=>(hnf h).2)) g3 hsh
         cases hd:o.dst with
         |none=>exact⟨v,On,_,O',by simp[Act.put],⟨cr,g1,up g2 (fun h=>(hnf h).1)⟩,hI'⟩
         |some d=>exact⟨v,On,_,O',rfl,⟨cr,g1,up g2 (fun h=>(hnf h).1)⟩,hI'⟩
        split at h
        ·rename_i d hd;split at h
         ·rename_i hdd;simp only[za,zb]at h;obtain⟨rfl,rfl⟩:=h;refine Oper.wp_mono (fun a' w' hh=>?_) (main hp);obtain⟨v,On,F',O',rfl,⟨cr,g1,g2⟩,hI'⟩:=hh;rw[hd];exact⟨F',_,(hI'.putVal (by rw[hI'.ts];exact hdd.2) (.inl hdd.1) (g:=true) (On:=On) (fun _=>⟨g1,g2⟩) (fun _ h=>h) (by simp)).lessZ (fun _ h=>h.elim)⟩
         ·cases h
        ·rename_i hd;simp only[za,zb]at h;obtain⟨rfl,rfl⟩:=h;refine Oper.wp_mono (fun a' w' hh=>?_) (main hp);obtain⟨v,On,F',O',rfl,⟨cr,g1,g2⟩,hI'⟩:=hh;rw[hd];exact⟨F',O',(hI'.lessZ (fun _ h=>h.elim))⟩
       ·cases h
      ·cases h
     ·cases h
    ·cases h
   ·cases h
  ·cases h
 ·cases h
end
def zpe(C:Ctx)(D:Env)(o:Oper):Option (Prop×Env):=
 match o.guard,o.op,o.dst with
 |none,.box t x,some d=>match opd C.P D t x with
  |some (gx,.rf s ver [])=>match D.own s ver with
   |some (.agg fs)=>if C.dst d/\s≠d/\zkp fs fs=true then
    some (gx=true,((D.drp s).put d true (.val (.box t (.agg fs)))).put s true (.ag d (((D.drp s) d).ver+1) [0] fs))else none
   |_=>none
  |_=>none
 |_,_,_=>none
section
variable {C:Ctx}{F:Nat->Prop}{O:Nat->Nat->Prop}{Z:Nat->Prop}{D D' D1:Env}{a:Act}{w w':World}
theorem zvL(hI:Inv C F O (fun _=>False) D a w){o:Oper}{p:Prop}(h:zpe C D o=some (p,D'))(hp:p){Q:Exit->Act->World->Prop}:o.guard=none/\o.wp C.P a w (G C D') Q:=by
 unfold zpe at h;split at h
 ·rename_i t x d hg hop hd;refine⟨hg,?_⟩;split at h
  ·rename_i gx s ver hA;split at h
   ·rename_i fs hr;split at h
    ·rename_i hc;obtain⟨hdd,hsd,hok⟩:=hc;simp only[za,zb]at h;obtain⟨rfl,rfl⟩:=h;obtain⟨hgs,_,ha⟩:=Env.own_elim hr;have hv:a.eval x=a.tmps.getD s undef:=(zX hI hA hp).1 _ _ hr trivial rfl;obtain⟨cs,e1,e2,e3,e4⟩:=hI.takeAll hgs ha;have hvc:a.tmps.getD s undef=.agg cs.toArray:=e1;have hlt:∀b,O s b->b<w.heap.size:=hI.olt s
     have hrun:(execOp a.eval o).run C.P w=.ok (.value (.pointer (some ⟨w.heap.size,0,none⟩))) (w.alloc (.cells cs.toArray t)):=by
      simp[execOp,hop,Instr.box,newVar,newRow,hv,hvc,Value.cells]
     have hrep1:Rep C.cz (w.alloc (.cells cs.toArray t)) F (.agg fs) cs (O s):=e2.alloc hI.flt hlt _
     have hbox:Rep C.cz (w.alloc (.cells cs.toArray t)) F (.box t (.agg fs)) [.pointer (some ⟨w.heap.size,0,none⟩)] (fun b=>O s b\/b=w.heap.size):=
      .box t (.agg fs) w.heap.size cs.toArray cs (O s) _ (Deep.blk_alloc_new w _) (by simp) (.inr rfl) (fun z hz=>⟨.inl hz,by have:=hlt z hz;omega⟩) hrep1
     have h1:Inv C F (fun t=>if t=s then fun _=>False else O t) (fun b=>O s b\/b=w.heap.size) (D.drp s) a (w.alloc (.cells cs.toArray t)):=
      e4.worldZ (by simp) (fun k hk _=>Deep.blk_alloc_lt w _ k hk) (fun b hb=>hb.elim (fun hb=>.inl (.inr hb)) (fun hb=>.inr (by subst hb;simp)))
       (fun _ b off u _ hz hu h0=>by
        have hb:b<w.heap.size:=hz.elim False.elim (hlt b);rw[World.cell?_of_block (a:=⟨b,off,none⟩) (Deep.blk_alloc_lt w _ b hb)]
        exact h0) rfl rfl ⟨rfl,zw _⟩
     have hdl:d<a.tmps.size:=(by rw[hI.ts];exact hdd.2);have h2:=(h1.putVal hdl (.inl hdd.1) (g:=true) (x:=.box t (.agg fs)) (v:=.pointer (some ⟨w.heap.size,0,none⟩)) (cs:=[.pointer (some ⟨w.heap.size,0,none⟩)]) (On:=fun b=>O s b\/b=w.heap.size) (fun _=>⟨rfl,hbox⟩) (fun b hb=>hb) (by simp)).lessZ (Z':=fun _=>False) (fun _ h=>h.elim);obtain⟨l1,l2⟩:=znV hok
     have hcells:qK (w.alloc (.cells cs.toArray t)) w.heap.size 0 cs:=by
      intro j v hj;simp only[World.cell?,Deep.blk_alloc_new,JA,yJ,if_false,jB];simpa using hj
     have hput:=h2.putRef (d:=s) (g:=true) (x:=.ag d (((D.drp s) d).ver+1) [0] fs) (v:=a.tmps.getD s undef) (by simpa [Act.put]using e3) (.inr (by simp only[Act.put];rw[kt hsd])) (by simp) (fun _=>by
      refine⟨cs,hvc,?_⟩
      cases e2 with
      |agg _ _ Os _ hn hOs hdis hrr=>
       refine .agg fs [0] cs hn (fun i f hf=>?_);have hrf:=hrr i f hf;rcases (l2 i f f hf hf).2 with⟨ho,hH,_⟩|⟨ho,hlf,_⟩
       ·obtain⟨u,hu,_⟩:=uk hrf hH;rw[hu];refine .hd f _ u hH (fun r h' hr' hokv hh=>?_)
        have hro:r=.box t (.agg fs):=by
         have:=(Env.own_elim hr').2.2;simpa [Env.put]using this.symm
        subst hro;have hil:=(zq.1 hf).1;have hfs:f.size=1:=by rw[<-hrf.length,hu];rfl
        have hou:cs[V.offs fs i]? =some u:=by
         have:((cs.drop (V.offs fs i)).take f.size)[0]? =some u:=(by rw[hu];rfl);rw[zY,hfs]at this;simpa using this
        have hcell:=hcells _ u hou
        have hreg:(a.put (some d) (.pointer (some ⟨w.heap.size,0,none⟩))).tmps.getD d undef=.pointer (some ⟨w.heap.size,0,none⟩):=by
         simp only[Act.put];rw[QO hdl]
        rw[hreg]at hh;have hati:(V.box t (.agg fs)).at ([0]++[i])=f:=(by simp only[yf,yV,V.at,V.kid];exact jR hf);rw[JN (by exact⟨trivial,hil,trivial⟩),hati,if_pos hH]at hh;simp only[yf,yV,locV,locM,jB,jd]at hh;rw[jB]at hcell;rw[hcell]at hh;simp only[za]at hh;exact hh.symm
       ·exact .val f _ _ ho ((hrf.unowned ho).alloc hI.flt (fun _ h=>h.elim) _) hrf.length) (by simp) (fun s' ver' hr'=>by
      simp only[A.refs,za,zb]at hr';obtain⟨rfl,rfl⟩:=hr'
      simp[Env.put])
     rw[KQ (by simp only[Act.put];rw[kt hsd]) (by simpa [Act.put]using e3)]at hput;unfold Oper.wp;rw[hrun,Oper.upon_value,hd];exact⟨F,_,hput⟩
    ·cases h
   ·cases h
  ·cases h
 ·cases h
end
section
variable {cz:TypeId->Nat}{w:World}{F:Nat->Prop}
theorem zEq{fs:List V}{cells cells1 cs:List Value}{j:Nat}{x v:V}{O Ov:Nat->Prop}(hr:Rep cz w F (.agg fs) cells O)(hx:fs[j]? =some x)(hsz:x.size=v.size)(hrep:Rep cz w F v cs Ov)(hd:∀b,Ov b->¬O b)
 (hc:cells1=cells.take (V.offs fs j)++cs++cells.drop (V.offs fs j+cs.length)):Rep cz w F (.agg (fs.set j v)) cells1 (fun b=>O b\/Ov b):=by
 cases hr with
 |agg fs cs0 Os O hn hOs hdis hr=>
  have hle:=V.offs_succ_le hx;have hcl:=hrep.length;have htl:(cells.take (V.offs fs j)).length=V.offs fs j:=by simp;omega
  subst hc;refine .agg _ _ (fun k=>if k=j then Ov else Os k) _ (by rw[V.sizes_set hx hsz.symm];simp only[zr,zV,yF,hcl];omega) (fun k b hb=>?_) (fun k k' b hk hb hb'=>?_) (fun k z hz=>?_)
  ·split at hb
   ·exact .inr hb
   ·exact .inl (hOs k b hb)
  ·split at hb
   ·split at hb'
    ·omega
    ·exact hd b hb (hOs k' b hb')
   ·split at hb'
    ·exact hd b hb' (hOs k b hb)
    ·exact hdis k k' b hk hb hb'
  rw[V.offs_set k hx hsz.symm];rcases V.set_some hz with⟨rfl,rfl⟩|⟨hne,hz'⟩
  ·rw[List.append_assoc,uC (by rw[htl];exact zw _),List.drop_of_length_le (by rw[htl];exact zw _),yV,jT (by rw[hcl];exact zw _),
    zB (by rw[hcl];exact zw _)]
   simp only[if_true];exact hrep
  ·have hseg:List.take z.size (List.drop (V.offs fs k) (cells.take (V.offs fs j)++cs++cells.drop (V.offs fs j+cs.length)))=List.take z.size (List.drop (V.offs fs k) cells):=by
    apply yB;intro m;rw[zY,zY];split
    ·rename_i hm;rw[zZ,zZ,YD,htl,hcl];rcases Nat.lt_or_gt_of_ne hne with hlt'|hgt
     ·have:=V.offs_sep hz' hlt';rw[if_pos (by omega),zY,if_pos (by omega)]
     ·have:=V.offs_sep hx hgt;rw[if_neg (by omega),if_neg (by omega),zZ];congr 1;omega
    ·rfl
   rw[hseg,if_neg hne];exact hr k z hz'
abbrev zCI:=(Nat×Value)×(Nat×V)×(Nat->Prop)
def zAx(cz:TypeId->Nat)(w:World)(F:Nat->Prop)(e:zCI):Prop:=e.1.1=e.2.1.1/\∃cs,e.2.1.2.reg cs e.1.2/\(∀n,e.2.1.2≠.hole n)/\Rep cz w F e.2.1.2 cs e.2.2
theorem zAp{v:V}{u:Value}{cs:List Value}{O:Nat->Prop}(hreg:v.reg cs u)(hnh:∀n,v≠.hole n)(hrep:Rep cz w F v cs O):u.cells.toList=cs:=by
 revert hreg hrep hnh
 cases v with
 |agg fs=>intro hreg _ hrep;rw[hreg];simp[Value.cells]
 |hole n=>intro _ hnh;exact absurd rfl (hnh n)
 |_=>
  intro hreg _ hrep;have hl:=hrep.length
  match cs,hl with
  |[c],_=>
   have:u=c:=hreg;subst this;cases hrep<;>rfl
theorem zif{place:Nat->Option (Nat×Nat)}:∀{l:List zCI} {fs fs':List V} {cells:Array Value} {O:Nat->Prop},Rep cz w F (.agg fs) cells.toList O->KZ fs (l.map (·.2.1))=some fs'->
 (∀e∈l,zAx cz w F e)->l.Pairwise (fun e e'=>∀b,e.2.2 b->¬e'.2.2 b)->(∀e∈l,∀b,e.2.2 b->¬O b)->(∀(i:Nat) (x:V),fs[i]? =some x->place i=some (V.offs fs i,x.size))->
 ∃cells',Instr.fill place cells (l.map (·.1))=some cells'/\Rep cz w F (.agg fs') cells'.toList (fun b=>O b\/∃e∈l,e.2.2 b)/\fs'.length=fs.length/\(∀(i:Nat) (x:V),fs'[i]? =some x->∃y:V,fs[i]? =some y/\y.size=x.size)
 |[],fs,fs',cells,O,hr,hf,_,_,_,hpl=>by
  simp only[List.map_nil,KZ,za]at hf;subst hf;exact⟨cells,rfl,hr.mono (fun _ h=>h) (fun _ h=>.inl h),rfl,fun i x hx=>⟨x,hx,rfl⟩⟩
 |e::l,fs,fs',cells,O,hr,hf,hok,hpw,hdO,hpl=>by
  obtain⟨⟨j,u⟩,⟨i,v⟩,Ov⟩:=e;obtain⟨hij,cs,hreg,hnh,hrep⟩:=hok ((j,u),(i,v),Ov) (by simp);have hij:j=i:=hij;have hreg:v.reg cs u:=hreg;have hrep:Rep cz w F v cs Ov:=hrep;have hnh:∀n,v≠.hole n:=hnh;subst hij;simp only[qo,KZ]at hf;split at hf
  ·rename_i x hx;split at hf
   ·rename_i hsz;have hcl:u.cells.toList=cs:=zAp hreg hnh hrep;have hlen:u.cells.size=v.size:=by rw[<-hrep.length,<-hcl];simp
    have hfit:V.offs fs j+v.size<=cells.size:=by
     have:=V.offs_succ_le hx;have hl:=hr.length;simp only[jm,V.size]at hl;omega
    let cells1:=(u.cells.zipIdx.foldl (fun cs (x:Value×Nat)=>cs.setIfInBounds (V.offs fs j+x.2) x.1) cells)
    have hc1:cells1.toList=cells.toList.take (V.offs fs j)++cs++cells.toList.drop (V.offs fs j+cs.length):=by
     have:=zru (V.offs fs j) cs cells (by rw[hrep.length];exact hfit);rw[<-this];show(u.cells.zipIdx.foldl _ cells).toList=_;rw[<-Array.foldl_toList,Array.toList_zipIdx,hcl]
    have hr1:Rep cz w F (.agg (fs.set j v)) cells1.toList (fun b=>O b\/Ov b):=zEq hr hx hsz hrep (hdO ((j,u),(j,v),Ov) (by simp)) hc1;obtain⟨hp1,hp2⟩:=List.pairwise_cons.1 hpw
    obtain⟨cells',e1,e2,e3,e4⟩:=zif (place:=place) hr1 hf (fun e he=>hok e (by simp[he])) hp2 (fun e he b hb hb'=>hb'.elim (hdO e (by simp[he]) b hb) (fun h=>hp1 e he b h hb)) (fun k y hk=>by
     rw[V.offs_set k hx hsz.symm];rcases V.set_some hk with⟨rfl,rfl⟩|⟨_,hk'⟩
     ·rw[hpl k x hx,hsz]
     ·exact hpl k y hk')
    refine⟨cells',?_,e2.mono (fun _ h=>h) (fun b hb=>?_),by simpa using e3,fun k y hk=>?_⟩
    ·simp only[qo,Instr.fill];rw[hpl j x hx];simp only;rw[if_neg (by rw[hlen,hsz];simp;omega)];exact e1
    ·rcases hb with(hb|hb)|⟨e,he,hb⟩
     ·exact .inl hb
     ·exact .inr ⟨((j,u),(j,v),Ov),by simp,hb⟩
     ·exact .inr ⟨e,by simp[he],hb⟩
    ·obtain⟨z,hz,hzs⟩:=e4 k y hk;rcases V.set_some hz with⟨rfl,rfl⟩|⟨_,hk'⟩
     ·exact⟨x,hx,by rw[hsz];exact hzs⟩
     ·exact⟨z,hk',hzs⟩
   ·cases hf
  ·cases hf
end
def Kn(C:Ctx)(ty:Nat->TypeId):Env->List (Nat×Operand)->Option (Prop×List (Nat×V)×Env)
 |D,[]=>some (True,[],D)
 |D,(i,x)::xs=>match opd C.P D (ty i) x with
  |some (gx,A)=>match ju D A with
   |some (q,y,D1)=>if y.isHole then none else(match Kn C ty D1 xs with
    |some (p,vs,D2)=>some (gx=true/\q/\p,(i,y)::vs,D2)
    |none=>none)
   |none=>none
  |none=>none
def zdx(C:Ctx)(D:Env)(o:Oper):Option (Prop×Env):=
 match o.guard,o.op,o.dst with
 |none,.build t parts,some d=>match zcy C.P t,Kn C (fun i=>((Ku C.P t i).map (·.2)).getD 0) D parts.toList with
  |some zs,some (p,vs,D1)=>match KZ zs vs with
   |some fs=>if C.dst d then some (p,D1.put d true (.val (.agg fs)))else none
   |none=>none
  |_,_=>none
 |none,.buildSlice t n parts,some d=>match ul C.P t with
  |some e=>match zag C.P e,Kn C (fun _=>e) D parts.toList with
   |some z,some (p,vs,D1)=>if n*C.P.cellsOf e<=2^20/\0<C.P.cellsOf e/\0<n then(match KZ (List.replicate n z) vs with
    |some es=>if C.dst d then some (p,D1.put d true (.val (.slc true e z es)))else none
    |none=>none)else none
   |_,_=>none
  |none=>none
 |_,_,_=>none
section
variable {C:Ctx}{F:Nat->Prop}{O:Nat->Nat->Prop}{Z:Nat->Prop}{D D' D1:Env}{a:Act}{w w':World}
theorem zgc{ty:Nat->TypeId}:∀(parts:List (Nat×Operand)) (D D':Env) (O:Nat->Nat->Prop) (Z:Nat->Prop) (p:Prop) (vs:List (Nat×V)),Inv C F O Z D a w->Kn C ty D parts=some (p,vs,D')->p->
 ∃l:List zCI,l.map (·.1)=parts.map (fun x=>(x.1,a.eval x.2))/\l.map (·.2.1)=vs/\(∀e∈l,zAx C.cz w F e)/\l.Pairwise (fun e e'=>∀b,e.2.2 b->¬e'.2.2 b)/\(∀e∈l,∀b,e.2.2 b->¬Z b)/\∃O',Inv C F O' (fun b=>Z b\/∃e∈l,e.2.2 b) D' a w
 |[],D,D',O,Z,p,vs,hI,h,_=>by
  simp only[Kn,za,zb]at h;obtain⟨_,rfl,rfl⟩:=h;exact⟨[],rfl,rfl,fun e he=>(by cases he),.nil,fun e he=>(by cases he),O,hI.lessZ (fun b hb=>hb.elim id (fun⟨e,he,_⟩=>by cases he))⟩
 |(i,x)::xs,D,D',O,Z,p,vs,hI,h,hp=>by
  simp only[Kn]at h;split at h
  ·rename_i gx A hA;split at h
   ·rename_i q y D1 ht;split at h
    ·cases h
    rename_i hnh;split at h
    ·rename_i p' vs' D2 hr;simp only[za,zb]at h;obtain⟨rfl,rfl,rfl⟩:=h;obtain⟨p1,p2,p3⟩:=hp;obtain⟨cs,On,e1,e2⟩:=ZD hI (zX hI hA p1).1 ht p2;obtain⟨O1,hI1⟩:=e2.inv;obtain⟨l,l1,l2,l3,l4,l5,O2,hI2⟩:=zgc xs D1 _ O1 _ p' vs' hI1 hr p3;refine⟨((i,a.eval x),(i,y),On)::l,by simp[l1],by simp[l2],fun e he=>?_,List.pairwise_cons.2 ⟨fun e he b hb hb'=>l5 e he b hb' (.inr hb),l4⟩,fun e he b hb=>?_,O2,hI2.lessZ (fun b hb=>?_)⟩
     ·rcases zJ.1 he with rfl|he
      ·exact⟨rfl,cs,e1,fun n hn=>by simp only at hn;subst hn;simp[V.isHole]at hnh,e2.rep⟩
      ·exact l3 e he
     ·rcases zJ.1 he with rfl|he
      ·exact e2.new b hb
      ·exact fun hz=>l5 e he b hb (.inl hz)
     ·rcases hb with hb|⟨e,he,hb⟩
      ·exact .inl (.inl hb)
      ·rcases zJ.1 he with rfl|he
       ·exact .inl (.inr hb)
       ·exact .inr ⟨e,he,hb⟩
    ·cases h
   ·cases h
  ·cases h
theorem zmP(hI:Inv C F O (fun _=>False) D a w){o:Oper}{p:Prop}(h:zdx C D o=some (p,D'))(hp:p){Q:Exit->Act->World->Prop}:o.guard=none/\o.wp C.P a w (G C D') Q:=by
 unfold zdx at h;split at h
 ·rename_i t parts d hg hop hd;refine⟨hg,?_⟩;split at h
  ·rename_i zs p' vs D1 h1 h2;split at h
   ·rename_i fs hf;split at h
    ·rename_i hdd;simp only[za,zb]at h;obtain⟨rfl,rfl⟩:=h;unfold zcy at h1;split at h1
     ·rename_i zs' fds hz hu;split at h1
      ·rename_i hpl;simp only[za]at h1;subst h1;obtain⟨i,z,hi,hzz,hzl,hzr⟩:=KI hz;obtain⟨l,l1,l2,l3,l4,l5,O',hI'⟩:=zgc _ _ _ _ _ _ _ hI h2 hp;subst l2;obtain⟨cells',e1,e2,_⟩:=zif (cells:=z.cells) (place:=((V.places zs' 0).toArray[·]?)) hzr hf l3 l4 (fun _ _ _ _ h=>h) (fun i x hx=>by simp[V.places_get,hx]);rw[l1]at e1
       have hb:C.P.built t (parts.map fun(i,x)=>(i,a.eval x)).toList=some cells':=by
        unfold Program.built;simp only[hi,hu,hzz,hpl];rw[<-e1];congr 1;simp
       have hrun:(execOp a.eval o).run C.P w=.ok (.value (.agg cells')) w:=by
        simp only[execOp,hop,Sem.run_bind];rw[run_build w t _ cells' hb];rfl
       unfold Oper.wp;rw[hrun,Oper.upon_value,hd];exact⟨F,_,(hI'.putVal (by rw[hI'.ts];exact hdd.2) (.inl hdd.1) (g:=true) (x:=.agg fs) (v:=.agg cells') (cs:=cells'.toList) (On:=fun b=>False\/∃e∈l,e.2.2 b) (fun _=>⟨by simp[V.reg],e2⟩) (fun b hb=>hb) (by simp)).lessZ (fun _ h=>h.elim)⟩
      ·cases h1
     ·cases h1
    ·cases h
   ·cases h
  ·cases h
 ·rename_i t n parts d hg hop hd;refine⟨hg,?_⟩;split at h
  ·rename_i e he;split at h
   ·rename_i z p' vs D1 hz h1;split at h
    ·rename_i hcz;split at h
     ·rename_i es hf;split at h
      ·rename_i hdd;simp only[za,zb]at h;obtain⟨rfl,rfl⟩:=h;obtain⟨i,zv,hi,hzz,hzl,hzr⟩:=KI hz;have hisz:C.P.cellsOf e=i.size:=(by simp[Program.cellsOf,hi]);have hzl':zv.cells.size=i.size:=(by simpa using hzl);have hpos:0<zv.cells.size:=(by omega);obtain⟨l,l1,l2,l3,l4,l5,O',hI'⟩:=zgc _ _ _ _ _ _ _ hI h1 hp;subst l2
       have hagg:Rep C.cz w F (.agg (List.replicate n z)) (madeCells zv.cells (n*zv.cells.size)).toList (fun _=>False):=
        zkH (hzr (w:=w) (F:=F)) n (by simp[size_madeCells]) (fun k hk=>by simpa using zeo zv.cells n k hk hpos)
       have hzs:∀x∈List.replicate n z,x.size=i.size:=by intro x hx;rw[(List.mem_replicate.1 hx).2,<-(hzr (w:=w) (F:=F)).length,hzl]
       obtain⟨cells',e1,e2,e3,e4⟩:=zif (place:=fun k=>some (k*i.size,i.size)) hagg hf l3 l4 (fun _ _ _ _ h=>h) (fun k x hx=>by
        have hk:k<n:=by have:=(zq.1 hx).1;simpa using this
        rw[Ju _ hzs k (by simp;omega),hzs x (yo hx)])
       rw[l1]at e1;have hes:es.length=n:=by simpa using e3
       have hesz:∀x∈es,x.size=i.size:=by
        intro x hx;obtain⟨k,hk⟩:=YR.1 hx;obtain⟨y,hy,hys⟩:=e4 k x hk;rw[<-hys];exact hzs y (yo hy)
       have hlen:cells'.size=n*i.size:=by
        have:=e2.length;simp only[jm,V.size]at this;rw[this];have:=Ju es hesz n (by omega);rw[<-this];unfold V.offs;rw[zB (by omega)]
       have hbig:¬(n*i.size>2^24):=(by rw[hisz]at hcz;omega);have hmap:(parts.map fun(i,x)=>(i,a.eval x)).toList=parts.toList.map (fun x:Nat×Operand=>(x.1,a.eval x.2)):=by simp
       have h0:¬n*i.size=0:=by
        intro h0;rcases Nat.mul_eq_zero.1 h0 with h|h<;>omega
       have hrun:(execOp a.eval o).run C.P w=.ok (.value (.slice (some ⟨w.heap.size,0,none⟩) n n)) (w.alloc (.cells cells' e)):=by
        simp only[execOp,hop,Sem.run_bind];simp only[Instr.buildSlice,Sem.run_bind,run_underlying (Zo he),Result.andThen_ok,Go.sizeOf,typeInfo,run_program,hi,Sem.run_pure,if_neg hbig,if_neg h0,zeroValue,hzz];rw[hmap]
        have e1':Instr.fill (fun k=>some (k*i.size,i.size)) ((Array.range (n*i.size)).map (zv.cells[·%zv.cells.size]!)) (parts.toList.map (fun x:Nat×Operand=>(x.1,a.eval x.2)))=some cells':=by
         rw[<-e1];congr 1;rw[hzl'];simp[madeCells,hzl']
        simp[e1',newRow]
       have hlt:∀b,(∃e∈l,e.2.2 b)->b<w.heap.size:=fun b hb=>hI'.zlt b (.inr hb)
       have hrep:Rep C.cz (w.alloc (.cells cells' e)) F (.slc true e z es) [.slice (some ⟨w.heap.size,0,none⟩) n n] (fun b=>b=w.heap.size\/∃e∈l,e.2.2 b):=by
        cases e2 with
        |agg fs cs Os _ hn hOs hdis hr=>
         refine .own e z es w.heap.size n n cells' (fun k=>(cells'.toList.drop (k*i.size)).take i.size) Os _ (Deep.blk_alloc_new w _) (by rw[hlen];show _=n*C.P.cellsOf e;rw[hisz]) hes.symm (by omega) ?_ (.inl rfl) (fun k b hb=>?_) hdis
          (fun k hk=>⟨?_,?_⟩) (fun k x hx=>?_) (fun hb=>absurd hb (by rw[zk3 (hzr (w:=w) (F:=F))];simp))
         ·have:n<=n*i.size:=Nat.le_mul_of_pos_right n (by omega);rw[hisz]at hcz;simp only[maxLen];omega
         ·have:=(hOs k b hb).elim False.elim id;exact⟨.inr this,by have:=hlt b this;omega⟩
         ·have:(k+1)*i.size<=n*i.size:=qb _ (by omega);rw[jj]at this;show _=C.P.cellsOf e;rw[hisz];simp;omega
         ·intro j v hj;rw[zY]at hj;split at hj
          ·rw[zZ]at hj;rw[World.cell?_alloc_new];show cells'[k*C.P.cellsOf e+j]? =_;rw[hisz];simpa using hj
          ·cases hj
         ·have hk:k<es.length:=(zq.1 hx).1;have:=hr k x hx;rw[Ju es hesz k (by omega),hesz x (yo hx)]at this;exact this.alloc hI.flt (fun b hb=>hlt b ((hOs k b hb).elim False.elim id)) _
       have h2:Inv C F O' (fun b=>b=w.heap.size\/∃e∈l,e.2.2 b) D1 a (w.alloc (.cells cells' e)):=
        hI'.worldZ (by simp) (fun k hk _=>Deep.blk_alloc_lt w _ k hk) (fun b hb=>hb.elim (fun hb=>.inr (by subst hb;simp)) (fun hb=>.inl (.inr hb)))
         (fun _ b off u _ hz hu h0=>by
          have hb:b<w.heap.size:=hz.elim False.elim (hlt b);rw[World.cell?_of_block (a:=⟨b,off,none⟩) (Deep.blk_alloc_lt w _ b hb)]
          exact h0) rfl rfl ⟨rfl,zw _⟩
       unfold Oper.wp;rw[hrun,Oper.upon_value,hd];exact⟨F,_,(h2.putVal (by rw[hI'.ts];exact hdd.2) (.inl hdd.1) (g:=true) (x:=.slc true e z es) (v:=.slice (some ⟨w.heap.size,0,none⟩) n n) (cs:=[.slice (some ⟨w.heap.size,0,none⟩) n n]) (On:=fun b=>b=w.heap.size\/∃e∈l,e.2.2 b) (fun _=>⟨rfl,hrep⟩) (fun b hb=>hb) (by simp)).lessZ (fun _ h=>h.elim)⟩
      ·cases h
     ·cases h
    ·cases h
   ·cases h
  ·cases h
 ·cases h
end
def zyv:BinOp->Option Bool
 | .eql=>some false
 | .neq=>some true
 |_=>none
def zlc(C:Ctx)(D:Env)(o:Oper):Option (Nat×Prop×List V×Bool×Bool):=
 match o.guard,o.op,o.dst with
 |none,.binOp op xt x (.const (.slice none 0 0)) _,some d=>match zyv op with
  |some ng=>match ul C.P xt,opd C.P D xt x with
   |some _,some (gx,A)=>if A.isAg then none else(match A.look D with
    |some (.slc oo _ dd es)=>if C.dst d then some (d,gx=true/\A.okA D,es,oo&&dd.isBox,ng)else none
    |_=>none)
   |_,_=>none
  |none=>none
 |_,_,_=>none
theorem zk0{P:Program}(w:World)(t e:TypeId)(a:Option Addr)(n c n' c':Nat)(h:P.underlying t=some (.slice e)):
 (binOp .neq t (.slice a n c) (.slice none n' c')).run P w=.ok (.bool (!a.isNone)) w:=by
 simp only[binOp];simp[Op.equal,Op.maxDepth,Lib.run_equalIn_slice_nil w 9999 t e a n c n' c' h]
section
variable {C:Ctx}{F:Nat->Prop}{O:Nat->Nat->Prop}{Z:Nat->Prop}{D D' D1:Env}{a:Act}{w w':World}
theorem zs1(hI:Inv C F O (fun _=>False) D a w){o:Oper}{d:Nat}{q:Prop}{es:List V}{xx ng:Bool}(h:zlc C D o=some (d,q,es,xx,ng))(hq:q){Q:Exit->Act->World->Prop}:
 o.guard=none/\o.wp C.P a w (fun a' w'=>∃b:Bool,(es≠[]->b=false)/\(xx=true->es=[]->b=true)/\G C (D.put d true (.val (.bool (b !=ng)))) a' w') Q:=by
 unfold zlc at h;split at h
 ·rename_i bo xt x yt d' hg hop hd;refine⟨hg,?_⟩;split at h
  case h_2=>cases h
  rename_i ng' hng;split at h
  ·rename_i e gx A he hA;split at h
   ·cases h
   rename_i hna;split at h
   ·rename_i oo ee dd es' hlk;split at h
    ·rename_i hdd;simp only[za,zb]at h;obtain⟨rfl,rfl,rfl,rfl,rfl⟩:=h;have hh:=(zX hI hA hq.1).1
     have src:∃u Oy,a.eval x=u/\Rep C.cz w F (.slc oo ee dd es') [u] Oy:=by
      cases A with
      |val z'=>
       simp only[A.look,za]at hlk;subst hlk;obtain⟨cs,e1,e2⟩:=hh;have hl:=e2.length
       match cs,hl with
       |[u],_=>exact⟨u,_,e1,e2⟩
      |rf s ver pp=>
       simp only[A.look,zP]at hlk;obtain⟨r,hr,hrat⟩:=hlk;have hk:=hq.2;simp only[A.okA,hr]at hk;obtain⟨cs,Oy,e1,e2,_⟩:=KO hI hh hr hk;rw[hrat]at e1 e2;have hl:=e2.length
       match cs,hl with
       |[u],_=>exact⟨u,Oy,e1,e2⟩
      |ag=>simp[A.isAg]at hna
      |ad=>simp[A.look]at hlk
      |fz=>simp[A.look]at hlk
     obtain⟨u,Oy,hu,hrep⟩:=src
     have hv:∃ad len cap,u=.slice ad len cap/\(es'≠[]->ad.isNone=false)/\((oo&&dd.isBox)=true->es'=[]->ad.isNone=true):=by
      cases hrep with
      |fz0=>exact⟨_,_,_,rfl,fun h=>absurd rfl h,fun h=>by simp at h⟩
      |fz=>exact⟨_,_,_,rfl,fun _=>rfl,fun h=>by simp at h⟩
      |own0=>exact⟨_,_,_,rfl,fun h=>absurd rfl h,fun _ _=>rfl⟩
      |own _ _ _ _ _ _ _ _ _ _ _ _ _ _ _ _ _ _ _ _ hd9=>exact⟨_,_,_,rfl,fun _=>rfl,fun h e=>absurd e (hd9 (by simpa using h))⟩
     obtain⟨ad,len,cap,rfl,hne,hxx⟩:=hv
     have hrun:(execOp a.eval o).run C.P w=.ok (.value (.bool (ad.isNone !=ng'))) w:=by
      have hc:a.eval (.const (.slice none 0 0))=.slice none 0 0:=rfl;unfold zyv at hng;split at hng
      ·simp only[za]at hng;subst hng;have hguard:eqGuard .eql xt x (.const (.slice none 0 0)) (.slice ad len cap) (.slice none 0 0)=pure ():=rfl;simp only[execOp,hop,hu,hc,hguard,Sem.run_bind,Sem.run_pure,Result.andThen_ok];rw[Lib.run_eql_slice_nil w xt e ad len cap 0 0 (Zo he)];simp
      ·simp only[za]at hng;subst hng;have hguard:eqGuard .neq xt x (.const (.slice none 0 0)) (.slice ad len cap) (.slice none 0 0)=pure ():=rfl;simp only[execOp,hop,hu,hc,hguard,Sem.run_bind,Sem.run_pure,Result.andThen_ok];rw[zk0 w xt e ad len cap 0 0 (Zo he)];simp
      ·cases hng
     unfold Oper.wp;rw[hrun,Oper.upon_value,hd];exact⟨ad.isNone,hne,hxx,F,_,(hI.putVal (by rw[hI.ts];exact hdd.2) (.inl hdd.1) (g:=true) (x:=.bool (ad.isNone !=ng')) (v:=.bool (ad.isNone !=ng')) (cs:=[.bool (ad.isNone !=ng')]) (On:=fun _=>False) (fun _=>⟨rfl,.bool ..⟩) (fun _ h=>h) (by simp)).lessZ (fun _ h=>h.elim)⟩
    ·cases h
   ·cases h
  ·cases h
 ·cases h
def zma(C:Ctx)(D:Env)(o:Oper):Option (Prop×Env):=
 match o.guard,o.op,o.dst with
 |none,.assign (.const (.slice none 0 0)),some d=>match ul C.P o.type with
  |some e=>if C.dst d then some (True,D.put d true (.val (.slc true e V.nilG [])))else none
  |none=>none
 |_,_,_=>none
theorem zvz(hI:Inv C F O (fun _=>False) D a w){o:Oper}{p:Prop}(h:zma C D o=some (p,D')){Q:Exit->Act->World->Prop}:o.guard=none/\o.wp C.P a w (G C D') Q:=by
 unfold zma at h;split at h
 ·rename_i d hg hop hd;refine⟨hg,?_⟩;split at h
  ·rename_i e he;split at h
   ·rename_i hdd;simp only[za,zb]at h;obtain⟨rfl,rfl⟩:=h
    have hrun:(execOp a.eval o).run C.P w=.ok (.value (.slice none 0 0)) w:=by
     have hc:a.eval (.const (.slice none 0 0))=.slice none 0 0:=rfl;simp only[execOp,hop,hc,Sem.run_bind,Sem.run_pure,Result.andThen_ok]
    unfold Oper.wp;rw[hrun,Oper.upon_value,hd];exact⟨F,_,(hI.putVal (by rw[hI.ts];exact hdd.2) (.inl hdd.1) (g:=true) (x:=.slc true e V.nilG []) (v:=.slice none 0 0) (cs:=[.slice none 0 0]) (On:=fun _=>False) (fun _=>⟨rfl,.own0 ..⟩) (fun _ h=>h) (by simp)).lessZ (fun _ h=>h.elim)⟩
   ·cases h
  ·cases h
 ·cases h
end
def zr0(C:Ctx)(D:Env)(o:Oper):Option (Prop×Env):=
 match o.guard,o.op,o.dst with
 |none,.slice st x lo hi mx,some d=>match opd C.P D 0 x with
  |some (gx,.rf s ver [])=>match D.own s ver with
   |some (.slc true e dd es)=>match ul C.P st,kP C.P D true 0 lo,kP C.P D true es.length hi,kP C.P D true es.length mx with
    |some e',some (pl,l),some (ph,h),some (pm,m)=>if e=e'/\C.P.cellsOf e≠0/\C.dst d/\(mx.isSome=true->hi.isSome=true)then
     some (gx=true/\pl/\ph/\pm/\0<=l/\l<=h/\h<=m/\m<=(es.length:Int)/\C.st=false,
      ((D.drp s).put s true (.val (.slc false e dd.frz (V.frzs es)))).put d true (.val (.slc false e dd.frz (((V.frzs es).take h.toNat).drop l.toNat))))else none
    |_,_,_,_=>none
   |_=>none
  |_=>none
 |_,_,_=>none
section
variable {C:Ctx}{F:Nat->Prop}{O:Nat->Nat->Prop}{Z:Nat->Prop}{D D' D1:Env}{a:Act}{w w':World}
theorem zm2(len cap:Nat)(hle:len<=cap){lo hi mx:Option Operand}{pl ph pm:Prop}{l h m:Int}(hI:Inv C F O Z D a w)
 (h1:kP C.P D true 0 lo=some (pl,l)) (h2:kP C.P D true len hi=some (ph,h)) (h3:kP C.P D true len mx=some (pm,m)) (hpl:pl) (hph:ph) (hpm:pm)
 (l0:0<=l) (lh:l<=h) (hm:h<=m) (hml:m<=(len:Int)) (hs:mx.isSome=true->hi.isSome=true):
 ∃c,(Instr.sliceBounds true len cap (lo.map a.eval) (hi.map a.eval) (mx.map a.eval)).run C.P w=.ok (l.toNat,h.toNat,c) w/\h.toNat<=c/\c<=cap:=by
 cases mx with
 |none=>
  simp only[kP,za,zb]at h3;obtain⟨_,rfl⟩:=h3;exact⟨cap,zfO true len cap hle hI h1 h2 rfl hpl hph l0 lh hm,by omega,zw _⟩
 |some vm=>
  have em:=Ze hI h3 rfl hpm
  cases hi with
  |none=>exact absurd (hs rfl) (by simp)
  |some vh=>
   have eh:=Ze hI h2 rfl hph;have hmc:m<=(cap:Int):=(by omega);have hm0:0<=m:=(by omega);have hh0:0<=h:=(by omega);have hhm:h<=max m 0:=(by omega);refine⟨m.toNat,?_,by omega,by omega⟩
   cases lo with
   |none=>
    simp only[kP,za,zb]at h1;obtain⟨_,rfl⟩:=h1;simp[Instr.sliceBounds,Instr.sliceBound,em,eh,asIntOf,hmc,hm0,hh0,hhm]
   |some vl=>
    have el:=Ze hI h1 rfl hpl;have hlh:l<=max h 0:=(by omega);simp[Instr.sliceBounds,Instr.sliceBound,em,eh,el,asIntOf,hmc,hm0,hh0,hhm,l0,hlh]
theorem zvI(hI:Inv C F O (fun _=>False) D a w){o:Oper}{p:Prop}(h:zr0 C D o=some (p,D'))(hp:p){Q:Exit->Act->World->Prop}:o.guard=none/\o.wp C.P a w (G C D') Q:=by
 unfold zr0 at h;split at h
 ·rename_i st x lo hi mx d hg hop hd;refine⟨hg,?_⟩;split at h
  ·rename_i gx s ver hA;split at h
   ·rename_i e dd es hr;split at h
    ·rename_i e' pl l ph hh pm m he hlo hhi hmx;split at h
     ·rename_i hc;obtain⟨rfl,hcz,hdd,hmh⟩:=hc;simp only[za,zb]at h;obtain⟨rfl,rfl⟩:=h;obtain⟨p1,p2,p3,p4,l0,lh,hm,hml,hst⟩:=hp;obtain⟨hgs,_,ha⟩:=Env.own_elim hr;have hv:a.eval x=a.tmps.getD s undef:=(zX hI hA p1).1 _ _ hr trivial rfl;have hnew:∀b,O s b->C.w0.heap.size<=b\/(C.st=false/\C.X b):=fun b hb=>(hI.ofr s b hb).imp id (fun hx=>⟨hst,hx⟩);obtain⟨cs,e1,e2,e3,e4⟩:=hI.takeAll hgs ha;have hf:=(e4.freezeZ (Zf:=O s) (fun b hb=>.inr hb) hnew).lessZ (Z':=fun _=>False) (fun _ h=>h.elim);have hrep:=e2.frz;simp only[V.frz]at hrep;have h1:=hf.putVal (d:=s) (g:=true) (x:=.slc false e dd.frz (V.frzs es)) (v:=a.tmps.getD s undef) (cs:=cs) (On:=fun _=>False) e3 (.inr rfl) (fun _=>⟨e1,hrep⟩) (fun _ h=>h.elim) (by simp);rw[KQ rfl e3]at h1;have hu:=Zo he;obtain⟨i,hinf,hisz⟩:=QQ (P:=C.P) (t:=e) rfl hcz;have hdl:d<a.tmps.size:=(by rw[hI.ts];exact hdd.2);have hlen:(V.frzs es).length=es.length:=(by rw[V.frzs_eq,List.length_map]);generalize V.frzs es=fs at hrep h1 hlen ⊢
      have fin:∀v,(execOp a.eval o).run C.P w=.ok (.value v) w->Rep C.cz w (fun b=>F b\/O s b) (.slc false e dd.frz (((fs).take hh.toNat).drop l.toNat)) [v] (fun _=>False)->
       o.wp C.P a w (G C (((D.drp s).put s true (.val (.slc false e dd.frz (fs)))).put d true (.val (.slc false e dd.frz (((fs).take hh.toNat).drop l.toNat))))) Q:=by
       intro v hrun hv';have h2:=(h1.putVal hdl (.inl hdd.1) (g:=true) (x:=.slc false e dd.frz (((fs).take hh.toNat).drop l.toNat)) (v:=v) (cs:=[v]) (On:=fun _=>False) (fun _=>⟨rfl,hv'⟩) (fun _ h=>h.elim) (by simp)).lessZ (Z':=fun _=>False) (fun _ h=>h.elim);unfold Oper.wp;rw[hrun,Oper.upon_value,hd];exact⟨_,_,h2⟩
      cases hrep with
      |fz0 e d ad cap=>
       have e1':a.eval x=.slice ad 0 cap:=hv.trans e1;have hes:es.length=0:=(by rw[<-hlen];rfl);obtain⟨c,hb,_,_⟩:=zm2 es.length cap (by omega) hI hlo hhi hmx p2 p3 p4 l0 lh hm hml hmh;rw[hes]at hb;have hh0:hh.toNat=0:=(by omega);have hl0:l.toNat=0:=(by omega);refine fin (.slice (if c=0 then ad else ad.map (·.add (0*i.size))) 0 c) ?_ (by simp only[List.take_nil,List.drop_nil];exact .fz0 ..);simp[execOp,hop,e1',Instr.sliceAt,run_underlying hu,Instr.slice,hb,Go.sizeOf,typeInfo,hinf,hh0,hl0]
      |fz e d es0 b off len cap cs' O' hl' hcap hmm hF hcs hr'=>
       subst hl';have e1':a.eval x=.slice (some ⟨b,off,none⟩) (fs).length cap:=hv.trans e1;rw[hlen]at e1';obtain⟨c,hb,hb1,hb2⟩:=zm2 es.length cap (by omega) hI hlo hhi hmx p2 p3 p4 l0 lh hm hml hmh
       have hrun:(execOp a.eval o).run C.P w=.ok (.value (.slice (if c=l.toNat then some ⟨b,off,none⟩else some ⟨b,off+l.toNat*i.size,none⟩) (hh.toNat-l.toNat) (c-l.toNat))) w:=by
        simp[execOp,hop,e1',Instr.sliceAt,run_underlying hu,Instr.slice,hb,Go.sizeOf,typeInfo,hinf,Addr.add_lit]
       have hlen':(((fs).take hh.toNat).drop l.toNat).length=hh.toNat-l.toNat:=(by simp[hlen];omega);by_cases hemp:hh.toNat-l.toNat=0
       ·have:((fs).take hh.toNat).drop l.toNat=[]:=yS (by omega);refine fin _ hrun ?_;rw[this,hemp];exact .fz0 ..
       ·rw[if_neg (by omega)]at hrun;refine fin _ hrun (.fz e _ _ b _ _ _ (fun j=>cs' (l.toNat+j)) _ hlen'.symm (by omega) (by omega) hF (fun j hj=>?_) (fun j y hy=>?_))
        ·obtain⟨g1,g2⟩:=hcs (l.toNat+j) (by omega);refine⟨g1,?_⟩;have:off+l.toNat*i.size+j*C.P.cellsOf e=off+(l.toNat+j)*C.P.cellsOf e:=(by rw[hisz,jj];omega);rw[this];exact g2
        ·rw[zZ,zY]at hy;split at hy
         ·exact hr' _ _ hy
         ·cases hy
     ·cases h
    ·cases h
   ·cases h
  ·cases h
 ·cases h
theorem Inv.frz1(hI:Inv C F O (fun _=>False) D a w)(hst:C.st=false){s ver:Nat}{e:TypeId}{dd:V}{es:List V}(hr:D.own s ver=some (.slc true e dd es)):
 ∃F' O',Inv C F' O' (fun _=>False) ((D.drp s).put s true (.val (.slc false e dd.frz (V.frzs es)))) a w:=by
 obtain⟨hgs,_,ha⟩:=Env.own_elim hr;have hnew:∀b,O s b->C.w0.heap.size<=b\/(C.st=false/\C.X b):=fun b hb=>(hI.ofr s b hb).imp id (fun hx=>⟨hst,hx⟩);obtain⟨cs,e1,e2,e3,e4⟩:=hI.takeAll hgs ha;have hf:=(e4.freezeZ (Zf:=O s) (fun b hb=>.inr hb) hnew).lessZ (Z':=fun _=>False) (fun _ h=>h.elim);have hrep:=e2.frz;simp only[V.frz]at hrep;have h1:=hf.putVal (d:=s) (g:=true) (x:=.slc false e dd.frz (V.frzs es)) (v:=a.tmps.getD s undef) (cs:=cs) (On:=fun _=>False) e3 (.inr rfl) (fun _=>⟨e1,hrep⟩) (fun _ h=>h.elim) (by simp);rw[KQ rfl e3]at h1;exact⟨_,_,h1.lessZ (fun _ h=>h.elim)⟩
theorem Inv.frzG(hI:Inv C F O (fun _=>False) D a w)(hst:C.st=false){s ver:Nat}{y:V}(hr:D.own s ver=some y):
 ∃F' O',Inv C F' O' (fun _=>False) ((D.drp s).put s true (.val y.frz)) a w:=by
 obtain⟨hgs,_,ha⟩:=Env.own_elim hr;have hnew:∀b,O s b->C.w0.heap.size<=b\/(C.st=false/\C.X b):=fun b hb=>(hI.ofr s b hb).imp id (fun hx=>⟨hst,hx⟩);obtain⟨cs,e1,e2,e3,e4⟩:=hI.takeAll hgs ha;have hf:=(e4.freezeZ (Zf:=O s) (fun b hb=>.inr hb) hnew).lessZ (Z':=fun _=>False) (fun _ h=>h.elim);have hrep:=e2.frz;have h1:=hf.putVal (d:=s) (g:=true) (x:=y.frz) (v:=a.tmps.getD s undef) (cs:=cs) (On:=fun _=>False) e3 (.inr rfl) (fun _=>⟨V.frz_reg e1,hrep⟩) (fun _ h=>h.elim) (by simp);rw[KQ rfl e3]at h1;exact⟨_,_,h1.lessZ (fun _ h=>h.elim)⟩
theorem Inv.ghost{F:Nat->Prop}{O:Nat->Nat->Prop}{a:Act}{w:World}(hI:Inv C F O (fun _=>False) D a w){s ver:Nat}{e:TypeId}{d d':V}{es:List V}(hr:D.own s ver=some (.slc true e d es))(hd:d'.isBox=true->es≠[]):
 ∃F' O',Inv C F' O' (fun _=>False) ((D.drp s).put s true (.val (.slc true e d' es))) a w:=by
 obtain⟨hgs,_,ha⟩:=Env.own_elim hr;obtain⟨cs,e1,e2,e3,e4⟩:=hI.takeAll hgs ha
 have hrep:Rep C.cz w F (.slc true e d' es) cs (O s):=by
  cases e2 with
  |own0=>exact .own0 _ _ _
  |own _ _ _ b len cap cur cs Os _ hb hsz hl hc hm hO hOs hdis hcs hr hd9=>exact .own _ _ _ b len cap cur cs Os _ hb hsz hl hc hm hO hOs hdis hcs hr hd
 have hreg:(V.slc true e d' es).reg cs (a.tmps.getD s undef):=e1;have h1:=e4.putVal (d:=s) (g:=true) (x:=.slc true e d' es) (v:=a.tmps.getD s undef) (cs:=cs) (On:=O s) e3 (.inr rfl) (fun _=>⟨hreg,hrep⟩) (fun b hb=>.inr hb) (by simp);rw[KQ rfl e3]at h1;exact⟨_,_,h1.lessZ (fun _ h=>h.elim)⟩
theorem Rep.ghS{cz:TypeId->Nat}{w:World}{F:Nat->Prop}{e:TypeId}{d d':V}{es:List V}{cs:List Value}{O:Nat->Prop}(h:Rep cz w F (.slc true e d es) cs O)(hd:d'.isBox=true->es≠[]):Rep cz w F (.slc true e d' es) cs O:=by
 cases h with
 |own0=>exact .own0 _ _ _
 |own _ _ _ b len cap cur cs Os _ hb hsz hl hc hm hO hOs hdis hcs hr hd9=>exact .own _ _ _ b len cap cur cs Os _ hb hsz hl hc hm hO hOs hdis hcs hr hd
theorem Rep.ghF{cz:TypeId->Nat}{w:World}{F:Nat->Prop}{e:TypeId}{d d':V}{es fs:List V}{cs:List Value}{O:Nat->Prop}(h:Rep cz w F (.agg (.slc true e d es::fs)) cs O)(hd:d'.isBox=true->es≠[]):Rep cz w F (.agg (.slc true e d' es::fs)) cs O:=by
 cases h with
 |agg _ _ Os _ hn hOs hdis hr=>
  have hoff:∀i,V.offs (.slc true e d' es::fs) i=V.offs (.slc true e d es::fs) i:=fun i=>by cases i<;>rfl
  refine .agg _ cs Os O (by rw[hn];rfl) hOs hdis (fun i x hx=>?_)
  cases i with
  |zero=>
   simp only[qa,za]at hx;subst hx;exact(hr 0 _ rfl).ghS hd
  |succ i=>
   have:=hr (i+1) x hx;rw[hoff];exact this
theorem Inv.ghost2{F:Nat->Prop}{O:Nat->Nat->Prop}{a:Act}{w:World}(hI:Inv C F O (fun _=>False) D a w){s ver:Nat}{e e':TypeId}{d d':V}{es fs:List V}(hr:D.own s ver=some (.box e (.agg (.slc true e' d es::fs))))(hd:d'.isBox=true->es≠[]):
 ∃F' O',Inv C F' O' (fun _=>False) ((D.drp s).put s true (.val (.box e (.agg (.slc true e' d' es::fs))))) a w:=by
 obtain⟨hgs,_,ha⟩:=Env.own_elim hr;obtain⟨cs,e1,e2,e3,e4⟩:=hI.takeAll hgs ha
 have hrep:Rep C.cz w F (.box e (.agg (.slc true e' d' es::fs))) cs (O s):=by
  cases e2 with
  |box _ _ b cur cs' Oc _ hb hcs hO hOs hrc=>exact .box _ _ b cur cs' Oc _ hb hcs hO hOs (hrc.ghF hd)
 have hreg:(V.box e (.agg (.slc true e' d' es::fs))).reg cs (a.tmps.getD s undef):=e1;have h1:=e4.putVal (d:=s) (g:=true) (x:=.box e (.agg (.slc true e' d' es::fs))) (v:=a.tmps.getD s undef) (cs:=cs) (On:=O s) e3 (.inr rfl) (fun _=>⟨hreg,hrep⟩) (fun b hb=>.inr hb) (by simp);rw[KQ rfl e3]at h1;exact⟨_,_,h1.lessZ (fun _ h=>h.elim)⟩
end
def zfz(C:Ctx)(D:Env)(o:Oper):Option (Prop×Env):=
 match o.guard,o.op with
 |none,.call ⟨.value (.func k),args,ats⟩=>match C.Ψ k with
  |some (j,true,c)=>match zaG j args.toList with
   |some x=>match opd C.P D (ats.toList.getD j 0) x with
    |some (gx,A)=>match ju D A with
     |some (q,y,D1)=>match YM C.P D1 true (jl j args.toList) (jl j ats.toList)with
      |some (p,vs,br)=>match c (Jw j y vs)with
       |some (q2,r,_)=>if br&& !r.noFz then none else(match o.dst with
        |some d=>if C.dst d then some (gx=true/\q/\p/\q2/\C.st=false,D1.put d true (.val r))else none
        |none=>some (gx=true/\q/\p/\q2/\C.st=false,D1))
       |none=>none
      |none=>none
     |none=>none
    |none=>none
   |none=>none
  |_=>none
 |_,_=>none
section
variable {C:Ctx}{F:Nat->Prop}{O:Nat->Nat->Prop}{Z:Nat->Prop}{D D' D1:Env}{a:Act}{w w':World}
theorem zmD(hC:IOk C)(hI:Inv C F O (fun _=>False) D a w){o:Oper}{p:Prop}(h:zfz C D o=some (p,D'))(hp:p){Q:Exit->Act->World->Prop}:o.guard=none/\o.wp C.P a w (G C D') Q:=by
 unfold zfz at h;split at h
 ·rename_i k args ats hg hop;refine⟨hg,?_⟩;split at h
  ·rename_i j c hΨ;split at h
   ·rename_i x hx;rw[znE]at hx;split at h
    ·rename_i gx A hA;split at h
     ·rename_i q y D1 ho;split at h
      ·rename_i pl vs br hl;split at h
       ·rename_i q2 r y' hc;split at h
        ·cases h
        rename_i hbr
        have main:gx=true/\q/\pl/\q2/\C.st=false->o.wp C.P a w (fun a' w'=>∃v On F' O',a'=a.put o.dst v/\(∃cs,r.reg cs v/\Rep C.cz w' F' r cs On)/\Inv C F' O' On D1 a w') Q:=by
         rintro⟨p1,p2,p3,p4,p5⟩;obtain⟨cs,Oy,e1,e2⟩:=ZD hI (zX hI hA p1).1 ho p2;obtain⟨O1,hI1⟩:=e2.inv;obtain⟨l1,l2⟩:=zeN hI1 rfl hl p3;obtain⟨hcall,hjj,hfn⟩:=(hC.2 k j true c _ q2 r y' hΨ hc p4:zy0 C.P k j _ r);obtain⟨cv,c1,c2,c3⟩:=znQ hI hop (by rfl:opd C.P D 0 (.func k)=some (true,.val (.fn k []))) rfl hcall rfl;have hcv:cv= #[]:=Array.eq_empty_of_size_eq_zero (by simpa using c1);subst hcv;have hjl:j<args.toList.length:=(zq.1 hx).1;have hsk:=zff j args.toList hjl;have hjv:j<=vs.length:=by omega
         have hget:∀i,((args.map a.eval)++(#[]:Array Value)).getD i undef=((args.toList.map a.eval).toArray).getD i undef:=by
          intro i;simp[zD]
         have hvj:((args.map a.eval)++(#[]:Array Value)).getD j undef=a.eval x:=by
          rw[hget];simp only[zD,uB,zK,hx,qy,qv]
         have hall:∀(i:Nat) (x':V),(Jw j y vs)[i]? =some x'->∃csi:List Value,x'.reg csi (((args.map a.eval)++(#[]:Array Value)).getD i undef)/\Rep C.cz w (fun b=>F b\/(br=true/\∃s,O1 s b)) x' csi (if i=j then Oy else fun _=>False):=by
          intro i xi hvi;by_cases hij:i=j
          ·subst hij;rw[zcW y i i vs hjv]at hvi;simp only[Nat.lt_irrefl,if_false,if_true,za]at hvi;subst hvi;rw[hvj,if_pos rfl];exact⟨cs,e1,e2.rep.mono (fun _ h=>.inl h) (fun _ h=>h)⟩
          ·rw[zcW y j i vs hjv]at hvi
           have key:∃i',vs[i']? =some xi/\((jl j args.toList).map a.eval).toArray.getD i' undef=((args.map a.eval)++(#[]:Array Value)).getD i undef:=by
            split at hvi
            ·rename_i hlt;refine⟨i,hvi,?_⟩;rw[hget];simp only[zD,uB,zK,zdi,if_pos hlt]
            ·rename_i hlt;try rw[if_neg hij]at hvi
             refine⟨i-1,hvi,?_⟩;rw[hget];simp only[zD,uB,zK,zdi];rw[if_neg (by omega),show i-1+1=i by omega]
           obtain⟨i',k1,k2⟩:=key;obtain⟨csi,f1,f2⟩:=l2 i' xi k1;rw[if_neg hij,<-k2];exact⟨csi,f1,f2⟩
         have hOy:∀b,Oy b->b<w.heap.size/\¬F b:=fun b hb=>⟨hI1.zlt b (.inr hb),hI1.zf b (.inr hb)⟩
         have hcalls:=hfn ((args.map a.eval)++ #[]) w (fun b=>F b\/(br=true/\∃s,O1 s b)) Oy (by
          rw[zgG];have:args.size=args.toList.length:=rfl;simp only[Array.append_empty,Array.size_map]
          omega) hall
          (fun b hb=>hb.elim (hI.flt b) (fun hb=>by obtain⟨_,s,hb⟩:=hb;exact hI1.olt s b hb))
          (fun b hb=>⟨(hOy b hb).1,fun hf=>hf.elim (hOy b hb).2 (fun hf=>by obtain⟨_,s,hf⟩:=hf;exact hI1.oz s b hf (.inr hb))⟩) (hI.gl hC.1 (fun b hb=>.inl hb))
         unfold Oper.wp;rw[c3,Oper.upon_enter];refine hcalls.mono (fun e w' he=>?_);obtain⟨v,cr,On,Fr,rfl,g1,g2,g3,g4,s1,s2,s3,s4,s5⟩:=he
         have hres:Rep C.cz w' (fun b=>F b\/Fr b) r cr On:=by
          cases hb:br with
          |false=>exact g2.mono (fun b h=>h.imp (fun h=>h.resolve_right (by simp[hb])) id) (fun _ h=>h)
          |true=>exact g2.noFz (by simpa [hb]using hbr)
         have h1:=hI1.worldZ (w':=w') (Z':=fun b=>On b\/Fr b) s1 (fun k hk hn=>s5 k hk (fun h=>hn (.inr h))) (fun b hb=>(g3 b hb).imp (fun h=>.inr h) id)
          (fun hst=>by rw[p5]at hst;cases hst) s2 s3 s4
         have h2:=h1.freezeZ (Zf:=Fr) (fun b hb=>.inr hb) (fun b hb=>by
          rcases g3 b (.inr hb)with h|h
          ·exact(hI1.zfr b (.inr h)).imp id (fun hx=>⟨p5,hx⟩)
          ·exact .inl (Nat.le_trans hI.size h.1))
         have h3:=h2.lessZ (Z':=On) (fun b hb=>⟨.inl hb,g4 b hb⟩)
         cases hd:o.dst with
         |none=>exact⟨v,On,_,O1,by simp[Act.put],⟨cr,g1,hres⟩,h3⟩
         |some d=>exact⟨v,On,_,O1,rfl,⟨cr,g1,hres⟩,h3⟩
        split at h
        ·rename_i d hd;split at h
         ·rename_i hdd;simp only[za,zb]at h;obtain⟨rfl,rfl⟩:=h;refine Oper.wp_mono (fun a' w' hh=>?_) (main hp);obtain⟨v,On,F',O',rfl,⟨cr,g1,g2⟩,hI'⟩:=hh;rw[hd];exact⟨F',_,(hI'.putVal (by rw[hI'.ts];exact hdd.2) (.inl hdd.1) (g:=true) (On:=On) (fun _=>⟨g1,g2⟩) (fun _ h=>h) (by simp)).lessZ (fun _ h=>h.elim)⟩
         ·cases h
        ·rename_i hd;simp only[za,zb]at h;obtain⟨rfl,rfl⟩:=h;refine Oper.wp_mono (fun a' w' hh=>?_) (main hp);obtain⟨v,On,F',O',rfl,⟨cr,g1,g2⟩,hI'⟩:=hh;rw[hd];exact⟨F',O',(hI'.lessZ (fun _ h=>h.elim))⟩
       ·cases h
      ·cases h
     ·cases h
    ·cases h
   ·cases h
  ·cases h
 ·cases h
end
section
variable {cz:TypeId->Nat}{w w':World}{F:Nat->Prop}
theorem zwg{i:Nat}{p:List Nat}{x:V}{b0 o0 b o:Nat}{cs:List Value}{O:Nat->Prop}(h:Rep cz w F x cs O)(hc:qK w b0 o0 cs)(hok:x.okp (i::p))(hl:locM cz w (i::p) x b0 o0=some (b,o))(hH:x.isH=true):O b:=by
 cases h with
 |int=>exact hok.1.elim
 |bool=>exact hok.1.elim
 |str=>exact hok.1.elim
 |hole=>exact hok.1.elim
 |fz0=>have:=hok.1;simp[V.hasKid]at this
 |fz=>have:=hok.1;simp[V.hasKid]at this
 |own0=>have:=hok.1;simp[V.hasKid]at this
 |tup=>exact hok.1.elim
 |fb=>exact hok.1.elim
 |fn=>exact hok.1.elim
 |agg fs=>cases hH
 |own e d es b1 len cap cur cs' Os O hb hsz hl' hcap hm hO hOs hdis hcs hr hd9=>
  have hlt:i<es.length:=hok.1.2;have hh:=hc 0 _ rfl;simp only[yk]at hh;simp only[locM]at hl;rw[hh]at hl;dsimp only at hl;obtain⟨b2,o2,_,Oy,e1,_,_,e4,_,e6⟩:=Rep.takeM p (es.getD i d) b1 (i*cz e) (cs' i) (Os i) (hr i _ (yH d hlt)) (hcs i hlt).2 hok.2;rw[hl]at e1;simp only[za,zb]at e1;obtain⟨rfl,rfl⟩:=e1;rcases e6 with e6|e6
  ·rw[e6.1];exact hO
  ·exact(hOs i _ e6.1).1
 |box e c b1 cur cs' Oc O hb hcs hO hOs hr=>
  have hh:=hc 0 _ rfl;simp only[yk]at hh;simp only[locM]at hl;rw[hh]at hl;dsimp only at hl
  have hcells:qK w b1 0 cs':=by
   intro j v hj;subst hcs;simp at hj;simp[World.cell?,hb,hj]
  obtain⟨b2,o2,_,Oy,e1,_,_,e4,_,e6⟩:=Rep.takeM p c b1 0 cs' Oc hr hcells hok.2;rw[hl]at e1;simp only[za,zb]at e1;obtain⟨rfl,rfl⟩:=e1;rcases e6 with e6|e6
  ·rw[e6.1];exact hO
  ·exact(hOs _ e6.1).1
theorem zgD{y:V}{i:Nat}{p:List Nat}{b o:Nat}(hU:∀k,k≠b->w'.heap[k]? =w.heap[k]?):∀(q:List Nat) (x:V) (b0 o0:Nat) (cs:List Value) (O:Nat->Prop),Rep cz w F x cs O->qK w b0 o0 cs->¬O b0->x.okp (q++i::p)->y.size=(x.at (q++i::p)).size->
 locM cz w (q++i::p) x b0 o0=some (b,o)->
 locM cz w' q (x.upd (q++i::p) y) b0 o0=locM cz w q x b0 o0/\
  (((x.upd (q++i::p) y).at q).isH=true->(x.at q).isH=true/\∀b1 o1,locM cz w q x b0 o0=some (b1,o1)->w'.cell? ⟨b1,o1,none⟩=w.cell? ⟨b1,o1,none⟩)
 |[],x,b0,o0,cs,O,h,hc,hO,hok,hs,hl=>by
  refine⟨rfl,fun hH=>?_⟩;simp only[yV,V.upd,V.at,V.isH_setKid]at hH ⊢;refine⟨hH,fun b1 o1 he=>?_⟩;simp only[locM,za,zb]at he;obtain⟨rfl,rfl⟩:=he;have hb:=zwg h hc hok hl hH;exact World.cell?_of_block (a:=⟨b0,o0,none⟩) (hU b0 (fun e=>hO (e▸hb)))
 |j::q,x,b0,o0,cs,O,h,hc,hO,hok,hs,hl=>by
  have hin:x.isH=true->w'.cell? ⟨b0,o0,none⟩=w.cell? ⟨b0,o0,none⟩:=fun hH=>
   World.cell?_of_block (a:=⟨b0,o0,none⟩) (hU b0 (fun e=>hO (e▸zwg h hc hok hl hH)))
  simp only[yf]at hok hs hl ⊢;simp only[V.upd]
  cases h with
  |int=>exact hok.1.elim
  |bool=>exact hok.1.elim
  |str=>exact hok.1.elim
  |hole=>exact hok.1.elim
  |fz0=>have:=hok.1;simp[V.hasKid]at this
  |fz=>have:=hok.1;simp[V.hasKid]at this
  |own0=>have:=hok.1;simp[V.hasKid]at this
  |tup=>exact hok.1.elim
  |fb=>exact hok.1.elim
  |fn=>exact hok.1.elim
  |own e d es b1 len cap cur cs' Os O hb1 hsz hl' hcap hm hOb hOs hdis hcs hr hd9=>
   have hlt:j<es.length:=hok.1.2;have hh:=hc 0 _ rfl;simp only[yk]at hh;have hh':=hin rfl;rw[hh]at hh';simp only[locM]at hl;rw[hh]at hl;dsimp only at hl;have ih:=zgD hU q (es.getD j d) b1 (j*cz e) (cs' j) (Os j) (hr j _ (yH d hlt)) (hcs j hlt).2 (fun hz=>(hOs j _ hz).2 rfl) hok.2 hs hl;have hg:∀z,(es.set j z).getD j d=z:=fun z=>(by rw[zd,Zj hlt];rfl);simp only[V.setKid,V.kid,locM,hh',hh,V.at,hg];exact ih
  |agg fs cs' Os O hn hOs hdis hr=>
   have hlt:j<fs.length:=hok.1;have hj:=yH (.hole 0) hlt;simp only[locM]at hl;have hsz:=V.size_upd (q++i::p) (fs.getD j (.hole 0)) y hok.2 hs;have ih:=zgD hU q (fs.getD j (.hole 0)) b0 (o0+V.offs fs j) _ (Os j) (hr j _ hj) (hc.part _ _) (fun hz=>hO (hOs j _ hz)) hok.2 hs hl;have hg:∀z,(fs.set j z).getD j (.hole 0)=z:=fun z=>(by rw[zd,Zj hlt];rfl);simp only[V.setKid,V.kid,locM,V.at,hg];rw[V.offs_set j hj hsz];exact ih
  |box e c b1 cur cs' Oc O hb hcs hOb hOs hr=>
   have hh:=hc 0 _ rfl;simp only[yk]at hh;have hh':=hin rfl;rw[hh]at hh';simp only[locM]at hl;rw[hh]at hl;dsimp only at hl
   have hcells:qK w b1 0 cs':=by
    intro j v hj;subst hcs;simp at hj;simp[World.cell?,hb,hj]
   have ih:=zgD hU q c b1 0 cs' Oc hr hcells (fun hz=>(hOs _ hz).2 rfl) hok.2 hs hl;simp only[V.setKid,V.kid,locM,hh',hh,V.at];exact ih
theorem V.okp_pre:∀(q:List Nat) {x:V} {p:List Nat},x.okp (q++p)->x.okp q
 |[],_,_,_=>trivial
 |_::q,_,_,h=>⟨h.1,V.okp_pre q h.2⟩
theorem zB7{y:V}{i:Nat}{p:List Nat}{b o:Nat}(hU:∀k,k≠b->w'.heap[k]? =w.heap[k]?){q:List Nat}{x:V}{cs:List Value}{O:Nat->Prop}{v h':Value}(h:Rep cz w F x cs O)(hv:x.reg cs v)
 (hok:x.okp (q++i::p)) (hs:y.size=(x.at (q++i::p)).size) (hl:locV cz w (q++i::p) x v=some (b,o)) (he:hdrV cz w' q (x.upd (q++i::p) y) v=some h'):hdrV cz w q x v=some h':=by
 cases q with
 |nil=>exact he
 |cons j q=>
  have hnt:=Kr hok (by simp)
  have e1:∀(w:World) (x:V),(∀fs,x≠.tup fs)->hdrV cz w (j::q) x v=if(x.at (j::q)).isH then(locV cz w (j::q) x v).bind fun a=>w.cell? ⟨a.1,a.2,none⟩else none:=by
   intro w x hx
   cases q with
   |nil=>cases x<;>first|rfl|exact absurd rfl (hx _)
   |cons j p=>rfl
  rw[e1 _ _ (V.upd_not_tup hok (by simp))]at he;rw[e1 _ _ hnt]
  have key:locV cz w' (j::q) (x.upd (j::q++i::p) y) v=locV cz w (j::q) x v/\
   (((x.upd (j::q++i::p) y).at (j::q)).isH=true->(x.at (j::q)).isH=true/\∀b1 o1,locV cz w (j::q) x v=some (b1,o1)->w'.cell? ⟨b1,o1,none⟩=w.cell? ⟨b1,o1,none⟩):=by
   simp only[yf]at hok hs hl ⊢;simp only[V.upd]
   cases h with
   |int=>exact hok.1.elim
   |bool=>exact hok.1.elim
   |str=>exact hok.1.elim
   |hole=>exact hok.1.elim
   |fz0=>have:=hok.1;simp[V.hasKid]at this
   |fz=>have:=hok.1;simp[V.hasKid]at this
   |own0=>have:=hok.1;simp[V.hasKid]at this
   |tup=>exact hok.1.elim
   |fb=>exact hok.1.elim
   |fn=>exact hok.1.elim
   |agg fs=>simp[locV]at hl
   |own e d es b1 len cap cur cs' Os O hb1 hsz hl' hcap hm hOb hOs hdis hcs hr hd9=>
    have hlt:j<es.length:=hok.1.2;have hv':v=.slice (some ⟨b1,0,none⟩) len cap:=hv;subst hv';simp only[locV]at hl;have ih:=zgD hU q (es.getD j d) b1 (j*cz e) (cs' j) (Os j) (hr j _ (yH d hlt)) (hcs j hlt).2 (fun hz=>(hOs j _ hz).2 rfl) hok.2 hs hl;have hg:∀z,(es.set j z).getD j d=z:=fun z=>(by rw[zd,Zj hlt];rfl);simp only[V.setKid,V.kid,locV,V.at,hg];exact ih
   |box e c b1 cur cs' Oc O hb hcs hOb hOs hr=>
    have hv':v=.pointer (some ⟨b1,0,none⟩):=hv;subst hv';simp only[locV]at hl
    have hcells:qK w b1 0 cs':=by
     intro j v hj;subst hcs;simp at hj;simp[World.cell?,hb,hj]
    have ih:=zgD hU q c b1 0 cs' Oc hr hcells (fun hz=>(hOs _ hz).2 rfl) hok.2 hs hl;simp only[V.setKid,V.kid,locV,V.at];exact ih
  split at he
  ·rename_i hH;obtain⟨k1,k2⟩:=key.2 hH;rw[if_pos k1];rw[key.1]at he
   cases hloc:locV cz w (j::q) x v with
   |none=>rw[hloc]at he;cases he
   |some bo=>
    obtain⟨b1,o1⟩:=bo;rw[hloc]at he;simp only[jd]at he ⊢;rw[<-k2 b1 o1 hloc];exact he
  ·cases he
end
def zh8:List Nat->List Nat->Bool
 |[],_::_=>true
 |i::q,j::p=>decide (i=j)&&zh8 q p
 |_,[]=>false
theorem zsP:∀{q p:List Nat},zh8 q p=true->∃i r,p=q++i::r
 |[],j::p,_=>⟨j,p,rfl⟩
 |i::q,j::p,h=>by
  simp only[zh8,zh,decide_eq_true_eq]at h;obtain⟨i',r,e⟩:=zsP h.2;exact⟨i',r,by rw[e,h.1];rfl⟩
 |[],[],h=>by cases h
 |_::_,[],h=>by cases h
def A.keep(s v:Nat)(p:List Nat):A->A
 | .rf s' v' q=>if s'=s/\v'=v/\zh8 q p=true then .rf s (v+1) q else .rf s' v' q
 |a=>a
theorem A.keep_val{s v:Nat}{p:List Nat}{a:A}{x:V}:a.keep s v p=.val x↔a=.val x:=by
 cases a with
 |rf s' v' q=>simp only[A.keep];split<;>simp
 |_=>exact Iff.rfl
def Env.bmk(D:Env)(s:Nat)(x:V)(p:List Nat):Env:=fun t=>if t=s then(D.bmp s x) s else⟨(D t).g,(D t).u,(D t).ver,(D t).a.keep s (D s).ver p⟩
theorem Env.own_bmk{D:Env}{s:Nat}{x:V}{p:List Nat}(s' ver:Nat):(D.bmk s x p).own s' ver=(D.bmp s x).own s' ver:=by
 apply Option.ext;intro z;rw[Env.own_iff',Env.own_iff'];by_cases h:s'=s
 ·subst h;simp[Env.bmk,Env.bmp]
 ·simp only[Env.bmk,Env.bmp,if_neg h,A.keep_val]
section
variable {C:Ctx}{F F2:Nat->Prop}{O O2:Nat->Nat->Prop}{Z Z2:Nat->Prop}{D D':Env}{a:Act}{w w':World}
theorem Inv.keep(h:Inv C F O Z D a w){s ver:Nat}{r y:V}{p:List Nat}{b o:Nat}(hr:D.own s ver=some r)(hm:r.okm p)(hsz:y.size=(r.at p).size)(hloc:locV C.cz w p r (a.tmps.getD s undef)=some (b,o))
 (hU:∀k,k≠b->w'.heap[k]? =w.heap[k]?) (h2:Inv C F2 O2 Z2 (D.bmp s (r.upd p y)) a w'):Inv C F2 O2 Z2 (D.bmk s (r.upd p y) p) a w':=by
 obtain⟨hp,hna,hok⟩:=V.okm_okp hm;obtain⟨hg,hver,ha⟩:=Env.own_elim hr;obtain⟨_,e2,_⟩:=h.slot s hg;obtain⟨cs,hreg,hrep⟩:=e2 r ha
 have hpr:∀s' v',za6 C.cz w' w' (D.bmp s (r.upd p y)) (D.bmk s (r.upd p y) p) a.tmps a.tmps s' v':=fun s' v' x hx=>by
  rw[Env.own_bmk]at hx;exact⟨x,hx,fun _ _ h1 h2=>⟨h1,h2⟩,fun _ _ h1 h2=>⟨h1,h2⟩⟩
 have hverE:∀t,((D.bmk s (r.upd p y) p) t).ver=((D.bmp s (r.upd p y)) t).ver/\((D.bmk s (r.upd p y) p) t).g=((D.bmp s (r.upd p y)) t).g/\((D.bmk s (r.upd p y) p) t).u=((D.bmp s (r.upd p y)) t).u:=fun t=>by
  by_cases hts:t=s
  ·subst hts;simp[Env.bmk]
  ·simp[Env.bmk,Env.bmp,hts]
 refine⟨fun t hgt=>?_,h2.oo,h2.of,h2.oz,h2.zf,h2.olt,h2.zlt,h2.flt,h2.ofr,h2.zfr,h2.f0,h2.ffr,h2.old,h2.size,h2.os,h2.tape,h2.output,h2.defers,fun t s' v' hre=>?_,fun t hgt hut=>?_,h2.ts,h2.kp,h2.hx⟩
 ·rw[(hverE t).2.1]at hgt;obtain⟨k1,k2,k3⟩:=h2.slot t hgt;by_cases hts:t=s
  ·subst hts;have he:(D.bmk t (r.upd p y) p) t=(D.bmp t (r.upd p y)) t:=(by simp[Env.bmk]);rw[he];exact⟨k1,k2,fun hn=>absurd (by simp[Env.bmp]) (hn (r.upd p y))⟩
  ·have hea:((D.bmk s (r.upd p y) p) t).a=(D t).a.keep s (D s).ver p:=(by simp[Env.bmk,hts]);have heb:((D.bmp s (r.upd p y)) t)=D t:=(by simp[Env.bmp,hts]);rw[heb]at k2 k3 hgt;rw[hea];refine⟨k1,fun x hx=>k2 x (A.keep_val.1 hx),fun hn=>?_⟩;have hn':∀x,(D t).a≠.val x:=fun x hx=>hn x (A.keep_val.2 hx);have hH:=(k3 hn').pres (fun s' v' _=>hpr s' v') (fun _ h=>h) (fun _ _=>rfl);have hold:=(h.slot t hgt).2.2 hn'
   cases hA:(D t).a with
   |rf s' v' q=>
    rw[hA]at hH hold;by_cases hc:s'=s/\v'=(D s).ver/\zh8 q p=true
    ·rw[A.keep,if_pos hc];obtain⟨rfl,rfl,hq⟩:=hc;obtain⟨i,p',rfl⟩:=zsP hq;intro x hh hx hokx hhd;rw[Env.own_bmk,Env.own_iff']at hx;obtain⟨_,_,hx,_⟩:=hx;have:x=r.upd (q++i::p') y:=(by simpa [Env.bmp]using hx.symm);subst this;refine hold r hh (by rw[hver];exact hr) (V.okv_of_okp (V.okp_pre q hok)) ?_;exact zB7 hU hrep hreg hok hsz hloc hhd
    ·rw[A.keep,if_neg hc];exact hH
   |val x=>exact absurd hA (hn' x)
   |ad s' v' q=>rw[hA]at hH;exact hH
   |fz x=>rw[hA]at hH;exact hH
   |ag s' v' q fs=>rw[hA]at hH;exact hH
 ·rw[(hverE s').1];by_cases hts:t=s
  ·subst hts;simp[Env.bmk,Env.bmp,A.refs]at hre
  ·have hea:((D.bmk s (r.upd p y) p) t).a=(D t).a.keep s (D s).ver p:=(by simp[Env.bmk,hts]);have heb:((D.bmp s (r.upd p y)) t)=D t:=(by simp[Env.bmp,hts]);rw[hea]at hre;have hw:=h2.wf t;rw[heb]at hw
   cases hA:(D t).a with
   |rf s1 v1 q=>
    rw[hA]at hre hw;simp only[A.keep]at hre;split at hre
    ·simp only[A.refs,za,zb]at hre;obtain⟨rfl,rfl⟩:=hre;simp[Env.bmp]
    ·exact hw s' v' hre
   |val x=>rw[hA]at hre;cases hre
   |ad s1 v1 q=>rw[hA]at hre hw;exact hw s' v' hre
   |fz x=>rw[hA]at hre;cases hre
   |ag s1 v1 q fs=>rw[hA]at hre hw;exact hw s' v' hre
 ·rw[(hverE t).2.1]at hgt;rw[(hverE t).2.2]at hut;exact h2.und t hgt hut
def zhD(C:Ctx)(D:Env)(o:Oper):Option (Prop×Env):=
 match o.guard with
 |some _=>none
 |none=>
 match o.op,o.dst with
 | .store t x v,none=>
   match opd C.P D t v with
   |some (gv,Av)=>match ju D Av with
    |some (q,y,D1)=>match opd C.P D1 0 x with
     |some (gx,.ad s ver p)=>match D1.own s ver with
      |some r=>if Zg C.P t y&&(r.at p).size==y.size&&y.solid&&decide (0<y.size)&& !((r.at p).isScalar&&y.isScalar)then
       some (gv=true/\q/\gx=true/\r.okm p/\C.st=false,D1.bmk s (r.upd p y) p)else none
      |none=>none
     |_=>none
    |none=>none
   |none=>none
 |_,_=>none
theorem zvD(hI:Inv C F O (fun _=>False) D a w){o:Oper}{p:Prop}(h:zhD C D o=some (p,D'))(hp:p){Q:Exit->Act->World->Prop}:o.guard=none/\o.wp C.P a w (G C D') Q:=by
 unfold zhD at h;split at h
 ·cases h
 rename_i hg;refine⟨hg,?_⟩;split at h
 ·rename_i t x v hop hd;split at h
  ·rename_i gv Av hAv;split at h
   ·rename_i q y D1 ht;split at h
    ·rename_i gx s ver pth hx;split at h
     ·rename_i r hr;split at h
      ·rename_i hc;simp only[zh,beq_iff_eq,yK]at hc;obtain⟨⟨⟨⟨c1,c2⟩,c3⟩,c4⟩,c5⟩:=hc;simp only[za,zb]at h;obtain⟨rfl,rfl⟩:=h;obtain⟨p1,p2,p3,p4,pst⟩:=hp;obtain⟨cs,On,e1,e2⟩:=ZD hI (zX hI hAv p1).1 ht p2;obtain⟨O1,hI1⟩:=e2.inv;obtain⟨b,o',cy,Oy,g1,g2,g3,g4,g5,g6⟩:=zkq hI1 (zX hI1 hx p3).1 hr p4;refine Oper.wp_mono (fun a' w' hh=>?_) (zmJ (Q:=Q) hI1 hop hd e2.rep e1 (fun z hz=>.inr hz) hr p4 g2 g1 c1 c2 c3 (by have:=c4;simp at this;omega) (fun hh=>by rw[pst]at hh;cases hh));obtain⟨rfl,hU,F2,O2,hI2⟩:=hh;rw[c5,if_neg (by simp)]at hI2;exact⟨F2,O2,hI1.keep hr p4 c2.symm g1 hU hI2⟩
      ·cases h
     ·cases h
    ·cases h
   ·cases h
  ·cases h
 ·cases h
end
section
variable {C:Ctx}{F:Nat->Prop}{O:Nat->Nat->Prop}{Z:Nat->Prop}{D D':Env}{a:Act}{w w':World}
def zx3(_:Ctx)(_:Env)(_:Oper):Option (Prop×Env):=none
theorem zvr(hI:Inv C F O (fun _=>False) D a w){o:Oper}{p:Prop}(h:zx3 C D o=some (p,D'))(hp:p){Q:Exit->Act->World->Prop}:o.guard=none/\o.wp C.P a w (G C D') Q:=by cases h
def zuA(_:Ctx)(_:Env)(_ _:Oper):Option (Prop×Env):=none
theorem zuz(hI:Inv C F O (fun _=>False) D a w){o o2:Oper}{p:Prop}(h:zuA C D o o2=some (p,D'))(hp:p){ops:Array Oper}{k:Nat}(hi:ops[k]? =some o)(hi2:ops[k+1]? =some o2){Q:Exit->Act->World->Prop}:
 wpOp C.P ops Q k (wpOp C.P ops Q (k+1) (G C D')) a w:=by cases h
end
end Go.Ax
